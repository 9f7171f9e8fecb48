/- Crl: the program's Read. -/
import Derived.Test.YtiakcehhegippaaCis
import Derived.Test.YtiakcehhegippaaCck
import Derived.Test.YtiakcehhegippaaStF
namespace Go.Fx
open Go.RowKit Go.Proofs Go.Proofs.Ytiakcehhegippaa
/-- What Read's loop leaves: the instructions, and the error. -/
def rlF (out : List Ins) (b : List Nat) : List Ins × Nat :=
  if _h : 0 < b.length then
    if out.length = 256 then (out, 5)
    else if _h2 : (rdS b).2.1 = 0 then rlF (out ++ [(rdS b).1]) (b.drop (rdS b).2.2) else (out, (rdS b).2.1)
  else (out, 0)
termination_by b.length
decreasing_by
  have := rdS_n _h2 _h
  rw [List.length_drop]
  omega
theorem rlF_nil {out : List Ins} {b : List Nat} (h : b.length = 0) : rlF out b = (out, 0) := by
  rw [rlF, dif_neg (by omega)]
theorem rlF_many {out : List Ins} {b : List Nat} (h : 0 < b.length) (h1 : out.length = 256) : rlF out b = (out, 5) := by
  rw [rlF, dif_pos h, if_pos h1]
theorem rlF_bad {out : List Ins} {b : List Nat} (h : 0 < b.length) (h1 : out.length ≠ 256) (h2 : (rdS b).2.1 ≠ 0) : rlF out b = (out, (rdS b).2.1) := by
  rw [rlF, dif_pos h, if_neg h1, dif_neg h2]
theorem rlF_step {out : List Ins} {b : List Nat} (h : 0 < b.length) (h1 : out.length ≠ 256) (h2 : (rdS b).2.1 = 0) : rlF out b = rlF (out ++ [(rdS b).1]) (b.drop (rdS b).2.2) := by
  conv => lhs; rw [rlF, dif_pos h, if_neg h1, dif_pos h2]
def readF (b : List Nat) : List Ins × Int × Nat :=
  if (rlF [] b).2 = 0 then (if (checkF (rlF [] b).1).2 = 0 then ((rlF [] b).1, -1, 0) else ([], (checkF (rlF [] b).1).1, (checkF (rlF [] b).1).2)) else ([], ((rlF [] b).1.length : Int), (rlF [] b).2)
end Go.Fx
namespace Go.Proofs.Ytiakcehhegippaa
open Go.RowKit Go.Fx
attribute [local go_sem] Oper.semAt_some
/-- What holds between two rounds of Read's loop. -/
structure PrJ (w : World) (b : List Nat) (R : Obj) (o : Nat) (W : World) : Prop where
  out : ∃ A' n' c' pre, Blk W w.heap.size 25 #[.slice A' n' c'] ∧ RoomS 5 W A' n' c' (List.flatMap insC pre) ∧ (∀ k, foot A' c' k → w.heap.size + 5 ≤ k) ∧ pre.length ≤ 256 ∧ rlF [] b = rlF pre (b.drop o)
  bad : Blk W (w.heap.size + 1) 26 #[.int .i64 0]
  defd : W.heap[w.heap.size + 3]? = some (.deferred (some []))
  loop : W.heap[w.heap.size + 4]? = some R
  ext : Ext w W
  size : w.heap.size + 5 ≤ W.heap.size
/-- What holds when the loop was left. -/
structure PrX (w : World) (b : List Nat) (R : Obj) (W : World) : Prop where
  out : ∃ A' n' c' pre er, Blk W w.heap.size 25 #[.slice A' n' c'] ∧ pre.length = n' ∧ Blk W (w.heap.size + 1) 26 #[.int .i64 ((er : Nat) : Int)] ∧ er ≠ 0 ∧ rlF [] b = (pre, er)
  defd : W.heap[w.heap.size + 3]? = some (.deferred (some []))
  loop : W.heap[w.heap.size + 4]? = some R
  ext : Ext w W
  size : w.heap.size + 5 ≤ W.heap.size
section
variable {w : World} {b : List Nat} {R : Obj} {o : Nat} {W W' : World}
theorem PrJ.chg {T : Nat → Prop} (h : PrJ w b R o W) (ch : Chg T W W') (hT : ∀ k, T k → k = w.heap.size + 2) : PrJ w b R o W' := by
  obtain ⟨A', n', c', pre, h1, h2, h3, h4, h5⟩ := h.out
  have hz := h.size
  exact ⟨⟨A', n', c', pre, h1.chg ch (fun ht => by have := hT _ ht; omega), h2.chg ch (fun k hk ht => by have := h3 k hk; have := hT _ ht; omega), h3, h4, h5⟩, h.bad.chg ch (fun ht => by have := hT _ ht; omega),
    (ch.block _ (by omega) (fun ht => by have := hT _ ht; omega)).trans h.defd, (ch.block _ (by omega) (fun ht => by have := hT _ ht; omega)).trans h.loop,
    h.ext.trans (ch.below h.ext.size (fun k hk ht => by have := hT _ ht; omega)), Nat.le_trans hz ch.size⟩
theorem PrJ.put (h : PrJ w b R o W) (R' : Obj) : PrJ w b R' o (W.putObj (w.heap.size + 4) R') := by
  obtain ⟨A', n', c', pre, h1, h2, h3, h4, h5⟩ := h.out
  have hz := h.size
  have ch := chg_put W (w.heap.size + 4) R'
  exact ⟨⟨A', n', c', pre, h1.chg ch (by omega), h2.chg ch (fun k hk ht => by have := h3 k hk; omega), h3, h4, h5⟩, h.bad.chg ch (by omega),
    heap_put h.defd (by omega), World.putObj_heap_same (by omega), h.ext.trans (ch.below h.ext.size (fun k hk ht => by omega)), by simpa using hz⟩
end
theorem PrX.put {w : World} {b : List Nat} {R : Obj} {W : World} (h : PrX w b R W) (R' : Obj) : PrX w b R' (W.putObj (w.heap.size + 4) R') := by
  obtain ⟨A', n', c', pre, er, h1, h2, h3, h4, h5⟩ := h.out
  have hz := h.size
  have ch := chg_put W (w.heap.size + 4) R'
  exact ⟨⟨A', n', c', pre, er, h1.chg ch (by omega), h2, h3.chg ch (by omega), h4, h5⟩, heap_put h.defd (by omega), World.putObj_heap_same (by omega), h.ext.trans (ch.below h.ext.size (fun k hk ht => by omega)), by simpa using hz⟩
theorem PrJ.leave {w : World} {b : List Nat} {R : Obj} {o : Nat} {W : World} {A' : Option Addr} {n' c' er : Nat} {pre : List Ins} (h : PrJ w b R o W) (ho : Blk W w.heap.size 25 #[.slice A' n' c']) (hn : pre.length = n') (he : er ≠ 0) (hr : rlF [] b = (pre, er)) : PrX w b R (W.setCell ⟨w.heap.size + 1, 0, none⟩ (.int .i64 (er : Int))) := by
  have hz := h.size
  have ch := Chg.set W (w.heap.size + 1) 0 (.int .i64 (er : Int)) (T := fun k => k = w.heap.size + 1) rfl
  exact ⟨⟨A', n', c', pre, er, ho.chg ch (by omega), hn, h.bad.set0 _, he, hr⟩, (ch.block _ (by omega) (by omega)).trans h.defd, (ch.block _ (by omega) (by omega)).trans h.loop, h.ext.trans (ch.below h.ext.size (fun k hk ht => by omega)), by rw [setCell_size]; exact hz⟩
theorem PrJ.push {w : World} {b : List Nat} {R : Obj} {o : Nat} {W w1 w2 : World} {Al A2 : Option Addr} {nl cl c2 : Nat} {pre : List Ins} (h : PrJ w b R o W) (hout : Blk W w.heap.size 25 #[.slice Al nl cl]) (hft : ∀ k, foot Al cl k → w.heap.size + 5 ≤ k) (hl : pre.length < 256) (hpre : rlF [] b = rlF pre (b.drop o)) (hne : 0 < (b.drop o).length) (he : (rdS (b.drop o)).2.1 = 0) (e1 : Ext W w1)
    (r : RoomS 5 w2 A2 (nl + 1) c2 (List.flatMap insC pre ++ List.flatMap insC [(rdS (b.drop o)).1])) (ch : Chg (foot Al cl) w1 w2) (ft : ∀ k, foot A2 c2 k → foot Al cl k ∨ w1.heap.size ≤ k) :
    PrJ w b R (o + (rdS (b.drop o)).2.2) (w2.setCell ⟨w.heap.size, 0, none⟩ (.slice A2 (nl + 1) c2)) ∧
      (∀ v, Blk W (w.heap.size + 2) 22 #[v] → Blk (w2.setCell ⟨w.heap.size, 0, none⟩ (.slice A2 (nl + 1) c2)) (w.heap.size + 2) 22 #[v]) := by
  have hz := h.size
  have hz1 := e1.size
  have c0 : Chg (foot Al cl) W w2 := (Chg.ofExt e1).t ch
  have s1 : Chg (fun k => k = w.heap.size) w2 (w2.setCell ⟨w.heap.size, 0, none⟩ (.slice A2 (nl + 1) c2)) := Chg.set w2 w.heap.size 0 _ rfl
  have cc : Chg (fun k => foot Al cl k ∨ k = w.heap.size) W (w2.setCell ⟨w.heap.size, 0, none⟩ (.slice A2 (nl + 1) c2)) := (c0.mono (fun k _ hk => .inl hk)).t (s1.mono (fun k _ hk => .inr hk))
  have keep : ∀ k, w.heap.size + 1 ≤ k → k < w.heap.size + 5 → ¬ (foot Al cl k ∨ k = w.heap.size) := fun k h1 h2 h3 => h3.elim (fun h4 => by have := hft _ h4; omega) (fun h4 => by omega)
  have ftn : ∀ k, foot A2 c2 k → w.heap.size + 5 ≤ k := fun k hk => (ft k hk).elim (hft k) (fun h1 => by omega)
  refine ⟨⟨⟨A2, nl + 1, c2, pre ++ [(rdS (b.drop o)).1], (hout.chg c0 (fun hf => by have := hft _ hf; omega)).set0 _, ?_, ftn, by rw [List.length_append, List.length_singleton]; omega, ?_⟩, h.bad.chg cc (keep _ (by omega) (by omega)), (cc.block _ (by omega) (keep _ (by omega) (by omega))).trans h.defd, (cc.block _ (by omega) (keep _ (by omega) (by omega))).trans h.loop,
    h.ext.trans (cc.below h.ext.size (fun k hk ht => ht.elim (fun h4 => by have := hft _ h4; omega) (fun h4 => by omega))), Nat.le_trans hz cc.size⟩, fun v hb => hb.chg cc (keep _ (by omega) (by omega))⟩
  · rw [List.flatMap_append]
    exact r.chg s1 (fun k hk e => by have := ftn k hk; omega)
  · rw [hpre, rlF_step hne (by omega) he, List.drop_drop]
theorem ul_ins : Try.prog.underlying 25 = some (.slice 38) := by kernel_rfl
theorem info_ins : (Try.prog.info? 38).map (fun i => (i.zero, i.size, i.bytes)) = some (some (.agg #[.int .u8 0, .int .u8 0, .int .u8 0, .int .u8 0, .int .i64 0]), 5, 16) := by kernel_rfl
theorem rdS_one (w : World) (q : Ins) : RdS 5 insC (w.alloc (.cells #[.int .u8 (q.op : Int), .int .u8 (q.a : Int), .int .u8 (q.b : Int), .int .u8 (q.c : Int), .int .i64 q.n] 38)) (some ⟨w.heap.size, 0, none⟩) 1 [q] := by
  have hb := Blk.new w 38 (insC q).toArray
  refine ⟨rfl, fun _ => ⟨_, 0, rfl, hb.lt, fun i x hx j u hu => ?_⟩⟩
  have hi := (List.getElem?_eq_some_iff.1 hx).1
  obtain rfl : i = 0 := by simp at hi; exact hi
  simp at hx
  subst hx
  rw [Nat.zero_mul, Nat.zero_add]
  exact (hb.cell j).trans (by rw [List.getElem?_toArray]; exact hu)
/-- What Read leaves. -/
def ReadP (b : List Nat) (w : World) (e : Ending) (w' : World) : Prop :=
  ∃ A n c, e = .returned (.tuple #[.slice A n c, .int .i64 (readF b).2.1, .int .i64 ((readF b).2.2 : Int)]) ∧ RoomS 5 w' A n c (List.flatMap insC (readF b).1) ∧ (∀ k, foot A c k → w.heap.size ≤ k) ∧ Ext w w'
set_option maxRecDepth 100000 in
set_option maxHeartbeats 2000000 in
theorem read_all (A : Option Addr) (n c : Nat) (b : List Nat) (w : World) (h : Rd u8v w A n b) (hb : ∀ x ∈ b, x < 256) (hc : n ≤ c) (hn : n ≤ 1000000000) :
    Calls Try.prog 13 #[.slice A n c] w (ReadP b w) := by
  refine calls_of_wp_marks Try.func13 rfl ?_
  simp only [Try.ntmps13, List.size_toArray, List.length_cons, List.length_nil, Nat.reduceAdd, Nat.reduceSub, Array.replicate_succ, Array.replicate_zero, List.push_toArray, List.append_toArray, List.nil_append, List.cons_append]
  go_wp2_with fail
  go_step3
  go_wp2_with fail
  go_step3
  go_wp2_with (go_at_call 32; refine (instrs_ A n c _).mono ?_; rintro e w1 ⟨rfl, rfl⟩)
  have hbl : Ext w (((w.alloc (.cells #[.slice none 0 0] 25)).alloc (.cells #[.int .i64 0] 26)).alloc (.cells #[.slice A n c] 22)) := ((Ext.alloc w _).t (Ext.alloc _ _)).t (Ext.alloc _ _)
  have b0 := ((Blk.new w 25 #[.slice none 0 0]).alloc (.cells #[.int .i64 0] 26)).alloc (.cells #[.slice A n c] 22)
  have b1 := (Blk.new (w.alloc (.cells #[.slice none 0 0] 25)) 26 #[.int .i64 0]).alloc (.cells #[.slice A n c] 22)
  have b2 := Blk.new ((w.alloc (.cells #[.slice none 0 0] 25)).alloc (.cells #[.int .i64 0] 26)) 22 #[.slice A n c]
  simp only [World.size_alloc] at b0 b1 b2
  generalize hW : (((w.alloc (.cells #[.slice none 0 0] 25)).alloc (.cells #[.int .i64 0] 26)).alloc (.cells #[.slice A n c] 22)) = W0 at *
  have hsz : W0.heap.size = w.heap.size + 3 := by rw [← hW]; simp
  clear hW
  refine wp_range (gf := 51) rfl (enters_of Try.func51 (by kernel_rfl) rfl) (fun fn rec hrec => ?_)
  rw [hsz]
  refine (instrs1 (w.heap.size + 4) (w.heap.size + 2) A n c b w (PrJ w b (rec .ready none)) (PrX w b (rec .done (some (.exit 0)))) hb hc hn (fun o W h => h.ext) (fun o W W' h e => h.chg (T := fun _ => False) (Chg.ofExt e) (fun _ t => t.elim)) (fun o W v h => h.chg (Chg.set W (w.heap.size + 2) 0 v (T := fun k => k = w.heap.size + 2) rfl) (fun _ t => t)) ?hY _ ?h0 ?hbx h).mono ?post
  case hbx => exact (b2.alloc _).alloc _
  case h0 =>
    clear hrec
    refine ⟨⟨none, 0, 0, [], (b0.alloc _).alloc _, RoomS.nil, fun k hk => absurd hk foot_none, by simp, rfl⟩, (b1.alloc _).alloc _, ?_, ?_, (hbl.t (Ext.alloc _ _)).t (Ext.alloc _ _), by simp; omega⟩
    · refine (Below.heap_alloc _ _ _ (by simp; omega)).trans ?_
      have := World.alloc_heap_new W0 (.deferred (some []))
      rwa [hsz] at this
    · have := World.alloc_heap_new (W0.alloc (.deferred (some []))) (rec .ready none)
      rwa [World.size_alloc, hsz] at this
  case hY =>
    intro o W v ho hj hbx
    have hlen : 0 < (b.drop o).length := by rw [List.length_drop, h.1]; omega
    generalize hq : (rdS (b.drop o)).1 = q
    generalize he : (rdS (b.drop o)).2.1 = er
    generalize hk : (rdS (b.drop o)).2.2 = kk
    unfold insV
    refine (yieldAt hrec trivial hj.loop (by rfl) (fun jump W3 => (jump = none ∧ er = 0 ∧ PrJ w b (rec .busy none) (o + kk) W3 ∧ Blk W3 (w.heap.size + 2) 22 #[v]) ∨ (jump = some (.exit 0) ∧ PrX w b (rec .busy none) W3)) ?walk).mono ?yp
    case yp =>
      rintro e W' ⟨jump, W3, (⟨rfl, he0, hB, hB2⟩ | ⟨rfl, hX⟩), hl, rfl, rfl⟩
      · exact .inl ⟨rfl, he0, hB.put _, blk_put hB2 (by omega)⟩
      · exact .inr ⟨rfl, hX.put _⟩
    case walk =>
      clear hrec
      gi_wp2
      have hz := hj.size
      have hja := hj.chg (T := fun _ => False) (Chg.ofExt (Ext.alloc W (.cells (insC q).toArray 38))) (fun _ t => t.elim)
      refine ⟨hja.loop, ?_⟩
      have hk1 := hja.put (rec .busy none)
      have hbi := blk_put (l := w.heap.size + 4) (o := rec .busy none) (Blk.new W 38 (insC q).toArray) (by omega)
      have hbx1 := blk_put (l := w.heap.size + 4) (o := rec .busy none) (hbx.alloc (.cells (insC q).toArray 38)) (by omega)
      clear hj hja hbx
      change Code.wpIn _ _ _ _ _ _ ((W.alloc (.cells (insC q).toArray 38)).putObj (w.heap.size + 4) (rec .busy none))
      generalize (W.alloc (.cells (insC q).toArray 38)).putObj (w.heap.size + 4) (rec .busy none) = W1 at *
      obtain ⟨g, hg⟩ : ∃ g, g = W.heap.size := ⟨_, rfl⟩
      rw [← hg] at hbi ⊢
      obtain ⟨Al, nl, cl, pre, hout, hroom, hft, hpl, hpre⟩ := hk1.out
      have hnl : pre.length = nl := (hroom.rd insC_len (by omega)).1
      obtain ⟨d0, d1, d2, d3, d4⟩ := hbi.ins
      have cb := hout.cell0
      have cbad := hk1.bad.cell0
      have fbad := hk1.bad.frozen 0
      have HK := Lib.hid hk1
      have HOut := Lib.hid hout
      have HRoom := Lib.hid hroom
      have HFt := Lib.hid hft
      have HPre := Lib.hid hpre
      have HBx := Lib.hid hbx1
      have HNl := Lib.hid hnl
      have HQ := Lib.hid hq
      have HE := Lib.hid he
      have HKk := Lib.hid hk
      have HLen := Lib.hid hlen
      have Hpl : Hid (pre.length ≤ 256) := Lib.hid hpl
      have Hh := Lib.hid h
      have Hb := Lib.hid hb
      have hnl2 : nl ≤ 256 := by omega
      clear hk1 hbi hbx1 hout hroom hft hpl hpre hnl hq he hk hlen h hb hg hz hbl b0 b1 b2 hsz
      by_cases h256 : nl = 256
      · subst h256
        gi_wp2
        have hx := HK.out.leave (er := 5) HOut.out HNl.out (by omega) (by rw [HPre.out]; exact rlF_many HLen.out HNl.out)
        exact ⟨hx.loop, .inr ⟨rfl, hx⟩⟩
      · have hne : ((nl : Int) == 256) = false := by simp; omega
        by_cases he0 : er = 0
        · have HE0 := Lib.hid he0
          subst he0
          have hpush := fun A2 c2 w1 w2 (e1 : Ext W1 w1) r ch ft => HK.out.push (A2 := A2) (c2 := c2) (w2 := w2) HOut.out HFt.out (by have := HNl.out; omega) HPre.out HLen.out HE.out e1 r ch ft
          rw [HQ.out, HKk.out] at hpush
          have HPush := Lib.hid hpush
          have HNA : Hid (¬ foot Al cl w.heap.size) := Lib.hid (fun hf => by have := HFt.out _ hf; omega)
          clear hpush
          gi_wp2_with (gi_at_builtin; refine wpListIn_append_atS _ rfl rfl ul_ins info_ins rfl rfl (HRoom.out.ext (Ext.alloc _ _)) rfl (Src.ofRdS ul_ins insC_len (rdS_one _ _) insC_one) (by simp only [maxLen]; omega) (by omega) ?_; intro A2 c2 w2 r2 ch2 ft2; have b2 := (HOut.out.alloc (.cells #[.int .u8 (q.op : Int), .int .u8 (q.a : Int), .int .u8 (q.b : Int), .int .u8 (q.c : Int), .int .i64 q.n] 38)).chg ch2 HNA.out; have cb2 := b2.cell0; have fb2 := b2.frozen 0)
          have hp := HPush.out A2 c2 _ _ (Ext.alloc W1 _) r2 ch2 ft2
          exact ⟨hp.1.loop, .inl (by first | exact ⟨rfl, rfl, hp.1, hp.2 _ HBx.out⟩ | exact ⟨rfl, hp.1, hp.2 _ HBx.out⟩)⟩
        · have hq2 : ((er : Int) != 0) = true := by simp; exact he0
          have hx := Lib.hid (HK.out.leave (er := er) HOut.out HNl.out he0 (by rw [HPre.out, rlF_bad HLen.out (by rw [HNl.out]; exact h256) (by rw [HE.out]; exact he0), HE.out]))
          clear he0
          gi_wp2
          exact ⟨hx.out.loop, .inr ⟨rfl, hx.out⟩⟩
  case post =>
    clear hrec
    rintro e W2 ⟨⟨v, rfl⟩, hj | hx⟩
    · refine ⟨⟨_, rfl⟩, .ready, none, by simp, hj.loop, ?_⟩
      have hj2 := hj.put (rec .exhausted none)
      clear hj
      generalize W2.putObj (w.heap.size + 4) (rec .exhausted none) = W3 at *
      obtain ⟨Al, nl, cl, pre, hout, hroom, hft, hpl, hpre⟩ := hj2.out
      rw [rlF_nil (out := pre) (b := b.drop n) (by rw [List.length_drop, h.1]; omega)] at hpre
      have co := hout.cell0
      have cbad := hj2.bad.cell0
      have hz := hj2.size
      have HCk := Lib.hid (fun w' (e : Ext W3 w') => check_ Al nl cl pre w' ((hroom.rd insC_len (by omega)).ext e))
      unfold CheckP at HCk
      have HK := Lib.hid hj2
      have HOut := Lib.hid hout
      have HRoom := Lib.hid hroom
      have HFt := Lib.hid hft
      have HPre := Lib.hid hpre
      have Hh := Lib.hid h
      have Hb := Lib.hid hb
      have Hck := Lib.hid (show (checkF pre) = ((checkF pre).1, (checkF pre).2) from rfl)
      clear hj2 hout hroom hft hpl hpre h hb hbl b0 b1 b2 hsz hz
      by_cases hc0 : (checkF pre).2 = 0
      · have Hc0 := Lib.hid hc0
        rw [hc0] at HCk
        generalize (checkF pre).1 = ci at *
        clear hc0
        go_wp2_with fail
        refine (HCk.out _ (Ext.refl _)).mono ?_; rintro e w5 ⟨rfl, e5⟩
        have E5 := Lib.hid e5
        have co5 := (HOut.out.ext e5).cell0
        have hd5 : w5.heap[w.heap.size + 3]? = some (.deferred (some [])) := (e5.block _ (by have := HK.out.size; omega)).trans HK.out.defd
        have Hd5 := Lib.hid hd5
        clear e5 hd5 HCk co
        go_wp2_with fail
        try rw [Exit.noGoto_ret]
        refine leave1 (v := .tuple #[.slice Al nl cl, .int .i64 (-1), .int .i64 0]) rfl Hd5.out ?_ ?_
        · simp [results, Try.results13, go_sem]
        · have ch := chg_put w5 (w.heap.size + 3) (.deferred none)
          have hE : Ext w w5 := HK.out.ext.t E5.out
          have hr : readF b = (pre, -1, 0) := by unfold readF; rw [HPre.out, if_pos rfl, if_pos Hc0.out]
          exact ⟨Al, nl, cl, by rw [hr]; rfl, by rw [hr]; exact (HRoom.out.ext E5.out).chg ch (fun k hk e => by have := HFt.out k hk; omega), fun k hk => by have := HFt.out k hk; omega, hE.trans (ch.below hE.size (fun k hk ht => by omega))⟩
      · have Hc0 := Lib.hid hc0
        have hq : (((checkF pre).2 : Int) != 0) = true := by simp; exact hc0
        generalize hci : (checkF pre).1 = ci at *
        generalize hce : (checkF pre).2 = ce at *
        have Hci := Lib.hid hci
        have Hce := Lib.hid hce
        clear hc0 hci hce
        go_wp2_with fail
        refine (HCk.out _ (Ext.refl _)).mono ?_; rintro e w5 ⟨rfl, e5⟩
        have E5 := Lib.hid e5
        have hd5 : w5.heap[w.heap.size + 3]? = some (.deferred (some [])) := (e5.block _ (by have := HK.out.size; omega)).trans HK.out.defd
        have Hd5 := Lib.hid hd5
        clear e5 hd5 HCk co
        go_wp2_with fail
        try rw [Exit.noGoto_ret]
        refine leave1 (v := .tuple #[.slice none 0 0, .int .i64 ci, .int .i64 (ce : Int)]) rfl Hd5.out ?_ ?_
        · simp [results, Try.results13, go_sem]
        · have ch := chg_put w5 (w.heap.size + 3) (.deferred none)
          have hE : Ext w w5 := HK.out.ext.t E5.out
          have hr : readF b = ([], ci, ce) := by unfold readF; rw [HPre.out, if_pos rfl, Hci.out, Hce.out, if_neg Hc0.out]
          exact ⟨none, 0, 0, by rw [hr], by rw [hr]; exact RoomS.nil, fun k hk => absurd hk foot_none, hE.trans (ch.below hE.size (fun k hk ht => by omega))⟩
    · refine ⟨⟨_, rfl⟩, .done, some (.exit 0), by simp, hx.loop, ?_⟩
      have hx2 := hx.put (rec .exhausted (some (.exit 0)))
      clear hx
      show Code.wp _ _ _ _ (W2.putObj (w.heap.size + 4) (rec .exhausted (some (.exit 0))))
      generalize W2.putObj (w.heap.size + 4) (rec .exhausted (some (.exit 0))) = W3 at *
      obtain ⟨Al, nl, cl, pre, er, hout, hn, hbad, he, hpre⟩ := hx2.out
      have co := hout.cell0
      have cbad := hbad.cell0
      have hq : ((er : Int) != 0) = true := by simp; exact he
      have HK := Lib.hid hx2
      have HPre := Lib.hid hpre
      have Hn := Lib.hid hn
      have He := Lib.hid he
      have Hh := Lib.hid h
      have Hb := Lib.hid hb
      clear hx2 hout hn hbad he hpre h hb hbl b0 b1 b2 hsz
      go_upto_region 12 with fail
      go_quiet (fail)
      go_wp2
      try rw [Exit.noGoto_ret]
      refine leave1 (v := .tuple #[.slice none 0 0, .int .i64 (nl : Int), .int .i64 (er : Int)]) rfl HK.out.defd ?_ ?_
      · simp [results, Try.results13, go_sem]
      · have hf := fun q => (show ReadP b w (.returned (.tuple #[.slice none 0 0, .int .i64 (nl : Int), .int .i64 (er : Int)])) ((W3.drewN q).putObj (w.heap.size + 3) (.deferred none)) from by
          have ch := chg_put (W3.drewN q) (w.heap.size + 3) (.deferred none)
          have hE : Ext w (W3.drewN q) := HK.out.ext.t (Ext.drewN _ _)
          have hr : readF b = ([], (nl : Int), er) := by unfold readF; rw [HPre.out, if_neg He.out, Hn.out]
          exact ⟨none, 0, 0, by rw [hr], by rw [hr]; exact RoomS.nil, fun k hk => absurd hk foot_none, hE.trans (ch.below hE.size (fun k hk ht => by omega))⟩)
        exact hf _
end Go.Proofs.Ytiakcehhegippaa
