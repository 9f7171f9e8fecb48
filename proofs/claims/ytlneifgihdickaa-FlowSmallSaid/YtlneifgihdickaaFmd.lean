/- Fmd: the law's Made (chapter 14): programs made of small numbers; they are right. -/
import Derived.Test.YtlneifgihdickaaCck
import Derived.Test.YtlneifgihdickaaFlp
import Derived.Test.YtlneifgihdickaaSts
import Derived.Test.YtlneifgihdickaaStF
import Derived.Test.YtlneifgihdickaaFed
import Derived.Deep.RegionHeld3
import Derived.Deep.RegionHeldLaw
namespace Go.Fx
open Go.RowKit
def U64 (n : Int) : Nat := (n % 18446744073709551616).toNat
theorem U64_wrap (n : Int) : IntKind.u64.wrap n = (U64 n : Int) := by rw [IntKind.wrap_u64]; unfold U64; omega
def ins0 : Ins := ⟨0, 0, 0, 0, 0⟩
theorem sz_pos (op : Nat) : (strOf op).size ≤ nrOf op ↔ tlOf op = 0 := by
  rw [strOf_size]
  split
  · next h => exact ⟨fun _ => h, fun _ => by omega⟩
  · next h => exact ⟨fun h1 => by omega, fun h1 => absurd h1 h⟩
theorem min_sz (op : Nat) : min (strOf op).size (nrOf op) = nrOf op := by rw [strOf_size]; omega
end Go.Fx
namespace Go.Proofs.Ytlneifgihdickaa
open Go.RowKit Go.Fx
abbrev u8v (n : Nat) : Value := .int .u8 (n : Int)
theorem ul_u8 : Try.prog.underlying 42 = some (.slice 5) := Try.underlying42
theorem info_u8 : (Try.prog.info? 5).map (fun i => (i.zero, i.size, i.bytes)) = some (some (.int .u8 0), 1, 1) := by kernel_rfl
theorem ul_ins : Try.prog.underlying 24 = some (.slice 34) := by kernel_rfl
theorem info_ins : (Try.prog.info? 34).map (fun i => (i.zero, i.size, i.bytes)) = some (some (.agg #[.int .u8 0, .int .u8 0, .int .u8 0, .int .u8 0, .int .i64 0]), 5, 16) := by kernel_rfl
def five (w : World) (g : Nat) (q : Ins) : World := ((((w.setCell ⟨g, 0, none⟩ (.int .u8 (q.op : Int))).setCell ⟨g, 1, none⟩ (.int .u8 (q.a : Int))).setCell ⟨g, 2, none⟩ (.int .u8 (q.b : Int))).setCell ⟨g, 3, none⟩ (.int .u8 (q.c : Int))).setCell ⟨g, 4, none⟩ (.int .i64 q.n)
theorem five_ext {a w : World} {g : Nat} (h : Ext a w) (hg : a.heap.size ≤ g) (q : Ins) : Ext a (five w g q) := below_set (below_set (below_set (below_set (below_set h hg _) hg _) hg _) hg _) hg _
structure NewS (w : World) (p : List Ins) (w' : World) (A : Option Addr) (n c : Nat) : Prop where
  room : RoomS 5 w' A n c (p.flatMap insC)
  ext : Ext w w'
  ft : ∀ k, foot A c k → w.heap.size ≤ k
theorem NewS.n_ {w w' : World} {p : List Ins} {A : Option Addr} {n c : Nat} (h : NewS w p w' A n c) : n = p.length := by have := h.room.1; rw [flat_len insC_len] at this; omega
theorem NewS.nil (w : World) : NewS w [] w none 0 0 := ⟨RoomS.nil, Ext.refl _, fun _ hk => absurd hk foot_none⟩
theorem NewS.exte {w w' w2 : World} {p : List Ins} {A : Option Addr} {n c : Nat} (h : NewS w p w' A n c) (e : Ext w' w2) : NewS w p w2 A n c := ⟨h.room.ext e, h.ext.t e, h.ft⟩
theorem NewS.rd {w w' : World} {p : List Ins} {A : Option Addr} {n c : Nat} (h : NewS w p w' A n c) : RdS 5 insC w' A n p := h.room.rd insC_len (by decide)
theorem NewS.more {w w1 w2 w3 : World} {A1 A2 : Option Addr} {n1 c1 n2 c2 : Nat} {p q : List Ins} (h : NewS w p w1 A1 n1 c1) (e : Ext w1 w2) (r : RoomS 5 w3 A2 n2 c2 (p.flatMap insC ++ q.flatMap insC)) (ch : Chg (foot A1 c1) w2 w3) (ft : ∀ k, foot A2 c2 k → foot A1 c1 k ∨ w2.heap.size ≤ k) : NewS w (p ++ q) w3 A2 n2 c2 := by
  have e2 := h.ext.t e
  exact ⟨by rw [List.flatMap_append]; exact r, e2.trans (ch.below e2.size (fun k hk hf => by have := h.ft k hf; omega)), fun k hk => (ft k hk).elim (h.ft k) (fun h1 => by have := e2.size; omega)⟩
theorem take_snocI {p : List Ins} {k : Nat} {i : Ins} (h : p[k]? = some i) : p.take (k + 1) = p.take k ++ [i] := take_snoc h
end Go.Proofs.Ytlneifgihdickaa
namespace Go.Fx
open Go.RowKit Go.Proofs Go.Proofs.Ytlneifgihdickaa
def opTab : List Nat := [3, 3, 3, 3, 3, 4, 5, 5, 5, 6, 6, 6, 7, 8, 8, 9, 10, 10, 10, 11, 11, 1, 2]
def opF (x : Nat) : Nat := if x % 40 < 17 then 33 + x % 40 else (opTab[x % 40 - 17]?).getD 0
theorem opTab_ok : ∀ y ∈ opTab, 1 ≤ y ∧ y ≤ 11 := by decide
theorem opF_ok (x : Nat) : okOp (opF x) = true ∧ opF x < 256 := by
  unfold opF
  split
  · exact ⟨by unfold okOp; simp; omega, by omega⟩
  · have h1 : x % 40 - 17 < opTab.length := by show _ < 23; omega
    rw [List.getElem?_eq_getElem h1]
    have h2 := opTab_ok _ (List.getElem_mem h1)
    show okOp opTab[x % 40 - 17] = true ∧ _
    exact ⟨by unfold okOp; simp; omega, by show opTab[x % 40 - 17] < 256; omega⟩
/-- The last operand of a made instruction, in a program of n. -/
def mdN (tl : Nat) (xn : Int) (n : Nat) : Int := if tl = 110 then xn else if tl = 112 then ((U64 xn % 16 : Nat) : Int) else if tl = 116 then ((U64 xn % n : Nat) : Int) else 0
def mdP (op n : Nat) (x : Ins) (pos : Nat) : Ins := ⟨op, if 0 < min pos (nrOf op) then x.a % 8 else 0, if 1 < min pos (nrOf op) then x.b % 8 else 0, if 2 < min pos (nrOf op) then x.c % 8 else 0, if pos ≤ nrOf op then 0 else mdN (tlOf op) x.n n⟩
def mdI (n : Nat) (x : Ins) : Ins := mdP (opF x.op) n x (strOf (opF x.op)).size
theorem mdP_zero (op n : Nat) (x : Ins) : mdP op n x 0 = ⟨op, 0, 0, 0, 0⟩ := by simp [mdP]
theorem mdP_reg {op n : Nat} {x : Ins} {pos : Nat} (h : pos < nrOf op) : (insC (mdP op n x pos)).toArray.setIfInBounds (pos + 1) (.int .u8 ((rgI x pos % 8 : Nat) : Int)) = (insC (mdP op n x (pos + 1))).toArray := by
  have h3 := nr_tl op
  have e1 : min pos (nrOf op) = pos := by omega
  have e2 : min (pos + 1) (nrOf op) = pos + 1 := by omega
  unfold mdP
  rw [e1, e2, if_pos (show pos ≤ nrOf op by omega), if_pos (show pos + 1 ≤ nrOf op by omega)]
  rcases (by omega : pos = 0 ∨ pos = 1 ∨ pos = 2) with rfl | rfl | rfl <;> simp [insC, rgI]
theorem mdP_tail {op n : Nat} {x : Ins} {pos : Nat} (h : pos = nrOf op) : (insC (mdP op n x pos)).toArray.setIfInBounds 4 (.int .i64 (mdN (tlOf op) x.n n)) = (insC (mdP op n x (pos + 1))).toArray := by
  have e1 : min pos (nrOf op) = nrOf op := by omega
  have e2 : min (pos + 1) (nrOf op) = nrOf op := by omega
  unfold mdP
  rw [e1, e2, if_pos (show pos ≤ nrOf op by omega), if_neg (show ¬ pos + 1 ≤ nrOf op by omega)]
  simp [insC]
theorem wrap64_tmod (u k : Nat) (h0 : 0 < k) (h : k ≤ 1000000) : wrap64 ((u : Int).tmod (k : Int)) = ((u % k : Nat) : Int) := by
  rw [show (u : Int).tmod (k : Int) = ((u % k : Nat) : Int) from rfl]
  have := Nat.mod_lt u h0
  unfold wrap64; omega
theorem mdN_112 (z : Int) (n : Nat) : mdN 112 z n = wrap64 ((IntKind.u64.wrap z).tmod 16) := by
  rw [U64_wrap, show (16 : Int) = ((16 : Nat) : Int) from rfl, wrap64_tmod _ _ (by decide) (by decide)]; rfl
theorem mdN_116 (z : Int) (n : Nat) (h1 : 1 ≤ n) (h2 : n ≤ 1000000) : mdN 116 z n = wrap64 ((IntKind.u64.wrap z).tmod (n : Int)) := by
  rw [U64_wrap, wrap64_tmod _ _ (by omega) h2]; rfl
end Go.Fx
namespace Go.Proofs.Ytlneifgihdickaa
open Go.RowKit Go.Fx
set_option maxHeartbeats 1000000 in
theorem op_ (x : Ins) (w : World) (hx : x.op < 256) : Calls Try.prog 57 #[insV x] w fun e w' => e = .returned (.int .u8 (opF x.op : Int)) ∧ Ext w w' := by
  obtain ⟨k, hk⟩ : ∃ k, k = x.op % 40 := ⟨_, rfl⟩
  have hkI : (x.op : Int) % 40 = (k : Int) := by omega
  have hr : opF x.op = if k < 17 then 33 + k else (opTab[k - 17]?).getD 0 := by unfold opF; rw [hk]
  have Hr := Lib.hid hr
  have hk40 : k < 40 := by omega
  unfold insV
  clear hr hk
  by_cases h : k < 17
  · have hI : (k : Int) < 17 := by omega
    go_enter Try.func57, Try.ntmps57
    go_wp2_with fail
    go_ret
    exact ⟨ret_int (by rw [Hr.out, if_pos h]; omega), Ext.alloc _ _⟩
  · have hI : ¬ (k : Int) < 17 := by omega
    obtain ⟨j, hj⟩ : ∃ j, j = k - 17 := ⟨_, rfl⟩
    have hjI : (k : Int) - 17 = (j : Int) := by omega
    have hj23 : j < 23 := by omega
    rw [if_neg h, ← hj] at Hr
    have hjI2 : (j : Int) < 23 := by omega
    clear hj
    go_enter Try.func57, Try.ntmps57
    go_wp2_with (refine wpl_build (by rfl) rfl ul_u8 info_u8 (opTab.map fun y : Nat => .const (.int .u8 (y : Int))) (by rfl) (by rfl) (by decide) (f := u8v) opTab (by rfl) (fun _ => rfl) ?_)
    intro g w2 b2 e2 lo2 r2; refine Lib.hid ?_
    obtain ⟨b', o', y, h1, _, hy, hc⟩ := r2.at_ (k := j) hj23
    cases h1
    have E2 := Lib.hid ((Ext.alloc w _).t e2)
    have Hy := Lib.hid hy
    rw [Nat.zero_add] at hc
    clear b2 e2 lo2 r2 hy
    go_wp2_with fail
    go_ret
    exact ⟨ret_int (by rw [Hr.out, Hy.out]; rfl), E2.out⟩
/-- What holds between two letters. -/
structure MdJ (w : World) (op n : Nat) (x : Ins) (I Xb Rv Ob Pb pos u : Nat) (wr : World) : Prop where
  it : wr.heap[I]? = some (.stringIter (strOf op) pos)
  ob : Blk wr Ob 34 (insC (mdP op n x pos)).toArray
  xb : Blk wr Xb 62 (insC x).toArray
  rv : Blk wr Rv 34 (insC ins0).toArray
  pb : Blk wr Pb 101 #[.pointer (some ⟨Ob, 1, none⟩), .pointer (some ⟨Ob, 2, none⟩), .pointer (some ⟨Ob, 3, none⟩)]
  ext : Ext w wr
  u_ : u = min pos (nrOf op)
structure MdD (w : World) (I Xb Rv Ob Pb : Nat) : Prop where
  b1 : w.heap.size ≤ Ob
  b2 : w.heap.size ≤ I
  b3 : w.heap.size ≤ Rv
  n1 : Ob ≠ I
  n2 : Xb ≠ I
  n3 : Rv ≠ I
  n4 : Pb ≠ I
  n5 : Xb ≠ Ob
  n6 : Rv ≠ Ob
  n7 : Pb ≠ Ob
section
variable {w : World} {op n : Nat} {x : Ins} {I Xb Rv Ob Pb pos u : Nat} {wr W : World}
/-- A letter was taken; its field is written. -/
theorem MdJ.step (h : MdJ w op n x I Xb Rv Ob Pb pos u wr) (D : MdD w I Xb Rv Ob Pb) (e : Ext (wr.putObj I (.stringIter (strOf op) (pos + 1))) W) {fo u' : Nat} {v : Value} (hs : (insC (mdP op n x pos)).toArray.setIfInBounds fo v = (insC (mdP op n x (pos + 1))).toArray) (hu : u' = min (pos + 1) (nrOf op)) :
    MdJ w op n x I Xb Rv Ob Pb (pos + 1) u' (W.setCell ⟨Ob, fo, none⟩ v) := by
  have hl : I < wr.heap.size := (Array.getElem?_eq_some_iff.1 h.it).1
  have hit : W.heap[I]? = some (.stringIter (strOf op) (pos + 1)) := (e.block _ (by simpa using hl)).trans (World.putObj_heap_same hl)
  have hob := ((blk_put (l := I) (o := .stringIter (strOf op) (pos + 1)) h.ob D.n1).ext e).set_ fo v
  rw [hs] at hob
  exact ⟨(heap_set (fun e => D.n1 e.symm) v).trans hit, hob, ((blk_put h.xb D.n2).ext e).off D.n5 v, ((blk_put h.rv D.n3).ext e).off D.n6 v, ((blk_put h.pb D.n4).ext e).off D.n7 v, below_set ((below_put h.ext D.b2).trans (e.mono (by have := h.ext.size; simp; omega))) D.b1 v, hu⟩
theorem MdJ.exte (h : MdJ w op n x I Xb Rv Ob Pb pos u wr) (e : Ext wr W) : MdJ w op n x I Xb Rv Ob Pb pos u W :=
  ⟨(e.block _ (Array.getElem?_eq_some_iff.1 h.it).1).trans h.it, h.ob.ext e, h.xb.ext e, h.rv.ext e, h.pb.ext e, h.ext.t e, h.u_⟩
theorem MdJ.pos_ (h : MdJ w op n x I Xb Rv Ob Pb pos u wr) : wr.iterPos I = pos := by simp [World.iterPos, h.it]
end
def MdRel (w : World) (op n : Nat) (x : Ins) (I Xb Rv Ob Pb : Nat) (v10 : Value) (wr : World) : Prop := ∃ pos u : Nat, pos ≤ (strOf op).size ∧ u ≤ 3 ∧ v10 = .int .i64 (u : Int) ∧ Hid (MdJ w op n x I Xb Rv Ob Pb pos u wr)
set_option maxRecDepth 100000 in
set_option maxHeartbeats 4000000 in
theorem made_ (x : Ins) (n : Nat) (w : World) (hx : InsOk x) (hn1 : 1 ≤ n) (hn2 : n ≤ 1000000) :
    Calls Try.prog 31 #[insV x, .int .i64 (n : Int)] w fun e w' => e = .returned (insV (mdI n x)) ∧ Ext w w' := by
  obtain ⟨op, hop⟩ : ∃ op, op = opF x.op := ⟨_, rfl⟩
  have HP := Lib.hid (fun w' => op_ x w' hx.op)
  have HF := Lib.hid (fun w' => form_ op w')
  unfold FormP at HF
  rw [show okOp op = true by rw [hop]; exact (opF_ok _).1] at HF
  rw [← hop] at HP
  have Hop := Lib.hid hop
  have Hx := Lib.hid hx
  have HI : Hid (mdI n x = mdP op n x (strOf op).size) := Lib.hid (by unfold mdI; rw [hop])
  clear hx hop
  unfold insV at HP ⊢
  go_enter Try.func31, Try.ntmps31
  go_wp2_with fail
  refine (HP.out _).mono ?_; rintro e w1 ⟨rfl, e1⟩
  have hX := ((Blk.new w 62 (insC x).toArray).alloc (.cells (insC ins0).toArray 34)).ext e1
  have hR := (Blk.new (w.alloc (.cells (insC x).toArray 62)) 34 (insC ins0).toArray).ext e1
  rw [World.size_alloc] at hR
  have HX1 := Lib.hid hX
  have HR1 := Lib.hid hR
  have E1 := Lib.hid (((Ext.alloc w _).t (Ext.alloc _ _)).t e1)
  clear e1 hX hR HP
  go_wp2_with fail
  refine (HF.out _).mono ?_; rintro e w2 ⟨rfl, e2⟩
  have HX2 := Lib.hid (HX1.out.ext e2)
  have HR2 := Lib.hid (HR1.out.ext e2)
  have E2 := Lib.hid (E1.out.t e2)
  clear e2 HX1 HR1 E1 HF
  go_wp2_with fail
  obtain ⟨I, hI⟩ : ∃ I, I = w2.heap.size + 1 + 1 := ⟨_, rfl⟩
  obtain ⟨Pb, hPb⟩ : ∃ Pb, Pb = w2.heap.size + 1 := ⟨_, rfl⟩
  obtain ⟨Ob, hOb⟩ : ∃ Ob, Ob = w2.heap.size := ⟨_, rfl⟩
  obtain ⟨Rv, hRv⟩ : ∃ Rv, Rv = w.heap.size + 1 := ⟨_, rfl⟩
  obtain ⟨Xb, hXb⟩ : ∃ Xb, Xb = w.heap.size := ⟨_, rfl⟩
  have hD : MdD w I Xb Rv Ob Pb := by
    have h1 := E2.out.size
    have h2 := HR2.out.lt
    exact ⟨by omega, by omega, by omega, by omega, by omega, by omega, by omega, by omega, by omega, by omega⟩
  have h00 : MdJ w op n x I Xb Rv Ob Pb 0 0 (((w2.alloc (.cells #[.int .u8 (op : Int), .int .u8 0, .int .u8 0, .int .u8 0, .int .i64 0] 34)).alloc (.cells #[.pointer (some ⟨w2.heap.size, 1, none⟩), .pointer (some ⟨w2.heap.size, 2, none⟩), .pointer (some ⟨w2.heap.size, 3, none⟩)] 101)).iter (strOf op) 0) := by
    refine ⟨?_, ?_, ?_, ?_, ?_, ?_, by simp⟩
    · have := World.iter_heap ((w2.alloc (.cells #[.int .u8 (op : Int), .int .u8 0, .int .u8 0, .int .u8 0, .int .i64 0] 34)).alloc (.cells #[.pointer (some ⟨w2.heap.size, 1, none⟩), .pointer (some ⟨w2.heap.size, 2, none⟩), .pointer (some ⟨w2.heap.size, 3, none⟩)] 101)) (strOf op) 0
      rw [World.size_alloc, World.size_alloc] at this
      rw [hI]; exact this
    · rw [mdP_zero, hOb]
      exact ((Blk.new w2 _ _).alloc _).alloc _
    · rw [hXb]; exact ((HX2.out.alloc _).alloc _).alloc _
    · rw [hRv]; exact ((HR2.out.alloc _).alloc _).alloc _
    · rw [hPb, hOb]
      have := (Blk.new (w2.alloc (.cells #[.int .u8 (op : Int), .int .u8 0, .int .u8 0, .int .u8 0, .int .i64 0] 34)) 101 #[.pointer (some ⟨w2.heap.size, 1, none⟩), .pointer (some ⟨w2.heap.size, 2, none⟩), .pointer (some ⟨w2.heap.size, 3, none⟩)]).alloc (.stringIter (strOf op) 0)
      rw [World.size_alloc] at this
      exact this
    · exact ((E2.out.t (Ext.alloc _ _)).t (Ext.alloc _ _)).t (Ext.alloc _ _)
  have H00 := Lib.hid h00
  have HD := Lib.hid hD
  clear h00 hD
  simp only [← hI] at H00 ⊢
  simp only [← hPb] at H00 ⊢
  simp only [← hOb] at H00 ⊢
  simp only [← hRv] at H00 ⊢
  simp only [← hXb] at H00 ⊢
  generalize hW : World.iter _ (strOf op) 0 = wz at H00 ⊢
  clear hW hI hOb hRv hXb hPb HX2 HR2 E2
  go_loopw [10] (fun v10 wr => MdRel w op n x I Xb Rv Ob Pb v10 wr) (fun _ wr => (strOf op).size - wr.iterPos I)
  case atStart => exact ⟨0, 0, Nat.zero_le _, by omega, rfl, H00⟩
  case round =>
    clear H00
    obtain ⟨pos, u, hp, hu3, rfl, HJ⟩ := hrel
    by_cases hps : pos < (strOf op).size
    · have hmeas : (strOf op).size - (pos + 1) < (strOf op).size - wr.iterPos I := by rw [HJ.out.pos_]; omega
      have Hmeas := Lib.hid hmeas
      have Hp1 : Hid (pos + 1 ≤ (strOf op).size) := Lib.hid hps
      have h3 := nr_tl op
      have hsz := strOf_size op
      have hxb' := blk_put (l := I) (o := .stringIter (strOf op) (pos + 1)) HJ.out.xb HD.out.n2
      have hob' := blk_put (l := I) (o := .stringIter (strOf op) (pos + 1)) HJ.out.ob HD.out.n1
      have hpb' := blk_put (l := I) (o := .stringIter (strOf op) (pos + 1)) HJ.out.pb HD.out.n4
      have Hub := Lib.hid HJ.out.u_
      clear hmeas
      by_cases hr : pos < nrOf op
      · have hl := strOf_at_r hr hps
        have hnx := fun ty => run_next_r (P := Try.prog) wr I (strOf op) pos ty HJ.out.it hps (by rw [hl]; decide)
        rw [hl] at hnx
        simp only [show (114 : UInt8).toNat = 114 from rfl] at hnx
        obtain rfl : u = pos := by rw [Hub.out]; omega
        have Hu1 : Hid (u + 1 = min (u + 1) (nrOf op)) := Lib.hid (by omega)
        have Hset := Lib.hid (mdP_reg (n := n) (x := x) hr)
        have hu2 : u < 3 := by omega
        clear hl hr hps h3 hsz
        have hlO := hob'.lt
        obtain ⟨hx0, hx1, hx2, hx3, hx4⟩ := hxb'.ins
        rcases (by omega : u = 0 ∨ u = 1 ∨ u = 2) with rfl | rfl | rfl
        · skip
          have hp0 : (wr.putObj I (.stringIter (strOf op) (0 + 1))).cell? ⟨Pb, 0, none⟩ = some (.pointer (some ⟨Ob, 1, none⟩)) := by rw [hpb'.cell]; rfl
          obtain ⟨vo, hvo⟩ : ∃ vo, (wr.putObj I (.stringIter (strOf op) (0 + 1))).cell? ⟨Ob, 1, none⟩ = some vo := ⟨_, hob'.ins.2.1⟩
          have hfo := hob'.frozen 1
          have hfa := fun o => (hob'.alloc o).frozen 1
          have hva := fun o => (World.cell?_alloc_lt (wr.putObj I (.stringIter (strOf op) (0 + 1))) o ⟨Ob, 1, none⟩ hlO).trans hvo
          have hxs := fun v o => ((hxb'.alloc o).off (b := Ob) (o := 1) HD.out.n5 v).ins.2
          have hs1 := fun v o => (hxs v o).1
          have hs2 := fun v o => (hxs v o).2.1
          have hs3 := fun v o => (hxs v o).2.2.1
          have hps := fun v o => ((hpb'.alloc o).off (b := Ob) (o := 1) HD.out.n7 v).cell 0
          obtain ⟨W, hW⟩ : ∃ W, W = wr.putObj I (.stringIter (strOf op) (0 + 1)) := ⟨_, rfl⟩
          have HW : Hid (Ext (wr.putObj I (.stringIter (strOf op) (0 + 1))) W) := Lib.hid (by rw [hW]; exact Ext.refl _)
          clear hxb' hob' hpb' hx0 hx4 hxs
          go_wp2_with fail
          rw [← hW]
          rw [← hW] at hx1 hx2 hx3 hp0 hvo hfo
          simp only [← hW] at hfa hva hs1 hs2 hs3 hps
          clear hW
          have n1 := World.new_ne W ⟨Xb, 1, none⟩ hx1
          have n2 := World.new_ne W ⟨Pb, 0, none⟩ hp0
          have n3 := World.new_ne W ⟨Ob, 1, none⟩ hvo
          refine wp_region_held_drew (S := fun w' => w'.cell? ⟨Xb, 1, none⟩ = some (.int .u8 (x.a : Int)) ∧ w'.cell? ⟨Xb, 2, none⟩ = some (.int .u8 (x.b : Int)) ∧ w'.cell? ⟨Xb, 3, none⟩ = some (.int .u8 (x.c : Int)) ∧ w'.cell? ⟨Pb, 0, none⟩ = some (.pointer (some ⟨Ob, 1, none⟩))) (by kernel_rfl) ⟨hx1, hx2, hx3, hp0⟩ (fun hHeld => ?_)
          refine wpAnyH_take (i := 0) (v := .slice (some ⟨Pb, 0, none⟩) 3 3) rfl (by kernel_rfl) (by kernel_rfl) (by kernel_rfl) (fun _ _ _ h => h) (Or.inl ⟨by rfl, fun w' hw' => by obtain ⟨q1, q2, q3, q4⟩ := hw'; go_simp; try rfl⟩) hHeld ?_
          try simp only [Act.put]
          refine wpAnyH_take (i := 1) (v := .int .i64 0) rfl (by kernel_rfl) (by kernel_rfl) (by kernel_rfl) (fun _ _ _ h => h) (Or.inl ⟨by rfl, fun w' hw' => by obtain ⟨q1, q2, q3, q4⟩ := hw'; go_simp; try rfl⟩) hHeld ?_
          try simp only [Act.put]
          refine wpAnyH_take (i := 2) (v := .pointer (some ⟨Pb, 0, none⟩)) rfl (by kernel_rfl) (by kernel_rfl) (by kernel_rfl) (fun _ _ _ h => h) (Or.inl ⟨by rfl, fun w' hw' => by obtain ⟨q1, q2, q3, q4⟩ := hw'; go_simp; try rfl⟩) hHeld ?_
          try simp only [Act.put]
          refine wpAnyH_take (i := 3) (v := .pointer (some ⟨Ob, 1, none⟩)) rfl (by kernel_rfl) (by kernel_rfl) (by kernel_rfl) (fun _ _ _ h => h) (Or.inl ⟨by rfl, fun w' hw' => by obtain ⟨q1, q2, q3, q4⟩ := hw'; go_simp; try rfl⟩) hHeld ?_
          try simp only [Act.put]
          refine wpAnyH_take (i := 4) (v := .pointer (some ⟨Xb, 1, none⟩)) rfl (by kernel_rfl) (by kernel_rfl) (by kernel_rfl) (fun _ _ _ h => h) (Or.inl ⟨by rfl, fun w' hw' => by obtain ⟨q1, q2, q3, q4⟩ := hw'; go_simp; try rfl⟩) hHeld ?_
          try simp only [Act.put]
          refine wpAnyH_take (i := 5) (v := .int .u8 (x.a : Int)) rfl (by kernel_rfl) (by kernel_rfl) (by kernel_rfl) (fun _ _ _ h => h) (Or.inl ⟨by rfl, fun w' hw' => by obtain ⟨q1, q2, q3, q4⟩ := hw'; go_simp; try rfl⟩) hHeld ?_
          try simp only [Act.put]
          refine wpAnyH_take (i := 6) (v := .pointer (some ⟨Xb, 2, none⟩)) rfl (by kernel_rfl) (by kernel_rfl) (by kernel_rfl) (fun _ _ _ h => h) (Or.inl ⟨by rfl, fun w' hw' => by obtain ⟨q1, q2, q3, q4⟩ := hw'; go_simp; try rfl⟩) hHeld ?_
          try simp only [Act.put]
          refine wpAnyH_take (i := 7) (v := .int .u8 (x.b : Int)) rfl (by kernel_rfl) (by kernel_rfl) (by kernel_rfl) (fun _ _ _ h => h) (Or.inl ⟨by rfl, fun w' hw' => by obtain ⟨q1, q2, q3, q4⟩ := hw'; go_simp; try rfl⟩) hHeld ?_
          try simp only [Act.put]
          refine wpAnyH_take (i := 8) (v := .pointer (some ⟨Xb, 3, none⟩)) rfl (by kernel_rfl) (by kernel_rfl) (by kernel_rfl) (fun _ _ _ h => h) (Or.inl ⟨by rfl, fun w' hw' => by obtain ⟨q1, q2, q3, q4⟩ := hw'; go_simp; try rfl⟩) hHeld ?_
          try simp only [Act.put]
          refine wpAnyH_take (i := 9) (v := .int .u8 (x.c : Int)) rfl (by kernel_rfl) (by kernel_rfl) (by kernel_rfl) (fun _ _ _ h => h) (Or.inl ⟨by rfl, fun w' hw' => by obtain ⟨q1, q2, q3, q4⟩ := hw'; go_simp; try rfl⟩) hHeld ?_
          try simp only [Act.put]
          refine wpAnyH_take (i := 11) (v := .int .i64 0) rfl (by kernel_rfl) (by kernel_rfl) (by kernel_rfl) (fun _ _ _ h => h) (Or.inl ⟨by rfl, fun w' hw' => by obtain ⟨q1, q2, q3, q4⟩ := hw'; go_simp; try rfl⟩) hHeld ?_
          try simp only [Act.put]
          refine wpAnyH_ready (rs := [10]) (by kernel_rfl) (by simp) (AllReadyH.cons rfl (fun K hK => ?_) AllReadyH.nil)
          go_simp
          refine hK.out _ _ (by go_keep) (fun hHeld => ?_)
          clear hK K
          refine wpAnyH_ready (rs := [12]) (by kernel_rfl) (by simp) (AllReadyH.cons rfl (fun K hK => ?_) AllReadyH.nil)
          go_simp
          refine hK.out _ _ (by go_keep) (fun hHeld => ?_)
          clear hK K
          refine wpAnyH_ready (rs := [13]) (by kernel_rfl) (by simp) (AllReadyH.cons rfl (fun K hK => ?_) AllReadyH.nil)
          go_simp
          refine hK.out _ _ (by go_keep) (fun hHeld => ?_)
          clear hK K
          refine wpAnyH_ready (rs := [14]) (by kernel_rfl) (by simp) (AllReadyH.cons rfl (fun K hK => ?_) AllReadyH.nil)
          go_simp
          refine hK.out _ _ (by go_keep) (fun hHeld => ?_)
          clear hK K
          refine wpAnyH_ready (rs := [15]) (by kernel_rfl) (by simp) (AllReadyH.cons rfl (fun K hK => ?_) AllReadyH.nil)
          go_simp
          refine hK.out _ _ (by go_keep) (fun hHeld => ?_)
          clear hK K
          refine wpAnyH_ready (rs := [16]) (by kernel_rfl) (by simp) (AllReadyH.cons rfl (fun K hK => ?_) AllReadyH.nil)
          go_simp
          refine hK.out _ _ ⟨hs1 _ _, hs2 _ _, hs3 _ _, hps _ _⟩ (fun hHeld => ?_)
          clear hK K
          refine wpAnyH_done (by kernel_rfl) ?_ _
          have HS : Hid (MdJ w op n x I Xb Rv Ob Pb (0 + 1) (0 + 1) ((W.alloc (.cells #[.int .u8 (x.a : Int), .int .u8 (x.b : Int), .int .u8 (x.c : Int)] 5)).setCell ⟨Ob, 1, none⟩ (.int .u8 ((x.a : Int).tmod 8))).drew) := Lib.hid ((HJ.out.step HD.out (HW.out.t (Ext.alloc _ _)) Hset.out Hu1.out).exte (Ext.drew _))
          clear HJ HW Hset Hu1 hs1 hs2 hs3 hps hfa hva hfo n1 n2 n3 hvo hp0 hx1 hx2 hx3
          go_wp2_with fail
          go_roundw
          case rel => exact ⟨0 + 1, 0 + 1, Hp1.out, by omega, rfl, HS⟩
          case measure => rw [show (x.a : Int) % 8 = (x.a : Int).tmod 8 from (Int.tmod_eq_emod_of_nonneg (Int.natCast_nonneg _)).symm, show World.iterPos _ I = 0 + 1 from HS.out.pos_]; exact Hmeas.out
        · skip
          have hp0 : (wr.putObj I (.stringIter (strOf op) (1 + 1))).cell? ⟨Pb, 1, none⟩ = some (.pointer (some ⟨Ob, 2, none⟩)) := by rw [hpb'.cell]; rfl
          obtain ⟨vo, hvo⟩ : ∃ vo, (wr.putObj I (.stringIter (strOf op) (1 + 1))).cell? ⟨Ob, 2, none⟩ = some vo := ⟨_, hob'.ins.2.2.1⟩
          have hfo := hob'.frozen 2
          have hfa := fun o => (hob'.alloc o).frozen 2
          have hva := fun o => (World.cell?_alloc_lt (wr.putObj I (.stringIter (strOf op) (1 + 1))) o ⟨Ob, 2, none⟩ hlO).trans hvo
          have hxs := fun v o => ((hxb'.alloc o).off (b := Ob) (o := 2) HD.out.n5 v).ins.2
          have hs1 := fun v o => (hxs v o).1
          have hs2 := fun v o => (hxs v o).2.1
          have hs3 := fun v o => (hxs v o).2.2.1
          have hps := fun v o => ((hpb'.alloc o).off (b := Ob) (o := 2) HD.out.n7 v).cell 1
          obtain ⟨W, hW⟩ : ∃ W, W = wr.putObj I (.stringIter (strOf op) (1 + 1)) := ⟨_, rfl⟩
          have HW : Hid (Ext (wr.putObj I (.stringIter (strOf op) (1 + 1))) W) := Lib.hid (by rw [hW]; exact Ext.refl _)
          clear hxb' hob' hpb' hx0 hx4 hxs
          go_wp2_with fail
          rw [← hW]
          rw [← hW] at hx1 hx2 hx3 hp0 hvo hfo
          simp only [← hW] at hfa hva hs1 hs2 hs3 hps
          clear hW
          have n1 := World.new_ne W ⟨Xb, 1, none⟩ hx1
          have n2 := World.new_ne W ⟨Pb, 1, none⟩ hp0
          have n3 := World.new_ne W ⟨Ob, 2, none⟩ hvo
          refine wp_region_held_drew (S := fun w' => w'.cell? ⟨Xb, 1, none⟩ = some (.int .u8 (x.a : Int)) ∧ w'.cell? ⟨Xb, 2, none⟩ = some (.int .u8 (x.b : Int)) ∧ w'.cell? ⟨Xb, 3, none⟩ = some (.int .u8 (x.c : Int)) ∧ w'.cell? ⟨Pb, 1, none⟩ = some (.pointer (some ⟨Ob, 2, none⟩))) (by kernel_rfl) ⟨hx1, hx2, hx3, hp0⟩ (fun hHeld => ?_)
          refine wpAnyH_take (i := 0) (v := .slice (some ⟨Pb, 0, none⟩) 3 3) rfl (by kernel_rfl) (by kernel_rfl) (by kernel_rfl) (fun _ _ _ h => h) (Or.inl ⟨by rfl, fun w' hw' => by obtain ⟨q1, q2, q3, q4⟩ := hw'; go_simp; try rfl⟩) hHeld ?_
          try simp only [Act.put]
          refine wpAnyH_take (i := 1) (v := .int .i64 1) rfl (by kernel_rfl) (by kernel_rfl) (by kernel_rfl) (fun _ _ _ h => h) (Or.inl ⟨by rfl, fun w' hw' => by obtain ⟨q1, q2, q3, q4⟩ := hw'; go_simp; try rfl⟩) hHeld ?_
          try simp only [Act.put]
          refine wpAnyH_take (i := 2) (v := .pointer (some ⟨Pb, 1, none⟩)) rfl (by kernel_rfl) (by kernel_rfl) (by kernel_rfl) (fun _ _ _ h => h) (Or.inl ⟨by rfl, fun w' hw' => by obtain ⟨q1, q2, q3, q4⟩ := hw'; go_simp; try rfl⟩) hHeld ?_
          try simp only [Act.put]
          refine wpAnyH_take (i := 3) (v := .pointer (some ⟨Ob, 2, none⟩)) rfl (by kernel_rfl) (by kernel_rfl) (by kernel_rfl) (fun _ _ _ h => h) (Or.inl ⟨by rfl, fun w' hw' => by obtain ⟨q1, q2, q3, q4⟩ := hw'; go_simp; try rfl⟩) hHeld ?_
          try simp only [Act.put]
          refine wpAnyH_take (i := 4) (v := .pointer (some ⟨Xb, 1, none⟩)) rfl (by kernel_rfl) (by kernel_rfl) (by kernel_rfl) (fun _ _ _ h => h) (Or.inl ⟨by rfl, fun w' hw' => by obtain ⟨q1, q2, q3, q4⟩ := hw'; go_simp; try rfl⟩) hHeld ?_
          try simp only [Act.put]
          refine wpAnyH_take (i := 5) (v := .int .u8 (x.a : Int)) rfl (by kernel_rfl) (by kernel_rfl) (by kernel_rfl) (fun _ _ _ h => h) (Or.inl ⟨by rfl, fun w' hw' => by obtain ⟨q1, q2, q3, q4⟩ := hw'; go_simp; try rfl⟩) hHeld ?_
          try simp only [Act.put]
          refine wpAnyH_take (i := 6) (v := .pointer (some ⟨Xb, 2, none⟩)) rfl (by kernel_rfl) (by kernel_rfl) (by kernel_rfl) (fun _ _ _ h => h) (Or.inl ⟨by rfl, fun w' hw' => by obtain ⟨q1, q2, q3, q4⟩ := hw'; go_simp; try rfl⟩) hHeld ?_
          try simp only [Act.put]
          refine wpAnyH_take (i := 7) (v := .int .u8 (x.b : Int)) rfl (by kernel_rfl) (by kernel_rfl) (by kernel_rfl) (fun _ _ _ h => h) (Or.inl ⟨by rfl, fun w' hw' => by obtain ⟨q1, q2, q3, q4⟩ := hw'; go_simp; try rfl⟩) hHeld ?_
          try simp only [Act.put]
          refine wpAnyH_take (i := 8) (v := .pointer (some ⟨Xb, 3, none⟩)) rfl (by kernel_rfl) (by kernel_rfl) (by kernel_rfl) (fun _ _ _ h => h) (Or.inl ⟨by rfl, fun w' hw' => by obtain ⟨q1, q2, q3, q4⟩ := hw'; go_simp; try rfl⟩) hHeld ?_
          try simp only [Act.put]
          refine wpAnyH_take (i := 9) (v := .int .u8 (x.c : Int)) rfl (by kernel_rfl) (by kernel_rfl) (by kernel_rfl) (fun _ _ _ h => h) (Or.inl ⟨by rfl, fun w' hw' => by obtain ⟨q1, q2, q3, q4⟩ := hw'; go_simp; try rfl⟩) hHeld ?_
          try simp only [Act.put]
          refine wpAnyH_take (i := 11) (v := .int .i64 1) rfl (by kernel_rfl) (by kernel_rfl) (by kernel_rfl) (fun _ _ _ h => h) (Or.inl ⟨by rfl, fun w' hw' => by obtain ⟨q1, q2, q3, q4⟩ := hw'; go_simp; try rfl⟩) hHeld ?_
          try simp only [Act.put]
          refine wpAnyH_ready (rs := [10]) (by kernel_rfl) (by simp) (AllReadyH.cons rfl (fun K hK => ?_) AllReadyH.nil)
          go_simp
          refine hK.out _ _ (by go_keep) (fun hHeld => ?_)
          clear hK K
          refine wpAnyH_ready (rs := [12]) (by kernel_rfl) (by simp) (AllReadyH.cons rfl (fun K hK => ?_) AllReadyH.nil)
          go_simp
          refine hK.out _ _ (by go_keep) (fun hHeld => ?_)
          clear hK K
          refine wpAnyH_ready (rs := [13]) (by kernel_rfl) (by simp) (AllReadyH.cons rfl (fun K hK => ?_) AllReadyH.nil)
          go_simp
          refine hK.out _ _ (by go_keep) (fun hHeld => ?_)
          clear hK K
          refine wpAnyH_ready (rs := [14]) (by kernel_rfl) (by simp) (AllReadyH.cons rfl (fun K hK => ?_) AllReadyH.nil)
          go_simp
          refine hK.out _ _ (by go_keep) (fun hHeld => ?_)
          clear hK K
          refine wpAnyH_ready (rs := [15]) (by kernel_rfl) (by simp) (AllReadyH.cons rfl (fun K hK => ?_) AllReadyH.nil)
          go_simp
          refine hK.out _ _ (by go_keep) (fun hHeld => ?_)
          clear hK K
          refine wpAnyH_ready (rs := [16]) (by kernel_rfl) (by simp) (AllReadyH.cons rfl (fun K hK => ?_) AllReadyH.nil)
          go_simp
          refine hK.out _ _ ⟨hs1 _ _, hs2 _ _, hs3 _ _, hps _ _⟩ (fun hHeld => ?_)
          clear hK K
          refine wpAnyH_done (by kernel_rfl) ?_ _
          have HS : Hid (MdJ w op n x I Xb Rv Ob Pb (1 + 1) (1 + 1) ((W.alloc (.cells #[.int .u8 (x.a : Int), .int .u8 (x.b : Int), .int .u8 (x.c : Int)] 5)).setCell ⟨Ob, 2, none⟩ (.int .u8 ((x.b : Int).tmod 8))).drew) := Lib.hid ((HJ.out.step HD.out (HW.out.t (Ext.alloc _ _)) Hset.out Hu1.out).exte (Ext.drew _))
          clear HJ HW Hset Hu1 hs1 hs2 hs3 hps hfa hva hfo n1 n2 n3 hvo hp0 hx1 hx2 hx3
          go_wp2_with fail
          go_roundw
          case rel => exact ⟨1 + 1, 1 + 1, Hp1.out, by omega, rfl, HS⟩
          case measure => rw [show (x.b : Int) % 8 = (x.b : Int).tmod 8 from (Int.tmod_eq_emod_of_nonneg (Int.natCast_nonneg _)).symm, show World.iterPos _ I = 1 + 1 from HS.out.pos_]; exact Hmeas.out
        · skip
          have hp0 : (wr.putObj I (.stringIter (strOf op) (2 + 1))).cell? ⟨Pb, 2, none⟩ = some (.pointer (some ⟨Ob, 3, none⟩)) := by rw [hpb'.cell]; rfl
          obtain ⟨vo, hvo⟩ : ∃ vo, (wr.putObj I (.stringIter (strOf op) (2 + 1))).cell? ⟨Ob, 3, none⟩ = some vo := ⟨_, hob'.ins.2.2.2.1⟩
          have hfo := hob'.frozen 3
          have hfa := fun o => (hob'.alloc o).frozen 3
          have hva := fun o => (World.cell?_alloc_lt (wr.putObj I (.stringIter (strOf op) (2 + 1))) o ⟨Ob, 3, none⟩ hlO).trans hvo
          have hxs := fun v o => ((hxb'.alloc o).off (b := Ob) (o := 3) HD.out.n5 v).ins.2
          have hs1 := fun v o => (hxs v o).1
          have hs2 := fun v o => (hxs v o).2.1
          have hs3 := fun v o => (hxs v o).2.2.1
          have hps := fun v o => ((hpb'.alloc o).off (b := Ob) (o := 3) HD.out.n7 v).cell 2
          obtain ⟨W, hW⟩ : ∃ W, W = wr.putObj I (.stringIter (strOf op) (2 + 1)) := ⟨_, rfl⟩
          have HW : Hid (Ext (wr.putObj I (.stringIter (strOf op) (2 + 1))) W) := Lib.hid (by rw [hW]; exact Ext.refl _)
          clear hxb' hob' hpb' hx0 hx4 hxs
          go_wp2_with fail
          rw [← hW]
          rw [← hW] at hx1 hx2 hx3 hp0 hvo hfo
          simp only [← hW] at hfa hva hs1 hs2 hs3 hps
          clear hW
          have n1 := World.new_ne W ⟨Xb, 1, none⟩ hx1
          have n2 := World.new_ne W ⟨Pb, 2, none⟩ hp0
          have n3 := World.new_ne W ⟨Ob, 3, none⟩ hvo
          refine wp_region_held_drew (S := fun w' => w'.cell? ⟨Xb, 1, none⟩ = some (.int .u8 (x.a : Int)) ∧ w'.cell? ⟨Xb, 2, none⟩ = some (.int .u8 (x.b : Int)) ∧ w'.cell? ⟨Xb, 3, none⟩ = some (.int .u8 (x.c : Int)) ∧ w'.cell? ⟨Pb, 2, none⟩ = some (.pointer (some ⟨Ob, 3, none⟩))) (by kernel_rfl) ⟨hx1, hx2, hx3, hp0⟩ (fun hHeld => ?_)
          refine wpAnyH_take (i := 0) (v := .slice (some ⟨Pb, 0, none⟩) 3 3) rfl (by kernel_rfl) (by kernel_rfl) (by kernel_rfl) (fun _ _ _ h => h) (Or.inl ⟨by rfl, fun w' hw' => by obtain ⟨q1, q2, q3, q4⟩ := hw'; go_simp; try rfl⟩) hHeld ?_
          try simp only [Act.put]
          refine wpAnyH_take (i := 1) (v := .int .i64 2) rfl (by kernel_rfl) (by kernel_rfl) (by kernel_rfl) (fun _ _ _ h => h) (Or.inl ⟨by rfl, fun w' hw' => by obtain ⟨q1, q2, q3, q4⟩ := hw'; go_simp; try rfl⟩) hHeld ?_
          try simp only [Act.put]
          refine wpAnyH_take (i := 2) (v := .pointer (some ⟨Pb, 2, none⟩)) rfl (by kernel_rfl) (by kernel_rfl) (by kernel_rfl) (fun _ _ _ h => h) (Or.inl ⟨by rfl, fun w' hw' => by obtain ⟨q1, q2, q3, q4⟩ := hw'; go_simp; try rfl⟩) hHeld ?_
          try simp only [Act.put]
          refine wpAnyH_take (i := 3) (v := .pointer (some ⟨Ob, 3, none⟩)) rfl (by kernel_rfl) (by kernel_rfl) (by kernel_rfl) (fun _ _ _ h => h) (Or.inl ⟨by rfl, fun w' hw' => by obtain ⟨q1, q2, q3, q4⟩ := hw'; go_simp; try rfl⟩) hHeld ?_
          try simp only [Act.put]
          refine wpAnyH_take (i := 4) (v := .pointer (some ⟨Xb, 1, none⟩)) rfl (by kernel_rfl) (by kernel_rfl) (by kernel_rfl) (fun _ _ _ h => h) (Or.inl ⟨by rfl, fun w' hw' => by obtain ⟨q1, q2, q3, q4⟩ := hw'; go_simp; try rfl⟩) hHeld ?_
          try simp only [Act.put]
          refine wpAnyH_take (i := 5) (v := .int .u8 (x.a : Int)) rfl (by kernel_rfl) (by kernel_rfl) (by kernel_rfl) (fun _ _ _ h => h) (Or.inl ⟨by rfl, fun w' hw' => by obtain ⟨q1, q2, q3, q4⟩ := hw'; go_simp; try rfl⟩) hHeld ?_
          try simp only [Act.put]
          refine wpAnyH_take (i := 6) (v := .pointer (some ⟨Xb, 2, none⟩)) rfl (by kernel_rfl) (by kernel_rfl) (by kernel_rfl) (fun _ _ _ h => h) (Or.inl ⟨by rfl, fun w' hw' => by obtain ⟨q1, q2, q3, q4⟩ := hw'; go_simp; try rfl⟩) hHeld ?_
          try simp only [Act.put]
          refine wpAnyH_take (i := 7) (v := .int .u8 (x.b : Int)) rfl (by kernel_rfl) (by kernel_rfl) (by kernel_rfl) (fun _ _ _ h => h) (Or.inl ⟨by rfl, fun w' hw' => by obtain ⟨q1, q2, q3, q4⟩ := hw'; go_simp; try rfl⟩) hHeld ?_
          try simp only [Act.put]
          refine wpAnyH_take (i := 8) (v := .pointer (some ⟨Xb, 3, none⟩)) rfl (by kernel_rfl) (by kernel_rfl) (by kernel_rfl) (fun _ _ _ h => h) (Or.inl ⟨by rfl, fun w' hw' => by obtain ⟨q1, q2, q3, q4⟩ := hw'; go_simp; try rfl⟩) hHeld ?_
          try simp only [Act.put]
          refine wpAnyH_take (i := 9) (v := .int .u8 (x.c : Int)) rfl (by kernel_rfl) (by kernel_rfl) (by kernel_rfl) (fun _ _ _ h => h) (Or.inl ⟨by rfl, fun w' hw' => by obtain ⟨q1, q2, q3, q4⟩ := hw'; go_simp; try rfl⟩) hHeld ?_
          try simp only [Act.put]
          refine wpAnyH_take (i := 11) (v := .int .i64 2) rfl (by kernel_rfl) (by kernel_rfl) (by kernel_rfl) (fun _ _ _ h => h) (Or.inl ⟨by rfl, fun w' hw' => by obtain ⟨q1, q2, q3, q4⟩ := hw'; go_simp; try rfl⟩) hHeld ?_
          try simp only [Act.put]
          refine wpAnyH_ready (rs := [10]) (by kernel_rfl) (by simp) (AllReadyH.cons rfl (fun K hK => ?_) AllReadyH.nil)
          go_simp
          refine hK.out _ _ (by go_keep) (fun hHeld => ?_)
          clear hK K
          refine wpAnyH_ready (rs := [12]) (by kernel_rfl) (by simp) (AllReadyH.cons rfl (fun K hK => ?_) AllReadyH.nil)
          go_simp
          refine hK.out _ _ (by go_keep) (fun hHeld => ?_)
          clear hK K
          refine wpAnyH_ready (rs := [13]) (by kernel_rfl) (by simp) (AllReadyH.cons rfl (fun K hK => ?_) AllReadyH.nil)
          go_simp
          refine hK.out _ _ (by go_keep) (fun hHeld => ?_)
          clear hK K
          refine wpAnyH_ready (rs := [14]) (by kernel_rfl) (by simp) (AllReadyH.cons rfl (fun K hK => ?_) AllReadyH.nil)
          go_simp
          refine hK.out _ _ (by go_keep) (fun hHeld => ?_)
          clear hK K
          refine wpAnyH_ready (rs := [15]) (by kernel_rfl) (by simp) (AllReadyH.cons rfl (fun K hK => ?_) AllReadyH.nil)
          go_simp
          refine hK.out _ _ (by go_keep) (fun hHeld => ?_)
          clear hK K
          refine wpAnyH_ready (rs := [16]) (by kernel_rfl) (by simp) (AllReadyH.cons rfl (fun K hK => ?_) AllReadyH.nil)
          go_simp
          refine hK.out _ _ ⟨hs1 _ _, hs2 _ _, hs3 _ _, hps _ _⟩ (fun hHeld => ?_)
          clear hK K
          refine wpAnyH_done (by kernel_rfl) ?_ _
          have HS : Hid (MdJ w op n x I Xb Rv Ob Pb (2 + 1) (2 + 1) ((W.alloc (.cells #[.int .u8 (x.a : Int), .int .u8 (x.b : Int), .int .u8 (x.c : Int)] 5)).setCell ⟨Ob, 3, none⟩ (.int .u8 ((x.c : Int).tmod 8))).drew) := Lib.hid ((HJ.out.step HD.out (HW.out.t (Ext.alloc _ _)) Hset.out Hu1.out).exte (Ext.drew _))
          clear HJ HW Hset Hu1 hs1 hs2 hs3 hps hfa hva hfo n1 n2 n3 hvo hp0 hx1 hx2 hx3
          go_wp2_with fail
          go_roundw
          case rel => exact ⟨2 + 1, 2 + 1, Hp1.out, by omega, rfl, HS⟩
          case measure => rw [show (x.c : Int) % 8 = (x.c : Int).tmod 8 from (Int.tmod_eq_emod_of_nonneg (Int.natCast_nonneg _)).symm, show World.iterPos _ I = 2 + 1 from HS.out.pos_]; exact Hmeas.out
      · have hpr : pos = nrOf op := by split at hsz <;> omega
        obtain ⟨hl, ht0⟩ := strOf_at_t hpr hps
        have hny := fun ty h => run_next_r (P := Try.prog) wr I (strOf op) pos ty HJ.out.it hps h
        have hset := mdP_tail (n := n) (x := x) hpr
        have Hu1 : Hid (u = min (pos + 1) (nrOf op)) := Lib.hid (by rw [Hub.out]; omega)
        have hx4 := hxb'.ins.2.2.2.2
        have ho4 := hob'.ins.2.2.2.2
        have hf4 := hob'.frozen 4
        rcases h3.2.1 with ht | ht | ht | ht
        · exact absurd ht ht0
        all_goals rw [ht] at hl
        · skip
          have hnx := fun ty => hny ty (by rw [hl]; decide)
          rw [hl] at hnx
          simp only [show (UInt8.ofNat 110).toNat = 110 from rfl] at hnx
          rw [ht] at hset
          have Hset := Lib.hid hset
          have HW := Lib.hid (Ext.refl (wr.putObj I (.stringIter (strOf op) (pos + 1))))
          clear hny hl ht0 hps hr h3 hsz hpr hset hpb'
          go_wp2_with fail
          have HS : Hid (MdJ w op n x I Xb Rv Ob Pb (pos + 1) u ((wr.putObj I (.stringIter (strOf op) (pos + 1))).setCell ⟨Ob, 4, none⟩ (.int .i64 (x.n)))) := Lib.hid (by
            rw [← show mdN 110 x.n n = x.n from rfl]
            exact HJ.out.step HD.out HW.out Hset.out Hu1.out)
          go_roundw
          case rel => exact ⟨pos + 1, u, Hp1.out, hu3, rfl, HS⟩
          case measure => rw [show World.iterPos _ I = pos + 1 from HS.out.pos_]; exact Hmeas.out
        · skip
          have hnx := fun ty => hny ty (by rw [hl]; decide)
          rw [hl] at hnx
          simp only [show (UInt8.ofNat 112).toNat = 112 from rfl] at hnx
          rw [ht] at hset
          have Hset := Lib.hid hset
          have HW := Lib.hid (Ext.refl (wr.putObj I (.stringIter (strOf op) (pos + 1))))
          clear hny hl ht0 hps hr h3 hsz hpr hset hpb'
          go_wp2_with fail
          have HS : Hid (MdJ w op n x I Xb Rv Ob Pb (pos + 1) u ((wr.putObj I (.stringIter (strOf op) (pos + 1))).setCell ⟨Ob, 4, none⟩ (.int .i64 (wrap64 ((IntKind.u64.wrap x.n).tmod 16))))) := Lib.hid (by
            rw [← show mdN 112 x.n n = wrap64 ((IntKind.u64.wrap x.n).tmod 16) from mdN_112 _ _]
            exact HJ.out.step HD.out HW.out Hset.out Hu1.out)
          go_roundw
          case rel => exact ⟨pos + 1, u, Hp1.out, hu3, rfl, HS⟩
          case measure => rw [show World.iterPos _ I = pos + 1 from HS.out.pos_]; exact Hmeas.out
        · skip
          have hnx := fun ty => hny ty (by rw [hl]; decide)
          rw [hl] at hnx
          simp only [show (UInt8.ofNat 116).toNat = 116 from rfl] at hnx
          rw [ht] at hset
          have Hset := Lib.hid hset
          have HW := Lib.hid (Ext.refl (wr.putObj I (.stringIter (strOf op) (pos + 1))))
          clear hny hl ht0 hps hr h3 hsz hpr hset hpb'
          go_wp2_with fail
          have HS : Hid (MdJ w op n x I Xb Rv Ob Pb (pos + 1) u ((wr.putObj I (.stringIter (strOf op) (pos + 1))).setCell ⟨Ob, 4, none⟩ (.int .i64 (wrap64 ((IntKind.u64.wrap x.n).tmod (n : Int)))))) := Lib.hid (by
            rw [← show mdN 116 x.n n = wrap64 ((IntKind.u64.wrap x.n).tmod (n : Int)) from mdN_116 _ _ hn1 hn2]
            exact HJ.out.step HD.out HW.out Hset.out Hu1.out)
          go_roundw
          case rel => exact ⟨pos + 1, u, Hp1.out, hu3, rfl, HS⟩
          case measure => rw [show World.iterPos _ I = pos + 1 from HS.out.pos_]; exact Hmeas.out
    · obtain rfl : pos = (strOf op).size := by omega
      have hnx := fun ty => run_next_e (P := Try.prog) wr I (strOf op) (strOf op).size ty HJ.out.it hps
      obtain ⟨q, hq⟩ : ∃ q, q = mdI n x := ⟨_, rfl⟩
      have hob := HJ.out.ob
      rw [← HI.out, ← hq] at hob
      obtain ⟨c0, c1, c2, c3, c4⟩ := hob.ins
      have hrb := HJ.out.rv
      obtain ⟨r0, r1, r2, r3, r4⟩ := hrb.ins
      have hf0 := hrb.frozen 0
      have hf1 := hrb.frozen 1
      have hf2 := hrb.frozen 2
      have hf3 := hrb.frozen 3
      have hf4 := hrb.frozen 4
      have He := Lib.hid HJ.out.ext
      have Hq := Lib.hid hq
      clear hob hrb HJ hq hps hp
      go_wp2_with fail
      refine bodyPost_ret (v := insV q) (by simp [results, Try.results31, go_sem, r0, r1, r2, r3, r4, insV]) rfl ⟨by rw [Hq.out]; rfl, five_ext He.out HD.out.b3 q⟩
end Go.Proofs.Ytlneifgihdickaa
namespace Go.Fx
open Go.RowKit Go.Proofs Go.Proofs.Ytlneifgihdickaa
def halt0 : Ins := ⟨1, 0, 0, 0, 0⟩
def madeF (l : List Ins) : List Ins := (l.take 40).map (mdI ((l.take 40).length + 1)) ++ [halt0]
end Go.Fx
namespace Go.Proofs.Ytlneifgihdickaa
open Go.RowKit Go.Fx
theorem sm_toI {A : Option Addr} {n c hi : Nat} {li : Int} (w : World) (e : li = (hi : Int)) (h2 : hi ≤ c) :
    (Instr.sliceAt 22 (.slice A n c) none (some (.int .i64 li)) none).run Try.prog w = .ok (.slice A hi c) w := by
  subst e
  have h4 : (hi : Int) ≤ (c : Int) := by omega
  have h5 : (0 : Int) ≤ (hi : Int) := by omega
  simp [go_sem, sliced, h4, Addr.add]
set_option maxRecDepth 100000 in
set_option maxHeartbeats 2000000 in
theorem makes_ (A : Option Addr) (n c : Nat) (l : List Ins) (w : World) (h : RdS 5 insC w A n l) (hok : ∀ i ∈ l, InsOk i) (hnc : n ≤ c) (_hc : c ≤ maxLen) :
    Calls Try.prog 11 #[.slice A n c] w fun e w' => ∃ A' n' c', e = .returned (.slice A' n' c') ∧ NewS w (madeF l) w' A' n' c' := by
  have key : ∀ M, M ≤ n → M ≤ 40 → (M = n ∨ M = 40) → RdS 5 insC w A M (l.take 40) := fun M h1 h2 h3 => by
    have h4 := h.take (k := M) h1
    rcases h3 with h3 | h3
    · rw [List.take_of_length_le (by rw [h.1]; omega)] at h4
      rw [List.take_of_length_le (by rw [h.1]; omega)]; exact h4
    · rw [h3] at h4 ⊢; exact h4
  obtain ⟨q, hq⟩ : ∃ q, q = l.take 40 := ⟨_, rfl⟩
  rw [← hq] at key
  have Hok : Hid (∀ i ∈ q, InsOk i) := Lib.hid (fun i hi => hok i (by rw [hq] at hi; exact List.mem_of_mem_take hi))
  have hF : ∀ M, q.length = M → madeF l = q.map (mdI (M + 1)) ++ [halt0] := fun M hM => by unfold madeF; rw [← hq, hM]
  have Hkey := Lib.hid key
  have HFF := Lib.hid hF
  clear h hok hq hF key
  by_cases h40 : n ≤ 40
  · have h40I : (n : Int) ≤ 40 := by omega
    have hsl := fun w' => sm_toI (A := A) (n := n) (c := c) (hi := n) (li := (n : Int)) w' rfl (by omega)
    have H := Lib.hid (Hkey.out n (Nat.le_refl _) h40 (.inl rfl))
    obtain ⟨N1, hN1⟩ : ∃ N1, N1 = n + 1 := ⟨_, rfl⟩
    have hN1I : (n : Int) + 1 = (N1 : Int) := by omega
    obtain ⟨Q, hQ⟩ : ∃ Q, Q = q.map (mdI N1) := ⟨_, rfl⟩
    have HQ := Lib.hid hQ
    have HF : Hid (madeF l = Q ++ [halt0]) := Lib.hid (by rw [HFF.out n H.out.1, hQ, hN1])
    clear hQ
    have hb1 : N1 ≤ 41 := by omega
    have hb2 : 1 ≤ N1 := by omega
    clear hN1
    go_enter Try.func11, Try.ntmps11
    go_wp2_with fail
    go_loopw [3, 13] (fun v3 v13 wr => ∃ (k : Nat) (Ao : Option Addr) (co : Nat), k ≤ n ∧ v13 = .int .i64 (k : Int) ∧ v3 = .slice Ao k co ∧ Hid (NewS w (Q.take k) wr Ao k co)) (fun _ i _ => n - (intOf i).toNat)
    case atStart => exact ⟨0, none, 0, by omega, rfl, rfl, Lib.hid (NewS.nil w)⟩
    case round =>
      obtain ⟨k, Ao, co, hk, rfl, rfl, HN⟩ := hrel
      by_cases hlt : k < n
      · have hltI : (k : Int) < (n : Int) := by omega
        obtain ⟨b, o, i, rfl, _, hi, c0, c1, c2, c3, c4⟩ := (H.out.ext HN.out.ext).ins hlt
        have Hi := Lib.hid hi
        have HM := Lib.hid (fun w' => made_ i N1 w' (Hok.out i (List.mem_of_getElem? hi)) (by omega) (by omega))
        obtain ⟨y, hy⟩ : ∃ y, y = mdI N1 i := ⟨_, rfl⟩
        rw [← hy] at HM
        unfold insV at HM
        have Hy : Hid (Q[k]? = some y) := Lib.hid (by rw [HQ.out, List.getElem?_map, Hi.out, hy]; rfl)
        clear hi hy
        go_wp2_with fail
        refine (HM.out _).mono ?_; rintro e w1 ⟨rfl, e1⟩
        have HN1 := Lib.hid (HN.out.exte ((Ext.alloc wr _).t e1))
        clear e1 HM c0 c1 c2 c3 c4
        go_wp2_with (refine wpl_buildS insC_len (by decide) (by rfl) rfl ul_ins info_ins [.tmp 22] (by rfl) (by rfl) (by decide) [y] (by rfl) ?_)
        intro g w2 b2 e2 lo2 r2; refine Lib.hid ?_
        have HN2 := Lib.hid (HN1.out.exte e2)
        have R2 := Lib.hid r2
        clear b2 e2 lo2 r2
        go_wp2_with (refine wpl_append_atS (by rfl) rfl ul_ins info_ins rfl rfl HN2.out.room rfl (Src.ofRdS ul_ins insC_len R2.out insC_one) (by unfold maxLen; omega) (by omega) ?_)
        intro A3 c3 w3 r3 ch3 ft3; refine Lib.hid ?_
        have HN3 : Hid (NewS w (Q.take (k + 1)) w3 A3 (k + 1) c3) := Lib.hid (by rw [take_snoc Hy.out]; exact HN2.out.more (q := [y]) (Ext.refl _) (by rw [List.flatMap_singleton]; exact r3) ch3 ft3)
        clear r3 ch3 ft3
        go_wp2_with fail
        go_roundw
        case rel => exact ⟨k + 1, A3, c3, by omega, by go_num, rfl, HN3⟩
        case measure => simp [intOf]; omega
      · obtain rfl : k = n := by omega
        have HN1 : Hid (NewS w Q wr Ao k co) := Lib.hid (by have h1 := HN.out; rw [List.take_of_length_le (by rw [HQ.out, List.length_map, H.out.1]; omega)] at h1; exact h1)
        clear HN
        go_wp2_with (refine wpl_buildS insC_len (by decide) (by rfl) rfl ul_ins info_ins [.tmp 27] (by rfl) (by rfl) (by decide) [halt0] (by rfl) ?_)
        intro g w2 b2 e2 lo2 r2; refine Lib.hid ?_
        have HN2 := Lib.hid (HN1.out.exte e2)
        have R2 := Lib.hid r2
        clear b2 e2 lo2 r2
        go_wp2_with (refine wpl_append_atS (by rfl) rfl ul_ins info_ins rfl rfl HN2.out.room rfl (Src.ofRdS ul_ins insC_len R2.out insC_one) (by unfold maxLen; omega) (by omega) ?_)
        intro A3 c3 w3 r3 ch3 ft3; refine Lib.hid ?_
        have HN3 : Hid (NewS w (Q ++ [halt0]) w3 A3 (k + 1) c3) := Lib.hid (HN2.out.more (q := [halt0]) (Ext.refl _) (by rw [List.flatMap_singleton]; exact r3) ch3 ft3)
        clear r3 ch3 ft3
        go_wp2_with fail
        go_ret
        exact ⟨_, _, _, rfl, by rw [HF.out]; exact HN3.out⟩
  · have h40I : ¬ (n : Int) ≤ 40 := by omega
    have h40J : (40 : Int) ≤ (n : Int) := by omega
    have hsl := fun w' => sm_toI (A := A) (n := n) (c := c) (hi := 40) (li := 40) w' rfl (by omega)
    obtain ⟨m, hm⟩ : ∃ m : Nat, m = 40 := ⟨_, rfl⟩
    have H := Lib.hid (Hkey.out m (by omega) (by omega) (.inr hm))
    obtain ⟨N1, hN1⟩ : ∃ N1, N1 = m + 1 := ⟨_, rfl⟩
    have hN1I : (m : Int) + 1 = (N1 : Int) := by omega
    obtain ⟨Q, hQ⟩ : ∃ Q, Q = q.map (mdI N1) := ⟨_, rfl⟩
    have HQ := Lib.hid hQ
    have HF : Hid (madeF l = Q ++ [halt0]) := Lib.hid (by rw [HFF.out m H.out.1, hQ, hN1])
    clear hQ
    have hb1 : N1 ≤ 41 := by omega
    have hb2 : 1 ≤ N1 := by omega
    have hs40 : Value.slice A 40 c = Value.slice A m c := by rw [hm]
    have hi40 : Value.int .i64 (max 40 0) = Value.int .i64 (m : Int) := by rw [hm]; rfl
    have Hs40 := Lib.hid hs40
    have Hi40 := Lib.hid hi40
    have Hj40 : Hid (Value.int .i64 40 = Value.int .i64 (m : Int)) := Lib.hid (by rw [hm]; rfl)
    have hmb : m ≤ 40 := by omega
    clear hN1 hm hs40 hi40
    go_enter Try.func11, Try.ntmps11
    go_wp2_with fail
    rw [Hs40.out]
    first | rw [Hi40.out] | rw [Hj40.out]
    go_loopw [3, 13] (fun v3 v13 wr => ∃ (k : Nat) (Ao : Option Addr) (co : Nat), k ≤ m ∧ v13 = .int .i64 (k : Int) ∧ v3 = .slice Ao k co ∧ Hid (NewS w (Q.take k) wr Ao k co)) (fun _ i _ => m - (intOf i).toNat)
    case atStart => exact ⟨0, none, 0, by omega, rfl, rfl, Lib.hid (NewS.nil w)⟩
    case round =>
      obtain ⟨k, Ao, co, hk, rfl, rfl, HN⟩ := hrel
      by_cases hlt : k < m
      · have hltI : (k : Int) < (m : Int) := by omega
        obtain ⟨b, o, i, rfl, _, hi, c0, c1, c2, c3, c4⟩ := (H.out.ext HN.out.ext).ins hlt
        have Hi := Lib.hid hi
        have HM := Lib.hid (fun w' => made_ i N1 w' (Hok.out i (List.mem_of_getElem? hi)) (by omega) (by omega))
        obtain ⟨y, hy⟩ : ∃ y, y = mdI N1 i := ⟨_, rfl⟩
        rw [← hy] at HM
        unfold insV at HM
        have Hy : Hid (Q[k]? = some y) := Lib.hid (by rw [HQ.out, List.getElem?_map, Hi.out, hy]; rfl)
        clear hi hy
        go_wp2_with fail
        refine (HM.out _).mono ?_; rintro e w1 ⟨rfl, e1⟩
        have HN1 := Lib.hid (HN.out.exte ((Ext.alloc wr _).t e1))
        clear e1 HM c0 c1 c2 c3 c4
        go_wp2_with (refine wpl_buildS insC_len (by decide) (by rfl) rfl ul_ins info_ins [.tmp 22] (by rfl) (by rfl) (by decide) [y] (by rfl) ?_)
        intro g w2 b2 e2 lo2 r2; refine Lib.hid ?_
        have HN2 := Lib.hid (HN1.out.exte e2)
        have R2 := Lib.hid r2
        clear b2 e2 lo2 r2
        go_wp2_with (refine wpl_append_atS (by rfl) rfl ul_ins info_ins rfl rfl HN2.out.room rfl (Src.ofRdS ul_ins insC_len R2.out insC_one) (by unfold maxLen; omega) (by omega) ?_)
        intro A3 c3 w3 r3 ch3 ft3; refine Lib.hid ?_
        have HN3 : Hid (NewS w (Q.take (k + 1)) w3 A3 (k + 1) c3) := Lib.hid (by rw [take_snoc Hy.out]; exact HN2.out.more (q := [y]) (Ext.refl _) (by rw [List.flatMap_singleton]; exact r3) ch3 ft3)
        clear r3 ch3 ft3
        go_wp2_with fail
        go_roundw
        case rel => exact ⟨k + 1, A3, c3, by omega, by go_num, rfl, HN3⟩
        case measure => simp [intOf]; omega
      · obtain rfl : k = m := by omega
        have HN1 : Hid (NewS w Q wr Ao k co) := Lib.hid (by have h1 := HN.out; rw [List.take_of_length_le (by rw [HQ.out, List.length_map, H.out.1]; omega)] at h1; exact h1)
        clear HN
        go_wp2_with (refine wpl_buildS insC_len (by decide) (by rfl) rfl ul_ins info_ins [.tmp 27] (by rfl) (by rfl) (by decide) [halt0] (by rfl) ?_)
        intro g w2 b2 e2 lo2 r2; refine Lib.hid ?_
        have HN2 := Lib.hid (HN1.out.exte e2)
        have R2 := Lib.hid r2
        clear b2 e2 lo2 r2
        go_wp2_with (refine wpl_append_atS (by rfl) rfl ul_ins info_ins rfl rfl HN2.out.room rfl (Src.ofRdS ul_ins insC_len R2.out insC_one) (by unfold maxLen; omega) (by omega) ?_)
        intro A3 c3 w3 r3 ch3 ft3; refine Lib.hid ?_
        have HN3 : Hid (NewS w (Q ++ [halt0]) w3 A3 (k + 1) c3) := Lib.hid (HN2.out.more (q := [halt0]) (Ext.refl _) (by rw [List.flatMap_singleton]; exact r3) ch3 ft3)
        clear r3 ch3 ft3
        go_wp2_with fail
        go_ret
        exact ⟨_, _, _, rfl, by rw [HF.out]; exact HN3.out⟩
end Go.Proofs.Ytlneifgihdickaa
namespace Go.Fx
open Go.RowKit Go.Proofs Go.Proofs.Ytlneifgihdickaa
theorem mdI_eq (n : Nat) (x : Ins) : mdI n x = ⟨opF x.op, if 0 < nrOf (opF x.op) then x.a % 8 else 0, if 1 < nrOf (opF x.op) then x.b % 8 else 0, if 2 < nrOf (opF x.op) then x.c % 8 else 0, mdN (tlOf (opF x.op)) x.n n⟩ := by
  unfold mdI mdP
  rw [min_sz]
  congr 1
  split
  · next h => rw [(sz_pos _).1 h]; rfl
  · rfl
theorem mdN_ok {tl n : Nat} {z : Int} (h : tl = 0 ∨ tl = 110 ∨ tl = 112 ∨ tl = 116) (h1 : 1 ≤ n) (h2 : n ≤ 256) (z1 : -9223372036854775808 ≤ z) (z2 : z ≤ 9223372036854775807) : nOk tl (mdN tl z n) = true ∧ (tl = 116 → mdN tl z n < (n : Int)) ∧ -9223372036854775808 ≤ mdN tl z n ∧ mdN tl z n ≤ 9223372036854775807 := by
  have hm := Nat.mod_lt (U64 z) (show 0 < n by omega)
  have hm2 := Nat.mod_lt (U64 z) (show 0 < 16 by omega)
  rcases h with rfl | rfl | rfl | rfl
  · have e : mdN 0 z n = 0 := rfl
    rw [e]
    exact ⟨rfl, fun h => absurd h (by decide), by decide, by decide⟩
  · exact ⟨rfl, fun h => absurd h (by decide), z1, z2⟩
  · have e : mdN 112 z n = ((U64 z % 16 : Nat) : Int) := rfl
    have e2 : ∀ y, nOk 112 y = decide (0 ≤ y ∧ y < 16) := fun _ => rfl
    rw [e, e2]
    exact ⟨decide_eq_true (by omega), fun h => absurd h (by decide), by omega, by omega⟩
  · have e : mdN 116 z n = ((U64 z % n : Nat) : Int) := rfl
    have e2 : ∀ y, nOk 116 y = decide (0 ≤ y ∧ y < 256) := fun _ => rfl
    rw [e, e2]
    exact ⟨decide_eq_true (by omega), fun _ => by omega, by omega, by omega⟩
theorem mdI_ok {n : Nat} {x : Ins} (hx : InsOk x) (h1 : 1 ≤ n) (h2 : n ≤ 256) : oneF (mdI n x) = 0 ∧ InsOk (mdI n x) ∧ (tgtF (mdI n x) = true → (mdI n x).n < (n : Int)) := by
  obtain ⟨ho1, ho2⟩ := opF_ok x.op
  have h3 := nr_tl (opF x.op)
  obtain ⟨q1, q2, q3, q4⟩ := mdN_ok (n := n) (z := x.n) h3.2.1 h1 h2 hx.n1 hx.n2
  rw [mdI_eq]
  refine ⟨?_, ⟨ho2, ?_, ?_, ?_, q3, q4⟩, ?_⟩
  · unfold oneF
    rw [if_neg (by show ¬ okOp (opF x.op) = false; rw [ho1]; simp)]
    show (if (rgOk (nrOf (opF x.op)) _ _ _ && nOk (tlOf (opF x.op)) (mdN (tlOf (opF x.op)) x.n n)) = true then 0 else 141) = 0
    rw [q1, Bool.and_true, if_pos]
    unfold rgOk
    simp only [Bool.and_eq_true, decide_eq_true_eq]
    refine ⟨⟨?_, ?_⟩, ?_⟩
    all_goals split <;> omega
  · show (if _ then _ else _) < 256
    split
    · exact Nat.lt_trans (Nat.mod_lt _ (by decide)) (by decide)
    · decide
  · show (if _ then _ else _) < 256
    split
    · exact Nat.lt_trans (Nat.mod_lt _ (by decide)) (by decide)
    · decide
  · show (if _ then _ else _) < 256
    split
    · exact Nat.lt_trans (Nat.mod_lt _ (by decide)) (by decide)
    · decide
  · intro h
    unfold tgtF at h
    simp only [Bool.and_eq_true, Bool.or_eq_true, decide_eq_true_eq] at h
    refine q2 ?_
    unfold tlOf
    rw [if_neg (by omega), if_neg (by omega), if_pos (by omega)]
theorem chkF_all {len : Nat} : ∀ (p : List Ins) (k : Nat), (∀ i ∈ p, oneF i = 0 ∧ (tgtF i = true → i.n < (len : Int))) → chkF len p k = none
  | [], _, _ => rfl
  | i :: p, k, h => by
    have h1 := h i (by simp)
    unfold chkF
    rw [if_neg (by rw [h1.1]; simp), if_neg (by intro h2; have := h1.2 h2.1; omega)]
    exact chkF_all p (k + 1) (fun j hj => h j (by simp [hj]))
theorem made_len (l : List Ins) : (madeF l).length = (l.take 40).length + 1 := by unfold madeF; simp
theorem made_le (l : List Ins) : 1 ≤ (madeF l).length ∧ (madeF l).length ≤ 41 := by rw [made_len, List.length_take]; omega
theorem halt_ok : oneF halt0 = 0 ∧ InsOk halt0 ∧ goesF halt0 = false ∧ tgtF halt0 = false := ⟨by decide, ⟨by decide, by decide, by decide, by decide, by decide, by decide⟩, by decide, by decide⟩
theorem made_all {l : List Ins} (h : ∀ i ∈ l, InsOk i) : ∀ i ∈ madeF l, oneF i = 0 ∧ InsOk i ∧ (tgtF i = true → i.n < ((madeF l).length : Int)) := by
  intro i hi
  have hl := made_le l
  rw [made_len] at hl ⊢
  unfold madeF at hi
  rcases List.mem_append.1 hi with hi | hi
  · obtain ⟨x, hx, rfl⟩ := List.mem_map.1 hi
    exact mdI_ok (h x (List.mem_of_mem_take hx)) (by omega) (by omega)
  · obtain rfl : i = halt0 := by simpa using hi
    exact ⟨halt_ok.1, halt_ok.2.1, fun h => by rw [halt_ok.2.2.2] at h; cases h⟩
theorem made_check {l : List Ins} (h : ∀ i ∈ l, InsOk i) : checkF (madeF l) = (-1, 0) := by
  have hl := made_le l
  have ha := made_all h
  unfold checkF
  rw [if_neg (by omega), if_neg (by omega), chkF_all _ _ (fun i hi => ⟨(ha i hi).1, (ha i hi).2.2⟩)]
  have hlast : (madeF l).getLast? = some halt0 := by unfold madeF; simp
  rw [hlast]
  show (if goesF halt0 = true then _ else _) = _
  rw [halt_ok.2.2.1]; rfl
theorem made_right {l : List Ins} (h : ∀ i ∈ l, InsOk i) : RightP (madeF l) := rightP_iff.1 (by rw [made_check h])
end Go.Fx
