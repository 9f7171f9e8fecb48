/- Fbf: before: for each instruction those from which control can go to it. -/
import Derived.Test.YtlneifgihdickaaFcl
import Derived.Test.YtlneifgihdickaaWai
namespace Go.Fx
open Go.RowKit Go.Proofs
/-- The lists while the edges of instruction k are told: o of them are. -/
def befO (p : List Ins) (n k o : Nat) : List (List Nat) := (List.range n).map (fun j => befN p k j ++ if j ∈ (edF p k).take o then [k] else [])
def befL (p : List Ins) (n k : Nat) : List (List Nat) := (List.range n).map (befN p k)
theorem befL_len (p : List Ins) (n k : Nat) : (befL p n k).length = n := by simp [befL]
theorem befO_len (p : List Ins) (n k o : Nat) : (befO p n k o).length = n := by simp [befO]
theorem befO_zero (p : List Ins) (n k : Nat) : befO p n k 0 = befL p n k := by simp [befO, befL]
theorem befO_all (p : List Ins) (n k : Nat) : befO p n k (edF p k).length = befL p n (k + 1) := by
  unfold befO befL
  refine List.map_congr_left (fun j _ => ?_)
  rw [List.take_length, befN_succ]
theorem befL_zero (p : List Ins) (n : Nat) : befL p n 0 = List.replicate n [] := by
  unfold befL
  apply List.ext_getElem
  · simp
  · intro i h1 h2; simp [befN]
theorem srt_not_mem {l : List Nat} (h : l.Pairwise (· < ·)) {o j : Nat} (hj : l[o]? = some j) : j ∉ l.take o := by
  intro hm
  obtain ⟨i, hi, e⟩ := List.getElem_of_mem hm
  rw [List.length_take] at hi
  rw [List.getElem_take] at e
  obtain ⟨ho, e2⟩ := List.getElem?_eq_some_iff.1 hj
  have := List.pairwise_iff_getElem.1 h i o (by omega) ho (by omega)
  omega
theorem befO_step {p : List Ins} {n k o j : Nat} (hj : (edF p k)[o]? = some j) (hn : j < n) : befO p n k (o + 1) = (befO p n k o).set j (befN p k j ++ [k]) ∧ (befO p n k o)[j]? = some (befN p k j) := by
  have hs := srt_not_mem (edF_srt p k) hj
  have hg : (befO p n k o)[j]? = some (befN p k j) := by
    unfold befO
    rw [List.getElem?_map, List.getElem?_range hn]
    simp [hs]
  refine ⟨?_, hg⟩
  have hgt : ∀ o i, (befO p n k o)[i]? = if i < n then some (befN p k i ++ if i ∈ (edF p k).take o then [k] else []) else none := fun o i => by
    unfold befO
    rw [List.getElem?_map]
    by_cases hi : i < n
    · rw [List.getElem?_range hi, if_pos hi]; rfl
    · rw [List.getElem?_eq_none (by rw [List.length_range]; omega), if_neg hi]; rfl
  apply List.ext_getElem?
  intro i
  rw [hgt, List.getElem?_set, befO_len, hgt, take_snoc hj]
  by_cases hij : j = i
  · subst hij
    rw [if_pos rfl, if_pos hn, if_pos hn, if_pos (by simp)]
  · rw [if_neg hij]
    have h3 : (i ∈ List.take o (edF p k) ++ [j]) ↔ i ∈ List.take o (edF p k) := by
      simp only [List.mem_append, List.mem_singleton]
      exact ⟨fun h => h.elim id (fun e => absurd e.symm hij), .inl⟩
    simp only [h3]
end Go.Fx
namespace Go.Proofs.Ytlneifgihdickaa
open Go.RowKit Go.Fx
attribute [local go_sem] Oper.semAt_some
theorem ul_ii : Try.prog.underlying 69 = some (.slice 26) := by kernel_rfl
theorem info_ii : (Try.prog.info? 26).map (fun i => (i.zero, i.size, i.bytes)) = some (some (.slice none 0 0), 1, 24) := by kernel_rfl
/-- What the loop over an instruction's edges keeps. -/
structure BfJ (p : List Ins) (n k b3 bi : Nat) (B : Nat) (V : World) (A1 : Option Addr) (Mut : Nat → Prop) (R : Obj) (T : Nat → Prop) (o : Nat) (W : World) : Prop where
  rg : RgJ V Mut R T W
  out : ∃ ss, Lsi intv B W A1 n n ss (befO p n k o) ∧ (∀ q, (foot A1 n q ∨ foots ss q) → (Mut q ∧ q < V.heap.size) ∨ V.heap.size + 2 ≤ q) ∧ ∀ q, (foot A1 n q ∨ foots ss q) → ¬ T q
section
variable {p : List Ins} {n k b3 bi B : Nat} {V W W' : World} {A1 : Option Addr} {Mut T : Nat → Prop} {R : Obj} {o : Nat}
theorem BfJ.e (h : BfJ p n k b3 bi B V A1 Mut R T o W) (e : Ext W W') : BfJ p n k b3 bi B V A1 Mut R T o W' := by
  obtain ⟨ss, h1, h2, h3⟩ := h.out
  exact ⟨h.rg.e e, ss, h1.ext e, h2, h3⟩
theorem BfJ.own (h : BfJ p n k b3 bi B V A1 Mut R T o W) (ch : Chg T W W') : BfJ p n k b3 bi B V A1 Mut R T o W' := by
  obtain ⟨ss, h1, h2, h3⟩ := h.out
  exact ⟨h.rg.iown ch, ss, h1.chg ch h3, h2, h3⟩
theorem BfJ.put (h : BfJ p n k b3 bi B V A1 Mut R T o W) (R' : Obj) : BfJ p n k b3 bi B V A1 Mut R' T o (W.putObj (V.heap.size + 1) R') := by
  obtain ⟨ss, h1, h2, h3⟩ := h.out
  exact ⟨h.rg.put R', ss, h1.chg (chg_putI W _ R') (fun q hq e => by have := h2 q hq; omega), h2, h3⟩
/-- One of the lists grows. -/
theorem BfJ.grow {g og j sn sc c9 : Nat} {sA A9 : Option Addr} {X w9 : World} {ss : List Sl} (h : BfJ p n k b3 bi B V (some ⟨g, og, none⟩) Mut R T o W) (h1 : Lsi intv B W (some ⟨g, og, none⟩) n n ss (befO p n k o)) (h2 : ∀ q, (foot (some ⟨g, og, none⟩) n q ∨ foots ss q) → (Mut q ∧ q < V.heap.size) ∨ V.heap.size + 2 ≤ q) (h3 : ∀ q, (foot (some ⟨g, og, none⟩) n q ∨ foots ss q) → ¬ T q)
    (hB : B ≤ V.heap.size) (hj : (edF p k)[o]? = some j) (hjn : j < n) (hs : ss[j]? = some ⟨sA, sn, sc⟩) (hx : Ext W X) (r : RoomS 1 w9 A9 (sn + 1) c9 ((befN p k j).map intv ++ intC k)) (ch : Chg (foot sA sc) X w9) (ft : ∀ q, foot A9 c9 q → foot sA sc q ∨ X.heap.size ≤ q) :
    BfJ p n k b3 bi B V (some ⟨g, og, none⟩) Mut R T (o + 1) (w9.setCell ⟨g, og + j, none⟩ (.slice A9 (sn + 1) c9)) ∧ ∀ q, T q → (w9.setCell ⟨g, og + j, none⟩ (.slice A9 (sn + 1) c9)).heap[q]? = W.heap[q]? := by
  have hz := h.rg.size
  have hzx := hx.size
  obtain ⟨e1, e2⟩ := befO_step hj hjn
  have hl := h1.ext hx
  obtain ⟨g1, g2⟩ := hl.grow (s2 := ⟨A9, sn + 1, c9⟩) (l2 := befN p k j ++ [k]) hs (by rw [List.map_append]; exact r.room) ch ft (by omega)
  have cc : Chg (fun q => foot (some ⟨g, og, none⟩) n q ∨ foots ss q) W (w9.setCell ⟨g, og + j, none⟩ (.slice A9 (sn + 1) c9)) := (Chg.ofExt hx).t g2
  refine ⟨⟨h.rg.step cc (fun q _ hq => (h2 q hq).elim (fun h => .inr h) .inl), ss.set j ⟨A9, sn + 1, c9⟩, by rw [e1]; exact g1, fun q hq => ?_, fun q hq ht => ?_⟩, fun q hq => cc.block q (h.rg.own q hq).2 (fun hf => h3 q hf hq)⟩
  · rcases hq with hq | ⟨t, ht, hq⟩
    · exact h2 q (.inl hq)
    · rcases List.mem_or_eq_of_mem_set ht with hm | hm
      · exact h2 q (.inr ⟨t, hm, hq⟩)
      · subst hm
        exact (ft q hq).elim (fun hf => h2 q (.inr ⟨_, List.mem_of_getElem? hs, hf⟩)) (fun hf => .inr (by omega))
  · rcases hq with hq | ⟨t, htm, hq⟩
    · exact h3 q (.inl hq) ht
    · rcases List.mem_or_eq_of_mem_set htm with hm | hm
      · exact h3 q (.inr ⟨t, hm, hq⟩) ht
      · subst hm
        exact (ft q hq).elim (fun hf => h3 q (.inr ⟨_, List.mem_of_getElem? hs, hf⟩) ht) (fun hf => by have := (h.rg.own q ht).2; omega)
end
/-- What before leaves. -/
def BefP (p : List Ins) (n : Nat) (w : World) (e : Ending) (w' : World) : Prop :=
  ∃ A ss, e = .returned (.slice A n n) ∧ Lsi intv w.heap.size w' A n n ss (befL p n n) ∧ Ext w w'
set_option maxRecDepth 100000 in
set_option maxHeartbeats 4000000 in
theorem before_ (A : Option Addr) (n c : Nat) (p : List Ins) (w : World) (h : RdS 5 insC w A n p) (hp : RightP p) :
    Calls Try.prog 35 #[.slice A n c] w (BefP p n w) := by
  have hl := h.1
  have hn := hp.max
  rw [hl] at hn
  have H := Lib.hid h
  have HP := Lib.hid hp
  have Hl := Lib.hid hl
  clear h hp hl
  refine calls_of_wp_marks Try.func35 rfl ?_
  simp only [Try.ntmps35, List.size_toArray, List.length_cons, List.length_nil, Nat.reduceAdd, Nat.reduceSub, Array.replicate_succ, Array.replicate_zero, List.push_toArray, List.append_toArray, List.nil_append, List.cons_append]
  go_wp2_with (refine wpl_makeN rfl rfl ul_ii info_ii rfl rfl rfl rfl rfl (by omega) (by unfold maxLen; omega) ?_)
  intro A1 w1 r1 e1 f1; refine Lib.hid ?_
  have H1 : Hid (Lsi intv w.heap.size w1 A1 n n (List.replicate n ⟨none, 0, 0⟩) (befL p n 0) ∧ Ext w w1) := Lib.hid ⟨by rw [befL_zero]; exact Lsi.made r1 f1, e1⟩
  clear r1 e1 f1
  obtain ⟨w2, hw2⟩ : ∃ w2, w2 = w1.alloc (.cells #[.slice A1 n n] 69) := ⟨_, rfl⟩
  have hb3 : Blk w2 w1.heap.size 69 #[.slice A1 n n] := by rw [hw2]; exact Blk.new _ _ _
  have H2 : Hid (Lsi intv w.heap.size w2 A1 n n (List.replicate n ⟨none, 0, 0⟩) (befL p n 0) ∧ Ext w w2) := by
    rw [hw2]; exact Lib.hid ⟨H1.out.1.ext (Ext.alloc _ _), H1.out.2.t (Ext.alloc _ _)⟩
  have HB3 := Lib.hid (And.intro hb3 (show w.heap.size ≤ w1.heap.size from H1.out.2.size))
  have HNF := Lib.hid (show ¬ foot A1 n w1.heap.size from fun hf => by have := H1.out.1.lt (.inl hf); omega)
  have HW2 := Lib.hid hw2
  clear hw2 hb3 H1
  go_upto_region 2 with fail
  rw [← HW2.out]
  generalize w1.heap.size = b3 at *
  clear HW2
  go_wp2_with fail
  refine wp_loop_ghost_k (fun gk a' w' => ∃ (u1 u2 u4 u5 u6 u7 u8 u9 u11 u12 u13 u14 u15 u16 u17 u18 u19 u20 u21 u22 u23 u24 u25 u26 u27 u28 u29 : Value) (ds : List Deferred), (∃ (k : Nat) (ss : List Sl) (Ds : List Nat), k ≤ n ∧ u11 = .int .i64 (k : Int) ∧ gk + k = n ∧ Hid (ds = Ds.map collD ∧ Lsi intv w.heap.size w' A1 n n ss (befL p n k) ∧ Blk w' b3 69 #[.slice A1 n n] ∧ ¬ foots ss b3 ∧ Cds w.heap.size w' Ds ∧ (∀ D ∈ Ds, ¬ (foot A1 n D ∨ foots ss D ∨ D = b3)) ∧ Ext w w')) ∧ a' = { tmps := #[.slice A n c, u1, u2, .pointer (some ⟨b3, 0, none⟩), u4, u5, u6, u7, u8, u9, .int .i64 (n : Int), u11, u12, u13, u14, u15, u16, u17, u18, u19, u20, u21, u22, u23, u24, u25, u26, u27, u28, u29], defers := ds }) n ?_ ?_
  · (repeat apply Exists.intro); refine ⟨?_, rfl⟩
    exact ⟨0, _, [], by omega, rfl, by omega, Lib.hid ⟨rfl, H2.out.1, HB3.out.1, fun hf => by obtain ⟨s, hs, hk⟩ := hf; have := List.eq_of_mem_replicate hs; subst this; exact foot_none hk, Cds.nil, by simp, H2.out.2⟩⟩
  · clear H2
    intro gk _ wr hinv
    obtain ⟨u1, u2, u4, u5, u6, u7, u8, u9, u11, u12, u13, u14, u15, u16, u17, u18, u19, u20, u21, u22, u23, u24, u25, u26, u27, u28, u29, ds, hrel, ha⟩ := hinv
    subst ha
    try dsimp only
    intro JJ KK hJJ hKK
    obtain ⟨k, ss, Ds, hk, rfl, hgk, HJ⟩ := hrel
    by_cases hlt : k < n
    · have hltI : (k : Int) < (n : Int) := by omega
      obtain ⟨w3, hw3⟩ : ∃ w3, w3 = wr.alloc (.cells #[.int .i64 (k : Int)] 3) := ⟨_, rfl⟩
      have hbi : Blk w3 wr.heap.size 3 #[.int .i64 (k : Int)] := by rw [hw3]; exact Blk.new _ _ _
      have ci := hbi.cell0
      have hx3 : Ext wr w3 := by rw [hw3]; exact Ext.alloc _ _
      have HBi := Lib.hid hbi
      have Hx3 := Lib.hid hx3
      have HW3 := Lib.hid hw3
      clear hbi hx3 hw3
      go_upto_region 5 with fail
      rw [← HW3.out]
      go_wp2_with fail
      refine (edges_ A n c k p w3 (H.out.ext (HJ.out.2.2.2.2.2.2.t Hx3.out))).mono ?_; rintro e w4 ⟨b1, b2, rfl, e4, hed, lb1, lb2⟩
      have Hed := Lib.hid hed
      obtain ⟨bi, hbi⟩ : ∃ bi, bi = wr.heap.size := ⟨_, rfl⟩
      have HQ : Hid (Lsi intv w.heap.size w4 A1 n n ss (befL p n k) ∧ Blk w4 b3 69 #[.slice A1 n n] ∧ Cds w.heap.size w4 Ds ∧ Ext w w4 ∧ Blk w4 bi 3 #[.int .i64 (k : Int)] ∧ ¬ (foot A1 n bi ∨ foots ss bi)) := Lib.hid ⟨(HJ.out.2.1.ext Hx3.out).ext e4, (HJ.out.2.2.1.ext Hx3.out).ext e4, (HJ.out.2.2.2.2.1.ext Hx3.out).ext e4, (HJ.out.2.2.2.2.2.2.t Hx3.out).t e4, by rw [hbi]; exact HBi.out.ext e4, fun hf => by have := HJ.out.2.1.lt hf; omega⟩
      have HD := Lib.hid (show ds = Ds.map collD ∧ ¬ foots ss b3 ∧ ∀ D ∈ Ds, ¬ (foot A1 n D ∨ foots ss D ∨ D = b3) from ⟨HJ.out.1, HJ.out.2.2.2.1, HJ.out.2.2.2.2.2.1⟩)
      have HB12 := Lib.hid (show (∀ q, (foot A1 n q ∨ foots ss q) → q ≠ b1 ∧ q ≠ b2) from fun q hq => by
        have h1 := HJ.out.2.1.lt hq
        have h2 := Hx3.out.size
        exact ⟨by omega, by omega⟩)
      rw [← hbi]
      clear e4 hed lb1 lb2 HJ HBi Hx3 HW3 hbi ci
      go_wp2_with fail
      refine wp_range (gf := 60) rfl (enters_of Try.func60 (by kernel_rfl) rfl) (fun fn rec hrec => ?_)
      have hread : ∀ (R : Obj) (T : Nat → Prop) (o : Nat) (W : World), BfJ p n k b3 bi w.heap.size w4 A1 (fun q => foot A1 n q ∨ foots ss q) R T o W → EdH p A n c k b1 b2 W := fun R T o W hj => by
        have nm : ∀ q o', A = some ⟨q, o', none⟩ → 0 < n → ¬ (foot A1 n q ∨ foots ss q) := fun q o' hA h0 hf => by
          obtain ⟨b, o2, hA2, hb, _⟩ := H.out.2 h0
          rw [hA] at hA2
          cases hA2
          have := HQ.out.1.new q hf
          omega
        exact ⟨Hed.out.rd.chg hj.rg.chg nm, hj.rg.blk Hed.out.b1 (fun hf => (HB12.out _ hf).1 rfl), hj.rg.blk Hed.out.b2 (fun hf => (HB12.out _ hf).2 rfl)⟩
      refine (edges1 b1 b2 A n c k p hlt hn (w4.heap.size + 1) (fun o => match (edF p k)[o]? with | some x => #[.int .i64 (x : Int)] | none => #[]) (BfJ p n k b3 bi w.heap.size w4 A1 (fun q => foot A1 n q ∨ foots ss q) (rec .ready none) (fun _ => False) 0) (fun T o W => BfJ p n k b3 bi w.heap.size w4 A1 (fun q => foot A1 n q ∨ foots ss q) (rec .ready none) T o W) _ (fun o x hx => by rw [hx]) ⟨?s1, fun T o W W' hj e => hj.e e, fun T o W W' hj ch => hj.own ch, ?hY⟩ (fun W hj => hread _ _ _ W hj) (fun T o W hj => hread _ _ _ W hj) ?h0).mono ?post
      case s1 =>
        intro W W' T hj e hT
        obtain ⟨ss', q1, q2, q3⟩ := hj.out
        exact ⟨hj.rg.begin e hT, ss', q1.ext e, q2, fun q hq ht => by have := q1.lt hq; have := (hT q ht).1; omega⟩
      case h0 => exact ⟨RgJ.start _, ss, by rw [befO_zero]; exact (HQ.out.1.ext (Ext.alloc _ _)).ext (Ext.alloc _ _), fun q hq => .inl ⟨hq, HQ.out.1.lt hq⟩, fun _ _ t => t⟩
      case hY =>
        intro T o W ho hj
        obtain ⟨j, hx⟩ : ∃ j, (edF p k)[o]? = some j := ⟨(edF p k)[o], List.getElem?_eq_getElem ho⟩
        simp only [hx]
        have hjn : j < n := by have := edF_lt HP.out (List.mem_of_getElem? hx); rwa [Hl.out] at this
        refine (yieldAt hrec trivial hj.rg.loop (by rfl) (fun jump W3 => jump = none ∧ BfJ p n k b3 bi w.heap.size w4 A1 (fun q => foot A1 n q ∨ foots ss q) (rec .busy none) T (o + 1) W3 ∧ ∀ q, T q → W3.heap[q]? = W.heap[q]?) ?walk).mono ?yp
        case yp =>
          rintro e W' ⟨jump, W3, ⟨rfl, hB, hT⟩, hl, rfl, rfl⟩
          exact .inl ⟨rfl, hB.put _, fun q hq => (heap_put' (by have := (hj.rg.own q hq).1; omega)).trans (hT q hq)⟩
        case walk =>
          clear hrec hread
          gi_wp2
          refine ⟨hj.rg.loop, ?_⟩
          have hk1 := hj.put (rec .busy none)
          have HT : Hid (∀ q, T q → (W.putObj (w4.heap.size + 1) (rec .busy none)).heap[q]? = W.heap[q]?) := Lib.hid (fun q hq => heap_put' (by have := (hj.rg.own q hq).1; omega))
          clear hj
          change Code.wpIn _ _ _ _ _ _ (W.putObj (w4.heap.size + 1) (rec .busy none))
          generalize W.putObj (w4.heap.size + 1) (rec .busy none) = W1 at *
          obtain ⟨ss', q1, q2, q3⟩ := hk1.out
          have hb3 := hk1.rg.blk HQ.out.2.1 (fun hf => hf.elim HNF.out HD.out.2.1)
          have hbi := hk1.rg.blk HQ.out.2.2.2.2.1 HQ.out.2.2.2.2.2
          have hlt3 := HQ.out.2.1.lt
          have hlti := HQ.out.2.2.2.2.1.lt
          have n3 : ∀ q, (foot A1 n q ∨ foots ss' q) → q ≠ b3 := fun q hq e => by
            subst e
            rcases q2 q hq with ⟨h1, _⟩ | h1
            · exact h1.elim HNF.out HD.out.2.1
            · omega
          have ni : ∀ q, (foot A1 n q ∨ foots ss' q) → q ≠ bi := fun q hq e => by
            subst e
            rcases q2 q hq with ⟨h1, _⟩ | h1
            · exact HQ.out.2.2.2.2.2 h1
            · omega
          obtain ⟨g, og, rfl, hgl⟩ := q1.room.some_ (by omega)
          obtain ⟨⟨sA, sn, sc⟩, hsj⟩ : ∃ s, ss'[j]? = some s := ⟨ss'[j]'(by have := q1.n_; have := q1.len; omega), List.getElem?_eq_getElem _⟩
          obtain ⟨lj, hlj, hrj⟩ := q1.at_ j _ hsj
          obtain rfl : lj = befN p k j := by rw [(befO_step hx hjn).2] at hlj; exact (Option.some.inj hlj).symm
          have hsn : sn ≤ 256 := by have h1 := hrj.1; rw [List.length_map] at h1; have h2 := befN_len p k j; simp only at h1; omega
          have hgf : foot (some ⟨g, og, none⟩) n g := ⟨by omega, og, rfl⟩
          have hsf : ∀ q, foot sA sc q → foots ss' q := fun q hq => ⟨_, List.mem_of_getElem? hsj, hq⟩
          have hcg := q1.room.cellAt (k := j) (u := .slice sA sn sc) (by rw [List.getElem?_map, hsj]; rfl)
          have hfg := q1.room.frozenAt (k := j) hjn
          have hS : ∀ W', Ext W1 W' → W'.cell? ⟨b3, 0, none⟩ = some (.slice (some ⟨g, og, none⟩) n n) ∧ W'.cell? ⟨g, og + j, none⟩ = some (.slice sA sn sc) ∧ W'.cell? ⟨bi, 0, none⟩ = some (.int .i64 (k : Int)) := fun W' e =>
            ⟨(hb3.ext e).cell0, (e.cell (p := ⟨g, og + j, none⟩) hgl).trans hcg, (hbi.ext e).cell0⟩
          have hS9 : ∀ X w9, Ext W1 X → Chg (foot sA sc) X w9 → (w9.cell? ⟨b3, 0, none⟩ = some (.slice (some ⟨g, og, none⟩) n n) ∧ w9.cell? ⟨g, og + j, none⟩ = some (.slice sA sn sc) ∧ w9.cell? ⟨bi, 0, none⟩ = some (.int .i64 (k : Int))) ∧ w9.frozen? ⟨g, og + j, none⟩ = false := fun X w9 e ch => by
            obtain ⟨h1, h2, h3⟩ := hS X e
            have hz := e.size
            have hl3 := hb3.lt
            have hli := hbi.lt
            have c3 : ¬ foot sA sc b3 := fun hf => n3 _ (.inr (hsf _ hf)) rfl
            have ci : ¬ foot sA sc bi := fun hf => ni _ (.inr (hsf _ hf)) rfl
            have cg : ¬ foot sA sc g := fun hf => q1.outer g (hsf _ hf) hgf
            exact ⟨⟨(ch.cell (p := ⟨b3, 0, none⟩) (by show b3 < _; omega) c3).trans h1, (ch.cell (p := ⟨g, og + j, none⟩) (by show g < _; omega) cg).trans h2, (ch.cell (p := ⟨bi, 0, none⟩) (by show bi < _; omega) ci).trans h3⟩,
              (ch.frozen (p := ⟨g, og + j, none⟩) (by show g < _; omega) cg).trans ((e.frozen (p := ⟨g, og + j, none⟩) hgl).trans hfg)⟩
          have HS9 := Lib.hid hS9
          have HS0 := Lib.hid (hS W1.drew (Ext.drew _))
          have Hne := Lib.hid (show b3 ≠ g ∧ bi ≠ g from ⟨fun e => n3 g (.inl hgf) e.symm, fun e => ni g (.inl hgf) e.symm⟩)
          have HRj := Lib.hid (hrj.ext (Ext.drew W1))
          have HG := Lib.hid (fun X w9 A9 c9 (e : Ext W1 X) r (ch : Chg (foot sA sc) X w9) ft => hk1.grow (X := X) (w9 := w9) (A9 := A9) (c9 := c9) q1 q2 q3 HQ.out.2.2.2.1.size hx hjn hsj e r ch ft)
          have hjI : (j : Int) < (n : Int) := by omega
          clear hS9 hS hrj hcg hfg hk1 q1 q2 q3 hb3 hbi hlt3 hlti n3 ni hsj hlj hsf hx
          gi_wp2
          refine wpIn_region_plainH (fun W' => W'.cell? ⟨b3, 0, none⟩ = some (.slice (some ⟨g, og, none⟩) n n) ∧ W'.cell? ⟨bi, 0, none⟩ = some (.int .i64 (k : Int))) (by kernel_rfl) (fun _ => trivial) (by rintro ⟨_, _, h⟩; exact h) (by kernel_rfl) ?_
          have HSt := Lib.hid (And.intro HS0.out.1 HS0.out.2.2)
          refine take_heldS (i := 0) (j := 18) (v := .slice (some ⟨g, og, none⟩) n n) rfl rfl (by kernel_rfl) (by kernel_rfl) (by kernel_rfl) (fun _ _ _ h => h) (Or.inl ⟨by rfl, fun w' hw' => by obtain ⟨q0, q1⟩ := hw'; go_simp; try rfl⟩) HSt.out ?_
          simp only [Act.put, List.setIfInBounds_toArray, List.set_cons_zero, List.set_cons_succ]
          refine take_heldS (i := 1) (j := 19) (v := .int .i64 (j : Int)) rfl rfl (by kernel_rfl) (by kernel_rfl) (by kernel_rfl) (fun _ _ _ h => h) (Or.inl ⟨by rfl, fun w' hw' => by obtain ⟨q0, q1⟩ := hw'; go_simp; try rfl⟩) HSt.out ?_
          simp only [Act.put, List.setIfInBounds_toArray, List.set_cons_zero, List.set_cons_succ]
          refine take_heldS (i := 2) (j := 20) (v := .slice (some ⟨g, og, none⟩) n n) rfl rfl (by kernel_rfl) (by kernel_rfl) (by kernel_rfl) (fun _ _ _ h => h) (Or.inl ⟨by rfl, fun w' hw' => by obtain ⟨q0, q1⟩ := hw'; go_simp; try rfl⟩) HSt.out ?_
          simp only [Act.put, List.setIfInBounds_toArray, List.set_cons_zero, List.set_cons_succ]
          refine take_heldS (i := 3) (j := 21) (v := .int .i64 (j : Int)) rfl rfl (by kernel_rfl) (by kernel_rfl) (by kernel_rfl) (fun _ _ _ h => h) (Or.inl ⟨by rfl, fun w' hw' => by obtain ⟨q0, q1⟩ := hw'; go_simp; try rfl⟩) HSt.out ?_
          simp only [Act.put, List.setIfInBounds_toArray, List.set_cons_zero, List.set_cons_succ]
          refine take_heldS (i := 4) (j := 22) (v := .pointer (some ⟨g, og + j, none⟩)) rfl rfl (by kernel_rfl) (by kernel_rfl) (by kernel_rfl) (fun _ _ _ h => h) (Or.inl ⟨by rfl, fun w' hw' => by obtain ⟨q0, q1⟩ := hw'; go_simp; try rfl⟩) HSt.out ?_
          simp only [Act.put, List.setIfInBounds_toArray, List.set_cons_zero, List.set_cons_succ]
          refine take_heldS (i := 6) (j := 24) (v := .int .i64 (k : Int)) rfl rfl (by kernel_rfl) (by kernel_rfl) (by kernel_rfl) (fun _ _ _ h => h) (Or.inl ⟨by rfl, fun w' hw' => by obtain ⟨q0, q1⟩ := hw'; go_simp; try rfl⟩) HSt.out ?_
          simp only [Act.put, List.setIfInBounds_toArray, List.set_cons_zero, List.set_cons_succ]
          refine wpAnyH_ready (rs := [5, 7]) (by kernel_rfl) (by simp) (AllReadyH.cons rfl (fun K hK => ?_) (AllReadyH.cons rfl (fun K hK => ?_) AllReadyH.nil))
          · obtain ⟨q0, q1, q2⟩ := HS0.out
            go_simp
            refine hK.out _ _ HSt.out (fun hS2 => ?_)
            clear hK K q0 q1 q2 hS2
            refine wpAnyH_ready (rs := [7]) (by kernel_rfl) (by simp) (AllReadyH.cons rfl (fun K hK => ?_) AllReadyH.nil)
            go_simp
            refine hK.out _ _ ⟨(HS9.out _ _ ((Ext.drew W1).t (Ext.alloc _ _)) (Chg.refl _ _)).1.1, (HS9.out _ _ ((Ext.drew W1).t (Ext.alloc _ _)) (Chg.refl _ _)).1.2.2⟩ (fun hS2 => ?_)
            clear hK K hS2
            refine wpAnyH_ready (rs := [8]) (by kernel_rfl) (by simp) (AllReadyH.cons rfl (fun K hK => ?_) AllReadyH.nil)
            refine step_append_atS rfl rfl ul_in info_in rfl rfl ((HRj.out.ext (Ext.alloc _ _)).roomS) rfl (Src.ofRdS ul_in intC_len (rdS_one intC_len _ _ k rfl) intC_one) (by simp only [maxLen]; omega) (by omega) ?_
            intro A9 c9 w9 r9 ch9 ft9
            obtain ⟨hS9, hF9⟩ := HS9.out _ w9 ((Ext.drew W1).t (Ext.alloc _ _)) ch9
            have HGr := Lib.hid (HG.out _ w9 A9 c9 ((Ext.drew W1).t (Ext.alloc _ _)) (by simpa using r9) ch9 ft9)
            refine hK.out _ _ ⟨hS9.1, hS9.2.2⟩ (fun hS2 => ?_)
            clear hK K r9 ch9 ft9 HG hS2
            simp only [Act.put, List.setIfInBounds_toArray]
            refine take_heldS (i := 9) (j := 27) (v := .pointer (some ⟨g, og + j, none⟩)) rfl rfl (by kernel_rfl) (by kernel_rfl) (by kernel_rfl) (fun _ _ _ h => h) (Or.inl ⟨by rfl, fun w' hw' => by go_simp; try rfl⟩) ⟨hS9.1, hS9.2.2⟩ ?_
            simp only [Act.put]
            have HSl : Hid ((w9.setCell ⟨g, og + j, none⟩ (.slice A9 (sn + 1) c9)).cell? ⟨b3, 0, none⟩ = some (.slice (some ⟨g, og, none⟩) n n) ∧ (w9.setCell ⟨g, og + j, none⟩ (.slice A9 (sn + 1) c9)).cell? ⟨bi, 0, none⟩ = some (.int .i64 (k : Int))) := Lib.hid ⟨(World.cell?_setCell_other _ _ _ _ (by simp; intro e; exact absurd e.symm Hne.out.1)).trans hS9.1, (World.cell?_setCell_other _ _ _ _ (by simp; intro e; exact absurd e.symm Hne.out.2)).trans hS9.2.2⟩
            obtain ⟨h9a, h9b, h9c⟩ := hS9
            refine wpAnyH_ready (rs := [10]) (by kernel_rfl) (by simp) (AllReadyH.cons rfl (fun K hK => ?_) AllReadyH.nil)
            go_simp
            refine hK.out _ _ HSl.out (fun hS2 => ?_)
            refine wpAnyH_done (by kernel_rfl) ?_ _
            exact ⟨HGr.out.1.rg.loop, rfl, HGr.out.1, fun q hq => (HGr.out.2 q hq).trans (HT.out q hq)⟩
          · go_simp
            refine hK.out _ _ ⟨(HS9.out _ _ ((Ext.drew W1).t (Ext.alloc _ _)) (Chg.refl _ _)).1.1, (HS9.out _ _ ((Ext.drew W1).t (Ext.alloc _ _)) (Chg.refl _ _)).1.2.2⟩ (fun hS2 => ?_)
            clear hK K hS2
            refine wpAnyH_ready (rs := [5]) (by kernel_rfl) (by simp) (AllReadyH.cons rfl (fun K hK => ?_) AllReadyH.nil)
            obtain ⟨⟨q0, q1, q2⟩, q3⟩ := HS9.out _ _ ((Ext.drew W1).t (Ext.alloc _ (.cells #[.int .i64 (k : Int)] 3))) (Chg.refl _ _)
            have q4 : W1.cell? ⟨g, og + j, none⟩ = some (.slice sA sn sc) := HS0.out.2.1
            go_simp
            refine hK.out _ _ ⟨q0, q2⟩ (fun hS2 => ?_)
            clear hK K q0 q1 q2 q3 q4 hS2
            refine wpAnyH_ready (rs := [8]) (by kernel_rfl) (by simp) (AllReadyH.cons rfl (fun K hK => ?_) AllReadyH.nil)
            refine step_append_atS rfl rfl ul_in info_in rfl rfl ((HRj.out.ext (Ext.alloc _ _)).roomS) rfl (Src.ofRdS ul_in intC_len (rdS_one intC_len _ _ k rfl) intC_one) (by simp only [maxLen]; omega) (by omega) ?_
            intro A9 c9 w9 r9 ch9 ft9
            obtain ⟨hS9, hF9⟩ := HS9.out _ w9 ((Ext.drew W1).t (Ext.alloc _ _)) ch9
            have HGr := Lib.hid (HG.out _ w9 A9 c9 ((Ext.drew W1).t (Ext.alloc _ _)) (by simpa using r9) ch9 ft9)
            refine hK.out _ _ ⟨hS9.1, hS9.2.2⟩ (fun hS2 => ?_)
            clear hK K r9 ch9 ft9 HG hS2
            simp only [Act.put, List.setIfInBounds_toArray]
            refine take_heldS (i := 9) (j := 27) (v := .pointer (some ⟨g, og + j, none⟩)) rfl rfl (by kernel_rfl) (by kernel_rfl) (by kernel_rfl) (fun _ _ _ h => h) (Or.inl ⟨by rfl, fun w' hw' => by go_simp; try rfl⟩) ⟨hS9.1, hS9.2.2⟩ ?_
            simp only [Act.put]
            have HSl : Hid ((w9.setCell ⟨g, og + j, none⟩ (.slice A9 (sn + 1) c9)).cell? ⟨b3, 0, none⟩ = some (.slice (some ⟨g, og, none⟩) n n) ∧ (w9.setCell ⟨g, og + j, none⟩ (.slice A9 (sn + 1) c9)).cell? ⟨bi, 0, none⟩ = some (.int .i64 (k : Int))) := Lib.hid ⟨(World.cell?_setCell_other _ _ _ _ (by simp; intro e; exact absurd e.symm Hne.out.1)).trans hS9.1, (World.cell?_setCell_other _ _ _ _ (by simp; intro e; exact absurd e.symm Hne.out.2)).trans hS9.2.2⟩
            obtain ⟨h9a, h9b, h9c⟩ := hS9
            refine wpAnyH_ready (rs := [10]) (by kernel_rfl) (by simp) (AllReadyH.cons rfl (fun K hK => ?_) AllReadyH.nil)
            go_simp
            refine hK.out _ _ HSl.out (fun hS2 => ?_)
            refine wpAnyH_done (by kernel_rfl) ?_ _
            exact ⟨HGr.out.1.rg.loop, rfl, HGr.out.1, fun q hq => (HGr.out.2 q hq).trans (HT.out q hq)⟩
      case post =>
        clear hrec hread
        rintro e W2 ⟨⟨v, rfl⟩, ⟨T, hj⟩ | hx⟩
        · refine ⟨⟨_, rfl⟩, .ready, none, by simp, hj.rg.loop, ?_⟩
          have hj2 := hj.put (rec .exhausted none)
          clear hj
          generalize W2.putObj (w4.heap.size + 1) (rec .exhausted none) = W3 at *
          obtain ⟨ss', q1, q2, q3⟩ := hj2.out
          rw [befO_all] at q1
          have hD0 : ∀ D, D < w4.heap.size → ¬ (foot A1 n D ∨ foots ss D) → ¬ (foot A1 n D ∨ foots ss' D) := fun D hlt hn hf => (q2 D hf).elim (fun h => hn h.1) (fun h => by omega)
          have hDl : ∀ D ∈ Ds, D < w4.heap.size := HQ.out.2.2.1.lt
          have hCd : Cds w.heap.size W3 (w4.heap.size :: Ds) := (HQ.out.2.2.1.chg hj2.rg.chg (fun D hD hf => HD.out.2.2 D hD (hf.elim .inl (fun h => .inr (.inl h))))).cons hj2.rg.defd HQ.out.2.2.2.1.size (fun hm => by have := hDl _ hm; omega)
          have hl3 := HQ.out.2.1.lt
          have HN : Hid (({ target := .collected w4.heap.size, args := #[] } : Deferred) :: ds = (w4.heap.size :: Ds).map collD ∧ Lsi intv w.heap.size W3 A1 n n ss' (befL p n (k + 1)) ∧ Blk W3 b3 69 #[.slice A1 n n] ∧ ¬ foots ss' b3 ∧ Cds w.heap.size W3 (w4.heap.size :: Ds) ∧ (∀ D ∈ w4.heap.size :: Ds, ¬ (foot A1 n D ∨ foots ss' D ∨ D = b3)) ∧ Ext w W3) := Lib.hid ⟨by rw [HD.out.1]; rfl, q1, hj2.rg.blk HQ.out.2.1 (fun hf => hf.elim HNF.out HD.out.2.1), fun hf => hD0 b3 hl3 (fun h => h.elim HNF.out HD.out.2.1) (.inr hf), hCd, fun D hD => by
            rcases List.mem_cons.1 hD with rfl | hD
            · rintro (hf | hf | hf)
              · exact (q2 _ (.inl hf)).elim (fun h => by omega) (fun h => by omega)
              · exact (q2 _ (.inr hf)).elim (fun h => by omega) (fun h => by omega)
              · omega
            · have h1 := HD.out.2.2 D hD
              have h2 := hD0 D (hDl D hD) (fun h => h1 (h.elim .inl (fun h => .inr (.inl h))))
              rintro (hf | hf | hf)
              · exact h2 (.inl hf)
              · exact h2 (.inr hf)
              · exact h1 (.inr (.inr hf)), HQ.out.2.2.2.1.trans (hj2.rg.chg.below HQ.out.2.2.2.1.size (fun q hq hf => by have := HQ.out.1.new q hf; omega))⟩
          clear hj2 q1 q2 q3 hD0 hDl hCd hl3
          go_wp2_with fail
          go_roundg (n - (k + 1))
          case rel => exact ⟨k + 1, ss', w4.heap.size :: Ds, by omega, by go_num, by omega, HN⟩
          case measure => omega
        · exact hx.elim
    · obtain rfl : n = k := by omega
      have hltI : ¬ ((n : Int) < (n : Int)) := by omega
      have c3 := HJ.out.2.2.1.cell0
      go_wp2_with fail
      try rw [Exit.noGoto_ret]
      refine leaveN (B := w.heap.size) (Ds := Ds) HJ.out.1 HJ.out.2.2.2.2.1 (fun w' ch => ⟨.slice A1 n n, by simp [results, Try.results35, go_sem], A1, ss, rfl, HJ.out.2.1.chg ch (fun q hq hD => HJ.out.2.2.2.2.2.1 q hD (hq.elim .inl (fun h => .inr (.inl h)))), HJ.out.2.2.2.2.2.2.trans (ch.below HJ.out.2.2.2.2.2.2.size (fun q hq hD => by have := HJ.out.2.2.2.2.1.lo q hD; omega))⟩)
end Go.Proofs.Ytlneifgihdickaa
