/- Odl: slices.DeleteFunc, For, Least. -/
import Derived.Test.YtdjpggnadelnaaaOdf
namespace Go.Fx
open Go.RowKit
/-- DeleteFunc at place j: the first i ones are kept. -/
def DelJ (p : Int) (l : List Ev) (A : Option Addr) (n c : Nat) (w : World) (i j : Nat) (W : World) : Prop :=
  ∃ G : List Ev, RoomS 5 W A n c ((keepF p (l.take j) ++ G ++ l.drop j).flatMap evC) ∧ (keepF p (l.take j)).length = i ∧ i + G.length = j ∧ 0 < G.length ∧ Chg (foot A c) w W
section
variable {p : Int} {l : List Ev} {A : Option Addr} {n c : Nat} {w W W' : World} {i j : Nat} {x : Ev}
theorem DelJ.go (h : DelJ p l A n c w i j W) (e : Ext W W') : DelJ p l A n c w i j W' := by
  obtain ⟨G, h1, h2, h3, h4, h5⟩ := h
  exact ⟨G, h1.ext e, h2, h3, h4, h5.e e⟩
theorem DelJ.at_ (h : DelJ p l A n c w i j W) (hx : l[j]? = some x) : ∃ (L : List Ev) (y : Ev), RoomS 5 W A n c (L.flatMap evC) ∧ L[j]? = some x ∧ L[i]? = some y ∧ i < j := by
  obtain ⟨G, h1, h2, h3, h4, h5⟩ := h
  have hl : (keepF p (l.take j) ++ G).length = j := by rw [List.length_append]; omega
  have hj := (List.getElem?_eq_some_iff.1 hx).1
  refine ⟨_, G[0], h1, ?_, ?_, by omega⟩
  · rw [List.getElem?_append_right (by omega), hl, Nat.sub_self, List.getElem?_drop]
    exact hx
  · rw [List.append_assoc, List.getElem?_append_right (by omega), h2, Nat.sub_self, List.getElem?_append_left h4]
    exact List.getElem?_eq_getElem h4
theorem drop_cons (hx : l[j]? = some x) : l.drop j = x :: l.drop (j + 1) := by
  obtain ⟨hj, rfl⟩ := List.getElem?_eq_some_iff.1 hx
  exact List.drop_eq_getElem_cons hj
theorem DelJ.skip (h : DelJ p l A n c w i j W) (hx : l[j]? = some x) (hp : farB p x = true) : DelJ p l A n c w i (j + 1) W := by
  obtain ⟨G, h1, h2, h3, h4, h5⟩ := h
  have hk := keep_snoc (p := p) hx
  rw [if_pos hp] at hk
  refine ⟨G ++ [x], ?_, by rw [hk]; exact h2, by rw [List.length_append]; simp; omega, by simp, h5⟩
  rw [hk, ← List.append_assoc, List.append_assoc, List.singleton_append, ← drop_cons hx]
  exact h1
theorem DelJ.keep {g o : Nat} (h : DelJ p l (some ⟨g, o, none⟩) n c w i j W) (hx : l[j]? = some x) (hp : farB p x = false) (hjn : j < n) (hc : 0 < c) : DelJ p l (some ⟨g, o, none⟩) n c w (i + 1) (j + 1) (fiveE W g (o + i * 5) x) := by
  obtain ⟨L, y, r, -, hy, hij⟩ := h.at_ hx
  obtain ⟨G, h1, h2, h3, h4, h5⟩ := h
  have hk := keep_snoc (p := p) hx
  rw [if_neg (by rw [hp]; decide)] at hk
  obtain ⟨z, G0, rfl⟩ : ∃ z G0, G = z :: G0 := by
    cases G with
    | nil => simp at h4
    | cons z G0 => exact ⟨z, G0, rfl⟩
  have hz : (keepF p (l.take j) ++ z :: G0 ++ l.drop j)[i]? = some z := by
    rw [List.append_assoc, List.getElem?_append_right (by omega), h2, Nat.sub_self]
    rfl
  have hs := h1.fiveE hz (by omega) x
  refine ⟨G0 ++ [x], ?_, by rw [hk, List.length_append]; simp; omega, by rw [List.length_append]; simp at h3 ⊢; omega, by simp, h5.t (chg_fiveE _ _ _ _ ⟨hc, o, rfl⟩)⟩
  have he : (keepF p (l.take j) ++ z :: G0 ++ l.drop j).set i x = keepF p (l.take (j + 1)) ++ (G0 ++ [x]) ++ l.drop (j + 1) := by
    rw [List.append_assoc, List.set_append_right _ _ (by omega), h2, Nat.sub_self, hk, drop_cons hx]
    simp
  rw [he] at hs
  exact hs
theorem DelJ.first {k : Nat} (hr : RoomS 5 w A n c (l.flatMap evC)) (hk : l[k]? = some x) (hp : farB p x = true) (hb : ∀ y ∈ l.take k, farB p y = false) : DelJ p l A n c w k (k + 1) w := by
  have hk1 := keep_snoc (p := p) hk
  rw [if_pos hp, keep_all hb] at hk1
  have hlt := (List.getElem?_eq_some_iff.1 hk).1
  refine ⟨[x], ?_, by rw [hk1, List.length_take]; omega, by simp, by simp, Chg.refl _ _⟩
  rw [hk1, List.append_assoc, List.singleton_append, ← drop_cons hk, List.take_append_drop]
  exact hr
end
end Go.Fx
namespace Go.Proofs.Ytdjpggnadelnaaa
open Go.RowKit Go.Fx
/-- What DeleteFunc leaves. -/
def DelP (r : List Ev) (A : Option Addr) (c : Nat) (w : World) (en : Ending) (w' : World) : Prop :=
  ∃ m, en = .returned (.slice A m c) ∧ RoomS 5 w' A m c (r.flatMap evC) ∧ r.length = m ∧ Chg (foot A c) w w'
set_option maxRecDepth 100000 in
set_option maxHeartbeats 4000000 in
theorem del_ (p : Int) (B : Nat) (A : Option Addr) (n c : Nat) (l : List Ev) (w : World) (hr : RoomS 5 w A n c (l.flatMap evC)) (hb : Blk w B 3 #[.int .i64 p]) (hne : ¬ foot A c B) (hn : n ≤ 1000) :
    Calls Try.prog 38 #[.slice A n c, .func (.func 39) #[] #[.pointer (some ⟨B, 0, none⟩)]] w (DelP (keepF p l) A c w) := by
  have HI := Lib.hid (index_far p B A n c l w (hr.rd evC_len (by decide)) (by omega) hb)
  have hl : l.length = n := (hr.rd evC_len (by decide)).1
  by_cases hf : l.findIdx (farB p) < l.length
  · obtain ⟨k, hk⟩ : ∃ k, k = l.findIdx (farB p) := ⟨_, rfl⟩
    rw [← hk] at hf
    have hiv : idxI (farB p) l = (k : Int) := by unfold idxI; rw [← hk, if_pos hf]
    have hx := List.getElem?_eq_getElem hf
    have hpx : farB p l[k] = true := by subst hk; exact List.findIdx_getElem
    have hbk : ∀ y ∈ l.take k, farB p y = false := fun y hy => by
      obtain ⟨q, hq, rfl⟩ := List.getElem_of_mem hy
      rw [List.length_take] at hq
      rw [List.getElem_take]
      have h1 := List.not_of_lt_findIdx (p := farB p) (xs := l) (i := q) (by omega)
      simpa using h1
    have HD := Lib.hid (DelJ.first hr hx hpx hbk)
    rw [hiv] at HI
    obtain ⟨g, o, rfl, _⟩ := hr.some_ (by have := hr.2.1; omega)
    have hc0 : 0 < c := by have := hr.2.1; omega
    have hkm : ((k : Int) == -1) = false := by simp
    have hkm2 : ¬ ((k : Int) = -1) := by omega
    have hkn : k < n := by omega
    have HB := Lib.hid (fun W (x : Ext w W ∨ Chg (foot (some ⟨g, o, none⟩) c) w W) => show Blk W B 3 #[.int .i64 p] from x.elim hb.ext (fun ch => hb.chg ch hne))
    have Hl := Lib.hid hl
    clear hr hb hne hf hiv hx hpx hbk hk hl
    go_enter Try.func38, Try.ntmps38
    go_wp2_with fail
    refine HI.out.mono ?_; rintro en w1 ⟨rfl, e1⟩
    have HD1 := Lib.hid (HD.out.go e1)
    clear e1 HD HI
    go_wp2_with fail
    go_loopw [5, 6] (fun vi vj wr => ∃ i j : Nat, j ≤ n ∧ i < j ∧ vi = .int .i64 (i : Int) ∧ vj = .int .i64 (j : Int) ∧ Hid (DelJ p l (some ⟨g, o, none⟩) n c w i j wr)) (fun _ j _ => n - (intOf j).toNat)
    case atStart => exact ⟨k, k + 1, by omega, by omega, rfl, rfl, HD1⟩
    case round =>
      clear HD1
      obtain ⟨i, j, hj, hij, rfl, rfl, HD⟩ := hrel
      by_cases hlt : j < n
      · have hltI : (j : Int) < (n : Int) := by omega
        have hxj := List.getElem?_eq_getElem (l := l) (i := j) (by have := Hl.out; omega)
        obtain ⟨x, hx⟩ : ∃ x, x = l[j]'(by have := Hl.out; omega) := ⟨_, rfl⟩
        rw [← hx] at hxj
        obtain ⟨L, y, r, hLj, hLi, -⟩ := HD.out.at_ hxj
        obtain ⟨x0, x1, x2, x3, x4, -⟩ := r.cells5 hLj
        have HBr := Lib.hid (HB.out wr (.inr (by obtain ⟨_, _, _, _, _, h⟩ := HD.out; exact h)))
        obtain ⟨W8, hW8⟩ : ∃ W8, W8 = wr.alloc (.cells #[.int .i64 x.t, .int .i64 x.s, .int .i64 x.q, .int .i64 x.to, .int .i64 x.v] 35) := ⟨_, rfl⟩
        have hx8 : Ext wr W8 := by rw [hW8]; exact Ext.alloc _ _
        have hb8 : Blk W8 wr.heap.size 35 #[.int .i64 x.t, .int .i64 x.s, .int .i64 x.q, .int .i64 x.to, .int .i64 x.v] := by rw [hW8]; exact Blk.new _ _ _
        have HF := Lib.hid (for1_ x p B W8 (HBr.out.ext hx8))
        have HD8 := Lib.hid (HD.out.go hx8)
        have HR8 := Lib.hid (r.ext hx8)
        have HB8 := Lib.hid hb8
        have HW8 := Lib.hid hW8
        have Hxj := Lib.hid hxj
        have HLi := Lib.hid hLi
        unfold evV at HF
        clear hxj hx r hLj hLi hW8 hx8 hb8 HBr HD
        cases hp : farB p x with
        | true =>
          rw [hp] at HF
          have Hp := Lib.hid hp
          clear hp
          go_wp2_with fail
          rw [← HW8.out]
          refine HF.out.mono ?_; rintro en w2 ⟨rfl, e2⟩
          have HD9 := Lib.hid ((HD8.out.go e2).skip Hxj.out Hp.out)
          clear e2 HF HD8 HB8 HW8 HR8 x0 x1 x2 x3 x4
          go_wp2_with fail
          go_roundw
          case rel => exact ⟨i, j + 1, by omega, by omega, rfl, by go_num, HD9⟩
          case measure => simp [intOf]; omega
        | false =>
          rw [hp] at HF
          have Hp := Lib.hid hp
          clear hp
          go_wp2_with fail
          rw [← HW8.out]
          refine HF.out.mono ?_; rintro en w2 ⟨rfl, e2⟩
          have HD9 := Lib.hid ((HD8.out.go e2).keep Hxj.out Hp.out hlt hc0)
          obtain ⟨y0, y1, y2, y3, y4, hfz⟩ := (HR8.out.ext e2).cells5 HLi.out
          have f0 := hfz (by have := HR8.out.2.1; omega) 0 (by decide)
          have f1 := hfz (by have := HR8.out.2.1; omega) 1 (by decide)
          have f2 := hfz (by have := HR8.out.2.1; omega) 2 (by decide)
          have f3 := hfz (by have := HR8.out.2.1; omega) 3 (by decide)
          have f4 := hfz (by have := HR8.out.2.1; omega) 4 (by decide)
          rw [Nat.add_zero] at f0
          have hbv := (HB8.out.ext e2).cell
          have v0 := hbv 0
          have v1 := hbv 1
          have v2 := hbv 2
          have v3 := hbv 3
          have v4 := hbv 4
          simp only [List.getElem?_toArray, List.getElem?_cons_zero, List.getElem?_cons_succ] at v0 v1 v2 v3 v4
          have hin : (i : Int) < (n : Int) := by omega
          clear hbv hfz e2 HF HD8 HB8 HW8 HR8 x0 x1 x2 x3 x4
          go_wp2_with fail
          go_roundw
          case rel => exact ⟨i + 1, j + 1, by omega, by omega, by go_num, by go_num, HD9⟩
          case measure => simp [intOf]; omega
      · obtain rfl : n = j := by omega
        have hltI : ¬ ((n : Int) < (n : Int)) := by omega
        obtain ⟨G, r, hK, hG, hG0, ch⟩ := HD.out
        rw [List.take_of_length_le (by have := Hl.out; omega)] at r hK
        rw [List.drop_eq_nil_of_le (by have := Hl.out; omega), List.append_nil, List.flatMap_append] at r
        have hnc := r.2.1
        obtain ⟨oi, hoi⟩ : ∃ oi, oi = o + i * 5 := ⟨_, rfl⟩
        obtain ⟨ni, hni⟩ : ∃ ni, ni = n - i := ⟨_, rfl⟩
        have hs1 := fun w' => ev_from (A := some ⟨g, o, none⟩) (n := n) (c := c) (k := i) (li := (i : Int)) w' rfl (by omega)
        have hs2 := fun w' => ev_to (A := some ⟨g, o, none⟩) (n := n) (c := c) (hi := i) (li := (i : Int)) w' rfl (by omega)
        rw [show fromS 5 (some ⟨g, o, none⟩) c i = some ⟨g, oi, none⟩ by unfold fromS; rw [if_neg (by omega), Option.map_some, Addr.add_lit, hoi], ← hni] at hs1
        have hok : ∀ q, q < ni * 5 → (wr.cell? ⟨g, oi + q, none⟩).isSome = true ∧ wr.frozen? ⟨g, oi + q, none⟩ = false := fun q hq => by
          rw [hoi, Nat.add_assoc]
          exact r.okAt (by omega)
        have Hok := Lib.hid hok
        have hfin : ∀ w', w' = wr.setCells g oi (Builtin.zeroCells (.agg #[.int .i64 0, .int .i64 0, .int .i64 0, .int .i64 0, .int .i64 0] : Value).cells ni).toList → RoomS 5 w' (some ⟨g, o, none⟩) i c ((keepF p l).flatMap evC) ∧ Chg (foot (some ⟨g, o, none⟩) c) w w' := fun w' h => by
          have h1 := (r.setCells (i * 5) (Builtin.zeroCells (.agg #[.int .i64 0, .int .i64 0, .int .i64 0, .int .i64 0, .int .i64 0] : Value).cells ni).toList (by rw [zeroE_len]; omega)).take (k := i) (by omega)
          rw [← hoi, ← h] at h1
          refine ⟨?_, ch.t (by rw [h]; exact chg_setCells _ _ _ _ ⟨hc0, o, rfl⟩)⟩
          have hkl : ((keepF p l).flatMap evC).length = i * 5 := by rw [flat_len evC_len, hK]
          rw [List.append_assoc, List.take_append_of_le_length (by rw [List.length_take, List.length_append]; omega), List.take_append_of_le_length (by omega), List.take_take, Nat.min_self, List.take_of_length_le (by omega)] at h1
          exact h1
        have HFin := Lib.hid hfin
        have HK := Lib.hid hK
        have hni0 : 0 < ni := by omega
        clear hok hfin r hK hG hG0 ch hoi hni HD
        go_wp2_with (refine wpl_clearS (by rfl) rfl ul_ev info_ev rfl hni0 (fun q hq => (Hok.out q (by rw [zeroE_len] at hq; exact hq)).1) (fun q hq => (Hok.out q (by rw [zeroE_len] at hq; exact hq)).2) (zeroE_one _) ?_)
        intro w9 h9; refine Lib.hid ?_
        have HR9 := Lib.hid (HFin.out w9 h9.out)
        clear h9 HFin Hok
        go_wp2_with fail
        go_ret
        exact ⟨i, rfl, HR9.out.1, HK.out, HR9.out.2⟩
  · have hall : ∀ y ∈ l, farB p y = false := fun y hy => by
      obtain ⟨q, hq, rfl⟩ := List.getElem_of_mem hy
      have h1 := List.not_of_lt_findIdx (p := farB p) (xs := l) (i := q) (by omega)
      simpa using h1
    have hiv : idxI (farB p) l = -1 := by unfold idxI; rw [if_neg hf]
    rw [hiv] at HI
    have HR := Lib.hid hr
    have HK := Lib.hid (keep_all hall)
    have Hl := Lib.hid hl
    clear hr hb hne hf hall hiv hl
    go_enter Try.func38, Try.ntmps38
    go_wp2_with fail
    refine HI.out.mono ?_; rintro en w1 ⟨rfl, e1⟩
    have E1 := Lib.hid e1
    clear e1
    go_wp2_with fail
    go_ret
    exact ⟨n, rfl, by rw [HK.out]; exact HR.out.ext E1.out, by rw [HK.out]; exact Hl.out, Chg.ofExt E1.out⟩
/-- What For tells. -/
def ForP (p : Int) (evs : List Ev) (w : World) (en : Ending) (w' : World) : Prop :=
  ∃ A m c, en = .returned (.slice A m c) ∧ RoomS 5 w' A m c ((keepF p (isort evs)).flatMap evC) ∧ (keepF p (isort evs)).length = m ∧ (∀ k, foot A c k → w.heap.size ≤ k) ∧ Ext w w'
set_option maxRecDepth 100000 in
theorem obx_for {w : World} {g n c : Nat} {s lim e : Int} {evs : List Ev} {A : Option Addr} (p : Int) (h : Obx w g s lim e evs A n c) :
    Calls Try.prog 25 #[.pointer (some ⟨g, 0, none⟩), .int .i64 p] w (ForP p evs w) := by
  obtain ⟨W, hW⟩ : ∃ W, W = w.alloc (.cells #[.int .i64 p] 3) := ⟨_, rfl⟩
  have hb : Blk W w.heap.size 3 #[.int .i64 p] := by rw [hW]; exact Blk.new _ _ _
  have hx : Ext w W := by rw [hW]; exact Ext.alloc _ _
  have HS := Lib.hid (obx_sorted (h.ext hx))
  have HB := Lib.hid (And.intro hb hx)
  have HW := Lib.hid hW
  have hn := h.n_le
  clear h hb hx hW
  go_enter Try.func25, Try.ntmps25
  go_wp2_with fail
  rw [← HW.out]
  refine HS.out.mono ?_; rintro en w1 ⟨A1, c1, rfl, r1, f1, e1⟩
  have HD := Lib.hid (del_ p w.heap.size A1 n c1 (isort evs) w1 r1 (HB.out.1.ext e1) (fun hf => by have h1 := f1 _ hf; have h2 := HB.out.1.lt; omega) (by omega))
  have HE := Lib.hid (And.intro (HB.out.2.t e1) (show ∀ k, foot A1 c1 k → w.heap.size ≤ k from fun k hk => Nat.le_trans HB.out.2.size (f1 k hk)))
  clear r1 f1 e1 HS HW
  go_wp2_with fail
  refine HD.out.mono ?_; rintro en w2 ⟨m, rfl, r2, l2, ch⟩
  have HR := Lib.hid (show RoomS 5 w2 A1 m c1 ((keepF p (isort evs)).flatMap evC) ∧ (keepF p (isort evs)).length = m ∧ (∀ k, foot A1 c1 k → w.heap.size ≤ k) ∧ Ext w w2 from ⟨r2, l2, HE.out.2, HE.out.1.trans (ch.below HE.out.1.size (fun k hk hf => by have := HE.out.2 k hf; omega))⟩)
  clear r2 l2 ch HD
  go_wp2_with fail
  go_ret
  exact ⟨A1, m, c1, rfl, HR.out⟩
/-- The least one. -/
def leastE (evs : List Ev) : Ev := (isort evs).headD ⟨0, 0, 0, 0, 0⟩
set_option maxRecDepth 100000 in
theorem obx_least {w : World} {g n c : Nat} {s lim e : Int} {evs : List Ev} {A : Option Addr} (h : Obx w g s lim e evs A n c) :
    Calls Try.prog 27 #[.pointer (some ⟨g, 0, none⟩)] w fun en w' => en = .returned (.tuple #[evV (leastE evs), .bool (decide (0 < n))]) ∧ Ext w w' := by
  obtain ⟨W, hW⟩ : ∃ W, W = w.alloc (.cells #[.int .i64 0, .int .i64 0, .int .i64 0, .int .i64 0, .int .i64 0] 35) := ⟨_, rfl⟩
  have hb : Blk W w.heap.size 35 #[.int .i64 0, .int .i64 0, .int .i64 0, .int .i64 0, .int .i64 0] := by rw [hW]; exact Blk.new _ _ _
  have hx : Ext w W := by rw [hW]; exact Ext.alloc _ _
  have HS := Lib.hid (obx_sorted (h.ext hx))
  have HB := Lib.hid (And.intro hb hx)
  have HW := Lib.hid hW
  have hn := h.n_le
  have hl : (isort evs).length = n := by rw [isort_len]; exact h.len
  have Hl := Lib.hid hl
  clear h hb hx hW hl
  go_enter Try.func27, Try.ntmps27
  go_wp2_with fail
  rw [← HW.out]
  refine HS.out.mono ?_; rintro en w1 ⟨A1, c1, rfl, r1, f1, e1⟩
  have HR := Lib.hid (r1.rd evC_len (by decide))
  have hbb := HB.out.1.ext e1
  have HE := Lib.hid (HB.out.2.t e1)
  have b0 := hbb.cell 0
  have b1 := hbb.cell 1
  have b2 := hbb.cell 2
  have b3 := hbb.cell 3
  have b4 := hbb.cell 4
  simp only [List.getElem?_toArray, List.getElem?_cons_zero, List.getElem?_cons_succ] at b0 b1 b2 b3 b4
  have f0 := hbb.frozen 0
  have f1' := hbb.frozen 1
  have f2 := hbb.frozen 2
  have f3 := hbb.frozen 3
  have f4 := hbb.frozen 4
  clear r1 f1 e1 HS HW hbb
  by_cases h0 : n = 0
  · subst h0
    have hle : leastE evs = ⟨0, 0, 0, 0, 0⟩ := by unfold leastE; rw [List.eq_nil_of_length_eq_zero Hl.out]; rfl
    have HLe := Lib.hid hle
    clear hle
    go_wp2_with fail
    refine bodyPost_ret (v := .tuple #[evV ⟨0, 0, 0, 0, 0⟩, .bool false]) (by simp [results, Try.results27, go_sem, b0, b1, b2, b3, b4, evV]) rfl ⟨by rw [HLe.out]; rfl, HE.out.trans ((chg_fiveE w1 w.heap.size 0 ⟨0, 0, 0, 0, 0⟩ (T := fun k => k = w.heap.size) rfl).below HE.out.size (fun k hk e => by omega))⟩
  · obtain ⟨b, o, x, rfl, _, hx, x0, x1, x2, x3, x4⟩ := HR.out.ev (k := 0) (by omega)
    have hle : leastE evs = x := by
      unfold leastE
      cases hq : isort evs with
      | nil => rw [hq] at hx; simp at hx
      | cons a t => rw [hq] at hx; simpa using hx
    have HLe := Lib.hid hle
    clear hle hx
    have hn0 : ((n : Int) == 0) = false := by simp; omega
    have hn1 : decide (0 < n) = true := decide_eq_true (by omega)
    have hnI : (0 : Int) < (n : Int) := by omega
    simp only [Nat.zero_mul, Nat.add_zero] at x0 x1 x2 x3 x4
    go_wp2_with fail
    refine bodyPost_ret (v := .tuple #[evV x, .bool true]) (by simp [results, Try.results27, go_sem, b0, b1, b2, b3, b4, evV]) rfl ⟨by rw [HLe.out, hn1], HE.out.trans ((chg_fiveE w1 w.heap.size 0 x (T := fun k => k = w.heap.size) rfl).below HE.out.size (fun k hk e => by omega))⟩
end Go.Proofs.Ytdjpggnadelnaaa
