/- OutboxWrong: the walk of the law: for any numbers it answers true and leaves all memory as it was (no condition). -/
import Derived.Test.YtdjpggnadelnaaaOwp
import Derived.Test.YtdjpggnadelnaaaOaw
import Derived.StillTailTactics
import Derived.Deep.CutRange
import Derived.Deep.CutBlock
namespace Go.Proofs.Ytdjpggnadelnaaa
open Go.RowKit Go.Fx
theorem ul_sb : Try.prog.underlying 28 = some (.slice 52) := by kernel_rfl
theorem info_sb : (Try.prog.info? 52).map (fun i => (i.zero, i.size, i.bytes)) = some (some (.agg #[.int .u8 0, .int .u8 0, .int .u8 0, .int .i64 0]), 4, 16) := by kernel_rfl
theorem sbC_one (x : Sb) : ∀ u ∈ sbC x, u.oneCell' = true := by
  intro u hu
  simp only [sbC, List.mem_cons, List.not_mem_nil, or_false] at hu
  rcases hu with rfl | rfl | rfl | rfl <;> rfl
theorem sb_cap {A : Option Addr} {n c hi : Nat} {li : Int} (w : World) (e : li = (hi : Int)) (h2 : hi ≤ c) :
    (Instr.sliceAt 28 (.slice A n c) none (some (.int .i64 li)) (some (.int .i64 li))).run Try.prog w = .ok (.slice A hi hi) w := by
  subst e
  have h4 : (hi : Int) ≤ (c : Int) := by omega
  have h5 : (0 : Int) ≤ (hi : Int) := by omega
  simp [go_sem, sliced, h4, Addr.add]
/-- The events, with what is wrong with them. -/
structure WrJ (w : World) (e : Int) (L : List Ev) (A : Option Addr) (n k er : Nat) (W : World) : Prop where
  rd : RdS 5 evC W A n L
  ok : ∀ x ∈ L, EvOk x
  put : putF 7 100 e [] L = ((k : Int), er, [])
  le : n ≤ 100
  ext : Ext w W
theorem WrJ.go {w W W' : World} {e : Int} {L : List Ev} {A : Option Addr} {n k er : Nat} (h : WrJ w e L A n k er W) (x : Ext W W') : WrJ w e L A n k er W' := ⟨h.rd.ext x, h.ok, h.put, h.le, h.ext.t x⟩
theorem merge_err {Al : Option Addr} {ps : List (Option Nat)} {bs : List (Option (Int × List Ev))} {w : World} {o er : Nat} {erI : Int} (hm : ∀ r, MgB bs r → r = ([], (o : Int), er)) (hI : (er : Int) = erI) (h : Rd ptrv w Al 3 ps) (hb : Bxs w ps bs) :
    Calls Try.prog 15 #[.slice Al 3 3] w fun en w' => ∃ A c, en = .returned (.tuple #[.slice A 0 c, .int .i64 (o : Int), .int .i64 erI]) ∧ Ext w w' := by
  refine (obx_merge Al 3 3 ps bs w h hb (by omega)).mono ?_
  rintro en w' ⟨r, hr, A, n, c, rfl, _, hl, _, hx⟩
  obtain rfl := hm r hr
  obtain rfl : n = 0 := by simpa using hl.symm
  exact ⟨A, c, by rw [← hI], hx⟩
theorem bxs3 {w : World} {ps : List (Option Nat)} {bs : List (Option (Int × List Ev))} (hl : ps.length = bs.length) (h : ∀ (i : Nat) (p : Option Nat), ps[i]? = some p → (p = none ∧ bs[i]? = some none) ∨ ∃ g s lim e evs A n c, p = some g ∧ bs[i]? = some (some (s, evs)) ∧ Obx w g s lim e evs A n c) : Bxs w ps bs := ⟨hl, h⟩
set_option maxRecDepth 100000 in
set_option maxHeartbeats 8000000 in
theorem walkOutboxWrong (e : Int) (A1 : Option Addr) (n1 c1 : Nat) (l : List Sb) (a2 a3 z : Int) (w : World) (h0 : (Lit.int .u16 e).wf = true) (h1 : SbArg w A1 n1 c1 l) (h2 : (Lit.int .u8 a2).wf = true) (h3 : (Lit.int .u8 a3).wf = true) (h4 : (Lit.int .i64 z).wf = true) :
    Calls Try.prog 5 #[.int .u16 e, .slice A1 n1 c1, .int .u8 a2, .int .u8 a3, .int .i64 z] w fun en w' => en = .returned (.bool true) ∧ Ext w w' := by
  have hb0 := bounds_u16 h0
  have hb2 := bounds_u8 h2
  have hb3 := bounds_u8 h3
  have hb4 := bounds_i64 h4
  obtain ⟨b2, rfl⟩ : ∃ b : Nat, a2 = (b : Int) := ⟨a2.toNat, by omega⟩
  obtain ⟨b3, rfl⟩ : ∃ b : Nat, a3 = (b : Int) := ⟨a3.toNat, by omega⟩
  have hwe : IntKind.i64.wrap e = e := IntWalk.i64_in _ (by omega)
  have hwe1 : IntKind.i64.wrap (e + 1) = e + 1 := IntWalk.i64_in _ (by omega)
  have hwb3 : IntKind.i64.wrap (b3 : Int) = (b3 : Int) := IntWalk.i64_in _ (by omega)
  obtain ⟨hh, hhe⟩ : ∃ hh, hh = min n1 30 := ⟨_, rfl⟩
  have hh30 : (if (30 : Int) < (n1 : Int) then (30 : Int) else (n1 : Int)) = (hh : Int) := by split <;> omega
  have hhn : hh ≤ n1 ∧ hh ≤ 30 := by omega
  have hsl := fun w' => sb_cap (A := A1) (n := n1) (c := c1) (hi := hh) (li := (hh : Int)) w' rfl (by have := h1.le; omega)
  obtain ⟨n5, hn5⟩ : ∃ n5, n5 = hh + 1 := ⟨_, rfl⟩
  have hhI : (n5 : Int) - 1 = (hh : Int) := by omega
  obtain ⟨own, hown⟩ : ∃ own, own = madeF 7 (e + 1) 0 (l.take hh ++ [⟨0, 0, 2, 0⟩]) := ⟨_, rfl⟩
  have hol : own.length = n5 := by rw [hown, madeF_len, List.length_append, List.length_take, h1.rd.1]; simp; omega
  have hoo : okP 7 (e + 1) (-1) own = true := by rw [hown]; exact madeF_ok (by decide) (by decide) (by omega) (by omega) (by omega) _ _ _ (by omega) (by rw [List.length_append, List.length_take]; simp; omega)
  have hsb : ∀ y ∈ l.take hh ++ [(⟨0, 0, 2, 0⟩ : Sb)], SbOk y := fun y hy => (List.mem_append.1 hy).elim (fun h => h1.ok y (List.mem_of_mem_take h)) (fun h => by
    obtain rfl : y = ⟨0, 0, 2, 0⟩ := by simpa using h
    constructor <;> decide)
  have hoe : ∀ x ∈ own, EvOk x := by rw [hown]; exact madeF_evok (by decide) (by decide) (by omega) (by omega) _ _ hsb (by rw [List.length_append, List.length_take]; simp; omega)
  have HOk := Lib.hid (And.intro hoo hoe)
  have Hol := Lib.hid hol
  have HMd : Hid (∀ (W : World) (A : Option Addr) (c : Nat), RoomS 4 W A n5 c ((l.take hh).flatMap sbC ++ sbC ⟨0, 0, 2, 0⟩) → Calls Try.prog 11 #[.int .i64 7, .int .i64 (e + 1), .slice A n5 c] W (EvsP own W)) := Lib.hid (fun W A c r => by
    rw [show sbC ⟨0, 0, 2, 0⟩ = [(⟨0, 0, 2, 0⟩ : Sb)].flatMap sbC by simp, ← List.flatMap_append] at r
    have h := made_ 7 (e + 1) A n5 c (l.take hh ++ [⟨0, 0, 2, 0⟩]) W ⟨r.rd sbC_len (by decide), hsb, r.2.1, r.2.2.1⟩ (by decide) (by omega)
    rw [List.take_of_length_le (by rw [List.length_append, List.length_take]; simp; omega), ← hown] at h
    exact h)
  have HL := Lib.hid ((fun W (x : Ext w W) => (h1.rd.ext x).take (k := hh) (by omega)))
  obtain ⟨k, hk⟩ : ∃ k, k = b3 % n5 := ⟨_, rfl⟩
  have hkn : k < n5 := by rw [hk]; exact Nat.mod_lt _ (by omega)
  have hkE : (b3 : Int) % (n5 : Int) = (k : Int) := by rw [hk]; exact (Int.natCast_emod b3 n5).symm
  have hkT : (b3 : Int).tmod (n5 : Int) = (k : Int) := by rw [Int.tmod_eq_emod_of_nonneg (Int.natCast_nonneg _)]; exact hkE
  have hkI : (k : Int) < (n5 : Int) := by omega
  obtain ⟨wy, hwy⟩ : ∃ wy, wy = b2 % 8 := ⟨_, rfl⟩
  have hwyI : (b2 : Int) % 8 = (wy : Int) := by omega
  have hw8 : wy < 8 := by omega
  have hn5c : hh < n5 ∧ n5 ≤ hh + 1 ∧ n5 ≤ 31 := by omega
  have HN1 := Lib.hid (show newB 7 100 (e + 1) = true by unfold newB; rw [decide_eq_true_eq]; omega)
  have HN2 := Lib.hid (show newB 7 0 0 = true by decide)
  obtain ⟨u1, hu1⟩ : ∃ u1 : Int, (if (-1 : Int) < z then (-1 : Int) else z) = u1 := ⟨_, rfl⟩
  obtain ⟨u2, hu2⟩ : ∃ u2 : Int, (if z < (4294967296 : Int) then (4294967296 : Int) else z) = u2 := ⟨_, rfl⟩
  obtain ⟨u3, hu3⟩ : ∃ u3 : Int, (if (0 : Int) < z then (0 : Int) else z) = u3 := ⟨_, rfl⟩
  obtain ⟨u4, hu4⟩ : ∃ u4 : Int, (if z < (17 : Int) then (17 : Int) else z) = u4 := ⟨_, rfl⟩
  obtain ⟨u5, hu5⟩ : ∃ u5 : Int, (if z < (257 : Int) then (257 : Int) else z) = u5 := ⟨_, rfl⟩
  obtain ⟨u6, hu6⟩ : ∃ u6 : Int, (if z < (281474976710658 : Int) then (281474976710658 : Int) else z) = u6 := ⟨_, rfl⟩
  obtain ⟨u7, hu7⟩ : ∃ u7 : Int, (if z < (1 : Int) then (1 : Int) else z) = u7 := ⟨_, rfl⟩
  have hu1b : -9223372036854775808 ≤ u1 ∧ u1 ≤ -1 := by rw [← hu1]; split <;> omega
  have hu2b : 4294967296 ≤ u2 ∧ u2 ≤ 9223372036854775807 := by rw [← hu2]; split <;> omega
  have hu3b : -9223372036854775808 ≤ u3 ∧ u3 ≤ 0 := by rw [← hu3]; split <;> omega
  have hu4b : 17 ≤ u4 ∧ u4 ≤ 9223372036854775807 := by rw [← hu4]; split <;> omega
  have hu5b : 257 ≤ u5 := by rw [← hu5]; split <;> omega
  have hu6b : 281474976710658 ≤ u6 := by rw [← hu6]; split <;> omega
  have hu7b : 1 ≤ u7 := by rw [← hu7]; split <;> omega
  have HB1 := Lib.hid (show newB u3 1 0 = false by unfold newB; rw [decide_eq_false_iff_not]; omega)
  have HB2 := Lib.hid (show newB 1 u5 0 = false by unfold newB; rw [decide_eq_false_iff_not]; omega)
  have HB3 := Lib.hid (show newB 1 1 u6 = false by unfold newB; rw [decide_eq_false_iff_not]; omega)
  have Hu7 := Lib.hid hu7b
  clear h0 h1 h2 h3 h4 hown hol hoo hsb hoe hk hwy hhe hu5b hu6b hu7b
  have Hle : Hid ((hh : Nat) ≤ 30) := Lib.hid (by omega)
  go_enter Try.func5, Try.ntmps5
  go_wp2_with fail
  refine (awake_ w).mono ?_; rintro en w1 ⟨rfl, e1⟩
  have E1 := Lib.hid e1
  clear e1
  have Hn5 := Lib.hid hn5
  clear hn5
  go_wp2_with (refine wpl_append_growS (by rfl) rfl ul_sb info_sb rfl rfl sbC_len (((HL.out _ E1.out).ext (Ext.alloc _ _))) rfl (Src.ofRdS ul_sb sbC_len (rdS_one sbC_len _ _ (⟨0, 0, 2, 0⟩ : Sb) rfl) sbC_one) (by omega) Hn5.out.symm (by simp only [maxLen]; omega) (by omega) ?_)
  intro A2 c2 w2 r2 e2 f2
  have E2 := Lib.hid ((E1.out.t (Ext.alloc _ _)).t e2)
  have R2 := Lib.hid r2
  clear r2 e2 f2 E1
  refine Lib.hid ?_
  go_wp2_with fail
  refine (HMd.out _ _ _ R2.out).mono ?_; rintro en W5 ⟨A5, n6, c5, rfl, r5, l5, m5, e5⟩
  obtain rfl : n5 = n6 := by rw [← l5]; exact Hol.out.symm
  have HR := Lib.hid r5
  obtain ⟨b5, o5, rfl, _⟩ := r5.some_ (by have := r5.2.1; omega)
  have HEx := Lib.hid (show w.heap.size ≤ b5 ∧ Ext w W5 from ⟨Nat.le_trans E2.out.size (m5 b5 ⟨by have := r5.2.1; omega, o5, rfl⟩), E2.out.t e5⟩)
  have hx := List.getElem?_eq_getElem (l := own) (i := k) (by rw [Hol.out]; exact hkn)
  obtain ⟨x, hxe⟩ : ∃ x, x = own[k]'(by rw [Hol.out]; exact hkn) := ⟨_, rfl⟩
  rw [← hxe] at hx
  have Hx := Lib.hid hx
  clear r5 l5 m5 e5 R2 E2 HMd HL hx hxe
  go_upto_block 0 with fail
  go_cut [12, 13, 14] from 54 to 122 (fun v1 v2 v3 wx => ∃ (A : Option Addr) (n c k er : Nat) (L : List Ev), v1 = .slice A n c ∧ v2 = .int .i64 (k : Int) ∧ v3 = .int .i64 (er : Int) ∧ Hid (WrJ w (e + 1) L A n k er wx))
  case first =>
    rcases (by omega : wy = 0 ∨ wy = 1 ∨ wy = 2 ∨ wy = 3 ∨ wy = 4 ∨ wy = 5 ∨ wy = 6 ∨ wy = 7) with rfl | rfl | rfl | rfl | rfl | rfl | rfl | rfl
    · skip
      have hcq := HR.out.cellAt (k := k * 5 + 0) (u := .int .i64 x.t) (by rw [flat_get evC_len _ k 0 x Hx.out (by decide)]; rfl)
      have hfq := HR.out.frozenAt (k := k * 5 + 0) (by have := HR.out.2.1; omega)
      rw [← Nat.add_assoc] at hcq hfq
      try simp only [Nat.add_zero] at hcq hfq
      have hst := HR.out.set (k := k * 5 + 0) (by omega) (.int .i64 u1)
      rw [← Nat.add_assoc, flat_set evC_len (s := 5) (j := 0) (by decide) (x := x) (y := (⟨u1, x.s, x.q, x.to, x.v⟩ : Ev)) (u := .int .i64 u1) rfl own k Hx.out] at hst
      try simp only [Nat.add_zero] at hst
      have HJ : Hid (WrJ w (e + 1) (own.set k ⟨u1, x.s, x.q, x.to, x.v⟩) (some ⟨b5, o5, none⟩) n5 k 290 (W5.setCell ⟨b5, o5 + k * 5, none⟩ (.int .i64 u1))) := Lib.hid ⟨hst.rd evC_len (by decide), fun y hy => (List.mem_or_eq_of_mem_set hy).elim (HOk.out.2 y) (fun hy => by
          obtain ⟨x1, x2, x3, x4, x5, x6, x7, x8, x9, x10⟩ := HOk.out.2 x (List.mem_of_getElem? Hx.out)
          subst hy
          constructor <;> (dsimp only; first | assumption | omega)), wrong_set HOk.out.1 Hx.out (fun last => by
          obtain ⟨x1, x2, x3, x4, x5, x6⟩ := okP_good HOk.out.1 x (List.mem_of_getElem? Hx.out)
          unfold rightK Ev.k at x1
          rw [decide_eq_true_eq] at x1
          dsimp only at x1
          exact look_290 (.inl (by unfold rightK Ev.k; rw [decide_eq_false_iff_not]; dsimp only; omega))) (by decide), by omega, HEx.out.2.trans ((Chg.set W5 b5 (o5 + k * 5) (.int .i64 u1) (T := fun q => q = b5) rfl).below HEx.out.2.size (fun q hq hh => by have := HEx.out.1; omega))⟩
      clear hst HR HOk HEx
      go_wp2_with fail
      all_goals go_meet
      all_goals exact ⟨_, _, _, k, 290, _, rfl, rfl, rfl, HJ⟩
    · skip
      have hcq := HR.out.cellAt (k := k * 5 + 2) (u := .int .i64 x.q) (by rw [flat_get evC_len _ k 2 x Hx.out (by decide)]; rfl)
      have hfq := HR.out.frozenAt (k := k * 5 + 2) (by have := HR.out.2.1; omega)
      rw [← Nat.add_assoc] at hcq hfq
      try simp only [Nat.add_zero] at hcq hfq
      have hst := HR.out.set (k := k * 5 + 2) (by omega) (.int .i64 u2)
      rw [← Nat.add_assoc, flat_set evC_len (s := 5) (j := 2) (by decide) (x := x) (y := (⟨x.t, x.s, u2, x.to, x.v⟩ : Ev)) (u := .int .i64 u2) rfl own k Hx.out] at hst
      try simp only [Nat.add_zero] at hst
      have HJ : Hid (WrJ w (e + 1) (own.set k ⟨x.t, x.s, u2, x.to, x.v⟩) (some ⟨b5, o5, none⟩) n5 k 290 (W5.setCell ⟨b5, o5 + k * 5 + 2, none⟩ (.int .i64 u2))) := Lib.hid ⟨hst.rd evC_len (by decide), fun y hy => (List.mem_or_eq_of_mem_set hy).elim (HOk.out.2 y) (fun hy => by
          obtain ⟨x1, x2, x3, x4, x5, x6, x7, x8, x9, x10⟩ := HOk.out.2 x (List.mem_of_getElem? Hx.out)
          subst hy
          constructor <;> (dsimp only; first | assumption | omega)), wrong_set HOk.out.1 Hx.out (fun last => by
          obtain ⟨x1, x2, x3, x4, x5, x6⟩ := okP_good HOk.out.1 x (List.mem_of_getElem? Hx.out)
          unfold rightK Ev.k at x1
          rw [decide_eq_true_eq] at x1
          dsimp only at x1
          exact look_290 (.inl (by unfold rightK Ev.k; rw [decide_eq_false_iff_not]; dsimp only; omega))) (by decide), by omega, HEx.out.2.trans ((Chg.set W5 b5 (o5 + k * 5 + 2) (.int .i64 u2) (T := fun q => q = b5) rfl).below HEx.out.2.size (fun q hq hh => by have := HEx.out.1; omega))⟩
      clear hst HR HOk HEx
      go_wp2_with fail
      all_goals go_meet
      all_goals exact ⟨_, _, _, k, 290, _, rfl, rfl, rfl, HJ⟩
    · skip
      have hcq := HR.out.cellAt (k := k * 5 + 3) (u := .int .i64 x.to) (by rw [flat_get evC_len _ k 3 x Hx.out (by decide)]; rfl)
      have hfq := HR.out.frozenAt (k := k * 5 + 3) (by have := HR.out.2.1; omega)
      rw [← Nat.add_assoc] at hcq hfq
      try simp only [Nat.add_zero] at hcq hfq
      have hst := HR.out.set (k := k * 5 + 3) (by omega) (.int .i64 u3)
      rw [← Nat.add_assoc, flat_set evC_len (s := 5) (j := 3) (by decide) (x := x) (y := (⟨x.t, x.s, x.q, u3, x.v⟩ : Ev)) (u := .int .i64 u3) rfl own k Hx.out] at hst
      try simp only [Nat.add_zero] at hst
      have HJ : Hid (WrJ w (e + 1) (own.set k ⟨x.t, x.s, x.q, u3, x.v⟩) (some ⟨b5, o5, none⟩) n5 k 290 (W5.setCell ⟨b5, o5 + k * 5 + 3, none⟩ (.int .i64 u3))) := Lib.hid ⟨hst.rd evC_len (by decide), fun y hy => (List.mem_or_eq_of_mem_set hy).elim (HOk.out.2 y) (fun hy => by
          obtain ⟨x1, x2, x3, x4, x5, x6, x7, x8, x9, x10⟩ := HOk.out.2 x (List.mem_of_getElem? Hx.out)
          subst hy
          constructor <;> (dsimp only; first | assumption | omega)), wrong_set HOk.out.1 Hx.out (fun last => by
          obtain ⟨x1, x2, x3, x4, x5, x6⟩ := okP_good HOk.out.1 x (List.mem_of_getElem? Hx.out)
          unfold rightK Ev.k at x1
          rw [decide_eq_true_eq] at x1
          dsimp only at x1
          exact look_290 (.inr (.inl (by dsimp only; omega)))) (by decide), by omega, HEx.out.2.trans ((Chg.set W5 b5 (o5 + k * 5 + 3) (.int .i64 u3) (T := fun q => q = b5) rfl).below HEx.out.2.size (fun q hq hh => by have := HEx.out.1; omega))⟩
      clear hst HR HOk HEx
      go_wp2_with fail
      all_goals go_meet
      all_goals exact ⟨_, _, _, k, 290, _, rfl, rfl, rfl, HJ⟩
    · skip
      have hcq := HR.out.cellAt (k := k * 5 + 3) (u := .int .i64 x.to) (by rw [flat_get evC_len _ k 3 x Hx.out (by decide)]; rfl)
      have hfq := HR.out.frozenAt (k := k * 5 + 3) (by have := HR.out.2.1; omega)
      rw [← Nat.add_assoc] at hcq hfq
      try simp only [Nat.add_zero] at hcq hfq
      have hst := HR.out.set (k := k * 5 + 3) (by omega) (.int .i64 u4)
      rw [← Nat.add_assoc, flat_set evC_len (s := 5) (j := 3) (by decide) (x := x) (y := (⟨x.t, x.s, x.q, u4, x.v⟩ : Ev)) (u := .int .i64 u4) rfl own k Hx.out] at hst
      try simp only [Nat.add_zero] at hst
      have HJ : Hid (WrJ w (e + 1) (own.set k ⟨x.t, x.s, x.q, u4, x.v⟩) (some ⟨b5, o5, none⟩) n5 k 290 (W5.setCell ⟨b5, o5 + k * 5 + 3, none⟩ (.int .i64 u4))) := Lib.hid ⟨hst.rd evC_len (by decide), fun y hy => (List.mem_or_eq_of_mem_set hy).elim (HOk.out.2 y) (fun hy => by
          obtain ⟨x1, x2, x3, x4, x5, x6, x7, x8, x9, x10⟩ := HOk.out.2 x (List.mem_of_getElem? Hx.out)
          subst hy
          constructor <;> (dsimp only; first | assumption | omega)), wrong_set HOk.out.1 Hx.out (fun last => by
          obtain ⟨x1, x2, x3, x4, x5, x6⟩ := okP_good HOk.out.1 x (List.mem_of_getElem? Hx.out)
          unfold rightK Ev.k at x1
          rw [decide_eq_true_eq] at x1
          dsimp only at x1
          exact look_290 (.inr (.inr (by dsimp only; omega)))) (by decide), by omega, HEx.out.2.trans ((Chg.set W5 b5 (o5 + k * 5 + 3) (.int .i64 u4) (T := fun q => q = b5) rfl).below HEx.out.2.size (fun q hq hh => by have := HEx.out.1; omega))⟩
      clear hst HR HOk HEx
      go_wp2_with fail
      all_goals go_meet
      all_goals exact ⟨_, _, _, k, 290, _, rfl, rfl, rfl, HJ⟩
    · skip
      have hcq := HR.out.cellAt (k := k * 5 + 1) (u := .int .i64 x.s) (by rw [flat_get evC_len _ k 1 x Hx.out (by decide)]; rfl)
      have hfq := HR.out.frozenAt (k := k * 5 + 1) (by have := HR.out.2.1; omega)
      rw [← Nat.add_assoc] at hcq hfq
      try simp only [Nat.add_zero] at hcq hfq
      have hst := HR.out.set (k := k * 5 + 1) (by omega) (.int .i64 6)
      rw [← Nat.add_assoc, flat_set evC_len (s := 5) (j := 1) (by decide) (x := x) (y := (⟨x.t, 6, x.q, x.to, x.v⟩ : Ev)) (u := .int .i64 6) rfl own k Hx.out] at hst
      try simp only [Nat.add_zero] at hst
      have HJ : Hid (WrJ w (e + 1) (own.set k ⟨x.t, 6, x.q, x.to, x.v⟩) (some ⟨b5, o5, none⟩) n5 k 291 (W5.setCell ⟨b5, o5 + k * 5 + 1, none⟩ (.int .i64 6))) := Lib.hid ⟨hst.rd evC_len (by decide), fun y hy => (List.mem_or_eq_of_mem_set hy).elim (HOk.out.2 y) (fun hy => by
          obtain ⟨x1, x2, x3, x4, x5, x6, x7, x8, x9, x10⟩ := HOk.out.2 x (List.mem_of_getElem? Hx.out)
          subst hy
          constructor <;> (dsimp only; first | assumption | omega)), wrong_set HOk.out.1 Hx.out (fun last => by
          obtain ⟨x1, x2, x3, x4, x5, x6⟩ := okP_good HOk.out.1 x (List.mem_of_getElem? Hx.out)
          unfold rightK Ev.k at x1
          rw [decide_eq_true_eq] at x1
          dsimp only at x1
          exact look_291 (by unfold rightK Ev.k; rw [decide_eq_true_eq]; dsimp only; omega) x2 x3 (by dsimp only; omega)) (by decide), by omega, HEx.out.2.trans ((Chg.set W5 b5 (o5 + k * 5 + 1) (.int .i64 6) (T := fun q => q = b5) rfl).below HEx.out.2.size (fun q hq hh => by have := HEx.out.1; omega))⟩
      clear hst HR HOk HEx
      go_wp2_with fail
      all_goals go_meet
      all_goals exact ⟨_, _, _, k, 291, _, rfl, rfl, rfl, HJ⟩
    · skip
      have hcq := HR.out.cellAt (k := k * 5 + 0) (u := .int .i64 x.t) (by rw [flat_get evC_len _ k 0 x Hx.out (by decide)]; rfl)
      have hfq := HR.out.frozenAt (k := k * 5 + 0) (by have := HR.out.2.1; omega)
      rw [← Nat.add_assoc] at hcq hfq
      try simp only [Nat.add_zero] at hcq hfq
      have hst := HR.out.set (k := k * 5 + 0) (by omega) (.int .i64 e)
      rw [← Nat.add_assoc, flat_set evC_len (s := 5) (j := 0) (by decide) (x := x) (y := (⟨e, x.s, x.q, x.to, x.v⟩ : Ev)) (u := .int .i64 e) rfl own k Hx.out] at hst
      try simp only [Nat.add_zero] at hst
      have HJ : Hid (WrJ w (e + 1) (own.set k ⟨e, x.s, x.q, x.to, x.v⟩) (some ⟨b5, o5, none⟩) n5 k 292 (W5.setCell ⟨b5, o5 + k * 5, none⟩ (.int .i64 e))) := Lib.hid ⟨hst.rd evC_len (by decide), fun y hy => (List.mem_or_eq_of_mem_set hy).elim (HOk.out.2 y) (fun hy => by
          obtain ⟨x1, x2, x3, x4, x5, x6, x7, x8, x9, x10⟩ := HOk.out.2 x (List.mem_of_getElem? Hx.out)
          subst hy
          constructor <;> (dsimp only; first | assumption | omega)), wrong_set HOk.out.1 Hx.out (fun last => by
          obtain ⟨x1, x2, x3, x4, x5, x6⟩ := okP_good HOk.out.1 x (List.mem_of_getElem? Hx.out)
          unfold rightK Ev.k at x1
          rw [decide_eq_true_eq] at x1
          dsimp only at x1
          exact look_292 (by unfold rightK Ev.k; rw [decide_eq_true_eq]; dsimp only; omega) x2 x3 x4 (by dsimp only; omega)) (by decide), by omega, HEx.out.2.trans ((Chg.set W5 b5 (o5 + k * 5) (.int .i64 e) (T := fun q => q = b5) rfl).below HEx.out.2.size (fun q hq hh => by have := HEx.out.1; omega))⟩
      clear hst HR HOk HEx
      go_wp2_with fail
      all_goals go_meet
      all_goals exact ⟨_, _, _, k, 292, _, rfl, rfl, rfl, HJ⟩
    · have hhk : hh < n5 := by omega
      obtain ⟨bm, om, y, hA, _, hy, y0, y1, y2, y3, y4⟩ := (HR.out.rd evC_len (by decide)).ev hhk
      cases hA
      have Hy := Lib.hid hy
      have hhI2 : (hh : Int) < (n5 : Int) := by omega
      clear hy
      go_wp2_with (refine wpl_append_atS (by rfl) rfl ul_ev info_ev rfl rfl (HR.out.ext (Ext.alloc _ _)) rfl (Src.ofRdS ul_ev evC_len (rdS_one evC_len _ _ y rfl) evC_one) (by simp only [maxLen]; omega) (by omega) ?_)
      intro A8 c8 w8 r8 ch8 ft8
      have HJ : Hid (WrJ w (e + 1) (own ++ [y]) A8 (n5 + 1) n5 293 w8) := Lib.hid ⟨by
        rw [show evC y = [y].flatMap evC by simp, ← List.flatMap_append] at r8
        exact r8.rd evC_len (by decide), fun q hq => (List.mem_append.1 hq).elim (HOk.out.2 q) (fun hq => by
        obtain rfl : q = y := by simpa using hq
        exact HOk.out.2 q (List.mem_of_getElem? Hy.out)), by
        rw [wrong_twice (lim := 100) HOk.out.1 (x := y) (by rw [Hol.out, show n5 - 1 = hh by omega]; exact Hy.out), Hol.out], by omega, (HEx.out.2.t (Ext.alloc _ _)).trans (ch8.below (HEx.out.2.t (Ext.alloc _ _)).size (fun q hq hf => by have := foot_some hf; have := HEx.out.1; omega))⟩
      clear r8 ch8 ft8 HR HOk HEx
      refine Lib.hid ?_
      go_wp2_with fail
      all_goals go_meet
      all_goals exact ⟨_, _, _, n5, 293, _, rfl, rfl, rfl, HJ⟩
    · skip
      have hcq := HR.out.cellAt (k := k * 5 + 1) (u := .int .i64 x.s) (by rw [flat_get evC_len _ k 1 x Hx.out (by decide)]; rfl)
      have hfq := HR.out.frozenAt (k := k * 5 + 1) (by have := HR.out.2.1; omega)
      rw [← Nat.add_assoc] at hcq hfq
      try simp only [Nat.add_zero] at hcq hfq
      have hst := HR.out.set (k := k * 5 + 1) (by omega) (.int .i64 17)
      rw [← Nat.add_assoc, flat_set evC_len (s := 5) (j := 1) (by decide) (x := x) (y := (⟨x.t, 17, x.q, x.to, x.v⟩ : Ev)) (u := .int .i64 17) rfl own k Hx.out] at hst
      try simp only [Nat.add_zero] at hst
      have HJ : Hid (WrJ w (e + 1) (own.set k ⟨x.t, 17, x.q, x.to, x.v⟩) (some ⟨b5, o5, none⟩) n5 k 290 (W5.setCell ⟨b5, o5 + k * 5 + 1, none⟩ (.int .i64 17))) := Lib.hid ⟨hst.rd evC_len (by decide), fun y hy => (List.mem_or_eq_of_mem_set hy).elim (HOk.out.2 y) (fun hy => by
          obtain ⟨x1, x2, x3, x4, x5, x6, x7, x8, x9, x10⟩ := HOk.out.2 x (List.mem_of_getElem? Hx.out)
          subst hy
          constructor <;> (dsimp only; first | assumption | omega)), wrong_set HOk.out.1 Hx.out (fun last => by
          obtain ⟨x1, x2, x3, x4, x5, x6⟩ := okP_good HOk.out.1 x (List.mem_of_getElem? Hx.out)
          unfold rightK Ev.k at x1
          rw [decide_eq_true_eq] at x1
          dsimp only at x1
          exact look_290 (.inl (by unfold rightK Ev.k; rw [decide_eq_false_iff_not]; dsimp only; omega))) (by decide), by omega, HEx.out.2.trans ((Chg.set W5 b5 (o5 + k * 5 + 1) (.int .i64 17) (T := fun q => q = b5) rfl).below HEx.out.2.size (fun q hq hh => by have := HEx.out.1; omega))⟩
      clear hst HR HOk HEx
      go_wp2_with fail
      all_goals go_meet
      all_goals exact ⟨_, _, _, k, 290, _, rfl, rfl, rfl, HJ⟩
  case rest =>
    clear HR HOk HEx Hx Hol
    obtain ⟨A, n, c, k, er, L, rfl, rfl, rfl, HW⟩ := hcut
    go_wp2_with fail
    refine (obx_new 7 100 (e + 1) _ HN1.out).mono ?_; rintro en w6 ⟨g1, rfl, o1, lg1, e6⟩
    have H6 := Lib.hid (And.intro o1 (And.intro (Nat.le_trans HW.out.ext.size lg1) (HW.out.go e6)))
    clear o1 lg1 e6 HW
    go_wp2_with fail
    refine (obx_new 7 0 0 _ HN2.out).mono ?_; rintro en w7 ⟨g2, rfl, o2, lg2, e7⟩
    have H7 : Hid (TwoB w.heap.size w7 g1 7 100 (e + 1) [] none 0 0 g2 7 0 0 [] none 0 0) := Lib.hid ⟨H6.out.1.ext e7, o2, fun q h1 h2 => by
        have h3 := H6.out.1.lt h1
        rcases h2 with h2 | h2
        · omega
        · exact absurd h2 foot_none, fun q hq => hq.elim (fun h => by rw [h]; exact H6.out.2.1) (fun h => absurd h foot_none), fun q hq => hq.elim (fun h => by have := H6.out.2.2.ext.size; omega) (fun h => absurd h foot_none), (H6.out.2.2.ext.t e7).size⟩
    have HW := Lib.hid (H6.out.2.2.go e7)
    have HP := Lib.hid (obx_put A n c L H7.out.o1 HW.out.rd HW.out.ok (by have := HW.out.le; omega))
    rw [HW.out.put] at HP
    clear o2 lg2 e7 H6
    go_wp2_with fail
    refine HP.out.mono ?_; rintro en w8 ⟨A8, n8, c8, rfl, o8, ch8, ft8⟩
    obtain rfl : n8 = 0 := o8.len.symm
    have H8 := Lib.hid (H7.out.turn o8 ch8 ft8)
    have E8 := Lib.hid (H7.out.low HW.out.ext (Nat.le_refl _) ch8 (fun _ => id))
    have hkk : ((k : Int) != (k : Int)) = false := by simp
    have hee : ((er : Int) != (er : Int)) = false := by simp
    clear o8 ch8 ft8 HP HW H7
    go_wp2_with fail
    refine (obx_len H8.out.o1).mono ?_; rintro en w9 ⟨rfl, rfl⟩
    go_wp2_with fail
    obtain ⟨W9, hW9⟩ : ∃ W9, W9 = w8.alloc (.cells #[.pointer (some ⟨g1, 0, none⟩), .pointer (some ⟨g2, 0, none⟩), .pointer none] 29) := ⟨_, rfl⟩
    have hr9 : Rd ptrv W9 (some ⟨w8.heap.size, 0, none⟩) 3 [some g1, some g2, none] := by rw [hW9]; exact (Blk.new _ _ _).rd rfl rfl
    have e9 : Ext w8 W9 := by rw [hW9]; exact Ext.alloc _ _
    rw [← hW9]
    refine (merge_err (o := 1) (er := 294) (erI := 294) (fun r h => mg_twice h) rfl hr9 (bs := [some (7, []), some (7, []), none]) (bxs3 rfl (fun i p hp => by
      match i, hp with
      | 0, hp => cases hp; exact .inr ⟨g1, 7, _, _, [], _, _, _, rfl, rfl, H8.out.o1.ext e9⟩
      | 1, hp => cases hp; exact .inr ⟨g2, 7, _, _, [], _, _, _, rfl, rfl, H8.out.o2.ext e9⟩
      | 2, hp => cases hp; exact .inl ⟨rfl, rfl⟩
      | i + 3, hp => cases hp))).mono ?_
    rintro en w10 ⟨A10, c10, rfl, e10⟩
    have H10 := Lib.hid (H8.out.ext (e9.t e10))
    have E10 := Lib.hid (E8.out.t (e9.t e10))
    clear hW9 hr9 e9 e10 H8 E8
    go_wp2_with fail
    obtain ⟨W9, hW9⟩ : ∃ W9, W9 = w10.alloc (.cells #[.pointer (some ⟨g1, 0, none⟩), .pointer none, .pointer (some ⟨g2, 0, none⟩)] 29) := ⟨_, rfl⟩
    have hr9 : Rd ptrv W9 (some ⟨w10.heap.size, 0, none⟩) 3 [some g1, none, some g2] := by rw [hW9]; exact (Blk.new _ _ _).rd rfl rfl
    have e9 : Ext w10 W9 := by rw [hW9]; exact Ext.alloc _ _
    rw [← hW9]
    refine (merge_err (o := 1) (er := 1) (erI := 1) (fun r h => mg_nil h) rfl hr9 (bs := [some (7, []), none, some (7, [])]) (bxs3 rfl (fun i p hp => by
      match i, hp with
      | 0, hp => cases hp; exact .inr ⟨g1, 7, _, _, [], _, _, _, rfl, rfl, H10.out.o1.ext e9⟩
      | 1, hp => cases hp; exact .inl ⟨rfl, rfl⟩
      | 2, hp => cases hp; exact .inr ⟨g2, 7, _, _, [], _, _, _, rfl, rfl, H10.out.o2.ext e9⟩
      | i + 3, hp => cases hp))).mono ?_
    rintro en w11 ⟨A11, c11, rfl, e11⟩
    have H11 := Lib.hid (H10.out.ext (e9.t e11))
    have E11 := Lib.hid (E10.out.t (e9.t e11))
    clear hW9 hr9 e9 e11 H10 E10
    go_wp2_with fail
    refine (obx_new_bad u3 1 0 _ HB1.out).mono ?_; rintro en w12 ⟨rfl, e12⟩
    have H12 := Lib.hid (And.intro (H11.out.ext e12) (E11.out.t e12))
    clear e12 H11 E11
    go_wp2_with fail
    refine (obx_new_bad 1 u5 0 _ HB2.out).mono ?_; rintro en w13 ⟨rfl, e13⟩
    have H13 := Lib.hid (And.intro (H12.out.1.ext e13) (H12.out.2.t e13))
    clear e13 H12
    go_wp2_with fail
    refine (obx_new_bad 1 1 u6 _ HB3.out).mono ?_; rintro en w14 ⟨rfl, e14⟩
    have H14 := Lib.hid (And.intro (H13.out.1.ext e14) (H13.out.2.t e14))
    clear e14 H13
    go_wp2_with fail
    refine (obx_back u7 H14.out.1.o1).mono ?_; rintro en w15 ⟨n', hn', o15, ch15, hx⟩
    obtain rfl : en = .returned (.tuple #[.int .i64 0, .int .i64 2]) := by
      rcases hx with ⟨_, hz, _⟩ | ⟨_, _, hx⟩
      · have := Hu7.out; omega
      · exact hx
    have E15 := Lib.hid (H14.out.1.low H14.out.2 (Nat.le_refl _) ch15 (fun q hq => .inl hq))
    clear hn' o15 ch15 hx H14
    go_wp2_with fail
    go_ret
    exact ⟨rfl, E15.out⟩
end Go.Proofs.Ytdjpggnadelnaaa
