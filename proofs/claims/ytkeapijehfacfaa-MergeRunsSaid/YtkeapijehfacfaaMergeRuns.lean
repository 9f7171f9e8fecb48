/- MergeRuns: the walk of the law: for any list of small numbers it answers true and leaves all memory as it was (no condition). -/
import Derived.Test.YtkeapijehfacfaaMergeAll
import Derived.Test.YtkeapijehfacfaaSeg
namespace Go.Fx
open Go.RowKit
/-- A place of a list from which on it is not in order. -/
def Bnd (L : List Ev) (q : Nat) : Prop := ∃ q1 a b, q1 + 1 = q ∧ L[q1]? = some a ∧ L[q]? = some b ∧ elB a b = false
/-- The runs of a list, from a place on. -/
def Chain (L : List Ev) : Nat → List (Nat × Nat) → Prop
  | q, [] => q = L.length
  | q, r :: rs => r.1 = q ∧ q < r.2 ∧ r.2 ≤ L.length ∧ (rs ≠ [] → Bnd L r.2) ∧ Chain L r.2 rs
theorem runsA_ne (xs : List Ev) (f i : Nat) (p : Ev) : runsA f i p xs ≠ [] := by
  intro h
  have := runsA_pos xs f i p
  rw [h] at this
  simp at this
theorem chainA {L : List Ev} : ∀ (xs : List Ev) (f i : Nat) (p : Ev), f < i → L.drop i = xs → i ≤ L.length → (∃ i1, i1 + 1 = i ∧ L[i1]? = some p) → Chain L f (runsA f i p xs)
  | [], f, i, p, hf, hd, hi, _ => by
    have : L.length ≤ i := List.drop_eq_nil_iff.1 hd
    have e : i = L.length := by omega
    subst e
    exact ⟨rfl, hf, Nat.le_refl _, fun h => absurd rfl h, rfl⟩
  | x :: xs, f, i, p, hf, hd, hi, hp => by
    have hlt : i < L.length := by
      rcases Nat.lt_or_ge i L.length with h | h
      · exact h
      · rw [List.drop_eq_nil_of_le h] at hd; cases hd
    have hd1 : L.drop (i + 1) = xs := by rw [← List.drop_drop, hd]; rfl
    have hx : L[i]? = some x := by
      have : (L.drop i)[0]? = some x := by rw [hd]; rfl
      rwa [List.getElem?_drop, Nat.add_zero] at this
    unfold runsA
    cases h : elB p x with
    | true => exact chainA xs f (i + 1) x (by omega) hd1 (by omega) ⟨i, rfl, hx⟩
    | false =>
      obtain ⟨i1, h1, h2⟩ := hp
      exact ⟨rfl, hf, hi, fun _ => ⟨i1, p, x, h1, h2, hx, h⟩, chainA xs i (i + 1) x (by omega) hd1 (by omega) ⟨i, rfl, hx⟩⟩
theorem chainF (L : List Ev) : Chain L 0 (runsF L) := by
  cases L with
  | nil => rfl
  | cons x xs => exact chainA xs 0 1 x (by omega) rfl (by simp) ⟨0, rfl, rfl⟩
/-- The merge of the runs. -/
theorem merge_runs_ok {L : List Ev} (h : Dif L) : mergeF ((runsF L).map (cutL L)) = (isort L, -1, 0) := by
  rw [mergeF_ok (fun l' hl => by obtain ⟨r, hr, rfl⟩ := List.mem_map.1 hl; exact runsF_srt L r hr) (by rw [runsF_flat]; exact h), runsF_flat]
end Go.Fx
namespace Go.Proofs.Ytkeapijehfacfaa
open Go.RowKit Go.Fx
set_option maxRecDepth 100000 in
set_option maxHeartbeats 4000000 in
theorem walkMergeRuns (A0 : Option Addr) (n0 c0 : Nat) (l : List Sm) (w : World) (h0 : SmArg w A0 n0 c0 l) :
    Calls Try.prog 3 #[.slice A0 n0 c0] w fun e w' => e = .returned (.bool true) ∧ Ext w w' := by
  obtain ⟨L, hL⟩ : ∃ L, L = evsF l 50 := ⟨_, rfl⟩
  have hLd : Dif L := by rw [hL]; exact evsF_dif _ _
  have hLo : ∀ x ∈ L, EvOk x := fun x hx => by rw [hL] at hx; obtain ⟨y, hy, rfl⟩ := evsF_in hx; exact mkE_ok (h0.ok y hy)
  have HEv := Lib.hid (fun w' (e : Ext w w') => law_evs hL (h0.ext e))
  obtain ⟨S, hS⟩ : ∃ S, S = isort L := ⟨_, rfl⟩
  have hSs : Srt S := by rw [hS]; exact isort_srt hLd
  have HSo := Lib.hid (show ∀ x ∈ S, EvOk x from fun x hx => by rw [hS] at hx; exact hLo x ((isort_perm L).mem_iff.1 hx))
  have HSS := Lib.hid (show S = isort S from (isort_unique hSs (List.Perm.refl _)).symm)
  have HSs := Lib.hid hSs
  have HS := Lib.hid hS
  have HLd := Lib.hid hLd
  have HLo := Lib.hid hLo
  have HMr := Lib.hid (show mergeF ((runsF L).map (cutL L)) = (S, -1, 0) by rw [hS]; exact merge_runs_ok hLd)
  clear h0 hL hLd hLo hS hSs
  go_enter Try.func3, Try.ntmps3
  go_wp2_with fail
  refine (awake_ w).mono ?_; rintro e w1 ⟨rfl, e1⟩
  have E1 := Lib.hid e1
  clear e1
  go_wp2_with fail
  refine (HEv.out _ E1.out).mono ?_; rintro e w2 ⟨A2, n2, c2, rfl, r2, q2, m2, e2⟩
  have R2 := Lib.hid r2
  have M2 := Lib.hid m2
  have Q2 := Lib.hid q2
  have E2 := Lib.hid (E1.out.t e2)
  clear r2 q2 m2 e2 E1 HEv
  go_wp2_with fail
  refine (runs_ A2 n2 c2 L w2 R2.out (by have := M2.out; omega)).mono ?_; rintro e w3 ⟨A3, n3, c3, rfl, r3, l3, -, e3⟩
  have HP := Lib.hid (RoomS.rd pairC_len (by decide) r3)
  have HN3 := Lib.hid l3
  have X3 := Lib.hid e3
  clear r3 l3 e3
  go_wp2_with fail
  refine (law_sort HS.out HLd.out (R2.out.ext X3.out) Q2.out M2.out HLo.out).mono ?_; rintro e w4 ⟨A4, n4, c4, rfl, r4, q4, m4, e4⟩
  have R4 := Lib.hid r4
  have Q4 := Lib.hid q4
  have M4 := Lib.hid m4
  have HP := Lib.hid (HP.out.ext e4)
  have R2 := Lib.hid (R2.out.ext (X3.out.t e4))
  have E4 := Lib.hid (E2.out.t (X3.out.t e4))
  clear r4 q4 m4 e4 X3 E2
  have HN3b := Lib.hid (show n3 ≤ 50 by have h1 := runsF_le L; have h2 := R2.out.1; have h3 := M2.out; have h4 := HN3.out; omega)
  go_wp2_with fail
  go_loopw [7, 8, 29] (fun pv lv i wr => ∃ (k q c' : Nat) (A' : Option Addr) (ss : List Sl), k ≤ n3 ∧ i = .int .i64 (k : Int) ∧ pv = .slice A' k c' ∧ lv = .int .i64 (q : Int) ∧ Hid (Room wr A' k c' (ss.map slv) ∧ Els w4 ss (((runsF L).take k).map (cutL L)) ∧ (∀ q, foot A' c' q → w4.heap.size ≤ q) ∧ Ext w4 wr) ∧ Hid (Chain L q ((runsF L).drop k) ∧ (0 < k → (runsF L).drop k ≠ [] → Bnd L q))) (fun _ _ i _ => n3 - (intOf i).toNat)
  case atStart => exact ⟨0, 0, 0, none, [], by omega, rfl, rfl, rfl, Lib.hid ⟨Room.nil, by rw [List.take_zero]; exact Els.nil, fun q hq => absurd hq foot_none, Ext.refl _⟩, Lib.hid ⟨chainF L, fun h => by omega⟩⟩
  case round =>
    obtain ⟨k, q, c', A', ss, hk, rfl, rfl, rfl, HJ, HC⟩ := hrel
    have hn3b := HN3b.out
    by_cases hlt : k < n3
    · obtain ⟨b, o, r, rfl, _, hr, c0, c1⟩ := rdS_pr (HP.out.ext HJ.out.2.2.2) hlt
      have hltI : (k : Int) < (n3 : Int) := by omega
      have hdr := drop_at hr
      obtain ⟨hc1, hc2⟩ := HC.out
      rw [hdr] at hc1 hc2
      obtain ⟨lo, hi⟩ := r
      obtain ⟨h1, h2, h3, h4, h5⟩ := hc1
      change lo = q at h1
      change q < hi at h2
      change hi ≤ L.length at h3
      change _ → Bnd L hi at h4
      change Chain L hi _ at h5
      subst h1
      have hlen : L.length = n2 := R2.out.1
      have h3n : hi ≤ n2 := by omega
      have HC2 := Lib.hid (show Chain L hi ((runsF L).drop (k + 1)) ∧ (0 < k + 1 → (runsF L).drop (k + 1) ≠ [] → Bnd L hi) from ⟨h5, fun _ => h4⟩)
      have HBd := Lib.hid (show 0 < k → Bnd L lo from fun h => hc2 h (by simp))
      have hn2 := M2.out
      have hnc := Q2.out
      have hsl := fun w' => ev_cut (A := A2) (n := n2) (c := c2) (lo := lo) (hi := hi) (l1 := (lo : Int)) (l2 := (hi : Int)) w' rfl rfl (by omega) (by omega)
      have Hcut := Lib.hid (RdS.cut (lo := lo) (hi := hi) (c := c2) R2.out (by omega) h3n hnc)
      have Hr := Lib.hid hr
      have Hh := Lib.hid (show hi - lo ≤ 50 ∧ hi - lo ≤ c2 - lo by omega)
      have hsr := runsF_srt L _ (List.mem_of_getElem? hr)
      have HSr := Lib.hid (fun w' (e : Ext w4 w') => sorted_ (fromS 5 A2 c2 lo) (hi - lo) (c2 - lo) (cutL L (lo, hi)) w' (Hcut.out.ext e) (by omega))
      rw [(srtB_iff _).2 hsr] at HSr
      have hd1 : decide ((hi : Int) ≤ (lo : Int)) = false := decide_eq_false (by omega)
      have hd2 : decide ((n2 : Int) < (hi : Int)) = false := decide_eq_false (by omega)
      have hd1n : decide (hi ≤ lo) = false := decide_eq_false (by omega)
      have hd2n : decide (n2 < hi) = false := decide_eq_false (by omega)
      have hne : ((lo : Int) != (lo : Int)) = false := by simp
      obtain ⟨g8, hg8⟩ : ∃ g8, g8 = wr.heap.size := ⟨_, rfl⟩
      obtain ⟨w8, hw8⟩ : ∃ w8, w8 = wr.alloc (.cells #[.int .i64 (lo : Int), .int .i64 (hi : Int)] 32) := ⟨_, rfl⟩
      have hb8 := Blk.new wr 32 #[.int .i64 (lo : Int), .int .i64 (hi : Int)]
      rw [← hw8, ← hg8] at hb8
      have HB8 := Lib.hid hb8
      have HX8 := Lib.hid (show Ext wr w8 by rw [hw8]; exact Ext.alloc _ _)
      have HY8 := Lib.hid (show Ext w4 w8 by rw [hw8]; exact HJ.out.2.2.2.t (Ext.alloc _ _))
      have HW8 := Lib.hid hw8
      have HG8 := Lib.hid hg8
      generalize fromS 5 A2 c2 lo = fA at *
      generalize hi - lo = fn at *
      generalize c2 - lo = fc at *
      clear hr hdr hc2 h3 h4 h5 hsr hb8 hw8 hg8 HC
      go_upto_region 11 with fail
      change Code.wp _ _ _ _ (wr.alloc (.cells #[.int .i64 (lo : Int), .int .i64 (hi : Int)] 32))
      rw [← HW8.out, ← HG8.out]
      clear HW8 HG8 c0 c1
      have d0 := (HB8.out.cell 0).trans (show _ = some (Value.int .i64 (lo : Int)) from rfl)
      have d1 := (HB8.out.cell 1).trans (show _ = some (Value.int .i64 (hi : Int)) from rfl)
      rcases Nat.eq_zero_or_pos k with hk0 | hk0
      · have hd0 : decide ((0 : Int) < (k : Int)) = false := decide_eq_false (by omega)
        have hd0n : decide (0 < k) = false := decide_eq_false (by omega)
        clear hk0
        try simp only [List.append_eq, List.cons_append, List.nil_append]
        refine wp_region_seg true 22 24 (by as_aux_lemma => kernel_rfl) rfl (by as_aux_lemma => kernel_rfl) ?_
        simp only [List.take_succ_cons, List.take_zero]
        iterate 22 still_step
        refine wpStill_nil ?_
        refine take_any (i := 22) (j := 56) (v := undef) rfl rfl (by as_aux_lemma => kernel_rfl) (by as_aux_lemma => kernel_rfl) (by as_aux_lemma => kernel_rfl) (fun _ _ _ h => h) (Or.inr ⟨by kernel_rfl, rfl⟩) ?_
        simp only [Act.put, List.setIfInBounds_toArray, List.set_cons_zero, List.set_cons_succ]
        refine take_any (i := 23) (j := 57) (v := undef) rfl rfl (by as_aux_lemma => kernel_rfl) (by as_aux_lemma => kernel_rfl) (by as_aux_lemma => kernel_rfl) (fun _ _ _ h => h) (Or.inr ⟨by kernel_rfl, rfl⟩) ?_
        simp only [Act.put, List.setIfInBounds_toArray, List.set_cons_zero, List.set_cons_succ]
        refine take_any (i := 24) (j := 58) (v := undef) rfl rfl (by as_aux_lemma => kernel_rfl) (by as_aux_lemma => kernel_rfl) (by as_aux_lemma => kernel_rfl) (fun _ _ _ h => h) (Or.inr ⟨by kernel_rfl, rfl⟩) ?_
        simp only [Act.put, List.setIfInBounds_toArray, List.set_cons_zero, List.set_cons_succ]
        refine take_any (i := 25) (j := 59) (v := undef) rfl rfl (by as_aux_lemma => kernel_rfl) (by as_aux_lemma => kernel_rfl) (by as_aux_lemma => kernel_rfl) (fun _ _ _ h => h) (Or.inr ⟨by kernel_rfl, rfl⟩) ?_
        simp only [Act.put, List.setIfInBounds_toArray, List.set_cons_zero, List.set_cons_succ]
        refine take_any (i := 26) (j := 60) (v := undef) rfl rfl (by as_aux_lemma => kernel_rfl) (by as_aux_lemma => kernel_rfl) (by as_aux_lemma => kernel_rfl) (fun _ _ _ h => h) (Or.inr ⟨by kernel_rfl, rfl⟩) ?_
        simp only [Act.put, List.setIfInBounds_toArray, List.set_cons_zero, List.set_cons_succ]
        refine take_any (i := 27) (j := 61) (v := undef) rfl rfl (by as_aux_lemma => kernel_rfl) (by as_aux_lemma => kernel_rfl) (by as_aux_lemma => kernel_rfl) (fun _ _ _ h => h) (Or.inr ⟨by kernel_rfl, rfl⟩) ?_
        simp only [Act.put, List.setIfInBounds_toArray, List.set_cons_zero, List.set_cons_succ]
        refine take_any (i := 28) (j := 62) (v := undef) rfl rfl (by as_aux_lemma => kernel_rfl) (by as_aux_lemma => kernel_rfl) (by as_aux_lemma => kernel_rfl) (fun _ _ _ h => h) (Or.inr ⟨by kernel_rfl, rfl⟩) ?_
        simp only [Act.put, List.setIfInBounds_toArray, List.set_cons_zero, List.set_cons_succ]
        refine take_any (i := 29) (j := 63) (v := undef) rfl rfl (by as_aux_lemma => kernel_rfl) (by as_aux_lemma => kernel_rfl) (by as_aux_lemma => kernel_rfl) (fun _ _ _ h => h) (Or.inr ⟨by kernel_rfl, rfl⟩) ?_
        simp only [Act.put, List.setIfInBounds_toArray, List.set_cons_zero, List.set_cons_succ]
        refine take_any (i := 30) (j := 64) (v := undef) rfl rfl (by as_aux_lemma => kernel_rfl) (by as_aux_lemma => kernel_rfl) (by as_aux_lemma => kernel_rfl) (fun _ _ _ h => h) (Or.inr ⟨by kernel_rfl, rfl⟩) ?_
        simp only [Act.put, List.setIfInBounds_toArray, List.set_cons_zero, List.set_cons_succ]
        refine take_any (i := 31) (j := 65) (v := undef) rfl rfl (by as_aux_lemma => kernel_rfl) (by as_aux_lemma => kernel_rfl) (by as_aux_lemma => kernel_rfl) (fun _ _ _ h => h) (Or.inr ⟨by kernel_rfl, rfl⟩) ?_
        simp only [Act.put, List.setIfInBounds_toArray, List.set_cons_zero, List.set_cons_succ]
        refine take_any (i := 32) (j := 66) (v := undef) rfl rfl (by as_aux_lemma => kernel_rfl) (by as_aux_lemma => kernel_rfl) (by as_aux_lemma => kernel_rfl) (fun _ _ _ h => h) (Or.inr ⟨by kernel_rfl, rfl⟩) ?_
        simp only [Act.put, List.setIfInBounds_toArray, List.set_cons_zero, List.set_cons_succ]
        refine wpAny_ready (rs := [33]) (by as_aux_lemma => kernel_rfl) (by simp) (AllReady.cons rfl (fun K hK => ?_) AllReady.nil)
        go_simp
        try go_simp
        refine hK _ _ ?_
        clear hK K
        have HXa := Lib.hid (HX8.out.t (Ext.drew w8))
        have HYa := Lib.hid (HY8.out.t (Ext.drew w8))
        have HBa := Lib.hid (HB8.out.ext (Ext.drew w8))
        generalize w8.drew = wa at *
        clear d0 d1
        have d0 := (HBa.out.cell 0).trans (show _ = some (Value.int .i64 (lo : Int)) from rfl)
        have d1 := (HBa.out.cell 1).trans (show _ = some (Value.int .i64 (hi : Int)) from rfl)
        refine wpAny_seg false 9 34 3 (by as_aux_lemma => kernel_rfl) ?_
        simp only [List.take_succ_cons, List.take_zero, List.drop_succ_cons, List.drop_zero]
        repeat still_step
        refine wpStill_nil ?_
        refine wpAny_ready (rs := [43]) (by as_aux_lemma => kernel_rfl) (by simp) (AllReady.cons rfl (fun K hK => ?_) AllReady.nil)
        go_simp
        refine (HSr.out _ HYa.out).mono ?_; rintro e wb ⟨rfl, eb⟩
        have HXb := Lib.hid (HXa.out.t eb)
        have HBb := Lib.hid (HBa.out.ext eb)
        try go_simp
        refine hK _ _ ?_
        clear hK K eb d0 d1
        refine wpAny_ready (rs := [44]) (by as_aux_lemma => kernel_rfl) (by simp) (AllReady.cons rfl (fun K hK => ?_) AllReady.nil)
        go_simp
        try go_simp
        refine hK _ _ ?_
        clear hK K
        refine wpAny_ready (rs := [45]) (by as_aux_lemma => kernel_rfl) (by simp) (AllReady.cons rfl (fun K hK => ?_) AllReady.nil)
        go_simp
        try go_simp
        refine hK _ _ ?_
        clear hK K
        refine wpAny_done (by as_aux_lemma => kernel_rfl) ?_ _
        clear HXa HYa HBa HX8 HY8 HB8 HSr
        have d0 := (HBb.out.cell 0).trans (show _ = some (Value.int .i64 (lo : Int)) from rfl)
        have d1 := (HBb.out.cell 1).trans (show _ = some (Value.int .i64 (hi : Int)) from rfl)
        go_wp2_with (refine wpl_append_at (by rfl) rfl ul_ee info_ee rfl rfl (HJ.out.1.ext (HXb.out.t (Ext.alloc _ _))) rfl (Src.ofRd (f := slv) (xs := [⟨fA, fn, fc⟩]) ul_ee ((Blk.new _ _ _).rd rfl rfl) (fun _ => rfl)) (by simp only [maxLen]; omega) (by omega) ?_)
        intro A5 c5 w5 r5 ch5 ft5
        have hE4 := (HJ.out.2.2.2.t HXb.out).t (Ext.alloc wb (.cells #[.slice fA fn fc] 24))
        have HN : Hid (Room w5 A5 (k + 1) c5 ((ss ++ [(⟨fA, fn, fc⟩ : Sl)]).map slv) ∧ Els w4 (ss ++ [(⟨fA, fn, fc⟩ : Sl)]) (((runsF L).take (k + 1)).map (cutL L)) ∧ (∀ q, foot A5 c5 q → w4.heap.size ≤ q) ∧ Ext w4 w5) := Lib.hid ⟨by rw [List.map_append]; exact r5, by
          rw [take_snoc Hr.out, List.map_append]
          exact Els.snoc (s := ⟨fA, fn, fc⟩) (l := cutL L (lo, hi)) HJ.out.2.1 Hh.out.2 Hcut.out, fun q hq => (ft5 q hq).elim (HJ.out.2.2.1 q) (fun h => Nat.le_trans hE4.size (by simpa using h)), hE4.trans (ch5.below hE4.size (fun q hq hf => by have := HJ.out.2.2.1 q hf; omega))⟩
        clear r5 ch5 ft5 hE4
        refine Lib.hid ?_
        go_wp2_with fail
        go_roundw
        case rel => exact ⟨k + 1, hi, c5, A5, _, by omega, by go_num, rfl, rfl, HN, HC2⟩
        case measure => simp [intOf]; omega
      · have hd0 : decide ((0 : Int) < (k : Int)) = true := decide_eq_true (by omega)
        have hd0n : decide (0 < k) = true := decide_eq_true (by omega)
        obtain ⟨lo1, ea, eb, hl1, ha, hb, hab⟩ := HBd.out hk0
        obtain ⟨b2, o2, y, e1, _, hy, z0, z1, z2, z3, z4⟩ := (R2.out.ext HY8.out).ev (k := lo) (by omega)
        obtain ⟨b3, o3, x, e2, _, hx, f0, f1, f2, f3, f4⟩ := (R2.out.ext HY8.out).ev (k := lo1) (by omega)
        rw [e1] at e2
        cases e2
        subst e1
        rw [ha] at hx
        rw [hb] at hy
        cases hx
        cases hy
        have HLe := Lib.hid (fun w' => less_ ea eb w')
        rw [hab] at HLe
        unfold evV at HLe
        have hw : IntKind.i64.wrap ((lo : Int) - 1) = (lo1 : Int) := by rw [show (lo : Int) - 1 = (lo1 : Int) by omega]; exact IntWalk.i64_in _ (by omega)
        have hl1I : (lo1 : Int) < (n2 : Int) := by omega
        have hloI : (lo : Int) < (n2 : Int) := by omega
        clear hk0 hl1 ha hb hab
        try simp only [List.append_eq, List.cons_append, List.nil_append]
        refine wp_region_seg false 33 13 (by as_aux_lemma => kernel_rfl) rfl (by as_aux_lemma => kernel_rfl) ?_
        simp only [List.take_succ_cons, List.take_zero]
        repeat still_step
        refine wpStill_nil ?_
        refine wpAny_ready (rs := [33]) (by as_aux_lemma => kernel_rfl) (by simp) (AllReady.cons rfl (fun K hK => ?_) AllReady.nil)
        go_simp
        refine (HLe.out _).mono ?_; rintro e wa ⟨rfl, e10⟩
        have e10' := (Ext.drew w8).t e10
        have HXa := Lib.hid (HX8.out.t e10')
        have HYa := Lib.hid (HY8.out.t e10')
        have HBa := Lib.hid (HB8.out.ext e10')
        clear e10 e10' HLe z0 z1 z2 z3 z4 f0 f1 f2 f3 f4
        try go_simp
        refine hK _ _ ?_
        clear hK K
        clear d0 d1
        have d0 := (HBa.out.cell 0).trans (show _ = some (Value.int .i64 (lo : Int)) from rfl)
        have d1 := (HBa.out.cell 1).trans (show _ = some (Value.int .i64 (hi : Int)) from rfl)
        refine wpAny_seg false 9 34 3 (by as_aux_lemma => kernel_rfl) ?_
        simp only [List.take_succ_cons, List.take_zero, List.drop_succ_cons, List.drop_zero]
        repeat still_step
        refine wpStill_nil ?_
        refine wpAny_ready (rs := [43]) (by as_aux_lemma => kernel_rfl) (by simp) (AllReady.cons rfl (fun K hK => ?_) AllReady.nil)
        go_simp
        refine (HSr.out _ HYa.out).mono ?_; rintro e wb ⟨rfl, eb⟩
        have HXb := Lib.hid (HXa.out.t eb)
        have HBb := Lib.hid (HBa.out.ext eb)
        try go_simp
        refine hK _ _ ?_
        clear hK K eb d0 d1
        refine wpAny_ready (rs := [44]) (by as_aux_lemma => kernel_rfl) (by simp) (AllReady.cons rfl (fun K hK => ?_) AllReady.nil)
        go_simp
        try go_simp
        refine hK _ _ ?_
        clear hK K
        refine wpAny_ready (rs := [45]) (by as_aux_lemma => kernel_rfl) (by simp) (AllReady.cons rfl (fun K hK => ?_) AllReady.nil)
        go_simp
        try go_simp
        refine hK _ _ ?_
        clear hK K
        refine wpAny_done (by as_aux_lemma => kernel_rfl) ?_ _
        clear HXa HYa HBa HX8 HY8 HB8 HSr
        have d0 := (HBb.out.cell 0).trans (show _ = some (Value.int .i64 (lo : Int)) from rfl)
        have d1 := (HBb.out.cell 1).trans (show _ = some (Value.int .i64 (hi : Int)) from rfl)
        go_wp2_with (refine wpl_append_at (by rfl) rfl ul_ee info_ee rfl rfl (HJ.out.1.ext (HXb.out.t (Ext.alloc _ _))) rfl (Src.ofRd (f := slv) (xs := [⟨fA, fn, fc⟩]) ul_ee ((Blk.new _ _ _).rd rfl rfl) (fun _ => rfl)) (by simp only [maxLen]; omega) (by omega) ?_)
        intro A5 c5 w5 r5 ch5 ft5
        have hE4 := (HJ.out.2.2.2.t HXb.out).t (Ext.alloc wb (.cells #[.slice fA fn fc] 24))
        have HN : Hid (Room w5 A5 (k + 1) c5 ((ss ++ [(⟨fA, fn, fc⟩ : Sl)]).map slv) ∧ Els w4 (ss ++ [(⟨fA, fn, fc⟩ : Sl)]) (((runsF L).take (k + 1)).map (cutL L)) ∧ (∀ q, foot A5 c5 q → w4.heap.size ≤ q) ∧ Ext w4 w5) := Lib.hid ⟨by rw [List.map_append]; exact r5, by
          rw [take_snoc Hr.out, List.map_append]
          exact Els.snoc (s := ⟨fA, fn, fc⟩) (l := cutL L (lo, hi)) HJ.out.2.1 Hh.out.2 Hcut.out, fun q hq => (ft5 q hq).elim (HJ.out.2.2.1 q) (fun h => Nat.le_trans hE4.size (by simpa using h)), hE4.trans (ch5.below hE4.size (fun q hq hf => by have := HJ.out.2.2.1 q hf; omega))⟩
        clear r5 ch5 ft5 hE4
        refine Lib.hid ?_
        go_wp2_with fail
        go_roundw
        case rel => exact ⟨k + 1, hi, c5, A5, _, by omega, by go_num, rfl, rfl, HN, HC2⟩
        case measure => simp [intOf]; omega
    · obtain rfl : k = n3 := by omega
      have hdr : (runsF L).drop k = [] := List.drop_eq_nil_of_le (by have := HN3.out; omega)
      have hfull : (runsF L).take k = runsF L := List.take_of_length_le (by have := HN3.out; omega)
      obtain rfl : q = n2 := by
        have h1 := HC.out.1
        rw [hdr] at h1
        have h2 : q = L.length := h1
        have h3 := R2.out.1
        omega
      have hels := HJ.out.2.1
      rw [hfull] at hels
      have HEl := Lib.hid (hels.ext HJ.out.2.2.2)
      have HRm := Lib.hid HJ.out.1.rd
      have X5 := Lib.hid HJ.out.2.2.2
      have hv : srtB L = decide ((k : Int) < 2) := by
        rw [runsF_len, HN3.out]
        by_cases h : k < 2
        · rw [decide_eq_true h, decide_eq_true (by omega)]
        · rw [decide_eq_false h, decide_eq_false (by omega)]
      have HVs := Lib.hid hv
      have hn2 := M2.out
      clear hdr hfull hels HJ HC hv
      go_wp2_with fail
      refine (law_merge HMr.out HRm.out HEl.out (by omega) (fun x hx => HLo.out x (by rwa [runsF_flat] at hx)) (by rw [runsF_flat]; have := R2.out.1; omega)).mono ?_; rintro e w6 ⟨A6, n6, c6, rfl, r6, q6, m6, e6⟩
      have R6 := Lib.hid r6
      have M6 := Lib.hid m6
      have X6 := Lib.hid (X5.out.t e6)
      clear r6 q6 m6 e6 X5 HRm HEl
      go_wp2_with fail
      refine (law_sort HSS.out HSs.out.dif (R4.out.ext X6.out) Q4.out M4.out HSo.out).mono ?_; rintro e w7 ⟨A7, n7, c7, rfl, r7, q7, m7, e7⟩
      have R7 := Lib.hid r7
      have M7 := Lib.hid m7
      have R6 := Lib.hid (R6.out.ext e7)
      have X7 := Lib.hid (X6.out.t e7)
      clear r7 q7 m7 e7 X6
      obtain rfl : n4 = q := by
        have h1 := R4.out.1
        have h2 := R2.out.1
        rw [HS.out, isort_len] at h1
        omega
      go_wp2_with fail
      refine (aw_same rfl R6.out (R4.out.ext X7.out) M6.out (by omega)).mono ?_; rintro e w8 ⟨rfl, e8⟩
      have X8 := Lib.hid (X7.out.t e8)
      have Z8 := Lib.hid e8
      clear e8 X7
      go_wp2_with fail
      refine (aw_same rfl (R7.out.ext Z8.out) (R4.out.ext X8.out) (by have := M7.out; omega) (by omega)).mono ?_; rintro e w9 ⟨rfl, e9⟩
      have X9 := Lib.hid (X8.out.t e9)
      clear e9 X8 Z8
      have HSt := Lib.hid (sorted_ A2 n4 c2 L w9 (R2.out.ext X9.out) (by omega))
      rw [HVs.out] at HSt
      by_cases h2 : (k : Int) < 2
      · rw [decide_eq_true h2] at HSt
        go_wp2_with fail
        refine HSt.out.mono ?_; rintro e w10 ⟨rfl, e10⟩
        have HF := Lib.hid (E4.out.t (X9.out.t e10))
        clear e10
        go_wp2_with fail
        go_ret
        exact ⟨rfl, HF.out⟩
      · rw [decide_eq_false h2] at HSt
        go_wp2_with fail
        refine HSt.out.mono ?_; rintro e w10 ⟨rfl, e10⟩
        have HF := Lib.hid (E4.out.t (X9.out.t e10))
        clear e10
        go_wp2_with fail
        go_ret
        refine ⟨congrArg Ending.returned (congrArg Value.bool (show (!decide ((k : Int) < 2)) = true from ?_)), HF.out⟩
        simp
        omega
end Go.Proofs.Ytkeapijehfacfaa
