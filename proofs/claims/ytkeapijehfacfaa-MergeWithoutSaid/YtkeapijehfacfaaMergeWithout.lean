/- MergeWithout: the walk of the law: for any lists of small numbers and any bytes it answers true and leaves all memory as it was (no condition). -/
import Derived.Test.YtkeapijehfacfaaMergeCut
import Derived.Test.YtkeapijehfacfaaMwl
namespace Go.Fx
open Go.RowKit
/-- The places that are picked. -/
def pickB (pk : List Nat) (i : Nat) : Bool := match pk[i]? with
  | some z => decide (z % 2 = 1)
  | none => false
/-- An event of the source 16. -/
def strE (x : Ev) : Ev := ⟨x.t, 16, x.q, x.to, x.v⟩
theorem awyF_len (p : Nat → Bool) : ∀ (l : List Ev) (i : Nat), (awyF p i l).length ≤ l.length
  | [], _ => Nat.le_refl _
  | y :: l, i => by
    unfold awyF
    split
    · have := awyF_len p l (i + 1); simp only [List.length_cons]; omega
    · have := awyF_len p l (i + 1); simp only [List.length_cons]; omega
theorem lftF_len (p : Nat → Bool) : ∀ (l : List Ev) (i : Nat), (lftF p i l).length ≤ l.length
  | [], _ => Nat.le_refl _
  | y :: l, i => by
    unfold lftF
    split
    · have := lftF_len p l (i + 1); simp only [List.length_cons]; omega
    · have := lftF_len p l (i + 1); simp only [List.length_cons]; omega
theorem take_k {l : List Ev} {k : Nat} {x : Ev} (h : l[k]? = some x) : (l.take k).length = k := by
  have := (List.getElem?_eq_some_iff.1 h).1
  rw [List.length_take]; omega
theorem awy_hit {p : Nat → Bool} {l : List Ev} {k : Nat} {x : Ev} (h : l[k]? = some x) (hp : p k = true) : awyF p 0 (l.take (k + 1)) = awyF p 0 (l.take k) ++ [twist x] := by
  rw [take_snoc h, awyF_snoc, Nat.zero_add, take_k h, if_pos hp]
theorem awy_mis {p : Nat → Bool} {l : List Ev} {k : Nat} {x : Ev} (h : l[k]? = some x) (hp : p k = false) : awyF p 0 (l.take (k + 1)) = awyF p 0 (l.take k) := by
  rw [take_snoc h, awyF_snoc, Nat.zero_add, take_k h, if_neg (by rw [hp]; simp), List.append_nil]
theorem lft_hit {p : Nat → Bool} {l : List Ev} {k : Nat} {x : Ev} (h : l[k]? = some x) (hp : p k = true) : lftF p 0 (l.take (k + 1)) = lftF p 0 (l.take k) := by
  rw [take_snoc h, lftF_snoc, Nat.zero_add, take_k h, if_pos hp, List.append_nil]
theorem lft_mis {p : Nat → Bool} {l : List Ev} {k : Nat} {x : Ev} (h : l[k]? = some x) (hp : p k = false) : lftF p 0 (l.take (k + 1)) = lftF p 0 (l.take k) ++ [x] := by
  rw [take_snoc h, lftF_snoc, Nat.zero_add, take_k h, if_neg (by rw [hp]; simp)]
/-- Strangers: events of the source 16, no two with the same key. -/
structure StrOk (T : List Ev) : Prop where
  dif : Dif T
  src : ∀ x ∈ T, x.s = 16
  ok : ∀ x ∈ T, EvOk x
theorem StrOk.nil : StrOk [] := ⟨List.Pairwise.nil, fun x h => (by cases h), fun x h => (by cases h)⟩
theorem StrOk.snoc {T : List Ev} {y : Ev} (h : StrOk T) (hy : EvOk y) (hn : T.any (sameK (strE y)) = false) : StrOk (T ++ [strE y]) := by
  have hn' : ∀ x ∈ T, x.k ≠ (strE y).k := by
    intro x hx e
    have : T.any (sameK (strE y)) = true := List.any_eq_true.2 ⟨x, hx, by unfold sameK; simpa using e⟩
    rw [this] at hn; cases hn
  refine ⟨List.pairwise_append.2 ⟨h.dif, by simp, fun a ha b hb => ?_⟩, fun x hx => ?_, fun x hx => ?_⟩
  · obtain rfl : b = strE y := by simpa using hb
    exact hn' a ha
  · rcases List.mem_append.1 hx with hx | hx
    · exact h.src x hx
    · obtain rfl : x = strE y := by simpa using hx
      rfl
  · rcases List.mem_append.1 hx with hx | hx
    · exact h.ok x hx
    · obtain rfl : x = strE y := by simpa using hx
      exact ⟨hy.t1, hy.t2, (by show (-9223372036854775808 : Int) ≤ 16; omega), (by show (16 : Int) ≤ 9223372036854775807; omega), hy.q1, hy.q2, hy.o1, hy.o2, hy.v1, hy.v2⟩
theorem leftF_perm {a b c : List Ev} (h : b.Perm c) : leftF a b = leftF a c := by
  unfold leftF
  refine List.filter_congr (fun x _ => ?_)
  have : hasK b x.k = hasK c x.k := by
    cases e : hasK c x.k with
    | true => obtain ⟨y, hy, h'⟩ := hasK_iff.1 e; exact hasK_iff.2 ⟨y, h.mem_iff.2 hy, h'⟩
    | false => exact hasK_no (fun y hy h' => by rw [hasK_iff.2 ⟨y, h.mem_iff.1 hy, h'⟩] at e; cases e)
  rw [this]
/-- What the law asks. -/
theorem wo_facts {S T A : List Ev} {p : Nat → Bool} (hs : Srt S) (hS : ∀ x ∈ S, x.s < 16) (hT : StrOk T) (hA : A = awyF p 0 S) :
    woF S A = (lftF p 0 S, 0) ∧ woF S (isort T) = (S, 0) ∧ ∃ U, mergeF [A, isort T] = (U, -1, 0) ∧ woF S U = (lftF p 0 S, 0) ∧ U.length ≤ A.length + T.length := by
  have hA1 : Srt A := by rw [hA]; exact awy_srt hs
  have hT1 : Srt (isort T) := isort_srt hT.dif
  have hno : ∀ y ∈ isort T, ∀ x ∈ S, y.k ≠ x.k := by
    intro y hy x hx e
    have h1 := hT.src y ((isort_perm T).mem_iff.1 hy)
    have h2 := hS x hx
    have h3 : y.s = x.s := congrArg Ky.s e
    omega
  have hd : Dif (A ++ isort T) := by
    refine List.pairwise_append.2 ⟨hA1.dif, hT1.dif, fun a ha b hb e => ?_⟩
    rw [hA] at ha
    obtain ⟨z, hz, rfl⟩ := awy_key ha
    exact hno b hb z hz e.symm
  have hss : srtB S = true := (srtB_iff _).2 hs
  have hm : mergeF [A, isort T] = (isort (A ++ isort T), -1, 0) := by
    rw [mergeF_ok (by intro x hx; simp only [List.mem_cons, List.not_mem_nil, or_false] at hx; rcases hx with rfl | rfl; exact hA1; exact hT1) (by simpa using hd)]
    simp
  refine ⟨?_, ?_, _, hm, ?_, ?_⟩
  · unfold woF; rw [if_pos ⟨hss, (srtB_iff _).2 hA1⟩, hA]
    have := left_awy (p := p) (c := []) (i := 0) hs.dif (fun y hy => by cases hy)
    rw [List.append_nil] at this
    rw [this]
  · unfold woF; rw [if_pos ⟨hss, (srtB_iff _).2 hT1⟩, left_all (fun x hx y hy => hno y hy x hx)]
  · unfold woF; rw [if_pos ⟨hss, (srtB_iff _).2 (isort_srt hd)⟩, leftF_perm (isort_perm _), hA, left_awy hs.dif (fun y hy x hx => hno y hy x hx)]
  · rw [isort_len, List.length_append, isort_len]; exact Nat.le_refl _
end Go.Fx
namespace Go.Proofs.Ytkeapijehfacfaa
open Go.RowKit Go.Fx
theorem law_evs20 {A : Option Addr} {n c : Nat} {l : List Sm} {w : World} {L : List Ev} (hL : L = evsF l 20) (h : SmArg w A n c l) :
    Calls Try.prog 14 #[.slice A n c, .int .i64 20] w fun e w' => ∃ A' n' c', e = .returned (.slice A' n' c') ∧ RdS 5 evC w' A' n' L ∧ n' ≤ c' ∧ n' ≤ 20 ∧ Ext w w' := by
  subst hL
  refine (events_ A n c 20 l w h (by omega)).mono ?_
  rintro e w' ⟨A', n', c', rfl, hr, hl, _, he⟩
  exact ⟨A', n', c', rfl, hr.rd evC_len (by decide), hr.2.1, by rw [← hl]; exact evsF_len _ _, he⟩
theorem law_without' {A1 A2 : Option Addr} {n1 n2 c1 c2 : Nat} {la lb r : List Ev} {w : World} (hF : woF la lb = (r, 0)) (h1 : RdS 5 evC w A1 n1 la) (h2 : RdS 5 evC w A2 n2 lb) (m1 : n1 ≤ 1000) (m2 : n2 ≤ 1000) (hc : n2 ≤ c2) :
    Calls Try.prog 24 #[.slice A1 n1 c1, .slice A2 n2 c2] w fun e w' => ∃ A' n' c', e = .returned (.tuple #[.slice A' n' c', .int .i64 0]) ∧ RdS 5 evC w' A' n' r ∧ n' ≤ c' ∧ Ext w w' := by
  refine (without_ A1 A2 n1 c1 n2 c2 la lb w h1 h2 (by omega) (by omega) hc).mono ?_
  rintro e w' ⟨A', n', c', rfl, hr, hl, _, he⟩
  rw [hF] at hr hl ⊢
  exact ⟨A', n', c', rfl, hr.rd evC_len (by decide), hr.2.1, he⟩
theorem law_merge2' {g : Nat} {s1 s2 : Sl} {l1 l2 r : List Ev} {w : World} (hF : mergeF [l1, l2] = (r, -1, 0)) (hb : Blk w g 24 #[.slice s1.A s1.n s1.c, .slice s2.A s2.n s2.c]) (h1 : RdS 5 evC w s1.A s1.n l1) (h2 : RdS 5 evC w s2.A s2.n l2) (c1 : s1.n ≤ s1.c) (c2 : s2.n ≤ s2.c) (m1 : s1.n ≤ 50) (m2 : s2.n ≤ 50) (o1 : ∀ x ∈ l1, EvOk x) (o2 : ∀ x ∈ l2, EvOk x) :
    Calls Try.prog 19 #[.slice (some ⟨g, 0, none⟩) 2 2] w fun e w' => ∃ A' n' c', e = .returned (.tuple #[.slice A' n' c', .int .i64 (-1), .int .i64 0]) ∧ RdS 5 evC w' A' n' r ∧ n' ≤ c' ∧ Ext w w' := by
  refine (merge_ _ 2 2 [s1, s2] [l1, l2] w ⟨rfl, fun _ => ⟨g, 0, rfl, hb.lt, fun i x hx => ?_⟩⟩ (els2 h1 h2 c1 c2) (by omega) (by intro s hs; simp only [List.mem_cons, List.not_mem_nil, or_false] at hs; rcases hs with rfl | rfl <;> omega) (by intro l hl; simp only [List.mem_cons, List.not_mem_nil, or_false] at hl; rcases hl with rfl | rfl; exact o1; exact o2) (by have := h1.1; have := h2.1; simp; omega)).mono ?_
  · match i, hx with
    | 0, hx => cases hx; rw [hb.cell]; rfl
    | 1, hx => cases hx; rw [hb.cell]; rfl
    | i + 2, hx => simp at hx
  · rintro e w' ⟨A', n', c', rfl, hr, hl, _, he⟩
    rw [hF] at hr hl ⊢
    exact ⟨A', n', c', rfl, hr.rd evC_len (by decide), hr.2.1, he⟩
set_option maxRecDepth 100000 in
set_option maxHeartbeats 4000000 in
theorem walkMergeWithout (A0 : Option Addr) (n0 c0 : Nat) (l : List Sm) (A1 : Option Addr) (n1 c1 : Nat) (o : List Sm) (A2 : Option Addr) (n2 c2 : Nat) (pk : List Nat) (w : World) (h0 : SmArg w A0 n0 c0 l) (h1 : SmArg w A1 n1 c1 o) (h2 : Arg .u8 256 w A2 n2 c2 pk) :
    Calls Try.prog 7 #[.slice A0 n0 c0, .slice A1 n1 c1, .slice A2 n2 c2] w fun e w' => e = .returned (.bool true) ∧ Ext w w' := by
  obtain ⟨L, hL⟩ : ∃ L, L = evsF l 50 := ⟨_, rfl⟩
  have hLd : Dif L := by rw [hL]; exact evsF_dif _ _
  have hLo : ∀ x ∈ L, EvOk x := fun x hx => by rw [hL] at hx; obtain ⟨y, hy, rfl⟩ := evsF_in hx; exact mkE_ok (h0.ok y hy)
  have HEv := Lib.hid (fun w' (e : Ext w w') => law_evs hL (h0.ext e))
  obtain ⟨S, hS⟩ : ∃ S, S = isort L := ⟨_, rfl⟩
  have HSs := Lib.hid (show Srt S by rw [hS]; exact isort_srt hLd)
  have HVo := Lib.hid (show ∀ x ∈ S, -300 ≤ x.v ∧ x.v ≤ 300 ∧ 0 ≤ x.to ∧ x.to ≤ 300 ∧ x.s < 16 from fun x hx => by
    rw [hS] at hx
    have hx := (isort_perm L).mem_iff.1 hx
    rw [hL] at hx
    obtain ⟨y, hy, rfl⟩ := evsF_in hx
    obtain ⟨q1, q2, q3, q4, q5⟩ := h0.ok y hy
    simp only [mkE]; omega)
  have HS := Lib.hid hS
  have HLd := Lib.hid hLd
  have HLo := Lib.hid hLo
  have HP := Lib.hid h2
  obtain ⟨L2, hL2⟩ : ∃ L2, L2 = evsF o 20 := ⟨_, rfl⟩
  have HL2o := Lib.hid (show ∀ x ∈ L2, EvOk x from fun x hx => by rw [hL2] at hx; obtain ⟨y, hy, rfl⟩ := evsF_in hx; exact mkE_ok (h1.ok y hy))
  have HEv2 := Lib.hid (fun w' (e : Ext w w') => law_evs20 hL2 (h1.ext e))
  clear h0 h1 hL hLd hLo hS h2 hL2
  go_enter Try.func7, Try.ntmps7
  go_wp2_with fail
  refine (awake_ w).mono ?_; rintro e w1 ⟨rfl, e1⟩
  have E1 := Lib.hid e1
  clear e1
  go_wp2_with fail
  refine (HEv.out _ E1.out).mono ?_; rintro e w2 ⟨A3, n3, c3, rfl, r2, q2, m2, e2⟩
  have E2 := Lib.hid (E1.out.t e2)
  clear E1 HEv
  go_wp2_with fail
  refine (law_sort HS.out HLd.out r2 q2 m2 HLo.out).mono ?_; rintro e w3 ⟨A4, n4, c4, rfl, r3, q3, m3, e3⟩
  have R3 := Lib.hid r3
  have M3 := Lib.hid m3
  have Q3 := Lib.hid q3
  have E3 := Lib.hid (E2.out.t e3)
  clear r2 q2 m2 e2 e3 r3 q3 m3 E2
  go_wp2_with fail
  go_loopw [9, 10, 36] (fun av lv i wr => ∃ (k na ca nl cl : Nat) (Aa Al : Option Addr), k ≤ n4 ∧ i = .int .i64 (k : Int) ∧ av = .slice Aa na ca ∧ lv = .slice Al nl cl ∧ Hid (TwoJ w3 Aa na ca Al nl cl (awyF (pickB pk) 0 (S.take k)) (lftF (pickB pk) 0 (S.take k)) wr)) (fun _ _ i _ => n4 - (intOf i).toNat)
  case atStart => exact ⟨0, 0, 0, 0, 0, none, none, by omega, rfl, rfl, rfl, Lib.hid ⟨RoomS.nil, RoomS.nil, rfl, rfl, fun k hk => absurd hk foot_none, fun k hk => absurd hk foot_none, fun k hk => absurd hk foot_none, Ext.refl _⟩⟩
  case round =>
    obtain ⟨k, na, ca, nl, cl, Aa, Al, hk, rfl, rfl, rfl, HJ⟩ := hrel
    by_cases hlt : k < n4
    · obtain ⟨b, o', x, rfl, _, hx, c0, c1, c2, c3, c4⟩ := (R3.out.ext HJ.out.ext).ev hlt
      have hltI : (k : Int) < (n4 : Int) := by omega
      have hn4 := M3.out
      have Hx := Lib.hid hx
      have HNA := Lib.hid (show na ≤ 1000000 by have h1 := HJ.out.e1; have h2 := awyF_len (pickB pk) (S.take k) 0; rw [take_k hx] at h2; have := M3.out; omega)
      have HNL := Lib.hid (show nl ≤ 1000000 by have h1 := HJ.out.e2; have h2 := lftF_len (pickB pk) (S.take k) 0; rw [take_k hx] at h2; have := M3.out; omega)
      obtain ⟨g8, hg8⟩ : ∃ g8, g8 = wr.heap.size := ⟨_, rfl⟩
      have hb8 := Blk.new wr 37 (evC x).toArray
      rw [← hg8] at hb8
      obtain ⟨w8, hw8⟩ : ∃ w8, w8 = wr.alloc (.cells (evC x).toArray 37) := ⟨_, rfl⟩
      rw [← hw8] at hb8
      have HB8 := Lib.hid hb8
      have HX8 := Lib.hid (show Ext wr w8 by rw [hw8]; exact Ext.alloc _ _)
      have HG8L := Lib.hid (show wr.heap.size ≤ g8 by omega)
      have HW8 := Lib.hid hw8
      have HG8 := Lib.hid hg8
      clear hx hb8 hw8 hg8
      go_upto_region 8 with fail
      change Code.wp _ _ _ _ (wr.alloc (.cells (evC x).toArray 37))
      rw [← HW8.out, ← HG8.out]
      clear HW8 HG8 c0 c1 c2 c3 c4
      obtain ⟨d0, d1, d2, d3, d4⟩ := HB8.out.ev
      by_cases hkn : k < n2
      · have hknI : (k : Int) < (n2 : Int) := by omega
        obtain ⟨pb, po, z, rfl, _, hz, cz⟩ := (((HP.out.rd.ext E3.out).ext HJ.out.ext).ext HX8.out).at_ hkn
        by_cases hz1 : z % 2 = 1
        · have hzI : (z : Int) % 2 = 1 := by omega
          have Hpk := Lib.hid (show pickB pk k = true by unfold pickB; rw [hz]; simpa using hz1)
          clear hz hz1
          have hwv : IntKind.i64.wrap (x.v + 1) = x.v + 1 := IntWalk.i64_in _ (by have := HVo.out x (List.mem_of_getElem? Hx.out); omega)
          have hwo : IntKind.i64.wrap (-x.to) = -x.to := IntWalk.i64_in _ (by have := HVo.out x (List.mem_of_getElem? Hx.out); omega)
          have hf3 := HB8.out.frozen 3
          have hf4 := HB8.out.frozen 4
          obtain ⟨w9, hw9⟩ : ∃ w9, w9 = (w8.setCell ⟨g8, 4, none⟩ (.int .i64 (x.v + 1))).setCell ⟨g8, 3, none⟩ (.int .i64 (-x.to)) := ⟨_, rfl⟩
          have hb9 := (HB8.out.set_ 4 (.int .i64 (x.v + 1))).set_ 3 (.int .i64 (-x.to))
          have hx9 : Ext wr w9 := by rw [hw9]; exact below_set (below_set HX8.out HG8L.out _) HG8L.out _
          rw [← hw9] at hb9
          have hb9' : Blk w9 g8 37 (evC (twist x)).toArray := hb9
          have HB9 := Lib.hid hb9'
          have HX9 := Lib.hid hx9
          have HW9 := Lib.hid hw9
          clear hb9 hb9' hx9 hw9
          go_upto_region 10 with fail
          change Code.wp _ _ _ _ ((w8.setCell ⟨g8, 4, none⟩ (.int .i64 (x.v + 1))).setCell ⟨g8, 3, none⟩ (.int .i64 (-x.to)))
          rw [← HW9.out]
          clear HW9 d0 d1 d2 d3 d4 hf3 hf4
          obtain ⟨d0, d1, d2, d3, d4⟩ := HB9.out.ev
          go_wp2_with (refine wpl_append_atS (by rfl) rfl ul_ev info_ev rfl rfl ((HJ.out.r1.ext HX9.out).ext (Ext.alloc _ _)) rfl (Src.ofRdS ul_ev evC_len (rdS_one evC_len _ _ (twist x) rfl) evC_one) (by have := HNA.out; simp only [maxLen]; omega) (by have := HNA.out; omega) ?_)
          intro A5 c5 w5 r5 ch5 ft5
          have HR := Lib.hid (((HJ.out.e HX9.out).e (Ext.alloc _ _)).app r5 ch5 _ ft5 (by first | exact Nat.le_refl _ | simp))
          rw [← lft_hit Hx.out Hpk.out, ← awy_hit Hx.out Hpk.out] at HR
          clear r5 ch5 ft5
          refine Lib.hid ?_
          go_wp2_with fail
          go_roundw
          case rel => exact ⟨k + 1, na + 1, c5, nl, cl, A5, Al, by omega, by go_num, rfl, rfl, HR⟩
          case measure => simp [intOf]; omega
        · have hzI : ¬ ((z : Int) % 2 = 1) := by omega
          have Hpk := Lib.hid (show pickB pk k = false by unfold pickB; rw [hz]; simpa using hz1)
          clear hz hz1
          go_wp2_with (refine wpl_append_atS (by rfl) rfl ul_ev info_ev rfl rfl ((HJ.out.r2.ext HX8.out).ext (Ext.alloc _ _)) rfl (Src.ofRdS ul_ev evC_len (rdS_one evC_len _ _ x rfl) evC_one) (by have := HNL.out; simp only [maxLen]; omega) (by have := HNL.out; omega) ?_)
          intro A5 c5 w5 r5 ch5 ft5
          have HR := Lib.hid (((HJ.out.e HX8.out).swap.e (Ext.alloc _ _)).app r5 ch5 _ ft5 (by first | exact Nat.le_refl _ | simp)).swap
          rw [← lft_mis Hx.out Hpk.out, ← awy_mis Hx.out Hpk.out] at HR
          clear r5 ch5 ft5
          refine Lib.hid ?_
          go_wp2_with fail
          go_roundw
          case rel => exact ⟨k + 1, na, ca, nl + 1, c5, Aa, A5, by omega, by go_num, rfl, rfl, HR⟩
          case measure => simp [intOf]; omega
      · have hknI : ¬ ((k : Int) < (n2 : Int)) := by omega
        have Hpk := Lib.hid (show pickB pk k = false by unfold pickB; rw [List.getElem?_eq_none (by rw [HP.out.rd.1]; omega)])
        go_wp2_with (refine wpl_append_atS (by rfl) rfl ul_ev info_ev rfl rfl ((HJ.out.r2.ext HX8.out).ext (Ext.alloc _ _)) rfl (Src.ofRdS ul_ev evC_len (rdS_one evC_len _ _ x rfl) evC_one) (by have := HNL.out; simp only [maxLen]; omega) (by have := HNL.out; omega) ?_)
        intro A5 c5 w5 r5 ch5 ft5
        have HR := Lib.hid (((HJ.out.e HX8.out).swap.e (Ext.alloc _ _)).app r5 ch5 _ ft5 (by first | exact Nat.le_refl _ | simp)).swap
        rw [← lft_mis Hx.out Hpk.out, ← awy_mis Hx.out Hpk.out] at HR
        clear r5 ch5 ft5
        refine Lib.hid ?_
        go_wp2_with fail
        go_roundw
        case rel => exact ⟨k + 1, na, ca, nl + 1, c5, Aa, A5, by omega, by go_num, rfl, rfl, HR⟩
        case measure => simp [intOf]; omega
    · obtain rfl : n4 = k := by omega
      have HJ2 := HJ.out
      rw [List.take_of_length_le (by have := R3.out.1; omega)] at HJ2
      obtain ⟨AW, hAW⟩ : ∃ AW, AW = awyF (pickB pk) 0 S := ⟨_, rfl⟩
      obtain ⟨LF, hLF⟩ : ∃ LF, LF = lftF (pickB pk) 0 S := ⟨_, rfl⟩
      rw [← hAW, ← hLF] at HJ2
      have HAW := Lib.hid hAW
      have HLF := Lib.hid hLF
      have HAl := Lib.hid (show na ≤ 50 by have h1 := HJ2.e1; have h2 := awyF_len (pickB pk) S 0; rw [← hAW] at h2; have := R3.out.1; have := M3.out; omega)
      have HLl := Lib.hid (show nl ≤ 50 by have h1 := HJ2.e2; have h2 := lftF_len (pickB pk) S 0; rw [← hLF] at h2; have := R3.out.1; have := M3.out; omega)
      have RA := Lib.hid (HJ2.r1.rd evC_len (by decide))
      have QA := Lib.hid HJ2.r1.2.1
      have RL := Lib.hid (HJ2.r2.rd evC_len (by decide))
      have R3 := Lib.hid (R3.out.ext HJ2.ext)
      have E4 := Lib.hid (E3.out.t HJ2.ext)
      clear HJ2 HJ hAW hLF E3
      go_wp2_with fail
      refine (HEv2.out _ E4.out).mono ?_; rintro e w5 ⟨A5, n5, c5, rfl, r5, q5, m5, e5⟩
      have R5 := Lib.hid r5
      have M5 := Lib.hid m5
      have R3 := Lib.hid (R3.out.ext e5)
      have RA := Lib.hid (RA.out.ext e5)
      have RL := Lib.hid (RL.out.ext e5)
      have E5 := Lib.hid (E4.out.t e5)
      clear r5 q5 m5 e5 E4 HEv2
      go_wp2_with fail
      go_loopw [11, 73] (fun sv i wr => ∃ (k ns cs : Nat) (As : Option Addr) (T : List Ev), k ≤ n5 ∧ i = .int .i64 (k : Int) ∧ sv = .slice As ns cs ∧ Hid (WoO w5 As ns cs T wr ∧ StrOk T ∧ ns ≤ k)) (fun _ i _ => n5 - (intOf i).toNat)
      case atStart => exact ⟨0, 0, 0, none, [], by omega, rfl, rfl, Lib.hid ⟨⟨RoomS.nil, rfl, fun q hq => absurd hq foot_none, Ext.refl _⟩, StrOk.nil, Nat.le_refl _⟩⟩
      case round =>
        obtain ⟨k, ns, cs, As, T, hk, rfl, rfl, HJ⟩ := hrel
        by_cases hlt : k < n5
        · obtain ⟨b, o', y, rfl, _, hy, c0, c1, c2, c3, c4⟩ := (R5.out.ext HJ.out.1.2.2.2).ev hlt
          have hltI : (k : Int) < (n5 : Int) := by omega
          have Hyo := Lib.hid (HL2o.out y (List.mem_of_getElem? hy))
          obtain ⟨g8, hg8⟩ : ∃ g8, g8 = wr.heap.size := ⟨_, rfl⟩
          have hb8 := Blk.new wr 37 (evC (strE y)).toArray
          obtain ⟨w8, hw8⟩ : ∃ w8, w8 = wr.alloc (.cells (evC (strE y)).toArray 37) := ⟨_, rfl⟩
          have hx8 : Ext wr w8 := by rw [hw8]; exact Ext.alloc _ _
          rw [← hw8, ← hg8] at hb8
          have HB8 := Lib.hid hb8
          have HX8 := Lib.hid hx8
          have HW8 := Lib.hid hw8
          have HG8 := Lib.hid hg8
          have HNS := Lib.hid (show ns ≤ 1000000 by have := HJ.out.2.2; have := M5.out; omega)
          clear hy hb8 hw8 hx8 hg8
          have hn5 := M5.out
          go_upto_region 17 with fail
          change Code.wp _ _ _ _ (wr.alloc (.cells (evC (strE y)).toArray 37))
          rw [← HW8.out, ← HG8.out]
          clear HW8 HG8 c0 c1 c2 c3 c4
          have HC := Lib.hid (has3_ (strE y) g8 As ns cs T w8 ((HJ.out.1.1.ext HX8.out).rd evC_len (by decide)) (by have := HNS.out; omega) HB8.out)
          cases ha : T.any (sameK (strE y)) with
          | true =>
            rw [ha] at HC
            clear ha
            go_wp2_with fail
            refine HC.out.mono ?_; rintro e w9 ⟨rfl, e9⟩
            have HR := Lib.hid (HJ.out.1.e (HX8.out.t e9))
            clear e9 HC
            go_wp2_with fail
            go_roundw
            case rel => exact ⟨k + 1, ns, cs, As, T, by omega, by go_num, rfl, Lib.hid ⟨HR.out, HJ.out.2.1, by have := HJ.out.2.2; omega⟩⟩
            case measure => simp [intOf]; omega
          | false =>
            rw [ha] at HC
            have HT := Lib.hid (HJ.out.2.1.snoc Hyo.out ha)
            clear ha
            go_wp2_with fail
            refine HC.out.mono ?_; rintro e w9 ⟨rfl, e9⟩
            have HX9 := Lib.hid (HX8.out.t e9)
            obtain ⟨d0, d1, d2, d3, d4⟩ := (HB8.out.ext e9).ev
            clear e9 HC
            go_wp2_with (refine wpl_append_atS (by rfl) rfl ul_ev info_ev rfl rfl ((HJ.out.1.1.ext HX9.out).ext (Ext.alloc _ _)) rfl (Src.ofRdS ul_ev evC_len (rdS_one evC_len _ _ (strE y) rfl) evC_one) (by have := HNS.out; simp only [maxLen]; omega) (by have := HNS.out; omega) ?_)
            intro A6 c6 w6 r6 ch6 ft6
            have HR := Lib.hid (wo_app HJ.out.1 HX9.out r6 ch6 _ ft6 (by first | exact Nat.le_refl _ | simp))
            clear r6 ch6 ft6
            refine Lib.hid ?_
            go_wp2_with fail
            go_roundw
            case rel => exact ⟨k + 1, ns + 1, c6, A6, _, by omega, by go_num, rfl, Lib.hid ⟨HR.out, HT.out, by have := HJ.out.2.2; omega⟩⟩
            case measure => simp [intOf]; omega
        · obtain rfl : n5 = k := by omega
          have RT := Lib.hid (HJ.out.1.1.rd evC_len (by decide))
          have QT := Lib.hid HJ.out.1.1.2.1
          have MT := Lib.hid (show ns ≤ 50 by have := HJ.out.2.2; have := M5.out; omega)
          have HTd := Lib.hid HJ.out.2.1
          have HX := Lib.hid HJ.out.1.2.2.2
          have R3 := Lib.hid (R3.out.ext HX.out)
          have RA := Lib.hid (RA.out.ext HX.out)
          have RL := Lib.hid (RL.out.ext HX.out)
          have E6 := Lib.hid (E5.out.t HX.out)
          obtain ⟨ST, hST⟩ : ∃ ST, ST = isort T := ⟨_, rfl⟩
          obtain ⟨hW1, hW2, U, hMU, hWU, hUl⟩ := wo_facts HSs.out (fun x hx => (HVo.out x hx).2.2.2.2) HTd.out HAW.out
          rw [← hST] at hW2 hMU
          rw [← HLF.out] at hW1 hWU
          have HW1 := Lib.hid hW1
          have HW2 := Lib.hid hW2
          have HMU := Lib.hid hMU
          have HWU := Lib.hid hWU
          have HUl := Lib.hid (show U.length ≤ 100 by have h1 := RA.out.1; have h2 := RT.out.1; have := HAl.out; have := MT.out; omega)
          have HST := Lib.hid hST
          have HTo := Lib.hid (show ∀ x ∈ ST, EvOk x from fun x hx => by rw [hST] at hx; exact HTd.out.ok x ((isort_perm T).mem_iff.1 hx))
          have HAo := Lib.hid (show ∀ x ∈ AW, EvOk x from fun x hx => by
            rw [HAW.out] at hx
            obtain ⟨z, hz, rfl⟩ := awy_key hx
            have h1 := HVo.out z hz
            have h2 : EvOk z := HLo.out z (by rw [HS.out] at hz; exact (isort_perm L).mem_iff.1 hz)
            exact ⟨h2.t1, h2.t2, h2.s1, h2.s2, h2.q1, h2.q2, (by show _ ≤ -z.to; omega), (by show -z.to ≤ _; omega), (by show _ ≤ z.v + 1; omega), (by show z.v + 1 ≤ _; omega)⟩)
          clear hST hW1 hW2 hMU hWU hUl HX HJ E5
          go_wp2_with fail
          refine (law_sort HST.out HTd.out.dif RT.out QT.out MT.out HTd.out.ok).mono ?_; rintro e w7 ⟨A7, n7, c7, rfl, r7, q7, m7, e7⟩
          have R7 := Lib.hid r7
          have Q7 := Lib.hid q7
          have M7 := Lib.hid m7
          have R3 := Lib.hid (R3.out.ext e7)
          have RA := Lib.hid (RA.out.ext e7)
          have RL := Lib.hid (RL.out.ext e7)
          have E7 := Lib.hid (E6.out.t e7)
          clear r7 q7 m7 e7 E6
          go_wp2_with fail
          refine (law_without HW1.out R3.out RA.out M3.out HAl.out QA.out).mono ?_; rintro e w8 ⟨A8, n8, c8, rfl, r8, q8, e8⟩
          have R8 := Lib.hid r8
          have X8 := Lib.hid e8
          clear r8 q8 e8
          go_wp2_with fail
          refine (law_without HW2.out (R3.out.ext X8.out) (R7.out.ext X8.out) M3.out M7.out Q7.out).mono ?_; rintro e w9 ⟨A9, n9, c9, rfl, r9, q9, e9⟩
          have R9 := Lib.hid r9
          have R8 := Lib.hid (R8.out.ext e9)
          have X9 := Lib.hid (X8.out.t e9)
          clear r9 q9 e9 X8
          go_wp2_with fail
          refine (law_merge2' (s1 := ⟨Aa, na, ca⟩) (s2 := ⟨A7, n7, c7⟩) HMU.out (Blk.new w9 24 #[.slice Aa na ca, .slice A7 n7 c7]) (RA.out.ext (X9.out.t (Ext.alloc _ _))) (R7.out.ext (X9.out.t (Ext.alloc _ _))) QA.out Q7.out HAl.out M7.out HAo.out HTo.out).mono ?_; rintro e w10 ⟨A10, n10, c10, rfl, r10, q10, e10⟩
          have Y10 := (Ext.alloc w9 (.cells #[.slice Aa na ca, .slice A7 n7 c7] 24)).t e10
          have R10 := Lib.hid r10
          have Q10 := Lib.hid q10
          have M10 := Lib.hid (show n10 ≤ 1000 by have h1 := r10.1; have := HUl.out; omega)
          have R8 := Lib.hid (R8.out.ext Y10)
          have R9 := Lib.hid (R9.out.ext Y10)
          have X10 := Lib.hid (X9.out.t Y10)
          clear r10 q10 e10 Y10 X9
          go_wp2_with fail
          refine (law_without' HWU.out (R3.out.ext X10.out) R10.out (by have := M3.out; omega) M10.out Q10.out).mono ?_; rintro e w11 ⟨A11, n11, c11, rfl, r11, q11, e11⟩
          have R8 := Lib.hid (R8.out.ext e11)
          have R9 := Lib.hid (R9.out.ext e11)
          have R11 := Lib.hid r11
          have X11 := Lib.hid (X10.out.t e11)
          clear r11 q11 e11 X10
          have HNL := Lib.hid (show nl ≤ 1000 by have := HLl.out; omega)
          have HN3 := Lib.hid (show n4 ≤ 1000 by have := M3.out; omega)
          have HN8 := Lib.hid (show n8 ≤ 1000 by have h1 := R8.out.1; have h2 := RL.out.1; have := HLl.out; omega)
          have HN9 := Lib.hid (show n9 ≤ 1000 by have h1 := R9.out.1; have h2 := R3.out.1; have := M3.out; omega)
          have HN11 := Lib.hid (show n11 ≤ 1000 by have h1 := R11.out.1; have h2 := RL.out.1; have := HLl.out; omega)
          go_wp2_with fail
          refine (aw_same rfl R8.out (RL.out.ext X11.out) HN8.out HNL.out).mono ?_; rintro e w12 ⟨rfl, e12⟩
          have X12 := Lib.hid e12
          clear e12
          go_wp2_with fail
          refine (aw_same rfl (R9.out.ext X12.out) (R3.out.ext (X11.out.t X12.out)) HN9.out HN3.out).mono ?_; rintro e w13 ⟨rfl, e13⟩
          have X13 := Lib.hid (X12.out.t e13)
          clear e13 X12
          go_wp2_with fail
          refine (aw_same rfl (R11.out.ext X13.out) (RL.out.ext (X11.out.t X13.out)) HN11.out HNL.out).mono ?_; rintro e w14 ⟨rfl, e14⟩
          have X14 := Lib.hid (E7.out.t (X11.out.t (X13.out.t e14)))
          clear e14 X13
          go_wp2_with fail
          go_ret
          exact ⟨rfl, X14.out⟩
end Go.Proofs.Ytkeapijehfacfaa
