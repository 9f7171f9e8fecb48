/- MergeCut: the walk of the law: for any list of small numbers and any small time it answers true and leaves all memory as it was (no condition). -/
import Derived.Test.YtkeapijehfacfaaMaw
import Derived.Test.YtkeapijehfacfaaMci
namespace Go.Proofs.Ytkeapijehfacfaa
open Go.RowKit Go.Fx Go.ChangeShapes Go.WideShapes Go.ChangeAt Go.Deep
section
variable {H : Type} {enc : TypeId × Value → H} {w : World} {base b0 : Nat} {spare : Nat → Bool} {held : Bool} {r : Reach}
set_option maxRecDepth 100000 in
theorem open_t22 {v : Value} {d : DataW H} {p : List MemPlace} (hv : Value.okWide Try.prog w r b0 22 v) (h : DataW.Trod enc Try.prog w base spare held 22 v d p) :
    ∃ A n c l, v = .slice A n c ∧ SmArg w A n c l := open_sm hv h
end
theorem SmArg.ext {w w' : World} {A : Option Addr} {n c : Nat} {l : List Sm} (h : SmArg w A n c l) (e : Ext w w') : SmArg w' A n c l := ⟨h.rd.ext e, h.ok, h.le, h.max⟩
theorem law_evs {A : Option Addr} {n c : Nat} {l : List Sm} {w : World} {L : List Ev} (hL : L = evsF l 50) (h : SmArg w A n c l) :
    Calls Try.prog 14 #[.slice A n c, .int .i64 50] w fun e w' => ∃ A' n' c', e = .returned (.slice A' n' c') ∧ RdS 5 evC w' A' n' L ∧ n' ≤ c' ∧ n' ≤ 50 ∧ Ext w w' := by
  subst hL
  refine (events_ A n c 50 l w h (by omega)).mono ?_
  rintro e w' ⟨A', n', c', rfl, hr, hl, _, he⟩
  exact ⟨A', n', c', rfl, hr.rd evC_len (by decide), hr.2.1, by rw [← hl]; exact evsF_len _ _, he⟩
theorem law_sort {A : Option Addr} {n c : Nat} {l S : List Ev} {w : World} (hS : S = isort l) (hd : Dif l) (h : RdS 5 evC w A n l) (hc : n ≤ c) (hn : n ≤ 50) (hok : ∀ x ∈ l, EvOk x) :
    Calls Try.prog 16 #[.slice A n c] w fun e w' => ∃ A' n' c', e = .returned (.tuple #[.slice A' n' c', .int .i64 0]) ∧ RdS 5 evC w' A' n' S ∧ n' ≤ c' ∧ n' ≤ 50 ∧ Ext w w' := by
  subst hS
  refine (sort_ A n c l w h hc (by omega) hok).mono ?_
  rintro e w' ⟨A', n', c', rfl, hr, hl, _, he⟩
  rw [sortF_ok hd] at hr hl ⊢
  have h1 := isort_len l
  have h2 := h.1
  exact ⟨A', n', c', rfl, hr.rd evC_len (by decide), hr.2.1, by have : (isort l).length = n' := hl; omega, he⟩
theorem law_cut {A : Option Addr} {n c : Nat} {l a b : List Ev} {t : Int} {w : World} (hs : Srt l) (ha : a = l.take (cutAt t l)) (hb : b = l.drop (cutAt t l)) (h : RdS 5 evC w A n l) (hc : n ≤ c) (hn : n ≤ 50) :
    Calls Try.prog 23 #[.slice A n c, .int .i64 t] w fun e w' => ∃ A1 n1 c1 A2 n2 c2, e = .returned (.tuple #[.slice A1 n1 c1, .slice A2 n2 c2, .int .i64 0]) ∧ RdS 5 evC w' A1 n1 a ∧ RdS 5 evC w' A2 n2 b ∧ n1 ≤ c1 ∧ n2 ≤ c2 ∧ n1 ≤ 50 ∧ n2 ≤ 50 ∧ Ext w w' := by
  subst ha hb
  refine (cut_ A n c l t w h hc (by omega)).mono ?_
  rintro e w' ⟨A1, n1, c1, A2, n2, c2, rfl, h1, h2, h3, h4, _, _, he⟩
  have hv : cutF l t = (l.take (cutAt t l), l.drop (cutAt t l), 0) := by unfold cutF; rw [if_pos ((srtB_iff l).2 hs)]
  rw [hv] at h1 h2 h3 h4 ⊢
  have h5 := h.1
  exact ⟨A1, n1, c1, A2, n2, c2, rfl, h1.rd evC_len (by decide), h2.rd evC_len (by decide), h1.2.1, h2.2.1, by have : (l.take (cutAt t l)).length = n1 := h3; rw [List.length_take] at this; omega, by have : (l.drop (cutAt t l)).length = n2 := h4; rw [List.length_drop] at this; omega, he⟩
theorem law_without {A1 A2 : Option Addr} {n1 n2 c1 c2 : Nat} {la lb r : List Ev} {w : World} (hF : woF la lb = (r, 0)) (h1 : RdS 5 evC w A1 n1 la) (h2 : RdS 5 evC w A2 n2 lb) (m1 : n1 ≤ 50) (m2 : n2 ≤ 50) (hc : n2 ≤ c2) :
    Calls Try.prog 24 #[.slice A1 n1 c1, .slice A2 n2 c2] w fun e w' => ∃ A' n' c', e = .returned (.tuple #[.slice A' n' c', .int .i64 0]) ∧ RdS 5 evC w' A' n' r ∧ n' ≤ c' ∧ Ext w w' := by
  refine (without_ A1 A2 n1 c1 n2 c2 la lb w h1 h2 (by omega) (by omega) hc).mono ?_
  rintro e w' ⟨A', n', c', rfl, hr, hl, _, he⟩
  rw [hF] at hr hl ⊢
  exact ⟨A', n', c', rfl, hr.rd evC_len (by decide), hr.2.1, he⟩
theorem law_merge2 {g : Nat} {s1 s2 : Sl} {l1 l2 r : List Ev} {w : World} (hF : mergeF [l1, l2] = (r, -1, 0)) (hb : Blk w g 24 #[.slice s1.A s1.n s1.c, .slice s2.A s2.n s2.c]) (h1 : RdS 5 evC w s1.A s1.n l1) (h2 : RdS 5 evC w s2.A s2.n l2) (c1 : s1.n ≤ s1.c) (c2 : s2.n ≤ s2.c) (m1 : s1.n ≤ 50) (m2 : s2.n ≤ 50) (o1 : ∀ x ∈ l1, EvOk x) (o2 : ∀ x ∈ l2, EvOk x) :
    Calls Try.prog 19 #[.slice (some ⟨g, 0, none⟩) 2 2] w fun e w' => ∃ A' n' c', e = .returned (.tuple #[.slice A' n' c', .int .i64 (-1), .int .i64 0]) ∧ RdS 5 evC w' A' n' r ∧ Ext w w' := by
  refine (merge_ _ 2 2 [s1, s2] [l1, l2] w ⟨rfl, fun _ => ⟨g, 0, rfl, hb.lt, fun i x hx => ?_⟩⟩ (els2 h1 h2 c1 c2) (by omega) (by intro s hs; simp only [List.mem_cons, List.not_mem_nil, or_false] at hs; rcases hs with rfl | rfl <;> omega) (by intro l hl; simp only [List.mem_cons, List.not_mem_nil, or_false] at hl; rcases hl with rfl | rfl; exact o1; exact o2) (by have := h1.1; have := h2.1; simp; omega)).mono ?_
  · match i, hx with
    | 0, hx => cases hx; rw [hb.cell]; rfl
    | 1, hx => cases hx; rw [hb.cell]; rfl
    | i + 2, hx => simp at hx
  · rintro e w' ⟨A', n', c', rfl, hr, hl, _, he⟩
    rw [hF] at hr hl ⊢
    exact ⟨A', n', c', rfl, hr.rd evC_len (by decide), he⟩
set_option maxRecDepth 100000 in
set_option maxHeartbeats 4000000 in
theorem walkMergeCut (A0 : Option Addr) (n0 c0 : Nat) (l : List Sm) (a1 : Int) (w : World) (h0 : SmArg w A0 n0 c0 l) (h1 : (Lit.int .u8 a1).wf = true) :
    Calls Try.prog 6 #[.slice A0 n0 c0, .int .u8 a1] w fun e w' => e = .returned (.bool true) ∧ Ext w w' := by
  have hb1 := bounds_u8 h1
  obtain ⟨m, rfl⟩ : ∃ m : Nat, a1 = (m : Int) := ⟨a1.toNat, by omega⟩
  obtain ⟨L, hL⟩ : ∃ L, L = evsF l 50 := ⟨_, rfl⟩
  have hLd : Dif L := by rw [hL]; exact evsF_dif _ _
  have hLo : ∀ x ∈ L, EvOk x := fun x hx => by rw [hL] at hx; obtain ⟨y, hy, rfl⟩ := evsF_in hx; exact mkE_ok (h0.ok y hy)
  have HEv := Lib.hid (fun w' (e : Ext w w') => law_evs hL (h0.ext e))
  obtain ⟨S, hS⟩ : ∃ S, S = isort L := ⟨_, rfl⟩
  have hSs : Srt S := by rw [hS]; exact isort_srt hLd
  have hSo : ∀ x ∈ S, EvOk x := fun x hx => by rw [hS] at hx; exact hLo x ((isort_perm L).mem_iff.1 hx)
  have HSo := Lib.hid hSo
  have HLd := Lib.hid hLd
  have HLo := Lib.hid hLo
  have HSs := Lib.hid hSs
  have HS := Lib.hid hS
  obtain ⟨t, ht⟩ : ∃ t : Int, t = (m : Int) % 21 := ⟨_, rfl⟩
  have Ht := Lib.hid ht
  obtain ⟨ea, hea⟩ : ∃ ea, ea = S.take (cutAt t S) := ⟨_, rfl⟩
  obtain ⟨la, hla⟩ : ∃ la, la = S.drop (cutAt t S) := ⟨_, rfl⟩
  have hap : S = ea ++ la := by rw [hea, hla, List.take_append_drop]
  have Hea := Lib.hid hea
  have Hla := Lib.hid hla
  have Heo := Lib.hid (show ∀ x ∈ ea, EvOk x from fun x hx => hSo x (by rw [hap]; exact List.mem_append_left _ hx))
  have Hlo := Lib.hid (show ∀ x ∈ la, EvOk x from fun x hx => hSo x (by rw [hap]; exact List.mem_append_right _ hx))
  have HM := Lib.hid (show mergeF [la, ea] = (S, -1, 0) by rw [hea, hla]; exact merge_parts hSs _)
  have hsea : srtB ea = true := (srtB_iff _).2 (by rw [hea]; exact srt_take hSs _)
  have hsla : srtB la = true := (srtB_iff _).2 (by rw [hla]; exact srt_drop hSs _)
  have hss : srtB S = true := (srtB_iff _).2 hSs
  have hdap : Dif (ea ++ la) := by rw [← hap]; exact hSs.dif
  have HW1 := Lib.hid (show woF S la = (ea, 0) by unfold woF; rw [if_pos ⟨hss, hsla⟩, hap, left_right hdap])
  have HW2 := Lib.hid (show woF S ea = (la, 0) by unfold woF; rw [if_pos ⟨hss, hsea⟩, hap, left_left hdap])
  have HW3 := Lib.hid (show woF S S = ([], 0) by unfold woF; rw [if_pos ⟨hss, hss⟩, left_none (fun x hx => ⟨x, hx, rfl⟩)])
  have HN1 := Lib.hid (show ∀ x ∈ ea, laterB t x = false by rw [hea]; exact cut_early t S)
  have HN2 := Lib.hid (show ∀ x ∈ la, soonB t x = false by rw [hla]; exact cut_late hSs)
  have hwt : IntKind.i64.wrap ((m : Int) % 21) = t := by rw [ht]; exact IntWalk.i64_in _ (by omega)
  clear ht h0 h1 hb1 hL hLd hLo hS hSs hSo hea hla hap hsea hsla hss hdap
  go_enter Try.func6, Try.ntmps6
  go_wp2_with fail
  refine (awake_ w).mono ?_; rintro e w1 ⟨rfl, e1⟩
  have E1 := Lib.hid e1
  clear e1
  go_wp2_with fail
  refine (HEv.out _ E1.out).mono ?_; rintro e w2 ⟨A2, n2, c2, rfl, r2, q2, m2, e2⟩
  have R2 := Lib.hid r2
  have Q2 := Lib.hid q2
  have M2 := Lib.hid m2
  have E2 := Lib.hid (E1.out.t e2)
  clear r2 q2 m2 e2 E1 HEv
  go_wp2_with fail
  refine (law_sort HS.out HLd.out R2.out Q2.out M2.out HLo.out).mono ?_; rintro e w3 ⟨A3, n3, c3, rfl, r3, q3, m3, e3⟩
  have hb3 := Blk.new w3 3 #[.int .i64 t]
  have e3' := (E2.out.t e3).t (Ext.alloc w3 (.cells #[.int .i64 t] 3))
  have r3' := r3.ext (Ext.alloc w3 (.cells #[.int .i64 t] 3))
  obtain ⟨w3', hw3⟩ : ∃ w', w' = w3.alloc (.cells #[.int .i64 t] 3) := ⟨_, rfl⟩
  obtain ⟨B, hB⟩ : ∃ B, B = w3.heap.size := ⟨_, rfl⟩
  rw [← hw3, ← hB] at hb3
  rw [← hw3] at e3' r3'
  have R3 := Lib.hid r3'
  have Q3 := Lib.hid q3
  have M3 := Lib.hid m3
  have E3 := Lib.hid e3'
  have B3 := Lib.hid hb3
  have HW3' := Lib.hid hw3
  have HB := Lib.hid hB
  clear r3 q3 m3 e3 e3' r3' hb3 hw3 hB E2 R2 Q2 M2
  go_wp2_with fail
  rw [← Ht.out, ← HW3'.out, ← HB.out]
  clear HW3' HB Ht hwt
  refine (law_cut HSs.out Hea.out Hla.out R3.out Q3.out M3.out).mono ?_; rintro e w4 ⟨A4, n4, c4, A5, n5, c5, rfl, r4, r5, q4, q5, m4, m5, e4⟩
  have R4 := Lib.hid r4
  have R5 := Lib.hid r5
  have Q4 := Lib.hid q4
  have Q5 := Lib.hid q5
  have M4 := Lib.hid m4
  have M5 := Lib.hid m5
  have R3 := Lib.hid (R3.out.ext e4)
  have B4 := Lib.hid (B3.out.ext e4)
  have E4 := Lib.hid (E3.out.t e4)
  clear r4 r5 q4 q5 m4 m5 e4 E3 B3
  go_wp2_with fail
  refine (law_merge2 (s1 := ⟨A5, n5, c5⟩) (s2 := ⟨A4, n4, c4⟩) HM.out (Blk.new w4 24 #[.slice A5 n5 c5, .slice A4 n4 c4]) (R5.out.ext (Ext.alloc _ _)) (R4.out.ext (Ext.alloc _ _)) Q5.out Q4.out M5.out M4.out Hlo.out Heo.out).mono ?_; rintro e w5 ⟨A6, n6, c6, rfl, r6, e5⟩
  have X5 := (Ext.alloc w4 (.cells #[.slice A5 n5 c5, .slice A4 n4 c4] 24)).t e5
  have R6 := Lib.hid r6
  have R3 := Lib.hid (R3.out.ext X5)
  have R4 := Lib.hid (R4.out.ext X5)
  have R5 := Lib.hid (R5.out.ext X5)
  have B5 := Lib.hid (B4.out.ext X5)
  have E5 := Lib.hid (E4.out.t X5)
  clear r6 e5 X5 E4 B4
  go_wp2_with fail
  refine (law_without HW1.out R3.out R5.out M3.out M5.out Q5.out).mono ?_; rintro e w6 ⟨A7, n7, c7, rfl, r7, q7, e6⟩
  have R7 := Lib.hid r7
  have X6 := Lib.hid e6
  clear r7 q7 e6
  go_wp2_with fail
  refine (law_without HW2.out (R3.out.ext X6.out) (R4.out.ext X6.out) M3.out M4.out Q4.out).mono ?_; rintro e w7 ⟨A8, n8, c8, rfl, r8, q8, e7⟩
  have R8 := Lib.hid r8
  have R7 := Lib.hid (R7.out.ext e7)
  have X7 := Lib.hid (X6.out.t e7)
  clear r8 q8 e7 X6
  go_wp2_with fail
  refine (law_without HW3.out (R3.out.ext X7.out) (R3.out.ext X7.out) M3.out M3.out Q3.out).mono ?_; rintro e w8 ⟨A9, n9, c9, rfl, r9, q9, e8⟩
  obtain rfl : n9 = 0 := by have := r9.1; simpa using this.symm
  have R8 := Lib.hid (R8.out.ext e8)
  have R7 := Lib.hid (R7.out.ext e8)
  have X8 := Lib.hid (X7.out.t e8)
  clear r9 q9 e8 X7
  have H6 := Lib.hid (show n6 ≤ 1000 by have h1 := R6.out.1; have h2 := R3.out.1; have := M3.out; omega)
  have H3 := Lib.hid (show n3 ≤ 1000 by have := M3.out; omega)
  have H4 := Lib.hid (show n4 ≤ 1000 by have := M4.out; omega)
  have H5 := Lib.hid (show n5 ≤ 1000 by have := M5.out; omega)
  have H7 := Lib.hid (show n7 ≤ 1000 by have h1 := R7.out.1; have h2 := R4.out.1; have := M4.out; omega)
  have H8 := Lib.hid (show n8 ≤ 1000 by have h1 := R8.out.1; have h2 := R5.out.1; have := M5.out; omega)
  go_wp2_with fail
  refine (aw_same rfl (R6.out.ext X8.out) (R3.out.ext X8.out) H6.out H3.out).mono ?_; rintro e w9 ⟨rfl, e9⟩
  have X9 := Lib.hid e9
  clear e9
  go_wp2_with fail
  refine (aw_same rfl (R7.out.ext X9.out) (R4.out.ext (X8.out.t X9.out)) H7.out H4.out).mono ?_; rintro e w10 ⟨rfl, e10⟩
  have X10 := Lib.hid (X9.out.t e10)
  clear e10 X9
  go_wp2_with fail
  refine (aw_same rfl (R8.out.ext X10.out) (R5.out.ext (X8.out.t X10.out)) H8.out H5.out).mono ?_; rintro e w11 ⟨rfl, e11⟩
  have X11 := Lib.hid (X8.out.t (X10.out.t e11))
  clear e11 X10 X8
  go_wp2_with fail
  refine (has1_ t B A4 n4 c4 ea w11 (R4.out.ext X11.out) (by have := H4.out; omega) (B5.out.ext X11.out) HN1.out).mono ?_; rintro e w12 ⟨rfl, e12⟩
  have X12 := Lib.hid (X11.out.t e12)
  clear e12 X11
  go_wp2_with fail
  refine (has2_ t B A5 n5 c5 la w12 (R5.out.ext X12.out) (by have := H5.out; omega) (B5.out.ext X12.out) HN2.out).mono ?_; rintro e w13 ⟨rfl, e13⟩
  have X13 := Lib.hid (E5.out.t (X12.out.t e13))
  clear e13 X12
  go_wp2_with fail
  go_ret
  exact ⟨rfl, X13.out⟩
end Go.Proofs.Ytkeapijehfacfaa
