/- Oaw: the examples of the chapter: awake answers true and writes nothing that was there. (Printed by wip/mkaw29.py.) -/
import Derived.Test.YtdjpggnadelnaaaOsm
import Derived.Test.YtdjpggnadelnaaaObg
namespace Go.Proofs.Ytdjpggnadelnaaa
open Go.RowKit Go.Fx
theorem aw_put {w : World} {g n c m gl : Nat} {s l e i erI : Int} {er : Nat} {ev ev' L : List Ev} {A : Option Addr} (hF : putF s l e ev L = (i, er, ev')) (hI : (er : Int) = erI) (h : Obx w g s l e ev A n c) (hl : RdS 5 evC w (some ⟨gl, 0, none⟩) m L) (hok : ∀ x ∈ L, EvOk x) (hm : m ≤ 1000) :
    Calls Try.prog 13 #[.pointer (some ⟨g, 0, none⟩), .slice (some ⟨gl, 0, none⟩) m m] w fun en w' => ∃ A' n' c', en = .returned (.tuple #[.int .i64 i, .int .i64 erI]) ∧ Obx w' g s l e ev' A' n' c' ∧ Chg (fun k => k = g ∨ foot A c k) w w' ∧ (∀ k, foot A' c' k → foot A c k ∨ w.heap.size ≤ k) := by
  subst hI
  have hp := obx_put (some ⟨gl, 0, none⟩) m m L h hl hok (by omega)
  rw [hF] at hp
  exact hp
theorem evok_of (t s q : Int) (h : -1000 ≤ t ∧ t ≤ 1000 ∧ -1000 ≤ s ∧ s ≤ 1000 ∧ -1000 ≤ q ∧ q ≤ 1000) : EvOk ⟨t, s, q, 1, 0⟩ := by
  constructor <;> (dsimp only; omega)
/-- Merge of two outboxes of different sources. -/
theorem aw_merge2 {B : Nat} {w : World} {g1 : Nat} {s1 l1 e1 : Int} {ev1 : List Ev} {A1 : Option Addr} {n1 c1 : Nat} {g2 : Nat} {s2 l2 e2 : Int} {ev2 : List Ev} {A2 : Option Addr} {n2 c2 : Nat} {t : TypeId} (h : TwoB B w g1 s1 l1 e1 ev1 A1 n1 c1 g2 s2 l2 e2 ev2 A2 n2 c2) (hs : s1 ≠ s2) :
    Calls Try.prog 15 #[.slice (some ⟨w.heap.size, 0, none⟩) 2 2] (w.alloc (.cells #[.pointer (some ⟨g1, 0, none⟩), .pointer (some ⟨g2, 0, none⟩)] t)) fun en w' => ∃ A n c, en = .returned (.tuple #[.slice A n c, .int .i64 (-1), .int .i64 0]) ∧ RoomS 5 w' A n c ((isort (isort ev1 ++ isort ev2)).flatMap evC) ∧ Ext w w' := by
  have hb := Blk.new w t #[.pointer (some ⟨g1, 0, none⟩), .pointer (some ⟨g2, 0, none⟩)]
  have hx := h.ext (Ext.alloc w (.cells #[.pointer (some ⟨g1, 0, none⟩), .pointer (some ⟨g2, 0, none⟩)] t))
  refine (obx_merge (some ⟨w.heap.size, 0, none⟩) 2 2 [some g1, some g2] [some (s1, ev1), some (s2, ev2)] _ ⟨rfl, fun _ => ⟨_, 0, rfl, hb.lt, fun i x hx => ?_⟩⟩ ⟨rfl, fun i p hp => ?_⟩ (by omega)).mono ?_
  · match i, hx with
    | 0, hx => cases hx; rw [hb.cell]; rfl
    | 1, hx => cases hx; rw [hb.cell]; rfl
    | i + 2, hx => simp at hx
  · match i, hp with
    | 0, hp => cases hp; exact .inr ⟨g1, s1, l1, e1, ev1, A1, n1, c1, rfl, rfl, hx.o1⟩
    | 1, hp => cases hp; exact .inr ⟨g2, s2, l2, e2, ev2, A2, n2, c2, rfl, rfl, hx.o2⟩
    | i + 2, hp => simp at hp
  · rintro en w' ⟨r, (⟨_, rfl⟩ | ⟨o, ho, _, hb0, _⟩), A, n, c, rfl, hr, _, _, he⟩
    · exact ⟨A, n, c, rfl, by simpa [lsB, evB, List.range_succ] using hr, (Ext.alloc _ _).t he⟩
    · exfalso
      have a0 : badB [some (s1, ev1), some (s2, ev2)] 0 = 0 := by simp [badB, srcs]
      have a1 : badB [some (s1, ev1), some (s2, ev2)] 1 = 0 := by simp [badB, srcs]; exact fun e => hs e.symm
      have ho' : o < 2 := ho
      rcases (show o = 0 ∨ o = 1 by omega) with rfl | rfl
      · exact hb0 a0
      · exact hb0 a1
set_option maxRecDepth 100000 in
set_option maxHeartbeats 8000000 in
theorem awake_ (w : World) : Calls Try.prog 10 #[] w fun e w' => e = .returned (.bool true) ∧ Ext w w' := by
  go_enter Try.func10, Try.ntmps10
  go_wp2_with fail
  refine (obx_new 3 2 10 w (by decide)).mono ?_; rintro en w1 ⟨g1, rfl, o1, b1, x1⟩
  have O1 := Lib.hid o1
  have X1 := Lib.hid x1
  have B1 := Lib.hid b1
  clear o1 x1 b1
  go_wp2_with fail
  refine (obx_new 2 9 0 w1 (by decide)).mono ?_; rintro en w2 ⟨g2, rfl, o2, b2, x2⟩
  have HT : Hid (TwoB w.heap.size w2 g1 3 2 10 [] none 0 0 g2 2 9 0 [] none 0 0) := Lib.hid ⟨O1.out.ext x2, o2, fun k h1 h2 => by
    have h3 : k = g1 := h1.elim id (fun h => absurd h foot_none)
    have h4 : k = g2 := h2.elim id (fun h => absurd h foot_none)
    have := O1.out.blk.lt
    omega, fun k h1 => h1.elim (fun h => by rw [h]; exact B1.out) (fun h => absurd h foot_none), fun k h1 => h1.elim (fun h => by rw [h]; exact Nat.le_trans X1.out.size b2) (fun h => absurd h foot_none), Nat.le_trans X1.out.size x2.size⟩
  have HE := Lib.hid (X1.out.t x2)
  clear o2 x2 b2 O1 X1 B1
  go_wp2_with (first | (go_at_call 31; refine (event_ag _ _ _ _).mono ?_; rintro e w' ⟨rfl, rfl⟩) | (refine wpl_buildS evC_len (by decide) (by rfl) rfl ul_ev info_ev [.tmp 37, .tmp 38] (by rfl) (by rfl) (by decide) [⟨12, 3, 0, 1, 0⟩, ⟨10, 3, 1, 1, 0⟩] (by rfl) ?_))
  intro gl1 wb1 bb ee lo rr; refine Lib.hid ?_
  have ex := ((Ext.alloc _ _).t (Ext.alloc _ _)).t ee
  have HT := Lib.hid (HT.out.ext ex)
  have HE := Lib.hid (HE.out.t ex)
  have RR := Lib.hid rr
  clear ex bb ee lo rr
  have HP := Lib.hid (aw_put (er := 0) (i := -1) (erI := 0) (show putF _ _ _ _ [⟨12, 3, 0, 1, 0⟩, ⟨10, 3, 1, 1, 0⟩] = (-1, 0, [⟨12, 3, 0, 1, 0⟩, ⟨10, 3, 1, 1, 0⟩]) by first | rfl | decide +kernel) rfl HT.out.o1 RR.out (fun x hx => by
    simp only [List.mem_cons, List.not_mem_nil, or_false] at hx
    rcases hx with rfl | rfl <;> exact evok_of _ _ _ (by decide)) (by decide))
  go_wp2_with fail
  refine HP.out.mono ?_; rintro en wp1 ⟨A1, n1, c1, rfl, oo, ch, ft⟩
  have HE := Lib.hid (HT.out.low HE.out (Nat.le_refl _) ch (fun _ h => h))
  have HT := Lib.hid (HT.out.turn oo ch ft)
  clear oo ch ft HP RR
  have HS := Lib.hid (obx_sorted HT.out.o1)
  go_wp2_with fail
  refine HS.out.mono ?_; rintro en ws1 ⟨As1, cs1, rfl, rs, -, es⟩
  have HT := Lib.hid (HT.out.ext es)
  have HE := Lib.hid (HE.out.t es)
  have RS := Lib.hid rs
  clear es rs HS
  go_wp2_with (first | (go_at_call 31; refine (event_ag _ _ _ _).mono ?_; rintro e w' ⟨rfl, rfl⟩) | (refine wpl_buildS evC_len (by decide) (by rfl) rfl ul_ev info_ev [.tmp 52, .tmp 53] (by rfl) (by rfl) (by decide) [⟨10, 3, 1, 1, 0⟩, ⟨12, 3, 0, 1, 0⟩] (by rfl) ?_))
  intro gs wsb bb ee lo rr; refine Lib.hid ?_
  have ex := ((Ext.alloc _ _).t (Ext.alloc _ _)).t ee
  have HT := Lib.hid (HT.out.ext ex)
  have HE := Lib.hid (HE.out.t ex)
  have RR := Lib.hid rr
  have RS := Lib.hid (RS.out.ext ex)
  have HQ := Lib.hid (sameE_ As1 (some ⟨gs, 0, none⟩) n1 2 cs1 2 _ _ wsb (RS.out.rd evC_len (by decide)) RR.out (by have := HT.out.o1.n_le; omega) (by decide))
  rw [decide_eq_true (show isort [⟨12, 3, 0, 1, 0⟩, ⟨10, 3, 1, 1, 0⟩] = [⟨10, 3, 1, 1, 0⟩, ⟨12, 3, 0, 1, 0⟩] by decide +kernel)] at HQ
  clear ex bb ee lo rr RR
  go_wp2_with fail
  refine HQ.out.mono ?_; rintro en wq1 ⟨rfl, eq1⟩
  have HT := Lib.hid (HT.out.ext eq1)
  have HE := Lib.hid (HE.out.t eq1)
  clear eq1 HQ RS
  go_wp2_with (first | (go_at_call 31; refine (event_ag _ _ _ _).mono ?_; rintro e w' ⟨rfl, rfl⟩) | (refine wpl_buildS evC_len (by decide) (by rfl) rfl ul_ev info_ev [.tmp 60] (by rfl) (by rfl) (by decide) [⟨12, 3, 2, 1, 0⟩] (by rfl) ?_))
  intro gl2 wb2 bb ee lo rr; refine Lib.hid ?_
  have ex := (Ext.alloc _ _).t ee
  have HT := Lib.hid (HT.out.ext ex)
  have HE := Lib.hid (HE.out.t ex)
  have RR := Lib.hid rr
  clear ex bb ee lo rr
  have HP := Lib.hid (aw_put (er := 4) (i := -1) (erI := 4) (show putF _ _ _ _ [⟨12, 3, 2, 1, 0⟩] = (-1, 4, [⟨12, 3, 0, 1, 0⟩, ⟨10, 3, 1, 1, 0⟩]) by first | rfl | decide +kernel) rfl HT.out.o1 RR.out (fun x hx => by
    simp only [List.mem_cons, List.not_mem_nil, or_false] at hx
    subst hx; exact evok_of _ _ _ (by decide)) (by decide))
  go_wp2_with fail
  refine HP.out.mono ?_; rintro en wp2 ⟨A2, n2, c2, rfl, oo, ch, ft⟩
  have HE := Lib.hid (HT.out.low HE.out (Nat.le_refl _) ch (fun _ h => h))
  have HT := Lib.hid (HT.out.turn oo ch ft)
  clear oo ch ft HP RR
  go_wp2_with (first | (go_at_call 31; refine (event_ag _ _ _ _).mono ?_; rintro e w' ⟨rfl, rfl⟩) | (refine wpl_buildS evC_len (by decide) (by rfl) rfl ul_ev info_ev [.tmp 67] (by rfl) (by rfl) (by decide) [⟨9, 3, 2, 1, 0⟩] (by rfl) ?_))
  intro gl3 wb3 bb ee lo rr; refine Lib.hid ?_
  have ex := (Ext.alloc _ _).t ee
  have HT := Lib.hid (HT.out.ext ex)
  have HE := Lib.hid (HE.out.t ex)
  have RR := Lib.hid rr
  clear ex bb ee lo rr
  have HP := Lib.hid (aw_put (er := 292) (i := 0) (erI := 292) (show putF _ _ _ _ [⟨9, 3, 2, 1, 0⟩] = (0, 292, [⟨12, 3, 0, 1, 0⟩, ⟨10, 3, 1, 1, 0⟩]) by first | rfl | decide +kernel) rfl HT.out.o1 RR.out (fun x hx => by
    simp only [List.mem_cons, List.not_mem_nil, or_false] at hx
    subst hx; exact evok_of _ _ _ (by decide)) (by decide))
  go_wp2_with fail
  refine HP.out.mono ?_; rintro en wp3 ⟨A3, n3, c3, rfl, oo, ch, ft⟩
  have HE := Lib.hid (HT.out.low HE.out (Nat.le_refl _) ch (fun _ h => h))
  have HT := Lib.hid (HT.out.turn oo ch ft)
  clear oo ch ft HP RR
  go_wp2_with (first | (go_at_call 31; refine (event_ag _ _ _ _).mono ?_; rintro e w' ⟨rfl, rfl⟩) | (refine wpl_buildS evC_len (by decide) (by rfl) rfl ul_ev info_ev [.tmp 74] (by rfl) (by rfl) (by decide) [⟨12, 4, 2, 1, 0⟩] (by rfl) ?_))
  intro gl4 wb4 bb ee lo rr; refine Lib.hid ?_
  have ex := (Ext.alloc _ _).t ee
  have HT := Lib.hid (HT.out.ext ex)
  have HE := Lib.hid (HE.out.t ex)
  have RR := Lib.hid rr
  clear ex bb ee lo rr
  have HP := Lib.hid (aw_put (er := 291) (i := 0) (erI := 291) (show putF _ _ _ _ [⟨12, 4, 2, 1, 0⟩] = (0, 291, [⟨12, 3, 0, 1, 0⟩, ⟨10, 3, 1, 1, 0⟩]) by first | rfl | decide +kernel) rfl HT.out.o1 RR.out (fun x hx => by
    simp only [List.mem_cons, List.not_mem_nil, or_false] at hx
    subst hx; exact evok_of _ _ _ (by decide)) (by decide))
  go_wp2_with fail
  refine HP.out.mono ?_; rintro en wp4 ⟨A4, n4, c4, rfl, oo, ch, ft⟩
  have HE := Lib.hid (HT.out.low HE.out (Nat.le_refl _) ch (fun _ h => h))
  have HT := Lib.hid (HT.out.turn oo ch ft)
  clear oo ch ft HP RR
  go_wp2_with (first | (go_at_call 31; refine (event_ag _ _ _ _).mono ?_; rintro e w' ⟨rfl, rfl⟩) | (refine wpl_buildS evC_len (by decide) (by rfl) rfl ul_ev info_ev [.tmp 81] (by rfl) (by rfl) (by decide) [⟨12, 3, 1, 1, 0⟩] (by rfl) ?_))
  intro gl5 wb5 bb ee lo rr; refine Lib.hid ?_
  have ex := (Ext.alloc _ _).t ee
  have HT := Lib.hid (HT.out.ext ex)
  have HE := Lib.hid (HE.out.t ex)
  have RR := Lib.hid rr
  clear ex bb ee lo rr
  have HP := Lib.hid (aw_put (er := 293) (i := 0) (erI := 293) (show putF _ _ _ _ [⟨12, 3, 1, 1, 0⟩] = (0, 293, [⟨12, 3, 0, 1, 0⟩, ⟨10, 3, 1, 1, 0⟩]) by first | rfl | decide +kernel) rfl HT.out.o1 RR.out (fun x hx => by
    simp only [List.mem_cons, List.not_mem_nil, or_false] at hx
    subst hx; exact evok_of _ _ _ (by decide)) (by decide))
  go_wp2_with fail
  refine HP.out.mono ?_; rintro en wp5 ⟨A5, n5, c5, rfl, oo, ch, ft⟩
  have HE := Lib.hid (HT.out.low HE.out (Nat.le_refl _) ch (fun _ h => h))
  have HT := Lib.hid (HT.out.turn oo ch ft)
  clear oo ch ft HP RR
  have HK := Lib.hid (obx_back 1 HT.out.o1)
  have hn5 : n5 = 2 := HT.out.o1.len.symm
  subst hn5
  go_wp2_with fail
  refine HK.out.mono ?_; rintro en wk ⟨nk, hnk, ok, ch, (⟨_, hz, rfl⟩ | ⟨hz, _, _⟩)⟩
  rotate_left
  · exact absurd hz (by decide)
  obtain rfl : nk = 1 := by omega
  have HE := Lib.hid (HT.out.low HE.out (Nat.le_refl _) ch (fun _ h => .inl h))
  have HT := Lib.hid (HT.out.turn ok (ch.mono (fun _ _ h => .inl h)) (fun k hk => .inl hk))
  rw [show ([⟨12, 3, 0, 1, 0⟩, ⟨10, 3, 1, 1, 0⟩] : List Ev).take 1 = [⟨12, 3, 0, 1, 0⟩] from rfl] at HT
  clear ok ch hz hnk HK
  go_wp2_with (first | (go_at_call 31; refine (event_ag _ _ _ _).mono ?_; rintro e w' ⟨rfl, rfl⟩) | (refine wpl_buildS evC_len (by decide) (by rfl) rfl ul_ev info_ev [.tmp 119] (by rfl) (by rfl) (by decide) [⟨11, 3, 1, 1, 0⟩] (by rfl) ?_))
  intro gl6 wb6 bb ee lo rr; refine Lib.hid ?_
  have ex := (Ext.alloc _ _).t ee
  have HT := Lib.hid (HT.out.ext ex)
  have HE := Lib.hid (HE.out.t ex)
  have RR := Lib.hid rr
  clear ex bb ee lo rr
  have HP := Lib.hid (aw_put (er := 0) (i := -1) (erI := 0) (show putF _ _ _ _ [⟨11, 3, 1, 1, 0⟩] = (-1, 0, [⟨12, 3, 0, 1, 0⟩, ⟨11, 3, 1, 1, 0⟩]) by first | rfl | decide +kernel) rfl HT.out.o1 RR.out (fun x hx => by
    simp only [List.mem_cons, List.not_mem_nil, or_false] at hx
    subst hx; exact evok_of _ _ _ (by decide)) (by decide))
  go_wp2_with fail
  refine HP.out.mono ?_; rintro en wp6 ⟨A6, n6, c6, rfl, oo, ch, ft⟩
  have HE := Lib.hid (HT.out.low HE.out (Nat.le_refl _) ch (fun _ h => h))
  have HT := Lib.hid (HT.out.turn oo ch ft)
  clear oo ch ft HP RR
  go_wp2_with (first | (go_at_call 31; refine (event_ag _ _ _ _).mono ?_; rintro e w' ⟨rfl, rfl⟩) | (refine wpl_buildS evC_len (by decide) (by rfl) rfl ul_ev info_ev [.tmp 126] (by rfl) (by rfl) (by decide) [⟨11, 2, 5, 1, 0⟩] (by rfl) ?_))
  intro gl7 wb7 bb ee lo rr; refine Lib.hid ?_
  have ex := (Ext.alloc _ _).t ee
  have HT := Lib.hid (HT.out.ext ex)
  have HE := Lib.hid (HE.out.t ex)
  have RR := Lib.hid rr
  clear ex bb ee lo rr
  have HT := Lib.hid HT.out.swap
  have HP := Lib.hid (aw_put (er := 0) (i := -1) (erI := 0) (show putF _ _ _ _ [⟨11, 2, 5, 1, 0⟩] = (-1, 0, [⟨11, 2, 5, 1, 0⟩]) by first | rfl | decide +kernel) rfl HT.out.o1 RR.out (fun x hx => by
    simp only [List.mem_cons, List.not_mem_nil, or_false] at hx
    subst hx; exact evok_of _ _ _ (by decide)) (by decide))
  go_wp2_with fail
  refine HP.out.mono ?_; rintro en wp7 ⟨A7, n7, c7, rfl, oo, ch, ft⟩
  have HE := Lib.hid (HT.out.low HE.out (Nat.le_refl _) ch (fun _ h => h))
  have HT := Lib.hid (HT.out.turn oo ch ft)
  clear oo ch ft HP RR
  have HT := Lib.hid HT.out.swap
  have HM := Lib.hid (aw_merge2 (t := 29) HT.out (by decide))
  go_wp2_with fail
  refine HM.out.mono ?_; rintro en wm ⟨Am, nm, cm, rfl, rm, em⟩
  have HE := Lib.hid (HE.out.t em)
  have RM := Lib.hid rm
  have hnm : nm = 3 := by
    have h1 := (rm.rd evC_len (by decide)).1
    rw [show isort (isort [⟨12, 3, 0, 1, 0⟩, ⟨11, 3, 1, 1, 0⟩] ++ isort [⟨11, 2, 5, 1, 0⟩]) = [⟨11, 2, 5, 1, 0⟩, ⟨11, 3, 1, 1, 0⟩, ⟨12, 3, 0, 1, 0⟩] by decide +kernel] at h1
    exact h1.symm
  subst hnm
  clear rm em HM HT
  go_wp2_with (first | (go_at_call 31; refine (event_ag _ _ _ _).mono ?_; rintro e w' ⟨rfl, rfl⟩) | (refine wpl_buildS evC_len (by decide) (by rfl) rfl ul_ev info_ev [.tmp 157, .tmp 158, .tmp 159] (by rfl) (by rfl) (by decide) [⟨11, 2, 5, 1, 0⟩, ⟨11, 3, 1, 1, 0⟩, ⟨12, 3, 0, 1, 0⟩] (by rfl) ?_))
  intro gz wz bb ee lo rr; refine Lib.hid ?_
  have ex := (((Ext.alloc _ _).t (Ext.alloc _ _)).t (Ext.alloc _ _)).t ee
  have HE := Lib.hid (HE.out.t ex)
  have HQ := Lib.hid (sameE_ Am (some ⟨gz, 0, none⟩) 3 3 cm 3 _ _ wz ((RM.out.ext ex).rd evC_len (by decide)) rr (by decide) (by decide))
  rw [decide_eq_true (show isort (isort [⟨12, 3, 0, 1, 0⟩, ⟨11, 3, 1, 1, 0⟩] ++ isort [⟨11, 2, 5, 1, 0⟩]) = [⟨11, 2, 5, 1, 0⟩, ⟨11, 3, 1, 1, 0⟩, ⟨12, 3, 0, 1, 0⟩] by decide +kernel)] at HQ
  clear ex bb ee lo rr RM
  go_wp2_with fail
  refine HQ.out.mono ?_; rintro en wq ⟨rfl, eq⟩
  have HE := Lib.hid (HE.out.t eq)
  clear eq HQ
  go_wp2_with fail
  go_ret
  exact ⟨rfl, HE.out⟩
end Go.Proofs.Ytdjpggnadelnaaa
