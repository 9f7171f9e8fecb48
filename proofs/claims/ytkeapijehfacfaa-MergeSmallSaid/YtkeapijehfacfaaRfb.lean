/- Rfb: the reference's order of keys; whether a list is in order, has a key; a list with one event more. -/
import Derived.Test.YtkeapijehfacfaaMwo
import Derived.StillTailTactics
namespace Go.Fx
open Go.RowKit
theorem insE_at {x : Ev} : ∀ {l : List Ev} {n : Nat}, n ≤ l.length → (∀ y ∈ l.take n, elB y x = true) → (∀ y, l[n]? = some y → elB y x = false) → insE x l = l.take n ++ [x] ++ l.drop n
  | [], n, hn, _, _ => by
    obtain rfl : n = 0 := by simpa using hn
    rfl
  | y :: ys, 0, _, _, h2 => by
    unfold insE
    rw [if_neg (by rw [h2 y rfl]; simp)]
    rfl
  | y :: ys, n + 1, hn, h1, h2 => by
    unfold insE
    rw [if_pos (h1 y (by simp)), insE_at (n := n) (by simpa using hn) (fun z hz => h1 z (by simp [hz])) (fun z hz => h2 z (by simpa using hz))]
    rfl
theorem insE_len (x : Ev) (l : List Ev) : (insE x l).length = l.length + 1 := (insE_perm x l).length_eq
/-- A new list of events is returned. -/
def OutP (r : List Ev) (w : World) (e : Ending) (w' : World) : Prop :=
  ∃ A n c, e = .returned (.slice A n c) ∧ RoomS 5 w' A n c (r.flatMap evC) ∧ r.length = n ∧ (∀ k, foot A c k → w.heap.size ≤ k) ∧ Ext w w'
theorem ext_a {w w' : World} {o : Obj} (h : Ext w w') : Ext w (w'.alloc o) := h.t (Ext.alloc _ _)
theorem ext_d {w w' : World} (h : Ext w w') : Ext w w'.drew := h.t (Ext.drew _)
/-- One event in a block, as a list. -/
theorem rdS_blk1 {w : World} {g : Nat} {t : TypeId} {x : Ev} (h : Blk w g t (evC x).toArray) : RdS 5 evC w (some ⟨g, 0, none⟩) 1 [x] := by
  have h1 : (evC x).toArray.size = 1 * 5 := rfl
  have h2 := RoomS.of_blk h h1 (by unfold maxLen; omega)
  rw [show (evC x).toArray.toList = [x].flatMap evC by simp] at h2
  exact h2.rd evC_len (by decide)
theorem chg_zero {A : Option Addr} {w w' : World} (h : Chg (foot A 0) w w') : Ext w w' := (h.mono (T' := fun _ => False) (fun _ _ hk => foot_zero hk)).ext
end Go.Fx
namespace Go.Proofs.Ytkeapijehfacfaa
open Go.RowKit Go.Fx
set_option maxRecDepth 100000 in
theorem rless_ (a b : Ky) (w : World) : Calls Try.prog 71 #[kyV a, kyV b] w fun e w' => e = .returned (.bool (klB a b)) ∧ Ext w w' := by
  by_cases h1 : a.t = b.t
  · by_cases h2 : a.s = b.s
    · have hv : klB a b = decide (a.q < b.q) := by
        unfold klB
        simp [h1, h2]
      rw [hv]
      have g1 : (a.t != b.t) = false := by simp [h1]
      have g2 : (a.s != b.s) = false := by simp [h2]
      unfold kyV
      go_enter Try.func71, Try.ntmps71
      go_wp2_with fail
      go_ret
      exact ⟨rfl, (Ext.alloc _ _).t (Ext.alloc _ _)⟩
    · have hv : klB a b = decide (a.s < b.s) := by
        unfold klB
        simp [h1, h2]
      rw [hv]
      have g1 : (a.t != b.t) = false := by simp [h1]
      have g2 : (a.s != b.s) = true := by simp [h2]
      unfold kyV
      go_enter Try.func71, Try.ntmps71
      go_wp2_with fail
      go_ret
      exact ⟨rfl, (Ext.alloc _ _).t (Ext.alloc _ _)⟩
  · have hv : klB a b = decide (a.t < b.t) := by
      unfold klB
      simp [h1]
    rw [hv]
    have g1 : (a.t != b.t) = true := by simp [h1]
    unfold kyV
    go_enter Try.func71, Try.ntmps71
    go_wp2_with fail
    go_ret
    exact ⟨rfl, (Ext.alloc _ _).t (Ext.alloc _ _)⟩
set_option maxRecDepth 100000 in
set_option maxHeartbeats 1000000 in
theorem rsorted_ (A : Option Addr) (n c : Nat) (l : List Ev) (w : World) (h : RdS 5 evC w A n l) (hn : n ≤ 1000000000) :
    Calls Try.prog 58 #[.slice A n c] w fun e w' => e = .returned (.bool (srtB l)) ∧ Ext w w' := by
  have H := Lib.hid h
  have Hl := Lib.hid h.1
  clear h
  go_enter Try.func58, Try.ntmps58
  go_wp2_with fail
  go_loopw [3] (fun i wr => ∃ k : Nat, k ≤ n ∧ i = .int .i64 ((k : Int) + 1) ∧ Hid (srtB l = srtB (l.drop k) ∧ Ext w wr)) (fun i _ => n + 1 - (intOf i).toNat)
  case atStart => exact ⟨0, by omega, rfl, Lib.hid ⟨rfl, Ext.refl _⟩⟩
  case round =>
    obtain ⟨k, hk, rfl, HJ⟩ := hrel
    by_cases hlt : k + 1 < n
    · obtain ⟨b, o, p, rfl, _, hp, d0, d1, d2, d3, d4⟩ := (H.out.ext HJ.out.2).ev (k := k) (by omega)
      obtain ⟨b', o', x, e1, _, hx, c0, c1, c2, c3, c4⟩ := (H.out.ext HJ.out.2).ev hlt
      cases e1
      have hltI : (k : Int) + 1 < (n : Int) := by omega
      have hkI : (k : Int) < (n : Int) := by omega
      have HB := Lib.hid (fun w' => rless_ p.k x.k w')
      have HS := Lib.hid (show srtB l = (elB p x && srtB (l.drop (k + 1))) by rw [HJ.out.1, drop_at hp, drop_at hx]; rfl)
      have HE := Lib.hid HJ.out.2
      rw [show klB p.k x.k = elB p x from rfl] at HB
      unfold kyV Ev.k at HB
      clear hp hx HJ
      go_wp2_with fail
      have hsub : (k : Int) + 1 - 1 = (k : Int) := by omega
      have hw1 : IntKind.i64.wrap (k : Int) = (k : Int) := IntWalk.i64_in _ (by omega)
      have hw2 : IntKind.i64.wrap ((k : Int) + 1 - 1) = (k : Int) := by rw [hsub]; exact hw1
      have hi1 : ((k : Int) + 1).toNat = k + 1 := by omega
      have hi2 : (0 : Int) ≤ (k : Int) + 1 := by omega
      go_still_tail 11, (by kernel_rfl)
      change wpList _ _ _ _ _ wr.drew
      have HEd := Lib.hid (HE.out.t (Ext.drew wr))
      generalize wr.drew = w2 at *
      clear c0 c1 c2 c3 c4 d0 d1 d2 d3 d4 HE
      go_wp2_with fail
      refine (HB.out _).mono ?_; rintro e w3 ⟨rfl, e3⟩
      have HE3 := Lib.hid (HEd.out.t e3)
      clear e3 HEd HB hw1 hw2 hi1 hi2
      cases he : elB p x with
      | true =>
        have HS1 := Lib.hid (show srtB l = srtB (l.drop (k + 1)) by rw [HS.out, he, Bool.true_and])
        clear he HS
        go_wp2_with fail
        go_roundw
        case rel => exact ⟨k + 1, by omega, by go_num, Lib.hid ⟨HS1.out, HE3.out⟩⟩
        case measure => simp [intOf]; omega
      | false =>
        have HS1 := Lib.hid (show srtB l = false by rw [HS.out, he, Bool.false_and])
        clear he HS
        go_wp2_with fail
        go_ret
        exact ⟨ret_bool HS1.out.symm, HE3.out⟩
    · have hltI : ¬ ((k : Int) + 1 < (n : Int)) := by omega
      have HS1 : Hid (srtB l = true) := Lib.hid (by
        rw [HJ.out.1]
        have h1 : (l.drop k).length ≤ 1 := by rw [List.length_drop, Hl.out]; omega
        match hd : l.drop k, h1 with
        | [], _ => rfl
        | [_], _ => rfl
        | _ :: _ :: _, h1 => simp at h1)
      have HE := Lib.hid HJ.out.2
      clear HJ
      go_wp2_with fail
      go_ret
      exact ⟨ret_bool HS1.out.symm, HE.out⟩
set_option maxRecDepth 100000 in
set_option maxHeartbeats 1000000 in
theorem rhas_ (A : Option Addr) (n c : Nat) (l : List Ev) (q : Ky) (w : World) (h : RdS 5 evC w A n l) (hn : n ≤ 1000000000) :
    Calls Try.prog 69 #[.slice A n c, kyV q] w fun e w' => e = .returned (.bool (hasK l q)) ∧ Ext w w' := by
  have H := Lib.hid h
  have Hl := Lib.hid h.1
  have HB := Lib.hid (Blk.new w 35 (kyC q).toArray)
  have HE := Lib.hid (Ext.alloc w (.cells (kyC q).toArray 35))
  have hgu := fun w' op a b xs ys => guard_ky w' op a b xs ys
  unfold kyV
  clear h
  go_enter Try.func69, Try.ntmps69
  go_upto_region 1 with fail
  change Code.wp _ _ _ _ (w.alloc (.cells (kyC q).toArray 35))
  generalize w.alloc (.cells (kyC q).toArray 35) = W0 at *
  generalize w.heap.size = g at *
  go_wp2_with fail
  go_loopw [5] (fun i wr => ∃ k : Nat, k ≤ n ∧ i = .int .i64 (k : Int) ∧ Hid ((∀ y ∈ l.take k, y.k ≠ q) ∧ Ext W0 wr)) (fun i _ => n - (intOf i).toNat)
  case atStart => exact ⟨0, by omega, rfl, Lib.hid ⟨by simp, Ext.refl _⟩⟩
  case round =>
    obtain ⟨k, hk, rfl, HJ⟩ := hrel
    by_cases hlt : k < n
    · obtain ⟨b, o, x, rfl, _, hx, c0, c1, c2, c3, c4⟩ := (H.out.ext (HE.out.t HJ.out.2)).ev hlt
      obtain ⟨k0, k1, k2⟩ := (HB.out.ext HJ.out.2).ky
      have hltI : (k : Int) < (n : Int) := by omega
      have Hx := Lib.hid hx
      have heq := fun w' => eql_ky w' x.k q
      unfold kyV Ev.k at heq
      clear hx
      by_cases hxy : x.k = q
      · rw [show decide ((⟨x.t, x.s, x.q⟩ : Ky) = q) = true from decide_eq_true hxy] at heq
        have HV := Lib.hid (show hasK l q = true from hasK_iff.2 ⟨x, List.mem_of_getElem? Hx.out, hxy⟩)
        have HF := Lib.hid (HE.out.t HJ.out.2)
        clear HJ hxy
        go_wp2_with fail
        go_quiet (fail)
        go_wp2_with fail
        go_ret
        exact ⟨ret_bool HV.out.symm, HF.out.t (Ext.drewN _ _)⟩
      · rw [show decide ((⟨x.t, x.s, x.q⟩ : Ky) = q) = false from decide_eq_false hxy] at heq
        have HJ1 : Hid ((∀ y ∈ l.take (k + 1), y.k ≠ q) ∧ Ext W0 wr) := Lib.hid ⟨fun y hy => by
          rw [take_snoc Hx.out] at hy
          rcases List.mem_append.1 hy with h1 | h1
          · exact HJ.out.1 y h1
          · obtain rfl : y = x := by simpa using h1
            exact hxy, HJ.out.2⟩
        clear HJ hxy
        go_wp2_with fail
        go_quiet (fail)
        go_wp2_with fail
        go_roundw
        case rel => exact ⟨k + 1, by omega, by go_num, Lib.hid ⟨HJ1.out.1, HJ1.out.2.t (Ext.drewN _ _)⟩⟩
        case measure => simp [intOf]; omega
    · obtain rfl : k = n := by omega
      have HV : Hid (hasK l q = false) := Lib.hid (by
        have h1 := HJ.out.1
        rw [List.take_of_length_le (by have := Hl.out; omega)] at h1
        cases hh : hasK l q with
        | false => rfl
        | true => obtain ⟨y, hy, e⟩ := hasK_iff.1 hh; exact absurd e (h1 y hy))
      have HF := Lib.hid (HE.out.t HJ.out.2)
      clear HJ
      go_wp2_with fail
      go_ret
      exact ⟨ret_bool HV.out.symm, HF.out⟩
set_option maxRecDepth 100000 in
set_option maxHeartbeats 2000000 in
theorem rput_ (A : Option Addr) (n c : Nat) (l : List Ev) (x : Ev) (w : World) (h : RdS 5 evC w A n l) (hc : n ≤ c) (hn : n ≤ 1000000) :
    Calls Try.prog 70 #[.slice A n c, evV x] w (OutP (insE x l) w) := by
  have H := Lib.hid h
  have Hl := Lib.hid h.1
  have HB := Lib.hid (Blk.new w 37 (evC x).toArray)
  have HE := Lib.hid (Ext.alloc w (.cells (evC x).toArray 37))
  obtain ⟨g, hg⟩ : ∃ g, g = w.heap.size := ⟨_, rfl⟩
  have HG := Lib.hid hg
  obtain ⟨W0, hW0⟩ : ∃ W0, W0 = w.alloc (.cells (evC x).toArray 37) := ⟨_, rfl⟩
  have HW0 := Lib.hid hW0
  rw [← hg, ← hW0] at HB
  rw [← hW0] at HE
  unfold evV
  clear h hg hW0
  go_enter Try.func70, Try.ntmps70
  go_upto_region 1 with fail
  change Code.wp _ _ _ _ (w.alloc (.cells (evC x).toArray 37))
  rw [← HW0.out, ← HG.out]
  clear HW0 HG
  go_wp2_with fail
  go_loopw [5] (fun i wr => ∃ k : Nat, k ≤ n ∧ i = .int .i64 (k : Int) ∧ Hid ((∀ y ∈ l.take k, elB y x = true) ∧ Ext W0 wr)) (fun i _ => n - (intOf i).toNat)
  case atStart => exact ⟨0, by omega, rfl, Lib.hid ⟨by simp, Ext.refl _⟩⟩
  case round =>
    obtain ⟨k, hk, rfl, HJ⟩ := hrel
    by_cases hlt : k < n
    · obtain ⟨b, o, y, rfl, _, hy, c0, c1, c2, c3, c4⟩ := (H.out.ext (HE.out.t HJ.out.2)).ev hlt
      obtain ⟨e0, e1, e2, e3, e4⟩ := (HB.out.ext HJ.out.2).ev
      have hltI : (k : Int) < (n : Int) := by omega
      have hd : decide ((k : Int) < (n : Int)) = true := by simp; omega
      have Hy := Lib.hid hy
      have HBf := Lib.hid (fun w' => rless_ y.k x.k w')
      have HA1 := Lib.hid HJ.out.1
      have HEW := Lib.hid HJ.out.2
      rw [show klB y.k x.k = elB y x from rfl] at HBf
      unfold kyV Ev.k at HBf
      clear hy HJ
      go_wp2_with fail
      go_still_tail 12, (by kernel_rfl)
      change wpList _ _ _ _ _ wr.drew
      have HEd := Lib.hid (HEW.out.t (Ext.drew wr))
      generalize wr.drew = w2 at *
      clear c0 c1 c2 c3 c4 e0 e1 e2 e3 e4 HEW
      go_wp2_with fail
      refine (HBf.out _).mono ?_; rintro e W ⟨rfl, e3⟩
      have HW := Lib.hid (HEd.out.t e3)
      clear e3 HEd HBf hd
      cases he : elB y x with
      | true =>
        have HA2 : Hid (∀ z ∈ l.take (k + 1), elB z x = true) := Lib.hid (fun z hz => by
          rw [take_snoc Hy.out] at hz
          rcases List.mem_append.1 hz with h1 | h1
          · exact HA1.out z h1
          · obtain rfl : z = y := by simpa using h1
            exact he)
        clear he HA1
        go_wp2_with fail
        go_roundw
        case rel => exact ⟨k + 1, by omega, by go_num, Lib.hid ⟨HA2.out, HW.out⟩⟩
        case measure => simp [intOf]; omega
      | false =>
        have HA := HA1
        have HS : Hid (∀ z, l[k]? = some z → elB z x = false) := Lib.hid (fun z hz => by
          rw [Hy.out] at hz; cases hz; exact he)
        clear he HA1 Hy hltI hlt
        go_upto_region 4 with fail
        generalize (some (⟨b, o, none⟩ : Addr)) = A at *
        have HRt := Lib.hid ((H.out.ext (HE.out.t HW.out)).take hk)
        have HRd := Lib.hid ((H.out.ext (HE.out.t HW.out)).from_ (c := c) hk hc)
        have HV := Lib.hid (show (insE x l).flatMap evC = (l.take k).flatMap evC ++ [x].flatMap evC ++ (l.drop k).flatMap evC by rw [insE_at (by have := Hl.out; omega) HA.out HS.out, List.flatMap_append, List.flatMap_append])
        have hs1 := fun w' => ev_to (A := A) (n := n) (c := c) (hi := k) (li := (k : Int)) w' rfl (by omega)
        have hs2 := fun w' => ev_from (A := A) (n := n) (c := c) (k := k) (li := (k : Int)) w' rfl hk
        obtain ⟨e0, e1, e2, e3, e4⟩ := (HB.out.ext HW.out).ev
        have hgl := (HB.out.ext HW.out).lt
        have e0a := fun ob => (World.cell?_alloc_lt W ob ⟨g, 0, none⟩ hgl).trans e0
        have e1a := fun ob => (World.cell?_alloc_lt W ob ⟨g, 1, none⟩ hgl).trans e1
        have e2a := fun ob => (World.cell?_alloc_lt W ob ⟨g, 2, none⟩ hgl).trans e2
        have e3a := fun ob => (World.cell?_alloc_lt W ob ⟨g, 3, none⟩ hgl).trans e3
        have e4a := fun ob => (World.cell?_alloc_lt W ob ⟨g, 4, none⟩ hgl).trans e4
        have HX := Lib.hid (show (evC x).toArray = #[.int .i64 x.t, .int .i64 x.s, .int .i64 x.q, .int .i64 x.to, .int .i64 x.v] from rfl)
        have hnk : k + (n - k) = n := by omega
        generalize fromS 5 A c k = FA at *
        generalize n - k = NK at *
        generalize c - k = CK at *
        clear hgl HS HA
        first
        | (go_region_law (first
          | (refine step_append_atS (A := some ⟨_, 0, none⟩) (n := 0) (c := 0) (m := k) (xs := []) (v := .slice A k c) rfl rfl ul_ev info_ev rfl (by first | rfl | (go_simp; done)) RoomS.zero (by first | rfl | (go_simp; done)) (Src.ofRdS ul_ev evC_len (HRt.out.ext (by repeat (first | with_reducible exact Ext.refl _ | with_reducible apply ext_a | with_reducible apply ext_d))) evC_one) (by simp only [maxLen]; omega) (by omega) ?_
             intro A1 c1 w1 r1 ch1 ft1
             have x1 := chg_zero ch1
             have E1 : Hid (Ext W w1) := Lib.hid (Below.t (by repeat (first | with_reducible exact Ext.refl _ | with_reducible apply ext_a | with_reducible apply ext_d)) x1)
             have F1 : Hid (∀ q, foot A1 c1 q → W.heap.size ≤ q) := Lib.hid (fun q hq => (ft1 q hq).elim (fun h => absurd h foot_zero) (fun h => Nat.le_trans (Below.size (by repeat (first | with_reducible exact Ext.refl _ | with_reducible apply ext_a | with_reducible apply ext_d))) h))
             rw [Nat.zero_add, List.nil_append] at r1
             have R1 := Lib.hid r1
             obtain ⟨f0, f1, f2, f3, f4⟩ := ((HB.out.ext HW.out).ext E1.out).ev
             first
             | (have X1 : Ext ((W.alloc (.cells #[.int .i64 x.t, .int .i64 x.s, .int .i64 x.q, .int .i64 x.to, .int .i64 x.v] 37)).alloc (.cells #[] 37)).drew w1 := by with_reducible exact x1
                have P1 : Hid (Blk w1 W.heap.size 37 (evC x).toArray ∧ ¬ foot A1 c1 W.heap.size) := Lib.hid ⟨(((Blk.new W _ _).ext (Ext.alloc _ _)).drew).ext X1, fun hf => (ft1 _ hf).elim (fun h => absurd h foot_zero) (fun h => by first | (simp at h; done) | (simp at h; omega))⟩)
             | (have X1 : Ext ((W.alloc (.cells #[] 37)).alloc (.cells #[.int .i64 x.t, .int .i64 x.s, .int .i64 x.q, .int .i64 x.to, .int .i64 x.v] 37)).drew w1 := by with_reducible exact x1
                have P1 : Hid (Blk w1 (W.heap.size + 1) 37 (evC x).toArray ∧ ¬ foot A1 c1 (W.heap.size + 1)) := Lib.hid ⟨((blk_new1 W _ _ _).drew).ext X1, fun hf => (ft1 _ hf).elim (fun h => absurd h foot_zero) (fun h => by first | (simp at h; done) | (simp at h; omega))⟩)
             | skip
             clear r1 ch1 ft1 x1)
          | (refine step_append_atS (A := A1) (n := k) (c := c1) (m := 1) (xs := (l.take k).flatMap evC) (v := .slice (some ⟨w1.heap.size, 0, none⟩) 1 1) rfl rfl ul_ev info_ev rfl (by first | rfl | (go_simp; done)) (R1.out.ext (Ext.alloc w1 (.cells #[.int .i64 x.t, .int .i64 x.s, .int .i64 x.q, .int .i64 x.to, .int .i64 x.v] 37))) (by first | rfl | (go_simp; done)) (Src.ofRdS ul_ev evC_len (rdS_blk1 (Blk.new w1 37 (evC x).toArray)) evC_one) (by simp only [maxLen]; omega) (by omega) ?_
             intro A2 c2 w2 r2 ch2 ft2
             have E2 : Hid (Ext W w2) := Lib.hid ((E1.out.t (Ext.alloc w1 (.cells #[.int .i64 x.t, .int .i64 x.s, .int .i64 x.q, .int .i64 x.to, .int .i64 x.v] 37))).trans (ch2.below (E1.out.t (Ext.alloc w1 (.cells #[.int .i64 x.t, .int .i64 x.s, .int .i64 x.q, .int .i64 x.to, .int .i64 x.v] 37))).size (fun q hq hf => by have := F1.out q hf; omega)))
             have F2 : Hid (∀ q, foot A2 c2 q → W.heap.size ≤ q) := Lib.hid (fun q hq => (ft2 q hq).elim (F1.out q) (fun h => Nat.le_trans (E1.out.t (Ext.alloc w1 (.cells #[.int .i64 x.t, .int .i64 x.s, .int .i64 x.q, .int .i64 x.to, .int .i64 x.v] 37))).size h))
             have R2 := Lib.hid r2
             clear r2 ch2 ft2)
          | (refine step_append_atS (A := A1) (n := k) (c := c1) (m := 1) (xs := (l.take k).flatMap evC) (v := .slice (some ⟨W.heap.size, 0, none⟩) 1 1) rfl rfl ul_ev info_ev rfl (by first | rfl | (go_simp; done)) R1.out (by first | rfl | (go_simp; done)) (Src.ofRdS ul_ev evC_len (rdS_blk1 P1.out.1) evC_one) (by simp only [maxLen]; omega) (by omega) ?_
             intro A2 c2 w2 r2 ch2 ft2
             have E2 : Hid (Ext W w2) := Lib.hid (E1.out.trans (ch2.below E1.out.size (fun q hq hf => by have := F1.out q hf; omega)))
             have F2 : Hid (∀ q, foot A2 c2 q → W.heap.size ≤ q) := Lib.hid (fun q hq => (ft2 q hq).elim (F1.out q) (fun h => Nat.le_trans E1.out.size h))
             have R2 := Lib.hid r2
             clear r2 ch2 ft2)
          | (refine step_append_atS (A := A1) (n := k) (c := c1) (m := 1) (xs := (l.take k).flatMap evC) (v := .slice (some ⟨W.heap.size + 1, 0, none⟩) 1 1) rfl rfl ul_ev info_ev rfl (by first | rfl | (go_simp; done)) R1.out (by first | rfl | (go_simp; done)) (Src.ofRdS ul_ev evC_len (rdS_blk1 P1.out.1) evC_one) (by simp only [maxLen]; omega) (by omega) ?_
             intro A2 c2 w2 r2 ch2 ft2
             have E2 : Hid (Ext W w2) := Lib.hid (E1.out.trans (ch2.below E1.out.size (fun q hq hf => by have := F1.out q hf; omega)))
             have F2 : Hid (∀ q, foot A2 c2 q → W.heap.size ≤ q) := Lib.hid (fun q hq => (ft2 q hq).elim (F1.out q) (fun h => Nat.le_trans E1.out.size h))
             have R2 := Lib.hid r2
             clear r2 ch2 ft2)
          | (refine step_append_atS (A := A2) (n := k + 1) (c := c2) (m := NK) (xs := (l.take k).flatMap evC ++ [x].flatMap evC) (v := .slice FA NK CK) rfl rfl ul_ev info_ev rfl (by first | rfl | (go_simp; done)) R2.out (by first | rfl | (go_simp; done)) (Src.ofRdS ul_ev evC_len (HRd.out.ext E2.out) evC_one) (by simp only [maxLen]; omega) (by omega) ?_
             intro A3 c3 w3 r3 ch3 ft3
             have E3 : Hid (Ext W w3) := Lib.hid (E2.out.trans (ch3.below E2.out.size (fun q hq hf => by have := F2.out q hf; omega)))
             have F3 : Hid (∀ q, foot A3 c3 q → W.heap.size ≤ q) := Lib.hid (fun q hq => (ft3 q hq).elim (F2.out q) (fun h => Nat.le_trans E2.out.size h))
             have R3 := Lib.hid r3
             clear r3 ch3 ft3)))
        | fail
        all_goals
          go_wp2_with fail
          go_ret
          exact ⟨A3, _, c3, rfl, by rw [HV.out]; exact R3.out, by rw [insE_len, Hl.out]; omega, fun q hq => Nat.le_trans ((HE.out.t HW.out).size) (F3.out q hq), (HE.out.t HW.out).t E3.out⟩
    · obtain rfl : n = k := by omega
      have hd : decide ((n : Int) < (n : Int)) = false := by simp
      have HA := Lib.hid HJ.out.1
      have HS : Hid (∀ z, l[n]? = some z → elB z x = false) := Lib.hid (fun z hz => by
        have := (List.getElem?_eq_some_iff.1 hz).1
        have := Hl.out
        omega)
      have HEW := Lib.hid HJ.out.2
      clear HJ
      go_wp2_with fail
      go_quiet (fail)
      go_upto_region 4 with fail
      have HW := Lib.hid (HEW.out.t (Ext.drewN wr nq))
      generalize wr.drewN nq = W at *
      clear HEW
      have HRt := Lib.hid ((H.out.ext (HE.out.t HW.out)).take hk)
      have HRd := Lib.hid ((H.out.ext (HE.out.t HW.out)).from_ (c := c) hk hc)
      have HV := Lib.hid (show (insE x l).flatMap evC = (l.take n).flatMap evC ++ [x].flatMap evC ++ (l.drop n).flatMap evC by rw [insE_at (by have := Hl.out; omega) HA.out HS.out, List.flatMap_append, List.flatMap_append])
      have hs1 := fun w' => ev_to (A := A) (n := n) (c := c) (hi := n) (li := (n : Int)) w' rfl (by omega)
      have hs2 := fun w' => ev_from (A := A) (n := n) (c := c) (k := n) (li := (n : Int)) w' rfl hk
      obtain ⟨e0, e1, e2, e3, e4⟩ := (HB.out.ext HW.out).ev
      have hgl := (HB.out.ext HW.out).lt
      have e0a := fun ob => (World.cell?_alloc_lt W ob ⟨g, 0, none⟩ hgl).trans e0
      have e1a := fun ob => (World.cell?_alloc_lt W ob ⟨g, 1, none⟩ hgl).trans e1
      have e2a := fun ob => (World.cell?_alloc_lt W ob ⟨g, 2, none⟩ hgl).trans e2
      have e3a := fun ob => (World.cell?_alloc_lt W ob ⟨g, 3, none⟩ hgl).trans e3
      have e4a := fun ob => (World.cell?_alloc_lt W ob ⟨g, 4, none⟩ hgl).trans e4
      have HX := Lib.hid (show (evC x).toArray = #[.int .i64 x.t, .int .i64 x.s, .int .i64 x.q, .int .i64 x.to, .int .i64 x.v] from rfl)
      have hnk : n + (n - n) = n := by omega
      generalize fromS 5 A c n = FA at *
      generalize n - n = NK at *
      generalize c - n = CK at *
      clear hgl HS HA
      first
      | (go_region_law (first
        | (refine step_append_atS (A := some ⟨_, 0, none⟩) (n := 0) (c := 0) (m := n) (xs := []) (v := .slice A n c) rfl rfl ul_ev info_ev rfl (by first | rfl | (go_simp; done)) RoomS.zero (by first | rfl | (go_simp; done)) (Src.ofRdS ul_ev evC_len (HRt.out.ext (by repeat (first | with_reducible exact Ext.refl _ | with_reducible apply ext_a | with_reducible apply ext_d))) evC_one) (by simp only [maxLen]; omega) (by omega) ?_
           intro A1 c1 w1 r1 ch1 ft1
           have x1 := chg_zero ch1
           have E1 : Hid (Ext W w1) := Lib.hid (Below.t (by repeat (first | with_reducible exact Ext.refl _ | with_reducible apply ext_a | with_reducible apply ext_d)) x1)
           have F1 : Hid (∀ q, foot A1 c1 q → W.heap.size ≤ q) := Lib.hid (fun q hq => (ft1 q hq).elim (fun h => absurd h foot_zero) (fun h => Nat.le_trans (Below.size (by repeat (first | with_reducible exact Ext.refl _ | with_reducible apply ext_a | with_reducible apply ext_d))) h))
           rw [Nat.zero_add, List.nil_append] at r1
           have R1 := Lib.hid r1
           obtain ⟨f0, f1, f2, f3, f4⟩ := ((HB.out.ext HW.out).ext E1.out).ev
           first
           | (have X1 : Ext ((W.alloc (.cells #[.int .i64 x.t, .int .i64 x.s, .int .i64 x.q, .int .i64 x.to, .int .i64 x.v] 37)).alloc (.cells #[] 37)).drew w1 := by with_reducible exact x1
              have P1 : Hid (Blk w1 W.heap.size 37 (evC x).toArray ∧ ¬ foot A1 c1 W.heap.size) := Lib.hid ⟨(((Blk.new W _ _).ext (Ext.alloc _ _)).drew).ext X1, fun hf => (ft1 _ hf).elim (fun h => absurd h foot_zero) (fun h => by first | (simp at h; done) | (simp at h; omega))⟩)
           | (have X1 : Ext ((W.alloc (.cells #[] 37)).alloc (.cells #[.int .i64 x.t, .int .i64 x.s, .int .i64 x.q, .int .i64 x.to, .int .i64 x.v] 37)).drew w1 := by with_reducible exact x1
              have P1 : Hid (Blk w1 (W.heap.size + 1) 37 (evC x).toArray ∧ ¬ foot A1 c1 (W.heap.size + 1)) := Lib.hid ⟨((blk_new1 W _ _ _).drew).ext X1, fun hf => (ft1 _ hf).elim (fun h => absurd h foot_zero) (fun h => by first | (simp at h; done) | (simp at h; omega))⟩)
           | skip
           clear r1 ch1 ft1 x1)
        | (refine step_append_atS (A := A1) (n := n) (c := c1) (m := 1) (xs := (l.take n).flatMap evC) (v := .slice (some ⟨w1.heap.size, 0, none⟩) 1 1) rfl rfl ul_ev info_ev rfl (by first | rfl | (go_simp; done)) (R1.out.ext (Ext.alloc w1 (.cells #[.int .i64 x.t, .int .i64 x.s, .int .i64 x.q, .int .i64 x.to, .int .i64 x.v] 37))) (by first | rfl | (go_simp; done)) (Src.ofRdS ul_ev evC_len (rdS_blk1 (Blk.new w1 37 (evC x).toArray)) evC_one) (by simp only [maxLen]; omega) (by omega) ?_
           intro A2 c2 w2 r2 ch2 ft2
           have E2 : Hid (Ext W w2) := Lib.hid ((E1.out.t (Ext.alloc w1 (.cells #[.int .i64 x.t, .int .i64 x.s, .int .i64 x.q, .int .i64 x.to, .int .i64 x.v] 37))).trans (ch2.below (E1.out.t (Ext.alloc w1 (.cells #[.int .i64 x.t, .int .i64 x.s, .int .i64 x.q, .int .i64 x.to, .int .i64 x.v] 37))).size (fun q hq hf => by have := F1.out q hf; omega)))
           have F2 : Hid (∀ q, foot A2 c2 q → W.heap.size ≤ q) := Lib.hid (fun q hq => (ft2 q hq).elim (F1.out q) (fun h => Nat.le_trans (E1.out.t (Ext.alloc w1 (.cells #[.int .i64 x.t, .int .i64 x.s, .int .i64 x.q, .int .i64 x.to, .int .i64 x.v] 37))).size h))
           have R2 := Lib.hid r2
           clear r2 ch2 ft2)
        | (refine step_append_atS (A := A1) (n := n) (c := c1) (m := 1) (xs := (l.take n).flatMap evC) (v := .slice (some ⟨W.heap.size, 0, none⟩) 1 1) rfl rfl ul_ev info_ev rfl (by first | rfl | (go_simp; done)) R1.out (by first | rfl | (go_simp; done)) (Src.ofRdS ul_ev evC_len (rdS_blk1 P1.out.1) evC_one) (by simp only [maxLen]; omega) (by omega) ?_
           intro A2 c2 w2 r2 ch2 ft2
           have E2 : Hid (Ext W w2) := Lib.hid (E1.out.trans (ch2.below E1.out.size (fun q hq hf => by have := F1.out q hf; omega)))
           have F2 : Hid (∀ q, foot A2 c2 q → W.heap.size ≤ q) := Lib.hid (fun q hq => (ft2 q hq).elim (F1.out q) (fun h => Nat.le_trans E1.out.size h))
           have R2 := Lib.hid r2
           clear r2 ch2 ft2)
        | (refine step_append_atS (A := A1) (n := n) (c := c1) (m := 1) (xs := (l.take n).flatMap evC) (v := .slice (some ⟨W.heap.size + 1, 0, none⟩) 1 1) rfl rfl ul_ev info_ev rfl (by first | rfl | (go_simp; done)) R1.out (by first | rfl | (go_simp; done)) (Src.ofRdS ul_ev evC_len (rdS_blk1 P1.out.1) evC_one) (by simp only [maxLen]; omega) (by omega) ?_
           intro A2 c2 w2 r2 ch2 ft2
           have E2 : Hid (Ext W w2) := Lib.hid (E1.out.trans (ch2.below E1.out.size (fun q hq hf => by have := F1.out q hf; omega)))
           have F2 : Hid (∀ q, foot A2 c2 q → W.heap.size ≤ q) := Lib.hid (fun q hq => (ft2 q hq).elim (F1.out q) (fun h => Nat.le_trans E1.out.size h))
           have R2 := Lib.hid r2
           clear r2 ch2 ft2)
        | (refine step_append_atS (A := A2) (n := n + 1) (c := c2) (m := NK) (xs := (l.take n).flatMap evC ++ [x].flatMap evC) (v := .slice FA NK CK) rfl rfl ul_ev info_ev rfl (by first | rfl | (go_simp; done)) R2.out (by first | rfl | (go_simp; done)) (Src.ofRdS ul_ev evC_len (HRd.out.ext E2.out) evC_one) (by simp only [maxLen]; omega) (by omega) ?_
           intro A3 c3 w3 r3 ch3 ft3
           have E3 : Hid (Ext W w3) := Lib.hid (E2.out.trans (ch3.below E2.out.size (fun q hq hf => by have := F2.out q hf; omega)))
           have F3 : Hid (∀ q, foot A3 c3 q → W.heap.size ≤ q) := Lib.hid (fun q hq => (ft3 q hq).elim (F2.out q) (fun h => Nat.le_trans E2.out.size h))
           have R3 := Lib.hid r3
           clear r3 ch3 ft3)))
      | fail
      all_goals
        go_wp2_with fail
        go_ret
        exact ⟨A3, _, c3, rfl, by rw [HV.out]; exact R3.out, by rw [insE_len, Hl.out]; omega, fun q hq => Nat.le_trans ((HE.out.t HW.out).size) (F3.out q hq), (HE.out.t HW.out).t E3.out⟩
end Go.Proofs.Ytkeapijehfacfaa
