/- Rft: the reference's Without, Deal, Runs. -/
import Derived.Test.YtkeapijehfacfaaRfs
namespace Go.Proofs.Ytkeapijehfacfaa
open Go.RowKit Go.Fx
set_option maxRecDepth 100000 in
set_option maxHeartbeats 2000000 in
theorem rwithout_ (Aa Ab : Option Addr) (na ca nb cb : Nat) (la lb : List Ev) (w : World) (ha : RdS 5 evC w Aa na la) (hb : RdS 5 evC w Ab nb lb) (hna : na ≤ 1000000) (hnb : nb ≤ 1000000) :
    Calls Try.prog 56 #[.slice Aa na ca, .slice Ab nb cb] w (SortP (woF la lb) w) := by
  have HSa := Lib.hid (rsorted_ Aa na ca la w ha (by omega))
  have HSb := Lib.hid (fun w' (e : Ext w w') => rsorted_ Ab nb cb lb w' (hb.ext e) (by omega))
  have H := Lib.hid ha
  have Hb := Lib.hid hb
  have Hla := Lib.hid ha.1
  clear ha hb
  cases hsa : srtB la with
  | false =>
    rw [hsa] at HSa
    have HV := Lib.hid (show woF la lb = ([], 110) by unfold woF; rw [hsa]; rfl)
    clear hsa
    go_enter Try.func56, Try.ntmps56
    go_wp2_with fail
    refine HSa.out.mono ?_; rintro e w2 ⟨rfl, e2⟩
    go_wp2_with fail
    go_ret2
    rw [HV.out]
    exact ⟨none, 0, 0, rfl, RoomS.nil, rfl, fun k hk => absurd hk foot_none, e2⟩
  | true =>
    cases hsb : srtB lb with
    | false =>
      rw [hsa] at HSa
      rw [hsb] at HSb
      have HV := Lib.hid (show woF la lb = ([], 110) by unfold woF; rw [hsb, if_neg (by simp)])
      clear hsa hsb
      go_enter Try.func56, Try.ntmps56
      go_wp2_with fail
      refine HSa.out.mono ?_; rintro e w2 ⟨rfl, e2⟩
      have HSb2 := Lib.hid (HSb.out _ e2)
      have E2 := Lib.hid e2
      clear e2
      go_wp2_with fail
      refine HSb2.out.mono ?_; rintro e w3 ⟨rfl, e3⟩
      have E3 := Lib.hid (E2.out.t e3)
      clear e3
      go_wp2_with fail
      go_ret2
      rw [HV.out]
      exact ⟨none, 0, 0, rfl, RoomS.nil, rfl, fun k hk => absurd hk foot_none, E3.out⟩
    | true =>
      have HV := Lib.hid (show woF la lb = (leftF la lb, 0) by unfold woF; rw [if_pos ⟨hsa, hsb⟩])
      rw [hsa] at HSa
      rw [hsb] at HSb
      clear hsa hsb
      go_enter Try.func56, Try.ntmps56
      go_wp2_with fail
      refine HSa.out.mono ?_; rintro e w2 ⟨rfl, e2⟩
      have HSb2 := Lib.hid (HSb.out _ e2)
      have E2 := Lib.hid e2
      clear e2
      go_wp2_with fail
      refine HSb2.out.mono ?_; rintro e w3 ⟨rfl, e3⟩
      have E3 := Lib.hid (E2.out.t e3)
      clear e3 HSa HSb HSb2 E2
      go_wp2_with fail
      go_loopw [6, 7] (fun a i wr => ∃ (k : Nat) (Ao : Option Addr) (no co : Nat), k ≤ na ∧ i = .int .i64 (k : Int) ∧ a = .slice Ao no co ∧ Hid (WoO w Ao no co (leftF (la.take k) lb) wr)) (fun _ i _ => na - (intOf i).toNat)
      case atStart => exact ⟨0, none, 0, 0, by omega, rfl, rfl, Lib.hid ⟨RoomS.nil, by simp [leftF], fun q hq => absurd hq foot_none, E3.out⟩⟩
      case round =>
        clear E3
        obtain ⟨k, Ao, no, co, hk, rfl, rfl, HO⟩ := hrel
        by_cases hlt : k < na
        · obtain ⟨b, o, x, rfl, _, hx, c0, c1, c2, c3, c4⟩ := (H.out.ext HO.out.2.2.2).ev hlt
          have hltI : (k : Int) < (na : Int) := by omega
          have hnb' : no ≤ 1000000 := by have h1 := leftF_len (la.take k) lb; have h2 := HO.out.2.1; rw [List.length_take] at h1; omega
          have HN := Lib.hid (leftF_snoc (b := lb) hx)
          have HH := Lib.hid (rhas_ Ab nb cb lb x.k wr (Hb.out.ext HO.out.2.2.2) (by omega))
          have Hx := Lib.hid hx
          cases hh : hasK lb x.k with
          | true =>
            have HR : Hid (leftF (la.take (k + 1)) lb = leftF (la.take k) lb) := Lib.hid (by rw [HN.out, if_pos hh, List.append_nil])
            rw [hh] at HH
            unfold kyV Ev.k at HH
            clear hx hh HN
            go_wp2_with fail
            refine HH.out.mono ?_; rintro e w4 ⟨rfl, e4⟩
            have HO4 : Hid (WoO w Ao no co (leftF (la.take (k + 1)) lb) w4) := Lib.hid (by rw [HR.out]; exact HO.out.e e4)
            clear HO e4
            go_wp2_with fail
            go_roundw
            case rel => exact ⟨k + 1, Ao, no, co, by omega, by go_num, rfl, HO4⟩
            case measure => simp [intOf]; omega
          | false =>
            have HR : Hid (leftF (la.take (k + 1)) lb = leftF (la.take k) lb ++ [x]) := Lib.hid (by rw [HN.out, if_neg (by rw [hh]; simp)])
            have HC2 := Lib.hid (fun w2 (e : Ext wr w2) => (H.out.ext (HO.out.2.2.2.t e)).ev hlt)
            rw [hh] at HH
            unfold kyV Ev.k at HH
            clear hx hh HN
            go_wp2_with fail
            refine HH.out.mono ?_; rintro e w4 ⟨rfl, e4⟩
            obtain ⟨b3, o3, y, e3, _, hy, d0, d1, d2, d3, d4⟩ := HC2.out w4 e4
            cases e3
            obtain rfl : x = y := by rw [Hx.out] at hy; exact Option.some.inj hy
            have HO4 := Lib.hid (HO.out.e e4)
            clear HO e4 hy HC2 c0 c1 c2 c3 c4 HH
            go_wp2_with (refine wpl_append_atS (by rfl) rfl ul_ev info_ev rfl rfl (HO4.out.1.ext (Ext.alloc _ _)) rfl (Src.ofRdS ul_ev evC_len (rdS_one evC_len _ _ x rfl) evC_one) (by simp only [maxLen]; omega) (by omega) ?_)
            intro A3 c3 w5 r3 ch3 ft3
            have HO5 := Lib.hid (wo_app HO4.out (Ext.refl _) r3 ch3 _ ft3 (by first | exact Nat.le_succ _ | simp))
            rw [← HR.out] at HO5
            clear r3 ch3 ft3 HO4 d0 d1 d2 d3 d4
            refine Lib.hid ?_
            go_wp2_with fail
            go_roundw
            case rel => exact ⟨k + 1, A3, no + 1, c3, by omega, by go_num, rfl, HO5⟩
            case measure => simp [intOf]; omega
        · obtain rfl : na = k := by omega
          have HF : Hid (WoO w Ao no co (leftF la lb) wr) := Lib.hid (by
            have h1 := HO.out
            rwa [List.take_of_length_le (by have := Hla.out; omega)] at h1)
          clear HO
          go_wp2_with fail
          go_ret2
          rw [HV.out]
          exact ⟨Ao, no, co, rfl, HF.out.1, HF.out.2.1, HF.out.2.2.1, HF.out.2.2.2⟩
set_option maxRecDepth 100000 in
set_option maxHeartbeats 2000000 in
theorem rdeal_ (A : Option Addr) (n c : Nat) (l : List Ev) (m : Int) (w : World) (h : RdS 5 evC w A n l) (hn : n ≤ 1000000) :
    Calls Try.prog 57 #[.slice A n c, .int .i64 m] w (DealP (dealF l m) w) := by
  by_cases h1 : m < 0
  · have HV := Lib.hid (show dealF l m = ([], -1, 2) by unfold dealF; rw [if_pos (.inl h1)])
    clear h
    go_enter Try.func57, Try.ntmps57
    go_wp2_with fail
    go_ret3
    rw [HV.out]
    exact ⟨none, 0, 0, [], rfl, Lse.nil, Ext.refl _⟩
  · by_cases h2 : m > 16
    · have HV := Lib.hid (show dealF l m = ([], -1, 2) by unfold dealF; rw [if_pos (.inr h2)])
      clear h
      go_enter Try.func57, Try.ntmps57
      go_wp2_with fail
      go_ret3
      rw [HV.out]
      exact ⟨none, 0, 0, [], rfl, Lse.nil, Ext.refl _⟩
    · obtain ⟨M, rfl⟩ : ∃ M : Nat, m = (M : Int) := ⟨m.toNat, by omega⟩
      have hM : M ≤ 16 := by omega
      have HV0 := Lib.hid (show dealF l (M : Int) = (match badT (M : Int) 0 l with | some i => ([], (i : Int), 112) | none => (dealL l M, -1, 0)) by unfold dealF; rw [if_neg (by omega)]; rfl)
      have H := Lib.hid h
      have Hl := Lib.hid h.1
      have h1' : ¬ ((M : Int) < 0) := h1
      have h2' : ¬ ((M : Int) > 16) := h2
      clear h h1 h2
      go_enter Try.func57, Try.ntmps57
      go_wp2_with fail
      go_loopw [7] (fun i wr => ∃ k : Nat, k ≤ n ∧ i = .int .i64 (k : Int) ∧ Hid (badT (M : Int) 0 l = badT (M : Int) k (l.drop k) ∧ Ext w wr)) (fun i _ => n - (intOf i).toNat)
      case atStart => exact ⟨0, by omega, rfl, Lib.hid ⟨rfl, Ext.refl _⟩⟩
      case round =>
        obtain ⟨k, hk, rfl, HJ⟩ := hrel
        by_cases hlt : k < n
        · obtain ⟨b, o, x, rfl, _, hx, c0, c1, c2, c3, c4⟩ := (H.out.ext HJ.out.2).ev hlt
          have hltI : (k : Int) < (n : Int) := by omega
          have HX := Lib.hid HJ.out.2
          by_cases hb : x.to < 1 ∨ x.to > (M : Int)
          · have HV : Hid (dealF l (M : Int) = ([], (k : Int), 112)) := Lib.hid (by
              rw [HV0.out, HJ.out.1, drop_at hx, badT_hit (by unfold okT; simp; omega)])
            clear hx HJ
            rcases hb with hb1 | hb2
            · go_wp2_with fail
              go_ret3
              rw [HV.out]
              exact ⟨none, 0, 0, [], rfl, Lse.nil, HX.out⟩
            · have hb1 : ¬ (x.to < 1) := by omega
              go_wp2_with fail
              go_ret3
              rw [HV.out]
              exact ⟨none, 0, 0, [], rfl, Lse.nil, HX.out⟩
          · have hb1 : ¬ (x.to < 1) := by omega
            have hb2 : ¬ (x.to > (M : Int)) := by omega
            have HJ1 := Lib.hid (show badT (M : Int) 0 l = badT (M : Int) (k + 1) (l.drop (k + 1)) by rw [HJ.out.1, drop_at hx, badT_step (by unfold okT; simp; omega)])
            clear hx HJ hb
            go_wp2_with fail
            go_roundw
            case rel => exact ⟨k + 1, by omega, by go_num, Lib.hid ⟨HJ1.out, HX.out⟩⟩
            case measure => simp [intOf]; omega
        · obtain rfl : n = k := by omega
          have HV : Hid (dealF l (M : Int) = (dealL l M, -1, 0)) := Lib.hid (by
            rw [HV0.out, HJ.out.1, List.drop_eq_nil_of_le (by have := Hl.out; omega)]; rfl)
          have HX := Lib.hid HJ.out.2
          clear HJ
          go_wp2_with fail
          obtain ⟨w9, rfl⟩ : ∃ w9, w9 = wr := ⟨_, rfl⟩
          go_loopw [8, 9] (fun a i wr => ∃ (j : Nat) (Ao : Option Addr) (co : Nat) (ts : List Sl), j ≤ M ∧ i = .int .i64 ((j : Int) + 1) ∧ a = .slice Ao j co ∧ Hid (Lse w.heap.size wr Ao j co ts (dealL l j) ∧ Ext w wr)) (fun _ i _ => M + 1 - (intOf i).toNat)
          case atStart => exact ⟨0, none, 0, [], by omega, rfl, rfl, Lib.hid ⟨Lse.nil, HX.out⟩⟩
          case round =>
            clear HX
            obtain ⟨j, Ao, co, ts, hj, rfl, rfl, HJ⟩ := hrel
            by_cases hlt2 : j < M
            · have hleI : (j : Int) + 1 ≤ (M : Int) := by omega
              have HF := Lib.hid (rfor_ A n c l ((j : Int) + 1) wr (H.out.ext HJ.out.2) (by omega))
              go_wp2_with fail
              refine HF.out.mono ?_; rintro e w1 ⟨A1, n1, c1, rfl, r1, l1, f1, e1⟩
              have R1 := Lib.hid r1
              have E1 := Lib.hid e1
              have F1 := Lib.hid f1
              clear r1 e1 f1 l1 HF
              go_wp2_with (refine wpl_append_at (by rfl) rfl ul_ee info_ee rfl rfl ((HJ.out.1.room.ext E1.out).ext (Ext.alloc _ _)) rfl (Src.ofRd (f := slv) (xs := [⟨A1, n1, c1⟩]) ul_ee ((Blk.new _ _ _).rd rfl rfl) (fun _ => rfl)) (by simp only [maxLen]; omega) (by omega) ?_)
              intro A3 c3 w3 r3 ch3 ft3
              have HN : Hid (Lse w.heap.size w3 A3 (j + 1) c3 (ts ++ [(⟨A1, n1, c1⟩ : Sl)]) (dealL l (j + 1)) ∧ Ext w w3) := Lib.hid ⟨by
                rw [dealL_succ]
                exact Lse.app (s := ⟨A1, n1, c1⟩) HJ.out.1 R1.out F1.out HJ.out.2.size E1.out (Ext.alloc _ _) r3 ch3 (by simpa using ft3),
                (HJ.out.2.t (E1.out.t (Ext.alloc _ _))).trans (ch3.below (HJ.out.2.t (E1.out.t (Ext.alloc _ _))).size (fun q hq hf => by have := HJ.out.1.new q (.inl hf); omega))⟩
              clear HJ r3 ch3 ft3 R1 E1 F1
              refine Lib.hid ?_
              go_wp2_with fail
              go_roundw
              case rel => exact ⟨j + 1, A3, c3, _, by omega, by go_num, rfl, HN⟩
              case measure => simp [intOf]; omega
            · obtain rfl : j = M := by omega
              have hleI : ¬ ((j : Int) + 1 ≤ (j : Int)) := by omega
              go_wp2_with fail
              go_ret3
              rw [HV.out]
              exact ⟨Ao, j, co, ts, rfl, HJ.out⟩
set_option maxRecDepth 100000 in
set_option maxHeartbeats 2000000 in
theorem rruns_ (A : Option Addr) (n c : Nat) (l : List Ev) (w : World) (h : RdS 5 evC w A n l) (hn : n ≤ 1000000) :
    Calls Try.prog 59 #[.slice A n c] w (RunsP l w) := by
  have H := Lib.hid h
  have Hl := Lib.hid h.1
  clear h
  go_enter Try.func59, Try.ntmps59
  go_wp2_with fail
  go_loopw [3, 4] (fun a i wr => ∃ (k : Nat) (Ao : Option Addr) (m co : Nat), k ≤ n ∧ i = .int .i64 (k : Int) ∧ a = .slice Ao m co ∧ Hid (RnR l w k Ao m co wr)) (fun _ i _ => n - (intOf i).toNat)
  case atStart => exact ⟨0, none, 0, 0, by omega, rfl, rfl, Lib.hid ⟨⟨[], RoomS.nil, rfl, Nat.le_refl _, .inl ⟨rfl, rfl⟩⟩, fun q hq => absurd hq foot_none, Ext.refl _⟩⟩
  case round =>
    obtain ⟨k, Ao, m, co, hk, rfl, rfl, HJ⟩ := hrel
    by_cases hlt : k < n
    · obtain ⟨b, o, x, rfl, _, hx, c0, c1, c2, c3, c4⟩ := (H.out.ext HJ.out.ext).ev hlt
      have hltI : (k : Int) < (n : Int) := by omega
      have Hx := Lib.hid hx
      have hmk : m ≤ 1000000 := by obtain ⟨rs, _, _, h3, _⟩ := HJ.out.out; omega
      have hwk : IntKind.i64.wrap ((k : Int) + 1) = (k : Int) + 1 := IntWalk.i64_in _ (by omega)
      rcases Nat.eq_zero_or_pos k with hk0 | hk0
      · have hkI : (k : Int) = 0 := by omega
        have hg : ((k : Int) == 0) = true := by rw [hkI]; rfl
        have HK0 := Lib.hid hk0
        clear hx c0 c1 c2 c3 c4 hkI hk0
        go_wp2_with fail
        go_quiet (fail)
        have HCut := Lib.hid ((HJ.out.e (Ext.drewN wr nq)).cut Hx.out (.inl HK0.out))
        generalize wr.drewN nq = w3 at *
        clear HJ hg
        obtain ⟨rs0, q1, q2, q3⟩ := HCut.out
        have HO := Lib.hid q1
        have HQ3 := Lib.hid q3
        clear q1 q3 HCut
        go_wp2_with (refine wpl_append_atS (by rfl) rfl ul_pr info_pr rfl rfl (HO.out.ext (Ext.alloc _ _)) rfl (Src.ofRdS ul_pr pairC_len (rdS_one pairC_len _ _ (k, k) rfl) pairC_one) (by simp only [maxLen]; omega) (by omega) ?_)
        intro A3 c3 w4 r3 ch3 ft3
        have HM := Lib.hid (HQ3.out _ _ _ _ (Ext.alloc _ _) r3 ch3 (by simpa using ft3))
        obtain ⟨m1, hm1⟩ : ∃ m1, m1 = m + 1 := ⟨_, rfl⟩
        rw [← hm1] at HM ⊢
        clear r3 ch3 ft3 hm1 HO HQ3
        refine Lib.hid ?_
        obtain ⟨bm, om, u, hAm, hm0, hmk, hcu, hfu, hRn⟩ := HM.out.fin Hx.out
        have hmI : ((m1 : Nat) : Int) - 1 = ((m1 - 1 : Nat) : Int) := by omega
        have hm1 : m1 - 1 < m1 := by omega
        have hw1 : IntKind.i64.wrap ((m1 : Nat) : Int) = ((m1 : Nat) : Int) := IntWalk.i64_in _ (by omega)
        obtain ⟨qq, hqq⟩ : ∃ qq, qq = m1 - 1 := ⟨_, rfl⟩
        rw [← hqq] at hmI hm1 hcu hfu hRn
        have hqI : (qq : Int) < ((m1 : Nat) : Int) := by omega
        have hwq : IntKind.i64.wrap (qq : Int) = (qq : Int) := IntWalk.i64_in _ (by omega)
        have HRn := Lib.hid hRn
        cases hAm
        clear HM hRn hqq hm0 hmk
        go_wp2_with fail
        go_roundw
        case rel => exact ⟨k + 1, some ⟨bm, om, none⟩, m1, c3, by omega, by go_num, rfl, HRn⟩
        case measure => simp [intOf]; omega
      · obtain ⟨j, hj⟩ : ∃ j, k = j + 1 := ⟨k - 1, by omega⟩
        obtain ⟨b', o', p, e1, _, hp, d0, d1, d2, d3, d4⟩ := (H.out.ext HJ.out.ext).ev (k := j) (by omega)
        cases e1
        have Hp := Lib.hid (show l[k - 1]? = some p by rw [hj]; exact hp)
        have HB := Lib.hid (fun w' => rless_ p.k x.k w')
        rw [show klB p.k x.k = elB p x from rfl] at HB
        unfold kyV Ev.k at HB
        have hg : ((k : Int) == 0) = false := by simp; omega
        have hsub : (k : Int) - 1 = (j : Int) := by omega
        have hjn : (j : Int) < (n : Int) := by omega
        have HK0 := Lib.hid hk0
        clear hp hk0 hx hj
        go_wp2_with fail
        have hw1 : IntKind.i64.wrap (j : Int) = (j : Int) := IntWalk.i64_in _ (by omega)
        have hw2 : IntKind.i64.wrap ((k : Int) - 1) = (j : Int) := by rw [hsub]; exact hw1
        go_still_tail 14, (by kernel_rfl)
        change wpList _ _ _ _ _ wr.drew
        have HJd := Lib.hid (HJ.out.e (Ext.drew wr))
        generalize wr.drew = w2 at *
        clear c0 c1 c2 c3 c4 d0 d1 d2 d3 d4 HJ
        go_wp2_with fail
        refine (HB.out _).mono ?_; rintro e w3 ⟨rfl, e3⟩
        have HJ3 := Lib.hid (HJd.out.e e3)
        clear e3 HJd HB hw1 hw2 hsub hg
        cases he : elB p x with
        | true =>
          have HM := Lib.hid (HJ3.out.go HK0.out Hp.out Hx.out he)
          clear he HJ3
          obtain ⟨bm, om, u, hAm, hm0, hmk, hcu, hfu, hRn⟩ := HM.out.fin Hx.out
          have hmI : ((m : Nat) : Int) - 1 = ((m - 1 : Nat) : Int) := by omega
          have hm1 : m - 1 < m := by omega
          have hw1 : IntKind.i64.wrap ((m : Nat) : Int) = ((m : Nat) : Int) := IntWalk.i64_in _ (by omega)
          obtain ⟨qq, hqq⟩ : ∃ qq, qq = m - 1 := ⟨_, rfl⟩
          rw [← hqq] at hmI hm1 hcu hfu hRn
          have hqI : (qq : Int) < ((m : Nat) : Int) := by omega
          have hwq : IntKind.i64.wrap (qq : Int) = (qq : Int) := IntWalk.i64_in _ (by omega)
          have HRn := Lib.hid hRn
          cases hAm
          clear HM hRn hqq hm0 hmk
          go_wp2_with fail
          go_roundw
          case rel => exact ⟨k + 1, some ⟨bm, om, none⟩, m, co, by omega, by go_num, rfl, HRn⟩
          case measure => simp [intOf]; omega
        | false =>
          have HCut := Lib.hid (HJ3.out.cut Hx.out (.inr ⟨p, HK0.out, Hp.out, he⟩))
          clear he HJ3
          obtain ⟨rs0, q1, q2, q3⟩ := HCut.out
          have HO := Lib.hid q1
          have HQ3 := Lib.hid q3
          clear q1 q3 HCut
          go_wp2_with (refine wpl_append_atS (by rfl) rfl ul_pr info_pr rfl rfl (HO.out.ext (Ext.alloc _ _)) rfl (Src.ofRdS ul_pr pairC_len (rdS_one pairC_len _ _ (k, k) rfl) pairC_one) (by simp only [maxLen]; omega) (by omega) ?_)
          intro A3 c3 w4 r3 ch3 ft3
          have HM := Lib.hid (HQ3.out _ _ _ _ (Ext.alloc _ _) r3 ch3 (by simpa using ft3))
          obtain ⟨m1, hm1⟩ : ∃ m1, m1 = m + 1 := ⟨_, rfl⟩
          rw [← hm1] at HM ⊢
          clear r3 ch3 ft3 hm1 HO HQ3
          refine Lib.hid ?_
          obtain ⟨bm, om, u, hAm, hm0, hmk, hcu, hfu, hRn⟩ := HM.out.fin Hx.out
          have hmI : ((m1 : Nat) : Int) - 1 = ((m1 - 1 : Nat) : Int) := by omega
          have hm1 : m1 - 1 < m1 := by omega
          have hw1 : IntKind.i64.wrap ((m1 : Nat) : Int) = ((m1 : Nat) : Int) := IntWalk.i64_in _ (by omega)
          obtain ⟨qq, hqq⟩ : ∃ qq, qq = m1 - 1 := ⟨_, rfl⟩
          rw [← hqq] at hmI hm1 hcu hfu hRn
          have hqI : (qq : Int) < ((m1 : Nat) : Int) := by omega
          have hwq : IntKind.i64.wrap (qq : Int) = (qq : Int) := IntWalk.i64_in _ (by omega)
          have HRn := Lib.hid hRn
          cases hAm
          clear HM hRn hqq hm0 hmk
          go_wp2_with fail
          go_roundw
          case rel => exact ⟨k + 1, some ⟨bm, om, none⟩, m1, c3, by omega, by go_num, rfl, HRn⟩
          case measure => simp [intOf]; omega
    · obtain rfl : n = k := by omega
      obtain ⟨rs, h1, h2, h3, h4⟩ := HJ.out.out
      have HR := Lib.hid h1
      have HV : Hid (runsF l = rs) := Lib.hid (by
        rcases h4 with ⟨rfl, rfl⟩ | ⟨p, rs0, f, hk, hp, rfl, hr⟩
        · obtain rfl : l = [] := List.eq_nil_of_length_eq_zero Hl.out
          rfl
        · rw [hr, List.drop_eq_nil_of_le (by have := Hl.out; omega)]; rfl)
      have HL := Lib.hid h2
      have HN := Lib.hid HJ.out.new
      have HE := Lib.hid HJ.out.ext
      clear h1 h2 h3 h4 HJ
      go_wp2_with fail
      go_ret
      exact ⟨Ao, m, co, rfl, by rw [HV.out]; exact HR.out, by rw [HV.out]; exact HL.out, HN.out, HE.out⟩
end Go.Proofs.Ytkeapijehfacfaa
