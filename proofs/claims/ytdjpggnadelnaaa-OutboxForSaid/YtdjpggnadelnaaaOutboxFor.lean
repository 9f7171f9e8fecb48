/- OutboxFor: the walk of the law: for any numbers it answers true and leaves all memory as it was (no condition). -/
import Derived.Test.YtdjpggnadelnaaaOdl
import Derived.Test.YtdjpggnadelnaaaOaw
import Derived.Test.YtdjpggnadelnaaaLsa
import Derived.Test.YtdjpggnadelnaaaMrn
import Derived.Test.YtdjpggnadelnaaaTka
namespace Go.Fx
open Go.RowKit
theorem keep_to {p : Int} {l : List Ev} {x : Ev} (h : x ∈ keepF p l) : x ∈ l ∧ x.to = p := by
  unfold keepF farB at h
  rw [List.mem_filter] at h
  exact ⟨h.1, by simpa using h.2⟩
def lsF (S : List Ev) (k : Nat) : List (List Ev) := (List.range k).map (fun (i : Nat) => keepF (i : Int) S)
theorem lsF_succ (S : List Ev) (k : Nat) : lsF S (k + 1) = lsF S k ++ [keepF (k : Int) S] := by
  unfold lsF
  rw [List.range_succ, List.map_append]
  rfl
theorem lsF_perm (S : List Ev) : ∀ k : Nat, (lsF S k).flatten.Perm (S.filter (fun x => decide (0 ≤ x.to ∧ x.to < (k : Int))))
  | 0 => by
    have h : S.filter (fun x => decide (0 ≤ x.to ∧ x.to < ((0 : Nat) : Int))) = [] := List.filter_eq_nil_iff.2 (fun x _ => by simp only [decide_eq_true_eq]; omega)
    rw [h]
    exact List.Perm.nil
  | k + 1 => by
    rw [lsF_succ, List.flatten_append, List.flatten_cons, List.flatten_nil, List.append_nil]
    have h1 := List.filter_append_perm (fun x : Ev => decide (x.to < (k : Int))) (S.filter (fun x => decide (0 ≤ x.to ∧ x.to < ((k + 1 : Nat) : Int))))
    rw [List.filter_filter, List.filter_filter] at h1
    refine List.Perm.trans ?_ h1
    have e1 : S.filter (fun x => decide (x.to < (k : Int)) && decide (0 ≤ x.to ∧ x.to < ((k + 1 : Nat) : Int))) = S.filter (fun x => decide (0 ≤ x.to ∧ x.to < (k : Int))) := List.filter_congr (fun x _ => by
      rw [Bool.eq_iff_iff]; simp only [Bool.and_eq_true, decide_eq_true_eq]; omega)
    have e2 : S.filter (fun x => !decide (x.to < (k : Int)) && decide (0 ≤ x.to ∧ x.to < ((k + 1 : Nat) : Int))) = keepF (k : Int) S := List.filter_congr (fun x _ => by
      rw [Bool.eq_iff_iff]; unfold farB; simp; omega)
    rw [e1, e2]
    exact (lsF_perm S k).append_right _
theorem lsF_all {S : List Ev} (h : ∀ x ∈ S, 1 ≤ x.to ∧ x.to ≤ 16) : (lsF S 18).flatten.Perm S := by
  have h1 := lsF_perm S 18
  rwa [List.filter_eq_self.2 (fun x hx => by have := h x hx; simp only [decide_eq_true_eq]; omega)] at h1
/-- All lists together. -/
theorem lsF_merge {S : List Ev} (hs : Srt S) (hd : Dif S) (h : ∀ x ∈ S, 1 ≤ x.to ∧ x.to ≤ 16) : mergeF (lsF S 18) = (S, -1, 0) := by
  rw [mergeF_ok (fun l hl => ?_) (hd.perm (lsF_all h).symm), isort_unique hs (lsF_all h).symm]
  unfold lsF at hl
  obtain ⟨i, _, rfl⟩ := List.mem_map.1 hl
  exact hs.filter _
end Go.Fx
namespace Go.Proofs.Ytdjpggnadelnaaa
open Go.RowKit Go.Fx
theorem law_mergeF {A : Option Addr} {n c : Nat} {ss : List Sl} {ls : List (List Ev)} {r : List Ev} {w : World} (hF : mergeF ls = (r, -1, 0)) (h : Rd slv w A n ss) (hs : Els w ss ls) (hn : n ≤ 1000) (hok : ∀ x ∈ ls.flatten, EvOk x) (htot : ls.flatten.length ≤ 1000) :
    Calls Try.prog 26 #[.slice A n c] w fun e w' => ∃ A' n' c', e = .returned (.tuple #[.slice A' n' c', .int .i64 (-1), .int .i64 0]) ∧ RdS 5 evC w' A' n' r ∧ Ext w w' := by
  refine (merge_ A n c ss ls w h hs (by omega) (fun s hs' => ?_) (fun l hl x hx => hok x (List.mem_flatten.2 ⟨l, hl, hx⟩)) (by omega)).mono ?_
  · obtain ⟨i, hi, rfl⟩ := List.getElem_of_mem hs'
    obtain ⟨_, l, h2, h3⟩ := hs.at_ i _ (List.getElem?_eq_getElem hi)
    have h4 : l.length ≤ ls.flatten.length := (List.sublist_flatten_of_mem (List.mem_of_getElem? h2)).length_le
    have h5 := h3.1
    omega
  · rintro e w' ⟨A', n', c', rfl, hr, hl', hnew, he⟩
    rw [hF] at hr ⊢
    exact ⟨A', n', c', rfl, hr.rd evC_len (by decide), he⟩
set_option maxRecDepth 100000 in
set_option maxHeartbeats 8000000 in
theorem walkOutboxFor (e : Int) (A1 : Option Addr) (n1 c1 : Nat) (l : List Sb) (w : World) (h0 : (Lit.int .u16 e).wf = true) (h1 : SbArg w A1 n1 c1 l) :
    Calls Try.prog 7 #[.int .u16 e, .slice A1 n1 c1] w fun en w' => en = .returned (.bool true) ∧ Ext w w' := by
  have hb0 := bounds_u16 h0
  have hwe : IntKind.i64.wrap e = e := IntWalk.i64_in _ (by omega)
  obtain ⟨L, hL⟩ : ∃ L, L = madeF 9 e 0 (l.take 40) := ⟨_, rfl⟩
  have hLl : L.length ≤ 40 := by rw [hL, madeF_len, List.length_take]; omega
  have hLo : okP 9 e (-1) L = true := by rw [hL]; exact madeF_ok (by decide) (by decide) (by omega) (by omega) (by omega) _ _ _ (by omega) (by rw [List.length_take]; omega)
  have hLe : ∀ x ∈ L, EvOk x := by rw [hL]; exact madeF_evok (by decide) (by decide) (by omega) (by omega) _ _ (fun x hx => h1.ok x (List.mem_of_mem_take hx)) (by rw [List.length_take]; omega)
  have HM1 := Lib.hid (fun (W : World) (x : Ext w W) => made_ 9 e A1 n1 c1 l W (h1.ext x) (by decide) (by omega))
  rw [← hL] at HM1
  obtain ⟨S, hS⟩ : ∃ S, S = isort L := ⟨_, rfl⟩
  have hSd : Dif S := by rw [hS]; exact (okP_dif hLo).perm (isort_perm L).symm
  have hSs : Srt S := by rw [hS]; exact isort_srt (okP_dif hLo)
  have hSm : ∀ x ∈ S, x ∈ L := fun x hx => by rw [hS] at hx; exact (isort_perm L).mem_iff.1 hx
  have hSt : ∀ x ∈ S, 1 ≤ x.to ∧ x.to ≤ 16 := fun x hx => by have := okP_good hLo x (hSm x hx); omega
  have hSl : S.length = L.length := by rw [hS, isort_len]
  have HSF := Lib.hid (lsF_merge hSs hSd hSt)
  have HSp := Lib.hid (lsF_all hSt)
  have HSe := Lib.hid (fun x hx => hLe x (hSm x hx))
  have HSb := Lib.hid (show srtB S = true from (srtB_iff S).2 hSs)
  have HSl := Lib.hid hSl
  have HSi := Lib.hid hS
  have hnew : newB 9 256 e = true := by unfold newB; rw [decide_eq_true_eq]; omega
  have HL := Lib.hid (And.intro hLo hLe)
  have HN := Lib.hid hnew
  clear h0 h1 hL hLo hLe hnew hS hSd hSs hSm hSt hSl
  go_enter Try.func7, Try.ntmps7
  go_wp2_with fail
  refine (awake_ w).mono ?_; rintro en w1 ⟨rfl, e1⟩
  have E1 := Lib.hid e1
  clear e1
  go_wp2_with fail
  refine (HM1.out _ E1.out).mono ?_; rintro en w2 ⟨A3, n3, c3, rfl, r3, q3, m3, e3⟩
  have hn3 : n3 ≤ 40 := by omega
  have R3 := Lib.hid r3
  have Q3 := Lib.hid q3
  have E2 := Lib.hid (E1.out.t e3)
  clear r3 q3 m3 e3 E1 HM1
  go_wp2_with fail
  refine (filled_ 9 e A3 n3 c3 L _ HN.out (R3.out.rd evC_len (by decide)) HL.out.2 HL.out.1 (by omega)).mono ?_; rintro en w4 ⟨g, A, n, c, rfl, o4, lg4, f4, e4⟩
  have hnn : n = n3 := by have := o4.len; have := Q3.out; omega
  subst hnn
  have HO4 := Lib.hid o4
  have R4 := Lib.hid (R3.out.ext e4)
  have E4 := Lib.hid (E2.out.t e4)
  clear o4 lg4 f4 e4 R3 E2
  go_wp2_with fail
  go_loopw [8, 34] (fun va vi wr => ∃ (k : Nat) (Ao : Option Addr) (co : Nat) (ts : List Sl), k ≤ 18 ∧ va = .slice Ao k co ∧ vi = .int .i64 (k : Int) ∧ Hid (Lse w4.heap.size wr Ao k co ts (lsF S k) ∧ Ext w4 wr)) (fun _ i _ => 18 - (intOf i).toNat)
  case atStart => exact ⟨0, none, 0, [], by omega, rfl, rfl, Lib.hid ⟨Lse.nil, Ext.refl _⟩⟩
  case round =>
    obtain ⟨k, Ao, co, ts, hk, rfl, rfl, HJ⟩ := hrel
    by_cases hlt : k < 18
    · have hltI : (k : Int) < 18 := by omega
      go_wp2_with fail
      refine (obx_for (k : Int) (HO4.out.ext HJ.out.2)).mono ?_; rintro en w5 ⟨A5, m, c5, rfl, r5, l5, f5, e5⟩
      rw [← HSi.out] at r5 l5
      have hm : m ≤ 40 := by have := keep_len (k : Int) S; have := HSl.out; omega
      have HR5 := Lib.hid (And.intro r5 f5)
      have Hl5 := Lib.hid l5
      have E5 := Lib.hid e5
      clear r5 l5 f5 e5
      go_wp2_with fail
      obtain ⟨wo, rfl⟩ : ∃ wo, wo = wr := ⟨_, rfl⟩
      go_loopw [42] (fun i wx => ∃ j : Nat, j ≤ m ∧ i = .int .i64 (j : Int) ∧ Hid (Ext w5 wx)) (fun i _ => m - (intOf i).toNat)
      case atStart => exact ⟨0, by omega, rfl, Lib.hid (Ext.refl _)⟩
      case round =>
        obtain ⟨j, hj, rfl, HX⟩ := hrel
        by_cases hjl : j < m
        · have hjI : (j : Int) < (m : Int) := by omega
          obtain ⟨bm, om, x, rfl, _, hx, x0, x1, x2, x3, x4⟩ := ((HR5.out.1.rd evC_len (by decide)).ext HX.out).ev hjl
          have hto : x.to = (k : Int) := (keep_to (List.mem_of_getElem? hx)).2
          rw [hto] at x3
          have HX2 := Lib.hid (HX.out.t (Ext.alloc wr (.cells #[.int .i64 x.t, .int .i64 x.s, .int .i64 x.q, .int .i64 (k : Int), .int .i64 x.v] 35)))
          clear hx hto HX
          go_wp2_with fail
          go_roundw
          case rel => exact ⟨j + 1, by omega, by go_num, HX2⟩
          case measure => simp [intOf]; omega
        · obtain rfl : m = j := by omega
          have hjI : ¬ ((m : Int) < (m : Int)) := by omega
          go_wp2_with (refine wpl_append_at (by rfl) rfl ul_ee info_ee rfl rfl ((HJ.out.1.room.ext (E5.out.t HX.out)).ext (Ext.alloc _ _)) rfl (Src.ofRd (f := slv) (xs := [⟨A5, m, c5⟩]) ul_ee ((Blk.new _ _ _).rd rfl rfl) (fun _ => rfl)) (by simp only [maxLen]; omega) (by omega) ?_)
          intro A6 c6 w6 r6 ch6 ft6
          have HN6 : Hid (Lse w4.heap.size w6 A6 (k + 1) c6 (ts ++ [(⟨A5, m, c5⟩ : Sl)]) (lsF S (k + 1)) ∧ Ext w4 w6) := Lib.hid ⟨by
            rw [lsF_succ]
            exact Lse.app (s := ⟨A5, m, c5⟩) HJ.out.1 (HR5.out.1.ext HX.out) HR5.out.2 HJ.out.2.size (E5.out.t HX.out) (Ext.alloc _ _) r6 ch6 (by simpa using ft6),
            (HJ.out.2.t ((E5.out.t HX.out).t (Ext.alloc _ _))).trans (ch6.below (HJ.out.2.t ((E5.out.t HX.out).t (Ext.alloc _ _))).size (fun q hq hf => by have := HJ.out.1.new q (.inl hf); omega))⟩
          clear HJ r6 ch6 ft6 HR5 E5 HX
          refine Lib.hid ?_
          go_wp2_with fail
          go_roundw
          case rel => exact ⟨k + 1, A6, c6, _, by omega, by go_num, by go_num, HN6⟩
          case measure => simp [intOf]; omega
    · obtain rfl : k = 18 := by omega
      have hltI : ¬ ((18 : Int) < 18) := by omega
      go_wp2_with fail
      refine (law_mergeF HSF.out HJ.out.1.room.rd HJ.out.1.els (by omega) (fun x hx => HSe.out x (HSp.out.mem_iff.1 hx)) (by rw [HSp.out.length_eq]; have := HSl.out; omega)).mono ?_; rintro en w7 ⟨A7, n7, c7, rfl, r7, e7⟩
      have R7 := Lib.hid r7
      have E7 := Lib.hid (HJ.out.2.t e7)
      have hn7 : n7 ≤ 40 := by have := r7.1; have := HSl.out; omega
      clear r7 e7 HJ
      go_wp2_with fail
      refine (obx_sorted (HO4.out.ext E7.out)).mono ?_; rw [← HSi.out]; rintro en w8 ⟨A8, c8, rfl, r8, f8, e8⟩
      have R8 := Lib.hid (And.intro (R7.out.ext e8) (r8.rd evC_len (by decide)))
      have E8 := Lib.hid (E7.out.t e8)
      clear r8 f8 e8 R7 E7
      go_wp2_with fail
      have HLs := Lib.hid (obx_least (HO4.out.ext E8.out))
      by_cases hn0 : 0 < n
      · rw [show decide (0 < n) = true from decide_eq_true hn0] at HLs
        have hnI : (0 : Int) < (n : Int) := by omega
        obtain ⟨bs, os, y, rfl, _, hy, y0, y1, y2, y3, y4⟩ := R8.out.2.ev hn0
        have hyx : leastE L = y := by
          unfold leastE
          rw [← HSi.out]
          cases hq : S with
          | nil => rw [hq] at hy; simp at hy
          | cons a t => rw [hq] at hy; simpa using hy
        rw [hyx] at HLs
        simp only [Nat.zero_mul, Nat.add_zero] at y0 y1 y2 y3 y4
        have HSo : Hid (∀ w', Ext w8 w' → w'.cell? ⟨bs, os, none⟩ = some (.int .i64 y.t) ∧ w'.cell? ⟨bs, os + 1, none⟩ = some (.int .i64 y.s) ∧ w'.cell? ⟨bs, os + 2, none⟩ = some (.int .i64 y.q) ∧ w'.cell? ⟨bs, os + 3, none⟩ = some (.int .i64 y.to) ∧ w'.cell? ⟨bs, os + 4, none⟩ = some (.int .i64 y.v)) := Lib.hid (fun w' h => by
          obtain ⟨bs', os', y', hA, _, hy', z0, z1, z2, z3, z4⟩ := (R8.out.2.ext h).ev hn0
          cases hA
          rw [hy] at hy'
          cases hy'
          simp only [Nat.zero_mul, Nat.add_zero] at z0 z1 z2 z3 z4
          exact ⟨z0, z1, z2, z3, z4⟩)
        have heq := fun w' => eql_ev w' y y
        rw [show decide (y = y) = true from decide_eq_true rfl] at heq
        unfold evV at heq
        clear y0 y1 y2 y3 y4 hy hyx
        go_wp2_with fail
        refine HLs.out.mono ?_; rintro en w9 ⟨rfl, e9⟩
        have HR9 := Lib.hid (And.intro (R8.out.1.ext e9) (R8.out.2.ext e9))
        have E9 := Lib.hid (E8.out.t e9)
        obtain ⟨W, hW⟩ : ∃ W, W = w9.alloc (.cells #[.int .i64 y.t, .int .i64 y.s, .int .i64 y.q, .int .i64 y.to, .int .i64 y.v] 35) := ⟨_, rfl⟩
        have hb : Blk W w9.heap.size 35 #[.int .i64 y.t, .int .i64 y.s, .int .i64 y.q, .int .i64 y.to, .int .i64 y.v] := by rw [hW]; exact Blk.new _ _ _
        have hxW : Ext w9 W := by rw [hW]; exact Ext.alloc _ _
        have HRW := Lib.hid (And.intro (HR9.out.1.ext hxW) (HR9.out.2.ext hxW))
        have EW := Lib.hid (E9.out.t hxW)
        have HbW := Lib.hid hb
        have Hx9 := Lib.hid (e9.t hxW)
        have HW := Lib.hid hW
        have HSS : Hid (∀ w', Ext W w' → ((fun w' => w'.cell? ⟨w9.heap.size, 0, none⟩ = some (.int .i64 y.t) ∧ w'.cell? ⟨w9.heap.size, 1, none⟩ = some (.int .i64 y.s) ∧ w'.cell? ⟨w9.heap.size, 2, none⟩ = some (.int .i64 y.q) ∧ w'.cell? ⟨w9.heap.size, 3, none⟩ = some (.int .i64 y.to) ∧ w'.cell? ⟨w9.heap.size, 4, none⟩ = some (.int .i64 y.v) ∧ w'.cell? ⟨bs, os, none⟩ = some (.int .i64 y.t) ∧ w'.cell? ⟨bs, os + 1, none⟩ = some (.int .i64 y.s) ∧ w'.cell? ⟨bs, os + 2, none⟩ = some (.int .i64 y.q) ∧ w'.cell? ⟨bs, os + 3, none⟩ = some (.int .i64 y.to) ∧ w'.cell? ⟨bs, os + 4, none⟩ = some (.int .i64 y.v)) w')) := Lib.hid ((fun w' h => by have hc := (HbW.out.ext h).cell; have h2 := HSo.out w' (Hx9.out.t h); exact ⟨by rw [hc]; rfl, by rw [hc]; rfl, by rw [hc]; rfl, by rw [hc]; rfl, by rw [hc]; rfl, h2⟩))
        have HC1 : Hid (∀ W', Ext W W' → Calls Try.prog 17 #[.slice A7 n7 c7, .slice (some ⟨bs, os, none⟩) n c8] W' (fun en w' => en = .returned (.bool true) ∧ Ext W' w')) := Lib.hid (fun W' h => by
          have hc := sameE_ A7 (some ⟨bs, os, none⟩) n7 n c7 c8 S S W' (HRW.out.1.ext h) (HRW.out.2.ext h) (by omega) (by omega)
          rwa [show decide (S = S) = true from decide_eq_true rfl] at hc)
        have HC2 : Hid (∀ W', Ext W W' → Calls Try.prog 28 #[.slice (some ⟨bs, os, none⟩) n c8] W' (fun en w' => en = .returned (.bool true) ∧ Ext W' w')) := Lib.hid (fun W' h => by
          have hc := sorted_ (some ⟨bs, os, none⟩) n c8 S W' (HRW.out.2.ext h) (by omega)
          rwa [HSb.out] at hc)
        have HC3 := Lib.hid (fun W' (h : Ext W W') => obx_events ((HO4.out.ext EW.out).ext h))
        have HC4 : Hid (∀ W' A' c', Ext W W' → RdS 5 evC W' A' n L → Calls Try.prog 17 #[.slice A' n c', .slice A3 n c3] W' (fun en w' => en = .returned (.bool true) ∧ Ext W' w')) := Lib.hid (fun W' A' c' h hr => by
          have hc := sameE_ A' A3 n n c' c3 L L W' hr (((R4.out.rd evC_len (by decide)).ext EW.out).ext h) (by omega) (by omega)
          rwa [show decide (L = L) = true from decide_eq_true rfl] at hc)
        unfold evV
        clear e9 hb hxW hW HR9 E9
        go_upto_region 23 with fail
        rw [← HW.out]
        clear HW
        try simp only [List.append_eq, List.cons_append, List.nil_append]
        refine wp_region_seg false 9 31 (by as_aux_lemma => kernel_rfl) rfl (by as_aux_lemma => kernel_rfl) ?_
        simp only [List.take_succ_cons, List.take_zero]
        iterate 9 still_step
        refine wpStill_nil ?_
        have X0 := Lib.hid (Ext.drew W)
        generalize W.drew = wz at *
        refine wpAny_ready (rs := [9]) (by as_aux_lemma => kernel_rfl) (by simp) (AllReady.cons rfl (fun K hK => ?_) AllReady.nil)
        go_simp
        refine (HC1.out _ X0.out).mono ?_; rintro en wa ⟨rfl, ea⟩
        have X1 := Lib.hid (X0.out.t ea)
        try go_simp
        refine hK _ _ ?_
        clear hK K
        clear ea
        refine wpAny_seg false 3 10 27 (by as_aux_lemma => kernel_rfl) ?_
        simp only [List.take_succ_cons, List.take_zero, List.drop_succ_cons, List.drop_zero]
        iterate 3 still_step
        refine wpStill_nil ?_
        refine wpAny_ready (rs := [13]) (by as_aux_lemma => kernel_rfl) (by simp) (AllReady.cons rfl (fun K hK => ?_) AllReady.nil)
        go_simp
        refine (HC2.out _ X1.out).mono ?_; rintro en wb ⟨rfl, eb⟩
        have X2 := Lib.hid (X1.out.t eb)
        try go_simp
        refine hK _ _ ?_
        clear hK K
        clear eb
        refine wpAny_seg true 2 14 24 (by as_aux_lemma => kernel_rfl) ?_
        simp only [List.take_succ_cons, List.take_zero, List.drop_succ_cons, List.drop_zero]
        iterate 2 still_step
        refine wpStill_nil ?_
        refine take_q (i := 16) (j := 85) (v := .pointer (some ⟨g, 0, none⟩)) rfl rfl (by as_aux_lemma => kernel_rfl) (by as_aux_lemma => kernel_rfl) (by as_aux_lemma => kernel_rfl) (fun _ _ _ h => h) (Or.inl ⟨by rfl, fun w => by go_simp; try rfl⟩) ?_
        simp only [Act.put, List.setIfInBounds_toArray, List.set_cons_zero, List.set_cons_succ]
        refine take_q (i := 18) (j := 87) (v := .slice A3 n c3) rfl rfl (by as_aux_lemma => kernel_rfl) (by as_aux_lemma => kernel_rfl) (by as_aux_lemma => kernel_rfl) (fun _ _ _ h => h) (Or.inl ⟨by rfl, fun w => by go_simp; try rfl⟩) ?_
        simp only [Act.put, List.setIfInBounds_toArray, List.set_cons_zero, List.set_cons_succ]
        refine wpAny_ready (rs := [17]) (by as_aux_lemma => kernel_rfl) (by simp) (AllReady.cons rfl (fun K hK => ?_) AllReady.nil)
        go_simp
        refine (HC3.out _ X2.out).mono ?_; rintro en wx ⟨Ax, cx, rfl, rx, fx, ex⟩
        have X3 := Lib.hid (X2.out.t ex)
        have RX := Lib.hid (rx.rd evC_len (by decide))
        try go_simp
        refine hK _ _ ?_
        clear hK K
        clear rx fx ex
        refine wpAny_ready (rs := [19]) (by as_aux_lemma => kernel_rfl) (by simp) (AllReady.cons rfl (fun K hK => ?_) AllReady.nil)
        go_simp
        refine (HC4.out _ _ _ X3.out RX.out).mono ?_; rintro en wd ⟨rfl, ed⟩
        have X4 := Lib.hid (X3.out.t ed)
        try go_simp
        refine hK _ _ ?_
        clear hK K
        clear ed
        obtain ⟨z0, z1, z2, z3, z4, z5, z6, z7, z8, z9⟩ := HSS.out _ X4.out
        refine wpAny_seg false 19 20 1 (by as_aux_lemma => kernel_rfl) ?_
        simp only [List.take_succ_cons, List.take_zero, List.drop_succ_cons, List.drop_zero]
        iterate 19 still_step
        refine wpStill_nil ?_
        refine wpAny_ready (rs := [39]) (by as_aux_lemma => kernel_rfl) (by simp) (AllReady.cons rfl (fun K hK => ?_) AllReady.nil)
        go_simp
        try go_simp
        refine hK _ _ ?_
        clear hK K
        refine wpAny_done (by as_aux_lemma => kernel_rfl) ?_ _
        all_goals go_wp2_with fail
        all_goals go_ret
        all_goals exact ⟨rfl, (E4.out.t EW.out).t X4.out⟩
      · rw [show decide (0 < n) = false from decide_eq_false hn0] at HLs
        have hnI : ¬ ((0 : Int) < (n : Int)) := by omega
        obtain ⟨y, hy⟩ : ∃ y, y = leastE L := ⟨_, rfl⟩
        rw [← hy] at HLs
        clear hy
        go_wp2_with fail
        refine HLs.out.mono ?_; rintro en w9 ⟨rfl, e9⟩
        have HR9 := Lib.hid (And.intro (R8.out.1.ext e9) (R8.out.2.ext e9))
        have E9 := Lib.hid (E8.out.t e9)
        obtain ⟨W, hW⟩ : ∃ W, W = w9.alloc (.cells #[.int .i64 y.t, .int .i64 y.s, .int .i64 y.q, .int .i64 y.to, .int .i64 y.v] 35) := ⟨_, rfl⟩
        have hb : Blk W w9.heap.size 35 #[.int .i64 y.t, .int .i64 y.s, .int .i64 y.q, .int .i64 y.to, .int .i64 y.v] := by rw [hW]; exact Blk.new _ _ _
        have hxW : Ext w9 W := by rw [hW]; exact Ext.alloc _ _
        have HRW := Lib.hid (And.intro (HR9.out.1.ext hxW) (HR9.out.2.ext hxW))
        have EW := Lib.hid (E9.out.t hxW)
        have HbW := Lib.hid hb
        have Hx9 := Lib.hid (e9.t hxW)
        have HW := Lib.hid hW
        have HSS : Hid (∀ w', Ext W w' → ((fun w' => Ext W w') w')) := Lib.hid ((fun w' h => h))
        have HC1 : Hid (∀ W', Ext W W' → Calls Try.prog 17 #[.slice A7 n7 c7, .slice A8 n c8] W' (fun en w' => en = .returned (.bool true) ∧ Ext W' w')) := Lib.hid (fun W' h => by
          have hc := sameE_ A7 A8 n7 n c7 c8 S S W' (HRW.out.1.ext h) (HRW.out.2.ext h) (by omega) (by omega)
          rwa [show decide (S = S) = true from decide_eq_true rfl] at hc)
        have HC2 : Hid (∀ W', Ext W W' → Calls Try.prog 28 #[.slice A8 n c8] W' (fun en w' => en = .returned (.bool true) ∧ Ext W' w')) := Lib.hid (fun W' h => by
          have hc := sorted_ A8 n c8 S W' (HRW.out.2.ext h) (by omega)
          rwa [HSb.out] at hc)
        have HC3 := Lib.hid (fun W' (h : Ext W W') => obx_events ((HO4.out.ext EW.out).ext h))
        have HC4 : Hid (∀ W' A' c', Ext W W' → RdS 5 evC W' A' n L → Calls Try.prog 17 #[.slice A' n c', .slice A3 n c3] W' (fun en w' => en = .returned (.bool true) ∧ Ext W' w')) := Lib.hid (fun W' A' c' h hr => by
          have hc := sameE_ A' A3 n n c' c3 L L W' hr (((R4.out.rd evC_len (by decide)).ext EW.out).ext h) (by omega) (by omega)
          rwa [show decide (L = L) = true from decide_eq_true rfl] at hc)
        unfold evV
        clear e9 hb hxW hW HR9 E9
        go_upto_region 23 with fail
        rw [← HW.out]
        clear HW
        try simp only [List.append_eq, List.cons_append, List.nil_append]
        refine wp_region_seg false 9 31 (by as_aux_lemma => kernel_rfl) rfl (by as_aux_lemma => kernel_rfl) ?_
        simp only [List.take_succ_cons, List.take_zero]
        iterate 9 still_step
        refine wpStill_nil ?_
        have X0 := Lib.hid (Ext.drew W)
        generalize W.drew = wz at *
        refine wpAny_ready (rs := [9]) (by as_aux_lemma => kernel_rfl) (by simp) (AllReady.cons rfl (fun K hK => ?_) AllReady.nil)
        go_simp
        refine (HC1.out _ X0.out).mono ?_; rintro en wa ⟨rfl, ea⟩
        have X1 := Lib.hid (X0.out.t ea)
        try go_simp
        refine hK _ _ ?_
        clear hK K
        clear ea
        refine wpAny_seg false 3 10 27 (by as_aux_lemma => kernel_rfl) ?_
        simp only [List.take_succ_cons, List.take_zero, List.drop_succ_cons, List.drop_zero]
        iterate 3 still_step
        refine wpStill_nil ?_
        refine wpAny_ready (rs := [13]) (by as_aux_lemma => kernel_rfl) (by simp) (AllReady.cons rfl (fun K hK => ?_) AllReady.nil)
        go_simp
        refine (HC2.out _ X1.out).mono ?_; rintro en wb ⟨rfl, eb⟩
        have X2 := Lib.hid (X1.out.t eb)
        try go_simp
        refine hK _ _ ?_
        clear hK K
        clear eb
        refine wpAny_seg true 2 14 24 (by as_aux_lemma => kernel_rfl) ?_
        simp only [List.take_succ_cons, List.take_zero, List.drop_succ_cons, List.drop_zero]
        iterate 2 still_step
        refine wpStill_nil ?_
        refine take_q (i := 16) (j := 85) (v := .pointer (some ⟨g, 0, none⟩)) rfl rfl (by as_aux_lemma => kernel_rfl) (by as_aux_lemma => kernel_rfl) (by as_aux_lemma => kernel_rfl) (fun _ _ _ h => h) (Or.inl ⟨by rfl, fun w => by go_simp; try rfl⟩) ?_
        simp only [Act.put, List.setIfInBounds_toArray, List.set_cons_zero, List.set_cons_succ]
        refine take_q (i := 18) (j := 87) (v := .slice A3 n c3) rfl rfl (by as_aux_lemma => kernel_rfl) (by as_aux_lemma => kernel_rfl) (by as_aux_lemma => kernel_rfl) (fun _ _ _ h => h) (Or.inl ⟨by rfl, fun w => by go_simp; try rfl⟩) ?_
        simp only [Act.put, List.setIfInBounds_toArray, List.set_cons_zero, List.set_cons_succ]
        refine wpAny_ready (rs := [17]) (by as_aux_lemma => kernel_rfl) (by simp) (AllReady.cons rfl (fun K hK => ?_) AllReady.nil)
        go_simp
        refine (HC3.out _ X2.out).mono ?_; rintro en wx ⟨Ax, cx, rfl, rx, fx, ex⟩
        have X3 := Lib.hid (X2.out.t ex)
        have RX := Lib.hid (rx.rd evC_len (by decide))
        try go_simp
        refine hK _ _ ?_
        clear hK K
        clear rx fx ex
        refine wpAny_ready (rs := [19]) (by as_aux_lemma => kernel_rfl) (by simp) (AllReady.cons rfl (fun K hK => ?_) AllReady.nil)
        go_simp
        refine (HC4.out _ _ _ X3.out RX.out).mono ?_; rintro en wd ⟨rfl, ed⟩
        have X4 := Lib.hid (X3.out.t ed)
        try go_simp
        refine hK _ _ ?_
        clear hK K
        clear ed
        skip
        refine wpAny_seg false 19 20 1 (by as_aux_lemma => kernel_rfl) ?_
        simp only [List.take_succ_cons, List.take_zero, List.drop_succ_cons, List.drop_zero]
        iterate 19 still_step
        refine wpStill_nil ?_
        refine wpAny_ready (rs := [39]) (by as_aux_lemma => kernel_rfl) (by simp) (AllReady.cons rfl (fun K hK => ?_) AllReady.nil)
        go_simp
        try go_simp
        refine hK _ _ ?_
        clear hK K
        refine wpAny_done (by as_aux_lemma => kernel_rfl) ?_ _
        all_goals go_wp2_with fail
        all_goals go_ret
        all_goals exact ⟨rfl, (E4.out.t EW.out).t X4.out⟩
end Go.Proofs.Ytdjpggnadelnaaa
