/- Rfs: the reference's Sort, Cut, Without, For, Deal, Runs. -/
import Derived.Test.YtkeapijehfacfaaMcq
import Derived.Test.YtkeapijehfacfaaMwl
namespace Go.Fx
open Go.RowKit
/-- What holds ahead of the event k of the reference's Sort. -/
structure SoI (l : List Ev) (k : Nat) (r : List Ev) : Prop where
  srt : Srt r
  perm : r.Perm (l.take k)
section
variable {l r : List Ev} {k : Nat} {x : Ev}
theorem SoI.start : SoI l 0 [] := ⟨List.Pairwise.nil, by simp⟩
theorem SoI.hit (h : SoI l k r) (hx : l[k]? = some x) (hk : hasK r x.k = true) : ¬ Dif l := by
  intro hd
  obtain ⟨y, hy, e⟩ := hasK_iff.1 hk
  have h1 : Dif (l.take (k + 1)) := List.Pairwise.sublist (List.take_sublist _ _) hd
  rw [take_snoc hx] at h1
  exact (List.pairwise_append.1 h1).2.2 y (h.perm.mem_iff.1 hy) x (by simp) e
theorem SoI.put (h : SoI l k r) (hx : l[k]? = some x) (hk : hasK r x.k = false) : SoI l (k + 1) (insE x r) := by
  refine ⟨insE_srt h.srt (fun y hy e => ?_), ?_⟩
  · rw [hasK_iff.2 ⟨y, hy, e⟩] at hk; cases hk
  · rw [take_snoc hx]
    exact (insE_perm x r).trans ((h.perm.cons x).trans (List.perm_append_singleton x _).symm)
theorem SoI.fin (h : SoI l k r) (hk : l.length ≤ k) : sortF l = (r, 0) := by
  have h1 := h.perm
  rw [List.take_of_length_le hk] at h1
  rw [sortF_ok (h.srt.dif.perm h1), isort_unique h.srt h1]
theorem SoI.le (h : SoI l k r) : r.length ≤ l.length := by rw [h.perm.length_eq, List.length_take]; omega
end
theorem filter_snoc {p : Ev → Bool} {l : List Ev} {k : Nat} {x : Ev} (hx : l[k]? = some x) : (l.take (k + 1)).filter p = (l.take k).filter p ++ (if p x = true then [x] else []) := by
  rw [take_snoc hx, List.filter_append]
  by_cases h : p x = true <;> simp [h]
theorem filter_tk {p : Ev → Bool} (l : List Ev) (k : Nat) : ((l.take k).filter p).length ≤ l.length := Nat.le_trans (List.length_filter_le _ _) (by rw [List.length_take]; omega)
theorem cut_filter {t : Int} {l : List Ev} (hs : Srt l) : cutF l t = (l.filter (soonB t), l.filter (fun x => !soonB t x), 0) := by
  have h1 : ∀ x ∈ l.take (cutAt t l), soonB t x = true := fun x hx => by
    have := cut_early t l x hx
    unfold laterB at this
    unfold soonB
    simp only [decide_eq_false_iff_not] at this
    simp only [decide_eq_true_eq]
    omega
  have h2 := cut_late (t := t) hs
  have e1 : l.filter (soonB t) = l.take (cutAt t l) := by
    conv => lhs; rw [← List.take_append_drop (cutAt t l) l]
    rw [List.filter_append, List.filter_eq_self.2 h1, List.filter_eq_nil_iff.2 (fun x hx => by rw [h2 x hx]; simp), List.append_nil]
  have e2 : l.filter (fun x => !soonB t x) = l.drop (cutAt t l) := by
    conv => lhs; rw [← List.take_append_drop (cutAt t l) l]
    rw [List.filter_append, List.filter_eq_nil_iff.2 (fun x hx => by rw [h1 x hx]; simp), List.filter_eq_self.2 (fun x hx => by rw [h2 x hx]; rfl), List.nil_append]
  unfold cutF
  rw [if_pos ((srtB_iff l).2 hs), e1, e2]
theorem dealL_succ (l : List Ev) (j : Nat) : dealL l (j + 1) = dealL l j ++ [forE l ((j : Int) + 1)] := by
  unfold dealL
  rw [List.range_succ, List.map_append]
  rfl
/-- What holds ahead of the event k of the reference's Runs. -/
structure RnR (l : List Ev) (w : World) (k : Nat) (A : Option Addr) (n c : Nat) (W : World) : Prop where
  out : ∃ rs, RoomS 2 W A n c (rs.flatMap pairC) ∧ rs.length = n ∧ n ≤ k ∧ ((k = 0 ∧ rs = []) ∨ ∃ p rs0 f, 0 < k ∧ l[k - 1]? = some p ∧ rs = rs0 ++ [(f, k)] ∧ runsF l = rs0 ++ runsA f k p (l.drop k))
  new : ∀ q, foot A c q → w.heap.size ≤ q
  ext : Ext w W
/-- .. and ahead of its last store. -/
structure RnM (l : List Ev) (w : World) (k : Nat) (x : Ev) (A : Option Addr) (n c : Nat) (W : World) : Prop where
  out : ∃ rs0 f, RoomS 2 W A n c ((rs0 ++ [(f, k)]).flatMap pairC) ∧ rs0.length + 1 = n ∧ n ≤ k + 1 ∧ runsF l = rs0 ++ runsA f (k + 1) x (l.drop (k + 1))
  new : ∀ q, foot A c q → w.heap.size ≤ q
  ext : Ext w W
section
variable {l : List Ev} {w W W' : World} {k n c : Nat} {A A2 : Option Addr} {c2 : Nat} {x p : Ev}
theorem RnR.e (h : RnR l w k A n c W) (e : Ext W W') : RnR l w k A n c W' := by
  obtain ⟨rs, h1, h2⟩ := h.out
  exact ⟨⟨rs, h1.ext e, h2⟩, h.new, h.ext.t e⟩
theorem RnR.go (h : RnR l w k A n c W) (hk : 0 < k) (hp : l[k - 1]? = some p) (hx : l[k]? = some x) (he : elB p x = true) : RnM l w k x A n c W := by
  obtain ⟨rs, h1, h2, h3, h4⟩ := h.out
  rcases h4 with ⟨h0, _⟩ | ⟨p', rs0, f, _, hp', rfl, hr⟩
  · omega
  · obtain rfl : p' = p := by rw [hp'] at hp; exact Option.some.inj hp
    refine ⟨⟨rs0, f, h1, by rw [← h2]; simp, by omega, ?_⟩, h.new, h.ext⟩
    rw [hr, drop_at hx, runsA, if_pos he]
theorem RnR.cut (h : RnR l w k A n c W) (hx : l[k]? = some x) (hc : k = 0 ∨ ∃ p, 0 < k ∧ l[k - 1]? = some p ∧ elB p x = false) : ∃ rs : List (Nat × Nat), RoomS 2 W A n c (rs.flatMap pairC) ∧ n ≤ k ∧ ∀ (X W' : World) (A2 : Option Addr) (c2 : Nat), Ext W X → RoomS 2 W' A2 (n + 1) c2 (rs.flatMap pairC ++ [(k, k)].flatMap pairC) → Chg (foot A c) X W' → (∀ q, foot A2 c2 q → foot A c q ∨ X.heap.size ≤ q) → RnM l w k x A2 (n + 1) c2 W' := by
  obtain ⟨rs, h1, h2, h3, h4⟩ := h.out
  refine ⟨rs, h1, h3, fun X W' A2 c2 eX h5 ch ft => ?_⟩
  have hs := h.ext.size
  have hsX := eX.size
  have hE := h.ext.t eX
  refine ⟨⟨rs, k, by rw [List.flatMap_append]; exact h5, by omega, by omega, ?_⟩, fun q hq => (ft q hq).elim (h.new q) (fun h' => by omega), hE.trans (ch.below hE.size (fun q hq hf => by have := h.new q hf; omega))⟩
  rcases h4 with ⟨rfl, rfl⟩ | ⟨p', rs0, f, hk, hp', rfl, hr⟩
  · have := drop_at hx
    rw [List.drop_zero] at this
    rw [this]; rfl
  · rcases hc with h0 | ⟨p, _, hp, he⟩
    · omega
    · obtain rfl : p' = p := by rw [hp'] at hp; exact Option.some.inj hp
      rw [hr, drop_at hx, runsA, if_neg (by rw [he]; simp), List.append_assoc]; rfl
theorem RnM.fin (h : RnM l w k x A n c W) (hx : l[k]? = some x) : ∃ b o u, A = some ⟨b, o, none⟩ ∧ 0 < n ∧ n ≤ k + 1 ∧ W.cell? ⟨b, o + (n - 1) * 2 + 1, none⟩ = some u ∧ W.frozen? ⟨b, o + (n - 1) * 2 + 1, none⟩ = false ∧ RnR l w (k + 1) A n c (W.setCell ⟨b, o + (n - 1) * 2 + 1, none⟩ (.int .i64 ((k : Int) + 1))) := by
  obtain ⟨rs0, f, h1, h2, h3, h4⟩ := h.out
  have hn : 0 < n := by omega
  obtain ⟨b, o, rfl, _⟩ := h1.some_ (by have := h1.2.1; omega)
  have hi : (n - 1) * 2 + 1 < n * 2 := by omega
  have hl := h1.1
  have hcell := h1.cellAt (k := (n - 1) * 2 + 1) (List.getElem?_eq_getElem (by omega))
  have hfz := h1.frozenAt (k := (n - 1) * 2 + 1) (by have := h1.2.1; omega)
  have hset := h1.set hi (.int .i64 ((k : Int) + 1))
  have he : ((rs0 ++ [(f, k)]).flatMap pairC).set ((n - 1) * 2 + 1) (.int .i64 ((k : Int) + 1)) = (rs0 ++ [(f, k + 1)]).flatMap pairC := by
    rw [List.flatMap_append, List.flatMap_append]
    have hl0 : (rs0.flatMap pairC).length = (n - 1) * 2 := by rw [flat_len pairC_len]; congr 1; omega
    rw [List.set_append_right _ _ (by omega), hl0, Nat.add_sub_cancel_left]
    rfl
  rw [he] at hset
  refine ⟨b, o, _, rfl, hn, h3, hcell, hfz, ⟨⟨_, hset, by simp; omega, h3, .inr ⟨x, rs0, f, by omega, by simpa using hx, rfl, h4⟩⟩, h.new, ?_⟩⟩
  have c1 := Chg.set W b (o + ((n - 1) * 2 + 1)) (.int .i64 ((k : Int) + 1)) (T := foot (some ⟨b, o, none⟩) c) ⟨by have := h1.2.1; omega, o, rfl⟩
  exact h.ext.trans (c1.below h.ext.size (fun q hq hf => by have := h.new q hf; omega))
end
end Go.Fx
namespace Go.Proofs.Ytkeapijehfacfaa
open Go.RowKit Go.Fx
set_option maxRecDepth 100000 in
set_option maxHeartbeats 2000000 in
theorem rsort_ (A : Option Addr) (n c : Nat) (l : List Ev) (w : World) (h : RdS 5 evC w A n l) (hn : n ≤ 100000) :
    Calls Try.prog 54 #[.slice A n c] w (SortP (sortF l) w) := by
  have H := Lib.hid h
  have Hl := Lib.hid h.1
  clear h
  go_enter Try.func54, Try.ntmps54
  go_wp2_with fail
  go_loopw [4, 5] (fun a i wr => ∃ (k : Nat) (Ao : Option Addr) (no co : Nat), k ≤ n ∧ i = .int .i64 (k : Int) ∧ a = .slice Ao no co ∧ Hid (∃ r, WoO w Ao no co r wr ∧ SoI l k r)) (fun _ i _ => n - (intOf i).toNat)
  case atStart => exact ⟨0, none, 0, 0, by omega, rfl, rfl, Lib.hid ⟨[], ⟨RoomS.nil, rfl, fun q hq => absurd hq foot_none, Ext.refl _⟩, SoI.start⟩⟩
  case round =>
    obtain ⟨k, Ao, no, co, hk, rfl, rfl, HJ⟩ := hrel
    obtain ⟨r, hO, hS⟩ := HJ.out
    by_cases hlt : k < n
    · obtain ⟨b, o, x, rfl, _, hx, c0, c1, c2, c3, c4⟩ := (H.out.ext hO.2.2.2).ev hlt
      have hltI : (k : Int) < (n : Int) := by omega
      have hnb : no ≤ 100000 := by have := hS.le; have := hO.2.1; have := Hl.out; omega
      have HH := Lib.hid (rhas_ Ao no co r x.k wr (hO.1.rd evC_len (by decide)) (by omega))
      cases hh : hasK r x.k with
      | true =>
        have HV := Lib.hid (sortF_bad (hS.hit hx hh))
        have HE := Lib.hid hO.2.2.2
        rw [hh] at HH
        unfold kyV Ev.k at HH
        clear hO hS hx hh HJ
        go_wp2_with fail
        refine HH.out.mono ?_; rintro e w2 ⟨rfl, e2⟩
        go_wp2_with fail
        go_ret2
        rw [HV.out]
        exact ⟨none, 0, 0, rfl, RoomS.nil, rfl, fun k hk => absurd hk foot_none, HE.out.t e2⟩
      | false =>
        have HS := Lib.hid (hS.put hx hh)
        have HE := Lib.hid hO.2.2.2
        have HC2 := Lib.hid (fun w2 (e : Ext wr w2) => (H.out.ext (hO.2.2.2.t e)).ev hlt)
        have HP := Lib.hid (fun w2 (e : Ext wr w2) => rput_ Ao no co r x w2 ((hO.1.ext e).rd evC_len (by decide)) hO.1.2.1 (by omega))
        have Hx := Lib.hid hx
        rw [hh] at HH
        unfold kyV Ev.k at HH
        unfold evV at HP
        clear hO hS hx hh HJ
        go_wp2_with fail
        refine HH.out.mono ?_; rintro e w2 ⟨rfl, e2⟩
        obtain ⟨b3, o3, y, e3, _, hy, d0, d1, d2, d3, d4⟩ := HC2.out w2 e2
        cases e3
        obtain rfl : x = y := by rw [Hx.out] at hy; exact Option.some.inj hy
        have HP2 := Lib.hid (HP.out w2 e2)
        have HE2 := Lib.hid (HE.out.t e2)
        clear e2 hy HC2 HP HH c0 c1 c2 c3 c4
        go_wp2_with fail
        refine HP2.out.mono ?_; rintro e w3 ⟨A3, n3, c3, rfl, r3, l3, f3, e3⟩
        have HJ3 : Hid (∃ r, WoO w A3 n3 c3 r w3 ∧ SoI l (k + 1) r) := Lib.hid ⟨_, ⟨r3, l3, fun q hq => Nat.le_trans HE2.out.size (f3 q hq), HE2.out.t e3⟩, HS.out⟩
        clear r3 l3 f3 e3 d0 d1 d2 d3 d4 HP2
        go_wp2_with fail
        go_roundw
        case rel => exact ⟨k + 1, A3, n3, c3, by omega, by go_num, rfl, HJ3⟩
        case measure => simp [intOf]; omega
    · obtain rfl : n = k := by omega
      have HV := Lib.hid (hS.fin (by have := Hl.out; omega))
      have HO := Lib.hid hO
      clear hO hS HJ
      go_wp2_with fail
      go_ret2
      rw [HV.out]
      exact ⟨Ao, no, co, rfl, HO.out.1, HO.out.2.1, HO.out.2.2.1, HO.out.2.2.2⟩
set_option maxRecDepth 100000 in
set_option maxHeartbeats 2000000 in
theorem rfor_ (A : Option Addr) (n c : Nat) (l : List Ev) (t : Int) (w : World) (h : RdS 5 evC w A n l) (hn : n ≤ 1000000) :
    Calls Try.prog 74 #[.slice A n c, .int .i64 t] w (OutP (forE l t) w) := by
  have H := Lib.hid h
  have Hl := Lib.hid h.1
  clear h
  go_enter Try.func74, Try.ntmps74
  go_wp2_with fail
  go_loopw [5, 6] (fun a i wr => ∃ (k : Nat) (Ao : Option Addr) (no co : Nat), k ≤ n ∧ i = .int .i64 (k : Int) ∧ a = .slice Ao no co ∧ Hid (WoO w Ao no co (forE (l.take k) t) wr)) (fun _ i _ => n - (intOf i).toNat)
  case atStart => exact ⟨0, none, 0, 0, by omega, rfl, rfl, Lib.hid ⟨RoomS.nil, rfl, fun q hq => absurd hq foot_none, Ext.refl _⟩⟩
  case round =>
    obtain ⟨k, Ao, no, co, hk, rfl, rfl, HO⟩ := hrel
    by_cases hlt : k < n
    · obtain ⟨b, o, x, rfl, _, hx, c0, c1, c2, c3, c4⟩ := (H.out.ext HO.out.2.2.2).ev hlt
      have hltI : (k : Int) < (n : Int) := by omega
      have hnb : no ≤ 1000000 := by have h1 := filter_tk (p := fun x => decide (x.to = t)) l k; have h2 := HO.out.2.1; have := Hl.out; unfold forE at h2; omega
      have HN := Lib.hid (filter_snoc (p := fun x => decide (x.to = t)) hx)
      by_cases ht : x.to = t
      · have hte : (x.to == t) = true := by simpa using ht
        have HN1 : Hid (forE (l.take (k + 1)) t = forE (l.take k) t ++ [x]) := Lib.hid (by unfold forE; rw [HN.out, if_pos (by simpa using ht)])
        clear hx HN ht
        go_wp2_with (refine wpl_append_atS (by rfl) rfl ul_ev info_ev rfl rfl (HO.out.1.ext (Ext.alloc _ _)) rfl (Src.ofRdS ul_ev evC_len (rdS_one evC_len _ _ x rfl) evC_one) (by simp only [maxLen]; omega) (by omega) ?_)
        intro A3 c3 w3 r3 ch3 ft3
        have HR := Lib.hid (wo_app HO.out (Ext.refl _) r3 ch3 _ ft3 (by first | exact Nat.le_succ _ | simp))
        rw [← HN1.out] at HR
        clear r3 ch3 ft3 HO
        refine Lib.hid ?_
        go_wp2_with fail
        go_roundw
        case rel => exact ⟨k + 1, A3, no + 1, c3, by omega, by go_num, rfl, HR⟩
        case measure => simp [intOf]; omega
      · have hte : (x.to == t) = false := by simpa using ht
        have HR : Hid (WoO w Ao no co (forE (l.take (k + 1)) t) wr) := Lib.hid (by
          have h1 := HN.out
          rw [if_neg (by simpa using ht), List.append_nil] at h1
          unfold forE
          rw [h1]; exact HO.out)
        clear hx HN ht HO
        go_wp2_with fail
        go_roundw
        case rel => exact ⟨k + 1, Ao, no, co, by omega, by go_num, rfl, HR⟩
        case measure => simp [intOf]; omega
    · obtain rfl : n = k := by omega
      have HF : Hid (WoO w Ao no co (forE l t) wr) := Lib.hid (by
        have h1 := HO.out
        rwa [List.take_of_length_le (by have := Hl.out; omega)] at h1)
      clear HO
      go_wp2_with fail
      go_ret
      exact ⟨Ao, no, co, rfl, HF.out.1, HF.out.2.1, HF.out.2.2.1, HF.out.2.2.2⟩
set_option maxRecDepth 100000 in
set_option maxHeartbeats 2000000 in
theorem rcut_ (A : Option Addr) (n c : Nat) (l : List Ev) (t : Int) (w : World) (h : RdS 5 evC w A n l) (hn : n ≤ 1000000) :
    Calls Try.prog 55 #[.slice A n c, .int .i64 t] w (CutP (cutF l t) w) := by
  have H := Lib.hid h
  have Hl := Lib.hid h.1
  have HS := Lib.hid (rsorted_ A n c l w h (by omega))
  clear h
  cases hs : srtB l with
  | false =>
    have HV := Lib.hid (show cutF l t = ([], [], 110) by unfold cutF; rw [if_neg (by rw [hs]; simp)])
    rw [hs] at HS
    clear hs
    go_enter Try.func55, Try.ntmps55
    go_wp2_with fail
    refine HS.out.mono ?_; rintro e w2 ⟨rfl, e2⟩
    go_wp2_with fail
    go_ret3
    rw [HV.out]
    exact ⟨none, 0, 0, none, 0, 0, rfl, RoomS.nil, RoomS.nil, rfl, rfl, fun k hk => absurd hk foot_none, fun k hk => absurd hk foot_none, e2⟩
  | true =>
    have HV := Lib.hid (cut_filter (t := t) ((srtB_iff l).1 hs))
    rw [hs] at HS
    clear hs
    go_enter Try.func55, Try.ntmps55
    go_wp2_with fail
    refine HS.out.mono ?_; rintro e w2 ⟨rfl, e2⟩
    have E2 := Lib.hid e2
    clear e2 HS
    go_wp2_with fail
    go_loopw [7, 8, 9] (fun a b i wr => ∃ (k : Nat) (A1 : Option Addr) (n1 c1 : Nat) (A2 : Option Addr) (n2 c2 : Nat), k ≤ n ∧ i = .int .i64 (k : Int) ∧ a = .slice A1 n1 c1 ∧ b = .slice A2 n2 c2 ∧ Hid (TwoJ w A1 n1 c1 A2 n2 c2 ((l.take k).filter (soonB t)) ((l.take k).filter (fun x => !soonB t x)) wr)) (fun _ _ i _ => n - (intOf i).toNat)
    case atStart => exact ⟨0, none, 0, 0, none, 0, 0, by omega, rfl, rfl, rfl, Lib.hid ⟨RoomS.nil, RoomS.nil, rfl, rfl, fun k hk => absurd hk foot_none, fun k hk => absurd hk foot_none, fun k hk => absurd hk foot_none, E2.out⟩⟩
    case round =>
      clear E2
      obtain ⟨k, A1, n1, c1, A2, n2, c2, hk, rfl, rfl, rfl, HO⟩ := hrel
      by_cases hlt : k < n
      · obtain ⟨b, o, x, rfl, _, hx, c0, c1', c2', c3, c4⟩ := (H.out.ext HO.out.ext).ev hlt
        have hltI : (k : Int) < (n : Int) := by omega
        have hn1 : n1 ≤ 1000000 := by have h1 := filter_tk (p := soonB t) l k; have h2 := HO.out.e1; have := Hl.out; omega
        have hn2 : n2 ≤ 1000000 := by have h1 := filter_tk (p := fun x => !soonB t x) l k; have h2 := HO.out.e2; have := Hl.out; omega
        have HN := Lib.hid (filter_snoc (p := soonB t) hx)
        have HN' := Lib.hid (filter_snoc (p := fun x => !soonB t x) hx)
        by_cases ht : x.t < t
        · have hst : soonB t x = true := by unfold soonB; simpa using ht
          have HN1 : Hid ((l.take (k + 1)).filter (soonB t) = (l.take k).filter (soonB t) ++ [x]) := Lib.hid (by rw [HN.out, if_pos hst])
          have HN2 : Hid ((l.take (k + 1)).filter (fun x => !soonB t x) = (l.take k).filter (fun x => !soonB t x)) := Lib.hid (by rw [HN'.out, if_neg (by rw [hst]; simp), List.append_nil])
          clear hx HN HN' hst
          go_wp2_with (refine wpl_append_atS (by rfl) rfl ul_ev info_ev rfl rfl (HO.out.r1.ext (Ext.alloc _ _)) rfl (Src.ofRdS ul_ev evC_len (rdS_one evC_len _ _ x rfl) evC_one) (by simp only [maxLen]; omega) (by omega) ?_)
          intro A3 c3' w3 r3 ch3 ft3
          have HR := Lib.hid (TwoJ.app (HO.out.e (Ext.alloc _ _)) r3 ch3 _ ft3 (by first | exact Nat.le_refl _ | simp))
          rw [← HN1.out, ← HN2.out] at HR
          clear r3 ch3 ft3 HO
          refine Lib.hid ?_
          go_wp2_with fail
          go_roundw
          case rel => exact ⟨k + 1, A3, n1 + 1, c3', A2, n2, c2, by omega, by go_num, rfl, rfl, HR⟩
          case measure => simp [intOf]; omega
        · have hst : soonB t x = false := by unfold soonB; simpa using ht
          have HN1 : Hid ((l.take (k + 1)).filter (soonB t) = (l.take k).filter (soonB t)) := Lib.hid (by rw [HN.out, if_neg (by rw [hst]; simp), List.append_nil])
          have HN2 : Hid ((l.take (k + 1)).filter (fun x => !soonB t x) = (l.take k).filter (fun x => !soonB t x) ++ [x]) := Lib.hid (by rw [HN'.out, if_pos (by rw [hst]; rfl)])
          clear hx HN HN' hst
          go_wp2_with (refine wpl_append_atS (by rfl) rfl ul_ev info_ev rfl rfl (HO.out.r2.ext (Ext.alloc _ _)) rfl (Src.ofRdS ul_ev evC_len (rdS_one evC_len _ _ x rfl) evC_one) (by simp only [maxLen]; omega) (by omega) ?_)
          intro A3 c3' w3 r3 ch3 ft3
          have HR := Lib.hid ((TwoJ.app (HO.out.e (Ext.alloc _ _)).swap r3 ch3 _ ft3 (by first | exact Nat.le_refl _ | simp)).swap)
          rw [← HN1.out, ← HN2.out] at HR
          clear r3 ch3 ft3 HO
          refine Lib.hid ?_
          go_wp2_with fail
          go_roundw
          case rel => exact ⟨k + 1, A1, n1, c1, A3, n2 + 1, c3', by omega, by go_num, rfl, rfl, HR⟩
          case measure => simp [intOf]; omega
      · obtain rfl : n = k := by omega
        have HF : Hid (TwoJ w A1 n1 c1 A2 n2 c2 (l.filter (soonB t)) (l.filter (fun x => !soonB t x)) wr) := Lib.hid (by
          have h1 := HO.out
          rwa [List.take_of_length_le (by have := Hl.out; omega)] at h1)
        clear HO
        go_wp2_with fail
        go_ret3
        rw [HV.out]
        exact ⟨A1, n1, c1, A2, n2, c2, rfl, HF.out.r1, HF.out.r2, HF.out.e1, HF.out.e2, fun k hk => ⟨HF.out.f1 k hk, HF.out.dis k hk⟩, HF.out.f2, HF.out.ext⟩
end Go.Proofs.Ytkeapijehfacfaa
