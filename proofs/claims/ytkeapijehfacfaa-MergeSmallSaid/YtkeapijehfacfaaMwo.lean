/- Mwo: Without. -/
import Derived.Test.YtkeapijehfacfaaMdl
namespace Go.Fx
open Go.RowKit
def hasK (l : List Ev) (k : Ky) : Bool := l.any (fun y => decide (y.k = k))
def leftF (a b : List Ev) : List Ev := a.filter (fun x => !hasK b x.k)
/-- What Without tells. -/
def woF (a b : List Ev) : List Ev × Nat := if srtB a = true ∧ srtB b = true then (leftF a b, 0) else ([], 110)
theorem hasK_iff {l : List Ev} {k : Ky} : hasK l k = true ↔ ∃ y ∈ l, y.k = k := by simp [hasK]
theorem hasK_hit {l : List Ev} {m : Nat} {y x : Ev} (hy : l[m]? = some y) (h : y.k = x.k) : hasK l x.k = true := hasK_iff.2 ⟨y, List.mem_of_getElem? hy, h⟩
theorem hasK_miss {l : List Ev} {m : Nat} {x : Ev} (hs : Srt l) (hb : ∀ y ∈ l.take m, elB y x = true) (hm : ∀ y, l[m]? = some y → elB x y = true) : hasK l x.k = false := by
  cases h : hasK l x.k with
  | false => rfl
  | true =>
    obtain ⟨y, hy, hk⟩ := hasK_iff.1 h
    obtain ⟨i, hi, rfl⟩ := List.getElem_of_mem hy
    have hne : ∀ z : Ev, elB z x = true ∨ elB x z = true → z.k ≠ x.k := by
      rintro z (h | h) e
      · exact kl_ne h e
      · exact kl_ne h e.symm
    refine absurd hk (hne _ ?_)
    rcases Nat.lt_trichotomy i m with hlt | heq | hgt
    · exact .inl (hb _ (List.mem_take_iff_getElem.2 ⟨i, by omega, rfl⟩))
    · subst heq; exact .inr (hm _ (List.getElem?_eq_getElem hi))
    · have h1 := hm l[m] (List.getElem?_eq_getElem (by omega))
      exact .inr (el_tr h1 ((List.pairwise_iff_getElem.1 hs) m i (by omega) hi hgt))
theorem leftF_snoc {a b : List Ev} {k : Nat} {x : Ev} (hx : a[k]? = some x) : leftF (a.take (k + 1)) b = leftF (a.take k) b ++ (if hasK b x.k then [] else [x]) := by
  unfold leftF
  rw [take_snoc hx, List.filter_append]
  cases h : hasK b x.k <;> simp [h]
theorem leftF_len (a b : List Ev) : (leftF a b).length ≤ a.length := List.length_filter_le _ _
/-- What lies before stays before: the events come in order. -/
theorem behind_all {a b : List Ev} {k m : Nat} {x : Ev} (hs : Srt a) (hx : a[k]? = some x) (h : ∀ y ∈ b.take m, elB y x = true) : ∀ y ∈ b.take m, ∀ z ∈ a.drop (k + 1), elB y z = true := by
  intro y hy z hz
  obtain ⟨i, hi, rfl⟩ := List.getElem_of_mem hz
  rw [List.getElem_drop]
  obtain ⟨hk, e⟩ := List.getElem?_eq_some_iff.1 hx
  rw [List.length_drop] at hi
  have h1 := (List.pairwise_iff_getElem.1 hs) k (k + 1 + i) hk (by omega) (by omega)
  rw [e] at h1
  exact el_tr (h y hy) h1
end Go.Fx
namespace Go.Proofs.Ytkeapijehfacfaa
open Go.RowKit Go.Fx
/-- What has been kept so far. -/
def WoO (w : World) (A : Option Addr) (n c : Nat) (l : List Ev) (W : World) : Prop := RoomS 5 W A n c (l.flatMap evC) ∧ l.length = n ∧ (∀ q, foot A c q → w.heap.size ≤ q) ∧ Ext w W
theorem WoO.e {w W W' : World} {A : Option Addr} {n c : Nat} {l : List Ev} (h : WoO w A n c l W) (e : Ext W W') : WoO w A n c l W' := ⟨h.1.ext e, h.2.1, h.2.2.1, h.2.2.2.t e⟩
theorem wo_app {w W W1 w3 : World} {A A3 : Option Addr} {n c c3 : Nat} {l : List Ev} {x : Ev} {o : Obj} (h : WoO w A n c l W) (e : Ext W W1) (r : RoomS 5 w3 A3 (n + 1) c3 (l.flatMap evC ++ [x].flatMap evC)) (ch : Chg (foot A c) (W1.alloc o) w3) (S : Nat) (ft : ∀ k, foot A3 c3 k → foot A c k ∨ S ≤ k) (hS : W1.heap.size ≤ S) : WoO w A3 (n + 1) c3 (l ++ [x]) w3 := by
  have h1 := h.2.2.2.t (e.t (Ext.alloc W1 o))
  exact ⟨by rw [List.flatMap_append]; exact r, by simp [h.2.1], fun q hq => (ft q hq).elim (h.2.2.1 q) (fun h' => Nat.le_trans (Nat.le_trans (h.2.2.2.t e).size hS) h'), h1.trans (ch.below h1.size (fun q hq hf => by have := h.2.2.1 q hf; omega))⟩
set_option maxRecDepth 100000 in
set_option maxHeartbeats 2000000 in
theorem without_ (Aa Ab : Option Addr) (na ca nb cb : Nat) (la lb : List Ev) (w : World) (ha : RdS 5 evC w Aa na la) (hb : RdS 5 evC w Ab nb lb) (hna : na ≤ 1000000) (hnb : nb ≤ 1000000) (hcb : nb ≤ cb) :
    Calls Try.prog 24 #[.slice Aa na ca, .slice Ab nb cb] w (SortP (woF la lb) w) := by
  have HSa := Lib.hid (sorted_ Aa na ca la w ha (by omega))
  have HSb := Lib.hid (fun w' (e : Ext w w') => sorted_ Ab nb cb lb w' (hb.ext e) (by omega))
  have H := Lib.hid ha
  have Hb := Lib.hid hb
  have Hla := Lib.hid ha.1
  have Hlb := Lib.hid hb.1
  clear ha hb
  cases hsa : srtB la with
  | false =>
    rw [hsa] at HSa
    have HV := Lib.hid (show woF la lb = ([], 110) by unfold woF; rw [hsa]; rfl)
    clear hsa
    go_enter Try.func24, Try.ntmps24
    go_wp2_with fail
    go_step3
    go_wp2_with fail
    refine HSa.out.mono ?_; rintro e w2 ⟨rfl, e2⟩
    go_wp2_with fail
    go_ret2
    rw [HV.out]
    exact ⟨none, 0, 0, rfl, RoomS.nil, rfl, fun k hk => absurd hk foot_none, e2⟩
  | true =>
    cases hsb : srtB lb with
    | false =>
      rw [hsa] at HSa
      rw [hsb] at HSb
      have HV := Lib.hid (show woF la lb = ([], 110) by unfold woF; rw [hsb, if_neg (by simp)])
      clear hsa hsb
      go_enter Try.func24, Try.ntmps24
      go_wp2_with fail
      go_step3
      go_wp2_with fail
      refine HSa.out.mono ?_; rintro e w2 ⟨rfl, e2⟩
      go_wp2_with fail
      refine (HSb.out _ e2).mono ?_; rintro e w3 ⟨rfl, e3⟩
      have E3 := Lib.hid (e2.t e3)
      clear e2 e3
      go_wp2_with fail
      go_ret2
      rw [HV.out]
      exact ⟨none, 0, 0, rfl, RoomS.nil, rfl, fun k hk => absurd hk foot_none, E3.out⟩
    | true =>
      have HA := Lib.hid ((srtB_iff la).1 hsa)
      have HB := Lib.hid ((srtB_iff lb).1 hsb)
      have HV := Lib.hid (show woF la lb = (leftF la lb, 0) by unfold woF; rw [if_pos ⟨hsa, hsb⟩])
      rw [hsa] at HSa
      rw [hsb] at HSb
      clear hsa hsb
      go_enter Try.func24, Try.ntmps24
      go_wp2_with fail
      go_step3
      go_wp2_with fail
      refine HSa.out.mono ?_; rintro e w2 ⟨rfl, e2⟩
      go_wp2_with fail
      refine (HSb.out _ e2).mono ?_; rintro e w3 ⟨rfl, e3⟩
      have E3 := Lib.hid (e2.t e3)
      clear e2 e3 HSa HSb
      go_wp2_with fail
      go_step3
      go_wp2_with fail
      go_loopw [1, 6, 19] (fun bv ov i wr => ∃ (k m no co N C : Nat) (Ao B' : Option Addr), k ≤ na ∧ i = .int .i64 (k : Int) ∧ ov = .slice Ao no co ∧ bv = .slice B' N C ∧ Hid (N = nb - m ∧ N ≤ C ∧ RdS 5 evC w B' N (lb.drop m) ∧ (∀ y ∈ lb.take m, ∀ z ∈ la.drop k, elB y z = true)) ∧ Hid (WoO w Ao no co (leftF (la.take k) lb) wr)) (fun _ _ i _ => na - (intOf i).toNat)
      case atStart => exact ⟨0, 0, 0, 0, nb, cb, none, Ab, by omega, rfl, rfl, rfl, Lib.hid ⟨rfl, hcb, Hb.out, by simp⟩, Lib.hid ⟨RoomS.nil, by simp [leftF], fun q hq => absurd hq foot_none, E3.out⟩⟩
      case round =>
        obtain ⟨k, m0, no, co, N0, C0, Ao, B0, hk, rfl, rfl, rfl, HB0, HO⟩ := hrel
        by_cases hlt : k < na
        · obtain ⟨b, o, x, rfl, _, hx, c0, c1, c2, c3, c4⟩ := (H.out.ext HO.out.2.2.2).ev hlt
          have hltI : (k : Int) < (na : Int) := by omega
          have Hx := Lib.hid hx
          have hno : no ≤ 1000000 := by have h1 := HO.out.2.1; have h2 := leftF_len (la.take k) lb; rw [List.length_take] at h2; omega
          have hb8 := Blk.new wr 37 (evC x).toArray
          obtain ⟨w8, hw8⟩ : ∃ w8, w8 = wr.alloc (.cells (evC x).toArray 37) := ⟨_, rfl⟩
          have HW8 := Lib.hid hw8
          have HE8 := Lib.hid (show Ext wr w8 by rw [hw8]; exact Ext.alloc _ _)
          obtain ⟨g8, hg8⟩ : ∃ g8, g8 = wr.heap.size := ⟨_, rfl⟩
          have HG8 := Lib.hid hg8
          have Hb8 : Hid (Blk w8 g8 37 (evC x).toArray) := Lib.hid (by rw [hw8, hg8]; exact hb8)
          have HI0 : Hid (N0 = nb - m0 ∧ N0 ≤ C0 ∧ RdS 5 evC w B0 N0 (lb.drop m0) ∧ (∀ y ∈ lb.take m0, elB y x = true)) := Lib.hid ⟨HB0.out.1, HB0.out.2.1, HB0.out.2.2.1, fun y hy => HB0.out.2.2.2 y hy x (by rw [drop_at hx]; simp)⟩
          clear hx hw8 hg8 hb8 HB0
          go_wp2_with fail
          change Code.wp _ _ _ _ (wr.alloc (.cells (evC x).toArray 37))
          rw [← HW8.out, ← HG8.out]
          clear c0 c1 c2 c3 c4 HW8 HG8
          obtain ⟨w0, rfl⟩ : ∃ w0, w0 = wr := ⟨_, rfl⟩
          go_loopw [1] (fun bv wx => ∃ (m N C : Nat) (B' : Option Addr), bv = .slice B' N C ∧ Hid (N = nb - m ∧ N ≤ C ∧ RdS 5 evC w B' N (lb.drop m) ∧ (∀ y ∈ lb.take m, elB y x = true)) ∧ Hid (Ext w8 wx)) (fun bv _ => match bv with | .slice _ n _ => n | _ => 0)
          case atStart => exact ⟨m0, N0, C0, B0, rfl, HI0, Lib.hid (Ext.refl _)⟩
          case round =>
            clear HI0
            obtain ⟨m, N, C, B', rfl, HB1, HX8⟩ := hrel
            have HX := Lib.hid (HE8.out.t HX8.out)
            rcases Nat.eq_zero_or_pos N with rfl | hN
            · have hg : decide (((0 : Nat) : Int) > 0) = false := by decide
              have HMiss := Lib.hid (hasK_miss HB.out HB1.out.2.2.2 (fun y hy => by have h1 := (List.getElem?_eq_some_iff.1 hy).1; have h2 := HB1.out.1; have h3 := Hlb.out; omega))
              have HBeh := Lib.hid (behind_all HA.out Hx.out HB1.out.2.2.2)
              obtain ⟨d0, d1, d2, d3, d4⟩ := (Hb8.out.ext HX8.out).ev
              go_wp2_with fail
              go_quiet (fail)
              go_wp2_with fail
              go_quiet (fail)
              have HN := Lib.hid (show leftF (la.take (k + 1)) lb = leftF (la.take k) lb ++ [x] by rw [leftF_snoc Hx.out, HMiss.out]; rfl)
              go_wp2_with (refine wpl_append_atS (by rfl) rfl ul_ev info_ev rfl rfl (HO.out.1.ext ((HX.out.t (by first | exact Ext.refl _ | exact Ext.drewN _ _ | exact (Ext.drewN _ _).t (Ext.drewN _ _))).t (Ext.alloc _ _))) rfl (Src.ofRdS ul_ev evC_len (rdS_one evC_len _ _ x rfl) evC_one) (by simp only [maxLen]; omega) (by omega) ?_)
              intro A3 c3 w3 r3 ch3 ft3
              have HR := Lib.hid (wo_app HO.out (HX.out.t (by first | exact Ext.refl _ | exact Ext.drewN _ _ | exact (Ext.drewN _ _).t (Ext.drewN _ _))) r3 ch3 _ ft3 (by first | exact Nat.le_succ _ | simp))
              rw [← HN.out] at HR
              clear r3 ch3 ft3
              refine Lib.hid ?_
              go_wp2_with fail
              go_roundw
              case rel => exact ⟨k + 1, m, no + 1, c3, 0, C, A3, B', by omega, by go_num, rfl, rfl, Lib.hid ⟨HB1.out.1, HB1.out.2.1, HB1.out.2.2.1, HBeh.out⟩, HR⟩
              case measure => simp [intOf]; omega
            · obtain ⟨b', o', y, l', rfl, _, hdm, d0, d1, d2, d3, d4⟩ := RdS_first (HB1.out.2.2.1.ext (HO.out.2.2.2.t HX.out)) hN
              have hy : lb[m]? = some y := by
                have : (lb.drop m)[0]? = some y := by rw [hdm]; rfl
                rwa [List.getElem?_drop, Nat.add_zero] at this
              have Hy := Lib.hid hy
              have HBf := Lib.hid (fun w' => before_ y x w')
              unfold evV at HBf
              obtain ⟨z0, z1, z2, z3, z4⟩ := (Hb8.out.ext HX8.out).ev
              have hNI : (0 : Int) < (N : Int) := by omega
              clear hdm hy
              go_wp2_with fail
              go_still_tail 8, (by kernel_rfl)
              change wpList _ _ _ _ _ wr.drew
              have HXd := Lib.hid (Ext.drew wr)
              generalize wr.drew = w4 at *
              go_wp2_with fail
              refine (HBf.out _).mono ?_; rintro e w5 ⟨rfl, e5⟩
              have HX5 := Lib.hid (HXd.out.t e5)
              clear e5 HBf HXd d0 d1 d2 d3 d4 z0 z1 z2 z3 z4
              cases hz : elB y x with
              | true =>
                have Hz := Lib.hid hz
                have hsl := fun w' => ev_from (A := some ⟨b', o', none⟩) (n := N) (c := C) (k := 1) (li := 1) w' rfl (by omega)
                have HB2 : Hid (N - 1 = nb - (m + 1) ∧ N - 1 ≤ C - 1 ∧ RdS 5 evC w (fromS 5 (some ⟨b', o', none⟩) C 1) (N - 1) (lb.drop (m + 1)) ∧ (∀ y ∈ lb.take (m + 1), elB y x = true)) := by
                  have h2 := HB1.out.2.2.1.from_ (k := 1) (c := C) (by omega) HB1.out.2.1
                  rw [List.drop_drop] at h2
                  exact Lib.hid ⟨by have := HB1.out.1; omega, by have := HB1.out.2.1; omega, h2, fun y' hy' => (mem_take_snoc Hy.out hy').elim (HB1.out.2.2.2 y') (fun e => by rw [e]; exact Hz.out)⟩
                have hlt' : N - 1 < N := by omega
                generalize fromS 5 (some ⟨b', o', none⟩) C 1 = fA at *
                generalize N - 1 = N1 at *
                generalize C - 1 = C1 at *
                clear hz
                go_wp2_with fail
                go_roundw
                case rel => exact ⟨m + 1, N1, C1, fA, rfl, HB2, Lib.hid (HX8.out.t HX5.out)⟩
                case measure => exact hlt'
              | false =>
                have Hz := Lib.hid hz
                have HBeh := Lib.hid (behind_all HA.out Hx.out HB1.out.2.2.2)
                obtain ⟨d0, d1, d2, d3, d4⟩ := (Hb8.out.ext (HX8.out.t HX5.out)).ev
                have HX := Lib.hid (HX.out.t HX5.out)
                obtain ⟨b2, o2, y2, l2, e2, _, hd2, z0, z1, z2, z3, z4⟩ := RdS_first (HB1.out.2.2.1.ext (HO.out.2.2.2.t HX.out)) hN
                cases e2
                obtain rfl : y2 = y := by
                  have : (lb.drop m)[0]? = some y2 := by rw [hd2]; rfl
                  rw [List.getElem?_drop, Nat.add_zero, Hy.out] at this
                  exact (Option.some.inj this).symm
                have heq := fun w' => eql_ky w' y2.k x.k
                have hgu := fun w' op a b xs ys => guard_ky w' op a b xs ys
                clear hz hd2
                by_cases hk2 : y2.k = x.k
                · have HMiss := Lib.hid (hasK_hit Hy.out hk2)
                  rw [show decide (y2.k = x.k) = true from decide_eq_true hk2] at heq
                  unfold kyV Ev.k at heq
                  clear hk2
                  go_wp2_with fail
                  go_quiet (fail)
                  go_wp2_with fail
                  go_roundw
                  case rel => exact ⟨k + 1, m, no, co, N, C, Ao, some ⟨b', o', none⟩, by omega, by go_num, rfl, rfl, Lib.hid ⟨HB1.out.1, HB1.out.2.1, HB1.out.2.2.1, HBeh.out⟩, Lib.hid (by rw [leftF_snoc Hx.out, HMiss.out]; simp only [if_true, List.append_nil]; exact HO.out.e (HX.out.t (by first | exact Ext.refl _ | exact Ext.drewN _ _ | exact (Ext.drewN _ _).t (Ext.drewN _ _))))⟩
                  case measure => simp [intOf]; omega
                · have HMiss := Lib.hid (hasK_miss HB.out HB1.out.2.2.2 (fun y' hy' => by
                    rw [Hy.out] at hy'
                    cases hy'
                    rcases el_tri y2 x with h | h | h
                    · rw [Hz.out] at h; cases h
                    · exact absurd h hk2
                    · exact h))
                  rw [show decide (y2.k = x.k) = false from decide_eq_false hk2] at heq
                  unfold kyV Ev.k at heq
                  clear hk2
                  go_wp2_with fail
                  go_quiet (fail)
                  have HN := Lib.hid (show leftF (la.take (k + 1)) lb = leftF (la.take k) lb ++ [x] by rw [leftF_snoc Hx.out, HMiss.out]; rfl)
                  go_wp2_with (refine wpl_append_atS (by rfl) rfl ul_ev info_ev rfl rfl (HO.out.1.ext ((HX.out.t (by first | exact Ext.refl _ | exact Ext.drewN _ _ | exact (Ext.drewN _ _).t (Ext.drewN _ _))).t (Ext.alloc _ _))) rfl (Src.ofRdS ul_ev evC_len (rdS_one evC_len _ _ x rfl) evC_one) (by simp only [maxLen]; omega) (by omega) ?_)
                  intro A3 c3 w3 r3 ch3 ft3
                  have HR := Lib.hid (wo_app HO.out (HX.out.t (by first | exact Ext.refl _ | exact Ext.drewN _ _ | exact (Ext.drewN _ _).t (Ext.drewN _ _))) r3 ch3 _ ft3 (by first | exact Nat.le_succ _ | simp))
                  rw [← HN.out] at HR
                  clear r3 ch3 ft3
                  refine Lib.hid ?_
                  go_wp2_with fail
                  go_roundw
                  case rel => exact ⟨k + 1, m, no + 1, c3, N, C, A3, some ⟨b', o', none⟩, by omega, by go_num, rfl, rfl, Lib.hid ⟨HB1.out.1, HB1.out.2.1, HB1.out.2.2.1, HBeh.out⟩, HR⟩
                  case measure => simp [intOf]; omega
        · obtain rfl : na = k := by omega
          have HL := Lib.hid HO.out
          rw [List.take_of_length_le (by have := Hla.out; omega)] at HL
          clear HO
          go_wp2_with fail
          try rw [Exit.noGoto_ret]
          go_ret2
          rw [HV.out]
          exact ⟨Ao, no, co, rfl, HL.out.1, HL.out.2.1, HL.out.2.2.1, HL.out.2.2.2⟩
end Go.Proofs.Ytkeapijehfacfaa
