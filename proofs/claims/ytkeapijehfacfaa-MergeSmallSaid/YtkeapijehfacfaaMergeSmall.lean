/- MergeSmall: the walk of the law: it answers true and leaves all memory as it was (a closed statement). -/
import Derived.Test.YtkeapijehfacfaaMpt
import Derived.Test.YtkeapijehfacfaaMaw
namespace Go.Proofs.Ytkeapijehfacfaa
open Go.RowKit Go.Fx
/-- The events of the pool. -/
def poolE : List Ev := [⟨0, 0, 0, 1, 0⟩, ⟨1, 0, 1, 1, 0⟩, ⟨1, 1, 0, 1, 0⟩, ⟨1, 1, 0, 2, 0⟩, ⟨2, 0, 0, 16, 0⟩]
theorem poolE_ok : ∀ x ∈ poolE, EvOk x := by
  intro x hx
  simp only [poolE, List.mem_cons, List.not_mem_nil, or_false] at hx
  rcases hx with rfl | rfl | rfl | rfl | rfl <;> exact ⟨by decide, by decide, by decide, by decide, by decide, by decide, by decide, by decide, by decide, by decide⟩
/-- Lists of few events of the pool. -/
def FewL (ls : List (List Ev)) : Prop := ∀ l ∈ ls, l.length ≤ 3 ∧ ∀ x ∈ l, EvOk x
theorem FewL.snoc {ls : List (List Ev)} {l : List Ev} (h : FewL ls) (h1 : l.length ≤ 3) (h2 : ∀ x ∈ l, EvOk x) : FewL (ls ++ [l]) := by
  intro l' hl
  rcases List.mem_append.1 hl with h' | h'
  · exact h l' h'
  · obtain rfl : l' = l := by simpa using h'
    exact ⟨h1, h2⟩
theorem blk_rd4 {w : World} {g : Nat} {t : TypeId} {s1 s2 s3 s4 : Sl} (hb : Blk w g t #[slv s1, slv s2, slv s3, slv s4]) : Rd slv w (some ⟨g, 0, none⟩) 4 [s1, s2, s3, s4] :=
  ⟨rfl, fun _ => ⟨g, 0, rfl, hb.lt, fun i x hx => by
    match i, hx with
    | 0, hx => cases hx; rw [hb.cell]; rfl
    | 1, hx => cases hx; rw [hb.cell]; rfl
    | 2, hx => cases hx; rw [hb.cell]; rfl
    | 3, hx => cases hx; rw [hb.cell]; rfl
    | i + 4, hx => simp at hx⟩⟩
/-- merges([]{a, b}). -/
theorem small2 {s1 s2 : Sl} {l1 l2 : List Ev} {t : TypeId} {w : World} (h1 : RdS 5 evC w s1.A s1.n l1) (h2 : RdS 5 evC w s2.A s2.n l2) (c1 : s1.n ≤ s1.c) (c2 : s2.n ≤ s2.c) (o1 : l1.length ≤ 3 ∧ ∀ x ∈ l1, EvOk x) (o2 : l2.length ≤ 3 ∧ ∀ x ∈ l2, EvOk x) :
    Calls Try.prog 22 #[.slice (some ⟨w.heap.size, 0, none⟩) 2 2] (w.alloc (.cells #[slv s1, slv s2] t)) fun e w' => e = .returned (.bool true) ∧ Ext w w' := by
  refine (merges_ _ 2 2 [s1, s2] [l1, l2] _ (blk_rd2 (Blk.new w t _)) (els2 (h1.ext (Ext.alloc _ _)) (h2.ext (Ext.alloc _ _)) c1 c2) (fun l hl => ?_) (by omega) (fun l hl => ?_)).mono ?_
  · simp only [List.mem_cons, List.not_mem_nil, or_false] at hl
    rcases hl with rfl | rfl
    · exact o1.2
    · exact o2.2
  · simp only [List.mem_cons, List.not_mem_nil, or_false] at hl
    rcases hl with rfl | rfl
    · have := o1.1; omega
    · have := o2.1; omega
  · rintro e w' ⟨rfl, he⟩
    exact ⟨rfl, (Ext.alloc _ _).t he⟩
/-- merges([]{nil, a, c, b}). -/
theorem small4 {s1 s2 s3 : Sl} {l1 l2 l3 : List Ev} {t : TypeId} {w : World} (h1 : RdS 5 evC w s1.A s1.n l1) (h2 : RdS 5 evC w s2.A s2.n l2) (h3 : RdS 5 evC w s3.A s3.n l3) (c1 : s1.n ≤ s1.c) (c2 : s2.n ≤ s2.c) (c3 : s3.n ≤ s3.c) (o1 : l1.length ≤ 3 ∧ ∀ x ∈ l1, EvOk x) (o2 : l2.length ≤ 3 ∧ ∀ x ∈ l2, EvOk x) (o3 : l3.length ≤ 3 ∧ ∀ x ∈ l3, EvOk x) :
    Calls Try.prog 22 #[.slice (some ⟨w.heap.size, 0, none⟩) 4 4] (w.alloc (.cells #[.slice none 0 0, slv s1, slv s2, slv s3] t)) fun e w' => e = .returned (.bool true) ∧ Ext w w' := by
  have e0 := Ext.alloc w (.cells #[.slice none 0 0, slv s1, slv s2, slv s3] t)
  refine (merges_ _ 4 4 [⟨none, 0, 0⟩, s1, s2, s3] [[], l1, l2, l3] _ (blk_rd4 (Blk.new w t _)) ((((Els.nil.snoc (s := ⟨none, 0, 0⟩) (Nat.le_refl _) RdS.none_).snoc c1 (h1.ext e0)).snoc c2 (h2.ext e0)).snoc c3 (h3.ext e0)) (fun l hl => ?_) (by omega) (fun l hl => ?_)).mono ?_
  · simp only [List.mem_cons, List.not_mem_nil, or_false] at hl
    rcases hl with rfl | rfl | rfl | rfl
    · simp
    · exact o1.2
    · exact o2.2
    · exact o3.2
  · simp only [List.mem_cons, List.not_mem_nil, or_false] at hl
    rcases hl with rfl | rfl | rfl | rfl
    · simp
    · have := o1.1; omega
    · have := o2.1; omega
    · have := o3.1; omega
  · rintro e w' ⟨rfl, he⟩
    exact ⟨rfl, e0.t he⟩
set_option maxRecDepth 100000 in
set_option maxHeartbeats 4000000 in
theorem walkMergeSmall (w : World) : Calls Try.prog 9 #[] w fun e w' => e = .returned (.bool true) ∧ Ext w w' := by
  go_enter Try.func9, Try.ntmps9
  go_wp2_with (first | (go_at_call 30; refine (at_ag _ _ _ _).mono ?_; rintro e w' ⟨rfl, rfl⟩) | (refine wpl_buildS evC_len (by decide) (by rfl) rfl ul_ev info_ev [.tmp 15, .tmp 16, .tmp 17, .tmp 18, .tmp 19] (by rfl) (by rfl) (by decide) [⟨0, 0, 0, 1, 0⟩, ⟨1, 0, 1, 1, 0⟩, ⟨1, 1, 0, 1, 0⟩, ⟨1, 1, 0, 1, 0⟩, ⟨2, 0, 0, 1, 0⟩] (by rfl) ?_))
  intro gp w1 b1 e1 lo1 r1; refine Lib.hid ?_
  have ex := (((((Ext.alloc _ _).t (Ext.alloc _ _)).t (Ext.alloc _ _)).t (Ext.alloc _ _)).t (Ext.alloc _ _)).t e1
  have HE := Lib.hid (show Ext w w1 from ex)
  have HG := Lib.hid (show w.heap.size ≤ gp by omega)
  have c18 : w1.cell? ⟨gp, 18, none⟩ = some (.int .i64 1) := by rw [b1.cell]; rfl
  have c23 : w1.cell? ⟨gp, 23, none⟩ = some (.int .i64 1) := by rw [b1.cell]; rfl
  have z18 := b1.frozen 18
  have z23 := b1.frozen 23
  have HB := Lib.hid b1
  clear ex e1 lo1 r1 b1
  go_upto_region 3 with fail
  have hb2 : Blk ((w1.setCell ⟨gp, 18, none⟩ (.int .i64 2)).setCell ⟨gp, 23, none⟩ (.int .i64 16)) gp 37 (poolE.flatMap evC).toArray := (HB.out.set_ 18 (.int .i64 2)).set_ 23 (.int .i64 16)
  have HP := Lib.hid (rdS_blk (n := 5) (l := poolE) hb2 rfl rfl (by omega))
  have HE2 := Lib.hid (show Ext w ((w1.setCell ⟨gp, 18, none⟩ (.int .i64 2)).setCell ⟨gp, 23, none⟩ (.int .i64 16)) from HE.out.trans (((Chg.set w1 gp 18 (.int .i64 2) (T := fun k => k = gp) rfl).t (Chg.set _ gp 23 (.int .i64 16) (T := fun k => k = gp) rfl)).below HE.out.size (fun k hk e => by have := HG.out; omega)))
  generalize (w1.setCell ⟨gp, 18, none⟩ (.int .i64 2)).setCell ⟨gp, 23, none⟩ (.int .i64 16) = W2 at *
  clear HB HE HG c18 c23 z18 z23 hb2
  go_wp2_with fail
  go_loopw [2, 27] (fun a i wr => ∃ (k : Nat) (Ao : Option Addr) (co : Nat) (ts : List Sl) (ls : List (List Ev)), k ≤ 216 ∧ i = .int .i64 (k : Int) ∧ a = .slice Ao k co ∧ Hid (Lse W2.heap.size wr Ao k co ts ls ∧ FewL ls ∧ Ext W2 wr)) (fun _ i _ => 216 - (intOf i).toNat)
  case atStart => exact ⟨0, none, 0, [], [], by omega, rfl, rfl, Lib.hid ⟨Lse.nil, fun l hl => by simp at hl, Ext.refl _⟩⟩
  case round =>
    obtain ⟨k, Ao, co, ts, ls, hk, rfl, rfl, HJ⟩ := hrel
    by_cases hlt : k < 216
    · have hltI : (k : Int) < 216 := by omega
      go_wp2_with fail
      obtain ⟨w0, rfl⟩ : ∃ w0, w0 = wr := ⟨_, rfl⟩
      go_loopw [4, 5, 6] (fun a i n wr => ∃ (j q : Nat) (A : Option Addr) (no c : Nat) (L : List Ev), j ≤ 3 ∧ i = .int .i64 (j : Int) ∧ n = .int .i64 (q : Int) ∧ q ≤ 216 ∧ a = .slice A no c ∧ Hid (WoO w0 A no c L wr ∧ no ≤ j ∧ ∀ x ∈ L, EvOk x)) (fun _ i _ _ => 3 - (intOf i).toNat)
      case atStart => exact ⟨0, k, none, 0, 0, [], by omega, rfl, rfl, by omega, rfl, Lib.hid ⟨⟨RoomS.nil, rfl, fun q hq => absurd hq foot_none, Ext.refl _⟩, by omega, fun x hx => by simp at hx⟩⟩
      case round =>
        obtain ⟨j, q, A, no, c, L, hj, rfl, rfl, hq, rfl, HO⟩ := hrel
        by_cases hlt3 : j < 3
        · have hltJ : (j : Int) < 3 := by omega
          obtain ⟨r, hr⟩ : ∃ r, r = q % 6 := ⟨_, rfl⟩
          obtain ⟨d, hd⟩ : ∃ d, d = q / 6 := ⟨_, rfl⟩
          have hrI : (q : Int) % 6 = (r : Int) := by omega
          have hdI : (q : Int) / 6 = (d : Int) := by omega
          have hd2 : d ≤ 216 := by omega
          have hr6 : r < 6 := by omega
          have hwd : wrap64 (d : Int) = (d : Int) := IntWalk.wrap64_in _ (by omega)
          have hwr : wrap64 (r : Int) = (r : Int) := IntWalk.wrap64_in _ (by omega)
          clear hr hd
          by_cases hr5 : r < 5
          · have hr5I : (r : Int) < 5 := by omega
            obtain ⟨b, o, x, e1, _, hx, c0, c1, c2, c3, c4⟩ := (HP.out.ext (HJ.out.2.2.t HO.out.1.2.2.2)).ev hr5
            cases e1
            have Hok := Lib.hid (poolE_ok x (List.mem_of_getElem? hx))
            have hno : no ≤ 3 := by have := HO.out.2.1; omega
            have Hj := Lib.hid HO.out.2.1
            simp only [Nat.zero_add] at c0 c1 c2 c3 c4
            clear hx
            go_wp2_with (refine wpl_append_atS (by rfl) rfl ul_ev info_ev rfl rfl (HO.out.1.1.ext (Ext.alloc _ _)) rfl (Src.ofRdS ul_ev evC_len (rdS_one evC_len _ _ x rfl) evC_one) (by simp only [maxLen]; omega) (by omega) ?_)
            intro A3 c3' w3 r3 ch3 ft3
            have HR : Hid (WoO w0 A3 (no + 1) c3' (L ++ [x]) w3 ∧ no + 1 ≤ j + 1 ∧ ∀ y ∈ L ++ [x], EvOk y) := Lib.hid ⟨wo_app HO.out.1 (Ext.refl _) r3 ch3 _ ft3 (by first | exact Nat.le_succ _ | simp), by have := Hj.out; omega, fun y hy => by
              rcases List.mem_append.1 hy with h1 | h1
              · exact HO.out.2.2 y h1
              · obtain rfl : y = x := by simpa using h1
                exact Hok.out⟩
            clear r3 ch3 ft3 HO c0 c1 c2 c3 c4
            refine Lib.hid ?_
            go_wp2_with fail
            go_roundw
            case rel => exact ⟨j + 1, d, A3, no + 1, c3', _, by omega, by go_num, by first | rfl | go_num, by omega, rfl, HR⟩
            case measure => simp [intOf]; omega
          · have hr5I : ¬ ((r : Int) < 5) := by omega
            have Hj := Lib.hid HO.out.2.1
            go_wp2_with fail
            go_roundw
            case rel => exact ⟨j + 1, d, A, no, c, L, by omega, by go_num, by first | rfl | go_num, by omega, rfl, Lib.hid ⟨HO.out.1, by have := Hj.out; omega, HO.out.2.2⟩⟩
            case measure => simp [intOf]; omega
        · have hltJ : ¬ ((j : Int) < 3) := by omega
          have hno : no ≤ 3 := by have := HO.out.2.1; omega
          have HL := Lib.hid (show L.length ≤ 3 by have := HO.out.1.2.1; omega)
          go_wp2_with (refine wpl_append_at (by rfl) rfl ul_ee info_ee rfl rfl ((HJ.out.1.room.ext HO.out.1.2.2.2).ext (Ext.alloc _ _)) rfl (Src.ofRd (f := slv) (xs := [⟨A, no, c⟩]) ul_ee ((Blk.new _ _ _).rd rfl rfl) (fun _ => rfl)) (by simp only [maxLen]; omega) (by omega) ?_)
          intro A3 c3 w3 r3 ch3 ft3
          have HN : Hid (Lse W2.heap.size w3 A3 (k + 1) c3 (ts ++ [(⟨A, no, c⟩ : Sl)]) (ls ++ [L]) ∧ FewL (ls ++ [L]) ∧ Ext W2 w3) := Lib.hid ⟨Lse.app (s := ⟨A, no, c⟩) HJ.out.1 HO.out.1.1 HO.out.1.2.2.1 HJ.out.2.2.size HO.out.1.2.2.2 (Ext.alloc _ _) r3 ch3 (by simpa using ft3), HJ.out.2.1.snoc HL.out HO.out.2.2,
            (HJ.out.2.2.t (HO.out.1.2.2.2.t (Ext.alloc _ _))).trans (ch3.below (HJ.out.2.2.t (HO.out.1.2.2.2.t (Ext.alloc _ _))).size (fun q hq hf => by have := HJ.out.1.new q (.inl hf); omega))⟩
          clear HJ r3 ch3 ft3 HO HL
          refine Lib.hid ?_
          go_wp2_with fail
          go_roundw
          case rel => exact ⟨k + 1, A3, c3, _, _, by omega, by go_num, rfl, HN⟩
          case measure => simp [intOf]; omega
    · have hltI : ¬ ((k : Int) < 216) := by omega
      have hk0 : 0 < k := by omega
      have HB := Lib.hid HJ.out.1
      have HF := Lib.hid HJ.out.2.1
      have HEb := Lib.hid (HE2.out.t HJ.out.2.2)
      have HLk := Lib.hid (show ts.length = k by have h1 := HB.out.len; have h2 := HB.out.n_; omega)
      have HGt := Lib.hid (show ∀ i, i < k → ∃ s l, ts[i]? = some s ∧ s.n ≤ s.c ∧ RdS 5 evC wr s.A s.n l ∧ l.length ≤ 3 ∧ (∀ x ∈ l, EvOk x) ∧ s.n ≤ 3 from fun i hi => by
        obtain ⟨s, l, h1, h2, h3, h4⟩ := HB.out.els.get (i := i) (by have := HLk.out; omega)
        have h5 := HF.out l (List.mem_of_getElem? h2)
        exact ⟨s, l, h1, h3, h4, h5.1, h5.2, by have := h4.1; omega⟩)
      clear HJ hlt
      go_wp2_with fail
      obtain ⟨wb, rfl⟩ : ∃ wb, wb = wr := ⟨_, rfl⟩
      go_loopw [55] (fun i wr => ∃ m : Nat, m ≤ k ∧ i = .int .i64 (m : Int) ∧ Hid (Ext wb wr)) (fun i _ => k - (intOf i).toNat)
      case atStart => exact ⟨0, by omega, rfl, Lib.hid (Ext.refl _)⟩
      case round =>
        obtain ⟨i, hi, rfl, HX⟩ := hrel
        by_cases hlt : i < k
        · have hltI2 : (i : Int) < (k : Int) := by omega
          obtain ⟨s, la, hs, hsc, hsr, hsl, hso, hs3⟩ := HGt.out i hlt
          obtain ⟨b, o, rfl, hcs⟩ := (HB.out.room.rd.ext HX.out).get hs
          obtain ⟨sA, sn, sc⟩ := s
          have HSa := Lib.hid (And.intro hsc (And.intro hsr (And.intro hsl (And.intro hso hs3))))
          unfold slv at hcs
          clear hs hsc hsr hsl hso hs3
          go_wp2_with fail
          obtain ⟨wi, rfl⟩ : ∃ wi, wi = wr := ⟨_, rfl⟩
          go_loopw [62] (fun i wr => ∃ m : Nat, m ≤ k ∧ i = .int .i64 (m : Int) ∧ Hid (Ext wb wr)) (fun i _ => k - (intOf i).toNat)
          case atStart => exact ⟨0, by omega, rfl, HX⟩
          case round =>
            clear hcs HX
            obtain ⟨m, hm, rfl, HX⟩ := hrel
            by_cases hltm : m < k
            · have hltmI : (m : Int) < (k : Int) := by omega
              obtain ⟨t, lb, ht, htc, htr, htl, hto, ht3⟩ := HGt.out m hltm
              obtain ⟨b', o', e1, hct⟩ := (HB.out.room.rd.ext HX.out).get ht
              cases e1
              obtain ⟨tA, tn, tc⟩ := t
              have HM1 := Lib.hid (small2 (s1 := ⟨sA, sn, sc⟩) (s2 := ⟨tA, tn, tc⟩) (t := 24) (w := wr) (HSa.out.2.1.ext HX.out) (htr.ext HX.out) HSa.out.1 htc ⟨HSa.out.2.2.1, HSa.out.2.2.2.1⟩ ⟨htl, hto⟩)
              obtain ⟨p, hp⟩ : ∃ p, p = i * m := ⟨_, rfl⟩
              have hp1 : p ≤ 216 * 216 := by rw [hp]; exact Nat.mul_le_mul (by omega) (by omega)
              have hpI : (i : Int) * (m : Int) = (p : Int) := by rw [hp]; push_cast; rfl
              obtain ⟨r, hr⟩ : ∃ r, r = p % k := ⟨_, rfl⟩
              have hrk : r < k := by rw [hr]; exact Nat.mod_lt _ hk0
              have hrI : (p : Int) % (k : Int) = (r : Int) := by rw [hr]; rfl
              obtain ⟨v, lc, hv, hvc, hvr, hvl, hvo, hv3⟩ := HGt.out r hrk
              have HCv := Lib.hid (fun w' (e : Ext wb w') => (HB.out.room.rd.ext e).get hv)
              obtain ⟨vA, vn, vc⟩ := v
              have HM2 := Lib.hid (fun w' (e : Ext wb w') => small4 (s1 := ⟨sA, sn, sc⟩) (s2 := ⟨vA, vn, vc⟩) (s3 := ⟨tA, tn, tc⟩) (t := 24) (w := w') (HSa.out.2.1.ext e) (hvr.ext e) (htr.ext e) HSa.out.1 hvc htc ⟨HSa.out.2.2.1, HSa.out.2.2.2.1⟩ ⟨hvl, hvo⟩ ⟨htl, hto⟩)
              have HM3 := Lib.hid (fun (x y : Int) w' (e : Ext wb w') => parts_ sA tA sn sc tn tc la lb x y w' (HSa.out.2.1.ext e) (htr.ext e) HSa.out.2.2.2.1 (by have := HSa.out.2.2.2.2; change sn ≤ 3 at this; omega) (by change tn ≤ 3 at ht3; omega))
              unfold slv at hct HM1 HM2
              have hrkI : (r : Int) < (k : Int) := by omega
              have hkne : ¬ ((k : Int) = 0) := by omega
              clear ht htc htr htl hto ht3 hv hvc hvr hvl hvo hv3 hp hr
              go_wp2_with fail
              refine HM1.out.mono ?_; rintro e wj ⟨rfl, e1⟩
              have HXj := Lib.hid (HX.out.t e1)
              obtain ⟨b2, o2, e2, hcv⟩ := HCv.out _ HXj.out
              cases e2
              unfold slv at hcv
              clear e1 hct HM1 HX HCv
              by_cases h7 : ((i : Int) + (m : Int)) % 7 = 0
              · have h7b : (((i : Int) + (m : Int)) % 7 == 0) = true := by simpa using h7
                clear h7
                go_wp2_with fail
                refine (HM2.out _ HXj.out).mono ?_; rintro e wk ⟨rfl, e1⟩
                have HXk := Lib.hid (HXj.out.t e1)
                clear e1 HM2 hcv
                go_wp2_with fail
                refine (HM3.out _ _ _ HXk.out).mono ?_; rintro e wl ⟨rfl, e1⟩
                have HXl := Lib.hid (HXk.out.t e1)
                clear e1 HM3
                go_wp2_with fail
                go_roundw
                case rel => exact ⟨m + 1, by omega, by go_num, HXl⟩
                case measure => simp [intOf]; omega
              · have h7b : (((i : Int) + (m : Int)) % 7 == 0) = false := by simpa using h7
                clear h7
                go_wp2_with fail
                go_roundw
                case rel => exact ⟨m + 1, by omega, by go_num, HXj⟩
                case measure => simp [intOf]; omega
            · obtain rfl : k = m := by omega
              go_wp2_with fail
              go_roundw
              case rel => exact ⟨i + 1, by omega, by go_num, HX⟩
              case measure => simp [intOf]; omega
        · obtain rfl : k = i := by omega
          have HE3 := Lib.hid (HEb.out.t HX.out)
          clear HB HF HEb HGt HX HP HE2
          go_upto_region 26 with fail
          obtain ⟨gn, hgn⟩ : ∃ gn, gn = wr.heap.size := ⟨_, rfl⟩
          have hbn := Blk.new wr 3 #[.int .i64 (-9223372036854775808), .int .i64 (-1), .int .i64 0, .int .i64 1, .int .i64 2, .int .i64 15, .int .i64 16, .int .i64 17, .int .i64 9223372036854775807]
          rw [← hgn] at hbn ⊢
          have HE4 := Lib.hid (HE3.out.t (Ext.alloc wr (.cells #[.int .i64 (-9223372036854775808), .int .i64 (-1), .int .i64 0, .int .i64 1, .int .i64 2, .int .i64 15, .int .i64 16, .int .i64 17, .int .i64 9223372036854775807] 3)))
          generalize wr.alloc (.cells #[.int .i64 (-9223372036854775808), .int .i64 (-1), .int .i64 0, .int .i64 1, .int .i64 2, .int .i64 15, .int .i64 16, .int .i64 17, .int .i64 9223372036854775807] 3) = wn at *
          have HNum := Lib.hid (show ∀ (t : Nat) (W : World), t < 9 → Ext wn W → ∃ v : Int, W.cell? ⟨gn, t, none⟩ = some (.int .i64 v) from fun t W ht e => by
            have h1 := (hbn.ext e).cell t
            match t, ht with
            | 0, _ => exact ⟨_, h1⟩
            | 1, _ => exact ⟨_, h1⟩
            | 2, _ => exact ⟨_, h1⟩
            | 3, _ => exact ⟨_, h1⟩
            | 4, _ => exact ⟨_, h1⟩
            | 5, _ => exact ⟨_, h1⟩
            | 6, _ => exact ⟨_, h1⟩
            | 7, _ => exact ⟨_, h1⟩
            | 8, _ => exact ⟨_, h1⟩
            | t + 9, h => omega)
          clear hgn hbn HE3
          go_wp2_with fail
          go_loopw [111] (fun i wr => ∃ t : Nat, t ≤ 9 ∧ i = .int .i64 (t : Int) ∧ Hid (Ext wn wr)) (fun i _ => 9 - (intOf i).toNat)
          case atStart => exact ⟨0, by omega, rfl, Lib.hid (Ext.refl _)⟩
          case round =>
            obtain ⟨t, ht, rfl, HX⟩ := hrel
            by_cases hlt9 : t < 9
            · have hlt9I : (t : Int) < 9 := by omega
              obtain ⟨v, hv⟩ := HNum.out t _ hlt9 HX.out
              go_wp2_with fail
              obtain ⟨wi, rfl⟩ : ∃ wi, wi = wr := ⟨_, rfl⟩
              go_loopw [13] (fun i wr => ∃ z : Int, -1 ≤ z ∧ z ≤ 19 ∧ i = .int .i64 z ∧ Hid (Ext wn wr)) (fun i _ => (20 - intOf i).toNat)
              case atStart => exact ⟨-1, by omega, by omega, rfl, HX⟩
              case round =>
                clear hv HX
                obtain ⟨z, hz1, hz2, rfl, HX⟩ := hrel
                by_cases hz : z < 19
                · go_wp2_with (first | (go_at_call 30; refine (at_ag _ _ _ _).mono ?_; rintro e w' ⟨rfl, rfl⟩) | (refine wpl_buildS evC_len (by decide) (by rfl) rfl ul_ev info_ev [.tmp 119, .tmp 120] (by rfl) (by rfl) (by decide) [⟨1, 1, 1, 1, 0⟩, ⟨1, 1, 2, 1, 0⟩] (by rfl) ?_))
                  intro g w1 b1 e1 lo1 _; refine Lib.hid ?_
                  have ex := ((Ext.alloc _ _).t (Ext.alloc _ _)).t e1
                  have HE := Lib.hid (HX.out.t ex)
                  have HG := Lib.hid (show wn.heap.size ≤ g by have := HX.out.size; omega)
                  have c8 : w1.cell? ⟨g, 8, none⟩ = some (.int .i64 1) := by rw [b1.cell]; rfl
                  have z8 := b1.frozen 8
                  have HB := Lib.hid b1
                  have hs : ∀ w', (Instr.sliceAt 24 (.slice (some ⟨g, 0, none⟩) 2 2) (some (.int .i64 1)) none none).run Try.prog w' = .ok (.slice (some ⟨g, 5, none⟩) 1 1) w' := fun w' => ev_from (A := some ⟨g, 0, none⟩) (n := 2) (c := 2) (k := 1) (li := 1) w' rfl (by decide)
                  clear ex e1 lo1 b1 HX
                  go_upto_region 33 with fail
                  have hb2 : Blk (w1.setCell ⟨g, 8, none⟩ (.int .i64 z)) g 37 (([⟨1, 1, 1, 1, 0⟩, ⟨1, 1, 2, z, 0⟩] : List Ev).flatMap evC).toArray := HB.out.set_ 8 (.int .i64 z)
                  have hr2 := rdS_blk (n := 2) (l := [⟨1, 1, 1, 1, 0⟩, ⟨1, 1, 2, z, 0⟩]) hb2 rfl rfl (by omega)
                  have hr1 : RdS 5 evC (w1.setCell ⟨g, 8, none⟩ (.int .i64 z)) (some ⟨g, 5, none⟩) 1 [⟨1, 1, 2, z, 0⟩] := hr2.from_ (c := 2) (k := 1) (by decide) (by decide)
                  have HEz := Lib.hid (show Ext wn (w1.setCell ⟨g, 8, none⟩ (.int .i64 z)) from HE.out.trans ((Chg.set w1 g 8 (.int .i64 z) (T := fun k => k = g) rfl).below HE.out.size (fun k hk e => by have := HG.out; omega)))
                  generalize w1.setCell ⟨g, 8, none⟩ (.int .i64 z) = wz at *
                  have HO : Hid (∀ x ∈ ([⟨1, 1, 1, 1, 0⟩, ⟨1, 1, 2, z, 0⟩] : List Ev), EvOk x) := Lib.hid (fun x hx => by
                    simp only [List.mem_cons, List.not_mem_nil, or_false] at hx
                    rcases hx with rfl | rfl
                    · exact ⟨by decide, by decide, by decide, by decide, by decide, by decide, by decide, by decide, by decide, by decide⟩
                    · constructor <;> (dsimp only; omega))
                  have HP1 := Lib.hid (parts_ (some ⟨g, 0, none⟩) (some ⟨g, 0, none⟩) 2 2 2 2 _ _ v v wz hr2 hr2 HO.out (by omega) (by omega))
                  have HP2 := Lib.hid (fun w' (e : Ext wz w') => parts_ (some ⟨g, 5, none⟩) none 1 1 0 0 _ [] z v w' (hr1.ext e) RdS.none_ (fun x hx => HO.out x (by simp only [List.mem_cons, List.not_mem_nil, or_false] at hx ⊢; exact .inr hx)) (by omega) (by omega))
                  clear HB HE HG c8 z8 hb2 hr2 hr1 HO
                  go_wp2_with fail
                  refine HP1.out.mono ?_; rintro e wa ⟨rfl, e1⟩
                  have HP3 := Lib.hid (HP2.out _ e1)
                  have HEa := Lib.hid (HEz.out.t e1)
                  clear e1 HP1 HP2
                  go_wp2_with fail
                  refine HP3.out.mono ?_; rintro e wc ⟨rfl, e1⟩
                  have HEc := Lib.hid (HEa.out.t e1)
                  clear e1 HP3
                  go_wp2_with fail
                  go_roundw
                  case rel => exact ⟨z + 1, by omega, by omega, by go_num, HEc⟩
                  case measure => simp [intOf]; omega
                · go_wp2_with fail
                  go_roundw
                  case rel => exact ⟨t + 1, by omega, by go_num, HX⟩
                  case measure => simp [intOf]; omega
            · have hlt9I : ¬ ((t : Int) < 9) := by omega
              have HEn := Lib.hid (HE4.out.t HX.out)
              have HN := Lib.hid (merges_ none 0 0 [] [] wr Rd.none_ Els.nil (by simp) (by omega) (by simp))
              have HN2 := Lib.hid (fun w' => small2 (s1 := ⟨none, 0, 0⟩) (s2 := ⟨none, 0, 0⟩) (l1 := []) (l2 := []) (t := 24) (w := w') RdS.none_ RdS.none_ (Nat.le_refl _) (Nat.le_refl _) (by simp) (by simp))
              unfold slv at HN2
              clear HNum HX HE4
              go_wp2_with fail
              refine HN.out.mono ?_; rintro e wa ⟨rfl, e1⟩
              have HEa := Lib.hid (HEn.out.t e1)
              clear e1 HN
              go_wp2_with fail
              refine (HN2.out _).mono ?_; rintro e wc ⟨rfl, e1⟩
              have HEc := Lib.hid (HEa.out.t e1)
              clear e1 HN2
              go_wp2_with fail
              refine (awake_ _).mono ?_; rintro e wd ⟨rfl, e1⟩
              have HEd := Lib.hid (HEc.out.t e1)
              clear e1
              go_wp2_with fail
              go_ret
              exact ⟨rfl, HEd.out⟩
end Go.Proofs.Ytkeapijehfacfaa
