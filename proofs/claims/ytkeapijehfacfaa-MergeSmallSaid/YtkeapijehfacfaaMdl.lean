/- Mdl: Deal. -/
import Derived.Test.YtkeapijehfacfaaMcu
import Derived.Test.YtkeapijehfacfaaLse
import Derived.Deep.RegionHeldLaw
namespace Go.Fx
open Go.RowKit
theorem deal_step {B M g og j sn sc c9 : Nat} {sA A9 : Option Addr} {W1 X w9 : World} {ss : List Sl} {ls : List (List Ev)} {lj : List Ev} {x : Ev} (h : Lse B W1 (some ⟨g, og, none⟩) M M ss ls) (hs : ss[j]? = some ⟨sA, sn, sc⟩) (ch : Chg (foot sA sc) X w9) (hx : Ext W1 X)
    (r : RoomS 5 w9 A9 (sn + 1) c9 (lj.flatMap evC ++ [x].flatMap evC)) (ft : ∀ k, foot A9 c9 k → foot sA sc k ∨ X.heap.size ≤ k) (hB : B ≤ W1.heap.size) {g9 : Nat} {v : Value} (hg9 : g9 < W1.heap.size) (hn9 : ¬ foot sA sc g9) (d3 : W1.cell? ⟨g9, 3, none⟩ = some v) :
    w9.cell? ⟨g9, 3, none⟩ = some v ∧ w9.cell? ⟨g, og + j, none⟩ = some (.slice sA sn sc) ∧ w9.frozen? ⟨g, og + j, none⟩ = false ∧ Lse B (w9.setCell ⟨g, og + j, none⟩ (.slice A9 (sn + 1) c9)) (some ⟨g, og, none⟩) M M (ss.set j ⟨A9, sn + 1, c9⟩) (ls.set j (lj ++ [x])) ∧ Chg (fun k => foot (some ⟨g, og, none⟩) M k ∨ foots ss k) W1 (w9.setCell ⟨g, og + j, none⟩ (.slice A9 (sn + 1) c9)) := by
  have hl := h.ext hx
  have hr := hl.room.chg ch (fun k hk hs' => h.outer k ⟨_, List.mem_of_getElem? hs, hs'⟩ hk)
  have hjM : j < M := by have h1 := (List.getElem?_eq_some_iff.1 hs).1; have h2 := h.room.1; rw [List.length_map] at h2; omega
  obtain ⟨g1, g2⟩ := hl.grow (s2 := ⟨A9, sn + 1, c9⟩) (l2 := lj ++ [x]) hs (by rw [List.flatMap_append]; exact r) ch ft (Nat.le_trans hB hx.size)
  exact ⟨(ch.cell (p := ⟨g9, 3, none⟩) (Nat.lt_of_lt_of_le hg9 hx.size) hn9).trans ((hx.cell (p := ⟨g9, 3, none⟩) hg9).trans d3), hr.cellAt (k := j) (u := slv ⟨sA, sn, sc⟩) (by rw [List.getElem?_map, hs]; rfl), hr.frozenAt (k := j) hjM, g1, (Chg.ofExt hx).t g2⟩
/-- What Deal leaves. -/
def DealP (r : List (List Ev) × Int × Nat) (w : World) (e : Ending) (w' : World) : Prop :=
  ∃ A n c ss, e = .returned (.tuple #[.slice A n c, .int .i64 r.2.1, .int .i64 (r.2.2 : Int)]) ∧ Lse w.heap.size w' A n c ss r.1 ∧ Ext w w'
theorem badT_hit {n : Int} {i : Nat} {x : Ev} {xs : List Ev} (h : okT n x = false) : badT n i (x :: xs) = some i := by rw [badT, if_neg (by rw [h]; simp)]
theorem badT_step {n : Int} {i : Nat} {x : Ev} {xs : List Ev} (h : okT n x = true) : badT n i (x :: xs) = badT n (i + 1) xs := by rw [badT, if_pos h]
end Go.Fx
namespace Go.Proofs.Ytkeapijehfacfaa
open Go.RowKit Go.Fx
set_option maxRecDepth 100000 in
set_option maxHeartbeats 2000000 in
theorem deal_ (A : Option Addr) (n c : Nat) (l : List Ev) (m : Int) (w : World) (h : RdS 5 evC w A n l) (hn : n ≤ 1000000) :
    Calls Try.prog 21 #[.slice A n c, .int .i64 m] w (DealP (dealF l m) w) := by
  by_cases h1 : m < 0
  · have hv : dealF l m = ([], -1, 2) := by unfold dealF; rw [if_pos (.inl h1)]
    rw [hv]
    clear h hv
    go_enter Try.func21, Try.ntmps21
    go_wp2_with fail
    go_ret3
    exact ⟨none, 0, 0, [], rfl, Lse.nil, Ext.refl _⟩
  · by_cases h2 : 16 < m
    · have hv : dealF l m = ([], -1, 2) := by unfold dealF; rw [if_pos (.inr h2)]
      rw [hv]
      clear h hv
      go_enter Try.func21, Try.ntmps21
      go_wp2_with fail
      go_ret3
      exact ⟨none, 0, 0, [], rfl, Lse.nil, Ext.refl _⟩
    · obtain ⟨M, rfl⟩ : ∃ M : Nat, m = (M : Int) := ⟨m.toNat, by omega⟩
      have hM : M ≤ 16 := by omega
      have hM1 : ¬ (16 < M) := by omega
      have hv0 : dealF l (M : Int) = match badT (M : Int) 0 l with | some i => ([], (i : Int), 112) | none => (dealL l M, -1, 0) := by
        unfold dealF; rw [if_neg (by omega)]; rfl
      have HV0 := Lib.hid hv0
      have H := Lib.hid h
      have Hl := Lib.hid h.1
      clear h hv0
      go_enter Try.func21, Try.ntmps21
      go_wp2_with (refine wpl_makeN rfl rfl ul_ee info_ee rfl rfl rfl rfl rfl (by omega) (by unfold maxLen; omega) ?_)
      intro A1 w1 r1 e1 f1; refine Lib.hid ?_
      have H0 : Hid (Lse w.heap.size w1 A1 M M (List.replicate M ⟨none, 0, 0⟩) (dealL (l.take 0) M) ∧ Ext w w1) := Lib.hid ⟨by rw [List.take_zero, dealL_nil]; exact Lse.made r1 f1, e1⟩
      clear r1 e1 f1
      go_wp2_with fail
      go_loopw [20] (fun i wr => ∃ (k : Nat) (ss : List Sl), k ≤ n ∧ i = .int .i64 (k : Int) ∧ Hid (Lse w.heap.size wr A1 M M ss (dealL (l.take k) M) ∧ badT (M : Int) 0 l = badT (M : Int) k (l.drop k) ∧ Ext w wr)) (fun i _ => n - (intOf i).toNat)
      case atStart => exact ⟨0, _, by omega, rfl, Lib.hid ⟨H0.out.1, rfl, H0.out.2⟩⟩
      case round =>
        clear H0
        obtain ⟨k, ss, hk, rfl, HJ⟩ := hrel
        by_cases hlt : k < n
        · obtain ⟨b, o, x, rfl, _, hx, c0, c1, c2, c3, c4⟩ := (H.out.ext HJ.out.2.2).ev hlt
          have hltI : (k : Int) < (n : Int) := by omega
          have Hx := Lib.hid hx
          clear hx
          cases hok : okT (M : Int) x with
          | false =>
            have HV := Lib.hid (show dealF l (M : Int) = ([], (k : Int), 112) by rw [HV0.out, HJ.out.2.1, drop_at Hx.out, badT_hit hok])
            have HE := Lib.hid (HJ.out.2.2.t (Ext.alloc wr (.cells #[.int .i64 x.t, .int .i64 x.s, .int .i64 x.q, .int .i64 x.to, .int .i64 x.v] 37)))
            clear HJ Hx
            by_cases hlo : x.to < 1
            · clear hok
              go_wp2_with fail
              go_ret3
              rw [HV.out]
              exact ⟨none, 0, 0, [], rfl, Lse.nil, HE.out⟩
            · have hhi : (M : Int) < x.to := by
                unfold okT at hok
                simp only [Bool.and_eq_false_iff, decide_eq_false_iff_not] at hok
                omega
              clear hok
              go_wp2_with fail
              go_ret3
              rw [HV.out]
              exact ⟨none, 0, 0, [], rfl, Lse.nil, HE.out⟩
          | true =>
            have hto : 1 ≤ x.to ∧ x.to ≤ (M : Int) := by unfold okT at hok; simpa using hok
            obtain ⟨j, hj⟩ : ∃ j : Nat, x.to = (j : Int) + 1 := ⟨(x.to - 1).toNat, by omega⟩
            have hjM : j < M := by omega
            have HB := Lib.hid (show badT (M : Int) 0 l = badT (M : Int) (k + 1) (l.drop (k + 1)) by rw [HJ.out.2.1, drop_at Hx.out, badT_step hok])
            clear hok
            have hlse := HJ.out.1.ext (Ext.alloc wr (.cells (evC x).toArray 37))
            have HE := Lib.hid (HJ.out.2.2.t (Ext.alloc wr (.cells (evC x).toArray 37)))
            have hb9 := Blk.new wr 37 (evC x).toArray
            obtain ⟨d0, d1, d2, d3, d4⟩ := hb9.ev
            have hg9l := hb9.lt
            obtain ⟨s, hsj⟩ : ∃ s, ss[j]? = some s := ⟨ss[j]'(by have := hlse.n_; have := hlse.len; omega), List.getElem?_eq_getElem _⟩
            obtain ⟨lj, hlj, hrj⟩ := hlse.at_ j s hsj
            obtain ⟨g, og, rfl, hgl⟩ := hlse.room.some_ (by omega)
            have hca := hlse.room.cellAt (k := j) (u := slv s) (by rw [List.getElem?_map, hsj]; rfl)
            have Hup := Lib.hid (dealL_snoc (l := l.take k) (n := M) hjM hj)
            rw [hlj, ← take_snoc Hx.out] at Hup
            have hlen : lj.length ≤ 1000000 := by
              have h1 := dealL_le (List.mem_of_getElem? hlj)
              rw [List.length_take] at h1; omega
            have hsn : lj.length = s.n := (hrj.rd evC_len (by decide)).1
            obtain ⟨sA, sn, sc⟩ := s
            change lj.length = sn at hsn
            have HRj := Lib.hid (show RoomS 5 _ sA sn sc (lj.flatMap evC) from hrj)
            have Hsj := Lib.hid hsj
            have hBn : w.heap.size ≤ (wr.alloc (.cells (evC x).toArray 37)).heap.size := HE.out.size
            have HBn := Lib.hid hBn
            have HN9 : Hid (¬ foot sA sc wr.heap.size) := Lib.hid (fun hf => by
              obtain ⟨l9, _, hr9⟩ := HJ.out.1.at_ j _ hsj
              have := hr9.lt hf; omega)
            have HL := Lib.hid hlse
            obtain ⟨x0, x1, x2, x3, x4⟩ := x
            change x3 = _ at hj
            subst hj
            have ht1 : ¬ ((j : Int) + 1 < 1) := by omega
            have ht2 : ¬ ((M : Int) < (j : Int) + 1) := by omega
            clear HJ hto
            go_wp2_with fail
            go_upto_region 9 with fail
            change Code.wp _ _ _ _ (wr.alloc (.cells (evC ⟨x0, x1, x2, (j : Int) + 1, x4⟩).toArray 37))
            obtain ⟨g9, hg9⟩ : ∃ g9, g9 = wr.heap.size := ⟨_, rfl⟩
            rw [← hg9] at d0 d1 d2 d3 d4 hg9l HN9 ⊢
            generalize wr.alloc (.cells (evC ⟨x0, x1, x2, (j : Int) + 1, x4⟩).toArray 37) = W1 at *
            unfold slv at hca
            have hw1 : IntKind.i64.wrap (j : Int) = (j : Int) := IntWalk.i64_in _ (by omega)
            have hw2 : IntKind.i64.wrap ((j : Int) + 1 - 1) = (j : Int) := by rw [show (j : Int) + 1 - 1 = (j : Int) by omega]; exact hw1
            have hjI : (j : Int) < (M : Int) := by omega
            have hcs : M ≤ M := Nat.le_refl _
            have HX := Lib.hid (show (evC ⟨x0, x1, x2, (j : Int) + 1, x4⟩).toArray = #[.int .i64 x0, .int .i64 x1, .int .i64 x2, .int .i64 ((j : Int) + 1), .int .i64 x4] from rfl)
            clear hlse hrj hsj hlj hb9 hBn hg9 ht1 ht2 c0 c1 c2 c3 c4
            have d3a := fun ob => (World.cell?_alloc_lt W1 ob ⟨g9, 3, none⟩ hg9l).trans d3
            have hcaa := fun ob => (World.cell?_alloc_lt W1 ob ⟨g, og + j, none⟩ hgl).trans hca
            go_region_law (first
              | (refine step_append_atS (A := sA) (n := sn) (c := sc) (m := 1) (v := .slice (some ⟨W1.heap.size, 0, none⟩) 1 1) rfl rfl ul_ev info_ev rfl (by first | rfl | go_simp) (HRj.out.ext (by first | exact (Ext.drew _).t (Ext.alloc _ _) | exact (Ext.alloc _ _).t (Ext.drew _))) (by first | rfl | go_simp) (Src.ofRdS ul_ev evC_len (rdS_one evC_len _ _ ⟨x0, x1, x2, (j : Int) + 1, x4⟩ HX.out.symm) evC_one) (by simp only [maxLen]; omega) (by omega) ?_
                 intro A9 c9 w9 r9 ch9 ft9
                 have hq := deal_step HL.out Hsj.out ch9 (by first | exact (Ext.drew _).t (Ext.alloc _ _) | exact (Ext.alloc _ _).t (Ext.drew _)) r9 ft9 HBn.out hg9l HN9.out d3
                 have d39 := hq.1
                 have cg9 := hq.2.1
                 have fz9 := hq.2.2.1
                 have HG := Lib.hid hq.2.2.2
                 clear hq r9 ch9 ft9))
            all_goals
              have HN : Hid (Lse w.heap.size (w9.setCell ⟨g, og + j, none⟩ (.slice A9 (sn + 1) c9)) (some ⟨g, og, none⟩) M M (ss.set j ⟨A9, sn + 1, c9⟩) (dealL (l.take (k + 1)) M)) := Lib.hid (by rw [Hup.out]; exact HG.out.1)
              have HE9 := Lib.hid (HE.out.trans (HG.out.2.below HBn.out (fun k hk hf => by have := HL.out.new k hf; omega)))
              clear HG cg9 fz9 d39
              go_wp2_with fail
              go_roundw
              case rel => exact ⟨k + 1, _, by omega, by go_num, Lib.hid ⟨by first | exact HN.out | exact HN.out.ext (Ext.drew _), HB.out, by first | exact HE9.out | exact HE9.out.t (Ext.drew _)⟩⟩
              case measure => simp [intOf]; omega
        · obtain rfl : n = k := by omega
          have e1 : l.take n = l := List.take_of_length_le (by have := Hl.out; omega)
          have e2 : l.drop n = [] := List.drop_eq_nil_of_le (by have := Hl.out; omega)
          have HV := Lib.hid (show dealF l (M : Int) = (dealL l M, -1, 0) by rw [HV0.out, HJ.out.2.1, e2]; rfl)
          have HL := Lib.hid HJ.out.1
          rw [e1] at HL
          have HE := Lib.hid HJ.out.2.2
          clear e1 e2 HJ
          go_wp2_with fail
          go_ret3
          rw [HV.out]
          exact ⟨A1, M, M, ss, rfl, HL.out, HE.out⟩
end Go.Proofs.Ytkeapijehfacfaa
