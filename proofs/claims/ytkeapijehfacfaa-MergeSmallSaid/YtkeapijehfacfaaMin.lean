/- Min: slices.Insert at lists of events, and at lists of lists of events. -/
import Derived.Test.YtkeapijehfacfaaEcl
import Derived.Deep.CutRange
import Derived.WalkSpells
namespace Go.Proofs.Ytkeapijehfacfaa
open Go.RowKit Go.Fx
theorem ev_ins_from {A : Option Addr} {n c k : Nat} {li : Int} (w : World) (e : li = (k : Int)) (hk : k ≤ n) :
    (Instr.sliceAt 24 (.slice A n c) (some (.int .i64 li)) none none).run Try.prog w = .ok (.slice (fromS 5 A c k) (n - k) (c - k)) w := by
  subst e
  have h1 : (k : Int) ≤ (n : Int) := by omega
  have h2 : (0 : Int) ≤ (k : Int) := by omega
  simp [go_sem, sliced, fromS, h1]
theorem ev_ins_fromA {g o ok n c k : Nat} {li : Int} (w : World) (e : li = (k : Int)) (hk : k ≤ n) (hc : c ≠ k) (ho : ok = o + k * 5) :
    (Instr.sliceAt 24 (.slice (some ⟨g, o, none⟩) n c) (some (.int .i64 li)) none none).run Try.prog w = .ok (.slice (some ⟨g, ok, none⟩) (n - k) (c - k)) w := by
  rw [ev_ins_from w e hk, fromS, if_neg hc, ho]
  simp [Addr.add_lit]
theorem ev_ins_to {A : Option Addr} {n c hi : Nat} {li : Int} (w : World) (e : li = (hi : Int)) (h2 : hi ≤ c) :
    (Instr.sliceAt 24 (.slice A n c) none (some (.int .i64 li)) none).run Try.prog w = .ok (.slice A hi c) w := by
  subst e
  have h4 : (hi : Int) ≤ (c : Int) := by omega
  have h5 : (0 : Int) ≤ (hi : Int) := by omega
  simp [go_sem, sliced, h4, Addr.add]
set_option maxRecDepth 100000 in
set_option maxHeartbeats 1000000 in
theorem ev_ins_end (A : Option Addr) (n c : Nat) (xs : List Value) (vb m : Nat) (vs : List Value) (w : World) (h : RoomS 5 w A n c xs) (hv : Blk w vb 37 vs.toArray) (hvl : vs.length = m * 5) (hm : 0 < m) (h1v : ∀ v ∈ vs, v.oneCell' = true) (hn : n + m ≤ 1000000) :
    Calls Try.prog 36 #[.slice A n c, .int .i64 (n : Int), .slice (some ⟨vb, 0, none⟩) m m] w (InsP 5 A n c m n xs vs w) := by
  have hz1 : ((m : Int) == 0) = false := by simp; omega
  have hz2 : ((n : Int) == (n : Int)) = true := by simp
  have hsl := fun w' => ev_ins_from (A := A) (n := n) (c := c) (k := n) w' rfl (Nat.le_refl _)
  have hsrc : Src Try.prog 5 24 (.slice (some ⟨vb, 0, none⟩) m m) m vs w := Src.ofSlice w ul_ev ⟨vb, 0, none⟩ m m vs hvl (fun j u hu => by rw [Addr.add_lit, Nat.zero_add, hv.cell]; simpa using hu) h1v
  have HR := Lib.hid h
  have Hsrc := Lib.hid hsrc
  clear h hsrc hv
  go_enter Try.func36, Try.ntmps36
  go_wp2_with (refine wpl_append_atS (by rfl) rfl ul_ev info_ev rfl rfl HR.out rfl Hsrc.out (by simp only [maxLen]; omega) (by omega) ?_)
  intro A2 c2 w2 r2 ch2 ft2; refine Lib.hid ?_
  have hfin : InsP 5 A n c m n xs vs w (.returned (.slice A2 (n + m) c2)) w2 := ⟨A2, c2, rfl, by
    rw [List.take_of_length_le (by rw [HR.out.1]; exact Nat.le_refl _), List.drop_eq_nil_of_le (by rw [HR.out.1]; exact Nat.le_refl _), List.append_nil]; exact r2, ch2, ft2⟩
  have HFin := Lib.hid hfin
  clear r2 ch2 ft2 hfin
  go_wp2_with fail
  go_ret
  exact HFin.out
set_option maxRecDepth 100000 in
set_option maxHeartbeats 1000000 in
theorem ev_ins_room (g o : Nat) (n c i : Nat) (xs : List Value) (vb m : Nat) (vs : List Value) (w : World) (h : RoomS 5 w (some ⟨g, o, none⟩) n c xs) (hi : i < n) (hr : n + m ≤ c) (hv : Blk w vb 37 vs.toArray) (hvl : vs.length = m * 5) (hm : 0 < m) (hne : g ≠ vb) (h1 : ∀ v ∈ xs, v.oneCell' = true) (h1v : ∀ v ∈ vs, v.oneCell' = true) (hn : n + m ≤ 1000000) :
    Calls Try.prog 36 #[.slice (some ⟨g, o, none⟩) n c, .int .i64 (i : Int), .slice (some ⟨vb, 0, none⟩) m m] w (InsP 5 (some ⟨g, o, none⟩) n c m i xs vs w) := by
  have hz1 : ((m : Int) == 0) = false := by simp; omega
  have hz2 : ((i : Int) == (n : Int)) = false := by simp; omega
  have hz3 : ¬ (c : Int) < (n : Int) + (m : Int) := by omega
  obtain ⟨oi, hoi⟩ : ∃ oi, oi = o + i * 5 := ⟨_, rfl⟩
  obtain ⟨om, hom⟩ : ∃ om, om = o + (i + m) * 5 := ⟨_, rfl⟩
  obtain ⟨tB, kB, hsb, hkB⟩ := shape_of_room h (by omega) (by omega)
  have hov : ∀ lb cb, (callFunc 62 #[.slice (some ⟨vb, 0, none⟩) m m, .slice (some ⟨g, om, none⟩) lb cb]).run Try.prog w = .ok (.value (.bool false)) w := fun lb cb => by
    rw [run_callFunc_extern Try.func62 (by kernel_rfl) (by kernel_rfl) (by kernel_rfl) (e := Extern.SlicesOverlaps.overlaps #[24, 24] #[4]) (by kernel_rfl),
      Lib.run_overlaps_apart w 24 4 37 ul_ev 5 (fun _ => by kernel_rfl) ⟨vb, 0, none⟩ ⟨g, om, none⟩ m m lb cb (fun e => hne e.symm) 37 tB vs.toArray.size kB (by unfold World.shape?; rw [hv]) hsb hkB (hv.frozen 0) (hv.frozen _)]
    rfl
  obtain ⟨L, hw⟩ := h.wide (n' := n + m) (by omega) hr
  have hxl := h.1
  have hs1 := fun w' => ev_ins_from (A := some ⟨g, o, none⟩) (n := n) (c := c) (k := i) w' rfl (by omega)
  have hs2 := fun w' => ev_ins_to (A := some ⟨g, o, none⟩) (n := n) (c := c) (hi := n + m) (li := (n : Int) + (m : Int)) w' (by omega) hr
  have hs3 := fun w' => ev_ins_fromA (g := g) (o := o) (ok := om) (n := n + m) (c := c) (k := i + m) (li := (i : Int) + (m : Int)) w' (by omega) (by omega) (by omega) hom
  have hs4 := fun w' => ev_ins_fromA (g := g) (o := o) (ok := oi) (n := n + m) (c := c) (k := i) w' rfl (by omega) (by omega) hoi
  have hsz : (Try.prog.info? 37).map (·.size) = some 5 := by obtain ⟨i0, h0, _, h2, _⟩ := info_parts info_ev; rw [h0]; simp [h2]
  have HW := Lib.hid hw
  have Hxl := Lib.hid hxl
  have Hoi := Lib.hid hoi
  have Hom := Lib.hid hom
  have Hv := Lib.hid hv
  have Hvl := Lib.hid hvl
  have Hsz := Lib.hid hsz
  have H1 := Lib.hid h1
  have H1v := Lib.hid h1v
  have Hl2 : Hid ((xs ++ L).length = (n + m) * 5) := Lib.hid hw.1
  have Hms : Hid ((i + m) * 5 = i * 5 + m * 5 ∧ (n + m) * 5 = n * 5 + m * 5 ∧ i * 5 ≤ n * 5 ∧ (n + m) * 5 ≤ c * 5 ∧ (n - i) * 5 = n * 5 - i * 5) := Lib.hid ⟨Nat.add_mul _ _ _, Nat.add_mul _ _ _, Nat.mul_le_mul_right _ (by omega), Nat.mul_le_mul_right _ hr, Nat.sub_mul _ _ _⟩
  have hw1 : IntKind.i64.wrap ((i : Int) + (m : Int)) = (i : Int) + (m : Int) := IntWalk.i64_in _ (by omega)
  clear h hsb hkB hw hxl hoi hom hv hvl hsz h1 h1v
  go_enter Try.func36, Try.ntmps36
  go_wp2_with fail
  go_upto_region 15 with fail
  go_region_law (refine step_copyS (cs := xs.drop (i * 5)) (m := n - i) rfl rfl ul_ev Hsz.out (g := g) (of := om) (nd := n + m - (i + m)) (cd := c - (i + m)) (b := g) (o2 := oi) (ns := n + m - i) (c2 := c - i) (by first | (simp [Act.eval]; done) | (go_simp; done)) (by first | (simp [Act.eval]; done) | (go_simp; done)) (by omega) (by rw [List.length_drop, Hxl.out]; have := Hms.out; omega) (fun j v hj => by rw [Hoi.out, Nat.add_assoc]; refine (HW.out.ext (Ext.drew w)).cellAt ?_; rw [List.getElem?_drop] at hj; rw [List.getElem?_append_left (by have := (List.getElem?_eq_some_iff.1 hj).1; omega)]; exact hj) (fun j hj => by rw [Hom.out, Nat.add_assoc]; exact ((HW.out.ext (Ext.drew w)).okAt (by rw [List.length_drop, Hxl.out] at hj; have := Hms.out; omega)).1) (fun j hj => by rw [Hom.out, Nat.add_assoc]; exact ((HW.out.ext (Ext.drew w)).okAt (by rw [List.length_drop, Hxl.out] at hj; have := Hms.out; omega)).2) (fun v hv => H1.out v (List.mem_of_mem_drop hv)) ?_; intro w1 Hq1)
  have hq1 := Hq1.out
  clear Hq1
  have r1 : RoomS 5 w1 (some ⟨g, o, none⟩) (n + m) c ((xs ++ L).take ((i + m) * 5) ++ xs.drop (i * 5) ++ (xs ++ L).drop ((i + m) * 5 + (xs.drop (i * 5)).length)) := by
    rw [hq1, Hom.out]
    exact (HW.out.ext (Ext.drew w)).setCells ((i + m) * 5) (xs.drop (i * 5)) (by rw [List.length_drop, Hxl.out]; have := Hms.out; omega)
  have ch1 : Chg (foot (some ⟨g, o, none⟩) c) w w1 := (Chg.drew w).t (by rw [hq1]; exact chg_setCells _ g om _ ⟨by omega, o, rfl⟩)
  have bv := Hv.out.chg ch1 (fun h => hne (foot_some h).symm)
  have R1 := Lib.hid r1
  have Ch1 := Lib.hid ch1
  have Bv := Lib.hid bv
  clear r1 ch1 bv hq1 hov
  go_wp2_with (refine wpl_copyS (cs := vs) (m := m) (by rfl) rfl ul_ev Hsz.out (g := g) (of := oi) (nd := n + m - i) (cd := c - i) (b := vb) (o2 := 0) (ns := m) (c2 := m) rfl rfl (by omega) Hvl.out (fun j v hj => by rw [Nat.zero_add, Bv.out.cell]; simpa using hj) (fun j hj => by rw [Hoi.out, Nat.add_assoc]; exact (R1.out.okAt (by have := Hms.out; have := Hvl.out; omega)).1) (fun j hj => by rw [Hoi.out, Nat.add_assoc]; exact (R1.out.okAt (by have := Hms.out; have := Hvl.out; omega)).2) H1v.out ?_)
  intro w2 hq2; refine Lib.hid ?_
  have hq2 := hq2.out
  have r2 := R1.out.setCells (i * 5) vs (by have := Hms.out; have := Hvl.out; omega)
  rw [← Hoi.out, ← hq2, Hms.out.1, ins_room (d := (n - i) * 5) (by rw [Hxl.out]; have := Hms.out; omega) Hvl.out (by rw [Hl2.out]; have := Hms.out; omega)] at r2
  have hfin : InsP 5 (some ⟨g, o, none⟩) n c m i xs vs w (.returned (.slice (some ⟨g, o, none⟩) (n + m) c)) w2 := ⟨_, _, rfl, r2, Ch1.out.t (by rw [hq2]; exact chg_setCells _ g oi _ ⟨by omega, o, rfl⟩), fun k hk => .inl hk⟩
  have HFin := Lib.hid hfin
  clear r2 hq2 hfin
  go_wp2_with fail
  go_ret
  exact HFin.out
set_option maxRecDepth 100000 in
set_option maxHeartbeats 1000000 in
theorem ev_ins_grow (g o : Nat) (n c i : Nat) (xs : List Value) (vb m : Nat) (vs : List Value) (w : World) (h : RoomS 5 w (some ⟨g, o, none⟩) n c xs) (hi : i < n) (hr : c < n + m) (hv : Blk w vb 37 vs.toArray) (hvl : vs.length = m * 5) (hm : 0 < m) (h1 : ∀ v ∈ xs, v.oneCell' = true) (h1v : ∀ v ∈ vs, v.oneCell' = true) (hn : n + m ≤ 1000000) :
    Calls Try.prog 36 #[.slice (some ⟨g, o, none⟩) n c, .int .i64 (i : Int), .slice (some ⟨vb, 0, none⟩) m m] w (InsP 5 (some ⟨g, o, none⟩) n c m i xs vs w) := by
  have hz1 : ((m : Int) == 0) = false := by simp; omega
  have hz2 : ((i : Int) == (n : Int)) = false := by simp; omega
  have hz3 : (c : Int) < (n : Int) + (m : Int) := by omega
  have hnc := h.2.1
  obtain ⟨oi, hoi⟩ : ∃ oi, oi = o + i * 5 := ⟨_, rfl⟩
  obtain ⟨pi, hpi⟩ : ∃ pi, pi = 0 + i * 5 := ⟨_, rfl⟩
  obtain ⟨pm, hpm⟩ : ∃ pm, pm = 0 + (i + m) * 5 := ⟨_, rfl⟩
  obtain ⟨K, hK⟩ : ∃ K, K = n + m - i := ⟨_, rfl⟩
  have hKI : (n : Int) + (m : Int) - (i : Int) = (K : Int) := by omega
  have hxl := h.1
  have hs1 := fun w' => ev_ins_fromA (g := g) (o := o) (ok := oi) (n := n) (c := c) (k := i) w' rfl (by omega) (by omega) hoi
  have hs2 := fun w' => ev_ins_to (A := some ⟨g, o, none⟩) (n := n) (c := c) (hi := i) w' rfl (by omega)
  have hsz : (Try.prog.info? 37).map (·.size) = some 5 := by obtain ⟨i0, h0, _, h2, _⟩ := info_parts info_ev; rw [h0]; simp [h2]
  have HR := Lib.hid h
  have Hxl := Lib.hid hxl
  have Hoi := Lib.hid hoi
  have Hpi := Lib.hid hpi
  have Hpm := Lib.hid hpm
  have Hv := Lib.hid hv
  have Hvl := Lib.hid hvl
  have Hsz := Lib.hid hsz
  have H1 := Lib.hid h1
  have H1v := Lib.hid h1v
  have HK := Lib.hid hK
  have Hms : Hid ((i + m) * 5 = i * 5 + m * 5 ∧ (n + m) * 5 = n * 5 + m * 5 ∧ i * 5 ≤ n * 5 ∧ (n - i) * 5 = n * 5 - i * 5 ∧ (i + K) * 5 = (n + m) * 5) := Lib.hid ⟨Nat.add_mul _ _ _, Nat.add_mul _ _ _, Nat.mul_le_mul_right _ (by omega), Nat.sub_mul _ _ _, by rw [show i + K = n + m by omega]⟩
  have hK1 : 0 < K := by omega
  have hK2 : c < i + K := by omega
  have hK3 : i + K ≤ 1000000 := by omega
  have hK4 : i + m < i + K := by omega
  have hgw : g < w.heap.size := by obtain ⟨g', o', e, hg⟩ := h.some_ (by omega); cases e; exact hg
  obtain ⟨xt, hxt⟩ : ∃ xt, xt = xs.take (i * 5) := ⟨_, rfl⟩
  have hrt := h.take (k := i) (by omega)
  rw [← hxt] at hrt
  have HXt := Lib.hid hxt
  have HRt := Lib.hid hrt
  clear h hxl hoi hpi hpm hv hvl hsz h1 h1v hK hxt hrt
  go_enter Try.func36, Try.ntmps36
  go_wp2_with (refine wpl_append_zerosS (k := K) (i := i) (by rfl) rfl ul_ev Try.underlying3 info_ev rfl (by omega) rfl rfl HRt.out hK1 hK2 (by omega) (by omega) ?_)
  intro g2 c2 w2 L r2 e2 lo2; refine Lib.hid ?_
  have hc2 : i + K ≤ c2 := r2.2.1
  have hL2 := r2.1
  have R2 := Lib.hid r2
  have E2 := Lib.hid e2
  have HL2 := Lib.hid hL2
  have hs3 := fun w' => ev_ins_fromA (g := g2) (o := 0) (ok := pi) (n := i + K) (c := c2) (k := i) w' rfl (by omega) (by omega) Hpi.out
  have hs4 := fun w' => ev_ins_fromA (g := g2) (o := 0) (ok := pm) (n := i + K) (c := c2) (k := i + m) (li := (i : Int) + (m : Int)) w' (by omega) (by omega) (by omega) Hpm.out
  have hcz : i + K ≤ c2 ∧ (i + K) * 5 ≤ c2 * 5 := ⟨hc2, Nat.mul_le_mul_right _ hc2⟩
  clear r2 e2 hL2
  go_wp2_with (refine wpl_copyS (cs := vs) (m := m) (by rfl) rfl ul_ev Hsz.out (g := g2) (of := pi) (nd := K) (cd := c2 - i) (b := vb) (o2 := 0) (ns := m) (c2 := m) rfl rfl (by omega) Hvl.out (fun j v hj => by rw [Nat.zero_add, (Hv.out.ext E2.out).cell]; simpa using hj) (fun j hj => by rw [Hpi.out, Nat.add_assoc]; exact (R2.out.okAt (by have := Hms.out; have := Hvl.out; omega)).1) (fun j hj => by rw [Hpi.out, Nat.add_assoc]; exact (R2.out.okAt (by have := Hms.out; have := Hvl.out; omega)).2) H1v.out ?_)
  intro w3 hq3; refine Lib.hid ?_
  have hq3 := hq3.out
  have r3 := R2.out.setCells (i * 5) vs (by have := Hms.out; have := Hvl.out; omega)
  rw [← Hpi.out, ← hq3] at r3
  have ch3 : Chg (fun k => k = g2) w2 w3 := by rw [hq3]; exact chg_setCells _ g2 pi _ rfl
  have hr3 := HR.out.ext E2.out
  have hr3 := hr3.chg ch3 (fun k hk e => by have := foot_some hk; omega)
  have R3 := Lib.hid r3
  have Ch3 := Lib.hid ch3
  have HR3 := Lib.hid hr3
  have hw1 : IntKind.i64.wrap ((i : Int) + (m : Int)) = (i : Int) + (m : Int) := IntWalk.i64_in _ (by omega)
  clear r3 ch3 hr3 hq3 hs2 hs3
  go_upto_region 11 with fail
  go_region_law (refine step_copyS (cs := xs.drop (i * 5)) (m := n - i) rfl rfl ul_ev Hsz.out (g := g2) (of := pm) (nd := i + K - (i + m)) (cd := c2 - (i + m)) (b := g) (o2 := oi) (ns := n - i) (c2 := c - i) (by first | (simp [Act.eval]; done) | (go_simp; done)) (by first | (simp [Act.eval]; done) | (go_simp; done)) (by have := HK.out; omega) (by rw [List.length_drop, Hxl.out]; have := Hms.out; omega) (fun j v hj => by rw [Hoi.out, Nat.add_assoc]; refine (HR3.out.ext (Ext.drew w3)).cellAt ?_; rw [List.getElem?_drop] at hj; exact hj) (fun j hj => by rw [Hpm.out, Nat.add_assoc]; exact ((R3.out.ext (Ext.drew w3)).okAt (by rw [List.length_drop, Hxl.out] at hj; have := Hms.out; omega)).1) (fun j hj => by rw [Hpm.out, Nat.add_assoc]; exact ((R3.out.ext (Ext.drew w3)).okAt (by rw [List.length_drop, Hxl.out] at hj; have := Hms.out; omega)).2) (fun v hv => H1.out v (List.mem_of_mem_drop hv)) ?_; intro w4 Hq4)
  have hq4 := Hq4.out
  clear Hq4
  have r4 := (R3.out.ext (Ext.drew w3)).setCells ((i + m) * 5) (xs.drop (i * 5)) (by rw [List.length_drop, Hxl.out]; have := Hms.out; omega)
  rw [← Hpm.out, ← hq4, Hms.out.1, HXt.out, ins_grow (d := (n - i) * 5) (by rw [Hxl.out]; have := Hms.out; omega) Hvl.out (by rw [← HXt.out, HL2.out]; have := Hms.out; omega)] at r4
  have e04 : Ext w w4 := E2.out.trans (((Ch3.out.t (Chg.drew w3)).t (by rw [hq4]; exact chg_setCells _ g2 pm _ rfl)).below E2.out.size (fun k hk e => by omega))
  have hfin : InsP 5 (some ⟨g, o, none⟩) n c m i xs vs w (.returned (.slice (some ⟨g2, 0, none⟩) (i + K) c2)) w4 := by
    have hiK : i + K = n + m := by have := HK.out; omega
    rw [hiK] at r4 ⊢
    exact ⟨_, _, rfl, r4, Chg.ofExt e04, fun k hk => .inr (by rw [foot_some hk]; exact lo2)⟩
  have HFin := Lib.hid hfin
  clear r4 hq4 hfin e04
  go_wp2_with fail
  go_ret
  exact HFin.out
theorem ev_ins_all (A : Option Addr) (n c i : Nat) (xs : List Value) (vb m : Nat) (vs : List Value) (w : World) (h : RoomS 5 w A n c xs) (hi : i ≤ n) (hv : Blk w vb 37 vs.toArray) (hvl : vs.length = m * 5) (hm : 0 < m) (hne : ¬ foot A c vb) (h1 : ∀ v ∈ xs, v.oneCell' = true) (h1v : ∀ v ∈ vs, v.oneCell' = true) (hn : n + m ≤ 1000000) :
    Calls Try.prog 36 #[.slice A n c, .int .i64 (i : Int), .slice (some ⟨vb, 0, none⟩) m m] w (InsP 5 A n c m i xs vs w) := by
  by_cases h0 : i = n
  · subst h0; exact ev_ins_end A i c xs vb m vs w h hv hvl hm h1v hn
  · have hnc := h.2.1
    obtain ⟨g, o, rfl, _⟩ := h.some_ (by omega)
    by_cases hr : n + m ≤ c
    · exact ev_ins_room g o n c i xs vb m vs w h (by omega) hr hv hvl hm (fun e => hne ⟨by omega, o, by rw [← e]⟩) h1 h1v hn
    · exact ev_ins_grow g o n c i xs vb m vs w h (by omega) (by omega) hv hvl hm h1 h1v hn
theorem ee_ins_from {A : Option Addr} {n c k : Nat} {li : Int} (w : World) (e : li = (k : Int)) (hk : k ≤ n) :
    (Instr.sliceAt 31 (.slice A n c) (some (.int .i64 li)) none none).run Try.prog w = .ok (.slice (fromS 1 A c k) (n - k) (c - k)) w := by
  subst e
  have h1 : (k : Int) ≤ (n : Int) := by omega
  have h2 : (0 : Int) ≤ (k : Int) := by omega
  simp [go_sem, sliced, fromS, h1]
theorem ee_ins_fromA {g o ok n c k : Nat} {li : Int} (w : World) (e : li = (k : Int)) (hk : k ≤ n) (hc : c ≠ k) (ho : ok = o + k * 1) :
    (Instr.sliceAt 31 (.slice (some ⟨g, o, none⟩) n c) (some (.int .i64 li)) none none).run Try.prog w = .ok (.slice (some ⟨g, ok, none⟩) (n - k) (c - k)) w := by
  rw [ee_ins_from w e hk, fromS, if_neg hc, ho]
  simp [Addr.add_lit]
theorem ee_ins_to {A : Option Addr} {n c hi : Nat} {li : Int} (w : World) (e : li = (hi : Int)) (h2 : hi ≤ c) :
    (Instr.sliceAt 31 (.slice A n c) none (some (.int .i64 li)) none).run Try.prog w = .ok (.slice A hi c) w := by
  subst e
  have h4 : (hi : Int) ≤ (c : Int) := by omega
  have h5 : (0 : Int) ≤ (hi : Int) := by omega
  simp [go_sem, sliced, h4, Addr.add]
set_option maxRecDepth 100000 in
set_option maxHeartbeats 1000000 in
theorem ee_ins_end (A : Option Addr) (n c : Nat) (xs : List Value) (vb m : Nat) (vs : List Value) (w : World) (h : RoomS 1 w A n c xs) (hv : Blk w vb 24 vs.toArray) (hvl : vs.length = m * 1) (hm : 0 < m) (h1v : ∀ v ∈ vs, v.oneCell' = true) (hn : n + m ≤ 1000000) :
    Calls Try.prog 34 #[.slice A n c, .int .i64 (n : Int), .slice (some ⟨vb, 0, none⟩) m m] w (InsP 1 A n c m n xs vs w) := by
  have hz1 : ((m : Int) == 0) = false := by simp; omega
  have hz2 : ((n : Int) == (n : Int)) = true := by simp
  have hsl := fun w' => ee_ins_from (A := A) (n := n) (c := c) (k := n) w' rfl (Nat.le_refl _)
  have hsrc : Src Try.prog 1 31 (.slice (some ⟨vb, 0, none⟩) m m) m vs w := Src.ofSlice w ul_ee ⟨vb, 0, none⟩ m m vs hvl (fun j u hu => by rw [Addr.add_lit, Nat.zero_add, hv.cell]; simpa using hu) h1v
  have HR := Lib.hid h
  have Hsrc := Lib.hid hsrc
  clear h hsrc hv
  go_enter Try.func34, Try.ntmps34
  go_wp2_with (refine wpl_append_atS (by rfl) rfl ul_ee info_ee rfl rfl HR.out rfl Hsrc.out (by simp only [maxLen]; omega) (by omega) ?_)
  intro A2 c2 w2 r2 ch2 ft2; refine Lib.hid ?_
  have hfin : InsP 1 A n c m n xs vs w (.returned (.slice A2 (n + m) c2)) w2 := ⟨A2, c2, rfl, by
    rw [List.take_of_length_le (by rw [HR.out.1]; exact Nat.le_refl _), List.drop_eq_nil_of_le (by rw [HR.out.1]; exact Nat.le_refl _), List.append_nil]; exact r2, ch2, ft2⟩
  have HFin := Lib.hid hfin
  clear r2 ch2 ft2 hfin
  go_wp2_with fail
  go_ret
  exact HFin.out
set_option maxRecDepth 100000 in
set_option maxHeartbeats 1000000 in
theorem ee_ins_room (g o : Nat) (n c i : Nat) (xs : List Value) (vb m : Nat) (vs : List Value) (w : World) (h : RoomS 1 w (some ⟨g, o, none⟩) n c xs) (hi : i < n) (hr : n + m ≤ c) (hv : Blk w vb 24 vs.toArray) (hvl : vs.length = m * 1) (hm : 0 < m) (hne : g ≠ vb) (h1 : ∀ v ∈ xs, v.oneCell' = true) (h1v : ∀ v ∈ vs, v.oneCell' = true) (hn : n + m ≤ 1000000) :
    Calls Try.prog 34 #[.slice (some ⟨g, o, none⟩) n c, .int .i64 (i : Int), .slice (some ⟨vb, 0, none⟩) m m] w (InsP 1 (some ⟨g, o, none⟩) n c m i xs vs w) := by
  have hz1 : ((m : Int) == 0) = false := by simp; omega
  have hz2 : ((i : Int) == (n : Int)) = false := by simp; omega
  have hz3 : ¬ (c : Int) < (n : Int) + (m : Int) := by omega
  obtain ⟨oi, hoi⟩ : ∃ oi, oi = o + i * 1 := ⟨_, rfl⟩
  obtain ⟨om, hom⟩ : ∃ om, om = o + (i + m) * 1 := ⟨_, rfl⟩
  obtain ⟨tB, kB, hsb, hkB⟩ := shape_of_room h (by omega) (by omega)
  have hov : ∀ lb cb, (callFunc 60 #[.slice (some ⟨vb, 0, none⟩) m m, .slice (some ⟨g, om, none⟩) lb cb]).run Try.prog w = .ok (.value (.bool false)) w := fun lb cb => by
    rw [run_callFunc_extern Try.func60 (by kernel_rfl) (by kernel_rfl) (by kernel_rfl) (e := Extern.SlicesOverlaps.overlaps #[31, 31] #[4]) (by kernel_rfl),
      Lib.run_overlaps_apart w 31 4 24 ul_ee 1 (fun _ => by kernel_rfl) ⟨vb, 0, none⟩ ⟨g, om, none⟩ m m lb cb (fun e => hne e.symm) 24 tB vs.toArray.size kB (by unfold World.shape?; rw [hv]) hsb hkB (hv.frozen 0) (hv.frozen _)]
    rfl
  obtain ⟨L, hw⟩ := h.wide (n' := n + m) (by omega) hr
  have hxl := h.1
  have hs1 := fun w' => ee_ins_from (A := some ⟨g, o, none⟩) (n := n) (c := c) (k := i) w' rfl (by omega)
  have hs2 := fun w' => ee_ins_to (A := some ⟨g, o, none⟩) (n := n) (c := c) (hi := n + m) (li := (n : Int) + (m : Int)) w' (by omega) hr
  have hs3 := fun w' => ee_ins_fromA (g := g) (o := o) (ok := om) (n := n + m) (c := c) (k := i + m) (li := (i : Int) + (m : Int)) w' (by omega) (by omega) (by omega) hom
  have hs4 := fun w' => ee_ins_fromA (g := g) (o := o) (ok := oi) (n := n + m) (c := c) (k := i) w' rfl (by omega) (by omega) hoi
  have hsz : (Try.prog.info? 24).map (·.size) = some 1 := by obtain ⟨i0, h0, _, h2, _⟩ := info_parts info_ee; rw [h0]; simp [h2]
  have HW := Lib.hid hw
  have Hxl := Lib.hid hxl
  have Hoi := Lib.hid hoi
  have Hom := Lib.hid hom
  have Hv := Lib.hid hv
  have Hvl := Lib.hid hvl
  have Hsz := Lib.hid hsz
  have H1 := Lib.hid h1
  have H1v := Lib.hid h1v
  have Hl2 : Hid ((xs ++ L).length = (n + m) * 1) := Lib.hid hw.1
  have Hms : Hid ((i + m) * 1 = i * 1 + m * 1 ∧ (n + m) * 1 = n * 1 + m * 1 ∧ i * 1 ≤ n * 1 ∧ (n + m) * 1 ≤ c * 1 ∧ (n - i) * 1 = n * 1 - i * 1) := Lib.hid ⟨Nat.add_mul _ _ _, Nat.add_mul _ _ _, Nat.mul_le_mul_right _ (by omega), Nat.mul_le_mul_right _ hr, Nat.sub_mul _ _ _⟩
  have hw1 : IntKind.i64.wrap ((i : Int) + (m : Int)) = (i : Int) + (m : Int) := IntWalk.i64_in _ (by omega)
  clear h hsb hkB hw hxl hoi hom hv hvl hsz h1 h1v
  go_enter Try.func34, Try.ntmps34
  go_wp2_with fail
  go_upto_region 15 with fail
  go_region_law (refine step_copyS (cs := xs.drop (i * 1)) (m := n - i) rfl rfl ul_ee Hsz.out (g := g) (of := om) (nd := n + m - (i + m)) (cd := c - (i + m)) (b := g) (o2 := oi) (ns := n + m - i) (c2 := c - i) (by first | (simp [Act.eval]; done) | (go_simp; done)) (by first | (simp [Act.eval]; done) | (go_simp; done)) (by omega) (by rw [List.length_drop, Hxl.out]; have := Hms.out; omega) (fun j v hj => by rw [Hoi.out, Nat.add_assoc]; refine (HW.out.ext (Ext.drew w)).cellAt ?_; rw [List.getElem?_drop] at hj; rw [List.getElem?_append_left (by have := (List.getElem?_eq_some_iff.1 hj).1; omega)]; exact hj) (fun j hj => by rw [Hom.out, Nat.add_assoc]; exact ((HW.out.ext (Ext.drew w)).okAt (by rw [List.length_drop, Hxl.out] at hj; have := Hms.out; omega)).1) (fun j hj => by rw [Hom.out, Nat.add_assoc]; exact ((HW.out.ext (Ext.drew w)).okAt (by rw [List.length_drop, Hxl.out] at hj; have := Hms.out; omega)).2) (fun v hv => H1.out v (List.mem_of_mem_drop hv)) ?_; intro w1 Hq1)
  have hq1 := Hq1.out
  clear Hq1
  have r1 : RoomS 1 w1 (some ⟨g, o, none⟩) (n + m) c ((xs ++ L).take ((i + m) * 1) ++ xs.drop (i * 1) ++ (xs ++ L).drop ((i + m) * 1 + (xs.drop (i * 1)).length)) := by
    rw [hq1, Hom.out]
    exact (HW.out.ext (Ext.drew w)).setCells ((i + m) * 1) (xs.drop (i * 1)) (by rw [List.length_drop, Hxl.out]; have := Hms.out; omega)
  have ch1 : Chg (foot (some ⟨g, o, none⟩) c) w w1 := (Chg.drew w).t (by rw [hq1]; exact chg_setCells _ g om _ ⟨by omega, o, rfl⟩)
  have bv := Hv.out.chg ch1 (fun h => hne (foot_some h).symm)
  have R1 := Lib.hid r1
  have Ch1 := Lib.hid ch1
  have Bv := Lib.hid bv
  clear r1 ch1 bv hq1 hov
  go_wp2_with (refine wpl_copyS (cs := vs) (m := m) (by rfl) rfl ul_ee Hsz.out (g := g) (of := oi) (nd := n + m - i) (cd := c - i) (b := vb) (o2 := 0) (ns := m) (c2 := m) rfl rfl (by omega) Hvl.out (fun j v hj => by rw [Nat.zero_add, Bv.out.cell]; simpa using hj) (fun j hj => by rw [Hoi.out, Nat.add_assoc]; exact (R1.out.okAt (by have := Hms.out; have := Hvl.out; omega)).1) (fun j hj => by rw [Hoi.out, Nat.add_assoc]; exact (R1.out.okAt (by have := Hms.out; have := Hvl.out; omega)).2) H1v.out ?_)
  intro w2 hq2; refine Lib.hid ?_
  have hq2 := hq2.out
  have r2 := R1.out.setCells (i * 1) vs (by have := Hms.out; have := Hvl.out; omega)
  rw [← Hoi.out, ← hq2, Hms.out.1, ins_room (d := (n - i) * 1) (by rw [Hxl.out]; have := Hms.out; omega) Hvl.out (by rw [Hl2.out]; have := Hms.out; omega)] at r2
  have hfin : InsP 1 (some ⟨g, o, none⟩) n c m i xs vs w (.returned (.slice (some ⟨g, o, none⟩) (n + m) c)) w2 := ⟨_, _, rfl, r2, Ch1.out.t (by rw [hq2]; exact chg_setCells _ g oi _ ⟨by omega, o, rfl⟩), fun k hk => .inl hk⟩
  have HFin := Lib.hid hfin
  clear r2 hq2 hfin
  go_wp2_with fail
  go_ret
  exact HFin.out
set_option maxRecDepth 100000 in
set_option maxHeartbeats 1000000 in
theorem ee_ins_grow (g o : Nat) (n c i : Nat) (xs : List Value) (vb m : Nat) (vs : List Value) (w : World) (h : RoomS 1 w (some ⟨g, o, none⟩) n c xs) (hi : i < n) (hr : c < n + m) (hv : Blk w vb 24 vs.toArray) (hvl : vs.length = m * 1) (hm : 0 < m) (h1 : ∀ v ∈ xs, v.oneCell' = true) (h1v : ∀ v ∈ vs, v.oneCell' = true) (hn : n + m ≤ 1000000) :
    Calls Try.prog 34 #[.slice (some ⟨g, o, none⟩) n c, .int .i64 (i : Int), .slice (some ⟨vb, 0, none⟩) m m] w (InsP 1 (some ⟨g, o, none⟩) n c m i xs vs w) := by
  have hz1 : ((m : Int) == 0) = false := by simp; omega
  have hz2 : ((i : Int) == (n : Int)) = false := by simp; omega
  have hz3 : (c : Int) < (n : Int) + (m : Int) := by omega
  have hnc := h.2.1
  obtain ⟨oi, hoi⟩ : ∃ oi, oi = o + i * 1 := ⟨_, rfl⟩
  obtain ⟨pi, hpi⟩ : ∃ pi, pi = 0 + i * 1 := ⟨_, rfl⟩
  obtain ⟨pm, hpm⟩ : ∃ pm, pm = 0 + (i + m) * 1 := ⟨_, rfl⟩
  obtain ⟨K, hK⟩ : ∃ K, K = n + m - i := ⟨_, rfl⟩
  have hKI : (n : Int) + (m : Int) - (i : Int) = (K : Int) := by omega
  have hxl := h.1
  have hs1 := fun w' => ee_ins_fromA (g := g) (o := o) (ok := oi) (n := n) (c := c) (k := i) w' rfl (by omega) (by omega) hoi
  have hs2 := fun w' => ee_ins_to (A := some ⟨g, o, none⟩) (n := n) (c := c) (hi := i) w' rfl (by omega)
  have hsz : (Try.prog.info? 24).map (·.size) = some 1 := by obtain ⟨i0, h0, _, h2, _⟩ := info_parts info_ee; rw [h0]; simp [h2]
  have HR := Lib.hid h
  have Hxl := Lib.hid hxl
  have Hoi := Lib.hid hoi
  have Hpi := Lib.hid hpi
  have Hpm := Lib.hid hpm
  have Hv := Lib.hid hv
  have Hvl := Lib.hid hvl
  have Hsz := Lib.hid hsz
  have H1 := Lib.hid h1
  have H1v := Lib.hid h1v
  have HK := Lib.hid hK
  have Hms : Hid ((i + m) * 1 = i * 1 + m * 1 ∧ (n + m) * 1 = n * 1 + m * 1 ∧ i * 1 ≤ n * 1 ∧ (n - i) * 1 = n * 1 - i * 1 ∧ (i + K) * 1 = (n + m) * 1) := Lib.hid ⟨Nat.add_mul _ _ _, Nat.add_mul _ _ _, Nat.mul_le_mul_right _ (by omega), Nat.sub_mul _ _ _, by rw [show i + K = n + m by omega]⟩
  have hK1 : 0 < K := by omega
  have hK2 : c < i + K := by omega
  have hK3 : i + K ≤ 1000000 := by omega
  have hK4 : i + m < i + K := by omega
  have hgw : g < w.heap.size := by obtain ⟨g', o', e, hg⟩ := h.some_ (by omega); cases e; exact hg
  obtain ⟨xt, hxt⟩ : ∃ xt, xt = xs.take (i * 1) := ⟨_, rfl⟩
  have hrt := h.take (k := i) (by omega)
  rw [← hxt] at hrt
  have HXt := Lib.hid hxt
  have HRt := Lib.hid hrt
  clear h hxl hoi hpi hpm hv hvl hsz h1 h1v hK hxt hrt
  go_enter Try.func34, Try.ntmps34
  go_wp2_with (refine wpl_append_zerosS (k := K) (i := i) (by rfl) rfl ul_ee Try.underlying3 info_ee rfl (by omega) rfl rfl HRt.out hK1 hK2 (by omega) (by omega) ?_)
  intro g2 c2 w2 L r2 e2 lo2; refine Lib.hid ?_
  have hc2 : i + K ≤ c2 := r2.2.1
  have hL2 := r2.1
  have R2 := Lib.hid r2
  have E2 := Lib.hid e2
  have HL2 := Lib.hid hL2
  have hs3 := fun w' => ee_ins_fromA (g := g2) (o := 0) (ok := pi) (n := i + K) (c := c2) (k := i) w' rfl (by omega) (by omega) Hpi.out
  have hs4 := fun w' => ee_ins_fromA (g := g2) (o := 0) (ok := pm) (n := i + K) (c := c2) (k := i + m) (li := (i : Int) + (m : Int)) w' (by omega) (by omega) (by omega) Hpm.out
  have hcz : i + K ≤ c2 ∧ (i + K) * 1 ≤ c2 * 1 := ⟨hc2, Nat.mul_le_mul_right _ hc2⟩
  clear r2 e2 hL2
  go_wp2_with (refine wpl_copyS (cs := vs) (m := m) (by rfl) rfl ul_ee Hsz.out (g := g2) (of := pi) (nd := K) (cd := c2 - i) (b := vb) (o2 := 0) (ns := m) (c2 := m) rfl rfl (by omega) Hvl.out (fun j v hj => by rw [Nat.zero_add, (Hv.out.ext E2.out).cell]; simpa using hj) (fun j hj => by rw [Hpi.out, Nat.add_assoc]; exact (R2.out.okAt (by have := Hms.out; have := Hvl.out; omega)).1) (fun j hj => by rw [Hpi.out, Nat.add_assoc]; exact (R2.out.okAt (by have := Hms.out; have := Hvl.out; omega)).2) H1v.out ?_)
  intro w3 hq3; refine Lib.hid ?_
  have hq3 := hq3.out
  have r3 := R2.out.setCells (i * 1) vs (by have := Hms.out; have := Hvl.out; omega)
  rw [← Hpi.out, ← hq3] at r3
  have ch3 : Chg (fun k => k = g2) w2 w3 := by rw [hq3]; exact chg_setCells _ g2 pi _ rfl
  have hr3 := HR.out.ext E2.out
  have hr3 := hr3.chg ch3 (fun k hk e => by have := foot_some hk; omega)
  have R3 := Lib.hid r3
  have Ch3 := Lib.hid ch3
  have HR3 := Lib.hid hr3
  have hw1 : IntKind.i64.wrap ((i : Int) + (m : Int)) = (i : Int) + (m : Int) := IntWalk.i64_in _ (by omega)
  clear r3 ch3 hr3 hq3 hs2 hs3
  go_upto_region 11 with fail
  go_region_law (refine step_copyS (cs := xs.drop (i * 1)) (m := n - i) rfl rfl ul_ee Hsz.out (g := g2) (of := pm) (nd := i + K - (i + m)) (cd := c2 - (i + m)) (b := g) (o2 := oi) (ns := n - i) (c2 := c - i) (by first | (simp [Act.eval]; done) | (go_simp; done)) (by first | (simp [Act.eval]; done) | (go_simp; done)) (by have := HK.out; omega) (by rw [List.length_drop, Hxl.out]; have := Hms.out; omega) (fun j v hj => by rw [Hoi.out, Nat.add_assoc]; refine (HR3.out.ext (Ext.drew w3)).cellAt ?_; rw [List.getElem?_drop] at hj; exact hj) (fun j hj => by rw [Hpm.out, Nat.add_assoc]; exact ((R3.out.ext (Ext.drew w3)).okAt (by rw [List.length_drop, Hxl.out] at hj; have := Hms.out; omega)).1) (fun j hj => by rw [Hpm.out, Nat.add_assoc]; exact ((R3.out.ext (Ext.drew w3)).okAt (by rw [List.length_drop, Hxl.out] at hj; have := Hms.out; omega)).2) (fun v hv => H1.out v (List.mem_of_mem_drop hv)) ?_; intro w4 Hq4)
  have hq4 := Hq4.out
  clear Hq4
  have r4 := (R3.out.ext (Ext.drew w3)).setCells ((i + m) * 1) (xs.drop (i * 1)) (by rw [List.length_drop, Hxl.out]; have := Hms.out; omega)
  rw [← Hpm.out, ← hq4, Hms.out.1, HXt.out, ins_grow (d := (n - i) * 1) (by rw [Hxl.out]; have := Hms.out; omega) Hvl.out (by rw [← HXt.out, HL2.out]; have := Hms.out; omega)] at r4
  have e04 : Ext w w4 := E2.out.trans (((Ch3.out.t (Chg.drew w3)).t (by rw [hq4]; exact chg_setCells _ g2 pm _ rfl)).below E2.out.size (fun k hk e => by omega))
  have hfin : InsP 1 (some ⟨g, o, none⟩) n c m i xs vs w (.returned (.slice (some ⟨g2, 0, none⟩) (i + K) c2)) w4 := by
    have hiK : i + K = n + m := by have := HK.out; omega
    rw [hiK] at r4 ⊢
    exact ⟨_, _, rfl, r4, Chg.ofExt e04, fun k hk => .inr (by rw [foot_some hk]; exact lo2)⟩
  have HFin := Lib.hid hfin
  clear r4 hq4 hfin e04
  go_wp2_with fail
  go_ret
  exact HFin.out
theorem ee_ins_all (A : Option Addr) (n c i : Nat) (xs : List Value) (vb m : Nat) (vs : List Value) (w : World) (h : RoomS 1 w A n c xs) (hi : i ≤ n) (hv : Blk w vb 24 vs.toArray) (hvl : vs.length = m * 1) (hm : 0 < m) (hne : ¬ foot A c vb) (h1 : ∀ v ∈ xs, v.oneCell' = true) (h1v : ∀ v ∈ vs, v.oneCell' = true) (hn : n + m ≤ 1000000) :
    Calls Try.prog 34 #[.slice A n c, .int .i64 (i : Int), .slice (some ⟨vb, 0, none⟩) m m] w (InsP 1 A n c m i xs vs w) := by
  by_cases h0 : i = n
  · subst h0; exact ee_ins_end A i c xs vb m vs w h hv hvl hm h1v hn
  · have hnc := h.2.1
    obtain ⟨g, o, rfl, _⟩ := h.some_ (by omega)
    by_cases hr : n + m ≤ c
    · exact ee_ins_room g o n c i xs vb m vs w h (by omega) hr hv hvl hm (fun e => hne ⟨by omega, o, by rw [← e]⟩) h1 h1v hn
    · exact ee_ins_grow g o n c i xs vb m vs w h (by omega) (by omega) hv hvl hm h1 h1v hn
end Go.Proofs.Ytkeapijehfacfaa
