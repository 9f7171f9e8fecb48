/- Kcm: the fields of a key, and comparing two keys. -/
import Derived.Test.YtdjpggnadelnaaaEvm
import Derived.Test.YtdjpggnadelnaaaItr
import Derived.Laws.StructEq
import Derived.RegionTactic
import Derived.Deep.CutRange
import Derived.Deep.RegionHeldLaw
import Derived.StillTailTactics
import Derived.Outline
import Derived.Deep.LoopGhost
namespace Go.Proofs.Ytdjpggnadelnaaa
open Go.RowKit Go.Fx
attribute [local go_sem] Oper.semAt_some
theorem nan_ (a : Int) (w : World) : Calls Try.prog 79 #[.int .i64 a] w fun e w' => e = .returned (.bool false) ∧ w = w' := by
  have hq : (a != a) = false := by simp
  go_enter Try.func79, Try.ntmps79
  go_wp2
  go_ret
  exact ⟨rfl, rfl⟩
/-- cmp.Compare of two integers. -/
def cmpI (a b : Int) : Int := if a < b then -1 else if b < a then 1 else 0
theorem compareI (a b : Int) (w : World) : Calls Try.prog 77 #[.int .i64 a, .int .i64 b] w fun e w' => e = .returned (.int .i64 (cmpI a b)) ∧ w = w' := by
  unfold cmpI
  by_cases h1 : a < b
  · rw [if_pos h1]
    go_enter Try.func77, Try.ntmps77
    go_wp2_with (go_at_call 79; refine (nan_ _ _).mono ?_; rintro e w' ⟨rfl, rfl⟩)
    go_ret
    exact ⟨rfl, rfl⟩
  · rw [if_neg h1]
    by_cases h2 : b < a
    · rw [if_pos h2]
      go_enter Try.func77, Try.ntmps77
      go_wp2_with (go_at_call 79; refine (nan_ _ _).mono ?_; rintro e w' ⟨rfl, rfl⟩)
      go_ret
      exact ⟨rfl, rfl⟩
    · rw [if_neg h2]
      go_enter Try.func77, Try.ntmps77
      go_wp2_with (go_at_call 79; refine (nan_ _ _).mono ?_; rintro e w' ⟨rfl, rfl⟩)
      go_ret
      exact ⟨rfl, rfl⟩
theorem fields_ (p : Addr) (w : World) :
    Calls Try.prog 69 #[.pointer (some p)] w fun e w' => e = .returned (.func (.func 75) #[] #[.pointer (some ⟨w.heap.size, 0, none⟩)]) ∧ w.alloc (.cells #[.pointer (some p)] 122) = w' := by
  go_enter Try.func69, Try.ntmps69
  go_wp2
  go_ret
  exact ⟨rfl, rfl⟩
/-- The three fields of the key in block g. -/
def flC (g : Nat) : Nat → List Value
  | 0 => [.pointer (some ⟨g, 0, none⟩), .int .i64 281474976710656, .int .i64 7, .string { data := #[] }]
  | 1 => [.pointer (some ⟨g, 1, none⟩), .int .i64 16, .int .i64 1, .string { data := #[64] }]
  | _ => [.pointer (some ⟨g, 2, none⟩), .int .i64 4294967295, .int .i64 4, .string { data := #[35] }]
theorem flC_len (g i : Nat) : (flC g i).length = 4 := by
  match i with
  | 0 => rfl
  | 1 => rfl
  | _ + 2 => rfl
theorem flC_one (g i : Nat) : ∀ u ∈ flC g i, u.oneCell' = true := by
  intro u hu
  match i with
  | 0 => simp only [flC, List.mem_cons, List.not_mem_nil, or_false] at hu; rcases hu with rfl | rfl | rfl | rfl <;> rfl
  | 1 => simp only [flC, List.mem_cons, List.not_mem_nil, or_false] at hu; rcases hu with rfl | rfl | rfl | rfl <;> rfl
  | _ + 2 => simp only [flC, List.mem_cons, List.not_mem_nil, or_false] at hu; rcases hu with rfl | rfl | rfl | rfl <;> rfl
set_option maxRecDepth 100000 in
set_option maxHeartbeats 1000000 in
theorem fields1 (l Bx g : Nat) (J0 : World → Prop) (J : (Nat → Prop) → Nat → World → Prop) (X : World → Prop)
    (hB : ∀ W, J0 W → Blk W Bx 122 #[.pointer (some ⟨g, 0, none⟩)])
    (hI : IterH Try.prog l (fun o => #[.agg (flC g o).toArray]) 3 J0 J X)
    (W : World) (h0 : J0 W) :
    Calls Try.prog 75 #[.func (.yield l) #[] #[], .pointer (some ⟨Bx, 0, none⟩)] W (IterP 3 J X) := by
  have hbx := hB W h0
  have hcb := hbx.cell0
  have HI := Lib.hid hI
  have H0 := Lib.hid h0
  clear hB hI h0 hbx
  go_enter Try.func75, Try.ntmps75
  go_wp2_with fail
  go_region
  obtain ⟨W1, hW1⟩ : ∃ W1, W1 = (W.alloc (.cells (List.flatMap (flC g) [0, 1, 2]).toArray 125)).drew := ⟨_, rfl⟩
  have hb : Blk W1 W.heap.size 125 (List.flatMap (flC g) [0, 1, 2]).toArray := by rw [hW1]; exact (Blk.new _ _ _)
  have H1 : Hid (J (fun k => k = W.heap.size) 0 W1) := Lib.hid (by rw [hW1]; exact HI.out.start _ _ _ H0.out ((Ext.alloc _ _).t (Ext.drew _)) (fun k hk => by subst hk; exact ⟨Nat.le_refl _, by simp⟩))
  change Exit.then _ _ _ _ ((W.alloc (.cells (List.flatMap (flC g) [0, 1, 2]).toArray 125)).drew)
  rw [← hW1]
  generalize W.heap.size = B at *
  have Hb := Lib.hid hb
  clear hW1 hb hcb H0
  go_wp2_with fail
  go_loopw [19] (fun i wr => ∃ k : Nat, k ≤ 3 ∧ i = .int .i64 (k : Int) ∧ Hid (J (fun k => k = B) k wr ∧ Blk wr B 125 (List.flatMap (flC g) [0, 1, 2]).toArray)) (fun i _ => 3 - (intOf i).toNat)
  case atStart => exact ⟨0, by omega, rfl, Lib.hid ⟨H1.out, Hb.out⟩⟩
  case round =>
    clear H1 Hb
    obtain ⟨k, hk, rfl, H⟩ := hrel
    by_cases hlt : k < 3
    · obtain ⟨hj, hb⟩ := H.out
      have Hk := Lib.hid (show k = 0 ∨ k = 1 ∨ k = 2 by omega)
      clear hk hlt
      rcases Hk.out with rfl | rfl | rfl
      · clear Hk
        have c0 : wr.cell? ⟨B, 0, none⟩ = some (.pointer (some ⟨g, 0, none⟩)) := by rw [hb.cell]; rfl
        have c1 : wr.cell? ⟨B, 1, none⟩ = some (.int .i64 281474976710656) := by rw [hb.cell]; rfl
        have c2 : wr.cell? ⟨B, 2, none⟩ = some (.int .i64 7) := by rw [hb.cell]; rfl
        have c3 : wr.cell? ⟨B, 3, none⟩ = some (.string { data := #[] }) := by rw [hb.cell]; rfl
        have HB := Lib.hid hb
        have HJ := Lib.hid hj
        clear hb hj H
        go_upto_region 3 with fail
        have hyy := HI.out.yield _ _ _ (by omega) (HI.out.ext _ _ _ _ HJ.out (Ext.alloc wr (.cells #[.pointer (some ⟨g, 0, none⟩), .int .i64 281474976710656, .int .i64 7, .string { data := #[] }] 125)))
        change YieldAt Fence.wide 8 _ l #[.agg #[.pointer (some ⟨g, 0, none⟩), .int .i64 281474976710656, .int .i64 7, .string { data := #[] }]] _ _ at hyy
        obtain ⟨fn, tmps, assign, body, hy, hRn⟩ := hyy
        have HRn := Lib.hid hRn
        have HB1 := Lib.hid (HB.out.alloc (.cells #[.pointer (some ⟨g, 0, none⟩), .int .i64 281474976710656, .int .i64 7, .string { data := #[] }] 125))
        clear hRn HB HJ c0 c1 c2 c3
        refine (wpIn_wide (n := 9)).1 ?_
        gi_wp2
        refine HRn.out.mono ?_
        rintro e W' (⟨rfl, hJ', hT⟩ | ⟨rfl, hX'⟩)
        · have HJ' := Lib.hid hJ'
          have HB' := Lib.hid (blk_of HB1.out (hT _ rfl))
          clear hJ' hT hy HB1 HRn
          gi_wp2
          go_wp2_with fail
          go_roundw
          case rel => exact ⟨1, by omega, by go_num, Lib.hid ⟨HJ'.out, HB'.out⟩⟩
          case measure => simp [intOf]
        · have HX := Lib.hid hX'
          clear hX' hy
          gi_wp2
          go_wp2_with fail
          refine bodyPost_ret (results_none rfl _ _ _) rfl ?_
          exact ⟨⟨_, rfl⟩, .inr HX.out⟩
      · clear Hk
        have c0 : wr.cell? ⟨B, 4, none⟩ = some (.pointer (some ⟨g, 1, none⟩)) := by rw [hb.cell]; rfl
        have c1 : wr.cell? ⟨B, 5, none⟩ = some (.int .i64 16) := by rw [hb.cell]; rfl
        have c2 : wr.cell? ⟨B, 6, none⟩ = some (.int .i64 1) := by rw [hb.cell]; rfl
        have c3 : wr.cell? ⟨B, 7, none⟩ = some (.string { data := #[64] }) := by rw [hb.cell]; rfl
        have HB := Lib.hid hb
        have HJ := Lib.hid hj
        clear hb hj H
        go_upto_region 3 with fail
        have hyy := HI.out.yield _ _ _ (by omega) (HI.out.ext _ _ _ _ HJ.out (Ext.alloc wr (.cells #[.pointer (some ⟨g, 1, none⟩), .int .i64 16, .int .i64 1, .string { data := #[64] }] 125)))
        change YieldAt Fence.wide 8 _ l #[.agg #[.pointer (some ⟨g, 1, none⟩), .int .i64 16, .int .i64 1, .string { data := #[64] }]] _ _ at hyy
        obtain ⟨fn, tmps, assign, body, hy, hRn⟩ := hyy
        have HRn := Lib.hid hRn
        have HB1 := Lib.hid (HB.out.alloc (.cells #[.pointer (some ⟨g, 1, none⟩), .int .i64 16, .int .i64 1, .string { data := #[64] }] 125))
        clear hRn HB HJ c0 c1 c2 c3
        refine (wpIn_wide (n := 9)).1 ?_
        gi_wp2
        refine HRn.out.mono ?_
        rintro e W' (⟨rfl, hJ', hT⟩ | ⟨rfl, hX'⟩)
        · have HJ' := Lib.hid hJ'
          have HB' := Lib.hid (blk_of HB1.out (hT _ rfl))
          clear hJ' hT hy HB1 HRn
          gi_wp2
          go_wp2_with fail
          go_roundw
          case rel => exact ⟨2, by omega, by go_num, Lib.hid ⟨HJ'.out, HB'.out⟩⟩
          case measure => simp [intOf]
        · have HX := Lib.hid hX'
          clear hX' hy
          gi_wp2
          go_wp2_with fail
          refine bodyPost_ret (results_none rfl _ _ _) rfl ?_
          exact ⟨⟨_, rfl⟩, .inr HX.out⟩
      · clear Hk
        have c0 : wr.cell? ⟨B, 8, none⟩ = some (.pointer (some ⟨g, 2, none⟩)) := by rw [hb.cell]; rfl
        have c1 : wr.cell? ⟨B, 9, none⟩ = some (.int .i64 4294967295) := by rw [hb.cell]; rfl
        have c2 : wr.cell? ⟨B, 10, none⟩ = some (.int .i64 4) := by rw [hb.cell]; rfl
        have c3 : wr.cell? ⟨B, 11, none⟩ = some (.string { data := #[35] }) := by rw [hb.cell]; rfl
        have HB := Lib.hid hb
        have HJ := Lib.hid hj
        clear hb hj H
        go_upto_region 3 with fail
        have hyy := HI.out.yield _ _ _ (by omega) (HI.out.ext _ _ _ _ HJ.out (Ext.alloc wr (.cells #[.pointer (some ⟨g, 2, none⟩), .int .i64 4294967295, .int .i64 4, .string { data := #[35] }] 125)))
        change YieldAt Fence.wide 8 _ l #[.agg #[.pointer (some ⟨g, 2, none⟩), .int .i64 4294967295, .int .i64 4, .string { data := #[35] }]] _ _ at hyy
        obtain ⟨fn, tmps, assign, body, hy, hRn⟩ := hyy
        have HRn := Lib.hid hRn
        have HB1 := Lib.hid (HB.out.alloc (.cells #[.pointer (some ⟨g, 2, none⟩), .int .i64 4294967295, .int .i64 4, .string { data := #[35] }] 125))
        clear hRn HB HJ c0 c1 c2 c3
        refine (wpIn_wide (n := 9)).1 ?_
        gi_wp2
        refine HRn.out.mono ?_
        rintro e W' (⟨rfl, hJ', hT⟩ | ⟨rfl, hX'⟩)
        · have HJ' := Lib.hid hJ'
          have HB' := Lib.hid (blk_of HB1.out (hT _ rfl))
          clear hJ' hT hy HB1 HRn
          gi_wp2
          go_wp2_with fail
          go_roundw
          case rel => exact ⟨3, by omega, by go_num, Lib.hid ⟨HJ'.out, HB'.out⟩⟩
          case measure => simp [intOf]
        · have HX := Lib.hid hX'
          clear hX' hy
          gi_wp2
          go_wp2_with fail
          refine bodyPost_ret (results_none rfl _ _ _) rfl ?_
          exact ⟨⟨_, rfl⟩, .inr HX.out⟩
    · obtain rfl : k = 3 := by omega
      have HJ := Lib.hid H.out.1
      go_wp2_with fail
      try refine bodyPost_ret (results_none rfl _ _ _) rfl ?_
      exact ⟨⟨_, rfl⟩, .inl ⟨_, HJ.out⟩⟩
end Go.Proofs.Ytdjpggnadelnaaa
