/- The examples of the chapter: awake answers true and writes nothing that was there. -/
import Derived.Test.YtidjimkhppfjjaaNumI
namespace Go.Proofs.Ytidjimkhppfjjaa
open Go.RowKit Go.Fx

theorem ex_all : Num.all [0, 246, 247, 256, 18446744073709551615] = [0, 246, 247, 247, 248, 1, 0, 254, 255, 255, 255, 255, 255, 255, 255, 255] := by decide +kernel
theorem ex_r1 : Num.readAt [247, 246] 0 = (0, 0, 11) := by decide +kernel
theorem ex_r2 : Num.readAt [248, 0, 5] 0 = (0, 0, 11) := by decide +kernel
theorem ex_r3 : Num.readAt [248, 1] 0 = (0, 0, 10) := by decide +kernel
theorem ex_r4 : Num.readAt [255] 0 = (0, 0, 11) := by decide +kernel
theorem ex_i : Num.intAt [5] 0 6 9 = (0, 0, 12) := by decide +kernel
theorem ex_s : Num.split [5, 247, 255, 0] = ([5, 255, 0], 0) := by decide +kernel
theorem ex_f1 : Num.fold (-1) = 1 := by decide +kernel
theorem ex_f2 : Num.fold 1 = 2 := by decide +kernel
theorem ex_f3 : Num.fold (-9223372036854775808) = 18446744073709551615 := by decide +kernel

set_option maxRecDepth 100000 in
set_option maxHeartbeats 2000000 in
theorem awake (w : World) : Calls Try.prog 11 #[] w fun e w' => e = .returned (.bool true) ∧ Below w.heap.size w w' := by
  go_enter Try.func11, Try.ntmps11
  have hE := Ext.refl w
  go_wp2_with (refine wpl_build (by rfl) rfl ul_u64 info_u64 [.const (.int .u64 0), .const (.int .u64 246), .const (.int .u64 247), .const (.int .u64 256), .const (.int .u64 18446744073709551615)] (by rfl) (by rfl) (by decide) (f := u64v) [0, 246, 247, 256, 18446744073709551615] (by rfl) (fun _ => rfl) ?_)
  intro g1 wk1 b_g1 ek1 lo_g1 r_g1; refine Lib.hid ?_
  have hE := hE.t ek1
  clear ek1
  go_wp2_with fail
  refine (num_All _ 5 5 [0, 246, 247, 256, 18446744073709551615] _ r_g1 (by decide) (by omega)).mono ?_
  rw [ex_all]
  rintro e wk2 ⟨A1, c1, rfl, hown1, ek2⟩
  have hE := hE.t ek2
  clear ek2
  have hR1 : Rd u8v wk2 A1 16 [0, 246, 247, 247, 248, 1, 0, 254, 255, 255, 255, 255, 255, 255, 255, 255] := Rd.of_own hown1
  clear hown1
  go_wp2_with (refine wpl_build (by rfl) rfl ul_u8 info_u8 [.const (.int .u8 0), .const (.int .u8 246), .const (.int .u8 247), .const (.int .u8 247), .const (.int .u8 248), .const (.int .u8 1), .const (.int .u8 0), .const (.int .u8 254), .const (.int .u8 255), .const (.int .u8 255), .const (.int .u8 255), .const (.int .u8 255), .const (.int .u8 255), .const (.int .u8 255), .const (.int .u8 255), .const (.int .u8 255)] (by rfl) (by rfl) (by decide) (f := u8v) [0, 246, 247, 247, 248, 1, 0, 254, 255, 255, 255, 255, 255, 255, 255, 255] (by rfl) (fun _ => rfl) ?_)
  intro g2 wk3 b_g2 ek3 lo_g2 r_g2; refine Lib.hid ?_
  have hE := hE.t ek3
  have hR1 := hR1.ext ek3
  clear ek3
  go_wp2_with fail
  refine (sameBytes A1 _ 16 16 c1 16 _ [0, 246, 247, 247, 248, 1, 0, 254, 255, 255, 255, 255, 255, 255, 255, 255] _ hR1 r_g2 (by simp [maxLen]) (by simp [maxLen])).mono ?_
  rintro e wk4 ⟨rfl, ek4⟩
  have hE := hE.t ek4
  have hR1 := hR1.ext ek4
  clear ek4
  clear hR1
  go_wp2_with (refine wpl_build (by rfl) rfl ul_u8 info_u8 [.const (.int .u8 247), .const (.int .u8 246)] (by rfl) (by rfl) (by decide) (f := u8v) [247, 246] (by rfl) (fun _ => rfl) ?_)
  intro g3 wk5 b_g3 ek5 lo_g3 r_g3; refine Lib.hid ?_
  have hE := hE.t ek5
  clear ek5
  go_wp2_with fail
  refine (num_Read _ 2 2 [247, 246] 0 _ r_g3 (by decide) (by simp [maxLen])).mono ?_
  rw [ex_r1]; unfold rets
  rintro e wy6 ⟨rfl, rfl⟩
  go_wp2_with (refine wpl_build (by rfl) rfl ul_u8 info_u8 [.const (.int .u8 248), .const (.int .u8 0), .const (.int .u8 5)] (by rfl) (by rfl) (by decide) (f := u8v) [248, 0, 5] (by rfl) (fun _ => rfl) ?_)
  intro g4 wk7 b_g4 ek7 lo_g4 r_g4; refine Lib.hid ?_
  have hE := hE.t ek7
  clear ek7
  go_wp2_with fail
  refine (num_Read _ 3 3 [248, 0, 5] 0 _ r_g4 (by decide) (by simp [maxLen])).mono ?_
  rw [ex_r2]; unfold rets
  rintro e wy8 ⟨rfl, rfl⟩
  go_wp2_with (refine wpl_build (by rfl) rfl ul_u8 info_u8 [.const (.int .u8 248), .const (.int .u8 1)] (by rfl) (by rfl) (by decide) (f := u8v) [248, 1] (by rfl) (fun _ => rfl) ?_)
  intro g5 wk9 b_g5 ek9 lo_g5 r_g5; refine Lib.hid ?_
  have hE := hE.t ek9
  clear ek9
  go_wp2_with fail
  refine (num_Read _ 2 2 [248, 1] 0 _ r_g5 (by decide) (by simp [maxLen])).mono ?_
  rw [ex_r3]; unfold rets
  rintro e wy10 ⟨rfl, rfl⟩
  go_wp2_with (refine wpl_build (by rfl) rfl ul_u8 info_u8 [.const (.int .u8 255)] (by rfl) (by rfl) (by decide) (f := u8v) [255] (by rfl) (fun _ => rfl) ?_)
  intro g6 wk11 b_g6 ek11 lo_g6 r_g6; refine Lib.hid ?_
  have hE := hE.t ek11
  clear ek11
  go_wp2_with fail
  refine (num_Read _ 1 1 [255] 0 _ r_g6 (by decide) (by simp [maxLen])).mono ?_
  rw [ex_r4]; unfold rets
  rintro e wy12 ⟨rfl, rfl⟩
  go_wp2_with (refine wpl_build (by rfl) rfl ul_u8 info_u8 [.const (.int .u8 5)] (by rfl) (by rfl) (by decide) (f := u8v) [5] (by rfl) (fun _ => rfl) ?_)
  intro g7 wk13 b_g7 ek13 lo_g7 r_g7; refine Lib.hid ?_
  have hE := hE.t ek13
  clear ek13
  go_wp2_with fail
  refine (num_Int _ 1 1 [5] 0 6 9 _ r_g7 (by decide) (by simp [maxLen]) (by omega) (by omega) (by omega) (by omega)).mono ?_
  rw [ex_i]; unfold irets
  rintro e wy14 ⟨rfl, rfl⟩
  go_wp2_with (refine wpl_build (by rfl) rfl ul_u8 info_u8 [.const (.int .u8 5), .const (.int .u8 247), .const (.int .u8 255), .const (.int .u8 0)] (by rfl) (by rfl) (by decide) (f := u8v) [5, 247, 255, 0] (by rfl) (fun _ => rfl) ?_)
  intro g8 wk15 b_g8 ek15 lo_g8 r_g8; refine Lib.hid ?_
  have hE := hE.t ek15
  clear ek15
  go_wp2_with fail
  refine (num_Split _ 4 4 [5, 247, 255, 0] _ r_g8 (by decide) (by omega)).mono ?_
  rw [ex_s]
  rintro e wk16 ⟨A3, n3, c3, rfl, hR3, ek16⟩
  have hE := hE.t ek16
  clear ek16
  obtain rfl : n3 = 3 := hR3.1.symm
  go_wp2_with (refine wpl_build (by rfl) rfl ul_u64 info_u64 [.const (.int .u64 5), .const (.int .u64 255), .const (.int .u64 0)] (by rfl) (by rfl) (by decide) (f := u64v) [5, 255, 0] (by rfl) (fun _ => rfl) ?_)
  intro g9 wk17 b_g9 ek17 lo_g9 r_g9; refine Lib.hid ?_
  have hE := hE.t ek17
  have hR3 := hR3.ext ek17
  clear ek17
  go_wp2_with fail
  refine (sameNums A3 _ 3 3 c3 3 _ [5, 255, 0] _ hR3 r_g9 (by simp [maxLen]) (by simp [maxLen])).mono ?_
  rintro e wk18 ⟨rfl, ek18⟩
  have hE := hE.t ek18
  have hR3 := hR3.ext ek18
  clear ek18
  clear hR3
  go_wp2_with fail
  refine (num_Fold (-1) _ (by omega) (by omega)).mono ?_
  rw [ex_f1]
  rintro e wy19 ⟨rfl, rfl⟩
  go_wp2_with fail
  refine (num_Fold 1 _ (by omega) (by omega)).mono ?_
  rw [ex_f2]
  rintro e wy20 ⟨rfl, rfl⟩
  go_wp2_with fail
  refine (num_Fold (-9223372036854775808) _ (by omega) (by omega)).mono ?_
  rw [ex_f3]
  rintro e wy21 ⟨rfl, rfl⟩
  go_wp2_with fail
  go_ret
  exact ⟨rfl, hE⟩
end Go.Proofs.Ytidjimkhppfjjaa
