/- Chapter 37's examples. -/
import Derived.Test.YtpipnefepnknoaaSys
namespace Go.Proofs.Ytpipnefepnknoaa
open Go.RowKit Go.Fx
def s1 : St := ⟨[], false, [0, 7], 0, [66], 1, 1, 0, 0⟩
def s2 : St := ⟨[], true, [2, 8], 2, [66, 98], 2, 1, 0, 0⟩
def s3 : St := ⟨[[0, 9]], true, [2, 8], 2, [66, 98], 3, 1, 0, 0⟩
def s4 : St := ⟨[[0, 9]], true, [2, 8], 1, [66, 98, 116], 3, 1, 1, 0⟩
def s5 : St := ⟨[], false, [0, 9], 0, [66, 98, 116, 84, 66], 3, 3, 2, 0⟩
def s6 : St := ⟨[], false, [0, 9], 0, [66, 98, 116, 84, 66], 3, 3, 2, 1⟩
theorem goodS (s : St) (h : s = s1 ∨ s = s2 ∨ s = s3 ∨ s = s4 ∨ s = s5 ∨ s = s6) : Good s 1 := by
  rcases h with rfl | rfl | rfl | rfl | rfl | rfl <;> exact ⟨⟨by decide, by decide, by decide, by decide, by decide, by decide, by decide, by decide⟩, by decide, by decide⟩
theorem cnt_eq (w : World) : (binOp .eql 33 (.agg #[.int .i64 3, .int .i64 3, .int .i64 2, .int .i64 1]) (.agg #[.int .i64 3, .int .i64 3, .int .i64 2, .int .i64 1])).run Try.prog w = .ok (.bool true) w := by kernel_rfl
set_option maxRecDepth 100000 in
set_option maxHeartbeats 2000000 in
theorem awake (w : World) : Calls Try.prog 11 #[] w fun e w' => e = .returned (.bool true) ∧ Ext w w' := by
  have hsb := Blk.new w 31 #[.slice none 0 0, .int .i64 0, .slice none 0 0, .slice none 0 0]
  go_enter Try.func11, Try.ntmps11
  go_wp2_with fail
  refine (ib_New _ _).mono ?_
  rintro e w1 ⟨rfl, hib, he, hsz⟩
  have hS := sys_new (Below.refl w.heap.size w) (Ext.alloc w _) (Nat.le_refl _) hsb hib he
  rw [World.size_alloc] at *
  generalize w.heap.size + 1 = ib at hS ⊢
  have HS := Lib.hid hS
  clear hS hsb hib he hsz
  go_wp2_with (refine wpl_build (by rfl) rfl ul_u8 info_u8 [.const (.int .u8 0), .const (.int .u8 7)] (by rfl) (by rfl) (by decide) (f := u8v) [0, 7] (by rfl) (fun _ => rfl) ?_)
  intro g1 w2 _ e2 _ r1; refine Lib.hid ?_
  go_wp2_with fail
  refine (sys_Put (HS.out.ext e2) (good0 1 (by omega)) _ _ _ [0, 7] r1 (by decide) (by decide)).mono ?_
  rintro e w3 ⟨L1, A1, n1, c1, os1, got⟩
  rw [show putF st0 [0, 7] = (s1, [[0, 7]]) from rfl] at got
  have hn := got.resp.n_
  simp only [List.length_cons, List.length_nil] at hn
  subst hn
  have hret := got.ret
  have HS := Lib.hid got.sys
  have R1 := Lib.hid got.resp
  clear got e2 r1
  subst hret
  go_wp2_with (refine wpl_build (by rfl) rfl ul_u8 info_u8 [.const (.int .u8 2), .const (.int .u8 8)] (by rfl) (by rfl) (by decide) (f := u8v) [2, 8] (by rfl) (fun _ => rfl) ?_)
  intro g2 w4 _ e4 _ r2; refine Lib.hid ?_
  go_wp2_with fail
  refine (sys_Put (HS.out.ext e4) (goodS s1 (by simp)) _ _ _ [2, 8] r2 (by decide) (by decide)).mono ?_
  rintro e w5 ⟨L2, A2, n2, c2, os2, got⟩
  rw [show putF s1 [2, 8] = (s2, []) from rfl] at got
  have hn := got.resp.n_
  simp only [List.length_nil] at hn
  subst hn
  have hret := got.ret
  have HS := Lib.hid got.sys
  have R1 := Lib.hid ((R1.out.ext e4).step got.step)
  clear got e4 r2
  subst hret
  go_wp2_with (refine wpl_build (by rfl) rfl ul_u8 info_u8 [.const (.int .u8 0), .const (.int .u8 9)] (by rfl) (by rfl) (by decide) (f := u8v) [0, 9] (by rfl) (fun _ => rfl) ?_)
  intro g3 w6 _ e6 _ r3; refine Lib.hid ?_
  go_wp2_with fail
  refine (sys_Put (HS.out.ext e6) (goodS s2 (by simp)) _ _ _ [0, 9] r3 (by decide) (by decide)).mono ?_
  rintro e w7 ⟨L3, A3, n3, c3, os3, got⟩
  rw [show putF s2 [0, 9] = (s3, []) from rfl] at got
  have hn := got.resp.n_
  simp only [List.length_nil] at hn
  subst hn
  have hret := got.ret
  have HS := Lib.hid got.sys
  have R1 := Lib.hid ((R1.out.ext e6).step got.step)
  clear got e6 r3
  subst hret
  go_wp2_with fail
  refine (ib_Waiting _ _ _ _ HS.out.box).mono ?_; rintro e wx ⟨rfl, rfl⟩
  rw [show ((s3.wait.length : Nat) : Int) = 1 from rfl]
  go_wp2_with fail
  refine (ib_Pending _ _ _ _ HS.out.box).mono ?_; rintro e wx ⟨rfl, rfl⟩
  rw [show s3.pend = true from rfl]
  go_wp2_with fail
  refine (sys_Turn HS.out (goodS s3 (by simp))).mono ?_
  rintro e w8 ⟨L4, A4, n4, c4, os4, got⟩
  rw [show turnF s3 = (s4, []) from rfl] at got
  have hn := got.resp.n_
  simp only [List.length_nil] at hn
  subst hn
  have hret := got.ret
  have HS := Lib.hid got.sys
  have R1 := Lib.hid (R1.out.step got.step)
  clear got
  subst hret
  go_wp2_with fail
  refine (sys_Turn HS.out (goodS s4 (by simp))).mono ?_
  rintro e w9 ⟨L5, A5, n5, c5, os5, got⟩
  rw [show turnF s4 = (s5, [[2, 8], [0, 9]]) from rfl] at got
  have hn := got.resp.n_
  simp only [List.length_cons, List.length_nil] at hn
  subst hn
  have hret := got.ret
  have HS := Lib.hid got.sys
  have R1 := Lib.hid (R1.out.step got.step)
  have R5 := Lib.hid got.resp
  clear got
  subst hret
  go_wp2_with fail
  refine (sys_Turn HS.out (goodS s5 (by simp))).mono ?_
  rintro e w10 ⟨L6, A6, n6, c6, os6, got⟩
  rw [show turnF s5 = (s6, []) from rfl] at got
  have hn := got.resp.n_
  simp only [List.length_nil] at hn
  subst hn
  have hret := got.ret
  have HS := Lib.hid got.sys
  have R1 := Lib.hid (R1.out.step got.step)
  have R5 := Lib.hid (R5.out.step got.step)
  clear got
  subst hret
  go_wp2_with (refine wpl_build (by rfl) rfl ul_u8 info_u8 [.const (.int .u8 0), .const (.int .u8 7)] (by rfl) (by rfl) (by decide) (f := u8v) [0, 7] (by rfl) (fun _ => rfl) ?_)
  intro g11 w11 b11 e11 _ r11; refine Lib.hid ?_
  go_wp2_with (refine wpl_build (by rfl) rfl ul_bb info_bb [.tmp 86] (by rfl) (by rfl) (by decide) (f := slv) [⟨some ⟨g11, 0, none⟩, 2, 2⟩] (by rfl) (fun _ => rfl) ?_)
  intro g12 w12 _ e12 _ r12; refine Lib.hid ?_
  have y11 : Byt w11 ⟨some ⟨g11, 0, none⟩, 2, 2⟩ [0, 7] := ⟨Room.of_blk b11 rfl (by simp [maxLen]), by decide⟩
  go_wp2_with fail
  refine (frames_ _ _ _ _ c1 _ _ _ _ _ _ ((R1.out.ext e11).ext e12).rd ((R1.out.ext e11).ext e12).byt r12 (Byts.nil.snoc (y11.ext e12)) (by simp [maxLen]) (by simp [maxLen])).mono ?_
  rintro e wx ⟨rfl, rfl⟩
  go_wp2_with (refine wpl_build (by rfl) rfl ul_u8 info_u8 [.const (.int .u8 2), .const (.int .u8 8)] (by rfl) (by rfl) (by decide) (f := u8v) [2, 8] (by rfl) (fun _ => rfl) ?_)
  intro g13 w13 b13 e13 _ _; refine Lib.hid ?_
  go_wp2_with (refine wpl_build (by rfl) rfl ul_u8 info_u8 [.const (.int .u8 0), .const (.int .u8 9)] (by rfl) (by rfl) (by decide) (f := u8v) [0, 9] (by rfl) (fun _ => rfl) ?_)
  intro g14 w14 b14 e14 _ _; refine Lib.hid ?_
  go_wp2_with (refine wpl_build (by rfl) rfl ul_bb info_bb [.tmp 106, .tmp 107] (by rfl) (by rfl) (by decide) (f := slv) [⟨some ⟨g13, 0, none⟩, 2, 2⟩, ⟨some ⟨g14, 0, none⟩, 2, 2⟩] (by rfl) (fun _ => rfl) ?_)
  intro g15 w15 _ e15 _ r15; refine Lib.hid ?_
  have y13 : Byt w13 ⟨some ⟨g13, 0, none⟩, 2, 2⟩ [2, 8] := ⟨Room.of_blk b13 rfl (by simp [maxLen]), by decide⟩
  have y14 : Byt w14 ⟨some ⟨g14, 0, none⟩, 2, 2⟩ [0, 9] := ⟨Room.of_blk b14 rfl (by simp [maxLen]), by decide⟩
  have eA : Ext w10 w15 := (((e11.t e12).t e13).t e14).t e15
  go_wp2_with fail
  refine (frames_ _ _ _ _ c5 _ _ _ _ _ _ (R5.out.ext eA).rd (R5.out.ext eA).byt r15 ((Byts.nil.snoc ((y13.ext e14).ext e15)).snoc (y14.ext e15)) (by simp [maxLen]) (by simp [maxLen])).mono ?_
  rintro e wx ⟨rfl, rfl⟩
  go_wp2_with fail
  refine (ib_Counts _ _ _ _ (HS.out.box.ext eA)).mono ?_
  rintro e w16 ⟨rfl, e16⟩
  have hcq := fun w => cnt_eq w
  rw [show s6.put = 3 from rfl, show s6.ans = 3 from rfl, show s6.turns = 2 from rfl, show s6.idle = 1 from rfl]
  have eB : Below w.heap.size w w16 := (HS.out.below.trans (eA.mono HS.out.below.size)).trans (e16.mono (HS.out.below.trans (eA.mono HS.out.below.size)).size)
  go_wp2_with fail
  go_ret
  exact ⟨rfl, eB⟩
end Go.Proofs.Ytpipnefepnknoaa
