/- Faw: the examples of the chapter: awake answers true and writes nothing that was there. -/
import Derived.Test.YtippgnbmilnjbaaFst
import Derived.Test.YtippgnbmilnjbaaBuildN
namespace Go.Fx
theorem ex_w1 : wrF [7, 8] = ([2, 7, 8], 0) := rfl
theorem ex_w2 : wrF [] = ([0], 0) := rfl
theorem ex_r1 : rdF [2, 7, 8, 9] = ([7, 8], 3, 0) := rfl
theorem ex_r2 : rdF [2, 7] = ([], 0, 30) := rfl
theorem ex_s1 : splF [1] = ([], [1]) := splF_stop (by decide)
theorem ex_s2 : splF [1, 5, 0, 2, 6] = ([[5], []], [2, 6]) := by
  rw [splF_step (by decide)]
  have e1 : rdF [1, 5, 0, 2, 6] = ([5], 2, 0) := rfl
  rw [e1]
  have e2 : splF (List.drop 2 [1, 5, 0, 2, 6]) = ([[]], [2, 6]) := by
    have e3 : List.drop 2 [1, 5, 0, 2, 6] = [0, 2, 6] := rfl
    rw [e3, splF_step (by decide)]
    have e4 : rdF [0, 2, 6] = ([], 1, 0) := rfl
    rw [e4]
    have e5 : splF (List.drop 1 [0, 2, 6]) = ([], [2, 6]) := splF_stop (by decide)
    rw [e5]
  rw [e2]
theorem ex_s3 : splF [2, 6, 9, 255] = ([[6, 9]], [255]) := by
  rw [splF_step (by decide)]
  have e1 : rdF [2, 6, 9, 255] = ([6, 9], 3, 0) := rfl
  rw [e1]
  have e5 : splF (List.drop 3 [2, 6, 9, 255]) = ([], [255]) := splF_stop (by decide)
  rw [e5]
theorem ex_f1 : fdF fst0 [1] = (⟨[1], 0, false⟩, [], 0) := by
  have e : fst0.held ++ [1] = [1] := rfl
  unfold fdF
  rw [e, ex_s1]
  rfl
theorem ex_f2 : fdF ⟨[1], 0, false⟩ [5, 0, 2, 6] = (⟨[2, 6], 2, false⟩, [[5], []], 0) := by
  have e : ([1] : List Nat) ++ [5, 0, 2, 6] = [1, 5, 0, 2, 6] := rfl
  unfold fdF
  rw [e, ex_s2]
  rfl
theorem ex_f3 : fdF ⟨[2, 6], 2, false⟩ [9, 255] = (⟨[], 3, true⟩, [[6, 9]], 31) := by
  have e : ([2, 6] : List Nat) ++ [9, 255] = [2, 6, 9, 255] := rfl
  unfold fdF
  rw [e, ex_s3]
  rfl
end Go.Fx
namespace Go.Proofs.Ytippgnbmilnjbaa
open Go.RowKit Go.Fx
theorem ul_nd : Try.prog.underlying 67 = some (.slice 66) := Try.underlying67
theorem info_nd : (Try.prog.info? 66).map (fun i => (i.zero, i.size, i.bytes)) = some (some (.agg #[.slice none 0 0, .int .i64 0]), 2, 32) := by kernel_rfl
theorem aw_write (A : Option Addr) (n c : Nat) (xs ys : List Nat) (w : World) (hF : wrF xs = (ys, 0)) (h : Rd u8v w A n xs) (hx : ∀ x ∈ xs, x < 256) :
    Calls Try.prog 17 #[.slice A n c] w fun e w' => ∃ A' n' c', e = .returned (.tuple #[.slice A' n' c', .int .i64 0]) ∧ Rd u8v w' A' n' ys ∧ Ext w w' := by
  refine (write_ A n c xs w h hx).mono ?_
  rintro e w' ⟨s, rfl, hcl⟩
  rw [hF] at hcl ⊢
  exact ⟨s.A, s.n, s.c, rfl, hcl.byt.rd, hcl.ext⟩
theorem aw_read (A : Option Addr) (n c : Nat) (xs ys : List Nat) (q er : Nat) (qi ei : Int) (w : World) (hF : rdF xs = (ys, q, er)) (h1 : qi = (q : Int)) (h2 : ei = (er : Int)) (h : Rd u8v w A n xs) (hx : ∀ x ∈ xs, x < 256) (hc : n ≤ c) (hm : c ≤ 100) :
    Calls Try.prog 18 #[.slice A n c] w fun e w' => ∃ A' n' c', e = .returned (.tuple #[.slice A' n' c', .int .i64 qi, .int .i64 ei]) ∧ Rd u8v w' A' n' ys ∧ Ext w w' := by
  subst h1; subst h2
  refine (read_ A n c xs w h hx hc (by simp only [maxLen]; omega) (by omega)).mono ?_
  rintro e w' ⟨s, rfl, hcl⟩
  rw [hF] at hcl ⊢
  exact ⟨s.A, s.n, s.c, rfl, hcl.byt.rd, hcl.ext⟩
theorem aw_need (A : Option Addr) (n c : Nat) (xs : List Nat) (q er : Nat) (w : World) (hF : ndF xs = (q, er)) (h : Rd u8v w A n xs) (hx : ∀ x ∈ xs, x < 256) (hm : n ≤ 100) :
    Calls Try.prog 19 #[.slice A n c] w fun e w' => e = .returned (.tuple #[.int .i64 (q : Int), .int .i64 (er : Int)]) ∧ w = w' := by
  refine (need_ A n c xs w h hx (by omega)).mono ?_
  rintro e w' ⟨he, rfl⟩
  unfold NeedP at he
  rw [hF] at he
  exact ⟨he, rfl⟩
/-- A stream of the statement's own, among other memory. -/
structure SSys (w0 w : World) (sb : Nat) (s : Sl) (st : FSt) : Prop where
  stm : Stm w sb s st
  ext : Ext w0 w
  ge : ∀ k, stmF sb s k → w0.heap.size ≤ k
theorem SSys.to {w0 w w' : World} {sb : Nat} {s : Sl} {st : FSt} (h : SSys w0 w sb s st) (e : Ext w w') : SSys w0 w' sb s st := ⟨h.stm.ext e, h.ext.t e, h.ge⟩
/-- .. fed. -/
theorem sys_feed {w0 w : World} {sb : Nat} {s : Sl} {st st' : FSt} {l : List (List Nat)} {er : Nat} {ei : Int} (h : SSys w0 w sb s st) (A : Option Addr) (n c : Nat) (xs : List Nat) (hF : fdF st xs = (st', l, er)) (hi : ei = (er : Int)) (hx : Rd u8v w A n xs) (hlt : ∀ x ∈ xs, x < 256) (hb : st.held.length + n ≤ 1000000000) (hn : st.n ≤ 1000000000) :
    Calls Try.prog 24 #[.pointer (some ⟨sb, 0, none⟩), .slice A n c] w fun e w' => ∃ Al nl cl os s', e = .returned (.tuple #[.slice Al nl cl, .int .i64 ei]) ∧ SSys w0 w' sb s' st' ∧ Lst w.heap.size w' Al nl cl os l ∧ Chg (stmF sb s) w w' ∧ (∀ k, foot Al cl k ∨ foots os k → ¬ stmF sb s' k) ∧ (∀ k, stmF sb s' k → stmF sb s k ∨ w.heap.size ≤ k) := by
  subst hi
  refine (feed_ h.stm A n c xs hx hlt hb hn).mono ?_
  rintro e w' ⟨Al, nl, cl, os, s', hf⟩
  refine ⟨Al, nl, cl, os, s', ?_, ⟨?_, ?_, fun k hk => ?_⟩, ?_, hf.chg, hf.no, hf.nb⟩
  · have := hf.ret; rw [hF] at this; exact this
  · have := hf.stm; rw [hF] at this; exact this
  · exact h.ext.trans (hf.chg.below h.ext.size (fun k hk hk2 => by have := h.ge k hk2; omega))
  · rcases hf.nb k hk with h1 | h1
    · exact h.ge k h1
    · have := h.ext.size; omega
  · have := hf.lst; rw [hF] at this; exact this
set_option maxRecDepth 100000 in
set_option maxHeartbeats 4000000 in
theorem awake (w : World) : Calls Try.prog 12 #[] w fun e w' => e = .returned (.bool true) ∧ Ext w w' := by
  go_enter Try.func12, Try.ntmps12
  have hE := Ext.refl w
  go_wp2_with (refine wpl_build (by rfl) rfl ul_u8 info_u8 [.const (.int .u8 7), .const (.int .u8 8)] (by rfl) (by rfl) (by decide) (f := u8v) [7, 8] (by rfl) (fun _ => rfl) ?_)
  intro g1 wk1 b_g1 ek1 lo_g1 r_g1; refine Lib.hid ?_
  have hE := hE.t ek1
  clear ek1
  go_wp2_with fail
  refine (aw_write _ 2 2 [7, 8] [2, 7, 8] _ ex_w1 r_g1 (by decide)).mono ?_
  rintro e wk2 ⟨A1, n1, c1, rfl, hr1, ek2⟩
  have hE := hE.t ek2
  clear ek2
  go_wp2_with fail
  refine (aw_write none 0 0 [] [0] _ ex_w2 Rd.none_ (by simp)).mono ?_
  rintro e wk3 ⟨A2, n2, c2, rfl, hr2, ek3⟩
  have hE := hE.t ek3
  have hr1 := hr1.ext ek3
  clear ek3
  go_wp2_with (refine wpl_build (by rfl) rfl ul_u8 info_u8 [.const (.int .u8 2), .const (.int .u8 7), .const (.int .u8 8), .const (.int .u8 9)] (by rfl) (by rfl) (by decide) (f := u8v) [2, 7, 8, 9] (by rfl) (fun _ => rfl) ?_)
  intro g2 wk4 b_g2 ek4 lo_g2 r_g2; refine Lib.hid ?_
  have hE := hE.t ek4
  have hr1 := hr1.ext ek4
  have hr2 := hr2.ext ek4
  clear ek4
  go_wp2_with fail
  refine (aw_read _ 4 4 [2, 7, 8, 9] [7, 8] 3 0 3 0 _ ex_r1 rfl rfl r_g2 (by decide) (by omega) (by omega)).mono ?_
  rintro e wk5 ⟨A3, n3, c3, rfl, hr3, ek5⟩
  have hE := hE.t ek5
  have hr1 := hr1.ext ek5
  have hr2 := hr2.ext ek5
  clear ek5
  go_wp2_with (refine wpl_build (by rfl) rfl ul_u8 info_u8 [.const (.int .u8 2), .const (.int .u8 7)] (by rfl) (by rfl) (by decide) (f := u8v) [2, 7] (by rfl) (fun _ => rfl) ?_)
  intro g3 wk6 b_g3 ek6 lo_g3 r_g3; refine Lib.hid ?_
  have hE := hE.t ek6
  have hr1 := hr1.ext ek6
  have hr2 := hr2.ext ek6
  have hr3 := hr3.ext ek6
  clear ek6
  go_wp2_with fail
  refine (aw_read _ 2 2 [2, 7] [] 0 30 0 30 _ ex_r2 rfl rfl r_g3 (by decide) (by omega) (by omega)).mono ?_
  rintro e wk7 ⟨A4, n4, c4, rfl, hr4, ek7⟩
  have hE := hE.t ek7
  have hr1 := hr1.ext ek7
  have hr2 := hr2.ext ek7
  have hr3 := hr3.ext ek7
  clear ek7
  clear hr4
  go_wp2_with (refine wpl_build (by rfl) rfl ul_u8 info_u8 [.const (.int .u8 2), .const (.int .u8 7), .const (.int .u8 8)] (by rfl) (by rfl) (by decide) (f := u8v) [2, 7, 8] (by rfl) (fun _ => rfl) ?_)
  intro g4 wk8 b_g4 ek8 lo_g4 r_g4; refine Lib.hid ?_
  have hE := hE.t ek8
  have hr1 := hr1.ext ek8
  have hr2 := hr2.ext ek8
  have hr3 := hr3.ext ek8
  clear ek8
  go_wp2_with fail
  refine (bytes_Equal A1 _ n1 3 c1 3 [2, 7, 8] [2, 7, 8] _ hr1 r_g4 (by decide) (by decide)).mono ?_
  rintro e wy9 ⟨rfl, rfl⟩
  go_wp2_with (refine wpl_build (by rfl) rfl ul_u8 info_u8 [.const (.int .u8 0)] (by rfl) (by rfl) (by decide) (f := u8v) [0] (by rfl) (fun _ => rfl) ?_)
  intro g5 wk10 b_g5 ek10 lo_g5 r_g5; refine Lib.hid ?_
  have hE := hE.t ek10
  have hr1 := hr1.ext ek10
  have hr2 := hr2.ext ek10
  have hr3 := hr3.ext ek10
  clear ek10
  go_wp2_with fail
  refine (bytes_Equal A2 _ n2 1 c2 1 [0] [0] _ hr2 r_g5 (by decide) (by decide)).mono ?_
  rintro e wy11 ⟨rfl, rfl⟩
  go_wp2_with (refine wpl_build (by rfl) rfl ul_u8 info_u8 [.const (.int .u8 7), .const (.int .u8 8)] (by rfl) (by rfl) (by decide) (f := u8v) [7, 8] (by rfl) (fun _ => rfl) ?_)
  intro g6 wk12 b_g6 ek12 lo_g6 r_g6; refine Lib.hid ?_
  have hE := hE.t ek12
  have hr1 := hr1.ext ek12
  have hr2 := hr2.ext ek12
  have hr3 := hr3.ext ek12
  clear ek12
  go_wp2_with fail
  refine (bytes_Equal A3 _ n3 2 c3 2 [7, 8] [7, 8] _ hr3 r_g6 (by decide) (by decide)).mono ?_
  rintro e wy13 ⟨rfl, rfl⟩
  clear hr1 hr2 hr3
  go_wp2_with (refine wpl_build (by rfl) rfl ul_u8 info_u8 [.const (.int .u8 2), .const (.int .u8 7)] (by rfl) (by rfl) (by decide) (f := u8v) [2, 7] (by rfl) (fun _ => rfl) ?_)
  intro h1 wk14 b_h1 ek14 lo_h1 r_h1; refine Lib.hid ?_
  have hE := hE.t ek14
  clear ek14
  go_wp2_with (refine wpl_build (by rfl) rfl ul_u8 info_u8 [.const (.int .u8 247)] (by rfl) (by rfl) (by decide) (f := u8v) [247] (by rfl) (fun _ => rfl) ?_)
  intro h2 wk15 b_h2 ek15 lo_h2 r_h2; refine Lib.hid ?_
  have hE := hE.t ek15
  have r_h1 := r_h1.ext ek15
  clear ek15
  go_wp2_with (refine wpl_build (by rfl) rfl ul_u8 info_u8 [.const (.int .u8 248), .const (.int .u8 1)] (by rfl) (by rfl) (by decide) (f := u8v) [248, 1] (by rfl) (fun _ => rfl) ?_)
  intro h3 wk16 b_h3 ek16 lo_h3 r_h3; refine Lib.hid ?_
  have hE := hE.t ek16
  have r_h1 := r_h1.ext ek16
  have r_h2 := r_h2.ext ek16
  clear ek16
  go_wp2_with (refine wpl_buildN (by rfl) rfl ul_nd info_nd [.tmp 79, .tmp 80, .tmp 82, .tmp 84] (by rfl) rfl (by decide) (by decide) [.agg #[.slice (some ⟨h1, 0, none⟩) 2 2, .int .i64 1], .agg #[.slice none 0 0, .int .i64 1], .agg #[.slice (some ⟨h2, 0, none⟩) 1 1, .int .i64 248], .agg #[.slice (some ⟨h3, 0, none⟩) 2 2, .int .i64 257]] (by rfl) (by intro v hv; simp at hv; rcases hv with rfl | rfl | rfl | rfl <;> rfl) ?_)
  intro bb oo w7 hrow e7 lo7; refine Lib.hid ?_
  have hE := hE.t e7
  have hall : ∀ k, k < 4 → ∃ (s : Sl) (xs : List Nat) (m : Nat), w7.cell? ⟨bb, oo + k * 2, none⟩ = some (.slice s.A s.n s.c) ∧ w7.cell? ⟨bb, oo + k * 2 + 1, none⟩ = some (.int .i64 (m : Int)) ∧ Rd u8v w7 s.A s.n xs ∧ (∀ x ∈ xs, x < 256) ∧ ndF xs = (m, 0) ∧ s.n ≤ 10 ∧ m ≤ 1000 := by
    intro k hk
    rcases (by omega : k = 0 ∨ k = 1 ∨ k = 2 ∨ k = 3) with rfl | rfl | rfl | rfl
    · exact ⟨⟨some ⟨h1, 0, none⟩, 2, 2⟩, [2, 7], 1, hrow.2 0 _ rfl, hrow.2 1 _ rfl, r_h1.ext e7, by decide, rfl, by simp, by simp⟩
    · exact ⟨⟨none, 0, 0⟩, [], 1, hrow.2 2 _ rfl, hrow.2 3 _ rfl, Rd.none_, by simp, rfl, by simp, by simp⟩
    · exact ⟨⟨some ⟨h2, 0, none⟩, 1, 1⟩, [247], 248, hrow.2 4 _ rfl, hrow.2 5 _ rfl, r_h2.ext e7, by decide, rfl, by simp, by simp⟩
    · exact ⟨⟨some ⟨h3, 0, none⟩, 2, 2⟩, [248, 1], 257, hrow.2 6 _ rfl, hrow.2 7 _ rfl, r_h3.ext e7, by decide, rfl, by simp, by simp⟩
  have Hall := Lib.hid hall
  have HE := Lib.hid hE
  have Hlt := Lib.hid hrow.1
  clear hall hrow e7 lo7 hE r_h1 r_h2 r_h3
  go_wp2_with fail
  go_loopw [87] (fun i wr => ∃ k : Nat, k ≤ 4 ∧ i = .int .i64 (k : Int) ∧ Hid (Ext w7 wr)) (fun i _ => 4 - (intOf i).toNat)
  case atStart => exact ⟨0, by omega, rfl, Lib.hid (Ext.refl _)⟩
  case round =>
    obtain ⟨k, hk, rfl, HW⟩ := hrel
    by_cases hlt : k < 4
    · have hltI : (k : Int) < 4 := by omega
      obtain ⟨s, xs, m, hc1, hc2, hr, hx, hF, hs, hm⟩ := Hall.out k hlt
      have hb1 := (HW.out.cell (p := ⟨bb, oo + k * 2, none⟩) Hlt.out).trans hc1
      have hb2 := (HW.out.cell (p := ⟨bb, oo + k * 2 + 1, none⟩) Hlt.out).trans hc2
      have HN := Lib.hid (fun w' (e : Ext w7 w') => aw_need s.A s.n s.c xs m 0 w' hF (hr.ext e) hx (by omega))
      clear hc1 hc2 hr hx hF
      go_wp2_with fail
      refine (HN.out _ (HW.out.t (Ext.alloc _ _))).mono ?_
      rintro e w8 ⟨rfl, rfl⟩
      have HW2 := Lib.hid (HW.out.t (Ext.alloc wr (.cells #[.slice s.A s.n s.c, .int .i64 (m : Int)] 66)))
      go_wp2_with fail
      go_roundw
      case rel => exact ⟨k + 1, by omega, by go_num, HW2⟩
      case measure => simp [intOf]; omega
    · obtain rfl : k = 4 := by omega
      clear Hall
      have hE := HE.out.t HW.out
      clear HE HW Hlt
      go_wp2_with (refine wpl_build (by rfl) rfl ul_u8 info_u8 [.const (.int .u8 249)] (by rfl) (by rfl) (by decide) (f := u8v) [249] (by rfl) (fun _ => rfl) ?_)
      intro i1 wk17 b_i1 ek17 lo_i1 r_i1; refine Lib.hid ?_
      have hE := hE.t ek17
      clear ek17
      go_wp2_with (refine wpl_build (by rfl) rfl ul_u8 info_u8 [.const (.int .u8 247), .const (.int .u8 9)] (by rfl) (by rfl) (by decide) (f := u8v) [247, 9] (by rfl) (fun _ => rfl) ?_)
      intro i2 wk18 b_i2 ek18 lo_i2 r_i2; refine Lib.hid ?_
      have hE := hE.t ek18
      have r_i1 := r_i1.ext ek18
      clear ek18
      go_wp2_with (refine wpl_build (by rfl) rfl ul_u8 info_u8 [.const (.int .u8 248), .const (.int .u8 64), .const (.int .u8 1)] (by rfl) (by rfl) (by decide) (f := u8v) [248, 64, 1] (by rfl) (fun _ => rfl) ?_)
      intro i3 wk19 b_i3 ek19 lo_i3 r_i3; refine Lib.hid ?_
      have hE := hE.t ek19
      have r_i1 := r_i1.ext ek19
      have r_i2 := r_i2.ext ek19
      clear ek19
      go_wp2_with (refine wpl_build (by rfl) rfl ul_bb info_bb [.tmp 106, .tmp 107, .tmp 108] (by rfl) (by rfl) (by decide) (f := slv) [⟨some ⟨i1, 0, none⟩, 1, 1⟩, ⟨some ⟨i2, 0, none⟩, 2, 2⟩, ⟨some ⟨i3, 0, none⟩, 3, 3⟩] (by rfl) (fun _ => rfl) ?_)
      intro gb w9 b9 e9 lo9 r9; refine Lib.hid ?_
      have hE := hE.t e9
      have hall : ∀ (k : Nat) (s : Sl), ([⟨some ⟨i1, 0, none⟩, 1, 1⟩, ⟨some ⟨i2, 0, none⟩, 2, 2⟩, ⟨some ⟨i3, 0, none⟩, 3, 3⟩] : List Sl)[k]? = some s → ∃ xs, Rd u8v w9 s.A s.n xs ∧ (∀ x ∈ xs, x < 256) ∧ ndF xs = (0, 31) ∧ s.n ≤ 10 := by
        intro k s hk
        match k, hk with
        | 0, hk => cases hk; exact ⟨[249], r_i1.ext e9, by decide, rfl, by simp⟩
        | 1, hk => cases hk; exact ⟨[247, 9], r_i2.ext e9, by decide, rfl, by simp⟩
        | 2, hk => cases hk; exact ⟨[248, 64, 1], r_i3.ext e9, by decide, rfl, by simp⟩
      have Hall := Lib.hid hall
      have HE := Lib.hid hE
      obtain ⟨G, hG⟩ : ∃ G, G = some (⟨gb, 0, none⟩ : Addr) := ⟨_, rfl⟩
      rw [← hG] at r9 ⊢
      have H9 := Lib.hid r9
      clear hall b9 e9 lo9 r9 hE r_i1 r_i2 r_i3 hG
      go_wp2_with fail
      go_loop [111] (fun i => ∃ k : Nat, k ≤ 3 ∧ i = .int .i64 (k : Int)) (fun i => 3 - (intOf i).toNat)
      case atStart => exact ⟨0, by omega, rfl⟩
      case round =>
        obtain ⟨k, hk, rfl⟩ := hrel
        by_cases hlt : k < 3
        · have hltI : (k : Int) < 3 := by omega
          obtain ⟨b, o, s, rfl, _, hs, hc⟩ := H9.out.at_ hlt
          unfold slv at hc
          obtain ⟨xs, hr, hx, hF, hn⟩ := Hall.out k s hs
          have HN := Lib.hid (aw_need s.A s.n s.c xs 0 31 w9 hF hr hx (by omega))
          clear hs hr hx hF
          go_wp2_with fail
          refine HN.out.mono ?_
          rintro e w8 ⟨rfl, rfl⟩
          go_wp2_with fail
          go_round
          case rel => exact ⟨k + 1, by omega, by go_num⟩
          case measure => simp [intOf]; omega
        · obtain rfl : k = 3 := by omega
          clear Hall H9
          have hE := HE.out
          clear HE
          go_wp2_with fail
          refine (new_ _).mono ?_
          rintro e w10 ⟨sb, rfl, hst, e10, lo10⟩
          have hS : SSys w w10 sb ⟨none, 0, 0⟩ fst0 := ⟨hst, hE.t e10, fun k hk => hk.elim (fun e => by rw [e]; exact Nat.le_trans hE.size lo10) (fun h => absurd h foot_none)⟩
          clear hst e10 lo10 hE
          go_wp2_with (refine wpl_build (by rfl) rfl ul_u8 info_u8 [.const (.int .u8 1)] (by rfl) (by rfl) (by decide) (f := u8v) [1] (by rfl) (fun _ => rfl) ?_)
          intro j1 wk20 b_j1 ek20 lo_j1 r_j1; refine Lib.hid ?_
          have hS := hS.to ek20
          clear ek20
          go_wp2_with fail
          refine (sys_feed hS _ 1 1 [1] ex_f1 rfl r_j1 (by decide) (by simp [fst0]) (by simp [fst0])).mono ?_
          rintro e w11 ⟨Ap, np, cp, op, s1, rfl, hS1, hlp, -, -, -⟩
          obtain rfl : np = 0 := hlp.n_
          clear hlp hS r_j1
          go_wp2_with (refine wpl_build (by rfl) rfl ul_u8 info_u8 [.const (.int .u8 5), .const (.int .u8 0), .const (.int .u8 2), .const (.int .u8 6)] (by rfl) (by rfl) (by decide) (f := u8v) [5, 0, 2, 6] (by rfl) (fun _ => rfl) ?_)
          intro j2 wk21 b_j2 ek21 lo_j2 r_j2; refine Lib.hid ?_
          have hS1 := hS1.to ek21
          clear ek21
          go_wp2_with fail
          refine (sys_feed hS1 _ 4 4 [5, 0, 2, 6] ex_f2 rfl r_j2 (by decide) (by simp) (by simp)).mono ?_
          rintro e w12 ⟨Aq, nq, cq, oq, s2, rfl, hS2, hlq, -, hno, -⟩
          clear hS1 r_j2
          have hno2 : ∀ k, foot Aq cq k ∨ foots oq k → ¬ stmF sb s2 k := hno
          have Hno := Lib.hid hno2
          clear hno hno2
          have HH := Lib.hid (held_ hS2.stm)
          have HN := Lib.hid (need2_ hS2.stm (by simp))
          rw [show (⟨[2, 6], 2, false⟩ : FSt).held.length = 2 by rfl] at HH
          rw [show tlF ⟨[2, 6], 2, false⟩ = 1 by rfl] at HN
          go_wp2_with fail
          refine HH.out.mono ?_; rintro e w13 ⟨rfl, rfl⟩
          go_wp2_with fail
          refine HN.out.mono ?_; rintro e w13 ⟨rfl, rfl⟩
          clear HH HN
          go_wp2_with (refine wpl_build (by rfl) rfl ul_u8 info_u8 [.const (.int .u8 9), .const (.int .u8 255)] (by rfl) (by rfl) (by decide) (f := u8v) [9, 255] (by rfl) (fun _ => rfl) ?_)
          intro j3 wk22 b_j3 ek22 lo_j3 r_j3; refine Lib.hid ?_
          have hS2 := hS2.to ek22
          have hlq := hlq.ext ek22
          clear ek22
          go_wp2_with fail
          refine (sys_feed hS2 _ 2 2 [9, 255] ex_f3 rfl r_j3 (by decide) (by simp) (by simp)).mono ?_
          rintro e w14 ⟨Ar, nr, cr, or, s3, rfl, hS3, hlr, hch, -, -⟩
          have hlq := hlq.chg hch Hno.out
          clear hS2 r_j3 hch
          go_wp2_with (refine wpl_build (by rfl) rfl ul_u8 info_u8 [.const (.int .u8 5)] (by rfl) (by rfl) (by decide) (f := u8v) [5] (by rfl) (fun _ => rfl) ?_)
          intro k1 wk23 b_k1 ek23 lo_k1 r_k1; refine Lib.hid ?_
          have hS3 := hS3.to ek23
          have hlq := hlq.ext ek23
          have hlr := hlr.ext ek23
          clear ek23
          go_wp2_with (refine wpl_build (by rfl) rfl ul_bb info_bb [.tmp 161, .const (.slice none 0 0)] (by rfl) (by rfl) (by decide) (f := slv) [⟨some ⟨k1, 0, none⟩, 1, 1⟩, ⟨none, 0, 0⟩] (by rfl) (fun _ => rfl) ?_)
          intro g15 w15 b15 e15 lo15 r15; refine Lib.hid ?_
          have hd1 : Reads w15 [⟨some ⟨k1, 0, none⟩, 1, 1⟩, ⟨none, 0, 0⟩] [[5], []] := (Reads.nil.snoc (s := ⟨some ⟨k1, 0, none⟩, 1, 1⟩) (r_k1.ext e15) (by decide)).snoc (s := ⟨none, 0, 0⟩) Rd.none_ (by simp)
          have hS3 := hS3.to e15
          have hlq := hlq.ext e15
          have hlr := hlr.ext e15
          clear b15 lo15 e15 r_k1
          go_wp2_with fail
          refine (equal_ Aq _ nq 2 cq 2 oq _ [[5], []] [[5], []] _ hlq.rd (Reads.of hlq.byt) r15 hd1 hlq.le (by simp [maxLen])).mono ?_
          rintro e w16 ⟨rfl, rfl⟩
          clear hlq hd1 r15
          go_wp2_with (refine wpl_build (by rfl) rfl ul_u8 info_u8 [.const (.int .u8 6), .const (.int .u8 9)] (by rfl) (by rfl) (by decide) (f := u8v) [6, 9] (by rfl) (fun _ => rfl) ?_)
          intro k2 wk24 b_k2 ek24 lo_k2 r_k2; refine Lib.hid ?_
          have hS3 := hS3.to ek24
          have hlr := hlr.ext ek24
          clear ek24
          go_wp2_with (refine wpl_build (by rfl) rfl ul_bb info_bb [.tmp 175] (by rfl) (by rfl) (by decide) (f := slv) [⟨some ⟨k2, 0, none⟩, 2, 2⟩] (by rfl) (fun _ => rfl) ?_)
          intro g16 w16 b16 e16 lo16 r16; refine Lib.hid ?_
          have hd1 : Reads w16 [⟨some ⟨k2, 0, none⟩, 2, 2⟩] [[6, 9]] := Reads.nil.snoc (s := ⟨some ⟨k2, 0, none⟩, 2, 2⟩) (r_k2.ext e16) (by decide)
          have hS3 := hS3.to e16
          have hlr := hlr.ext e16
          clear b16 lo16 e16 r_k2
          go_wp2_with fail
          refine (equal_ Ar _ nr 1 cr 1 or _ [[6, 9]] [[6, 9]] _ hlr.rd (Reads.of hlr.byt) r16 hd1 hlr.le (by simp [maxLen])).mono ?_
          rintro e w17 ⟨rfl, rfl⟩
          have HD := Lib.hid (dead_ hS3.stm)
          have HH := Lib.hid (held_ hS3.stm)
          have HE := Lib.hid hS3.ext
          rw [show (⟨[], 3, true⟩ : FSt).held.length = 0 by rfl] at HH
          clear hlr hd1 r16 hS3
          go_wp2_with fail
          refine HD.out.mono ?_; rintro e w18 ⟨rfl, rfl⟩
          go_wp2_with fail
          refine HH.out.mono ?_; rintro e w18 ⟨rfl, rfl⟩
          go_wp2_with fail
          go_ret
          exact ⟨rfl, HE.out⟩
end Go.Proofs.Ytippgnbmilnjbaa
