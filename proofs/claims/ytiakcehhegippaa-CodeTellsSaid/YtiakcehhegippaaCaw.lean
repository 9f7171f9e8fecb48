/- Caw: the examples of the chapter: awake answers true and writes nothing that was there. -/
import Derived.Test.YtiakcehhegippaaCaP
import Derived.Test.YtiakcehhegippaaCmk
import Derived.Test.YtiakcehhegippaaMps
import Derived.Test.YtiakcehhegippaaAny
import Derived.Test.YtiakcehhegippaaStr
namespace Go.Proofs.Ytiakcehhegippaa
open Go.RowKit Go.Fx
theorem aw_write (A : Option Addr) (n c : Nat) (p : List Ins) (ys : List Nat) (w : World) (hF : writeF p = (ys, 0)) (h : RdS 5 insC w A n p) :
    Calls Try.prog 15 #[.slice A n c] w fun e w' => ∃ A' n' c', e = .returned (.tuple #[.slice A' n' c', .int .i64 0]) ∧ Rd u8v w' A' n' ys ∧ Ext w w' := by
  refine (write_ A n c p w h).mono ?_
  rintro e w' ⟨A', n', c', rfl, hn⟩
  rw [hF] at hn ⊢
  exact ⟨A', n', c', rfl, hn.room.rd, hn.ext⟩
theorem aw_check (A : Option Addr) (n c : Nat) (p : List Ins) (k : Int) (er : Nat) (ei : Int) (w : World) (hF : checkF p = (k, er)) (h1 : ei = (er : Int)) (h : RdS 5 insC w A n p) :
    Calls Try.prog 14 #[.slice A n c] w fun e w' => e = .returned (.tuple #[.int .i64 k, .int .i64 ei]) ∧ Ext w w' := by
  subst h1
  refine (check_ A n c p w h).mono ?_
  rintro e w' ⟨rfl, he⟩
  rw [hF]
  exact ⟨rfl, he⟩
theorem aw_read (A : Option Addr) (n c : Nat) (b : List Nat) (k : Int) (er : Nat) (ei : Int) (w : World) (hF : readF b = ([], k, er)) (h1 : ei = (er : Int)) (h : Rd u8v w A n b) (hb : ∀ x ∈ b, x < 256) (hc : n ≤ c) (hn : n ≤ 100) :
    Calls Try.prog 13 #[.slice A n c] w fun e w' => ∃ A' n' c', e = .returned (.tuple #[.slice A' n' c', .int .i64 k, .int .i64 ei]) ∧ Ext w w' := by
  subst h1
  refine (read_all A n c b w h hb hc (by omega)).mono ?_
  rintro e w' ⟨A', n', c', rfl, _, _, he⟩
  rw [hF]
  exact ⟨A', n', c', rfl, he⟩
def GoodI (key val : Value) : Prop := ∃ i, key = insV i ∧ val = .int .i64 (oneF i : Int)
theorem ul_map : Try.prog.underlying 64 = some (.map 38 26) := by kernel_rfl
abbrev MG (w : World) (b n : Nat) : Prop := MapG Try.prog 38 (plainElem Try.prog 26) GoodI w b n
abbrev RG (w : World) (b r cnt : Nat) : Prop := RngG Try.prog 38 (plainElem Try.prog 26) GoodI w b r cnt
theorem key_some (i : Ins) (h : (keyOf Try.prog 38 (insV i)).isSome = true) : ∃ kl, keyOf Try.prog 38 (insV i) = some kl := Option.isSome_iff_exists.1 h
theorem val_140 : ∃ y, plainElem (H := Unit) Try.prog 26 (.int .i64 140) = some y := ⟨_, plainElem_int (by kernel_rfl) (by decide)⟩
theorem val_141 : ∃ y, plainElem (H := Unit) Try.prog 26 (.int .i64 141) = some y := ⟨_, plainElem_int (by kernel_rfl) (by decide)⟩
set_option maxRecDepth 100000 in
set_option maxHeartbeats 4000000 in
theorem awake_ (w : World) : Calls Try.prog 12 #[] w fun e w' => e = .returned (.bool true) ∧ Ext w w' := by
  go_enter Try.func12, Try.ntmps12
  go_wp2_with (refine wpl_buildS insC_len (by decide) (by rfl) rfl ul_ins info_ins [.tmp 21, .tmp 22, .tmp 23] (by rfl) (by rfl) (by decide) [⟨10, 0, 0, 0, 2⟩, ⟨9, 0, 0, 0, 0⟩, ⟨1, 0, 0, 0, 0⟩] (by rfl) ?_)
  intro g1 w1 b1 e1 lo1 r1; refine Lib.hid ?_
  have E1 := Lib.hid e1
  have R1 := Lib.hid r1
  clear b1 e1 lo1 r1
  go_wp2_with fail
  refine (aw_write _ _ _ _ _ _ ex_w1 R1.out).mono ?_; rintro e w2 ⟨A2, n2, c2, rfl, hr2, e2⟩
  have E2 := Lib.hid (E1.out.t e2)
  have R2 := Lib.hid (R1.out.ext e2)
  have B2 := Lib.hid hr2
  clear e2 hr2 E1 R1
  go_wp2_with fail
  refine (aw_check _ _ _ _ _ _ 0 _ ex_c1 rfl R2.out).mono ?_; rintro e w3 ⟨rfl, e3⟩
  have E3 := Lib.hid (E2.out.t e3)
  have hcv := conv_bytes (c := c2) (B2.out.ext e3) 22 5 ul_u8 (by kernel_rfl) 9 (by kernel_rfl)
  rw [show strOfNums (([10, 0, 0, 2, 9, 0, 0, 1] : List Nat).map fun x : Nat => (x : Int)) = ⟨#[10, 0, 0, 2, 9, 0, 0, 1]⟩ by decide +kernel] at hcv
  clear e3 E2 R2 B2
  go_wp2_with (refine wpl_buildS insC_len (by decide) (by rfl) rfl ul_ins info_ins [.tmp 51, .tmp 52, .tmp 53, .tmp 54] (by rfl) (by rfl) (by decide) [⟨3, 1, 0, 0, -2⟩, ⟨33, 1, 2, 3, 0⟩, ⟨8, 1, 2, 0, 4⟩, ⟨1, 0, 0, 0, 0⟩] (by rfl) ?_)
  intro g4 w4 b4 e4 lo4 r4; refine Lib.hid ?_
  have E4 := Lib.hid (E3.out.t e4)
  have R4 := Lib.hid r4
  clear b4 e4 lo4 r4 E3 hcv
  go_wp2_with fail
  refine (aw_write _ _ _ _ _ _ ex_w2 R4.out).mono ?_; rintro e w5 ⟨A5, n5, c5, rfl, hr5, e5⟩
  have E5 := Lib.hid (E4.out.t e5)
  have hcv := conv_bytes (c := c5) hr5 22 5 ul_u8 (by kernel_rfl) 9 (by kernel_rfl)
  rw [show strOfNums (([3, 1, 255, 255, 255, 255, 255, 255, 255, 254, 33, 1, 2, 3, 8, 1, 2, 4, 1] : List Nat).map fun x : Nat => (x : Int)) = ⟨#[3, 1, 255, 255, 255, 255, 255, 255, 255, 254, 33, 1, 2, 3, 8, 1, 2, 4, 1]⟩ by decide +kernel] at hcv
  clear e5 E4 R4 hr5
  go_upto_region 9 with fail
  have HX := Lib.hid E5.out
  obtain ⟨k1, hk1⟩ := key_some ⟨1, 1, 0, 0, 0⟩ (by kernel_rfl)
  obtain ⟨k2, hk2⟩ := key_some ⟨4, 8, 0, 0, 0⟩ (by kernel_rfl)
  obtain ⟨k3, hk3⟩ := key_some ⟨12, 0, 0, 0, 0⟩ (by kernel_rfl)
  obtain ⟨k4, hk4⟩ := key_some ⟨32, 0, 0, 0, 0⟩ (by kernel_rfl)
  obtain ⟨k5, hk5⟩ := key_some ⟨50, 0, 0, 0, 0⟩ (by kernel_rfl)
  obtain ⟨y0, hy0⟩ := val_140
  obtain ⟨y1, hy1⟩ := val_141
  clear hcv E5
  refine wp_region_any (by kernel_rfl) ?_
  change wpAny _ _ _ _ _ _ _ (World.drew _)
  refine wpAny_take (i := 1) (v := insV ⟨1, 1, 0, 0, 0⟩) rfl (by kernel_rfl) (by kernel_rfl) (by kernel_rfl) (fun _ _ _ h => h) (Or.inl ⟨by rfl, fun w => by go_simp; try rfl⟩) ?_
  refine wpAny_take (i := 3) (v := insV ⟨4, 8, 0, 0, 0⟩) rfl (by kernel_rfl) (by kernel_rfl) (by kernel_rfl) (fun _ _ _ h => h) (Or.inl ⟨by rfl, fun w => by go_simp; try rfl⟩) ?_
  refine wpAny_take (i := 5) (v := insV ⟨12, 0, 0, 0, 0⟩) rfl (by kernel_rfl) (by kernel_rfl) (by kernel_rfl) (fun _ _ _ h => h) (Or.inl ⟨by rfl, fun w => by go_simp; try rfl⟩) ?_
  refine wpAny_take (i := 7) (v := insV ⟨32, 0, 0, 0, 0⟩) rfl (by kernel_rfl) (by kernel_rfl) (by kernel_rfl) (fun _ _ _ h => h) (Or.inl ⟨by rfl, fun w => by go_simp; try rfl⟩) ?_
  refine wpAny_take (i := 9) (v := insV ⟨50, 0, 0, 0, 0⟩) rfl (by kernel_rfl) (by kernel_rfl) (by kernel_rfl) (fun _ _ _ h => h) (Or.inl ⟨by rfl, fun w => by go_simp; try rfl⟩) ?_
  refine wpAny_ready (rs := [0]) (by kernel_rfl) (by simp) (AllReady.cons rfl (fun K hK => ?_) AllReady.nil)
  refine step_makeG (P := Try.prog) (k := 38) (R := plainElem Try.prog 26) (Good := GoodI) rfl rfl ?_
  intro w6 hM e6 s6
  go_simp
  refine hK _ _ ?_
  clear hK K
  have E6 := Lib.hid (HX.out.t ((Ext.drew _).t e6))
  have hbz := HX.out.size
  obtain ⟨mb, hmb⟩ : ∃ mb, mb = w5.heap.size := ⟨_, rfl⟩
  rw [show w5.drew.heap.size = w5.heap.size from rfl, ← hmb] at hM s6
  rw [← hmb]
  have hbz' : w.heap.size ≤ mb := by rw [hmb]; exact hbz
  clear hmb e6 HX hbz
  refine wpAny_ins (ins := [2, 4, 6, 8, 10]) (fin := [true, true, true, true, true, true, true, true, true, true, true, false, false]) (g := 2) (C := fun n w' => (∃ m, MG w' mb m ∧ m + n = 5) ∧ Ext w w' ∧ w'.heap.size = mb + 1) ?_ ?_ 5 _ _ (by kernel_rfl) ⟨⟨0, hM, rfl⟩, E6.out, s6⟩
  · intro i hi
    clear hM s6 E6
    simp only [List.mem_cons, List.not_mem_nil, or_false] at hi
    rcases hi with rfl | rfl | rfl | rfl | rfl
    · refine ⟨_, rfl, fun n w' K hC hK => ?_⟩
      obtain ⟨⟨m, hm, hmn⟩, he, hs⟩ := hC
      refine step_insertG (key := insV ⟨1, 1, 0, 0, 0⟩) (val := .int .i64 141) (by rfl) (by rfl) ul_map keyed_ins (by rfl) (by rfl) (by rfl) hm (by unfold maxLen; omega) hk1 hy1 ⟨_, rfl, by rw [ex_o.1]; rfl⟩ ?_
      intro w2 h1 h2 h3
      exact hK w2 ⟨⟨m + 1, h1, by omega⟩, he.trans (below_of_grown h2 (by omega) (fun k hk => by cases hk; exact hbz')), h3.trans hs⟩
    · refine ⟨_, rfl, fun n w' K hC hK => ?_⟩
      obtain ⟨⟨m, hm, hmn⟩, he, hs⟩ := hC
      refine step_insertG (key := insV ⟨4, 8, 0, 0, 0⟩) (val := .int .i64 141) (by rfl) (by rfl) ul_map keyed_ins (by rfl) (by rfl) (by rfl) hm (by unfold maxLen; omega) hk2 hy1 ⟨_, rfl, by rw [ex_o.2.1]; rfl⟩ ?_
      intro w2 h1 h2 h3
      exact hK w2 ⟨⟨m + 1, h1, by omega⟩, he.trans (below_of_grown h2 (by omega) (fun k hk => by cases hk; exact hbz')), h3.trans hs⟩
    · refine ⟨_, rfl, fun n w' K hC hK => ?_⟩
      obtain ⟨⟨m, hm, hmn⟩, he, hs⟩ := hC
      refine step_insertG (key := insV ⟨12, 0, 0, 0, 0⟩) (val := .int .i64 140) (by rfl) (by rfl) ul_map keyed_ins (by rfl) (by rfl) (by rfl) hm (by unfold maxLen; omega) hk3 hy0 ⟨_, rfl, by rw [ex_o.2.2.1]; rfl⟩ ?_
      intro w2 h1 h2 h3
      exact hK w2 ⟨⟨m + 1, h1, by omega⟩, he.trans (below_of_grown h2 (by omega) (fun k hk => by cases hk; exact hbz')), h3.trans hs⟩
    · refine ⟨_, rfl, fun n w' K hC hK => ?_⟩
      obtain ⟨⟨m, hm, hmn⟩, he, hs⟩ := hC
      refine step_insertG (key := insV ⟨32, 0, 0, 0, 0⟩) (val := .int .i64 140) (by rfl) (by rfl) ul_map keyed_ins (by rfl) (by rfl) (by rfl) hm (by unfold maxLen; omega) hk4 hy0 ⟨_, rfl, by rw [ex_o.2.2.2.1]; rfl⟩ ?_
      intro w2 h1 h2 h3
      exact hK w2 ⟨⟨m + 1, h1, by omega⟩, he.trans (below_of_grown h2 (by omega) (fun k hk => by cases hk; exact hbz')), h3.trans hs⟩
    · refine ⟨_, rfl, fun n w' K hC hK => ?_⟩
      obtain ⟨⟨m, hm, hmn⟩, he, hs⟩ := hC
      refine step_insertG (key := insV ⟨50, 0, 0, 0, 0⟩) (val := .int .i64 140) (by rfl) (by rfl) ul_map keyed_ins (by rfl) (by rfl) (by rfl) hm (by unfold maxLen; omega) hk5 hy0 ⟨_, rfl, by rw [ex_o.2.2.2.2]; rfl⟩ ?_
      intro w2 h1 h2 h3
      exact hK w2 ⟨⟨m + 1, h1, by omega⟩, he.trans (below_of_grown h2 (by omega) (fun k hk => by cases hk; exact hbz')), h3.trans hs⟩
  clear hM s6 E6 hk1 hk2 hk3 hk4 hk5 hy0 hy1
  rintro w7 ⟨⟨m7, hM7, -⟩, e7, -⟩
  refine wpAny_take (i := 11) (v := .map (some mb)) rfl (by kernel_rfl) (by kernel_rfl) (by kernel_rfl) (fun _ _ _ h => h) (Or.inl ⟨by rfl, fun w => by go_simp; try rfl⟩) ?_
  refine wpAny_ready (rs := [12]) (by kernel_rfl) (by simp) (AllReady.cons rfl (fun K hK => ?_) AllReady.nil)
  refine step_rangeG (P := Try.prog) rfl rfl ul_map rfl hM7 ?_
  intro w8 cnt hR hcnt e8 s8
  go_simp
  refine hK _ _ ?_
  clear hK K hM7
  refine wpAny_done (by kernel_rfl) ?_ _
  have E8 := Lib.hid (e7.t e8)
  have R8 := Lib.hid hR
  have hrb : w.heap.size ≤ w7.heap.size := e7.size
  clear e7 e8 hR s8 hcnt
  generalize w7.heap.size = rb at *
  go_wp2_with fail
  go_loopg [] cnt (fun k wr => Hid (RG wr mb rb k ∧ Ext w wr))
  case atStart => exact Lib.hid ⟨R8.out, E8.out⟩
  case round =>
    obtain ⟨hr, he⟩ := hrel.out
    clear E8 R8 hrel
    rcases hr.next 0 with ⟨rfl, hn⟩ | ⟨key, v, w9, cnt', ⟨i, rfl, rfl⟩, hn, hR9, hlt, hgr, hsz, hen⟩
    · have E9 := Lib.hid he
      clear hr he
      go_wp2_with (refine wpl_buildS insC_len (by decide) (by rfl) rfl ul_ins info_ins [.tmp 84] (by rfl) (by rfl) (by decide) [⟨9, 0, 0, 0, 1⟩] (by rfl) ?_)
      intro g10 w10 b10 e10 lo10 r10; refine Lib.hid ?_
      have E10 := Lib.hid (E9.out.t e10)
      have R10 := Lib.hid r10
      clear b10 e10 lo10 r10 E9 hn
      go_wp2_with fail
      refine (aw_check _ _ _ _ _ _ 142 _ ex_k1 rfl R10.out).mono ?_; rintro e w11 ⟨rfl, e11⟩
      have E11 := Lib.hid (E10.out.t e11)
      clear e11 E10 R10
      go_wp2_with (refine wpl_buildS insC_len (by decide) (by rfl) rfl ul_ins info_ins [.tmp 90] (by rfl) (by rfl) (by decide) [⟨4, 0, 0, 0, 0⟩] (by rfl) ?_)
      intro g12 w12 b12 e12 lo12 r12; refine Lib.hid ?_
      have E12 := Lib.hid (E11.out.t e12)
      have R12 := Lib.hid r12
      clear b12 e12 lo12 r12 E11
      go_wp2_with fail
      refine (aw_check _ _ _ _ _ _ 143 _ ex_k2 rfl R12.out).mono ?_; rintro e w13 ⟨rfl, e13⟩
      have E13 := Lib.hid (E12.out.t e13)
      clear e13 E12 R12
      go_wp2_with (refine wpl_build (by rfl) rfl ul_u8 info_u8 [.const (.int .u8 9), .const (.int .u8 0)] (by rfl) (by rfl) (by decide) (f := u8v) [9, 0] (by rfl) (fun _ => rfl) ?_)
      intro g14 w14 b14 e14 lo14 r14; refine Lib.hid ?_
      have E14 := Lib.hid (E13.out.t e14)
      have R14 := Lib.hid r14
      clear b14 e14 lo14 r14 E13
      go_wp2_with fail
      refine (aw_read _ _ _ _ _ _ 144 _ ex_r1 rfl R14.out (by decide) (by decide) (by decide)).mono ?_; rintro e w15 ⟨A15, n15, c15, rfl, e15⟩
      have E15 := Lib.hid (E14.out.t e15)
      clear e15 E14 R14
      go_wp2_with (refine wpl_build (by rfl) rfl ul_u8 info_u8 [.const (.int .u8 1), .const (.int .u8 12)] (by rfl) (by rfl) (by decide) (f := u8v) [1, 12] (by rfl) (fun _ => rfl) ?_)
      intro g16 w16 b16 e16 lo16 r16; refine Lib.hid ?_
      have E16 := Lib.hid (E15.out.t e16)
      have R16 := Lib.hid r16
      clear b16 e16 lo16 r16 E15
      go_wp2_with fail
      refine (aw_read _ _ _ _ _ _ 140 _ ex_r2 rfl R16.out (by decide) (by decide) (by decide)).mono ?_; rintro e w17 ⟨A17, n17, c17, rfl, e17⟩
      have E17 := Lib.hid (E16.out.t e17)
      clear e17 E16 R16
      go_wp2_with (refine wpl_build (by rfl) rfl ul_u8 info_u8 [.const (.int .u8 5), .const (.int .u8 8), .const (.int .u8 0)] (by rfl) (by rfl) (by decide) (f := u8v) [5, 8, 0] (by rfl) (fun _ => rfl) ?_)
      intro g18 w18 b18 e18 lo18 r18; refine Lib.hid ?_
      have E18 := Lib.hid (E17.out.t e18)
      have R18 := Lib.hid r18
      clear b18 e18 lo18 r18 E17
      go_wp2_with fail
      refine (aw_read _ _ _ _ _ _ 141 _ ex_r3 rfl R18.out (by decide) (by decide) (by decide)).mono ?_; rintro e w19 ⟨A19, n19, c19, rfl, e19⟩
      have E19 := Lib.hid (E18.out.t e19)
      clear e19 E18 R18
      go_wp2_with fail
      go_ret
      exact ⟨rfl, E19.out⟩
    · have HO := Lib.hid (fun w' => one_ i w')
      unfold OneP insV at HO
      unfold insV at hn hen
      have E9 := Lib.hid (he.trans (below_of_grown hgr he.size (fun k hk => by cases hk; exact hrb)))
      have R9 := Lib.hid hR9
      have Hlt := Lib.hid hlt
      have hq : ((oneF i : Int) != (oneF i : Int)) = false := by simp
      generalize oneF i = er at *
      clear hr he hR9 hlt hgr hsz
      go_wp2_with fail
      refine (HO.out _).mono ?_; rintro e w10 ⟨rfl, e10⟩
      have E10 := Lib.hid (E9.out.t ((Ext.alloc _ _).t e10))
      have R10 := Lib.hid (R9.out.ext ((Ext.alloc _ _).t e10))
      clear e10 E9 R9 HO hn hen
      go_wp2_with fail
      go_roundg cnt'
      case measure => exact Hlt.out
      case rel => exact Lib.hid ⟨R10.out, E10.out⟩
end Go.Proofs.Ytiakcehhegippaa
