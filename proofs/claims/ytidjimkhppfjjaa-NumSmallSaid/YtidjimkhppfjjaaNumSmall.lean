/- NumSmall: the walk of the law. -/
import Derived.Test.YtidjimkhppfjjaaNumReads
import Derived.Test.YtidjimkhppfjjaaNumWrites
namespace Go.Fx
open Go.RowKit
theorem Arg.ext {k : IntKind} {M : Nat} {w w' : World} {A : Option Addr} {n c : Nat} {xs : List Nat} (h : Arg k M w A n c xs) (e : Ext w w') : Arg k M w' A n c xs := ⟨h.rd.ext e, h.lt, h.le, h.max⟩
theorem Arg.nil {k : IntKind} {M : Nat} {w : World} : Arg k M w none 0 0 [] := ⟨Rd.none_, by simp, Nat.le_refl _, by simp [maxLen]⟩
theorem Rd.at0 {α : Type} {f : α → Value} {w : World} {g n k : Nat} {xs : List α} (h : Rd f w (some ⟨g, 0, none⟩) n xs) (hk : k < n) : ∃ x, xs[k]? = some x ∧ w.cell? ⟨g, k, none⟩ = some (f x) := by
  obtain ⟨b, o, x, e, _, hx, hc⟩ := h.at_ hk
  cases e
  rw [Nat.zero_add] at hc
  exact ⟨x, hx, hc⟩
theorem w64_bd (z : Int) : -9223372036854775808 ≤ wrap64 z ∧ wrap64 z ≤ 9223372036854775807 := by unfold wrap64; omega
theorem Rd.grown {α : Type} {f : α → Value} {w w' : World} {b o n : Nat} {xs : List α} {row : Option Nat} (h : Rd f w (some ⟨b, o, none⟩) n xs) (hg : w.grownBy w' row) (hne : row ≠ some b) : Rd f w' (some ⟨b, o, none⟩) n xs := by
  refine ⟨h.1, fun hn => ?_⟩
  obtain ⟨b', o', e, hb, hc⟩ := h.2 hn
  cases e
  exact ⟨b, o, rfl, Nat.lt_of_lt_of_le hb hg.size, fun i x hx => (World.cell?_of_block (hg.block b hb (fun e => hne e.symm))).trans (hc i x hx)⟩
theorem own_head {w : World} {base : Nat} {e : TypeId} {size : Nat} {A : Option Addr} {n c : Nat} {xs : List Value} (h : w.ownsRow base e size (.slice A n c) n xs) (hn : 0 < n) : ∃ g, A = some ⟨g, 0, none⟩ := by
  rcases h.2 with ⟨h1, h2⟩ | ⟨g, cap, cur, h1, -⟩
  · simp only [Value.slice.injEq] at h1; omega
  · simp only [Value.slice.injEq] at h1; exact ⟨g, h1.1⟩
end Go.Fx
namespace Go.Proofs.Ytidjimkhppfjjaa
open Go.RowKit Go.Fx Go.ChangeShapes Go.WideShapes

theorem own_empty (W : World) : (W.alloc (.cells #[] 5)).ownsRow W.heap.size 5 1 (.slice (some ⟨W.heap.size, 0, none⟩) 0 0) 0 (([] : List Nat).map u8v) := World.ownsRow_lit W _ 0 (Nat.le_refl _) (by simp [maxLen]) (by simp)
theorem one_rd (W : World) (d : Nat) : Rd u8v (W.alloc (.cells #[.int .u8 (d : Int)] 5)) (some ⟨W.heap.size, 0, none⟩) 1 [d] := (Blk.new W _ _).rd rfl rfl
theorem one_rd' (W : World) (o : Obj) (d : Nat) : Rd u8v ((W.alloc o).alloc (.cells #[.int .u8 (d : Int)] 5)) (some ⟨W.heap.size + 1, 0, none⟩) 1 [d] := by
  have h := one_rd (W.alloc o) d
  rwa [World.size_alloc] at h
set_option maxRecDepth 100000 in
set_option maxHeartbeats 2000000 in
theorem walkNumSmall (w : World) :
    Calls Try.prog 9 #[] w fun e w' => e = .returned (.bool true) ∧ Below w.heap.size w w' := by
  go_enter Try.func9, Try.ntmps9
  have hE := Ext.refl w
  go_wp2_with (refine wpl_build (by rfl) rfl ul_u8 info_u8 [.const (.int .u8 0), .const (.int .u8 1), .const (.int .u8 245), .const (.int .u8 246), .const (.int .u8 247), .const (.int .u8 248), .const (.int .u8 249), .const (.int .u8 254), .const (.int .u8 255)] (by rfl) (by rfl) (by decide) (f := u8v) [0, 1, 245, 246, 247, 248, 249, 254, 255] (by rfl) (fun _ => rfl) ?_)
  intro g0 wk1 b_g0 ek1 lo_g0 r_g0; refine Lib.hid ?_
  have hE := hE.t ek1
  clear ek1
  have Hs_ : Hid (∀ x ∈ [0, 1, 245, 246, 247, 248, 249, 254, 255], x < 256) := Lib.hid (by decide)
  generalize [0, 1, 245, 246, 247, 248, 249, 254, 255] = sl at r_g0 Hs_
  clear b_g0 lo_g0
  go_wp2_with fail
  go_loopw [22] (fun i wr => ∃ k : Nat, k ≤ 256 ∧ i = .int .i64 (k : Int) ∧ Ext wk1 wr) (fun i _ => 256 - (intOf i).toNat)
  case atStart => exact ⟨0, by omega, rfl, Ext.refl _⟩
  case round =>
    obtain ⟨k, hk, rfl, ex⟩ := hrel
    have r_s := r_g0.ext ex
    by_cases hlt : k < 256
    · --A{
      have hlt' : (k : Int) < 256 := by omega
      have hku : IntKind.u8.wrap (k : Int) = (k : Int) := by rw [IntKind.wrap_u8]; omega
      go_wp2_with (refine wpl_build (by rfl) rfl ul_u8 info_u8 [.tmp 26] (by rfl) (by rfl) (by decide) (f := u8v) [k] (by rfl) (fun _ => rfl) ?_)
      intro g1 wk2 b_g1 ek2 lo_g1 r_g1; refine Lib.hid ?_
      have ex := ex.t ek2
      have r_s := r_s.ext ek2
      clear ek2
      have a1 : Arg .u8 256 wk2 (some ⟨g1, 0, none⟩) 1 1 [k] := ⟨r_g1, by simp; omega, Nat.le_refl _, by simp [maxLen]⟩
      clear b_g1 lo_g1 r_g1
      go_wp2_with fail
      refine (reads_ _ _ _ _ _ _ _ _ _ _ _ _ ⟨by omega, by omega⟩ ⟨by omega, by omega⟩ ⟨by omega, by omega⟩ Arg.nil a1).mono ?_
      rintro e wk3 ⟨rfl, ek3⟩
      have ex := ex.t ek3
      have r_s := r_s.ext ek3
      have a1 := a1.ext ek3
      clear ek3
      go_wp2_with fail
      refine (reads_ _ _ _ _ _ _ _ _ _ _ _ _ ⟨by omega, by omega⟩ ⟨by omega, by omega⟩ ⟨by omega, by omega⟩ a1 Arg.nil).mono ?_
      rintro e wk4 ⟨rfl, ek4⟩
      have ex := ex.t ek4
      have r_s := r_s.ext ek4
      have a1 := a1.ext ek4
      clear ek4
      go_wp2_with fail
      refine (reads_ _ _ _ _ _ _ _ _ _ _ _ _ ⟨by omega, by omega⟩ ⟨by omega, by omega⟩ ⟨by omega, by omega⟩ a1 a1).mono ?_
      rintro e wk5 ⟨rfl, ek5⟩
      have ex := ex.t ek5
      have r_s := r_s.ext ek5
      have a1 := a1.ext ek5
      clear ek5
      go_wp2_with fail
      refine (reads_ _ _ _ _ _ _ _ _ _ _ _ _ ⟨by omega, by omega⟩ ⟨by omega, by omega⟩ ⟨by omega, by omega⟩ a1 a1).mono ?_
      rintro e wk6 ⟨rfl, ek6⟩
      have ex := ex.t ek6
      have r_s := r_s.ext ek6
      have a1 := a1.ext ek6
      clear ek6
      go_wp2_with fail
      refine (reads_ _ _ _ _ _ _ _ _ _ _ _ _ ⟨by omega, by omega⟩ ⟨by omega, by omega⟩ ⟨by omega, by omega⟩ a1 a1).mono ?_
      rintro e wk7 ⟨rfl, ek7⟩
      have ex := ex.t ek7
      have r_s := r_s.ext ek7
      have a1 := a1.ext ek7
      clear ek7
      go_wp2_with fail
      clear a1 r_s
      obtain ⟨wo, rfl⟩ : ∃ wo : World, wo = wk7 := ⟨_, rfl⟩
      go_loopw [59] (fun i wr => ∃ j : Nat, j ≤ 9 ∧ i = .int .i64 (j : Int) ∧ Ext wk1 wr) (fun i _ => 9 - (intOf i).toNat)
      case atStart => exact ⟨0, by omega, rfl, ex⟩
      case round =>
        obtain ⟨j, hj, rfl, ex⟩ := hrel
        have r_s := r_g0.ext ex
        by_cases hj9 : j < 9
        · have hj9' : (j : Int) < 9 := by omega
          obtain ⟨x, hx, hcx⟩ := r_s.at0 hj9
          have x256 : x < 256 := Hs_.out x (List.mem_of_getElem? hx)
          clear hx
          go_wp2_with fail
          clear hcx r_s
          obtain ⟨wo2, hwo2⟩ : ∃ wo : World, wo = wr := ⟨_, rfl⟩
          clear hwo2
          go_loopw [65] (fun i wr => ∃ l : Nat, l ≤ 9 ∧ i = .int .i64 (l : Int) ∧ Ext wk1 wr) (fun i _ => 9 - (intOf i).toNat)
          case atStart => exact ⟨0, by omega, rfl, ex⟩
          case round =>
            obtain ⟨l, hl, rfl, ex⟩ := hrel
            have r_s := r_g0.ext ex
            by_cases hl9 : l < 9
            · have hl9' : (l : Int) < 9 := by omega
              obtain ⟨y, hy, hcy⟩ := r_s.at0 hl9
              have y256 : y < 256 := Hs_.out y (List.mem_of_getElem? hy)
              clear hy
              go_wp2_with fail
              clear hcy r_s
              go_loopw [71] (fun i wr => ∃ m : Nat, m ≤ 9 ∧ i = .int .i64 (m : Int) ∧ Ext wk1 wr) (fun i _ => 9 - (intOf i).toNat)
              case atStart => exact ⟨0, by omega, rfl, ex⟩
              case round =>
                obtain ⟨m, hm, rfl, ex⟩ := hrel
                have r_s := r_g0.ext ex
                by_cases hm9 : m < 9
                · have hm9' : (m : Int) < 9 := by omega
                  obtain ⟨z, hz, hcz⟩ := r_s.at0 hm9
                  have z256 : z < 256 := Hs_.out z (List.mem_of_getElem? hz)
                  clear hz r_s
                  have z3 : (0 : Int) ≤ (z : Int) % 3 := by omega
                  have z4 : (z : Int) % 3 < 3 := by omega
                  go_wp2_with (refine wpl_build (by rfl) rfl ul_u8 info_u8 [.tmp 76, .tmp 77, .tmp 78, .tmp 79] (by rfl) (by rfl) (by decide) (f := u8v) [k, x, y, z] (by rfl) (fun _ => rfl) ?_)
                  intro g4 wk8 b_g4 ek8 lo_g4 r_g4; refine Lib.hid ?_
                  have ex := ex.t ek8
                  clear ek8
                  clear hcz
                  have a4 : Arg .u8 256 wk8 (some ⟨g4, 0, none⟩) 4 4 [k, x, y, z] := ⟨r_g4, by simp; omega, Nat.le_refl _, by simp [maxLen]⟩
                  clear b_g4 lo_g4 r_g4
                  go_wp2_with (refine wpl_build (by rfl) rfl ul_u8 info_u8 [.tmp 82, .tmp 83] (by rfl) (by rfl) (by decide) (f := u8v) [k, x] (by rfl) (fun _ => rfl) ?_)
                  intro g5 wk9 b_g5 ek9 lo_g5 r_g5; refine Lib.hid ?_
                  have ex := ex.t ek9
                  have a4 := a4.ext ek9
                  clear ek9
                  have a5 : Arg .u8 256 wk9 (some ⟨g5, 0, none⟩) 2 2 [k, x] := ⟨r_g5, by simp; omega, Nat.le_refl _, by simp [maxLen]⟩
                  clear b_g5 lo_g5 r_g5
                  go_wp2_with fail
                  refine (reads_ _ _ _ _ _ _ _ _ _ _ _ _ ⟨by omega, by omega⟩ ⟨by omega, by omega⟩ ⟨by omega, by omega⟩ a4 a5).mono ?_
                  rintro e wk10 ⟨rfl, ek10⟩
                  have ex := ex.t ek10
                  have a4 := a4.ext ek10
                  have a5 := a5.ext ek10
                  clear ek10
                  clear a4
                  clear a5
                  go_wp2_with (refine wpl_build (by rfl) rfl ul_u8 info_u8 [.tmp 92, .tmp 93, .tmp 94] (by rfl) (by rfl) (by decide) (f := u8v) [k, x, y] (by rfl) (fun _ => rfl) ?_)
                  intro g6 wk11 b_g6 ek11 lo_g6 r_g6; refine Lib.hid ?_
                  have ex := ex.t ek11
                  clear ek11
                  have a6 : Arg .u8 256 wk11 (some ⟨g6, 0, none⟩) 3 3 [k, x, y] := ⟨r_g6, by simp; omega, Nat.le_refl _, by simp [maxLen]⟩
                  clear b_g6 lo_g6 r_g6
                  go_wp2_with (refine wpl_build (by rfl) rfl ul_u8 info_u8 [.tmp 96, .tmp 97] (by rfl) (by rfl) (by decide) (f := u8v) [x, y] (by rfl) (fun _ => rfl) ?_)
                  intro g7 wk12 b_g7 ek12 lo_g7 r_g7; refine Lib.hid ?_
                  have ex := ex.t ek12
                  have a6 := a6.ext ek12
                  clear ek12
                  have a7 : Arg .u8 256 wk12 (some ⟨g7, 0, none⟩) 2 2 [x, y] := ⟨r_g7, by simp; omega, Nat.le_refl _, by simp [maxLen]⟩
                  clear b_g7 lo_g7 r_g7
                  go_wp2_with fail
                  refine (reads_ _ _ _ _ _ _ _ _ _ _ _ _ ⟨by omega, by omega⟩ ⟨by omega, by omega⟩ ⟨by omega, by omega⟩ a6 a7).mono ?_
                  rintro e wk13 ⟨rfl, ek13⟩
                  have ex := ex.t ek13
                  have a6 := a6.ext ek13
                  have a7 := a7.ext ek13
                  clear ek13
                  go_wp2_with fail
                  go_roundw
                  case rel => exact ⟨m + 1, by omega, by go_num, ex⟩
                  case measure => simp [intOf]; omega
                · obtain rfl : m = 9 := by omega
                  clear r_s
                  go_wp2_with fail
                  go_roundw
                  case rel => exact ⟨l + 1, by omega, by go_num, ex⟩
                  case measure => simp [intOf]; omega
            · obtain rfl : l = 9 := by omega
              clear r_s
              go_wp2_with fail
              go_roundw
              case rel => exact ⟨j + 1, by omega, by go_num, ex⟩
              case measure => simp [intOf]; omega
        · obtain rfl : j = 9 := by omega
          clear r_s
          go_wp2_with fail
          go_roundw
          case rel => exact ⟨k + 1, by omega, by go_num, ex⟩
          case measure => simp [intOf]; omega
    --A}
    · obtain rfl : k = 256 := by omega
      clear r_s
      go_wp2_with fail
      go_loopw [106] (fun i wr => ∃ k : Nat, k ≤ 65 ∧ i = .int .i64 (k : Int) ∧ Ext wk1 wr) (fun i _ => 65 - (intOf i).toNat)
      case atStart => exact ⟨0, by omega, rfl, ex⟩
      case round =>
        obtain ⟨k, hk, rfl, ex⟩ := hrel
        by_cases hlt : k < 65
        · have hlt' : (k : Int) < 65 := by omega
          go_wp2_with (refine wpl_build (by rfl) rfl ul_u64 info_u64 [.const (.int .u64 0), .const (.int .u64 1), .const (.int .u64 18446744073709551615), .const (.int .u64 247)] (by rfl) (by rfl) (by decide) (f := u64v) [0, 1, 18446744073709551615, 247] (by rfl) (fun _ => rfl) ?_)
          intro g8 wk14 b_g8 ek14 lo_g8 r_g8; refine Lib.hid ?_
          have ex := ex.t ek14
          clear ek14
          have Hb : Hid (∀ x ∈ [0, 1, 18446744073709551615, 247], x < 18446744073709551616) := Lib.hid (by decide)
          generalize [0, 1, 18446744073709551615, 247] = bl at r_g8 Hb
          clear b_g8 lo_g8
          go_wp2_with fail
          go_loopw [111] (fun i wr => ∃ j : Nat, j ≤ 4 ∧ i = .int .i64 (j : Int) ∧ Ext wk14 wr) (fun i _ => 4 - (intOf i).toNat)
          case atStart => exact ⟨0, by omega, rfl, Ext.refl _⟩
          case round =>
            obtain ⟨j, hj, rfl, ey⟩ := hrel
            have exy := ex.t ey
            by_cases hj4 : j < 4
            · have hj4' : (j : Int) < 4 := by omega
              obtain ⟨bb, hbb, hcb⟩ := (r_g8.ext ey).at0 hj4
              have b64 := Hb.out bb (List.mem_of_getElem? hbb)
              clear hbb
              have Hb64 := Lib.hid b64
              clear b64
              go_upto_if 116 with fail
              go_cut [13] from 117 to 118 (fun v wx => ∃ x : Nat, v = .int .u64 (x : Int) ∧ x < 18446744073709551616 ∧ wx = wr)
              case first =>
                by_cases hk64 : k < 64
                · have hk64' : (k : Int) < 64 := by omega
                  go_wp2_with fail
                  go_meet
                  exact ⟨2 ^ k % 18446744073709551616, by rw [IntKind.wrap_u64, Int.natCast_emod, Int.natCast_pow]; rfl, Nat.mod_lt _ (by omega), rfl⟩
                · obtain rfl : k = 64 := by omega
                  go_wp2_with fail
                  go_meet
                  exact ⟨0, rfl, by omega, rfl⟩
              case rest =>
                obtain ⟨x0, rfl, hx0, rfl⟩ := hcut
                obtain ⟨x, hx⟩ : ∃ x, (x0 + bb) % 18446744073709551616 = x := ⟨_, rfl⟩
                have hx64 : x < 18446744073709551616 := by omega
                have hxw : IntKind.u64.wrap ((x0 : Int) + (bb : Int)) = (x : Int) := by rw [IntKind.wrap_u64]; omega
                obtain ⟨xn, hxn⟩ : ∃ xn, (18446744073709551616 - x) % 18446744073709551616 = xn := ⟨_, rfl⟩
                have hxnw : IntKind.u64.wrap (-(x : Int)) = (xn : Int) := by rw [IntKind.wrap_u64]; omega
                have Hxn64 : Hid (xn < 18446744073709551616) := Lib.hid (by omega)
                have Hx64 := Lib.hid hx64
                obtain ⟨s, Hs⟩ : ∃ s, Hid (Num.size x = s) := ⟨_, Lib.hid rfl⟩
                have hs1 := Num.size_pos x
                have hs9 := Num.size_le x
                have Hfl := Lib.hid (Num.form_lt x)
                have Hfs := Lib.hid (Num.form_length x)
                rw [Hs.out] at hs1 hs9 Hfs
                clear hx hxn hx64 hx0 hcb
                have r_s := r_g0.ext exy
                go_wp2_with fail
                refine (writes_ x _ _ _ _ [] _ Hx64.out (w64_bd _) Arg.nil).mono ?_
                rintro e wk15 ⟨rfl, ek15⟩
                have exy := exy.t ek15
                have r_s := r_s.ext ek15
                have ey := ey.t ek15
                clear ek15
                go_wp2_with (refine wpl_build (by rfl) rfl ul_u8 info_u8 [.const (.int .u8 7)] (by rfl) (by rfl) (by decide) (f := u8v) [7] (by rfl) (fun _ => rfl) ?_)
                intro g9 wk16 b_g9 ek16 lo_g9 r_g9; refine Lib.hid ?_
                have exy := exy.t ek16
                have r_s := r_s.ext ek16
                have ey := ey.t ek16
                clear ek16
                have a9 : Arg .u8 256 wk16 (some ⟨g9, 0, none⟩) 1 1 [7] := ⟨r_g9, by simp, Nat.le_refl _, by simp [maxLen]⟩
                clear b_g9 lo_g9 r_g9
                go_wp2_with fail
                refine (writes_ xn _ _ _ _ [7] _ Hxn64.out (w64_bd _) a9).mono ?_
                rintro e wk17 ⟨rfl, ek17⟩
                have exy := exy.t ek17
                have r_s := r_s.ext ek17
                have ey := ey.t ek17
                clear ek17
                clear a9
                go_wp2_with fail
                refine (ref_Form x _ Hx64.out).mono ?_
                rw [Hs.out]
                rintro e wk18 ⟨A3, c3, rfl, own3, ek18⟩
                have exy := exy.t ek18
                have r_s := r_s.ext ek18
                have ey := ey.t ek18
                clear ek18
                have r_f := Rd.of_own own3
                have hc3 := own_cap own3
                have hm3 := own_cmax own3
                unfold maxLen at hm3
                obtain ⟨gf, hgf⟩ : ∃ g, A3 = some ⟨g, 0, none⟩ := own_head own3 (by omega)
                subst hgf
                clear own3
                generalize Num.form x = fx at r_f Hfl Hfs
                have af : Arg .u8 256 wk18 (some ⟨gf, 0, none⟩) s c3 fx := ⟨r_f, Hfl.out, hc3, by simp only [maxLen]; omega⟩
                go_wp2_with fail
                go_loopw [142] (fun i wr => ∃ i' : Nat, i' ≤ s + 1 ∧ i = .int .i64 (i' : Int) ∧ Ext wk18 wr) (fun i _ => s + 1 - (intOf i).toNat)
                case atStart => exact ⟨0, by omega, rfl, Ext.refl _⟩
                case round =>
                  obtain ⟨i, hi, rfl, ez⟩ := hrel
                  by_cases his : i < s + 1
                  · have his' : (i : Int) < (s : Int) + 1 := by omega
                    go_wp2_with fail
                    go_loopw [147] (fun i wr => ∃ j : Nat, j ≤ 9 ∧ i = .int .i64 (j : Int) ∧ Ext wk18 wr) (fun i _ => 9 - (intOf i).toNat)
                    case atStart => exact ⟨0, by omega, rfl, ez⟩
                    case round =>
                      obtain ⟨j, hj, rfl, ez⟩ := hrel
                      by_cases hj9 : j < 9
                      · have hj9' : (j : Int) < 9 := by omega
                        have r_s := r_s.ext ez
                        have r_f := r_f.ext ez
                        have af := af.ext ez
                        obtain ⟨d, hd, hcd⟩ := r_s.at0 hj9
                        have d256 : d < 256 := Hs_.out d (List.mem_of_getElem? hd)
                        clear hd
                        have exw := exy.t ez
                        have r_c0 : i ≤ s → Rd u8v wr (some ⟨gf, 0, none⟩) i (fx.take i) := fun h => r_f.take h
                        have hi2 : i ≤ s := by omega
                        have r_i := r_c0 hi2
                        have hic : (i : Int) ≤ (c3 : Int) := by omega
                        have his2 : (i : Int) ≤ (s : Int) := by omega
                        have his3 : ((s : Int) - (i : Int)).toNat = s - i := by omega
                        clear r_c0
                        go_upto_region 42 with fail
                        go_cut [18] from 151 to 162 (fun v wx => ∃ (A : Option Addr) (c n : Nat) (l : List Nat), v = .slice A n c ∧ Arg .u8 256 wx A n c l ∧ Ext wr wx)
                        case first =>
                          by_cases hci : c3 = i
                          · obtain rfl : i = s := by omega
                            obtain rfl : c3 = i := by omega
                            have r_j : Rd u8v wr (some ⟨gf, 0, none⟩) 0 ([] : List Nat) := ⟨rfl, fun h => absurd h (by omega)⟩
                            have Hall : Hid (∀ x ∈ (fx.take c3 ++ [d]) ++ [], x < 256) := Lib.hid (fun x hx => by
                              rw [List.append_nil] at hx
                              rcases List.mem_append.1 hx with h | h
                              · exact Hfl.out x (List.mem_of_mem_take h)
                              · simp at h; omega)
                            go_region_law (first
                              | (refine step_append (f := u8v) (base := wr.heap.size) rfl rfl Try.underlying24 info_u8 rfl (by simp [Act.eval, Act.put]) (own_empty _) (by simp [Act.eval, Act.put]; rfl) ((r_i.drew).alloc _) (fun _ => rfl) (by simp only [maxLen]; omega) (by omega) (by simp) ?_
                                 intro A4 c4 w4 own4 grow4
                                 have e4 : Below wr.heap.size wr w4 := ((Ext.drew wr).t (Ext.alloc _ _)).grown grow4 (by simp) (fun k hk => blk_ge (g := wr.heap.size) hk)
                                 rw [List.nil_append, Nat.zero_add] at own4)
                              | (refine step_append (f := u8v) (base := wr.heap.size) rfl rfl Try.underlying24 info_u8 rfl (by simp [Act.eval, Act.put]) ((own_empty wr.drew).alloc _) (by simp [Act.eval, Act.put]; rfl) (((r_i.drew).alloc _).alloc _) (fun _ => rfl) (by simp only [maxLen]; omega) (by omega) (by simp; omega) ?_
                                 intro A4 c4 w4 own4 grow4
                                 have e4 : Below wr.heap.size wr w4 := (((Ext.drew wr).t (Ext.alloc _ _)).t (Ext.alloc _ _)).grown grow4 (by simp; omega) (fun k hk => blk_ge (g := wr.heap.size) hk)
                                 have r_c : Rd u8v w4 (some ⟨wr.heap.size + 1, 0, none⟩) 1 [d] := Rd.grown (one_rd' wr.drew _ d) grow4 (by simp [Value.ownBlock])
                                 rw [List.nil_append, Nat.zero_add] at own4)
                              | (refine step_append (f := u8v) (base := wr.heap.size) rfl rfl Try.underlying24 info_u8 rfl (by simp [Act.eval, Act.put]) ((own_empty (wr.drew.alloc _)).mono (by simp)) (by simp [Act.eval, Act.put]; rfl) (((r_i.drew).alloc _).alloc _) (fun _ => rfl) (by simp only [maxLen]; omega) (by omega) (by simp; omega) ?_
                                 intro A4 c4 w4 own4 grow4
                                 have e4 : Below wr.heap.size wr w4 := (((Ext.drew wr).t (Ext.alloc _ _)).t (Ext.alloc _ _)).grown grow4 (by simp; omega) (fun k hk => by have h := blk_ge hk; simp at h; omega)
                                 have r_c : Rd u8v w4 (some ⟨wr.heap.size, 0, none⟩) 1 [d] := Rd.grown ((one_rd wr.drew d).alloc _) grow4 (by simp [Value.ownBlock])
                                 rw [List.nil_append, Nat.zero_add] at own4)
                              | (refine step_append (f := u8v) (base := wr.heap.size) rfl rfl Try.underlying24 info_u8 rfl (by simp [Act.eval, Act.put]) (own4.alloc _) (by simp [Act.eval, Act.put]; rfl) (one_rd w4 d) (fun _ => rfl) (by simp only [maxLen]; omega) (by omega) (by have := e4.size; simp; omega) ?_
                                 intro A5 c5 w5 own5 grow5
                                 have e5 : Below wr.heap.size wr w5 := (e4.t (Ext.alloc _ _)).grown grow5 (by have := e4.size; simp; omega) (fun k hk => (own4.lt k hk).1))
                              | (refine step_append (f := u8v) (base := wr.heap.size) rfl rfl Try.underlying24 info_u8 rfl (by simp [Act.eval, Act.put]) own4 (by simp [Act.eval, Act.put]; rfl) r_c (fun _ => rfl) (by simp only [maxLen]; omega) (by omega) e4.size ?_
                                 intro A5 c5 w5 own5 grow5
                                 have e5 : Below wr.heap.size wr w5 := e4.grown grow5 e4.size (fun k hk => (own4.lt k hk).1))
                              | (refine step_append (f := u8v) (base := wr.heap.size) rfl rfl Try.underlying24 info_u8 rfl (by simp [Act.eval, Act.put]) own5 (by simp [Act.eval, Act.put]; rfl) (r_j.ext e5) (fun _ => rfl) (by simp only [maxLen]; omega) (by omega) (by have := e5.size; simp; omega) ?_
                                 intro A6 c6 w6 own6 grow6
                                 have e6 : Below wr.heap.size wr w6 := e5.grown grow6 (by have := e5.size; simp; omega) (fun k hk => (own5.lt k hk).1)))
                            all_goals go_wp2_with fail
                            all_goals go_simp
                            all_goals go_meet
                            all_goals exact ⟨_, _, _, _, rfl, ⟨Rd.of_own own6, Hall.out, own_cap own6, own_cmax own6⟩, e6⟩
                          · have r_j : Rd u8v wr (some ⟨gf, i, none⟩) (s - i) (fx.drop i) := by
                              have h := r_f.sub (k := i) (m := s - i) (by omega)
                              rw [Nat.zero_add, List.take_of_length_le (by rw [List.length_drop, Hfs.out]; omega)] at h
                              exact h
                            have Hall : Hid (∀ x ∈ (fx.take i ++ [d]) ++ fx.drop i, x < 256) := Lib.hid (fun x hx => by
                              rcases List.mem_append.1 hx with hx | h
                              · rcases List.mem_append.1 hx with h | h
                                · exact Hfl.out x (List.mem_of_mem_take h)
                                · simp at h; omega
                              · exact Hfl.out x (List.mem_of_mem_drop h))
                            go_region_law (first
                              | (refine step_append (f := u8v) (base := wr.heap.size) rfl rfl Try.underlying24 info_u8 rfl (by simp [Act.eval, Act.put]) (own_empty _) (by simp [Act.eval, Act.put]; rfl) ((r_i.drew).alloc _) (fun _ => rfl) (by simp only [maxLen]; omega) (by omega) (by simp) ?_
                                 intro A4 c4 w4 own4 grow4
                                 have e4 : Below wr.heap.size wr w4 := ((Ext.drew wr).t (Ext.alloc _ _)).grown grow4 (by simp) (fun k hk => blk_ge (g := wr.heap.size) hk)
                                 rw [List.nil_append, Nat.zero_add] at own4)
                              | (refine step_append (f := u8v) (base := wr.heap.size) rfl rfl Try.underlying24 info_u8 rfl (by simp [Act.eval, Act.put]) ((own_empty wr.drew).alloc _) (by simp [Act.eval, Act.put]; rfl) (((r_i.drew).alloc _).alloc _) (fun _ => rfl) (by simp only [maxLen]; omega) (by omega) (by simp; omega) ?_
                                 intro A4 c4 w4 own4 grow4
                                 have e4 : Below wr.heap.size wr w4 := (((Ext.drew wr).t (Ext.alloc _ _)).t (Ext.alloc _ _)).grown grow4 (by simp; omega) (fun k hk => blk_ge (g := wr.heap.size) hk)
                                 have r_c : Rd u8v w4 (some ⟨wr.heap.size + 1, 0, none⟩) 1 [d] := Rd.grown (one_rd' wr.drew _ d) grow4 (by simp [Value.ownBlock])
                                 rw [List.nil_append, Nat.zero_add] at own4)
                              | (refine step_append (f := u8v) (base := wr.heap.size) rfl rfl Try.underlying24 info_u8 rfl (by simp [Act.eval, Act.put]) ((own_empty (wr.drew.alloc _)).mono (by simp)) (by simp [Act.eval, Act.put]; rfl) (((r_i.drew).alloc _).alloc _) (fun _ => rfl) (by simp only [maxLen]; omega) (by omega) (by simp; omega) ?_
                                 intro A4 c4 w4 own4 grow4
                                 have e4 : Below wr.heap.size wr w4 := (((Ext.drew wr).t (Ext.alloc _ _)).t (Ext.alloc _ _)).grown grow4 (by simp; omega) (fun k hk => by have h := blk_ge hk; simp at h; omega)
                                 have r_c : Rd u8v w4 (some ⟨wr.heap.size, 0, none⟩) 1 [d] := Rd.grown ((one_rd wr.drew d).alloc _) grow4 (by simp [Value.ownBlock])
                                 rw [List.nil_append, Nat.zero_add] at own4)
                              | (refine step_append (f := u8v) (base := wr.heap.size) rfl rfl Try.underlying24 info_u8 rfl (by simp [Act.eval, Act.put]) (own4.alloc _) (by simp [Act.eval, Act.put]; rfl) (one_rd w4 d) (fun _ => rfl) (by simp only [maxLen]; omega) (by omega) (by have := e4.size; simp; omega) ?_
                                 intro A5 c5 w5 own5 grow5
                                 have e5 : Below wr.heap.size wr w5 := (e4.t (Ext.alloc _ _)).grown grow5 (by have := e4.size; simp; omega) (fun k hk => (own4.lt k hk).1))
                              | (refine step_append (f := u8v) (base := wr.heap.size) rfl rfl Try.underlying24 info_u8 rfl (by simp [Act.eval, Act.put]) own4 (by simp [Act.eval, Act.put]; rfl) r_c (fun _ => rfl) (by simp only [maxLen]; omega) (by omega) e4.size ?_
                                 intro A5 c5 w5 own5 grow5
                                 have e5 : Below wr.heap.size wr w5 := e4.grown grow5 e4.size (fun k hk => (own4.lt k hk).1))
                              | (refine step_append (f := u8v) (base := wr.heap.size) rfl rfl Try.underlying24 info_u8 rfl (by simp [Act.eval, Act.put]) own5 (by simp [Act.eval, Act.put]; rfl) (r_j.ext e5) (fun _ => rfl) (by simp only [maxLen]; omega) (by omega) (by have := e5.size; simp; omega) ?_
                                 intro A6 c6 w6 own6 grow6
                                 have e6 : Below wr.heap.size wr w6 := e5.grown grow6 (by have := e5.size; simp; omega) (fun k hk => (own5.lt k hk).1)))
                            all_goals go_wp2_with fail
                            all_goals go_simp
                            all_goals go_meet
                            all_goals exact ⟨_, _, _, _, rfl, ⟨Rd.of_own own6, Hall.out, own_cap own6, own_cmax own6⟩, e6⟩
                        case rest =>
                          obtain ⟨A7, c7, n7, l7, rfl, a7, e7⟩ := hcut
                          have ai : Arg .u8 256 wr (some ⟨gf, 0, none⟩) i c3 (fx.take i) := ⟨r_i, fun x hx => Hfl.out x (List.mem_of_mem_take hx), by omega, by simp only [maxLen]; omega⟩
                          have af := af.ext e7
                          have ai := ai.ext e7
                          have r_f := r_f.ext e7
                          have ez := ez.t e7
                          clear e7 r_s r_i hcd
                          go_wp2_with fail
                          refine (reads_ _ _ _ _ _ _ _ _ _ _ _ _ ⟨by omega, by omega⟩ (w64_bd _) ⟨by omega, by omega⟩ a7 af).mono ?_
                          rintro e wk19 ⟨rfl, ek19⟩
                          have ez := ez.t ek19
                          have a7 := a7.ext ek19
                          have af := af.ext ek19
                          have ai := ai.ext ek19
                          have r_f := r_f.ext ek19
                          clear ek19
                          go_wp2_with fail
                          refine (reads_ _ _ _ _ _ _ _ _ _ _ _ _ ⟨by omega, by omega⟩ ⟨by omega, by omega⟩ ⟨by omega, by omega⟩ ai a7).mono ?_
                          rintro e wk20 ⟨rfl, ek20⟩
                          have ez := ez.t ek20
                          have a7 := a7.ext ek20
                          have af := af.ext ek20
                          have ai := ai.ext ek20
                          have r_f := r_f.ext ek20
                          clear ek20
                          by_cases hlt2 : i < s
                          · have hlt2' : (i : Int) < (s : Int) := by omega
                            go_wp2_with (refine wpl_build (by rfl) rfl ul_u8 info_u8 [] (by rfl) (by rfl) (by decide) (f := u8v) [] (by rfl) (fun _ => rfl) ?_)
                            intro b_g10 wk21 blk_g10 er_g10 lo_g10 rd_g10; refine Lib.hid ?_
                            have own_g10 : wk21.ownsRow wk20.heap.size 5 1 (.slice (some ⟨b_g10, 0, none⟩) 0 0) 0 (([] : List Nat).map u8v) := own_of_blk blk_g10 lo_g10 rfl (by simp [maxLen])
                            clear blk_g10 rd_g10
                            go_wp2_with (refine wpl_append (by rfl) rfl ul_u8 info_u8 rfl rfl own_g10 rfl (r_f.ext er_g10) (fun _ => rfl) (by simp only [maxLen]; omega) (by omega) er_g10.size ?_)
                            intro a_g10 c_g10 wk22 ow_g10 gr_g10 _; refine Lib.hid ?_
                            have er_g10 := er_g10.grown gr_g10 er_g10.size (fun k hk => (own_g10.lt k hk).1)
                            clear gr_g10 own_g10; have own_g10 := ow_g10; clear ow_g10
                            try simp only [Nat.zero_add, List.nil_append] at own_g10
                            obtain ⟨gb, hgb⟩ := own_head own_g10 (by omega)
                            subst hgb
                            obtain ⟨y, hy⟩ : ∃ y, fx[i]? = some y := ⟨fx[i]'(by rw [Hfs.out]; omega), List.getElem?_eq_getElem _⟩
                            have hcl := own_g10.cellAt i (by omega)
                            rw [List.getElem?_map, hy] at hcl
                            have hfz := own_g10.frozenAt i
                            have st := (own_g10.stored i (u8v d)).1
                            rw [← List.map_set] at st
                            have e8 := below_set (b := gb) (o := i) er_g10 (own_g10.lt gb rfl).1 (u8v d)
                            have ab := Arg.mk (k := .u8) (M := 256) (Rd.of_own (f := u8v) st) (fun x hx => by
                              rcases List.mem_or_eq_of_mem_set hx with h | h
                              · exact Hfl.out x h
                              · omega) (own_cap st) (own_cmax st)
                            have af := af.ext e8
                            have ez := ez.t e8
                            clear hy er_g10 own_g10 st
                            go_wp2_with fail
                            refine (reads_ _ _ _ _ _ _ _ _ _ _ _ _ ⟨by omega, by omega⟩ ⟨by omega, by omega⟩ ⟨by omega, by omega⟩ ab af).mono ?_
                            rintro e w9 ⟨rfl, e9⟩
                            have ez := ez.t e9
                            go_wp2_with fail
                            go_roundw
                            case rel => exact ⟨j + 1, by omega, by go_num, ez⟩
                            case measure => simp [intOf]; omega
                          · have hlt2' : ¬ (i : Int) < (s : Int) := by omega
                            go_wp2_with fail
                            go_roundw
                            case rel => exact ⟨j + 1, by omega, by go_num, ez⟩
                            case measure => simp [intOf]; omega
                      · obtain rfl : j = 9 := by omega
                        go_wp2_with fail
                        go_roundw
                        case rel => exact ⟨i + 1, by omega, by go_num, ez⟩
                        case measure => simp [intOf]; omega
                  · obtain rfl : i = s + 1 := by omega
                    go_wp2_with fail
                    go_roundw
                    case rel => exact ⟨j + 1, by omega, by go_num, ey.t ez⟩
                    case measure => simp [intOf]; omega
            · obtain rfl : j = 4 := by omega
              go_wp2_with fail
              go_roundw
              case rel => ((repeat apply Exists.intro); exact ⟨⟨k + 1, by omega, by go_num, exy⟩, rfl⟩)
              case measure => simp [intOf]; omega
        · obtain rfl : k = 65 := by omega
          go_wp2_with fail
          go_loopw [197] (fun i wr => ∃ x : Nat, x ≤ 70000 ∧ i = .int .u64 (x : Int) ∧ Ext wk1 wr) (fun i _ => 70000 - (intOf i).toNat)
          case atStart => exact ⟨0, by omega, rfl, ex⟩
          case round =>
            obtain ⟨x, hx, rfl, ex⟩ := hrel
            by_cases hlt : x < 70000
            · have hlt' : (x : Int) < 70000 := by omega
              obtain ⟨s, Hs⟩ : ∃ s, Hid (Num.size x = s) := ⟨_, Lib.hid rfl⟩
              have hq : ((s : Int) != (s : Int)) = false := by simp
              by_cases h7 : x % 7 = 0
              · have h7' : ((x : Int) % 7 == 0) = true := by simp; omega
                go_wp2_with fail
                refine (num_Size x _ (by omega)).mono ?_
                rw [Hs.out]
                rintro e wy23 ⟨rfl, rfl⟩
                go_wp2_with fail
                refine (ref_Form x _ (by omega)).mono ?_
                rw [Hs.out]
                rintro e wk24 ⟨A3, c3, rfl, hown3, ek24⟩
                have ex := ex.t ek24
                clear ek24
                go_wp2_with fail
                refine (writes_ x (-(x : Int)) _ _ _ [] _ (by omega) ⟨by omega, by omega⟩ Arg.nil).mono ?_
                rintro e wk25 ⟨rfl, ek25⟩
                have ex := ex.t ek25
                clear ek25
                go_wp2_with fail
                go_roundw
                case rel => ((repeat apply Exists.intro); exact ⟨⟨x + 1, by omega, by go_num, ex⟩, rfl⟩)
                case measure => simp [intOf]; omega
              · have h7' : ((x : Int) % 7 == 0) = false := by simp; omega
                go_wp2_with fail
                refine (num_Size x _ (by omega)).mono ?_
                rw [Hs.out]
                rintro e wy26 ⟨rfl, rfl⟩
                go_wp2_with fail
                refine (ref_Form x _ (by omega)).mono ?_
                rw [Hs.out]
                rintro e wk27 ⟨A3, c3, rfl, hown3, ek27⟩
                have ex := ex.t ek27
                clear ek27
                go_wp2_with fail
                go_roundw
                case rel => ((repeat apply Exists.intro); exact ⟨⟨x + 1, by omega, by go_num, ex⟩, rfl⟩)
                case measure => simp [intOf]; omega
            · obtain rfl : x = 70000 := by omega
              go_wp2_with fail
              refine (awake _).mono ?_
              rintro e wk28 ⟨rfl, ek28⟩
              have ex := ex.t ek28
              clear ek28
              go_wp2_with fail
              go_ret
              exact ⟨rfl, hE.t ex⟩
end Go.Proofs.Ytidjimkhppfjjaa
