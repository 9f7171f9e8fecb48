/- Frm: a frame's head: what 'size' and the reference's 'least' tell; Read and Need. -/
import Derived.Test.YtippgnbmilnjbaaFBas
import Derived.Test.YtippgnbmilnjbaaFpl
import Derived.Deep.CutRange
import Derived.Deep.RegionHeldLaw
namespace Go.Fx
open Go.RowKit
theorem or_i64 (y d : Nat) (h : y * 256 + d < 9223372036854775808) (hd : d < 256) : bits .or .i64 (IntKind.i64.wrap ((y : Int) * 256)) (d : Int) = (y : Int) * 256 + (d : Int) := by
  rw [IntWalk.i64_in _ (by omega)]
  have h1 : 256 * y + d = 256 * y ||| d := Nat.two_pow_add_eq_or_of_lt (i := 8) (by omega : d < 2 ^ 8) y
  have h2 : ((y : Int) * 256) = ((256 * y : Nat) : Int) := by omega
  have h3 := u64_or_nat (256 * y) d (by omega) (by omega)
  rw [h2]
  show IntKind.i64.wrap ((BitVec.ofInt 64 ((256 * y : Nat) : Int) ||| BitVec.ofInt 64 (d : Int)).toNat : Int) = _
  have h4 : IntKind.u64.wrap ((BitVec.ofInt 64 ((256 * y : Nat) : Int) ||| BitVec.ofInt 64 (d : Int)).toNat : Int) = (((256 * y) ||| d : Nat) : Int) := h3
  have h5 : (BitVec.ofInt 64 ((256 * y : Nat) : Int) ||| BitVec.ofInt 64 (d : Int)).toNat < 18446744073709551616 := (BitVec.ofInt 64 ((256 * y : Nat) : Int) ||| BitVec.ofInt 64 (d : Int)).isLt
  rw [IntWalk.u64_in _ (by omega)] at h4
  rw [h4, ← h1, IntWalk.i64_in _ (by omega)]
  omega
end Go.Fx
namespace Go.Proofs.Ytippgnbmilnjbaa
open Go.RowKit Go.Fx
theorem ret3 {a b c a' b' c' : Int} (h1 : a = a') (h2 : b = b') (h3 : c = c') : Ending.returned (.tuple #[.int .i64 a, .int .i64 b, .int .i64 c]) = .returned (.tuple #[.int .i64 a', .int .i64 b', .int .i64 c']) := by rw [h1, h2, h3]
def Least (xs : List Nat) (w : World) (e : Ending) (w' : World) : Prop := e = .returned (.tuple #[.int .i64 ((sz xs).1 : Int), .int .i64 ((sz xs).2.1 : Int), .int .i64 ((sz xs).2.2 : Int)]) ∧ Ext w w'
theorem least_mk {xs : List Nat} {w : World} {a b c : Nat} {w' : World} (h : sz xs = (a, b, c)) {a' b' c' : Int} (h1 : a' = (a : Int)) (h2 : b' = (b : Int)) (h3 : c' = (c : Int)) (he : Ext w w') : Least xs w (.returned (.tuple #[.int .i64 a', .int .i64 b', .int .i64 c'])) w' := by
  subst h1; subst h2; subst h3
  exact ⟨by rw [h], he⟩
set_option maxRecDepth 100000 in
set_option maxHeartbeats 1000000 in
theorem least_ (A : Option Addr) (n c : Nat) (xs : List Nat) (w : World) (h : Rd u8v w A n xs) (hx : ∀ x ∈ xs, x < 256) :
    Calls Try.prog 63 #[.slice A n c] w (Least xs w) := by
  cases xs with
  | nil =>
    obtain rfl : n = 0 := h.1.symm
    have h0 : (((0 : Nat) : Int) == 0) = true := by simp
    clear h
    go_enter Try.func63, Try.ntmps63
    go_wp2
    go_ret3
    exact ⟨rfl, Ext.refl _⟩
  | cons d r =>
    have hn : r.length + 1 = n := h.1
    obtain ⟨b, o, y, rfl, _, hy, c0⟩ := h.at_ (k := 0) (by omega)
    obtain rfl : d = y := by simpa using hy
    have hd : d < 256 := hx d (by simp)
    have hn0 : ((n : Int) == 0) = false := by simp; omega
    have hnp : 0 < (n : Int) := by omega
    rw [Nat.add_zero] at c0
    clear hy
    by_cases h1 : d ≤ 246
    · have h1' : (d : Int) ≤ 246 := by omega
      have Hs : Hid (sz (d :: r) = (1 + d, 1, 0)) := Lib.hid (by match r with | [] => simp [sz, h1] | [_] => simp [sz, h1] | _ :: _ :: _ => simp [sz, h1])
      clear h1 h hx hn
      go_enter Try.func63, Try.ntmps63
      go_wp2
      go_ret3
      exact least_mk Hs.out (by omega) rfl rfl (Ext.refl _)
    · have h1' : ¬ (d : Int) ≤ 246 := by omega
      by_cases h2 : 248 < d
      · have h2' : (248 : Int) < (d : Int) := by omega
        have Hs : Hid (sz (d :: r) = (0, 0, 31)) := Lib.hid (by match r with | [] => simp [sz, h1, h2] | [_] => simp [sz, h1, h2] | _ :: _ :: _ => simp [sz, h1, h2])
        clear h1 h hx hn h2
        go_enter Try.func63, Try.ntmps63
        go_wp2
        go_ret3
        exact least_mk Hs.out rfl rfl rfl (Ext.refl _)
      · have h2' : ¬ (248 : Int) < (d : Int) := by omega
        cases r with
        | nil =>
          obtain rfl : n = 1 := hn.symm
          have h4 : (((1 : Nat) : Int) == 1) = true := by simp
          clear h hx
          rcases (by omega : d = 247 ∨ d = 248) with rfl | rfl
          · skip
            go_enter Try.func63, Try.ntmps63
            go_wp2
            go_ret3
            exact ⟨rfl, Ext.refl _⟩
          · skip
            go_enter Try.func63, Try.ntmps63
            go_wp2
            go_ret3
            exact ⟨rfl, Ext.refl _⟩
        | cons x r' =>
          have h4 : ((n : Int) == 1) = false := by simp at hn ⊢; omega
          have hn1 : 1 < (n : Int) := by simp at hn; omega
          obtain ⟨b', o', y, e, _, hy, c1⟩ := h.at_ (k := 1) (by simp at hn; omega)
          cases e
          obtain rfl : x = y := by simpa using hy
          have hxl : x < 256 := hx x (by simp)
          clear hy
          rcases (by omega : d = 247 ∨ d = 248) with rfl | rfl
          · have hs : sz (247 :: x :: r') = if x < 247 then (0, 0, 31) else (2 + x, 2, 0) := by match r' with | [] => simp [sz] | _ :: _ => simp [sz]
            by_cases h5 : x < 247
            · have h5' : (x : Int) < 247 := by omega
              rw [if_pos h5] at hs
              have Hs := Lib.hid hs
              clear hs h5 h hx hn
              go_enter Try.func63, Try.ntmps63
              go_wp2
              go_ret3
              exact least_mk Hs.out rfl rfl rfl (Ext.refl _)
            · have h5' : ¬ (x : Int) < 247 := by omega
              rw [if_neg h5] at hs
              have Hs := Lib.hid hs
              clear hs h5 h hx hn
              go_enter Try.func63, Try.ntmps63
              go_wp2
              go_ret3
              exact least_mk Hs.out (by omega) rfl rfl (Ext.refl _)
          · by_cases h5 : x < 1 ∨ 64 < x
            · have hs : sz (248 :: x :: r') = (0, 0, 31) := by match r' with | [] => simp only [sz]; rw [if_neg (by omega), if_neg (by omega), if_neg (by omega), if_pos h5] | _ :: _ => simp only [sz]; rw [if_neg (by omega), if_neg (by omega), if_neg (by omega), if_pos h5]
              have Hs := Lib.hid hs
              clear hs h hx hn
              rcases h5 with h5 | h5
              · have h5' : (x : Int) < 1 := by omega
                clear h5
                go_enter Try.func63, Try.ntmps63
                go_wp2
                go_ret3
                exact least_mk Hs.out rfl rfl rfl (Ext.refl _)
              · have h5' : (64 : Int) < (x : Int) := by omega
                have h6' : ¬ (x : Int) < 1 := by omega
                clear h5
                go_enter Try.func63, Try.ntmps63
                go_wp2
                go_ret3
                exact least_mk Hs.out rfl rfl rfl (Ext.refl _)
            · have h5' : ¬ (64 : Int) < (x : Int) := by omega
              have h6' : ¬ (x : Int) < 1 := by omega
              cases r' with
              | nil =>
                obtain rfl : n = 2 := hn.symm
                have h7 : (((2 : Nat) : Int) == 2) = true := by simp
                have hs : sz [248, x] = (3 + 256 * x, 0, 0) := by simp only [sz]; rw [if_neg (by omega), if_neg (by omega), if_neg (by omega), if_neg h5]
                have Hs := Lib.hid hs
                clear hs h hx h5
                go_enter Try.func63, Try.ntmps63
                go_wp2
                go_ret3
                exact least_mk Hs.out (by omega) rfl rfl (Ext.refl _)
              | cons y r'' =>
                have h7 : ((n : Int) == 2) = false := by simp at hn ⊢; omega
                have hn2 : 2 < (n : Int) := by simp at hn; omega
                obtain ⟨b', o', y', e, _, hy, c2⟩ := h.at_ (k := 2) (by simp at hn; omega)
                cases e
                obtain rfl : y = y' := by simpa using hy
                have hyl : y < 256 := hx y (by simp)
                have hs : sz (248 :: x :: y :: r'') = if 16384 < 256 * x + y then (0, 0, 31) else (3 + (256 * x + y), 3, 0) := by simp only [sz]; rw [if_neg (by omega), if_neg (by omega), if_neg (by omega), if_neg h5]
                clear hy
                by_cases h8 : 16384 < 256 * x + y
                · have h8' : (16384 : Int) < 256 * (x : Int) + (y : Int) := by omega
                  rw [if_pos h8] at hs
                  have Hs := Lib.hid hs
                  clear hs h hx hn h5 h8
                  go_enter Try.func63, Try.ntmps63
                  go_upto_region 19 with fail
                  go_quiet (fail)
                  go_wp2
                  go_ret3
                  exact least_mk Hs.out rfl rfl rfl (Ext.drewN _ _)
                · have h8' : ¬ (16384 : Int) < 256 * (x : Int) + (y : Int) := by omega
                  rw [if_neg h8] at hs
                  have Hs := Lib.hid hs
                  clear hs h hx hn h5 h8
                  go_enter Try.func63, Try.ntmps63
                  go_upto_region 19 with fail
                  go_quiet (fail)
                  go_wp2
                  go_ret3
                  exact least_mk Hs.out (by omega) rfl rfl (Ext.drewN _ _)
end Go.Proofs.Ytippgnbmilnjbaa
