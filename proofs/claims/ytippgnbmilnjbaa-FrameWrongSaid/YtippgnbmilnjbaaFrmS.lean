/- FrmS: what the program's 'size' tells. -/
import Derived.Test.YtippgnbmilnjbaaFrm
namespace Go.Fx
theorem or0_i64 (d : Nat) (hd : d < 256) : bits .or .i64 0 (d : Int) = (d : Int) := by
  have := or_i64 0 d (by omega) hd
  rw [show ((0 : Nat) : Int) * 256 = 0 by rfl, IntWalk.i64_in _ (by omega)] at this
  simpa using this
end Go.Fx
namespace Go.Proofs.Ytippgnbmilnjbaa
open Go.RowKit Go.Fx
def Sized (xs : List Nat) (w : World) (e : Ending) (w' : World) : Prop := e = .returned (.tuple #[.int .i64 ((sz xs).1 : Int), .bool (decide (0 < (sz xs).2.1)), .int .i64 ((sz xs).2.2 : Int)]) ∧ w = w'
theorem sized_mk {xs : List Nat} {w : World} {a b c : Nat} (h : sz xs = (a, b, c)) {a' c' : Int} {b' : Bool} (h1 : a' = (a : Int)) (h2 : b' = decide (0 < b)) (h3 : c' = (c : Int)) : Sized xs w (.returned (.tuple #[.int .i64 a', .bool b', .int .i64 c'])) w := by
  subst h1; subst h2; subst h3
  exact ⟨by rw [h], rfl⟩
def nkF (p q k m : Nat) : Prop := (k = 0 ∧ m = 0) ∨ (k = 1 ∧ m = p ∧ 1 ≤ p) ∨ (k = 2 ∧ m = 256 * p + q ∧ 1 ≤ p ∧ m ≤ 16384)
set_option maxRecDepth 100000 in
set_option maxHeartbeats 1000000 in
theorem size_ (A : Option Addr) (n c : Nat) (xs : List Nat) (w : World) (h : Rd u8v w A n xs) (hx : ∀ x ∈ xs, x < 256) (hn : n ≤ maxLen) :
    Calls Try.prog 44 #[.slice A n c] w (Sized xs w) := by
  unfold maxLen at hn
  cases xs with
  | nil =>
    obtain rfl : n = 0 := h.1.symm
    have h0 : (((0 : Nat) : Int) == 0) = true := by simp
    clear h
    go_enter Try.func44, Try.ntmps44
    go_wp2; go_step3; go_wp2
    try rw [Exit.noGoto_ret]
    go_ret3
    exact ⟨rfl, rfl⟩
  | cons d r =>
    have hl : r.length + 1 = n := h.1
    obtain ⟨b, o, y, rfl, _, hy, c0⟩ := h.at_ (k := 0) (by omega)
    obtain rfl : d = y := by simpa using hy
    have hd : d < 256 := hx d (by simp)
    have hn0 : ((n : Int) == 0) = false := by simp; omega
    have hnp : 0 < (n : Int) := by omega
    rw [Nat.add_zero] at c0
    clear hy
    by_cases h1 : d ≤ 246
    · have h1' : (d : Int) - 246 ≤ 0 := by omega
      have Hs : Hid (sz (d :: r) = (1 + d, 1, 0)) := Lib.hid (sz_small h1)
      clear h1 h hx hl
      go_enter Try.func44, Try.ntmps44
      go_wp2; go_step3; go_wp2
      try rw [Exit.noGoto_ret]
      go_ret3
      exact sized_mk Hs.out (by omega) rfl rfl
    · obtain ⟨D, hD⟩ : ∃ D, d = D + 246 := ⟨d - 246, by omega⟩
      obtain ⟨p, hp⟩ : ∃ p, p = dgp d r := ⟨_, rfl⟩
      obtain ⟨q, hq⟩ : ∃ q, q = dgq r := ⟨_, rfl⟩
      have hs := sz_d (d := d) (r := r) (by omega)
      rw [← hp, ← hq] at hs
      have hpl : p < 256 := by
        rw [hp]; unfold dgp
        cases r with
        | nil => simp; split <;> omega
        | cons x r => exact hx x (by simp)
      have hql : q < 256 := by
        rw [hq]; unfold dgq
        match r, hx with
        | [], _ => simp
        | [_], _ => simp
        | _ :: y :: r, hx => exact hx y (by simp)
      have hc1 : 1 < n → w.cell? ⟨b, o + 1, none⟩ = some (u8v p) := fun hlt => by
        obtain ⟨b', o', y, e, _, hy, c1⟩ := h.at_ (k := 1) hlt
        cases e
        rw [c1, hp]
        cases r with
        | nil => simp at hy
        | cons x r => simp at hy; subst hy; rfl
      have hc2 : 2 < n → w.cell? ⟨b, o + 2, none⟩ = some (u8v q) := fun hlt => by
        obtain ⟨b', o', y, e, _, hy, c1⟩ := h.at_ (k := 2) hlt
        cases e
        rw [c1, hq]
        match r, hy with
        | _ :: y' :: r, hy => simp at hy; subst hy; rfl
      have hc3 : 3 < n → ∃ s, s < 256 ∧ w.cell? ⟨b, o + 3, none⟩ = some (u8v s) := fun hlt => by
        obtain ⟨b', o', y, e, _, hy, c1⟩ := h.at_ (k := 3) hlt
        cases e
        exact ⟨y, hx y (List.mem_of_getElem? hy), c1⟩
      have hp1 : n = 1 → p = (if D = 1 then 247 else 1) := fun h0 => by
        have : r = [] := List.eq_nil_of_length_eq_zero (by omega)
        rw [hp, this]; unfold dgp; simp
        by_cases hD1 : D = 1
        · rw [if_pos (by omega), if_pos hD1]
        · rw [if_neg (by omega), if_neg hD1]
      have hq1 : n ≤ 2 → q = 0 := fun h0 => by
        rw [hq]; unfold dgq
        match r, hl with
        | [], _ => simp
        | [_], _ => simp
        | _ :: _ :: _, hl => simp at hl; omega
      have Hc1 := Lib.hid hc1
      have Hc2 := Lib.hid hc2
      have Hc3 := Lib.hid hc3
      have Hp1 := Lib.hid hp1
      have Hq1 := Lib.hid hq1
      have Hs := Lib.hid hs
      have Hl := Lib.hid hl
      have HD := Lib.hid hD
      subst hD
      have hD1 : 1 ≤ D := by omega
      have hD2 : D ≤ 9 := by omega
      have hsub : ((D + 246 : Nat) : Int) - 246 = (D : Int) := by omega
      have hgt : ¬ (D : Int) ≤ 0 := by omega
      clear hc1 hc2 hc3 hp1 hq1 hs hl hp hq h hx h1 hd
      go_enter Try.func44, Try.ntmps44
      go_wp2; go_step3; go_wp2; go_step3; go_wp2
      go_loop [6, 8, 31] (fun nv ov iv => ∃ (k m : Nat), k ≤ D ∧ iv = .int .i64 (k : Int) ∧ ov = .bool true ∧ nv = .int .i64 (m : Int) ∧ Hid (nkF p q k m)) (fun _ _ iv => D - (intOf iv).toNat)
      case atStart => exact ⟨0, 0, by omega, rfl, rfl, rfl, Lib.hid (.inl ⟨rfl, rfl⟩)⟩
      case round =>
        obtain ⟨k, m, hk, rfl, rfl, rfl, H⟩ := hrel
        by_cases hlt : k < D
        · have hltI : (k : Int) < (D : Int) := by omega
          rcases H.out with ⟨rfl, rfl⟩ | ⟨rfl, rfl, hp1⟩ | ⟨rfl, hm, hp1, hm2⟩
          · clear H
            by_cases hn1 : n = 1
            · have hpv := Hp1.out hn1
              subst hn1
              by_cases hD3 : D = 1
              · subst hD3
                rw [if_pos rfl] at hpv
                have Hpv := Lib.hid hpv
                have hob := or0_i64 247 (by omega)
                rw [show ((247 : Nat) : Int) = 247 by rfl] at hob
                clear hpv
                go_wp2
                go_round
                case rel => exact ⟨1, 247, by omega, rfl, rfl, rfl, Lib.hid (.inr (.inl ⟨rfl, Hpv.out.symm, by rw [Hpv.out]; omega⟩))⟩
                case measure => simp [intOf]
              · rw [if_neg hD3] at hpv
                have Hpv := Lib.hid hpv
                have hDe : ((D : Int) == 1) = false := by simp; omega
                have hob := or0_i64 1 (by omega)
                rw [show ((1 : Nat) : Int) = 1 by rfl] at hob
                clear hpv hD3
                go_wp2
                go_round
                case rel => exact ⟨1, 1, by omega, rfl, rfl, rfl, Lib.hid (.inr (.inl ⟨rfl, Hpv.out.symm, by rw [Hpv.out]; omega⟩))⟩
                case measure => simp [intOf]; omega
            · have h1n : (1 : Int) < (n : Int) := by omega
              have hcell := Hc1.out (by omega)
              have hob := or0_i64 p hpl
              unfold u8v at hcell
              clear hn1
              by_cases hp0 : p = 0
              · have hpe : ((p : Int) == 0) = true := by rw [hp0]; rfl
                have Hp0 := Lib.hid hp0
                clear hp0
                go_wp2
                try rw [Exit.noGoto_ret]
                go_ret3
                refine sized_mk (a := 0) (b := 0) (c := 31) ?_ rfl rfl rfl
                rw [Hs.out]
                have := Hp0.out
                by_cases h1 : 248 < D + 246
                · rw [if_pos h1]
                · rw [if_neg h1]
                  by_cases h2 : D + 246 = 247
                  · rw [if_pos h2, if_pos (by omega)]
                  · rw [if_neg h2, if_pos (by omega)]
              · have hpe : ((p : Int) == 0) = false := by simp; omega
                have Hp0 := Lib.hid hp0
                clear hp0
                go_wp2
                go_round
                case rel => exact ⟨1, p, by omega, rfl, rfl, rfl, Lib.hid (.inr (.inl ⟨rfl, rfl, by have := Hp0.out; omega⟩))⟩
                case measure => simp [intOf]; omega
          · clear H
            by_cases hn2 : n ≤ 2
            · have hqv := Hq1.out hn2
              have h2n : ¬ (2 : Int) < (n : Int) := by omega
              have hob := or_i64 m 0 (by omega) (by omega)
              have hob2 := hob
              rw [show ((0 : Nat) : Int) = 0 by rfl, Int.add_zero] at hob
              rw [show ((0 : Nat) : Int) = 0 by rfl, Int.add_zero, IntWalk.i64_in _ (by omega)] at hob2
              subst hqv
              clear hn2
              by_cases hbig : 16384 < m * 256
              · have hb2 : (16384 : Int) < (m : Int) * 256 := by omega
                clear hbig
                go_wp2
                try rw [Exit.noGoto_ret]
                go_ret3
                refine sized_mk (a := 0) (b := 0) (c := 31) ?_ rfl rfl rfl
                rw [Hs.out]
                by_cases h1 : 248 < D + 246
                · rw [if_pos h1]
                · rw [if_neg h1, if_neg (by omega), if_pos (by omega)]
              · have hb2 : ¬ (16384 : Int) < (m : Int) * 256 := by omega
                clear hbig
                go_wp2
                go_round
                case rel => exact ⟨2, m * 256, by omega, rfl, rfl, by go_num, Lib.hid (.inr (.inr ⟨rfl, by omega, hp1, by omega⟩))⟩
                case measure => simp [intOf]; omega
            · have h2n : (2 : Int) < (n : Int) := by omega
              have hcell := Hc2.out (by omega)
              have hob := or_i64 m q (by omega) hql
              have hob2 := hob
              rw [IntWalk.i64_in _ (by omega)] at hob2
              unfold u8v at hcell
              clear hn2
              by_cases hbig : 16384 < m * 256 + q
              · have hb2 : (16384 : Int) < (m : Int) * 256 + (q : Int) := by omega
                clear hbig
                go_wp2
                try rw [Exit.noGoto_ret]
                go_ret3
                refine sized_mk (a := 0) (b := 0) (c := 31) ?_ rfl rfl rfl
                rw [Hs.out]
                by_cases h1 : 248 < D + 246
                · rw [if_pos h1]
                · rw [if_neg h1, if_neg (by omega), if_pos (by omega)]
              · have hb2 : ¬ (16384 : Int) < (m : Int) * 256 + (q : Int) := by omega
                clear hbig
                go_wp2
                go_round
                case rel => exact ⟨2, m * 256 + q, by omega, rfl, rfl, by go_num, Lib.hid (.inr (.inr ⟨rfl, by omega, hp1, by omega⟩))⟩
                case measure => simp [intOf]; omega
          · clear H
            have hfin : sz ((D + 246) :: r) = (0, 0, 31) := by rw [Hs.out, if_pos (by omega)]
            have Hfin := Lib.hid hfin
            have hmb : 256 ≤ m := by omega
            clear hfin hm
            by_cases hn3 : n ≤ 3
            · have h3n : ¬ (3 : Int) < (n : Int) := by omega
              have hob := or_i64 m 0 (by omega) (by omega)
              have hob2 := hob
              rw [show ((0 : Nat) : Int) = 0 by rfl, Int.add_zero] at hob
              rw [show ((0 : Nat) : Int) = 0 by rfl, Int.add_zero, IntWalk.i64_in _ (by omega)] at hob2
              have hb2 : (16384 : Int) < (m : Int) * 256 := by omega
              clear hn3
              go_wp2
              try rw [Exit.noGoto_ret]
              go_ret3
              exact sized_mk Hfin.out rfl rfl rfl
            · have h3n : (3 : Int) < (n : Int) := by omega
              obtain ⟨s, hs, hcell⟩ := Hc3.out (by omega)
              have hob := or_i64 m s (by omega) hs
              have hob2 := hob
              rw [IntWalk.i64_in _ (by omega)] at hob2
              have hb2 : (16384 : Int) < (m : Int) * 256 + (s : Int) := by omega
              unfold u8v at hcell
              clear hn3
              go_wp2
              try rw [Exit.noGoto_ret]
              go_ret3
              exact sized_mk Hfin.out rfl rfl rfl
        · obtain rfl : D = k := by omega
          have hkn : decide (D < n) = decide (D ≤ r.length) := by
            have := Hl.out
            exact decide_eq_decide.2 (by omega)
          have Hkn := Lib.hid hkn
          clear hkn
          rcases H.out with ⟨rfl, rfl⟩ | ⟨rfl, rfl, hp1⟩ | ⟨rfl, hm, hp1, hm2⟩
          · omega
          · clear H
            by_cases h7 : m < 247
            · have h7' : (m : Int) ≤ 246 := by omega
              clear h7
              go_wp2
              try rw [Exit.noGoto_ret]
              go_ret3
              refine sized_mk (a := 0) (b := 0) (c := 31) ?_ rfl rfl rfl
              rw [Hs.out, if_neg (by omega), if_pos True.intro, if_pos (by omega)]
            · have h7' : ¬ (m : Int) ≤ 246 := by omega
              clear h7
              go_wp2
              try rw [Exit.noGoto_ret]
              go_ret3
              refine sized_mk (a := 2 + m) (b := if 1 ≤ r.length then 2 else 0) (c := 0) ?_ (by omega) ?_ rfl
              · rw [Hs.out, if_neg (by omega), if_pos True.intro, if_neg (by omega)]
              · rw [Hkn.out]
                by_cases h8 : 1 ≤ r.length
                · rw [if_pos h8]; simp [h8]
                · rw [if_neg h8]; simp [h8]
          · clear H
            have h7' : ¬ (m : Int) ≤ 246 := by omega
            have Hm := Lib.hid hm
            clear hm
            go_wp2
            try rw [Exit.noGoto_ret]
            go_ret3
            have hm := Hm.out
            refine sized_mk (a := 3 + m) (b := if 2 ≤ r.length then 3 else 0) (c := 0) ?_ (by omega) ?_ rfl
            · rw [Hs.out, if_neg (by omega), if_neg (by omega), if_neg (by omega), hm]
            · rw [Hkn.out]
              by_cases h8 : 2 ≤ r.length
              · rw [if_pos h8]; simp [h8]
              · rw [if_neg h8]; simp [h8]
end Go.Proofs.Ytippgnbmilnjbaa
