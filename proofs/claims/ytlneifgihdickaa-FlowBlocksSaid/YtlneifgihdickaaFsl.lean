/- Fsl: slices.Index, Contains, Equal at numbers and at truth values; slices.IsSorted at numbers. -/
import Derived.Test.YtlneifgihdickaaFen
import Derived.BigQuiet
namespace Go.Fx
open Go.RowKit
theorem rd_get {α : Type} {f : α → Value} {w : World} {A : Option Addr} {n k : Nat} {xs : List α} (h : Rd f w A n xs) (hk : k < n) : ∃ b o x, A = some ⟨b, o, none⟩ ∧ xs[k]? = some x ∧ w.cell? ⟨b, o + k, none⟩ = some (f x) := by
  obtain ⟨b, o, x, h1, _, h2, h3⟩ := h.at_ hk
  exact ⟨b, o, x, h1, h2, h3⟩
theorem ne_of_getx {α : Type} {xs ys : List α} {k : Nat} {a b : α} (hx : xs[k]? = some a) (hy : ys[k]? = some b) (h : a ≠ b) : xs ≠ ys := by
  rintro rfl; rw [hx] at hy; exact h (Option.some.inj hy)
/-- Where the first such element is; -1: nowhere. -/
def idxL {α : Type} [DecidableEq α] (y : α) (l : List α) : Int := if y ∈ l then (l.idxOf y : Int) else -1
theorem idxL_hit {α : Type} [DecidableEq α] {y : α} {l : List α} {k : Nat} (hy : l[k]? = some y) (h : ∀ z ∈ l.take k, z ≠ y) : idxL y l = (k : Int) := by
  unfold idxL
  rw [if_pos (List.mem_of_getElem? hy)]
  obtain ⟨hk, e⟩ := List.getElem?_eq_some_iff.1 hy
  have h1 : l.idxOf y = k := by
    rw [← List.take_append_drop k l, List.idxOf_append]
    rw [if_neg (fun hm => h y hm rfl)]
    have : l.drop k = y :: l.drop (k + 1) := by rw [← e]; exact List.drop_eq_getElem_cons hk
    rw [this]
    simp; omega
  rw [h1]
theorem idxL_miss {α : Type} [DecidableEq α] {y : α} {l : List α} (h : ∀ z ∈ l, z ≠ y) : idxL y l = -1 := by
  unfold idxL
  rw [if_neg (fun hm => h y hm rfl)]
theorem idxL_ge {α : Type} [DecidableEq α] (y : α) (l : List α) : decide (idxL y l ≥ 0) = decide (y ∈ l) := by
  unfold idxL
  by_cases h : y ∈ l
  · rw [if_pos h, decide_eq_true h, decide_eq_true (by omega)]
  · rw [if_neg h, decide_eq_false h]; rfl
end Go.Fx
namespace Go.Proofs.Ytlneifgihdickaa
open Go.RowKit Go.Fx
set_option maxRecDepth 100000 in
set_option maxHeartbeats 1000000 in
theorem equalZ (A1 A2 : Option Addr) (n1 n2 c1 c2 : Nat) (xs ys : List Int) (w : World) (h1 : Rd intz w A1 n1 xs) (h2 : Rd intz w A2 n2 ys) (hm : n1 ≤ 1000000000) :
    Calls Try.prog 27 #[.slice A1 n1 c1, .slice A2 n2 c2] w fun e w' => e = .returned (.bool (decide (xs = ys))) ∧ Ext w w' := by
  have hl1 := h1.1
  have hl2 := h2.1
  by_cases hn : n1 = n2
  · subst hn
    have hne : ((n1 : Int) != (n1 : Int)) = false := by simp
    have H1 := Lib.hid h1
    have H2 := Lib.hid h2
    clear h1 h2
    go_enter Try.func27, Try.ntmps27
    go_wp2_with fail
    go_loopw [13] (fun i wr => ∃ k : Nat, k ≤ n1 ∧ i = .int .i64 (k : Int) ∧ Hid (xs.take k = ys.take k) ∧ ∃ q, wr = w.drewN q) (fun i _ => n1 - (intOf i).toNat)
    case atStart => exact ⟨0, by omega, rfl, Lib.hid (by simp), 0, rfl⟩
    case round =>
      obtain ⟨k, hk, rfl, H, q, rfl⟩ := hrel
      by_cases hlt : k < n1
      · obtain ⟨b1, o1, x, rfl, hx, c0⟩ := rd_get H1.out hlt
        obtain ⟨b2, o2, y, rfl, hy, d0⟩ := rd_get H2.out hlt
        have hli : (k : Int) < (n1 : Int) := by omega
        have Hx := Lib.hid hx
        have Hy := Lib.hid hy
        unfold intz at c0 d0
        clear hx hy
        by_cases hxy : x = y
        · subst hxy
          have hbe : (x != x) = false := by simp
          go_wp2_with fail
          go_quiet (fail)
          go_wp2_with fail
          go_roundw
          case rel => exact ⟨k + 1, by omega, by go_num, Lib.hid (by rw [take_snoc Hx.out, take_snoc Hy.out, H.out]), _, rfl⟩
          case measure => simp [intOf]; omega
        · have hbe : (x != y) = true := by simp [hxy]
          have hbe2 : (!(x == y)) = true := by simp [hxy]
          have hbe3 : (x == y) = false := by simp [hxy]
          go_wp2_with fail
          go_quiet (fail)
          go_wp2_with fail
          go_ret
          exact ⟨ret_bool (by symm; simpa using ne_of_getx Hx.out Hy.out hxy), (Ext.drewN _ _).t (by first | exact Ext.drewN _ _ | exact Ext.drew _)⟩
      · obtain rfl : k = n1 := by omega
        go_wp2_with fail
        go_ret
        refine ⟨ret_bool ?_, Ext.drewN _ _⟩
        have := H.out
        rw [List.take_of_length_le (by omega), List.take_of_length_le (by omega)] at this
        simpa using this
  · have hne : ((n1 : Int) != (n2 : Int)) = true := by simp; omega
    clear h1 h2
    go_enter Try.func27, Try.ntmps27
    go_wp2_with fail
    go_ret
    refine ⟨ret_bool ?_, Ext.refl _⟩
    symm
    simp only [decide_eq_false_iff_not]
    rintro rfl
    omega
set_option maxRecDepth 100000 in
set_option maxHeartbeats 1000000 in
theorem equalB (A1 A2 : Option Addr) (n1 n2 c1 c2 : Nat) (xs ys : List Bool) (w : World) (h1 : Rd boolv w A1 n1 xs) (h2 : Rd boolv w A2 n2 ys) (hm : n1 ≤ 1000000000) :
    Calls Try.prog 30 #[.slice A1 n1 c1, .slice A2 n2 c2] w fun e w' => e = .returned (.bool (decide (xs = ys))) ∧ Ext w w' := by
  have hl1 := h1.1
  have hl2 := h2.1
  by_cases hn : n1 = n2
  · subst hn
    have hne : ((n1 : Int) != (n1 : Int)) = false := by simp
    have H1 := Lib.hid h1
    have H2 := Lib.hid h2
    clear h1 h2
    go_enter Try.func30, Try.ntmps30
    go_wp2_with fail
    go_loopw [13] (fun i wr => ∃ k : Nat, k ≤ n1 ∧ i = .int .i64 (k : Int) ∧ Hid (xs.take k = ys.take k) ∧ ∃ q, wr = w.drewN q) (fun i _ => n1 - (intOf i).toNat)
    case atStart => exact ⟨0, by omega, rfl, Lib.hid (by simp), 0, rfl⟩
    case round =>
      obtain ⟨k, hk, rfl, H, q, rfl⟩ := hrel
      by_cases hlt : k < n1
      · obtain ⟨b1, o1, x, rfl, hx, c0⟩ := rd_get H1.out hlt
        obtain ⟨b2, o2, y, rfl, hy, d0⟩ := rd_get H2.out hlt
        have hli : (k : Int) < (n1 : Int) := by omega
        have Hx := Lib.hid hx
        have Hy := Lib.hid hy
        unfold boolv at c0 d0
        clear hx hy
        by_cases hxy : x = y
        · subst hxy
          have hbe : (x != x) = false := by simp
          go_wp2_with fail
          go_quiet (fail)
          go_wp2_with fail
          go_roundw
          case rel => exact ⟨k + 1, by omega, by go_num, Lib.hid (by rw [take_snoc Hx.out, take_snoc Hy.out, H.out]), _, rfl⟩
          case measure => simp [intOf]; omega
        · have hbe : (x != y) = true := by simp [hxy]
          have hbe2 : (!(x == y)) = true := by simp [hxy]
          have hbe3 : (x == y) = false := by simp [hxy]
          go_wp2_with fail
          go_quiet (fail)
          go_wp2_with fail
          go_ret
          exact ⟨ret_bool (by symm; simpa using ne_of_getx Hx.out Hy.out hxy), (Ext.drewN _ _).t (by first | exact Ext.drewN _ _ | exact Ext.drew _)⟩
      · obtain rfl : k = n1 := by omega
        go_wp2_with fail
        go_ret
        refine ⟨ret_bool ?_, Ext.drewN _ _⟩
        have := H.out
        rw [List.take_of_length_le (by omega), List.take_of_length_le (by omega)] at this
        simpa using this
  · have hne : ((n1 : Int) != (n2 : Int)) = true := by simp; omega
    clear h1 h2
    go_enter Try.func30, Try.ntmps30
    go_wp2_with fail
    go_ret
    refine ⟨ret_bool ?_, Ext.refl _⟩
    symm
    simp only [decide_eq_false_iff_not]
    rintro rfl
    omega
set_option maxRecDepth 100000 in
set_option maxHeartbeats 1000000 in
theorem indexZ (A : Option Addr) (n c : Nat) (l : List Int) (y : Int) (w : World) (h : Rd intz w A n l) (hm : n ≤ 1000000000) :
    Calls Try.prog 40 #[.slice A n c, intz y] w fun e w' => e = .returned (.int .i64 (idxL y l)) ∧ Ext w w' := by
  have H := Lib.hid h
  have Hl := Lib.hid h.1
  clear h
  unfold intz
  go_enter Try.func40, Try.ntmps40
  go_wp2_with fail
  go_loopw [8] (fun i wr => ∃ k : Nat, k ≤ n ∧ i = .int .i64 (k : Int) ∧ Hid (∀ z ∈ l.take k, z ≠ y) ∧ ∃ q, wr = w.drewN q) (fun i _ => n - (intOf i).toNat)
  case atStart => exact ⟨0, by omega, rfl, Lib.hid (by simp), 0, rfl⟩
  case round =>
    obtain ⟨k, hk, rfl, HJ, q, rfl⟩ := hrel
    by_cases hlt : k < n
    · obtain ⟨b, o, x, rfl, hx, c0⟩ := rd_get H.out hlt
      have hltI : (k : Int) < (n : Int) := by omega
      have Hx := Lib.hid hx
      unfold intz at c0
      clear hx
      by_cases hyx : y = x
      · subst hyx
        have hbe : (y == y) = true := by simp
        have HV := Lib.hid (idxL_hit Hx.out HJ.out)
        clear HJ
        go_wp2_with fail
        go_ret
        exact ⟨ret_int HV.out.symm, Ext.drewN _ _⟩
      · have hbe : (y == x) = false := by simp [hyx]
        have HJ2 : Hid (∀ z ∈ l.take (k + 1), z ≠ y) := Lib.hid (fun z hz => by
          rw [take_snoc Hx.out] at hz
          rcases List.mem_append.1 hz with h1 | h1
          · exact HJ.out z h1
          · obtain rfl := List.mem_singleton.1 h1
            exact fun e => hyx e.symm)
        clear HJ
        go_wp2_with fail
        go_roundw
        case rel => exact ⟨k + 1, by omega, by go_num, HJ2, _, rfl⟩
        case measure => simp [intOf]; omega
    · obtain rfl : n = k := by omega
      have HV := Lib.hid (idxL_miss (y := y) (l := l) (fun z hz => HJ.out z (by rw [List.take_of_length_le (by have := Hl.out; omega)]; exact hz)))
      clear HJ
      go_wp2_with fail
      go_ret
      exact ⟨ret_int HV.out.symm, Ext.drewN _ _⟩
theorem containsZ (A : Option Addr) (n c : Nat) (l : List Int) (y : Int) (w : World) (h : Rd intz w A n l) (hm : n ≤ 1000000000) :
    Calls Try.prog 18 #[.slice A n c, intz y] w fun e w' => e = .returned (.bool (decide (y ∈ l))) ∧ Ext w w' := by
  have HI := Lib.hid (indexZ A n c l y w h hm)
  rw [← idxL_ge]
  generalize idxL y l = z at *
  clear h
  unfold intz at HI ⊢
  go_enter Try.func18, Try.ntmps18
  go_wp2_with fail
  refine HI.out.mono ?_; rintro e w2 ⟨rfl, e2⟩
  go_wp2_with fail
  go_ret
  exact ⟨by simp, e2⟩
set_option maxRecDepth 100000 in
set_option maxHeartbeats 1000000 in
theorem indexB (A : Option Addr) (n c : Nat) (l : List Bool) (y : Bool) (w : World) (h : Rd boolv w A n l) (hm : n ≤ 1000000000) :
    Calls Try.prog 54 #[.slice A n c, boolv y] w fun e w' => e = .returned (.int .i64 (idxL y l)) ∧ Ext w w' := by
  have H := Lib.hid h
  have Hl := Lib.hid h.1
  clear h
  unfold boolv
  go_enter Try.func54, Try.ntmps54
  go_wp2_with fail
  go_loopw [8] (fun i wr => ∃ k : Nat, k ≤ n ∧ i = .int .i64 (k : Int) ∧ Hid (∀ z ∈ l.take k, z ≠ y) ∧ ∃ q, wr = w.drewN q) (fun i _ => n - (intOf i).toNat)
  case atStart => exact ⟨0, by omega, rfl, Lib.hid (by simp), 0, rfl⟩
  case round =>
    obtain ⟨k, hk, rfl, HJ, q, rfl⟩ := hrel
    by_cases hlt : k < n
    · obtain ⟨b, o, x, rfl, hx, c0⟩ := rd_get H.out hlt
      have hltI : (k : Int) < (n : Int) := by omega
      have Hx := Lib.hid hx
      unfold boolv at c0
      clear hx
      by_cases hyx : y = x
      · subst hyx
        have hbe : (y == y) = true := by simp
        have HV := Lib.hid (idxL_hit Hx.out HJ.out)
        clear HJ
        go_wp2_with fail
        go_ret
        exact ⟨ret_int HV.out.symm, Ext.drewN _ _⟩
      · have hbe : (y == x) = false := by simp [hyx]
        have HJ2 : Hid (∀ z ∈ l.take (k + 1), z ≠ y) := Lib.hid (fun z hz => by
          rw [take_snoc Hx.out] at hz
          rcases List.mem_append.1 hz with h1 | h1
          · exact HJ.out z h1
          · obtain rfl := List.mem_singleton.1 h1
            exact fun e => hyx e.symm)
        clear HJ
        go_wp2_with fail
        go_roundw
        case rel => exact ⟨k + 1, by omega, by go_num, HJ2, _, rfl⟩
        case measure => simp [intOf]; omega
    · obtain rfl : n = k := by omega
      have HV := Lib.hid (idxL_miss (y := y) (l := l) (fun z hz => HJ.out z (by rw [List.take_of_length_le (by have := Hl.out; omega)]; exact hz)))
      clear HJ
      go_wp2_with fail
      go_ret
      exact ⟨ret_int HV.out.symm, Ext.drewN _ _⟩
theorem containsB (A : Option Addr) (n c : Nat) (l : List Bool) (y : Bool) (w : World) (h : Rd boolv w A n l) (hm : n ≤ 1000000000) :
    Calls Try.prog 28 #[.slice A n c, boolv y] w fun e w' => e = .returned (.bool (decide (y ∈ l))) ∧ Ext w w' := by
  have HI := Lib.hid (indexB A n c l y w h hm)
  rw [← idxL_ge]
  generalize idxL y l = z at *
  clear h
  unfold boolv at HI ⊢
  go_enter Try.func28, Try.ntmps28
  go_wp2_with fail
  refine HI.out.mono ?_; rintro e w2 ⟨rfl, e2⟩
  go_wp2_with fail
  go_ret
  exact ⟨by simp, e2⟩
end Go.Proofs.Ytlneifgihdickaa
