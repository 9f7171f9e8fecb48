/- Fdd: what can stand behind frames and is none: a beginning and a byte with which it is wrong. Plain Lean. -/
import Derived.Test.YtippgnbmilnjbaaFbk
namespace Go.Fx
structure Bad (P : List Nat) (d : Nat) : Prop where
  lt : ∀ x ∈ P ++ [d], x < 256
  stop : (rdF P).2.2 ≠ 0
  ok : erF P ≠ 31
  wrong : (sz (P ++ [d])).2.2 ≠ 0
  len : P.length ≤ 2
/-- The beginnings of the law, by a number. -/
def badP (way : Nat) : List Nat := match way % 5 with | 0 => [] | 1 => [247] | 2 => [248] | 3 => [248] | _ => [248, 64]
def badD (way : Nat) : Nat := match way % 5 with | 0 => 249 + way % 7 | 1 => way % 247 | 2 => 0 | 3 => 65 + way % 191 | _ => 1 + way % 255
theorem Bad.of (way : Nat) : Bad (badP way) (badD way) := by
  unfold badP badD
  split
  · refine ⟨by simp; omega, by rw [rdF_nil]; simp, by rw [erF_nil]; omega, ?_, by simp⟩
    rw [List.nil_append, hd_sz (.high (by omega))]; simp
  · refine ⟨by simp; omega, by decide, by decide, ?_, by simp⟩
    rw [List.singleton_append, hd_sz (.a2 (by omega))]; simp
  · refine ⟨by simp, by decide, by decide, ?_, by simp⟩
    rw [List.singleton_append, hd_sz (.b2 (by omega))]; simp
  · refine ⟨by simp; omega, by decide, by decide, ?_, by simp⟩
    rw [List.singleton_append, hd_sz (.b2 (by omega))]; simp
  · refine ⟨by simp; omega, by decide, by decide, ?_, by simp⟩
    rw [show [248, 64] ++ [1 + way % 255] = 248 :: 64 :: (1 + way % 255) :: [] by rfl, hd_sz (.b4 (by omega) (by omega) (by omega))]; simp
section
variable {P : List Nat} {d : Nat}
theorem Bad.sz_ (B : Bad P d) (t : List Nat) : sz (P ++ [d] ++ t) = (0, 0, 31) := sz_app_wrong t B.wrong
theorem Bad.rdF_ (B : Bad P d) (t : List Nat) : rdF (P ++ [d] ++ t) = ([], 0, 31) := by unfold rdF; rw [B.sz_ t, if_neg (by simp)]
theorem Bad.ndF_ (B : Bad P d) (t : List Nat) : ndF (P ++ [d] ++ t) = (0, 31) := by unfold ndF; rw [B.sz_ t, if_neg (by simp)]
theorem Bad.erF_ (B : Bad P d) (t : List Nat) : erF (P ++ [d] ++ t) = 31 := by unfold erF; rw [if_neg (by simp), B.rdF_ t]
theorem Bad.splF_ (B : Bad P d) (t : List Nat) : splF (P ++ [d] ++ t) = ([], P ++ [d] ++ t) := splF_stop (by rw [B.rdF_ t]; simp)
theorem Bad.behind (B : Bad P d) {xs : List (List Nat)} (h : ∀ x ∈ xs, x.length ≤ 16384) : stOf (joF xs ++ P) = ⟨P, xs.length, false⟩ ∧ erD (joF xs ++ P) = 0 ∧ (splF (joF xs ++ P)).1 = xs := by
  have h1 := splF_joF P h
  rw [splF_stop B.stop] at h1
  simp only [List.append_nil] at h1
  refine ⟨?_, ?_, by rw [h1]⟩
  · unfold stOf; rw [h1]; simp only; rw [if_neg B.ok]
  · unfold erD; rw [h1]; simp only; rw [if_neg B.ok]
theorem Bad.fed (B : Bad P d) (n : Nat) : fdF ⟨P, n, false⟩ [d] = (⟨[], n, true⟩, [], 31) := by
  unfold fdF
  have h1 := B.splF_ []
  have h2 := B.erF_ []
  rw [List.append_nil] at h1 h2
  simp only
  rw [if_neg (by simp), h1]
  simp only
  rw [if_pos h2]
  simp
theorem Bad.split (B : Bad P d) {x : List Nat} (hx : x.length ≤ 16384) (t : List Nat) : splF (frF x ++ (P ++ [d] ++ t)) = ([x], P ++ [d] ++ t) := by
  have h1 := splF_joF (P ++ [d] ++ t) (xs := [x]) (by simpa using hx)
  rw [B.splF_ t, joF_one] at h1
  exact h1
end
theorem fdF_dead (n : Nat) (x : List Nat) : fdF ⟨[], n, true⟩ x = (⟨[], n, true⟩, [], 31) := by unfold fdF; rw [if_pos rfl]
end Go.Fx
