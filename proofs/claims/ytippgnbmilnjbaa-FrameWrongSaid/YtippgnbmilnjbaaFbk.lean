/- Fbk: plain facts about bodies that were joined. -/
import Derived.Test.YtippgnbmilnjbaaFjn
import Derived.Test.YtippgnbmilnjbaaFpd
namespace Go.Fx
open Go.RowKit
theorem splF_back {xs : List (List Nat)} (h : ∀ x ∈ xs, x.length ≤ 16384) : splF (joF xs) = (xs, []) := by
  have h1 := splF_joF [] h
  rwa [List.append_nil, splF_nil, List.append_nil] at h1
theorem erF_nil : erF [] = 0 := by unfold erF; rw [if_pos rfl]
theorem stOf_back {xs : List (List Nat)} (h : ∀ x ∈ xs, x.length ≤ 16384) : stOf (joF xs) = ⟨[], xs.length, false⟩ ∧ erD (joF xs) = 0 := by
  unfold stOf erD
  rw [splF_back h]
  simp only [erF_nil]
  exact ⟨rfl, rfl⟩
theorem joF_len {xs : List (List Nat)} (h : ∀ x ∈ xs, x.length ≤ 599) : (joF xs).length ≤ xs.length * 602 := by
  induction xs with
  | nil => simp [joF]
  | cons x r ih =>
    have h1 := ih (fun y hy => h y (by simp [hy]))
    have h2 := h x (by simp)
    have h3 := frF_len x
    have h4 := fmF_len x.length
    rw [joF_cons, List.length_append, List.length_cons]
    omega
end Go.Fx
namespace Go.Proofs.Ytippgnbmilnjbaa
open Go.RowKit Go.Fx
theorem size_form {n : Nat} (h : n ≤ 16384) : Num.size n = (fmF n).length := by rw [← form_fmF h, Num.form_length]
end Go.Proofs.Ytippgnbmilnjbaa
