/- Mdp: what is dealt, in plain Lean: the lists together are the list; each event lies where its count says. -/
import Derived.Test.YtkeapijehfacfaaMli
namespace Go.Fx
open Go.RowKit
theorem badT_ok {n : Int} : ∀ {l : List Ev} {i : Nat}, (∀ x ∈ l, okT n x = true) → badT n i l = none
  | [], _, _ => rfl
  | x :: xs, i, h => by
    rw [badT, if_pos (h x (by simp))]
    exact badT_ok (fun y hy => h y (by simp [hy]))
theorem dealF_ok {l : List Ev} (h : ∀ x ∈ l, 1 ≤ x.to ∧ x.to ≤ 16) : dealF l 16 = (dealL l 16, -1, 0) := by
  unfold dealF
  rw [if_neg (by omega), badT_ok (fun x hx => by have := h x hx; unfold okT; simp; omega)]
  rfl
theorem forE_at {l : List Ev} {p : Nat} {x : Ev} (h : l[p]? = some x) : (forE l x.to)[(forE (l.take p) x.to).length]? = some x := by
  have e : l = l.take p ++ (x :: l.drop (p + 1)) := by rw [← drop_at h, List.take_append_drop]
  have e2 : forE l x.to = forE (l.take p) x.to ++ x :: forE (l.drop (p + 1)) x.to := by
    conv => lhs; rw [e]
    unfold forE
    rw [List.filter_append, List.filter_cons, if_pos (by simp)]
  rw [e2, List.getElem?_append_right (Nat.le_refl _), Nat.sub_self]
  rfl
/-- How many events of a list are for each process. -/
def cntsL (l : List Ev) : List Value := (List.range 16).map (fun (j : Nat) => .int .i64 ((forE l ((j : Int) + 1)).length : Int))
theorem cntsL_len (l : List Ev) : (cntsL l).length = 16 := by simp [cntsL]
theorem cntsL_nil : cntsL [] = List.replicate 16 (.int .i64 0) := by rfl
theorem cntsL_at (l : List Ev) {j : Nat} (h : j < 16) : (cntsL l)[j]? = some (.int .i64 ((forE l ((j : Int) + 1)).length : Int)) := by
  unfold cntsL
  rw [List.getElem?_map, List.getElem?_range h]; rfl
theorem cntsL_snoc {l : List Ev} {x : Ev} {j : Nat} (_hj : j < 16) (hx : x.to = (j : Int) + 1) : cntsL (l ++ [x]) = (cntsL l).set j (.int .i64 (((forE l ((j : Int) + 1)).length : Int) + 1)) := by
  unfold cntsL
  apply List.ext_getElem
  · simp
  · intro i h1 h2
    rw [List.getElem_set]
    simp only [List.getElem_map, List.getElem_range]
    by_cases hij : j = i
    · subst hij
      rw [if_pos rfl]
      simp [forE, List.filter_append, hx]
    · rw [if_neg hij]
      have : ¬ x.to = (i : Int) + 1 := by omega
      simp [forE, List.filter_append, this]
theorem dealL_perm (l : List Ev) (h : ∀ x ∈ l, 1 ≤ x.to ∧ x.to ≤ 16) : ∀ k, k ≤ l.length → (dealL (l.take k) 16).flatten.Perm (l.take k)
  | 0, _ => by
    rw [List.take_zero, dealL_nil]
    simp
  | k + 1, hk => by
    have hx : l[k]? = some l[k] := List.getElem?_eq_getElem (by omega)
    have ih := dealL_perm l h k (by omega)
    have h1 := h l[k] (List.getElem_mem _)
    obtain ⟨j, hj⟩ : ∃ j : Nat, l[k].to = (j : Int) + 1 := ⟨(l[k].to - 1).toNat, by omega⟩
    rw [take_snoc hx, dealL_snoc (l := l.take k) (n := 16) (j := j) (by omega) hj]
    have hjl : j < (dealL (l.take k) 16).length := by rw [dealL_len]; omega
    have h2 : (dealL (l.take k) 16)[j]? = some (dealL (l.take k) 16)[j] := List.getElem?_eq_getElem hjl
    rw [h2]
    refine (set_perm h2 (x := l[k]) ?_).trans (((List.Perm.cons _ ih)).trans (List.perm_append_comm (l₁ := [l[k]]) (l₂ := l.take k)))
    exact List.perm_append_comm (l₁ := _) (l₂ := [l[k]])
/-- What is dealt out of a list in order is merged to the list. -/
theorem merge_deal {l : List Ev} (hs : Srt l) (h : ∀ x ∈ l, 1 ≤ x.to ∧ x.to ≤ 16) : mergeF (dealL l 16) = (l, -1, 0) ∧ (∀ x ∈ (dealL l 16).flatten, x ∈ l) ∧ (dealL l 16).flatten.length = l.length := by
  have hp := dealL_perm l h l.length (Nat.le_refl _)
  rw [List.take_of_length_le (Nat.le_refl _)] at hp
  refine ⟨?_, fun x hx => hp.mem_iff.1 hx, hp.length_eq⟩
  rw [mergeF_ok (fun l' hl' => ?_) (hs.dif.perm hp.symm), isort_unique hs hp.symm]
  obtain ⟨j, _, rfl⟩ := List.mem_map.1 hl'
  exact hs.sublist List.filter_sublist
theorem dealL_at (l : List Ev) {j : Nat} (h : j < 16) : (dealL l 16)[j]? = some (forE l ((j : Int) + 1)) := by
  unfold dealL
  rw [List.getElem?_map, List.getElem?_range h]; rfl
end Go.Fx
