/- Mwp: MergeWithout in plain Lean: what is chosen, what is left. -/
import Derived.Test.YtkeapijehfacfaaMci
namespace Go.Fx
open Go.RowKit
/-- An event whose value and receiver are turned. -/
def twist (x : Ev) : Ev := ⟨x.t, x.s, x.q, -x.to, x.v + 1⟩
theorem twist_k (x : Ev) : (twist x).k = x.k := rfl
/-- The events that are chosen, turned; and the others. -/
def awyF (p : Nat → Bool) : Nat → List Ev → List Ev
  | _, [] => []
  | i, x :: xs => if p i = true then twist x :: awyF p (i + 1) xs else awyF p (i + 1) xs
def lftF (p : Nat → Bool) : Nat → List Ev → List Ev
  | _, [] => []
  | i, x :: xs => if p i = true then lftF p (i + 1) xs else x :: lftF p (i + 1) xs
theorem awyF_snoc (p : Nat → Bool) (x : Ev) : ∀ (l : List Ev) (i : Nat), awyF p i (l ++ [x]) = awyF p i l ++ (if p (i + l.length) = true then [twist x] else [])
  | [], i => by simp [awyF]
  | y :: l, i => by
    rw [List.cons_append, awyF, awyF, awyF_snoc p x l (i + 1), List.length_cons, show i + 1 + l.length = i + (l.length + 1) by omega]
    by_cases h : p i = true
    · rw [if_pos h, if_pos h, List.cons_append]
    · rw [if_neg h, if_neg h]
theorem lftF_snoc (p : Nat → Bool) (x : Ev) : ∀ (l : List Ev) (i : Nat), lftF p i (l ++ [x]) = lftF p i l ++ (if p (i + l.length) = true then [] else [x])
  | [], i => by simp [lftF]
  | y :: l, i => by
    rw [List.cons_append, lftF, lftF, lftF_snoc p x l (i + 1), List.length_cons, show i + 1 + l.length = i + (l.length + 1) by omega]
    by_cases h : p i = true
    · rw [if_pos h, if_pos h]
    · rw [if_neg h, if_neg h, List.cons_append]
theorem awy_key {p : Nat → Bool} {x : Ev} : ∀ {l : List Ev} {i : Nat}, x ∈ awyF p i l → ∃ y ∈ l, x = twist y
  | [], _, h => by cases h
  | y :: l, i, h => by
    unfold awyF at h
    split at h
    · rcases List.mem_cons.1 h with rfl | h
      · exact ⟨y, by simp, rfl⟩
      · obtain ⟨z, hz, e⟩ := awy_key h; exact ⟨z, by simp [hz], e⟩
    · obtain ⟨z, hz, e⟩ := awy_key h; exact ⟨z, by simp [hz], e⟩
theorem lft_in {p : Nat → Bool} {x : Ev} : ∀ {l : List Ev} {i : Nat}, x ∈ lftF p i l → x ∈ l
  | [], _, h => by cases h
  | y :: l, i, h => by
    unfold lftF at h
    split at h
    · exact List.mem_cons_of_mem _ (lft_in h)
    · rcases List.mem_cons.1 h with rfl | h
      · simp
      · exact List.mem_cons_of_mem _ (lft_in h)
theorem awy_srt {p : Nat → Bool} : ∀ {l : List Ev} {i : Nat}, Srt l → Srt (awyF p i l)
  | [], _, _ => List.Pairwise.nil
  | y :: l, i, h => by
    obtain ⟨h1, h2⟩ := List.pairwise_cons.1 h
    unfold awyF
    split
    · exact List.pairwise_cons.2 ⟨fun z hz => by obtain ⟨u, hu, rfl⟩ := awy_key hz; exact h1 u hu, awy_srt h2⟩
    · exact awy_srt h2
/-- Without the chosen ones, the others are left. -/
theorem left_awy {p : Nat → Bool} {c : List Ev} : ∀ {l : List Ev} {i : Nat}, Dif l → (∀ y ∈ c, ∀ x ∈ l, y.k ≠ x.k) → leftF l (awyF p i l ++ c) = lftF p i l
  | [], _, _, _ => rfl
  | y :: l, i, h, hc => by
    obtain ⟨h1, h2⟩ := List.pairwise_cons.1 h
    have hno : ∀ z ∈ l, z.k ≠ y.k := fun z hz e => h1 z hz e.symm
    have ih := left_awy (p := p) (c := c) (l := l) (i := i + 1) h2 (fun z hz x hx => hc z hz x (by simp [hx]))
    unfold leftF at ih ⊢
    unfold awyF lftF
    split
    · rw [List.filter_cons, if_neg (by rw [(hasK_iff.2 ⟨twist y, by simp, rfl⟩ : hasK (twist y :: awyF p (i + 1) l ++ c) y.k = true)]; simp), ← ih]
      refine List.filter_congr (fun x hx => ?_)
      have hxy : ¬ (twist y).k = x.k := fun e => hno x hx e.symm
      unfold hasK
      rw [List.cons_append, List.any_cons, decide_eq_false hxy, Bool.false_or]
    · have hn : hasK (awyF p (i + 1) l ++ c) y.k = false := hasK_no (fun z hz e => by
        rcases List.mem_append.1 hz with hz | hz
        · obtain ⟨u, hu, rfl⟩ := awy_key hz; exact hno u hu e
        · exact hc z hz y (by simp) e)
      rw [List.filter_cons, if_pos (by rw [hn]; rfl), ih]
end Go.Fx
