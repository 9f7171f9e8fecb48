/- Plain arithmetic of numbers written as bytes: the digits of a number, its form, and how it is read. No program in sight. -/
import Derived.Test.YtippgnbmilnjbaaRows
namespace Go.Fx.Num

/-- How many digits a number has in base 256 (0: none), by fuel. -/
def len256 : Nat → Nat → Nat
  | 0, _ => 0
  | f + 1, x => if x = 0 then 0 else 1 + len256 f (x / 256)
/-- The lowest n digits, the highest first. -/
def digs : Nat → Nat → List Nat
  | 0, _ => []
  | n + 1, x => (x / 256 ^ n % 256) :: digs n x
def size (x : Nat) : Nat := if x ≤ 246 then 1 else 1 + len256 8 x
def form (x : Nat) : List Nat := if x ≤ 246 then [x] else (246 + len256 8 x) :: digs (len256 8 x) x

theorem len256_pos (f x : Nat) (h : 0 < x) : len256 (f + 1) x = 1 + len256 f (x / 256) := by simp only [len256]; rw [if_neg (by omega)]
theorem len256_zero (f : Nat) : len256 f 0 = 0 := by cases f <;> simp [len256]
theorem len256_le (f x : Nat) : len256 f x ≤ f := by
  induction f generalizing x with
  | zero => simp [len256]
  | succ f ih => simp only [len256]; split; omega; have := ih (x / 256); omega
theorem digs_length (n x : Nat) : (digs n x).length = n := by induction n <;> simp_all [digs]
theorem form_length (x : Nat) : (form x).length = size x := by unfold form size; split <;> simp [digs_length]; omega
theorem digs_lt (n x : Nat) : ∀ d ∈ digs n x, d < 256 := by
  induction n with
  | zero => simp [digs]
  | succ n ih => intro d hd; simp only [digs, List.mem_cons] at hd; rcases hd with rfl | hd; exact Nat.mod_lt _ (by omega); exact ih d hd
theorem form_lt (x : Nat) : ∀ d ∈ form x, d < 256 := by
  intro d hd
  unfold form at hd
  split at hd
  · simp at hd; omega
  · simp only [List.mem_cons] at hd
    rcases hd with rfl | hd
    · have := len256_le 8 x; omega
    · exact digs_lt _ _ d hd
theorem size_pos (x : Nat) : 1 ≤ size x := by unfold size; split <;> omega
theorem size_le (x : Nat) : size x ≤ 9 := by unfold size; have := len256_le 8 x; split <;> omega
/-- x fits into as many digits as it has. -/
theorem lt_len256 (f x : Nat) (h : x < 256 ^ f) : x < 256 ^ len256 f x := by
  induction f generalizing x with
  | zero => simpa [len256] using h
  | succ f ih =>
    simp only [len256]
    split
    · simp_all
    · have := ih (x / 256) (by rw [Nat.pow_succ] at h; omega)
      rw [Nat.add_comm 1, Nat.pow_succ]
      omega
/-- .. and into no fewer. -/
theorem len256_lower (f x : Nat) (hx : 0 < x) (h : x < 256 ^ f) : 256 ^ (len256 f x - 1) ≤ x := by
  induction f generalizing x with
  | zero => simp at h; omega
  | succ f ih =>
    rw [len256_pos f x hx]
    by_cases h0 : x / 256 = 0
    · rw [h0, len256_zero]; simp; omega
    · have h1 := ih (x / 256) (by omega) (by rw [Nat.pow_succ] at h; omega)
      have h2 : 1 ≤ len256 f (x / 256) := by
        cases f with
        | zero => simp at h; omega
        | succ f => rw [len256_pos f _ (by omega)]; omega
      obtain ⟨k, hk⟩ : ∃ k, len256 f (x / 256) = k + 1 := ⟨len256 f (x / 256) - 1, by omega⟩
      rw [hk] at h1 ⊢
      simp only [Nat.add_sub_cancel] at h1
      rw [show 1 + (k + 1) - 1 = k + 1 by omega, Nat.pow_succ]
      omega
/-- The number that digits make, the highest first. -/
def val (l : List Nat) : Nat := l.foldl (fun x d => x * 256 + d) 0
theorem val_nil : val [] = 0 := rfl
theorem val_snoc (l : List Nat) (d : Nat) : val (l ++ [d]) = val l * 256 + d := by simp [val]
theorem snoc_ind {α : Type} {p : List α → Prop} (h0 : p []) (h : ∀ l a, p l → p (l ++ [a])) (l : List α) : p l := by
  rw [← l.reverse_reverse]
  induction l.reverse with
  | nil => exact h0
  | cons a t ih => rw [List.reverse_cons]; exact h _ _ ih
theorem val_lt (l : List Nat) (h : ∀ d ∈ l, d < 256) : val l < 256 ^ l.length := by
  induction l using snoc_ind with
  | h0 => simp [val]
  | h l d ih =>
    rw [val_snoc, List.length_append, List.length_singleton, Nat.pow_succ]
    have h1 := ih (fun x hx => h x (by simp [hx]))
    have h2 := h d (by simp)
    omega
/-- What the digits of a form behind its head give: the number, the form's size, the error. -/
def readTail (ds : List Nat) : Nat × Nat × Nat := if ds[0]? = some 0 ∨ val ds ≤ 246 then (0, 0, 11) else (val ds, ds.length + 1, 0)
/-- Reading a form at the beginning of bytes. -/
def readF : List Nat → Nat × Nat × Nat
  | [] => (0, 0, 10)
  | c :: rest => if c ≤ 246 then (c, 1, 0) else if c = 255 then (0, 0, 11) else if rest.length < c - 246 then (0, 0, 10) else readTail (rest.take (c - 246))
/-- Reading a form at an offset. -/
def readAt (b : List Nat) (at_ : Int) : Nat × Nat × Nat := if at_ < 0 ∨ (b.length : Int) < at_ then (0, 0, 2) else readF (b.drop at_.toNat)
/-- Reading all forms of bytes: the numbers, the error. (f: fuel, at least the length.) -/
def splitF : Nat → List Nat → List Nat × Nat
  | 0, _ => ([], 0)
  | f + 1, b => if b = [] then ([], 0) else
    if (readF b).2.2 = 0 then (if (splitF f (b.drop (readF b).2.1)).2 = 0 then ((readF b).1 :: (splitF f (b.drop (readF b).2.1)).1, 0) else ([], (splitF f (b.drop (readF b).2.1)).2)) else ([], (readF b).2.2)
def split (b : List Nat) : List Nat × Nat := splitF b.length b
theorem readF_size (b : List Nat) (h : (readF b).2.2 = 0) : 1 ≤ (readF b).2.1 ∧ (readF b).2.1 ≤ b.length := by
  cases b with
  | nil => simp [readF] at h
  | cons c rest =>
    revert h
    simp only [readF]
    split
    · intro _; simp
    · split
      · intro h; simp at h
      · split
        · intro h; simp at h
        · unfold readTail
          split
          · intro h; simp at h
          · intro _; simp; omega
theorem splitF_fuel : ∀ (f g : Nat) (b : List Nat), b.length ≤ f → b.length ≤ g → splitF f b = splitF g b := by
  intro f
  induction f with
  | zero =>
    intro g b hf _
    have : b = [] := List.eq_nil_of_length_eq_zero (by omega)
    subst this
    cases g <;> simp [splitF]
  | succ f ih =>
    intro g b hf hg
    by_cases hb : b = []
    · subst hb; cases g <;> simp [splitF]
    · have hl : 0 < b.length := List.length_pos_iff.2 hb
      obtain ⟨g, rfl⟩ : ∃ k, g = k + 1 := ⟨g - 1, by omega⟩
      simp only [splitF, if_neg hb]
      by_cases he : (readF b).2.2 = 0
      · have hs := readF_size b he
        rw [ih g (b.drop (readF b).2.1) (by rw [List.length_drop]; omega) (by rw [List.length_drop]; omega)]
      · simp only [if_neg he]
theorem split_nil : split [] = ([], 0) := rfl
theorem split_err (b : List Nat) (hb : b ≠ []) (h : (readF b).2.2 ≠ 0) : split b = ([], (readF b).2.2) := by
  have hl : 0 < b.length := List.length_pos_iff.2 hb
  unfold split
  obtain ⟨g, hg⟩ : ∃ k, b.length = k + 1 := ⟨b.length - 1, by omega⟩
  rw [hg, splitF, if_neg hb, if_neg h]
theorem split_step (b : List Nat) (hb : b ≠ []) (h : (readF b).2.2 = 0) : split b = if (split (b.drop (readF b).2.1)).2 = 0 then ((readF b).1 :: (split (b.drop (readF b).2.1)).1, 0) else ([], (split (b.drop (readF b).2.1)).2) := by
  have hl : 0 < b.length := List.length_pos_iff.2 hb
  have hs := readF_size b h
  unfold split
  obtain ⟨g, hg⟩ : ∃ k, b.length = k + 1 := ⟨b.length - 1, by omega⟩
  conv => lhs; rw [hg, splitF, if_neg hb, if_pos h]
  rw [splitF_fuel g (b.drop (readF b).2.1).length _ (by rw [List.length_drop]; omega) (Nat.le_refl _)]
/-- What is to come behind numbers that have come. -/
def behind (pre : List Nat) (r : List Nat × Nat) : List Nat × Nat := if r.2 = 0 then (pre ++ r.1, 0) else ([], r.2)
theorem behind_nil (r : List Nat × Nat) (h : r.2 ≠ 0 → r.1 = []) : behind [] r = r := by
  unfold behind
  by_cases h0 : r.2 = 0
  · rw [if_pos h0, ← h0]; simp
  · rw [if_neg h0, ← h h0]
theorem split_bad (b : List Nat) : (split b).2 ≠ 0 → (split b).1 = [] := by
  intro h
  by_cases hb : b = []
  · subst hb; rfl
  · by_cases he : (readF b).2.2 = 0
    · rw [split_step b hb he] at h ⊢
      by_cases h2 : (split (b.drop (readF b).2.1)).2 = 0
      · rw [if_pos h2] at h; simp at h
      · rw [if_neg h2]
    · rw [split_err b hb he]
theorem behind_step (pre b : List Nat) (hb : b ≠ []) (h : (readF b).2.2 = 0) : behind pre (split b) = behind (pre ++ [(readF b).1]) (split (b.drop (readF b).2.1)) := by
  rw [split_step b hb h]
  unfold behind
  by_cases h2 : (split (b.drop (readF b).2.1)).2 = 0
  · simp [h2]
  · simp [h2]
theorem behind_err (pre b : List Nat) (hb : b ≠ []) (h : (readF b).2.2 ≠ 0) : behind pre (split b) = ([], (readF b).2.2) := by
  rw [split_err b hb h]; unfold behind; rw [if_neg h]
theorem readTail_lt (ds : List Nat) (h : ∀ d ∈ ds, d < 256) (hl : ds.length ≤ 8) : (readTail ds).1 < 18446744073709551616 ∧ (readTail ds).2.1 ≤ 9 := by
  unfold readTail
  split
  · simp
  · have h1 := val_lt ds h
    have h2 : 256 ^ ds.length ≤ 256 ^ 8 := Nat.pow_le_pow_right (by omega) hl
    simp only
    omega
theorem readF_lt (b : List Nat) (h : ∀ d ∈ b, d < 256) : (readF b).1 < 18446744073709551616 ∧ (readF b).2.1 ≤ 9 := by
  cases b with
  | nil => simp [readF]
  | cons c rest =>
    have hc := h c (by simp)
    simp only [readF]
    split
    · simp only; omega
    · split
      · simp
      · split
        · simp
        · exact readTail_lt _ (fun d hd => h d (List.mem_cons_of_mem _ (List.mem_of_mem_take hd))) (by simp; omega)
theorem readAt_lt (b : List Nat) (at_ : Int) (h : ∀ d ∈ b, d < 256) : (readAt b at_).1 < 18446744073709551616 ∧ (readAt b at_).2.1 ≤ 9 := by
  unfold readAt
  split
  · simp
  · exact readF_lt _ (fun d hd => h d (List.mem_of_mem_drop hd))
/-- Reading a form within limits. -/
def intAt (b : List Nat) (at_ least most : Int) : Nat × Nat × Nat :=
  if (readAt b at_).2.2 ≠ 0 then (0, 0, (readAt b at_).2.2)
  else if most < 0 ∨ most < ((readAt b at_).1 : Int) ∨ (0 < least ∧ ((readAt b at_).1 : Int) < least) then (0, 0, 12) else ((readAt b at_).1, (readAt b at_).2.1, 0)
/-- Bytes that are one form. -/
def last (b : List Nat) : Nat × Nat × Nat :=
  if (readF b).2.2 ≠ 0 then (0, 0, (readF b).2.2) else if (readF b).2.1 < b.length then (0, 0, 11) else ((readF b).1, (readF b).2.1, 0)
def fold (y : Int) : Int := if 0 ≤ y then 2 * y else -2 * y - 1
def unfold_ (x : Int) : Int := if x % 2 = 0 then x / 2 else -(x / 2) - 1
/-- The forms of numbers, one behind the other. -/
def all (l : List Nat) : List Nat := l.flatMap form
theorem all_snoc (l : List Nat) (x : Nat) : all (l ++ [x]) = all l ++ form x := by simp [all]
theorem all_length_le (l : List Nat) : (all l).length ≤ 9 * l.length := by
  induction l with
  | nil => simp [all]
  | cons x l ih =>
    have := size_le x
    have h2 := form_length x
    have e : all (x :: l) = form x ++ all l := by simp [all]
    rw [e, List.length_append, List.length_cons]
    omega
theorem all_lt (l : List Nat) : ∀ d ∈ all l, d < 256 := by
  intro d hd
  simp only [all, List.mem_flatMap] at hd
  obtain ⟨x, _, hx⟩ := hd
  exact form_lt x d hx
def cmpN (x y : Nat) : Int := if x < y then -1 else if y < x then 1 else 0
/-- The comparison of the numbers of two forms. -/
def compare (a b : List Nat) : Int × Nat :=
  if (last a).2.2 ≠ 0 then (0, (last a).2.2) else if (last b).2.2 ≠ 0 then (0, (last b).2.2) else (cmpN (last a).1 (last b).1, 0)
theorem foldl_val (l : List Nat) : ∀ a, l.foldl (fun x d => x * 256 + d) a = a * 256 ^ l.length + val l := by
  induction l with
  | nil => intro a; simp [val]
  | cons d l ih =>
    intro a
    have e : val (d :: l) = l.foldl (fun x d => x * 256 + d) d := by simp [val]
    rw [e, List.foldl_cons, ih, ih d, List.length_cons, Nat.pow_succ, Nat.add_mul, Nat.mul_assoc, Nat.mul_comm 256, Nat.add_assoc]
theorem val_cons (d : Nat) (l : List Nat) : val (d :: l) = d * 256 ^ l.length + val l := by
  have e : val (d :: l) = l.foldl (fun x d => x * 256 + d) d := by simp [val]
  rw [e, foldl_val]
theorem val_digs (n x : Nat) : val (digs n x) = x % 256 ^ n := by
  induction n with
  | zero => simp [digs, val, Nat.mod_one]
  | succ n ih =>
    rw [digs, val_cons, ih, digs_length, Nat.pow_succ, Nat.mod_mul, Nat.mul_comm]
    omega
theorem readF_form (x : Nat) (hx : x < 18446744073709551616) (rest : List Nat) : readF (form x ++ rest) = (x, size x, 0) := by
  unfold form size
  by_cases hs : x ≤ 246
  · simp only [if_pos hs, List.singleton_append, readF]
  · simp only [if_neg hs, List.cons_append, readF]
    have h1 : 1 ≤ len256 8 x := by rw [len256_pos 7 x (by omega)]; omega
    have h8 := len256_le 8 x
    have hlt := lt_len256 8 x (by omega)
    have hlo := len256_lower 8 x (by omega) (by omega)
    generalize len256 8 x = m at *
    rw [if_neg (by omega), if_neg (by omega), if_neg (by rw [List.length_append, digs_length]; omega)]
    have ht : (digs m x ++ rest).take (246 + m - 246) = digs m x := by
      rw [show 246 + m - 246 = (digs m x).length by rw [digs_length]; omega]
      exact List.take_left
    rw [ht]
    unfold readTail
    have hv : val (digs m x) = x := by rw [val_digs, Nat.mod_eq_of_lt hlt]
    have h0 : (digs m x)[0]? ≠ some 0 := by
      obtain ⟨k, rfl⟩ : ∃ k, m = k + 1 := ⟨m - 1, by omega⟩
      simp only [Nat.add_sub_cancel] at hlo
      simp only [digs, List.getElem?_cons_zero]
      intro h
      injection h with h
      have h1 : x / 256 ^ k < 256 := by rw [Nat.div_lt_iff_lt_mul (Nat.pow_pos (by omega))]; rw [Nat.pow_succ, Nat.mul_comm] at hlt; exact hlt
      have h2 : 1 ≤ x / 256 ^ k := by rw [Nat.le_div_iff_mul_le (Nat.pow_pos (by omega))]; omega
      omega
    rw [if_neg (by rw [hv]; rintro (h | h); exact h0 h; omega), hv, digs_length, Nat.add_comm]
theorem readF_cut (x : Nat) (k : Nat) (hk : k < size x) : readF ((form x).take k) = (0, 0, 10) := by
  unfold form
  unfold size at hk
  by_cases hs : x ≤ 246
  · rw [if_pos hs] at hk ⊢
    obtain rfl : k = 0 := by omega
    simp [readF]
  · rw [if_neg hs] at hk ⊢
    have h8 := len256_le 8 x
    generalize len256 8 x = m at *
    cases k with
    | zero => simp [readF]
    | succ k =>
      simp only [List.take_succ_cons, readF]
      rw [if_neg (by omega), if_neg (by omega), if_pos (by rw [List.length_take, digs_length]; omega)]
end Go.Fx.Num
