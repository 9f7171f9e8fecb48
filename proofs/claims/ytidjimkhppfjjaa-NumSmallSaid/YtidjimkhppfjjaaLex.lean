/- The order of forms by bytes is that of their numbers; forms of lists are split again. No program in sight. -/
import Derived.Test.YtidjimkhppfjjaaByt
import Derived.Test.YtidjimkhppfjjaaSpec
namespace Go.Fx.Num
theorem lexN_anti : ∀ xs ys : List Nat, lexN xs ys = - lexN ys xs
  | [], [] => rfl
  | [], _ :: _ => rfl
  | _ :: _, [] => rfl
  | a :: ra, b :: rb => by
    have ih := lexN_anti ra rb
    unfold lexN
    rcases Nat.lt_trichotomy a b with h | h | h
    · rw [if_pos h, if_neg (by omega), if_pos h]
    · rw [if_neg (by omega), if_neg (by omega), if_neg (by omega), if_neg (by omega), ih]
    · rw [if_neg (by omega), if_pos h, if_pos h]; rfl
theorem lexN_cons (a : Nat) (xs ys : List Nat) : lexN (a :: xs) (a :: ys) = lexN xs ys := by
  conv => lhs; unfold lexN
  rw [if_neg (by omega), if_neg (by omega)]
theorem lexN_lt {a b : Nat} (h : a < b) (xs ys : List Nat) : lexN (a :: xs) (b :: ys) = -1 := by
  unfold lexN; rw [if_pos h]
theorem lexN_same (l xs ys : List Nat) : lexN (l ++ xs) (l ++ ys) = lexN xs ys := by
  induction l with
  | nil => rfl
  | cons a l ih => rw [List.cons_append, List.cons_append, lexN_cons, ih]
theorem digs_lex (s t : List Nat) : ∀ (m x y : Nat), x % 256 ^ m < y % 256 ^ m → lexN (digs m x ++ s) (digs m y ++ t) = -1 := by
  intro m
  induction m with
  | zero => intro x y h; simp [Nat.mod_one] at h
  | succ m ih =>
    intro x y h
    rw [Nat.pow_succ, Nat.mod_mul, Nat.mod_mul] at h
    have h1 : x % 256 ^ m < 256 ^ m := Nat.mod_lt _ (Nat.pow_pos (by omega))
    have h2 : y % 256 ^ m < 256 ^ m := Nat.mod_lt _ (Nat.pow_pos (by omega))
    simp only [digs, List.cons_append]
    rcases Nat.lt_trichotomy (x / 256 ^ m % 256) (y / 256 ^ m % 256) with hc | hc | hc
    · exact lexN_lt hc _ _
    · rw [hc] at h ⊢
      rw [lexN_cons]
      exact ih x y (by omega)
    · exfalso
      have : 256 ^ m * (y / 256 ^ m % 256) + 256 ^ m ≤ 256 ^ m * (x / 256 ^ m % 256) := by
        rw [← Nat.mul_succ]
        exact Nat.mul_le_mul_left _ hc
      omega
theorem len256_mono (f : Nat) : ∀ x y : Nat, x ≤ y → len256 f x ≤ len256 f y := by
  induction f with
  | zero => intro x y _; simp [len256]
  | succ f ih =>
    intro x y h
    simp only [len256]
    have := ih (x / 256) (y / 256) (Nat.div_le_div_right h)
    split
    · omega
    · rw [if_neg (by omega)]; omega
theorem form_lex_lt (s t : List Nat) (x y : Nat) (hy : y < 18446744073709551616) (h : x < y) : lexN (form x ++ s) (form y ++ t) = -1 := by
  unfold form
  have h8 := len256_le 8 y
  by_cases h1 : x ≤ 246
  · by_cases h2 : y ≤ 246
    · rw [if_pos h1, if_pos h2]; exact lexN_lt h _ _
    · rw [if_pos h1, if_neg h2]
      have : len256 8 y = 1 + len256 7 (y / 256) := len256_pos 7 y (by omega)
      exact lexN_lt (by omega) _ _
  · rw [if_neg h1, if_neg (by omega)]
    have hm := len256_mono 8 x y (by omega)
    have hx2 := lt_len256 8 x (by omega)
    have hy2 := lt_len256 8 y (by omega)
    rcases Nat.lt_or_eq_of_le hm with hl | hl
    · exact lexN_lt (by omega) _ _
    · rw [hl] at hx2 ⊢
      rw [List.cons_append, List.cons_append, lexN_cons]
      exact digs_lex s t _ x y (by rw [Nat.mod_eq_of_lt hx2, Nat.mod_eq_of_lt hy2]; exact h)
theorem form_lex (s t : List Nat) (x y : Nat) (hx : x < 18446744073709551616) (hy : y < 18446744073709551616) : lexN (form x ++ s) (form y ++ t) = if x = y then lexN s t else cmpN x y := by
  unfold cmpN
  rcases Nat.lt_trichotomy x y with h | h | h
  · rw [if_neg (by omega), if_pos h, form_lex_lt s t x y hy h]
  · subst h; rw [if_pos rfl, lexN_same]
  · rw [if_neg (by omega), if_neg (by omega), if_pos h, lexN_anti, form_lex_lt t s y x hx h]; rfl
theorem form_cmp (x y : Nat) (hx : x < 18446744073709551616) (hy : y < 18446744073709551616) : lexN (form x) (form y) = cmpN x y := by
  have h := form_lex [] [] x y hx hy
  rw [List.append_nil, List.append_nil] at h
  rw [h]
  split
  · rename_i e; subst e; unfold cmpN; rw [if_neg (by omega), if_neg (by omega)]; rfl
  · rfl
/-- No form is another one's beginning. -/
theorem form_prefix (x y : Nat) (hx : x < 18446744073709551616) (hy : y < 18446744073709551616) (h : (form x).take (form y).length = form y) : x = y := by
  have h1 := readF_form x hx []
  have h2 := readF_form y hy ((form x).drop (form y).length)
  rw [List.append_nil] at h1
  have h3 : form y ++ (form x).drop (form y).length = form x := by
    conv => lhs; lhs; rw [← h]
    exact List.take_append_drop _ _
  rw [h3, h1] at h2
  exact congrArg Prod.fst h2
theorem all_lex : ∀ (k l : List Nat), k.length = l.length → (∀ x ∈ k, x < 18446744073709551616) → (∀ x ∈ l, x < 18446744073709551616) → lexN (all k) (all l) = lexN k l
  | [], [], _, _, _ => rfl
  | [], _ :: _, h, _, _ => by simp at h
  | _ :: _, [], h, _, _ => by simp at h
  | x :: k, y :: l, h, h1, h2 => by
    have ih := all_lex k l (by simpa using h) (fun z hz => h1 z (by simp [hz])) (fun z hz => h2 z (by simp [hz]))
    have e : ∀ (z : Nat) (m : List Nat), all (z :: m) = form z ++ all m := fun z m => by simp [all]
    rw [e, e, form_lex _ _ x y (h1 x (by simp)) (h2 y (by simp)), ih]
    conv => rhs; unfold lexN
    unfold cmpN
    rcases Nat.lt_trichotomy x y with h | h | h
    · rw [if_neg (by omega), if_pos h, if_pos h]
    · subst h; simp
    · rw [if_neg (by omega), if_neg (by omega), if_pos h, if_neg (by omega), if_pos h]
theorem form_ne (x : Nat) (r : List Nat) : form x ++ r ≠ [] := by
  intro h
  have h1 := congrArg List.length h
  have h2 := size_pos x
  rw [List.length_append, form_length] at h1
  simp at h1
  omega
theorem behind_all (r : List Nat) : ∀ (k pre : List Nat), (∀ x ∈ k, x < 18446744073709551616) → behind pre (split (all k ++ r)) = behind (pre ++ k) (split r)
  | [], pre, _ => by simp [all]
  | x :: k, pre, h => by
    have e : all (x :: k) ++ r = form x ++ (all k ++ r) := by simp [all]
    have hr := readF_form x (h x (by simp)) (all k ++ r)
    have ih := behind_all r k (pre ++ [x]) (fun z hz => h z (by simp [hz]))
    rw [e, behind_step pre _ (form_ne _ _) (by rw [hr]), hr]
    have hd : (form x ++ (all k ++ r)).drop (size x) = all k ++ r := by
      rw [← form_length]; exact List.drop_left
    simp only [hd]
    rw [ih]
    simp
theorem split_all (k : List Nat) (h : ∀ x ∈ k, x < 18446744073709551616) : split (all k) = (k, 0) := by
  have h1 := behind_all [] k [] h
  rw [behind_nil _ (split_bad _), List.append_nil] at h1
  rw [h1, split_nil]
  simp [behind]
theorem split_cut (k : List Nat) (x j : Nat) (h : ∀ z ∈ k, z < 18446744073709551616) (h0 : 0 < j) (hj : j < size x) : split (all k ++ (form x).take j) = ([], 10) := by
  have h1 := behind_all ((form x).take j) k [] h
  rw [behind_nil _ (split_bad _)] at h1
  rw [h1]
  have hc := readF_cut x j hj
  have hne : (form x).take j ≠ [] := by
    intro e
    have := congrArg List.length e
    rw [List.length_take, form_length] at this
    simp at this
    omega
  rw [behind_err _ _ hne (by rw [hc]; simp), hc]
theorem last_form (x : Nat) (hx : x < 18446744073709551616) : last (form x) = (x, size x, 0) := by
  have h := readF_form x hx []
  rw [List.append_nil] at h
  unfold last
  rw [h, if_neg (by simp), if_neg (by rw [form_length]; simp)]
theorem readAt_form (x : Nat) (hx : x < 18446744073709551616) (r : List Nat) : readAt (form x ++ r) 0 = (x, size x, 0) := by
  unfold readAt
  rw [if_neg (by omega)]
  exact readF_form x hx r
theorem compare_form (x y : Nat) (hx : x < 18446744073709551616) (hy : y < 18446744073709551616) : compare (form x) (form y) = (cmpN x y, 0) := by
  unfold compare
  rw [last_form x hx, last_form y hy, if_neg (by simp), if_neg (by simp)]
end Go.Fx.Num
