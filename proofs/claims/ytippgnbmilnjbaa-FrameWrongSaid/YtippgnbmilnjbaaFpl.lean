/- Fpl: frames, in plain Lean: what the head of bytes tells, what a frame's body is, how bytes are split into frames. No program in sight. -/
import Derived.WalkKit
namespace Go.Fx
/-- How many bytes the frame has at least; how many its head has (0: it is not whole); the error. -/
def sz : List Nat → Nat × Nat × Nat
  | [] => (1, 0, 0)
  | [d] => if d ≤ 246 then (1 + d, 1, 0) else if 248 < d then (0, 0, 31) else if d = 247 then (249, 0, 0) else (259, 0, 0)
  | [d, x] => if d ≤ 246 then (1 + d, 1, 0) else if 248 < d then (0, 0, 31) else if d = 247 then (if x < 247 then (0, 0, 31) else (2 + x, 2, 0)) else if x < 1 ∨ 64 < x then (0, 0, 31) else (3 + 256 * x, 0, 0)
  | d :: x :: y :: _ => if d ≤ 246 then (1 + d, 1, 0) else if 248 < d then (0, 0, 31) else if d = 247 then (if x < 247 then (0, 0, 31) else (2 + x, 2, 0)) else if x < 1 ∨ 64 < x then (0, 0, 31) else if 16384 < 256 * x + y then (0, 0, 31) else (3 + (256 * x + y), 3, 0)
def ndF (xs : List Nat) : Nat × Nat := if (sz xs).2.2 = 0 then ((sz xs).1 - xs.length, 0) else (0, (sz xs).2.2)
def rdF (xs : List Nat) : List Nat × Nat × Nat :=
  if (sz xs).2.2 = 0 then (if (sz xs).2.1 = 0 ∨ xs.length < (sz xs).1 then ([], 0, 30) else ((xs.take (sz xs).1).drop (sz xs).2.1, (sz xs).1, 0)) else ([], 0, (sz xs).2.2)
/-- The head's first digits: those that are missing are as small as they may be. -/
def dgp (d : Nat) (r : List Nat) : Nat := (r[0]?).getD (if d = 247 then 247 else 1)
def dgq (r : List Nat) : Nat := (r[1]?).getD 0
theorem sz_d {d : Nat} {r : List Nat} (h : 246 < d) : sz (d :: r) = if 248 < d then (0, 0, 31) else if d = 247 then (if dgp d r < 247 then (0, 0, 31) else (2 + dgp d r, if 1 ≤ r.length then 2 else 0, 0)) else
    if dgp d r < 1 ∨ 16384 < 256 * dgp d r + dgq r then (0, 0, 31) else (3 + (256 * dgp d r + dgq r), if 2 ≤ r.length then 3 else 0, 0) := by
  by_cases h2 : 248 < d
  · rw [if_pos h2]
    match r with
    | [] => simp only [sz]; rw [if_neg (by omega), if_pos h2]
    | [_] => simp only [sz]; rw [if_neg (by omega), if_pos h2]
    | _ :: _ :: _ => simp only [sz]; rw [if_neg (by omega), if_pos h2]
  · rw [if_neg h2]
    rcases (by omega : d = 247 ∨ d = 248) with rfl | rfl
    · match r with
      | [] => rfl
      | [x] => simp [sz, dgp]
      | x :: y :: l => simp [sz, dgp]
    · match r with
      | [] => rfl
      | [x] =>
        have hp : dgp 248 [x] = x := rfl
        have hq : dgq [x] = 0 := rfl
        rw [hp, hq]
        simp only [sz]
        repeat' split
        all_goals first | rfl | (exfalso; omega) | (exfalso; simp at *; done)
      | x :: y :: l =>
        have hp : dgp 248 (x :: y :: l) = x := rfl
        have hq : dgq (x :: y :: l) = y := rfl
        rw [hp, hq]
        simp only [sz, List.length_cons]
        repeat' split
        all_goals first | rfl | (exfalso; omega)
theorem sz_small {d : Nat} {r : List Nat} (h : d ≤ 246) : sz (d :: r) = (1 + d, 1, 0) := by
  match r with
  | [] => simp [sz, h]
  | [_] => simp [sz, h]
  | _ :: _ :: _ => simp [sz, h]
theorem dgp_append {d x : Nat} {r ys : List Nat} : dgp d (x :: r ++ ys) = dgp d (x :: r) := rfl
/-- What the head tells of bytes that are no head yet, or wrong, or a head. -/
inductive Hd : List Nat → Nat × Nat × Nat → Prop
  | nil : Hd [] (1, 0, 0)
  | small {d : Nat} {r : List Nat} : d ≤ 246 → Hd (d :: r) (1 + d, 1, 0)
  | high {d : Nat} {r : List Nat} : 248 < d → Hd (d :: r) (0, 0, 31)
  | a0 : Hd [247] (249, 0, 0)
  | a1 {x : Nat} {r : List Nat} : 247 ≤ x → Hd (247 :: x :: r) (2 + x, 2, 0)
  | a2 {x : Nat} {r : List Nat} : x < 247 → Hd (247 :: x :: r) (0, 0, 31)
  | b0 : Hd [248] (259, 0, 0)
  | b1 {x : Nat} : 1 ≤ x → x ≤ 64 → Hd [248, x] (3 + 256 * x, 0, 0)
  | b2 {x : Nat} {r : List Nat} : x < 1 ∨ 64 < x → Hd (248 :: x :: r) (0, 0, 31)
  | b3 {x y : Nat} {r : List Nat} : 1 ≤ x → 256 * x + y ≤ 16384 → Hd (248 :: x :: y :: r) (3 + (256 * x + y), 3, 0)
  | b4 {x y : Nat} {r : List Nat} : 1 ≤ x → x ≤ 64 → 16384 < 256 * x + y → Hd (248 :: x :: y :: r) (0, 0, 31)
theorem hd_of (xs : List Nat) : Hd xs (sz xs) := by
  match xs with
  | [] => exact .nil
  | d :: r =>
    by_cases h1 : d ≤ 246
    · rw [sz_small h1]; exact .small h1
    · rw [sz_d (by omega)]
      by_cases h2 : 248 < d
      · rw [if_pos h2]; exact .high h2
      · rw [if_neg h2]
        rcases (by omega : d = 247 ∨ d = 248) with rfl | rfl
        · rw [if_pos rfl]
          match r with
          | [] => exact .a0
          | x :: r =>
            have hp : dgp 247 (x :: r) = x := rfl
            rw [hp, if_pos (show 1 ≤ (x :: r).length by simp)]
            by_cases h3 : x < 247
            · rw [if_pos h3]; exact .a2 h3
            · rw [if_neg h3]; exact .a1 (by omega)
        · rw [if_neg (by omega)]
          match r with
          | [] => exact .b0
          | [x] =>
            have hp : dgp 248 [x] = x := rfl
            have hq : dgq [x] = 0 := rfl
            rw [hp, hq]
            by_cases h3 : x < 1 ∨ 16384 < 256 * x + 0
            · rw [if_pos h3]; exact .b2 (by omega)
            · rw [if_neg h3]; exact .b1 (by omega) (by omega)
          | x :: y :: r =>
            have hp : dgp 248 (x :: y :: r) = x := rfl
            have hq : dgq (x :: y :: r) = y := rfl
            rw [hp, hq, if_pos (show 2 ≤ (x :: y :: r).length by simp)]
            by_cases h3 : x < 1 ∨ 64 < x
            · rw [if_pos (by omega)]; exact .b2 h3
            · by_cases h4 : 16384 < 256 * x + y
              · rw [if_pos (by omega)]; exact .b4 (by omega) (by omega) h4
              · rw [if_neg (by omega)]; exact .b3 (by omega) (by omega)
theorem hd_sz {xs : List Nat} {t : Nat × Nat × Nat} (h : Hd xs t) : sz xs = t := by
  have h2 := hd_of xs
  generalize sz xs = u at h2
  cases h <;> cases h2 <;> first | rfl | (exfalso; omega)
theorem sz_err (xs : List Nat) : (sz xs).2.2 = 0 ∨ ((sz xs).2.2 = 31 ∧ (sz xs).1 = 0 ∧ (sz xs).2.1 = 0) := by
  have h := hd_of xs
  generalize sz xs = u at h
  cases h <;> simp
theorem sz_le {xs : List Nat} (hx : ∀ x ∈ xs, x < 256) : (sz xs).1 ≤ 16387 := by
  have h2 := hd_of xs
  generalize sz xs = u at h2
  cases h2 <;> simp at hx ⊢ <;> omega
theorem sz_pos {xs : List Nat} (h : (sz xs).2.2 = 0) : 1 ≤ (sz xs).1 ∧ (sz xs).2.1 ≤ xs.length ∧ (sz xs).2.1 ≤ (sz xs).1 ∧ ((sz xs).2.1 = 0 → xs.length < (sz xs).1 ∧ xs.length ≤ 2) := by
  have h2 := hd_of xs
  generalize sz xs = u at h2 h
  cases h2 <;> simp at h ⊢ <;> omega
theorem sz_app_wrong {xs : List Nat} (ys : List Nat) (h : (sz xs).2.2 ≠ 0) : sz (xs ++ ys) = (0, 0, 31) := by
  have h2 := hd_of xs
  generalize sz xs = u at h2 h
  refine hd_sz ?_
  cases h2 <;> try (exact absurd rfl h)
  · exact .high (by assumption)
  · exact .a2 (by assumption)
  · exact .b2 (by assumption)
  · exact .b4 (by assumption) (by assumption) (by assumption)
theorem sz_app_whole {xs : List Nat} (ys : List Nat) (h : (sz xs).2.1 ≠ 0) : sz (xs ++ ys) = sz xs := by
  have h2 := hd_of xs
  generalize sz xs = u at h2 h
  refine hd_sz ?_
  cases h2 <;> try (exact absurd rfl h)
  · exact .small (by assumption)
  · exact .a1 (by assumption)
  · exact .b3 (by assumption) (by assumption)
/-- What a beginning needs at least. -/
theorem sz_app_le {xs ys : List Nat} (h : (sz (xs ++ ys)).2.2 = 0) : (sz xs).2.2 = 0 ∧ (sz xs).1 ≤ (sz (xs ++ ys)).1 := by
  have h0 : (sz xs).2.2 = 0 := by
    rcases sz_err xs with h1 | h1
    · exact h1
    · rw [sz_app_wrong ys (by omega)] at h; cases h
  refine ⟨h0, ?_⟩
  by_cases h1 : (sz xs).2.1 = 0
  · have h2 := hd_of xs
    generalize sz xs = u at h2 h0 h1
    cases h2 with
    | nil => exact (sz_pos h).1
    | small => simp at h1
    | high => cases h0
    | a1 => simp at h1
    | a2 => cases h0
    | b2 => cases h0
    | b3 => simp at h1
    | b4 => cases h0
    | a0 =>
      have h3 := hd_of ([247] ++ ys)
      generalize sz ([247] ++ ys) = v at h3 h
      cases h3 <;> simp at h ⊢ <;> omega
    | b0 =>
      have h3 := hd_of ([248] ++ ys)
      generalize sz ([248] ++ ys) = v at h3 h
      cases h3 <;> simp at h ⊢ <;> omega
    | b1 h4 h5 =>
      rename_i x
      have h3 := hd_of ([248, x] ++ ys)
      generalize sz ([248, x] ++ ys) = v at h3 h
      cases h3 <;> simp at h ⊢ <;> omega
  · rw [sz_app_whole ys h1]; exact Nat.le_refl _
theorem rdF_err (xs : List Nat) : (rdF xs).2.2 = 0 ∨ (rdF xs).2.2 = 30 ∨ (rdF xs).2.2 = 31 := by
  unfold rdF
  rcases sz_err xs with h | ⟨h, _, _⟩
  · rw [if_pos h]; split
    · exact .inr (.inl rfl)
    · exact .inl rfl
  · rw [if_neg (by omega)]; exact .inr (.inr h)
theorem rdF_zero {xs : List Nat} (h : (rdF xs).2.2 ≠ 0) : (rdF xs).1 = [] ∧ (rdF xs).2.1 = 0 := by
  unfold rdF at h ⊢
  split at h
  · next h0 =>
    rw [if_pos h0]
    split at h
    · next h1 => rw [if_pos h1]; exact ⟨rfl, rfl⟩
    · exact absurd rfl h
  · next h0 => rw [if_neg h0]; exact ⟨rfl, rfl⟩
theorem rdF_ok {xs : List Nat} (h : (rdF xs).2.2 = 0) : (sz xs).2.2 = 0 ∧ (sz xs).2.1 ≠ 0 ∧ (sz xs).1 ≤ xs.length ∧ rdF xs = ((xs.take (sz xs).1).drop (sz xs).2.1, (sz xs).1, 0) := by
  unfold rdF at h ⊢
  split at h
  · next h0 =>
    rw [if_pos h0]
    split at h
    · cases h
    · next h1 => rw [if_neg h1]; exact ⟨h0, fun h2 => h1 (.inl h2), by omega, rfl⟩
  · next h0 => exact absurd h h0
theorem rdF_n {xs : List Nat} (h : (rdF xs).2.2 = 0) : 1 ≤ (rdF xs).2.1 ∧ (rdF xs).2.1 ≤ xs.length ∧ (rdF xs).1.length < (rdF xs).2.1 := by
  obtain ⟨h0, h1, h2, h3⟩ := rdF_ok h
  have := sz_pos h0
  rw [h3]
  simp only [List.length_drop, List.length_take]
  omega
theorem rdF_mem {xs : List Nat} (hx : ∀ x ∈ xs, x < 256) : ∀ x ∈ (rdF xs).1, x < 256 := by
  by_cases h : (rdF xs).2.2 = 0
  · obtain ⟨h0, h1, h2, h3⟩ := rdF_ok h
    rw [h3]
    exact fun x hm => hx x (List.mem_of_mem_take (List.mem_of_mem_drop hm))
  · rw [(rdF_zero h).1]; simp
theorem rdF_app {xs : List Nat} (ys : List Nat) (h : (rdF xs).2.2 = 0) : rdF (xs ++ ys) = rdF xs := by
  obtain ⟨h0, h1, h2, h3⟩ := rdF_ok h
  rw [h3]
  unfold rdF
  rw [sz_app_whole ys h1, if_pos h0, if_neg (by rw [List.length_append]; omega), List.take_append_of_le_length h2]
theorem rdF_app_wrong {xs : List Nat} (ys : List Nat) (h : (rdF xs).2.2 = 31) : rdF (xs ++ ys) = ([], 0, 31) := by
  have h0 : (sz xs).2.2 ≠ 0 := by
    intro h0
    unfold rdF at h
    rw [if_pos h0] at h
    split at h <;> cases h
  unfold rdF
  rw [sz_app_wrong ys h0, if_neg (by simp)]
theorem rdF_nil : rdF [] = ([], 0, 30) := rfl
/-- A beginning is short. -/
theorem rdF_short {xs : List Nat} (h : (rdF xs).2.2 = 30) : (sz xs).2.2 = 0 ∧ xs.length < (sz xs).1 ∧ ndF xs = ((sz xs).1 - xs.length, 0) := by
  unfold rdF at h
  split at h
  · next h0 =>
    have := sz_pos h0
    unfold ndF
    rw [if_pos h0]
    split at h
    · next h1 => exact ⟨h0, by omega, rfl⟩
    · cases h
  · next h0 =>
    have h : (sz xs).2.2 = 30 := h
    rcases sz_err xs with h1 | h1 <;> omega
/-- Bytes as frames: the bodies, and the rest. -/
def splF (b : List Nat) : List (List Nat) × List Nat :=
  if _h : (rdF b).2.2 = 0 then ((rdF b).1 :: (splF (b.drop (rdF b).2.1)).1, (splF (b.drop (rdF b).2.1)).2) else ([], b)
termination_by b.length
decreasing_by all_goals (have := rdF_n ‹_›; rw [List.length_drop]; omega)
theorem splF_stop {b : List Nat} (h : (rdF b).2.2 ≠ 0) : splF b = ([], b) := by rw [splF, dif_neg h]
theorem splF_step {b : List Nat} (h : (rdF b).2.2 = 0) : splF b = ((rdF b).1 :: (splF (b.drop (rdF b).2.1)).1, (splF (b.drop (rdF b).2.1)).2) := by rw [splF, dif_pos h]
theorem splF_ind {M : List Nat → Prop} (stop : ∀ b, (rdF b).2.2 ≠ 0 → M b) (step : ∀ b, (rdF b).2.2 = 0 → M (b.drop (rdF b).2.1) → M b) : ∀ (n : Nat) (b : List Nat), b.length ≤ n → M b
  | 0, b, hb => stop b (fun h => by have := rdF_n h; omega)
  | n + 1, b, hb => by
    by_cases h : (rdF b).2.2 = 0
    · exact step b h (splF_ind stop step n _ (by have := rdF_n h; rw [List.length_drop]; omega))
    · exact stop b h
theorem splF_rest (b : List Nat) : (rdF (splF b).2).2.2 ≠ 0 :=
  splF_ind (M := fun b => (rdF (splF b).2).2.2 ≠ 0) (fun b h => by rw [splF_stop h]; exact h) (fun b h ih => by rw [splF_step h]; exact ih) b.length b (Nat.le_refl _)
theorem splF_len (b : List Nat) : (splF b).2.length ≤ b.length :=
  splF_ind (M := fun b => (splF b).2.length ≤ b.length) (fun b h => by rw [splF_stop h]; exact Nat.le_refl _) (fun b h ih => by rw [splF_step h]; simp only; rw [List.length_drop] at ih; omega) b.length b (Nat.le_refl _)
theorem splF_drop (b : List Nat) : (splF b).2 = b.drop (b.length - (splF b).2.length) :=
  splF_ind (M := fun b => (splF b).2 = b.drop (b.length - (splF b).2.length)) (fun b h => by rw [splF_stop h]; simp) (fun b h ih => by
    rw [splF_step h]
    simp only
    have h1 := rdF_n h
    have h2 := splF_len (b.drop (rdF b).2.1)
    rw [List.length_drop] at h2
    conv => lhs; rw [ih]
    rw [List.drop_drop, List.length_drop]
    congr 1
    omega) b.length b (Nat.le_refl _)
theorem splF_bodies (b : List Nat) : (splF b).1.length + (splF b).2.length ≤ b.length :=
  splF_ind (M := fun b => (splF b).1.length + (splF b).2.length ≤ b.length) (fun b h => by rw [splF_stop h]; simp) (fun b h ih => by
    rw [splF_step h]
    have h1 := rdF_n h
    rw [List.length_drop] at ih
    simp only [List.length_cons]
    omega) b.length b (Nat.le_refl _)
theorem splF_mem {b : List Nat} (hb : ∀ x ∈ b, x < 256) : (∀ x ∈ (splF b).2, x < 256) ∧ (∀ l ∈ (splF b).1, (∀ x ∈ l, x < 256) ∧ l.length ≤ b.length) := by
  refine splF_ind (M := fun b => (∀ x ∈ b, x < 256) → (∀ x ∈ (splF b).2, x < 256) ∧ (∀ l ∈ (splF b).1, (∀ x ∈ l, x < 256) ∧ l.length ≤ b.length)) (fun b h hb => by rw [splF_stop h]; exact ⟨hb, by simp⟩) (fun b h ih hb => ?_) b.length b (Nat.le_refl _) hb
  rw [splF_step h]
  obtain ⟨h1, h2⟩ := ih (fun x hx => hb x (List.mem_of_mem_drop hx))
  refine ⟨h1, fun l hl => ?_⟩
  have h3 := rdF_n h
  rcases List.mem_cons.1 hl with rfl | hl
  · exact ⟨rdF_mem hb, by omega⟩
  · obtain ⟨h4, h5⟩ := h2 l hl
    rw [List.length_drop] at h5
    exact ⟨h4, by omega⟩
theorem splF_app (a c : List Nat) : splF (a ++ c) = ((splF a).1 ++ (splF ((splF a).2 ++ c)).1, (splF ((splF a).2 ++ c)).2) :=
  splF_ind (M := fun a => splF (a ++ c) = ((splF a).1 ++ (splF ((splF a).2 ++ c)).1, (splF ((splF a).2 ++ c)).2)) (fun b h => by rw [splF_stop h]; rfl) (fun b h ih => by
    rw [splF_step h]
    have h1 := rdF_app c h
    rw [splF_step (by rw [h1]; exact h), h1]
    have h2 := rdF_n h
    rw [List.drop_append_of_le_length (by omega), ih]
    rfl) a.length a (Nat.le_refl _)
/-- The error of a rest. -/
def erF (r : List Nat) : Nat := if r = [] then 0 else (rdF r).2.2
theorem erF_cases (b : List Nat) : (erF (splF b).2 = 0 ∧ (splF b).2 = []) ∨ (erF (splF b).2 = 30 ∧ (splF b).2 ≠ [] ∧ (rdF (splF b).2).2.2 = 30) ∨ (erF (splF b).2 = 31 ∧ (splF b).2 ≠ [] ∧ (rdF (splF b).2).2.2 = 31) := by
  unfold erF
  by_cases h : (splF b).2 = []
  · rw [if_pos h]; exact .inl ⟨rfl, h⟩
  · rw [if_neg h]
    have h1 := splF_rest b
    rcases rdF_err (splF b).2 with h2 | h2 | h2
    · exact absurd h2 h1
    · exact .inr (.inl ⟨h2, h, h2⟩)
    · exact .inr (.inr ⟨h2, h, h2⟩)
/-- Behind what is wrong nothing is whole. -/
theorem splF_wrong {a : List Nat} (c : List Nat) (h : erF (splF a).2 = 31) : splF (a ++ c) = ((splF a).1, (splF a).2 ++ c) ∧ erF ((splF a).2 ++ c) = 31 := by
  rcases erF_cases a with h1 | h1 | ⟨_, h1, h2⟩
  · omega
  · omega
  · have h3 := rdF_app_wrong c h2
    rw [splF_app, splF_stop (b := (splF a).2 ++ c) (by rw [h3]; simp)]
    refine ⟨by rw [List.append_nil], ?_⟩
    unfold erF
    rw [if_neg (by simp [h1]), h3]
/-- The form of a body's length. -/
def fmF (n : Nat) : List Nat := if n ≤ 246 then [n] else if n ≤ 255 then [247, n] else [248, n / 256, n % 256]
def frF (x : List Nat) : List Nat := fmF x.length ++ x
def wrF (x : List Nat) : List Nat × Nat := if 16384 < x.length then ([], 3) else (frF x, 0)
theorem fmF_len (n : Nat) : 1 ≤ (fmF n).length ∧ (fmF n).length ≤ 3 := by
  unfold fmF
  split
  · simp
  · split <;> simp
theorem frF_len (x : List Nat) : (frF x).length = (fmF x.length).length + x.length := by unfold frF; rw [List.length_append]
theorem sz_frF {n : Nat} (h : n ≤ 16384) (t : List Nat) : sz (fmF n ++ t) = ((fmF n).length + n, (fmF n).length, 0) := by
  unfold fmF
  by_cases h1 : n ≤ 246
  · rw [if_pos h1]; exact hd_sz (.small h1)
  · rw [if_neg h1]
    by_cases h2 : n ≤ 255
    · rw [if_pos h2]; exact hd_sz (.a1 (by omega))
    · rw [if_neg h2]
      have h3 : 256 * (n / 256) + n % 256 = n := by omega
      have := hd_sz (.b3 (x := n / 256) (y := n % 256) (r := t) (by omega) (by omega))
      rw [h3] at this
      exact this
theorem rdF_frF {x : List Nat} (h : x.length ≤ 16384) (t : List Nat) : rdF (frF x ++ t) = (x, (frF x).length, 0) := by
  have h1 := sz_frF h (x ++ t)
  have h2 := fmF_len x.length
  have h3 : frF x ++ t = fmF x.length ++ (x ++ t) := by unfold frF; rw [List.append_assoc]
  rw [h3]
  unfold rdF
  rw [h1]
  simp only [if_true]
  rw [if_neg (by simp only [List.length_append]; omega), frF_len]
  congr 1
  rw [← List.append_assoc, List.take_left' (by rw [List.length_append]), List.drop_left]
/-- Frames, one after the other. -/
def joF (xs : List (List Nat)) : List Nat := xs.flatMap frF
theorem joF_cons (x : List Nat) (xs : List (List Nat)) : joF (x :: xs) = frF x ++ joF xs := by simp [joF]
theorem joF_append (xs ys : List (List Nat)) : joF (xs ++ ys) = joF xs ++ joF ys := by simp [joF]
theorem joF_one (x : List Nat) : joF [x] = frF x := by simp [joF]
theorem splF_joF (t : List Nat) : ∀ {xs : List (List Nat)}, (∀ x ∈ xs, x.length ≤ 16384) → splF (joF xs ++ t) = (xs ++ (splF t).1, (splF t).2)
  | [], _ => by simp [joF]
  | x :: xs, h => by
    have h1 := rdF_frF (h x (by simp)) (joF xs ++ t)
    rw [joF_cons, List.append_assoc, splF_step (by rw [h1]), h1]
    simp only
    rw [List.drop_left, splF_joF t (fun y hy => h y (by simp [hy]))]
    rfl
theorem splF_nil : splF [] = ([], []) := splF_stop (by rw [rdF_nil]; simp)
end Go.Fx
