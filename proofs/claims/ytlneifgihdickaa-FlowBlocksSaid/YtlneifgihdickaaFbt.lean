/- Fbt: FlowBlocks: what blocks are, in plain Lean. No program in sight. -/
import Derived.Test.YtlneifgihdickaaFbw
namespace Go.Fx
open Go.RowKit Go.Proofs Go.Proofs.Ytlneifgihdickaa
/-- Blocks one after the other, from a to b: each begins at a leader, and has no other one. -/
inductive ChB (L : Nat → Bool) : Nat → List (Nat × Nat) → Nat → Prop
  | nil (a : Nat) : ChB L a [] a
  | cons {a c b : Nat} {l : List (Nat × Nat)} : a < c → L a = true → (∀ i, a < i → i < c → L i = false) → ChB L c l b → ChB L a ((a, c) :: l) b
theorem ChB.snoc {L : Nat → Bool} {a b : Nat} {l : List (Nat × Nat)} (h : ChB L a l b) (hb : L b = true) : ChB L a (l ++ [(b, b + 1)]) (b + 1) := by
  induction h with
  | nil a => exact .cons (Nat.lt_succ_self _) hb (fun i h1 h2 => by omega) (.nil _)
  | cons h1 h2 h3 _ ih => exact .cons h1 h2 h3 (ih hb)
theorem ChB.wide {L : Nat → Bool} : ∀ {l : List (Nat × Nat)} {a b : Nat} {y : Nat × Nat}, ChB L a (l ++ [y]) b → L b = false → ChB L a (l ++ [(y.1, b + 1)]) (b + 1)
  | [], a, b, y, h, hb => by
    cases h with
    | cons h1 h2 h3 h4 =>
      cases h4
      exact .cons (by omega) h2 (fun i q1 q2 => by
        by_cases hi : i = b
        · rw [hi]; exact hb
        · exact h3 i q1 (by omega)) (.nil _)
  | x :: l, a, b, y, h, hb => by
    cases h with
    | cons h1 h2 h3 h4 => exact .cons h1 h2 h3 (ChB.wide h4 hb)
theorem blk_chain {L : Nat → Bool} (h0 : L 0 = true) : ∀ m, ChB L 0 (blkN L m) m
  | 0 => .nil 0
  | m + 1 => by
    have ih := blk_chain h0 m
    rw [blkN]
    unfold blkA
    by_cases hL : L m = true
    · rw [if_pos hL, setTo_snoc]
      exact ih.snoc hL
    · rw [if_neg hL]
      have hm : m ≠ 0 := fun e => hL (by rw [e]; exact h0)
      obtain ⟨m', rfl⟩ : ∃ m', m = m' + 1 := ⟨m - 1, by omega⟩
      have hp := blkN_pos h0 m'
      obtain ⟨l, y, hly⟩ : ∃ l y, blkN L (m' + 1) = l ++ [y] := ⟨_, _, (List.dropLast_concat_getLast (List.ne_nil_of_length_pos hp)).symm⟩
      rw [hly, setTo_snoc]
      rw [hly] at ih
      exact ih.wide (by simpa using hL)
/-- What is known of one of them. -/
theorem ChB.at_ {L : Nat → Bool} : ∀ {l : List (Nat × Nat)} {a b k : Nat} {x : Nat × Nat}, ChB L a l b → l[k]? = some x → (k = 0 → x.1 = a) ∧ x.1 < x.2 ∧ x.2 ≤ b ∧ (∀ i, x.1 < i → i < x.2 → L i = false) ∧ ((k + 1 = l.length ∧ x.2 = b) ∨ (x.2 < b ∧ L x.2 = true ∧ ∃ y, l[k + 1]? = some y ∧ y.1 = x.2))
  | [], _, _, _, _, _, hx => by cases hx
  | y :: l, a, b, k, x, h, hx => by
    cases h with
    | @cons _ c _ _ h1 h2 h3 h4 =>
      have hle : ∀ {l : List (Nat × Nat)} {a b : Nat}, ChB L a l b → a ≤ b := fun h => by
        induction h with
        | nil _ => exact Nat.le_refl _
        | cons q _ _ _ ih => omega
      cases k with
      | zero =>
        obtain rfl := Option.some.inj hx
        refine ⟨fun _ => rfl, h1, hle h4, h3, ?_⟩
        cases h4 with
        | nil _ => exact .inl ⟨rfl, rfl⟩
        | @cons _ c' _ l' q1 q2 q3 q4 => exact .inr ⟨Nat.lt_of_lt_of_le q1 (hle q4), q2, _, rfl, rfl⟩
      | succ k =>
        have hx' : l[k]? = some x := hx
        obtain ⟨_, r1, r2, r3, r4⟩ := ChB.at_ h4 hx'
        refine ⟨fun e => by omega, r1, r2, r3, ?_⟩
        rcases r4 with ⟨r4, r5⟩ | ⟨r4, r5, z, r6, r7⟩
        · exact .inl ⟨by rw [List.length_cons, r4], r5⟩
        · exact .inr ⟨r4, r5, z, r6, r7⟩
theorem setTo_fst {l : List (Nat × Nat)} {v q : Nat} {x : Nat × Nat} (h : l[q]? = some x) : ∃ y, (setTo l v)[q]? = some y ∧ y.1 = x.1 := by
  have hq := (List.getElem?_eq_some_iff.1 h).1
  unfold setTo
  by_cases e : l.length - 1 = q
  · subst e
    exact ⟨_, List.getElem?_set_self hq, by rw [h]; rfl⟩
  · exact ⟨x, by rw [List.getElem?_set_ne e]; exact h, rfl⟩
theorem blkA_get {L : Nat → Bool} {m q : Nat} {l : List (Nat × Nat)} {x : Nat × Nat} (h : l[q]? = some x) : (blkA L m l)[q]? = some x := by
  unfold blkA
  split
  · rw [List.getElem?_append_left (List.getElem?_eq_some_iff.1 h).1]; exact h
  · exact h
theorem blk_keep {L : Nat → Bool} {q m : Nat} {x : Nat × Nat} (h : (blkN L m)[q]? = some x) : ∀ d, ∃ y, (blkN L (m + d))[q]? = some y ∧ y.1 = x.1
  | 0 => ⟨x, h, rfl⟩
  | d + 1 => by
    obtain ⟨y, h1, h2⟩ := blk_keep h d
    obtain ⟨z, h3, h4⟩ := setTo_fst (v := m + d + 1) (blkA_get (L := L) (m := m + d) h1)
    exact ⟨z, h3, h4.trans h2⟩
/-- A leader's block begins there. -/
theorem num_at {L : Nat → Bool} {j n : Nat} (hj : L j = true) (hn : j < n) : ∃ y, (blkN L n)[numN L j]? = some y ∧ y.1 = j := by
  have e : blkN L (j + 1) = blkN L j ++ [(j, j + 1)] := by rw [blkN]; unfold blkA; rw [if_pos hj, setTo_snoc]
  have e2 : numN L j = (blkN L j).length := by unfold numN; rw [e]; simp
  have h1 : (blkN L (j + 1))[numN L j]? = some (j, j + 1) := by rw [e, e2, List.getElem?_append_right (Nat.le_refl _), Nat.sub_self]; rfl
  obtain ⟨y, h2, h3⟩ := blk_keep h1 (n - (j + 1))
  rw [show j + 1 + (n - (j + 1)) = n by omega] at h2
  exact ⟨y, h2, h3⟩
theorem led_keep {p : List Ins} {k m : Nat} (h : ledF p m k = true) : ∀ d, ledF p (m + d) k = true
  | 0 => h
  | d + 1 => by
    show ledF p (m + d + 1) k = true
    unfold ledF
    rw [led_keep h d]
    rfl
theorem led_of {p : List Ins} {i k : Nat} {x : Ins} (hx : p[i]? = some x) (h : ledS p.length i x k = true) : ledF p p.length k = true := by
  have hi := (List.getElem?_eq_some_iff.1 hx).1
  have h1 : ledF p (i + 1) k = true := by rw [ledF_succ hx, h, Bool.or_true]
  have h2 := led_keep h1 (p.length - (i + 1))
  rwa [show i + 1 + (p.length - (i + 1)) = p.length by omega] at h2
/-- Within a block control goes on, and comes from nowhere else. -/
theorem blk_mid {p : List Ins} (_hp : RightP p) {i : Nat} (hi : i + 1 < p.length) (hL : ledF p p.length (i + 1) = false) : edF p i = [i + 1] ∧ befN p p.length (i + 1) = [i] := by
  obtain ⟨x, hx⟩ : ∃ x, p[i]? = some x := ⟨_, List.getElem?_eq_getElem (by omega)⟩
  have key : ∀ u y, p[u]? = some y → ledS p.length u y (i + 1) = false := fun u y hy => by
    cases h : ledS p.length u y (i + 1) with
    | false => rfl
    | true => rw [led_of hy h] at hL; cases hL
  have h1 := key i x hx
  unfold ledS at h1
  rw [Bool.or_eq_false_iff] at h1
  have h2 := h1.2
  rw [decide_eq_true hi, decide_eq_true rfl] at h2
  simp only [Bool.and_true, Bool.or_eq_false_iff, Bool.not_eq_false'] at h2
  have he : edF p i = [i + 1] := by rw [edF_at hx]; exact edX_ft h2.1 h2.2
  refine ⟨he, ?_⟩
  have hm : ∀ u, u ∈ befN p p.length (i + 1) ↔ u = i := fun u => by
    rw [befN_mem]
    constructor
    · rintro ⟨_, hu⟩
      obtain ⟨y, hy, h3⟩ := edF_mem.1 hu
      rcases h3 with ⟨h3, h4⟩ | ⟨_, h4⟩
      · have h5 := key u y hy
        unfold ledS at h5
        rw [h3, h4] at h5
        simp at h5
      · omega
    · rintro rfl
      exact ⟨by omega, by rw [he]; simp⟩
  have hs := befN_srt p p.length (i + 1)
  generalize befN p p.length (i + 1) = l at hm hs
  match l, hm, hs with
  | [], hm, _ => exact absurd ((hm i).2 rfl) (by simp)
  | [a], hm, _ => rw [(hm a).1 (by simp)]
  | a :: b :: l, hm, hs =>
    have h3 := (hm a).1 (by simp)
    have h4 := (hm b).1 (by simp)
    have h5 : a < b := (List.pairwise_cons.1 hs).1 b (by simp)
    omega
/-- From the last instruction of a block control goes to the first ones of blocks. -/
theorem blk_next {p : List Ins} (hp : RightP p) {i j : Nat} (_hi : i < p.length) (hL : i + 1 = p.length ∨ ledF p p.length (i + 1) = true) (hj : j ∈ edF p i) : ledF p p.length j = true ∧ j < p.length := by
  have hlt := edF_lt hp hj
  refine ⟨?_, hlt⟩
  obtain ⟨x, hx, h1⟩ := edF_mem.1 hj
  rcases h1 with ⟨h1, h2⟩ | ⟨_, h2⟩
  · refine led_of hx ?_
    unfold ledS
    rw [h1, h2]
    simp
  · rcases hL with h3 | h3
    · omega
    · rw [h2]; exact h3
end Go.Fx
