/- Fdp: what dominates, found by cutting tables down, in plain Lean. No program in sight. -/
import Derived.Test.YtlneifgihdickaaFlp
namespace Go.Fx
/-- How many of 256 are true. -/
def cnS (s : Nat → Bool) : Nat := ((List.range 256).filter s).length
def totT : List (Nat → Bool) → Nat
  | [] => 0
  | s :: l => cnS s + totT l
theorem totT_set : ∀ {l : List (Nat → Bool)} {i : Nat} {s s' : Nat → Bool}, l[i]? = some s → totT (l.set i s') + cnS s = totT l + cnS s'
  | [], _, _, _, h => by simp at h
  | a :: l, 0, s, s', h => by
    simp at h
    subst h
    simp only [List.set_cons_zero, totT]
    omega
  | a :: l, i + 1, s, s', h => by
    have ih := totT_set (l := l) (i := i) (s' := s') (by simpa using h)
    simp only [List.set_cons_succ, totT]
    omega
theorem cnS_lt {s s' : Nat → Bool} {k : Nat} (hk : k < 256) (h : ∀ j, s' j = true → s j = true) (h1 : s' k = false) (h2 : s k = true) : cnS s' < cnS s :=
  flt_lt (i := k) (List.mem_range.2 hk) h1 h2 (fun x _ => h x)
/-- The table so far. -/
structure TabJ (E : Nat → Nat → Prop) (n : Nat) (tab : List (Nat → Bool)) : Prop where
  len : tab.length = n
  sup : ∀ {i : Nat} {s : Nat → Bool}, tab[i]? = some s → Rch E i → ∀ k, k < n → Dom E k i → s k = true
  zero : ∀ {s : Nat → Bool}, tab[0]? = some s → ∀ k, s k = decide (k = 0)
  hi : ∀ {i : Nat} {s : Nat → Bool}, tab[i]? = some s → ∀ k, n ≤ k → s k = false
/-- What is left of an instruction's row behind m of those before it. -/
def ownF (tab : List (Nat → Bool)) (rch : List Bool) (i : Nat) (s : Nat → Bool) (L : List Nat) (k : Nat) : Bool :=
  s k && L.all (fun j => !(rch[j]?.getD false) || ((tab[j]?.getD (fun _ => false)) k || decide (k = i)))
theorem ownF_nil {tab : List (Nat → Bool)} {rch : List Bool} {i : Nat} {s : Nat → Bool} : ownF tab rch i s [] = s := by
  funext k; simp [ownF]
theorem ownF_snoc {tab : List (Nat → Bool)} {rch : List Bool} {i j : Nat} {s : Nat → Bool} {L : List Nat} (k : Nat) : ownF tab rch i s (L ++ [j]) k = (ownF tab rch i s L k && (!(rch[j]?.getD false) || ((tab[j]?.getD (fun _ => false)) k || decide (k = i)))) := by
  unfold ownF
  rw [List.all_append, ← Bool.and_assoc]
  simp
section
variable {E : Nat → Nat → Prop} {n : Nat} {tab : List (Nat → Bool)} {rch : List Bool} {i : Nat} {s : Nat → Bool} {L : List Nat}
theorem ownF_le {k : Nat} (h : ownF tab rch i s L k = true) : s k = true := by
  unfold ownF at h
  rw [Bool.and_eq_true] at h
  exact h.1
/-- The row is cut down. -/
theorem TabJ.cut (h : TabJ E n tab) (hs : tab[i]? = some s) (hi : i ≠ 0) (hrl : rch.length = n) (hr : ∀ j : Nat, j < n → (rch[j]? = some true ↔ Rch E j)) (hL : ∀ j ∈ L, E j i) : TabJ E n (tab.set i (ownF tab rch i s L)) := by
  have hil := (List.getElem?_eq_some_iff.1 hs).1
  refine ⟨by rw [List.length_set]; exact h.len, fun {v t} ht hv k hk hd => ?_, fun {t} ht k => ?_, fun {v t} ht k hk => ?_⟩
  · by_cases e : i = v
    · subst e
      rw [List.getElem?_set_self hil] at ht
      cases ht
      unfold ownF
      rw [Bool.and_eq_true, List.all_eq_true]
      refine ⟨h.sup hs hv k hk hd, fun j hj => ?_⟩
      by_cases hki : k = i
      · simp [hki]
      · cases hrj : rch[j]?.getD false with
        | false => rfl
        | true =>
          have hjn : j < n ∧ Rch E j := by
            cases hq : rch[j]? with
            | none => rw [hq] at hrj; cases hrj
            | some b =>
              rw [hq] at hrj
              have hb : b = true := hrj
              subst hb
              have hjn : j < n := by have h5 := (List.getElem?_eq_some_iff.1 hq).1; omega
              exact ⟨hjn, (hr j hjn).1 hq⟩
          have hdj : Dom E k j := ⟨hjn.2, fun hw => hd.2 (.step hw (hL j hj) (fun e => hki e.symm))⟩
          obtain ⟨t, ht⟩ : ∃ t, tab[j]? = some t := ⟨tab[j]'(by rw [h.len]; exact hjn.1), List.getElem?_eq_getElem _⟩
          have h3 := h.sup ht hjn.2 k hk hdj
          rw [ht]
          simp [h3]
    · rw [List.getElem?_set_ne e] at ht
      exact h.sup ht hv k hk hd
  · rw [List.getElem?_set_ne hi] at ht
    exact h.zero ht k
  · by_cases e : i = v
    · subst e
      rw [List.getElem?_set_self hil] at ht
      cases ht
      unfold ownF
      rw [h.hi hs k hk]
      rfl
    · rw [List.getElem?_set_ne e] at ht
      exact h.hi ht k hk
/-- Where nothing more is cut, the table tells what dominates. -/
theorem TabJ.done (h : TabJ E n tab) (hE : ∀ j, Rch E j → j < n) (hf : ∀ (i : Nat) (s : Nat → Bool), 1 ≤ i → Rch E i → tab[i]? = some s → ∀ k, s k = true → ∀ j, E j i → Rch E j → ∀ t, tab[j]? = some t → t k = true ∨ k = i) :
    ∀ {i : Nat} {s : Nat → Bool}, tab[i]? = some s → Rch E i → ∀ k, k < n → (s k = true ↔ Dom E k i) := by
  intro i s hs hi k hk
  refine ⟨fun h1 => ⟨hi, fun hw => ?_⟩, h.sup hs hi k hk⟩
  have key : ∀ v, Rwo E k v → ∀ t, tab[v]? = some t → t k = false := by
    intro v hv
    induction hv with
    | start h0 =>
      intro t ht
      rw [h.zero ht, decide_eq_false_iff_not]
      exact fun e => h0 e.symm
    | @step u v hu e hne ih =>
      intro t ht
      have hur : Rch E u := Rwo.rch hu
      have hvr : Rch E v := .step hur e trivial
      by_cases hv0 : v = 0
      · subst hv0
        rw [h.zero ht, decide_eq_false_iff_not]
        exact fun e => hne e.symm
      · cases hc : t k with
        | false => rfl
        | true =>
          obtain ⟨r, hr⟩ : ∃ r, tab[u]? = some r := ⟨tab[u]'(by rw [h.len]; exact hE u hur), List.getElem?_eq_getElem _⟩
          rcases hf v t (by omega) hvr ht k hc u e hur r hr with h2 | h2
          · rw [ih r hr] at h2; cases h2
          · exact absurd h2.symm hne
  rw [key i hw s hs] at h1
  cases h1
theorem cnS_cut {n : Nat} {s : Nat → Bool} (hn : n ≤ 256) (h : ∀ k, n ≤ k → s k = false) : cnS s = ((List.range n).filter s).length := by
  unfold cnS
  obtain ⟨d, hd⟩ : ∃ d, 256 = n + d := ⟨256 - n, by omega⟩
  rw [hd, List.range_add, List.filter_append, List.length_append]
  have h0 : (List.map (fun x => n + x) (List.range d)).filter s = [] := List.filter_eq_nil_iff.2 (fun x hx => by
    obtain ⟨y, _, rfl⟩ := List.mem_map.1 hx
    rw [h _ (by omega)]
    decide)
  rw [h0]
  rfl
end
end Go.Fx
