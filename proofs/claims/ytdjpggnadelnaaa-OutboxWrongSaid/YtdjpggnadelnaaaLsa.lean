/- Lsa: a new list of new lists gets one list more. -/
import Derived.Test.YtdjpggnadelnaaaLse
namespace Go.Fx
open Go.RowKit
section
variable {B : Nat} {w w1 w2 X : World} {A A2 : Option Addr} {n c c2 : Nat} {ss : List Sl} {ls : List (List Ev)} {s : Sl} {l : List Ev}
/-- One new list more. -/
theorem Lse.app (h : Lse B w A n c ss ls) (hs : RoomS 5 w1 s.A s.n s.c (l.flatMap evC)) (hn : ∀ k, foot s.A s.c k → w.heap.size ≤ k) (hB : B ≤ w.heap.size) (e1 : Ext w w1) (e2 : Ext w1 X) (r : Room w2 A2 (n + 1) c2 (ss.map slv ++ [slv s])) (ch : Chg (foot A c) X w2) (ft : ∀ k, foot A2 c2 k → foot A c k ∨ X.heap.size ≤ k) :
    Lse B w2 A2 (n + 1) c2 (ss ++ [s]) (ls ++ [l]) := by
  have s1 := e1.size
  have s2 := e2.size
  have hold : ∀ k, foots ss k → k < w.heap.size := fun k hk => h.lt (.inr hk)
  have hA : ∀ k, foot A c k → k < w.heap.size := fun k hk => h.lt (.inl hk)
  have hsl : ∀ k, foot s.A s.c k → k < w1.heap.size := fun k hk => hs.lt hk
  have hA2 : ∀ k, foot A2 c2 k → k < w1.heap.size → foot A c k := fun k hk hlt => (ft k hk).elim id (fun h => by omega)
  have split : ∀ {i : Nat} {t : Sl}, (ss ++ [s])[i]? = some t → (i < ss.length ∧ ss[i]? = some t) ∨ (i = ss.length ∧ t = s) := by
    intro i t ht
    by_cases hi : i < ss.length
    · rw [List.getElem?_append_left hi] at ht; exact .inl ⟨hi, ht⟩
    · rw [List.getElem?_append_right (by omega)] at ht
      obtain ⟨hj, e⟩ := List.getElem?_eq_some_iff.1 ht
      simp at hj
      have h0 : i = ss.length := by omega
      subst h0
      simp at e
      exact .inr ⟨rfl, e.symm⟩
  refine ⟨by rw [List.map_append]; exact r, by simp [h.len], fun i t ht => ?_, fun k hk => ?_, fun k hk hf => ?_, fun i j t u ht hu hne k hk hk' => ?_⟩
  · rcases split ht with ⟨hi, ht⟩ | ⟨rfl, rfl⟩
    · obtain ⟨l', h1, h2⟩ := h.at_ i t ht
      refine ⟨l', by rw [List.getElem?_append_left (by rw [← h.len]; exact hi)]; exact h1, (h2.ext (e1.t e2)).chg ch (fun k hk => h.outer k ⟨t, List.mem_of_getElem? ht, hk⟩)⟩
    · exact ⟨l, by rw [h.len]; simp, (hs.ext e2).chg ch (fun k hk hf => by have := hn k hk; have := hA k hf; omega)⟩
  · rcases hk with hk | ⟨t, ht, hk⟩
    · exact (ft k hk).elim (fun h1 => h.new k (.inl h1)) (fun h1 => by omega)
    · rcases List.mem_append.1 ht with ht | ht
      · exact h.new k (.inr ⟨t, ht, hk⟩)
      · simp at ht; subst ht; exact Nat.le_trans hB (hn k hk)
  · obtain ⟨t, ht, hk⟩ := hk
    rcases List.mem_append.1 ht with ht | ht
    · have h1 := hold k ⟨t, ht, hk⟩
      exact h.outer k ⟨t, ht, hk⟩ (hA2 k hf (by omega))
    · simp at ht; subst ht
      have h1 := hA2 k hf (hsl k hk)
      have := hn k hk; have := hA k h1; omega
  · rcases split ht with ⟨hi, ht1⟩ | ⟨rfl, rfl⟩
    · rcases split hu with ⟨hj, hu1⟩ | ⟨rfl, rfl⟩
      · exact h.apart i j t u ht1 hu1 hne k hk hk'
      · have h1 := hold k ⟨t, List.mem_of_getElem? ht1, hk⟩; have := hn k hk'; omega
    · rcases split hu with ⟨hj, hu1⟩ | ⟨rfl, rfl⟩
      · have h1 := hold k ⟨u, List.mem_of_getElem? hu1, hk'⟩; have := hn k hk; omega
      · exact hne rfl
end
end Go.Fx
