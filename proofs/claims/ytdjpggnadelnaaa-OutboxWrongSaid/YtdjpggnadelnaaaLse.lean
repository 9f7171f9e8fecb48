/- Lse: a new list of new lists of events, none of which shares memory with another. -/
import Derived.Test.YtdjpggnadelnaaaEls
import Derived.Laws.MakeOwn
import Derived.OwnWalk
namespace Go.Fx
open Go.RowKit
structure Lse (B : Nat) (w : World) (A : Option Addr) (n c : Nat) (ss : List Sl) (ls : List (List Ev)) : Prop where
  room : Room w A n c (ss.map slv)
  len : ss.length = ls.length
  at_ : ∀ (i : Nat) (s : Sl), ss[i]? = some s → ∃ l, ls[i]? = some l ∧ RoomS 5 w s.A s.n s.c (l.flatMap evC)
  new : ∀ k, (foot A c k ∨ foots ss k) → B ≤ k
  outer : ∀ k, foots ss k → ¬ foot A c k
  apart : ∀ (i j : Nat) (s t : Sl), ss[i]? = some s → ss[j]? = some t → i ≠ j → ∀ k, foot s.A s.c k → ¬ foot t.A t.c k
section
variable {T : Nat → Prop} {B : Nat} {w w' : World} {A : Option Addr} {n c : Nat} {ss : List Sl} {ls : List (List Ev)}
theorem Lse.nil : Lse B w none 0 0 [] [] := ⟨Room.nil, rfl, by simp, fun k hk => hk.elim (fun h => absurd h foot_none) (fun h => absurd h foots_nil), fun k hk => absurd hk foots_nil, by simp⟩
theorem Lse.lt (h : Lse B w A n c ss ls) {k : Nat} (hk : foot A c k ∨ foots ss k) : k < w.heap.size := by
  rcases hk with hk | ⟨s, hs, hk⟩
  · exact h.room.lt hk
  · obtain ⟨i, hi, rfl⟩ := List.getElem_of_mem hs
    obtain ⟨l, _, hr⟩ := h.at_ i _ (List.getElem?_eq_getElem hi)
    exact hr.lt hk
theorem Lse.chg (h : Lse B w A n c ss ls) (hc : Chg T w w') (hT : ∀ k, (foot A c k ∨ foots ss k) → ¬ T k) : Lse B w' A n c ss ls :=
  ⟨h.room.chg hc (fun k hk => hT k (.inl hk)), h.len, fun i s hs => by
    obtain ⟨l, h1, h2⟩ := h.at_ i s hs
    exact ⟨l, h1, h2.chg hc (fun k hk => hT k (.inr ⟨s, List.mem_of_getElem? hs, hk⟩))⟩, h.new, h.outer, h.apart⟩
theorem Lse.ext (h : Lse B w A n c ss ls) (e : Ext w w') : Lse B w' A n c ss ls := h.chg (T := fun _ => False) (Chg.ofExt e) (fun _ _ t => t)
theorem Lse.down {B' : Nat} (h : Lse B w A n c ss ls) (hb : B' ≤ B) : Lse B' w A n c ss ls := ⟨h.room, h.len, h.at_, fun k hk => Nat.le_trans hb (h.new k hk), h.outer, h.apart⟩
theorem Lse.n_ (h : Lse B w A n c ss ls) : ls.length = n := by have := h.room.1; rw [List.length_map] at this; rw [← h.len]; exact this
theorem Lse.els (h : Lse B w A n c ss ls) : Els w ss ls := ⟨h.len, fun i s hs => by
  obtain ⟨l, h1, h2⟩ := h.at_ i s hs
  exact ⟨h2.2.1, l, h1, h2.rd evC_len (by decide)⟩⟩
theorem Lse.made (hr : Room w A n c (List.replicate n (.slice none 0 0))) (hf : ∀ k, foot A c k → B ≤ k) : Lse B w A n c (List.replicate n ⟨none, 0, 0⟩) (List.replicate n []) := by
  have hn : ∀ k, ¬ foots (List.replicate n (⟨none, 0, 0⟩ : Sl)) k := by
    rintro k ⟨s, hs, hk⟩
    have := List.eq_of_mem_replicate hs
    subst this
    exact foot_none hk
  refine ⟨by rw [List.map_replicate]; exact hr, by simp, fun i s hs => ?_, fun k hk => hk.elim (hf k) (fun h => absurd h (hn k)), fun k hk => absurd hk (hn k), fun i j s t hs _ _ k hk => ?_⟩
  · have hi := (List.getElem?_eq_some_iff.1 hs).1
    have h1 := List.eq_of_mem_replicate (List.mem_of_getElem? hs)
    subst h1
    exact ⟨[], by rw [List.getElem?_replicate, if_pos (by simpa using hi)], RoomS.nil⟩
  · have h1 := List.eq_of_mem_replicate (List.mem_of_getElem? hs)
    subst h1
    exact absurd hk foot_none
/-- One of the lists grows. -/
theorem Lse.grow {g o j : Nat} {s s2 : Sl} {l2 : List Ev} {w2 : World} (h : Lse B w (some ⟨g, o, none⟩) n c ss ls) (hj : ss[j]? = some s) (hr : RoomS 5 w2 s2.A s2.n s2.c (l2.flatMap evC)) (ch : Chg (foot s.A s.c) w w2) (ft : ∀ k, foot s2.A s2.c k → foot s.A s.c k ∨ w.heap.size ≤ k) (hB : B ≤ w.heap.size) :
    Lse B (w2.setCell ⟨g, o + j, none⟩ (slv s2)) (some ⟨g, o, none⟩) n c (ss.set j s2) (ls.set j l2) ∧ Chg (fun k => foot (some ⟨g, o, none⟩) c k ∨ foots ss k) w (w2.setCell ⟨g, o + j, none⟩ (slv s2)) := by
  have hjl : j < ss.length := (List.getElem?_eq_some_iff.1 hj).1
  have hsl : ss.length = n := by have := h.room.1; rwa [List.length_map] at this
  have hc0 : 0 < c := by have := h.room.2.1; omega
  have hg : foot (some ⟨g, o, none⟩) c g := ⟨hc0, o, rfl⟩
  have hgl := h.lt (.inl hg)
  have hsm : s ∈ ss := List.mem_of_getElem? hj
  have c1 := Chg.set w2 g (o + j) (slv s2) (T := fun k => k = g) rfl
  have hgs : ∀ k, foot s.A s.c k → k ≠ g := fun k hk e => h.outer k ⟨s, hsm, hk⟩ (by rw [e]; exact hg)
  have hfs2 : ∀ k, foot s2.A s2.c k → k ≠ g := fun k hk e => (ft k hk).elim (fun h1 => hgs k h1 e) (fun h1 => by omega)
  have mem : ∀ k, foots (ss.set j s2) k → foot s2.A s2.c k ∨ foots ss k := by
    rintro k ⟨t, ht, hk⟩
    rcases List.mem_or_eq_of_mem_set ht with h1 | h1
    · exact .inr ⟨t, h1, hk⟩
    · subst h1; exact .inl hk
  refine ⟨⟨?_, by simp [h.len], fun i t ht => ?_, fun k hk => ?_, fun k hk => ?_, fun i i' t t' ht ht' hne k hk => ?_⟩, ?_⟩
  · have hr2 := h.room.chg ch (fun k hk hs => by have := foot_some hk; subst this; exact hgs _ hs rfl)
    have := hr2.set (k := j) (by omega) (slv s2)
    rw [List.map_set]; exact this
  · by_cases hij : j = i
    · subst hij
      rw [List.getElem?_set_self hjl] at ht
      cases ht
      exact ⟨l2, by rw [List.getElem?_set_self (by rw [← h.len]; exact hjl)], hr.chg c1 (fun k hk e => hfs2 k hk e)⟩
    · rw [List.getElem?_set_ne hij] at ht ⊢
      obtain ⟨l', h1, h2⟩ := h.at_ i t ht
      refine ⟨l', h1, (h2.chg ch (fun k hk hs => h.apart i j t s ht hj (fun e => hij e.symm) k hk hs)).chg c1 (fun k hk e => ?_)⟩
      exact h.outer k ⟨t, List.mem_of_getElem? ht, hk⟩ (by rw [e]; exact hg)
  · rcases hk with hk | hk
    · exact h.new k (.inl hk)
    · rcases mem k hk with h1 | h1
      · exact (ft k h1).elim (fun h2 => h.new k (.inr ⟨s, hsm, h2⟩)) (fun h2 => by omega)
      · exact h.new k (.inr h1)
  · intro hf
    have e := foot_some hf
    rcases mem k hk with h1 | h1
    · exact hfs2 k h1 e
    · exact h.outer k h1 hf
  · intro hk'
    by_cases h1 : j = i
    · subst h1
      rw [List.getElem?_set_self hjl] at ht
      cases ht
      rw [List.getElem?_set_ne hne] at ht'
      rcases ft k hk with h2 | h2
      · exact h.apart j i' s t' hj ht' hne k h2 hk'
      · have := h.lt (.inr ⟨t', List.mem_of_getElem? ht', hk'⟩); omega
    · rw [List.getElem?_set_ne h1] at ht
      by_cases h2 : j = i'
      · subst h2
        rw [List.getElem?_set_self hjl] at ht'
        cases ht'
        rcases ft k hk' with h3 | h3
        · exact h.apart i j t s ht hj hne k hk h3
        · have := h.lt (.inr ⟨t, List.mem_of_getElem? ht, hk⟩); omega
      · rw [List.getElem?_set_ne h2] at ht'
        exact h.apart i i' t t' ht ht' hne k hk hk'
  · exact (ch.mono (fun k _ hk => .inr ⟨s, hsm, hk⟩)).t (c1.mono (fun k _ e => by rw [e]; exact .inl hg))
end
section
variable {P : Program} {w : World} {ops : Array Oper} {rest : List Oper} {o : Oper} {a : Act} {Q : Exit → Act → World → Prop}
/-- make([]T, n): n zero elements, in a new block. -/
theorem wpl_makeN (hgd : o.guard = none) {l c : Operand} {t : TypeId} (ho : o.op = Op.makeSlice t l c) {e : TypeId} {z : Value} {bytes : Nat} (ht : P.underlying t = some (.slice e)) (hi : (P.info? e).map (fun i => (i.zero, i.size, i.bytes)) = some (some z, 1, bytes)) (hz1 : z.cells = #[z])
    {kl kc : IntKind} {L C : Int} {n : Nat} (hl : a.eval l = .int kl L) (hc : a.eval c = .int kc C) (hL : L = (n : Int)) (hC : C = (n : Int)) (b2 : bytes * n ≤ 281474976710656) (b3 : n ≤ maxLen)
    (h : ∀ A w', Room w' A n n (List.replicate n z) → Ext w w' → (∀ k, foot A n k → w.heap.size ≤ k) → Hid (wpList P ops Q rest (a.put o.dst (.slice A n n)) w')) : wpList P ops Q (o :: rest) a w := by
  obtain ⟨i, hi', hz, hsize, hby⟩ := info_parts hi
  subst hby
  refine wpList_make_full w hgd l c t ho w.heap.size e i z 1 ht hi' hz hsize kl kc L C n hl hc hL hC b2 b3 (Nat.le_refl _) (fun w' h1 h2 => ?_)
  refine (h (some ⟨w.heap.size, 0, none⟩) w' ?_ (below_of_grown h2 (Nat.le_refl _) (fun k hk => by cases hk)) (fun k hk => by rw [foot_some hk]; exact Nat.le_refl _)).out
  have h3 := Room.of_own h1
  have e1 : (madeCells z.cells (n * 1)).toList = List.replicate n z := by
    rw [hz1, Nat.mul_one]
    unfold madeCells
    simp
    try (apply List.ext_getElem <;> simp [Nat.mod_one])
  rwa [e1] at h3
end
/-! What is dealt. -/
def forE (l : List Ev) (to : Int) : List Ev := l.filter (fun x => decide (x.to = to))
def dealL (l : List Ev) (n : Nat) : List (List Ev) := (List.range n).map (fun (j : Nat) => forE l ((j : Int) + 1))
def okT (n : Int) (x : Ev) : Bool := decide (1 ≤ x.to) && decide (x.to ≤ n)
def badT (n : Int) : Nat → List Ev → Option Nat
  | _, [] => none
  | i, x :: xs => if okT n x = true then badT n (i + 1) xs else some i
def dealF (l : List Ev) (n : Int) : List (List Ev) × Int × Nat :=
  if n < 0 ∨ 16 < n then ([], -1, 2) else match badT n 0 l with
    | some i => ([], (i : Int), 112)
    | none => (dealL l n.toNat, -1, 0)
theorem dealL_nil (n : Nat) : dealL [] n = List.replicate n [] := by
  unfold dealL
  apply List.ext_getElem
  · simp
  · intro i h1 h2; simp [forE]
theorem dealL_snoc {l : List Ev} {x : Ev} {n j : Nat} (hj : j < n) (hx : x.to = (j : Int) + 1) : dealL (l ++ [x]) n = (dealL l n).set j ((dealL l n)[j]?.getD [] ++ [x]) := by
  unfold dealL
  apply List.ext_getElem
  · simp
  · intro i h1 h2
    rw [List.getElem_set]
    simp only [List.getElem_map, List.getElem_range, List.getElem?_map]
    by_cases hij : j = i
    · subst hij
      rw [if_pos rfl, List.getElem?_range hj]
      simp [forE, List.filter_append, hx]
    · rw [if_neg hij]
      have : ¬ x.to = (i : Int) + 1 := by omega
      simp [forE, List.filter_append, this]
theorem dealL_len (l : List Ev) (n : Nat) : (dealL l n).length = n := by simp [dealL]
theorem forE_le (l : List Ev) (to : Int) : (forE l to).length ≤ l.length := List.length_filter_le _ _
theorem dealL_le {l : List Ev} {n : Nat} {l' : List Ev} (h : l' ∈ dealL l n) : l'.length ≤ l.length := by
  obtain ⟨j, _, rfl⟩ := List.mem_map.1 h
  exact forE_le _ _
end Go.Fx
