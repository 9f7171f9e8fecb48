/- InsP: plain words for slices.Insert. -/
import Derived.Test.YtlneifgihdickaaScp
namespace Go.Fx
open Go.RowKit
theorem ins_room {α : Type} {xs L vs : List α} {a b d : Nat} (hx : xs.length = a + d) (hv : vs.length = b) (hL : (xs ++ L).length = a + b + d) :
    (((xs ++ L).take (a + b) ++ xs.drop a ++ (xs ++ L).drop (a + b + (xs.drop a).length)).take a ++ vs ++ ((xs ++ L).take (a + b) ++ xs.drop a ++ (xs ++ L).drop (a + b + (xs.drop a).length)).drop (a + vs.length)) = xs.take a ++ vs ++ xs.drop a := by
  have hD : (xs.drop a).length = d := by rw [List.length_drop]; omega
  have e1 : (xs ++ L).drop (a + b + (xs.drop a).length) = [] := List.drop_eq_nil_of_le (by omega)
  rw [e1, List.append_nil]
  have hT : ((xs ++ L).take (a + b)).length = a + b := by rw [List.length_take]; omega
  have e2 : ((xs ++ L).take (a + b) ++ xs.drop a).take a = xs.take a := by
    rw [List.take_append_of_le_length (by omega), List.take_take, Nat.min_eq_left (by omega), List.take_append_of_le_length (by omega)]
  have e3 : ((xs ++ L).take (a + b) ++ xs.drop a).drop (a + vs.length) = xs.drop a := by
    rw [hv, List.drop_left' hT]
  rw [e2, e3]
theorem ins_grow {α : Type} {xs L vs : List α} {a b d : Nat} (hx : xs.length = a + d) (hv : vs.length = b) (hL : (xs.take a ++ L).length = a + b + d) :
    (((xs.take a ++ L).take a ++ vs ++ (xs.take a ++ L).drop (a + vs.length)).take (a + b) ++ xs.drop a ++ ((xs.take a ++ L).take a ++ vs ++ (xs.take a ++ L).drop (a + vs.length)).drop (a + b + (xs.drop a).length)) = xs.take a ++ vs ++ xs.drop a := by
  have hA : (xs.take a).length = a := by rw [List.length_take]; omega
  have hD : (xs.drop a).length = d := by rw [List.length_drop]; omega
  have e0 : (xs.take a ++ L).take a = xs.take a := by rw [List.take_left' hA]
  rw [e0]
  have hl : (xs.take a ++ vs).length = a + b := by rw [List.length_append]; omega
  rw [List.take_left' hl, show (xs.take a ++ vs ++ (xs.take a ++ L).drop (a + vs.length)).drop (a + b + (xs.drop a).length) = [] from List.drop_eq_nil_of_le (by rw [List.length_append, hl, List.length_drop]; omega), List.append_nil]
theorem RoomS.okAt {s : Nat} {w : World} {g o n c : Nat} {L : List Value} (h : RoomS s w (some ⟨g, o, none⟩) n c L) {j : Nat} (hj : j < c * s) : (w.cell? ⟨g, o + j, none⟩).isSome = true ∧ w.frozen? ⟨g, o + j, none⟩ = false := by
  rcases h.2.2.2 with h0 | ⟨g', o', hA, hg, hcell, hfr⟩
  · subst h0; omega
  · cases hA; exact hfr j hj
/-- What Insert leaves. -/
def InsP (s : Nat) (A : Option Addr) (n c m i : Nat) (xs vs : List Value) (w : World) (e : Ending) (w' : World) : Prop :=
  ∃ A' c', e = .returned (.slice A' (n + m) c') ∧ RoomS s w' A' (n + m) c' (xs.take (i * s) ++ vs ++ xs.drop (i * s)) ∧ Chg (foot A c) w w' ∧ (∀ k, foot A' c' k → foot A c k ∨ w.heap.size ≤ k)
/-- What Clone leaves. -/
def ClnP (s : Nat) (n : Nat) (xs : List Value) (w : World) (e : Ending) (w' : World) : Prop :=
  ∃ A' c', e = .returned (.slice A' n c') ∧ RoomS s w' A' n c' xs ∧ Ext w w' ∧ (∀ k, foot A' c' k → w.heap.size ≤ k)
theorem RdS.of_rd {α : Type} {f : α → Value} {w : World} {A : Option Addr} {n : Nat} {xs : List α} (h : Rd f w A n xs) : RdS 1 (fun x => [f x]) w A n xs :=
  ⟨h.1, fun hn => by
    obtain ⟨b, o, e, hb, hc⟩ := h.2 hn
    refine ⟨b, o, e, hb, fun i x hx j u hu => ?_⟩
    have hj : j = 0 := by have := (List.getElem?_eq_some_iff.1 hu).1; simp at this; exact this
    subst hj
    simp at hu
    subst hu
    rw [Nat.mul_one, Nat.add_zero]; exact hc i x hx⟩
theorem flat_one {α : Type} (f : α → Value) (xs : List α) : xs.flatMap (fun x => [f x]) = xs.map f := by
  induction xs with
  | nil => rfl
  | cons x xs ih => rw [List.flatMap_cons, ih]; rfl
theorem RoomS.room {w : World} {A : Option Addr} {n c : Nat} {xs : List Value} (h : RoomS 1 w A n c xs) : Room w A n c xs :=
  ⟨by have := h.1; omega, h.2.1, h.2.2.1, by simpa only [Nat.mul_one] using h.2.2.2⟩
theorem Room.roomS {w : World} {A : Option Addr} {n c : Nat} {xs : List Value} (h : Room w A n c xs) : RoomS 1 w A n c xs :=
  ⟨by have := h.1; omega, h.2.1, h.2.2.1, by simpa only [Nat.mul_one] using h.2.2.2⟩
end Go.Fx
