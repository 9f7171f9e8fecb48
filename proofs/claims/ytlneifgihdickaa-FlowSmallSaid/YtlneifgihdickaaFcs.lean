/- Fcs: one instruction of a new program is stored; programs with a wrong instruction have no flow. -/
import Derived.Test.YtlneifgihdickaaFaw
import Derived.Test.YtlneifgihdickaaCop
namespace Go.Fx
open Go.RowKit Go.Proofs Go.Proofs.Ytlneifgihdickaa
theorem flat_set5 (i : Ins) : ∀ (p : List Ins) (k : Nat), k < p.length → ((((((p.flatMap insC).set (k * 5) (.int .u8 (i.op : Int))).set (k * 5 + 1) (.int .u8 (i.a : Int))).set (k * 5 + 2) (.int .u8 (i.b : Int))).set (k * 5 + 3) (.int .u8 (i.c : Int))).set (k * 5 + 4) (.int .i64 i.n)) = (p.set k i).flatMap insC
  | [], k, h => by simp at h
  | y :: r, 0, _ => by simp [insC]
  | y :: r, k + 1, h => by
    have ih := flat_set5 i r k (by simpa using h)
    have hl : (insC y).length = 5 := rfl
    have e : ∀ j, (k + 1) * 5 + j = 5 + (k * 5 + j) := fun j => by omega
    have e0 : (k + 1) * 5 = 5 + k * 5 := by omega
    rw [List.flatMap_cons, List.set_cons_succ, List.flatMap_cons, ← ih, e0]
    rw [show 5 + k * 5 + 1 = 5 + (k * 5 + 1) by omega, show 5 + k * 5 + 2 = 5 + (k * 5 + 2) by omega, show 5 + k * 5 + 3 = 5 + (k * 5 + 3) by omega, show 5 + k * 5 + 4 = 5 + (k * 5 + 4) by omega]
    have hs : ∀ (L : List Value) (j : Nat) (u : Value), (insC y ++ L).set (5 + j) u = insC y ++ L.set j u := fun L j u => by
      rw [List.set_append_right _ _ (by rw [hl]; omega), hl, Nat.add_sub_cancel_left]
    rw [hs, hs, hs, hs, hs]
/-- One instruction of a list is stored. -/
def fiveAt (w : World) (g o : Nat) (q : Ins) : World := ((((w.setCell ⟨g, o, none⟩ (.int .u8 (q.op : Int))).setCell ⟨g, o + 1, none⟩ (.int .u8 (q.a : Int))).setCell ⟨g, o + 2, none⟩ (.int .u8 (q.b : Int))).setCell ⟨g, o + 3, none⟩ (.int .u8 (q.c : Int))).setCell ⟨g, o + 4, none⟩ (.int .i64 q.n)
theorem RoomS.five {w : World} {g o n c k : Nat} {p : List Ins} (h : RoomS 5 w (some ⟨g, o, none⟩) n c (p.flatMap insC)) (hp : p.length = n) (hk : k < n) (q : Ins) : RoomS 5 (fiveAt w g (o + k * 5) q) (some ⟨g, o, none⟩) n c ((p.set k q).flatMap insC) := by
  have hb : k * 5 + 5 ≤ n * 5 := by have := Nat.mul_le_mul_right 5 (show k + 1 ≤ n from hk); omega
  have h1 := ((((h.set (k := k * 5) (by omega) (.int .u8 (q.op : Int))).set (k := k * 5 + 1) (by omega) (.int .u8 (q.a : Int))).set (k := k * 5 + 2) (by omega) (.int .u8 (q.b : Int))).set (k := k * 5 + 3) (by omega) (.int .u8 (q.c : Int))).set (k := k * 5 + 4) (by omega) (.int .i64 q.n)
  rw [flat_set5 q p k (by omega)] at h1
  exact h1
theorem fiveAt_ext {a w : World} {g o : Nat} (h : Ext a w) (hg : a.heap.size ≤ g) (q : Ins) : Ext a (fiveAt w g o q) := below_set (below_set (below_set (below_set (below_set h hg _) hg _) hg _) hg _) hg _
/-- A program with a wrong instruction is not right. -/
theorem bad_prog {p : List Ins} {x : Ins} (hx : x ∈ p) (h : oneF x ≠ 0 ∨ (tgtF x = true ∧ (p.length : Int) ≤ x.n)) : (checkF p).2 ≠ 0 := by
  intro h0
  have hr := rightP_iff.1 h0
  rcases h with h | ⟨h1, h2⟩
  · exact h (hr.one x hx)
  · have := (hr.tgt x hx h1).2; omega
theorem bad_set {p : List Ins} {k : Nat} {x : Ins} (hk : k < p.length) (h : oneF x ≠ 0 ∨ (tgtF x = true ∧ (p.length : Int) ≤ x.n)) : (checkF (p.set k x)).2 ≠ 0 :=
  bad_prog (x := x) (List.mem_iff_getElem?.2 ⟨k, List.getElem?_set_self hk⟩) (by rw [List.length_set]; exact h)
end Go.Fx
namespace Go.Proofs.Ytlneifgihdickaa
open Go.RowKit Go.Fx
theorem NewS.five {w w' : World} {g o n c k : Nat} {p : List Ins} (h : NewS w p w' (some ⟨g, o, none⟩) n c) (hk : k < n) (q : Ins) : NewS w (p.set k q) (fiveAt w' g (o + k * 5) q) (some ⟨g, o, none⟩) n c :=
  ⟨h.room.five h.n_.symm hk q, fiveAt_ext h.ext (h.ft g ⟨by have := h.room.2.1; omega, o, rfl⟩) q, h.ft⟩
/-- The cells of one of them. -/
theorem NewS.cells5 {w w' : World} {g o n c k : Nat} {p : List Ins} (h : NewS w p w' (some ⟨g, o, none⟩) n c) (hk : k < n) : ∃ v0 v1 v2 v3 v4, w'.cell? ⟨g, o + k * 5, none⟩ = some v0 ∧ w'.cell? ⟨g, o + k * 5 + 1, none⟩ = some v1 ∧ w'.cell? ⟨g, o + k * 5 + 2, none⟩ = some v2 ∧ w'.cell? ⟨g, o + k * 5 + 3, none⟩ = some v3 ∧ w'.cell? ⟨g, o + k * 5 + 4, none⟩ = some v4 ∧ (∀ j, j < 5 → w'.frozen? ⟨g, o + k * 5 + j, none⟩ = false) := by
  obtain ⟨b, o', i, e, _, _, c0, c1, c2, c3, c4⟩ := h.rd.ins hk
  cases e
  refine ⟨_, _, _, _, _, c0, c1, c2, c3, c4, fun j hj => ?_⟩
  have := h.room.frozenAt (k := k * 5 + j) (by have h1 := Nat.mul_le_mul_right 5 (show k + 1 ≤ c by have := h.room.2.1; omega); omega)
  rw [← Nat.add_assoc] at this
  exact this
section
variable {A : Option Addr} {n c : Nat} {p : List Ins} {w : World}
/-- A call that tells an error, and returns nothing. -/
def ErrE (z : Int) (w : World) (e : Ending) (w' : World) : Prop := ∃ A c, e = .returned (.tuple #[.slice A 0 c, .int .i64 z]) ∧ Ext w w'
theorem next_out {z : Int} (h : RdS 5 insC w A n p) (hp : RightP p) (hz : z < 0 ∨ (n : Int) ≤ z) : Calls Try.prog 14 #[.slice A n c, .int .i64 z] w (ErrE 2 w) := by
  refine (next_ A n c p z w h).mono ?_
  rw [show nextF p z = ([], 2) by unfold nextF; rw [if_neg (by simpa using rightP_iff.2 hp), if_pos (by rw [h.1]; exact hz)]]
  rintro e w' ⟨A', c', rfl, _, -, x⟩
  exact ⟨A', c', rfl, x⟩
theorem before_out {z : Int} (h : RdS 5 insC w A n p) (hp : RightP p) (hz : z < 0 ∨ (n : Int) ≤ z) : Calls Try.prog 15 #[.slice A n c, .int .i64 z] w (ErrE 2 w) := by
  refine (beforeF_ A n c p z w h).mono ?_
  rw [show befF p z = ([], 2) by unfold befF; rw [if_neg (by simpa using rightP_iff.2 hp), if_pos (by rw [h.1]; exact hz)]]
  rintro e w' ⟨A', c', rfl, _, -, x⟩
  exact ⟨A', c', rfl, x⟩
theorem next_bad {z : Int} (h : RdS 5 insC w A n p) (hp : (checkF p).2 ≠ 0) : Calls Try.prog 14 #[.slice A n c, .int .i64 z] w (ErrE 160 w) := by
  refine (next_ A n c p z w h).mono ?_
  rw [show nextF p z = ([], 160) by unfold nextF; rw [if_pos hp]]
  rintro e w' ⟨A', c', rfl, _, -, x⟩
  exact ⟨A', c', rfl, x⟩
theorem before_bad {z : Int} (h : RdS 5 insC w A n p) (hp : (checkF p).2 ≠ 0) : Calls Try.prog 15 #[.slice A n c, .int .i64 z] w (ErrE 160 w) := by
  refine (beforeF_ A n c p z w h).mono ?_
  rw [show befF p z = ([], 160) by unfold befF; rw [if_pos hp]]
  rintro e w' ⟨A', c', rfl, _, -, x⟩
  exact ⟨A', c', rfl, x⟩
end
theorem ul_er : Try.prog.underlying 55 = some (.slice 27) := by kernel_rfl
theorem info_er : (Try.prog.info? 27).map (fun i => (i.zero, i.size, i.bytes)) = some (some (.int .i64 0), 1, 8) := by kernel_rfl
end Go.Proofs.Ytlneifgihdickaa
