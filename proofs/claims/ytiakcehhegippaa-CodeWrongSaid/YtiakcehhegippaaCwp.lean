/- Cwp: programs with one thing that is not right: plain, and in memory. -/
import Derived.Test.YtiakcehhegippaaCmp
import Derived.Test.YtiakcehhegippaaCrp
namespace Go.Fx
open Go.RowKit Go.Proofs Go.Proofs.Ytiakcehhegippaa
theorem chkF_app {len : Nat} : ∀ (a b : List Ins) (k : Nat), (∀ i ∈ a, oneF i = 0 ∧ (tgtF i = true → i.n < (len : Int))) → chkF len (a ++ b) k = chkF len b (k + a.length)
  | [], _, _, _ => rfl
  | i :: a, b, k, h => by
    have h1 := h i (by simp)
    rw [List.cons_append]
    conv => lhs; unfold chkF
    rw [if_neg (by rw [h1.1]; simp), if_neg (by intro h2; have := h1.2 h2.1; omega), chkF_app a b (k + 1) (fun j hj => h j (by simp [hj])), List.length_cons]
    congr 1; omega
theorem set_split {α : Type} {p : List α} {k : Nat} (h : k < p.length) (i : α) : p.set k i = p.take k ++ (i :: p.drop (k + 1)) := by
  rw [List.set_eq_take_append_cons_drop, if_pos h]
theorem chk_set {p : List Ins} (hp : ∀ i ∈ p, oneF i = 0 ∧ (tgtF i = true → i.n < (p.length : Int))) {k : Nat} (hk : k < p.length) (i : Ins) : chkF (p.set k i).length (p.set k i) 0 = chkF p.length (i :: p.drop (k + 1)) k := by
  rw [List.length_set, set_split hk, chkF_app _ _ _ (fun j hj => hp j (List.mem_of_mem_take hj)), List.length_take, Nat.min_eq_left (by omega), Nat.zero_add]
theorem wrong_one {p : List Ins} (hp : ∀ i ∈ p, oneF i = 0 ∧ (tgtF i = true → i.n < (p.length : Int))) (hl : p.length ≤ 256) {k : Nat} (hk : k < p.length) {i : Ins} (hi : oneF i ≠ 0) : checkF (p.set k i) = ((k : Int), oneF i) := by
  refine checkF_at (by rw [List.length_set]; omega) (by rw [List.length_set]; exact hl) ?_
  rw [chk_set hp hk, chkF, if_pos hi]
theorem wrong_tgt {p : List Ins} (hp : ∀ i ∈ p, oneF i = 0 ∧ (tgtF i = true → i.n < (p.length : Int))) (hl : p.length ≤ 256) {k : Nat} (hk : k < p.length) {i : Ins} (hi : oneF i = 0) (ht : tgtF i = true) (hn : (p.length : Int) ≤ i.n) : checkF (p.set k i) = ((k : Int), 142) := by
  refine checkF_at (by rw [List.length_set]; omega) (by rw [List.length_set]; exact hl) ?_
  rw [chk_set hp hk, chkF, if_neg (by rw [hi]; simp), if_pos ⟨ht, hn⟩]
theorem wrong_end {p : List Ins} (hp : ∀ i ∈ p, oneF i = 0 ∧ (tgtF i = true → i.n < (p.length : Int))) (hl : p.length ≤ 256) {k : Nat} (hk : k + 1 = p.length) {i : Ins} (hi : oneF i = 0) (ht : tgtF i = false) (hg : goesF i = true) : checkF (p.set k i) = ((k : Int), 143) := by
  have hk' : k < p.length := by omega
  have hc : chkF (p.set k i).length (p.set k i) 0 = none := by
    rw [chk_set hp hk', chkF, if_neg (by rw [hi]; simp), if_neg (by rw [ht]; simp), List.drop_eq_nil_of_le (by omega)]; rfl
  have hlast : (p.set k i).getLast? = some i := by
    rw [set_split hk', List.drop_eq_nil_of_le (by omega)]; simp
  unfold checkF
  rw [if_neg (by rw [List.length_set]; omega), if_neg (by rw [List.length_set]; omega), hc, hlast]
  show (if goesF i = true then ((((p.set k i).length - 1 : Nat) : Int), 143) else (-1, 0)) = _
  rw [if_pos hg, List.length_set, show p.length - 1 = k by omega]
theorem check_many {p : List Ins} (h : 256 < p.length) : checkF p = (-1, 5) := by
  unfold checkF; rw [if_neg (by omega), if_pos h]
theorem write_wrong {p : List Ins} {k : Int} {e : Nat} (h : checkF p = (k, e)) (he : e ≠ 0) : writeF p = ([], e) := by
  unfold writeF; rw [h]; exact if_neg he
theorem read_nil : readF [] = ([], -1, 6) := by
  unfold readF; rw [rlF_nil rfl]; rfl
theorem flat_set5 (i : Ins) : ∀ (p : List Ins) (k : Nat), k < p.length → ((((((p.flatMap insC).set (k * 5) (.int .u8 (i.op : Int))).set (k * 5 + 1) (.int .u8 (i.a : Int))).set (k * 5 + 2) (.int .u8 (i.b : Int))).set (k * 5 + 3) (.int .u8 (i.c : Int))).set (k * 5 + 4) (.int .i64 i.n)) = (p.set k i).flatMap insC
  | [], k, h => by simp at h
  | y :: r, 0, _ => by simp [insC]
  | y :: r, k + 1, h => by
    have ih := flat_set5 i r k (by simpa using h)
    have hl : (insC y).length = 5 := rfl
    have e : ∀ j, (k + 1) * 5 + j = 5 + (k * 5 + j) := fun j => by omega
    have e0 : (k + 1) * 5 = 5 + k * 5 := by omega
    rw [List.flatMap_cons, List.set_cons_succ, List.flatMap_cons, ← ih, e0]
    rw [show 5 + k * 5 + 1 = 5 + (k * 5 + 1) by omega, show 5 + k * 5 + 2 = 5 + (k * 5 + 2) by omega, show 5 + k * 5 + 3 = 5 + (k * 5 + 3) by omega, show 5 + k * 5 + 4 = 5 + (k * 5 + 4) by omega]
    have hs : ∀ (L : List Value) (j : Nat) (u : Value), (insC y ++ L).set (5 + j) u = insC y ++ L.set j u := fun L j u => by
      rw [List.set_append_right _ _ (by rw [hl]; omega), hl, Nat.add_sub_cancel_left]
    rw [hs, hs, hs, hs, hs]
/-- One instruction of a list is stored. -/
def fiveAt (w : World) (g o : Nat) (q : Ins) : World := ((((w.setCell ⟨g, o, none⟩ (.int .u8 (q.op : Int))).setCell ⟨g, o + 1, none⟩ (.int .u8 (q.a : Int))).setCell ⟨g, o + 2, none⟩ (.int .u8 (q.b : Int))).setCell ⟨g, o + 3, none⟩ (.int .u8 (q.c : Int))).setCell ⟨g, o + 4, none⟩ (.int .i64 q.n)
theorem RoomS.five {w : World} {g o n c k : Nat} {p : List Ins} (h : RoomS 5 w (some ⟨g, o, none⟩) n c (p.flatMap insC)) (hp : p.length = n) (hk : k < n) (q : Ins) : RoomS 5 (fiveAt w g (o + k * 5) q) (some ⟨g, o, none⟩) n c ((p.set k q).flatMap insC) := by
  have hb : k * 5 + 5 ≤ n * 5 := by have := Nat.mul_le_mul_right 5 (show k + 1 ≤ n from hk); omega
  have h1 := ((((h.set (k := k * 5) (by omega) (.int .u8 (q.op : Int))).set (k := k * 5 + 1) (by omega) (.int .u8 (q.a : Int))).set (k := k * 5 + 2) (by omega) (.int .u8 (q.b : Int))).set (k := k * 5 + 3) (by omega) (.int .u8 (q.c : Int))).set (k := k * 5 + 4) (by omega) (.int .i64 q.n)
  rw [flat_set5 q p k (by omega)] at h1
  exact h1
theorem fiveAt_ext {a w : World} {g o : Nat} (h : Ext a w) (hg : a.heap.size ≤ g) (q : Ins) : Ext a (fiveAt w g o q) := below_set (below_set (below_set (below_set (below_set h hg _) hg _) hg _) hg _) hg _
end Go.Fx
namespace Go.Proofs.Ytiakcehhegippaa
open Go.RowKit Go.Fx
theorem NewS.five {w w' : World} {g o n c k : Nat} {p : List Ins} (h : NewS w p w' (some ⟨g, o, none⟩) n c) (hk : k < n) (q : Ins) : NewS w (p.set k q) (fiveAt w' g (o + k * 5) q) (some ⟨g, o, none⟩) n c :=
  ⟨h.room.five h.n_.symm hk q, fiveAt_ext h.ext (h.ft g ⟨by have := h.room.2.1; omega, o, rfl⟩) q, h.ft⟩
/-- The cells of one of them. -/
theorem NewS.cells5 {w w' : World} {g o n c k : Nat} {p : List Ins} (h : NewS w p w' (some ⟨g, o, none⟩) n c) (hk : k < n) : ∃ v0 v1 v2 v3 v4, w'.cell? ⟨g, o + k * 5, none⟩ = some v0 ∧ w'.cell? ⟨g, o + k * 5 + 1, none⟩ = some v1 ∧ w'.cell? ⟨g, o + k * 5 + 2, none⟩ = some v2 ∧ w'.cell? ⟨g, o + k * 5 + 3, none⟩ = some v3 ∧ w'.cell? ⟨g, o + k * 5 + 4, none⟩ = some v4 ∧ (∀ j, j < 5 → w'.frozen? ⟨g, o + k * 5 + j, none⟩ = false) := by
  obtain ⟨b, o', i, e, _, _, c0, c1, c2, c3, c4⟩ := h.rd.ins hk
  cases e
  refine ⟨_, _, _, _, _, c0, c1, c2, c3, c4, fun j hj => ?_⟩
  have := h.room.frozenAt (k := k * 5 + j) (by have h1 := Nat.mul_le_mul_right 5 (show k + 1 ≤ c by have := h.room.2.1; omega); omega)
  rw [← Nat.add_assoc] at this
  exact this
end Go.Proofs.Ytiakcehhegippaa
