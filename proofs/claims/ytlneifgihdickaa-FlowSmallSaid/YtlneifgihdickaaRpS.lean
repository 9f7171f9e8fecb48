/- RpS: a buffer that is filled with a list again and again (slices.Repeat), elements of s cells each. No condition. -/
import Derived.Test.YtlneifgihdickaaScp
import Derived.Laws.MakeOwn
namespace Go.Fx
open Go.RowKit
def repL {α : Type} (k : Nat) (xs : List α) : List α := (List.replicate k xs).flatten
section
variable {α : Type} {f : α → List Value} {s : Nat} {xs : List α}
theorem repL_zero : repL 0 xs = [] := rfl
theorem repL_add (a b : Nat) : repL (a + b) xs = repL a xs ++ repL b xs := by unfold repL; rw [← List.replicate_append_replicate, List.flatten_append]
theorem repL_one : repL 1 xs = xs := by simp [repL]
theorem repL_len (k : Nat) : (repL k xs).length = k * xs.length := by simp [repL]
theorem repL_mem {k : Nat} {x : α} (h : x ∈ repL k xs) : x ∈ xs := by
  unfold repL at h
  obtain ⟨l, hl, hx⟩ := List.mem_flatten.1 h
  rw [(List.mem_replicate.1 hl).2] at hx
  exact hx
theorem repL_single (k : Nat) (b : α) : repL k [b] = List.replicate k b := by
  induction k with
  | zero => rfl
  | succ k ih => rw [Nat.add_comm, repL_add, repL_one, ih, Nat.add_comm]; rfl
/-- make: a row of its own. -/
theorem run_makeS {P : Program} (w : World) {t e : TypeId} {z : Value} {bytes N : Nat} (ht : P.underlying t = some (.slice e)) (hi : (P.info? e).map (fun i => (i.zero, i.size, i.bytes)) = some (some z, s, bytes)) (hb : bytes * N ≤ 281474976710656) (hN : N ≤ maxLen) :
    ∃ w' L, (Instr.makeSlice t (.int .i64 (N : Int)) (.int .i64 (N : Int))).run P w = .ok (.slice (some ⟨w.heap.size, 0, none⟩) N N) w' ∧ RoomS s w' (some ⟨w.heap.size, 0, none⟩) N N L ∧ Ext w w' := by
  obtain ⟨i, hi', hz, hsize, hby⟩ := info_parts hi
  subst hsize
  subst hby
  have h63 : (N : Int) ≤ 9223372036854775807 := by have h := hN; simp [maxLen] at h; omega
  have hb' : (i.bytes : Int) * (N : Int) ≤ 281474976710656 := by
    have h : ((i.bytes * N : Nat) : Int) ≤ 281474976710656 := by omega
    rwa [Int.natCast_mul] at h
  have hr := run_make (P := P) w t e i z ht hi' hz .i64 .i64 (N : Int) (N : Int) (by omega) (Int.le_refl _) hb' h63
  simp only [Int.toNat_natCast] at hr
  refine ⟨_, _, hr, RoomS.of_blk (s := i.size) (Blk.new w e _) (size_madeCells _ _) hN, Ext.alloc _ _⟩
/-- What holds while the buffer G is being filled: q times the list was put in. -/
structure RpJ (s : Nat) (f : α → List Value) (w : World) (G N : Nat) (xs : List α) (q : Nat) (wr : World) : Prop where
  room : ∃ L, RoomS s wr (some ⟨G, 0, none⟩) N N L ∧ L.take (q * xs.length * s) = (repL q xs).flatMap f
  ext : Ext w wr
  le : w.heap.size ≤ G
variable {w wr : World} {G N q : Nat}
theorem RpJ.exte {W : World} (h : RpJ s f w G N xs q wr) (e : Ext wr W) : RpJ s f w G N xs q W := by
  obtain ⟨L, h1, h2⟩ := h.room
  exact ⟨⟨L, h1.ext e, h2⟩, h.ext.t e, h.le⟩
theorem RpJ.put (hf : ∀ x, (f x).length = s) (h : RpJ s f w G N xs q wr) {r : Nat} (hN : (q + r) * xs.length ≤ N) : RpJ s f w G N xs (q + r) (wr.setCells G (q * xs.length * s) ((repL r xs).flatMap f)) := by
  obtain ⟨L, h1, h2⟩ := h.room
  have hlen : ((repL r xs).flatMap f).length = r * xs.length * s := by rw [flat_len hf, repL_len]
  have hle : q * xs.length * s + r * xs.length * s ≤ N * s := by rw [← Nat.add_mul, ← Nat.add_mul]; exact Nat.mul_le_mul_right s hN
  have h3 := h1.setCells (q * xs.length * s) ((repL r xs).flatMap f) (by rw [hlen]; exact hle)
  rw [Nat.zero_add, hlen] at h3
  refine ⟨⟨_, h3, ?_⟩, h.ext.trans ((chg_setCells wr (T := fun k => k = G) G (q * xs.length * s) _ rfl).below h.ext.size (fun k hk e => by have := h.le; omega)), h.le⟩
  have hL : (L.take (q * xs.length * s)).length = q * xs.length * s := by rw [List.length_take, h1.1]; exact Nat.min_eq_left (Nat.le_trans (Nat.le_add_right _ _) hle)
  rw [show (q + r) * xs.length * s = q * xs.length * s + r * xs.length * s by rw [← Nat.add_mul, ← Nat.add_mul], List.take_append_of_le_length (by rw [List.length_append, hL, hlen]; exact Nat.le_refl _), List.take_of_length_le (by rw [List.length_append, hL, hlen]; exact Nat.le_refl _), h2, repL_add, List.flatMap_append]
theorem RpJ.cell (h : RpJ s f w G N xs q wr) (_hN : q * xs.length ≤ N) {j : Nat} {v : Value} (hj : ((repL q xs).flatMap f)[j]? = some v) : wr.cell? ⟨G, 0 + j, none⟩ = some v := by
  obtain ⟨L, h1, h2⟩ := h.room
  rw [← h2, List.getElem?_take] at hj
  split at hj
  · rcases h1.2.2.2 with h0 | ⟨g, o, hA, _, hc, _⟩
    · have hl := h1.1
      have := (List.getElem?_eq_some_iff.1 hj).1
      rw [hl, h0, Nat.zero_mul] at this
      omega
    · cases hA; exact hc j v hj
  · cases hj
theorem RpJ.there (h : RpJ s f w G N xs q wr) {j : Nat} (hj : j < N * s) : (wr.cell? ⟨G, j, none⟩).isSome = true ∧ wr.frozen? ⟨G, j, none⟩ = false := by
  obtain ⟨L, h1, h2⟩ := h.room
  rcases h1.2.2.2 with h0 | ⟨g, o, hA, _, _, hc⟩
  · rw [h0, Nat.zero_mul] at hj; omega
  · cases hA; have := hc j hj; rwa [Nat.zero_add] at this
/-- It is full. -/
theorem RpJ.full (_hf : ∀ x, (f x).length = s) {k : Nat} (h : RpJ s f w G (k * xs.length) xs k wr) : RoomS s wr (some ⟨G, 0, none⟩) (k * xs.length) (k * xs.length) ((repL k xs).flatMap f) := by
  obtain ⟨L, h1, h2⟩ := h.room
  rw [List.take_of_length_le (by rw [h1.1]; exact Nat.le_refl _)] at h2
  rw [← h2]; exact h1
end
end Go.Fx
