/- Cls: lists of instructions in memory. -/
import Derived.Test.YtlneifgihdickaaSts
import Derived.Test.YtlneifgihdickaaCgt
namespace Go.Fx
open Go.RowKit
def insC (i : Ins) : List Value := [.int .u8 (i.op : Int), .int .u8 (i.a : Int), .int .u8 (i.b : Int), .int .u8 (i.c : Int), .int .i64 i.n]
theorem insC_len (i : Ins) : (insC i).length = 5 := rfl
theorem insC_one (i : Ins) : ∀ u ∈ insC i, u.oneCell' = true := by
  intro u hu
  simp only [insC, List.mem_cons, List.not_mem_nil, or_false] at hu
  rcases hu with rfl | rfl | rfl | rfl | rfl <;> rfl
theorem insV_agg (i : Ins) : insV i = .agg (insC i).toArray := rfl
theorem RdS.ins {w : World} {A : Option Addr} {n k : Nat} {p : List Ins} (h : RdS 5 insC w A n p) (hk : k < n) : ∃ b o i, A = some ⟨b, o, none⟩ ∧ b < w.heap.size ∧ p[k]? = some i ∧
    w.cell? ⟨b, o + k * 5, none⟩ = some (.int .u8 (i.op : Int)) ∧ w.cell? ⟨b, o + k * 5 + 1, none⟩ = some (.int .u8 (i.a : Int)) ∧ w.cell? ⟨b, o + k * 5 + 2, none⟩ = some (.int .u8 (i.b : Int)) ∧ w.cell? ⟨b, o + k * 5 + 3, none⟩ = some (.int .u8 (i.c : Int)) ∧ w.cell? ⟨b, o + k * 5 + 4, none⟩ = some (.int .i64 i.n) := by
  obtain ⟨b, o, i, h1, h2, h3, h4⟩ := h.at_ hk
  exact ⟨b, o, i, h1, h2, h3, by simpa using h4 0 _ rfl, h4 1 _ rfl, h4 2 _ rfl, h4 3 _ rfl, h4 4 _ rfl⟩
/-- One instruction in a block of its own. -/
theorem Blk.ins {w : World} {g : Nat} {t : TypeId} {i : Ins} (h : Blk w g t (insC i).toArray) : w.cell? ⟨g, 0, none⟩ = some (.int .u8 (i.op : Int)) ∧ w.cell? ⟨g, 1, none⟩ = some (.int .u8 (i.a : Int)) ∧ w.cell? ⟨g, 2, none⟩ = some (.int .u8 (i.b : Int)) ∧ w.cell? ⟨g, 3, none⟩ = some (.int .u8 (i.c : Int)) ∧ w.cell? ⟨g, 4, none⟩ = some (.int .i64 i.n) :=
  ⟨by rw [h.cell]; rfl, by rw [h.cell]; rfl, by rw [h.cell]; rfl, by rw [h.cell]; rfl, by rw [h.cell]; rfl⟩
end Go.Fx
