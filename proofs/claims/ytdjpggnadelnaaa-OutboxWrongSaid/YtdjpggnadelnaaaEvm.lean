/- Evm: events and keys in memory. -/
import Derived.Test.YtdjpggnadelnaaaSts
import Derived.Test.YtdjpggnadelnaaaEpl
namespace Go.Fx
open Go.RowKit
def i64v (z : Int) : Value := .int .i64 z
def kyC (k : Ky) : List Value := [.int .i64 k.t, .int .i64 k.s, .int .i64 k.q]
def kyV (k : Ky) : Value := .agg #[.int .i64 k.t, .int .i64 k.s, .int .i64 k.q]
def evC (e : Ev) : List Value := [.int .i64 e.t, .int .i64 e.s, .int .i64 e.q, .int .i64 e.to, .int .i64 e.v]
def evV (e : Ev) : Value := .agg #[.int .i64 e.t, .int .i64 e.s, .int .i64 e.q, .int .i64 e.to, .int .i64 e.v]
theorem kyC_len (k : Ky) : (kyC k).length = 3 := rfl
theorem evC_len (e : Ev) : (evC e).length = 5 := rfl
theorem evC_one (e : Ev) : ∀ u ∈ evC e, u.oneCell' = true := by
  intro u hu
  simp only [evC, List.mem_cons, List.not_mem_nil, or_false] at hu
  rcases hu with rfl | rfl | rfl | rfl | rfl <;> rfl
theorem evV_agg (e : Ev) : evV e = .agg (evC e).toArray := rfl
theorem kyV_agg (k : Ky) : kyV k = .agg (kyC k).toArray := rfl
theorem RdS.ev {w : World} {A : Option Addr} {n k : Nat} {p : List Ev} (h : RdS 5 evC w A n p) (hk : k < n) : ∃ b o i, A = some ⟨b, o, none⟩ ∧ b < w.heap.size ∧ p[k]? = some i ∧
    w.cell? ⟨b, o + k * 5, none⟩ = some (.int .i64 i.t) ∧ w.cell? ⟨b, o + k * 5 + 1, none⟩ = some (.int .i64 i.s) ∧ w.cell? ⟨b, o + k * 5 + 2, none⟩ = some (.int .i64 i.q) ∧ w.cell? ⟨b, o + k * 5 + 3, none⟩ = some (.int .i64 i.to) ∧ w.cell? ⟨b, o + k * 5 + 4, none⟩ = some (.int .i64 i.v) := by
  obtain ⟨b, o, i, h1, h2, h3, h4⟩ := h.at_ hk
  exact ⟨b, o, i, h1, h2, h3, by simpa using h4 0 _ rfl, h4 1 _ rfl, h4 2 _ rfl, h4 3 _ rfl, h4 4 _ rfl⟩
/-- One event in a block of its own. -/
theorem Blk.ev {w : World} {g : Nat} {t : TypeId} {i : Ev} (h : Blk w g t (evC i).toArray) : w.cell? ⟨g, 0, none⟩ = some (.int .i64 i.t) ∧ w.cell? ⟨g, 1, none⟩ = some (.int .i64 i.s) ∧ w.cell? ⟨g, 2, none⟩ = some (.int .i64 i.q) ∧ w.cell? ⟨g, 3, none⟩ = some (.int .i64 i.to) ∧ w.cell? ⟨g, 4, none⟩ = some (.int .i64 i.v) :=
  ⟨by rw [h.cell]; rfl, by rw [h.cell]; rfl, by rw [h.cell]; rfl, by rw [h.cell]; rfl, by rw [h.cell]; rfl⟩
theorem Blk.ky {w : World} {g : Nat} {t : TypeId} {i : Ky} (h : Blk w g t (kyC i).toArray) : w.cell? ⟨g, 0, none⟩ = some (.int .i64 i.t) ∧ w.cell? ⟨g, 1, none⟩ = some (.int .i64 i.s) ∧ w.cell? ⟨g, 2, none⟩ = some (.int .i64 i.q) :=
  ⟨by rw [h.cell]; rfl, by rw [h.cell]; rfl, by rw [h.cell]; rfl⟩
/-- An event is what a Go event can be. -/
structure EvOk (e : Ev) : Prop where
  t1 : -9223372036854775808 ≤ e.t
  t2 : e.t ≤ 9223372036854775807
  s1 : -9223372036854775808 ≤ e.s
  s2 : e.s ≤ 9223372036854775807
  q1 : -9223372036854775808 ≤ e.q
  q2 : e.q ≤ 9223372036854775807
  o1 : -9223372036854775808 ≤ e.to
  o2 : e.to ≤ 9223372036854775807
  v1 : -9223372036854775808 ≤ e.v
  v2 : e.v ≤ 9223372036854775807
end Go.Fx
