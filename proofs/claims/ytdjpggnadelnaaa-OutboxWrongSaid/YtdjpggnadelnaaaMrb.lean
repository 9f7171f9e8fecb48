/- Mrb: before. -/
import Derived.Test.YtdjpggnadelnaaaKcp
namespace Go.Proofs.Ytdjpggnadelnaaa
open Go.RowKit Go.Fx
theorem before_ (a b : Ev) (w : World) : Calls Try.prog 55 #[evV a, evV b] w fun e w' => e = .returned (.bool (elB a b)) ∧ Ext w w' := by
  have HC := Lib.hid (fun w' => kcompare_ a.k b.k w')
  have hb := cmpK_lt a.k b.k
  unfold CmpP at HC
  rw [show elB a b = klB a.k b.k from rfl, ← hb]
  generalize cmpK a.k b.k = z at *
  obtain ⟨z1, z2⟩ := z
  clear hb
  unfold kyV Ev.k at HC
  unfold evV
  go_enter Try.func55, Try.ntmps55
  go_wp2_with fail
  refine (HC.out _).mono ?_; rintro e w2 ⟨rfl, e2⟩
  have E2 := Lib.hid (((Ext.alloc w _).t (Ext.alloc _ _)).t e2)
  clear e2 HC
  go_wp2_with fail
  go_ret
  exact ⟨rfl, E2.out⟩
theorem rdS_pr {w : World} {A : Option Addr} {n k : Nat} {p : List (Nat × Nat)} (h : RdS 2 pairC w A n p) (hk : k < n) : ∃ b o r, A = some ⟨b, o, none⟩ ∧ b < w.heap.size ∧ p[k]? = some r ∧
    w.cell? ⟨b, o + k * 2, none⟩ = some (.int .i64 (r.1 : Int)) ∧ w.cell? ⟨b, o + k * 2 + 1, none⟩ = some (.int .i64 (r.2 : Int)) := by
  obtain ⟨b, o, i, h1, h2, h3, h4⟩ := h.at_ hk
  exact ⟨b, o, i, h1, h2, h3, by simpa using h4 0 _ rfl, h4 1 _ rfl⟩
theorem ne_at {α : Type} {xs ys : List α} {k : Nat} {a b : α} (hx : xs[k]? = some a) (hy : ys[k]? = some b) (h : a ≠ b) : xs ≠ ys := by
  rintro rfl; rw [hx] at hy; exact h (Option.some.inj hy)
end Go.Proofs.Ytdjpggnadelnaaa
