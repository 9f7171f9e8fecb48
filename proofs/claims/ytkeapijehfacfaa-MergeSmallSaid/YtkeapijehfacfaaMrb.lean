/- Mrb: before; whether two lists of events, of pairs are the same. -/
import Derived.Test.YtkeapijehfacfaaKcp
namespace Go.Proofs.Ytkeapijehfacfaa
open Go.RowKit Go.Fx
theorem before_ (a b : Ev) (w : World) : Calls Try.prog 43 #[evV a, evV b] w fun e w' => e = .returned (.bool (elB a b)) ∧ Ext w w' := by
  have HC := Lib.hid (fun w' => kcompare_ a.k b.k w')
  have hb := cmpK_lt a.k b.k
  unfold CmpP at HC
  rw [show elB a b = klB a.k b.k from rfl, ← hb]
  generalize cmpK a.k b.k = z at *
  obtain ⟨z1, z2⟩ := z
  clear hb
  unfold kyV Ev.k at HC
  unfold evV
  go_enter Try.func43, Try.ntmps43
  go_wp2_with fail
  refine (HC.out _).mono ?_; rintro e w2 ⟨rfl, e2⟩
  have E2 := Lib.hid (((Ext.alloc w _).t (Ext.alloc _ _)).t e2)
  clear e2 HC
  go_wp2_with fail
  go_ret
  exact ⟨rfl, E2.out⟩
theorem rdS_pr {w : World} {A : Option Addr} {n k : Nat} {p : List (Nat × Nat)} (h : RdS 2 pairC w A n p) (hk : k < n) : ∃ b o r, A = some ⟨b, o, none⟩ ∧ b < w.heap.size ∧ p[k]? = some r ∧
    w.cell? ⟨b, o + k * 2, none⟩ = some (.int .i64 (r.1 : Int)) ∧ w.cell? ⟨b, o + k * 2 + 1, none⟩ = some (.int .i64 (r.2 : Int)) := by
  obtain ⟨b, o, i, h1, h2, h3, h4⟩ := h.at_ hk
  exact ⟨b, o, i, h1, h2, h3, by simpa using h4 0 _ rfl, h4 1 _ rfl⟩
theorem ne_at {α : Type} {xs ys : List α} {k : Nat} {a b : α} (hx : xs[k]? = some a) (hy : ys[k]? = some b) (h : a ≠ b) : xs ≠ ys := by
  rintro rfl; rw [hx] at hy; exact h (Option.some.inj hy)
set_option maxRecDepth 100000 in
set_option maxHeartbeats 1000000 in
theorem equalE (A1 A2 : Option Addr) (n1 n2 c1 c2 : Nat) (xs ys : List Ev) (w : World) (h1 : RdS 5 evC w A1 n1 xs) (h2 : RdS 5 evC w A2 n2 ys) (m1 : n1 ≤ 1000000000000) (m2 : n2 ≤ 1000000000000) :
    Calls Try.prog 46 #[.slice A1 n1 c1, .slice A2 n2 c2] w fun e w' => e = .returned (.bool (decide (xs = ys))) ∧ Ext w w' := by
  have hl1 := h1.1
  have hl2 := h2.1
  by_cases hn : n1 = n2
  · subst hn
    have hne : ((n1 : Int) != (n1 : Int)) = false := by simp
    have H1 := Lib.hid h1
    have H2 := Lib.hid h2
    have hgu := fun w' op a b xs ys => guard_ev w' op a b xs ys
    clear h1 h2
    go_enter Try.func46, Try.ntmps46
    go_wp2
    go_loopw [13] (fun i wr => ∃ k : Nat, k ≤ n1 ∧ i = .int .i64 (k : Int) ∧ Hid (xs.take k = ys.take k) ∧ ∃ q, wr = w.drewN q) (fun i _ => n1 - (intOf i).toNat)
    case atStart => exact ⟨0, by omega, rfl, Lib.hid (by simp), 0, rfl⟩
    case round =>
      obtain ⟨k, hk, rfl, H, q, rfl⟩ := hrel
      by_cases hlt : k < n1
      · obtain ⟨b1, o1, x, rfl, _, hx, c0, c1', c2', c3, c4⟩ := RdS.ev H1.out hlt
        obtain ⟨b2, o2, y, rfl, _, hy, d0, d1, d2, d3, d4⟩ := RdS.ev H2.out hlt
        have hli : (k : Int) < (n1 : Int) := by omega
        have Hx := Lib.hid hx
        have Hy := Lib.hid hy
        have hneq := fun w' => neq_ev w' x y
        unfold evV at hneq
        clear hx hy
        by_cases hxy : x = y
        · subst hxy
          rw [show decide (x = x) = true from decide_eq_true rfl] at hneq
          go_wp2
          go_quiet (fail)
          go_wp2
          go_roundw
          case rel => exact ⟨k + 1, by omega, by go_num, Lib.hid (by rw [take_snoc Hx.out, take_snoc Hy.out, H.out]), _, rfl⟩
          case measure => simp [intOf]; omega
        · rw [show decide (x = y) = false from decide_eq_false hxy] at hneq
          go_wp2
          go_quiet (fail)
          go_wp2
          go_ret
          exact ⟨ret_bool (by symm; simpa using ne_at Hx.out Hy.out hxy), (Ext.drewN _ _).t (Ext.drewN _ _)⟩
      · obtain rfl : k = n1 := by omega
        go_wp2
        go_ret
        refine ⟨ret_bool ?_, Ext.drewN _ _⟩
        have := H.out
        rw [List.take_of_length_le (by omega), List.take_of_length_le (by omega)] at this
        simpa using this
  · have hne : ((n1 : Int) != (n2 : Int)) = true := by simp; omega
    clear h1 h2
    go_enter Try.func46, Try.ntmps46
    go_wp2
    go_ret
    refine ⟨ret_bool ?_, Ext.refl _⟩
    symm
    simp only [decide_eq_false_iff_not]
    rintro rfl
    omega
set_option maxRecDepth 100000 in
set_option maxHeartbeats 1000000 in
theorem equalP (A1 A2 : Option Addr) (n1 n2 c1 c2 : Nat) (xs ys : List (Nat × Nat)) (w : World) (h1 : RdS 2 pairC w A1 n1 xs) (h2 : RdS 2 pairC w A2 n2 ys) (m1 : n1 ≤ 1000000000000) (m2 : n2 ≤ 1000000000000) :
    Calls Try.prog 40 #[.slice A1 n1 c1, .slice A2 n2 c2] w fun e w' => e = .returned (.bool (decide (xs = ys))) ∧ Ext w w' := by
  have hl1 := h1.1
  have hl2 := h2.1
  by_cases hn : n1 = n2
  · subst hn
    have hne : ((n1 : Int) != (n1 : Int)) = false := by simp
    have H1 := Lib.hid h1
    have H2 := Lib.hid h2
    have hgu := fun w' op a b xs ys => guard_pr w' op a b xs ys
    clear h1 h2
    go_enter Try.func40, Try.ntmps40
    go_wp2
    go_loopw [13] (fun i wr => ∃ k : Nat, k ≤ n1 ∧ i = .int .i64 (k : Int) ∧ Hid (xs.take k = ys.take k) ∧ ∃ q, wr = w.drewN q) (fun i _ => n1 - (intOf i).toNat)
    case atStart => exact ⟨0, by omega, rfl, Lib.hid (by simp), 0, rfl⟩
    case round =>
      obtain ⟨k, hk, rfl, H, q, rfl⟩ := hrel
      by_cases hlt : k < n1
      · obtain ⟨b1, o1, x, rfl, _, hx, c0, c1'⟩ := rdS_pr H1.out hlt
        obtain ⟨b2, o2, y, rfl, _, hy, d0, d1⟩ := rdS_pr H2.out hlt
        have hli : (k : Int) < (n1 : Int) := by omega
        have Hx := Lib.hid hx
        have Hy := Lib.hid hy
        have hneq := fun w' => neq_pr w' x y
        unfold pairV at hneq
        clear hx hy
        by_cases hxy : x = y
        · subst hxy
          rw [show decide (x = x) = true from decide_eq_true rfl] at hneq
          go_wp2
          go_quiet (fail)
          go_wp2
          go_roundw
          case rel => exact ⟨k + 1, by omega, by go_num, Lib.hid (by rw [take_snoc Hx.out, take_snoc Hy.out, H.out]), _, rfl⟩
          case measure => simp [intOf]; omega
        · rw [show decide (x = y) = false from decide_eq_false hxy] at hneq
          go_wp2
          go_quiet (fail)
          go_wp2
          go_ret
          exact ⟨ret_bool (by symm; simpa using ne_at Hx.out Hy.out hxy), (Ext.drewN _ _).t (Ext.drewN _ _)⟩
      · obtain rfl : k = n1 := by omega
        go_wp2
        go_ret
        refine ⟨ret_bool ?_, Ext.drewN _ _⟩
        have := H.out
        rw [List.take_of_length_le (by omega), List.take_of_length_le (by omega)] at this
        simpa using this
  · have hne : ((n1 : Int) != (n2 : Int)) = true := by simp; omega
    clear h1 h2
    go_enter Try.func40, Try.ntmps40
    go_wp2
    go_ret
    refine ⟨ret_bool ?_, Ext.refl _⟩
    symm
    simp only [decide_eq_false_iff_not]
    rintro rfl
    omega
theorem same_ (A1 A2 : Option Addr) (n1 n2 c1 c2 : Nat) (xs ys : List Ev) (w : World) (h1 : RdS 5 evC w A1 n1 xs) (h2 : RdS 5 evC w A2 n2 ys) (m1 : n1 ≤ 1000000000000) (m2 : n2 ≤ 1000000000000) :
    Calls Try.prog 20 #[.slice A1 n1 c1, .slice A2 n2 c2] w fun e w' => e = .returned (.bool (decide (xs = ys))) ∧ Ext w w' := by
  have HC := Lib.hid (equalE A1 A2 n1 n2 c1 c2 xs ys w h1 h2 m1 m2)
  generalize decide (xs = ys) = z at *
  clear h1 h2
  go_enter Try.func20, Try.ntmps20
  go_wp2_with fail
  refine HC.out.mono ?_; rintro e w2 ⟨rfl, e2⟩
  go_wp2_with fail
  go_ret
  exact ⟨rfl, e2⟩
end Go.Proofs.Ytkeapijehfacfaa
