/- Osm: SameEvents; event. -/
import Derived.Test.YtdjpggnadelnaaaObm
namespace Go.Proofs.Ytdjpggnadelnaaa
open Go.RowKit Go.Fx
set_option maxRecDepth 100000 in
set_option maxHeartbeats 1000000 in
theorem sameL_ (A1 A2 : Option Addr) (n1 n2 c1 c2 : Nat) (xs ys : List Ev) (w : World) (h1 : RdS 5 evC w A1 n1 xs) (h2 : RdS 5 evC w A2 n2 ys) (m1 : n1 ≤ 1000000000000) (m2 : n2 ≤ 1000000000000) :
    Calls Try.prog 36 #[.slice A1 n1 c1, .slice A2 n2 c2] w fun e w' => e = .returned (.bool (decide (xs = ys))) ∧ Ext w w' := by
  have hl1 := h1.1
  have hl2 := h2.1
  by_cases hn : n1 = n2
  · subst hn
    have hne : ((n1 : Int) != (n1 : Int)) = false := by simp
    have H1 := Lib.hid h1
    have H2 := Lib.hid h2
    have hgu := fun w' op a b xs ys => guard_ev w' op a b xs ys
    clear h1 h2
    go_enter Try.func36, Try.ntmps36
    go_wp2
    go_loopw [13] (fun i wr => ∃ k : Nat, k ≤ n1 ∧ i = .int .i64 (k : Int) ∧ Hid (xs.take k = ys.take k) ∧ ∃ q, wr = w.drewN q) (fun i _ => n1 - (intOf i).toNat)
    case atStart => exact ⟨0, by omega, rfl, Lib.hid (by simp), 0, rfl⟩
    case round =>
      obtain ⟨k, hk, rfl, H, q, rfl⟩ := hrel
      by_cases hlt : k < n1
      · obtain ⟨b1, o1, x, rfl, _, hx, c0, c1', c2', c3, c4⟩ := H1.out.ev hlt
        obtain ⟨b2, o2, y, rfl, _, hy, d0, d1, d2, d3, d4⟩ := H2.out.ev hlt
        have hli : (k : Int) < (n1 : Int) := by omega
        have Hx := Lib.hid hx
        have Hy := Lib.hid hy
        have hneq := fun w' => neq_ev w' x y
        unfold evV at hneq
        clear hx hy
        by_cases hxy : x = y
        · subst hxy
          rw [show decide (x = x) = true from decide_eq_true rfl] at hneq
          go_wp2
          go_quiet (fail)
          go_wp2
          go_roundw
          case rel => exact ⟨k + 1, by omega, by go_num, Lib.hid (by rw [take_snoc Hx.out, take_snoc Hy.out, H.out]), _, rfl⟩
          case measure => simp [intOf]; omega
        · rw [show decide (x = y) = false from decide_eq_false hxy] at hneq
          go_wp2
          go_quiet (fail)
          go_wp2
          go_ret
          exact ⟨ret_bool (by symm; simpa using ne_at Hx.out Hy.out hxy), (Ext.drewN _ _).t (Ext.drewN _ _)⟩
      · obtain rfl : k = n1 := by omega
        go_wp2
        go_ret
        refine ⟨ret_bool ?_, Ext.drewN _ _⟩
        have := H.out
        rw [List.take_of_length_le (by omega), List.take_of_length_le (by omega)] at this
        simpa using this
  · have hne : ((n1 : Int) != (n2 : Int)) = true := by simp; omega
    clear h1 h2
    go_enter Try.func36, Try.ntmps36
    go_wp2
    go_ret
    refine ⟨ret_bool ?_, Ext.refl _⟩
    symm
    simp only [decide_eq_false_iff_not]
    rintro rfl
    omega
theorem sameE_ (A1 A2 : Option Addr) (n1 n2 c1 c2 : Nat) (xs ys : List Ev) (w : World) (h1 : RdS 5 evC w A1 n1 xs) (h2 : RdS 5 evC w A2 n2 ys) (m1 : n1 ≤ 1000000000000) (m2 : n2 ≤ 1000000000000) :
    Calls Try.prog 17 #[.slice A1 n1 c1, .slice A2 n2 c2] w fun e w' => e = .returned (.bool (decide (xs = ys))) ∧ Ext w w' := by
  have HC := Lib.hid (sameL_ A1 A2 n1 n2 c1 c2 xs ys w h1 h2 m1 m2)
  generalize decide (xs = ys) = z at *
  clear h1 h2
  go_enter Try.func17, Try.ntmps17
  go_wp2_with fail
  refine HC.out.mono ?_; rintro e w2 ⟨rfl, e2⟩
  go_wp2_with fail
  go_ret
  exact ⟨rfl, e2⟩
theorem event_ag (t s q : Int) (w : World) : Calls Try.prog 31 #[.int .i64 t, .int .i64 s, .int .i64 q] w fun e w' => e = .returned (.agg #[.int .i64 t, .int .i64 s, .int .i64 q, .int .i64 1, .int .i64 0]) ∧ w.alloc (.cells #[.int .i64 t, .int .i64 s, .int .i64 q, .int .i64 1, .int .i64 0] 35) = w' := by
  go_enter Try.func31, Try.ntmps31
  go_wp2_with fail
  refine bodyPost_ret (v := .agg #[.int .i64 t, .int .i64 s, .int .i64 q, .int .i64 1, .int .i64 0]) (by simp [results, Try.results31, go_sem]) rfl ⟨rfl, rfl⟩
/-- Two outboxes that share no memory; all of it lies from B on. -/
structure TwoB (B : Nat) (w : World) (g1 : Nat) (s1 l1 e1 : Int) (ev1 : List Ev) (A1 : Option Addr) (n1 c1 : Nat) (g2 : Nat) (s2 l2 e2 : Int) (ev2 : List Ev) (A2 : Option Addr) (n2 c2 : Nat) : Prop where
  o1 : Obx w g1 s1 l1 e1 ev1 A1 n1 c1
  o2 : Obx w g2 s2 l2 e2 ev2 A2 n2 c2
  ne : ∀ k, (k = g1 ∨ foot A1 c1 k) → ¬ (k = g2 ∨ foot A2 c2 k)
  lo1 : ∀ k, (k = g1 ∨ foot A1 c1 k) → B ≤ k
  lo2 : ∀ k, (k = g2 ∨ foot A2 c2 k) → B ≤ k
  sz : B ≤ w.heap.size
section
variable {B : Nat} {w w' : World} {g1 : Nat} {s1 l1 e1 : Int} {ev1 : List Ev} {A1 : Option Addr} {n1 c1 : Nat} {g2 : Nat} {s2 l2 e2 : Int} {ev2 : List Ev} {A2 : Option Addr} {n2 c2 : Nat}
theorem TwoB.swap (h : TwoB B w g1 s1 l1 e1 ev1 A1 n1 c1 g2 s2 l2 e2 ev2 A2 n2 c2) : TwoB B w g2 s2 l2 e2 ev2 A2 n2 c2 g1 s1 l1 e1 ev1 A1 n1 c1 := ⟨h.o2, h.o1, fun k h1 h2 => h.ne k h2 h1, h.lo2, h.lo1, h.sz⟩
theorem TwoB.ext (h : TwoB B w g1 s1 l1 e1 ev1 A1 n1 c1 g2 s2 l2 e2 ev2 A2 n2 c2) (e : Ext w w') : TwoB B w' g1 s1 l1 e1 ev1 A1 n1 c1 g2 s2 l2 e2 ev2 A2 n2 c2 := ⟨h.o1.ext e, h.o2.ext e, h.ne, h.lo1, h.lo2, Nat.le_trans h.sz e.size⟩
/-- The first one has turned. -/
theorem TwoB.turn {ev : List Ev} {A : Option Addr} {n c : Nat} (h : TwoB B w g1 s1 l1 e1 ev1 A1 n1 c1 g2 s2 l2 e2 ev2 A2 n2 c2) (ho : Obx w' g1 s1 l1 e1 ev A n c) (ch : Chg (fun k => k = g1 ∨ foot A1 c1 k) w w') (ft : ∀ k, foot A c k → foot A1 c1 k ∨ w.heap.size ≤ k) : TwoB B w' g1 s1 l1 e1 ev A n c g2 s2 l2 e2 ev2 A2 n2 c2 := by
  refine ⟨ho, h.o2.chg ch (fun hk => h.ne g2 hk (.inl rfl)) (fun k hk hk1 => h.ne k hk1 (.inr hk)), fun k hk hk2 => ?_, fun k hk => ?_, h.lo2, Nat.le_trans h.sz ch.size⟩
  · rcases hk with hk | hk
    · exact h.ne k (.inl hk) hk2
    · rcases ft k hk with h1 | h1
      · exact h.ne k (.inr h1) hk2
      · have := h.o2.lt hk2; omega
  · rcases hk with hk | hk
    · exact h.lo1 k (.inl hk)
    · exact (ft k hk).elim (fun h1 => h.lo1 k (.inr h1)) (fun h1 => Nat.le_trans h.sz h1)
theorem TwoB.low {T : Nat → Prop} {w0 : World} (h : TwoB B w g1 s1 l1 e1 ev1 A1 n1 c1 g2 s2 l2 e2 ev2 A2 n2 c2) (e : Ext w0 w) (hB : w0.heap.size ≤ B) (ch : Chg T w w') (hT : ∀ k, T k → k = g1 ∨ foot A1 c1 k) : Ext w0 w' :=
  e.trans (ch.below e.size (fun k hk ht => by have := h.lo1 k (hT k ht); omega))
end
end Go.Proofs.Ytdjpggnadelnaaa
