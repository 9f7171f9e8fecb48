/- An inbox over the server: what it holds; none, answered, and taking the next frame. -/
import Derived.Test.YtpipnefepnknoaaSrvB
namespace Go.Fx
open Go.RowKit
/-- What an inbox and its server are like. -/
structure St where
  wait : List (List Nat)
  pend : Bool
  cur : List Nat
  left : Nat
  calls : List Nat
  put : Nat
  ans : Nat
  turns : Nat
  idle : Nat
section
variable {w w' : World} {g : Nat} {t : TypeId} {a0 a1 a2 a3 a4 a5 a6 : Value}
theorem Blk.c7 (h : Blk w g t #[a0, a1, a2, a3, a4, a5, a6]) : w.cell? ⟨g, 0, none⟩ = some a0 ∧ w.cell? ⟨g, 1, none⟩ = some a1 ∧ w.cell? ⟨g, 2, none⟩ = some a2 ∧ w.cell? ⟨g, 3, none⟩ = some a3 ∧ w.cell? ⟨g, 4, none⟩ = some a4 ∧ w.cell? ⟨g, 5, none⟩ = some a5 ∧ w.cell? ⟨g, 6, none⟩ = some a6 :=
  ⟨by rw [h.cell]; rfl, by rw [h.cell]; rfl, by rw [h.cell]; rfl, by rw [h.cell]; rfl, by rw [h.cell]; rfl, by rw [h.cell]; rfl, by rw [h.cell]; rfl⟩
theorem Blk.f7 {cs : Array Value} (h : Blk w g t cs) : w.frozen? ⟨g, 0, none⟩ = false ∧ w.frozen? ⟨g, 1, none⟩ = false ∧ w.frozen? ⟨g, 2, none⟩ = false ∧ w.frozen? ⟨g, 3, none⟩ = false ∧ w.frozen? ⟨g, 4, none⟩ = false ∧ w.frozen? ⟨g, 5, none⟩ = false ∧ w.frozen? ⟨g, 6, none⟩ = false :=
  ⟨h.frozen 0, h.frozen 1, h.frozen 2, h.frozen 3, h.frozen 4, h.frozen 5, h.frozen 6⟩
theorem Blk.u1 (h : Blk w g t #[a0, a1, a2, a3, a4, a5, a6]) (u : Value) : Blk (w.setCell ⟨g, 1, none⟩ u) g t #[a0, u, a2, a3, a4, a5, a6] := by simpa using h.set_ 1 u
theorem Blk.u2 (h : Blk w g t #[a0, a1, a2, a3, a4, a5, a6]) (u : Value) : Blk (w.setCell ⟨g, 2, none⟩ u) g t #[a0, a1, u, a3, a4, a5, a6] := by simpa using h.set_ 2 u
theorem Blk.u3 (h : Blk w g t #[a0, a1, a2, a3, a4, a5, a6]) (u : Value) : Blk (w.setCell ⟨g, 3, none⟩ u) g t #[a0, a1, a2, u, a4, a5, a6] := by simpa using h.set_ 3 u
theorem Blk.u4 (h : Blk w g t #[a0, a1, a2, a3, a4, a5, a6]) (u : Value) : Blk (w.setCell ⟨g, 4, none⟩ u) g t #[a0, a1, a2, a3, u, a5, a6] := by simpa using h.set_ 4 u
theorem Blk.u5 (h : Blk w g t #[a0, a1, a2, a3, a4, a5, a6]) (u : Value) : Blk (w.setCell ⟨g, 5, none⟩ u) g t #[a0, a1, a2, a3, a4, u, a6] := by simpa using h.set_ 5 u
theorem Blk.u6 (h : Blk w g t #[a0, a1, a2, a3, a4, a5, a6]) (u : Value) : Blk (w.setCell ⟨g, 6, none⟩ u) g t #[a0, a1, a2, a3, a4, a5, u] := by simpa using h.set_ 6 u
end
end Go.Fx
namespace Go.Proofs.Ytpipnefepnknoaa
open Go.RowKit Go.Fx
/-- The inbox's own block. -/
def IbBlk (w : World) (ib sv : Nat) (pend : Bool) (Q : Sl) (p a t i : Nat) : Prop :=
  Blk w ib 52 #[.iface 26 (.pointer (some ⟨sv, 0, none⟩)), .bool pend, slv Q, .int .i64 (p : Int), .int .i64 (a : Int), .int .i64 (t : Int), .int .i64 (i : Int)]
theorem ifc_nil (w : World) (sv : Nat) : (binOp .eql 50 (.iface 26 (.pointer (some ⟨sv, 0, none⟩))) .nilIface).run Try.prog w = .ok (.bool false) w := by kernel_rfl
set_option maxHeartbeats 400000 in
theorem ib_none (ib sv : Nat) (pend : Bool) (Q : Sl) (p a t i : Nat) (w : World) (h : IbBlk w ib sv pend Q p a t i) :
    Calls Try.prog 28 #[.pointer (some ⟨ib, 0, none⟩)] w fun e w' => e = .returned (.bool false) ∧ w = w' := by
  obtain ⟨c0, c1, c2, c3, c4, c5, c6⟩ := Blk.c7 h
  have hn := fun w => ifc_nil w sv
  go_enter Try.func28, Try.ntmps28
  go_wp2
  go_ret
  exact ⟨rfl, rfl⟩
/-- What answered leaves. -/
structure Answered (w : World) (ib sv : Nat) (Q : Sl) (p a t i : Nat) (xs : List Nat) (s : Sl) (w' : World) : Prop where
  blk : IbBlk w' ib sv false Q p (a + 1) t i
  byt : Byt w' s xs
  chg : Chg (fun k => k = ib) w w'
  new : ∀ k, foot s.A s.c k → w.heap.size ≤ k
set_option maxHeartbeats 400000 in
theorem ib_answered (ib sv : Nat) (pend : Bool) (Q r : Sl) (p a t i : Nat) (xs : List Nat) (w : World) (h : IbBlk w ib sv pend Q p a t i) (hr : Byt w r xs) (hd : ¬ foot r.A r.c ib) (ha : a ≤ 1000000000) (hx : xs.length ≤ 1000000000) :
    Calls Try.prog 30 #[.pointer (some ⟨ib, 0, none⟩), .slice r.A r.n r.c] w fun e w' => ∃ s, e = .returned (slv s) ∧ Answered w ib sv Q p a t i xs s w' := by
  obtain ⟨c0, c1, c2, c3, c4, c5, c6⟩ := Blk.c7 h
  obtain ⟨f0, f1, f2, f3, f4, f5, f6⟩ := Blk.f7 h
  have b1 := Blk.u4 (Blk.u1 h (.bool false)) (.int .i64 ((a : Int) + 1))
  have ch1 : Chg (fun k => k = ib) w ((w.setCell ⟨ib, 1, none⟩ (.bool false)).setCell ⟨ib, 4, none⟩ (.int .i64 ((a : Int) + 1))) := (Chg.set (T := fun k => k = ib) _ _ _ _ rfl).t (Chg.set (T := fun k => k = ib) _ _ _ _ rfl)
  have hr1 := hr.chg ch1 (fun k hk e => hd (e ▸ hk))
  have hrl : r.n = xs.length := by have := hr.room.1; simpa using this.symm
  have HC := Lib.hid (bytes_Clone r.A r.n r.c xs _ hr1.rd hr.lt (by omega))
  have Hch := Lib.hid ch1
  have Hb := Lib.hid b1
  clear b1 ch1 hr1 hrl hr hx h
  go_enter Try.func30, Try.ntmps30
  go_wp2_with fail
  refine HC.out.mono ?_
  rintro e w2 ⟨s, rfl, hc⟩
  have Hc := Lib.hid hc
  clear hc
  unfold slv
  go_wp2_with fail
  go_ret
  refine ⟨s, rfl, (show IbBlk _ ib sv false Q p (a + 1) t i from Hb.out).ext Hc.out.ext, Hc.out.byt, Hch.out.e Hc.out.ext, fun k hk => ?_⟩
  have := Hc.out.new k hk
  simpa [setCell_size] using this
/-- What taking the next frame leaves. -/
structure Next (w : World) (ib sv : Nat) (pend : Bool) (Q : Sl) (ss : List Sl) (p a t i : Nat) (w' : World) (Q' : Sl) : Prop where
  blk : IbBlk w' ib sv pend Q' p a t i
  que : Room w' Q'.A Q'.n Q'.c (ss.map slv)
  chg : Chg (fun k => k = ib ∨ foot Q.A Q.c k) w w'
  sub : ∀ k, foot Q'.A Q'.c k → foot Q.A Q.c k
set_option maxHeartbeats 1000000 in
theorem ib_next (ib sv Bb : Nat) (pend : Bool) (Q s : Sl) (ss : List Sl) (p a t i : Nat) (w : World) (h : IbBlk w ib sv pend Q p a t i) (hq : Room w Q.A Q.n Q.c ((s :: ss).map slv)) (hb : w.cell? ⟨Bb, 0, none⟩ = some (.pointer (some ⟨ib, 0, none⟩))) (_hbi : Bb ≠ ib) (hbq : ¬ foot Q.A Q.c Bb) (hqi : ¬ foot Q.A Q.c ib) :
    Calls Try.prog 37 #[.pointer (some ⟨Bb, 0, none⟩)] w fun e w' => ∃ Q', e = .returned (slv s) ∧ Next w ib sv pend Q ss p a t i w' Q' := by
  obtain ⟨c0, c1, c2, c3, c4, c5, c6⟩ := Blk.c7 h
  obtain ⟨f0, f1, f2, f3, f4, f5, f6⟩ := Blk.f7 h
  unfold slv at c2
  obtain ⟨A, n, c⟩ := Q
  simp only at *
  have hn : n = ss.length + 1 := by have := hq.1; simpa using this.symm
  have hnc := hq.2.1
  have hmx := hq.2.2.1
  unfold maxLen at hmx
  obtain ⟨g, o, rfl, hg⟩ := hq.some_ (by omega)
  have hgi : g ≠ ib := fun e => hqi ⟨by omega, o, by rw [e]⟩
  have hgb : g ≠ Bb := fun e => hbq ⟨by omega, o, by rw [e]⟩
  have cs := hq.cellAt (k := 0) (u := slv s) rfl
  have fs := hq.frozenAt (k := 0) (by omega)
  rw [Nat.add_zero] at cs fs
  unfold slv at cs
  have h1 : (0 : Int) < (n : Int) := by omega
  have h2 : (1 : Int) ≤ (n : Int) := by omega
  have h2' : (n : Int) ≤ (c : Int) := by omega
  have hset := hq.set (k := 0) (by omega) (.slice none 0 0)
  rw [Nat.add_zero] at hset
  simp only [List.map_cons, List.set_cons_zero] at hset
  have b1 := Blk.chg h (Chg.set (T := fun k => k = g) w g o (.slice none 0 0) rfl) (fun e => hgi e.symm)
  have hb1 : (w.setCell ⟨g, o, none⟩ (.slice none 0 0)).cell? ⟨Bb, 0, none⟩ = some (.pointer (some ⟨ib, 0, none⟩)) := by rw [World.cell?_setCell_other _ _ _ _ (by simp)]; exact hb
  have Hn := Lib.hid hn
  have Hset := Lib.hid hset
  have Hq := Lib.hid hq
  have Hb1 := Lib.hid b1
  clear hn hset hq b1
  go_enter Try.func37, Try.ntmps37
  go_wp2_with fail
  clear c0 c1 c2 c3 c4 c5 c6 f0 f1 f2 f3 f4 f5 f6 cs fs hb h
  have Hch := Lib.hid (Chg.set (T := fun k => k = ib ∨ foot (some ⟨g, o, none⟩) c k) w g o (.slice none 0 0) (.inr ⟨by omega, o, rfl⟩))
  generalize hW : w.setCell ⟨g, o, none⟩ (.slice none 0 0) = W at *
  clear hW
  obtain ⟨c0, c1, c2, c3, c4, c5, c6⟩ := Blk.c7 Hb1.out
  obtain ⟨f0, f1, f2, f3, f4, f5, f6⟩ := Blk.f7 Hb1.out
  unfold slv at c2
  simp only at c2
  by_cases hc1 : c = 1
  · subst hc1
    obtain rfl : n = 1 := by omega
    go_region
    all_goals go_wp2_with fail
    all_goals go_ret
    all_goals
      refine ⟨⟨some ⟨g, o, none⟩, 0, 0⟩, rfl, (Blk.drew Hb1.out).u2 _, ?_, (Hch.out.t (Chg.drew _)).t (Chg.set _ _ _ _ (.inl rfl)), fun k hk => absurd hk foot_zero⟩
      have : ss = [] := List.eq_nil_of_length_eq_zero (by have := Hn.out; omega)
      subst this
      exact Room.zero
  · have hc2 : ¬ c = 1 := hc1
    go_region
    all_goals go_wp2_with fail
    all_goals go_ret
    all_goals
      refine ⟨⟨some ⟨g, o + 1, none⟩, n - 1, c - 1⟩, rfl, (Blk.drew Hb1.out).u2 _, ?_, (Hch.out.t (Chg.drew _)).t (Chg.set _ _ _ _ (.inl rfl)), fun k hk => ?_⟩
      · have h3 := (Hset.out.drop (k := 1) (by omega)).ext (Ext.drew W)
        simp only [List.drop_succ_cons, List.drop_zero] at h3
        refine h3.chg (Chg.set (T := fun k => k = ib) _ _ _ _ rfl) (fun k hk e => hgi ?_)
        rw [← foot_some hk, e]
      · exact ⟨by show 0 < c; omega, o, by rw [foot_some hk]⟩
end Go.Proofs.Ytpipnefepnknoaa
