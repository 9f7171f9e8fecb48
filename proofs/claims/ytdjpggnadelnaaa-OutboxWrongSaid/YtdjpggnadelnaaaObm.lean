/- Obm: outboxes in memory: New, none, Len, Room, Events, Sorted, Back. -/
import Derived.Test.YtdjpggnadelnaaaOkr
import Derived.Test.YtdjpggnadelnaaaMso
namespace Go.Proofs.Ytdjpggnadelnaaa
open Go.RowKit Go.Fx
/-- An outbox in block g, its events in the slice A n c. -/
structure Obx (w : World) (g : Nat) (s lim e : Int) (evs : List Ev) (A : Option Addr) (n c : Nat) : Prop where
  blk : Blk w g 71 #[.int .i64 s, .int .i64 lim, .int .i64 e, .slice A n c]
  room : RoomS 5 w A n c (evs.flatMap evC)
  len : evs.length = n
  off : ¬ foot A c g
  ok : BoxOk s lim e evs
  evok : ∀ x ∈ evs, EvOk x
section
variable {T : Nat → Prop} {w w' : World} {g n c : Nat} {s lim e : Int} {evs : List Ev} {A : Option Addr}
theorem Obx.chg (h : Obx w g s lim e evs A n c) (hc : Chg T w w') (hg : ¬ T g) (hT : ∀ k, foot A c k → ¬ T k) : Obx w' g s lim e evs A n c :=
  ⟨h.blk.chg hc hg, h.room.chg hc hT, h.len, h.off, h.ok, h.evok⟩
theorem Obx.ext (h : Obx w g s lim e evs A n c) (hx : Ext w w') : Obx w' g s lim e evs A n c := h.chg (T := fun _ => False) (Chg.ofExt hx) (fun t => t) (fun _ _ t => t)
theorem Obx.lt (h : Obx w g s lim e evs A n c) {k : Nat} (hk : k = g ∨ foot A c k) : k < w.heap.size := hk.elim (fun e => by rw [e]; exact h.blk.lt) (fun f => h.room.lt f)
theorem Obx.cells (h : Obx w g s lim e evs A n c) : w.cell? ⟨g, 0, none⟩ = some (.int .i64 s) ∧ w.cell? ⟨g, 1, none⟩ = some (.int .i64 lim) ∧ w.cell? ⟨g, 2, none⟩ = some (.int .i64 e) ∧ w.cell? ⟨g, 3, none⟩ = some (.slice A n c) :=
  ⟨by rw [h.blk.cell]; rfl, by rw [h.blk.cell]; rfl, by rw [h.blk.cell]; rfl, by rw [h.blk.cell]; rfl⟩
theorem Obx.n_le (h : Obx w g s lim e evs A n c) : n ≤ 256 := by have := h.ok.len; have := h.len; omega
end
set_option maxRecDepth 100000 in
theorem obx_new (s l e : Int) (w : World) (h : newB s l e = true) :
    Calls Try.prog 19 #[.int .i64 s, .int .i64 l, .int .i64 e] w fun en w' => ∃ g, en = .returned (.tuple #[.pointer (some ⟨g, 0, none⟩), .int .i64 0]) ∧ Obx w' g s l e [] none 0 0 ∧ w.heap.size ≤ g ∧ Ext w w' := by
  have hn := h
  unfold newB at hn
  rw [decide_eq_true_eq] at hn
  obtain ⟨h1, h2, h3, h4, h5, h6⟩ := hn
  have n1 : ¬ (s < 1) := by omega
  have n2 : ¬ (s > 16) := by omega
  have n3 : ¬ (l < 0) := by omega
  have n4 : ¬ (l > 256) := by omega
  have n5 : ¬ (e < 0) := by omega
  have n6 : decide (e > 281474976710657) = false := by simp; omega
  have HO := Lib.hid (BoxOk.nil h)
  clear h h1 h2 h3 h4 h5 h6
  go_enter Try.func19, Try.ntmps19
  go_wp2_with fail
  go_ret2
  exact ⟨w.heap.size, rfl, ⟨Blk.new _ _ _, RoomS.nil, rfl, foot_none, HO.out, by simp⟩, Nat.le_refl _, Ext.alloc _ _⟩
set_option maxRecDepth 100000 in
theorem obx_new_bad (s l e : Int) (w : World) (h : newB s l e = false) :
    Calls Try.prog 19 #[.int .i64 s, .int .i64 l, .int .i64 e] w fun en w' => en = .returned (.tuple #[.pointer none, .int .i64 2]) ∧ Ext w w' := by
  unfold newB at h
  rw [decide_eq_false_iff_not] at h
  by_cases n1 : s < 1
  · clear h
    go_enter Try.func19, Try.ntmps19
    go_wp2_with fail
    go_ret2
    exact ⟨rfl, Ext.refl _⟩
  · by_cases n2 : s > 16
    · clear h
      go_enter Try.func19, Try.ntmps19
      go_wp2_with fail
      go_ret2
      exact ⟨rfl, Ext.refl _⟩
    · by_cases n3 : l < 0
      · clear h
        go_enter Try.func19, Try.ntmps19
        go_wp2_with fail
        go_ret2
        exact ⟨rfl, Ext.refl _⟩
      · by_cases n4 : l > 256
        · clear h
          go_enter Try.func19, Try.ntmps19
          go_wp2_with fail
          go_ret2
          exact ⟨rfl, Ext.refl _⟩
        · by_cases n5 : e < 0
          · clear h
            go_enter Try.func19, Try.ntmps19
            go_wp2_with fail
            go_ret2
            exact ⟨rfl, Ext.refl _⟩
          · have n6 : decide (e > 281474976710657) = true := by simp; omega
            clear h
            go_enter Try.func19, Try.ntmps19
            go_wp2_with fail
            go_ret2
            exact ⟨rfl, Ext.refl _⟩
theorem obx_none {w : World} {g n c : Nat} {s lim e : Int} {evs : List Ev} {A : Option Addr} (h : Obx w g s lim e evs A n c) :
    Calls Try.prog 32 #[.pointer (some ⟨g, 0, none⟩)] w fun en w' => en = .returned (.bool false) ∧ w = w' := by
  obtain ⟨c0, -, -, -⟩ := h.cells
  have hs : (s == 0) = false := by have := h.ok.nums; simp; omega
  clear h
  go_enter Try.func32, Try.ntmps32
  go_wp2_with fail
  go_ret
  exact ⟨rfl, rfl⟩
theorem nil_none (w : World) : Calls Try.prog 32 #[.pointer none] w fun en w' => en = .returned (.bool true) ∧ w = w' := by
  go_enter Try.func32, Try.ntmps32
  go_wp2_with fail
  go_ret
  exact ⟨rfl, rfl⟩
theorem obx_len {w : World} {g n c : Nat} {s lim e : Int} {evs : List Ev} {A : Option Addr} (h : Obx w g s lim e evs A n c) :
    Calls Try.prog 18 #[.pointer (some ⟨g, 0, none⟩)] w fun en w' => en = .returned (.int .i64 (n : Int)) ∧ w = w' := by
  have HN := Lib.hid (obx_none h)
  obtain ⟨-, -, -, c3⟩ := h.cells
  clear h
  go_enter Try.func18, Try.ntmps18
  go_wp2_with fail
  refine HN.out.mono ?_; rintro en w1 ⟨rfl, rfl⟩
  go_wp2_with fail
  go_ret
  exact ⟨rfl, rfl⟩
theorem obx_room {w : World} {g n c : Nat} {s lim e : Int} {evs : List Ev} {A : Option Addr} (h : Obx w g s lim e evs A n c) :
    Calls Try.prog 21 #[.pointer (some ⟨g, 0, none⟩)] w fun en w' => en = .returned (.int .i64 (lim - (n : Int))) ∧ Ext w w' := by
  have HN := Lib.hid (obx_none h)
  obtain ⟨-, c1, -, c3⟩ := h.cells
  have hn := h.n_le
  have hl := h.ok.nums
  have hw : IntKind.i64.wrap (lim - (n : Int)) = lim - (n : Int) := IntWalk.i64_in _ (by omega)
  clear h hl
  go_enter Try.func21, Try.ntmps21
  go_wp2_with fail
  refine HN.out.mono ?_; rintro en w1 ⟨rfl, rfl⟩
  go_wp2_with fail
  go_quiet (fail)
  go_wp2_with fail
  go_ret
  exact ⟨rfl, Ext.drewN _ _⟩
theorem obx_events {w : World} {g n c : Nat} {s lim e : Int} {evs : List Ev} {A : Option Addr} (h : Obx w g s lim e evs A n c) :
    Calls Try.prog 20 #[.pointer (some ⟨g, 0, none⟩)] w fun en w' => ∃ A' c', en = .returned (.slice A' n c') ∧ RoomS 5 w' A' n c' (evs.flatMap evC) ∧ (∀ k, foot A' c' k → w.heap.size ≤ k) ∧ Ext w w' := by
  have HN := Lib.hid (obx_none h)
  obtain ⟨-, -, -, c3⟩ := h.cells
  have HC := Lib.hid (cloneE A n c evC_len evC_one evs w (h.room.rd evC_len (by decide)) (by have := h.n_le; omega))
  clear h
  go_enter Try.func20, Try.ntmps20
  go_wp2_with fail
  refine HN.out.mono ?_; rintro en w1 ⟨rfl, rfl⟩
  go_wp2_with fail
  refine HC.out.mono ?_; rintro en w2 ⟨A', c', rfl, r, ex, f⟩
  have HR := Lib.hid (And.intro r (And.intro f ex))
  clear r ex f
  go_wp2_with fail
  go_ret
  exact ⟨A', c', rfl, HR.out⟩
theorem nil_events (w : World) : Calls Try.prog 20 #[.pointer none] w fun en w' => en = .returned (.slice none 0 0) ∧ w = w' := by
  go_enter Try.func20, Try.ntmps20
  go_wp2_with fail
  refine (nil_none w).mono ?_; rintro en w1 ⟨rfl, rfl⟩
  go_wp2_with fail
  go_ret
  exact ⟨rfl, rfl⟩
theorem obx_sorted {w : World} {g n c : Nat} {s lim e : Int} {evs : List Ev} {A : Option Addr} (h : Obx w g s lim e evs A n c) :
    Calls Try.prog 23 #[.pointer (some ⟨g, 0, none⟩)] w fun en w' => ∃ A' c', en = .returned (.slice A' n c') ∧ RoomS 5 w' A' n c' ((isort evs).flatMap evC) ∧ (∀ k, foot A' c' k → w.heap.size ≤ k) ∧ Ext w w' := by
  have HE := Lib.hid (obx_events h)
  have Hd := Lib.hid h.ok.dif
  have Hn := Lib.hid h.n_le
  have Ho := Lib.hid h.evok
  have Hl := Lib.hid h.len
  clear h
  go_enter Try.func23, Try.ntmps23
  go_wp2_with fail
  refine HE.out.mono ?_; rintro en w1 ⟨A', c', rfl, r, f, ex⟩
  have HS := Lib.hid (sort_ A' n c' evs w1 (r.rd evC_len (by decide)) r.2.1 (by have := Hn.out; omega) Ho.out)
  rw [sortF_ok Hd.out] at HS
  have E1 := Lib.hid ex
  clear r f ex HE
  go_wp2_with fail
  refine HS.out.mono ?_; rintro en w2 ⟨A2, n2, c2, rfl, r2, l2, f2, e2⟩
  have hn2 : n2 = n := by have h1 := isort_len evs; have h2 := Hl.out; have h3 : (isort evs).length = n2 := l2; omega
  subst hn2
  have HR := Lib.hid (And.intro r2 (And.intro (show ∀ k, foot A2 c2 k → w.heap.size ≤ k from fun k hk => Nat.le_trans E1.out.size (f2 k hk)) (E1.out.t e2)))
  clear r2 l2 f2 e2 HS
  go_wp2_with fail
  go_ret
  exact ⟨A2, c2, rfl, HR.out⟩
theorem nil_sorted (w : World) : Calls Try.prog 23 #[.pointer none] w fun en w' => ∃ A' c', en = .returned (.slice A' 0 c') ∧ RoomS 5 w' A' 0 c' [] ∧ (∀ k, foot A' c' k → w.heap.size ≤ k) ∧ Ext w w' := by
  have HS := Lib.hid (sort_ none 0 0 [] w RdS.none_ (Nat.le_refl _) (by omega) (by simp))
  rw [sortF_ok List.Pairwise.nil] at HS
  go_enter Try.func23, Try.ntmps23
  go_wp2_with fail
  refine (nil_events w).mono ?_; rintro en w1 ⟨rfl, rfl⟩
  go_wp2_with fail
  refine HS.out.mono ?_; rintro en w2 ⟨A2, n2, c2, rfl, r2, l2, f2, e2⟩
  obtain rfl : n2 = 0 := by simpa [isort] using l2.symm
  have HR := Lib.hid (And.intro r2 (And.intro f2 e2))
  clear r2 l2 f2 e2 HS
  go_wp2_with fail
  go_ret
  exact ⟨A2, c2, rfl, HR.out⟩
/-- What Back leaves. -/
def BackP (w : World) (g : Nat) (s lim e : Int) (evs : List Ev) (A : Option Addr) (n c : Nat) (z : Int) (en : Ending) (w' : World) : Prop :=
  ∃ n' : Nat, n' ≤ n ∧ Obx w' g s lim e (evs.take n') A n' c ∧ Chg (fun k => k = g) w w' ∧ ((0 ≤ z ∧ z = (n' : Int) ∧ en = .returned (.tuple #[.int .i64 ((n : Int) - (n' : Int)), .int .i64 0])) ∨ ((z < 0 ∨ (n : Int) < z) ∧ n' = n ∧ en = .returned (.tuple #[.int .i64 0, .int .i64 2])))
set_option maxRecDepth 100000 in
theorem obx_back {w : World} {g n c : Nat} {s lim e : Int} {evs : List Ev} {A : Option Addr} (z : Int) (h : Obx w g s lim e evs A n c) :
    Calls Try.prog 22 #[.pointer (some ⟨g, 0, none⟩), .int .i64 z] w (BackP w g s lim e evs A n c z) := by
  have HN := Lib.hid (obx_none h)
  obtain ⟨-, -, -, c3⟩ := h.cells
  have f3 := h.blk.frozen 3
  have HO := Lib.hid h
  have hn := h.n_le
  have hnc := h.room.2.1
  have Hall := Lib.hid (show evs.take n = evs from List.take_of_length_le (by have := h.len; omega))
  clear h
  by_cases hz : z < 0
  · go_enter Try.func22, Try.ntmps22
    go_wp2_with fail
    refine HN.out.mono ?_; rintro en w1 ⟨rfl, rfl⟩
    go_wp2_with fail
    go_ret2
    exact ⟨n, Nat.le_refl _, by rw [Hall.out]; exact HO.out, Chg.refl _ _, .inr ⟨.inl hz, rfl, rfl⟩⟩
  · by_cases hz2 : z > (n : Int)
    · go_enter Try.func22, Try.ntmps22
      go_wp2_with fail
      refine HN.out.mono ?_; rintro en w1 ⟨rfl, rfl⟩
      go_wp2_with fail
      go_ret2
      exact ⟨n, Nat.le_refl _, by rw [Hall.out]; exact HO.out, Chg.refl _ _, .inr ⟨.inr hz2, rfl, rfl⟩⟩
    · obtain ⟨m, rfl⟩ : ∃ m : Nat, z = (m : Int) := ⟨z.toNat, by omega⟩
      have hsl := fun w' => ev_to (A := A) (n := n) (c := c) (hi := m) (li := (m : Int)) w' rfl (by omega)
      have hw : IntKind.i64.wrap ((n : Int) - (m : Int)) = (n : Int) - (m : Int) := IntWalk.i64_in _ (by omega)
      have hmc : (m : Int) ≤ (c : Int) := by omega
      go_enter Try.func22, Try.ntmps22
      go_wp2_with fail
      refine HN.out.mono ?_; rintro en w1 ⟨rfl, rfl⟩
      go_wp2_with fail
      go_ret2
      have ch := Chg.set w g 3 (.slice A m c) (T := fun k => k = g) rfl
      refine ⟨m, by omega, ⟨HO.out.blk.set_ 3 _, ?_, by rw [List.length_take]; have := HO.out.len; omega, HO.out.off, HO.out.ok.take m, fun x hx => HO.out.evok x (List.mem_of_mem_take hx)⟩, ch, .inl ⟨by omega, rfl, rfl⟩⟩
      rw [flat_take evC_len]
      exact (HO.out.room.take (by omega)).chg ch (fun k hk e => HO.out.off (by rw [← e]; exact hk))
end Go.Proofs.Ytdjpggnadelnaaa
