/- The reference answer's Form, Fold and Unfold: what they compute, and that it is the plain form. -/
import Derived.Test.YtidjimkhppfjjaaNumI
import Derived.Test.YtidjimkhppfjjaaMore
namespace Go.Fx.Num
/-- Digits by recursion, the lowest last. -/
def refD : Nat → Nat → List Nat
  | 0, x => [x]
  | f + 1, x => if x < 256 then [x] else refD f (x / 256) ++ [x % 256]
theorem digs_snoc (k x : Nat) : digs (k + 1) x = digs k (x / 256) ++ [x % 256] := by
  induction k with
  | zero => simp [digs]
  | succ k ih =>
    rw [digs, ih, digs, List.cons_append, Nat.div_div_eq_div_mul, ← Nat.pow_succ']
theorem refD_eq (f x : Nat) (h0 : 0 < x) (h : x < 256 ^ (f + 1)) : refD f x = digs (len256 (f + 1) x) x := by
  induction f generalizing x with
  | zero =>
    have : x < 256 := by simpa using h
    rw [len256_pos 0 x h0]
    simp [refD, len256, digs]
    omega
  | succ f ih =>
    rw [len256_pos (f + 1) x h0]
    by_cases hx : x < 256
    · rw [refD, if_pos hx, show x / 256 = 0 by omega, len256_zero]
      simp [digs]
      omega
    · rw [refD, if_neg hx, ih (x / 256) (by omega) (by rw [Nat.pow_succ] at h; omega), Nat.add_comm 1, digs_snoc]
theorem refD_length (f x : Nat) : 1 ≤ (refD f x).length ∧ (refD f x).length ≤ f + 1 := by
  induction f generalizing x with
  | zero => simp [refD]
  | succ f ih =>
    rw [refD]
    split
    · simp
    · have := ih (x / 256)
      rw [List.length_append, List.length_singleton]
      omega
theorem form_ref (x : Nat) (h : x < 18446744073709551616) (hs : ¬ x ≤ 246) : form x = (246 + (refD 7 x).length) :: refD 7 x := by
  unfold form
  rw [if_neg hs, refD_eq 7 x (by omega) (by omega), digs_length]
end Go.Fx.Num
namespace Go.Proofs.Ytidjimkhppfjjaa
open Go.RowKit Go.Fx

set_option maxHeartbeats 400000 in
theorem ref_digits (f x : Nat) (w : World) (hx : x < 256 ^ (f + 1)) (hf : f ≤ 7) :
    Calls Try.prog 42 #[.int .u64 x] w fun e w' => ∃ A c, e = .returned (.slice A (Num.refD f x).length c) ∧ w'.ownsRow w.heap.size 5 1 (.slice A (Num.refD f x).length c) (Num.refD f x).length ((Num.refD f x).map u8v) ∧ Ext w w' := by
  induction f generalizing x w with
  | zero =>
    have h' : (x : Int) < 256 := by simp at hx; omega
    clear hx
    go_enter Try.func42, Try.ntmps42
    go_wp2
    go_ret
    exact ⟨_, _, rfl, World.ownsRow_lit w _ 1 (Nat.le_refl _) (by simp [maxLen]) (by simp), Ext.alloc _ _⟩
  | succ f ih =>
    by_cases hs : x < 256
    · have h' : (x : Int) < 256 := by omega
      rw [show Num.refD (f + 1) x = [x] by rw [Num.refD, if_pos hs]]
      clear hx ih
      go_enter Try.func42, Try.ntmps42
      go_wp2
      go_ret
      exact ⟨_, _, rfl, World.ownsRow_lit w _ 1 (Nat.le_refl _) (by simp [maxLen]) (by simp), Ext.alloc _ _⟩
    · have h' : ((x : Int) < 256) = False := by simp; omega
      have hx2 : x < 18446744073709551616 := by
        have h1 : (256 : Nat) ^ (f + 1 + 1) ≤ 256 ^ 8 := Nat.pow_le_pow_right (by omega) (by omega)
        have h2 := Nat.lt_of_lt_of_le hx h1
        simpa using h2
      obtain ⟨y, hy⟩ : ∃ y, x / 256 = y := ⟨_, rfl⟩
      obtain ⟨z, hz⟩ : ∃ z, x % 256 = z := ⟨_, rfl⟩
      have Hr : Hid (Num.refD (f + 1) x = Num.refD f y ++ [z]) := Lib.hid (by rw [Num.refD, if_neg hs, hy, hz])
      have IH := Lib.hid (ih y w (by rw [Nat.pow_succ] at hx; omega) (by omega))
      have hl := Num.refD_length f y
      have hq : IntKind.u64.wrap ((x : Int) / 256) = (y : Int) := by rw [IntKind.wrap_u64]; omega
      have hq2 : IntKind.u64.wrap ((x : Int) % 256) = (z : Int) := by rw [IntKind.wrap_u64]; omega
      have hq3 : IntKind.u8.wrap (z : Int) = (z : Int) := by rw [IntKind.wrap_u8]; omega
      rw [Hr.out]
      generalize Num.refD f y = l at *
      obtain ⟨m, Hm⟩ : ∃ m, Hid (l.length = m) := ⟨_, Lib.hid rfl⟩
      rw [Hm.out] at hl IH
      have Hz := Lib.hid hz
      clear hx ih hs hy hz hx2
      go_enter Try.func42, Try.ntmps42
      go_wp2_with fail
      refine IH.out.mono ?_
      rintro e w1 ⟨A, c, rfl, hown, hE⟩
      go_wp2_with (at_builtin; refine wpList_append_dst _ rfl rfl Try.underlying24 info_u8 rfl (by omega) rfl ((Dst.of_own hown).alloc _) rfl (news := [_]) rfl (cell_one_new _ _ _) (by simp [Value.oneCell']) (by omega) (by simp only [maxLen]; omega) (by omega) (by have := hE.size; simp; omega) ?_; intro g1 cap1 w2 hown1 hgrow1 hat1 hlt1)
      go_ret
      rw [show (l ++ [z]).length = m + 1 by rw [List.length_append, Hm.out]; rfl, show (l ++ [z]).map u8v = l.map u8v ++ [.int .u8 (z : Int)] by simp [u8v]]
      have hE2 : Below w.heap.size w (w1.alloc (.cells #[.int .u8 ((x : Int) % 256)] 5)) := hE.t (Ext.alloc _ _)
      refine ⟨_, _, rfl, ?_, hE2.grown hgrow1 hE2.size (fun k hk => (hown.lt k hk).1)⟩
      rw [show (z : Int) = (x : Int) % 256 by have := Hz.out; omega]
      exact hown1

/-- Form: the plain form, in a row of its own. -/
theorem ref_Form (x : Nat) (w : World) (hx : x < 18446744073709551616) :
    Calls Try.prog 27 #[.int .u64 x] w fun e w' => ∃ A c, e = .returned (.slice A (Num.size x) c) ∧ w'.ownsRow w.heap.size 5 1 (.slice A (Num.size x) c) (Num.size x) ((Num.form x).map u8v) ∧ Ext w w' := by
  by_cases hs : x ≤ 246
  · rw [show Num.size x = 1 by unfold Num.size; rw [if_pos hs], show Num.form x = [x] by unfold Num.form; rw [if_pos hs]]
    have h' : (x : Int) < 247 := by omega
    clear hs hx
    go_enter Try.func27, Try.ntmps27
    go_wp2
    go_ret
    exact ⟨_, _, rfl, World.ownsRow_lit w _ 1 (Nat.le_refl _) (by simp [maxLen]) (by simp), Ext.alloc _ _⟩
  · have h' : ((x : Int) < 247) = False := by simp; omega
    have hl := Num.refD_length 7 x
    have Hf := Lib.hid (Num.form_ref x hx hs)
    have HD := Lib.hid (ref_digits 7 x w (by omega) (by omega))
    have Hsz := Lib.hid (Num.form_length x)
    generalize Num.refD 7 x = l at *
    obtain ⟨m, Hm⟩ : ∃ m, Hid (l.length = m) := ⟨_, Lib.hid rfl⟩
    rw [Hm.out] at hl HD Hf
    have Hsz : Hid (Num.size x = 1 + m) := Lib.hid (by rw [← Hsz.out, Hf.out]; simp [Hm.out]; omega)
    rw [Hsz.out]
    clear hs hx
    have hq1 : IntKind.i64.wrap (246 + (m : Int)) = 246 + (m : Int) := IntWalk.i64_in _ (by omega)
    have hq2 : IntKind.u8.wrap (246 + (m : Int)) = 246 + (m : Int) := by rw [IntKind.wrap_u8]; omega
    go_enter Try.func27, Try.ntmps27
    go_wp2_with fail
    refine HD.out.mono ?_
    rintro e w1 ⟨A, c, rfl, hown, hE⟩
    obtain ⟨b, o, rfl⟩ := (Rd.of_own hown).some_ (by omega)
    have r := Rd.of_own hown
    go_wp2_with (at_builtin; refine wpList_append_dst _ rfl rfl Try.underlying24 info_u8 rfl (by omega) rfl (Dst.of_own (World.ownsRow_lit _ _ 1 (Nat.le_refl _) (by simp [maxLen]) (by simp))) rfl (news := l.map u8v) (by simp [Hm.out]) (r.alloc _).news (one_cells _ fun _ => rfl) (by omega) (by simp only [maxLen]; omega) (by omega) (by simp) ?_; intro g1 cap1 w2 hown1 hgrow1 hat1 hlt1)
    go_ret
    rw [Hf.out]
    have hE2 : Below w.heap.size w (w1.alloc (.cells #[.int .u8 (246 + (m : Int))] 5)) := hE.t (Ext.alloc _ _)
    exact ⟨_, _, rfl, hown1.mono hE.size, hE2.grown hgrow1 hE2.size (fun k hk => by have hk' : some w1.heap.size = some k := hk
                                                                                    cases hk'; exact hE.size)⟩

/-- Append to what is no row of the call's own: the result is new. -/
theorem num_Append_new (v : Value) (n : Nat) (xs : List Nat) (x : Nat) (w : World) (hd : Dst w w.heap.size 5 1 v n (xs.map u8v) none) (hx : x < 18446744073709551616) (hn : n ≤ 1000000000000) :
    Calls Try.prog 12 #[v, .int .u64 x] w fun e w' => ∃ A c, e = .returned (.slice A (n + Num.size x) c) ∧
      w'.ownsRow w.heap.size 5 1 (.slice A (n + Num.size x) c) (n + Num.size x) ((xs ++ Num.form x).map u8v) ∧ Ext w w' := by
  refine (num_Append w.heap.size v n xs none x w hd (Nat.le_refl _) hx hn).mono ?_
  rintro e w1 ⟨g, c, rfl, hown, hgrow, _⟩
  exact ⟨_, _, rfl, hown, below_of_grown hgrow (Nat.le_refl _) (fun k hk => by cases hk)⟩

theorem ref_Fold (y : Int) (w : World) (h1 : -9223372036854775808 ≤ y) (h2 : y ≤ 9223372036854775807) :
    Calls Try.prog 30 #[.int .i64 y] w fun e w' => e = .returned (.int .u64 (Num.fold y)) ∧ w = w' := by
  by_cases h0 : 0 ≤ y
  · go_enter Try.func30, Try.ntmps30
    go_wp2
    go_ret
    exact ⟨ret_int (by unfold Num.fold; rw [if_pos h0]), rfl⟩
  · go_enter Try.func30, Try.ntmps30
    go_wp2
    go_ret
    exact ⟨ret_int (by unfold Num.fold; rw [if_neg (by omega)]; omega), rfl⟩
theorem ref_Unfold (x : Int) (w : World) (h1 : 0 ≤ x) (h2 : x < 18446744073709551616) :
    Calls Try.prog 31 #[.int .u64 x] w fun e w' => e = .returned (.int .i64 (Num.unfold_ x)) ∧ w = w' := by
  by_cases h0 : x % 2 = 0
  · go_enter Try.func31, Try.ntmps31
    go_wp2
    go_ret
    exact ⟨ret_int (by unfold Num.unfold_; rw [if_pos h0]), rfl⟩
  · go_enter Try.func31, Try.ntmps31
    go_wp2
    go_ret
    exact ⟨ret_int (by unfold Num.unfold_; rw [if_neg h0]), rfl⟩
end Go.Proofs.Ytidjimkhppfjjaa
