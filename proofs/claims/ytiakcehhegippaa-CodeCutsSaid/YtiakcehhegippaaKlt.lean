/- Klt: LentBytes and KeptBytes of fermatakit (as Lent, for chapter 14): a copy with marks behind it, and whether they still stand. -/
import Derived.Test.YtiakcehhegippaaMem
import Derived.Test.YtiakcehhegippaaCnb
namespace Go.Fx
/-- The mark behind lent bytes at place i. -/
def mk (i : Nat) : Nat := (8000024 + i) * 11400714819323198485 % 18446744073709551616 / 72057594037927936
theorem mk_lt (i : Nat) : mk i < 256 := by
  unfold mk
  have : (8000024 + i) * 11400714819323198485 % 18446744073709551616 < 18446744073709551616 := Nat.mod_lt _ (by omega)
  omega
open Go.RowKit
theorem own_cmax {w : World} {base : Nat} {e : TypeId} {size : Nat} {A : Option Addr} {n c : Nat} {xs : List Value} (h : w.ownsRow base e size (.slice A n c) n xs) : c ≤ maxLen := by
  rcases h.2 with ⟨h1, h2⟩ | ⟨g, cap, cur, h1, -, -, h2, h3, -⟩
  · simp only [Value.slice.injEq] at h1; simp only [maxLen]; omega
  · simp only [Value.slice.injEq] at h1; omega
end Go.Fx
namespace Go.Proofs.Ytiakcehhegippaa
open Go.RowKit Go.Fx
set_option maxHeartbeats 400000 in
theorem mark_byte (i : Nat) (w : World) (hi : i < 12) : Calls Try.prog 48 #[.int .i64 1, .int .i64 (i : Int)] w fun e w' => e = .returned (.int .u8 ((mk i : Nat) : Int)) ∧ w = w' := by
  have hi' : (i : Int) < 12 := by omega
  go_enter Try.func48, Try.ntmps48
  go_wp2
  go_ret
  refine ⟨ret_int ?_, rfl⟩
  show IntKind.u64.wrap ((8000024 + (i : Int)) * 11400714819323198485) / 72057594037927936 % 256 = _
  rw [IntKind.wrap_u64]
  unfold mk
  obtain ⟨z, hz⟩ : ∃ z : Nat, (8000024 + i) * 11400714819323198485 = z := ⟨_, rfl⟩
  have hz' : (8000024 + (i : Int)) * 11400714819323198485 = (z : Int) := by omega
  rw [hz, hz']
  simp only [Int.natCast_ediv, Int.natCast_emod, Int.cast_ofNat_Int]
  omega
def marks : List Nat := (List.range 12).map mk
theorem marks_take (k : Nat) (hk : k < 12) : marks.take (k + 1) = marks.take k ++ [mk k] := by
  refine take_snoc ?_
  simp [marks, hk]
set_option maxHeartbeats 400000 in
theorem lentBytes (A : Option Addr) (n c : Nat) (xs : List Nat) (w : World) (h : Rd u8v w A n xs) (hn : n ≤ 1000000) :
    Calls Try.prog 27 #[.slice A n c] w fun e w' => ∃ A' c', e = .returned (.slice A' n c') ∧ n + 12 ≤ c' ∧ c' ≤ maxLen ∧ Rd u8v w' A' (n + 12) (xs ++ marks) ∧ Ext w w' := by
  have hn' : (n : Int) ≤ 1000000 := by omega
  go_enter Try.func27, Try.ntmps27
  go_wp2_with (refine wpl_make (base := w.heap.size) (n := n + 12) rfl rfl ul_u8 info_u8 rfl rfl (by omega) (by omega) (by simp only [maxLen]; omega) (by omega) ?_)
  intro A1 w1 own1 gr1 _; refine Lib.hid ?_
  have e1 : Below w.heap.size w w1 := below_of_grown gr1 (Nat.le_refl _) (fun _ h => by cases h)
  clear gr1
  go_wp2_with (refine wpl_append (f := u8v) (xs := []) (by rfl) rfl ul_u8 info_u8 rfl rfl own1 rfl (h.ext e1) (fun _ => rfl) (by simp only [maxLen]; omega) (by omega) e1.size ?_)
  intro A2 c2 w2 own2 gr2 _; refine Lib.hid ?_
  have e2 : Below w.heap.size w w2 := e1.grown gr2 e1.size (fun k hk => (own1.lt k hk).1)
  clear gr2 own1 e1
  try simp only [List.nil_append, Nat.zero_add] at own2
  try simp only [Nat.zero_add]
  go_wp2
  go_loopw [3, 4] (fun v i wr => ∃ (k : Nat) (A : Option Addr) (c : Nat), k ≤ 12 ∧ i = .int .i64 k ∧ v = .slice A (n + k) c ∧ wr.ownsRow w.heap.size 5 1 (.slice A (n + k) c) (n + k) ((xs ++ marks.take k).map u8v) ∧ Below w.heap.size w wr) (fun _ i _ => 12 - (intOf i).toNat)
  case atStart => exact ⟨0, A2, c2, by omega, rfl, rfl, by simpa using own2, e2⟩
  case round =>
    obtain ⟨k, A3, c3, hk, rfl, rfl, own3, e3⟩ := hrel
    clear own2 e2
    by_cases hlt : k < 12
    · have hlt' : (k : Int) < 12 := by omega
      go_wp2_with fail
      refine (mark_byte k _ hlt).mono ?_; rintro e w4 ⟨rfl, rfl⟩
      go_wp2_with (refine wpl_build (by rfl) rfl ul_u8 info_u8 [.tmp 18] (by rfl) (by rfl) (by decide) (f := u8v) [mk k] (by rfl) (fun _ => rfl) ?_)
      intro g w4 _ e4 _ r4; refine Lib.hid ?_
      go_wp2_with (refine wpl_append (f := u8v) (by rfl) rfl ul_u8 info_u8 rfl rfl (own_ext own3 e4) rfl r4 (fun _ => rfl) (by simp only [maxLen]; omega) (by omega) (by have := e3.size; have := e4.size; omega) ?_)
      intro A5 c5 w5 own5 gr5 _; refine Lib.hid ?_
      have e5 : Below w.heap.size w w5 := (e3.t e4).grown gr5 (by have := e3.size; have := e4.size; omega) (fun k hk => (own3.lt k hk).1)
      clear gr5 own3 e4 r4 e3
      go_wp2
      go_roundw
      case rel => exact ⟨k + 1, A5, c5, by omega, by go_num, rfl, by rw [marks_take k hlt]; simpa [Nat.add_assoc] using own5, e5⟩
      case measure => simp [intOf]; omega
    · obtain rfl : k = 12 := by omega
      have hcap := own_cap own3
      have hcap' : (n : Int) ≤ (c3 : Int) := by omega
      go_wp2
      go_ret
      exact ⟨A3, c3, rfl, hcap, own_cmax own3, Rd.of_own own3, e3⟩
theorem quiet_eq {P : Program} {f : FuncId} {args : Array Value} {w : World} {n : Nat} {v : Value}
    (h : Calls P f args (w.drewN n) fun e w' => e = .returned v ∧ w.drewN n = w') : Calls P f args (w.drewN n) fun e w'' => e = .returned v ∧ ∃ m, w'' = w.drewN m :=
  h.mono fun _ _ ⟨he, hm⟩ => ⟨he, n, hm.symm⟩
theorem marks_len : marks.length = 12 := rfl
theorem marks_at (j : Nat) (hj : j < 12) : marks[j]? = some (mk j) := by simp [marks, hj]
set_option maxHeartbeats 400000 in
theorem keptBytes (A A' : Option Addr) (n c c' : Nat) (xs : List Nat) (w : World) (h : Rd u8v w A (n + 12) (xs ++ marks)) (h' : Rd u8v w A' n xs) (hc : n + 12 ≤ c) (hn : n ≤ 1000000) (_hm : c ≤ maxLen) :
    Calls Try.prog 31 #[.slice A n c, .slice A' n c'] w fun e w' => e = .returned (.bool true) ∧ Ext w w' := by
  have hn' : (n : Int) ≤ 1000000 := by omega
  have hc' : (n : Int) + 12 ≤ (c : Int) := by omega
  have hne : ((n : Int) != (n : Int)) = false := by simp
  have Hl := Lib.hid h'.1
  go_enter Try.func31, Try.ntmps31
  go_wp2
  go_loopw [6] (fun i wr => ∃ k : Nat, k ≤ n + 12 ∧ i = .int .i64 k ∧ Ext w wr) (fun i _ => n + 12 - (intOf i).toNat)
  case atStart => exact ⟨0, by omega, rfl, Ext.refl _⟩
  case round =>
    obtain ⟨k, hk, rfl, hE⟩ := hrel
    have r := h.ext hE
    have r' := h'.ext hE
    by_cases hlt : k < n + 12
    · have hlt' : (k : Int) < (n : Int) + 12 := by omega
      obtain ⟨b1, o1, x, rfl, _, hx, hc1⟩ := r.at_ hlt
      have Hx := Lib.hid hx
      clear hx
      by_cases hkn : k < n
      · obtain ⟨b2, o2, y, rfl, _, hy, hc2⟩ := r'.at_ hkn
        have hkn' : (k : Int) < (n : Int) := by omega
        obtain rfl : x = y := by
          have h1 := Hx.out
          rw [List.getElem?_append_left (by have := Hl.out; omega), hy] at h1
          exact (Option.some.inj h1).symm
        have hq : ((x : Int) == (x : Int)) = true := by simp
        have hd1 : decide (n ≤ k) = false := by simp; omega
        clear hy
        go_wp2
        go_quiet (fail)
        go_wp2
        go_roundw
        case rel => exact ⟨k + 1, by omega, by go_num, hE.t (Ext.drewN _ _)⟩
        case measure => simp [intOf]; omega
      · obtain ⟨j, rfl⟩ : ∃ j, k = n + j := ⟨k - n, by omega⟩
        have hj : j < 12 := by omega
        obtain rfl : x = mk j := by
          have h1 := Hx.out
          rw [List.getElem?_append_right (by have := Hl.out; omega), Hl.out, Nat.add_sub_cancel_left, marks_at j hj] at h1
          exact (Option.some.inj h1).symm
        have hq : (((mk j : Nat) : Int) == ((mk j : Nat) : Int)) = true := by simp
        have hd1 : decide ((n : Int) + (j : Int) < (n : Int)) = false := by simp; omega
        have hd2 : (n : Int) ≤ (n : Int) + (j : Int) := by omega
        have hs1 : IntKind.i64.wrap (j : Int) = (j : Int) := IntWalk.i64_in _ (by omega)
        have hs : IntKind.i64.wrap ((n : Int) + (j : Int) - (n : Int)) = (j : Int) := by rw [IntWalk.i64_in _ (by omega)]; omega
        go_wp2
        go_quiet ((go_at_call 48; exact quiet_eq (mark_byte j _ hj)))
        go_wp2
        go_roundw
        case rel => exact ⟨n + j + 1, by omega, by go_num, hE.t (Ext.drewN _ _)⟩
        case measure => simp [intOf]; omega
    · obtain rfl : k = n + 12 := by omega
      go_wp2
      go_ret
      exact ⟨rfl, hE⟩
end Go.Proofs.Ytiakcehhegippaa
