/- Cnb: a number's bytes, the highest first: plain, and the program's number. -/
import Derived.Test.YtiakcehhegippaaCck
namespace Go.Fx
/-- The last k bytes of u, the highest first. -/
def nbF : Nat → Nat → List Nat
  | 0, _ => []
  | k + 1, u => u / 2 ^ (8 * k) % 256 :: nbF k u
theorem nbF_len : ∀ (k u : Nat), (nbF k u).length = k
  | 0, _ => rfl
  | k + 1, u => by rw [nbF, List.length_cons, nbF_len k u]
theorem nbF_lt : ∀ (k u x : Nat), x ∈ nbF k u → x < 256
  | 0, _, x, h => by cases h
  | k + 1, u, x, h => by
    rw [nbF] at h
    rcases List.mem_cons.1 h with rfl | h
    · exact Nat.mod_lt _ (by omega)
    · exact nbF_lt k u x h
/-- A number as the unsigned one of its bits. -/
def U64 (n : Int) : Nat := (n % 18446744073709551616).toNat
theorem U64_wrap (n : Int) : IntKind.u64.wrap n = (U64 n : Int) := by rw [IntKind.wrap_u64]; unfold U64; omega
theorem U64_lt (n : Int) : U64 n < 18446744073709551616 := by unfold U64; omega
theorem byte_at (u k : Nat) : (u : Int) / 2 ^ (8 * k) % 256 = ((u / 2 ^ (8 * k) % 256 : Nat) : Int) := by
  rw [Int.natCast_emod, Int.natCast_ediv, Int.natCast_pow]; rfl
end Go.Fx
namespace Go.Proofs.Ytiakcehhegippaa
open Go.RowKit Go.Fx
abbrev u8v (n : Nat) : Value := .int .u8 (n : Int)
theorem ul_u8 : Try.prog.underlying 22 = some (.slice 5) := Try.underlying22
theorem info_u8 : (Try.prog.info? 5).map (fun i => (i.zero, i.size, i.bytes)) = some (some (.int .u8 0), 1, 1) := by kernel_rfl
/-- Bytes were put behind a slice. -/
structure Put (w : World) (A : Option Addr) (c : Nat) (xs : List Nat) (w' : World) (A' : Option Addr) (n' c' : Nat) : Prop where
  room : Room w' A' n' c' (xs.map u8v)
  chg : Chg (foot A c) w w'
  ft : ∀ k, foot A' c' k → foot A c k ∨ w.heap.size ≤ k
theorem Put.refl {w : World} {A : Option Addr} {n c : Nat} {xs : List Nat} (h : Room w A n c (xs.map u8v)) : Put w A c xs w A n c := ⟨h, Chg.refl _ _, fun _ h => .inl h⟩
theorem Put.more {w w1 w2 w3 : World} {A A1 A2 : Option Addr} {c n1 c1 n2 c2 : Nat} {xs ys : List Nat} (h : Put w A c xs w1 A1 n1 c1) (e : Ext w1 w2) (r : Room w3 A2 n2 c2 (xs.map u8v ++ ys.map u8v)) (ch : Chg (foot A1 c1) w2 w3) (ft : ∀ k, foot A2 c2 k → foot A1 c1 k ∨ w2.heap.size ≤ k) : Put w A c (xs ++ ys) w3 A2 n2 c2 := by
  have hz1 := h.chg.size
  have hz2 := e.size
  refine ⟨by rw [List.map_append]; exact r, ⟨?_, ?_, ?_, ?_, ?_⟩, fun k hk => ?_⟩
  · exact ch.os.trans (e.os.trans h.chg.os)
  · exact ch.tape.trans (e.tape.trans h.chg.tape)
  · exact ch.output.trans (e.output.trans h.chg.output)
  · have := ch.size; omega
  · intro k hk hn
    have h1 := h.chg.block k hk hn
    have h2 := e.block k (by omega)
    have h3 := ch.block k (by omega) (fun hf => (h.ft k hf).elim hn (fun h4 => by omega))
    exact h3.trans (h2.trans h1)
  · rcases ft k hk with h1 | h1
    · exact h.ft k h1
    · exact .inr (by omega)
def NumberP (A : Option Addr) (n c : Nat) (xs : List Nat) (k u : Nat) (w : World) (e : Ending) (w' : World) : Prop := ∃ A' c', e = .returned (.slice A' (n + k) c') ∧ Put w A c (xs ++ nbF k u) w' A' (n + k) c'
set_option maxRecDepth 100000 in
set_option maxHeartbeats 2000000 in
theorem number_ (A : Option Addr) (n c : Nat) (xs : List Nat) (v : Int) (k : Nat) (w : World) (h : Room w A n c (xs.map u8v)) (hk : k ≤ 8) (hn : n ≤ 1000000) :
    Calls Try.prog 34 #[.slice A n c, .int .i64 v, .int .i64 (k : Int)] w (NumberP A n c xs k (U64 v) w) := by
  have hu := U64_wrap v
  have hul := U64_lt v
  generalize U64 v = u at *
  have H0 : Hid (Put w A c xs w A n c) := Lib.hid (Put.refl h)
  clear h
  go_enter Try.func34, Try.ntmps34
  go_wp2
  go_loopw [0, 7] (fun v0 v7 wr => ∃ (j m c' : Nat) (A' : Option Addr) (ys : List Nat), j ≤ k ∧ m + j = n + k ∧ v7 = .int .i64 ((j : Int) - 1) ∧ v0 = .slice A' m c' ∧ Hid (Put w A c ys wr A' m c') ∧ Hid (ys ++ nbF j u = xs ++ nbF k u)) (fun _ v7 _ => ((intOf v7) + 1).toNat)
  case atStart => exact ⟨k, n, c, A, xs, Nat.le_refl _, rfl, rfl, rfl, H0, Lib.hid rfl⟩
  case round =>
    obtain ⟨j, m, c', A', ys, hj, hm, rfl, rfl, HP, HY⟩ := hrel
    by_cases hj0 : j = 0
    · subst hj0
      obtain rfl : n + k = m := by omega
      have hys : ys = xs ++ nbF k u := by have := HY.out; rw [nbF, List.append_nil] at this; exact this
      have Hys := Lib.hid hys
      clear hys HY
      go_wp2
      go_ret
      exact ⟨A', c', rfl, by rw [← Hys.out]; exact HP.out⟩
    · obtain ⟨i, rfl⟩ : ∃ i, j = i + 1 := ⟨j - 1, by omega⟩
      obtain ⟨x, hx⟩ : ∃ x, x = u / 2 ^ (8 * i) % 256 := ⟨_, rfl⟩
      have hxI : (u : Int) / 2 ^ (8 * i) % 256 = (x : Int) := by rw [hx]; exact byte_at u i
      have HY' : Hid ((ys ++ [x]) ++ nbF i u = xs ++ nbF k u) := Lib.hid (by rw [← HY.out, nbF, hx, List.append_assoc]; rfl)
      have HxI := Lib.hid hxI
      clear hx HY hxI
      go_wp2_with (refine wpl_build (by rfl) rfl ul_u8 info_u8 [.tmp 20] (by rfl) (by rfl) (by decide) (f := u8v) [x] (congrArg (fun z => [Value.int IntKind.u8 z]) HxI.out) (fun _ => rfl) ?_)
      intro g w1 b1 e1 lo1 r1; refine Lib.hid ?_
      have hrm := HP.out.room.ext e1
      have E1 := Lib.hid e1
      clear b1 e1 lo1
      go_wp2_with (refine wpl_append_at (by rfl) rfl ul_u8 info_u8 rfl rfl hrm rfl (Src.ofRd ul_u8 r1 (fun _ => rfl)) (by simp only [maxLen]; omega) (by omega) ?_)
      intro A2 c2 w2 r2 ch2 ft2; refine Lib.hid ?_
      have hp2 := HP.out.more (ys := [x]) E1.out r2 ch2 ft2
      have HP2 := Lib.hid hp2
      clear hp2 r2 ch2 ft2 hrm r1
      go_wp2_with fail
      go_roundw
      case rel => exact ⟨i, m + 1, c2, A2, ys ++ [x], by omega, by omega, by go_num, rfl, HP2, HY'⟩
      case measure => simp [intOf]
end Go.Proofs.Ytiakcehhegippaa
