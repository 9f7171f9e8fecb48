/- Ctk: taking a number out of bytes: the closure of the program's read. -/
import Derived.Test.YtiakcehhegippaaCwr
namespace Go.Fx
open Go.RowKit
/-- The number of some bytes, the highest first. -/
def vF (bs : List Nat) : Nat := bs.foldl (fun x b => x * 256 + b) 0
theorem vF_snoc (bs : List Nat) (d : Nat) : vF (bs ++ [d]) = vF bs * 256 + d := by simp [vF]
theorem vF_lt (bs : List Nat) (h : ∀ x ∈ bs, x < 256) : vF bs < 256 ^ bs.length := by
  have key : ∀ (l : List Nat) (a : Nat), (∀ x ∈ l, x < 256) → l.foldl (fun x b => x * 256 + b) a < (a + 1) * 256 ^ l.length := by
    intro l
    induction l with
    | nil => intro a _; simp
    | cons d l ih =>
      intro a hd
      have h1 := ih (a * 256 + d) (fun x hx => hd x (by simp [hx]))
      have h2 := hd d (by simp)
      rw [List.foldl_cons, List.length_cons, Nat.pow_succ]
      refine Nat.lt_of_lt_of_le h1 ?_
      rw [Nat.mul_comm (256 ^ l.length) 256, ← Nat.mul_assoc]
      exact Nat.mul_le_mul_right _ (by omega)
  simpa [vF] using key bs 0 h
theorem pow256_le {i : Nat} (h : i ≤ 7) : 256 ^ i ≤ 72057594037927936 := by
  have := Nat.pow_le_pow_right (n := 256) (by omega) h
  simpa using this
/-- A number as the signed one of its bits. -/
def I64 (u : Nat) : Int := wrap64 (u : Int)
/-- The address of s[k:]. -/
def from_ (A : Option Addr) (c k : Nat) : Option Addr := if c = k then A else A.map (·.add k)
theorem Rd.from_ {α : Type} {f : α → Value} {w : World} {A : Option Addr} {n c k : Nat} {xs : List α} (h : Rd f w A n xs) (hk : k ≤ n) (hc : n ≤ c) : Rd f w (Go.Fx.from_ A c k) (n - k) (xs.drop k) := by
  have hl := h.1
  refine ⟨by rw [List.length_drop]; omega, fun hn => ?_⟩
  obtain ⟨b, o, rfl, hb, hcell⟩ := h.2 (by omega)
  unfold Go.Fx.from_
  rw [if_neg (by omega)]
  refine ⟨b, o + k, by simp [Addr.add_lit], hb, fun i x hx => ?_⟩
  rw [List.getElem?_drop] at hx
  rw [Nat.add_assoc]; exact hcell _ x hx
end Go.Fx
namespace Go.Proofs.Ytiakcehhegippaa
open Go.RowKit Go.Fx
theorem u8_fromI {A : Option Addr} {n c k : Nat} {li : Int} (w : World) (e : li = (k : Int)) (hk : k ≤ n) :
    (Instr.sliceAt 22 (.slice A n c) (some (.int .i64 li)) none none).run Try.prog w = .ok (.slice (from_ A c k) (n - k) (c - k)) w := by
  subst e
  have h1 : (k : Int) ≤ (n : Int) := by omega
  have h2 : (0 : Int) ≤ (k : Int) := by omega
  simp [go_sem, sliced, from_, h1]
theorem u8_toI {A : Option Addr} {n c hi : Nat} {li : Int} (w : World) (e : li = (hi : Int)) (h2 : hi ≤ c) :
    (Instr.sliceAt 22 (.slice A n c) none (some (.int .i64 li)) none).run Try.prog w = .ok (.slice A hi c) w := by
  subst e
  have h4 : (hi : Int) ≤ (c : Int) := by omega
  have h5 : (0 : Int) ≤ (hi : Int) := by omega
  simp [go_sem, sliced, h4, Addr.add]
/-- What take leaves. -/
def TakeP (Bx : Nat) (A : Option Addr) (n c k : Nat) (ys : List Nat) (w : World) (e : Ending) (w' : World) : Prop :=
  e = .returned (.int .i64 (I64 (vF (ys.take k)))) ∧ Blk w' Bx 22 #[.slice (from_ A c k) (n - k) (c - k)] ∧ Chg (fun j => j = Bx) w w'
set_option maxHeartbeats 1000000 in
theorem take_ (Bx : Nat) (A : Option Addr) (n c k : Nat) (ys : List Nat) (w : World) (hb : Blk w Bx 22 #[.slice A n c]) (h : Rd u8v w A n ys) (hy : ∀ y ∈ ys, y < 256) (hk : k ≤ n) (hc : n ≤ c) (_hm : n ≤ 1000000000) (hk8 : k ≤ 8) :
    Calls Try.prog 57 #[.int .i64 (k : Int), .pointer (some ⟨Bx, 0, none⟩)] w (TakeP Bx A n c k ys w) := by
  have hcb := hb.cell0
  have hfb := hb.frozen 0
  have hsl := fun w' => u8_toI (A := A) (n := n) (c := c) (hi := k) (li := (k : Int)) w' rfl (by omega)
  have hsf := fun w' => u8_fromI (A := A) (n := n) (c := c) (k := k) (li := (k : Int)) w' rfl hk
  have HR := Lib.hid h
  have Hy := Lib.hid hy
  have HB := Lib.hid hb
  have Hl := Lib.hid h.1
  clear h hy hb
  go_enter Try.func57, Try.ntmps57
  go_wp2
  go_loop [4, 11] (fun v i => ∃ (j x : Nat), j ≤ k ∧ i = .int .i64 (j : Int) ∧ v = .int .u64 (x : Int) ∧ Hid (x = vF (ys.take j))) (fun _ i => k - (intOf i).toNat)
  case atStart => exact ⟨0, 0, Nat.zero_le _, rfl, rfl, Lib.hid rfl⟩
  case round =>
    obtain ⟨j, x, hj, rfl, rfl, HX⟩ := hrel
    by_cases hlt : j < k
    · have hltI : (j : Int) < (k : Int) := by omega
      obtain ⟨b, o, d, rfl, _, hd, hcd⟩ := HR.out.at_ (k := j) (by omega)
      have hd8 : d < 256 := Hy.out d (List.mem_of_getElem? hd)
      have hx : x < 72057594037927936 := by
        have h1 := vF_lt (ys.take j) (fun y hy => Hy.out y (List.mem_of_mem_take hy))
        rw [← HX.out, List.length_take, Hl.out, Nat.min_eq_left (by omega)] at h1
        have := pow256_le (i := j) (by omega)
        omega
      obtain ⟨z, hz⟩ : ∃ z, z = x * 256 + d := ⟨_, rfl⟩
      have ho := or_u64 x d (by omega) hd8
      have ho' := or_u64' x d (by omega) hd8
      have hzI : (x : Int) * 256 + (d : Int) = (z : Int) := by omega
      have HZ : Hid (z = vF (ys.take (j + 1))) := Lib.hid (by rw [take_snoc hd, vF_snoc, ← HX.out, hz])
      clear hd hz
      go_wp2
      go_round
      case rel => exact ⟨j + 1, z, by omega, by go_num, rfl, HZ⟩
      case measure => simp [intOf]; omega
    · obtain rfl : k = j := by omega
      go_wp2
      go_ret
      exact ⟨ret_int (by rw [HX.out]; rfl), HB.out.set0 _, Chg.set _ _ _ _ rfl⟩
end Go.Proofs.Ytiakcehhegippaa
