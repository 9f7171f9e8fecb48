/- Cop: how lists of small instructions, and of instructions, come in. -/
import Derived.Test.YtlneifgihdickaaOpS
import Derived.Test.YtlneifgihdickaaCls
namespace Go.Proofs.Ytlneifgihdickaa
open Go.RowKit Go.Fx Go.ChangeShapes Go.WideShapes Go.ChangeAt Go.Deep
/-- A list of instructions that came in. -/
structure InArg (W : World) (A : Option Addr) (n c : Nat) (l : List Ins) : Prop where
  rd : RdS 5 insC W A n l
  ok : ∀ i ∈ l, InsOk i
  le : n ≤ c
  max : c ≤ maxLen
theorem ints_ins {cs : List Value} (h : IntsOk [.u8, .u8, .u8, .u8, .i64] cs) : ∃ x : Ins, cs = insC x ∧ InsOk x := by
  obtain ⟨hl, hz⟩ := h
  obtain ⟨z0, e0, w0⟩ := hz 0 .u8 rfl
  obtain ⟨z1, e1, w1⟩ := hz 1 .u8 rfl
  obtain ⟨z2, e2, w2⟩ := hz 2 .u8 rfl
  obtain ⟨z3, e3, w3⟩ := hz 3 .u8 rfl
  obtain ⟨z4, e4, w4⟩ := hz 4 .i64 rfl
  have b0 := bounds_u8 w0
  have b1 := bounds_u8 w1
  have b2 := bounds_u8 w2
  have b3 := bounds_u8 w3
  have b4 := bounds_i64 w4
  match cs, hl with
  | [v0, v1, v2, v3, v4], _ =>
    simp only [List.getElem?_cons_zero, List.getElem?_cons_succ, Option.some.injEq] at e0 e1 e2 e3 e4
    refine ⟨⟨z0.toNat, z1.toNat, z2.toNat, z3.toNat, z4⟩, ?_, ⟨by show z0.toNat < 256; omega, by show z1.toNat < 256; omega, by show z2.toNat < 256; omega, by show z3.toNat < 256; omega, by show _ ≤ z4; omega, by show z4 ≤ _; omega⟩⟩
    rw [e0, e1, e2, e3, e4]
    unfold insC
    simp only [show ((z0.toNat : Nat) : Int) = z0 by omega, show ((z1.toNat : Nat) : Int) = z1 by omega, show ((z2.toNat : Nat) : Int) = z2 by omega, show ((z3.toNat : Nat) : Int) = z3 by omega]
section
variable {H : Type} {enc : TypeId × Value → H} {w : World} {base b0 : Nat} {spare : Nat → Bool} {held : Bool} {r : Reach}
set_option maxRecDepth 100000 in
theorem open_t22 {v : Value} {d : DataW H} {p : List MemPlace} (hv : Value.okWide Try.prog w r b0 22 v) (h : DataW.Trod enc Try.prog w base spare held 22 v d p) :
    ∃ A n c l, v = .slice A n c ∧ InArg w A n c l := by
  obtain ⟨A, n, c, zs, rfl, h1, h2, h3, h4⟩ := open_structs (ks := [.u8, .u8, .u8, .u8, .i64]) Try.underlying22 Try.underlying62 rfl (by kernel_rfl) (by decide) (fun i k hk => by
    match i, hk with
    | 0, hk => cases hk; exact ⟨_, rfl, by kernel_rfl, by kernel_rfl, rfl⟩
    | 1, hk => cases hk; exact ⟨_, rfl, by kernel_rfl, by kernel_rfl, rfl⟩
    | 2, hk => cases hk; exact ⟨_, rfl, by kernel_rfl, by kernel_rfl, rfl⟩
    | 3, hk => cases hk; exact ⟨_, rfl, by kernel_rfl, by kernel_rfl, rfl⟩
    | 4, hk => cases hk; exact ⟨_, rfl, by kernel_rfl, by kernel_rfl, rfl⟩
    | i + 5, hk => cases (show (none : Option IntKind) = some k from hk)) hv h
  obtain ⟨l, h5, h6⟩ := RdS.of_ints (f := insC) (OK := InsOk) (fun cs hcs => ints_ins (h2 cs hcs)) h1
  exact ⟨A, n, c, l, rfl, h5, h6, h3, h4⟩
set_option maxRecDepth 100000 in
theorem open_t24 {v : Value} {d : DataW H} {p : List MemPlace} (hv : Value.okWide Try.prog w r b0 24 v) (h : DataW.Trod enc Try.prog w base spare held 24 v d p) :
    ∃ A n c l, v = .slice A n c ∧ InArg w A n c l := by
  obtain ⟨A, n, c, zs, rfl, h1, h2, h3, h4⟩ := open_structs (ks := [.u8, .u8, .u8, .u8, .i64]) Try.underlying24 Try.underlying34 rfl (by kernel_rfl) (by decide) (fun i k hk => by
    match i, hk with
    | 0, hk => cases hk; exact ⟨_, rfl, by kernel_rfl, by kernel_rfl, rfl⟩
    | 1, hk => cases hk; exact ⟨_, rfl, by kernel_rfl, by kernel_rfl, rfl⟩
    | 2, hk => cases hk; exact ⟨_, rfl, by kernel_rfl, by kernel_rfl, rfl⟩
    | 3, hk => cases hk; exact ⟨_, rfl, by kernel_rfl, by kernel_rfl, rfl⟩
    | 4, hk => cases hk; exact ⟨_, rfl, by kernel_rfl, by kernel_rfl, rfl⟩
    | i + 5, hk => cases (show (none : Option IntKind) = some k from hk)) hv h
  obtain ⟨l, h5, h6⟩ := RdS.of_ints (f := insC) (OK := InsOk) (fun cs hcs => ints_ins (h2 cs hcs)) h1
  exact ⟨A, n, c, l, rfl, h5, h6, h3, h4⟩
end
end Go.Proofs.Ytlneifgihdickaa
