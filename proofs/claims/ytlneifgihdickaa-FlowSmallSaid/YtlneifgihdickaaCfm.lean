/- Cfm: the program's Form: it answers the form, nothing is written that was there. -/
import Derived.Test.YtlneifgihdickaaCpl
import Derived.Test.YtlneifgihdickaaLib
import Derived.Test.YtlneifgihdickaaRange
namespace Go.Proofs.Ytlneifgihdickaa
open Go.RowKit Go.Fx
def FormP (op : Nat) (w : World) (e : Ending) (w' : World) : Prop := e = .returned (.tuple #[.string (strOf op), .bool (okOp op)]) ∧ Ext w w'
theorem formP_mk {op : Nat} {w w' : World} {s : ByteArray} {b : Bool} (h1 : s = strOf op) (h2 : b = okOp op) (e : Ext w w') : FormP op w (.returned (.tuple #[.string s, .bool b])) w' := by
  subst h1; subst h2; exact ⟨rfl, e⟩
set_option maxRecDepth 100000 in
set_option maxHeartbeats 1000000 in
theorem form_hi (op : Nat) (w : World) (h1 : 33 ≤ op) (h2 : op ≤ 49) :
    Calls Try.prog 58 #[.int .u8 (op : Int)] w (FormP op w) := by
  have h1I : (32 : Int) < (op : Int) := by omega
  have h2I : (op : Int) ≤ 49 := by omega
  go_enter Try.func58, Try.ntmps58
  go_wp2
  go_ret2
  exact formP_mk (strOf_r h1 h2).symm (by unfold okOp; simp; omega) (Ext.refl _)
set_option maxRecDepth 100000 in
theorem form_index (k : Nat) (hk : k < 11) (w : World) : (Instr.index 134 (.agg #[.int .u8 1, .string ⟨#[]⟩, .int .u8 2, .string ⟨#[]⟩, .int .u8 3, .string ⟨#[114, 110]⟩, .int .u8 4, .string ⟨#[114, 114]⟩, .int .u8 5, .string ⟨#[114, 114]⟩, .int .u8 6, .string ⟨#[114, 114]⟩, .int .u8 7, .string ⟨#[114, 114]⟩, .int .u8 8, .string ⟨#[114, 114, 112]⟩, .int .u8 9, .string ⟨#[116]⟩, .int .u8 10, .string ⟨#[114, 116]⟩, .int .u8 11, .string ⟨#[114, 116]⟩]) (.int .i64 (k : Int))).run Try.prog w = .ok (.agg #[.int .u8 ((k + 1 : Nat) : Int), .string (strOf (k + 1))]) w := by
  rcases (by omega : k = 0 ∨ k = 1 ∨ k = 2 ∨ k = 3 ∨ k = 4 ∨ k = 5 ∨ k = 6 ∨ k = 7 ∨ k = 8 ∨ k = 9 ∨ k = 10) with h | h | h | h | h | h | h | h | h | h | h <;> (subst h; kernel_rfl)
set_option maxRecDepth 100000 in
set_option maxHeartbeats 1000000 in
theorem form_lo (op : Nat) (w : World) (h : op ≤ 32 ∨ 49 < op) :
    Calls Try.prog 58 #[.int .u8 (op : Int)] w (FormP op w) := by
  by_cases h32 : 32 < op
  · have h1I : (32 : Int) < (op : Int) := by omega
    have h2I : ¬ (op : Int) ≤ 49 := by omega
    go_enter Try.func58, Try.ntmps58
    go_wp2
    go_loopw [24] (fun i wr => ∃ k : Nat, k ≤ 11 ∧ i = .int .i64 (k : Int) ∧ (op = 0 ∨ k < op) ∧ Ext w wr) (fun i _ => 11 - (intOf i).toNat)
    case atStart => exact ⟨0, by omega, rfl, by omega, Ext.refl _⟩
    case round =>
      obtain ⟨k, hk, rfl, ho, hE⟩ := hrel
      have HE := Lib.hid hE
      clear hE
      by_cases hlt : k < 11
      · have hltI : (k : Int) < 11 := by omega
        have hix := fun w' => form_index k hlt w'
        obtain ⟨k1, hk1⟩ : ∃ k1, k1 = k + 1 := ⟨_, rfl⟩
        rw [← hk1] at hix
        have Hk1 := Lib.hid hk1
        clear hk1
        by_cases hop : op = k1
        · subst hop
          have hq : ((op : Int) == (op : Int)) = true := by simp
          go_wp2
          go_ret2
          exact formP_mk rfl (by have := Hk1.out; unfold okOp; simp; omega) (HE.out.t (Ext.alloc _ _))
        · have hq : ((k1 : Int) == (op : Int)) = false := by simp; omega
          have HO : Hid (op = 0 ∨ k + 1 < op) := Lib.hid (by have := Hk1.out; omega)
          clear ho hop
          go_wp2
          go_roundw
          case rel => exact ⟨k + 1, by omega, by go_num, HO.out, HE.out.t (Ext.alloc _ _)⟩
          case measure => simp [intOf]; omega
      · obtain rfl : k = 11 := by omega
        have hb : okOp op = false := by unfold okOp; simp; omega
        have Hb := Lib.hid hb
        clear hb
        go_wp2
        go_ret2
        exact formP_mk (strOf_bad Hb.out).symm Hb.out.symm HE.out
  · have h1I : ¬ (32 : Int) < (op : Int) := by omega
    go_enter Try.func58, Try.ntmps58
    go_wp2
    go_loopw [24] (fun i wr => ∃ k : Nat, k ≤ 11 ∧ i = .int .i64 (k : Int) ∧ (op = 0 ∨ k < op) ∧ Ext w wr) (fun i _ => 11 - (intOf i).toNat)
    case atStart => exact ⟨0, by omega, rfl, by omega, Ext.refl _⟩
    case round =>
      obtain ⟨k, hk, rfl, ho, hE⟩ := hrel
      have HE := Lib.hid hE
      clear hE
      by_cases hlt : k < 11
      · have hltI : (k : Int) < 11 := by omega
        have hix := fun w' => form_index k hlt w'
        obtain ⟨k1, hk1⟩ : ∃ k1, k1 = k + 1 := ⟨_, rfl⟩
        rw [← hk1] at hix
        have Hk1 := Lib.hid hk1
        clear hk1
        by_cases hop : op = k1
        · subst hop
          have hq : ((op : Int) == (op : Int)) = true := by simp
          go_wp2
          go_ret2
          exact formP_mk rfl (by have := Hk1.out; unfold okOp; simp; omega) (HE.out.t (Ext.alloc _ _))
        · have hq : ((k1 : Int) == (op : Int)) = false := by simp; omega
          have HO : Hid (op = 0 ∨ k + 1 < op) := Lib.hid (by have := Hk1.out; omega)
          clear ho hop
          go_wp2
          go_roundw
          case rel => exact ⟨k + 1, by omega, by go_num, HO.out, HE.out.t (Ext.alloc _ _)⟩
          case measure => simp [intOf]; omega
      · obtain rfl : k = 11 := by omega
        have hb : okOp op = false := by unfold okOp; simp; omega
        have Hb := Lib.hid hb
        clear hb
        go_wp2
        go_ret2
        exact formP_mk (strOf_bad Hb.out).symm Hb.out.symm HE.out
theorem form_ (op : Nat) (w : World) :
    Calls Try.prog 58 #[.int .u8 (op : Int)] w (FormP op w) := by
  by_cases h : 33 ≤ op ∧ op ≤ 49
  · exact form_hi op w h.1 h.2
  · exact form_lo op w (by omega)
end Go.Proofs.Ytlneifgihdickaa
