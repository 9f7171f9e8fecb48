/- Cth: new lists of instructions; the law's Theirs: a program for the reference. -/
import Derived.Test.YtiakcehhegippaaCwr
import Derived.Test.YtiakcehhegippaaCrl
namespace Go.Proofs.Ytiakcehhegippaa
open Go.RowKit Go.Fx
/-- A new slice of instructions. -/
structure NewS (w : World) (p : List Ins) (w' : World) (A : Option Addr) (n c : Nat) : Prop where
  room : RoomS 5 w' A n c (p.flatMap insC)
  ext : Ext w w'
  ft : ∀ k, foot A c k → w.heap.size ≤ k
theorem NewS.n_ {w w' : World} {p : List Ins} {A : Option Addr} {n c : Nat} (h : NewS w p w' A n c) : n = p.length := by have := h.room.1; rw [flat_len insC_len] at this; omega
theorem NewS.nil (w : World) : NewS w [] w none 0 0 := ⟨RoomS.nil, Ext.refl _, fun _ hk => absurd hk foot_none⟩
theorem NewS.exte {w w' w2 : World} {p : List Ins} {A : Option Addr} {n c : Nat} (h : NewS w p w' A n c) (e : Ext w' w2) : NewS w p w2 A n c := ⟨h.room.ext e, h.ext.t e, h.ft⟩
theorem NewS.rd {w w' : World} {p : List Ins} {A : Option Addr} {n c : Nat} (h : NewS w p w' A n c) : RdS 5 insC w' A n p := h.room.rd insC_len (by decide)
theorem NewS.more {w w1 w2 w3 : World} {A1 A2 : Option Addr} {n1 c1 n2 c2 : Nat} {p q : List Ins} (h : NewS w p w1 A1 n1 c1) (e : Ext w1 w2) (r : RoomS 5 w3 A2 n2 c2 (p.flatMap insC ++ q.flatMap insC)) (ch : Chg (foot A1 c1) w2 w3) (ft : ∀ k, foot A2 c2 k → foot A1 c1 k ∨ w2.heap.size ≤ k) : NewS w (p ++ q) w3 A2 n2 c2 := by
  have e2 := h.ext.t e
  exact ⟨by rw [List.flatMap_append]; exact r, e2.trans (ch.below e2.size (fun k hk hf => by have := h.ft k hf; omega)), fun k hk => (ft k hk).elim (h.ft k) (fun h1 => by have := e2.size; omega)⟩
theorem ul_insR : Try.prog.underlying 59 = some (.slice 78) := by kernel_rfl
theorem info_insR : (Try.prog.info? 78).map (fun i => (i.zero, i.size, i.bytes)) = some (some (.agg #[.int .u8 0, .int .u8 0, .int .u8 0, .int .u8 0, .int .i64 0]), 5, 16) := by kernel_rfl
theorem take_snocI {p : List Ins} {k : Nat} {i : Ins} (h : p[k]? = some i) : p.take (k + 1) = p.take k ++ [i] := take_snoc h
set_option maxRecDepth 100000 in
set_option maxHeartbeats 1000000 in
theorem theirs_ (A : Option Addr) (n c : Nat) (p : List Ins) (w : World) (h : RdS 5 insC w A n p) (hn : n ≤ 1000000000) :
    Calls Try.prog 30 #[.slice A n c] w fun e w' => ∃ A' n' c', e = .returned (.slice A' n' c') ∧ NewS w p w' A' n' c' := by
  have H := Lib.hid h
  clear h
  go_enter Try.func30, Try.ntmps30
  go_wp2_with fail
  go_loopw [3, 8] (fun v3 v8 wr => ∃ (k : Nat) (Ao : Option Addr) (co : Nat), k ≤ n ∧ v8 = .int .i64 (k : Int) ∧ v3 = .slice Ao k co ∧ Hid (NewS w (p.take k) wr Ao k co)) (fun _ i _ => n - (intOf i).toNat)
  case atStart => exact ⟨0, none, 0, by omega, rfl, rfl, Lib.hid (NewS.nil w)⟩
  case round =>
    obtain ⟨k, Ao, co, hk, rfl, rfl, HN⟩ := hrel
    by_cases hlt : k < n
    · have hltI : (k : Int) < (n : Int) := by omega
      obtain ⟨b, o, i, rfl, _, hi, c0, c1, c2, c3, c4⟩ := (H.out.ext HN.out.ext).ins hlt
      have Hi := Lib.hid hi
      clear hi
      go_wp2_with (refine wpl_buildS insC_len (by decide) (by rfl) rfl ul_insR info_insR [.tmp 13] (by rfl) (by rfl) (by decide) [i] (by rfl) ?_)
      intro g w2 b2 e2 lo2 r2; refine Lib.hid ?_
      have HN2 := Lib.hid (HN.out.exte ((Ext.alloc wr _).t e2))
      have R2 := Lib.hid r2
      clear b2 e2 lo2 r2 c0 c1 c2 c3 c4
      go_wp2_with (refine wpl_append_atS (by rfl) rfl ul_insR info_insR rfl rfl HN2.out.room rfl (Src.ofRdS ul_insR insC_len R2.out insC_one) (by unfold maxLen; omega) (by omega) ?_)
      intro A3 c3 w3 r3 ch3 ft3; refine Lib.hid ?_
      have HN3 : Hid (NewS w (p.take (k + 1)) w3 A3 (k + 1) c3) := Lib.hid (by rw [take_snoc Hi.out]; exact HN2.out.more (Ext.refl _) r3 ch3 ft3)
      clear r3 ch3 ft3
      go_wp2_with fail
      go_roundw
      case rel => exact ⟨k + 1, A3, c3, by omega, by go_num, rfl, HN3⟩
      case measure => simp [intOf]; omega
    · obtain rfl : k = n := by omega
      go_wp2_with fail
      go_ret
      refine ⟨_, _, _, rfl, ?_⟩
      have h1 := HN.out
      rw [List.take_of_length_le (by rw [H.out.1]; omega)] at h1
      exact h1
end Go.Proofs.Ytiakcehhegippaa
