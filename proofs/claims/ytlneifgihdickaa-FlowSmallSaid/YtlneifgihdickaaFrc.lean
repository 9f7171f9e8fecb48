/- Frc: Before, Reached. -/
import Derived.Test.YtlneifgihdickaaFds
namespace Go.Proofs.Ytlneifgihdickaa
open Go.RowKit Go.Fx
def befF (p : List Ins) (i : Int) : List Nat × Nat := if (checkF p).2 ≠ 0 then ([], 160) else if i < 0 ∨ (p.length : Int) ≤ i then ([], 2) else (befN p p.length i.toNat, 0)
set_option maxRecDepth 100000 in
theorem beforeF_ (A : Option Addr) (n c : Nat) (p : List Ins) (i : Int) (w : World) (h : RdS 5 insC w A n p) :
    Calls Try.prog 15 #[.slice A n c, .int .i64 i] w (NumsP (befF p i) w) := by
  have HR := Lib.hid (right_ A n c p w h)
  have hl := h.1
  by_cases h0 : (checkF p).2 = 0
  · rw [if_pos h0] at HR
    by_cases h1 : i < 0
    · rw [show befF p i = ([], 2) by unfold befF; rw [if_neg (by simpa using h0), if_pos (.inl h1)]]
      clear h h0
      go_enter Try.func15, Try.ntmps15
      go_wp2_with fail
      refine HR.out.mono ?_; rintro e w2 ⟨rfl, e2⟩
      have E2 := Lib.hid e2
      clear e2
      go_wp2_with fail
      go_ret2
      exact ⟨none, 0, rfl, Room.nil, fun k hk => absurd hk foot_none, E2.out⟩
    · by_cases h2 : (n : Int) ≤ i
      · rw [show befF p i = ([], 2) by unfold befF; rw [if_neg (by simpa using h0), if_pos (.inr (by omega))]]
        clear h h0
        go_enter Try.func15, Try.ntmps15
        go_wp2_with fail
        refine HR.out.mono ?_; rintro e w2 ⟨rfl, e2⟩
        have E2 := Lib.hid e2
        clear e2
        go_wp2_with fail
        go_ret2
        exact ⟨none, 0, rfl, Room.nil, fun k hk => absurd hk foot_none, E2.out⟩
      · obtain ⟨k, rfl⟩ : ∃ k : Nat, i = (k : Int) := ⟨i.toNat, by omega⟩
        have hk : k < n := by omega
        have hkI : (k : Int) < (n : Int) := by omega
        have hrp := rightP_iff.1 h0
        rw [show befF p (k : Int) = (befN p n k, 0) by unfold befF; rw [if_neg (by simpa using h0), if_neg (by omega), Int.toNat_natCast, hl]]
        have H := Lib.hid h
        have HP := Lib.hid hrp
        clear h h0 hrp
        go_enter Try.func15, Try.ntmps15
        go_wp2_with fail
        refine HR.out.mono ?_; rintro e w2 ⟨rfl, e2⟩
        have E2 := Lib.hid e2
        clear e2
        go_wp2_with fail
        refine (before_ A n c p w2 (H.out.ext E2.out) HP.out).mono ?_; rintro e w3 ⟨A3, ss, rfl, hl3, e3⟩
        obtain ⟨g, og, rfl, hgl⟩ := hl3.room.some_ (by omega)
        obtain ⟨⟨sA, sn, sc⟩, hsk⟩ : ∃ s, ss[k]? = some s := ⟨ss[k]'(by have := hl3.n_; have := hl3.len; rw [befL_len] at this; omega), List.getElem?_eq_getElem _⟩
        obtain ⟨lk, hlk, hrk⟩ := hl3.at_ k _ hsk
        obtain rfl : lk = befN p n k := by
          unfold befL at hlk
          rw [List.getElem?_map, List.getElem?_range hk] at hlk
          exact (Option.some.inj hlk).symm
        have hck := hl3.room.cellAt (k := k) (u := .slice sA sn sc) (by rw [List.getElem?_map, hsk]; rfl)
        have hsn : (befN p n k).length = sn := by have := hrk.1; rwa [List.length_map] at this
        have HF := Lib.hid (show Room w3 sA (befN p n k).length sc ((befN p n k).map intv) ∧ (∀ j, foot sA sc j → w.heap.size ≤ j) ∧ Ext w w3 from ⟨by rw [hsn]; exact hrk, fun j hj => Nat.le_trans E2.out.size (hl3.new j (.inr ⟨_, List.mem_of_getElem? hsk, hj⟩)), E2.out.t e3⟩)
        have Hsn := Lib.hid hsn
        clear hl3 hsk hrk hlk e3 hgl hsn
        generalize befN p n k = L at *
        go_wp2_with fail
        go_ret2
        exact ⟨sA, sc, by rw [Hsn.out]; rfl, HF.out⟩
  · rw [if_neg h0] at HR
    rw [show befF p i = ([], 160) by unfold befF; rw [if_pos (by simpa using h0)]]
    clear h h0
    go_enter Try.func15, Try.ntmps15
    go_wp2_with fail
    refine HR.out.mono ?_; rintro e w2 ⟨rfl, e2⟩
    have E2 := Lib.hid e2
    clear e2
    go_wp2_with fail
    go_ret2
    exact ⟨none, 0, rfl, Room.nil, fun k hk => absurd hk foot_none, E2.out⟩
def boolv (b : Bool) : Value := .bool b
theorem ul_bo : Try.prog.underlying 30 = some (.slice 4) := by kernel_rfl
theorem info_bo : (Try.prog.info? 4).map (fun i => (i.zero, i.size, i.bytes)) = some (some (.bool false), 1, 1) := by kernel_rfl
def rchB (d : List Int) : List Bool := d.map (fun x => decide (0 ≤ x))
/-- What Reached leaves. -/
def RchP (p : List Ins) (n : Nat) (w : World) (e : Ending) (w' : World) : Prop :=
  ∃ A c out, e = .returned (.tuple #[.slice A n c, .int .i64 0]) ∧ IsD (EdP p) n 0 out ∧ Room w' A n c ((rchB out).map boolv) ∧ (∀ q, foot A c q → w.heap.size ≤ q) ∧ Ext w w'
theorem reached_bad (A : Option Addr) (n c : Nat) (p : List Ins) (w : World) (h : RdS 5 insC w A n p) (h0 : (checkF p).2 ≠ 0) :
    Calls Try.prog 20 #[.slice A n c] w fun e w' => e = .returned (.tuple #[.slice none 0 0, .int .i64 160]) ∧ Ext w w' := by
  have HR := Lib.hid (dist_bad A n c p w h h0)
  clear h h0
  go_enter Try.func20, Try.ntmps20
  go_wp2_with fail
  refine HR.out.mono ?_; rintro e w2 ⟨rfl, e2⟩
  have E2 := Lib.hid e2
  clear e2
  go_wp2_with fail
  go_ret2
  exact ⟨rfl, E2.out⟩
set_option maxRecDepth 100000 in
set_option maxHeartbeats 2000000 in
theorem reached_ (A : Option Addr) (n c : Nat) (p : List Ins) (w : World) (h : RdS 5 insC w A n p) (hp : RightP p) :
    Calls Try.prog 20 #[.slice A n c] w (RchP p n w) := by
  have HD := Lib.hid (dist_ A n c p w h hp)
  have hn : n ≤ 256 := by have := hp.max; have := h.1; omega
  clear h hp
  go_enter Try.func20, Try.ntmps20
  go_wp2_with fail
  refine HD.out.mono ?_; rintro e w2 ⟨A2, c2, out, rfl, hI, r2, f2, e2⟩
  have H2 := Lib.hid (And.intro hI (And.intro r2.rd (And.intro e2 (show ∀ k o, A2 = some ⟨k, o, none⟩ → 0 < n → k < w2.heap.size from fun k o hA h0 => r2.lt (k := k) ⟨by have := r2.2.1; omega, o, hA⟩))))
  clear hI r2 f2 e2 HD
  go_wp2_with fail
  go_loopw [6, 19] (fun vo vi wr => ∃ (k : Nat) (Ao : Option Addr) (co : Nat), k ≤ n ∧ vo = .slice Ao k co ∧ vi = .int .i64 (k : Int) ∧ Hid (Room wr Ao k co (((rchB out).take k).map boolv) ∧ (∀ q, foot Ao co q → w2.heap.size ≤ q) ∧ Ext w2 wr)) (fun _ i _ => n - (intOf i).toNat)
  case atStart => exact ⟨0, none, 0, by omega, rfl, rfl, Lib.hid ⟨by rw [List.take_zero]; exact Room.nil, fun q hq => absurd hq foot_none, Ext.refl _⟩⟩
  case round =>
    obtain ⟨k, Ao, co, hk, rfl, rfl, HJ⟩ := hrel
    by_cases hlt : k < n
    · have hltI : (k : Int) < (n : Int) := by omega
      obtain ⟨b2, o2, x, hA2, _, hx, hc⟩ := (H2.out.2.1.ext HJ.out.2.2).at_ hlt
      subst hA2
      unfold intz at hc
      obtain ⟨bb, hbb⟩ : ∃ bb, bb = decide (0 ≤ x) := ⟨_, rfl⟩
      have Hx := Lib.hid (show (rchB out)[k]? = some bb by unfold rchB; rw [List.getElem?_map, hx, hbb]; rfl)
      have hbx : decide (0 ≤ x) = bb := hbb.symm
      clear hx hbb
      go_wp2_with (refine wpl_append_at (by rfl) rfl ul_bo info_bo rfl rfl (HJ.out.1.ext (Ext.alloc _ _)) rfl (Src.ofRd (f := boolv) (xs := [bb]) ul_bo ((Blk.new _ _ _).rd rfl rfl) (fun _ => rfl)) (by simp only [maxLen]; omega) (by omega) ?_)
      intro A6 c6 w6 r6 ch6 ft6
      have HN : Hid (Room w6 A6 (k + 1) c6 (((rchB out).take (k + 1)).map boolv) ∧ (∀ q, foot A6 c6 q → w2.heap.size ≤ q) ∧ Ext w2 w6) := Lib.hid (by
        have hx1 : Ext w2 (wr.alloc (.cells #[.bool bb] 4)) := HJ.out.2.2.t (Ext.alloc _ _)
        refine ⟨by rw [take_snoc Hx.out, List.map_append]; simpa using r6, fun q hq => (ft6 q hq).elim (HJ.out.2.1 q) (fun h => Nat.le_trans hx1.size (by rw [World.size_alloc]; exact h)), hx1.trans (ch6.below hx1.size (fun q hq hf => by have := HJ.out.2.1 q hf; omega))⟩)
      clear r6 ch6 ft6 HJ
      refine Lib.hid ?_
      go_wp2_with fail
      go_roundw
      case rel => exact ⟨k + 1, A6, c6, by omega, by go_num, by go_num, HN⟩
      case measure => simp [intOf]; omega
    · obtain rfl : n = k := by omega
      have hltI : ¬ ((n : Int) < (n : Int)) := by omega
      go_wp2_with fail
      go_ret2
      exact ⟨Ao, co, out, rfl, H2.out.1, by have h := HJ.out.1; rwa [List.take_of_length_le (by unfold rchB; rw [List.length_map, H2.out.1.len]; exact Nat.le_refl _)] at h, fun q hq => Nat.le_trans H2.out.2.2.1.size (HJ.out.2.1 q hq), H2.out.2.2.1.t HJ.out.2.2⟩
end Go.Proofs.Ytlneifgihdickaa
