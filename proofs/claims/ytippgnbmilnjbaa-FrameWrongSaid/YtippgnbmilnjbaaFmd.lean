/- Fmd: bodies made of small numbers. -/
import Derived.Test.YtippgnbmilnjbaaFrp
namespace Go.Fx
open Go.RowKit
def bodyOf (s : Nat × Nat) : List Nat := List.replicate (s.1 % 600) s.2
def mdF (l : List (Nat × Nat)) : List (List Nat) := (l.take 30).map bodyOf
/-- A list of pairs of small numbers. -/
structure Smalls (w : World) (A : Option Addr) (n : Nat) (l : List (Nat × Nat)) : Prop where
  len : l.length = n
  at_ : ∀ (i : Nat) (a : Nat × Nat), l[i]? = some a → ∃ b o, A = some ⟨b, o, none⟩ ∧ b < w.heap.size ∧ w.cell? ⟨b, o + i * 2, none⟩ = some (.int .u16 (a.1 : Int)) ∧ w.cell? ⟨b, o + i * 2 + 1, none⟩ = some (.int .u8 (a.2 : Int)) ∧ a.1 < 65536 ∧ a.2 < 256
theorem Smalls.ext {w w' : World} {A : Option Addr} {n : Nat} {l : List (Nat × Nat)} (h : Smalls w A n l) (e : Ext w w') : Smalls w' A n l :=
  ⟨h.len, fun i a ha => by obtain ⟨b, o, h1, h2, h3, h4, h5⟩ := h.at_ i a ha; exact ⟨b, o, h1, Nat.lt_of_lt_of_le h2 e.size, (e.cell (p := ⟨b, o + i * 2, none⟩) h2).trans h3, (e.cell (p := ⟨b, o + i * 2 + 1, none⟩) h2).trans h4, h5⟩⟩
theorem mdF_mem {l : List (Nat × Nat)} (h : ∀ a ∈ l, a.2 < 256) : ∀ x ∈ mdF l, (∀ y ∈ x, y < 256) ∧ x.length ≤ 599 := by
  intro x hx
  obtain ⟨a, ha, rfl⟩ := List.mem_map.1 hx
  have h1 := h a (List.mem_of_mem_take ha)
  refine ⟨fun y hy => ?_, ?_⟩
  · rw [(List.mem_replicate.1 hy).2]; exact h1
  · simp only [bodyOf, List.length_replicate]; omega
theorem mdF_len (l : List (Nat × Nat)) : (mdF l).length = min l.length 30 := by simp [mdF]; omega
end Go.Fx
namespace Go.Proofs.Ytippgnbmilnjbaa
open Go.RowKit Go.Fx
/-- What Made answers. -/
def MadeP (l : List (Nat × Nat)) (w : World) (e : Ending) (w' : World) : Prop := ∃ A n c os, e = .returned (.slice A n c) ∧ Lst w.heap.size w' A n c os (mdF l) ∧ Ext w w'
/-- What holds between two rounds of Made. -/
structure MdJ (w : World) (l : List (Nat × Nat)) (k : Nat) (Ao : Option Addr) (co : Nat) (os : List Sl) (wr : World) : Prop where
  lst : Lst w.heap.size wr Ao k co os ((l.take k).map bodyOf)
  ext : Ext w wr
theorem MdJ.step {w wr wa w1 w2 w3 : World} {l : List (Nat × Nat)} {k : Nat} {Ao A3 : Option Addr} {co c3 : Nat} {os : List Sl} {a : Nat × Nat} {s : Sl} {nn : Nat} (h : MdJ w l k Ao co os wr) (ha : l[k]? = some a) (ea : Ext wr wa) (hs : Cloned wa (bodyOf a) nn s w1) (e2 : Ext w1 w2)
    (r : Room w3 A3 (k + 1) c3 (os.map slv ++ [slv s])) (ch : Chg (foot Ao co) w2 w3) (ft : ∀ j, foot A3 c3 j → foot Ao co j ∨ w2.heap.size ≤ j) : MdJ w l (k + 1) A3 c3 (os ++ [s]) w3 := by
  have hz := h.ext.size
  have hza := ea.size
  have hz1 := hs.ext.size
  have hl1 := (h.lst.ext ea).ext hs.ext
  have hp := hl1.push (by omega) hs.byt (fun j hj => by
    have h1 := hs.new j hj
    exact ⟨by omega, fun h2 => by have := h.lst.lt (.inl h2); omega, fun h2 => by have := h.lst.lt (.inr h2); omega⟩) e2 r ch ft
  have e1 : Ext w w2 := h.ext.t (ea.t (hs.ext.t e2))
  refine ⟨?_, e1.trans (ch.below e1.size (fun j hj ht => by have := h.lst.new j (.inl ht); omega))⟩
  rw [take_snoc ha, List.map_append]
  exact hp
theorem sm_to (A : Option Addr) (n c hi : Nat) (w : World) (h2 : hi ≤ c) :
    (Instr.sliceAt 22 (.slice A n c) none (some (.int .i64 (hi : Int))) none).run Try.prog w = .ok (.slice A hi c) w := by
  have h4 : (hi : Int) ≤ (c : Int) := by omega
  have h5 : (0 : Int) ≤ (hi : Int) := by omega
  simp [go_sem, sliced, h4, Addr.add]
theorem sm_toI {A : Option Addr} {n c hi : Nat} {li : Int} (w : World) (e : li = (hi : Int)) (h2 : hi ≤ c) :
    (Instr.sliceAt 22 (.slice A n c) none (some (.int .i64 li)) none).run Try.prog w = .ok (.slice A hi c) w := by
  subst e; exact sm_to A n c hi w h2
set_option maxRecDepth 100000 in
set_option maxHeartbeats 2000000 in
theorem made1 (A : Option Addr) (n c : Nat) (l : List (Nat × Nat)) (w : World) (h : Smalls w A n l) (hc : n ≤ c) (h30 : 30 < n) :
    Calls Try.prog 13 #[.slice A n c] w (MadeP l w) := by
  have HS := Lib.hid h
  have H0 : Hid (MdJ w l 0 none 0 [] w) := Lib.hid ⟨Lst.nil, Ext.refl _⟩
  have HTK : Hid ((l.take 30).map bodyOf = mdF l) := Lib.hid rfl
  have h30I : (30 : Int) < (n : Int) := by omega
  have hsl := fun w' => sm_toI (A := A) (n := n) (c := c) (hi := 30) (li := 30) w' rfl (by omega)
  clear h
  go_enter Try.func13, Try.ntmps13
  go_wp2_with fail
  go_loopw [3, 12] (fun v i wr => ∃ (k : Nat) (Ao : Option Addr) (co : Nat) (os : List Sl), k ≤ 30 ∧ i = .int .i64 (k : Int) ∧ v = .slice Ao k co ∧ Hid (MdJ w l k Ao co os wr)) (fun _ i _ => 30 - (intOf i).toNat)
  case atStart => exact ⟨0, none, 0, [], by omega, rfl, rfl, H0⟩
  case round =>
    clear H0
    obtain ⟨k, Ao, co, os, hk, rfl, rfl, HJ⟩ := hrel
    by_cases hlt : k < 30
    · have hltI : (k : Int) < (30 : Int) := by omega
      obtain ⟨a, ha⟩ : ∃ a, l[k]? = some a := ⟨_, List.getElem?_eq_getElem (by have := HS.out.len; omega)⟩
      obtain ⟨b, o, rfl, hbl, hc1, hc2, ha1, ha2⟩ := (HS.out.ext HJ.out.ext).at_ k a ha
      obtain ⟨sz, by_⟩ := a
      simp only at hc1 hc2 ha1 ha2
      obtain ⟨q, hq⟩ : ∃ q, q = sz % 600 := ⟨_, rfl⟩
      have hm1 : (sz : Int) % 600 = (q : Int) := by omega
      have hm2 : (sz : Int).tmod 600 = (q : Int) := by rw [Int.tmod_eq_emod_of_nonneg (by omega)]; exact hm1
      have hq6 : q < 600 := by omega
      have hm3 : IntKind.i64.wrap (q : Int) = (q : Int) := IntWalk.i64_in _ (by omega)
      have hm4 : IntKind.u16.wrap (q : Int) = (q : Int) := by rw [IntKind.wrap_u16]; omega
      have hbd : bodyOf (sz, by_) = repF q [by_] := by rw [repF_byte, hq]; rfl
      have Ha := Lib.hid ha
      have Hbd := Lib.hid hbd
      have Hb2 : Hid (∀ x ∈ [by_], x < 256) := Lib.hid (by simp; exact ha2)
      clear ha hq hbd
      go_wp2_with (refine wpl_build (by rfl) rfl ul_u8 info_u8 [.tmp 18] (by rfl) (by rfl) (by decide) (f := u8v) [by_] (by rfl) (fun _ => rfl) ?_)
      intro g w2 b2 e2 lo2 r2; refine Lib.hid ?_
      have hcz : w2.cell? ⟨wr.heap.size, 0, none⟩ = some (.int .u16 (sz : Int)) := by
        rw [((Blk.new wr 53 #[.int .u16 (sz : Int), .int .u8 (by_ : Int)]).ext e2).cell]; rfl
      have HR := Lib.hid (repeat_ (some ⟨g, 0, none⟩) 1 1 q [by_] w2 r2 Hb2.out (by omega) (by omega) (by omega))
      have E2 := Lib.hid ((Ext.alloc wr _).t e2)
      clear b2 e2 lo2 r2
      go_wp2_with fail
      refine HR.out.mono ?_; rintro e w3 ⟨s, rfl, hs⟩
      rw [← Hbd.out] at hs
      have Hs := Lib.hid hs
      clear hs HR
      unfold slv
      go_wp2_with (refine wpl_build (by rfl) rfl ul_bb info_bb [.tmp 24] (by rfl) (by rfl) (by decide) (f := slv) [s] (by rfl) (fun _ => rfl) ?_)
      intro g4 w4 b4 e4 lo4 r4; refine Lib.hid ?_
      have hrm := (HJ.out.lst.ext (E2.out.t (Hs.out.ext.t e4))).room
      clear b4 lo4
      go_wp2_with (refine wpl_append_at (by rfl) rfl ul_bb info_bb rfl rfl hrm rfl (Src.ofRd ul_bb r4 (fun _ => rfl)) (by simp only [maxLen]; omega) (by omega) ?_)
      intro A5 c5 w5 r5 ch5 ft5; refine Lib.hid ?_
      have Hst := Lib.hid (HJ.out.step Ha.out E2.out Hs.out e4 r5 ch5 ft5)
      clear r5 ch5 ft5 hrm r4 e4
      go_wp2_with fail
      go_roundw
      case rel => exact ⟨k + 1, A5, c5, os ++ [s], by omega, by go_num, rfl, Hst⟩
      case measure => simp [intOf]; omega
    · obtain rfl : k = 30 := by omega
      have HL := HJ.out.lst
      have HE := Lib.hid HJ.out.ext
      rw [HTK.out] at HL
      have HLs := Lib.hid HL
      clear HL
      go_wp2_with fail
      go_ret
      exact ⟨Ao, 30, co, os, rfl, HLs.out, HE.out⟩
set_option maxRecDepth 100000 in
set_option maxHeartbeats 2000000 in
theorem made2 (A : Option Addr) (n c : Nat) (l : List (Nat × Nat)) (w : World) (h : Smalls w A n l) (hc : n ≤ c) (h30 : n ≤ 30) :
    Calls Try.prog 13 #[.slice A n c] w (MadeP l w) := by
  have HS := Lib.hid h
  have H0 : Hid (MdJ w l 0 none 0 [] w) := Lib.hid ⟨Lst.nil, Ext.refl _⟩
  have HTK : Hid ((l.take n).map bodyOf = mdF l) := Lib.hid (by unfold mdF; rw [List.take_of_length_le (by rw [h.len]; exact Nat.le_refl _), List.take_of_length_le (by rw [h.len]; exact h30)])
  have h30I : ¬ (30 : Int) < (n : Int) := by omega
  have hsl := fun w' => sm_toI (A := A) (n := n) (c := c) (hi := n) (li := (n : Int)) w' rfl (by omega)
  clear h
  go_enter Try.func13, Try.ntmps13
  go_wp2_with fail
  go_loopw [3, 12] (fun v i wr => ∃ (k : Nat) (Ao : Option Addr) (co : Nat) (os : List Sl), k ≤ n ∧ i = .int .i64 (k : Int) ∧ v = .slice Ao k co ∧ Hid (MdJ w l k Ao co os wr)) (fun _ i _ => n - (intOf i).toNat)
  case atStart => exact ⟨0, none, 0, [], by omega, rfl, rfl, H0⟩
  case round =>
    clear H0
    obtain ⟨k, Ao, co, os, hk, rfl, rfl, HJ⟩ := hrel
    by_cases hlt : k < n
    · have hltI : (k : Int) < (n : Int) := by omega
      obtain ⟨a, ha⟩ : ∃ a, l[k]? = some a := ⟨_, List.getElem?_eq_getElem (by have := HS.out.len; omega)⟩
      obtain ⟨b, o, rfl, hbl, hc1, hc2, ha1, ha2⟩ := (HS.out.ext HJ.out.ext).at_ k a ha
      obtain ⟨sz, by_⟩ := a
      simp only at hc1 hc2 ha1 ha2
      obtain ⟨q, hq⟩ : ∃ q, q = sz % 600 := ⟨_, rfl⟩
      have hm1 : (sz : Int) % 600 = (q : Int) := by omega
      have hm2 : (sz : Int).tmod 600 = (q : Int) := by rw [Int.tmod_eq_emod_of_nonneg (by omega)]; exact hm1
      have hq6 : q < 600 := by omega
      have hm3 : IntKind.i64.wrap (q : Int) = (q : Int) := IntWalk.i64_in _ (by omega)
      have hm4 : IntKind.u16.wrap (q : Int) = (q : Int) := by rw [IntKind.wrap_u16]; omega
      have hbd : bodyOf (sz, by_) = repF q [by_] := by rw [repF_byte, hq]; rfl
      have Ha := Lib.hid ha
      have Hbd := Lib.hid hbd
      have Hb2 : Hid (∀ x ∈ [by_], x < 256) := Lib.hid (by simp; exact ha2)
      clear ha hq hbd
      go_wp2_with (refine wpl_build (by rfl) rfl ul_u8 info_u8 [.tmp 18] (by rfl) (by rfl) (by decide) (f := u8v) [by_] (by rfl) (fun _ => rfl) ?_)
      intro g w2 b2 e2 lo2 r2; refine Lib.hid ?_
      have hcz : w2.cell? ⟨wr.heap.size, 0, none⟩ = some (.int .u16 (sz : Int)) := by
        rw [((Blk.new wr 53 #[.int .u16 (sz : Int), .int .u8 (by_ : Int)]).ext e2).cell]; rfl
      have HR := Lib.hid (repeat_ (some ⟨g, 0, none⟩) 1 1 q [by_] w2 r2 Hb2.out (by omega) (by omega) (by omega))
      have E2 := Lib.hid ((Ext.alloc wr _).t e2)
      clear b2 e2 lo2 r2
      go_wp2_with fail
      refine HR.out.mono ?_; rintro e w3 ⟨s, rfl, hs⟩
      rw [← Hbd.out] at hs
      have Hs := Lib.hid hs
      clear hs HR
      unfold slv
      go_wp2_with (refine wpl_build (by rfl) rfl ul_bb info_bb [.tmp 24] (by rfl) (by rfl) (by decide) (f := slv) [s] (by rfl) (fun _ => rfl) ?_)
      intro g4 w4 b4 e4 lo4 r4; refine Lib.hid ?_
      have hrm := (HJ.out.lst.ext (E2.out.t (Hs.out.ext.t e4))).room
      clear b4 lo4
      go_wp2_with (refine wpl_append_at (by rfl) rfl ul_bb info_bb rfl rfl hrm rfl (Src.ofRd ul_bb r4 (fun _ => rfl)) (by simp only [maxLen]; omega) (by omega) ?_)
      intro A5 c5 w5 r5 ch5 ft5; refine Lib.hid ?_
      have Hst := Lib.hid (HJ.out.step Ha.out E2.out Hs.out e4 r5 ch5 ft5)
      clear r5 ch5 ft5 hrm r4 e4
      go_wp2_with fail
      go_roundw
      case rel => exact ⟨k + 1, A5, c5, os ++ [s], by omega, by go_num, rfl, Hst⟩
      case measure => simp [intOf]; omega
    · obtain rfl : n = k := by omega
      have HL := HJ.out.lst
      have HE := Lib.hid HJ.out.ext
      rw [HTK.out] at HL
      have HLs := Lib.hid HL
      clear HL
      go_wp2_with fail
      go_ret
      exact ⟨Ao, n, co, os, rfl, HLs.out, HE.out⟩
theorem made_ (A : Option Addr) (n c : Nat) (l : List (Nat × Nat)) (w : World) (h : Smalls w A n l) (hc : n ≤ c) :
    Calls Try.prog 13 #[.slice A n c] w (MadeP l w) := by
  by_cases h30 : 30 < n
  · exact made1 A n c l w h hc h30
  · exact made2 A n c l w h hc (by omega)
end Go.Proofs.Ytippgnbmilnjbaa
