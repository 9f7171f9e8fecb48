/- Fbg: beginnings of a frame, and the least bytes that make a frame of one. -/
import Derived.Test.YtippgnbmilnjbaaFbk
import Derived.Test.YtippgnbmilnjbaaSts
namespace Go.Fx
open Go.RowKit
/-- A beginning of a frame needs what is missing, and is short. -/
theorem pre_frame {x : List Nat} (hx : x.length ≤ 16384) {k : Nat} (hk : k < (frF x).length) :
    (sz ((frF x).take k)).2.2 = 0 ∧ k < (sz ((frF x).take k)).1 ∧ (sz ((frF x).take k)).1 ≤ (frF x).length ∧ ((frF x).take k).length = k := by
  have hl : ((frF x).take k).length = k := by rw [List.length_take]; omega
  have e : (frF x).take k ++ (frF x).drop k = frF x := List.take_append_drop _ _
  have h0 : sz (frF x) = ((frF x).length, (fmF x.length).length, 0) := by
    have := sz_frF hx x
    rw [frF_len]; exact this
  have h1 := sz_app_le (xs := (frF x).take k) (ys := (frF x).drop k) (by rw [e, h0])
  rw [e, h0] at h1
  refine ⟨h1.1, ?_, h1.2, hl⟩
  by_cases h2 : (sz ((frF x).take k)).2.1 = 0
  · have := (sz_pos h1.1).2.2.2 h2
    omega
  · have h3 := sz_app_whole ((frF x).drop k) h2
    rw [e, h0] at h3
    rw [← h3]
    exact hk
theorem rdF_pre {P : List Nat} (h0 : (sz P).2.2 = 0) (h1 : P.length < (sz P).1) : rdF P = ([], 0, 30) := by
  unfold rdF; rw [if_pos h0, if_pos (.inr h1)]
theorem ndF_pre {P : List Nat} (h0 : (sz P).2.2 = 0) : ndF P = ((sz P).1 - P.length, 0) := by unfold ndF; rw [if_pos h0]
theorem rdF_less {P t : List Nat} (h : P.length + t.length < (sz P).1) : (rdF (P ++ t)).2.2 ≠ 0 := by
  intro h1
  obtain ⟨h2, _, h4, _⟩ := rdF_ok h1
  have h5 := (sz_app_le h2).2
  rw [List.length_append] at h4
  omega
/-- The least bytes. -/
def leastF (P : List Nat) (need : Nat) : List Nat := if P = [247] then 247 :: List.replicate (need - 1) 0 else if P = [248] then 1 :: List.replicate (need - 1) 0 else List.replicate need 0
theorem leastF_len (P : List Nat) {need : Nat} (h : 1 ≤ need) : (leastF P need).length = need := by
  unfold leastF
  split
  · simp; omega
  · split
    · simp; omega
    · simp
theorem leastF_lt (P : List Nat) (need : Nat) : ∀ x ∈ leastF P need, x < 256 := by
  unfold leastF
  intro x hx
  split at hx
  · simp at hx; omega
  · split at hx
    · simp at hx; omega
    · simp at hx; omega
theorem rdF_mk {Q : List Nat} {n m : Nat} (h : sz Q = (n, m, 0)) (hm : m ≠ 0) (hn : n ≤ Q.length) : (rdF Q).2 = (n, 0) := by
  unfold rdF; rw [h]; simp only [if_true]; rw [if_neg (by omega)]
theorem rdF_least {P : List Nat} (h0 : (sz P).2.2 = 0) (h1 : P.length < (sz P).1) : (rdF (P ++ leastF P ((sz P).1 - P.length))).2 = ((sz P).1, 0) := by
  have hl := leastF_len P (need := (sz P).1 - P.length) (by omega)
  have hlen : (P ++ leastF P ((sz P).1 - P.length)).length = (sz P).1 := by rw [List.length_append, hl]; omega
  by_cases h2 : (sz P).2.1 = 0
  · have h3 := hd_of P
    generalize sz P = u at h3 h0 h1 h2 hlen
    cases h3 with
    | nil => exact rdF_mk (m := 1) (hd_sz (.small (by omega))) (by omega) (by simp [leastF])
    | small => simp at h2
    | high => cases h0
    | a1 => simp at h2
    | a2 => cases h0
    | b2 => cases h0
    | b3 => simp at h2
    | b4 => cases h0
    | a0 =>
      refine rdF_mk (m := 2) ?_ (by omega) (by rw [hlen]; exact Nat.le_refl _)
      unfold leastF
      rw [if_pos rfl]
      exact hd_sz (.a1 (x := 247) (by omega))
    | b0 =>
      refine rdF_mk (m := 3) ?_ (by omega) (by rw [hlen]; exact Nat.le_refl _)
      unfold leastF
      rw [if_neg (by simp), if_pos rfl, show 259 - [248].length - 1 = 256 + 1 from rfl, List.replicate_succ]
      exact hd_sz (.b3 (x := 1) (y := 0) (by omega) (by omega))
    | b1 h4 h5 =>
      rename_i x
      refine rdF_mk (m := 3) ?_ (by omega) (by rw [hlen]; exact Nat.le_refl _)
      unfold leastF
      obtain ⟨j, hj⟩ : ∃ j, 3 + 256 * x - [248, x].length = j + 1 := ⟨256 * x, by simp; omega⟩
      rw [if_neg (by simp), if_neg (by simp), hj, List.replicate_succ]
      exact hd_sz (.b3 (x := x) (y := 0) (by omega) (by omega))
  · have h3 := sz_app_whole (leastF P ((sz P).1 - P.length)) h2
    have e : sz P = ((sz P).1, (sz P).2.1, 0) := by rw [← h0]
    exact rdF_mk (by rw [h3]; exact e) h2 (by rw [hlen]; exact Nat.le_refl _)
end Go.Fx
namespace Go.Proofs.Ytippgnbmilnjbaa
open Go.RowKit Go.Fx
/-- What least leaves. -/
def LeastP (P : List Nat) (need : Nat) (w : World) (e : Ending) (w' : World) : Prop := ∃ s : Sl, e = .returned (slv s) ∧ Cloned w (leastF P need) need s w'
theorem leastP_mk {P : List Nat} {need : Nat} {w w1 w2 : World} {A : Option Addr} {l : List Nat} (e : Ext w w1) (hr : Room w2 A need need (l.map u8v)) (ch : Chg (foot A need) w1 w2) (ft : ∀ k, foot A need k → w.heap.size ≤ k) (hl : l = leastF P need) : LeastP P need w (.returned (.slice A need need)) w2 := by
  subst hl
  exact ⟨⟨A, need, need⟩, rfl, rfl, ⟨hr, leastF_lt P need⟩, e.trans (ch.below e.size (fun k hk ht => by have := ft k ht; omega)), ft⟩
theorem rep_map (n x : Nat) : List.replicate n (Value.int .u8 (x : Int)) = (List.replicate n x).map u8v := by rw [List.map_replicate]
set_option maxHeartbeats 1000000 in
theorem fleast_ (A : Option Addr) (n c : Nat) (P : List Nat) (need : Nat) (w : World) (h : Rd u8v w A n P) (h1 : 1 ≤ need) (h2 : need ≤ 1000000) :
    Calls Try.prog 33 #[.slice A n c, .int .i64 (need : Int)] w (LeastP P need w) := by
  have hl := h.1
  have hm1 : need ≤ maxLen := by simp only [maxLen]; omega
  by_cases hn : n = 1
  · subst hn
    obtain ⟨d, rfl⟩ : ∃ d, P = [d] := List.length_eq_one_iff.1 hl
    obtain ⟨b, o, x, rfl, _, hx, hc⟩ := h.at_ (k := 0) (by omega)
    simp only [List.getElem?_cons_zero, Option.some.injEq] at hx
    subst hx
    rw [Nat.add_zero] at hc
    have HR := Lib.hid h
    clear h hl
    by_cases h7 : d = 247
    · subst h7
      have hq : (((247 : Nat) : Int) == 247) = true := by simp
      go_enter Try.func33, Try.ntmps33
      go_wp2_with (refine wpl_makeN rfl rfl ul_u8 info_u8 rfl (n := need) rfl rfl rfl rfl (by omega) hm1 ?_)
      intro A1 w1 hr e1 ft; refine Lib.hid ?_
      obtain ⟨g, og, rfl, hg⟩ := hr.some_ (by omega)
      have hc1 := (HR.out.ext e1).at_ (k := 0) (by omega)
      obtain ⟨b', o', x', e', _, hx', hc'⟩ := hc1
      cases e'
      cases hx'
      rw [Nat.add_zero] at hc'
      have hz : w1.cell? ⟨g, og, none⟩ = some (.int .u8 0) := by have := hr.cellAt (k := 0) (u := .int .u8 0) (by rw [List.getElem?_replicate, if_pos (by omega)]); rwa [Nat.add_zero] at this
      have hf : w1.frozen? ⟨g, og, none⟩ = false := by have := hr.frozenAt (k := 0) (by omega); rwa [Nat.add_zero] at this
      have hst := hr.set (k := 0) (by omega) (.int .u8 247)
      rw [Nat.add_zero] at hst
      have Hst := Lib.hid hst
      have E1 := Lib.hid e1
      have FT := Lib.hid ft
      have hnp : (0 : Int) < (need : Int) := by omega
      clear hst e1 ft hr hg
      go_wp2_with fail
      go_ret
      refine leastP_mk (l := 247 :: List.replicate (need - 1) 0) E1.out ?_ (Chg.set _ g og _ ⟨by omega, og, rfl⟩) FT.out (by unfold leastF; rw [if_pos rfl])
      have h3 := Hst.out
      rw [show List.replicate need (Value.int .u8 0) = Value.int .u8 0 :: List.replicate (need - 1) (Value.int .u8 0) by rw [← List.replicate_succ]; congr 1; omega, List.set_cons_zero] at h3
      rw [List.map_cons, ← rep_map]
      exact h3
    · by_cases h8 : d = 248
      · subst h8
        have hq : (((248 : Nat) : Int) == 247) = false := by simp
        have hq2 : (((248 : Nat) : Int) == 248) = true := by simp
        go_enter Try.func33, Try.ntmps33
        go_wp2_with (refine wpl_makeN rfl rfl ul_u8 info_u8 rfl (n := need) rfl rfl rfl rfl (by omega) hm1 ?_)
        intro A1 w1 hr e1 ft; refine Lib.hid ?_
        obtain ⟨g, og, rfl, hg⟩ := hr.some_ (by omega)
        have hc1 := (HR.out.ext e1).at_ (k := 0) (by omega)
        obtain ⟨b', o', x', e', _, hx', hc'⟩ := hc1
        cases e'
        cases hx'
        rw [Nat.add_zero] at hc'
        have hz : w1.cell? ⟨g, og, none⟩ = some (.int .u8 0) := by have := hr.cellAt (k := 0) (u := .int .u8 0) (by rw [List.getElem?_replicate, if_pos (by omega)]); rwa [Nat.add_zero] at this
        have hf : w1.frozen? ⟨g, og, none⟩ = false := by have := hr.frozenAt (k := 0) (by omega); rwa [Nat.add_zero] at this
        have hst := hr.set (k := 0) (by omega) (.int .u8 1)
        rw [Nat.add_zero] at hst
        have Hst := Lib.hid hst
        have E1 := Lib.hid e1
        have FT := Lib.hid ft
        have hnp : (0 : Int) < (need : Int) := by omega
        clear hst e1 ft hr hg
        go_wp2_with fail
        go_ret
        refine leastP_mk (l := 1 :: List.replicate (need - 1) 0) E1.out ?_ (Chg.set _ g og _ ⟨by omega, og, rfl⟩) FT.out (by unfold leastF; rw [if_neg (by simp), if_pos rfl])
        have h3 := Hst.out
        rw [show List.replicate need (Value.int .u8 0) = Value.int .u8 0 :: List.replicate (need - 1) (Value.int .u8 0) by rw [← List.replicate_succ]; congr 1; omega, List.set_cons_zero] at h3
        rw [List.map_cons, ← rep_map]
        exact h3
      · have hq : ((d : Int) == 247) = false := by simp; omega
        have hq2 : ((d : Int) == 248) = false := by simp; omega
        have HLf : Hid (List.replicate need 0 = leastF [d] need) := Lib.hid (by unfold leastF; rw [if_neg (by simp; omega), if_neg (by simp; omega)])
        clear h7 h8
        go_enter Try.func33, Try.ntmps33
        go_wp2_with (refine wpl_makeN rfl rfl ul_u8 info_u8 rfl (n := need) rfl rfl rfl rfl (by omega) hm1 ?_)
        intro A1 w1 hr e1 ft; refine Lib.hid ?_
        have hc1 := (HR.out.ext e1).at_ (k := 0) (by omega)
        obtain ⟨b', o', x', e', _, hx', hc'⟩ := hc1
        cases e'
        cases hx'
        rw [Nat.add_zero] at hc'
        have Hr := Lib.hid hr
        have E1 := Lib.hid e1
        have FT := Lib.hid ft
        clear e1 ft hr
        go_wp2_with fail
        go_ret
        refine leastP_mk (l := List.replicate need 0) E1.out ?_ (Chg.refl _ _) FT.out HLf.out
        rw [← rep_map]
        exact Hr.out
  · have hq : ((n : Int) == 1) = false := by simp; omega
    have HLf : Hid (List.replicate need 0 = leastF P need) := Lib.hid (by
      unfold leastF
      rw [if_neg (fun e => by rw [e] at hl; simp at hl; omega), if_neg (fun e => by rw [e] at hl; simp at hl; omega)])
    clear hn h hl
    go_enter Try.func33, Try.ntmps33
    go_wp2_with (refine wpl_makeN rfl rfl ul_u8 info_u8 rfl (n := need) rfl rfl rfl rfl (by omega) hm1 ?_)
    intro A1 w1 hr e1 ft; refine Lib.hid ?_
    have Hr := Lib.hid hr
    have E1 := Lib.hid e1
    have FT := Lib.hid ft
    clear e1 ft hr
    go_wp2_with fail
    go_ret
    refine leastP_mk (l := List.replicate need 0) E1.out ?_ (Chg.refl _ _) FT.out HLf.out
    rw [← rep_map]
    exact Hr.out
end Go.Proofs.Ytippgnbmilnjbaa
