/- Mci: what MergeCut looks for; what is left without a part of a list. -/
import Derived.Test.YtkeapijehfacfaaMwo
import Derived.Test.YtkeapijehfacfaaMev
namespace Go.Fx
open Go.RowKit
def soonB (t : Int) (x : Ev) : Bool := decide (x.t < t)
theorem hasK_no {l : List Ev} {k : Ky} (h : ∀ y ∈ l, y.k ≠ k) : hasK l k = false := by
  cases e : hasK l k with
  | false => rfl
  | true => obtain ⟨y, hy, h'⟩ := hasK_iff.1 e; exact absurd h' (h y hy)
theorem left_none {a b : List Ev} (h : ∀ x ∈ a, ∃ y ∈ b, y.k = x.k) : leftF a b = [] := by
  unfold leftF
  refine List.filter_eq_nil_iff.2 (fun x hx => ?_)
  rw [hasK_iff.2 (h x hx)]
  simp
theorem left_all {a b : List Ev} (h : ∀ x ∈ a, ∀ y ∈ b, y.k ≠ x.k) : leftF a b = a := by
  unfold leftF
  refine List.filter_eq_self.2 (fun x hx => ?_)
  rw [hasK_no (h x hx)]
  rfl
theorem left_app (a b c : List Ev) : leftF (a ++ b) c = leftF a c ++ leftF b c := by unfold leftF; rw [List.filter_append]
theorem left_right {a b : List Ev} (h : Dif (a ++ b)) : leftF (a ++ b) b = a := by
  obtain ⟨_, _, h3⟩ := List.pairwise_append.1 h
  rw [left_app, left_all (fun x hx y hy e => h3 x hx y hy e.symm), left_none (fun x hx => ⟨x, hx, rfl⟩), List.append_nil]
theorem left_left {a b : List Ev} (h : Dif (a ++ b)) : leftF (a ++ b) a = b := by
  obtain ⟨_, _, h3⟩ := List.pairwise_append.1 h
  rw [left_app, left_none (fun x hx => ⟨x, hx, rfl⟩), left_all (fun x hx y hy e => h3 y hy x hx e), List.nil_append]
theorem cut_early (t : Int) (l : List Ev) : ∀ x ∈ l.take (cutAt t l), laterB t x = false := by
  intro x hx
  obtain ⟨i, hi, rfl⟩ := List.getElem_of_mem hx
  rw [List.length_take] at hi
  rw [List.getElem_take]
  have h := List.not_of_lt_findIdx (p := laterB t) (xs := l) (i := i) (by unfold cutAt at hi; omega)
  simpa using h
theorem cut_late {t : Int} {l : List Ev} (hs : Srt l) : ∀ x ∈ l.drop (cutAt t l), soonB t x = false := by
  intro x hx
  obtain ⟨i, hi, rfl⟩ := List.getElem_of_mem hx
  rw [List.length_drop] at hi
  rw [List.getElem_drop]
  have h0 : cutAt t l < l.length := by omega
  have h1 : laterB t l[cutAt t l] = true := List.findIdx_getElem (p := laterB t) (w := h0)
  unfold laterB at h1
  simp only [decide_eq_true_eq] at h1
  have h2 : l[cutAt t l].t ≤ l[cutAt t l + i].t := by
    rcases Nat.eq_zero_or_pos i with rfl | hp
    · exact Int.le_refl _
    · have h3 := (List.pairwise_iff_getElem.1 hs) (cutAt t l) (cutAt t l + i) h0 (by omega) (by omega)
      have h4 := kl_iff.1 h3
      simp only [Ev.k] at h4
      omega
  unfold soonB
  simp only [decide_eq_false_iff_not]
  omega
theorem srt_take {l : List Ev} (h : Srt l) (m : Nat) : Srt (l.take m) := h.sublist (List.take_sublist _ _)
theorem srt_drop {l : List Ev} (h : Srt l) (m : Nat) : Srt (l.drop m) := h.sublist (List.drop_sublist _ _)
/-- The merge of both parts of a list in order is the list. -/
theorem merge_parts {l : List Ev} (h : Srt l) (m : Nat) : mergeF [l.drop m, l.take m] = (l, -1, 0) := by
  have hp : (l.drop m ++ l.take m).Perm l := by
    have := List.perm_append_comm (l₁ := l.drop m) (l₂ := l.take m)
    rwa [List.take_append_drop] at this
  rw [mergeF_ok (by intro x hx; simp only [List.mem_cons, List.not_mem_nil, or_false] at hx; rcases hx with rfl | rfl; exact srt_drop h m; exact srt_take h m) (by simpa using h.dif.perm hp.symm)]
  rw [show ([l.drop m, l.take m] : List (List Ev)).flatten = l.drop m ++ l.take m by simp, isort_unique h hp.symm]
end Go.Fx
namespace Go.Proofs.Ytkeapijehfacfaa
open Go.RowKit Go.Fx
theorem mcut1_ (x : Ev) (t : Int) (B : Nat) (w : World) (hb : Blk w B 3 #[.int .i64 t]) :
    Calls Try.prog 26 #[evV x, .pointer (some ⟨B, 0, none⟩)] w fun e w' => e = .returned (.bool (laterB t x)) ∧ Ext w w' := by
  have c0 := (hb.alloc (.cells #[.int .i64 x.t, .int .i64 x.s, .int .i64 x.q, .int .i64 x.to, .int .i64 x.v] 37)).cell0
  clear hb
  unfold evV
  go_enter Try.func26, Try.ntmps26
  go_wp2_with fail
  go_ret
  exact ⟨rfl, Ext.alloc _ _⟩
theorem mcut2_ (x : Ev) (t : Int) (B : Nat) (w : World) (hb : Blk w B 3 #[.int .i64 t]) :
    Calls Try.prog 27 #[evV x, .pointer (some ⟨B, 0, none⟩)] w fun e w' => e = .returned (.bool (soonB t x)) ∧ Ext w w' := by
  have c0 := (hb.alloc (.cells #[.int .i64 x.t, .int .i64 x.s, .int .i64 x.q, .int .i64 x.to, .int .i64 x.v] 37)).cell0
  clear hb
  unfold evV
  go_enter Try.func27, Try.ntmps27
  go_wp2_with fail
  go_ret
  exact ⟨rfl, Ext.alloc _ _⟩
set_option maxRecDepth 100000 in
set_option maxHeartbeats 1000000 in
theorem mix1_ (t : Int) (B : Nat) (A : Option Addr) (n c : Nat) (l : List Ev) (w : World) (h : RdS 5 evC w A n l) (hn : n ≤ 1000000000) (hb : Blk w B 3 #[.int .i64 t]) :
    Calls Try.prog 52 #[.slice A n c, .func (.func 26) #[] #[.pointer (some ⟨B, 0, none⟩)]] w fun e w' => e = .returned (.int .i64 (idxI (laterB t) l)) ∧ Ext w w' := by
  have H := Lib.hid h
  have Hl := Lib.hid h.1
  have HF := Lib.hid (show ∀ x ∈ l, ∀ W, Ext w W → Calls Try.prog 26 #[evV x, .pointer (some ⟨B, 0, none⟩)] W (fun e w' => e = .returned (.bool (laterB t x)) ∧ Ext W w') from fun x _ W e => mcut1_ x t B W (hb.ext e))
  clear h hb
  go_enter Try.func52, Try.ntmps52
  go_wp2_with fail
  go_loopw [8] (fun i wr => ∃ k : Nat, k ≤ n ∧ i = .int .i64 (k : Int) ∧ Hid ((∀ y ∈ l.take k, (laterB t) y = false) ∧ Ext w wr)) (fun i _ => n - (intOf i).toNat)
  case atStart => exact ⟨0, by omega, rfl, Lib.hid ⟨by simp, Ext.refl _⟩⟩
  case round =>
    obtain ⟨k, hk, rfl, HJ⟩ := hrel
    by_cases hlt : k < n
    · obtain ⟨b, o, x, rfl, _, hx, c0, c1, c2, c3, c4⟩ := (H.out.ext HJ.out.2).ev hlt
      have hltI : (k : Int) < (n : Int) := by omega
      have HC := Lib.hid (HF.out x (List.mem_of_getElem? hx) wr HJ.out.2)
      unfold evV at HC
      have Hx := Lib.hid hx
      clear hx
      cases hp : (laterB t) x with
      | true =>
        have Hp := Lib.hid hp
        rw [hp] at HC
        clear hp
        go_wp2_with fail
        refine HC.out.mono ?_; rintro e w2 ⟨rfl, e2⟩
        have HV := Lib.hid (idx_hit Hx.out Hp.out HJ.out.1)
        go_wp2_with fail
        go_ret
        refine ⟨ret_int ?_, HJ.out.2.t e2⟩
        unfold idxI
        rw [HV.out, if_pos (by have := Hl.out; omega)]
      | false =>
        have HJ2 : Hid (∀ y ∈ l.take (k + 1), (laterB t) y = false) := Lib.hid (fun y hy => (mem_take_snoc Hx.out hy).elim (HJ.out.1 y) (fun e => by rw [e]; exact hp))
        rw [hp] at HC
        clear hp
        go_wp2_with fail
        refine HC.out.mono ?_; rintro e w2 ⟨rfl, e2⟩
        have HE := Lib.hid (HJ.out.2.t e2)
        clear e2 HC HJ
        go_wp2_with fail
        go_roundw
        case rel => exact ⟨k + 1, by omega, by go_num, Lib.hid ⟨HJ2.out, HE.out⟩⟩
        case measure => simp [intOf]; omega
    · obtain rfl : n = k := by omega
      have HV := Lib.hid (idx_miss (p := (laterB t)) (l := l) (fun y hy => HJ.out.1 y (by rw [List.take_of_length_le (by have := Hl.out; omega)]; exact hy)))
      have HE := Lib.hid HJ.out.2
      clear HJ
      go_wp2_with fail
      go_ret
      refine ⟨ret_int ?_, HE.out⟩
      unfold idxI
      rw [HV.out, if_neg (by omega)]
set_option maxRecDepth 100000 in
theorem has1_ (t : Int) (B : Nat) (A : Option Addr) (n c : Nat) (l : List Ev) (w : World) (h : RdS 5 evC w A n l) (hn : n ≤ 1000000000) (hb : Blk w B 3 #[.int .i64 t]) (hp : ∀ x ∈ l, laterB t x = false) :
    Calls Try.prog 25 #[.slice A n c, .func (.func 26) #[] #[.pointer (some ⟨B, 0, none⟩)]] w fun e w' => e = .returned (.bool false) ∧ Ext w w' := by
  have HI := Lib.hid (mix1_ t B A n c l w h hn hb)
  have hv : idxI (laterB t) l = -1 := by unfold idxI; rw [idx_miss hp, if_neg (by omega)]
  rw [hv] at HI
  clear h hb hp hv
  go_enter Try.func25, Try.ntmps25
  go_wp2_with fail
  refine HI.out.mono ?_; rintro e w2 ⟨rfl, e2⟩
  go_wp2_with fail
  go_ret
  exact ⟨rfl, e2⟩
set_option maxRecDepth 100000 in
set_option maxHeartbeats 1000000 in
theorem mix2_ (t : Int) (B : Nat) (A : Option Addr) (n c : Nat) (l : List Ev) (w : World) (h : RdS 5 evC w A n l) (hn : n ≤ 1000000000) (hb : Blk w B 3 #[.int .i64 t]) :
    Calls Try.prog 52 #[.slice A n c, .func (.func 27) #[] #[.pointer (some ⟨B, 0, none⟩)]] w fun e w' => e = .returned (.int .i64 (idxI (soonB t) l)) ∧ Ext w w' := by
  have H := Lib.hid h
  have Hl := Lib.hid h.1
  have HF := Lib.hid (show ∀ x ∈ l, ∀ W, Ext w W → Calls Try.prog 27 #[evV x, .pointer (some ⟨B, 0, none⟩)] W (fun e w' => e = .returned (.bool (soonB t x)) ∧ Ext W w') from fun x _ W e => mcut2_ x t B W (hb.ext e))
  clear h hb
  go_enter Try.func52, Try.ntmps52
  go_wp2_with fail
  go_loopw [8] (fun i wr => ∃ k : Nat, k ≤ n ∧ i = .int .i64 (k : Int) ∧ Hid ((∀ y ∈ l.take k, (soonB t) y = false) ∧ Ext w wr)) (fun i _ => n - (intOf i).toNat)
  case atStart => exact ⟨0, by omega, rfl, Lib.hid ⟨by simp, Ext.refl _⟩⟩
  case round =>
    obtain ⟨k, hk, rfl, HJ⟩ := hrel
    by_cases hlt : k < n
    · obtain ⟨b, o, x, rfl, _, hx, c0, c1, c2, c3, c4⟩ := (H.out.ext HJ.out.2).ev hlt
      have hltI : (k : Int) < (n : Int) := by omega
      have HC := Lib.hid (HF.out x (List.mem_of_getElem? hx) wr HJ.out.2)
      unfold evV at HC
      have Hx := Lib.hid hx
      clear hx
      cases hp : (soonB t) x with
      | true =>
        have Hp := Lib.hid hp
        rw [hp] at HC
        clear hp
        go_wp2_with fail
        refine HC.out.mono ?_; rintro e w2 ⟨rfl, e2⟩
        have HV := Lib.hid (idx_hit Hx.out Hp.out HJ.out.1)
        go_wp2_with fail
        go_ret
        refine ⟨ret_int ?_, HJ.out.2.t e2⟩
        unfold idxI
        rw [HV.out, if_pos (by have := Hl.out; omega)]
      | false =>
        have HJ2 : Hid (∀ y ∈ l.take (k + 1), (soonB t) y = false) := Lib.hid (fun y hy => (mem_take_snoc Hx.out hy).elim (HJ.out.1 y) (fun e => by rw [e]; exact hp))
        rw [hp] at HC
        clear hp
        go_wp2_with fail
        refine HC.out.mono ?_; rintro e w2 ⟨rfl, e2⟩
        have HE := Lib.hid (HJ.out.2.t e2)
        clear e2 HC HJ
        go_wp2_with fail
        go_roundw
        case rel => exact ⟨k + 1, by omega, by go_num, Lib.hid ⟨HJ2.out, HE.out⟩⟩
        case measure => simp [intOf]; omega
    · obtain rfl : n = k := by omega
      have HV := Lib.hid (idx_miss (p := (soonB t)) (l := l) (fun y hy => HJ.out.1 y (by rw [List.take_of_length_le (by have := Hl.out; omega)]; exact hy)))
      have HE := Lib.hid HJ.out.2
      clear HJ
      go_wp2_with fail
      go_ret
      refine ⟨ret_int ?_, HE.out⟩
      unfold idxI
      rw [HV.out, if_neg (by omega)]
set_option maxRecDepth 100000 in
theorem has2_ (t : Int) (B : Nat) (A : Option Addr) (n c : Nat) (l : List Ev) (w : World) (h : RdS 5 evC w A n l) (hn : n ≤ 1000000000) (hb : Blk w B 3 #[.int .i64 t]) (hp : ∀ x ∈ l, soonB t x = false) :
    Calls Try.prog 25 #[.slice A n c, .func (.func 27) #[] #[.pointer (some ⟨B, 0, none⟩)]] w fun e w' => e = .returned (.bool false) ∧ Ext w w' := by
  have HI := Lib.hid (mix2_ t B A n c l w h hn hb)
  have hv : idxI (soonB t) l = -1 := by unfold idxI; rw [idx_miss hp, if_neg (by omega)]
  rw [hv] at HI
  clear h hb hp hv
  go_enter Try.func25, Try.ntmps25
  go_wp2_with fail
  refine HI.out.mono ?_; rintro e w2 ⟨rfl, e2⟩
  go_wp2_with fail
  go_ret
  exact ⟨rfl, e2⟩
end Go.Proofs.Ytkeapijehfacfaa
