/- The reference answer's Read: what it computes is the plain reading; with the walk. -/
import Derived.Test.YtidjimkhppfjjaaRefD
import Derived.Test.YtidjimkhppfjjaaLex
import Derived.Test.YtidjimkhppfjjaaLent
import Derived.Deep.CutRange
namespace Go.Fx.Num
theorem val_inj : ∀ l l' : List Nat, l.length = l'.length → (∀ d ∈ l, d < 256) → (∀ d ∈ l', d < 256) → val l = val l' → l = l'
  | [], [], _, _, _, _ => rfl
  | [], _ :: _, h, _, _, _ => by simp at h
  | _ :: _, [], h, _, _, _ => by simp at h
  | d :: l, d' :: l', h, h1, h2, hv => by
    have hlen : l.length = l'.length := by simpa using h
    have b1 := val_lt l (fun x hx => h1 x (by simp [hx]))
    have b2 := val_lt l' (fun x hx => h2 x (by simp [hx]))
    rw [val_cons, val_cons, ← hlen] at hv
    rw [← hlen] at b2
    have hp : 0 < 256 ^ l.length := Nat.pow_pos (by omega)
    have q1 : (d * 256 ^ l.length + val l) / 256 ^ l.length = d := by rw [Nat.add_comm, Nat.add_mul_div_right _ _ hp, Nat.div_eq_of_lt b1]; omega
    have q2 : (d' * 256 ^ l.length + val l') / 256 ^ l.length = d' := by rw [Nat.add_comm, Nat.add_mul_div_right _ _ hp, Nat.div_eq_of_lt b2]; omega
    have hd : d = d' := by rw [← q1, hv, q2]
    subst hd
    rw [val_inj l l' hlen (fun x hx => h1 x (by simp [hx])) (fun x hx => h2 x (by simp [hx])) (by omega)]
theorem form_val (ds : List Nat) (h : ∀ d ∈ ds, d < 256) (hl : ds.length ≤ 8) (h0 : ds[0]? ≠ some 0) (hv : 246 < val ds) : form (val ds) = (246 + ds.length) :: ds := by
  have hlt := val_lt ds h
  have h88 : 256 ^ ds.length ≤ 256 ^ 8 := Nat.pow_le_pow_right (by omega) hl
  have hx8 : val ds < 256 ^ 8 := by omega
  have h2 := lt_len256 8 _ hx8
  have h3 := len256_lower 8 _ (by omega) hx8
  have hm : len256 8 (val ds) = ds.length := by
    have u : len256 8 (val ds) - 1 < ds.length := (Nat.pow_lt_pow_iff_right (by omega)).1 (Nat.lt_of_le_of_lt h3 hlt)
    have l : ds.length - 1 < len256 8 (val ds) := by
      cases ds with
      | nil => simp [val] at hv
      | cons d l =>
        have hd : d ≠ 0 := by rintro rfl; exact h0 rfl
        rw [val_cons] at h2 ⊢
        refine (Nat.pow_lt_pow_iff_right (a := 256) (by omega)).1 (Nat.lt_of_le_of_lt ?_ h2)
        simp only [List.length_cons, Nat.add_sub_cancel]
        have : 1 * 256 ^ l.length ≤ d * 256 ^ l.length := Nat.mul_le_mul_right _ (by omega)
        omega
    omega
  unfold form
  rw [if_neg (by omega), hm]
  refine congrArg _ (val_inj _ _ (digs_length _ _) (digs_lt _ _) h ?_)
  rw [val_digs, Nat.mod_eq_of_lt hlt]
theorem form_val_iff (ds : List Nat) (h : ∀ d ∈ ds, d < 256) (hl : ds.length ≤ 8) (h1 : 1 ≤ ds.length) : form (val ds) = (246 + ds.length) :: ds ↔ ¬ (ds[0]? = some 0 ∨ val ds ≤ 246) := by
  constructor
  · intro hf
    have hv : 246 < val ds := by
      rcases Nat.lt_or_ge 246 (val ds) with hv | hv
      · exact hv
      · unfold form at hf
        rw [if_pos hv] at hf
        have := congrArg List.length hf
        rw [List.length_cons, List.length_cons, List.length_nil] at this
        omega
    rintro (h0 | h0)
    · have hlt := val_lt ds h
      have h88 : 256 ^ ds.length ≤ 256 ^ 8 := Nat.pow_le_pow_right (by omega) hl
      have h3 := len256_lower 8 (val ds) (by omega) (by omega)
      have hm : len256 8 (val ds) = ds.length := by
        unfold form at hf
        rw [if_neg (by omega)] at hf
        have := (List.cons.inj hf).1
        omega
      rw [hm] at h3
      cases ds with
      | nil => simp at h0
      | cons d l =>
        simp at h0
        subst h0
        rw [val_cons] at h3
        have := val_lt l (fun x hx => h x (by simp [hx]))
        simp only [List.length_cons, Nat.add_sub_cancel] at h3
        omega
    · omega
  · intro hn
    exact form_val ds h hl (fun h0 => hn (.inl h0)) (by
      rcases Nat.lt_or_ge 246 (val ds) with hv | hv
      · exact hv
      · exact absurd (.inr hv) hn)
theorem form_small (d : Nat) (h : d ≤ 246) : form d = [d] := by unfold form; rw [if_pos h]
theorem form_255 : form 255 = [247, 255] := by decide
end Go.Fx.Num
namespace Go.Fx
open Go.RowKit
/-- A slice of a slice. -/
theorem Rd.sub {α : Type} {f : α → Value} {w : World} {b o n : Nat} {xs : List α} (h : Rd f w (some ⟨b, o, none⟩) n xs) {k m : Nat} (hk : k + m ≤ n) : Rd f w (some ⟨b, o + k, none⟩) m ((xs.drop k).take m) := by
  have hl := h.1
  refine ⟨by rw [List.length_take, List.length_drop]; omega, fun hm => ?_⟩
  obtain ⟨b', o', e, hb, hc⟩ := h.2 (by omega)
  cases e
  refine ⟨b, o + k, rfl, hb, fun i x hx => ?_⟩
  rw [List.getElem?_take] at hx
  split at hx
  · rw [List.getElem?_drop] at hx
    have := hc _ _ hx
    rwa [show o + k + i = o + (k + i) by omega]
  · cases hx
end Go.Fx
namespace Go.Proofs.Ytidjimkhppfjjaa
open Go.RowKit Go.Fx
set_option maxHeartbeats 400000 in
theorem ref_same (A1 A2 : Option Addr) (n1 n2 c1 c2 : Nat) (xs ys : List Nat) (w : World) (h1 : Rd u8v w A1 n1 xs) (h2 : Rd u8v w A2 n2 ys) (m1 : n1 ≤ maxLen) (m2 : n2 ≤ maxLen) :
    Calls Try.prog 46 #[.slice A1 n1 c1, .slice A2 n2 c2] w fun e w' => e = .returned (.bool (decide (xs = ys))) ∧ Ext w w' := by
  have hl1 := h1.1
  have hl2 := h2.1
  unfold maxLen at m1 m2
  by_cases hn : n1 = n2
  · subst hn
    have hne : ((n1 : Int) != (n1 : Int)) = false := by simp
    go_enter Try.func46, Try.ntmps46
    go_wp2
    go_loopw [5] (fun i wr => ∃ k : Nat, k ≤ n1 ∧ i = .int .i64 k ∧ Hid (xs.take k = ys.take k) ∧ ∃ q, wr = w.drewN q) (fun i _ => n1 - (intOf i).toNat)
    case atStart => exact ⟨0, by omega, rfl, Lib.hid (by simp), 0, rfl⟩
    case round =>
      obtain ⟨k, hk, rfl, H, q, rfl⟩ := hrel
      by_cases hlt : k < n1
      · obtain ⟨b1, o1, x, rfl, _, hx, hc1⟩ := h1.at_ hlt
        obtain ⟨b2, o2, y, rfl, _, hy, hc2⟩ := h2.at_ hlt
        have hli : (k : Int) < (n1 : Int) := by omega
        have Hx := Lib.hid hx
        have Hy := Lib.hid hy
        clear hx hy
        by_cases hxy : x = y
        · subst hxy
          have hq : ((x : Int) != (x : Int)) = false := by simp
          go_wp2
          go_quiet (fail)
          go_wp2
          go_roundw
          case rel => exact ⟨k + 1, by omega, by go_num, Lib.hid (by rw [take_snoc Hx.out, take_snoc Hy.out, H.out]), _, rfl⟩
          case measure => simp [intOf]; omega
        · have hq : ((x : Int) != (y : Int)) = true := by simp; omega
          go_wp2
          go_quiet (fail)
          go_wp2
          go_ret
          exact ⟨ret_bool (by symm; simpa using ne_of_getElem Hx.out Hy.out hxy), (Ext.drewN _ _).t (Ext.drewN _ _)⟩
      · obtain rfl : k = n1 := by omega
        go_wp2
        go_ret
        refine ⟨ret_bool ?_, Ext.drewN _ _⟩
        have := H.out
        rw [List.take_of_length_le (by omega), List.take_of_length_le (by omega)] at this
        simpa using this
  · have hne : ((n1 : Int) != (n2 : Int)) = true := by simp; omega
    go_enter Try.func46, Try.ntmps46
    go_wp2
    go_ret
    refine ⟨ret_bool ?_, Ext.refl _⟩
    symm
    simp only [decide_eq_false_iff_not]
    rintro rfl
    omega

set_option maxHeartbeats 400000 in
theorem ref_Read_far (A : Option Addr) (n c : Nat) (at_ : Int) (w : World) (hn : n ≤ maxLen) (hat : at_ < 0 ∨ (n : Int) < at_) :
    Calls Try.prog 35 #[.slice A n c, .int .i64 at_] w fun e w' => e = rets (0, 0, 2) ∧ Ext w w' := by
  unfold maxLen at hn
  rcases hat with h0 | h0
  · go_enter Try.func35, Try.ntmps35
    go_wp2
    go_ret3
    exact ⟨rfl, Ext.refl _⟩
  · have h1 : ¬ at_ < 0 := by omega
    go_enter Try.func35, Try.ntmps35
    go_wp2
    go_ret3
    exact ⟨rfl, Ext.refl _⟩
set_option maxHeartbeats 400000 in
theorem ref_Read_end (A : Option Addr) (n c : Nat) (w : World) (hn : n ≤ maxLen) :
    Calls Try.prog 35 #[.slice A n c, .int .i64 (n : Int)] w fun e w' => e = rets (0, 0, 10) ∧ Ext w w' := by
  unfold maxLen at hn
  have h1 : ¬ (n : Int) < 0 := by omega
  have h2 : ((n : Int) == (n : Int)) = true := by simp
  go_enter Try.func35, Try.ntmps35
  go_wp2
  go_ret3
  exact ⟨rfl, Ext.refl _⟩
set_option maxRecDepth 100000 in
set_option maxHeartbeats 400000 in
theorem ref_Read_short (bb o n c k m : Nat) (w : World) (hn : n ≤ maxLen) (hk : k < n) (hc : w.cell? ⟨bb, o + k, none⟩ = some (.int .u8 (246 + (m : Int)))) (hm1 : 1 ≤ m) (hm8 : m ≤ 8) (hs : n < k + 1 + m) :
    Calls Try.prog 35 #[.slice (some ⟨bb, o, none⟩) n c, .int .i64 (k : Int)] w fun e w' => e = rets (0, 0, 10) ∧ Ext w w' := by
  have hn : n ≤ 9223372036854775807 := hn
  have h1 : ¬ (k : Int) < 0 := by omega
  have h2 : ((k : Int) == (n : Int)) = false := by simp; omega
  have h3 : (246 + (m : Int)) < 255 := by omega
  have h4 : 246 < (246 + (m : Int)) := by omega
  have h5 : (k : Int) < (n : Int) := by omega
  have h6 : (n : Int) - k < 1 + m := by omega
  have h7 : (246 + (m : Int) - 245) = 1 + (m : Int) := by omega
  go_enter Try.func35, Try.ntmps35
  go_wp2
  go_ret3
  exact ⟨rfl, Ext.refl _⟩
set_option maxRecDepth 100000 in
set_option maxHeartbeats 1000000 in
theorem ref_Read_one (bb o n c k d : Nat) (w : World) (b : List Nat) (h : Rd u8v w (some ⟨bb, o, none⟩) n b) (hn : n ≤ c) (hcm : c ≤ maxLen) (hk : k < n) (hd : b[k]? = some d) (hd1 : d ≤ 246 ∨ d = 255) :
    Calls Try.prog 35 #[.slice (some ⟨bb, o, none⟩) n c, .int .i64 (k : Int)] w fun e w' => e = rets (if d ≤ 246 then (d, 1, 0) else (0, 0, 11)) ∧ Ext w w' := by
  unfold maxLen at hcm
  obtain ⟨bb', o', d', e, _, hd', hc⟩ := h.at_ hk
  cases e
  rw [hd] at hd'; cases hd'
  have hlen := h.1
  have Hs : Hid ((b.drop k).take 1 = [d]) := Lib.hid (by
    obtain ⟨hk', rfl⟩ := List.getElem?_eq_some_iff.1 hd
    rw [List.drop_eq_getElem_cons hk']; rfl)
  have r1 := h.sub (k := k) (m := 1) (by omega)
  rw [Hs.out] at r1
  have HF := Lib.hid (ref_Form d)
  have hsz1 := Num.size_le d
  have h1 : ¬ (k : Int) < 0 := by omega
  have h2 : ((k : Int) == (n : Int)) = false := by simp; omega
  have h5 : (k : Int) < (n : Int) := by omega
  have h6 : ¬ (n : Int) - k < 1 := by omega
  have h8 : (k : Int) + 1 ≤ (c : Int) := by omega
  clear hd hlen
  by_cases hsm : d ≤ 246
  · have h4 : (d : Int) ≤ 246 := by omega
    have Heq : Hid (decide (Num.form d = [d]) = true) := Lib.hid (by rw [Num.form_small d hsm]; simp)
    rw [if_pos hsm]
    go_enter Try.func35, Try.ntmps35
    go_wp2
    have hw1 : IntKind.i64.wrap ((k : Int) + 1) = (k : Int) + 1 := IntWalk.i64_in _ (by omega)
    have hw2 : 0 ≤ (k : Int) + 1 := by omega
    have hw3 : ((k : Int) + 1).toNat = k + 1 := by omega
    have hck : ¬ c = k := by omega
    go_region_law (first
      | ((try go_simp); go_at_call 27; refine (HF.out _ (by omega)).mono ?_; rintro e w1 ⟨A1, c1, rfl, own1, e1⟩; have r2 := Rd.of_own own1; have r3 := r1.ext ((Ext.drew w).t e1))
      | ((try go_simp); go_at_call 46; refine (ref_same _ _ _ _ _ _ _ _ _ r2 r3 (by simp only [maxLen]; omega) (by simp [maxLen])).mono ?_; rw [Heq.out]; rintro e w2 ⟨rfl, e2⟩))
    all_goals go_wp2
    all_goals go_ret3
    all_goals exact ⟨rfl, ((Ext.drew w).t e1).t e2⟩
  · have h3 : ¬ (d : Int) < 255 := by omega
    have h4 : 246 < (d : Int) := by omega
    have Heq : Hid (decide (Num.form d = [d]) = false) := Lib.hid (by rw [hd1.resolve_left hsm, Num.form_255]; simp)
    rw [if_neg hsm]
    go_enter Try.func35, Try.ntmps35
    go_wp2
    have hw1 : IntKind.i64.wrap ((k : Int) + 1) = (k : Int) + 1 := IntWalk.i64_in _ (by omega)
    have hw2 : 0 ≤ (k : Int) + 1 := by omega
    have hw3 : ((k : Int) + 1).toNat = k + 1 := by omega
    have hck : ¬ c = k := by omega
    go_region_law (first
      | ((try go_simp); go_at_call 27; refine (HF.out _ (by omega)).mono ?_; rintro e w1 ⟨A1, c1, rfl, own1, e1⟩; have r2 := Rd.of_own own1; have r3 := r1.ext ((Ext.drew w).t e1))
      | ((try go_simp); go_at_call 46; refine (ref_same _ _ _ _ _ _ _ _ _ r2 r3 (by simp only [maxLen]; omega) (by simp [maxLen])).mono ?_; rw [Heq.out]; rintro e w2 ⟨rfl, e2⟩))
    all_goals go_wp2
    all_goals go_ret3
    all_goals exact ⟨rfl, ((Ext.drew w).t e1).t e2⟩

set_option maxRecDepth 100000 in
set_option maxHeartbeats 1000000 in
theorem ref_Read_long (bb o n c k m : Nat) (w : World) (b ds : List Nat) (h : Rd u8v w (some ⟨bb, o, none⟩) n b) (hb : ∀ d ∈ b, d < 256) (hn : n ≤ c) (hcm : c ≤ maxLen) (hm1 : 1 ≤ m) (hm8 : m ≤ 8) (hs : k + 1 + m ≤ n)
    (hd : b[k]? = some (246 + m)) (hds : (b.drop (k + 1)).take m = ds) :
    Calls Try.prog 35 #[.slice (some ⟨bb, o, none⟩) n c, .int .i64 (k : Int)] w fun e w' => e = rets (Num.readTail ds) ∧ Ext w w' := by
  unfold maxLen at hcm
  obtain ⟨bb', o', d', e, _, hd', hc0⟩ := h.at_ (k := k) (by omega)
  cases e
  rw [hd] at hd'; cases hd'
  have hc : w.cell? ⟨bb, o + k, none⟩ = some (.int .u8 (246 + (m : Int))) := by rw [hc0]; simp [u8v]
  have hlen := h.1
  have hdl : ds.length = m := by rw [← hds]; simp; omega
  have Hdb : Hid (∀ d ∈ ds, d < 256) := Lib.hid (fun d hd => hb d (by rw [← hds] at hd; exact List.mem_of_mem_drop (List.mem_of_mem_take hd)))
  have Hs : Hid ((b.drop k).take (m + 1) = (246 + m) :: ds) := Lib.hid (by
    obtain ⟨hk', e⟩ := List.getElem?_eq_some_iff.1 hd
    rw [List.drop_eq_getElem_cons hk', e, List.take_succ_cons, hds])
  have r1 := h.sub (k := k) (m := m + 1) (by omega)
  rw [Hs.out] at r1
  have r0 := h.sub (k := k + 1) (m := m) (by omega)
  rw [hds] at r0
  have Hdl := Lib.hid hdl
  have h1 : ¬ (k : Int) < 0 := by omega
  have h2 : ((k : Int) == (n : Int)) = false := by simp; omega
  have h3 : (246 + (m : Int)) < 255 := by omega
  have h4 : 246 < (246 + (m : Int)) := by omega
  have h5 : (k : Int) < (n : Int) := by omega
  have h6 : ¬ (n : Int) - k < 1 + m := by omega
  have h7 : (246 + (m : Int) - 245) = 1 + (m : Int) := by omega
  have h8 : 1 < 1 + (m : Int) := by omega
  have h9 : (k : Int) + (1 + m) ≤ (c : Int) := by omega
  clear hd hds hlen hc0 hdl Hs hb
  go_enter Try.func35, Try.ntmps35
  go_wp2
  go_loop [8, 9] (fun xv iv => ∃ (j y : Nat), j ≤ m ∧ iv = .int .i64 (1 + (j : Int)) ∧ xv = .int .u64 (y : Int) ∧ Hid (y = Num.val (ds.take j))) (fun _ iv => 1 + m - (intOf iv).toNat)
  case atStart => exact ⟨0, 0, by omega, rfl, rfl, Lib.hid rfl⟩
  case round =>
    obtain ⟨j, y, hj, rfl, rfl, Hy⟩ := hrel
    by_cases hlt : j < m
    · have hlt' : 1 + (j : Int) < 1 + (m : Int) := by omega
      obtain ⟨b', o', d, e, _, hd, hcj⟩ := r0.at_ hlt
      cases e
      have hcj : w.cell? ⟨bb, o + (k + (1 + j)), none⟩ = some (u8v d) := by rw [show o + (k + (1 + j)) = o + (k + 1) + j by omega]; exact hcj
      have hd256 := Hdb.out d (List.mem_of_getElem? hd)
      have Hd := Lib.hid hd
      clear hd
      have hval : y * 256 + d < 18446744073709551616 := by
        have h1 := Num.val_lt (ds.take j ++ [d]) (fun x hx => by
          rcases List.mem_append.1 hx with hx | hx
          · exact Hdb.out x (List.mem_of_mem_take hx)
          · simp at hx; omega)
        rw [Num.val_snoc, ← Hy.out] at h1
        have h2 : 256 ^ (ds.take j ++ [d]).length ≤ 256 ^ 8 := Nat.pow_le_pow_right (by omega) (by simp; omega)
        omega
      have Hy' : Hid (y * 256 + d = Num.val (ds.take (j + 1))) := Lib.hid (by rw [take_snoc Hd.out, Num.val_snoc, ← Hy.out])
      have hi1 : (k : Int) + (1 + (j : Int)) < (n : Int) := by omega
      go_wp2
      go_round
      case rel => exact ⟨j + 1, 256 * y + d, by omega, by go_num, by go_num, Lib.hid (by rw [← Hy'.out]; omega)⟩
      case measure => simp [intOf]; omega
    · obtain rfl : j = m := by omega
      have Hyv : Hid (y = Num.val ds) := Lib.hid (by rw [Hy.out, List.take_of_length_le (by have := Hdl.out; omega)])
      have hy64 : y < 18446744073709551616 := by
        have h1 := Num.val_lt ds Hdb.out
        rw [← Hyv.out] at h1
        have h2 : 256 ^ ds.length ≤ 256 ^ 8 := Nat.pow_le_pow_right (by omega) (by have := Hdl.out; omega)
        omega
      have Hiff := Num.form_val_iff ds Hdb.out (by have := Hdl.out; omega) (by have := Hdl.out; omega)
      rw [← Hyv.out, Hdl.out] at Hiff
      have Hiff := Lib.hid Hiff
      have HF := Lib.hid (fun w' => ref_Form y w' hy64)
      have hsz1 := Num.size_le y
      have hw1 : IntKind.i64.wrap ((k : Int) + (1 + (j : Int))) = (k : Int) + (1 + (j : Int)) := IntWalk.i64_in _ (by omega)
      have hw2 : 0 ≤ (k : Int) + (1 + (j : Int)) := by omega
      have hw3 : ((k : Int) + (1 + (j : Int))).toNat = k + (1 + j) := by omega
      have hck : ¬ c = k := by omega
      have hsl : k + (1 + j) - k = j + 1 := by omega
      have Hdec : Hid (decide (Num.form y = (246 + j) :: ds) = true ∧ rets (Num.readTail ds) = rets (y, 1 + j, 0) ∨ decide (Num.form y = (246 + j) :: ds) = false ∧ rets (Num.readTail ds) = rets (0, 0, 11)) := Lib.hid (by
        unfold Num.readTail
        by_cases hq : ds[0]? = some 0 ∨ Num.val ds ≤ 246
        · rw [if_pos hq]
          exact .inr ⟨by rw [decide_eq_false_iff_not, Hiff.out, Hyv.out]; exact fun hh => hh hq, rfl⟩
        · rw [if_neg hq]
          exact .inl ⟨by rw [decide_eq_true_iff, Hiff.out, Hyv.out]; exact hq, by rw [← Hyv.out, Hdl.out, Nat.add_comm j 1]⟩)
      clear Hiff Hyv Hy hy64 hcm
      rcases Hdec.out with ⟨h1, h2⟩ | ⟨h1, h2⟩
      all_goals
        have Hq := Lib.hid h1
        have H2 := Lib.hid h2
        clear h1 h2
        go_wp2
        go_region_law (first
          | ((try go_simp); go_at_call 27; refine (HF.out _).mono ?_; rintro e w1 ⟨A1, c1, rfl, own1, e1⟩; have r2 := Rd.of_own own1; have r3 := r1.ext ((Ext.drew w).t e1))
          | ((try go_simp); go_at_call 46; refine (ref_same _ _ _ _ _ _ _ _ _ r2 r3 (by simp only [maxLen]; omega) (by simp only [maxLen]; omega)).mono ?_; rw [Hq.out]; rintro e w2 ⟨rfl, e2⟩))
        all_goals go_wp2
        all_goals go_ret3
        all_goals exact ⟨by rw [H2.out]; unfold rets; go_num, ((Ext.drew w).t e1).t e2⟩

/-- Read: what the document's reading gives; nothing that was there is written. -/
theorem ref_Read (A : Option Addr) (n c : Nat) (b : List Nat) (at_ : Int) (w : World) (h : Rd u8v w A n b) (hb : ∀ d ∈ b, d < 256) (hn : n ≤ c) (hcm : c ≤ maxLen) :
    Calls Try.prog 35 #[.slice A n c, .int .i64 at_] w fun e w' => e = rets (Num.readAt b at_) ∧ Ext w w' := by
  have hl := h.1
  unfold Num.readAt
  by_cases hf : at_ < 0 ∨ (n : Int) < at_
  · rw [if_pos (by rw [hl]; exact hf)]
    exact ref_Read_far A n c at_ w (by omega) hf
  · rw [if_neg (by rw [hl]; exact hf)]
    obtain ⟨k, rfl⟩ := Int.eq_ofNat_of_zero_le (by omega : 0 ≤ at_)
    rw [Int.toNat_natCast]
    by_cases hk : k = n
    · subst hk
      rw [List.drop_of_length_le (by omega)]
      exact ref_Read_end A k c w (by omega)
    · have hkn : k < n := by omega
      obtain ⟨bb, o, d, rfl, _, hd, hc⟩ := h.at_ hkn
      have hdl : d < 256 := hb d (List.mem_of_getElem? hd)
      have hdrop : b.drop k = d :: b.drop (k + 1) := by
        obtain ⟨hk', rfl⟩ := List.getElem?_eq_some_iff.1 hd
        exact List.drop_eq_getElem_cons hk'
      rw [hdrop]
      unfold Num.readF
      by_cases h1 : d ≤ 246
      · simp only [if_pos h1]
        have := ref_Read_one bb o n c k d w b h hn hcm hkn hd (.inl h1)
        rwa [if_pos h1] at this
      · by_cases h2 : d = 255
        · subst h2
          have := ref_Read_one bb o n c k 255 w b h hn hcm hkn hd (.inr rfl)
          rwa [if_neg h1] at this
        · simp only [if_neg h1, if_neg h2]
          obtain ⟨m, rfl⟩ : ∃ m, d = 246 + m := ⟨d - 246, by omega⟩
          rw [show 246 + m - 246 = m by omega, List.length_drop]
          by_cases h3 : n < k + 1 + m
          · rw [if_pos (by omega)]
            exact ref_Read_short bb o n c k m w (by omega) hkn (by rw [hc]; simp [u8v]) (by omega) (by omega) h3
          · rw [if_neg (by omega)]
            exact ref_Read_long bb o n c k m w b _ h hb hn hcm (by omega) (by omega) (by omega) hd rfl
end Go.Proofs.Ytidjimkhppfjjaa
