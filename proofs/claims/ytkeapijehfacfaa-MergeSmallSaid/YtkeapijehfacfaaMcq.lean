/- Mcq: copies of lists of lists of events, comparing such, and writing over events. -/
import Derived.Test.YtkeapijehfacfaaRfm
namespace Go.Fx
open Go.RowKit
section
variable {B : Nat} {w w1 w2 X : World} {A A2 : Option Addr} {n c c2 : Nat} {ss : List Sl} {ls : List (List Ev)} {s : Sl} {l : List Ev}
/-- One new list more. -/
theorem Lse.app (h : Lse B w A n c ss ls) (hs : RoomS 5 w1 s.A s.n s.c (l.flatMap evC)) (hn : ∀ k, foot s.A s.c k → w.heap.size ≤ k) (hB : B ≤ w.heap.size) (e1 : Ext w w1) (e2 : Ext w1 X) (r : Room w2 A2 (n + 1) c2 (ss.map slv ++ [slv s])) (ch : Chg (foot A c) X w2) (ft : ∀ k, foot A2 c2 k → foot A c k ∨ X.heap.size ≤ k) :
    Lse B w2 A2 (n + 1) c2 (ss ++ [s]) (ls ++ [l]) := by
  have s1 := e1.size
  have s2 := e2.size
  have hold : ∀ k, foots ss k → k < w.heap.size := fun k hk => h.lt (.inr hk)
  have hA : ∀ k, foot A c k → k < w.heap.size := fun k hk => h.lt (.inl hk)
  have hsl : ∀ k, foot s.A s.c k → k < w1.heap.size := fun k hk => hs.lt hk
  have hA2 : ∀ k, foot A2 c2 k → k < w1.heap.size → foot A c k := fun k hk hlt => (ft k hk).elim id (fun h => by omega)
  have split : ∀ {i : Nat} {t : Sl}, (ss ++ [s])[i]? = some t → (i < ss.length ∧ ss[i]? = some t) ∨ (i = ss.length ∧ t = s) := by
    intro i t ht
    by_cases hi : i < ss.length
    · rw [List.getElem?_append_left hi] at ht; exact .inl ⟨hi, ht⟩
    · rw [List.getElem?_append_right (by omega)] at ht
      obtain ⟨hj, e⟩ := List.getElem?_eq_some_iff.1 ht
      simp at hj
      have h0 : i = ss.length := by omega
      subst h0
      simp at e
      exact .inr ⟨rfl, e.symm⟩
  refine ⟨by rw [List.map_append]; exact r, by simp [h.len], fun i t ht => ?_, fun k hk => ?_, fun k hk hf => ?_, fun i j t u ht hu hne k hk hk' => ?_⟩
  · rcases split ht with ⟨hi, ht⟩ | ⟨rfl, rfl⟩
    · obtain ⟨l', h1, h2⟩ := h.at_ i t ht
      refine ⟨l', by rw [List.getElem?_append_left (by rw [← h.len]; exact hi)]; exact h1, (h2.ext (e1.t e2)).chg ch (fun k hk => h.outer k ⟨t, List.mem_of_getElem? ht, hk⟩)⟩
    · exact ⟨l, by rw [h.len]; simp, (hs.ext e2).chg ch (fun k hk hf => by have := hn k hk; have := hA k hf; omega)⟩
  · rcases hk with hk | ⟨t, ht, hk⟩
    · exact (ft k hk).elim (fun h1 => h.new k (.inl h1)) (fun h1 => by omega)
    · rcases List.mem_append.1 ht with ht | ht
      · exact h.new k (.inr ⟨t, ht, hk⟩)
      · simp at ht; subst ht; exact Nat.le_trans hB (hn k hk)
  · obtain ⟨t, ht, hk⟩ := hk
    rcases List.mem_append.1 ht with ht | ht
    · have h1 := hold k ⟨t, ht, hk⟩
      exact h.outer k ⟨t, ht, hk⟩ (hA2 k hf (by omega))
    · simp at ht; subst ht
      have h1 := hA2 k hf (hsl k hk)
      have := hn k hk; have := hA k h1; omega
  · rcases split ht with ⟨hi, ht1⟩ | ⟨rfl, rfl⟩
    · rcases split hu with ⟨hj, hu1⟩ | ⟨rfl, rfl⟩
      · exact h.apart i j t u ht1 hu1 hne k hk hk'
      · have h1 := hold k ⟨t, List.mem_of_getElem? ht1, hk⟩; have := hn k hk'; omega
    · rcases split hu with ⟨hj, hu1⟩ | ⟨rfl, rfl⟩
      · have h1 := hold k ⟨u, List.mem_of_getElem? hu1, hk'⟩; have := hn k hk; omega
      · exact hne rfl
end
/-- Slices that can be written, none of which shares memory with another. -/
structure Wrt (w : World) (ss : List Sl) : Prop where
  room : ∀ (i : Nat) (s : Sl), ss[i]? = some s → ∃ L, RoomS 5 w s.A s.n s.c L
  apart : ∀ (i j : Nat) (s t : Sl), ss[i]? = some s → ss[j]? = some t → i ≠ j → ∀ k, foot s.A s.c k → ¬ foot t.A t.c k
theorem Wrt.one {w : World} {s : Sl} {L : List Value} (h : RoomS 5 w s.A s.n s.c L) : Wrt w [s] := by
  refine ⟨fun i t ht => ?_, fun i j t u ht hu hne => ?_⟩
  · cases i with
    | zero => simp at ht; subst ht; exact ⟨L, h⟩
    | succ i => simp at ht
  · have h1 := (List.getElem?_eq_some_iff.1 ht).1
    have h2 := (List.getElem?_eq_some_iff.1 hu).1
    simp at h1 h2; omega
theorem Wrt.two {w : World} {s t : Sl} {L M : List Value} (h : RoomS 5 w s.A s.n s.c L) (h' : RoomS 5 w t.A t.n t.c M) (ha : ∀ k, foot s.A s.c k → ¬ foot t.A t.c k) : Wrt w [s, t] := by
  refine ⟨fun i u hu => ?_, fun i j u v hu hv hne k hk hk' => ?_⟩
  · match i with
    | 0 => simp at hu; subst hu; exact ⟨L, h⟩
    | 1 => simp at hu; subst hu; exact ⟨M, h'⟩
    | i + 2 => simp at hu
  · match i, j with
    | 0, 0 => exact hne rfl
    | 1, 1 => exact hne rfl
    | 0, 1 => simp at hu hv; subst hu hv; exact ha k hk hk'
    | 1, 0 => simp at hu hv; subst hu hv; exact ha k hk' hk
    | i + 2, _ => simp at hu
    | 0, j + 2 => simp at hv
    | 1, j + 2 => simp at hv
/-- One event of a list is stored. -/
def fiveE (w : World) (g o : Nat) (q : Ev) : World := ((((w.setCell ⟨g, o, none⟩ (.int .i64 q.t)).setCell ⟨g, o + 1, none⟩ (.int .i64 q.s)).setCell ⟨g, o + 2, none⟩ (.int .i64 q.q)).setCell ⟨g, o + 3, none⟩ (.int .i64 q.to)).setCell ⟨g, o + 4, none⟩ (.int .i64 q.v)
theorem RoomS.fiveE {w : World} {g o n c k : Nat} {L : List Value} (h : RoomS 5 w (some ⟨g, o, none⟩) n c L) (hk : k < n) (q : Ev) : ∃ L', RoomS 5 (fiveE w g (o + k * 5) q) (some ⟨g, o, none⟩) n c L' := by
  have hb : k * 5 + 5 ≤ n * 5 := by have := Nat.mul_le_mul_right 5 (show k + 1 ≤ n from hk); omega
  exact ⟨_, ((((h.set (k := k * 5) (by omega) (.int .i64 q.t)).set (k := k * 5 + 1) (by omega) (.int .i64 q.s)).set (k := k * 5 + 2) (by omega) (.int .i64 q.q)).set (k := k * 5 + 3) (by omega) (.int .i64 q.to)).set (k := k * 5 + 4) (by omega) (.int .i64 q.v)⟩
theorem fiveE_chg {T : Nat → Prop} (w : World) (g o : Nat) (q : Ev) (hT : T g) : Chg T w (fiveE w g o q) :=
  ((((Chg.set w g o _ hT).t (Chg.set _ g (o + 1) _ hT)).t (Chg.set _ g (o + 2) _ hT)).t (Chg.set _ g (o + 3) _ hT)).t (Chg.set _ g (o + 4) _ hT)
theorem RoomS.five_at {w : World} {g o n c k : Nat} {L : List Value} (h : RoomS 5 w (some ⟨g, o, none⟩) n c L) (hk : k < n) : ∃ u0 u1 u2 u3 u4, w.cell? ⟨g, o + k * 5, none⟩ = some u0 ∧ w.cell? ⟨g, o + k * 5 + 1, none⟩ = some u1 ∧ w.cell? ⟨g, o + k * 5 + 2, none⟩ = some u2 ∧ w.cell? ⟨g, o + k * 5 + 3, none⟩ = some u3 ∧ w.cell? ⟨g, o + k * 5 + 4, none⟩ = some u4 ∧
    w.frozen? ⟨g, o + k * 5, none⟩ = false ∧ w.frozen? ⟨g, o + k * 5 + 1, none⟩ = false ∧ w.frozen? ⟨g, o + k * 5 + 2, none⟩ = false ∧ w.frozen? ⟨g, o + k * 5 + 3, none⟩ = false ∧ w.frozen? ⟨g, o + k * 5 + 4, none⟩ = false := by
  have hb : k * 5 + 5 ≤ n * 5 := by have := Nat.mul_le_mul_right 5 (show k + 1 ≤ n from hk); omega
  have hc : n * 5 ≤ c * 5 := Nat.mul_le_mul_right 5 h.2.1
  have hl := h.1
  have hg : ∀ i, i < 5 → ∃ u, w.cell? ⟨g, o + (k * 5 + i), none⟩ = some u := fun i hi => ⟨_, h.cellAt (k := k * 5 + i) (List.getElem?_eq_getElem (show k * 5 + i < L.length by omega))⟩
  have hf : ∀ i, i < 5 → w.frozen? ⟨g, o + (k * 5 + i), none⟩ = false := fun i hi => h.frozenAt (by omega)
  obtain ⟨u0, h0⟩ := hg 0 (by omega)
  obtain ⟨u1, h1⟩ := hg 1 (by omega)
  obtain ⟨u2, h2⟩ := hg 2 (by omega)
  obtain ⟨u3, h3⟩ := hg 3 (by omega)
  obtain ⟨u4, h4⟩ := hg 4 (by omega)
  exact ⟨u0, u1, u2, u3, u4, h0, h1, h2, h3, h4, hf 0 (by omega), hf 1 (by omega), hf 2 (by omega), hf 3 (by omega), hf 4 (by omega)⟩
/-- A copy of a list of lists. -/
def CopP (ls : List (List Ev)) (w : World) (e : Ending) (w' : World) : Prop :=
  ∃ A n c ss, e = .returned (.slice A n c) ∧ Lse w.heap.size w' A n c ss ls ∧ Ext w w'
end Go.Fx
namespace Go.Proofs.Ytkeapijehfacfaa
open Go.RowKit Go.Fx
set_option maxRecDepth 100000 in
set_option maxHeartbeats 1000000 in
theorem copied_ (A : Option Addr) (n c : Nat) (ss : List Sl) (ls : List (List Ev)) (w : World) (h : Rd slv w A n ss) (hs : Els w ss ls) (hn : n ≤ 1000000) (hm : ∀ s ∈ ss, s.n ≤ 1000000) :
    Calls Try.prog 47 #[.slice A n c] w (CopP ls w) := by
  have H := Lib.hid h
  have Hs := Lib.hid hs
  have Hl := Lib.hid h.1
  have Hm := Lib.hid hm
  have Hlen := Lib.hid (show n = ls.length by have := h.1; have := hs.len; omega)
  clear h hs hm
  go_enter Try.func47, Try.ntmps47
  go_wp2_with fail
  go_loopw [3, 8] (fun v i wr => ∃ (k : Nat) (Ao : Option Addr) (co : Nat) (ts : List Sl), k ≤ n ∧ i = .int .i64 (k : Int) ∧ v = .slice Ao k co ∧ Hid (Lse w.heap.size wr Ao k co ts (ls.take k) ∧ Ext w wr)) (fun _ i _ => n - (intOf i).toNat)
  case atStart => exact ⟨0, none, 0, [], by omega, rfl, rfl, Lib.hid ⟨by rw [List.take_zero]; exact Lse.nil, Ext.refl _⟩⟩
  case round =>
    obtain ⟨k, Ao, co, ts, hk, rfl, rfl, HJ⟩ := hrel
    by_cases hlt : k < n
    · obtain ⟨s, l, hsx, hlx, hsc, hrd⟩ := Hs.out.get (i := k) (by have := Hl.out; omega)
      obtain ⟨b, o, rfl, hcs⟩ := (H.out.ext HJ.out.2).get hsx
      have hltI : (k : Int) < (n : Int) := by omega
      have hsm : s.n ≤ 1000000 := Hm.out s (List.mem_of_getElem? hsx)
      obtain ⟨sA, sn, sc⟩ := s
      have Hlx := Lib.hid hlx
      have HC := Lib.hid (cloneE sA sn sc evC_len evC_one l wr (hrd.ext HJ.out.2) (by change sn ≤ _; change sn ≤ _ at hsm; omega))
      unfold slv at hcs
      clear hsx hlx hsc hrd hsm
      go_wp2_with fail
      refine HC.out.mono ?_; rintro e w1 ⟨A1, c1, rfl, r1, e1, f1⟩
      have R1 := Lib.hid r1
      have E1 := Lib.hid e1
      have F1 := Lib.hid f1
      clear r1 e1 f1 hcs HC
      go_wp2_with (refine wpl_append_at (by rfl) rfl ul_ee info_ee rfl rfl ((HJ.out.1.room.ext E1.out).ext (Ext.alloc _ _)) rfl (Src.ofRd (f := slv) (xs := [⟨A1, sn, c1⟩]) ul_ee ((Blk.new _ _ _).rd rfl rfl) (fun _ => rfl)) (by simp only [maxLen]; omega) (by omega) ?_)
      intro A3 c3 w3 r3 ch3 ft3
      have HN : Hid (Lse w.heap.size w3 A3 (k + 1) c3 (ts ++ [(⟨A1, sn, c1⟩ : Sl)]) (ls.take (k + 1)) ∧ Ext w w3) := Lib.hid ⟨by
        rw [take_snoc Hlx.out]
        exact Lse.app (s := ⟨A1, sn, c1⟩) HJ.out.1 R1.out F1.out HJ.out.2.size E1.out (Ext.alloc _ _) r3 ch3 (by simpa using ft3),
        (HJ.out.2.t (E1.out.t (Ext.alloc _ _))).trans (ch3.below (HJ.out.2.t (E1.out.t (Ext.alloc _ _))).size (fun q hq hf => by have := HJ.out.1.new q (.inl hf); omega))⟩
      clear HJ r3 ch3 ft3 R1 E1 F1
      refine Lib.hid ?_
      go_wp2_with fail
      go_roundw
      case rel => exact ⟨k + 1, A3, c3, _, by omega, by go_num, rfl, HN⟩
      case measure => simp [intOf]; omega
    · obtain rfl : n = k := by omega
      have HF : Hid (Lse w.heap.size wr Ao n co ts ls ∧ Ext w wr) := Lib.hid (by
        have h1 := HJ.out
        rw [List.take_of_length_le (by have := Hlen.out; omega)] at h1
        exact h1)
      clear HJ
      go_wp2_with fail
      go_ret
      exact ⟨Ao, n, co, ts, rfl, HF.out⟩
theorem equal1_ (A1 A2 : Option Addr) (n1 n2 c1 c2 : Nat) (xs ys : List Ev) (w : World) (h1 : RdS 5 evC w A1 n1 xs) (h2 : RdS 5 evC w A2 n2 ys) (m1 : n1 ≤ 1000000000000) (m2 : n2 ≤ 1000000000000) :
    Calls Try.prog 73 #[.slice A1 n1 c1, .slice A2 n2 c2] w fun e w' => e = .returned (.bool (decide (xs = ys))) ∧ Ext w w' := by
  have HC := Lib.hid (equalE A1 A2 n1 n2 c1 c2 xs ys w h1 h2 m1 m2)
  generalize decide (xs = ys) = z at *
  clear h1 h2
  go_enter Try.func73, Try.ntmps73
  go_wp2_with fail
  refine HC.out.mono ?_; rintro e w2 ⟨rfl, e2⟩
  go_wp2_with fail
  go_ret
  exact ⟨rfl, e2⟩
set_option maxRecDepth 100000 in
set_option maxHeartbeats 1000000 in
theorem equalL_ (A A' : Option Addr) (n n' c c' : Nat) (ss ts : List Sl) (ls ms : List (List Ev)) (w : World) (h : Rd slv w A n ss) (hb : Els w ss ls) (h' : Rd slv w A' n' ts) (hb' : Els w ts ms) (hn : n ≤ 1000000) (hn' : n' ≤ 1000000) (hm : ∀ s ∈ ss, s.n ≤ 1000000) (hm' : ∀ s ∈ ts, s.n ≤ 1000000) :
    Calls Try.prog 72 #[.slice A n c, .slice A' n' c', .func (.func 73) #[] #[]] w fun e w' => e = .returned (.bool (decide (ls = ms))) ∧ Ext w w' := by
  have H := Lib.hid h
  have H' := Lib.hid h'
  have HB := Lib.hid hb
  have HB' := Lib.hid hb'
  have Hl := Lib.hid h.1
  have Hl' := Lib.hid h'.1
  have Hb := Lib.hid hb.len
  have Hb' := Lib.hid hb'.len
  have Hm := Lib.hid hm
  have Hm' := Lib.hid hm'
  clear h h' hb hb' hm hm'
  by_cases hnn : n = n'
  · subst hnn
    have hne : ((n : Int) != (n : Int)) = false := by simp
    go_enter Try.func72, Try.ntmps72
    go_wp2_with fail
    go_loopw [17] (fun i wr => ∃ k : Nat, k ≤ n ∧ i = .int .i64 (k : Int) ∧ Hid (ls.take k = ms.take k ∧ Ext w wr)) (fun i _ => n - (intOf i).toNat)
    case atStart => exact ⟨0, by omega, rfl, Lib.hid ⟨by simp, Ext.refl _⟩⟩
    case round =>
      obtain ⟨k, hk, rfl, HJ⟩ := hrel
      by_cases hlt : k < n
      · have hltI : (k : Int) < (n : Int) := by omega
        obtain ⟨s, xs, hs, hxs, _, hrx⟩ := HB.out.get (i := k) (by have := Hl.out; omega)
        obtain ⟨t, ys, ht, hys, _, hry⟩ := HB'.out.get (i := k) (by have := Hl'.out; omega)
        obtain ⟨b1, o1, rfl, hc1⟩ := (H.out.ext HJ.out.2).get hs
        obtain ⟨b2, o2, rfl, hc2⟩ := (H'.out.ext HJ.out.2).get ht
        have HE := Lib.hid (equal1_ s.A t.A s.n t.n s.c t.c xs ys wr (hrx.ext HJ.out.2) (hry.ext HJ.out.2) (by have := Hm.out s (List.mem_of_getElem? hs); omega) (by have := Hm'.out t (List.mem_of_getElem? ht); omega))
        have Hxs := Lib.hid hxs
        have Hys := Lib.hid hys
        obtain ⟨sA, sn, sc⟩ := s
        obtain ⟨tA, tn, tc⟩ := t
        dsimp only at HE
        unfold slv at hc1 hc2
        clear hxs hys hrx hry hs ht
        by_cases hxy : xs = ys
        · rw [decide_eq_true hxy] at HE
          have HJ1 : Hid (ls.take (k + 1) = ms.take (k + 1) ∧ Ext w wr) := Lib.hid ⟨by rw [take_snoc Hxs.out, take_snoc Hys.out, HJ.out.1, hxy], HJ.out.2⟩
          clear HJ hxy
          go_wp2_with fail
          refine HE.out.mono ?_; rintro e w2 ⟨rfl, e2⟩
          go_wp2_with fail
          go_roundw
          case rel => exact ⟨k + 1, by omega, by go_num, Lib.hid ⟨HJ1.out.1, HJ1.out.2.t e2⟩⟩
          case measure => simp [intOf]; omega
        · rw [decide_eq_false hxy] at HE
          have Hne := Lib.hid (show ¬ ls = ms from ne_at Hxs.out Hys.out hxy)
          have HX := Lib.hid HJ.out.2
          clear HJ hxy
          go_wp2_with fail
          refine HE.out.mono ?_; rintro e w2 ⟨rfl, e2⟩
          go_wp2_with fail
          go_ret
          exact ⟨ret_bool (decide_eq_false Hne.out).symm, HX.out.t e2⟩
      · obtain rfl : n = k := by omega
        have HV : Hid (ls = ms) := Lib.hid (by
          have h1 := HJ.out.1
          rwa [List.take_of_length_le (by have := Hb.out; have := Hl.out; omega), List.take_of_length_le (by have := Hb'.out; have := Hl'.out; omega)] at h1)
        have HX := Lib.hid HJ.out.2
        clear HJ
        go_wp2_with fail
        go_ret
        exact ⟨ret_bool (decide_eq_true HV.out).symm, HX.out⟩
  · have hne : ((n : Int) != (n' : Int)) = true := by simp; omega
    go_enter Try.func72, Try.ntmps72
    go_wp2_with fail
    go_ret
    refine ⟨ret_bool ?_, Ext.refl _⟩
    symm
    simp only [decide_eq_false_iff_not]
    rintro rfl
    have h1 := Hl.out; have h2 := Hl'.out; have h3 := Hb.out; have h4 := Hb'.out
    omega
theorem equal_ (A A' : Option Addr) (n n' c c' : Nat) (ss ts : List Sl) (ls ms : List (List Ev)) (w : World) (h : Rd slv w A n ss) (hb : Els w ss ls) (h' : Rd slv w A' n' ts) (hb' : Els w ts ms) (hn : n ≤ 1000000) (hn' : n' ≤ 1000000) (hm : ∀ s ∈ ss, s.n ≤ 1000000) (hm' : ∀ s ∈ ts, s.n ≤ 1000000) :
    Calls Try.prog 51 #[.slice A n c, .slice A' n' c'] w fun e w' => e = .returned (.bool (decide (ls = ms))) ∧ Ext w w' := by
  have HE := Lib.hid (equalL_ A A' n n' c c' ss ts ls ms w h hb h' hb' hn hn' hm hm')
  clear h hb h' hb' hn hn' hm hm'
  generalize decide (ls = ms) = d at *
  go_enter Try.func51, Try.ntmps51
  go_wp2_with fail
  refine HE.out.mono ?_; rintro e w2 ⟨rfl, e2⟩
  go_wp2_with fail
  go_ret
  exact ⟨rfl, e2⟩
set_option maxRecDepth 100000 in
set_option maxHeartbeats 1000000 in
theorem spoil_ (A : Option Addr) (n c : Nat) (ss : List Sl) (w : World) (hr : Rd slv w A n ss) (hw : Wrt w ss) (hsep : ∀ k o, A = some ⟨k, o, none⟩ → 0 < n → ¬ foots ss k) (hn : n ≤ 1000000000) (hl : ∀ s ∈ ss, s.n ≤ 1000000000) :
    Calls Try.prog 50 #[.slice A n c] w fun e w' => e = .returned (.tuple #[]) ∧ Chg (foots ss) w w' := by
  have Hr := Lib.hid hr
  have Hw := Lib.hid hw
  have Hsep := Lib.hid hsep
  have Hl := Lib.hid hl
  have Hsl := Lib.hid hr.1
  clear hr hw hsep hl
  go_enter Try.func50, Try.ntmps50
  go_wp2_with fail
  go_loopw [7] (fun i wr => ∃ (m : Nat), m ≤ n ∧ i = .int .i64 (m : Int) ∧ Hid (Chg (foots ss) w wr ∧ Chg (foots (ss.take m)) w wr)) (fun i _ => n - (intOf i).toNat)
  case atStart => exact ⟨0, by omega, rfl, Lib.hid ⟨Chg.refl _ _, Chg.refl _ _⟩⟩
  case round =>
    obtain ⟨m, hm, rfl, HM⟩ := hrel
    by_cases hmt : m < n
    · have hmt' : (m : Int) < (n : Int) := by omega
      obtain ⟨bf, oF, sf, rfl, _, hs, hc⟩ := (Hr.out.chg HM.out.1 (fun k o h1 h2 => Hsep.out k o h1 h2)).at_ hmt
      have hsm : sf.n ≤ 1000000000 := Hl.out sf (List.mem_of_getElem? hs)
      obtain ⟨L0, hL0⟩ := Hw.out.room m sf hs
      have H0 := Lib.hid (show RoomS 5 wr sf.A sf.n sf.c L0 from hL0.chg HM.out.2 (fun k hk hf => by
        obtain ⟨t, ht, hkt⟩ := hf
        obtain ⟨i, hi, rfl⟩ := List.getElem_of_mem ht
        rw [List.length_take] at hi
        rw [List.getElem_take] at hkt
        exact Hw.out.apart m i sf ss[i] hs (List.getElem?_eq_getElem (by omega)) (by omega) k hk hkt))
      have Hs := Lib.hid hs
      obtain ⟨sA, sn, sc⟩ := sf
      change sn ≤ 1000000000 at hsm
      unfold slv at hc
      clear hs hL0
      go_wp2_with fail
      obtain ⟨w0, rfl⟩ : ∃ w0, w0 = wr := ⟨_, rfl⟩
      go_loopw [13] (fun i wy => ∃ (j : Nat), j ≤ sn ∧ i = .int .i64 (j : Int) ∧ Hid (∃ L, RoomS 5 wy sA sn sc L ∧ Chg (foot sA sc) w0 wy)) (fun i _ => sn - (intOf i).toNat)
      case atStart => exact ⟨0, by omega, rfl, Lib.hid ⟨L0, H0.out, Chg.refl _ _⟩⟩
      case round =>
        clear hc H0
        obtain ⟨j, hj, rfl, HJ⟩ := hrel
        obtain ⟨L, hr, hchr⟩ := HJ.out
        by_cases hjt : j < sn
        · have hjt' : (j : Int) < (sn : Int) := by omega
          obtain ⟨g', o', rfl, _⟩ := hr.some_ (by have := hr.2.1; omega)
          obtain ⟨u0, u1, u2, u3, u4, c0, c1, c2, c3, c4, z0, z1, z2, z3, z4⟩ := hr.five_at hjt
          obtain ⟨L', hset⟩ := hr.fiveE hjt ⟨0, 0, 0, -1, 0⟩
          have HN : Hid (∃ L, RoomS 5 (fiveE wr g' (o' + j * 5) ⟨0, 0, 0, -1, 0⟩) (some ⟨g', o', none⟩) sn sc L ∧ Chg (foot (some ⟨g', o', none⟩) sc) w0 (fiveE wr g' (o' + j * 5) ⟨0, 0, 0, -1, 0⟩)) :=
            Lib.hid ⟨L', hset, hchr.t (fiveE_chg _ _ _ _ ⟨by have := hr.2.1; omega, o', rfl⟩)⟩
          clear hr hchr hset HJ
          go_wp2_with fail
          go_roundw
          case rel => exact ⟨j + 1, by omega, by go_num, HN⟩
          case measure => simp [intOf]; omega
        · obtain rfl : sn = j := by omega
          have Hfin : Hid (Chg (foots ss) w wr ∧ Chg (foots (ss.take (m + 1))) w wr) := Lib.hid
            ⟨HM.out.1.trans hchr (fun i _ hT => ⟨_, List.mem_of_getElem? Hs.out, hT⟩), by
              rw [take_snoc Hs.out]
              exact (HM.out.2.mono (fun k _ ⟨t, ht, hk⟩ => ⟨t, List.mem_append.2 (.inl ht), hk⟩)).trans hchr (fun i _ hT => ⟨_, List.mem_append.2 (.inr (List.mem_singleton.2 rfl)), hT⟩)⟩
          clear hr hchr HJ
          go_wp2_with fail
          go_roundw
          case rel => exact ⟨m + 1, by omega, by go_num, Hfin⟩
          case measure => simp [intOf]; omega
    · obtain rfl : n = m := by omega
      go_wp2_with fail
      go_end0
      exact ⟨rfl, HM.out.1⟩
end Go.Proofs.Ytkeapijehfacfaa
