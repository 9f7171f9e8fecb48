/- Fbc: lists of blocks that are read; the law's comparing of blocks. -/
import Derived.Test.YtlneifgihdickaaFsl
import Derived.Test.YtlneifgihdickaaFbx
namespace Go.Fx
open Go.RowKit
abbrev Bk := (Nat × Nat) × List Nat
end Go.Fx
namespace Go.Proofs.Ytlneifgihdickaa
open Go.RowKit Go.Fx
theorem map_z (xs : List Nat) : (xs.map fun k : Nat => (k : Int)).map intz = xs.map intv := by rw [List.map_map]; rfl
theorem Rd.z {w : World} {A : Option Addr} {n : Nat} {xs : List Nat} (h : Rd intv w A n xs) : Rd intz w A n (xs.map fun k : Nat => (k : Int)) := by
  unfold Rd at h ⊢
  rw [List.length_map]
  refine ⟨h.1, fun hn => ?_⟩
  obtain ⟨b, o, h1, h2, h3⟩ := h.2 hn
  refine ⟨b, o, h1, h2, fun k x hx => ?_⟩
  rw [List.getElem?_map] at hx
  cases hy : xs[k]? with
  | none => rw [hy] at hx; cases hx
  | some y =>
    rw [hy] at hx
    obtain rfl := Option.some.inj hx
    exact h3 k y hy
theorem z_inj (xs ys : List Nat) : decide ((xs.map fun k : Nat => (k : Int)) = ys.map fun k : Nat => (k : Int)) = decide (xs = ys) := by
  rw [Bool.eq_iff_iff, decide_eq_true_iff, decide_eq_true_iff]
  constructor
  · intro h
    have h2 := congrArg (List.map Int.toNat) h
    simpa [List.map_map, Function.comp_def] using h2
  · intro h; rw [h]
theorem equalN (A1 A2 : Option Addr) (n1 n2 c1 c2 : Nat) (xs ys : List Nat) (w : World) (h1 : Rd intv w A1 n1 xs) (h2 : Rd intv w A2 n2 ys) (hm : n1 ≤ 1000000000) :
    Calls Try.prog 27 #[.slice A1 n1 c1, .slice A2 n2 c2] w fun e w' => e = .returned (.bool (decide (xs = ys))) ∧ Ext w w' := by
  rw [← z_inj]
  exact equalZ A1 A2 n1 n2 c1 c2 _ _ w (Rd.z h1) (Rd.z h2) hm
theorem z_mem (y : Nat) (l : List Nat) : decide ((y : Int) ∈ l.map fun k : Nat => (k : Int)) = decide (y ∈ l) := by
  rw [Bool.eq_iff_iff, decide_eq_true_iff, decide_eq_true_iff, List.mem_map]
  exact ⟨fun ⟨x, hx, e⟩ => by rw [show y = x by omega]; exact hx, fun h => ⟨y, h, rfl⟩⟩
theorem containsN (A : Option Addr) (n c : Nat) (l : List Nat) (y : Nat) (w : World) (h : Rd intv w A n l) (hm : n ≤ 1000000000) :
    Calls Try.prog 18 #[.slice A n c, .int .i64 (y : Int)] w fun e w' => e = .returned (.bool (decide (y ∈ l))) ∧ Ext w w' := by
  rw [← z_mem]
  exact containsZ A n c _ (y : Int) w (Rd.z h) hm
/-- A list of blocks that is read. -/
def BlsR (w : World) (A : Option Addr) (n : Nat) (bs : List Bk) : Prop :=
  bs.length = n ∧ (0 < n → ∃ b o, A = some ⟨b, o, none⟩ ∧ b < w.heap.size ∧ ∀ (i : Nat) (x : Bk), bs[i]? = some x → ∃ s : Sl, w.cell? ⟨b, o + i * 3, none⟩ = some (.int .i64 (x.1.1 : Int)) ∧ w.cell? ⟨b, o + i * 3 + 1, none⟩ = some (.int .i64 (x.1.2 : Int)) ∧ w.cell? ⟨b, o + i * 3 + 2, none⟩ = some (.slice s.A s.n s.c) ∧ Rd intv w s.A s.n x.2 ∧ s.n ≤ 1000000000)
theorem BlsR.ext {w w' : World} {A : Option Addr} {n : Nat} {bs : List Bk} (h : BlsR w A n bs) (e : Ext w w') : BlsR w' A n bs := by
  refine ⟨h.1, fun hn => ?_⟩
  obtain ⟨b, o, h1, h2, h3⟩ := h.2 hn
  refine ⟨b, o, h1, Nat.lt_of_lt_of_le h2 e.size, fun i x hx => ?_⟩
  obtain ⟨s, q1, q2, q3, q4, q5⟩ := h3 i x hx
  exact ⟨s, (e.cell (p := ⟨b, o + i * 3, none⟩) h2).trans q1, (e.cell (p := ⟨b, o + i * 3 + 1, none⟩) h2).trans q2, (e.cell (p := ⟨b, o + i * 3 + 2, none⟩) h2).trans q3, q4.ext e, q5⟩
theorem BlsR.get {w : World} {A : Option Addr} {n k : Nat} {bs : List Bk} (h : BlsR w A n bs) (hk : k < n) : ∃ b o x s, A = some ⟨b, o, none⟩ ∧ b < w.heap.size ∧ bs[k]? = some x ∧ w.cell? ⟨b, o + k * 3, none⟩ = some (.int .i64 (x.1.1 : Int)) ∧ w.cell? ⟨b, o + k * 3 + 1, none⟩ = some (.int .i64 (x.1.2 : Int)) ∧ w.cell? ⟨b, o + k * 3 + 2, none⟩ = some (.slice (Sl.A s) (Sl.n s) (Sl.c s)) ∧ Rd intv w (Sl.A s) (Sl.n s) x.2 ∧ Sl.n s ≤ 1000000000 := by
  obtain ⟨b, o, h1, h2, h3⟩ := h.2 (by omega)
  obtain ⟨x, hx⟩ : ∃ x, bs[k]? = some x := ⟨bs[k]'(by rw [h.1]; exact hk), List.getElem?_eq_getElem _⟩
  obtain ⟨s, q⟩ := h3 k x hx
  exact ⟨b, o, x, s, h1, h2, hx, q⟩
theorem Lsb.bls {B : Nat} {w : World} {A : Option Addr} {n c : Nat} {fs : List (Nat × Nat)} {ss : List Sl} {ls : List (List Nat)} (h : Lsb B w A n c fs ss ls) (hs0 : ∀ l ∈ ls, l.length ≤ 1000000000) : BlsR w A n (fs.zip ls) := by
  have hr := h.room.rd blC_len (by decide)
  refine ⟨by rw [List.length_zip, h.fl, h.len, Nat.min_self], fun hn => ?_⟩
  obtain ⟨b, o, hA, hb, h3⟩ := hr.2 hn
  refine ⟨b, o, hA, hb, fun i x hx => ?_⟩
  rw [List.getElem?_zip_eq_some] at hx
  have hi : i < n := by have := (List.getElem?_eq_some_iff.1 hx.1).1; rw [h.fl] at this; exact this
  obtain ⟨s, hs⟩ : ∃ s, ss[i]? = some s := ⟨ss[i]'(by rw [h.sl]; exact hi), List.getElem?_eq_getElem _⟩
  obtain ⟨l, hl, hrm⟩ := h.at_ i s hs
  rw [hx.2] at hl
  obtain rfl := Option.some.inj hl
  have h4 := h3 i (x.1, s) (by rw [List.getElem?_zip_eq_some]; exact ⟨hx.1, hs⟩)
  exact ⟨s, h4 0 _ rfl, h4 1 _ rfl, h4 2 _ rfl, hrm.rd, by have h5 := hs0 _ (List.mem_of_getElem? hx.2); have h6 := hrm.1; rw [List.length_map] at h6; omega⟩
set_option maxRecDepth 100000 in
set_option maxHeartbeats 1000000 in
theorem blkEq1 (a1 a2 b1 b2 : Nat) (xs ys : List Nat) (A1 A2 : Option Addr) (n1 n2 c1 c2 : Nat) (w : World) (h1 : Rd intv w A1 n1 xs) (h2 : Rd intv w A2 n2 ys) (hm : n1 ≤ 1000000000) :
    Calls Try.prog 56 #[.agg #[.int .i64 (a1 : Int), .int .i64 (a2 : Int), .slice A1 n1 c1], .agg #[.int .i64 (b1 : Int), .int .i64 (b2 : Int), .slice A2 n2 c2]] w fun e w' => e = .returned (.bool (decide (((a1, a2), xs) = ((b1, b2), ys)))) ∧ Ext w w' := by
  obtain ⟨w0, hw0⟩ : ∃ w0, w0 = (w.alloc (.cells #[.int .i64 (a1 : Int), .int .i64 (a2 : Int), .slice A1 n1 c1] 53)).alloc (.cells #[.int .i64 (b1 : Int), .int .i64 (b2 : Int), .slice A2 n2 c2] 59) := ⟨_, rfl⟩
  have e0 : Ext w w0 := by rw [hw0]; exact (Ext.alloc _ _).t (Ext.alloc _ _)
  have HE := Lib.hid (equalN A1 A2 n1 n2 c1 c2 xs ys w0 (h1.ext e0) (h2.ext e0) hm)
  have HW := Lib.hid hw0
  have E0 := Lib.hid e0
  clear h1 h2 hw0 e0
  by_cases q1 : a1 = b1
  · subst q1
    have g1 : ((a1 : Int) == (a1 : Int)) = true := by simp
    by_cases q2 : a2 = b2
    · subst q2
      have g2 : ((a2 : Int) == (a2 : Int)) = true := by simp
      have hd : decide (((a1, a2), xs) = ((a1, a2), ys)) = decide (xs = ys) := by simp
      rw [hd]
      clear hd
      go_enter Try.func56, Try.ntmps56
      go_wp2_with fail
      rw [← HW.out]
      refine HE.out.mono ?_; rintro e w1 ⟨rfl, e1⟩
      have E1 := Lib.hid (E0.out.t e1)
      clear HW E0 HE e1
      go_wp2_with fail
      go_ret
      exact ⟨by simp, E1.out⟩
    · have g2 : ((a2 : Int) == (b2 : Int)) = false := by simp; omega
      have hd : decide (((a1, a2), xs) = ((a1, b2), ys)) = false := by simp [q2]
      rw [hd]
      clear hd HE
      go_enter Try.func56, Try.ntmps56
      go_wp2_with fail
      go_ret
      exact ⟨by simp, by have := E0.out; rw [HW.out] at this; exact this⟩
  · have g1 : ((a1 : Int) == (b1 : Int)) = false := by simp; omega
    have hd : decide (((a1, a2), xs) = ((b1, b2), ys)) = false := by simp [q1]
    rw [hd]
    clear hd HE
    go_enter Try.func56, Try.ntmps56
    go_wp2_with fail
    go_ret
    exact ⟨by simp, by have := E0.out; rw [HW.out] at this; exact this⟩
set_option maxRecDepth 100000 in
set_option maxHeartbeats 1000000 in
theorem equalBk (A1 A2 : Option Addr) (n1 n2 c1 c2 : Nat) (xs ys : List Bk) (w : World) (h1 : BlsR w A1 n1 xs) (h2 : BlsR w A2 n2 ys) (hm : n1 ≤ 1000000000) :
    Calls Try.prog 55 #[.slice A1 n1 c1, .slice A2 n2 c2, .func (.func 56) #[] #[]] w fun e w' => e = .returned (.bool (decide (xs = ys))) ∧ Ext w w' := by
  have hl1 := h1.1
  have hl2 := h2.1
  by_cases hn : n1 = n2
  · subst hn
    have hne : ((n1 : Int) != (n1 : Int)) = false := by simp
    have H1 := Lib.hid h1
    have H2 := Lib.hid h2
    clear h1 h2
    go_enter Try.func55, Try.ntmps55
    go_wp2_with fail
    go_loopw [17] (fun i wr => ∃ k : Nat, k ≤ n1 ∧ i = .int .i64 (k : Int) ∧ Hid (xs.take k = ys.take k ∧ Ext w wr)) (fun i _ => n1 - (intOf i).toNat)
    case atStart => exact ⟨0, by omega, rfl, Lib.hid ⟨by simp, Ext.refl _⟩⟩
    case round =>
      obtain ⟨k, hk, rfl, H⟩ := hrel
      by_cases hlt : k < n1
      · obtain ⟨p1, o1, x, s, rfl, lx1, hx, x0, x1, x2, rx, lx⟩ := (H1.out.ext H.out.2).get hlt
        obtain ⟨p2, o2, y, t, rfl, ly1, hy, y0, y1, y2, ry, ly⟩ := (H2.out.ext H.out.2).get hlt
        obtain ⟨⟨a1, a2⟩, xl⟩ := x
        obtain ⟨⟨b1, b2⟩, yl⟩ := y
        obtain ⟨sA, sn, sc⟩ := s
        obtain ⟨tA, tn, tc⟩ := t
        simp only at x0 x1 x2 y0 y1 y2 rx ry lx
        have hli : (k : Int) < (n1 : Int) := by omega
        obtain ⟨w0, hw0⟩ : ∃ w0, w0 = (wr.alloc (.cells #[.int .i64 (a1 : Int), .int .i64 (a2 : Int), .slice sA sn sc] 53)).alloc (.cells #[.int .i64 (b1 : Int), .int .i64 (b2 : Int), .slice tA tn tc] 59) := ⟨_, rfl⟩
        have e0 : Ext wr w0 := by rw [hw0]; exact (Ext.alloc _ _).t (Ext.alloc _ _)
        have HE := Lib.hid (blkEq1 a1 a2 b1 b2 xl yl sA tA sn tn sc tc w0 (rx.ext e0) (ry.ext e0) lx)
        have HW := Lib.hid hw0
        have E0 := Lib.hid (H.out.2.t e0)
        have Hx := Lib.hid hx
        have Hy := Lib.hid hy
        clear hx hy hw0 e0 rx ry
        by_cases hxy : ((a1, a2), xl) = ((b1, b2), yl)
        · rw [decide_eq_true hxy] at HE
          have HJ : Hid (xs.take (k + 1) = ys.take (k + 1)) := Lib.hid (by rw [take_snoc Hx.out, take_snoc Hy.out, H.out.1, hxy])
          clear hxy Hx Hy H H1 H2
          go_wp2_with fail
          rw [← HW.out]
          refine HE.out.mono ?_; rintro e w1 ⟨rfl, e1⟩
          have E1 := Lib.hid (E0.out.t e1)
          clear e1 HE HW E0
          go_wp2_with fail
          go_roundw
          case rel => exact ⟨k + 1, by omega, by go_num, Lib.hid ⟨HJ.out, E1.out⟩⟩
          case measure => simp [intOf]; omega
        · rw [decide_eq_false hxy] at HE
          have HJ : Hid (false = decide (xs = ys)) := Lib.hid (by symm; simpa using ne_of_getx Hx.out Hy.out hxy)
          clear hxy Hx Hy H H1 H2
          go_wp2_with fail
          rw [← HW.out]
          refine HE.out.mono ?_; rintro e w1 ⟨rfl, e1⟩
          have E1 := Lib.hid (E0.out.t e1)
          clear e1 HE HW E0
          go_wp2_with fail
          go_ret
          exact ⟨ret_bool HJ.out, E1.out⟩
      · obtain rfl : k = n1 := by omega
        go_wp2_with fail
        go_ret
        refine ⟨ret_bool ?_, H.out.2⟩
        have := H.out.1
        rw [List.take_of_length_le (by omega), List.take_of_length_le (by omega)] at this
        simpa using this
  · have hne : ((n1 : Int) != (n2 : Int)) = true := by simp; omega
    clear h1 h2
    go_enter Try.func55, Try.ntmps55
    go_wp2_with fail
    go_ret
    refine ⟨ret_bool ?_, Ext.refl _⟩
    symm
    simp only [decide_eq_false_iff_not]
    rintro rfl
    omega
end Go.Proofs.Ytlneifgihdickaa
