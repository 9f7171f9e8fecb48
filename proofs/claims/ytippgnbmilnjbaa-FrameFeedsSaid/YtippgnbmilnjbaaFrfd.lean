/- Frfd: the reference's Feed. -/
import Derived.Test.YtippgnbmilnjbaaFrd
import Derived.Test.YtippgnbmilnjbaaFrameCuts
import Derived.StillTailTactics
namespace Go.Fx
open Go.RowKit
/-- The reference's Feed: all bytes, the bodies, the error. -/
def fdR (P x : List Nat) : List Nat × List (List Nat) × Nat := if erF (splF P).2 = 31 then (P, [], 31) else (P ++ x, (splF (P ++ x)).1.drop (splF P).1.length, erD (P ++ x))
theorem fd_fdR (P x : List Nat) : fdF (stOf P) x = (stOf (fdR P x).1, (fdR P x).2.1, (fdR P x).2.2) := by
  unfold fdR
  split
  · next h =>
    have e1 : stOf P = ⟨[], (splF P).1.length, true⟩ := by unfold stOf; rw [if_pos h]
    unfold fdF
    rw [e1]
    simp
  · exact (fd_stOf P x).1
theorem Lst.tail_new {B : Nat} {w : World} {A : Option Addr} {n c : Nat} {os : List Sl} {xss : List (List Nat)} (h : Lst B w A n c os xss) {i : Nat} (k o : Nat) (ha : from_ A c i = some ⟨k, o, none⟩) (hn : 0 < n - i) : B ≤ k :=
  h.new k (.inl (foot_from h.room ⟨by have := h.room.2.1; omega, o, ha⟩))
theorem Lst.mem_new {B : Nat} {w : World} {A : Option Addr} {n c : Nat} {os : List Sl} {xss : List (List Nat)} (h : Lst B w A n c os xss) {t : Sl} (ht : t ∈ os) {k o : Nat} (ha : t.A = some ⟨k, o, none⟩) (hn : 0 < t.n) : B ≤ k := by
  obtain ⟨i, hi, rfl⟩ := List.mem_iff_getElem.1 ht
  obtain ⟨xs, _, hb⟩ := h.byt.at_ i _ (List.getElem?_eq_getElem hi)
  exact h.new k (.inr ⟨_, ht, by have := hb.room.2.1; omega, o, ha⟩)
end Go.Fx
namespace Go.Proofs.Ytippgnbmilnjbaa
open Go.RowKit Go.Fx
theorem stOf_tells (P : List Nat) : (stOf P).held.length = (TellsP P).1 ∧ tlF (stOf P) = (TellsP P).2.1 ∧ (stOf P).n = (TellsP P).2.2 ∧ (stOf P).dead = decide (erF (splF P).2 = 31) := by
  unfold TellsP stOf
  split
  · next h => exact ⟨rfl, by unfold tlF; simp, rfl, by simp [h]⟩
  · next h => exact ⟨rfl, by unfold tlF; simp, rfl, by simp [h]⟩
/-- What the reference's Feed leaves. -/
structure RFed (w : World) (s0 : Sl) (P x : List Nat) (e : Ending) (w' : World) (s : Sl) (Al : Option Addr) (nl cl : Nat) (os : List Sl) : Prop where
  ret : e = .returned (.tuple #[strv s, .slice Al nl cl, .int .i64 ((fdR P x).2.2 : Int)])
  rd : Rd u8v w' s.A s.n (fdR P x).1
  lt : ∀ y ∈ (fdR P x).1, y < 256
  cap : s.n ≤ s.c
  rl : Rd slv w' Al nl os
  re : Reads w' os (fdR P x).2.1
  le : nl ≤ maxLen
  ext : Ext w w'
  nw : s = s0 ∨ ∀ k, foot s.A s.c k → w.heap.size ≤ k
  ln : ∀ k o, Al = some ⟨k, o, none⟩ → 0 < nl → w.heap.size ≤ k
  lo : ∀ t ∈ os, ∀ k o, t.A = some ⟨k, o, none⟩ → 0 < t.n → w.heap.size ≤ k
def RFedP (w : World) (s0 : Sl) (P x : List Nat) (e : Ending) (w' : World) : Prop := ∃ s Al nl cl os, RFed w s0 P x e w' s Al nl cl os
theorem ret_feed {A : Option Addr} {n c : Nat} {v : Value} {a b : Int} (h : a = b) : Ending.returned (.tuple #[.agg #[.slice A n c], v, .int .i64 a]) = .returned (.tuple #[strv ⟨A, n, c⟩, v, .int .i64 b]) := by rw [h]
set_option maxRecDepth 100000 in
set_option maxHeartbeats 2000000 in
theorem rfeed_ (A : Option Addr) (n c : Nat) (P : List Nat) (A' : Option Addr) (m c' : Nat) (x : List Nat) (w : World) (h : Rd u8v w A n P) (hP : ∀ y ∈ P, y < 256) (hc : n ≤ c) (h' : Rd u8v w A' m x) (hx : ∀ y ∈ x, y < 256) (hn : n + m ≤ 1000000000) :
    Calls Try.prog 54 #[strv ⟨A, n, c⟩, .slice A' m c'] w (RFedP w ⟨A, n, c⟩ P x) := by
  obtain ⟨W0, hW0⟩ : ∃ W0, W0 = ((w.alloc (.cells #[.slice A n c] 87)).alloc (.cells #[.slice none 0 0] 87)) := ⟨_, rfl⟩
  have e0 : Ext w W0 := by rw [hW0]; exact (Ext.alloc w _).t (Ext.alloc _ _)
  have b2 : Blk W0 w.heap.size 87 #[.slice A n c] := by rw [hW0]; exact (Blk.new w _ _).alloc _
  have b4 : Blk W0 (w.heap.size + 1) 87 #[.slice none 0 0] := by
    rw [hW0]
    have hb := Blk.new (w.alloc (.cells #[.slice A n c] 87)) 87 #[.slice none 0 0]
    rw [World.size_alloc] at hb
    exact hb
  have HD := Lib.hid (rdead_ A n c P W0 (h.ext e0) hP hc (by omega))
  have HA := Lib.hid h
  have HP := Lib.hid hP
  have HX := Lib.hid h'
  have Hx := Lib.hid hx
  have E0 := Lib.hid e0
  have B2 := Lib.hid b2
  have B4 := Lib.hid b4
  have Hsz : Hid (W0.heap.size = w.heap.size + 2) := Lib.hid (by rw [hW0, World.size_alloc, World.size_alloc])
  have hPl := h.1
  have HPl := Lib.hid hPl
  by_cases hd : erF (splF P).2 = 31
  · have Hr : Hid (fdR P x = (P, [], 31)) := Lib.hid (by unfold fdR; rw [if_pos hd])
    have Hd := Lib.hid hd
    rw [decide_eq_true hd, hW0] at HD
    have HW0 := Lib.hid hW0
    clear h hP h' hx e0 b2 b4 hd hW0 hPl
    go_enter Try.func54, Try.ntmps54
    go_wp2_with fail
    refine HD.out.mono ?_; rintro e w1 ⟨rfl, e1⟩
    rw [← HW0.out] at e1
    have c2 := (B2.out.ext e1).cell0
    have f4 := (B4.out.ext e1).frozen 0
    have c4 := (B4.out.ext e1).cell0
    have hb4 := (B4.out.ext e1).set0 (.slice A n c)
    have C4 := Lib.hid hb4.cell0
    have E1 := Lib.hid e1
    clear e1 hb4
    go_wp2_with fail
    try simp only [Exit.inBlock, Exit.then]
    refine bodyPost_ret (v := .tuple #[strv ⟨A, n, c⟩, .slice none 0 0, .int .i64 31]) (by simp [results, Try.results54, go_sem, C4.out]) rfl ?_
    have ez := E1.out.size
    have hsz := Hsz.out
    have ch : Chg (fun k => k = w.heap.size + 1) w1 (w1.setCell ⟨w.heap.size + 1, 0, none⟩ (.slice A n c)) := Chg.set _ _ _ _ rfl
    have hE := (E0.out.t E1.out).trans (ch.below (E0.out.t E1.out).size (fun k hk ht => by omega))
    refine ⟨⟨A, n, c⟩, none, 0, 0, [], ?_, ?_, ?_, hc, Rd.none_, ?_, Nat.zero_le _, hE, .inl rfl, fun k o e => (nomatch e), fun t ht => (nomatch ht)⟩
    · rw [Hr.out]; rfl
    · rw [Hr.out]; exact HA.out.ext hE
    · rw [Hr.out]; exact HP.out
    · rw [Hr.out]; exact Reads.nil
  · have Hr : Hid (fdR P x = (P ++ x, (splF (P ++ x)).1.drop (splF P).1.length, erD (P ++ x))) := Lib.hid (by unfold fdR; rw [if_neg hd])
    rw [decide_eq_false hd, hW0] at HD
    have HW0 := Lib.hid hW0
    have hx2 : ∀ y ∈ P ++ x, y < 256 := fun y hy => (List.mem_append.1 hy).elim (hP y) (hx y)
    have Hx2 := Lib.hid hx2
    have Hm : Hid (x.length = m) := Lib.hid h'.1
    clear h hP h' hx e0 b2 b4 hd hW0 hPl hx2
    go_enter Try.func54, Try.ntmps54
    go_wp2_with fail
    refine HD.out.mono ?_; rintro e w1 ⟨rfl, e1⟩
    rw [← HW0.out] at e1
    have c2 := (B2.out.ext e1).cell0
    have E1 := Lib.hid (E0.out.t e1)
    have B21 := Lib.hid (B2.out.ext e1)
    have B41 := Lib.hid (B4.out.ext e1)
    have hsz1 : w.heap.size + 2 ≤ w1.heap.size := by have := e1.size; have := Hsz.out; omega
    have HS1 := Lib.hid (rsplit_ A n c P w1 (HA.out.ext E1.out) HP.out hc (by omega))
    unfold SplitP at HS1
    clear e1 HD
    go_wp2_with fail
    refine HS1.out.mono ?_; rintro e w2 ⟨A1, n1, c1, os1, rfl, hl, e2⟩
    have HN1 := Lib.hid hl.n_
    have E2 := Lib.hid (E1.out.t e2)
    have b22 := B21.out.ext e2
    have B42 := Lib.hid (B41.out.ext e2)
    have hsz2 : w.heap.size + 2 ≤ w2.heap.size := by have := e2.size; omega
    clear HS1 hl e2 c2
    generalize (P.length - (splF P).2.length) = q1
    generalize erF (splF P).2 = q2
    have B22 := Lib.hid b22
    clear b22
    go_wp2_with (refine wpl_build (by rfl) rfl ul_u8 info_u8 [] (by rfl) (by rfl) (by decide) (f := u8v) [] (by rfl) (fun _ => rfl) ?_)
    intro g w3 b3 e3 lo3 _; refine Lib.hid ?_
    have c2 := (B22.out.ext e3).cell0
    have own0 : Room w3 (some ⟨g, 0, none⟩) 0 0 [] := Room.zero
    have B23 := Lib.hid (B22.out.ext e3)
    have B43 := Lib.hid (B42.out.ext e3)
    have E3 := Lib.hid (E2.out.t e3)
    have hsz3 : w.heap.size + 2 ≤ w3.heap.size := by have := e3.size; omega
    clear b3 e3 lo3
    go_wp2_with (refine wpl_append_at (by rfl) rfl ul_u8 info_u8 rfl rfl own0 rfl (Src.ofRd ul_u8 (HA.out.ext E3.out) (fun _ => rfl)) (by simp only [maxLen]; omega) (by omega) ?_)
    intro A4 c4 w4 r4 ch4 ft4; refine Lib.hid ?_
    try simp only [Nat.zero_add, List.nil_append] at r4
    have e4 : Ext w3 w4 := (ch4.mono (T' := fun _ => False) (fun k _ hk => foot_zero hk)).ext
    have hn4 : ∀ k, foot A4 c4 k → w3.heap.size ≤ k := fun k hk => (ft4 k hk).elim (fun h => absurd h foot_zero) id
    have Hn4 := Lib.hid hn4
    have B24 := Lib.hid (B23.out.ext e4)
    have B44 := Lib.hid (B43.out.ext e4)
    have E4 := Lib.hid (E3.out.t e4)
    have hsz4 : w.heap.size + 2 ≤ w4.heap.size := by have := e4.size; omega
    clear ch4 ft4 own0 c2 e4 hn4 B22 B23 B42 B43
    go_wp2_with (refine wpl_append_at (by rfl) rfl ul_u8 info_u8 rfl rfl (by first | exact r4 | (rw [Nat.zero_add]; exact r4)) rfl (Src.ofRd ul_u8 (HX.out.ext E4.out) (fun _ => rfl)) (by simp only [maxLen]; omega) (by omega) ?_)
    intro A5 c5 w5 r5 ch5 ft5; refine Lib.hid ?_
    try simp only [Nat.zero_add] at r5
    rw [← List.map_append] at r5
    have b25 := B24.out.chg ch5 (fun h => by have := Hn4.out _ h; omega)
    have b45 := B44.out.chg ch5 (fun h => by have := Hn4.out _ h; omega)
    have hn5 : ∀ k, foot A5 c5 k → w.heap.size + 2 ≤ k := fun k hk => by rcases ft5 k hk with h | h; (have := Hn4.out _ h; omega); omega
    have hE5 : Ext w w5 := E4.out.trans (ch5.below E4.out.size (fun k hk ht => by have := Hn4.out _ ht; omega))
    have f2 := b25.frozen 0
    have c2 := b25.cell0
    have b26 := b25.set0 (.slice A5 (n + m) c5)
    have b46 := b45.far (p := ⟨w.heap.size, 0, none⟩) (by simp) (.slice A5 (n + m) c5)
    have ch6 : Chg (fun k => k = w.heap.size) w5 (w5.setCell ⟨w.heap.size, 0, none⟩ (.slice A5 (n + m) c5)) := Chg.set _ _ _ _ rfl
    have r6 := r5.chg ch6 (fun k hk ht => by have := hn5 k hk; omega)
    have hE6 := hE5.trans (ch6.below hE5.size (fun k hk ht => by omega))
    have hsz6 : w.heap.size + 2 ≤ (w5.setCell ⟨w.heap.size, 0, none⟩ (.slice A5 (n + m) c5)).heap.size := by rw [setCell_size]; have := ch5.size; omega
    have c26 := b26.cell0
    have B26 := Lib.hid b26
    have B46 := Lib.hid b46
    have R6 := Lib.hid r6
    have E6 := Lib.hid hE6
    have Hn5 := Lib.hid hn5
    have HS2 := Lib.hid (rsplit_ A5 (n + m) c5 (P ++ x) _ (Room.rd r6) Hx2.out r6.2.1 (by omega))
    unfold SplitP at HS2
    have hcap5 := r6.2.1
    clear r5 ch5 ft5 b25 b45 b26 b46 ch6 r6 hE5 hE6 hn5 r4 B24 B44
    go_wp2_with fail
    refine HS2.out.mono ?_; rintro e w7 ⟨A2, n2, cc2, os2, rfl, hl2, e7⟩
    have c27 := (B26.out.ext e7).cell0
    have b47 := B46.out.ext e7
    have c47 := b47.cell0
    have f47 := b47.frozen 0
    have hsl : n1 ≤ n2 := by
      have h1 := congrArg List.length (fd_stOf P x).2
      rw [List.length_append, ← HN1.out, ← hl2.n_] at h1
      omega
    have hsl2 := fun w' => bb_fromI (A := A2) (n := n2) (c := cc2) (lo := n1) (li := (n1 : Int)) w' rfl hsl
    have hslI : (n1 : Int) ≤ (n2 : Int) := by omega
    have Hl2 := Lib.hid hl2
    have E7 := Lib.hid (E6.out.t e7)
    have E67 := Lib.hid e7
    have hsz7 : w.heap.size + 2 ≤ w7.heap.size := by have := e7.size; omega
    generalize (P ++ x).length - (splF (P ++ x)).2.length = q3
    by_cases he : erF (splF (P ++ x)).2 = 31
    · have Her : Hid (erD (P ++ x) = 31) := Lib.hid (by unfold erD; rw [if_pos he])
      rw [he]
      have C8 := Lib.hid ((b47.set0 (.slice A5 (n + m) c5)).drew.cell0)
      clear hl2 e7 HS2 he c26 f2 c2 b47
      generalize erF (splF (P ++ x)).2 = er7 at *
      go_upto_region 8 with fail
      go_region
      go_wp2_with fail
      try simp only [Exit.inBlock, Exit.then]
      refine bodyPost_ret (v := .tuple #[strv ⟨A5, n + m, c5⟩, .slice (from_ A2 cc2 n1) (n2 - n1) (cc2 - n1), .int .i64 31]) (by simp [results, Try.results54, go_sem, C8.out]) rfl ?_
      have ch8 : Chg (fun k => k = w.heap.size + 1) w7 (w7.setCell ⟨w.heap.size + 1, 0, none⟩ (.slice A5 (n + m) c5)).drew := (Chg.set (T := fun k => k = w.heap.size + 1) _ _ _ _ rfl).e (Ext.drew _)
      have hE8 := E7.out.trans (ch8.below E7.out.size (fun k hk ht => by omega))
      have hl8 := Hl2.out.chg ch8 (fun k hk ht => by have := Hl2.out.new k hk; omega)
      refine ⟨⟨A5, n + m, c5⟩, from_ A2 cc2 n1, n2 - n1, cc2 - n1, os2.drop n1, ?_, ?_, ?_, R6.out.2.1, ?_, ?_, Nat.le_trans (Nat.sub_le _ _) Hl2.out.le, hE8, .inr (fun k hk => by have := Hn5.out k hk; omega), fun k o ha hn => by have := Hl2.out.tail_new k o ha hn; omega, fun t ht k o ha hn => by have := Hl2.out.mem_new (List.mem_of_mem_drop ht) ha hn; omega⟩
      · rw [Hr.out, Her.out]; rfl
      · rw [Hr.out]
        exact Room.rd ((R6.out.ext E67.out).chg ch8 (fun k hk ht => by have := Hn5.out k hk; omega))
      · rw [Hr.out]; exact Hx2.out
      · exact hl8.rd.from_ hsl Hl2.out.room.2.1
      · rw [Hr.out, ← HN1.out]
        exact (Reads.of hl8.byt).drop n1
    · have Her : Hid (erD (P ++ x) = 0) := Lib.hid (by unfold erD; rw [if_neg he])
      have he' : ((erF (splF (P ++ x)).2 : Int) == 31) = false := by simp; omega
      have C8 := Lib.hid ((b47.set0 (.slice A5 (n + m) c5)).drew.cell0)
      clear hl2 e7 HS2 he c26 f2 c2 b47
      generalize erF (splF (P ++ x)).2 = er7 at *
      go_upto_region 8 with fail
      go_region
      go_wp2_with fail
      try simp only [Exit.inBlock, Exit.then]
      refine bodyPost_ret (v := .tuple #[strv ⟨A5, n + m, c5⟩, .slice (from_ A2 cc2 n1) (n2 - n1) (cc2 - n1), .int .i64 0]) (by simp [results, Try.results54, go_sem, C8.out]) rfl ?_
      have ch8 : Chg (fun k => k = w.heap.size + 1) w7 (w7.setCell ⟨w.heap.size + 1, 0, none⟩ (.slice A5 (n + m) c5)).drew := (Chg.set (T := fun k => k = w.heap.size + 1) _ _ _ _ rfl).e (Ext.drew _)
      have hE8 := E7.out.trans (ch8.below E7.out.size (fun k hk ht => by omega))
      have hl8 := Hl2.out.chg ch8 (fun k hk ht => by have := Hl2.out.new k hk; omega)
      refine ⟨⟨A5, n + m, c5⟩, from_ A2 cc2 n1, n2 - n1, cc2 - n1, os2.drop n1, ?_, ?_, ?_, R6.out.2.1, ?_, ?_, Nat.le_trans (Nat.sub_le _ _) Hl2.out.le, hE8, .inr (fun k hk => by have := Hn5.out k hk; omega), fun k o ha hn => by have := Hl2.out.tail_new k o ha hn; omega, fun t ht k o ha hn => by have := Hl2.out.mem_new (List.mem_of_mem_drop ht) ha hn; omega⟩
      · rw [Hr.out, Her.out]; rfl
      · rw [Hr.out]
        exact Room.rd ((R6.out.ext E67.out).chg ch8 (fun k hk ht => by have := Hn5.out k hk; omega))
      · rw [Hr.out]; exact Hx2.out
      · exact hl8.rd.from_ hsl Hl2.out.room.2.1
      · rw [Hr.out, ← HN1.out]
        exact (Reads.of hl8.byt).drop n1
end Go.Proofs.Ytippgnbmilnjbaa
