/- FrameCuts: the walk of the law: for any bytes and cuts it answers true and leaves all memory as it was (no condition). -/
import Derived.Test.YtippgnbmilnjbaaFpd
import Derived.Test.YtippgnbmilnjbaaFaw
import Derived.Test.YtippgnbmilnjbaaOpen
namespace Go.Fx
open Go.RowKit
theorem Rd.old {α : Type} {f : α → Value} {w w1 w' : World} {A : Option Addr} {n : Nat} {xs : List α} {T : Nat → Prop} (h : Rd f w A n xs) (e : Ext w w1) (ch : Chg T w1 w') (hT : ∀ k, T k → w.heap.size ≤ k) : Rd f w' A n xs :=
  h.ext (e.trans (ch.below e.size (fun k hk ht => by have := hT k ht; omega)))
theorem fd_new (x : List Nat) : fdF fst0 x = (stOf x, (splF x).1, erD x) := by
  have h := (fd_stOf [] x).1
  rw [stOf_nil, List.nil_append, splF_nil] at h
  exact h
end Go.Fx
namespace Go.Proofs.Ytippgnbmilnjbaa
open Go.RowKit Go.Fx
theorem u8_toI {A : Option Addr} {n c hi : Nat} {li : Int} (w : World) (e : li = (hi : Int)) (h2 : hi ≤ c) :
    (Instr.sliceAt 23 (.slice A n c) none (some (.int .i64 li)) none).run Try.prog w = .ok (.slice A hi c) w := by
  subst e; exact u8_to A n c hi w h2
set_option maxRecDepth 100000 in
set_option maxHeartbeats 4000000 in
theorem cuts1 (A : Option Addr) (n c : Nat) (C : Option Addr) (m cc : Nat) (cs xs : List Nat) (w : World) (hx : Rd u8v w A 1000 xs) (hxb : ∀ x ∈ xs, x < 256) (hc : n ≤ c) (hc2 : c ≤ maxLen) (h' : Arg .u8 256 w C m cc cs) (h1 : (1000 : Int) < (n : Int)) :
    Calls Try.prog 5 #[.slice A n c, .slice C m cc] w fun e w' => e = .returned (.bool true) ∧ Ext w w' := by
  have hNc : 1000 ≤ c := by omega
  have hsl := fun w' => u8_toI (A := A) (n := n) (c := c) (hi := 1000) (li := 1000) w' rfl hNc
  have HC := Lib.hid h'
  clear h'
  rcases erF_cases xs with ⟨he, hr⟩ | ⟨he, hr, hre⟩ | ⟨he, hr, hre⟩
  · skip
    obtain ⟨R, hR⟩ : ∃ R, R = (splF xs).2.length := ⟨_, rfl⟩
    obtain ⟨L, hL⟩ : ∃ L, L = (splF xs).1.length := ⟨_, rfl⟩
    obtain ⟨Q, hQ⟩ : ∃ Q, Q = 1000 - R := ⟨_, rfl⟩
    have HR := Lib.hid hR
    have HL := Lib.hid hL
    have HQ := Lib.hid hQ
    have hbo := splF_bodies xs
    rw [hx.1] at hbo
    have HRl : Hid ((splF xs).2.length ≤ 1000000000) := Lib.hid (by omega)
    have HX := Lib.hid hx
    have Hxb := Lib.hid hxb
    have Herf := Lib.hid he
    have Herd : Hid (erD xs = 0) := Lib.hid (by unfold erD; rw [if_neg (by omega)])
    have Hsto : Hid (stOf xs = ⟨(splF xs).2, (splF xs).1.length, false⟩) := Lib.hid (by unfold stOf; rw [if_neg (by omega)])
    have hR0 : R = 0 := by rw [hR, hr]; rfl
    have hat : (1000 : Int) - (Q : Int) = (R : Int) := by omega
    have h16 : (R : Int) ≤ 16386 := by omega
    have hq1 : ¬ (Q : Int) < (1000 : Int) := by omega
    have hq2 : ((Q : Int) == (1000 : Int)) = true := by simp; omega
    clear he hR hL hQ hbo hx hxb hr hR0
    go_enter Try.func5, Try.ntmps5
    go_wp2_with fail
    refine (awake w).mono ?_; rintro e w1 ⟨rfl, e1⟩
    have E1 := Lib.hid e1
    clear e1
    go_wp2_with fail
    refine (new_ w1).mono ?_; rintro e w2 ⟨sb1, rfl, hst1, e2, lo1⟩
    go_wp2_with fail
    refine (new_ w2).mono ?_; rintro e w3 ⟨sb2, rfl, hst2, e3, lo2⟩
    have hz : w.heap.size ≤ w1.heap.size ∧ w1.heap.size ≤ w2.heap.size ∧ w2.heap.size ≤ w3.heap.size := ⟨E1.out.size, e2.size, e3.size⟩
    have hlt1 := hst1.blk.lt
    have hlt2 := hst2.blk.lt
    have he03 : Ext w w3 := E1.out.t (e2.t e3)
    have E03 := Lib.hid he03
    have HZ : Hid (w.heap.size ≤ sb1 ∧ sb1 < w2.heap.size ∧ w2.heap.size ≤ sb2 ∧ sb2 < w3.heap.size) := Lib.hid ⟨by omega, hlt1, lo2, hlt2⟩
    have HF := Lib.hid (feed_ hst2 A (1000) c xs (HX.out.ext he03) Hxb.out (by show 0 + 1000 ≤ 1000000000; omega) (by simp [fst0]))
    have H1 := Lib.hid (hst1.ext e3)
    clear hst1 hst2 e2 e3 lo1 lo2 hz hlt1 hlt2 he03
    go_wp2_with fail
    refine HF.out.mono ?_; rintro e w4 ⟨Al, nl, cl, ol, s2, f⟩
    have hret := f.ret
    have hf1 := f.stm
    have hf2 := f.lst
    have hf3 : Chg (fun k => k = sb2) w3 w4 := f.chg.mono (fun k _ hk => hk.elim id (fun h => absurd h foot_none))
    have hf4 : ∀ k, stmF sb2 s2 k → k = sb2 ∨ w3.heap.size ≤ k := fun k hk => (f.nb k hk).imp (fun h => h.elim id (fun h => absurd h foot_none)) id
    rw [fd_new] at hret hf1 hf2
    simp only at hret hf1 hf2
    rw [Herd.out] at hret
    subst hret
    have he04 : Ext w w4 := E03.out.trans (hf3.below E03.out.size (fun k hk ht => by have := HZ.out; omega))
    have hs4 : Stm w4 sb1 ⟨none, 0, 0⟩ fst0 := H1.out.chg hf3 (fun k hk ht => hk.elim (fun h => by have := HZ.out; omega) (fun h => absurd h foot_none))
    have hT1 : ∀ k, stmF sb1 ⟨none, 0, 0⟩ k → w.heap.size ≤ k := fun k hk => hk.elim (fun h => by have := HZ.out; omega) (fun h => absurd h foot_none)
    have HP := Lib.hid (played_ w4 sb1 ⟨none, 0, 0⟩ A (1000) c xs C m cc cs hs4 (fun w' ch => HX.out.old he04 ch hT1) Hxb.out hNc (by omega) (fun w' ch => HC.out.rd.old he04 ch hT1) HC.out.lt (Nat.le_trans HC.out.le HC.out.max))
    have E04 := Lib.hid he04
    have Hf1 := Lib.hid hf1
    have Hf2 := Lib.hid hf2
    have Hf4 := Lib.hid hf4
    have HT1 := Lib.hid hT1
    have hz4 := hf3.size
    have Hz4 := Lib.hid hz4
    clear f hf1 hf2 hf3 hf4 he04 hs4 hT1 HF H1 hz4
    go_wp2_with fail
    refine HP.out.mono ?_; rintro e w5 ⟨Ao, no, co, os, s1, rfl, p⟩
    rw [Herd.out]
    have ch5 : Chg (fun k => k = sb1) w4 w5 := p.chg.mono (fun k _ hk => hk.elim id (fun h => absurd h foot_none))
    have he05 : Ext w w5 := E04.out.trans (ch5.below E04.out.size (fun k hk ht => by have := HZ.out; omega))
    have hst2 : Stm w5 sb2 s2 (stOf xs) := Hf1.out.chg ch5 (fun k hk ht => by have := HZ.out; rcases Hf4.out k hk with h | h <;> omega)
    have hl2 : Lst w3.heap.size w5 Al nl cl ol (splF xs).1 := Hf2.out.chg ch5 (fun k hk ht => by have := HZ.out; have := Hf2.out.new k hk; omega)
    have hst1 := p.stm
    have hl1 := p.lst
    have HSp := Lib.hid (split_ A (1000) c xs w5 (HX.out.ext he05) Hxb.out hNc hc2 (by omega))
    unfold SplitP at HSp
    rw [HX.out.1, ← HR.out, Herf.out, ← HQ.out] at HSp
    have E05 := Lib.hid he05
    have Hst2 := Lib.hid hst2
    have Hst1 := Lib.hid hst1
    have Hl1 := Lib.hid hl1
    have Hl2 := Lib.hid hl2
    clear p ch5 he05 hst2 hst1 hl2 hl1 HP Hf1 Hf2 Hf4 E04
    go_wp2_with fail
    refine HSp.out.mono ?_; rintro e w6 ⟨As, ns, cs6, oz, rfl, hls, e6⟩
    have hl1 := Hl1.out.ext e6
    have hl2 := Hl2.out.ext e6
    have hQ1 := equal_ Al As nl ns cl cs6 ol oz _ _ w6 hl2.rd (Reads.of hl2.byt) hls.rd (Reads.of hls.byt) hl2.le hls.le
    have hQ2 := equal_ Ao As no ns co cs6 os oz _ _ w6 hl1.rd (Reads.of hl1.byt) hls.rd (Reads.of hls.byt) hl1.le hls.le
    rw [decide_eq_true (rfl : (splF xs).1 = (splF xs).1)] at hQ1 hQ2
    have hs1 := Hst1.out.ext e6
    have hs2 := Hst2.out.ext e6
    rw [Hsto.out] at hs1 hs2
    obtain rfl : ns = L := by rw [hls.n_]; exact HL.out.symm
    have HQ1 := Lib.hid hQ1
    have HQ2 := Lib.hid hQ2
    have HH1 := Lib.hid (held_ hs1)
    have HH2 := Lib.hid (held_ hs2)
    have HN1 := Lib.hid (need2_ hs1 (by first | exact HRl.out | simp))
    have HN2 := Lib.hid (need2_ hs2 (by first | exact HRl.out | simp))
    have HFr1 := Lib.hid (frames2_ hs1)
    have HFr2 := Lib.hid (frames2_ hs2)
    have HD1 := Lib.hid (dead_ hs1)
    have HD2 := Lib.hid (dead_ hs2)
    have E06 := Lib.hid (E05.out.t e6)
    simp only at HH1 HH2 HFr1 HFr2 HD1 HD2
    rw [← HL.out] at HFr1 HFr2; rw [← HR.out] at HH1 HH2
    generalize tlF _ = tl at HN1 HN2
    clear hQ1 hQ2 hs1 hs2 hl1 hl2 hls e6
    go_wp2_with fail
    refine HQ1.out.mono ?_; rintro e w7 ⟨rfl, rfl⟩
    go_wp2_with fail
    refine HQ2.out.mono ?_; rintro e w7 ⟨rfl, rfl⟩
    go_wp2_with fail
    refine HH1.out.mono ?_; rintro e w7 ⟨rfl, rfl⟩
    go_wp2_with fail
    refine HH2.out.mono ?_; rintro e w7 ⟨rfl, rfl⟩
    go_wp2_with fail
    refine HN1.out.mono ?_; rintro e w7 ⟨rfl, rfl⟩
    go_wp2_with fail
    refine HN2.out.mono ?_; rintro e w7 ⟨rfl, rfl⟩
    go_wp2_with fail
    refine HFr1.out.mono ?_; rintro e w7 ⟨rfl, rfl⟩
    go_wp2_with fail
    refine HFr2.out.mono ?_; rintro e w7 ⟨rfl, rfl⟩
    go_wp2_with fail
    refine HD1.out.mono ?_; rintro e w7 ⟨rfl, rfl⟩
    go_wp2_with fail
    refine HD2.out.mono ?_; rintro e w7 ⟨rfl, rfl⟩
    go_wp2_with fail
    refine HD2.out.mono ?_; rintro e w7 ⟨rfl, rfl⟩
    go_wp2_with fail
    refine HH2.out.mono ?_; rintro e w7 ⟨rfl, rfl⟩
    go_wp2_with fail
    refine HH2.out.mono ?_; rintro e w7 ⟨rfl, rfl⟩
    go_wp2_with fail
    go_ret
    first | exact ⟨rfl, E06.out⟩ | exact ⟨ret_bool (by simp; omega), E06.out⟩
  · skip
    obtain ⟨R, hR⟩ : ∃ R, R = (splF xs).2.length := ⟨_, rfl⟩
    obtain ⟨L, hL⟩ : ∃ L, L = (splF xs).1.length := ⟨_, rfl⟩
    obtain ⟨Q, hQ⟩ : ∃ Q, Q = 1000 - R := ⟨_, rfl⟩
    have HR := Lib.hid hR
    have HL := Lib.hid hL
    have HQ := Lib.hid hQ
    have hbo := splF_bodies xs
    rw [hx.1] at hbo
    have HRl : Hid ((splF xs).2.length ≤ 1000000000) := Lib.hid (by omega)
    have HX := Lib.hid hx
    have Hxb := Lib.hid hxb
    have Herf := Lib.hid he
    have Herd : Hid (erD xs = 0) := Lib.hid (by unfold erD; rw [if_neg (by omega)])
    have Hsto : Hid (stOf xs = ⟨(splF xs).2, (splF xs).1.length, false⟩) := Lib.hid (by unfold stOf; rw [if_neg (by omega)])
    have hR0 : 0 < R := by rw [hR]; exact List.length_pos_iff.2 hr
    have hsh := rdF_short hre
    have hsz := sz_le (splF_mem hxb).1
    have hat : (1000 : Int) - (Q : Int) = (R : Int) := by omega
    have h16 : (R : Int) ≤ 16386 := by omega
    have hq1 : (Q : Int) < (1000 : Int) := by omega
    have hq2 : ((Q : Int) == (1000 : Int)) = false := by simp; omega
    clear he hR hL hQ hbo hx hxb hr hR0 hre hsh hsz
    go_enter Try.func5, Try.ntmps5
    go_wp2_with fail
    refine (awake w).mono ?_; rintro e w1 ⟨rfl, e1⟩
    have E1 := Lib.hid e1
    clear e1
    go_wp2_with fail
    refine (new_ w1).mono ?_; rintro e w2 ⟨sb1, rfl, hst1, e2, lo1⟩
    go_wp2_with fail
    refine (new_ w2).mono ?_; rintro e w3 ⟨sb2, rfl, hst2, e3, lo2⟩
    have hz : w.heap.size ≤ w1.heap.size ∧ w1.heap.size ≤ w2.heap.size ∧ w2.heap.size ≤ w3.heap.size := ⟨E1.out.size, e2.size, e3.size⟩
    have hlt1 := hst1.blk.lt
    have hlt2 := hst2.blk.lt
    have he03 : Ext w w3 := E1.out.t (e2.t e3)
    have E03 := Lib.hid he03
    have HZ : Hid (w.heap.size ≤ sb1 ∧ sb1 < w2.heap.size ∧ w2.heap.size ≤ sb2 ∧ sb2 < w3.heap.size) := Lib.hid ⟨by omega, hlt1, lo2, hlt2⟩
    have HF := Lib.hid (feed_ hst2 A (1000) c xs (HX.out.ext he03) Hxb.out (by show 0 + 1000 ≤ 1000000000; omega) (by simp [fst0]))
    have H1 := Lib.hid (hst1.ext e3)
    clear hst1 hst2 e2 e3 lo1 lo2 hz hlt1 hlt2 he03
    go_wp2_with fail
    refine HF.out.mono ?_; rintro e w4 ⟨Al, nl, cl, ol, s2, f⟩
    have hret := f.ret
    have hf1 := f.stm
    have hf2 := f.lst
    have hf3 : Chg (fun k => k = sb2) w3 w4 := f.chg.mono (fun k _ hk => hk.elim id (fun h => absurd h foot_none))
    have hf4 : ∀ k, stmF sb2 s2 k → k = sb2 ∨ w3.heap.size ≤ k := fun k hk => (f.nb k hk).imp (fun h => h.elim id (fun h => absurd h foot_none)) id
    rw [fd_new] at hret hf1 hf2
    simp only at hret hf1 hf2
    rw [Herd.out] at hret
    subst hret
    have he04 : Ext w w4 := E03.out.trans (hf3.below E03.out.size (fun k hk ht => by have := HZ.out; omega))
    have hs4 : Stm w4 sb1 ⟨none, 0, 0⟩ fst0 := H1.out.chg hf3 (fun k hk ht => hk.elim (fun h => by have := HZ.out; omega) (fun h => absurd h foot_none))
    have hT1 : ∀ k, stmF sb1 ⟨none, 0, 0⟩ k → w.heap.size ≤ k := fun k hk => hk.elim (fun h => by have := HZ.out; omega) (fun h => absurd h foot_none)
    have HP := Lib.hid (played_ w4 sb1 ⟨none, 0, 0⟩ A (1000) c xs C m cc cs hs4 (fun w' ch => HX.out.old he04 ch hT1) Hxb.out hNc (by omega) (fun w' ch => HC.out.rd.old he04 ch hT1) HC.out.lt (Nat.le_trans HC.out.le HC.out.max))
    have E04 := Lib.hid he04
    have Hf1 := Lib.hid hf1
    have Hf2 := Lib.hid hf2
    have Hf4 := Lib.hid hf4
    have HT1 := Lib.hid hT1
    have hz4 := hf3.size
    have Hz4 := Lib.hid hz4
    clear f hf1 hf2 hf3 hf4 he04 hs4 hT1 HF H1 hz4
    go_wp2_with fail
    refine HP.out.mono ?_; rintro e w5 ⟨Ao, no, co, os, s1, rfl, p⟩
    rw [Herd.out]
    have ch5 : Chg (fun k => k = sb1) w4 w5 := p.chg.mono (fun k _ hk => hk.elim id (fun h => absurd h foot_none))
    have he05 : Ext w w5 := E04.out.trans (ch5.below E04.out.size (fun k hk ht => by have := HZ.out; omega))
    have hst2 : Stm w5 sb2 s2 (stOf xs) := Hf1.out.chg ch5 (fun k hk ht => by have := HZ.out; rcases Hf4.out k hk with h | h <;> omega)
    have hl2 : Lst w3.heap.size w5 Al nl cl ol (splF xs).1 := Hf2.out.chg ch5 (fun k hk ht => by have := HZ.out; have := Hf2.out.new k hk; omega)
    have hst1 := p.stm
    have hl1 := p.lst
    have HSp := Lib.hid (split_ A (1000) c xs w5 (HX.out.ext he05) Hxb.out hNc hc2 (by omega))
    unfold SplitP at HSp
    rw [HX.out.1, ← HR.out, Herf.out, ← HQ.out] at HSp
    have E05 := Lib.hid he05
    have Hst2 := Lib.hid hst2
    have Hst1 := Lib.hid hst1
    have Hl1 := Lib.hid hl1
    have Hl2 := Lib.hid hl2
    clear p ch5 he05 hst2 hst1 hl2 hl1 HP Hf1 Hf2 Hf4 E04
    go_wp2_with fail
    refine HSp.out.mono ?_; rintro e w6 ⟨As, ns, cs6, oz, rfl, hls, e6⟩
    have hl1 := Hl1.out.ext e6
    have hl2 := Hl2.out.ext e6
    have hQ1 := equal_ Al As nl ns cl cs6 ol oz _ _ w6 hl2.rd (Reads.of hl2.byt) hls.rd (Reads.of hls.byt) hl2.le hls.le
    have hQ2 := equal_ Ao As no ns co cs6 os oz _ _ w6 hl1.rd (Reads.of hl1.byt) hls.rd (Reads.of hls.byt) hl1.le hls.le
    rw [decide_eq_true (rfl : (splF xs).1 = (splF xs).1)] at hQ1 hQ2
    have hs1 := Hst1.out.ext e6
    have hs2 := Hst2.out.ext e6
    rw [Hsto.out] at hs1 hs2
    obtain rfl : ns = L := by rw [hls.n_]; exact HL.out.symm
    have HQ1 := Lib.hid hQ1
    have HQ2 := Lib.hid hQ2
    have HH1 := Lib.hid (held_ hs1)
    have HH2 := Lib.hid (held_ hs2)
    have HN1 := Lib.hid (need2_ hs1 (by first | exact HRl.out | simp))
    have HN2 := Lib.hid (need2_ hs2 (by first | exact HRl.out | simp))
    have HFr1 := Lib.hid (frames2_ hs1)
    have HFr2 := Lib.hid (frames2_ hs2)
    have HD1 := Lib.hid (dead_ hs1)
    have HD2 := Lib.hid (dead_ hs2)
    have E06 := Lib.hid (E05.out.t e6)
    simp only at HH1 HH2 HFr1 HFr2 HD1 HD2
    rw [← HL.out] at HFr1 HFr2; rw [← HR.out] at HH1 HH2
    generalize tlF _ = tl at HN1 HN2
    clear hQ1 hQ2 hs1 hs2 hl1 hl2 hls e6
    go_wp2_with fail
    refine HQ1.out.mono ?_; rintro e w7 ⟨rfl, rfl⟩
    go_wp2_with fail
    refine HQ2.out.mono ?_; rintro e w7 ⟨rfl, rfl⟩
    go_wp2_with fail
    refine HH1.out.mono ?_; rintro e w7 ⟨rfl, rfl⟩
    go_wp2_with fail
    refine HH2.out.mono ?_; rintro e w7 ⟨rfl, rfl⟩
    go_wp2_with fail
    refine HN1.out.mono ?_; rintro e w7 ⟨rfl, rfl⟩
    go_wp2_with fail
    refine HN2.out.mono ?_; rintro e w7 ⟨rfl, rfl⟩
    go_wp2_with fail
    refine HFr1.out.mono ?_; rintro e w7 ⟨rfl, rfl⟩
    go_wp2_with fail
    refine HFr2.out.mono ?_; rintro e w7 ⟨rfl, rfl⟩
    go_wp2_with fail
    refine HD1.out.mono ?_; rintro e w7 ⟨rfl, rfl⟩
    go_wp2_with fail
    refine HD2.out.mono ?_; rintro e w7 ⟨rfl, rfl⟩
    go_wp2_with fail
    refine HD2.out.mono ?_; rintro e w7 ⟨rfl, rfl⟩
    go_wp2_with fail
    refine HH2.out.mono ?_; rintro e w7 ⟨rfl, rfl⟩
    go_wp2_with fail
    refine HH2.out.mono ?_; rintro e w7 ⟨rfl, rfl⟩
    go_wp2_with fail
    go_ret
    first | exact ⟨rfl, E06.out⟩ | exact ⟨ret_bool (by simp; omega), E06.out⟩
  · skip
    obtain ⟨R, hR⟩ : ∃ R, R = (splF xs).2.length := ⟨_, rfl⟩
    obtain ⟨L, hL⟩ : ∃ L, L = (splF xs).1.length := ⟨_, rfl⟩
    obtain ⟨Q, hQ⟩ : ∃ Q, Q = 1000 - R := ⟨_, rfl⟩
    have HR := Lib.hid hR
    have HL := Lib.hid hL
    have HQ := Lib.hid hQ
    have hbo := splF_bodies xs
    rw [hx.1] at hbo
    have HRl : Hid ((splF xs).2.length ≤ 1000000000) := Lib.hid (by omega)
    have HX := Lib.hid hx
    have Hxb := Lib.hid hxb
    have Herf := Lib.hid he
    have Herd : Hid (erD xs = 31) := Lib.hid (by unfold erD; rw [if_pos he])
    have Hsto : Hid (stOf xs = ⟨[], (splF xs).1.length, true⟩) := Lib.hid (by unfold stOf; rw [if_pos he])
    clear he hR hL hQ hbo hx hxb hr hre
    go_enter Try.func5, Try.ntmps5
    go_wp2_with fail
    refine (awake w).mono ?_; rintro e w1 ⟨rfl, e1⟩
    have E1 := Lib.hid e1
    clear e1
    go_wp2_with fail
    refine (new_ w1).mono ?_; rintro e w2 ⟨sb1, rfl, hst1, e2, lo1⟩
    go_wp2_with fail
    refine (new_ w2).mono ?_; rintro e w3 ⟨sb2, rfl, hst2, e3, lo2⟩
    have hz : w.heap.size ≤ w1.heap.size ∧ w1.heap.size ≤ w2.heap.size ∧ w2.heap.size ≤ w3.heap.size := ⟨E1.out.size, e2.size, e3.size⟩
    have hlt1 := hst1.blk.lt
    have hlt2 := hst2.blk.lt
    have he03 : Ext w w3 := E1.out.t (e2.t e3)
    have E03 := Lib.hid he03
    have HZ : Hid (w.heap.size ≤ sb1 ∧ sb1 < w2.heap.size ∧ w2.heap.size ≤ sb2 ∧ sb2 < w3.heap.size) := Lib.hid ⟨by omega, hlt1, lo2, hlt2⟩
    have HF := Lib.hid (feed_ hst2 A (1000) c xs (HX.out.ext he03) Hxb.out (by show 0 + 1000 ≤ 1000000000; omega) (by simp [fst0]))
    have H1 := Lib.hid (hst1.ext e3)
    clear hst1 hst2 e2 e3 lo1 lo2 hz hlt1 hlt2 he03
    go_wp2_with fail
    refine HF.out.mono ?_; rintro e w4 ⟨Al, nl, cl, ol, s2, f⟩
    have hret := f.ret
    have hf1 := f.stm
    have hf2 := f.lst
    have hf3 : Chg (fun k => k = sb2) w3 w4 := f.chg.mono (fun k _ hk => hk.elim id (fun h => absurd h foot_none))
    have hf4 : ∀ k, stmF sb2 s2 k → k = sb2 ∨ w3.heap.size ≤ k := fun k hk => (f.nb k hk).imp (fun h => h.elim id (fun h => absurd h foot_none)) id
    rw [fd_new] at hret hf1 hf2
    simp only at hret hf1 hf2
    rw [Herd.out] at hret
    subst hret
    have he04 : Ext w w4 := E03.out.trans (hf3.below E03.out.size (fun k hk ht => by have := HZ.out; omega))
    have hs4 : Stm w4 sb1 ⟨none, 0, 0⟩ fst0 := H1.out.chg hf3 (fun k hk ht => hk.elim (fun h => by have := HZ.out; omega) (fun h => absurd h foot_none))
    have hT1 : ∀ k, stmF sb1 ⟨none, 0, 0⟩ k → w.heap.size ≤ k := fun k hk => hk.elim (fun h => by have := HZ.out; omega) (fun h => absurd h foot_none)
    have HP := Lib.hid (played_ w4 sb1 ⟨none, 0, 0⟩ A (1000) c xs C m cc cs hs4 (fun w' ch => HX.out.old he04 ch hT1) Hxb.out hNc (by omega) (fun w' ch => HC.out.rd.old he04 ch hT1) HC.out.lt (Nat.le_trans HC.out.le HC.out.max))
    have E04 := Lib.hid he04
    have Hf1 := Lib.hid hf1
    have Hf2 := Lib.hid hf2
    have Hf4 := Lib.hid hf4
    have HT1 := Lib.hid hT1
    have hz4 := hf3.size
    have Hz4 := Lib.hid hz4
    clear f hf1 hf2 hf3 hf4 he04 hs4 hT1 HF H1 hz4
    go_wp2_with fail
    refine HP.out.mono ?_; rintro e w5 ⟨Ao, no, co, os, s1, rfl, p⟩
    rw [Herd.out]
    have ch5 : Chg (fun k => k = sb1) w4 w5 := p.chg.mono (fun k _ hk => hk.elim id (fun h => absurd h foot_none))
    have he05 : Ext w w5 := E04.out.trans (ch5.below E04.out.size (fun k hk ht => by have := HZ.out; omega))
    have hst2 : Stm w5 sb2 s2 (stOf xs) := Hf1.out.chg ch5 (fun k hk ht => by have := HZ.out; rcases Hf4.out k hk with h | h <;> omega)
    have hl2 : Lst w3.heap.size w5 Al nl cl ol (splF xs).1 := Hf2.out.chg ch5 (fun k hk ht => by have := HZ.out; have := Hf2.out.new k hk; omega)
    have hst1 := p.stm
    have hl1 := p.lst
    have HSp := Lib.hid (split_ A (1000) c xs w5 (HX.out.ext he05) Hxb.out hNc hc2 (by omega))
    unfold SplitP at HSp
    rw [HX.out.1, ← HR.out, Herf.out, ← HQ.out] at HSp
    have E05 := Lib.hid he05
    have Hst2 := Lib.hid hst2
    have Hst1 := Lib.hid hst1
    have Hl1 := Lib.hid hl1
    have Hl2 := Lib.hid hl2
    clear p ch5 he05 hst2 hst1 hl2 hl1 HP Hf1 Hf2 Hf4 E04
    go_wp2_with fail
    refine HSp.out.mono ?_; rintro e w6 ⟨As, ns, cs6, oz, rfl, hls, e6⟩
    have hl1 := Hl1.out.ext e6
    have hl2 := Hl2.out.ext e6
    have hQ1 := equal_ Al As nl ns cl cs6 ol oz _ _ w6 hl2.rd (Reads.of hl2.byt) hls.rd (Reads.of hls.byt) hl2.le hls.le
    have hQ2 := equal_ Ao As no ns co cs6 os oz _ _ w6 hl1.rd (Reads.of hl1.byt) hls.rd (Reads.of hls.byt) hl1.le hls.le
    rw [decide_eq_true (rfl : (splF xs).1 = (splF xs).1)] at hQ1 hQ2
    have hs1 := Hst1.out.ext e6
    have hs2 := Hst2.out.ext e6
    rw [Hsto.out] at hs1 hs2
    obtain rfl : ns = L := by rw [hls.n_]; exact HL.out.symm
    have HQ1 := Lib.hid hQ1
    have HQ2 := Lib.hid hQ2
    have HH1 := Lib.hid (held_ hs1)
    have HH2 := Lib.hid (held_ hs2)
    have HN1 := Lib.hid (need2_ hs1 (by first | exact HRl.out | simp))
    have HN2 := Lib.hid (need2_ hs2 (by first | exact HRl.out | simp))
    have HFr1 := Lib.hid (frames2_ hs1)
    have HFr2 := Lib.hid (frames2_ hs2)
    have HD1 := Lib.hid (dead_ hs1)
    have HD2 := Lib.hid (dead_ hs2)
    have E06 := Lib.hid (E05.out.t e6)
    simp only at HH1 HH2 HFr1 HFr2 HD1 HD2
    rw [← HL.out] at HFr1 HFr2; rw [List.length_nil] at HH1 HH2
    generalize tlF _ = tl at HN1 HN2
    clear hQ1 hQ2 hs1 hs2 hl1 hl2 hls e6
    go_wp2_with fail
    refine HQ1.out.mono ?_; rintro e w7 ⟨rfl, rfl⟩
    go_wp2_with fail
    refine HQ2.out.mono ?_; rintro e w7 ⟨rfl, rfl⟩
    go_wp2_with fail
    refine HH1.out.mono ?_; rintro e w7 ⟨rfl, rfl⟩
    go_wp2_with fail
    refine HH2.out.mono ?_; rintro e w7 ⟨rfl, rfl⟩
    go_wp2_with fail
    refine HN1.out.mono ?_; rintro e w7 ⟨rfl, rfl⟩
    go_wp2_with fail
    refine HN2.out.mono ?_; rintro e w7 ⟨rfl, rfl⟩
    go_wp2_with fail
    refine HFr1.out.mono ?_; rintro e w7 ⟨rfl, rfl⟩
    go_wp2_with fail
    refine HFr2.out.mono ?_; rintro e w7 ⟨rfl, rfl⟩
    go_wp2_with fail
    refine HD1.out.mono ?_; rintro e w7 ⟨rfl, rfl⟩
    go_wp2_with fail
    refine HD2.out.mono ?_; rintro e w7 ⟨rfl, rfl⟩
    go_wp2_with fail
    refine HD2.out.mono ?_; rintro e w7 ⟨rfl, rfl⟩
    go_wp2_with fail
    refine HH2.out.mono ?_; rintro e w7 ⟨rfl, rfl⟩
    go_wp2_with fail
    go_ret
    first | exact ⟨rfl, E06.out⟩ | exact ⟨ret_bool (by simp; omega), E06.out⟩
set_option maxRecDepth 100000 in
set_option maxHeartbeats 4000000 in
theorem cuts2 (A : Option Addr) (n c : Nat) (C : Option Addr) (m cc : Nat) (cs xs : List Nat) (w : World) (hx : Rd u8v w A n xs) (hxb : ∀ x ∈ xs, x < 256) (hNc : n ≤ c) (hc2 : c ≤ maxLen) (h' : Arg .u8 256 w C m cc cs) (h1 : n ≤ 1000) (h0 : 0 < n) :
    Calls Try.prog 5 #[.slice A n c, .slice C m cc] w fun e w' => e = .returned (.bool true) ∧ Ext w w' := by
  have hsl := fun w' => u8_toI (A := A) (n := n) (c := c) (hi := n) (li := (n : Int)) w' rfl hNc
  have HC := Lib.hid h'
  have h1' : ¬ (1000 : Int) < (n : Int) := by omega
  have h0' : (0 : Int) < (n : Int) := by omega
  clear h'
  rcases erF_cases xs with ⟨he, hr⟩ | ⟨he, hr, hre⟩ | ⟨he, hr, hre⟩
  · skip
    obtain ⟨R, hR⟩ : ∃ R, R = (splF xs).2.length := ⟨_, rfl⟩
    obtain ⟨L, hL⟩ : ∃ L, L = (splF xs).1.length := ⟨_, rfl⟩
    obtain ⟨Q, hQ⟩ : ∃ Q, Q = n - R := ⟨_, rfl⟩
    have HR := Lib.hid hR
    have HL := Lib.hid hL
    have HQ := Lib.hid hQ
    have hbo := splF_bodies xs
    rw [hx.1] at hbo
    have HRl : Hid ((splF xs).2.length ≤ 1000000000) := Lib.hid (by omega)
    have HX := Lib.hid hx
    have Hxb := Lib.hid hxb
    have Herf := Lib.hid he
    have Herd : Hid (erD xs = 0) := Lib.hid (by unfold erD; rw [if_neg (by omega)])
    have Hsto : Hid (stOf xs = ⟨(splF xs).2, (splF xs).1.length, false⟩) := Lib.hid (by unfold stOf; rw [if_neg (by omega)])
    have hR0 : R = 0 := by rw [hR, hr]; rfl
    have hat : (n : Int) - (Q : Int) = (R : Int) := by omega
    have h16 : (R : Int) ≤ 16386 := by omega
    have hq1 : ¬ (Q : Int) < (n : Int) := by omega
    have hq2 : ((Q : Int) == (n : Int)) = true := by simp; omega
    clear he hR hL hQ hbo hx hxb hr hR0
    go_enter Try.func5, Try.ntmps5
    go_wp2_with fail
    refine (awake w).mono ?_; rintro e w1 ⟨rfl, e1⟩
    have E1 := Lib.hid e1
    clear e1
    go_wp2_with fail
    refine (new_ w1).mono ?_; rintro e w2 ⟨sb1, rfl, hst1, e2, lo1⟩
    go_wp2_with fail
    refine (new_ w2).mono ?_; rintro e w3 ⟨sb2, rfl, hst2, e3, lo2⟩
    have hz : w.heap.size ≤ w1.heap.size ∧ w1.heap.size ≤ w2.heap.size ∧ w2.heap.size ≤ w3.heap.size := ⟨E1.out.size, e2.size, e3.size⟩
    have hlt1 := hst1.blk.lt
    have hlt2 := hst2.blk.lt
    have he03 : Ext w w3 := E1.out.t (e2.t e3)
    have E03 := Lib.hid he03
    have HZ : Hid (w.heap.size ≤ sb1 ∧ sb1 < w2.heap.size ∧ w2.heap.size ≤ sb2 ∧ sb2 < w3.heap.size) := Lib.hid ⟨by omega, hlt1, lo2, hlt2⟩
    have HF := Lib.hid (feed_ hst2 A (n) c xs (HX.out.ext he03) Hxb.out (by show 0 + n ≤ 1000000000; omega) (by simp [fst0]))
    have H1 := Lib.hid (hst1.ext e3)
    clear hst1 hst2 e2 e3 lo1 lo2 hz hlt1 hlt2 he03
    go_wp2_with fail
    refine HF.out.mono ?_; rintro e w4 ⟨Al, nl, cl, ol, s2, f⟩
    have hret := f.ret
    have hf1 := f.stm
    have hf2 := f.lst
    have hf3 : Chg (fun k => k = sb2) w3 w4 := f.chg.mono (fun k _ hk => hk.elim id (fun h => absurd h foot_none))
    have hf4 : ∀ k, stmF sb2 s2 k → k = sb2 ∨ w3.heap.size ≤ k := fun k hk => (f.nb k hk).imp (fun h => h.elim id (fun h => absurd h foot_none)) id
    rw [fd_new] at hret hf1 hf2
    simp only at hret hf1 hf2
    rw [Herd.out] at hret
    subst hret
    have he04 : Ext w w4 := E03.out.trans (hf3.below E03.out.size (fun k hk ht => by have := HZ.out; omega))
    have hs4 : Stm w4 sb1 ⟨none, 0, 0⟩ fst0 := H1.out.chg hf3 (fun k hk ht => hk.elim (fun h => by have := HZ.out; omega) (fun h => absurd h foot_none))
    have hT1 : ∀ k, stmF sb1 ⟨none, 0, 0⟩ k → w.heap.size ≤ k := fun k hk => hk.elim (fun h => by have := HZ.out; omega) (fun h => absurd h foot_none)
    have HP := Lib.hid (played_ w4 sb1 ⟨none, 0, 0⟩ A (n) c xs C m cc cs hs4 (fun w' ch => HX.out.old he04 ch hT1) Hxb.out hNc (by omega) (fun w' ch => HC.out.rd.old he04 ch hT1) HC.out.lt (Nat.le_trans HC.out.le HC.out.max))
    have E04 := Lib.hid he04
    have Hf1 := Lib.hid hf1
    have Hf2 := Lib.hid hf2
    have Hf4 := Lib.hid hf4
    have HT1 := Lib.hid hT1
    have hz4 := hf3.size
    have Hz4 := Lib.hid hz4
    clear f hf1 hf2 hf3 hf4 he04 hs4 hT1 HF H1 hz4
    go_wp2_with fail
    refine HP.out.mono ?_; rintro e w5 ⟨Ao, no, co, os, s1, rfl, p⟩
    rw [Herd.out]
    have ch5 : Chg (fun k => k = sb1) w4 w5 := p.chg.mono (fun k _ hk => hk.elim id (fun h => absurd h foot_none))
    have he05 : Ext w w5 := E04.out.trans (ch5.below E04.out.size (fun k hk ht => by have := HZ.out; omega))
    have hst2 : Stm w5 sb2 s2 (stOf xs) := Hf1.out.chg ch5 (fun k hk ht => by have := HZ.out; rcases Hf4.out k hk with h | h <;> omega)
    have hl2 : Lst w3.heap.size w5 Al nl cl ol (splF xs).1 := Hf2.out.chg ch5 (fun k hk ht => by have := HZ.out; have := Hf2.out.new k hk; omega)
    have hst1 := p.stm
    have hl1 := p.lst
    have HSp := Lib.hid (split_ A (n) c xs w5 (HX.out.ext he05) Hxb.out hNc hc2 (by omega))
    unfold SplitP at HSp
    rw [HX.out.1, ← HR.out, Herf.out, ← HQ.out] at HSp
    have E05 := Lib.hid he05
    have Hst2 := Lib.hid hst2
    have Hst1 := Lib.hid hst1
    have Hl1 := Lib.hid hl1
    have Hl2 := Lib.hid hl2
    clear p ch5 he05 hst2 hst1 hl2 hl1 HP Hf1 Hf2 Hf4 E04
    go_wp2_with fail
    refine HSp.out.mono ?_; rintro e w6 ⟨As, ns, cs6, oz, rfl, hls, e6⟩
    have hl1 := Hl1.out.ext e6
    have hl2 := Hl2.out.ext e6
    have hQ1 := equal_ Al As nl ns cl cs6 ol oz _ _ w6 hl2.rd (Reads.of hl2.byt) hls.rd (Reads.of hls.byt) hl2.le hls.le
    have hQ2 := equal_ Ao As no ns co cs6 os oz _ _ w6 hl1.rd (Reads.of hl1.byt) hls.rd (Reads.of hls.byt) hl1.le hls.le
    rw [decide_eq_true (rfl : (splF xs).1 = (splF xs).1)] at hQ1 hQ2
    have hs1 := Hst1.out.ext e6
    have hs2 := Hst2.out.ext e6
    rw [Hsto.out] at hs1 hs2
    obtain rfl : ns = L := by rw [hls.n_]; exact HL.out.symm
    have HQ1 := Lib.hid hQ1
    have HQ2 := Lib.hid hQ2
    have HH1 := Lib.hid (held_ hs1)
    have HH2 := Lib.hid (held_ hs2)
    have HN1 := Lib.hid (need2_ hs1 (by first | exact HRl.out | simp))
    have HN2 := Lib.hid (need2_ hs2 (by first | exact HRl.out | simp))
    have HFr1 := Lib.hid (frames2_ hs1)
    have HFr2 := Lib.hid (frames2_ hs2)
    have HD1 := Lib.hid (dead_ hs1)
    have HD2 := Lib.hid (dead_ hs2)
    have E06 := Lib.hid (E05.out.t e6)
    simp only at HH1 HH2 HFr1 HFr2 HD1 HD2
    rw [← HL.out] at HFr1 HFr2; rw [← HR.out] at HH1 HH2
    generalize tlF _ = tl at HN1 HN2
    clear hQ1 hQ2 hs1 hs2 hl1 hl2 hls e6
    go_wp2_with fail
    refine HQ1.out.mono ?_; rintro e w7 ⟨rfl, rfl⟩
    go_wp2_with fail
    refine HQ2.out.mono ?_; rintro e w7 ⟨rfl, rfl⟩
    go_wp2_with fail
    refine HH1.out.mono ?_; rintro e w7 ⟨rfl, rfl⟩
    go_wp2_with fail
    refine HH2.out.mono ?_; rintro e w7 ⟨rfl, rfl⟩
    go_wp2_with fail
    refine HN1.out.mono ?_; rintro e w7 ⟨rfl, rfl⟩
    go_wp2_with fail
    refine HN2.out.mono ?_; rintro e w7 ⟨rfl, rfl⟩
    go_wp2_with fail
    refine HFr1.out.mono ?_; rintro e w7 ⟨rfl, rfl⟩
    go_wp2_with fail
    refine HFr2.out.mono ?_; rintro e w7 ⟨rfl, rfl⟩
    go_wp2_with fail
    refine HD1.out.mono ?_; rintro e w7 ⟨rfl, rfl⟩
    go_wp2_with fail
    refine HD2.out.mono ?_; rintro e w7 ⟨rfl, rfl⟩
    go_wp2_with fail
    refine HD2.out.mono ?_; rintro e w7 ⟨rfl, rfl⟩
    go_wp2_with fail
    refine HH2.out.mono ?_; rintro e w7 ⟨rfl, rfl⟩
    go_wp2_with fail
    refine HH2.out.mono ?_; rintro e w7 ⟨rfl, rfl⟩
    go_wp2_with fail
    go_ret
    first | exact ⟨rfl, E06.out⟩ | exact ⟨ret_bool (by simp; omega), E06.out⟩
  · skip
    obtain ⟨R, hR⟩ : ∃ R, R = (splF xs).2.length := ⟨_, rfl⟩
    obtain ⟨L, hL⟩ : ∃ L, L = (splF xs).1.length := ⟨_, rfl⟩
    obtain ⟨Q, hQ⟩ : ∃ Q, Q = n - R := ⟨_, rfl⟩
    have HR := Lib.hid hR
    have HL := Lib.hid hL
    have HQ := Lib.hid hQ
    have hbo := splF_bodies xs
    rw [hx.1] at hbo
    have HRl : Hid ((splF xs).2.length ≤ 1000000000) := Lib.hid (by omega)
    have HX := Lib.hid hx
    have Hxb := Lib.hid hxb
    have Herf := Lib.hid he
    have Herd : Hid (erD xs = 0) := Lib.hid (by unfold erD; rw [if_neg (by omega)])
    have Hsto : Hid (stOf xs = ⟨(splF xs).2, (splF xs).1.length, false⟩) := Lib.hid (by unfold stOf; rw [if_neg (by omega)])
    have hR0 : 0 < R := by rw [hR]; exact List.length_pos_iff.2 hr
    have hsh := rdF_short hre
    have hsz := sz_le (splF_mem hxb).1
    have hat : (n : Int) - (Q : Int) = (R : Int) := by omega
    have h16 : (R : Int) ≤ 16386 := by omega
    have hq1 : (Q : Int) < (n : Int) := by omega
    have hq2 : ((Q : Int) == (n : Int)) = false := by simp; omega
    clear he hR hL hQ hbo hx hxb hr hR0 hre hsh hsz
    go_enter Try.func5, Try.ntmps5
    go_wp2_with fail
    refine (awake w).mono ?_; rintro e w1 ⟨rfl, e1⟩
    have E1 := Lib.hid e1
    clear e1
    go_wp2_with fail
    refine (new_ w1).mono ?_; rintro e w2 ⟨sb1, rfl, hst1, e2, lo1⟩
    go_wp2_with fail
    refine (new_ w2).mono ?_; rintro e w3 ⟨sb2, rfl, hst2, e3, lo2⟩
    have hz : w.heap.size ≤ w1.heap.size ∧ w1.heap.size ≤ w2.heap.size ∧ w2.heap.size ≤ w3.heap.size := ⟨E1.out.size, e2.size, e3.size⟩
    have hlt1 := hst1.blk.lt
    have hlt2 := hst2.blk.lt
    have he03 : Ext w w3 := E1.out.t (e2.t e3)
    have E03 := Lib.hid he03
    have HZ : Hid (w.heap.size ≤ sb1 ∧ sb1 < w2.heap.size ∧ w2.heap.size ≤ sb2 ∧ sb2 < w3.heap.size) := Lib.hid ⟨by omega, hlt1, lo2, hlt2⟩
    have HF := Lib.hid (feed_ hst2 A (n) c xs (HX.out.ext he03) Hxb.out (by show 0 + n ≤ 1000000000; omega) (by simp [fst0]))
    have H1 := Lib.hid (hst1.ext e3)
    clear hst1 hst2 e2 e3 lo1 lo2 hz hlt1 hlt2 he03
    go_wp2_with fail
    refine HF.out.mono ?_; rintro e w4 ⟨Al, nl, cl, ol, s2, f⟩
    have hret := f.ret
    have hf1 := f.stm
    have hf2 := f.lst
    have hf3 : Chg (fun k => k = sb2) w3 w4 := f.chg.mono (fun k _ hk => hk.elim id (fun h => absurd h foot_none))
    have hf4 : ∀ k, stmF sb2 s2 k → k = sb2 ∨ w3.heap.size ≤ k := fun k hk => (f.nb k hk).imp (fun h => h.elim id (fun h => absurd h foot_none)) id
    rw [fd_new] at hret hf1 hf2
    simp only at hret hf1 hf2
    rw [Herd.out] at hret
    subst hret
    have he04 : Ext w w4 := E03.out.trans (hf3.below E03.out.size (fun k hk ht => by have := HZ.out; omega))
    have hs4 : Stm w4 sb1 ⟨none, 0, 0⟩ fst0 := H1.out.chg hf3 (fun k hk ht => hk.elim (fun h => by have := HZ.out; omega) (fun h => absurd h foot_none))
    have hT1 : ∀ k, stmF sb1 ⟨none, 0, 0⟩ k → w.heap.size ≤ k := fun k hk => hk.elim (fun h => by have := HZ.out; omega) (fun h => absurd h foot_none)
    have HP := Lib.hid (played_ w4 sb1 ⟨none, 0, 0⟩ A (n) c xs C m cc cs hs4 (fun w' ch => HX.out.old he04 ch hT1) Hxb.out hNc (by omega) (fun w' ch => HC.out.rd.old he04 ch hT1) HC.out.lt (Nat.le_trans HC.out.le HC.out.max))
    have E04 := Lib.hid he04
    have Hf1 := Lib.hid hf1
    have Hf2 := Lib.hid hf2
    have Hf4 := Lib.hid hf4
    have HT1 := Lib.hid hT1
    have hz4 := hf3.size
    have Hz4 := Lib.hid hz4
    clear f hf1 hf2 hf3 hf4 he04 hs4 hT1 HF H1 hz4
    go_wp2_with fail
    refine HP.out.mono ?_; rintro e w5 ⟨Ao, no, co, os, s1, rfl, p⟩
    rw [Herd.out]
    have ch5 : Chg (fun k => k = sb1) w4 w5 := p.chg.mono (fun k _ hk => hk.elim id (fun h => absurd h foot_none))
    have he05 : Ext w w5 := E04.out.trans (ch5.below E04.out.size (fun k hk ht => by have := HZ.out; omega))
    have hst2 : Stm w5 sb2 s2 (stOf xs) := Hf1.out.chg ch5 (fun k hk ht => by have := HZ.out; rcases Hf4.out k hk with h | h <;> omega)
    have hl2 : Lst w3.heap.size w5 Al nl cl ol (splF xs).1 := Hf2.out.chg ch5 (fun k hk ht => by have := HZ.out; have := Hf2.out.new k hk; omega)
    have hst1 := p.stm
    have hl1 := p.lst
    have HSp := Lib.hid (split_ A (n) c xs w5 (HX.out.ext he05) Hxb.out hNc hc2 (by omega))
    unfold SplitP at HSp
    rw [HX.out.1, ← HR.out, Herf.out, ← HQ.out] at HSp
    have E05 := Lib.hid he05
    have Hst2 := Lib.hid hst2
    have Hst1 := Lib.hid hst1
    have Hl1 := Lib.hid hl1
    have Hl2 := Lib.hid hl2
    clear p ch5 he05 hst2 hst1 hl2 hl1 HP Hf1 Hf2 Hf4 E04
    go_wp2_with fail
    refine HSp.out.mono ?_; rintro e w6 ⟨As, ns, cs6, oz, rfl, hls, e6⟩
    have hl1 := Hl1.out.ext e6
    have hl2 := Hl2.out.ext e6
    have hQ1 := equal_ Al As nl ns cl cs6 ol oz _ _ w6 hl2.rd (Reads.of hl2.byt) hls.rd (Reads.of hls.byt) hl2.le hls.le
    have hQ2 := equal_ Ao As no ns co cs6 os oz _ _ w6 hl1.rd (Reads.of hl1.byt) hls.rd (Reads.of hls.byt) hl1.le hls.le
    rw [decide_eq_true (rfl : (splF xs).1 = (splF xs).1)] at hQ1 hQ2
    have hs1 := Hst1.out.ext e6
    have hs2 := Hst2.out.ext e6
    rw [Hsto.out] at hs1 hs2
    obtain rfl : ns = L := by rw [hls.n_]; exact HL.out.symm
    have HQ1 := Lib.hid hQ1
    have HQ2 := Lib.hid hQ2
    have HH1 := Lib.hid (held_ hs1)
    have HH2 := Lib.hid (held_ hs2)
    have HN1 := Lib.hid (need2_ hs1 (by first | exact HRl.out | simp))
    have HN2 := Lib.hid (need2_ hs2 (by first | exact HRl.out | simp))
    have HFr1 := Lib.hid (frames2_ hs1)
    have HFr2 := Lib.hid (frames2_ hs2)
    have HD1 := Lib.hid (dead_ hs1)
    have HD2 := Lib.hid (dead_ hs2)
    have E06 := Lib.hid (E05.out.t e6)
    simp only at HH1 HH2 HFr1 HFr2 HD1 HD2
    rw [← HL.out] at HFr1 HFr2; rw [← HR.out] at HH1 HH2
    generalize tlF _ = tl at HN1 HN2
    clear hQ1 hQ2 hs1 hs2 hl1 hl2 hls e6
    go_wp2_with fail
    refine HQ1.out.mono ?_; rintro e w7 ⟨rfl, rfl⟩
    go_wp2_with fail
    refine HQ2.out.mono ?_; rintro e w7 ⟨rfl, rfl⟩
    go_wp2_with fail
    refine HH1.out.mono ?_; rintro e w7 ⟨rfl, rfl⟩
    go_wp2_with fail
    refine HH2.out.mono ?_; rintro e w7 ⟨rfl, rfl⟩
    go_wp2_with fail
    refine HN1.out.mono ?_; rintro e w7 ⟨rfl, rfl⟩
    go_wp2_with fail
    refine HN2.out.mono ?_; rintro e w7 ⟨rfl, rfl⟩
    go_wp2_with fail
    refine HFr1.out.mono ?_; rintro e w7 ⟨rfl, rfl⟩
    go_wp2_with fail
    refine HFr2.out.mono ?_; rintro e w7 ⟨rfl, rfl⟩
    go_wp2_with fail
    refine HD1.out.mono ?_; rintro e w7 ⟨rfl, rfl⟩
    go_wp2_with fail
    refine HD2.out.mono ?_; rintro e w7 ⟨rfl, rfl⟩
    go_wp2_with fail
    refine HD2.out.mono ?_; rintro e w7 ⟨rfl, rfl⟩
    go_wp2_with fail
    refine HH2.out.mono ?_; rintro e w7 ⟨rfl, rfl⟩
    go_wp2_with fail
    refine HH2.out.mono ?_; rintro e w7 ⟨rfl, rfl⟩
    go_wp2_with fail
    go_ret
    first | exact ⟨rfl, E06.out⟩ | exact ⟨ret_bool (by simp; omega), E06.out⟩
  · skip
    obtain ⟨R, hR⟩ : ∃ R, R = (splF xs).2.length := ⟨_, rfl⟩
    obtain ⟨L, hL⟩ : ∃ L, L = (splF xs).1.length := ⟨_, rfl⟩
    obtain ⟨Q, hQ⟩ : ∃ Q, Q = n - R := ⟨_, rfl⟩
    have HR := Lib.hid hR
    have HL := Lib.hid hL
    have HQ := Lib.hid hQ
    have hbo := splF_bodies xs
    rw [hx.1] at hbo
    have HRl : Hid ((splF xs).2.length ≤ 1000000000) := Lib.hid (by omega)
    have HX := Lib.hid hx
    have Hxb := Lib.hid hxb
    have Herf := Lib.hid he
    have Herd : Hid (erD xs = 31) := Lib.hid (by unfold erD; rw [if_pos he])
    have Hsto : Hid (stOf xs = ⟨[], (splF xs).1.length, true⟩) := Lib.hid (by unfold stOf; rw [if_pos he])
    clear he hR hL hQ hbo hx hxb hr hre
    go_enter Try.func5, Try.ntmps5
    go_wp2_with fail
    refine (awake w).mono ?_; rintro e w1 ⟨rfl, e1⟩
    have E1 := Lib.hid e1
    clear e1
    go_wp2_with fail
    refine (new_ w1).mono ?_; rintro e w2 ⟨sb1, rfl, hst1, e2, lo1⟩
    go_wp2_with fail
    refine (new_ w2).mono ?_; rintro e w3 ⟨sb2, rfl, hst2, e3, lo2⟩
    have hz : w.heap.size ≤ w1.heap.size ∧ w1.heap.size ≤ w2.heap.size ∧ w2.heap.size ≤ w3.heap.size := ⟨E1.out.size, e2.size, e3.size⟩
    have hlt1 := hst1.blk.lt
    have hlt2 := hst2.blk.lt
    have he03 : Ext w w3 := E1.out.t (e2.t e3)
    have E03 := Lib.hid he03
    have HZ : Hid (w.heap.size ≤ sb1 ∧ sb1 < w2.heap.size ∧ w2.heap.size ≤ sb2 ∧ sb2 < w3.heap.size) := Lib.hid ⟨by omega, hlt1, lo2, hlt2⟩
    have HF := Lib.hid (feed_ hst2 A (n) c xs (HX.out.ext he03) Hxb.out (by show 0 + n ≤ 1000000000; omega) (by simp [fst0]))
    have H1 := Lib.hid (hst1.ext e3)
    clear hst1 hst2 e2 e3 lo1 lo2 hz hlt1 hlt2 he03
    go_wp2_with fail
    refine HF.out.mono ?_; rintro e w4 ⟨Al, nl, cl, ol, s2, f⟩
    have hret := f.ret
    have hf1 := f.stm
    have hf2 := f.lst
    have hf3 : Chg (fun k => k = sb2) w3 w4 := f.chg.mono (fun k _ hk => hk.elim id (fun h => absurd h foot_none))
    have hf4 : ∀ k, stmF sb2 s2 k → k = sb2 ∨ w3.heap.size ≤ k := fun k hk => (f.nb k hk).imp (fun h => h.elim id (fun h => absurd h foot_none)) id
    rw [fd_new] at hret hf1 hf2
    simp only at hret hf1 hf2
    rw [Herd.out] at hret
    subst hret
    have he04 : Ext w w4 := E03.out.trans (hf3.below E03.out.size (fun k hk ht => by have := HZ.out; omega))
    have hs4 : Stm w4 sb1 ⟨none, 0, 0⟩ fst0 := H1.out.chg hf3 (fun k hk ht => hk.elim (fun h => by have := HZ.out; omega) (fun h => absurd h foot_none))
    have hT1 : ∀ k, stmF sb1 ⟨none, 0, 0⟩ k → w.heap.size ≤ k := fun k hk => hk.elim (fun h => by have := HZ.out; omega) (fun h => absurd h foot_none)
    have HP := Lib.hid (played_ w4 sb1 ⟨none, 0, 0⟩ A (n) c xs C m cc cs hs4 (fun w' ch => HX.out.old he04 ch hT1) Hxb.out hNc (by omega) (fun w' ch => HC.out.rd.old he04 ch hT1) HC.out.lt (Nat.le_trans HC.out.le HC.out.max))
    have E04 := Lib.hid he04
    have Hf1 := Lib.hid hf1
    have Hf2 := Lib.hid hf2
    have Hf4 := Lib.hid hf4
    have HT1 := Lib.hid hT1
    have hz4 := hf3.size
    have Hz4 := Lib.hid hz4
    clear f hf1 hf2 hf3 hf4 he04 hs4 hT1 HF H1 hz4
    go_wp2_with fail
    refine HP.out.mono ?_; rintro e w5 ⟨Ao, no, co, os, s1, rfl, p⟩
    rw [Herd.out]
    have ch5 : Chg (fun k => k = sb1) w4 w5 := p.chg.mono (fun k _ hk => hk.elim id (fun h => absurd h foot_none))
    have he05 : Ext w w5 := E04.out.trans (ch5.below E04.out.size (fun k hk ht => by have := HZ.out; omega))
    have hst2 : Stm w5 sb2 s2 (stOf xs) := Hf1.out.chg ch5 (fun k hk ht => by have := HZ.out; rcases Hf4.out k hk with h | h <;> omega)
    have hl2 : Lst w3.heap.size w5 Al nl cl ol (splF xs).1 := Hf2.out.chg ch5 (fun k hk ht => by have := HZ.out; have := Hf2.out.new k hk; omega)
    have hst1 := p.stm
    have hl1 := p.lst
    have HSp := Lib.hid (split_ A (n) c xs w5 (HX.out.ext he05) Hxb.out hNc hc2 (by omega))
    unfold SplitP at HSp
    rw [HX.out.1, ← HR.out, Herf.out, ← HQ.out] at HSp
    have E05 := Lib.hid he05
    have Hst2 := Lib.hid hst2
    have Hst1 := Lib.hid hst1
    have Hl1 := Lib.hid hl1
    have Hl2 := Lib.hid hl2
    clear p ch5 he05 hst2 hst1 hl2 hl1 HP Hf1 Hf2 Hf4 E04
    go_wp2_with fail
    refine HSp.out.mono ?_; rintro e w6 ⟨As, ns, cs6, oz, rfl, hls, e6⟩
    have hl1 := Hl1.out.ext e6
    have hl2 := Hl2.out.ext e6
    have hQ1 := equal_ Al As nl ns cl cs6 ol oz _ _ w6 hl2.rd (Reads.of hl2.byt) hls.rd (Reads.of hls.byt) hl2.le hls.le
    have hQ2 := equal_ Ao As no ns co cs6 os oz _ _ w6 hl1.rd (Reads.of hl1.byt) hls.rd (Reads.of hls.byt) hl1.le hls.le
    rw [decide_eq_true (rfl : (splF xs).1 = (splF xs).1)] at hQ1 hQ2
    have hs1 := Hst1.out.ext e6
    have hs2 := Hst2.out.ext e6
    rw [Hsto.out] at hs1 hs2
    obtain rfl : ns = L := by rw [hls.n_]; exact HL.out.symm
    have HQ1 := Lib.hid hQ1
    have HQ2 := Lib.hid hQ2
    have HH1 := Lib.hid (held_ hs1)
    have HH2 := Lib.hid (held_ hs2)
    have HN1 := Lib.hid (need2_ hs1 (by first | exact HRl.out | simp))
    have HN2 := Lib.hid (need2_ hs2 (by first | exact HRl.out | simp))
    have HFr1 := Lib.hid (frames2_ hs1)
    have HFr2 := Lib.hid (frames2_ hs2)
    have HD1 := Lib.hid (dead_ hs1)
    have HD2 := Lib.hid (dead_ hs2)
    have E06 := Lib.hid (E05.out.t e6)
    simp only at HH1 HH2 HFr1 HFr2 HD1 HD2
    rw [← HL.out] at HFr1 HFr2; rw [List.length_nil] at HH1 HH2
    generalize tlF _ = tl at HN1 HN2
    clear hQ1 hQ2 hs1 hs2 hl1 hl2 hls e6
    go_wp2_with fail
    refine HQ1.out.mono ?_; rintro e w7 ⟨rfl, rfl⟩
    go_wp2_with fail
    refine HQ2.out.mono ?_; rintro e w7 ⟨rfl, rfl⟩
    go_wp2_with fail
    refine HH1.out.mono ?_; rintro e w7 ⟨rfl, rfl⟩
    go_wp2_with fail
    refine HH2.out.mono ?_; rintro e w7 ⟨rfl, rfl⟩
    go_wp2_with fail
    refine HN1.out.mono ?_; rintro e w7 ⟨rfl, rfl⟩
    go_wp2_with fail
    refine HN2.out.mono ?_; rintro e w7 ⟨rfl, rfl⟩
    go_wp2_with fail
    refine HFr1.out.mono ?_; rintro e w7 ⟨rfl, rfl⟩
    go_wp2_with fail
    refine HFr2.out.mono ?_; rintro e w7 ⟨rfl, rfl⟩
    go_wp2_with fail
    refine HD1.out.mono ?_; rintro e w7 ⟨rfl, rfl⟩
    go_wp2_with fail
    refine HD2.out.mono ?_; rintro e w7 ⟨rfl, rfl⟩
    go_wp2_with fail
    refine HD2.out.mono ?_; rintro e w7 ⟨rfl, rfl⟩
    go_wp2_with fail
    refine HH2.out.mono ?_; rintro e w7 ⟨rfl, rfl⟩
    go_wp2_with fail
    go_ret
    first | exact ⟨rfl, E06.out⟩ | exact ⟨ret_bool (by simp; omega), E06.out⟩
set_option maxRecDepth 100000 in
set_option maxHeartbeats 4000000 in
theorem cuts3 (A : Option Addr) (c : Nat) (C : Option Addr) (m cc : Nat) (cs : List Nat) (w : World) (hc2 : c ≤ maxLen) (h' : Arg .u8 256 w C m cc cs) :
    Calls Try.prog 5 #[.slice A 0 c, .slice C m cc] w fun e w' => e = .returned (.bool true) ∧ Ext w w' := by
  have hNc : 0 ≤ c := Nat.zero_le _
  have hsl := fun w' => u8_toI (A := A) (n := 0) (c := c) (hi := 0) (li := 0) w' rfl hNc
  have hx : Rd u8v w A 0 [] := ⟨rfl, fun h => absurd h (by omega)⟩
  obtain ⟨xs, hxs⟩ : ∃ xs : List Nat, xs = [] := ⟨_, rfl⟩
  rw [← hxs] at hx
  have hxb : ∀ x ∈ xs, x < 256 := by rw [hxs]; simp
  have HC := Lib.hid h'
  clear h' hxs
  rcases erF_cases xs with ⟨he, hr⟩ | ⟨he, hr, hre⟩ | ⟨he, hr, hre⟩
  · skip
    obtain ⟨R, hR⟩ : ∃ R, R = (splF xs).2.length := ⟨_, rfl⟩
    obtain ⟨L, hL⟩ : ∃ L, L = (splF xs).1.length := ⟨_, rfl⟩
    obtain ⟨Q, hQ⟩ : ∃ Q, Q = 0 - R := ⟨_, rfl⟩
    have HR := Lib.hid hR
    have HL := Lib.hid hL
    have HQ := Lib.hid hQ
    have hbo := splF_bodies xs
    rw [hx.1] at hbo
    have HRl : Hid ((splF xs).2.length ≤ 1000000000) := Lib.hid (by omega)
    have HX := Lib.hid hx
    have Hxb := Lib.hid hxb
    have Herf := Lib.hid he
    have Herd : Hid (erD xs = 0) := Lib.hid (by unfold erD; rw [if_neg (by omega)])
    have Hsto : Hid (stOf xs = ⟨(splF xs).2, (splF xs).1.length, false⟩) := Lib.hid (by unfold stOf; rw [if_neg (by omega)])
    have hR0 : R = 0 := by rw [hR, hr]; rfl
    have hat : (0 : Int) - (Q : Int) = (R : Int) := by omega
    have h16 : (R : Int) ≤ 16386 := by omega
    have hq1 : ¬ (Q : Int) < (0 : Int) := by omega
    have hq2 : ((Q : Int) == (0 : Int)) = true := by simp; omega
    clear he hR hL hQ hbo hx hxb hr hR0
    go_enter Try.func5, Try.ntmps5
    go_wp2_with fail
    refine (awake w).mono ?_; rintro e w1 ⟨rfl, e1⟩
    have E1 := Lib.hid e1
    clear e1
    go_wp2_with fail
    refine (new_ w1).mono ?_; rintro e w2 ⟨sb1, rfl, hst1, e2, lo1⟩
    go_wp2_with fail
    refine (new_ w2).mono ?_; rintro e w3 ⟨sb2, rfl, hst2, e3, lo2⟩
    have hz : w.heap.size ≤ w1.heap.size ∧ w1.heap.size ≤ w2.heap.size ∧ w2.heap.size ≤ w3.heap.size := ⟨E1.out.size, e2.size, e3.size⟩
    have hlt1 := hst1.blk.lt
    have hlt2 := hst2.blk.lt
    have he03 : Ext w w3 := E1.out.t (e2.t e3)
    have E03 := Lib.hid he03
    have HZ : Hid (w.heap.size ≤ sb1 ∧ sb1 < w2.heap.size ∧ w2.heap.size ≤ sb2 ∧ sb2 < w3.heap.size) := Lib.hid ⟨by omega, hlt1, lo2, hlt2⟩
    have HF := Lib.hid (feed_ hst2 A (0) c xs (HX.out.ext he03) Hxb.out (by show 0 + 0 ≤ 1000000000; omega) (by simp [fst0]))
    have H1 := Lib.hid (hst1.ext e3)
    clear hst1 hst2 e2 e3 lo1 lo2 hz hlt1 hlt2 he03
    go_wp2_with fail
    refine HF.out.mono ?_; rintro e w4 ⟨Al, nl, cl, ol, s2, f⟩
    have hret := f.ret
    have hf1 := f.stm
    have hf2 := f.lst
    have hf3 : Chg (fun k => k = sb2) w3 w4 := f.chg.mono (fun k _ hk => hk.elim id (fun h => absurd h foot_none))
    have hf4 : ∀ k, stmF sb2 s2 k → k = sb2 ∨ w3.heap.size ≤ k := fun k hk => (f.nb k hk).imp (fun h => h.elim id (fun h => absurd h foot_none)) id
    rw [fd_new] at hret hf1 hf2
    simp only at hret hf1 hf2
    rw [Herd.out] at hret
    subst hret
    have he04 : Ext w w4 := E03.out.trans (hf3.below E03.out.size (fun k hk ht => by have := HZ.out; omega))
    have hs4 : Stm w4 sb1 ⟨none, 0, 0⟩ fst0 := H1.out.chg hf3 (fun k hk ht => hk.elim (fun h => by have := HZ.out; omega) (fun h => absurd h foot_none))
    have hT1 : ∀ k, stmF sb1 ⟨none, 0, 0⟩ k → w.heap.size ≤ k := fun k hk => hk.elim (fun h => by have := HZ.out; omega) (fun h => absurd h foot_none)
    have HP := Lib.hid (played_ w4 sb1 ⟨none, 0, 0⟩ A (0) c xs C m cc cs hs4 (fun w' ch => HX.out.old he04 ch hT1) Hxb.out hNc (by omega) (fun w' ch => HC.out.rd.old he04 ch hT1) HC.out.lt (Nat.le_trans HC.out.le HC.out.max))
    have E04 := Lib.hid he04
    have Hf1 := Lib.hid hf1
    have Hf2 := Lib.hid hf2
    have Hf4 := Lib.hid hf4
    have HT1 := Lib.hid hT1
    have hz4 := hf3.size
    have Hz4 := Lib.hid hz4
    clear f hf1 hf2 hf3 hf4 he04 hs4 hT1 HF H1 hz4
    go_wp2_with fail
    refine HP.out.mono ?_; rintro e w5 ⟨Ao, no, co, os, s1, rfl, p⟩
    rw [Herd.out]
    have ch5 : Chg (fun k => k = sb1) w4 w5 := p.chg.mono (fun k _ hk => hk.elim id (fun h => absurd h foot_none))
    have he05 : Ext w w5 := E04.out.trans (ch5.below E04.out.size (fun k hk ht => by have := HZ.out; omega))
    have hst2 : Stm w5 sb2 s2 (stOf xs) := Hf1.out.chg ch5 (fun k hk ht => by have := HZ.out; rcases Hf4.out k hk with h | h <;> omega)
    have hl2 : Lst w3.heap.size w5 Al nl cl ol (splF xs).1 := Hf2.out.chg ch5 (fun k hk ht => by have := HZ.out; have := Hf2.out.new k hk; omega)
    have hst1 := p.stm
    have hl1 := p.lst
    have HSp := Lib.hid (split_ A (0) c xs w5 (HX.out.ext he05) Hxb.out hNc hc2 (by omega))
    unfold SplitP at HSp
    rw [HX.out.1, ← HR.out, Herf.out, ← HQ.out] at HSp
    have E05 := Lib.hid he05
    have Hst2 := Lib.hid hst2
    have Hst1 := Lib.hid hst1
    have Hl1 := Lib.hid hl1
    have Hl2 := Lib.hid hl2
    clear p ch5 he05 hst2 hst1 hl2 hl1 HP Hf1 Hf2 Hf4 E04
    go_wp2_with fail
    refine HSp.out.mono ?_; rintro e w6 ⟨As, ns, cs6, oz, rfl, hls, e6⟩
    have hl1 := Hl1.out.ext e6
    have hl2 := Hl2.out.ext e6
    have hQ1 := equal_ Al As nl ns cl cs6 ol oz _ _ w6 hl2.rd (Reads.of hl2.byt) hls.rd (Reads.of hls.byt) hl2.le hls.le
    have hQ2 := equal_ Ao As no ns co cs6 os oz _ _ w6 hl1.rd (Reads.of hl1.byt) hls.rd (Reads.of hls.byt) hl1.le hls.le
    rw [decide_eq_true (rfl : (splF xs).1 = (splF xs).1)] at hQ1 hQ2
    have hs1 := Hst1.out.ext e6
    have hs2 := Hst2.out.ext e6
    rw [Hsto.out] at hs1 hs2
    obtain rfl : ns = L := by rw [hls.n_]; exact HL.out.symm
    have HQ1 := Lib.hid hQ1
    have HQ2 := Lib.hid hQ2
    have HH1 := Lib.hid (held_ hs1)
    have HH2 := Lib.hid (held_ hs2)
    have HN1 := Lib.hid (need2_ hs1 (by first | exact HRl.out | simp))
    have HN2 := Lib.hid (need2_ hs2 (by first | exact HRl.out | simp))
    have HFr1 := Lib.hid (frames2_ hs1)
    have HFr2 := Lib.hid (frames2_ hs2)
    have HD1 := Lib.hid (dead_ hs1)
    have HD2 := Lib.hid (dead_ hs2)
    have E06 := Lib.hid (E05.out.t e6)
    simp only at HH1 HH2 HFr1 HFr2 HD1 HD2
    rw [← HL.out] at HFr1 HFr2; rw [← HR.out] at HH1 HH2
    generalize tlF _ = tl at HN1 HN2
    clear hQ1 hQ2 hs1 hs2 hl1 hl2 hls e6
    go_wp2_with fail
    refine HQ1.out.mono ?_; rintro e w7 ⟨rfl, rfl⟩
    go_wp2_with fail
    refine HQ2.out.mono ?_; rintro e w7 ⟨rfl, rfl⟩
    go_wp2_with fail
    refine HH1.out.mono ?_; rintro e w7 ⟨rfl, rfl⟩
    go_wp2_with fail
    refine HH2.out.mono ?_; rintro e w7 ⟨rfl, rfl⟩
    go_wp2_with fail
    refine HN1.out.mono ?_; rintro e w7 ⟨rfl, rfl⟩
    go_wp2_with fail
    refine HN2.out.mono ?_; rintro e w7 ⟨rfl, rfl⟩
    go_wp2_with fail
    refine HFr1.out.mono ?_; rintro e w7 ⟨rfl, rfl⟩
    go_wp2_with fail
    refine HFr2.out.mono ?_; rintro e w7 ⟨rfl, rfl⟩
    go_wp2_with fail
    refine HD1.out.mono ?_; rintro e w7 ⟨rfl, rfl⟩
    go_wp2_with fail
    refine HD2.out.mono ?_; rintro e w7 ⟨rfl, rfl⟩
    go_wp2_with fail
    refine HD2.out.mono ?_; rintro e w7 ⟨rfl, rfl⟩
    go_wp2_with fail
    refine HH2.out.mono ?_; rintro e w7 ⟨rfl, rfl⟩
    go_wp2_with fail
    refine HH2.out.mono ?_; rintro e w7 ⟨rfl, rfl⟩
    go_wp2_with fail
    go_ret
    first | exact ⟨rfl, E06.out⟩ | exact ⟨ret_bool (by simp; omega), E06.out⟩
  · skip
    obtain ⟨R, hR⟩ : ∃ R, R = (splF xs).2.length := ⟨_, rfl⟩
    obtain ⟨L, hL⟩ : ∃ L, L = (splF xs).1.length := ⟨_, rfl⟩
    obtain ⟨Q, hQ⟩ : ∃ Q, Q = 0 - R := ⟨_, rfl⟩
    have HR := Lib.hid hR
    have HL := Lib.hid hL
    have HQ := Lib.hid hQ
    have hbo := splF_bodies xs
    rw [hx.1] at hbo
    have HRl : Hid ((splF xs).2.length ≤ 1000000000) := Lib.hid (by omega)
    have HX := Lib.hid hx
    have Hxb := Lib.hid hxb
    have Herf := Lib.hid he
    have Herd : Hid (erD xs = 0) := Lib.hid (by unfold erD; rw [if_neg (by omega)])
    have Hsto : Hid (stOf xs = ⟨(splF xs).2, (splF xs).1.length, false⟩) := Lib.hid (by unfold stOf; rw [if_neg (by omega)])
    have hR0 : 0 < R := by rw [hR]; exact List.length_pos_iff.2 hr
    have hsh := rdF_short hre
    have hsz := sz_le (splF_mem hxb).1
    have hat : (0 : Int) - (Q : Int) = (R : Int) := by omega
    have h16 : (R : Int) ≤ 16386 := by omega
    have hq1 : (Q : Int) < (0 : Int) := by omega
    have hq2 : ((Q : Int) == (0 : Int)) = false := by simp; omega
    clear he hR hL hQ hbo hx hxb hr hR0 hre hsh hsz
    go_enter Try.func5, Try.ntmps5
    go_wp2_with fail
    refine (awake w).mono ?_; rintro e w1 ⟨rfl, e1⟩
    have E1 := Lib.hid e1
    clear e1
    go_wp2_with fail
    refine (new_ w1).mono ?_; rintro e w2 ⟨sb1, rfl, hst1, e2, lo1⟩
    go_wp2_with fail
    refine (new_ w2).mono ?_; rintro e w3 ⟨sb2, rfl, hst2, e3, lo2⟩
    have hz : w.heap.size ≤ w1.heap.size ∧ w1.heap.size ≤ w2.heap.size ∧ w2.heap.size ≤ w3.heap.size := ⟨E1.out.size, e2.size, e3.size⟩
    have hlt1 := hst1.blk.lt
    have hlt2 := hst2.blk.lt
    have he03 : Ext w w3 := E1.out.t (e2.t e3)
    have E03 := Lib.hid he03
    have HZ : Hid (w.heap.size ≤ sb1 ∧ sb1 < w2.heap.size ∧ w2.heap.size ≤ sb2 ∧ sb2 < w3.heap.size) := Lib.hid ⟨by omega, hlt1, lo2, hlt2⟩
    have HF := Lib.hid (feed_ hst2 A (0) c xs (HX.out.ext he03) Hxb.out (by show 0 + 0 ≤ 1000000000; omega) (by simp [fst0]))
    have H1 := Lib.hid (hst1.ext e3)
    clear hst1 hst2 e2 e3 lo1 lo2 hz hlt1 hlt2 he03
    go_wp2_with fail
    refine HF.out.mono ?_; rintro e w4 ⟨Al, nl, cl, ol, s2, f⟩
    have hret := f.ret
    have hf1 := f.stm
    have hf2 := f.lst
    have hf3 : Chg (fun k => k = sb2) w3 w4 := f.chg.mono (fun k _ hk => hk.elim id (fun h => absurd h foot_none))
    have hf4 : ∀ k, stmF sb2 s2 k → k = sb2 ∨ w3.heap.size ≤ k := fun k hk => (f.nb k hk).imp (fun h => h.elim id (fun h => absurd h foot_none)) id
    rw [fd_new] at hret hf1 hf2
    simp only at hret hf1 hf2
    rw [Herd.out] at hret
    subst hret
    have he04 : Ext w w4 := E03.out.trans (hf3.below E03.out.size (fun k hk ht => by have := HZ.out; omega))
    have hs4 : Stm w4 sb1 ⟨none, 0, 0⟩ fst0 := H1.out.chg hf3 (fun k hk ht => hk.elim (fun h => by have := HZ.out; omega) (fun h => absurd h foot_none))
    have hT1 : ∀ k, stmF sb1 ⟨none, 0, 0⟩ k → w.heap.size ≤ k := fun k hk => hk.elim (fun h => by have := HZ.out; omega) (fun h => absurd h foot_none)
    have HP := Lib.hid (played_ w4 sb1 ⟨none, 0, 0⟩ A (0) c xs C m cc cs hs4 (fun w' ch => HX.out.old he04 ch hT1) Hxb.out hNc (by omega) (fun w' ch => HC.out.rd.old he04 ch hT1) HC.out.lt (Nat.le_trans HC.out.le HC.out.max))
    have E04 := Lib.hid he04
    have Hf1 := Lib.hid hf1
    have Hf2 := Lib.hid hf2
    have Hf4 := Lib.hid hf4
    have HT1 := Lib.hid hT1
    have hz4 := hf3.size
    have Hz4 := Lib.hid hz4
    clear f hf1 hf2 hf3 hf4 he04 hs4 hT1 HF H1 hz4
    go_wp2_with fail
    refine HP.out.mono ?_; rintro e w5 ⟨Ao, no, co, os, s1, rfl, p⟩
    rw [Herd.out]
    have ch5 : Chg (fun k => k = sb1) w4 w5 := p.chg.mono (fun k _ hk => hk.elim id (fun h => absurd h foot_none))
    have he05 : Ext w w5 := E04.out.trans (ch5.below E04.out.size (fun k hk ht => by have := HZ.out; omega))
    have hst2 : Stm w5 sb2 s2 (stOf xs) := Hf1.out.chg ch5 (fun k hk ht => by have := HZ.out; rcases Hf4.out k hk with h | h <;> omega)
    have hl2 : Lst w3.heap.size w5 Al nl cl ol (splF xs).1 := Hf2.out.chg ch5 (fun k hk ht => by have := HZ.out; have := Hf2.out.new k hk; omega)
    have hst1 := p.stm
    have hl1 := p.lst
    have HSp := Lib.hid (split_ A (0) c xs w5 (HX.out.ext he05) Hxb.out hNc hc2 (by omega))
    unfold SplitP at HSp
    rw [HX.out.1, ← HR.out, Herf.out, ← HQ.out] at HSp
    have E05 := Lib.hid he05
    have Hst2 := Lib.hid hst2
    have Hst1 := Lib.hid hst1
    have Hl1 := Lib.hid hl1
    have Hl2 := Lib.hid hl2
    clear p ch5 he05 hst2 hst1 hl2 hl1 HP Hf1 Hf2 Hf4 E04
    go_wp2_with fail
    refine HSp.out.mono ?_; rintro e w6 ⟨As, ns, cs6, oz, rfl, hls, e6⟩
    have hl1 := Hl1.out.ext e6
    have hl2 := Hl2.out.ext e6
    have hQ1 := equal_ Al As nl ns cl cs6 ol oz _ _ w6 hl2.rd (Reads.of hl2.byt) hls.rd (Reads.of hls.byt) hl2.le hls.le
    have hQ2 := equal_ Ao As no ns co cs6 os oz _ _ w6 hl1.rd (Reads.of hl1.byt) hls.rd (Reads.of hls.byt) hl1.le hls.le
    rw [decide_eq_true (rfl : (splF xs).1 = (splF xs).1)] at hQ1 hQ2
    have hs1 := Hst1.out.ext e6
    have hs2 := Hst2.out.ext e6
    rw [Hsto.out] at hs1 hs2
    obtain rfl : ns = L := by rw [hls.n_]; exact HL.out.symm
    have HQ1 := Lib.hid hQ1
    have HQ2 := Lib.hid hQ2
    have HH1 := Lib.hid (held_ hs1)
    have HH2 := Lib.hid (held_ hs2)
    have HN1 := Lib.hid (need2_ hs1 (by first | exact HRl.out | simp))
    have HN2 := Lib.hid (need2_ hs2 (by first | exact HRl.out | simp))
    have HFr1 := Lib.hid (frames2_ hs1)
    have HFr2 := Lib.hid (frames2_ hs2)
    have HD1 := Lib.hid (dead_ hs1)
    have HD2 := Lib.hid (dead_ hs2)
    have E06 := Lib.hid (E05.out.t e6)
    simp only at HH1 HH2 HFr1 HFr2 HD1 HD2
    rw [← HL.out] at HFr1 HFr2; rw [← HR.out] at HH1 HH2
    generalize tlF _ = tl at HN1 HN2
    clear hQ1 hQ2 hs1 hs2 hl1 hl2 hls e6
    go_wp2_with fail
    refine HQ1.out.mono ?_; rintro e w7 ⟨rfl, rfl⟩
    go_wp2_with fail
    refine HQ2.out.mono ?_; rintro e w7 ⟨rfl, rfl⟩
    go_wp2_with fail
    refine HH1.out.mono ?_; rintro e w7 ⟨rfl, rfl⟩
    go_wp2_with fail
    refine HH2.out.mono ?_; rintro e w7 ⟨rfl, rfl⟩
    go_wp2_with fail
    refine HN1.out.mono ?_; rintro e w7 ⟨rfl, rfl⟩
    go_wp2_with fail
    refine HN2.out.mono ?_; rintro e w7 ⟨rfl, rfl⟩
    go_wp2_with fail
    refine HFr1.out.mono ?_; rintro e w7 ⟨rfl, rfl⟩
    go_wp2_with fail
    refine HFr2.out.mono ?_; rintro e w7 ⟨rfl, rfl⟩
    go_wp2_with fail
    refine HD1.out.mono ?_; rintro e w7 ⟨rfl, rfl⟩
    go_wp2_with fail
    refine HD2.out.mono ?_; rintro e w7 ⟨rfl, rfl⟩
    go_wp2_with fail
    refine HD2.out.mono ?_; rintro e w7 ⟨rfl, rfl⟩
    go_wp2_with fail
    refine HH2.out.mono ?_; rintro e w7 ⟨rfl, rfl⟩
    go_wp2_with fail
    refine HH2.out.mono ?_; rintro e w7 ⟨rfl, rfl⟩
    go_wp2_with fail
    go_ret
    first | exact ⟨rfl, E06.out⟩ | exact ⟨ret_bool (by simp; omega), E06.out⟩
  · skip
    obtain ⟨R, hR⟩ : ∃ R, R = (splF xs).2.length := ⟨_, rfl⟩
    obtain ⟨L, hL⟩ : ∃ L, L = (splF xs).1.length := ⟨_, rfl⟩
    obtain ⟨Q, hQ⟩ : ∃ Q, Q = 0 - R := ⟨_, rfl⟩
    have HR := Lib.hid hR
    have HL := Lib.hid hL
    have HQ := Lib.hid hQ
    have hbo := splF_bodies xs
    rw [hx.1] at hbo
    have HRl : Hid ((splF xs).2.length ≤ 1000000000) := Lib.hid (by omega)
    have HX := Lib.hid hx
    have Hxb := Lib.hid hxb
    have Herf := Lib.hid he
    have Herd : Hid (erD xs = 31) := Lib.hid (by unfold erD; rw [if_pos he])
    have Hsto : Hid (stOf xs = ⟨[], (splF xs).1.length, true⟩) := Lib.hid (by unfold stOf; rw [if_pos he])
    clear he hR hL hQ hbo hx hxb hr hre
    go_enter Try.func5, Try.ntmps5
    go_wp2_with fail
    refine (awake w).mono ?_; rintro e w1 ⟨rfl, e1⟩
    have E1 := Lib.hid e1
    clear e1
    go_wp2_with fail
    refine (new_ w1).mono ?_; rintro e w2 ⟨sb1, rfl, hst1, e2, lo1⟩
    go_wp2_with fail
    refine (new_ w2).mono ?_; rintro e w3 ⟨sb2, rfl, hst2, e3, lo2⟩
    have hz : w.heap.size ≤ w1.heap.size ∧ w1.heap.size ≤ w2.heap.size ∧ w2.heap.size ≤ w3.heap.size := ⟨E1.out.size, e2.size, e3.size⟩
    have hlt1 := hst1.blk.lt
    have hlt2 := hst2.blk.lt
    have he03 : Ext w w3 := E1.out.t (e2.t e3)
    have E03 := Lib.hid he03
    have HZ : Hid (w.heap.size ≤ sb1 ∧ sb1 < w2.heap.size ∧ w2.heap.size ≤ sb2 ∧ sb2 < w3.heap.size) := Lib.hid ⟨by omega, hlt1, lo2, hlt2⟩
    have HF := Lib.hid (feed_ hst2 A (0) c xs (HX.out.ext he03) Hxb.out (by show 0 + 0 ≤ 1000000000; omega) (by simp [fst0]))
    have H1 := Lib.hid (hst1.ext e3)
    clear hst1 hst2 e2 e3 lo1 lo2 hz hlt1 hlt2 he03
    go_wp2_with fail
    refine HF.out.mono ?_; rintro e w4 ⟨Al, nl, cl, ol, s2, f⟩
    have hret := f.ret
    have hf1 := f.stm
    have hf2 := f.lst
    have hf3 : Chg (fun k => k = sb2) w3 w4 := f.chg.mono (fun k _ hk => hk.elim id (fun h => absurd h foot_none))
    have hf4 : ∀ k, stmF sb2 s2 k → k = sb2 ∨ w3.heap.size ≤ k := fun k hk => (f.nb k hk).imp (fun h => h.elim id (fun h => absurd h foot_none)) id
    rw [fd_new] at hret hf1 hf2
    simp only at hret hf1 hf2
    rw [Herd.out] at hret
    subst hret
    have he04 : Ext w w4 := E03.out.trans (hf3.below E03.out.size (fun k hk ht => by have := HZ.out; omega))
    have hs4 : Stm w4 sb1 ⟨none, 0, 0⟩ fst0 := H1.out.chg hf3 (fun k hk ht => hk.elim (fun h => by have := HZ.out; omega) (fun h => absurd h foot_none))
    have hT1 : ∀ k, stmF sb1 ⟨none, 0, 0⟩ k → w.heap.size ≤ k := fun k hk => hk.elim (fun h => by have := HZ.out; omega) (fun h => absurd h foot_none)
    have HP := Lib.hid (played_ w4 sb1 ⟨none, 0, 0⟩ A (0) c xs C m cc cs hs4 (fun w' ch => HX.out.old he04 ch hT1) Hxb.out hNc (by omega) (fun w' ch => HC.out.rd.old he04 ch hT1) HC.out.lt (Nat.le_trans HC.out.le HC.out.max))
    have E04 := Lib.hid he04
    have Hf1 := Lib.hid hf1
    have Hf2 := Lib.hid hf2
    have Hf4 := Lib.hid hf4
    have HT1 := Lib.hid hT1
    have hz4 := hf3.size
    have Hz4 := Lib.hid hz4
    clear f hf1 hf2 hf3 hf4 he04 hs4 hT1 HF H1 hz4
    go_wp2_with fail
    refine HP.out.mono ?_; rintro e w5 ⟨Ao, no, co, os, s1, rfl, p⟩
    rw [Herd.out]
    have ch5 : Chg (fun k => k = sb1) w4 w5 := p.chg.mono (fun k _ hk => hk.elim id (fun h => absurd h foot_none))
    have he05 : Ext w w5 := E04.out.trans (ch5.below E04.out.size (fun k hk ht => by have := HZ.out; omega))
    have hst2 : Stm w5 sb2 s2 (stOf xs) := Hf1.out.chg ch5 (fun k hk ht => by have := HZ.out; rcases Hf4.out k hk with h | h <;> omega)
    have hl2 : Lst w3.heap.size w5 Al nl cl ol (splF xs).1 := Hf2.out.chg ch5 (fun k hk ht => by have := HZ.out; have := Hf2.out.new k hk; omega)
    have hst1 := p.stm
    have hl1 := p.lst
    have HSp := Lib.hid (split_ A (0) c xs w5 (HX.out.ext he05) Hxb.out hNc hc2 (by omega))
    unfold SplitP at HSp
    rw [HX.out.1, ← HR.out, Herf.out, ← HQ.out] at HSp
    have E05 := Lib.hid he05
    have Hst2 := Lib.hid hst2
    have Hst1 := Lib.hid hst1
    have Hl1 := Lib.hid hl1
    have Hl2 := Lib.hid hl2
    clear p ch5 he05 hst2 hst1 hl2 hl1 HP Hf1 Hf2 Hf4 E04
    go_wp2_with fail
    refine HSp.out.mono ?_; rintro e w6 ⟨As, ns, cs6, oz, rfl, hls, e6⟩
    have hl1 := Hl1.out.ext e6
    have hl2 := Hl2.out.ext e6
    have hQ1 := equal_ Al As nl ns cl cs6 ol oz _ _ w6 hl2.rd (Reads.of hl2.byt) hls.rd (Reads.of hls.byt) hl2.le hls.le
    have hQ2 := equal_ Ao As no ns co cs6 os oz _ _ w6 hl1.rd (Reads.of hl1.byt) hls.rd (Reads.of hls.byt) hl1.le hls.le
    rw [decide_eq_true (rfl : (splF xs).1 = (splF xs).1)] at hQ1 hQ2
    have hs1 := Hst1.out.ext e6
    have hs2 := Hst2.out.ext e6
    rw [Hsto.out] at hs1 hs2
    obtain rfl : ns = L := by rw [hls.n_]; exact HL.out.symm
    have HQ1 := Lib.hid hQ1
    have HQ2 := Lib.hid hQ2
    have HH1 := Lib.hid (held_ hs1)
    have HH2 := Lib.hid (held_ hs2)
    have HN1 := Lib.hid (need2_ hs1 (by first | exact HRl.out | simp))
    have HN2 := Lib.hid (need2_ hs2 (by first | exact HRl.out | simp))
    have HFr1 := Lib.hid (frames2_ hs1)
    have HFr2 := Lib.hid (frames2_ hs2)
    have HD1 := Lib.hid (dead_ hs1)
    have HD2 := Lib.hid (dead_ hs2)
    have E06 := Lib.hid (E05.out.t e6)
    simp only at HH1 HH2 HFr1 HFr2 HD1 HD2
    rw [← HL.out] at HFr1 HFr2; rw [List.length_nil] at HH1 HH2
    generalize tlF _ = tl at HN1 HN2
    clear hQ1 hQ2 hs1 hs2 hl1 hl2 hls e6
    go_wp2_with fail
    refine HQ1.out.mono ?_; rintro e w7 ⟨rfl, rfl⟩
    go_wp2_with fail
    refine HQ2.out.mono ?_; rintro e w7 ⟨rfl, rfl⟩
    go_wp2_with fail
    refine HH1.out.mono ?_; rintro e w7 ⟨rfl, rfl⟩
    go_wp2_with fail
    refine HH2.out.mono ?_; rintro e w7 ⟨rfl, rfl⟩
    go_wp2_with fail
    refine HN1.out.mono ?_; rintro e w7 ⟨rfl, rfl⟩
    go_wp2_with fail
    refine HN2.out.mono ?_; rintro e w7 ⟨rfl, rfl⟩
    go_wp2_with fail
    refine HFr1.out.mono ?_; rintro e w7 ⟨rfl, rfl⟩
    go_wp2_with fail
    refine HFr2.out.mono ?_; rintro e w7 ⟨rfl, rfl⟩
    go_wp2_with fail
    refine HD1.out.mono ?_; rintro e w7 ⟨rfl, rfl⟩
    go_wp2_with fail
    refine HD2.out.mono ?_; rintro e w7 ⟨rfl, rfl⟩
    go_wp2_with fail
    refine HD2.out.mono ?_; rintro e w7 ⟨rfl, rfl⟩
    go_wp2_with fail
    refine HH2.out.mono ?_; rintro e w7 ⟨rfl, rfl⟩
    go_wp2_with fail
    go_ret
    first | exact ⟨rfl, E06.out⟩ | exact ⟨ret_bool (by simp; omega), E06.out⟩
theorem walkFrameCuts (A : Option Addr) (n c : Nat) (b : List Nat) (C : Option Addr) (m cc : Nat) (cs : List Nat) (w : World) (h : Arg .u8 256 w A n c b) (h' : Arg .u8 256 w C m cc cs) :
    Calls Try.prog 5 #[.slice A n c, .slice C m cc] w fun e w' => e = .returned (.bool true) ∧ Ext w w' := by
  by_cases h1 : 1000 < n
  · exact cuts1 A n c C m cc cs (b.take 1000) w (h.rd.take (by omega)) (fun x hx => h.lt x (List.mem_of_mem_take hx)) h.le h.max h' (by omega)
  · by_cases h0 : 0 < n
    · exact cuts2 A n c C m cc cs b w h.rd h.lt h.le h.max h' (by omega) h0
    · obtain rfl : n = 0 := by omega
      exact cuts3 A c C m cc cs w h.max h'
end Go.Proofs.Ytippgnbmilnjbaa
