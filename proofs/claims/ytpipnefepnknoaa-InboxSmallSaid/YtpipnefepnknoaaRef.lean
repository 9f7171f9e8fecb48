/- The reference of chapter 37: what its functions compute. -/
import Derived.Test.YtpipnefepnknoaaFrl
namespace Go.Proofs.Ytpipnefepnknoaa
open Go.RowKit Go.Fx
theorem info_fr : (Try.prog.info? 67).map (fun i => (i.zero, i.size, i.bytes)) = some (some (.agg #[.slice none 0 0, .int .i64 0]), 2, 32) := by kernel_rfl
/-- The pending flag is the rest of the turns. -/
def Flag (st : St) : Prop := st.pend = decide (0 < st.left)
theorem on_done {st : St} {f : List Nat} {fs : List (List Nat)} (outs : List (List Nat)) (hp : st.pend = false) (hw : st.wait = f :: fs) (h0 : needs f = 0) : on st outs = on (stDone st f fs) (outs ++ [f]) := by
  have h1 : on st outs = onL st.wait st outs := by unfold on; rw [if_neg (by rw [hp]; simp)]
  have h2 : on (stDone st f fs) (outs ++ [f]) = onL fs (stDone st f fs) (outs ++ [f]) := by unfold on; rw [if_neg (by simp [stDone])]; rfl
  rw [h1, h2, hw, onL_cons, if_pos h0]
theorem on_pend {st : St} {f : List Nat} {fs : List (List Nat)} (outs : List (List Nat)) (hp : st.pend = false) (hw : st.wait = f :: fs) (h0 : needs f ≠ 0) : on st outs = on (stPend st f fs) outs := by
  have h1 : on st outs = onL st.wait st outs := by unfold on; rw [if_neg (by rw [hp]; simp)]
  have h2 : on (stPend st f fs) outs = (stPend st f fs, outs) := by unfold on; rw [if_pos (by simp [stPend])]
  rw [h1, h2, hw, onL_cons, if_neg h0]
theorem on_idle {st : St} (outs : List (List Nat)) (hw : st.wait = []) : on st outs = (st, outs) := by
  unfold on
  by_cases hp : st.pend = true
  · rw [if_pos hp]
  · rw [if_neg hp, hw]
    show ({ st with wait := [] }, outs) = (st, outs)
    rw [← hw]
theorem on_busy {st : St} (outs : List (List Nat)) (hp : st.pend = true) : on st outs = (st, outs) := by unfold on; rw [if_pos hp]
/-- A list of responses of the reference's. -/
structure RefL (wb w : World) (A : Option Addr) (n c : Nat) (os : List Sl) (outs : List (List Nat)) : Prop where
  rd : Rd slv w A n os
  reads : Reads wb os outs
  le : n ≤ c
  max : c ≤ maxLen
theorem RefL.ext {wb w w' : World} {A : Option Addr} {n c : Nat} {os : List Sl} {outs : List (List Nat)} (h : RefL wb w A n c os outs) (e : Ext w w') : RefL wb w' A n c os outs := ⟨h.rd.ext e, h.reads, h.le, h.max⟩
theorem RefL.chg {T : Nat → Prop} {wb w w' : World} {A : Option Addr} {n c : Nat} {os : List Sl} {outs : List (List Nat)} (h : RefL wb w A n c os outs) (ch : Chg T w w') (hT : ∀ k, rowF A n k → ¬ T k) : RefL wb w' A n c os outs := ⟨h.rd.chg ch (fun k o hA h0 => hT k ⟨h0, o, hA⟩), h.reads, h.le, h.max⟩
theorem RefL.n_ {wb w : World} {A : Option Addr} {n c : Nat} {os : List Sl} {outs : List (List Nat)} (h : RefL wb w A n c os outs) : n = outs.length := by rw [← h.rd.1, h.reads.len]
theorem RefL.nil {wb w : World} : RefL wb w none 0 0 [] [] := ⟨⟨rfl, fun h => absurd h (by omega)⟩, Reads.nil, Nat.le_refl _, by simp [maxLen]⟩
/-- What a function of the reference returns (TW, TL: the blocks that the state's list, and the responses', may lie in, besides new ones). -/
def RefP (wb w : World) (TW TL : Nat → Prop) (res : St × List (List Nat)) (e : Ending) (w' : World) : Prop :=
  ∃ W P pn fs A n c os, e = .returned (.tuple #[refV W P pn res.1.left res.1.put res.1.ans res.1.turns res.1.idle, .slice A n c]) ∧ RefOk wb w' W P fs res.1 ∧ RefL wb w' A n c os res.2 ∧ Ext w w' ∧ (∀ k, rowF W.A W.n k → TW k) ∧ (∀ k, rowF A n k → TL k)
def refN : Option Value → Nat
  | some (.slice _ n _) => n
  | _ => 0
def zeroC : Array Value := #[.slice none 0 0, .slice none 0 0, .int .i64 0, .int .i64 0, .int .i64 0, .int .i64 0, .int .i64 0, .int .i64 0]
/-- What holds between two rounds (the state's box, the result's box; all else lies in the world of the call, or is new). -/
def RefJ (wb w : World) (g : Nat) (W0 : Sl) (A0 : Option Addr) (n0 : Nat) (res : St × List (List Nat)) (wr : World) (A : Option Addr) (n c : Nat) : Prop :=
  ∃ W P pn fs st os outs, Blk wr g 69 (refC W P pn st.left st.put st.ans st.turns st.idle) ∧ Blk wr (g + 1) 69 zeroC ∧ RefOk wb w W P fs st ∧
    Rd slv wr A n os ∧ (∀ k, rowF A n k → rowF A0 n0 k ∧ k < g ∨ g + 2 ≤ k) ∧ Reads wb os outs ∧ n ≤ c ∧ c ≤ maxLen ∧ Flag st ∧ on st outs = res ∧ st.ans + st.wait.length ≤ 100000000 ∧ outs.length + st.wait.length ≤ 100000000 ∧ Ext w wr ∧ (∀ k, rowF W.A W.n k → rowF W0.A W0.n k)
theorem news1 {w : World} {g : Nat} {t : TypeId} {v : Value} (hb : Blk w g t #[v]) : ∀ (j : Nat) (u : Value), [v][j]? = some u → w.cell? ((⟨g, 0, none⟩ : Addr).add j) = some u := fun j u hu => by
  obtain ⟨hj, e⟩ := List.getElem?_eq_some_iff.1 hu
  simp at hj
  subst hj
  rw [Addr.add_lit, Nat.zero_add, hb.cell]
  simpa using e
theorem flag_pend {st : St} {f : List Nat} {fs : List (List Nat)} (h0 : needs f ≠ 0) : Flag (stPend st f fs) := by
  show true = decide (0 < needs f)
  exact (decide_eq_true (by omega)).symm
theorem bnd_pend {st : St} {f : List Nat} {fs : List (List Nat)} (hw : st.wait = f :: fs) (h : st.ans + st.wait.length ≤ 100000000) : (stPend st f fs).ans + (stPend st f fs).wait.length ≤ 100000000 := by
  rw [hw, List.length_cons] at h
  show st.ans + fs.length ≤ _
  omega
theorem bnd_done {st : St} {f : List Nat} {fs : List (List Nat)} (hw : st.wait = f :: fs) (h : st.ans + st.wait.length ≤ 100000000) : (stDone st f fs).ans + (stDone st f fs).wait.length ≤ 100000000 := by
  rw [hw, List.length_cons] at h
  show st.ans + 1 + fs.length ≤ _
  omega
theorem bnd2 {st : St} {f : List Nat} {fs outs : List (List Nat)} (hw : st.wait = f :: fs) (h : outs.length + st.wait.length ≤ 100000000) : outs.length + fs.length ≤ 100000000 := by
  rw [hw, List.length_cons] at h
  omega
theorem bnd3 {st : St} {f : List Nat} {fs outs : List (List Nat)} (hw : st.wait = f :: fs) (h : outs.length + st.wait.length ≤ 100000000) : (outs ++ [f]).length + fs.length ≤ 100000000 := by
  rw [hw, List.length_cons] at h
  rw [List.length_append]; simp; omega
set_option maxRecDepth 100000 in
set_option maxHeartbeats 4000000 in
theorem ref_on (wb w : World) (W P : Sl) (pn : Int) (fs : List Fr) (st : St) (A : Option Addr) (n c : Nat) (os : List Sl) (outs : List (List Nat)) (hk : RefOk wb w W P fs st) (hl : RefL wb w A n c os outs) (hfl : Flag st) (ha : st.ans + st.wait.length ≤ 100000000) (hn : outs.length + st.wait.length ≤ 100000000) :
    Calls Try.prog 36 #[refV W P pn st.left st.put st.ans st.turns st.idle, .slice A n c] w (RefP wb w (rowF W.A W.n) (fun k => rowF A n k ∨ w.heap.size ≤ k) (on st outs)) := by
  obtain ⟨res, hres⟩ : ∃ res, res = on st outs := ⟨_, rfl⟩
  rw [← hres]
  have Hres := Lib.hid hres
  have HK := Lib.hid hk
  have HL := Lib.hid hl
  have Hfl := Lib.hid hfl
  have Hb := Lib.hid (And.intro ha hn)
  clear hk hl hfl ha hn hres
  unfold refV
  go_enter Try.func36, Try.ntmps36
  go_wp2_with fail
  have hb1 := (Blk.new w 69 (refC W P pn st.left st.put st.ans st.turns st.idle)).alloc (.cells zeroC 69)
  have hb2 := Blk.new (w.alloc (.cells (refC W P pn st.left st.put st.ans st.turns st.idle) 69)) 69 zeroC
  have he := (Ext.alloc w (.cells (refC W P pn st.left st.put st.ans st.turns st.idle) 69)).t (Ext.alloc _ (.cells zeroC 69))
  rw [World.size_alloc] at hb2
  unfold refC zeroC at hb1 hb2 he
  generalize (w.alloc (.cells #[.slice W.A W.n W.c, .slice P.A P.n P.c, .int .i64 pn, .int .i64 (st.left : Int), .int .i64 (st.put : Int), .int .i64 (st.ans : Int), .int .i64 (st.turns : Int), .int .i64 (st.idle : Int)] 69)).alloc (.cells #[.slice none 0 0, .slice none 0 0, .int .i64 0, .int .i64 0, .int .i64 0, .int .i64 0, .int .i64 0, .int .i64 0] 69) = W1 at hb1 hb2 he ⊢
  have H0 : Hid (RefJ wb w w.heap.size W A n res W1 A n c) := Lib.hid ⟨W, P, pn, fs, st, os, outs, hb1, hb2, HK.out, HL.out.rd.ext he, fun k hk => .inl ⟨hk, rd_lt HL.out.rd hk⟩, HL.out.reads, HL.out.le, HL.out.max, Hfl.out, Hres.out.symm, Hb.out.1, Hb.out.2, he, fun _ hk => hk⟩
  have Hg := Lib.hid (Nat.le_refl w.heap.size)
  obtain ⟨g, hg⟩ : ∃ g, w.heap.size = g := ⟨_, rfl⟩
  rw [hg] at H0 Hg ⊢
  have Hgs := Lib.hid hg
  clear hb1 hb2 he HK HL Hfl Hres Hb hg
  go_loopw [1] (fun v wr => ∃ (A' : Option Addr) (n' c' : Nat), v = .slice A' n' c' ∧ Hid (RefJ wb w g W A n res wr A' n' c')) (fun _ wr => refN (wr.cell? ⟨g, 0, none⟩))
  case atStart => exact ⟨A, n, c, rfl, H0⟩
  case round =>
    clear H0
    obtain ⟨A', n', c', rfl, H⟩ := hrel
    obtain ⟨W', P', pn', fs', st', os', outs', hb, hb2, hk, hrd, hne, hry, hle, hmx, hfl, hres, ha, hn, he, hwf⟩ := H.out
    unfold refC at hb
    obtain ⟨x0, x1, x2, x3, x4, x5, x6, x7⟩ := hb.c8
    obtain ⟨z0, z1, z2, z3, z4, z5, z6, z7⟩ := hb.f8
    by_cases hl0 : st'.left = 0
    · cases hw : st'.wait with
      | nil =>
        have hz : W'.n = 0 := by
          have h1 := hk.frl.len
          have := congrArg List.length hk.wait
          rw [hw] at this; simp at this; rw [← h1, this]; rfl
        have hpos : ¬ (0 : Int) < (W'.n : Int) := by omega
        have hre : res = (st', outs') := by rw [← hres, on_idle _ hw]
        have hq : ((((st'.left : Nat) : Int)) == 0) = true := by rw [hl0]; rfl
        clear hz hw hl0 hres
        unfold zeroC at hb2
        obtain ⟨u0, u1, u2, u3, u4, u5, u6, u7⟩ := hb2.c8
        obtain ⟨v0, v1, v2, v3, v4, v5, v6, v7⟩ := hb2.f8
        subst hre
        go_wp2_with fail
        obtain ⟨hb8, hch8⟩ := hb2.all8 (.slice W'.A W'.n W'.c) (.slice P'.A P'.n P'.c) (.int .i64 pn') (.int .i64 (st'.left : Int)) (.int .i64 (st'.put : Int)) (.int .i64 (st'.ans : Int)) (.int .i64 (st'.turns : Int)) (.int .i64 (st'.idle : Int))
        generalize ((((((((wr.setCell ⟨g + 1, 0, none⟩ (.slice W'.A W'.n W'.c)).setCell ⟨g + 1, 1, none⟩ (.slice P'.A P'.n P'.c)).setCell ⟨g + 1, 2, none⟩ (.int .i64 pn')).setCell ⟨g + 1, 3, none⟩ (.int .i64 (st'.left : Int))).setCell ⟨g + 1, 4, none⟩ (.int .i64 (st'.put : Int))).setCell ⟨g + 1, 5, none⟩ (.int .i64 (st'.ans : Int))).setCell ⟨g + 1, 6, none⟩ (.int .i64 (st'.turns : Int))).setCell ⟨g + 1, 7, none⟩ (.int .i64 (st'.idle : Int))) = W8 at hb8 hch8 ⊢
        obtain ⟨t0, t1, t2, t3, t4, t5, t6, t7⟩ := hb8.c8
        have he8 : Ext w W8 := he.trans (hch8.below he.size (fun k hk e => by have := Hgs.out; omega))
        refine bodyPost_ret (v := .tuple #[.agg #[.slice W'.A W'.n W'.c, .slice P'.A P'.n P'.c, .int .i64 pn', .int .i64 (st'.left : Int), .int .i64 (st'.put : Int), .int .i64 (st'.ans : Int), .int .i64 (st'.turns : Int), .int .i64 (st'.idle : Int)], .slice A' n' c']) ?_ rfl ?_
        · simp [results, Try.results36, go_sem, t0, t1, t2, t3, t4, t5, t6, t7]
        · exact ⟨W', P', pn', fs', A', n', c', os', rfl, hk.ext he8, ⟨hrd.chg hch8 (fun k o hA h0 e => (hne k ⟨h0, o, hA⟩).elim (fun h => by omega) (fun h => by omega)), hry, hle, hmx⟩, he8, hwf, fun k hk => (hne k hk).elim (fun h => .inl h.1) (fun h => .inr (by have := Hgs.out; omega))⟩
      | cons f rest =>
        rw [hl0] at hb x3
        have hq : (((0 : Nat) : Int) == 0) = true := rfl
        have hfl2 := hk.frl.len
        have hwl : fs'.length = rest.length + 1 := by
          have := congrArg List.length hk.wait
          rw [hw] at this; simpa using this
        have hpos : (0 : Int) < (W'.n : Int) := by omega
        have hone : (1 : Int) ≤ (W'.n : Int) := by omega
        obtain ⟨b, o, p, hA, hbl, hp, hc0, hc1⟩ := (hk.frl.ext he).get (k := 0) (by omega)
        obtain ⟨ps, hps⟩ : ∃ ps, fs' = p :: ps := by
          cases fs' with
          | nil => cases hp
          | cons q ps => cases hp; exact ⟨ps, rfl⟩
        have hpf : p.2 = f ∧ ps.map (·.2) = rest := by
          have := hk.wait
          rw [hps, hw] at this
          simpa using this
        unfold slv at hc0
        simp only [Nat.zero_mul, Nat.add_zero] at hc0 hc1
        rw [hA] at hb x0
        have hfr := hk.frl
        rw [hA, hps] at hfr
        have hcle := hk.le
        have hcl : (W'.n : Int) ≤ (W'.c : Int) := by omega
        have hpend : st'.pend = false := by have := hfl; unfold Flag at this; rw [this, hl0]; simp
        have hfcur := hk.rds p (by rw [hps]; simp)
        have hmxW := hk.max
        have hans : st'.ans ≤ 100000000 := by omega
        have hlen : outs'.length = n' := by have := hry.len; have := hrd.1; omega
        have hn1 : n' + 1 ≤ 100000000 := by rw [hw] at hn; simp at hn; omega
        have hgz : w.heap.size = g := Hgs.out
        have hrd2 : (∀ x ∈ p.2, x < 256) := hfcur.2
        have hst1 : ∀ F : Sl, FrL w F.A F.n ps → F.n ≤ F.c → F.c ≤ maxLen → needs f ≠ 0 → RefOk wb w F p.1 ps (stPend st' f rest) := fun F h1 h2 h3 _ => ⟨h1, h2, h3, hpf.2, fun q hq => hk.rds q (by rw [hps]; simp [hq]), by have := hfcur; rw [hpf.1] at this; exact this⟩
        have hst2 : ∀ F : Sl, FrL w F.A F.n ps → F.n ≤ F.c → F.c ≤ maxLen → RefOk wb w F p.1 ps (stDone st' f rest) := fun F h1 h2 h3 => ⟨h1, h2, h3, hpf.2, fun q hq => hk.rds q (by rw [hps]; simp [hq]), by have := hfcur; rw [hpf.1] at this; exact this⟩
        have hrds : Reads wb (os' ++ [p.1]) (outs' ++ [f]) := by rw [← hpf.1]; exact hry.snoc hfcur.1 hfcur.2
        have Hst1 := Lib.hid hst1
        have Hst2 := Lib.hid hst2
        have Hrds := Lib.hid hrds
        have Hry := Lib.hid hry
        have Hrd := Lib.hid hrd
        have Hne := Lib.hid hne
        have Hres := Lib.hid hres
        have Hpend := Lib.hid hpend
        have Hw := Lib.hid hw
        have Hab := Lib.hid (And.intro ha hn)
        have He := Lib.hid he
        have Hb := Lib.hid hb
        have Hb2 := Lib.hid hb2
        have Hpf := Lib.hid hpf.1
        have Hlm := Lib.hid (And.intro hle hmx)
        have hrow : ∀ k, k = b → rowF W.A W.n k := fun k e => hwf k ⟨by omega, o, by rw [hA, e]⟩
        have Hrow := Lib.hid hrow
        have HX0 : Hid (wr.cell? ⟨g, 0, none⟩ = some (.slice (some ⟨b, o, none⟩) W'.n W'.c)) := Lib.hid x0
        by_cases hcc : W'.c = 1
        · have hcd : (W'.c = 1) = True := eq_true hcc
          have HF : Hid (FrL w (some ⟨b, o, none⟩) (W'.n - 1) ps ∧ W'.n - 1 ≤ W'.c - 1 ∧ W'.c - 1 ≤ maxLen) := Lib.hid ⟨⟨by have := hfr.len; simp at this; omega, fun h => absurd h (by omega)⟩, by omega, by omega⟩
          clear hst1 hst2 hrds hry hrd hne hres hpend hw ha hn he hb hb2 hk hfl hfl2 hwl hp hps hpf hfr hfcur hrd2 hcle hlen hgz H hA hle hmx hmxW hcc hwf hrow
          go_upto_region 5 with fail
          have hb4 := (((Hb.out.set_ 1 (.slice p.1.A p.1.n p.1.c)).set_ 2 (.int .i64 ((needs p.2 : Nat) : Int))).set_ 0 (.slice (some ⟨b, o, none⟩) (W'.n - 1) (W'.c - 1))).set_ 3 (.int .i64 ((needs p.2 : Nat) : Int))
          simp only [List.setIfInBounds_toArray, List.set_cons_zero, List.set_cons_succ] at hb4
          have hch4 : Chg (fun k => k = g) wr ((((wr.setCell ⟨g, 1, none⟩ (.slice p.1.A p.1.n p.1.c)).setCell ⟨g, 2, none⟩ (.int .i64 ((needs p.2 : Nat) : Int))).setCell ⟨g, 0, none⟩ (.slice (some ⟨b, o, none⟩) (W'.n - 1) (W'.c - 1))).setCell ⟨g, 3, none⟩ (.int .i64 ((needs p.2 : Nat) : Int))) :=
            (((chg_set1 _ _ _ _).t (chg_set1 _ _ _ _)).t (chg_set1 _ _ _ _)).t (chg_set1 _ _ _ _)
          generalize (((wr.setCell ⟨g, 1, none⟩ (.slice p.1.A p.1.n p.1.c)).setCell ⟨g, 2, none⟩ (.int .i64 ((needs p.2 : Nat) : Int))).setCell ⟨g, 0, none⟩ (.slice (some ⟨b, o, none⟩) (W'.n - 1) (W'.c - 1))).setCell ⟨g, 3, none⟩ (.int .i64 ((needs p.2 : Nat) : Int)) = W4 at hb4 hch4 ⊢
          have He4 : Hid (Ext w W4) := Lib.hid (He.out.trans (hch4.below (by rw [Hgs.out]; have := Hb.out.lt; omega) (fun k hk e => by have := Hgs.out; omega)))
          have Hb24 := Lib.hid (Hb2.out.chg hch4 (by omega))
          have Hrd4 := Lib.hid (Hrd.out.chg hch4 (fun k o hA h0 e => (Hne.out k ⟨h0, o, hA⟩).elim (fun h => by omega) (fun h => by omega)))
          rw [Hpf.out] at hb4 hc1 ⊢
          clear x0 x1 x2 x3 x4 x5 x6 x7 z0 z1 z2 z3 z4 z5 z6 z7 hc0 hc1 hch4
          by_cases h0 : needs f = 0
          · have hq0 : (((needs f : Nat) : Int) == 0) = true := by rw [h0]; rfl
            obtain ⟨x0, x1, x2, x3, x4, x5, x6, x7⟩ := hb4.c8
            obtain ⟨z0, z1, z2, z3, z4, z5, z6, z7⟩ := hb4.f8
            have hw1 : IntKind.i64.wrap ((st'.ans : Int) + 1) = (st'.ans : Int) + 1 := IntWalk.i64_in _ (by omega)
            have H0 := Lib.hid h0
            clear h0
            go_upto_region 7 with fail
            have hb5 := hb4.set_ 5 (.int .i64 ((st'.ans : Int) + 1))
            simp only [List.setIfInBounds_toArray, List.set_cons_zero, List.set_cons_succ] at hb5
            have hch5 := chg_set1 W4 g 5 (.int .i64 ((st'.ans : Int) + 1))
            generalize W4.setCell ⟨g, 5, none⟩ (.int .i64 ((st'.ans : Int) + 1)) = W5 at hb5 hch5 ⊢
            have He5 : Hid (Ext w W5) := Lib.hid (He4.out.trans (hch5.below (by rw [Hgs.out]; have := Hb.out.lt; have := hb4.lt; omega) (fun k hk e => by have := Hgs.out; omega)))
            have Hb25 := Lib.hid (Hb24.out.chg hch5 (by omega))
            have Hrd5 := Lib.hid (Hrd4.out.chg hch5 (fun k o hA h0 e => (Hne.out k ⟨h0, o, hA⟩).elim (fun h => by omega) (fun h => by omega)))
            have Hb5 := Lib.hid hb5
            have hgl := hb5.lt
            have y1 := hb5.c8.2.1
            have y1d : W5.drew.cell? ⟨g, 1, none⟩ = some (.slice p.1.A p.1.n p.1.c) := ((Ext.drew W5).cell (p := ⟨g, 1, none⟩) hgl).trans y1
            have y1a : ∀ o, (W5.drew.alloc o).cell? ⟨g, 1, none⟩ = some (.slice p.1.A p.1.n p.1.c) := fun o => (((Ext.drew W5).t (Ext.alloc _ o)).cell (p := ⟨g, 1, none⟩) hgl).trans y1
            clear x0 x1 x2 x3 x4 x5 x6 x7 z0 z1 z2 z3 z4 z5 z6 z7 hb4 hch5 hb5
            have hl5 : (os'.map slv).length = n' * 1 := by rw [List.length_map, Hrd5.out.1]; omega
            have hat : ∀ w', Ext W5 w' → 0 < n' → ∃ b o, A' = some ⟨b, o, none⟩ ∧ ∀ j u, (os'.map slv)[j]? = some u → w'.cell? ⟨b, o + j, none⟩ = some u := fun w' e hn => by
              obtain ⟨b, o, hA, hb, hc⟩ := (Hrd5.out.ext e).2 hn
              refine ⟨b, o, hA, fun j u hu => ?_⟩
              rw [List.getElem?_map] at hu
              cases hz : os'[j]? with
              | none => rw [hz] at hu; cases hu
              | some z => rw [hz] at hu; cases hu; exact hc j z hz
            have hn0 : ∀ t o, Blk ((W5.alloc (.cells #[.slice p.1.A p.1.n p.1.c] t)).alloc o) W5.heap.size t #[.slice p.1.A p.1.n p.1.c] := fun t o => (Blk.new W5 t _).alloc o
            have hn1 : ∀ t o, Blk ((W5.alloc o).alloc (.cells #[.slice p.1.A p.1.n p.1.c] t)) (W5.heap.size + 1) t #[.slice p.1.A p.1.n p.1.c] := fun t o => by have h := Blk.new (W5.alloc o) t #[.slice p.1.A p.1.n p.1.c]; rwa [World.size_alloc] at h
            go_region_law (first
              | (refine step_append_empty rfl rfl ul_bb info_bb rfl (by omega) rfl rfl hl5 (by first | exact hat _ ((Ext.drew _).t (Ext.alloc _ _)) | exact hat _ (((Ext.drew _).t (Ext.alloc _ _)).t (Ext.alloc _ _))) (one_cells _ (fun _ => rfl)) (by simp only [maxLen]; omega) (by omega) ?_
                 intro A4 c4 w4 row4 e4 d4 r4
                 have e14 : Ext W5 w4 := by first | exact ((Ext.drew _).t (Ext.alloc _ _)).t e4 | exact (((Ext.drew _).t (Ext.alloc _ _)).t (Ext.alloc _ _)).t e4
                 have y14 : w4.cell? ⟨g, 1, none⟩ = some (.slice p.1.A p.1.n p.1.c) := (e14.cell (p := ⟨g, 1, none⟩) hgl).trans y1
                 have r14 : ∀ k, row4 = some k → W5.heap.size ≤ k := fun k hk => by have := r4 k hk; simp at this; omega)
              | (refine step_append_dst _ rfl rfl ul_bb info_bb rfl (by omega) rfl (by first | exact d4 | exact d4.alloc _) rfl (news := [.slice p.1.A p.1.n p.1.c]) rfl (by first | exact news1 (Blk.new _ _ _) | exact news1 (Blk.ext (hn1 _ _) ((Ext.drew _).t e4)) | exact news1 (Blk.ext (hn0 _ _) ((Ext.drew _).t e4))) (by intro u hu; simp at hu; subst hu; rfl) (by omega) (by simp only [maxLen]; omega) (by omega) (by have := e4.size; simp at this ⊢; omega) ?_
                 intro g5 c5 w5 own5 gr5 _ lt5
                 have e15 : Ext W5 w5 := by first | exact e14.grown gr5 e14.size r14 | exact (e14.t (Ext.alloc _ _)).grown gr5 (e14.t (Ext.alloc _ _)).size r14
                 have own6 := own5
                 rw [show os'.map slv ++ [.slice p.1.A p.1.n p.1.c] = (os' ++ [p.1]).map slv by rw [List.map_append]; rfl] at own6
                 have ge5 : W5.heap.size ≤ g5 := by have := (own5.lt g5 rfl).1; simp at this; omega
                 have room5 := Room.of_own own6
                 have HJ : Hid (RefJ wb w g W A n res w5 (some ⟨g5, 0, none⟩) (n' + 1) c5) := Lib.hid ⟨⟨(some ⟨b, o, none⟩), W'.n - 1, W'.c - 1⟩, p.1, _, ps, stDone st' f rest, os' ++ [p.1], outs' ++ [f], by unfold refC; have h := Hb5.out.ext e15; rw [H0.out] at h; exact h, Hb25.out.ext e15, Hst2.out _ HF.out.1 HF.out.2.1 HF.out.2.2, Room.rd room5, fun k ⟨_, o', e⟩ => by cases e; have := Hb25.out.lt; right; omega, Hrds.out, room5.2.1, room5.2.2.1, rfl, by rw [← on_done _ Hpend.out Hw.out H0.out]; exact Hres.out, bnd_done Hw.out Hab.out.1, bnd3 Hw.out Hab.out.2, He5.out.t e15, fun k ⟨_, o', e⟩ => Hrow.out k (by cases e; rfl)⟩))
            all_goals (
              go_simp
              go_roundw
              case rel => (repeat apply Exists.intro); exact ⟨⟨some ⟨g5, 0, none⟩, n' + 1, c5, rfl, HJ⟩, rfl⟩
              case measure => rw [(Hb5.out.ext e15).c8.1, HX0.out]; simp only [refN]; omega)
          · have hq0 : (((needs f : Nat) : Int) == 0) = false := by simp; omega
            have HJ : Hid (RefJ wb w g W A n res W4 A' n' c') := Lib.hid ⟨⟨(some ⟨b, o, none⟩), W'.n - 1, W'.c - 1⟩, p.1, _, ps, stPend st' f rest, os', outs', by unfold refC; exact hb4, Hb24.out, Hst1.out _ HF.out.1 HF.out.2.1 HF.out.2.2 h0, Hrd4.out, Hne.out, Hry.out, Hlm.out.1, Hlm.out.2, flag_pend h0, by rw [← on_pend _ Hpend.out Hw.out h0]; exact Hres.out, bnd_pend Hw.out Hab.out.1, bnd2 Hw.out Hab.out.2, He4.out, fun k ⟨_, o', e⟩ => Hrow.out k (by cases e; rfl)⟩
            obtain ⟨x0, x1, x2, x3, x4, x5, x6, x7⟩ := hb4.c8
            have hm0 := HX0.out
            clear h0
            go_wp2_with fail
            go_roundw
            case rel => exact ⟨A', n', c', rfl, HJ⟩
            case measure => rw [x0, hm0]; simp only [refN]; omega
        · have hcd : (W'.c = 1) = False := eq_false hcc
          have HF : Hid (FrL w (some ⟨b, o + 2, none⟩) (W'.n - 1) ps ∧ W'.n - 1 ≤ W'.c - 1 ∧ W'.c - 1 ≤ maxLen) := Lib.hid ⟨hfr.tail, by omega, by omega⟩
          clear hst1 hst2 hrds hry hrd hne hres hpend hw ha hn he hb hb2 hk hfl hfl2 hwl hp hps hpf hfr hfcur hrd2 hcle hlen hgz H hA hle hmx hmxW hcc hwf hrow
          go_upto_region 5 with fail
          have hb4 := (((Hb.out.set_ 1 (.slice p.1.A p.1.n p.1.c)).set_ 2 (.int .i64 ((needs p.2 : Nat) : Int))).set_ 0 (.slice (some ⟨b, o + 2, none⟩) (W'.n - 1) (W'.c - 1))).set_ 3 (.int .i64 ((needs p.2 : Nat) : Int))
          simp only [List.setIfInBounds_toArray, List.set_cons_zero, List.set_cons_succ] at hb4
          have hch4 : Chg (fun k => k = g) wr ((((wr.setCell ⟨g, 1, none⟩ (.slice p.1.A p.1.n p.1.c)).setCell ⟨g, 2, none⟩ (.int .i64 ((needs p.2 : Nat) : Int))).setCell ⟨g, 0, none⟩ (.slice (some ⟨b, o + 2, none⟩) (W'.n - 1) (W'.c - 1))).setCell ⟨g, 3, none⟩ (.int .i64 ((needs p.2 : Nat) : Int))) :=
            (((chg_set1 _ _ _ _).t (chg_set1 _ _ _ _)).t (chg_set1 _ _ _ _)).t (chg_set1 _ _ _ _)
          generalize (((wr.setCell ⟨g, 1, none⟩ (.slice p.1.A p.1.n p.1.c)).setCell ⟨g, 2, none⟩ (.int .i64 ((needs p.2 : Nat) : Int))).setCell ⟨g, 0, none⟩ (.slice (some ⟨b, o + 2, none⟩) (W'.n - 1) (W'.c - 1))).setCell ⟨g, 3, none⟩ (.int .i64 ((needs p.2 : Nat) : Int)) = W4 at hb4 hch4 ⊢
          have He4 : Hid (Ext w W4) := Lib.hid (He.out.trans (hch4.below (by rw [Hgs.out]; have := Hb.out.lt; omega) (fun k hk e => by have := Hgs.out; omega)))
          have Hb24 := Lib.hid (Hb2.out.chg hch4 (by omega))
          have Hrd4 := Lib.hid (Hrd.out.chg hch4 (fun k o hA h0 e => (Hne.out k ⟨h0, o, hA⟩).elim (fun h => by omega) (fun h => by omega)))
          rw [Hpf.out] at hb4 hc1 ⊢
          clear x0 x1 x2 x3 x4 x5 x6 x7 z0 z1 z2 z3 z4 z5 z6 z7 hc0 hc1 hch4
          by_cases h0 : needs f = 0
          · have hq0 : (((needs f : Nat) : Int) == 0) = true := by rw [h0]; rfl
            obtain ⟨x0, x1, x2, x3, x4, x5, x6, x7⟩ := hb4.c8
            obtain ⟨z0, z1, z2, z3, z4, z5, z6, z7⟩ := hb4.f8
            have hw1 : IntKind.i64.wrap ((st'.ans : Int) + 1) = (st'.ans : Int) + 1 := IntWalk.i64_in _ (by omega)
            have H0 := Lib.hid h0
            clear h0
            go_upto_region 7 with fail
            have hb5 := hb4.set_ 5 (.int .i64 ((st'.ans : Int) + 1))
            simp only [List.setIfInBounds_toArray, List.set_cons_zero, List.set_cons_succ] at hb5
            have hch5 := chg_set1 W4 g 5 (.int .i64 ((st'.ans : Int) + 1))
            generalize W4.setCell ⟨g, 5, none⟩ (.int .i64 ((st'.ans : Int) + 1)) = W5 at hb5 hch5 ⊢
            have He5 : Hid (Ext w W5) := Lib.hid (He4.out.trans (hch5.below (by rw [Hgs.out]; have := Hb.out.lt; have := hb4.lt; omega) (fun k hk e => by have := Hgs.out; omega)))
            have Hb25 := Lib.hid (Hb24.out.chg hch5 (by omega))
            have Hrd5 := Lib.hid (Hrd4.out.chg hch5 (fun k o hA h0 e => (Hne.out k ⟨h0, o, hA⟩).elim (fun h => by omega) (fun h => by omega)))
            have Hb5 := Lib.hid hb5
            have hgl := hb5.lt
            have y1 := hb5.c8.2.1
            have y1d : W5.drew.cell? ⟨g, 1, none⟩ = some (.slice p.1.A p.1.n p.1.c) := ((Ext.drew W5).cell (p := ⟨g, 1, none⟩) hgl).trans y1
            have y1a : ∀ o, (W5.drew.alloc o).cell? ⟨g, 1, none⟩ = some (.slice p.1.A p.1.n p.1.c) := fun o => (((Ext.drew W5).t (Ext.alloc _ o)).cell (p := ⟨g, 1, none⟩) hgl).trans y1
            clear x0 x1 x2 x3 x4 x5 x6 x7 z0 z1 z2 z3 z4 z5 z6 z7 hb4 hch5 hb5
            have hl5 : (os'.map slv).length = n' * 1 := by rw [List.length_map, Hrd5.out.1]; omega
            have hat : ∀ w', Ext W5 w' → 0 < n' → ∃ b o, A' = some ⟨b, o, none⟩ ∧ ∀ j u, (os'.map slv)[j]? = some u → w'.cell? ⟨b, o + j, none⟩ = some u := fun w' e hn => by
              obtain ⟨b, o, hA, hb, hc⟩ := (Hrd5.out.ext e).2 hn
              refine ⟨b, o, hA, fun j u hu => ?_⟩
              rw [List.getElem?_map] at hu
              cases hz : os'[j]? with
              | none => rw [hz] at hu; cases hu
              | some z => rw [hz] at hu; cases hu; exact hc j z hz
            have hn0 : ∀ t o, Blk ((W5.alloc (.cells #[.slice p.1.A p.1.n p.1.c] t)).alloc o) W5.heap.size t #[.slice p.1.A p.1.n p.1.c] := fun t o => (Blk.new W5 t _).alloc o
            have hn1 : ∀ t o, Blk ((W5.alloc o).alloc (.cells #[.slice p.1.A p.1.n p.1.c] t)) (W5.heap.size + 1) t #[.slice p.1.A p.1.n p.1.c] := fun t o => by have h := Blk.new (W5.alloc o) t #[.slice p.1.A p.1.n p.1.c]; rwa [World.size_alloc] at h
            go_region_law (first
              | (refine step_append_empty rfl rfl ul_bb info_bb rfl (by omega) rfl rfl hl5 (by first | exact hat _ ((Ext.drew _).t (Ext.alloc _ _)) | exact hat _ (((Ext.drew _).t (Ext.alloc _ _)).t (Ext.alloc _ _))) (one_cells _ (fun _ => rfl)) (by simp only [maxLen]; omega) (by omega) ?_
                 intro A4 c4 w4 row4 e4 d4 r4
                 have e14 : Ext W5 w4 := by first | exact ((Ext.drew _).t (Ext.alloc _ _)).t e4 | exact (((Ext.drew _).t (Ext.alloc _ _)).t (Ext.alloc _ _)).t e4
                 have y14 : w4.cell? ⟨g, 1, none⟩ = some (.slice p.1.A p.1.n p.1.c) := (e14.cell (p := ⟨g, 1, none⟩) hgl).trans y1
                 have r14 : ∀ k, row4 = some k → W5.heap.size ≤ k := fun k hk => by have := r4 k hk; simp at this; omega)
              | (refine step_append_dst _ rfl rfl ul_bb info_bb rfl (by omega) rfl (by first | exact d4 | exact d4.alloc _) rfl (news := [.slice p.1.A p.1.n p.1.c]) rfl (by first | exact news1 (Blk.new _ _ _) | exact news1 (Blk.ext (hn1 _ _) ((Ext.drew _).t e4)) | exact news1 (Blk.ext (hn0 _ _) ((Ext.drew _).t e4))) (by intro u hu; simp at hu; subst hu; rfl) (by omega) (by simp only [maxLen]; omega) (by omega) (by have := e4.size; simp at this ⊢; omega) ?_
                 intro g5 c5 w5 own5 gr5 _ lt5
                 have e15 : Ext W5 w5 := by first | exact e14.grown gr5 e14.size r14 | exact (e14.t (Ext.alloc _ _)).grown gr5 (e14.t (Ext.alloc _ _)).size r14
                 have own6 := own5
                 rw [show os'.map slv ++ [.slice p.1.A p.1.n p.1.c] = (os' ++ [p.1]).map slv by rw [List.map_append]; rfl] at own6
                 have ge5 : W5.heap.size ≤ g5 := by have := (own5.lt g5 rfl).1; simp at this; omega
                 have room5 := Room.of_own own6
                 have HJ : Hid (RefJ wb w g W A n res w5 (some ⟨g5, 0, none⟩) (n' + 1) c5) := Lib.hid ⟨⟨(some ⟨b, o + 2, none⟩), W'.n - 1, W'.c - 1⟩, p.1, _, ps, stDone st' f rest, os' ++ [p.1], outs' ++ [f], by unfold refC; have h := Hb5.out.ext e15; rw [H0.out] at h; exact h, Hb25.out.ext e15, Hst2.out _ HF.out.1 HF.out.2.1 HF.out.2.2, Room.rd room5, fun k ⟨_, o', e⟩ => by cases e; have := Hb25.out.lt; right; omega, Hrds.out, room5.2.1, room5.2.2.1, rfl, by rw [← on_done _ Hpend.out Hw.out H0.out]; exact Hres.out, bnd_done Hw.out Hab.out.1, bnd3 Hw.out Hab.out.2, He5.out.t e15, fun k ⟨_, o', e⟩ => Hrow.out k (by cases e; rfl)⟩))
            all_goals (
              go_simp
              go_roundw
              case rel => (repeat apply Exists.intro); exact ⟨⟨some ⟨g5, 0, none⟩, n' + 1, c5, rfl, HJ⟩, rfl⟩
              case measure => rw [(Hb5.out.ext e15).c8.1, HX0.out]; simp only [refN]; omega)
          · have hq0 : (((needs f : Nat) : Int) == 0) = false := by simp; omega
            have HJ : Hid (RefJ wb w g W A n res W4 A' n' c') := Lib.hid ⟨⟨(some ⟨b, o + 2, none⟩), W'.n - 1, W'.c - 1⟩, p.1, _, ps, stPend st' f rest, os', outs', by unfold refC; exact hb4, Hb24.out, Hst1.out _ HF.out.1 HF.out.2.1 HF.out.2.2 h0, Hrd4.out, Hne.out, Hry.out, Hlm.out.1, Hlm.out.2, flag_pend h0, by rw [← on_pend _ Hpend.out Hw.out h0]; exact Hres.out, bnd_pend Hw.out Hab.out.1, bnd2 Hw.out Hab.out.2, He4.out, fun k ⟨_, o', e⟩ => Hrow.out k (by cases e; rfl)⟩
            obtain ⟨x0, x1, x2, x3, x4, x5, x6, x7⟩ := hb4.c8
            have hm0 := HX0.out
            clear h0
            go_wp2_with fail
            go_roundw
            case rel => exact ⟨A', n', c', rfl, HJ⟩
            case measure => rw [x0, hm0]; simp only [refN]; omega
    · have hq : ((((st'.left : Nat) : Int)) == 0) = false := by simp; omega
      have hpend : st'.pend = true := by have := hfl; unfold Flag at this; rw [this]; simp; omega
      have hre : res = (st', outs') := by rw [← hres, on_busy _ hpend]
      clear hl0 hres hpend
      unfold zeroC at hb2
      obtain ⟨u0, u1, u2, u3, u4, u5, u6, u7⟩ := hb2.c8
      obtain ⟨v0, v1, v2, v3, v4, v5, v6, v7⟩ := hb2.f8
      subst hre
      go_wp2_with fail
      obtain ⟨hb8, hch8⟩ := hb2.all8 (.slice W'.A W'.n W'.c) (.slice P'.A P'.n P'.c) (.int .i64 pn') (.int .i64 (st'.left : Int)) (.int .i64 (st'.put : Int)) (.int .i64 (st'.ans : Int)) (.int .i64 (st'.turns : Int)) (.int .i64 (st'.idle : Int))
      generalize ((((((((wr.setCell ⟨g + 1, 0, none⟩ (.slice W'.A W'.n W'.c)).setCell ⟨g + 1, 1, none⟩ (.slice P'.A P'.n P'.c)).setCell ⟨g + 1, 2, none⟩ (.int .i64 pn')).setCell ⟨g + 1, 3, none⟩ (.int .i64 (st'.left : Int))).setCell ⟨g + 1, 4, none⟩ (.int .i64 (st'.put : Int))).setCell ⟨g + 1, 5, none⟩ (.int .i64 (st'.ans : Int))).setCell ⟨g + 1, 6, none⟩ (.int .i64 (st'.turns : Int))).setCell ⟨g + 1, 7, none⟩ (.int .i64 (st'.idle : Int))) = W8 at hb8 hch8 ⊢
      obtain ⟨t0, t1, t2, t3, t4, t5, t6, t7⟩ := hb8.c8
      have he8 : Ext w W8 := he.trans (hch8.below he.size (fun k hk e => by have := Hgs.out; omega))
      refine bodyPost_ret (v := .tuple #[.agg #[.slice W'.A W'.n W'.c, .slice P'.A P'.n P'.c, .int .i64 pn', .int .i64 (st'.left : Int), .int .i64 (st'.put : Int), .int .i64 (st'.ans : Int), .int .i64 (st'.turns : Int), .int .i64 (st'.idle : Int)], .slice A' n' c']) ?_ rfl ?_
      · simp [results, Try.results36, go_sem, t0, t1, t2, t3, t4, t5, t6, t7]
      · exact ⟨W', P', pn', fs', A', n', c', os', rfl, hk.ext he8, ⟨hrd.chg hch8 (fun k o hA h0 e => (hne k ⟨h0, o, hA⟩).elim (fun h => by omega) (fun h => by omega)), hry, hle, hmx⟩, he8, hwf, fun k hk => (hne k hk).elim (fun h => .inl h.1) (fun h => .inr (by have := Hgs.out; omega))⟩
end Go.Proofs.Ytpipnefepnknoaa
