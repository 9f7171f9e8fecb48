/- Ffd: feeds compares a stream with the reference, piece by piece, and answers true. -/
import Derived.Test.YtippgnbmilnjbaaFrfd
import Derived.Test.YtippgnbmilnjbaaFwrs
namespace Go.Proofs.Ytippgnbmilnjbaa
open Go.RowKit Go.Fx
/-- What holds between two pieces. -/
structure FdJ (w : World) (sb rb k : Nat) (P : List Nat) (s s0 : Sl) (wr : World) : Prop where
  stm : Stm wr sb s (stOf P)
  nb : ∀ k, stmF sb s k → w.heap.size ≤ k
  ref : Blk wr rb 87 #[.slice s0.A s0.n s0.c]
  rbn : w.heap.size ≤ rb
  rbs : ¬ stmF sb s rb
  rd : Rd u8v wr s0.A s0.n P
  lt : ∀ y ∈ P, y < 256
  cap : s0.n ≤ s0.c
  sep : ∀ k o, s0.A = some ⟨k, o, none⟩ → 0 < s0.n → ¬ stmF sb s k ∧ k ≠ rb
  ext : Ext w wr
  le : P.length ≤ k * 1000
section
variable {w wr w' w1 w2 w3 w5 : World} {sb rb k : Nat} {P x : List Nat} {s s0 : Sl} {T : Nat → Prop}
theorem FdJ.chg (h : FdJ w sb rb k P s s0 wr) (ch : Chg T wr w') (h1 : ∀ k, T k → w.heap.size ≤ k ∧ ¬ stmF sb s k ∧ k ≠ rb) (h2 : ∀ k o, s0.A = some ⟨k, o, none⟩ → 0 < s0.n → ¬ T k) : FdJ w sb rb k P s s0 w' :=
  ⟨h.stm.chg ch (fun k hk ht => (h1 k ht).2.1 hk), h.nb, h.ref.chg ch (fun ht => (h1 _ ht).2.2 rfl), h.rbn, h.rbs, h.rd.chg ch h2, h.lt, h.cap, h.sep, h.ext.trans (ch.below h.ext.size (fun k hk ht => by have := (h1 k ht).1; omega)), h.le⟩
theorem FdJ.ext_ (h : FdJ w sb rb k P s s0 wr) (e : Ext wr w') : FdJ w sb rb k P s s0 w' := h.chg (T := fun _ => False) (Chg.ofExt e) (fun _ t => t.elim) (fun _ _ _ _ t => t)
theorem FdJ.n_ (h : FdJ w sb rb k P s s0 wr) : s0.n = P.length := h.rd.1.symm
/-- Reset. -/
theorem FdJ.reset (h : FdJ w sb rb k P s s0 wr) (hs : Stm w1 sb ⟨none, 0, 0⟩ fst0) (ch : Chg (fun k => k = sb) wr w1) : FdJ w sb rb k [] ⟨none, 0, 0⟩ ⟨none, 0, 0⟩ (w1.setCell ⟨rb, 0, none⟩ (.slice none 0 0)) := by
  have hrb : ¬ rb = sb := fun e => h.rbs (.inl e)
  have hsb := h.nb sb (.inl rfl)
  have ch2 : Chg (fun k => k = rb) w1 (w1.setCell ⟨rb, 0, none⟩ (.slice none 0 0)) := Chg.set _ _ _ _ rfl
  have hrbn := h.rbn
  have hz := h.ext.size
  have e1 : Ext w w1 := h.ext.trans (ch.below hz (fun k hk e => by omega))
  rw [← stOf_nil] at hs
  refine ⟨hs.chg ch2 (fun k hk e => ?_), fun k hk => ?_, (h.ref.chg ch hrb).set0 _, hrbn, ?_, Rd.none_, by simp, Nat.le_refl _, fun k o e => (nomatch e), e1.trans (ch2.below e1.size (fun k hk e => by omega)), by simp⟩
  · rcases hk with hk | hk
    · exact hrb (e.symm.trans hk)
    · exact foot_none hk
  · rcases hk with hk | hk
    · omega
    · exact absurd hk foot_none
  · rintro (hk | hk)
    · exact hrb hk
    · exact foot_none hk
theorem fdR_len (P x : List Nat) : (fdR P x).2.1.length ≤ (splF (fdR P x).1).1.length := by
  unfold fdR
  split
  · simp
  · simp only [List.length_drop]; omega
theorem fdR_mem {P x : List Nat} (hP : ∀ y ∈ P, y < 256) (hx : ∀ y ∈ x, y < 256) : ∀ l ∈ (fdR P x).2.1, l.length ≤ P.length + x.length := by
  unfold fdR
  split
  · simp
  · intro l hl
    have h1 := ((splF_mem (b := P ++ x) (fun y hy => (List.mem_append.1 hy).elim (hP y) (hx y))).2 l (List.mem_of_mem_drop hl)).2
    rw [List.length_append] at h1
    exact h1
/-- What a piece leaves, before all that came of it is written over. -/
structure FdM (w : World) (sb rb k : Nat) (P' : List Nat) (s2 s' : Sl) (w1 w5 : World) (sc : Sl) (x : List Nat) (Al : Option Addr) (nl cl : Nat) (os : List Sl) (Aw : Option Addr) (nw : Nat) (ow : List Sl) (bs : List (List Nat)) : Prop where
  j : FdJ w sb rb k P' s2 s' w5
  own : Byt w5 sc x
  lst : Lst w1.heap.size w5 Al nl cl os bs
  rl : Rd slv w5 Aw nw ow
  re : Reads w5 ow bs
  le : nw ≤ maxLen
  tw : ∀ k, foot sc.A sc.c k → w.heap.size ≤ k ∧ ¬ stmF sb s2 k ∧ k ≠ rb ∧ ¬ foots os k ∧ ¬ foot Al cl k
  tl : ∀ k, foots os k → w.heap.size ≤ k ∧ ¬ stmF sb s2 k ∧ k ≠ rb
  ts : ∀ k o, s'.A = some ⟨k, o, none⟩ → 0 < s'.n → ¬ foot sc.A sc.c k ∧ ¬ foots os k
theorem FdJ.step {n : Nat} {sc s2 s' : Sl} {e e' : Ending} {Al Aw : Option Addr} {nl cl nw cw : Nat} {os ow : List Sl} (h : FdJ w sb rb k P s s0 wr) (hc : Cloned wr x n sc w1) (hx : ∀ y ∈ x, y < 256) (hxl : x.length ≤ 1000)
    (f : Fed w1 sb s (stOf P) x e w2 Al nl cl os s2) (r : RFed w2 s0 P x e' w3 s' Aw nw cw ow) (ch : Chg (fun k => k = rb ∨ w3.heap.size ≤ k) w3 w5) (hb : Blk w5 rb 87 #[.slice s'.A s'.n s'.c]) :
    FdM w sb rb (k + 1) (fdR P x).1 s2 s' w1 w5 sc x Al nl cl os Aw nw ow (fdR P x).2.1 := by
  have z0 := h.ext.size
  have z1 := hc.ext.size
  have z2 := f.chg.size
  have z3 := r.ext.size
  have hrb := h.ref.lt
  have hrbn := h.rbn
  have hfd := fd_fdR P x
  have fs := f.stm
  have fl := f.lst
  rw [hfd] at fs fl
  have hs1 : ∀ k, stmF sb s k → k < wr.heap.size := fun k hk => h.stm.lt hk
  have hs2 : ∀ k, stmF sb s2 k → k < w2.heap.size := fun k hk => fs.lt hk
  have hs2' : ∀ k, stmF sb s2 k → w.heap.size ≤ k := fun k hk => by rcases f.nb k hk with h1 | h1; exact h.nb k h1; omega
  have hrb2 : ¬ stmF sb s2 rb := fun hk => by rcases f.nb rb hk with h1 | h1; exact h.rbs h1; omega
  have hco : ∀ k, foot sc.A sc.c k → wr.heap.size ≤ k ∧ k < w1.heap.size := fun k hk => ⟨hc.new k hk, hc.byt.room.lt hk⟩
  have hos : ∀ k, foot Al cl k ∨ foots os k → w1.heap.size ≤ k ∧ k < w2.heap.size := fun k hk => ⟨fl.new k hk, fl.lt hk⟩
  have e1 : Ext w w1 := h.ext.t hc.ext
  have e2 : Ext w w2 := e1.trans (f.chg.below e1.size (fun k hk ht => by have := h.nb k ht; omega))
  have e3 := e2.t r.ext
  have e5 : Ext w w5 := e3.trans (ch.below e3.size (fun k hk ht => by omega))
  have hs'lt : ∀ k o, s'.A = some ⟨k, o, none⟩ → 0 < s'.n → k < w3.heap.size := fun k o ha hn => by
    obtain ⟨b, o', hA, hlt, _⟩ := r.rd.2 hn
    rw [ha] at hA
    cases hA
    exact hlt
  have hs0lt : ∀ k o, s0.A = some ⟨k, o, none⟩ → 0 < s0.n → k < wr.heap.size := fun k o ha hn => by
    obtain ⟨b, o', hA, hlt, _⟩ := h.rd.2 hn
    rw [ha] at hA
    cases hA
    exact hlt
  have hs' : ∀ k o, s'.A = some ⟨k, o, none⟩ → 0 < s'.n → (k < wr.heap.size ∧ ¬ stmF sb s k ∧ k ≠ rb) ∨ w2.heap.size ≤ k := fun k o ha hn => by
    rcases r.nw with h1 | h1
    · subst h1
      exact .inl ⟨hs0lt k o ha hn, h.sep k o ha hn⟩
    · exact .inr (h1 k ⟨by have := r.cap; omega, o, ha⟩)
  have hown : Byt w2 sc x := hc.byt.chg f.chg (fun k hk ht => by have := hco k hk; have := hs1 k ht; omega)
  refine ⟨⟨(fs.ext r.ext).chg ch (fun k hk ht => ?_), hs2', hb, hrbn, hrb2, r.rd.chg ch (fun k o ha hn ht => ?_), r.lt, r.cap, fun k o ha hn => ?_, e5, ?_⟩, (hown.ext r.ext).chg ch (fun k hk ht => ?_), (fl.ext r.ext).chg ch (fun k hk ht => ?_), r.rl.chg ch (fun k o ha hn ht => ?_), ?_, r.le, fun k hk => ?_, fun k hk => ?_, fun k o ha hn => ?_⟩
  · rcases ht with h1 | h1
    · subst h1; exact hrb2 hk
    · have := hs2 k hk; omega
  · rcases ht with h1 | h1
    · rcases hs' k o ha hn with h2 | h2
      · exact h2.2.2 h1
      · omega
    · have := hs'lt k o ha hn; omega
  · rcases hs' k o ha hn with h2 | h2
    · refine ⟨fun hk => ?_, h2.2.2⟩
      rcases f.nb k hk with h1 | h1
      · exact h2.2.1 h1
      · omega
    · exact ⟨fun hk => by have := hs2 k hk; omega, by omega⟩
  · have h1 : (fdR P x).1.length ≤ P.length + x.length := by
      unfold fdR
      split
      · simp only; omega
      · simp only [List.length_append]; omega
    have := h.le
    omega
  · have := hco k hk; omega
  · have := hos k hk; omega
  · obtain ⟨b, o', hA, hlt, _⟩ := r.rl.2 hn
    rw [ha] at hA
    cases hA
    have := r.ln k o ha hn
    omega
  · refine ⟨r.re.len, fun i t ht => ?_⟩
    obtain ⟨xs, h1, h2, h3⟩ := r.re.at_ i t ht
    refine ⟨xs, h1, h2.chg ch (fun k o ha hn ht2 => ?_), h3⟩
    obtain ⟨b, o', hA, hlt, _⟩ := h2.2 hn
    rw [ha] at hA
    cases hA
    have := r.lo t (List.mem_of_getElem? ht) k o ha hn
    omega
  · have h1 := hco k hk
    refine ⟨by omega, fun h2 => ?_, by omega, fun h2 => by have := hos k (.inr h2); omega, fun h2 => by have := hos k (.inl h2); omega⟩
    rcases f.nb k h2 with h3 | h3
    · have := hs1 k h3; omega
    · omega
  · have h1 := hos k (.inr hk)
    exact ⟨by omega, fun h2 => f.no k (.inr hk) h2, by omega⟩
  · rcases hs' k o ha hn with h2 | h2
    · exact ⟨fun h3 => by have := hco k h3; omega, fun h3 => by have := hos k (.inr h3); omega⟩
    · exact ⟨fun h3 => by have := hco k h3; omega, fun h3 => by have := hos k (.inr h3); omega⟩
end
set_option maxRecDepth 100000 in
set_option maxHeartbeats 4000000 in
theorem feeds_ (A : Option Addr) (n c : Nat) (ss : List Sl) (xss : List (List Nat)) (C : Option Addr) (m cc : Nat) (cs : List Nat) (w : World) (hr : Rd slv w A n ss) (hy : Reads w ss xss) (hn : n ≤ 1000) (hl : ∀ x ∈ xss, x.length ≤ 1000)
    (hC : Rd u8v w C m cs) (hcl : ∀ x ∈ cs, x < 256) (hml : m ≤ maxLen) :
    Calls Try.prog 31 #[.slice A n c, .slice C m cc] w fun e w' => e = .returned (.bool true) ∧ Ext w w' := by
  unfold maxLen at hml
  have Hr := Lib.hid hr
  have Hy := Lib.hid hy
  have HL := Lib.hid hl
  have HC := Lib.hid hC
  have HCl := Lib.hid hcl
  clear hr hy hl hC hcl
  go_enter Try.func31, Try.ntmps31
  go_wp2_with fail
  refine (new_ w).mono ?_; rintro e w1 ⟨sb, rfl, hst, e1, lo1⟩
  have hsb := hst.blk.lt
  have b1 := Blk.new w1 87 #[.slice none 0 0]
  have H0 : ∀ w', Ext (w1.alloc (.cells #[.slice none 0 0] 87)) w' → FdJ w sb w1.heap.size 0 [] ⟨none, 0, 0⟩ ⟨none, 0, 0⟩ w' := fun w' e' => by
    have z1 := e1.size
    rw [← stOf_nil] at hst
    exact ⟨hst.ext ((Ext.alloc w1 _).t e'), fun k hk => hk.elim (fun h => by omega) (fun h => absurd h foot_none), b1.ext e', z1, fun hk => hk.elim (fun h => by omega) (fun h => absurd h foot_none), Rd.none_, by simp, Nat.le_refl _, fun k o e => (nomatch e), e1.t ((Ext.alloc w1 _).t e'), by simp⟩
  have H0 := Lib.hid H0
  have hc1 := b1.cell0
  generalize hrb : w1.heap.size = rb at *
  clear hst e1 lo1 hsb b1
  go_wp2_with fail
  go_loopw [24] (fun i wr => ∃ (k : Nat), k ≤ n ∧ i = .int .i64 (k : Int) ∧ Hid (∃ P s s0, FdJ w sb rb k P s s0 wr)) (fun i _ => n - (intOf i).toNat)
  case atStart => exact ⟨0, by omega, rfl, Lib.hid ⟨_, _, _, H0.out _ (Ext.refl _)⟩⟩
  case round =>
    clear H0 hc1
    obtain ⟨k, hk, rfl, HJ⟩ := hrel
    by_cases hlt : k < n
    · have hltI : (k : Int) < (n : Int) := by omega
      obtain ⟨P, s1, s0, hJ⟩ := HJ.out
      obtain ⟨b, o, s, rfl, _, hs, hc⟩ := (Hr.out.ext hJ.ext).at_ hlt
      obtain ⟨x, hx, hxr, hxl⟩ := (Hy.out.ext hJ.ext).at_ k s hs
      have hlen : s.n ≤ 1000 := by rw [← hxr.1]; exact HL.out x (List.mem_of_getElem? hx)
      have Hs := Lib.hid hs
      have Hx := Lib.hid hx
      have Hxl := Lib.hid hxl
      have HJ1 := Lib.hid hJ
      have hcr := HC.out.ext hJ.ext
      unfold slv at hc
      clear hs hx hxr hxl hJ
      go_upto_region 7 with fail
      go_cut [40] from 29 to 40 (fun v wx => (∃ B, v = .bool B) ∧ wr = wx)
      case first =>
        by_cases hkm : k < m
        · have hkmI : (k : Int) < (m : Int) := by omega
          obtain ⟨bc, oc, d, rfl, _, hd, hcell⟩ := hcr.at_ hkm
          have hd8 : d < 256 := HCl.out d (List.mem_of_getElem? hd)
          obtain ⟨q, hq⟩ : ∃ q : Nat, q = d % 16 := ⟨_, rfl⟩
          have hmod : (d : Int) % 16 = (q : Int) := by omega
          have hmod2 : (d : Int).tmod 16 = (q : Int) := by rw [Int.tmod_eq_emod_of_nonneg (by omega)]; exact hmod
          clear hd hcr hq
          go_wp2_with fail
          all_goals go_meet
          all_goals exact ⟨⟨_, rfl⟩, rfl⟩
        · have hkmI : ¬ (k : Int) < (m : Int) := by omega
          clear hcr
          go_wp2_with fail
          go_meet
          exact ⟨⟨_, rfl⟩, rfl⟩
      case rest =>
      clear hcr
      obtain ⟨⟨B, rfl⟩, rfl⟩ := hcut
      go_upto_if 40 with fail
      go_cut [41] from 41 to 44 (fun v wx => ∃ P s s0, FdJ w sb rb k P s s0 wx)
      case first =>
        have HRs := Lib.hid (reset_ HJ1.out.stm)
        cases B with
        | true =>
          go_wp2_with fail
          refine HRs.out.mono ?_; rintro e w2 ⟨rfl, hs2, ch2⟩
          have hj := HJ1.out.reset hs2 ch2
          have Hj := Lib.hid hj
          have hrb : ¬ rb = sb := fun e => HJ1.out.rbs (.inl e)
          have hb := HJ1.out.ref.chg ch2 hrb
          have hc0 := hb.cell0
          have hf0 := hb.frozen 0
          clear hj hs2 ch2 hb hrb
          go_wp2_with fail
          go_meet
          exact ⟨_, _, _, Hj.out⟩
        | false =>
          go_wp2_with fail
          go_meet
          exact ⟨_, _, _, HJ1.out⟩
      case rest =>
      clear HJ HJ1
      obtain ⟨P, s1, s0, hJ⟩ := hcut
      have HJ := Lib.hid hJ
      have hxr := (Hy.out.ext hJ.ext).get_ Hs.out Hx.out
      have Hxn : Hid (x.length = s.n) := Lib.hid hxr.1
      have HC1 := Lib.hid (clone_ s.A s.n s.c x wc hxr Hxl.out (by omega))
      clear hJ hxr
      go_wp2_with fail
      refine HC1.out.mono ?_; rintro e w1' ⟨sc, rfl, hcl⟩
      have hstm := HJ.out.stm.ext hcl.ext
      have hst := stOf_held P
      have hle := HJ.out.le
      have HF := Lib.hid (feed_ hstm sc.A sc.n sc.c x hcl.byt.rd Hxl.out (by rw [hcl.n_]; omega) (by omega))
      have Hcl := Lib.hid hcl
      have hPn : s0.n + s.n ≤ 1000000000 := by rw [HJ.out.n_]; omega
      clear hstm hst hle hcl HC1
      unfold slv
      go_wp2_with fail
      refine HF.out.mono ?_; rintro e w2 ⟨Al, nl, cl, os, s2, f⟩
      have hret := f.ret
      rw [fd_fdR] at hret
      have e1 : Ext w w1' := HJ.out.ext.t Hcl.out.ext
      have e2 : Ext w w2 := e1.trans (f.chg.below e1.size (fun k hk ht => by have := HJ.out.nb k ht; omega))
      have hb2 := (HJ.out.ref.ext Hcl.out.ext).chg f.chg HJ.out.rbs
      have HR := Lib.hid (rfeed_ s0.A s0.n s0.c P s.A s.n s.c x w2 ((HJ.out.rd.ext Hcl.out.ext).chg f.chg (fun k o ha hn => (HJ.out.sep k o ha hn).1)) HJ.out.lt HJ.out.cap ((Hy.out.ext e2).get_ Hs.out Hx.out) Hxl.out hPn)
      have hc2 := hb2.cell0
      have Hf := Lib.hid f
      have Hb2 := Lib.hid hb2
      have E2 := Lib.hid e2
      subst hret
      clear e1 e2 hb2 f HF
      simp only
      obtain ⟨er, her⟩ : ∃ er, er = (fdR P x).2.2 := ⟨_, rfl⟩
      rw [← her]
      have Her := Lib.hid her
      clear her
      go_wp2_with fail
      refine HR.out.mono ?_; rintro e w3 ⟨s', Aw, nw, cw, ow, r⟩
      have hret := r.ret
      rw [← Her.out] at hret
      have hb3 := Hb2.out.ext r.ext
      have hc3 := hb3.cell0
      have hc4 := fun o => (hb3.alloc o).cell0
      have hf4 := fun o => (hb3.alloc o).frozen 0
      have hM := FdJ.step HJ.out Hcl.out Hxl.out (by rw [Hxn.out]; exact hlen) Hf.out r ((Chg.alloc w3 (.cells #[.slice s'.A s'.n s'.c] 87)).t (Chg.set _ rb 0 (.slice s'.A s'.n s'.c) (.inl rfl))) ((hb3.alloc _).set0 _)
      have HM := Lib.hid hM
      have hml2 : ∀ l ∈ (fdR P x).2.1, l.length ≤ 1000000000 := fun l hl => by
        have h1 := fdR_mem HJ.out.lt Hxl.out l hl
        have := HJ.out.n_
        rw [Hxn.out] at h1
        omega
      have HML := Lib.hid hml2
      have hP1 : s'.n ≤ 1000000000 := by
        rw [hM.j.n_]
        have := hM.j.le
        omega
      subst hret
      clear r hb3 HR hM hml2
      go_wp2_with fail
      generalize hw5 : ((w3.alloc (.cells #[.slice s'.A s'.n s'.c] 87)).setCell ⟨rb, 0, none⟩ (.slice s'.A s'.n s'.c)) = w5 at HM ⊢
      clear hw5 hc3 hc4 hf4 Hf Hb2 Hcl HJ E2 hc2
      have HQ1 := Lib.hid (equal_ Al Aw nl nw cl cw os ow _ _ w5 HM.out.lst.rd (Reads.of HM.out.lst.byt) HM.out.rl HM.out.re HM.out.lst.le HM.out.le)
      rw [decide_eq_true (rfl : (fdR P x).2.1 = (fdR P x).2.1)] at HQ1
      have HQ2 := Lib.hid (bytes_Equal sc.A s.A sc.n s.n sc.c s.c x x w5 HM.out.own.rd ((Hy.out.ext HM.out.j.ext).get_ Hs.out Hx.out) Hxl.out Hxl.out)
      rw [decide_eq_true (rfl : x = x)] at HQ2
      refine HQ1.out.mono ?_; rintro e w5' ⟨rfl, rfl⟩
      go_wp2_with fail
      refine HQ2.out.mono ?_; rintro e w5' ⟨rfl, rfl⟩
      clear HQ1 HQ2
      have hsc : sc.n ≤ 1000000000 := by have := HM.out.own.room.1; rw [List.length_map, Hxn.out] at this; omega
      go_wp2_with (refine wpl_build (by rfl) rfl ul_bb info_bb [.tmp 76] (by rfl) (by rfl) (by decide) (f := slv) [sc] (by rfl) (fun _ => rfl) ?_)
      intro g6 w6 b6 e6 lo6 _; refine Lib.hid ?_
      have HSP := Lib.hid (spoil1 g6 _ sc x w6 b6 (HM.out.own.ext e6) (fun hf => by have := HM.out.own.room.lt hf; omega) hsc)
      have E6 := Lib.hid e6
      clear b6 e6 lo6
      go_wp2_with fail
      refine HSP.out.mono ?_; rintro e w7 ⟨rfl, ch7⟩
      have hl7 := (HM.out.lst.ext E6.out).chg ch7 (fun k hk ht => by have h1 := HM.out.tw k ht; exact hk.elim h1.2.2.2.2 h1.2.2.2.1)
      have hj7 := (HM.out.j.ext_ E6.out).chg ch7 (fun k ht => ⟨(HM.out.tw k ht).1, (HM.out.tw k ht).2.1, (HM.out.tw k ht).2.2.1⟩) (fun k o ha hn => (HM.out.ts k o ha hn).1)
      have HSP2 := Lib.hid (spoil_ Al nl cl os (fdR P x).2.1 w7 hl7.rd hl7.byt hl7.ap (fun k o ha hn hk => hl7.sep k hk ⟨by have := hl7.room.2.1; omega, o, ha⟩) (by have := fdR_len P x; have := hl7.n_; have := splF_bodies (fdR P x).1; have := HM.out.j.n_; omega) (fun t ht => by
        obtain ⟨i, hi, rfl⟩ := List.mem_iff_getElem.1 ht
        obtain ⟨xs, h1, h2⟩ := hl7.byt.at_ i _ (List.getElem?_eq_getElem hi)
        have h3 := h2.room.1
        rw [List.length_map] at h3
        rw [← h3]
        exact HML.out xs (List.mem_of_getElem? h1)))
      have HJ7 := Lib.hid hj7
      clear HSP hl7 hj7 ch7
      go_wp2_with fail
      refine HSP2.out.mono ?_; rintro e w8 ⟨rfl, ch8⟩
      have hj8 := HJ7.out.chg ch8 (fun k ht => HM.out.tl k ht) (fun k o ha hn => (HM.out.ts k o ha hn).2)
      have HJ8 := Lib.hid hj8
      have hc8 := hj8.ref.cell0
      have HT := Lib.hid (rtells_ s'.A s'.n s'.c (fdR P x).1 w8 hj8.rd hj8.lt hj8.cap (by omega))
      clear HSP2 hj8 ch8 HJ7 HM E6
      generalize hP' : (fdR P x).1 = P' at HT HJ8
      clear hP' HML
      obtain ⟨t1, t2, t3, t4⟩ := stOf_tells P'
      have hst := stOf_held P'
      have hPn' := HJ8.out.n_
      have HH := Lib.hid (fun w' (e : Ext w8 w') => held_ (HJ8.out.stm.ext e))
      have HN := Lib.hid (fun w' (e : Ext w8 w') => need2_ (HJ8.out.stm.ext e) (by omega))
      have HFr := Lib.hid (fun w' (e : Ext w8 w') => frames2_ (HJ8.out.stm.ext e))
      have HDd := Lib.hid (fun w' (e : Ext w8 w') => dead_ (HJ8.out.stm.ext e))
      have HRD := Lib.hid (fun w' (e : Ext w8 w') => rdead_ s'.A s'.n s'.c P' w' (HJ8.out.rd.ext e) HJ8.out.lt HJ8.out.cap (by omega))
      rw [t1] at HH
      rw [t2] at HN
      rw [t3] at HFr
      rw [t4] at HDd
      clear t1 t2 t3 t4 hst hPn'
      generalize (TellsP P').1 = a1 at *
      generalize (TellsP P').2.1 = a2 at *
      generalize (TellsP P').2.2 = a3 at *
      generalize decide (erF (splF P').2 = 31) = dd at *
      go_wp2_with fail
      refine HT.out.mono ?_; rintro e w9 ⟨rfl, e9⟩
      have hc9 := (HJ8.out.ref.ext e9).cell0
      have B9 := Lib.hid (HJ8.out.ref.ext e9)
      have E9 := Lib.hid e9
      clear HT e9 hc8
      go_upto_region 20 with fail
      go_cut [109] from 87 to 109 (fun v wx => v = .bool false ∧ Ext w9 wx)
      case first =>
        have HC0 : Hid (w9.drew.cell? ⟨rb, 0, none⟩ = some (.slice s'.A s'.n s'.c)) := Lib.hid hc9
        (go_region_held_law (fun w' => w'.cell? ⟨rb, 0, none⟩ = some (.slice s'.A s'.n s'.c)) (first | assumption | exact HCd.out | exact HC0.out)
          (first
            | (go_at_call 26; refine (HH.out _ (E9.out.t (Ext.drew _))).mono ?_; rintro e wf ⟨rfl, rfl⟩)
            | (go_at_call 27; refine (HN.out _ (E9.out.t (Ext.drew _))).mono ?_; rintro e wf ⟨rfl, rfl⟩)
            | (go_at_call 28; refine (HFr.out _ (E9.out.t (Ext.drew _))).mono ?_; rintro e wf ⟨rfl, rfl⟩)
            | (go_at_call 29; refine (HDd.out _ (E9.out.t (Ext.drew _))).mono ?_; rintro e wf ⟨rfl, rfl⟩)
            | (go_at_call 56; refine (HRD.out _ (E9.out.t (Ext.drew _))).mono ?_; rintro e wd ⟨rfl, ed⟩; have Ed := Lib.hid ed; have HCd := Lib.hid ((B9.out.drew.ext ed).cell0); clear ed)))
        all_goals go_wp2_with fail
        all_goals go_simp
        all_goals go_meet
        all_goals exact ⟨rfl, (Ext.drew _).t Ed.out⟩
      case rest =>
      obtain ⟨rfl, ex⟩ := hcut
      have HFin := Lib.hid (HJ8.out.ext_ (E9.out.t ex))
      clear ex
      go_wp2_with fail
      go_roundw
      case rel => exact ⟨k + 1, by omega, by go_num, Lib.hid ⟨_, _, _, HFin.out⟩⟩
      case measure => simp [intOf]; omega
    · obtain rfl : n = k := by omega
      obtain ⟨P, s1, s0, hJ⟩ := HJ.out
      have E := Lib.hid hJ.ext
      clear hJ
      go_wp2_with fail
      go_ret
      exact ⟨rfl, E.out⟩
end Go.Proofs.Ytippgnbmilnjbaa
