/- Tls: the law's tells: for any program and any number it answers true. -/
import Derived.Test.YtlneifgihdickaaTlp
namespace Go.Fx
open Go.RowKit Go.Proofs Go.Proofs.Ytlneifgihdickaa
theorem lsb_cells {B : Nat} {w : World} {g o n c j : Nat} {fs : List (Nat × Nat)} {ss : List Sl} {ls : List (List Nat)} {x : Nat × Nat} {s : Sl} (h : Lsb B w (some ⟨g, o, none⟩) n c fs ss ls) (hx : fs[j]? = some x) (hs : ss[j]? = some s) :
    w.cell? ⟨g, o + j * 3, none⟩ = some (.int .i64 (x.1 : Int)) ∧ w.cell? ⟨g, o + j * 3 + 1, none⟩ = some (.int .i64 (x.2 : Int)) ∧ w.cell? ⟨g, o + j * 3 + 2, none⟩ = some (.slice s.A s.n s.c) := by
  have hz : (fs.zip ss)[j]? = some (x, s) := by rw [List.getElem?_zip_eq_some]; exact ⟨hx, hs⟩
  refine ⟨?_, ?_, ?_⟩
  · have h1 := h.room.cellAt (k := j * 3 + 0) (u := .int .i64 (x.1 : Int)) (by rw [flat_get blC_len _ j 0 (x, s) hz (by decide)]; rfl)
    exact h1
  · rw [Nat.add_assoc]
    exact h.room.cellAt (k := j * 3 + 1) (by rw [flat_get blC_len _ j 1 (x, s) hz (by decide)]; rfl)
  · rw [Nat.add_assoc]
    exact h.room.cellAt (k := j * 3 + 2) (by rw [flat_get blC_len _ j 2 (x, s) hz (by decide)]; rfl)
/-- The program, a copy, and a copy for the reference. -/
structure TlJ (w : World) (A : Option Addr) (n : Nat) (p : List Ins) (A5 : Option Addr) (c5 : Nat) (A2 : Option Addr) (W : World) : Prop where
  rp : RdS 5 insC W A n p
  ro : RoomS 5 W A5 n c5 (p.flatMap insC)
  rx : RdS 5 insC W A2 n p
  ext : Ext w W
theorem TlJ.x {w W W' : World} {A : Option Addr} {n : Nat} {p : List Ins} {A5 : Option Addr} {c5 : Nat} {A2 : Option Addr} (h : TlJ w A n p A5 c5 A2 W) (e : Ext W W') : TlJ w A n p A5 c5 A2 W' := ⟨h.rp.ext e, h.ro.ext e, h.rx.ext e, h.ext.t e⟩
end Go.Fx
namespace Go.Proofs.Ytlneifgihdickaa
open Go.RowKit Go.Fx
/-- A call that tells of numbers. -/
def TelN (l : List Nat) (E m : Nat) (w : World) (e : Ending) (w' : World) : Prop := ∃ A c, e = .returned (.tuple #[.slice A m c, .int .i64 (E : Int)]) ∧ Room w' A m c (l.map intv) ∧ (∀ k, foot A c k → w.heap.size ≤ k) ∧ Ext w w'
theorem tel_n {l : List Nat} {E m : Nat} {w : World} {e : Ending} {w' : World} {r : List Nat × Nat} (hr : r = (l, E)) (hm : l.length = m) (h : NumsP r w e w') : TelN l E m w e w' := by
  subst hr hm
  exact h
theorem sl_toP {A : Option Addr} {n c hi : Nat} {li : Int} (w : World) (e : li = (hi : Int)) (h2 : hi ≤ c) :
    (Instr.sliceAt 24 (.slice A n c) none (some (.int .i64 li)) none).run Try.prog w = .ok (.slice A hi c) w := by
  subst e
  have h4 : (hi : Int) ≤ (c : Int) := by omega
  have h5 : (0 : Int) ≤ (hi : Int) := by omega
  simp [go_sem, sliced, h4, Addr.add]
theorem same_K {A1 A2 : Option Addr} {n c1 c2 : Nat} {w : World} {xs : List Bk} (h1 : BlsR w A1 n xs) (h2 : BlsR w A2 n xs) (hm : n ≤ 1000000000) : Calls Try.prog 29 #[.slice A1 n c1, .slice A2 n c2] w fun e w' => e = .returned (.bool true) ∧ Ext w w' := by
  have := blocks_law A1 A2 n n c1 c2 xs xs w h1 h2 hm
  rwa [decide_eq_true rfl] at this
theorem nxt_len (p : List Ins) (i : Int) : (nextF p i).1.length ≤ 2 := by
  unfold nextF
  split
  · simp
  · split
    · simp
    · exact edF_len p _
theorem bef_len (p : List Ins) (i : Int) : (befF p i).1.length ≤ p.length := by
  unfold befF
  split
  · simp
  · split
    · simp
    · exact befN_len p _ _
theorem rchR_len {p : List Ins} {bs : List Bool} {E : Nat} (h : RchR p bs E) : bs.length ≤ p.length := by
  rcases h with ⟨_, _, d, h2, rfl⟩ | ⟨_, _, rfl⟩
  · unfold rchB; rw [List.length_map, h2.len]; exact Nat.le_refl _
  · exact Nat.zero_le _
theorem endR_len {p : List Ins} {bs : List Bool} {E : Nat} (h : EndR p bs E) : bs.length ≤ p.length := by
  rcases h with ⟨_, _, h2⟩ | ⟨_, _, rfl⟩
  · rw [h2.len]; exact Nat.le_refl _
  · exact Nat.zero_le _
theorem disR_len {p : List Ins} {bs : List Int} {E : Nat} (h : DisR p bs E) : bs.length ≤ p.length := by
  rcases h with ⟨_, _, h2⟩ | ⟨_, _, rfl⟩
  · rw [h2.len]; exact Nat.le_refl _
  · exact Nat.zero_le _
theorem domR_len {p : List Ins} {bs : List Int} {E : Nat} (h : DomR p bs E) : bs.length ≤ p.length := by
  rcases h with ⟨_, _, h2⟩ | ⟨_, _, rfl⟩
  · rw [h2.len]; exact Nat.le_refl _
  · exact Nat.zero_le _
set_option maxRecDepth 100000 in
set_option maxHeartbeats 16000000 in
theorem tells_ (A : Option Addr) (n c : Nat) (p : List Ins) (i : Int) (w : World) (h : RdS 5 insC w A n p) (hnc : n ≤ c) :
    Calls Try.prog 23 #[.slice A n c, .int .i64 i] w fun e w' => e = .returned (.bool true) ∧ Ext w w' := by
  have HPL := Lib.hid h.1
  have HPB : Hid (∀ k o, A = some ⟨k, o, none⟩ → 0 < n → k < w.heap.size) := Lib.hid (fun k o hA h0 => by
    obtain ⟨b, o', h1, h2, _⟩ := h.2 h0
    rw [hA] at h1
    cases h1
    exact h2)
  by_cases h300 : n ≤ 300
  · have q1 : (n : Int) ≤ 301 := by omega
    have q2 : ¬ (301 : Int) < (n : Int) := by omega
    have q3 : ¬ (300 : Int) < (n : Int) := by omega
    have hd3 : decide ((300 : Int) < (n : Int)) = false := decide_eq_false q3
    have hsl := fun w' => sl_toP (A := A) (n := n) (c := c) (hi := n) (li := (n : Int)) w' rfl hnc
    have HTH := Lib.hid (theirs_ A n c p w h (by omega))
    have HP0 := Lib.hid h
    obtain ⟨⟨l0, E0⟩, hl0⟩ : ∃ r, r = nextF p 0 := ⟨_, rfl⟩
    have HN0 : Hid (∀ W A' c', RdS 5 insC W A' n p → Calls Try.prog 44 #[.slice A' n c', .int .i64 0] W (TelN l0 E0 l0.length W)) := Lib.hid (fun W A' c' h => (rnext_ A' n c' p 0 W h).mono (fun e w' h2 => tel_n hl0.symm rfl h2))
    clear h hl0
    go_enter Try.func23, Try.ntmps23
    go_wp2_with fail
    refine HTH.out.mono ?_; rintro e w2 ⟨A2, n2, c2, rfl, hn⟩
    obtain rfl : n2 = n := by have := hn.n_; have := HPL.out; omega
    have HX2 := Lib.hid hn.rd
    have E2 := Lib.hid hn.ext
    clear hn HTH
    go_wp2_with fail
    refine (HN0.out _ A2 c2 HX2.out).mono ?_; rintro e w3 ⟨A3, c3, rfl, -, -, x3⟩
    have HP4 := Lib.hid (HP0.out.ext (E2.out.t x3))
    have HX4 := Lib.hid (HX2.out.ext x3)
    have E4 := Lib.hid (E2.out.t x3)
    clear x3 HP0 HX2 E2 HN0
    by_cases hgo : n2 ≤ 60 ∨ (¬ n2 ≤ 250 ∧ E0 ≠ 0)
    · go_upto_region 3 with fail
      go_cut [69] from 53 to 69 (fun v wx => v = .bool false ∧ wx = w3)
      case first =>
        by_cases h60 : n2 ≤ 60
        · have q4 : ¬ (60 : Int) < (n2 : Int) := by omega
          have hd4 : decide ((60 : Int) < (n2 : Int)) = false := decide_eq_false q4
          go_wp2_with fail
          go_meet
          exact ⟨by simp, rfl⟩
        · have q4 : (60 : Int) < (n2 : Int) := by omega
          have hd4 : decide ((60 : Int) < (n2 : Int)) = true := decide_eq_true q4
          have q5 : ¬ (n2 : Int) ≤ 250 := by omega
          have hd5 : decide ((n2 : Int) ≤ 250) = false := decide_eq_false q5
          have q6 : ((E0 : Int) == 0) = false := by simp; omega
          go_wp2_with fail
          go_meet
          exact ⟨by simp, rfl⟩
      case rest =>
        obtain ⟨rfl, rfl⟩ := hcut
        clear hgo
        have HCL := Lib.hid (cloneI A n2 c insC_len insC_one p _ HP4.out (by omega))
        go_wp2_with fail
        refine HCL.out.mono ?_; rintro e w5 ⟨A5, c5, rfl, r5, x5, ft5⟩
        have HT : Hid (TlJ w A n2 p A5 c5 A2 w5) := Lib.hid ⟨HP4.out.ext x5, r5, HX4.out.ext x5, E4.out.t x5⟩
        have HO5 : Hid (∀ k, foot A5 c5 k → k < w5.heap.size) := Lib.hid (fun k hk => r5.lt hk)
        have HW5 : Hid (w.heap.size ≤ w5.heap.size) := Lib.hid (E4.out.t x5).size
        clear r5 x5 ft5 HCL HP4 HX4 E4
        obtain ⟨⟨la, Ea⟩, hla⟩ : ∃ r, r = nextF p i := ⟨_, rfl⟩
        obtain ⟨⟨lb, Eb⟩, hlb⟩ : ∃ r, r = befF p i := ⟨_, rfl⟩
        obtain ⟨ma, hma⟩ : ∃ m, m = la.length := ⟨_, rfl⟩
        obtain ⟨mb, hmb⟩ : ∃ m, m = lb.length := ⟨_, rfl⟩
        have hma2 : ma ≤ 2 := by have := nxt_len p i; rw [← hla] at this; rw [hma]; exact this
        have hmb2 : mb ≤ 300 := by have := bef_len p i; rw [← hlb] at this; rw [hmb]; have := HPL.out; simp only at *; omega
        have HA : Hid (∀ W A' c', RdS 5 insC W A' n2 p → Calls Try.prog 14 #[.slice A' n2 c', .int .i64 i] W (TelN la Ea ma W)) := Lib.hid (fun W A' c' h => (next_ A' n2 c' p i W h).mono (fun e w' h2 => tel_n hla.symm hma.symm h2))
        have HB : Hid (∀ W A' c', RdS 5 insC W A' n2 p → Calls Try.prog 15 #[.slice A' n2 c', .int .i64 i] W (TelN lb Eb mb W)) := Lib.hid (fun W A' c' h => (beforeF_ A' n2 c' p i W h).mono (fun e w' h2 => tel_n hlb.symm hmb.symm h2))
        have HA' : Hid (∀ W A' c', RdS 5 insC W A' n2 p → Calls Try.prog 44 #[.slice A' n2 c', .int .i64 i] W (TelN la Ea ma W)) := Lib.hid (fun W A' c' h => (rnext_ A' n2 c' p i W h).mono (fun e w' h2 => tel_n hla.symm hma.symm h2))
        have HB' : Hid (∀ W A' c', RdS 5 insC W A' n2 p → Calls Try.prog 45 #[.slice A' n2 c', .int .i64 i] W (TelN lb Eb mb W)) := Lib.hid (fun W A' c' h => (rbefore_ A' n2 c' p i W h).mono (fun e w' h2 => tel_n hlb.symm hmb.symm h2))
        clear hla hlb hma hmb
        go_wp2_with fail
        refine (HA.out _ A5 c5 (HT.out.ro.rd insC_len (by decide))).mono ?_; rintro e w6 ⟨Aa, ca, rfl, ra, fa, x1⟩
        have LS : Hid (LsN [⟨Aa, ma, ca⟩] [la.map fun k : Nat => (k : Int)] w6) := Lib.hid (LsN.one (by rw [map_z]; exact ra))
        have LO : Hid (∀ k, foots [⟨Aa, ma, ca⟩] k → w5.heap.size ≤ k) := Lib.hid (fun k ⟨t, ht, hk⟩ => by
          obtain rfl := List.mem_singleton.1 ht
          exact fa k hk)
        have X5 : Hid (Ext w5 w6) := Lib.hid x1
        have RA := Lib.hid ra.rd
        replace HT := Lib.hid (HT.out.x x1)
        clear ra fa x1
        go_wp2_with fail
        refine (HB.out _ A5 c5 (HT.out.ro.rd insC_len (by decide))).mono ?_; rintro e w7 ⟨Ab, cb, rfl, rb, fb, x1⟩
        replace LS : Hid (LsN [⟨Aa, ma, ca⟩, ⟨Ab, mb, cb⟩] [la.map fun k : Nat => (k : Int), lb.map fun k : Nat => (k : Int)] w7) := Lib.hid (LS.out.snoc x1 (by rw [map_z]; exact rb) fb)
        replace LO : Hid (∀ k, foots [⟨Aa, ma, ca⟩, ⟨Ab, mb, cb⟩] k → w5.heap.size ≤ k) := Lib.hid (fun k hk => by
          rcases (foots_append (a := [⟨Aa, ma, ca⟩]) (b := [⟨Ab, mb, cb⟩])).1 hk with hk | ⟨t, ht, hk⟩
          · exact LO.out k hk
          · obtain rfl := List.mem_singleton.1 ht
            exact Nat.le_trans X5.out.size (fb k hk))
        replace X5 := Lib.hid (X5.out.t x1)
        replace RA := Lib.hid (RA.out.ext x1)
        have RB := Lib.hid rb.rd
        replace HT := Lib.hid (HT.out.x x1)
        clear rb fb x1
        go_wp2_with fail
        refine (t_reach (HT.out.ro.rd insC_len (by decide))).mono ?_; rintro e w8 ⟨Ar, mr, cr, br, Er, rfl, hr, rr, -, x1⟩
        replace LS := Lib.hid (LS.out.x x1)
        replace X5 := Lib.hid (X5.out.t x1)
        have RR := Lib.hid rr.rd
        have HRr := Lib.hid hr
        replace HT := Lib.hid (HT.out.x x1)
        replace RA := Lib.hid (RA.out.ext x1)
        replace RB := Lib.hid (RB.out.ext x1)
        clear rr hr x1
        go_wp2_with fail
        refine (t_ends (HT.out.ro.rd insC_len (by decide))).mono ?_; rintro e w9 ⟨Ah, mh, ch, bh, Eh, rfl, hr, rr, -, x1⟩
        replace LS := Lib.hid (LS.out.x x1)
        replace X5 := Lib.hid (X5.out.t x1)
        have RH := Lib.hid rr.rd
        have HRh := Lib.hid hr
        replace HT := Lib.hid (HT.out.x x1)
        replace RA := Lib.hid (RA.out.ext x1)
        replace RB := Lib.hid (RB.out.ext x1)
        replace RR := Lib.hid (RR.out.ext x1)
        clear rr hr x1
        go_wp2_with fail
        refine (t_dist (HT.out.ro.rd insC_len (by decide))).mono ?_; rintro e w10 ⟨Ad, md, cd, bd, Ed, rfl, hr, rd, fd, x1⟩
        replace LS : Hid (LsN [⟨Aa, ma, ca⟩, ⟨Ab, mb, cb⟩, ⟨Ad, md, cd⟩] [la.map fun k : Nat => (k : Int), lb.map fun k : Nat => (k : Int), bd] w10) := Lib.hid (LS.out.snoc x1 rd fd)
        replace LO : Hid (∀ k, foots [⟨Aa, ma, ca⟩, ⟨Ab, mb, cb⟩, ⟨Ad, md, cd⟩] k → w5.heap.size ≤ k) := Lib.hid (fun k hk => by
          rcases (foots_append (a := [⟨Aa, ma, ca⟩, ⟨Ab, mb, cb⟩]) (b := [⟨Ad, md, cd⟩])).1 hk with hk | ⟨t, ht, hk⟩
          · exact LO.out k hk
          · obtain rfl := List.mem_singleton.1 ht
            exact Nat.le_trans X5.out.size (fd k hk))
        replace X5 := Lib.hid (X5.out.t x1)
        have RD := Lib.hid rd.rd
        have HRd := Lib.hid hr
        replace HT := Lib.hid (HT.out.x x1)
        replace RA := Lib.hid (RA.out.ext x1)
        replace RB := Lib.hid (RB.out.ext x1)
        replace RR := Lib.hid (RR.out.ext x1)
        replace RH := Lib.hid (RH.out.ext x1)
        clear rd fd hr x1
        go_wp2_with fail
        refine (t_dom (HT.out.ro.rd insC_len (by decide))).mono ?_; rintro e w11 ⟨Am, mm, cm, bm, Em, rfl, hr, rd, fd, x1⟩
        replace LS : Hid (LsN [⟨Aa, ma, ca⟩, ⟨Ab, mb, cb⟩, ⟨Ad, md, cd⟩, ⟨Am, mm, cm⟩] [la.map fun k : Nat => (k : Int), lb.map fun k : Nat => (k : Int), bd, bm] w11) := Lib.hid (LS.out.snoc x1 rd fd)
        replace LO : Hid (∀ k, foots [⟨Aa, ma, ca⟩, ⟨Ab, mb, cb⟩, ⟨Ad, md, cd⟩, ⟨Am, mm, cm⟩] k → w5.heap.size ≤ k) := Lib.hid (fun k hk => by
          rcases (foots_append (a := [⟨Aa, ma, ca⟩, ⟨Ab, mb, cb⟩, ⟨Ad, md, cd⟩]) (b := [⟨Am, mm, cm⟩])).1 hk with hk | ⟨t, ht, hk⟩
          · exact LO.out k hk
          · obtain rfl := List.mem_singleton.1 ht
            exact Nat.le_trans X5.out.size (fd k hk))
        replace X5 := Lib.hid (X5.out.t x1)
        have RM := Lib.hid rd.rd
        have HRm := Lib.hid hr
        replace HT := Lib.hid (HT.out.x x1)
        replace RA := Lib.hid (RA.out.ext x1)
        replace RB := Lib.hid (RB.out.ext x1)
        replace RR := Lib.hid (RR.out.ext x1)
        replace RH := Lib.hid (RH.out.ext x1)
        replace RD := Lib.hid (RD.out.ext x1)
        clear rd fd hr x1
        go_wp2_with fail
        refine (t_blk (HT.out.ro.rd insC_len (by decide))).mono ?_; rintro e w12 ⟨Al, ml, cl, fs, ss, nl, El, rfl, hr, hb, x1⟩
        have LS2 : Hid (LsN ([⟨Aa, ma, ca⟩, ⟨Ab, mb, cb⟩, ⟨Ad, md, cd⟩, ⟨Am, mm, cm⟩] ++ ss) ([la.map fun k : Nat => (k : Int), lb.map fun k : Nat => (k : Int), bd, bm] ++ nl.map fun l => l.map fun k : Nat => (k : Int)) w12) := Lib.hid (LS.out.app x1 (LsN.blocks hb) (fun k hk => hb.new k (.inr hk)))
        replace LO : Hid (∀ k, foots ([⟨Aa, ma, ca⟩, ⟨Ab, mb, cb⟩, ⟨Ad, md, cd⟩, ⟨Am, mm, cm⟩] ++ ss) k → w5.heap.size ≤ k) := Lib.hid (fun k hk => by
          rcases foots_append.1 hk with hk | hk
          · exact LO.out k hk
          · exact Nat.le_trans X5.out.size (hb.new k (.inr hk)))
        clear LS
        replace X5 := Lib.hid (X5.out.t x1)
        have HLB := Lib.hid hb
        have HRl := Lib.hid hr
        replace HT := Lib.hid (HT.out.x x1)
        replace RA := Lib.hid (RA.out.ext x1)
        replace RB := Lib.hid (RB.out.ext x1)
        replace RR := Lib.hid (RR.out.ext x1)
        replace RH := Lib.hid (RH.out.ext x1)
        replace RD := Lib.hid (RD.out.ext x1)
        replace RM := Lib.hid (RM.out.ext x1)
        clear hb hr x1
        go_wp2_with fail
        refine (HA'.out _ A2 c2 HT.out.rx).mono ?_; rintro e w13 ⟨Aa', ca', rfl, ra, -, x1⟩
        have RA' := Lib.hid ra.rd
        replace LS2 := Lib.hid (LS2.out.x x1)
        replace X5 := Lib.hid (X5.out.t x1)
        replace HT := Lib.hid (HT.out.x x1)
        replace HLB := Lib.hid (HLB.out.ext x1)
        replace RA := Lib.hid (RA.out.ext x1)
        replace RB := Lib.hid (RB.out.ext x1)
        replace RR := Lib.hid (RR.out.ext x1)
        replace RH := Lib.hid (RH.out.ext x1)
        replace RD := Lib.hid (RD.out.ext x1)
        replace RM := Lib.hid (RM.out.ext x1)
        clear ra x1
        go_wp2_with fail
        refine (HB'.out _ A2 c2 HT.out.rx).mono ?_; rintro e w14 ⟨Ab', cb', rfl, ra, -, x1⟩
        have RB' := Lib.hid ra.rd
        replace LS2 := Lib.hid (LS2.out.x x1)
        replace X5 := Lib.hid (X5.out.t x1)
        replace HT := Lib.hid (HT.out.x x1)
        replace HLB := Lib.hid (HLB.out.ext x1)
        replace RA := Lib.hid (RA.out.ext x1)
        replace RB := Lib.hid (RB.out.ext x1)
        replace RR := Lib.hid (RR.out.ext x1)
        replace RH := Lib.hid (RH.out.ext x1)
        replace RD := Lib.hid (RD.out.ext x1)
        replace RM := Lib.hid (RM.out.ext x1)
        replace RA' := Lib.hid (RA'.out.ext x1)
        clear ra x1
        go_wp2_with fail
        refine (u_reach HT.out.rx).mono ?_; rintro e w15 ⟨Ar', mr', cr', br', Er', rfl, hr, ra, -, x1⟩
        obtain ⟨h1, h2⟩ := RchR.eq HRr.out hr
        subst h1 h2
        obtain rfl : mr' = mr := by
          have h3 := RR.out.1
          have h4 := ra.1
          rw [List.length_map] at h4
          omega
        have hmrb : mr' ≤ 300 := by
          have h3 := RR.out.1
          have h4 := rchR_len hr
          have h5 := HPL.out
          omega
        have RR' := Lib.hid ra.rd
        replace LS2 := Lib.hid (LS2.out.x x1)
        replace X5 := Lib.hid (X5.out.t x1)
        replace HT := Lib.hid (HT.out.x x1)
        replace HLB := Lib.hid (HLB.out.ext x1)
        replace RA := Lib.hid (RA.out.ext x1)
        replace RB := Lib.hid (RB.out.ext x1)
        replace RR := Lib.hid (RR.out.ext x1)
        replace RH := Lib.hid (RH.out.ext x1)
        replace RD := Lib.hid (RD.out.ext x1)
        replace RM := Lib.hid (RM.out.ext x1)
        replace RA' := Lib.hid (RA'.out.ext x1)
        replace RB' := Lib.hid (RB'.out.ext x1)
        clear ra hr x1
        go_wp2_with fail
        refine (u_ends HT.out.rx).mono ?_; rintro e w16 ⟨Ah', mh', ch', bh', Eh', rfl, hr, ra, -, x1⟩
        obtain ⟨h1, h2⟩ := EndR.eq HRh.out hr
        subst h1 h2
        obtain rfl : mh' = mh := by
          have h3 := RH.out.1
          have h4 := ra.1
          rw [List.length_map] at h4
          omega
        have hmhb : mh' ≤ 300 := by
          have h3 := RH.out.1
          have h4 := endR_len hr
          have h5 := HPL.out
          omega
        have RH' := Lib.hid ra.rd
        replace LS2 := Lib.hid (LS2.out.x x1)
        replace X5 := Lib.hid (X5.out.t x1)
        replace HT := Lib.hid (HT.out.x x1)
        replace HLB := Lib.hid (HLB.out.ext x1)
        replace RA := Lib.hid (RA.out.ext x1)
        replace RB := Lib.hid (RB.out.ext x1)
        replace RR := Lib.hid (RR.out.ext x1)
        replace RH := Lib.hid (RH.out.ext x1)
        replace RD := Lib.hid (RD.out.ext x1)
        replace RM := Lib.hid (RM.out.ext x1)
        replace RA' := Lib.hid (RA'.out.ext x1)
        replace RB' := Lib.hid (RB'.out.ext x1)
        replace RR' := Lib.hid (RR'.out.ext x1)
        clear ra hr x1
        go_wp2_with fail
        refine (u_dist HT.out.rx).mono ?_; rintro e w17 ⟨Ad', md', cd', bd', Ed', rfl, hr, ra, -, x1⟩
        obtain ⟨h1, h2⟩ := DisR.eq HRd.out hr
        subst h1 h2
        obtain rfl : md' = md := by
          have h3 := RD.out.1
          have h4 := ra.1
          rw [List.length_map] at h4
          omega
        have hmdb : md' ≤ 300 := by
          have h3 := RD.out.1
          have h4 := disR_len hr
          have h5 := HPL.out
          omega
        have RD' := Lib.hid ra.rd
        replace LS2 := Lib.hid (LS2.out.x x1)
        replace X5 := Lib.hid (X5.out.t x1)
        replace HT := Lib.hid (HT.out.x x1)
        replace HLB := Lib.hid (HLB.out.ext x1)
        replace RA := Lib.hid (RA.out.ext x1)
        replace RB := Lib.hid (RB.out.ext x1)
        replace RR := Lib.hid (RR.out.ext x1)
        replace RH := Lib.hid (RH.out.ext x1)
        replace RD := Lib.hid (RD.out.ext x1)
        replace RM := Lib.hid (RM.out.ext x1)
        replace RA' := Lib.hid (RA'.out.ext x1)
        replace RB' := Lib.hid (RB'.out.ext x1)
        replace RR' := Lib.hid (RR'.out.ext x1)
        replace RH' := Lib.hid (RH'.out.ext x1)
        clear ra hr x1
        go_wp2_with fail
        refine (u_dom HT.out.rx).mono ?_; rintro e w18 ⟨Am', mm', cm', bm', Em', rfl, hr, ra, -, x1⟩
        obtain ⟨h1, h2⟩ := DomR.eq HRm.out hr
        subst h1 h2
        obtain rfl : mm' = mm := by
          have h3 := RM.out.1
          have h4 := ra.1
          rw [List.length_map] at h4
          omega
        have hmmb : mm' ≤ 300 := by
          have h3 := RM.out.1
          have h4 := domR_len hr
          have h5 := HPL.out
          omega
        have RM' := Lib.hid ra.rd
        replace LS2 := Lib.hid (LS2.out.x x1)
        replace X5 := Lib.hid (X5.out.t x1)
        replace HT := Lib.hid (HT.out.x x1)
        replace HLB := Lib.hid (HLB.out.ext x1)
        replace RA := Lib.hid (RA.out.ext x1)
        replace RB := Lib.hid (RB.out.ext x1)
        replace RR := Lib.hid (RR.out.ext x1)
        replace RH := Lib.hid (RH.out.ext x1)
        replace RD := Lib.hid (RD.out.ext x1)
        replace RM := Lib.hid (RM.out.ext x1)
        replace RA' := Lib.hid (RA'.out.ext x1)
        replace RB' := Lib.hid (RB'.out.ext x1)
        replace RR' := Lib.hid (RR'.out.ext x1)
        replace RH' := Lib.hid (RH'.out.ext x1)
        replace RD' := Lib.hid (RD'.out.ext x1)
        clear ra hr x1
        go_wp2_with fail
        refine (u_blk HT.out.rx).mono ?_; rintro e w19 ⟨Al', ml', cl', fs', ss', nl', El', rfl, hr, hb, x1⟩
        obtain ⟨h1, h2, h3⟩ := BlkR.eq HRl.out hr
        subst h1 h2 h3
        obtain rfl : ml' = ml := by
          have h3 := HLB.out.fl
          have h4 := hb.fl
          omega
        have HNL : Hid (∀ l ∈ nl, l.length ≤ 2) := Lib.hid (fun l hl => by
          rcases HRl.out with ⟨_, _, _, h2⟩ | ⟨_, _, _, h2⟩
          · rw [h2] at hl
            obtain ⟨x, _, rfl⟩ := List.mem_map.1 hl
            have := edF_len p (x.2 - 1)
            rw [List.length_map]; exact this
          · rw [h2] at hl; cases hl)
        have hml : ml' ≤ 300 := by
          have h3 := HLB.out.fl
          rcases HRl.out with ⟨_, _, h2, _⟩ | ⟨_, _, h2, _⟩
          · rw [h2] at h3
            have h4 := blkN_le (ledF p p.length) p.length
            have h5 := HPL.out
            omega
          · rw [h2] at h3
            simp at h3
            omega
        have RL' := Lib.hid (hb.bls (fun l hl => by have := HNL.out l hl; omega))
        replace LS2 := Lib.hid (LS2.out.x x1)
        replace X5 := Lib.hid (X5.out.t x1)
        replace HT := Lib.hid (HT.out.x x1)
        replace HLB := Lib.hid (HLB.out.ext x1)
        replace RA := Lib.hid (RA.out.ext x1)
        replace RB := Lib.hid (RB.out.ext x1)
        replace RR := Lib.hid (RR.out.ext x1)
        replace RH := Lib.hid (RH.out.ext x1)
        replace RD := Lib.hid (RD.out.ext x1)
        replace RM := Lib.hid (RM.out.ext x1)
        replace RA' := Lib.hid (RA'.out.ext x1)
        replace RB' := Lib.hid (RB'.out.ext x1)
        replace RR' := Lib.hid (RR'.out.ext x1)
        replace RH' := Lib.hid (RH'.out.ext x1)
        replace RD' := Lib.hid (RD'.out.ext x1)
        replace RM' := Lib.hid (RM'.out.ext x1)
        have RL := Lib.hid (HLB.out.bls (fun l hl => by have := HNL.out l hl; omega))
        clear hb hr x1 HRr HRh HRd HRm HA HB HA' HB'
        go_wp2_with (refine wpl_build (by rfl) rfl ul_er info_er [.tmp 146, .tmp 147, .tmp 148, .tmp 149, .tmp 150, .tmp 151, .tmp 152] (by rfl) (by rfl) (by decide) (f := intv) [Ea, Eb, Er, Eh, Ed, Em, El] (by rfl) (fun _ => rfl) ?_)
        intro g20 w20 y1 x1 lo1 r1; refine Lib.hid ?_
        have RE := Lib.hid r1
        replace LS2 := Lib.hid (LS2.out.x x1)
        replace X5 := Lib.hid (X5.out.t x1)
        replace HT := Lib.hid (HT.out.x x1)
        replace HLB := Lib.hid (HLB.out.ext x1)
        replace RA := Lib.hid (RA.out.ext x1)
        replace RB := Lib.hid (RB.out.ext x1)
        replace RR := Lib.hid (RR.out.ext x1)
        replace RH := Lib.hid (RH.out.ext x1)
        replace RD := Lib.hid (RD.out.ext x1)
        replace RM := Lib.hid (RM.out.ext x1)
        replace RA' := Lib.hid (RA'.out.ext x1)
        replace RB' := Lib.hid (RB'.out.ext x1)
        replace RR' := Lib.hid (RR'.out.ext x1)
        replace RH' := Lib.hid (RH'.out.ext x1)
        replace RD' := Lib.hid (RD'.out.ext x1)
        replace RM' := Lib.hid (RM'.out.ext x1)
        replace RL := Lib.hid (RL.out.ext x1)
        replace RL' := Lib.hid (RL'.out.ext x1)
        clear y1 x1 lo1 r1
        obtain ⟨es, hes⟩ : ∃ es, es = [Ea, Eb, Er, Eh, Ed, Em, El] := ⟨_, rfl⟩
        rw [← hes] at RE
        have HES := Lib.hid hes
        clear hes
        go_wp2_with fail
        go_loopw [155] (fun v155 wr => ∃ j : Nat, j ≤ 7 ∧ v155 = .int .i64 (j : Int) ∧ Hid (Ext w20 wr)) (fun v _ => 7 - (intOf v).toNat)
        case atStart => exact ⟨0, by omega, rfl, Lib.hid (Ext.refl _)⟩
        case round =>
          obtain ⟨j, hj, rfl, HJ⟩ := hrel
          by_cases hlj : j < 7
          · have hjI : (j : Int) < 7 := by omega
            obtain ⟨_, _, z, hh, hz, cz⟩ := rd_get (RE.out.ext HJ.out) hlj
            cases hh
            unfold intv at cz
            rw [Nat.zero_add] at cz
            have Hz := Lib.hid hz
            have hzz : ((z : Int) != (z : Int)) = false := by simp
            clear hz
            go_wp2_with (refine wpl_build (by rfl) rfl ul_in info_in [.tmp 161, .tmp 162, .tmp 163, .tmp 164, .tmp 165, .tmp 166, .tmp 167] (by rfl) (by rfl) (by decide) (f := intv) [Ea, Eb, Er, Eh, Ed, Em, El] (by rfl) (fun _ => rfl) ?_)
            intro g21 w21 y1 x1 lo1 r1; refine Lib.hid ?_
            rw [← HES.out] at r1
            obtain ⟨_, _, z', hh, hz', cz'⟩ := rd_get r1 hlj
            cases hh
            have hzz' : z = z' := by rw [Hz.out] at hz'; exact Option.some.inj hz'
            rw [← hzz'] at cz'
            unfold intv at cz'
            rw [Nat.zero_add] at cz'
            have HJ2 := Lib.hid (HJ.out.t x1)
            clear y1 x1 lo1 r1 hz' hzz' HJ cz
            go_wp2_with fail
            clear cz'
            go_roundw
            case rel => exact ⟨j + 1, by omega, by go_num, HJ2⟩
            case measure => simp [intOf]; omega
          · obtain rfl : j = 7 := by omega
            have x1 := HJ.out
            replace LS2 := Lib.hid (LS2.out.x x1)
            replace X5 := Lib.hid (X5.out.t x1)
            replace HT := Lib.hid (HT.out.x x1)
            replace HLB := Lib.hid (HLB.out.ext x1)
            replace RA := Lib.hid (RA.out.ext x1)
            replace RB := Lib.hid (RB.out.ext x1)
            replace RR := Lib.hid (RR.out.ext x1)
            replace RH := Lib.hid (RH.out.ext x1)
            replace RD := Lib.hid (RD.out.ext x1)
            replace RM := Lib.hid (RM.out.ext x1)
            replace RA' := Lib.hid (RA'.out.ext x1)
            replace RB' := Lib.hid (RB'.out.ext x1)
            replace RR' := Lib.hid (RR'.out.ext x1)
            replace RH' := Lib.hid (RH'.out.ext x1)
            replace RD' := Lib.hid (RD'.out.ext x1)
            replace RM' := Lib.hid (RM'.out.ext x1)
            replace RL := Lib.hid (RL.out.ext x1)
            replace RL' := Lib.hid (RL'.out.ext x1)
            clear x1 HJ RE HES
            go_wp2_with fail
            refine (same_N RA.out RA'.out (by omega)).mono ?_; rintro e w22 ⟨rfl, x1⟩
            replace LS2 := Lib.hid (LS2.out.x x1)
            replace X5 := Lib.hid (X5.out.t x1)
            replace HT := Lib.hid (HT.out.x x1)
            replace HLB := Lib.hid (HLB.out.ext x1)
            replace RA := Lib.hid (RA.out.ext x1)
            replace RB := Lib.hid (RB.out.ext x1)
            replace RR := Lib.hid (RR.out.ext x1)
            replace RH := Lib.hid (RH.out.ext x1)
            replace RD := Lib.hid (RD.out.ext x1)
            replace RM := Lib.hid (RM.out.ext x1)
            replace RA' := Lib.hid (RA'.out.ext x1)
            replace RB' := Lib.hid (RB'.out.ext x1)
            replace RR' := Lib.hid (RR'.out.ext x1)
            replace RH' := Lib.hid (RH'.out.ext x1)
            replace RD' := Lib.hid (RD'.out.ext x1)
            replace RM' := Lib.hid (RM'.out.ext x1)
            replace RL := Lib.hid (RL.out.ext x1)
            replace RL' := Lib.hid (RL'.out.ext x1)
            clear x1
            go_wp2_with fail
            refine (same_N RB.out RB'.out (by omega)).mono ?_; rintro e w23 ⟨rfl, x1⟩
            replace LS2 := Lib.hid (LS2.out.x x1)
            replace X5 := Lib.hid (X5.out.t x1)
            replace HT := Lib.hid (HT.out.x x1)
            replace HLB := Lib.hid (HLB.out.ext x1)
            replace RA := Lib.hid (RA.out.ext x1)
            replace RB := Lib.hid (RB.out.ext x1)
            replace RR := Lib.hid (RR.out.ext x1)
            replace RH := Lib.hid (RH.out.ext x1)
            replace RD := Lib.hid (RD.out.ext x1)
            replace RM := Lib.hid (RM.out.ext x1)
            replace RA' := Lib.hid (RA'.out.ext x1)
            replace RB' := Lib.hid (RB'.out.ext x1)
            replace RR' := Lib.hid (RR'.out.ext x1)
            replace RH' := Lib.hid (RH'.out.ext x1)
            replace RD' := Lib.hid (RD'.out.ext x1)
            replace RM' := Lib.hid (RM'.out.ext x1)
            replace RL := Lib.hid (RL.out.ext x1)
            replace RL' := Lib.hid (RL'.out.ext x1)
            clear x1
            go_wp2_with fail
            refine (same_B RR.out RR'.out (by omega)).mono ?_; rintro e w24 ⟨rfl, x1⟩
            replace LS2 := Lib.hid (LS2.out.x x1)
            replace X5 := Lib.hid (X5.out.t x1)
            replace HT := Lib.hid (HT.out.x x1)
            replace HLB := Lib.hid (HLB.out.ext x1)
            replace RA := Lib.hid (RA.out.ext x1)
            replace RB := Lib.hid (RB.out.ext x1)
            replace RR := Lib.hid (RR.out.ext x1)
            replace RH := Lib.hid (RH.out.ext x1)
            replace RD := Lib.hid (RD.out.ext x1)
            replace RM := Lib.hid (RM.out.ext x1)
            replace RA' := Lib.hid (RA'.out.ext x1)
            replace RB' := Lib.hid (RB'.out.ext x1)
            replace RR' := Lib.hid (RR'.out.ext x1)
            replace RH' := Lib.hid (RH'.out.ext x1)
            replace RD' := Lib.hid (RD'.out.ext x1)
            replace RM' := Lib.hid (RM'.out.ext x1)
            replace RL := Lib.hid (RL.out.ext x1)
            replace RL' := Lib.hid (RL'.out.ext x1)
            clear x1
            go_wp2_with fail
            refine (same_B RH.out RH'.out (by omega)).mono ?_; rintro e w25 ⟨rfl, x1⟩
            replace LS2 := Lib.hid (LS2.out.x x1)
            replace X5 := Lib.hid (X5.out.t x1)
            replace HT := Lib.hid (HT.out.x x1)
            replace HLB := Lib.hid (HLB.out.ext x1)
            replace RA := Lib.hid (RA.out.ext x1)
            replace RB := Lib.hid (RB.out.ext x1)
            replace RR := Lib.hid (RR.out.ext x1)
            replace RH := Lib.hid (RH.out.ext x1)
            replace RD := Lib.hid (RD.out.ext x1)
            replace RM := Lib.hid (RM.out.ext x1)
            replace RA' := Lib.hid (RA'.out.ext x1)
            replace RB' := Lib.hid (RB'.out.ext x1)
            replace RR' := Lib.hid (RR'.out.ext x1)
            replace RH' := Lib.hid (RH'.out.ext x1)
            replace RD' := Lib.hid (RD'.out.ext x1)
            replace RM' := Lib.hid (RM'.out.ext x1)
            replace RL := Lib.hid (RL.out.ext x1)
            replace RL' := Lib.hid (RL'.out.ext x1)
            clear x1
            go_wp2_with fail
            refine (same_Z RD.out RD'.out (by omega)).mono ?_; rintro e w26 ⟨rfl, x1⟩
            replace LS2 := Lib.hid (LS2.out.x x1)
            replace X5 := Lib.hid (X5.out.t x1)
            replace HT := Lib.hid (HT.out.x x1)
            replace HLB := Lib.hid (HLB.out.ext x1)
            replace RA := Lib.hid (RA.out.ext x1)
            replace RB := Lib.hid (RB.out.ext x1)
            replace RR := Lib.hid (RR.out.ext x1)
            replace RH := Lib.hid (RH.out.ext x1)
            replace RD := Lib.hid (RD.out.ext x1)
            replace RM := Lib.hid (RM.out.ext x1)
            replace RA' := Lib.hid (RA'.out.ext x1)
            replace RB' := Lib.hid (RB'.out.ext x1)
            replace RR' := Lib.hid (RR'.out.ext x1)
            replace RH' := Lib.hid (RH'.out.ext x1)
            replace RD' := Lib.hid (RD'.out.ext x1)
            replace RM' := Lib.hid (RM'.out.ext x1)
            replace RL := Lib.hid (RL.out.ext x1)
            replace RL' := Lib.hid (RL'.out.ext x1)
            clear x1
            go_wp2_with fail
            refine (same_Z RM.out RM'.out (by omega)).mono ?_; rintro e w27 ⟨rfl, x1⟩
            replace LS2 := Lib.hid (LS2.out.x x1)
            replace X5 := Lib.hid (X5.out.t x1)
            replace HT := Lib.hid (HT.out.x x1)
            replace HLB := Lib.hid (HLB.out.ext x1)
            replace RA := Lib.hid (RA.out.ext x1)
            replace RB := Lib.hid (RB.out.ext x1)
            replace RR := Lib.hid (RR.out.ext x1)
            replace RH := Lib.hid (RH.out.ext x1)
            replace RD := Lib.hid (RD.out.ext x1)
            replace RM := Lib.hid (RM.out.ext x1)
            replace RA' := Lib.hid (RA'.out.ext x1)
            replace RB' := Lib.hid (RB'.out.ext x1)
            replace RR' := Lib.hid (RR'.out.ext x1)
            replace RH' := Lib.hid (RH'.out.ext x1)
            replace RD' := Lib.hid (RD'.out.ext x1)
            replace RM' := Lib.hid (RM'.out.ext x1)
            replace RL := Lib.hid (RL.out.ext x1)
            replace RL' := Lib.hid (RL'.out.ext x1)
            clear x1
            go_wp2_with fail
            refine (same_K RL.out RL'.out (by omega)).mono ?_; rintro e w28 ⟨rfl, x1⟩
            replace LS2 := Lib.hid (LS2.out.x x1)
            replace X5 := Lib.hid (X5.out.t x1)
            replace HT := Lib.hid (HT.out.x x1)
            replace HLB := Lib.hid (HLB.out.ext x1)
            replace RA := Lib.hid (RA.out.ext x1)
            replace RB := Lib.hid (RB.out.ext x1)
            replace RR := Lib.hid (RR.out.ext x1)
            replace RH := Lib.hid (RH.out.ext x1)
            replace RD := Lib.hid (RD.out.ext x1)
            replace RM := Lib.hid (RM.out.ext x1)
            replace RA' := Lib.hid (RA'.out.ext x1)
            replace RB' := Lib.hid (RB'.out.ext x1)
            replace RR' := Lib.hid (RR'.out.ext x1)
            replace RH' := Lib.hid (RH'.out.ext x1)
            replace RD' := Lib.hid (RD'.out.ext x1)
            replace RM' := Lib.hid (RM'.out.ext x1)
            replace RL := Lib.hid (RL.out.ext x1)
            replace RL' := Lib.hid (RL'.out.ext x1)
            clear x1
            clear RA RA' RB RB' RR RR' RH RH' RD RD' RM RM' RL RL'
            go_wp2_with (refine wpl_build (by rfl) rfl ul_ii info_ii [.tmp 214, .tmp 215, .tmp 216, .tmp 217] (by rfl) (by rfl) (by decide) (f := slv) [⟨Aa, ma, ca⟩, ⟨Ab, mb, cb⟩, ⟨Ad, md', cd⟩, ⟨Am, mm', cm⟩] (by rfl) (fun _ => rfl) ?_)
            intro g30 w30 y1 x1 lo1 r1; refine Lib.hid ?_
            have HN : Hid (NwL slv w28 (some ⟨g30, 0, none⟩) 4 4 [⟨Aa, ma, ca⟩, ⟨Ab, mb, cb⟩, ⟨Ad, md', cd⟩, ⟨Am, mm', cm⟩] w30) := Lib.hid ⟨Room.of_blk y1 rfl (by simp [maxLen]), x1, fun k hk => by have := foot_some hk; omega⟩
            clear y1 x1 lo1 r1
            obtain ⟨hs, hhs⟩ : ∃ hs, hs = ([⟨Aa, ma, ca⟩, ⟨Ab, mb, cb⟩, ⟨Ad, md', cd⟩, ⟨Am, mm', cm⟩] : List Sl) := ⟨_, rfl⟩
            have HB4 : Hid (∀ s ∈ hs, s.n ≤ 300) := Lib.hid (fun s hs' => by
              rw [hhs] at hs'
              simp only [List.mem_cons, List.not_mem_nil, or_false] at hs'
              rcases hs' with rfl | rfl | rfl | rfl
              · show ma ≤ 300; omega
              · show mb ≤ 300; omega
              · show md' ≤ 300; omega
              · show mm' ≤ 300; omega)
            rw [← hhs] at HN LS2 LO
            clear hhs
            have HSS := Lib.hid HLB.out.sl
            go_wp2_with fail
            go_loopw [39, 221] (fun v39 v221 wr => ∃ (k : Nat) (Ao : Option Addr) (co : Nat), k ≤ ml' ∧ v221 = .int .i64 (k : Int) ∧ v39 = .slice Ao (4 + k) co ∧ Hid (NwL slv w28 Ao (4 + k) co (hs ++ ss.take k) wr)) (fun _ v _ => ml' - (intOf v).toNat)
            case atStart => exact ⟨0, _, 4, by omega, rfl, rfl, Lib.hid (by rw [List.take_zero, List.append_nil]; exact HN.out)⟩
            case round =>
              clear HN
              obtain ⟨k, Ao, co, hk, rfl, rfl, HN⟩ := hrel
              by_cases hlk : k < ml'
              · have hkI : (k : Int) < (ml' : Int) := by omega
                obtain ⟨gl, ol, hAl, _⟩ := HLB.out.room.some_ (by have := HLB.out.room.2.1; omega)
                subst hAl
                obtain ⟨⟨f, t⟩, hf⟩ : ∃ x, fs[k]? = some x := ⟨fs[k]'(by rw [HLB.out.fl]; exact hlk), List.getElem?_eq_getElem _⟩
                obtain ⟨⟨sA, sn, sc⟩, hs2⟩ : ∃ x, ss[k]? = some x := ⟨ss[k]'(by rw [HLB.out.sl]; exact hlk), List.getElem?_eq_getElem _⟩
                obtain ⟨q0, q1, q2⟩ := lsb_cells (HLB.out.ext HN.out.ext) hf hs2
                simp only at q0 q1 q2
                have Hs2 := Lib.hid hs2
                clear hf hs2
                go_wp2_with (refine wpl_build (by rfl) rfl ul_ii info_ii [.tmp 227] (by rfl) (by rfl) (by decide) (f := slv) [⟨sA, sn, sc⟩] (by rfl) (fun _ => rfl) ?_)
                intro g31 w31 y1 x1 lo1 r1; refine Lib.hid ?_
                have HN3 := Lib.hid (HN.out.x ((Ext.alloc wr (.cells #[.int .i64 (f : Int), .int .i64 (t : Int), .slice sA sn sc] 53)).t x1))
                have RV := Lib.hid r1
                clear y1 x1 lo1 r1 HN q0 q1 q2
                go_wp2_with (refine wpl_append_at (by rfl) rfl ul_ii info_ii rfl rfl HN3.out.room rfl (Src.ofRd ul_ii RV.out (fun _ => rfl)) (by simp only [maxLen]; omega) (by omega) ?_)
                intro A4 c4 w4 r4 ch4 ft4; refine Lib.hid ?_
                have HN4 : Hid (NwL slv w28 A4 (4 + (k + 1)) c4 (hs ++ ss.take (k + 1)) w4) := Lib.hid (by
                  rw [take_snoc Hs2.out, ← List.append_assoc]
                  exact HN3.out.more (Ext.refl _) (by simpa using r4) ch4 ft4)
                clear r4 ch4 ft4 HN3 RV
                go_wp2_with fail
                go_roundw
                case rel => exact ⟨k + 1, A4, c4, by omega, by go_num, rfl, HN4⟩
                case measure => simp [intOf]; omega
              · obtain rfl : ml' = k := by omega
                have HLsi := Lib.hid ((LS2.out.x HN.out.ext).lsi (A := Ao) (c := co) (by
                  have h1 := HN.out.room
                  rw [List.take_of_length_le (by rw [HSS.out]; exact Nat.le_refl _)] at h1
                  exact h1) (fun q hq hf => by
                  have h1 := LS2.out.lt hq
                  have h2 := HN.out.ft q hf
                  omega))
                have HAP := Lib.hid (apart_ Ao (4 + ml') co _ _ 0 wr HLsi.out (by omega) (by omega) (fun s hs' => by
                  rcases List.mem_append.1 hs' with h1 | h1
                  · have := HB4.out s h1; omega
                  · obtain ⟨j, hj, rfl⟩ := List.getElem_of_mem h1
                    obtain ⟨l, h2, h3⟩ := HLB.out.at_ j _ (List.getElem?_eq_getElem hj)
                    have h4 := HNL.out l (List.mem_of_getElem? h2)
                    have h5 := h3.1
                    rw [List.length_map] at h5
                    omega))
                have HT2 := Lib.hid (HT.out.x HN.out.ext)
                clear HT
                go_wp2_with fail
                refine HAP.out.mono ?_; rintro e w40 ⟨rfl, ch⟩
                have HQ : Hid (RdS 5 insC w40 A n2 p ∧ RdS 5 insC w40 A5 n2 p ∧ Ext w w40) := Lib.hid ⟨HT2.out.rp.chg ch (fun k o hA h0 hf => by
                  have h1 := LO.out k hf
                  have h2 := HPB.out k o hA h0
                  have h3 := HW5.out
                  omega), (HT2.out.ro.chg ch (fun k hk hf => by
                  have h1 := LO.out k hf
                  have h2 := HO5.out k hk
                  omega)).rd insC_len (by decide), HT2.out.ext.trans (ch.below HT2.out.ext.size (fun k _ hf => by
                  have h1 := LO.out k hf
                  have h3 := HW5.out
                  omega))⟩
                have HEQ := Lib.hid (equalI A5 A n2 n2 c5 c p p w40 HQ.out.2.1 HQ.out.1 (by omega) (by omega))
                rw [decide_eq_true rfl] at HEQ
                clear ch HAP HT2 HLsi HN LS2 LO HLB
                go_wp2_with fail
                refine HEQ.out.mono ?_; rintro e w41 ⟨rfl, x1⟩
                have HF := Lib.hid (HQ.out.2.2.t x1)
                clear x1 HEQ HQ
                go_wp2_with fail
                go_ret
                exact ⟨rfl, HF.out⟩
    · have h60 : ¬ n2 ≤ 60 := fun h => hgo (.inl h)
      have q4 : (60 : Int) < (n2 : Int) := by omega
      have hd4 : decide ((60 : Int) < (n2 : Int)) = true := decide_eq_true q4
      by_cases h250 : n2 ≤ 250
      · have q5 : (n2 : Int) ≤ 250 := by omega
        have hd5 : decide ((n2 : Int) ≤ 250) = true := decide_eq_true q5
        clear hgo
        go_wp2_with fail
        go_ret
        exact ⟨rfl, E4.out⟩
      · have q5 : ¬ (n2 : Int) ≤ 250 := by omega
        have hd5 : decide ((n2 : Int) ≤ 250) = false := decide_eq_false q5
        have hE0 : E0 = 0 := by
          by_cases h : E0 = 0
          · exact h
          · exact absurd (.inr ⟨h250, h⟩) hgo
        subst hE0
        clear hgo
        go_wp2_with fail
        go_ret
        exact ⟨rfl, E4.out⟩
  · have q1 : ¬ (n : Int) ≤ 301 ∨ n = 301 := by omega
    have q3 : (300 : Int) < (n : Int) := by omega
    have hd3 : decide ((300 : Int) < (n : Int)) = true := decide_eq_true q3
    have hsl := fun w' => sl_toP (A := A) (n := n) (c := c) (hi := 301) (li := 301) w' rfl (by omega)
    have HTH := Lib.hid (theirs_ A 301 c (p.take 301) w (h.take (by omega)) (by omega))
    have HN0 : Hid (∀ W A' n' c', RdS 5 insC W A' n' (p.take 301) → Calls Try.prog 44 #[.slice A' n' c', .int .i64 0] W (NumsP (nextF (p.take 301) 0) W)) := Lib.hid (fun W A' n' c' h => rnext_ A' n' c' (p.take 301) 0 W h)
    clear h
    by_cases h301 : n = 301
    · subst h301
      go_enter Try.func23, Try.ntmps23
      go_wp2_with fail
      refine HTH.out.mono ?_; rintro e w2 ⟨A2, n2, c2, rfl, hn⟩
      have HX2 := Lib.hid hn.rd
      have E2 := Lib.hid hn.ext
      clear hn HTH
      go_wp2_with fail
      refine (HN0.out _ A2 n2 c2 HX2.out).mono ?_; rintro e w3 ⟨A3, c3, rfl, -, -, x3⟩
      have E4 := Lib.hid (E2.out.t x3)
      clear x3 HX2 E2 HN0
      go_wp2_with fail
      go_ret
      exact ⟨rfl, E4.out⟩
    · have q2 : (301 : Int) < (n : Int) := by omega
      have q2' : ¬ (n : Int) ≤ 301 := by omega
      go_enter Try.func23, Try.ntmps23
      go_wp2_with fail
      refine HTH.out.mono ?_; rintro e w2 ⟨A2, n2, c2, rfl, hn⟩
      have HX2 := Lib.hid hn.rd
      have E2 := Lib.hid hn.ext
      clear hn HTH
      go_wp2_with fail
      refine (HN0.out _ A2 n2 c2 HX2.out).mono ?_; rintro e w3 ⟨A3, c3, rfl, -, -, x3⟩
      have E4 := Lib.hid (E2.out.t x3)
      clear x3 HX2 E2 HN0
      go_wp2_with fail
      go_ret
      exact ⟨rfl, E4.out⟩
end Go.Proofs.Ytlneifgihdickaa
