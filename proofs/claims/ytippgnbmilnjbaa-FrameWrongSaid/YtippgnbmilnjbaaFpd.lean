/- Fpd: played: a new stream is fed with bytes in pieces; it makes of them what Split makes. -/
import Derived.Test.YtippgnbmilnjbaaFst
import Derived.Test.YtippgnbmilnjbaaFsl
import Derived.Deep.LoopGhost
namespace Go.Fx
open Go.RowKit
/-- What a new stream is when it got these bytes. -/
def stOf (p : List Nat) : FSt := if erF (splF p).2 = 31 then ⟨[], (splF p).1.length, true⟩ else ⟨(splF p).2, (splF p).1.length, false⟩
def erD (p : List Nat) : Nat := if erF (splF p).2 = 31 then 31 else 0
theorem stOf_nil : stOf [] = fst0 := by
  unfold stOf
  rw [splF_nil]
  rfl
theorem erD_nil : erD [] = 0 := by unfold erD; rw [splF_nil]; rfl
theorem stOf_held (p : List Nat) : (stOf p).held.length ≤ p.length ∧ (stOf p).n ≤ p.length := by
  have h1 := splF_bodies p
  unfold stOf
  split
  · simp only [List.length_nil]; omega
  · simp only; omega
/-- .. fed with more. -/
theorem fd_stOf (p x : List Nat) : fdF (stOf p) x = (stOf (p ++ x), (splF (p ++ x)).1.drop (splF p).1.length, erD (p ++ x)) ∧ (splF (p ++ x)).1 = (splF p).1 ++ (splF (p ++ x)).1.drop (splF p).1.length := by
  by_cases h : erF (splF p).2 = 31
  · obtain ⟨h1, h2⟩ := splF_wrong x h
    have e1 : stOf p = ⟨[], (splF p).1.length, true⟩ := by unfold stOf; rw [if_pos h]
    have e2 : stOf (p ++ x) = ⟨[], (splF p).1.length, true⟩ := by unfold stOf; rw [h1]; simp only; rw [if_pos h2]
    have e3 : erD (p ++ x) = 31 := by unfold erD; rw [h1]; simp only; rw [if_pos h2]
    rw [e1, e2, e3, h1]
    simp only
    rw [List.drop_length, List.append_nil]
    exact ⟨rfl, rfl⟩
  · have e1 : stOf p = ⟨(splF p).2, (splF p).1.length, false⟩ := by unfold stOf; rw [if_neg h]
    have h1 := splF_app p x
    have e4 : (splF (p ++ x)).1.drop (splF p).1.length = (splF ((splF p).2 ++ x)).1 := by rw [h1]; simp only; rw [List.drop_left]
    refine ⟨?_, by rw [e4, h1]⟩
    rw [e1, e4]
    unfold fdF
    simp only
    rw [if_neg (by simp)]
    unfold stOf erD
    rw [h1]
    simp only
    by_cases h2 : erF (splF ((splF p).2 ++ x)).2 = 31
    · rw [if_pos h2, if_pos h2, if_pos h2, List.length_append]
    · rw [if_neg h2, if_neg h2, if_neg h2, List.length_append]
theorem Lst.append {B B2 : Nat} {w w2 : World} {A A2 A' : Option Addr} {n c n2 c2 c' : Nat} {os os2 : List Sl} {xss xss2 : List (List Nat)} (h : Lst B w A n c os xss) (h2 : Lst B2 w A2 n2 c2 os2 xss2) (hB : B ≤ B2) (hd : ∀ k, foots os2 k → ¬ foot A c k ∧ ¬ foots os k) (hBw : B ≤ w.heap.size)
    (r : Room w2 A' (n + n2) c' (os.map slv ++ os2.map slv)) (ch : Chg (foot A c) w w2) (ft : ∀ k, foot A' c' k → foot A c k ∨ w.heap.size ≤ k) : Lst B w2 A' (n + n2) c' (os ++ os2) (xss ++ xss2) := by
  have hno : ∀ k, foots (os ++ os2) k → ¬ foot A c k := fun k hk => (foots_append.1 hk).elim (h.sep k) (fun h1 => (hd k h1).1)
  have hlt : ∀ k, foots (os ++ os2) k → k < w.heap.size := fun k hk => (foots_append.1 hk).elim (fun h1 => h.lt (.inr h1)) (fun h1 => h2.lt (.inr h1))
  refine ⟨by rw [List.map_append]; exact r, (h.byt.append h2.byt).chg ch hno, by rw [List.length_append, h.len, h2.len], fun k hk hk2 => ?_, ?_, fun k hk => ?_⟩
  · rcases ft k hk2 with h3 | h3
    · exact hno k hk h3
    · have := hlt k hk; omega
  · refine List.pairwise_append.2 ⟨h.ap, h2.ap, fun a ha b hb k hk hk2 => (hd k ⟨b, hb, hk2⟩).2 ⟨a, ha, hk⟩⟩
  · rcases hk with hk | hk
    · rcases ft k hk with h3 | h3
      · exact h.new k (.inl h3)
      · omega
    · rcases foots_append.1 hk with h3 | h3
      · exact h.new k (.inr h3)
      · exact Nat.le_trans hB (h2.new k (.inr h3))
end Go.Fx
namespace Go.Proofs.Ytippgnbmilnjbaa
open Go.RowKit Go.Fx
theorem u8_to (A : Option Addr) (n c hi : Nat) (w : World) (h2 : hi ≤ c) :
    (Instr.sliceAt 23 (.slice A n c) none (some (.int .i64 (hi : Int))) none).run Try.prog w = .ok (.slice A hi c) w := by
  have h4 : (hi : Int) ≤ (c : Int) := by omega
  have h5 : (0 : Int) ≤ (hi : Int) := by omega
  simp [go_sem, sliced, h4, Addr.add]
/-- What played leaves. -/
structure Pld (w : World) (sb : Nat) (s : Sl) (b : List Nat) (w' : World) (Ao : Option Addr) (no co : Nat) (os : List Sl) (s' : Sl) : Prop where
  stm : Stm w' sb s' (stOf b)
  lst : Lst w.heap.size w' Ao no co os (splF b).1
  chg : Chg (stmF sb s) w w'
  nb : ∀ k, stmF sb s' k → stmF sb s k ∨ w.heap.size ≤ k
  no : ∀ k, foot Ao co k ∨ foots os k → ¬ stmF sb s' k
def PldP (w : World) (sb : Nat) (s : Sl) (b : List Nat) (e : Ending) (w' : World) : Prop := ∃ Ao no co os s', e = .returned (.tuple #[.slice Ao no co, .int .i64 (erD b : Int)]) ∧ Pld w sb s b w' Ao no co os s'
/-- A piece more. -/
theorem Pld.step {w w1 w2 w3 : World} {sb : Nat} {s s1 s2 : Sl} {p x : List Nat} {Ao Al A2 : Option Addr} {no co nl cl c2 : Nat} {os ol : List Sl} {e : Ending} (h : Pld w sb s p w1 Ao no co os s1) (hs : Stm w sb s fst0) (f : Fed w1 sb s1 (stOf p) x e w2 Al nl cl ol s2)
    (r : Room w3 A2 (no + nl) c2 (os.map slv ++ ol.map slv)) (ch : Chg (foot Ao co) w2 w3) (ft : ∀ k, foot A2 c2 k → foot Ao co k ∨ w2.heap.size ≤ k) : Pld w sb s (p ++ x) w3 A2 (no + nl) c2 (os ++ ol) s2 := by
  obtain ⟨h1, h2⟩ := fd_stOf p x
  have fs := f.stm
  have fl := f.lst
  rw [h1] at fs fl
  have z1 := h.chg.size
  have z2 := f.chg.size
  have hl2 : Lst w.heap.size w2 Ao no co os (splF p).1 := h.lst.chg f.chg h.no
  have hnew : ∀ k, foot Ao co k ∨ foots os k → w.heap.size ≤ k := h.lst.new
  have hst : ∀ k, stmF sb s k → k < w.heap.size := fun k hk => hs.lt hk
  have hl2lt : ∀ k, foot Ao co k ∨ foots os k → k < w1.heap.size := fun k hk => h.lst.lt hk
  have hs2 : ∀ k, stmF sb s2 k → ¬ (foot Ao co k ∨ foots os k) := fun k hk hk2 => by
    rcases f.nb k hk with h3 | h3
    · exact h.no k hk2 h3
    · have := hl2lt k hk2; omega
  refine ⟨fs.chg ch (fun k hk hk2 => hs2 k hk (.inl hk2)), ?_, (h.chg.trans f.chg (fun k hk hk2 => ?_)).trans ch (fun k hk hk2 => by have := hnew k (.inl hk2); omega), fun k hk => ?_, fun k hk hk2 => ?_⟩
  · rw [h2]
    exact hl2.append fl z1 (fun k hk => ⟨fun h3 => by have := fl.new k (.inr hk); have := hl2lt k (.inl h3); omega, fun h3 => by have := fl.new k (.inr hk); have := hl2lt k (.inr h3); omega⟩) (by omega) r ch ft
  · rcases h.nb k hk2 with h3 | h3
    · exact h3
    · omega
  · rcases f.nb k hk with h3 | h3
    · exact h.nb k h3
    · exact .inr (by omega)
  · rcases hk with hk | hk
    · rcases ft k hk with h3 | h3
      · exact hs2 k hk2 (.inl h3)
      · have := fs.lt hk2; omega
    · rcases foots_append.1 hk with h3 | h3
      · exact hs2 k hk2 (.inr h3)
      · exact f.no k (.inr h3) hk2
/-- What holds between two rounds of played. -/
structure PlJ (w : World) (sb : Nat) (s : Sl) (n c : Nat) (b : List Nat) (m k q : Nat) (i : Int) (A' Ao : Option Addr) (no co : Nat) (wr : World) : Prop where
  pld : ∃ os s', Pld w sb s (b.take q) wr Ao no co os s'
  rd : ∀ w', Chg (stmF sb s) w w' → Rd u8v w' A' (n - q) (b.drop q)
  i_ : q < n → ∃ i0 : Nat, i = (i0 : Int) ∧ i0 ≤ m
  k_ : k = if q < n then (m - i.toNat) + (n - q) else 0
  le : no ≤ q
set_option maxRecDepth 100000 in
set_option maxHeartbeats 2000000 in
theorem played_ (w : World) (sb : Nat) (s : Sl) (A : Option Addr) (n c : Nat) (b : List Nat) (C : Option Addr) (m cc : Nat) (cs : List Nat) (hS : Stm w sb s fst0) (hB : ∀ w', Chg (stmF sb s) w w' → Rd u8v w' A n b) (hb : ∀ x ∈ b, x < 256) (hc : n ≤ c) (hn : n ≤ 1000000)
    (hC : ∀ w', Chg (stmF sb s) w w' → Rd u8v w' C m cs) (hcl : ∀ x ∈ cs, x < 256) (hml : m ≤ maxLen) :
    Calls Try.prog 25 #[.pointer (some ⟨sb, 0, none⟩), .slice A n c, .slice C m cc] w (PldP w sb s b) := by
  unfold maxLen at hml
  have HS := Lib.hid hS
  have Hb := Lib.hid hb
  have HC := Lib.hid hC
  have HCl := Lib.hid hcl
  have Hl := Lib.hid (hB w (Chg.refl _ _)).1
  have H0 : Hid (PlJ w sb s n c b m (if 0 < n then (m - (0 : Int).toNat) + (n - 0) else 0) 0 0 A none 0 0 w) := Lib.hid
    ⟨⟨[], s, by rw [List.take_zero]; exact ⟨by rw [stOf_nil]; exact hS, by rw [splF_nil]; exact Lst.nil, Chg.refl _ _, fun k hk => .inl hk, fun k hk => hk.elim (fun h => absurd h foot_none) (fun h => absurd h foots_nil)⟩⟩, hB, fun _ => ⟨0, rfl, Nat.zero_le _⟩, rfl, Nat.le_refl _⟩
  clear hS hB hb hC hcl
  go_enter Try.func25, Try.ntmps25
  go_wp2_with fail
  go_loopg [1, 8, 9, 10] (if 0 < n then (m - (0 : Int).toNat) + (n - 0) else 0) (fun k v1 v8 v9 v10 wr => ∃ (q : Nat) (i : Int) (A' Ao : Option Addr) (no co : Nat), q ≤ n ∧ v1 = .slice A' (n - q) (c - q) ∧ v10 = .int .i64 i ∧ v8 = .slice Ao no co ∧ v9 = .int .i64 (erD (b.take q) : Int) ∧ Hid (PlJ w sb s n c b m k q i A' Ao no co wr))
  case atStart => exact ⟨0, 0, A, none, 0, 0, by omega, rfl, rfl, rfl, by rw [List.take_zero, erD_nil]; rfl, H0⟩
  case round =>
    clear H0
    obtain ⟨q, i, A', Ao, no, co, hq, rfl, rfl, rfl, rfl, HJ⟩ := hrel
    obtain ⟨er0, her0⟩ : ∃ er0, er0 = erD (b.take q) := ⟨_, rfl⟩
    rw [← her0]
    have Her0 := Lib.hid her0
    clear her0
    by_cases hlt : q < n
    · have hNp : (0 : Int) < ((n - q : Nat) : Int) := by omega
      have hNp2 : 0 < n - q := by omega
      obtain ⟨i0, rfl, hi0⟩ := HJ.out.i_ hlt
      obtain ⟨os', s', hp'⟩ := HJ.out.pld
      have hcr := HC.out _ hp'.chg
      clear hp'
      by_cases hic : i0 < m
      · have hic' : (i0 : Int) < (m : Int) := by omega
        obtain ⟨bc, oc, d, rfl, _, hd, hcell⟩ := hcr.at_ hic
        have hd8 : d < 256 := HCl.out d (List.mem_of_getElem? hd)
        clear hd hcr
        by_cases hdn : d ≤ n - q
        · have hdn' : ¬ ((n - q : Nat) : Int) < (d : Int) := by omega
          have hMle : d ≤ n - q := by omega
          clear hdn
          have hMN : d ≤ n - q := hMle
          have hxr : ∀ w', Chg (stmF sb s) w w' → Rd u8v w' A' (d) ((b.drop q).take (d)) := fun w' h => (HJ.out.rd w' h).take hMN
          have hpx : b.take q ++ (b.drop q).take (d) = b.take (q + (d)) := List.take_add.symm
          have hsl := fun w' => u8_to A' (n - q) (c - q) (d) w' (by omega)
          have hsf := fun w' => u8_from A' (n - q) (c - q) (d) w' hMN
          obtain ⟨os, s1, hp⟩ := HJ.out.pld
          have hq1 := stOf_held (b.take q)
          rw [List.length_take] at hq1
          have HF := Lib.hid (feed_ hp.stm A' (d) (c - q) ((b.drop q).take (d)) (hxr _ hp.chg) (fun x hx => Hb.out x (List.mem_of_mem_drop (List.mem_of_mem_take hx))) (by omega) (by omega))
          obtain ⟨hf1, hf2⟩ := fd_stOf (b.take q) ((b.drop q).take (d))
          have hner : (fdF (stOf (b.take q)) ((b.drop q).take (d))).2.2 = erD (b.take (q + (d))) := by rw [hf1, hpx]
          have hnlf : (fdF (stOf (b.take q)) ((b.drop q).take (d))).2.1.length ≤ n := by
            rw [hf1, hpx]
            simp only [List.length_drop]
            have := splF_bodies (b.take (q + (d)))
            rw [List.length_take] at this
            omega
          have hrdn : ∀ w', Chg (stmF sb s) w w' → Rd u8v w' (from_ A' (c - q) (d)) (n - q - (d)) ((b.drop q).drop (d)) := fun w' h => (HJ.out.rd w' h).from_ hMN (by omega)
          have Hner := Lib.hid hner
          have Hnlf := Lib.hid hnlf
          have Hp := Lib.hid hp
          have Hrdn := Lib.hid hrdn
          have Hpx := Lib.hid hpx
          have hno : no ≤ 1000000 := by have := HJ.out.le; omega
          clear hxr hpx hq1 hf1 hf2 hner hnlf hp hrdn hMN
          go_wp2_with fail
          refine HF.out.mono ?_; rintro e w2 ⟨Al, nl, cl, ol, s2, f⟩
          have hret := f.ret
          rw [Hner.out] at hret
          have hnl : nl ≤ 1000000 := by rw [f.lst.n_]; have := Hnlf.out; omega
          have Hf := Lib.hid f
          have hrm : Room w2 Ao no co (os.map slv) := (Hp.out.lst.chg f.chg Hp.out.no).room
          have hsrc := f.lst.rd
          subst hret
          clear f
          obtain ⟨er, her⟩ : ∃ er, er = erD (b.take (q + (d))) := ⟨_, rfl⟩
          rw [← her]
          have Her := Lib.hid her
          clear her HF
          go_wp2_with (refine wpl_append_at (by rfl) rfl ul_bb info_bb rfl rfl hrm rfl (Src.ofRd ul_bb hsrc (fun _ => rfl)) (by simp only [maxLen]; omega) (by omega) ?_)
          intro A2 c2 w3 r3 ch3 ft3; refine Lib.hid ?_
          have hst := Pld.step Hp.out HS.out Hf.out r3 ch3 ft3
          rw [Hpx.out] at hst
          have Hst := Lib.hid hst
          have hlx : no + nl ≤ q + (d) := by
            rw [hst.lst.n_]
            have := splF_bodies (b.take (q + (d)))
            rw [List.length_take] at this
            omega
          have Hlx := Lib.hid hlx
          clear hst r3 ch3 ft3 hrm hsrc hlx
          go_wp2_with fail
          go_roundg (if q + (d) < n then (m - ((i0 : Int) + 1).toNat) + (n - (q + (d))) else 0)
          case rel =>
            refine ⟨q + (d), ((i0 : Int) + 1), from_ A' (c - q) (d), A2, no + nl, c2, by omega, by first | rw [Nat.sub_sub, Nat.sub_sub] | (rw [Nat.sub_sub]; congr 1; omega), by go_num, rfl, by rw [Her.out], Lib.hid ⟨⟨_, _, Hst.out⟩, fun w' h => ?_, ?_, rfl, Hlx.out⟩⟩
            · have h1 := Hrdn.out w' h
              rw [Nat.sub_sub, List.drop_drop] at h1
              exact h1
            · exact fun _ => ⟨i0 + 1, by omega, by omega⟩
          case measure =>
            have := HJ.out.k_
            rw [if_pos (by omega)] at this
            split <;> omega
        · have hdn' : ((n - q : Nat) : Int) < (d : Int) := by omega
          have hMle : n - q ≤ n - q := Nat.le_refl _
          clear hdn
          have hMN : n - q ≤ n - q := hMle
          have hxr : ∀ w', Chg (stmF sb s) w w' → Rd u8v w' A' (n - q) ((b.drop q).take (n - q)) := fun w' h => (HJ.out.rd w' h).take hMN
          have hpx : b.take q ++ (b.drop q).take (n - q) = b.take (q + (n - q)) := List.take_add.symm
          have hsl := fun w' => u8_to A' (n - q) (c - q) (n - q) w' (by omega)
          have hsf := fun w' => u8_from A' (n - q) (c - q) (n - q) w' hMN
          obtain ⟨os, s1, hp⟩ := HJ.out.pld
          have hq1 := stOf_held (b.take q)
          rw [List.length_take] at hq1
          have HF := Lib.hid (feed_ hp.stm A' (n - q) (c - q) ((b.drop q).take (n - q)) (hxr _ hp.chg) (fun x hx => Hb.out x (List.mem_of_mem_drop (List.mem_of_mem_take hx))) (by omega) (by omega))
          obtain ⟨hf1, hf2⟩ := fd_stOf (b.take q) ((b.drop q).take (n - q))
          have hner : (fdF (stOf (b.take q)) ((b.drop q).take (n - q))).2.2 = erD (b.take (q + (n - q))) := by rw [hf1, hpx]
          have hnlf : (fdF (stOf (b.take q)) ((b.drop q).take (n - q))).2.1.length ≤ n := by
            rw [hf1, hpx]
            simp only [List.length_drop]
            have := splF_bodies (b.take (q + (n - q)))
            rw [List.length_take] at this
            omega
          have hrdn : ∀ w', Chg (stmF sb s) w w' → Rd u8v w' (from_ A' (c - q) (n - q)) (n - q - (n - q)) ((b.drop q).drop (n - q)) := fun w' h => (HJ.out.rd w' h).from_ hMN (by omega)
          have Hner := Lib.hid hner
          have Hnlf := Lib.hid hnlf
          have Hp := Lib.hid hp
          have Hrdn := Lib.hid hrdn
          have Hpx := Lib.hid hpx
          have hno : no ≤ 1000000 := by have := HJ.out.le; omega
          clear hxr hpx hq1 hf1 hf2 hner hnlf hp hrdn hMN
          go_wp2_with fail
          refine HF.out.mono ?_; rintro e w2 ⟨Al, nl, cl, ol, s2, f⟩
          have hret := f.ret
          rw [Hner.out] at hret
          have hnl : nl ≤ 1000000 := by rw [f.lst.n_]; have := Hnlf.out; omega
          have Hf := Lib.hid f
          have hrm : Room w2 Ao no co (os.map slv) := (Hp.out.lst.chg f.chg Hp.out.no).room
          have hsrc := f.lst.rd
          subst hret
          clear f
          obtain ⟨er, her⟩ : ∃ er, er = erD (b.take (q + (n - q))) := ⟨_, rfl⟩
          rw [← her]
          have Her := Lib.hid her
          clear her HF
          go_wp2_with (refine wpl_append_at (by rfl) rfl ul_bb info_bb rfl rfl hrm rfl (Src.ofRd ul_bb hsrc (fun _ => rfl)) (by simp only [maxLen]; omega) (by omega) ?_)
          intro A2 c2 w3 r3 ch3 ft3; refine Lib.hid ?_
          have hst := Pld.step Hp.out HS.out Hf.out r3 ch3 ft3
          rw [Hpx.out] at hst
          have Hst := Lib.hid hst
          have hlx : no + nl ≤ q + (n - q) := by
            rw [hst.lst.n_]
            have := splF_bodies (b.take (q + (n - q)))
            rw [List.length_take] at this
            omega
          have Hlx := Lib.hid hlx
          clear hst r3 ch3 ft3 hrm hsrc hlx
          go_wp2_with fail
          go_roundg (if q + (n - q) < n then (m - ((i0 : Int) + 1).toNat) + (n - (q + (n - q))) else 0)
          case rel =>
            refine ⟨q + (n - q), ((i0 : Int) + 1), from_ A' (c - q) (n - q), A2, no + nl, c2, by omega, by first | rw [Nat.sub_sub, Nat.sub_sub] | (rw [Nat.sub_sub]; congr 1; omega), by go_num, rfl, by rw [Her.out], Lib.hid ⟨⟨_, _, Hst.out⟩, fun w' h => ?_, ?_, rfl, Hlx.out⟩⟩
            · have h1 := Hrdn.out w' h
              rw [Nat.sub_sub, List.drop_drop] at h1
              exact h1
            · exact fun _ => ⟨i0 + 1, by omega, by omega⟩
          case measure =>
            have := HJ.out.k_
            rw [if_pos (by omega)] at this
            split <;> omega
      · have hic' : ¬ (i0 : Int) < (m : Int) := by omega
        have hMle : n - q ≤ n - q := Nat.le_refl _
        clear hcr hic
        have hMN : n - q ≤ n - q := hMle
        have hxr : ∀ w', Chg (stmF sb s) w w' → Rd u8v w' A' (n - q) ((b.drop q).take (n - q)) := fun w' h => (HJ.out.rd w' h).take hMN
        have hpx : b.take q ++ (b.drop q).take (n - q) = b.take (q + (n - q)) := List.take_add.symm
        have hsl := fun w' => u8_to A' (n - q) (c - q) (n - q) w' (by omega)
        have hsf := fun w' => u8_from A' (n - q) (c - q) (n - q) w' hMN
        obtain ⟨os, s1, hp⟩ := HJ.out.pld
        have hq1 := stOf_held (b.take q)
        rw [List.length_take] at hq1
        have HF := Lib.hid (feed_ hp.stm A' (n - q) (c - q) ((b.drop q).take (n - q)) (hxr _ hp.chg) (fun x hx => Hb.out x (List.mem_of_mem_drop (List.mem_of_mem_take hx))) (by omega) (by omega))
        obtain ⟨hf1, hf2⟩ := fd_stOf (b.take q) ((b.drop q).take (n - q))
        have hner : (fdF (stOf (b.take q)) ((b.drop q).take (n - q))).2.2 = erD (b.take (q + (n - q))) := by rw [hf1, hpx]
        have hnlf : (fdF (stOf (b.take q)) ((b.drop q).take (n - q))).2.1.length ≤ n := by
          rw [hf1, hpx]
          simp only [List.length_drop]
          have := splF_bodies (b.take (q + (n - q)))
          rw [List.length_take] at this
          omega
        have hrdn : ∀ w', Chg (stmF sb s) w w' → Rd u8v w' (from_ A' (c - q) (n - q)) (n - q - (n - q)) ((b.drop q).drop (n - q)) := fun w' h => (HJ.out.rd w' h).from_ hMN (by omega)
        have Hner := Lib.hid hner
        have Hnlf := Lib.hid hnlf
        have Hp := Lib.hid hp
        have Hrdn := Lib.hid hrdn
        have Hpx := Lib.hid hpx
        have hno : no ≤ 1000000 := by have := HJ.out.le; omega
        clear hxr hpx hq1 hf1 hf2 hner hnlf hp hrdn hMN
        go_wp2_with fail
        refine HF.out.mono ?_; rintro e w2 ⟨Al, nl, cl, ol, s2, f⟩
        have hret := f.ret
        rw [Hner.out] at hret
        have hnl : nl ≤ 1000000 := by rw [f.lst.n_]; have := Hnlf.out; omega
        have Hf := Lib.hid f
        have hrm : Room w2 Ao no co (os.map slv) := (Hp.out.lst.chg f.chg Hp.out.no).room
        have hsrc := f.lst.rd
        subst hret
        clear f
        obtain ⟨er, her⟩ : ∃ er, er = erD (b.take (q + (n - q))) := ⟨_, rfl⟩
        rw [← her]
        have Her := Lib.hid her
        clear her HF
        go_wp2_with (refine wpl_append_at (by rfl) rfl ul_bb info_bb rfl rfl hrm rfl (Src.ofRd ul_bb hsrc (fun _ => rfl)) (by simp only [maxLen]; omega) (by omega) ?_)
        intro A2 c2 w3 r3 ch3 ft3; refine Lib.hid ?_
        have hst := Pld.step Hp.out HS.out Hf.out r3 ch3 ft3
        rw [Hpx.out] at hst
        have Hst := Lib.hid hst
        have hlx : no + nl ≤ q + (n - q) := by
          rw [hst.lst.n_]
          have := splF_bodies (b.take (q + (n - q)))
          rw [List.length_take] at this
          omega
        have Hlx := Lib.hid hlx
        clear hst r3 ch3 ft3 hrm hsrc hlx
        go_wp2_with fail
        go_roundg (if q + (n - q) < n then (m - (0 : Int).toNat) + (n - (q + (n - q))) else 0)
        case rel =>
          refine ⟨q + (n - q), _, from_ A' (c - q) (n - q), A2, no + nl, c2, by omega, by first | rw [Nat.sub_sub, Nat.sub_sub] | (rw [Nat.sub_sub]; congr 1; omega), by go_num, rfl, by rw [Her.out], Lib.hid ⟨⟨_, _, Hst.out⟩, fun w' h => ?_, ?_, by rw [if_neg (by omega), if_neg (by omega)], Hlx.out⟩⟩
          · have h1 := Hrdn.out w' h
            rw [Nat.sub_sub, List.drop_drop] at h1
            exact h1
          · exact fun h => absurd h (by omega)
        case measure =>
          have := HJ.out.k_
          rw [if_pos (by omega)] at this
          split <;> omega
    · obtain rfl : n = q := by omega
      obtain ⟨os, s1, hp⟩ := HJ.out.pld
      have ht : b.take n = b := List.take_of_length_le (by rw [Hl.out]; exact Nat.le_refl _)
      rw [ht] at hp
      have hr : er0 = erD b := by rw [Her0.out, ht]
      have hNn : ((n - n : Nat) : Int) = 0 := by omega
      have Hp := Lib.hid hp
      have Hr := Lib.hid hr
      clear hp hr ht HJ
      go_wp2_with fail
      go_ret2
      exact ⟨Ao, no, co, os, s1, by rw [← Hr.out]; rfl, Hp.out⟩
end Go.Proofs.Ytippgnbmilnjbaa
