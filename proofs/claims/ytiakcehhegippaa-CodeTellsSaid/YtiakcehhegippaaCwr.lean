/- Cwr: the program's Write. -/
import Derived.Test.YtiakcehhegippaaCnb
namespace Go.Fx
open Go.RowKit
/-- How many bytes the form's last letter takes. -/
def wdT (tl : Nat) : Nat := if tl = 110 then 8 else if tl = 116 then 2 else if tl = 112 then 1 else 0
def wbF (i : Ins) : List Nat := i.op :: ([i.a, i.b, i.c].take (nrOf i.op) ++ nbF (wdT (tlOf i.op)) (U64 i.n))
/-- What is written when some letters are done. -/
def wlF (i : Ins) (pos : Nat) : List Nat := i.op :: (if pos ≤ nrOf i.op then [i.a, i.b, i.c].take pos else [i.a, i.b, i.c].take (nrOf i.op) ++ nbF (wdT (tlOf i.op)) (U64 i.n))
theorem wlF_end (i : Ins) : wlF i (strOf i.op).size = wbF i := by
  have h := strOf_size i.op
  unfold wlF wbF
  split
  · next h1 =>
    split at h
    · next h2 => rw [h2, h, Nat.add_zero]; show _ = i.op :: (_ ++ nbF 0 _); rw [nbF, List.append_nil]
    · omega
  · rfl
theorem wbF_len (i : Ins) : (wbF i).length = szOp i.op := by
  have := nr_tl i.op
  unfold wbF szOp wdT
  rw [List.length_cons, List.length_append, List.length_take, nbF_len]
  simp only [List.length_cons, List.length_nil]
  omega
theorem wlF_le (i : Ins) (pos : Nat) : (wlF i pos).length ≤ 12 := by
  have := nr_tl i.op
  unfold wlF wdT
  rw [List.length_cons]
  split
  · rw [List.length_take]; simp only [List.length_cons, List.length_nil]; omega
  · rw [List.length_append, List.length_take, nbF_len]; simp only [List.length_cons, List.length_nil]
    repeat' split
    all_goals omega
theorem wbF_lt {i : Ins} (h : InsOk i) : ∀ x ∈ wbF i, x < 256 := by
  intro x hx
  unfold wbF at hx
  rcases List.mem_cons.1 hx with rfl | hx
  · exact h.op
  · rcases List.mem_append.1 hx with hx | hx
    · have := List.mem_of_mem_take hx
      simp at this
      rcases this with rfl | rfl | rfl
      · exact h.a
      · exact h.b
      · exact h.c
    · exact nbF_lt _ _ _ hx
def writeF (p : List Ins) : List Nat × Nat := if (checkF p).2 = 0 then (p.flatMap wbF, 0) else ([], (checkF p).2)
end Go.Fx
namespace Go.Proofs.Ytiakcehhegippaa
open Go.RowKit Go.Fx
/-- A new slice of bytes. -/
structure New (w : World) (xs : List Nat) (w' : World) (A : Option Addr) (n c : Nat) : Prop where
  room : Room w' A n c (xs.map u8v)
  ext : Ext w w'
  ft : ∀ k, foot A c k → w.heap.size ≤ k
theorem New.n_ {w w' : World} {xs : List Nat} {A : Option Addr} {n c : Nat} (h : New w xs w' A n c) : n = xs.length := by have := h.room.1; simpa using this.symm
theorem New.nil (w : World) : New w [] w none 0 0 := ⟨Room.nil, Ext.refl _, fun _ hk => absurd hk foot_none⟩
theorem New.exte {w w' w2 : World} {xs : List Nat} {A : Option Addr} {n c : Nat} (h : New w xs w' A n c) (e : Ext w' w2) : New w xs w2 A n c := ⟨h.room.ext e, h.ext.t e, h.ft⟩
theorem New.more {w w1 w2 w3 : World} {A1 A2 : Option Addr} {n1 c1 n2 c2 : Nat} {xs ys : List Nat} (h : New w xs w1 A1 n1 c1) (e : Ext w1 w2) (r : Room w3 A2 n2 c2 (xs.map u8v ++ ys.map u8v)) (ch : Chg (foot A1 c1) w2 w3) (ft : ∀ k, foot A2 c2 k → foot A1 c1 k ∨ w2.heap.size ≤ k) : New w (xs ++ ys) w3 A2 n2 c2 := by
  have e2 := h.ext.t e
  exact ⟨by rw [List.map_append]; exact r, e2.trans (ch.below e2.size (fun k hk hf => by have := h.ft k hf; omega)), fun k hk => (ft k hk).elim (h.ft k) (fun h1 => by have := e2.size; omega)⟩
theorem New.put {w w1 w2 : World} {A1 A2 : Option Addr} {n1 c1 n2 c2 : Nat} {xs ys : List Nat} (h : New w xs w1 A1 n1 c1) (p : Put w1 A1 c1 (xs ++ ys) w2 A2 n2 c2) : New w (xs ++ ys) w2 A2 n2 c2 :=
  ⟨p.room, h.ext.trans (p.chg.below h.ext.size (fun k hk hf => by have := h.ft k hf; omega)), fun k hk => (p.ft k hk).elim (h.ft k) (fun h1 => by have := h.ext.size; omega)⟩
theorem wd_eq {op : Nat} (h : tlOf op ≠ 0) : wdF (tlOf op) = wdT (tlOf op) := by
  unfold wdF wdT
  rcases (nr_tl op).2.1 with h1 | h1 | h1 | h1
  · exact absurd h1 h
  · rw [h1]; rfl
  · rw [h1]; rfl
  · rw [h1]; rfl
/-- What holds between two letters of an instruction: X was written before it; I: the iterator; P: the instruction; R: its registers. -/
structure WrJ (w : World) (X : List Nat) (i : Ins) (I P R pos u : Nat) (A : Option Addr) (n c : Nat) (wr : World) : Prop where
  new : New w (X ++ wlF i pos) wr A n c
  it : wr.heap[I]? = some (.stringIter (strOf i.op) pos)
  ins : Blk wr P 38 (insC i).toArray
  reg : Blk wr R 68 #[.int .u8 (i.a : Int), .int .u8 (i.b : Int), .int .u8 (i.c : Int)]
  fI : ¬ foot A c I
  fP : ¬ foot A c P
  fR : ¬ foot A c R
  u_ : u = min pos (nrOf i.op)
theorem WrJ.step {w : World} {X ys : List Nat} {i : Ins} {I P R pos u u' : Nat} {A A2 : Option Addr} {n c n2 c2 : Nat} {wr w1 w3 : World} (h : WrJ w X i I P R pos u A n c wr) (hI : w.heap.size ≤ I) (hP : P ≠ I) (hR : R ≠ I) (e : Ext (wr.putObj I (.stringIter (strOf i.op) (pos + 1))) w1) (hw : wlF i (pos + 1) = wlF i pos ++ ys) (hu : u' = min (pos + 1) (nrOf i.op))
    (r : Room w3 A2 n2 c2 ((X ++ wlF i pos).map u8v ++ ys.map u8v)) (ch : Chg (foot A c) w1 w3) (ft : ∀ k, foot A2 c2 k → foot A c k ∨ w1.heap.size ≤ k) : WrJ w X i I P R (pos + 1) u' A2 n2 c2 w3 := by
  have hl : I < wr.heap.size := (Array.getElem?_eq_some_iff.1 h.it).1
  have hlP := h.ins.lt
  have hlR := h.reg.lt
  have hz : wr.heap.size ≤ w1.heap.size := by have := e.size; simpa using this
  have hnew : New w (X ++ wlF i pos) (wr.putObj I (.stringIter (strOf i.op) (pos + 1))) A n c := ⟨h.new.room.chg (T := fun k => k = I) ⟨rfl, rfl, rfl, by simp, fun k _ hk => World.putObj_heap_other hk⟩ (fun k hk e => h.fI (by rw [← e]; exact hk)), below_put h.new.ext hI, h.new.ft⟩
  have hm := hnew.more e r ch ft
  refine ⟨by rw [hw, ← List.append_assoc]; exact hm, ?_, ((blk_put h.ins hP).ext e).chg ch h.fP, ((blk_put h.reg hR).ext e).chg ch h.fR, fun hk => ?_, fun hk => ?_, fun hk => ?_, hu⟩
  · exact (ch.block _ (by omega) h.fI).trans ((e.block _ (by simpa using hl)).trans (World.putObj_heap_same hl))
  · exact (ft _ hk).elim h.fI (fun h1 => by omega)
  · exact (ft _ hk).elim h.fP (fun h1 => by omega)
  · exact (ft _ hk).elim h.fR (fun h1 => by omega)
theorem WrJ.tailed {w : World} {X ys : List Nat} {i : Ins} {I P R pos u u' : Nat} {A A2 : Option Addr} {n c n2 c2 : Nat} {wr w3 : World} (h : WrJ w X i I P R pos u A n c wr) (hI : w.heap.size ≤ I) (hP : P ≠ I) (hR : R ≠ I) (hw : wlF i (pos + 1) = wlF i pos ++ ys) (hu : u' = min (pos + 1) (nrOf i.op))
    (p : Put (wr.putObj I (.stringIter (strOf i.op) (pos + 1))).drew A c (X ++ wlF i pos ++ ys) w3 A2 n2 c2) : WrJ w X i I P R (pos + 1) u' A2 n2 c2 w3 := by
  have hl : I < wr.heap.size := (Array.getElem?_eq_some_iff.1 h.it).1
  refine h.step hI hP hR (Ext.drew _) hw hu (by rw [← List.map_append]; exact p.room) p.chg p.ft
theorem wlF_reg {i : Ins} {pos : Nat} (h : pos < nrOf i.op) : wlF i (pos + 1) = wlF i pos ++ [rgI i pos] := by
  have := nr_tl i.op
  unfold wlF rgI
  rw [if_pos (show pos + 1 ≤ nrOf i.op by omega), if_pos (show pos ≤ nrOf i.op by omega)]
  rcases (by omega : pos = 0 ∨ pos = 1 ∨ pos = 2) with rfl | rfl | rfl <;> simp
theorem wlF_tail {i : Ins} {pos : Nat} (h : pos = nrOf i.op) : wlF i (pos + 1) = wlF i pos ++ nbF (wdT (tlOf i.op)) (U64 i.n) := by
  unfold wlF
  rw [if_neg (show ¬ pos + 1 ≤ nrOf i.op by omega), if_pos (show pos ≤ nrOf i.op by omega), h, List.cons_append]
def WrRel (w : World) (X : List Nat) (i : Ins) (I P R : Nat) (v6 v12 : Value) (wr : World) : Prop := ∃ (pos u m c' : Nat) (A' : Option Addr), pos ≤ (strOf i.op).size ∧ u ≤ 3 ∧ v6 = .slice A' m c' ∧ v12 = .int .i64 (u : Int) ∧ Hid (WrJ w X i I P R pos u A' m c' wr)
def WriteP (p : List Ins) (w : World) (e : Ending) (w' : World) : Prop := ∃ A n c, e = .returned (.tuple #[.slice A n c, .int .i64 ((writeF p).2 : Int)]) ∧ New w (writeF p).1 w' A n c
theorem flat_take_snoc {p : List Ins} {k : Nat} {i : Ins} (h : p[k]? = some i) : (p.take (k + 1)).flatMap wbF = (p.take k).flatMap wbF ++ wbF i := by
  rw [take_snoc h, List.flatMap_append]; simp
theorem flat_len_le (p : List Ins) : (p.flatMap wbF).length ≤ p.length * 12 := by
  induction p with
  | nil => simp
  | cons i p ih =>
    rw [List.flatMap_cons, List.length_append, List.length_cons, wbF_len]
    have := szOp_le i.op
    omega
set_option maxRecDepth 100000 in
set_option maxHeartbeats 4000000 in
theorem write_ (A : Option Addr) (n c : Nat) (p : List Ins) (w : World) (h : RdS 5 insC w A n p) :
    Calls Try.prog 15 #[.slice A n c] w (WriteP p w) := by
  have hl := h.1
  have HC := Lib.hid (check_ A n c p w h)
  unfold CheckP at HC
  by_cases h0 : (checkF p).2 = 0
  · have hlen : p.length ≤ 256 := by
      rcases Nat.lt_or_ge 256 p.length with h1 | h1
      · unfold checkF at h0
        rw [if_neg (by omega), if_pos h1] at h0
        cases h0
      · exact h1
    have hw : writeF p = (p.flatMap wbF, 0) := by unfold writeF; rw [if_pos h0]
    rw [h0] at HC
    have Hw := Lib.hid hw
    have HR := Lib.hid h
    have Hl := Lib.hid hl
    have hn : n ≤ 256 := by omega
    generalize (checkF p).1 = ck at *
    clear h hl h0 hw hlen
    go_enter Try.func15, Try.ntmps15
    go_wp2_with fail
    refine HC.out.mono ?_; rintro e w1 ⟨rfl, e1⟩
    have E1 := Lib.hid e1
    clear e1 HC
    go_wp2_with fail
    have H0 : Hid (New w ((p.take 0).flatMap wbF) w1 none 0 0) := Lib.hid ((New.nil w).exte E1.out)
    go_loopw [6, 25] (fun v6 v25 wr => ∃ (k : Nat) (Ao : Option Addr) (no co : Nat), k ≤ n ∧ v25 = .int .i64 (k : Int) ∧ v6 = .slice Ao no co ∧ Hid (New w ((p.take k).flatMap wbF) wr Ao no co)) (fun _ v25 _ => n - (intOf v25).toNat)
    case atStart => exact ⟨0, none, 0, 0, by omega, rfl, rfl, H0⟩
    case round =>
      clear H0
      obtain ⟨k, Ao, no, co, hk, rfl, rfl, HN⟩ := hrel
      obtain ⟨wo, rfl⟩ : ∃ wo : World, wo = wr := ⟨_, rfl⟩
      by_cases hlt : k < n
      · have hltI : (k : Int) < (n : Int) := by omega
        obtain ⟨b, o, i, rfl, _, hi, c0, c1, c2, c3, c4⟩ := (HR.out.ext HN.out.ext).ins hlt
        have Hi := Lib.hid hi
        have HF := Lib.hid (fun w' => form_ i.op w')
        unfold FormP at HF
        have HG := Lib.hid (fun w' => registers_ i w')
        unfold insV at HG
        have hno : no ≤ 10000 := by
          rw [HN.out.n_]
          have := flat_len_le (p.take k)
          rw [List.length_take] at this
          omega
        generalize okOp i.op = ok at *
        clear hi
        go_wp2_with fail
        refine (HF.out _).mono ?_; rintro e w2 ⟨rfl, e2⟩
        have hbP := (Blk.new wo 38 (insC i).toArray).ext e2
        obtain ⟨d0, d1, d2, d3, d4⟩ := hbP.ins
        have hN2 := (HN.out.exte (Ext.alloc wo _)).exte e2
        have HbP := Lib.hid hbP
        have HN2 := Lib.hid hN2
        have HoP : Hid (¬ foot Ao co wo.heap.size) := Lib.hid (fun hk => by have := HN.out.room.lt hk; omega)
        clear hbP hN2 e2 c0 c1 c2 c3 c4 HF
        go_wp2_with (refine wpl_build (by rfl) rfl ul_u8 info_u8 [.tmp 37] (by rfl) (by rfl) (by decide) (f := u8v) [i.op] (by rfl) (fun _ => rfl) ?_)
        intro g3 w3 b3 e3 lo3 r3; refine Lib.hid ?_
        have hrm := HN2.out.room.ext e3
        have E3 := Lib.hid e3
        clear b3 e3 lo3 d0 d1 d2 d3 d4
        go_wp2_with (refine wpl_append_at (by rfl) rfl ul_u8 info_u8 rfl rfl hrm rfl (Src.ofRd ul_u8 r3 (fun _ => rfl)) (by simp only [maxLen]; omega) (by omega) ?_)
        intro A4 c4 w4 r4 ch4 ft4; refine Lib.hid ?_
        have hN4 := HN2.out.more (ys := [i.op]) E3.out r4 ch4 ft4
        have hbP := (HbP.out.ext E3.out).chg ch4 HoP.out
        obtain ⟨d0, d1, d2, d3, d4⟩ := hbP.ins
        have HbP4 := Lib.hid hbP
        have HoP4 : Hid (¬ foot A4 c4 wo.heap.size) := Lib.hid (fun hk => (ft4 _ hk).elim HoP.out (fun h => by have := HbP.out.lt; have := E3.out.size; omega))
        have HN4 := Lib.hid hN4
        clear hN4 hbP r4 ch4 ft4 hrm r3 HbP HN2 HoP E3 HN
        go_wp2_with fail
        refine (HG.out _).mono ?_; rintro e w5 ⟨rfl, e5⟩
        have hbP := HbP4.out.ext e5
        have HN5 := Lib.hid (HN4.out.exte e5)
        have HbP5 := Lib.hid hbP
        have hlt5 : wo.heap.size < w5.heap.size := HbP5.out.lt
        have HoR : Hid (¬ foot A4 c4 w5.heap.size ∧ ¬ foot A4 c4 (w5.heap.size + 1)) := Lib.hid ⟨fun hk => by have := HN5.out.room.lt hk; omega, fun hk => by have := HN5.out.room.lt hk; omega⟩
        clear hbP e5 d0 d1 d2 d3 d4 HG HbP4 HN4
        go_wp2_with fail
        have h00 : WrJ w ((p.take k).flatMap wbF) i (w5.heap.size + 1) wo.heap.size w5.heap.size 0 0 A4 (no + 1) c4 ((w5.alloc (.cells #[.int .u8 (i.a : Int), .int .u8 (i.b : Int), .int .u8 (i.c : Int)] 68)).iter (strOf i.op) 0) := by
          refine ⟨(HN5.out.exte (Ext.alloc _ _)).exte (Ext.alloc _ _), ?_, (HbP5.out.alloc _).alloc _, (Blk.new w5 _ _).alloc _, HoR.out.2, HoP4.out, HoR.out.1, by simp⟩
          have := World.iter_heap (w5.alloc (.cells #[.int .u8 (i.a : Int), .int .u8 (i.b : Int), .int .u8 (i.c : Int)] 68)) (strOf i.op) 0
          rwa [World.size_alloc] at this
        have hwo5 : w.heap.size ≤ w5.heap.size := HN5.out.ext.size
        obtain ⟨I, hI⟩ : ∃ I, I = w5.heap.size + 1 := ⟨_, rfl⟩
        obtain ⟨P, hP⟩ : ∃ P, P = wo.heap.size := ⟨_, rfl⟩
        obtain ⟨R, hR⟩ : ∃ R, R = w5.heap.size := ⟨_, rfl⟩
        rw [← hI, ← hP, ← hR] at h00
        have H00 := Lib.hid h00
        have Hs : Hid (w.heap.size ≤ I ∧ P ≠ I ∧ R ≠ I) := Lib.hid (by omega)
        simp only [← hI]
        simp only [← hP, ← hR]
        clear h00 hI hP hR hlt5 hwo5 HoR HbP5 HN5 HoP4
        go_loopw [6, 12] (fun v6 v12 wr => WrRel w ((p.take k).flatMap wbF) i I P R v6 v12 wr) (fun _ _ wr => (strOf i.op).size - wr.iterPos I)
        case atStart => exact ⟨0, 0, no + 1, c4, A4, Nat.zero_le _, by omega, rfl, rfl, H00⟩
        case round =>
          clear H00
          obtain ⟨pos, u, m, c', A', hp, hu3, rfl, rfl, HJ⟩ := hrel
          have hm : m ≤ 20000 := by
            rw [HJ.out.new.n_, List.length_append]
            have h1 := flat_len_le (p.take k)
            have h2 := wlF_le i pos
            rw [List.length_take] at h1
            omega
          by_cases hps : pos < (strOf i.op).size
          · have hmeas : (strOf i.op).size - (pos + 1) < (strOf i.op).size - wr.iterPos I := by rw [show wr.iterPos I = pos by simp [World.iterPos, HJ.out.it]]; omega
            have Hmeas := Lib.hid hmeas
            have Hp1 : Hid (pos + 1 ≤ (strOf i.op).size) := Lib.hid hps
            have hbI := blk_put (l := I) (o := .stringIter (strOf i.op) (pos + 1)) HJ.out.ins Hs.out.2.1
            have hbR := blk_put (l := I) (o := .stringIter (strOf i.op) (pos + 1)) HJ.out.reg Hs.out.2.2
            have hrI : Room (wr.putObj I (.stringIter (strOf i.op) (pos + 1))) A' m c' (((p.take k).flatMap wbF ++ wlF i pos).map u8v) := HJ.out.new.room.chg (T := fun k => k = I) ⟨rfl, rfl, rfl, by simp, fun k _ hk => World.putObj_heap_other hk⟩ (fun k hk e => HJ.out.fI (by rw [← e]; exact hk))
            clear hmeas
            by_cases hr : pos < nrOf i.op
            · obtain rfl : u = pos := by rw [HJ.out.u_]; omega
              have hu : u < 3 := by have := nr_tl i.op; omega
              have hL : ((strOf i.op)[u]'hps).toNat = 114 := by rw [strOf_at_r hr hps]; rfl
              have hnx := fun ty => run_next_r (P := Try.prog) wr I (strOf i.op) u ty HJ.out.it hps (by rw [hL]; omega)
              rw [hL] at hnx
              have huI : (u : Int) < 3 := by omega
              have hc : (wr.putObj I (.stringIter (strOf i.op) (u + 1))).cell? ⟨R, u, none⟩ = some (.int .u8 (rgI i u : Nat)) := by
                rw [hbR.cell]
                rcases (by omega : u = 0 ∨ u = 1 ∨ u = 2) with rfl | rfl | rfl <;> simp [rgI]
              have hwl := wlF_reg hr
              have Hwl := Lib.hid hwl
              have Hmin : Hid (u + 1 = min (u + 1) (nrOf i.op)) := Lib.hid (by omega)
              have HrI := Lib.hid hrI
              clear hL hr hps hwl hbI hbR hrI
              go_wp2_with (refine wpl_build (by rfl) rfl ul_u8 info_u8 [.tmp 52] (by rfl) (by rfl) (by decide) (f := u8v) [rgI i u] (by rfl) (fun _ => rfl) ?_)
              intro g6 w6 b6 e6 lo6 r6; refine Lib.hid ?_
              have hrm := HrI.out.ext e6
              have E6 := Lib.hid e6
              clear b6 e6 lo6 hc
              obtain ⟨L, hLL⟩ : ∃ L, L = (p.take k).flatMap wbF ++ wlF i u := ⟨_, rfl⟩
              rw [← hLL] at hrm
              have HLL := Lib.hid hLL
              clear hLL
              go_wp2_with (refine wpl_append_at (by rfl) rfl ul_u8 info_u8 rfl rfl hrm rfl (Src.ofRd ul_u8 r6 (fun _ => rfl)) (by simp only [maxLen]; omega) (by omega) ?_)
              intro A7 c7 w7 r7 ch7 ft7; refine Lib.hid ?_
              have hJ' := HJ.out.step (ys := [rgI i u]) Hs.out.1 Hs.out.2.1 Hs.out.2.2 E6.out Hwl.out Hmin.out (by rw [← HLL.out]; exact r7) ch7 ft7
              have HJ' := Lib.hid hJ'
              clear hJ' r7 ch7 ft7 hrm r6
              go_wp2_with fail
              go_roundw
              case rel => exact ⟨u + 1, u + 1, m + 1, c7, A7, Hp1.out, by omega, rfl, by go_num, HJ'⟩
              case measure => rw [show w7.iterPos I = u + 1 by simp [World.iterPos, HJ'.out.it]]; exact Hmeas.out
            · have hpe : pos = nrOf i.op := by rw [strOf_size] at hps; split at hps <;> omega
              obtain ⟨hL0, ht0⟩ := strOf_at_t hpe hps
              have hL : ((strOf i.op)[pos]'hps).toNat = tlOf i.op := by
                rw [hL0]
                rcases (nr_tl i.op).2.1 with h | h | h | h <;> (rw [h]; rfl)
              have hnx := fun ty => run_next_r (P := Try.prog) wr I (strOf i.op) pos ty HJ.out.it hps (by rw [hL]; rcases (nr_tl i.op).2.1 with h | h | h | h <;> omega)
              rw [hL] at hnx
              have hd4 := hbI.ins.2.2.2.2
              have hwl := wlF_tail hpe
              have hwd := wd_eq ht0
              have HWd := Lib.hid (fun w' => width_ (tlOf i.op) w' (by rcases (nr_tl i.op).2.1 with h | h | h | h <;> omega))
              rw [hwd] at HWd
              have hq : ((tlOf i.op : Int) == 114) = false := by simp; rcases (nr_tl i.op).2.1 with h | h | h | h <;> omega
              have hwT : wdT (tlOf i.op) ≤ 8 := by unfold wdT; repeat' split
                                                   all_goals omega
              generalize wdT (tlOf i.op) = wd at *
              generalize tlOf i.op = tl at *
              have Hwl := Lib.hid hwl
              have Hmin : Hid (u = min (pos + 1) (nrOf i.op)) := Lib.hid (by rw [HJ.out.u_]; omega)
              have HNu := Lib.hid (fun w' (e : Ext (wr.putObj I (.stringIter (strOf i.op) (pos + 1))) w') => number_ A' m c' _ i.n wd w' (hrI.ext e) hwT (by omega))
              clear hL hL0 hr hps hwl hwd hbI hbR hrI hpe ht0
              go_upto_region 17 with fail
              go_region_law (first
                | (go_simp; go_at_call 35; refine (HWd.out _).mono ?_; rintro e w' ⟨rfl, rfl⟩)
                | (go_simp; go_at_call 34; refine (HNu.out _ (Ext.drew _)).mono ?_; rintro e w7 ⟨A7, c7, rfl, hp7⟩; have HP7 := Lib.hid hp7; clear hp7))
              all_goals
                have HJ' := Lib.hid (HJ.out.tailed Hs.out.1 Hs.out.2.1 Hs.out.2.2 Hwl.out Hmin.out HP7.out)
                go_wp2_with fail
                go_simp
                go_roundw
                case rel => exact ⟨pos + 1, u, m + wd, c7, A7, Hp1.out, by omega, rfl, rfl, HJ'⟩
                case measure => rw [show w7.iterPos I = pos + 1 by simp [World.iterPos, HJ'.out.it]]; exact Hmeas.out
          · obtain rfl : pos = (strOf i.op).size := by omega
            have hnx := fun ty => run_next_e (P := Try.prog) wr I (strOf i.op) (strOf i.op).size ty HJ.out.it hps
            have hfin := HJ.out.new
            rw [wlF_end, ← flat_take_snoc Hi.out] at hfin
            have HFin := Lib.hid hfin
            clear hfin HJ
            go_wp2_with fail
            go_roundw
            case rel => exact ⟨k + 1, A', m, c', by omega, by go_num, rfl, HFin⟩
            case measure => simp [intOf]; omega
      · obtain rfl : n = k := by omega
        have hfin := HN.out
        rw [List.take_of_length_le (by rw [Hl.out]; exact Nat.le_refl _)] at hfin
        have HFin := Lib.hid hfin
        clear hfin HN
        go_wp2_with fail
        go_ret2
        exact ⟨Ao, no, co, by rw [Hw.out]; rfl, by rw [Hw.out]; exact HFin.out⟩
  · have hw : writeF p = ([], (checkF p).2) := by unfold writeF; rw [if_neg h0]
    have hq : (((checkF p).2 : Int) != 0) = true := by simp; omega
    have Hw := Lib.hid hw
    generalize (checkF p).1 = ck at *
    generalize (checkF p).2 = er at *
    clear h hl h0 hw
    go_enter Try.func15, Try.ntmps15
    go_wp2_with fail
    refine HC.out.mono ?_; rintro e w1 ⟨rfl, e1⟩
    have E1 := Lib.hid e1
    clear e1 HC
    go_wp2_with fail
    go_ret2
    exact ⟨none, 0, 0, by rw [Hw.out]; rfl, by rw [Hw.out]; exact (New.nil w).exte E1.out⟩
end Go.Proofs.Ytiakcehhegippaa
