/- Crd: the program's read: one instruction out of its bytes. -/
import Derived.Test.YtiakcehhegippaaCtk
namespace Go.Fx
open Go.RowKit
/-- The instruction when some letters are done; ys: the bytes behind the Op. -/
def rdP (op : Nat) (ys : List Nat) (pos : Nat) : Ins :=
  ⟨op, if 0 < min pos (nrOf op) then (ys[0]?).getD 0 else 0, if 1 < min pos (nrOf op) then (ys[1]?).getD 0 else 0, if 2 < min pos (nrOf op) then (ys[2]?).getD 0 else 0, if pos ≤ nrOf op then 0 else I64 (vF ((ys.drop (nrOf op)).take (wdT (tlOf op))))⟩
/-- How many bytes are taken then. -/
def csP (op pos : Nat) : Nat := if pos ≤ nrOf op then pos else nrOf op + wdT (tlOf op)
def rdI (op : Nat) (ys : List Nat) : Ins := rdP op ys (strOf op).size
theorem szOp_eq (op : Nat) : szOp op = 1 + nrOf op + wdT (tlOf op) := by
  unfold szOp wdT
  rcases (nr_tl op).2.1 with h | h | h | h <;> rw [h]
theorem csP_le (op pos : Nat) (_h : pos ≤ (strOf op).size) : csP op pos + 1 ≤ szOp op := by
  rw [szOp_eq]
  unfold csP
  split <;> omega
def ins0 : Ins := ⟨0, 0, 0, 0, 0⟩
theorem rdP_zero (op : Nat) (ys : List Nat) : rdP op ys 0 = ⟨op, 0, 0, 0, 0⟩ := by simp [rdP]
theorem I64_small {x : Nat} (h : x < 256) : I64 x = (x : Int) := by unfold I64 wrap64; omega
end Go.Fx
namespace Go.Proofs.Ytiakcehhegippaa
open Go.RowKit Go.Fx
structure RdJ (w : World) (op : Nat) (ys : List Nat) (m I Bx Ob Pb Rb pos u : Nat) (wr : World) : Prop where
  it : wr.heap[I]? = some (.stringIter (strOf op) pos)
  ob : Blk wr Ob 38 (insC (rdP op ys pos)).toArray
  bx : ∃ A' c', Blk wr Bx 22 #[.slice A' (m - csP op pos) c'] ∧ Rd u8v w A' (m - csP op pos) (ys.drop (csP op pos)) ∧ m - csP op pos ≤ c'
  pb : Blk wr Pb 106 #[.pointer (some ⟨Ob, 1, none⟩), .pointer (some ⟨Ob, 2, none⟩), .pointer (some ⟨Ob, 3, none⟩)]
  rb : Blk wr Rb 38 (insC ins0).toArray
  ext : Ext w wr
  u_ : u = min pos (nrOf op)
structure Dist (w : World) (Bx Ob Pb Rb I : Nat) : Prop where
  b1 : w.heap.size ≤ Bx
  b2 : w.heap.size ≤ Ob
  b3 : w.heap.size ≤ I
  ne1 : Ob ≠ Bx
  ne2 : Pb ≠ Bx
  ne3 : Pb ≠ Ob
  ne4 : Bx ≠ I
  ne5 : Ob ≠ I
  ne6 : Pb ≠ I
  ne7 : Rb ≠ Bx
  ne8 : Rb ≠ Ob
  ne9 : Rb ≠ I
  b4 : w.heap.size ≤ Rb
section
variable {w : World} {op : Nat} {ys : List Nat} {m I Bx Ob Pb Rb pos u : Nat} {wr W w7 : World}
theorem rdP_reg (h : pos < nrOf op) : (insC (rdP op ys pos)).toArray.setIfInBounds (pos + 1) (.int .u8 (((ys[pos]?).getD 0 : Nat) : Int)) = (insC (rdP op ys (pos + 1))).toArray := by
  have h3 := nr_tl op
  have e1 : min pos (nrOf op) = pos := by omega
  have e2 : min (pos + 1) (nrOf op) = pos + 1 := by omega
  unfold rdP
  rw [e1, e2, if_pos (show pos ≤ nrOf op by omega), if_pos (show pos + 1 ≤ nrOf op by omega)]
  rcases (by omega : pos = 0 ∨ pos = 1 ∨ pos = 2) with rfl | rfl | rfl <;> simp [insC]
theorem rdP_tail (h : pos = nrOf op) : (insC (rdP op ys pos)).toArray.setIfInBounds 4 (.int .i64 (I64 (vF ((ys.drop (nrOf op)).take (wdT (tlOf op)))))) = (insC (rdP op ys (pos + 1))).toArray := by
  have e1 : min pos (nrOf op) = nrOf op := by omega
  have e2 : min (pos + 1) (nrOf op) = nrOf op := by omega
  unfold rdP
  rw [e1, e2, if_pos (show pos ≤ nrOf op by omega), if_neg (show ¬ pos + 1 ≤ nrOf op by omega)]
  simp [insC]
/-- Some bytes were taken, and a field was written. -/
theorem RdJ.step {k fo : Nat} {v : Value} {u' : Nat} (h : RdJ w op ys m I Bx Ob Pb Rb pos u wr) (D : Dist w Bx Ob Pb Rb I) (e : Ext (wr.putObj I (.stringIter (strOf op) (pos + 1))) W) {A' : Option Addr} {c' : Nat} (hR : Rd u8v w A' (m - csP op pos) (ys.drop (csP op pos))) (hc : m - csP op pos ≤ c') (hk : csP op (pos + 1) = csP op pos + k) (hk2 : csP op (pos + 1) ≤ m)
    (hT : Blk w7 Bx 22 #[.slice (from_ A' c' k) (m - csP op pos - k) (c' - k)]) (ch : Chg (fun j => j = Bx) W w7) (hs : (insC (rdP op ys pos)).toArray.setIfInBounds fo v = (insC (rdP op ys (pos + 1))).toArray) (hu : u' = min (pos + 1) (nrOf op)) :
    RdJ w op ys m I Bx Ob Pb Rb (pos + 1) u' (w7.setCell ⟨Ob, fo, none⟩ v) := by
  have hl : I < wr.heap.size := (Array.getElem?_eq_some_iff.1 h.it).1
  have hz : wr.heap.size ≤ W.heap.size := by have := e.size; simpa using this
  have hit : w7.heap[I]? = some (.stringIter (strOf op) (pos + 1)) := (ch.block _ (by omega) (fun e => D.ne4 e.symm)).trans ((e.block _ (by simpa using hl)).trans (World.putObj_heap_same hl))
  have hob := (((blk_put (l := I) (o := .stringIter (strOf op) (pos + 1)) h.ob D.ne5).ext e).chg ch D.ne1).set_ fo v
  rw [hs] at hob
  have hpb := ((((blk_put (l := I) (o := .stringIter (strOf op) (pos + 1)) h.pb D.ne6).ext e).chg ch D.ne2)).off (b := Ob) (o := fo) D.ne3 v
  have hrb := ((((blk_put (l := I) (o := .stringIter (strOf op) (pos + 1)) h.rb D.ne9).ext e).chg ch D.ne7)).off (b := Ob) (o := fo) D.ne8 v
  refine ⟨(heap_set (fun e => D.ne5 e.symm) v).trans hit, hob, ⟨from_ A' c' k, c' - k, ?_, ?_, by omega⟩, hpb, hrb, ?_, hu⟩
  · have h1 := hT.off (b := Ob) (o := fo) (fun e => D.ne1 e.symm) v
    rw [hk, show m - (csP op pos + k) = m - csP op pos - k by omega]
    exact h1
  · have h1 := hR.from_ (k := k) (c := c') (by omega) hc
    rw [List.drop_drop] at h1
    rw [hk, show m - (csP op pos + k) = m - csP op pos - k by omega]
    exact h1
  · have h1 : Below w.heap.size w W := (below_put h.ext D.b3).trans (e.mono (by have := h.ext.size; simp; omega))
    exact below_set (h1.trans (ch.below (by have := h.ext.size; omega) (fun k hk e => by have := D.b1; omega))) D.b2 v
end
/-- An instruction is stored. -/
def five (w : World) (g : Nat) (q : Ins) : World := ((((w.setCell ⟨g, 0, none⟩ (.int .u8 (q.op : Int))).setCell ⟨g, 1, none⟩ (.int .u8 (q.a : Int))).setCell ⟨g, 2, none⟩ (.int .u8 (q.b : Int))).setCell ⟨g, 3, none⟩ (.int .u8 (q.c : Int))).setCell ⟨g, 4, none⟩ (.int .i64 q.n)
theorem five_blk {w : World} {g : Nat} {t : TypeId} {j : Ins} (h : Blk w g t (insC j).toArray) (q : Ins) : Blk (five w g q) g t (insC q).toArray := by
  have h1 := ((((h.set_ 0 (.int .u8 (q.op : Int))).set_ 1 (.int .u8 (q.a : Int))).set_ 2 (.int .u8 (q.b : Int))).set_ 3 (.int .u8 (q.c : Int))).set_ 4 (.int .i64 q.n)
  have h2 : ((((((insC j).toArray).setIfInBounds 0 (.int .u8 (q.op : Int))).setIfInBounds 1 (.int .u8 (q.a : Int))).setIfInBounds 2 (.int .u8 (q.b : Int))).setIfInBounds 3 (.int .u8 (q.c : Int))).setIfInBounds 4 (.int .i64 q.n) = (insC q).toArray := by simp [insC]
  rw [h2] at h1
  exact h1
theorem five_ext {a w : World} {g : Nat} (h : Ext a w) (hg : a.heap.size ≤ g) (q : Ins) : Ext a (five w g q) := below_set (below_set (below_set (below_set (below_set h hg _) hg _) hg _) hg _) hg _
/-- What read leaves. -/
def RdPost (op : Nat) (ys : List Nat) (w : World) (e : Ending) (w' : World) : Prop := e = .returned (.tuple #[insV (if oneF (rdI op ys) = 0 then rdI op ys else ins0), .int .i64 (oneF (rdI op ys) : Int)]) ∧ Ext w w'
def RdRel (w : World) (op : Nat) (ys : List Nat) (m I Bx Ob Pb Rb : Nat) (v9 : Value) (wr : World) : Prop := ∃ pos u : Nat, pos ≤ (strOf op).size ∧ u ≤ 3 ∧ v9 = .int .i64 (u : Int) ∧ Hid (RdJ w op ys m I Bx Ob Pb Rb pos u wr)
set_option maxRecDepth 100000 in
set_option maxHeartbeats 4000000 in
theorem read_ (A : Option Addr) (c op : Nat) (ys : List Nat) (w : World) (h : Rd u8v w A (szOp op) (op :: ys)) (_hop : op < 256) (hy : ∀ y ∈ ys, y < 256) (hc : szOp op ≤ c) :
    Calls Try.prog 52 #[.slice A (szOp op) c] w (RdPost op ys w) := by
  obtain ⟨b, o, d, rfl, hbl, hd, hcd⟩ := h.at_ (k := 0) (by have := szOp_le op; omega)
  simp only [List.getElem?_cons_zero, Option.some.injEq] at hd
  subst hd
  rw [Nat.add_zero] at hcd
  have HF := Lib.hid (fun w' => form_ op w')
  unfold FormP at HF
  generalize okOp op = ok at *
  have hs12 := szOp_le op
  obtain ⟨n, hn⟩ : ∃ n, n = szOp op := ⟨_, rfl⟩
  rw [← hn] at h hc hs12 ⊢
  have Hn := Lib.hid hn
  have HR := Lib.hid h
  have hsl := fun w' => u8_fromI (A := some ⟨b, o, none⟩) (n := n) (c := c) (k := 1) (li := 1) w' rfl (by omega)
  have hlt0 : (0 : Int) < (n : Int) := by omega
  have hcd1 : ∀ ob, (w.alloc ob).cell? ⟨b, o, none⟩ = some (.int .u8 (op : Int)) := fun ob => (World.cell?_alloc_lt w ob ⟨b, o, none⟩ hbl).trans hcd
  have hcd2 : ∀ ob ob2, ((w.alloc ob).alloc ob2).cell? ⟨b, o, none⟩ = some (.int .u8 (op : Int)) := fun ob ob2 => (World.cell?_alloc_lt (w.alloc ob) ob2 ⟨b, o, none⟩ (by simp; omega)).trans (hcd1 ob)
  clear h hn
  go_enter Try.func52, Try.ntmps52
  go_wp2_with fail
  refine (HF.out _).mono ?_; rintro e w1 ⟨rfl, e1⟩
  have hB := (((Blk.new w 22 #[.slice (some ⟨b, o, none⟩) n c]).alloc (.cells (insC ins0).toArray 38)).alloc (.cells (insC ⟨op, 0, 0, 0, 0⟩).toArray 38)).ext e1
  have hR := ((Blk.new (w.alloc (.cells #[.slice (some ⟨b, o, none⟩) n c] 22)) 38 (insC ins0).toArray).alloc (.cells (insC ⟨op, 0, 0, 0, 0⟩).toArray 38)).ext e1
  have hO := (Blk.new ((w.alloc (.cells #[.slice (some ⟨b, o, none⟩) n c] 22)).alloc (.cells (insC ins0).toArray 38)) 38 (insC ⟨op, 0, 0, 0, 0⟩).toArray).ext e1
  simp only [World.size_alloc] at hR hO
  have E1 := Lib.hid ((((Ext.alloc w _).t (Ext.alloc _ _)).t (Ext.alloc _ _)).t e1)
  have hcB := hB.cell0
  have hfB := hB.frozen 0
  have HB := Lib.hid hB
  have HRb := Lib.hid hR
  have HO := Lib.hid hO
  clear e1 hB hR hO hcd hcd1 hcd2 hbl HF
  go_wp2_with fail
  obtain ⟨m, hm⟩ : ∃ m, m = n - 1 := ⟨_, rfl⟩
  have hmn : m + 1 = n := by omega
  obtain ⟨I, hI⟩ : ∃ I, I = w1.heap.size + 1 := ⟨_, rfl⟩
  obtain ⟨Ob, hOb⟩ : ∃ Ob, Ob = w.heap.size + 1 + 1 := ⟨_, rfl⟩
  obtain ⟨Rb, hRb⟩ : ∃ Rb, Rb = w.heap.size + 1 := ⟨_, rfl⟩
  obtain ⟨Bx, hBx⟩ : ∃ Bx, Bx = w.heap.size := ⟨_, rfl⟩
  obtain ⟨Pb, hPb⟩ : ∃ Pb, Pb = w1.heap.size := ⟨_, rfl⟩
  have hzz := HO.out.lt
  have hD : Dist w Bx Ob Pb Rb I := ⟨by omega, by omega, by omega, by omega, by omega, by omega, by omega, by omega, by omega, by omega, by omega, by omega, by omega⟩
  have h00 : RdJ w op ys m I Bx Ob Pb Rb 0 0 (((w1.setCell ⟨w.heap.size, 0, none⟩ (.slice (from_ (some ⟨b, o, none⟩) c 1) (n - 1) (c - 1))).alloc (.cells #[.pointer (some ⟨w.heap.size + 1 + 1, 1, none⟩), .pointer (some ⟨w.heap.size + 1 + 1, 2, none⟩), .pointer (some ⟨w.heap.size + 1 + 1, 3, none⟩)] 106)).iter (strOf op) 0) := by
    have hszI : ((w1.setCell ⟨w.heap.size, 0, none⟩ (.slice (from_ (some ⟨b, o, none⟩) c 1) (n - 1) (c - 1))).alloc (.cells #[.pointer (some ⟨w.heap.size + 1 + 1, 1, none⟩), .pointer (some ⟨w.heap.size + 1 + 1, 2, none⟩), .pointer (some ⟨w.heap.size + 1 + 1, 3, none⟩)] 106)).heap.size = w1.heap.size + 1 := by simp
    refine ⟨?_, ?_, ⟨from_ (some ⟨b, o, none⟩) c 1, c - 1, ?_, ?_, ?_⟩, ?_, ?_, ?_, by simp⟩
    · have := World.iter_heap ((w1.setCell ⟨w.heap.size, 0, none⟩ (.slice (from_ (some ⟨b, o, none⟩) c 1) (n - 1) (c - 1))).alloc (.cells #[.pointer (some ⟨w.heap.size + 1 + 1, 1, none⟩), .pointer (some ⟨w.heap.size + 1 + 1, 2, none⟩), .pointer (some ⟨w.heap.size + 1 + 1, 3, none⟩)] 106)) (strOf op) 0
      rw [hszI] at this
      rw [hI]; exact this
    · rw [rdP_zero, hOb]
      exact ((HO.out.off (b := w.heap.size) (o := 0) (by omega) _).alloc _).alloc _
    · rw [show m - csP op 0 = n - 1 by simp [csP]; omega, hBx]
      exact ((HB.out.set0 _).alloc _).alloc _
    · have h1 := HR.out.from_ (k := 1) (c := c) (by omega) hc
      rw [show m - csP op 0 = n - 1 by simp [csP]; omega, show csP op 0 = 0 by simp [csP]]
      exact h1
    · rw [show m - csP op 0 = n - 1 by simp [csP]; omega]; omega
    · rw [hPb, hOb]
      have h1 := (Blk.new (w1.setCell ⟨w.heap.size, 0, none⟩ (.slice (from_ (some ⟨b, o, none⟩) c 1) (n - 1) (c - 1))) 106 #[.pointer (some ⟨w.heap.size + 1 + 1, 1, none⟩), .pointer (some ⟨w.heap.size + 1 + 1, 2, none⟩), .pointer (some ⟨w.heap.size + 1 + 1, 3, none⟩)]).alloc (.stringIter (strOf op) 0)
      rw [setCell_size] at h1
      exact h1
    · rw [hRb]
      exact ((HRb.out.off (b := w.heap.size) (o := 0) (by omega) _).alloc _).alloc _
    · exact ((below_set E1.out (Nat.le_refl _) _).t (Ext.alloc _ _)).t (Ext.alloc _ _)
  have H00 := Lib.hid h00
  have HD := Lib.hid hD
  have Hmn : Hid (m + 1 = szOp op) := Lib.hid (by rw [← Hn.out]; exact hmn)
  clear h00 hD
  simp only [← hI] at H00 ⊢
  simp only [← hOb] at H00 ⊢
  simp only [← hRb] at H00 ⊢
  simp only [← hBx, ← hPb] at H00 ⊢
  generalize hW : World.iter _ (strOf op) 0 = wz at H00 ⊢
  clear hW hI hOb hRb hBx hPb hzz hcB hfB HO HRb HB hsl hlt0 hmn hm E1 HR Hn
  go_loopw [9] (fun v9 wr => RdRel w op ys m I Bx Ob Pb Rb v9 wr) (fun _ wr => (strOf op).size - wr.iterPos I)
  case atStart => exact ⟨0, 0, Nat.zero_le _, by omega, rfl, H00⟩
  case round =>
    clear H00
    obtain ⟨pos, u, hp, hu3, rfl, HJ⟩ := hrel
    obtain ⟨A', c', hbx, hrd, hcc⟩ := HJ.out.bx
    by_cases hps : pos < (strOf op).size
    · have hmeas : (strOf op).size - (pos + 1) < (strOf op).size - wr.iterPos I := by rw [show wr.iterPos I = pos by simp [World.iterPos, HJ.out.it]]; omega
      have Hmeas := Lib.hid hmeas
      have Hp1 : Hid (pos + 1 ≤ (strOf op).size) := Lib.hid hps
      have hbx' := blk_put (l := I) (o := .stringIter (strOf op) (pos + 1)) hbx HD.out.ne4
      have hob' := blk_put (l := I) (o := .stringIter (strOf op) (pos + 1)) HJ.out.ob HD.out.ne5
      have hpb' := blk_put (l := I) (o := .stringIter (strOf op) (pos + 1)) HJ.out.pb HD.out.ne6
      have hrd' : Rd u8v (wr.putObj I (.stringIter (strOf op) (pos + 1))) A' (m - csP op pos) (ys.drop (csP op pos)) := hrd.ext (below_put HJ.out.ext HD.out.b3)
      have hcs := csP_le op (pos + 1) hps
      have hyd : ∀ y ∈ ys.drop (csP op pos), y < 256 := fun y h => hy y (List.mem_of_mem_drop h)
      clear hmeas
      by_cases hr : pos < nrOf op
      · obtain rfl : u = pos := by rw [HJ.out.u_]; omega
        have hu : u < 3 := by have := nr_tl op; omega
        have hL : ((strOf op)[u]'hps).toNat = 114 := by rw [strOf_at_r hr hps]; rfl
        have hnx := fun ty => run_next_r (P := Try.prog) wr I (strOf op) u ty HJ.out.it hps (by rw [hL]; omega)
        rw [hL] at hnx
        have huI : (u : Int) < 3 := by omega
        have hc1 : csP op (u + 1) = csP op u + 1 := by unfold csP; rw [if_pos (show u + 1 ≤ nrOf op by omega), if_pos (show u ≤ nrOf op by omega)]
        have hc0 : csP op u = u := by unfold csP; rw [if_pos (show u ≤ nrOf op by omega)]
        have hm := Hmn.out
        have hk1 : 1 ≤ m - csP op u := by omega
        obtain ⟨y, hyu⟩ : ∃ y, ys[u]? = some y := by
          have := hrd.1
          rw [List.length_drop] at this
          exact ⟨_, List.getElem?_eq_getElem (by omega)⟩
        have hy8 : y < 256 := hy y (List.mem_of_getElem? hyu)
        have hyt : I64 (vF ((ys.drop (csP op u)).take 1)) = (y : Int) := by
          rw [hc0, show (ys.drop u).take 1 = [y] by
            have hlu := (List.getElem?_eq_some_iff.1 hyu).1
            rw [List.drop_eq_getElem_cons hlu, (List.getElem?_eq_some_iff.1 hyu).2]; rfl]
          rw [show vF [y] = y by simp [vF]]
          exact I64_small hy8
        have hp3 : (#[Value.pointer (some ⟨Ob, 1, none⟩), .pointer (some ⟨Ob, 2, none⟩), .pointer (some ⟨Ob, 3, none⟩)] : Array Value)[u]? = some (.pointer (some ⟨Ob, u + 1, none⟩)) := by
          rcases (by omega : u = 0 ∨ u = 1 ∨ u = 2) with rfl | rfl | rfl <;> rfl
        have hp1 := hpb'.cell u
        rw [hp3] at hp1
        have HT := Lib.hid (fun w' (e : Ext (wr.putObj I (.stringIter (strOf op) (u + 1))) w') => take_ Bx A' (m - csP op u) c' 1 _ w' (hbx'.ext e) (hrd'.ext e) hyd hk1 hcc (by have := szOp_le op; omega) (by omega))
        unfold TakeP at HT
        rw [hyt] at HT
        have HS := Lib.hid (fun W w7 (e : Ext (wr.putObj I (.stringIter (strOf op) (u + 1))) W) hT (ch : Chg (fun j => j = Bx) W w7) => HJ.out.step (fo := u + 1) (v := .int .u8 (y : Int)) (k := 1) (u' := u + 1) HD.out e hrd hcc hc1 (by omega) hT ch (by rw [← rdP_reg hr, hyu]; rfl) (by omega))
        have hob := fun W w7 (e : Ext (wr.putObj I (.stringIter (strOf op) (u + 1))) W) (ch : Chg (fun j => j = Bx) W w7) => ((hob'.ext e).chg ch HD.out.ne1)
        have hpb := fun W w7 (e : Ext (wr.putObj I (.stringIter (strOf op) (u + 1))) W) (ch : Chg (fun j => j = Bx) W w7) => ((hpb'.ext e).chg ch HD.out.ne2).cell u
        rw [hp3] at hpb
        have hcc1 : (insC (rdP op ys u)).toArray.size = 5 := rfl
        have Hob := Lib.hid hob
        have Hpb := Lib.hid hpb
        clear hob hpb hp3 hyt hyu hk1 hm hc0 hc1 hL hr hps hbx' hob' hpb' hrd' hcs hyd hbx hrd hcc
        go_upto_region 10 with fail
        go_region_law (go_simp; go_at_call 57; refine (HT.out _ (Ext.drew _)).mono ?_; rintro e w7 ⟨rfl, hT7, ch7⟩; have hf7 := (Hob.out _ _ (Ext.drew _) ch7).frozen (u + 1); obtain ⟨vo, hv7⟩ := (Hob.out _ _ (Ext.drew _) ch7).cell_at (i := u + 1) (by rw [hcc1]; omega); have hq7 := Hpb.out _ _ (Ext.drew _) ch7; have HS7 := Lib.hid (HS.out _ _ (Ext.drew _) hT7 ch7); clear hT7 ch7)
        all_goals
          go_wp2_with fail
          go_simp
          go_roundw
          case rel => exact ⟨u + 1, u + 1, Hp1.out, by omega, by go_num, HS7⟩
          case measure => rw [show World.iterPos _ I = u + 1 by simp only [World.iterPos, HS7.out.it]]; exact Hmeas.out
      · have hpe : pos = nrOf op := by rw [strOf_size] at hps; split at hps <;> omega
        obtain ⟨hL0, ht0⟩ := strOf_at_t hpe hps
        have hL : ((strOf op)[pos]'hps).toNat = tlOf op := by
          rw [hL0]
          rcases (nr_tl op).2.1 with h | h | h | h <;> (rw [h]; rfl)
        have hnx := fun ty => run_next_r (P := Try.prog) wr I (strOf op) pos ty HJ.out.it hps (by rw [hL]; rcases (nr_tl op).2.1 with h | h | h | h <;> omega)
        rw [hL] at hnx
        have hwd := wd_eq ht0
        have HWd := Lib.hid (fun w' => width_ (tlOf op) w' (by rcases (nr_tl op).2.1 with h | h | h | h <;> omega))
        rw [hwd] at HWd
        have hq : ((tlOf op : Int) == 114) = false := by simp; rcases (nr_tl op).2.1 with h | h | h | h <;> omega
        have hc0 : csP op pos = pos := by unfold csP; rw [if_pos (by omega)]
        have hc1 : csP op (pos + 1) = csP op pos + wdT (tlOf op) := by unfold csP; rw [if_neg (by omega), if_pos (by omega)]; omega
        have hwT : wdT (tlOf op) ≤ 8 := by unfold wdT; repeat' split
                                           all_goals omega
        have hm := Hmn.out
        have hrt := rdP_tail (ys := ys) hpe
        have HT := Lib.hid (fun w' (e : Ext (wr.putObj I (.stringIter (strOf op) (pos + 1))) w') => take_ Bx A' (m - csP op pos) c' (wdT (tlOf op)) _ w' (hbx'.ext e) (hrd'.ext e) hyd (by omega) hcc (by have := szOp_le op; omega) hwT)
        unfold TakeP at HT
        rw [show (ys.drop (csP op pos)).take (wdT (tlOf op)) = (ys.drop (nrOf op)).take (wdT (tlOf op)) by rw [hc0, hpe]] at HT
        have HS := Lib.hid (fun W w7 (e : Ext (wr.putObj I (.stringIter (strOf op) (pos + 1))) W) hT (ch : Chg (fun j => j = Bx) W w7) => HJ.out.step (fo := 4) (v := .int .i64 (I64 (vF ((ys.drop (nrOf op)).take (wdT (tlOf op)))))) (k := wdT (tlOf op)) (u' := u) HD.out e hrd hcc hc1 (by omega) hT ch hrt (by rw [HJ.out.u_]; omega))
        have Hob := Lib.hid (fun W w7 (e : Ext (wr.putObj I (.stringIter (strOf op) (pos + 1))) W) (ch : Chg (fun j => j = Bx) W w7) => ((hob'.ext e).chg ch HD.out.ne1))
        have hcc1 : (insC (rdP op ys pos)).toArray.size = 5 := rfl
        generalize I64 _ = vv at *
        generalize wdT (tlOf op) = wd at *
        generalize tlOf op = tl at *
        clear hrt hm hc0 hc1 hL0 ht0 hL hr hps hbx' hob' hpb' hrd' hcs hyd hbx hrd hcc hwd hpe
        go_wp2_with fail
        refine (HWd.out _).mono ?_; rintro e w' ⟨rfl, rfl⟩
        go_wp2_with fail
        refine (HT.out _ (Ext.refl _)).mono ?_; rintro e w7 ⟨rfl, hT7, ch7⟩
        have hf7 := (Hob.out _ _ (Ext.refl _) ch7).frozen 4
        obtain ⟨vo, hv7⟩ := (Hob.out _ _ (Ext.refl _) ch7).cell_at (i := 4) (by rw [hcc1]; omega)
        have HS7 := Lib.hid (HS.out _ _ (Ext.refl _) hT7 ch7)
        clear hT7 ch7
        go_wp2_with fail
        go_roundw
        case rel => exact ⟨pos + 1, u, Hp1.out, by omega, rfl, HS7⟩
        case measure => rw [show World.iterPos _ I = pos + 1 by simp only [World.iterPos, HS7.out.it]]; exact Hmeas.out
    · obtain rfl : pos = (strOf op).size := by omega
      have hnx := fun ty => run_next_e (P := Try.prog) wr I (strOf op) (strOf op).size ty HJ.out.it hps
      have hob := HJ.out.ob
      change Blk wr Ob 38 (insC (rdI op ys)).toArray at hob
      have hrb := HJ.out.rb
      have he := HJ.out.ext
      obtain ⟨q, hq⟩ : ∃ q, q = rdI op ys := ⟨_, rfl⟩
      rw [← hq] at hob
      have HOne := Lib.hid (fun w' => one_ q w')
      have Hq := Lib.hid hq
      obtain ⟨c0, c1, c2, c3, c4⟩ := hob.ins
      have HOb := Lib.hid hob
      have HRb := Lib.hid hrb
      have He := Lib.hid he
      clear hob hrb he hbx hrd hcc HJ hq
      unfold OneP at HOne
      unfold insV at HOne
      by_cases h1 : oneF q = 0
      · rw [h1] at HOne
        have H1 := Lib.hid h1
        clear h1
        go_wp2_with fail
        refine (HOne.out _).mono ?_; rintro e w2 ⟨rfl, e2⟩
        obtain ⟨d0, d1, d2, d3, d4⟩ := (HOb.out.ext e2).ins
        have hrb2 := HRb.out.ext e2
        obtain ⟨r0, r1, r2, r3, r4⟩ := hrb2.ins
        have hf0 := hrb2.frozen 0
        have hf1 := hrb2.frozen 1
        have hf2 := hrb2.frozen 2
        have hf3 := hrb2.frozen 3
        have hf4 := hrb2.frozen 4
        have HRb2 := Lib.hid hrb2
        have E2 := Lib.hid e2
        clear e2 hrb2
        go_wp2_with fail
        refine bodyPost_ret (v := .tuple #[insV q, .int .i64 0]) (by simp [results, Try.results52, go_sem, r0, r1, r2, r3, r4, insV]) rfl ⟨by rw [← Hq.out, if_pos H1.out, H1.out]; rfl, five_ext (He.out.t E2.out) HD.out.b4 q⟩
      · have hq2 : ((oneF q : Int) != 0) = true := by simp; exact h1
        have H1 := Lib.hid h1
        generalize hee : oneF q = ee at *
        have Hee := Lib.hid hee
        clear h1 hee
        go_wp2_with fail
        refine (HOne.out _).mono ?_; rintro e w2 ⟨rfl, e2⟩
        obtain ⟨d0, d1, d2, d3, d4⟩ := (HOb.out.ext e2).ins
        have hrb2 := HRb.out.ext e2
        obtain ⟨r0, r1, r2, r3, r4⟩ := hrb2.ins
        have hf0 := hrb2.frozen 0
        have hf1 := hrb2.frozen 1
        have hf2 := hrb2.frozen 2
        have hf3 := hrb2.frozen 3
        have hf4 := hrb2.frozen 4
        have HRb2 := Lib.hid hrb2
        have E2 := Lib.hid e2
        clear e2 hrb2
        go_wp2_with fail
        refine bodyPost_ret (v := .tuple #[insV ins0, .int .i64 (ee : Int)]) (by simp [results, Try.results52, go_sem, r0, r1, r2, r3, r4, insV, ins0]) rfl ⟨by rw [← Hq.out, Hee.out, if_neg H1.out], five_ext (He.out.t E2.out) HD.out.b4 ins0⟩
end Go.Proofs.Ytiakcehhegippaa
