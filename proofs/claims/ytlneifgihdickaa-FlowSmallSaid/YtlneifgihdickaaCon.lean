/- Con: what is wrong with an instruction: the program's One; Goes, Target, Size. -/
import Derived.Test.YtlneifgihdickaaCfm
import Derived.Test.YtlneifgihdickaaCit
import Derived.Test.YtlneifgihdickaaCeq
import Derived.Deep.CutRange
namespace Go.Fx
open Go.RowKit
def insV (i : Ins) : Value := .agg #[.int .u8 (i.op : Int), .int .u8 (i.a : Int), .int .u8 (i.b : Int), .int .u8 (i.c : Int), .int .i64 i.n]
/-- The fields are numbers of their types. -/
structure InsOk (i : Ins) : Prop where
  op : i.op < 256
  a : i.a < 256
  b : i.b < 256
  c : i.c < 256
  n1 : -9223372036854775808 ≤ i.n
  n2 : i.n ≤ 9223372036854775807
/-- How many of the first registers are registers. -/
def gdOf (a b c : Nat) : Nat := if a < 8 then (if b < 8 then (if c < 8 then 3 else 2) else 1) else 0
theorem blk3 {w : World} {g : Nat} {t : TypeId} {x y z : Value} (h : Blk w g t #[x, y, z]) (a b c : Value) : Blk (((w.setCell ⟨g, 0, none⟩ a).setCell ⟨g, 1, none⟩ b).setCell ⟨g, 2, none⟩ c) g t #[a, b, c] := by
  have h1 := ((h.set_ 0 a).set_ 1 b).set_ 2 c
  simpa using h1
theorem ext3 {B : Nat} {w0 w : World} (h : Below B w0 w) {g : Nat} (hg : B ≤ g) (a b c : Value) : Below B w0 (((w.setCell ⟨g, 0, none⟩ a).setCell ⟨g, 1, none⟩ b).setCell ⟨g, 2, none⟩ c) := below_set (below_set (below_set h hg _) hg _) hg _
def zr (u k x : Nat) : Nat := if k < u then 0 else x
end Go.Fx
namespace Go.Proofs.Ytlneifgihdickaa
open Go.RowKit Go.Fx
set_option maxHeartbeats 1000000 in
theorem registers_ (i : Ins) (w : World) :
    Calls Try.prog 62 #[insV i] w fun e w' => e = .returned (.agg #[.int .u8 (i.a : Int), .int .u8 (i.b : Int), .int .u8 (i.c : Int)]) ∧ Ext w w' := by
  unfold insV
  go_enter Try.func62, Try.ntmps62
  go_wp2
  refine bodyPost_ret (v := .agg #[.int .u8 (i.a : Int), .int .u8 (i.b : Int), .int .u8 (i.c : Int)]) (by simp [results, Try.results62, go_sem]) rfl ⟨rfl, ?_⟩
  exact (Ext.alloc _ _).t (Ext.alloc _ _)
/-- What One answers. -/
def OneP (i : Ins) (w : World) (e : Ending) (w' : World) : Prop := e = .returned (.int .i64 (oneF i : Int)) ∧ Ext w w'
set_option maxRecDepth 100000 in
set_option maxHeartbeats 1000000 in
theorem one_bad (i : Ins) (w : World) (hb : okOp i.op = false) :
    Calls Try.prog 39 #[insV i] w (OneP i w) := by
  have HF := Lib.hid (fun w' => form_ i.op w')
  have Hb := Lib.hid hb
  unfold FormP at HF
  rw [hb] at HF
  unfold insV
  clear hb
  go_enter Try.func39, Try.ntmps39
  go_wp2_with fail
  refine (HF.out _).mono ?_; rintro e w1 ⟨rfl, e1⟩
  have E1 := Lib.hid ((Ext.alloc w _).t e1)
  clear e1
  go_wp2_with fail
  go_ret
  exact ⟨by unfold oneF; rw [if_pos Hb.out]; rfl, E1.out⟩
/-- What holds between two rounds. -/
structure OnJ (w : World) (i : Ins) (I B pos u : Nat) (m : Int) (wr : World) : Prop where
  it : wr.heap[I]? = some (.stringIter (strOf i.op) pos)
  blk : Blk wr B 108 #[.int .u8 (zr u 0 i.a : Nat), .int .u8 (zr u 1 i.b : Nat), .int .u8 (zr u 2 i.c : Nat)]
  ext : Ext w wr
  u_ : u = min (min pos (nrOf i.op)) (gdOf i.a i.b i.c)
  m_ : m = if pos ≤ nrOf i.op then i.n else if nOk (tlOf i.op) i.n then 0 else i.n
def rgI (i : Ins) (k : Nat) : Nat := if k = 0 then i.a else if k = 1 then i.b else i.c
section
variable {w : World} {i : Ins} {I B pos u : Nat} {m : Int} {wr : World}
theorem gd_le (a b c : Nat) : gdOf a b c ≤ 3 := by unfold gdOf; repeat' split
                                                   all_goals omega
theorem OnJ.u3 (h : OnJ w i I B pos u m wr) (hp : pos < nrOf i.op) : u < 3 ∧ (u < gdOf i.a i.b i.c → u = pos ∧ rgI i u < 8) ∧ (¬ u < gdOf i.a i.b i.c → 8 ≤ rgI i u) := by
  have h1 := h.u_
  have h2 := nr_tl i.op
  have h3 := gd_le i.a i.b i.c
  refine ⟨by omega, fun h4 => ⟨by omega, ?_⟩, fun h4 => ?_⟩
  · unfold gdOf at h4; unfold rgI
    repeat' split at h4
    all_goals (repeat' split)
    all_goals omega
  · have h5 : u = gdOf i.a i.b i.c := by omega
    unfold gdOf at h5; unfold rgI
    repeat' split at h5
    all_goals (repeat' split)
    all_goals omega
theorem OnJ.cell (h : OnJ w i I B pos u m wr) (hu : u < 3) (hne : B ≠ I) (o : Obj) : (wr.putObj I o).cell? ⟨B, u, none⟩ = some (.int .u8 (rgI i u : Nat)) ∧ (wr.putObj I o).frozen? ⟨B, u, none⟩ = false := by
  have h1 := blk_put (l := I) (o := o) h.blk hne
  refine ⟨?_, h1.frozen _⟩
  rw [h1.cell]
  rcases (by omega : u = 0 ∨ u = 1 ∨ u = 2) with rfl | rfl | rfl <;> simp [zr, rgI]
theorem OnJ.reg (h : OnJ w i I B pos u m wr) (hp : pos < nrOf i.op) (hu : u < gdOf i.a i.b i.c) (hI : w.heap.size ≤ I) (hB : w.heap.size ≤ B) (hne : B ≠ I) :
    OnJ w i I B (pos + 1) (u + 1) m ((wr.putObj I (.stringIter (strOf i.op) (pos + 1))).setCell ⟨B, u, none⟩ (.int .u8 0)) := by
  have hl : I < wr.heap.size := (Array.getElem?_eq_some_iff.1 h.it).1
  obtain ⟨h3, h4, _⟩ := h.u3 hp
  have h5 := (h4 hu).1
  refine ⟨(heap_set (fun e => hne e.symm) _).trans (World.putObj_heap_same hl), ?_, below_set (below_put h.ext hI) hB _, by have := h.u_; omega, ?_⟩
  · have h1 := (blk_put (l := I) (o := .stringIter (strOf i.op) (pos + 1)) h.blk hne).set_ u (.int .u8 0)
    rcases (by omega : u = 0 ∨ u = 1 ∨ u = 2) with h6 | h6 | h6 <;> (rw [h6] at h1 ⊢; simpa [zr] using h1)
  · rw [h.m_, if_pos (by omega), if_pos (by omega)]
theorem OnJ.skip (h : OnJ w i I B pos u m wr) (hp : pos < nrOf i.op) (hu : ¬ u < gdOf i.a i.b i.c) (hI : w.heap.size ≤ I) (hne : B ≠ I) :
    OnJ w i I B (pos + 1) u m (wr.putObj I (.stringIter (strOf i.op) (pos + 1))) := by
  have hl : I < wr.heap.size := (Array.getElem?_eq_some_iff.1 h.it).1
  refine ⟨World.putObj_heap_same hl, blk_put h.blk hne, below_put h.ext hI, by have := h.u_; omega, ?_⟩
  rw [h.m_, if_pos (by omega), if_pos (by omega)]
theorem OnJ.tail (h : OnJ w i I B pos u m wr) (hp : pos = nrOf i.op) (hI : w.heap.size ≤ I) (hne : B ≠ I) {m' : Int} (hm : m' = if nOk (tlOf i.op) i.n then 0 else i.n) :
    OnJ w i I B (pos + 1) u m' (wr.putObj I (.stringIter (strOf i.op) (pos + 1))) := by
  have hl : I < wr.heap.size := (Array.getElem?_eq_some_iff.1 h.it).1
  refine ⟨World.putObj_heap_same hl, blk_put h.blk hne, below_put h.ext hI, by have := h.u_; omega, ?_⟩
  rw [if_neg (by omega)]; exact hm
theorem OnJ.pos_ (h : OnJ w i I B pos u m wr) : wr.iterPos I = pos := by simp [World.iterPos, h.it]
/-- Behind the last letter. -/
theorem OnJ.done (h : OnJ w i I B (strOf i.op).size u m wr) : (zr u 0 i.a = 0 ∧ zr u 1 i.b = 0 ∧ zr u 2 i.c = 0 ∧ m = 0) ↔ (rgOk (nrOf i.op) i.a i.b i.c && nOk (tlOf i.op) i.n) = true := by
  have h1 := h.u_
  have h2 := h.m_
  have h3 := nr_tl i.op
  rw [strOf_size] at h1 h2
  have hm : m = 0 ↔ nOk (tlOf i.op) i.n = true := by
    by_cases ht : tlOf i.op = 0
    · rw [if_pos ht, if_pos (by omega)] at h2
      unfold nOk
      rw [if_neg (by omega), if_neg (by omega), if_neg (by omega), h2]
      simp
    · rw [if_neg ht, if_neg (by omega)] at h2
      rw [h2]
      split
      · simp [*]
      · next hn =>
        simp only [hn]
        constructor
        · intro h0
          exfalso
          apply hn
          unfold nOk
          rw [h0]
          rcases h3.2.1 with h4 | h4 | h4 | h4
          · exact absurd h4 ht
          · rw [if_pos h4]
          · rw [if_neg (by omega), if_pos h4]; simp
          · rw [if_neg (by omega), if_neg (by omega), if_pos h4]; simp
        · intro h0; simp at h0
  have hr : (zr u 0 i.a = 0 ∧ zr u 1 i.b = 0 ∧ zr u 2 i.c = 0) ↔ rgOk (nrOf i.op) i.a i.b i.c = true := by
    have h5 : u = min (nrOf i.op) (gdOf i.a i.b i.c) := by
      split at h1 <;> omega
    unfold rgOk zr
    rw [h5]
    unfold gdOf
    simp only [Bool.and_eq_true, decide_eq_true_eq]
    obtain ⟨h6, _, _⟩ := h3
    generalize nrOf i.op = nr at *
    rcases (by omega : nr = 0 ∨ nr = 1 ∨ nr = 2 ∨ nr = 3) with rfl | rfl | rfl | rfl
    all_goals (repeat' split)
    all_goals (first | omega | (simp; omega) | (constructor <;> intro hh <;> omega))
  rw [Bool.and_eq_true, ← hr, ← hm]
  constructor
  · rintro ⟨a, b, c, d⟩; exact ⟨⟨a, b, c⟩, d⟩
  · rintro ⟨⟨a, b, c⟩, d⟩; exact ⟨a, b, c, d⟩
end
set_option maxRecDepth 100000 in
set_option maxHeartbeats 2000000 in
theorem one_ok (i : Ins) (w : World) (hb : okOp i.op = true) :
    Calls Try.prog 39 #[insV i] w (OneP i w) := by
  have HF := Lib.hid (fun w' => form_ i.op w')
  have Hb := Lib.hid hb
  unfold FormP at HF
  rw [hb] at HF
  have HR := Lib.hid (fun w' => registers_ i w')
  have HR' := HR
  unfold insV at HR ⊢
  clear hb
  go_enter Try.func39, Try.ntmps39
  go_wp2_with fail
  refine (HF.out _).mono ?_; rintro e w1 ⟨rfl, e1⟩
  have hb1 := (Blk.new w 34 #[.int .u8 (i.op : Int), .int .u8 (i.a : Int), .int .u8 (i.b : Int), .int .u8 (i.c : Int), .int .i64 i.n]).ext e1
  have E1 := Lib.hid ((Ext.alloc w _).t e1)
  have HB1 := Lib.hid hb1
  have hc0 : w1.cell? ⟨w.heap.size, 0, none⟩ = some (.int .u8 (i.op : Int)) := by rw [hb1.cell]; rfl
  have hc1 : w1.cell? ⟨w.heap.size, 1, none⟩ = some (.int .u8 (i.a : Int)) := by rw [hb1.cell]; rfl
  have hc2 : w1.cell? ⟨w.heap.size, 2, none⟩ = some (.int .u8 (i.b : Int)) := by rw [hb1.cell]; rfl
  have hc3 : w1.cell? ⟨w.heap.size, 3, none⟩ = some (.int .u8 (i.c : Int)) := by rw [hb1.cell]; rfl
  have hc4 : w1.cell? ⟨w.heap.size, 4, none⟩ = some (.int .i64 i.n) := by rw [hb1.cell]; rfl
  have hlt1 := hb1.lt
  have ha0 := fun o => (World.cell?_alloc_lt w1 o ⟨w.heap.size, 0, none⟩ hlt1).trans hc0
  have ha1 := fun o => (World.cell?_alloc_lt w1 o ⟨w.heap.size, 1, none⟩ hlt1).trans hc1
  have ha2 := fun o => (World.cell?_alloc_lt w1 o ⟨w.heap.size, 2, none⟩ hlt1).trans hc2
  have ha3 := fun o => (World.cell?_alloc_lt w1 o ⟨w.heap.size, 3, none⟩ hlt1).trans hc3
  have ha4 := fun o => (World.cell?_alloc_lt w1 o ⟨w.heap.size, 4, none⟩ hlt1).trans hc4
  clear e1 hb1
  go_upto_region 4 with fail
  go_cut [5, 6] from 18 to 21 (fun v1 v2 wx => ∃ B : Nat, v1 = .pointer (some ⟨B, 0, none⟩) ∧ v2 = .int .i64 i.n ∧ Hid (Blk wx B 108 #[.int .u8 (i.a : Int), .int .u8 (i.b : Int), .int .u8 (i.c : Int)] ∧ w.heap.size ≤ B ∧ Ext w wx))
  case first =>
    go_region_law (first
      | (go_simp; go_at_call 62; refine (HR.out _).mono ?_; rintro e w2 ⟨rfl, e2⟩; have E2 : Hid (Ext w1 w2) := Lib.hid (below_of_drew e2); have hd5 := (fun o => (World.cell?_alloc_lt w2 o ⟨w.heap.size, 4, none⟩ (Nat.lt_of_lt_of_le HB1.out.lt E2.out.size)).trans ((E2.out.cell (p := ⟨w.heap.size, 4, none⟩) (HB1.out.lt)).trans hc4)); have hd4 := (E2.out.cell (p := ⟨w.heap.size, 4, none⟩) (HB1.out.lt)).trans hc4; have hk : Hid (0 = 0) := Lib.hid rfl; clear e2)
      | (go_simp; go_at_call 62; refine (HR.out _).mono ?_; rintro e w2 ⟨rfl, e2⟩; have hbB : Blk w2 w1.heap.size 108 #[.int .u8 0, .int .u8 0, .int .u8 0] := (Blk.new w1 108 _).ext (below_of_drew e2); have z0 := hbB.cell 0; have z1 := hbB.cell 1; have z2 := hbB.cell 2; simp at z0 z1 z2; have f0 := hbB.frozen 0; have f1 := hbB.frozen 1; have f2 := hbB.frozen 2; have E2 : Hid (Ext w1 w2) := Lib.hid ((Ext.alloc w1 _).t (below_of_drew e2)); have hd4 := (E2.out.cell (p := ⟨w.heap.size, 4, none⟩) (HB1.out.lt)).trans hc4; have HbB := Lib.hid hbB; clear hbB e2))
    all_goals go_wp2_with fail
    all_goals go_simp
    all_goals go_meet
    all_goals first
      | exact ⟨w1.heap.size, rfl, rfl, Lib.hid ⟨blk3 HbB.out _ _ _, E1.out.size, ext3 (E1.out.t E2.out) E1.out.size _ _ _⟩⟩
      | exact ⟨w2.heap.size, rfl, rfl, Lib.hid ⟨Blk.new w2 _ _, Nat.le_trans E1.out.size E2.out.size, E1.out.t (E2.out.t (Ext.alloc _ _))⟩⟩
  case rest =>
  obtain ⟨B, rfl, rfl, HB⟩ := hcut
  clear HR HF HB1 hc0 hc1 hc2 hc3 hc4 ha0 ha1 ha2 ha3 ha4 hlt1
  go_wp2_with fail
  have H0 : Hid (OnJ w i wc.heap.size B 0 0 i.n (wc.iter (strOf i.op) 0)) := Lib.hid ⟨World.iter_heap wc _ 0, by
    have h1 := HB.out.1.alloc (.stringIter (strOf i.op) 0)
    simp only [zr]; exact h1, HB.out.2.2.t (Ext.alloc _ _), by simp, by simp⟩
  obtain ⟨I, hI⟩ : ∃ I, I = wc.heap.size := ⟨_, rfl⟩
  rw [← hI] at H0
  simp only [← hI]
  have HIw : Hid (w.heap.size ≤ I ∧ w.heap.size ≤ B ∧ B ≠ I) := Lib.hid (by have h1 := HB.out.2.2.size; have h2 := HB.out.2.1; have h3 := HB.out.1.lt; omega)
  clear HB hI
  go_loopw [6, 7] (fun v6 v7 wr => ∃ (pos u : Nat) (m : Int), pos ≤ (strOf i.op).size ∧ u ≤ 3 ∧ v6 = .int .i64 m ∧ v7 = .int .i64 (u : Int) ∧ Hid (OnJ w i I B pos u m wr)) (fun _ _ wr => (strOf i.op).size - wr.iterPos I)
  case atStart => exact ⟨0, 0, i.n, Nat.zero_le _, by omega, rfl, rfl, H0⟩
  case round =>
    clear H0
    obtain ⟨pos, u, m, hp, hu3, rfl, rfl, HJ⟩ := hrel
    by_cases hlt : pos < (strOf i.op).size
    · have hmeas : (strOf i.op).size - (pos + 1) < (strOf i.op).size - wr.iterPos I := by rw [HJ.out.pos_]; omega
      have Hmeas := Lib.hid hmeas
      have Hp1 : Hid (pos + 1 ≤ (strOf i.op).size) := Lib.hid hlt
      clear hmeas
      by_cases hr : pos < nrOf i.op
      · have hL : ((strOf i.op)[pos]'hlt).toNat = 114 := by rw [strOf_at_r hr hlt]; rfl
        have hnx := fun ty => run_next_r (P := Try.prog) wr I (strOf i.op) pos ty HJ.out.it hlt (by rw [hL]; omega)
        rw [hL] at hnx
        obtain ⟨hu, h4, h5⟩ := HJ.out.u3 hr
        obtain ⟨hc, hf⟩ := HJ.out.cell hu HIw.out.2.2 (.stringIter (strOf i.op) (pos + 1))
        have huI : (u : Int) < 3 := by omega
        by_cases hg : u < gdOf i.a i.b i.c
        · have h8 := (h4 hg).2
          have h8I : (rgI i u : Int) < 8 := by omega
          have HJ' := Lib.hid (HJ.out.reg hr hg HIw.out.1 HIw.out.2.1 HIw.out.2.2)
          clear hL h4 h5 hg hr hlt h8
          go_wp2
          go_roundw
          case rel => exact ⟨pos + 1, u + 1, m, Hp1.out, by omega, rfl, by go_num, HJ'⟩
          case measure => rw [HJ'.out.pos_]; exact Hmeas.out
        · have h8 := h5 hg
          have h8I : ¬ (rgI i u : Int) < 8 := by omega
          have HJ' := Lib.hid (HJ.out.skip hr hg HIw.out.1 HIw.out.2.2)
          clear hL h4 h5 hg hr hlt h8
          go_wp2
          go_roundw
          case rel => exact ⟨pos + 1, u, m, Hp1.out, by omega, rfl, rfl, HJ'⟩
          case measure => rw [HJ'.out.pos_]; exact Hmeas.out
      · obtain ⟨hL0, ht0⟩ := strOf_at_t (i := pos) (by rw [strOf_size] at hlt; split at hlt <;> omega) hlt
        have hpe : pos = nrOf i.op := by rw [strOf_size] at hlt; split at hlt <;> omega
        have hmi : m = i.n := by rw [HJ.out.m_, if_pos (by omega)]
        have hL : ((strOf i.op)[pos]'hlt).toNat = tlOf i.op := by
          rw [hL0]
          rcases (nr_tl i.op).2.1 with h | h | h | h <;> (rw [h]; rfl)
        have hnx := fun ty => run_next_r (P := Try.prog) wr I (strOf i.op) pos ty HJ.out.it hlt (by rw [hL]; rcases (nr_tl i.op).2.1 with h | h | h | h <;> omega)
        rw [hL] at hnx
        clear hL0
        rcases (nr_tl i.op).2.1 with ht | ht | ht | ht
        · exact absurd ht ht0
        · have hm' : (0 : Int) = if nOk (tlOf i.op) i.n then 0 else i.n := by rw [ht]; rfl
          have HJ' := Lib.hid (HJ.out.tail hpe HIw.out.1 HIw.out.2.2 hm')
          rw [ht] at hnx
          clear hL hm' hpe hr hlt ht
          go_wp2
          go_roundw
          case rel => exact ⟨pos + 1, u, 0, Hp1.out, hu3, rfl, rfl, HJ'⟩
          case measure => rw [HJ'.out.pos_]; exact Hmeas.out
        · by_cases hn : 0 ≤ m ∧ m < 16
          · obtain ⟨hn1, hn2⟩ := hn
            have hm' : (0 : Int) = if nOk (tlOf i.op) i.n then 0 else i.n := by rw [ht, ← hmi]; unfold nOk; simp [hn1, hn2]
            have HJ' := Lib.hid (HJ.out.tail hpe HIw.out.1 HIw.out.2.2 hm')
            rw [ht] at hnx
            clear hL hm' hpe hr hlt ht hmi
            go_wp2
            go_roundw
            case rel => exact ⟨pos + 1, u, 0, Hp1.out, hu3, rfl, rfl, HJ'⟩
            case measure => rw [HJ'.out.pos_]; exact Hmeas.out
          · have hm' : m = if nOk (tlOf i.op) i.n then 0 else i.n := by rw [ht, ← hmi]; unfold nOk; simp [hn]
            have HJ' := Lib.hid (HJ.out.tail hpe HIw.out.1 HIw.out.2.2 hm')
            rw [ht] at hnx
            clear hL hm' hpe hr hlt ht hmi
            by_cases hn1 : 0 ≤ m
            · have hn2 : ¬ m < 16 := fun h => hn ⟨hn1, h⟩
              clear hn
              go_wp2
              go_roundw
              case rel => exact ⟨pos + 1, u, m, Hp1.out, hu3, rfl, rfl, HJ'⟩
              case measure => rw [HJ'.out.pos_]; exact Hmeas.out
            · clear hn
              go_wp2
              go_roundw
              case rel => exact ⟨pos + 1, u, m, Hp1.out, hu3, rfl, rfl, HJ'⟩
              case measure => rw [HJ'.out.pos_]; exact Hmeas.out
        · by_cases hn : 0 ≤ m ∧ m < 256
          · obtain ⟨hn1, hn2⟩ := hn
            have hm' : (0 : Int) = if nOk (tlOf i.op) i.n then 0 else i.n := by rw [ht, ← hmi]; unfold nOk; simp [hn1, hn2]
            have HJ' := Lib.hid (HJ.out.tail hpe HIw.out.1 HIw.out.2.2 hm')
            rw [ht] at hnx
            clear hL hm' hpe hr hlt ht hmi
            go_wp2
            go_roundw
            case rel => exact ⟨pos + 1, u, 0, Hp1.out, hu3, rfl, rfl, HJ'⟩
            case measure => rw [HJ'.out.pos_]; exact Hmeas.out
          · have hm' : m = if nOk (tlOf i.op) i.n then 0 else i.n := by rw [ht, ← hmi]; unfold nOk; simp [hn]
            have HJ' := Lib.hid (HJ.out.tail hpe HIw.out.1 HIw.out.2.2 hm')
            rw [ht] at hnx
            clear hL hm' hpe hr hlt ht hmi
            by_cases hn1 : 0 ≤ m
            · have hn2 : ¬ m < 256 := fun h => hn ⟨hn1, h⟩
              clear hn
              go_wp2
              go_roundw
              case rel => exact ⟨pos + 1, u, m, Hp1.out, hu3, rfl, rfl, HJ'⟩
              case measure => rw [HJ'.out.pos_]; exact Hmeas.out
            · clear hn
              go_wp2
              go_roundw
              case rel => exact ⟨pos + 1, u, m, Hp1.out, hu3, rfl, rfl, HJ'⟩
              case measure => rw [HJ'.out.pos_]; exact Hmeas.out
    · obtain rfl : pos = (strOf i.op).size := by omega
      have hnx := fun ty => run_next_e (P := Try.prog) wr I (strOf i.op) (strOf i.op).size ty HJ.out.it hlt
      have hb := HJ.out.blk
      have hc0 := hb.cell 0
      have hc1 := hb.cell 1
      have hc2 := hb.cell 2
      simp only [List.getElem?_toArray, List.getElem?_cons_zero, List.getElem?_cons_succ] at hc0 hc1 hc2
      have hd := HJ.out.done
      generalize zr u 0 i.a = x at *
      generalize zr u 1 i.b = y at *
      generalize zr u 2 i.c = z at *
      have HE := Lib.hid HJ.out.ext
      have Hd := Lib.hid hd
      have hgu := fun w' op a b xs ys => guard_arr w' op a b xs ys
      have hneq := fun w' => neq_arr w' x y z
      clear hb hd HJ
      by_cases hz : x = 0 ∧ y = 0 ∧ z = 0
      · obtain ⟨rfl, rfl, rfl⟩ := hz
        have hd0 : wr.cell? ⟨B, 0, none⟩ = some (.int .u8 0) := hc0
        have hd1 : wr.cell? ⟨B, 1, none⟩ = some (.int .u8 0) := hc1
        have hd2 : wr.cell? ⟨B, 2, none⟩ = some (.int .u8 0) := hc2
        have hneq0 : ∀ w', (binOp .neq 108 (.agg #[.int .u8 0, .int .u8 0, .int .u8 0]) (.agg #[.int .u8 0, .int .u8 0, .int .u8 0])).run Try.prog w' = .ok (.bool false) w' := fun w' => neq_arr w' 0 0 0
        clear hc0 hc1 hc2 hneq
        by_cases hm : m = 0
        · subst hm
          have hres : oneF i = 0 := by unfold oneF; rw [if_neg (by rw [Hb.out]; simp), if_pos (Hd.out.1 ⟨rfl, rfl, rfl, rfl⟩)]
          go_wp2
          go_ret
          exact ⟨by rw [hres]; rfl, HE.out⟩
        · have hres : oneF i = 141 := by unfold oneF; rw [if_neg (by rw [Hb.out]; simp), if_neg (fun h => hm (Hd.out.2 h).2.2.2)]
          have hmI : (m != 0) = true := by simp [hm]
          have Hres := Lib.hid hres
          clear hres
          go_wp2
          go_ret
          exact ⟨by rw [Hres.out]; rfl, HE.out⟩
      · have hres : oneF i = 141 := by unfold oneF; rw [if_neg (by rw [Hb.out]; simp), if_neg (fun h => hz ⟨(Hd.out.2 h).1, (Hd.out.2 h).2.1, (Hd.out.2 h).2.2.1⟩)]
        have hbz : (((x : Int) == 0) && (((y : Int) == 0) && ((z : Int) == 0))) = false := by
          by_cases h1 : x = 0
          · by_cases h2 : y = 0
            · have h3 : ¬ z = 0 := fun h3 => hz ⟨h1, h2, h3⟩
              simp [h3]
            · simp [h2]
          · simp [h1]
        rw [hbz] at hneq
        have Hres := Lib.hid hres
        clear hres hz hbz
        go_wp2
        go_ret
        exact ⟨by rw [Hres.out]; rfl, HE.out⟩
end Go.Proofs.Ytlneifgihdickaa
