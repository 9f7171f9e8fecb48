/- CodeForms: the walk of the law: for any Op and number it answers true and leaves all memory as it was (no condition). -/
import Derived.Test.YtiakcehhegippaaCaw
import Derived.Test.YtiakcehhegippaaOpen
namespace Go.Fx
open Go.RowKit Go.Proofs Go.Proofs.Ytiakcehhegippaa
/-- The limit that a form's last letter sets. -/
def lmT (tl : Nat) : Int := if tl = 110 then 0 else if tl = 116 then 256 else if tl = 112 then 16 else 1
def lmF (op pos : Nat) : Int := if pos ≤ nrOf op then 1 else lmT (tlOf op)
theorem lmF_end (op : Nat) : lmF op (strOf op).size = lmT (tlOf op) := by
  unfold lmF
  split
  · next h =>
    have h0 : tlOf op = 0 := by
      rw [strOf_size] at h
      split at h
      · assumption
      · omega
    rw [h0]; rfl
  · rfl
theorem oneF_eq {i : Ins} (h : okOp i.op = true) : oneF i = if (rgOk (nrOf i.op) i.a i.b i.c && nOk (tlOf i.op) i.n) = true then 0 else 141 := by
  unfold oneF
  rw [if_neg (by rw [h]; simp)]
theorem nOk0 (op : Nat) : nOk (tlOf op) 0 = true := by
  unfold nOk
  rcases (nr_tl op).2.1 with h1 | h1 | h1 | h1 <;> rw [h1] <;> decide
theorem rg_a {op : Nat} (h : okOp op = true) : (0 < nrOf op → oneF ⟨op, 7, 0, 0, 0⟩ = 0) ∧ (¬ 0 < nrOf op → oneF ⟨op, 7, 0, 0, 0⟩ = 141) ∧ oneF ⟨op, 8, 0, 0, 0⟩ = 141 := by
  rw [oneF_eq h, oneF_eq h]
  simp only [nOk0, Bool.and_true]
  unfold rgOk
  refine ⟨fun h1 => ?_, fun h1 => ?_, ?_⟩
  · simp [h1]
  · simp [h1]
  · by_cases h1 : 0 < nrOf op <;> simp [h1]
theorem rg_b {op : Nat} (h : okOp op = true) : (1 < nrOf op → oneF ⟨op, 0, 7, 0, 0⟩ = 0) ∧ (¬ 1 < nrOf op → oneF ⟨op, 0, 7, 0, 0⟩ = 141) ∧ oneF ⟨op, 0, 8, 0, 0⟩ = 141 := by
  rw [oneF_eq h, oneF_eq h]
  simp only [nOk0, Bool.and_true]
  unfold rgOk
  refine ⟨fun h1 => ?_, fun h1 => ?_, ?_⟩
  · simp [h1]
  · simp [h1]
  · by_cases h1 : 1 < nrOf op <;> simp [h1]
theorem rg_c {op : Nat} (h : okOp op = true) : (2 < nrOf op → oneF ⟨op, 0, 0, 7, 0⟩ = 0) ∧ (¬ 2 < nrOf op → oneF ⟨op, 0, 0, 7, 0⟩ = 141) ∧ oneF ⟨op, 0, 0, 8, 0⟩ = 141 := by
  rw [oneF_eq h, oneF_eq h]
  simp only [nOk0, Bool.and_true]
  unfold rgOk
  refine ⟨fun h1 => ?_, fun h1 => ?_, ?_⟩
  · simp [h1]
  · simp [h1]
  · by_cases h1 : 2 < nrOf op <;> simp [h1]
theorem tl_inv (op : Nat) : (tlOf op = 110 → op = 3) ∧ (tlOf op = 112 → op = 8) ∧ (tlOf op = 116 → op = 9 ∨ op = 10 ∨ op = 11) ∧ (tlOf op = 0 → op ≠ 3 ∧ op ≠ 8 ∧ op ≠ 9 ∧ op ≠ 10 ∧ op ≠ 11) := by
  unfold tlOf
  repeat' split
  all_goals omega
theorem one0 {op : Nat} (h : okOp op = true) (n : Int) : oneF ⟨op, 0, 0, 0, n⟩ = if nOk (tlOf op) n = true then 0 else 141 := by
  rw [oneF_eq h]
  have : rgOk (nrOf op) 0 0 0 = true := by
    unfold rgOk
    repeat' split
    all_goals decide
  rw [this, Bool.true_and]
theorem tgt0 {op : Nat} {n : Int} (h : oneF ⟨op, 0, 0, 0, n⟩ = 0) : tgtF ⟨op, 0, 0, 0, n⟩ = (decide (op = 9) || decide (op = 10) || decide (op = 11)) := by
  unfold tgtF; rw [h]; rfl
theorem go0 {op : Nat} {n : Int} (h : oneF ⟨op, 0, 0, 0, n⟩ = 0) : goesF ⟨op, 0, 0, 0, n⟩ = (decide (op ≠ 1) && decide (op ≠ 2) && decide (op ≠ 9)) := by
  unfold goesF; rw [h]; rfl
end Go.Fx
namespace Go.Proofs.Ytiakcehhegippaa
open Go.RowKit Go.Fx
set_option maxRecDepth 100000 in
set_option maxHeartbeats 1000000 in
theorem forms_bad (op : Nat) (n : Int) (w : World) (hok : okOp op = false) :
    Calls Try.prog 5 #[.int .u8 (op : Int), .int .i64 n] w fun e w' => e = .returned (.bool true) ∧ Ext w w' := by
  have HF := Lib.hid (fun w' => form_ op w')
  unfold FormP at HF
  rw [hok, strOf_bad hok] at HF
  have h1 : oneF ⟨op, 0, 0, 0, 0⟩ = 140 := by unfold oneF; rw [if_pos hok]
  have HS := Lib.hid (fun w' => sizeOf_ ⟨op, 0, 0, 0, 0⟩ w')
  unfold SizeP insV at HS
  rw [h1] at HS
  have HO := Lib.hid (fun w' => one_ ⟨op, 0, 0, 0, 0⟩ w')
  unfold OneP insV at HO
  rw [h1] at HO
  have HG := Lib.hid (fun w' => goes_ ⟨op, 0, 0, 0, 0⟩ w')
  unfold BoolP insV at HG
  rw [show goesF ⟨op, 0, 0, 0, 0⟩ = false by unfold goesF; rw [h1]; rfl] at HG
  clear hok h1
  go_enter Try.func5, Try.ntmps5
  go_wp2_with fail
  refine (awake_ w).mono ?_; rintro e w1 ⟨rfl, e1⟩
  have E1 := Lib.hid e1
  clear e1
  go_wp2_with fail
  refine (HF.out _).mono ?_; rintro e w2 ⟨rfl, e2⟩
  have E2 := Lib.hid (E1.out.t e2)
  clear e2 E1
  go_wp2_with fail
  refine (HS.out _).mono ?_; rintro e w3 ⟨rfl, e3⟩
  have E3 := Lib.hid (E2.out.t e3)
  clear e3 E2
  go_wp2_with fail
  refine (HO.out _).mono ?_; rintro e w4 ⟨rfl, e4⟩
  have E4 := Lib.hid (E3.out.t e4)
  clear e4 E3
  go_wp2_with fail
  refine (HG.out _).mono ?_; rintro e w5 ⟨rfl, e5⟩
  have E5 := Lib.hid (E4.out.t e5)
  clear e5 E4
  go_wp2_with fail
  go_ret
  exact ⟨rfl, E5.out⟩
set_option maxRecDepth 100000 in
set_option maxHeartbeats 4000000 in
theorem forms_ok (op : Nat) (n : Int) (w : World) (hok : okOp op = true) :
    Calls Try.prog 5 #[.int .u8 (op : Int), .int .i64 n] w fun e w' => e = .returned (.bool true) ∧ Ext w w' := by
  have HF := Lib.hid (fun w' => form_ op w')
  unfold FormP at HF
  rw [hok] at HF
  have Hok := Lib.hid hok
  clear hok
  go_enter Try.func5, Try.ntmps5
  go_wp2_with fail
  refine (awake_ w).mono ?_; rintro e w1 ⟨rfl, e1⟩
  have E1 := Lib.hid e1
  clear e1
  go_wp2_with fail
  refine (HF.out _).mono ?_; rintro e w2 ⟨rfl, e2⟩
  have E2 := Lib.hid (E1.out.t e2)
  clear e2 E1
  go_wp2_with fail
  obtain ⟨I, hI⟩ : ∃ I, I = w2.heap.size := ⟨_, rfl⟩
  have HI := Lib.hid (show w.heap.size ≤ I by rw [hI]; exact E2.out.size)
  have H0 : Hid ((w2.iter (strOf op) 0).heap[I]? = some (.stringIter (strOf op) 0) ∧ Ext w (w2.iter (strOf op) 0)) := Lib.hid ⟨by rw [hI]; exact World.iter_heap w2 _ 0, E2.out.t (Ext.alloc _ _)⟩
  simp only [← hI]
  clear hI E2
  go_loopw [9, 10] (fun v9 v10 wr => ∃ (pos u : Nat) (lim : Int), pos ≤ (strOf op).size ∧ u ≤ 3 ∧ v9 = .int .i64 (u : Int) ∧ v10 = .int .i64 lim ∧ Hid (u = min pos (nrOf op) ∧ lim = lmF op pos ∧ wr.heap[I]? = some (.stringIter (strOf op) pos) ∧ Ext w wr)) (fun _ _ wr => (strOf op).size - wr.iterPos I)
  case atStart => exact ⟨0, 0, 1, Nat.zero_le _, by omega, rfl, rfl, Lib.hid ⟨by simp, by unfold lmF; rw [if_pos (Nat.zero_le _)], H0.out⟩⟩
  case round =>
    clear H0
    obtain ⟨pos, u, lim, hp, hu3, rfl, rfl, HJ⟩ := hrel
    have h3 := Lib.hid (nr_tl op)
    by_cases hlt : pos < (strOf op).size
    · have hsz := strOf_size op
      have hit : wr.heap.size > I := (Array.getElem?_eq_some_iff.1 HJ.out.2.2.1).1
      have Hit : Hid ((wr.putObj I (.stringIter (strOf op) (pos + 1))).heap[I]? = some (.stringIter (strOf op) (pos + 1)) ∧ Ext w (wr.putObj I (.stringIter (strOf op) (pos + 1)))) := Lib.hid ⟨World.putObj_heap_same hit, below_put HJ.out.2.2.2 HI.out⟩
      have hmeas : (strOf op).size - (wr.putObj I (.stringIter (strOf op) (pos + 1))).iterPos I < (strOf op).size - wr.iterPos I := by
        simp only [World.iterPos, Hit.out.1, HJ.out.2.2.1]; omega
      have Hmeas := Lib.hid hmeas
      clear hmeas hit
      have Hp1 : Hid (pos + 1 ≤ (strOf op).size) := Lib.hid hlt
      by_cases hr : pos < nrOf op
      · have hl := strOf_at_r hr hlt
        have hnx := fun ty => run_next_r (P := Try.prog) wr I (strOf op) pos ty HJ.out.2.2.1 hlt (by rw [hl]; decide)
        rw [hl] at hnx
        simp only [show (114 : UInt8).toNat = 114 from rfl] at hnx
        have Hr : Hid (u + 1 = min (pos + 1) (nrOf op) ∧ lim = lmF op (pos + 1) ∧ u + 1 ≤ 3) := Lib.hid (by
          obtain ⟨h1, h2, _⟩ := HJ.out
          have := h3.out.1
          unfold lmF at h2 ⊢
          rw [if_pos (by omega)] at h2 ⊢
          exact ⟨by omega, h2, by omega⟩)
        clear hl hsz hlt hr HJ
        go_wp2_with fail
        go_roundw
        case rel => exact ⟨pos + 1, u + 1, lim, Hp1.out, Hr.out.2.2, by go_num, rfl, Lib.hid ⟨Hr.out.1, Hr.out.2.1, Hit.out⟩⟩
        case measure => exact Hmeas.out
      · have hpr : pos = nrOf op := by split at hsz <;> omega
        obtain ⟨hl, ht0⟩ := strOf_at_t hpr hlt
        have Hr : Hid (u = min (pos + 1) (nrOf op) ∧ lmF op (pos + 1) = lmT (tlOf op)) := Lib.hid (by
          obtain ⟨h1, h2, _⟩ := HJ.out
          unfold lmF
          rw [if_neg (by omega)]
          exact ⟨by omega, rfl⟩)
        have hnx := fun ty h => run_next_r (P := Try.prog) wr I (strOf op) pos ty HJ.out.2.2.1 hlt h
        rw [hl] at hnx
        rcases h3.out.2.1 with ht | ht | ht | ht
        · exact absurd ht ht0
        all_goals rw [ht] at hnx Hr
        all_goals have hnx := fun ty => hnx ty (by decide)
        · simp only [show (UInt8.ofNat 110).toNat = 110 from rfl] at hnx
          clear hl ht0 hsz hlt hr HJ ht hpr
          go_wp2_with fail
          go_roundw
          case rel => exact ⟨pos + 1, u, 0, Hp1.out, hu3, rfl, rfl, Lib.hid ⟨Hr.out.1, Hr.out.2.symm, Hit.out⟩⟩
          case measure => exact Hmeas.out
        · simp only [show (UInt8.ofNat 112).toNat = 112 from rfl] at hnx
          clear hl ht0 hsz hlt hr HJ ht hpr
          go_wp2_with fail
          go_roundw
          case rel => exact ⟨pos + 1, u, 16, Hp1.out, hu3, rfl, rfl, Lib.hid ⟨Hr.out.1, Hr.out.2.symm, Hit.out⟩⟩
          case measure => exact Hmeas.out
        · simp only [show (UInt8.ofNat 116).toNat = 116 from rfl] at hnx
          clear hl ht0 hsz hlt hr HJ ht hpr
          go_wp2_with fail
          go_roundw
          case rel => exact ⟨pos + 1, u, 256, Hp1.out, hu3, rfl, rfl, Lib.hid ⟨Hr.out.1, Hr.out.2.symm, Hit.out⟩⟩
          case measure => exact Hmeas.out
    · obtain rfl : pos = (strOf op).size := by omega
      have hnx := fun ty => run_next_e (P := Try.prog) wr I (strOf op) (strOf op).size ty HJ.out.2.2.1 hlt
      have Hu : Hid (u = nrOf op) := Lib.hid (by rw [HJ.out.1, strOf_size]; omega)
      have Hlim : Hid (lim = lmT (tlOf op)) := Lib.hid (by rw [HJ.out.2.1, lmF_end])
      have E3 := Lib.hid HJ.out.2.2.2
      clear HJ hlt hp
      go_wp2_with fail
      go_loopw [68] (fun i wx => ∃ k : Nat, k ≤ 3 ∧ i = .int .i64 (k : Int) ∧ Hid (Ext w wx)) (fun i _ => 3 - (intOf i).toNat)
      case atStart => exact ⟨0, by omega, rfl, E3⟩
      case round =>
        clear E3 hnx
        obtain ⟨k, hk, rfl, E4⟩ := hrel
        by_cases hk3 : k < 3
        · rcases (by omega : k = 0 ∨ k = 1 ∨ k = 2) with rfl | rfl | rfl
          · skip
            have hk8 := (rg_a Hok.out).2.2
            by_cases hu : 0 < u
            · have huI : (0 : Int) < (u : Int) := by omega
              have hk7 := (rg_a Hok.out).1 (by rw [← Hu.out]; exact hu)
              have HO7 := Lib.hid (fun w' => one_ ⟨op, 7, 0, 0, 0⟩ w')
              unfold OneP insV at HO7
              rw [hk7] at HO7
              have HO8 := Lib.hid (fun w' => one_ ⟨op, 8, 0, 0, 0⟩ w')
              unfold OneP insV at HO8
              rw [hk8] at HO8
              clear hk7 hk8
              go_wp2_with fail
              refine (HO7.out _).mono ?_; rintro e w5 ⟨rfl, e5⟩
              have hb5 := ((Blk.new wr 38 (insC ⟨op, 7, 0, 0, 0⟩).toArray).alloc (.cells #[.pointer (some ⟨wr.heap.size, 1, none⟩), .pointer (some ⟨wr.heap.size, 2, none⟩), .pointer (some ⟨wr.heap.size, 3, none⟩)] 41)).ext e5
              obtain ⟨d0, d1, d2, d3, d4⟩ := hb5.ins
              have hf := hb5.frozen 1
              have hlt5 := hb5.lt
              have hb6 := hb5.set_ 1 (.int .u8 8)
              rw [show (insC ⟨op, 7, 0, 0, 0⟩).toArray.setIfInBounds 1 (.int .u8 8) = (insC ⟨op, 8, 0, 0, 0⟩).toArray by simp [insC]] at hb6
              have q0 := fun o => (hb6.alloc o).ins.1
              have q1 := fun o => (hb6.alloc o).ins.2.1
              have q2 := fun o => (hb6.alloc o).ins.2.2.1
              have q3 := fun o => (hb6.alloc o).ins.2.2.2.1
              have q4 := fun o => (hb6.alloc o).ins.2.2.2.2
              have p0 := fun o => (World.cell?_alloc_lt w5 o ⟨wr.heap.size, 1, none⟩ hlt5).trans (hb5.cell 1)
              have qf := fun o => (hb5.alloc o).frozen 1
              have E5 := Lib.hid (E4.out.t (((Ext.alloc wr _).t (Ext.alloc _ _)).t e5))
              have Hg := Lib.hid E4.out.size
              clear e5 hb5 hb6 E4
              go_wp2_with fail
              refine (HO8.out _).mono ?_; rintro e w6 ⟨rfl, e6⟩
              have E6 := Lib.hid (((below_set E5.out Hg.out _).t (Ext.alloc _ _)).t e6)
              clear e6 E5 q0 q1 q2 q3 q4 qf hf hlt5 p0 d0 d1 d2 d3 d4
              go_wp2_with fail
              go_roundw
              case rel => exact ⟨1, by omega, rfl, E6⟩
              case measure => simp [intOf]
            · have huI : ¬ (0 : Int) < (u : Int) := by omega
              have hk7 := (rg_a Hok.out).2.1 (by rw [← Hu.out]; exact hu)
              have HO7 := Lib.hid (fun w' => one_ ⟨op, 7, 0, 0, 0⟩ w')
              unfold OneP insV at HO7
              rw [hk7] at HO7
              have HO8 := Lib.hid (fun w' => one_ ⟨op, 8, 0, 0, 0⟩ w')
              unfold OneP insV at HO8
              rw [hk8] at HO8
              clear hk7 hk8
              go_wp2_with fail
              refine (HO7.out _).mono ?_; rintro e w5 ⟨rfl, e5⟩
              have hb5 := ((Blk.new wr 38 (insC ⟨op, 7, 0, 0, 0⟩).toArray).alloc (.cells #[.pointer (some ⟨wr.heap.size, 1, none⟩), .pointer (some ⟨wr.heap.size, 2, none⟩), .pointer (some ⟨wr.heap.size, 3, none⟩)] 41)).ext e5
              obtain ⟨d0, d1, d2, d3, d4⟩ := hb5.ins
              have hf := hb5.frozen 1
              have hlt5 := hb5.lt
              have hb6 := hb5.set_ 1 (.int .u8 8)
              rw [show (insC ⟨op, 7, 0, 0, 0⟩).toArray.setIfInBounds 1 (.int .u8 8) = (insC ⟨op, 8, 0, 0, 0⟩).toArray by simp [insC]] at hb6
              have q0 := fun o => (hb6.alloc o).ins.1
              have q1 := fun o => (hb6.alloc o).ins.2.1
              have q2 := fun o => (hb6.alloc o).ins.2.2.1
              have q3 := fun o => (hb6.alloc o).ins.2.2.2.1
              have q4 := fun o => (hb6.alloc o).ins.2.2.2.2
              have p0 := fun o => (World.cell?_alloc_lt w5 o ⟨wr.heap.size, 1, none⟩ hlt5).trans (hb5.cell 1)
              have qf := fun o => (hb5.alloc o).frozen 1
              have E5 := Lib.hid (E4.out.t (((Ext.alloc wr _).t (Ext.alloc _ _)).t e5))
              have Hg := Lib.hid E4.out.size
              clear e5 hb5 hb6 E4
              go_wp2_with fail
              refine (HO8.out _).mono ?_; rintro e w6 ⟨rfl, e6⟩
              have E6 := Lib.hid (((below_set E5.out Hg.out _).t (Ext.alloc _ _)).t e6)
              clear e6 E5 q0 q1 q2 q3 q4 qf hf hlt5 p0 d0 d1 d2 d3 d4
              go_wp2_with fail
              go_roundw
              case rel => exact ⟨1, by omega, rfl, E6⟩
              case measure => simp [intOf]
          · skip
            have hk8 := (rg_b Hok.out).2.2
            by_cases hu : 1 < u
            · have huI : (1 : Int) < (u : Int) := by omega
              have hk7 := (rg_b Hok.out).1 (by rw [← Hu.out]; exact hu)
              have HO7 := Lib.hid (fun w' => one_ ⟨op, 0, 7, 0, 0⟩ w')
              unfold OneP insV at HO7
              rw [hk7] at HO7
              have HO8 := Lib.hid (fun w' => one_ ⟨op, 0, 8, 0, 0⟩ w')
              unfold OneP insV at HO8
              rw [hk8] at HO8
              clear hk7 hk8
              go_wp2_with fail
              refine (HO7.out _).mono ?_; rintro e w5 ⟨rfl, e5⟩
              have hb5 := ((Blk.new wr 38 (insC ⟨op, 0, 7, 0, 0⟩).toArray).alloc (.cells #[.pointer (some ⟨wr.heap.size, 1, none⟩), .pointer (some ⟨wr.heap.size, 2, none⟩), .pointer (some ⟨wr.heap.size, 3, none⟩)] 41)).ext e5
              obtain ⟨d0, d1, d2, d3, d4⟩ := hb5.ins
              have hf := hb5.frozen 2
              have hlt5 := hb5.lt
              have hb6 := hb5.set_ 2 (.int .u8 8)
              rw [show (insC ⟨op, 0, 7, 0, 0⟩).toArray.setIfInBounds 2 (.int .u8 8) = (insC ⟨op, 0, 8, 0, 0⟩).toArray by simp [insC]] at hb6
              have q0 := fun o => (hb6.alloc o).ins.1
              have q1 := fun o => (hb6.alloc o).ins.2.1
              have q2 := fun o => (hb6.alloc o).ins.2.2.1
              have q3 := fun o => (hb6.alloc o).ins.2.2.2.1
              have q4 := fun o => (hb6.alloc o).ins.2.2.2.2
              have p0 := fun o => (World.cell?_alloc_lt w5 o ⟨wr.heap.size, 2, none⟩ hlt5).trans (hb5.cell 2)
              have qf := fun o => (hb5.alloc o).frozen 2
              have E5 := Lib.hid (E4.out.t (((Ext.alloc wr _).t (Ext.alloc _ _)).t e5))
              have Hg := Lib.hid E4.out.size
              clear e5 hb5 hb6 E4
              go_wp2_with fail
              refine (HO8.out _).mono ?_; rintro e w6 ⟨rfl, e6⟩
              have E6 := Lib.hid (((below_set E5.out Hg.out _).t (Ext.alloc _ _)).t e6)
              clear e6 E5 q0 q1 q2 q3 q4 qf hf hlt5 p0 d0 d1 d2 d3 d4
              go_wp2_with fail
              go_roundw
              case rel => exact ⟨2, by omega, rfl, E6⟩
              case measure => simp [intOf]
            · have huI : ¬ (1 : Int) < (u : Int) := by omega
              have hk7 := (rg_b Hok.out).2.1 (by rw [← Hu.out]; exact hu)
              have HO7 := Lib.hid (fun w' => one_ ⟨op, 0, 7, 0, 0⟩ w')
              unfold OneP insV at HO7
              rw [hk7] at HO7
              have HO8 := Lib.hid (fun w' => one_ ⟨op, 0, 8, 0, 0⟩ w')
              unfold OneP insV at HO8
              rw [hk8] at HO8
              clear hk7 hk8
              go_wp2_with fail
              refine (HO7.out _).mono ?_; rintro e w5 ⟨rfl, e5⟩
              have hb5 := ((Blk.new wr 38 (insC ⟨op, 0, 7, 0, 0⟩).toArray).alloc (.cells #[.pointer (some ⟨wr.heap.size, 1, none⟩), .pointer (some ⟨wr.heap.size, 2, none⟩), .pointer (some ⟨wr.heap.size, 3, none⟩)] 41)).ext e5
              obtain ⟨d0, d1, d2, d3, d4⟩ := hb5.ins
              have hf := hb5.frozen 2
              have hlt5 := hb5.lt
              have hb6 := hb5.set_ 2 (.int .u8 8)
              rw [show (insC ⟨op, 0, 7, 0, 0⟩).toArray.setIfInBounds 2 (.int .u8 8) = (insC ⟨op, 0, 8, 0, 0⟩).toArray by simp [insC]] at hb6
              have q0 := fun o => (hb6.alloc o).ins.1
              have q1 := fun o => (hb6.alloc o).ins.2.1
              have q2 := fun o => (hb6.alloc o).ins.2.2.1
              have q3 := fun o => (hb6.alloc o).ins.2.2.2.1
              have q4 := fun o => (hb6.alloc o).ins.2.2.2.2
              have p0 := fun o => (World.cell?_alloc_lt w5 o ⟨wr.heap.size, 2, none⟩ hlt5).trans (hb5.cell 2)
              have qf := fun o => (hb5.alloc o).frozen 2
              have E5 := Lib.hid (E4.out.t (((Ext.alloc wr _).t (Ext.alloc _ _)).t e5))
              have Hg := Lib.hid E4.out.size
              clear e5 hb5 hb6 E4
              go_wp2_with fail
              refine (HO8.out _).mono ?_; rintro e w6 ⟨rfl, e6⟩
              have E6 := Lib.hid (((below_set E5.out Hg.out _).t (Ext.alloc _ _)).t e6)
              clear e6 E5 q0 q1 q2 q3 q4 qf hf hlt5 p0 d0 d1 d2 d3 d4
              go_wp2_with fail
              go_roundw
              case rel => exact ⟨2, by omega, rfl, E6⟩
              case measure => simp [intOf]
          · skip
            have hk8 := (rg_c Hok.out).2.2
            by_cases hu : 2 < u
            · have huI : (2 : Int) < (u : Int) := by omega
              have hk7 := (rg_c Hok.out).1 (by rw [← Hu.out]; exact hu)
              have HO7 := Lib.hid (fun w' => one_ ⟨op, 0, 0, 7, 0⟩ w')
              unfold OneP insV at HO7
              rw [hk7] at HO7
              have HO8 := Lib.hid (fun w' => one_ ⟨op, 0, 0, 8, 0⟩ w')
              unfold OneP insV at HO8
              rw [hk8] at HO8
              clear hk7 hk8
              go_wp2_with fail
              refine (HO7.out _).mono ?_; rintro e w5 ⟨rfl, e5⟩
              have hb5 := ((Blk.new wr 38 (insC ⟨op, 0, 0, 7, 0⟩).toArray).alloc (.cells #[.pointer (some ⟨wr.heap.size, 1, none⟩), .pointer (some ⟨wr.heap.size, 2, none⟩), .pointer (some ⟨wr.heap.size, 3, none⟩)] 41)).ext e5
              obtain ⟨d0, d1, d2, d3, d4⟩ := hb5.ins
              have hf := hb5.frozen 3
              have hlt5 := hb5.lt
              have hb6 := hb5.set_ 3 (.int .u8 8)
              rw [show (insC ⟨op, 0, 0, 7, 0⟩).toArray.setIfInBounds 3 (.int .u8 8) = (insC ⟨op, 0, 0, 8, 0⟩).toArray by simp [insC]] at hb6
              have q0 := fun o => (hb6.alloc o).ins.1
              have q1 := fun o => (hb6.alloc o).ins.2.1
              have q2 := fun o => (hb6.alloc o).ins.2.2.1
              have q3 := fun o => (hb6.alloc o).ins.2.2.2.1
              have q4 := fun o => (hb6.alloc o).ins.2.2.2.2
              have p0 := fun o => (World.cell?_alloc_lt w5 o ⟨wr.heap.size, 3, none⟩ hlt5).trans (hb5.cell 3)
              have qf := fun o => (hb5.alloc o).frozen 3
              have E5 := Lib.hid (E4.out.t (((Ext.alloc wr _).t (Ext.alloc _ _)).t e5))
              have Hg := Lib.hid E4.out.size
              clear e5 hb5 hb6 E4
              go_wp2_with fail
              refine (HO8.out _).mono ?_; rintro e w6 ⟨rfl, e6⟩
              have E6 := Lib.hid (((below_set E5.out Hg.out _).t (Ext.alloc _ _)).t e6)
              clear e6 E5 q0 q1 q2 q3 q4 qf hf hlt5 p0 d0 d1 d2 d3 d4
              go_wp2_with fail
              go_roundw
              case rel => exact ⟨3, by omega, rfl, E6⟩
              case measure => simp [intOf]
            · have huI : ¬ (2 : Int) < (u : Int) := by omega
              have hk7 := (rg_c Hok.out).2.1 (by rw [← Hu.out]; exact hu)
              have HO7 := Lib.hid (fun w' => one_ ⟨op, 0, 0, 7, 0⟩ w')
              unfold OneP insV at HO7
              rw [hk7] at HO7
              have HO8 := Lib.hid (fun w' => one_ ⟨op, 0, 0, 8, 0⟩ w')
              unfold OneP insV at HO8
              rw [hk8] at HO8
              clear hk7 hk8
              go_wp2_with fail
              refine (HO7.out _).mono ?_; rintro e w5 ⟨rfl, e5⟩
              have hb5 := ((Blk.new wr 38 (insC ⟨op, 0, 0, 7, 0⟩).toArray).alloc (.cells #[.pointer (some ⟨wr.heap.size, 1, none⟩), .pointer (some ⟨wr.heap.size, 2, none⟩), .pointer (some ⟨wr.heap.size, 3, none⟩)] 41)).ext e5
              obtain ⟨d0, d1, d2, d3, d4⟩ := hb5.ins
              have hf := hb5.frozen 3
              have hlt5 := hb5.lt
              have hb6 := hb5.set_ 3 (.int .u8 8)
              rw [show (insC ⟨op, 0, 0, 7, 0⟩).toArray.setIfInBounds 3 (.int .u8 8) = (insC ⟨op, 0, 0, 8, 0⟩).toArray by simp [insC]] at hb6
              have q0 := fun o => (hb6.alloc o).ins.1
              have q1 := fun o => (hb6.alloc o).ins.2.1
              have q2 := fun o => (hb6.alloc o).ins.2.2.1
              have q3 := fun o => (hb6.alloc o).ins.2.2.2.1
              have q4 := fun o => (hb6.alloc o).ins.2.2.2.2
              have p0 := fun o => (World.cell?_alloc_lt w5 o ⟨wr.heap.size, 3, none⟩ hlt5).trans (hb5.cell 3)
              have qf := fun o => (hb5.alloc o).frozen 3
              have E5 := Lib.hid (E4.out.t (((Ext.alloc wr _).t (Ext.alloc _ _)).t e5))
              have Hg := Lib.hid E4.out.size
              clear e5 hb5 hb6 E4
              go_wp2_with fail
              refine (HO8.out _).mono ?_; rintro e w6 ⟨rfl, e6⟩
              have E6 := Lib.hid (((below_set E5.out Hg.out _).t (Ext.alloc _ _)).t e6)
              clear e6 E5 q0 q1 q2 q3 q4 qf hf hlt5 p0 d0 d1 d2 d3 d4
              go_wp2_with fail
              go_roundw
              case rel => exact ⟨3, by omega, rfl, E6⟩
              case measure => simp [intOf]
        · obtain rfl : k = 3 := by omega
          obtain ⟨i3, i8, i9, i0⟩ := tl_inv op
          rcases h3.out.2.1 with htl | htl | htl | htl
          · have HTL := Lib.hid htl
            obtain rfl : lim = 1 := by rw [Hlim.out, htl]; rfl
            obtain ⟨_, _, o9, o10, o11⟩ := i0 htl
            clear i0 i3 i8 i9 htl Hlim
            have hq9 : ((op : Int) != 9) = true := by simp; omega
            by_cases n0 : 0 ≤ n
            · by_cases n1 : n < 1
              · by_cases q1 : op = 1
                · have hq1 : ((op : Int) != 1) = false := by simp; omega
                  have ho : oneF ⟨op, 0, 0, 0, n⟩ = 0 := by rw [one0 Hok.out, HTL.out]; unfold nOk; simp; try omega
                  have ht : tgtF ⟨op, 0, 0, 0, n⟩ = false := by rw [tgt0 ho]; simp; try omega
                  have hg : goesF ⟨op, 0, 0, 0, n⟩ = false := by rw [go0 ho]; simp; try omega
                  have HO := Lib.hid (fun w' => one_ ⟨op, 0, 0, 0, n⟩ w')
                  unfold OneP insV at HO
                  rw [ho] at HO
                  have HT := Lib.hid (fun w' => target_ ⟨op, 0, 0, 0, n⟩ w')
                  unfold TgtP insV at HT
                  rw [ht] at HT
                  have HT : Hid (∀ w', Calls Try.prog 21 #[.agg #[.int .u8 (op : Int), .int .u8 0, .int .u8 0, .int .u8 0, .int .i64 n]] w' fun e w'' => e = .returned (.tuple #[.int .i64 0, .bool false]) ∧ Ext w' w'') := HT
                  have HG := Lib.hid (fun w' => goes_ ⟨op, 0, 0, 0, n⟩ w')
                  unfold BoolP insV at HG
                  rw [hg] at HG
                  clear ho ht hg
                  clear q1
                  go_wp2_with fail
                  refine (HT.out _).mono ?_; rintro e w7 ⟨rfl, e7⟩
                  have hb7 := (Blk.new wr 38 (insC ⟨op, 0, 0, 0, n⟩).toArray).ext e7
                  obtain ⟨d0, d1, d2, d3, d4⟩ := hb7.ins
                  have E7 := Lib.hid (E4.out.t ((Ext.alloc wr _).t e7))
                  have HB7 := Lib.hid hb7
                  clear e7 hb7 E4 HT
                  go_wp2_with fail
                  refine (HO.out _).mono ?_; rintro e w8 ⟨rfl, e8⟩
                  have HB8 := Lib.hid (HB7.out.ext e8)
                  have E8 := Lib.hid (E7.out.t e8)
                  clear d0 d1 d2 d3 d4 e8 E7 HB7
                  obtain ⟨d0, d1, d2, d3, d4⟩ := HB8.out.ins
                  go_wp2_with fail
                  skip
                  refine (HG.out _).mono ?_; rintro e w9 ⟨rfl, e9⟩
                  have E9 := Lib.hid (E8.out.t e9)
                  clear d0 d1 d2 d3 d4 e9 E8 HB8
                  go_wp2_with fail
                  go_ret
                  exact ⟨rfl, E9.out⟩
                · have hq1 : ((op : Int) != 1) = true := by simp; omega
                  by_cases q2 : op = 2
                  · have hq2 : ((op : Int) != 2) = false := by simp; omega
                    have ho : oneF ⟨op, 0, 0, 0, n⟩ = 0 := by rw [one0 Hok.out, HTL.out]; unfold nOk; simp; try omega
                    have ht : tgtF ⟨op, 0, 0, 0, n⟩ = false := by rw [tgt0 ho]; simp; try omega
                    have hg : goesF ⟨op, 0, 0, 0, n⟩ = false := by rw [go0 ho]; simp; try omega
                    have HO := Lib.hid (fun w' => one_ ⟨op, 0, 0, 0, n⟩ w')
                    unfold OneP insV at HO
                    rw [ho] at HO
                    have HT := Lib.hid (fun w' => target_ ⟨op, 0, 0, 0, n⟩ w')
                    unfold TgtP insV at HT
                    rw [ht] at HT
                    have HT : Hid (∀ w', Calls Try.prog 21 #[.agg #[.int .u8 (op : Int), .int .u8 0, .int .u8 0, .int .u8 0, .int .i64 n]] w' fun e w'' => e = .returned (.tuple #[.int .i64 0, .bool false]) ∧ Ext w' w'') := HT
                    have HG := Lib.hid (fun w' => goes_ ⟨op, 0, 0, 0, n⟩ w')
                    unfold BoolP insV at HG
                    rw [hg] at HG
                    clear ho ht hg
                    clear q2
                    go_wp2_with fail
                    refine (HT.out _).mono ?_; rintro e w7 ⟨rfl, e7⟩
                    have hb7 := (Blk.new wr 38 (insC ⟨op, 0, 0, 0, n⟩).toArray).ext e7
                    obtain ⟨d0, d1, d2, d3, d4⟩ := hb7.ins
                    have E7 := Lib.hid (E4.out.t ((Ext.alloc wr _).t e7))
                    have HB7 := Lib.hid hb7
                    clear e7 hb7 E4 HT
                    go_wp2_with fail
                    refine (HO.out _).mono ?_; rintro e w8 ⟨rfl, e8⟩
                    have HB8 := Lib.hid (HB7.out.ext e8)
                    have E8 := Lib.hid (E7.out.t e8)
                    clear d0 d1 d2 d3 d4 e8 E7 HB7
                    obtain ⟨d0, d1, d2, d3, d4⟩ := HB8.out.ins
                    go_wp2_with fail
                    skip
                    refine (HG.out _).mono ?_; rintro e w9 ⟨rfl, e9⟩
                    have E9 := Lib.hid (E8.out.t e9)
                    clear d0 d1 d2 d3 d4 e9 E8 HB8
                    go_wp2_with fail
                    go_ret
                    exact ⟨rfl, E9.out⟩
                  · have hq2 : ((op : Int) != 2) = true := by simp; omega
                    have ho : oneF ⟨op, 0, 0, 0, n⟩ = 0 := by rw [one0 Hok.out, HTL.out]; unfold nOk; simp; try omega
                    have ht : tgtF ⟨op, 0, 0, 0, n⟩ = false := by rw [tgt0 ho]; simp; try omega
                    have hg : goesF ⟨op, 0, 0, 0, n⟩ = true := by rw [go0 ho]; simp; try omega
                    have HO := Lib.hid (fun w' => one_ ⟨op, 0, 0, 0, n⟩ w')
                    unfold OneP insV at HO
                    rw [ho] at HO
                    have HT := Lib.hid (fun w' => target_ ⟨op, 0, 0, 0, n⟩ w')
                    unfold TgtP insV at HT
                    rw [ht] at HT
                    have HT : Hid (∀ w', Calls Try.prog 21 #[.agg #[.int .u8 (op : Int), .int .u8 0, .int .u8 0, .int .u8 0, .int .i64 n]] w' fun e w'' => e = .returned (.tuple #[.int .i64 0, .bool false]) ∧ Ext w' w'') := HT
                    have HG := Lib.hid (fun w' => goes_ ⟨op, 0, 0, 0, n⟩ w')
                    unfold BoolP insV at HG
                    rw [hg] at HG
                    clear ho ht hg
                    skip
                    go_wp2_with fail
                    refine (HT.out _).mono ?_; rintro e w7 ⟨rfl, e7⟩
                    have hb7 := (Blk.new wr 38 (insC ⟨op, 0, 0, 0, n⟩).toArray).ext e7
                    obtain ⟨d0, d1, d2, d3, d4⟩ := hb7.ins
                    have E7 := Lib.hid (E4.out.t ((Ext.alloc wr _).t e7))
                    have HB7 := Lib.hid hb7
                    clear e7 hb7 E4 HT
                    go_wp2_with fail
                    refine (HO.out _).mono ?_; rintro e w8 ⟨rfl, e8⟩
                    have HB8 := Lib.hid (HB7.out.ext e8)
                    have E8 := Lib.hid (E7.out.t e8)
                    clear d0 d1 d2 d3 d4 e8 E7 HB7
                    obtain ⟨d0, d1, d2, d3, d4⟩ := HB8.out.ins
                    go_wp2_with fail
                    skip
                    refine (HG.out _).mono ?_; rintro e w9 ⟨rfl, e9⟩
                    have E9 := Lib.hid (E8.out.t e9)
                    clear d0 d1 d2 d3 d4 e9 E8 HB8
                    go_wp2_with fail
                    go_ret
                    exact ⟨rfl, E9.out⟩
              · skip
                have ho : oneF ⟨op, 0, 0, 0, n⟩ = 141 := by rw [one0 Hok.out, HTL.out]; unfold nOk; simp; omega
                have ht : tgtF ⟨op, 0, 0, 0, n⟩ = false := by unfold tgtF; rw [ho]; rfl
                have hg : goesF ⟨op, 0, 0, 0, n⟩ = false := by unfold goesF; rw [ho]; rfl
                have HO := Lib.hid (fun w' => one_ ⟨op, 0, 0, 0, n⟩ w')
                unfold OneP insV at HO
                rw [ho] at HO
                have HT := Lib.hid (fun w' => target_ ⟨op, 0, 0, 0, n⟩ w')
                unfold TgtP insV at HT
                rw [ht] at HT
                have HT : Hid (∀ w', Calls Try.prog 21 #[.agg #[.int .u8 (op : Int), .int .u8 0, .int .u8 0, .int .u8 0, .int .i64 n]] w' fun e w'' => e = .returned (.tuple #[.int .i64 0, .bool false]) ∧ Ext w' w'') := HT
                have HG := Lib.hid (fun w' => goes_ ⟨op, 0, 0, 0, n⟩ w')
                unfold BoolP insV at HG
                rw [hg] at HG
                clear ho ht hg
                skip
                go_wp2_with fail
                refine (HT.out _).mono ?_; rintro e w7 ⟨rfl, e7⟩
                have hb7 := (Blk.new wr 38 (insC ⟨op, 0, 0, 0, n⟩).toArray).ext e7
                obtain ⟨d0, d1, d2, d3, d4⟩ := hb7.ins
                have E7 := Lib.hid (E4.out.t ((Ext.alloc wr _).t e7))
                have HB7 := Lib.hid hb7
                clear e7 hb7 E4 HT
                go_wp2_with fail
                refine (HO.out _).mono ?_; rintro e w8 ⟨rfl, e8⟩
                have HB8 := Lib.hid (HB7.out.ext e8)
                have E8 := Lib.hid (E7.out.t e8)
                clear d0 d1 d2 d3 d4 e8 E7 HB7
                obtain ⟨d0, d1, d2, d3, d4⟩ := HB8.out.ins
                go_wp2_with fail
                (refine (HO.out _).mono ?_; rintro e w8b ⟨rfl, e8⟩; have HB8 := Lib.hid (HB8.out.ext e8); have E8 := Lib.hid (E8.out.t e8); clear d0 d1 d2 d3 d4 e8; obtain ⟨d0, d1, d2, d3, d4⟩ := HB8.out.ins; go_wp2_with fail)
                refine (HG.out _).mono ?_; rintro e w9 ⟨rfl, e9⟩
                have E9 := Lib.hid (E8.out.t e9)
                clear d0 d1 d2 d3 d4 e9 E8 HB8
                go_wp2_with fail
                go_ret
                exact ⟨rfl, E9.out⟩
            · skip
              have ho : oneF ⟨op, 0, 0, 0, n⟩ = 141 := by rw [one0 Hok.out, HTL.out]; unfold nOk; simp; omega
              have ht : tgtF ⟨op, 0, 0, 0, n⟩ = false := by unfold tgtF; rw [ho]; rfl
              have hg : goesF ⟨op, 0, 0, 0, n⟩ = false := by unfold goesF; rw [ho]; rfl
              have HO := Lib.hid (fun w' => one_ ⟨op, 0, 0, 0, n⟩ w')
              unfold OneP insV at HO
              rw [ho] at HO
              have HT := Lib.hid (fun w' => target_ ⟨op, 0, 0, 0, n⟩ w')
              unfold TgtP insV at HT
              rw [ht] at HT
              have HT : Hid (∀ w', Calls Try.prog 21 #[.agg #[.int .u8 (op : Int), .int .u8 0, .int .u8 0, .int .u8 0, .int .i64 n]] w' fun e w'' => e = .returned (.tuple #[.int .i64 0, .bool false]) ∧ Ext w' w'') := HT
              have HG := Lib.hid (fun w' => goes_ ⟨op, 0, 0, 0, n⟩ w')
              unfold BoolP insV at HG
              rw [hg] at HG
              clear ho ht hg
              skip
              go_wp2_with fail
              refine (HT.out _).mono ?_; rintro e w7 ⟨rfl, e7⟩
              have hb7 := (Blk.new wr 38 (insC ⟨op, 0, 0, 0, n⟩).toArray).ext e7
              obtain ⟨d0, d1, d2, d3, d4⟩ := hb7.ins
              have E7 := Lib.hid (E4.out.t ((Ext.alloc wr _).t e7))
              have HB7 := Lib.hid hb7
              clear e7 hb7 E4 HT
              go_wp2_with fail
              refine (HO.out _).mono ?_; rintro e w8 ⟨rfl, e8⟩
              have HB8 := Lib.hid (HB7.out.ext e8)
              have E8 := Lib.hid (E7.out.t e8)
              clear d0 d1 d2 d3 d4 e8 E7 HB7
              obtain ⟨d0, d1, d2, d3, d4⟩ := HB8.out.ins
              go_wp2_with fail
              (refine (HO.out _).mono ?_; rintro e w8b ⟨rfl, e8⟩; have HB8 := Lib.hid (HB8.out.ext e8); have E8 := Lib.hid (E8.out.t e8); clear d0 d1 d2 d3 d4 e8; obtain ⟨d0, d1, d2, d3, d4⟩ := HB8.out.ins; go_wp2_with fail)
              refine (HG.out _).mono ?_; rintro e w9 ⟨rfl, e9⟩
              have E9 := Lib.hid (E8.out.t e9)
              clear d0 d1 d2 d3 d4 e9 E8 HB8
              go_wp2_with fail
              go_ret
              exact ⟨rfl, E9.out⟩
          · have HTL := Lib.hid htl
            obtain rfl : lim = 0 := by rw [Hlim.out, htl]; rfl
            have o3 := i3 htl
            clear i0 i3 i8 i9 htl Hlim
            have hq9 : ((op : Int) != 9) = true := by simp; omega
            have hq1 : ((op : Int) != 1) = true := by simp; omega
            have hq2 : ((op : Int) != 2) = true := by simp; omega
            have ho : oneF ⟨op, 0, 0, 0, n⟩ = 0 := by rw [one0 Hok.out, HTL.out]; unfold nOk; simp; try omega
            have ht : tgtF ⟨op, 0, 0, 0, n⟩ = false := by rw [tgt0 ho]; simp; try omega
            have hg : goesF ⟨op, 0, 0, 0, n⟩ = true := by rw [go0 ho]; simp; try omega
            have HO := Lib.hid (fun w' => one_ ⟨op, 0, 0, 0, n⟩ w')
            unfold OneP insV at HO
            rw [ho] at HO
            have HT := Lib.hid (fun w' => target_ ⟨op, 0, 0, 0, n⟩ w')
            unfold TgtP insV at HT
            rw [ht] at HT
            have HT : Hid (∀ w', Calls Try.prog 21 #[.agg #[.int .u8 (op : Int), .int .u8 0, .int .u8 0, .int .u8 0, .int .i64 n]] w' fun e w'' => e = .returned (.tuple #[.int .i64 0, .bool false]) ∧ Ext w' w'') := HT
            have HG := Lib.hid (fun w' => goes_ ⟨op, 0, 0, 0, n⟩ w')
            unfold BoolP insV at HG
            rw [hg] at HG
            clear ho ht hg
            clear o3
            go_wp2_with fail
            refine (HT.out _).mono ?_; rintro e w7 ⟨rfl, e7⟩
            have hb7 := (Blk.new wr 38 (insC ⟨op, 0, 0, 0, n⟩).toArray).ext e7
            obtain ⟨d0, d1, d2, d3, d4⟩ := hb7.ins
            have E7 := Lib.hid (E4.out.t ((Ext.alloc wr _).t e7))
            have HB7 := Lib.hid hb7
            clear e7 hb7 E4 HT
            go_wp2_with fail
            refine (HO.out _).mono ?_; rintro e w8 ⟨rfl, e8⟩
            have HB8 := Lib.hid (HB7.out.ext e8)
            have E8 := Lib.hid (E7.out.t e8)
            clear d0 d1 d2 d3 d4 e8 E7 HB7
            obtain ⟨d0, d1, d2, d3, d4⟩ := HB8.out.ins
            go_wp2_with fail
            skip
            refine (HG.out _).mono ?_; rintro e w9 ⟨rfl, e9⟩
            have E9 := Lib.hid (E8.out.t e9)
            clear d0 d1 d2 d3 d4 e9 E8 HB8
            go_wp2_with fail
            go_ret
            exact ⟨rfl, E9.out⟩
          · have HTL := Lib.hid htl
            obtain rfl : lim = 16 := by rw [Hlim.out, htl]; rfl
            have o8 := i8 htl
            clear i0 i3 i8 i9 htl Hlim
            have hq9 : ((op : Int) != 9) = true := by simp; omega
            have hq1 : ((op : Int) != 1) = true := by simp; omega
            have hq2 : ((op : Int) != 2) = true := by simp; omega
            by_cases n0 : 0 ≤ n
            · by_cases n1 : n < 16
              · skip
                have ho : oneF ⟨op, 0, 0, 0, n⟩ = 0 := by rw [one0 Hok.out, HTL.out]; unfold nOk; simp; try omega
                have ht : tgtF ⟨op, 0, 0, 0, n⟩ = false := by rw [tgt0 ho]; simp; try omega
                have hg : goesF ⟨op, 0, 0, 0, n⟩ = true := by rw [go0 ho]; simp; try omega
                have HO := Lib.hid (fun w' => one_ ⟨op, 0, 0, 0, n⟩ w')
                unfold OneP insV at HO
                rw [ho] at HO
                have HT := Lib.hid (fun w' => target_ ⟨op, 0, 0, 0, n⟩ w')
                unfold TgtP insV at HT
                rw [ht] at HT
                have HT : Hid (∀ w', Calls Try.prog 21 #[.agg #[.int .u8 (op : Int), .int .u8 0, .int .u8 0, .int .u8 0, .int .i64 n]] w' fun e w'' => e = .returned (.tuple #[.int .i64 0, .bool false]) ∧ Ext w' w'') := HT
                have HG := Lib.hid (fun w' => goes_ ⟨op, 0, 0, 0, n⟩ w')
                unfold BoolP insV at HG
                rw [hg] at HG
                clear ho ht hg
                clear o8
                go_wp2_with fail
                refine (HT.out _).mono ?_; rintro e w7 ⟨rfl, e7⟩
                have hb7 := (Blk.new wr 38 (insC ⟨op, 0, 0, 0, n⟩).toArray).ext e7
                obtain ⟨d0, d1, d2, d3, d4⟩ := hb7.ins
                have E7 := Lib.hid (E4.out.t ((Ext.alloc wr _).t e7))
                have HB7 := Lib.hid hb7
                clear e7 hb7 E4 HT
                go_wp2_with fail
                refine (HO.out _).mono ?_; rintro e w8 ⟨rfl, e8⟩
                have HB8 := Lib.hid (HB7.out.ext e8)
                have E8 := Lib.hid (E7.out.t e8)
                clear d0 d1 d2 d3 d4 e8 E7 HB7
                obtain ⟨d0, d1, d2, d3, d4⟩ := HB8.out.ins
                go_wp2_with fail
                skip
                refine (HG.out _).mono ?_; rintro e w9 ⟨rfl, e9⟩
                have E9 := Lib.hid (E8.out.t e9)
                clear d0 d1 d2 d3 d4 e9 E8 HB8
                go_wp2_with fail
                go_ret
                exact ⟨rfl, E9.out⟩
              · skip
                have ho : oneF ⟨op, 0, 0, 0, n⟩ = 141 := by rw [one0 Hok.out, HTL.out]; unfold nOk; simp; omega
                have ht : tgtF ⟨op, 0, 0, 0, n⟩ = false := by unfold tgtF; rw [ho]; rfl
                have hg : goesF ⟨op, 0, 0, 0, n⟩ = false := by unfold goesF; rw [ho]; rfl
                have HO := Lib.hid (fun w' => one_ ⟨op, 0, 0, 0, n⟩ w')
                unfold OneP insV at HO
                rw [ho] at HO
                have HT := Lib.hid (fun w' => target_ ⟨op, 0, 0, 0, n⟩ w')
                unfold TgtP insV at HT
                rw [ht] at HT
                have HT : Hid (∀ w', Calls Try.prog 21 #[.agg #[.int .u8 (op : Int), .int .u8 0, .int .u8 0, .int .u8 0, .int .i64 n]] w' fun e w'' => e = .returned (.tuple #[.int .i64 0, .bool false]) ∧ Ext w' w'') := HT
                have HG := Lib.hid (fun w' => goes_ ⟨op, 0, 0, 0, n⟩ w')
                unfold BoolP insV at HG
                rw [hg] at HG
                clear ho ht hg
                clear o8
                go_wp2_with fail
                refine (HT.out _).mono ?_; rintro e w7 ⟨rfl, e7⟩
                have hb7 := (Blk.new wr 38 (insC ⟨op, 0, 0, 0, n⟩).toArray).ext e7
                obtain ⟨d0, d1, d2, d3, d4⟩ := hb7.ins
                have E7 := Lib.hid (E4.out.t ((Ext.alloc wr _).t e7))
                have HB7 := Lib.hid hb7
                clear e7 hb7 E4 HT
                go_wp2_with fail
                refine (HO.out _).mono ?_; rintro e w8 ⟨rfl, e8⟩
                have HB8 := Lib.hid (HB7.out.ext e8)
                have E8 := Lib.hid (E7.out.t e8)
                clear d0 d1 d2 d3 d4 e8 E7 HB7
                obtain ⟨d0, d1, d2, d3, d4⟩ := HB8.out.ins
                go_wp2_with fail
                (refine (HO.out _).mono ?_; rintro e w8b ⟨rfl, e8⟩; have HB8 := Lib.hid (HB8.out.ext e8); have E8 := Lib.hid (E8.out.t e8); clear d0 d1 d2 d3 d4 e8; obtain ⟨d0, d1, d2, d3, d4⟩ := HB8.out.ins; go_wp2_with fail)
                refine (HG.out _).mono ?_; rintro e w9 ⟨rfl, e9⟩
                have E9 := Lib.hid (E8.out.t e9)
                clear d0 d1 d2 d3 d4 e9 E8 HB8
                go_wp2_with fail
                go_ret
                exact ⟨rfl, E9.out⟩
            · skip
              have ho : oneF ⟨op, 0, 0, 0, n⟩ = 141 := by rw [one0 Hok.out, HTL.out]; unfold nOk; simp; omega
              have ht : tgtF ⟨op, 0, 0, 0, n⟩ = false := by unfold tgtF; rw [ho]; rfl
              have hg : goesF ⟨op, 0, 0, 0, n⟩ = false := by unfold goesF; rw [ho]; rfl
              have HO := Lib.hid (fun w' => one_ ⟨op, 0, 0, 0, n⟩ w')
              unfold OneP insV at HO
              rw [ho] at HO
              have HT := Lib.hid (fun w' => target_ ⟨op, 0, 0, 0, n⟩ w')
              unfold TgtP insV at HT
              rw [ht] at HT
              have HT : Hid (∀ w', Calls Try.prog 21 #[.agg #[.int .u8 (op : Int), .int .u8 0, .int .u8 0, .int .u8 0, .int .i64 n]] w' fun e w'' => e = .returned (.tuple #[.int .i64 0, .bool false]) ∧ Ext w' w'') := HT
              have HG := Lib.hid (fun w' => goes_ ⟨op, 0, 0, 0, n⟩ w')
              unfold BoolP insV at HG
              rw [hg] at HG
              clear ho ht hg
              clear o8
              go_wp2_with fail
              refine (HT.out _).mono ?_; rintro e w7 ⟨rfl, e7⟩
              have hb7 := (Blk.new wr 38 (insC ⟨op, 0, 0, 0, n⟩).toArray).ext e7
              obtain ⟨d0, d1, d2, d3, d4⟩ := hb7.ins
              have E7 := Lib.hid (E4.out.t ((Ext.alloc wr _).t e7))
              have HB7 := Lib.hid hb7
              clear e7 hb7 E4 HT
              go_wp2_with fail
              refine (HO.out _).mono ?_; rintro e w8 ⟨rfl, e8⟩
              have HB8 := Lib.hid (HB7.out.ext e8)
              have E8 := Lib.hid (E7.out.t e8)
              clear d0 d1 d2 d3 d4 e8 E7 HB7
              obtain ⟨d0, d1, d2, d3, d4⟩ := HB8.out.ins
              go_wp2_with fail
              (refine (HO.out _).mono ?_; rintro e w8b ⟨rfl, e8⟩; have HB8 := Lib.hid (HB8.out.ext e8); have E8 := Lib.hid (E8.out.t e8); clear d0 d1 d2 d3 d4 e8; obtain ⟨d0, d1, d2, d3, d4⟩ := HB8.out.ins; go_wp2_with fail)
              refine (HG.out _).mono ?_; rintro e w9 ⟨rfl, e9⟩
              have E9 := Lib.hid (E8.out.t e9)
              clear d0 d1 d2 d3 d4 e9 E8 HB8
              go_wp2_with fail
              go_ret
              exact ⟨rfl, E9.out⟩
          · have HTL := Lib.hid htl
            obtain rfl : lim = 256 := by rw [Hlim.out, htl]; rfl
            have o9 := i9 htl
            clear i0 i3 i8 i9 htl Hlim
            have hq1 : ((op : Int) != 1) = true := by simp; omega
            have hq2 : ((op : Int) != 2) = true := by simp; omega
            by_cases n0 : 0 ≤ n
            · by_cases n1 : n < 256
              · by_cases q9 : op = 9
                · have hq9 : ((op : Int) != 9) = false := by simp; omega
                  have ho : oneF ⟨op, 0, 0, 0, n⟩ = 0 := by rw [one0 Hok.out, HTL.out]; unfold nOk; simp; try omega
                  have ht : tgtF ⟨op, 0, 0, 0, n⟩ = true := by rw [tgt0 ho]; simp; try omega
                  have hg : goesF ⟨op, 0, 0, 0, n⟩ = false := by rw [go0 ho]; simp; try omega
                  have HO := Lib.hid (fun w' => one_ ⟨op, 0, 0, 0, n⟩ w')
                  unfold OneP insV at HO
                  rw [ho] at HO
                  have HT := Lib.hid (fun w' => target_ ⟨op, 0, 0, 0, n⟩ w')
                  unfold TgtP insV at HT
                  rw [ht] at HT
                  have HT : Hid (∀ w', Calls Try.prog 21 #[.agg #[.int .u8 (op : Int), .int .u8 0, .int .u8 0, .int .u8 0, .int .i64 n]] w' fun e w'' => e = .returned (.tuple #[.int .i64 n, .bool true]) ∧ Ext w' w'') := HT
                  have HG := Lib.hid (fun w' => goes_ ⟨op, 0, 0, 0, n⟩ w')
                  unfold BoolP insV at HG
                  rw [hg] at HG
                  clear ho ht hg
                  clear q9
                  go_wp2_with fail
                  refine (HT.out _).mono ?_; rintro e w7 ⟨rfl, e7⟩
                  have hb7 := (Blk.new wr 38 (insC ⟨op, 0, 0, 0, n⟩).toArray).ext e7
                  obtain ⟨d0, d1, d2, d3, d4⟩ := hb7.ins
                  have E7 := Lib.hid (E4.out.t ((Ext.alloc wr _).t e7))
                  have HB7 := Lib.hid hb7
                  clear e7 hb7 E4 HT
                  go_wp2_with fail
                  refine (HO.out _).mono ?_; rintro e w8 ⟨rfl, e8⟩
                  have HB8 := Lib.hid (HB7.out.ext e8)
                  have E8 := Lib.hid (E7.out.t e8)
                  clear d0 d1 d2 d3 d4 e8 E7 HB7
                  obtain ⟨d0, d1, d2, d3, d4⟩ := HB8.out.ins
                  go_wp2_with fail
                  skip
                  refine (HG.out _).mono ?_; rintro e w9 ⟨rfl, e9⟩
                  have E9 := Lib.hid (E8.out.t e9)
                  clear d0 d1 d2 d3 d4 e9 E8 HB8
                  go_wp2_with fail
                  go_ret
                  exact ⟨rfl, E9.out⟩
                · have hq9 : ((op : Int) != 9) = true := by simp; omega
                  have ho : oneF ⟨op, 0, 0, 0, n⟩ = 0 := by rw [one0 Hok.out, HTL.out]; unfold nOk; simp; try omega
                  have ht : tgtF ⟨op, 0, 0, 0, n⟩ = true := by rw [tgt0 ho]; simp; try omega
                  have hg : goesF ⟨op, 0, 0, 0, n⟩ = true := by rw [go0 ho]; simp; try omega
                  have HO := Lib.hid (fun w' => one_ ⟨op, 0, 0, 0, n⟩ w')
                  unfold OneP insV at HO
                  rw [ho] at HO
                  have HT := Lib.hid (fun w' => target_ ⟨op, 0, 0, 0, n⟩ w')
                  unfold TgtP insV at HT
                  rw [ht] at HT
                  have HT : Hid (∀ w', Calls Try.prog 21 #[.agg #[.int .u8 (op : Int), .int .u8 0, .int .u8 0, .int .u8 0, .int .i64 n]] w' fun e w'' => e = .returned (.tuple #[.int .i64 n, .bool true]) ∧ Ext w' w'') := HT
                  have HG := Lib.hid (fun w' => goes_ ⟨op, 0, 0, 0, n⟩ w')
                  unfold BoolP insV at HG
                  rw [hg] at HG
                  clear ho ht hg
                  skip
                  go_wp2_with fail
                  refine (HT.out _).mono ?_; rintro e w7 ⟨rfl, e7⟩
                  have hb7 := (Blk.new wr 38 (insC ⟨op, 0, 0, 0, n⟩).toArray).ext e7
                  obtain ⟨d0, d1, d2, d3, d4⟩ := hb7.ins
                  have E7 := Lib.hid (E4.out.t ((Ext.alloc wr _).t e7))
                  have HB7 := Lib.hid hb7
                  clear e7 hb7 E4 HT
                  go_wp2_with fail
                  refine (HO.out _).mono ?_; rintro e w8 ⟨rfl, e8⟩
                  have HB8 := Lib.hid (HB7.out.ext e8)
                  have E8 := Lib.hid (E7.out.t e8)
                  clear d0 d1 d2 d3 d4 e8 E7 HB7
                  obtain ⟨d0, d1, d2, d3, d4⟩ := HB8.out.ins
                  go_wp2_with fail
                  skip
                  refine (HG.out _).mono ?_; rintro e w9 ⟨rfl, e9⟩
                  have E9 := Lib.hid (E8.out.t e9)
                  clear d0 d1 d2 d3 d4 e9 E8 HB8
                  go_wp2_with fail
                  go_ret
                  exact ⟨rfl, E9.out⟩
              · skip
                have ho : oneF ⟨op, 0, 0, 0, n⟩ = 141 := by rw [one0 Hok.out, HTL.out]; unfold nOk; simp; omega
                have ht : tgtF ⟨op, 0, 0, 0, n⟩ = false := by unfold tgtF; rw [ho]; rfl
                have hg : goesF ⟨op, 0, 0, 0, n⟩ = false := by unfold goesF; rw [ho]; rfl
                have HO := Lib.hid (fun w' => one_ ⟨op, 0, 0, 0, n⟩ w')
                unfold OneP insV at HO
                rw [ho] at HO
                have HT := Lib.hid (fun w' => target_ ⟨op, 0, 0, 0, n⟩ w')
                unfold TgtP insV at HT
                rw [ht] at HT
                have HT : Hid (∀ w', Calls Try.prog 21 #[.agg #[.int .u8 (op : Int), .int .u8 0, .int .u8 0, .int .u8 0, .int .i64 n]] w' fun e w'' => e = .returned (.tuple #[.int .i64 0, .bool false]) ∧ Ext w' w'') := HT
                have HG := Lib.hid (fun w' => goes_ ⟨op, 0, 0, 0, n⟩ w')
                unfold BoolP insV at HG
                rw [hg] at HG
                clear ho ht hg
                skip
                go_wp2_with fail
                refine (HT.out _).mono ?_; rintro e w7 ⟨rfl, e7⟩
                have hb7 := (Blk.new wr 38 (insC ⟨op, 0, 0, 0, n⟩).toArray).ext e7
                obtain ⟨d0, d1, d2, d3, d4⟩ := hb7.ins
                have E7 := Lib.hid (E4.out.t ((Ext.alloc wr _).t e7))
                have HB7 := Lib.hid hb7
                clear e7 hb7 E4 HT
                go_wp2_with fail
                refine (HO.out _).mono ?_; rintro e w8 ⟨rfl, e8⟩
                have HB8 := Lib.hid (HB7.out.ext e8)
                have E8 := Lib.hid (E7.out.t e8)
                clear d0 d1 d2 d3 d4 e8 E7 HB7
                obtain ⟨d0, d1, d2, d3, d4⟩ := HB8.out.ins
                go_wp2_with fail
                (refine (HO.out _).mono ?_; rintro e w8b ⟨rfl, e8⟩; have HB8 := Lib.hid (HB8.out.ext e8); have E8 := Lib.hid (E8.out.t e8); clear d0 d1 d2 d3 d4 e8; obtain ⟨d0, d1, d2, d3, d4⟩ := HB8.out.ins; go_wp2_with fail)
                refine (HG.out _).mono ?_; rintro e w9 ⟨rfl, e9⟩
                have E9 := Lib.hid (E8.out.t e9)
                clear d0 d1 d2 d3 d4 e9 E8 HB8
                go_wp2_with fail
                go_ret
                exact ⟨rfl, E9.out⟩
            · skip
              have ho : oneF ⟨op, 0, 0, 0, n⟩ = 141 := by rw [one0 Hok.out, HTL.out]; unfold nOk; simp; omega
              have ht : tgtF ⟨op, 0, 0, 0, n⟩ = false := by unfold tgtF; rw [ho]; rfl
              have hg : goesF ⟨op, 0, 0, 0, n⟩ = false := by unfold goesF; rw [ho]; rfl
              have HO := Lib.hid (fun w' => one_ ⟨op, 0, 0, 0, n⟩ w')
              unfold OneP insV at HO
              rw [ho] at HO
              have HT := Lib.hid (fun w' => target_ ⟨op, 0, 0, 0, n⟩ w')
              unfold TgtP insV at HT
              rw [ht] at HT
              have HT : Hid (∀ w', Calls Try.prog 21 #[.agg #[.int .u8 (op : Int), .int .u8 0, .int .u8 0, .int .u8 0, .int .i64 n]] w' fun e w'' => e = .returned (.tuple #[.int .i64 0, .bool false]) ∧ Ext w' w'') := HT
              have HG := Lib.hid (fun w' => goes_ ⟨op, 0, 0, 0, n⟩ w')
              unfold BoolP insV at HG
              rw [hg] at HG
              clear ho ht hg
              skip
              go_wp2_with fail
              refine (HT.out _).mono ?_; rintro e w7 ⟨rfl, e7⟩
              have hb7 := (Blk.new wr 38 (insC ⟨op, 0, 0, 0, n⟩).toArray).ext e7
              obtain ⟨d0, d1, d2, d3, d4⟩ := hb7.ins
              have E7 := Lib.hid (E4.out.t ((Ext.alloc wr _).t e7))
              have HB7 := Lib.hid hb7
              clear e7 hb7 E4 HT
              go_wp2_with fail
              refine (HO.out _).mono ?_; rintro e w8 ⟨rfl, e8⟩
              have HB8 := Lib.hid (HB7.out.ext e8)
              have E8 := Lib.hid (E7.out.t e8)
              clear d0 d1 d2 d3 d4 e8 E7 HB7
              obtain ⟨d0, d1, d2, d3, d4⟩ := HB8.out.ins
              go_wp2_with fail
              (refine (HO.out _).mono ?_; rintro e w8b ⟨rfl, e8⟩; have HB8 := Lib.hid (HB8.out.ext e8); have E8 := Lib.hid (E8.out.t e8); clear d0 d1 d2 d3 d4 e8; obtain ⟨d0, d1, d2, d3, d4⟩ := HB8.out.ins; go_wp2_with fail)
              refine (HG.out _).mono ?_; rintro e w9 ⟨rfl, e9⟩
              have E9 := Lib.hid (E8.out.t e9)
              clear d0 d1 d2 d3 d4 e9 E8 HB8
              go_wp2_with fail
              go_ret
              exact ⟨rfl, E9.out⟩
theorem walkCodeForms (oi n : Int) (w : World) (ho : (Lit.int .u8 oi).wf = true) (_hn : (Lit.int .i64 n).wf = true) :
    Calls Try.prog 5 #[.int .u8 oi, .int .i64 n] w fun e w' => e = .returned (.bool true) ∧ Below w.heap.size w w' := by
  have h := bounds_u8 ho
  obtain ⟨op, rfl⟩ := Int.eq_ofNat_of_zero_le h.1
  cases hok : okOp op with
  | false => exact forms_bad op n w hok
  | true => exact forms_ok op n w hok
end Go.Proofs.Ytiakcehhegippaa
