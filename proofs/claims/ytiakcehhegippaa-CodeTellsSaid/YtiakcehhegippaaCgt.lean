/- Cgt: the program's Goes, Target, width, size and Size. -/
import Derived.Test.YtiakcehhegippaaCon
namespace Go.Proofs.Ytiakcehhegippaa
open Go.RowKit Go.Fx
theorem one_ (i : Ins) (w : World) : Calls Try.prog 19 #[insV i] w (OneP i w) := by
  cases h : okOp i.op with
  | false => exact one_bad i w h
  | true => exact one_ok i w h
def BoolP (b : Bool) (w : World) (e : Ending) (w' : World) : Prop := e = .returned (.bool b) ∧ Ext w w'
set_option maxHeartbeats 1000000 in
theorem goes_ (i : Ins) (w : World) : Calls Try.prog 20 #[insV i] w (BoolP (goesF i) w) := by
  have HO := Lib.hid (fun w' => one_ i w')
  unfold OneP insV at HO
  by_cases h0 : oneF i = 0
  · rw [h0] at HO
    by_cases h1 : i.op = 1
    · have hr : goesF i = false := by unfold goesF; simp [h1]
      have Hr := Lib.hid hr
      have hq : ((i.op : Int) != 1) = false := by simp [h1]
      clear hr h0 h1
      unfold insV
      go_enter Try.func20, Try.ntmps20
      go_wp2_with fail
      refine (HO.out _).mono ?_; rintro e w1 ⟨rfl, e1⟩
      have hb1 := (Blk.new w 38 #[.int .u8 (i.op : Int), .int .u8 (i.a : Int), .int .u8 (i.b : Int), .int .u8 (i.c : Int), .int .i64 i.n]).ext e1
      have hc0 : w1.cell? ⟨w.heap.size, 0, none⟩ = some (.int .u8 (i.op : Int)) := by rw [hb1.cell]; rfl
      have hc4 : w1.cell? ⟨w.heap.size, 4, none⟩ = some (.int .i64 i.n) := by rw [hb1.cell]; rfl
      have E1 := Lib.hid ((Ext.alloc w _).t e1)
      clear e1 hb1
      go_wp2_with fail
      go_ret
      exact ⟨ret_bool Hr.out.symm, E1.out⟩
    · have hq : ((i.op : Int) != 1) = true := by simp; omega
      by_cases h2 : i.op = 2
      · have hr : goesF i = false := by unfold goesF; simp [h2]
        have Hr := Lib.hid hr
        have hq2 : ((i.op : Int) != 2) = false := by simp [h2]
        clear hr h0 h1 h2
        unfold insV
        go_enter Try.func20, Try.ntmps20
        go_wp2_with fail
        refine (HO.out _).mono ?_; rintro e w1 ⟨rfl, e1⟩
        have hb1 := (Blk.new w 38 #[.int .u8 (i.op : Int), .int .u8 (i.a : Int), .int .u8 (i.b : Int), .int .u8 (i.c : Int), .int .i64 i.n]).ext e1
        have hc0 : w1.cell? ⟨w.heap.size, 0, none⟩ = some (.int .u8 (i.op : Int)) := by rw [hb1.cell]; rfl
        have hc4 : w1.cell? ⟨w.heap.size, 4, none⟩ = some (.int .i64 i.n) := by rw [hb1.cell]; rfl
        have E1 := Lib.hid ((Ext.alloc w _).t e1)
        clear e1 hb1
        go_wp2_with fail
        go_ret
        exact ⟨ret_bool Hr.out.symm, E1.out⟩
      · have hq2 : ((i.op : Int) != 2) = true := by simp; omega
        by_cases h9 : i.op = 9
        · have hr : goesF i = false := by unfold goesF; simp [h9]
          have Hr := Lib.hid hr
          have hq9 : ((i.op : Int) != 9) = false := by simp [h9]
          clear hr h0 h1 h2 h9
          unfold insV
          go_enter Try.func20, Try.ntmps20
          go_wp2_with fail
          refine (HO.out _).mono ?_; rintro e w1 ⟨rfl, e1⟩
          have hb1 := (Blk.new w 38 #[.int .u8 (i.op : Int), .int .u8 (i.a : Int), .int .u8 (i.b : Int), .int .u8 (i.c : Int), .int .i64 i.n]).ext e1
          have hc0 : w1.cell? ⟨w.heap.size, 0, none⟩ = some (.int .u8 (i.op : Int)) := by rw [hb1.cell]; rfl
          have hc4 : w1.cell? ⟨w.heap.size, 4, none⟩ = some (.int .i64 i.n) := by rw [hb1.cell]; rfl
          have E1 := Lib.hid ((Ext.alloc w _).t e1)
          clear e1 hb1
          go_wp2_with fail
          go_ret
          exact ⟨ret_bool Hr.out.symm, E1.out⟩
        · have hq9 : ((i.op : Int) != 9) = true := by simp; omega
          have hr : goesF i = true := by unfold goesF; simp [h0, h1, h2, h9]
          have Hr := Lib.hid hr
          clear hr h0 h1 h2 h9
          unfold insV
          go_enter Try.func20, Try.ntmps20
          go_wp2_with fail
          refine (HO.out _).mono ?_; rintro e w1 ⟨rfl, e1⟩
          have hb1 := (Blk.new w 38 #[.int .u8 (i.op : Int), .int .u8 (i.a : Int), .int .u8 (i.b : Int), .int .u8 (i.c : Int), .int .i64 i.n]).ext e1
          have hc0 : w1.cell? ⟨w.heap.size, 0, none⟩ = some (.int .u8 (i.op : Int)) := by rw [hb1.cell]; rfl
          have hc4 : w1.cell? ⟨w.heap.size, 4, none⟩ = some (.int .i64 i.n) := by rw [hb1.cell]; rfl
          have E1 := Lib.hid ((Ext.alloc w _).t e1)
          clear e1 hb1
          go_wp2_with fail
          go_ret
          exact ⟨ret_bool Hr.out.symm, E1.out⟩
  · have hr : goesF i = false := by unfold goesF; simp [h0]
    have Hr := Lib.hid hr
    have hq : ((oneF i : Int) == 0) = false := by simp; omega
    generalize oneF i = er at *
    clear hr h0
    unfold insV
    go_enter Try.func20, Try.ntmps20
    go_wp2_with fail
    refine (HO.out _).mono ?_; rintro e w1 ⟨rfl, e1⟩
    have hb1 := (Blk.new w 38 #[.int .u8 (i.op : Int), .int .u8 (i.a : Int), .int .u8 (i.b : Int), .int .u8 (i.c : Int), .int .i64 i.n]).ext e1
    have hc0 : w1.cell? ⟨w.heap.size, 0, none⟩ = some (.int .u8 (i.op : Int)) := by rw [hb1.cell]; rfl
    have hc4 : w1.cell? ⟨w.heap.size, 4, none⟩ = some (.int .i64 i.n) := by rw [hb1.cell]; rfl
    have E1 := Lib.hid ((Ext.alloc w _).t e1)
    clear e1 hb1
    go_wp2_with fail
    go_ret
    exact ⟨ret_bool Hr.out.symm, E1.out⟩
/-- Where an instruction leads. -/
def TgtP (i : Ins) (w : World) (e : Ending) (w' : World) : Prop := e = .returned (.tuple #[.int .i64 (if tgtF i then i.n else 0), .bool (tgtF i)]) ∧ Ext w w'
theorem tgtP_no {i : Ins} {w w' : World} (h : tgtF i = false) (e : Ext w w') : TgtP i w (.returned (.tuple #[.int .i64 0, .bool false])) w' := ⟨by rw [h]; rfl, e⟩
theorem tgtP_yes {i : Ins} {w w' : World} (h : tgtF i = true) (e : Ext w w') : TgtP i w (.returned (.tuple #[.int .i64 i.n, .bool true])) w' := ⟨by rw [h]; rfl, e⟩
set_option maxHeartbeats 1000000 in
theorem target_ (i : Ins) (w : World) : Calls Try.prog 21 #[insV i] w (TgtP i w) := by
  have HO := Lib.hid (fun w' => one_ i w')
  unfold OneP insV at HO
  by_cases h0 : oneF i = 0
  · rw [h0] at HO
    by_cases h9 : i.op = 9
    · have Hr := Lib.hid (show tgtF i = true by unfold tgtF; simp [h0, h9])
      have hq : ((i.op : Int) != 9) = false := by simp [h9]
      clear h0 h9
      unfold insV
      go_enter Try.func21, Try.ntmps21
      go_wp2_with fail
      refine (HO.out _).mono ?_; rintro e w1 ⟨rfl, e1⟩
      have hb1 := (Blk.new w 38 #[.int .u8 (i.op : Int), .int .u8 (i.a : Int), .int .u8 (i.b : Int), .int .u8 (i.c : Int), .int .i64 i.n]).ext e1
      have hc0 : w1.cell? ⟨w.heap.size, 0, none⟩ = some (.int .u8 (i.op : Int)) := by rw [hb1.cell]; rfl
      have hc4 : w1.cell? ⟨w.heap.size, 4, none⟩ = some (.int .i64 i.n) := by rw [hb1.cell]; rfl
      have E1 := Lib.hid ((Ext.alloc w _).t e1)
      clear e1 hb1
      go_wp2_with fail
      go_ret2
      exact tgtP_yes Hr.out E1.out
    · have hq : ((i.op : Int) != 9) = true := by simp; omega
      by_cases h10 : i.op = 10
      · have Hr := Lib.hid (show tgtF i = true by unfold tgtF; simp [h0, h10])
        have hq2 : ((i.op : Int) != 10) = false := by simp [h10]
        clear h0 h9 h10
        unfold insV
        go_enter Try.func21, Try.ntmps21
        go_wp2_with fail
        refine (HO.out _).mono ?_; rintro e w1 ⟨rfl, e1⟩
        have hb1 := (Blk.new w 38 #[.int .u8 (i.op : Int), .int .u8 (i.a : Int), .int .u8 (i.b : Int), .int .u8 (i.c : Int), .int .i64 i.n]).ext e1
        have hc0 : w1.cell? ⟨w.heap.size, 0, none⟩ = some (.int .u8 (i.op : Int)) := by rw [hb1.cell]; rfl
        have hc4 : w1.cell? ⟨w.heap.size, 4, none⟩ = some (.int .i64 i.n) := by rw [hb1.cell]; rfl
        have E1 := Lib.hid ((Ext.alloc w _).t e1)
        clear e1 hb1
        go_wp2_with fail
        go_ret2
        exact tgtP_yes Hr.out E1.out
      · have hq2 : ((i.op : Int) != 10) = true := by simp; omega
        by_cases h11 : i.op = 11
        · have Hr := Lib.hid (show tgtF i = true by unfold tgtF; simp [h0, h11])
          have hq3 : ((i.op : Int) != 11) = false := by simp [h11]
          clear h0 h9 h10 h11
          unfold insV
          go_enter Try.func21, Try.ntmps21
          go_wp2_with fail
          refine (HO.out _).mono ?_; rintro e w1 ⟨rfl, e1⟩
          have hb1 := (Blk.new w 38 #[.int .u8 (i.op : Int), .int .u8 (i.a : Int), .int .u8 (i.b : Int), .int .u8 (i.c : Int), .int .i64 i.n]).ext e1
          have hc0 : w1.cell? ⟨w.heap.size, 0, none⟩ = some (.int .u8 (i.op : Int)) := by rw [hb1.cell]; rfl
          have hc4 : w1.cell? ⟨w.heap.size, 4, none⟩ = some (.int .i64 i.n) := by rw [hb1.cell]; rfl
          have E1 := Lib.hid ((Ext.alloc w _).t e1)
          clear e1 hb1
          go_wp2_with fail
          go_ret2
          exact tgtP_yes Hr.out E1.out
        · have Hr := Lib.hid (show tgtF i = false by unfold tgtF; simp [h9, h10, h11])
          have hq3 : ((i.op : Int) != 11) = true := by simp; omega
          clear h0 h9 h10 h11
          unfold insV
          go_enter Try.func21, Try.ntmps21
          go_wp2_with fail
          refine (HO.out _).mono ?_; rintro e w1 ⟨rfl, e1⟩
          have hb1 := (Blk.new w 38 #[.int .u8 (i.op : Int), .int .u8 (i.a : Int), .int .u8 (i.b : Int), .int .u8 (i.c : Int), .int .i64 i.n]).ext e1
          have hc0 : w1.cell? ⟨w.heap.size, 0, none⟩ = some (.int .u8 (i.op : Int)) := by rw [hb1.cell]; rfl
          have hc4 : w1.cell? ⟨w.heap.size, 4, none⟩ = some (.int .i64 i.n) := by rw [hb1.cell]; rfl
          have E1 := Lib.hid ((Ext.alloc w _).t e1)
          clear e1 hb1
          go_wp2_with fail
          go_ret2
          exact tgtP_no Hr.out E1.out
  · have Hr := Lib.hid (show tgtF i = false by unfold tgtF; simp [h0])
    have hq : ((oneF i : Int) != 0) = true := by simp; omega
    generalize oneF i = er at *
    clear h0
    unfold insV
    go_enter Try.func21, Try.ntmps21
    go_wp2_with fail
    refine (HO.out _).mono ?_; rintro e w1 ⟨rfl, e1⟩
    have hb1 := (Blk.new w 38 #[.int .u8 (i.op : Int), .int .u8 (i.a : Int), .int .u8 (i.b : Int), .int .u8 (i.c : Int), .int .i64 i.n]).ext e1
    have hc0 : w1.cell? ⟨w.heap.size, 0, none⟩ = some (.int .u8 (i.op : Int)) := by rw [hb1.cell]; rfl
    have hc4 : w1.cell? ⟨w.heap.size, 4, none⟩ = some (.int .i64 i.n) := by rw [hb1.cell]; rfl
    have E1 := Lib.hid ((Ext.alloc w _).t e1)
    clear e1 hb1
    go_wp2_with fail
    go_ret2
    exact tgtP_no Hr.out E1.out
def wdF (l : Nat) : Nat := if l = 110 then 8 else if l = 116 then 2 else 1
theorem width_ (l : Nat) (w : World) (h : l = 114 ∨ l = 110 ∨ l = 112 ∨ l = 116) : Calls Try.prog 35 #[.int .i32 (l : Int)] w fun e w' => e = .returned (.int .i64 (wdF l : Int)) ∧ w = w' := by
  rcases h with rfl | rfl | rfl | rfl
  all_goals
    go_enter Try.func35, Try.ntmps35
    go_wp2
    go_ret
    exact ⟨rfl, rfl⟩
structure SzJ (w : World) (op I pos n : Nat) (wr : World) : Prop where
  it : wr.heap[I]? = some (.stringIter (strOf op) pos)
  ext : Ext w wr
  n_ : n = if pos ≤ nrOf op then 1 + pos else szOp op
theorem SzJ.step {w : World} {op I pos n n' : Nat} {wr : World} (h : SzJ w op I pos n wr) (hp : pos < (strOf op).size) (hI : w.heap.size ≤ I) {l : Nat} (hl : ((strOf op)[pos]'hp).toNat = l) (hn : n' = n + wdF l) : SzJ w op I (pos + 1) n' (wr.putObj I (.stringIter (strOf op) (pos + 1))) := by
  have hlt : I < wr.heap.size := (Array.getElem?_eq_some_iff.1 h.it).1
  refine ⟨World.putObj_heap_same hlt, below_put h.ext hI, ?_⟩
  have h1 := h.n_
  by_cases hr : pos < nrOf op
  · rw [strOf_at_r hr hp] at hl
    have hl : 114 = l := hl
    subst hl
    rw [hn, h1, if_pos (by omega), if_pos (by omega)]
    show 1 + pos + 1 = _
    omega
  · have hsz := strOf_size op
    have hpe : pos = nrOf op := by split at hsz <;> omega
    obtain ⟨h3, h4⟩ := strOf_at_t hpe hp
    rw [h3] at hl
    rw [hn, h1, if_pos (by omega), if_neg (by omega), hpe]
    unfold szOp
    have hx : l = tlOf op := by
      rw [← hl]
      rcases (nr_tl op).2.1 with h | h | h | h <;> (rw [h]; rfl)
    rw [hx]
    unfold wdF
    rcases (nr_tl op).2.1 with h | h | h | h
    · exact absurd h h4
    · rw [h]; simp
    · rw [h]; simp
    · rw [h]; simp
theorem letter_of {op pos : Nat} (hp : pos < (strOf op).size) : ((strOf op)[pos]'hp).toNat = 114 ∨ ((strOf op)[pos]'hp).toNat = 110 ∨ ((strOf op)[pos]'hp).toNat = 112 ∨ ((strOf op)[pos]'hp).toNat = 116 := by
  by_cases hr : pos < nrOf op
  · rw [strOf_at_r hr hp]; exact .inl rfl
  · have hsz := strOf_size op
    have hpe : pos = nrOf op := by split at hsz <;> omega
    obtain ⟨h3, h4⟩ := strOf_at_t hpe hp
    rw [h3]
    rcases (nr_tl op).2.1 with h | h | h | h
    · exact absurd h h4
    · rw [h]; exact .inr (.inl rfl)
    · rw [h]; exact .inr (.inr (.inl rfl))
    · rw [h]; exact .inr (.inr (.inr rfl))
theorem szOp_le (op : Nat) : 1 ≤ szOp op ∧ szOp op ≤ 12 := by
  have := nr_tl op
  unfold szOp
  repeat' split
  all_goals omega
set_option maxHeartbeats 1000000 in
theorem size_ (op : Nat) (w : World) : Calls Try.prog 36 #[.int .u8 (op : Int)] w fun e w' => e = .returned (.int .i64 (szOp op : Int)) ∧ Ext w w' := by
  have HF := Lib.hid (fun w' => form_ op w')
  unfold FormP at HF
  generalize okOp op = ok at *
  go_enter Try.func36, Try.ntmps36
  go_wp2_with fail
  refine (HF.out _).mono ?_; rintro e w1 ⟨rfl, e1⟩
  have E1 := Lib.hid e1
  clear e1
  go_wp2_with fail
  have H0 : Hid (SzJ w op w1.heap.size 0 1 (w1.iter (strOf op) 0)) := Lib.hid ⟨World.iter_heap w1 _ 0, E1.out.t (Ext.alloc _ _), by simp⟩
  obtain ⟨I, hI⟩ : ∃ I, I = w1.heap.size := ⟨_, rfl⟩
  rw [← hI] at H0
  simp only [← hI]
  have HI : Hid (w.heap.size ≤ I) := Lib.hid (by rw [hI]; exact E1.out.size)
  clear hI
  go_loopw [5] (fun v wr => ∃ (pos n : Nat), pos ≤ (strOf op).size ∧ n ≤ 12 ∧ v = .int .i64 (n : Int) ∧ Hid (SzJ w op I pos n wr)) (fun _ wr => (strOf op).size - wr.iterPos I)
  case atStart => exact ⟨0, 1, Nat.zero_le _, by omega, rfl, H0⟩
  case round =>
    clear H0
    obtain ⟨pos, n, hp, hn12, rfl, HJ⟩ := hrel
    by_cases hlt : pos < (strOf op).size
    · have hmeas : (strOf op).size - (pos + 1) < (strOf op).size - wr.iterPos I := by rw [show wr.iterPos I = pos by simp [World.iterPos, HJ.out.it]]; omega
      have Hmeas := Lib.hid hmeas
      have hl := letter_of hlt
      obtain ⟨l, hle⟩ : ∃ l, ((strOf op)[pos]'hlt).toNat = l := ⟨_, rfl⟩
      rw [hle] at hl
      have hnx := fun ty => run_next_r (P := Try.prog) wr I (strOf op) pos ty HJ.out.it hlt (by rw [hle]; omega)
      rw [hle] at hnx
      have HW := Lib.hid (fun w' => width_ l w' hl)
      have HJ' := Lib.hid (HJ.out.step hlt HI.out hle rfl)
      have hw8 : wdF l ≤ 8 := by unfold wdF; repeat' split
                                 all_goals omega
      have hn' := HJ'.out.n_
      have hn2 : n + wdF l ≤ 12 := by
        rw [hn']
        have := szOp_le op
        have := nr_tl op
        split <;> omega
      have Hp1 : Hid (pos + 1 ≤ (strOf op).size) := Lib.hid hlt
      have Hit := Lib.hid HJ'.out.it
      clear hmeas hl hle hlt hn'
      go_wp2_with fail
      refine (HW.out _).mono ?_; rintro e w2 ⟨rfl, rfl⟩
      go_wp2_with fail
      go_roundw
      case rel => exact ⟨pos + 1, n + wdF l, Hp1.out, hn2, by go_num, HJ'⟩
      case measure => rw [show (wr.putObj I (.stringIter (strOf op) (pos + 1))).iterPos I = pos + 1 by simp [World.iterPos, Hit.out]]; exact Hmeas.out
    · obtain rfl : pos = (strOf op).size := by omega
      have hnx := fun ty => run_next_e (P := Try.prog) wr I (strOf op) (strOf op).size ty HJ.out.it hlt
      have hn := HJ.out.n_
      have hn' : n = szOp op := by
        rw [hn]
        have hsz := strOf_size op
        split
        · next h =>
          unfold szOp
          split at hsz
          · next h0 => rw [h0]; simp; omega
          · omega
        · rfl
      have Hn := Lib.hid hn'
      have HE := Lib.hid HJ.out.ext
      clear hn hn' HJ
      go_wp2_with fail
      go_ret
      exact ⟨ret_int (by rw [Hn.out]), HE.out⟩
/-- How many bytes an instruction has. -/
def SizeP (i : Ins) (w : World) (e : Ending) (w' : World) : Prop := e = .returned (.tuple #[.int .i64 (if oneF i = 0 then (szOp i.op : Int) else 0), .int .i64 (oneF i : Int)]) ∧ Ext w w'
set_option maxHeartbeats 1000000 in
theorem sizeOf_ (i : Ins) (w : World) : Calls Try.prog 18 #[insV i] w (SizeP i w) := by
  have HO := Lib.hid (fun w' => one_ i w')
  unfold OneP insV at HO
  by_cases h0 : oneF i = 0
  · rw [h0] at HO
    have H0 := Lib.hid h0
    have HS := Lib.hid (fun w' => size_ i.op w')
    clear h0
    unfold insV
    go_enter Try.func18, Try.ntmps18
    go_wp2_with fail
    refine (HO.out _).mono ?_; rintro e w1 ⟨rfl, e1⟩
    have hb1 := (Blk.new w 38 #[.int .u8 (i.op : Int), .int .u8 (i.a : Int), .int .u8 (i.b : Int), .int .u8 (i.c : Int), .int .i64 i.n]).ext e1
    have hc0 : w1.cell? ⟨w.heap.size, 0, none⟩ = some (.int .u8 (i.op : Int)) := by rw [hb1.cell]; rfl
    have hc4 : w1.cell? ⟨w.heap.size, 4, none⟩ = some (.int .i64 i.n) := by rw [hb1.cell]; rfl
    have E1 := Lib.hid ((Ext.alloc w _).t e1)
    clear e1 hb1
    go_wp2_with fail
    refine (HS.out _).mono ?_; rintro e w2 ⟨rfl, e2⟩
    have E2 := Lib.hid (E1.out.t e2)
    clear e2
    go_wp2_with fail
    go_ret2
    exact ⟨by rw [H0.out]; rfl, E2.out⟩
  · have hq : ((oneF i : Int) != 0) = true := by simp; omega
    obtain ⟨er, her⟩ : ∃ er, er = oneF i := ⟨_, rfl⟩
    have H0 : Hid (¬ er = 0) := Lib.hid (by rw [her]; exact h0)
    rw [← her] at HO hq
    have Her := Lib.hid her
    clear h0 her
    unfold insV
    go_enter Try.func18, Try.ntmps18
    go_wp2_with fail
    refine (HO.out _).mono ?_; rintro e w1 ⟨rfl, e1⟩
    have hb1 := (Blk.new w 38 #[.int .u8 (i.op : Int), .int .u8 (i.a : Int), .int .u8 (i.b : Int), .int .u8 (i.c : Int), .int .i64 i.n]).ext e1
    have hc0 : w1.cell? ⟨w.heap.size, 0, none⟩ = some (.int .u8 (i.op : Int)) := by rw [hb1.cell]; rfl
    have hc4 : w1.cell? ⟨w.heap.size, 4, none⟩ = some (.int .i64 i.n) := by rw [hb1.cell]; rfl
    have E1 := Lib.hid ((Ext.alloc w _).t e1)
    clear e1 hb1
    go_wp2_with fail
    go_ret2
    exact ⟨by rw [← Her.out, if_neg H0.out]; rfl, E1.out⟩
end Go.Proofs.Ytiakcehhegippaa
