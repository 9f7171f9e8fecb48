/- Crg: the reference's Goes, Target, size, Size and Check. -/
import Derived.Test.YtiakcehhegippaaCro
import Derived.Test.YtiakcehhegippaaCck
namespace Go.Proofs.Ytiakcehhegippaa
open Go.RowKit Go.Fx
theorem rone_ (i : Ins) (w : World) : Calls Try.prog 41 #[insV i] w (ROneP i w) := by
  cases h : okOp i.op with
  | false => exact rone_bad i w h
  | true => exact rone_ok i w h
set_option maxHeartbeats 1000000 in
theorem rgoes_ (i : Ins) (w : World) : Calls Try.prog 42 #[insV i] w (BoolP (goesF i) w) := by
  have HO := Lib.hid (fun w' => rone_ i w')
  unfold ROneP insV at HO
  by_cases h0 : oneF i = 0
  · rw [h0] at HO
    by_cases h1 : i.op = 1
    · have hr : goesF i = false := by unfold goesF; simp [h1]
      have Hr := Lib.hid hr
      have hq : ((i.op : Int) != 1) = false := by simp [h1]
      clear hr h0 h1
      unfold insV
      go_enter Try.func42, Try.ntmps42
      go_wp2_with fail
      refine (HO.out _).mono ?_; rintro e w1 ⟨rfl, e1⟩
      have hb1 := (Blk.new w 78 #[.int .u8 (i.op : Int), .int .u8 (i.a : Int), .int .u8 (i.b : Int), .int .u8 (i.c : Int), .int .i64 i.n]).ext e1
      have hc0 : w1.cell? ⟨w.heap.size, 0, none⟩ = some (.int .u8 (i.op : Int)) := by rw [hb1.cell]; rfl
      have hc4 : w1.cell? ⟨w.heap.size, 4, none⟩ = some (.int .i64 i.n) := by rw [hb1.cell]; rfl
      have E1 := Lib.hid ((Ext.alloc w _).t e1)
      clear e1 hb1
      go_wp2_with fail
      go_ret
      exact ⟨ret_bool Hr.out.symm, E1.out⟩
    · have hq : ((i.op : Int) != 1) = true := by simp; omega
      by_cases h2 : i.op = 2
      · have hr : goesF i = false := by unfold goesF; simp [h2]
        have Hr := Lib.hid hr
        have hq2 : ((i.op : Int) != 2) = false := by simp [h2]
        clear hr h0 h1 h2
        unfold insV
        go_enter Try.func42, Try.ntmps42
        go_wp2_with fail
        refine (HO.out _).mono ?_; rintro e w1 ⟨rfl, e1⟩
        have hb1 := (Blk.new w 78 #[.int .u8 (i.op : Int), .int .u8 (i.a : Int), .int .u8 (i.b : Int), .int .u8 (i.c : Int), .int .i64 i.n]).ext e1
        have hc0 : w1.cell? ⟨w.heap.size, 0, none⟩ = some (.int .u8 (i.op : Int)) := by rw [hb1.cell]; rfl
        have hc4 : w1.cell? ⟨w.heap.size, 4, none⟩ = some (.int .i64 i.n) := by rw [hb1.cell]; rfl
        have E1 := Lib.hid ((Ext.alloc w _).t e1)
        clear e1 hb1
        go_wp2_with fail
        go_ret
        exact ⟨ret_bool Hr.out.symm, E1.out⟩
      · have hq2 : ((i.op : Int) != 2) = true := by simp; omega
        by_cases h9 : i.op = 9
        · have hr : goesF i = false := by unfold goesF; simp [h9]
          have Hr := Lib.hid hr
          have hq9 : ((i.op : Int) != 9) = false := by simp [h9]
          clear hr h0 h1 h2 h9
          unfold insV
          go_enter Try.func42, Try.ntmps42
          go_wp2_with fail
          refine (HO.out _).mono ?_; rintro e w1 ⟨rfl, e1⟩
          have hb1 := (Blk.new w 78 #[.int .u8 (i.op : Int), .int .u8 (i.a : Int), .int .u8 (i.b : Int), .int .u8 (i.c : Int), .int .i64 i.n]).ext e1
          have hc0 : w1.cell? ⟨w.heap.size, 0, none⟩ = some (.int .u8 (i.op : Int)) := by rw [hb1.cell]; rfl
          have hc4 : w1.cell? ⟨w.heap.size, 4, none⟩ = some (.int .i64 i.n) := by rw [hb1.cell]; rfl
          have E1 := Lib.hid ((Ext.alloc w _).t e1)
          clear e1 hb1
          go_wp2_with fail
          go_ret
          exact ⟨ret_bool Hr.out.symm, E1.out⟩
        · have hq9 : ((i.op : Int) != 9) = true := by simp; omega
          have hr : goesF i = true := by unfold goesF; simp [h0, h1, h2, h9]
          have Hr := Lib.hid hr
          clear hr h0 h1 h2 h9
          unfold insV
          go_enter Try.func42, Try.ntmps42
          go_wp2_with fail
          refine (HO.out _).mono ?_; rintro e w1 ⟨rfl, e1⟩
          have hb1 := (Blk.new w 78 #[.int .u8 (i.op : Int), .int .u8 (i.a : Int), .int .u8 (i.b : Int), .int .u8 (i.c : Int), .int .i64 i.n]).ext e1
          have hc0 : w1.cell? ⟨w.heap.size, 0, none⟩ = some (.int .u8 (i.op : Int)) := by rw [hb1.cell]; rfl
          have hc4 : w1.cell? ⟨w.heap.size, 4, none⟩ = some (.int .i64 i.n) := by rw [hb1.cell]; rfl
          have E1 := Lib.hid ((Ext.alloc w _).t e1)
          clear e1 hb1
          go_wp2_with fail
          go_ret
          exact ⟨ret_bool Hr.out.symm, E1.out⟩
  · have hr : goesF i = false := by unfold goesF; simp [h0]
    have Hr := Lib.hid hr
    have hq : ((oneF i : Int) == 0) = false := by simp; omega
    generalize oneF i = er at *
    clear hr h0
    unfold insV
    go_enter Try.func42, Try.ntmps42
    go_wp2_with fail
    refine (HO.out _).mono ?_; rintro e w1 ⟨rfl, e1⟩
    have hb1 := (Blk.new w 78 #[.int .u8 (i.op : Int), .int .u8 (i.a : Int), .int .u8 (i.b : Int), .int .u8 (i.c : Int), .int .i64 i.n]).ext e1
    have hc0 : w1.cell? ⟨w.heap.size, 0, none⟩ = some (.int .u8 (i.op : Int)) := by rw [hb1.cell]; rfl
    have hc4 : w1.cell? ⟨w.heap.size, 4, none⟩ = some (.int .i64 i.n) := by rw [hb1.cell]; rfl
    have E1 := Lib.hid ((Ext.alloc w _).t e1)
    clear e1 hb1
    go_wp2_with fail
    go_ret
    exact ⟨ret_bool Hr.out.symm, E1.out⟩
set_option maxHeartbeats 1000000 in
theorem rtarget_ (i : Ins) (w : World) : Calls Try.prog 39 #[insV i] w (TgtP i w) := by
  have HO := Lib.hid (fun w' => rone_ i w')
  unfold ROneP insV at HO
  by_cases h0 : oneF i = 0
  · rw [h0] at HO
    by_cases h9 : i.op < 9
    · have Hr := Lib.hid (show tgtF i = false by unfold tgtF; simp; omega)
      have hq : (i.op : Int) < 9 := by omega
      clear h0 h9
      unfold insV
      go_enter Try.func39, Try.ntmps39
      go_wp2_with fail
      refine (HO.out _).mono ?_; rintro e w1 ⟨rfl, e1⟩
      have hb1 := (Blk.new w 78 #[.int .u8 (i.op : Int), .int .u8 (i.a : Int), .int .u8 (i.b : Int), .int .u8 (i.c : Int), .int .i64 i.n]).ext e1
      have hc0 : w1.cell? ⟨w.heap.size, 0, none⟩ = some (.int .u8 (i.op : Int)) := by rw [hb1.cell]; rfl
      have hc4 : w1.cell? ⟨w.heap.size, 4, none⟩ = some (.int .i64 i.n) := by rw [hb1.cell]; rfl
      have E1 := Lib.hid ((Ext.alloc w _).t e1)
      clear e1 hb1
      go_wp2_with fail
      go_ret2
      exact tgtP_no Hr.out E1.out
    · have hq : ¬ (i.op : Int) < 9 := by omega
      by_cases h11 : 11 < i.op
      · have Hr := Lib.hid (show tgtF i = false by unfold tgtF; simp; omega)
        have hq2 : (11 : Int) < (i.op : Int) := by omega
        clear h0 h9 h11
        unfold insV
        go_enter Try.func39, Try.ntmps39
        go_wp2_with fail
        refine (HO.out _).mono ?_; rintro e w1 ⟨rfl, e1⟩
        have hb1 := (Blk.new w 78 #[.int .u8 (i.op : Int), .int .u8 (i.a : Int), .int .u8 (i.b : Int), .int .u8 (i.c : Int), .int .i64 i.n]).ext e1
        have hc0 : w1.cell? ⟨w.heap.size, 0, none⟩ = some (.int .u8 (i.op : Int)) := by rw [hb1.cell]; rfl
        have hc4 : w1.cell? ⟨w.heap.size, 4, none⟩ = some (.int .i64 i.n) := by rw [hb1.cell]; rfl
        have E1 := Lib.hid ((Ext.alloc w _).t e1)
        clear e1 hb1
        go_wp2_with fail
        go_ret2
        exact tgtP_no Hr.out E1.out
      · have hq2 : ¬ (11 : Int) < (i.op : Int) := by omega
        have Hr := Lib.hid (show tgtF i = true by unfold tgtF; simp [h0]; omega)
        clear h0 h9 h11
        unfold insV
        go_enter Try.func39, Try.ntmps39
        go_wp2_with fail
        refine (HO.out _).mono ?_; rintro e w1 ⟨rfl, e1⟩
        have hb1 := (Blk.new w 78 #[.int .u8 (i.op : Int), .int .u8 (i.a : Int), .int .u8 (i.b : Int), .int .u8 (i.c : Int), .int .i64 i.n]).ext e1
        have hc0 : w1.cell? ⟨w.heap.size, 0, none⟩ = some (.int .u8 (i.op : Int)) := by rw [hb1.cell]; rfl
        have hc4 : w1.cell? ⟨w.heap.size, 4, none⟩ = some (.int .i64 i.n) := by rw [hb1.cell]; rfl
        have E1 := Lib.hid ((Ext.alloc w _).t e1)
        clear e1 hb1
        go_wp2_with fail
        go_ret2
        exact tgtP_yes Hr.out E1.out
  · have Hr := Lib.hid (show tgtF i = false by unfold tgtF; simp [h0])
    have hq : ((oneF i : Int) != 0) = true := by simp; omega
    generalize oneF i = er at *
    clear h0
    unfold insV
    go_enter Try.func39, Try.ntmps39
    go_wp2_with fail
    refine (HO.out _).mono ?_; rintro e w1 ⟨rfl, e1⟩
    have hb1 := (Blk.new w 78 #[.int .u8 (i.op : Int), .int .u8 (i.a : Int), .int .u8 (i.b : Int), .int .u8 (i.c : Int), .int .i64 i.n]).ext e1
    have hc0 : w1.cell? ⟨w.heap.size, 0, none⟩ = some (.int .u8 (i.op : Int)) := by rw [hb1.cell]; rfl
    have hc4 : w1.cell? ⟨w.heap.size, 4, none⟩ = some (.int .i64 i.n) := by rw [hb1.cell]; rfl
    have E1 := Lib.hid ((Ext.alloc w _).t e1)
    clear e1 hb1
    go_wp2_with fail
    go_ret2
    exact tgtP_no Hr.out E1.out
theorem cn_sum (op : Nat) : 1 + cnF op 114 + 8 * cnF op 110 + cnF op 112 + 2 * cnF op 116 = szOp op := by
  have := nr_tl op
  unfold szOp cnF
  repeat' split
  all_goals first | omega | (exfalso; omega)
set_option maxHeartbeats 1000000 in
theorem rsize_ (op : Nat) (w : World) : Calls Try.prog 49 #[.int .u8 (op : Int)] w fun e w' => e = .returned (.int .i64 (szOp op : Int)) ∧ Ext w w' := by
  have HF := Lib.hid (fun w' => rform_ op w')
  unfold FormP at HF
  generalize okOp op = ok at *
  have HC := Lib.hid (fun l w' h => count_ op l w' h)
  have hs := cn_sum op
  have hsz := szOp_le op
  obtain ⟨r, hr⟩ : ∃ r, r = cnF op 114 := ⟨_, rfl⟩
  obtain ⟨x, hx⟩ : ∃ x, x = cnF op 110 := ⟨_, rfl⟩
  obtain ⟨y, hy⟩ : ∃ y, y = cnF op 112 := ⟨_, rfl⟩
  obtain ⟨z, hz⟩ : ∃ z, z = cnF op 116 := ⟨_, rfl⟩
  have HCr : Hid (∀ w', Calls Try.prog 50 #[.string (strOf op), .int .u8 114] w' fun e w'' => e = .returned (.int .i64 (r : Int)) ∧ w' = w'') := Lib.hid (fun w' => by rw [hr]; exact HC.out 114 w' (by omega))
  have HCx : Hid (∀ w', Calls Try.prog 50 #[.string (strOf op), .int .u8 110] w' fun e w'' => e = .returned (.int .i64 (x : Int)) ∧ w' = w'') := Lib.hid (fun w' => by rw [hx]; exact HC.out 110 w' (by omega))
  have HCy : Hid (∀ w', Calls Try.prog 50 #[.string (strOf op), .int .u8 112] w' fun e w'' => e = .returned (.int .i64 (y : Int)) ∧ w' = w'') := Lib.hid (fun w' => by rw [hy]; exact HC.out 112 w' (by omega))
  have HCz : Hid (∀ w', Calls Try.prog 50 #[.string (strOf op), .int .u8 116] w' fun e w'' => e = .returned (.int .i64 (z : Int)) ∧ w' = w'') := Lib.hid (fun w' => by rw [hz]; exact HC.out 116 w' (by omega))
  rw [← hr, ← hx, ← hy, ← hz] at hs
  have Hs := Lib.hid hs
  have b1 : r ≤ 12 := by omega
  have b2 : x ≤ 12 := by omega
  have b3 : y ≤ 12 := by omega
  have b4 : z ≤ 12 := by omega
  clear hs hr hx hy hz HC
  go_enter Try.func49, Try.ntmps49
  go_wp2_with fail
  refine (HF.out _).mono ?_; rintro e w1 ⟨rfl, e1⟩
  have E1 := Lib.hid e1
  clear e1
  go_wp2_with fail
  refine (HCr.out _).mono ?_; rintro e w' ⟨rfl, rfl⟩
  go_wp2_with fail
  refine (HCx.out _).mono ?_; rintro e w' ⟨rfl, rfl⟩
  go_wp2_with fail
  refine (HCy.out _).mono ?_; rintro e w' ⟨rfl, rfl⟩
  go_wp2_with fail
  refine (HCz.out _).mono ?_; rintro e w' ⟨rfl, rfl⟩
  go_wp2_with fail
  go_ret
  exact ⟨ret_int (by rw [← Hs.out]; omega), E1.out⟩
set_option maxHeartbeats 1000000 in
theorem rsizeOf_ (i : Ins) (w : World) : Calls Try.prog 40 #[insV i] w (SizeP i w) := by
  have HO := Lib.hid (fun w' => rone_ i w')
  unfold ROneP insV at HO
  by_cases h0 : oneF i = 0
  · rw [h0] at HO
    have H0 := Lib.hid h0
    have HS := Lib.hid (fun w' => rsize_ i.op w')
    clear h0
    unfold insV
    go_enter Try.func40, Try.ntmps40
    go_wp2_with fail
    refine (HO.out _).mono ?_; rintro e w1 ⟨rfl, e1⟩
    have hb1 := (Blk.new w 78 #[.int .u8 (i.op : Int), .int .u8 (i.a : Int), .int .u8 (i.b : Int), .int .u8 (i.c : Int), .int .i64 i.n]).ext e1
    have hc0 : w1.cell? ⟨w.heap.size, 0, none⟩ = some (.int .u8 (i.op : Int)) := by rw [hb1.cell]; rfl
    have hc4 : w1.cell? ⟨w.heap.size, 4, none⟩ = some (.int .i64 i.n) := by rw [hb1.cell]; rfl
    have E1 := Lib.hid ((Ext.alloc w _).t e1)
    clear e1 hb1
    go_wp2_with fail
    refine (HS.out _).mono ?_; rintro e w2 ⟨rfl, e2⟩
    have E2 := Lib.hid (E1.out.t e2)
    clear e2
    go_wp2_with fail
    go_ret2
    exact ⟨by rw [H0.out]; rfl, E2.out⟩
  · have hq : ((oneF i : Int) != 0) = true := by simp; omega
    obtain ⟨er, her⟩ : ∃ er, er = oneF i := ⟨_, rfl⟩
    have H0 : Hid (¬ er = 0) := Lib.hid (by rw [her]; exact h0)
    rw [← her] at HO hq
    have Her := Lib.hid her
    clear h0 her
    unfold insV
    go_enter Try.func40, Try.ntmps40
    go_wp2_with fail
    refine (HO.out _).mono ?_; rintro e w1 ⟨rfl, e1⟩
    have hb1 := (Blk.new w 78 #[.int .u8 (i.op : Int), .int .u8 (i.a : Int), .int .u8 (i.b : Int), .int .u8 (i.c : Int), .int .i64 i.n]).ext e1
    have hc0 : w1.cell? ⟨w.heap.size, 0, none⟩ = some (.int .u8 (i.op : Int)) := by rw [hb1.cell]; rfl
    have hc4 : w1.cell? ⟨w.heap.size, 4, none⟩ = some (.int .i64 i.n) := by rw [hb1.cell]; rfl
    have E1 := Lib.hid ((Ext.alloc w _).t e1)
    clear e1 hb1
    go_wp2_with fail
    go_ret2
    exact ⟨by rw [← Her.out, if_neg H0.out]; rfl, E1.out⟩
set_option maxRecDepth 100000 in
set_option maxHeartbeats 2000000 in
theorem rcheck_ (A : Option Addr) (n c : Nat) (p : List Ins) (w : World) (h : RdS 5 insC w A n p) :
    Calls Try.prog 44 #[.slice A n c] w (CheckP p w) := by
  have hl := h.1
  by_cases h0 : n = 0
  · subst h0
    have Hr := Lib.hid (show checkF p = (-1, 6) by unfold checkF; rw [if_pos hl])
    clear h hl
    go_enter Try.func44, Try.ntmps44
    go_wp2
    go_ret2
    exact checkP_mk Hr.out rfl (Ext.refl _)
  · have h0I : ((n : Int) == 0) = false := by simp; omega
    by_cases h2 : 256 < n
    · have h2I : (256 : Int) < (n : Int) := by omega
      have Hr := Lib.hid (show checkF p = (-1, 5) by unfold checkF; rw [if_neg (by omega), if_pos (by omega)])
      clear h hl h0 h2
      go_enter Try.func44, Try.ntmps44
      go_wp2
      go_ret2
      exact checkP_mk Hr.out rfl (Ext.refl _)
    · have h2I : ¬ (256 : Int) < (n : Int) := by omega
      have hn : n ≤ 256 := by omega
      have hn0 : 0 < n := by omega
      have HR := Lib.hid h
      have Hl := Lib.hid hl
      clear h hl h0 h2
      go_enter Try.func44, Try.ntmps44
      go_wp2
      go_loopw [4] (fun i wr => ∃ k : Nat, k ≤ n ∧ i = .int .i64 (k : Int) ∧ Hid (chkF p.length p 0 = chkF p.length (p.drop k) k) ∧ Hid (Ext w wr)) (fun i _ => n - (intOf i).toNat)
      case atStart => exact ⟨0, by omega, rfl, Lib.hid rfl, Lib.hid (Ext.refl _)⟩
      case round =>
        obtain ⟨k, hk, rfl, HC, HE⟩ := hrel
        by_cases hlt : k < n
        · have hltI : (k : Int) < (n : Int) := by omega
          obtain ⟨b, o, i, rfl, hbl, hi, c0, c1, c2, c3, c4⟩ := (HR.out.ext HE.out).ins hlt
          have HO := Lib.hid (fun w' => rone_ i w')
          unfold ROneP insV at HO
          have HT := Lib.hid (fun w' => rtarget_ i w')
          unfold TgtP insV at HT
          have hstep := chkF_step (len := p.length) hi
          rw [← HC.out] at hstep
          have Hstep := Lib.hid hstep
          clear hstep hi
          by_cases h1 : oneF i = 0
          · rw [h1] at HO
            have H1 := Lib.hid h1
            clear h1
            go_wp2_with fail
            refine (HO.out _).mono ?_; rintro e w2 ⟨rfl, e2⟩
            have d0 := (e2.cell (p := ⟨b, o + k * 5, none⟩) hbl).trans c0
            have d1 := (e2.cell (p := ⟨b, o + k * 5 + 1, none⟩) hbl).trans c1
            have d2 := (e2.cell (p := ⟨b, o + k * 5 + 2, none⟩) hbl).trans c2
            have d3 := (e2.cell (p := ⟨b, o + k * 5 + 3, none⟩) hbl).trans c3
            have d4 := (e2.cell (p := ⟨b, o + k * 5 + 4, none⟩) hbl).trans c4
            have E2 := Lib.hid (HE.out.t e2)
            clear e2 c0 c1 c2 c3 c4
            cases ht : tgtF i with
            | false =>
              rw [ht] at HT
              simp only [Bool.false_eq_true, if_false] at HT
              have hnext : chkF p.length p 0 = chkF p.length (p.drop (k + 1)) (k + 1) := by rw [Hstep.out, if_neg (by rw [H1.out]; simp), if_neg (by rw [ht]; simp)]
              have Hnext := Lib.hid hnext
              clear ht hnext
              go_wp2_with fail
              refine (HT.out _).mono ?_; rintro e w3 ⟨rfl, e3⟩
              have E3 := Lib.hid (E2.out.t e3)
              clear e3
              go_wp2_with fail
              go_roundw
              case rel => exact ⟨k + 1, by omega, by go_num, Hnext, E3⟩
              case measure => simp [intOf]; omega
            | true =>
              rw [ht] at HT
              simp only [if_true] at HT
              by_cases hto : (n : Int) ≤ i.n
              · have hres : chkF p.length p 0 = some (k, 142) := by rw [Hstep.out, if_neg (by rw [H1.out]; simp), if_pos ⟨ht, by rw [Hl.out]; exact hto⟩]
                have Hres := Lib.hid (checkF_at (by rw [Hl.out]; exact hn0) (by rw [Hl.out]; exact hn) hres)
                clear ht hres
                go_wp2_with fail
                refine (HT.out _).mono ?_; rintro e w3 ⟨rfl, e3⟩
                have E3 := Lib.hid (E2.out.t e3)
                clear e3
                go_wp2_with fail
                go_ret2
                exact checkP_mk Hres.out rfl E3.out
              · have hnext : chkF p.length p 0 = chkF p.length (p.drop (k + 1)) (k + 1) := by rw [Hstep.out, if_neg (by rw [H1.out]; simp), if_neg (fun h => hto (by rw [← Hl.out]; exact h.2))]
                have Hnext := Lib.hid hnext
                clear ht hnext
                go_wp2_with fail
                refine (HT.out _).mono ?_; rintro e w3 ⟨rfl, e3⟩
                have E3 := Lib.hid (E2.out.t e3)
                clear e3
                go_wp2_with fail
                go_roundw
                case rel => exact ⟨k + 1, by omega, by go_num, Hnext, E3⟩
                case measure => simp [intOf]; omega
          · have hres : chkF p.length p 0 = some (k, oneF i) := by rw [Hstep.out, if_pos h1]
            have Hres := Lib.hid (checkF_at (by rw [Hl.out]; exact hn0) (by rw [Hl.out]; exact hn) hres)
            have hq : ((oneF i : Int) != 0) = true := by simp; omega
            generalize oneF i = er at *
            clear h1 hres
            go_wp2_with fail
            refine (HO.out _).mono ?_; rintro e w2 ⟨rfl, e2⟩
            have E2 := Lib.hid (HE.out.t e2)
            clear e2
            go_wp2_with fail
            go_ret2
            exact checkP_mk Hres.out rfl E2.out
        · obtain rfl : n = k := by omega
          have hnone : chkF p.length p 0 = none := by rw [HC.out, chkF_end (by rw [Hl.out]; exact Nat.le_refl _)]
          obtain ⟨m, hm⟩ : ∃ m, m + 1 = n := ⟨n - 1, by omega⟩
          have hmI : (n : Int) - 1 = (m : Int) := by omega
          have hmn : m < n := by omega
          obtain ⟨b, o, i, rfl, _, hi, c0, c1, c2, c3, c4⟩ := (HR.out.ext HE.out).ins hmn
          have hlast : p.getLast? = some i := by rw [List.getLast?_eq_getElem?, Hl.out, show n - 1 = m by omega]; exact hi
          have hck : checkF p = if goesF i = true then (((n - 1 : Nat) : Int), 143) else (-1, 0) := by
            unfold checkF
            rw [if_neg (by rw [Hl.out]; omega), if_neg (by rw [Hl.out]; omega), hnone, hlast, Hl.out]
            simp
          have HG := Lib.hid (fun w' => rgoes_ i w')
          unfold BoolP insV at HG
          have Hck := Lib.hid hck
          have Hm : Hid (n - 1 = m) := Lib.hid (by omega)
          clear hnone hi hlast hck HC hm
          cases hg : goesF i with
          | false =>
            rw [hg] at HG
            have Hres : Hid (checkF p = (-1, 0)) := Lib.hid (by rw [Hck.out, hg]; rfl)
            clear hg
            go_wp2_with fail
            refine (HG.out _).mono ?_; rintro e w2 ⟨rfl, e2⟩
            have E2 := Lib.hid (HE.out.t e2)
            clear e2
            go_wp2_with fail
            go_ret2
            exact checkP_mk Hres.out rfl E2.out
          | true =>
            rw [hg] at HG
            have Hres : Hid (checkF p = ((m : Int), 143)) := Lib.hid (by rw [Hck.out, hg, Hm.out]; rfl)
            clear hg
            go_wp2_with fail
            refine (HG.out _).mono ?_; rintro e w2 ⟨rfl, e2⟩
            have E2 := Lib.hid (HE.out.t e2)
            clear e2
            go_wp2_with fail
            go_ret2
            exact checkP_mk Hres.out rfl E2.out
end Go.Proofs.Ytiakcehhegippaa
