/- Cgt: the program's Goes, Target, width, size and Size. -/
import Derived.Test.YtlneifgihdickaaCon
namespace Go.Proofs.Ytlneifgihdickaa
open Go.RowKit Go.Fx
theorem one_ (i : Ins) (w : World) : Calls Try.prog 39 #[insV i] w (OneP i w) := by
  cases h : okOp i.op with
  | false => exact one_bad i w h
  | true => exact one_ok i w h
def BoolP (b : Bool) (w : World) (e : Ending) (w' : World) : Prop := e = .returned (.bool b) ∧ Ext w w'
set_option maxHeartbeats 1000000 in
theorem goes_ (i : Ins) (w : World) : Calls Try.prog 17 #[insV i] w (BoolP (goesF i) w) := by
  have HO := Lib.hid (fun w' => one_ i w')
  unfold OneP insV at HO
  by_cases h0 : oneF i = 0
  · rw [h0] at HO
    by_cases h1 : i.op = 1
    · have hr : goesF i = false := by unfold goesF; simp [h1]
      have Hr := Lib.hid hr
      have hq : ((i.op : Int) != 1) = false := by simp [h1]
      clear hr h0 h1
      unfold insV
      go_enter Try.func17, Try.ntmps17
      go_wp2_with fail
      refine (HO.out _).mono ?_; rintro e w1 ⟨rfl, e1⟩
      have hb1 := (Blk.new w 34 #[.int .u8 (i.op : Int), .int .u8 (i.a : Int), .int .u8 (i.b : Int), .int .u8 (i.c : Int), .int .i64 i.n]).ext e1
      have hc0 : w1.cell? ⟨w.heap.size, 0, none⟩ = some (.int .u8 (i.op : Int)) := by rw [hb1.cell]; rfl
      have hc4 : w1.cell? ⟨w.heap.size, 4, none⟩ = some (.int .i64 i.n) := by rw [hb1.cell]; rfl
      have E1 := Lib.hid ((Ext.alloc w _).t e1)
      clear e1 hb1
      go_wp2_with fail
      go_ret
      exact ⟨ret_bool Hr.out.symm, E1.out⟩
    · have hq : ((i.op : Int) != 1) = true := by simp; omega
      by_cases h2 : i.op = 2
      · have hr : goesF i = false := by unfold goesF; simp [h2]
        have Hr := Lib.hid hr
        have hq2 : ((i.op : Int) != 2) = false := by simp [h2]
        clear hr h0 h1 h2
        unfold insV
        go_enter Try.func17, Try.ntmps17
        go_wp2_with fail
        refine (HO.out _).mono ?_; rintro e w1 ⟨rfl, e1⟩
        have hb1 := (Blk.new w 34 #[.int .u8 (i.op : Int), .int .u8 (i.a : Int), .int .u8 (i.b : Int), .int .u8 (i.c : Int), .int .i64 i.n]).ext e1
        have hc0 : w1.cell? ⟨w.heap.size, 0, none⟩ = some (.int .u8 (i.op : Int)) := by rw [hb1.cell]; rfl
        have hc4 : w1.cell? ⟨w.heap.size, 4, none⟩ = some (.int .i64 i.n) := by rw [hb1.cell]; rfl
        have E1 := Lib.hid ((Ext.alloc w _).t e1)
        clear e1 hb1
        go_wp2_with fail
        go_ret
        exact ⟨ret_bool Hr.out.symm, E1.out⟩
      · have hq2 : ((i.op : Int) != 2) = true := by simp; omega
        by_cases h9 : i.op = 9
        · have hr : goesF i = false := by unfold goesF; simp [h9]
          have Hr := Lib.hid hr
          have hq9 : ((i.op : Int) != 9) = false := by simp [h9]
          clear hr h0 h1 h2 h9
          unfold insV
          go_enter Try.func17, Try.ntmps17
          go_wp2_with fail
          refine (HO.out _).mono ?_; rintro e w1 ⟨rfl, e1⟩
          have hb1 := (Blk.new w 34 #[.int .u8 (i.op : Int), .int .u8 (i.a : Int), .int .u8 (i.b : Int), .int .u8 (i.c : Int), .int .i64 i.n]).ext e1
          have hc0 : w1.cell? ⟨w.heap.size, 0, none⟩ = some (.int .u8 (i.op : Int)) := by rw [hb1.cell]; rfl
          have hc4 : w1.cell? ⟨w.heap.size, 4, none⟩ = some (.int .i64 i.n) := by rw [hb1.cell]; rfl
          have E1 := Lib.hid ((Ext.alloc w _).t e1)
          clear e1 hb1
          go_wp2_with fail
          go_ret
          exact ⟨ret_bool Hr.out.symm, E1.out⟩
        · have hq9 : ((i.op : Int) != 9) = true := by simp; omega
          have hr : goesF i = true := by unfold goesF; simp [h0, h1, h2, h9]
          have Hr := Lib.hid hr
          clear hr h0 h1 h2 h9
          unfold insV
          go_enter Try.func17, Try.ntmps17
          go_wp2_with fail
          refine (HO.out _).mono ?_; rintro e w1 ⟨rfl, e1⟩
          have hb1 := (Blk.new w 34 #[.int .u8 (i.op : Int), .int .u8 (i.a : Int), .int .u8 (i.b : Int), .int .u8 (i.c : Int), .int .i64 i.n]).ext e1
          have hc0 : w1.cell? ⟨w.heap.size, 0, none⟩ = some (.int .u8 (i.op : Int)) := by rw [hb1.cell]; rfl
          have hc4 : w1.cell? ⟨w.heap.size, 4, none⟩ = some (.int .i64 i.n) := by rw [hb1.cell]; rfl
          have E1 := Lib.hid ((Ext.alloc w _).t e1)
          clear e1 hb1
          go_wp2_with fail
          go_ret
          exact ⟨ret_bool Hr.out.symm, E1.out⟩
  · have hr : goesF i = false := by unfold goesF; simp [h0]
    have Hr := Lib.hid hr
    have hq : ((oneF i : Int) == 0) = false := by simp; omega
    generalize oneF i = er at *
    clear hr h0
    unfold insV
    go_enter Try.func17, Try.ntmps17
    go_wp2_with fail
    refine (HO.out _).mono ?_; rintro e w1 ⟨rfl, e1⟩
    have hb1 := (Blk.new w 34 #[.int .u8 (i.op : Int), .int .u8 (i.a : Int), .int .u8 (i.b : Int), .int .u8 (i.c : Int), .int .i64 i.n]).ext e1
    have hc0 : w1.cell? ⟨w.heap.size, 0, none⟩ = some (.int .u8 (i.op : Int)) := by rw [hb1.cell]; rfl
    have hc4 : w1.cell? ⟨w.heap.size, 4, none⟩ = some (.int .i64 i.n) := by rw [hb1.cell]; rfl
    have E1 := Lib.hid ((Ext.alloc w _).t e1)
    clear e1 hb1
    go_wp2_with fail
    go_ret
    exact ⟨ret_bool Hr.out.symm, E1.out⟩
/-- Where an instruction leads. -/
def TgtP (i : Ins) (w : World) (e : Ending) (w' : World) : Prop := e = .returned (.tuple #[.int .i64 (if tgtF i then i.n else 0), .bool (tgtF i)]) ∧ Ext w w'
theorem tgtP_no {i : Ins} {w w' : World} (h : tgtF i = false) (e : Ext w w') : TgtP i w (.returned (.tuple #[.int .i64 0, .bool false])) w' := ⟨by rw [h]; rfl, e⟩
theorem tgtP_yes {i : Ins} {w w' : World} (h : tgtF i = true) (e : Ext w w') : TgtP i w (.returned (.tuple #[.int .i64 i.n, .bool true])) w' := ⟨by rw [h]; rfl, e⟩
set_option maxHeartbeats 1000000 in
theorem target_ (i : Ins) (w : World) : Calls Try.prog 16 #[insV i] w (TgtP i w) := by
  have HO := Lib.hid (fun w' => one_ i w')
  unfold OneP insV at HO
  by_cases h0 : oneF i = 0
  · rw [h0] at HO
    by_cases h9 : i.op = 9
    · have Hr := Lib.hid (show tgtF i = true by unfold tgtF; simp [h0, h9])
      have hq : ((i.op : Int) != 9) = false := by simp [h9]
      clear h0 h9
      unfold insV
      go_enter Try.func16, Try.ntmps16
      go_wp2_with fail
      refine (HO.out _).mono ?_; rintro e w1 ⟨rfl, e1⟩
      have hb1 := (Blk.new w 34 #[.int .u8 (i.op : Int), .int .u8 (i.a : Int), .int .u8 (i.b : Int), .int .u8 (i.c : Int), .int .i64 i.n]).ext e1
      have hc0 : w1.cell? ⟨w.heap.size, 0, none⟩ = some (.int .u8 (i.op : Int)) := by rw [hb1.cell]; rfl
      have hc4 : w1.cell? ⟨w.heap.size, 4, none⟩ = some (.int .i64 i.n) := by rw [hb1.cell]; rfl
      have E1 := Lib.hid ((Ext.alloc w _).t e1)
      clear e1 hb1
      go_wp2_with fail
      go_ret2
      exact tgtP_yes Hr.out E1.out
    · have hq : ((i.op : Int) != 9) = true := by simp; omega
      by_cases h10 : i.op = 10
      · have Hr := Lib.hid (show tgtF i = true by unfold tgtF; simp [h0, h10])
        have hq2 : ((i.op : Int) != 10) = false := by simp [h10]
        clear h0 h9 h10
        unfold insV
        go_enter Try.func16, Try.ntmps16
        go_wp2_with fail
        refine (HO.out _).mono ?_; rintro e w1 ⟨rfl, e1⟩
        have hb1 := (Blk.new w 34 #[.int .u8 (i.op : Int), .int .u8 (i.a : Int), .int .u8 (i.b : Int), .int .u8 (i.c : Int), .int .i64 i.n]).ext e1
        have hc0 : w1.cell? ⟨w.heap.size, 0, none⟩ = some (.int .u8 (i.op : Int)) := by rw [hb1.cell]; rfl
        have hc4 : w1.cell? ⟨w.heap.size, 4, none⟩ = some (.int .i64 i.n) := by rw [hb1.cell]; rfl
        have E1 := Lib.hid ((Ext.alloc w _).t e1)
        clear e1 hb1
        go_wp2_with fail
        go_ret2
        exact tgtP_yes Hr.out E1.out
      · have hq2 : ((i.op : Int) != 10) = true := by simp; omega
        by_cases h11 : i.op = 11
        · have Hr := Lib.hid (show tgtF i = true by unfold tgtF; simp [h0, h11])
          have hq3 : ((i.op : Int) != 11) = false := by simp [h11]
          clear h0 h9 h10 h11
          unfold insV
          go_enter Try.func16, Try.ntmps16
          go_wp2_with fail
          refine (HO.out _).mono ?_; rintro e w1 ⟨rfl, e1⟩
          have hb1 := (Blk.new w 34 #[.int .u8 (i.op : Int), .int .u8 (i.a : Int), .int .u8 (i.b : Int), .int .u8 (i.c : Int), .int .i64 i.n]).ext e1
          have hc0 : w1.cell? ⟨w.heap.size, 0, none⟩ = some (.int .u8 (i.op : Int)) := by rw [hb1.cell]; rfl
          have hc4 : w1.cell? ⟨w.heap.size, 4, none⟩ = some (.int .i64 i.n) := by rw [hb1.cell]; rfl
          have E1 := Lib.hid ((Ext.alloc w _).t e1)
          clear e1 hb1
          go_wp2_with fail
          go_ret2
          exact tgtP_yes Hr.out E1.out
        · have Hr := Lib.hid (show tgtF i = false by unfold tgtF; simp [h9, h10, h11])
          have hq3 : ((i.op : Int) != 11) = true := by simp; omega
          clear h0 h9 h10 h11
          unfold insV
          go_enter Try.func16, Try.ntmps16
          go_wp2_with fail
          refine (HO.out _).mono ?_; rintro e w1 ⟨rfl, e1⟩
          have hb1 := (Blk.new w 34 #[.int .u8 (i.op : Int), .int .u8 (i.a : Int), .int .u8 (i.b : Int), .int .u8 (i.c : Int), .int .i64 i.n]).ext e1
          have hc0 : w1.cell? ⟨w.heap.size, 0, none⟩ = some (.int .u8 (i.op : Int)) := by rw [hb1.cell]; rfl
          have hc4 : w1.cell? ⟨w.heap.size, 4, none⟩ = some (.int .i64 i.n) := by rw [hb1.cell]; rfl
          have E1 := Lib.hid ((Ext.alloc w _).t e1)
          clear e1 hb1
          go_wp2_with fail
          go_ret2
          exact tgtP_no Hr.out E1.out
  · have Hr := Lib.hid (show tgtF i = false by unfold tgtF; simp [h0])
    have hq : ((oneF i : Int) != 0) = true := by simp; omega
    generalize oneF i = er at *
    clear h0
    unfold insV
    go_enter Try.func16, Try.ntmps16
    go_wp2_with fail
    refine (HO.out _).mono ?_; rintro e w1 ⟨rfl, e1⟩
    have hb1 := (Blk.new w 34 #[.int .u8 (i.op : Int), .int .u8 (i.a : Int), .int .u8 (i.b : Int), .int .u8 (i.c : Int), .int .i64 i.n]).ext e1
    have hc0 : w1.cell? ⟨w.heap.size, 0, none⟩ = some (.int .u8 (i.op : Int)) := by rw [hb1.cell]; rfl
    have hc4 : w1.cell? ⟨w.heap.size, 4, none⟩ = some (.int .i64 i.n) := by rw [hb1.cell]; rfl
    have E1 := Lib.hid ((Ext.alloc w _).t e1)
    clear e1 hb1
    go_wp2_with fail
    go_ret2
    exact tgtP_no Hr.out E1.out
end Go.Proofs.Ytlneifgihdickaa
