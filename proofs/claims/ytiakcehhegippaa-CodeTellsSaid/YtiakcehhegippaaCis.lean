/- Cis: the program's iterator over instructions. -/
import Derived.Test.YtiakcehhegippaaCrd
import Derived.Test.YtiakcehhegippaaRange
import Derived.Deep.LoopGhost
namespace Go.Fx
/-- What instrs yields at the start of some bytes: the instruction, the error, how many bytes it has. -/
def rdS : List Nat → Ins × Nat × Nat
  | [] => (ins0, 0, 0)
  | op :: t =>
    if okOp op = false then (ins0, 140, 0)
    else if t.length + 1 < szOp op then (ins0, 144, szOp op)
    else if oneF (rdI op (t.take (szOp op - 1))) = 0 then (rdI op (t.take (szOp op - 1)), 0, szOp op)
    else (ins0, oneF (rdI op (t.take (szOp op - 1))), szOp op)
end Go.Fx
namespace Go.Proofs.Ytiakcehhegippaa
open Go.RowKit Go.Fx
theorem rdS_cons (op : Nat) (t : List Nat) : rdS (op :: t) = if okOp op = false then (ins0, 140, 0) else if t.length + 1 < szOp op then (ins0, 144, szOp op) else if oneF (rdI op (t.take (szOp op - 1))) = 0 then (rdI op (t.take (szOp op - 1)), 0, szOp op) else (ins0, oneF (rdI op (t.take (szOp op - 1))), szOp op) := rfl
theorem rdS_n {b : List Nat} (h : (rdS b).2.1 = 0) (h0 : 0 < b.length) : 1 ≤ (rdS b).2.2 ∧ (rdS b).2.2 ≤ b.length := by
  cases b with
  | nil => simp at h0
  | cons op t =>
    have hs := szOp_le op
    rw [rdS_cons] at h ⊢
    by_cases h1 : okOp op = false
    · rw [if_pos h1] at h; cases h
    · rw [if_neg h1] at h ⊢
      by_cases h2 : t.length + 1 < szOp op
      · rw [if_pos h2] at h; cases h
      · rw [if_neg h2] at h ⊢
        by_cases h3 : oneF (rdI op (t.take (szOp op - 1))) = 0
        · rw [if_pos h3]; exact ⟨hs.1, by show szOp op ≤ t.length + 1; omega⟩
        · rw [if_neg h3] at h; exact absurd h h3
attribute [local go_sem] Oper.semAt_some
theorem instrs_ (A : Option Addr) (n c : Nat) (w : World) :
    Calls Try.prog 32 #[.slice A n c] w fun e w' => e = .returned (.func (.func 51) #[] #[.pointer (some ⟨w.heap.size, 0, none⟩)]) ∧ w.alloc (.cells #[.slice A n c] 22) = w' := by
  go_enter Try.func32, Try.ntmps32
  go_wp2
  go_ret
  exact ⟨rfl, rfl⟩
/-- What a call of yield must leave: it goes on (J) or it has said 'no more' (X). -/
def CyP (J : World → Prop) (X : World → Prop) (Bx er : Nat) (v : Value) (e : Ending) (W' : World) : Prop := (e = .returned (.bool true) ∧ er = 0 ∧ J W' ∧ Blk W' Bx 22 #[v]) ∨ (e = .returned (.bool false) ∧ X W')
def CisP (J : Nat → World → Prop) (X : World → Prop) (n : Nat) (e : Ending) (W' : World) : Prop := (∃ v, e = .returned v) ∧ (J n W' ∨ X W')
set_option maxRecDepth 100000 in
set_option maxHeartbeats 2000000 in
theorem instrs1 (l Bx : Nat) (A : Option Addr) (n c : Nat) (b : List Nat) (w : World) (J : Nat → World → Prop) (X : World → Prop) (hb : ∀ x ∈ b, x < 256) (hc : n ≤ c) (_hn : n ≤ 1000000000)
    (hJ : ∀ o W, J o W → Ext w W)
    (hE : ∀ o W W', J o W → Ext W W' → J o W')
    (hS : ∀ o W v, J o W → J o (W.setCell ⟨Bx, 0, none⟩ v))
    (hY : ∀ o W v, o < n → J o W → Blk W Bx 22 #[v] →
      YieldAt Fence.wide 8 Try.prog l #[insV (rdS (b.drop o)).1, .int .i64 ((rdS (b.drop o)).2.1 : Int)] W (CyP (J (o + (rdS (b.drop o)).2.2)) X Bx (rdS (b.drop o)).2.1 v))
    (W : World) (h0 : J 0 W) (hbx : Blk W Bx 22 #[.slice A n c]) (hr : Rd u8v w A n b) :
    Calls Try.prog 51 #[.func (.yield l) #[] #[], .pointer (some ⟨Bx, 0, none⟩)] W (CisP J X n) := by
  have HJ := Lib.hid hJ
  have HE := Lib.hid hE
  have HS := Lib.hid hS
  have HY := Lib.hid hY
  have Hb := Lib.hid hb
  have Hl := Lib.hid hr.1
  have H0 : Hid (0 ≤ n ∧ n = n - 0 ∧ Blk W Bx 22 #[.slice A (n - 0) (c - 0)] ∧ Rd u8v w A (n - 0) (b.drop 0) ∧ J 0 W) := Lib.hid ⟨Nat.zero_le _, rfl, hbx, hr, h0⟩
  clear hJ hE hS hY hb h0 hbx hr
  go_enter Try.func51, Try.ntmps51
  go_wp2_with fail
  go_loopg [] n (fun k wr => ∃ o A', Hid (o ≤ n ∧ k = n - o ∧ Blk wr Bx 22 #[.slice A' (n - o) (c - o)] ∧ Rd u8v w A' (n - o) (b.drop o) ∧ J o wr))
  case atStart => exact ⟨0, A, H0⟩
  case round =>
    clear H0
    obtain ⟨o, A', H⟩ := hrel
    obtain ⟨ho, hk, hbx, hrd, hj⟩ := H.out
    have hcb := hbx.cell0
    have hfb := hbx.frozen 0
    obtain ⟨N, hN⟩ : ∃ N, N = n - o := ⟨_, rfl⟩
    obtain ⟨C, hC⟩ : ∃ C, C = c - o := ⟨_, rfl⟩
    have hNC : N ≤ C := by omega
    rw [← hN, ← hC] at hcb
    have HN := Lib.hid hN
    have HC := Lib.hid hC
    have Hj := Lib.hid hj
    have Hbx := Lib.hid hbx
    have Hrd := Lib.hid hrd
    have Hk := Lib.hid hk
    have Ho := Lib.hid ho
    clear H hN hC ho hk hbx hrd hj
    by_cases h0 : 0 < N
    · obtain ⟨bk, off, op, rfl, hbl, hd, hcd⟩ := (Hrd.out.ext (HJ.out _ _ Hj.out)).at_ (k := 0) (by have := HN.out; omega)
      obtain ⟨t, hdr⟩ : ∃ t, b.drop o = op :: t := by
        cases hx : b.drop o with
        | nil => rw [hx] at hd; simp at hd
        | cons x t => rw [hx] at hd; simp at hd; exact ⟨t, by rw [hd]⟩
      have hop : op < 256 := Hb.out op (List.mem_of_mem_drop (by rw [hdr]; simp : op ∈ b.drop o))
      have hlt : o < n := by have := HN.out; omega
      have hY' := HY.out o
      rw [hdr] at hY'
      have HF := Lib.hid (fun w' => form_ op w')
      unfold FormP at HF
      rw [Nat.add_zero] at hcd
      have hcd1 := fun ob => (World.cell?_alloc_lt wr ob ⟨bk, off, none⟩ hbl).trans hcd
      have hcb1 := fun ob => (World.cell?_alloc_lt wr ob ⟨Bx, 0, none⟩ Hbx.out.lt).trans hcb
      by_cases hok : okOp op = false
      · have hrs : rdS (op :: t) = (ins0, 140, 0) := by rw [rdS_cons, if_pos hok]
        rw [hrs] at hY'
        rw [hok] at HF
        have HY' := Lib.hid hY'
        clear hY' hrs hok hd hdr
        go_wp2_with fail
        refine (HF.out _).mono ?_; rintro e w2 ⟨rfl, e2⟩
        have hbI := (Blk.new wr 38 (insC ins0).toArray).ext e2
        have E2 := (Ext.alloc wr (.cells (insC ins0).toArray 38)).t e2
        have hyy : YieldAt Fence.wide 8 Try.prog l #[.agg #[.int .u8 0, .int .u8 0, .int .u8 0, .int .u8 0, .int .i64 0], .int .i64 140] w2 (CyP (J (o + 0)) X Bx 140 (.slice (some ⟨bk, off, none⟩) (n - o) (c - o))) := HY'.out _ _ hlt (HE.out _ _ _ Hj.out E2) (Hbx.out.ext E2)
        obtain ⟨fn, tmps, assign, body, hy, hRn⟩ := hyy
        obtain ⟨d0, d1, d2, d3, d4⟩ := hbI.ins
        have HRn := Lib.hid hRn
        clear hRn hbI E2 e2 HY' HF hcd hcd1 hcb1
        change w2.cell? _ = some (.int .u8 0) at d0
        change w2.cell? _ = some (.int .u8 0) at d1
        change w2.cell? _ = some (.int .u8 0) at d2
        change w2.cell? _ = some (.int .u8 0) at d3
        change w2.cell? _ = some (.int .i64 0) at d4
        go_upto_region 9 with fail
        refine (wpIn_wide (n := 9)).1 ?_
        gi_wp2
        refine HRn.out.mono ?_
        rintro e W' (⟨rfl, he, hJ', hB'⟩ | ⟨rfl, hX'⟩)
        · cases he
        · gi_wp2
          go_wp2_with fail
          refine bodyPost_ret (results_none rfl _ _ _) rfl ?_
          exact ⟨⟨_, rfl⟩, .inr hX'⟩
      · have hok' : okOp op = true := by simpa using hok
        have HSz := Lib.hid (fun w' => size_ op w')
        have hs12 := szOp_le op
        have hdl : t.length + 1 = N := by
          have h1 := congrArg List.length hdr
          rw [List.length_drop, Hl.out, List.length_cons] at h1
          rw [HN.out]; exact h1.symm
        rw [hok'] at HF
        by_cases hsz : N < szOp op
        · have hrs : rdS (op :: t) = (ins0, 144, szOp op) := by rw [rdS_cons, if_neg hok, if_pos (by omega)]
          have hszI : ¬ ((szOp op : Int) ≤ (N : Int)) := by omega
          rw [hrs] at hY'
          have HY' := Lib.hid hY'
          generalize szOp op = so at *
          clear hY' hrs hok hok' hd hdr hdl hsz
          go_wp2_with fail
          refine (HF.out _).mono ?_; rintro e w2 ⟨rfl, e2⟩
          have hbI := (Blk.new wr 38 (insC ins0).toArray).ext e2
          have E2 := Lib.hid ((Ext.alloc wr (.cells (insC ins0).toArray 38)).t e2)
          have HbI := Lib.hid hbI
          have hcd2 := (e2.cell (p := ⟨bk, off, none⟩) (by simp; omega)).trans (hcd1 _)
          have hcb2 := (Hbx.out.ext E2.out).cell0
          rw [← HN.out, ← HC.out] at hcb2
          clear hcd hcd1 hcb hcb1 e2 HF hbI
          go_wp2_with fail
          refine (HSz.out _).mono ?_; rintro e w3 ⟨rfl, e3⟩
          have E3 := E2.out.t e3
          obtain ⟨d0, d1, d2, d3, d4⟩ := (HbI.out.ext e3).ins
          have hcb3 := (Hbx.out.ext E3).cell0
          rw [← HN.out, ← HC.out] at hcb3
          have hyy : YieldAt Fence.wide 8 Try.prog l #[.agg #[.int .u8 0, .int .u8 0, .int .u8 0, .int .u8 0, .int .i64 0], .int .i64 144] w3 (CyP (J (o + so)) X Bx 144 (.slice (some ⟨bk, off, none⟩) (n - o) (c - o))) := HY'.out _ _ hlt (HE.out _ _ _ Hj.out E3) (Hbx.out.ext E3)
          obtain ⟨fn, tmps, assign, body, hy, hRn⟩ := hyy
          have HRn := Lib.hid hRn
          clear hRn E3 E2 e3 HY' HSz hcd2 hcb2 HbI
          change w3.cell? _ = some (.int .u8 0) at d0
          change w3.cell? _ = some (.int .u8 0) at d1
          change w3.cell? _ = some (.int .u8 0) at d2
          change w3.cell? _ = some (.int .u8 0) at d3
          change w3.cell? _ = some (.int .i64 0) at d4
          go_upto_region 9 with fail
          refine (wpIn_wide (n := 9)).1 ?_
          gi_wp2
          refine HRn.out.mono ?_
          rintro e W' (⟨rfl, he, hJ', hB'⟩ | ⟨rfl, hX'⟩)
          · cases he
          · gi_wp2
            go_wp2_with fail
            refine bodyPost_ret (results_none rfl _ _ _) rfl ?_
            exact ⟨⟨_, rfl⟩, .inr hX'⟩
        · obtain ⟨ys, hys⟩ : ∃ ys, ys = t.take (szOp op - 1) := ⟨_, rfl⟩
          have hrs : rdS (op :: t) = (if oneF (rdI op ys) = 0 then rdI op ys else ins0, oneF (rdI op ys), szOp op) := by
            rw [rdS_cons, if_neg hok, if_neg (by omega), ← hys]
            by_cases h1 : oneF (rdI op ys) = 0
            · rw [if_pos h1, if_pos h1, h1]
            · rw [if_neg h1, if_neg h1]
          have hrdt : Rd u8v w (some ⟨bk, off, none⟩) (szOp op) (op :: ys) := by
            have h1 := Hrd.out.take (k := szOp op) (by have := HN.out; omega)
            rw [hdr, show szOp op = szOp op - 1 + 1 by omega, List.take_succ_cons, ← hys] at h1
            rw [show szOp op = szOp op - 1 + 1 by omega]
            exact h1
          have hysl : ∀ y ∈ ys, y < 256 := fun y hy => Hb.out y (List.mem_of_mem_drop (by rw [hdr]; rw [hys] at hy; exact List.mem_cons_of_mem _ (List.mem_of_mem_take hy) : y ∈ b.drop o))
          have hsoC : szOp op ≤ C := by omega
          have HRead := Lib.hid (fun w' (e : Ext w w') => read_ (some ⟨bk, off, none⟩) C op ys w' (hrdt.ext e) hop hysl hsoC)
          unfold RdPost at HRead
          have hszI : (szOp op : Int) ≤ (N : Int) := by omega
          have Hdrop := Lib.hid (Hrd.out.from_ (k := szOp op) (c := c - o) (by have := HN.out; omega) (by have := HN.out; have := HC.out; omega))
          rw [List.drop_drop] at Hdrop
          have hto := fun w' => u8_toI (A := some ⟨bk, off, none⟩) (n := N) (c := C) (hi := szOp op) (li := (szOp op : Int)) w' rfl hsoC
          have hfr := fun w' => u8_fromI (A := some ⟨bk, off, none⟩) (n := N) (c := C) (k := szOp op) (li := (szOp op : Int)) w' rfl (by omega)
          rw [hrs] at hY'
          have HY' := Lib.hid hY'
          have Hso : Hid (1 ≤ szOp op ∧ szOp op ≤ N) := Lib.hid ⟨hs12.1, by omega⟩
          generalize (if oneF (rdI op ys) = 0 then rdI op ys else ins0) = qq at *
          generalize oneF (rdI op ys) = er at *
          generalize szOp op = so at *
          clear hY' hrs hok hok' hd hdr hdl hsz hys hrdt hysl
          go_wp2_with fail
          refine (HF.out _).mono ?_; rintro e w2 ⟨rfl, e2⟩
          have hbI := (Blk.new wr 38 (insC ins0).toArray).ext e2
          have E2 := Lib.hid ((Ext.alloc wr (.cells (insC ins0).toArray 38)).t e2)
          have HbI := Lib.hid hbI
          have hcd2 := (e2.cell (p := ⟨bk, off, none⟩) (by simp; omega)).trans (hcd1 _)
          have hcb2 := (Hbx.out.ext E2.out).cell0
          rw [← HN.out, ← HC.out] at hcb2
          clear hcd hcd1 hcb hcb1 e2 HF hbI
          go_wp2_with fail
          refine (HSz.out _).mono ?_; rintro e w3 ⟨rfl, e3⟩
          have E3 := Lib.hid (E2.out.t e3)
          have HbI3 := Lib.hid (HbI.out.ext e3)
          have hcb3 := (Hbx.out.ext E3.out).cell0
          rw [← HN.out, ← HC.out] at hcb3
          clear E2 e3 HSz hcd2 hcb2 HbI
          go_wp2_with fail
          refine (HRead.out _ ((HJ.out _ _ Hj.out).t E3.out)).mono ?_; rintro e w4 ⟨rfl, e4⟩
          have hb4 := HbI3.out.ext e4
          obtain ⟨r0, r1, r2, r3, r4⟩ := hb4.ins
          have hf0 := hb4.frozen 0
          have hf1 := hb4.frozen 1
          have hf2 := hb4.frozen 2
          have hf3 := hb4.frozen 3
          have hf4 := hb4.frozen 4
          have HB4 := Lib.hid hb4
          have E4 := Lib.hid (E3.out.t e4)
          clear E3 e4 HRead hcb3 HbI3 hb4
          unfold insV
          go_upto_region 9 with fail
          obtain ⟨W5, hW5⟩ : ∃ W5, W5 = five w4 wr.heap.size qq := ⟨_, rfl⟩
          have hb5 : Blk W5 wr.heap.size 38 (insC qq).toArray := by rw [hW5]; exact five_blk HB4.out qq
          have E5 : Ext wr W5 := by rw [hW5]; exact five_ext E4.out (Nat.le_refl _) qq
          unfold five at hW5
          rw [← hW5]
          obtain ⟨d0, d1, d2, d3, d4⟩ := hb5.ins
          have hyy := HY'.out _ _ hlt (HE.out _ _ _ Hj.out E5) (Hbx.out.ext E5)
          unfold insV at hyy
          obtain ⟨fn, tmps, assign, body, hy, hRn⟩ := hyy
          have HRn := Lib.hid hRn
          clear hRn hb5 E5 HY' hW5 r0 r1 r2 r3 r4 hf0 hf1 hf2 hf3 hf4 HB4 E4
          refine (wpIn_wide (n := 9)).1 ?_
          gi_wp2
          refine HRn.out.mono ?_
          rintro e W' (⟨rfl, he, hJ', hB'⟩ | ⟨rfl, hX'⟩)
          · subst he
            have hcb6 := hB'.cell0
            rw [← HN.out, ← HC.out] at hcb6
            have hfb6 := hB'.frozen 0
            have HJ' := Lib.hid hJ'
            have HB' := Lib.hid hB'
            clear hJ' hB' hy
            gi_wp2
            go_wp2_with fail
            go_roundg (n - (o + so))
            case rel =>
              refine ⟨o + so, from_ (some ⟨bk, off, none⟩) C so, Lib.hid ⟨by have := HN.out; have := Hso.out; omega, rfl, ?_, ?_, HS.out _ _ _ HJ'.out⟩⟩
              · have h1 := HB'.out.set0 (.slice (from_ (some ⟨bk, off, none⟩) C so) (N - so) (C - so))
                have e1 : n - (o + so) = N - so := by have := HN.out; omega
                have e2 : c - (o + so) = C - so := by have := HC.out; omega
                rw [e1, e2]
                exact h1
              · have h1 := Hdrop.out
                rw [← HC.out] at h1
                have e1 : n - (o + so) = n - o - so := by omega
                rw [e1]
                exact h1
            case measure =>
              have := Hk.out; have := HN.out; have := Hso.out; omega
          · gi_wp2
            go_wp2_with fail
            refine bodyPost_ret (results_none rfl _ _ _) rfl ?_
            exact ⟨⟨_, rfl⟩, .inr hX'⟩
    · obtain rfl : N = 0 := by omega
      have hno : n = o := by have := HN.out; have := Ho.out; omega
      go_wp2_with fail
      try refine bodyPost_ret (results_none rfl _ _ _) rfl ?_
      exact ⟨⟨_, rfl⟩, .inl (by rw [hno]; exact Hj.out)⟩
end Go.Proofs.Ytiakcehhegippaa
