/- An inbox with the list of what it answered, in one; what a call of it, and an append behind it, turn. -/
import Derived.Test.YtpipnefepnknoaaCnt
namespace Go.Proofs.Ytpipnefepnknoaa
open Go.RowKit Go.Fx
/-- An inbox, and the list of what it answered. -/
structure Run (w0 w : World) (ib : Nat) (L : Lay) (A : Option Addr) (n c : Nat) (os : List Sl) (p : St × List (List Nat)) : Prop where
  sys : Sys w0 w ib L p.1
  resp : Resp w0.heap.size w ib L A n c os p.2
  ans : p.2.length = p.1.ans
def runF (ib : Nat) (L : Lay) (A : Option Addr) (c : Nat) (os : List Sl) (k : Nat) : Prop := boxF ib L k ∨ foot A c k ∨ foots os k
structure Went (w : World) (ib : Nat) (L : Lay) (A : Option Addr) (c : Nat) (os : List Sl) (w' : World) (L' : Lay) (A' : Option Addr) (c' : Nat) (os' : List Sl) : Prop where
  chg : Chg (fun k => boxF ib L k ∨ foot A c k) w w'
  nb : ∀ k, boxF ib L' k → boxF ib L k ∨ w.heap.size ≤ k
  nf : ∀ k, foot A' c' k → foot A c k ∨ w.heap.size ≤ k
  no : ∀ k, foots os' k → foots os k ∨ w.heap.size ≤ k
section
variable {w0 w w1 w2 : World} {ib : Nat} {L L1 L2 : Lay} {A A1 A2 : Option Addr} {n c c1 c2 : Nat} {os os1 os2 : List Sl} {p : St × List (List Nat)}
theorem Went.refl : Went w ib L A c os w L A c os := ⟨Chg.refl _ _, fun _ h => .inl h, fun _ h => .inl h, fun _ h => .inl h⟩
theorem Went.t (h : Went w ib L A c os w1 L1 A1 c1 os1) (h' : Went w1 ib L1 A1 c1 os1 w2 L2 A2 c2 os2) : Went w ib L A c os w2 L2 A2 c2 os2 :=
  ⟨h.chg.trans h'.chg (fun k hk hT => hT.elim (fun hb => (h.nb k hb).elim .inl (fun h1 => by omega)) (fun hf => (h.nf k hf).elim .inr (fun h1 => by omega))),
   fun k hk => (h'.nb k hk).elim (h.nb k) (fun h1 => .inr (Nat.le_trans h.chg.size h1)), fun k hk => (h'.nf k hk).elim (h.nf k) (fun h1 => .inr (Nat.le_trans h.chg.size h1)), fun k hk => (h'.no k hk).elim (h.no k) (fun h1 => .inr (Nat.le_trans h.chg.size h1))⟩
theorem Went.ofExt (e : Ext w w1) : Went w ib L A c os w1 L A c os := ⟨Chg.ofExt e, fun _ h => .inl h, fun _ h => .inl h, fun _ h => .inl h⟩
theorem Run.ext (h : Run w0 w ib L A n c os p) (e : Ext w w1) : Run w0 w1 ib L A n c os p := ⟨h.sys.ext e, h.resp.ext e, h.ans⟩
theorem Run.lt (h : Run w0 w ib L A n c os p) {k : Nat} (hk : runF ib L A c os k) : k < w.heap.size := by
  rcases hk with hk | hk | hk
  · exact h.sys.box.lt hk
  · exact h.resp.room.lt hk
  · exact Byts.lt h.resp.byt hk
theorem Run.chg (h : Run w0 w ib L A n c os p) {T : Nat → Prop} (ch : Chg T w w1) (hT : ∀ k, T k → ¬ runF ib L A c os k ∧ w0.heap.size ≤ k) : Run w0 w1 ib L A n c os p :=
  ⟨h.sys.chg ch (fun k hk => ⟨fun h1 => (hT k hk).1 (.inl h1), (hT k hk).2⟩),
   ⟨h.resp.len, h.resp.room.chg ch (fun k hk hk2 => (hT k hk2).1 (.inr (.inl hk))), h.resp.byt.chg ch (fun k hk hk2 => (hT k hk2).1 (.inr (.inr hk))), h.resp.na, h.resp.no, h.resp.sep, h.resp.base⟩, h.ans⟩
theorem Went.sep (h : Went w ib L A c os w1 L1 A1 c1 os1) {G : Nat → Prop} (hG : ∀ k, G k → k < w.heap.size ∧ ¬ runF ib L A c os k) : ∀ k, G k → ¬ runF ib L1 A1 c1 os1 k := fun k hk hk2 => by
  obtain ⟨h1, h2⟩ := hG k hk
  rcases hk2 with h3 | h3 | h3
  · exact (h.nb k h3).elim (fun h4 => h2 (.inl h4)) (fun h4 => by omega)
  · exact (h.nf k h3).elim (fun h4 => h2 (.inr (.inl h4))) (fun h4 => by omega)
  · exact (h.no k h3).elim (fun h4 => h2 (.inr (.inr h4))) (fun h4 => by omega)
theorem run_none {B : Nat} : Resp B w ib L none 0 0 [] [] := ⟨rfl, Room.nil, Byts.nil, fun _ hk => absurd hk foot_none, fun _ hk => absurd hk foots_nil, fun _ hk => absurd hk foots_nil, fun _ hk => absurd hk foot_none⟩
/-- A call, and an append behind it. -/
theorem Run.app {st : St} {outs : List (List Nat)} {res : St × List (List Nat)} {e : Ending} {Ag : Option Addr} {ng cg : Nat} {osg : List Sl} (h : Run w0 w ib L A n c os (st, outs)) (got : Got w0 w ib L res e w1 L1 Ag ng cg osg) (hres : res.2.length + st.ans = res.1.ans)
    (r : Room w2 A2 (n + ng) c2 (os.map slv ++ osg.map slv)) (ch : Chg (foot A c) w1 w2) (ft : ∀ k, foot A2 c2 k → foot A c k ∨ w1.heap.size ≤ k) :
    Run w0 w2 ib L1 A2 (n + ng) c2 (os ++ osg) (res.1, outs ++ res.2) ∧ Went w ib L A c os w2 L1 A2 c2 (os ++ osg) := by
  have hRs := h.resp.step got.step
  have hz := got.step.chg.size
  refine ⟨⟨got.sys.chg ch (fun k hk => ⟨hRs.na k hk, hRs.base k hk⟩), hRs.append got.sys.below.size got.resp.byt got.resp.len (fun k hk => ⟨got.resp.no k hk, fun h1 => ?_⟩) (fun k hk => got.sys.box.lt hk) r ch ft, ?_⟩, ?_, got.step.nb, fun k hk => ?_, fun k hk => ?_⟩
  · have := got.new k (.inr hk); have := h.resp.room.lt h1; omega
  · have := h.ans; simp only [List.length_append] at this ⊢; omega
  · exact (got.step.chg.mono (fun k _ hk => .inl hk)).trans ch (fun k _ hk => .inr hk)
  · exact (ft k hk).imp id (fun h1 => by omega)
  · exact (foots_append.1 hk).imp id (fun h1 => got.new k (.inr h1))
end
/-- What an act leaves. -/
def StepP (w0 w : World) (ib : Nat) (L : Lay) (A : Option Addr) (c : Nat) (os : List Sl) (p : St × List (List Nat)) (N : Nat) (e : Ending) (w' : World) : Prop :=
  ∃ L' A' n' c' os', e = .returned (.slice A' n' c') ∧ Run w0 w' ib L' A' n' c' os' p ∧ Good p.1 N ∧ Went w ib L A c os w' L' A' c' os'
set_option maxRecDepth 100000 in
set_option maxHeartbeats 2000000 in
theorem step_ (w0 w : World) (ib : Nat) (L : Lay) (A : Option Addr) (n c : Nat) (os : List Sl) (st : St) (outs : List (List Nat)) (a : ActN) (s : Sl) (N : Nat) (hr : Run w0 w ib L A n c os (st, outs)) (hg : Good st (N + 10)) (ha : a.1 < 256) (hv : FrameV w0 s a.2) :
    Calls Try.prog 25 #[.pointer (some ⟨ib, 0, none⟩), .agg #[.int .u8 (a.1 : Int), .slice s.A s.n s.c], .slice A n c] w (StepP w0 w ib L A c os (actF (st, outs) a) N) := by
  have HR := Lib.hid hr
  have HG := Lib.hid hg
  have Hv := Lib.hid hv
  clear hr hg hv
  go_enter Try.func25, Try.ntmps25
  go_wp2_with fail
  have hblk : Blk (w.alloc (.cells #[.int .u8 (a.1 : Int), .slice s.A s.n s.c] 47)) w.heap.size 47 #[.int .u8 (a.1 : Int), .slice s.A s.n s.c] := Blk.new w _ _
  have he2 := Ext.alloc w (.cells #[.int .u8 (a.1 : Int), .slice s.A s.n s.c] 47)
  generalize hWg : w.alloc (.cells #[.int .u8 (a.1 : Int), .slice s.A s.n s.c] 47) = W1 at *
  have hg : ¬ boxF ib L w.heap.size ∧ ¬ foot A c w.heap.size := ⟨fun h => by have := HR.out.sys.box.lt h; omega, fun h => by have := HR.out.resp.room.lt h; omega⟩
  obtain ⟨g, hgg⟩ : ∃ g, w.heap.size = g := ⟨_, rfl⟩
  rw [hgg] at hblk hg ⊢
  have H0 : Hid (∃ (L' : Lay) (os' : List Sl), Run w0 W1 ib L' A n c os' (turnsF 0 (st, outs)) ∧ Good (turnsF 0 (st, outs)).1 (N + 10 - 0) ∧ Went w ib L A c os W1 L' A c os' ∧ Blk W1 g 47 #[.int .u8 (a.1 : Int), .slice s.A s.n s.c] ∧ ¬ boxF ib L' g ∧ ¬ foot A c g) := Lib.hid ⟨L, os, HR.out.ext he2, HG.out, Went.ofExt he2, hblk, hg⟩
  have ht10 : (a.1 : Int) % 10 < 10 := by omega
  have c0 : W1.cell? ⟨g, 0, none⟩ = some (.int .u8 (a.1 : Int)) := by rw [hblk.cell]; rfl
  clear hg he2 hWg hgg hblk HR HG
  go_wp2_with fail
  go_loopw [2, 14] (fun v i wr => ∃ (j : Nat) (A' : Option Addr) (n' c' : Nat), j ≤ a.1 % 10 ∧ i = .int .u8 (j : Int) ∧ v = .slice A' n' c' ∧ Hid (∃ (L' : Lay) (os' : List Sl), Run w0 wr ib L' A' n' c' os' (turnsF j (st, outs)) ∧ Good (turnsF j (st, outs)).1 (N + 10 - j) ∧ Went w ib L A c os wr L' A' c' os' ∧ Blk wr g 47 #[.int .u8 (a.1 : Int), .slice s.A s.n s.c] ∧ ¬ boxF ib L' g ∧ ¬ foot A' c' g)) (fun _ i _ => a.1 % 10 - (intOf i).toNat)
  case atStart => exact ⟨0, A, n, c, by omega, rfl, rfl, H0⟩
  case round =>
    clear H0 c0
    obtain ⟨j, A2, n2, c2, hj, rfl, rfl, H⟩ := hrel
    by_cases hjt : j < a.1 % 10
    · have hjt' : (j : Int) < (a.1 : Int) % 10 := by omega
      have hj9 : (j : Int) < 10 := by omega
      obtain ⟨L2, os2, hR, hG, hW, hB, hgb, hgf⟩ := H.out
      have hG1 : Good (turnsF j (st, outs)).1 ((N + 10 - (j + 1)) + 1) := hG.mono (by omega)
      have HT := Lib.hid (sys_Turn hR.sys hG1)
      have hbd : n2 + (turnF (turnsF j (st, outs)).1).2.length ≤ 100000000 := by
        have h1 := turn_ans (turnsF j (st, outs)).1
        have h2 := (turn_good _ _ hG1).fine.ans
        have h3 := hR.resp.n_
        have h4 := hR.ans
        omega
      have Hbd := Lib.hid hbd
      have HG1 := Lib.hid hG1
      have HR2 := Lib.hid hR
      have HW2 := Lib.hid hW
      have HB2 := Lib.hid hB
      have Hg2 := Lib.hid (And.intro hgb hgf)
      clear H hR hG hW hB hgb hgf hbd hG1
      go_wp2_with fail
      refine HT.out.mono ?_
      rintro e w3 ⟨L3, A3, n3, c3, os3, got⟩
      have Hgot := Lib.hid got
      have hret := got.ret
      have hrr := (HR2.out.resp.step got.step).room
      have hrd := got.resp.rd
      have hbd2 : n2 + n3 ≤ 100000000 := by have := Hbd.out; rw [got.resp.n_]; exact this
      clear got
      subst hret
      go_wp2_with (refine wpl_append_at (by rfl) rfl ul_bb info_bb rfl rfl hrr rfl (Src.ofRd ul_bb hrd (fun _ => rfl)) (by simp only [maxLen]; omega) (by omega) ?_)
      intro A4 c4 w4 r4 ch4 ft4; refine Lib.hid ?_
      have hfin : ∃ (L' : Lay) (os' : List Sl), Run w0 w4 ib L' A4 (n2 + n3) c4 os' (turnsF (j + 1) (st, outs)) ∧ Good (turnsF (j + 1) (st, outs)).1 (N + 10 - (j + 1)) ∧ Went w ib L A c os w4 L' A4 c4 os' ∧ Blk w4 g 47 #[.int .u8 (a.1 : Int), .slice s.A s.n s.c] ∧ ¬ boxF ib L' g ∧ ¬ foot A4 c4 g := by
        have got := Hgot.out
        have hz := got.step.chg.size
        have hgl := HB2.out.lt
        obtain ⟨h1, h2⟩ := HR2.out.app got (turn_ans _) r4 ch4 ft4
        refine ⟨L3, os2 ++ os3, h1, turn_good _ _ HG1.out, HW2.out.t h2, (HB2.out.chg got.step.chg Hg2.out.1).chg ch4 Hg2.out.2, fun h3 => ?_, fun h3 => ?_⟩
        · rcases got.step.nb g h3 with h4 | h4
          · exact Hg2.out.1 h4
          · omega
        · rcases ft4 g h3 with h4 | h4
          · exact Hg2.out.2 h4
          · omega
      have Hfin := Lib.hid hfin
      clear hfin r4 ch4 ft4 hrr hrd
      go_wp2_with fail
      go_roundw
      case rel => exact ⟨j + 1, A4, n2 + n3, c4, by omega, by go_num, rfl, Hfin⟩
      case measure => simp [intOf]; omega
    · obtain rfl : j = a.1 % 10 := by omega
      obtain ⟨L2, os2, hR, hG, hW, hB, hgb, hgf⟩ := H.out
      have cg1 : wr.cell? ⟨g, 1, none⟩ = some (.slice s.A s.n s.c) := by rw [hB.cell]; rfl
      have hq := fun w' => run_neq_slice_nil_any (P := Try.prog) w' 29 5 s.A s.n s.c 0 0 ul_u8
      have hGN : Good (turnsF (a.1 % 10) (st, outs)).1 (N + 1) := hG.mono (by omega)
      have hact : actF (st, outs) a = (match putOf a with | none => turnsF (a.1 % 10) (st, outs) | some f => putS (turnsF (a.1 % 10) (st, outs)) f) := rfl
      obtain ⟨q, hq0⟩ : ∃ q, q = turnsF (a.1 % 10) (st, outs) := ⟨_, rfl⟩
      rw [← hq0] at hR hGN hact
      have HR2 := Lib.hid hR
      have HG2 := Lib.hid hGN
      have HW2 := Lib.hid hW
      have Hact := Lib.hid hact
      clear H hR hG hW hB hgb hgf hGN hact hq0
      obtain ⟨tt, fr⟩ := a
      simp only at Hv ha ht10
      have hsame : ∀ (e : putOf (tt, fr) = none), StepP w0 w ib L A c os (actF (st, outs) (tt, fr)) N (.returned (.slice A2 n2 c2)) wr := fun e => by
        rw [Hact.out, e]
        exact ⟨L2, A2, n2, c2, os2, rfl, HR2.out, HG2.out.mono (by omega), HW2.out⟩
      have Hsame := Lib.hid hsame
      clear hsame
      cases fr with
      | none =>
        have hA : s.A = none := Hv.out.1
        rw [hA] at hq cg1
        simp only [Option.isNone_none, Bool.not_true] at hq
        clear hA
        go_wp2_with fail
        go_ret
        exact Hsame.out rfl
      | some xs =>
        obtain ⟨hA, hrd, hx⟩ := Hv.out
        have hi : s.A.isNone = false := by cases hs : s.A with
          | none => exact absurd hs hA
          | some _ => rfl
        rw [hi] at hq
        simp only [Bool.not_false] at hq
        have hsl := hrd.1
        by_cases hx40 : xs.length ≤ 40
        · have hn40 : (s.n : Int) ≤ 40 := by omega
          have Hx40 := Lib.hid hx40
          have HP := Lib.hid (sys_Put HR2.out.sys HG2.out s.A s.n s.c xs (hrd.ext HR2.out.sys.below) hx (by omega))
          have hbd : n2 + (putF q.1 xs).2.length ≤ 100000000 := by
            have h1 := put_ans q.1 xs
            have h2 := (put_good q.1 xs _ HG2.out (by omega)).fine.ans
            have h3 := HR2.out.resp.n_
            have h4 := HR2.out.ans
            omega
          have Hbd := Lib.hid hbd
          clear hA hrd hx hi hsl hx40 hbd
          go_wp2_with fail
          refine HP.out.mono ?_
          rintro e w3 ⟨L3, A3, n3, c3, os3, got⟩
          have Hgot := Lib.hid got
          have hret := got.ret
          have hrr := (HR2.out.resp.step got.step).room
          have hrd := got.resp.rd
          have hbd2 : n2 + n3 ≤ 100000000 := by have := Hbd.out; rw [got.resp.n_]; exact this
          clear got
          subst hret
          go_wp2_with (refine wpl_append_at (by rfl) rfl ul_bb info_bb rfl rfl hrr rfl (Src.ofRd ul_bb hrd (fun _ => rfl)) (by simp only [maxLen]; omega) (by omega) ?_)
          intro A4 c4 w4 r4 ch4 ft4; refine Lib.hid ?_
          have hfin : StepP w0 w ib L A c os (actF (st, outs) (tt, some xs)) N (.returned (.slice A4 (n2 + n3) c4)) w4 := by
            obtain ⟨h1, h2⟩ := HR2.out.app Hgot.out (put_ans _ _) r4 ch4 ft4
            have e1 : putOf (tt, some xs) = some xs := by show (if xs.length ≤ 40 then some xs else none) = some xs; rw [if_pos Hx40.out]
            rw [Hact.out, e1]
            exact ⟨L3, A4, n2 + n3, c4, os2 ++ os3, rfl, h1, put_good _ _ _ HG2.out (by have := Hx40.out; omega), HW2.out.t h2⟩
          have Hfin := Lib.hid hfin
          clear hfin r4 ch4 ft4 hrr hrd
          go_wp2_with fail
          go_ret
          exact Hfin.out
        · have hn40 : ¬ (s.n : Int) ≤ 40 := by omega
          have He : Hid (putOf (tt, some xs) = none) := Lib.hid (by show (if xs.length ≤ 40 then some xs else none) = none; rw [if_neg hx40])
          clear hA hrd hx hi hsl hx40
          go_wp2_with fail
          go_ret
          exact Hsame.out He.out
end Go.Proofs.Ytpipnefepnknoaa
