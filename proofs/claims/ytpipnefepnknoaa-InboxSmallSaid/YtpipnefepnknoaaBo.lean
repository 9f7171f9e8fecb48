/- An inbox and the reference's state side by side. -/
import Derived.Test.YtpipnefepnknoaaSame
import Derived.Lib.SliceRun
namespace Go.Proofs.Ytpipnefepnknoaa
open Go.RowKit Go.Fx
theorem onL_flag : ∀ (ws : List (List Nat)) (st : St) (out : List (List Nat)), Flag st → Flag (onL ws st out).1
  | [], _, _, h => h
  | f :: fs, st, out, _ => by
    rw [onL_cons]
    by_cases h0 : needs f = 0
    · rw [if_pos h0]
      exact onL_flag fs (stDone st f fs) _ (by show false = decide (0 < 0); rfl)
    · rw [if_neg h0]; exact flag_pend h0
theorem on_flag (st : St) (out : List (List Nat)) (h : Flag st) : Flag (on st out).1 := by
  unfold on
  split
  · exact h
  · exact onL_flag _ _ _ h
theorem put_flag (st : St) (f : List Nat) (h : Flag st) : Flag (putF st f).1 := on_flag _ _ h
theorem turn_flag (st : St) (h : Flag st) : Flag (turnF st).1 := by
  unfold turnF
  by_cases hp : st.pend = true
  · rw [if_pos hp]
    by_cases h0 : st.left - 1 = 0
    · rw [if_pos h0]
      refine on_flag _ _ ?_
      show false = decide (0 < st.left - 1)
      rw [h0]; rfl
    · rw [if_neg h0]
      show st.pend = decide (0 < st.left - 1)
      rw [hp]
      exact (decide_eq_true (by omega)).symm
  · rw [if_neg hp]; exact h
/-- An inbox, and the reference's state in a variable of its own. -/
structure Bo (w0 w : World) (ib rb : Nat) (L : Lay) (W P : Sl) (pn : Int) (fs : List Fr) (st : St) : Prop where
  sys : Sys w0 w ib L st
  ref : RefOk w0 w W P fs st
  blk : Blk w rb 69 (refC W P pn st.left st.put st.ans st.turns st.idle)
  flag : Flag st
  rb1 : ¬ boxF ib L rb
  rb2 : w0.heap.size ≤ rb
  row : ∀ j, rowF W.A W.n j → j ≠ rb ∧ ¬ boxF ib L j ∧ w0.heap.size ≤ j
section
variable {w0 w w1 : World} {ib rb : Nat} {L L1 : Lay} {W P W2 P2 : Sl} {pn pn2 : Int} {fs fs2 : List Fr} {st : St}
theorem Bo.chg {T : Nat → Prop} (h : Bo w0 w ib rb L W P pn fs st) (ch : Chg T w w1) (hT : ∀ j, T j → ¬ boxF ib L j ∧ j ≠ rb ∧ ¬ rowF W.A W.n j ∧ w0.heap.size ≤ j) : Bo w0 w1 ib rb L W P pn fs st :=
  ⟨h.sys.chg ch (fun j hj => ⟨(hT j hj).1, (hT j hj).2.2.2⟩), h.ref.chg ch (fun j hj ht => (hT j ht).2.2.1 hj), h.blk.chg ch (fun ht => (hT rb ht).2.1 rfl), h.flag, h.rb1, h.rb2, h.row⟩
theorem Bo.ext (h : Bo w0 w ib rb L W P pn fs st) (e : Ext w w1) : Bo w0 w1 ib rb L W P pn fs st := h.chg (T := fun _ => False) (Chg.ofExt e) (fun _ t => t.elim)
theorem Bo.rlt (h : Bo w0 w ib rb L W P pn fs st) {j : Nat} (hj : rowF W.A W.n j) : j < w.heap.size := frl_lt h.ref.frl hj
/-- Both have gone on. -/
theorem Bo.next {res : St × List (List Nat)} {e : Ending} {Ag : Option Addr} {ng cg : Nat} {osg : List Sl} {w2 w3 w4 : World} (h : Bo w0 w ib rb L W P pn fs st) (got : Got w0 w ib L res e w1 L1 Ag ng cg osg) (hr : RefOk w0 w2 W2 P2 fs2 res.1) (e2 : Ext w1 w2) (e3 : Ext w2 w3)
    (hw : ∀ k, rowF W2.A W2.n k → rowF W.A W.n k ∨ w1.heap.size ≤ k) (hb : Blk w4 rb 69 (refC W2 P2 pn2 res.1.left res.1.put res.1.ans res.1.turns res.1.idle)) (hc : Chg (fun k => k = rb) w3 w4) (hf : Flag res.1) :
    Bo w0 w4 ib rb L1 W2 P2 pn2 fs2 res.1 := by
  have hrb := h.blk.lt
  have hz := got.step.chg.size
  have hn : ¬ boxF ib L1 rb := fun h1 => (got.step.nb rb h1).elim h.rb1 (fun h2 => by omega)
  have hne : ∀ k, rowF W2.A W2.n k → k ≠ rb := fun k hk => (hw k hk).elim (fun h1 => (h.row k h1).1) (fun h1 => by omega)
  have hz0 := h.sys.below.size
  refine ⟨(got.sys.ext (e2.t e3)).chg hc (fun k hk => by subst hk; exact ⟨hn, h.rb2⟩), (hr.ext e3).chg hc (fun k hk e => hne k hk e), hb, hf, hn, h.rb2, fun j hj => ⟨hne j hj, fun hbx => ?_, ?_⟩⟩
  · rcases hw j hj with h1 | h1
    · exact (got.step.nb j hbx).elim (h.row j h1).2.1 (fun h2 => by have := h.rlt h1; omega)
    · have := got.sys.box.lt hbx; omega
  · rcases hw j hj with h1 | h1
    · exact (h.row j h1).2.2
    · omega
/-- What the responses lie in, neither of them holds. -/
theorem Bo.outs {res : St × List (List Nat)} {e : Ending} {Ag : Option Addr} {ng cg : Nat} {osg : List Sl} (h : Bo w0 w ib rb L W P pn fs st) (got : Got w0 w ib L res e w1 L1 Ag ng cg osg) (hw : ∀ k, rowF W2.A W2.n k → rowF W.A W.n k ∨ w1.heap.size ≤ k) :
    ∀ j, foots osg j → ¬ boxF ib L1 j ∧ j ≠ rb ∧ ¬ rowF W2.A W2.n j ∧ w0.heap.size ≤ j := fun j hj => by
  have h1 := got.new j (.inr hj)
  have h2 := Byts.lt got.resp.byt hj
  have h3 := h.blk.lt
  have h4 := h.sys.below.size
  exact ⟨got.resp.no j hj, by omega, fun h5 => (hw j h5).elim (fun h6 => by have := h.rlt h6; omega) (fun h6 => by omega), by omega⟩
end
/-- clear, of a slice of bytes. -/
theorem clear_run (w : World) (s : Sl) (vs : List Value) (h : Room w s.A s.n s.c vs) : ∃ W', (∀ ty, (Builtin.clear_ #[29] ty #[.slice s.A s.n s.c]).run Try.prog w = .ok (.tuple #[]) W') ∧ Chg (foot s.A s.c) w W' := by
  by_cases hn : s.n = 0
  · refine ⟨w, fun ty => ?_, Chg.refl _ _⟩
    rw [hn]
    cases hA : s.A with
    | none => simp [Builtin.clear_, run_underlying ul_u8]
    | some a => simp [Builtin.clear_, run_underlying ul_u8]
  · have hc := h.2.1
    obtain ⟨g, o, hA, _⟩ := h.some_ (by omega)
    rw [hA] at h ⊢
    have hi : ∀ j, j < s.n → (w.cell? ⟨g, o + j, none⟩).isSome = true := fun j hj => by
      rw [h.cellAt (k := j) (List.getElem?_eq_getElem (by rw [h.1]; exact hj))]; rfl
    exact ⟨_, fun ty => Lib.run_clear_slice w _ _ ty (.int .u8 0) ul_u8 (fun w => by kernel_rfl) rfl rfl g o s.n s.c (by omega) hi (fun j hj => h.frozenAt (by omega)), chg_setCells w g o _ ⟨by omega, o, rfl⟩⟩
end Go.Proofs.Ytpipnefepnknoaa
