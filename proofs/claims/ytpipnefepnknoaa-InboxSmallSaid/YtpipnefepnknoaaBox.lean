/- An inbox with its server, as a whole: what it holds, and what it lies in. -/
import Derived.Test.YtpipnefepnknoaaIb
import Derived.Laws.EntriesVeiled
namespace Go.Proofs.Ytpipnefepnknoaa
open Go.RowKit Go.Fx
/-- Where an inbox and its server lie. -/
structure Lay where
  sv : Nat
  F : Sl
  R : Sl
  C : Sl
  Q : Sl
  ss : List Sl
/-- The blocks of an inbox. -/
def boxF (ib : Nat) (L : Lay) (k : Nat) : Prop := k = ib ∨ srvF L.sv L.F L.R L.C k ∨ foot L.Q.A L.Q.c k ∨ foots L.ss k
/-- Slices that share no block. -/
def Apart (ss : List Sl) : Prop := ss.Pairwise (fun a b => ∀ k, foot a.A a.c k → ¬ foot b.A b.c k)
theorem apart_snoc {l : List Sl} {s : Sl} (h : Apart l) (hs : ∀ k, foots l k → ¬ foot s.A s.c k) : Apart (l ++ [s]) := by
  refine List.pairwise_append.2 ⟨h, List.pairwise_singleton _ _, fun a ha b hb k hk => ?_⟩
  simp at hb
  subst hb
  exact hs k ⟨a, ha, hk⟩
structure Box (w : World) (ib : Nat) (L : Lay) (st : St) : Prop where
  blk : IbBlk w ib L.sv st.pend L.Q st.put st.ans st.turns st.idle
  srv : Srv w L.sv L.F L.R L.C st.cur (st.left : Int) st.calls
  que : Room w L.Q.A L.Q.n L.Q.c (L.ss.map slv)
  byt : Byts w L.ss st.wait
  d1 : ¬ srvF L.sv L.F L.R L.C ib
  d2 : ∀ k, foot L.Q.A L.Q.c k → k ≠ ib ∧ ¬ srvF L.sv L.F L.R L.C k
  d3 : ∀ k, foots L.ss k → k ≠ ib ∧ ¬ srvF L.sv L.F L.R L.C k ∧ ¬ foot L.Q.A L.Q.c k
  d4 : Apart L.ss
section
variable {T : Nat → Prop} {w w' : World} {ib : Nat} {L : Lay} {st : St}
theorem Box.chg (h : Box w ib L st) (hc : Chg T w w') (hT : ∀ k, boxF ib L k → ¬ T k) : Box w' ib L st where
  blk := Blk.chg h.blk hc (hT _ (.inl rfl))
  srv := h.srv.chg hc (fun _ hk => hT _ (.inr (.inl hk)))
  que := h.que.chg hc (fun _ hk => hT _ (.inr (.inr (.inl hk))))
  byt := h.byt.chg hc (fun _ hk => hT _ (.inr (.inr (.inr hk))))
  d1 := h.d1
  d2 := h.d2
  d3 := h.d3
  d4 := h.d4
theorem Box.ext (h : Box w ib L st) (e : Ext w w') : Box w' ib L st := h.chg (T := fun _ => False) (Chg.ofExt e) (fun _ _ t => t)
theorem Byts.lt {ss : List Sl} {xss : List (List Nat)} (h : Byts w ss xss) {k : Nat} (hk : foots ss k) : k < w.heap.size := by
  obtain ⟨s, hs, hk⟩ := hk
  obtain ⟨i, hi, rfl⟩ := List.mem_iff_getElem.1 hs
  obtain ⟨xs, _, hb⟩ := h.at_ i _ (List.getElem?_eq_getElem hi)
  exact hb.room.lt hk
theorem Box.lt (h : Box w ib L st) {k : Nat} (hk : boxF ib L k) : k < w.heap.size := by
  rcases hk with rfl | hk | hk | hk
  · exact Blk.lt h.blk
  · exact h.srv.lt hk
  · exact h.que.lt hk
  · exact Byts.lt h.byt hk
theorem Box.qn (h : Box w ib L st) : L.Q.n = st.wait.length := by have := h.que.1; rw [List.length_map, h.byt.len] at this; exact this.symm
end
/-- Sizes at which nothing overflows. -/
structure Fine (st : St) (N : Nat) : Prop where
  calls : st.calls.length + st.wait.length + N ≤ 100000000
  put : st.put + N ≤ 100000000
  ans : st.ans + st.wait.length + N ≤ 100000000
  turns : st.turns + N ≤ 100000000
  idle : st.idle + N ≤ 100000000
  left : st.left ≤ 8
  wait : ∀ f ∈ st.wait, f.length ≤ 1000000
  cur : st.cur.length ≤ 1000000

/-! What an inbox does. -/
def stDone (st : St) (f : List Nat) (fs : List (List Nat)) : St := { st with wait := fs, pend := false, cur := f, left := 0, calls := st.calls ++ [66], ans := st.ans + 1 }
def stPend (st : St) (f : List Nat) (fs : List (List Nat)) : St := { st with wait := fs, pend := true, cur := f, left := needs f, calls := st.calls ++ [98] }
/-- Beginning frames, one behind the other. -/
def onL : List (List Nat) → St → List (List Nat) → St × List (List Nat)
  | [], st, out => ({ st with wait := [] }, out)
  | f :: fs, st, out => if needs f = 0 then onL fs (stDone st f fs) (out ++ [f]) else (stPend st f fs, out)
theorem onL_cons (f : List Nat) (fs : List (List Nat)) (st : St) (out : List (List Nat)) : onL (f :: fs) st out = if needs f = 0 then onL fs (stDone st f fs) (out ++ [f]) else (stPend st f fs, out) := rfl
def on (st : St) (out : List (List Nat)) : St × List (List Nat) := if st.pend then (st, out) else onL st.wait st out

set_option maxHeartbeats 400000 in
theorem ib_begun (ib : Nat) (w : World) : Calls Try.prog 35 #[.pointer (some ⟨ib, 0, none⟩)] w fun e w' =>
    e = .returned (.func (.func 38) #[] #[.pointer (some ⟨w.heap.size, 0, none⟩), .pointer (some ⟨w.heap.size + 1, 0, none⟩)]) ∧
    Blk w' w.heap.size 24 #[.pointer (some ⟨ib, 0, none⟩)] ∧ Blk w' (w.heap.size + 1) 78 #[.func (.func 37) #[] #[.pointer (some ⟨w.heap.size, 0, none⟩)]] ∧ Ext w w' ∧ w'.heap.size = w.heap.size + 2 := by
  go_enter Try.func35, Try.ntmps35
  go_wp2_with fail
  go_ret
  refine ⟨rfl, (Blk.new w _ _).alloc _, ?_, (Ext.alloc _ _).t (Ext.alloc _ _), by simp⟩
  have h := Blk.new (w.alloc (.cells #[.pointer (some ⟨ib, 0, none⟩)] 24)) 78 #[.func (.func 37) #[] #[.pointer (some ⟨w.heap.size, 0, none⟩)]]
  rwa [World.size_alloc] at h
end Go.Proofs.Ytpipnefepnknoaa
