/- An inbox among other memory: what a statement carries on from call to call. -/
import Derived.Test.YtpipnefepnknoaaIbF
namespace Go.Proofs.Ytpipnefepnknoaa
open Go.RowKit Go.Fx
def lay0 (sv : Nat) : Lay := ⟨sv, ⟨none, 0, 0⟩, ⟨none, 0, 0⟩, ⟨none, 0, 0⟩, ⟨none, 0, 0⟩, []⟩
def st0 : St := ⟨[], false, [], 0, [], 0, 0, 0, 0⟩
/-- An inbox in a world; w0: where the statement began. -/
structure Sys (w0 w : World) (ib : Nat) (L : Lay) (st : St) : Prop where
  box : Box w ib L st
  below : Below w0.heap.size w0 w
  ge : ∀ k, boxF ib L k → w0.heap.size ≤ k
/-- A call of the inbox: its own blocks may have turned. -/
structure Step (w : World) (ib : Nat) (L : Lay) (w' : World) (L' : Lay) : Prop where
  chg : Chg (boxF ib L) w w'
  nb : ∀ k, boxF ib L' k → boxF ib L k ∨ w.heap.size ≤ k
/-- A list of responses that the inbox has nothing of. -/
structure Resp (B : Nat) (w : World) (ib : Nat) (L : Lay) (A : Option Addr) (n c : Nat) (os : List Sl) (xss : List (List Nat)) : Prop where
  len : os.length = n
  room : Room w A n c (os.map slv)
  byt : Byts w os xss
  na : ∀ k, foot A c k → ¬ boxF ib L k
  no : ∀ k, foots os k → ¬ boxF ib L k
  sep : ∀ k, foots os k → ¬ foot A c k
  base : ∀ k, foot A c k → B ≤ k
section
variable {B : Nat} {w0 w w' w'' : World} {ib : Nat} {L L' L'' : Lay} {st : St} {A : Option Addr} {n c : Nat} {os : List Sl} {xss : List (List Nat)}
theorem Sys.ext (h : Sys w0 w ib L st) (e : Ext w w') : Sys w0 w' ib L st := ⟨h.box.ext e, h.below.ext e h.below.size, h.ge⟩
theorem Step.refl : Step w ib L w L := ⟨Chg.refl _ _, fun _ h => .inl h⟩
theorem Step.t (h : Step w ib L w' L') (h' : Step w' ib L' w'' L'') : Step w ib L w'' L'' :=
  ⟨h.chg.trans h'.chg (fun k hk hk2 => (h.nb k hk2).elim id (fun h1 => by omega)), fun k hk => (h'.nb k hk).elim (h.nb k) (fun h1 => .inr (Nat.le_trans h.chg.size h1))⟩
theorem Step.e (h : Step w ib L w' L') (e : Ext w' w'') : Step w ib L w'' L' := ⟨h.chg.e e, h.nb⟩
theorem Resp.ext (h : Resp B w ib L A n c os xss) (e : Ext w w') : Resp B w' ib L A n c os xss := ⟨h.len, h.room.ext e, h.byt.ext e, h.na, h.no, h.sep, h.base⟩
theorem Resp.step (h : Resp B w ib L A n c os xss) (s : Step w ib L w' L') : Resp B w' ib L' A n c os xss :=
  ⟨h.len, h.room.chg s.chg h.na, h.byt.chg s.chg h.no, fun k hk hk2 => (s.nb k hk2).elim (h.na k hk) (fun h1 => by have := h.room.lt hk; omega), fun k hk hk2 => (s.nb k hk2).elim (h.no k hk) (fun h1 => by have := Byts.lt h.byt hk; omega), h.sep, h.base⟩
theorem Sys.step (h : Sys w0 w ib L st) {st' : St} (s : Step w ib L w' L') (hb : Box w' ib L' st') : Sys w0 w' ib L' st' :=
  ⟨hb, h.below.trans (s.chg.below h.below.size (fun k hk hk2 => by have := h.ge k hk2; omega)), fun k hk => (s.nb k hk).elim (h.ge k) (fun h1 => Nat.le_trans h.below.size h1)⟩
theorem Resp.rd (h : Resp B w ib L A n c os xss) : Rd slv w A n os := Room.rd h.room
theorem Resp.n_ (h : Resp B w ib L A n c os xss) : n = xss.length := by rw [← h.len, h.byt.len]
theorem Resp.le (h : Resp B w ib L A n c os xss) : n ≤ maxLen := Nat.le_trans h.room.2.1 h.room.2.2.1
end
theorem Sys.chg {w0 w w' : World} {ib : Nat} {L : Lay} {st : St} {T : Nat → Prop} (h : Sys w0 w ib L st) (c : Chg T w w') (hT : ∀ k, T k → ¬ boxF ib L k ∧ w0.heap.size ≤ k) : Sys w0 w' ib L st :=
  ⟨h.box.chg c (fun k hk hk2 => (hT k hk2).1 hk), h.below.trans (c.below h.below.size (fun k hk hk2 => by have := (hT k hk2).2; omega)), h.ge⟩
/-- Responses are put behind others. -/
theorem Resp.append {B : Nat} {w w' : World} {ib : Nat} {L : Lay} {A A' : Option Addr} {n c n2 c' : Nat} {os os2 : List Sl} {xss xss2 : List (List Nat)} (h : Resp B w ib L A n c os xss) (hB : B ≤ w.heap.size) (h2 : Byts w os2 xss2) (hl : os2.length = n2) (hn : ∀ k, foots os2 k → ¬ boxF ib L k ∧ ¬ foot A c k)
    (hbl : ∀ k, boxF ib L k → k < w.heap.size) (r : Room w' A' (n + n2) c' (os.map slv ++ os2.map slv)) (ch : Chg (foot A c) w w') (ft : ∀ k, foot A' c' k → foot A c k ∨ w.heap.size ≤ k) : Resp B w' ib L A' (n + n2) c' (os ++ os2) (xss ++ xss2) := by
  have lt : ∀ k, foots (os ++ os2) k → k < w.heap.size := fun k hk => (foots_append.1 hk).elim (Byts.lt h.byt) (Byts.lt h2)
  have nf : ∀ k, foots (os ++ os2) k → ¬ foot A c k := fun k hk => (foots_append.1 hk).elim (h.sep k) (fun h1 => (hn k h1).2)
  refine ⟨by rw [List.length_append, h.len, hl], by rw [List.map_append]; exact r, (h.byt.append h2).chg ch nf, fun k hk hk2 => ?_, fun k hk => (foots_append.1 hk).elim (h.no k) (fun h1 => (hn k h1).1), fun k hk hk2 => ?_, fun k hk => ?_⟩
  · rcases ft k hk with h1 | h1
    · exact h.na k h1 hk2
    · have := hbl k hk2; omega
  · rcases ft k hk2 with h1 | h1
    · exact nf k hk h1
    · have := lt k hk; omega
  · rcases ft k hk with h1 | h1
    · exact h.base k h1
    · omega
/-- What Put and Turn leave. -/
structure Got (w0 w : World) (ib : Nat) (L : Lay) (res : St × List (List Nat)) (e : Ending) (w' : World) (L' : Lay) (A : Option Addr) (n c : Nat) (os : List Sl) : Prop where
  ret : e = .returned (.tuple #[.slice A n c, .int .i64 0])
  sys : Sys w0 w' ib L' res.1
  step : Step w ib L w' L'
  resp : Resp w0.heap.size w' ib L' A n c os res.2
  new : ∀ k, foot A c k ∨ foots os k → w.heap.size ≤ k
  sv : L'.sv = L.sv
  ap : Apart os
def GotP (w0 w : World) (ib : Nat) (L : Lay) (res : St × List (List Nat)) (e : Ending) (w' : World) : Prop := ∃ L' A n c os, Got w0 w ib L res e w' L' A n c os
theorem got_of {w0 w : World} {ib : Nat} {L : Lay} {st : St} {res : St × List (List Nat)} {e : Ending} {w' : World} (h : Sys w0 w ib L st) (hr : ReplyP w ib L res e w') : GotP w0 w ib L res e w' := by
  obtain ⟨L', A, c, os, hr⟩ := hr
  have s : Step w ib L w' L' := ⟨hr.chg, hr.nb⟩
  exact ⟨L', A, os.length, c, os, hr.ret, h.step s hr.box, s, ⟨rfl, hr.room, hr.outs, fun k hk => (hr.na k hk).2, fun k hk => (hr.no k hk).2.1, fun k hk => (hr.no k hk).2.2, fun k hk => Nat.le_trans h.below.size (hr.na k hk).1⟩, fun k hk => hk.elim (fun h => (hr.na k h).1) (fun h => (hr.no k h).1), hr.sv, hr.ap⟩
/-- A state in which a call can be made. -/
structure Good (st : St) (N : Nat) : Prop where
  fine : Fine st N
  pend : st.pend = true → 1 ≤ st.left
  wait : st.wait.length + N < 1000000
theorem sys_Put {w0 w : World} {ib : Nat} {L : Lay} {st : St} (h : Sys w0 w ib L st) {N : Nat} (g : Good st (N + 1)) (Af : Option Addr) (nf cf : Nat) (xs : List Nat) (hx : Rd u8v w Af nf xs) (hlt : ∀ x ∈ xs, x < 256) (hxl : xs.length ≤ 1000000) :
    Calls Try.prog 17 #[.pointer (some ⟨ib, 0, none⟩), .slice Af nf cf] w (GotP w0 w ib L (putF st xs)) :=
  (ib_Put ib L st Af nf cf xs w h.box (g.fine.mono (by omega)) hx hlt hxl (by have := g.wait; omega)).mono fun _ _ hr => got_of h hr
theorem sys_Turn {w0 w : World} {ib : Nat} {L : Lay} {st : St} (h : Sys w0 w ib L st) {N : Nat} (g : Good st (N + 1)) :
    Calls Try.prog 18 #[.pointer (some ⟨ib, 0, none⟩)] w (GotP w0 w ib L (turnF st)) :=
  (ib_Turn ib L st w h.box (g.fine.mono (by omega)) g.pend (by have := g.wait; omega)).mono fun _ _ hr => got_of h hr
theorem sys_new {w0 w w1 w2 : World} {sv : Nat} (hw : Below w0.heap.size w0 w) (e1 : Ext w w1) (hsv : w.heap.size ≤ sv) (b : Blk w1 sv 31 #[.slice none 0 0, .int .i64 0, .slice none 0 0, .slice none 0 0]) (hi : IbBlk w2 w1.heap.size sv false ⟨none, 0, 0⟩ 0 0 0 0) (e2 : Ext w1 w2) :
    Sys w0 w2 w1.heap.size (lay0 sv) st0 := by
  have hlt := b.lt
  have hz := e1.size
  have hz0 := hw.size
  have nosrv : ∀ k, srvF sv ⟨none, 0, 0⟩ ⟨none, 0, 0⟩ ⟨none, 0, 0⟩ k → k = sv := fun k hk => by
    rcases hk with h | h | h | h
    · exact h
    · exact absurd h foot_none
    · exact absurd h foot_none
    · exact absurd h foot_none
  refine ⟨⟨hi, ⟨b.ext e2, ⟨Room.nil, by simp [st0]⟩, ⟨[], Room.nil⟩, ⟨Room.nil, by simp [st0]⟩, fun k hk => absurd hk foot_none, fun k hk => absurd hk foot_none, fun k hk => absurd hk foot_none⟩, Room.nil, Byts.nil, fun hk => ?_, fun k hk => absurd hk foot_none, fun k hk => absurd hk foots_nil, List.Pairwise.nil⟩,
    (hw.ext e1 hz0).ext e2 (by omega), fun k hk => ?_⟩
  · have := nosrv _ hk; omega
  · rcases hk with h | h | h | h
    · omega
    · have := nosrv _ h; omega
    · exact absurd h foot_none
    · exact absurd h foots_nil
theorem good0 (N : Nat) (h : N ≤ 900000) : Good st0 N := ⟨⟨by simp [st0]; omega, by simp [st0]; omega, by simp [st0]; omega, by simp [st0]; omega, by simp [st0]; omega, by simp [st0], by simp [st0], by simp [st0]⟩, by simp [st0], by simp [st0]; omega⟩
theorem onL_good : ∀ (ws : List (List Nat)) (st : St) (out : List (List Nat)) (N : Nat), st.wait = ws → st.pend = false → Good st N → Good (onL ws st out).1 N
  | [], st, out, N, hw, hp, g => by
    have e : ({ st with wait := [] } : St) = st := by rw [← hw]
    show Good { st with wait := [] } N
    rw [e]; exact g
  | f :: fs, st, out, N, hw, hp, g => by
    rw [onL_cons]
    have h1 := g.fine.calls
    have h2 := g.fine.ans
    have h3 := g.wait
    rw [hw] at h1 h2 h3
    simp only [List.length_cons] at h1 h2 h3
    have hf : f.length ≤ 1000000 := g.fine.wait f (by rw [hw]; simp)
    have hfs : ∀ x ∈ fs, x.length ≤ 1000000 := fun x hx => g.fine.wait x (by rw [hw]; simp [hx])
    by_cases h0 : needs f = 0
    · rw [if_pos h0]
      exact onL_good fs (stDone st f fs) _ N rfl rfl ⟨⟨by simp only [stDone, List.length_append, List.length_cons, List.length_nil]; omega, g.fine.put, by simp only [stDone]; omega, g.fine.turns, g.fine.idle, by simp [stDone], hfs, hf⟩, by simp [stDone], by simp only [stDone]; omega⟩
    · rw [if_neg h0]
      have := needs_lt f
      exact ⟨⟨by simp only [stPend, List.length_append, List.length_cons, List.length_nil]; omega, g.fine.put, by simp only [stPend]; omega, g.fine.turns, g.fine.idle, by simp only [stPend]; omega, hfs, hf⟩, fun _ => by simp only [stPend]; omega, by simp only [stPend]; omega⟩
theorem on_good (st : St) (out : List (List Nat)) (N : Nat) (g : Good st N) : Good (on st out).1 N := by
  unfold on
  by_cases hp : st.pend = true
  · rw [if_pos hp]; exact g
  · rw [if_neg hp]; exact onL_good _ st out N rfl (by simpa using hp) g
theorem put_good (st : St) (f : List Nat) (N : Nat) (g : Good st (N + 1)) (hf : f.length ≤ 1000000) : Good (putF st f).1 N :=
  on_good _ _ N ⟨g.fine.put_ hf, g.pend, by have := g.wait; simp; omega⟩
theorem turn_good (st : St) (N : Nat) (g : Good st (N + 1)) : Good (turnF st).1 N := by
  unfold turnF
  by_cases hp : st.pend = true
  · rw [if_pos hp]
    by_cases h0 : st.left - 1 = 0
    · rw [if_pos h0]
      exact on_good _ _ N ⟨g.fine.turn_, by simp, by have := g.wait; simp only [turn1]; omega⟩
    · rw [if_neg h0]
      refine ⟨⟨?_, ?_, ?_, ?_, ?_, ?_, g.fine.wait, g.fine.cur⟩, fun _ => by simp only [turn1]; omega, by have := g.wait; simp only [turn1]; omega⟩
      · have := g.fine.calls; simp only [turn1, List.length_append, List.length_cons, List.length_nil]; omega
      · have := g.fine.put; simp only [turn1]; omega
      · have := g.fine.ans; simp only [turn1]; omega
      · have := g.fine.turns; simp only [turn1]; omega
      · have := g.fine.idle; simp only [turn1]; omega
      · have := g.fine.left; simp only [turn1]; omega
  · rw [if_neg hp]
    exact ⟨⟨by have := g.fine.calls; simp only; omega, by have := g.fine.put; simp only; omega, by have := g.fine.ans; simp only; omega, by have := g.fine.turns; simp only; omega, by have := g.fine.idle; simp only; omega, g.fine.left, g.fine.wait, g.fine.cur⟩, g.pend, by have := g.wait; simp only; omega⟩
theorem Good.mono {st : St} {N M : Nat} (g : Good st N) (h : M ≤ N) : Good st M := ⟨g.fine.mono h, g.pend, by have := g.wait; omega⟩
end Go.Proofs.Ytpipnefepnknoaa
