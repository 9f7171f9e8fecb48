/- Lst: a new list of new slices of bytes, none of which shares a block with another; appending inside a range's round. -/
import Derived.Test.YtippgnbmilnjbaaFBas
import Derived.Test.YtippgnbmilnjbaaRange
namespace Go.Fx
open Go.RowKit Go.Proofs
/-- Slices that share no block. -/
def Apart (ss : List Sl) : Prop := ss.Pairwise (fun a b => ∀ k, foot a.A a.c k → ¬ foot b.A b.c k)
theorem apart_snoc {l : List Sl} {s : Sl} (h : Apart l) (hs : ∀ k, foots l k → ¬ foot s.A s.c k) : Apart (l ++ [s]) := by
  refine List.pairwise_append.2 ⟨h, List.pairwise_singleton _ _, fun a ha b hb k hk => ?_⟩
  simp at hb
  subst hb
  exact hs k ⟨a, ha, hk⟩
theorem apart_cons {s : Sl} {l : List Sl} (h : Apart (s :: l)) : (∀ k, foot s.A s.c k → ¬ foots l k) ∧ Apart l := by
  obtain ⟨h1, h2⟩ := List.pairwise_cons.1 h
  exact ⟨fun k hk ⟨b, hb, hk2⟩ => h1 b hb k hk hk2, h2⟩
theorem Byts.lt {w : World} {ss : List Sl} {xss : List (List Nat)} (h : Byts w ss xss) {k : Nat} (hk : foots ss k) : k < w.heap.size := by
  obtain ⟨s, hs, hk⟩ := hk
  obtain ⟨i, hi, rfl⟩ := List.mem_iff_getElem.1 hs
  obtain ⟨xs, _, hb⟩ := h.at_ i _ (List.getElem?_eq_getElem hi)
  exact hb.room.lt hk
/-- A list of slices; all of it lies in blocks from B on. -/
structure Lst (B : Nat) (w : World) (A : Option Addr) (n c : Nat) (os : List Sl) (xss : List (List Nat)) : Prop where
  room : Room w A n c (os.map slv)
  byt : Byts w os xss
  len : os.length = n
  sep : ∀ k, foots os k → ¬ foot A c k
  ap : Apart os
  new : ∀ k, foot A c k ∨ foots os k → B ≤ k
section
variable {B B' : Nat} {w w' w1 w2 : World} {A A' : Option Addr} {n c c' : Nat} {os : List Sl} {xss : List (List Nat)} {T : Nat → Prop}
theorem Lst.nil : Lst B w none 0 0 [] [] := ⟨Room.nil, Byts.nil, rfl, fun _ hk => absurd hk foots_nil, List.Pairwise.nil, fun _ hk => hk.elim (fun h => absurd h foot_none) (fun h => absurd h foots_nil)⟩
theorem Lst.chg (h : Lst B w A n c os xss) (ch : Chg T w w') (hT : ∀ k, foot A c k ∨ foots os k → ¬ T k) : Lst B w' A n c os xss :=
  ⟨h.room.chg ch (fun k hk => hT k (.inl hk)), h.byt.chg ch (fun k hk => hT k (.inr hk)), h.len, h.sep, h.ap, h.new⟩
theorem Lst.ext (h : Lst B w A n c os xss) (e : Ext w w') : Lst B w' A n c os xss := h.chg (T := fun _ => False) (Chg.ofExt e) (fun _ _ t => t)
theorem Lst.lt (h : Lst B w A n c os xss) {k : Nat} (hk : foot A c k ∨ foots os k) : k < w.heap.size := hk.elim (fun h1 => h.room.lt h1) (fun h1 => Byts.lt h.byt h1)
theorem Lst.down (h : Lst B w A n c os xss) (hB : B' ≤ B) : Lst B' w A n c os xss := ⟨h.room, h.byt, h.len, h.sep, h.ap, fun k hk => Nat.le_trans hB (h.new k hk)⟩
theorem Lst.rd (h : Lst B w A n c os xss) : Rd slv w A n os := h.room.rd
theorem Lst.n_ (h : Lst B w A n c os xss) : n = xss.length := by rw [← h.len, h.byt.len]
theorem Lst.le (h : Lst B w A n c os xss) : n ≤ maxLen := Nat.le_trans h.room.2.1 h.room.2.2.1
/-- A new slice is put behind. -/
theorem Lst.push {s : Sl} {x : List Nat} (h : Lst B w A n c os xss) (hB : B ≤ w.heap.size) (hb : Byt w s x) (hs : ∀ k, foot s.A s.c k → B ≤ k ∧ ¬ foot A c k ∧ ¬ foots os k) (e1 : Ext w w1)
    (r : Room w2 A' (n + 1) c' (os.map slv ++ [slv s])) (ch : Chg (foot A c) w1 w2) (ft : ∀ k, foot A' c' k → foot A c k ∨ w1.heap.size ≤ k) : Lst B w2 A' (n + 1) c' (os ++ [s]) (xss ++ [x]) := by
  have hz := e1.size
  have hlt : ∀ k, foots (os ++ [s]) k → k < w.heap.size := fun k hk => (foots_append.1 hk).elim (fun h1 => Byts.lt h.byt h1) (fun h1 => hb.room.lt (foots_one.1 h1))
  have hno : ∀ k, foots (os ++ [s]) k → ¬ foot A c k := fun k hk => (foots_append.1 hk).elim (h.sep k) (fun h1 => (hs k (foots_one.1 h1)).2.1)
  refine ⟨by rw [List.map_append]; exact r, ((h.byt.snoc hb).ext e1).chg ch hno, by rw [List.length_append, h.len]; rfl, fun k hk hk2 => ?_, apart_snoc h.ap (fun k h1 h2 => (hs k h2).2.2 h1), fun k hk => ?_⟩
  · rcases ft k hk2 with h1 | h1
    · exact hno k hk h1
    · have := hlt k hk; omega
  · rcases hk with hk | hk
    · rcases ft k hk with h1 | h1
      · exact h.new k (.inl h1)
      · omega
    · rcases foots_append.1 hk with h1 | h1
      · exact h.new k (.inr h1)
      · exact (hs k (foots_one.1 h1)).1
end
theorem wpListIn_append_at {F : Fence} {k : Nat} {P : Program} (w : World) {ops : Array Oper} {rest : List Oper} {o : Oper} {a : Act} {Q : Exit → Act → World → Prop} (hgd : o.guard = none) {s x : Operand} {t e : TypeId} {z : Value} {bytes : Nat} {A : Option Addr} {n c : Nat} {xs : List Value} {v : Value} {m : Nat} {news : List Value}
    (ho : o.op = .call { callee := .builtin .append, args := #[s, x], argTypes := #[t, t] })
    (ht : P.underlying t = some (.slice e)) (hi : (P.info? e).map (fun i => (i.zero, i.size, i.bytes)) = some (some z, 1, bytes)) (hzs : z.cells.size = 1)
    (hs : a.eval s = .slice A n c) (hr : Room w A n c xs) (hx : a.eval x = v) (hsrc : Src P 1 t v m news w) (h63 : n + m ≤ maxLen) (hbytes : (n + m) * bytes ≤ 140737488355328)
    (h : ∀ A' c' w', Room w' A' (n + m) c' (xs ++ news) → Chg (foot A c) w w' → (∀ k, foot A' c' k → foot A c k ∨ w.heap.size ≤ k) → wpListIn F k P ops Q rest (a.put o.dst (.slice A' (n + m) c')) w') : wpListIn F k P ops Q (o :: rest) a w := by
  refine wpListIn_plain hgd fun K hK' => ?_
  obtain ⟨A', c', w', hrun, h1, h2, h3⟩ := run_append_at (P := P) w t t o.type e z bytes ht hi hzs A n c xs hr v m news hsrc h63 hbytes
  unfold Oper.wpIn
  refine ⟨?_, ?_⟩
  · simp [Oper.about, ho, resolve, Target.leads, Sem.run_pure]
  · rw [Oper.semAt_plain F _ _ (by rw [ho]; intro c hc'; cases hc')]
    simp [execOp, ho, resolve, invoke, builtin, hs, hx, hrun, Result.andThen]
    exact hK' _ _ (h A' c' w' h1 h2 h3)
theorem chg_put (w : World) (l : Nat) (o : Obj) : Chg (fun k => k = l) w (w.putObj l o) := by
  exact ⟨rfl, rfl, rfl, by simp, fun k _ hk => World.putObj_heap_other hk⟩
end Go.Fx
