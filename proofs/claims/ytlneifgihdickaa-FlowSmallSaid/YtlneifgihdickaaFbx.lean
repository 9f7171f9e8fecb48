/- Fbl: Blocks: the plain part, and new lists of blocks in memory. Fbs: Blocks: what lies in memory while the blocks are made. Fbx: Blocks: the lists of the next blocks while they are made. -/
import Derived.Test.YtlneifgihdickaaFdo
import Derived.Test.YtlneifgihdickaaWai
import Derived.Test.YtlneifgihdickaaFcl
import Derived.Test.YtlneifgihdickaaFdv
import Derived.Test.YtlneifgihdickaaFbf
namespace Go.Fx
open Go.RowKit Go.Proofs
/-- What an instruction says of where blocks begin. -/
def ledS (n i : Nat) (x : Ins) (k : Nat) : Bool := (tgtF x && decide (x.n = (k : Int))) || ((tgtF x || !goesF x) && (decide (i + 1 < n) && decide (k = i + 1)))
/-- Where blocks begin, by the first m instructions. -/
def ledF (p : List Ins) : Nat → Nat → Bool
  | 0, k => decide (k = 0)
  | m + 1, k => ledF p m k || (match p[m]? with | some x => ledS p.length m x k | none => false)
theorem ledF_zero (p : List Ins) : ∀ m, ledF p m 0 = true
  | 0 => rfl
  | m + 1 => by unfold ledF; rw [ledF_zero p m]; rfl
theorem ledF_succ {p : List Ins} {m : Nat} {x : Ins} (h : p[m]? = some x) (k : Nat) : ledF p (m + 1) k = (ledF p m k || ledS p.length m x k) := by
  rw [ledF, h]
theorem ledF_tt {p : List Ins} {m to_ : Nat} {x : Ins} (h : p[m]? = some x) (ht : tgtF x = true) (hn : x.n = (to_ : Int)) (hm : m + 1 < p.length) :
    (fun k => if k = m + 1 then true else (fun k => if k = to_ then true else ledF p m k) k) = ledF p (m + 1) := by
  funext k
  rw [ledF_succ h]
  unfold ledS
  rw [ht, hn, decide_eq_true hm]
  by_cases h1 : k = m + 1
  · simp [h1]
  · by_cases h2 : k = to_
    · simp [h2]
    · have h3 : ¬ ((to_ : Int) = (k : Int)) := by omega
      simp [h1, h2, h3]
theorem ledF_tf {p : List Ins} {m to_ : Nat} {x : Ins} (h : p[m]? = some x) (ht : tgtF x = true) (hn : x.n = (to_ : Int)) (hm : ¬ m + 1 < p.length) :
    (fun k => if k = to_ then true else ledF p m k) = ledF p (m + 1) := by
  funext k
  rw [ledF_succ h]
  unfold ledS
  rw [ht, hn, decide_eq_false hm]
  by_cases h2 : k = to_
  · simp [h2]
  · have h3 : ¬ ((to_ : Int) = (k : Int)) := by omega
    simp [h2, h3]
theorem ledF_ft {p : List Ins} {m : Nat} {x : Ins} (h : p[m]? = some x) (ht : tgtF x = false) (hg : goesF x = false) (hm : m + 1 < p.length) :
    (fun k => if k = m + 1 then true else ledF p m k) = ledF p (m + 1) := by
  funext k
  rw [ledF_succ h]
  unfold ledS
  rw [ht, hg, decide_eq_true hm]
  by_cases h1 : k = m + 1
  · simp [h1]
  · simp [h1]
theorem ledF_ff {p : List Ins} {m : Nat} {x : Ins} (h : p[m]? = some x) (ht : tgtF x = false) (hm : goesF x = true ∨ ¬ m + 1 < p.length) :
    ledF p m = ledF p (m + 1) := by
  funext k
  rw [ledF_succ h]
  unfold ledS
  rw [ht]
  rcases hm with hg | hm
  · simp [hg]
  · rw [decide_eq_false hm]; simp
/-- The last block reaches up to here. -/
def setTo (l : List (Nat × Nat)) (v : Nat) : List (Nat × Nat) := l.set (l.length - 1) (((l[l.length - 1]?).getD (0, 0)).1, v)
theorem setTo_len (l : List (Nat × Nat)) (v : Nat) : (setTo l v).length = l.length := by unfold setTo; rw [List.length_set]
/-- A block begins here. -/
def blkA (L : Nat → Bool) (m : Nat) (l : List (Nat × Nat)) : List (Nat × Nat) := if L m = true then l ++ [(m, 0)] else l
/-- The blocks of the first m instructions. -/
def blkN (L : Nat → Bool) : Nat → List (Nat × Nat)
  | 0 => []
  | m + 1 => setTo (blkA L m (blkN L m)) (m + 1)
theorem blkA_len {L : Nat → Bool} {m : Nat} {l : List (Nat × Nat)} : l.length ≤ (blkA L m l).length ∧ (blkA L m l).length ≤ l.length + 1 := by
  unfold blkA
  split
  · rw [List.length_append, List.length_singleton]; omega
  · omega
theorem blkN_le (L : Nat → Bool) : ∀ m, (blkN L m).length ≤ m
  | 0 => Nat.le_refl _
  | m + 1 => by
    have h1 := blkN_le L m
    have h2 := (blkA_len (L := L) (m := m) (l := blkN L m)).2
    rw [blkN, setTo_len]; omega
theorem blkN_pos {L : Nat → Bool} (h0 : L 0 = true) : ∀ m, 0 < (blkN L (m + 1)).length
  | 0 => by rw [blkN, setTo_len, blkN, blkA, if_pos h0]; decide
  | m + 1 => by
    have h1 := blkN_pos h0 m
    have h2 := (blkA_len (L := L) (m := m + 1) (l := blkN L (m + 1))).1
    rw [blkN, setTo_len]; omega
theorem blkA_pos {L : Nat → Bool} (h0 : L 0 = true) (m : Nat) : 0 < (blkA L m (blkN L m)).length := by
  have := blkN_pos h0 m
  rwa [blkN, setTo_len] at this
/-- The number of the block of an instruction. -/
def numN (L : Nat → Bool) (i : Nat) : Nat := (blkN L (i + 1)).length - 1
/-- The numbers so far. -/
def numL (L : Nat → Bool) (n m : Nat) : List Nat := (List.range n).map (fun i => if i < m then numN L i else 0)
theorem numL_len (L : Nat → Bool) (n m : Nat) : (numL L n m).length = n := by simp [numL]
theorem numL_zero (L : Nat → Bool) (n : Nat) : numL L n 0 = List.replicate n 0 := by
  unfold numL
  apply List.ext_getElem
  · simp
  · intro i h1 h2; simp
theorem numL_get {L : Nat → Bool} {n m i : Nat} (hi : i < n) : (numL L n m)[i]? = some (if i < m then numN L i else 0) := by
  unfold numL
  rw [List.getElem?_map, List.getElem?_range hi]; rfl
theorem numL_step {L : Nat → Bool} {n m : Nat} (_hm : m < n) : (numL L n m).set m (numN L m) = numL L n (m + 1) := by
  apply List.ext_getElem?
  intro i
  by_cases hi : i < n
  · rw [numL_get hi, List.getElem?_set, numL_len, numL_get hi]
    by_cases e : m = i
    · subst e
      rw [if_pos rfl, if_pos hi, if_pos (Nat.lt_succ_self _)]
    · rw [if_neg e]
      by_cases h1 : i < m
      · rw [if_pos h1, if_pos (by omega)]
      · rw [if_neg h1, if_neg (by omega)]
  · rw [List.getElem?_eq_none (by rw [List.length_set, numL_len]; omega), List.getElem?_eq_none (by rw [numL_len]; omega)]
theorem numN_lt {L : Nat → Bool} (_h0 : L 0 = true) (i : Nat) : numN L i ≤ i := by have := blkN_le L (i + 1); unfold numN; omega
/-- A block's cells. -/
def blC (x : (Nat × Nat) × Sl) : List Value := [.int .i64 (x.1.1 : Int), .int .i64 (x.1.2 : Int), slv x.2]
theorem blC_len (x : (Nat × Nat) × Sl) : (blC x).length = 3 := rfl
theorem blC_one (x : (Nat × Nat) × Sl) : ∀ u ∈ blC x, u.oneCell' = true := fun u hu => by
  unfold blC at hu
  simp at hu
  rcases hu with rfl | rfl | rfl <;> rfl
end Go.Fx
namespace Go.Proofs.Ytlneifgihdickaa
open Go.RowKit Go.Fx
/-- A new list of blocks, whose lists are new and share no memory. -/
structure Lsb (B : Nat) (w : World) (A : Option Addr) (n c : Nat) (fs : List (Nat × Nat)) (ss : List Sl) (ls : List (List Nat)) : Prop where
  room : RoomS 3 w A n c ((fs.zip ss).flatMap blC)
  fl : fs.length = n
  sl : ss.length = n
  len : ls.length = n
  at_ : ∀ (i : Nat) (s : Sl), ss[i]? = some s → ∃ l, ls[i]? = some l ∧ Room w s.A s.n s.c (l.map intv)
  new : ∀ k, (foot A c k ∨ foots ss k) → B ≤ k
  outer : ∀ k, foots ss k → ¬ foot A c k
  apart : ∀ (i j : Nat) (s t : Sl), ss[i]? = some s → ss[j]? = some t → i ≠ j → ∀ k, foot s.A s.c k → ¬ foot t.A t.c k
section
variable {T : Nat → Prop} {B : Nat} {w w' : World} {A : Option Addr} {n c : Nat} {fs : List (Nat × Nat)} {ss : List Sl} {ls : List (List Nat)}
theorem Lsb.lt (h : Lsb B w A n c fs ss ls) {k : Nat} (hk : foot A c k ∨ foots ss k) : k < w.heap.size := by
  rcases hk with hk | ⟨s, hs, hk⟩
  · exact h.room.lt hk
  · obtain ⟨i, hi, rfl⟩ := List.getElem_of_mem hs
    obtain ⟨l, _, hr⟩ := h.at_ i _ (List.getElem?_eq_getElem hi)
    exact hr.lt hk
theorem Lsb.chg (h : Lsb B w A n c fs ss ls) (hc : Chg T w w') (hT : ∀ k, (foot A c k ∨ foots ss k) → ¬ T k) : Lsb B w' A n c fs ss ls :=
  ⟨h.room.chg hc (fun k hk => hT k (.inl hk)), h.fl, h.sl, h.len, fun i s hs => by
    obtain ⟨l, h1, h2⟩ := h.at_ i s hs
    exact ⟨l, h1, h2.chg hc (fun k hk => hT k (.inr ⟨s, List.mem_of_getElem? hs, hk⟩))⟩, h.new, h.outer, h.apart⟩
theorem Lsb.ext (h : Lsb B w A n c fs ss ls) (e : Ext w w') : Lsb B w' A n c fs ss ls := h.chg (T := fun _ => False) (Chg.ofExt e) (fun _ _ t => t)
theorem foots_rep {n k : Nat} : ¬ foots (List.replicate n (⟨none, 0, 0⟩ : Sl)) k := by
  rintro ⟨s, hs, hk⟩
  have := List.eq_of_mem_replicate hs
  subst this
  exact foot_none hk
/-- Blocks with nothing behind them yet. -/
theorem Lsb.made (hr : RoomS 3 w A n c ((fs.zip (List.replicate n (⟨none, 0, 0⟩ : Sl))).flatMap blC)) (hl : fs.length = n) (hf : ∀ k, foot A c k → B ≤ k) : Lsb B w A n c fs (List.replicate n ⟨none, 0, 0⟩) (List.replicate n []) := by
  refine ⟨hr, hl, List.length_replicate, List.length_replicate, fun i s hs => ?_, fun k hk => hk.elim (hf k) (fun h => absurd h foots_rep), fun k hk => absurd hk foots_rep, fun i j s t hs _ _ k hk => ?_⟩
  · have hi := (List.getElem?_eq_some_iff.1 hs).1
    have h1 := List.eq_of_mem_replicate (List.mem_of_getElem? hs)
    subst h1
    exact ⟨[], by rw [List.getElem?_replicate, if_pos (by simpa using hi)], Room.nil⟩
  · have h1 := List.eq_of_mem_replicate (List.mem_of_getElem? hs)
    subst h1
    exact absurd hk foot_none
theorem Lsb.get {g o j : Nat} {x : Nat × Nat} {s : Sl} (h : Lsb B w (some ⟨g, o, none⟩) n c fs ss ls) (hx : fs[j]? = some x) (hs : ss[j]? = some s) :
    w.cell? ⟨g, o + (j * 3 + 1), none⟩ = some (.int .i64 (x.2 : Int)) ∧ w.cell? ⟨g, o + (j * 3 + 2), none⟩ = some (slv s) ∧ w.frozen? ⟨g, o + (j * 3 + 2), none⟩ = false := by
  have hz : (fs.zip ss)[j]? = some (x, s) := by rw [List.getElem?_zip_eq_some]; exact ⟨hx, hs⟩
  have hj : j < n := by have := (List.getElem?_eq_some_iff.1 hs).1; rwa [h.sl] at this
  have hc := h.room.2.1
  refine ⟨h.room.cellAt (k := j * 3 + 1) ?_, h.room.cellAt (k := j * 3 + 2) ?_, h.room.frozenAt (k := j * 3 + 2) (by have := Nat.mul_le_mul_right 3 (show j + 1 ≤ c by omega); omega)⟩
  · rw [flat_get blC_len _ j 1 (x, s) hz (by decide)]; rfl
  · rw [flat_get blC_len _ j 2 (x, s) hz (by decide)]; rfl
theorem Lsb.grow {g o j : Nat} {s s2 : Sl} {l2 : List Nat} {w2 : World} (h : Lsb B w (some ⟨g, o, none⟩) n c fs ss ls) (hj : ss[j]? = some s) (hr : Room w2 s2.A s2.n s2.c (l2.map intv)) (ch : Chg (foot s.A s.c) w w2) (ft : ∀ k, foot s2.A s2.c k → foot s.A s.c k ∨ w.heap.size ≤ k) (hB : B ≤ w.heap.size) :
    Lsb B (w2.setCell ⟨g, o + (j * 3 + 2), none⟩ (slv s2)) (some ⟨g, o, none⟩) n c fs (ss.set j s2) (ls.set j l2) ∧ Chg (fun k => foot (some ⟨g, o, none⟩) c k ∨ foots ss k) w (w2.setCell ⟨g, o + (j * 3 + 2), none⟩ (slv s2)) := by
  have hjl : j < ss.length := (List.getElem?_eq_some_iff.1 hj).1
  have hsl : ss.length = n := h.sl
  have hc0 : 0 < c := by have := h.room.2.1; omega
  have hg : foot (some ⟨g, o, none⟩) c g := ⟨hc0, o, rfl⟩
  have hgl := h.lt (.inl hg)
  have hsm : s ∈ ss := List.mem_of_getElem? hj
  have c1 := Chg.set w2 g (o + (j * 3 + 2)) (slv s2) (T := fun k => k = g) rfl
  have hgs : ∀ k, foot s.A s.c k → k ≠ g := fun k hk e => h.outer k ⟨s, hsm, hk⟩ (by rw [e]; exact hg)
  have hfs2 : ∀ k, foot s2.A s2.c k → k ≠ g := fun k hk e => (ft k hk).elim (fun h1 => hgs k h1 e) (fun h1 => by omega)
  have mem : ∀ k, foots (ss.set j s2) k → foot s2.A s2.c k ∨ foots ss k := by
    rintro k ⟨t, ht, hk⟩
    rcases List.mem_or_eq_of_mem_set ht with h1 | h1
    · exact .inr ⟨t, h1, hk⟩
    · subst h1; exact .inl hk
  obtain ⟨x, hx⟩ : ∃ x, fs[j]? = some x := ⟨fs[j]'(by rw [h.fl]; omega), List.getElem?_eq_getElem _⟩
  have hz : (fs.zip ss)[j]? = some (x, s) := by rw [List.getElem?_zip_eq_some]; exact ⟨hx, hj⟩
  have hzs : (fs.zip ss).set j (x, s2) = fs.zip (ss.set j s2) := by
    apply List.ext_getElem?
    intro i
    by_cases e : j = i
    · subst e
      rw [List.getElem?_set_self (by rw [List.length_zip, h.fl, h.sl]; omega)]
      exact (List.getElem?_zip_eq_some.2 ⟨hx, List.getElem?_set_self hjl⟩).symm
    · rw [List.getElem?_set_ne e]
      unfold List.zip
      rw [List.getElem?_zipWith, List.getElem?_zipWith, List.getElem?_set_ne e]
  refine ⟨⟨?_, h.fl, by rw [List.length_set]; exact h.sl, by rw [List.length_set]; exact h.len, fun i t ht => ?_, fun k hk => ?_, fun k hk => ?_, fun i i' t t' ht ht' hne k hk => ?_⟩, ?_⟩
  · have hr2 := h.room.chg ch (fun k hk hs => by have := foot_some hk; subst this; exact hgs _ hs rfl)
    have := hr2.set (k := j * 3 + 2) (by have := Nat.mul_le_mul_right 3 (show j + 1 ≤ n by omega); omega) (slv s2)
    rw [flat_set blC_len (s := 3) (j := 2) (by decide) (x := (x, s)) (y := (x, s2)) rfl _ j hz, hzs] at this
    exact this
  · by_cases hij : j = i
    · subst hij
      rw [List.getElem?_set_self hjl] at ht
      cases ht
      exact ⟨l2, by rw [List.getElem?_set_self (by rw [h.len]; omega)], hr.chg c1 (fun k hk e => hfs2 k hk e)⟩
    · rw [List.getElem?_set_ne hij] at ht ⊢
      obtain ⟨l', h1, h2⟩ := h.at_ i t ht
      refine ⟨l', h1, (h2.chg ch (fun k hk hs => h.apart i j t s ht hj (fun e => hij e.symm) k hk hs)).chg c1 (fun k hk e => ?_)⟩
      exact h.outer k ⟨t, List.mem_of_getElem? ht, hk⟩ (by rw [e]; exact hg)
  · rcases hk with hk | hk
    · exact h.new k (.inl hk)
    · rcases mem k hk with h1 | h1
      · exact (ft k h1).elim (fun h2 => h.new k (.inr ⟨s, hsm, h2⟩)) (fun h2 => by omega)
      · exact h.new k (.inr h1)
  · intro hf
    have e := foot_some hf
    rcases mem k hk with h1 | h1
    · exact hfs2 k h1 e
    · exact h.outer k h1 hf
  · intro hk'
    by_cases h1 : j = i
    · subst h1
      rw [List.getElem?_set_self hjl] at ht
      cases ht
      rw [List.getElem?_set_ne hne] at ht'
      rcases ft k hk with h2 | h2
      · exact h.apart j i' s t' hj ht' hne k h2 hk'
      · have := h.lt (.inr ⟨t', List.mem_of_getElem? ht', hk'⟩); omega
    · rw [List.getElem?_set_ne h1] at ht
      by_cases h2 : j = i'
      · subst h2
        rw [List.getElem?_set_self hjl] at ht'
        cases ht'
        rcases ft k hk' with h3 | h3
        · exact h.apart i j t s ht hj hne k hk h3
        · have := h.lt (.inr ⟨t, List.mem_of_getElem? ht, hk⟩); omega
      · rw [List.getElem?_set_ne h2] at ht'
        exact h.apart i i' t t' ht ht' hne k hk hk'
  · exact (ch.mono (fun k _ hk => .inr ⟨s, hsm, hk⟩)).t (c1.mono (fun k _ e => by rw [e]; exact .inl hg))
end
end Go.Proofs.Ytlneifgihdickaa
namespace Go.Proofs.Ytlneifgihdickaa
open Go.RowKit Go.Fx
/-- A block's cells, with nothing behind it yet. -/
def bl0 (x : Nat × Nat) : List Value := [.int .i64 (x.1 : Int), .int .i64 (x.2 : Int), .slice none 0 0]
theorem bl0_len (x : Nat × Nat) : (bl0 x).length = 3 := rfl
theorem bl0_one (x : Nat × Nat) : ∀ u ∈ bl0 x, u.oneCell' = true := fun u hu => by
  unfold bl0 at hu
  simp at hu
  rcases hu with rfl | rfl | rfl <;> rfl
theorem bl0_zip : ∀ (l : List (Nat × Nat)) (m : Nat), m = l.length → (l.zip (List.replicate m (⟨none, 0, 0⟩ : Sl))).flatMap blC = l.flatMap bl0
  | [], _, _ => by simp
  | x :: l, m, h => by
    obtain ⟨k, rfl⟩ : ∃ k, m = k + 1 := ⟨l.length, h⟩
    rw [List.replicate_succ, List.zip_cons_cons, List.flatMap_cons, List.flatMap_cons, bl0_zip l k (by simpa using h)]
    rfl
/-- While the blocks are made. -/
structure BlS (w : World) (L : Nat → Bool) (n b5 b9 b10 : Nat) (A1 : Option Addr) (nu : List Nat) (bl : List (Nat × Nat)) (Ab : Option Addr) (m cb : Nat) (W : World) : Prop where
  led : OwnR W b5 L
  k9 : Blk W b9 49 #[.slice Ab m cb]
  rb : RoomS 3 W Ab m cb (bl.flatMap bl0)
  k10 : Blk W b10 26 #[.slice A1 n n]
  rn : Room W A1 n n (nu.map intv)
  bm : bl.length = m
  ne : b5 ≠ b9 ∧ b5 ≠ b10 ∧ b9 ≠ b10
  n1 : ∀ q, foot A1 n q → q ≠ b5 ∧ q ≠ b9 ∧ q ≠ b10 ∧ w.heap.size ≤ q
  nb : ∀ q, foot Ab cb q → q ≠ b5 ∧ q ≠ b9 ∧ q ≠ b10 ∧ ¬ foot A1 n q ∧ w.heap.size ≤ q
  lo : w.heap.size ≤ b5 ∧ w.heap.size ≤ b9 ∧ w.heap.size ≤ b10
  ext : Ext w W
section
variable {w W W' : World} {L : Nat → Bool} {n b5 b9 b10 : Nat} {A1 : Option Addr} {nu : List Nat} {bl : List (Nat × Nat)} {Ab : Option Addr} {m cb : Nat}
theorem BlS.e (h : BlS w L n b5 b9 b10 A1 nu bl Ab m cb W) (e : Ext W W') : BlS w L n b5 b9 b10 A1 nu bl Ab m cb W' :=
  ⟨RoomS.ext h.led e, h.k9.ext e, h.rb.ext e, h.k10.ext e, h.rn.ext e, h.bm, h.ne, h.n1, h.nb, h.lo, h.ext.t e⟩
/-- One block more. -/
theorem BlS.push {X w9 : World} {A9 : Option Addr} {c9 i : Nat} (h : BlS w L n b5 b9 b10 A1 nu bl Ab m cb W) (e : Ext W X) (r : RoomS 3 w9 A9 (m + 1) c9 (bl.flatMap bl0 ++ bl0 (i, 0))) (ch : Chg (foot Ab cb) X w9) (ft : ∀ q, foot A9 c9 q → foot Ab cb q ∨ X.heap.size ≤ q) :
    BlS w L n b5 b9 b10 A1 nu (bl ++ [(i, 0)]) A9 (m + 1) c9 (w9.setCell ⟨b9, 0, none⟩ (.slice A9 (m + 1) c9)) := by
  have hx := h.e e
  have h5 : b5 < X.heap.size := RoomS.lt hx.led ⟨by decide, 0, rfl⟩
  have h9 := hx.k9.lt
  have h10 := hx.k10.lt
  have hlo := h.lo
  have hn1 : ∀ q, foot A1 n q → ¬ foot Ab cb q := fun q hq hb => (h.nb q hb).2.2.2.1 hq
  have hk : ∀ q, foot A9 c9 q → q ≠ b5 ∧ q ≠ b9 ∧ q ≠ b10 ∧ ¬ foot A1 n q ∧ w.heap.size ≤ q := fun q hq => (ft q hq).elim (fun h1 => h.nb q h1) (fun h1 => ⟨by omega, by omega, by omega, fun hf => by have := hx.rn.lt hf; omega, by have := hx.ext.size; omega⟩)
  have f5 : ¬ foot Ab cb b5 := fun hf => (h.nb _ hf).1 rfl
  have f9 : ¬ foot Ab cb b9 := fun hf => (h.nb _ hf).2.1 rfl
  have f10 : ¬ foot Ab cb b10 := fun hf => (h.nb _ hf).2.2.1 rfl
  have c1 := Chg.set w9 b9 0 (.slice A9 (m + 1) c9) (T := fun q => q = b9) rfl
  have cc : Chg (fun q => foot Ab cb q ∨ q = b9) X (w9.setCell ⟨b9, 0, none⟩ (.slice A9 (m + 1) c9)) := (ch.mono (fun q _ hq => .inl hq)).t (c1.mono (fun q _ hq => .inr hq))
  refine ⟨RoomS.chg hx.led cc (fun q hq hc => ?_), ?_, ?_, hx.k10.chg cc (fun hc => hc.elim f10 (fun e => h.ne.2.2 e.symm)), hx.rn.chg cc (fun q hq hc => hc.elim (hn1 q hq) (fun e => (h.n1 q hq).2.1 e)), by rw [List.length_append, h.bm]; rfl, h.ne, h.n1, hk, h.lo, hx.ext.trans (cc.below hx.ext.size (fun q hq hc => ?_))⟩
  · have := foot_some hq
    subst this
    exact hc.elim f5 (fun e => h.ne.1 e)
  · exact (hx.k9.chg ch f9).set0 (.slice A9 (m + 1) c9)
  · rw [List.flatMap_append, List.flatMap_cons, List.flatMap_nil, List.append_nil]
    exact r.chg c1 (fun q hq e => (hk q hq).2.1 e)
  · rcases hc with hc | hc
    · have := (h.nb q hc).2.2.2.2; omega
    · have := hlo.2.1; omega
/-- The last block reaches further. -/
theorem BlS.to_ {g o v : Nat} (h : BlS w L n b5 b9 b10 A1 nu bl (some ⟨g, o, none⟩) m cb W) (hm : 0 < m) :
    BlS w L n b5 b9 b10 A1 nu (setTo bl v) (some ⟨g, o, none⟩) m cb (W.setCell ⟨g, o + ((m - 1) * 3 + 1), none⟩ (.int .i64 (v : Int))) := by
  have hcb := h.rb.2.1
  have hg : foot (some ⟨g, o, none⟩) cb g := ⟨by omega, o, rfl⟩
  have hgn := h.nb g hg
  have cc := Chg.set W g (o + ((m - 1) * 3 + 1)) (.int .i64 (v : Int)) (T := fun q => q = g) rfl
  obtain ⟨x, hx⟩ : ∃ x, bl[m - 1]? = some x := ⟨bl[m - 1]'(by rw [h.bm]; omega), List.getElem?_eq_getElem _⟩
  have hr := h.rb.set (k := (m - 1) * 3 + 1) (by omega) (.int .i64 (v : Int))
  rw [flat_set bl0_len (s := 3) (j := 1) (by decide) (x := x) (y := (x.1, v)) rfl _ (m - 1) hx] at hr
  have es : setTo bl v = bl.set (m - 1) (x.1, v) := by unfold setTo; rw [h.bm, hx]; rfl
  refine ⟨RoomS.chg h.led cc (fun q hq e => ?_), h.k9.chg cc (fun e => hgn.2.1 e.symm), ?_, h.k10.chg cc (fun e => hgn.2.2.1 e.symm), h.rn.chg cc (fun q hq e => hgn.2.2.2.1 (by rw [← e]; exact hq)), by rw [setTo_len]; exact h.bm, h.ne, h.n1, h.nb, h.lo, h.ext.trans (cc.below h.ext.size (fun q hq e => by have := hgn.2.2.2.2; omega))⟩
  · have := foot_some hq
    subst this
    exact hgn.1 e.symm
  · rw [es]; exact hr
/-- The number of an instruction's block. -/
theorem BlS.num {g o i v : Nat} (h : BlS w L n b5 b9 b10 (some ⟨g, o, none⟩) nu bl Ab m cb W) (hi : i < n) :
    BlS w L n b5 b9 b10 (some ⟨g, o, none⟩) (nu.set i v) bl Ab m cb (W.setCell ⟨g, o + i, none⟩ (.int .i64 (v : Int))) := by
  have hg : foot (some ⟨g, o, none⟩) n g := ⟨by omega, o, rfl⟩
  have hgn := h.n1 g hg
  have cc := Chg.set W g (o + i) (.int .i64 (v : Int)) (T := fun q => q = g) rfl
  have hr := h.rn.set (k := i) hi (.int .i64 (v : Int))
  refine ⟨RoomS.chg h.led cc (fun q hq e => ?_), h.k9.chg cc (fun e => hgn.2.1 e.symm), h.rb.chg cc (fun q hq e => (h.nb q hq).2.2.2.1 (by rw [e]; exact hg)), h.k10.chg cc (fun e => hgn.2.2.1 e.symm), ?_, h.bm, h.ne, h.n1, h.nb, h.lo, h.ext.trans (cc.below h.ext.size (fun q hq e => by have := hgn.2.2.2; omega))⟩
  · have := foot_some hq
    subst this
    exact hgn.1 e.symm
  · rw [List.map_set]; exact hr
end
end Go.Proofs.Ytlneifgihdickaa
namespace Go.Fx
open Go.RowKit Go.Proofs
/-- Where control goes from a block's last instruction. -/
def edB (p : List Ins) (fs : List (Nat × Nat)) (j : Nat) : List Nat := edF p (((fs[j]?).getD (0, 0)).2 - 1)
def nxO (p : List Ins) (N : Nat → Nat) (fs : List (Nat × Nat)) (k o : Nat) : List (List Nat) :=
  (List.range fs.length).map (fun j => ((edB p fs j).take (if j < k then (edB p fs j).length else if j = k then o else 0)).map N)
section
variable {p : List Ins} {N : Nat → Nat} {fs : List (Nat × Nat)} {k o j : Nat}
theorem nxO_get (hj : j < fs.length) : (nxO p N fs k o)[j]? = some (((edB p fs j).take (if j < k then (edB p fs j).length else if j = k then o else 0)).map N) := by
  unfold nxO
  rw [List.getElem?_map, List.getElem?_range hj]; rfl
theorem nxO_len : (nxO p N fs k o).length = fs.length := by simp [nxO]
theorem nxO_zero : nxO p N fs 0 0 = List.replicate fs.length [] := by
  apply List.ext_getElem?
  intro i
  by_cases hi : i < fs.length
  · rw [nxO_get hi, List.getElem?_replicate, if_pos hi, if_neg (by omega)]
    by_cases h : i = 0
    · rw [if_pos h]; simp
    · rw [if_neg h]; simp
  · rw [List.getElem?_eq_none (by rw [nxO_len]; omega), List.getElem?_eq_none (by rw [List.length_replicate]; omega)]
theorem nxO_all : nxO p N fs k (edB p fs k).length = nxO p N fs (k + 1) 0 := by
  apply List.ext_getElem?
  intro i
  by_cases hi : i < fs.length
  · rw [nxO_get hi, nxO_get hi]
    by_cases h1 : i < k
    · rw [if_pos h1, if_pos (by omega)]
    · rw [if_neg h1]
      by_cases h2 : i = k
      · subst h2; rw [if_pos rfl, if_pos (by omega)]
      · rw [if_neg h2, if_neg (by omega)]
        by_cases h3 : i = k + 1
        · rw [if_pos h3]
        · rw [if_neg h3]
  · rw [List.getElem?_eq_none (by rw [nxO_len]; omega), List.getElem?_eq_none (by rw [nxO_len]; omega)]
theorem nxO_at (hk : k < fs.length) : (nxO p N fs k o)[k]? = some (((edB p fs k).take o).map N) := by
  rw [nxO_get hk, if_neg (Nat.lt_irrefl k), if_pos rfl]
theorem nxO_step (hk : k < fs.length) (hj : (edB p fs k)[o]? = some j) : nxO p N fs k (o + 1) = (nxO p N fs k o).set k (((edB p fs k).take o).map N ++ [N j]) := by
  apply List.ext_getElem?
  intro i
  by_cases hi : i < fs.length
  · rw [List.getElem?_set, nxO_len, nxO_get hi, nxO_get hi]
    by_cases e : k = i
    · subst e
      rw [if_pos rfl, if_pos hk, if_neg (Nat.lt_irrefl k), if_pos rfl, take_snoc hj, List.map_append]; rfl
    · rw [if_neg e]
      by_cases h1 : i < k
      · rw [if_pos h1, if_pos h1]
      · rw [if_neg h1, if_neg h1, if_neg (fun h => e h.symm), if_neg (fun h => e h.symm)]
  · rw [List.getElem?_eq_none (by rw [nxO_len]; omega), List.getElem?_eq_none (by rw [List.length_set, nxO_len]; omega)]
theorem nxO_end : nxO p N fs fs.length 0 = fs.map (fun x => (edF p (x.2 - 1)).map N) := by
  apply List.ext_getElem?
  intro i
  by_cases hi : i < fs.length
  · rw [nxO_get hi, if_pos hi, List.take_length, List.getElem?_map]
    unfold edB
    rw [List.getElem?_eq_getElem hi]; rfl
  · rw [List.getElem?_eq_none (by rw [nxO_len]; omega), List.getElem?_eq_none (by rw [List.length_map]; omega)]
end
end Go.Fx
namespace Go.Proofs.Ytlneifgihdickaa
open Go.RowKit Go.Fx
/-- What the loop over the edges of a block's last instruction keeps. -/
structure BbJ (p : List Ins) (N : Nat → Nat) (fs : List (Nat × Nat)) (m cb k : Nat) (B : Nat) (V : World) (A1 : Option Addr) (Mut : Nat → Prop) (R : Obj) (T : Nat → Prop) (o : Nat) (W : World) : Prop where
  rg : RgJ V Mut R T W
  out : ∃ ss, Lsb B W A1 m cb fs ss (nxO p N fs k o) ∧ (∀ q, (foot A1 cb q ∨ foots ss q) → (Mut q ∧ q < V.heap.size) ∨ V.heap.size + 2 ≤ q) ∧ ∀ q, (foot A1 cb q ∨ foots ss q) → ¬ T q
section
variable {p : List Ins} {N : Nat → Nat} {fs : List (Nat × Nat)} {m cb k B : Nat} {V W W' : World} {A1 : Option Addr} {Mut T : Nat → Prop} {R : Obj} {o : Nat}
theorem BbJ.e (h : BbJ p N fs m cb k B V A1 Mut R T o W) (e : Ext W W') : BbJ p N fs m cb k B V A1 Mut R T o W' := by
  obtain ⟨ss, h1, h2, h3⟩ := h.out
  exact ⟨h.rg.e e, ss, h1.ext e, h2, h3⟩
theorem BbJ.own (h : BbJ p N fs m cb k B V A1 Mut R T o W) (ch : Chg T W W') : BbJ p N fs m cb k B V A1 Mut R T o W' := by
  obtain ⟨ss, h1, h2, h3⟩ := h.out
  exact ⟨h.rg.iown ch, ss, h1.chg ch h3, h2, h3⟩
theorem BbJ.put (h : BbJ p N fs m cb k B V A1 Mut R T o W) (R' : Obj) : BbJ p N fs m cb k B V A1 Mut R' T o (W.putObj (V.heap.size + 1) R') := by
  obtain ⟨ss, h1, h2, h3⟩ := h.out
  exact ⟨h.rg.put R', ss, h1.chg (chg_putI W _ R') (fun q hq e => by have := h2 q hq; omega), h2, h3⟩
/-- One of the lists grows. -/
theorem BbJ.grow {g og j sn sc c9 : Nat} {sA A9 : Option Addr} {X w9 : World} {ss : List Sl} (h : BbJ p N fs m cb k B V (some ⟨g, og, none⟩) Mut R T o W) (h1 : Lsb B W (some ⟨g, og, none⟩) m cb fs ss (nxO p N fs k o)) (h2 : ∀ q, (foot (some ⟨g, og, none⟩) cb q ∨ foots ss q) → (Mut q ∧ q < V.heap.size) ∨ V.heap.size + 2 ≤ q) (h3 : ∀ q, (foot (some ⟨g, og, none⟩) cb q ∨ foots ss q) → ¬ T q)
    (hB : B ≤ V.heap.size) (hj : (edB p fs k)[o]? = some j) (hkm : k < m) (hs : ss[k]? = some ⟨sA, sn, sc⟩) (hx : Ext W X) (r : RoomS 1 w9 A9 (sn + 1) c9 ((((edB p fs k).take o).map N).map intv ++ intC (N j))) (ch : Chg (foot sA sc) X w9) (ft : ∀ q, foot A9 c9 q → foot sA sc q ∨ X.heap.size ≤ q) :
    BbJ p N fs m cb k B V (some ⟨g, og, none⟩) Mut R T (o + 1) (w9.setCell ⟨g, og + (k * 3 + 2), none⟩ (.slice A9 (sn + 1) c9)) ∧ ∀ q, T q → (w9.setCell ⟨g, og + (k * 3 + 2), none⟩ (.slice A9 (sn + 1) c9)).heap[q]? = W.heap[q]? := by
  have hz := h.rg.size
  have hzx := hx.size
  have e1 := nxO_step (p := p) (N := N) (fs := fs) (k := k) (o := o) (by rw [h1.fl]; exact hkm) hj
  have hl := h1.ext hx
  obtain ⟨g1, g2⟩ := hl.grow (s2 := ⟨A9, sn + 1, c9⟩) (l2 := ((edB p fs k).take o).map N ++ [N j]) hs (by rw [List.map_append]; exact r.room) ch ft (by omega)
  have cc : Chg (fun q => foot (some ⟨g, og, none⟩) cb q ∨ foots ss q) W (w9.setCell ⟨g, og + (k * 3 + 2), none⟩ (.slice A9 (sn + 1) c9)) := (Chg.ofExt hx).t g2
  refine ⟨⟨h.rg.step cc (fun q _ hq => (h2 q hq).elim (fun h => .inr h) .inl), ss.set k ⟨A9, sn + 1, c9⟩, by rw [e1]; exact g1, fun q hq => ?_, fun q hq ht => ?_⟩, fun q hq => cc.block q (h.rg.own q hq).2 (fun hf => h3 q hf hq)⟩
  · rcases hq with hq | ⟨t, ht, hq⟩
    · exact h2 q (.inl hq)
    · rcases List.mem_or_eq_of_mem_set ht with hm | hm
      · exact h2 q (.inr ⟨t, hm, hq⟩)
      · subst hm
        exact (ft q hq).elim (fun hf => h2 q (.inr ⟨_, List.mem_of_getElem? hs, hf⟩)) (fun hf => .inr (by omega))
  · rcases hq with hq | ⟨t, htm, hq⟩
    · exact h3 q (.inl hq) ht
    · rcases List.mem_or_eq_of_mem_set htm with hm | hm
      · exact h3 q (.inr ⟨t, hm, hq⟩) ht
      · subst hm
        exact (ft q hq).elim (fun hf => h3 q (.inr ⟨_, List.mem_of_getElem? hs, hf⟩) ht) (fun hf => by have := (h.rg.own q ht).2; omega)
end
end Go.Proofs.Ytlneifgihdickaa
