/- Fbt: FlowBlocks: what blocks are, in plain Lean. No program in sight. Rbk: the reference of chapter 16: Blocks. -/
import Derived.Test.YtlneifgihdickaaFbw
import Derived.Test.YtlneifgihdickaaRfe
import Derived.Deep.RegionHeld3
namespace Go.Fx
open Go.RowKit Go.Proofs Go.Proofs.Ytlneifgihdickaa
/-- Blocks one after the other, from a to b: each begins at a leader, and has no other one. -/
inductive ChB (L : Nat → Bool) : Nat → List (Nat × Nat) → Nat → Prop
  | nil (a : Nat) : ChB L a [] a
  | cons {a c b : Nat} {l : List (Nat × Nat)} : a < c → L a = true → (∀ i, a < i → i < c → L i = false) → ChB L c l b → ChB L a ((a, c) :: l) b
theorem ChB.snoc {L : Nat → Bool} {a b : Nat} {l : List (Nat × Nat)} (h : ChB L a l b) (hb : L b = true) : ChB L a (l ++ [(b, b + 1)]) (b + 1) := by
  induction h with
  | nil a => exact .cons (Nat.lt_succ_self _) hb (fun i h1 h2 => by omega) (.nil _)
  | cons h1 h2 h3 _ ih => exact .cons h1 h2 h3 (ih hb)
theorem ChB.wide {L : Nat → Bool} : ∀ {l : List (Nat × Nat)} {a b : Nat} {y : Nat × Nat}, ChB L a (l ++ [y]) b → L b = false → ChB L a (l ++ [(y.1, b + 1)]) (b + 1)
  | [], a, b, y, h, hb => by
    cases h with
    | cons h1 h2 h3 h4 =>
      cases h4
      exact .cons (by omega) h2 (fun i q1 q2 => by
        by_cases hi : i = b
        · rw [hi]; exact hb
        · exact h3 i q1 (by omega)) (.nil _)
  | x :: l, a, b, y, h, hb => by
    cases h with
    | cons h1 h2 h3 h4 => exact .cons h1 h2 h3 (ChB.wide h4 hb)
theorem blk_chain {L : Nat → Bool} (h0 : L 0 = true) : ∀ m, ChB L 0 (blkN L m) m
  | 0 => .nil 0
  | m + 1 => by
    have ih := blk_chain h0 m
    rw [blkN]
    unfold blkA
    by_cases hL : L m = true
    · rw [if_pos hL, setTo_snoc]
      exact ih.snoc hL
    · rw [if_neg hL]
      have hm : m ≠ 0 := fun e => hL (by rw [e]; exact h0)
      obtain ⟨m', rfl⟩ : ∃ m', m = m' + 1 := ⟨m - 1, by omega⟩
      have hp := blkN_pos h0 m'
      obtain ⟨l, y, hly⟩ : ∃ l y, blkN L (m' + 1) = l ++ [y] := ⟨_, _, (List.dropLast_concat_getLast (List.ne_nil_of_length_pos hp)).symm⟩
      rw [hly, setTo_snoc]
      rw [hly] at ih
      exact ih.wide (by simpa using hL)
/-- What is known of one of them. -/
theorem ChB.at_ {L : Nat → Bool} : ∀ {l : List (Nat × Nat)} {a b k : Nat} {x : Nat × Nat}, ChB L a l b → l[k]? = some x → (k = 0 → x.1 = a) ∧ x.1 < x.2 ∧ x.2 ≤ b ∧ (∀ i, x.1 < i → i < x.2 → L i = false) ∧ ((k + 1 = l.length ∧ x.2 = b) ∨ (x.2 < b ∧ L x.2 = true ∧ ∃ y, l[k + 1]? = some y ∧ y.1 = x.2))
  | [], _, _, _, _, _, hx => by cases hx
  | y :: l, a, b, k, x, h, hx => by
    cases h with
    | @cons _ c _ _ h1 h2 h3 h4 =>
      have hle : ∀ {l : List (Nat × Nat)} {a b : Nat}, ChB L a l b → a ≤ b := fun h => by
        induction h with
        | nil _ => exact Nat.le_refl _
        | cons q _ _ _ ih => omega
      cases k with
      | zero =>
        obtain rfl := Option.some.inj hx
        refine ⟨fun _ => rfl, h1, hle h4, h3, ?_⟩
        cases h4 with
        | nil _ => exact .inl ⟨rfl, rfl⟩
        | @cons _ c' _ l' q1 q2 q3 q4 => exact .inr ⟨Nat.lt_of_lt_of_le q1 (hle q4), q2, _, rfl, rfl⟩
      | succ k =>
        have hx' : l[k]? = some x := hx
        obtain ⟨_, r1, r2, r3, r4⟩ := ChB.at_ h4 hx'
        refine ⟨fun e => by omega, r1, r2, r3, ?_⟩
        rcases r4 with ⟨r4, r5⟩ | ⟨r4, r5, z, r6, r7⟩
        · exact .inl ⟨by rw [List.length_cons, r4], r5⟩
        · exact .inr ⟨r4, r5, z, r6, r7⟩
theorem setTo_fst {l : List (Nat × Nat)} {v q : Nat} {x : Nat × Nat} (h : l[q]? = some x) : ∃ y, (setTo l v)[q]? = some y ∧ y.1 = x.1 := by
  have hq := (List.getElem?_eq_some_iff.1 h).1
  unfold setTo
  by_cases e : l.length - 1 = q
  · subst e
    exact ⟨_, List.getElem?_set_self hq, by rw [h]; rfl⟩
  · exact ⟨x, by rw [List.getElem?_set_ne e]; exact h, rfl⟩
theorem blkA_get {L : Nat → Bool} {m q : Nat} {l : List (Nat × Nat)} {x : Nat × Nat} (h : l[q]? = some x) : (blkA L m l)[q]? = some x := by
  unfold blkA
  split
  · rw [List.getElem?_append_left (List.getElem?_eq_some_iff.1 h).1]; exact h
  · exact h
theorem blk_keep {L : Nat → Bool} {q m : Nat} {x : Nat × Nat} (h : (blkN L m)[q]? = some x) : ∀ d, ∃ y, (blkN L (m + d))[q]? = some y ∧ y.1 = x.1
  | 0 => ⟨x, h, rfl⟩
  | d + 1 => by
    obtain ⟨y, h1, h2⟩ := blk_keep h d
    obtain ⟨z, h3, h4⟩ := setTo_fst (v := m + d + 1) (blkA_get (L := L) (m := m + d) h1)
    exact ⟨z, h3, h4.trans h2⟩
/-- A leader's block begins there. -/
theorem num_at {L : Nat → Bool} {j n : Nat} (hj : L j = true) (hn : j < n) : ∃ y, (blkN L n)[numN L j]? = some y ∧ y.1 = j := by
  have e : blkN L (j + 1) = blkN L j ++ [(j, j + 1)] := by rw [blkN]; unfold blkA; rw [if_pos hj, setTo_snoc]
  have e2 : numN L j = (blkN L j).length := by unfold numN; rw [e]; simp
  have h1 : (blkN L (j + 1))[numN L j]? = some (j, j + 1) := by rw [e, e2, List.getElem?_append_right (Nat.le_refl _), Nat.sub_self]; rfl
  obtain ⟨y, h2, h3⟩ := blk_keep h1 (n - (j + 1))
  rw [show j + 1 + (n - (j + 1)) = n by omega] at h2
  exact ⟨y, h2, h3⟩
theorem led_keep {p : List Ins} {k m : Nat} (h : ledF p m k = true) : ∀ d, ledF p (m + d) k = true
  | 0 => h
  | d + 1 => by
    show ledF p (m + d + 1) k = true
    unfold ledF
    rw [led_keep h d]
    rfl
theorem led_of {p : List Ins} {i k : Nat} {x : Ins} (hx : p[i]? = some x) (h : ledS p.length i x k = true) : ledF p p.length k = true := by
  have hi := (List.getElem?_eq_some_iff.1 hx).1
  have h1 : ledF p (i + 1) k = true := by rw [ledF_succ hx, h, Bool.or_true]
  have h2 := led_keep h1 (p.length - (i + 1))
  rwa [show i + 1 + (p.length - (i + 1)) = p.length by omega] at h2
/-- Within a block control goes on, and comes from nowhere else. -/
theorem blk_mid {p : List Ins} (_hp : RightP p) {i : Nat} (hi : i + 1 < p.length) (hL : ledF p p.length (i + 1) = false) : edF p i = [i + 1] ∧ befN p p.length (i + 1) = [i] := by
  obtain ⟨x, hx⟩ : ∃ x, p[i]? = some x := ⟨_, List.getElem?_eq_getElem (by omega)⟩
  have key : ∀ u y, p[u]? = some y → ledS p.length u y (i + 1) = false := fun u y hy => by
    cases h : ledS p.length u y (i + 1) with
    | false => rfl
    | true => rw [led_of hy h] at hL; cases hL
  have h1 := key i x hx
  unfold ledS at h1
  rw [Bool.or_eq_false_iff] at h1
  have h2 := h1.2
  rw [decide_eq_true hi, decide_eq_true rfl] at h2
  simp only [Bool.and_true, Bool.or_eq_false_iff, Bool.not_eq_false'] at h2
  have he : edF p i = [i + 1] := by rw [edF_at hx]; exact edX_ft h2.1 h2.2
  refine ⟨he, ?_⟩
  have hm : ∀ u, u ∈ befN p p.length (i + 1) ↔ u = i := fun u => by
    rw [befN_mem]
    constructor
    · rintro ⟨_, hu⟩
      obtain ⟨y, hy, h3⟩ := edF_mem.1 hu
      rcases h3 with ⟨h3, h4⟩ | ⟨_, h4⟩
      · have h5 := key u y hy
        unfold ledS at h5
        rw [h3, h4] at h5
        simp at h5
      · omega
    · rintro rfl
      exact ⟨by omega, by rw [he]; simp⟩
  have hs := befN_srt p p.length (i + 1)
  generalize befN p p.length (i + 1) = l at hm hs
  match l, hm, hs with
  | [], hm, _ => exact absurd ((hm i).2 rfl) (by simp)
  | [a], hm, _ => rw [(hm a).1 (by simp)]
  | a :: b :: l, hm, hs =>
    have h3 := (hm a).1 (by simp)
    have h4 := (hm b).1 (by simp)
    have h5 : a < b := (List.pairwise_cons.1 hs).1 b (by simp)
    omega
/-- From the last instruction of a block control goes to the first ones of blocks. -/
theorem blk_next {p : List Ins} (hp : RightP p) {i j : Nat} (_hi : i < p.length) (hL : i + 1 = p.length ∨ ledF p p.length (i + 1) = true) (hj : j ∈ edF p i) : ledF p p.length j = true ∧ j < p.length := by
  have hlt := edF_lt hp hj
  refine ⟨?_, hlt⟩
  obtain ⟨x, hx, h1⟩ := edF_mem.1 hj
  rcases h1 with ⟨h1, h2⟩ | ⟨_, h2⟩
  · refine led_of hx ?_
    unfold ledS
    rw [h1, h2]
    simp
  · rcases hL with h3 | h3
    · omega
    · rw [h2]; exact h3
end Go.Fx
namespace Go.Fx
open Go.RowKit Go.Proofs Go.Proofs.Ytlneifgihdickaa
theorem nxR_pre (p : List Ins) (u k : Nat) : ∀ d, ∃ r, nxR p u (k + d) = nxR p u k ++ r
  | 0 => ⟨[], by simp⟩
  | d + 1 => by
    obtain ⟨r, h⟩ := nxR_pre p u k d
    exact ⟨r ++ (if k + d ∈ edF p u then [k + d] else []), by rw [show k + (d + 1) = k + d + 1 by omega, nxR_succ, h, List.append_assoc]⟩
/-- The edges to instructions before k are the first ones. -/
theorem nxR_take {p : List Ins} (hp : RightP p) {u k : Nat} (hk : k ≤ p.length) : (edF p u).take (nxR p u k).length = nxR p u k := by
  obtain ⟨r, h⟩ := nxR_pre p u k (p.length - k)
  rw [show k + (p.length - k) = p.length by omega, nxR_end hp] at h
  rw [h, List.take_left']
  rfl
theorem nxR_at {p : List Ins} (hp : RightP p) {u k : Nat} (hk : k < p.length) (hq : k ∈ edF p u) : (edF p u)[(nxR p u k).length]? = some k := by
  obtain ⟨r, h⟩ := nxR_pre p u (k + 1) (p.length - (k + 1))
  rw [show k + 1 + (p.length - (k + 1)) = p.length by omega, nxR_end hp, nxR_succ, if_pos hq] at h
  rw [h, List.append_assoc, List.getElem?_append_right (Nat.le_refl _), Nat.sub_self]
  rfl
theorem nxR_len1 {p : List Ins} {u k : Nat} (hq : k ∈ edF p u) : (nxR p u (k + 1)).length = (nxR p u k).length + 1 := by
  rw [nxR_succ, if_pos hq, List.length_append]; rfl
theorem nxR_len0 {p : List Ins} {u k : Nat} (hq : k ∉ edF p u) : (nxR p u (k + 1)).length = (nxR p u k).length := by
  rw [nxR_succ, if_neg hq, List.append_nil]
/-- The numbers of the first m instructions. -/
def numR (L : Nat → Bool) (m : Nat) : List Nat := (List.range m).map (numN L)
theorem numR_succ (L : Nat → Bool) (m : Nat) : numR L (m + 1) = numR L m ++ [numN L m] := by unfold numR; rw [List.range_succ, List.map_append]; rfl
theorem numR_len (L : Nat → Bool) (m : Nat) : (numR L m).length = m := by simp [numR]
theorem numR_at {L : Nat → Bool} {m k : Nat} (hk : k < m) : (numR L m)[k]? = some (numN L k) := by
  unfold numR
  rw [List.getElem?_map, List.getElem?_range hk]; rfl
/-- New blocks and numbers, side by side. -/
structure RbL (V : World) (A : Option Addr) (m c : Nat) (fs : List (Nat × Nat)) (B : Option Addr) (q d : Nat) (nu : List Nat) (W : World) : Prop where
  rb : RoomS 3 W A m c (fs.flatMap bl0)
  rn : Room W B q d (nu.map intv)
  ext : Ext V W
  fa : ∀ k, foot A c k → V.heap.size ≤ k
  fn : ∀ k, foot B d k → V.heap.size ≤ k
  ap : ∀ k, foot A c k → ¬ foot B d k
  bm : fs.length = m
section
variable {V W W' W3 : World} {A A2 B B2 : Option Addr} {m c c2 q d d2 : Nat} {fs : List (Nat × Nat)} {nu : List Nat}
theorem RbL.nil (V : World) : RbL V none 0 0 [] none 0 0 [] V := ⟨RoomS.nil, Room.nil, Ext.refl _, fun _ h => absurd h foot_none, fun _ h => absurd h foot_none, fun _ h => absurd h foot_none, rfl⟩
theorem RbL.x (h : RbL V A m c fs B q d nu W) (e : Ext W W') : RbL V A m c fs B q d nu W' := ⟨h.rb.ext e, h.rn.ext e, h.ext.t e, h.fa, h.fn, h.ap, h.bm⟩
theorem RbL.push {i : Nat} (h : RbL V A m c fs B q d nu W) (r : RoomS 3 W3 A2 (m + 1) c2 (fs.flatMap bl0 ++ [(i, 0)].flatMap bl0)) (ch : Chg (foot A c) W W3) (ft : ∀ k, foot A2 c2 k → foot A c k ∨ W.heap.size ≤ k) : RbL V A2 (m + 1) c2 (fs ++ [(i, 0)]) B q d nu W3 := by
  have e2 := h.ext
  exact ⟨by rw [List.flatMap_append]; exact r, h.rn.chg ch (fun k hk hf => h.ap k hf hk), e2.trans (ch.below e2.size (fun k hk hf => by have := h.fa k hf; omega)), fun k hk => (ft k hk).elim (h.fa k) (fun h1 => by have := e2.size; omega), h.fn, fun k hk hb => (ft k hk).elim (fun h1 => h.ap k h1 hb) (fun h1 => by have := h.rn.lt hb; omega), by rw [List.length_append, h.bm]; rfl⟩
theorem RbL.num {v : Nat} (h : RbL V A m c fs B q d nu W) (r : Room W3 B2 (q + 1) d2 (nu.map intv ++ [intv v])) (ch : Chg (foot B d) W W3) (ft : ∀ k, foot B2 d2 k → foot B d k ∨ W.heap.size ≤ k) : RbL V A m c fs B2 (q + 1) d2 (nu ++ [v]) W3 := by
  have e2 := h.ext
  exact ⟨h.rb.chg ch (fun k hk hf => h.ap k hk hf), by rw [List.map_append]; exact r, e2.trans (ch.below e2.size (fun k hk hf => by have := h.fn k hf; omega)), h.fa, fun k hk => (ft k hk).elim (h.fn k) (fun h1 => by have := e2.size; omega), fun k hk hb => (ft k hb).elim (fun h1 => h.ap k hk h1) (fun h1 => by have := h.rb.lt hk; omega), h.bm⟩
theorem RbL.to_ {g o v : Nat} (h : RbL V (some ⟨g, o, none⟩) m c fs B q d nu W) (hm : 0 < m) : RbL V (some ⟨g, o, none⟩) m c (setTo fs v) B q d nu (W.setCell ⟨g, o + ((m - 1) * 3 + 1), none⟩ (.int .i64 (v : Int))) := by
  have hcb := h.rb.2.1
  have hg : foot (some ⟨g, o, none⟩) c g := ⟨by omega, o, rfl⟩
  have cc := Chg.set W g (o + ((m - 1) * 3 + 1)) (.int .i64 (v : Int)) (T := fun q => q = g) rfl
  obtain ⟨x, hx⟩ : ∃ x, fs[m - 1]? = some x := ⟨fs[m - 1]'(by rw [h.bm]; omega), List.getElem?_eq_getElem _⟩
  have hr := h.rb.set (k := (m - 1) * 3 + 1) (by omega) (.int .i64 (v : Int))
  rw [flat_set bl0_len (s := 3) (j := 1) (by decide) (x := x) (y := (x.1, v)) rfl _ (m - 1) hx] at hr
  have es : setTo fs v = fs.set (m - 1) (x.1, v) := by unfold setTo; rw [h.bm, hx]; rfl
  exact ⟨by rw [es]; exact hr, h.rn.chg cc (fun k hk e => h.ap g hg (by rw [← e]; exact hk)), h.ext.trans (cc.below h.ext.size (fun k hk e => by have := h.fa g hg; omega)), h.fa, h.fn, h.ap, by rw [setTo_len]; exact h.bm⟩
end
/-- Blocks whose next lists grow, beside the numbers. -/
structure RbM (V : World) (A : Option Addr) (m c : Nat) (fs : List (Nat × Nat)) (ss : List Sl) (ls : List (List Nat)) (B : Option Addr) (q d : Nat) (nu : List Nat) (W : World) : Prop where
  lb : Lsb V.heap.size W A m c fs ss ls
  rn : Room W B q d (nu.map intv)
  ext : Ext V W
  ap : ∀ k, (foot A c k ∨ foots ss k) → ¬ foot B d k
section
variable {V W W' W2 : World} {A B : Option Addr} {m c q d : Nat} {fs : List (Nat × Nat)} {ss : List Sl} {ls : List (List Nat)} {nu : List Nat}
theorem RbM.x (h : RbM V A m c fs ss ls B q d nu W) (e : Ext W W') : RbM V A m c fs ss ls B q d nu W' := ⟨h.lb.ext e, h.rn.ext e, h.ext.t e, h.ap⟩
theorem RbL.made (h : RbL V A m c fs B q d nu W) : RbM V A m c fs (List.replicate m ⟨none, 0, 0⟩) (List.replicate m []) B q d nu W :=
  ⟨Lsb.made (by rw [bl0_zip fs m h.bm.symm]; exact h.rb) h.bm h.fa, h.rn, h.ext, fun k hk => hk.elim (h.ap k) (fun h1 => absurd h1 foots_rep)⟩
theorem RbM.grow {g o j : Nat} {s s2 : Sl} {l2 : List Nat} (h : RbM V (some ⟨g, o, none⟩) m c fs ss ls B q d nu W) (hj : ss[j]? = some s) (hr : Room W2 s2.A s2.n s2.c (l2.map intv)) (ch : Chg (foot s.A s.c) W W2) (ft : ∀ k, foot s2.A s2.c k → foot s.A s.c k ∨ W.heap.size ≤ k) :
    RbM V (some ⟨g, o, none⟩) m c fs (ss.set j s2) (ls.set j l2) B q d nu (W2.setCell ⟨g, o + (j * 3 + 2), none⟩ (slv s2)) := by
  obtain ⟨h1, h2⟩ := h.lb.grow hj hr ch ft h.ext.size
  refine ⟨h1, h.rn.chg h2 (fun k hk hf => h.ap k hf hk), h.ext.trans (h2.below h.ext.size (fun k hk hf => by have := h.lb.new k hf; omega)), fun k hk hb => ?_⟩
  rcases hk with hk | ⟨t, ht, hk⟩
  · exact h.ap k (.inl hk) hb
  · rcases List.mem_or_eq_of_mem_set ht with h3 | h3
    · exact h.ap k (.inr ⟨t, h3, hk⟩) hb
    · subst h3
      rcases ft k hk with h4 | h4
      · exact h.ap k (.inr ⟨s, List.mem_of_getElem? hj, h4⟩) hb
      · have := h.rn.lt hb; omega
end
theorem led_false {p : List Ins} {k i : Nat} {x : Ins} (hx : p[k]? = some x) (hi : i < p.length) : ledF p (k + 1) i = (ledF p k i || ((tgtF x && decide (x.n = (i : Int))) || ((tgtF x || !goesF x) && decide (k + 1 = i)))) := by
  rw [ledF_succ hx]
  congr 1
  unfold ledS
  congr 1
  congr 1
  by_cases h : k + 1 = i
  · subst h; simp [hi]
  · rw [decide_eq_false h, decide_eq_false (fun e : i = k + 1 => h e.symm), Bool.and_false]
end Go.Fx
namespace Go.Proofs.Ytlneifgihdickaa
open Go.RowKit Go.Fx
theorem ret_bv {a b : Bool} (h : a = b) : Value.bool a = Value.bool b := by rw [h]
set_option maxRecDepth 100000 in
set_option maxHeartbeats 16000000 in
theorem rblk_ (A : Option Addr) (n c : Nat) (p : List Ins) (w : World) (h : RdS 5 insC w A n p) (hp : RightP p) :
    Calls Try.prog 50 #[.slice A n c] w (BlkP p n w) := by
  have hl := h.1
  have hn : n ≤ 256 := by have := hp.max; omega
  have hn0 : 0 < n := by have := hp.pos; omega
  have HR := Lib.hid (rright_ A n c p w h)
  rw [decide_eq_true (rightP_iff.2 hp)] at HR
  have HP := Lib.hid hp
  have Hl := Lib.hid hl
  have H := Lib.hid h
  obtain ⟨b2, o2, hA⟩ := h.some_ hn0
  subst hA
  obtain ⟨L, hL⟩ : ∃ L, L = ledF p n := ⟨_, rfl⟩
  have HL0 := Lib.hid (show L 0 = true by rw [hL]; exact ledF_zero p n)
  have HLL := Lib.hid hL
  clear h hp hl hL
  go_enter Try.func50, Try.ntmps50
  go_wp2_with fail
  refine HR.out.mono ?_; rintro e V ⟨rfl, x1⟩
  have X1 := Lib.hid x1
  clear x1 HR
  go_wp2_with fail
  go_loopw [4, 5, 6] (fun v4 v5 v6 wr => ∃ (i m : Nat) (Ao : Option Addr) (co : Nat) (An : Option Addr) (cn : Nat), i ≤ n ∧ v6 = .int .i64 (i : Int) ∧ v4 = .slice Ao m co ∧ v5 = .slice An i cn ∧ Hid (RbL V Ao m co (blkN L i) An i cn (numR L i) wr)) (fun _ _ v _ => n - (intOf v).toNat)
  case atStart => exact ⟨0, 0, none, 0, none, 0, by omega, rfl, rfl, rfl, Lib.hid (RbL.nil V)⟩
  case round =>
    obtain ⟨i, m, Ao, co, An, cn, hi, rfl, rfl, rfl, HL⟩ := hrel
    by_cases hlt : i < n
    · have hltI : (i : Int) < (n : Int) := by omega
      have hi0 : ((i : Int) == 0) = decide (i = 0) := by
        rw [Bool.eq_iff_iff]
        first | (simp; done) | (simp; omega)
      have HB0 : Hid (decide (i = 0) = ledF p 0 i) := Lib.hid rfl
      obtain ⟨fs, hfs⟩ : ∃ fs, fs = blkN L i := ⟨_, rfl⟩
      rw [← hfs] at HL
      have HFS := Lib.hid hfs
      clear hfs
      go_wp2_with fail
      go_loopw [7, 8] (fun v7 v8 wr => ∃ k : Nat, k ≤ n ∧ v8 = .int .i64 (k : Int) ∧ v7 = .bool (ledF p k i) ∧ Hid (RbL V Ao m co fs An i cn (numR L i) wr)) (fun _ v _ => n - (intOf v).toNat)
      case atStart => exact ⟨0, by omega, rfl, by first | rw [hi0, HB0.out] | rw [HB0.out], HL⟩
      case round =>
        clear HL hi0
        obtain ⟨k, hk, rfl, rfl, HL⟩ := hrel
        by_cases hlk : k < n
        · have hkI : (k : Int) < (n : Int) := by omega
          obtain ⟨_, _, x, hh, _, hx, c0, c1, c2, c3, c4⟩ := (H.out.ext (X1.out.t HL.out.ext)).ins hlk
          cases hh
          have HT := Lib.hid (rtarget_ x wr)
          have HG := Lib.hid (fun w' => rgoes_ x w')
          unfold TgtP insV at HT
          unfold BoolP insV at HG
          obtain ⟨to_, hto⟩ : ∃ t, t = if tgtF x = true then x.n else 0 := ⟨_, rfl⟩
          obtain ⟨tb, htb⟩ : ∃ t, t = tgtF x := ⟨_, rfl⟩
          obtain ⟨gb, hgb⟩ : ∃ t, t = goesF x := ⟨_, rfl⟩
          rw [← hto, ← htb] at HT
          rw [← hgb] at HG
          obtain ⟨bl, hbl⟩ : ∃ t, t = ledF p k i := ⟨_, rfl⟩
          obtain ⟨q, hq⟩ : ∃ t, t = ledF p (k + 1) i := ⟨_, rfl⟩
          have HQ : Hid (q = (bl || ((tb && decide (to_ = (i : Int))) || ((tb || !gb) && decide (k + 1 = i))))) := Lib.hid (by
            rw [hq, led_false hx (by rw [Hl.out]; exact hlt), hbl, htb, hgb, hto]
            cases h : tgtF x with
            | true => simp
            | false => simp)
          have Hq0 := Lib.hid hq
          have Hx := Lib.hid hx
          rw [← hbl]
          clear hto htb hgb hbl hq hx
          go_wp2_with fail
          refine HT.out.mono ?_; rintro e w7 ⟨rfl, x7⟩
          have HL7 := Lib.hid (HL.out.x x7)
          obtain ⟨_, _, x', hh, _, hx', c0, c1, c2, c3, c4⟩ := (H.out.ext (X1.out.t HL7.out.ext)).ins hlk
          cases hh
          obtain rfl : x = x' := by rw [Hx.out] at hx'; exact Option.some.inj hx'
          clear x7 HT HL hx'
          cases bl with
          | true =>
            have Hq2 : Hid (true = q) := Lib.hid (by rw [HQ.out]; rfl)
            clear HQ
            clear HG
            go_wp2_with fail
            clear c0 c1 c2 c3 c4
            go_roundw
            case rel => exact ⟨k + 1, by omega, by go_num, by rw [← Hq0.out, ← Hq2.out], HL7⟩
            case measure => simp [intOf]; omega
          | false =>
            cases tb with
            | true =>
              by_cases h1 : to_ = (i : Int)
              · have e1 : (to_ == (i : Int)) = true := by simp [h1]
                have Hq2 : Hid (true = q) := Lib.hid (by rw [HQ.out, decide_eq_true h1]; rfl)
                clear HQ h1
                clear HG
                go_wp2_with fail
                clear c0 c1 c2 c3 c4
                go_roundw
                case rel => exact ⟨k + 1, by omega, by go_num, by rw [← Hq0.out, ← Hq2.out], HL7⟩
                case measure => simp [intOf]; omega
              · have e1 : (to_ == (i : Int)) = false := by simp [h1]
                by_cases h2 : k + 1 = i
                · have e2 : ((k : Int) == (i : Int) - 1) = true := by simp; omega
                  have Hq2 : Hid (true = q) := Lib.hid (by rw [HQ.out, decide_eq_false h1, decide_eq_true h2]; rfl)
                  clear HQ h1 h2
                  clear HG
                  go_wp2_with fail
                  clear c0 c1 c2 c3 c4
                  go_roundw
                  case rel => exact ⟨k + 1, by omega, by go_num, by rw [← Hq0.out, ← Hq2.out], HL7⟩
                  case measure => simp [intOf]; omega
                · have e2 : ((k : Int) == (i : Int) - 1) = false := by simp; omega
                  have Hq2 : Hid (false = q) := Lib.hid (by rw [HQ.out, decide_eq_false h1, decide_eq_false h2]; rfl)
                  clear HQ h1 h2
                  clear HG
                  go_wp2_with fail
                  clear c0 c1 c2 c3 c4
                  go_roundw
                  case rel => exact ⟨k + 1, by omega, by go_num, by rw [← Hq0.out, ← Hq2.out], HL7⟩
                  case measure => simp [intOf]; omega
            | false =>
              by_cases h2 : k + 1 = i
              · have e2 : ((k : Int) == (i : Int) - 1) = true := by simp; omega
                have Hq : Hid (q = !gb) := Lib.hid (by rw [HQ.out, decide_eq_true h2]; simp)
                clear HQ h2
                cases gb with
                | true =>
                  have Hq2 : Hid (false = q) := Lib.hid (by rw [Hq.out]; rfl)
                  clear Hq
                  go_wp2_with fail
                  refine (HG.out _).mono ?_; rintro e wx ⟨rfl, ex⟩
                  have HL8 := Lib.hid (HL7.out.x ex)
                  clear ex HL7 c0 c1 c2 c3 c4 HG
                  go_wp2_with fail
                  go_roundw
                  case rel => exact ⟨k + 1, by omega, by go_num, by rw [← Hq0.out, ← Hq2.out], HL8⟩
                  case measure => simp [intOf]; omega
                | false =>
                  have Hq2 : Hid (true = q) := Lib.hid (by rw [Hq.out]; rfl)
                  clear Hq
                  go_wp2_with fail
                  refine (HG.out _).mono ?_; rintro e wx ⟨rfl, ex⟩
                  have HL8 := Lib.hid (HL7.out.x ex)
                  clear ex HL7 c0 c1 c2 c3 c4 HG
                  go_wp2_with fail
                  go_roundw
                  case rel => exact ⟨k + 1, by omega, by go_num, by rw [← Hq0.out, ← Hq2.out], HL8⟩
                  case measure => simp [intOf]; omega
              · have e2 : ((k : Int) == (i : Int) - 1) = false := by simp; omega
                have Hq2 : Hid (false = q) := Lib.hid (by rw [HQ.out, decide_eq_false h2]; simp)
                clear HQ h2
                clear HG
                go_wp2_with fail
                clear c0 c1 c2 c3 c4
                go_roundw
                case rel => exact ⟨k + 1, by omega, by go_num, by rw [← Hq0.out, ← Hq2.out], HL7⟩
                case measure => simp [intOf]; omega
        · obtain rfl : n = k := by omega
          rw [← HLL.out]
          have HPOS : Hid (0 < (blkA L i fs).length) := Lib.hid (by rw [HFS.out]; exact blkA_pos HL0.out i)
          have hmi : m ≤ 256 := by have h1 := HL.out.bm; have h2 := blkN_le L i; rw [← HFS.out] at h2; omega
          cases hLi : L i with
          | true =>
            have HBA : Hid (blkA L i fs = fs ++ [(i, 0)]) := Lib.hid (by unfold blkA; rw [if_pos hLi])
            clear hLi
            go_wp2_with (refine wpl_buildS bl0_len (by decide) (by rfl) rfl ul_br info_br [.tmp 67] (by rfl) (by rfl) (by decide) [(i, 0)] (by rfl) ?_)
            intro g3 w3 y1 xa lo1 r1; refine Lib.hid ?_
            have HL3 := Lib.hid (HL.out.x xa)
            have RV := Lib.hid r1
            clear y1 xa lo1 r1 HL
            go_wp2_with (refine wpl_append_atS (by rfl) rfl ul_br info_br rfl rfl HL3.out.rb rfl (Src.ofRdS ul_br bl0_len RV.out bl0_one) (by simp only [maxLen]; omega) (by omega) ?_)
            intro A4 c4 w4 r3 ch3 ft3; refine Lib.hid ?_
            have HLX : Hid (RbL V A4 (m + 1) c4 (blkA L i fs) An i cn (numR L i) w4) := Lib.hid (by
              rw [HBA.out]
              exact HL3.out.push r3 ch3 ft3)
            clear r3 ch3 ft3 HL3 RV HBA
            obtain ⟨M1, hM1⟩ : ∃ M1, M1 = m + 1 := ⟨_, rfl⟩
            rw [← hM1] at HLX ⊢
            clear hM1
            have hpos : 0 < M1 := by rw [← HLX.out.bm]; exact HPOS.out
            obtain ⟨gb, ob, hAb, _⟩ := HLX.out.rb.some_ (by have := HLX.out.rb.2.1; omega)
            subst hAb
            obtain ⟨mm, hmm⟩ : ∃ mm, mm = M1 - 1 := ⟨_, rfl⟩
            have hmI : (M1 : Int) - 1 = (mm : Int) := by omega
            have hmI2 : (mm : Int) < (M1 : Int) := by omega
            obtain ⟨x8, hx8⟩ : ∃ x, (blkA L i fs)[M1 - 1]? = some x := ⟨(blkA L i fs)[M1 - 1]'(by rw [HLX.out.bm]; omega), List.getElem?_eq_getElem _⟩
            have hc8 := HLX.out.rb.cellAt (k := (M1 - 1) * 3 + 1) (u := .int .i64 (x8.2 : Int)) (by rw [flat_get bl0_len _ (M1 - 1) 1 x8 hx8 (by decide)]; rfl)
            have hf8 := HLX.out.rb.frozenAt (k := (M1 - 1) * 3 + 1) (by have := HLX.out.rb.2.1; omega)
            have HL4 := Lib.hid (HLX.out.to_ (v := i + 1) (by omega))
            rw [← hmm, ← Nat.add_assoc] at hc8 hf8 HL4
            have hi1 : ((i + 1 : Nat) : Int) = (i : Int) + 1 := by omega
            rw [hi1] at HL4
            have HNN : Hid (numN L i = mm) := Lib.hid (by unfold numN; rw [blkN, setTo_len, ← HFS.out, HLX.out.bm, hmm])
            have HFS2 : Hid (setTo (blkA L i fs) (i + 1) = blkN L (i + 1)) := Lib.hid (by rw [blkN, HFS.out])
            have hmb : M1 ≤ 257 := by
              have h1 := HLX.out.bm
              have h2 := (blkA_len (L := L) (m := i) (l := fs)).2
              have h3 := blkN_le L i
              rw [← HFS.out] at h3
              omega
            clear HLX hx8 hmm
            go_wp2_with (refine wpl_build (by rfl) rfl ul_in info_in [.tmp 81] (by rfl) (by rfl) (by decide) (f := intv) [mm] (by rfl) (fun _ => rfl) ?_)
            intro g9 w9 y1 xa lo1 r1; refine Lib.hid ?_
            have HL5 := Lib.hid (HL4.out.x xa)
            have RV := Lib.hid r1
            clear y1 xa lo1 r1 HL4 hc8 hf8
            go_wp2_with (refine wpl_append_at (by rfl) rfl ul_in info_in rfl rfl HL5.out.rn rfl (Src.ofRd ul_in RV.out (fun _ => rfl)) (by simp only [maxLen]; omega) (by omega) ?_)
            intro A10 c10 w10 r3 ch3 ft3; refine Lib.hid ?_
            have HL6 : Hid (RbL V (some ⟨gb, ob, none⟩) M1 c4 (blkN L (i + 1)) A10 (i + 1) c10 (numR L (i + 1)) w10) := Lib.hid (by
              rw [numR_succ, HNN.out, ← HFS2.out]
              exact HL5.out.num (by simpa using r3) ch3 ft3)
            clear r3 ch3 ft3 HL5 RV
            go_wp2_with fail
            go_roundw
            case rel => exact ⟨i + 1, M1, _, c4, A10, c10, by omega, by go_num, rfl, rfl, HL6⟩
            case measure => simp [intOf]; omega
          | false =>
            have HLX : Hid (RbL V Ao m co (blkA L i fs) An i cn (numR L i) wr) := Lib.hid (by
              unfold blkA
              rw [if_neg (by rw [hLi]; decide)]
              exact HL.out)
            clear hLi HL
            have hpos : 0 < m := by rw [← HLX.out.bm]; exact HPOS.out
            obtain ⟨gb, ob, hAb, _⟩ := HLX.out.rb.some_ (by have := HLX.out.rb.2.1; omega)
            subst hAb
            obtain ⟨mm, hmm⟩ : ∃ mm, mm = m - 1 := ⟨_, rfl⟩
            have hmI : (m : Int) - 1 = (mm : Int) := by omega
            have hmI2 : (mm : Int) < (m : Int) := by omega
            obtain ⟨x8, hx8⟩ : ∃ x, (blkA L i fs)[m - 1]? = some x := ⟨(blkA L i fs)[m - 1]'(by rw [HLX.out.bm]; omega), List.getElem?_eq_getElem _⟩
            have hc8 := HLX.out.rb.cellAt (k := (m - 1) * 3 + 1) (u := .int .i64 (x8.2 : Int)) (by rw [flat_get bl0_len _ (m - 1) 1 x8 hx8 (by decide)]; rfl)
            have hf8 := HLX.out.rb.frozenAt (k := (m - 1) * 3 + 1) (by have := HLX.out.rb.2.1; omega)
            have HL4 := Lib.hid (HLX.out.to_ (v := i + 1) (by omega))
            rw [← hmm, ← Nat.add_assoc] at hc8 hf8 HL4
            have hi1 : ((i + 1 : Nat) : Int) = (i : Int) + 1 := by omega
            rw [hi1] at HL4
            have HNN : Hid (numN L i = mm) := Lib.hid (by unfold numN; rw [blkN, setTo_len, ← HFS.out, HLX.out.bm, hmm])
            have HFS2 : Hid (setTo (blkA L i fs) (i + 1) = blkN L (i + 1)) := Lib.hid (by rw [blkN, HFS.out])
            have hmb : m ≤ 257 := by
              have h1 := HLX.out.bm
              have h2 := (blkA_len (L := L) (m := i) (l := fs)).2
              have h3 := blkN_le L i
              rw [← HFS.out] at h3
              omega
            clear HLX hx8 hmm
            go_wp2_with (refine wpl_build (by rfl) rfl ul_in info_in [.tmp 81] (by rfl) (by rfl) (by decide) (f := intv) [mm] (by rfl) (fun _ => rfl) ?_)
            intro g9 w9 y1 xa lo1 r1; refine Lib.hid ?_
            have HL5 := Lib.hid (HL4.out.x xa)
            have RV := Lib.hid r1
            clear y1 xa lo1 r1 HL4 hc8 hf8
            go_wp2_with (refine wpl_append_at (by rfl) rfl ul_in info_in rfl rfl HL5.out.rn rfl (Src.ofRd ul_in RV.out (fun _ => rfl)) (by simp only [maxLen]; omega) (by omega) ?_)
            intro A10 c10 w10 r3 ch3 ft3; refine Lib.hid ?_
            have HL6 : Hid (RbL V (some ⟨gb, ob, none⟩) m co (blkN L (i + 1)) A10 (i + 1) c10 (numR L (i + 1)) w10) := Lib.hid (by
              rw [numR_succ, HNN.out, ← HFS2.out]
              exact HL5.out.num (by simpa using r3) ch3 ft3)
            clear r3 ch3 ft3 HL5 RV
            go_wp2_with fail
            go_roundw
            case rel => exact ⟨i + 1, m, _, co, A10, c10, by omega, by go_num, rfl, rfl, HL6⟩
            case measure => simp [intOf]; omega
    · obtain rfl : n = i := by omega
      have hmi : m ≤ 256 := by have h1 := HL.out.bm; have h2 := blkN_le L n; omega
      have HM0 := Lib.hid HL.out.made
      obtain ⟨gm, om, hAo, _⟩ := HL.out.rb.some_ (by
        have h1 := HL.out.bm
        have h2 := HL.out.rb.2.1
        obtain ⟨n', hn'⟩ : ∃ n', n = n' + 1 := ⟨n - 1, by omega⟩
        have h3 := blkN_pos HL0.out n'
        rw [← hn'] at h3
        omega)
      subst hAo
      obtain ⟨g1, o1, hAn, _⟩ := HL.out.rn.some_ (by have := HL.out.rn.2.1; omega)
      subst hAn
      have HBM := Lib.hid HL.out.bm
      obtain ⟨fs, hfs⟩ : ∃ fs, fs = blkN L n := ⟨_, rfl⟩
      rw [← hfs] at HBM HM0
      have HFS := Lib.hid hfs
      have HXZ : Hid (nxO p (numN L) fs 0 0 = List.replicate m []) := Lib.hid (by rw [nxO_zero, HBM.out])
      rw [← HXZ.out] at HM0
      clear HL hfs HXZ
      go_wp2_with fail
      go_loopw [11] (fun v11 wr => ∃ (b : Nat) (ss : List Sl), b ≤ m ∧ v11 = .int .i64 (b : Int) ∧ Hid (RbM V (some ⟨gm, om, none⟩) m co fs ss (nxO p (numN L) fs b 0) (some ⟨g1, o1, none⟩) n cn (numR L n) wr)) (fun v _ => m - (intOf v).toNat)
      case atStart => exact ⟨0, _, by omega, rfl, HM0⟩
      case round =>
        clear HM0
        obtain ⟨b, ss, hb, rfl, HM⟩ := hrel
        by_cases hlb : b < m
        · have hbI : (b : Int) < (m : Int) := by omega
          obtain ⟨fb, hfb⟩ : ∃ x, fs[b]? = some x := ⟨fs[b]'(by rw [HBM.out]; exact hlb), List.getElem?_eq_getElem _⟩
          have hfx := blkN_hi HL0.out n fb (by rw [← HFS.out]; exact List.mem_of_getElem? hfb)
          obtain ⟨u, hu⟩ : ∃ u, fb.2 = u + 1 := ⟨fb.2 - 1, by omega⟩
          have hun : u < n := by omega
          have huI : ((u + 1 : Nat) : Int) - 1 = (u : Int) := by omega
          have huI2 : (u : Int) + 1 - 1 = (u : Int) := by omega
          have HED : Hid (edB p fs b = edF p u) := Lib.hid (by unfold edB; rw [hfb]; show edF p (fb.2 - 1) = _; rw [hu]; rfl)
          have HFB := Lib.hid hfb
          have HU := Lib.hid hu
          have HO0 : Hid ((nxR p u 0).length = 0) := Lib.hid rfl
          clear hfb hfx hu
          go_wp2_with fail
          go_loopw [12] (fun v12 wr => ∃ (k : Nat) (ss : List Sl), k ≤ n ∧ v12 = .int .i64 (k : Int) ∧ Hid (RbM V (some ⟨gm, om, none⟩) m co fs ss (nxO p (numN L) fs b (nxR p u k).length) (some ⟨g1, o1, none⟩) n cn (numR L n) wr)) (fun v _ => n - (intOf v).toNat)
          case atStart => exact ⟨0, ss, by omega, rfl, HM⟩
          case round =>
            clear HM
            obtain ⟨k, ss, hk, rfl, HM⟩ := hrel
            by_cases hlk : k < n
            · have hkI : (k : Int) < (n : Int) := by omega
              obtain ⟨⟨sA, sn, sc⟩, hsk⟩ : ∃ s, ss[b]? = some s := ⟨ss[b]'(by rw [HM.out.lb.sl]; exact hlb), List.getElem?_eq_getElem _⟩
              obtain ⟨h7, _, _⟩ := HM.out.lb.get HFB.out hsk
              rw [HU.out, ← Nat.add_assoc] at h7
              have HE := Lib.hid (redge_ (some ⟨b2, o2, none⟩) n c p u k wr (H.out.ext (X1.out.t HM.out.ext)) hun (by omega) hlk)
              by_cases hq : k ∈ edF p u
              · rw [decide_eq_true hq] at HE
                have HQ := Lib.hid hq
                have HSK := Lib.hid hsk
                clear hq hsk
                go_wp2_with fail
                refine HE.out.mono ?_; rintro e W1 ⟨rfl, x9⟩
                have HM1 := Lib.hid (HM.out.x x9)
                clear x9 HM HE h7
                obtain ⟨lk, hlk2, hrk⟩ := HM1.out.lb.at_ b _ HSK.out
                obtain rfl : lk = ((edB p fs b).take (nxR p u k).length).map (numN L) := by rw [nxO_at (by rw [HBM.out]; exact hlb)] at hlk2; exact (Option.some.inj hlk2).symm
                obtain ⟨-, hcg, hfg⟩ := HM1.out.lb.get HFB.out HSK.out
                rw [← Nat.add_assoc] at hcg hfg
                have hgf : foot (some ⟨gm, om, none⟩) co gm := ⟨by have := HM1.out.lb.room.2.1; omega, om, rfl⟩
                have hsf : ∀ q, foot sA sc q → foots ss q := fun q hq => ⟨_, List.mem_of_getElem? HSK.out, hq⟩
                have hgl := HM1.out.lb.lt (.inl hgf)
                have h1f : foot (some ⟨g1, o1, none⟩) cn g1 := ⟨by have := HM1.out.rn.2.1; omega, o1, rfl⟩
                have h1l := HM1.out.rn.lt h1f
                obtain ⟨Nk, hNk⟩ : ∃ x, x = numN L k := ⟨_, rfl⟩
                have hcn := HM1.out.rn.cellAt (k := k) (u := intv Nk) (by rw [List.getElem?_map, numR_at hlk, hNk]; rfl)
                unfold intv at hcn
                have hne : g1 ≠ gm := fun e => HM1.out.ap gm (.inl hgf) (by rw [← e]; exact h1f)
                have hsn : sn ≤ 256 := by
                  have h1 := hrk.1
                  rw [List.length_map, List.length_map, List.length_take] at h1
                  have h2 := edF_len p u
                  rw [← HED.out] at h2
                  simp only at h1
                  omega
                have hS9 : ∀ X w9, Ext W1 X → Chg (foot sA sc) X w9 → ((w9.cell? ⟨g1, o1 + k, none⟩ = some (.int .i64 (Nk : Int))) ∧ w9.cell? ⟨gm, om + b * 3 + 2, none⟩ = some (.slice sA sn sc)) ∧ w9.frozen? ⟨gm, om + b * 3 + 2, none⟩ = false := fun X w9 e ch => by
                  have hz := e.size
                  have c1 : ¬ foot sA sc g1 := fun hf => HM1.out.ap g1 (.inr (hsf _ hf)) h1f
                  have cg : ¬ foot sA sc gm := fun hf => HM1.out.lb.outer gm (hsf _ hf) hgf
                  exact ⟨⟨(ch.cell (p := ⟨g1, o1 + k, none⟩) (by show g1 < _; omega) c1).trans ((e.cell (p := ⟨g1, o1 + k, none⟩) h1l).trans hcn), (ch.cell (p := ⟨gm, om + b * 3 + 2, none⟩) (by show gm < _; omega) cg).trans ((e.cell (p := ⟨gm, om + b * 3 + 2, none⟩) hgl).trans hcg)⟩, (ch.frozen (p := ⟨gm, om + b * 3 + 2, none⟩) (by show gm < _; omega) cg).trans ((e.frozen (p := ⟨gm, om + b * 3 + 2, none⟩) hgl).trans hfg)⟩
                have HS9 := Lib.hid hS9
                have HRj := Lib.hid (hrk.ext (Ext.drew W1))
                have Hne := Lib.hid hne
                have HG := Lib.hid (fun X w9 A9 c9 (e : Ext W1 X) (r : RoomS 1 w9 A9 (sn + 1) c9 ((((edB p fs b).take (nxR p u k).length).map (numN L)).map intv ++ intC Nk)) (ch : Chg (foot sA sc) X w9) (ft : ∀ q, foot A9 c9 q → foot sA sc q ∨ X.heap.size ≤ q) => (HM1.out.x e).grow (s2 := ⟨A9, sn + 1, c9⟩) (l2 := ((edB p fs b).take (nxR p u k).length).map (numN L) ++ [numN L k]) HSK.out (by rw [List.map_append, List.map_singleton, ← hNk]; exact r.room) ch ft)
                have HNXT : Hid (nxO p (numN L) fs b (nxR p u (k + 1)).length = (nxO p (numN L) fs b (nxR p u k).length).set b (((edB p fs b).take (nxR p u k).length).map (numN L) ++ [numN L k])) := Lib.hid (by
                  rw [nxR_len1 HQ.out]
                  exact nxO_step (by rw [HBM.out]; exact hlb) (by rw [HED.out]; exact nxR_at HP.out (by rw [Hl.out]; exact hlk) HQ.out))
                obtain ⟨Lk, hLk⟩ : ∃ l, l = ((edB p fs b).take (nxR p u k).length).map (numN L) := ⟨_, rfl⟩
                rw [← hLk] at HRj HG HNXT
                have HS0 := Lib.hid (hS9 W1.drew W1.drew (Ext.drew _) (Chg.refl _ _)).1
                clear hS9 hrk hcg hfg hgf hsf hgl h1f h1l hNk hcn hne hlk2 hLk HM1 HQ
                go_upto_region 25 with fail
                refine wp_region_held_drew (S := fun w' => w'.cell? ⟨g1, o1 + k, none⟩ = some (.int .i64 (Nk : Int))) (by kernel_rfl) HS0.out.1 (fun hS0 => ?_)
                have HSt := Lib.hid HS0.out.1
                clear hS0
                refine take_heldS (i := 0) (j := 105) (v := .slice (some ⟨gm, om, none⟩) m co) rfl rfl (by as_aux_lemma => kernel_rfl) (by as_aux_lemma => kernel_rfl) (by as_aux_lemma => kernel_rfl) (fun _ _ _ h => h) (Or.inl ⟨by rfl, fun w' hw' => by have q0 := hw'; go_simp; try rfl⟩) HSt.out ?_
                simp only [Act.put, List.setIfInBounds_toArray, List.set_cons_zero, List.set_cons_succ]
                refine take_heldS (i := 1) (j := 106) (v := .int .i64 (b : Int)) rfl rfl (by as_aux_lemma => kernel_rfl) (by as_aux_lemma => kernel_rfl) (by as_aux_lemma => kernel_rfl) (fun _ _ _ h => h) (Or.inl ⟨by rfl, fun w' hw' => by have q0 := hw'; go_simp; try rfl⟩) HSt.out ?_
                simp only [Act.put, List.setIfInBounds_toArray, List.set_cons_zero, List.set_cons_succ]
                refine take_heldS (i := 2) (j := 107) (v := .slice (some ⟨gm, om, none⟩) m co) rfl rfl (by as_aux_lemma => kernel_rfl) (by as_aux_lemma => kernel_rfl) (by as_aux_lemma => kernel_rfl) (fun _ _ _ h => h) (Or.inl ⟨by rfl, fun w' hw' => by have q0 := hw'; go_simp; try rfl⟩) HSt.out ?_
                simp only [Act.put, List.setIfInBounds_toArray, List.set_cons_zero, List.set_cons_succ]
                refine take_heldS (i := 3) (j := 108) (v := .int .i64 (b : Int)) rfl rfl (by as_aux_lemma => kernel_rfl) (by as_aux_lemma => kernel_rfl) (by as_aux_lemma => kernel_rfl) (fun _ _ _ h => h) (Or.inl ⟨by rfl, fun w' hw' => by have q0 := hw'; go_simp; try rfl⟩) HSt.out ?_
                simp only [Act.put, List.setIfInBounds_toArray, List.set_cons_zero, List.set_cons_succ]
                refine take_heldS (i := 4) (j := 109) (v := .pointer (some ⟨gm, om + b * 3, none⟩)) rfl rfl (by as_aux_lemma => kernel_rfl) (by as_aux_lemma => kernel_rfl) (by as_aux_lemma => kernel_rfl) (fun _ _ _ h => h) (Or.inl ⟨by rfl, fun w' hw' => by have q0 := hw'; go_simp; try rfl⟩) HSt.out ?_
                simp only [Act.put, List.setIfInBounds_toArray, List.set_cons_zero, List.set_cons_succ]
                refine take_heldS (i := 5) (j := 110) (v := .pointer (some ⟨gm, om + b * 3 + 2, none⟩)) rfl rfl (by as_aux_lemma => kernel_rfl) (by as_aux_lemma => kernel_rfl) (by as_aux_lemma => kernel_rfl) (fun _ _ _ h => h) (Or.inl ⟨by rfl, fun w' hw' => by have q0 := hw'; go_simp; try rfl⟩) HSt.out ?_
                simp only [Act.put, List.setIfInBounds_toArray, List.set_cons_zero, List.set_cons_succ]
                refine take_heldS (i := 7) (j := 112) (v := .slice (some ⟨g1, o1, none⟩) n cn) rfl rfl (by as_aux_lemma => kernel_rfl) (by as_aux_lemma => kernel_rfl) (by as_aux_lemma => kernel_rfl) (fun _ _ _ h => h) (Or.inl ⟨by rfl, fun w' hw' => by have q0 := hw'; go_simp; try rfl⟩) HSt.out ?_
                simp only [Act.put, List.setIfInBounds_toArray, List.set_cons_zero, List.set_cons_succ]
                refine take_heldS (i := 8) (j := 113) (v := .int .i64 (k : Int)) rfl rfl (by as_aux_lemma => kernel_rfl) (by as_aux_lemma => kernel_rfl) (by as_aux_lemma => kernel_rfl) (fun _ _ _ h => h) (Or.inl ⟨by rfl, fun w' hw' => by have q0 := hw'; go_simp; try rfl⟩) HSt.out ?_
                simp only [Act.put, List.setIfInBounds_toArray, List.set_cons_zero, List.set_cons_succ]
                refine take_heldS (i := 9) (j := 114) (v := .pointer (some ⟨g1, o1 + k, none⟩)) rfl rfl (by as_aux_lemma => kernel_rfl) (by as_aux_lemma => kernel_rfl) (by as_aux_lemma => kernel_rfl) (fun _ _ _ h => h) (Or.inl ⟨by rfl, fun w' hw' => by have q0 := hw'; go_simp; try rfl⟩) HSt.out ?_
                simp only [Act.put, List.setIfInBounds_toArray, List.set_cons_zero, List.set_cons_succ]
                refine take_heldS (i := 10) (j := 115) (v := .int .i64 (Nk : Int)) rfl rfl (by as_aux_lemma => kernel_rfl) (by as_aux_lemma => kernel_rfl) (by as_aux_lemma => kernel_rfl) (fun _ _ _ h => h) (Or.inl ⟨by rfl, fun w' hw' => by have q0 := hw'; go_simp; try rfl⟩) HSt.out ?_
                simp only [Act.put, List.setIfInBounds_toArray, List.set_cons_zero, List.set_cons_succ]
                refine wpAnyH_ready (rs := [6, 11]) (by kernel_rfl) (by simp) (AllReadyH.cons rfl (fun K hK => ?_) (AllReadyH.cons rfl (fun K hK => ?_) AllReadyH.nil))
                · have q4 := HS0.out.2
                  go_simp
                  refine hK.out _ _ HSt.out (fun hS2 => ?_)
                  clear hK K q4 hS2
                  refine wpAnyH_ready (rs := [11]) (by kernel_rfl) (by simp) (AllReadyH.cons rfl (fun K hK => ?_) AllReadyH.nil)
                  go_simp
                  refine hK.out _ _ (HS9.out _ _ ((Ext.drew W1).t (Ext.alloc _ _)) (Chg.refl _ _)).1.1 (fun hS2 => ?_)
                  clear hK K hS2
                  refine wpAnyH_ready (rs := [12]) (by kernel_rfl) (by simp) (AllReadyH.cons rfl (fun K hK => ?_) AllReadyH.nil)
                  refine step_append_atS rfl rfl ul_in info_in rfl rfl ((HRj.out.ext (Ext.alloc _ _)).roomS) rfl (Src.ofRdS ul_in intC_len (rdS_one intC_len _ _ Nk rfl) intC_one) (by simp only [maxLen]; omega) (by omega) ?_
                  intro A9 c9 w9 r9 ch9 ft9
                  obtain ⟨hS9, hF9⟩ := HS9.out _ w9 ((Ext.drew W1).t (Ext.alloc _ _)) ch9
                  have HGr := Lib.hid (HG.out _ w9 A9 c9 ((Ext.drew W1).t (Ext.alloc _ _)) (by simpa using r9) ch9 ft9)
                  refine hK.out _ _ hS9.1 (fun hS2 => ?_)
                  clear hK K r9 ch9 ft9 HG hS2
                  simp only [Act.put, List.setIfInBounds_toArray]
                  have hr : om + (b * 3 + 2) = om + b * 3 + 2 := by omega
                  rw [hr] at HGr
                  clear hr
                  have HSl : Hid ((w9.setCell ⟨gm, om + b * 3 + 2, none⟩ (.slice A9 (sn + 1) c9)).cell? ⟨g1, o1 + k, none⟩ = some (.int .i64 (Nk : Int))) := Lib.hid ((World.cell?_setCell_other _ _ _ _ (by first | (simp; done) | (simp; intro e; exact absurd e Hne.out) | (simp; intro e; exact absurd e.symm Hne.out) | (intro e; simp at e; first | exact absurd e.1 Hne.out | exact absurd e Hne.out | exact absurd e.symm Hne.out))).trans hS9.1)
                  refine take_heldS (i := 13) (j := 118) (v := .pointer (some ⟨gm, om + b * 3, none⟩)) rfl rfl (by as_aux_lemma => kernel_rfl) (by as_aux_lemma => kernel_rfl) (by as_aux_lemma => kernel_rfl) (fun _ _ _ h => h) (Or.inl ⟨by rfl, fun w' hw' => by have q0 := hw'; go_simp; try rfl⟩) hS9.1 ?_
                  simp only [Act.put]
                  refine take_heldS (i := 14) (j := 119) (v := .pointer (some ⟨gm, om + b * 3 + 2, none⟩)) rfl rfl (by as_aux_lemma => kernel_rfl) (by as_aux_lemma => kernel_rfl) (by as_aux_lemma => kernel_rfl) (fun _ _ _ h => h) (Or.inl ⟨by rfl, fun w' hw' => by have q0 := hw'; go_simp; try rfl⟩) hS9.1 ?_
                  simp only [Act.put]
                  obtain ⟨-, h9c⟩ := hS9
                  refine wpAnyH_ready (rs := [15]) (by kernel_rfl) (by simp) (AllReadyH.cons rfl (fun K hK => ?_) AllReadyH.nil)
                  go_simp
                  refine hK.out _ _ HSl.out (fun hS2 => ?_)
                  clear hK K hS2
                  refine wpAnyH_done (by kernel_rfl) ?_ _
                  have HGn := Lib.hid HGr.out
                  rw [← HNXT.out] at HGn
                  clear HGr HSl HNXT
                  go_wp2_with fail
                  go_roundw
                  case rel => exact ⟨k + 1, _, by omega, by go_num, by first | exact HGn | exact Lib.hid (HGn.out.x (Ext.drew _))⟩
                  case measure => simp [intOf]; omega
                · go_simp
                  refine hK.out _ _ (HS9.out _ _ ((Ext.drew W1).t (Ext.alloc _ _)) (Chg.refl _ _)).1.1 (fun hS2 => ?_)
                  clear hK K hS2
                  refine wpAnyH_ready (rs := [6]) (by kernel_rfl) (by simp) (AllReadyH.cons rfl (fun K hK => ?_) AllReadyH.nil)
                  have q5 := (HS9.out _ _ ((Ext.drew W1).t (Ext.alloc _ (.cells #[.int .i64 (Nk : Int)] 3))) (Chg.refl _ _)).1
                  have q6 : W1.cell? ⟨gm, om + b * 3 + 2, none⟩ = some (.slice sA sn sc) := HS0.out.2
                  have q7 : (W1.alloc (.cells #[.int .i64 (Nk : Int)] 3)).cell? ⟨gm, om + b * 3 + 2, none⟩ = some (.slice sA sn sc) := (HS9.out _ _ (Ext.alloc W1 _) (Chg.refl _ _)).1.2
                  obtain ⟨q5a, q4⟩ := q5
                  go_simp
                  refine hK.out _ _ q5a (fun hS2 => ?_)
                  clear hK K q4 q5a q6 q7 hS2
                  refine wpAnyH_ready (rs := [12]) (by kernel_rfl) (by simp) (AllReadyH.cons rfl (fun K hK => ?_) AllReadyH.nil)
                  refine step_append_atS rfl rfl ul_in info_in rfl rfl ((HRj.out.ext (Ext.alloc _ _)).roomS) rfl (Src.ofRdS ul_in intC_len (rdS_one intC_len _ _ Nk rfl) intC_one) (by simp only [maxLen]; omega) (by omega) ?_
                  intro A9 c9 w9 r9 ch9 ft9
                  obtain ⟨hS9, hF9⟩ := HS9.out _ w9 ((Ext.drew W1).t (Ext.alloc _ _)) ch9
                  have HGr := Lib.hid (HG.out _ w9 A9 c9 ((Ext.drew W1).t (Ext.alloc _ _)) (by simpa using r9) ch9 ft9)
                  refine hK.out _ _ hS9.1 (fun hS2 => ?_)
                  clear hK K r9 ch9 ft9 HG hS2
                  simp only [Act.put, List.setIfInBounds_toArray]
                  have hr : om + (b * 3 + 2) = om + b * 3 + 2 := by omega
                  rw [hr] at HGr
                  clear hr
                  have HSl : Hid ((w9.setCell ⟨gm, om + b * 3 + 2, none⟩ (.slice A9 (sn + 1) c9)).cell? ⟨g1, o1 + k, none⟩ = some (.int .i64 (Nk : Int))) := Lib.hid ((World.cell?_setCell_other _ _ _ _ (by first | (simp; done) | (simp; intro e; exact absurd e Hne.out) | (simp; intro e; exact absurd e.symm Hne.out) | (intro e; simp at e; first | exact absurd e.1 Hne.out | exact absurd e Hne.out | exact absurd e.symm Hne.out))).trans hS9.1)
                  refine take_heldS (i := 13) (j := 118) (v := .pointer (some ⟨gm, om + b * 3, none⟩)) rfl rfl (by as_aux_lemma => kernel_rfl) (by as_aux_lemma => kernel_rfl) (by as_aux_lemma => kernel_rfl) (fun _ _ _ h => h) (Or.inl ⟨by rfl, fun w' hw' => by have q0 := hw'; go_simp; try rfl⟩) hS9.1 ?_
                  simp only [Act.put]
                  refine take_heldS (i := 14) (j := 119) (v := .pointer (some ⟨gm, om + b * 3 + 2, none⟩)) rfl rfl (by as_aux_lemma => kernel_rfl) (by as_aux_lemma => kernel_rfl) (by as_aux_lemma => kernel_rfl) (fun _ _ _ h => h) (Or.inl ⟨by rfl, fun w' hw' => by have q0 := hw'; go_simp; try rfl⟩) hS9.1 ?_
                  simp only [Act.put]
                  obtain ⟨-, h9c⟩ := hS9
                  refine wpAnyH_ready (rs := [15]) (by kernel_rfl) (by simp) (AllReadyH.cons rfl (fun K hK => ?_) AllReadyH.nil)
                  go_simp
                  refine hK.out _ _ HSl.out (fun hS2 => ?_)
                  clear hK K hS2
                  refine wpAnyH_done (by kernel_rfl) ?_ _
                  have HGn := Lib.hid HGr.out
                  rw [← HNXT.out] at HGn
                  clear HGr HSl HNXT
                  go_wp2_with fail
                  go_roundw
                  case rel => exact ⟨k + 1, _, by omega, by go_num, by first | exact HGn | exact Lib.hid (HGn.out.x (Ext.drew _))⟩
                  case measure => simp [intOf]; omega
              · rw [decide_eq_false hq] at HE
                have HX : Hid ((nxR p u (k + 1)).length = (nxR p u k).length) := Lib.hid (nxR_len0 hq)
                clear hq hsk
                go_wp2_with fail
                refine HE.out.mono ?_; rintro e W1 ⟨rfl, x9⟩
                have HM1 := Lib.hid (HM.out.x x9)
                clear x9 HM HE h7
                go_wp2_with fail
                go_roundw
                case rel => exact ⟨k + 1, ss, by omega, by go_num, Lib.hid (by rw [HX.out]; exact HM1.out)⟩
                case measure => simp [intOf]; omega
            · obtain rfl : n = k := by omega
              have HX : Hid ((nxR p u n).length = (edB p fs b).length) := Lib.hid (by rw [HED.out]; conv => lhs; rw [← Hl.out, nxR_end HP.out])
              have HM2 : Hid (RbM V (some ⟨gm, om, none⟩) m co fs ss (nxO p (numN L) fs (b + 1) 0) (some ⟨g1, o1, none⟩) n cn (numR L n) wr) := Lib.hid (by
                have h1 := HM.out
                rw [HX.out, nxO_all] at h1
                exact h1)
              clear HM
              go_wp2_with fail
              go_roundw
              case rel => exact ⟨b + 1, ss, by omega, by go_num, HM2⟩
              case measure => simp [intOf]; omega
        · obtain rfl : m = b := by omega
          have HF : Hid (Lsb V.heap.size wr (some ⟨gm, om, none⟩) m co fs ss (fs.map (fun x => (edF p (x.2 - 1)).map (numN L)))) := Lib.hid (by
            have h1 := HM.out.lb
            rw [← nxO_end, HBM.out]
            exact h1)
          have HX := Lib.hid HM.out.ext
          clear HM
          go_wp2_with fail
          go_ret2
          refine ⟨_, m, co, ss, rfl, by rw [← HLL.out, ← HFS.out, HBM.out], ?_, X1.out.t HX.out⟩
          rw [← HLL.out, ← HFS.out]
          have h1 := HF.out
          exact ⟨h1.room, h1.fl, h1.sl, h1.len, h1.at_, fun k hk => Nat.le_trans X1.out.size (h1.new k hk), h1.outer, h1.apart⟩
theorem rblk_bad (A : Option Addr) (n c : Nat) (p : List Ins) (w : World) (h : RdS 5 insC w A n p) (h0 : (checkF p).2 ≠ 0) :
    Calls Try.prog 50 #[.slice A n c] w fun e w' => e = .returned (.tuple #[.slice none 0 0, .int .i64 160]) ∧ Ext w w' := by
  have HR := Lib.hid (rright_ A n c p w h)
  rw [decide_eq_false h0] at HR
  clear h h0
  go_enter Try.func50, Try.ntmps50
  go_wp2_with fail
  refine HR.out.mono ?_; rintro e w1 ⟨rfl, e1⟩
  have E1 := Lib.hid e1
  clear e1
  go_wp2_with fail
  go_ret2
  exact ⟨rfl, E1.out⟩
end Go.Proofs.Ytlneifgihdickaa
