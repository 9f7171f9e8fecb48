/- Seg: a region that draws its order, in stretches of operations that only read, each followed by one that nobody behind it precedes: each stretch walked once, in the order of the text. No condition. -/
import Derived.StillTailTactics
import Derived.Deep.RegionLaw
namespace Go.Fx
section
variable {P : Program} {ops : Array Oper} {md : Region.Mode} {w : World}
/-- Whoever stands behind n waits for one from n on. -/
def chainW (md : Region.Mode) (ops : Array Oper) (n : Nat) : Bool :=
  (List.range ops.size).all fun t => decide (t ≤ n) || (List.range t).any fun t' => decide (n ≤ t') && Region.waitsFor md ops t t'
/-- The operations listed are closed; none from n on is. -/
def invB (md : Region.Mode) (ops : Array Oper) (n : Nat) (listed : Array Bool) : Bool :=
  decide (listed.size = ops.size) && ((List.range ops.size).all fun j => !(listed.getD j false) || (match ops[j]? with | some o => o.after.all fun e => !(Region.binds md e) || listed.getD e.on false | none => true)) &&
    ((List.range ops.size).all fun t => decide (t < n) || !(listed.getD t true))
theorem inv_of {n : Nat} {listed : Array Bool} (h : invB md ops n listed = true) : HeadInv md ops n listed := by
  simp only [invB, Bool.and_eq_true, decide_eq_true_eq] at h
  obtain ⟨⟨h1, h2⟩, h3⟩ := h
  refine ⟨h1, fun j oj hj hl e he hb => ?_, fun t ht ht' => ?_⟩
  · have := List.all_eq_true.1 h2 j (List.mem_range.2 (Array.getElem?_eq_some_iff.1 hj).1)
    rw [hl, hj] at this
    simp only [Bool.not_true, Bool.false_or] at this
    obtain ⟨i, hi, rfl⟩ := Array.getElem_of_mem he
    have := (Array.all_eq_true.1 this) i hi
    rw [hb] at this
    simpa using this
  · have := List.all_eq_true.1 h3 t (List.mem_range.2 ht')
    simp only [Bool.or_eq_true, decide_eq_true_eq, Bool.not_eq_true'] at this
    exact this.elim (fun h => by omega) id
/-- Each from k on, before n, is waited for by one up to n. -/
def sinkK (md : Region.Mode) (ops : Array Oper) (k n : Nat) : Bool :=
  (List.range n).all fun i => decide (i < k) || (List.range (n + 1)).any fun j => decide (i < j) && Region.waitsFor md ops j i
theorem sink_key {k n : Nat} {listed : Array Bool} (hs : sinkK md ops k n = true) (hn : n < ops.size) (hsz : listed.size = ops.size) (hcl : ∀ j oj, ops[j]? = some oj → listed.getD j false = true → ∀ e ∈ oj.after, Region.binds md e = true → listed.getD e.on false = true) (hk : ∀ i, i < k → listed.getD i false = true) :
    ∀ (d i : Nat), n - i ≤ d → i < n → listed.getD i true = false → n ∉ Region.ready md ops listed ∧ listed.getD n false = false := by
  intro d
  induction d with
  | zero => intro i h1 h2; omega
  | succ d ih =>
    intro i hd hi hun
    have hki : ¬ i < k := fun h => by have := hk i h; rw [getD_both hun] at this; cases this
    have h0 := List.all_eq_true.1 hs i (List.mem_range.2 hi)
    simp only [Bool.or_eq_true, decide_eq_true_eq] at h0
    obtain ⟨j, hj, hj2⟩ := List.any_eq_true.1 (h0.resolve_left hki)
    simp only [Bool.and_eq_true, decide_eq_true_eq] at hj2
    have hjn := List.mem_range.1 hj
    obtain ⟨oj, hoj, e, he, hb, heq⟩ := Region.waitsFor_spec hj2.2
    have hjun : listed.getD j false = false := by
      cases hl : listed.getD j false with
      | true =>
        have := hcl j oj hoj hl e he hb
        rw [heq, getD_both hun] at this
        cases this
      | false => rfl
    rcases Nat.lt_or_ge j n with hlt | hge
    · exact ih j (by omega) hlt (getD_in (by rw [hsz]; omega) hjun)
    · have e1 : j = n := by omega
      subst e1
      refine ⟨fun hr => ?_, hjun⟩
      obtain ⟨_, on, hon, hall⟩ := mem_ready.1 hr
      rw [hon] at hoj
      cases hoj
      have := hall e he hb
      rw [heq, getD_both hun] at this
      cases this
/-- While one of the stretch is not listed nobody behind it comes up. -/
def Waits (md : Region.Mode) (ops : Array Oper) (k n : Nat) : Prop :=
  ∀ listed : Array Bool, HeadInv md ops n listed → (∀ i, i < k → listed.getD i false = true) → ∀ i, i < n → listed.getD i true = false → ∀ t, n ≤ t → t ∉ Region.ready md ops listed
/-- .. where n is one that all behind it wait for. -/
theorem waits_bar {k n : Nat} (hs : sinkK md ops k n = true) (hc : chainW md ops n = true) (hn : n < ops.size) : Waits md ops k n := by
  intro listed inv hk i hi hun t ht hr
  by_cases e1 : t = n
  · subst e1; exact (sink_key hs hn inv.size inv.closed hk _ i (Nat.le_refl _) hi hun).1 hr
  · obtain ⟨_, ot, hot, hall⟩ := mem_ready.1 hr
    have htl := (Array.getElem?_eq_some_iff.1 hot).1
    have h1 := List.all_eq_true.1 hc t (List.mem_range.2 htl)
    simp only [Bool.or_eq_true, decide_eq_true_eq] at h1
    rcases h1 with h1 | h1
    · omega
    · obtain ⟨t', ht', h2⟩ := List.any_eq_true.1 h1
      simp only [Bool.and_eq_true, decide_eq_true_eq] at h2
      obtain ⟨o', ho', e, he, hb, heq⟩ := Region.waitsFor_spec h2.2
      rw [hot] at ho'
      cases ho'
      have h3 := hall e he hb
      have htt := List.mem_range.1 ht'
      rw [heq, getD_both (inv.tail t' h2.1 (by omega))] at h3
      cases h3
/-- .. where the last one of the stretch is such a one. -/
theorem waits_gate {k m : Nat} (hs : sinkK md ops k m = true) (hc : chainW md ops m = true) (hn : m < ops.size) : Waits md ops k (m + 1) := by
  intro listed inv hk i hi hun t ht hr
  have hm : listed.getD m false = false := by
    by_cases e1 : i = m
    · subst e1; exact getD_both hun
    · exact (sink_key hs hn inv.size inv.closed hk _ i (Nat.le_refl _) (by omega) hun).2
  obtain ⟨_, ot, hot, hall⟩ := mem_ready.1 hr
  have htl := (Array.getElem?_eq_some_iff.1 hot).1
  have h1 := List.all_eq_true.1 hc t (List.mem_range.2 htl)
  simp only [Bool.or_eq_true, decide_eq_true_eq] at h1
  rcases h1 with h1 | h1
  · omega
  · obtain ⟨t', ht', h2⟩ := List.any_eq_true.1 h1
    simp only [Bool.and_eq_true, decide_eq_true_eq] at h2
    obtain ⟨o', ho', e, he, hb, heq⟩ := Region.waitsFor_spec h2.2
    rw [hot] at ho'
    cases ho'
    have h3 := hall e he hb
    have htt := List.mem_range.1 ht'
    rw [heq] at h3
    by_cases e2 : t' = m
    · subst e2; rw [hm] at h3; cases h3
    · rw [getD_both (inv.tail t' (by omega) (by omega))] at h3; cases h3
/-- One operation of the stretch may be taken first. -/
theorem seg_first {k0 n i : Nat} {oi : Oper} {v : Value} {L : Array Bool → Act → Prop} (hi : ops[i]? = some oi) (hsel : ∀ (j : Nat) (o : Oper) cs b, ops[j]? = some o → o.op ≠ .select cs b)
    (hw : Waits md ops k0 n) (hL : ∀ listed a, L listed a → ∀ j ∈ Region.ready md ops listed, n ≤ j) :
    ∀ (f : Nat) (listed : Array Bool) (a : Act), HeadInv md ops n listed → (∀ i, i < k0 → listed.getD i false = true) →
      (∀ j oj, ops[j]? = some oj → j ≠ i → listed.getD j true = false → (∀ e ∈ oj.after, Region.binds md e = true → e.on ≠ i) → oi.apart ops oj = true) →
      i < n → i ∈ Region.ready md ops listed → YieldsAt P ops w oi v a →
      wpAnyL P md ops w n L f (listed.setIfInBounds i true) (a.put oi.dst v) → wpAnyL P md ops w n L (f + 1) listed a
  | f, listed, a, inv, hk, hfree, hin, hr, hy, H => by
    have hun := (mem_ready.1 hr).1
    refine ⟨fun h => (by rw [h] at hr; cases hr), fun j hj => ?_⟩
    have hjn : j < n := Nat.lt_of_not_ge fun h => hw listed inv hk i hin hun j h hj
    refine ⟨hjn, ?_⟩
    by_cases hji : j = i
    · subst hji; exact hy.stOp hi H
    · cases f with
      | zero => exact absurd (hL _ _ H j (ready_mono hj hji)) (by omega)
      | succ f =>
        have h1 := (H.2 j (ready_mono hj hji)).2
        obtain ⟨hjun, oj, hoj, hall⟩ := mem_ready.1 hj
        have hnot : ∀ e ∈ oj.after, Region.binds md e = true → e.on ≠ i := fun e he hb heq => by
          have h3 := hall e he hb
          rw [heq, getD_both hun] at h3
          cases h3
        have h2 := stOp_put hoj (hfree j oj hoj hji hjun hnot) (fun cs b => hsel i oi cs b hi) (fun cs b => hsel j oj cs b hoj) hy h1
        have hk' : ∀ i, i < k0 → (listed.setIfInBounds j true).getD i false = true := fun i h => by
          by_cases hij : j = i
          · subst hij; have := hk j h; rw [getD_both hjun] at this; cases this
          · rw [getD_set_ne false hij]; exact hk i h
        refine stOp_mono (fun a' h3 => seg_first hi hsel hw hL f _ a' (inv.set hj hjn) hk' (fun k ok hk hki hu hno => hfree k ok hk hki ?_ hno) hin (ready_mono hr (Ne.symm hji)) h3.1 (by rw [Array.setIfInBounds_comm _ _ hji]; exact h3.2)) h2
        by_cases hjk : j = k
        · subst hjk; exact hjun
        · rw [getD_set_ne true hjk] at hu; exact hu
/-- The stretch of f operations from k on, in the order of the text; behind it none of it comes up. -/
def segL (md : Region.Mode) (ops : Array Oper) (n : Nat) : Nat → Nat → Array Bool → Bool
  | 0, _, listed => (Region.ready md ops listed).all fun j => decide (n ≤ j)
  | f + 1, k, listed => (Region.ready md ops listed).contains k && Region.free md ops listed k && segL md ops n f (k + 1) (listed.setIfInBounds k true)
def setL : Nat → Nat → Array Bool → Array Bool
  | 0, _, listed => listed
  | f + 1, k, listed => setL f (k + 1) (listed.setIfInBounds k true)
theorem seg_lex {k0 n : Nat} {Lq : Act → Prop} (hsel : Region.noSelect ops = true) (hw : Waits md ops k0 n) :
    ∀ (l : List Oper) (k : Nat) (listed : Array Bool) (a : Act), (∀ j, j < l.length → l[j]? = ops[k + j]?) → k + l.length = n → HeadInv md ops n listed → (∀ i, i < k0 → listed.getD i false = true) → k0 ≤ k →
    segL md ops n l.length k listed = true → wpStill P ops w Lq l a →
    wpAnyL P md ops w n (fun listed' a' => (∀ j ∈ Region.ready md ops listed', n ≤ j) ∧ listed' = setL l.length k listed ∧ Lq a') l.length listed a
  | [], k, listed, a, _, hk, _, _, _, hB, h => by
    refine ⟨fun j hj => ?_, rfl, h⟩
    have h1 := List.all_eq_true.1 (show (Region.ready md ops listed).all (fun j => decide (n ≤ j)) = true from hB) j hj
    simpa using h1
  | o :: l, k, listed, a, hl, hk, inv, hk0, hkk, hB, h => by
    have h0 : ops[k]? = some o := by simpa using (hl 0 (by simp)).symm
    simp only [List.length_cons, segL, Bool.and_eq_true] at hB
    simp only [List.length_cons] at hk
    obtain ⟨⟨hr, hf⟩, hB'⟩ := hB
    have hr' : k ∈ Region.ready md ops listed := by simpa using hr
    have hst : stOp P ops w k (wpStill P ops w Lq l) a := by unfold stOp; simp only [h0]; exact h
    obtain ⟨v, hy, hK⟩ := yieldsAt_of_stOp h0 hst
    exact seg_first h0 (Region.noSelect_spec hsel) hw (fun _ _ hL => hL.1) l.length listed a inv hk0 (Region.free_spec h0 hf) (by omega) hr' hy
      (seg_lex hsel hw l (k + 1) _ _ (fun j hj => by have := hl (j + 1) (by simp; omega); simpa [Nat.add_assoc, Nat.add_comm 1 j] using this) (by omega) (inv.set hr' (by omega)) (fun i h => by rw [getD_set_ne false (by omega)]; exact hk0 i h) (by omega) hB' hK)
def headB (_ops : Array Oper) (k : Nat) (listed : Array Bool) : Bool := (List.range k).all fun i => listed.getD i false
theorem head_of {k : Nat} {listed : Array Bool} (h : headB ops k listed = true) : ∀ i, i < k → listed.getD i false = true := fun i hi => List.all_eq_true.1 h i (List.mem_range.2 hi)
/-- gate: whether the last operation of the stretch is the one that all behind wait for; else it is the next one. -/
def segB (md : Region.Mode) (ops : Array Oper) (gate : Bool) (f k : Nat) (listed : Array Bool) : Bool :=
  Region.noSelect ops && decide (0 < f) && decide (k + f < ops.size) && (if gate then sinkK md ops k (k + f - 1) && chainW md ops (k + f - 1) else sinkK md ops k (k + f) && chainW md ops (k + f)) && invB md ops (k + f) listed && headB ops k listed && segL md ops (k + f) f k listed
theorem wpAny_seg {l : List Oper} {Q : Exit → Act → World → Prop} {listed : Array Bool} {a : Act} (gate : Bool) (f k g : Nat) (hB : segB md l.toArray gate f k listed = true)
    (h : wpStill P l.toArray w (fun a' => wpAny P md l.toArray Q g (setL f k listed) a' w) ((l.drop k).take f) a) : wpAny P md l.toArray Q (f + g) listed a w := by
  simp only [segB, Bool.and_eq_true, decide_eq_true_eq] at hB
  obtain ⟨⟨⟨⟨⟨⟨hsel, hf0⟩, hn⟩, hs⟩, hi⟩, hh⟩, hg⟩ := hB
  have hw : Waits md l.toArray k (k + f) := by
    cases gate with
    | true =>
      simp only [if_true, Bool.and_eq_true] at hs
      have := waits_gate hs.1 hs.2 (by omega)
      rwa [show k + f - 1 + 1 = k + f by omega] at this
    | false =>
      simp only [Bool.false_eq_true, if_false, Bool.and_eq_true] at hs
      exact waits_bar hs.1 hs.2 hn
  have hlen : ((l.drop k).take f).length = f := by
    rw [List.length_take, List.length_drop]
    simp at hn; omega
  have h1 := seg_lex (P := P) (w := w) hsel hw ((l.drop k).take f) k listed a (fun j hj => by
    rw [List.getElem?_take, if_pos (by omega), List.getElem?_drop]; simp) (by omega) (inv_of hi) (head_of hh) (Nat.le_refl _) (by rw [hlen]; exact hg) h
  rw [hlen] at h1
  exact wpAny_of_head (n := k + f) (L := fun listed' a' => (∀ j ∈ Region.ready md l.toArray listed', k + f ≤ j) ∧ listed' = setL f k listed ∧ wpAny P md l.toArray Q g (setL f k listed) a' w) (fun _ _ ⟨_, e, h⟩ => by rw [e]; exact h) f listed a h1
theorem wp_region_seg {id : Nat} {Q : Exit → Act → World → Prop} {a : Act} {l : List Oper} (gate : Bool) (f g : Nat) (hm : P.follows .mixedOrders = true) (hl : l.length = f + g) (hB : segB .any l.toArray gate f 0 (Array.replicate l.length false) = true)
    (h : wpStill P l.toArray w.drew (fun a' => wpAny P .any l.toArray Q g (setL f 0 (Array.replicate l.length false)) a' w.drew) (l.take f) a) : (Code.region id l.toArray true).wp P Q a w := by
  refine wp_region_any hm ?_
  have h1 := wpAny_seg (P := P) (md := .any) (w := w.drew) (l := l) (Q := Q) (a := a) gate f 0 g hB (by rw [List.drop_zero]; exact h)
  rw [← hl] at h1
  simpa using h1
end
end Go.Fx
