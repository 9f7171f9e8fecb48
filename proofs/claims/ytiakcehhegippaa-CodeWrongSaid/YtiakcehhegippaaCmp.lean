/- Cmp: what is made is right: plain Lean. -/
import Derived.Test.YtiakcehhegippaaCme
namespace Go.Fx
open Go.RowKit Go.Proofs Go.Proofs.Ytiakcehhegippaa
theorem mdI_eq (n : Nat) (x : Ins) : mdI n x = ⟨opF x.op, if 0 < nrOf (opF x.op) then x.a % 8 else 0, if 1 < nrOf (opF x.op) then x.b % 8 else 0, if 2 < nrOf (opF x.op) then x.c % 8 else 0, mdN (tlOf (opF x.op)) x.n n⟩ := by
  unfold mdI mdP
  rw [min_sz]
  congr 1
  split
  · next h => rw [(sz_pos _).1 h]; rfl
  · rfl
theorem mdN_ok {tl n : Nat} {z : Int} (h : tl = 0 ∨ tl = 110 ∨ tl = 112 ∨ tl = 116) (h1 : 1 ≤ n) (h2 : n ≤ 256) (z1 : -9223372036854775808 ≤ z) (z2 : z ≤ 9223372036854775807) : nOk tl (mdN tl z n) = true ∧ (tl = 116 → mdN tl z n < (n : Int)) ∧ -9223372036854775808 ≤ mdN tl z n ∧ mdN tl z n ≤ 9223372036854775807 := by
  have hm := Nat.mod_lt (U64 z) (show 0 < n by omega)
  have hm2 := Nat.mod_lt (U64 z) (show 0 < 16 by omega)
  rcases h with rfl | rfl | rfl | rfl
  · have e : mdN 0 z n = 0 := rfl
    rw [e]
    exact ⟨rfl, fun h => absurd h (by decide), by decide, by decide⟩
  · exact ⟨rfl, fun h => absurd h (by decide), z1, z2⟩
  · have e : mdN 112 z n = ((U64 z % 16 : Nat) : Int) := rfl
    have e2 : ∀ y, nOk 112 y = decide (0 ≤ y ∧ y < 16) := fun _ => rfl
    rw [e, e2]
    exact ⟨decide_eq_true (by omega), fun h => absurd h (by decide), by omega, by omega⟩
  · have e : mdN 116 z n = ((U64 z % n : Nat) : Int) := rfl
    have e2 : ∀ y, nOk 116 y = decide (0 ≤ y ∧ y < 256) := fun _ => rfl
    rw [e, e2]
    exact ⟨decide_eq_true (by omega), fun _ => by omega, by omega, by omega⟩
theorem mdI_ok {n : Nat} {x : Ins} (hx : InsOk x) (h1 : 1 ≤ n) (h2 : n ≤ 256) : oneF (mdI n x) = 0 ∧ InsOk (mdI n x) ∧ (tgtF (mdI n x) = true → (mdI n x).n < (n : Int)) := by
  obtain ⟨ho1, ho2⟩ := opF_ok x.op
  have h3 := nr_tl (opF x.op)
  obtain ⟨q1, q2, q3, q4⟩ := mdN_ok (n := n) (z := x.n) h3.2.1 h1 h2 hx.n1 hx.n2
  rw [mdI_eq]
  refine ⟨?_, ⟨ho2, ?_, ?_, ?_, q3, q4⟩, ?_⟩
  · unfold oneF
    rw [if_neg (by show ¬ okOp (opF x.op) = false; rw [ho1]; simp)]
    show (if (rgOk (nrOf (opF x.op)) _ _ _ && nOk (tlOf (opF x.op)) (mdN (tlOf (opF x.op)) x.n n)) = true then 0 else 141) = 0
    rw [q1, Bool.and_true, if_pos]
    unfold rgOk
    simp only [Bool.and_eq_true, decide_eq_true_eq]
    refine ⟨⟨?_, ?_⟩, ?_⟩
    all_goals split <;> omega
  · show (if _ then _ else _) < 256
    split
    · exact Nat.lt_trans (Nat.mod_lt _ (by decide)) (by decide)
    · decide
  · show (if _ then _ else _) < 256
    split
    · exact Nat.lt_trans (Nat.mod_lt _ (by decide)) (by decide)
    · decide
  · show (if _ then _ else _) < 256
    split
    · exact Nat.lt_trans (Nat.mod_lt _ (by decide)) (by decide)
    · decide
  · intro h
    unfold tgtF at h
    simp only [Bool.and_eq_true, Bool.or_eq_true, decide_eq_true_eq] at h
    refine q2 ?_
    unfold tlOf
    rw [if_neg (by omega), if_neg (by omega), if_pos (by omega)]
theorem chkF_all {len : Nat} : ∀ (p : List Ins) (k : Nat), (∀ i ∈ p, oneF i = 0 ∧ (tgtF i = true → i.n < (len : Int))) → chkF len p k = none
  | [], _, _ => rfl
  | i :: p, k, h => by
    have h1 := h i (by simp)
    unfold chkF
    rw [if_neg (by rw [h1.1]; simp), if_neg (by intro h2; have := h1.2 h2.1; omega)]
    exact chkF_all p (k + 1) (fun j hj => h j (by simp [hj]))
theorem made_len (l : List Ins) : (madeF l).length = (l.take 40).length + 1 := by unfold madeF; simp
theorem made_le (l : List Ins) : 1 ≤ (madeF l).length ∧ (madeF l).length ≤ 41 := by rw [made_len, List.length_take]; omega
theorem halt_ok : oneF halt0 = 0 ∧ InsOk halt0 ∧ goesF halt0 = false ∧ tgtF halt0 = false := ⟨by decide, ⟨by decide, by decide, by decide, by decide, by decide, by decide⟩, by decide, by decide⟩
theorem made_all {l : List Ins} (h : ∀ i ∈ l, InsOk i) : ∀ i ∈ madeF l, oneF i = 0 ∧ InsOk i ∧ (tgtF i = true → i.n < ((madeF l).length : Int)) := by
  intro i hi
  have hl := made_le l
  rw [made_len] at hl ⊢
  unfold madeF at hi
  rcases List.mem_append.1 hi with hi | hi
  · obtain ⟨x, hx, rfl⟩ := List.mem_map.1 hi
    exact mdI_ok (h x (List.mem_of_mem_take hx)) (by omega) (by omega)
  · obtain rfl : i = halt0 := by simpa using hi
    exact ⟨halt_ok.1, halt_ok.2.1, fun h => by rw [halt_ok.2.2.2] at h; cases h⟩
theorem made_check {l : List Ins} (h : ∀ i ∈ l, InsOk i) : checkF (madeF l) = (-1, 0) := by
  have hl := made_le l
  have ha := made_all h
  unfold checkF
  rw [if_neg (by omega), if_neg (by omega), chkF_all _ _ (fun i hi => ⟨(ha i hi).1, (ha i hi).2.2⟩)]
  have hlast : (madeF l).getLast? = some halt0 := by unfold madeF; simp
  rw [hlast]
  show (if goesF halt0 = true then _ else _) = _
  rw [halt_ok.2.2.1]; rfl
theorem made_write {l : List Ins} (h : ∀ i ∈ l, InsOk i) : writeF (madeF l) = ((madeF l).flatMap wbF, 0) := by
  unfold writeF; rw [made_check h]; rfl
theorem made_read {l : List Ins} (h : ∀ i ∈ l, InsOk i) : readF ((madeF l).flatMap wbF) = (madeF l, -1, 0) :=
  readF_writeF (fun i hi => (made_all h i hi).2.1) (by rw [made_check h])
theorem made_inj {k l : List Ins} (hk : ∀ i ∈ k, InsOk i) (hl : ∀ i ∈ l, InsOk i) : (madeF k).flatMap wbF = (madeF l).flatMap wbF ↔ madeF k = madeF l := by
  constructor
  · intro h
    have h1 := made_read hk
    rw [h, made_read hl] at h1
    exact (congrArg Prod.fst h1).symm
  · intro h; rw [h]
theorem made_lt {l : List Ins} (h : ∀ i ∈ l, InsOk i) : ∀ x ∈ (madeF l).flatMap wbF, x < 256 := by
  intro x hx
  obtain ⟨i, hi, hx⟩ := List.mem_flatMap.1 hx
  exact wbF_lt (made_all h i hi).2.1 x hx
theorem wb_len_le (p : List Ins) : (p.flatMap wbF).length ≤ p.length * 12 := flat_len_le p
/-- How many bytes some instructions have. -/
def sumF (p : List Ins) : Nat := (p.map fun i => szOp i.op).foldr (· + ·) 0
theorem sumF_len (p : List Ins) : (p.flatMap wbF).length = sumF p := by
  induction p with
  | nil => rfl
  | cons i p ih => rw [List.flatMap_cons, List.length_append, ih, wbF_len]; rfl
theorem sumF_snoc (p : List Ins) (i : Ins) : sumF (p ++ [i]) = sumF p + szOp i.op := by
  rw [← sumF_len, ← sumF_len, List.flatMap_append, List.length_append, List.flatMap_singleton, wbF_len]
end Go.Fx
