/- Cpl: instructions in plain Lean: what forms they have, which are right. No program in sight. -/
import Derived.WalkKit
namespace Go.Fx
/-- An instruction. -/
structure Ins where
  op : Nat
  a : Nat
  b : Nat
  c : Nat
  n : Int
deriving DecidableEq
def okOp (op : Nat) : Bool := (decide (1 ≤ op) && decide (op ≤ 11)) || (decide (33 ≤ op) && decide (op ≤ 49))
/-- How many registers the form has; its last letter (0: none). -/
def nrOf (op : Nat) : Nat := if 33 ≤ op ∧ op ≤ 49 then 3 else if op = 3 ∨ op = 10 ∨ op = 11 then 1 else if 4 ≤ op ∧ op ≤ 8 then 2 else 0
def tlOf (op : Nat) : Nat := if op = 3 then 110 else if op = 8 then 112 else if op = 9 ∨ op = 10 ∨ op = 11 then 116 else 0
def ltOf (op : Nat) : List UInt8 := List.replicate (nrOf op) 114 ++ (if tlOf op = 0 then [] else [UInt8.ofNat (tlOf op)])
def strOf (op : Nat) : ByteArray := ⟨(ltOf op).toArray⟩
theorem nt_r {op : Nat} (h1 : 33 ≤ op) (h2 : op ≤ 49) : nrOf op = 3 ∧ tlOf op = 0 := by
  unfold nrOf tlOf
  rw [if_pos ⟨h1, h2⟩, if_neg (by omega), if_neg (by omega), if_neg (by omega)]
  exact ⟨rfl, rfl⟩
theorem nt_bad {op : Nat} (h : okOp op = false) : nrOf op = 0 ∧ tlOf op = 0 := by
  have h' : ¬ ((1 ≤ op ∧ op ≤ 11) ∨ (33 ≤ op ∧ op ≤ 49)) := by simpa [okOp] using h
  unfold nrOf tlOf
  rw [if_neg (by omega), if_neg (by omega), if_neg (by omega), if_neg (by omega), if_neg (by omega), if_neg (by omega)]
  exact ⟨rfl, rfl⟩
theorem strOf_r {op : Nat} (h1 : 33 ≤ op) (h2 : op ≤ 49) : strOf op = ⟨#[114, 114, 114]⟩ := by
  obtain ⟨h3, h4⟩ := nt_r h1 h2
  unfold strOf ltOf
  rw [h3, h4]
  rfl
theorem strOf_bad {op : Nat} (h : okOp op = false) : strOf op = ⟨#[]⟩ := by
  obtain ⟨h3, h4⟩ := nt_bad h
  unfold strOf ltOf
  rw [h3, h4]
  rfl
theorem ok_cases {op : Nat} (h : okOp op = true) : (1 ≤ op ∧ op ≤ 11) ∨ (33 ≤ op ∧ op ≤ 49) := by simpa [okOp] using h
theorem nr_tl (op : Nat) : nrOf op ≤ 3 ∧ (tlOf op = 0 ∨ tlOf op = 110 ∨ tlOf op = 112 ∨ tlOf op = 116) ∧ (tlOf op ≠ 0 → nrOf op ≤ 2) := by
  unfold nrOf tlOf
  repeat' split
  all_goals omega
theorem ltOf_len (op : Nat) : (ltOf op).length = nrOf op + if tlOf op = 0 then 0 else 1 := by
  unfold ltOf
  rw [List.length_append, List.length_replicate]
  split <;> simp
theorem strOf_size (op : Nat) : (strOf op).size = nrOf op + if tlOf op = 0 then 0 else 1 := by
  rw [← ltOf_len]; rfl
theorem lt_at_r {op i : Nat} (h : i < nrOf op) : (ltOf op)[i]? = some 114 := by
  unfold ltOf
  rw [List.getElem?_append_left (by simpa using h), List.getElem?_replicate, if_pos h]
theorem lt_at_t {op i : Nat} (h : i = nrOf op) (ht : tlOf op ≠ 0) : (ltOf op)[i]? = some (UInt8.ofNat (tlOf op)) := by
  unfold ltOf
  rw [List.getElem?_append_right (by simp; omega), if_neg ht, h]
  simp
theorem str_get {op i : Nat} {x : UInt8} (hi : i < (strOf op).size) (h : (ltOf op)[i]? = some x) : (strOf op)[i] = x := by
  have hl : i < (ltOf op).length := hi
  rw [List.getElem?_eq_getElem hl] at h
  injection h
theorem strOf_at_r {op i : Nat} (h : i < nrOf op) (hi : i < (strOf op).size) : (strOf op)[i] = 114 := str_get hi (lt_at_r h)
theorem strOf_at_t {op i : Nat} (h : i = nrOf op) (hi : i < (strOf op).size) : (strOf op)[i] = UInt8.ofNat (tlOf op) ∧ tlOf op ≠ 0 := by
  have ht : tlOf op ≠ 0 := by
    intro h0
    rw [strOf_size, if_pos h0] at hi
    omega
  exact ⟨str_get hi (lt_at_t h ht), ht⟩
/-- What is wrong with an instruction. -/
def rgOk (nr a b c : Nat) : Bool := decide (if 0 < nr then a < 8 else a = 0) && decide (if 1 < nr then b < 8 else b = 0) && decide (if 2 < nr then c < 8 else c = 0)
def nOk (tl : Nat) (n : Int) : Bool := if tl = 110 then true else if tl = 112 then decide (0 ≤ n ∧ n < 16) else if tl = 116 then decide (0 ≤ n ∧ n < 256) else decide (n = 0)
def oneF (i : Ins) : Nat := if okOp i.op = false then 140 else if rgOk (nrOf i.op) i.a i.b i.c && nOk (tlOf i.op) i.n then 0 else 141
def goesF (i : Ins) : Bool := decide (oneF i = 0) && decide (i.op ≠ 1) && decide (i.op ≠ 2) && decide (i.op ≠ 9)
def tgtF (i : Ins) : Bool := decide (oneF i = 0) && (decide (i.op = 9) || decide (i.op = 10) || decide (i.op = 11))
def szOp (op : Nat) : Nat := 1 + nrOf op + if tlOf op = 110 then 8 else if tlOf op = 116 then 2 else if tlOf op = 112 then 1 else 0
/-- A program is looked through. -/
def chkF (len : Nat) : List Ins → Nat → Option (Nat × Nat)
  | [], _ => none
  | i :: r, k => if oneF i ≠ 0 then some (k, oneF i) else if tgtF i = true ∧ (len : Int) ≤ i.n then some (k, 142) else chkF len r (k + 1)
def checkF (p : List Ins) : Int × Nat :=
  if p.length = 0 then (-1, 6) else if 256 < p.length then (-1, 5) else
  match chkF p.length p 0 with
  | some (k, e) => ((k : Int), e)
  | none => if (p.getLast?.map goesF).getD false = true then (((p.length - 1 : Nat) : Int), 143) else (-1, 0)
end Go.Fx
