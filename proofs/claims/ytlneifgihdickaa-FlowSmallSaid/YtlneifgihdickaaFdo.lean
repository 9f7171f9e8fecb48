/- Fsr: arrays of 256 truth values: in memory, compared, made. Fdm: Dominators: what its loops hold; the first table; counting. Fdo: Dominators: counting; the walk. -/
import Derived.Test.YtlneifgihdickaaFen
import Derived.Test.YtlneifgihdickaaFdp
import Derived.DeepKeys
import Derived.Deep.MidRow
import Derived.Deep.WholeRow
namespace Go.Fx
open Go.RowKit
/-- The cells of such an array. -/
def setC (s : Nat → Bool) : List Value := (List.range 256).map (fun i => .bool (s i))
theorem setC_len (s : Nat → Bool) : (setC s).length = 256 := by simp [setC]
theorem setC_one (s : Nat → Bool) : ∀ u ∈ setC s, u.oneCell' = true := fun u hu => by
  obtain ⟨i, _, rfl⟩ := List.mem_map.1 hu
  rfl
theorem setC_get (s : Nat → Bool) {k : Nat} (hk : k < 256) : (setC s)[k]? = some (.bool (s k)) := by
  unfold setC
  rw [List.getElem?_map, List.getElem?_range hk]
  rfl
theorem setC_set (s : Nat → Bool) {k : Nat} (hk : k < 256) (b : Bool) : (setC s).set k (.bool b) = setC (fun i => if i = k then b else s i) := by
  apply List.ext_getElem?
  intro i
  rw [List.getElem?_set, setC_len]
  by_cases hi : k = i
  · subst hi
    rw [if_pos rfl, if_pos hk, setC_get _ hk, if_pos rfl]
  · rw [if_neg hi]
    by_cases h : i < 256
    · rw [setC_get _ h, setC_get _ h, if_neg (fun e => hi e.symm)]
    · rw [List.getElem?_eq_none (by rw [setC_len]; omega), List.getElem?_eq_none (by rw [setC_len]; omega)]
/-- Two such arrays are the same. -/
def setB (s s' : Nat → Bool) : Bool := (List.range 256).all (fun k => s k == s' k)
theorem setB_iff {s s' : Nat → Bool} : setB s s' = true ↔ ∀ k, k < 256 → s k = s' k := by
  unfold setB
  rw [List.all_eq_true]
  simp
theorem setC_ext {s s' : Nat → Bool} (h : ∀ k, k < 256 → s k = s' k) : setC s = setC s' := by
  unfold setC
  exact List.map_congr_left (fun k hk => by rw [h k (List.mem_range.1 hk)])
theorem setC_range {w : World} {g o n c i : Nat} {tab : List (Nat → Bool)} {s : Nat → Bool} (h : RoomS 256 w (some ⟨g, o, none⟩) n c (tab.flatMap setC)) (hs : tab[i]? = some s) : w.rangeAt g (o + i * 256) (setC s) := fun j v hv => by
  have hj : j < 256 := by have := (List.getElem?_eq_some_iff.1 hv).1; rwa [setC_len] at this
  have := h.cellAt (k := i * 256 + j) (u := v) (by rw [flat_get setC_len tab i j s hs hj]; exact hv)
  rwa [← Nat.add_assoc] at this
/-- A list of elements of s cells: the cells of one are set. -/
theorem flat_setAll {α : Type} {f : α → List Value} {s : Nat} (hf : ∀ x, (f x).length = s) : ∀ (xs : List α) (i : Nat) (y : α), i < xs.length → (xs.flatMap f).take (i * s) ++ f y ++ (xs.flatMap f).drop (i * s + s) = (xs.set i y).flatMap f
  | [], i, y, h => by simp at h
  | x :: xs, 0, y, _ => by
    rw [Nat.zero_mul, List.take_zero, List.nil_append, Nat.zero_add, List.flatMap_cons, List.set_cons_zero, List.flatMap_cons, List.drop_append, hf, Nat.sub_self, List.drop_zero, List.drop_eq_nil_of_le (by rw [hf]; exact Nat.le_refl _), List.nil_append]
  | x :: xs, i + 1, y, h => by
    have ih := flat_setAll hf xs i y (by simpa using h)
    rw [List.set_cons_succ, List.flatMap_cons, List.flatMap_cons, ← ih, Nat.add_mul, Nat.one_mul, List.take_append, List.drop_append, hf, show i * s + s - s = i * s by omega, show i * s + s + s - s = i * s + s by omega, List.take_of_length_le (l := f x) (by rw [hf]; omega), show (f x).drop (i * s + s + s) = [] from List.drop_eq_nil_of_le (by rw [hf]; omega), List.nil_append]
    simp [List.append_assoc]
end Go.Fx
namespace Go.Proofs.Ytlneifgihdickaa
open Go.RowKit Go.Fx
theorem ul_st : Try.prog.underlying 79 = some (.array 256 4) := by kernel_rfl
theorem ul_ss : Try.prog.underlying 78 = some (.slice 79) := by kernel_rfl
theorem sz_st : (Try.prog.info? 79).map (·.size) = some 256 := by kernel_rfl
theorem load_st (w : World) (b o : Nat) (s : Nat → Bool) (h : w.rangeAt b o (setC s)) : (Instr.loadAt 79 (.pointer (some ⟨b, o, none⟩))).run Try.prog w = .ok (.agg (setC s).toArray) w :=
  run_loadAt_mid w b o 79 (setC s) _ h ul_st rfl (by rw [setC_len]; exact sz_st)
theorem info_bz : (Try.prog.info? 4).map (·.size) = some 1 := by kernel_rfl
theorem cells_bz : Try.prog.cellsOf 4 = 1 := by kernel_rfl
theorem guard_st (w : World) (op : BinOp) (x y : Operand) (xs ys : Array Value) : (eqGuard op 79 x y (.agg xs) (.agg ys)).run Try.prog w = .ok () w := run_eqGuard_agg w op 79 x y xs ys (by kernel_rfl)
theorem eq_items (w : World) (d : Nat) (s s' : Nat → Bool) : ∀ (l : List Nat), (∀ i ∈ l, i < 256) → (Op.eqItems (d + 1) 4 1 (setC s).toArray (setC s').toArray l).run Try.prog w = .ok (l.all (fun k => s k == s' k)) w
  | [], _ => by simp [Op.eqItems, Sem.run_pure]
  | i :: l, h => by
    obtain ⟨i5, h5, hs5⟩ : ∃ i5, Try.prog.info? 4 = some i5 ∧ i5.size = 1 := by
      have := info_bz
      cases h : Try.prog.info? 4 with
      | none => rw [h] at this; cases this
      | some i => rw [h] at this; exact ⟨i, rfl, by simpa using this⟩
    have hi := h i (List.mem_cons_self ..)
    have hp : ∀ (t : Nat → Bool), (part 4 (setC t).toArray (i * 1)).run Try.prog w = .ok (.bool (t i)) w := fun t => by
      have hq : (setC t).toArray[i]? = some (.bool (t i)) := by rw [List.getElem?_toArray]; exact setC_get t hi
      rw [Nat.mul_one]
      simp [go_sem, hq]
    have he : ∀ (a b : Bool), (Op.equalIn (d + 1) 4 (.bool a) (.bool b)).run Try.prog w = .ok (a == b) w := fun a b => by
      simp [Op.equalIn, Sem.run_bind, Sem.run_pure, run_underlying Try.underlying4]
    have ih := eq_items w d s s' l (fun j hj => h j (List.mem_cons_of_mem _ hj))
    simp only [Op.eqItems, Sem.run_bind, hp, he, Result.andThen_ok, List.all_cons]
    cases hc : (s i == s' i) with
    | false => simp [Sem.run_pure]
    | true => simpa using ih
theorem neq_st (w : World) (s s' : Nat → Bool) : (binOp .neq 79 (.agg (setC s).toArray) (.agg (setC s').toArray)).run Try.prog w = .ok (.bool (!setB s s')) w := by
  obtain ⟨i5, h5, hs5⟩ : ∃ i5, Try.prog.info? 4 = some i5 ∧ i5.size = 1 := by
    have := info_bz
    cases h : Try.prog.info? 4 with
    | none => rw [h] at this; cases this
    | some i => rw [h] at this; exact ⟨i, rfl, by simpa using this⟩
  rw [run_neq_struct, show (10000 : Nat) = 9999 + 1 from rfl, run_equalIn_array w 9999 _ _ ul_st h5, cells_bz]
  rw [show (9999 : Nat) = 9998 + 1 from rfl, eq_items w 9998 s s' (List.range 256) (fun i hi => List.mem_range.1 hi)]
  rfl
end Go.Proofs.Ytlneifgihdickaa
namespace Go.Fx
open Go.RowKit
theorem flat_set {α : Type} {f : α → List Value} {s j : Nat} (hf : ∀ x, (f x).length = s) (hj : j < s) {x y : α} {u : Value} (hy : f y = (f x).set j u) : ∀ (xs : List α) (i : Nat), xs[i]? = some x → (xs.flatMap f).set (i * s + j) u = (xs.set i y).flatMap f
  | [], i, h => by simp at h
  | a :: xs, 0, h => by
    obtain rfl : a = x := by simpa using h
    rw [List.flatMap_cons, Nat.zero_mul, Nat.zero_add, List.set_append_left _ _ (by rw [hf]; exact hj), ← hy]
    rfl
  | a :: xs, i + 1, h => by
    have h' : xs[i]? = some x := by simpa using h
    rw [List.flatMap_cons, List.set_append_right _ _ (by rw [hf, Nat.succ_mul]; omega), hf, show (i + 1) * s + j - s = i * s + j by rw [Nat.succ_mul]; omega, flat_set hf hj hy xs i h']
    rfl
/-- The table while it is filled: rows before a, and of row a the places before b. -/
def tabF (n a b : Nat) : List (Nat → Bool) := (List.range n).map (fun i k => decide (i < a ∨ (i = a ∧ k < b)) && (decide (k < n) && (decide (0 < i) || decide (k = 0))))
theorem tabF_len (n a b : Nat) : (tabF n a b).length = n := by simp [tabF]
theorem tabF_get {n a b i : Nat} (hi : i < n) : (tabF n a b)[i]? = some (fun k => decide (i < a ∨ (i = a ∧ k < b)) && (decide (k < n) && (decide (0 < i) || decide (k = 0)))) := by
  unfold tabF
  rw [List.getElem?_map, List.getElem?_range hi]
  rfl
theorem tabF_zero (n : Nat) : tabF n 0 0 = List.replicate n (fun _ => false) := by
  apply List.ext_getElem?
  intro i
  by_cases hi : i < n
  · rw [tabF_get hi, List.getElem?_replicate, if_pos hi]
    congr 1
    funext k
    simp
  · rw [List.getElem?_eq_none (by rw [tabF_len]; omega), List.getElem?_eq_none (by simp; omega)]
theorem tabF_row (n a : Nat) : tabF n a n = tabF n (a + 1) 0 := by
  apply List.ext_getElem?
  intro i
  by_cases hi : i < n
  · rw [tabF_get hi, tabF_get hi]
    congr 1
    funext k
    by_cases hk : k < n
    · congr 1
      rw [Bool.eq_iff_iff]
      simp only [decide_eq_true_eq]
      omega
    · rw [decide_eq_false hk]; simp
  · rw [List.getElem?_eq_none (by rw [tabF_len]; omega), List.getElem?_eq_none (by rw [tabF_len]; omega)]
theorem tabF_step {n a b : Nat} (ha : a < n) (hb : b < n) (s : Nat → Bool) (hs : (tabF n a b)[a]? = some s) : (tabF n a b).set a (fun k => if k = b then (decide (0 < a) || decide (b = 0)) else s k) = tabF n a (b + 1) := by
  rw [tabF_get ha] at hs
  cases hs
  apply List.ext_getElem?
  intro i
  rw [List.getElem?_set, tabF_len]
  by_cases hi : a = i
  · subst hi
    rw [if_pos rfl, if_pos ha, tabF_get ha]
    congr 1
    funext k
    by_cases hk : k = b
    · subst hk
      rw [if_pos rfl]
      simp [hb]
    · rw [if_neg hk]
      have e : decide (a < a ∨ (a = a ∧ k < b)) = decide (a < a ∨ (a = a ∧ k < b + 1)) := decide_eq_decide.2 (by omega)
      dsimp only
      rw [e]
  · rw [if_neg hi]
    by_cases h : i < n
    · rw [tabF_get h, tabF_get h]
      congr 1
      funext k
      congr 1
      rw [Bool.eq_iff_iff]
      simp only [decide_eq_true_eq]
      omega
    · rw [List.getElem?_eq_none (by rw [tabF_len]; omega), List.getElem?_eq_none (by rw [tabF_len]; omega)]
theorem TabJ.first {E : Nat → Nat → Prop} {n : Nat} (hn : 0 < n) (hE : ∀ j, Rch E j → j < n) : TabJ E n (tabF n n 0) := by
  refine ⟨tabF_len _ _ _, fun {i s} hs hi k hk hd => ?_, fun {s} hs k => ?_, fun {i s} hs k hk => ?_⟩
  · have hin := hE i hi
    rw [tabF_get hin] at hs
    cases hs
    have h0 : 0 < i ∨ k = 0 := by
      rcases Nat.eq_zero_or_pos i with h | h
      · subst h
        right
        rcases Nat.eq_zero_or_pos k with h2 | h2
        · exact h2
        · exact absurd (.start (by omega)) hd.2
      · exact .inl h
    simp only [Bool.and_eq_true, Bool.or_eq_true, decide_eq_true_eq]
    exact ⟨.inl hin, hk, h0⟩
  · rw [tabF_get hn] at hs
    cases hs
    rw [Bool.eq_iff_iff]
    simp only [Bool.and_eq_true, Bool.or_eq_true, decide_eq_true_eq]
    omega
  · have hin : i < n := by have := (List.getElem?_eq_some_iff.1 hs).1; rwa [tabF_len] at this
    rw [tabF_get hin] at hs
    cases hs
    dsimp only
    rw [decide_eq_false (p := k < n) (by omega)]
    simp
end Go.Fx
namespace Go.Proofs.Ytlneifgihdickaa
open Go.RowKit Go.Fx
theorem zero_st : (Try.prog.info? 79).map (fun i => (i.zero, i.size, i.bytes)) = some (some (.agg (setC (fun _ => false)).toArray), 256, 256) := by kernel_rfl
set_option maxRecDepth 100000 in
theorem make_st (w : World) (N : Nat) (hN : N ≤ 1000) :
    ∃ w', (Instr.makeSlice 78 (.int .i64 (N : Int)) (.int .i64 (N : Int))).run Try.prog w = .ok (.slice (some ⟨w.heap.size, 0, none⟩) N N) w' ∧ RoomS 256 w' (some ⟨w.heap.size, 0, none⟩) N N ((List.replicate N (fun _ => false)).flatMap setC) ∧ Ext w w' := by
  obtain ⟨i, hi', hz, hsize, hby⟩ := info_parts zero_st
  have hr := run_make (P := Try.prog) w 78 79 i _ ul_ss hi' hz .i64 .i64 (N : Int) (N : Int) (by omega) (Int.le_refl _) (by rw [hby]; omega) (by omega)
  simp only [Int.toNat_natCast] at hr
  have hro := RoomS.of_blk (s := 256) (n := N) (Blk.new w 79 (madeCells (Value.agg (setC (fun _ => false)).toArray).cells (N * i.size))) (by rw [hsize]; exact size_madeCells _ _) (by unfold maxLen; omega)
  refine ⟨_, hr, ?_, Ext.alloc _ _⟩
  have e1 : (madeCells (Value.agg (setC (fun _ => false)).toArray).cells (N * i.size)).toList = (List.replicate N (fun _ => false)).flatMap setC := by
    have hall : ∀ v ∈ (madeCells (Value.agg (setC (fun _ => false)).toArray).cells (N * i.size)).toList, v = .bool false := by
      intro v hv
      unfold madeCells at hv
      obtain ⟨j, hj, rfl⟩ : ∃ j, j < N * i.size ∧ (setC (fun _ => false)).toArray[j % (setC (fun _ => false)).toArray.size]! = v := by
        simpa [Value.cells] using hv
      have hlt : j % (setC (fun _ => false)).toArray.size < 256 := by
        rw [List.size_toArray, setC_len]; omega
      have h1 := setC_get (fun _ => false) hlt
      rw [getElem!_pos (setC (fun _ => false)).toArray _ (by rw [List.size_toArray, setC_len] at hlt ⊢; omega)]
      rw [List.getElem_toArray]
      have h2 := (List.getElem?_eq_some_iff.1 h1)
      exact h2.2
    have hall2 : ∀ v ∈ (List.replicate N (fun _ : Nat => false)).flatMap setC, v = .bool false := by
      intro v hv
      obtain ⟨s, hs, hv⟩ := List.mem_flatMap.1 hv
      have := List.eq_of_mem_replicate hs
      subst this
      obtain ⟨j, _, rfl⟩ := List.mem_map.1 hv
      rfl
    rw [List.eq_replicate_of_mem hall, List.eq_replicate_of_mem hall2]
    congr 1
    rw [flat_len setC_len, List.length_replicate, Array.length_toList, size_madeCells, hsize]
  rwa [e1] at hro
/-- What the loops of Dominators hold. -/
structure DmW (p : List Ins) (w : World) (n g b6 : Nat) (A4 : Option Addr) (rch : List Bool) (tab : List (Nat → Bool)) (W : World) : Prop where
  k6 : Blk W b6 78 #[.slice (some ⟨g, 0, none⟩) n n]
  ro : RoomS 256 W (some ⟨g, 0, none⟩) n n (tab.flatMap setC)
  ne : b6 ≠ g
  lo : w.heap.size ≤ g
  rr : Rd boolv W A4 n rch
  rn : ∀ q o, A4 = some ⟨q, o, none⟩ → q ≠ g
  ext : Ext w W
section
variable {p : List Ins} {w W W' : World} {n g b6 : Nat} {A4 : Option Addr} {rch : List Bool} {tab : List (Nat → Bool)}
theorem DmW.e (h : DmW p w n g b6 A4 rch tab W) (e : Ext W W') : DmW p w n g b6 A4 rch tab W' := ⟨h.k6.ext e, h.ro.ext e, h.ne, h.lo, h.rr.ext e, h.rn, h.ext.t e⟩
theorem DmW.len (h : DmW p w n g b6 A4 rch tab W) : tab.length = n := by
  have h1 := h.ro.1
  rw [flat_len setC_len] at h1
  omega
/-- Another block turns. -/
theorem DmW.other {b : Nat} {V : World} (h : DmW p w n g b6 A4 rch tab V) (hx : Ext V W) (hb : V.heap.size ≤ b) (ch : Chg (fun q => q = b) W W') : DmW p w n g b6 A4 rch tab W' := by
  have hz := h.ext.size
  have h2 := h.e hx
  have hgl : 0 < n → g < V.heap.size := fun h0 => h.ro.lt ⟨h0, 0, rfl⟩
  refine ⟨h2.k6.chg ch (by have := h.k6.lt; omega), h2.ro.chg ch (fun q hq e => by have := hgl hq.1; have := foot_some hq; omega), h.ne, h.lo, h2.rr.chg ch (fun q o hA h0 e => ?_), h.rn, h2.ext.trans (ch.below h2.ext.size (fun q hq e => by omega))⟩
  obtain ⟨b2, o2, _, hA2, hb2, _⟩ := h.rr.at_ (k := 0) h0
  rw [hA] at hA2
  cases hA2
  omega
/-- One place is written. -/
theorem DmW.put {i k : Nat} {s : Nat → Bool} (h : DmW p w n g b6 A4 rch tab W) (hs : tab[i]? = some s) (hk : k < 256) (b : Bool) : DmW p w n g b6 A4 rch (tab.set i (fun j => if j = k then b else s j)) (W.setCell ⟨g, i * 256 + k, none⟩ (.bool b)) := by
  have hi : i < n := by have := (List.getElem?_eq_some_iff.1 hs).1; rwa [h.len] at this
  have ch := Chg.set W g (i * 256 + k) (.bool b) (T := fun q => q = g) rfl
  have hr := h.ro.set (k := i * 256 + k) (by have := Nat.mul_le_mul_right 256 (show i + 1 ≤ n from hi); omega) (.bool b)
  rw [Nat.zero_add] at hr
  rw [flat_set setC_len (s := 256) (j := k) hk (x := s) (y := fun j => if j = k then b else s j) (u := .bool b) (setC_set s hk b).symm tab i hs] at hr
  exact ⟨h.k6.chg ch h.ne, hr, h.ne, h.lo, h.rr.chg ch (fun q o hA h0 e => h.rn q o hA e), h.rn, h.ext.trans (ch.below h.ext.size (fun q hq e => by have := h.lo; omega))⟩
/-- A whole row is written. -/
theorem DmW.row {i : Nat} (h : DmW p w n g b6 A4 rch tab W) (hi : i < n) (s' : Nat → Bool) : DmW p w n g b6 A4 rch (tab.set i s') (W.setCells g (i * 256) (setC s')) := by
  have ch := chg_setCells W (T := fun q => q = g) g (i * 256) (setC s') rfl
  have hr := h.ro.setCells (i * 256) (setC s') (by rw [setC_len]; have := Nat.mul_le_mul_right 256 (show i + 1 ≤ n from hi); omega)
  rw [Nat.zero_add, setC_len, flat_setAll setC_len tab i s' (by rw [h.len]; exact hi)] at hr
  exact ⟨h.k6.chg ch h.ne, hr, h.ne, h.lo, h.rr.chg ch (fun q o hA h0 e => h.rn q o hA e), h.rn, h.ext.trans (ch.below h.ext.size (fun q hq e => by have := h.lo; omega))⟩
theorem DmW.at_ {i k : Nat} {s : Nat → Bool} (h : DmW p w n g b6 A4 rch tab W) (hs : tab[i]? = some s) (hk : k < 256) : W.cell? ⟨g, i * 256 + k, none⟩ = some (.bool (s k)) ∧ W.frozen? ⟨g, i * 256 + k, none⟩ = false := by
  have hi : i < n := by have := (List.getElem?_eq_some_iff.1 hs).1; rwa [h.len] at this
  have h1 := h.ro.cellAt (k := i * 256 + k) (u := .bool (s k)) (by rw [flat_get setC_len tab i k s hs hk]; exact setC_get s hk)
  have h2 := h.ro.frozenAt (k := i * 256 + k) (by have := Nat.mul_le_mul_right 256 (show i + 1 ≤ n from hi); omega)
  rw [Nat.zero_add] at h1 h2
  exact ⟨h1, h2⟩
end
end Go.Proofs.Ytlneifgihdickaa
namespace Go.Proofs.Ytlneifgihdickaa
open Go.RowKit Go.Fx
theorem index_st (w : World) (s : Nat → Bool) {k : Nat} {li : Int} (e : li = (k : Int)) (hk : k < 256) : (Instr.index 79 (.agg (setC s).toArray) (.int .i64 li)).run Try.prog w = .ok (.bool (s k)) w := by
  subst e
  obtain ⟨i5, h5, hs5⟩ : ∃ i5, Try.prog.info? 4 = some i5 ∧ i5.size = 1 := by
    have := info_bz
    cases h : Try.prog.info? 4 with
    | none => rw [h] at this; cases this
    | some i => rw [h] at this; exact ⟨i, rfl, by simpa using this⟩
  have hq : (setC s).toArray[k]? = some (.bool (s k)) := by rw [List.getElem?_toArray]; exact setC_get s hk
  have h1 : ¬ ((k : Int) < 0) := by omega
  have h2 : (k : Int) < 256 := by omega
  simp [go_sem, Instr.index, run_underlying ul_st, run_sizeOf w h5, hk, cells_bz, setC_get s hk]
def cnK (s : Nat → Bool) (k : Nat) : Nat := ((List.range k).filter s).length
theorem cnK_succ (s : Nat → Bool) (k : Nat) : cnK s (k + 1) = cnK s k + if s k = true then 1 else 0 := by
  unfold cnK
  rw [List.range_succ, List.filter_append, List.length_append, List.filter_cons, List.filter_nil]
  split <;> simp
theorem cnK_le (s : Nat → Bool) (k : Nat) : cnK s k ≤ k := by
  unfold cnK
  have := List.length_filter_le s (List.range k)
  rwa [List.length_range] at this
set_option maxRecDepth 100000 in
set_option maxHeartbeats 2000000 in
theorem count_ (p : List Ins) (w0 : World) (n g b6 : Nat) (A4 : Option Addr) (rch : List Bool) (tab : List (Nat → Bool)) (i : Nat) (s : Nat → Bool) (w : World) (h : DmW p w0 n g b6 A4 rch tab w) (hs : tab[i]? = some s) :
    Calls Try.prog 42 #[.int .i64 (i : Int), .pointer (some ⟨b6, 0, none⟩)] w fun e w' => e = .returned (.int .i64 (cnS s : Int)) ∧ w = w' := by
  have hi : i < n := by have := (List.getElem?_eq_some_iff.1 hs).1; rwa [h.len] at this
  have hiI : (i : Int) < (n : Int) := by omega
  have hc6 := h.k6.cell0
  have hrg := setC_range h.ro hs
  rw [Nat.zero_add] at hrg
  have Hrg := Lib.hid hrg
  clear h hs hrg
  go_enter Try.func42, Try.ntmps42
  go_wp2_with (refine wpList_load_mid rfl 79 (.tmp 9) rfl g (i * 256) rfl (setC s) _ Hrg.out ul_st rfl (by rw [setC_len]; exact sz_st) ?_)
  go_loop [4, 11] (fun vn vk => ∃ k : Nat, k ≤ 256 ∧ vn = .int .i64 (cnK s k : Int) ∧ vk = .int .i64 (k : Int)) (fun _ v => 256 - (intOf v).toNat)
  case atStart => exact ⟨0, by omega, rfl, rfl⟩
  case round =>
    obtain ⟨k, hk, rfl, rfl⟩ := hrel
    by_cases hlt : k < 256
    · have hltI : (k : Int) < 256 := by omega
      have hix := fun w' => index_st w' s (k := k) (li := (k : Int)) rfl hlt
      have hcs := cnK_succ s k
      have hcl := cnK_le s k
      obtain ⟨bb, hbb⟩ : ∃ bb, bb = s k := ⟨_, rfl⟩
      rw [← hbb] at hix hcs
      obtain ⟨c, hc⟩ : ∃ c, c = cnK s k := ⟨_, rfl⟩
      have Hcs := Lib.hid hcs
      rw [← hc] at hcl Hcs ⊢
      clear hc hbb hcs
      cases bb with
      | true =>
        go_wp2_with fail
        go_round
        case rel => exact ⟨k + 1, by omega, by rw [Hcs.out]; go_num, by go_num⟩
        case measure => simp [intOf]; omega
      | false =>
        go_wp2_with fail
        go_round
        case rel => exact ⟨k + 1, by omega, by rw [Hcs.out]; go_num, by go_num⟩
        case measure => simp [intOf]; omega
    · obtain rfl : k = 256 := by omega
      go_wp2_with fail
      go_ret
      exact ⟨rfl, rfl⟩
end Go.Proofs.Ytlneifgihdickaa
