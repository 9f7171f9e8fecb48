/- Fnp: FlowNext: the plain part; cmp.Less and slices.IsSorted at numbers. Fdc: the dominators of an instruction, one after the other; ways as lists; a program in which an instruction fails. Plain Lean, no program in sight. -/
import Derived.Test.YtlneifgihdickaaFcs
namespace Go.Fx
open Go.RowKit Go.Proofs Go.Proofs.Ytlneifgihdickaa
theorem way_first {E : Nat → Nat → Prop} {b v : Nat} (hw : Way E (fun _ => True) b v) : b = v ∨ ∃ u, E b u ∧ Way E (fun _ => True) u v := by
  induction hw with
  | start _ => exact .inl rfl
  | @step u v _ e _ ih =>
    rcases ih with h | ⟨u', h1, h2⟩
    · subst h; exact .inr ⟨v, e, .start trivial⟩
    · exact .inr ⟨u', h1, .step h2 e trivial⟩
/-- Whether one can end, by the first m instructions. -/
def canF (p : List Ins) (es : List Bool) (i : Nat) (x : Ins) : Nat → Bool
  | 0 => decide (x.op = 1)
  | m + 1 => canF p es i x m || (decide (m ∈ edF p i) && (es[m]?).getD false)
theorem canF_iff {p : List Ins} {es : List Bool} {i : Nat} {x : Ins} : ∀ m, canF p es i x m = true ↔ x.op = 1 ∨ ∃ k, k < m ∧ k ∈ edF p i ∧ (es[k]?).getD false = true
  | 0 => by
    unfold canF
    rw [decide_eq_true_iff]
    exact ⟨.inl, fun h => h.elim id (fun ⟨k, hk, _⟩ => by omega)⟩
  | m + 1 => by
    unfold canF
    rw [Bool.or_eq_true, Bool.and_eq_true, decide_eq_true_iff, canF_iff m]
    constructor
    · rintro ((h | ⟨k, h1, h2⟩) | ⟨h1, h2⟩)
      · exact .inl h
      · exact .inr ⟨k, by omega, h2⟩
      · exact .inr ⟨m, by omega, h1, h2⟩
    · rintro (h | ⟨k, h1, h2, h3⟩)
      · exact .inl (.inl h)
      · by_cases hk : k = m
        · subst hk; exact .inr ⟨h2, h3⟩
        · exact .inl (.inr ⟨k, by omega, h2, h3⟩)
theorem can_end {p : List Ins} {es : List Bool} {i : Nat} {x : Ins} {b : Bool} (hp : RightP p) (h : IsE p es) (hx : p[i]? = some x) (hb : es[i]? = some b) : canF p es i x p.length = b := by
  have key : canF p es i x p.length = true ↔ EnW p i := by
    rw [canF_iff]
    constructor
    · rintro (h1 | ⟨k, _, h2, h3⟩)
      · exact ⟨i, x, hx, h1, .start trivial⟩
      · cases he : es[k]? with
        | none => rw [he] at h3; cases h3
        | some c =>
          rw [he] at h3
          obtain ⟨t, y, hy, h4, h5⟩ := (h.at_ he).1 h3
          exact ⟨t, y, hy, h4, way_front h2 h5⟩
    · rintro ⟨t, y, hy, h4, h5⟩
      rcases way_first h5 with h6 | ⟨u, h6, h7⟩
      · subst h6
        rw [hx] at hy
        obtain rfl := Option.some.inj hy
        exact .inl h4
      · have hu := edF_lt hp h6
        obtain ⟨c, hc⟩ : ∃ c, es[u]? = some c := ⟨_, List.getElem?_eq_getElem (by rw [h.len]; exact hu)⟩
        refine .inr ⟨u, hu, h6, ?_⟩
        rw [hc]
        exact (h.at_ hc).2 ⟨t, y, hy, h4, h7⟩
  rw [Bool.eq_iff_iff, key]
  exact (h.at_ hb).symm
/-- The least distance so far; -1: none. -/
def leaS (d : List Int) (acc : Int) (k : Nat) : Int := if 0 ≤ (d[k]?).getD (-1) ∧ (acc < 0 ∨ (d[k]?).getD (-1) < acc) then (d[k]?).getD (-1) else acc
def leaF (d : List Int) (l : List Nat) : Int := l.foldl (leaS d) (-1)
theorem leaF_snoc {d : List Int} {l : List Nat} {k u : Nat} (h : l[k]? = some u) : leaF d (l.take (k + 1)) = leaS d (leaF d (l.take k)) u := by
  unfold leaF
  rw [take_snoc h, List.foldl_append]; rfl
theorem leaF_gen (d : List Int) : ∀ (l : List Nat) (a : Int), (a = -1 ∨ 0 ≤ a) → (l.foldl (leaS d) a = -1 ∧ a = -1 ∧ ∀ k ∈ l, (d[k]?).getD (-1) < 0) ∨ (0 ≤ l.foldl (leaS d) a ∧ (l.foldl (leaS d) a = a ∨ ∃ k ∈ l, (d[k]?).getD (-1) = l.foldl (leaS d) a) ∧ (0 ≤ a → l.foldl (leaS d) a ≤ a) ∧ ∀ k ∈ l, 0 ≤ (d[k]?).getD (-1) → l.foldl (leaS d) a ≤ (d[k]?).getD (-1))
  | [], a, ha => by
    rcases ha with rfl | ha
    · exact .inl ⟨rfl, rfl, fun k hk => by cases hk⟩
    · exact .inr ⟨ha, .inl rfl, fun _ => Int.le_refl _, fun k hk => by cases hk⟩
  | u :: l, a, ha => by
    rw [List.foldl_cons]
    obtain ⟨v, hv⟩ : ∃ v, v = (d[u]?).getD (-1) := ⟨_, rfl⟩
    by_cases hu : 0 ≤ v ∧ (a < 0 ∨ v < a)
    · have e : leaS d a u = v := by unfold leaS; rw [← hv, if_pos hu]
      rw [e]
      rcases leaF_gen d l v (.inr hu.1) with ⟨_, h2, _⟩ | ⟨h1, h2, h3, h4⟩
      · omega
      · refine .inr ⟨h1, ?_, fun h0 => ?_, fun k hk h0 => ?_⟩
        · rcases h2 with h2 | ⟨k, hk, h2⟩
          · exact .inr ⟨u, List.mem_cons_self .., by rw [← hv, h2]⟩
          · exact .inr ⟨k, List.mem_cons_of_mem _ hk, h2⟩
        · have := h3 hu.1; omega
        · rcases List.mem_cons.1 hk with rfl | hk
          · rw [← hv]; exact h3 hu.1
          · exact h4 k hk h0
    · have e : leaS d a u = a := by unfold leaS; rw [← hv, if_neg hu]
      rw [e]
      rcases leaF_gen d l a ha with ⟨h1, h2, h3⟩ | ⟨h1, h2, h3, h4⟩
      · refine .inl ⟨h1, h2, fun k hk => ?_⟩
        rcases List.mem_cons.1 hk with rfl | hk
        · rw [← hv]; omega
        · exact h3 k hk
      · refine .inr ⟨h1, ?_, h3, fun k hk h0 => ?_⟩
        · rcases h2 with h2 | ⟨k, hk, h2⟩
          · exact .inl h2
          · exact .inr ⟨k, List.mem_cons_of_mem _ hk, h2⟩
        · rcases List.mem_cons.1 hk with rfl | hk
          · rw [← hv] at h0 ⊢
            rcases ha with rfl | ha
            · omega
            · have := h3 ha; omega
          · exact h4 k hk h0
theorem leaF_spec (d : List Int) (l : List Nat) : (leaF d l = -1 ∧ ∀ k ∈ l, (d[k]?).getD (-1) < 0) ∨ (0 ≤ leaF d l ∧ (∃ k ∈ l, (d[k]?).getD (-1) = leaF d l) ∧ ∀ k ∈ l, 0 ≤ (d[k]?).getD (-1) → leaF d l ≤ (d[k]?).getD (-1)) := by
  unfold leaF
  rcases leaF_gen d l (-1) (.inl rfl) with ⟨h1, _, h2⟩ | ⟨h1, h2, _, h3⟩
  · exact .inl ⟨h1, h2⟩
  · refine .inr ⟨h1, ?_, h3⟩
    rcases h2 with h2 | h2
    · omega
    · exact h2
theorem lea_end {p : List Ins} {d : List Int} {i : Nat} {x : Int} (_hp : RightP p) (h : IsD (EdP p) p.length 0 d) (hi : 0 < i) (hx : d[i]? = some x) : (leaF d (befN p p.length i) < 0 ∧ x = -1) ∨ (0 ≤ leaF d (befN p p.length i) ∧ x = leaF d (befN p p.length i) + 1) := by
  have hlt : ∀ k, i ∈ edF p k → k < p.length := fun k hk => by
    obtain ⟨y, hy, _⟩ := edF_mem.1 hk
    exact (List.getElem?_eq_some_iff.1 hy).1
  have hd : ∀ k, k < p.length → ∃ y, d[k]? = some y := fun k hk => ⟨_, List.getElem?_eq_getElem (by rw [h.len]; exact hk)⟩
  rcases leaF_spec d (befN p p.length i) with ⟨h1, h2⟩ | ⟨h1, ⟨k, hk, h2⟩, h3⟩
  · rw [h1]
    refine .inl ⟨by omega, ?_⟩
    rcases h.low hx with h4 | ⟨_, h4⟩ | ⟨h4, u, he, hu⟩
    · exact h4
    · omega
    · have := h2 u (befN_mem.2 ⟨hlt u he, he⟩)
      rw [hu] at this
      simp only [Option.getD_some] at this
      omega
  · refine .inr ⟨h1, ?_⟩
    obtain ⟨hkl, he⟩ := befN_mem.1 hk
    obtain ⟨y, hy⟩ := hd k hkl
    rw [hy] at h2
    simp only [Option.getD_some] at h2
    obtain ⟨z, hz, h4, h5⟩ := h.go hy (by omega) he
    rw [hx] at hz
    obtain rfl := Option.some.inj hz
    rcases h.low hx with h6 | ⟨_, h6⟩ | ⟨h6, u, he2, hu⟩
    · omega
    · omega
    · have h7 := h3 u (befN_mem.2 ⟨hlt u he2, he2⟩)
      rw [hu] at h7
      simp only [Option.getD_some] at h7
      have := h7 (by omega)
      omega
theorem nodup_le {α : Type} [DecidableEq α] : ∀ {l l' : List α}, l.Nodup → (∀ x ∈ l, x ∈ l') → l.length ≤ l'.length
  | [], l', _, _ => Nat.zero_le _
  | a :: l, l', h, hs => by
    rw [List.nodup_cons] at h
    have ha := hs a (List.mem_cons_self ..)
    have h1 := nodup_le (l := l) (l' := l'.erase a) h.2 (fun x hx => (List.mem_erase_of_ne (fun e => h.1 (by rw [← e]; exact hx))).2 (hs x (List.mem_cons_of_mem _ hx)))
    rw [List.length_erase_of_mem ha] at h1
    have := List.length_pos_of_mem ha
    rw [List.length_cons]; omega
theorem dist_lt {E : Nat → Nat → Prop} {n b : Nat} {d : List Int} (h : IsD E n b d) {v : Nat} {x : Int} (hx : d[v]? = some x) : -1 ≤ x ∧ x < (n : Int) := by
  have key : ∀ (m v : Nat), d[v]? = some (m : Int) → ∀ j : Nat, j ≤ m → (j : Int) ∈ d := by
    intro m
    induction m with
    | zero =>
      intro v hv j hj
      have hj0 : j = 0 := by omega
      rw [hj0]
      exact List.mem_of_getElem? hv
    | succ m ih =>
      intro v hv j hj
      by_cases e : j = m + 1
      · subst e; exact List.mem_of_getElem? hv
      · rcases h.low hv with h1 | ⟨h1, -⟩ | ⟨-, u, -, hu⟩
        · omega
        · omega
        · exact ih u (by rw [hu]; congr 1; omega) j (by omega)
  rcases h.low hx with h1 | ⟨h1, -⟩ | ⟨h1, -⟩
  · omega
  · have := (List.getElem?_eq_some_iff.1 hx).1
    rw [h.len] at this; omega
  · obtain ⟨m, rfl⟩ := Int.eq_ofNat_of_zero_le (show 0 ≤ x by omega)
    have h2 := nodup_le (l := (List.range (m + 1)).map fun k : Nat => (k : Int)) (l' := d) (by
      rw [List.nodup_iff_pairwise_ne, List.pairwise_map]
      exact List.nodup_range.imp (fun h e => h (by omega))) (fun y hy => by
      obtain ⟨j, hj, rfl⟩ := List.mem_map.1 hy
      exact key m v hx j (by have := List.mem_range.1 hj; omega))
    rw [List.length_map, List.length_range, h.len] at h2
    omega
theorem goes_edF {p : List Ins} {i k : Nat} {x : Ins} (hx : p[i]? = some x) : decide (k ∈ edF p i) = ((tgtF x && decide (x.n = (k : Int))) || (goesF x && decide (k = i + 1))) := by
  rw [Bool.eq_iff_iff, decide_eq_true_iff, edF_at hx, edX_mem]
  simp
theorem srt_at {l : List Nat} (h : l.Pairwise (· < ·)) {i : Nat} {a b : Nat} (h1 : l[i]? = some a) (h2 : l[i + 1]? = some b) : a < b := by
  obtain ⟨q1, e1⟩ := List.getElem?_eq_some_iff.1 h1
  obtain ⟨q2, e2⟩ := List.getElem?_eq_some_iff.1 h2
  rw [← e1, ← e2]
  exact List.pairwise_iff_getElem.1 h i (i + 1) q1 q2 (by omega)
end Go.Fx
namespace Go.Proofs.Ytlneifgihdickaa
open Go.RowKit Go.Fx
theorem isNaN_ (a : Int) (w : World) : Calls Try.prog 63 #[.int .i64 a] w fun e w' => e = .returned (.bool false) ∧ w = w' := by
  have hb : (a != a) = false := by simp
  go_enter Try.func63, Try.ntmps63
  go_wp2_with fail
  go_ret
  exact ⟨by simp, rfl⟩
theorem lessZ (a b : Int) (w : World) : Calls Try.prog 41 #[.int .i64 a, .int .i64 b] w fun e w' => e = .returned (.bool (decide (a < b))) ∧ w = w' := by
  go_enter Try.func41, Try.ntmps41
  go_wp2_with fail
  refine (isNaN_ a w).mono ?_; rintro e w1 ⟨rfl, rfl⟩
  go_wp2_with fail
  go_ret
  exact ⟨by simp, rfl⟩
set_option maxRecDepth 100000 in
set_option maxHeartbeats 1000000 in
theorem sortedN (A : Option Addr) (n c : Nat) (l : List Nat) (w : World) (h : Rd intv w A n l) (hs : l.Pairwise (· < ·)) (hm : n ≤ 1000000000) :
    Calls Try.prog 19 #[.slice A n c] w fun e w' => e = .returned (.bool true) ∧ Ext w w' := by
  have H := Lib.hid h
  have Hs := Lib.hid hs
  clear h hs
  go_enter Try.func19, Try.ntmps19
  go_wp2_with fail
  go_loopw [3] (fun i wr => ∃ z : Int, -1 ≤ z ∧ z < (n : Int) ∧ i = .int .i64 z ∧ Ext w wr) (fun i _ => (intOf i).toNat)
  case atStart => exact ⟨(n : Int) - 1, by omega, by omega, by go_num, Ext.refl _⟩
  case round =>
    obtain ⟨z, hz1, hz2, rfl, HE⟩ := hrel
    have HE := Lib.hid HE
    by_cases hlt : 0 < z
    · obtain ⟨j, rfl⟩ := Int.eq_ofNat_of_zero_le (show 0 ≤ z by omega)
      obtain ⟨k, hk⟩ : ∃ k : Nat, j = k + 1 := ⟨j - 1, by omega⟩
      obtain ⟨b, o, y, rfl, hy, c0⟩ := rd_get (H.out.ext HE.out) (k := j) (by omega)
      obtain ⟨b', o', x, e', hx, c1⟩ := rd_get (H.out.ext HE.out) (k := k) (by omega)
      cases e'
      have hxy := srt_at Hs.out hx (by rw [← hk]; exact hy)
      unfold intv at c0 c1
      have hj0 : (0 : Int) < (j : Int) := by omega
      have hjk : (j : Int) - 1 = (k : Int) := by omega
      have hjn : (j : Int) < (n : Int) := by omega
      have hkn : (k : Int) < (n : Int) := by omega
      have hwk : IntKind.i64.wrap (k : Int) = (k : Int) := by rw [IntKind.wrap_i64]; omega
      have HL := Lib.hid (fun w' => lessZ (y : Int) (x : Int) w')
      rw [show decide ((y : Int) < (x : Int)) = false from decide_eq_false (by omega)] at HL
      clear hx hy hlt hk hxy
      go_wp2_with fail
      go_quiet ((go_at_call 41; exact (HL.out _).mono fun _ _ h => ⟨h.1, _, h.2.symm⟩))
      go_wp2_with fail
      go_roundw
      case rel => exact ⟨(k : Int), by omega, by omega, by go_num, HE.out.t (by first | exact Ext.drewN _ _ | exact Ext.drew _)⟩
      case measure => simp [intOf]; omega
    · go_wp2_with fail
      go_ret
      exact ⟨rfl, HE.out⟩
end Go.Proofs.Ytlneifgihdickaa
namespace Go.Fx
open Go.RowKit Go.Proofs Go.Proofs.Ytlneifgihdickaa
section
variable {E : Nat → Nat → Prop} {n i j k c : Nat}
/-- How many dominate each one. -/
theorem dom_cnt (hE : ∀ i, Rch E i → i < n) : ∃ cnt : Nat → Nat, (∀ i k, Nea E i k → cnt k + 1 = cnt i) ∧ (∀ i, Rch E i → 1 ≤ cnt i ∧ cnt i ≤ n) := by
  classical
  have hD : ∀ k i, k < n → Rch E i → ((fun k i => decide (Dom E k i)) k i = true ↔ Dom E k i) := fun _ _ _ _ => by simp
  refine ⟨cntT (fun k i => decide (Dom E k i)) n, fun i k h => h.cnt hD hE, fun i hi => ⟨?_, ?_⟩⟩
  · refine List.length_pos_of_mem (a := i) ?_
    rw [List.mem_filter, List.mem_range]
    exact ⟨hE i hi, by simp [Dom.self hi]⟩
  · unfold cntT
    have := List.length_filter_le (fun k => decide (Dom E k i)) (List.range n)
    rwa [List.length_range] at this
theorem dom_zero_iff (h0 : Rch E 0) : Dom E k 0 ↔ k = 0 := by
  constructor
  · intro h
    exact (Dom.anti h (Dom.zero h.rch)).symm
  · rintro rfl; exact Dom.self h0
theorem nea_iff (h : Nea E c j) : Dom E k c ↔ k = c ∨ Dom E k j := by
  constructor
  · exact h.2.2 k
  · rintro (rfl | h1)
    · exact Dom.self h.2.1.1
    · exact h1.trans h.2.1
theorem nea_not (h : Nea E c j) : ¬ Dom E c j := fun h1 => h.1 (Dom.anti h1 h.2.1)
/-- What was seen of the dominators, before c. -/
def SeeD (E : Nat → Nat → Prop) (k i c : Nat) : Prop := Dom E k i ∧ ¬ Dom E k c
theorem see_start : ¬ SeeD E k i i := fun h => h.2 h.1
theorem see_next (hc : Dom E c i) (h : Nea E c j) : SeeD E k i j ↔ SeeD E k i c ∨ c = k := by
  unfold SeeD
  rw [nea_iff (k := k) h]
  constructor
  · rintro ⟨h1, h2⟩
    by_cases e : c = k
    · exact .inr e
    · exact .inl ⟨h1, fun h3 => h3.elim (fun e2 => e e2.symm) h2⟩
  · rintro (⟨h1, h2⟩ | rfl)
    · exact ⟨h1, fun h3 => h2 (.inr h3)⟩
    · exact ⟨hc, nea_not h⟩
theorem see_end (hc : Dom E 0 i) : Dom E k i ↔ SeeD E k i 0 ∨ 0 = k := by
  unfold SeeD
  rw [dom_zero_iff (k := k) hc.rch]
  constructor
  · intro h
    by_cases e : 0 = k
    · exact .inr e
    · exact .inl ⟨h, fun e2 => e e2.symm⟩
  · rintro (h | rfl)
    · exact h.1
    · exact hc
/-- The next one of the chain of dominators. -/
theorem isN_at {d : List Int} (h : IsN E n d) (hc : Rch E c) (hn : c < n) : (c = 0 ∧ d[c]? = some (-1)) ∨ (∃ j : Nat, j < n ∧ d[c]? = some (j : Int) ∧ Nea E c j) := by
  by_cases h0 : c = 0
  · exact .inl ⟨h0, h.none_ hn (.inl h0)⟩
  · obtain ⟨j, h1, h2, h3⟩ := h.some_ hn h0 hc
    exact .inr ⟨j, h1, h2, h3⟩
theorem isN_sign {d : List Int} {x : Int} (h : IsN E n d) (hi : i < n) (hx : d[i]? = some x) : (0 ≤ x ↔ Rch E i ∧ 0 < i) := by
  by_cases h0 : i = 0 ∨ ¬ Rch E i
  · have h1 := h.none_ hi h0
    rw [hx] at h1
    obtain rfl := Option.some.inj h1
    constructor
    · intro h2; omega
    · rintro ⟨h2, h3⟩
      rcases h0 with h0 | h0
      · omega
      · exact absurd h2 h0
  · have h1 : i ≠ 0 := fun e => h0 (.inl e)
    have h2 : Rch E i := by
      by_cases hc : Rch E i
      · exact hc
      · exact absurd (.inr hc) h0
    obtain ⟨j, _, h3, _⟩ := h.some_ hi h1 h2
    rw [hx] at h3
    obtain rfl := Option.some.inj h3
    exact ⟨fun _ => ⟨h2, by omega⟩, fun _ => by omega⟩
/-- A way, place by place. -/
structure Pth (E : Nat → Nat → Prop) (W : List Nat) : Prop where
  st : W[0]? = some 0
  go : ∀ (j u v : Nat), W[j]? = some u → W[j + 1]? = some v → E u v
theorem Pth.one : Pth E [0] := ⟨rfl, fun j u v _ h => by cases j <;> cases h⟩
theorem Pth.snoc {W : List Nat} {m u v : Nat} (h : Pth E W) (hm : W.length = m + 1) (hu : W[m]? = some u) (he : E u v) : Pth E (W ++ [v]) := by
  refine ⟨by rw [List.getElem?_append_left (by omega)]; exact h.st, fun j a b ha hb => ?_⟩
  have hj := (List.getElem?_eq_some_iff.1 hb).1
  rw [List.length_append, List.length_singleton] at hj
  rw [List.getElem?_append_left (by omega)] at ha
  by_cases e : j + 1 = W.length
  · rw [List.getElem?_append_right (by omega), e, Nat.sub_self] at hb
    obtain rfl : v = b := by simpa using hb
    have : j = m := by omega
    subst this
    rw [hu] at ha
    obtain rfl := Option.some.inj ha
    exact he
  · rw [List.getElem?_append_left (by omega)] at hb
    exact h.go j a b ha hb
theorem Pth.rch {W : List Nat} (h : Pth E W) : ∀ {j u : Nat}, W[j]? = some u → Rch E u
  | 0, u, hu => by
    rw [h.st] at hu
    obtain rfl := Option.some.inj hu
    exact .start trivial
  | j + 1, v, hv => by
    have hj := (List.getElem?_eq_some_iff.1 hv).1
    obtain ⟨u, hu⟩ : ∃ u, W[j]? = some u := ⟨_, List.getElem?_eq_getElem (by omega)⟩
    exact .step (Pth.rch h hu) (h.go j u v hu hv) trivial
theorem Pth.rwo {W : List Nat} (h : Pth E W) : ∀ {j u : Nat}, W[j]? = some u → (∀ x ∈ W.take (j + 1), x ≠ k) → Rwo E k u
  | 0, u, hu, hk => by
    have h1 := hk u (List.mem_of_getElem? (i := 0) (by rw [List.getElem?_take, if_pos (by omega)]; exact hu))
    rw [h.st] at hu
    obtain rfl := Option.some.inj hu
    exact .start h1
  | j + 1, v, hv, hk => by
    have hj := (List.getElem?_eq_some_iff.1 hv).1
    obtain ⟨u, hu⟩ : ∃ u, W[j]? = some u := ⟨_, List.getElem?_eq_getElem (by omega)⟩
    refine .step (Pth.rwo h hu (fun x hx => hk x ?_)) (h.go j u v hu hv) (hk v (List.mem_of_getElem? (i := j + 1) (by rw [List.getElem?_take, if_pos (by omega)]; exact hv)))
    rw [take_snoc hv]
    exact List.mem_append_left _ hx
/-- What dominates the last place was on the way before. -/
theorem Pth.dom {W : List Nat} {m u : Nat} (h : Pth E W) (hu : W[m]? = some u) (hd : Dom E k u) (hku : k ≠ u) : k ∈ W.take m := by
  by_cases hk : k ∈ W.take m
  · exact hk
  · exfalso
    refine hd.2 (h.rwo hu (fun x hx => ?_))
    rw [take_snoc hu] at hx
    rcases List.mem_append.1 hx with h1 | h1
    · exact fun e => hk (by rw [← e]; exact h1)
    · obtain rfl := List.mem_singleton.1 h1
      exact fun e => hku e.symm
theorem Pth.dist {W : List Nat} {d : List Int} (h : Pth E W) (hd : IsD E n 0 d) : ∀ {j u : Nat}, W[j]? = some u → ∃ y, d[u]? = some y ∧ 0 ≤ y ∧ y ≤ (j : Int)
  | 0, u, hu => by
    rw [h.st] at hu
    obtain rfl := Option.some.inj hu
    exact ⟨0, hd.at_b, by omega, by omega⟩
  | j + 1, v, hv => by
    have hj := (List.getElem?_eq_some_iff.1 hv).1
    obtain ⟨u, hu⟩ : ∃ u, W[j]? = some u := ⟨_, List.getElem?_eq_getElem (by omega)⟩
    obtain ⟨y, h1, h2, h3⟩ := Pth.dist h hd hu
    obtain ⟨z, h4, h5, h6⟩ := hd.go h1 h2 (h.go j u v hu hv)
    exact ⟨z, h4, h5, by omega⟩
theorem Pth.to_ {W : List Nat} (h : Pth E W) {j u : Nat} (hu : W[j]? = some u) : ∀ (q : Nat) {v : Nat}, W[j + q]? = some v → Way E (fun _ => True) u v
  | 0, v, hv => by
    rw [Nat.add_zero, hu] at hv
    obtain rfl := Option.some.inj hv
    exact .start trivial
  | q + 1, v, hv => by
    have hj := (List.getElem?_eq_some_iff.1 hv).1
    obtain ⟨x, hx⟩ : ∃ x, W[j + q]? = some x := ⟨_, List.getElem?_eq_getElem (by omega)⟩
    exact .step (Pth.to_ h hu q hx) (h.go (j + q) x v hx hv) trivial
end
/-- All on the way can end, if the last one is a Halt. -/
theorem Pth.ends {p : List Ins} {W : List Nat} {m u : Nat} {x : Ins} (h : Pth (EdP p) W) (hm : W.length = m + 1) (hu : W[m]? = some u) (hx : p[u]? = some x) (ho : x.op = 1) {j v : Nat} (hv : W[j]? = some v) : EnW p v := by
  have hj := (List.getElem?_eq_some_iff.1 hv).1
  exact ⟨u, x, hx, ho, h.to_ hv (m - j) (by rw [show j + (m - j) = m by omega]; exact hu)⟩
/-- An instruction fails. -/
def fail0 : Ins := ⟨2, 0, 0, 0, 0⟩
theorem fail_right {p : List Ins} (hp : RightP p) (k : Nat) : RightP (p.set k fail0) := by
  have hm : ∀ x ∈ p.set k fail0, x ∈ p ∨ x = fail0 := fun x hx => List.mem_or_eq_of_mem_set hx
  refine ⟨by rw [List.length_set]; exact hp.pos, by rw [List.length_set]; exact hp.max, fun x hx => ?_, fun x hx ht => ?_, fun {x} hx => ?_⟩
  · rcases hm x hx with h | h
    · exact hp.one x h
    · rw [h]; decide
  · rw [List.length_set]
    rcases hm x hx with h | h
    · exact hp.tgt x h ht
    · rw [h] at ht; exact absurd ht (by decide)
  · rw [List.length_set] at hx
    by_cases hk : k = p.length - 1
    · subst hk
      rw [List.getElem?_set_self (by have := hp.pos; omega)] at hx
      obtain rfl := Option.some.inj hx
      decide
    · rw [List.getElem?_set_ne hk] at hx
      exact hp.last hx
theorem fail_ed {p : List Ins} {k u v : Nat} : EdP (p.set k fail0) u v → u ≠ k ∧ EdP p u v := by
  intro h
  obtain ⟨x, hx, h1⟩ := edF_mem.1 h
  by_cases e : k = u
  · subst e
    have hk := (List.getElem?_eq_some_iff.1 hx).1
    rw [List.length_set] at hk
    rw [List.getElem?_set_self hk] at hx
    obtain rfl := Option.some.inj hx
    rcases h1 with ⟨h1, _⟩ | ⟨h1, _⟩ <;> exact absurd h1 (by decide)
  · rw [List.getElem?_set_ne e] at hx
    exact ⟨fun e2 => e e2.symm, edF_mem.2 ⟨x, hx, h1⟩⟩
theorem fail_ed' {p : List Ins} {k u v : Nat} (hu : u ≠ k) (h : EdP p u v) : EdP (p.set k fail0) u v := by
  obtain ⟨x, hx, h1⟩ := edF_mem.1 h
  exact edF_mem.2 ⟨x, by rw [List.getElem?_set_ne (fun e => hu e.symm)]; exact hx, h1⟩
/-- What is reached when k fails: what is reached without k. -/
theorem fail_rch {p : List Ins} {k i : Nat} (hik : i ≠ k) : Rch (EdP (p.set k fail0)) i ↔ Rwo (EdP p) k i := by
  constructor
  · intro h
    induction h with
    | start _ => exact .start hik
    | @step u v _ e _ ih =>
      obtain ⟨h1, h2⟩ := fail_ed e
      exact .step (ih h1) h2 hik
  · intro h
    exact Way.mono h (fun u v hu e => fail_ed' hu e) (fun _ _ => trivial)
theorem fail_le {p : List Ins} {k i : Nat} (h : Rch (EdP (p.set k fail0)) i) : Rch (EdP p) i := Way.mono h (fun _ _ _ e => (fail_ed e).2) (fun _ _ => trivial)
end Go.Fx
