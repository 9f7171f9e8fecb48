/- Fap: what the examples of chapter 16 answer, in plain Lean. No program in sight. -/
import Derived.Test.YtlneifgihdickaaFen
import Derived.Test.YtlneifgihdickaaFbx
namespace Go.Fx
open Go.Proofs Go.Proofs.Ytlneifgihdickaa
/-- A check of distances. -/
def isDB (p : List Ins) (n b : Nat) (d : List Int) : Bool :=
  decide (d.length = n) && decide (d[b]? = some 0) && (List.range n).all (fun v => match d[v]? with
    | some x => decide (x = -1) || decide (x = 0 ∧ v = b) || (decide (0 < x) && (List.range n).any (fun u => decide (v ∈ edF p u) && decide (d[u]? = some (x - 1))))
    | none => true) && (List.range n).all (fun u => match d[u]? with
    | some x => decide (x < 0) || (edF p u).all (fun v => match d[v]? with
      | some y => decide (0 ≤ y ∧ y ≤ x + 1)
      | none => false)
    | none => true)
theorem isDB_ok {p : List Ins} {n b : Nat} {d : List Int} (h : isDB p n b d = true) : IsD (EdP p) n b d := by
  unfold isDB at h
  simp only [Bool.and_eq_true, decide_eq_true_eq, List.all_eq_true, List.mem_range] at h
  obtain ⟨⟨⟨h1, h2⟩, h3⟩, h4⟩ := h
  refine ⟨h1, h2, fun {v x} hv => ?_, fun {u v x} hu h0 he => ?_⟩
  · have hl : v < n := by have := (List.getElem?_eq_some_iff.1 hv).1; omega
    have h5 := h3 v hl
    rw [hv] at h5
    simp only [Bool.or_eq_true, Bool.and_eq_true, decide_eq_true_eq, List.any_eq_true, List.mem_range] at h5
    rcases h5 with (h5 | h5) | ⟨h5, u, _, h6, h7⟩
    · exact .inl h5
    · exact .inr (.inl h5)
    · exact .inr (.inr ⟨h5, u, h6, h7⟩)
  · have hl : u < n := by have := (List.getElem?_eq_some_iff.1 hu).1; omega
    have h5 := h4 u hl
    rw [hu] at h5
    simp only [Bool.or_eq_true, decide_eq_true_eq, List.all_eq_true] at h5
    rcases h5 with h5 | h5
    · omega
    · have h6 := h5 v he
      cases hy : d[v]? with
      | none => rw [hy] at h6; cases h6
      | some y =>
        rw [hy] at h6
        simp only [decide_eq_true_eq] at h6
        exact ⟨y, rfl, h6.1, h6.2⟩
/-- A check of what can end: r tells how far each one is from a Halt. -/
def isEB (p : List Ins) (es : List Bool) (r : List Nat) : Bool :=
  decide (es.length = p.length) && (List.range p.length).all (fun v => match p[v]?, es[v]?, r[v]? with
    | some x, some true, some m => decide (x.op = 1) || (edF p v).any (fun u => decide (es[u]? = some true) && (match r[u]? with | some k => decide (k < m) | none => false))
    | some x, some false, _ => decide (x.op ≠ 1) && (edF p v).all (fun u => decide (es[u]? = some false))
    | _, _, _ => false)
theorem way_front {E : Nat → Nat → Prop} {v u h : Nat} (e : E v u) (hw : Way E (fun _ => True) u h) : Way E (fun _ => True) v h := by
  induction hw with
  | start _ => exact .step (.start trivial) e trivial
  | step _ e2 _ ih => exact .step ih e2 trivial
theorem isEB_ok {p : List Ins} {es : List Bool} {r : List Nat} (h : isEB p es r = true) : IsE p es := by
  unfold isEB at h
  simp only [Bool.and_eq_true, decide_eq_true_eq, List.all_eq_true, List.mem_range] at h
  obtain ⟨h1, h2⟩ := h
  have yes : ∀ (m v k : Nat), k < m → es[v]? = some true → r[v]? = some k → EnW p v := by
    intro m
    induction m with
    | zero => intro v k hk; omega
    | succ m ih =>
      intro v k hk hv hr
      have hl : v < p.length := by have := (List.getElem?_eq_some_iff.1 hv).1; omega
      obtain ⟨x, hx⟩ : ∃ x, p[v]? = some x := ⟨_, List.getElem?_eq_getElem hl⟩
      have h3 := h2 v hl
      rw [hx, hv, hr] at h3
      simp only [Bool.or_eq_true, decide_eq_true_eq, List.any_eq_true, Bool.and_eq_true] at h3
      rcases h3 with h3 | ⟨u, he, hu, h4⟩
      · exact ⟨v, x, hx, h3, .start trivial⟩
      · cases hru : r[u]? with
        | none => rw [hru] at h4; cases h4
        | some k' =>
          rw [hru] at h4
          simp only [decide_eq_true_eq] at h4
          obtain ⟨t, y, hy, h5, h6⟩ := ih u k' (by omega) hu hru
          exact ⟨t, y, hy, h5, way_front he h6⟩
  have no : ∀ v h : Nat, Way (EdP p) (fun _ => True) v h → es[v]? = some false → es[h]? = some false := by
    intro v h hw
    induction hw with
    | start _ => exact id
    | @step a b ha e _ ih =>
      intro hv
      have h3 := ih hv
      have hl : a < p.length := by have := (List.getElem?_eq_some_iff.1 h3).1; omega
      obtain ⟨x, hx⟩ : ∃ x, p[a]? = some x := ⟨_, List.getElem?_eq_getElem hl⟩
      have h4 := h2 a hl
      rw [hx, h3] at h4
      simp only [Bool.and_eq_true, decide_eq_true_eq, List.all_eq_true] at h4
      exact h4.2 b e
  refine ⟨h1, fun {v b} hv => ?_⟩
  have hl : v < p.length := by have := (List.getElem?_eq_some_iff.1 hv).1; omega
  obtain ⟨x, hx⟩ : ∃ x, p[v]? = some x := ⟨_, List.getElem?_eq_getElem hl⟩
  cases b with
  | true =>
    refine ⟨fun _ => ?_, fun _ => rfl⟩
    have h3 := h2 v hl
    rw [hx, hv] at h3
    cases hr : r[v]? with
    | none => rw [hr] at h3; cases h3
    | some k => exact yes (k + 1) v k (Nat.lt_succ_self k) hv hr
  | false =>
    refine ⟨fun h => (by cases h), fun ⟨h, y, hy, h5, h6⟩ => ?_⟩
    have h3 := no v h h6 hv
    have hlh : h < p.length := by have := (List.getElem?_eq_some_iff.1 hy).1; omega
    have h4 := h2 h hlh
    rw [hy, h3] at h4
    simp only [Bool.and_eq_true, decide_eq_true_eq] at h4
    exact absurd h5 h4.1
/-- Where control comes from one place alone, that one is the nearest dominator. -/
theorem nea_of_one {E : Nat → Nat → Prop} {v k : Nat} (h : ∀ u, E u v → u = k) (h0 : v ≠ 0) (hkv : k ≠ v) (hr : Rch E v) : Nea E v k := by
  have hk : Rch E k := by
    cases hr with
    | start _ => exact absurd rfl h0
    | step hu e _ => rw [← h _ e]; exact hu
  have hE : E k v := by
    cases hr with
    | start _ => exact absurd rfl h0
    | step hu e _ => rw [h _ e] at e; exact e
  refine ⟨hkv, ⟨hr, fun hw => ?_⟩, fun j hj => ?_⟩
  · cases hw with
    | start _ => exact h0 rfl
    | step hu e _ => exact hu.ok_last (h _ e)
  · by_cases hjv : j = v
    · exact .inl hjv
    · exact .inr ⟨hk, fun hw => hj.2 (.step hw hE (fun e => hjv e.symm))⟩
/-- A check of nearest dominators where control comes from at most one place. -/
def isNB (p : List Ins) (n : Nat) (ds ns : List Int) : Bool :=
  decide (ns.length = n) && decide (ns[0]? = some (-1)) && decide (0 < n) && (List.range n).all (fun v => decide (v = 0) || (match ds[v]?, ns[v]? with
    | some x, some y => (decide (x < 0) && decide (y = -1)) || (decide (0 ≤ x ∧ 0 ≤ y ∧ y < (n : Int) ∧ y ≠ (v : Int)) && (List.range n).all (fun u => decide (v ∉ edF p u) || decide ((u : Int) = y)))
    | _, _ => false))
theorem isNB_ok {p : List Ins} {n : Nat} {ds ns : List Int} (hp : p.length = n) (hd : IsD (EdP p) n 0 ds) (h : isNB p n ds ns = true) : IsN (EdP p) n ns := by
  unfold isNB at h
  simp only [Bool.and_eq_true, Bool.or_eq_true, decide_eq_true_eq, List.all_eq_true, List.mem_range] at h
  obtain ⟨⟨⟨h1, h2⟩, h3⟩, h4⟩ := h
  have hlt : ∀ u v, EdP p u v → u < n := fun u v he => by
    obtain ⟨x, hx, _⟩ := edF_mem.1 he
    have := (List.getElem?_eq_some_iff.1 hx).1
    omega
  have key : ∀ i, i < n → i ≠ 0 → ∃ x y, ds[i]? = some x ∧ ns[i]? = some y ∧ ((x < 0 ∧ y = -1) ∨ ((0 ≤ x ∧ 0 ≤ y ∧ y < (n : Int) ∧ y ≠ (i : Int)) ∧ ∀ u, u < n → i ∉ edF p u ∨ (u : Int) = y)) := by
    intro i hi h0
    have h5 := (h4 i hi).resolve_left h0
    cases hx : ds[i]? with
    | none => rw [hx] at h5; cases h5
    | some x =>
      cases hy : ns[i]? with
      | none => rw [hx, hy] at h5; cases h5
      | some y =>
        rw [hx, hy] at h5
        simp only [Bool.and_eq_true, Bool.or_eq_true, decide_eq_true_eq, List.all_eq_true, List.mem_range] at h5
        exact ⟨x, y, rfl, rfl, h5⟩
  refine ⟨h1, fun {i} hi h => ?_, fun {i} hi h0 hr => ?_⟩
  · by_cases h0 : i = 0
    · rw [h0]; exact h2
    · obtain ⟨x, y, hx, hy, h5⟩ := key i hi h0
      rcases h5 with h5 | h5
      · rw [hy, h5.2]
      · exact absurd ((hd.iff hx).1 h5.1.1) (h.resolve_left h0)
  · obtain ⟨x, y, hx, hy, h5⟩ := key i hi h0
    rcases h5 with h5 | ⟨⟨h5, h6, h7, h8⟩, h9⟩
    · have := (hd.iff hx).2 hr; omega
    · refine ⟨y.toNat, by omega, by rw [hy]; congr 1; omega, nea_of_one (fun u he => ?_) h0 (by omega) hr⟩
      rcases h9 u (hlt u i he) with h | h
      · exact absurd he h
      · omega
/-- The programs of the examples. -/
def p5 : List Ins := [⟨10, 0, 0, 0, 3⟩, ⟨3, 1, 0, 0, 5⟩, ⟨9, 0, 0, 0, 4⟩, ⟨1, 0, 0, 0, 0⟩, ⟨1, 0, 0, 0, 0⟩]
def p2 : List Ins := [⟨9, 0, 0, 0, 0⟩, ⟨1, 0, 0, 0, 0⟩]
theorem p5_chk : (checkF p5).2 = 0 := by decide +kernel
theorem p2_chk : (checkF p2).2 = 0 := by decide +kernel
theorem p5_right : RightP p5 := rightP_iff.1 p5_chk
theorem p2_right : RightP p2 := rightP_iff.1 p2_chk
theorem p5_d : IsD (EdP p5) 5 0 [0, 1, 2, 1, 3] := isDB_ok (by decide +kernel)
theorem p2_d : IsD (EdP p2) 2 0 [0, -1] := isDB_ok (by decide +kernel)
theorem p5_e : IsE p5 [true, true, true, true, true] := isEB_ok (r := [1, 2, 1, 0, 0]) (by decide +kernel)
theorem p2_e : IsE p2 [false, true] := isEB_ok (r := [0, 0]) (by decide +kernel)
theorem p5_n : IsN (EdP p5) 5 [-1, 0, 1, 0, 2] := isNB_ok (ds := [0, 1, 2, 1, 3]) rfl p5_d (by decide +kernel)
theorem p5_0 : nextF p5 0 = ([1, 3], 0) := by decide +kernel
theorem p5_2 : nextF p5 2 = ([4], 0) := by decide +kernel
theorem p5_b : blkN (ledF p5 5) 5 = [(0, 1), (1, 3), (3, 4), (4, 5)] := by decide +kernel
theorem p5_m : (blkN (ledF p5 5) 5).map (fun x => (edF p5 (x.2 - 1)).map (numN (ledF p5 5))) = [[1, 2], [3], [], []] := by decide +kernel
end Go.Fx
