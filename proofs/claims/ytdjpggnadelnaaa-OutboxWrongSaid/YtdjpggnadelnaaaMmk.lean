/- Mmk: a map from keys to numbers; which lists are merged, in plain Lean. -/
import Derived.Test.YtdjpggnadelnaaaMkey
namespace Go.Fx
open Go.RowKit
/-- The first list that is not in order. -/
def badS : Nat → List (List Ev) → Option Nat
  | _, [] => none
  | i, l :: ls => if srtB l = true then badS (i + 1) ls else some i
/-- The keys that were met behind a list; none if one was there. -/
def twL (seen : List Ky) : List Ev → Option (List Ky)
  | [] => some seen
  | x :: xs => if x.k ∈ seen then none else twL (x.k :: seen) xs
/-- The first list with a key that was met. -/
def twF (seen : List Ky) : Nat → List (List Ev) → Option Nat
  | _, [] => none
  | i, l :: ls => match twL seen l with
    | none => some i
    | some s => twF s (i + 1) ls
def mergeF (ls : List (List Ev)) : List Ev × Int × Nat :=
  match badS 0 ls with
  | some i => ([], i, 110)
  | none => match twF [] 0 ls with
    | some i => ([], i, 111)
    | none => (isort ls.flatten, -1, 0)
theorem badS_none : ∀ {ls : List (List Ev)} {i : Nat}, badS i ls = none → ∀ l ∈ ls, Srt l
  | [], _, _, l, hl => by cases hl
  | a :: ls, i, h, l, hl => by
    unfold badS at h
    split at h
    · next ha =>
      rcases List.mem_cons.1 hl with rfl | hl
      · exact (srtB_iff _).1 ha
      · exact badS_none h l hl
    · cases h
theorem badS_of : ∀ {ls : List (List Ev)} {i : Nat}, (∀ l ∈ ls, Srt l) → badS i ls = none
  | [], _, _ => rfl
  | a :: ls, i, h => by
    unfold badS
    rw [if_pos ((srtB_iff _).2 (h a (by simp)))]
    exact badS_of (fun l hl => h l (by simp [hl]))
theorem twL_some : ∀ {l : List Ev} {seen s : List Ky}, twL seen l = some s → Dif l ∧ (∀ x ∈ l, x.k ∉ seen) ∧ (∀ k, k ∈ s ↔ k ∈ seen ∨ ∃ x ∈ l, x.k = k)
  | [], seen, s, h => by
    cases h
    exact ⟨List.Pairwise.nil, by simp, by simp⟩
  | x :: xs, seen, s, h => by
    unfold twL at h
    split at h
    · cases h
    · next hx =>
      obtain ⟨h1, h2, h3⟩ := twL_some h
      refine ⟨List.pairwise_cons.2 ⟨fun y hy e => h2 y hy (by rw [← e]; simp), h1⟩, fun y hy => ?_, fun k => ?_⟩
      · rcases List.mem_cons.1 hy with rfl | hy
        · exact hx
        · exact fun hs => h2 y hy (by simp [hs])
      · rw [h3]
        simp only [List.mem_cons]
        constructor
        · rintro ((rfl | h) | ⟨y, hy, rfl⟩)
          · exact .inr ⟨x, .inl rfl, rfl⟩
          · exact .inl h
          · exact .inr ⟨y, .inr hy, rfl⟩
        · rintro (h | ⟨y, rfl | hy, rfl⟩)
          · exact .inl (.inr h)
          · exact .inl (.inl rfl)
          · exact .inr ⟨y, hy, rfl⟩
theorem twL_of : ∀ {l : List Ev} {seen : List Ky}, Dif l → (∀ x ∈ l, x.k ∉ seen) → ∃ s, twL seen l = some s
  | [], seen, _, _ => ⟨seen, rfl⟩
  | x :: xs, seen, hd, hs => by
    have hd' := List.pairwise_cons.1 hd
    unfold twL
    rw [if_neg (hs x (by simp))]
    refine twL_of hd'.2 (fun y hy hm => ?_)
    rcases List.mem_cons.1 hm with h | h
    · exact hd'.1 y hy h.symm
    · exact hs y (by simp [hy]) h
theorem twF_none : ∀ {ls : List (List Ev)} {seen : List Ky} {i : Nat}, twF seen i ls = none → Dif ls.flatten ∧ ∀ x ∈ ls.flatten, x.k ∉ seen
  | [], _, _, _ => ⟨List.Pairwise.nil, by simp⟩
  | l :: ls, seen, i, h => by
    unfold twF at h
    split at h
    · cases h
    · next s hs =>
      obtain ⟨h1, h2, h3⟩ := twL_some hs
      obtain ⟨h4, h5⟩ := twF_none h
      rw [List.flatten_cons]
      refine ⟨List.pairwise_append.2 ⟨h1, h4, fun a ha b hb e => h5 b hb ((h3 _).2 (.inr ⟨a, ha, e⟩))⟩, fun x hx => ?_⟩
      rcases List.mem_append.1 hx with hx | hx
      · exact h2 x hx
      · exact fun hs' => h5 x hx ((h3 _).2 (.inl hs'))
theorem twF_of : ∀ {ls : List (List Ev)} {seen : List Ky} {i : Nat}, Dif ls.flatten → (∀ x ∈ ls.flatten, x.k ∉ seen) → twF seen i ls = none
  | [], _, _, _, _ => rfl
  | l :: ls, seen, i, hd, hs => by
    rw [List.flatten_cons] at hd hs
    obtain ⟨h1, h2, h3⟩ := List.pairwise_append.1 hd
    obtain ⟨s, hs'⟩ := twL_of h1 (fun x hx => hs x (List.mem_append_left _ hx))
    unfold twF
    rw [hs']
    refine twF_of h2 (fun x hx hm => ?_)
    rcases ((twL_some hs').2.2 _).1 hm with h | ⟨y, hy, e⟩
    · exact hs x (List.mem_append_right _ hx) h
    · exact h3 y hy x hx e
/-- Lists in order with different keys are merged. -/
theorem mergeF_ok {ls : List (List Ev)} (h1 : ∀ l ∈ ls, Srt l) (h2 : Dif ls.flatten) : mergeF ls = (isort ls.flatten, -1, 0) := by
  unfold mergeF
  rw [badS_of h1, twF_of h2 (by simp)]
theorem mergeF_len (ls : List (List Ev)) : (mergeF ls).1.length ≤ ls.flatten.length := by
  unfold mergeF
  split
  · simp
  · split
    · simp
    · rw [isort_len]; exact Nat.le_refl _
end Go.Fx
namespace Go.Proofs.Ytdjpggnadelnaaa
open Go.RowKit Go.Fx
/-- Block b is a map of at most n entries: f. -/
def MapK (w : World) (b n : Nat) (f : Ky → Option Int) : Prop :=
  ∃ D : DataW Unit, w.ownsMap Try.prog 33 (plainElem Try.prog 3) b n D ∧ ∀ k kl, keyOf Try.prog 33 (kyV k) = some kl → Maps.has D kl = (f k).isSome ∧ ∀ z, D.atKey kl z = match f k with | some v => .lit (.int .i64 v) | none => z
theorem zero_int (w : World) : (zeroValue 3).run Try.prog w = .ok (.int .i64 0) w := by kernel_rfl
theorem MapK.made (w : World) : MapK (w.alloc (.map #[] 0)) w.heap.size 0 (fun _ => none) :=
  ⟨.map [], World.ownsMap_made _ _ _ _, fun _ _ _ => ⟨rfl, fun _ => rfl⟩⟩
theorem MapK.ext {w w' : World} {b n : Nat} {f : Ky → Option Int} (h : MapK w b n f) (e : Ext w w') : MapK w' b n f := by
  obtain ⟨D, ⟨es, cl, hb, r⟩, h2⟩ := h
  exact ⟨D, ⟨es, cl, (e.block b (Array.getElem?_eq_some_iff.1 hb).1).trans hb, r⟩, h2⟩
theorem MapK.lt {w : World} {b n : Nat} {f : Ky → Option Int} (h : MapK w b n f) : b < w.heap.size := by
  obtain ⟨D, h1, _⟩ := h
  exact h1.lt
theorem MapK.look {w : World} {b n : Nat} {f : Ky → Option Int} (h : MapK w b n f) {k : Ky} (hk : ∃ l, keyOf Try.prog 33 (kyV k) = some l) :
    (Instr.lookup 81 (.map (some b)) (kyV k) true).run Try.prog w = .ok (.tuple #[.int .i64 ((f k).getD 0), .bool (f k).isSome]) w := by
  obtain ⟨kl, hk⟩ := hk
  obtain ⟨D, h1, h2⟩ := h
  obtain ⟨v, ps, hrun, hv⟩ := h1.look_ok keyed_ky ul_mk (zero_int w) (plainElem_int Try.underlying3 (a := 0) (by decide)) hk
  obtain ⟨e1, e2⟩ := h2 k kl hk
  rw [e2] at hv
  rw [e1] at hrun
  obtain ⟨a, rfl, hz, _⟩ := plainElem_int_inv Try.underlying3 hv
  rw [hrun]
  cases hf : f k with
  | none => rw [hf] at hz; simp at hz; rw [← hz.1]; rfl
  | some x => rw [hf] at hz; simp at hz; rw [← hz.1]; rfl
theorem MapK.look1 {w : World} {b n : Nat} {f : Ky → Option Int} (h : MapK w b n f) {k : Ky} (hk : ∃ l, keyOf Try.prog 33 (kyV k) = some l) :
    (Instr.lookup 81 (.map (some b)) (kyV k) false).run Try.prog w = .ok (.int .i64 ((f k).getD 0)) w := by
  obtain ⟨kl, hk⟩ := hk
  obtain ⟨D, h1, h2⟩ := h
  obtain ⟨c, hrun, hat, _⟩ := h1.lookup_int keyed_ky ul_mk Try.underlying3 (zero_int w) hk
  obtain ⟨e1, e2⟩ := h2 k kl hk
  rw [e2] at hat
  rw [hrun]
  cases hf : f k with
  | none => rw [hf] at hat; simp at hat; rw [← hat]; rfl
  | some x => rw [hf] at hat; simp at hat; rw [← hat]; rfl
theorem MapK.put {w : World} {b n : Nat} {f : Ky → Option Int} (h : MapK w b n f) {k : Ky} {i : Int} (hk : ∃ l, keyOf Try.prog 33 (kyV k) = some l) (hn : n < maxLen) (hi : (Lit.int .i64 i).wf = true) :
    ∃ w', (Instr.mapUpdate 81 (.map (some b)) (kyV k) (.int .i64 i)).run Try.prog w = .ok () w' ∧ MapK w' b (n + 1) (fun k' => if k' = k then some i else f k') ∧ Chg (fun j => j = b) w w' := by
  obtain ⟨kl, hk⟩ := hk
  obtain ⟨D, h1, h2⟩ := h
  obtain ⟨w', hrun, h3, h4⟩ := h1.update keyed_ky ul_mk hn hk (plainElem_int Try.underlying3 hi)
  refine ⟨w', hrun, ⟨_, h3, fun k' kl' hk' => ?_⟩, Chg.ofGrown h4 (fun k' e _ => by cases e; rfl)⟩
  by_cases e : k' = k
  · subst e
    rw [hk] at hk'
    cases hk'
    simp only [if_true]
    exact ⟨Maps.has_put_same h1.isMap (keyed_ky.key hk) _, fun z => Maps.atKey_put_same h1.isMap (keyed_ky.key hk) _ _⟩
  · have hne : kl' ≠ kl := fun e' => e (by
      subst e'
      have := keyed_ky.inj hk' hk
      unfold kyV at this
      obtain ⟨t, s, q⟩ := k
      obtain ⟨t', s', q'⟩ := k'
      simp at this
      simp [this])
    simp only [e, if_false]
    rw [Maps.has_put_other hne]
    exact ⟨(h2 k' kl' hk').1, fun z => by rw [Maps.atKey_put_other hne]; exact (h2 k' kl' hk').2 z⟩
theorem wf_i64 {x : Int} (h1 : -9223372036854775808 ≤ x) (h2 : x ≤ 9223372036854775807) : (Lit.int .i64 x).wf = true := by
  have e1 : IntKind.i64.min = -9223372036854775808 := by decide
  have e2 : IntKind.i64.max = 9223372036854775807 := by decide
  simp [Lit.wf, e1, e2]; omega
theorem ev_key {e : Ev} (h : EvOk e) : ∃ l, keyOf Try.prog 33 (kyV e.k) = some l := key_some e.k (wf_i64 h.t1 h.t2) (wf_i64 h.s1 h.s2) (wf_i64 h.q1 h.q2)
end Go.Proofs.Ytdjpggnadelnaaa
