/- Lsi: a new list of new lists of one-cell elements, none of which shares memory with another. No condition. Lvn: leaving a function in which loops over functions were run again and again; their records of deferred calls. No condition. Wai: a region that draws its order and holds no call of a function, within a round of a range over a function: it goes as outside. No condition. -/
import Derived.Test.YtlneifgihdickaaSts
import Derived.Test.YtlneifgihdickaaChg
import Derived.Laws.MakeOwn
import Derived.OwnWalk
import Derived.Test.YtlneifgihdickaaItr
import Derived.Test.YtlneifgihdickaaRange
import Derived.OrdersHeld
import Derived.OrdersIn
import Derived.Deep.RegionHeld
import Derived.Deep.RegionLaw
namespace Go.Fx
open Go.RowKit
structure Lsi {α : Type} (f : α → Value) (B : Nat) (w : World) (A : Option Addr) (n c : Nat) (ss : List Sl) (ls : List (List α)) : Prop where
  room : Room w A n c (ss.map slv)
  len : ss.length = ls.length
  at_ : ∀ (i : Nat) (s : Sl), ss[i]? = some s → ∃ l, ls[i]? = some l ∧ Room w s.A s.n s.c (l.map f)
  new : ∀ k, (foot A c k ∨ foots ss k) → B ≤ k
  outer : ∀ k, foots ss k → ¬ foot A c k
  apart : ∀ (i j : Nat) (s t : Sl), ss[i]? = some s → ss[j]? = some t → i ≠ j → ∀ k, foot s.A s.c k → ¬ foot t.A t.c k
section
variable {α : Type} {f : α → Value} {T : Nat → Prop} {B : Nat} {w w' : World} {A : Option Addr} {n c : Nat} {ss : List Sl} {ls : List (List α)}
theorem Lsi.nil : Lsi f B w none 0 0 [] [] := ⟨Room.nil, rfl, by simp, fun k hk => hk.elim (fun h => absurd h foot_none) (fun h => absurd h foots_nil), fun k hk => absurd hk foots_nil, by simp⟩
theorem Lsi.lt (h : Lsi f B w A n c ss ls) {k : Nat} (hk : foot A c k ∨ foots ss k) : k < w.heap.size := by
  rcases hk with hk | ⟨s, hs, hk⟩
  · exact h.room.lt hk
  · obtain ⟨i, hi, rfl⟩ := List.getElem_of_mem hs
    obtain ⟨l, _, hr⟩ := h.at_ i _ (List.getElem?_eq_getElem hi)
    exact hr.lt hk
theorem Lsi.chg (h : Lsi f B w A n c ss ls) (hc : Chg T w w') (hT : ∀ k, (foot A c k ∨ foots ss k) → ¬ T k) : Lsi f B w' A n c ss ls :=
  ⟨h.room.chg hc (fun k hk => hT k (.inl hk)), h.len, fun i s hs => by
    obtain ⟨l, h1, h2⟩ := h.at_ i s hs
    exact ⟨l, h1, h2.chg hc (fun k hk => hT k (.inr ⟨s, List.mem_of_getElem? hs, hk⟩))⟩, h.new, h.outer, h.apart⟩
theorem Lsi.ext (h : Lsi f B w A n c ss ls) (e : Ext w w') : Lsi f B w' A n c ss ls := h.chg (T := fun _ => False) (Chg.ofExt e) (fun _ _ t => t)
theorem Lsi.down {B' : Nat} (h : Lsi f B w A n c ss ls) (hb : B' ≤ B) : Lsi f B' w A n c ss ls := ⟨h.room, h.len, h.at_, fun k hk => Nat.le_trans hb (h.new k hk), h.outer, h.apart⟩
theorem Lsi.n_ (h : Lsi f B w A n c ss ls) : ls.length = n := by have := h.room.1; rw [List.length_map] at this; rw [← h.len]; exact this
theorem Lsi.made (hr : Room w A n c (List.replicate n (.slice none 0 0))) (hf : ∀ k, foot A c k → B ≤ k) : Lsi f B w A n c (List.replicate n ⟨none, 0, 0⟩) (List.replicate n []) := by
  have hn : ∀ k, ¬ foots (List.replicate n (⟨none, 0, 0⟩ : Sl)) k := by
    rintro k ⟨s, hs, hk⟩
    have := List.eq_of_mem_replicate hs
    subst this
    exact foot_none hk
  refine ⟨by rw [List.map_replicate]; exact hr, by simp, fun i s hs => ?_, fun k hk => hk.elim (hf k) (fun h => absurd h (hn k)), fun k hk => absurd hk (hn k), fun i j s t hs _ _ k hk => ?_⟩
  · have hi := (List.getElem?_eq_some_iff.1 hs).1
    have h1 := List.eq_of_mem_replicate (List.mem_of_getElem? hs)
    subst h1
    exact ⟨[], by rw [List.getElem?_replicate, if_pos (by simpa using hi)], Room.nil⟩
  · have h1 := List.eq_of_mem_replicate (List.mem_of_getElem? hs)
    subst h1
    exact absurd hk foot_none
/-- One of the lists grows. -/
theorem Lsi.grow {g o j : Nat} {s s2 : Sl} {l2 : List α} {w2 : World} (h : Lsi f B w (some ⟨g, o, none⟩) n c ss ls) (hj : ss[j]? = some s) (hr : Room w2 s2.A s2.n s2.c (l2.map f)) (ch : Chg (foot s.A s.c) w w2) (ft : ∀ k, foot s2.A s2.c k → foot s.A s.c k ∨ w.heap.size ≤ k) (hB : B ≤ w.heap.size) :
    Lsi f B (w2.setCell ⟨g, o + j, none⟩ (slv s2)) (some ⟨g, o, none⟩) n c (ss.set j s2) (ls.set j l2) ∧ Chg (fun k => foot (some ⟨g, o, none⟩) c k ∨ foots ss k) w (w2.setCell ⟨g, o + j, none⟩ (slv s2)) := by
  have hjl : j < ss.length := (List.getElem?_eq_some_iff.1 hj).1
  have hsl : ss.length = n := by have := h.room.1; rwa [List.length_map] at this
  have hc0 : 0 < c := by have := h.room.2.1; omega
  have hg : foot (some ⟨g, o, none⟩) c g := ⟨hc0, o, rfl⟩
  have hgl := h.lt (.inl hg)
  have hsm : s ∈ ss := List.mem_of_getElem? hj
  have c1 := Chg.set w2 g (o + j) (slv s2) (T := fun k => k = g) rfl
  have hgs : ∀ k, foot s.A s.c k → k ≠ g := fun k hk e => h.outer k ⟨s, hsm, hk⟩ (by rw [e]; exact hg)
  have hfs2 : ∀ k, foot s2.A s2.c k → k ≠ g := fun k hk e => (ft k hk).elim (fun h1 => hgs k h1 e) (fun h1 => by omega)
  have mem : ∀ k, foots (ss.set j s2) k → foot s2.A s2.c k ∨ foots ss k := by
    rintro k ⟨t, ht, hk⟩
    rcases List.mem_or_eq_of_mem_set ht with h1 | h1
    · exact .inr ⟨t, h1, hk⟩
    · subst h1; exact .inl hk
  refine ⟨⟨?_, by simp [h.len], fun i t ht => ?_, fun k hk => ?_, fun k hk => ?_, fun i i' t t' ht ht' hne k hk => ?_⟩, ?_⟩
  · have hr2 := h.room.chg ch (fun k hk hs => by have := foot_some hk; subst this; exact hgs _ hs rfl)
    have := hr2.set (k := j) (by omega) (slv s2)
    rw [List.map_set]; exact this
  · by_cases hij : j = i
    · subst hij
      rw [List.getElem?_set_self hjl] at ht
      cases ht
      exact ⟨l2, by rw [List.getElem?_set_self (by rw [← h.len]; exact hjl)], hr.chg c1 (fun k hk e => hfs2 k hk e)⟩
    · rw [List.getElem?_set_ne hij] at ht ⊢
      obtain ⟨l', h1, h2⟩ := h.at_ i t ht
      refine ⟨l', h1, (h2.chg ch (fun k hk hs => h.apart i j t s ht hj (fun e => hij e.symm) k hk hs)).chg c1 (fun k hk e => ?_)⟩
      exact h.outer k ⟨t, List.mem_of_getElem? ht, hk⟩ (by rw [e]; exact hg)
  · rcases hk with hk | hk
    · exact h.new k (.inl hk)
    · rcases mem k hk with h1 | h1
      · exact (ft k h1).elim (fun h2 => h.new k (.inr ⟨s, hsm, h2⟩)) (fun h2 => by omega)
      · exact h.new k (.inr h1)
  · intro hf
    have e := foot_some hf
    rcases mem k hk with h1 | h1
    · exact hfs2 k h1 e
    · exact h.outer k h1 hf
  · intro hk'
    by_cases h1 : j = i
    · subst h1
      rw [List.getElem?_set_self hjl] at ht
      cases ht
      rw [List.getElem?_set_ne hne] at ht'
      rcases ft k hk with h2 | h2
      · exact h.apart j i' s t' hj ht' hne k h2 hk'
      · have := h.lt (.inr ⟨t', List.mem_of_getElem? ht', hk'⟩); omega
    · rw [List.getElem?_set_ne h1] at ht
      by_cases h2 : j = i'
      · subst h2
        rw [List.getElem?_set_self hjl] at ht'
        cases ht'
        rcases ft k hk' with h3 | h3
        · exact h.apart i j t s ht hj hne k hk h3
        · have := h.lt (.inr ⟨t, List.mem_of_getElem? ht, hk⟩); omega
      · rw [List.getElem?_set_ne h2] at ht'
        exact h.apart i i' t t' ht ht' hne k hk hk'
  · exact (ch.mono (fun k _ hk => .inr ⟨s, hsm, hk⟩)).t (c1.mono (fun k _ e => by rw [e]; exact .inl hg))
end
section
variable {P : Program} {w : World} {ops : Array Oper} {rest : List Oper} {o : Oper} {a : Act} {Q : Exit → Act → World → Prop}
/-- make([]T, n): n zero elements, in a new block. -/
theorem wpl_makeN (hgd : o.guard = none) {l c : Operand} {t : TypeId} (ho : o.op = Op.makeSlice t l c) {e : TypeId} {z : Value} {bytes : Nat} (ht : P.underlying t = some (.slice e)) (hi : (P.info? e).map (fun i => (i.zero, i.size, i.bytes)) = some (some z, 1, bytes)) (hz1 : z.cells = #[z])
    {kl kc : IntKind} {L C : Int} {n : Nat} (hl : a.eval l = .int kl L) (hc : a.eval c = .int kc C) (hL : L = (n : Int)) (hC : C = (n : Int)) (b2 : bytes * n ≤ 281474976710656) (b3 : n ≤ maxLen)
    (h : ∀ A w', Room w' A n n (List.replicate n z) → Ext w w' → (∀ k, foot A n k → w.heap.size ≤ k) → Hid (wpList P ops Q rest (a.put o.dst (.slice A n n)) w')) : wpList P ops Q (o :: rest) a w := by
  obtain ⟨i, hi', hz, hsize, hby⟩ := info_parts hi
  subst hby
  refine wpList_make_full w hgd l c t ho w.heap.size e i z 1 ht hi' hz hsize kl kc L C n hl hc hL hC b2 b3 (Nat.le_refl _) (fun w' h1 h2 => ?_)
  refine (h (some ⟨w.heap.size, 0, none⟩) w' ?_ (below_of_grown h2 (Nat.le_refl _) (fun k hk => by cases hk)) (fun k hk => by rw [foot_some hk]; exact Nat.le_refl _)).out
  have h3 := Room.of_own h1
  have e1 : (madeCells z.cells (n * 1)).toList = List.replicate n z := by
    rw [hz1, Nat.mul_one]
    unfold madeCells
    simp
    try (apply List.ext_getElem <;> simp [Nat.mod_one])
  rwa [e1] at h3
end
end Go.Fx
namespace Go.Fx
open Go.RowKit Go.Proofs
/-- The records of deferred calls of loops that are over. -/
def collD (D : Nat) : Deferred := { target := .collected D, args := #[] }
structure Cds (B : Nat) (w : World) (Ds : List Nat) : Prop where
  nd : Ds.Nodup
  at_ : ∀ D ∈ Ds, w.heap[D]? = some (.deferred (some []))
  lo : ∀ D ∈ Ds, B ≤ D
section
variable {B : Nat} {w w' : World} {Ds : List Nat} {T : Nat → Prop}
theorem Cds.nil : Cds B w [] := ⟨List.nodup_nil, by simp, by simp⟩
theorem Cds.lt (h : Cds B w Ds) : ∀ D ∈ Ds, D < w.heap.size := fun D hD => by
  rcases Nat.lt_or_ge D w.heap.size with h1 | h1
  · exact h1
  · have h2 := h.at_ D hD
    rw [Array.getElem?_eq_none h1] at h2
    cases h2
theorem Cds.chg (h : Cds B w Ds) (ch : Chg T w w') (hT : ∀ D ∈ Ds, ¬ T D) : Cds B w' Ds := ⟨h.nd, fun D hD => (ch.block D (h.lt D hD) (hT D hD)).trans (h.at_ D hD), h.lo⟩
theorem Cds.ext (h : Cds B w Ds) (e : Ext w w') : Cds B w' Ds := h.chg (T := fun _ => False) (Chg.ofExt e) (fun _ _ t => t)
theorem Cds.cons {D : Nat} (h : Cds B w Ds) (h1 : w.heap[D]? = some (.deferred (some []))) (h2 : B ≤ D) (h3 : D ∉ Ds) : Cds B w (D :: Ds) :=
  ⟨List.nodup_cons.2 ⟨h3, h.nd⟩, fun E hE => (List.mem_cons.1 hE).elim (fun e => by rw [e]; exact h1) (h.at_ E), fun E hE => (List.mem_cons.1 hE).elim (fun e => by rw [e]; exact h2) (h.lo E)⟩
end
theorem leavesN {P : Program} {fn : Func} {tmps : Array Value} {R : Ending → World → Prop} : ∀ (Ds : List Nat) (w : World), Ds.Nodup → (∀ D ∈ Ds, w.heap[D]? = some (.deferred (some []))) →
    (∀ w', Chg (fun k => k ∈ Ds) w w' → ∃ v, (results fn tmps).run P w' = .ok v w' ∧ R (.returned v) w') → LeavesInM Fence.wide 9 P fn tmps R (Ds.map collD) .returning w
  | [], w, _, _, h => by
    obtain ⟨v, h1, h2⟩ := h w (Chg.refl _ _)
    exact ⟨v, h1, h2⟩
  | D :: Ds, w, hn, hD, h => by
    rw [List.nodup_cons] at hn
    have h1 := hD D (List.mem_cons_self ..)
    refine ⟨by simp, .inl ⟨D, _, rfl, run_takeDeferred h1, leavesN Ds _ hn.2 (fun E hE => ?_) (fun w' ch => h w' ?_)⟩⟩
    · rw [World.putObj_heap_other (by rintro rfl; exact hn.1 hE)]
      exact hD E (List.mem_cons_of_mem _ hE)
    · exact ((chg_putI w D (.deferred none)).mono (fun k _ e => by rw [e]; exact List.mem_cons_self ..)).t (ch.mono (fun k _ hk => List.mem_cons_of_mem _ hk))
theorem leaveN {P : Program} {fn : Func} {R : Ending → World → Prop} {a : Act} {w : World} {B : Nat} {Ds : List Nat} (hd : a.defers = Ds.map collD) (hc : Cds B w Ds) (h : ∀ w', Chg (fun k => k ∈ Ds) w w' → ∃ v, (results fn a.tmps).run P w' = .ok v w' ∧ R (.returned v) w') : bodyPostM Fence.wide 9 P fn R .ret a w := by
  show LeavesInM Fence.wide 9 P fn a.tmps R a.defers .returning w
  rw [hd]
  exact leavesN Ds w hc.nd hc.at_ h
end Go.Fx
namespace Go.Fx
/-- An operation that enters no function. -/
def plainB : Op → Bool
  | .move _ | .assign _ | .pick _ _ _ | .alloc _ | .box _ _ | .build _ _ | .buildSlice _ _ _ | .load _ _ | .store _ _ _ | .binOp _ _ _ _ _ | .unOp _ _ _ | .convert _ _ _ | .slice _ _ _ _ _ | .fieldAddr _ _ _ | .field _ _ _ | .indexAddr _ _ _ | .index _ _ _ | .makeSlice _ _ _ | .extract _ _ => true
  | .call c => match c.callee with
    | .builtin b => match b with
      | .append | .len | .copy | .cap => true
      | _ => false
    | _ => false
  | _ => false
section
variable {F : Fence} {n : Nat} {P : Program} {md : Region.Mode}
/-- What a plain operation answers. -/
def Tame (r : Result Next) : Prop := (∃ v w, r = .ok (.value v) w) ∨ (∃ w, r = .ok .skip w) ∨ ∃ h w, r = .halt h w
theorem tame_v (s : Sem Value) (w : World) : Tame ((do pure (Next.value (← s)) : Sem Next).run P w) := by
  simp only [Sem.run_bind, Sem.run_pure]
  cases s.run P w with
  | ok v w' => exact .inl ⟨v, w', rfl⟩
  | halt h w' => exact .inr (.inr ⟨h, w', rfl⟩)
theorem tame_r (r : Result Value) : Tame (r.andThen fun v w => .ok (.value v) w) := by
  cases r with
  | ok v w' => exact .inl ⟨v, w', rfl⟩
  | halt h w' => exact .inr (.inr ⟨h, w', rfl⟩)
theorem tame_u (s : Sem Unit) (w : World) : Tame ((do s; pure Next.skip : Sem Next).run P w) := by
  simp only [Sem.run_bind, Sem.run_pure]
  cases s.run P w with
  | ok v w' => exact .inr (.inl ⟨w', rfl⟩)
  | halt h w' => exact .inr (.inr ⟨h, w', rfl⟩)
theorem exec_tame {o : Oper} (h : plainB o.op = true) (ρ : Operand → Value) (w : World) : Tame ((execOp ρ o).run P w) := by
  unfold plainB at h
  split at h
  case h_20 c ho =>
    split at h
    case h_1 b hb =>
      cases b <;> first | (cases h; done) | skip
      all_goals
        unfold execOp
        rw [ho]
        simp only [resolve, hb, invoke, builtin, Sem.run_bind, Sem.run_pure, Result.andThen_ok]
        exact tame_r _
    case h_2 => cases h
  case h_21 => cases h
  case h_1 x ho => unfold execOp; rw [ho]; exact .inl ⟨_, _, Sem.run_pure ..⟩
  case h_2 x ho => unfold execOp; rw [ho]; exact .inl ⟨_, _, Sem.run_pure ..⟩
  case h_3 c x y ho =>
    unfold execOp; rw [ho]
    dsimp only
    simp only [Sem.run_bind, Sem.run_pure]
    cases (asBool (ρ c)).run P w with
    | ok v w' => exact .inl ⟨_, w', rfl⟩
    | halt h w' => exact .inr (.inr ⟨h, w', rfl⟩)
  all_goals (rename_i ho; unfold execOp; rw [ho]; first | exact tame_v _ _ | exact tame_u _ _)
theorem wpIn_of_plain {o : Oper} {a : Act} {w : World} {K K' : Act → World → Prop} {Q : Exit → Act → World → Prop} (hp : plainB o.op = true) (hF : ∀ f, F.fn f) (hK : ∀ a w, K a w → K' a w) (h : o.wp P a w K Q) : o.wpIn F n P a w K' Q := by
  refine ⟨fun f _ => hF f, ?_⟩
  rw [Oper.semAt_eq F.round _ _ (fun c hc => by rw [hc] at hp; cases hp)]
  unfold Oper.wp at h
  rcases exec_tame hp a.eval w with ⟨v, w', e⟩ | ⟨w', e⟩ | ⟨x, w', e⟩
  · rw [e] at h ⊢; exact hK _ _ h
  · rw [e] at h ⊢; exact hK _ _ h
  · rw [e] at h ⊢
    cases x with
    | panic v => exact h
    | _ => exact h.elim
theorem wpAnyIn_of_plain {ops : Array Oper} {Q : Exit → Act → World → Prop} (hp : ∀ (i : Nat) (o : Oper), ops[i]? = some o → plainB o.op = true) (hF : ∀ f, F.fn f) (hL : ¬ LetsOut Q) : ∀ (fuel : Nat) (listed : Array Bool) (a : Act) (w : World), wpAny P md ops Q fuel listed a w → wpAnyIn F n P md ops Q fuel listed a w
  | 0, _, _, _, h => h
  | fuel + 1, listed, a, w, h => by
    refine ⟨h.1, fun i hi => ?_⟩
    have h1 := h.2 i hi
    unfold wpOp at h1
    unfold wpOpIn
    split
    · rename_i ho
      simp only [ho] at h1
      exact wpAnyIn_of_plain hp hF hL fuel _ a w h1
    · rename_i o ho
      simp only [ho] at h1
      split
      · rename_i hw
        rw [if_pos hw] at h1
        exact wpIn_of_plain (hp i o ho) hF (fun a w h => wpAnyIn_of_plain hp hF hL fuel _ a w h) (h1.resolve_right (fun h => hL h.2))
      · rename_i hw
        rw [if_neg hw] at h1
        exact ⟨fun f _ => hF f, wpAnyIn_of_plain hp hF hL fuel _ _ w h1⟩
def plainL (l : List Oper) : Bool := l.all fun o => plainB o.op
theorem wpIn_region_plain {id : Nat} {Q : Exit → Act → World → Prop} {a : Act} {w : World} {l : List Oper} (hp : plainL l = true) (hF : ∀ f, F.fn f) (hL : ¬ LetsOut Q) (hm : P.follows .mixedOrders = true)
    (h : wpAny P .any l.toArray Q l.length (Array.replicate l.length false) a w.drew) : (Code.region id l.toArray true).wpIn F n P Q a w := by
  refine wpIn_region_any hm (wpAnyIn_of_plain (fun i o ho => ?_) hF hL _ _ _ _ (by simpa using h))
  have hm : o ∈ l := by
    have h1 : l[i]? = some o := by simpa using ho
    exact List.mem_of_getElem? h1
  exact List.all_eq_true.1 hp o hm
/-- .. with what is held of the worlds. -/
theorem wpIn_region_plainH {id : Nat} {Q : Exit → Act → World → Prop} {a : Act} {w : World} {l : List Oper} (S : World → Prop) (hp : plainL l = true) (hF : ∀ f, F.fn f) (hL : ¬ LetsOut Q) (hm : P.follows .mixedOrders = true)
    (h : wpAnyH P .any l.toArray Q S l.length (Array.replicate l.length false) a w.drew) : (Code.region id l.toArray true).wpIn F n P Q a w :=
  wpIn_region_plain hp hF hL hm (wpAny_of_held _ _ _ _ h)
end
section
variable {P : Program} {ops : Array Oper} {Q : Exit → Act → World → Prop} {md : Region.Mode} {S : World → Prop}
/-- As 'wpAnyH_take': the slot is a letter of its own, so that the act stays plain. -/
theorem take_heldS {i j : Nat} {oi : Oper} {v : Value} {fuel : Nat} {listed : Array Bool} {a : Act} {w : World} (hi : ops[i]? = some oi) (hd : oi.dst = some j)
    (hs : Region.noSelect ops = true) (hf : Region.free md ops listed i = true) (hr : (Region.ready md ops listed).contains i = true)
    (hQ : ∀ c a w, Q (.panic c) (a.put (some j) v) w → Q (.panic c) a w) (hy : YieldsIf P ops S oi v a) (hS : S w)
    (h : wpAnyH P md ops Q S fuel (listed.setIfInBounds i true) (a.put (some j) v) w) : wpAnyH P md ops Q S (fuel + 1) listed a w :=
  wpAnyH_take hi hs hf hr (by rw [hd]; exact hQ) hy hS (by rw [hd]; exact h)
end
end Go.Fx
