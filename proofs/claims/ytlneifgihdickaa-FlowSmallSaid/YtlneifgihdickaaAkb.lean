/- Akp: append that leaves the old list as it is; lists that share no memory (the kit's ApartInts): the plain part. Aki: the kit's mark and flatInts: lists of numbers that share no memory are told so. Akb: the kit's ApartInts. -/
import Derived.Test.YtlneifgihdickaaRfe
import Derived.Test.YtlneifgihdickaaWai
import Derived.BigQuiet
import Derived.Deep.RegionHeld3
namespace Go.Fx
open Go.RowKit Go.Proofs Go.Proofs.Ytlneifgihdickaa
section
variable {P : Program} (w : World)
/-- append: in place, or into new memory. -/
theorem run_append_two (t tx ty e : TypeId) (z : Value) (bytes : Nat) (ht : P.underlying t = some (.slice e)) (hi : (P.info? e).map (fun i => (i.zero, i.size, i.bytes)) = some (some z, 1, bytes)) (hzs : z.cells.size = 1)
    (A : Option Addr) (n c : Nat) (xs : List Value) (hr : Room w A n c xs) (x : Value) (m : Nat) (news : List Value) (hs : Src P 1 tx x m news w) (h63 : n + m ≤ maxLen) (hbytes : (n + m) * bytes ≤ 140737488355328) :
    ∃ A' c' w', (Builtin.append_ #[t, tx] ty #[.slice A n c, x]).run P w = .ok (.slice A' (n + m) c') w' ∧ Room w' A' (n + m) c' (xs ++ news) ∧ ((A' = A ∧ c' = c ∧ Chg (foot A c) w w') ∨ (Ext w w' ∧ ∀ k, foot A' c' k → w.heap.size ≤ k)) := by
  obtain ⟨i, hi', hz, hsize, hby⟩ := info_parts hi
  subst hby
  have hnl : news.length = m := by have := hs.newsLen; omega
  by_cases hroom : n + m ≤ c
  · rcases hr.2.2.2 with h0 | ⟨g, o, rfl, hg, h1, h2⟩
    · obtain rfl : m = 0 := by omega
      obtain rfl : news = [] := List.eq_nil_of_length_eq_zero hnl
      have hrun := run_append_nothing (P := P) w t tx ty e i ht hi' A n c (by omega) _ (by rw [hsize]; exact hs)
      exact ⟨A, c, w, hrun, by rw [List.append_nil]; exact hr, .inl ⟨rfl, rfl, Chg.refl _ _⟩⟩
    · have hrun := run_append_room_src (P := P) w t tx ty e i ht hi' g o n c x m news (by rw [hsize]; exact hs) hroom (fun j hj => by rw [hsize, Nat.mul_one, Nat.add_assoc]; exact (h2 _ (by omega)).1) (fun j hj => by rw [hsize, Nat.mul_one, Nat.add_assoc]; exact (h2 _ (by omega)).2)
      rw [hsize, Nat.mul_one] at hrun
      refine ⟨_, _, _, hrun, ⟨by rw [List.length_append, hr.1, hnl], hroom, hr.2.2.1, ?_⟩, .inl ⟨rfl, rfl, ?_⟩⟩
      · by_cases hc0 : c = 0
        · exact .inl hc0
        · refine .inr ⟨g, o, rfl, (chg_setCells w (T := fun _ => True) g (o + n) news trivial).lt hg, fun j u hu => ?_, fun j hj => ⟨?_, by rw [World.frozen?_setCells]; exact (h2 j hj).2⟩⟩
          · by_cases hjn : j < n
            · rw [List.getElem?_append_left (by rw [hr.1]; exact hjn)] at hu
              rw [World.cell?_setCells_out g news (o + n) w _ (fun _ _ => .inl (by simp only; omega))]
              exact h1 j u hu
            · rw [List.getElem?_append_right (by rw [hr.1]; omega), hr.1] at hu
              obtain ⟨hj, rfl⟩ := List.getElem?_eq_some_iff.1 hu
              have := World.cell?_setCells_in g news (o + n) w (fun k hk => by rw [Nat.add_assoc]; exact (h2 _ (by omega)).1) (j - n) hj
              rwa [show o + n + (j - n) = o + j by omega] at this
          · by_cases hin : n ≤ j ∧ j < n + news.length
            · have := World.cell?_setCells_in g news (o + n) w (fun k hk => by rw [Nat.add_assoc]; exact (h2 _ (by omega)).1) (j - n) (by omega)
              rw [show o + n + (j - n) = o + j by omega] at this
              rw [this]; rfl
            · rw [World.cell?_setCells_out g news (o + n) w _ (fun _ _ => by simp only; omega)]
              exact (h2 j hj).1
      · by_cases hc0 : c = 0
        · have : news = [] := List.eq_nil_of_length_eq_zero (by omega)
          subst this
          exact Chg.refl _ _
        · exact chg_setCells w g (o + n) news ⟨by omega, o, rfl⟩
  · have hold : (Builtin.firstCells i.size n (.slice A n c)).run P w.drew = .ok xs.toArray w.drew := by
      rw [hsize]
      rcases hr.2.2.2 with h0 | ⟨g, o, rfl, hg, h1, h2⟩
      · have hn0 : n = 0 := by have := hr.2.1; omega
        subst hn0
        obtain rfl : xs = [] := List.eq_nil_of_length_eq_zero hr.1
        cases A with
        | none => exact run_firstCells_none w.drew 1 0 0 c
        | some a => exact run_firstCells_some w.drew 1 0 a 0 c [] (by simp) (by intro _ _ h'; simp at h')
      · exact run_firstCells_some w.drew 1 n ⟨g, o, none⟩ n c xs (by rw [hr.1, Nat.mul_one]) (fun j u hu => by rw [Addr.add_lit]; exact h1 j u hu)
    have hrun := run_append_grow_src (P := P) w t tx ty e i z ht hi' hz A n c xs hold x m news (by rw [hsize]; exact hs) (by omega) (by simp only [maxLen] at h63; omega) (growslice_fits (by omega) hbytes)
    have hge := grownCap_ge w (n + m) c e
    have hcm := grownCap_le_maxLen w (n + m) c e h63
    have hlen : (xs ++ news).length = n + m := by rw [List.length_append, hr.1, hnl]
    have hsz : ((xs ++ news).toArray ++ Builtin.zeroCells z.cells (grownCap w (n + m) c e - (n + m))).size = grownCap w (n + m) c e := by
      rw [Array.size_append, List.size_toArray, hlen, size_zeroCells, hzs]; omega
    have hb := Blk.new w.drew e ((xs ++ news).toArray ++ Builtin.zeroCells z.cells (grownCap w (n + m) c e - (n + m)))
    refine ⟨_, _, _, hrun, ⟨hlen, hge, hcm, .inr ⟨w.heap.size, 0, rfl, by simp, fun j u hu => ?_, fun j hj => ⟨?_, ?_⟩⟩⟩, .inr ⟨(Ext.drew w).t (Ext.alloc _ _), fun k h => by rw [foot_some h]; exact Nat.le_refl _⟩⟩
    · rw [Nat.zero_add]
      refine (hb.cell j).trans ?_
      rw [← Array.getElem?_toList, Array.toList_append, List.getElem?_append_left (by simpa using (List.getElem?_eq_some_iff.1 hu).1)]
      exact hu
    · rw [Nat.zero_add]
      refine (congrArg Option.isSome (hb.cell j)).trans ?_
      rw [Array.getElem?_eq_getElem (by omega)]; rfl
    · rw [Nat.zero_add]
      exact hb.frozen j
end
section
variable {P : Program} {w : World} {ops : Array Oper} {rest : List Oper} {o : Oper} {a : Act} {Q : Exit → Act → World → Prop} {s x : Operand} {t e : TypeId} {z : Value} {bytes : Nat} {A : Option Addr} {n c : Nat} {xs : List Value} {v : Value} {m : Nat} {news : List Value}
theorem wpl_append_two (hgd : Region.wanted o (yielded ops a.tmps) = true) (ho : o.op = .call { callee := .builtin .append, args := #[s, x], argTypes := #[t, t] })
    (ht : P.underlying t = some (.slice e)) (hi : (P.info? e).map (fun i => (i.zero, i.size, i.bytes)) = some (some z, 1, bytes)) (hzs : z.cells.size = 1)
    (hs : a.eval s = .slice A n c) (hr : Room w A n c xs) (hx : a.eval x = v) (hsrc : Src P 1 t v m news w) (h63 : n + m ≤ maxLen) (hbytes : (n + m) * bytes ≤ 140737488355328)
    (h : ∀ A' c' w', Room w' A' (n + m) c' (xs ++ news) → ((A' = A ∧ c' = c ∧ Chg (foot A c) w w') ∨ (Ext w w' ∧ ∀ k, foot A' c' k → w.heap.size ≤ k)) → Hid (wpList P ops Q rest (a.put o.dst (.slice A' (n + m) c')) w')) : wpList P ops Q (o :: rest) a w := by
  obtain ⟨A', c', w', hrun, h1, h2⟩ := run_append_two (P := P) w t t o.type e z bytes ht hi hzs A n c xs hr v m news hsrc h63 hbytes
  refine wpList_step fun K hK => ?_
  rw [if_pos hgd]
  unfold Oper.wp execOp
  simp only [ho, resolve, invoke, builtin, Sem.run_bind, Sem.run_pure, Result.andThen_ok, List.map_toArray, List.map_cons, List.map_nil, hs, hx, hrun]
  exact hK _ _ (h A' c' w' h1 h2).out
end
/-- The mark of a place. -/
def mkF (k i : Nat) : Int := 1000003 * ((k : Int) + 7) + (i : Int)
def mkL (k m : Nat) : List Int := (List.range m).map (mkF k)
theorem mkL_len (k m : Nat) : (mkL k m).length = m := by simp [mkL]
theorem mkL_at {k m i : Nat} (h : i < m) : (mkL k m)[i]? = some (mkF k i) := by
  unfold mkL
  rw [List.getElem?_map, List.getElem?_range h]; rfl
theorem mkL_succ (k m : Nat) : mkL k (m + 1) = mkL k m ++ [mkF k m] := by unfold mkL; rw [List.range_succ, List.map_append]; rfl
theorem mkL_take {k m n : Nat} (h : n ≤ m) : (mkL k m).take n = mkL k n := by
  unfold mkL
  rw [← List.map_take, List.take_range, Nat.min_eq_left h]
/-- The first i of a list are marked. -/
def Mkd (k i : Nat) (l : List Int) : Prop := ∀ q x, q < i → l[q]? = some x → x = mkF k q
theorem Mkd.all {k m : Nat} {l : List Int} (h : Mkd k m l) (hl : l.length = m) : l = mkL k m := by
  refine List.ext_getElem? (fun q => ?_)
  by_cases hq : q < m
  · obtain ⟨x, hx⟩ : ∃ x, l[q]? = some x := ⟨_, List.getElem?_eq_getElem (by omega)⟩
    rw [hx, mkL_at hq, h q x hq hx]
  · rw [List.getElem?_eq_none (by omega), List.getElem?_eq_none (by rw [mkL_len]; omega)]
theorem Mkd.set {k i : Nat} {l : List Int} (h : Mkd k i l) : Mkd k (i + 1) (l.set i (mkF k i)) := fun q x hq hx => by
  by_cases e : i = q
  · subst e
    rw [List.getElem?_set] at hx
    rw [if_pos rfl] at hx
    split at hx
    · exact (Option.some.inj hx).symm
    · cases hx
  · rw [List.getElem?_set_ne e] at hx
    exact h q x (by omega) hx
section
variable {α : Type} {f : α → Value} {B : Nat} {w W' : World} {A : Option Addr} {n c : Nat} {ss : List Sl} {ls : List (List α)}
/-- One of the lists is changed in place. -/
theorem Lsi.touch {k : Nat} {s : Sl} {l2 : List α} (h : Lsi f B w A n c ss ls) (hk : ss[k]? = some s) (hr : Room W' s.A s.n s.c (l2.map f)) (ch : Chg (foot s.A s.c) w W') : Lsi f B W' A n c ss (ls.set k l2) := by
  have hm : s ∈ ss := List.mem_of_getElem? hk
  have hkl : k < ls.length := by rw [← h.len]; exact (List.getElem?_eq_some_iff.1 hk).1
  refine ⟨h.room.chg ch (fun q hq hf => h.outer q ⟨s, hm, hf⟩ hq), by rw [List.length_set]; exact h.len, fun i t ht => ?_, h.new, h.outer, h.apart⟩
  by_cases e : k = i
  · subst e
    rw [hk] at ht
    obtain rfl := Option.some.inj ht
    exact ⟨l2, List.getElem?_set_self hkl, hr⟩
  · obtain ⟨l, h1, h2⟩ := h.at_ i t ht
    exact ⟨l, by rw [List.getElem?_set_ne e]; exact h1, h2.chg ch (fun q hq hf => h.apart i k t s ht hk (fun e2 => e e2.symm) q hq hf)⟩
theorem Lsi.put {k i g o : Nat} {m c1 : Nat} {l : List α} (h : Lsi f B w A n c ss ls) (hk : ss[k]? = some ⟨some ⟨g, o, none⟩, m, c1⟩) (hl : ls[k]? = some l) (hi : i < m) (y : α) : Lsi f B (w.setCell ⟨g, o + i, none⟩ (f y)) A n c ss (ls.set k (l.set i y)) := by
  obtain ⟨l', h1, h2⟩ := h.at_ k _ hk
  rw [hl] at h1
  obtain rfl := Option.some.inj h1
  have hc : 0 < c1 := by have := h2.2.1; simp only at this; omega
  refine h.touch hk ?_ (Chg.set w g (o + i) (f y) ⟨hc, o, rfl⟩)
  rw [List.map_set]
  exact Room.set h2 hi (f y)
theorem Lsi.sl_len (h : Lsi f B w A n c ss ls) : ss.length = n := by have := h.room.1; rwa [List.length_map] at this
theorem Lsi.hd {g o k : Nat} {s : Sl} (h : Lsi f B w (some ⟨g, o, none⟩) n c ss ls) (hk : ss[k]? = some s) : w.cell? ⟨g, o + k, none⟩ = some (.slice s.A s.n s.c) := h.room.cellAt (k := k) (u := slv s) (by rw [List.getElem?_map, hk]; rfl)
end
/-- Memory that belongs to none of the lists. -/
def FreshQ (A : Option Addr) (c : Nat) (ss : List Sl) (G : Option Addr) (n : Nat) (q : Nat) : Prop := ¬ foots ss q ∧ ¬ foot A c q ∧ ¬ foot G n q
/-- The lists that grew out of the first K, and their header. -/
structure GsJ (A : Option Addr) (n c : Nat) (ss : List Sl) (G : Option Addr) (gl : List Sl) (K : Nat) (ex : Nat) (W : World) : Prop where
  room : Room W G n n (gl.map slv)
  out : ∀ q, foot G n q → ¬ foot A c q ∧ ¬ foots ss q
  at_ : ∀ (j : Nat) (s g : Sl), j < K → ss[j]? = some s → gl[j]? = some g → g.n = s.n + 64 ∧ (∃ l, Rd intz W g.A g.n l ∧ Mkd j (s.n + ex) l) ∧ ∀ q o, g.A = some ⟨q, o, none⟩ → q < W.heap.size ∧ (foot s.A s.c q ∨ FreshQ A c ss G n q)
section
variable {A G : Option Addr} {n c K ex : Nat} {ss gl : List Sl} {W W' : World}
theorem GsJ.len (h : GsJ A n c ss G gl K ex W) : gl.length = n := by have := h.room.1; rwa [List.length_map] at this
theorem GsJ.chg {T : Nat → Prop} (h : GsJ A n c ss G gl K ex W) (ch : Chg T W W') (h1 : ∀ q, foot G n q → ¬ T q) (h2 : ∀ (j : Nat) (g : Sl), j < K → gl[j]? = some g → ∀ q o, g.A = some ⟨q, o, none⟩ → ¬ T q) : GsJ A n c ss G gl K ex W' :=
  ⟨h.room.chg ch h1, h.out, fun j t g hj ht hg => by
    obtain ⟨q1, ⟨l, q2, q3⟩, q4⟩ := h.at_ j t g hj ht hg
    exact ⟨q1, ⟨l, q2.chg ch (fun q o hA _ => h2 j g hj hg q o hA), q3⟩, fun q o hA => ⟨Nat.lt_of_lt_of_le (q4 q o hA).1 ch.size, (q4 q o hA).2⟩⟩⟩
/-- What is written into one list leaves those that grew out of the others. -/
theorem GsJ.keep {k : Nat} {s : Sl} (h : GsJ A n c ss G gl K ex W) (hk : ss[k]? = some s) (hap : ∀ (i j : Nat) (s t : Sl), ss[i]? = some s → ss[j]? = some t → i ≠ j → ∀ k, foot s.A s.c k → ¬ foot t.A t.c k) (ch : Chg (foot s.A s.c) W W') (hK : K ≤ k) : GsJ A n c ss G gl K ex W' := by
  have hm : s ∈ ss := List.mem_of_getElem? hk
  refine h.chg ch (fun q hq hf => (h.out q hq).2 ⟨s, hm, hf⟩) (fun j g hj hg q o hA hf => ?_)
  obtain ⟨t, ht⟩ : ∃ t, ss[j]? = some t := ⟨_, List.getElem?_eq_getElem (by have := (List.getElem?_eq_some_iff.1 hk).1; omega)⟩
  rcases ((h.at_ j t g hj ht hg).2.2 q o hA).2 with h5 | h5
  · exact hap j k t s ht hk (by omega) q h5 hf
  · exact h5.1 ⟨s, hm, hf⟩
/-- One list more is put down. -/
theorem GsJ.put {k a b : Nat} {s g : Sl} {l : List Int} (h : GsJ A n c ss (some ⟨a, b, none⟩) gl k ex W) (hk : ss[k]? = some s) (hkn : k < n) (hg : g.n = s.n + 64) (hr : Rd intz W g.A g.n l) (hm : Mkd k (s.n + ex) l) (ho : ∀ q o, g.A = some ⟨q, o, none⟩ → q < W.heap.size ∧ (foot s.A s.c q ∨ FreshQ A c ss (some ⟨a, b, none⟩) n q)) :
    GsJ A n c ss (some ⟨a, b, none⟩) (gl.set k g) (k + 1) ex (W.setCell ⟨a, b + k, none⟩ (slv g)) := by
  have ha : foot (some ⟨a, b, none⟩) n a := ⟨by omega, b, rfl⟩
  have ch := Chg.set W a (b + k) (slv g) (T := fun q => q = a) rfl
  have hsz := ch.size
  have key : ∀ (t g' : Sl) (l' : List Int), Rd intz W g'.A g'.n l' → (∀ q o, g'.A = some ⟨q, o, none⟩ → q < W.heap.size ∧ (foot t.A t.c q ∨ FreshQ A c ss (some ⟨a, b, none⟩) n q)) → t ∈ ss → Rd intz (W.setCell ⟨a, b + k, none⟩ (slv g)) g'.A g'.n l' ∧ ∀ q o, g'.A = some ⟨q, o, none⟩ → q < (W.setCell ⟨a, b + k, none⟩ (slv g)).heap.size ∧ (foot t.A t.c q ∨ FreshQ A c ss (some ⟨a, b, none⟩) n q) := fun t g' l' hr' ho' ht => by
    refine ⟨hr'.chg ch (fun q o hA _ e => ?_), fun q o hA => ⟨Nat.lt_of_lt_of_le (ho' q o hA).1 hsz, (ho' q o hA).2⟩⟩
    subst e
    rcases (ho' q o hA).2 with h5 | h5
    · exact (h.out q ha).2 ⟨t, ht, h5⟩
    · exact h5.2.2 ha
  refine ⟨?_, h.out, fun j t g' hj ht hg' => ?_⟩
  · have hr2 := h.room.set (k := k) hkn (slv g)
    rwa [← List.map_set] at hr2
  · by_cases e : k = j
    · subst e
      rw [List.getElem?_set_self (by rw [h.len]; exact hkn)] at hg'
      obtain rfl := Option.some.inj hg'
      rw [hk] at ht
      obtain rfl := Option.some.inj ht
      obtain ⟨k1, k2⟩ := key s g l hr ho (List.mem_of_getElem? hk)
      exact ⟨hg, ⟨l, k1, hm⟩, k2⟩
    · rw [List.getElem?_set_ne e] at hg'
      obtain ⟨q1, ⟨l', q2, q3⟩, q4⟩ := h.at_ j t g' (by omega) ht hg'
      obtain ⟨k1, k2⟩ := key t g' l' q2 q4 (List.mem_of_getElem? ht)
      exact ⟨q1, ⟨l', k1, q3⟩, k2⟩
/-- Where a list that grows lies: with the one out of which it grew, or in new memory of its own. -/
def GrwQ (V : Nat) (A : Option Addr) (c : Nat) (ss : List Sl) (G : Option Addr) (n : Nat) (gl : List Sl) (k : Nat) (s : Sl) (Ag : Option Addr) (cg : Nat) : Prop :=
  (Ag = s.A ∧ cg = s.c) ∨ ∀ q, foot Ag cg q → V ≤ q ∧ FreshQ A c ss G n q ∧ ∀ (j : Nat) (g : Sl), j < k → gl[j]? = some g → ∀ o, g.A ≠ some ⟨q, o, none⟩
theorem GsJ.zero {ex' : Nat} (h : GsJ A n c ss G gl K ex W) : GsJ A n c ss G gl 0 ex' W := ⟨h.room, h.out, fun j _ _ hj => by omega⟩
theorem GsJ.x (h : GsJ A n c ss G gl K ex W) (e : Ext W W') : GsJ A n c ss G gl K ex W' :=
  ⟨h.room.ext e, h.out, fun j t g hj ht hg => by
    obtain ⟨h1, ⟨l, h2, h3⟩, h4⟩ := h.at_ j t g hj ht hg
    exact ⟨h1, ⟨l, h2.ext e, h3⟩, fun q o hA => ⟨Nat.lt_of_lt_of_le (h4 q o hA).1 e.size, (h4 q o hA).2⟩⟩⟩
/-- What holds all along: the lists, and what has changed. -/
def FlJ (B : Nat) (w : World) (A : Option Addr) (n c : Nat) (ss : List Sl) (ls : List (List Int)) (W : World) : Prop := Lsi intz B W A n c ss ls ∧ Chg (fun q => foots ss q) w W
theorem chg_new {T T2 : Nat → Prop} {w W W' : World} (h : Chg T w W) (ch : Chg T2 W W') (hT : ∀ q, T2 q → q < w.heap.size → T q) : Chg T w W' :=
  ⟨ch.os.trans h.os, ch.tape.trans h.tape, ch.output.trans h.output, Nat.le_trans h.size ch.size, fun q hq hn => (ch.block q (Nat.lt_of_lt_of_le hq h.size) (fun h2 => hn (hT q h2 hq))).trans (h.block q hq hn)⟩
section
variable {B k : Nat} {w : World} {ls : List (List Int)} {s : Sl} {l2 : List Int}
theorem FlJ.other {T : Nat → Prop} (h : FlJ B w A n c ss ls W) (ch : Chg T W W') (h1 : ∀ q, (foot A c q ∨ foots ss q) → ¬ T q) (h2 : ∀ q, T q → w.heap.size ≤ q) : FlJ B w A n c ss ls W' :=
  ⟨h.1.chg ch h1, chg_new h.2 ch (fun q hq hl => by have := h2 q hq; omega)⟩
theorem FlJ.x (h : FlJ B w A n c ss ls W) (e : Ext W W') : FlJ B w A n c ss ls W' := h.other (T := fun _ => False) (Chg.ofExt e) (fun _ _ t => t) (fun _ t => t.elim)
theorem FlJ.touch (h : FlJ B w A n c ss ls W) (hk : ss[k]? = some s) (hr : Room W' s.A s.n s.c (l2.map intz)) (ch : Chg (foot s.A s.c) W W') : FlJ B w A n c ss (ls.set k l2) W' :=
  ⟨h.1.touch hk hr ch, chg_new h.2 ch (fun _ hq _ => ⟨s, List.mem_of_getElem? hk, hq⟩)⟩
theorem set_same {α : Type} {l : List α} {i : Nat} {x : α} (h : l[i]? = some x) : l.set i x = l := by
  refine List.ext_getElem? (fun j => ?_)
  by_cases e : i = j
  · subst e; rw [List.getElem?_set_self (List.getElem?_eq_some_iff.1 h).1, h]
  · rw [List.getElem?_set_ne e]
/-- One append: what stays. -/
theorem grow_step {Ag A' : Option Addr} {cg c' N : Nat} {xs : List Value} {l0 : List Int} (hF : FlJ B w A n c ss ls W) (hG : GsJ A n c ss G gl k ex W) (hs : ss[k]? = some s) (hls : ls[k]? = some l0) (hq : GrwQ w.heap.size A c ss G n gl k s Ag cg) (hr : Room W' A' N c' xs) (hN : s.n ≤ N) (hpre : xs.take s.n = l0.map intz) (hc : (A' = Ag ∧ c' = cg ∧ Chg (foot Ag cg) W W') ∨ (Ext W W' ∧ ∀ q, foot A' c' q → W.heap.size ≤ q)) :
    FlJ B w A n c ss ls W' ∧ GsJ A n c ss G gl k ex W' ∧ GrwQ w.heap.size A c ss G n gl k s A' c' := by
  have hkn : k < ss.length := (List.getElem?_eq_some_iff.1 hs).1
  rcases hc with ⟨rfl, rfl, ch⟩ | ⟨hx, hnew⟩
  · rcases hq with ⟨rfl, rfl⟩ | hq
    · have hr2 := hr.take hN
      rw [hpre] at hr2
      have h1 := hF.touch hs hr2 ch
      rw [set_same hls] at h1
      exact ⟨h1, hG.keep hs hF.1.apart ch (Nat.le_refl _), .inl ⟨rfl, rfl⟩⟩
    · refine ⟨hF.other ch (fun q hf hq2 => ?_) (fun q hq2 => (hq q hq2).1), hG.chg ch (fun q hg hq2 => (hq q hq2).2.1.2.2 hg) (fun j g hj hg q o hA hq2 => (hq q hq2).2.2 j g hj hg o hA), .inr hq⟩
      rcases hf with hf | hf
      · exact (hq q hq2).2.1.2.1 hf
      · exact (hq q hq2).2.1.1 hf
  · refine ⟨hF.x hx, hG.x hx, .inr (fun q hf => ?_)⟩
    have h1 := hnew q hf
    refine ⟨Nat.le_trans hF.2.size h1, ⟨fun h2 => by have := hF.1.lt (.inr h2); omega, fun h2 => by have := hF.1.lt (.inl h2); omega, fun h2 => by have := hG.room.lt h2; omega⟩, fun j g hj hg o hA => ?_⟩
    obtain ⟨t, ht⟩ : ∃ t, ss[j]? = some t := ⟨_, List.getElem?_eq_getElem (by omega)⟩
    have := ((hG.at_ j t g hj ht hg).2.2 q o hA).1
    omega
theorem GrwQ.own {V N : Nat} {Ag : Option Addr} {cg : Nat} {xs : List Value} (hq : GrwQ V A c ss G n gl k s Ag cg) (hr : Room W Ag N cg xs) (hN : 0 < N) : ∀ q o, Ag = some ⟨q, o, none⟩ → q < W.heap.size ∧ (foot s.A s.c q ∨ FreshQ A c ss G n q) := fun q o hA => by
  have hf : foot Ag cg q := ⟨by have := hr.2.1; omega, o, hA⟩
  refine ⟨hr.lt hf, ?_⟩
  rcases hq with ⟨rfl, rfl⟩ | hq
  · exact .inl hf
  · exact .inr (hq q hf).2.1
end
end
end Go.Fx
namespace Go.Proofs.Ytlneifgihdickaa
open Go.RowKit Go.Fx
theorem ul_li : Try.prog.underlying 69 = some (.slice 26) := by kernel_rfl
theorem info_li : (Try.prog.info? 26).map (fun i => (i.zero, i.size, i.bytes)) = some (some (.slice none 0 0), 1, 24) := by kernel_rfl
theorem mark_ (k i : Nat) (w : World) (hk : k ≤ 100000) (hi : i ≤ 1000000000) : Calls Try.prog 85 #[.int .i64 (k : Int), .int .i64 (i : Int)] w fun e w' => e = .returned (.int .i64 (mkF k i)) ∧ w = w' := by
  go_enter Try.func85, Try.ntmps85
  go_wp2_with fail
  go_ret
  exact ⟨ret_int (by first | rfl | (unfold mkF wrap64; omega) | (unfold mkF; omega)), rfl⟩
set_option maxRecDepth 100000 in
set_option maxHeartbeats 16000000 in
theorem flat_ (A : Option Addr) (n c : Nat) (ss : List Sl) (ls : List (List Int)) (B : Nat) (w : World) (h : Lsi intz B w A n c ss ls) (hn0 : 0 < n) (hn : n ≤ 1000) (hb : ∀ s ∈ ss, s.n ≤ 100000) :
    Calls Try.prog 75 #[.slice A n c] w fun e w' => e = .returned (.bool true) ∧ Chg (fun q => foots ss q) w w' := by
  obtain ⟨gA, oA, hA, _⟩ := h.room.some_ (by have := h.room.2.1; omega)
  subst hA
  have HJ : Hid (FlJ B w (some ⟨gA, oA, none⟩) n c ss ls w) := Lib.hid ⟨h, Chg.refl _ _⟩
  have HSL := Lib.hid h.sl_len
  have HSB : Hid (∀ (k : Nat) (s : Sl), ss[k]? = some s → s.n ≤ 100000) := Lib.hid (fun k s hs => hb s (List.mem_of_getElem? hs))
  have HGET : Hid (∀ k, k < n → ∃ s : Sl, ss[k]? = some s) := Lib.hid (fun k hk => ⟨ss[k]'(by rw [h.sl_len]; exact hk), List.getElem?_eq_getElem _⟩)
  have HM0 : Hid (∀ j l, j < 0 → ls[j]? = some l → Mkd j l.length l) := Lib.hid (fun j l hj => by omega)
  have HAP := Lib.hid h.apart
  clear h hb
  go_enter Try.func75, Try.ntmps75
  go_wp2_with fail
  go_loopw [3] (fun v3 wr => ∃ (k : Nat) (ls : List (List Int)), k ≤ n ∧ v3 = .int .i64 (k : Int) ∧ Hid (FlJ B w (some ⟨gA, oA, none⟩) n c ss ls wr) ∧ Hid (∀ j l, j < k → ls[j]? = some l → Mkd j l.length l)) (fun v _ => n - (intOf v).toNat)
  case atStart => exact ⟨0, ls, by omega, rfl, HJ, HM0⟩
  case round =>
    clear HJ HM0
    obtain ⟨k, ls, hk, rfl, HJ, HM⟩ := hrel
    by_cases hlt : k < n
    · have hltI : (k : Int) < (n : Int) := by omega
      obtain ⟨⟨sA, sn, sc⟩, hs⟩ := HGET.out k hlt
      have Hs := Lib.hid hs
      have hsb : sn ≤ 100000 := HSB.out k _ hs
      have HM2 : Hid (∀ l, ls[k]? = some l → Mkd k 0 l) := Lib.hid (fun l _ q x hq => by omega)
      clear hs
      go_wp2_with fail
      go_loopw [4] (fun v4 wr => ∃ (i : Nat) (ls : List (List Int)), i ≤ sn ∧ v4 = .int .i64 (i : Int) ∧ Hid (FlJ B w (some ⟨gA, oA, none⟩) n c ss ls wr) ∧ Hid (∀ j l, j < k → ls[j]? = some l → Mkd j l.length l) ∧ Hid (∀ l, ls[k]? = some l → Mkd k i l)) (fun v _ => sn - (intOf v).toNat)
      case atStart => exact ⟨0, ls, by omega, rfl, HJ, HM, HM2⟩
      case round =>
        clear HJ HM HM2
        obtain ⟨i, ls, hi, rfl, HJ, HM, HM2⟩ := hrel
        have hhd := HJ.out.1.hd Hs.out
        simp only at hhd
        by_cases hli : i < sn
        · have hliI : (i : Int) < (sn : Int) := by omega
          obtain ⟨l, hl, hr⟩ := HJ.out.1.at_ k _ Hs.out
          obtain ⟨g, o, hsA, _⟩ := Room.some_ hr (by have := hr.2.1; simp only at this ⊢; omega)
          simp only at hsA
          subst hsA
          obtain ⟨x, hx⟩ : ∃ x, l[i]? = some x := ⟨_, List.getElem?_eq_getElem (by have := hr.1; rw [List.length_map] at this; simp only at this; omega)⟩
          have hcx := Room.cellAt hr (k := i) (u := intz x) (by rw [List.getElem?_map, hx]; rfl)
          have hfx := Room.frozenAt hr (k := i) (by have := hr.2.1; simp only at this ⊢; omega)
          have HP := Lib.hid (HJ.out.1.put Hs.out hl hli (mkF k i))
          have HC2 : Hid (Chg (fun q => foots ss q) w (wr.setCell ⟨g, o + i, none⟩ (intz (mkF k i)))) := Lib.hid (HJ.out.2.t (Chg.set wr g (o + i) _ ⟨_, List.mem_of_getElem? Hs.out, ⟨by have := hr.2.1; simp only at this ⊢; omega, o, rfl⟩⟩))
          have HMa : Hid (∀ j l', j < k → (ls.set k (l.set i (mkF k i)))[j]? = some l' → Mkd j l'.length l') := Lib.hid (fun j l' hj hl' => by
            rw [List.getElem?_set_ne (by omega)] at hl'
            exact HM.out j l' hj hl')
          have HMb : Hid (∀ l', (ls.set k (l.set i (mkF k i)))[k]? = some l' → Mkd k (i + 1) l') := Lib.hid (fun l' hl' => by
            rw [List.getElem?_set_self (List.getElem?_eq_some_iff.1 hl).1] at hl'
            rw [← Option.some.inj hl']
            exact (HM2.out l hl).set)
          have HMK := Lib.hid (fun w' => mark_ k i w' (by omega) (by omega))
          have hne : gA ≠ g := fun e => HJ.out.1.outer g ⟨_, List.mem_of_getElem? Hs.out, ⟨by have := hr.2.1; simp only at this ⊢; omega, o, rfl⟩⟩ ⟨by have := HJ.out.1.room.2.1; omega, oA, by rw [e]⟩
          unfold intz at hcx
          have HS0 : Hid (wr.cell? ⟨gA, oA + k, none⟩ = some (.slice (some ⟨g, o, none⟩) sn sc) ∧ (wr.cell? ⟨g, o + i, none⟩).isSome = true ∧ wr.frozen? ⟨g, o + i, none⟩ = false) := Lib.hid ⟨hhd, by rw [hcx]; rfl, hfx⟩
          have Hne := Lib.hid hne
          have HXX : Hid (∀ l', (ls.set k (l.set i (mkF k i)))[k]? = some l' → (l'[i]?).map intz = some (intz (mkF k i))) := Lib.hid (fun l' hl' => by
            rw [List.getElem?_set_self (List.getElem?_eq_some_iff.1 hl).1] at hl'
            rw [← Option.some.inj hl', List.getElem?_set_self (List.getElem?_eq_some_iff.1 hx).1]; rfl)
          clear hl hr hx HM HM2 HJ hne
          go_upto_region 7 with fail
          clear hhd hcx hfx
          refine wp_region_held_drew (S := fun w' => w'.cell? ⟨gA, oA + k, none⟩ = some (.slice (some ⟨g, o, none⟩) sn sc) ∧ (w'.cell? ⟨g, o + i, none⟩).isSome = true ∧ w'.frozen? ⟨g, o + i, none⟩ = false) (by kernel_rfl) HS0.out (fun hS0 => ?_)
          have HSt := Lib.hid hS0
          clear hS0 HS0
          refine take_heldS (i := 0) (j := 31) (v := .slice (some ⟨gA, oA, none⟩) n c) rfl rfl (by as_aux_lemma => kernel_rfl) (by as_aux_lemma => kernel_rfl) (by as_aux_lemma => kernel_rfl) (fun _ _ _ h => h) (Or.inl ⟨by rfl, fun w' hw' => by obtain ⟨q0, q1, q2⟩ := hw'; go_simp; try rfl⟩) HSt.out ?_
          simp only [Act.put, List.setIfInBounds_toArray, List.set_cons_zero, List.set_cons_succ]
          refine take_heldS (i := 1) (j := 32) (v := .int .i64 (k : Int)) rfl rfl (by as_aux_lemma => kernel_rfl) (by as_aux_lemma => kernel_rfl) (by as_aux_lemma => kernel_rfl) (fun _ _ _ h => h) (Or.inl ⟨by rfl, fun w' hw' => by obtain ⟨q0, q1, q2⟩ := hw'; go_simp; try rfl⟩) HSt.out ?_
          simp only [Act.put, List.setIfInBounds_toArray, List.set_cons_zero, List.set_cons_succ]
          refine take_heldS (i := 2) (j := 33) (v := .pointer (some ⟨gA, oA + k, none⟩)) rfl rfl (by as_aux_lemma => kernel_rfl) (by as_aux_lemma => kernel_rfl) (by as_aux_lemma => kernel_rfl) (fun _ _ _ h => h) (Or.inl ⟨by rfl, fun w' hw' => by obtain ⟨q0, q1, q2⟩ := hw'; go_simp; try rfl⟩) HSt.out ?_
          simp only [Act.put, List.setIfInBounds_toArray, List.set_cons_zero, List.set_cons_succ]
          refine take_heldS (i := 3) (j := 34) (v := .slice (some ⟨g, o, none⟩) sn sc) rfl rfl (by as_aux_lemma => kernel_rfl) (by as_aux_lemma => kernel_rfl) (by as_aux_lemma => kernel_rfl) (fun _ _ _ h => h) (Or.inl ⟨by rfl, fun w' hw' => by obtain ⟨q0, q1, q2⟩ := hw'; go_simp; try rfl⟩) HSt.out ?_
          simp only [Act.put, List.setIfInBounds_toArray, List.set_cons_zero, List.set_cons_succ]
          refine take_heldS (i := 4) (j := 35) (v := .int .i64 (i : Int)) rfl rfl (by as_aux_lemma => kernel_rfl) (by as_aux_lemma => kernel_rfl) (by as_aux_lemma => kernel_rfl) (fun _ _ _ h => h) (Or.inl ⟨by rfl, fun w' hw' => by obtain ⟨q0, q1, q2⟩ := hw'; go_simp; try rfl⟩) HSt.out ?_
          simp only [Act.put, List.setIfInBounds_toArray, List.set_cons_zero, List.set_cons_succ]
          refine take_heldS (i := 5) (j := 36) (v := .int .i64 (k : Int)) rfl rfl (by as_aux_lemma => kernel_rfl) (by as_aux_lemma => kernel_rfl) (by as_aux_lemma => kernel_rfl) (fun _ _ _ h => h) (Or.inl ⟨by rfl, fun w' hw' => by obtain ⟨q0, q1, q2⟩ := hw'; go_simp; try rfl⟩) HSt.out ?_
          simp only [Act.put, List.setIfInBounds_toArray, List.set_cons_zero, List.set_cons_succ]
          refine take_heldS (i := 6) (j := 37) (v := .int .i64 (i : Int)) rfl rfl (by as_aux_lemma => kernel_rfl) (by as_aux_lemma => kernel_rfl) (by as_aux_lemma => kernel_rfl) (fun _ _ _ h => h) (Or.inl ⟨by rfl, fun w' hw' => by obtain ⟨q0, q1, q2⟩ := hw'; go_simp; try rfl⟩) HSt.out ?_
          simp only [Act.put, List.setIfInBounds_toArray, List.set_cons_zero, List.set_cons_succ]
          refine wpAnyH_ready (rs := [7]) (by kernel_rfl) (by simp) (AllReadyH.cons rfl (fun K hK => ?_) AllReadyH.nil)
          go_simp
          go_at_call 85
          refine (HMK.out _).mono ?_; rintro e wx ⟨rfl, rfl⟩
          refine hK.out _ _ HSt.out (fun hS2 => ?_)
          clear hK K hS2
          try simp only [Act.put, List.setIfInBounds_toArray, List.set_cons_zero, List.set_cons_succ]
          refine take_heldS (i := 8) (j := 39) (v := .pointer (some ⟨g, o + i, none⟩)) rfl rfl (by as_aux_lemma => kernel_rfl) (by as_aux_lemma => kernel_rfl) (by as_aux_lemma => kernel_rfl) (fun _ _ _ h => h) (Or.inl ⟨by rfl, fun w' hw' => by obtain ⟨q0, q1, q2⟩ := hw'; go_simp; try rfl⟩) HSt.out ?_
          simp only [Act.put, List.setIfInBounds_toArray, List.set_cons_zero, List.set_cons_succ]
          refine wpAnyH_ready (rs := [9]) (by kernel_rfl) (by simp) (AllReadyH.cons rfl (fun K hK => ?_) AllReadyH.nil)
          obtain ⟨h7a, h7b', h7c⟩ := HSt.out
          obtain ⟨h7v, h7b⟩ := Option.isSome_iff_exists.1 h7b'
          go_simp
          refine hK.out _ _ ?_ (fun hS2 => ?_)
          · refine ⟨(World.cell?_setCell_other _ _ _ _ (by first | (simp; done) | (simp; intro e; exact absurd e Hne.out) | (simp; intro e; exact absurd e.symm Hne.out) | (intro e; simp at e; first | exact absurd e.1 Hne.out | exact absurd e Hne.out | exact absurd e.symm Hne.out))).trans h7a, ?_, ?_⟩
            · have := Room.cellAt (HP.out.at_ k _ Hs.out).choose_spec.2 (k := i) (u := intz (mkF k i)) (by
                have h1 := (HP.out.at_ k _ Hs.out).choose_spec.1
                rw [List.getElem?_map]
                exact HXX.out _ h1)
              exact (congrArg Option.isSome this).trans rfl
            · have hr2 := (HP.out.at_ k _ Hs.out).choose_spec.2
              exact Room.frozenAt hr2 (k := i) (by have := hr2.2.1; simp only at this ⊢; omega)
          clear hK K hS2
          refine wpAnyH_done (by kernel_rfl) ?_ _
          have HJ2 : Hid (FlJ B w (some ⟨gA, oA, none⟩) n c ss (ls.set k (l.set i (mkF k i))) (wr.setCell ⟨g, o + i, none⟩ (intz (mkF k i))).drew) := Lib.hid (FlJ.x ⟨HP.out, HC2.out⟩ (Ext.drew _))
          clear HP HC2 HXX HSt h7a h7b h7b' h7c
          go_wp2_with fail
          go_roundw
          case rel => exact ⟨i + 1, _, by omega, by go_num, HJ2, HMa, HMb⟩
          case measure => simp [intOf]; omega
        · obtain rfl : sn = i := by omega
          have HM3 : Hid (∀ j l, j < k + 1 → ls[j]? = some l → Mkd j l.length l) := Lib.hid (fun j l hj hl => by
            by_cases e : j = k
            · subst e
              obtain ⟨l', h1, h2⟩ := HJ.out.1.at_ j _ Hs.out
              rw [hl] at h1
              obtain rfl := Option.some.inj h1
              have h3 := h2.1
              rw [List.length_map] at h3
              rw [h3]
              exact HM2.out l hl
            · exact HM.out j l (by omega) hl)
          clear HM HM2
          go_wp2_with fail
          go_roundw
          case rel => exact ⟨k + 1, ls, by omega, by go_num, HJ, HM3⟩
          case measure => simp [intOf]; omega
    · obtain rfl : n = k := by omega
      have HALL : Hid (∀ (j : Nat) (s : Sl), ss[j]? = some s → ls[j]? = some (mkL j s.n)) := Lib.hid (fun j s hs => by
        obtain ⟨l, h1, h2⟩ := HJ.out.1.at_ j s hs
        have h3 := h2.1
        rw [List.length_map] at h3
        have hj : j < n := by have := (List.getElem?_eq_some_iff.1 hs).1; rw [HSL.out] at this; exact this
        have h4 := HM.out j l hj h1
        rw [h3] at h4
        rw [h1, h4.all h3])
      clear HM
      go_wp2_with (refine wpl_makeN rfl rfl ul_ii info_ii rfl rfl rfl rfl rfl (by omega) (by unfold maxLen; omega) ?_)
      intro G w3 r3 e3 ft3; refine Lib.hid ?_
      obtain ⟨gG, oG, hG, _⟩ := r3.some_ hn0
      subst hG
      have HJ3 : Hid (FlJ B w (some ⟨gA, oA, none⟩) n c ss ls w3) := Lib.hid (HJ.out.x e3)
      have HG0 : Hid (∃ gl, GsJ (some ⟨gA, oA, none⟩) n c ss (some ⟨gG, oG, none⟩) gl 0 64 w3) := Lib.hid ⟨List.replicate n ⟨none, 0, 0⟩, by rw [List.map_replicate]; exact r3, fun q hq => ⟨fun h2 => by have := HJ.out.1.lt (.inl h2); have := ft3 q hq; omega, fun h2 => by have := HJ.out.1.lt (.inr h2); have := ft3 q hq; omega⟩, fun j _ _ hj => by omega⟩
      obtain ⟨gl, hgl⟩ := HG0.out
      have HG1 := Lib.hid hgl
      have HGV : Hid (w.heap.size ≤ gG) := Lib.hid (Nat.le_trans HJ.out.2.size (ft3 gG ⟨hn0, oG, rfl⟩))
      clear r3 e3 ft3 HJ HG0 hgl
      go_wp2_with fail
      go_loopw [6] (fun v6 wr => ∃ (k : Nat) (gl : List Sl), k ≤ n ∧ v6 = .int .i64 (k : Int) ∧ Hid (FlJ B w (some ⟨gA, oA, none⟩) n c ss ls wr) ∧ Hid (GsJ (some ⟨gA, oA, none⟩) n c ss (some ⟨gG, oG, none⟩) gl k 64 wr)) (fun v _ => n - (intOf v).toNat)
      case atStart => exact ⟨0, gl, by omega, rfl, HJ3, HG1⟩
      case round =>
        clear HJ3 HG1
        obtain ⟨k, gl, hk, rfl, HJ, HG⟩ := hrel
        by_cases hlt : k < n
        · have hltI : (k : Int) < (n : Int) := by omega
          obtain ⟨⟨sA, sn, sc⟩, hs⟩ := HGET.out k hlt
          have Hs := Lib.hid hs
          have hsb : sn ≤ 100000 := HSB.out k _ hs
          have hhd := HJ.out.1.hd Hs.out
          simp only at hhd
          have HL0 : Hid (ls[k]? = some (mkL k sn)) := Lib.hid (HALL.out k _ hs)
          have HR0 : Hid (Room wr sA sn sc ((mkL k sn).map intz) ∧ GrwQ w.heap.size (some ⟨gA, oA, none⟩) c ss (some ⟨gG, oG, none⟩) n gl k ⟨sA, sn, sc⟩ sA sc) := Lib.hid ⟨by
            obtain ⟨l', h1, h2⟩ := HJ.out.1.at_ k _ hs
            rw [HL0.out] at h1
            obtain rfl := Option.some.inj h1
            exact h2, .inl ⟨rfl, rfl⟩⟩
          clear hs
          go_wp2_with fail
          clear hhd
          go_loopw [7, 8] (fun v7 v8 wr => ∃ (i : Nat) (Ag : Option Addr) (cg : Nat), i ≤ 64 ∧ v8 = .int .i64 (i : Int) ∧ v7 = .slice Ag (sn + i) cg ∧ Hid (FlJ B w (some ⟨gA, oA, none⟩) n c ss ls wr) ∧ Hid (GsJ (some ⟨gA, oA, none⟩) n c ss (some ⟨gG, oG, none⟩) gl k 64 wr) ∧ Hid (Room wr Ag (sn + i) cg ((mkL k (sn + i)).map intz) ∧ GrwQ w.heap.size (some ⟨gA, oA, none⟩) c ss (some ⟨gG, oG, none⟩) n gl k ⟨sA, sn, sc⟩ Ag cg)) (fun _ v _ => 64 - (intOf v).toNat)
          case atStart => exact ⟨0, sA, sc, by omega, rfl, rfl, HJ, HG, HR0⟩
          case round =>
            clear HJ HG HR0
            obtain ⟨i, Ag, cg, hi, rfl, rfl, HJ, HG, HR⟩ := hrel
            by_cases hli : i < 64
            · have hliI : (i : Int) < 64 := by omega
              have hhd := HJ.out.1.hd Hs.out
              simp only at hhd
              have HMK : Hid (∀ w', Calls Try.prog 85 #[.int .i64 (k : Int), .int .i64 ((sn : Int) + (i : Int))] w' fun e w'' => e = .returned (.int .i64 (mkF k (sn + i))) ∧ w' = w'') := Lib.hid (fun w' => by
                have h1 := mark_ k (sn + i) w' (by omega) (by omega)
                rwa [Int.natCast_add] at h1)
              go_wp2_with fail
              refine (HMK.out _).mono ?_; rintro e wx ⟨rfl, rfl⟩
              clear hhd
              go_wp2_with (refine wpl_build (by rfl) rfl ul_in info_in [.tmp 66] (by rfl) (by rfl) (by decide) (f := intz) [mkF k (sn + i)] (by rfl) (fun _ => rfl) ?_)
              intro g5 w5 y1 xa lo1 r1; refine Lib.hid ?_
              have HJ5 := Lib.hid (HJ.out.x xa)
              have HG5 := Lib.hid (HG.out.x xa)
              have HR5 : Hid (Room w5 Ag (sn + i) cg ((mkL k (sn + i)).map intz) ∧ GrwQ w.heap.size (some ⟨gA, oA, none⟩) c ss (some ⟨gG, oG, none⟩) n gl k ⟨sA, sn, sc⟩ Ag cg) := Lib.hid ⟨HR.out.1.ext xa, HR.out.2⟩
              have RV := Lib.hid r1
              clear y1 xa lo1 r1 HJ HG HR HMK
              go_wp2_with (refine wpl_append_two (by rfl) rfl ul_in info_in rfl rfl HR5.out.1 rfl (Src.ofRd ul_in RV.out (fun _ => rfl)) (by simp only [maxLen]; omega) (by omega) ?_)
              intro A6 c6 w6 r6 h6; refine Lib.hid ?_
              have HST := Lib.hid (grow_step HJ5.out HG5.out Hs.out HL0.out HR5.out.2 r6 (by show sn ≤ sn + i + 1; omega) (by
                show (((mkL k (sn + i)).map intz) ++ [mkF k (sn + i)].map intz).take sn = _
                rw [← List.map_append, ← mkL_succ, ← List.map_take, mkL_take (by omega)]) h6)
              have HJ6 := Lib.hid HST.out.1
              have HG6 := Lib.hid HST.out.2.1
              have HR6 : Hid (Room w6 A6 (sn + (i + 1)) c6 ((mkL k (sn + (i + 1))).map intz) ∧ GrwQ w.heap.size (some ⟨gA, oA, none⟩) c ss (some ⟨gG, oG, none⟩) n gl k ⟨sA, sn, sc⟩ A6 c6) := Lib.hid ⟨by
                have h1 : Room w6 A6 (sn + i + 1) c6 ((mkL k (sn + i)).map intz ++ [mkF k (sn + i)].map intz) := r6
                rw [← List.map_append, ← mkL_succ] at h1
                exact h1, HST.out.2.2⟩
              clear r6 h6 HST HJ5 HG5 HR5 RV
              go_wp2_with fail
              go_roundw
              case rel => exact ⟨i + 1, A6, c6, by omega, by go_num, rfl, HJ6, HG6, HR6⟩
              case measure => simp [intOf]; omega
            · obtain rfl : i = 64 := by omega
              obtain ⟨v8, hv8⟩ : ∃ v, gl[k]? = some v := ⟨_, List.getElem?_eq_getElem (by rw [HG.out.len]; exact hlt)⟩
              have hcG := HG.out.room.cellAt (k := k) (u := slv v8) (by rw [List.getElem?_map, hv8]; rfl)
              have hfG := HG.out.room.frozenAt (k := k) hlt
              have HG7 := Lib.hid (HG.out.put (g := ⟨Ag, sn + 64, cg⟩) (l := mkL k (sn + 64)) Hs.out hlt rfl HR.out.1.rd (fun q x hq hx => by rw [mkL_at hq] at hx; exact (Option.some.inj hx).symm) (HR.out.2.own HR.out.1 (by omega)))
              have HJ7 : Hid (FlJ B w (some ⟨gA, oA, none⟩) n c ss ls (wr.setCell ⟨gG, oG + k, none⟩ (slv ⟨Ag, sn + 64, cg⟩))) := Lib.hid (HJ.out.other (Chg.set wr gG (oG + k) _ (T := fun q => q = gG) rfl) (fun q hq e => by
                subst e
                have h1 := HG.out.out q ⟨by omega, oG, rfl⟩
                exact hq.elim h1.1 h1.2) (fun q e => by subst e; exact HGV.out))
              clear HJ HG HR hv8
              go_wp2_with fail
              clear hcG hfG
              go_roundw
              case rel => exact ⟨k + 1, _, by omega, by go_num, HJ7, HG7⟩
              case measure => simp [intOf]; omega
        · obtain rfl : n = k := by omega
          go_wp2_with fail
          go_loopw [9] (fun v9 wr => ∃ k : Nat, k ≤ n ∧ v9 = .int .i64 (k : Int) ∧ Hid (FlJ B w (some ⟨gA, oA, none⟩) n c ss ls wr) ∧ Hid (GsJ (some ⟨gA, oA, none⟩) n c ss (some ⟨gG, oG, none⟩) gl n 64 wr)) (fun v _ => n - (intOf v).toNat)
          case atStart => exact ⟨0, by omega, rfl, HJ, HG⟩
          case round =>
            clear HJ HG
            obtain ⟨k, hk, rfl, HJ, HG⟩ := hrel
            by_cases hlt : k < n
            · have hltI : (k : Int) < (n : Int) := by omega
              obtain ⟨⟨sA, sn, sc⟩, hs⟩ := HGET.out k hlt
              have Hs := Lib.hid hs
              have hsb : sn ≤ 100000 := HSB.out k _ hs
              have HL0 : Hid (ls[k]? = some (mkL k sn)) := Lib.hid (HALL.out k _ hs)
              clear hs
              obtain ⟨⟨gA2, gn, gc⟩, hgk⟩ : ∃ v, gl[k]? = some v := ⟨_, List.getElem?_eq_getElem (by rw [HG.out.len]; exact hlt)⟩
              obtain rfl : gn = sn + 64 := (HG.out.at_ k _ _ hlt Hs.out hgk).1
              have Hgk := Lib.hid hgk
              clear hgk
              go_wp2_with fail
              go_loopw [10] (fun v10 wr => ∃ i : Nat, i ≤ sn + 64 ∧ v10 = .int .i64 (i : Int) ∧ Hid (FlJ B w (some ⟨gA, oA, none⟩) n c ss ls wr) ∧ Hid (GsJ (some ⟨gA, oA, none⟩) n c ss (some ⟨gG, oG, none⟩) gl n 64 wr)) (fun v _ => sn + 64 - (intOf v).toNat)
              case atStart => exact ⟨0, by omega, rfl, HJ, HG⟩
              case round =>
                clear HJ HG
                obtain ⟨i, hi, rfl, HJ, HG⟩ := hrel
                have hcG := HG.out.room.cellAt (k := k) (u := .slice gA2 (sn + 64) gc) (by rw [List.getElem?_map, Hgk.out]; rfl)
                by_cases hli : i < sn + 64
                · have hliI : (i : Int) < ((sn + 64 : Nat) : Int) := by omega
                  have hliI2 : (i : Int) < (sn : Int) + 64 := by omega
                  have hhd := HJ.out.1.hd Hs.out
                  simp only at hhd
                  obtain ⟨_, ⟨l, hr, hm⟩, _⟩ := HG.out.at_ k _ _ hlt Hs.out Hgk.out
                  obtain ⟨g1, o1, x, rfl, hx, cx⟩ := rd_get hr hli
                  obtain rfl := hm i x hli hx
                  unfold intz at cx
                  have hee : (mkF k i == mkF k i) = true := by simp
                  have HMK := Lib.hid (fun w' => mark_ k i w' (by omega) (by omega))
                  clear hr hm hx
                  by_cases his : i < sn
                  · have hisI : (i : Int) < (sn : Int) := by omega
                    have hisd : decide ((i : Int) < (sn : Int)) = true := decide_eq_true hisI
                    obtain ⟨l', h1, h2⟩ := HJ.out.1.at_ k _ Hs.out
                    rw [HL0.out] at h1
                    obtain rfl := Option.some.inj h1
                    obtain ⟨g2, o2, x', rfl, hx', cx'⟩ := rd_get (Room.rd h2) his
                    rw [mkL_at his] at hx'
                    obtain rfl := Option.some.inj hx'
                    unfold intz at cx'
                    clear h2 hx'
                    go_wp2_with fail
                    go_quiet ((go_at_call 85; exact (HMK.out _).mono fun _ _ h => ⟨h.1, _, h.2.symm⟩))
                    go_wp2_with fail
                    clear cx cx' hcG hhd
                    go_roundw
                    case rel => exact ⟨i + 1, by omega, by go_num, Lib.hid (HJ.out.x (by first | exact Ext.drewN _ _ | exact Ext.drew _)), Lib.hid (HG.out.x (by first | exact Ext.drewN _ _ | exact Ext.drew _))⟩
                    case measure => simp [intOf]; omega
                  · have hisI : ¬ (i : Int) < (sn : Int) := by omega
                    have hisd : decide ((i : Int) < (sn : Int)) = false := decide_eq_false hisI
                    go_wp2_with fail
                    go_quiet ((go_at_call 85; exact (HMK.out _).mono fun _ _ h => ⟨h.1, _, h.2.symm⟩))
                    go_wp2_with fail
                    clear cx hcG hhd
                    go_roundw
                    case rel => exact ⟨i + 1, by omega, by go_num, Lib.hid (HJ.out.x (by first | exact Ext.drewN _ _ | exact Ext.drew _)), Lib.hid (HG.out.x (by first | exact Ext.drewN _ _ | exact Ext.drew _))⟩
                    case measure => simp [intOf]; omega
                · obtain rfl : i = sn + 64 := by omega
                  go_wp2_with fail
                  clear hcG
                  go_roundw
                  case rel => exact ⟨k + 1, by omega, by go_num, HJ, HG⟩
                  case measure => simp [intOf]; omega
            · obtain rfl : n = k := by omega
              have HG0 := Lib.hid (HG.out.zero (ex' := 0))
              clear HG
              go_wp2_with fail
              go_loopw [11] (fun v11 wr => ∃ (k : Nat) (gl : List Sl), k ≤ n ∧ v11 = .int .i64 (k : Int) ∧ Hid (FlJ B w (some ⟨gA, oA, none⟩) n c ss ls wr) ∧ Hid (GsJ (some ⟨gA, oA, none⟩) n c ss (some ⟨gG, oG, none⟩) gl k 0 wr)) (fun v _ => n - (intOf v).toNat)
              case atStart => exact ⟨0, gl, by omega, rfl, HJ, HG0⟩
              case round =>
                clear HJ HG0
                obtain ⟨k, gl, hk, rfl, HJ, HG⟩ := hrel
                by_cases hlt : k < n
                · have hltI : (k : Int) < (n : Int) := by omega
                  obtain ⟨⟨sA, sn, sc⟩, hs⟩ := HGET.out k hlt
                  have Hs := Lib.hid hs
                  have hsb : sn ≤ 100000 := HSB.out k _ hs
                  have HL0 : Hid (ls[k]? = some (mkL k sn)) := Lib.hid (HALL.out k _ hs)
                  clear hs
                  go_wp2_with (refine wpl_makeN rfl rfl ul_in info_in rfl (n := 64) rfl rfl rfl rfl (by omega) (by unfold maxLen; omega) ?_)
                  intro Am w4 r4 e4 ft4; refine Lib.hid ?_
                  obtain ⟨gm, om, hAm, _⟩ := r4.some_ (by decide)
                  subst hAm
                  have HN : Hid (NwL intz wr (some ⟨gm, om, none⟩) 64 64 (List.replicate 64 0) w4) := Lib.hid ⟨by rw [List.map_replicate]; exact r4, e4, ft4⟩
                  obtain ⟨xs, hxs⟩ : ∃ xs, xs = List.replicate 64 (0 : Int) := ⟨_, rfl⟩
                  rw [← hxs] at HN
                  clear r4 e4 ft4 hxs
                  obtain ⟨Wk, hWk⟩ : ∃ Wk, Wk = wr := ⟨_, rfl⟩
                  rw [← hWk] at HN HJ HG
                  clear hWk
                  go_wp2_with fail
                  go_loopw [13] (fun v13 wr => ∃ (i : Nat) (xs : List Int), i ≤ 64 ∧ v13 = .int .i64 (i : Int) ∧ Hid (NwL intz Wk (some ⟨gm, om, none⟩) 64 64 xs wr)) (fun v _ => 64 - (intOf v).toNat)
                  case atStart => exact ⟨0, xs, by omega, rfl, HN⟩
                  case round =>
                    clear HN
                    obtain ⟨i, xs, hi, rfl, HN⟩ := hrel
                    by_cases hli : i < 64
                    · have hliI : (i : Int) < 64 := by omega
                      have HMK : Hid (∀ w', Calls Try.prog 85 #[.int .i64 ((k : Int) + (n : Int)), .int .i64 (i : Int)] w' fun e w'' => e = .returned (.int .i64 (mkF (k + n) i)) ∧ w' = w'') := Lib.hid (fun w' => by
                        have h1 := mark_ (k + n) i w' (by omega) (by omega)
                        rwa [Int.natCast_add] at h1)
                      obtain ⟨_, _, x, hh, hx, cx⟩ := rd_get HN.out.room.rd hli
                      cases hh
                      have fx := HN.out.room.frozenAt (k := i) hli
                      have HN2 := Lib.hid (HN.out.set hli (mkF (k + n) i))
                      clear hx HN
                      go_wp2_with fail
                      refine (HMK.out _).mono ?_; rintro e wx ⟨rfl, rfl⟩
                      go_wp2_with fail
                      clear cx fx
                      go_roundw
                      case rel => exact ⟨i + 1, _, by omega, by go_num, HN2⟩
                      case measure => simp [intOf]; omega
                    · obtain rfl : i = 64 := by omega
                      have HJ5 := Lib.hid (HJ.out.x HN.out.ext)
                      have HG5 := Lib.hid (HG.out.x HN.out.ext)
                      have HRM := Lib.hid HN.out.room.rd
                      have hhd := HJ5.out.1.hd Hs.out
                      simp only at hhd
                      have HR0 : Hid (Room wr sA sn sc ((mkL k sn).map intz)) := Lib.hid (by
                        obtain ⟨l', h1, h2⟩ := HJ5.out.1.at_ k _ Hs.out
                        rw [HL0.out] at h1
                        obtain rfl := Option.some.inj h1
                        exact h2)
                      clear HJ HG HN
                      go_wp2_with (refine wpl_append_two (by rfl) rfl ul_in info_in rfl rfl HR0.out rfl (Src.ofRd ul_in HRM.out (fun _ => rfl)) (by simp only [maxLen]; omega) (by omega) ?_)
                      intro A6 c6 w6 r6 h6; refine Lib.hid ?_
                      have HST := Lib.hid (grow_step HJ5.out HG5.out Hs.out HL0.out (.inl ⟨rfl, rfl⟩) r6 (by show sn ≤ sn + 64; omega) (by
                        rw [List.take_append_of_le_length (by rw [List.length_map, mkL_len]; exact Nat.le_refl _), List.take_of_length_le (by rw [List.length_map, mkL_len]; exact Nat.le_refl _)]) h6)
                      have hR6 : Room w6 A6 (sn + 64) c6 ((mkL k sn ++ xs).map intz) := by rw [List.map_append]; exact r6
                      obtain ⟨v8, hv8⟩ : ∃ v, gl[k]? = some v := ⟨_, List.getElem?_eq_getElem (by rw [HST.out.2.1.len]; exact hlt)⟩
                      have hcG := HST.out.2.1.room.cellAt (k := k) (u := slv v8) (by rw [List.getElem?_map, hv8]; rfl)
                      have hfG := HST.out.2.1.room.frozenAt (k := k) hlt
                      have HG7 := Lib.hid (HST.out.2.1.put (g := ⟨A6, sn + 64, c6⟩) (l := mkL k sn ++ xs) Hs.out hlt rfl hR6.rd (fun q x hq hx => by
                        rw [List.getElem?_append_left (by rw [mkL_len]; exact hq), mkL_at (show q < sn from hq)] at hx
                        exact (Option.some.inj hx).symm) (HST.out.2.2.own hR6 (by omega)))
                      have HJ7 : Hid (FlJ B w (some ⟨gA, oA, none⟩) n c ss ls (w6.setCell ⟨gG, oG + k, none⟩ (slv ⟨A6, sn + 64, c6⟩))) := Lib.hid (HST.out.1.other (Chg.set w6 gG (oG + k) _ (T := fun q => q = gG) rfl) (fun q hq e => by
                        subst e
                        have h1 := HST.out.2.1.out q ⟨by omega, oG, rfl⟩
                        exact hq.elim h1.1 h1.2) (fun q e => by subst e; exact HGV.out))
                      clear HST HJ5 HG5 HR0 HRM r6 h6 hR6 hv8
                      go_wp2_with fail
                      clear hcG hfG hhd
                      go_roundw
                      case rel => exact ⟨k + 1, _, by omega, by go_num, HJ7, HG7⟩
                      case measure => simp [intOf]; omega
                · obtain rfl : n = k := by omega
                  go_wp2_with fail
                  go_loopw [14] (fun v14 wr => ∃ k : Nat, k ≤ n ∧ v14 = .int .i64 (k : Int) ∧ Hid (FlJ B w (some ⟨gA, oA, none⟩) n c ss ls wr) ∧ Hid (GsJ (some ⟨gA, oA, none⟩) n c ss (some ⟨gG, oG, none⟩) gl n 0 wr)) (fun v _ => n - (intOf v).toNat)
                  case atStart => exact ⟨0, by omega, rfl, HJ, HG⟩
                  case round =>
                    clear HJ HG
                    obtain ⟨k, hk, rfl, HJ, HG⟩ := hrel
                    by_cases hlt : k < n
                    · have hltI : (k : Int) < (n : Int) := by omega
                      obtain ⟨⟨sA, sn, sc⟩, hs⟩ := HGET.out k hlt
                      have Hs := Lib.hid hs
                      have hsb : sn ≤ 100000 := HSB.out k _ hs
                      have HL0 : Hid (ls[k]? = some (mkL k sn)) := Lib.hid (HALL.out k _ hs)
                      clear hs
                      obtain ⟨⟨gA2, gn, gc⟩, hgk⟩ : ∃ v, gl[k]? = some v := ⟨_, List.getElem?_eq_getElem (by rw [HG.out.len]; exact hlt)⟩
                      obtain rfl : gn = sn + 64 := (HG.out.at_ k _ _ hlt Hs.out hgk).1
                      have Hgk := Lib.hid hgk
                      clear hgk
                      go_wp2_with fail
                      go_loopw [15] (fun v15 wr => ∃ i : Nat, i ≤ sn ∧ v15 = .int .i64 (i : Int) ∧ Hid (FlJ B w (some ⟨gA, oA, none⟩) n c ss ls wr) ∧ Hid (GsJ (some ⟨gA, oA, none⟩) n c ss (some ⟨gG, oG, none⟩) gl n 0 wr)) (fun v _ => sn - (intOf v).toNat)
                      case atStart => exact ⟨0, by omega, rfl, HJ, HG⟩
                      case round =>
                        clear HJ HG
                        obtain ⟨i, hi, rfl, HJ, HG⟩ := hrel
                        have hhd := HJ.out.1.hd Hs.out
                        simp only at hhd
                        by_cases hli : i < sn
                        · have hliI : (i : Int) < (sn : Int) := by omega
                          have hliI2 : (i : Int) < (sn : Int) + 64 := by omega
                          have hliI3 : (i : Int) < ((sn + 64 : Nat) : Int) := by omega
                          have hcG := HG.out.room.cellAt (k := k) (u := .slice gA2 (sn + 64) gc) (by rw [List.getElem?_map, Hgk.out]; rfl)
                          obtain ⟨_, ⟨l, hr, hm⟩, _⟩ := HG.out.at_ k _ _ hlt Hs.out Hgk.out
                          obtain ⟨g1, o1, x, rfl, hx, cx⟩ := rd_get hr (k := i) (by show i < sn + 64; omega)
                          obtain rfl := hm i x hli hx
                          unfold intz at cx
                          obtain ⟨l', h1, h2⟩ := HJ.out.1.at_ k _ Hs.out
                          rw [HL0.out] at h1
                          obtain rfl := Option.some.inj h1
                          obtain ⟨g2, o2, x', rfl, hx', cx'⟩ := rd_get (Room.rd h2) hli
                          rw [mkL_at hli] at hx'
                          obtain rfl := Option.some.inj hx'
                          unfold intz at cx'
                          have hee : (mkF k i == mkF k i) = true := by simp
                          have HMK := Lib.hid (fun w' => mark_ k i w' (by omega) (by omega))
                          clear hr hm hx h2 hx'
                          go_wp2_with fail
                          go_quiet ((go_at_call 85; exact (HMK.out _).mono fun _ _ h => ⟨h.1, _, h.2.symm⟩))
                          go_wp2_with fail
                          clear cx cx' hcG hhd
                          go_roundw
                          case rel => exact ⟨i + 1, by omega, by go_num, Lib.hid (HJ.out.x (by first | exact Ext.drewN _ _ | exact Ext.drew _)), Lib.hid (HG.out.x (by first | exact Ext.drewN _ _ | exact Ext.drew _))⟩
                          case measure => simp [intOf]; omega
                        · obtain rfl : i = sn := by omega
                          go_wp2_with fail
                          clear hhd
                          go_roundw
                          case rel => exact ⟨k + 1, by omega, by go_num, HJ, HG⟩
                          case measure => simp [intOf]; omega
                    · obtain rfl : n = k := by omega
                      have HF := Lib.hid HJ.out.2
                      clear HJ HG
                      go_wp2_with fail
                      go_ret
                      exact ⟨rfl, HF.out⟩
end Go.Proofs.Ytlneifgihdickaa
namespace Go.Proofs.Ytlneifgihdickaa
open Go.RowKit Go.Fx
set_option maxRecDepth 100000 in
set_option maxHeartbeats 1000000 in
theorem flat_t (w : World) : Calls Try.prog 76 #[.slice none 0 0] w fun e w' => e = .returned (.bool true) ∧ Ext w w' := by
  have hul : Try.prog.underlying 117 = some (.slice 147) := by kernel_rfl
  have hinfo : (Try.prog.info? 147).map (fun i => (i.zero, i.size, i.bytes)) = some (some (.slice none 0 0), 1, 24) := by kernel_rfl
  go_enter Try.func76, Try.ntmps76
  go_wp2_with fail
  go_loopw [3] (fun v w9 => v = .int .i64 0 ∧ Ext w w9) (fun _ _ => 0)
  case atStart => exact ⟨rfl, Ext.refl _⟩
  case round =>
    obtain ⟨rfl, e9⟩ := hrel
    go_wp2_with (refine wpl_makeN rfl rfl hul hinfo rfl (n := 0) rfl rfl rfl rfl (by omega) (by unfold maxLen; omega) ?_)
    intro G w3 r3 e3 ft3; refine Lib.hid ?_
    have E3 := Lib.hid (e9.t e3)
    clear r3 e3 ft3 e9
    go_wp2_with fail
    go_loopw [6] (fun v w9 => v = .int .i64 0 ∧ Ext w w9) (fun _ _ => 0)
    case atStart => exact ⟨rfl, E3.out⟩
    case round =>
      obtain ⟨rfl, e9⟩ := hrel
      have E3 := Lib.hid e9
      clear e9
      go_wp2_with fail
      go_loopw [9] (fun v w9 => v = .int .i64 0 ∧ Ext w w9) (fun _ _ => 0)
      case atStart => exact ⟨rfl, E3.out⟩
      case round =>
        obtain ⟨rfl, e9⟩ := hrel
        have E9 := Lib.hid e9
        clear e9
        go_wp2_with fail
        go_loopw [11] (fun v w9 => v = .int .i64 0 ∧ Ext w w9) (fun _ _ => 0)
        case atStart => exact ⟨rfl, E9.out⟩
        case round =>
          obtain ⟨rfl, e9⟩ := hrel
          have E9 := Lib.hid e9
          clear e9
          go_wp2_with fail
          go_loopw [14] (fun v w9 => v = .int .i64 0 ∧ Ext w w9) (fun _ _ => 0)
          case atStart => exact ⟨rfl, E9.out⟩
          case round =>
            obtain ⟨rfl, e9⟩ := hrel
            go_wp2_with fail
            go_ret
            exact ⟨rfl, e9⟩
set_option maxRecDepth 100000 in
set_option maxHeartbeats 1000000 in
theorem flat_b (w : World) : Calls Try.prog 77 #[.slice none 0 0] w fun e w' => e = .returned (.bool true) ∧ Ext w w' := by
  have hul : Try.prog.underlying 118 = some (.slice 42) := by kernel_rfl
  have hinfo : (Try.prog.info? 42).map (fun i => (i.zero, i.size, i.bytes)) = some (some (.slice none 0 0), 1, 24) := by kernel_rfl
  go_enter Try.func77, Try.ntmps77
  go_wp2_with fail
  go_loopw [3] (fun v w9 => v = .int .i64 0 ∧ Ext w w9) (fun _ _ => 0)
  case atStart => exact ⟨rfl, Ext.refl _⟩
  case round =>
    obtain ⟨rfl, e9⟩ := hrel
    go_wp2_with (refine wpl_makeN rfl rfl hul hinfo rfl (n := 0) rfl rfl rfl rfl (by omega) (by unfold maxLen; omega) ?_)
    intro G w3 r3 e3 ft3; refine Lib.hid ?_
    have E3 := Lib.hid (e9.t e3)
    clear r3 e3 ft3 e9
    go_wp2_with fail
    go_loopw [6] (fun v w9 => v = .int .i64 0 ∧ Ext w w9) (fun _ _ => 0)
    case atStart => exact ⟨rfl, E3.out⟩
    case round =>
      obtain ⟨rfl, e9⟩ := hrel
      have E3 := Lib.hid e9
      clear e9
      go_wp2_with fail
      go_loopw [9] (fun v w9 => v = .int .i64 0 ∧ Ext w w9) (fun _ _ => 0)
      case atStart => exact ⟨rfl, E3.out⟩
      case round =>
        obtain ⟨rfl, e9⟩ := hrel
        have E9 := Lib.hid e9
        clear e9
        go_wp2_with fail
        go_loopw [11] (fun v w9 => v = .int .i64 0 ∧ Ext w w9) (fun _ _ => 0)
        case atStart => exact ⟨rfl, E9.out⟩
        case round =>
          obtain ⟨rfl, e9⟩ := hrel
          have E9 := Lib.hid e9
          clear e9
          go_wp2_with fail
          go_loopw [14] (fun v w9 => v = .int .i64 0 ∧ Ext w w9) (fun _ _ => 0)
          case atStart => exact ⟨rfl, E9.out⟩
          case round =>
            obtain ⟨rfl, e9⟩ := hrel
            go_wp2_with fail
            go_ret
            exact ⟨rfl, e9⟩
set_option maxRecDepth 100000 in
set_option maxHeartbeats 1000000 in
theorem flat_w (w : World) : Calls Try.prog 78 #[.slice none 0 0] w fun e w' => e = .returned (.bool true) ∧ Ext w w' := by
  have hul : Try.prog.underlying 119 = some (.slice 150) := by kernel_rfl
  have hinfo : (Try.prog.info? 150).map (fun i => (i.zero, i.size, i.bytes)) = some (some (.slice none 0 0), 1, 24) := by kernel_rfl
  go_enter Try.func78, Try.ntmps78
  go_wp2_with fail
  go_loopw [3] (fun v w9 => v = .int .i64 0 ∧ Ext w w9) (fun _ _ => 0)
  case atStart => exact ⟨rfl, Ext.refl _⟩
  case round =>
    obtain ⟨rfl, e9⟩ := hrel
    go_wp2_with (refine wpl_makeN rfl rfl hul hinfo rfl (n := 0) rfl rfl rfl rfl (by omega) (by unfold maxLen; omega) ?_)
    intro G w3 r3 e3 ft3; refine Lib.hid ?_
    have E3 := Lib.hid (e9.t e3)
    clear r3 e3 ft3 e9
    go_wp2_with fail
    go_loopw [6] (fun v w9 => v = .int .i64 0 ∧ Ext w w9) (fun _ _ => 0)
    case atStart => exact ⟨rfl, E3.out⟩
    case round =>
      obtain ⟨rfl, e9⟩ := hrel
      have E3 := Lib.hid e9
      clear e9
      go_wp2_with fail
      go_loopw [9] (fun v w9 => v = .int .i64 0 ∧ Ext w w9) (fun _ _ => 0)
      case atStart => exact ⟨rfl, E3.out⟩
      case round =>
        obtain ⟨rfl, e9⟩ := hrel
        have E9 := Lib.hid e9
        clear e9
        go_wp2_with fail
        go_loopw [11] (fun v w9 => v = .int .i64 0 ∧ Ext w w9) (fun _ _ => 0)
        case atStart => exact ⟨rfl, E9.out⟩
        case round =>
          obtain ⟨rfl, e9⟩ := hrel
          have E9 := Lib.hid e9
          clear e9
          go_wp2_with fail
          go_loopw [14] (fun v w9 => v = .int .i64 0 ∧ Ext w w9) (fun _ _ => 0)
          case atStart => exact ⟨rfl, E9.out⟩
          case round =>
            obtain ⟨rfl, e9⟩ := hrel
            go_wp2_with fail
            go_ret
            exact ⟨rfl, e9⟩
set_option maxRecDepth 100000 in
set_option maxHeartbeats 1000000 in
theorem flat_n (w : World) : Calls Try.prog 79 #[.slice none 0 0] w fun e w' => e = .returned (.bool true) ∧ Ext w w' := by
  have hul : Try.prog.underlying 120 = some (.slice 152) := by kernel_rfl
  have hinfo : (Try.prog.info? 152).map (fun i => (i.zero, i.size, i.bytes)) = some (some (.slice none 0 0), 1, 24) := by kernel_rfl
  go_enter Try.func79, Try.ntmps79
  go_wp2_with fail
  go_loopw [3] (fun v w9 => v = .int .i64 0 ∧ Ext w w9) (fun _ _ => 0)
  case atStart => exact ⟨rfl, Ext.refl _⟩
  case round =>
    obtain ⟨rfl, e9⟩ := hrel
    go_wp2_with (refine wpl_makeN rfl rfl hul hinfo rfl (n := 0) rfl rfl rfl rfl (by omega) (by unfold maxLen; omega) ?_)
    intro G w3 r3 e3 ft3; refine Lib.hid ?_
    have E3 := Lib.hid (e9.t e3)
    clear r3 e3 ft3 e9
    go_wp2_with fail
    go_loopw [6] (fun v w9 => v = .int .i64 0 ∧ Ext w w9) (fun _ _ => 0)
    case atStart => exact ⟨rfl, E3.out⟩
    case round =>
      obtain ⟨rfl, e9⟩ := hrel
      have E3 := Lib.hid e9
      clear e9
      go_wp2_with fail
      go_loopw [9] (fun v w9 => v = .int .i64 0 ∧ Ext w w9) (fun _ _ => 0)
      case atStart => exact ⟨rfl, E3.out⟩
      case round =>
        obtain ⟨rfl, e9⟩ := hrel
        have E9 := Lib.hid e9
        clear e9
        go_wp2_with fail
        go_loopw [11] (fun v w9 => v = .int .i64 0 ∧ Ext w w9) (fun _ _ => 0)
        case atStart => exact ⟨rfl, E9.out⟩
        case round =>
          obtain ⟨rfl, e9⟩ := hrel
          have E9 := Lib.hid e9
          clear e9
          go_wp2_with fail
          go_loopw [14] (fun v w9 => v = .int .i64 0 ∧ Ext w w9) (fun _ _ => 0)
          case atStart => exact ⟨rfl, E9.out⟩
          case round =>
            obtain ⟨rfl, e9⟩ := hrel
            go_wp2_with fail
            go_ret
            exact ⟨rfl, e9⟩
set_option maxRecDepth 100000 in
set_option maxHeartbeats 1000000 in
theorem flat_li (w : World) : Calls Try.prog 80 #[.slice none 0 0] w fun e w' => e = .returned (.bool true) ∧ Ext w w' := by
  have hul : Try.prog.underlying 121 = some (.slice 69) := by kernel_rfl
  have hinfo : (Try.prog.info? 69).map (fun i => (i.zero, i.size, i.bytes)) = some (some (.slice none 0 0), 1, 24) := by kernel_rfl
  go_enter Try.func80, Try.ntmps80
  go_wp2_with fail
  go_loopw [3] (fun v w9 => v = .int .i64 0 ∧ Ext w w9) (fun _ _ => 0)
  case atStart => exact ⟨rfl, Ext.refl _⟩
  case round =>
    obtain ⟨rfl, e9⟩ := hrel
    go_wp2_with (refine wpl_makeN rfl rfl hul hinfo rfl (n := 0) rfl rfl rfl rfl (by omega) (by unfold maxLen; omega) ?_)
    intro G w3 r3 e3 ft3; refine Lib.hid ?_
    have E3 := Lib.hid (e9.t e3)
    clear r3 e3 ft3 e9
    go_wp2_with fail
    go_loopw [6] (fun v w9 => v = .int .i64 0 ∧ Ext w w9) (fun _ _ => 0)
    case atStart => exact ⟨rfl, E3.out⟩
    case round =>
      obtain ⟨rfl, e9⟩ := hrel
      have E3 := Lib.hid e9
      clear e9
      go_wp2_with fail
      go_loopw [9] (fun v w9 => v = .int .i64 0 ∧ Ext w w9) (fun _ _ => 0)
      case atStart => exact ⟨rfl, E3.out⟩
      case round =>
        obtain ⟨rfl, e9⟩ := hrel
        have E9 := Lib.hid e9
        clear e9
        go_wp2_with fail
        go_loopw [11] (fun v w9 => v = .int .i64 0 ∧ Ext w w9) (fun _ _ => 0)
        case atStart => exact ⟨rfl, E9.out⟩
        case round =>
          obtain ⟨rfl, e9⟩ := hrel
          have E9 := Lib.hid e9
          clear e9
          go_wp2_with fail
          go_loopw [14] (fun v w9 => v = .int .i64 0 ∧ Ext w w9) (fun _ _ => 0)
          case atStart => exact ⟨rfl, E9.out⟩
          case round =>
            obtain ⟨rfl, e9⟩ := hrel
            go_wp2_with fail
            go_ret
            exact ⟨rfl, e9⟩
set_option maxRecDepth 100000 in
set_option maxHeartbeats 1000000 in
theorem flat_lt (w : World) : Calls Try.prog 81 #[.slice none 0 0] w fun e w' => e = .returned (.bool true) ∧ Ext w w' := by
  have hul : Try.prog.underlying 122 = some (.slice 117) := by kernel_rfl
  have hinfo : (Try.prog.info? 117).map (fun i => (i.zero, i.size, i.bytes)) = some (some (.slice none 0 0), 1, 24) := by kernel_rfl
  go_enter Try.func81, Try.ntmps81
  go_wp2_with fail
  go_loopw [3] (fun v w9 => v = .int .i64 0 ∧ Ext w w9) (fun _ _ => 0)
  case atStart => exact ⟨rfl, Ext.refl _⟩
  case round =>
    obtain ⟨rfl, e9⟩ := hrel
    go_wp2_with (refine wpl_makeN rfl rfl hul hinfo rfl (n := 0) rfl rfl rfl rfl (by omega) (by unfold maxLen; omega) ?_)
    intro G w3 r3 e3 ft3; refine Lib.hid ?_
    have E3 := Lib.hid (e9.t e3)
    clear r3 e3 ft3 e9
    go_wp2_with fail
    go_loopw [6] (fun v w9 => v = .int .i64 0 ∧ Ext w w9) (fun _ _ => 0)
    case atStart => exact ⟨rfl, E3.out⟩
    case round =>
      obtain ⟨rfl, e9⟩ := hrel
      have E3 := Lib.hid e9
      clear e9
      go_wp2_with fail
      go_loopw [9] (fun v w9 => v = .int .i64 0 ∧ Ext w w9) (fun _ _ => 0)
      case atStart => exact ⟨rfl, E3.out⟩
      case round =>
        obtain ⟨rfl, e9⟩ := hrel
        have E9 := Lib.hid e9
        clear e9
        go_wp2_with fail
        go_loopw [11] (fun v w9 => v = .int .i64 0 ∧ Ext w w9) (fun _ _ => 0)
        case atStart => exact ⟨rfl, E9.out⟩
        case round =>
          obtain ⟨rfl, e9⟩ := hrel
          have E9 := Lib.hid e9
          clear e9
          go_wp2_with fail
          go_loopw [14] (fun v w9 => v = .int .i64 0 ∧ Ext w w9) (fun _ _ => 0)
          case atStart => exact ⟨rfl, E9.out⟩
          case round =>
            obtain ⟨rfl, e9⟩ := hrel
            go_wp2_with fail
            go_ret
            exact ⟨rfl, e9⟩
set_option maxRecDepth 100000 in
set_option maxHeartbeats 1000000 in
theorem flat_lb (w : World) : Calls Try.prog 82 #[.slice none 0 0] w fun e w' => e = .returned (.bool true) ∧ Ext w w' := by
  have hul : Try.prog.underlying 123 = some (.slice 118) := by kernel_rfl
  have hinfo : (Try.prog.info? 118).map (fun i => (i.zero, i.size, i.bytes)) = some (some (.slice none 0 0), 1, 24) := by kernel_rfl
  go_enter Try.func82, Try.ntmps82
  go_wp2_with fail
  go_loopw [3] (fun v w9 => v = .int .i64 0 ∧ Ext w w9) (fun _ _ => 0)
  case atStart => exact ⟨rfl, Ext.refl _⟩
  case round =>
    obtain ⟨rfl, e9⟩ := hrel
    go_wp2_with (refine wpl_makeN rfl rfl hul hinfo rfl (n := 0) rfl rfl rfl rfl (by omega) (by unfold maxLen; omega) ?_)
    intro G w3 r3 e3 ft3; refine Lib.hid ?_
    have E3 := Lib.hid (e9.t e3)
    clear r3 e3 ft3 e9
    go_wp2_with fail
    go_loopw [6] (fun v w9 => v = .int .i64 0 ∧ Ext w w9) (fun _ _ => 0)
    case atStart => exact ⟨rfl, E3.out⟩
    case round =>
      obtain ⟨rfl, e9⟩ := hrel
      have E3 := Lib.hid e9
      clear e9
      go_wp2_with fail
      go_loopw [9] (fun v w9 => v = .int .i64 0 ∧ Ext w w9) (fun _ _ => 0)
      case atStart => exact ⟨rfl, E3.out⟩
      case round =>
        obtain ⟨rfl, e9⟩ := hrel
        have E9 := Lib.hid e9
        clear e9
        go_wp2_with fail
        go_loopw [11] (fun v w9 => v = .int .i64 0 ∧ Ext w w9) (fun _ _ => 0)
        case atStart => exact ⟨rfl, E9.out⟩
        case round =>
          obtain ⟨rfl, e9⟩ := hrel
          have E9 := Lib.hid e9
          clear e9
          go_wp2_with fail
          go_loopw [14] (fun v w9 => v = .int .i64 0 ∧ Ext w w9) (fun _ _ => 0)
          case atStart => exact ⟨rfl, E9.out⟩
          case round =>
            obtain ⟨rfl, e9⟩ := hrel
            go_wp2_with fail
            go_ret
            exact ⟨rfl, e9⟩
/-- A bag of lists of numbers. -/
def bagC (s : Sl) : List Value := [slv s, .slice none 0 0, .slice none 0 0, .slice none 0 0, .slice none 0 0, .slice none 0 0, .slice none 0 0, .slice none 0 0]
theorem bag_cells {W : World} {g : Nat} {t : TypeId} {s : Sl} (h : Blk W g t (bagC s).toArray) : W.cell? ⟨g, 0, none⟩ = some (.slice s.A s.n s.c) ∧ W.cell? ⟨g, 1, none⟩ = some (.slice none 0 0) ∧ W.cell? ⟨g, 2, none⟩ = some (.slice none 0 0) ∧ W.cell? ⟨g, 3, none⟩ = some (.slice none 0 0) ∧ W.cell? ⟨g, 4, none⟩ = some (.slice none 0 0) ∧ W.cell? ⟨g, 5, none⟩ = some (.slice none 0 0) ∧ W.cell? ⟨g, 6, none⟩ = some (.slice none 0 0) ∧ W.cell? ⟨g, 7, none⟩ = some (.slice none 0 0) := by
  refine ⟨?_, ?_, ?_, ?_, ?_, ?_, ?_, ?_⟩ <;> (rw [h.cell]; rfl)
set_option maxRecDepth 100000 in
set_option maxHeartbeats 4000000 in
theorem bagApart (g : Nat) (n c : Nat) (A : Option Addr) (ss : List Sl) (ls : List (List Int)) (B : Nat) (w : World) (hg : Blk w g 125 (bagC ⟨A, n, c⟩).toArray) (h : Lsi intz B w A n c ss ls) (hgs : ¬ foots ss g) (hn0 : 0 < n) (hn : n ≤ 1000) (hb : ∀ s ∈ ss, s.n ≤ 100000) :
    Calls Try.prog 70 #[.pointer (some ⟨g, 0, none⟩)] w fun e w' => e = .returned (.bool true) ∧ Chg (fun q => foots ss q) w w' := by
  obtain ⟨c0, c1, c2, c3, c4, c5, c6, c7⟩ := bag_cells hg
  have HF := Lib.hid (flat_ A n c ss ls B w h hn0 hn hb)
  have HG := Lib.hid (fun w' (ch : Chg (fun q => foots ss q) w w') => hg.chg ch hgs)
  simp only at c0
  clear hg h hgs hb
  go_enter Try.func70, Try.ntmps70
  go_wp2_with fail
  refine HF.out.mono ?_; rintro e w1 ⟨rfl, ch⟩
  have HC := Lib.hid ch
  clear ch HF c0 c1 c2 c3 c4 c5 c6 c7
  obtain ⟨c0, c1, c2, c3, c4, c5, c6, c7⟩ := bag_cells (HG.out _ HC.out)
  go_wp2_with fail
  refine (flat_t _).mono ?_; rintro e w2 ⟨rfl, xa⟩
  replace HC := Lib.hid (HC.out.t ((Chg.ofExt xa).mono (fun _ _ (t : False) => t.elim)))
  clear xa c0 c1 c2 c3 c4 c5 c6 c7
  obtain ⟨c0, c1, c2, c3, c4, c5, c6, c7⟩ := bag_cells (HG.out _ HC.out)
  go_wp2_with fail
  refine (flat_b _).mono ?_; rintro e w3 ⟨rfl, xa⟩
  replace HC := Lib.hid (HC.out.t ((Chg.ofExt xa).mono (fun _ _ (t : False) => t.elim)))
  clear xa c0 c1 c2 c3 c4 c5 c6 c7
  obtain ⟨c0, c1, c2, c3, c4, c5, c6, c7⟩ := bag_cells (HG.out _ HC.out)
  go_wp2_with fail
  refine (flat_w _).mono ?_; rintro e w4 ⟨rfl, xa⟩
  replace HC := Lib.hid (HC.out.t ((Chg.ofExt xa).mono (fun _ _ (t : False) => t.elim)))
  clear xa c0 c1 c2 c3 c4 c5 c6 c7
  obtain ⟨c0, c1, c2, c3, c4, c5, c6, c7⟩ := bag_cells (HG.out _ HC.out)
  go_wp2_with fail
  refine (flat_n _).mono ?_; rintro e w5 ⟨rfl, xa⟩
  replace HC := Lib.hid (HC.out.t ((Chg.ofExt xa).mono (fun _ _ (t : False) => t.elim)))
  clear xa c0 c1 c2 c3 c4 c5 c6 c7
  obtain ⟨c0, c1, c2, c3, c4, c5, c6, c7⟩ := bag_cells (HG.out _ HC.out)
  go_wp2_with fail
  refine (flat_li _).mono ?_; rintro e w6 ⟨rfl, xa⟩
  replace HC := Lib.hid (HC.out.t ((Chg.ofExt xa).mono (fun _ _ (t : False) => t.elim)))
  clear xa c0 c1 c2 c3 c4 c5 c6 c7
  obtain ⟨c0, c1, c2, c3, c4, c5, c6, c7⟩ := bag_cells (HG.out _ HC.out)
  go_wp2_with fail
  refine (flat_lt _).mono ?_; rintro e w7 ⟨rfl, xa⟩
  replace HC := Lib.hid (HC.out.t ((Chg.ofExt xa).mono (fun _ _ (t : False) => t.elim)))
  clear xa c0 c1 c2 c3 c4 c5 c6 c7
  obtain ⟨c0, c1, c2, c3, c4, c5, c6, c7⟩ := bag_cells (HG.out _ HC.out)
  go_wp2_with fail
  refine (flat_lb _).mono ?_; rintro e w8 ⟨rfl, xa⟩
  replace HC := Lib.hid (HC.out.t ((Chg.ofExt xa).mono (fun _ _ (t : False) => t.elim)))
  clear xa c0 c1 c2 c3 c4 c5 c6 c7
  go_wp2_with fail
  go_ret
  exact ⟨rfl, HC.out⟩
/-- A list that is put into a bag. -/
structure BgJ (w : World) (g : Nat) (A : Option Addr) (n c : Nat) (ss : List Sl) (W : World) : Prop where
  bg : Blk W g 125 (bagC ⟨A, n, c⟩).toArray
  room : Room W A n c (ss.map slv)
  ext : Ext w W
  lo : w.heap.size ≤ g
  fa : ∀ q, foot A c q → w.heap.size ≤ q ∧ q ≠ g
theorem bgj_x {w W W' : World} {g : Nat} {A : Option Addr} {n c : Nat} {ss : List Sl} (h : BgJ w g A n c ss W) (e : Ext W W') : BgJ w g A n c ss W' := ⟨h.bg.ext e, h.room.ext e, h.ext.t e, h.lo, h.fa⟩
set_option maxRecDepth 100000 in
set_option maxHeartbeats 1000000 in
theorem putInts_ (g : Nat) (A : Option Addr) (n c : Nat) (ss : List Sl) (s : Sl) (w0 w : World) (h : BgJ w0 g A n c ss w) (hn : n ≤ 1000) :
    Calls Try.prog 69 #[.pointer (some ⟨g, 0, none⟩), .slice s.A s.n s.c] w fun e w' => ∃ A' c', e = .returned (.tuple #[]) ∧ BgJ w0 g A' (n + 1) c' (ss ++ [s]) w' := by
  obtain ⟨c0, _⟩ := bag_cells h.bg
  have f0 := h.bg.frozen 0
  have H := Lib.hid h
  simp only at c0
  clear h
  go_enter Try.func69, Try.ntmps69
  go_wp2_with (refine wpl_build (by rfl) rfl ul_ii info_ii [.tmp 9] (by rfl) (by rfl) (by decide) (f := slv) [s] (by rfl) (fun _ => rfl) ?_)
  intro g3 w3 y1 xa lo1 r1; refine Lib.hid ?_
  have H3 := Lib.hid (bgj_x H.out xa)
  have RV := Lib.hid r1
  clear y1 xa lo1 r1 H c0 f0
  go_wp2_with (refine wpl_append_at (by rfl) rfl ul_ii info_ii rfl rfl H3.out.room rfl (Src.ofRd ul_ii RV.out (fun _ => rfl)) (by simp only [maxLen]; omega) (by omega) ?_)
  intro A4 c4 w4 r4 ch4 ft4; refine Lib.hid ?_
  have hng : ¬ foot A c g := fun hf => (H3.out.fa g hf).2 rfl
  have hb4 := H3.out.bg.chg ch4 hng
  obtain ⟨c0, _⟩ := bag_cells hb4
  have f0 := hb4.frozen 0
  simp only at c0
  have HB : Hid (BgJ w0 g A4 (n + 1) c4 (ss ++ [s]) (w4.setCell ⟨g, 0, none⟩ (.slice A4 (n + 1) c4))) := Lib.hid (by
    have cs := Chg.set w4 g 0 (.slice A4 (n + 1) c4) (T := fun q => q = g) rfl
    have hx := H3.out.ext
    have hgl := H3.out.bg.lt
    have hfa : ∀ q, foot A4 c4 q → w0.heap.size ≤ q ∧ q ≠ g := fun q hq => (ft4 q hq).elim (H3.out.fa q) (fun h1 => ⟨by have := hx.size; omega, by omega⟩)
    refine ⟨?_, ?_, ?_, H3.out.lo, hfa⟩
    · have h5 := hb4.set_ 0 (.slice A4 (n + 1) c4)
      exact h5
    · have h5 : Room w4 A4 (n + 1) c4 ((ss ++ [s]).map slv) := by rw [List.map_append]; exact r4
      exact h5.chg cs (fun q hq e => (hfa q hq).2 e)
    · exact (hx.trans (ch4.below hx.size (fun q hq hf => by have := (H3.out.fa q hf).1; omega))).trans (cs.below (Nat.le_trans hx.size ch4.size) (fun q hq e => by have := H3.out.lo; omega)))
  clear r4 ch4 ft4 H3 RV hb4 hng
  go_wp2_with fail
  go_end0
  exact ⟨A4, c4, rfl, HB.out⟩
set_option maxRecDepth 100000 in
set_option maxHeartbeats 2000000 in
theorem apart_ (A : Option Addr) (n c : Nat) (ss : List Sl) (ls : List (List Int)) (B : Nat) (w : World) (h : Lsi intz B w A n c ss ls) (hn0 : 0 < n) (hn : n ≤ 1000) (hb : ∀ s ∈ ss, s.n ≤ 100000) :
    Calls Try.prog 51 #[.slice A n c] w fun e w' => e = .returned (.bool true) ∧ Chg (fun q => foots ss q) w w' := by
  obtain ⟨gA, oA, hA, _⟩ := h.room.some_ (by have := h.room.2.1; omega)
  subst hA
  have H := Lib.hid h
  have HB := Lib.hid hb
  have HSL := Lib.hid h.sl_len
  have HB0 := Lib.hid (Blk.new w 125 (bagC ⟨none, 0, 0⟩).toArray)
  obtain ⟨g, hg⟩ : ∃ g, g = w.heap.size := ⟨_, rfl⟩
  obtain ⟨w1, hw1⟩ : ∃ w1, w1 = w.alloc (.cells (bagC ⟨none, 0, 0⟩).toArray 125) := ⟨_, rfl⟩
  rw [← hg, ← hw1] at HB0
  have HJ : Hid (BgJ w g none 0 0 [] w1) := Lib.hid ⟨HB0.out, Room.nil, by rw [hw1]; exact Ext.alloc _ _, by omega, fun q hq => absurd hq foot_none⟩
  have HG := Lib.hid hg
  have HW := Lib.hid hw1
  clear h hb hg hw1 HB0
  go_enter Try.func51, Try.ntmps51
  go_wp2_with fail
  change Code.wp _ _ _ _ (w.alloc (.cells (bagC ⟨none, 0, 0⟩).toArray 125))
  rw [← HW.out, ← HG.out]
  clear HW HG
  go_loopw [4] (fun v4 wr => ∃ (k : Nat) (Ab : Option Addr) (cb : Nat), k ≤ n ∧ v4 = .int .i64 (k : Int) ∧ Hid (BgJ w g Ab k cb (ss.take k) wr)) (fun v _ => n - (intOf v).toNat)
  case atStart => exact ⟨0, none, 0, by omega, rfl, HJ⟩
  case round =>
    clear HJ
    obtain ⟨k, Ab, cb, hk, rfl, HJ⟩ := hrel
    by_cases hlt : k < n
    · have hltI : (k : Int) < (n : Int) := by omega
      obtain ⟨s, hs⟩ : ∃ s, ss[k]? = some s := ⟨_, List.getElem?_eq_getElem (by rw [HSL.out]; exact hlt)⟩
      have hhd := (H.out.ext HJ.out.ext).hd hs
      have HP := Lib.hid (putInts_ g Ab k cb (ss.take k) s w wr HJ.out (by omega))
      rw [← take_snoc hs] at HP
      clear hs HJ
      go_wp2_with fail
      refine HP.out.mono ?_; rintro e w2 ⟨A2, c2, rfl, h2⟩
      have HJ2 := Lib.hid h2
      clear h2 HP hhd
      go_wp2_with fail
      go_roundw
      case rel => exact ⟨k + 1, A2, c2, by omega, by go_num, HJ2⟩
      case measure => simp [intOf]; omega
    · obtain rfl : n = k := by omega
      rw [List.take_of_length_le (by rw [HSL.out]; exact Nat.le_refl _)] at HJ
      have HL : Hid (Lsi intz 0 wr Ab n cb ss ls) := Lib.hid ⟨HJ.out.room, H.out.len, (H.out.ext HJ.out.ext).at_, fun _ _ => Nat.zero_le _, fun q hq hf => by
        have h1 := H.out.lt (.inr hq)
        have h2 := (HJ.out.fa q hf).1
        omega, H.out.apart⟩
      have HP := Lib.hid (bagApart g n cb Ab ss ls 0 wr HJ.out.bg HL.out (fun hf => by
        have h1 := H.out.lt (.inr hf)
        have h2 := HJ.out.lo
        omega) hn0 hn HB.out)
      go_wp2_with fail
      refine HP.out.mono ?_; rintro e w2 ⟨rfl, ch⟩
      have HC := Lib.hid (((Chg.ofExt HJ.out.ext).mono (fun _ _ (t : False) => t.elim)).t ch)
      clear ch HP HL HJ
      go_wp2_with fail
      go_ret
      exact ⟨rfl, HC.out⟩
end Go.Proofs.Ytlneifgihdickaa
