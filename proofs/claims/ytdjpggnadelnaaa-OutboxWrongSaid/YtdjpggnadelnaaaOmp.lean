/- Omp: for OutboxMerged: the merge of outboxes of different sources; lists of pointers to outboxes. -/
import Derived.Test.YtdjpggnadelnaaaObg
import Derived.Test.YtdjpggnadelnaaaOss
import Derived.Test.YtdjpggnadelnaaaEcl
import Derived.Deep.CutRange
import Derived.WalkSpells
namespace Go.Fx
open Go.RowKit
theorem flatMap_perm {α : Type} {f g : α → List Ev} : ∀ (l : List α), (∀ x ∈ l, (f x).Perm (g x)) → (l.flatMap f).Perm (l.flatMap g)
  | [], _ => List.Perm.nil
  | x :: xs, h => by
    rw [List.flatMap_cons, List.flatMap_cons]
    exact (h x (by simp)).append (flatMap_perm xs (fun y hy => h y (by simp [hy])))
/-- Outboxes of different sources: Merge tells their events in order. -/
theorem mgB_ok {pr : List (Int × List Ev)} (hnd : (pr.map Prod.fst).Nodup) (hb : BsOk (pr.map some)) {r : List Ev × Int × Nat} (h : MgB (pr.map some) r) : r = (isort (pr.flatMap Prod.snd), -1, 0) := by
  have hz : ∀ i, i < (pr.map some).length → badB (pr.map some) i = 0 := fun i hi => by
    rw [List.length_map] at hi
    unfold badB
    rw [List.getElem?_map, List.getElem?_eq_getElem hi]
    simp only [Option.map_some]
    rw [if_neg]
    intro hm
    unfold srcs at hm
    rw [← List.map_take, List.filterMap_map] at hm
    simp only [List.mem_filterMap, Function.comp, Option.map_some, Option.some.injEq] at hm
    obtain ⟨y, hy, he⟩ := hm
    obtain ⟨j, hj, rfl⟩ := List.getElem_of_mem hy
    rw [List.length_take] at hj
    rw [List.getElem_take] at he
    have h1 := (List.pairwise_iff_getElem.1 hnd) j i (by rw [List.length_map]; omega) (by rw [List.length_map]; exact hi) (by omega)
    rw [List.getElem_map, List.getElem_map] at h1
    exact h1 he
  rcases h with ⟨_, rfl⟩ | ⟨o, ho, _, hne, _⟩
  · have hd := (lsB_all hb _ hz).2.1
    rw [isort_perm_eq hd]
    have hl : lsB (pr.map some) (pr.map some).length = pr.map (fun y => isort y.2) := by
      refine List.ext_getElem? (fun i => ?_)
      unfold lsB
      rw [List.getElem?_map, List.getElem?_map, List.length_map]
      by_cases hi : i < pr.length
      · rw [List.getElem?_range hi, List.getElem?_eq_getElem hi]
        simp only [Option.map_some]
        unfold evB
        rw [List.getElem?_map, List.getElem?_eq_getElem hi]
        rfl
      · rw [List.getElem?_eq_none (by rw [List.length_range]; omega), List.getElem?_eq_none (by omega)]
        rfl
    rw [hl, ← List.flatMap_def]
    exact flatMap_perm _ (fun y _ => isort_perm y.2)
  · exact absurd (hz o ho) hne
/-- The events of outbox k, in the law. -/
def ownF (z : List (Sl × List Sb)) (e : Int) (k : Nat) : List Ev := match z[k]? with
  | some y => madeF ((k : Int) + 1) e 0 (y.2.take 20)
  | none => []
def prF (z : List (Sl × List Sb)) (e : Int) (k : Nat) : List (Int × List Ev) := (List.range k).map (fun (i : Nat) => ((i : Int) + 1, ownF z e i))
def evF (z : List (Sl × List Sb)) (e : Int) (k : Nat) : List Ev := (prF z e k).flatMap Prod.snd
theorem prF_len (z : List (Sl × List Sb)) (e : Int) (k : Nat) : (prF z e k).length = k := by simp [prF]
theorem prF_succ (z : List (Sl × List Sb)) (e : Int) (k : Nat) : prF z e (k + 1) = prF z e k ++ [((k : Int) + 1, ownF z e k)] := by
  unfold prF
  rw [List.range_succ, List.map_append]
  rfl
theorem evF_succ (z : List (Sl × List Sb)) (e : Int) (k : Nat) : evF z e (k + 1) = evF z e k ++ ownF z e k := by
  unfold evF
  rw [prF_succ, List.flatMap_append, List.flatMap_cons, List.flatMap_nil, List.append_nil]
section
variable {z : List (Sl × List Sb)} {e : Int} (hz : ∀ y ∈ z, ∀ x ∈ y.2, SbOk x) (he : 0 ≤ e) (he2 : e ≤ 65535)
include hz he he2
theorem ownF_ok {k : Nat} (hk : k ≤ 5) : (ownF z e k).length ≤ 20 ∧ okP ((k : Int) + 1) e (-1) (ownF z e k) = true ∧ ∀ x ∈ ownF z e k, EvOk x := by
  unfold ownF
  split
  · next y hy =>
    refine ⟨by rw [madeF_len, List.length_take]; omega, madeF_ok (by omega) (by omega) he (by omega) (by omega) _ _ _ (by omega) (by rw [List.length_take]; omega), madeF_evok (by omega) (by omega) (by omega) (by omega) _ _ (fun x hx => hz y (List.mem_of_getElem? hy) x (List.mem_of_mem_take hx)) (by rw [List.length_take]; omega)⟩
  · exact ⟨by simp, rfl, by simp⟩
theorem prF_bs {k : Nat} (hk : k ≤ 6) : BsOk ((prF z e k).map some) := fun i s l h => by
  rw [List.getElem?_map] at h
  obtain ⟨y, hy, h2⟩ := Option.map_eq_some_iff.1 h
  cases h2
  unfold prF at hy
  rw [List.getElem?_map] at hy
  obtain ⟨j, hj, h3⟩ := Option.map_eq_some_iff.1 hy
  cases h3
  have hjk := List.mem_range.1 (List.mem_of_getElem? hj)
  obtain ⟨h4, h5, h6⟩ := ownF_ok hz he he2 (k := j) (by omega)
  exact ⟨okP_dif h5, by omega, fun x hx => ⟨(okP_good h5 x hx).2.2.2.1, h6 x hx⟩⟩
theorem evF_ok : ∀ {k : Nat}, k ≤ 6 → Dif (evF z e k) ∧ (evF z e k).length ≤ 20 * k ∧ (∀ x ∈ evF z e k, EvOk x ∧ x.s ≤ (k : Int))
  | 0, _ => ⟨List.Pairwise.nil, by simp [evF, prF], by simp [evF, prF]⟩
  | k + 1, hk => by
    obtain ⟨h1, h2, h3⟩ := evF_ok (k := k) (by omega)
    obtain ⟨h4, h5, h6⟩ := ownF_ok hz he he2 (k := k) (by omega)
    rw [evF_succ]
    refine ⟨List.pairwise_append.2 ⟨h1, okP_dif h5, fun x hx y hy hxy => ?_⟩, by rw [List.length_append]; omega, fun x hx => ?_⟩
    · have h7 := (h3 x hx).2
      have h8 := (okP_good h5 y hy).2.2.2.1
      have h9 : x.s = y.s := congrArg Ky.s hxy
      omega
    · rcases List.mem_append.1 hx with hx | hx
      · exact ⟨(h3 x hx).1, by have := (h3 x hx).2; omega⟩
      · exact ⟨h6 x hx, by have := (okP_good h5 x hx).2.2.2.1; omega⟩
end
theorem prF_nodup (z : List (Sl × List Sb)) (e : Int) (k : Nat) : ((prF z e k).map Prod.fst).Nodup := by
  unfold prF
  rw [List.map_map]
  refine List.pairwise_map.2 ((List.nodup_range (n := k)).imp ?_)
  intro a b hab h
  simp only [Function.comp] at h
  omega
/-- The outboxes from any of them on. -/
theorem turn_mg {pr : List (Int × List Ev)} (hnd : (pr.map Prod.fst).Nodup) (hb : BsOk (pr.map some)) (hd : Dif (pr.flatMap Prod.snd)) {k : Nat} {r : List Ev × Int × Nat} (h : MgB ((pr.map some).drop k ++ (pr.map some).take k) r) : r = (isort (pr.flatMap Prod.snd), -1, 0) := by
  have hp : (pr.drop k ++ pr.take k).Perm pr := by
    refine List.perm_append_comm.trans ?_
    rw [List.take_append_drop]
  rw [← List.map_drop, ← List.map_take, ← List.map_append] at h
  have hb2 : BsOk ((pr.drop k ++ pr.take k).map some) := fun i s l hi => by
    have hm := ((hp.map some).mem_iff).1 (List.mem_of_getElem? hi)
    obtain ⟨j, hj⟩ := List.getElem?_of_mem hm
    exact hb j s l hj
  rw [mgB_ok (((hp.map Prod.fst).nodup_iff).2 hnd) hb2 h]
  have h3 : (pr.flatMap Prod.snd).Perm ((pr.drop k ++ pr.take k).flatMap Prod.snd) := by
    rw [List.flatMap_append]
    refine List.Perm.trans ?_ List.perm_append_comm
    rw [← List.flatMap_append, List.take_append_drop]
  rw [isort_perm_eq hd h3]
end Go.Fx
namespace Go.Proofs.Ytdjpggnadelnaaa
open Go.RowKit Go.Fx
theorem ul_bx : Try.prog.underlying 25 = some (.slice 29) := by kernel_rfl
theorem info_bx : (Try.prog.info? 29).map (fun i => (i.zero, i.size, i.bytes)) = some (some (.pointer none), 1, 8) := by kernel_rfl
set_option maxHeartbeats 1000000 in
theorem cloneB (A : Option Addr) (n c : Nat) {α : Type} {f : α → List Value} (hf : ∀ x, (f x).length = 1) (h1 : ∀ x, ∀ u ∈ f x, u.oneCell' = true) (xs : List α) (w : World) (h : RdS 1 f w A n xs) (hn : n ≤ 1000000000) :
    Calls Try.prog 14 #[.slice A n c] w (ClnP 1 n (xs.flatMap f) w) := by
  cases A with
  | none =>
    have hn0 : n = 0 := by
      rcases Nat.eq_zero_or_pos n with h0 | h0
      · exact h0
      · obtain ⟨b, o, e⟩ := h.some_ h0; cases e
    subst hn0
    obtain rfl : xs = [] := List.eq_nil_of_length_eq_zero h.1
    have hq := fun w' => Lib.run_eql_slice_nil (P := Try.prog) w' 25 29 none 0 c 0 0 ul_bx
    simp only [Option.isNone_none] at hq
    clear h
    go_enter Try.func14, Try.ntmps14
    go_wp2
    go_ret
    exact ⟨none, 0, rfl, RoomS.nil, Ext.refl _, fun k hk => absurd hk foot_none⟩
  | some a =>
    have hq := fun w' => Lib.run_eql_slice_nil (P := Try.prog) w' 25 29 (some a) n c 0 0 ul_bx
    simp only [Option.isNone_some] at hq
    have HR := Lib.hid h
    clear h
    go_enter Try.func14, Try.ntmps14
    go_wp2_with (refine wpl_buildS (f := f) (s := 1) hf (by omega) (by rfl) rfl ul_bx info_bx [] (by rfl) (by rfl) (by decide) [] (by rfl) ?_)
    intro g w1 b1 e1 lo1 _; refine Lib.hid ?_
    have own0 : RoomS 1 w1 (some ⟨g, 0, none⟩) 0 0 [] := RoomS.zero
    go_wp2_with (refine wpl_append_atS (by rfl) rfl ul_bx info_bx rfl rfl own0 rfl (Src.ofRdS ul_bx hf (HR.out.ext e1) h1) (by simp only [maxLen]; omega) (by omega) ?_)
    intro A2 c2 w2 r2 ch2 ft2; refine Lib.hid ?_
    try simp only [Nat.zero_add, List.nil_append] at r2
    have e2 : Ext w1 w2 := (ch2.mono (T' := fun _ => False) (fun k _ hk => foot_zero hk)).ext
    have hnew : ∀ k, foot A2 c2 k → w.heap.size ≤ k := fun k hk => by
      rcases ft2 k hk with h1 | h1
      · exact absurd h1 foot_zero
      · have := e1.size; omega
    have hfin : ClnP 1 n (xs.flatMap f) w (.returned (.slice A2 n c2)) w2 := ⟨A2, c2, rfl, r2, e1.t e2, hnew⟩
    have HFin := Lib.hid hfin
    clear r2 ch2 ft2 e1 e2 b1 hnew hfin
    go_wp2
    go_ret
    exact HFin.out
/-- Outboxes, all of whose memory is F. -/
structure Bxo (F : Nat → Prop) (e : Int) (W : World) (ps : List (Option Nat)) (bs : List (Int × List Ev)) : Prop where
  len : ps.length = bs.length
  at_ : ∀ (i : Nat) (p : Option Nat), ps[i]? = some p → ∃ g s evs A n c, p = some g ∧ bs[i]? = some (s, evs) ∧ Obx W g s 256 e evs A n c ∧ ∀ k, (k = g ∨ foot A c k) → F k
section
variable {F F' T : Nat → Prop} {e : Int} {W W' : World} {ps : List (Option Nat)} {bs : List (Int × List Ev)}
theorem Bxo.nil : Bxo F e W [] [] := ⟨rfl, by simp⟩
theorem Bxo.mono (h : Bxo F e W ps bs) (hF : ∀ k, F k → F' k) : Bxo F' e W ps bs := ⟨h.len, fun i p hp => by
  obtain ⟨g, s, evs, A, n, c, h1, h2, h3, h4⟩ := h.at_ i p hp
  exact ⟨g, s, evs, A, n, c, h1, h2, h3, fun k hk => hF k (h4 k hk)⟩⟩
theorem Bxo.chg (h : Bxo F e W ps bs) (ch : Chg T W W') (hT : ∀ k, T k → ¬ F k) : Bxo F e W' ps bs := ⟨h.len, fun i p hp => by
  obtain ⟨g, s, evs, A, n, c, h1, h2, h3, h4⟩ := h.at_ i p hp
  exact ⟨g, s, evs, A, n, c, h1, h2, h3.chg ch (fun ht => hT g ht (h4 g (.inl rfl))) (fun k hk ht => hT k ht (h4 k (.inr hk))), h4⟩⟩
theorem Bxo.ext (h : Bxo F e W ps bs) (x : Ext W W') : Bxo F e W' ps bs := h.chg (T := fun _ => False) (Chg.ofExt x) (fun _ t => t.elim)
theorem Bxo.snoc {g : Nat} {s : Int} {evs : List Ev} {A : Option Addr} {n c : Nat} (h : Bxo F e W ps bs) (o : Obx W g s 256 e evs A n c) (hF : ∀ k, (k = g ∨ foot A c k) → F k) : Bxo F e W (ps ++ [some g]) (bs ++ [(s, evs)]) := by
  refine ⟨by rw [List.length_append, List.length_append, h.len]; rfl, fun i p hp => ?_⟩
  by_cases hi : i < ps.length
  · rw [List.getElem?_append_left hi] at hp
    rw [List.getElem?_append_left (by have := h.len; omega)]
    exact h.at_ i p hp
  · rw [List.getElem?_append_right (by omega)] at hp
    rw [List.getElem?_append_right (by have := h.len; omega), ← h.len]
    obtain h0 : i - ps.length = 0 := by
      have h1 := (List.getElem?_eq_some_iff.1 hp).1
      simp at h1; omega
    rw [h0] at hp ⊢
    cases hp
    exact ⟨g, s, evs, A, n, c, rfl, rfl, o, hF⟩
theorem Bxo.bxs (h : Bxo F e W ps bs) : Bxs W ps (bs.map some) := ⟨by rw [List.length_map]; exact h.len, fun i p hp => by
  obtain ⟨g, s, evs, A, n, c, h1, h2, h3, _⟩ := h.at_ i p hp
  exact .inr ⟨g, s, 256, e, evs, A, n, c, h1, by rw [List.getElem?_map, h2]; rfl, h3⟩⟩
theorem Bxo.turn (h : Bxo F e W ps bs) {k : Nat} (_hk : k ≤ ps.length) : Bxs W (ps.drop k ++ ps.take k) ((bs.map some).drop k ++ (bs.map some).take k) := by
  have hb := h.bxs
  have hl := hb.len
  refine ⟨by rw [List.length_append, List.length_append, List.length_drop, List.length_drop, List.length_take, List.length_take, hl], fun i p hp => ?_⟩
  by_cases hi : i < (ps.drop k).length
  · rw [List.getElem?_append_left hi, List.getElem?_drop] at hp
    rw [List.getElem?_append_left (by rw [List.length_drop] at hi ⊢; omega), List.getElem?_drop]
    exact hb.at_ _ p hp
  · rw [List.getElem?_append_right (by omega)] at hp
    rw [List.getElem?_append_right (by rw [List.length_drop] at hi ⊢; omega)]
    rw [List.length_drop] at hp
    rw [List.length_drop, ← hl]
    have h1 := (List.getElem?_eq_some_iff.1 hp).1
    rw [List.length_take] at h1
    rw [List.getElem?_take_of_lt (by omega)] at hp ⊢
    exact hb.at_ _ p hp
end
/-- What the law has laid: the outboxes, two lists of them, the events. -/
structure OmJ (w0 : World) (e : Int) (F : Nat → Prop) (ps ts : List (Option Nat)) (bs : List (Int × List Ev)) (pa : List (Option Nat)) (Aa : Option Addr) (na ca : Nat) (pt : List (Option Nat)) (At : Option Addr) (nt ct : Nat) (evs : List Ev) (Ae : Option Addr) (ne ce : Nat) (W : World) : Prop where
  ba : Bxo F e W ps bs
  bt : Bxo F e W ts bs
  ra : Room W Aa na ca (pa.map ptrv)
  rt : Room W At nt ct (pt.map ptrv)
  re : RoomS 5 W Ae ne ce (evs.flatMap evC)
  f : ∀ q, F q → w0.heap.size ≤ q ∧ q < W.heap.size ∧ ¬ foot Aa ca q ∧ ¬ foot At ct q ∧ ¬ foot Ae ce q
  fa : ∀ q, foot Aa ca q → w0.heap.size ≤ q ∧ ¬ foot At ct q ∧ ¬ foot Ae ce q
  ft : ∀ q, foot At ct q → w0.heap.size ≤ q ∧ ¬ foot Ae ce q
  fe : ∀ q, foot Ae ce q → w0.heap.size ≤ q
  ext : Ext w0 W
section
variable {w0 : World} {e : Int} {F : Nat → Prop} {ps ts : List (Option Nat)} {bs : List (Int × List Ev)} {pa : List (Option Nat)} {Aa : Option Addr} {na ca : Nat} {pt : List (Option Nat)} {At : Option Addr} {nt ct : Nat} {evs : List Ev} {Ae : Option Addr} {ne ce : Nat} {W W' W1 W2 : World}
theorem OmJ.go (h : OmJ w0 e F ps ts bs pa Aa na ca pt At nt ct evs Ae ne ce W) (x : Ext W W') : OmJ w0 e F ps ts bs pa Aa na ca pt At nt ct evs Ae ne ce W' :=
  ⟨h.ba.ext x, h.bt.ext x, h.ra.ext x, h.rt.ext x, h.re.ext x, fun q hq => by have h1 := h.f q hq; exact ⟨h1.1, Nat.lt_of_lt_of_le h1.2.1 x.size, h1.2.2⟩, h.fa, h.ft, h.fe, h.ext.t x⟩
theorem OmJ.box {g1 g2 : Nat} {s : Int} {own : List Ev} {A1 A2 : Option Addr} {n1 c1 n2 c2 : Nat} (h : OmJ w0 e F ps ts bs pa Aa na ca pt At nt ct evs Ae ne ce W) (x : Ext W W') (o1 : Obx W' g1 s 256 e own A1 n1 c1) (o2 : Obx W' g2 s 256 e own A2 n2 c2) (l1 : ∀ k, (k = g1 ∨ foot A1 c1 k) → W.heap.size ≤ k) (l2 : ∀ k, (k = g2 ∨ foot A2 c2 k) → W.heap.size ≤ k) :
    OmJ w0 e (fun q => F q ∨ (W.heap.size ≤ q ∧ q < W'.heap.size)) (ps ++ [some g1]) (ts ++ [some g2]) (bs ++ [(s, own)]) pa Aa na ca pt At nt ct evs Ae ne ce W' := by
  have h' := h.go x
  refine ⟨(h'.ba.mono (fun _ h => .inl h)).snoc o1 (fun k hk => .inr ⟨l1 k hk, o1.lt hk⟩), (h'.bt.mono (fun _ h => .inl h)).snoc o2 (fun k hk => .inr ⟨l2 k hk, o2.lt hk⟩), h'.ra, h'.rt, h'.re, fun q hq => ?_, h'.fa, h'.ft, h'.fe, h'.ext⟩
  rcases hq with hq | ⟨h1, h2⟩
  · exact h'.f q hq
  · exact ⟨Nat.le_trans h.ext.size h1, h2, fun hf => by have := h.ra.lt hf; omega, fun hf => by have := h.rt.lt hf; omega, fun hf => by have := h.re.lt hf; omega⟩
theorem OmJ.pushA {A' : Option Addr} {c' : Nat} {g : Option Nat} (h : OmJ w0 e F ps ts bs pa Aa na ca pt At nt ct evs Ae ne ce W) (x : Ext W W1) (r : Room W2 A' (na + 1) c' (pa.map ptrv ++ [ptrv g])) (ch : Chg (foot Aa ca) W1 W2) (fn : ∀ k, foot A' c' k → foot Aa ca k ∨ W1.heap.size ≤ k) :
    OmJ w0 e F ps ts bs (pa ++ [g]) A' (na + 1) c' pt At nt ct evs Ae ne ce W2 := by
  have h' := h.go x
  have hs := h.ext.size
  have hx := x.size
  refine ⟨h'.ba.chg ch (fun q hq hF => (h.f q hF).2.2.1 hq), h'.bt.chg ch (fun q hq hF => (h.f q hF).2.2.1 hq), by rw [List.map_append]; exact r, h'.rt.chg ch (fun q hq ha => (h.fa q ha).2.1 hq), h'.re.chg ch (fun q hq ha => (h.fa q ha).2.2 hq), fun q hq => ?_, fun q hq => ?_, h.ft, h.fe, h'.ext.trans (ch.below h'.ext.size (fun q hq ha => by have := (h.fa q ha).1; omega))⟩
  · have h1 := h'.f q hq
    have h2 := h.f q hq
    exact ⟨h1.1, Nat.lt_of_lt_of_le h1.2.1 ch.size, fun hf => (fn q hf).elim h1.2.2.1 (fun h3 => by omega), h1.2.2.2⟩
  · rcases fn q hq with h1 | h1
    · exact h.fa q h1
    · exact ⟨by omega, fun hf => by have := h.rt.lt hf; omega, fun hf => by have := h.re.lt hf; omega⟩
theorem OmJ.pushT {A' : Option Addr} {c' : Nat} {g : Option Nat} (h : OmJ w0 e F ps ts bs pa Aa na ca pt At nt ct evs Ae ne ce W) (x : Ext W W1) (r : Room W2 A' (nt + 1) c' (pt.map ptrv ++ [ptrv g])) (ch : Chg (foot At ct) W1 W2) (fn : ∀ k, foot A' c' k → foot At ct k ∨ W1.heap.size ≤ k) :
    OmJ w0 e F ps ts bs pa Aa na ca (pt ++ [g]) A' (nt + 1) c' evs Ae ne ce W2 := by
  have h' := h.go x
  have hs := h.ext.size
  have hx := x.size
  refine ⟨h'.ba.chg ch (fun q hq hF => (h.f q hF).2.2.2.1 hq), h'.bt.chg ch (fun q hq hF => (h.f q hF).2.2.2.1 hq), h'.ra.chg ch (fun q hq ha => (h.fa q hq).2.1 ha), by rw [List.map_append]; exact r, h'.re.chg ch (fun q hq ha => (h.ft q ha).2 hq), fun q hq => ?_, fun q hq => ?_, fun q hq => ?_, h.fe, h'.ext.trans (ch.below h'.ext.size (fun q hq ha => by have := (h.ft q ha).1; omega))⟩
  · have h1 := h'.f q hq
    have h2 := h.f q hq
    exact ⟨h1.1, Nat.lt_of_lt_of_le h1.2.1 ch.size, h1.2.2.1, fun hf => (fn q hf).elim h1.2.2.2.1 (fun h3 => by omega), h1.2.2.2.2⟩
  · have h1 := h.fa q hq
    have h2 := h.ra.lt hq
    exact ⟨h1.1, fun hf => (fn q hf).elim h1.2.1 (fun h3 => by omega), h1.2.2⟩
  · rcases fn q hq with h1 | h1
    · exact h.ft q h1
    · exact ⟨by omega, fun hf => by have := h.re.lt hf; omega⟩
theorem OmJ.pushE {A' : Option Addr} {m c' : Nat} {own : List Ev} (h : OmJ w0 e F ps ts bs pa Aa na ca pt At nt ct evs Ae ne ce W) (x : Ext W W1) (r : RoomS 5 W2 A' (ne + m) c' (evs.flatMap evC ++ own.flatMap evC)) (ch : Chg (foot Ae ce) W1 W2) (fn : ∀ k, foot A' c' k → foot Ae ce k ∨ W1.heap.size ≤ k) :
    OmJ w0 e F ps ts bs pa Aa na ca pt At nt ct (evs ++ own) A' (ne + m) c' W2 := by
  have h' := h.go x
  have hs := h.ext.size
  have hx := x.size
  refine ⟨h'.ba.chg ch (fun q hq hF => (h.f q hF).2.2.2.2 hq), h'.bt.chg ch (fun q hq hF => (h.f q hF).2.2.2.2 hq), h'.ra.chg ch (fun q hq ha => (h.fa q hq).2.2 ha), h'.rt.chg ch (fun q hq ha => (h.ft q hq).2 ha), by rw [List.flatMap_append]; exact r, fun q hq => ?_, fun q hq => ?_, fun q hq => ?_, fun q hq => ?_, h'.ext.trans (ch.below h'.ext.size (fun q hq ha => by have := h.fe q ha; omega))⟩
  · have h1 := h'.f q hq
    have h2 := h.f q hq
    exact ⟨h1.1, Nat.lt_of_lt_of_le h1.2.1 ch.size, h1.2.2.1, h1.2.2.2.1, fun hf => (fn q hf).elim h1.2.2.2.2 (fun h3 => by omega)⟩
  · have h1 := h.fa q hq
    have h2 := h.ra.lt hq
    exact ⟨h1.1, h1.2.1, fun hf => (fn q hf).elim h1.2.2 (fun h3 => by omega)⟩
  · have h1 := h.ft q hq
    have h2 := h.rt.lt hq
    exact ⟨h1.1, fun hf => (fn q hf).elim h1.2 (fun h3 => by omega)⟩
  · exact (fn q hq).elim (h.fe q) (fun h1 => by omega)
end
end Go.Proofs.Ytdjpggnadelnaaa
