/- Rdp: the reference's Dominators, the plain part; two new lists side by side. Rfx: the reference of chapter 16: Reached, Ends. Rdm: the reference of chapter 16: Dominators. -/
import Derived.Test.YtlneifgihdickaaRfr
import Derived.Test.YtlneifgihdickaaFdc
import Derived.Test.YtlneifgihdickaaFen
import Derived.Test.YtlneifgihdickaaFdv
namespace Go.Fx
open Go.RowKit Go.Proofs Go.Proofs.Ytlneifgihdickaa
open Classical in
noncomputable def domB (E : Nat → Nat → Prop) (k i : Nat) : Bool := decide (Dom E k i)
theorem domB_iff {E : Nat → Nat → Prop} {k i : Nat} : domB E k i = true ↔ Dom E k i := by
  classical
  unfold domB
  exact decide_eq_true_iff
theorem domB_no {E : Nat → Nat → Prop} {k i : Nat} (h : ¬ Dom E k i) : domB E k i = false := by
  cases hb : domB E k i with
  | false => rfl
  | true => exact absurd (domB_iff.1 hb) h
theorem cntT_succ (D : Nat → Nat → Bool) (k v : Nat) : cntT D (k + 1) v = cntT D k v + if D k v = true then 1 else 0 := by
  unfold cntT
  rw [List.range_succ, List.filter_append, List.length_append]
  congr 1
  cases h : D k v <;> simp [h]
theorem cntT_le (D : Nat → Nat → Bool) (k v : Nat) : cntT D k v ≤ k := by
  unfold cntT
  have := List.length_filter_le (fun j => D j v) (List.range k)
  rwa [List.length_range] at this
/-- How many of the first k dominate v; and the next one, for places before i. -/
noncomputable def mosF (E : Nat → Nat → Prop) (k i v : Nat) : Nat := cntT (domB E) k v + if v < i ∧ domB E k v = true then 1 else 0
theorem mosF_zero (E : Nat → Nat → Prop) (k v : Nat) : mosF E k 0 v = cntT (domB E) k v := by unfold mosF; simp
theorem mosF_end {E : Nat → Nat → Prop} {k n v : Nat} (h : v < n) : mosF E k n v = mosF E (k + 1) 0 v := by
  rw [mosF_zero, cntT_succ]
  unfold mosF
  congr 1
  simp [h]
theorem mosF_le (E : Nat → Nat → Prop) (k i v : Nat) : mosF E k i v ≤ k + 1 := by
  unfold mosF
  have := cntT_le (domB E) k v
  split <;> omega
theorem mosF_step {E : Nat → Nat → Prop} {k i v : Nat} (hv : v ≠ i) : mosF E k (i + 1) v = mosF E k i v := by
  unfold mosF
  congr 1
  by_cases h : v < i
  · simp [h, show v < i + 1 by omega]
  · simp [h, show ¬ v < i + 1 by omega]
theorem mosF_hit {E : Nat → Nat → Prop} {k i : Nat} (h : Dom E k i) : mosF E k (i + 1) i = mosF E k i i + 1 := by
  unfold mosF
  rw [if_pos ⟨Nat.lt_succ_self _, domB_iff.2 h⟩, if_neg (fun h => Nat.lt_irrefl _ h.1)]
theorem mosF_miss {E : Nat → Nat → Prop} {k i : Nat} (h : ¬ Dom E k i) : mosF E k (i + 1) i = mosF E k i i := by
  unfold mosF
  rw [if_neg (fun q => h (domB_iff.1 q.2)), if_neg (fun q => h (domB_iff.1 q.2))]
/-- The counts so far. -/
structure MosI (E : Nat → Nat → Prop) (n k i : Nat) (ms : List Int) : Prop where
  len : ms.length = n
  at_ : ∀ {v : Nat} {x : Int}, ms[v]? = some x → x = (mosF E k i v : Int)
theorem MosI.start (E : Nat → Nat → Prop) (n : Nat) : MosI E n 0 0 (List.replicate n 0) := ⟨by simp, fun {v x} h => by
  have h1 := List.eq_of_mem_replicate (List.mem_of_getElem? h)
  rw [h1, mosF_zero]; rfl⟩
theorem MosI.next {E : Nat → Nat → Prop} {n k : Nat} {ms : List Int} (h : MosI E n k n ms) : MosI E n (k + 1) 0 ms := ⟨h.len, fun {v x} hv => by
  have hl : v < n := by have := (List.getElem?_eq_some_iff.1 hv).1; rw [h.len] at this; exact this
  rw [h.at_ hv, mosF_end hl]⟩
theorem MosI.miss {E : Nat → Nat → Prop} {n k i : Nat} {ms : List Int} (h : MosI E n k i ms) (hd : ¬ Dom E k i) : MosI E n k (i + 1) ms := ⟨h.len, fun {v x} hv => by
  rw [h.at_ hv]
  by_cases e : v = i
  · rw [e, mosF_miss hd]
  · rw [mosF_step e]⟩
theorem MosI.hit {E : Nat → Nat → Prop} {n k i : Nat} {ms : List Int} {x : Int} (h : MosI E n k i ms) (hd : Dom E k i) (hx : ms[i]? = some x) : MosI E n k (i + 1) (ms.set i (x + 1)) := ⟨by rw [List.length_set]; exact h.len, fun {v y} hv => by
  by_cases e : i = v
  · subst e
    rw [List.getElem?_set_self (List.getElem?_eq_some_iff.1 hx).1] at hv
    rw [← Option.some.inj hv, h.at_ hx, mosF_hit hd]
    omega
  · rw [List.getElem?_set_ne e] at hv
    rw [h.at_ hv, mosF_step (fun e2 => e e2.symm)]⟩
/-- The nearest ones so far: K k i v: the first of the instructions that was not looked at for v. -/
def neK (k i v : Nat) : Nat := if v < i then k + 1 else k
structure NeR (E : Nat → Nat → Prop) (n k i : Nat) (cnt : Nat → Nat) (out : List Int) : Prop where
  len : out.length = n
  at_ : ∀ {v : Nat} {x : Int}, out[v]? = some x → (x = -1 ∧ ∀ j, j < neK k i v → Dom E j v → j = v) ∨ (∃ q : Nat, x = (q : Int) ∧ q < neK k i v ∧ Dom E q v ∧ q ≠ v ∧ ∀ j, j < neK k i v → Dom E j v → j ≠ v → cnt j ≤ cnt q)
section
variable {E : Nat → Nat → Prop} {n k i : Nat} {cnt : Nat → Nat} {out : List Int}
theorem NeR.start (E : Nat → Nat → Prop) (n : Nat) (cnt : Nat → Nat) : NeR E n 0 0 cnt (List.replicate n (-1)) := ⟨by simp, fun {v x} h => by
  have h1 := List.eq_of_mem_replicate (List.mem_of_getElem? h)
  refine .inl ⟨h1, fun j hj => ?_⟩
  unfold neK at hj
  rw [if_neg (by omega)] at hj
  omega⟩
theorem NeR.next (h : NeR E n k n cnt out) : NeR E n (k + 1) 0 cnt out := ⟨h.len, fun {v x} hv => by
  have hl : v < n := by have := (List.getElem?_eq_some_iff.1 hv).1; rw [h.len] at this; exact this
  have h1 := h.at_ hv
  have e : neK k n v = neK (k + 1) 0 v := by unfold neK; rw [if_pos hl, if_neg (by omega)]
  rw [e] at h1
  exact h1⟩
theorem neK_step {v : Nat} (hv : v ≠ i) : neK k (i + 1) v = neK k i v := by
  unfold neK
  by_cases h : v < i
  · rw [if_pos h, if_pos (by omega)]
  · rw [if_neg h, if_neg (by omega)]
theorem neK_at : neK k (i + 1) i = k + 1 ∧ neK k i i = k := by
  unfold neK
  exact ⟨by rw [if_pos (by omega)], by rw [if_neg (by omega)]⟩
/-- Nothing changes. -/
theorem NeR.skip (h : NeR E n k i cnt out) (hs : ¬ Dom E k i ∨ k = i ∨ ∃ q : Nat, out[i]? = some (q : Int) ∧ cnt k ≤ cnt q) : NeR E n k (i + 1) cnt out := ⟨h.len, fun {v x} hv => by
  by_cases e : v = i
  · subst e
    rw [neK_at.1]
    have h1 := h.at_ hv
    rw [neK_at.2] at h1
    rcases h1 with ⟨h1, h2⟩ | ⟨q, h1, h2, h3, h4, h5⟩
    · refine .inl ⟨h1, fun j hj hd => ?_⟩
      by_cases ej : j = k
      · subst ej
        rcases hs with hs | hs | ⟨q, hs, _⟩
        · exact absurd hd hs
        · exact hs
        · rw [hv] at hs
          have := Option.some.inj hs
          omega
      · exact h2 j (by omega) hd
    · refine .inr ⟨q, h1, by omega, h3, h4, fun j hj hd hjv => ?_⟩
      by_cases ej : j = k
      · subst ej
        rcases hs with hs | hs | ⟨q', hs, hc⟩
        · exact absurd hd hs
        · exact absurd hs hjv
        · rw [hv] at hs
          have : q = q' := by have := Option.some.inj hs; omega
          rw [this]; exact hc
      · exact h5 j (by omega) hd hjv
  · rw [neK_step e]
    exact h.at_ hv⟩
/-- A nearer one is found. -/
theorem NeR.set (h : NeR E n k i cnt out) (hd : Dom E k i) (hki : k ≠ i) (hi : i < n) (hs : (∃ x, out[i]? = some x ∧ x < 0) ∨ ∃ q : Nat, out[i]? = some (q : Int) ∧ cnt q < cnt k) : NeR E n k (i + 1) cnt (out.set i (k : Int)) := ⟨by rw [List.length_set]; exact h.len, fun {v x} hv => by
  by_cases e : i = v
  · subst e
    rw [List.getElem?_set_self (by rw [h.len]; exact hi)] at hv
    rw [neK_at.1]
    refine .inr ⟨k, (Option.some.inj hv).symm, by omega, hd, hki, fun j hj hdj hjv => ?_⟩
    by_cases ej : j = k
    · rw [ej]; exact Nat.le_refl _
    · obtain ⟨x', hx'⟩ : ∃ x', out[i]? = some x' := ⟨_, List.getElem?_eq_getElem (by rw [h.len]; exact hi)⟩
      have h1 := h.at_ hx'
      rw [neK_at.2] at h1
      rcases h1 with ⟨_, h2⟩ | ⟨q, h1, h2, h3, h4, h5⟩
      · exact absurd (h2 j (by omega) hdj) hjv
      · have h6 := h5 j (by omega) hdj hjv
        rcases hs with ⟨x2, hs, h0⟩ | ⟨q', hs, hc⟩
        · rw [hx'] at hs
          have := Option.some.inj hs
          omega
        · rw [hx'] at hs
          have : q = q' := by have := Option.some.inj hs; omega
          subst this
          omega
  · rw [List.getElem?_set_ne e] at hv
    rw [neK_step (fun e2 => e e2.symm)]
    exact h.at_ hv⟩
theorem NeR.isN (h : NeR E n n 0 (fun v => cntT (domB E) n v) out) (hE : ∀ i, Rch E i → i < n) : IsN E n out := by
  have hD : ∀ k i, k < n → Rch E i → (domB E k i = true ↔ Dom E k i) := fun _ _ _ _ => domB_iff
  have hv : ∀ v, v < n → ∃ x, out[v]? = some x := fun v hv => ⟨_, List.getElem?_eq_getElem (by rw [h.len]; exact hv)⟩
  have hK : ∀ v, neK n 0 v = n := fun v => by unfold neK; rw [if_neg (by omega)]
  refine ⟨h.len, fun {i} hi h0 => ?_, fun {i} hi h0 hr => ?_⟩
  · obtain ⟨x, hx⟩ := hv i hi
    rcases h.at_ hx with ⟨h1, _⟩ | ⟨q, _, _, h3, h4, _⟩
    · rw [hx, h1]
    · rcases h0 with h0 | h0
      · subst h0
        exact absurd ((dom_zero_iff h3.1).1 h3) h4
      · exact absurd h3.1 h0
  · obtain ⟨x, hx⟩ := hv i hi
    rcases h.at_ hx with ⟨_, h2⟩ | ⟨q, h1, h2, h3, h4, h5⟩
    · rw [hK] at h2
      have := h2 0 (by omega) (Dom.zero hr)
      omega
    · rw [hK] at h2 h5
      refine ⟨q, h2, by rw [hx, h1], nea_of_max hD hE h3 h4 (fun j hj hji => h5 j (hE j hj.rch) hj hji)⟩
end
/-- Two new lists of numbers, side by side. -/
structure TwL (V : World) (A : Option Addr) (m c : Nat) (xs : List Int) (B : Option Addr) (q d : Nat) (ys : List Int) (W : World) : Prop where
  a : NwL intz V A m c xs W
  b : NwL intz V B q d ys W
  ap : ∀ k, foot A c k → ¬ foot B d k
section
variable {V W W' W2 W3 : World} {A A2 B : Option Addr} {m c c2 q d : Nat} {xs ys : List Int} {v : Int}
theorem TwL.nil (V : World) : TwL V none 0 0 [] none 0 0 [] V := ⟨NwL.nil V, NwL.nil V, fun _ hk => absurd hk foot_none⟩
theorem TwL.x (h : TwL V A m c xs B q d ys W) (e : Ext W W') : TwL V A m c xs B q d ys W' := ⟨h.a.x e, h.b.x e, h.ap⟩
theorem TwL.swap (h : TwL V A m c xs B q d ys W) : TwL V B q d ys A m c xs W := ⟨h.b, h.a, fun k h1 h2 => h.ap k h2 h1⟩
theorem TwL.more (h : TwL V A m c xs B q d ys W) (r : Room W3 A2 (m + 1) c2 (xs.map intz ++ [intz v])) (ch : Chg (foot A c) W W3) (ft : ∀ k, foot A2 c2 k → foot A c k ∨ W.heap.size ≤ k) : TwL V A2 (m + 1) c2 (xs ++ [v]) B q d ys W3 := by
  have ha := h.a.more (Ext.refl _) r ch ft
  exact ⟨ha, ⟨h.b.room.chg ch (fun k hk hf => h.ap k hf hk), ha.ext, h.b.ft⟩, fun k hk hb => (ft k hk).elim (fun h1 => h.ap k h1 hb) (fun h1 => by have := h.b.room.lt hb; omega)⟩
theorem TwL.set {g o k : Nat} {c : Nat} (h : TwL V (some ⟨g, o, none⟩) m c xs B q d ys W) (hk : k < m) (y : Int) : TwL V (some ⟨g, o, none⟩) m c (xs.set k y) B q d ys (W.setCell ⟨g, o + k, none⟩ (intz y)) := by
  have ha := h.a.set hk y
  have hg : foot (some ⟨g, o, none⟩) c g := ⟨by have := h.a.room.2.1; omega, o, rfl⟩
  exact ⟨ha, ⟨h.b.room.chg (Chg.set W g (o + k) (intz y) (T := fun j => j = g) rfl) (fun j hj e => h.ap g hg (by rw [← e]; exact hj)), ha.ext, h.b.ft⟩, h.ap⟩
end
end Go.Fx
namespace Go.Fx
open Go.RowKit Go.Proofs Go.Proofs.Ytlneifgihdickaa
/-- What can end, for the first ones. -/
structure IsEi (p : List Ins) (i : Nat) (es : List Bool) : Prop where
  len : es.length = i
  at_ : ∀ {v : Nat} {b : Bool}, es[v]? = some b → (b = true ↔ EnW p v)
theorem IsEi.nil (p : List Ins) : IsEi p 0 [] := ⟨rfl, fun h => by cases h⟩
theorem IsEi.snoc {p : List Ins} {i : Nat} {es : List Bool} {b : Bool} (h : IsEi p i es) (hb : b = true ↔ EnW p i) : IsEi p (i + 1) (es ++ [b]) := by
  refine ⟨by rw [List.length_append, h.len]; rfl, fun {v c} hv => ?_⟩
  by_cases e : v < es.length
  · rw [List.getElem?_append_left e] at hv
    exact h.at_ hv
  · rw [List.getElem?_append_right (by omega)] at hv
    have h1 := (List.getElem?_eq_some_iff.1 hv).1
    rw [List.length_singleton] at h1
    have hvi : v = i := by have := h.len; omega
    rw [show v - es.length = 0 by omega] at hv
    obtain rfl : b = c := by simpa using hv
    rw [hvi]; exact hb
/-- Whether one of the first k, that is reached, is a Halt. -/
def HltB (p : List Ins) (d : List Int) (k : Nat) : Prop := ∃ j x y, j < k ∧ d[j]? = some y ∧ 0 ≤ y ∧ p[j]? = some x ∧ x.op = 1
theorem HltB.step {p : List Ins} {d : List Int} {k : Nat} {x : Ins} {y : Int} (hy : d[k]? = some y) (hx : p[k]? = some x) : HltB p d (k + 1) ↔ HltB p d k ∨ (0 ≤ y ∧ x.op = 1) := by
  constructor
  · rintro ⟨j, x', y', hj, h1, h2, h3, h4⟩
    by_cases e : j = k
    · subst e
      rw [hy] at h1; rw [hx] at h3
      obtain rfl := Option.some.inj h1
      obtain rfl := Option.some.inj h3
      exact .inr ⟨h2, h4⟩
    · exact .inl ⟨j, x', y', by omega, h1, h2, h3, h4⟩
  · rintro (⟨j, x', y', hj, h⟩ | ⟨h1, h2⟩)
    · exact ⟨j, x', y', by omega, h⟩
    · exact ⟨k, x, y, by omega, hy, h1, hx, h2⟩
theorem HltB.end_ {p : List Ins} {d : List Int} {n i : Nat} (hd : IsD (EdP p) n i d) (hp : p.length = n) : HltB p d n ↔ EnW p i := by
  constructor
  · rintro ⟨j, x, y, _, h1, h2, h3, h4⟩
    exact ⟨j, x, h3, h4, (hd.iff h1).1 h2⟩
  · rintro ⟨j, x, h3, h4, h5⟩
    have hj : j < n := by have := (List.getElem?_eq_some_iff.1 h3).1; omega
    obtain ⟨y, hy⟩ : ∃ y, d[j]? = some y := ⟨_, List.getElem?_eq_getElem (by rw [hd.len]; exact hj)⟩
    exact ⟨j, x, y, hj, hy, (hd.iff hy).2 h5, h3, h4⟩
end Go.Fx
namespace Go.Proofs.Ytlneifgihdickaa
open Go.RowKit Go.Fx
theorem rchB_snoc {d : List Int} {k : Nat} {y : Int} (h : d[k]? = some y) : rchB (d.take (k + 1)) = rchB (d.take k) ++ [decide (0 ≤ y)] := by
  unfold rchB
  rw [take_snoc h, List.map_append]; rfl
set_option maxRecDepth 100000 in
set_option maxHeartbeats 1000000 in
theorem rreach_ (A : Option Addr) (n c : Nat) (p : List Ins) (w : World) (h : RdS 5 insC w A n p) (hp : RightP p) :
    Calls Try.prog 46 #[.slice A n c] w (RchP p n w) := by
  have HD := Lib.hid (rdist_ A n c p w h hp)
  have hn : n ≤ 256 := by have := hp.max; have := h.1; omega
  clear h hp
  go_enter Try.func46, Try.ntmps46
  go_wp2_with fail
  refine HD.out.mono ?_; rintro e w1 ⟨A1, c1, d, rfl, hd, r1, ft1, x1⟩
  have HI := Lib.hid hd
  have R1 := Lib.hid r1.rd
  have X1 := Lib.hid x1
  clear hd r1 ft1 x1 HD
  go_wp2_with fail
  go_loopw [6, 7] (fun v6 v7 wr => ∃ (k : Nat) (Ao : Option Addr) (co : Nat), k ≤ n ∧ v7 = .int .i64 (k : Int) ∧ v6 = .slice Ao k co ∧ Hid (NwL boolv w1 Ao k co (rchB (d.take k)) wr)) (fun _ v _ => n - (intOf v).toNat)
  case atStart => exact ⟨0, none, 0, by omega, rfl, rfl, Lib.hid (NwL.nil w1)⟩
  case round =>
    obtain ⟨k, Ao, co, hk, rfl, rfl, HJ⟩ := hrel
    by_cases hlt : k < n
    · have hltI : (k : Int) < (n : Int) := by omega
      obtain ⟨b, o, y, rfl, hy, cy⟩ := rd_get (R1.out.ext HJ.out.ext) hlt
      obtain ⟨bb, hbb⟩ : ∃ bb, bb = decide (0 ≤ y) := ⟨_, rfl⟩
      have HS := Lib.hid (rchB_snoc hy)
      rw [← hbb] at HS
      have hbx : decide (0 ≤ y) = bb := hbb.symm
      unfold intz at cy
      clear hy hbb
      go_wp2_with (refine wpl_build (by rfl) rfl ul_bo info_bo [.tmp 24] (by rfl) (by rfl) (by decide) (f := boolv) [bb] (by rfl) (fun _ => rfl) ?_)
      intro g3 w3 y1 xa lo1 r1; refine Lib.hid ?_
      have HJ3 := Lib.hid (HJ.out.x xa)
      have RV := Lib.hid r1
      clear y1 xa lo1 r1 HJ cy
      go_wp2_with (refine wpl_append_at (by rfl) rfl ul_bo info_bo rfl rfl HJ3.out.room rfl (Src.ofRd ul_bo RV.out (fun _ => rfl)) (by simp only [maxLen]; omega) (by omega) ?_)
      intro A3 c3 w4 r3 ch3 ft3; refine Lib.hid ?_
      have HJ4 : Hid (NwL boolv w1 A3 (k + 1) c3 (rchB (d.take (k + 1))) w4) := Lib.hid (by rw [HS.out]; exact HJ3.out.more (Ext.refl _) (by simpa using r3) ch3 ft3)
      clear r3 ch3 ft3 HJ3 RV
      go_wp2_with fail
      go_roundw
      case rel => exact ⟨k + 1, A3, c3, by omega, by go_num, rfl, HJ4⟩
      case measure => simp [intOf]; omega
    · obtain rfl : n = k := by omega
      have HF := Lib.hid HJ.out
      rw [List.take_of_length_le (by rw [HI.out.len]; exact Nat.le_refl _)] at HF
      clear HJ
      go_wp2_with fail
      go_ret2
      exact ⟨Ao, co, d, rfl, HI.out, HF.out.room, fun q hq => Nat.le_trans X1.out.size (HF.out.ft q hq), X1.out.t HF.out.ext⟩
theorem rreach_bad (A : Option Addr) (n c : Nat) (p : List Ins) (w : World) (h : RdS 5 insC w A n p) (h0 : (checkF p).2 ≠ 0) :
    Calls Try.prog 46 #[.slice A n c] w fun e w' => e = .returned (.tuple #[.slice none 0 0, .int .i64 160]) ∧ Ext w w' := by
  have HD := Lib.hid (rdist_bad A n c p w h h0)
  clear h h0
  go_enter Try.func46, Try.ntmps46
  go_wp2_with fail
  refine HD.out.mono ?_; rintro e w1 ⟨rfl, x1⟩
  have X1 := Lib.hid x1
  clear x1
  go_wp2_with fail
  go_loopw [6, 7] (fun v6 v7 wr => v6 = .slice none 0 0 ∧ v7 = .int .i64 0 ∧ Hid (Ext w wr)) (fun _ _ _ => 0)
  case atStart => exact ⟨rfl, rfl, X1⟩
  case round =>
    obtain ⟨rfl, rfl, HE⟩ := hrel
    go_wp2_with fail
    go_ret2
    exact ⟨rfl, HE.out⟩
set_option maxRecDepth 100000 in
set_option maxHeartbeats 2000000 in
theorem rends_ (A : Option Addr) (n c : Nat) (p : List Ins) (w : World) (h : RdS 5 insC w A n p) (hp : RightP p) :
    Calls Try.prog 47 #[.slice A n c] w (EndP p n w) := by
  have hl := h.1
  have hn : n ≤ 256 := by have := hp.max; omega
  have HR := Lib.hid (rright_ A n c p w h)
  rw [decide_eq_true (rightP_iff.2 hp)] at HR
  have H := Lib.hid h
  have Hl := Lib.hid hl
  have HF := Lib.hid (fun W (e : Ext w W) (i : Nat) (hi : i < n) => rfrom_ A n c p i (-1) W (h.ext e) hp hi (by omega) (by omega))
  clear h hp hl
  go_enter Try.func47, Try.ntmps47
  go_wp2_with fail
  refine HR.out.mono ?_; rintro e w1 ⟨rfl, x1⟩
  have HN : Hid (NwL boolv w none 0 0 [] w1) := Lib.hid ((NwL.nil w).x x1)
  clear x1 HR
  go_wp2_with fail
  go_loopw [4, 5] (fun v4 v5 wr => ∃ (i : Nat) (Ao : Option Addr) (co : Nat) (es : List Bool), i ≤ n ∧ v5 = .int .i64 (i : Int) ∧ v4 = .slice Ao i co ∧ Hid (NwL boolv w Ao i co es wr) ∧ Hid (IsEi p i es)) (fun _ v _ => n - (intOf v).toNat)
  case atStart => exact ⟨0, none, 0, [], by omega, rfl, rfl, HN, Lib.hid (IsEi.nil p)⟩
  case round =>
    clear HN
    obtain ⟨i, Ao, co, es, hi, rfl, rfl, HN, HI⟩ := hrel
    by_cases hlt : i < n
    · have hltI : (i : Int) < (n : Int) := by omega
      have HFi := Lib.hid (HF.out wr HN.out.ext i hlt)
      go_wp2_with fail
      refine HFi.out.mono ?_; rintro e w2 ⟨A2, c2, d, rfl, hd, hn2⟩
      have HD := Lib.hid (frm_all hd)
      have HN2 := Lib.hid (HN.out.x hn2.ext)
      have RD := Lib.hid hn2.room.rd
      clear hd hn2 HFi HN
      have HB0 : Hid (false = true ↔ HltB p d 0) := Lib.hid ⟨fun h => (by cases h), fun ⟨j, _, _, hj, _⟩ => (by omega)⟩
      go_wp2_with fail
      go_loopw [7, 8] (fun v7 v8 wr => ∃ (k : Nat) (b : Bool), k ≤ n ∧ v8 = .int .i64 (k : Int) ∧ v7 = .bool b ∧ Hid (b = true ↔ HltB p d k) ∧ wr = w2) (fun _ v _ => n - (intOf v).toNat)
      case atStart => exact ⟨0, false, by omega, rfl, rfl, HB0, rfl⟩
      case round =>
        clear HB0
        obtain ⟨k, b, hk, rfl, rfl, HB, rfl⟩ := hrel
        by_cases hlk : k < n
        · have hkI : (k : Int) < (n : Int) := by omega
          obtain ⟨b2, o2, y, rfl, hy, cy⟩ := rd_get RD.out hlk
          obtain ⟨b3, o3, x, rfl, _, hx, q0, q1, q2, q3, q4⟩ := (H.out.ext HN2.out.ext).ins hlk
          have HS := Lib.hid (HltB.step hy hx)
          unfold intz at cy
          clear hy hx
          cases b with
          | true =>
            have HB2 : Hid (true = true ↔ HltB p d (k + 1)) := Lib.hid ⟨fun _ => HS.out.2 (.inl (HB.out.1 rfl)), fun _ => rfl⟩
            clear HS HB
            go_wp2_with fail
            go_roundw
            case rel => exact ⟨k + 1, true, by omega, by go_num, rfl, HB2, by first | rfl | trivial⟩
            case measure => simp [intOf]; omega
          | false =>
            by_cases hy0 : 0 ≤ y
            · by_cases ho : x.op = 1
              · have hoI : ((x.op : Int) == 1) = true := by simp [ho]
                have HB2 : Hid (true = true ↔ HltB p d (k + 1)) := Lib.hid ⟨fun _ => HS.out.2 (.inr ⟨hy0, ho⟩), fun _ => rfl⟩
                clear HS HB ho
                go_wp2_with fail
                go_roundw
                case rel => exact ⟨k + 1, true, by omega, by go_num, rfl, HB2, by first | rfl | trivial⟩
                case measure => simp [intOf]; omega
              · have hoI : ((x.op : Int) == 1) = false := by simp; omega
                have HB2 : Hid (false = true ↔ HltB p d (k + 1)) := Lib.hid ⟨fun h => (by cases h), fun h => (HS.out.1 h).elim HB.out.2 (fun h => absurd h.2 ho)⟩
                clear HS HB ho
                go_wp2_with fail
                go_roundw
                case rel => exact ⟨k + 1, false, by omega, by go_num, rfl, HB2, by first | rfl | trivial⟩
                case measure => simp [intOf]; omega
            · have HB2 : Hid (false = true ↔ HltB p d (k + 1)) := Lib.hid ⟨fun h => (by cases h), fun h => (HS.out.1 h).elim HB.out.2 (fun h => absurd h.1 hy0)⟩
              clear HS HB
              go_wp2_with fail
              go_roundw
              case rel => exact ⟨k + 1, false, by omega, by go_num, rfl, HB2, by first | rfl | trivial⟩
              case measure => simp [intOf]; omega
        · obtain rfl : n = k := by omega
          have HI2 := Lib.hid (HI.out.snoc (HB.out.trans (HltB.end_ HD.out Hl.out)))
          clear HI HB RD
          go_wp2_with (refine wpl_build (by rfl) rfl ul_bo info_bo [.tmp 44] (by rfl) (by rfl) (by decide) (f := boolv) [b] (by rfl) (fun _ => rfl) ?_)
          intro g3 w3 y1 xa lo1 r1; refine Lib.hid ?_
          have HN3 := Lib.hid (HN2.out.x xa)
          have RV := Lib.hid r1
          clear y1 xa lo1 r1 HN2
          go_wp2_with (refine wpl_append_at (by rfl) rfl ul_bo info_bo rfl rfl HN3.out.room rfl (Src.ofRd ul_bo RV.out (fun _ => rfl)) (by simp only [maxLen]; omega) (by omega) ?_)
          intro A3 c3 w4 r3 ch3 ft3; refine Lib.hid ?_
          have HN4 : Hid (NwL boolv w A3 (i + 1) c3 (es ++ [b]) w4) := Lib.hid (HN3.out.more (Ext.refl _) (by simpa using r3) ch3 ft3)
          clear r3 ch3 ft3 HN3 RV
          go_wp2_with fail
          go_roundw
          case rel => exact ⟨i + 1, A3, c3, es ++ [b], by omega, by go_num, rfl, HN4, HI2⟩
          case measure => simp [intOf]; omega
    · obtain rfl : n = i := by omega
      have HE : Hid (IsE p es) := Lib.hid ⟨by rw [HI.out.len, Hl.out], fun h => HI.out.at_ h⟩
      clear HI
      go_wp2_with fail
      go_ret2
      exact ⟨Ao, co, es, rfl, HE.out, HN.out.room, HN.out.ft, HN.out.ext⟩
theorem rends_bad (A : Option Addr) (n c : Nat) (p : List Ins) (w : World) (h : RdS 5 insC w A n p) (h0 : (checkF p).2 ≠ 0) :
    Calls Try.prog 47 #[.slice A n c] w fun e w' => e = .returned (.tuple #[.slice none 0 0, .int .i64 160]) ∧ Ext w w' := by
  have HR := Lib.hid (rright_ A n c p w h)
  rw [decide_eq_false h0] at HR
  clear h h0
  go_enter Try.func47, Try.ntmps47
  go_wp2_with fail
  refine HR.out.mono ?_; rintro e w1 ⟨rfl, e1⟩
  have E1 := Lib.hid e1
  clear e1
  go_wp2_with fail
  go_ret2
  exact ⟨rfl, E1.out⟩
end Go.Proofs.Ytlneifgihdickaa
namespace Go.Proofs.Ytlneifgihdickaa
open Go.RowKit Go.Fx
set_option maxRecDepth 100000 in
set_option maxHeartbeats 8000000 in
theorem rdom_ (A : Option Addr) (n c : Nat) (p : List Ins) (w : World) (h : RdS 5 insC w A n p) (hp : RightP p) :
    Calls Try.prog 49 #[.slice A n c] w (DomP p n w) := by
  have hl := h.1
  have hn : n ≤ 256 := by have := hp.max; omega
  have hn0 : 0 < n := by have := hp.pos; omega
  have HR := Lib.hid (rright_ A n c p w h)
  rw [decide_eq_true (rightP_iff.2 hp)] at HR
  have HP := Lib.hid hp
  have Hl := Lib.hid hl
  have HF := Lib.hid (fun W (e : Ext w W) (t : Int) (h1 : -1 ≤ t) (h2 : t ≤ 1000) => rfrom_ A n c p 0 t W (h.ext e) hp hn0 h1 h2)
  clear h hp hl
  go_enter Try.func49, Try.ntmps49
  go_wp2_with fail
  refine HR.out.mono ?_; rintro e w1 ⟨rfl, x1⟩
  have HF1 := Lib.hid (HF.out w1 x1 (-1) (by omega) (by omega))
  have X1 := Lib.hid x1
  clear x1 HR
  go_wp2_with fail
  refine HF1.out.mono ?_; rintro e w2 ⟨A1, c1, d, rfl, hd, hn1⟩
  have HD := Lib.hid (frm_all hd)
  have RD := Lib.hid hn1.room.rd
  have X2 := Lib.hid (X1.out.t hn1.ext)
  clear hd hn1 HF1 X1
  go_wp2_with fail
  go_loopw [5, 6, 7] (fun v5 v6 v7 wr => ∃ (k : Nat) (Ao Am : Option Addr) (co cm : Nat), k ≤ n ∧ v7 = .int .i64 (k : Int) ∧ v5 = .slice Ao k co ∧ v6 = .slice Am k cm ∧ Hid (TwL w2 Ao k co (List.replicate k (-1)) Am k cm (List.replicate k 0) wr)) (fun _ _ v _ => n - (intOf v).toNat)
  case atStart => exact ⟨0, none, none, 0, 0, by omega, rfl, rfl, rfl, Lib.hid (TwL.nil w2)⟩
  case round =>
    obtain ⟨k, Ao, Am, co, cm, hk, rfl, rfl, rfl, HT⟩ := hrel
    by_cases hlt : k < n
    · have hltI : (k : Int) < (n : Int) := by omega
      go_wp2_with (refine wpl_build (by rfl) rfl ul_in info_in [.const (.int .i64 (-1))] (by rfl) (by rfl) (by decide) (f := intz) [-1] (by rfl) (fun _ => rfl) ?_)
      intro g3 w3 y1 xa lo1 r1; refine Lib.hid ?_
      have HT3 := Lib.hid (HT.out.x xa)
      have RV := Lib.hid r1
      clear y1 xa lo1 r1 HT
      go_wp2_with (refine wpl_append_at (by rfl) rfl ul_in info_in rfl rfl HT3.out.a.room rfl (Src.ofRd ul_in RV.out (fun _ => rfl)) (by simp only [maxLen]; omega) (by omega) ?_)
      intro A3 c3 w4 r3 ch3 ft3; refine Lib.hid ?_
      have HT4 : Hid (TwL w2 A3 (k + 1) c3 (List.replicate (k + 1) (-1)) Am k cm (List.replicate k 0) w4) := Lib.hid (by
        rw [List.replicate_succ']
        exact HT3.out.more (by simpa using r3) ch3 ft3)
      clear r3 ch3 ft3 HT3 RV
      go_wp2_with (refine wpl_build (by rfl) rfl ul_in info_in [.const (.int .i64 0)] (by rfl) (by rfl) (by decide) (f := intz) [0] (by rfl) (fun _ => rfl) ?_)
      intro g5 w5 y1 xa lo1 r1; refine Lib.hid ?_
      have HT5 := Lib.hid (HT4.out.x xa)
      have RV := Lib.hid r1
      clear y1 xa lo1 r1 HT4
      go_wp2_with (refine wpl_append_at (by rfl) rfl ul_in info_in rfl rfl HT5.out.b.room rfl (Src.ofRd ul_in RV.out (fun _ => rfl)) (by simp only [maxLen]; omega) (by omega) ?_)
      intro A6 c6 w6 r3 ch3 ft3; refine Lib.hid ?_
      have HT6 : Hid (TwL w2 A3 (k + 1) c3 (List.replicate (k + 1) (-1)) A6 (k + 1) c6 (List.replicate (k + 1) 0) w6) := Lib.hid (by
        have h1 := HT5.out.swap.more (v := 0) (by simpa using r3) ch3 ft3
        rw [← List.replicate_succ'] at h1
        exact h1.swap)
      clear r3 ch3 ft3 HT5 RV
      go_wp2_with fail
      go_roundw
      case rel => exact ⟨k + 1, A3, A6, c3, c6, by omega, by go_num, rfl, rfl, HT6⟩
      case measure => simp [intOf]; omega
    · obtain rfl : n = k := by omega
      obtain ⟨go, oo, _, hA, _⟩ := rd_get HT.out.a.room.rd (k := 0) hn0
      obtain ⟨gm, om, _, hB, _⟩ := rd_get HT.out.b.room.rd (k := 0) hn0
      subst hA hB
      have HM := Lib.hid (MosI.start (EdP p) n)
      obtain ⟨b1, o1, _, hA1, _⟩ := rd_get RD.out (k := 0) hn0
      subst hA1
      obtain ⟨os, hos⟩ : ∃ os, os = List.replicate n (-1 : Int) := ⟨_, rfl⟩
      obtain ⟨ms, hms⟩ : ∃ ms, ms = List.replicate n (0 : Int) := ⟨_, rfl⟩
      rw [← hos, ← hms] at HT
      rw [← hms] at HM
      have HOS := Lib.hid hos
      clear hos hms
      go_wp2_with fail
      go_loopw [8] (fun v8 wr => ∃ (k : Nat) (ms : List Int), k ≤ n ∧ v8 = .int .i64 (k : Int) ∧ Hid (TwL w2 (some ⟨go, oo, none⟩) n co os (some ⟨gm, om, none⟩) n cm ms wr) ∧ Hid (MosI (EdP p) n k 0 ms)) (fun v _ => n - (intOf v).toNat)
      case atStart => exact ⟨0, ms, by omega, rfl, HT, HM⟩
      case round =>
        clear HT HM
        obtain ⟨k, ms, hk, rfl, HT, HM⟩ := hrel
        by_cases hlk : k < n
        · have hkI : (k : Int) < (n : Int) := by omega
          have HFk := Lib.hid (HF.out wr (X2.out.t HT.out.a.ext) (k : Int) (by omega) (by omega))
          go_wp2_with fail
          refine HFk.out.mono ?_; rintro e w7 ⟨A7, c7, lk, rfl, hd, hn7⟩
          have HFR := Lib.hid hd
          have RL := Lib.hid hn7.room.rd
          have HT7 := Lib.hid (HT.out.x hn7.ext)
          obtain ⟨b7, o7, _, hA7, _⟩ := rd_get RL.out (k := 0) hn0
          subst hA7
          have HLT : Hid (b7 ≠ gm ∧ b7 < w7.heap.size ∧ wr.heap.size ≤ b7) := Lib.hid (by
            have h1 : foot (some ⟨b7, o7, none⟩) c7 b7 := ⟨by have := hn7.room.2.1; omega, o7, rfl⟩
            have h2 : foot (some ⟨gm, om, none⟩) cm gm := ⟨by have := HT.out.b.room.2.1; omega, om, rfl⟩
            have h3 := hn7.ft _ h1
            have h4 := HT.out.b.room.lt h2
            exact ⟨by omega, hn7.room.lt h1, h3⟩)
          clear hd hn7 HFk HT
          go_wp2_with fail
          go_loopw [10] (fun v10 wr => ∃ (i : Nat) (ms : List Int), i ≤ n ∧ v10 = .int .i64 (i : Int) ∧ Hid (TwL w2 (some ⟨go, oo, none⟩) n co os (some ⟨gm, om, none⟩) n cm ms wr ∧ Rd intz wr (some ⟨b7, o7, none⟩) n lk) ∧ Hid (MosI (EdP p) n k i ms)) (fun v _ => n - (intOf v).toNat)
          case atStart => exact ⟨0, ms, by omega, rfl, Lib.hid ⟨HT7.out, RL.out⟩, HM⟩
          case round =>
            clear HT7 HM RL
            obtain ⟨i, ms, hi, rfl, HT, HM⟩ := hrel
            by_cases hli : i < n
            · have hiI : (i : Int) < (n : Int) := by omega
              obtain ⟨_, _, y, hh, hy, cy⟩ := rd_get (RD.out.ext HT.out.1.a.ext) hli
              cases hh
              obtain ⟨_, _, z, hh, hz, cz⟩ := rd_get HT.out.2 hli
              cases hh
              obtain ⟨_, _, x, hh, hx, cx⟩ := rd_get HT.out.1.b.room.rd hli
              cases hh
              unfold intz at cy cz cx
              have hrc := HD.out.iff hy
              have hrw := frm_rwo HFR.out hz
              have hxv := HM.out.at_ hx
              have hxb := mosF_le (EdP p) k i i
              have hxr1 : 0 ≤ x := by omega
              have hxr2 : x ≤ 300 := by omega
              clear hxv hxb
              by_cases hy0 : 0 ≤ y
              · by_cases hz0 : z < 0
                · have hdom : Dom (EdP p) k i := ⟨hrc.1 hy0, fun h => by have := hrw.2 h; omega⟩
                  have HM2 := Lib.hid (HM.out.hit hdom hx)
                  have fz := HT.out.1.b.room.frozenAt (k := i) (by have := HT.out.1.b.room.2.1; omega)
                  have HT2 := Lib.hid (HT.out.1.swap.set hli (x + 1)).swap
                  have RL2 : Hid (Rd intz (wr.setCell ⟨gm, om + i, none⟩ (intz (x + 1))) (some ⟨b7, o7, none⟩) n lk) := Lib.hid (HT.out.2.chg (Chg.set wr gm (om + i) (intz (x + 1)) (T := fun j => j = gm) rfl) (fun j o hA _ e => by cases hA; exact HLT.out.1 e))
                  have hwx : wrap64 (x + 1) = x + 1 := by unfold wrap64; omega
                  clear hy hz hx hrc hrw hdom HM HT
                  go_wp2_with fail
                  go_roundw
                  case rel => exact ⟨i + 1, _, by omega, by go_num, Lib.hid ⟨HT2.out, RL2.out⟩, HM2⟩
                  case measure => simp [intOf]; omega
                · have HM2 := Lib.hid (HM.out.miss (fun h => h.2 (hrw.1 (by omega))))
                  clear hy hz hx hrc hrw HM
                  go_wp2_with fail
                  go_roundw
                  case rel => exact ⟨i + 1, ms, by omega, by go_num, HT, HM2⟩
                  case measure => simp [intOf]; omega
              · have HM2 := Lib.hid (HM.out.miss (fun h => hy0 (hrc.2 h.1)))
                clear hy hz hx hrc hrw HM
                go_wp2_with fail
                go_roundw
                case rel => exact ⟨i + 1, ms, by omega, by go_num, HT, HM2⟩
                case measure => simp [intOf]; omega
            · obtain rfl : n = i := by omega
              have HM2 := Lib.hid HM.out.next
              have HT2 := Lib.hid HT.out.1
              clear HM HT
              go_wp2_with fail
              go_roundw
              case rel => exact ⟨k + 1, ms, by omega, by go_num, HT2, HM2⟩
              case measure => simp [intOf]; omega
        · obtain rfl : n = k := by omega
          have HMS : Hid (ms.length = n ∧ ∀ (v : Nat) (x : Int), ms[v]? = some x → x = (cntT (domB (EdP p)) n v : Int)) := Lib.hid ⟨HM.out.len, fun v x hv => by rw [HM.out.at_ hv, mosF_zero]⟩
          have HN0 : Hid (NeR (EdP p) n 0 0 (fun v => cntT (domB (EdP p)) n v) os) := Lib.hid (by rw [HOS.out]; exact NeR.start _ _ _)
          clear HM
          go_wp2_with fail
          go_loopw [11] (fun v11 wr => ∃ (k : Nat) (out : List Int), k ≤ n ∧ v11 = .int .i64 (k : Int) ∧ Hid (TwL w2 (some ⟨go, oo, none⟩) n co out (some ⟨gm, om, none⟩) n cm ms wr) ∧ Hid (NeR (EdP p) n k 0 (fun v => cntT (domB (EdP p)) n v) out)) (fun v _ => n - (intOf v).toNat)
          case atStart => exact ⟨0, os, by omega, rfl, HT, HN0⟩
          case round =>
            clear HT HN0
            obtain ⟨k, out, hk, rfl, HT, HN⟩ := hrel
            by_cases hlk2 : k < n
            · have hkI : (k : Int) < (n : Int) := by omega
              have HFk := Lib.hid (HF.out wr (X2.out.t HT.out.a.ext) (k : Int) (by omega) (by omega))
              go_wp2_with fail
              refine HFk.out.mono ?_; rintro e w7 ⟨A7, c7, lk, rfl, hd, hn7⟩
              have HFR := Lib.hid hd
              have RL := Lib.hid hn7.room.rd
              have HT7 := Lib.hid (HT.out.x hn7.ext)
              obtain ⟨b7, o7, _, hA7, _⟩ := rd_get RL.out (k := 0) hn0
              subst hA7
              have HLT : Hid (b7 ≠ go) := Lib.hid (by
                have h1 : foot (some ⟨b7, o7, none⟩) c7 b7 := ⟨by have := hn7.room.2.1; omega, o7, rfl⟩
                have h2 : foot (some ⟨go, oo, none⟩) co go := ⟨by have := HT.out.a.room.2.1; omega, oo, rfl⟩
                have h3 := hn7.ft _ h1
                have h4 := HT.out.a.room.lt h2
                omega)
              clear hd hn7 HFk HT
              go_wp2_with fail
              go_loopw [13] (fun v13 wr => ∃ (i : Nat) (out : List Int), i ≤ n ∧ v13 = .int .i64 (i : Int) ∧ Hid (TwL w2 (some ⟨go, oo, none⟩) n co out (some ⟨gm, om, none⟩) n cm ms wr ∧ Rd intz wr (some ⟨b7, o7, none⟩) n lk) ∧ Hid (NeR (EdP p) n k i (fun v => cntT (domB (EdP p)) n v) out)) (fun v _ => n - (intOf v).toNat)
              case atStart => exact ⟨0, out, by omega, rfl, Lib.hid ⟨HT7.out, RL.out⟩, HN⟩
              case round =>
                clear HT7 HN RL
                obtain ⟨i, out, hi, rfl, HT, HN⟩ := hrel
                by_cases hli : i < n
                · have hiI : (i : Int) < (n : Int) := by omega
                  obtain ⟨_, _, y, hh, hy, cy⟩ := rd_get (RD.out.ext HT.out.1.a.ext) hli
                  cases hh
                  obtain ⟨_, _, z, hh, hz, cz⟩ := rd_get HT.out.2 hli
                  cases hh
                  obtain ⟨_, _, x, hh, hx, cx⟩ := rd_get HT.out.1.a.room.rd hli
                  cases hh
                  obtain ⟨_, _, mk, hh, hmk, cmk⟩ := rd_get HT.out.1.b.room.rd hlk2
                  cases hh
                  unfold intz at cy cz cx cmk
                  have hrc := HD.out.iff hy
                  have hrw := frm_rwo HFR.out hz
                  have hmkv := HMS.out.2 k mk hmk
                  by_cases hik : i = k
                  · have hk1 : ((i : Int) != (k : Int)) = false := by simp [hik]
                    have HN2 := Lib.hid (HN.out.skip (.inr (.inl hik.symm)))
                    clear hy hz hx hrc hrw hmk hmkv HN hik
                    go_upto_region 26 with fail
                    go_cut [116] from 79 to 116 (fun v wx => v = .bool false ∧ Ext wr wx)
                    case first =>
                      go_quiet (fail)
                      go_wp2_with fail
                      go_meet
                      exact ⟨by simp, by first | exact Ext.drewN _ _ | exact Ext.drew _⟩
                    case rest =>
                      obtain ⟨rfl, ex⟩ := hcut
                      have HT2 := Lib.hid (And.intro (HT.out.1.x ex) (HT.out.2.ext ex))
                      clear ex HT
                      go_wp2_with fail
                      go_roundw
                      case rel => exact ⟨i + 1, out, by omega, by go_num, HT2, HN2⟩
                      case measure => simp [intOf]; omega
                  · have hk1 : ((i : Int) != (k : Int)) = true := by simp; omega
                    by_cases hy0 : 0 ≤ y
                    · by_cases hz0 : z < 0
                      · have hdom : Dom (EdP p) k i := ⟨hrc.1 hy0, fun h => by have := hrw.2 h; omega⟩
                        by_cases hx0 : x < 0
                        · have HN2 := Lib.hid (HN.out.set hdom (fun e => hik e.symm) hli (.inl ⟨x, hx, hx0⟩))
                          clear hy hz hx hrc hrw hmk hmkv HN hik hdom
                          go_upto_region 26 with fail
                          go_cut [116] from 79 to 116 (fun v wx => v = .bool true ∧ Ext wr wx)
                          case first =>
                            go_quiet (fail)
                            go_wp2_with fail
                            go_meet
                            exact ⟨by simp, by first | exact Ext.drewN _ _ | exact Ext.drew _⟩
                          case rest =>
                            obtain ⟨rfl, ex⟩ := hcut
                            have HT1 := Lib.hid (And.intro (HT.out.1.x ex) (HT.out.2.ext ex))
                            clear ex HT
                            obtain ⟨_, _, z', hh, _, cz'⟩ := rd_get HT1.out.1.a.room.rd hli
                            cases hh
                            have fz := HT1.out.1.a.room.frozenAt (k := i) (by have := HT1.out.1.a.room.2.1; omega)
                            have HT2 := Lib.hid (HT1.out.1.set hli (k : Int))
                            have RL2 : Hid (Rd intz (wc.setCell ⟨go, oo + i, none⟩ (intz (k : Int))) (some ⟨b7, o7, none⟩) n lk) := Lib.hid (HT1.out.2.chg (Chg.set wc go (oo + i) (intz (k : Int)) (T := fun j => j = go) rfl) (fun j o hA _ e => by cases hA; exact HLT.out e))
                            clear HT1
                            go_wp2_with fail
                            go_roundw
                            case rel => exact ⟨i + 1, _, by omega, by go_num, Lib.hid ⟨HT2.out, RL2.out⟩, HN2⟩
                            case measure => simp [intOf]; omega
                        · rcases HN.out.at_ hx with ⟨h1, _⟩ | ⟨q, h1, h2, _⟩
                          · omega
                          · subst h1
                            have hqn : q < n := by unfold neK at h2; split at h2 <;> omega
                            have hqI : (q : Int) < (n : Int) := by omega
                            obtain ⟨_, _, mq, hh, hmq, cmq⟩ := rd_get HT.out.1.b.room.rd hqn
                            cases hh
                            unfold intz at cmq
                            have hmqv := HMS.out.2 q mq hmq
                            by_cases hlt2 : mq < mk
                            · have HN2 := Lib.hid (HN.out.set hdom (fun e => hik e.symm) hli (.inr ⟨q, hx, by omega⟩))
                              clear hy hz hx hrc hrw hmk hmkv hmq hmqv HN hik hdom h2
                              go_upto_region 26 with fail
                              go_cut [116] from 79 to 116 (fun v wx => v = .bool true ∧ Ext wr wx)
                              case first =>
                                go_quiet (fail)
                                go_wp2_with fail
                                go_meet
                                exact ⟨by simp, by first | exact Ext.drewN _ _ | exact Ext.drew _⟩
                              case rest =>
                                obtain ⟨rfl, ex⟩ := hcut
                                have HT1 := Lib.hid (And.intro (HT.out.1.x ex) (HT.out.2.ext ex))
                                clear ex HT
                                obtain ⟨_, _, z', hh, _, cz'⟩ := rd_get HT1.out.1.a.room.rd hli
                                cases hh
                                have fz := HT1.out.1.a.room.frozenAt (k := i) (by have := HT1.out.1.a.room.2.1; omega)
                                have HT2 := Lib.hid (HT1.out.1.set hli (k : Int))
                                have RL2 : Hid (Rd intz (wc.setCell ⟨go, oo + i, none⟩ (intz (k : Int))) (some ⟨b7, o7, none⟩) n lk) := Lib.hid (HT1.out.2.chg (Chg.set wc go (oo + i) (intz (k : Int)) (T := fun j => j = go) rfl) (fun j o hA _ e => by cases hA; exact HLT.out e))
                                clear HT1
                                go_wp2_with fail
                                go_roundw
                                case rel => exact ⟨i + 1, _, by omega, by go_num, Lib.hid ⟨HT2.out, RL2.out⟩, HN2⟩
                                case measure => simp [intOf]; omega
                            · have HN2 := Lib.hid (HN.out.skip (.inr (.inr ⟨q, hx, by omega⟩)))
                              clear hy hz hx hrc hrw hmk hmkv hmq hmqv HN hik hdom h2
                              go_upto_region 26 with fail
                              go_cut [116] from 79 to 116 (fun v wx => v = .bool false ∧ Ext wr wx)
                              case first =>
                                go_quiet (fail)
                                go_wp2_with fail
                                go_meet
                                exact ⟨by simp, by first | exact Ext.drewN _ _ | exact Ext.drew _⟩
                              case rest =>
                                obtain ⟨rfl, ex⟩ := hcut
                                have HT2 := Lib.hid (And.intro (HT.out.1.x ex) (HT.out.2.ext ex))
                                clear ex HT
                                go_wp2_with fail
                                go_roundw
                                case rel => exact ⟨i + 1, out, by omega, by go_num, HT2, HN2⟩
                                case measure => simp [intOf]; omega
                      · have HN2 := Lib.hid (HN.out.skip (.inl (fun h => h.2 (hrw.1 (by omega)))))
                        clear hy hz hx hrc hrw hmk hmkv HN hik
                        go_upto_region 26 with fail
                        go_cut [116] from 79 to 116 (fun v wx => v = .bool false ∧ Ext wr wx)
                        case first =>
                          go_quiet (fail)
                          go_wp2_with fail
                          go_meet
                          exact ⟨by simp, by first | exact Ext.drewN _ _ | exact Ext.drew _⟩
                        case rest =>
                          obtain ⟨rfl, ex⟩ := hcut
                          have HT2 := Lib.hid (And.intro (HT.out.1.x ex) (HT.out.2.ext ex))
                          clear ex HT
                          go_wp2_with fail
                          go_roundw
                          case rel => exact ⟨i + 1, out, by omega, by go_num, HT2, HN2⟩
                          case measure => simp [intOf]; omega
                    · have HN2 := Lib.hid (HN.out.skip (.inl (fun h => hy0 (hrc.2 h.1))))
                      clear hy hz hx hrc hrw hmk hmkv HN hik
                      go_upto_region 26 with fail
                      go_cut [116] from 79 to 116 (fun v wx => v = .bool false ∧ Ext wr wx)
                      case first =>
                        go_quiet (fail)
                        go_wp2_with fail
                        go_meet
                        exact ⟨by simp, by first | exact Ext.drewN _ _ | exact Ext.drew _⟩
                      case rest =>
                        obtain ⟨rfl, ex⟩ := hcut
                        have HT2 := Lib.hid (And.intro (HT.out.1.x ex) (HT.out.2.ext ex))
                        clear ex HT
                        go_wp2_with fail
                        go_roundw
                        case rel => exact ⟨i + 1, out, by omega, by go_num, HT2, HN2⟩
                        case measure => simp [intOf]; omega
                · obtain rfl : n = i := by omega
                  have HN2 := Lib.hid HN.out.next
                  have HT2 := Lib.hid HT.out.1
                  clear HN HT
                  go_wp2_with fail
                  go_roundw
                  case rel => exact ⟨k + 1, out, by omega, by go_num, HT2, HN2⟩
                  case measure => simp [intOf]; omega
            · obtain rfl : n = k := by omega
              have HF2 := Lib.hid (HN.out.isN (fun i hi => by have := rch_lt HP.out hi; rw [Hl.out] at this; exact this))
              clear HN
              go_wp2_with fail
              go_ret2
              exact ⟨_, co, out, rfl, HF2.out, HT.out.a.room, fun q hq => Nat.le_trans X2.out.size (HT.out.a.ft q hq), X2.out.t HT.out.a.ext⟩
theorem rdom_bad (A : Option Addr) (n c : Nat) (p : List Ins) (w : World) (h : RdS 5 insC w A n p) (h0 : (checkF p).2 ≠ 0) :
    Calls Try.prog 49 #[.slice A n c] w fun e w' => e = .returned (.tuple #[.slice none 0 0, .int .i64 160]) ∧ Ext w w' := by
  have HR := Lib.hid (rright_ A n c p w h)
  rw [decide_eq_false h0] at HR
  clear h h0
  go_enter Try.func49, Try.ntmps49
  go_wp2_with fail
  refine HR.out.mono ?_; rintro e w1 ⟨rfl, e1⟩
  have E1 := Lib.hid e1
  clear e1
  go_wp2_with fail
  go_ret2
  exact ⟨rfl, E1.out⟩
end Go.Proofs.Ytlneifgihdickaa
