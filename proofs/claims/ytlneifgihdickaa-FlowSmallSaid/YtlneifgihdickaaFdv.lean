/- Fdv: Dominators: the walk. -/
import Derived.Test.YtlneifgihdickaaFdo
namespace Go.Proofs.Ytlneifgihdickaa
open Go.RowKit Go.Fx
theorem rchB_iff {E : Nat → Nat → Prop} {n : Nat} {d : List Int} (h : IsD E n 0 d) : (rchB d).length = n ∧ ∀ j : Nat, j < n → ((rchB d)[j]? = some true ↔ Rch E j) := by
  refine ⟨by unfold rchB; rw [List.length_map]; exact h.len, fun j hj => ?_⟩
  have e1 := List.getElem?_eq_getElem (l := d) (i := j) (by rw [h.len]; exact hj)
  unfold rchB
  rw [List.getElem?_map, e1]
  simp only [Option.map_some, Option.some.injEq, decide_eq_true_eq]
  exact h.iff e1
theorem own_out {tab : List (Nat → Bool)} {rch : List Bool} {i j m : Nat} {s : Nat → Bool} {L : List Nat} (hj : L[m]? = some j) (hr : rch[j]? = some false) : ownF tab rch i s (L.take (m + 1)) = ownF tab rch i s (L.take m) := by
  funext k
  rw [take_snoc hj, ownF_snoc, hr]
  simp
/-- The row while one of those before is gone through: the places before q are done. -/
def midF (own nxt : Nat → Bool) (q : Nat) (x : Nat) : Bool := if x < q then nxt x else own x
theorem midF_zero (own nxt : Nat → Bool) : midF own nxt 0 = own := by funext x; simp [midF]
theorem midF_step (own nxt : Nat → Bool) (q : Nat) : (fun x => if x = q then nxt q else midF own nxt q x) = midF own nxt (q + 1) := by
  funext x
  unfold midF
  by_cases h : x = q
  · subst h; simp
  · rw [if_neg h]
    by_cases h2 : x < q
    · rw [if_pos h2, if_pos (by omega)]
    · rw [if_neg h2, if_neg (by omega)]
theorem midF_end {own nxt : Nat → Bool} {n : Nat} (h : ∀ x, n ≤ x → own x = nxt x) : midF own nxt n = nxt := by
  funext x
  unfold midF
  by_cases hx : x < n
  · rw [if_pos hx]
  · rw [if_neg hx]; exact h x (by omega)
theorem midF_at (own nxt : Nat → Bool) (q : Nat) : midF own nxt q q = own q := by unfold midF; rw [if_neg (by omega)]
/-- The row of an instruction, in a block of its own. -/
abbrev OwnR (W : World) (bo : Nat) (s : Nat → Bool) : Prop := RoomS 256 W (some ⟨bo, 0, none⟩) 1 1 (([s] : List (Nat → Bool)).flatMap setC)
theorem OwnR.at_ {W : World} {bo q : Nat} {s : Nat → Bool} (h : OwnR W bo s) (hq : q < 256) : W.cell? ⟨bo, q, none⟩ = some (.bool (s q)) ∧ W.frozen? ⟨bo, q, none⟩ = false := by
  have h1 := h.cellAt (k := 0 * 256 + q) (u := .bool (s q)) (by rw [flat_get setC_len [s] 0 q s rfl hq]; exact setC_get s hq)
  have h2 := h.frozenAt (k := 0 * 256 + q) (by omega)
  simp only [Nat.zero_mul, Nat.zero_add] at h1 h2
  exact ⟨h1, h2⟩
theorem OwnR.set {W : World} {bo q : Nat} {s : Nat → Bool} (h : OwnR W bo s) (hq : q < 256) (b : Bool) : OwnR (W.setCell ⟨bo, q, none⟩ (.bool b)) bo (fun x => if x = q then b else s x) := by
  have hr := RoomS.set h (k := 0 * 256 + q) (by omega) (.bool b)
  rw [Nat.zero_mul, Nat.zero_add, Nat.zero_add] at hr
  have e := flat_set setC_len (s := 256) (j := q) hq (x := s) (y := fun x => if x = q then b else s x) (u := .bool b) (setC_set s hq b).symm [s] 0 rfl
  rw [Nat.zero_mul, Nat.zero_add] at e
  rw [e] at hr
  exact hr
theorem OwnR.range {W : World} {bo : Nat} {s : Nat → Bool} (h : OwnR W bo s) : W.rangeAt bo 0 (setC s) := by
  have := setC_range (i := 0) (s := s) h rfl
  rwa [Nat.zero_mul, Nat.add_zero] at this
theorem OwnR.new {W : World} {bo : Nat} {t : TypeId} {zc : Array Value} (h : Blk W bo t zc) (hz : zc.size = 256) (s : Nat → Bool) : OwnR (W.setCells bo 0 (setC s)) bo s := by
  have h1 := RoomS.of_blk (s := 256) (n := 1) h (by rw [hz]) (by unfold maxLen; omega)
  have h2 := h1.setCells 0 (setC s) (by rw [setC_len]; omega)
  rw [Nat.zero_add] at h2
  have hl : zc.toList.length = 256 := by simp [hz]
  have e : zc.toList.take 0 ++ setC s ++ zc.toList.drop (0 + (setC s).length) = ([s] : List (Nat → Bool)).flatMap setC := by
    rw [List.take_zero, setC_len, List.drop_eq_nil_of_le (by omega)]
    simp
  rw [e] at h2
  exact h2
theorem DmW.own_ {p : List Ins} {w W W' : World} {n g b6 bo : Nat} {A4 : Option Addr} {rch : List Bool} {tab : List (Nat → Bool)} (h : DmW p w n g b6 A4 rch tab W) (h1 : bo ≠ b6) (h2 : bo ≠ g) (h3 : ∀ q o, A4 = some ⟨q, o, none⟩ → 0 < n → q ≠ bo) (h4 : w.heap.size ≤ bo) (ch : Chg (fun q => q = bo) W W') : DmW p w n g b6 A4 rch tab W' :=
  ⟨h.k6.chg ch (fun e => h1 e.symm), h.ro.chg ch (fun q hq e => by have := foot_some hq; omega), h.ne, h.lo, h.rr.chg ch (fun q o hA h0 e => h3 q o hA h0 e), h.rn, h.ext.trans (ch.below h.ext.size (fun q hq e => by omega))⟩
theorem there_new (w : World) (t : TypeId) (zc : Array Value) {m : Nat} (hz : zc.size = 256) (hm : m = 256) : (w.alloc (.cells zc t)).there w.heap.size 0 m := fun j hj => by
  subst hm
  have h := Blk.new w t zc
  rw [Nat.zero_add]
  refine ⟨?_, h.frozen j⟩
  rw [h.cell, Array.getElem?_eq_getElem (by omega)]
  rfl
theorem yields_neq_st {ops : Array Oper} {S : World → Prop} {op : Oper} {a : Act} {s s' : Nat → Bool} (hw : Region.wanted op (yielded ops a.tmps) = true) (x y : Operand) (z : TypeId) (ho : op.op = .binOp .neq 79 x y z) (hx : a.eval x = .agg (setC s).toArray) (hy : a.eval y = .agg (setC s').toArray) : YieldsIf Try.prog ops S op (.bool (!setB s s')) a :=
  .inl ⟨hw, fun w' _ => by
    unfold execOp
    simp only [ho, hx, hy, Sem.run_bind, Sem.run_pure, guard_st, neq_st, Result.andThen_ok]⟩
theorem DmW.there_ {p : List Ins} {w W : World} {n g b6 i : Nat} {A4 : Option Addr} {rch : List Bool} {tab : List (Nat → Bool)} {s : Nat → Bool} (h : DmW p w n g b6 A4 rch tab W) (hs : tab[i]? = some s) {m : Nat} (hm : m = 256) : W.there g (i * 256) m := fun j hj => by
  obtain ⟨h1, h2⟩ := h.at_ hs (k := j) (by omega)
  exact ⟨by rw [h1]; rfl, h2⟩
theorem own_lt {s own : Nat → Bool} (hle : ∀ k, own k = true → s k = true) (h : setB own s = false) : cnS own < cnS s := by
  have h1 : ¬ ∀ k, k < 256 → own k = s k := fun e => by rw [setB_iff.2 e] at h; cases h
  obtain ⟨k, h2⟩ := Classical.not_forall.1 h1
  obtain ⟨hk, h3⟩ := Classical.not_imp.1 h2
  have h4 : own k = false := by
    cases ho : own k with
    | false => rfl
    | true => exact absurd (by rw [ho, hle k ho]) h3
  exact cnS_lt hk hle h4 (by
    cases hs : s k with
    | true => rfl
    | false => exact absurd (by rw [h4, hs]) h3)
/-- The list of the nearest ones while it is made. -/
structure NeJ (E : Nat → Nat → Prop) (n i k : Nat) (out : List Int) : Prop where
  len : out.length = n
  all : ∀ j, j < n → (out[j]? = some (-1) ∧ ∀ k', 1 ≤ j → (j < i ∨ (j = i ∧ k' < k)) → ¬ Nea E j k') ∨ ∃ k' : Nat, k' < n ∧ out[j]? = some (k' : Int) ∧ Nea E j k'
section
variable {E : Nat → Nat → Prop} {n i k : Nat} {out : List Int}
theorem NeJ.hit (h : NeJ E n i k out) (hi : i < n) (hk : k < n) (hN : Nea E i k) : NeJ E n i (k + 1) (out.set i (k : Int)) :=
  ⟨by rw [List.length_set]; exact h.len, fun j hj => by
    by_cases e : i = j
    · rw [← e]; exact .inr ⟨k, hk, by rw [List.getElem?_set_self (by rw [h.len]; exact hi)], hN⟩
    · rw [List.getElem?_set_ne e]
      rcases h.all j hj with ⟨h1, h2⟩ | h1
      · exact .inl ⟨h1, fun k' h3 h4 => h2 k' h3 (by omega)⟩
      · exact .inr h1⟩
theorem NeJ.miss (h : NeJ E n i k out) (hN : ¬ Nea E i k) : NeJ E n i (k + 1) out :=
  ⟨h.len, fun j hj => by
    rcases h.all j hj with ⟨h1, h2⟩ | h1
    · refine .inl ⟨h1, fun k' h3 h4 => ?_⟩
      by_cases e : j = i ∧ k' = k
      · rw [e.1, e.2]; exact hN
      · exact h2 k' h3 (by omega)
    · exact .inr h1⟩
theorem NeJ.row (h : NeJ E n i n out) (hE : ∀ i, Rch E i → i < n) : NeJ E n (i + 1) 0 out :=
  ⟨h.len, fun j hj => by
    rcases h.all j hj with ⟨h1, h2⟩ | h1
    · refine .inl ⟨h1, fun k' h3 h4 hN => ?_⟩
      have := hE k' hN.2.1.rch
      exact h2 k' h3 (by omega) hN
    · exact .inr h1⟩
theorem NeJ.done (h : NeJ E n n 0 out) (hE : ∀ i, Rch E i → i < n) : IsN E n out :=
  ⟨h.len, fun {i} hi hc => by
    rcases h.all i hi with ⟨h1, _⟩ | ⟨k', hk', h1, hN⟩
    · exact h1
    · rcases hc with e | hc
      · rw [e] at hN
        exact absurd (Way.start (fun e => hN.1 e.symm)) hN.2.1.2
      · exact absurd hN.2.1.1 hc, fun {i} hi h0 hR => by
    rcases h.all i hi with ⟨_, h2⟩ | ⟨k', hk', h1, hN⟩
    · obtain ⟨k, hk, hN⟩ := nea_ex hE hR h0
      exact absurd hN (h2 k (by omega) (by omega))
    · exact ⟨k', hk', h1, hN⟩⟩
theorem NeJ.first (_hn : 1 ≤ n) : NeJ E n 1 0 (List.replicate n (-1)) :=
  ⟨List.length_replicate, fun j hj => .inl ⟨by rw [List.getElem?_replicate, if_pos hj], fun k' h1 h2 => by omega⟩⟩
theorem nea_test {tab : List (Nat → Bool)} {si sk : Nat → Bool} (hd : ∀ {i : Nat} {s : Nat → Bool}, tab[i]? = some s → Rch E i → ∀ k, k < n → (s k = true ↔ Dom E k i)) (hJ : TabJ E n tab) (hE : ∀ i, Rch E i → i < n) (hn : n ≤ 256) (hi : tab[i]? = some si) (hk : tab[k]? = some sk) (hkn : k < n) :
    Nea E i k ↔ Rch E i ∧ k ≠ i ∧ si k = true ∧ cnS sk + 1 = cnS si := by
  have hD : ∀ k i, k < n → Rch E i → ((fun k i => (tab[i]?.getD (fun _ => false)) k) k i = true ↔ Dom E k i) := fun k i hk hR => by
    obtain ⟨s, hs⟩ : ∃ s, tab[i]? = some s := ⟨tab[i]'(by rw [hJ.len]; exact hE i hR), List.getElem?_eq_getElem _⟩
    show (tab[i]?.getD (fun _ => false)) k = true ↔ _
    rw [hs]
    exact hd hs hR k hk
  have hc : ∀ {i : Nat} {s : Nat → Bool}, tab[i]? = some s → cntT (fun k i => (tab[i]?.getD (fun _ => false)) k) n i = cnS s := fun {i s} hs => by
    rw [cnS_cut hn (hJ.hi hs)]
    unfold cntT
    simp only [hs, Option.getD_some]
  rw [← hc hi, ← hc hk]
  constructor
  · intro h
    exact ⟨h.2.1.1, h.1, (hd hi h.2.1.1 k hkn).2 h.2.1, Nea.cnt hD hE h⟩
  · rintro ⟨h1, h2, h3, h4⟩
    exact nea_of_cnt hD hE ((hd hi h1 k hkn).1 h3) h2 h4
end
/-- What Dominators leaves. -/
def DomP (p : List Ins) (n : Nat) (w : World) (e : Ending) (w' : World) : Prop :=
  ∃ A c out, e = .returned (.tuple #[.slice A n c, .int .i64 0]) ∧ IsN (EdP p) n out ∧ Room w' A n c (out.map intz) ∧ (∀ q, foot A c q → w.heap.size ≤ q) ∧ Ext w w'
set_option maxRecDepth 100000 in
theorem dom_bad (A : Option Addr) (n c : Nat) (p : List Ins) (w : World) (h : RdS 5 insC w A n p) (h0 : (checkF p).2 ≠ 0) :
    Calls Try.prog 21 #[.slice A n c] w fun e w' => e = .returned (.tuple #[.slice none 0 0, .int .i64 160]) ∧ Ext w w' := by
  have HR := Lib.hid (reached_bad A n c p w h h0)
  clear h h0
  go_enter Try.func21, Try.ntmps21
  go_wp2_with fail
  go_step3
  go_wp2_with fail
  refine HR.out.mono ?_; rintro e w2 ⟨rfl, e2⟩
  have E2 := Lib.hid e2
  clear e2
  go_wp2_with fail
  try rw [Exit.noGoto_ret]
  go_ret2
  exact ⟨rfl, E2.out⟩
set_option maxRecDepth 100000 in
set_option maxHeartbeats 8000000 in
theorem dom_ (A : Option Addr) (n c : Nat) (p : List Ins) (w : World) (h : RdS 5 insC w A n p) (hp : RightP p) :
    Calls Try.prog 21 #[.slice A n c] w (DomP p n w) := by
  have hl := h.1
  have hn := hp.max
  have hn0 := hp.pos
  rw [hl] at hn hn0
  have HR := Lib.hid (reached_ A n c p w h hp)
  have H := Lib.hid h
  have HP := Lib.hid hp
  have Hl := Lib.hid hl
  clear h hp hl
  go_enter Try.func21, Try.ntmps21
  go_wp2_with fail
  go_step3
  go_wp2_with fail
  refine HR.out.mono ?_; rintro e w3 ⟨A4, c4, d, rfl, hI, r4, f4, e3⟩
  obtain ⟨rch, hrch⟩ : ∃ rch, rch = rchB d := ⟨_, rfl⟩
  rw [← hrch] at r4
  have HRc := Lib.hid (show rch.length = n ∧ ∀ j : Nat, j < n → (rch[j]? = some true ↔ Rch (EdP p) j) from by rw [hrch]; exact rchB_iff hI)
  obtain ⟨w4, hmk, hro, e4⟩ := make_st w3 n (by omega)
  obtain ⟨g, hg⟩ : ∃ g, g = w3.heap.size := ⟨_, rfl⟩
  rw [← hg] at hmk hro
  obtain ⟨b6, hb6⟩ : ∃ b6, b6 = w4.heap.size := ⟨_, rfl⟩
  have h5 : DmW p w n g b6 A4 rch (tabF n 0 0) (w4.alloc (.cells #[.slice (some ⟨g, 0, none⟩) n n] 78)) := by
    have hgl : g < w4.heap.size := hro.lt ⟨by omega, 0, rfl⟩
    refine ⟨by rw [hb6]; exact Blk.new _ _ _, by rw [tabF_zero]; exact hro.ext (Ext.alloc _ _), by omega, by rw [hg]; exact e3.size, ((r4.rd).ext e4).ext (Ext.alloc _ _), fun q o hA e => ?_, (e3.t e4).t (Ext.alloc _ _)⟩
    have := r4.lt (k := q) ⟨by have := r4.2.1; omega, o, hA⟩
    omega
  have H5 := Lib.hid h5
  have Hb6 := Lib.hid hb6
  clear hI r4 f4 e3 hro e4 h5 hrch hg hb6 HR
  go_wp2_with fail
  rw [← Hb6.out]
  generalize w4.alloc (.cells #[.slice (some ⟨g, 0, none⟩) n n] 78) = w5 at *
  clear Hb6 hmk
  have hc6 := H5.out.k6.cell0
  go_wp2_with fail
  go_loopw [33] (fun v wr => ∃ a : Nat, a ≤ n ∧ v = .int .i64 (a : Int) ∧ Hid (DmW p w n g b6 A4 rch (tabF n a 0) wr)) (fun v _ => n - (intOf v).toNat)
  case atStart => exact ⟨0, by omega, rfl, H5⟩
  case round =>
    clear hc6
    obtain ⟨a, ha, rfl, HA⟩ := hrel
    by_cases hlt : a < n
    · have hltI : (a : Int) < (n : Int) := by omega
      go_wp2_with fail
      obtain ⟨wo, rfl⟩ : ∃ wo, wo = wr := ⟨_, rfl⟩
      go_loopw [38] (fun v wx => ∃ b : Nat, b ≤ n ∧ v = .int .i64 (b : Int) ∧ Hid (DmW p w n g b6 A4 rch (tabF n a b) wx)) (fun v _ => n - (intOf v).toNat)
      case atStart => exact ⟨0, by omega, rfl, HA⟩
      case round =>
        clear HA
        obtain ⟨b, hb, rfl, HB⟩ := hrel
        by_cases hbl : b < n
        · have hbI : (b : Int) < (n : Int) := by omega
          have hb256 : (b : Int) < 256 := by omega
          have hc6 := HB.out.k6.cell0
          obtain ⟨s, hs⟩ : ∃ s, (tabF n a b)[a]? = some s := ⟨_, tabF_get hlt⟩
          obtain ⟨hcl, hfz⟩ := HB.out.at_ hs (k := b) (by omega)
          obtain ⟨vb, hvb⟩ : ∃ vb, vb = (decide (0 < a) || decide (b = 0)) := ⟨_, rfl⟩
          have hN := HB.out.put hs (k := b) (by omega) vb
          rw [hvb, tabF_step hlt hbl s hs, ← hvb] at hN
          have HN := Lib.hid hN
          clear hN hs HB
          by_cases h0 : 0 < a
          · have h0I : (0 : Int) < (a : Int) := by omega
            have ev : vb = true := by rw [hvb, decide_eq_true h0]; rfl
            subst ev
            clear hvb
            go_wp2_with fail
            go_roundw
            case rel => exact ⟨b + 1, by omega, by go_num, HN⟩
            case measure => simp [intOf]; omega
          · have h0I : ¬ (0 : Int) < (a : Int) := by omega
            by_cases h1 : b = 0
            · have h1I : ((b : Int) == 0) = true := by simp [h1]
              have ev : vb = true := by rw [hvb, decide_eq_true h1]; simp
              subst ev
              clear hvb h1
              go_wp2_with fail
              go_roundw
              case rel => exact ⟨b + 1, by omega, by go_num, HN⟩
              case measure => simp [intOf]; omega
            · have h1I : ((b : Int) == 0) = false := by simp; omega
              have ev : vb = false := by rw [hvb, decide_eq_false h1, decide_eq_false h0]; rfl
              subst ev
              clear hvb h1
              go_wp2_with fail
              go_roundw
              case rel => exact ⟨b + 1, by omega, by go_num, HN⟩
              case measure => simp [intOf]; omega
        · obtain rfl : n = b := by omega
          have hbI : ¬ ((n : Int) < (n : Int)) := by omega
          have HN : Hid (DmW p w n g b6 A4 rch (tabF n (a + 1) 0) wr) := Lib.hid (by rw [← tabF_row]; exact HB.out)
          clear HB
          go_wp2_with fail
          go_roundw
          case rel => exact ⟨a + 1, by omega, by go_num, HN⟩
          case measure => simp [intOf]; omega
    · obtain rfl : n = a := by omega
      have hltI : ¬ ((n : Int) < (n : Int)) := by omega
      go_wp2_with fail
      refine (before_ A n c p wr (H.out.ext HA.out.ext) HP.out).mono ?_; rintro e w6 ⟨A9, ss, rfl, l6, e6⟩
      have H6 : Hid (DmW p w n g b6 A4 rch (tabF n n 0) w6 ∧ Lsi intv (g + 1) w6 A9 n n ss (befL p n n)) := Lib.hid ⟨HA.out.e e6, l6.down (HA.out.ro.lt ⟨by omega, 0, rfl⟩)⟩
      clear l6 e6 HA
      go_wp2_with fail
      have HT0 := Lib.hid (TabJ.first (E := EdP p) hn0 (fun j hj => by have := rch_lt HP.out hj; rwa [Hl.out] at this))
      have HL9 := Lib.hid (show ∀ q, (foot A9 n q ∨ foots ss q) → q ≠ g from fun q hq e => by have := H6.out.2.new q hq; omega)
      go_step3
      go_wp2_with fail
      go_loopg [] (totT (tabF n n 0)) (fun gk wr => ∃ tab, Hid (DmW p w n g b6 A4 rch tab wr ∧ Lsi intv (g + 1) wr A9 n n ss (befL p n n) ∧ TabJ (EdP p) n tab ∧ totT tab ≤ gk))
      case atStart => exact ⟨_, Lib.hid ⟨H6.out.1, H6.out.2, HT0.out, Nat.le_refl _⟩⟩
      case round =>
        clear H6 HT0
        obtain ⟨tab, HG⟩ := hrel
        go_wp2_with fail
        obtain ⟨wo, rfl⟩ : ∃ wo, wo = wr := ⟨_, rfl⟩
        go_loopw [10, 11] (fun vc vi wx => ∃ (ch : Bool) (i : Nat) (tab' : List (Nat → Bool)), i ≤ n ∧ 1 ≤ i ∧ vc = .bool ch ∧ vi = .int .i64 (i : Int) ∧ Hid (DmW p w n g b6 A4 rch tab' wx ∧ Lsi intv (g + 1) wx A9 n n ss (befL p n n) ∧ TabJ (EdP p) n tab' ∧ (ch = true → totT tab' < totT tab) ∧ (ch = false → tab' = tab ∧ ∀ i', 1 ≤ i' → i' < i → Rch (EdP p) i' → ∀ s, tab[i']? = some s → ∀ k, k < 256 → s k = true → ownF tab rch i' s (befN p n i') k = true))) (fun _ v _ => n - (intOf v).toNat)
        case atStart => exact ⟨false, 1, tab, by omega, by omega, rfl, rfl, Lib.hid ⟨HG.out.1, HG.out.2.1, HG.out.2.2.1, fun h => (by cases h), fun _ => ⟨rfl, fun i' h1 h2 => by omega⟩⟩⟩
        case round =>
          obtain ⟨ch, i, tab', hi, hi1, rfl, rfl, HI⟩ := hrel
          by_cases hil : i < n
          · have hilI : (i : Int) < (n : Int) := by omega
            have hc6 := HI.out.1.k6.cell0
            obtain ⟨s, hs⟩ : ∃ s, tab'[i]? = some s := ⟨tab'[i]'(by rw [HI.out.1.len]; exact hil), List.getElem?_eq_getElem _⟩
            have hrg := setC_range HI.out.1.ro hs
            rw [Nat.zero_add] at hrg
            have Hrg := Lib.hid hrg
            have Hs := Lib.hid hs
            clear hrg hs
            go_upto_region 19 with fail
            refine wp_region_lit ?_
            refine wpList_plain rfl (fun K1 hK1 => ?_)
            go_simp
            refine hK1 _ _ ?_
            refine wpList_plain rfl (fun K2 hK2 => ?_)
            go_simp
            refine hK2 _ _ ?_
            refine wpList_plain rfl (fun K3 hK3 => ?_)
            go_simp
            refine hK3 _ _ ?_
            clear hK1 hK2 hK3 K1 K2 K3
            refine wpList_load_mid rfl 79 (.tmp 64) rfl g (i * 256) rfl (setC s) _ Hrg.out ul_st rfl (by rw [setC_len]; exact sz_st) ?_
            simp only [Act.put, List.setIfInBounds_toArray, List.set_cons_zero, List.set_cons_succ]
            refine wpList_plain rfl (fun K4 hK4 => ?_)
            go_simp
            refine hK4 _ _ ?_
            clear hK4 K4
            refine wpList_store_mid rfl 79 (.tmp 12) (.tmp 65) rfl wr.heap.size 0 (setC s).toArray rfl rfl (there_new wr 79 Try.zeroCells79 (by kernel_rfl) (by rw [List.size_toArray, setC_len])) (by rw [List.size_toArray, setC_len]; exact sz_st) (all_oneCell_toArray (setC_one s)) ?_
            refine wpList_nil ?_
            obtain ⟨bo, hbo⟩ : ∃ bo, bo = wr.heap.size := ⟨_, rfl⟩
            obtain ⟨w2, hw2⟩ : ∃ w2, w2 = (wr.alloc (.cells Try.zeroCells79 79)).setCells bo 0 (setC s) := ⟨_, rfl⟩
            have H2 : Hid (DmW p w n g b6 A4 rch tab' w2 ∧ Lsi intv (g + 1) w2 A9 n n ss (befL p n n) ∧ OwnR w2 bo s ∧ wr.heap.size ≤ bo ∧ bo < w2.heap.size) := Lib.hid (by
              have hch := chg_setCells (wr.alloc (.cells Try.zeroCells79 79)) (T := fun q => q = bo) bo 0 (setC s) rfl
              have hb := Blk.new wr 79 Try.zeroCells79
              rw [← hbo] at hb
              have hon := OwnR.new hb (by kernel_rfl) s
              rw [hw2]
              refine ⟨HI.out.1.other (Ext.alloc _ _) (by omega) hch, (HI.out.2.1.ext (Ext.alloc _ _)).chg hch (fun q hq e => by have := HI.out.2.1.lt hq; omega), hon, by omega, ?_⟩
              have h1 := hch.size
              rw [World.size_alloc] at h1
              omega)
            have HW2 := Lib.hid hw2
            rw [← hbo]
            change Exit.then _ _ _ _ ((wr.alloc (.cells Try.zeroCells79 79)).setCells bo 0 (setC s))
            rw [← HW2.out]
            have HBo := Lib.hid (show bo ≠ b6 ∧ bo ≠ g ∧ (∀ q o, A4 = some ⟨q, o, none⟩ → 0 < n → q ≠ bo) ∧ w.heap.size ≤ bo ∧ (∀ q, (foot A9 n q ∨ foots ss q) → q ≠ bo) from by
              have h1 := HI.out.1.k6.lt
              have h2 := HI.out.1.ro.lt (k := g) ⟨by omega, 0, rfl⟩
              refine ⟨by omega, by omega, fun q o hA h0 e => ?_, by have := HI.out.1.ext.size; omega, fun q hq e => by have := HI.out.2.1.lt hq; omega⟩
              obtain ⟨b2, o2, _, hA2, hb2, _⟩ := HI.out.1.rr.at_ (k := 0) h0
              rw [hA] at hA2
              cases hA2
              omega)
            clear hbo hw2 hc6 HW2 Hrg
            obtain ⟨g9, o9, hA9, _⟩ := H2.out.2.1.room.some_ (by omega)
            subst hA9
            obtain ⟨⟨sA, sn, sc⟩, hsk⟩ : ∃ x, ss[i]? = some x := ⟨ss[i]'(by have := H2.out.2.1.n_; have := H2.out.2.1.len; rw [befL_len] at this; omega), List.getElem?_eq_getElem _⟩
            obtain ⟨L, hL⟩ : ∃ L, L = befN p n i := ⟨_, rfl⟩
            have hrd : ∀ W, Lsi intv (g + 1) W (some ⟨g9, o9, none⟩) n n ss (befL p n n) → Rd intv W sA sn L := fun W hW => by
              obtain ⟨lk, hlk, hrk⟩ := hW.at_ i _ hsk
              unfold befL at hlk
              rw [List.getElem?_map, List.getElem?_range hil] at hlk
              cases hlk
              rw [hL]
              exact hrk.rd
            have hck := H2.out.2.1.room.cellAt (k := i) (u := .slice sA sn sc) (by rw [List.getElem?_map, hsk]; rfl)
            have hsl : sn ≤ 256 := by have h1 := (hrd w2 H2.out.2.1).1; rw [hL] at h1; have := befN_len p n i; omega
            have HRd := Lib.hid hrd
            have HL := Lib.hid hL
            have Hln := Lib.hid (show L.length = sn from (hrd w2 H2.out.2.1).1)
            clear hrd hL hsk
            go_wp2_with fail
            obtain ⟨wq, hwq⟩ : ∃ wq, wq = wr := ⟨_, rfl⟩
            clear hwq
            go_loopw [71] (fun v wx => ∃ m : Nat, m ≤ sn ∧ v = .int .i64 (m : Int) ∧ Hid (DmW p w n g b6 A4 rch tab' wx ∧ Lsi intv (g + 1) wx (some ⟨g9, o9, none⟩) n n ss (befL p n n) ∧ OwnR wx bo (ownF tab' rch i s (L.take m)))) (fun v _ => sn - (intOf v).toNat)
            case atStart => exact ⟨0, by omega, rfl, Lib.hid ⟨H2.out.1, H2.out.2.1, by rw [List.take_zero, ownF_nil]; exact H2.out.2.2.1⟩⟩
            case round =>
              clear hck H2
              obtain ⟨m, hm, rfl, HM⟩ := hrel
              by_cases hml : m < sn
              · have hmlI : (m : Int) < (sn : Int) := by omega
                obtain ⟨bb, ob, j, hA, _, hx, hcj⟩ := (HRd.out _ HM.out.2.1).at_ hml
                subst hA
                unfold intv at hcj
                have hjm := befN_mem.1 (show j ∈ befN p n i by rw [← HL.out]; exact List.mem_of_getElem? hx)
                have hjn := hjm.1
                have hjI : (j : Int) < (n : Int) := by omega
                obtain ⟨b4, o4, bj, hA4, _, hbj, hc4⟩ := HM.out.1.rr.at_ hjn
                subst hA4
                unfold boolv at hc4
                have Hx := Lib.hid (And.intro hx (And.intro hbj hjm.2))
                clear hx hbj hjm
                cases bj with
                | false =>
                  have HN : Hid (DmW p w n g b6 (some ⟨b4, o4, none⟩) rch tab' wr ∧ Lsi intv (g + 1) wr (some ⟨g9, o9, none⟩) n n ss (befL p n n) ∧ OwnR wr bo (ownF tab' rch i s (L.take (m + 1)))) := Lib.hid ⟨HM.out.1, HM.out.2.1, by rw [own_out Hx.out.1 Hx.out.2.1]; exact HM.out.2.2⟩
                  clear HM
                  go_wp2_with fail
                  go_roundw
                  case rel => exact ⟨m + 1, by omega, by go_num, HN⟩
                  case measure => simp [intOf]; omega
                | true =>
                  obtain ⟨t, ht⟩ : ∃ t, tab'[j]? = some t := ⟨tab'[j]'(by rw [HM.out.1.len]; exact hjn), List.getElem?_eq_getElem _⟩
                  obtain ⟨own, hown⟩ : ∃ own, own = ownF tab' rch i s (L.take m) := ⟨_, rfl⟩
                  obtain ⟨nxt, hnxt⟩ : ∃ nxt, nxt = ownF tab' rch i s (L.take (m + 1)) := ⟨_, rfl⟩
                  have hq1 : ∀ q, nxt q = (own q && (t q || decide (q = i))) := fun q => by
                    rw [hnxt, hown, take_snoc Hx.out.1, ownF_snoc, Hx.out.2.1, ht]
                    rfl
                  have hq2 : ∀ x, n ≤ x → own x = nxt x := fun x hx => by
                    have h0 := HI.out.2.2.1.hi Hs.out x hx
                    have h1 : own x = false := by
                      cases hc : own x with
                      | false => rfl
                      | true => rw [hown] at hc; rw [ownF_le hc] at h0; cases h0
                    rw [hq1, h1, Bool.false_and]
                  have HS0 := Lib.hid (show DmW p w n g b6 (some ⟨b4, o4, none⟩) rch tab' wr ∧ Lsi intv (g + 1) wr (some ⟨g9, o9, none⟩) n n ss (befL p n n) ∧ OwnR wr bo (midF own nxt 0) from ⟨HM.out.1, HM.out.2.1, by rw [midF_zero, hown]; exact HM.out.2.2⟩)
                  have Hq := Lib.hid (And.intro hq1 (And.intro hq2 (And.intro hnxt ht)))
                  clear hown hnxt hq1 hq2 HM ht
                  go_wp2_with fail
                  go_loopw [81] (fun v wy => ∃ q : Nat, q ≤ n ∧ v = .int .i64 (q : Int) ∧ Hid (DmW p w n g b6 (some ⟨b4, o4, none⟩) rch tab' wy ∧ Lsi intv (g + 1) wy (some ⟨g9, o9, none⟩) n n ss (befL p n n) ∧ OwnR wy bo (midF own nxt q))) (fun v _ => n - (intOf v).toNat)
                  case atStart => exact ⟨0, by omega, rfl, HS0⟩
                  case round =>
                    clear HS0
                    obtain ⟨q, hq, rfl, HY⟩ := hrel
                    by_cases hql : q < n
                    · have hqI : (q : Int) < (n : Int) := by omega
                      have hq256 : (q : Int) < 256 := by omega
                      have hc6 := HY.out.1.k6.cell0
                      obtain ⟨hco, hfo⟩ := OwnR.at_ HY.out.2.2 (q := q) (by omega)
                      rw [midF_at] at hco
                      obtain ⟨hct, -⟩ := HY.out.1.at_ Hq.out.2.2.2 (k := q) (by omega)
                      obtain ⟨vb, hvb⟩ : ∃ vb, vb = nxt q := ⟨_, rfl⟩
                      have hset := OwnR.set HY.out.2.2 (q := q) (by omega) vb
                      rw [hvb, midF_step, ← hvb] at hset
                      have hch := Chg.set wr bo q (.bool vb) (T := fun x => x = bo) rfl
                      have HN := Lib.hid (show DmW p w n g b6 (some ⟨b4, o4, none⟩) rch tab' (wr.setCell ⟨bo, q, none⟩ (.bool vb)) ∧ Lsi intv (g + 1) (wr.setCell ⟨bo, q, none⟩ (.bool vb)) (some ⟨g9, o9, none⟩) n n ss (befL p n n) ∧ OwnR (wr.setCell ⟨bo, q, none⟩ (.bool vb)) bo (midF own nxt (q + 1)) from ⟨HY.out.1.own_ HBo.out.1 HBo.out.2.1 HBo.out.2.2.1 HBo.out.2.2.2.1 hch, HY.out.2.1.chg hch HBo.out.2.2.2.2, hset⟩)
                      rw [Hq.out.1] at hvb
                      clear hset hch HY
                      obtain ⟨ov, hov⟩ : ∃ ov, ov = own q := ⟨_, rfl⟩
                      obtain ⟨tv, htv⟩ : ∃ tv, tv = t q := ⟨_, rfl⟩
                      rw [← hov] at hco hvb
                      rw [← htv] at hct hvb
                      clear hov htv
                      cases ov with
                      | false =>
                        have ev : vb = false := hvb
                        subst ev
                        try clear hvb
                        go_wp2_with fail
                        go_roundw
                        case rel => exact ⟨q + 1, by omega, by go_num, HN⟩
                        case measure => simp [intOf]; omega
                      | true =>
                        cases tv with
                        | true =>
                          have ev : vb = true := hvb
                          subst ev
                          try clear hvb
                          go_wp2_with fail
                          go_roundw
                          case rel => exact ⟨q + 1, by omega, by go_num, HN⟩
                          case measure => simp [intOf]; omega
                        | false =>
                          by_cases hqi : q = i
                          · have hqiI : ((q : Int) == (i : Int)) = true := by simp [hqi]
                            have ev : vb = true := by rw [hvb, decide_eq_true hqi]; rfl
                            subst ev
                            (try clear hvb); clear hqi
                            go_wp2_with fail
                            go_roundw
                            case rel => exact ⟨q + 1, by omega, by go_num, HN⟩
                            case measure => simp [intOf]; omega
                          · have hqiI : ((q : Int) == (i : Int)) = false := by simp; omega
                            have ev : vb = false := by rw [hvb, decide_eq_false hqi]; rfl
                            subst ev
                            (try clear hvb); clear hqi
                            go_wp2_with fail
                            go_roundw
                            case rel => exact ⟨q + 1, by omega, by go_num, HN⟩
                            case measure => simp [intOf]; omega
                    · obtain rfl : n = q := by omega
                      have hqI : ¬ ((n : Int) < (n : Int)) := by omega
                      have HN : Hid (DmW p w n g b6 (some ⟨b4, o4, none⟩) rch tab' wr ∧ Lsi intv (g + 1) wr (some ⟨g9, o9, none⟩) n n ss (befL p n n) ∧ OwnR wr bo (ownF tab' rch i s (L.take (m + 1)))) := Lib.hid ⟨HY.out.1, HY.out.2.1, by
                        have h1 := HY.out.2.2
                        rw [midF_end Hq.out.2.1, Hq.out.2.2.1] at h1
                        exact h1⟩
                      clear HY
                      go_wp2_with fail
                      go_roundw
                      case rel => exact ⟨m + 1, by omega, by go_num, HN⟩
                      case measure => simp [intOf]; omega
              · obtain rfl : sn = m := by omega
                have hmlI : ¬ ((sn : Int) < (sn : Int)) := by omega
                have HO : Hid (DmW p w n g b6 A4 rch tab' wr ∧ Lsi intv (g + 1) wr (some ⟨g9, o9, none⟩) n n ss (befL p n n) ∧ OwnR wr bo (ownF tab' rch i s L)) := Lib.hid ⟨HM.out.1, HM.out.2.1, by
                  have h1 := HM.out.2.2
                  rwa [List.take_of_length_le (by rw [Hln.out]; exact Nat.le_refl _)] at h1⟩
                clear HM
                go_upto_region 30 with fail
                obtain ⟨b4, o4, bj, hA4, _, hbj, hc4⟩ := HO.out.1.rr.at_ hil
                subst hA4
                unfold boolv at hc4
                obtain ⟨own, hown⟩ : ∃ own, own = ownF tab' rch i s L := ⟨_, rfl⟩
                have Hown := Lib.hid hown
                have HO2 := Lib.hid HO.out
                rw [← hown] at HO2
                have Hbj := Lib.hid hbj
                have hrgo := OwnR.range HO2.out.2.2
                have hrgt := setC_range HO2.out.1.ro Hs.out
                rw [Nat.zero_add] at hrgt
                have hc6 := HO2.out.1.k6.cell0
                have hb4 := HO2.out.1.rr
                have hSx : ∀ w', Ext wr w' → w'.cell? ⟨b4, o4 + i, none⟩ = some (.bool bj) ∧ w'.cell? ⟨b6, 0, none⟩ = some (.slice (some ⟨g, 0, none⟩) n n) ∧ w'.rangeAt bo 0 (setC own) ∧ w'.rangeAt g (i * 256) (setC s) := fun w' e => by
                  have h1 := (HO2.out.1.e e)
                  refine ⟨?_, h1.k6.cell0, OwnR.range (RoomS.ext HO2.out.2.2 e), ?_⟩
                  · obtain ⟨_, _, bj2, hA5, _, hbj2, hc5⟩ := h1.rr.at_ hil
                    cases hA5
                    rw [Hbj.out] at hbj2
                    cases hbj2
                    exact hc5
                  · have h2 := setC_range h1.ro Hs.out
                    rwa [Nat.zero_add] at h2
                have HSx := Lib.hid hSx
                clear hown hbj hc4 hrgo hrgt hc6 hb4 hSx HO
                go_cut [115] from 104 to 115 (fun v wx => v = .bool (bj && !setB own s) ∧ wx = wr.drew)
                case first =>
                  refine wp_region_held_drew (S := fun w' => Ext wr w') (by kernel_rfl) (Ext.drew _) (fun hS0 => ?_)
                  clear hS0
                  refine take_heldS (i := 0) (j := 104) (v := .slice (some ⟨b4, o4, none⟩) n c4) rfl rfl (by as_aux_lemma => kernel_rfl) (by as_aux_lemma => kernel_rfl) (by as_aux_lemma => kernel_rfl) (fun _ _ _ h => h) (Or.inl ⟨by rfl, fun w' hw' => by obtain ⟨q0, q1, q2, q3⟩ := HSx.out w' hw'; clear q2 q3; go_simp; try rfl⟩) (Ext.drew _) ?_
                  simp only [Act.put, List.setIfInBounds_toArray, List.set_cons_zero, List.set_cons_succ]
                  refine take_heldS (i := 1) (j := 105) (v := .int .i64 (i : Int)) rfl rfl (by as_aux_lemma => kernel_rfl) (by as_aux_lemma => kernel_rfl) (by as_aux_lemma => kernel_rfl) (fun _ _ _ h => h) (Or.inl ⟨by rfl, fun w' hw' => by obtain ⟨q0, q1, q2, q3⟩ := HSx.out w' hw'; clear q2 q3; go_simp; try rfl⟩) (Ext.drew _) ?_
                  simp only [Act.put, List.setIfInBounds_toArray, List.set_cons_zero, List.set_cons_succ]
                  refine take_heldS (i := 2) (j := 106) (v := .pointer (some ⟨b4, o4 + i, none⟩)) rfl rfl (by as_aux_lemma => kernel_rfl) (by as_aux_lemma => kernel_rfl) (by as_aux_lemma => kernel_rfl) (fun _ _ _ h => h) (Or.inl ⟨by rfl, fun w' hw' => by obtain ⟨q0, q1, q2, q3⟩ := HSx.out w' hw'; clear q2 q3; go_simp; try rfl⟩) (Ext.drew _) ?_
                  simp only [Act.put, List.setIfInBounds_toArray, List.set_cons_zero, List.set_cons_succ]
                  cases bj with
                  | false =>
                    refine take_heldS (i := 3) (j := 107) (v := .bool false) rfl rfl (by as_aux_lemma => kernel_rfl) (by as_aux_lemma => kernel_rfl) (by as_aux_lemma => kernel_rfl) (fun _ _ _ h => h) (Or.inl ⟨by rfl, fun w' hw' => by obtain ⟨q0, q1, q2, q3⟩ := HSx.out w' hw'; clear q2 q3; go_simp; try rfl⟩) (Ext.drew _) ?_
                    simp only [Act.put, List.setIfInBounds_toArray, List.set_cons_zero, List.set_cons_succ]
                    refine take_heldS (i := 4) (j := 108) (v := .bool false) rfl rfl (by as_aux_lemma => kernel_rfl) (by as_aux_lemma => kernel_rfl) (by as_aux_lemma => kernel_rfl) (fun _ _ _ h => h) (Or.inl ⟨by rfl, fun w' hw' => by obtain ⟨q0, q1, q2, q3⟩ := HSx.out w' hw'; clear q2 q3; go_simp; try rfl⟩) (Ext.drew _) ?_
                    simp only [Act.put, List.setIfInBounds_toArray, List.set_cons_zero, List.set_cons_succ]
                    refine take_heldS (i := 5) (j := 109) (v := undef) rfl rfl (by as_aux_lemma => kernel_rfl) (by as_aux_lemma => kernel_rfl) (by as_aux_lemma => kernel_rfl) (fun _ _ _ h => h) (Or.inr ⟨by kernel_rfl, rfl⟩) (Ext.drew _) ?_
                    simp only [Act.put, List.setIfInBounds_toArray, List.set_cons_zero, List.set_cons_succ]
                    refine take_heldS (i := 6) (j := 110) (v := undef) rfl rfl (by as_aux_lemma => kernel_rfl) (by as_aux_lemma => kernel_rfl) (by as_aux_lemma => kernel_rfl) (fun _ _ _ h => h) (Or.inr ⟨by kernel_rfl, rfl⟩) (Ext.drew _) ?_
                    simp only [Act.put, List.setIfInBounds_toArray, List.set_cons_zero, List.set_cons_succ]
                    refine take_heldS (i := 7) (j := 111) (v := undef) rfl rfl (by as_aux_lemma => kernel_rfl) (by as_aux_lemma => kernel_rfl) (by as_aux_lemma => kernel_rfl) (fun _ _ _ h => h) (Or.inr ⟨by kernel_rfl, rfl⟩) (Ext.drew _) ?_
                    simp only [Act.put, List.setIfInBounds_toArray, List.set_cons_zero, List.set_cons_succ]
                    refine take_heldS (i := 8) (j := 112) (v := undef) rfl rfl (by as_aux_lemma => kernel_rfl) (by as_aux_lemma => kernel_rfl) (by as_aux_lemma => kernel_rfl) (fun _ _ _ h => h) (Or.inr ⟨by kernel_rfl, rfl⟩) (Ext.drew _) ?_
                    simp only [Act.put, List.setIfInBounds_toArray, List.set_cons_zero, List.set_cons_succ]
                    refine take_heldS (i := 9) (j := 113) (v := undef) rfl rfl (by as_aux_lemma => kernel_rfl) (by as_aux_lemma => kernel_rfl) (by as_aux_lemma => kernel_rfl) (fun _ _ _ h => h) (Or.inr ⟨by kernel_rfl, rfl⟩) (Ext.drew _) ?_
                    simp only [Act.put, List.setIfInBounds_toArray, List.set_cons_zero, List.set_cons_succ]
                    refine take_heldS (i := 10) (j := 114) (v := undef) rfl rfl (by as_aux_lemma => kernel_rfl) (by as_aux_lemma => kernel_rfl) (by as_aux_lemma => kernel_rfl) (fun _ _ _ h => h) (Or.inr ⟨by kernel_rfl, rfl⟩) (Ext.drew _) ?_
                    simp only [Act.put, List.setIfInBounds_toArray, List.set_cons_zero, List.set_cons_succ]
                    refine take_heldS (i := 11) (j := 115) (v := .bool false) rfl rfl (by as_aux_lemma => kernel_rfl) (by as_aux_lemma => kernel_rfl) (by as_aux_lemma => kernel_rfl) (fun _ _ _ h => h) (Or.inl ⟨by rfl, fun w' hw' => by obtain ⟨q0, q1, q2, q3⟩ := HSx.out w' hw'; clear q2 q3; go_simp; try rfl⟩) (Ext.drew _) ?_
                    simp only [Act.put, List.setIfInBounds_toArray, List.set_cons_zero, List.set_cons_succ]
                    refine wpAnyH_done (by as_aux_lemma => kernel_rfl) ?_ _
                    go_wp2_with fail
                    go_meet
                    exact ⟨rfl, rfl⟩
                  | true =>
                    refine take_heldS (i := 3) (j := 107) (v := .bool true) rfl rfl (by as_aux_lemma => kernel_rfl) (by as_aux_lemma => kernel_rfl) (by as_aux_lemma => kernel_rfl) (fun _ _ _ h => h) (Or.inl ⟨by rfl, fun w' hw' => by obtain ⟨q0, q1, q2, q3⟩ := HSx.out w' hw'; clear q2 q3; go_simp; try rfl⟩) (Ext.drew _) ?_
                    simp only [Act.put, List.setIfInBounds_toArray, List.set_cons_zero, List.set_cons_succ]
                    refine take_heldS (i := 4) (j := 108) (v := .bool true) rfl rfl (by as_aux_lemma => kernel_rfl) (by as_aux_lemma => kernel_rfl) (by as_aux_lemma => kernel_rfl) (fun _ _ _ h => h) (Or.inl ⟨by rfl, fun w' hw' => by obtain ⟨q0, q1, q2, q3⟩ := HSx.out w' hw'; clear q2 q3; go_simp; try rfl⟩) (Ext.drew _) ?_
                    simp only [Act.put, List.setIfInBounds_toArray, List.set_cons_zero, List.set_cons_succ]
                    refine take_heldS (i := 5) (j := 109) (v := .agg (setC own).toArray) rfl rfl (by as_aux_lemma => kernel_rfl) (by as_aux_lemma => kernel_rfl) (by as_aux_lemma => kernel_rfl) (fun _ _ _ h => h) (yieldsIf_load_mid (by rfl) 79 (.tmp 12) rfl bo 0 rfl (setC own) _ (fun w' hw' => (HSx.out w' hw').2.2.1) ul_st rfl (by rw [setC_len]; exact sz_st)) (Ext.drew _) ?_
                    simp only [Act.put, List.setIfInBounds_toArray, List.set_cons_zero, List.set_cons_succ]
                    refine take_heldS (i := 6) (j := 110) (v := .slice (some ⟨g, 0, none⟩) n n) rfl rfl (by as_aux_lemma => kernel_rfl) (by as_aux_lemma => kernel_rfl) (by as_aux_lemma => kernel_rfl) (fun _ _ _ h => h) (Or.inl ⟨by rfl, fun w' hw' => by obtain ⟨q0, q1, q2, q3⟩ := HSx.out w' hw'; clear q2 q3; go_simp; try rfl⟩) (Ext.drew _) ?_
                    simp only [Act.put, List.setIfInBounds_toArray, List.set_cons_zero, List.set_cons_succ]
                    refine take_heldS (i := 7) (j := 111) (v := .int .i64 (i : Int)) rfl rfl (by as_aux_lemma => kernel_rfl) (by as_aux_lemma => kernel_rfl) (by as_aux_lemma => kernel_rfl) (fun _ _ _ h => h) (Or.inl ⟨by rfl, fun w' hw' => by obtain ⟨q0, q1, q2, q3⟩ := HSx.out w' hw'; clear q2 q3; go_simp; try rfl⟩) (Ext.drew _) ?_
                    simp only [Act.put, List.setIfInBounds_toArray, List.set_cons_zero, List.set_cons_succ]
                    refine take_heldS (i := 8) (j := 112) (v := .pointer (some ⟨g, i * 256, none⟩)) rfl rfl (by as_aux_lemma => kernel_rfl) (by as_aux_lemma => kernel_rfl) (by as_aux_lemma => kernel_rfl) (fun _ _ _ h => h) (Or.inl ⟨by rfl, fun w' hw' => by obtain ⟨q0, q1, q2, q3⟩ := HSx.out w' hw'; clear q2 q3; go_simp; try rfl⟩) (Ext.drew _) ?_
                    simp only [Act.put, List.setIfInBounds_toArray, List.set_cons_zero, List.set_cons_succ]
                    refine take_heldS (i := 9) (j := 113) (v := .agg (setC s).toArray) rfl rfl (by as_aux_lemma => kernel_rfl) (by as_aux_lemma => kernel_rfl) (by as_aux_lemma => kernel_rfl) (fun _ _ _ h => h) (yieldsIf_load_mid (by rfl) 79 (.tmp 112) rfl g (i * 256) rfl (setC s) _ (fun w' hw' => (HSx.out w' hw').2.2.2) ul_st rfl (by rw [setC_len]; exact sz_st)) (Ext.drew _) ?_
                    simp only [Act.put, List.setIfInBounds_toArray, List.set_cons_zero, List.set_cons_succ]
                    refine take_heldS (i := 10) (j := 114) (v := .bool (!setB own s)) rfl rfl (by as_aux_lemma => kernel_rfl) (by as_aux_lemma => kernel_rfl) (by as_aux_lemma => kernel_rfl) (fun _ _ _ h => h) (yields_neq_st (by rfl) (.tmp 109) (.tmp 113) _ rfl rfl rfl) (Ext.drew _) ?_
                    simp only [Act.put, List.setIfInBounds_toArray, List.set_cons_zero, List.set_cons_succ]
                    refine take_heldS (i := 11) (j := 115) (v := .bool (!setB own s)) rfl rfl (by as_aux_lemma => kernel_rfl) (by as_aux_lemma => kernel_rfl) (by as_aux_lemma => kernel_rfl) (fun _ _ _ h => h) (Or.inl ⟨by rfl, fun w' hw' => by obtain ⟨q0, q1, q2, q3⟩ := HSx.out w' hw'; clear q2 q3; go_simp; try rfl⟩) (Ext.drew _) ?_
                    simp only [Act.put, List.setIfInBounds_toArray, List.set_cons_zero, List.set_cons_succ]
                    refine wpAnyH_done (by as_aux_lemma => kernel_rfl) ?_ _
                    go_wp2_with fail
                    go_meet
                    exact ⟨rfl, rfl⟩
                case rest =>
                  obtain ⟨rfl, rfl⟩ := hcut
                  have HO3 : Hid (DmW p w n g b6 (some ⟨b4, o4, none⟩) rch tab' wr.drew ∧ Lsi intv (g + 1) wr.drew (some ⟨g9, o9, none⟩) n n ss (befL p n n) ∧ OwnR wr.drew bo own) := Lib.hid ⟨HO2.out.1.e (Ext.drew _), HO2.out.2.1.ext (Ext.drew _), RoomS.ext HO2.out.2.2 (Ext.drew _)⟩
                  clear HSx HO2
                  obtain ⟨gb, hgb⟩ : ∃ gb, gb = (bj && !setB own s) := ⟨_, rfl⟩
                  rw [← hgb]
                  obtain ⟨wd, hwd⟩ : ∃ wd, wd = wr.drew := ⟨_, rfl⟩
                  rw [← hwd] at HO3 ⊢
                  clear hwd
                  cases gb with
                  | true =>
                    have h1 : bj = true ∧ setB own s = false := by
                      cases bj <;> cases hq : setB own s <;> rw [hq] at hgb <;> first | (cases hgb; done) | exact ⟨rfl, rfl⟩
                    have HN : Hid (DmW p w n g b6 (some ⟨b4, o4, none⟩) rch (tab'.set i own) (wd.setCells g (i * 256) (setC own)) ∧ Lsi intv (g + 1) (wd.setCells g (i * 256) (setC own)) (some ⟨g9, o9, none⟩) n n ss (befL p n n) ∧ TabJ (EdP p) n (tab'.set i own) ∧ totT (tab'.set i own) < totT tab) := Lib.hid (by
                      have hch := chg_setCells wd (T := fun q => q = g) g (i * 256) (setC own) rfl
                      refine ⟨HO3.out.1.row hil own, HO3.out.2.1.chg hch (fun q hq e => HL9.out q hq e), ?_, ?_⟩
                      · rw [Hown.out]
                        exact HI.out.2.2.1.cut Hs.out (by omega) HRc.out.1 HRc.out.2 (fun j hj => (befN_mem.1 (by rw [← HL.out]; exact hj)).2)
                      · have h2 := totT_set (s' := own) Hs.out
                        have h3 := own_lt (s := s) (own := own) (fun k hk => ownF_le (by rw [← Hown.out]; exact hk)) h1.2
                        have h4 : totT tab' ≤ totT tab := by
                          cases ch with
                          | true => exact Nat.le_of_lt (HI.out.2.2.2.1 rfl)
                          | false => rw [(HI.out.2.2.2.2 rfl).1]; exact Nat.le_refl _
                        omega)
                    have Hrgo := Lib.hid (OwnR.range HO3.out.2.2)
                    have Hth := Lib.hid (HO3.out.1.there_ Hs.out (m := (setC own).toArray.size) (by rw [List.size_toArray, setC_len]))
                    have hc6 := HO3.out.1.k6.cell0
                    clear HI HO3 h1 hgb
                    go_upto_region 31 with fail
                    refine wp_region_lit ?_
                    refine wpList_plain rfl (fun K1 hK1 => ?_)
                    go_simp
                    refine hK1 _ _ ?_
                    refine wpList_plain rfl (fun K2 hK2 => ?_)
                    go_simp
                    refine hK2 _ _ ?_
                    clear hK1 hK2 K1 K2
                    refine wpList_load_mid rfl 79 (.tmp 12) rfl bo 0 rfl (setC own) _ Hrgo.out ul_st rfl (by rw [setC_len]; exact sz_st) ?_
                    simp only [Act.put, List.setIfInBounds_toArray, List.set_cons_zero, List.set_cons_succ]
                    refine wpList_plain rfl (fun K4 hK4 => ?_)
                    go_simp
                    refine hK4 _ _ ?_
                    clear hK4 K4
                    refine wpList_store_mid rfl 79 (.tmp 119) (.tmp 118) rfl g (i * 256) (setC own).toArray rfl rfl Hth.out (by rw [List.size_toArray, setC_len]; exact sz_st) (all_oneCell_toArray (setC_one own)) ?_
                    refine wpList_nil ?_
                    change Exit.then _ _ _ _ (wd.setCells g (i * 256) (setC own))
                    obtain ⟨wn, hwn⟩ : ∃ wn, wn = wd.setCells g (i * 256) (setC own) := ⟨_, rfl⟩
                    rw [← hwn] at HN ⊢
                    clear hwn Hth Hrgo hc6
                    have hc6 := HN.out.1.k6.cell0
                    go_wp2_with fail
                    go_roundw
                    case rel => exact ⟨true, i + 1, tab'.set i own, by omega, by omega, rfl, by go_num, Lib.hid ⟨HN.out.1, HN.out.2.1, HN.out.2.2.1, fun _ => HN.out.2.2.2, fun h => (by cases h)⟩⟩
                    case measure => simp [intOf]; omega
                  | false =>
                    have HN : Hid (DmW p w n g b6 (some ⟨b4, o4, none⟩) rch tab' wd ∧ Lsi intv (g + 1) wd (some ⟨g9, o9, none⟩) n n ss (befL p n n) ∧ TabJ (EdP p) n tab' ∧ (ch = true → totT tab' < totT tab) ∧ (ch = false → tab' = tab ∧ ∀ i', 1 ≤ i' → i' < i + 1 → Rch (EdP p) i' → ∀ s, tab[i']? = some s → ∀ k, k < 256 → s k = true → ownF tab rch i' s (befN p n i') k = true)) := Lib.hid (by
                      refine ⟨HO3.out.1, HO3.out.2.1, HI.out.2.2.1, HI.out.2.2.2.1, fun hc => ?_⟩
                      obtain ⟨h1, h2⟩ := HI.out.2.2.2.2 hc
                      refine ⟨h1, fun i' h3 h4 hR s' hs' k hk hk2 => ?_⟩
                      by_cases h5 : i' < i
                      · exact h2 i' h3 h5 hR s' hs' k hk hk2
                      · have e5 : i' = i := by omega
                        rw [e5] at hR hs' ⊢
                        have h6 := Hs.out
                        rw [h1, hs'] at h6
                        have e6 : s' = s := Option.some.inj h6
                        rw [e6] at hk2 ⊢
                        have h7 := (HRc.out.2 i hil).2 hR
                        rw [Hbj.out] at h7
                        have e7 : bj = true := Option.some.inj h7
                        have h8 : setB own s = true := by
                          cases hq : setB own s with
                          | true => rfl
                          | false => rw [hq, e7] at hgb; cases hgb
                        have h9 := setB_iff.1 h8 k hk
                        rw [hk2, Hown.out, HL.out, h1] at h9
                        exact h9)
                    clear HI HO3 hgb
                    have hc6 := HN.out.1.k6.cell0
                    go_wp2_with fail
                    go_roundw
                    case rel => exact ⟨ch, i + 1, tab', by omega, by omega, rfl, by go_num, HN⟩
                    case measure => simp [intOf]; omega
          · obtain rfl : n = i := by omega
            have hilI : ¬ ((n : Int) < (n : Int)) := by omega
            cases ch with
            | true =>
              have HN : Hid (DmW p w n g b6 A4 rch tab' wr ∧ Lsi intv (g + 1) wr A9 n n ss (befL p n n) ∧ TabJ (EdP p) n tab' ∧ totT tab' < totT tab) := Lib.hid ⟨HI.out.1, HI.out.2.1, HI.out.2.2.1, HI.out.2.2.2.1 rfl⟩
              have HM := Lib.hid HG.out.2.2.2
              clear HI HG
              go_wp2_with fail
              go_roundg (totT tab')
              case rel => exact ⟨tab', Lib.hid ⟨HN.out.1, HN.out.2.1, HN.out.2.2.1, Nat.le_refl _⟩⟩
              case measure => have h1 := HM.out; have h2 := HN.out.2.2.2; omega
            | false =>
              have HN : Hid (DmW p w n g b6 A4 rch tab wr ∧ TabJ (EdP p) n tab ∧ (∀ {i : Nat} {s : Nat → Bool}, tab[i]? = some s → Rch (EdP p) i → ∀ k, k < n → (s k = true ↔ Dom (EdP p) k i)) ∧ ∀ i, Rch (EdP p) i → i < n) := Lib.hid (by
                obtain ⟨h1, h2⟩ := HI.out.2.2.2.2 rfl
                have h3 := HI.out.1
                have h4 := HI.out.2.2.1
                have hE : ∀ i, Rch (EdP p) i → i < n := fun i hi => by have := rch_lt HP.out hi; rwa [Hl.out] at this
                rw [h1] at h3 h4
                refine ⟨h3, h4, h4.done hE (fun i s hi1 hR hs k hk j hj hRj t ht => ?_), hE⟩
                have hkn : k < n := by
                  by_cases hx : k < n
                  · exact hx
                  · rw [h4.hi hs k (by omega)] at hk; cases hk
                have h5 := h2 i hi1 (hE i hR) hR s hs k (by omega) hk
                unfold ownF at h5
                rw [Bool.and_eq_true, List.all_eq_true] at h5
                have h6 := h5.2 j (befN_mem.2 ⟨hE j hRj, hj⟩)
                rw [(HRc.out.2 j (hE j hRj)).2 hRj, ht] at h6
                simpa using h6)
              clear HI HG
              go_wp2_with fail
              obtain ⟨w8, hw8⟩ : ∃ w8, w8 = wr.alloc (.cells #[.int .i64 (-1)] 3) := ⟨_, rfl⟩
              have hr8 : RdS 1 inzC w8 (some ⟨wr.heap.size, 0, none⟩) 1 [-1] := by rw [hw8]; exact rdS_one inzC_len _ _ (-1 : Int) rfl
              have H8 : Hid (DmW p w n g b6 A4 rch tab w8) := Lib.hid (by rw [hw8]; exact HN.out.1.e (Ext.alloc _ _))
              have HT := Lib.hid HN.out.2
              rw [← hw8]
              clear hw8 HN
              refine (repeatZ _ 1 1 n [-1] w8 hr8 (by omega) (by omega) (by omega) (by omega)).mono ?_; rintro e w9 ⟨G, rfl, r9, lG, e9⟩
              rw [Nat.mul_one, repL_single, inzC_map] at r9
              rw [Nat.mul_one]
              have H9 : Hid (DmW p w n g b6 A4 rch tab w9 ∧ Room w9 (some ⟨G, 0, none⟩) n n ((List.replicate n (-1 : Int)).map intz)) := Lib.hid ⟨H8.out.e e9, r9.room⟩
              have HGn : Hid (G ≠ b6 ∧ G ≠ g ∧ (∀ q o, A4 = some ⟨q, o, none⟩ → 0 < n → q ≠ G) ∧ w.heap.size ≤ G) := Lib.hid (by
                have h1 := H8.out.k6.lt
                have h2 := H8.out.ro.lt (k := g) ⟨by omega, 0, rfl⟩
                refine ⟨by omega, by omega, fun q o hA h0 e => ?_, by have := H8.out.ext.size; omega⟩
                obtain ⟨b2, o2, _, hA2, hb2, _⟩ := H8.out.rr.at_ (k := 0) h0
                rw [hA] at hA2
                cases hA2
                omega)
              clear hr8 r9 lG e9 H8
              go_wp2_with fail
              go_loopw [18] (fun v wr => ∃ (i : Nat) (out : List Int), i ≤ n ∧ 1 ≤ i ∧ v = .int .i64 (i : Int) ∧ Hid (DmW p w n g b6 A4 rch tab wr ∧ Room wr (some ⟨G, 0, none⟩) n n (out.map intz) ∧ NeJ (EdP p) n i 0 out)) (fun v _ => n - (intOf v).toNat)
              case atStart => exact ⟨1, _, by omega, by omega, rfl, Lib.hid ⟨H9.out.1, H9.out.2, NeJ.first (by omega)⟩⟩
              case round =>
                clear H9
                obtain ⟨i, out, hi, hi1, rfl, HI⟩ := hrel
                by_cases hil : i < n
                · have hilI : (i : Int) < (n : Int) := by omega
                  go_wp2_with fail
                  obtain ⟨wo, rfl⟩ : ∃ wo, wo = wr := ⟨_, rfl⟩
                  go_loopw [135] (fun v wx => ∃ (k : Nat) (out' : List Int), k ≤ n ∧ v = .int .i64 (k : Int) ∧ Hid (DmW p w n g b6 A4 rch tab wx ∧ Room wx (some ⟨G, 0, none⟩) n n (out'.map intz) ∧ NeJ (EdP p) n i k out')) (fun v _ => n - (intOf v).toNat)
                  case atStart => exact ⟨0, out, by omega, rfl, HI⟩
                  case round =>
                    clear HI
                    obtain ⟨k, out', hk, rfl, HK⟩ := hrel
                    by_cases hkl : k < n
                    · have hklI : (k : Int) < (n : Int) := by omega
                      have hk256 : (k : Int) < 256 := by omega
                      obtain ⟨si, hsi⟩ : ∃ s, tab[i]? = some s := ⟨tab[i]'(by rw [HT.out.1.len]; exact hil), List.getElem?_eq_getElem _⟩
                      obtain ⟨sk, hsk⟩ : ∃ s, tab[k]? = some s := ⟨tab[k]'(by rw [HT.out.1.len]; exact hkl), List.getElem?_eq_getElem _⟩
                      have hT := nea_test HT.out.2.1 HT.out.1 HT.out.2.2 hn hsi hsk hkl
                      obtain ⟨b4, o4, bj, hA4, _, hbj, hc4⟩ := HK.out.1.rr.at_ hil
                      subst hA4
                      unfold boolv at hc4
                      have hR := HRc.out.2 i hil
                      rw [hbj] at hR
                      have hc6 := HK.out.1.k6.cell0
                      obtain ⟨hcs, -⟩ := HK.out.1.at_ hsi (k := k) (by omega)
                      have Hs := Lib.hid (And.intro hsi (And.intro hsk (And.intro hT hR)))
                      clear hsi hsk hT hR hbj
                      cases bj with
                      | false =>
                        have HN : Hid (DmW p w n g b6 (some ⟨b4, o4, none⟩) rch tab wr ∧ Room wr (some ⟨G, 0, none⟩) n n (out'.map intz) ∧ NeJ (EdP p) n i (k + 1) out') := Lib.hid ⟨HK.out.1, HK.out.2.1, HK.out.2.2.miss (fun hN => by have h1 := Hs.out.2.2.2.2 (Hs.out.2.2.1.1 hN).1; cases h1)⟩
                        clear HK
                        go_wp2_with fail
                        go_roundw
                        case rel => exact ⟨k + 1, out', by omega, by go_num, HN⟩
                        case measure => simp [intOf]; omega
                      | true =>
                        by_cases hki : k = i
                        · have hkiI : ((k : Int) == (i : Int)) = true := by simp [hki]
                          have hkiN : ((k : Int) != (i : Int)) = false := by simp [hki]
                          have HN : Hid (DmW p w n g b6 (some ⟨b4, o4, none⟩) rch tab wr ∧ Room wr (some ⟨G, 0, none⟩) n n (out'.map intz) ∧ NeJ (EdP p) n i (k + 1) out') := Lib.hid ⟨HK.out.1, HK.out.2.1, HK.out.2.2.miss (fun hN => by exact (Hs.out.2.2.1.1 hN).2.1 hki)⟩
                          clear HK
                          clear hki
                          go_wp2_with fail
                          go_roundw
                          case rel => exact ⟨k + 1, out', by omega, by go_num, HN⟩
                          case measure => simp [intOf]; omega
                        · have hkiI : ((k : Int) == (i : Int)) = false := by simp; omega
                          have hkiN : ((k : Int) != (i : Int)) = true := by simp; omega
                          obtain ⟨t, ht⟩ : ∃ t, t = si k := ⟨_, rfl⟩
                          rw [← ht] at hcs
                          cases t with
                          | false =>
                            have HN : Hid (DmW p w n g b6 (some ⟨b4, o4, none⟩) rch tab wr ∧ Room wr (some ⟨G, 0, none⟩) n n (out'.map intz) ∧ NeJ (EdP p) n i (k + 1) out') := Lib.hid ⟨HK.out.1, HK.out.2.1, HK.out.2.2.miss (fun hN => by have h1 := (Hs.out.2.2.1.1 hN).2.2.1; rw [← ht] at h1; cases h1)⟩
                            clear HK
                            clear hki ht
                            go_wp2_with fail
                            go_roundw
                            case rel => exact ⟨k + 1, out', by omega, by go_num, HN⟩
                            case measure => simp [intOf]; omega
                          | true =>
                            obtain ⟨ck, hck⟩ : ∃ c, c = cnS sk := ⟨_, rfl⟩
                            obtain ⟨ci, hci⟩ : ∃ c, c = cnS si := ⟨_, rfl⟩
                            have hck2 : ck ≤ 256 := by rw [hck]; unfold cnS; have := List.length_filter_le sk (List.range 256); rwa [List.length_range] at this
                            have hci2 : ci ≤ 256 := by rw [hci]; unfold cnS; have := List.length_filter_le si (List.range 256); rwa [List.length_range] at this
                            have HCk := Lib.hid (count_ p w n g b6 (some ⟨b4, o4, none⟩) rch tab k sk wr HK.out.1 Hs.out.2.1)
                            have HCi := Lib.hid (count_ p w n g b6 (some ⟨b4, o4, none⟩) rch tab i si wr HK.out.1 Hs.out.1)
                            rw [← hck] at HCk
                            rw [← hci] at HCi
                            by_cases hcc : ck + 1 = ci
                            · have hccI : ((ck : Int) == (ci : Int) - 1) = true := by simp; omega
                              obtain ⟨v0, hv0⟩ : ∃ v0, out'[i]? = some v0 := ⟨out'[i]'(by rw [HK.out.2.2.len]; exact hil), List.getElem?_eq_getElem _⟩
                              have hcG := HK.out.2.1.cellAt (k := i) (u := intz v0) (by rw [List.getElem?_map, hv0]; rfl)
                              have hfG := HK.out.2.1.frozenAt (k := i) hil
                              rw [Nat.zero_add] at hcG hfG
                              unfold intz at hcG
                              have HN : Hid (DmW p w n g b6 (some ⟨b4, o4, none⟩) rch tab (wr.setCell ⟨G, i, none⟩ (.int .i64 (k : Int))) ∧ Room (wr.setCell ⟨G, i, none⟩ (.int .i64 (k : Int))) (some ⟨G, 0, none⟩) n n ((out'.set i (k : Int)).map intz) ∧ NeJ (EdP p) n i (k + 1) (out'.set i (k : Int))) := Lib.hid (by
                                have hch := Chg.set wr G i (.int .i64 (k : Int)) (T := fun x => x = G) rfl
                                have hst := HK.out.2.1.set (k := i) hil (.int .i64 (k : Int))
                                rw [Nat.zero_add, show (out'.map intz).set i (.int .i64 (k : Int)) = (out'.set i (k : Int)).map intz by rw [List.map_set]; rfl] at hst
                                exact ⟨HK.out.1.own_ HGn.out.1 HGn.out.2.1 HGn.out.2.2.1 HGn.out.2.2.2 hch, hst, HK.out.2.2.hit hil hkl (Hs.out.2.2.1.2 ⟨Hs.out.2.2.2.1 rfl, hki, ht.symm, by rw [← hck, ← hci]; exact hcc⟩)⟩)
                              clear HK hki ht hck hci hcc
                              go_wp2_with fail
                              refine HCk.out.mono ?_; rintro e wk ⟨rfl, rfl⟩
                              go_wp2_with fail
                              refine HCi.out.mono ?_; rintro e wk ⟨rfl, rfl⟩
                              go_wp2_with fail
                              go_roundw
                              case rel => exact ⟨k + 1, _, by omega, by go_num, HN⟩
                              case measure => simp [intOf]; omega
                            · have hccI : ((ck : Int) == (ci : Int) - 1) = false := by simp; omega
                              have HN : Hid (DmW p w n g b6 (some ⟨b4, o4, none⟩) rch tab wr ∧ Room wr (some ⟨G, 0, none⟩) n n (out'.map intz) ∧ NeJ (EdP p) n i (k + 1) out') := Lib.hid ⟨HK.out.1, HK.out.2.1, HK.out.2.2.miss (fun hN => by have h1 := (Hs.out.2.2.1.1 hN).2.2.2; rw [← hck, ← hci] at h1; exact hcc h1)⟩
                              clear HK
                              clear hki ht hck hci hcc
                              go_wp2_with fail
                              refine HCk.out.mono ?_; rintro e wk ⟨rfl, rfl⟩
                              go_wp2_with fail
                              refine HCi.out.mono ?_; rintro e wk ⟨rfl, rfl⟩
                              go_wp2_with fail
                              go_roundw
                              case rel => exact ⟨k + 1, out', by omega, by go_num, HN⟩
                              case measure => simp [intOf]; omega
                    · obtain rfl : n = k := by omega
                      have hklI : ¬ ((n : Int) < (n : Int)) := by omega
                      have HN : Hid (DmW p w n g b6 A4 rch tab wr ∧ Room wr (some ⟨G, 0, none⟩) n n (out'.map intz) ∧ NeJ (EdP p) n (i + 1) 0 out') := Lib.hid ⟨HK.out.1, HK.out.2.1, HK.out.2.2.row HT.out.2.2⟩
                      clear HK
                      go_wp2_with fail
                      go_roundw
                      case rel => exact ⟨i + 1, out', by omega, by omega, by go_num, HN⟩
                      case measure => simp [intOf]; omega
                · obtain rfl : n = i := by omega
                  have hilI : ¬ ((n : Int) < (n : Int)) := by omega
                  go_wp2_with fail
                  try rw [Exit.noGoto_ret]
                  go_ret2
                  exact ⟨_, _, out, rfl, HI.out.2.2.done HT.out.2.2, HI.out.2.1, fun q ⟨_, o, hq⟩ => by cases hq; exact HGn.out.2.2.2, HI.out.1.ext⟩
end Go.Proofs.Ytlneifgihdickaa
