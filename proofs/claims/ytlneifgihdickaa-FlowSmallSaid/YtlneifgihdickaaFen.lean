/- Fvs: what is visited backwards: which instructions can end; the closure in Ends. Fen: slices.Clone; Ends. -/
import Derived.Test.YtlneifgihdickaaFrc
import Derived.Laws.EntriesVeiled
namespace Go.Fx
open Go.RowKit
def cntF (s : List Bool) : Nat := (s.filter (fun b => !b)).length
theorem cntF_set : ∀ {s : List Bool} {i : Nat}, s[i]? = some false → cntF (s.set i true) + 1 = cntF s
  | [], _, h => by simp at h
  | a :: l, 0, h => by
    simp at h
    subst h
    unfold cntF
    simp
  | a :: l, i + 1, h => by
    have ih := cntF_set (s := l) (i := i) (by simpa using h)
    unfold cntF at ih ⊢
    rw [List.set_cons_succ, List.filter_cons, List.filter_cons]
    split
    · rw [List.length_cons, List.length_cons]; omega
    · exact ih
theorem cntF_mono : ∀ {s s' : List Bool}, s'.length = s.length → (∀ v : Nat, s[v]? = some true → s'[v]? = some true) → cntF s' ≤ cntF s
  | [], [], _, _ => Nat.le_refl _
  | [], _ :: _, h, _ => by simp at h
  | _ :: _, [], h, _ => by simp at h
  | a :: l, b :: l', h, hm => by
    have ih := cntF_mono (s := l) (s' := l') (by simpa using h) (fun v hv => by simpa using hm (v + 1) (by simpa using hv))
    have h0 := hm 0
    simp at h0
    unfold cntF at ih ⊢
    cases a <;> cases b <;> simp_all
    all_goals omega
/-- Which can reach i. -/
abbrev Tow (E : Nat → Nat → Prop) (v i : Nat) : Prop := Way E (fun _ => True) v i
/-- What a visit of i leaves. -/
structure Vis (E : Nat → Nat → Prop) (s : List Bool) (i : Nat) (s' : List Bool) : Prop where
  len : s'.length = s.length
  mono : ∀ v : Nat, s[v]? = some true → s'[v]? = some true
  at_ : s'[i]? = some true
  new : ∀ v : Nat, s'[v]? = some true → s[v]? = some true ∨ ((∀ u : Nat, E u v → s'[u]? = some true) ∧ Tow E v i)
/-- While those before i are visited: k of the list L. -/
structure VisI (E : Nat → Nat → Prop) (s1 : List Bool) (i : Nat) (L : List Nat) (k : Nat) (s' : List Bool) : Prop where
  len : s'.length = s1.length
  mono : ∀ v : Nat, s1[v]? = some true → s'[v]? = some true
  got : ∀ j u : Nat, j < k → L[j]? = some u → s'[u]? = some true
  new : ∀ v : Nat, s'[v]? = some true → s1[v]? = some true ∨ ((∀ u : Nat, E u v → s'[u]? = some true) ∧ Tow E v i)
section
variable {E : Nat → Nat → Prop} {s s1 s2 s' : List Bool} {i j k : Nat} {L : List Nat}
theorem VisI.start : VisI E s1 i L 0 s1 := ⟨rfl, fun _ h => h, fun _ _ h => by omega, fun _ h => .inl h⟩
theorem VisI.step (h : VisI E s1 i L k s2) (hj : L[k]? = some j) (he : E j i) (hv : Vis E s2 j s') : VisI E s1 i L (k + 1) s' := by
  refine ⟨hv.len.trans h.len, fun v hs => hv.mono v (h.mono v hs), fun a u ha hu => ?_, fun v hs => ?_⟩
  · by_cases hk : a < k
    · exact hv.mono u (h.got a u hk hu)
    · obtain rfl : a = k := by omega
      rw [hj] at hu
      cases hu
      exact hv.at_
  · rcases hv.new v hs with h1 | ⟨h1, h2⟩
    · rcases h.new v h1 with h3 | ⟨h3, h4⟩
      · exact .inl h3
      · exact .inr ⟨fun u e => hv.mono u (h3 u e), h4⟩
    · exact .inr ⟨h1, .step h2 he trivial⟩
theorem VisI.end_ (h : VisI E (s.set i true) i L L.length s') (hs : s[i]? = some false) (hL : ∀ u, E u i → u ∈ L) : Vis E s i s' := by
  have hi := (List.getElem?_eq_some_iff.1 hs).1
  have hii : (s.set i true)[i]? = some true := List.getElem?_set_self hi
  refine ⟨by rw [h.len, List.length_set], fun v hv => h.mono v ?_, h.mono i hii, fun v hv => ?_⟩
  · by_cases e : i = v
    · subst e; exact hii
    · rw [List.getElem?_set_ne e]; exact hv
  · rcases h.new v hv with h1 | h1
    · by_cases e : i = v
      · subst e
        refine .inr ⟨fun u hu => ?_, .start trivial⟩
        obtain ⟨a, ha, rfl⟩ := List.getElem_of_mem (hL u hu)
        exact h.got a _ ha (List.getElem?_eq_getElem ha)
      · rw [List.getElem?_set_ne e] at h1
        exact .inl h1
    · exact .inr h1
end
end Go.Fx
namespace Go.Proofs.Ytlneifgihdickaa
open Go.RowKit Go.Fx
/-- What Ends holds: what is seen, where control comes from, the function itself. -/
structure VsS (p : List Ins) (B n : Nat) (b6 b5 b7 : Nat) (A1 : Option Addr) (ss : List Sl) (s : List Bool) (W : World) : Prop where
  seen : Room W (some ⟨b6, 0, none⟩) 256 256 (s.map boolv)
  back : Lsi intv B W A1 n n ss (befL p n n)
  k5 : Blk W b5 69 #[.slice A1 n n]
  k7 : Blk W b7 72 #[.func (.func 36) #[] #[.pointer (some ⟨b6, 0, none⟩), .pointer (some ⟨b5, 0, none⟩), .pointer (some ⟨b7, 0, none⟩)]]
  n5 : b5 ≠ b6
  n7 : b7 ≠ b6
  nb : ∀ q, (foot A1 n q ∨ foots ss q) → q ≠ b6
section
variable {p : List Ins} {B n b6 b5 b7 : Nat} {A1 : Option Addr} {ss : List Sl} {s : List Bool} {W W' : World}
theorem VsS.len (h : VsS p B n b6 b5 b7 A1 ss s W) : s.length = 256 := by have := h.seen.1; rwa [List.length_map] at this
theorem VsS.set (h : VsS p B n b6 b5 b7 A1 ss s W) {i : Nat} (hi : i < 256) : VsS p B n b6 b5 b7 A1 ss (s.set i true) (W.setCell ⟨b6, i, none⟩ (.bool true)) ∧ Chg (fun q => q = b6) W (W.setCell ⟨b6, i, none⟩ (.bool true)) := by
  have ch := Chg.set W b6 i (.bool true) (T := fun q => q = b6) rfl
  have hr := h.seen.set hi (.bool true)
  rw [Nat.zero_add] at hr
  exact ⟨⟨by rw [List.map_set]; exact hr, h.back.chg ch h.nb, h.k5.chg ch h.n5, h.k7.chg ch h.n7, h.n5, h.n7, h.nb⟩, ch⟩
theorem VsS.ext (h : VsS p B n b6 b5 b7 A1 ss s W) (e : Ext W W') : VsS p B n b6 b5 b7 A1 ss s W' := ⟨h.seen.ext e, h.back.ext e, h.k5.ext e, h.k7.ext e, h.n5, h.n7, h.nb⟩
end
/-- What a visit leaves. -/
def VstP (p : List Ins) (B n b6 b5 b7 : Nat) (A1 : Option Addr) (ss : List Sl) (s : List Bool) (i : Nat) (w : World) (e : Ending) (w' : World) : Prop :=
  ∃ v s', e = .returned v ∧ Vis (EdP p) s i s' ∧ VsS p B n b6 b5 b7 A1 ss s' w' ∧ Chg (fun q => q = b6) w w'
theorem visit_done (p : List Ins) (B n b6 b5 b7 : Nat) (A1 : Option Addr) (ss : List Sl) (s : List Bool) (i : Nat) (w : World) (h : VsS p B n b6 b5 b7 A1 ss s w) (hi : i < 256) (hs : s[i]? = some true) :
    Calls Try.prog 36 #[.int .i64 (i : Int), .pointer (some ⟨b6, 0, none⟩), .pointer (some ⟨b5, 0, none⟩), .pointer (some ⟨b7, 0, none⟩)] w (VstP p B n b6 b5 b7 A1 ss s i w) := by
  have hc := h.seen.cellAt (k := i) (u := .bool true) (by rw [List.getElem?_map, hs]; rfl)
  rw [Nat.zero_add] at hc
  have hiI : (i : Int) < 256 := by omega
  have H := Lib.hid (And.intro h hs)
  clear h hs
  go_enter Try.func36, Try.ntmps36
  go_wp2_with fail
  try refine bodyPost_ret (results_none rfl _ _ _) rfl ?_
  exact ⟨_, s, rfl, ⟨rfl, fun _ h => h, H.out.2, fun _ h => .inl h⟩, H.out.1, Chg.refl _ _⟩
set_option maxRecDepth 100000 in
set_option maxHeartbeats 2000000 in
theorem visit_ (p : List Ins) (B n b6 b5 b7 : Nat) (A1 : Option Addr) (ss : List Sl) (hp : RightP p) (hl : p.length = n) : ∀ (m : Nat) (s : List Bool) (i : Nat) (w : World), cntF s ≤ m → VsS p B n b6 b5 b7 A1 ss s w → i < n →
    Calls Try.prog 36 #[.int .i64 (i : Int), .pointer (some ⟨b6, 0, none⟩), .pointer (some ⟨b5, 0, none⟩), .pointer (some ⟨b7, 0, none⟩)] w (VstP p B n b6 b5 b7 A1 ss s i w) := by
  intro m
  induction m with
  | zero =>
    intro s i w hm h hi
    have hn := hp.max
    have hi2 : i < s.length := by rw [h.len]; omega
    refine visit_done p B n b6 b5 b7 A1 ss s i w h (by omega) ?_
    cases hb : s[i] with
    | true => rw [List.getElem?_eq_getElem hi2, hb]
    | false =>
      have := cntF_set (s := s) (i := i) (by rw [List.getElem?_eq_getElem hi2, hb])
      omega
  | succ m ih =>
    intro s i w hm h hi
    have hn := hp.max
    rw [hl] at hn
    have hi2 : i < s.length := by rw [h.len]; omega
    cases hb : s[i] with
    | true => exact visit_done p B n b6 b5 b7 A1 ss s i w h (by omega) (by rw [List.getElem?_eq_getElem hi2, hb])
    | false =>
      have hs : s[i]? = some false := by rw [List.getElem?_eq_getElem hi2, hb]
      have hcs := cntF_set hs
      have hc := h.seen.cellAt (k := i) (u := .bool false) (by rw [List.getElem?_map, hs]; rfl)
      have hf := h.seen.frozenAt (k := i) (by omega)
      rw [Nat.zero_add] at hc hf
      have hiI : (i : Int) < 256 := by omega
      have hiN : (i : Int) < (n : Int) := by omega
      obtain ⟨h1, ch1⟩ := h.set (i := i) (by omega)
      obtain ⟨w1, hw1⟩ : ∃ w1, w1 = w.setCell ⟨b6, i, none⟩ (.bool true) := ⟨_, rfl⟩
      rw [← hw1] at h1 ch1
      have hc5 := h1.k5.cell0
      obtain ⟨g, og, rfl, hgl⟩ := h1.back.room.some_ (by omega)
      obtain ⟨⟨sA, sn, sc⟩, hsk⟩ : ∃ x, ss[i]? = some x := ⟨ss[i]'(by have := h1.back.n_; have := h1.back.len; rw [befL_len] at this; omega), List.getElem?_eq_getElem _⟩
      obtain ⟨lk, hlk, hrk⟩ := h1.back.at_ i _ hsk
      obtain rfl : lk = befN p n i := by
        unfold befL at hlk
        rw [List.getElem?_map, List.getElem?_range hi] at hlk
        exact (Option.some.inj hlk).symm
      have hck := h1.back.room.cellAt (k := i) (u := .slice sA sn sc) (by rw [List.getElem?_map, hsk]; rfl)
      have hsn : (befN p n i).length = sn := by have := hrk.1; rwa [List.length_map] at this
      have hsl : sn ≤ 256 := by have := befN_len p n i; omega
      have H1 := Lib.hid (And.intro h1 ch1)
      have HW1 := Lib.hid hw1
      have Hs := Lib.hid (And.intro hs (And.intro hcs hm))
      have HRd := Lib.hid (fun W (h : VsS p B n b6 b5 b7 (some ⟨g, og, none⟩) ss (List.replicate 256 true) W ∨ Lsi intv B W (some ⟨g, og, none⟩) n n ss (befL p n n)) => show Rd intv W sA sn (befN p n i) from by
        have hbk : Lsi intv B W (some ⟨g, og, none⟩) n n ss (befL p n n) := h.elim (fun h => h.back) id
        obtain ⟨lk2, hlk2, hrk2⟩ := hbk.at_ i _ hsk
        rw [hlk] at hlk2
        cases hlk2
        exact hrk2.rd)
      have Hsn := Lib.hid hsn
      have HIH := Lib.hid ih
      have HP := Lib.hid hp
      have Hl := Lib.hid hl
      clear h h1 ch1 hs hcs hm hw1 hsk hlk hrk hgl hsn ih hb hi2 hp hl
      go_enter Try.func36, Try.ntmps36
      go_upto_region 2 with fail
      rw [← HW1.out]
      clear hc hf HW1
      go_wp2_with fail
      go_loopw [17] (fun v wr => ∃ (k : Nat) (s' : List Bool), k ≤ sn ∧ v = .int .i64 (k : Int) ∧ Hid (VisI (EdP p) (s.set i true) i (befN p n i) k s' ∧ VsS p B n b6 b5 b7 (some ⟨g, og, none⟩) ss s' wr ∧ Chg (fun q => q = b6) w wr)) (fun v _ => sn - (intOf v).toNat)
      case atStart => exact ⟨0, _, by omega, rfl, Lib.hid ⟨VisI.start, H1.out.1, H1.out.2⟩⟩
      case round =>
        clear H1 hc5 hck
        obtain ⟨k, s', hk, rfl, HJ⟩ := hrel
        by_cases hlt : k < sn
        · have hltI : (k : Int) < (sn : Int) := by omega
          obtain ⟨bb, ob, j, hA, _, hx, hcj⟩ := (HRd.out wr (.inr HJ.out.2.1.back)).at_ hlt
          subst hA
          have hje : i ∈ edF p j := (befN_mem.1 (List.mem_of_getElem? hx)).2
          have hjn : j < n := (befN_mem.1 (List.mem_of_getElem? hx)).1
          unfold intv at hcj
          have hc7 := HJ.out.2.1.k7.cell0
          have HC := Lib.hid (HIH.out s' j wr (by
            have h1 := cntF_mono HJ.out.1.len HJ.out.1.mono
            have h2 := Hs.out.2.1
            have h3 := Hs.out.2.2
            omega) HJ.out.2.1 hjn)
          have Hx := Lib.hid (And.intro hx hje)
          clear hx hje
          go_wp2_with fail
          refine HC.out.mono ?_; rintro e w3 ⟨v3, s3, rfl, hv3, hs3, ch3⟩
          have HN : Hid (VisI (EdP p) (s.set i true) i (befN p n i) (k + 1) s3 ∧ VsS p B n b6 b5 b7 (some ⟨g, og, none⟩) ss s3 w3 ∧ Chg (fun q => q = b6) w w3) := Lib.hid ⟨HJ.out.1.step Hx.out.1 Hx.out.2 hv3, hs3, HJ.out.2.2.t ch3⟩
          clear hv3 hs3 ch3 HJ HC
          go_wp2_with fail
          go_roundw
          case rel => exact ⟨k + 1, s3, by omega, by go_num, HN⟩
          case measure => simp [intOf]; omega
        · obtain rfl : sn = k := by omega
          have hltI : ¬ ((sn : Int) < (sn : Int)) := by omega
          have HF : Hid (Vis (EdP p) s i s') := Lib.hid (by
            have h1 := HJ.out.1
            rw [← Hsn.out] at h1
            exact h1.end_ Hs.out.1 (fun u hu => befN_mem.2 ⟨by
              obtain ⟨x, hx, _⟩ := edF_mem.1 hu
              have := (List.getElem?_eq_some_iff.1 hx).1
              rw [Hl.out] at this
              exact this, hu⟩))
          go_wp2_with fail
          try refine bodyPost_ret (results_none rfl _ _ _) rfl ?_
          exact ⟨_, s', rfl, HF.out, HJ.out.2.1, HJ.out.2.2⟩
end Go.Proofs.Ytlneifgihdickaa
namespace Go.Proofs.Ytlneifgihdickaa
open Go.RowKit Go.Fx

set_option maxHeartbeats 1000000 in
theorem cloneO (A : Option Addr) (n c : Nat) {α : Type} {f : α → List Value} (hf : ∀ x, (f x).length = 1) (h1 : ∀ x, ∀ u ∈ f x, u.oneCell' = true) (xs : List α) (w : World) (h : RdS 1 f w A n xs) (hn : n ≤ 1000000000) :
    Calls Try.prog 37 #[.slice A n c] w (ClnP 1 n (xs.flatMap f) w) := by
  cases A with
  | none =>
    have hn0 : n = 0 := by
      rcases Nat.eq_zero_or_pos n with h0 | h0
      · exact h0
      · obtain ⟨b, o, e⟩ := h.some_ h0; cases e
    subst hn0
    obtain rfl : xs = [] := List.eq_nil_of_length_eq_zero h.1
    have hq := fun w' => Lib.run_eql_slice_nil (P := Try.prog) w' 30 4 none 0 c 0 0 ul_bo
    simp only [Option.isNone_none] at hq
    clear h
    go_enter Try.func37, Try.ntmps37
    go_wp2
    go_ret
    exact ⟨none, 0, rfl, RoomS.nil, Ext.refl _, fun k hk => absurd hk foot_none⟩
  | some a =>
    have hq := fun w' => Lib.run_eql_slice_nil (P := Try.prog) w' 30 4 (some a) n c 0 0 ul_bo
    simp only [Option.isNone_some] at hq
    have HR := Lib.hid h
    clear h
    go_enter Try.func37, Try.ntmps37
    go_wp2_with (refine wpl_buildS (f := f) (s := 1) hf (by omega) (by rfl) rfl ul_bo info_bo [] (by rfl) (by rfl) (by decide) [] (by rfl) ?_)
    intro g w1 b1 e1 lo1 _; refine Lib.hid ?_
    have own0 : RoomS 1 w1 (some ⟨g, 0, none⟩) 0 0 [] := RoomS.zero
    go_wp2_with (refine wpl_append_atS (by rfl) rfl ul_bo info_bo rfl rfl own0 rfl (Src.ofRdS ul_bo hf (HR.out.ext e1) h1) (by simp only [maxLen]; omega) (by omega) ?_)
    intro A2 c2 w2 r2 ch2 ft2; refine Lib.hid ?_
    try simp only [Nat.zero_add, List.nil_append] at r2
    have e2 : Ext w1 w2 := (ch2.mono (T' := fun _ => False) (fun k _ hk => foot_zero hk)).ext
    have hnew : ∀ k, foot A2 c2 k → w.heap.size ≤ k := fun k hk => by
      rcases ft2 k hk with h1 | h1
      · exact absurd h1 foot_zero
      · have := e1.size; omega
    have hfin : ClnP 1 n (xs.flatMap f) w (.returned (.slice A2 n c2)) w2 := ⟨A2, c2, rfl, r2, e1.t e2, hnew⟩
    have HFin := Lib.hid hfin
    clear r2 ch2 ft2 e1 e2 b1 hnew hfin
    go_wp2
    go_ret
    exact HFin.out
set_option maxHeartbeats 1000000 in
theorem cloneI (A : Option Addr) (n c : Nat) {α : Type} {f : α → List Value} (hf : ∀ x, (f x).length = 5) (h1 : ∀ x, ∀ u ∈ f x, u.oneCell' = true) (xs : List α) (w : World) (h : RdS 5 f w A n xs) (hn : n ≤ 1000000000) :
    Calls Try.prog 22 #[.slice A n c] w (ClnP 5 n (xs.flatMap f) w) := by
  cases A with
  | none =>
    have hn0 : n = 0 := by
      rcases Nat.eq_zero_or_pos n with h0 | h0
      · exact h0
      · obtain ⟨b, o, e⟩ := h.some_ h0; cases e
    subst hn0
    obtain rfl : xs = [] := List.eq_nil_of_length_eq_zero h.1
    have hq := fun w' => Lib.run_eql_slice_nil (P := Try.prog) w' 24 34 none 0 c 0 0 ul_ins
    simp only [Option.isNone_none] at hq
    clear h
    go_enter Try.func22, Try.ntmps22
    go_wp2
    go_ret
    exact ⟨none, 0, rfl, RoomS.nil, Ext.refl _, fun k hk => absurd hk foot_none⟩
  | some a =>
    have hq := fun w' => Lib.run_eql_slice_nil (P := Try.prog) w' 24 34 (some a) n c 0 0 ul_ins
    simp only [Option.isNone_some] at hq
    have HR := Lib.hid h
    clear h
    go_enter Try.func22, Try.ntmps22
    go_wp2_with (refine wpl_buildS (f := f) (s := 5) hf (by omega) (by rfl) rfl ul_ins info_ins [] (by rfl) (by rfl) (by decide) [] (by rfl) ?_)
    intro g w1 b1 e1 lo1 _; refine Lib.hid ?_
    have own0 : RoomS 5 w1 (some ⟨g, 0, none⟩) 0 0 [] := RoomS.zero
    go_wp2_with (refine wpl_append_atS (by rfl) rfl ul_ins info_ins rfl rfl own0 rfl (Src.ofRdS ul_ins hf (HR.out.ext e1) h1) (by simp only [maxLen]; omega) (by omega) ?_)
    intro A2 c2 w2 r2 ch2 ft2; refine Lib.hid ?_
    try simp only [Nat.zero_add, List.nil_append] at r2
    have e2 : Ext w1 w2 := (ch2.mono (T' := fun _ => False) (fun k _ hk => foot_zero hk)).ext
    have hnew : ∀ k, foot A2 c2 k → w.heap.size ≤ k := fun k hk => by
      rcases ft2 k hk with h1 | h1
      · exact absurd h1 foot_zero
      · have := e1.size; omega
    have hfin : ClnP 5 n (xs.flatMap f) w (.returned (.slice A2 n c2)) w2 := ⟨A2, c2, rfl, r2, e1.t e2, hnew⟩
    have HFin := Lib.hid hfin
    clear r2 ch2 ft2 e1 e2 b1 hnew hfin
    go_wp2
    go_ret
    exact HFin.out
/-- An instruction can end. -/
def EnW (p : List Ins) (v : Nat) : Prop := ∃ h x, p[h]? = some x ∧ x.op = 1 ∧ Tow (EdP p) v h
/-- A list tells which instructions can end. -/
structure IsE (p : List Ins) (es : List Bool) : Prop where
  len : es.length = p.length
  at_ : ∀ {v : Nat} {b : Bool}, es[v]? = some b → (b = true ↔ EnW p v)
theorem IsE.unique {p : List Ins} {es es' : List Bool} (h : IsE p es) (h' : IsE p es') : es = es' := by
  refine List.ext_getElem? (fun v => ?_)
  by_cases hv : v < p.length
  · have e1 := List.getElem?_eq_getElem (l := es) (i := v) (by rw [h.len]; exact hv)
    have e2 := List.getElem?_eq_getElem (l := es') (i := v) (by rw [h'.len]; exact hv)
    rw [e1, e2]
    congr 1
    exact Bool.eq_iff_iff.2 ((h.at_ e1).trans (h'.at_ e2).symm)
  · rw [List.getElem?_eq_none (by rw [h.len]; omega), List.getElem?_eq_none (by rw [h'.len]; omega)]
/-- While the Halts are gone through. -/
structure EnI (p : List Ins) (k : Nat) (s : List Bool) : Prop where
  got : ∀ (j : Nat) (x : Ins), j < k → p[j]? = some x → x.op = 1 → s[j]? = some true
  cl : ∀ v : Nat, s[v]? = some true → ∀ u, EdP p u v → s[u]? = some true
  ok : ∀ v : Nat, s[v]? = some true → EnW p v
theorem EnI.start (p : List Ins) (m : Nat) : EnI p 0 (List.replicate m false) := by
  have h : ∀ v : Nat, (List.replicate m false)[v]? = some true → False := fun v hv => by
    have := List.eq_of_mem_replicate (List.mem_of_getElem? hv)
    cases this
  exact ⟨fun j x hj => by omega, fun v hv => (h v hv).elim, fun v hv => (h v hv).elim⟩
theorem EnI.visit {p : List Ins} {k : Nat} {s s' : List Bool} {x : Ins} (h : EnI p k s) (hx : p[k]? = some x) (ho : x.op = 1) (hv : Vis (EdP p) s k s') : EnI p (k + 1) s' := by
  refine ⟨fun j y hj hy hp => ?_, fun v hs u e => ?_, fun v hs => ?_⟩
  · by_cases hk : j < k
    · exact hv.mono _ (h.got j y hk hy hp)
    · obtain rfl : j = k := by omega
      exact hv.at_
  · rcases hv.new v hs with h1 | h1
    · exact hv.mono _ (h.cl v h1 u e)
    · exact h1.1 u e
  · rcases hv.new v hs with h1 | h1
    · exact h.ok v h1
    · exact ⟨k, x, hx, ho, h1.2⟩
theorem EnI.skip {p : List Ins} {k : Nat} {s : List Bool} {x : Ins} (h : EnI p k s) (hx : p[k]? = some x) (ho : x.op ≠ 1) : EnI p (k + 1) s := by
  refine ⟨fun j y hj hy hp => ?_, h.cl, h.ok⟩
  by_cases hk : j < k
  · exact h.got j y hk hy hp
  · obtain rfl : j = k := by omega
    rw [hx] at hy
    cases hy
    exact absurd hp ho
theorem EnI.end_ {p : List Ins} {s : List Bool} (h : EnI p p.length s) (hl : p.length ≤ s.length) : IsE p (s.take p.length) := by
  refine ⟨by rw [List.length_take]; omega, fun {v b} hb => ?_⟩
  have hv : v < p.length := by have := (List.getElem?_eq_some_iff.1 hb).1; rw [List.length_take] at this; omega
  rw [List.getElem?_take, if_pos hv] at hb
  constructor
  · rintro rfl
    exact h.ok v hb
  · rintro ⟨t, x, hx, ho, hw⟩
    have ht := h.got t x (List.getElem?_eq_some_iff.1 hx).1 hx ho
    have key : ∀ u, Tow (EdP p) v u → s[u]? = some true → s[v]? = some true := by
      intro u hu
      induction hu with
      | start _ => exact id
      | step _ e _ ih => exact fun h1 => ih (h.cl _ h1 _ e)
    have h2 := key t hw ht
    rw [hb] at h2
    exact Option.some.inj h2
theorem boolC_one (b : Bool) : ∀ u ∈ [boolv b], u.oneCell' = true := fun u hu => by
  obtain rfl : u = boolv b := by simpa using hu
  rfl
/-- What Ends leaves. -/
def EndP (p : List Ins) (n : Nat) (w : World) (e : Ending) (w' : World) : Prop :=
  ∃ A c es, e = .returned (.tuple #[.slice A n c, .int .i64 0]) ∧ IsE p es ∧ Room w' A n c (es.map boolv) ∧ (∀ q, foot A c q → w.heap.size ≤ q) ∧ Ext w w'
theorem ends_bad (A : Option Addr) (n c : Nat) (p : List Ins) (w : World) (h : RdS 5 insC w A n p) (h0 : (checkF p).2 ≠ 0) :
    Calls Try.prog 13 #[.slice A n c] w fun e w' => e = .returned (.tuple #[.slice none 0 0, .int .i64 160]) ∧ Ext w w' := by
  have HR := Lib.hid (right_ A n c p w h)
  rw [if_neg h0] at HR
  clear h h0
  go_enter Try.func13, Try.ntmps13
  go_wp2_with fail
  refine HR.out.mono ?_; rintro e w2 ⟨rfl, e2⟩
  have E2 := Lib.hid e2
  clear e2
  go_wp2_with fail
  go_ret2
  exact ⟨rfl, E2.out⟩
set_option maxRecDepth 100000 in
set_option maxHeartbeats 2000000 in
theorem ends_ (A : Option Addr) (n c : Nat) (p : List Ins) (w : World) (h : RdS 5 insC w A n p) (hp : RightP p) :
    Calls Try.prog 13 #[.slice A n c] w (EndP p n w) := by
  have hl := h.1
  have hn := hp.max
  rw [hl] at hn
  have HR := Lib.hid (right_ A n c p w h)
  rw [if_pos (rightP_iff.2 hp)] at HR
  have H := Lib.hid h
  have HP := Lib.hid hp
  have Hl := Lib.hid hl
  clear h hp hl
  go_enter Try.func13, Try.ntmps13
  go_wp2_with fail
  refine HR.out.mono ?_; rintro e w2 ⟨rfl, e2⟩
  have E2 := Lib.hid e2
  clear e2
  go_wp2_with fail
  refine (before_ A n c p w2 (H.out.ext E2.out) HP.out).mono ?_; rintro e w3 ⟨A3, ss, rfl, hl3, e3⟩
  have H3 := Lib.hid (And.intro (hl3.down E2.out.size) (E2.out.t e3))
  clear hl3 e3 E2
  go_upto_region 8 with fail
  obtain ⟨b5, hb5⟩ : ∃ b5, b5 = w3.heap.size := ⟨_, rfl⟩
  obtain ⟨b6, hb6⟩ : ∃ b6, b6 = b5 + 1 := ⟨_, rfl⟩
  obtain ⟨b7, hb7⟩ : ∃ b7, b7 = b6 + 1 := ⟨_, rfl⟩
  rw [← hb5, ← hb6, ← hb7]
  obtain ⟨w4, hw4⟩ : ∃ w4, w4 = ((w3.alloc (.cells #[.slice A3 n n] 69)).alloc (.cells Try.zeroCells71 71)).alloc (.cells #[.func (.func 36) #[] #[.pointer (some ⟨b6, 0, none⟩), .pointer (some ⟨b5, 0, none⟩), .pointer (some ⟨b7, 0, none⟩)]] 72) := ⟨_, rfl⟩
  have x4 : Ext w3 w4 := by rw [hw4]; exact ((Ext.alloc _ _).t (Ext.alloc _ _)).t (Ext.alloc _ _)
  have k5 : Blk w4 b5 69 #[.slice A3 n n] := by rw [hw4, hb5]; exact ((Blk.new _ _ _).alloc _).alloc _
  have k6 : Blk w4 b6 71 Try.zeroCells71 := by
    rw [hw4, hb6, hb5]
    have h1 := Blk.new (w3.alloc (.cells #[.slice A3 n n] 69)) 71 Try.zeroCells71
    rw [World.size_alloc] at h1
    exact h1.alloc _
  have k7 : Blk w4 b7 72 #[.func (.func 36) #[] #[.pointer (some ⟨b6, 0, none⟩), .pointer (some ⟨b5, 0, none⟩), .pointer (some ⟨b7, 0, none⟩)]] := by
    have h1 := Blk.new ((w3.alloc (.cells #[.slice A3 n n] 69)).alloc (.cells Try.zeroCells71 71)) 72 #[.func (.func 36) #[] #[.pointer (some ⟨b6, 0, none⟩), .pointer (some ⟨b5, 0, none⟩), .pointer (some ⟨b7, 0, none⟩)]]
    rw [World.size_alloc, World.size_alloc, ← hb5, ← hb6, ← hb7] at h1
    rw [hw4]
    exact h1
  have hz : (Try.zeroCells71).toList = (List.replicate 256 false).map boolv := by kernel_rfl
  have r6 : Room w4 (some ⟨b6, 0, none⟩) 256 256 ((List.replicate 256 false).map boolv) := by
    have h1 := Room.of_blk (n := 256) k6 (by kernel_rfl) (by unfold maxLen; omega)
    rwa [hz] at h1
  have H4 : Hid (VsS p w.heap.size n b6 b5 b7 A3 ss (List.replicate 256 false) w4 ∧ Ext w w4 ∧ w.heap.size ≤ b6) := Lib.hid ⟨⟨r6, H3.out.1.ext x4, k5, k7, by omega, by omega, fun q hq => by have := H3.out.1.lt hq; omega⟩, H3.out.2.t x4, by have := H3.out.2.size; omega⟩
  rw [← hw4]
  clear hw4 x4 k5 k6 k7 hz r6 H3 hb5 hb6 hb7 HR
  go_wp2_with fail
  go_loopw [19] (fun v wr => ∃ (k : Nat) (s : List Bool), k ≤ n ∧ v = .int .i64 (k : Int) ∧ Hid (EnI p k s ∧ VsS p w.heap.size n b6 b5 b7 A3 ss s wr ∧ Ext w wr)) (fun v _ => n - (intOf v).toNat)
  case atStart => exact ⟨0, _, by omega, rfl, Lib.hid ⟨EnI.start p 256, H4.out.1, H4.out.2.1⟩⟩
  case round =>
    obtain ⟨k, s, hk, rfl, HJ⟩ := hrel
    by_cases hlt : k < n
    · have hltI : (k : Int) < (n : Int) := by omega
      obtain ⟨b, o, x, hA, _, hx, c0, -, -, -, -⟩ := (H.out.ext HJ.out.2.2).ins hlt
      subst hA
      have Hx := Lib.hid hx
      clear hx
      by_cases ho : x.op = 1
      · have hoI : ((x.op : Int) == 1) = true := by simp [ho]
        have HV := Lib.hid (visit_ p w.heap.size n b6 b5 b7 A3 ss HP.out Hl.out (cntF s) s k wr (Nat.le_refl _) HJ.out.2.1 hlt)
        have hc7 := HJ.out.2.1.k7.cell0
        have Ho := Lib.hid ho
        clear ho
        go_wp2_with fail
        refine HV.out.mono ?_; rintro e w5 ⟨v5, s5, rfl, hv5, hs5, ch5⟩
        have HN : Hid (EnI p (k + 1) s5 ∧ VsS p w.heap.size n b6 b5 b7 A3 ss s5 w5 ∧ Ext w w5) := Lib.hid ⟨HJ.out.1.visit Hx.out Ho.out hv5, hs5, HJ.out.2.2.trans (ch5.below HJ.out.2.2.size (fun q hq e => by have := H4.out.2.2; omega))⟩
        clear hv5 hs5 ch5 HJ HV hc7
        go_wp2_with fail
        go_roundw
        case rel => exact ⟨k + 1, s5, by omega, by go_num, HN⟩
        case measure => simp [intOf]; omega
      · have hoI : ((x.op : Int) == 1) = false := by simp; omega
        have HN : Hid (EnI p (k + 1) s ∧ VsS p w.heap.size n b6 b5 b7 A3 ss s wr ∧ Ext w wr) := Lib.hid ⟨HJ.out.1.skip Hx.out ho, HJ.out.2⟩
        clear ho HJ
        go_wp2_with fail
        go_roundw
        case rel => exact ⟨k + 1, s, by omega, by go_num, HN⟩
        case measure => simp [intOf]; omega
    · obtain rfl : n = k := by omega
      have hltI : ¬ ((n : Int) < (n : Int)) := by omega
      have h0n : (0 : Int) ≤ (n : Int) := by omega
      have h256 : (n : Int) ≤ 256 := by omega
      have HRm := Lib.hid ((HJ.out.2.1.seen.take (k := n) hn))
      have HC := Lib.hid (cloneO (some ⟨b6, 0, none⟩) n 256 (f := fun b => [boolv b]) (fun _ => rfl) boolC_one (s.take n) wr (RdS.of_rd (by
        have h1 := HRm.out
        rw [← List.map_take] at h1
        exact h1.rd)) (by omega))
      go_wp2_with fail
      refine HC.out.mono ?_; rintro e w5 ⟨A5, c5, rfl, r5, e5, f5⟩
      rw [flat_one] at r5
      have HF : Hid (IsE p (s.take n) ∧ Room w5 A5 n c5 ((s.take n).map boolv) ∧ (∀ q, foot A5 c5 q → w.heap.size ≤ q) ∧ Ext w w5) := Lib.hid ⟨by
        have h1 := HJ.out.1
        rw [← Hl.out] at h1 ⊢
        exact h1.end_ (by rw [HJ.out.2.1.len]; have := Hl.out; omega), r5.room, fun q hq => Nat.le_trans HJ.out.2.2.size (f5 q hq), HJ.out.2.2.t e5⟩
      clear r5 e5 f5 HC HRm HJ
      go_wp2_with fail
      go_ret2
      exact ⟨A5, c5, s.take n, rfl, HF.out⟩
end Go.Proofs.Ytlneifgihdickaa
