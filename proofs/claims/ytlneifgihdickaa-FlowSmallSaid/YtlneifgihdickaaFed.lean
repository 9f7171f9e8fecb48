/- Fed: edges: where control goes, told one after the other. -/
import Derived.Test.YtlneifgihdickaaCck
import Derived.Test.YtlneifgihdickaaFlp
import Derived.Test.YtlneifgihdickaaAps
import Derived.Laws.StructEq
import Derived.RegionTactic
import Derived.Deep.CutRange
import Derived.Deep.RegionHeldLaw
import Derived.StillTailTactics
import Derived.Outline
import Derived.Deep.LoopGhost
namespace Go.Proofs.Ytlneifgihdickaa
open Go.RowKit Go.Fx
attribute [local go_sem] Oper.semAt_some
/-- What an iterator over integers asks, and leaves; it is never left. Hd: what it reads. -/
def IterI (gf : Nat) (lb : Array Value) (Hd : World → Prop) (xs : List Nat) : Prop :=
  ∀ (l : Nat) (el : Nat → Array Value) (J0 : World → Prop) (J : (Nat → Prop) → Nat → World → Prop) (W : World), (∀ (o k : Nat), xs[o]? = some k → el o = #[.int .i64 (k : Int)]) → IterH Try.prog l el xs.length J0 J (fun _ => False) → (∀ W, J0 W → Hd W) → (∀ T o W, J T o W → Hd W) → J0 W → Calls Try.prog gf (#[.func (.yield l) #[] #[]] ++ lb) W (IterP xs.length J (fun _ => False))
/-- What edges reads. -/
structure EdH (p : List Ins) (A : Option Addr) (n c i b1 b2 : Nat) (W : World) : Prop where
  rd : RdS 5 insC W A n p
  b1 : Blk W b1 24 #[.slice A n c]
  b2 : Blk W b2 3 #[.int .i64 (i : Int)]
theorem EdH.ext {p : List Ins} {A : Option Addr} {n c i b1 b2 : Nat} {W W' : World} (h : EdH p A n c i b1 b2 W) (e : Ext W W') : EdH p A n c i b1 b2 W' := ⟨h.rd.ext e, h.b1.ext e, h.b2.ext e⟩
/-- What edges tells. -/
def EdgesP (p : List Ins) (A : Option Addr) (n c i : Nat) (w : World) (e : Ending) (w' : World) : Prop :=
  ∃ b1 b2, e = .returned (.func (.func 60) #[] #[.pointer (some ⟨b1, 0, none⟩), .pointer (some ⟨b2, 0, none⟩)]) ∧ Ext w w' ∧ EdH p A n c i b1 b2 w' ∧ w.heap.size ≤ b1 ∧ w.heap.size ≤ b2
set_option maxRecDepth 100000 in
set_option maxHeartbeats 20000000 in
theorem edges1 (b1 b2 : Nat) (A : Option Addr) (n c i : Nat) (p : List Ins) (hi : i < n) (hn : n ≤ 256) :
    IterI 60 #[.pointer (some ⟨b1, 0, none⟩), .pointer (some ⟨b2, 0, none⟩)] (EdH p A n c i b1 b2) (edF p i) := by
  intro l el J0 J W hel hI hw hJ h0
  change Calls Try.prog 60 #[.func (.yield l) #[] #[], .pointer (some ⟨b1, 0, none⟩), .pointer (some ⟨b2, 0, none⟩)] W (IterP (edF p i).length J (fun _ => False))
  obtain ⟨h, h1, h2⟩ := hw W h0
  obtain ⟨b, o, x, rfl, _, hx, c0, c1, c2, c3, c4⟩ := h.ins hi
  have HC := Lib.hid h
  have HA := Lib.hid h1
  have HB := Lib.hid h2
  have HJ0 : Hid (J (fun _ => False) 0 W) := Lib.hid (hI.start _ _ _ h0 (Ext.refl _) (fun k hk => hk.elim))
  rw [edF_at hx] at hel hI ⊢
  have HJx := Lib.hid hJ
  have HI := Lib.hid hI
  have Hel := Lib.hid hel
  have Hx := Lib.hid hx
  have Hin := Lib.hid hi
  have ca := HA.out.cell0
  have cb := HB.out.cell0
  have hii : (i : Int) < (n : Int) := by omega
  have Hlo := Lib.hid (fun h => tgtF_lo (x := x) h)
  clear hI hw hJ h0 h h1 h2 hel hx hi
  rcases edX_cases x i with ⟨h1, h2, h3⟩ | ⟨h1, h2, h3⟩ | ⟨h1, h2, h3⟩ | ⟨h1, h2, h4, h3⟩ | ⟨h1, h2, h4, h3⟩ | ⟨h1, h2, h4, h3⟩
  · skip
    have H1 := Lib.hid (fun w' => target_ x w')
    unfold TgtP insV at H1
    rw [h1] at H1
    simp only [Bool.false_eq_true, if_false] at H1
    have H2 := Lib.hid (fun w' => goes_ x w')
    unfold BoolP insV at H2
    rw [h2] at H2
    rw [h3] at HI Hel ⊢
    clear h1 h2 h3 Hlo
    go_enter Try.func60, Try.ntmps60
    go_wp2_with fail
    refine (H1.out _).mono ?_; rintro en w1 ⟨rfl, e1⟩
    have HJ1 : Hid (J (fun _ => False) 0 w1) := Lib.hid (HI.out.ext _ _ _ _ HJ0.out e1)
    have HC1 := Lib.hid (HC.out.ext e1)
    have HA1 := Lib.hid (HA.out.ext e1)
    have HB1 := Lib.hid (HB.out.ext e1)
    clear e1 c0 c1 c2 c3 c4 ca cb
    have ca := HA1.out.cell0
    have cb := HB1.out.cell0
    obtain ⟨_, _, x', hA, _, hx', c0, c1, c2, c3, c4⟩ := HC1.out.ins Hin.out
    cases hA
    obtain rfl : x' = x := by have := Hx.out; rw [hx'] at this; exact Option.some.inj this
    clear hx'
    skip
    go_wp2_with fail
    refine (H2.out _).mono ?_; rintro en w2 ⟨rfl, e2⟩
    have HJ : Hid (J (fun _ => False) 0 w2) := Lib.hid (HI.out.ext _ _ _ _ HJ1.out e2)
    have HB2 := Lib.hid (HB1.out.ext e2)
    clear e2 c0 c1 c2 c3 c4 ca cb HJ1 HA1 HB1 HC1 H1 H2 HA HB HC
    have cb := HB2.out.cell0
    go_wp2_with fail
    try refine bodyPost_ret (results_none rfl _ _ _) rfl ?_
    exact ⟨⟨_, rfl⟩, .inl ⟨_, HJ.out⟩⟩
  · skip
    have H1 := Lib.hid (fun w' => target_ x w')
    unfold TgtP insV at H1
    rw [h1] at H1
    simp only [Bool.false_eq_true, if_false] at H1
    have H2 := Lib.hid (fun w' => goes_ x w')
    unfold BoolP insV at H2
    rw [h2] at H2
    rw [h3] at HI Hel ⊢
    clear h1 h2 h3 Hlo
    go_enter Try.func60, Try.ntmps60
    go_wp2_with fail
    refine (H1.out _).mono ?_; rintro en w1 ⟨rfl, e1⟩
    have HJ1 : Hid (J (fun _ => False) 0 w1) := Lib.hid (HI.out.ext _ _ _ _ HJ0.out e1)
    have HC1 := Lib.hid (HC.out.ext e1)
    have HA1 := Lib.hid (HA.out.ext e1)
    have HB1 := Lib.hid (HB.out.ext e1)
    clear e1 c0 c1 c2 c3 c4 ca cb
    have ca := HA1.out.cell0
    have cb := HB1.out.cell0
    obtain ⟨_, _, x', hA, _, hx', c0, c1, c2, c3, c4⟩ := HC1.out.ins Hin.out
    cases hA
    obtain rfl : x' = x := by have := Hx.out; rw [hx'] at this; exact Option.some.inj this
    clear hx'
    skip
    go_wp2_with fail
    refine (H2.out _).mono ?_; rintro en w2 ⟨rfl, e2⟩
    have HJ : Hid (J (fun _ => False) 0 w2) := Lib.hid (HI.out.ext _ _ _ _ HJ1.out e2)
    have HB2 := Lib.hid (HB1.out.ext e2)
    clear e2 c0 c1 c2 c3 c4 ca cb HJ1 HA1 HB1 HC1 H1 H2 HA HB HC
    have cb := HB2.out.cell0
    go_upto_region 3 with fail
    have hyy := HI.out.yield _ 0 _ (by simp) HJ.out
    rw [show el 0 = #[.int .i64 ((i : Int) + 1)] from Hel.out 0 (i + 1) rfl] at hyy
    obtain ⟨fn, tmps, assign, body, hy, hRn⟩ := hyy
    have HRn := Lib.hid hRn
    clear hRn HJ
    refine (wpIn_wide (n := 9)).1 ?_
    gi_wp2
    refine HRn.out.mono ?_
    rintro en W' (⟨rfl, hJ', hT⟩ | ⟨rfl, hX'⟩)
    rotate_left
    · exact hX'.elim
    have HJ := Lib.hid hJ'
    clear hJ' hT hy HRn cb
    have cb := (HJx.out _ _ _ HJ.out).b2.cell0
    gi_wp2
    go_wp2_with fail
    try refine bodyPost_ret (results_none rfl _ _ _) rfl ?_
    exact ⟨⟨_, rfl⟩, .inl ⟨_, HJ.out⟩⟩
  · skip
    have H1 := Lib.hid (fun w' => target_ x w')
    unfold TgtP insV at H1
    rw [h1] at H1
    simp only [if_true] at H1
    have H2 := Lib.hid (fun w' => goes_ x w')
    unfold BoolP insV at H2
    rw [h2] at H2
    rw [h3] at HI Hel ⊢
    obtain ⟨m, hm⟩ : ∃ m : Nat, x.n = (m : Int) := ⟨x.n.toNat, by have := Hlo.out h1; omega⟩
    have hml := Hlo.out h1
    rw [hm] at H1 H2 hml c4
    rw [hm, Int.toNat_natCast] at HI Hel ⊢
    have Hm := Lib.hid hm
    clear h1 h2 h3 Hlo hm
    by_cases hle : (m : Int) ≤ (i : Int)
    · have hng : ¬ ((i : Int) < (m : Int)) := by omega
      go_enter Try.func60, Try.ntmps60
      go_wp2_with fail
      refine (H1.out _).mono ?_; rintro en w1 ⟨rfl, e1⟩
      have HJ1 : Hid (J (fun _ => False) 0 w1) := Lib.hid (HI.out.ext _ _ _ _ HJ0.out e1)
      have HC1 := Lib.hid (HC.out.ext e1)
      have HA1 := Lib.hid (HA.out.ext e1)
      have HB1 := Lib.hid (HB.out.ext e1)
      clear e1 c0 c1 c2 c3 c4 ca cb
      have ca := HA1.out.cell0
      have cb := HB1.out.cell0
      obtain ⟨_, _, x', hA, _, hx', c0, c1, c2, c3, c4⟩ := HC1.out.ins Hin.out
      cases hA
      obtain rfl : x' = x := by have := Hx.out; rw [hx'] at this; exact Option.some.inj this
      clear hx'
      rw [Hm.out] at c4
      go_wp2_with fail
      refine (H2.out _).mono ?_; rintro en w2 ⟨rfl, e2⟩
      have HJ : Hid (J (fun _ => False) 0 w2) := Lib.hid (HI.out.ext _ _ _ _ HJ1.out e2)
      have HB2 := Lib.hid (HB1.out.ext e2)
      clear e2 c0 c1 c2 c3 c4 ca cb HJ1 HA1 HB1 HC1 H1 H2 HA HB HC
      have cb := HB2.out.cell0
      go_upto_region 2 with fail
      have hyy := HI.out.yield _ 0 _ (by simp) HJ.out
      rw [show el 0 = #[.int .i64 ((m : Int))] from Hel.out 0 m rfl] at hyy
      obtain ⟨fn, tmps, assign, body, hy, hRn⟩ := hyy
      have HRn := Lib.hid hRn
      clear hRn HJ
      refine (wpIn_wide (n := 9)).1 ?_
      gi_wp2
      refine HRn.out.mono ?_
      rintro en W' (⟨rfl, hJ', hT⟩ | ⟨rfl, hX'⟩)
      rotate_left
      · exact hX'.elim
      have HJ := Lib.hid hJ'
      clear hJ' hT hy HRn cb
      have cb := (HJx.out _ _ _ HJ.out).b2.cell0
      gi_wp2
      go_wp2_with fail
      try refine bodyPost_ret (results_none rfl _ _ _) rfl ?_
      exact ⟨⟨_, rfl⟩, .inl ⟨_, HJ.out⟩⟩
    · have hgt : (i : Int) < (m : Int) := by omega
      by_cases hg1 : (i : Int) + 1 < (m : Int)
      · skip
        go_enter Try.func60, Try.ntmps60
        go_wp2_with fail
        refine (H1.out _).mono ?_; rintro en w1 ⟨rfl, e1⟩
        have HJ1 : Hid (J (fun _ => False) 0 w1) := Lib.hid (HI.out.ext _ _ _ _ HJ0.out e1)
        have HC1 := Lib.hid (HC.out.ext e1)
        have HA1 := Lib.hid (HA.out.ext e1)
        have HB1 := Lib.hid (HB.out.ext e1)
        clear e1 c0 c1 c2 c3 c4 ca cb
        have ca := HA1.out.cell0
        have cb := HB1.out.cell0
        obtain ⟨_, _, x', hA, _, hx', c0, c1, c2, c3, c4⟩ := HC1.out.ins Hin.out
        cases hA
        obtain rfl : x' = x := by have := Hx.out; rw [hx'] at this; exact Option.some.inj this
        clear hx'
        rw [Hm.out] at c4
        go_wp2_with fail
        refine (H2.out _).mono ?_; rintro en w2 ⟨rfl, e2⟩
        have HJ : Hid (J (fun _ => False) 0 w2) := Lib.hid (HI.out.ext _ _ _ _ HJ1.out e2)
        have HB2 := Lib.hid (HB1.out.ext e2)
        clear e2 c0 c1 c2 c3 c4 ca cb HJ1 HA1 HB1 HC1 H1 H2 HA HB HC
        have cb := HB2.out.cell0
        go_upto_region 5 with fail
        have hyy := HI.out.yield _ 0 _ (by simp) HJ.out
        rw [show el 0 = #[.int .i64 ((m : Int))] from Hel.out 0 m rfl] at hyy
        obtain ⟨fn, tmps, assign, body, hy, hRn⟩ := hyy
        have HRn := Lib.hid hRn
        clear hRn HJ
        refine (wpIn_wide (n := 9)).1 ?_
        gi_wp2
        refine HRn.out.mono ?_
        rintro en W' (⟨rfl, hJ', hT⟩ | ⟨rfl, hX'⟩)
        rotate_left
        · exact hX'.elim
        have HJ := Lib.hid hJ'
        clear hJ' hT hy HRn cb
        have cb := (HJx.out _ _ _ HJ.out).b2.cell0
        gi_wp2
        go_wp2_with fail
        try refine bodyPost_ret (results_none rfl _ _ _) rfl ?_
        exact ⟨⟨_, rfl⟩, .inl ⟨_, HJ.out⟩⟩
      · skip
        go_enter Try.func60, Try.ntmps60
        go_wp2_with fail
        refine (H1.out _).mono ?_; rintro en w1 ⟨rfl, e1⟩
        have HJ1 : Hid (J (fun _ => False) 0 w1) := Lib.hid (HI.out.ext _ _ _ _ HJ0.out e1)
        have HC1 := Lib.hid (HC.out.ext e1)
        have HA1 := Lib.hid (HA.out.ext e1)
        have HB1 := Lib.hid (HB.out.ext e1)
        clear e1 c0 c1 c2 c3 c4 ca cb
        have ca := HA1.out.cell0
        have cb := HB1.out.cell0
        obtain ⟨_, _, x', hA, _, hx', c0, c1, c2, c3, c4⟩ := HC1.out.ins Hin.out
        cases hA
        obtain rfl : x' = x := by have := Hx.out; rw [hx'] at this; exact Option.some.inj this
        clear hx'
        rw [Hm.out] at c4
        go_wp2_with fail
        refine (H2.out _).mono ?_; rintro en w2 ⟨rfl, e2⟩
        have HJ : Hid (J (fun _ => False) 0 w2) := Lib.hid (HI.out.ext _ _ _ _ HJ1.out e2)
        have HB2 := Lib.hid (HB1.out.ext e2)
        clear e2 c0 c1 c2 c3 c4 ca cb HJ1 HA1 HB1 HC1 H1 H2 HA HB HC
        have cb := HB2.out.cell0
        go_upto_region 5 with fail
        have hyy := HI.out.yield _ 0 _ (by simp) HJ.out
        rw [show el 0 = #[.int .i64 ((m : Int))] from Hel.out 0 m rfl] at hyy
        obtain ⟨fn, tmps, assign, body, hy, hRn⟩ := hyy
        have HRn := Lib.hid hRn
        clear hRn HJ
        refine (wpIn_wide (n := 9)).1 ?_
        gi_wp2
        refine HRn.out.mono ?_
        rintro en W' (⟨rfl, hJ', hT⟩ | ⟨rfl, hX'⟩)
        rotate_left
        · exact hX'.elim
        have HJ := Lib.hid hJ'
        clear hJ' hT hy HRn cb
        have cb := (HJx.out _ _ _ HJ.out).b2.cell0
        gi_wp2
        go_wp2_with fail
        try refine bodyPost_ret (results_none rfl _ _ _) rfl ?_
        exact ⟨⟨_, rfl⟩, .inl ⟨_, HJ.out⟩⟩
  · skip
    have H1 := Lib.hid (fun w' => target_ x w')
    unfold TgtP insV at H1
    rw [h1] at H1
    simp only [if_true] at H1
    have H2 := Lib.hid (fun w' => goes_ x w')
    unfold BoolP insV at H2
    rw [h2] at H2
    rw [h3] at HI Hel ⊢
    obtain ⟨m, hm⟩ : ∃ m : Nat, x.n = (m : Int) := ⟨x.n.toNat, by have := Hlo.out h1; omega⟩
    have hml := Hlo.out h1
    rw [hm] at H1 H2 hml c4 h4
    rw [hm, Int.toNat_natCast] at HI Hel ⊢
    have Hm := Lib.hid hm
    clear h1 h2 h3 Hlo hm
    go_enter Try.func60, Try.ntmps60
    go_wp2_with fail
    refine (H1.out _).mono ?_; rintro en w1 ⟨rfl, e1⟩
    have HJ1 : Hid (J (fun _ => False) 0 w1) := Lib.hid (HI.out.ext _ _ _ _ HJ0.out e1)
    have HC1 := Lib.hid (HC.out.ext e1)
    have HA1 := Lib.hid (HA.out.ext e1)
    have HB1 := Lib.hid (HB.out.ext e1)
    clear e1 c0 c1 c2 c3 c4 ca cb
    have ca := HA1.out.cell0
    have cb := HB1.out.cell0
    obtain ⟨_, _, x', hA, _, hx', c0, c1, c2, c3, c4⟩ := HC1.out.ins Hin.out
    cases hA
    obtain rfl : x' = x := by have := Hx.out; rw [hx'] at this; exact Option.some.inj this
    clear hx'
    rw [Hm.out] at c4
    go_wp2_with fail
    refine (H2.out _).mono ?_; rintro en w2 ⟨rfl, e2⟩
    have HJ : Hid (J (fun _ => False) 0 w2) := Lib.hid (HI.out.ext _ _ _ _ HJ1.out e2)
    have HB2 := Lib.hid (HB1.out.ext e2)
    clear e2 c0 c1 c2 c3 c4 ca cb HJ1 HA1 HB1 HC1 H1 H2 HA HB HC
    have cb := HB2.out.cell0
    go_upto_region 2 with fail
    have hyy := HI.out.yield _ 0 _ (by simp) HJ.out
    rw [show el 0 = #[.int .i64 ((m : Int))] from Hel.out 0 m rfl] at hyy
    obtain ⟨fn, tmps, assign, body, hy, hRn⟩ := hyy
    have HRn := Lib.hid hRn
    clear hRn HJ
    refine (wpIn_wide (n := 9)).1 ?_
    gi_wp2
    refine HRn.out.mono ?_
    rintro en W' (⟨rfl, hJ', hT⟩ | ⟨rfl, hX'⟩)
    rotate_left
    · exact hX'.elim
    have HJ := Lib.hid hJ'
    clear hJ' hT hy HRn cb
    have cb := (HJx.out _ _ _ HJ.out).b2.cell0
    gi_wp2
    go_upto_region 3 with fail
    have hyy := HI.out.yield _ 1 _ (by simp) HJ.out
    rw [show el 1 = #[.int .i64 ((i : Int) + 1)] from Hel.out 1 (i + 1) rfl] at hyy
    obtain ⟨fn, tmps, assign, body, hy, hRn⟩ := hyy
    have HRn := Lib.hid hRn
    clear hRn HJ
    refine (wpIn_wide (n := 9)).1 ?_
    gi_wp2
    refine HRn.out.mono ?_
    rintro en W' (⟨rfl, hJ', hT⟩ | ⟨rfl, hX'⟩)
    rotate_left
    · exact hX'.elim
    have HJ := Lib.hid hJ'
    clear hJ' hT hy HRn cb
    have cb := (HJx.out _ _ _ HJ.out).b2.cell0
    gi_wp2
    go_wp2_with fail
    try refine bodyPost_ret (results_none rfl _ _ _) rfl ?_
    exact ⟨⟨_, rfl⟩, .inl ⟨_, HJ.out⟩⟩
  · skip
    have H1 := Lib.hid (fun w' => target_ x w')
    unfold TgtP insV at H1
    rw [h1] at H1
    simp only [if_true] at H1
    have H2 := Lib.hid (fun w' => goes_ x w')
    unfold BoolP insV at H2
    rw [h2] at H2
    rw [h3] at HI Hel ⊢
    rw [h4] at H1 H2 c4
    have Hm := Lib.hid h4
    clear h1 h2 h3 Hlo h4
    go_enter Try.func60, Try.ntmps60
    go_wp2_with fail
    refine (H1.out _).mono ?_; rintro en w1 ⟨rfl, e1⟩
    have HJ1 : Hid (J (fun _ => False) 0 w1) := Lib.hid (HI.out.ext _ _ _ _ HJ0.out e1)
    have HC1 := Lib.hid (HC.out.ext e1)
    have HA1 := Lib.hid (HA.out.ext e1)
    have HB1 := Lib.hid (HB.out.ext e1)
    clear e1 c0 c1 c2 c3 c4 ca cb
    have ca := HA1.out.cell0
    have cb := HB1.out.cell0
    obtain ⟨_, _, x', hA, _, hx', c0, c1, c2, c3, c4⟩ := HC1.out.ins Hin.out
    cases hA
    obtain rfl : x' = x := by have := Hx.out; rw [hx'] at this; exact Option.some.inj this
    clear hx'
    rw [Hm.out] at c4
    go_wp2_with fail
    refine (H2.out _).mono ?_; rintro en w2 ⟨rfl, e2⟩
    have HJ : Hid (J (fun _ => False) 0 w2) := Lib.hid (HI.out.ext _ _ _ _ HJ1.out e2)
    have HB2 := Lib.hid (HB1.out.ext e2)
    clear e2 c0 c1 c2 c3 c4 ca cb HJ1 HA1 HB1 HC1 H1 H2 HA HB HC
    have cb := HB2.out.cell0
    go_upto_region 3 with fail
    have hyy := HI.out.yield _ 0 _ (by simp) HJ.out
    rw [show el 0 = #[.int .i64 ((i : Int) + 1)] from Hel.out 0 (i + 1) rfl] at hyy
    obtain ⟨fn, tmps, assign, body, hy, hRn⟩ := hyy
    have HRn := Lib.hid hRn
    clear hRn HJ
    refine (wpIn_wide (n := 9)).1 ?_
    gi_wp2
    refine HRn.out.mono ?_
    rintro en W' (⟨rfl, hJ', hT⟩ | ⟨rfl, hX'⟩)
    rotate_left
    · exact hX'.elim
    have HJ := Lib.hid hJ'
    clear hJ' hT hy HRn cb
    have cb := (HJx.out _ _ _ HJ.out).b2.cell0
    gi_wp2
    go_wp2_with fail
    try refine bodyPost_ret (results_none rfl _ _ _) rfl ?_
    exact ⟨⟨_, rfl⟩, .inl ⟨_, HJ.out⟩⟩
  · skip
    have H1 := Lib.hid (fun w' => target_ x w')
    unfold TgtP insV at H1
    rw [h1] at H1
    simp only [if_true] at H1
    have H2 := Lib.hid (fun w' => goes_ x w')
    unfold BoolP insV at H2
    rw [h2] at H2
    rw [h3] at HI Hel ⊢
    obtain ⟨m, hm⟩ : ∃ m : Nat, x.n = (m : Int) := ⟨x.n.toNat, by have := Hlo.out h1; omega⟩
    have hml := Hlo.out h1
    rw [hm] at H1 H2 hml c4 h4
    rw [hm, Int.toNat_natCast] at HI Hel ⊢
    have Hm := Lib.hid hm
    clear h1 h2 h3 Hlo hm
    go_enter Try.func60, Try.ntmps60
    go_wp2_with fail
    refine (H1.out _).mono ?_; rintro en w1 ⟨rfl, e1⟩
    have HJ1 : Hid (J (fun _ => False) 0 w1) := Lib.hid (HI.out.ext _ _ _ _ HJ0.out e1)
    have HC1 := Lib.hid (HC.out.ext e1)
    have HA1 := Lib.hid (HA.out.ext e1)
    have HB1 := Lib.hid (HB.out.ext e1)
    clear e1 c0 c1 c2 c3 c4 ca cb
    have ca := HA1.out.cell0
    have cb := HB1.out.cell0
    obtain ⟨_, _, x', hA, _, hx', c0, c1, c2, c3, c4⟩ := HC1.out.ins Hin.out
    cases hA
    obtain rfl : x' = x := by have := Hx.out; rw [hx'] at this; exact Option.some.inj this
    clear hx'
    rw [Hm.out] at c4
    go_wp2_with fail
    refine (H2.out _).mono ?_; rintro en w2 ⟨rfl, e2⟩
    have HJ : Hid (J (fun _ => False) 0 w2) := Lib.hid (HI.out.ext _ _ _ _ HJ1.out e2)
    have HB2 := Lib.hid (HB1.out.ext e2)
    clear e2 c0 c1 c2 c3 c4 ca cb HJ1 HA1 HB1 HC1 H1 H2 HA HB HC
    have cb := HB2.out.cell0
    go_upto_region 3 with fail
    have hyy := HI.out.yield _ 0 _ (by simp) HJ.out
    rw [show el 0 = #[.int .i64 ((i : Int) + 1)] from Hel.out 0 (i + 1) rfl] at hyy
    obtain ⟨fn, tmps, assign, body, hy, hRn⟩ := hyy
    have HRn := Lib.hid hRn
    clear hRn HJ
    refine (wpIn_wide (n := 9)).1 ?_
    gi_wp2
    refine HRn.out.mono ?_
    rintro en W' (⟨rfl, hJ', hT⟩ | ⟨rfl, hX'⟩)
    rotate_left
    · exact hX'.elim
    have HJ := Lib.hid hJ'
    clear hJ' hT hy HRn cb
    have cb := (HJx.out _ _ _ HJ.out).b2.cell0
    gi_wp2
    go_upto_region 5 with fail
    have hyy := HI.out.yield _ 1 _ (by simp) HJ.out
    rw [show el 1 = #[.int .i64 ((m : Int))] from Hel.out 1 m rfl] at hyy
    obtain ⟨fn, tmps, assign, body, hy, hRn⟩ := hyy
    have HRn := Lib.hid hRn
    clear hRn HJ
    refine (wpIn_wide (n := 9)).1 ?_
    gi_wp2
    refine HRn.out.mono ?_
    rintro en W' (⟨rfl, hJ', hT⟩ | ⟨rfl, hX'⟩)
    rotate_left
    · exact hX'.elim
    have HJ := Lib.hid hJ'
    clear hJ' hT hy HRn cb
    have cb := (HJx.out _ _ _ HJ.out).b2.cell0
    gi_wp2
    go_wp2_with fail
    try refine bodyPost_ret (results_none rfl _ _ _) rfl ?_
    exact ⟨⟨_, rfl⟩, .inl ⟨_, HJ.out⟩⟩
set_option maxRecDepth 100000 in
theorem edges_ (A : Option Addr) (n c i : Nat) (p : List Ins) (w : World) (h : RdS 5 insC w A n p) :
    Calls Try.prog 34 #[.slice A n c, .int .i64 (i : Int)] w (EdgesP p A n c i w) := by
  have k2 := Blk.new (w.alloc (.cells #[.slice A n c] 24)) 3 #[.int .i64 (i : Int)]
  rw [World.size_alloc] at k2
  have k1 := (Blk.new w 24 #[.slice A n c]).alloc (.cells #[.int .i64 (i : Int)] 3)
  have e2 := (Ext.alloc w (.cells #[.slice A n c] 24)).t (Ext.alloc _ (.cells #[.int .i64 (i : Int)] 3))
  have HK : Hid (EdgesP p A n c i w (.returned (.func (.func 60) #[] #[.pointer (some ⟨w.heap.size, 0, none⟩), .pointer (some ⟨w.heap.size + 1, 0, none⟩)])) ((w.alloc (.cells #[.slice A n c] 24)).alloc (.cells #[.int .i64 (i : Int)] 3))) := Lib.hid ⟨_, _, rfl, e2, ⟨h.ext e2, k1, k2⟩, Nat.le_refl _, Nat.le_succ _⟩
  clear h k1 k2 e2
  go_enter Try.func34, Try.ntmps34
  go_wp2
  go_ret
  exact HK.out
end Go.Proofs.Ytlneifgihdickaa
