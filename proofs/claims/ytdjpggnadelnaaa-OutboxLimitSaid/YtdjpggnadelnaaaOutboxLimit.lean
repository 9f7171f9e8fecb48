/- OutboxLimit: the walk of the law: for any numbers it answers true and leaves all memory as it was (no condition). -/
import Derived.Test.YtdjpggnadelnaaaOss
import Derived.Test.YtdjpggnadelnaaaOaw
namespace Go.Proofs.Ytdjpggnadelnaaa
open Go.RowKit Go.Fx
/-- The outbox of the law, before list j. -/
structure LmJ (w0 : World) (lim : Int) (g : Nat) (ev : List Ev) (A : Option Addr) (n c : Nat) (D : Nat) (W : World) : Prop where
  o : Obx W g 1 lim 0 ev A n c
  q : ∀ x ∈ ev, x.q < (D : Int)
  lo : ∀ k, (k = g ∨ foot A c k) → w0.heap.size ≤ k
  ext : Ext w0 W
section
variable {w0 W W' : World} {lim : Int} {g : Nat} {ev : List Ev} {A : Option Addr} {n c D : Nat}
theorem LmJ.go (h : LmJ w0 lim g ev A n c D W) (x : Ext W W') : LmJ w0 lim g ev A n c D W' := ⟨h.o.ext x, h.q, h.lo, h.ext.t x⟩
theorem LmJ.chg {T : Nat → Prop} (h : LmJ w0 lim g ev A n c D W) (ch : Chg T W W') (hT : ∀ k, T k → ¬ (k = g ∨ foot A c k) ∧ w0.heap.size ≤ k) : LmJ w0 lim g ev A n c D W' :=
  ⟨h.o.chg ch (fun ht => (hT g ht).1 (.inl rfl)) (fun k hk ht => (hT k ht).1 (.inr hk)), h.q, h.lo, h.ext.trans (ch.below h.ext.size (fun k hk ht => by have := (hT k ht).2; omega))⟩
theorem LmJ.put {ev' : List Ev} {A' : Option Addr} {n' c' : Nat} (h : LmJ w0 lim g ev A n c D W) (ho : Obx W' g 1 lim 0 ev' A' n' c') (ch : Chg (fun k => k = g ∨ foot A c k) W W') (ft : ∀ k, foot A' c' k → foot A c k ∨ W.heap.size ≤ k) (hq : ∀ x ∈ ev', x.q < ((D + 1000 : Nat) : Int)) : LmJ w0 lim g ev' A' n' c' (D + 1000) W' :=
  ⟨ho, hq, fun k hk => by
    rcases hk with hk | hk
    · exact h.lo k (.inl hk)
    · exact (ft k hk).elim (fun h1 => h.lo k (.inr h1)) (fun h1 => Nat.le_trans h.ext.size h1), h.ext.trans (ch.below h.ext.size (fun k hk ht => by have := h.lo k ht; omega))⟩
end
set_option maxRecDepth 100000 in
set_option maxHeartbeats 8000000 in
theorem walkOutboxLimit (a0 : Int) (A1 : Option Addr) (n1 c1 : Nat) (z : List (Sl × List Sb)) (w : World) (h0 : (Lit.int .u8 a0).wf = true) (h1 : SsArg w A1 n1 c1 z) :
    Calls Try.prog 4 #[.int .u8 a0, .slice A1 n1 c1] w fun en w' => en = .returned (.bool true) ∧ Ext w w' := by
  have hb0 := bounds_u8 h0
  obtain ⟨b, rfl⟩ : ∃ b : Nat, a0 = (b : Int) := ⟨a0.toNat, by omega⟩
  obtain ⟨lim, hlim⟩ : ∃ lim, lim = b % 61 := ⟨_, rfl⟩
  have hwb : IntKind.i64.wrap (b : Int) = (b : Int) := IntWalk.i64_in _ (by omega)
  have hlI : (b : Int) % 61 = (lim : Int) := by omega
  have hl61 : lim ≤ 60 := by omega
  have HN := Lib.hid (show newB 1 (lim : Int) 0 = true by unfold newB; rw [decide_eq_true_eq]; omega)
  have HZ := Lib.hid h1
  have hmx := h1.max
  have hle := h1.le
  unfold maxLen at hmx
  clear h0 h1 hlim
  go_enter Try.func4, Try.ntmps4
  go_wp2_with fail
  refine (awake_ w).mono ?_; rintro en w1 ⟨rfl, e1⟩
  have E1 := Lib.hid e1
  clear e1
  go_wp2_with fail
  refine (obx_new 1 (lim : Int) 0 _ HN.out).mono ?_; rintro en w2 ⟨g, rfl, o2, g2, e2⟩
  have HJ : Hid (LmJ w (lim : Int) g [] none 0 0 0 w2) := Lib.hid ⟨o2, by simp, fun q hq => hq.elim (fun h => by have := E1.out.size; omega) (fun h => absurd h foot_none), E1.out.t e2⟩
  clear o2 g2 e2 E1
  by_cases h10 : n1 ≤ 10
  · have hI : (n1 : Int) ≤ 10 := by omega
    have hsl := fun w' => ss_to (A := A1) (n := n1) (c := c1) (hi := n1) (li := (n1 : Int)) w' rfl hle
    go_wp2_with fail
    go_loopw [8, 38] (fun q i wr => ∃ (k D : Nat) (ev : List Ev) (A : Option Addr) (n c : Nat), k ≤ n1 ∧ i = .int .i64 (k : Int) ∧ q = .int .i64 (D : Int) ∧ D = 1000 * k ∧ Hid (LmJ w (lim : Int) g ev A n c D wr)) (fun _ i _ => n1 - (intOf i).toNat)
    case atStart => exact ⟨0, 0, [], none, 0, 0, by omega, rfl, rfl, rfl, HJ⟩
    case round =>
      clear HJ
      obtain ⟨k, D, ev, A, n, c, hk, rfl, rfl, hD, HJ⟩ := hrel
      have HD := Lib.hid hD
      by_cases hlt : k < n1
      · have hD2 : D ≤ 10000 := by omega
        clear hD
        obtain ⟨b, o, rfl, s, l, -, hc, ha⟩ := (HZ.out.ext HJ.out.ext).get (k := k) (by omega)
        have hltI : (k : Int) < (n1 : Int) := by omega
        obtain ⟨L, hL⟩ : ∃ L, L = madeF 1 0 0 (l.take 40) := ⟨_, rfl⟩
        have hLn : L.length ≤ 40 := by rw [hL, madeF_len, List.length_take]; omega
        have hs := made_sh 1 0 D (l.take 40) 0
        rw [← hL, Nat.zero_add] at hs
        have hso : okP 1 0 (lastR (-1) ev) (L.map (shE (D : Int))) = true := by rw [hs]; exact madeF_ok (by decide) (by decide) (by decide) (by decide) (by decide) _ _ _ (lastR_lt (by omega) HJ.out.q) (by rw [List.length_take]; omega)
        have hse : ∀ x ∈ L.map (shE (D : Int)), EvOk x := by rw [hs]; exact madeF_evok (by decide) (by decide) (by decide) (by decide) _ _ (fun x hx => ha.ok x (List.mem_of_mem_take hx)) (by rw [List.length_take]; omega)
        have hsq : ∀ x ∈ L.map (shE (D : Int)), x.q < ((D + 1000 : Nat) : Int) := fun x hx => by rw [hs] at hx; have h1 := madeF_q _ _ x hx; rw [List.length_take] at h1; omega
        have hLq : ∀ x ∈ L, x.q < 1000 ∧ -10 < x.q := fun x hx => by
          rw [hL] at hx
          have h1 := madeF_q _ _ x hx
          rw [List.length_take] at h1
          have h2 := okP_good (madeF_ok (s := 1) (e := 0) (e' := 0) (by decide) (by decide) (by decide) (by decide) (by decide) (l.take 40) 0 (-1) (by decide) (by rw [List.length_take]; omega)) x hx
          omega
        have HS := Lib.hid (And.intro hso (And.intro hse hsq))
        have HLq := Lib.hid hLq
        have HMd := Lib.hid (fun (W : World) (x : Ext wr W) => made_ 1 0 s.A s.n s.c l W (ha.ext x) (by decide) (by decide))
        rw [← hL] at HMd
        obtain ⟨sA, sn, sc⟩ := s
        simp only at hc HMd
        have hn256 := HJ.out.o.n_le
        clear hL hs hso hse hsq hLq ha
        go_wp2_with fail
        refine (obx_events HJ.out.o).mono ?_; rintro en w2 ⟨B2, d2, rfl, r2, q2, e2⟩
        have HJ2 := Lib.hid (HJ.out.go e2)
        have HB2 := Lib.hid (show RoomS 5 w2 B2 n d2 (ev.flatMap evC) ∧ ∀ q, foot B2 d2 q → ¬ (q = g ∨ foot A c q) from ⟨r2, fun q hq h => by have := q2 q hq; have := HJ.out.o.lt h; omega⟩)
        have E2 := Lib.hid e2
        clear r2 q2 e2 HJ hc
        go_wp2_with fail
        refine (HMd.out _ E2.out).mono ?_; rintro en w5 ⟨A5, n5, c5, rfl, r5, l5, m5, e5⟩
        obtain rfl : n5 = L.length := l5.symm
        have HJ5 := Lib.hid (HJ2.out.go e5)
        have HB5 := Lib.hid (show (RoomS 5 w5 B2 n d2 (ev.flatMap evC) ∧ ∀ q, foot B2 d2 q → ¬ (q = g ∨ foot A c q)) ∧ (∀ q, foot A5 c5 q → ¬ (q = g ∨ foot A c q) ∧ ¬ foot B2 d2 q ∧ w.heap.size ≤ q) from ⟨⟨HB2.out.1.ext e5, HB2.out.2⟩, fun q hq => by
          have h1 := m5 q hq
          exact ⟨fun h => by have := HJ2.out.o.lt h; omega, fun h => by have := HB2.out.1.lt h; omega, by have := HJ2.out.ext.size; omega⟩⟩)
        have HI : Hid (RoomS 5 w5 A5 L.length c5 ((mixE (D : Int) L 0).flatMap evC) ∧ Chg (foot A5 c5) w5 w5) := Lib.hid ⟨by rw [mix_zero]; exact r5, Chg.ofExt (Ext.refl _)⟩
        clear r5 l5 m5 e5 HJ2 HB2 E2 HMd
        go_wp2_with fail
        obtain ⟨wo, rfl⟩ : ∃ wo, wo = wr := ⟨_, rfl⟩
        go_loopw [48] (fun i wx => ∃ p : Nat, p ≤ L.length ∧ i = .int .i64 (p : Int) ∧ Hid (RoomS 5 wx A5 L.length c5 ((mixE (D : Int) L p).flatMap evC) ∧ Chg (foot A5 c5) w5 wx)) (fun i _ => L.length - (intOf i).toNat)
        case atStart => exact ⟨0, by omega, rfl, HI⟩
        case round =>
          clear HI
          obtain ⟨p, hp, rfl, HI⟩ := hrel
          by_cases hpl : p < L.length
          · obtain ⟨b5, o5, rfl, _⟩ := HI.out.1.some_ (by have := HI.out.1.2.1; omega)
            have hpI : (p : Int) < (L.length : Int) := by omega
            have hx := List.getElem?_eq_getElem hpl
            obtain ⟨x, hxe⟩ : ∃ x, x = L[p] := ⟨_, rfl⟩
            rw [← hxe] at hx
            have hcq := HI.out.1.cellAt (k := p * 5 + 2) (u := .int .i64 x.q) (by rw [flat_get evC_len _ p 2 x (mix_at hx) (by decide)]; rfl)
            have hfq := HI.out.1.frozenAt (k := p * 5 + 2) (by have := HI.out.1.2.1; omega)
            rw [← Nat.add_assoc] at hcq hfq
            have hq2 := HLq.out x (List.mem_of_getElem? hx)
            have hwq : IntKind.i64.wrap (x.q + (D : Int)) = x.q + (D : Int) := IntWalk.i64_in _ (by omega)
            have hst := HI.out.1.set (k := p * 5 + 2) (by omega) (.int .i64 (x.q + (D : Int)))
            rw [← Nat.add_assoc, mix_set hx] at hst
            have HI' := Lib.hid (And.intro hst (HI.out.2.t (Chg.set wr b5 (o5 + p * 5 + 2) (.int .i64 (x.q + (D : Int))) (T := foot (some ⟨b5, o5, none⟩) c5) ⟨by have := HI.out.1.2.1; omega, o5, rfl⟩)))
            clear hst HI hx hxe hq2
            go_wp2_with fail
            go_roundw
            case rel => exact ⟨p + 1, by omega, by go_num, HI'⟩
            case measure => simp [intOf]; omega
          · obtain rfl : p = L.length := by omega
            have hpI : ¬ ((L.length : Int) < (L.length : Int)) := by omega
            have HJ6 := Lib.hid (HJ5.out.chg HI.out.2 (fun q hq => ⟨(HB5.out.2 q hq).1, (HB5.out.2 q hq).2.2⟩))
            have HB6 := Lib.hid (show RoomS 5 wr B2 n d2 (ev.flatMap evC) ∧ ∀ q, foot B2 d2 q → ¬ (q = g ∨ foot A c q) from ⟨HB5.out.1.1.chg HI.out.2 (fun q hq hf => (HB5.out.2 q hf).2.1 hq), HB5.out.1.2⟩)
            have hr := HI.out.1
            rw [mix_all] at hr
            have HR := Lib.hid hr
            have hnl := HJ6.out.o.len
            have HP := Lib.hid (obx_put A5 L.length c5 (L.map (shE (D : Int))) HJ6.out.o (HR.out.rd evC_len (by decide)) HS.out.2.1 (by omega))
            clear hr HI HJ5 HB5
            by_cases hfit : n + L.length ≤ lim
            · have hfI : (n : Int) + (L.length : Int) ≤ (lim : Int) := by omega
              rw [put_all HJ6.out.o.ok HS.out.1 (by rw [List.length_map]; omega)] at HP
              go_wp2_with fail
              refine HP.out.mono ?_; rintro en w7 ⟨A7, n7, c7, rfl, o7, ch7, ft7⟩
              have hn7 : n7 = n + L.length := by have := o7.len; rw [List.length_append, List.length_map] at this; omega
              have hn7I : (n : Int) + (L.length : Int) = (n7 : Int) := by omega
              have hn7l : (n7 : Int) ≤ (lim : Int) := by omega
              have hws : IntKind.i64.wrap ((n7 : Int) + ((lim : Int) - (n7 : Int))) = (lim : Int) := by rw [show (n7 : Int) + ((lim : Int) - (n7 : Int)) = (lim : Int) by omega]; exact IntWalk.i64_in _ (by omega)
              have HJ7 := Lib.hid (HJ6.out.put o7 ch7 ft7 (fun x hx => (List.mem_append.1 hx).elim (fun h => by have := HJ6.out.q x h; omega) (HS.out.2.2 x)))
              clear hn7 hfI o7 ch7 ft7 HJ6 HB6 HR HP hnl
              go_wp2_with fail
              refine (obx_len HJ7.out.o).mono ?_; rintro en w8 ⟨rfl, rfl⟩
              go_wp2_with fail
              refine (obx_len HJ7.out.o).mono ?_; rintro en w8 ⟨rfl, rfl⟩
              go_wp2_with fail
              refine (obx_room HJ7.out.o).mono ?_; rintro en w8 ⟨rfl, e8⟩
              have HJ8 := Lib.hid (HJ7.out.go e8)
              clear e8 HJ7
              go_wp2_with fail
              go_roundw
              case rel => exact ⟨k + 1, D + 1000, _, A7, n7, c7, by omega, by go_num, by go_num, by have := HD.out; omega, HJ8⟩
              case measure => simp [intOf]; omega
            · have hfI : ¬ ((n : Int) + (L.length : Int) ≤ (lim : Int)) := by omega
              rw [put_full HS.out.1 (by rw [List.length_map]; omega)] at HP
              go_wp2_with fail
              refine HP.out.mono ?_; rintro en w7 ⟨A7, n7, c7, rfl, o7, ch7, ft7⟩
              obtain rfl : n = n7 := by have h7 : ev.length = n7 := o7.len; omega
              have hws : IntKind.i64.wrap ((n : Int) + ((lim : Int) - (n : Int))) = (lim : Int) := by rw [show (n : Int) + ((lim : Int) - (n : Int)) = (lim : Int) by omega]; exact IntWalk.i64_in _ (by omega)
              have HJ7 := Lib.hid (HJ6.out.put o7 ch7 ft7 (fun x h => by have := HJ6.out.q x h; omega))
              have HB7 := Lib.hid ((HB6.out.1.chg ch7 HB6.out.2).rd evC_len (by decide))
              clear o7 ch7 ft7 HJ6 HB6 HR HP hnl
              go_wp2_with fail
              refine (obx_events HJ7.out.o).mono ?_; rintro en w8 ⟨B8, d8, rfl, r8, q8, e8⟩
              have HJ8 := Lib.hid (HJ7.out.go e8)
              have HB8 := Lib.hid (And.intro (r8.rd evC_len (by decide)) (HB7.out.ext e8))
              clear r8 q8 e8 HJ7 HB7
              go_wp2_with fail
              refine (sameE_ _ _ _ _ _ _ _ _ _ HB8.out.1 HB8.out.2 (by omega) (by omega)).mono ?_; rintro en w9 ⟨rfl, e9⟩
              rw [show decide (ev = ev) = true from decide_eq_true rfl]
              have HJ9 := Lib.hid (HJ8.out.go e9)
              clear e9 HJ8 HB8
              go_wp2_with fail
              refine (obx_len HJ9.out.o).mono ?_; rintro en w10 ⟨rfl, rfl⟩
              go_wp2_with fail
              refine (obx_room HJ9.out.o).mono ?_; rintro en w11 ⟨rfl, e11⟩
              have HJ10 := Lib.hid (HJ9.out.go e11)
              clear e11 HJ9
              go_wp2_with fail
              go_roundw
              case rel => exact ⟨k + 1, D + 1000, ev, A7, n, c7, by omega, by go_num, by go_num, by have := HD.out; omega, HJ10⟩
              case measure => simp [intOf]; omega
      · obtain rfl : n1 = k := by omega
        have hltI : ¬ ((n1 : Int) < (n1 : Int)) := by omega
        have HE := Lib.hid HJ.out.ext
        clear HJ
        go_wp2_with fail
        go_ret
        exact ⟨rfl, HE.out⟩
  · have hI : ¬ ((n1 : Int) ≤ 10) := by omega
    have hsl := fun w' => ss_to (A := A1) (n := n1) (c := c1) (hi := 10) (li := 10) w' rfl (by omega)
    go_wp2_with fail
    go_loopw [8, 38] (fun q i wr => ∃ (k D : Nat) (ev : List Ev) (A : Option Addr) (n c : Nat), k ≤ 10 ∧ i = .int .i64 (k : Int) ∧ q = .int .i64 (D : Int) ∧ D = 1000 * k ∧ Hid (LmJ w (lim : Int) g ev A n c D wr)) (fun _ i _ => 10 - (intOf i).toNat)
    case atStart => exact ⟨0, 0, [], none, 0, 0, by omega, rfl, rfl, rfl, HJ⟩
    case round =>
      clear HJ
      obtain ⟨k, D, ev, A, n, c, hk, rfl, rfl, hD, HJ⟩ := hrel
      have HD := Lib.hid hD
      by_cases hlt : k < 10
      · have hD2 : D ≤ 10000 := by omega
        clear hD
        obtain ⟨b, o, rfl, s, l, -, hc, ha⟩ := (HZ.out.ext HJ.out.ext).get (k := k) (by omega)
        have hltI : (k : Int) < (10 : Int) := by omega
        obtain ⟨L, hL⟩ : ∃ L, L = madeF 1 0 0 (l.take 40) := ⟨_, rfl⟩
        have hLn : L.length ≤ 40 := by rw [hL, madeF_len, List.length_take]; omega
        have hs := made_sh 1 0 D (l.take 40) 0
        rw [← hL, Nat.zero_add] at hs
        have hso : okP 1 0 (lastR (-1) ev) (L.map (shE (D : Int))) = true := by rw [hs]; exact madeF_ok (by decide) (by decide) (by decide) (by decide) (by decide) _ _ _ (lastR_lt (by omega) HJ.out.q) (by rw [List.length_take]; omega)
        have hse : ∀ x ∈ L.map (shE (D : Int)), EvOk x := by rw [hs]; exact madeF_evok (by decide) (by decide) (by decide) (by decide) _ _ (fun x hx => ha.ok x (List.mem_of_mem_take hx)) (by rw [List.length_take]; omega)
        have hsq : ∀ x ∈ L.map (shE (D : Int)), x.q < ((D + 1000 : Nat) : Int) := fun x hx => by rw [hs] at hx; have h1 := madeF_q _ _ x hx; rw [List.length_take] at h1; omega
        have hLq : ∀ x ∈ L, x.q < 1000 ∧ -10 < x.q := fun x hx => by
          rw [hL] at hx
          have h1 := madeF_q _ _ x hx
          rw [List.length_take] at h1
          have h2 := okP_good (madeF_ok (s := 1) (e := 0) (e' := 0) (by decide) (by decide) (by decide) (by decide) (by decide) (l.take 40) 0 (-1) (by decide) (by rw [List.length_take]; omega)) x hx
          omega
        have HS := Lib.hid (And.intro hso (And.intro hse hsq))
        have HLq := Lib.hid hLq
        have HMd := Lib.hid (fun (W : World) (x : Ext wr W) => made_ 1 0 s.A s.n s.c l W (ha.ext x) (by decide) (by decide))
        rw [← hL] at HMd
        obtain ⟨sA, sn, sc⟩ := s
        simp only at hc HMd
        have hn256 := HJ.out.o.n_le
        clear hL hs hso hse hsq hLq ha
        go_wp2_with fail
        refine (obx_events HJ.out.o).mono ?_; rintro en w2 ⟨B2, d2, rfl, r2, q2, e2⟩
        have HJ2 := Lib.hid (HJ.out.go e2)
        have HB2 := Lib.hid (show RoomS 5 w2 B2 n d2 (ev.flatMap evC) ∧ ∀ q, foot B2 d2 q → ¬ (q = g ∨ foot A c q) from ⟨r2, fun q hq h => by have := q2 q hq; have := HJ.out.o.lt h; omega⟩)
        have E2 := Lib.hid e2
        clear r2 q2 e2 HJ hc
        go_wp2_with fail
        refine (HMd.out _ E2.out).mono ?_; rintro en w5 ⟨A5, n5, c5, rfl, r5, l5, m5, e5⟩
        obtain rfl : n5 = L.length := l5.symm
        have HJ5 := Lib.hid (HJ2.out.go e5)
        have HB5 := Lib.hid (show (RoomS 5 w5 B2 n d2 (ev.flatMap evC) ∧ ∀ q, foot B2 d2 q → ¬ (q = g ∨ foot A c q)) ∧ (∀ q, foot A5 c5 q → ¬ (q = g ∨ foot A c q) ∧ ¬ foot B2 d2 q ∧ w.heap.size ≤ q) from ⟨⟨HB2.out.1.ext e5, HB2.out.2⟩, fun q hq => by
          have h1 := m5 q hq
          exact ⟨fun h => by have := HJ2.out.o.lt h; omega, fun h => by have := HB2.out.1.lt h; omega, by have := HJ2.out.ext.size; omega⟩⟩)
        have HI : Hid (RoomS 5 w5 A5 L.length c5 ((mixE (D : Int) L 0).flatMap evC) ∧ Chg (foot A5 c5) w5 w5) := Lib.hid ⟨by rw [mix_zero]; exact r5, Chg.ofExt (Ext.refl _)⟩
        clear r5 l5 m5 e5 HJ2 HB2 E2 HMd
        go_wp2_with fail
        obtain ⟨wo, rfl⟩ : ∃ wo, wo = wr := ⟨_, rfl⟩
        go_loopw [48] (fun i wx => ∃ p : Nat, p ≤ L.length ∧ i = .int .i64 (p : Int) ∧ Hid (RoomS 5 wx A5 L.length c5 ((mixE (D : Int) L p).flatMap evC) ∧ Chg (foot A5 c5) w5 wx)) (fun i _ => L.length - (intOf i).toNat)
        case atStart => exact ⟨0, by omega, rfl, HI⟩
        case round =>
          clear HI
          obtain ⟨p, hp, rfl, HI⟩ := hrel
          by_cases hpl : p < L.length
          · obtain ⟨b5, o5, rfl, _⟩ := HI.out.1.some_ (by have := HI.out.1.2.1; omega)
            have hpI : (p : Int) < (L.length : Int) := by omega
            have hx := List.getElem?_eq_getElem hpl
            obtain ⟨x, hxe⟩ : ∃ x, x = L[p] := ⟨_, rfl⟩
            rw [← hxe] at hx
            have hcq := HI.out.1.cellAt (k := p * 5 + 2) (u := .int .i64 x.q) (by rw [flat_get evC_len _ p 2 x (mix_at hx) (by decide)]; rfl)
            have hfq := HI.out.1.frozenAt (k := p * 5 + 2) (by have := HI.out.1.2.1; omega)
            rw [← Nat.add_assoc] at hcq hfq
            have hq2 := HLq.out x (List.mem_of_getElem? hx)
            have hwq : IntKind.i64.wrap (x.q + (D : Int)) = x.q + (D : Int) := IntWalk.i64_in _ (by omega)
            have hst := HI.out.1.set (k := p * 5 + 2) (by omega) (.int .i64 (x.q + (D : Int)))
            rw [← Nat.add_assoc, mix_set hx] at hst
            have HI' := Lib.hid (And.intro hst (HI.out.2.t (Chg.set wr b5 (o5 + p * 5 + 2) (.int .i64 (x.q + (D : Int))) (T := foot (some ⟨b5, o5, none⟩) c5) ⟨by have := HI.out.1.2.1; omega, o5, rfl⟩)))
            clear hst HI hx hxe hq2
            go_wp2_with fail
            go_roundw
            case rel => exact ⟨p + 1, by omega, by go_num, HI'⟩
            case measure => simp [intOf]; omega
          · obtain rfl : p = L.length := by omega
            have hpI : ¬ ((L.length : Int) < (L.length : Int)) := by omega
            have HJ6 := Lib.hid (HJ5.out.chg HI.out.2 (fun q hq => ⟨(HB5.out.2 q hq).1, (HB5.out.2 q hq).2.2⟩))
            have HB6 := Lib.hid (show RoomS 5 wr B2 n d2 (ev.flatMap evC) ∧ ∀ q, foot B2 d2 q → ¬ (q = g ∨ foot A c q) from ⟨HB5.out.1.1.chg HI.out.2 (fun q hq hf => (HB5.out.2 q hf).2.1 hq), HB5.out.1.2⟩)
            have hr := HI.out.1
            rw [mix_all] at hr
            have HR := Lib.hid hr
            have hnl := HJ6.out.o.len
            have HP := Lib.hid (obx_put A5 L.length c5 (L.map (shE (D : Int))) HJ6.out.o (HR.out.rd evC_len (by decide)) HS.out.2.1 (by omega))
            clear hr HI HJ5 HB5
            by_cases hfit : n + L.length ≤ lim
            · have hfI : (n : Int) + (L.length : Int) ≤ (lim : Int) := by omega
              rw [put_all HJ6.out.o.ok HS.out.1 (by rw [List.length_map]; omega)] at HP
              go_wp2_with fail
              refine HP.out.mono ?_; rintro en w7 ⟨A7, n7, c7, rfl, o7, ch7, ft7⟩
              have hn7 : n7 = n + L.length := by have := o7.len; rw [List.length_append, List.length_map] at this; omega
              have hn7I : (n : Int) + (L.length : Int) = (n7 : Int) := by omega
              have hn7l : (n7 : Int) ≤ (lim : Int) := by omega
              have hws : IntKind.i64.wrap ((n7 : Int) + ((lim : Int) - (n7 : Int))) = (lim : Int) := by rw [show (n7 : Int) + ((lim : Int) - (n7 : Int)) = (lim : Int) by omega]; exact IntWalk.i64_in _ (by omega)
              have HJ7 := Lib.hid (HJ6.out.put o7 ch7 ft7 (fun x hx => (List.mem_append.1 hx).elim (fun h => by have := HJ6.out.q x h; omega) (HS.out.2.2 x)))
              clear hn7 hfI o7 ch7 ft7 HJ6 HB6 HR HP hnl
              go_wp2_with fail
              refine (obx_len HJ7.out.o).mono ?_; rintro en w8 ⟨rfl, rfl⟩
              go_wp2_with fail
              refine (obx_len HJ7.out.o).mono ?_; rintro en w8 ⟨rfl, rfl⟩
              go_wp2_with fail
              refine (obx_room HJ7.out.o).mono ?_; rintro en w8 ⟨rfl, e8⟩
              have HJ8 := Lib.hid (HJ7.out.go e8)
              clear e8 HJ7
              go_wp2_with fail
              go_roundw
              case rel => exact ⟨k + 1, D + 1000, _, A7, n7, c7, by omega, by go_num, by go_num, by have := HD.out; omega, HJ8⟩
              case measure => simp [intOf]; omega
            · have hfI : ¬ ((n : Int) + (L.length : Int) ≤ (lim : Int)) := by omega
              rw [put_full HS.out.1 (by rw [List.length_map]; omega)] at HP
              go_wp2_with fail
              refine HP.out.mono ?_; rintro en w7 ⟨A7, n7, c7, rfl, o7, ch7, ft7⟩
              obtain rfl : n = n7 := by have h7 : ev.length = n7 := o7.len; omega
              have hws : IntKind.i64.wrap ((n : Int) + ((lim : Int) - (n : Int))) = (lim : Int) := by rw [show (n : Int) + ((lim : Int) - (n : Int)) = (lim : Int) by omega]; exact IntWalk.i64_in _ (by omega)
              have HJ7 := Lib.hid (HJ6.out.put o7 ch7 ft7 (fun x h => by have := HJ6.out.q x h; omega))
              have HB7 := Lib.hid ((HB6.out.1.chg ch7 HB6.out.2).rd evC_len (by decide))
              clear o7 ch7 ft7 HJ6 HB6 HR HP hnl
              go_wp2_with fail
              refine (obx_events HJ7.out.o).mono ?_; rintro en w8 ⟨B8, d8, rfl, r8, q8, e8⟩
              have HJ8 := Lib.hid (HJ7.out.go e8)
              have HB8 := Lib.hid (And.intro (r8.rd evC_len (by decide)) (HB7.out.ext e8))
              clear r8 q8 e8 HJ7 HB7
              go_wp2_with fail
              refine (sameE_ _ _ _ _ _ _ _ _ _ HB8.out.1 HB8.out.2 (by omega) (by omega)).mono ?_; rintro en w9 ⟨rfl, e9⟩
              rw [show decide (ev = ev) = true from decide_eq_true rfl]
              have HJ9 := Lib.hid (HJ8.out.go e9)
              clear e9 HJ8 HB8
              go_wp2_with fail
              refine (obx_len HJ9.out.o).mono ?_; rintro en w10 ⟨rfl, rfl⟩
              go_wp2_with fail
              refine (obx_room HJ9.out.o).mono ?_; rintro en w11 ⟨rfl, e11⟩
              have HJ10 := Lib.hid (HJ9.out.go e11)
              clear e11 HJ9
              go_wp2_with fail
              go_roundw
              case rel => exact ⟨k + 1, D + 1000, ev, A7, n, c7, by omega, by go_num, by go_num, by have := HD.out; omega, HJ10⟩
              case measure => simp [intOf]; omega
      · obtain rfl : k = 10 := by omega
        have hltI : ¬ ((10 : Int) < (10 : Int)) := by omega
        have HE := Lib.hid HJ.out.ext
        clear HJ
        go_wp2_with fail
        go_ret
        exact ⟨rfl, HE.out⟩
end Go.Proofs.Ytdjpggnadelnaaa
