/- OutboxMerged: the walk of the law: for any numbers it answers true and leaves all memory as it was (no condition). -/
import Derived.Test.YtdjpggnadelnaaaOmp
import Derived.Test.YtdjpggnadelnaaaOaw
import Derived.StillTailTactics
namespace Go.Proofs.Ytdjpggnadelnaaa
open Go.RowKit Go.Fx
theorem bx_from {A : Option Addr} {n c k : Nat} {li : Int} (w : World) (e : li = (k : Int)) (hk : k ≤ n) :
    (Instr.sliceAt 25 (.slice A n c) (some (.int .i64 li)) none none).run Try.prog w = .ok (.slice (fromS 1 A c k) (n - k) (c - k)) w := by
  subst e
  have h1 : (k : Int) ≤ (n : Int) := by omega
  have h2 : (0 : Int) ≤ (k : Int) := by omega
  simp [go_sem, sliced, fromS, h1]
theorem bx_to {A : Option Addr} {n c hi : Nat} {li : Int} (w : World) (e : li = (hi : Int)) (h2 : hi ≤ c) :
    (Instr.sliceAt 25 (.slice A n c) none (some (.int .i64 li)) none).run Try.prog w = .ok (.slice A hi c) w := by
  subst e
  have h4 : (hi : Int) ≤ (c : Int) := by omega
  have h5 : (0 : Int) ≤ (hi : Int) := by omega
  simp [go_sem, sliced, h4, Addr.add]
theorem pv_one : ∀ p : Option Nat, ∀ u ∈ [ptrv p], u.oneCell' = true := fun p u hu => by
  obtain rfl : u = ptrv p := by simpa using hu
  rfl
/-- The next event of a list that can be put is put. -/
theorem put_next {w : World} {g n c j : Nat} {s e : Int} {own : List Ev} {A : Option Addr} {x : Ev} {t : TypeId} (h : Obx w g s 256 e (own.take j) A n c) (ho : okP s e (-1) own = true) (hl : own.length ≤ 256) (hx : own[j]? = some x) (hxo : EvOk x) {cs : Array Value} (hcs : cs = (evC x).toArray) {gg : Nat} (hg : gg = w.heap.size) :
    Calls Try.prog 13 #[.pointer (some ⟨g, 0, none⟩), .slice (some ⟨gg, 0, none⟩) 1 1] (w.alloc (.cells cs t)) fun en w' => ∃ A' n' c', en = .returned (.tuple #[.int .i64 (-1), .int .i64 0]) ∧ Obx w' g s 256 e (own.take (j + 1)) A' n' c' ∧ Chg (fun k => k = g ∨ foot A c k) w w' ∧ (∀ k, foot A' c' k → foot A c k ∨ w.heap.size ≤ k) := by
  have eA := Ext.alloc w (.cells cs t)
  have hj := (List.getElem?_eq_some_iff.1 hx).1
  have hp : putF s 256 e (own.take j) [x] = (-1, 0, own.take (j + 1)) := by
    rw [take_snoc hx]
    refine put_all h.ok ?_ (by rw [List.length_take]; simp only [List.length_singleton]; omega)
    have h1 := okP_take ho (j + 1)
    rw [take_snoc hx, okP_app, Bool.and_eq_true] at h1
    exact h1.2
  have hc := obx_put _ 1 1 [x] (h.ext eA) (rdS_one_at evC_len w t x hcs hg) (fun y hy => by obtain rfl : y = x := by simpa using hy
                                                                                            exact hxo) (by omega)
  rw [hp] at hc
  refine hc.mono ?_
  rintro en w' ⟨A', n', c', h1, h2, h3, h4⟩
  exact ⟨A', n', c', h1, h2, (Chg.ofExt eA).t h3, fun k hk => (h4 k hk).imp id (fun h5 => Nat.le_trans eA.size h5)⟩
/-- Two outboxes, of which the second one is filled, and the events. -/
structure BoJ (w0 : World) (s e : Int) (own : List Ev) (A5 : Option Addr) (n5 c5 : Nat) (g1 : Nat) (A : Option Addr) (n c : Nat) (g2 : Nat) (ev2 : List Ev) (A' : Option Addr) (n' c' : Nat) (W : World) : Prop where
  two : TwoB w0.heap.size W g1 s 256 e own A n c g2 s 256 e ev2 A' n' c'
  m : RoomS 5 W A5 n5 c5 (own.flatMap evC)
  far : ∀ k, foot A5 c5 k → ¬ (k = g2 ∨ foot A' c' k)
  ext : Ext w0 W
section
variable {w0 : World} {s e : Int} {own : List Ev} {A5 : Option Addr} {n5 c5 : Nat} {g1 : Nat} {A : Option Addr} {n c : Nat} {g2 : Nat} {ev2 : List Ev} {A' : Option Addr} {n' c' : Nat} {W W' : World}
theorem BoJ.go (h : BoJ w0 s e own A5 n5 c5 g1 A n c g2 ev2 A' n' c' W) (x : Ext W W') : BoJ w0 s e own A5 n5 c5 g1 A n c g2 ev2 A' n' c' W' := ⟨h.two.ext x, h.m.ext x, h.far, h.ext.t x⟩
theorem BoJ.turn (h : BoJ w0 s e own A5 n5 c5 g1 A n c g2 ev2 A' n' c' W) {ev : List Ev} {A3 : Option Addr} {n3 c3 : Nat} (ho : Obx W' g2 s 256 e ev A3 n3 c3) (ch : Chg (fun k => k = g2 ∨ foot A' c' k) W W') (ft : ∀ k, foot A3 c3 k → foot A' c' k ∨ W.heap.size ≤ k) : BoJ w0 s e own A5 n5 c5 g1 A n c g2 ev A3 n3 c3 W' := by
  refine ⟨(h.two.swap.turn ho ch ft).swap, h.m.chg ch h.far, fun k hk hk2 => ?_, h.two.swap.low h.ext (Nat.le_refl _) ch (fun _ => id)⟩
  rcases hk2 with hk2 | hk2
  · exact h.far k hk (.inl hk2)
  · rcases ft k hk2 with h1 | h1
    · exact h.far k hk (.inr h1)
    · have := h.m.lt hk; omega
end
set_option maxRecDepth 100000 in
set_option maxHeartbeats 8000000 in
theorem walkOutboxMerged (e : Int) (A1 : Option Addr) (n1 c1 : Nat) (z : List (Sl × List Sb)) (a2 : Int) (w : World) (h0 : (Lit.int .u16 e).wf = true) (h1 : SsArg w A1 n1 c1 z) (h2 : (Lit.int .u8 a2).wf = true) :
    Calls Try.prog 3 #[.int .u16 e, .slice A1 n1 c1, .int .u8 a2] w fun en w' => en = .returned (.bool true) ∧ Ext w w' := by
  have hb0 := bounds_u16 h0
  have hb2 := bounds_u8 h2
  obtain ⟨b, rfl⟩ : ∃ b : Nat, a2 = (b : Int) := ⟨a2.toNat, by omega⟩
  have hwe : IntKind.i64.wrap e = e := IntWalk.i64_in _ (by omega)
  have hwb : IntKind.i64.wrap (b : Int) = (b : Int) := IntWalk.i64_in _ (by omega)
  have hsb : ∀ y ∈ z, ∀ x ∈ y.2, SbOk x := fun y hy => (h1.at_ y hy).ok
  have HOk := Lib.hid (fun k (hk : k ≤ 5) => ownF_ok hsb hb0.1 hb0.2 hk)
  have HEv := Lib.hid (fun k (hk : k ≤ 6) => evF_ok hsb hb0.1 hb0.2 (k := k) hk)
  have HBs := Lib.hid (fun k (hk : k ≤ 6) => prF_bs hsb hb0.1 hb0.2 (k := k) hk)
  have HZ := Lib.hid h1
  have hmx := h1.max
  have hle := h1.le
  unfold maxLen at hmx
  clear h0 h1 h2 hsb
  go_enter Try.func3, Try.ntmps3
  go_wp2_with fail
  refine (awake_ w).mono ?_; rintro en w1 ⟨rfl, e1⟩
  have E1 := Lib.hid e1
  clear e1
  by_cases h5 : n1 ≤ 5
  · have hI : (n1 : Int) ≤ 5 := by omega
    obtain ⟨MM, hMM⟩ : ∃ MM, MM = n1 + 1 := ⟨_, rfl⟩
    have hMI : 1 + (n1 : Int) = (MM : Int) := by omega
    have hMw : IntKind.i64.wrap (MM : Int) = (MM : Int) := IntWalk.i64_in _ (by omega)
    have hM6 : 1 ≤ MM ∧ MM ≤ 6 := by omega
    clear hMM
    go_wp2_with fail
    go_loopw [7, 8, 9, 38] (fun va vt ve vi wr => ∃ (k : Nat) (Aa : Option Addr) (ca : Nat) (At : Option Addr) (ct : Nat) (Ae : Option Addr) (ne ce : Nat), k ≤ MM ∧ va = .slice Aa k ca ∧ vt = .slice At k ct ∧ ve = .slice Ae ne ce ∧ vi = .int .i64 (k : Int) ∧ Hid (∃ F ps ts, OmJ w e F ps ts (prF z e k) ps Aa k ca ts At k ct (evF z e k) Ae ne ce wr)) (fun _ _ _ i _ => MM - (intOf i).toNat)
    case atStart => exact ⟨0, none, 0, none, 0, none, 0, 0, by omega, rfl, rfl, rfl, rfl, Lib.hid ⟨fun _ => False, [], [], Bxo.nil, Bxo.nil, Room.nil, Room.nil, RoomS.nil, fun _ h => h.elim, fun _ h => absurd h foot_none, fun _ h => absurd h foot_none, fun _ h => absurd h foot_none, E1.out⟩⟩
    case round =>
      obtain ⟨k, Aa, ca, At, ct, Ae, ne, ce, hk, rfl, rfl, rfl, rfl, HJ⟩ := hrel
      have HW1 := Lib.hid (show Ext w wr from by obtain ⟨F, ps, ts, hJ⟩ := HJ.out; exact hJ.ext)
      have Hne := Lib.hid (show (evF z e k).length = ne from by obtain ⟨F, ps, ts, hJ⟩ := HJ.out; exact (hJ.re.rd evC_len (by decide)).1)
      by_cases hlt : k < MM
      · have hltI : (k : Int) < (MM : Int) := by omega
        have hk5 : k ≤ 5 := by omega
        have hwk : IntKind.i64.wrap ((k : Int) + 1) = (k : Int) + 1 := IntWalk.i64_in _ (by omega)
        obtain ⟨own, hown⟩ : ∃ own, own = ownF z e k := ⟨_, rfl⟩
        have ho := HOk.out k hk5
        rw [← hown] at ho
        have HOo := Lib.hid ho
        have hnew : newB ((k : Int) + 1) 256 e = true := by unfold newB; rw [decide_eq_true_eq]; omega
        have HNw := Lib.hid hnew
        have Hown := Lib.hid hown
        clear ho hnew hown
        go_upto_if 44 with fail
        go_cut [11] from 44 to 60 (fun v wx => ∃ (A5 : Option Addr) (n5 c5 : Nat), v = .slice A5 n5 c5 ∧ Hid (WoE wr A5 n5 c5 own wx))
        case first =>
          by_cases hkn : k < n1
          · obtain ⟨b0, o0, rfl, s, l, hz, hc, ha⟩ := (HZ.out.ext HW1.out).get hkn
            have hknI : (k : Int) < (n1 : Int) := by omega
            have HOwn : Hid (own = madeF ((k : Int) + 1) e 0 (l.take 20)) := Lib.hid (by rw [Hown.out]; unfold ownF; rw [hz])
            have HAg := Lib.hid ha
            obtain ⟨sA, sn, sc⟩ := s
            simp only at hc HAg
            clear hz ha
            by_cases h20 : sn ≤ 20
            · have h20I : (if (20 : Int) < (sn : Int) then (20 : Int) else (sn : Int)) = (sn : Int) := if_neg (by omega)
              have hsl := fun w' => sb_to (A := sA) (n := sn) (c := sc) (hi := sn) (li := (sn : Int)) w' rfl (by have := HAg.out.le; omega)
              have HMd : Hid (∀ W, Ext wr W → Calls Try.prog 11 #[.int .i64 ((k : Int) + 1), .int .i64 e, .slice (sA) sn sc] W (EvsP own W)) := Lib.hid (fun W x => by
                have h := made_ ((k : Int) + 1) e (sA) sn sc (l.take sn) W ⟨(HAg.out.ext x).rd.take (by omega), fun y hy => HAg.out.ok y (List.mem_of_mem_take hy), by have := HAg.out.le; omega, HAg.out.max⟩ (by omega) (by omega)
                rw [HOwn.out, show l.take 20 = (l.take sn).take 40 by rw [List.take_take]; (rw [List.take_of_length_le (by have := HAg.out.rd.1; omega), List.take_of_length_le (by have := HAg.out.rd.1; omega)])]
                exact h)
              go_wp2_with fail
              go_still_tail 15, (by kernel_rfl)
              change wpList _ _ _ _ _ wr.drew
              go_wp2_with fail
              refine (HMd.out _ (Ext.drew _)).mono ?_; rintro en wm ⟨A5, n5, c5, rfl, r5, l5, m5, e5⟩
              have HO : Hid (WoE wr A5 n5 c5 own wm) := Lib.hid ⟨r5, l5, m5, (Ext.drew _).t e5⟩
              clear r5 l5 m5 e5
              go_wp2_with fail
              go_meet
              exact ⟨A5, n5, c5, rfl, HO⟩
            · have h20I : (20 : Int) < (sn : Int) := by omega
              have hsl := fun w' => sb_to (A := sA) (n := sn) (c := sc) (hi := 20) (li := (20 : Int)) w' rfl (by have := HAg.out.le; omega)
              have HMd : Hid (∀ W, Ext wr W → Calls Try.prog 11 #[.int .i64 ((k : Int) + 1), .int .i64 e, .slice (sA) 20 sc] W (EvsP own W)) := Lib.hid (fun W x => by
                have h := made_ ((k : Int) + 1) e (sA) 20 sc (l.take 20) W ⟨(HAg.out.ext x).rd.take (by omega), fun y hy => HAg.out.ok y (List.mem_of_mem_take hy), by have := HAg.out.le; omega, HAg.out.max⟩ (by omega) (by omega)
                rw [HOwn.out, show l.take 20 = (l.take 20).take 40 by rw [List.take_take]; rfl]
                exact h)
              go_wp2_with fail
              go_still_tail 15, (by kernel_rfl)
              change wpList _ _ _ _ _ wr.drew
              go_wp2_with fail
              refine (HMd.out _ (Ext.drew _)).mono ?_; rintro en wm ⟨A5, n5, c5, rfl, r5, l5, m5, e5⟩
              have HO : Hid (WoE wr A5 n5 c5 own wm) := Lib.hid ⟨r5, l5, m5, (Ext.drew _).t e5⟩
              clear r5 l5 m5 e5
              go_wp2_with fail
              go_meet
              exact ⟨A5, n5, c5, rfl, HO⟩
          · have hknI : ¬ ((k : Int) < (n1 : Int)) := by omega
            have HO : Hid (WoE wr none 0 0 own wr) := Lib.hid (by
              have h0 : own = [] := by
                rw [Hown.out]; unfold ownF
                rw [List.getElem?_eq_none (by have := HZ.out.rd.1; rw [List.length_map] at this; omega)]
              rw [h0]
              exact ⟨RoomS.nil, rfl, fun _ h => absurd h foot_none, Ext.refl _⟩)
            go_wp2_with fail
            all_goals go_meet
            all_goals exact ⟨none, 0, 0, rfl, HO⟩
        case rest =>
          obtain ⟨A5, n5, c5, rfl, HO⟩ := hcut
          have hn5 : n5 ≤ 20 := by have h1 := HO.out.2.1; have h2 := HOo.out.1; omega
          go_wp2_with fail
          refine (filled_ ((k : Int) + 1) e A5 n5 c5 own _ HNw.out (HO.out.1.rd evC_len (by decide)) HOo.out.2.2 HOo.out.2.1 (by have := HOo.out.1; omega)).mono ?_; rintro en w3 ⟨g1, A6, n6, c6, rfl, o1, lg1, f1, e3⟩
          have HA := Lib.hid (show Obx w3 g1 ((k : Int) + 1) 256 e own A6 n6 c6 ∧ wc.heap.size ≤ g1 ∧ (∀ q, foot A6 c6 q → wc.heap.size ≤ q) ∧ Ext wc w3 from ⟨o1, lg1, f1, e3⟩)
          clear o1 lg1 f1 e3
          go_wp2_with fail
          refine (filled_ ((k : Int) + 1) e none 0 0 [] _ HNw.out RdS.none_ (by simp) rfl (by simp)).mono ?_; rintro en w4 ⟨g2, A7, n7, c7, rfl, o2, lg2, f2, e4⟩
          have HB : Hid (BoJ wr ((k : Int) + 1) e own A5 n5 c5 g1 A6 n6 c6 g2 (own.take 0) A7 n7 c7 w4) := Lib.hid ⟨⟨HA.out.1.ext e4, by rw [List.take_zero]; exact o2, fun q h1 h2 => by
              have h3 := HA.out.1.lt h1
              rcases h2 with h2 | h2
              · omega
              · have := f2 q h2; omega, fun q hq => by
              have h3 := HO.out.2.2.2.size
              rcases hq with hq | hq
              · have := HA.out.2.1; omega
              · have := HA.out.2.2.1 q hq; omega, fun q hq => by
              have h3 := HO.out.2.2.2.size
              have h4 := HA.out.2.2.2.size
              rcases hq with hq | hq
              · omega
              · have := f2 q hq; omega, Nat.le_trans HO.out.2.2.2.size (Nat.le_trans HA.out.2.2.2.size e4.size)⟩, (HO.out.1.ext HA.out.2.2.2).ext e4, fun q hq h2 => by
              have h3 := HO.out.1.lt hq
              have h4 := HA.out.2.2.2.size
              rcases h2 with h2 | h2
              · omega
              · have := f2 q h2; omega, (HO.out.2.2.2.t HA.out.2.2.2).t e4⟩
          have HOf := Lib.hid HO.out.2.2.1
          have HOl := Lib.hid HO.out.2.1
          clear o2 lg2 f2 e4 HA HO
          go_wp2_with fail
          obtain ⟨wo, rfl⟩ : ∃ wo, wo = wr := ⟨_, rfl⟩
          go_loopw [86] (fun i wx => ∃ (j : Nat) (A' : Option Addr) (n' c' : Nat), j ≤ n5 ∧ i = .int .i64 (j : Int) ∧ Hid (BoJ wo ((k : Int) + 1) e own A5 n5 c5 g1 A6 n6 c6 g2 (own.take j) A' n' c' wx)) (fun i _ => n5 - (intOf i).toNat)
          case atStart => exact ⟨0, A7, n7, c7, by omega, rfl, HB⟩
          case round =>
            clear HB
            obtain ⟨j, A', n', c', hj, rfl, HB⟩ := hrel
            by_cases hjl : j < n5
            · have hjI : (j : Int) < (n5 : Int) := by omega
              obtain ⟨bm, om, x, rfl, _, hx, x0, x1, x2, x3, x4⟩ := (HB.out.m.rd evC_len (by decide)).ev hjl
              have Hx := Lib.hid hx
              obtain ⟨W8, hW8⟩ : ∃ W8, W8 = wr.alloc (.cells #[.int .i64 x.t, .int .i64 x.s, .int .i64 x.q, .int .i64 x.to, .int .i64 x.v] 35) := ⟨_, rfl⟩
              have hx8 : Ext wr W8 := by rw [hW8]; exact Ext.alloc _ _
              have hs8 : wr.heap.size + 1 = W8.heap.size := by rw [hW8]; exact (Array.size_push _).symm
              have HB8 := Lib.hid (HB.out.go hx8)
              have HW8 := Lib.hid hW8
              have Hs8 := Lib.hid hs8
              clear hx hW8 hx8 hs8 HB
              go_wp2_with fail
              rw [← HW8.out]
              refine (put_next HB8.out.two.o2 HOo.out.2.1 (by have := HOo.out.1; omega) Hx.out (HOo.out.2.2 x (List.mem_of_getElem? Hx.out)) rfl Hs8.out).mono ?_; rintro en w7 ⟨A8, n8, c8, rfl, o8, ch8, ft8⟩
              have HB9 := Lib.hid (HB8.out.turn o8 ch8 ft8)
              clear o8 ch8 ft8 HB8 HW8 Hs8 Hx x0 x1 x2 x3 x4
              go_wp2_with fail
              go_roundw
              case rel => exact ⟨j + 1, A8, n8, c8, by omega, by go_num, HB9⟩
              case measure => simp [intOf]; omega
            · obtain rfl : n5 = j := by omega
              have hjI : ¬ ((n5 : Int) < (n5 : Int)) := by omega
              have hb := HB.out
              rw [List.take_of_length_le (by rw [HOl.out]; exact Nat.le_refl _)] at hb
              obtain ⟨F, ps, ts, hJ⟩ := HJ.out
              have HJ2 := Lib.hid (hJ.box hb.ext hb.two.o1 hb.two.o2 hb.two.lo1 hb.two.lo2)
              rw [Hown.out, ← prF_succ] at HJ2
              generalize (fun q => F q ∨ (wo.heap.size ≤ q ∧ q < wr.heap.size)) = F2 at HJ2
              generalize hps : ps ++ [some g1] = ps2 at HJ2
              generalize hts : ts ++ [some g2] = ts2 at HJ2
              have HM : Hid (RoomS 5 wr A5 n5 c5 (own.flatMap evC) ∧ (∀ q, foot A5 c5 q → ¬ foot Aa ca q ∧ ¬ foot At ct q)) := Lib.hid ⟨hb.m, fun q hq => by
                have h1 := HOf.out q hq
                exact ⟨fun hf => by have := hJ.ra.lt hf; omega, fun hf => by have := hJ.rt.lt hf; omega⟩⟩
              have Hps := Lib.hid (And.intro hps hts)
              have hne120 : ne ≤ 120 := by have h1 := Hne.out; have h2 := (HEv.out k (by omega)).2.1; omega
              clear hb hJ hps hts HB HJ Hne
              go_wp2_with (refine wpl_append_at (by rfl) rfl ul_bx info_bx rfl rfl (HJ2.out.ra.ext (Ext.alloc _ _)) rfl (Src.ofRd (f := ptrv) (xs := [some g1]) ul_bx ((Blk.new _ _ _).rd rfl rfl) (fun _ => rfl)) (by simp only [maxLen]; omega) (by omega) ?_)
              intro A8 c8 w8 r8 ch8 ft8
              have HJ3 := Lib.hid (HJ2.out.pushA (g := some g1) (Ext.alloc _ _) r8 ch8 (by simpa using ft8))
              have HM3 := Lib.hid (show RoomS 5 w8 A5 n5 c5 (own.flatMap evC) ∧ (∀ q, foot A5 c5 q → ¬ foot At ct q) from ⟨(HM.out.1.ext (Ext.alloc _ _)).chg ch8 (fun q hq => (HM.out.2 q hq).1), fun q hq => (HM.out.2 q hq).2⟩)
              rw [Hps.out.1] at HJ3
              clear r8 ch8 ft8 HJ2 HM
              refine Lib.hid ?_
              go_wp2_with (refine wpl_append_at (by rfl) rfl ul_bx info_bx rfl rfl (HJ3.out.rt.ext (Ext.alloc _ _)) rfl (Src.ofRd (f := ptrv) (xs := [some g2]) ul_bx ((Blk.new _ _ _).rd rfl rfl) (fun _ => rfl)) (by simp only [maxLen]; omega) (by omega) ?_)
              intro A9 c9 w9 r9 ch9 ft9
              have HJ4 := Lib.hid (HJ3.out.pushT (g := some g2) (Ext.alloc _ _) r9 ch9 (by simpa using ft9))
              have HM4 := Lib.hid ((HM3.out.1.ext (Ext.alloc _ _)).chg ch9 HM3.out.2)
              rw [Hps.out.2] at HJ4
              clear r9 ch9 ft9 HJ3 HM3
              refine Lib.hid ?_
              go_wp2_with (refine wpl_append_atS (by rfl) rfl ul_ev info_ev rfl rfl HJ4.out.re rfl (Src.ofRdS ul_ev evC_len (HM4.out.rd evC_len (by decide)) evC_one) (by simp only [maxLen]; omega) (by omega) ?_)
              intro A10 c10 w10 r10 ch10 ft10
              have HJ5 := Lib.hid (HJ4.out.pushE (Ext.refl _) r10 ch10 ft10)
              rw [Hown.out, ← evF_succ] at HJ5
              clear r10 ch10 ft10 HJ4 HM4
              refine Lib.hid ?_
              go_wp2_with fail
              go_roundw
              case rel => exact ⟨k + 1, A8, c8, A9, c9, A10, ne + n5, c10, by omega, by go_num, by go_num, by go_num, by go_num, Lib.hid ⟨F2, ps2, ts2, HJ5.out⟩⟩
              case measure => simp [intOf]; omega
      · obtain rfl : MM = k := by omega
        have hltI : ¬ ((MM : Int) < (MM : Int)) := by omega
        obtain ⟨F, ps, ts, hJ⟩ := HJ.out
        obtain ⟨P, hP⟩ : ∃ P, P = prF z e MM := ⟨_, rfl⟩
        obtain ⟨V, hV⟩ : ∃ V, V = evF z e MM := ⟨_, rfl⟩
        have hVP : P.flatMap Prod.snd = V := by rw [hP, hV]; rfl
        have HV := Lib.hid (HEv.out MM (by omega))
        rw [← hV] at HV
        have HPb := Lib.hid (HBs.out MM (by omega))
        have HPn := Lib.hid (prF_nodup z e MM)
        have hPl : P.length = MM := by rw [hP, prF_len]
        rw [← hP] at HPb HPn
        have hnel := Hne.out
        rw [← hP, ← hV] at hJ
        rw [← hV] at hnel
        have hne120 : ne ≤ 120 := by have := HV.out.2.1; omega
        have HVP := Lib.hid hVP
        have HPV := Lib.hid (And.intro hP hV)
        obtain ⟨k0, hk0⟩ : ∃ k0, k0 = b % MM := ⟨_, rfl⟩
        have hk0l : k0 < MM := by rw [hk0]; exact Nat.mod_lt _ (by omega)
        have hm1 : ((MM : Int) == 0) = false := by simp; try omega
        have hm2 : ¬ ((MM : Int) = 0) := by omega
        have hkE : (b : Int) % (MM : Int) = (k0 : Int) := by rw [hk0]; first | omega | exact (Int.natCast_emod b MM).symm
        have hkT : (b : Int).tmod (MM : Int) = (k0 : Int) := by rw [Int.tmod_eq_emod_of_nonneg (Int.natCast_nonneg _)]; exact hkE
        have hwk0 : IntKind.i64.wrap (k0 : Int) = (k0 : Int) := IntWalk.i64_in _ (by omega)
        obtain ⟨nk, hnk⟩ : ∃ nk, nk = MM - k0 := ⟨_, rfl⟩
        obtain ⟨AK, hAK⟩ : ∃ AK, AK = fromS 1 At ct k0 := ⟨_, rfl⟩
        have hct := hJ.rt.2.1
        obtain ⟨ck, hck⟩ : ∃ ck, ck = ct - k0 := ⟨_, rfl⟩
        have hs1 := fun w' => bx_from (A := At) (n := MM) (c := ct) (k := k0) (li := (k0 : Int)) w' rfl (by omega)
        have hs2 := fun w' => bx_to (A := At) (n := MM) (c := ct) (hi := k0) (li := (k0 : Int)) w' rfl (by omega)
        rw [← hAK, ← hnk, ← hck] at hs1
        have HCl : Hid (∀ W, Ext wr W → Calls Try.prog 14 #[.slice AK nk ck] W (ClnP 1 nk ((ts.drop k0).flatMap (fun p => [ptrv p])) W)) := Lib.hid (fun W x => cloneB AK nk ck (fun _ => rfl) pv_one (ts.drop k0) W (by rw [hAK, hnk]; exact ((RdS.of_rd (hJ.rt.rd)).from_ (by omega) (by omega)).ext x) (by omega))
        have HRt : Hid (Rd ptrv wr At k0 (ts.take k0)) := Lib.hid (by have h := hJ.rt.take (k := k0) (by omega); rw [← List.map_take] at h; exact h.rd)
        have HJ1 := Lib.hid hJ
        have Hnk := Lib.hid (show nk + k0 = MM by omega)
        have hnk' : nk ≤ MM := by omega
        clear hJ HJ Hne hVP hAK hck hk0 hP hV hnk
        go_upto_region 25 with fail
        go_cut [8] from 117 to 124 (fun v1 wx => ∃ (A : Option Addr) (c : Nat), v1 = .slice A MM c ∧ Hid (Rd ptrv wx A MM (ts.drop k0 ++ ts.take k0) ∧ Ext wr wx))
        case first =>
          go_region_law (first
            | (go_simp; go_at_call 14; refine (HCl.out _ (Ext.drew _)).mono ?_; rintro en w8 ⟨A6, c6, rfl, r6, e6, f6⟩; rw [flat_one] at r6; have R6 := Lib.hid (And.intro (RoomS.room r6) (And.intro e6 f6)); clear r6 e6 f6)
            | (refine step_append_at (A := A6) (n := nk) (c := c6) (v := .slice At k0 ct) rfl rfl ul_bx info_bx rfl (by go_simp) R6.out.1 (by first | (simp [Act.eval]; done) | (go_simp; done)) (Src.ofRd ul_bx (HRt.out.ext ((Ext.drew _).t R6.out.2.1)) (fun _ => rfl)) (by simp only [maxLen]; omega) (by omega) ?_
               intro A9 c9 w9 r9 ch9 ft9
               have H9 : Hid (Rd ptrv w9 A9 MM (ts.drop k0 ++ ts.take k0) ∧ Ext wr w9) := Lib.hid ⟨by rw [← List.map_append, Hnk.out] at r9; exact r9.rd, (((Ext.drew wr).t R6.out.2.1)).trans (ch9.below ((Ext.drew wr).t R6.out.2.1).size (fun q hq hf => by have h1 := R6.out.2.2 q hf; have h2 := (Ext.drew wr).size; omega))⟩
               clear r9 ch9 ft9))
          all_goals go_wp2_with fail
          all_goals go_simp
          all_goals go_meet
          all_goals exact ⟨A9, c9, by rw [Hnk.out], H9⟩
        case rest =>
          obtain ⟨A9, c9, rfl, H9⟩ := hcut
          have HJ2 := Lib.hid (HJ1.out.go H9.out.2)
          have HRd := Lib.hid H9.out.1
          clear H9 HJ1 HCl HRt hs1 hs2
          go_wp2_with fail
          refine (obx_merge Aa MM ca ps (P.map some) _ HJ2.out.ra.rd HJ2.out.ba.bxs (by omega)).mono ?_; rintro en w10 ⟨r, hm, A10, n10, c10, rfl, r10, l10, f10, e10⟩
          obtain rfl := mgB_ok HPn.out HPb.out hm
          rw [HVP.out] at r10 l10
          have HJ3 := Lib.hid (HJ2.out.go e10)
          have HR10 := Lib.hid (r10.rd evC_len (by decide))
          have HRd3 := Lib.hid (HRd.out.ext e10)
          have hn10 : n10 ≤ 120 := by have : (isort V).length = n10 := l10; rw [isort_len] at this; omega
          clear hm r10 l10 f10 e10 HJ2 HRd
          go_wp2_with fail
          refine (obx_merge A9 MM c9 (ts.drop k0 ++ ts.take k0) ((P.map some).drop k0 ++ (P.map some).take k0) _ HRd3.out (HJ3.out.bt.turn (by have := HJ3.out.bt.len; omega)) (by omega)).mono ?_; rintro en w11 ⟨r, hm, A11, n11, c11, rfl, r11, l11, f11, e11⟩
          obtain rfl := turn_mg HPn.out HPb.out (by rw [HVP.out]; exact HV.out.1) hm
          rw [HVP.out] at r11 l11
          have HJ4 := Lib.hid (HJ3.out.go e11)
          have HR11 := Lib.hid (And.intro (HR10.out.ext e11) (r11.rd evC_len (by decide)))
          have hn11 : n11 ≤ 120 := by have : (isort V).length = n11 := l11; rw [isort_len] at this; omega
          clear hm r11 l11 f11 e11 HJ3 HR10 HRd3
          go_wp2_with fail
          refine (sort_ Ae ne ce V _ (HJ4.out.re.rd evC_len (by decide)) HJ4.out.re.2.1 (by omega) (fun x hx => (HV.out.2.2 x hx).1)).mono ?_; rw [sortF_ok HV.out.1]; rintro en w12 ⟨A12, n12, c12, rfl, r12, l12, f12, e12⟩
          have HJ5 := Lib.hid (HJ4.out.go e12)
          have HR12 := Lib.hid (And.intro (HR11.out.1.ext e12) (And.intro (HR11.out.2.ext e12) (r12.rd evC_len (by decide))))
          have hn12 : n12 ≤ 120 := by have : (isort V).length = n12 := l12; rw [isort_len] at this; omega
          clear r12 l12 f12 e12 HJ4 HR11
          go_wp2_with fail
          refine (sameE_ _ _ _ _ _ _ _ _ _ HR12.out.1 HR12.out.2.2 (by omega) (by omega)).mono ?_; rintro en w13 ⟨rfl, e13⟩
          rw [show decide (isort V = isort V) = true from decide_eq_true rfl]
          have HJ6 := Lib.hid (HJ5.out.go e13)
          have HR13 := Lib.hid (And.intro (HR12.out.2.1.ext e13) (HR12.out.2.2.ext e13))
          clear e13 HJ5 HR12
          go_wp2_with fail
          refine (sameE_ _ _ _ _ _ _ _ _ _ HR13.out.1 HR13.out.2 (by omega) (by omega)).mono ?_; rintro en w14 ⟨rfl, e14⟩
          rw [show decide (isort V = isort V) = true from decide_eq_true rfl]
          have HJ7 := Lib.hid (HJ6.out.go e14)
          clear e14 HJ6 HR13
          go_wp2_with fail
          go_loopw [29, 170] (fun vs vi wx => ∃ j t : Nat, j ≤ MM ∧ vs = .int .i64 (t : Int) ∧ vi = .int .i64 (j : Int) ∧ Hid (t = (evF z e j).length ∧ OmJ w e F ps ts P ps Aa MM ca ts At MM ct V Ae ne ce wx)) (fun _ i _ => MM - (intOf i).toNat)
          case atStart => exact ⟨0, 0, by omega, rfl, rfl, Lib.hid ⟨rfl, HJ7.out⟩⟩
          case round =>
            clear HJ7
            obtain ⟨j, t, hj, rfl, rfl, HJ⟩ := hrel
            have ht120 : t ≤ 120 := by have h1 := HJ.out.1; have h2 := (HEv.out j (by omega)).2.1; omega
            by_cases hjl : j < MM
            · have hjI : (j : Int) < (MM : Int) := by omega
              have hpl : ps.length = MM := by have := HJ.out.2.ba.len; omega
              obtain ⟨g, s, evs, A, n, c, hp, hb, ho, _⟩ := HJ.out.2.ba.at_ j ps[j] (List.getElem?_eq_getElem (by omega))
              obtain ⟨ba, oa, rfl, _⟩ := HJ.out.2.ra.some_ (by have := HJ.out.2.ra.2.1; omega)
              have hc := HJ.out.2.ra.cellAt (k := j) (u := .pointer (some ⟨g, 0, none⟩)) (by rw [List.getElem?_map, List.getElem?_eq_getElem (by omega), hp]; rfl)
              have hnn : n = (ownF z e j).length := by
                rw [HPV.out.1] at hb
                unfold prF at hb
                rw [List.getElem?_map, List.getElem?_range (by omega)] at hb
                cases hb
                exact ho.len.symm
              have hn20 : n ≤ 20 := by have := (HOk.out j (by omega)).1; omega
              have htn : t + n = (evF z e (j + 1)).length := by rw [evF_succ, List.length_append, ← hnn, HJ.out.1]
              have HTn := Lib.hid htn
              have HO := Lib.hid ho
              clear hb hp ho hnn htn
              go_wp2_with fail
              refine (obx_len HO.out).mono ?_; rintro en w15 ⟨rfl, rfl⟩
              go_wp2_with fail
              go_roundw
              case rel => exact ⟨j + 1, t + n, by omega, by go_num, by go_num, Lib.hid ⟨HTn.out, HJ.out.2⟩⟩
              case measure => simp [intOf]; omega
            · obtain rfl : MM = j := by omega
              have hjI : ¬ ((MM : Int) < (MM : Int)) := by omega
              have htn : t = ne := by have h1 := HJ.out.1; rw [← HPV.out.2] at h1; omega
              subst htn
              have HE := Lib.hid HJ.out.2.ext
              clear HJ
              go_wp2_with fail
              go_ret
              exact ⟨rfl, HE.out⟩
  · have hI : ¬ ((n1 : Int) ≤ 5) := by omega
    go_wp2_with fail
    go_loopw [7, 8, 9, 38] (fun va vt ve vi wr => ∃ (k : Nat) (Aa : Option Addr) (ca : Nat) (At : Option Addr) (ct : Nat) (Ae : Option Addr) (ne ce : Nat), k ≤ 6 ∧ va = .slice Aa k ca ∧ vt = .slice At k ct ∧ ve = .slice Ae ne ce ∧ vi = .int .i64 (k : Int) ∧ Hid (∃ F ps ts, OmJ w e F ps ts (prF z e k) ps Aa k ca ts At k ct (evF z e k) Ae ne ce wr)) (fun _ _ _ i _ => 6 - (intOf i).toNat)
    case atStart => exact ⟨0, none, 0, none, 0, none, 0, 0, by omega, rfl, rfl, rfl, rfl, Lib.hid ⟨fun _ => False, [], [], Bxo.nil, Bxo.nil, Room.nil, Room.nil, RoomS.nil, fun _ h => h.elim, fun _ h => absurd h foot_none, fun _ h => absurd h foot_none, fun _ h => absurd h foot_none, E1.out⟩⟩
    case round =>
      obtain ⟨k, Aa, ca, At, ct, Ae, ne, ce, hk, rfl, rfl, rfl, rfl, HJ⟩ := hrel
      have HW1 := Lib.hid (show Ext w wr from by obtain ⟨F, ps, ts, hJ⟩ := HJ.out; exact hJ.ext)
      have Hne := Lib.hid (show (evF z e k).length = ne from by obtain ⟨F, ps, ts, hJ⟩ := HJ.out; exact (hJ.re.rd evC_len (by decide)).1)
      by_cases hlt : k < 6
      · have hltI : (k : Int) < (6 : Int) := by omega
        have hk5 : k ≤ 5 := by omega
        have hwk : IntKind.i64.wrap ((k : Int) + 1) = (k : Int) + 1 := IntWalk.i64_in _ (by omega)
        obtain ⟨own, hown⟩ : ∃ own, own = ownF z e k := ⟨_, rfl⟩
        have ho := HOk.out k hk5
        rw [← hown] at ho
        have HOo := Lib.hid ho
        have hnew : newB ((k : Int) + 1) 256 e = true := by unfold newB; rw [decide_eq_true_eq]; omega
        have HNw := Lib.hid hnew
        have Hown := Lib.hid hown
        clear ho hnew hown
        go_upto_if 44 with fail
        go_cut [11] from 44 to 60 (fun v wx => ∃ (A5 : Option Addr) (n5 c5 : Nat), v = .slice A5 n5 c5 ∧ Hid (WoE wr A5 n5 c5 own wx))
        case first =>
          by_cases hkn : k < n1
          · obtain ⟨b0, o0, rfl, s, l, hz, hc, ha⟩ := (HZ.out.ext HW1.out).get hkn
            have hknI : (k : Int) < (n1 : Int) := by omega
            have HOwn : Hid (own = madeF ((k : Int) + 1) e 0 (l.take 20)) := Lib.hid (by rw [Hown.out]; unfold ownF; rw [hz])
            have HAg := Lib.hid ha
            obtain ⟨sA, sn, sc⟩ := s
            simp only at hc HAg
            clear hz ha
            by_cases h20 : sn ≤ 20
            · have h20I : (if (20 : Int) < (sn : Int) then (20 : Int) else (sn : Int)) = (sn : Int) := if_neg (by omega)
              have hsl := fun w' => sb_to (A := sA) (n := sn) (c := sc) (hi := sn) (li := (sn : Int)) w' rfl (by have := HAg.out.le; omega)
              have HMd : Hid (∀ W, Ext wr W → Calls Try.prog 11 #[.int .i64 ((k : Int) + 1), .int .i64 e, .slice (sA) sn sc] W (EvsP own W)) := Lib.hid (fun W x => by
                have h := made_ ((k : Int) + 1) e (sA) sn sc (l.take sn) W ⟨(HAg.out.ext x).rd.take (by omega), fun y hy => HAg.out.ok y (List.mem_of_mem_take hy), by have := HAg.out.le; omega, HAg.out.max⟩ (by omega) (by omega)
                rw [HOwn.out, show l.take 20 = (l.take sn).take 40 by rw [List.take_take]; (rw [List.take_of_length_le (by have := HAg.out.rd.1; omega), List.take_of_length_le (by have := HAg.out.rd.1; omega)])]
                exact h)
              go_wp2_with fail
              go_still_tail 15, (by kernel_rfl)
              change wpList _ _ _ _ _ wr.drew
              go_wp2_with fail
              refine (HMd.out _ (Ext.drew _)).mono ?_; rintro en wm ⟨A5, n5, c5, rfl, r5, l5, m5, e5⟩
              have HO : Hid (WoE wr A5 n5 c5 own wm) := Lib.hid ⟨r5, l5, m5, (Ext.drew _).t e5⟩
              clear r5 l5 m5 e5
              go_wp2_with fail
              go_meet
              exact ⟨A5, n5, c5, rfl, HO⟩
            · have h20I : (20 : Int) < (sn : Int) := by omega
              have hsl := fun w' => sb_to (A := sA) (n := sn) (c := sc) (hi := 20) (li := (20 : Int)) w' rfl (by have := HAg.out.le; omega)
              have HMd : Hid (∀ W, Ext wr W → Calls Try.prog 11 #[.int .i64 ((k : Int) + 1), .int .i64 e, .slice (sA) 20 sc] W (EvsP own W)) := Lib.hid (fun W x => by
                have h := made_ ((k : Int) + 1) e (sA) 20 sc (l.take 20) W ⟨(HAg.out.ext x).rd.take (by omega), fun y hy => HAg.out.ok y (List.mem_of_mem_take hy), by have := HAg.out.le; omega, HAg.out.max⟩ (by omega) (by omega)
                rw [HOwn.out, show l.take 20 = (l.take 20).take 40 by rw [List.take_take]; rfl]
                exact h)
              go_wp2_with fail
              go_still_tail 15, (by kernel_rfl)
              change wpList _ _ _ _ _ wr.drew
              go_wp2_with fail
              refine (HMd.out _ (Ext.drew _)).mono ?_; rintro en wm ⟨A5, n5, c5, rfl, r5, l5, m5, e5⟩
              have HO : Hid (WoE wr A5 n5 c5 own wm) := Lib.hid ⟨r5, l5, m5, (Ext.drew _).t e5⟩
              clear r5 l5 m5 e5
              go_wp2_with fail
              go_meet
              exact ⟨A5, n5, c5, rfl, HO⟩
          · have hknI : ¬ ((k : Int) < (n1 : Int)) := by omega
            have HO : Hid (WoE wr none 0 0 own wr) := Lib.hid (by
              have h0 : own = [] := by
                rw [Hown.out]; unfold ownF
                rw [List.getElem?_eq_none (by have := HZ.out.rd.1; rw [List.length_map] at this; omega)]
              rw [h0]
              exact ⟨RoomS.nil, rfl, fun _ h => absurd h foot_none, Ext.refl _⟩)
            go_wp2_with fail
            all_goals go_meet
            all_goals exact ⟨none, 0, 0, rfl, HO⟩
        case rest =>
          obtain ⟨A5, n5, c5, rfl, HO⟩ := hcut
          have hn5 : n5 ≤ 20 := by have h1 := HO.out.2.1; have h2 := HOo.out.1; omega
          go_wp2_with fail
          refine (filled_ ((k : Int) + 1) e A5 n5 c5 own _ HNw.out (HO.out.1.rd evC_len (by decide)) HOo.out.2.2 HOo.out.2.1 (by have := HOo.out.1; omega)).mono ?_; rintro en w3 ⟨g1, A6, n6, c6, rfl, o1, lg1, f1, e3⟩
          have HA := Lib.hid (show Obx w3 g1 ((k : Int) + 1) 256 e own A6 n6 c6 ∧ wc.heap.size ≤ g1 ∧ (∀ q, foot A6 c6 q → wc.heap.size ≤ q) ∧ Ext wc w3 from ⟨o1, lg1, f1, e3⟩)
          clear o1 lg1 f1 e3
          go_wp2_with fail
          refine (filled_ ((k : Int) + 1) e none 0 0 [] _ HNw.out RdS.none_ (by simp) rfl (by simp)).mono ?_; rintro en w4 ⟨g2, A7, n7, c7, rfl, o2, lg2, f2, e4⟩
          have HB : Hid (BoJ wr ((k : Int) + 1) e own A5 n5 c5 g1 A6 n6 c6 g2 (own.take 0) A7 n7 c7 w4) := Lib.hid ⟨⟨HA.out.1.ext e4, by rw [List.take_zero]; exact o2, fun q h1 h2 => by
              have h3 := HA.out.1.lt h1
              rcases h2 with h2 | h2
              · omega
              · have := f2 q h2; omega, fun q hq => by
              have h3 := HO.out.2.2.2.size
              rcases hq with hq | hq
              · have := HA.out.2.1; omega
              · have := HA.out.2.2.1 q hq; omega, fun q hq => by
              have h3 := HO.out.2.2.2.size
              have h4 := HA.out.2.2.2.size
              rcases hq with hq | hq
              · omega
              · have := f2 q hq; omega, Nat.le_trans HO.out.2.2.2.size (Nat.le_trans HA.out.2.2.2.size e4.size)⟩, (HO.out.1.ext HA.out.2.2.2).ext e4, fun q hq h2 => by
              have h3 := HO.out.1.lt hq
              have h4 := HA.out.2.2.2.size
              rcases h2 with h2 | h2
              · omega
              · have := f2 q h2; omega, (HO.out.2.2.2.t HA.out.2.2.2).t e4⟩
          have HOf := Lib.hid HO.out.2.2.1
          have HOl := Lib.hid HO.out.2.1
          clear o2 lg2 f2 e4 HA HO
          go_wp2_with fail
          obtain ⟨wo, rfl⟩ : ∃ wo, wo = wr := ⟨_, rfl⟩
          go_loopw [86] (fun i wx => ∃ (j : Nat) (A' : Option Addr) (n' c' : Nat), j ≤ n5 ∧ i = .int .i64 (j : Int) ∧ Hid (BoJ wo ((k : Int) + 1) e own A5 n5 c5 g1 A6 n6 c6 g2 (own.take j) A' n' c' wx)) (fun i _ => n5 - (intOf i).toNat)
          case atStart => exact ⟨0, A7, n7, c7, by omega, rfl, HB⟩
          case round =>
            clear HB
            obtain ⟨j, A', n', c', hj, rfl, HB⟩ := hrel
            by_cases hjl : j < n5
            · have hjI : (j : Int) < (n5 : Int) := by omega
              obtain ⟨bm, om, x, rfl, _, hx, x0, x1, x2, x3, x4⟩ := (HB.out.m.rd evC_len (by decide)).ev hjl
              have Hx := Lib.hid hx
              obtain ⟨W8, hW8⟩ : ∃ W8, W8 = wr.alloc (.cells #[.int .i64 x.t, .int .i64 x.s, .int .i64 x.q, .int .i64 x.to, .int .i64 x.v] 35) := ⟨_, rfl⟩
              have hx8 : Ext wr W8 := by rw [hW8]; exact Ext.alloc _ _
              have hs8 : wr.heap.size + 1 = W8.heap.size := by rw [hW8]; exact (Array.size_push _).symm
              have HB8 := Lib.hid (HB.out.go hx8)
              have HW8 := Lib.hid hW8
              have Hs8 := Lib.hid hs8
              clear hx hW8 hx8 hs8 HB
              go_wp2_with fail
              rw [← HW8.out]
              refine (put_next HB8.out.two.o2 HOo.out.2.1 (by have := HOo.out.1; omega) Hx.out (HOo.out.2.2 x (List.mem_of_getElem? Hx.out)) rfl Hs8.out).mono ?_; rintro en w7 ⟨A8, n8, c8, rfl, o8, ch8, ft8⟩
              have HB9 := Lib.hid (HB8.out.turn o8 ch8 ft8)
              clear o8 ch8 ft8 HB8 HW8 Hs8 Hx x0 x1 x2 x3 x4
              go_wp2_with fail
              go_roundw
              case rel => exact ⟨j + 1, A8, n8, c8, by omega, by go_num, HB9⟩
              case measure => simp [intOf]; omega
            · obtain rfl : n5 = j := by omega
              have hjI : ¬ ((n5 : Int) < (n5 : Int)) := by omega
              have hb := HB.out
              rw [List.take_of_length_le (by rw [HOl.out]; exact Nat.le_refl _)] at hb
              obtain ⟨F, ps, ts, hJ⟩ := HJ.out
              have HJ2 := Lib.hid (hJ.box hb.ext hb.two.o1 hb.two.o2 hb.two.lo1 hb.two.lo2)
              rw [Hown.out, ← prF_succ] at HJ2
              generalize (fun q => F q ∨ (wo.heap.size ≤ q ∧ q < wr.heap.size)) = F2 at HJ2
              generalize hps : ps ++ [some g1] = ps2 at HJ2
              generalize hts : ts ++ [some g2] = ts2 at HJ2
              have HM : Hid (RoomS 5 wr A5 n5 c5 (own.flatMap evC) ∧ (∀ q, foot A5 c5 q → ¬ foot Aa ca q ∧ ¬ foot At ct q)) := Lib.hid ⟨hb.m, fun q hq => by
                have h1 := HOf.out q hq
                exact ⟨fun hf => by have := hJ.ra.lt hf; omega, fun hf => by have := hJ.rt.lt hf; omega⟩⟩
              have Hps := Lib.hid (And.intro hps hts)
              have hne120 : ne ≤ 120 := by have h1 := Hne.out; have h2 := (HEv.out k (by omega)).2.1; omega
              clear hb hJ hps hts HB HJ Hne
              go_wp2_with (refine wpl_append_at (by rfl) rfl ul_bx info_bx rfl rfl (HJ2.out.ra.ext (Ext.alloc _ _)) rfl (Src.ofRd (f := ptrv) (xs := [some g1]) ul_bx ((Blk.new _ _ _).rd rfl rfl) (fun _ => rfl)) (by simp only [maxLen]; omega) (by omega) ?_)
              intro A8 c8 w8 r8 ch8 ft8
              have HJ3 := Lib.hid (HJ2.out.pushA (g := some g1) (Ext.alloc _ _) r8 ch8 (by simpa using ft8))
              have HM3 := Lib.hid (show RoomS 5 w8 A5 n5 c5 (own.flatMap evC) ∧ (∀ q, foot A5 c5 q → ¬ foot At ct q) from ⟨(HM.out.1.ext (Ext.alloc _ _)).chg ch8 (fun q hq => (HM.out.2 q hq).1), fun q hq => (HM.out.2 q hq).2⟩)
              rw [Hps.out.1] at HJ3
              clear r8 ch8 ft8 HJ2 HM
              refine Lib.hid ?_
              go_wp2_with (refine wpl_append_at (by rfl) rfl ul_bx info_bx rfl rfl (HJ3.out.rt.ext (Ext.alloc _ _)) rfl (Src.ofRd (f := ptrv) (xs := [some g2]) ul_bx ((Blk.new _ _ _).rd rfl rfl) (fun _ => rfl)) (by simp only [maxLen]; omega) (by omega) ?_)
              intro A9 c9 w9 r9 ch9 ft9
              have HJ4 := Lib.hid (HJ3.out.pushT (g := some g2) (Ext.alloc _ _) r9 ch9 (by simpa using ft9))
              have HM4 := Lib.hid ((HM3.out.1.ext (Ext.alloc _ _)).chg ch9 HM3.out.2)
              rw [Hps.out.2] at HJ4
              clear r9 ch9 ft9 HJ3 HM3
              refine Lib.hid ?_
              go_wp2_with (refine wpl_append_atS (by rfl) rfl ul_ev info_ev rfl rfl HJ4.out.re rfl (Src.ofRdS ul_ev evC_len (HM4.out.rd evC_len (by decide)) evC_one) (by simp only [maxLen]; omega) (by omega) ?_)
              intro A10 c10 w10 r10 ch10 ft10
              have HJ5 := Lib.hid (HJ4.out.pushE (Ext.refl _) r10 ch10 ft10)
              rw [Hown.out, ← evF_succ] at HJ5
              clear r10 ch10 ft10 HJ4 HM4
              refine Lib.hid ?_
              go_wp2_with fail
              go_roundw
              case rel => exact ⟨k + 1, A8, c8, A9, c9, A10, ne + n5, c10, by omega, by go_num, by go_num, by go_num, by go_num, Lib.hid ⟨F2, ps2, ts2, HJ5.out⟩⟩
              case measure => simp [intOf]; omega
      · obtain rfl : k = 6 := by omega
        have hltI : ¬ ((6 : Int) < (6 : Int)) := by omega
        obtain ⟨F, ps, ts, hJ⟩ := HJ.out
        obtain ⟨P, hP⟩ : ∃ P, P = prF z e 6 := ⟨_, rfl⟩
        obtain ⟨V, hV⟩ : ∃ V, V = evF z e 6 := ⟨_, rfl⟩
        have hVP : P.flatMap Prod.snd = V := by rw [hP, hV]; rfl
        have HV := Lib.hid (HEv.out 6 (by omega))
        rw [← hV] at HV
        have HPb := Lib.hid (HBs.out 6 (by omega))
        have HPn := Lib.hid (prF_nodup z e 6)
        have hPl : P.length = 6 := by rw [hP, prF_len]
        rw [← hP] at HPb HPn
        have hnel := Hne.out
        rw [← hP, ← hV] at hJ
        rw [← hV] at hnel
        have hne120 : ne ≤ 120 := by have := HV.out.2.1; omega
        have HVP := Lib.hid hVP
        have HPV := Lib.hid (And.intro hP hV)
        obtain ⟨k0, hk0⟩ : ∃ k0, k0 = b % 6 := ⟨_, rfl⟩
        have hk0l : k0 < 6 := by rw [hk0]; exact Nat.mod_lt _ (by omega)
        have hm1 : ((6 : Int) == 0) = false := by simp; try omega
        have hm2 : ¬ ((6 : Int) = 0) := by omega
        have hkE : (b : Int) % (6 : Int) = (k0 : Int) := by rw [hk0]; first | omega | exact (Int.natCast_emod b 6).symm
        have hkT : (b : Int).tmod (6 : Int) = (k0 : Int) := by rw [Int.tmod_eq_emod_of_nonneg (Int.natCast_nonneg _)]; exact hkE
        have hwk0 : IntKind.i64.wrap (k0 : Int) = (k0 : Int) := IntWalk.i64_in _ (by omega)
        obtain ⟨nk, hnk⟩ : ∃ nk, nk = 6 - k0 := ⟨_, rfl⟩
        obtain ⟨AK, hAK⟩ : ∃ AK, AK = fromS 1 At ct k0 := ⟨_, rfl⟩
        have hct := hJ.rt.2.1
        obtain ⟨ck, hck⟩ : ∃ ck, ck = ct - k0 := ⟨_, rfl⟩
        have hs1 := fun w' => bx_from (A := At) (n := 6) (c := ct) (k := k0) (li := (k0 : Int)) w' rfl (by omega)
        have hs2 := fun w' => bx_to (A := At) (n := 6) (c := ct) (hi := k0) (li := (k0 : Int)) w' rfl (by omega)
        rw [← hAK, ← hnk, ← hck] at hs1
        have HCl : Hid (∀ W, Ext wr W → Calls Try.prog 14 #[.slice AK nk ck] W (ClnP 1 nk ((ts.drop k0).flatMap (fun p => [ptrv p])) W)) := Lib.hid (fun W x => cloneB AK nk ck (fun _ => rfl) pv_one (ts.drop k0) W (by rw [hAK, hnk]; exact ((RdS.of_rd (hJ.rt.rd)).from_ (by omega) (by omega)).ext x) (by omega))
        have HRt : Hid (Rd ptrv wr At k0 (ts.take k0)) := Lib.hid (by have h := hJ.rt.take (k := k0) (by omega); rw [← List.map_take] at h; exact h.rd)
        have HJ1 := Lib.hid hJ
        have Hnk := Lib.hid (show nk + k0 = 6 by omega)
        have hnk' : nk ≤ 6 := by omega
        clear hJ HJ Hne hVP hAK hck hk0 hP hV hnk
        go_upto_region 25 with fail
        go_cut [8] from 117 to 124 (fun v1 wx => ∃ (A : Option Addr) (c : Nat), v1 = .slice A 6 c ∧ Hid (Rd ptrv wx A 6 (ts.drop k0 ++ ts.take k0) ∧ Ext wr wx))
        case first =>
          go_region_law (first
            | (go_simp; go_at_call 14; refine (HCl.out _ (Ext.drew _)).mono ?_; rintro en w8 ⟨A6, c6, rfl, r6, e6, f6⟩; rw [flat_one] at r6; have R6 := Lib.hid (And.intro (RoomS.room r6) (And.intro e6 f6)); clear r6 e6 f6)
            | (refine step_append_at (A := A6) (n := nk) (c := c6) (v := .slice At k0 ct) rfl rfl ul_bx info_bx rfl (by go_simp) R6.out.1 (by first | (simp [Act.eval]; done) | (go_simp; done)) (Src.ofRd ul_bx (HRt.out.ext ((Ext.drew _).t R6.out.2.1)) (fun _ => rfl)) (by simp only [maxLen]; omega) (by omega) ?_
               intro A9 c9 w9 r9 ch9 ft9
               have H9 : Hid (Rd ptrv w9 A9 6 (ts.drop k0 ++ ts.take k0) ∧ Ext wr w9) := Lib.hid ⟨by rw [← List.map_append, Hnk.out] at r9; exact r9.rd, (((Ext.drew wr).t R6.out.2.1)).trans (ch9.below ((Ext.drew wr).t R6.out.2.1).size (fun q hq hf => by have h1 := R6.out.2.2 q hf; have h2 := (Ext.drew wr).size; omega))⟩
               clear r9 ch9 ft9))
          all_goals go_wp2_with fail
          all_goals go_simp
          all_goals go_meet
          all_goals exact ⟨A9, c9, by rw [Hnk.out], H9⟩
        case rest =>
          obtain ⟨A9, c9, rfl, H9⟩ := hcut
          have HJ2 := Lib.hid (HJ1.out.go H9.out.2)
          have HRd := Lib.hid H9.out.1
          clear H9 HJ1 HCl HRt hs1 hs2
          go_wp2_with fail
          refine (obx_merge Aa 6 ca ps (P.map some) _ HJ2.out.ra.rd HJ2.out.ba.bxs (by omega)).mono ?_; rintro en w10 ⟨r, hm, A10, n10, c10, rfl, r10, l10, f10, e10⟩
          obtain rfl := mgB_ok HPn.out HPb.out hm
          rw [HVP.out] at r10 l10
          have HJ3 := Lib.hid (HJ2.out.go e10)
          have HR10 := Lib.hid (r10.rd evC_len (by decide))
          have HRd3 := Lib.hid (HRd.out.ext e10)
          have hn10 : n10 ≤ 120 := by have : (isort V).length = n10 := l10; rw [isort_len] at this; omega
          clear hm r10 l10 f10 e10 HJ2 HRd
          go_wp2_with fail
          refine (obx_merge A9 6 c9 (ts.drop k0 ++ ts.take k0) ((P.map some).drop k0 ++ (P.map some).take k0) _ HRd3.out (HJ3.out.bt.turn (by have := HJ3.out.bt.len; omega)) (by omega)).mono ?_; rintro en w11 ⟨r, hm, A11, n11, c11, rfl, r11, l11, f11, e11⟩
          obtain rfl := turn_mg HPn.out HPb.out (by rw [HVP.out]; exact HV.out.1) hm
          rw [HVP.out] at r11 l11
          have HJ4 := Lib.hid (HJ3.out.go e11)
          have HR11 := Lib.hid (And.intro (HR10.out.ext e11) (r11.rd evC_len (by decide)))
          have hn11 : n11 ≤ 120 := by have : (isort V).length = n11 := l11; rw [isort_len] at this; omega
          clear hm r11 l11 f11 e11 HJ3 HR10 HRd3
          go_wp2_with fail
          refine (sort_ Ae ne ce V _ (HJ4.out.re.rd evC_len (by decide)) HJ4.out.re.2.1 (by omega) (fun x hx => (HV.out.2.2 x hx).1)).mono ?_; rw [sortF_ok HV.out.1]; rintro en w12 ⟨A12, n12, c12, rfl, r12, l12, f12, e12⟩
          have HJ5 := Lib.hid (HJ4.out.go e12)
          have HR12 := Lib.hid (And.intro (HR11.out.1.ext e12) (And.intro (HR11.out.2.ext e12) (r12.rd evC_len (by decide))))
          have hn12 : n12 ≤ 120 := by have : (isort V).length = n12 := l12; rw [isort_len] at this; omega
          clear r12 l12 f12 e12 HJ4 HR11
          go_wp2_with fail
          refine (sameE_ _ _ _ _ _ _ _ _ _ HR12.out.1 HR12.out.2.2 (by omega) (by omega)).mono ?_; rintro en w13 ⟨rfl, e13⟩
          rw [show decide (isort V = isort V) = true from decide_eq_true rfl]
          have HJ6 := Lib.hid (HJ5.out.go e13)
          have HR13 := Lib.hid (And.intro (HR12.out.2.1.ext e13) (HR12.out.2.2.ext e13))
          clear e13 HJ5 HR12
          go_wp2_with fail
          refine (sameE_ _ _ _ _ _ _ _ _ _ HR13.out.1 HR13.out.2 (by omega) (by omega)).mono ?_; rintro en w14 ⟨rfl, e14⟩
          rw [show decide (isort V = isort V) = true from decide_eq_true rfl]
          have HJ7 := Lib.hid (HJ6.out.go e14)
          clear e14 HJ6 HR13
          go_wp2_with fail
          go_loopw [29, 170] (fun vs vi wx => ∃ j t : Nat, j ≤ 6 ∧ vs = .int .i64 (t : Int) ∧ vi = .int .i64 (j : Int) ∧ Hid (t = (evF z e j).length ∧ OmJ w e F ps ts P ps Aa 6 ca ts At 6 ct V Ae ne ce wx)) (fun _ i _ => 6 - (intOf i).toNat)
          case atStart => exact ⟨0, 0, by omega, rfl, rfl, Lib.hid ⟨rfl, HJ7.out⟩⟩
          case round =>
            clear HJ7
            obtain ⟨j, t, hj, rfl, rfl, HJ⟩ := hrel
            have ht120 : t ≤ 120 := by have h1 := HJ.out.1; have h2 := (HEv.out j (by omega)).2.1; omega
            by_cases hjl : j < 6
            · have hjI : (j : Int) < (6 : Int) := by omega
              have hpl : ps.length = 6 := by have := HJ.out.2.ba.len; omega
              obtain ⟨g, s, evs, A, n, c, hp, hb, ho, _⟩ := HJ.out.2.ba.at_ j ps[j] (List.getElem?_eq_getElem (by omega))
              obtain ⟨ba, oa, rfl, _⟩ := HJ.out.2.ra.some_ (by have := HJ.out.2.ra.2.1; omega)
              have hc := HJ.out.2.ra.cellAt (k := j) (u := .pointer (some ⟨g, 0, none⟩)) (by rw [List.getElem?_map, List.getElem?_eq_getElem (by omega), hp]; rfl)
              have hnn : n = (ownF z e j).length := by
                rw [HPV.out.1] at hb
                unfold prF at hb
                rw [List.getElem?_map, List.getElem?_range (by omega)] at hb
                cases hb
                exact ho.len.symm
              have hn20 : n ≤ 20 := by have := (HOk.out j (by omega)).1; omega
              have htn : t + n = (evF z e (j + 1)).length := by rw [evF_succ, List.length_append, ← hnn, HJ.out.1]
              have HTn := Lib.hid htn
              have HO := Lib.hid ho
              clear hb hp ho hnn htn
              go_wp2_with fail
              refine (obx_len HO.out).mono ?_; rintro en w15 ⟨rfl, rfl⟩
              go_wp2_with fail
              go_roundw
              case rel => exact ⟨j + 1, t + n, by omega, by go_num, by go_num, Lib.hid ⟨HTn.out, HJ.out.2⟩⟩
              case measure => simp [intOf]; omega
            · obtain rfl : j = 6 := by omega
              have hjI : ¬ ((6 : Int) < (6 : Int)) := by omega
              have htn : t = ne := by have h1 := HJ.out.1; rw [← HPV.out.2] at h1; omega
              subst htn
              have HE := Lib.hid HJ.out.2.ext
              clear HJ
              go_wp2_with fail
              go_ret
              exact ⟨rfl, HE.out⟩
end Go.Proofs.Ytdjpggnadelnaaa
