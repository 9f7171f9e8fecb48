/- OutboxBack: the walk of the law: for any numbers it answers true and leaves all memory as it was (no condition). -/
import Derived.Test.YtdjpggnadelnaaaOfl
import Derived.Test.YtdjpggnadelnaaaOaw
namespace Go.Proofs.Ytdjpggnadelnaaa
open Go.RowKit Go.Fx
/-- Two outboxes, and a list beside them. -/
structure BkJ (B : Nat) (w0 : World) (e : Int) (A4 : Option Addr) (n4 c4 : Nat) (M : List Ev) (g1 : Nat) (ev1 : List Ev) (A n c : _) (g2 : Nat) (ev2 : List Ev) (A' : Option Addr) (n' c' : Nat) (W : World) : Prop where
  two : TwoB B W g1 5 256 e ev1 A n c g2 5 256 e ev2 A' n' c'
  m : RoomS 5 W A4 n4 c4 (M.flatMap evC)
  far : ∀ k, foot A4 c4 k → ¬ (k = g1 ∨ foot A c k) ∧ ¬ (k = g2 ∨ foot A' c' k)
  ext : Ext w0 W
section
variable {B : Nat} {w0 : World} {e : Int} {A4 : Option Addr} {n4 c4 : Nat} {M : List Ev} {g1 : Nat} {ev1 : List Ev} {A : Option Addr} {n c : Nat} {g2 : Nat} {ev2 : List Ev} {A' : Option Addr} {n' c' : Nat} {W W' : World}
theorem BkJ.swap (h : BkJ B w0 e A4 n4 c4 M g1 ev1 A n c g2 ev2 A' n' c' W) : BkJ B w0 e A4 n4 c4 M g2 ev2 A' n' c' g1 ev1 A n c W := ⟨h.two.swap, h.m, fun k hk => ⟨(h.far k hk).2, (h.far k hk).1⟩, h.ext⟩
theorem BkJ.go (h : BkJ B w0 e A4 n4 c4 M g1 ev1 A n c g2 ev2 A' n' c' W) (x : Ext W W') : BkJ B w0 e A4 n4 c4 M g1 ev1 A n c g2 ev2 A' n' c' W' := ⟨h.two.ext x, h.m.ext x, h.far, h.ext.t x⟩
theorem BkJ.turn (h : BkJ B w0 e A4 n4 c4 M g1 ev1 A n c g2 ev2 A' n' c' W) (hB : w0.heap.size ≤ B) {ev : List Ev} {A3 : Option Addr} {n3 c3 : Nat} (ho : Obx W' g1 5 256 e ev A3 n3 c3) (ch : Chg (fun k => k = g1 ∨ foot A c k) W W') (ft : ∀ k, foot A3 c3 k → foot A c k ∨ W.heap.size ≤ k) : BkJ B w0 e A4 n4 c4 M g1 ev A3 n3 c3 g2 ev2 A' n' c' W' := by
  refine ⟨h.two.turn ho ch ft, h.m.chg ch (fun k hk => (h.far k hk).1), fun k hk => ⟨fun hk2 => ?_, (h.far k hk).2⟩, h.two.low h.ext hB ch (fun _ => id)⟩
  rcases hk2 with hk2 | hk2
  · exact (h.far k hk).1 (.inl hk2)
  · rcases ft k hk2 with h1 | h1
    · exact (h.far k hk).1 (.inr h1)
    · have := h.m.lt hk; omega
end
/-- One event is put. -/
theorem put_one {w W : World} {g n c : Nat} {s lim e : Int} {evs : List Ev} {A : Option Addr} {x : Ev} {t : TypeId} (h : Obx w g s lim e evs A n c) (hx : EvOk x) (eW : Ext w W) {cs : Array Value} (hcs : cs = (evC x).toArray) {gg : Nat} (hg : gg = W.heap.size) :
    Calls Try.prog 13 #[.pointer (some ⟨g, 0, none⟩), .slice (some ⟨gg, 0, none⟩) 1 1] (W.alloc (.cells cs t)) fun en w' => ∃ A' n' c', en = .returned (.tuple #[.int .i64 (putF s lim e evs [x]).1, .int .i64 ((putF s lim e evs [x]).2.1 : Int)]) ∧ Obx w' g s lim e (putF s lim e evs [x]).2.2 A' n' c' ∧ Chg (fun k => k = g ∨ foot A c k) w w' ∧ (∀ k, foot A' c' k → foot A c k ∨ w.heap.size ≤ k) := by
  have eA := eW.t (Ext.alloc W (.cells cs t))
  refine (obx_put _ 1 1 [x] (h.ext eA) (rdS_one_at evC_len W t x hcs hg) (fun y hy => by obtain rfl : y = x := by simpa using hy
                                                                                         exact hx) (by omega)).mono ?_
  rintro en w' ⟨A', n', c', h1, h2, h3, h4⟩
  exact ⟨A', n', c', h1, h2, (Chg.ofExt eA).t h3, fun k hk => (h4 k hk).imp id (fun h5 => Nat.le_trans eA.size h5)⟩
set_option maxRecDepth 100000 in
set_option maxHeartbeats 8000000 in
theorem walkOutboxBack (e : Int) (A1 : Option Addr) (n1 c1 : Nat) (l : List Sb) (A2 : Option Addr) (n2 c2 : Nat) (more : List Sb) (a3 : Int) (w : World) (h0 : (Lit.int .u16 e).wf = true) (h1 : SbArg w A1 n1 c1 l) (h2 : SbArg w A2 n2 c2 more) (h3 : (Lit.int .u8 a3).wf = true) :
    Calls Try.prog 6 #[.int .u16 e, .slice A1 n1 c1, .slice A2 n2 c2, .int .u8 a3] w fun en w' => en = .returned (.bool true) ∧ Ext w w' := by
  have hb0 := bounds_u16 h0
  have hb3 := bounds_u8 h3
  obtain ⟨b, rfl⟩ : ∃ b : Nat, a3 = (b : Int) := ⟨a3.toNat, by omega⟩
  have hwe : IntKind.i64.wrap e = e := IntWalk.i64_in _ (by omega)
  have hwm : IntKind.i64.wrap (e - 1) = e - 1 := IntWalk.i64_in _ (by omega)
  have hwb : IntKind.i64.wrap (b : Int) = (b : Int) := IntWalk.i64_in _ (by omega)
  obtain ⟨L, hL⟩ : ∃ L, L = madeF 5 e 0 (l.take 40) := ⟨_, rfl⟩
  obtain ⟨M, hM⟩ : ∃ M, M = madeF 5 (e - 1) 0 (more.take 40) := ⟨_, rfl⟩
  have hLl : L.length ≤ 40 := by rw [hL, madeF_len, List.length_take]; omega
  have hMl : M.length ≤ 40 := by rw [hM, madeF_len, List.length_take]; omega
  have hLo : okP 5 e (-1) L = true := by rw [hL]; exact madeF_ok (by decide) (by decide) (by omega) (by omega) (by omega) _ _ _ (by omega) (by rw [List.length_take]; omega)
  have hLe : ∀ x ∈ L, EvOk x := by rw [hL]; exact madeF_evok (by decide) (by decide) (by omega) (by omega) _ _ (fun x hx => h1.ok x (List.mem_of_mem_take hx)) (by rw [List.length_take]; omega)
  have hMe : ∀ x ∈ M, EvOk x := by rw [hM]; exact madeF_evok (by decide) (by decide) (by omega) (by omega) _ _ (fun x hx => h2.ok x (List.mem_of_mem_take hx)) (by rw [List.length_take]; omega)
  have HM1 := Lib.hid (fun (W : World) (x : Ext w W) => made_ 5 e A1 n1 c1 l W (h1.ext x) (by decide) (by omega))
  have HM2 := Lib.hid (fun (W : World) (x : Ext w W) => made_ 5 (e - 1) A2 n2 c2 more W (h2.ext x) (by decide) (by omega))
  rw [← hL] at HM1
  rw [← hM] at HM2
  have hnew : newB 5 256 e = true := by unfold newB; rw [decide_eq_true_eq]; omega
  have HL := Lib.hid (And.intro hLo hLe)
  have HMe := Lib.hid hMe
  have HN := Lib.hid hnew
  clear h0 h1 h2 h3 hL hM hLo hLe hMe hnew
  go_enter Try.func6, Try.ntmps6
  go_wp2_with fail
  refine (awake_ w).mono ?_; rintro en w1 ⟨rfl, e1⟩
  have E1 := Lib.hid e1
  clear e1
  go_wp2_with fail
  refine (HM1.out _ E1.out).mono ?_; rintro en w2 ⟨A3, n3, c3, rfl, r3, q3, m3, e3⟩
  have hn3 : n3 ≤ 40 := by omega
  have R3 := Lib.hid r3
  have Q3 := Lib.hid q3
  have E2 := Lib.hid (E1.out.t e3)
  obtain ⟨k, hk⟩ : ∃ k, k = b % (n3 + 1) := ⟨_, rfl⟩
  have hkn : k ≤ n3 := by have := Nat.mod_lt b (show 0 < n3 + 1 by omega); omega
  have hne : ((n3 : Int) + 1 == 0) = false := by simp; omega
  have hne2 : ¬ ((n3 : Int) + 1 = 0) := by omega
  have hkI : (b : Int).tmod ((n3 : Int) + 1) = (k : Int) := by rw [hk]; exact (Int.ofNat_tmod b (n3 + 1)).symm
  have hkE : (b : Int) % ((n3 : Int) + 1) = (k : Int) := by rw [hk]; exact (Int.natCast_emod b (n3 + 1)).symm
  have hw1 : IntKind.i64.wrap ((n3 : Int) + 1) = (n3 : Int) + 1 := IntWalk.i64_in _ (by omega)
  have hwk : IntKind.i64.wrap (k : Int) = (k : Int) := IntWalk.i64_in _ (by omega)
  have hws : IntKind.i64.wrap ((n3 : Int) - (k : Int)) = (n3 : Int) - (k : Int) := IntWalk.i64_in _ (by omega)
  clear r3 q3 m3 e3 E1 HM1 hk
  go_wp2_with fail
  refine (filled_ 5 e A3 n3 c3 L _ HN.out (R3.out.rd evC_len (by decide)) HL.out.2 HL.out.1 (by omega)).mono ?_; rintro en w3 ⟨ga, Aa, na, ca, rfl, oa, lga, fa, e3⟩
  have hna : na = n3 := by have := oa.len; have := Q3.out; omega
  subst hna
  have HA := Lib.hid oa
  have HAl := Lib.hid (show ∀ q, (q = ga ∨ foot Aa ca q) → w2.heap.size ≤ q from fun q hq => hq.elim (fun h => by omega) (fa q))
  have E3 := Lib.hid e3
  have hsl := fun w' => ev_to (A := A3) (n := na) (c := c3) (hi := k) (li := (k : Int)) w' rfl (by have := R3.out.2.1; omega)
  clear oa lga fa e3
  go_wp2_with fail
  refine (filled_ 5 e A3 k c3 (L.take k) _ HN.out (((R3.out.rd evC_len (by decide)).ext E3.out).take hkn) (fun x hx => HL.out.2 x (List.mem_of_mem_take hx)) (okP_take HL.out.1 k) (by rw [List.length_take]; omega)).mono ?_; rintro en w4 ⟨gb, Ab, nb, cb, rfl, ob, lgb, fb, e4⟩
  have HT : Hid (TwoB w2.heap.size w4 ga 5 256 e L Aa na ca gb 5 256 e (L.take k) Ab nb cb) := Lib.hid ⟨HA.out.ext e4, ob, fun q h1 h2 => by
    have h3 := HA.out.lt h1
    rcases h2 with h2 | h2
    · omega
    · have := fb q h2; omega, HAl.out, fun q hq => by
    have h3 := E3.out.size
    rcases hq with hq | hq
    · omega
    · have := fb q hq; omega, (E3.out.t e4).size⟩
  have hnb : nb = k := by have := ob.len; rw [List.length_take] at this; have := Q3.out; omega
  subst hnb
  have E4 := Lib.hid ((E2.out.t E3.out).t e4)
  have HZ := Lib.hid E2.out.size
  clear ob lgb fb e4 HA HAl E3 E2 R3 hsl
  go_wp2_with fail
  refine (obx_back (nb : Int) HT.out.o1).mono ?_; rintro en w5 ⟨n', hn', o5, ch5, hx⟩
  obtain ⟨rfl, rfl⟩ : nb = n' ∧ en = .returned (.tuple #[.int .i64 ((na : Int) - (nb : Int)), .int .i64 0]) := by
    rcases hx with ⟨_, hz, hx⟩ | ⟨hx, _, _⟩
    · obtain rfl : nb = n' := by omega
      exact ⟨rfl, hx⟩
    · omega
  have HT5 := Lib.hid (HT.out.turn o5 (ch5.mono (fun _ _ h => .inl h)) (fun _ h => .inl h))
  have E5 := Lib.hid (HT.out.low E4.out HZ.out ch5 (fun _ h => .inl h))
  clear hn' o5 ch5 hx HT E4
  go_wp2_with fail
  refine (HM2.out _ E5.out).mono ?_; rintro en w6 ⟨A4, n4, c4, rfl, r4, q4, m4, e4⟩
  have HJ : Hid (BkJ w2.heap.size w e A4 n4 c4 M ga (L.take nb) Aa nb ca gb (L.take nb) Ab nb cb w6) := Lib.hid ⟨HT5.out.ext e4, r4, fun q hq => by
    have h1 := m4 q hq
    exact ⟨fun h2 => by have := HT5.out.o1.lt h2; omega, fun h2 => by have := HT5.out.o2.lt h2; omega⟩, E5.out.t e4⟩
  have hn4 : n4 ≤ 40 := by omega
  clear r4 q4 m4 e4 HT5 E5 HM2
  go_wp2_with fail
  go_loopw [80] (fun i wr => ∃ (j : Nat) (ev : List Ev) (A : Option Addr) (n c : Nat) (A' : Option Addr) (n' c' : Nat), j ≤ n4 ∧ i = .int .i64 (j : Int) ∧ Hid (BkJ w2.heap.size w e A4 n4 c4 M ga ev A n c gb ev A' n' c' wr)) (fun i _ => n4 - (intOf i).toNat)
  case atStart => exact ⟨0, L.take nb, Aa, nb, ca, Ab, nb, cb, by omega, rfl, HJ⟩
  case round =>
    clear HJ
    obtain ⟨j, ev, A, n, c, A', n', c', hj, rfl, HJ⟩ := hrel
    by_cases hlt : j < n4
    · have hltI : (j : Int) < (n4 : Int) := by omega
      obtain ⟨bm, om, x, rfl, _, hx, x0, x1, x2, x3, x4⟩ := (HJ.out.m.rd evC_len (by decide)).ev hlt
      have Hx := Lib.hid (HMe.out x (List.mem_of_getElem? hx))
      obtain ⟨pr, hpr⟩ : ∃ pr, pr = putF 5 256 e ev [x] := ⟨_, rfl⟩
      obtain ⟨ri, re, ev'⟩ := pr
      have Hpr := Lib.hid hpr
      obtain ⟨W8, hW8⟩ : ∃ W8, W8 = wr.alloc (.cells #[.int .i64 x.t, .int .i64 x.s, .int .i64 x.q, .int .i64 x.to, .int .i64 x.v] 35) := ⟨_, rfl⟩
      have hx8 : Ext wr W8 := by rw [hW8]; exact Ext.alloc _ _
      have hb8 : Blk W8 wr.heap.size 35 #[.int .i64 x.t, .int .i64 x.s, .int .i64 x.q, .int .i64 x.to, .int .i64 x.v] := by rw [hW8]; exact Blk.new _ _ _
      have hs8 : wr.heap.size + 1 = W8.heap.size := by rw [hW8]; exact (Array.size_push _).symm
      have HJ8 := Lib.hid (HJ.out.go hx8)
      have HB8 := Lib.hid (And.intro hb8 (And.intro hs8 (show ¬ (wr.heap.size = ga ∨ foot A c wr.heap.size) from fun h => by have := HJ.out.two.o1.lt h; omega)))
      have HW8 := Lib.hid hW8
      clear hx hpr hW8 hx8 hb8 hs8 HJ
      go_wp2_with fail
      rw [← HW8.out]
      refine (put_one HJ8.out.two.o1 Hx.out (Ext.refl _) rfl HB8.out.2.1).mono ?_; rw [← Hpr.out]; rintro en w7 ⟨A7, n7, c7, rfl, o7, ch7, ft7⟩
      have HJ7 := Lib.hid (HJ8.out.turn HZ.out o7 ch7 ft7)
      have hb7 := (HB8.out.1.chg ch7 HB8.out.2.2).cell
      have y0 := hb7 0
      have y1 := hb7 1
      have y2 := hb7 2
      have y3 := hb7 3
      have y4 := hb7 4
      simp only [List.getElem?_toArray, List.getElem?_cons_zero, List.getElem?_cons_succ] at y0 y1 y2 y3 y4
      clear hb7 o7 ch7 ft7 HJ8 HB8 HW8 x0 x1 x2 x3 x4
      go_wp2_with fail
      refine (put_one HJ7.out.two.o2 Hx.out (Ext.refl _) rfl rfl).mono ?_; rw [← Hpr.out]; rintro en w9 ⟨A9, n9, c9, rfl, o9, ch9, ft9⟩
      have HJ9 := Lib.hid (HJ7.out.swap.turn HZ.out o9 ch9 ft9).swap
      clear o9 ch9 ft9 HJ7 y0 y1 y2 y3 y4 Hpr Hx
      go_wp2_with fail
      go_roundw
      case rel => exact ⟨j + 1, ev', A7, n7, c7, A9, n9, c9, by omega, by go_num, HJ9⟩
      case measure => simp [intOf]; omega
    · obtain rfl : n4 = j := by omega
      have hltI : ¬ ((n4 : Int) < (n4 : Int)) := by omega
      obtain rfl : n = n' := by have h1 := HJ.out.two.o1.len; have h2 := HJ.out.two.o2.len; omega
      have hn := HJ.out.two.o1.n_le
      have HE := Lib.hid HJ.out.ext
      have HT := Lib.hid HJ.out.two
      clear HJ
      go_wp2_with fail
      refine (obx_len HT.out.o1).mono ?_; rintro en w10 ⟨rfl, rfl⟩
      go_wp2_with fail
      refine (obx_len HT.out.o2).mono ?_; rintro en w10 ⟨rfl, rfl⟩
      go_wp2_with fail
      refine (obx_events HT.out.o1).mono ?_; rintro en w11 ⟨B1, d1, rfl, r1, q1, e11⟩
      have R1 := Lib.hid r1
      have HT1 := Lib.hid (HT.out.ext e11)
      have HE1 := Lib.hid (HE.out.t e11)
      clear r1 q1 e11 HT HE
      go_wp2_with fail
      refine (obx_events HT1.out.o2).mono ?_; rintro en w12 ⟨B2, d2, rfl, r2, q2, e12⟩
      have R12 := Lib.hid (And.intro ((R1.out.ext e12).rd evC_len (by decide)) (r2.rd evC_len (by decide)))
      have HT2 := Lib.hid (HT1.out.ext e12)
      have HE2 := Lib.hid (HE1.out.t e12)
      clear r2 q2 e12 HT1 HE1 R1
      go_wp2_with fail
      refine (sameE_ _ _ _ _ _ _ _ _ _ R12.out.1 R12.out.2 (by omega) (by omega)).mono ?_; rintro en w13 ⟨rfl, e13⟩
      rw [show decide (ev = ev) = true from decide_eq_true rfl]
      have HT3 := Lib.hid (HT2.out.ext e13)
      have HE3 := Lib.hid (HE2.out.t e13)
      clear e13 HT2 HE2 R12
      go_wp2_with fail
      refine (obx_sorted HT3.out.o1).mono ?_; rintro en w14 ⟨B3, d3, rfl, r3, q3, e14⟩
      have R1 := Lib.hid r3
      have HT1 := Lib.hid (HT3.out.ext e14)
      have HE1 := Lib.hid (HE3.out.t e14)
      clear r3 q3 e14 HT3 HE3
      go_wp2_with fail
      refine (obx_sorted HT1.out.o2).mono ?_; rintro en w15 ⟨B4, d4, rfl, r4, q4, e15⟩
      have R12 := Lib.hid (And.intro ((R1.out.ext e15).rd evC_len (by decide)) (r4.rd evC_len (by decide)))
      have HT2 := Lib.hid (HT1.out.ext e15)
      have HE2 := Lib.hid (HE1.out.t e15)
      clear r4 q4 e15 HT1 HE1 R1
      go_wp2_with fail
      refine (sameE_ _ _ _ _ _ _ _ _ _ R12.out.1 R12.out.2 (by omega) (by omega)).mono ?_; rintro en w16 ⟨rfl, e16⟩
      rw [show decide (isort ev = isort ev) = true from decide_eq_true rfl]
      have HT3 := Lib.hid (HT2.out.ext e16)
      have HE3 := Lib.hid (HE2.out.t e16)
      clear e16 HT2 HE2 R12
      go_wp2_with fail
      refine (obx_len HT3.out.o1).mono ?_; rintro en w17 ⟨rfl, rfl⟩
      go_wp2_with fail
      refine (obx_clear HT3.out.o1).mono ?_; rintro en w18 ⟨rfl, o18, ch18⟩
      have HT4 := Lib.hid (HT3.out.turn o18 (ch18.mono (fun _ _ h => .inl h)) (fun _ h => .inl h))
      have HE4 := Lib.hid (HT3.out.low HE3.out HZ.out ch18 (fun _ h => .inl h))
      clear o18 ch18 HT3 HE3
      go_wp2_with fail
      refine (obx_len HT4.out.o1).mono ?_; rintro en w17 ⟨rfl, rfl⟩
      go_wp2_with fail
      refine (obx_room HT4.out.o1).mono ?_; rintro en w19 ⟨rfl, e19⟩
      have HT5 := Lib.hid (HT4.out.ext e19)
      have HE5 := Lib.hid (HE4.out.t e19)
      clear e19 HT4 HE4
      go_wp2_with fail
      refine (obx_len HT5.out.o2).mono ?_; rintro en w17 ⟨rfl, rfl⟩
      go_wp2_with fail
      go_ret
      exact ⟨rfl, HE5.out⟩
end Go.Proofs.Ytdjpggnadelnaaa
