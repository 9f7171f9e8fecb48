/- Obi: boxes yields the events of outboxes. -/
import Derived.Test.YtdjpggnadelnaaaObq
import Derived.Test.YtdjpggnadelnaaaMpi
namespace Go.Fx
open Go.RowKit
/-- The sources of outboxes. -/
def srcs (bs : List (Option (Int × List Ev))) : List Int := bs.filterMap (fun b => b.map Prod.fst)
def badB (bs : List (Option (Int × List Ev))) (o : Nat) : Nat := match bs[o]? with
  | some (some (s, _)) => if s ∈ srcs (bs.take o) then 294 else 0
  | _ => 1
def evB (bs : List (Option (Int × List Ev))) (o : Nat) : List Ev := match bs[o]? with
  | some (some (_, l)) => isort l
  | _ => []
def ptrv (p : Option Nat) : Value := .pointer (p.map (fun g => (⟨g, 0, none⟩ : Addr)))
theorem srcs_snoc {bs : List (Option (Int × List Ev))} {k : Nat} {s : Int} {l : List Ev} (h : bs[k]? = some (some (s, l))) : srcs (bs.take (k + 1)) = srcs (bs.take k) ++ [s] := by
  unfold srcs
  rw [take_snoc h, List.filterMap_append]
  rfl
end Go.Fx
namespace Go.Proofs.Ytdjpggnadelnaaa
open Go.RowKit Go.Fx
attribute [local go_sem] Oper.semAt_some
/-- Pointers to outboxes, and what these hold. -/
structure Bxs (w : World) (ps : List (Option Nat)) (bs : List (Option (Int × List Ev))) : Prop where
  len : ps.length = bs.length
  at_ : ∀ (i : Nat) (p : Option Nat), ps[i]? = some p → (p = none ∧ bs[i]? = some none) ∨ ∃ g s lim e evs A n c, p = some g ∧ bs[i]? = some (some (s, evs)) ∧ Obx w g s lim e evs A n c
theorem Bxs.ext {w w' : World} {ps : List (Option Nat)} {bs : List (Option (Int × List Ev))} (h : Bxs w ps bs) (e : Ext w w') : Bxs w' ps bs := ⟨h.len, fun i p hp => (h.at_ i p hp).imp id (fun ⟨g, s, lim, e', evs, A, n, c, h1, h2, h3⟩ => ⟨g, s, lim, e', evs, A, n, c, h1, h2, h3.ext e⟩)⟩
/-- What the loop over outboxes promises. -/
structure BxH (l : Nat) (bs : List (Option (Int × List Ev))) (J0 : World → Prop) (J : (Nat → Prop) → Nat → World → Prop) (X : World → Prop) : Prop where
  start : ∀ W W' T, J0 W → Ext W W' → (∀ k, T k → W.heap.size ≤ k ∧ k < W'.heap.size) → J T 0 W'
  ext : ∀ T o W W', J T o W → Ext W W' → J T o W'
  own : ∀ T o W W', J T o W → Chg T W W' → J T o W'
  yield : ∀ T o W1 W A n c, o < bs.length → J T o W1 → Ext W1 W → RoomS 5 W A n c ((evB bs o).flatMap evC) → (evB bs o).length = n → (∀ k, foot A c k → W1.heap.size ≤ k) → YieldAt Fence.wide 8 Try.prog l #[.slice A n c, .int .i64 (badB bs o : Int)] W (YlP T W (fun W' => badB bs o = 0 ∧ J T (o + 1) W') X)
theorem boxes_ (A : Option Addr) (n c : Nat) (w : World) :
    Calls Try.prog 34 #[.slice A n c] w fun e w' => e = .returned (.func (.func 53) #[] #[.pointer (some ⟨w.heap.size, 0, none⟩)]) ∧ w.alloc (.cells #[.slice A n c] 25) = w' := by
  go_enter Try.func34, Try.ntmps34
  go_wp2
  go_ret
  exact ⟨rfl, rfl⟩
/-- What the iterator holds ahead of the outbox k. -/
structure BiJ (bs : List (Option (Int × List Ev))) (mb : Nat) (J : (Nat → Prop) → Nat → World → Prop) (k : Nat) (W : World) : Prop where
  j : J (fun q => q = mb) k W
  mp : ∃ f, MapI W mb k f ∧ ∀ z, (f z).isSome = decide (z ∈ srcs (bs.take k))
set_option maxRecDepth 100000 in
set_option maxHeartbeats 2000000 in
theorem boxes1 (l Bx : Nat) (Al : Option Addr) (nl cl : Nat) (ps : List (Option Nat)) (bs : List (Option (Int × List Ev))) (w : World) (J0 : World → Prop) (J : (Nat → Prop) → Nat → World → Prop) (X : World → Prop)
    (h : Rd ptrv w Al nl ps) (hb : Bxs w ps bs) (hn : nl ≤ 1000) (hI : BxH l bs J0 J X)
    (hw : ∀ W, J0 W → Ext w W ∧ Blk W Bx 25 #[.slice Al nl cl]) (hJ : ∀ T o W, J T o W → Ext w W) (W : World) (h0 : J0 W) :
    Calls Try.prog 53 #[.func (.yield l) #[] #[], .pointer (some ⟨Bx, 0, none⟩)] W (IterP nl J X) := by
  obtain ⟨ew, hbx⟩ := hw W h0
  have hcb := (hbx.alloc (.map #[] 0)).cell0
  have hmk := @run_makeMap Try.prog
  have HI := Lib.hid hI
  have HJ := Lib.hid hJ
  have HR := Lib.hid h
  have HB := Lib.hid hb
  have Hlen := Lib.hid (show nl = bs.length by have := h.1; have := hb.len; omega)
  have HS : Hid (BiJ bs W.heap.size J 0 (W.alloc (.map #[] 0))) := Lib.hid ⟨hI.start _ _ _ h0 (Ext.alloc _ _) (fun k hk => by subst hk; exact ⟨Nat.le_refl _, by simp⟩), _, MapI.made W, fun z => by simp [srcs]⟩
  clear h hb hI hw hJ h0 hbx ew
  go_enter Try.func53, Try.ntmps53
  go_upto_region 1 with fail
  obtain ⟨mb, hmb⟩ : ∃ mb, mb = W.heap.size := ⟨_, rfl⟩
  rw [← hmb] at HS ⊢
  generalize W.alloc (.map #[] 0) = W0 at *
  clear hmb hmk
  go_wp2_with fail
  go_loopw [12] (fun i wr => ∃ k : Nat, k ≤ nl ∧ i = .int .i64 (k : Int) ∧ Hid (BiJ bs mb J k wr)) (fun i _ => nl - (intOf i).toNat)
  case atStart => exact ⟨0, by omega, rfl, HS⟩
  case round =>
    clear HS hcb
    obtain ⟨k, hk, rfl, HK⟩ := hrel
    by_cases hlt : k < nl
    · have hew := HJ.out _ _ _ HK.out.j
      obtain ⟨b, o, p, rfl, _, hp, hcp⟩ := (HR.out.ext hew).at_ hlt
      have hltI : (k : Int) < (nl : Int) := by omega
      have hlb : k < bs.length := by have := Hlen.out; omega
      have Hlb := Lib.hid hlb
      rcases HB.out.at_ k p hp with ⟨rfl, hbk⟩ | ⟨g, s, lim, e, evs, A, n, c, rfl, hbk, hO⟩
      · have HV := Lib.hid (show badB bs k = 1 by unfold badB; rw [hbk])
        have HL := Lib.hid (show evB bs k = [] by unfold evB; rw [hbk])
        have HNz := Lib.hid (show badB bs k ≠ 0 by rw [HV.out]; decide)
        unfold ptrv at hcp
        simp only [Option.map_none] at hcp
        clear hew hp hbk
        go_wp2_with fail
        refine (nil_none _).mono ?_; rintro en w1 ⟨rfl, rfl⟩
        go_upto_region 11 with fail
        refine (wpIn_wide (n := 9)).1 ?_
        gi_wp2
        refine ⟨trivial, callsIn_wide.2 ((nil_sorted _).mono ?_)⟩; rintro en w2 ⟨A2, c2, rfl, r2, f2, e2⟩
        have HY := Lib.hid (HI.out.yield _ _ _ w2 A2 0 c2 Hlb.out HK.out.j e2 (by rw [HL.out]; exact r2) (by rw [HL.out]; rfl) f2)
        rw [HV.out, show ((1 : Nat) : Int) = 1 from rfl] at HY
        obtain ⟨fn, tmps, assign, body, hy, hRn⟩ := HY.out
        have HRn := Lib.hid hRn
        clear r2 e2 f2 hcp hRn HY
        gi_wp2
        refine HRn.out.mono ?_
        rintro en W' (⟨rfl, ⟨hb0, _⟩, _⟩ | ⟨rfl, hX'⟩)
        · exact absurd hb0 (by decide)
        · have HX := Lib.hid hX'
          clear hX' hy
          gi_wp2
          go_wp2_with fail
          refine bodyPost_ret (results_none rfl _ _ _) rfl ?_
          exact ⟨⟨_, rfl⟩, .inr HX.out⟩
      · obtain ⟨f, hf, hfs⟩ := HK.out.mp
        have hnm := hO.ok.nums
        have HO := Lib.hid (fun W' (e : Ext w W') => hO.ext e)
        obtain ⟨o0, -, -, -⟩ := (hO.ext hew).cells
        have hlk := hf.look (k := s) (wf_i64 (by omega) (by omega))
        rw [hfs] at hlk
        have HEw := Lib.hid hew
        have HL := Lib.hid (show evB bs k = isort evs by unfold evB; rw [hbk])
        have hll : (isort evs).length = n := by rw [isort_len]; exact hO.len
        have HLl := Lib.hid hll
        have HNn := Lib.hid (obx_none (hO.ext hew))
        unfold ptrv at hcp
        simp only [Option.map_some] at hcp
        by_cases hin : s ∈ srcs (bs.take k)
        · rw [show decide (s ∈ srcs (bs.take k)) = true from decide_eq_true hin] at hlk
          have HV := Lib.hid (show badB bs k = 294 by unfold badB; rw [hbk]; simp only; rw [if_pos hin])
          have HNz := Lib.hid (show badB bs k ≠ 0 by rw [HV.out]; decide)
          have HSo := Lib.hid (obx_sorted (hO.ext hew))
          clear hew hp hbk hin hf hfs hO hnm hll
          go_wp2_with fail
          refine HNn.out.mono ?_; rintro en w1 ⟨rfl, rfl⟩
          go_upto_region 11 with fail
          refine (wpIn_wide (n := 9)).1 ?_
          gi_wp2
          refine ⟨trivial, callsIn_wide.2 (HSo.out.mono ?_)⟩; rintro en w2 ⟨A2, c2, rfl, r2, f2, e2⟩
          have HY := Lib.hid (HI.out.yield _ _ _ w2 A2 n c2 Hlb.out HK.out.j e2 (by rw [HL.out]; exact r2) (by rw [HL.out]; exact HLl.out) f2)
          rw [HV.out, show ((294 : Nat) : Int) = 294 from rfl] at HY
          obtain ⟨fn, tmps, assign, body, hy, hRn⟩ := HY.out
          have HRn := Lib.hid hRn
          clear r2 e2 f2 hcp hRn HY hlk o0
          gi_wp2
          refine HRn.out.mono ?_
          rintro en W' (⟨rfl, ⟨hb0, _⟩, _⟩ | ⟨rfl, hX'⟩)
          · exact absurd hb0 (by decide)
          · have HX := Lib.hid hX'
            clear hX' hy
            gi_wp2
            go_wp2_with fail
            refine bodyPost_ret (results_none rfl _ _ _) rfl ?_
            exact ⟨⟨_, rfl⟩, .inr HX.out⟩
        · rw [show decide (s ∈ srcs (bs.take k)) = false from decide_eq_false hin] at hlk
          have HV := Lib.hid (show badB bs k = 0 by unfold badB; rw [hbk]; simp only; rw [if_neg hin])
          obtain ⟨w4, hpu, hM4, ch4⟩ := hf.put (k := s) (i := (k : Int)) (wf_i64 (by omega) (by omega)) (by unfold maxLen; omega) (wf_i64 (by omega) (by omega))
          have HJ4 := Lib.hid (HI.out.own _ _ _ _ HK.out.j ch4)
          have HE4 := Lib.hid (HJ.out _ _ _ HJ4.out)
          have HSo := Lib.hid (obx_sorted (hO.ext HE4.out))
          have HM4 : Hid (∃ f, MapI w4 mb (k + 1) f ∧ ∀ z, (f z).isSome = decide (z ∈ srcs (bs.take (k + 1)))) := Lib.hid ⟨_, hM4, fun z => by
            rw [srcs_snoc hbk]
            by_cases hz : z = s
            · subst hz; simp
            · simp only [hz, if_false, hfs, List.mem_append, List.mem_singleton, or_false]⟩
          clear hew hp hbk hin hf hfs hO hnm hll hM4 ch4 HEw
          go_wp2_with fail
          refine HNn.out.mono ?_; rintro en w1 ⟨rfl, rfl⟩
          go_upto_region 11 with fail
          refine (wpIn_wide (n := 9)).1 ?_
          gi_wp2
          refine ⟨trivial, callsIn_wide.2 (HSo.out.mono ?_)⟩; rintro en w2 ⟨A2, c2, rfl, r2, f2, e2⟩
          have HY := Lib.hid (HI.out.yield _ _ _ w2 A2 n c2 Hlb.out HJ4.out e2 (by rw [HL.out]; exact r2) (by rw [HL.out]; exact HLl.out) f2)
          rw [HV.out, show ((0 : Nat) : Int) = 0 from rfl] at HY
          obtain ⟨fn, tmps, assign, body, hy, hRn⟩ := HY.out
          have HRn := Lib.hid hRn
          have HMm : Hid (∃ f, MapI w2 mb (k + 1) f ∧ ∀ z, (f z).isSome = decide (z ∈ srcs (bs.take (k + 1)))) := Lib.hid (by obtain ⟨f, h1, h2⟩ := HM4.out; exact ⟨f, h1.ext e2, h2⟩)
          clear r2 e2 f2 hcp hRn HY hlk o0 hpu
          gi_wp2
          refine HRn.out.mono ?_
          rintro en W' (⟨rfl, ⟨_, hJ'⟩, hT⟩ | ⟨rfl, hX'⟩)
          · have HB' : Hid (BiJ bs mb J (k + 1) W') := Lib.hid ⟨hJ', by obtain ⟨f, h1, h2⟩ := HMm.out; exact ⟨f, h1.same (hT _ rfl), h2⟩⟩
            clear hJ' hT hy HRn HMm
            gi_wp2
            go_wp2_with fail
            go_roundw
            case rel => exact ⟨k + 1, by omega, by go_num, HB'⟩
            case measure => simp [intOf]; omega
          · have HX := Lib.hid hX'
            clear hX' hy
            gi_wp2
            go_wp2_with fail
            refine bodyPost_ret (results_none rfl _ _ _) rfl ?_
            exact ⟨⟨_, rfl⟩, .inr HX.out⟩
    · obtain rfl : nl = k := by omega
      have HJ' := Lib.hid HK.out.j
      go_wp2_with fail
      try refine bodyPost_ret (results_none rfl _ _ _) rfl ?_
      exact ⟨⟨_, rfl⟩, .inl ⟨_, HJ'.out⟩⟩
end Go.Proofs.Ytdjpggnadelnaaa
