/- Ctl: the law's tells: for any Op and program it answers true and leaves all memory as it was. -/
import Derived.Test.YtiakcehhegippaaCrw
import Derived.Test.YtiakcehhegippaaCov
import Derived.Test.YtiakcehhegippaaCie
import Derived.Test.YtiakcehhegippaaCme
import Derived.Test.YtiakcehhegippaaKbs
import Derived.Deep.CutRange
namespace Go.Proofs.Ytiakcehhegippaa
open Go.RowKit Go.Fx
theorem RdS.low {s : Nat} {f : Ins → List Value} {w : World} {A : Option Addr} {n : Nat} {p : List Ins} (h : RdS s f w A n p) : ∀ k o, A = some ⟨k, o, none⟩ → 0 < n → k < w.heap.size := fun k o e hn => by
  obtain ⟨b, o', e', h1, _⟩ := h.2 hn
  rw [e] at e'; cases e'; exact h1
theorem Rd.low {w : World} {A : Option Addr} {n : Nat} {xs : List Nat} (h : Rd u8v w A n xs) : ∀ k o, A = some ⟨k, o, none⟩ → 0 < n → k < w.heap.size := fun k o e hn => by
  obtain ⟨b, o', e', h1, _⟩ := h.2 hn
  rw [e] at e'; cases e'; exact h1
/-- The two copies of an instruction. -/
structure TlB (w : World) (X1 X2 : Nat) (i : Ins) (W : World) : Prop where
  b1 : Blk W X1 38 (insC i).toArray
  b2 : Blk W X2 78 (insC i).toArray
  e : Ext w W
theorem TlB.ext {w W W' : World} {X1 X2 : Nat} {i : Ins} (h : TlB w X1 X2 i W) (x : Ext W W') : TlB w X1 X2 i W' := ⟨h.b1.ext x, h.b2.ext x, h.e.t x⟩
theorem writeF_len (p : List Ins) : (writeF p).1.length ≤ 3072 := by
  unfold writeF
  split
  · next h0 =>
    have hlen : p.length ≤ 256 := by
      rcases Nat.lt_or_ge 256 p.length with h1 | h1
      · unfold checkF at h0
        rw [if_neg (by omega), if_pos h1] at h0
        cases h0
      · exact h1
    have := flat_len_le p
    show (p.flatMap wbF).length ≤ _
    omega
  · simp
set_option maxRecDepth 100000 in
set_option maxHeartbeats 4000000 in
theorem tells_ (op : Nat) (A : Option Addr) (n c : Nat) (p : List Ins) (w : World) (h : RdS 5 insC w A n p) (hc : n ≤ c) (_hcm : c ≤ maxLen) :
    Calls Try.prog 24 #[.int .u8 (op : Int), .slice A n c] w fun e w' => e = .returned (.bool true) ∧ Ext w w' := by
  by_cases h300 : n ≤ 300
  · have h300I : ¬ (300 : Int) < (n : Int) := by omega
    have HF := Lib.hid (fun w' => form_ op w')
    unfold FormP at HF
    have HRF := Lib.hid (fun w' => rform_ op w')
    unfold FormP at HRF
    generalize okOp op = ok at *
    generalize strOf op = so at *
    have H := Lib.hid h
    have HKm : Hid (∀ M, M ≤ n → ∃ q, RdS 5 insC w A M q) := Lib.hid (fun M hM => ⟨p.take M, by rw [List.length_take, h.1]; omega, fun hM0 => by
      obtain ⟨b, o, e, h1, h2⟩ := h.2 (by omega)
      exact ⟨b, o, e, h1, fun k x hx => h2 k x (by rw [List.getElem?_take] at hx; split at hx; exact hx; cases hx)⟩⟩)
    clear h
    by_cases h60 : n ≤ 60
    · have h60I : (n : Int) ≤ 60 := by omega
      go_enter Try.func24, Try.ntmps24
      go_wp2_with fail
      refine (HF.out _).mono ?_; rintro e w1 ⟨rfl, e1⟩
      have E1 := Lib.hid e1
      clear e1
      go_wp2_with fail
      refine (HRF.out _).mono ?_; rintro e w2 ⟨rfl, e2⟩
      have E2 := Lib.hid (E1.out.t e2)
      clear e2 E1 HF HRF
      go_wp2_with fail
      have hMn : n ≤ n := Nat.le_refl _
      go_loopw [59] (fun v wr => ∃ (k : Nat), k ≤ n ∧ v = .int .i64 (k : Int) ∧ Hid (Ext w wr)) (fun v _ => n - (intOf v).toNat)
      case atStart => exact ⟨0, Nat.zero_le _, rfl, E2⟩
      case round =>
        clear E2
        obtain ⟨k, hk, rfl, HE⟩ := hrel
        by_cases hlt : k < n
        · have hltI : (k : Int) < (n : Int) := by omega
          obtain ⟨q, hq⟩ := HKm.out n hMn
          obtain ⟨b, o, i, rfl, _, _, c0, c1, c2, c3, c4⟩ := (hq.ext HE.out).ins hlt
          have HT := Lib.hid (fun w' => target_ i w')
          have HRT := Lib.hid (fun w' => rtarget_ i w')
          unfold TgtP insV at HT HRT
          have HS := Lib.hid (fun w' => sizeOf_ i w')
          have HRS := Lib.hid (fun w' => rsizeOf_ i w')
          unfold SizeP insV at HS HRS
          have HO := Lib.hid (fun w' => one_ i w')
          unfold OneP insV at HO
          have HRO := Lib.hid (fun w' => rone_ i w')
          unfold ROneP insV at HRO
          have HG := Lib.hid (fun w' => goes_ i w')
          have HRG := Lib.hid (fun w' => rgoes_ i w')
          unfold BoolP insV at HG HRG
          generalize (if tgtF i then i.n else 0 : Int) = tn at *
          generalize tgtF i = tb at *
          generalize (if oneF i = 0 then (szOp i.op : Int) else 0 : Int) = sn at *
          generalize oneF i = er at *
          generalize goesF i = gb at *
          clear hq
          go_upto_region 11 with fail
          obtain ⟨W, hW⟩ : ∃ W, W = (wr.alloc (.cells #[.int .u8 (i.op : Int), .int .u8 (i.a : Int), .int .u8 (i.b : Int), .int .u8 (i.c : Int), .int .i64 i.n] 38)).alloc (.cells #[.int .u8 (i.op : Int), .int .u8 (i.a : Int), .int .u8 (i.b : Int), .int .u8 (i.c : Int), .int .i64 i.n] 78) := ⟨_, rfl⟩
          obtain ⟨X2, hX2⟩ : ∃ X, X = wr.heap.size + 1 := ⟨_, rfl⟩
          obtain ⟨X1, hX1⟩ : ∃ X, X = wr.heap.size := ⟨_, rfl⟩
          have HB : Hid (TlB w X1 X2 i W) := Lib.hid (by
            rw [hW, hX1, hX2]
            refine ⟨(Blk.new wr 38 (insC i).toArray).alloc _, ?_, HE.out.t ((Ext.alloc wr _).t (Ext.alloc _ _))⟩
            have h2 := Blk.new (wr.alloc (.cells #[.int .u8 (i.op : Int), .int .u8 (i.a : Int), .int .u8 (i.b : Int), .int .u8 (i.c : Int), .int .i64 i.n] 38)) 78 (insC i).toArray
            rw [World.size_alloc] at h2
            exact h2)
          rw [← hW]
          rw [← hX2]
          rw [← hX1]
          clear hW hX1 hX2 c0 c1 c2 c3 c4 HE
          obtain ⟨d0, d1, d2, d3, d4⟩ := HB.out.b1.ins
          go_wp2_with fail
          refine (HT.out _).mono ?_; rintro e wa ⟨rfl, ewa⟩
          have Bwa := Lib.hid (HB.out.ext ewa)
          clear ewa HB HT d0 d1 d2 d3 d4
          obtain ⟨d0, d1, d2, d3, d4⟩ := Bwa.out.b2.ins
          go_wp2_with fail
          refine (HRT.out _).mono ?_; rintro e wb ⟨rfl, ewb⟩
          have Bwb := Lib.hid (Bwa.out.ext ewb)
          clear ewb Bwa HRT d0 d1 d2 d3 d4
          obtain ⟨d0, d1, d2, d3, d4⟩ := Bwb.out.b1.ins
          go_wp2_with fail
          refine (HS.out _).mono ?_; rintro e wc ⟨rfl, ewc⟩
          have Bwc := Lib.hid (Bwb.out.ext ewc)
          clear ewc Bwb HS d0 d1 d2 d3 d4
          obtain ⟨d0, d1, d2, d3, d4⟩ := Bwc.out.b2.ins
          go_wp2_with fail
          refine (HRS.out _).mono ?_; rintro e wd ⟨rfl, ewd⟩
          have Bwd := Lib.hid (Bwc.out.ext ewd)
          clear ewd Bwc HRS d0 d1 d2 d3 d4
          have HSS : Hid (∀ w', Ext wd w' → w'.cell? ⟨X1, 0, none⟩ = some (.int .u8 (i.op : Int)) ∧ w'.cell? ⟨X1, 1, none⟩ = some (.int .u8 (i.a : Int)) ∧ w'.cell? ⟨X1, 2, none⟩ = some (.int .u8 (i.b : Int)) ∧ w'.cell? ⟨X1, 3, none⟩ = some (.int .u8 (i.c : Int)) ∧ w'.cell? ⟨X1, 4, none⟩ = some (.int .i64 i.n) ∧ w'.cell? ⟨X2, 0, none⟩ = some (.int .u8 (i.op : Int)) ∧ w'.cell? ⟨X2, 1, none⟩ = some (.int .u8 (i.a : Int)) ∧ w'.cell? ⟨X2, 2, none⟩ = some (.int .u8 (i.b : Int)) ∧ w'.cell? ⟨X2, 3, none⟩ = some (.int .u8 (i.c : Int)) ∧ w'.cell? ⟨X2, 4, none⟩ = some (.int .i64 i.n)) := Lib.hid (fun w' e => by
            obtain ⟨a0, a1, a2, a3, a4⟩ := (Bwd.out.ext e).b1.ins
            obtain ⟨b0, b1, b2, b3, b4⟩ := (Bwd.out.ext e).b2.ins
            exact ⟨a0, a1, a2, a3, a4, b0, b1, b2, b3, b4⟩)
          go_upto_region 15 with fail
          go_cut [115] from 84 to 115 (fun v wx => v = .bool false ∧ Ext wd wx)
          case first =>
            first
            | (go_region_held_law (fun w' => w'.cell? ⟨X1, 0, none⟩ = some (.int .u8 (i.op : Int)) ∧ w'.cell? ⟨X1, 1, none⟩ = some (.int .u8 (i.a : Int)) ∧ w'.cell? ⟨X1, 2, none⟩ = some (.int .u8 (i.b : Int)) ∧ w'.cell? ⟨X1, 3, none⟩ = some (.int .u8 (i.c : Int)) ∧ w'.cell? ⟨X1, 4, none⟩ = some (.int .i64 i.n) ∧ w'.cell? ⟨X2, 0, none⟩ = some (.int .u8 (i.op : Int)) ∧ w'.cell? ⟨X2, 1, none⟩ = some (.int .u8 (i.a : Int)) ∧ w'.cell? ⟨X2, 2, none⟩ = some (.int .u8 (i.b : Int)) ∧ w'.cell? ⟨X2, 3, none⟩ = some (.int .u8 (i.c : Int)) ∧ w'.cell? ⟨X2, 4, none⟩ = some (.int .i64 i.n))
                (first | assumption | exact HSS.out _ (Ext.drew _) | exact HSS.out _ ((Ext.drew _).t ef) | exact HSS.out _ (((Ext.drew _).t ef).t eg) | exact HSS.out _ ((((Ext.drew _).t ef).t eg).t eh) | exact HSS.out _ (((((Ext.drew _).t ef).t eg).t eh).t ei))
                (first
                  | (go_at_call 19; refine (HO.out _).mono ?_; rintro e wf ⟨rfl, ef⟩)
                  | (go_at_call 41; refine (HRO.out _).mono ?_; rintro e wg ⟨rfl, eg⟩)
                  | (go_at_call 20; refine (HG.out _).mono ?_; rintro e wh ⟨rfl, eh⟩)
                  | (go_at_call 42; refine (HRG.out _).mono ?_; rintro e wi ⟨rfl, ei⟩)))
            | fail
            all_goals go_wp2_with fail
            all_goals go_simp
            all_goals go_meet
            all_goals exact ⟨rfl, ((((Ext.drew _).t ef).t eg).t eh).t ei⟩
          case rest =>
            obtain ⟨rfl, ex⟩ := hcut
            have HFin : Hid (Ext w wc) := Lib.hid (Bwd.out.e.t ex)
            clear ex Bwd HSS HO HRO HG HRG
            go_wp2_with fail
            go_roundw
            case rel => exact ⟨k + 1, by omega, by go_num, HFin⟩
            case measure => simp [intOf]; omega
        · clear HKm
          have H1 := Lib.hid (H.out.ext HE.out)
          have HC1 := Lib.hid (clone_ A n c insC_len insC_one p wr H1.out (by omega))
          unfold ClnP at HC1
          have hkI : ¬ (k : Int) < (n : Int) := by omega
          go_wp2_with fail
          refine HC1.out.mono ?_; rintro e w3 ⟨A3, c3, rfl, r3, e3, ft3⟩
          have E3 := Lib.hid (HE.out.t e3)
          have R3 := Lib.hid (r3.rd insC_len (by decide))
          have HX := Lib.hid (theirs_ A n c p w3 (H.out.ext E3.out) (by omega))
          clear r3 e3 ft3 HE H1 HC1
          go_wp2_with fail
          refine HX.out.mono ?_; rintro e w4 ⟨A4, n4, c4, rfl, x4⟩
          have E4 := Lib.hid (E3.out.t x4.ext)
          have R4 := Lib.hid (R3.out.ext x4.ext)
          have X4 := Lib.hid x4.rd
          have HC := Lib.hid (check_ A3 n c3 p w4 R4.out)
          have HRC := Lib.hid (fun w' (e : Ext w4 w') => rcheck_ A4 n4 c4 p w' (X4.out.ext e))
          unfold CheckP at HC HRC
          generalize (checkF p).1 = ck at *
          generalize (checkF p).2 = ce at *
          clear x4 E3 R3 HX
          go_wp2_with fail
          refine HC.out.mono ?_; rintro e w5 ⟨rfl, e5⟩
          have E5 := Lib.hid e5
          clear e5 HC
          go_wp2_with fail
          refine (HRC.out _ E5.out).mono ?_; rintro e w6 ⟨rfl, e6⟩
          have E6 := Lib.hid (E5.out.t e6)
          have R6 := Lib.hid (R4.out.ext E6.out)
          have HW := Lib.hid (write_ A3 n c3 p w6 R6.out)
          unfold WriteP at HW
          clear e6 E5 HRC
          go_wp2_with fail
          refine HW.out.mono ?_; rintro e w7 ⟨A7, n7, c7, rfl, n7_⟩
          have N7 := Lib.hid n7_
          have X7 := Lib.hid (X4.out.ext (E6.out.t n7_.ext))
          have HRW := Lib.hid (rwrite_ A4 n4 c4 p w7 X7.out)
          unfold WriteP at HRW
          clear n7_ HW
          go_wp2_with fail
          refine HRW.out.mono ?_; rintro e w8 ⟨A8, n8, c8, rfl, n8_⟩
          have N8 := Lib.hid n8_
          have N78 := Lib.hid (N7.out.exte n8_.ext)
          have hn7 : n7 ≤ 10000 := by
            rw [N7.out.n_]
            exact Nat.le_trans (writeF_len p) (by decide)
          have hn8 : n8 ≤ 10000 := by
            rw [N8.out.n_]
            exact Nat.le_trans (writeF_len p) (by decide)
          have HSB := Lib.hid (sameBytes A7 A8 n7 n8 c7 c8 (writeF p).1 (writeF p).1 w8 N78.out.room.rd N8.out.room.rd (by unfold maxLen; omega) (by unfold maxLen; omega))
          rw [show decide ((writeF p).1 = (writeF p).1) = true by simp] at HSB
          clear n8_ HRW X7
          go_wp2_with fail
          refine HSB.out.mono ?_; rintro e w9 ⟨rfl, e9⟩
          have N79 := Lib.hid (N78.out.exte e9)
          have N89 := Lib.hid (N8.out.exte e9)
          have R9 := Lib.hid (R6.out.ext N79.out.ext)
          have E9 := Lib.hid (E4.out.t (E6.out.t N79.out.ext))
          have HOV := Lib.hid (overBytes A7 n7 c7 _ w9 N79.out.room (by omega))
          clear e9 HSB
          go_wp2_with fail
          refine HOV.out.mono ?_; rintro e w10 ⟨rfl, ch10⟩
          have R10 := Lib.hid (R9.out.chg ch10 (fun k o e hn hk => by
            have h1 := N79.out.ft k hk
            have h2 := RdS.low R6.out k o e hn
            omega))
          have B10 := Lib.hid (N89.out.room.rd.chg ch10 (fun k o e hn hk => by
            have h1 := N7.out.room.lt hk
            have h2 := N89.out.ft k ⟨by have := N89.out.room.2.1; omega, o, e⟩
            omega))
          have E10 : Hid (Ext w w10) := Lib.hid (E9.out.trans (ch10.below (B := w.heap.size) E9.out.size (fun k hk hf => by
            have h1 := N79.out.ft k hf
            have := E4.out.size
            have := E6.out.size
            omega)))
          have HW2 := Lib.hid (write_ A3 n c3 p w10 R10.out)
          unfold WriteP at HW2
          clear ch10 HOV
          go_wp2_with fail
          refine HW2.out.mono ?_; rintro e w11 ⟨A11, n11, c11, rfl, n11_⟩
          have N11 := Lib.hid n11_
          have hn11 : n11 ≤ 10000 := by
            rw [N11.out.n_]
            exact Nat.le_trans (writeF_len p) (by decide)
          have HSB2 := Lib.hid (sameBytes A11 A8 n11 n8 c11 c8 (writeF p).1 (writeF p).1 w11 N11.out.room.rd (B10.out.ext N11.out.ext) (by unfold maxLen; omega) (by unfold maxLen; omega))
          rw [show decide ((writeF p).1 = (writeF p).1) = true by simp] at HSB2
          clear n11_ HW2
          go_wp2_with fail
          refine HSB2.out.mono ?_; rintro e w12 ⟨rfl, e12⟩
          have E12 := Lib.hid (E10.out.t (N11.out.ext.t e12))
          have HEQ := Lib.hid (equalI A3 A n n c3 c p p w12 (R10.out.ext (N11.out.ext.t e12)) (H.out.ext E12.out) (by omega) (by omega))
          rw [show decide (p = p) = true by simp] at HEQ
          clear e12 HSB2
          go_wp2_with fail
          refine HEQ.out.mono ?_; rintro e w13 ⟨rfl, e13⟩
          have E13 := Lib.hid (E12.out.t e13)
          clear e13
          go_wp2_with fail
          go_ret
          exact ⟨rfl, E13.out⟩
    · have h60I : ¬ (n : Int) ≤ 60 := by omega
      have h60J : (60 : Int) ≤ (n : Int) := by omega
      obtain ⟨m, hm⟩ : ∃ m : Nat, m = 60 := ⟨_, rfl⟩
      have Hs60 : Hid (Value.slice A 60 c = Value.slice A m c) := Lib.hid (by rw [hm])
      have Hi60 : Hid (Value.int .i64 (max 60 0) = Value.int .i64 (m : Int)) := Lib.hid (by rw [hm]; rfl)
      have Hj60 : Hid (Value.int .i64 60 = Value.int .i64 (m : Int)) := Lib.hid (by rw [hm]; rfl)
      have hMn : m ≤ n := by omega
      clear hm
      go_enter Try.func24, Try.ntmps24
      go_wp2_with fail
      refine (HF.out _).mono ?_; rintro e w1 ⟨rfl, e1⟩
      have E1 := Lib.hid e1
      clear e1
      go_wp2_with fail
      refine (HRF.out _).mono ?_; rintro e w2 ⟨rfl, e2⟩
      have E2 := Lib.hid (E1.out.t e2)
      clear e2 E1 HF HRF
      go_wp2_with fail
      rw [Hs60.out]
      first | rw [Hi60.out] | rw [Hj60.out]
      clear Hs60 Hi60 Hj60
      go_loopw [59] (fun v wr => ∃ (k : Nat), k ≤ m ∧ v = .int .i64 (k : Int) ∧ Hid (Ext w wr)) (fun v _ => m - (intOf v).toNat)
      case atStart => exact ⟨0, Nat.zero_le _, rfl, E2⟩
      case round =>
        clear E2
        obtain ⟨k, hk, rfl, HE⟩ := hrel
        by_cases hlt : k < m
        · have hltI : (k : Int) < (m : Int) := by omega
          obtain ⟨q, hq⟩ := HKm.out m hMn
          obtain ⟨b, o, i, rfl, _, _, c0, c1, c2, c3, c4⟩ := (hq.ext HE.out).ins hlt
          have HT := Lib.hid (fun w' => target_ i w')
          have HRT := Lib.hid (fun w' => rtarget_ i w')
          unfold TgtP insV at HT HRT
          have HS := Lib.hid (fun w' => sizeOf_ i w')
          have HRS := Lib.hid (fun w' => rsizeOf_ i w')
          unfold SizeP insV at HS HRS
          have HO := Lib.hid (fun w' => one_ i w')
          unfold OneP insV at HO
          have HRO := Lib.hid (fun w' => rone_ i w')
          unfold ROneP insV at HRO
          have HG := Lib.hid (fun w' => goes_ i w')
          have HRG := Lib.hid (fun w' => rgoes_ i w')
          unfold BoolP insV at HG HRG
          generalize (if tgtF i then i.n else 0 : Int) = tn at *
          generalize tgtF i = tb at *
          generalize (if oneF i = 0 then (szOp i.op : Int) else 0 : Int) = sn at *
          generalize oneF i = er at *
          generalize goesF i = gb at *
          clear hq
          go_upto_region 11 with fail
          obtain ⟨W, hW⟩ : ∃ W, W = (wr.alloc (.cells #[.int .u8 (i.op : Int), .int .u8 (i.a : Int), .int .u8 (i.b : Int), .int .u8 (i.c : Int), .int .i64 i.n] 38)).alloc (.cells #[.int .u8 (i.op : Int), .int .u8 (i.a : Int), .int .u8 (i.b : Int), .int .u8 (i.c : Int), .int .i64 i.n] 78) := ⟨_, rfl⟩
          obtain ⟨X2, hX2⟩ : ∃ X, X = wr.heap.size + 1 := ⟨_, rfl⟩
          obtain ⟨X1, hX1⟩ : ∃ X, X = wr.heap.size := ⟨_, rfl⟩
          have HB : Hid (TlB w X1 X2 i W) := Lib.hid (by
            rw [hW, hX1, hX2]
            refine ⟨(Blk.new wr 38 (insC i).toArray).alloc _, ?_, HE.out.t ((Ext.alloc wr _).t (Ext.alloc _ _))⟩
            have h2 := Blk.new (wr.alloc (.cells #[.int .u8 (i.op : Int), .int .u8 (i.a : Int), .int .u8 (i.b : Int), .int .u8 (i.c : Int), .int .i64 i.n] 38)) 78 (insC i).toArray
            rw [World.size_alloc] at h2
            exact h2)
          rw [← hW]
          rw [← hX2]
          rw [← hX1]
          clear hW hX1 hX2 c0 c1 c2 c3 c4 HE
          obtain ⟨d0, d1, d2, d3, d4⟩ := HB.out.b1.ins
          go_wp2_with fail
          refine (HT.out _).mono ?_; rintro e wa ⟨rfl, ewa⟩
          have Bwa := Lib.hid (HB.out.ext ewa)
          clear ewa HB HT d0 d1 d2 d3 d4
          obtain ⟨d0, d1, d2, d3, d4⟩ := Bwa.out.b2.ins
          go_wp2_with fail
          refine (HRT.out _).mono ?_; rintro e wb ⟨rfl, ewb⟩
          have Bwb := Lib.hid (Bwa.out.ext ewb)
          clear ewb Bwa HRT d0 d1 d2 d3 d4
          obtain ⟨d0, d1, d2, d3, d4⟩ := Bwb.out.b1.ins
          go_wp2_with fail
          refine (HS.out _).mono ?_; rintro e wc ⟨rfl, ewc⟩
          have Bwc := Lib.hid (Bwb.out.ext ewc)
          clear ewc Bwb HS d0 d1 d2 d3 d4
          obtain ⟨d0, d1, d2, d3, d4⟩ := Bwc.out.b2.ins
          go_wp2_with fail
          refine (HRS.out _).mono ?_; rintro e wd ⟨rfl, ewd⟩
          have Bwd := Lib.hid (Bwc.out.ext ewd)
          clear ewd Bwc HRS d0 d1 d2 d3 d4
          have HSS : Hid (∀ w', Ext wd w' → w'.cell? ⟨X1, 0, none⟩ = some (.int .u8 (i.op : Int)) ∧ w'.cell? ⟨X1, 1, none⟩ = some (.int .u8 (i.a : Int)) ∧ w'.cell? ⟨X1, 2, none⟩ = some (.int .u8 (i.b : Int)) ∧ w'.cell? ⟨X1, 3, none⟩ = some (.int .u8 (i.c : Int)) ∧ w'.cell? ⟨X1, 4, none⟩ = some (.int .i64 i.n) ∧ w'.cell? ⟨X2, 0, none⟩ = some (.int .u8 (i.op : Int)) ∧ w'.cell? ⟨X2, 1, none⟩ = some (.int .u8 (i.a : Int)) ∧ w'.cell? ⟨X2, 2, none⟩ = some (.int .u8 (i.b : Int)) ∧ w'.cell? ⟨X2, 3, none⟩ = some (.int .u8 (i.c : Int)) ∧ w'.cell? ⟨X2, 4, none⟩ = some (.int .i64 i.n)) := Lib.hid (fun w' e => by
            obtain ⟨a0, a1, a2, a3, a4⟩ := (Bwd.out.ext e).b1.ins
            obtain ⟨b0, b1, b2, b3, b4⟩ := (Bwd.out.ext e).b2.ins
            exact ⟨a0, a1, a2, a3, a4, b0, b1, b2, b3, b4⟩)
          go_upto_region 15 with fail
          go_cut [115] from 84 to 115 (fun v wx => v = .bool false ∧ Ext wd wx)
          case first =>
            first
            | (go_region_held_law (fun w' => w'.cell? ⟨X1, 0, none⟩ = some (.int .u8 (i.op : Int)) ∧ w'.cell? ⟨X1, 1, none⟩ = some (.int .u8 (i.a : Int)) ∧ w'.cell? ⟨X1, 2, none⟩ = some (.int .u8 (i.b : Int)) ∧ w'.cell? ⟨X1, 3, none⟩ = some (.int .u8 (i.c : Int)) ∧ w'.cell? ⟨X1, 4, none⟩ = some (.int .i64 i.n) ∧ w'.cell? ⟨X2, 0, none⟩ = some (.int .u8 (i.op : Int)) ∧ w'.cell? ⟨X2, 1, none⟩ = some (.int .u8 (i.a : Int)) ∧ w'.cell? ⟨X2, 2, none⟩ = some (.int .u8 (i.b : Int)) ∧ w'.cell? ⟨X2, 3, none⟩ = some (.int .u8 (i.c : Int)) ∧ w'.cell? ⟨X2, 4, none⟩ = some (.int .i64 i.n))
                (first | assumption | exact HSS.out _ (Ext.drew _) | exact HSS.out _ ((Ext.drew _).t ef) | exact HSS.out _ (((Ext.drew _).t ef).t eg) | exact HSS.out _ ((((Ext.drew _).t ef).t eg).t eh) | exact HSS.out _ (((((Ext.drew _).t ef).t eg).t eh).t ei))
                (first
                  | (go_at_call 19; refine (HO.out _).mono ?_; rintro e wf ⟨rfl, ef⟩)
                  | (go_at_call 41; refine (HRO.out _).mono ?_; rintro e wg ⟨rfl, eg⟩)
                  | (go_at_call 20; refine (HG.out _).mono ?_; rintro e wh ⟨rfl, eh⟩)
                  | (go_at_call 42; refine (HRG.out _).mono ?_; rintro e wi ⟨rfl, ei⟩)))
            | fail
            all_goals go_wp2_with fail
            all_goals go_simp
            all_goals go_meet
            all_goals exact ⟨rfl, ((((Ext.drew _).t ef).t eg).t eh).t ei⟩
          case rest =>
            obtain ⟨rfl, ex⟩ := hcut
            have HFin : Hid (Ext w wc) := Lib.hid (Bwd.out.e.t ex)
            clear ex Bwd HSS HO HRO HG HRG
            go_wp2_with fail
            go_roundw
            case rel => exact ⟨k + 1, by omega, by go_num, HFin⟩
            case measure => simp [intOf]; omega
        · clear HKm
          have H1 := Lib.hid (H.out.ext HE.out)
          have HC1 := Lib.hid (clone_ A n c insC_len insC_one p wr H1.out (by omega))
          unfold ClnP at HC1
          have hkI : ¬ (k : Int) < (m : Int) := by omega
          go_wp2_with fail
          refine HC1.out.mono ?_; rintro e w3 ⟨A3, c3, rfl, r3, e3, ft3⟩
          have E3 := Lib.hid (HE.out.t e3)
          have R3 := Lib.hid (r3.rd insC_len (by decide))
          have HX := Lib.hid (theirs_ A n c p w3 (H.out.ext E3.out) (by omega))
          clear r3 e3 ft3 HE H1 HC1
          go_wp2_with fail
          refine HX.out.mono ?_; rintro e w4 ⟨A4, n4, c4, rfl, x4⟩
          have E4 := Lib.hid (E3.out.t x4.ext)
          have R4 := Lib.hid (R3.out.ext x4.ext)
          have X4 := Lib.hid x4.rd
          have HC := Lib.hid (check_ A3 n c3 p w4 R4.out)
          have HRC := Lib.hid (fun w' (e : Ext w4 w') => rcheck_ A4 n4 c4 p w' (X4.out.ext e))
          unfold CheckP at HC HRC
          generalize (checkF p).1 = ck at *
          generalize (checkF p).2 = ce at *
          clear x4 E3 R3 HX
          go_wp2_with fail
          refine HC.out.mono ?_; rintro e w5 ⟨rfl, e5⟩
          have E5 := Lib.hid e5
          clear e5 HC
          go_wp2_with fail
          refine (HRC.out _ E5.out).mono ?_; rintro e w6 ⟨rfl, e6⟩
          have E6 := Lib.hid (E5.out.t e6)
          have R6 := Lib.hid (R4.out.ext E6.out)
          have HW := Lib.hid (write_ A3 n c3 p w6 R6.out)
          unfold WriteP at HW
          clear e6 E5 HRC
          go_wp2_with fail
          refine HW.out.mono ?_; rintro e w7 ⟨A7, n7, c7, rfl, n7_⟩
          have N7 := Lib.hid n7_
          have X7 := Lib.hid (X4.out.ext (E6.out.t n7_.ext))
          have HRW := Lib.hid (rwrite_ A4 n4 c4 p w7 X7.out)
          unfold WriteP at HRW
          clear n7_ HW
          go_wp2_with fail
          refine HRW.out.mono ?_; rintro e w8 ⟨A8, n8, c8, rfl, n8_⟩
          have N8 := Lib.hid n8_
          have N78 := Lib.hid (N7.out.exte n8_.ext)
          have hn7 : n7 ≤ 10000 := by
            rw [N7.out.n_]
            exact Nat.le_trans (writeF_len p) (by decide)
          have hn8 : n8 ≤ 10000 := by
            rw [N8.out.n_]
            exact Nat.le_trans (writeF_len p) (by decide)
          have HSB := Lib.hid (sameBytes A7 A8 n7 n8 c7 c8 (writeF p).1 (writeF p).1 w8 N78.out.room.rd N8.out.room.rd (by unfold maxLen; omega) (by unfold maxLen; omega))
          rw [show decide ((writeF p).1 = (writeF p).1) = true by simp] at HSB
          clear n8_ HRW X7
          go_wp2_with fail
          refine HSB.out.mono ?_; rintro e w9 ⟨rfl, e9⟩
          have N79 := Lib.hid (N78.out.exte e9)
          have N89 := Lib.hid (N8.out.exte e9)
          have R9 := Lib.hid (R6.out.ext N79.out.ext)
          have E9 := Lib.hid (E4.out.t (E6.out.t N79.out.ext))
          have HOV := Lib.hid (overBytes A7 n7 c7 _ w9 N79.out.room (by omega))
          clear e9 HSB
          go_wp2_with fail
          refine HOV.out.mono ?_; rintro e w10 ⟨rfl, ch10⟩
          have R10 := Lib.hid (R9.out.chg ch10 (fun k o e hn hk => by
            have h1 := N79.out.ft k hk
            have h2 := RdS.low R6.out k o e hn
            omega))
          have B10 := Lib.hid (N89.out.room.rd.chg ch10 (fun k o e hn hk => by
            have h1 := N7.out.room.lt hk
            have h2 := N89.out.ft k ⟨by have := N89.out.room.2.1; omega, o, e⟩
            omega))
          have E10 : Hid (Ext w w10) := Lib.hid (E9.out.trans (ch10.below (B := w.heap.size) E9.out.size (fun k hk hf => by
            have h1 := N79.out.ft k hf
            have := E4.out.size
            have := E6.out.size
            omega)))
          have HW2 := Lib.hid (write_ A3 n c3 p w10 R10.out)
          unfold WriteP at HW2
          clear ch10 HOV
          go_wp2_with fail
          refine HW2.out.mono ?_; rintro e w11 ⟨A11, n11, c11, rfl, n11_⟩
          have N11 := Lib.hid n11_
          have hn11 : n11 ≤ 10000 := by
            rw [N11.out.n_]
            exact Nat.le_trans (writeF_len p) (by decide)
          have HSB2 := Lib.hid (sameBytes A11 A8 n11 n8 c11 c8 (writeF p).1 (writeF p).1 w11 N11.out.room.rd (B10.out.ext N11.out.ext) (by unfold maxLen; omega) (by unfold maxLen; omega))
          rw [show decide ((writeF p).1 = (writeF p).1) = true by simp] at HSB2
          clear n11_ HW2
          go_wp2_with fail
          refine HSB2.out.mono ?_; rintro e w12 ⟨rfl, e12⟩
          have E12 := Lib.hid (E10.out.t (N11.out.ext.t e12))
          have HEQ := Lib.hid (equalI A3 A n n c3 c p p w12 (R10.out.ext (N11.out.ext.t e12)) (H.out.ext E12.out) (by omega) (by omega))
          rw [show decide (p = p) = true by simp] at HEQ
          clear e12 HSB2
          go_wp2_with fail
          refine HEQ.out.mono ?_; rintro e w13 ⟨rfl, e13⟩
          have E13 := Lib.hid (E12.out.t e13)
          clear e13
          go_wp2_with fail
          go_ret
          exact ⟨rfl, E13.out⟩
  · have h300I : (300 : Int) < (n : Int) := by omega
    clear h
    go_enter Try.func24, Try.ntmps24
    go_wp2_with fail
    go_ret
    exact ⟨rfl, Ext.refl _⟩
end Go.Proofs.Ytiakcehhegippaa
