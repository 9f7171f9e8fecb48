/- InboxTurns: the walk of the law. -/
import Derived.Test.YtpipnefepnknoaaHeld
namespace Go.Proofs.Ytpipnefepnknoaa
open Go.RowKit Go.Fx
theorem onL_keep : ∀ (ws : List (List Nat)) (z : St) (out : List (List Nat)), (onL ws z out).1.turns = z.turns ∧ (onL ws z out).1.idle = z.idle
  | [], _, _ => ⟨rfl, rfl⟩
  | f :: fs, z, out => by
    rw [onL_cons]
    split
    · exact onL_keep fs (stDone z f fs) (out ++ [f])
    · exact ⟨rfl, rfl⟩
theorem on_keep (z : St) (out : List (List Nat)) : (on z out).1.turns = z.turns ∧ (on z out).1.idle = z.idle := by
  unfold on
  split
  · exact ⟨rfl, rfl⟩
  · exact onL_keep _ z out
theorem put_keep (st : St) (f : List Nat) : (putF st f).1.turns = st.turns ∧ (putF st f).1.idle = st.idle := on_keep _ _
theorem turn_keep {st : St} (h : st.pend = true) : (turnF st).1.turns = st.turns + 1 ∧ (turnF st).1.idle = st.idle := by
  unfold turnF
  rw [if_pos h]
  split
  · exact on_keep _ _
  · exact ⟨rfl, rfl⟩
def stI (k : Nat) : St := { st0 with idle := k }
theorem stI_turn (k : Nat) : turnF (stI k) = (stI (k + 1), []) := rfl
theorem stI_good (k N : Nat) (h : N + k ≤ 900000) : Good (stI k) N := ⟨⟨by simp [stI, st0]; omega, by simp [stI, st0]; omega, by simp [stI, st0]; omega, by simp [stI, st0]; omega, by simp [stI, st0]; omega, by simp [stI, st0], by simp [stI, st0], by simp [stI, st0]⟩, by simp [stI, st0], by simp [stI, st0]; omega⟩
theorem stI_ord (k : Nat) : Ord (stI k) [] [] := ⟨rfl, fun _ => rfl, by simp [stI, st0], rfl, rfl, rfl⟩
theorem Ord.pend_of {st : St} {outs all : List (List Nat)} (h : Ord st outs all) (ht : st.turns < sumN all) : st.pend = true := by
  cases hp : st.pend with
  | true => rfl
  | false =>
    have h2 := h.turns
    rw [hp] at h2
    rw [← h.all_eq hp] at ht
    simp at h2; omega
set_option maxRecDepth 100000 in
set_option maxHeartbeats 4000000 in
theorem turns_ (A : Option Addr) (n c d : Nat) (al : List ActN) (w : World) (hacts : Acts w A n al) (hnc : n ≤ c) (hc : c ≤ maxLen) (hd : d < 256) :
    Calls Try.prog 8 #[.slice A n c, .int .u8 (d : Int)] w fun e w' => e = .returned (.bool true) ∧ Ext w w' := by
  have HP := Lib.hid (fun w' (e : Ext w w') => play_ A n c al w' (hacts.ext e) hnc hc)
  have HU := Lib.hid (fun w' (e : Ext w w') => put_ A n c al w w' hacts e hnc hc)
  have HA := Lib.hid (awake w)
  clear hacts hnc hc
  go_enter Try.func8, Try.ntmps8
  go_wp2_with fail
  refine HA.out.mono ?_; rintro e w1 ⟨rfl, e1⟩
  go_wp2_with fail
  refine (HP.out w1 e1).mono ?_
  rintro e w2 ⟨ib, L, A2, n2, c2, os, st, outs0, hpl⟩
  have hret := hpl.ret
  have hord := play_ord (al.take 40)
  rw [← hpl.res] at hord
  have h40 := putL_40 al
  have hle := putL_lt (al.take 40)
  have E12 := Lib.hid (e1.t hpl.sys.below)
  have Hpl := Lib.hid hpl
  clear hpl e1
  obtain ⟨all, hall⟩ : ∃ all, all = putL (al.take 40) := ⟨_, rfl⟩
  rw [← hall] at hord h40 hle HU
  have Hord := Lib.hid hord
  have Hle := Lib.hid hle
  clear hall hord hle
  subst hret
  go_wp2_with fail
  refine (ib_New _ _).mono ?_
  rintro e w3 ⟨rfl, hib, he, hsz⟩
  have hsb := Blk.new w2 31 #[.slice none 0 0, .int .i64 0, .slice none 0 0, .slice none 0 0]
  have hS := sys_new (Below.refl w2.heap.size w2) (Ext.alloc w2 _) (Nat.le_refl _) hsb hib he
  rw [World.size_alloc] at *
  generalize hibe : w2.heap.size + 1 = ic at hS ⊢
  have HS := Lib.hid hS
  clear hS hsb hib he hsz hibe
  go_wp2_with fail
  go_loopw [51] (fun i wr => ∃ (k : Nat), k ≤ d ∧ i = .int .u8 (k : Int) ∧ Hid (∃ L, Sys w2 wr ic L (stI k))) (fun i _ => d - (intOf i).toNat)
  case atStart => exact ⟨0, by omega, rfl, Lib.hid ⟨_, HS.out⟩⟩
  case round =>
    obtain ⟨k, hk, rfl, H⟩ := hrel
    by_cases hlt : k < d
    · have hlt' : (k : Int) < (d : Int) := by omega
      obtain ⟨L3, hS⟩ := H.out
      have HT := Lib.hid (sys_Turn hS (stI_good k (0 + 1) (by omega)))
      clear H hS
      go_wp2_with fail
      refine HT.out.mono ?_
      rintro e w4 ⟨L4, A4, n4, c4, os4, got⟩
      rw [stI_turn] at got
      have hret := got.ret
      have hn4 := got.resp.n_
      simp only [List.length_nil] at hn4
      have HS2 := Lib.hid got.sys
      clear got HT
      subst hn4
      subst hret
      go_wp2_with fail
      go_roundw
      case rel => exact ⟨k + 1, by omega, by go_num, Lib.hid ⟨_, HS2.out⟩⟩
      case measure => simp [intOf]; omega
    · obtain rfl : d = k := by omega
      obtain ⟨L3, hS⟩ := H.out
      have HS3 := Lib.hid hS
      have HU3 := Lib.hid (HU.out wr (E12.out.t hS.below))
      clear H hS HU HS
      go_wp2_with fail
      refine HU3.out.mono ?_
      rintro e w4 ⟨A4, n4, c4, ps, rfl, hpu⟩
      have hn4 : n4 = all.length := by rw [← hpu.len, hpu.reads.len]
      have hn40 : n4 ≤ 40 := by omega
      have Hn4 := Lib.hid hn4
      have hfar : Far w4 ic L3 none 0 (foot A4 c4) := ⟨fun k hk => hpu.room.lt hk, fun k hk hk2 => by have := hpu.na k hk; have := HS3.out.box.lt hk2; omega, fun k _ hk2 => absurd hk2 foot_none⟩
      have H0 : Hid (∃ L os st outs, Ord st outs (all.take 0) ∧ Sys w2 w4 ic L st ∧ Resp w2.heap.size w4 ic L none 0 0 os outs ∧ Far w4 ic L none 0 (foot A4 c4) ∧ Good st (2000 - 0) ∧ Room w4 A4 n4 c4 (ps.map slv) ∧ st.turns = 0 ∧ st.idle = d) := Lib.hid
        ⟨L3, [], stI d, [], stI_ord d, HS3.out.ext hpu.ext, ⟨rfl, Room.nil, Byts.nil, fun k hk => absurd hk foot_none, fun k hk => absurd hk foots_nil, fun k hk => absurd hk foots_nil, fun k hk => absurd hk foot_none⟩, hfar, stI_good d _ (by omega), hpu.room, rfl, rfl⟩
      have Hreads := Lib.hid hpu.reads
      clear hpu hfar hn4 HS3 HU3
      go_wp2_with fail
      go_loopw [14, 69] (fun v i wr => ∃ (k : Nat) (A' : Option Addr) (n' c' : Nat), k ≤ n4 ∧ i = .int .i64 (k : Int) ∧ v = .slice A' n' c' ∧ Hid (∃ L os st outs, Ord st outs (all.take k) ∧ Sys w2 wr ic L st ∧ Resp w2.heap.size wr ic L A' n' c' os outs ∧ Far wr ic L A' c' (foot A4 c4) ∧ Good st (2000 - k) ∧ Room wr A4 n4 c4 (ps.map slv) ∧ st.turns = 0 ∧ st.idle = d)) (fun _ i _ => n4 - (intOf i).toNat)
      case atStart => exact ⟨0, none, 0, 0, by omega, rfl, rfl, H0⟩
      case round =>
        clear H0
        obtain ⟨k, A', n', c', hk, rfl, rfl, H⟩ := hrel
        by_cases hlt : k < n4
        · have hlt' : (k : Int) < (n4 : Int) := by omega
          obtain ⟨L4, os4, st4, outs4, hO, hS, hR, hF, hG, hRm, hT, hI⟩ := H.out
          obtain ⟨b, o, s, hA, _, hs, hc⟩ := (Room.rd hRm).at_ hlt
          obtain ⟨f, hf, hbf, hlf⟩ := (Hreads.out.ext (E12.out.t hS.below)).at_ k s hs
          have hfl : f.length ≤ 40 := Hle.out f (List.mem_of_getElem? hf)
          have hG1 : Good st4 ((2000 - (k + 1)) + 1) := hG.mono (by omega)
          have HT := Lib.hid (sys_Put hS hG1 s.A s.n s.c f hbf hlf (by omega))
          have hO2 := put_ord hO f
          rw [← take_snoc hf] at hO2
          have hbd : n' + (putF st4 f).2.length ≤ 100000000 := by
            have h1 := hO2.le
            have h2 := hR.n_
            rw [List.length_append, List.length_take] at h1
            omega
          have hkeep := put_keep st4 f
          rw [hT, hI] at hkeep
          have Hkeep := Lib.hid hkeep
          have Hbd := Lib.hid hbd
          have HO2 := Lib.hid hO2
          have HR := Lib.hid hR
          have HF := Lib.hid hF
          have HG1 := Lib.hid hG1
          have HRm := Lib.hid hRm
          have Hfl := Lib.hid hfl
          unfold slv at hc
          clear H hO hS hR hF hG hT hI hkeep hG1 hO2 hbd hRm hs hf hbf hlf hfl
          rw [hA] at HF HRm ⊢
          go_wp2_with fail
          refine HT.out.mono ?_
          rintro e w5 ⟨L6, A6, n6, c6, os6, got⟩
          have Hgot := Lib.hid got
          have hret := got.ret
          have hRs := HR.out.step got.step
          have hrr := hRs.room
          have hrd := got.resp.rd
          have hbd2 : n' + n6 ≤ 100000000 := by have := Hbd.out; rw [got.resp.n_]; exact this
          clear got
          subst hret
          go_wp2_with (refine wpl_append_at (by rfl) rfl ul_bb info_bb rfl rfl hrr rfl (Src.ofRd ul_bb hrd (fun _ => rfl)) (by simp only [maxLen]; omega) (by omega) ?_)
          intro A7 c7 w7 r7 ch7 ft7; refine Lib.hid ?_
          have hfin : ∃ L os st outs, Ord st outs (all.take (k + 1)) ∧ Sys w2 w7 ic L st ∧ Resp w2.heap.size w7 ic L A7 (n' + n6) c7 os outs ∧ Far w7 ic L A7 c7 (foot (some ⟨b, o, none⟩) c4) ∧ Good st (2000 - (k + 1)) ∧ Room w7 (some ⟨b, o, none⟩) n4 c4 (ps.map slv) ∧ st.turns = 0 ∧ st.idle = d := by
            have got := Hgot.out
            have hF3 := HF.out.step got.step
            refine ⟨L6, os4 ++ os6, (putF st4 f).1, outs4 ++ (putF st4 f).2, HO2.out, got.sys.chg ch7 (fun k hk => ⟨hRs.na k hk, hRs.base k hk⟩), hRs.append got.sys.below.size got.resp.byt got.resp.len (fun k hk => ⟨got.resp.no k hk, fun h1 => ?_⟩) (fun k hk => got.sys.box.lt hk) r7 ch7 ft7, hF3.app ch7 ft7, put_good st4 _ _ HG1.out (by have := Hfl.out; omega), (HRm.out.chg got.step.chg HF.out.box).chg ch7 HF.out.row, Hkeep.out⟩
            have := got.new k (.inr hk); have := HR.out.room.lt h1; omega
          have Hfin := Lib.hid hfin
          clear hfin r7 ch7 ft7 hRs hrr hrd
          go_wp2_with fail
          go_roundw
          case rel => exact ⟨k + 1, A7, n' + n6, c7, by omega, by go_num, rfl, Hfin⟩
          case measure => simp [intOf]; omega
        · obtain rfl : n4 = k := by omega
          obtain ⟨L4, os4, st4, outs4, hO, hS, hR, hF, hG, hRm, hT, hI⟩ := H.out
          rw [List.take_of_length_le (by rw [← Hn4.out]; exact Nat.le_refl _)] at hO
          have HC := Lib.hid (ib_Counts ib L st wr (Hpl.out.sys.ext hS.below).box)
          have htl := Hord.out.turns_le
          have htb : st.turns ≤ 280 := by have := sumN_le all; omega
          have HQ : Hid (∃ L os st' outs, Ord st' outs all ∧ Sys w2 wr ic L st' ∧ Resp w2.heap.size wr ic L A' n' c' os outs ∧ Good st' (1900 - 0) ∧ st'.turns = 0 ∧ st'.idle = d) := Lib.hid ⟨L4, os4, st4, outs4, hO, hS, hR, hG.mono (by omega), hT, hI⟩
          have Htl := Lib.hid htl
          clear H hO hS hR hF hG hRm hT hI htl Hn4 Hreads hlt hn40
          go_wp2_with fail
          refine HC.out.mono ?_; rintro e w5 ⟨rfl, e5⟩
          have HQ5 : Hid (∃ L os st' outs, Ord st' outs all ∧ Sys w2 w5 ic L st' ∧ Resp w2.heap.size w5 ic L A' n' c' os outs ∧ Good st' (1900 - 0) ∧ st'.turns = 0 ∧ st'.idle = d) := by
            obtain ⟨L4, os4, st4, outs4, hO, hS, hR, hG, hT, hI⟩ := HQ.out
            exact Lib.hid ⟨L4, os4, st4, outs4, hO, hS.ext e5, hR.ext e5, hG, hT, hI⟩
          clear HQ HC e5
          have hfd := fun w' => fd_cnt2 (st.put : Int) (st.ans : Int) (st.turns : Int) (st.idle : Int) w'
          go_wp2_with fail
          clear hfd
          go_loopw [14, 88] (fun v i wr => ∃ (j : Nat) (A' : Option Addr) (n' c' : Nat), j ≤ st.turns ∧ i = .int .i64 (j : Int) ∧ v = .slice A' n' c' ∧ Hid (∃ L os st' outs, Ord st' outs all ∧ Sys w2 wr ic L st' ∧ Resp w2.heap.size wr ic L A' n' c' os outs ∧ Good st' (1900 - j) ∧ st'.turns = j ∧ st'.idle = d)) (fun _ i _ => st.turns - (intOf i).toNat)
          case atStart => exact ⟨0, A', n', c', by omega, rfl, rfl, HQ5⟩
          case round =>
            clear HQ5
            obtain ⟨j, A', n', c', hj, rfl, rfl, H⟩ := hrel
            by_cases hjt : j < st.turns
            · have hjt' : (j : Int) < (st.turns : Int) := by omega
              obtain ⟨L3, os3, st3, outs3, hO, hS, hR, hG, hT, hI⟩ := H.out
              have hG1 : Good st3 ((1900 - (j + 1)) + 1) := hG.mono (by omega)
              have HT := Lib.hid (sys_Turn hS hG1)
              have hO2 := turn_ord hO
              have hpe : st3.pend = true := hO.pend_of (by have := Htl.out; omega)
              have hkeep := turn_keep hpe
              rw [hT, hI] at hkeep
              have hbd : n' + (turnF st3).2.length ≤ 100000000 := by
                have h1 := hO2.le
                have h2 := hR.n_
                rw [List.length_append] at h1
                omega
              have Hkeep := Lib.hid hkeep
              have Hbd := Lib.hid hbd
              have HO2 := Lib.hid hO2
              have HR := Lib.hid hR
              have HG1 := Lib.hid hG1
              clear H hO hS hR hG hT hI hG1 hO2 hbd hpe hkeep
              go_wp2_with fail
              refine HT.out.mono ?_
              rintro e w6 ⟨L6, A6, n6, c6, os6, got⟩
              have Hgot := Lib.hid got
              have hret := got.ret
              have hRs := HR.out.step got.step
              have hrr := hRs.room
              have hrd := got.resp.rd
              have hbd2 : n' + n6 ≤ 100000000 := by have := Hbd.out; rw [got.resp.n_]; exact this
              clear got
              subst hret
              go_wp2_with (refine wpl_append_at (by rfl) rfl ul_bb info_bb rfl rfl hrr rfl (Src.ofRd ul_bb hrd (fun _ => rfl)) (by simp only [maxLen]; omega) (by omega) ?_)
              intro A7 c7 w7 r7 ch7 ft7; refine Lib.hid ?_
              have hfin : ∃ L os st' outs, Ord st' outs all ∧ Sys w2 w7 ic L st' ∧ Resp w2.heap.size w7 ic L A7 (n' + n6) c7 os outs ∧ Good st' (1900 - (j + 1)) ∧ st'.turns = j + 1 ∧ st'.idle = d := by
                have got := Hgot.out
                refine ⟨L6, os3 ++ os6, (turnF st3).1, outs3 ++ (turnF st3).2, HO2.out, got.sys.chg ch7 (fun k hk => ⟨hRs.na k hk, hRs.base k hk⟩), hRs.append got.sys.below.size got.resp.byt got.resp.len (fun k hk => ⟨got.resp.no k hk, fun h1 => ?_⟩) (fun k hk => got.sys.box.lt hk) r7 ch7 ft7, turn_good st3 _ HG1.out, Hkeep.out⟩
                have := got.new k (.inr hk); have := HR.out.room.lt h1; omega
              have Hfin := Lib.hid hfin
              clear hfin r7 ch7 ft7 hRs hrr hrd
              go_wp2_with fail
              go_roundw
              case rel => exact ⟨j + 1, A7, n' + n6, c7, by omega, by go_num, rfl, Hfin⟩
              case measure => simp [intOf]; omega
            · have hjj : j = st.turns := by omega
              obtain ⟨L3, os3, st3, outs3, hO, hS, hR, hG, hT, hI⟩ := H.out
              have htj : st.turns = st3.turns := by omega
              obtain ⟨so, sp, sw, spu, sa⟩ := Hord.out.same hO htj
              have hSb := Hpl.out.sys.ext hS.below
              have hRb := Hpl.out.resp.ext hS.below
              have hFr := framesR A2 A' n2 n' c2 c' os os3 outs0 outs3 wr hRb.rd (Reads.of hRb.byt) hR.rd (Reads.of hR.byt) hRb.le hR.le
              rw [show decide (outs0 = outs3) = true from decide_eq_true so] at hFr
              have HFr := Lib.hid (fun w' (e : Ext wr w') => framesR A2 A' n2 n' c2 c' os os3 outs0 outs3 w' (hRb.ext e).rd (Reads.of (hRb.ext e).byt) (hR.ext e).rd (Reads.of (hR.ext e).byt) hRb.le hR.le)
              rw [show decide (outs0 = outs3) = true from decide_eq_true so] at HFr
              have HSb := Lib.hid hSb
              have HSc := Lib.hid hS
              have Hsw := Lib.hid sw
              have HGb := Lib.hid Hpl.out.good
              have HGc := Lib.hid hG
              have HCb := Lib.hid (ib_Counts ib L st wr hSb.box)
              have Hend := Lib.hid (E12.out.t hS.below)
              have q1 : (((st.put : Nat) : Int) == ((st3.put : Nat) : Int)) = true := by rw [spu]; simp
              have q2 : (((st.ans : Nat) : Int) == ((st3.ans : Nat) : Int)) = true := by rw [sa]; simp
              have q3 : (((st.turns : Nat) : Int) == ((st3.turns : Nat) : Int)) = true := by rw [htj]; simp
              have q4 : (((st3.idle : Nat) : Int) == ((d : Nat) : Int)) = true := by rw [hI]; simp
              have q5 : (st.pend == st3.pend) = true := by rw [sp]; simp
              clear H hO hS hR hG hT hI hFr hSb hRb so sp sw spu sa htj hjt htb hj
              subst hjj
              go_wp2_with fail
              refine HCb.out.mono ?_; rintro e wx ⟨rfl, ex⟩
              have HCc := Lib.hid (ib_Counts ic L3 st3 wx (HSc.out.ext ex).box)
              have Ex := Lib.hid ex
              clear HCb ex
              go_wp2_with fail
              refine HCc.out.mono ?_; rintro e wy ⟨rfl, ey⟩
              have Ey := Lib.hid (Ex.out.t ey)
              clear HCc ey Ex
              go_wp2_with fail
              have b1 := (Blk.new wy 33 #[.int .i64 (st.put : Int), .int .i64 (st.ans : Int), .int .i64 (st.turns : Int), .int .i64 (st.idle : Int)]).alloc (.cells #[.int .i64 (st3.put : Int), .int .i64 (st3.ans : Int), .int .i64 (st3.turns : Int), .int .i64 (st3.idle : Int)] 33)
              have b2 := Blk.new (wy.alloc (.cells #[.int .i64 (st.put : Int), .int .i64 (st.ans : Int), .int .i64 (st.turns : Int), .int .i64 (st.idle : Int)] 33)) 33 #[.int .i64 (st3.put : Int), .int .i64 (st3.ans : Int), .int .i64 (st3.turns : Int), .int .i64 (st3.idle : Int)]
              rw [World.size_alloc] at b2
              have ez := Ey.out.t ((Ext.alloc wy (.cells #[.int .i64 (st.put : Int), .int .i64 (st.ans : Int), .int .i64 (st.turns : Int), .int .i64 (st.idle : Int)] 33)).t (Ext.alloc _ (.cells #[.int .i64 (st3.put : Int), .int .i64 (st3.ans : Int), .int .i64 (st3.turns : Int), .int .i64 (st3.idle : Int)] 33)))
              generalize (wy.alloc (.cells #[.int .i64 (st.put : Int), .int .i64 (st.ans : Int), .int .i64 (st.turns : Int), .int .i64 (st.idle : Int)] 33)).alloc (.cells #[.int .i64 (st3.put : Int), .int .i64 (st3.ans : Int), .int .i64 (st3.turns : Int), .int .i64 (st3.idle : Int)] 33) = wz at b1 b2 ez ⊢
              generalize wy.heap.size = g at b1 b2 ⊢
              have HFb := Lib.hid (ib_Frames ib L st wz (HSb.out.ext ez).box (by have := HGb.out.wait; omega) HGb.out.fine.wait)
              have Ez := Lib.hid ez
              have B1 := Lib.hid b1
              have B2 := Lib.hid b2
              clear ez b1 b2
              refine (HFr.out wz Ez.out).mono ?_; rintro e wx ⟨rfl, rfl⟩
              go_wp2_with fail
              refine HFb.out.mono ?_
              rintro e wf ⟨Af, cf, osf, hlf⟩
              have hretf := hlf.ret
              have HFc := Lib.hid (ib_Frames ic L3 st3 wf (HSc.out.ext (Ez.out.t hlf.ext)).box (by have := HGc.out.wait; omega) HGc.out.fine.wait)
              have Hlf := Lib.hid hlf
              clear hlf HFb
              subst hretf
              go_wp2_with fail
              refine HFc.out.mono ?_
              rintro e wg ⟨Ag, cg, osg, hlg⟩
              have hretg := hlg.ret
              have hfg := framesR Af Ag osf.length osg.length cf cg osf osg st.wait st3.wait wg (Room.rd (Hlf.out.room.ext hlg.ext)) (Reads.of (Hlf.out.outs.ext hlg.ext)) (Room.rd hlg.room) (Reads.of hlg.outs) (Nat.le_trans Hlf.out.room.2.1 Hlf.out.room.2.2.1) (Nat.le_trans hlg.room.2.1 hlg.room.2.2.1)
              rw [show decide (st.wait = st3.wait) = true from decide_eq_true Hsw.out] at hfg
              have Hfg := Lib.hid hfg
              have efg := Hlf.out.ext.t hlg.ext
              have HPb := Lib.hid (ib_Pending ib L st wg (HSb.out.ext (Ez.out.t efg)).box)
              have HPc := Lib.hid (ib_Pending ic L3 st3 wg (HSc.out.ext (Ez.out.t efg)).box)
              obtain ⟨x0, x1, x2, x3⟩ := (B1.out.ext efg).c0
              obtain ⟨y0, y1, y2, y3⟩ := (B2.out.ext efg).c0
              have Hend2 := Lib.hid (Hend.out.t (Ez.out.t efg))
              clear hlg HFc hfg efg Hend Hlf HFr
              subst hretg
              have hwrd : IntKind.i64.wrap (d : Int) = (d : Int) := IntWalk.i64_in _ (by omega)
              go_wp2_with fail
              refine Hfg.out.mono ?_; rintro e wx ⟨rfl, rfl⟩
              go_wp2_with fail
              refine HPb.out.mono ?_; rintro e wx ⟨rfl, rfl⟩
              go_wp2_with fail
              refine HPc.out.mono ?_; rintro e wx ⟨rfl, rfl⟩
              go_wp2_with fail
              go_ret
              exact ⟨rfl, Hend2.out⟩
theorem walkInboxTurns (A : Option Addr) (n c : Nat) (al : List ActN) (a : Int) (w : World) (h : ActsArg w A n c al) (ha : (Lit.int .u8 a).wf = true) :
    Calls Try.prog 8 #[.slice A n c, .int .u8 a] w fun e w' => e = .returned (.bool true) ∧ Ext w w' := by
  have h1 := bounds_u8 ha
  obtain ⟨d, rfl⟩ : ∃ d : Nat, a = (d : Int) := ⟨a.toNat, by omega⟩
  exact turns_ A n c d al w h.acts h.le h.max (by omega)
end Go.Proofs.Ytpipnefepnknoaa
