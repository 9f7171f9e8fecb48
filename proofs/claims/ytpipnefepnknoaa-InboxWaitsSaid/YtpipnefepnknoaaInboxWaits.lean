/- InboxWaits: the walk of the law. -/
import Derived.Test.YtpipnefepnknoaaOrd
namespace Go.Fx
def sing (x : Nat) : List Nat := [x]
end Go.Fx
namespace Go.Proofs.Ytpipnefepnknoaa
open Go.RowKit Go.Fx
/-- How many frames at the beginning need no turn. -/
def zc : List (List Nat) → Nat
  | [] => 0
  | f :: fs => if needs f = 0 then zc fs + 1 else 0
theorem zc_le (l : List (List Nat)) : zc l ≤ l.length := by
  induction l with
  | nil => exact Nat.le_refl _
  | cons f fs ih => simp only [zc, List.length_cons]; split <;> omega
theorem zc_take : ∀ (l : List (List Nat)) (i : Nat) (f : List Nat), l[i]? = some f → i < zc l → needs f = 0
  | [], i, f, h, _ => by simp at h
  | g :: l, i, f, h, hi => by
    simp only [zc] at hi
    by_cases h0 : needs g = 0
    · rw [if_pos h0] at hi
      cases i with
      | zero => simp at h; subst h; exact h0
      | succ i => exact zc_take l i f (by simpa using h) (by omega)
    · rw [if_neg h0] at hi; omega
theorem zc_end : ∀ (l : List (List Nat)) (f : List Nat), l[zc l]? = some f → needs f ≠ 0
  | [], f, h => by simp at h
  | g :: l, f, h => by
    simp only [zc] at h
    by_cases h0 : needs g = 0
    · rw [if_pos h0] at h; exact zc_end l f (by simpa using h)
    · rw [if_neg h0] at h; simp at h; subst h; exact h0
theorem onL_zc : ∀ (ws : List (List Nat)) (st : St) (out : List (List Nat)), st.pend = false → (onL ws st out).2 = out ++ ws.take (zc ws) ∧ (onL ws st out).1.pend = decide (zc ws < ws.length) ∧ (onL ws st out).1.wait.length = ws.length - zc ws - 1
  | [], st, out, hp => ⟨by simp [onL], by simp [onL, zc, hp], by simp [onL]⟩
  | f :: fs, st, out, hp => by
    rw [onL_cons]
    by_cases h0 : needs f = 0
    · have hz : zc (f :: fs) = zc fs + 1 := by simp [zc, h0]
      rw [if_pos h0, hz]
      obtain ⟨h1, h2, h3⟩ := onL_zc fs (stDone st f fs) (out ++ [f]) rfl
      refine ⟨by rw [h1]; simp, by rw [h2]; simp, by rw [h3]; simp⟩
    · have hz : zc (f :: fs) = 0 := by simp [zc, h0]
      rw [if_neg h0, hz]
      refine ⟨by simp, by simp [stPend], by simp [stPend]⟩
def stW (n : Nat) (ls : List Nat) (k : Nat) : St := ⟨(ls.take k).map sing, true, [n], n, [98], k + 1, 0, 0, 0⟩
def stAt (n : Nat) (ls : List Nat) : Nat → St
  | 0 => st0
  | k + 1 => stW n ls k
theorem needs_one (n : Nat) : needs [n] = n % 8 := rfl
theorem putAt (n : Nat) (ls : List Nat) (hn : 1 ≤ n ∧ n ≤ 7) (k : Nat) (f : List Nat) (hf : ([n] :: ls.map sing)[k]? = some f) : putF (stAt n ls k) f = (stAt n ls (k + 1), []) := by
  cases k with
  | zero =>
    simp at hf
    subst hf
    have h : needs [n] = n := by rw [needs_one]; omega
    have h0 : needs [n] ≠ 0 := by omega
    show onL [[n]] _ [] = _
    rw [onL_cons, if_neg h0]
    simp only [stPend, st0, stAt, stW, h, List.take_zero, List.map_nil]
    rfl
  | succ k =>
    simp only [List.getElem?_cons_succ, List.getElem?_map] at hf
    obtain ⟨x, hx, rfl⟩ := Option.map_eq_some_iff.1 hf
    show (stW n ls k |> fun st => on { st with wait := st.wait ++ [sing x], put := st.put + 1 } []) = (stW n ls (k + 1), [])
    simp only [stW, on, if_true]
    rw [take_snoc hx, List.map_append]
    rfl
def stT (n : Nat) (ls : List Nat) (j : Nat) : St := ⟨ls.map sing, true, [n], n - j, [98] ++ List.replicate j 116, ls.length + 1, 0, j, 0⟩
theorem stT0 (n : Nat) (ls : List Nat) : stAt n ls (ls.length + 1) = stT n ls 0 := by
  show stW n ls ls.length = _
  unfold stW stT
  rw [List.take_length]
  rfl
theorem turnAt (n : Nat) (ls : List Nat) (j : Nat) (h : j + 1 < n) : turnF (stT n ls j) = (stT n ls (j + 1), []) := by
  have h0 : ¬ ((stT n ls j).left - 1 = 0) := by simp only [stT]; omega
  unfold turnF
  rw [if_pos (show (stT n ls j).pend = true from rfl), if_neg h0]
  simp only [turn1]
  rw [if_neg h0]
  simp only [stT]
  rw [List.append_assoc, ← List.replicate_succ', Nat.sub_sub]
theorem lastTurn (n : Nat) (ls : List Nat) (h : 1 ≤ n) : (turnF (stT n ls (n - 1))).2 = [n] :: (ls.map sing).take (zc (ls.map sing)) ∧ (turnF (stT n ls (n - 1))).1.pend = decide (zc (ls.map sing) < ls.length) ∧ (turnF (stT n ls (n - 1))).1.wait.length = ls.length - zc (ls.map sing) - 1 := by
  have h0 : ((stT n ls (n - 1)).left - 1 = 0) := by simp only [stT]; omega
  unfold turnF
  rw [if_pos (show (stT n ls (n - 1)).pend = true from rfl), if_pos h0]
  generalize hz : ({ turn1 (stT n ls (n - 1)) with pend := false, ans := (stT n ls (n - 1)).ans + 1 } : St) = z
  have hp : z.pend = false := by rw [← hz]
  have hw : z.wait = ls.map sing := by rw [← hz]; rfl
  unfold on
  rw [if_neg (by rw [hp]; simp), hw]
  obtain ⟨a, b, c⟩ := onL_zc (ls.map sing) z [(stT n ls (n - 1)).cur] hp
  refine ⟨by rw [a]; rfl, by rw [b, List.length_map], by rw [c, List.length_map]⟩

set_option maxRecDepth 100000 in
set_option maxHeartbeats 2000000 in
theorem waits_ (a : Nat) (A : Option Addr) (n c : Nat) (xs : List Nat) (w : World) (ha : a < 256) (h : Arg .u8 256 w A n c xs) :
    Calls Try.prog 4 #[.int .u8 (a : Int), .slice A n c] w fun e w' => e = .returned (.bool true) ∧ Ext w w' := by
  have h0n := h.le
  have h0c := h.max
  unfold maxLen at h0c
  have HA := Lib.hid (awake w)
  rcases (by omega : n ≤ 60 ∨ 60 < n) with h60 | h60
  · have h1 : (n : Int) ≤ 60 := by omega
    have h2 : (n : Int) ≤ (c : Int) := by omega
    have HL := Lib.hid h.rd
    have Hlt := Lib.hid h.lt
    clear h
    obtain ⟨ls, hls⟩ : ∃ ls, ls = xs := ⟨_, rfl⟩
    rw [← hls] at HL Hlt
    clear hls
    go_enter Try.func4, Try.ntmps4
    go_wp2_with fail
    refine HA.out.mono ?_; rintro e w1 ⟨rfl, e1⟩
    go_wp2_with fail
    refine (ib_New _ _).mono ?_
    rintro e w2 ⟨rfl, hib, he, hsz⟩
    have hsb := Blk.new w1 31 #[.slice none 0 0, .int .i64 0, .slice none 0 0, .slice none 0 0]
    have hS := sys_new (Below.refl w1.heap.size w1) (Ext.alloc w1 _) (Nat.le_refl _) hsb hib he
    rw [World.size_alloc] at *
    generalize hibe : w1.heap.size + 1 = ib at hS ⊢
    have HS := Lib.hid hS
    have E1 := Lib.hid e1
    have HL2 := Lib.hid ((HL.out.ext e1).ext HS.out.below)
    clear hS hsb hib he hsz hibe e1
    go_upto_region 8 with fail
    obtain ⟨MM, hMM⟩ : ∃ M, M = n := ⟨_, rfl⟩
    have hMle : MM ≤ 60 := by omega
    rw [show Value.slice A n c = Value.slice A MM c by rw [hMM]]
    rw [← hMM] at HL2
    have HLM := Lib.hid (hMM ▸ HL.out)
    obtain ⟨m, hm, hm1, hm7⟩ : ∃ m : Nat, (1 + (a : Int) % 7) = (m : Int) ∧ 1 ≤ m ∧ m ≤ 7 := ⟨1 + a % 7, by omega, by omega, by omega⟩
    rw [hm]
    obtain ⟨N, hN⟩ : ∃ N, N = MM + 1 := ⟨_, rfl⟩
    have hll : ls.length = MM := HL2.out.1
    have Hll := Lib.hid hll
    have H1 := Lib.hid hm1
    have hm8 : IntKind.u8.wrap (m : Int) = (m : Int) := IntWalk.u8_in _ (by omega)
    clear hm hll hMM
    go_wp2_with (refine wpl_build (by rfl) rfl ul_u8 info_u8 [.tmp 44] (by rfl) (by rfl) (by decide) (f := u8v) [m] (by rfl) (fun _ => rfl) ?_)
    intro g1 w3 b3 e3 lo3 r3; refine Lib.hid ?_
    go_wp2_with (refine wpl_build (by rfl) rfl ul_bb info_bb [.tmp 45] (by rfl) (by rfl) (by decide) (f := slv) [⟨some ⟨g1, 0, none⟩, 1, 1⟩] (by rfl) (fun _ => rfl) ?_)
    intro g2 w4 b4 e4 lo4 r4; refine Lib.hid ?_
    have HR : Hid (∃ os, Resp w1.heap.size w4 ib (lay0 w1.heap.size) (some ⟨g2, 0, none⟩) 1 1 os ([m] :: (ls.take 0).map sing) ∧ Sys w1 w4 ib (lay0 w1.heap.size) st0) := Lib.hid (by
      have hz := HS.out.below.size
      have hz3 := e3.size
      have y : Byt w3 ⟨some ⟨g1, 0, none⟩, 1, 1⟩ [m] := ⟨Room.of_blk b3 rfl (by simp [maxLen]), fun x hx => by simp at hx; omega⟩
      have hb : ∀ k, boxF ib (lay0 w1.heap.size) k → k < w2.heap.size := fun k hk => HS.out.box.lt hk
      refine ⟨[⟨some ⟨g1, 0, none⟩, 1, 1⟩], ⟨rfl, Room.of_blk b4 rfl (by simp [maxLen]), Byts.nil.snoc (y.ext e4), fun k hk hk2 => ?_, fun k hk hk2 => ?_, fun k hk hk2 => ?_, fun k hk => ?_⟩, (HS.out.ext e3).ext e4⟩
      · have := foot_some hk; have := hb k hk2; omega
      · have := foot_some (foots_one.1 hk); have := hb k hk2; omega
      · have h1 := foot_some (foots_one.1 hk); have h2 := foot_some hk2; have := b3.lt; omega
      · have := foot_some hk; omega)
    clear b3 e3 lo3 r3 b4 e4 lo4 r4
    have HL3 : Hid (∀ wr, Below w1.heap.size w1 wr → Rd u8v wr A MM ls) := Lib.hid (fun wr e => (HLM.out.ext E1.out).ext e)
    clear HL2 HS
    go_wp2_with fail
    go_loopw [8, 49] (fun v i wr => ∃ (k : Nat) (A' : Option Addr) (c' : Nat), k ≤ MM ∧ i = .int .i64 (k : Int) ∧ v = .slice A' (k + 1) c' ∧ Hid (∃ os, Resp w1.heap.size wr ib (lay0 w1.heap.size) A' (k + 1) c' os ([m] :: (ls.take k).map sing) ∧ Sys w1 wr ib (lay0 w1.heap.size) st0)) (fun _ i _ => MM - (intOf i).toNat)
    case atStart => exact ⟨0, _, _, by omega, rfl, rfl, HR⟩
    case round =>
      clear HR
      obtain ⟨k, A', c', hk, rfl, rfl, H⟩ := hrel
      by_cases hlt : k < MM
      · have hlt' : (k : Int) < (MM : Int) := by omega
        obtain ⟨os, hR, hS⟩ := H.out
        have hrd := HL3.out wr hS.below
        obtain ⟨b, o, x, hA, _, hx, hc⟩ := hrd.at_ hlt
        have hx256 := Hlt.out x (List.mem_of_getElem? hx)
        have Hx := Lib.hid hx
        have HR := Lib.hid hR
        have HS := Lib.hid hS
        clear H hR hS hrd hx
        rw [hA]
        clear hA
        go_wp2_with (refine wpl_build (by rfl) rfl ul_u8 info_u8 [.tmp 54] (by rfl) (by rfl) (by decide) (f := u8v) [x] (by rfl) (fun _ => rfl) ?_)
        intro g1 w5 b5 e5 lo5 r5; refine Lib.hid ?_
        go_wp2_with (refine wpl_build (by rfl) rfl ul_bb info_bb [.tmp 55] (by rfl) (by rfl) (by decide) (f := slv) [⟨some ⟨g1, 0, none⟩, 1, 1⟩] (by rfl) (fun _ => rfl) ?_)
        intro g2 w6 b6 e6 lo6 r6; refine Lib.hid ?_
        have hrr := (HR.out.room.ext e5).ext e6
        have y : Byt w5 ⟨some ⟨g1, 0, none⟩, 1, 1⟩ (sing x) := ⟨Room.of_blk b5 rfl (by simp [maxLen]), fun x hx => by simp [sing] at hx; omega⟩
        have Hy := Lib.hid (y.ext e6)
        have E5 := Lib.hid e5
        have E6 := Lib.hid e6
        have Lo5 := Lib.hid lo5
        clear y b5 e5 lo5 r5 b6 e6 lo6
        go_wp2_with (refine wpl_append_at (by rfl) rfl ul_bb info_bb rfl rfl hrr rfl (Src.ofRd ul_bb r6 (fun _ => rfl)) (by simp only [maxLen]; omega) (by omega) ?_)
        intro A4 c4 w7 r4 ch4 ft4; refine Lib.hid ?_
        have hfin : ∃ os, Resp w1.heap.size w7 ib (lay0 w1.heap.size) A4 (k + 1 + 1) c4 os ([m] :: (ls.take (k + 1)).map sing) ∧ Sys w1 w7 ib (lay0 w1.heap.size) st0 := by
          have hz5 := E5.out.size
          have hz6 := E6.out.size
          have hS := (HS.out.ext E5.out).ext E6.out
          have hR := (HR.out.ext E5.out).ext E6.out
          have ha := hR.append (n2 := 1) (os2 := [⟨some ⟨g1, 0, none⟩, 1, 1⟩]) (xss2 := [sing x]) (by have := HS.out.below.size; omega) (Byts.nil.snoc Hy.out) rfl (fun k' hk' => by
            have h1 := foot_some (foots_one.1 hk')
            have h2 := Lo5.out
            refine ⟨fun h3 => ?_, fun h3 => ?_⟩
            · have := HS.out.box.lt h3; omega
            · have := HR.out.room.lt h3; omega) (fun k' hk' => hS.box.lt hk') r4 ch4 ft4
          refine ⟨os ++ [⟨some ⟨g1, 0, none⟩, 1, 1⟩], ?_, hS.chg ch4 (fun k' hk' => ⟨hR.na k' hk', hR.base k' hk'⟩)⟩
          rw [take_snoc Hx.out, List.map_append]
          exact ha
        have Hfin := Lib.hid hfin
        clear hfin r4 ch4 ft4 hrr r6
        go_wp2_with fail
        go_roundw
        case rel => exact ⟨k + 1, A4, c4, by omega, by go_num, rfl, Hfin⟩
        case measure => simp [intOf]; omega
      · obtain rfl : MM = k := by omega
        obtain ⟨os, hR, hS⟩ := H.out
        have hN1 : (((MM : Nat) : Int) + 1) = (N : Int) := by omega
        have hNn : MM + 1 = N := hN.symm
        rw [hNn] at hR ⊢
        rw [List.take_of_length_le (by rw [Hll.out]; exact Nat.le_refl _)] at hR
        have HG : Hid (Good (stAt m ls 0) 1000) := Lib.hid (good0 1000 (by omega))
        have HQ : Hid (∃ L, Resp w1.heap.size wr ib L A' N c' os ([m] :: ls.map sing) ∧ Sys w1 wr ib L (stAt m ls 0)) := Lib.hid ⟨_, hR, hS⟩
        have hNb : N ≤ 61 := by omega
        have HN := Lib.hid hN
        clear H hR hS hNn hN hN1
        go_wp2_with fail
        go_loopw [61] (fun i wr => ∃ (k : Nat), k ≤ N ∧ i = .int .i64 (k : Int) ∧ Hid ((∃ L, Resp w1.heap.size wr ib L A' N c' os ([m] :: ls.map sing) ∧ Sys w1 wr ib L (stAt m ls k)) ∧ Good (stAt m ls k) (1000 - k))) (fun i _ => N - (intOf i).toNat)
        case atStart => exact ⟨0, by omega, rfl, Lib.hid ⟨HQ.out, HG.out⟩⟩
        case round =>
          clear HQ HG
          obtain ⟨k, hk, rfl, H⟩ := hrel
          by_cases hlt : k < N
          · have hlt' : (k : Int) < (N : Int) := by omega
            obtain ⟨⟨L, hR, hS⟩, hG⟩ := H.out
            obtain ⟨b, o, s, hA, _, hs, hc⟩ := hR.rd.at_ hlt
            obtain ⟨f, hf, hbf⟩ := hR.byt.at_ k s hs
            have hput := putAt m ls ⟨H1.out, hm7⟩ k f hf
            have hG1 : Good (stAt m ls k) ((1000 - (k + 1)) + 1) := hG.mono (by omega)
            have hfl : f.length ≤ 1000000 := by
              have : ∀ f ∈ ([m] :: ls.map sing), f.length = 1 := fun f hf => by
                rcases List.mem_cons.1 hf with rfl | hf
                · rfl
                · obtain ⟨x, _, rfl⟩ := List.mem_map.1 hf; rfl
              rw [this f (List.mem_of_getElem? hf)]; omega
            have hpg := put_good _ f _ hG1 hfl
            have hP := sys_Put hS hG1 s.A s.n s.c f hbf.rd hbf.lt hfl
            rw [hput] at hP hpg
            have HP := Lib.hid hP
            have HR := Lib.hid hR
            have Hpg := Lib.hid hpg
            unfold slv at hc
            clear H hR hS hG hs hf hbf hput hG1 hfl hpg hP
            rw [hA]
            have HAe := Lib.hid hA
            clear hA
            go_wp2_with fail
            refine HP.out.mono ?_
            rintro e w3 ⟨L3, A3, n3, c3, os3, got⟩
            have hret := got.ret
            have hn := got.resp.n_
            simp only [List.length_nil] at hn
            subst hn
            have Hfin : Hid ((∃ L, Resp w1.heap.size w3 ib L A' N c' os ([m] :: ls.map sing) ∧ Sys w1 w3 ib L (stAt m ls (k + 1))) ∧ Good (stAt m ls (k + 1)) (1000 - (k + 1))) := Lib.hid ⟨⟨L3, HR.out.step got.step, got.sys⟩, Hpg.out⟩
            rw [HAe.out] at Hfin
            clear got
            subst hret
            go_wp2_with fail
            go_roundw
            case rel => exact ⟨k + 1, by omega, by go_num, Hfin⟩
            case measure => simp [intOf]; omega
          · obtain rfl : k = N := by omega
            have h := H.out
            have hk1 : k = ls.length + 1 := by rw [Hll.out]; exact HN.out
            rw [show stAt m ls k = stT m ls 0 by rw [hk1]; exact stT0 m ls] at h
            have HQ : Hid (∃ L, Resp w1.heap.size wr ib L A' k c' os ([m] :: ls.map sing) ∧ Sys w1 wr ib L (stT m ls 0) ∧ Good (stT m ls 0) 900) := Lib.hid (by
              obtain ⟨⟨L, a, b⟩, c⟩ := h
              exact ⟨L, a, b, c.mono (by omega)⟩)
            clear H h hk1
            obtain ⟨M1, hM1⟩ : ∃ M1 : Nat, M1 + 1 = m := ⟨m - 1, by have := H1.out; omega⟩
            have hm1 : (m : Int) - 1 = (M1 : Int) := by omega
            have hw1 : IntKind.i64.wrap ((m : Int) - 1) = (M1 : Int) := by rw [hm1]; exact IntWalk.i64_in _ (by omega)
            have HM1 := Lib.hid hM1
            have hM6 : M1 ≤ 6 := by omega
            clear hM1 hm1
            go_wp2_with fail
            go_loopw [81] (fun i wr => ∃ (j : Nat), j ≤ M1 ∧ i = .int .i64 (j : Int) ∧ Hid (∃ L, Resp w1.heap.size wr ib L A' k c' os ([m] :: ls.map sing) ∧ Sys w1 wr ib L (stT m ls j) ∧ Good (stT m ls j) (900 - j))) (fun i _ => M1 - (intOf i).toNat)
            case atStart => exact ⟨0, by omega, rfl, HQ⟩
            case round =>
              clear HQ
              obtain ⟨j, hj, rfl, H⟩ := hrel
              by_cases hjt : j < M1
              · have hjt' : (j : Int) < (M1 : Int) := by omega
                obtain ⟨L, hR, hS, hG⟩ := H.out
                have hG1 : Good (stT m ls j) ((900 - (j + 1)) + 1) := hG.mono (by omega)
                have hT := sys_Turn hS hG1
                have hpg := turn_good _ _ hG1
                have htr := turnAt m ls j (by have := HM1.out; omega)
                rw [htr] at hT hpg
                have HT := Lib.hid hT
                have HR := Lib.hid hR
                have Hpg := Lib.hid hpg
                clear H hR hS hG hG1 hT hpg htr
                go_wp2_with fail
                refine HT.out.mono ?_
                rintro e w3 ⟨L3, A3, n3, c3, os3, got⟩
                have hret := got.ret
                have hn := got.resp.n_
                simp only [List.length_nil] at hn
                subst hn
                have Hfin : Hid (∃ L, Resp w1.heap.size w3 ib L A' k c' os ([m] :: ls.map sing) ∧ Sys w1 w3 ib L (stT m ls (j + 1)) ∧ Good (stT m ls (j + 1)) (900 - (j + 1))) := Lib.hid ⟨L3, HR.out.step got.step, got.sys, Hpg.out⟩
                have HW := Lib.hid (ib_Waiting _ _ _ _ got.sys.box)
                clear got
                subst hret
                have hwl : (((stT m ls (j + 1)).wait.length : Nat) : Int) = ((MM : Nat) : Int) := by
                  show (((ls.map sing).length : Nat) : Int) = _
                  rw [List.length_map, Hll.out]
                rw [hwl] at HW
                clear hwl
                have hne : (((MM : Nat) : Int) != ((MM : Nat) : Int)) = false := by simp
                go_wp2_with fail
                refine HW.out.mono ?_; rintro e wx ⟨rfl, rfl⟩
                go_wp2_with fail
                go_roundw
                case rel => exact ⟨j + 1, by omega, by go_num, Hfin⟩
                case measure => simp [intOf]; omega
              · obtain rfl : j = M1 := by omega
                obtain ⟨L, hR, hS, hG⟩ := H.out
                have hT := sys_Turn hS (hG.mono (M := 0 + 1) (by omega))
                have hj1 : j = m - 1 := by have := HM1.out; omega
                obtain ⟨l1, l2, l3⟩ := lastTurn m ls H1.out
                rw [← hj1] at l1 l2 l3
                have hzc := zc_le (ls.map sing)
                rw [List.length_map] at hzc
                have HZ : Hid (∀ i f, (ls.map sing)[i]? = some f → i < zc (ls.map sing) → needs f = 0) := Lib.hid (fun i f => zc_take _ i f)
                have HZ2 : Hid (∀ f, (ls.map sing)[zc (ls.map sing)]? = some f → needs f ≠ 0) := Lib.hid (zc_end _)
                have HTk : Hid (∀ z, True → ([m] :: ls.map sing).take (z + 1) = [m] :: (ls.map sing).take z) := Lib.hid (fun z _ => rfl)
                generalize turnF (stT m ls j) = res at hT l1 l2 l3
                generalize zc (ls.map sing) = z at hzc HZ HZ2 HTk l1 l2 l3
                have HT := Lib.hid hT
                have HR := Lib.hid hR
                have Hl1 := Lib.hid l1
                have Hl2 := Lib.hid l2
                have Hl3 := Lib.hid l3
                have hzM : z ≤ MM := by have := Hll.out; omega
                clear H hR hS hG hT l1 l2 l3 hj1 hzc hw1
                have hNk1 : k ≤ MM + 1 := Nat.le_of_eq HN.out
                have hNk2 : MM + 1 ≤ k := Nat.le_of_eq HN.out.symm
                have hk61 : (k : Int) ≤ 61 := by omega
                go_wp2_with fail
                refine HT.out.mono ?_
                rintro e w3 ⟨L3, A3, n3, c3, os3, got⟩
                have hret := got.ret
                have Hgot := Lib.hid got
                have hR3 := HR.out.step got.step
                have HR3 := Lib.hid hR3
                clear got hR3
                subst hret
                go_wp2_with fail
                go_loopw [18] (fun v wr => ∃ (Q : Nat), 1 ≤ Q ∧ Q ≤ z + 1 ∧ v = .int .i64 (Q : Int) ∧ Hid (Ext w3 wr)) (fun v _ => 100 - (intOf v).toNat)
                case atStart => exact ⟨1, by omega, by omega, rfl, Lib.hid (Ext.refl _)⟩
                case round =>
                  obtain ⟨Q, hQ1, hQz, rfl, H⟩ := hrel
                  by_cases hlt : Q < k
                  · have hlt' : (Q : Int) < (k : Int) := by omega
                    have hR := HR3.out.ext H.out
                    obtain ⟨b, o, s, hA, _, hs, hc⟩ := hR.rd.at_ hlt
                    obtain ⟨f, hf, hbf⟩ := hR.byt.at_ Q s hs
                    have hfq : (ls.map sing)[Q - 1]? = some f := by
                      obtain ⟨q, rfl⟩ : ∃ q, Q = q + 1 := ⟨Q - 1, by omega⟩
                      simpa using hf
                    have HD := Lib.hid (needs_ s.A s.n s.c f wr hbf.rd hbf.lt)
                    have hAc : (Q : Int) ≤ (c' : Int) := by have := hR.room.2.1; omega
                    unfold slv at hc
                    have HAe := Lib.hid hA
                    have Hf := Lib.hid hfq
                    clear hR hs hf hbf hfq
                    by_cases hqz : Q ≤ z
                    · have h0 := HZ.out _ f Hf.out (by omega)
                      rw [h0] at HD
                      clear h0
                      rw [hA]
                      clear hA
                      go_wp2_with fail
                      refine HD.out.mono ?_; rintro e wx ⟨rfl, rfl⟩
                      go_wp2_with fail
                      go_roundw
                      case rel => exact ⟨Q + 1, by omega, by omega, by go_num, H⟩
                      case measure => simp [intOf]; omega
                    ·   have hQe : Q = z + 1 := by omega
                        have h0 := HZ2.out f (by rw [← Hf.out, hQe]; rfl)
                        have hne : (((needs f : Nat) : Int) == 0) = false := by simp; omega
                        have hwl : ((res.1.wait.length : Nat) : Int) = (k : Int) - (Q : Int) - 1 := by have := Hl3.out; have := Hll.out; omega
                        have hpe : res.1.pend = true := by rw [Hl2.out, Hll.out]; simp; omega
                        have hqq : (((k : Int) - (Q : Int) - 1) == ((k : Int) - (Q : Int) - 1)) = true := by simp
                        have HFr : Hid (Calls Try.prog 20 #[.slice A3 n3 c3, .slice A' Q c'] wr fun e w' => e = .returned (.bool true) ∧ wr = w') := Lib.hid (by
                          have hd : res.2 = ([m] :: ls.map sing).take Q := by rw [Hl1.out, hQe]; exact (HTk.out z trivial).symm
                          have hR := HR3.out.ext H.out
                          have h := framesR A3 A' n3 Q c3 c' os3 (os.take Q) res.2 (([m] :: ls.map sing).take Q) wr (Hgot.out.resp.ext H.out).rd (Reads.of (Hgot.out.resp.ext H.out).byt) (hR.rd.take (by omega)) ((Reads.of hR.byt).take Q) Hgot.out.resp.le (by have := hR.le; omega)
                          rwa [show decide (res.2 = ([m] :: ls.map sing).take Q) = true from decide_eq_true hd] at h)
                        have HP := Lib.hid (ib_Pending _ _ _ _ (Hgot.out.sys.box.ext H.out))
                        have HW := Lib.hid (ib_Waiting _ _ _ _ (Hgot.out.sys.box.ext H.out))
                        have Hend : Hid (Ext w wr) := Lib.hid (E1.out.t (Hgot.out.sys.below.trans (H.out.mono (by have := Hgot.out.sys.below.size; omega))))
                        rw [hpe] at HP
                        rw [hwl] at HW
                        rw [hA] at HFr
                        rw [hA]
                        clear h0 hpe hwl hA hQe
                        go_wp2_with fail
                        refine HD.out.mono ?_; rintro e wx ⟨rfl, rfl⟩
                        go_wp2_with fail
                        refine HFr.out.mono ?_; rintro e wx ⟨rfl, rfl⟩
                        go_wp2_with fail
                        refine HP.out.mono ?_; rintro e wx ⟨rfl, rfl⟩
                        go_wp2_with fail
                        refine HW.out.mono ?_; rintro e wx ⟨rfl, rfl⟩
                        go_wp2_with fail
                        go_ret
                        exact ⟨rfl, Hend.out⟩
                  ·     have hQe : Q = z + 1 := by omega
                        have hAc : (Q : Int) ≤ (c' : Int) := by have := (HR3.out.ext H.out).room.2.1; omega
                        have hwl : ((res.1.wait.length : Nat) : Int) = 0 := by have := Hl3.out; have := Hll.out; omega
                        have hpe : res.1.pend = false := by rw [Hl2.out, Hll.out]; simp; omega
                        have HFr : Hid (Calls Try.prog 20 #[.slice A3 n3 c3, .slice A' Q c'] wr fun e w' => e = .returned (.bool true) ∧ wr = w') := Lib.hid (by
                          have hd : res.2 = ([m] :: ls.map sing).take Q := by rw [Hl1.out, hQe]; exact (HTk.out z trivial).symm
                          have hR := HR3.out.ext H.out
                          have h := framesR A3 A' n3 Q c3 c' os3 (os.take Q) res.2 (([m] :: ls.map sing).take Q) wr (Hgot.out.resp.ext H.out).rd (Reads.of (Hgot.out.resp.ext H.out).byt) (hR.rd.take (by omega)) ((Reads.of hR.byt).take Q) Hgot.out.resp.le (by have := hR.le; omega)
                          rwa [show decide (res.2 = ([m] :: ls.map sing).take Q) = true from decide_eq_true hd] at h)
                        have HP := Lib.hid (ib_Pending _ _ _ _ (Hgot.out.sys.box.ext H.out))
                        have HW := Lib.hid (ib_Waiting _ _ _ _ (Hgot.out.sys.box.ext H.out))
                        have Hend : Hid (Ext w wr) := Lib.hid (E1.out.t (Hgot.out.sys.below.trans (H.out.mono (by have := Hgot.out.sys.below.size; omega))))
                        have hkQ : k = Q := by omega
                        subst hkQ
                        rw [hpe] at HP
                        rw [hwl] at HW
                        clear hpe hwl hQe
                        go_wp2_with fail
                        refine HFr.out.mono ?_; rintro e wx ⟨rfl, rfl⟩
                        go_wp2_with fail
                        refine HP.out.mono ?_; rintro e wx ⟨rfl, rfl⟩
                        go_wp2_with fail
                        refine HW.out.mono ?_; rintro e wx ⟨rfl, rfl⟩
                        go_wp2_with fail
                        go_ret
                        exact ⟨rfl, Hend.out⟩
  · have h1 : (60 : Int) < (n : Int) := by omega
    have h2 : (60 : Int) ≤ (c : Int) := by omega
    have HL := Lib.hid (h.rd.take (k := 60) (by omega))
    have Hlt : Hid (∀ x ∈ xs.take 60, x < 256) := Lib.hid (fun x hx => h.lt x (List.mem_of_mem_take hx))
    clear h
    generalize xs.take 60 = ls at HL Hlt
    go_enter Try.func4, Try.ntmps4
    go_wp2_with fail
    refine HA.out.mono ?_; rintro e w1 ⟨rfl, e1⟩
    go_wp2_with fail
    refine (ib_New _ _).mono ?_
    rintro e w2 ⟨rfl, hib, he, hsz⟩
    have hsb := Blk.new w1 31 #[.slice none 0 0, .int .i64 0, .slice none 0 0, .slice none 0 0]
    have hS := sys_new (Below.refl w1.heap.size w1) (Ext.alloc w1 _) (Nat.le_refl _) hsb hib he
    rw [World.size_alloc] at *
    generalize hibe : w1.heap.size + 1 = ib at hS ⊢
    have HS := Lib.hid hS
    have E1 := Lib.hid e1
    have HL2 := Lib.hid ((HL.out.ext e1).ext HS.out.below)
    clear hS hsb hib he hsz hibe e1
    go_upto_region 8 with fail
    obtain ⟨MM, hMM⟩ : ∃ M, M = 60 := ⟨_, rfl⟩
    have hMle : MM ≤ 60 := by omega
    rw [show Value.slice A 60 c = Value.slice A MM c by rw [hMM]]
    rw [← hMM] at HL2
    have HLM := Lib.hid (hMM ▸ HL.out)
    obtain ⟨m, hm, hm1, hm7⟩ : ∃ m : Nat, (1 + (a : Int) % 7) = (m : Int) ∧ 1 ≤ m ∧ m ≤ 7 := ⟨1 + a % 7, by omega, by omega, by omega⟩
    rw [hm]
    obtain ⟨N, hN⟩ : ∃ N, N = MM + 1 := ⟨_, rfl⟩
    have hll : ls.length = MM := HL2.out.1
    have Hll := Lib.hid hll
    have H1 := Lib.hid hm1
    have hm8 : IntKind.u8.wrap (m : Int) = (m : Int) := IntWalk.u8_in _ (by omega)
    clear hm hll hMM
    go_wp2_with (refine wpl_build (by rfl) rfl ul_u8 info_u8 [.tmp 44] (by rfl) (by rfl) (by decide) (f := u8v) [m] (by rfl) (fun _ => rfl) ?_)
    intro g1 w3 b3 e3 lo3 r3; refine Lib.hid ?_
    go_wp2_with (refine wpl_build (by rfl) rfl ul_bb info_bb [.tmp 45] (by rfl) (by rfl) (by decide) (f := slv) [⟨some ⟨g1, 0, none⟩, 1, 1⟩] (by rfl) (fun _ => rfl) ?_)
    intro g2 w4 b4 e4 lo4 r4; refine Lib.hid ?_
    have HR : Hid (∃ os, Resp w1.heap.size w4 ib (lay0 w1.heap.size) (some ⟨g2, 0, none⟩) 1 1 os ([m] :: (ls.take 0).map sing) ∧ Sys w1 w4 ib (lay0 w1.heap.size) st0) := Lib.hid (by
      have hz := HS.out.below.size
      have hz3 := e3.size
      have y : Byt w3 ⟨some ⟨g1, 0, none⟩, 1, 1⟩ [m] := ⟨Room.of_blk b3 rfl (by simp [maxLen]), fun x hx => by simp at hx; omega⟩
      have hb : ∀ k, boxF ib (lay0 w1.heap.size) k → k < w2.heap.size := fun k hk => HS.out.box.lt hk
      refine ⟨[⟨some ⟨g1, 0, none⟩, 1, 1⟩], ⟨rfl, Room.of_blk b4 rfl (by simp [maxLen]), Byts.nil.snoc (y.ext e4), fun k hk hk2 => ?_, fun k hk hk2 => ?_, fun k hk hk2 => ?_, fun k hk => ?_⟩, (HS.out.ext e3).ext e4⟩
      · have := foot_some hk; have := hb k hk2; omega
      · have := foot_some (foots_one.1 hk); have := hb k hk2; omega
      · have h1 := foot_some (foots_one.1 hk); have h2 := foot_some hk2; have := b3.lt; omega
      · have := foot_some hk; omega)
    clear b3 e3 lo3 r3 b4 e4 lo4 r4
    have HL3 : Hid (∀ wr, Below w1.heap.size w1 wr → Rd u8v wr A MM ls) := Lib.hid (fun wr e => (HLM.out.ext E1.out).ext e)
    clear HL2 HS
    go_wp2_with fail
    go_loopw [8, 49] (fun v i wr => ∃ (k : Nat) (A' : Option Addr) (c' : Nat), k ≤ MM ∧ i = .int .i64 (k : Int) ∧ v = .slice A' (k + 1) c' ∧ Hid (∃ os, Resp w1.heap.size wr ib (lay0 w1.heap.size) A' (k + 1) c' os ([m] :: (ls.take k).map sing) ∧ Sys w1 wr ib (lay0 w1.heap.size) st0)) (fun _ i _ => MM - (intOf i).toNat)
    case atStart => exact ⟨0, _, _, by omega, rfl, rfl, HR⟩
    case round =>
      clear HR
      obtain ⟨k, A', c', hk, rfl, rfl, H⟩ := hrel
      by_cases hlt : k < MM
      · have hlt' : (k : Int) < (MM : Int) := by omega
        obtain ⟨os, hR, hS⟩ := H.out
        have hrd := HL3.out wr hS.below
        obtain ⟨b, o, x, hA, _, hx, hc⟩ := hrd.at_ hlt
        have hx256 := Hlt.out x (List.mem_of_getElem? hx)
        have Hx := Lib.hid hx
        have HR := Lib.hid hR
        have HS := Lib.hid hS
        clear H hR hS hrd hx
        rw [hA]
        clear hA
        go_wp2_with (refine wpl_build (by rfl) rfl ul_u8 info_u8 [.tmp 54] (by rfl) (by rfl) (by decide) (f := u8v) [x] (by rfl) (fun _ => rfl) ?_)
        intro g1 w5 b5 e5 lo5 r5; refine Lib.hid ?_
        go_wp2_with (refine wpl_build (by rfl) rfl ul_bb info_bb [.tmp 55] (by rfl) (by rfl) (by decide) (f := slv) [⟨some ⟨g1, 0, none⟩, 1, 1⟩] (by rfl) (fun _ => rfl) ?_)
        intro g2 w6 b6 e6 lo6 r6; refine Lib.hid ?_
        have hrr := (HR.out.room.ext e5).ext e6
        have y : Byt w5 ⟨some ⟨g1, 0, none⟩, 1, 1⟩ (sing x) := ⟨Room.of_blk b5 rfl (by simp [maxLen]), fun x hx => by simp [sing] at hx; omega⟩
        have Hy := Lib.hid (y.ext e6)
        have E5 := Lib.hid e5
        have E6 := Lib.hid e6
        have Lo5 := Lib.hid lo5
        clear y b5 e5 lo5 r5 b6 e6 lo6
        go_wp2_with (refine wpl_append_at (by rfl) rfl ul_bb info_bb rfl rfl hrr rfl (Src.ofRd ul_bb r6 (fun _ => rfl)) (by simp only [maxLen]; omega) (by omega) ?_)
        intro A4 c4 w7 r4 ch4 ft4; refine Lib.hid ?_
        have hfin : ∃ os, Resp w1.heap.size w7 ib (lay0 w1.heap.size) A4 (k + 1 + 1) c4 os ([m] :: (ls.take (k + 1)).map sing) ∧ Sys w1 w7 ib (lay0 w1.heap.size) st0 := by
          have hz5 := E5.out.size
          have hz6 := E6.out.size
          have hS := (HS.out.ext E5.out).ext E6.out
          have hR := (HR.out.ext E5.out).ext E6.out
          have ha := hR.append (n2 := 1) (os2 := [⟨some ⟨g1, 0, none⟩, 1, 1⟩]) (xss2 := [sing x]) (by have := HS.out.below.size; omega) (Byts.nil.snoc Hy.out) rfl (fun k' hk' => by
            have h1 := foot_some (foots_one.1 hk')
            have h2 := Lo5.out
            refine ⟨fun h3 => ?_, fun h3 => ?_⟩
            · have := HS.out.box.lt h3; omega
            · have := HR.out.room.lt h3; omega) (fun k' hk' => hS.box.lt hk') r4 ch4 ft4
          refine ⟨os ++ [⟨some ⟨g1, 0, none⟩, 1, 1⟩], ?_, hS.chg ch4 (fun k' hk' => ⟨hR.na k' hk', hR.base k' hk'⟩)⟩
          rw [take_snoc Hx.out, List.map_append]
          exact ha
        have Hfin := Lib.hid hfin
        clear hfin r4 ch4 ft4 hrr r6
        go_wp2_with fail
        go_roundw
        case rel => exact ⟨k + 1, A4, c4, by omega, by go_num, rfl, Hfin⟩
        case measure => simp [intOf]; omega
      · obtain rfl : MM = k := by omega
        obtain ⟨os, hR, hS⟩ := H.out
        have hN1 : (((MM : Nat) : Int) + 1) = (N : Int) := by omega
        have hNn : MM + 1 = N := hN.symm
        rw [hNn] at hR ⊢
        rw [List.take_of_length_le (by rw [Hll.out]; exact Nat.le_refl _)] at hR
        have HG : Hid (Good (stAt m ls 0) 1000) := Lib.hid (good0 1000 (by omega))
        have HQ : Hid (∃ L, Resp w1.heap.size wr ib L A' N c' os ([m] :: ls.map sing) ∧ Sys w1 wr ib L (stAt m ls 0)) := Lib.hid ⟨_, hR, hS⟩
        have hNb : N ≤ 61 := by omega
        have HN := Lib.hid hN
        clear H hR hS hNn hN hN1
        go_wp2_with fail
        go_loopw [61] (fun i wr => ∃ (k : Nat), k ≤ N ∧ i = .int .i64 (k : Int) ∧ Hid ((∃ L, Resp w1.heap.size wr ib L A' N c' os ([m] :: ls.map sing) ∧ Sys w1 wr ib L (stAt m ls k)) ∧ Good (stAt m ls k) (1000 - k))) (fun i _ => N - (intOf i).toNat)
        case atStart => exact ⟨0, by omega, rfl, Lib.hid ⟨HQ.out, HG.out⟩⟩
        case round =>
          clear HQ HG
          obtain ⟨k, hk, rfl, H⟩ := hrel
          by_cases hlt : k < N
          · have hlt' : (k : Int) < (N : Int) := by omega
            obtain ⟨⟨L, hR, hS⟩, hG⟩ := H.out
            obtain ⟨b, o, s, hA, _, hs, hc⟩ := hR.rd.at_ hlt
            obtain ⟨f, hf, hbf⟩ := hR.byt.at_ k s hs
            have hput := putAt m ls ⟨H1.out, hm7⟩ k f hf
            have hG1 : Good (stAt m ls k) ((1000 - (k + 1)) + 1) := hG.mono (by omega)
            have hfl : f.length ≤ 1000000 := by
              have : ∀ f ∈ ([m] :: ls.map sing), f.length = 1 := fun f hf => by
                rcases List.mem_cons.1 hf with rfl | hf
                · rfl
                · obtain ⟨x, _, rfl⟩ := List.mem_map.1 hf; rfl
              rw [this f (List.mem_of_getElem? hf)]; omega
            have hpg := put_good _ f _ hG1 hfl
            have hP := sys_Put hS hG1 s.A s.n s.c f hbf.rd hbf.lt hfl
            rw [hput] at hP hpg
            have HP := Lib.hid hP
            have HR := Lib.hid hR
            have Hpg := Lib.hid hpg
            unfold slv at hc
            clear H hR hS hG hs hf hbf hput hG1 hfl hpg hP
            rw [hA]
            have HAe := Lib.hid hA
            clear hA
            go_wp2_with fail
            refine HP.out.mono ?_
            rintro e w3 ⟨L3, A3, n3, c3, os3, got⟩
            have hret := got.ret
            have hn := got.resp.n_
            simp only [List.length_nil] at hn
            subst hn
            have Hfin : Hid ((∃ L, Resp w1.heap.size w3 ib L A' N c' os ([m] :: ls.map sing) ∧ Sys w1 w3 ib L (stAt m ls (k + 1))) ∧ Good (stAt m ls (k + 1)) (1000 - (k + 1))) := Lib.hid ⟨⟨L3, HR.out.step got.step, got.sys⟩, Hpg.out⟩
            rw [HAe.out] at Hfin
            clear got
            subst hret
            go_wp2_with fail
            go_roundw
            case rel => exact ⟨k + 1, by omega, by go_num, Hfin⟩
            case measure => simp [intOf]; omega
          · obtain rfl : k = N := by omega
            have h := H.out
            have hk1 : k = ls.length + 1 := by rw [Hll.out]; exact HN.out
            rw [show stAt m ls k = stT m ls 0 by rw [hk1]; exact stT0 m ls] at h
            have HQ : Hid (∃ L, Resp w1.heap.size wr ib L A' k c' os ([m] :: ls.map sing) ∧ Sys w1 wr ib L (stT m ls 0) ∧ Good (stT m ls 0) 900) := Lib.hid (by
              obtain ⟨⟨L, a, b⟩, c⟩ := h
              exact ⟨L, a, b, c.mono (by omega)⟩)
            clear H h hk1
            obtain ⟨M1, hM1⟩ : ∃ M1 : Nat, M1 + 1 = m := ⟨m - 1, by have := H1.out; omega⟩
            have hm1 : (m : Int) - 1 = (M1 : Int) := by omega
            have hw1 : IntKind.i64.wrap ((m : Int) - 1) = (M1 : Int) := by rw [hm1]; exact IntWalk.i64_in _ (by omega)
            have HM1 := Lib.hid hM1
            have hM6 : M1 ≤ 6 := by omega
            clear hM1 hm1
            go_wp2_with fail
            go_loopw [81] (fun i wr => ∃ (j : Nat), j ≤ M1 ∧ i = .int .i64 (j : Int) ∧ Hid (∃ L, Resp w1.heap.size wr ib L A' k c' os ([m] :: ls.map sing) ∧ Sys w1 wr ib L (stT m ls j) ∧ Good (stT m ls j) (900 - j))) (fun i _ => M1 - (intOf i).toNat)
            case atStart => exact ⟨0, by omega, rfl, HQ⟩
            case round =>
              clear HQ
              obtain ⟨j, hj, rfl, H⟩ := hrel
              by_cases hjt : j < M1
              · have hjt' : (j : Int) < (M1 : Int) := by omega
                obtain ⟨L, hR, hS, hG⟩ := H.out
                have hG1 : Good (stT m ls j) ((900 - (j + 1)) + 1) := hG.mono (by omega)
                have hT := sys_Turn hS hG1
                have hpg := turn_good _ _ hG1
                have htr := turnAt m ls j (by have := HM1.out; omega)
                rw [htr] at hT hpg
                have HT := Lib.hid hT
                have HR := Lib.hid hR
                have Hpg := Lib.hid hpg
                clear H hR hS hG hG1 hT hpg htr
                go_wp2_with fail
                refine HT.out.mono ?_
                rintro e w3 ⟨L3, A3, n3, c3, os3, got⟩
                have hret := got.ret
                have hn := got.resp.n_
                simp only [List.length_nil] at hn
                subst hn
                have Hfin : Hid (∃ L, Resp w1.heap.size w3 ib L A' k c' os ([m] :: ls.map sing) ∧ Sys w1 w3 ib L (stT m ls (j + 1)) ∧ Good (stT m ls (j + 1)) (900 - (j + 1))) := Lib.hid ⟨L3, HR.out.step got.step, got.sys, Hpg.out⟩
                have HW := Lib.hid (ib_Waiting _ _ _ _ got.sys.box)
                clear got
                subst hret
                have hwl : (((stT m ls (j + 1)).wait.length : Nat) : Int) = ((MM : Nat) : Int) := by
                  show (((ls.map sing).length : Nat) : Int) = _
                  rw [List.length_map, Hll.out]
                rw [hwl] at HW
                clear hwl
                have hne : (((MM : Nat) : Int) != ((MM : Nat) : Int)) = false := by simp
                go_wp2_with fail
                refine HW.out.mono ?_; rintro e wx ⟨rfl, rfl⟩
                go_wp2_with fail
                go_roundw
                case rel => exact ⟨j + 1, by omega, by go_num, Hfin⟩
                case measure => simp [intOf]; omega
              · obtain rfl : j = M1 := by omega
                obtain ⟨L, hR, hS, hG⟩ := H.out
                have hT := sys_Turn hS (hG.mono (M := 0 + 1) (by omega))
                have hj1 : j = m - 1 := by have := HM1.out; omega
                obtain ⟨l1, l2, l3⟩ := lastTurn m ls H1.out
                rw [← hj1] at l1 l2 l3
                have hzc := zc_le (ls.map sing)
                rw [List.length_map] at hzc
                have HZ : Hid (∀ i f, (ls.map sing)[i]? = some f → i < zc (ls.map sing) → needs f = 0) := Lib.hid (fun i f => zc_take _ i f)
                have HZ2 : Hid (∀ f, (ls.map sing)[zc (ls.map sing)]? = some f → needs f ≠ 0) := Lib.hid (zc_end _)
                have HTk : Hid (∀ z, True → ([m] :: ls.map sing).take (z + 1) = [m] :: (ls.map sing).take z) := Lib.hid (fun z _ => rfl)
                generalize turnF (stT m ls j) = res at hT l1 l2 l3
                generalize zc (ls.map sing) = z at hzc HZ HZ2 HTk l1 l2 l3
                have HT := Lib.hid hT
                have HR := Lib.hid hR
                have Hl1 := Lib.hid l1
                have Hl2 := Lib.hid l2
                have Hl3 := Lib.hid l3
                have hzM : z ≤ MM := by have := Hll.out; omega
                clear H hR hS hG hT l1 l2 l3 hj1 hzc hw1
                have hNk1 : k ≤ MM + 1 := Nat.le_of_eq HN.out
                have hNk2 : MM + 1 ≤ k := Nat.le_of_eq HN.out.symm
                have hk61 : (k : Int) ≤ 61 := by omega
                go_wp2_with fail
                refine HT.out.mono ?_
                rintro e w3 ⟨L3, A3, n3, c3, os3, got⟩
                have hret := got.ret
                have Hgot := Lib.hid got
                have hR3 := HR.out.step got.step
                have HR3 := Lib.hid hR3
                clear got hR3
                subst hret
                go_wp2_with fail
                go_loopw [18] (fun v wr => ∃ (Q : Nat), 1 ≤ Q ∧ Q ≤ z + 1 ∧ v = .int .i64 (Q : Int) ∧ Hid (Ext w3 wr)) (fun v _ => 100 - (intOf v).toNat)
                case atStart => exact ⟨1, by omega, by omega, rfl, Lib.hid (Ext.refl _)⟩
                case round =>
                  obtain ⟨Q, hQ1, hQz, rfl, H⟩ := hrel
                  by_cases hlt : Q < k
                  · have hlt' : (Q : Int) < (k : Int) := by omega
                    have hR := HR3.out.ext H.out
                    obtain ⟨b, o, s, hA, _, hs, hc⟩ := hR.rd.at_ hlt
                    obtain ⟨f, hf, hbf⟩ := hR.byt.at_ Q s hs
                    have hfq : (ls.map sing)[Q - 1]? = some f := by
                      obtain ⟨q, rfl⟩ : ∃ q, Q = q + 1 := ⟨Q - 1, by omega⟩
                      simpa using hf
                    have HD := Lib.hid (needs_ s.A s.n s.c f wr hbf.rd hbf.lt)
                    have hAc : (Q : Int) ≤ (c' : Int) := by have := hR.room.2.1; omega
                    unfold slv at hc
                    have HAe := Lib.hid hA
                    have Hf := Lib.hid hfq
                    clear hR hs hf hbf hfq
                    by_cases hqz : Q ≤ z
                    · have h0 := HZ.out _ f Hf.out (by omega)
                      rw [h0] at HD
                      clear h0
                      rw [hA]
                      clear hA
                      go_wp2_with fail
                      refine HD.out.mono ?_; rintro e wx ⟨rfl, rfl⟩
                      go_wp2_with fail
                      go_roundw
                      case rel => exact ⟨Q + 1, by omega, by omega, by go_num, H⟩
                      case measure => simp [intOf]; omega
                    ·   have hQe : Q = z + 1 := by omega
                        have h0 := HZ2.out f (by rw [← Hf.out, hQe]; rfl)
                        have hne : (((needs f : Nat) : Int) == 0) = false := by simp; omega
                        have hwl : ((res.1.wait.length : Nat) : Int) = (k : Int) - (Q : Int) - 1 := by have := Hl3.out; have := Hll.out; omega
                        have hpe : res.1.pend = true := by rw [Hl2.out, Hll.out]; simp; omega
                        have hqq : (((k : Int) - (Q : Int) - 1) == ((k : Int) - (Q : Int) - 1)) = true := by simp
                        have HFr : Hid (Calls Try.prog 20 #[.slice A3 n3 c3, .slice A' Q c'] wr fun e w' => e = .returned (.bool true) ∧ wr = w') := Lib.hid (by
                          have hd : res.2 = ([m] :: ls.map sing).take Q := by rw [Hl1.out, hQe]; exact (HTk.out z trivial).symm
                          have hR := HR3.out.ext H.out
                          have h := framesR A3 A' n3 Q c3 c' os3 (os.take Q) res.2 (([m] :: ls.map sing).take Q) wr (Hgot.out.resp.ext H.out).rd (Reads.of (Hgot.out.resp.ext H.out).byt) (hR.rd.take (by omega)) ((Reads.of hR.byt).take Q) Hgot.out.resp.le (by have := hR.le; omega)
                          rwa [show decide (res.2 = ([m] :: ls.map sing).take Q) = true from decide_eq_true hd] at h)
                        have HP := Lib.hid (ib_Pending _ _ _ _ (Hgot.out.sys.box.ext H.out))
                        have HW := Lib.hid (ib_Waiting _ _ _ _ (Hgot.out.sys.box.ext H.out))
                        have Hend : Hid (Ext w wr) := Lib.hid (E1.out.t (Hgot.out.sys.below.trans (H.out.mono (by have := Hgot.out.sys.below.size; omega))))
                        rw [hpe] at HP
                        rw [hwl] at HW
                        rw [hA] at HFr
                        rw [hA]
                        clear h0 hpe hwl hA hQe
                        go_wp2_with fail
                        refine HD.out.mono ?_; rintro e wx ⟨rfl, rfl⟩
                        go_wp2_with fail
                        refine HFr.out.mono ?_; rintro e wx ⟨rfl, rfl⟩
                        go_wp2_with fail
                        refine HP.out.mono ?_; rintro e wx ⟨rfl, rfl⟩
                        go_wp2_with fail
                        refine HW.out.mono ?_; rintro e wx ⟨rfl, rfl⟩
                        go_wp2_with fail
                        go_ret
                        exact ⟨rfl, Hend.out⟩
                  ·     have hQe : Q = z + 1 := by omega
                        have hAc : (Q : Int) ≤ (c' : Int) := by have := (HR3.out.ext H.out).room.2.1; omega
                        have hwl : ((res.1.wait.length : Nat) : Int) = 0 := by have := Hl3.out; have := Hll.out; omega
                        have hpe : res.1.pend = false := by rw [Hl2.out, Hll.out]; simp; omega
                        have HFr : Hid (Calls Try.prog 20 #[.slice A3 n3 c3, .slice A' Q c'] wr fun e w' => e = .returned (.bool true) ∧ wr = w') := Lib.hid (by
                          have hd : res.2 = ([m] :: ls.map sing).take Q := by rw [Hl1.out, hQe]; exact (HTk.out z trivial).symm
                          have hR := HR3.out.ext H.out
                          have h := framesR A3 A' n3 Q c3 c' os3 (os.take Q) res.2 (([m] :: ls.map sing).take Q) wr (Hgot.out.resp.ext H.out).rd (Reads.of (Hgot.out.resp.ext H.out).byt) (hR.rd.take (by omega)) ((Reads.of hR.byt).take Q) Hgot.out.resp.le (by have := hR.le; omega)
                          rwa [show decide (res.2 = ([m] :: ls.map sing).take Q) = true from decide_eq_true hd] at h)
                        have HP := Lib.hid (ib_Pending _ _ _ _ (Hgot.out.sys.box.ext H.out))
                        have HW := Lib.hid (ib_Waiting _ _ _ _ (Hgot.out.sys.box.ext H.out))
                        have Hend : Hid (Ext w wr) := Lib.hid (E1.out.t (Hgot.out.sys.below.trans (H.out.mono (by have := Hgot.out.sys.below.size; omega))))
                        have hkQ : k = Q := by omega
                        subst hkQ
                        rw [hpe] at HP
                        rw [hwl] at HW
                        clear hpe hwl hQe
                        go_wp2_with fail
                        refine HFr.out.mono ?_; rintro e wx ⟨rfl, rfl⟩
                        go_wp2_with fail
                        refine HP.out.mono ?_; rintro e wx ⟨rfl, rfl⟩
                        go_wp2_with fail
                        refine HW.out.mono ?_; rintro e wx ⟨rfl, rfl⟩
                        go_wp2_with fail
                        go_ret
                        exact ⟨rfl, Hend.out⟩
theorem walkInboxWaits (a : Int) (A : Option Addr) (n c : Nat) (xs : List Nat) (w : World) (ha : (Lit.int .u8 a).wf = true) (h : Arg .u8 256 w A n c xs) :
    Calls Try.prog 4 #[.int .u8 a, .slice A n c] w fun e w' => e = .returned (.bool true) ∧ Below w.heap.size w w' := by
  have ha := bounds_u8 ha
  obtain ⟨a, rfl⟩ := Int.eq_ofNat_of_zero_le ha.1
  exact waits_ a A n c xs w (by omega) h
end Go.Proofs.Ytpipnefepnknoaa
