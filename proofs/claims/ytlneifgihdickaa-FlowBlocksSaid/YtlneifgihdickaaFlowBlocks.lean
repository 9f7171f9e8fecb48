/- FlowBlocks: the walk of the law: for any list of small instructions it answers true and leaves all memory as it was (no condition). -/
import Derived.Test.YtlneifgihdickaaFbt
import Derived.Test.YtlneifgihdickaaFlowNext
namespace Go.Fx
open Go.RowKit Go.Proofs Go.Proofs.Ytlneifgihdickaa
/-- Where the next block begins. -/
def stF (fs : List (Nat × Nat)) : Nat → Nat
  | 0 => 0
  | k + 1 => ((fs[k]?).getD (0, 0)).2
theorem st_at {L : Nat → Bool} {n k : Nat} {fs : List (Nat × Nat)} {x : Nat × Nat} (h : ChB L 0 fs n) (hx : fs[k]? = some x) : x.1 = stF fs k := by
  cases k with
  | zero => exact (h.at_ hx).1 rfl
  | succ k =>
    have hk := (List.getElem?_eq_some_iff.1 hx).1
    obtain ⟨y, hy⟩ : ∃ y, fs[k]? = some y := ⟨_, List.getElem?_eq_getElem (by omega)⟩
    show x.1 = ((fs[k]?).getD (0, 0)).2
    rw [hy]
    obtain ⟨_, _, _, _, h5⟩ := h.at_ hy
    rcases h5 with ⟨h5, _⟩ | ⟨_, _, z, h6, h7⟩
    · omega
    · rw [hx] at h6
      obtain rfl := Option.some.inj h6
      exact h7
theorem st_end {L : Nat → Bool} {n : Nat} {fs : List (Nat × Nat)} (h : ChB L 0 fs n) (hn : 0 < n) : stF fs fs.length = n := by
  cases hl : fs with
  | nil => rw [hl] at h; cases h; omega
  | cons a l =>
    obtain ⟨y, hy⟩ : ∃ y, fs[l.length]? = some y := ⟨_, List.getElem?_eq_getElem (by rw [hl]; simp)⟩
    obtain ⟨_, _, _, _, h5⟩ := h.at_ hy
    rw [hl] at hy
    show ((((a :: l) : List (Nat × Nat))[l.length]?).getD (0, 0)).2 = n
    rw [hy]
    rcases h5 with ⟨_, h5⟩ | ⟨_, _, z, h6, _⟩
    · exact h5
    · have := (List.getElem?_eq_some_iff.1 h6).1
      rw [hl, List.length_cons] at this; omega
end Go.Fx
namespace Go.Proofs.Ytlneifgihdickaa
open Go.RowKit Go.Fx
structure FbJ (w : World) (p : List Ins) (A2 : Option Addr) (n2 c2 : Nat) (A3 : Option Addr) (m : Nat) (bs : List Bk) (W : World) : Prop where
  new : NewS w p W A2 n2 c2
  bl : BlsR W A3 m bs
theorem FbJ.x {w : World} {p : List Ins} {A2 : Option Addr} {n2 c2 : Nat} {A3 : Option Addr} {m : Nat} {bs : List Bk} {W W' : World} (h : FbJ w p A2 n2 c2 A3 m bs W) (e : Ext W W') : FbJ w p A2 n2 c2 A3 m bs W' := ⟨h.new.exte e, h.bl.ext e⟩
structure FbK (w : World) (p : List Ins) (A2 : Option Addr) (n2 c2 : Nat) (A3 : Option Addr) (m : Nat) (bs : List Bk) (g f t : Nat) (sA : Option Addr) (sn sc : Nat) (ln : List Nat) (W : World) : Prop where
  j : FbJ w p A2 n2 c2 A3 m bs W
  b : Blk W g 53 #[.int .i64 (f : Int), .int .i64 (t : Int), .slice sA sn sc]
  rn : Rd intv W sA sn ln
theorem FbK.x {w : World} {p : List Ins} {A2 : Option Addr} {n2 c2 : Nat} {A3 : Option Addr} {m : Nat} {bs : List Bk} {g f t : Nat} {sA : Option Addr} {sn sc : Nat} {ln : List Nat} {W W' : World} (h : FbK w p A2 n2 c2 A3 m bs g f t sA sn sc ln W) (e : Ext W W') : FbK w p A2 n2 c2 A3 m bs g f t sA sn sc ln W' := ⟨h.j.x e, h.b.ext e, h.rn.ext e⟩
theorem blk_blc {W : World} {g f t : Nat} {tt : TypeId} {sA : Option Addr} {sn sc : Nat} (h : Blk W g tt #[.int .i64 (f : Int), .int .i64 (t : Int), .slice sA sn sc]) : W.cell? ⟨g, 0, none⟩ = some (.int .i64 (f : Int)) ∧ W.cell? ⟨g, 1, none⟩ = some (.int .i64 (t : Int)) ∧ W.cell? ⟨g, 2, none⟩ = some (.slice sA sn sc) := by
  refine ⟨?_, ?_, ?_⟩
  · rw [h.cell]; rfl
  · rw [h.cell]; rfl
  · rw [h.cell]; rfl
set_option maxRecDepth 100000 in
set_option maxHeartbeats 4000000 in
theorem walkFlowBlocks (A0 : Option Addr) (n0 c0 : Nat) (l : List Ins) (w : World) (h0 : InArg w A0 n0 c0 l) :
    Calls Try.prog 8 #[.slice A0 n0 c0] w fun e w' => e = .returned (.bool true) ∧ Ext w w' := by
  obtain ⟨p, hp⟩ : ∃ p, p = madeF l := ⟨_, rfl⟩
  have HM0 := Lib.hid (fun w' e => makes_ A0 n0 c0 l w' (h0.rd.ext e) h0.ok h0.le h0.max)
  have HRP := Lib.hid (made_right h0.ok)
  have hpl := made_le l
  rw [← hp] at HM0 HRP hpl
  have Hpl := Lib.hid hpl
  clear h0 hp hpl
  go_enter Try.func8, Try.ntmps8
  go_wp2_with fail
  refine (awake_ w).mono ?_; rintro e w1 ⟨rfl, e1⟩
  have E1 := Lib.hid e1
  clear e1
  go_wp2_with fail
  refine (HM0.out _ E1.out).mono ?_; rintro e w2 ⟨A2, n2, c2, rfl, hn⟩
  have hpn := hn.n_
  obtain ⟨b2, o2, hA2⟩ := hn.rd.some_ (by have := Hpl.out; omega)
  subst hA2
  have N2 : Hid (NewS w p w2 (some ⟨b2, o2, none⟩) n2 c2) := Lib.hid ⟨hn.room, E1.out.t hn.ext, fun k hk => by have := hn.ft k hk; have := E1.out.size; omega⟩
  have hn2 : 1 ≤ n2 ∧ n2 ≤ 41 := by have := Hpl.out; omega
  have Hpn : Hid (p.length = n2) := Lib.hid hpn.symm
  obtain ⟨hn2a, hn2b⟩ := hn2
  clear hn E1 hpn HM0 Hpl
  go_wp2_with fail
  refine (blocks_ _ _ _ p _ N2.out.rd HRP.out).mono ?_; rintro e w3 ⟨A3, m, c3, ss, rfl, hm, hl, x3⟩
  obtain ⟨L, hL⟩ : ∃ L, L = ledF p n2 := ⟨_, rfl⟩
  obtain ⟨fs, hfs⟩ : ∃ fs, fs = blkN (ledF p n2) n2 := ⟨_, rfl⟩
  obtain ⟨bs, hbs⟩ : ∃ bs, bs = fs.zip (fs.map (fun x => (edF p (x.2 - 1)).map (numN L))) := ⟨_, rfl⟩
  have hch : ChB L 0 fs n2 := by rw [hL, hfs]; exact blk_chain (ledF_zero p n2) n2
  have hmf : m = fs.length := by rw [hm, hfs]
  have hmn : m ≤ n2 := by rw [hm]; exact blkN_le _ _
  have HJ : Hid (FbJ w p (some ⟨b2, o2, none⟩) n2 c2 A3 m bs w3) := Lib.hid ⟨N2.out.exte x3, by
    have h1 := hl.bls (fun l hl => by
      obtain ⟨x, _, rfl⟩ := List.mem_map.1 hl
      have := edF_len p (x.2 - 1)
      rw [List.length_map]; omega)
    rw [hbs, hfs, hL]
    exact h1⟩
  have Hch := Lib.hid hch
  have HL := Lib.hid hL
  have HFS := Lib.hid hfs
  have HBS := Lib.hid hbs
  have HMF := Lib.hid hmf
  clear hm hl x3 hL hfs hbs hch hmf N2
  obtain ⟨a0, ha0⟩ : ∃ a, a = stF fs 0 := ⟨_, rfl⟩
  have Ha0 : Hid (a0 = 0) := Lib.hid ha0
  clear ha0
  go_wp2_with fail
  go_loopw [6, 31] (fun v6 v31 wr => ∃ k : Nat, k ≤ m ∧ v31 = .int .i64 (k : Int) ∧ v6 = .int .i64 (stF fs k : Int) ∧ Hid (FbJ w p (some ⟨b2, o2, none⟩) n2 c2 A3 m bs wr)) (fun _ v _ => m - (intOf v).toNat)
  case atStart => exact ⟨0, by omega, rfl, rfl, HJ⟩
  case round =>
    clear HJ
    obtain ⟨k, hk, rfl, rfl, HJ⟩ := hrel
    by_cases hlt : k < m
    · have hltI : (k : Int) < (m : Int) := by omega
      obtain ⟨b3, o3, x, s, rfl, lb3, hx, x0, x1, x2, rx, lx⟩ := HJ.out.bl.get hlt
      obtain ⟨⟨f, t⟩, ln⟩ := x
      obtain ⟨sA, sn, sc⟩ := s
      simp only at x0 x1 x2 rx lx
      rw [HBS.out, List.getElem?_zip_eq_some, List.getElem?_map] at hx
      obtain ⟨hx1, hx2⟩ := hx
      simp only at hx1 hx2
      rw [hx1] at hx2
      have hln : ln = (edF p (t - 1)).map (numN L) := (Option.some.inj hx2).symm
      obtain ⟨_, hft, htn, hmid, hend⟩ := Hch.out.at_ hx1
      simp only at hft htn hmid hend
      have hst : stF fs k = f := (st_at Hch.out hx1).symm
      have hst1 : stF fs (k + 1) = t := by show ((fs[k]?).getD (0, 0)).2 = t; rw [hx1]; rfl
      rw [hst]
      have Hst1 := Lib.hid hst1
      have Hln := Lib.hid hln
      have HMID : Hid (∀ i, f ≤ i → i + 1 < t → edF p i = [i + 1] ∧ befN p p.length (i + 1) = [i]) := Lib.hid (fun i h1 h2 => by
        have h3 := hmid (i + 1) (by omega) h2
        rw [HL.out, ← Hpn.out] at h3
        exact blk_mid HRP.out (by rw [Hpn.out]; omega) h3)
      have HNE : Hid (∀ j, j ∈ edF p (t - 1) → L j = true ∧ j < n2) := Lib.hid (fun j hj => by
        have h1 := blk_next HRP.out (i := t - 1) (by rw [Hpn.out]; omega) (by
          rw [show t - 1 + 1 = t by omega, Hpn.out, ← HL.out]
          rcases hend with ⟨_, h⟩ | ⟨_, h, _⟩
          · exact .inl h
          · exact .inr h) hj
        rw [Hpn.out, ← HL.out] at h1
        exact h1)
      have hff : ((f : Int) != (f : Int)) = false := by simp
      have hftI : ¬ ((t : Int) ≤ (f : Int)) := by omega
      have htnI : ¬ ((n2 : Int) < (t : Int)) := by omega
      have HB := Lib.hid (Blk.new wr 53 #[.int .i64 (f : Int), .int .i64 (t : Int), .slice sA sn sc])
      obtain ⟨g, hg⟩ : ∃ g, g = wr.heap.size := ⟨_, rfl⟩
      obtain ⟨W1, hW1⟩ : ∃ W1, W1 = wr.alloc (.cells #[.int .i64 (f : Int), .int .i64 (t : Int), .slice sA sn sc] 53) := ⟨_, rfl⟩
      rw [← hg, ← hW1] at HB
      have eW : Ext wr W1 := by rw [hW1]; exact Ext.alloc _ _
      have HK : Hid (FbK w p (some ⟨b2, o2, none⟩) n2 c2 (some ⟨b3, o3, none⟩) m bs g f t sA sn sc ln W1) := Lib.hid ⟨HJ.out.x eW, HB.out, rx.ext eW⟩
      have HGg := Lib.hid hg
      have HW := Lib.hid hW1
      obtain ⟨t1, ht1⟩ : ∃ t1, t = t1 + 1 := ⟨t - 1, by omega⟩
      have ht1I : (t : Int) - 1 = (t1 : Int) := by omega
      have hft1 : f ≤ t1 := by omega
      have htn1 : t1 < n2 := by omega
      have Ht1 := Lib.hid ht1
      clear hx1 hx2 hln hmid hend hst hst1 hg hW1 eW HJ rx HB ht1 hft htn
      go_wp2_with fail
      rw [← HW.out, ← HGg.out]
      clear HW HGg x0 x1 x2 hff hftI htnI lb3
      go_loopw [9] (fun v9 ws => ∃ i : Nat, f ≤ i ∧ i ≤ t1 ∧ v9 = .int .i64 (i : Int) ∧ Hid (FbK w p (some ⟨b2, o2, none⟩) n2 c2 (some ⟨b3, o3, none⟩) m bs g f t sA sn sc ln ws)) (fun v _ => t1 - (intOf v).toNat)
      case atStart => exact ⟨f, Nat.le_refl _, hft1, rfl, HK⟩
      case round =>
        clear HK
        obtain ⟨i, hi1, hi2, rfl, HK⟩ := hrel
        obtain ⟨q0, q1, q2⟩ := blk_blc HK.out.b
        by_cases hlt2 : i < t1
        · have hiI : (i : Int) < (t1 : Int) := by omega
          obtain ⟨he, hb⟩ := HMID.out i hi1 (by have := Ht1.out; omega)
          have HNX := Lib.hid (fun W (h : RdS 5 insC W (some ⟨b2, o2, none⟩) n2 p) => sh_next (i := (i : Int)) (c := c2) (l := [i + 1]) (m := 1) h ((next_in (i := i) HRP.out (by rw [Hpn.out]; omega)).trans (by rw [he])) rfl)
          have HBF := Lib.hid (fun W (h : RdS 5 insC W (some ⟨b2, o2, none⟩) n2 p) => sh_bef (c := c2) (l := [i]) (m := 1) (i := (i : Int) + 1) h ((bef_in (i := i + 1) HRP.out (by rw [Hpn.out]; omega)).trans (by rw [hb])) rfl)
          clear he hb
          go_wp2_with fail
          refine (HNX.out _ HK.out.j.new.rd).mono ?_; rintro e w5 ⟨Aa, ca, rfl, ra, xa⟩
          have RA := Lib.hid ra
          replace HK := Lib.hid (HK.out.x xa)
          clear ra xa HNX
          go_wp2_with fail
          refine (HBF.out _ HK.out.j.new.rd).mono ?_; rintro e w6 ⟨Ab, cb, rfl, rb, xa⟩
          have RB := Lib.hid rb
          replace RA := Lib.hid (RA.out.ext xa)
          replace HK := Lib.hid (HK.out.x xa)
          clear rb xa HBF
          go_wp2_with (refine wpl_build (by rfl) rfl ul_in info_in [.tmp 82] (by rfl) (by rfl) (by decide) (f := intv) [i + 1] (by rfl) (fun _ => rfl) ?_)
          intro g5 w7 y1 xa lo1 r1; refine Lib.hid ?_
          have RC := Lib.hid r1
          replace RA := Lib.hid (RA.out.ext xa)
          replace RB := Lib.hid (RB.out.ext xa)
          replace HK := Lib.hid (HK.out.x xa)
          clear y1 xa lo1 r1
          go_wp2_with fail
          refine (same_N RA.out RC.out (by decide)).mono ?_; rintro e w8 ⟨rfl, xa⟩
          replace RB := Lib.hid (RB.out.ext xa)
          replace HK := Lib.hid (HK.out.x xa)
          clear xa RA RC
          go_wp2_with (refine wpl_build (by rfl) rfl ul_in info_in [.tmp 89] (by rfl) (by rfl) (by decide) (f := intv) [i] (by rfl) (fun _ => rfl) ?_)
          intro g6 w9 y1 xa lo1 r1; refine Lib.hid ?_
          have RC := Lib.hid r1
          replace RB := Lib.hid (RB.out.ext xa)
          replace HK := Lib.hid (HK.out.x xa)
          clear y1 xa lo1 r1
          go_wp2_with fail
          refine (same_N RB.out RC.out (by decide)).mono ?_; rintro e w10 ⟨rfl, xa⟩
          replace HK := Lib.hid (HK.out.x xa)
          clear xa RB RC q0 q1 q2
          go_wp2_with fail
          go_roundw
          case rel => exact ⟨i + 1, by omega, by omega, by go_num, HK⟩
          case measure => simp [intOf]; omega
        · obtain rfl : t1 = i := by omega
          obtain ⟨m1, hm1⟩ : ∃ m, m = (edF p t1).length := ⟨_, rfl⟩
          obtain ⟨la, hla⟩ : ∃ l, l = edF p t1 := ⟨_, rfl⟩
          have htt : t - 1 = t1 := by have := Ht1.out; omega
          rw [htt, ← hla] at HNE Hln
          have hsn : sn = m1 := by
            have h1 := HK.out.rn.1
            rw [Hln.out, List.length_map, hla, ← hm1] at h1
            exact h1.symm
          subst hsn
          have HNX := Lib.hid (fun W (h : RdS 5 insC W (some ⟨b2, o2, none⟩) n2 p) => sh_next (i := (t1 : Int)) (c := c2) (l := la) (m := sn) h ((next_in (i := t1) HRP.out (by rw [Hpn.out]; omega)).trans (by rw [← hla])) (by rw [hla]; exact hm1.symm))
          have hss : ((sn : Int) != (sn : Int)) = false := by simp
          have hs2 : sn ≤ 2 := by rw [hm1]; exact edF_len p t1
          clear hm1 hla htt
          go_wp2_with fail
          refine (HNX.out _ HK.out.j.new.rd).mono ?_; rintro e w5 ⟨Aa, ca, rfl, ra, xa⟩
          have HK2 : Hid (FbK w p (some ⟨b2, o2, none⟩) n2 c2 (some ⟨b3, o3, none⟩) m bs g f t sA sn sc ln w5 ∧ Rd intv w5 Aa sn la) := Lib.hid ⟨HK.out.x xa, ra⟩
          clear ra xa HNX HK q0 q1 q2
          obtain ⟨q0, q1, q2⟩ := blk_blc HK2.out.1.b
          go_wp2_with fail
          clear q0 q1 q2
          go_loopw [114] (fun v114 ws => ∃ j : Nat, j ≤ sn ∧ v114 = .int .i64 (j : Int) ∧ Hid (FbK w p (some ⟨b2, o2, none⟩) n2 c2 (some ⟨b3, o3, none⟩) m bs g f t sA sn sc ln ws ∧ Rd intv ws Aa sn la)) (fun v _ => sn - (intOf v).toNat)
          case atStart => exact ⟨0, by omega, rfl, HK2⟩
          case round =>
            clear HK2
            obtain ⟨j, hj, rfl, HK⟩ := hrel
            obtain ⟨q0, q1, q2⟩ := blk_blc HK.out.1.b
            by_cases hlj : j < sn
            · have hjI : (j : Int) < (sn : Int) := by omega
              obtain ⟨ba, oa, u, rfl, hu, cu⟩ := rd_get HK.out.2 hlj
              obtain ⟨bn, on, v, rfl, hv, cv⟩ := rd_get HK.out.1.rn hlj
              obtain ⟨hLu, hun⟩ := HNE.out u (List.mem_of_getElem? hu)
              have hvn : v = numN L u := by
                rw [Hln.out, List.getElem?_map, hu] at hv
                exact (Option.some.inj hv).symm
              obtain ⟨y, hy, hyu⟩ := num_at hLu hun
              rw [← hvn] at hy
              have hvm : v < m := by
                rw [HMF.out, HFS.out, ← HL.out]
                exact (List.getElem?_eq_some_iff.1 hy).1
              obtain ⟨_, _, z, _, hh, _, hz, z0, _⟩ := HK.out.1.j.bl.get hvm
              cases hh
              have hzu : z.1.1 = u := by
                rw [HBS.out, List.getElem?_zip_eq_some, HFS.out, ← HL.out, hy] at hz
                rw [← Option.some.inj hz.1]; exact hyu
              rw [hzu] at z0
              unfold intv at cu cv
              have hv0 : ¬ ((v : Int) < 0) := by omega
              have hvmI : (v : Int) < (m : Int) := by omega
              have hvm2 : ¬ ((m : Int) ≤ (v : Int)) := by omega
              have huu : ((u : Int) != (u : Int)) = false := by simp
              clear hu hv hLu hun hvn hy hyu hvm hz hzu
              go_wp2_with fail
              clear z0 cu cv q0 q1 q2
              go_roundw
              case rel => exact ⟨j + 1, by omega, by go_num, HK⟩
              case measure => simp [intOf]; omega
            · obtain rfl : sn = j := by omega
              have HJ2 := Lib.hid HK.out.1.j
              clear HK
              go_wp2_with fail
              go_roundw
              case rel => exact ⟨k + 1, by omega, by go_num, by rw [Hst1.out], HJ2⟩
              case measure => simp [intOf]; omega
    · obtain rfl : k = m := by omega
      have hse : stF fs k = n2 := by rw [HMF.out]; exact st_end Hch.out (by omega)
      rw [hse]
      have hnn : ((n2 : Int) == (n2 : Int)) = true := by simp
      have HF := Lib.hid HJ.out.new.ext
      clear HJ
      go_wp2_with fail
      go_ret
      exact ⟨by simp, HF.out⟩
end Go.Proofs.Ytlneifgihdickaa
