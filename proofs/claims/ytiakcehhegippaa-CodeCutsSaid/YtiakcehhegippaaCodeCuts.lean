/- CodeCuts: the walk of the law: for any list of small instructions, any cut, any byte it answers true and leaves all memory as it was (no condition). -/
import Derived.Test.YtiakcehhegippaaCodeBack
import Derived.Test.YtiakcehhegippaaCcp
namespace Go.Proofs.Ytiakcehhegippaa
open Go.RowKit Go.Fx
theorem u8_clip {A : Option Addr} {n c : Nat} (w : World) (h : n ≤ c) :
    (Instr.sliceAt 22 (.slice A n c) none (some (.int .i64 (n : Int))) (some (.int .i64 (n : Int)))).run Try.prog w = .ok (.slice A n n) w := by
  have h4 : (n : Int) ≤ (c : Int) := by omega
  have h5 : (0 : Int) ≤ (n : Int) := by omega
  simp [go_sem, sliced, h4, Addr.add]
theorem in_toI {A : Option Addr} {n c hi : Nat} {li : Int} (w : World) (e : li = (hi : Int)) (h2 : hi ≤ c) :
    (Instr.sliceAt 25 (.slice A n c) none (some (.int .i64 li)) none).run Try.prog w = .ok (.slice A hi c) w := by
  subst e
  have h4 : (hi : Int) ≤ (c : Int) := by omega
  have h5 : (0 : Int) ≤ (hi : Int) := by omega
  simp [go_sem, sliced, h4, Addr.add]
theorem Room.clip2 {w : World} {A : Option Addr} {n c : Nat} {xs : List Value} (h : Room w A n c xs) : Room w A n n xs := by
  obtain ⟨h1, h2, h3, h4⟩ := h
  refine ⟨h1, Nat.le_refl _, by omega, ?_⟩
  rcases h4 with h0 | ⟨g, o, hA, hg, hc, hf⟩
  · exact .inl (by omega)
  · exact .inr ⟨g, o, hA, hg, hc, fun j hj => hf j (by omega)⟩
theorem foot_clip {A : Option Addr} {n c k : Nat} (h : n ≤ c) (hf : foot A n k) : foot A c k := ⟨by have := hf.1; omega, hf.2⟩
set_option maxRecDepth 100000 in
set_option maxHeartbeats 4000000 in
theorem walkCodeCuts (A0 : Option Addr) (n0 c0 : Nat) (l : List Ins) (ci mi : Int) (w : World) (h0 : InArg w A0 n0 c0 l) (hci : (Lit.int .u16 ci).wf = true) (hmi : (Lit.int .u8 mi).wf = true) :
    Calls Try.prog 7 #[.slice A0 n0 c0, .int .u16 ci, .int .u8 mi] w fun e w' => e = .returned (.bool true) ∧ Ext w w' := by
  have hcb := bounds_u16 hci
  have hmb := bounds_u8 hmi
  obtain ⟨cu, rfl⟩ := Int.eq_ofNat_of_zero_le hcb.1
  obtain ⟨m, rfl⟩ := Int.eq_ofNat_of_zero_le hmb.1
  have hm : m < 256 := by omega
  have hcu : cu < 65536 := by omega
  obtain ⟨p, hp⟩ : ∃ p, p = madeF l := ⟨_, rfl⟩
  have HM0 := Lib.hid (fun w' e => makes_ A0 n0 c0 l w' (h0.rd.ext e) h0.ok h0.le h0.max)
  have Hpw := Lib.hid (made_write h0.ok)
  have Hall := Lib.hid (made_all h0.ok)
  have Hlt := Lib.hid (made_lt h0.ok)
  have hpl := made_le l
  rw [← hp] at HM0 Hpw Hall Hlt hpl
  have Hpb := Lib.hid (wb_len_le p)
  have Hsum := Lib.hid (sumF_len p)
  have Hpl := Lib.hid hpl
  obtain ⟨bp, hbp⟩ : ∃ bp, bp = p.flatMap wbF := ⟨_, rfl⟩
  have Hbp : Hid (p.flatMap wbF = bp) := Lib.hid hbp.symm
  rw [← hbp] at Hpw Hlt Hpb Hsum
  clear h0 hp hbp hpl hci hmi hcb hmb
  go_enter Try.func7, Try.ntmps7
  go_wp2_with fail
  refine (awake_ w).mono ?_; rintro e w1 ⟨rfl, e1⟩
  have E1 := Lib.hid e1
  clear e1
  go_wp2_with fail
  refine (HM0.out _ E1.out).mono ?_; rintro e w2 ⟨A2, n2, c2, rfl, hn⟩
  have P2 := Lib.hid hn.rd
  have hn2c := hn.room.2.1
  have E2 := Lib.hid (E1.out.t hn.ext)
  clear hn E1
  go_wp2_with fail
  refine (wr_let A2 n2 c2 p bp w2 Hpw.out P2.out).mono ?_; rintro e w5 ⟨A5, n5, c5, rfl, hn5⟩
  have hn5c := hn5.room.2.1
  have N5 : Hid (New w bp w5 A5 n5 c5) := Lib.hid ⟨hn5.room, E2.out.t hn5.ext, fun k hk => by have := hn5.ft k hk; have := E2.out.size; omega⟩
  have P5 := Lib.hid (P2.out.ext hn5.ext)
  have Hpn : Hid (p.length = n2) := Lib.hid P2.out.1
  have Hn5 := Lib.hid hn5.n_
  have hn2 : n2 ≤ 41 ∧ 1 ≤ n2 := by have := Hpl.out; have := Hpn.out; omega
  have hL : 1 ≤ n5 := by
    have h1 := Hsum.out
    have h2 := Hn5.out
    have h3 := Hpl.out
    have h4 : 1 ≤ sumF p := by
      cases p with
      | nil => simp at h3
      | cons i r => have := (szOp_le i.op).1; show 1 ≤ szOp i.op + sumF r; omega
    omega
  obtain ⟨b5, o5, hA5⟩ := N5.out.room.rd.some_ (by omega)
  subst hA5
  have hL2 : n5 ≤ 500 := by have h1 := Hpb.out; have := Hpl.out; have := Hn5.out; omega
  obtain ⟨hn2a, hn2b⟩ := hn2
  have heq0 : ((n5 : Int) == 0) = false := by simp; omega
  obtain ⟨at_, hat⟩ : ∃ a, a = cu % n5 := ⟨_, rfl⟩
  have hatL : at_ < n5 := by rw [hat]; exact Nat.mod_lt _ (by omega)
  have Hat3 : Hid ((wrap64 (cu : Int)).tmod (n5 : Int) = (at_ : Int)) := Lib.hid (by rw [show wrap64 (cu : Int) = (cu : Int) by unfold wrap64; omega, hat]; rfl)
  clear hn5 E2 P2 HM0 hat hcu
  go_upto_region 8 with fail
  rw [Hat3.out]
  clear Hat3
  go_wp2_with fail
  go_loopw [11, 12] (fun v11 v12 wr => ∃ (i s : Nat), i ≤ n2 ∧ s ≤ at_ ∧ v11 = .int .i64 (i : Int) ∧ v12 = .int .i64 (s : Int) ∧ Hid (s = sumF (p.take i) ∧ Ext w5 wr)) (fun v _ _ => n2 - (intOf v).toNat)
  case atStart => exact ⟨0, 0, by omega, by omega, rfl, rfl, Lib.hid ⟨rfl, Ext.refl _⟩⟩
  case round =>
    obtain ⟨i, s, hi, hs, rfl, rfl, HS⟩ := hrel
    by_cases hlt : i < n2
    · have hltI : (i : Int) < (n2 : Int) := by omega
      obtain ⟨b, o, x, hA2, _, hx, c0', c1', c2', c3', c4'⟩ := (P5.out.ext HS.out.2).ins hlt
      subst hA2
      have hx1 := (Hall.out x (List.mem_of_getElem? hx)).1
      have Hx := Lib.hid hx
      have HZ := Lib.hid (fun w' => sizeOf_ x w')
      unfold SizeP insV at HZ
      rw [hx1] at HZ
      simp only [if_true] at HZ
      have hz12 := szOp_le x.op
      obtain ⟨z, hz⟩ : ∃ z, z = szOp x.op := ⟨_, rfl⟩
      rw [← hz] at HZ hz12
      have Hz := Lib.hid hz
      obtain ⟨hz1, hz2⟩ := hz12
      have hz1I : ¬ (z : Int) < 1 := by omega
      obtain ⟨y, hy⟩ : ∃ y, y = s + z := ⟨_, rfl⟩
      have hyI : (s : Int) + (z : Int) = (y : Int) := by omega
      clear hx hx1 hz
      by_cases hbr : at_ < y
      · have hbrI : (at_ : Int) < (y : Int) := by omega
        by_cases hin : s < at_
        · have hinI : (s : Int) < (at_ : Int) := by omega
          have HR := Lib.hid (cut_in (at_ := at_) (fun i hi => ⟨(Hall.out i hi).1, (Hall.out i hi).2.1⟩) (by have := Hpl.out; omega) Hx.out (by rw [← HS.out.1]; exact hin) (by rw [← HS.out.1, ← Hz.out]; omega))
          rw [Hbp.out] at HR
          have hsl := fun w' => u8_toI (A := some ⟨b5, o5, none⟩) (n := n5) (c := c5) (hi := at_) (li := (at_ : Int)) w' rfl (by omega)
          clear hy
          go_wp2_with fail
          refine (HZ.out _).mono ?_; rintro e w6 ⟨rfl, e6⟩
          have E6 := Lib.hid (HS.out.2.t e6)
          clear e6 HZ c0' c1' c2' c3' c4'
          go_wp2_with fail
          refine (read_let (some ⟨b5, o5, none⟩) at_ c5 (bp.take at_) w6 ((N5.out.room.rd.ext E6.out).take (by omega)) (fun x hx => Hlt.out x (List.mem_of_mem_take hx)) (by omega) (by omega) HR.out).mono ?_; rintro e w7 ⟨A7, n7, c7, rfl, r7, e7⟩
          obtain rfl : n7 = 0 := by have := r7.1; simpa using this.symm
          have E7 := Lib.hid (N5.out.ext.t (E6.out.t e7))
          clear r7 e7 E6
          go_wp2_with fail
          go_ret
          exact ⟨rfl, E7.out⟩
        · obtain rfl : s = at_ := by omega
          have hinI : ¬ (s : Int) < (s : Int) := by omega
          have HR := Lib.hid (cut_at (fun i hi => ⟨(Hall.out i hi).1, (Hall.out i hi).2.1⟩) (by have := Hpl.out; omega) Hx.out)
          rw [Hbp.out, ← HS.out.1] at HR
          have hsl := fun w' => u8_toI (A := some ⟨b5, o5, none⟩) (n := n5) (c := c5) (hi := s) (li := (s : Int)) w' rfl (by omega)
          have hsl2 := fun w' => in_toI (A := some ⟨b, o, none⟩) (n := n2) (c := c2) (hi := i) (li := (i : Int)) w' rfl (by omega)
          have HK := Lib.hid (checkF_bounds (p.take i))
          have HCk := Lib.hid (fun w' h => check_ (some ⟨b, o, none⟩) i c2 (p.take i) w' h)
          unfold CheckP at HCk
          clear hy
          by_cases hck : (checkF (p.take i)).2 = 0
          · have HR1 : Hid (readF (bp.take s) = (p.take i, -1, 0)) := Lib.hid (by rw [HR.out, if_pos hck])
            rw [hck, HK.out.1 hck] at HCk
            clear hck
            go_wp2_with fail
            refine (HZ.out _).mono ?_; rintro e w6 ⟨rfl, e6⟩
            have E6 := Lib.hid (HS.out.2.t e6)
            clear e6 HZ c0' c1' c2' c3' c4'
            go_wp2_with fail
            refine (read_let (some ⟨b5, o5, none⟩) s c5 (bp.take s) w6 ((N5.out.room.rd.ext E6.out).take (by omega)) (fun x hx => Hlt.out x (List.mem_of_mem_take hx)) (by omega) (by omega) HR1.out).mono ?_; rintro e w7 ⟨A7, n7, c7, rfl, r7, e7⟩
            have R7 := Lib.hid r7
            have E7 := Lib.hid (E6.out.t e7)
            clear r7 e7 E6
            go_wp2_with fail
            refine (HCk.out _ ((P5.out.ext E7.out).take (by omega))).mono ?_; rintro e w8 ⟨rfl, e8⟩
            have R8 := Lib.hid (R7.out.ext e8)
            have E8 := Lib.hid (E7.out.t e8)
            clear e8 E7 R7
            go_wp2_with fail
            refine (equalI A7 (some ⟨b, o, none⟩) n7 i c7 c2 (p.take i) (p.take i) w8 R8.out ((P5.out.ext E8.out).take (by omega)) (by have h := R8.out.1; rw [List.length_take] at h; omega) (by omega)).mono ?_; rintro e w9 ⟨rfl, e9⟩
            rw [show decide (p.take i = p.take i) = true from decide_eq_true rfl]
            have EBW := E8.out.t e9
            clear e9 E8 R8
            have NB := Lib.hid (N5.out.exte EBW)
            have hcl := fun w' => u8_clip (A := some ⟨b5, o5, none⟩) (n := n5) (c := c5) w' hn5c
            have Hm := Lib.hid hm
            cases hok : okOp m with
            | false =>
              have HR := Lib.hid (more_bad (fun i hi => ⟨(Hall.out i hi).1, (Hall.out i hi).2.1⟩) (by have := Hpl.out; omega) hok)
              rw [Hbp.out, Hpn.out] at HR
              have HFm := Lib.hid (fun w' => form_ m w')
              unfold FormP at HFm
              rw [hok] at HFm
              clear hok
              go_wp2_with (refine wpl_build (by rfl) rfl ul_u8 info_u8 [.tmp 140] (by rfl) (by rfl) (by decide) (f := u8v) [m] (by rfl) (fun _ => rfl) ?_)
              intro g w21 b21 e21 lo21 r21; refine Lib.hid ?_
              have N21 := Lib.hid (NB.out.exte e21)
              have R21 := Lib.hid r21
              clear b21 e21 lo21 r21
              go_wp2_with (refine wpl_append_at (by rfl) rfl ul_u8 info_u8 rfl rfl (Room.clip2 N21.out.room) rfl (Src.ofRd ul_u8 R21.out (fun _ => rfl)) (by simp only [maxLen]; omega) (by omega) ?_)
              intro A22 c22 w22 r22 ch22 ft22; refine Lib.hid ?_
              have E22 : Hid (Ext w w22) := Lib.hid (N21.out.ext.trans (ch22.below N21.out.ext.size (fun k hk hf => by have := N21.out.ft k (foot_clip hn5c hf); omega)))
              have R22 : Hid (Rd u8v w22 A22 (n5 + 1) (bp ++ [m])) := Lib.hid (by
                have h : Room w22 A22 (n5 + 1) c22 ((bp ++ [m]).map u8v) := by rw [List.map_append]; exact r22
                exact h.rd)
              have hc22 : n5 + 1 ≤ c22 := r22.2.1
              clear r22 ch22 ft22 R21 N21
              go_wp2_with fail
              refine (read_let A22 (n5 + 1) c22 (bp ++ [m]) w22 R22.out (fun x hx => by rcases List.mem_append.1 hx with h | h; exact Hlt.out x h; exact by simp at h; rw [h]; exact Hm.out) hc22 (by omega) HR.out).mono ?_; rintro e w23 ⟨A23, n23, c23, rfl, _, e23⟩
              have E23 := Lib.hid (E22.out.t e23)
              clear e23 E22 R22 hc22
              go_wp2_with fail
              refine (HFm.out _).mono ?_; rintro e w24 ⟨rfl, e24⟩
              have E24 := Lib.hid (E23.out.t e24)
              clear e24 E23
              go_wp2_with fail
              go_ret
              exact ⟨rfl, E24.out⟩
            | true =>
              have HFm := Lib.hid (fun w' => form_ m w')
              unfold FormP at HFm
              rw [hok] at HFm
              by_cases q1 : m = 1
              · have hq1 : ((m : Int) == 1) = true := by simp; omega
                obtain ⟨qq, hqq⟩ := more_end (m := m) Hall.out (by have := Hpl.out; omega) (.inl q1)
                rw [Hbp.out] at hqq
                have HR := Lib.hid hqq
                clear hok hqq q1
                go_wp2_with (refine wpl_build (by rfl) rfl ul_u8 info_u8 [.tmp 140] (by rfl) (by rfl) (by decide) (f := u8v) [m] (by rfl) (fun _ => rfl) ?_)
                intro g w21 b21 e21 lo21 r21; refine Lib.hid ?_
                have N21 := Lib.hid (NB.out.exte e21)
                have R21 := Lib.hid r21
                clear b21 e21 lo21 r21
                go_wp2_with (refine wpl_append_at (by rfl) rfl ul_u8 info_u8 rfl rfl (Room.clip2 N21.out.room) rfl (Src.ofRd ul_u8 R21.out (fun _ => rfl)) (by simp only [maxLen]; omega) (by omega) ?_)
                intro A22 c22 w22 r22 ch22 ft22; refine Lib.hid ?_
                have E22 : Hid (Ext w w22) := Lib.hid (N21.out.ext.trans (ch22.below N21.out.ext.size (fun k hk hf => by have := N21.out.ft k (foot_clip hn5c hf); omega)))
                have R22 : Hid (Rd u8v w22 A22 (n5 + 1) (bp ++ [m])) := Lib.hid (by
                  have h : Room w22 A22 (n5 + 1) c22 ((bp ++ [m]).map u8v) := by rw [List.map_append]; exact r22
                  exact h.rd)
                have hc22 : n5 + 1 ≤ c22 := r22.2.1
                clear r22 ch22 ft22 R21 N21
                go_wp2_with fail
                refine (read_let A22 (n5 + 1) c22 (bp ++ [m]) w22 R22.out (fun x hx => by rcases List.mem_append.1 hx with h | h; exact Hlt.out x h; exact by simp at h; rw [h]; exact Hm.out) hc22 (by omega) HR.out).mono ?_; rintro e w23 ⟨A23, n23, c23, rfl, _, e23⟩
                have E23 := Lib.hid (E22.out.t e23)
                clear e23 E22 R22 hc22
                go_wp2_with fail
                refine (HFm.out _).mono ?_; rintro e w24 ⟨rfl, e24⟩
                have E24 := Lib.hid (E23.out.t e24)
                clear e24 E23
                go_wp2_with fail
                go_ret
                exact ⟨rfl, E24.out⟩
              · have hq1 : ((m : Int) == 1) = false := by simp; omega
                by_cases q2 : m = 2
                · have hq2 : ((m : Int) == 2) = true := by simp; omega
                  obtain ⟨qq, hqq⟩ := more_end (m := m) Hall.out (by have := Hpl.out; omega) (.inr q2)
                  rw [Hbp.out] at hqq
                  have HR := Lib.hid hqq
                  clear hok hqq q2
                  go_wp2_with (refine wpl_build (by rfl) rfl ul_u8 info_u8 [.tmp 140] (by rfl) (by rfl) (by decide) (f := u8v) [m] (by rfl) (fun _ => rfl) ?_)
                  intro g w21 b21 e21 lo21 r21; refine Lib.hid ?_
                  have N21 := Lib.hid (NB.out.exte e21)
                  have R21 := Lib.hid r21
                  clear b21 e21 lo21 r21
                  go_wp2_with (refine wpl_append_at (by rfl) rfl ul_u8 info_u8 rfl rfl (Room.clip2 N21.out.room) rfl (Src.ofRd ul_u8 R21.out (fun _ => rfl)) (by simp only [maxLen]; omega) (by omega) ?_)
                  intro A22 c22 w22 r22 ch22 ft22; refine Lib.hid ?_
                  have E22 : Hid (Ext w w22) := Lib.hid (N21.out.ext.trans (ch22.below N21.out.ext.size (fun k hk hf => by have := N21.out.ft k (foot_clip hn5c hf); omega)))
                  have R22 : Hid (Rd u8v w22 A22 (n5 + 1) (bp ++ [m])) := Lib.hid (by
                    have h : Room w22 A22 (n5 + 1) c22 ((bp ++ [m]).map u8v) := by rw [List.map_append]; exact r22
                    exact h.rd)
                  have hc22 : n5 + 1 ≤ c22 := r22.2.1
                  clear r22 ch22 ft22 R21 N21
                  go_wp2_with fail
                  refine (read_let A22 (n5 + 1) c22 (bp ++ [m]) w22 R22.out (fun x hx => by rcases List.mem_append.1 hx with h | h; exact Hlt.out x h; exact by simp at h; rw [h]; exact Hm.out) hc22 (by omega) HR.out).mono ?_; rintro e w23 ⟨A23, n23, c23, rfl, _, e23⟩
                  have E23 := Lib.hid (E22.out.t e23)
                  clear e23 E22 R22 hc22
                  go_wp2_with fail
                  refine (HFm.out _).mono ?_; rintro e w24 ⟨rfl, e24⟩
                  have E24 := Lib.hid (E23.out.t e24)
                  clear e24 E23
                  go_wp2_with fail
                  go_ret
                  exact ⟨rfl, E24.out⟩
                · have hq2 : ((m : Int) == 2) = false := by simp; omega
                  have HR := Lib.hid (more_short (fun i hi => ⟨(Hall.out i hi).1, (Hall.out i hi).2.1⟩) (by have := Hpl.out; omega) hok q1 q2)
                  rw [Hbp.out, Hpn.out] at HR
                  clear hok q1 q2
                  go_wp2_with (refine wpl_build (by rfl) rfl ul_u8 info_u8 [.tmp 140] (by rfl) (by rfl) (by decide) (f := u8v) [m] (by rfl) (fun _ => rfl) ?_)
                  intro g w21 b21 e21 lo21 r21; refine Lib.hid ?_
                  have N21 := Lib.hid (NB.out.exte e21)
                  have R21 := Lib.hid r21
                  clear b21 e21 lo21 r21
                  go_wp2_with (refine wpl_append_at (by rfl) rfl ul_u8 info_u8 rfl rfl (Room.clip2 N21.out.room) rfl (Src.ofRd ul_u8 R21.out (fun _ => rfl)) (by simp only [maxLen]; omega) (by omega) ?_)
                  intro A22 c22 w22 r22 ch22 ft22; refine Lib.hid ?_
                  have E22 : Hid (Ext w w22) := Lib.hid (N21.out.ext.trans (ch22.below N21.out.ext.size (fun k hk hf => by have := N21.out.ft k (foot_clip hn5c hf); omega)))
                  have R22 : Hid (Rd u8v w22 A22 (n5 + 1) (bp ++ [m])) := Lib.hid (by
                    have h : Room w22 A22 (n5 + 1) c22 ((bp ++ [m]).map u8v) := by rw [List.map_append]; exact r22
                    exact h.rd)
                  have hc22 : n5 + 1 ≤ c22 := r22.2.1
                  clear r22 ch22 ft22 R21 N21
                  go_wp2_with fail
                  refine (read_let A22 (n5 + 1) c22 (bp ++ [m]) w22 R22.out (fun x hx => by rcases List.mem_append.1 hx with h | h; exact Hlt.out x h; exact by simp at h; rw [h]; exact Hm.out) hc22 (by omega) HR.out).mono ?_; rintro e w23 ⟨A23, n23, c23, rfl, _, e23⟩
                  have E23 := Lib.hid (E22.out.t e23)
                  clear e23 E22 R22 hc22
                  go_wp2_with fail
                  refine (HFm.out _).mono ?_; rintro e w24 ⟨rfl, e24⟩
                  have E24 := Lib.hid (E23.out.t e24)
                  clear e24 E23
                  go_wp2_with fail
                  go_ret
                  exact ⟨rfl, E24.out⟩
          · have HR1 : Hid (readF (bp.take s) = ([], (checkF (p.take i)).1, (checkF (p.take i)).2)) := Lib.hid (by rw [HR.out, if_neg hck])
            have hq0 : (((checkF (p.take i)).2 : Int) == 0) = false := by simp; omega
            have hq1' : (((checkF (p.take i)).2 : Int) != 0) = true := by simp; omega
            generalize (checkF (p.take i)).1 = ck at *
            generalize (checkF (p.take i)).2 = er at *
            clear hck HR
            go_wp2_with fail
            refine (HZ.out _).mono ?_; rintro e w6 ⟨rfl, e6⟩
            have E6 := Lib.hid (HS.out.2.t e6)
            clear e6 HZ c0' c1' c2' c3' c4'
            go_wp2_with fail
            refine (read_let (some ⟨b5, o5, none⟩) s c5 (bp.take s) w6 ((N5.out.room.rd.ext E6.out).take (by omega)) (fun x hx => Hlt.out x (List.mem_of_mem_take hx)) (by omega) (by omega) HR1.out).mono ?_; rintro e w7 ⟨A7, n7, c7, rfl, r7, e7⟩
            obtain rfl : n7 = 0 := by have := r7.1; simpa using this.symm
            have E7 := Lib.hid (E6.out.t e7)
            clear r7 e7 E6
            go_wp2_with fail
            refine (HCk.out _ ((P5.out.ext E7.out).take (by omega))).mono ?_; rintro e w8 ⟨rfl, e8⟩
            have EBW := E7.out.t e8
            clear e8 E7
            have NB := Lib.hid (N5.out.exte EBW)
            have hcl := fun w' => u8_clip (A := some ⟨b5, o5, none⟩) (n := n5) (c := c5) w' hn5c
            have Hm := Lib.hid hm
            cases hok : okOp m with
            | false =>
              have HR := Lib.hid (more_bad (fun i hi => ⟨(Hall.out i hi).1, (Hall.out i hi).2.1⟩) (by have := Hpl.out; omega) hok)
              rw [Hbp.out, Hpn.out] at HR
              have HFm := Lib.hid (fun w' => form_ m w')
              unfold FormP at HFm
              rw [hok] at HFm
              clear hok
              go_wp2_with (refine wpl_build (by rfl) rfl ul_u8 info_u8 [.tmp 140] (by rfl) (by rfl) (by decide) (f := u8v) [m] (by rfl) (fun _ => rfl) ?_)
              intro g w21 b21 e21 lo21 r21; refine Lib.hid ?_
              have N21 := Lib.hid (NB.out.exte e21)
              have R21 := Lib.hid r21
              clear b21 e21 lo21 r21
              go_wp2_with (refine wpl_append_at (by rfl) rfl ul_u8 info_u8 rfl rfl (Room.clip2 N21.out.room) rfl (Src.ofRd ul_u8 R21.out (fun _ => rfl)) (by simp only [maxLen]; omega) (by omega) ?_)
              intro A22 c22 w22 r22 ch22 ft22; refine Lib.hid ?_
              have E22 : Hid (Ext w w22) := Lib.hid (N21.out.ext.trans (ch22.below N21.out.ext.size (fun k hk hf => by have := N21.out.ft k (foot_clip hn5c hf); omega)))
              have R22 : Hid (Rd u8v w22 A22 (n5 + 1) (bp ++ [m])) := Lib.hid (by
                have h : Room w22 A22 (n5 + 1) c22 ((bp ++ [m]).map u8v) := by rw [List.map_append]; exact r22
                exact h.rd)
              have hc22 : n5 + 1 ≤ c22 := r22.2.1
              clear r22 ch22 ft22 R21 N21
              go_wp2_with fail
              refine (read_let A22 (n5 + 1) c22 (bp ++ [m]) w22 R22.out (fun x hx => by rcases List.mem_append.1 hx with h | h; exact Hlt.out x h; exact by simp at h; rw [h]; exact Hm.out) hc22 (by omega) HR.out).mono ?_; rintro e w23 ⟨A23, n23, c23, rfl, _, e23⟩
              have E23 := Lib.hid (E22.out.t e23)
              clear e23 E22 R22 hc22
              go_wp2_with fail
              refine (HFm.out _).mono ?_; rintro e w24 ⟨rfl, e24⟩
              have E24 := Lib.hid (E23.out.t e24)
              clear e24 E23
              go_wp2_with fail
              go_ret
              exact ⟨rfl, E24.out⟩
            | true =>
              have HFm := Lib.hid (fun w' => form_ m w')
              unfold FormP at HFm
              rw [hok] at HFm
              by_cases q1 : m = 1
              · have hq1 : ((m : Int) == 1) = true := by simp; omega
                obtain ⟨qq, hqq⟩ := more_end (m := m) Hall.out (by have := Hpl.out; omega) (.inl q1)
                rw [Hbp.out] at hqq
                have HR := Lib.hid hqq
                clear hok hqq q1
                go_wp2_with (refine wpl_build (by rfl) rfl ul_u8 info_u8 [.tmp 140] (by rfl) (by rfl) (by decide) (f := u8v) [m] (by rfl) (fun _ => rfl) ?_)
                intro g w21 b21 e21 lo21 r21; refine Lib.hid ?_
                have N21 := Lib.hid (NB.out.exte e21)
                have R21 := Lib.hid r21
                clear b21 e21 lo21 r21
                go_wp2_with (refine wpl_append_at (by rfl) rfl ul_u8 info_u8 rfl rfl (Room.clip2 N21.out.room) rfl (Src.ofRd ul_u8 R21.out (fun _ => rfl)) (by simp only [maxLen]; omega) (by omega) ?_)
                intro A22 c22 w22 r22 ch22 ft22; refine Lib.hid ?_
                have E22 : Hid (Ext w w22) := Lib.hid (N21.out.ext.trans (ch22.below N21.out.ext.size (fun k hk hf => by have := N21.out.ft k (foot_clip hn5c hf); omega)))
                have R22 : Hid (Rd u8v w22 A22 (n5 + 1) (bp ++ [m])) := Lib.hid (by
                  have h : Room w22 A22 (n5 + 1) c22 ((bp ++ [m]).map u8v) := by rw [List.map_append]; exact r22
                  exact h.rd)
                have hc22 : n5 + 1 ≤ c22 := r22.2.1
                clear r22 ch22 ft22 R21 N21
                go_wp2_with fail
                refine (read_let A22 (n5 + 1) c22 (bp ++ [m]) w22 R22.out (fun x hx => by rcases List.mem_append.1 hx with h | h; exact Hlt.out x h; exact by simp at h; rw [h]; exact Hm.out) hc22 (by omega) HR.out).mono ?_; rintro e w23 ⟨A23, n23, c23, rfl, _, e23⟩
                have E23 := Lib.hid (E22.out.t e23)
                clear e23 E22 R22 hc22
                go_wp2_with fail
                refine (HFm.out _).mono ?_; rintro e w24 ⟨rfl, e24⟩
                have E24 := Lib.hid (E23.out.t e24)
                clear e24 E23
                go_wp2_with fail
                go_ret
                exact ⟨rfl, E24.out⟩
              · have hq1 : ((m : Int) == 1) = false := by simp; omega
                by_cases q2 : m = 2
                · have hq2 : ((m : Int) == 2) = true := by simp; omega
                  obtain ⟨qq, hqq⟩ := more_end (m := m) Hall.out (by have := Hpl.out; omega) (.inr q2)
                  rw [Hbp.out] at hqq
                  have HR := Lib.hid hqq
                  clear hok hqq q2
                  go_wp2_with (refine wpl_build (by rfl) rfl ul_u8 info_u8 [.tmp 140] (by rfl) (by rfl) (by decide) (f := u8v) [m] (by rfl) (fun _ => rfl) ?_)
                  intro g w21 b21 e21 lo21 r21; refine Lib.hid ?_
                  have N21 := Lib.hid (NB.out.exte e21)
                  have R21 := Lib.hid r21
                  clear b21 e21 lo21 r21
                  go_wp2_with (refine wpl_append_at (by rfl) rfl ul_u8 info_u8 rfl rfl (Room.clip2 N21.out.room) rfl (Src.ofRd ul_u8 R21.out (fun _ => rfl)) (by simp only [maxLen]; omega) (by omega) ?_)
                  intro A22 c22 w22 r22 ch22 ft22; refine Lib.hid ?_
                  have E22 : Hid (Ext w w22) := Lib.hid (N21.out.ext.trans (ch22.below N21.out.ext.size (fun k hk hf => by have := N21.out.ft k (foot_clip hn5c hf); omega)))
                  have R22 : Hid (Rd u8v w22 A22 (n5 + 1) (bp ++ [m])) := Lib.hid (by
                    have h : Room w22 A22 (n5 + 1) c22 ((bp ++ [m]).map u8v) := by rw [List.map_append]; exact r22
                    exact h.rd)
                  have hc22 : n5 + 1 ≤ c22 := r22.2.1
                  clear r22 ch22 ft22 R21 N21
                  go_wp2_with fail
                  refine (read_let A22 (n5 + 1) c22 (bp ++ [m]) w22 R22.out (fun x hx => by rcases List.mem_append.1 hx with h | h; exact Hlt.out x h; exact by simp at h; rw [h]; exact Hm.out) hc22 (by omega) HR.out).mono ?_; rintro e w23 ⟨A23, n23, c23, rfl, _, e23⟩
                  have E23 := Lib.hid (E22.out.t e23)
                  clear e23 E22 R22 hc22
                  go_wp2_with fail
                  refine (HFm.out _).mono ?_; rintro e w24 ⟨rfl, e24⟩
                  have E24 := Lib.hid (E23.out.t e24)
                  clear e24 E23
                  go_wp2_with fail
                  go_ret
                  exact ⟨rfl, E24.out⟩
                · have hq2 : ((m : Int) == 2) = false := by simp; omega
                  have HR := Lib.hid (more_short (fun i hi => ⟨(Hall.out i hi).1, (Hall.out i hi).2.1⟩) (by have := Hpl.out; omega) hok q1 q2)
                  rw [Hbp.out, Hpn.out] at HR
                  clear hok q1 q2
                  go_wp2_with (refine wpl_build (by rfl) rfl ul_u8 info_u8 [.tmp 140] (by rfl) (by rfl) (by decide) (f := u8v) [m] (by rfl) (fun _ => rfl) ?_)
                  intro g w21 b21 e21 lo21 r21; refine Lib.hid ?_
                  have N21 := Lib.hid (NB.out.exte e21)
                  have R21 := Lib.hid r21
                  clear b21 e21 lo21 r21
                  go_wp2_with (refine wpl_append_at (by rfl) rfl ul_u8 info_u8 rfl rfl (Room.clip2 N21.out.room) rfl (Src.ofRd ul_u8 R21.out (fun _ => rfl)) (by simp only [maxLen]; omega) (by omega) ?_)
                  intro A22 c22 w22 r22 ch22 ft22; refine Lib.hid ?_
                  have E22 : Hid (Ext w w22) := Lib.hid (N21.out.ext.trans (ch22.below N21.out.ext.size (fun k hk hf => by have := N21.out.ft k (foot_clip hn5c hf); omega)))
                  have R22 : Hid (Rd u8v w22 A22 (n5 + 1) (bp ++ [m])) := Lib.hid (by
                    have h : Room w22 A22 (n5 + 1) c22 ((bp ++ [m]).map u8v) := by rw [List.map_append]; exact r22
                    exact h.rd)
                  have hc22 : n5 + 1 ≤ c22 := r22.2.1
                  clear r22 ch22 ft22 R21 N21
                  go_wp2_with fail
                  refine (read_let A22 (n5 + 1) c22 (bp ++ [m]) w22 R22.out (fun x hx => by rcases List.mem_append.1 hx with h | h; exact Hlt.out x h; exact by simp at h; rw [h]; exact Hm.out) hc22 (by omega) HR.out).mono ?_; rintro e w23 ⟨A23, n23, c23, rfl, _, e23⟩
                  have E23 := Lib.hid (E22.out.t e23)
                  clear e23 E22 R22 hc22
                  go_wp2_with fail
                  refine (HFm.out _).mono ?_; rintro e w24 ⟨rfl, e24⟩
                  have E24 := Lib.hid (E23.out.t e24)
                  clear e24 E23
                  go_wp2_with fail
                  go_ret
                  exact ⟨rfl, E24.out⟩
      · have hbrI : ¬ (at_ : Int) < (y : Int) := by omega
        have Hsn : Hid (y = sumF (p.take (i + 1))) := Lib.hid (by rw [sum_next Hx.out, ← HS.out.1, ← Hz.out, hy])
        clear hy
        go_wp2_with fail
        refine (HZ.out _).mono ?_; rintro e w6 ⟨rfl, e6⟩
        have E6 := Lib.hid (HS.out.2.t e6)
        clear e6 HZ c0' c1' c2' c3' c4'
        go_wp2_with fail
        go_roundw
        case rel => exact ⟨i + 1, y, by omega, by omega, by go_num, rfl, Lib.hid ⟨Hsn.out, E6.out⟩⟩
        case measure => simp [intOf]; omega
    · exfalso
      obtain rfl : i = n2 := by omega
      have h1 := HS.out.1
      rw [List.take_of_length_le (by have := Hpn.out; omega), ← Hsum.out, ← Hn5.out] at h1
      omega
end Go.Proofs.Ytiakcehhegippaa
