/- FlowNext: the walk of the law: for any list of small instructions it answers true and leaves all memory as it was (no condition). -/
import Derived.Test.YtlneifgihdickaaFnp
namespace Go.Proofs.Ytlneifgihdickaa
open Go.RowKit Go.Fx
theorem next_in {p : List Ins} {i : Nat} (hp : RightP p) (hi : i < p.length) : nextF p (i : Int) = (edF p i, 0) := by
  unfold nextF
  rw [if_neg (by simpa using rightP_iff.2 hp), if_neg (by omega)]
  simp
theorem bef_in {p : List Ins} {i : Nat} (hp : RightP p) (hi : i < p.length) : befF p (i : Int) = (befN p p.length i, 0) := by
  unfold befF
  rw [if_neg (by simpa using rightP_iff.2 hp), if_neg (by omega)]
  simp
theorem sh_bef {A : Option Addr} {c : Nat} {w : World} {p : List Ins} {n m : Nat} {i : Int} {l : List Nat} (h : RdS 5 insC w A n p) (e : befF p i = (l, 0)) (hm : l.length = m) : Calls Try.prog 15 #[.slice A n c, .int .i64 i] w (OkN l m w) := by
  subst hm
  refine (beforeF_ A n c p i w h).mono ?_
  rw [e]
  rintro e w' ⟨A', c', rfl, r, -, x⟩
  exact ⟨A', c', rfl, r.rd, x⟩
/-- What the law holds all along. -/
structure FnJ (w : World) (p : List Ins) (A2 : Option Addr) (n2 c2 : Nat) (A3 : Option Addr) (d : List Int) (A4 : Option Addr) (es : List Bool) (W : World) : Prop where
  new : NewS w p W A2 n2 c2
  rd : Rd intz W A3 n2 d
  re : Rd boolv W A4 n2 es
theorem FnJ.x {w : World} {p : List Ins} {A2 : Option Addr} {n2 c2 : Nat} {A3 : Option Addr} {d : List Int} {A4 : Option Addr} {es : List Bool} {W W' : World} (h : FnJ w p A2 n2 c2 A3 d A4 es W) (e : Ext W W') : FnJ w p A2 n2 c2 A3 d A4 es W' := ⟨h.new.exte e, h.rd.ext e, h.re.ext e⟩
/-- What it holds while one instruction is looked at. -/
structure FnK (w : World) (p : List Ins) (A2 : Option Addr) (n2 c2 : Nat) (A3 : Option Addr) (d : List Int) (A4 : Option Addr) (es : List Bool) (g : Nat) (x : Ins) (Aa : Option Addr) (m1 : Nat) (la : List Nat) (Ab : Option Addr) (m2 : Nat) (lb : List Nat) (W : World) : Prop where
  j : FnJ w p A2 n2 c2 A3 d A4 es W
  b : Blk W g 34 (insC x).toArray
  ra : Rd intv W Aa m1 la
  rb : Rd intv W Ab m2 lb
theorem FnK.x {w : World} {p : List Ins} {A2 : Option Addr} {n2 c2 : Nat} {A3 : Option Addr} {d : List Int} {A4 : Option Addr} {es : List Bool} {g : Nat} {x : Ins} {Aa : Option Addr} {m1 : Nat} {la : List Nat} {Ab : Option Addr} {m2 : Nat} {lb : List Nat} {W W' : World} (h : FnK w p A2 n2 c2 A3 d A4 es g x Aa m1 la Ab m2 lb W) (e : Ext W W') : FnK w p A2 n2 c2 A3 d A4 es g x Aa m1 la Ab m2 lb W' := ⟨h.j.x e, h.b.ext e, h.ra.ext e, h.rb.ext e⟩
theorem ret_bool' {a b : Bool} (h : a = b) : Value.bool a = Value.bool b := by rw [h]
set_option maxRecDepth 100000 in
set_option maxHeartbeats 4000000 in
theorem walkFlowNext (A0 : Option Addr) (n0 c0 : Nat) (l : List Ins) (w : World) (h0 : InArg w A0 n0 c0 l) :
    Calls Try.prog 3 #[.slice A0 n0 c0] w fun e w' => e = .returned (.bool true) ∧ Ext w w' := by
  obtain ⟨p, hp⟩ : ∃ p, p = madeF l := ⟨_, rfl⟩
  have HM0 := Lib.hid (fun w' e => makes_ A0 n0 c0 l w' (h0.rd.ext e) h0.ok h0.le h0.max)
  have HRP := Lib.hid (made_right h0.ok)
  have hpl := made_le l
  rw [← hp] at HM0 HRP hpl
  have Hpl := Lib.hid hpl
  clear h0 hp hpl
  go_enter Try.func3, Try.ntmps3
  go_wp2_with fail
  refine (awake_ w).mono ?_; rintro e w1 ⟨rfl, e1⟩
  have E1 := Lib.hid e1
  clear e1
  go_wp2_with fail
  refine (HM0.out _ E1.out).mono ?_; rintro e w2 ⟨A2, n2, c2, rfl, hn⟩
  have hpn := hn.n_
  obtain ⟨b2, o2, hA2⟩ := hn.rd.some_ (by have := Hpl.out; omega)
  subst hA2
  have N2 : Hid (NewS w p w2 (some ⟨b2, o2, none⟩) n2 c2) := Lib.hid ⟨hn.room, E1.out.t hn.ext, fun k hk => by have := hn.ft k hk; have := E1.out.size; omega⟩
  have hn2 : 1 ≤ n2 ∧ n2 ≤ 41 := by have := Hpl.out; omega
  have Hpn : Hid (p.length = n2) := Lib.hid hpn.symm
  obtain ⟨hn2a, hn2b⟩ := hn2
  clear hn E1 hpn HM0 Hpl
  go_wp2_with fail
  refine (dist_ _ _ _ p _ N2.out.rd HRP.out).mono ?_; rintro e w3 ⟨A3, c3, d, rfl, hd, r3, -, x3⟩
  have HD : Hid (IsD (EdP p) p.length 0 d) := Lib.hid (by rw [Hpn.out]; exact hd)
  have RD := Lib.hid r3.rd
  replace N2 := Lib.hid (N2.out.exte x3)
  clear hd r3 x3
  go_wp2_with fail
  refine (ends_ _ _ _ p _ N2.out.rd HRP.out).mono ?_; rintro e w4 ⟨A4, c4, es, rfl, he, r4, -, x4⟩
  have HE := Lib.hid he
  have HJ : Hid (FnJ w p (some ⟨b2, o2, none⟩) n2 c2 A3 d A4 es w4) := Lib.hid ⟨N2.out.exte x4, RD.out.ext x4, r4.rd⟩
  obtain ⟨b3, o3, d0, hA3, hd0, k0⟩ := rd_get HJ.out.rd (k := 0) (by omega)
  obtain ⟨b4, o4, _, hA4, _⟩ := rd_get HJ.out.re (k := 0) (by omega)
  subst hA3 hA4
  rw [HD.out.at_b] at hd0
  obtain rfl := Option.some.inj hd0
  unfold intz at k0
  rw [Nat.add_zero] at k0
  have hnI : (0 : Int) < (n2 : Int) := by omega
  have hnn : ((n2 : Int) != (n2 : Int)) = false := by simp
  clear he r4 x4 RD N2 hd0
  go_wp2_with fail
  clear k0
  go_loopw [64] (fun v wr => ∃ i : Nat, i ≤ n2 ∧ v = .int .i64 (i : Int) ∧ Hid (FnJ w p (some ⟨b2, o2, none⟩) n2 c2 (some ⟨b3, o3, none⟩) d (some ⟨b4, o4, none⟩) es wr)) (fun v _ => n2 - (intOf v).toNat)
  case atStart => exact ⟨0, by omega, rfl, HJ⟩
  case round =>
    clear HJ
    obtain ⟨i, hi, rfl, HJ⟩ := hrel
    by_cases hlt : i < n2
    · have hltI : (i : Int) < (n2 : Int) := by omega
      have hip : i < p.length := by rw [Hpn.out]; exact hlt
      obtain ⟨b', o', x, h1, hbl, hx, q0, q1, q2, q3, q4⟩ := HJ.out.new.rd.ins hlt
      cases h1
      have Hx := Lib.hid hx
      have HT := Lib.hid (fun w' => target_ x w')
      have HG := Lib.hid (fun w' => goes_ x w')
      unfold TgtP insV at HT
      unfold BoolP insV at HG
      obtain ⟨m1, hm1⟩ : ∃ m, m = (edF p i).length := ⟨_, rfl⟩
      obtain ⟨m2, hm2⟩ : ∃ m, m = (befN p p.length i).length := ⟨_, rfl⟩
      obtain ⟨la, hla⟩ : ∃ l, l = edF p i := ⟨_, rfl⟩
      obtain ⟨lb, hlb⟩ : ∃ l, l = befN p p.length i := ⟨_, rfl⟩
      have hm1b : m1 ≤ 2 := by rw [hm1]; exact edF_len p i
      have hm2b : m2 ≤ 41 := by rw [hm2]; have := befN_len p p.length i; rw [Hpn.out] at this ⊢; omega
      have HNX := Lib.hid (fun W (h : RdS 5 insC W (some ⟨b2, o2, none⟩) n2 p) => sh_next (c := c2) (l := la) (m := m1) h ((next_in HRP.out hip).trans (by rw [← hla])) (by rw [hla]; exact hm1.symm))
      have HBF := Lib.hid (fun W (h : RdS 5 insC W (some ⟨b2, o2, none⟩) n2 p) => sh_bef (c := c2) (l := lb) (m := m2) h ((bef_in HRP.out hip).trans (by rw [← hlb])) (by rw [hlb]; exact hm2.symm))
      have Hla := Lib.hid hla
      have Hlb := Lib.hid hlb
      have Hm1 := Lib.hid hm1
      have Hm2 := Lib.hid hm2
      have HB := Lib.hid (Blk.new wr 34 (insC x).toArray)
      obtain ⟨g, hg⟩ : ∃ g, g = wr.heap.size := ⟨_, rfl⟩
      obtain ⟨W1, hW1⟩ : ∃ W1, W1 = wr.alloc (.cells (insC x).toArray 34) := ⟨_, rfl⟩
      rw [← hg, ← hW1] at HB
      have HJ1 : Hid (FnJ w p (some ⟨b2, o2, none⟩) n2 c2 (some ⟨b3, o3, none⟩) d (some ⟨b4, o4, none⟩) es W1) := Lib.hid (HJ.out.x (by rw [hW1]; exact Ext.alloc _ _))
      have HGg := Lib.hid hg
      have HW := Lib.hid hW1
      clear hx hla hlb hm1 hm2 hg hW1 HJ
      go_wp2_with fail
      change Calls _ _ _ (wr.alloc (.cells (insC x).toArray 34)) _
      rw [← HW.out, ← HGg.out]
      clear HW HGg q0 q1 q2 q3 q4 hbl
      refine (HNX.out _ HJ1.out.new.rd).mono ?_; rintro e w5 ⟨Aa, ca, rfl, ra, xa⟩
      have RA := Lib.hid ra
      replace HB := Lib.hid (HB.out.ext xa)
      replace HJ1 := Lib.hid (HJ1.out.x xa)
      clear ra xa HNX
      go_wp2_with fail
      refine (HBF.out _ HJ1.out.new.rd).mono ?_; rintro e w6 ⟨Ab, cb, rfl, rb, xb⟩
      have HK : Hid (FnK w p (some ⟨b2, o2, none⟩) n2 c2 (some ⟨b3, o3, none⟩) d (some ⟨b4, o4, none⟩) es g x Aa m1 la Ab m2 lb w6) := Lib.hid ⟨HJ1.out.x xb, HB.out.ext xb, RA.out.ext xb, rb⟩
      clear rb xb HBF RA HB HJ1
      obtain ⟨d0, d1, d2, d3, d4⟩ := HK.out.b.ins
      obtain ⟨to_, hto⟩ : ∃ t, t = if tgtF x = true then x.n else 0 := ⟨_, rfl⟩
      obtain ⟨tb, htb⟩ : ∃ t, t = tgtF x := ⟨_, rfl⟩
      obtain ⟨gb, hgb⟩ : ∃ t, t = goesF x := ⟨_, rfl⟩
      rw [← hto, ← htb] at HT
      rw [← hgb] at HG
      have HGO : Hid (∀ k : Nat, decide (k ∈ la) = ((tb && decide (to_ = (k : Int))) || (gb && decide (k = i + 1)))) := Lib.hid (fun k => by
        rw [Hla.out, goes_edF Hx.out, htb, hgb, hto]
        cases h : tgtF x with
        | true => simp
        | false => simp)
      clear hto htb hgb
      go_wp2_with fail
      refine (HT.out _).mono ?_; rintro e w7 ⟨rfl, x7⟩
      replace HK := Lib.hid (HK.out.x x7)
      obtain ⟨d0, d1, d2, d3, d4⟩ := HK.out.b.ins
      have hop : ((x.op : Int) == 1) = decide (x.op = 1) := by
        rw [Bool.eq_iff_iff]; simp; omega
      have HC0 : Hid (decide (x.op = 1) = canF p es i x 0) := Lib.hid rfl
      clear x7 HT
      go_wp2_with fail
      clear d0 d1 d2 d3 d4
      go_loopw [16, 95] (fun v16 v95 ws => ∃ k : Nat, k ≤ n2 ∧ v95 = .int .i64 (k : Int) ∧ v16 = .bool (canF p es i x k) ∧ Hid (FnK w p (some ⟨b2, o2, none⟩) n2 c2 (some ⟨b3, o3, none⟩) d (some ⟨b4, o4, none⟩) es g x Aa m1 la Ab m2 lb ws)) (fun _ v _ => n2 - (intOf v).toNat)
      case atStart => exact ⟨0, by omega, rfl, by first | rw [hop, HC0.out] | rw [HC0.out], HK⟩
      case round =>
        clear HK
        obtain ⟨k, hk, rfl, rfl, HK⟩ := hrel
        by_cases hlk : k < n2
        · have hkI : (k : Int) < (n2 : Int) := by omega
          have hkp : k < p.length := by rw [Hpn.out]; exact hlk
          obtain ⟨d0, d1, d2, d3, d4⟩ := HK.out.b.ins
          obtain ⟨_, _, ek, h1, hek, _⟩ := rd_get HK.out.j.re hlk
          cases h1
          have HEK : Hid (∀ W, FnK w p (some ⟨b2, o2, none⟩) n2 c2 (some ⟨b3, o3, none⟩) d (some ⟨b4, o4, none⟩) es g x Aa m1 la Ab m2 lb W → W.cell? ⟨b4, o4 + k, none⟩ = some (.bool ek)) := Lib.hid (fun W hW => by
            obtain ⟨_, _, ek', h1, hek', ce⟩ := rd_get hW.j.re hlk
            cases h1
            rw [hek] at hek'
            obtain rfl := Option.some.inj hek'
            exact ce)
          obtain ⟨cb, hcb⟩ : ∃ c, c = canF p es i x k := ⟨_, rfl⟩
          obtain ⟨q0, hq0⟩ : ∃ c, c = decide (k ∈ la) := ⟨_, rfl⟩
          have HC1 : Hid (canF p es i x (k + 1) = (cb || (q0 && ek))) := Lib.hid (by
            rw [canF, ← hcb, hq0, Hla.out, hek]; rfl)
          have HQ := Lib.hid (HGO.out k)
          rw [← hq0] at HQ
          obtain ⟨m3, hm3⟩ : ∃ m, m = (befN p p.length k).length := ⟨_, rfl⟩
          have hm3b : m3 ≤ 41 := by rw [hm3]; have := befN_len p p.length k; rw [Hpn.out] at this ⊢; omega
          have HBF := Lib.hid (fun W (h : RdS 5 insC W (some ⟨b2, o2, none⟩) n2 p) => sh_bef (c := c2) h (bef_in HRP.out hkp) hm3.symm)
          have HCa : Hid (∀ W c, Rd intv W Aa m1 la → Calls Try.prog 18 #[.slice Aa m1 c, .int .i64 (k : Int)] W fun e w' => e = .returned (.bool q0) ∧ Ext W w') := Lib.hid (fun W c h => by
            rw [hq0]; exact containsN Aa m1 c la k W h (by omega))
          have HCb : Hid (∀ W A c, Rd intv W A m3 (befN p p.length k) → Calls Try.prog 18 #[.slice A m3 c, .int .i64 (i : Int)] W fun e w' => e = .returned (.bool q0) ∧ Ext W w') := Lib.hid (fun W A c h => by
            have h1 := containsN A m3 c _ i W h (by omega)
            rw [show decide (i ∈ befN p p.length k) = q0 by
              rw [hq0, Hla.out]
              rw [Bool.eq_iff_iff, decide_eq_true_iff, decide_eq_true_iff, befN_mem]
              exact ⟨fun h => h.2, fun h => ⟨hip, h⟩⟩] at h1
            exact h1)
          have hwi : wrap64 ((i : Int) + 1) = (i : Int) + 1 := by unfold wrap64; omega
          have hqq : (!(q0 == q0)) = false := by simp
          have hqq2 : (q0 != q0) = false := by simp
          rw [← hcb]
          clear hcb hq0 hek hm3
          go_upto_region 20 with fail
          go_cut [18] from 98 to 113 (fun v wx => v = .bool q0 ∧ Ext wr wx)
          case first =>
            clear HCa HCb HBF HEK HC1 hqq hqq2
            cases tb with
            | true =>
              by_cases hk1 : to_ = (k : Int)
              · have hke : ((k : Int) == to_) = true := by simp [hk1]
                have hke2 : (to_ == (k : Int)) = true := by simp [hk1]
                have Hq : Hid (true = q0) := Lib.hid (by rw [HQ.out, decide_eq_true hk1]; rfl)
                clear hk1 HQ
                go_wp2_with fail
                go_meet
                exact ⟨ret_bool' Hq.out, Ext.refl _⟩
              · have hke : ((k : Int) == to_) = false := by simp; omega
                have Hq : Hid (q0 = (gb && decide (k = i + 1))) := Lib.hid (by rw [HQ.out, decide_eq_false hk1]; rfl)
                clear hk1 HQ
                cases gb with
                | true =>
                  by_cases hk2 : k = i + 1
                  · have hki : ((k : Int) == (i : Int) + 1) = true := by simp; omega
                    have Hq2 : Hid (true = q0) := Lib.hid (by rw [Hq.out, decide_eq_true hk2]; rfl)
                    clear hk2 Hq
                    go_wp2_with fail
                    refine (HG.out _).mono ?_; rintro e wx ⟨rfl, ex⟩
                    go_wp2_with fail
                    go_meet
                    exact ⟨ret_bool' Hq2.out, ex⟩
                  · have hki : ((k : Int) == (i : Int) + 1) = false := by simp; omega
                    have Hq2 : Hid (false = q0) := Lib.hid (by rw [Hq.out, decide_eq_false hk2]; rfl)
                    clear hk2 Hq
                    go_wp2_with fail
                    refine (HG.out _).mono ?_; rintro e wx ⟨rfl, ex⟩
                    go_wp2_with fail
                    go_meet
                    exact ⟨ret_bool' Hq2.out, ex⟩
                | false =>
                  have Hq2 : Hid (false = q0) := Lib.hid (by rw [Hq.out]; rfl)
                  clear Hq
                  go_wp2_with fail
                  refine (HG.out _).mono ?_; rintro e wx ⟨rfl, ex⟩
                  go_wp2_with fail
                  go_meet
                  exact ⟨ret_bool' Hq2.out, ex⟩
            | false =>
              have Hq : Hid (q0 = (gb && decide (k = i + 1))) := Lib.hid (by rw [HQ.out]; rfl)
              clear HQ
              cases gb with
              | true =>
                by_cases hk2 : k = i + 1
                · have hki : ((k : Int) == (i : Int) + 1) = true := by simp; omega
                  have Hq2 : Hid (true = q0) := Lib.hid (by rw [Hq.out, decide_eq_true hk2]; rfl)
                  clear hk2 Hq
                  go_wp2_with fail
                  refine (HG.out _).mono ?_; rintro e wx ⟨rfl, ex⟩
                  go_wp2_with fail
                  go_meet
                  exact ⟨ret_bool' Hq2.out, ex⟩
                · have hki : ((k : Int) == (i : Int) + 1) = false := by simp; omega
                  have Hq2 : Hid (false = q0) := Lib.hid (by rw [Hq.out, decide_eq_false hk2]; rfl)
                  clear hk2 Hq
                  go_wp2_with fail
                  refine (HG.out _).mono ?_; rintro e wx ⟨rfl, ex⟩
                  go_wp2_with fail
                  go_meet
                  exact ⟨ret_bool' Hq2.out, ex⟩
              | false =>
                have Hq2 : Hid (false = q0) := Lib.hid (by rw [Hq.out]; rfl)
                clear Hq
                go_wp2_with fail
                refine (HG.out _).mono ?_; rintro e wx ⟨rfl, ex⟩
                go_wp2_with fail
                go_meet
                exact ⟨ret_bool' Hq2.out, ex⟩
          case rest =>
            obtain ⟨rfl, ex⟩ := hcut
            replace HK := Lib.hid (HK.out.x ex)
            clear ex d0 d1 d2 d3 d4 HQ
            go_wp2_with fail
            refine (HBF.out _ HK.out.j.new.rd).mono ?_; rintro e w8 ⟨Ac, cc, rfl, rc, xc⟩
            have RC := Lib.hid rc
            replace HK := Lib.hid (HK.out.x xc)
            clear rc xc HBF
            go_wp2_with fail
            refine (HCa.out _ _ HK.out.ra).mono ?_; rintro e w9 ⟨rfl, xc⟩
            replace RC := Lib.hid (RC.out.ext xc)
            replace HK := Lib.hid (HK.out.x xc)
            clear xc HCa
            go_wp2_with fail
            refine (HCb.out _ _ _ RC.out).mono ?_; rintro e w10 ⟨rfl, xc⟩
            replace HK := Lib.hid (HK.out.x xc)
            clear xc HCb RC
            have ce := HEK.out _ HK.out
            cases cb with
            | true =>
              go_wp2_with fail
              go_roundw
              case rel => exact ⟨k + 1, by omega, by go_num, by rw [HC1.out]; simp, HK⟩
              case measure => simp [intOf]; omega
            | false =>
              cases q0 with
              | true =>
                go_wp2_with fail
                go_roundw
                case rel => exact ⟨k + 1, by omega, by go_num, by rw [HC1.out]; simp, HK⟩
                case measure => simp [intOf]; omega
              | false =>
                go_wp2_with fail
                go_roundw
                case rel => exact ⟨k + 1, by omega, by go_num, by rw [HC1.out]; simp, HK⟩
                case measure => simp [intOf]; omega
        · obtain rfl : n2 = k := by omega
          obtain ⟨_, _, ei, h1, hei, _⟩ := rd_get HK.out.j.re hlt
          cases h1
          obtain ⟨_, _, yi, h1, hyi, _⟩ := rd_get HK.out.j.rd hlt
          cases h1
          have HEI : Hid (∀ W, FnK w p (some ⟨b2, o2, none⟩) n2 c2 (some ⟨b3, o3, none⟩) d (some ⟨b4, o4, none⟩) es g x Aa m1 la Ab m2 lb W → W.cell? ⟨b4, o4 + i, none⟩ = some (.bool ei) ∧ W.cell? ⟨b3, o3 + i, none⟩ = some (.int .i64 yi)) := Lib.hid (fun W hW => by
            obtain ⟨_, _, ek', h1, hek', ce⟩ := rd_get hW.j.re hlt
            cases h1
            rw [hei] at hek'
            obtain rfl := Option.some.inj hek'
            obtain ⟨_, _, ek', h1, hek', ce'⟩ := rd_get hW.j.rd hlt
            cases h1
            rw [hyi] at hek'
            obtain rfl := Option.some.inj hek'
            exact ⟨ce, ce'⟩)
          have hcan := can_end HRP.out HE.out Hx.out hei
          rw [Hpn.out] at hcan
          rw [hcan]
          have hyb := dist_lt HD.out hyi
          rw [Hpn.out] at hyb
          have HLE := Lib.hid (fun h0 : 0 < i => lea_end HRP.out HD.out h0 hyi)
          rw [← Hlb.out] at HLE
          clear hei hyi hcan HC0 HG HGO hop
          go_wp2_with fail
          go_loopw [21, 149] (fun v21 v149 ws => ∃ k : Nat, k ≤ m2 ∧ v149 = .int .i64 (k : Int) ∧ v21 = .int .i64 (leaF d (lb.take k)) ∧ Hid (FnK w p (some ⟨b2, o2, none⟩) n2 c2 (some ⟨b3, o3, none⟩) d (some ⟨b4, o4, none⟩) es g x Aa m1 la Ab m2 lb ws)) (fun _ v _ => m2 - (intOf v).toNat)
          case atStart => exact ⟨0, by omega, rfl, rfl, HK⟩
          case round =>
            clear HK
            obtain ⟨k, hk, rfl, rfl, HK⟩ := hrel
            by_cases hlk : k < m2
            · have hkI : (k : Int) < (m2 : Int) := by omega
              obtain ⟨bu, ou, u, rfl, hu, cu⟩ := rd_get HK.out.rb hlk
              have hul : u < n2 := by
                have h1 := List.mem_of_getElem? hu
                rw [Hlb.out] at h1
                have := (befN_mem.1 h1).1
                rw [Hpn.out] at this; exact this
              have huI : (u : Int) < (n2 : Int) := by omega
              obtain ⟨_, _, y, h1, hy, cy⟩ := rd_get HK.out.j.rd hul
              cases h1
              obtain ⟨a, ha⟩ : ∃ a, a = leaF d (lb.take k) := ⟨_, rfl⟩
              have HL1 : Hid (leaF d (lb.take (k + 1)) = if 0 ≤ y ∧ (a < 0 ∨ y < a) then y else a) := Lib.hid (by
                rw [leaF_snoc hu, ← ha]
                unfold leaS
                rw [hy]; rfl)
              rw [← ha]
              unfold intv at cu
              unfold intz at cy
              have hu0 : ¬ ((u : Int) < 0) := by omega
              have hu1 : ¬ ((n2 : Int) ≤ (u : Int)) := by omega
              clear ha hu hy
              by_cases y0 : 0 ≤ y
              · by_cases a0 : a < 0
                · have HL2 : Hid (leaF d (lb.take (k + 1)) = y) := Lib.hid (by rw [HL1.out, if_pos ⟨y0, .inl a0⟩])
                  clear HL1
                  go_wp2_with fail
                  go_roundw
                  case rel => exact ⟨k + 1, by omega, by go_num, by rw [HL2.out], HK⟩
                  case measure => simp [intOf]; omega
                · by_cases ya : y < a
                  · have HL2 : Hid (leaF d (lb.take (k + 1)) = y) := Lib.hid (by rw [HL1.out, if_pos ⟨y0, .inr ya⟩])
                    clear HL1
                    go_wp2_with fail
                    go_roundw
                    case rel => exact ⟨k + 1, by omega, by go_num, by rw [HL2.out], HK⟩
                    case measure => simp [intOf]; omega
                  · have HL2 : Hid (leaF d (lb.take (k + 1)) = a) := Lib.hid (by rw [HL1.out, if_neg (fun h => h.2.elim a0 ya)])
                    clear HL1
                    go_wp2_with fail
                    go_roundw
                    case rel => exact ⟨k + 1, by omega, by go_num, by rw [HL2.out], HK⟩
                    case measure => simp [intOf]; omega
              · have HL2 : Hid (leaF d (lb.take (k + 1)) = a) := Lib.hid (by rw [HL1.out, if_neg (fun h => y0 h.1)])
                clear HL1
                go_wp2_with fail
                go_roundw
                case rel => exact ⟨k + 1, by omega, by go_num, by rw [HL2.out], HK⟩
                case measure => simp [intOf]; omega
            · obtain rfl : m2 = k := by omega
              rw [List.take_of_length_le (show lb.length ≤ m2 by rw [Hlb.out]; exact Nat.le_of_eq Hm2.out.symm)]
              obtain ⟨a, ha⟩ : ∃ a, a = leaF d lb := ⟨_, rfl⟩
              rw [← ha] at HLE ⊢
              obtain ⟨ce, cy⟩ := HEI.out _ HK.out
              have hee : (!(ei == ei)) = false := by simp
              have hee2 : (ei != ei) = false := by simp
              have hm1I : ¬ ((2 : Int) < (m1 : Int)) := by omega
              have HSa := Lib.hid (fun W c (h : Rd intv W Aa m1 la) => sortedN Aa m1 c la W h (by rw [Hla.out]; exact edF_srt p i) (by omega))
              have HSb := Lib.hid (fun W c (h : Rd intv W Ab m2 lb) => sortedN Ab m2 c lb W h (by rw [Hlb.out]; exact befN_srt p p.length i) (by omega))
              clear ha HEI
              by_cases hi0 : 0 < i
              · have hi0I : (0 : Int) < (i : Int) := by omega
                rcases HLE.out hi0 with ⟨a0, y0⟩ | ⟨a0, y0⟩
                · subst y0
                  have ag : ¬ (0 ≤ a) := by omega
                  go_wp2_with fail
                  refine (HSa.out _ _ HK.out.ra).mono ?_; rintro e w8 ⟨rfl, xc⟩
                  replace HK := Lib.hid (HK.out.x xc)
                  clear xc
                  go_wp2_with fail
                  refine (HSb.out _ _ HK.out.rb).mono ?_; rintro e w9 ⟨rfl, xc⟩
                  have HJ2 := Lib.hid (HK.out.j.x xc)
                  clear xc HK HSa HSb
                  go_wp2_with fail
                  go_roundw
                  case rel => exact ⟨i + 1, by omega, by go_num, HJ2⟩
                  case measure => simp [intOf]; omega
                · have ag : ¬ (a < 0) := by omega
                  have hwa : wrap64 (a + 1) = yi := by unfold wrap64; omega
                  have hyy : (!(yi == yi)) = false := by simp
                  have hyy2 : (yi != yi) = false := by simp
                  clear y0
                  go_wp2_with fail
                  refine (HSa.out _ _ HK.out.ra).mono ?_; rintro e w8 ⟨rfl, xc⟩
                  replace HK := Lib.hid (HK.out.x xc)
                  clear xc
                  go_wp2_with fail
                  refine (HSb.out _ _ HK.out.rb).mono ?_; rintro e w9 ⟨rfl, xc⟩
                  have HJ2 := Lib.hid (HK.out.j.x xc)
                  clear xc HK HSa HSb
                  go_wp2_with fail
                  go_roundw
                  case rel => exact ⟨i + 1, by omega, by go_num, HJ2⟩
                  case measure => simp [intOf]; omega
              · have hi0I : ¬ (0 : Int) < (i : Int) := by omega
                go_wp2_with fail
                refine (HSa.out _ _ HK.out.ra).mono ?_; rintro e w8 ⟨rfl, xc⟩
                replace HK := Lib.hid (HK.out.x xc)
                clear xc
                go_wp2_with fail
                refine (HSb.out _ _ HK.out.rb).mono ?_; rintro e w9 ⟨rfl, xc⟩
                have HJ2 := Lib.hid (HK.out.j.x xc)
                clear xc HK HSa HSb
                go_wp2_with fail
                go_roundw
                case rel => exact ⟨i + 1, by omega, by go_num, HJ2⟩
                case measure => simp [intOf]; omega
    · obtain rfl : n2 = i := by omega
      have HF := Lib.hid HJ.out.new.ext
      clear HJ
      go_wp2_with fail
      go_ret
      exact ⟨rfl, HF.out⟩
end Go.Proofs.Ytlneifgihdickaa
