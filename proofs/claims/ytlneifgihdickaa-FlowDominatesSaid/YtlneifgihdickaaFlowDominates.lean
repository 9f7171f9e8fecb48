/- FlowDominates: the walk of the law: for any list of small instructions and any number it answers true and leaves all memory as it was (no condition). -/
import Derived.Test.YtlneifgihdickaaFdc
namespace Go.Proofs.Ytlneifgihdickaa
open Go.RowKit Go.Fx
/-- What the law holds all along. -/
structure FoJ (w : World) (p : List Ins) (A2 : Option Addr) (n2 c2 : Nat) (A4 : Option Addr) (rb : List Bool) (A5 : Option Addr) (ra : List Bool) (A6 : Option Addr) (ms : List Int) (W : World) : Prop where
  new : NewS w p W A2 n2 c2
  rb_ : Rd boolv W A4 n2 rb
  ra_ : Rd boolv W A5 n2 ra
  rm : Rd intz W A6 n2 ms
theorem FoJ.x {w : World} {p : List Ins} {A2 : Option Addr} {n2 c2 : Nat} {A4 : Option Addr} {rb : List Bool} {A5 : Option Addr} {ra : List Bool} {A6 : Option Addr} {ms : List Int} {W W' : World} (h : FoJ w p A2 n2 c2 A4 rb A5 ra A6 ms W) (e : Ext W W') : FoJ w p A2 n2 c2 A4 rb A5 ra A6 ms W' := ⟨h.new.exte e, h.rb_.ext e, h.ra_.ext e, h.rm.ext e⟩
theorem FoJ.cells {w : World} {p : List Ins} {A2 : Option Addr} {n2 c2 : Nat} {b4 o4 : Nat} {rb : List Bool} {b5 o5 : Nat} {ra : List Bool} {b6 o6 : Nat} {ms : List Int} {W : World} (h : FoJ w p A2 n2 c2 (some ⟨b4, o4, none⟩) rb (some ⟨b5, o5, none⟩) ra (some ⟨b6, o6, none⟩) ms W) {i : Nat} (hi : i < n2) {b a : Bool} {m : Int} (hb : rb[i]? = some b) (ha : ra[i]? = some a) (hm : ms[i]? = some m) :
    W.cell? ⟨b4, o4 + i, none⟩ = some (.bool b) ∧ W.cell? ⟨b5, o5 + i, none⟩ = some (.bool a) ∧ W.cell? ⟨b6, o6 + i, none⟩ = some (.int .i64 m) := by
  obtain ⟨_, _, b', h1, h2, h3⟩ := rd_get h.rb_ hi
  cases h1
  rw [hb] at h2
  obtain rfl := Option.some.inj h2
  obtain ⟨_, _, a', h1, h2, h4⟩ := rd_get h.ra_ hi
  cases h1
  rw [ha] at h2
  obtain rfl := Option.some.inj h2
  obtain ⟨_, _, m', h1, h2, h5⟩ := rd_get h.rm hi
  cases h1
  rw [hm] at h2
  obtain rfl := Option.some.inj h2
  exact ⟨h3, h4, h5⟩
/-- Where the inner loop stands. -/
def DoS (E : Nat → Nat → Prop) (cnt : Nat → Nat) (n k i : Nat) (bi : Bool) (z : Int) (left : Nat) (b : Bool) : Prop :=
  (bi = false ∧ b = false ∧ z = (i : Int)) ∨ (bi = true ∧ z = -1 ∧ (b = true ↔ Dom E k i)) ∨ (bi = true ∧ ∃ c : Nat, z = (c : Int) ∧ c < n ∧ Dom E c i ∧ cnt c ≤ left ∧ (b = true ↔ SeeD E k i c))
set_option maxRecDepth 100000 in
set_option maxHeartbeats 8000000 in
theorem walkFlowDominates (A0 : Option Addr) (n0 c0 : Nat) (l : List Ins) (wi : Int) (w : World) (h0 : InArg w A0 n0 c0 l) (hwi : (Lit.int .u8 wi).wf = true) :
    Calls Try.prog 5 #[.slice A0 n0 c0, .int .u8 wi] w fun e w' => e = .returned (.bool true) ∧ Ext w w' := by
  have hab := bounds_u8 hwi
  obtain ⟨ta, rfl⟩ := Int.eq_ofNat_of_zero_le hab.1
  obtain ⟨p, hp⟩ : ∃ p, p = madeF l := ⟨_, rfl⟩
  have HM0 := Lib.hid (fun w' e => makes_ A0 n0 c0 l w' (h0.rd.ext e) h0.ok h0.le h0.max)
  have HRP := Lib.hid (made_right h0.ok)
  have hpl := made_le l
  rw [← hp] at HM0 HRP hpl
  have Hpl := Lib.hid hpl
  have hta : ta < 256 := by omega
  clear h0 hp hpl hwi hab
  go_enter Try.func5, Try.ntmps5
  go_wp2_with fail
  refine (awake_ w).mono ?_; rintro e w1 ⟨rfl, e1⟩
  have E1 := Lib.hid e1
  clear e1
  go_wp2_with fail
  refine (HM0.out _ E1.out).mono ?_; rintro e w2 ⟨A2, n2, c2, rfl, hn⟩
  have hpn := hn.n_
  obtain ⟨b2, o2, hA2⟩ := hn.rd.some_ (by have := Hpl.out; omega)
  subst hA2
  have N2 : Hid (NewS w p w2 (some ⟨b2, o2, none⟩) n2 c2) := Lib.hid ⟨hn.room, E1.out.t hn.ext, fun k hk => by have := hn.ft k hk; have := E1.out.size; omega⟩
  have hn2 : 1 ≤ n2 ∧ n2 ≤ 41 := by have := Hpl.out; omega
  have Hpn : Hid (p.length = n2) := Lib.hid hpn.symm
  obtain ⟨hn2a, hn2b⟩ := hn2
  obtain ⟨k, hkk⟩ : ∃ k, k = ta % n2 := ⟨_, rfl⟩
  have hk2 : k < n2 := by rw [hkk]; exact Nat.mod_lt _ (by omega)
  have Hat : Hid ((wrap64 (ta : Int)).tmod (n2 : Int) = (k : Int)) := Lib.hid (by rw [show wrap64 (ta : Int) = (ta : Int) by unfold wrap64; omega, hkk]; rfl)
  have Hat2 : Hid ((ta : Int) % (n2 : Int) = (k : Int)) := Lib.hid (by rw [hkk]; rfl)
  have heq0 : ((n2 : Int) == 0) = false := by simp; omega
  have hkI : (k : Int) < (n2 : Int) := by omega
  clear hn E1 hpn HM0 Hpl hkk
  go_upto_region 5 with fail
  first | rw [Hat2.out] | rw [Hat.out]
  clear Hat Hat2
  go_wp2_with fail
  refine (cloneI _ _ _ insC_len insC_one p _ N2.out.rd (by omega)).mono ?_; rintro e w3 ⟨A3, c3, rfl, r3, x3, ft3⟩
  have Q3 : NewS w2 p w3 A3 n2 c3 := ⟨r3, x3, ft3⟩
  obtain ⟨b3, o3, hA3⟩ := Q3.rd.some_ (by omega)
  subst hA3
  obtain ⟨v0, v1, v2, v3, v4, y0, y1, y2, y3, y4, hf⟩ := Q3.cells5 hk2
  have f0 := hf 0 (by decide)
  have f1 := hf 1 (by decide)
  have f2 := hf 2 (by decide)
  have f3 := hf 3 (by decide)
  have f4 := hf 4 (by decide)
  rw [Nat.add_zero] at f0
  have Q4 := Lib.hid (Q3.five hk2 fail0)
  clear hf r3 x3 ft3 Q3
  go_wp2_with fail
  change Calls _ _ _ (fiveAt w3 b3 (o3 + k * 5) fail0) _
  generalize fiveAt w3 b3 (o3 + k * 5) fail0 = w4 at *
  clear y0 y1 y2 y3 y4 f0 f1 f2 f3 f4
  replace N2 := Lib.hid (N2.out.exte Q4.out.ext)
  have HRQ := Lib.hid (fail_right HRP.out k)
  refine (reached_ _ _ _ p _ N2.out.rd HRP.out).mono ?_; rintro e w5 ⟨A4, c4, d, rfl, hd, r4, -, x4⟩
  have HD := Lib.hid hd
  have RB := Lib.hid r4.rd
  replace N2 := Lib.hid (N2.out.exte x4)
  replace Q4 := Lib.hid (Q4.out.exte x4)
  clear hd r4 x4
  go_wp2_with fail
  refine (reached_ _ _ _ (p.set k fail0) _ Q4.out.rd HRQ.out).mono ?_; rintro e w6 ⟨A5, c5, d2, rfl, hd, r4, -, x4⟩
  have HD2 := Lib.hid hd
  have RA := Lib.hid r4.rd
  replace RB := Lib.hid (RB.out.ext x4)
  replace N2 := Lib.hid (N2.out.exte x4)
  clear hd r4 x4 Q4
  go_wp2_with fail
  refine (dom_ _ _ _ p _ N2.out.rd HRP.out).mono ?_; rintro e w7 ⟨A6, c6, ms, rfl, hd, r4, -, x4⟩
  have HN := Lib.hid hd
  have HJ : Hid (FoJ w p (some ⟨b2, o2, none⟩) n2 c2 A4 (rchB d) A5 (rchB d2) A6 ms w7) := Lib.hid ⟨N2.out.exte x4, RB.out.ext x4, RA.out.ext x4, r4.rd⟩
  clear hd r4 x4 RA RB N2
  obtain ⟨b4, o4, _, hA4, _⟩ := rd_get HJ.out.rb_ (k := 0) (by omega)
  obtain ⟨b5, o5, _, hA5, _⟩ := rd_get HJ.out.ra_ (k := 0) (by omega)
  obtain ⟨b6, o6, _, hA6, _⟩ := rd_get HJ.out.rm (k := 0) (by omega)
  subst hA4 hA5 hA6
  obtain ⟨cnt, hc1, hc2⟩ := dom_cnt (E := EdP p) (n := n2) (fun i hi => by have := rch_lt HRP.out hi; rw [Hpn.out] at this; exact this)
  have HC := Lib.hid (And.intro hc1 hc2)
  have HR1 := Lib.hid (rchB_iff HD.out)
  have HR2 := Lib.hid (rchB_iff HD2.out)
  obtain ⟨rb, hrb⟩ : ∃ r, r = rchB d := ⟨_, rfl⟩
  obtain ⟨ra, hra⟩ : ∃ r, r = rchB d2 := ⟨_, rfl⟩
  rw [← hrb] at HR1 HJ
  rw [← hra] at HR2 HJ
  have hnn : ((n2 : Int) != (n2 : Int)) = false := by simp
  clear hrb hra hc1 hc2
  go_wp2_with fail
  go_loopw [77] (fun v wr => ∃ i : Nat, i ≤ n2 ∧ v = .int .i64 (i : Int) ∧ Hid (FoJ w p (some ⟨b2, o2, none⟩) n2 c2 (some ⟨b4, o4, none⟩) rb (some ⟨b5, o5, none⟩) ra (some ⟨b6, o6, none⟩) ms wr)) (fun v _ => n2 - (intOf v).toNat)
  case atStart => exact ⟨0, by omega, rfl, HJ⟩
  case round =>
    clear HJ
    obtain ⟨i, hi, rfl, HJ⟩ := hrel
    by_cases hlt : i < n2
    · have hltI : (i : Int) < (n2 : Int) := by omega
      obtain ⟨bi, hbi⟩ : ∃ b, rb[i]? = some b := ⟨_, List.getElem?_eq_getElem (by rw [HR1.out.1]; exact hlt)⟩
      obtain ⟨ai, hai⟩ : ∃ b, ra[i]? = some b := ⟨_, List.getElem?_eq_getElem (by rw [HR2.out.1]; exact hlt)⟩
      obtain ⟨mi, hmi⟩ : ∃ b, ms[i]? = some b := ⟨_, List.getElem?_eq_getElem (by rw [HN.out.len]; exact hlt)⟩
      have hb1 : bi = true ↔ Rch (EdP p) i := by rw [← HR1.out.2 i hlt, hbi, Option.some.injEq]
      have ha1 : ai = true ↔ Rch (EdP (p.set k fail0)) i := by rw [← HR2.out.2 i hlt, hai, Option.some.injEq]
      have HI : Hid (rb[i]? = some bi ∧ ra[i]? = some ai ∧ ms[i]? = some mi ∧ (ai = true → bi = true) ∧ (bi = true → i ≠ k → (ai = true ↔ ¬ Dom (EdP p) k i)) ∧ (0 ≤ mi → bi = true) ∧ (bi = true → (0 < i → 0 ≤ mi) ∧ (0 ≤ mi → 0 < i))) := Lib.hid ⟨hbi, hai, hmi, fun h => hb1.2 (fail_le (ha1.1 h)), fun h hik => by
          rw [ha1, fail_rch hik]
          constructor
          · intro h2 h3; exact h3.2 h2
          · intro h2
            by_cases h3 : Rwo (EdP p) k i
            · exact h3
            · exact absurd ⟨hb1.1 h, h3⟩ h2,
        fun h => hb1.2 ((isN_sign HN.out hlt hmi).1 h).1, fun h => ⟨fun h2 => (isN_sign HN.out hlt hmi).2 ⟨hb1.1 h, h2⟩, fun h2 => ((isN_sign HN.out hlt hmi).1 h2).2⟩⟩
      have HS0 : Hid (DoS (EdP p) cnt n2 k i bi (i : Int) n2 false) := Lib.hid (by
        cases hh : bi with
        | false => exact .inl ⟨rfl, rfl, rfl⟩
        | true =>
          have hr := hb1.1 hh
          refine .inr (.inr ⟨rfl, i, rfl, hlt, Dom.self hr, (HC.out.2 i hr).2, ?_⟩)
          exact ⟨fun h => (by cases h), fun h => absurd h see_start⟩)
      clear hbi hai hmi hb1 ha1
      go_wp2_with fail
      go_loopw [15, 16, 17] (fun v15 v16 v17 ws => ∃ (b : Bool) (z : Int) (left : Nat), left ≤ n2 ∧ v15 = .bool b ∧ v16 = .int .i64 z ∧ v17 = .int .i64 (left : Int) ∧ Hid (DoS (EdP p) cnt n2 k i bi z left b) ∧ Hid (FoJ w p (some ⟨b2, o2, none⟩) n2 c2 (some ⟨b4, o4, none⟩) rb (some ⟨b5, o5, none⟩) ra (some ⟨b6, o6, none⟩) ms ws)) (fun _ _ v _ => (intOf v).toNat)
      case atStart => exact ⟨false, (i : Int), n2, Nat.le_refl _, rfl, rfl, rfl, HS0, HJ⟩
      case round =>
        clear HJ HS0
        obtain ⟨b, z, left, hleft, rfl, rfl, rfl, HS, HJ⟩ := hrel
        rcases HS.out with ⟨q1, q2, q3⟩ | ⟨q1, q2, q3⟩ | ⟨q1, c, q2, q3, q4, q5, q6⟩
        · subst q1 q2 q3
          obtain ⟨x1, x2, x3⟩ := HJ.out.cells hlt HI.out.1 HI.out.2.1 HI.out.2.2.1
          have hi00 : (0 : Int) ≤ (i : Int) := by omega
          clear HS
          have hm0 : ¬ (0 : Int) ≤ mi := fun h => by have := HI.out.2.2.2.2.2.1 h; simp at this
          have ha : ai = false := by
            cases hh : ai with
            | false => rfl
            | true => have := HI.out.2.2.2.1 hh; simp at this
          subst ha
          by_cases hik : i = k
          · have hk1 : ((i : Int) != (k : Int)) = false := by simp [hik]
            clear hik
            go_upto_region 22 with fail
            go_cut [157] from 111 to 157 (fun v wx => v = .bool false ∧ Ext wr wx)
            case first =>
              go_quiet (fail)
              go_wp2_with fail
              go_meet
              exact ⟨by simp, by first | exact Ext.drewN _ _ | exact Ext.drew _⟩
            case rest =>
              obtain ⟨rfl, ex⟩ := hcut
              replace HJ := Lib.hid (HJ.out.x ex)
              clear ex
              go_wp2_with fail
              go_roundw
              case rel => exact ⟨i + 1, by omega, by go_num, HJ⟩
              case measure => simp [intOf]; omega
          · have hk1 : ((i : Int) != (k : Int)) = true := by simp; omega
            have hbb : (false != false) = false := rfl
            go_upto_region 22 with fail
            go_cut [157] from 111 to 157 (fun v wx => v = .bool false ∧ Ext wr wx)
            case first =>
              go_quiet (fail)
              go_wp2_with fail
              go_meet
              exact ⟨by simp, by first | exact Ext.drewN _ _ | exact Ext.drew _⟩
            case rest =>
              obtain ⟨rfl, ex⟩ := hcut
              replace HJ := Lib.hid (HJ.out.x ex)
              clear ex
              go_wp2_with fail
              go_roundw
              case rel => exact ⟨i + 1, by omega, by go_num, HJ⟩
              case measure => simp [intOf]; omega
        · subst q1 q2
          obtain ⟨x1, x2, x3⟩ := HJ.out.cells hlt HI.out.1 HI.out.2.1 HI.out.2.2.1
          have HBF : Hid (i ≠ k → (b = !ai)) := Lib.hid (fun hik => by
            have h1 := HI.out.2.2.2.2.1 rfl hik
            cases hb : b with
            | true =>
              have h2 := q3.1 hb
              cases ha : ai with
              | false => rfl
              | true => exact absurd h2 (h1.1 ha)
            | false =>
              cases ha : ai with
              | true => rfl
              | false =>
                have h2 : Dom (EdP p) k i := by
                  by_cases h3 : Dom (EdP p) k i
                  · exact h3
                  · have := h1.2 h3; rw [ha] at this; cases this
                have := q3.2 h2; rw [hb] at this; cases this)
          have hz1 : ¬ (0 : Int) ≤ -1 := by omega
          clear HS q3
          have hsg := HI.out.2.2.2.2.2.2 rfl
          by_cases hi0 : 0 < i
          · have hm1 : (0 : Int) ≤ mi := hsg.1 hi0
            have hi1 : (0 : Int) < (i : Int) := by omega
            by_cases hik : i = k
            · have hk1 : ((i : Int) != (k : Int)) = false := by simp [hik]
              clear hik
              cases ai with
              | false =>
                skip
                go_upto_region 22 with fail
                go_cut [157] from 111 to 157 (fun v wx => v = .bool false ∧ Ext wr wx)
                case first =>
                  go_quiet (fail)
                  go_wp2_with fail
                  go_meet
                  exact ⟨by simp, by first | exact Ext.drewN _ _ | exact Ext.drew _⟩
                case rest =>
                  obtain ⟨rfl, ex⟩ := hcut
                  replace HJ := Lib.hid (HJ.out.x ex)
                  clear ex
                  go_wp2_with fail
                  go_roundw
                  case rel => exact ⟨i + 1, by omega, by go_num, HJ⟩
                  case measure => simp [intOf]; omega
              | true =>
                skip
                go_upto_region 22 with fail
                go_cut [157] from 111 to 157 (fun v wx => v = .bool false ∧ Ext wr wx)
                case first =>
                  go_quiet (fail)
                  go_wp2_with fail
                  go_meet
                  exact ⟨by simp, by first | exact Ext.drewN _ _ | exact Ext.drew _⟩
                case rest =>
                  obtain ⟨rfl, ex⟩ := hcut
                  replace HJ := Lib.hid (HJ.out.x ex)
                  clear ex
                  go_wp2_with fail
                  go_roundw
                  case rel => exact ⟨i + 1, by omega, by go_num, HJ⟩
                  case measure => simp [intOf]; omega
            · have hk1 : ((i : Int) != (k : Int)) = true := by simp; omega
              have hbv := HBF.out hik
              cases ai with
              | false =>
                obtain rfl : b = true := by simpa using hbv
                clear hbv hik
                go_upto_region 22 with fail
                go_cut [157] from 111 to 157 (fun v wx => v = .bool false ∧ Ext wr wx)
                case first =>
                  go_quiet (fail)
                  go_wp2_with fail
                  go_meet
                  exact ⟨by simp, by first | exact Ext.drewN _ _ | exact Ext.drew _⟩
                case rest =>
                  obtain ⟨rfl, ex⟩ := hcut
                  replace HJ := Lib.hid (HJ.out.x ex)
                  clear ex
                  go_wp2_with fail
                  go_roundw
                  case rel => exact ⟨i + 1, by omega, by go_num, HJ⟩
                  case measure => simp [intOf]; omega
              | true =>
                obtain rfl : b = false := by simpa using hbv
                clear hbv hik
                go_upto_region 22 with fail
                go_cut [157] from 111 to 157 (fun v wx => v = .bool false ∧ Ext wr wx)
                case first =>
                  go_quiet (fail)
                  go_wp2_with fail
                  go_meet
                  exact ⟨by simp, by first | exact Ext.drewN _ _ | exact Ext.drew _⟩
                case rest =>
                  obtain ⟨rfl, ex⟩ := hcut
                  replace HJ := Lib.hid (HJ.out.x ex)
                  clear ex
                  go_wp2_with fail
                  go_roundw
                  case rel => exact ⟨i + 1, by omega, by go_num, HJ⟩
                  case measure => simp [intOf]; omega
          · have hm1 : ¬ (0 : Int) ≤ mi := fun h => hi0 (hsg.2 h)
            have hi1 : ¬ (0 : Int) < (i : Int) := by omega
            by_cases hik : i = k
            · have hk1 : ((i : Int) != (k : Int)) = false := by simp [hik]
              clear hik
              cases ai with
              | false =>
                skip
                go_upto_region 22 with fail
                go_cut [157] from 111 to 157 (fun v wx => v = .bool false ∧ Ext wr wx)
                case first =>
                  go_quiet (fail)
                  go_wp2_with fail
                  go_meet
                  exact ⟨by simp, by first | exact Ext.drewN _ _ | exact Ext.drew _⟩
                case rest =>
                  obtain ⟨rfl, ex⟩ := hcut
                  replace HJ := Lib.hid (HJ.out.x ex)
                  clear ex
                  go_wp2_with fail
                  go_roundw
                  case rel => exact ⟨i + 1, by omega, by go_num, HJ⟩
                  case measure => simp [intOf]; omega
              | true =>
                skip
                go_upto_region 22 with fail
                go_cut [157] from 111 to 157 (fun v wx => v = .bool false ∧ Ext wr wx)
                case first =>
                  go_quiet (fail)
                  go_wp2_with fail
                  go_meet
                  exact ⟨by simp, by first | exact Ext.drewN _ _ | exact Ext.drew _⟩
                case rest =>
                  obtain ⟨rfl, ex⟩ := hcut
                  replace HJ := Lib.hid (HJ.out.x ex)
                  clear ex
                  go_wp2_with fail
                  go_roundw
                  case rel => exact ⟨i + 1, by omega, by go_num, HJ⟩
                  case measure => simp [intOf]; omega
            · have hk1 : ((i : Int) != (k : Int)) = true := by simp; omega
              have hbv := HBF.out hik
              cases ai with
              | false =>
                obtain rfl : b = true := by simpa using hbv
                clear hbv hik
                go_upto_region 22 with fail
                go_cut [157] from 111 to 157 (fun v wx => v = .bool false ∧ Ext wr wx)
                case first =>
                  go_quiet (fail)
                  go_wp2_with fail
                  go_meet
                  exact ⟨by simp, by first | exact Ext.drewN _ _ | exact Ext.drew _⟩
                case rest =>
                  obtain ⟨rfl, ex⟩ := hcut
                  replace HJ := Lib.hid (HJ.out.x ex)
                  clear ex
                  go_wp2_with fail
                  go_roundw
                  case rel => exact ⟨i + 1, by omega, by go_num, HJ⟩
                  case measure => simp [intOf]; omega
              | true =>
                obtain rfl : b = false := by simpa using hbv
                clear hbv hik
                go_upto_region 22 with fail
                go_cut [157] from 111 to 157 (fun v wx => v = .bool false ∧ Ext wr wx)
                case first =>
                  go_quiet (fail)
                  go_wp2_with fail
                  go_meet
                  exact ⟨by simp, by first | exact Ext.drewN _ _ | exact Ext.drew _⟩
                case rest =>
                  obtain ⟨rfl, ex⟩ := hcut
                  replace HJ := Lib.hid (HJ.out.x ex)
                  clear ex
                  go_wp2_with fail
                  go_roundw
                  case rel => exact ⟨i + 1, by omega, by go_num, HJ⟩
                  case measure => simp [intOf]; omega
        · subst q1 q2
          obtain ⟨l1, hl1⟩ : ∃ l1, left = l1 + 1 := ⟨left - 1, by have := (HC.out.2 c q4.rch).1; omega⟩
          have hlI : (left : Int) - 1 = (l1 : Int) := by omega
          have hl0 : ((left : Int) == 0) = false := by simp; omega
          have hc0 : (0 : Int) ≤ (c : Int) := by omega
          have hcn : ¬ (n2 : Int) ≤ (c : Int) := by omega
          have hcI : (c : Int) < (n2 : Int) := by omega
          obtain ⟨_, _, mc, hh, hmc, cm⟩ := rd_get HJ.out.rm q3
          cases hh
          unfold intz at cm
          obtain ⟨x1, _⟩ := HJ.out.cells hlt HI.out.1 HI.out.2.1 HI.out.2.2.1
          have HS2 : Hid (∀ b', (b' = true ↔ b = true ∨ c = k) → DoS (EdP p) cnt n2 k i true mc l1 b') := Lib.hid (fun b' hb' => by
            rcases isN_at HN.out q4.rch q3 with ⟨h0, hm⟩ | ⟨j, hj, hm, hnea⟩
            · rw [hmc] at hm
              obtain rfl := Option.some.inj hm
              subst h0
              refine .inr (.inl ⟨rfl, rfl, ?_⟩)
              rw [hb', q6]
              exact (see_end q4).symm
            · rw [hmc] at hm
              obtain rfl := Option.some.inj hm
              refine .inr (.inr ⟨rfl, j, rfl, hj, hnea.2.1.trans q4, ?_, ?_⟩)
              · have := HC.out.1 c j hnea; omega
              · rw [hb', q6]
                exact (see_next q4 hnea).symm)
          have hl1b : l1 ≤ n2 := by omega
          have hl1c : l1 < left := by omega
          clear HS q6 q4 q5 hmc
          cases b with
          | true =>
            go_wp2_with fail
            go_roundw
            case rel => exact ⟨true, mc, l1, hl1b, rfl, rfl, by first | rfl | go_num, Lib.hid (HS2.out true (by simp)), HJ⟩
            case measure => simp [intOf]; omega
          | false =>
            by_cases hck : c = k
            · have he : ((c : Int) == (k : Int)) = true := by simp [hck]
              have hS3 := Lib.hid (HS2.out true (by simp [hck]))
              clear hck
              go_wp2_with fail
              go_roundw
              case rel => exact ⟨true, mc, l1, hl1b, rfl, rfl, by first | rfl | go_num, hS3, HJ⟩
              case measure => simp [intOf]; omega
            · have he : ((c : Int) == (k : Int)) = false := by simp; omega
              have hS3 := Lib.hid (HS2.out false (by simp [hck]))
              clear hck
              go_wp2_with fail
              go_roundw
              case rel => exact ⟨false, mc, l1, hl1b, rfl, rfl, by first | rfl | go_num, hS3, HJ⟩
              case measure => simp [intOf]; omega
    · obtain rfl : n2 = i := by omega
      have HF := Lib.hid HJ.out.new.ext
      clear HJ
      go_wp2_with fail
      go_ret
      exact ⟨rfl, HF.out⟩
end Go.Proofs.Ytlneifgihdickaa
