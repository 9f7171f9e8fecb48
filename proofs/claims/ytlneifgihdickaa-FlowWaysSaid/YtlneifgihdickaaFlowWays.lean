/- FlowWays: the walk of the law: for any list of small instructions and any bytes it answers true and leaves all memory as it was (no condition). -/
import Derived.Test.YtlneifgihdickaaFlowNext
import Derived.Test.YtlneifgihdickaaFdc
namespace Go.Proofs.Ytlneifgihdickaa
open Go.RowKit Go.Fx
/-- What the law holds all along. -/
structure FwJ (w : World) (p : List Ins) (A2 : Option Addr) (n2 c2 : Nat) (A4 : Option Addr) (rb : List Bool) (A5 : Option Addr) (es : List Bool) (A6 : Option Addr) (d : List Int) (A7 : Option Addr) (ms : List Int) (W : World) : Prop where
  new : NewS w p W A2 n2 c2
  rb_ : Rd boolv W A4 n2 rb
  re : Rd boolv W A5 n2 es
  rd : Rd intz W A6 n2 d
  rm : Rd intz W A7 n2 ms
theorem FwJ.x {w : World} {p : List Ins} {A2 : Option Addr} {n2 c2 : Nat} {A4 : Option Addr} {rb : List Bool} {A5 : Option Addr} {es : List Bool} {A6 : Option Addr} {d : List Int} {A7 : Option Addr} {ms : List Int} {W W' : World} (h : FwJ w p A2 n2 c2 A4 rb A5 es A6 d A7 ms W) (e : Ext W W') : FwJ w p A2 n2 c2 A4 rb A5 es A6 d A7 ms W' := ⟨h.new.exte e, h.rb_.ext e, h.re.ext e, h.rd.ext e, h.rm.ext e⟩
/-- A new list of numbers. -/
structure NwI (V : World) (A : Option Addr) (m c : Nat) (ws : List Nat) (W : World) : Prop where
  room : Room W A m c (ws.map intv)
  ext : Ext V W
  ft : ∀ k, foot A c k → V.heap.size ≤ k
theorem NwI.x {V : World} {A : Option Addr} {m c : Nat} {ws : List Nat} {W W' : World} (h : NwI V A m c ws W) (e : Ext W W') : NwI V A m c ws W' := ⟨h.room.ext e, h.ext.t e, h.ft⟩
theorem NwI.more {V W W2 W3 : World} {A A2 : Option Addr} {m c c2 v : Nat} {ws : List Nat} (h : NwI V A m c ws W) (e : Ext W W2) (r : Room W3 A2 (m + 1) c2 (ws.map intv ++ [intv v])) (ch : Chg (foot A c) W2 W3) (ft : ∀ k, foot A2 c2 k → foot A c k ∨ W2.heap.size ≤ k) : NwI V A2 (m + 1) c2 (ws ++ [v]) W3 := by
  have e2 := h.ext.t e
  exact ⟨by rw [List.map_append]; exact r, e2.trans (ch.below e2.size (fun k hk hf => by have := h.ft k hf; omega)), fun k hk => (ft k hk).elim (h.ft k) (fun h1 => by have := e2.size; omega)⟩
theorem sl_toI {A : Option Addr} {n c hi : Nat} {li : Int} (w : World) (e : li = (hi : Int)) (h2 : hi ≤ c) :
    (Instr.sliceAt 26 (.slice A n c) none (some (.int .i64 li)) none).run Try.prog w = .ok (.slice A hi c) w := by
  subst e
  have h4 : (hi : Int) ≤ (c : Int) := by omega
  have h5 : (0 : Int) ≤ (hi : Int) := by omega
  simp [go_sem, sliced, h4, Addr.add]
theorem sl_toU {A : Option Addr} {n c hi : Nat} {li : Int} (w : World) (e : li = (hi : Int)) (h2 : hi ≤ c) :
    (Instr.sliceAt 42 (.slice A n c) none (some (.int .i64 li)) none).run Try.prog w = .ok (.slice A hi c) w := by
  subst e
  have h4 : (hi : Int) ≤ (c : Int) := by omega
  have h5 : (0 : Int) ≤ (hi : Int) := by omega
  simp [go_sem, sliced, h4, Addr.add]
/-- Where the loop over the dominators stands. -/
def WaS (E : Nat → Nat → Prop) (cnt : Nat → Nat) (n u : Nat) (z : Int) (left : Nat) : Prop :=
  z = -1 ∨ ∃ c : Nat, z = (c : Int) ∧ c < n ∧ Dom E c u ∧ c ≠ u ∧ cnt c ≤ left
set_option maxRecDepth 100000 in
set_option maxHeartbeats 8000000 in
theorem walkFlowWays (A0 : Option Addr) (n0 c0 : Nat) (l : List Ins) (A1 : Option Addr) (n1 c1 : Nat) (cs : List Nat) (w : World) (h0 : InArg w A0 n0 c0 l) (hcs : Arg .u8 256 w A1 n1 c1 cs) :
    Calls Try.prog 4 #[.slice A0 n0 c0, .slice A1 n1 c1] w fun e w' => e = .returned (.bool true) ∧ Ext w w' := by
  obtain ⟨p, hp⟩ : ∃ p, p = madeF l := ⟨_, rfl⟩
  have HM0 := Lib.hid (fun w' e => makes_ A0 n0 c0 l w' (h0.rd.ext e) h0.ok h0.le h0.max)
  have HRP := Lib.hid (made_right h0.ok)
  have hpl := made_le l
  rw [← hp] at HM0 HRP hpl
  have Hpl := Lib.hid hpl
  have HCS := Lib.hid hcs.rd
  have HCL := Lib.hid hcs.lt
  have hc1 := hcs.le
  clear h0 hp hpl hcs
  go_enter Try.func4, Try.ntmps4
  go_wp2_with fail
  refine (awake_ w).mono ?_; rintro e w1 ⟨rfl, e1⟩
  have E1 := Lib.hid e1
  clear e1
  go_wp2_with fail
  refine (HM0.out _ E1.out).mono ?_; rintro e w2 ⟨A2, n2, c2, rfl, hn⟩
  have hpn := hn.n_
  obtain ⟨b2, o2, hA2⟩ := hn.rd.some_ (by have := Hpl.out; omega)
  subst hA2
  have N2 : Hid (NewS w p w2 (some ⟨b2, o2, none⟩) n2 c2) := Lib.hid ⟨hn.room, E1.out.t hn.ext, fun k hk => by have := hn.ft k hk; have := E1.out.size; omega⟩
  have hn2 : 1 ≤ n2 ∧ n2 ≤ 41 := by have := Hpl.out; omega
  have Hpn : Hid (p.length = n2) := Lib.hid hpn.symm
  obtain ⟨hn2a, hn2b⟩ := hn2
  clear hn E1 hpn HM0 Hpl
  go_wp2_with fail
  refine (reached_ _ _ _ p _ N2.out.rd HRP.out).mono ?_; rintro e w3 ⟨A4, c4, d, rfl, hd, r4, -, x4⟩
  have HD := Lib.hid hd
  have RB := Lib.hid r4.rd
  replace N2 := Lib.hid (N2.out.exte x4)
  clear hd r4 x4
  go_wp2_with fail
  refine (ends_ _ _ _ p _ N2.out.rd HRP.out).mono ?_; rintro e w4 ⟨A5, c5, es, rfl, he, r4, -, x4⟩
  have HE := Lib.hid he
  have RE := Lib.hid r4.rd
  replace RB := Lib.hid (RB.out.ext x4)
  replace N2 := Lib.hid (N2.out.exte x4)
  clear he r4 x4
  go_wp2_with fail
  refine (sh_dist N2.out.rd HRP.out HD.out).mono ?_; rintro e w5 ⟨A6, c6, rfl, r4, x4⟩
  have RD := Lib.hid r4
  replace RE := Lib.hid (RE.out.ext x4)
  replace RB := Lib.hid (RB.out.ext x4)
  replace N2 := Lib.hid (N2.out.exte x4)
  clear r4 x4
  go_wp2_with fail
  refine (dom_ _ _ _ p _ N2.out.rd HRP.out).mono ?_; rintro e V ⟨A7, c7, ms, rfl, hd, r4, -, x4⟩
  have HN := Lib.hid hd
  have HV : Hid (FwJ w p (some ⟨b2, o2, none⟩) n2 c2 A4 (rchB d) A5 es A6 d A7 ms V) := Lib.hid ⟨N2.out.exte x4, RB.out.ext x4, RE.out.ext x4, RD.out.ext x4, r4.rd⟩
  clear hd r4 x4 RE RB RD N2
  obtain ⟨b4, o4, _, hA4, _⟩ := rd_get HV.out.rb_ (k := 0) (by omega)
  obtain ⟨b5, o5, _, hA5, _⟩ := rd_get HV.out.re (k := 0) (by omega)
  obtain ⟨b6, o6, _, hA6, _⟩ := rd_get HV.out.rd (k := 0) (by omega)
  obtain ⟨b7, o7, _, hA7, _⟩ := rd_get HV.out.rm (k := 0) (by omega)
  subst hA4 hA5 hA6 hA7
  obtain ⟨cnt, hc1', hc2'⟩ := dom_cnt (E := EdP p) (n := n2) (fun i hi => by have := rch_lt HRP.out hi; rw [Hpn.out] at this; exact this)
  have HC := Lib.hid (And.intro hc1' hc2')
  have HR := Lib.hid (rchB_iff HD.out)
  obtain ⟨rb, hrb⟩ : ∃ r, r = rchB d := ⟨_, rfl⟩
  rw [← hrb] at HR HV
  have hnn : ((n2 : Int) != (n2 : Int)) = false := by simp
  clear hrb hc1' hc2'
  go_wp2_with (refine wpl_build (by rfl) rfl ul_in info_in [.const (.int .i64 0)] (by rfl) (by rfl) (by decide) (f := intv) [0] (by rfl) (fun _ => rfl) ?_)
  intro g w9 y1 xa lo1 r1; refine Lib.hid ?_
  have HW : Hid (NwI V (some ⟨g, 0, none⟩) 1 1 [0] w9) := Lib.hid ⟨Room.of_blk y1 rfl (by simp [maxLen]), xa, fun k hk => by have := foot_some hk; omega⟩
  clear y1 xa lo1 r1
  go_upto_region 11 with fail
  go_cut [90, 91, 92] from 86 to 92 (fun v1 v2 v3 wx => ∃ M : Nat, M ≤ n1 ∧ M ≤ 100 ∧ v1 = .slice A1 M c1 ∧ v2 = .int .i64 (M : Int) ∧ v3 = .int .i64 0 ∧ wx = w9)
  case first =>
    by_cases h100 : n1 ≤ 100
    · have h1 : (n1 : Int) ≤ 100 := by omega
      have h2 : ¬ (100 : Int) < (n1 : Int) := by omega
      have hsl := fun w' => sl_toU (A := A1) (n := n1) (c := c1) (hi := n1) (li := (n1 : Int)) w' rfl hc1
      go_wp2_with fail
      go_meet
      exact ⟨n1, Nat.le_refl _, h100, rfl, rfl, rfl, rfl⟩
    · have h1 : ¬ (n1 : Int) ≤ 100 := by omega
      have h2 : (100 : Int) < (n1 : Int) := by omega
      have hsl := fun w' => sl_toU (A := A1) (n := n1) (c := c1) (hi := 100) (li := 100) w' rfl (by omega)
      go_wp2_with fail
      go_meet
      exact ⟨100, by omega, Nat.le_refl _, rfl, rfl, rfl, rfl⟩
  case rest =>
    obtain ⟨M, hM1, hM2, rfl, rfl, rfl, rfl⟩ := hcut
    go_wp2_with fail
    go_loopw [14, 92] (fun v14 v92 wr => ∃ (k : Nat) (Aw : Option Addr) (cw : Nat) (ws : List Nat), k ≤ M ∧ v92 = .int .i64 (k : Int) ∧ v14 = .slice Aw (k + 1) cw ∧ Hid (NwI V Aw (k + 1) cw ws wr) ∧ Hid (Pth (EdP p) ws)) (fun _ v _ => M - (intOf v).toNat)
    case atStart => exact ⟨0, _, 1, [0], by omega, rfl, rfl, HW, Lib.hid Pth.one⟩
    case round =>
      clear HW
      obtain ⟨k, Aw, cw, ws, hk, rfl, rfl, HW, HP⟩ := hrel
      by_cases hlt : k < M
      · have hltI : (k : Int) < (M : Int) := by omega
        obtain ⟨bc, oc, ch, rfl, hch, cch⟩ := rd_get ((HCS.out.ext HV.out.new.ext).ext HW.out.ext) (k := k) (by omega)
        have hcb : ch < 256 := HCL.out ch (List.mem_of_getElem? hch)
        obtain ⟨bw, ow, u, rfl, hu, cu⟩ := rd_get HW.out.room.rd (k := k) (by omega)
        have hur := HP.out.rch hu
        have hup := rch_lt HRP.out hur
        have hul : u < n2 := by rw [← Hpn.out]; exact hup
        have hulI : (u : Int) < (n2 : Int) := by omega
        have hu0 : ¬ (u : Int) < 0 := by omega
        have hu1 : ¬ (n2 : Int) ≤ (u : Int) := by omega
        obtain ⟨y, hy, hy0, hyk⟩ := HP.out.dist HD.out hu
        have hy0' : ¬ y < 0 := by omega
        have hyk' : ¬ (k : Int) < y := by omega
        obtain ⟨mu, hmu⟩ : ∃ b, ms[u]? = some b := ⟨_, List.getElem?_eq_getElem (by rw [HN.out.len]; exact hul)⟩
        have HCE : Hid (∀ W, Ext V W → W.cell? ⟨b4, o4 + u, none⟩ = some (.bool true) ∧ W.cell? ⟨b6, o6 + u, none⟩ = some (.int .i64 y) ∧ W.cell? ⟨b7, o7 + u, none⟩ = some (.int .i64 mu)) := Lib.hid (fun W e => by
          have h := HV.out.x e
          obtain ⟨_, _, bu, hh, hbu, k1⟩ := rd_get h.rb_ hul
          cases hh
          rw [(HR.out.2 u hul).2 hur] at hbu
          obtain rfl := Option.some.inj hbu
          obtain ⟨_, _, y', hh, hy', k2⟩ := rd_get h.rd hul
          cases hh
          rw [hy] at hy'
          obtain rfl := Option.some.inj hy'
          obtain ⟨_, _, m', hh, hm', k3⟩ := rd_get h.rm hul
          cases hh
          rw [hmu] at hm'
          obtain rfl := Option.some.inj hm'
          exact ⟨k1, k2, k3⟩)
        have HS0 : Hid (WaS (EdP p) cnt n2 u mu n2) := Lib.hid (by
          rcases isN_at HN.out hur hul with ⟨h0, hm⟩ | ⟨j, hj, hm, hnea⟩
          · rw [hmu] at hm; exact .inl (Option.some.inj hm)
          · rw [hmu] at hm
            refine .inr ⟨j, Option.some.inj hm, hj, hnea.2.1, hnea.1, ?_⟩
            have h1 := HC.out.1 u j hnea
            have h2 := (HC.out.2 u hur).2
            omega)
        obtain ⟨m1, hm1⟩ : ∃ m, m = (edF p u).length := ⟨_, rfl⟩
        obtain ⟨la, hla⟩ : ∃ l, l = edF p u := ⟨_, rfl⟩
        have hm1b : m1 ≤ 2 := by rw [hm1]; exact edF_len p u
        have HNX := Lib.hid (fun W (h : RdS 5 insC W (some ⟨b2, o2, none⟩) n2 p) => sh_next (c := c2) (l := la) (m := m1) h ((next_in HRP.out hup).trans (by rw [← hla])) (by rw [hla]; exact hm1.symm))
        have Hla := Lib.hid hla
        have hk1 : ((k + 1 : Nat) : Int) - 1 = (k : Int) := by omega
        have hk2 : (k : Int) + 1 - 1 = (k : Int) := by omega
        have hkk1 : (k : Int) < ((k + 1 : Nat) : Int) := by omega
        have hkk2 : (k : Int) < (k : Int) + 1 := by omega
        have hkc : k ≤ cw := by have := HW.out.room.2.1; omega
        unfold intv at cu
        have hd1 : decide ((u : Int) < 0) = false := decide_eq_false hu0
        have hd2 : decide (n2 ≤ u) = false := decide_eq_false (by omega)
        have hd3 : decide ((n2 : Int) ≤ (u : Int)) = false := decide_eq_false hu1
        have hd4 : decide (y < 0) = false := decide_eq_false hy0'
        have hd5 : decide ((k : Int) < y) = false := decide_eq_false hyk'
        clear hch hy hmu hm1 hla hup
        go_wp2_with fail
        refine (HNX.out _ (HV.out.x HW.out.ext).new.rd).mono ?_; rintro e w10 ⟨Aa, ca, rfl, ra, xa⟩
        have HK : Hid (NwI V (some ⟨bw, ow, none⟩) (k + 1) cw ws w10 ∧ Rd intv w10 Aa m1 la) := Lib.hid ⟨HW.out.x xa, ra⟩
        clear ra xa HNX HW cu cch
        obtain ⟨k1, k2, k3⟩ := HCE.out _ HK.out.1.ext
        go_wp2_with fail
        clear k1 k2 k3
        go_loopw [20, 21] (fun v20 v21 wq => ∃ (z : Int) (left : Nat), left ≤ n2 ∧ v20 = .int .i64 z ∧ v21 = .int .i64 (left : Int) ∧ Hid (WaS (EdP p) cnt n2 u z left) ∧ Hid (NwI V (some ⟨bw, ow, none⟩) (k + 1) cw ws wq ∧ Rd intv wq Aa m1 la)) (fun _ v _ => (intOf v).toNat)
        case atStart => exact ⟨mu, n2, Nat.le_refl _, rfl, rfl, HS0, HK⟩
        case round =>
          clear HK HS0
          obtain ⟨z, left, hleft, rfl, rfl, HS, HK⟩ := hrel
          rcases HS.out with q1 | ⟨c, q1, q2, q3, q4, q5⟩
          · subst q1
            have hz1 : ¬ (0 : Int) ≤ -1 := by omega
            clear HS HCE
            by_cases hm0 : m1 = 0
            · have hm0I : ((m1 : Int) == 0) = true := by simp [hm0]
              have HW := Lib.hid HK.out.1
              clear HK hk1 hk2 hkk1 hkk2 hu0 hu1 hulI hul hur
              obtain ⟨_, _, u', hh, hu', cu⟩ := rd_get HW.out.room.rd (k := k) (by omega)
              cases hh
              have huu : u' = u := by rw [hu] at hu'; exact (Option.some.inj hu').symm
              rw [huu] at cu
              clear huu
              clear hu'
              have hur := HP.out.rch hu
              have hup := rch_lt HRP.out hur
              have hul : u < n2 := by rw [← Hpn.out]; exact hup
              have hulI : (u : Int) < (n2 : Int) := by omega
              have hu0 : ¬ (u : Int) < 0 := by omega
              have hu1 : ¬ (n2 : Int) ≤ (u : Int) := by omega
              have HJ := Lib.hid (HV.out.x HW.out.ext)
              obtain ⟨bx, ox, x, hh, _, hx, q0, q1, q2, q3, q4⟩ := HJ.out.new.rd.ins hul
              cases hh
              obtain ⟨_, _, bu, hh, hbu, cb⟩ := rd_get HJ.out.rb_ hul
              cases hh
              obtain rfl : bu = true := by
                have := (HR.out.2 u hul).2 hur
                rw [hbu] at this
                exact Option.some.inj this
              unfold boolv at cb
              unfold intv at cu
              have hk1 : ((k + 1 : Nat) : Int) - 1 = (k : Int) := by omega
              have hk2 : (k : Int) + 1 - 1 = (k : Int) := by omega
              have Hop : Hid (x.op = 1 → ∀ j v : Nat, ws[j]? = some v → EnW p v) := Lib.hid (fun ho j v hv => HP.out.ends (by have := HW.out.room.1; rw [List.length_map] at this; exact this) hu hx ho hv)
              have HX : Hid (∀ W, NwI V (some ⟨bw, ow, none⟩) (k + 1) cw ws W → W.cell? ⟨b2, o2 + u * 5, none⟩ = some (.int .u8 (x.op : Int))) := Lib.hid (fun W hW => by
                obtain ⟨_, _, x', hh, _, hx', q0, _⟩ := (HV.out.x hW.ext).new.rd.ins hul
                cases hh
                rw [hx] at hx'
                obtain rfl := Option.some.inj hx'
                exact q0)
              have hkI : (k : Int) < ((k + 1 : Nat) : Int) := by omega
              have hkI2 : (k : Int) < (k : Int) + 1 := by omega
              clear hu hur hup hbu hx HJ
              go_wp2_with fail
              clear q0 q1 q2 q3 q4 cb cu
              go_loopw [213] (fun v wr => ∃ j : Nat, j ≤ k + 1 ∧ v = .int .i64 (j : Int) ∧ Hid (NwI V (some ⟨bw, ow, none⟩) (k + 1) cw ws wr)) (fun v _ => k + 1 - (intOf v).toNat)
              case atStart => exact ⟨0, by omega, rfl, HW⟩
              case round =>
                clear HW
                obtain ⟨j, hj, rfl, HW⟩ := hrel
                by_cases hlj : j < k + 1
                · have hjI : (j : Int) < ((k + 1 : Nat) : Int) := by omega
                  have hjI2 : (j : Int) < (k : Int) + 1 := by omega
                  obtain ⟨_, _, v, hh, hv, cv⟩ := rd_get HW.out.room.rd hlj
                  cases hh
                  have hvl : v < n2 := by have h1 := rch_lt HRP.out (HP.out.rch hv); rw [Hpn.out] at h1; exact h1
                  have hvI : (v : Int) < (n2 : Int) := by omega
                  obtain ⟨_, _, ev, hh, hev, ce⟩ := rd_get (HV.out.x HW.out.ext).re hvl
                  cases hh
                  have q0 := HX.out _ HW.out
                  unfold boolv at ce
                  unfold intv at cv
                  by_cases ho : x.op = 1
                  · have hoI : ((x.op : Int) == 1) = true := by simp [ho]
                    obtain rfl : ev = true := (HE.out.at_ hev).2 (Hop.out ho j v hv)
                    clear hev hv
                    go_wp2_with fail
                    go_roundw
                    case rel => exact ⟨j + 1, by omega, by go_num, HW⟩
                    case measure => simp [intOf]; omega
                  · have hoI : ((x.op : Int) == 1) = false := by simp; omega
                    clear hev hv
                    go_wp2_with fail
                    go_roundw
                    case rel => exact ⟨j + 1, by omega, by go_num, HW⟩
                    case measure => simp [intOf]; omega
                · obtain rfl : j = k + 1 := by omega
                  have HF := Lib.hid (HV.out.x HW.out.ext).new.ext
                  clear HW
                  go_wp2_with fail
                  go_ret
                  exact ⟨rfl, HF.out⟩
            · have hm0I : ((m1 : Int) == 0) = false := by simp [hm0]
              obtain ⟨r, hr⟩ : ∃ r, r = ch % m1 := ⟨_, rfl⟩
              have hrl : r < m1 := by rw [hr]; exact Nat.mod_lt _ (by omega)
              have hrlI : (r : Int) < (m1 : Int) := by omega
              have hrm : (ch : Int) % (m1 : Int) = (r : Int) := by rw [hr]; rfl
              have hrm2 : (ch : Int).tmod (m1 : Int) = (r : Int) := by rw [hr]; rfl
              obtain ⟨ba, oa, v, rfl, hv, cv⟩ := rd_get HK.out.2 hrl
              have hvE : EdP p u v := by
                have := List.mem_of_getElem? hv
                rw [Hla.out] at this
                exact this
              have HP2 : Hid (Pth (EdP p) (ws ++ [v])) := Lib.hid (HP.out.snoc (by have := HK.out.1.room.1; rw [List.length_map] at this; exact this) hu hvE)
              unfold intv at cv
              clear hr hv hvE
              go_wp2_with (refine wpl_build (by rfl) rfl ul_in info_in [.tmp 186] (by rfl) (by rfl) (by decide) (f := intv) [v] (by rfl) (fun _ => rfl) ?_)
              intro g1 w11 y1 xa lo1 r1; refine Lib.hid ?_
              have HW := Lib.hid (HK.out.1.x xa)
              have RV := Lib.hid r1
              clear y1 xa lo1 r1 HK cv
              go_wp2_with (refine wpl_append_at (by rfl) rfl ul_in info_in rfl rfl HW.out.room rfl (Src.ofRd ul_in RV.out (fun _ => rfl)) (by simp only [maxLen]; omega) (by omega) ?_)
              intro A3 c3 w12 r3 ch3 ft3; refine Lib.hid ?_
              have HW2 : Hid (NwI V A3 (k + 1 + 1) c3 (ws ++ [v]) w12) := Lib.hid (HW.out.more (Ext.refl _) (by simpa using r3) ch3 ft3)
              clear r3 ch3 ft3 HW RV
              go_wp2_with fail
              go_roundw
              case rel => exact ⟨k + 1, A3, c3, ws ++ [v], by omega, by go_num, rfl, HW2, HP2⟩
              case measure => simp [intOf]; omega
          · subst q1
            obtain ⟨l1, hl1⟩ : ∃ l1, left = l1 + 1 := ⟨left - 1, by have := (HC.out.2 c q3.rch).1; omega⟩
            have hlI : (left : Int) - 1 = (l1 : Int) := by omega
            have hl0 : ((left : Int) == 0) = false := by simp; omega
            have hc0 : (0 : Int) ≤ (c : Int) := by omega
            have hcn : ¬ (n2 : Int) ≤ (c : Int) := by omega
            have hcI : (c : Int) < (n2 : Int) := by omega
            have hsl2 := fun w' => sl_toI (A := some ⟨bw, ow, none⟩) (n := k + 1) (c := cw) (hi := k) (li := (k : Int)) w' rfl hkc
            obtain ⟨mc, hmc⟩ : ∃ b, ms[c]? = some b := ⟨_, List.getElem?_eq_getElem (by rw [HN.out.len]; exact q2)⟩
            have HMC : Hid (∀ W, Ext V W → W.cell? ⟨b7, o7 + c, none⟩ = some (.int .i64 mc)) := Lib.hid (fun W e => by
              obtain ⟨_, _, m', hh, hm', k3⟩ := rd_get (HV.out.x e).rm q2
              cases hh
              rw [hmc] at hm'
              obtain rfl := Option.some.inj hm'
              exact k3)
            have HCo := Lib.hid (containsN (some ⟨bw, ow, none⟩) k cw (ws.take k) c _ (HK.out.1.room.rd.take (by omega)) (by omega))
            rw [decide_eq_true (HP.out.dom hu q3 q4)] at HCo
            have HS2 : Hid (WaS (EdP p) cnt n2 u mc l1) := Lib.hid (by
              rcases isN_at HN.out q3.rch q2 with ⟨h0, hm⟩ | ⟨j, hj, hm, hnea⟩
              · rw [hmc] at hm; exact .inl (Option.some.inj hm)
              · rw [hmc] at hm
                refine .inr ⟨j, Option.some.inj hm, hj, hnea.2.1.trans q3, fun e => ?_, ?_⟩
                · subst e; exact q4 (Dom.anti hnea.2.1 q3)
                · have := HC.out.1 c j hnea; omega)
            have hl1b : l1 ≤ n2 := by omega
            have hl1c : l1 < left := by omega
            clear HS q3 q4 q5 hmc
            go_wp2_with fail
            refine HCo.out.mono ?_; rintro e w11 ⟨rfl, xa⟩
            have HK2 : Hid (NwI V (some ⟨bw, ow, none⟩) (k + 1) cw ws w11 ∧ Rd intv w11 Aa m1 la) := Lib.hid ⟨HK.out.1.x xa, HK.out.2.ext xa⟩
            clear xa HCo HK
            have k3 := HMC.out _ HK2.out.1.ext
            go_wp2_with fail
            go_roundw
            case rel => exact ⟨mc, l1, hl1b, rfl, by first | rfl | go_num, HS2, HK2⟩
            case measure => simp [intOf]; omega
      · obtain rfl : k = M := by omega
        obtain ⟨bw, ow, u, hAw, hu, h9⟩ := rd_get HW.out.room.rd (k := k) (by omega)
        subst hAw
        clear h9
        obtain ⟨_, _, u', hh, hu', cu⟩ := rd_get HW.out.room.rd (k := k) (by omega)
        cases hh
        have huu : u' = u := by rw [hu] at hu'; exact (Option.some.inj hu').symm
        rw [huu] at cu
        clear huu
        clear hu'
        have hur := HP.out.rch hu
        have hup := rch_lt HRP.out hur
        have hul : u < n2 := by rw [← Hpn.out]; exact hup
        have hulI : (u : Int) < (n2 : Int) := by omega
        have hu0 : ¬ (u : Int) < 0 := by omega
        have hu1 : ¬ (n2 : Int) ≤ (u : Int) := by omega
        have HJ := Lib.hid (HV.out.x HW.out.ext)
        obtain ⟨bx, ox, x, hh, _, hx, q0, q1, q2, q3, q4⟩ := HJ.out.new.rd.ins hul
        cases hh
        obtain ⟨_, _, bu, hh, hbu, cb⟩ := rd_get HJ.out.rb_ hul
        cases hh
        obtain rfl : bu = true := by
          have := (HR.out.2 u hul).2 hur
          rw [hbu] at this
          exact Option.some.inj this
        unfold boolv at cb
        unfold intv at cu
        have hk1 : ((k + 1 : Nat) : Int) - 1 = (k : Int) := by omega
        have hk2 : (k : Int) + 1 - 1 = (k : Int) := by omega
        have Hop : Hid (x.op = 1 → ∀ j v : Nat, ws[j]? = some v → EnW p v) := Lib.hid (fun ho j v hv => HP.out.ends (by have := HW.out.room.1; rw [List.length_map] at this; exact this) hu hx ho hv)
        have HX : Hid (∀ W, NwI V (some ⟨bw, ow, none⟩) (k + 1) cw ws W → W.cell? ⟨b2, o2 + u * 5, none⟩ = some (.int .u8 (x.op : Int))) := Lib.hid (fun W hW => by
          obtain ⟨_, _, x', hh, _, hx', q0, _⟩ := (HV.out.x hW.ext).new.rd.ins hul
          cases hh
          rw [hx] at hx'
          obtain rfl := Option.some.inj hx'
          exact q0)
        have hkI : (k : Int) < ((k + 1 : Nat) : Int) := by omega
        have hkI2 : (k : Int) < (k : Int) + 1 := by omega
        clear hu hur hup hbu hx HJ
        go_wp2_with fail
        clear q0 q1 q2 q3 q4 cb cu
        go_loopw [213] (fun v wr => ∃ j : Nat, j ≤ k + 1 ∧ v = .int .i64 (j : Int) ∧ Hid (NwI V (some ⟨bw, ow, none⟩) (k + 1) cw ws wr)) (fun v _ => k + 1 - (intOf v).toNat)
        case atStart => exact ⟨0, by omega, rfl, HW⟩
        case round =>
          clear HW
          obtain ⟨j, hj, rfl, HW⟩ := hrel
          by_cases hlj : j < k + 1
          · have hjI : (j : Int) < ((k + 1 : Nat) : Int) := by omega
            have hjI2 : (j : Int) < (k : Int) + 1 := by omega
            obtain ⟨_, _, v, hh, hv, cv⟩ := rd_get HW.out.room.rd hlj
            cases hh
            have hvl : v < n2 := by have h1 := rch_lt HRP.out (HP.out.rch hv); rw [Hpn.out] at h1; exact h1
            have hvI : (v : Int) < (n2 : Int) := by omega
            obtain ⟨_, _, ev, hh, hev, ce⟩ := rd_get (HV.out.x HW.out.ext).re hvl
            cases hh
            have q0 := HX.out _ HW.out
            unfold boolv at ce
            unfold intv at cv
            by_cases ho : x.op = 1
            · have hoI : ((x.op : Int) == 1) = true := by simp [ho]
              obtain rfl : ev = true := (HE.out.at_ hev).2 (Hop.out ho j v hv)
              clear hev hv
              go_wp2_with fail
              go_roundw
              case rel => exact ⟨j + 1, by omega, by go_num, HW⟩
              case measure => simp [intOf]; omega
            · have hoI : ((x.op : Int) == 1) = false := by simp; omega
              clear hev hv
              go_wp2_with fail
              go_roundw
              case rel => exact ⟨j + 1, by omega, by go_num, HW⟩
              case measure => simp [intOf]; omega
          · obtain rfl : j = k + 1 := by omega
            have HF := Lib.hid (HV.out.x HW.out.ext).new.ext
            clear HW
            go_wp2_with fail
            go_ret
            exact ⟨rfl, HF.out⟩
end Go.Proofs.Ytlneifgihdickaa
