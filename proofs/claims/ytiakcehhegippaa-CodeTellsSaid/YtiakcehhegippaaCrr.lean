/- Crr: the reference's Read. -/
import Derived.Test.YtiakcehhegippaaCth
import Derived.Test.YtiakcehhegippaaCrg
import Derived.Test.YtiakcehhegippaaCpb
import Derived.OwnWalk
namespace Go.Fx
open Go.RowKit Go.Proofs Go.Proofs.Ytiakcehhegippaa
theorem readF_err {b : List Nat} {pre : List Ins} {er : Nat} (h : rlF [] b = (pre, er)) (he : er ≠ 0) : readF b = ([], (pre.length : Int), er) := by
  unfold readF; rw [h]; exact if_neg he
theorem readF_end {b : List Nat} {pre : List Ins} (h : rlF [] b = (pre, 0)) : readF b = if (checkF pre).2 = 0 then (pre, -1, 0) else ([], (checkF pre).1, (checkF pre).2) := by
  unfold readF; rw [h]; rfl
theorem rdS_short {op : Nat} {t : List Nat} (h : okOp op = true) (h2 : t.length + 1 < szOp op) : rdS (op :: t) = (ins0, 144, szOp op) := by
  rw [rdS_cons, if_neg (by rw [h]; simp), if_pos h2]
theorem rdS_wrong {op : Nat} {t : List Nat} (h : okOp op = true) (h2 : ¬ t.length + 1 < szOp op) (h3 : oneF (rdI op (t.take (szOp op - 1))) ≠ 0) : rdS (op :: t) = (ins0, oneF (rdI op (t.take (szOp op - 1))), szOp op) := by
  rw [rdS_cons, if_neg (by rw [h]; simp), if_neg h2, if_neg h3]
theorem rdS_right {op : Nat} {t : List Nat} (h : okOp op = true) (h2 : ¬ t.length + 1 < szOp op) (h3 : oneF (rdI op (t.take (szOp op - 1))) = 0) : rdS (op :: t) = (rdI op (t.take (szOp op - 1)), 0, szOp op) := by
  rw [rdS_cons, if_neg (by rw [h]; simp), if_neg h2, if_pos h3]
end Go.Fx
namespace Go.Proofs.Ytiakcehhegippaa
open Go.RowKit Go.Fx
def RRdP (b : List Nat) (w : World) (e : Ending) (w' : World) : Prop :=
  ∃ A n c, e = .returned (.tuple #[.slice A n c, .int .i64 (readF b).2.1, .int .i64 ((readF b).2.2 : Int)]) ∧ RdS 5 insC w' A n (readF b).1 ∧ Ext w w'
theorem RRdP.bad {b : List Nat} {w w' : World} {pre : List Ins} {k er : Int} {e0 : Nat} (h : rlF [] b = (pre, e0)) (h0 : e0 ≠ 0) (hk : k = (pre.length : Int)) (he : er = (e0 : Int)) (x : Ext w w') : RRdP b w (.returned (.tuple #[.slice none 0 0, .int .i64 k, .int .i64 er])) w' := by
  subst hk; subst he
  exact ⟨none, 0, 0, by rw [readF_err h h0], by rw [readF_err h h0]; exact RdS.none_, x⟩
set_option maxRecDepth 100000 in
set_option maxHeartbeats 4000000 in
theorem rread_ (A : Option Addr) (n c : Nat) (b : List Nat) (w : World) (h : Rd u8v w A n b) (hb : ∀ x ∈ b, x < 256) (hn : n ≤ 1000000000) :
    Calls Try.prog 28 #[.slice A n c] w (RRdP b w) := by
  have H := Lib.hid h
  have Hb := Lib.hid hb
  have Hl := Lib.hid h.1
  clear h hb
  go_enter Try.func28, Try.ntmps28
  go_wp2_with fail
  go_loopw [5, 6] (fun v5 v6 wr => ∃ (o : Nat) (Ao : Option Addr) (no co : Nat), o ≤ n ∧ no ≤ 256 ∧ v6 = .int .i64 (o : Int) ∧ v5 = .slice Ao no co ∧ Hid (∃ pre, NewS w pre wr Ao no co ∧ rlF [] b = rlF pre (b.drop o))) (fun _ i _ => n - (intOf i).toNat)
  case atStart => exact ⟨0, none, 0, 0, by omega, by omega, rfl, rfl, Lib.hid ⟨[], NewS.nil w, by rw [List.drop_zero]⟩⟩
  case round =>
    obtain ⟨o, Ao, no, co, ho, hno, rfl, rfl, HJ⟩ := hrel
    obtain ⟨pre, hN, hrl⟩ := HJ.out
    have HN := Lib.hid hN
    have Hrl := Lib.hid hrl
    have Hpl := Lib.hid hN.n_
    clear HJ hN hrl
    by_cases hlt : o < n
    · have hltI : (o : Int) < (n : Int) := by omega
      obtain ⟨b1, o1, op, hA, hbl, hd, hcd⟩ := (H.out.ext HN.out.ext).at_ hlt
      subst hA
      have hop : op < 256 := Hb.out op (List.mem_of_getElem? hd)
      obtain ⟨t, ht⟩ : ∃ t, t = b.drop (o + 1) := ⟨_, rfl⟩
      have hdr : b.drop o = op :: t := by rw [ht, ← List.getElem_cons_drop (by rw [Hl.out]; exact hlt)]; congr 1; rw [List.getElem?_eq_getElem (by rw [Hl.out]; exact hlt)] at hd; exact Option.some.inj hd
      rw [hdr] at Hrl
      have hb0 : 0 < (op :: t).length := by simp
      by_cases h256 : no = 256
      · subst h256
        have Hr := Lib.hid (Hrl.out.trans (rlF_many hb0 Hpl.out.symm))
        clear hd hdr ht
        go_wp2_with fail
        go_ret3
        exact RRdP.bad Hr.out (by decide) (by rw [← Hpl.out]; rfl) rfl HN.out.ext
      · have hq256 : ((no : Int) == 256) = false := by simp; omega
        have hne : pre.length ≠ 256 := by rw [← Hpl.out]; exact h256
        have HF := Lib.hid (fun w' => rform_ op w')
        unfold FormP at HF
        cases hok : okOp op with
        | false =>
          rw [hok] at HF
          have hrs : rdS (op :: t) = (ins0, 140, 0) := by rw [rdS_cons, if_pos hok]
          have Hr := Lib.hid (Hrl.out.trans (rlF_bad hb0 hne (by rw [hrs]; decide)))
          rw [hrs] at Hr
          clear hd hdr ht hok hrs hne
          go_wp2_with fail
          refine (HF.out _).mono ?_; rintro e w2 ⟨rfl, e2⟩
          have HN2 := Lib.hid (HN.out.exte e2)
          clear e2
          go_wp2_with fail
          go_ret3
          exact RRdP.bad Hr.out (by decide) (by rw [← Hpl.out]) rfl HN2.out.ext
        | true =>
          rw [hok] at HF
          have HS := Lib.hid (fun w' => rsize_ op w')
          have hsz := szOp_le op
          obtain ⟨Z, hZ⟩ : ∃ Z, Z = szOp op := ⟨_, rfl⟩
          rw [← hZ] at HS hsz
          obtain ⟨EN, hEN⟩ : ∃ EN, EN = o + Z := ⟨_, rfl⟩
          have hENI : (o : Int) + (Z : Int) = (EN : Int) := by omega
          have htl : t.length = n - (o + 1) := by rw [ht, List.length_drop, Hl.out]
          have Htl := Lib.hid htl
          by_cases hsh : n < EN
          · have hshI : (n : Int) < (EN : Int) := by omega
            have hrs := rdS_short (t := t) hok (by omega)
            have Hr := Lib.hid (Hrl.out.trans (rlF_bad hb0 hne (by rw [hrs]; show (144 : Nat) ≠ 0; decide)))
            rw [hrs] at Hr
            clear hd hdr ht hok hrs hne hEN htl hZ
            go_wp2_with fail
            refine (HF.out _).mono ?_; rintro e w2 ⟨rfl, e2⟩
            have HN2 := Lib.hid (HN.out.exte e2)
            have hcd2 := (e2.cell (p := ⟨b1, o1 + o, none⟩) hbl).trans hcd
            have hbl2 := Nat.lt_of_lt_of_le hbl e2.size
            clear e2
            go_wp2_with fail
            refine (HS.out _).mono ?_; rintro e w3 ⟨rfl, e3⟩
            have HN3 := Lib.hid (HN2.out.exte e3)
            clear e3
            go_wp2_with fail
            go_ret3
            exact RRdP.bad Hr.out (by show (144 : Nat) ≠ 0; decide) (by rw [← Hpl.out]) rfl HN3.out.ext
          · have hshI : ¬ (n : Int) < (EN : Int) := by omega
            have hns : ¬ t.length + 1 < szOp op := by omega
            obtain ⟨ys, hys⟩ : ∃ ys, ys = t.take (szOp op - 1) := ⟨_, rfl⟩
            obtain ⟨P, hP⟩ : ∃ P, P = o + 1 := ⟨_, rfl⟩
            have hPI : (o : Int) + 1 = (P : Int) := by omega
            have hstep : oneF (rdI op ys) = 0 → rlF [] b = rlF (pre ++ [rdI op ys]) (b.drop EN) := fun h0 => by
              have hrs := rdS_right (t := t) hok hns (by rw [← hys]; exact h0)
              rw [← hys] at hrs
              rw [Hrl.out, rlF_step hb0 hne (by rw [hrs]), hrs, ← hdr]
              show rlF _ ((b.drop o).drop (szOp op)) = _
              rw [List.drop_drop, ← hZ, ← hEN]
            have hbad : oneF (rdI op ys) ≠ 0 → rlF [] b = (pre, oneF (rdI op ys)) := fun h0 => by
              have hrs := rdS_wrong (t := t) hok hns (by rw [← hys]; exact h0)
              rw [← hys] at hrs
              rw [Hrl.out, rlF_bad hb0 hne (by rw [hrs]; exact h0), hrs]
            have Hstep := Lib.hid hstep
            have Hbad := Lib.hid hbad
            have Hget : Hid (∀ j, j < Z - 1 → ys[j]? = b[P + j]?) := Lib.hid (fun j hj => by
              rw [hys, List.getElem?_take, if_pos (by omega), ht, List.getElem?_drop, hP])
            have HysL : Hid (ys.length = Z - 1) := Lib.hid (by rw [hys, List.length_take]; omega)
            have HZ : Hid (Z = 1 + nrOf op + wdT (tlOf op) ∧ P = o + 1 ∧ EN = o + Z) := Lib.hid ⟨by rw [hZ]; exact szOp_eq op, hP, hEN⟩
            have hENn : EN ≤ n := by omega
            have hPn : P ≤ EN := by omega
            clear hstep hbad hd hdr ht hok hne hys htl Htl hns hP hEN hZ hb0
            go_wp2_with fail
            refine (HF.out _).mono ?_; rintro e w2 ⟨rfl, e2⟩
            have HN2 := Lib.hid (HN.out.exte e2)
            have hcd2 := (e2.cell (p := ⟨b1, o1 + o, none⟩) hbl).trans hcd
            have hbl2 := Nat.lt_of_lt_of_le hbl e2.size
            clear e2
            go_wp2_with fail
            refine (HS.out _).mono ?_; rintro e w3 ⟨rfl, e3⟩
            have HN3 := Lib.hid (HN2.out.exte e3)
            have hcd3 := (e3.cell (p := ⟨b1, o1 + o, none⟩) hbl2).trans hcd2
            have hbl3 := Nat.lt_of_lt_of_le hbl2 e3.size
            have Hy : Hid (∀ j, j < Z - 1 → ∃ d, ys[j]? = some d ∧ d < 256 ∧ w3.cell? ⟨b1, o1 + (P + j), none⟩ = some (u8v d)) := Lib.hid (fun j hj => by
              obtain ⟨b', o', d, h1, _, h2, h3⟩ := (H.out.ext HN3.out.ext).at_ (k := P + j) (by have := HZ.out; omega)
              cases h1
              exact ⟨d, (Hget.out j hj).trans h2, Hb.out d (List.mem_of_getElem? h2), h3⟩)
            clear e3 hcd hcd2 hbl hbl2 HN HN2
            rcases (by have := (nr_tl op).1; omega : nrOf op = 0 ∨ nrOf op = 1 ∨ nrOf op = 2 ∨ nrOf op = 3) with hnr | hnr | hnr | hnr
            · have Hnr := Lib.hid hnr
              have hq : rdI op ys = ⟨op, 0, 0, 0, I64 (vF (ys.drop 0))⟩ := by
                have hZ := HZ.out
                have hl := HysL.out
                rw [rdI_eq, hnr, List.take_of_length_le (l := ys.drop 0) (by rw [List.length_drop]; omega)]
                rfl
              have hZ0 : P + wdT (tlOf op) = EN := by have := HZ.out; omega
              clear hnr
              have Hq := Lib.hid hq
              have HC : Hid (∀ w', Calls Try.prog 50 #[.string (strOf op), .int .u8 114] w' fun e w'' => e = .returned (.int .i64 0) ∧ w' = w'') := Lib.hid (fun w' => by
                have h := count_ op 114 w' (by omega)
                rw [show cnF op 114 = 0 by unfold cnF; rw [if_pos rfl, Hnr.out]] at h
                exact h)
              obtain ⟨zs, hzs⟩ : ∃ zs, zs = ys.drop 0 := ⟨_, rfl⟩
              obtain ⟨wd, hwd⟩ : ∃ wd, wd = wdT (tlOf op) := ⟨_, rfl⟩
              rw [← hwd] at hZ0
              have Hzl : Hid (zs.length = wd ∧ P + wd = EN ∧ wd ≤ 8) := Lib.hid ⟨by have := HZ.out; have := HysL.out; rw [hzs]; first | (rw [List.length_drop]; omega) | omega, hZ0, by rw [hwd]; exact wdT_le _⟩
              have Hz : Hid (∀ j, j < wd → ∃ d, zs[j]? = some d ∧ d < 256 ∧ w3.cell? ⟨b1, o1 + (P + j), none⟩ = some (u8v d)) := Lib.hid (fun j hj => by
                obtain ⟨d, h1, h2, h3⟩ := Hy.out (0 + j) (by have := HZ.out; omega)
                refine ⟨d, ?_, h2, ?_⟩
                · rw [hzs]; first | (rw [List.getElem?_drop]; exact h1) | (rw [Nat.zero_add] at h1; exact h1)
                · rw [show o1 + (P + j) = o1 + (P + (0 + j)) by skip; omega]; exact h3)
              rw [← hzs] at Hq
              clear hq hzs hwd hZ0
              go_wp2_with fail
              refine (HC.out _).mono ?_; rintro e w3b ⟨rfl, rfl⟩
              go_wp2_with fail
              go_loop [12, 13] (fun vx vk => ∃ (j K x : Nat), K ≤ EN ∧ vk = .int .i64 (K : Int) ∧ vx = .int .u64 (x : Int) ∧ Hid (j ≤ wd ∧ K = P + j ∧ x = vF (zs.take j))) (fun _ i => EN - (intOf i).toNat)
              case atStart => exact ⟨0, P, 0, by have := Hzl.out.2.1; omega, rfl, rfl, Lib.hid ⟨Nat.zero_le _, rfl, rfl⟩⟩
              case round =>
                obtain ⟨j, K, x, hK, rfl, rfl, HX⟩ := hrel
                by_cases hKE : K < EN
                · have hKI : (K : Int) < (EN : Int) := by omega
                  obtain ⟨d, hd, hd8, hcd⟩ := Hz.out j (by have := Hzl.out; have := HX.out; omega)
                  have hx : x < 72057594037927936 := by
                    have h1 := vF_lt (zs.take j) (fun y hy => by
                      obtain ⟨i, hi, rfl⟩ := List.getElem_of_mem (List.mem_of_mem_take hy)
                      obtain ⟨d', h2, h3, _⟩ := Hz.out i (by have := Hzl.out.1; omega)
                      rw [List.getElem?_eq_getElem hi] at h2
                      cases h2; exact h3)
                    rw [← HX.out.2.2, List.length_take, Hzl.out.1] at h1
                    have h2 := HX.out
                    have h3 := Hzl.out
                    rw [Nat.min_eq_left (by omega)] at h1
                    have := pow256_le (i := j) (by omega)
                    omega
                  obtain ⟨z, hz⟩ : ∃ z, z = x * 256 + d := ⟨_, rfl⟩
                  have hzI : 256 * (x : Int) + (d : Int) = (z : Int) := by omega
                  have HZ2 : Hid (j + 1 ≤ wd ∧ K + 1 = P + (j + 1) ∧ z = vF (zs.take (j + 1))) := Lib.hid ⟨by have := Hzl.out; have := HX.out; omega, by have := HX.out.2.1; omega, by rw [take_snoc hd, vF_snoc, ← HX.out.2.2, hz]⟩
                  rw [← HX.out.2.1] at hcd
                  have hcdA := fun o => (World.cell?_alloc_lt w3 o ⟨b1, o1 + K, none⟩ hbl3).trans hcd
                  clear hd hz
                  go_wp2_with fail
                  go_round
                  case rel => exact ⟨j + 1, K + 1, z, by omega, by go_num, rfl, HZ2⟩
                  case measure => simp [intOf]; omega
                · obtain rfl : K = EN := by omega
                  have hjw : j = wd := by have := HX.out; have := Hzl.out; omega
                  have hxz : x = vF zs := by rw [HX.out.2.2, hjw, List.take_of_length_le (by rw [Hzl.out.1]; omega)]
                  obtain ⟨N, hN⟩ : ∃ N, N = I64 x := ⟨_, rfl⟩
                  have hW : wrap64 (x : Int) = N := hN.symm
                  have HQ : Hid (rdI op ys = ⟨op, 0, 0, 0, N⟩) := Lib.hid (by rw [Hq.out, hN, hxz])
                  have HO := Lib.hid (fun w' => rone_ (rdI op ys) w')
                  unfold ROneP at HO
                  have Hst := Hstep
                  have Hbd := Hbad
                  rw [HQ.out] at HO Hst Hbd
                  unfold insV at HO
                  clear hxz hjw hN hKE Hq Hz
                  by_cases h0 : oneF ⟨op, 0, 0, 0, N⟩ = 0
                  · have Hr := Lib.hid (Hst.out h0)
                    rw [h0] at HO
                    clear h0
                    go_wp2_with fail
                    refine (HO.out _).mono ?_; rintro e w5 ⟨rfl, e5⟩
                    have hb5 := (Blk.new w3 78 (insC ⟨op, 0, 0, 0, N⟩).toArray).ext e5
                    obtain ⟨d0, d1, d2, d3, d4⟩ := hb5.ins
                    have HN5 := Lib.hid (HN3.out.exte ((Ext.alloc w3 _).t e5))
                    clear e5 hb5 HO
                    go_wp2_with (refine wpl_buildS insC_len (by decide) (by rfl) rfl ul_insR info_insR [.tmp 108] (by rfl) (by rfl) (by decide) [⟨op, 0, 0, 0, N⟩] (by rfl) ?_)
                    intro g w6 b6 e6 lo6 r6; refine Lib.hid ?_
                    have HN6 := Lib.hid (HN5.out.exte e6)
                    have R6 := Lib.hid r6
                    clear b6 e6 lo6 r6 d0 d1 d2 d3 d4
                    go_wp2_with (refine wpl_append_atS (by rfl) rfl ul_insR info_insR rfl rfl HN6.out.room rfl (Src.ofRdS ul_insR insC_len R6.out insC_one) (by unfold maxLen; omega) (by omega) ?_)
                    intro A7 c7 w7 r7 ch7 ft7; refine Lib.hid ?_
                    have HN7 := Lib.hid (HN6.out.more (q := [⟨op, 0, 0, 0, N⟩]) (Ext.refl _) (by rw [List.flatMap_singleton]; exact r7) ch7 ft7)
                    clear r7 ch7 ft7
                    go_wp2_with fail
                    go_roundw
                    case rel => exact ⟨K, A7, no + 1, c7, by omega, by omega, rfl, rfl, Lib.hid ⟨_, HN7.out, Hr.out⟩⟩
                    case measure => simp [intOf]; omega
                  · have Hr := Lib.hid (Hbd.out h0)
                    have H0 := Lib.hid h0
                    have hq0 : ((oneF ⟨op, 0, 0, 0, N⟩ : Int) != 0) = true := by simp; omega
                    generalize oneF ⟨op, 0, 0, 0, N⟩ = er at *
                    clear h0
                    go_wp2_with fail
                    refine (HO.out _).mono ?_; rintro e w5 ⟨rfl, e5⟩
                    have HN5 := Lib.hid (HN3.out.exte ((Ext.alloc w3 _).t e5))
                    clear e5
                    go_wp2_with fail
                    go_ret3
                    exact RRdP.bad Hr.out H0.out (by rw [← Hpl.out]) rfl HN5.out.ext
            · have Hnr := Lib.hid hnr
              obtain ⟨y0, hy0⟩ : ∃ y, ys[0]? = some y := ⟨_, List.getElem?_eq_getElem (by have := HysL.out; have := HZ.out; omega)⟩
              have hq : rdI op ys = ⟨op, y0, 0, 0, I64 (vF (ys.drop 1))⟩ := by
                have hZ := HZ.out
                have hl := HysL.out
                rw [rdI_eq, hnr, List.take_of_length_le (l := ys.drop 1) (by rw [List.length_drop]; omega), hy0]
                rfl
              obtain ⟨P1, hP1⟩ : ∃ P1, P1 = P + 1 := ⟨_, rfl⟩
              have hP1I : (P : Int) + 1 = (P1 : Int) := by omega
              have hZ0 : P1 + wdT (tlOf op) = EN := by have := HZ.out; omega
              have hc0 : w3.cell? ⟨b1, o1 + P, none⟩ = some (u8v y0) := by
                obtain ⟨d, h1, _, h3⟩ := Hy.out 0 (by have := HZ.out; omega)
                rw [hy0] at h1; cases h1
                exact h3
              have ha0 := fun o => (World.cell?_alloc_lt w3 o ⟨b1, o1 + P, none⟩ hbl3).trans hc0
              have hlt0 : P < EN := by omega
              have hlt1 : P1 ≤ EN := by omega
              have HP1 := Lib.hid hP1
              clear hnr hy0 hc0 hP1
              have Hq := Lib.hid hq
              have HC : Hid (∀ w', Calls Try.prog 50 #[.string (strOf op), .int .u8 114] w' fun e w'' => e = .returned (.int .i64 1) ∧ w' = w'') := Lib.hid (fun w' => by
                have h := count_ op 114 w' (by omega)
                rw [show cnF op 114 = 1 by unfold cnF; rw [if_pos rfl, Hnr.out]] at h
                exact h)
              obtain ⟨zs, hzs⟩ : ∃ zs, zs = ys.drop 1 := ⟨_, rfl⟩
              obtain ⟨wd, hwd⟩ : ∃ wd, wd = wdT (tlOf op) := ⟨_, rfl⟩
              rw [← hwd] at hZ0
              have Hzl : Hid (zs.length = wd ∧ P1 + wd = EN ∧ wd ≤ 8) := Lib.hid ⟨by have := HZ.out; have := HysL.out; rw [hzs]; first | (rw [List.length_drop]; omega) | omega, hZ0, by rw [hwd]; exact wdT_le _⟩
              have Hz : Hid (∀ j, j < wd → ∃ d, zs[j]? = some d ∧ d < 256 ∧ w3.cell? ⟨b1, o1 + (P1 + j), none⟩ = some (u8v d)) := Lib.hid (fun j hj => by
                obtain ⟨d, h1, h2, h3⟩ := Hy.out (1 + j) (by have := HZ.out; omega)
                refine ⟨d, ?_, h2, ?_⟩
                · rw [hzs]; first | (rw [List.getElem?_drop]; exact h1) | (rw [Nat.zero_add] at h1; exact h1)
                · rw [show o1 + (P1 + j) = o1 + (P + (1 + j)) by have := HP1.out; omega]; exact h3)
              rw [← hzs] at Hq
              clear hq hzs hwd hZ0
              go_wp2_with fail
              refine (HC.out _).mono ?_; rintro e w3b ⟨rfl, rfl⟩
              go_wp2_with fail
              go_loop [12, 13] (fun vx vk => ∃ (j K x : Nat), K ≤ EN ∧ vk = .int .i64 (K : Int) ∧ vx = .int .u64 (x : Int) ∧ Hid (j ≤ wd ∧ K = P1 + j ∧ x = vF (zs.take j))) (fun _ i => EN - (intOf i).toNat)
              case atStart => exact ⟨0, P1, 0, by have := Hzl.out.2.1; omega, rfl, rfl, Lib.hid ⟨Nat.zero_le _, rfl, rfl⟩⟩
              case round =>
                obtain ⟨j, K, x, hK, rfl, rfl, HX⟩ := hrel
                by_cases hKE : K < EN
                · have hKI : (K : Int) < (EN : Int) := by omega
                  obtain ⟨d, hd, hd8, hcd⟩ := Hz.out j (by have := Hzl.out; have := HX.out; omega)
                  have hx : x < 72057594037927936 := by
                    have h1 := vF_lt (zs.take j) (fun y hy => by
                      obtain ⟨i, hi, rfl⟩ := List.getElem_of_mem (List.mem_of_mem_take hy)
                      obtain ⟨d', h2, h3, _⟩ := Hz.out i (by have := Hzl.out.1; omega)
                      rw [List.getElem?_eq_getElem hi] at h2
                      cases h2; exact h3)
                    rw [← HX.out.2.2, List.length_take, Hzl.out.1] at h1
                    have h2 := HX.out
                    have h3 := Hzl.out
                    rw [Nat.min_eq_left (by omega)] at h1
                    have := pow256_le (i := j) (by omega)
                    omega
                  obtain ⟨z, hz⟩ : ∃ z, z = x * 256 + d := ⟨_, rfl⟩
                  have hzI : 256 * (x : Int) + (d : Int) = (z : Int) := by omega
                  have HZ2 : Hid (j + 1 ≤ wd ∧ K + 1 = P1 + (j + 1) ∧ z = vF (zs.take (j + 1))) := Lib.hid ⟨by have := Hzl.out; have := HX.out; omega, by have := HX.out.2.1; omega, by rw [take_snoc hd, vF_snoc, ← HX.out.2.2, hz]⟩
                  rw [← HX.out.2.1] at hcd
                  have hcdA := fun o => (World.cell?_alloc_lt w3 o ⟨b1, o1 + K, none⟩ hbl3).trans hcd
                  clear hd hz
                  go_wp2_with fail
                  go_round
                  case rel => exact ⟨j + 1, K + 1, z, by omega, by go_num, rfl, HZ2⟩
                  case measure => simp [intOf]; omega
                · obtain rfl : K = EN := by omega
                  have hjw : j = wd := by have := HX.out; have := Hzl.out; omega
                  have hxz : x = vF zs := by rw [HX.out.2.2, hjw, List.take_of_length_le (by rw [Hzl.out.1]; omega)]
                  obtain ⟨N, hN⟩ : ∃ N, N = I64 x := ⟨_, rfl⟩
                  have hW : wrap64 (x : Int) = N := hN.symm
                  have HQ : Hid (rdI op ys = ⟨op, y0, 0, 0, N⟩) := Lib.hid (by rw [Hq.out, hN, hxz])
                  have HO := Lib.hid (fun w' => rone_ (rdI op ys) w')
                  unfold ROneP at HO
                  have Hst := Hstep
                  have Hbd := Hbad
                  rw [HQ.out] at HO Hst Hbd
                  unfold insV at HO
                  clear hxz hjw hN hKE Hq Hz
                  by_cases h0 : oneF ⟨op, y0, 0, 0, N⟩ = 0
                  · have Hr := Lib.hid (Hst.out h0)
                    rw [h0] at HO
                    clear h0
                    go_wp2_with fail
                    refine (HO.out _).mono ?_; rintro e w5 ⟨rfl, e5⟩
                    have hb5 := (Blk.new w3 78 (insC ⟨op, y0, 0, 0, N⟩).toArray).ext e5
                    obtain ⟨d0, d1, d2, d3, d4⟩ := hb5.ins
                    have HN5 := Lib.hid (HN3.out.exte ((Ext.alloc w3 _).t e5))
                    clear e5 hb5 HO
                    go_wp2_with (refine wpl_buildS insC_len (by decide) (by rfl) rfl ul_insR info_insR [.tmp 108] (by rfl) (by rfl) (by decide) [⟨op, y0, 0, 0, N⟩] (by rfl) ?_)
                    intro g w6 b6 e6 lo6 r6; refine Lib.hid ?_
                    have HN6 := Lib.hid (HN5.out.exte e6)
                    have R6 := Lib.hid r6
                    clear b6 e6 lo6 r6 d0 d1 d2 d3 d4
                    go_wp2_with (refine wpl_append_atS (by rfl) rfl ul_insR info_insR rfl rfl HN6.out.room rfl (Src.ofRdS ul_insR insC_len R6.out insC_one) (by unfold maxLen; omega) (by omega) ?_)
                    intro A7 c7 w7 r7 ch7 ft7; refine Lib.hid ?_
                    have HN7 := Lib.hid (HN6.out.more (q := [⟨op, y0, 0, 0, N⟩]) (Ext.refl _) (by rw [List.flatMap_singleton]; exact r7) ch7 ft7)
                    clear r7 ch7 ft7
                    go_wp2_with fail
                    go_roundw
                    case rel => exact ⟨K, A7, no + 1, c7, by omega, by omega, rfl, rfl, Lib.hid ⟨_, HN7.out, Hr.out⟩⟩
                    case measure => simp [intOf]; omega
                  · have Hr := Lib.hid (Hbd.out h0)
                    have H0 := Lib.hid h0
                    have hq0 : ((oneF ⟨op, y0, 0, 0, N⟩ : Int) != 0) = true := by simp; omega
                    generalize oneF ⟨op, y0, 0, 0, N⟩ = er at *
                    clear h0
                    go_wp2_with fail
                    refine (HO.out _).mono ?_; rintro e w5 ⟨rfl, e5⟩
                    have HN5 := Lib.hid (HN3.out.exte ((Ext.alloc w3 _).t e5))
                    clear e5
                    go_wp2_with fail
                    go_ret3
                    exact RRdP.bad Hr.out H0.out (by rw [← Hpl.out]) rfl HN5.out.ext
            · have Hnr := Lib.hid hnr
              obtain ⟨y0, hy0⟩ : ∃ y, ys[0]? = some y := ⟨_, List.getElem?_eq_getElem (by have := HysL.out; have := HZ.out; omega)⟩
              obtain ⟨y1, hy1⟩ : ∃ y, ys[1]? = some y := ⟨_, List.getElem?_eq_getElem (by have := HysL.out; have := HZ.out; omega)⟩
              have hq : rdI op ys = ⟨op, y0, y1, 0, I64 (vF (ys.drop 2))⟩ := by
                have hZ := HZ.out
                have hl := HysL.out
                rw [rdI_eq, hnr, List.take_of_length_le (l := ys.drop 2) (by rw [List.length_drop]; omega), hy0, hy1]
                rfl
              obtain ⟨P1, hP1⟩ : ∃ P1, P1 = P + 1 := ⟨_, rfl⟩
              have hP1I : (P : Int) + 1 = (P1 : Int) := by omega
              obtain ⟨P2, hP2⟩ : ∃ P2, P2 = P + 2 := ⟨_, rfl⟩
              have hP2I : (P : Int) + 2 = (P2 : Int) := by omega
              have hZ0 : P2 + wdT (tlOf op) = EN := by have := HZ.out; omega
              have hc0 : w3.cell? ⟨b1, o1 + P, none⟩ = some (u8v y0) := by
                obtain ⟨d, h1, _, h3⟩ := Hy.out 0 (by have := HZ.out; omega)
                rw [hy0] at h1; cases h1
                exact h3
              have ha0 := fun o => (World.cell?_alloc_lt w3 o ⟨b1, o1 + P, none⟩ hbl3).trans hc0
              have hc1 : w3.cell? ⟨b1, o1 + P1, none⟩ = some (u8v y1) := by
                obtain ⟨d, h1, _, h3⟩ := Hy.out 1 (by have := HZ.out; omega)
                rw [hy1] at h1; cases h1
                rw [hP1]; exact h3
              have ha1 := fun o => (World.cell?_alloc_lt w3 o ⟨b1, o1 + P1, none⟩ hbl3).trans hc1
              have hlt0 : P < EN := by omega
              have hlt1 : P1 < EN := by omega
              have hlt2 : P2 ≤ EN := by omega
              have HP1 := Lib.hid hP1
              have HP2 := Lib.hid hP2
              clear hnr hy0 hy1 hc0 hc1 hP1 hP2
              have Hq := Lib.hid hq
              have HC : Hid (∀ w', Calls Try.prog 50 #[.string (strOf op), .int .u8 114] w' fun e w'' => e = .returned (.int .i64 2) ∧ w' = w'') := Lib.hid (fun w' => by
                have h := count_ op 114 w' (by omega)
                rw [show cnF op 114 = 2 by unfold cnF; rw [if_pos rfl, Hnr.out]] at h
                exact h)
              obtain ⟨zs, hzs⟩ : ∃ zs, zs = ys.drop 2 := ⟨_, rfl⟩
              obtain ⟨wd, hwd⟩ : ∃ wd, wd = wdT (tlOf op) := ⟨_, rfl⟩
              rw [← hwd] at hZ0
              have Hzl : Hid (zs.length = wd ∧ P2 + wd = EN ∧ wd ≤ 8) := Lib.hid ⟨by have := HZ.out; have := HysL.out; rw [hzs]; first | (rw [List.length_drop]; omega) | omega, hZ0, by rw [hwd]; exact wdT_le _⟩
              have Hz : Hid (∀ j, j < wd → ∃ d, zs[j]? = some d ∧ d < 256 ∧ w3.cell? ⟨b1, o1 + (P2 + j), none⟩ = some (u8v d)) := Lib.hid (fun j hj => by
                obtain ⟨d, h1, h2, h3⟩ := Hy.out (2 + j) (by have := HZ.out; omega)
                refine ⟨d, ?_, h2, ?_⟩
                · rw [hzs]; first | (rw [List.getElem?_drop]; exact h1) | (rw [Nat.zero_add] at h1; exact h1)
                · rw [show o1 + (P2 + j) = o1 + (P + (2 + j)) by have := HP2.out; omega]; exact h3)
              rw [← hzs] at Hq
              clear hq hzs hwd hZ0
              go_wp2_with fail
              refine (HC.out _).mono ?_; rintro e w3b ⟨rfl, rfl⟩
              go_wp2_with fail
              go_loop [12, 13] (fun vx vk => ∃ (j K x : Nat), K ≤ EN ∧ vk = .int .i64 (K : Int) ∧ vx = .int .u64 (x : Int) ∧ Hid (j ≤ wd ∧ K = P2 + j ∧ x = vF (zs.take j))) (fun _ i => EN - (intOf i).toNat)
              case atStart => exact ⟨0, P2, 0, by have := Hzl.out.2.1; omega, rfl, rfl, Lib.hid ⟨Nat.zero_le _, rfl, rfl⟩⟩
              case round =>
                obtain ⟨j, K, x, hK, rfl, rfl, HX⟩ := hrel
                by_cases hKE : K < EN
                · have hKI : (K : Int) < (EN : Int) := by omega
                  obtain ⟨d, hd, hd8, hcd⟩ := Hz.out j (by have := Hzl.out; have := HX.out; omega)
                  have hx : x < 72057594037927936 := by
                    have h1 := vF_lt (zs.take j) (fun y hy => by
                      obtain ⟨i, hi, rfl⟩ := List.getElem_of_mem (List.mem_of_mem_take hy)
                      obtain ⟨d', h2, h3, _⟩ := Hz.out i (by have := Hzl.out.1; omega)
                      rw [List.getElem?_eq_getElem hi] at h2
                      cases h2; exact h3)
                    rw [← HX.out.2.2, List.length_take, Hzl.out.1] at h1
                    have h2 := HX.out
                    have h3 := Hzl.out
                    rw [Nat.min_eq_left (by omega)] at h1
                    have := pow256_le (i := j) (by omega)
                    omega
                  obtain ⟨z, hz⟩ : ∃ z, z = x * 256 + d := ⟨_, rfl⟩
                  have hzI : 256 * (x : Int) + (d : Int) = (z : Int) := by omega
                  have HZ2 : Hid (j + 1 ≤ wd ∧ K + 1 = P2 + (j + 1) ∧ z = vF (zs.take (j + 1))) := Lib.hid ⟨by have := Hzl.out; have := HX.out; omega, by have := HX.out.2.1; omega, by rw [take_snoc hd, vF_snoc, ← HX.out.2.2, hz]⟩
                  rw [← HX.out.2.1] at hcd
                  have hcdA := fun o => (World.cell?_alloc_lt w3 o ⟨b1, o1 + K, none⟩ hbl3).trans hcd
                  clear hd hz
                  go_wp2_with fail
                  go_round
                  case rel => exact ⟨j + 1, K + 1, z, by omega, by go_num, rfl, HZ2⟩
                  case measure => simp [intOf]; omega
                · obtain rfl : K = EN := by omega
                  have hjw : j = wd := by have := HX.out; have := Hzl.out; omega
                  have hxz : x = vF zs := by rw [HX.out.2.2, hjw, List.take_of_length_le (by rw [Hzl.out.1]; omega)]
                  obtain ⟨N, hN⟩ : ∃ N, N = I64 x := ⟨_, rfl⟩
                  have hW : wrap64 (x : Int) = N := hN.symm
                  have HQ : Hid (rdI op ys = ⟨op, y0, y1, 0, N⟩) := Lib.hid (by rw [Hq.out, hN, hxz])
                  have HO := Lib.hid (fun w' => rone_ (rdI op ys) w')
                  unfold ROneP at HO
                  have Hst := Hstep
                  have Hbd := Hbad
                  rw [HQ.out] at HO Hst Hbd
                  unfold insV at HO
                  clear hxz hjw hN hKE Hq Hz
                  by_cases h0 : oneF ⟨op, y0, y1, 0, N⟩ = 0
                  · have Hr := Lib.hid (Hst.out h0)
                    rw [h0] at HO
                    clear h0
                    go_wp2_with fail
                    refine (HO.out _).mono ?_; rintro e w5 ⟨rfl, e5⟩
                    have hb5 := (Blk.new w3 78 (insC ⟨op, y0, y1, 0, N⟩).toArray).ext e5
                    obtain ⟨d0, d1, d2, d3, d4⟩ := hb5.ins
                    have HN5 := Lib.hid (HN3.out.exte ((Ext.alloc w3 _).t e5))
                    clear e5 hb5 HO
                    go_wp2_with (refine wpl_buildS insC_len (by decide) (by rfl) rfl ul_insR info_insR [.tmp 108] (by rfl) (by rfl) (by decide) [⟨op, y0, y1, 0, N⟩] (by rfl) ?_)
                    intro g w6 b6 e6 lo6 r6; refine Lib.hid ?_
                    have HN6 := Lib.hid (HN5.out.exte e6)
                    have R6 := Lib.hid r6
                    clear b6 e6 lo6 r6 d0 d1 d2 d3 d4
                    go_wp2_with (refine wpl_append_atS (by rfl) rfl ul_insR info_insR rfl rfl HN6.out.room rfl (Src.ofRdS ul_insR insC_len R6.out insC_one) (by unfold maxLen; omega) (by omega) ?_)
                    intro A7 c7 w7 r7 ch7 ft7; refine Lib.hid ?_
                    have HN7 := Lib.hid (HN6.out.more (q := [⟨op, y0, y1, 0, N⟩]) (Ext.refl _) (by rw [List.flatMap_singleton]; exact r7) ch7 ft7)
                    clear r7 ch7 ft7
                    go_wp2_with fail
                    go_roundw
                    case rel => exact ⟨K, A7, no + 1, c7, by omega, by omega, rfl, rfl, Lib.hid ⟨_, HN7.out, Hr.out⟩⟩
                    case measure => simp [intOf]; omega
                  · have Hr := Lib.hid (Hbd.out h0)
                    have H0 := Lib.hid h0
                    have hq0 : ((oneF ⟨op, y0, y1, 0, N⟩ : Int) != 0) = true := by simp; omega
                    generalize oneF ⟨op, y0, y1, 0, N⟩ = er at *
                    clear h0
                    go_wp2_with fail
                    refine (HO.out _).mono ?_; rintro e w5 ⟨rfl, e5⟩
                    have HN5 := Lib.hid (HN3.out.exte ((Ext.alloc w3 _).t e5))
                    clear e5
                    go_wp2_with fail
                    go_ret3
                    exact RRdP.bad Hr.out H0.out (by rw [← Hpl.out]) rfl HN5.out.ext
            · have Hnr := Lib.hid hnr
              obtain ⟨y0, hy0⟩ : ∃ y, ys[0]? = some y := ⟨_, List.getElem?_eq_getElem (by have := HysL.out; have := HZ.out; omega)⟩
              obtain ⟨y1, hy1⟩ : ∃ y, ys[1]? = some y := ⟨_, List.getElem?_eq_getElem (by have := HysL.out; have := HZ.out; omega)⟩
              obtain ⟨y2, hy2⟩ : ∃ y, ys[2]? = some y := ⟨_, List.getElem?_eq_getElem (by have := HysL.out; have := HZ.out; omega)⟩
              have hq : rdI op ys = ⟨op, y0, y1, y2, I64 (vF (ys.drop 3))⟩ := by
                have hZ := HZ.out
                have hl := HysL.out
                rw [rdI_eq, hnr, List.take_of_length_le (l := ys.drop 3) (by rw [List.length_drop]; omega), hy0, hy1, hy2]
                rfl
              obtain ⟨P1, hP1⟩ : ∃ P1, P1 = P + 1 := ⟨_, rfl⟩
              have hP1I : (P : Int) + 1 = (P1 : Int) := by omega
              obtain ⟨P2, hP2⟩ : ∃ P2, P2 = P + 2 := ⟨_, rfl⟩
              have hP2I : (P : Int) + 2 = (P2 : Int) := by omega
              obtain ⟨P3, hP3⟩ : ∃ P3, P3 = P + 3 := ⟨_, rfl⟩
              have hP3I : (P : Int) + 3 = (P3 : Int) := by omega
              have hZ0 : P3 + wdT (tlOf op) = EN := by have := HZ.out; omega
              have hc0 : w3.cell? ⟨b1, o1 + P, none⟩ = some (u8v y0) := by
                obtain ⟨d, h1, _, h3⟩ := Hy.out 0 (by have := HZ.out; omega)
                rw [hy0] at h1; cases h1
                exact h3
              have ha0 := fun o => (World.cell?_alloc_lt w3 o ⟨b1, o1 + P, none⟩ hbl3).trans hc0
              have hc1 : w3.cell? ⟨b1, o1 + P1, none⟩ = some (u8v y1) := by
                obtain ⟨d, h1, _, h3⟩ := Hy.out 1 (by have := HZ.out; omega)
                rw [hy1] at h1; cases h1
                rw [hP1]; exact h3
              have ha1 := fun o => (World.cell?_alloc_lt w3 o ⟨b1, o1 + P1, none⟩ hbl3).trans hc1
              have hc2 : w3.cell? ⟨b1, o1 + P2, none⟩ = some (u8v y2) := by
                obtain ⟨d, h1, _, h3⟩ := Hy.out 2 (by have := HZ.out; omega)
                rw [hy2] at h1; cases h1
                rw [hP2]; exact h3
              have ha2 := fun o => (World.cell?_alloc_lt w3 o ⟨b1, o1 + P2, none⟩ hbl3).trans hc2
              have hlt0 : P < EN := by omega
              have hlt1 : P1 < EN := by omega
              have hlt2 : P2 < EN := by omega
              have hlt3 : P3 ≤ EN := by omega
              have HP1 := Lib.hid hP1
              have HP2 := Lib.hid hP2
              have HP3 := Lib.hid hP3
              clear hnr hy0 hy1 hy2 hc0 hc1 hc2 hP1 hP2 hP3
              have Hq := Lib.hid hq
              have HC : Hid (∀ w', Calls Try.prog 50 #[.string (strOf op), .int .u8 114] w' fun e w'' => e = .returned (.int .i64 3) ∧ w' = w'') := Lib.hid (fun w' => by
                have h := count_ op 114 w' (by omega)
                rw [show cnF op 114 = 3 by unfold cnF; rw [if_pos rfl, Hnr.out]] at h
                exact h)
              obtain ⟨zs, hzs⟩ : ∃ zs, zs = ys.drop 3 := ⟨_, rfl⟩
              obtain ⟨wd, hwd⟩ : ∃ wd, wd = wdT (tlOf op) := ⟨_, rfl⟩
              rw [← hwd] at hZ0
              have Hzl : Hid (zs.length = wd ∧ P3 + wd = EN ∧ wd ≤ 8) := Lib.hid ⟨by have := HZ.out; have := HysL.out; rw [hzs]; first | (rw [List.length_drop]; omega) | omega, hZ0, by rw [hwd]; exact wdT_le _⟩
              have Hz : Hid (∀ j, j < wd → ∃ d, zs[j]? = some d ∧ d < 256 ∧ w3.cell? ⟨b1, o1 + (P3 + j), none⟩ = some (u8v d)) := Lib.hid (fun j hj => by
                obtain ⟨d, h1, h2, h3⟩ := Hy.out (3 + j) (by have := HZ.out; omega)
                refine ⟨d, ?_, h2, ?_⟩
                · rw [hzs]; first | (rw [List.getElem?_drop]; exact h1) | (rw [Nat.zero_add] at h1; exact h1)
                · rw [show o1 + (P3 + j) = o1 + (P + (3 + j)) by have := HP3.out; omega]; exact h3)
              rw [← hzs] at Hq
              clear hq hzs hwd hZ0
              go_wp2_with fail
              refine (HC.out _).mono ?_; rintro e w3b ⟨rfl, rfl⟩
              go_wp2_with fail
              go_loop [12, 13] (fun vx vk => ∃ (j K x : Nat), K ≤ EN ∧ vk = .int .i64 (K : Int) ∧ vx = .int .u64 (x : Int) ∧ Hid (j ≤ wd ∧ K = P3 + j ∧ x = vF (zs.take j))) (fun _ i => EN - (intOf i).toNat)
              case atStart => exact ⟨0, P3, 0, by have := Hzl.out.2.1; omega, rfl, rfl, Lib.hid ⟨Nat.zero_le _, rfl, rfl⟩⟩
              case round =>
                obtain ⟨j, K, x, hK, rfl, rfl, HX⟩ := hrel
                by_cases hKE : K < EN
                · have hKI : (K : Int) < (EN : Int) := by omega
                  obtain ⟨d, hd, hd8, hcd⟩ := Hz.out j (by have := Hzl.out; have := HX.out; omega)
                  have hx : x < 72057594037927936 := by
                    have h1 := vF_lt (zs.take j) (fun y hy => by
                      obtain ⟨i, hi, rfl⟩ := List.getElem_of_mem (List.mem_of_mem_take hy)
                      obtain ⟨d', h2, h3, _⟩ := Hz.out i (by have := Hzl.out.1; omega)
                      rw [List.getElem?_eq_getElem hi] at h2
                      cases h2; exact h3)
                    rw [← HX.out.2.2, List.length_take, Hzl.out.1] at h1
                    have h2 := HX.out
                    have h3 := Hzl.out
                    rw [Nat.min_eq_left (by omega)] at h1
                    have := pow256_le (i := j) (by omega)
                    omega
                  obtain ⟨z, hz⟩ : ∃ z, z = x * 256 + d := ⟨_, rfl⟩
                  have hzI : 256 * (x : Int) + (d : Int) = (z : Int) := by omega
                  have HZ2 : Hid (j + 1 ≤ wd ∧ K + 1 = P3 + (j + 1) ∧ z = vF (zs.take (j + 1))) := Lib.hid ⟨by have := Hzl.out; have := HX.out; omega, by have := HX.out.2.1; omega, by rw [take_snoc hd, vF_snoc, ← HX.out.2.2, hz]⟩
                  rw [← HX.out.2.1] at hcd
                  have hcdA := fun o => (World.cell?_alloc_lt w3 o ⟨b1, o1 + K, none⟩ hbl3).trans hcd
                  clear hd hz
                  go_wp2_with fail
                  go_round
                  case rel => exact ⟨j + 1, K + 1, z, by omega, by go_num, rfl, HZ2⟩
                  case measure => simp [intOf]; omega
                · obtain rfl : K = EN := by omega
                  have hjw : j = wd := by have := HX.out; have := Hzl.out; omega
                  have hxz : x = vF zs := by rw [HX.out.2.2, hjw, List.take_of_length_le (by rw [Hzl.out.1]; omega)]
                  obtain ⟨N, hN⟩ : ∃ N, N = I64 x := ⟨_, rfl⟩
                  have hW : wrap64 (x : Int) = N := hN.symm
                  have HQ : Hid (rdI op ys = ⟨op, y0, y1, y2, N⟩) := Lib.hid (by rw [Hq.out, hN, hxz])
                  have HO := Lib.hid (fun w' => rone_ (rdI op ys) w')
                  unfold ROneP at HO
                  have Hst := Hstep
                  have Hbd := Hbad
                  rw [HQ.out] at HO Hst Hbd
                  unfold insV at HO
                  clear hxz hjw hN hKE Hq Hz
                  by_cases h0 : oneF ⟨op, y0, y1, y2, N⟩ = 0
                  · have Hr := Lib.hid (Hst.out h0)
                    rw [h0] at HO
                    clear h0
                    go_wp2_with fail
                    refine (HO.out _).mono ?_; rintro e w5 ⟨rfl, e5⟩
                    have hb5 := (Blk.new w3 78 (insC ⟨op, y0, y1, y2, N⟩).toArray).ext e5
                    obtain ⟨d0, d1, d2, d3, d4⟩ := hb5.ins
                    have HN5 := Lib.hid (HN3.out.exte ((Ext.alloc w3 _).t e5))
                    clear e5 hb5 HO
                    go_wp2_with (refine wpl_buildS insC_len (by decide) (by rfl) rfl ul_insR info_insR [.tmp 108] (by rfl) (by rfl) (by decide) [⟨op, y0, y1, y2, N⟩] (by rfl) ?_)
                    intro g w6 b6 e6 lo6 r6; refine Lib.hid ?_
                    have HN6 := Lib.hid (HN5.out.exte e6)
                    have R6 := Lib.hid r6
                    clear b6 e6 lo6 r6 d0 d1 d2 d3 d4
                    go_wp2_with (refine wpl_append_atS (by rfl) rfl ul_insR info_insR rfl rfl HN6.out.room rfl (Src.ofRdS ul_insR insC_len R6.out insC_one) (by unfold maxLen; omega) (by omega) ?_)
                    intro A7 c7 w7 r7 ch7 ft7; refine Lib.hid ?_
                    have HN7 := Lib.hid (HN6.out.more (q := [⟨op, y0, y1, y2, N⟩]) (Ext.refl _) (by rw [List.flatMap_singleton]; exact r7) ch7 ft7)
                    clear r7 ch7 ft7
                    go_wp2_with fail
                    go_roundw
                    case rel => exact ⟨K, A7, no + 1, c7, by omega, by omega, rfl, rfl, Lib.hid ⟨_, HN7.out, Hr.out⟩⟩
                    case measure => simp [intOf]; omega
                  · have Hr := Lib.hid (Hbd.out h0)
                    have H0 := Lib.hid h0
                    have hq0 : ((oneF ⟨op, y0, y1, y2, N⟩ : Int) != 0) = true := by simp; omega
                    generalize oneF ⟨op, y0, y1, y2, N⟩ = er at *
                    clear h0
                    go_wp2_with fail
                    refine (HO.out _).mono ?_; rintro e w5 ⟨rfl, e5⟩
                    have HN5 := Lib.hid (HN3.out.exte ((Ext.alloc w3 _).t e5))
                    clear e5
                    go_wp2_with fail
                    go_ret3
                    exact RRdP.bad Hr.out H0.out (by rw [← Hpl.out]) rfl HN5.out.ext
    · obtain rfl : o = n := by omega
      have Hr : Hid (rlF [] b = (pre, 0)) := Lib.hid (by rw [Hrl.out, rlF_nil (by rw [List.length_drop, Hl.out]; omega)])
      have HC := Lib.hid (fun w' e => rcheck_ Ao no co pre w' (HN.out.rd.ext e))
      unfold CheckP at HC
      by_cases h0 : (checkF pre).2 = 0
      · have Hrd : Hid (readF b = (pre, -1, 0)) := Lib.hid (by rw [readF_end Hr.out, if_pos h0])
        rw [h0] at HC
        generalize (checkF pre).1 = ck at *
        clear h0
        go_wp2_with fail
        refine (HC.out _ (Ext.refl _)).mono ?_; rintro e w2 ⟨rfl, e2⟩
        have HN2 := Lib.hid (HN.out.exte e2)
        clear e2
        go_wp2_with fail
        go_ret3
        exact ⟨_, _, _, by rw [Hrd.out]; rfl, by rw [Hrd.out]; exact HN2.out.rd, HN2.out.ext⟩
      · have Hrd : Hid (readF b = ([], (checkF pre).1, (checkF pre).2)) := Lib.hid (by rw [readF_end Hr.out, if_neg h0])
        have hq0 : (((checkF pre).2 : Int) != 0) = true := by simp; omega
        generalize (checkF pre).1 = ck at *
        generalize (checkF pre).2 = er at *
        clear h0
        go_wp2_with fail
        refine (HC.out _ (Ext.refl _)).mono ?_; rintro e w2 ⟨rfl, e2⟩
        have HN2 := Lib.hid (HN.out.exte e2)
        clear e2
        go_wp2_with fail
        go_ret3
        exact ⟨none, 0, 0, by rw [Hrd.out]; rfl, by rw [Hrd.out]; exact RdS.none_, HN2.out.ext⟩
end Go.Proofs.Ytiakcehhegippaa
