/- CodeBack: the walk of the law: for any two lists of small instructions it answers true and leaves all memory as it was (no condition). -/
import Derived.Test.YtiakcehhegippaaCmp
import Derived.Test.YtiakcehhegippaaClm
import Derived.Test.YtiakcehhegippaaCop
import Derived.Test.YtiakcehhegippaaKbs
import Derived.Test.YtiakcehhegippaaCrs
namespace Go.Proofs.Ytiakcehhegippaa
open Go.RowKit Go.Fx
theorem check_let (A : Option Addr) (n c : Nat) (p : List Ins) (w : World) (h : RdS 5 insC w A n p) (hp : checkF p = (-1, 0)) :
    Calls Try.prog 14 #[.slice A n c] w fun e w' => e = .returned (.tuple #[.int .i64 (-1), .int .i64 0]) ∧ Ext w w' := by
  refine (check_ A n c p w h).mono ?_
  rintro e w' ⟨rfl, he⟩
  rw [hp]
  exact ⟨rfl, he⟩
theorem wr_let (A : Option Addr) (n c : Nat) (p : List Ins) (b : List Nat) (w : World) (hF : writeF p = (b, 0)) (h : RdS 5 insC w A n p) :
    Calls Try.prog 15 #[.slice A n c] w fun e w' => ∃ A' n' c', e = .returned (.tuple #[.slice A' n' c', .int .i64 0]) ∧ New w b w' A' n' c' := by
  refine (write_ A n c p w h).mono ?_
  rintro e w' ⟨A', n', c', rfl, hn⟩
  rw [hF] at hn ⊢
  exact ⟨A', n', c', rfl, hn⟩
theorem SzJ.ext' {w : World} {op I pos n : Nat} {wr W : World} (h : SzJ w op I pos n wr) (e : Ext wr W) : SzJ w op I pos n W :=
  ⟨(e.block _ (Array.getElem?_eq_some_iff.1 h.it).1).trans h.it, h.ext.t e, h.n_⟩
theorem sum_next {p : List Ins} {k : Nat} {x : Ins} (h : p[k]? = some x) : sumF (p.take (k + 1)) = sumF (p.take k) + szOp x.op := by
  rw [take_snoc h, sumF_snoc]
set_option maxRecDepth 100000 in
set_option maxHeartbeats 4000000 in
theorem walkCodeBack (A0 : Option Addr) (n0 c0 : Nat) (k : List Ins) (A1 : Option Addr) (n1 c1 : Nat) (l : List Ins) (w : World) (h0 : InArg w A0 n0 c0 k) (h1 : InArg w A1 n1 c1 l) :
    Calls Try.prog 6 #[.slice A0 n0 c0, .slice A1 n1 c1] w fun e w' => e = .returned (.bool true) ∧ Ext w w' := by
  obtain ⟨p, hp⟩ : ∃ p, p = madeF k := ⟨_, rfl⟩
  obtain ⟨q, hq⟩ : ∃ q, q = madeF l := ⟨_, rfl⟩
  have HM0 := Lib.hid (fun w' e => makes_ A0 n0 c0 k w' (h0.rd.ext e) h0.ok h0.le h0.max)
  have HM1 := Lib.hid (fun w' e => makes_ A1 n1 c1 l w' (h1.rd.ext e) h1.ok h1.le h1.max)
  have Hpc := Lib.hid (made_check h0.ok)
  have Hpw := Lib.hid (made_write h0.ok)
  have Hqw := Lib.hid (made_write h1.ok)
  have Hpr := Lib.hid (made_read h0.ok)
  have Hinj := Lib.hid (made_inj h0.ok h1.ok)
  have Hall := Lib.hid (made_all h0.ok)
  have Hlt := Lib.hid (made_lt h0.ok)
  have hpl := made_le k
  have hql := made_le l
  rw [← hp] at HM0 Hpc Hpw Hpr Hinj Hall Hlt hpl
  rw [← hq] at HM1 Hqw Hinj hql
  have Hpb := Lib.hid (wb_len_le p)
  have Hqb := Lib.hid (wb_len_le q)
  have Hsum := Lib.hid (sumF_len p)
  have Hpl := Lib.hid hpl
  have Hql := Lib.hid hql
  obtain ⟨bp, hbp⟩ : ∃ bp, bp = p.flatMap wbF := ⟨_, rfl⟩
  obtain ⟨bq, hbq⟩ : ∃ bq, bq = q.flatMap wbF := ⟨_, rfl⟩
  rw [← hbp] at Hpw Hpr Hinj Hlt Hpb Hsum
  rw [← hbq] at Hqw Hinj Hqb
  clear h0 h1 hp hq hbp hbq hpl hql
  go_enter Try.func6, Try.ntmps6
  go_wp2_with fail
  refine (awake_ w).mono ?_; rintro e w1 ⟨rfl, e1⟩
  have E1 := Lib.hid e1
  clear e1
  go_wp2_with fail
  refine (HM0.out _ E1.out).mono ?_; rintro e w2 ⟨A2, n2, c2, rfl, hn⟩
  have P2 := Lib.hid hn.rd
  have E2 := Lib.hid (E1.out.t hn.ext)
  clear hn E1
  go_wp2_with fail
  refine (HM1.out _ E2.out).mono ?_; rintro e w3 ⟨A3, n3, c3, rfl, hn⟩
  have Q3 := Lib.hid hn.rd
  have P3 := Lib.hid (P2.out.ext hn.ext)
  have E3 := Lib.hid (E2.out.t hn.ext)
  clear hn E2 P2
  go_wp2_with fail
  refine (check_let A2 n2 c2 p w3 P3.out Hpc.out).mono ?_; rintro e w4 ⟨rfl, e4⟩
  have Q4 := Lib.hid (Q3.out.ext e4)
  have P4 := Lib.hid (P3.out.ext e4)
  have E4 := Lib.hid (E3.out.t e4)
  clear e4 E3 P3 Q3
  go_wp2_with fail
  refine (wr_let A2 n2 c2 p bp w4 Hpw.out P4.out).mono ?_; rintro e w5 ⟨A5, n5, c5, rfl, hn5⟩
  have hn5c := hn5.room.2.1
  have r5 := hn5.room.rd
  have e5 := hn5.ext
  clear hn5
  have B5 := Lib.hid r5
  have Q5 := Lib.hid (Q4.out.ext e5)
  have P5 := Lib.hid (P4.out.ext e5)
  have E5 := Lib.hid (E4.out.t e5)
  clear e5 E4 P4 Q4 r5
  go_wp2_with fail
  refine (aw_write A3 n3 c3 q bq w5 Hqw.out Q5.out).mono ?_; rintro e w6 ⟨A6, n6, c6, rfl, r6, e6⟩
  have C6 := Lib.hid r6
  have B6 := Lib.hid (B5.out.ext e6)
  have Q6 := Lib.hid (Q5.out.ext e6)
  have P6 := Lib.hid (P5.out.ext e6)
  have E6 := Lib.hid (E5.out.t e6)
  clear e6 E5 P5 Q5 r6 B5
  go_wp2_with fail
  refine (read_let A5 n5 c5 bp w6 B6.out Hlt.out hn5c (by have := B6.out.1; have := Hpb.out; have := Hpl.out; omega) Hpr.out).mono ?_; rintro e w7 ⟨A7, n7, c7, rfl, r7, e7⟩
  have R7 := Lib.hid r7
  have C7 := Lib.hid (C6.out.ext e7)
  have B7 := Lib.hid (B6.out.ext e7)
  have Q7 := Lib.hid (Q6.out.ext e7)
  have P7 := Lib.hid (P6.out.ext e7)
  have E7 := Lib.hid (E6.out.t e7)
  clear e7 E6 P6 Q6 r7 B6 C6 hn5c
  go_wp2_with fail
  refine (equalI A7 A2 n7 n2 c7 c2 p p w7 R7.out P7.out (by have := R7.out.1; have := Hpl.out; omega) (by have := P7.out.1; have := Hpl.out; omega)).mono ?_; rintro e w8 ⟨rfl, e8⟩
  rw [show decide (p = p) = true from decide_eq_true rfl]
  have C8 := Lib.hid (C7.out.ext e8)
  have B8 := Lib.hid (B7.out.ext e8)
  have Q8 := Lib.hid (Q7.out.ext e8)
  have P8 := Lib.hid (P7.out.ext e8)
  have E8 := Lib.hid (E7.out.t e8)
  clear e8 E7 P7 Q7 R7 B7 C7
  go_wp2_with fail
  refine (sameBytes A5 A6 n5 n6 c5 c6 bp bq w8 B8.out C8.out (by have := B8.out.1; have := Hpb.out; have := Hpl.out; unfold maxLen; omega) (by have := C8.out.1; have := Hqb.out; have := Hql.out; unfold maxLen; omega)).mono ?_; rintro e w9 ⟨rfl, e9⟩
  rw [show decide (bp = bq) = decide (p = q) from decide_eq_decide.2 Hinj.out]
  have Q9 := Lib.hid (Q8.out.ext e9)
  have P9 := Lib.hid (P8.out.ext e9)
  have B9 := Lib.hid B8.out.1
  have E9 := Lib.hid (E8.out.t e9)
  clear e9 E8 P8 Q8 B8 C8
  go_wp2_with fail
  refine (equalI A2 A3 n2 n3 c2 c3 p q w9 P9.out Q9.out (by have := P9.out.1; have := Hpl.out; omega) (by have := Q9.out.1; have := Hql.out; omega)).mono ?_; rintro e w10 ⟨rfl, e10⟩
  have P10 := Lib.hid (P9.out.ext e10)
  have E10 := Lib.hid (E9.out.t e10)
  generalize decide (p = q) = B at *
  have hbb : (B != B) = false := by cases B <;> rfl
  have hn2 : n2 ≤ 41 := by have := P10.out.1; have := Hpl.out; omega
  clear e10 E9 P9 Q9
  go_wp2_with fail
  clear HM0 HM1 Hpc Hqw Hpr Hpw Hinj Hqb Hql Hlt Hpb hbb
  go_loopw [16, 86] (fun v16 v86 wr => ∃ (i s : Nat), i ≤ n2 ∧ s ≤ 12 * i ∧ v86 = .int .i64 (i : Int) ∧ v16 = .int .i64 (s : Int) ∧ Hid (s = sumF (p.take i) ∧ Ext w10 wr)) (fun _ v _ => n2 - (intOf v).toNat)
  case atStart => exact ⟨0, 0, by omega, by omega, rfl, rfl, Lib.hid ⟨rfl, Ext.refl _⟩⟩
  case round =>
    obtain ⟨i, s, hi, hs, rfl, rfl, HS⟩ := hrel
    by_cases hlt : i < n2
    · have hltI : (i : Int) < (n2 : Int) := by omega
      obtain ⟨b, o, x, rfl, _, hx, c0', c1', c2', c3', c4'⟩ := (P10.out.ext HS.out.2).ins hlt
      have hx1 := (Hall.out x (List.mem_of_getElem? hx)).1
      have Hsn := Lib.hid (sum_next hx)
      have HZ := Lib.hid (fun w' => sizeOf_ x w')
      unfold SizeP insV at HZ
      rw [hx1] at HZ
      simp only [if_true] at HZ
      have HO := Lib.hid (fun w' => one_ x w')
      unfold OneP insV at HO
      rw [hx1] at HO
      have HF := Lib.hid (fun w' => form_ x.op w')
      unfold FormP at HF
      rw [(oneF_zero hx1).1] at HF
      have hz12 := szOp_le x.op
      obtain ⟨op, hop⟩ : ∃ op, op = x.op := ⟨_, rfl⟩
      obtain ⟨z, hz⟩ : ∃ z, z = szOp op := ⟨_, rfl⟩
      rw [← hop, ← hz] at HZ Hsn hz12
      rw [← hop] at HF HO c0'
      have Hz := Lib.hid hz
      have Hx := Lib.hid hop
      clear hx hx1 hz hop
      go_wp2_with fail
      refine (HZ.out _).mono ?_; rintro e w11 ⟨rfl, e11⟩
      have hb : Blk w11 wr.heap.size 38 #[.int .u8 (op : Int), .int .u8 (x.a : Int), .int .u8 (x.b : Int), .int .u8 (x.c : Int), .int .i64 x.n] := (Blk.new wr 38 _).ext e11
      have d0 := hb.cell 0
      simp at d0
      have HB11 := Lib.hid hb
      have E11 := Lib.hid (HS.out.2.t ((Ext.alloc wr _).t e11))
      clear hb e11 HZ c0' c1' c2' c3' c4'
      go_wp2_with fail
      refine (HF.out _).mono ?_; rintro e w12 ⟨rfl, e12⟩
      have HB12 := Lib.hid (HB11.out.ext e12)
      have E12 := Lib.hid (E11.out.t e12)
      clear e12 HF d0 HB11 E11
      go_wp2_with fail
      obtain ⟨I, hI⟩ : ∃ I, I = w12.heap.size := ⟨_, rfl⟩
      have H0 : Hid (SzJ w12 op I 0 1 (w12.iter (strOf op) 0)) := Lib.hid ⟨by rw [hI]; exact World.iter_heap w12 _ 0, Ext.alloc _ _, by simp⟩
      have HI : Hid (w12.heap.size ≤ I) := Lib.hid (by rw [hI]; exact Nat.le_refl _)
      simp only [← hI]
      clear hI
      go_loopw [23] (fun v wy => ∃ (pos y : Nat), pos ≤ (strOf op).size ∧ y ≤ 12 ∧ v = .int .i64 (y : Int) ∧ Hid (SzJ w12 op I pos y wy)) (fun _ wy => (strOf op).size - wy.iterPos I)
      case atStart => exact ⟨0, 1, Nat.zero_le _, by omega, rfl, H0⟩
      case round =>
        clear H0
        rename World => wy
        obtain ⟨pos, y, hp, hy12, rfl, HJ⟩ := hrel
        by_cases hps : pos < (strOf op).size
        · have hmeas : (strOf op).size - (pos + 1) < (strOf op).size - wy.iterPos I := by rw [show wy.iterPos I = pos by simp [World.iterPos, HJ.out.it]]; omega
          have Hmeas := Lib.hid hmeas
          have hl := letter_of hps
          obtain ⟨l1, hle⟩ : ∃ l, ((strOf op)[pos]'hps).toNat = l := ⟨_, rfl⟩
          rw [hle] at hl
          have hnx := fun ty => run_next_r (P := Try.prog) wy I (strOf op) pos ty HJ.out.it hps (by rw [hle]; omega)
          rw [hle] at hnx
          have HJ' := Lib.hid (HJ.out.step hps HI.out hle rfl)
          have hw8 : wdF l1 ≤ 8 := by unfold wdF; repeat' split
                                      all_goals omega
          have hn' := HJ'.out.n_
          have hy2 : y + wdF l1 ≤ 12 := by
            rw [hn']
            have := szOp_le op
            have := nr_tl op
            split <;> omega
          have Hp1 : Hid (pos + 1 ≤ (strOf op).size) := Lib.hid hps
          have Hl := Lib.hid hl
          clear hmeas hl hle hps hn'
          go_upto_region 20 with fail
          generalize wy.putObj I (.stringIter (strOf op) (pos + 1)) = W at *
          obtain ⟨v2, v3, v4, v5, r2, r3, r4, r5, r6, eW⟩ := lm_run W l1 Hl.out
          have hmm := fun ty w' => run_makeMap (P := Try.prog) ty w'
          have HJ2 := Lib.hid (HJ'.out.ext' eW)
          clear eW HJ' HJ hnx
          go_wp2_with fail
          go_roundw
          case rel => exact ⟨pos + 1, y + wdF l1, Hp1.out, hy2, by go_num, HJ2⟩
          case measure => rw [show World.iterPos _ I = pos + 1 by simp only [World.iterPos, HJ2.out.it]]; exact Hmeas.out
        · obtain rfl : pos = (strOf op).size := by omega
          have hnx := fun ty => run_next_e (P := Try.prog) wy I (strOf op) (strOf op).size ty HJ.out.it hps
          have hyz : y = z := by
            rw [Hz.out, HJ.out.n_]
            have hsz := strOf_size op
            split
            · next h =>
              unfold szOp
              split at hsz
              · next h0 => rw [h0]; simp; omega
              · omega
            · rfl
          subst hyz
          have hb13 := HB12.out.ext HJ.out.ext
          have d0 := hb13.cell 0
          have d1 := hb13.cell 1
          have d2 := hb13.cell 2
          have d3 := hb13.cell 3
          have d4 := hb13.cell 4
          simp at d0 d1 d2 d3 d4
          have E13 := Lib.hid (E12.out.t HJ.out.ext)
          clear hb13 HJ hps hp
          go_wp2_with fail
          refine (HO.out _).mono ?_; rintro e w14 ⟨rfl, e14⟩
          have E14 := Lib.hid (E13.out.t e14)
          clear e14 E13 HO d0 d1 d2 d3 d4 hnx
          go_wp2_with fail
          go_roundw
          case rel => exact ⟨i + 1, s + y, by omega, by omega, by go_num, by go_num, Lib.hid ⟨by rw [Hsn.out, HS.out.1], E14.out⟩⟩
          case measure => simp [intOf]; omega
    · obtain rfl : i = n2 := by omega
      have hse : (s : Int) = (n5 : Int) := by
        have h1 := HS.out.1
        rw [List.take_of_length_le (by have := P10.out.1; omega), ← Hsum.out, B9.out] at h1
        omega
      have heq : ((s : Int) == (n5 : Int)) = true := by rw [hse]; simp
      have HE := Lib.hid (E10.out.t HS.out.2)
      clear hse
      go_wp2_with fail
      go_ret
      exact ⟨rfl, HE.out⟩
end Go.Proofs.Ytiakcehhegippaa
