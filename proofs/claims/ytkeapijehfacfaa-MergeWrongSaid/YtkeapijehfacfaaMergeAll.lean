/- MergeAll: the walk of the law: for any list of small numbers and any turn it answers true and leaves all memory as it was (no condition). -/
import Derived.Test.YtkeapijehfacfaaMergeCut
import Derived.Test.YtkeapijehfacfaaMli
import Derived.Test.YtkeapijehfacfaaMco
namespace Go.Fx
open Go.RowKit
theorem Rd.from1 {α : Type} {f : α → Value} {w : World} {A : Option Addr} {n c k : Nat} {xs : List α} (h : Rd f w A n xs) (hk : k ≤ n) (hc : n ≤ c) : Rd f w (fromS 1 A c k) (n - k) (xs.drop k) := by
  refine ⟨by rw [List.length_drop, h.1], fun hn => ?_⟩
  obtain ⟨b, o, rfl, hb, hcell⟩ := h.2 (by omega)
  unfold fromS
  rw [if_neg (by omega)]
  refine ⟨b, o + k * 1, by simp [Addr.add_lit], hb, fun i x hx => ?_⟩
  rw [List.getElem?_drop] at hx
  have := hcell _ x hx
  rwa [show o + (k + i) = o + k * 1 + i by omega] at this
/-- What the merges of some lists are. -/
theorem all_facts {M : List Ev} {ls : List (List Ev)} (h : LsOk M ls) (k : Nat) : ∃ G a b : List Ev, G = isort ls.flatten ∧ a = isort (ls.take k).flatten ∧ b = isort (ls.drop k).flatten ∧ mergeF ls = (G, -1, 0) ∧ mergeF (ls.drop k ++ ls.take k) = (G, -1, 0) ∧ mergeF (ls.take k) = (a, -1, 0) ∧ mergeF (ls.drop k) = (b, -1, 0) ∧ mergeF [b, a] = (G, -1, 0) := by
  have hd := h.dif
  have hp : (ls.drop k ++ ls.take k).flatten.Perm ls.flatten := by
    rw [List.flatten_append]
    refine List.perm_append_comm.trans ?_
    rw [← List.flatten_append, List.take_append_drop]
  have hd2 : Dif (ls.drop k ++ ls.take k).flatten := hd.perm hp.symm
  have hs2 : ∀ l ∈ ls.drop k ++ ls.take k, Srt l := fun l hl => (List.mem_append.1 hl).elim (fun h1 => h.srt l (List.mem_of_mem_drop h1)) (fun h1 => h.srt l (List.mem_of_mem_take h1))
  rw [List.flatten_append] at hd2
  obtain ⟨hdb, hda, hdab⟩ := List.pairwise_append.1 hd2
  have hsa : Srt (isort (ls.take k).flatten) := isort_srt hda
  have hsb : Srt (isort (ls.drop k).flatten) := isort_srt hdb
  have hp2 : (isort (ls.drop k).flatten ++ isort (ls.take k).flatten).Perm ls.flatten := by
    refine ((isort_perm _).append (isort_perm _)).trans ?_
    rw [← List.flatten_append]; exact hp
  refine ⟨_, _, _, rfl, rfl, rfl, mergeF_ok h.srt hd, ?_, mergeF_ok (fun l hl => h.srt l (List.mem_of_mem_take hl)) hda, mergeF_ok (fun l hl => h.srt l (List.mem_of_mem_drop hl)) hdb, ?_⟩
  · rw [mergeF_ok hs2 (hd.perm hp.symm), isort_perm_eq (hd.perm hp.symm) hp]
  · have hd3 : Dif (isort (ls.drop k).flatten ++ isort (ls.take k).flatten) := hd.perm hp2.symm
    rw [mergeF_ok (by intro x hx; simp only [List.mem_cons, List.not_mem_nil, or_false] at hx; rcases hx with rfl | rfl; exact hsb; exact hsa) (by simpa using hd3)]
    rw [show ([isort (ls.drop k).flatten, isort (ls.take k).flatten] : List (List Ev)).flatten = isort (ls.drop k).flatten ++ isort (ls.take k).flatten by simp, isort_perm_eq hd3 hp2]
theorem rot_perm (ls : List (List Ev)) (k : Nat) : (ls.drop k ++ ls.take k).flatten.Perm ls.flatten := by
  rw [List.flatten_append]
  refine List.perm_append_comm.trans ?_
  rw [← List.flatten_append, List.take_append_drop]
theorem flat_take_mem {ls : List (List Ev)} {k : Nat} {x : Ev} (h : x ∈ (ls.take k).flatten) : x ∈ ls.flatten := by
  obtain ⟨l, h1, h2⟩ := List.mem_flatten.1 h
  exact List.mem_flatten.2 ⟨l, List.mem_of_mem_take h1, h2⟩
theorem flat_drop_mem {ls : List (List Ev)} {k : Nat} {x : Ev} (h : x ∈ (ls.drop k).flatten) : x ∈ ls.flatten := by
  obtain ⟨l, h1, h2⟩ := List.mem_flatten.1 h
  exact List.mem_flatten.2 ⟨l, List.mem_of_mem_drop h1, h2⟩
theorem flat_take_len (ls : List (List Ev)) (k : Nat) : (ls.take k).flatten.length ≤ ls.flatten.length := by
  conv => rhs; rw [← List.take_append_drop k ls, List.flatten_append, List.length_append]
  omega
theorem flat_drop_len (ls : List (List Ev)) (k : Nat) : (ls.drop k).flatten.length ≤ ls.flatten.length := by
  conv => rhs; rw [← List.take_append_drop k ls, List.flatten_append, List.length_append]
  omega
theorem flat_take_snoc {ls : List (List Ev)} {k : Nat} {l : List Ev} (h : ls[k]? = some l) : (ls.take (k + 1)).flatten.length = (ls.take k).flatten.length + l.length := by
  rw [take_snoc h, List.flatten_append]; simp
end Go.Fx
namespace Go.Proofs.Ytkeapijehfacfaa
open Go.RowKit Go.Fx
theorem law_merge {A : Option Addr} {n c : Nat} {ss : List Sl} {ls : List (List Ev)} {r : List Ev} {w : World} (hF : mergeF ls = (r, -1, 0)) (h : Rd slv w A n ss) (hs : Els w ss ls) (hn : n ≤ 1000) (hok : ∀ x ∈ ls.flatten, EvOk x) (htot : ls.flatten.length ≤ 1000) :
    Calls Try.prog 19 #[.slice A n c] w fun e w' => ∃ A' n' c', e = .returned (.tuple #[.slice A' n' c', .int .i64 (-1), .int .i64 0]) ∧ RdS 5 evC w' A' n' r ∧ n' ≤ c' ∧ n' ≤ 1000 ∧ Ext w w' := by
  refine (merge_ A n c ss ls w h hs (by omega) (fun s hs' => ?_) (fun l hl x hx => hok x (List.mem_flatten.2 ⟨l, hl, hx⟩)) (by omega)).mono ?_
  · obtain ⟨i, hi, rfl⟩ := List.getElem_of_mem hs'
    obtain ⟨_, l, h2, h3⟩ := hs.at_ i _ (List.getElem?_eq_getElem hi)
    have h4 : l.length ≤ ls.flatten.length := (List.sublist_flatten_of_mem (List.mem_of_getElem? h2)).length_le
    have h5 := h3.1
    omega
  · have hl := mergeF_len ls
    rintro e w' ⟨A', n', c', rfl, hr, hl', _, he⟩
    rw [hF] at hr hl hl' ⊢
    exact ⟨A', n', c', rfl, hr.rd evC_len (by decide), hr.2.1, by have h1 : r.length = n' := hl'; have h2 : r.length ≤ ls.flatten.length := hl; omega, he⟩
theorem law_concat {g k2 k c : Nat} {F A : Option Addr} {s1 s2 : List Sl} {w : World} (hb : Blk w g 31 #[.slice F k2 k2, .slice A k c]) (h1 : Rd slv w F k2 s1) (h2 : Rd slv w A k s2) (hl : k2 + k = 5) :
    Calls Try.prog 38 #[.slice (some ⟨g, 0, none⟩) 2 2] w fun e w' => ∃ A' c', e = .returned (.slice A' 5 c') ∧ Rd slv w' A' 5 (s1 ++ s2) ∧ Ext w w' := by
  have hf : ([s1, s2] : List (List Sl)).flatten = s1 ++ s2 := by simp
  have hfl : ([s1, s2] : List (List Sl)).flatten.length = 5 := by rw [hf, List.length_append, h1.1, h2.1, hl]
  have := concat_ (some ⟨g, 0, none⟩) 2 2 [⟨F, k2, k2⟩, ⟨A, k, c⟩] [s1, s2] w ⟨rfl, fun _ => ⟨g, 0, rfl, hb.lt, fun i x hx => by
    match i, hx with
    | 0, hx => cases hx; rw [hb.cell]; rfl
    | 1, hx => cases hx; rw [hb.cell]; rfl
    | i + 2, hx => simp at hx⟩⟩ ⟨rfl, fun i s hs => by
    match i, hs with
    | 0, hs => cases hs; exact ⟨s1, rfl, h1⟩
    | 1, hs => cases hs; exact ⟨s2, rfl, h2⟩
    | i + 2, hs => simp at hs⟩ (by rw [hfl]; omega) (by omega)
  refine this.mono ?_
  rintro e w' ⟨A', c', rfl, hr, he⟩
  rw [hfl, hf] at hr
  rw [hfl]
  exact ⟨A', c', rfl, hr.rd, he⟩
set_option maxRecDepth 100000 in
set_option maxHeartbeats 8000000 in
theorem walkMergeAll (A0 : Option Addr) (n0 c0 : Nat) (l : List Sm) (a1 : Int) (w : World) (h0 : SmArg w A0 n0 c0 l) (h1 : (Lit.int .u8 a1).wf = true) :
    Calls Try.prog 12 #[.slice A0 n0 c0, .int .u8 a1] w fun e w' => e = .returned (.bool true) ∧ Ext w w' := by
  have hb1 := bounds_u8 h1
  obtain ⟨m, rfl⟩ : ∃ m : Nat, a1 = (m : Int) := ⟨a1.toNat, by omega⟩
  obtain ⟨k, hk⟩ : ∃ k, k = m % 5 := ⟨_, rfl⟩
  have hk5 : k < 5 := by omega
  have hwk : IntKind.i64.wrap ((m : Int) % 5) = (k : Int) := by rw [show (m : Int) % 5 = (k : Int) by omega]; exact IntWalk.i64_in _ (by omega)
  have HL := Lib.hid (fun w' (e : Ext w w') => lists_ A0 n0 c0 l w' (h0.ext e))
  have HMo := Lib.hid (show ∀ x ∈ (l.take 50).map mkE, EvOk x from fun x hx => by obtain ⟨y, hy, rfl⟩ := List.mem_map.1 hx; exact mkE_ok (h0.ok y (List.mem_of_mem_take hy)))
  have HMl := Lib.hid (show ((l.take 50).map mkE).length ≤ 50 by rw [List.length_map, List.length_take]; omega)
  generalize hM : (l.take 50).map mkE = M at *
  have HM := Lib.hid hM
  clear h0 h1 hb1 hk hM
  go_enter Try.func12, Try.ntmps12
  go_wp2_with fail
  refine (awake_ w).mono ?_; rintro e w1 ⟨rfl, e1⟩
  have E1 := Lib.hid e1
  clear e1
  go_wp2_with fail
  refine (HL.out _ E1.out).mono ?_; rintro e w2 ⟨A, ss, ls, rfl, hl, hok, e2⟩
  rw [HM.out] at hok
  obtain ⟨G, a, b, hG, ha, hb, hm1, hm2, hm3, hm4, hm5⟩ := all_facts hok k
  have HR := Lib.hid hl.room.rd
  have HS := Lib.hid hl.els
  have HOk := Lib.hid hok
  have HFo := Lib.hid (show ∀ x ∈ ls.flatten, EvOk x from fun x hx => HMo.out x (hok.mem hx))
  have HFl := Lib.hid (show ls.flatten.length ≤ 50 by have h1 := hok.tot; have h2 := HMl.out; omega)
  have HG := Lib.hid hG
  have Ha := Lib.hid ha
  have Hb := Lib.hid hb
  have HM1 := Lib.hid hm1
  have HM2 := Lib.hid hm2
  have HM3 := Lib.hid hm3
  have HM4 := Lib.hid hm4
  have HM5 := Lib.hid hm5
  have E2 := Lib.hid (E1.out.t e2)
  have hsf := fun w' => ee_ins_from (A := A) (n := 5) (c := 5) (k := k) w' rfl (by omega)
  have hst := fun w' => ee_ins_to (A := A) (n := 5) (c := 5) (hi := k) w' rfl (by omega)
  have HRf := Lib.hid (HR.out.from1 (k := k) (c := 5) (by omega) (by omega))
  have HRt := Lib.hid (HR.out.take (k := k) (by omega))
  generalize fromS 1 A 5 k = F at *
  obtain ⟨k2, hk2⟩ : ∃ k2, k2 = 5 - k := ⟨_, rfl⟩
  rw [← hk2] at hsf HRf
  have hk2' : k2 ≤ 5 := by omega
  have Hk2 := Lib.hid (show k2 + k = 5 by omega)
  clear hl hok hG ha hb hm1 hm2 hm3 hm4 hm5 e2 E1 HL hk2
  go_wp2_with fail
  refine (law_merge HM1.out HR.out HS.out (by omega) HFo.out (by have := HFl.out; omega)).mono ?_; rintro e w3 ⟨A3, n3, c3, rfl, r3, q3, m3, e3⟩
  have R3 := Lib.hid r3
  have M3 := Lib.hid m3
  have X3 := Lib.hid e3
  clear r3 q3 m3 e3
  have HC := Lib.hid (fun W (e : Ext w3 W) (g : Nat) (hb : Blk W g 31 #[.slice F k2 k2, .slice A k 5]) => law_concat hb ((HRf.out.ext X3.out).ext e) ((HRt.out.ext X3.out).ext e) Hk2.out)
  go_wp2_with fail
  go_region_law (first
    | (go_simp; go_at_call 38
       refine (HC.out _ (by first | exact (Ext.drew _).t (Ext.alloc _ _) | exact (Ext.alloc _ _).t (Ext.drew _)) _ (by first | exact Blk.new w3.drew _ _ | exact (Blk.new w3 _ _).drew)).mono ?_
       rintro e w4 ⟨A4, c4, rfl, r4, e4⟩
       have R4 := Lib.hid r4
       have X4 : Hid (Ext w3 w4) := Lib.hid (Below.t (by first | exact (Ext.drew _).t (Ext.alloc _ _) | exact (Ext.alloc _ _).t (Ext.drew _)) e4)
       clear r4 e4)
    | (go_simp; go_at_call 19
       refine (law_merge HM2.out R4.out (((HS.out.drop k).append (HS.out.take k)).ext (X3.out.t X4.out)) (by omega) (fun x hx => HFo.out x ((rot_perm ls k).mem_iff.1 hx)) (by rw [(rot_perm ls k).length_eq]; have := HFl.out; omega)).mono ?_
       rintro e w5 ⟨A5, n5, c5, rfl, r5, q5, m5, e5⟩
       have R5 := Lib.hid r5
       have M5 := Lib.hid m5
       have X5 : Hid (Ext w3 w5) := Lib.hid (X4.out.t e5)
       clear r5 q5 m5 e5))
  clear HC
  have Y5 := Lib.hid (X3.out.t X5.out)
  go_wp2_with fail
  refine (law_merge HM3.out (HRt.out.ext Y5.out) ((HS.out.take k).ext Y5.out) (by omega) (fun x hx => HFo.out x (flat_take_mem hx)) (by have h1 := flat_take_len ls k; have := HFl.out; omega)).mono ?_; rintro e w6 ⟨A6, n6, c6, rfl, r6, q6, m6, e6⟩
  have R6 := Lib.hid r6
  have Q6 := Lib.hid q6
  have M6 := Lib.hid (show n6 ≤ 50 by have h1 := r6.1; rw [Ha.out, isort_len] at h1; have h2 := flat_take_len ls k; have := HFl.out; omega)
  have Y6 := Lib.hid (Y5.out.t e6)
  have X6 := Lib.hid (X5.out.t e6)
  have Z6 := Lib.hid e6
  clear r6 q6 m6 e6
  go_wp2_with fail
  refine (law_merge HM4.out (HRf.out.ext Y6.out) ((HS.out.drop k).ext Y6.out) (by omega) (fun x hx => HFo.out x (flat_drop_mem hx)) (by have h1 := flat_drop_len ls k; have := HFl.out; omega)).mono ?_; rintro e w7 ⟨A7, n7, c7, rfl, r7, q7, m7, e7⟩
  have R7 := Lib.hid r7
  have Q7 := Lib.hid q7
  have M7 := Lib.hid (show n7 ≤ 50 by have h1 := r7.1; rw [Hb.out, isort_len] at h1; have h2 := flat_drop_len ls k; have := HFl.out; omega)
  have X7 := Lib.hid (X6.out.t e7)
  have Z7 := Lib.hid (Z6.out.t e7)
  have R6 := Lib.hid (R6.out.ext e7)
  have Hao := Lib.hid (show ∀ x ∈ a, EvOk x from fun x hx => by rw [Ha.out] at hx; exact HFo.out x (flat_take_mem ((isort_perm _).mem_iff.1 hx)))
  have Hbo := Lib.hid (show ∀ x ∈ b, EvOk x from fun x hx => by rw [Hb.out] at hx; exact HFo.out x (flat_drop_mem ((isort_perm _).mem_iff.1 hx)))
  clear r7 q7 m7 e7 Y5 Y6 X6 Z6
  go_wp2_with fail
  refine (law_merge2 (s1 := ⟨A7, n7, c7⟩) (s2 := ⟨A6, n6, c6⟩) HM5.out (Blk.new w7 24 #[.slice A7 n7 c7, .slice A6 n6 c6]) (R7.out.ext (Ext.alloc _ _)) (R6.out.ext (Ext.alloc _ _)) Q7.out Q6.out M7.out M6.out Hbo.out Hao.out).mono ?_; rintro e w8 ⟨A8, n8, c8, rfl, r8, e8⟩
  have V8 := (Ext.alloc w7 (.cells #[.slice A7 n7 c7, .slice A6 n6 c6] 24)).t e8
  have R8 := Lib.hid r8
  have R5 := Lib.hid (R5.out.ext (Z7.out.t V8))
  have X8 := Lib.hid (X7.out.t V8)
  have HN3 := Lib.hid (show n3 = ls.flatten.length by have h1 := R3.out.1; rw [HG.out, isort_len] at h1; omega)
  have M8 := Lib.hid (show n8 ≤ 1000 by have h1 := r8.1; have h2 := R3.out.1; have := M3.out; omega)
  clear r8 e8 V8 X7 Z7 Hao Hbo R6 R7 Q6 Q7 HM1 HM2 HM3 HM4 HM5
  go_wp2_with fail
  refine (aw_same rfl R5.out (R3.out.ext X8.out) M5.out M3.out).mono ?_; rintro e w9 ⟨rfl, e9⟩
  have X9 := Lib.hid (X8.out.t e9)
  have Z9 := Lib.hid e9
  clear e9
  go_wp2_with fail
  refine (aw_same rfl (R8.out.ext Z9.out) (R3.out.ext X9.out) M8.out M3.out).mono ?_; rintro e w10 ⟨rfl, e10⟩
  have X10 := Lib.hid (X9.out.t e10)
  clear e10 Z9 X9 X8
  have HGs := Lib.hid (show Srt G by rw [HG.out]; exact isort_srt HOk.out.dif)
  have HSt := Lib.hid (sorted_ A3 n3 c3 G w10 (R3.out.ext X10.out) (by have := M3.out; omega))
  rw [(srtB_iff G).2 HGs.out] at HSt
  go_wp2_with fail
  refine HSt.out.mono ?_; rintro e w11 ⟨rfl, e11⟩
  have X11 := Lib.hid (X10.out.t e11)
  clear e11 X10 HSt
  go_wp2_with fail
  have X3r := Lib.hid (X3.out.t X11.out)
  have R3 := Lib.hid (R3.out.ext X11.out)
  clear X3 X5 X4 R4 R5 R8 M8
  go_loopw [22, 111] (fun z i wr => ∃ j q : Nat, j ≤ 5 ∧ i = .int .i64 (j : Int) ∧ z = .int .i64 (q : Int) ∧ Hid (q = (ls.take j).flatten.length) ∧ Hid (Ext w11 wr)) (fun _ i _ => 5 - (intOf i).toNat)
  case atStart => exact ⟨0, 0, by omega, rfl, rfl, Lib.hid rfl, Lib.hid (Ext.refl _)⟩
  case round =>
    obtain ⟨j, q, hj, rfl, rfl, Hq, HX⟩ := hrel
    have hql : q ≤ 50 := by have h1 := Hq.out; have h2 := flat_take_len ls j; have h3 := HFl.out; omega
    by_cases hlt : j < 5
    · obtain ⟨b', o', s, rfl, _, hx, c0⟩ := (HR.out.ext (X3r.out.t HX.out)).at_ hlt
      obtain ⟨_, l', hl', hr'⟩ := HS.out.at_ j s hx
      have hltI : (j : Int) < 5 := by omega
      obtain ⟨sA, sn, sc⟩ := s
      have hl : l'.length = sn := hr'.1
      have Hq2 := Lib.hid (show q + sn = (ls.take (j + 1)).flatten.length by rw [flat_take_snoc hl', Hq.out, hl])
      have hq2 : q + sn ≤ 50 := by have h1 := Hq2.out; have h2 := flat_take_len ls (j + 1); have h3 := HFl.out; omega
      have hw : IntKind.i64.wrap ((q : Int) + (sn : Int)) = ((q + sn : Nat) : Int) := by rw [← Int.natCast_add]; exact IntWalk.i64_in _ (by omega)
      have hsn : sn ≤ 50 := by omega
      have HLm := Lib.hid (show ∀ x ∈ l', x ∈ G from fun x hx => by rw [HG.out]; exact (isort_perm _).mem_iff.2 (List.mem_flatten.2 ⟨l', List.mem_of_getElem? hl', hx⟩))
      have HRl := Lib.hid (show RdS 5 evC w2 sA sn l' from hr')
      unfold slv at c0
      simp only at c0
      generalize q + sn = q2 at *
      clear hx hl' hr' hl
      go_wp2_with fail
      obtain ⟨w0, rfl⟩ : ∃ w0, w0 = wr := ⟨_, rfl⟩
      go_loopw [121] (fun i wx => ∃ p : Nat, p ≤ sn ∧ i = .int .i64 (p : Int) ∧ Hid (Ext w11 wx)) (fun i _ => sn - (intOf i).toNat)
      case atStart => exact ⟨0, by omega, rfl, HX⟩
      case round =>
        obtain ⟨p, hp, rfl, HX2⟩ := hrel
        by_cases hpl : p < sn
        · obtain ⟨b2, o2, x, rfl, _, hx, c0', c1', c2', c3', c4'⟩ := (HRl.out.ext (X3r.out.t HX2.out)).ev hpl
          have hpI : (p : Int) < (sn : Int) := by omega
          have HC := Lib.hid (contains_ A3 n3 c3 G x (wr.alloc (.cells (evC x).toArray 37)) (R3.out.ext (HX2.out.t (Ext.alloc _ _))) (by have := M3.out; omega))
          rw [decide_eq_true (HLm.out x (List.mem_of_getElem? hx))] at HC
          obtain ⟨d0, d1, d2, d3, d4⟩ := (Blk.new wr 37 (evC x).toArray).ev
          unfold evV at HC
          clear hx
          go_wp2_with fail
          refine HC.out.mono ?_; rintro e w12 ⟨rfl, e12⟩
          have HX3 := Lib.hid (HX2.out.t ((Ext.alloc _ _).t e12))
          clear e12 HC HX2 c0' c1' c2' c3' c4' d0 d1 d2 d3 d4
          go_wp2_with fail
          go_roundw
          case rel => exact ⟨p + 1, by omega, by go_num, HX3⟩
          case measure => simp [intOf]; omega
        · have hpI : ¬ ((p : Int) < (sn : Int)) := by omega
          go_wp2_with fail
          go_roundw
          case rel => exact ⟨j + 1, q2, by omega, by go_num, rfl, Hq2, HX2⟩
          case measure => simp [intOf]; omega
    · have hltI : ¬ ((j : Int) < 5) := by omega
      obtain rfl : q = n3 := by rw [Hq.out, HN3.out, List.take_of_length_le (by have := HOk.out.len; omega)]
      clear hlt hj
      clear Hq HN3
      go_wp2_with fail
      go_loopw [133] (fun i wx => ∃ p : Nat, p ≤ q ∧ i = .int .i64 (p : Int) ∧ Hid (Ext w11 wx)) (fun i _ => q - (intOf i).toNat)
      case atStart => exact ⟨0, by omega, rfl, HX⟩
      case round =>
        obtain ⟨p, hp, rfl, HX2⟩ := hrel
        by_cases hpl : p < q
        · have hpI : (p : Int) < (q : Int) := by omega
          rcases Nat.eq_zero_or_pos p with rfl | hp0
          · have hg : decide (((0 : Nat) : Int) > 0) = false := by decide
            go_wp2_with fail
            go_quiet (fail)
            go_wp2_with fail
            go_roundw
            case rel => exact ⟨1, by omega, by go_num, Lib.hid (HX2.out.t (by first | exact Ext.drewN _ _ | exact Ext.drew _ | exact Ext.refl _))⟩
            case measure => simp [intOf]; omega
          · obtain ⟨p1, hp1⟩ : ∃ p1, p1 + 1 = p := ⟨p - 1, by omega⟩
            obtain ⟨b2, o2, y, e1, _, hy, z0, z1, z2, z3, z4⟩ := (R3.out.ext HX2.out).ev hpl
            obtain ⟨b3, o3, x, e2, _, hx, f0, f1, f2, f3, f4⟩ := (R3.out.ext HX2.out).ev (k := p1) (by omega)
            rw [e1] at e2
            cases e2
            subst e1
            have HLe := Lib.hid (fun w' => less_ x y w')
            have hxy : elB x y = true := by
              obtain ⟨h1, h2⟩ := List.getElem?_eq_some_iff.1 hx
              obtain ⟨h3, h4⟩ := List.getElem?_eq_some_iff.1 hy
              have := (List.pairwise_iff_getElem.1 HGs.out) p1 p h1 h3 (by omega)
              rwa [h2, h4] at this
            rw [hxy] at HLe
            unfold evV at HLe
            have hw : IntKind.i64.wrap ((p : Int) - 1) = (p1 : Int) := by rw [show (p : Int) - 1 = (p1 : Int) by omega]; exact IntWalk.i64_in _ (by omega)
            have hp1I : (p1 : Int) < (q : Int) := by omega
            have hgt : (0 : Int) < (p : Int) := by omega
            have hgd : decide ((p : Int) > 0) = true := decide_eq_true hgt
            clear hx hy hxy hp1
            go_wp2_with fail
            go_still_tail 12, (by kernel_rfl)
            change wpList _ _ _ _ _ wr.drew
            have HXd := Lib.hid (HX2.out.t (Ext.drew wr))
            generalize wr.drew = w4 at *
            go_wp2_with fail
            refine (HLe.out _).mono ?_; rintro e w5 ⟨rfl, e5⟩
            have HX5 := Lib.hid (HXd.out.t e5)
            clear e5 HLe HXd z0 z1 z2 z3 z4 f0 f1 f2 f3 f4 HX2
            go_wp2_with fail
            go_roundw
            case rel => exact ⟨p + 1, by omega, by go_num, HX5⟩
            case measure => simp [intOf]; omega
        · obtain rfl : p = q := by omega
          have HF := Lib.hid (E2.out.t (X3r.out.t HX2.out))
          go_wp2_with fail
          go_ret
          exact ⟨by simp, HF.out⟩
end Go.Proofs.Ytkeapijehfacfaa
