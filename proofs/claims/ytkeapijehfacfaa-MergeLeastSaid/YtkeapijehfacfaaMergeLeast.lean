/- MergeLeast: the walk of the law: for any list of small numbers it answers true and leaves all memory as it was (no condition). -/
import Derived.Test.YtkeapijehfacfaaMergeAll
namespace Go.Fx
open Go.RowKit
/-- What the headers of five slices tell together. -/
def totW (W : World) (g o : Nat) : Nat := ((List.range 5).map (fun i => match W.cell? ⟨g, o + i, none⟩ with | some (.slice _ n _) => n | _ => 0)).sum
/-- The loop of MergeLeast. -/
structure LstJ (w : World) (ga oa : Nat) (ss : List Sl) (ls : List (List Ev)) (W : World) : Prop where
  room : Room W (some ⟨ga, oa, none⟩) 5 5 (ss.map slv)
  els : Els W ss ls
  off : ∀ s ∈ ss, ∀ k o, s.A = some ⟨k, o, none⟩ → 0 < s.n → k ≠ ga
  srt : ∀ l ∈ ls, Srt l
  dif : Dif ls.flatten
  ok : ∀ x ∈ ls.flatten, EvOk x
  tot : ls.flatten.length ≤ 50
  lo : w.heap.size ≤ ga
  ext : Ext w W
section
variable {w W W' : World} {ga oa : Nat} {ss : List Sl} {ls : List (List Ev)}
theorem LstJ.e (h : LstJ w ga oa ss ls W) (e : Ext W W') : LstJ w ga oa ss ls W' := ⟨h.room.ext e, h.els.ext e, h.off, h.srt, h.dif, h.ok, h.tot, h.lo, h.ext.t e⟩
theorem LstJ.n5 (h : LstJ w ga oa ss ls W) : ss.length = 5 := by have := h.room.1; rwa [List.length_map] at this
theorem LstJ.hd (h : LstJ w ga oa ss ls W) {j : Nat} {s : Sl} (hj : ss[j]? = some s) : W.cell? ⟨ga, oa + j, none⟩ = some (.slice s.A s.n s.c) := h.room.cellAt (k := j) (u := slv s) (by rw [List.getElem?_map, hj]; rfl)
theorem LstJ.sum (h : LstJ w ga oa ss ls W) : totW W ga oa = ls.flatten.length := by
  unfold totW
  rw [List.length_flatten]
  congr 1
  have h5 := h.n5
  have hl := h.els.len
  apply List.ext_getElem
  · simp; omega
  · intro i h1 h2
    have hi : i < ss.length := by simp at h1; omega
    obtain ⟨_, l, hl1, hl2⟩ := h.els.at_ i _ (List.getElem?_eq_getElem hi)
    have hc := h.hd (List.getElem?_eq_getElem hi)
    obtain ⟨hi2, e⟩ := List.getElem?_eq_some_iff.1 hl1
    simp only [List.getElem_map, List.getElem_range]
    rw [hc, e]
    exact hl2.1.symm
theorem LstJ.pop {j sn sc : Nat} {sA : Option Addr} {y : Ev} {l' : List Ev} (h : LstJ w ga oa ss ls W) (hj : ss[j]? = some ⟨sA, sn, sc⟩) (hl : ls[j]? = some (y :: l')) :
    LstJ w ga oa (ss.set j ⟨fromS 5 sA sc 1, sn - 1, sc - 1⟩) (ls.set j l') (W.setCell ⟨ga, oa + j, none⟩ (.slice (fromS 5 sA sc 1) (sn - 1) (sc - 1))) := by
  obtain ⟨hnc, l2, hl2, hr⟩ := h.els.at_ j _ hj
  rw [hl] at hl2
  cases hl2
  change sn ≤ sc at hnc
  change RdS 5 evC W sA sn (y :: l') at hr
  have hsn : 0 < sn := by have := hr.1; simp at this; omega
  have ch : Chg (fun k => k = ga) W (W.setCell ⟨ga, oa + j, none⟩ (.slice (fromS 5 sA sc 1) (sn - 1) (sc - 1))) := Chg.set W ga (oa + j) _ rfl
  have hp := pop_perm hl
  have hj5 : j < 5 := by have := (List.getElem?_eq_some_iff.1 hj).1; have := h.n5; omega
  refine ⟨?_, ?_, fun s hs k o hA hn => ?_, pop_srt hl h.srt, (List.pairwise_cons.1 (h.dif.perm hp)).2, fun x hx => h.ok x (hp.mem_iff.2 (List.mem_cons_of_mem _ hx)), ?_, h.lo, below_set h.ext h.lo _⟩
  · rw [List.map_set]
    exact h.room.set (k := j) hj5 _
  · have h1 := h.els.chg ch (fun s hs k o hA hn => h.off s hs k o hA hn)
    have h2 := hr.chg ch (fun k o hA hn => h.off _ (List.mem_of_getElem? hj) k o hA hn)
    have h3 := h2.from_ (k := 1) (c := sc) (by omega) hnc
    exact h1.set (by show sn - 1 ≤ sc - 1; omega) h3
  · rcases List.mem_or_eq_of_mem_set hs with h1 | h1
    · exact h.off s h1 k o hA hn
    · subst h1
      change fromS 5 sA sc 1 = _ at hA
      change 0 < sn - 1 at hn
      unfold fromS at hA
      rw [if_neg (by omega)] at hA
      obtain ⟨b, o', hA2, _⟩ := hr.2 hsn
      rw [hA2] at hA
      simp [Addr.add_lit] at hA
      obtain ⟨rfl, _⟩ := hA
      exact h.off _ (List.mem_of_getElem? hj) _ _ hA2 hsn
  · have := hp.length_eq
    have := h.tot
    simp only [List.length_cons] at *
    omega
end
end Go.Fx
namespace Go.Proofs.Ytkeapijehfacfaa
open Go.RowKit Go.Fx
theorem law_mergeN {A : Option Addr} {n c : Nat} {ss : List Sl} {ls : List (List Ev)} {r : List Ev} {w : World} (hF : mergeF ls = (r, -1, 0)) (h : Rd slv w A n ss) (hs : Els w ss ls) (hn : n ≤ 1000) (hok : ∀ x ∈ ls.flatten, EvOk x) (htot : ls.flatten.length ≤ 1000) :
    Calls Try.prog 19 #[.slice A n c] w fun e w' => ∃ A' n' c', e = .returned (.tuple #[.slice A' n' c', .int .i64 (-1), .int .i64 0]) ∧ RdS 5 evC w' A' n' r ∧ n' ≤ c' ∧ n' ≤ 1000 ∧ (∀ k o, A' = some ⟨k, o, none⟩ → 0 < n' → w.heap.size ≤ k) ∧ Ext w w' := by
  refine (merge_ A n c ss ls w h hs (by omega) (fun s hs' => ?_) (fun l hl x hx => hok x (List.mem_flatten.2 ⟨l, hl, hx⟩)) (by omega)).mono ?_
  · obtain ⟨i, hi, rfl⟩ := List.getElem_of_mem hs'
    obtain ⟨_, l, h2, h3⟩ := hs.at_ i _ (List.getElem?_eq_getElem hi)
    have h4 : l.length ≤ ls.flatten.length := (List.sublist_flatten_of_mem (List.mem_of_getElem? h2)).length_le
    have h5 := h3.1
    omega
  · have hl := mergeF_len ls
    rintro e w' ⟨A', n', c', rfl, hr, hl', hnew, he⟩
    rw [hF] at hr hl hl' ⊢
    exact ⟨A', n', c', rfl, hr.rd evC_len (by decide), hr.2.1, by have h1 : r.length = n' := hl'; have h2 : r.length ≤ ls.flatten.length := hl; omega, fun k o hA hn' => hnew k ⟨by have := hr.2.1; omega, o, hA⟩, he⟩
theorem law_least {A : Option Addr} {n c : Nat} {ss : List Sl} {ls : List (List Ev)} {b : Option (Nat × Ev)} {w : World} (hF : leastF ls = b) (h : Rd slv w A n ss) (hs : Els w ss ls) (hn : n ≤ 1000) :
    Calls Try.prog 32 #[.slice A n c] w fun e w' => e = .returned (.tuple #[.int .i64 (ixO b : Int), .bool (isO b)]) ∧ Ext w w' := by
  subst hF
  exact least_ A n c ss ls w h hs (by omega)
set_option maxRecDepth 100000 in
set_option maxHeartbeats 8000000 in
theorem walkMergeLeast (A0 : Option Addr) (n0 c0 : Nat) (l : List Sm) (w : World) (h0 : SmArg w A0 n0 c0 l) :
    Calls Try.prog 10 #[.slice A0 n0 c0] w fun e w' => e = .returned (.bool true) ∧ Ext w w' := by
  have HL := Lib.hid (fun w' (e : Ext w w') => lists_ A0 n0 c0 l w' (h0.ext e))
  have HMo := Lib.hid (show ∀ x ∈ (l.take 50).map mkE, EvOk x from fun x hx => by obtain ⟨y, hy, rfl⟩ := List.mem_map.1 hx; exact mkE_ok (h0.ok y (List.mem_of_mem_take hy)))
  have HMl := Lib.hid (show ((l.take 50).map mkE).length ≤ 50 by rw [List.length_map, List.length_take]; omega)
  generalize hM : (l.take 50).map mkE = M at *
  have HM := Lib.hid hM
  clear h0 hM
  go_enter Try.func10, Try.ntmps10
  go_wp2_with fail
  refine (awake_ w).mono ?_; rintro e w1 ⟨rfl, e1⟩
  have E1 := Lib.hid e1
  clear e1
  go_wp2_with fail
  refine (HL.out _ E1.out).mono ?_; rintro e w2 ⟨A, ss0, ls0, rfl, hl, hok, e2⟩
  rw [HM.out] at hok
  obtain ⟨ga, oa, rfl, hgl⟩ := hl.room.some_ (by omega)
  have H0 : Hid (LstJ w ga oa ss0 ls0 w2) := Lib.hid ⟨hl.room, hl.els, fun s hs k o hA hn e => by
    obtain ⟨i, hi, rfl⟩ := List.getElem_of_mem hs
    obtain ⟨hnc, _⟩ := hl.els.at_ i _ (List.getElem?_eq_getElem hi)
    exact hl.outer k ⟨_, hs, ⟨by omega, o, hA⟩⟩ ⟨by omega, oa, by rw [e]⟩, hok.srt, hok.dif, fun x hx => HMo.out x (hok.mem hx), by have h1 := hok.tot; have h2 := HMl.out; omega, by have h1 := hl.new ga (.inl ⟨by omega, oa, rfl⟩); have h2 := E1.out.size; omega, E1.out.t e2⟩
  clear hl hok e2 E1 HL HMo HMl HM hgl
  go_wp2_with fail
  go_loopw [] (fun wr => ∃ (ss : List Sl) (ls : List (List Ev)), Hid (LstJ w ga oa ss ls wr)) (fun wr => totW wr ga oa)
  case atStart => exact ⟨ss0, ls0, H0⟩
  case round =>
    clear H0
    obtain ⟨ss, ls, HJ⟩ := hrel
    obtain ⟨G, hG⟩ : ∃ G, G = isort ls.flatten := ⟨_, rfl⟩
    have HG := Lib.hid hG
    have HMr := Lib.hid (show mergeF ls = (G, -1, 0) by rw [hG]; exact mergeF_ok HJ.out.srt HJ.out.dif)
    clear hG
    go_wp2_with fail
    refine (law_mergeN HMr.out HJ.out.room.rd HJ.out.els (by omega) HJ.out.ok (by have := HJ.out.tot; omega)).mono ?_; rintro e w3 ⟨A3, n3, c3, rfl, r3, q3, m3, f3, e3⟩
    have R3 := Lib.hid r3
    have Q3 := Lib.hid q3
    have M3 := Lib.hid m3
    have F3 := Lib.hid (show ∀ k o, A3 = some ⟨k, o, none⟩ → 0 < n3 → k ≠ ga from fun k o hA hn e => by have h1 := f3 k o hA hn; have h2 := HJ.out.room.lt (k := ga) ⟨by omega, oa, rfl⟩; omega)
    have X3 := Lib.hid e3
    clear r3 q3 m3 f3 e3
    cases hb : leastF ls with
    | none =>
      have HLe := Lib.hid (law_least (c := 5) hb (HJ.out.room.rd.ext X3.out) (HJ.out.els.ext X3.out) (by omega))
      simp only [ixO, isO] at HLe
      obtain rfl : n3 = 0 := by have h1 := R3.out.1; rw [HG.out, merge_none hb] at h1; simpa using h1.symm
      have HE := Lib.hid (HJ.out.ext.t X3.out)
      clear hb
      go_wp2_with fail
      refine HLe.out.mono ?_; rintro e w4 ⟨rfl, e4⟩
      have HE4 := Lib.hid (HE.out.t e4)
      clear e4 HE HLe
      go_wp2_with fail
      go_ret
      exact ⟨rfl, HE4.out⟩
    | some p =>
      obtain ⟨j, y⟩ := p
      have HLe := Lib.hid (law_least (c := 5) hb (HJ.out.room.rd.ext X3.out) (HJ.out.els.ext X3.out) (by omega))
      simp only [ixO, isO] at HLe
      obtain ⟨l', hl'⟩ := leastF_ok ls j y hb
      have hpop := merge_pop HJ.out.srt HJ.out.dif hb hl'
      obtain ⟨G', hG'⟩ : ∃ G', G' = isort (ls.set j l').flatten := ⟨_, rfl⟩
      rw [← hG', ← HG.out] at hpop
      have HGy := Lib.hid hpop
      have HG' := Lib.hid hG'
      have hn3 : n3 = G'.length + 1 := by have h1 := R3.out.1; rw [hpop] at h1; simp at h1; omega
      have hn3p : 0 < n3 := by omega
      have hn3I : (0 : Int) < (n3 : Int) := by omega
      have Hl' := Lib.hid hl'
      have hj5 : j < 5 := by have h1 := (List.getElem?_eq_some_iff.1 hl').1; have h2 := HJ.out.n5; have h3 := HJ.out.els.len; omega
      have hj5I : (j : Int) < 5 := by omega
      obtain ⟨⟨sA, sn, sc⟩, hsj⟩ : ∃ s, ss[j]? = some s := ⟨ss[j]'(by have := HJ.out.n5; omega), List.getElem?_eq_getElem _⟩
      have Hsj := Lib.hid hsj
      have hsn : 0 < sn := by
        obtain ⟨_, l2, h1, h2⟩ := HJ.out.els.at_ j _ hsj
        rw [hl'] at h1; cases h1
        have h3 := h2.1
        simp at h3; omega
      have hsc : sn ≤ sc := (HJ.out.els.at_ j _ hsj).1
      have HJ3 := Lib.hid (HJ.out.e X3.out)
      have Hsum := Lib.hid HJ.out.sum
      clear hb hl' hpop hG' hn3 hsj HJ
      go_wp2_with fail
      refine HLe.out.mono ?_; rintro e w4 ⟨rfl, e4⟩
      have HJ4 := Lib.hid (HJ3.out.e e4)
      have R4 := Lib.hid (R3.out.ext e4)
      clear e4 HLe HJ3 X3 R3
      have hca := HJ4.out.hd Hsj.out
      simp only at hca
      obtain ⟨b3, o3, y3, G3, e3, _, hG3, z0, z1, z2, z3, z4⟩ := RdS_first R4.out hn3p
      subst e3
      obtain ⟨rfl, rfl⟩ : y3 = y ∧ G3 = G' := by
        have := HGy.out
        rw [hG3] at this
        cases this
        exact ⟨rfl, rfl⟩
      obtain ⟨_, l2, hl2, hr2⟩ := HJ4.out.els.at_ j _ Hsj.out
      rw [Hl'.out] at hl2
      cases hl2
      obtain ⟨b2, o2, y2, l2, e2, _, hl2, f0, f1, f2, f3, f4⟩ := RdS_first hr2 hsn
      change sA = _ at e2
      subst e2
      obtain ⟨rfl, rfl⟩ : y2 = y3 ∧ l2 = l' := by cases hl2; exact ⟨rfl, rfl⟩
      have hneq := fun w' => neq_ev w' y2 y2
      rw [show decide (y2 = y2) = true from decide_eq_true rfl] at hneq
      unfold evV at hneq
      have hgu := fun w' op a b xs ys => guard_ev w' op a b xs ys
      have hsnI : (0 : Int) < (sn : Int) := by omega
      have hd1 : decide ((j : Int) < 0) = false := decide_eq_false (by omega)
      have hd2 : decide ((5 : Int) ≤ (j : Int)) = false := decide_eq_false (by omega)
      have hd3 : ((sn : Int) == 0) = false := by simp; omega
      clear hG3 hl2 hr2
      go_wp2_with fail
      go_quiet (fail)
      go_upto_region 12 with fail
      have HJ5 := Lib.hid (HJ4.out.e (Ext.drewN w4 nq))
      have R5 := Lib.hid (R4.out.ext (Ext.drewN w4 nq))
      generalize w4.drewN nq = w5 at *
      clear z0 z1 z2 z3 z4 f0 f1 f2 f3 f4 hca hd1 hd2 hd3 hneq hgu HJ4 R4
      have hca := HJ5.out.hd Hsj.out
      simp only at hca
      have hfz := HJ5.out.room.frozenAt (k := j) hj5
      have hsl := fun w' => ev_from (A := some ⟨b2, o2, none⟩) (n := sn) (c := sc) (k := 1) (li := 1) w' rfl (by omega)
      have HP := Lib.hid (HJ5.out.pop Hsj.out Hl'.out)
      have hsl3 := fun w' => ev_from (A := some ⟨b3, o3, none⟩) (n := n3) (c := c3) (k := 1) (li := 1) w' rfl (by omega)
      have hR3 : ∀ V : Value, RdS 5 evC (w5.setCell ⟨ga, oa + j, none⟩ V) (fromS 5 (some ⟨b3, o3, none⟩) c3 1) (n3 - 1) G3 := fun V => by
        have h1 := R5.out.chg (Chg.set w5 ga (oa + j) V (T := fun k => k = ga) rfl) (fun k o hA hn => F3.out k o hA hn)
        have h2 := h1.from_ (k := 1) (c := c3) (by omega) Q3.out
        rw [HGy.out] at h2
        exact h2
      have HR3 := Lib.hid hR3
      have Hlt : Hid ((ls.set j l2).flatten.length < totW wr ga oa) := Lib.hid (by
        have h1 := (pop_perm Hl'.out).length_eq
        rw [Hsum.out, h1]
        simp)
      clear hR3
      generalize fromS 5 (some ⟨b2, o2, none⟩) sc 1 = F at *
      generalize sn - 1 = sn1 at *
      generalize sc - 1 = sc1 at *
      generalize fromS 5 (some ⟨b3, o3, none⟩) c3 1 = F3' at *
      obtain ⟨n31, hn31⟩ : ∃ n31, n31 = n3 - 1 := ⟨_, rfl⟩
      rw [← hn31] at hsl3 HR3
      have hn31l : n31 ≤ 1000 := by have := M3.out; omega
      generalize c3 - 1 = c31 at *
      obtain ⟨w6, hw6⟩ : ∃ w6, w6 = w5.setCell ⟨ga, oa + j, none⟩ (.slice F sn1 sc1) := ⟨_, rfl⟩
      rw [← hw6] at HP
      have HR6 := Lib.hid (HR3.out (.slice F sn1 sc1))
      rw [← hw6] at HR6
      have HW6 := Lib.hid hw6
      clear hw6 HR3 hn31
      go_upto_region 13 with fail
      change Code.wp _ _ _ _ (w5.setCell ⟨ga, oa + j, none⟩ (.slice F sn1 sc1))
      rw [← HW6.out]
      clear HW6 hca hfz hsl HJ5 R5
      have HM2 := Lib.hid (show mergeF (ls.set j l2) = (G3, -1, 0) by rw [HG'.out]; exact mergeF_ok HP.out.srt HP.out.dif)
      go_wp2_with fail
      refine (law_merge HM2.out HP.out.room.rd HP.out.els (by omega) HP.out.ok (by have := HP.out.tot; omega)).mono ?_; rintro e w7 ⟨A7, n7, c7, rfl, r7, q7, m7, e7⟩
      have R7 := Lib.hid r7
      have M7 := Lib.hid m7
      have HP7 := Lib.hid (HP.out.e e7)
      have HR7 := Lib.hid (HR6.out.ext e7)
      clear r7 q7 m7 e7 HP HR6
      go_wp2_with fail
      refine (aw_same rfl R7.out HR7.out M7.out hn31l).mono ?_; rintro e w8 ⟨rfl, e8⟩
      have HP8 := Lib.hid (HP7.out.e e8)
      clear e8 HP7
      go_wp2_with fail
      go_roundw
      case rel => exact ⟨_, _, HP8⟩
      case measure => rw [HP8.out.sum]; exact Hlt.out
end Go.Proofs.Ytkeapijehfacfaa
