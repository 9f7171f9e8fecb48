/- NumLists: the walk of the law. -/
import Derived.Test.YtidjimkhppfjjaaNumA
import Derived.Test.YtidjimkhppfjjaaNumC
import Derived.Test.YtidjimkhppfjjaaRefD
import Derived.Test.YtidjimkhppfjjaaLex
import Derived.Test.YtidjimkhppfjjaaStep
import Derived.Test.YtidjimkhppfjjaaOpen
import Derived.Deep.CutRange
namespace Go.Fx.Num
theorem all_app (k l : List Nat) : all (k ++ l) = all k ++ all l := by simp [all]
theorem all_take (k : List Nat) (j : Nat) : (all k).take (all (k.take j)).length = all (k.take j) := by
  have h : all k = all (k.take j) ++ all (k.drop j) := by rw [← all_app, List.take_append_drop]
  rw [h]; exact List.take_left
theorem all_take_in (k : List Nat) (j x d : Nat) (hx : k[j]? = some x) (hd : d ≤ size x) : (all k).take ((all (k.take j)).length + d) = all (k.take j) ++ (form x).take d := by
  have hj := (List.getElem?_eq_some_iff.1 hx).1
  have h : all k = all (k.take j) ++ (form x ++ all (k.drop (j + 1))) := by
    have h1 : form x = all [x] := by simp [all]
    rw [h1, ← all_app, ← all_app]
    congr 1
    have h2 : k.drop j = [x] ++ k.drop (j + 1) := by
      rw [List.drop_eq_getElem_cons hj, (List.getElem?_eq_some_iff.1 hx).2]; rfl
    rw [← h2, List.take_append_drop]
  rw [h, List.take_length_add_append, List.take_append_of_le_length (by rw [form_length]; exact hd)]
theorem lex_drop {k l : List Nat} {i x y : Nat} (hx : k[i]? = some x) (hy : l[i]? = some y) : lexN (k.drop i) (l.drop i) = if x < y then -1 else if y < x then 1 else lexN (k.drop (i + 1)) (l.drop (i + 1)) := by
  have h1 := (List.getElem?_eq_some_iff.1 hx).1
  have h2 := (List.getElem?_eq_some_iff.1 hy).1
  rw [List.drop_eq_getElem_cons h1, (List.getElem?_eq_some_iff.1 hx).2, List.drop_eq_getElem_cons h2, (List.getElem?_eq_some_iff.1 hy).2]
  conv => lhs; unfold lexN
end Go.Fx.Num
namespace Go.Proofs.Ytidjimkhppfjjaa
open Go.RowKit Go.Fx Go.ChangeShapes Go.WideShapes

set_option maxRecDepth 100000 in
set_option maxHeartbeats 400000 in
theorem walkNumLists (A : Option Addr) (n c : Nat) (ks : List Nat) (A' : Option Addr) (n' c' : Nat) (ls : List Nat) (ct : Int) (w : World) (hk : Arg .u64 18446744073709551616 w A n c ks) (hl : Arg .u64 18446744073709551616 w A' n' c' ls) (hct : (Lit.int .u16 ct).wf = true) :
    Calls Try.prog 6 #[.slice A n c, .slice A' n' c', .int .u16 ct] w fun e w' => e = .returned (.bool true) ∧ Below w.heap.size w w' := by
  have hct := bounds_u16 hct
  obtain ⟨ct, rfl⟩ := Int.eq_ofNat_of_zero_le hct.1
  obtain ⟨m, hm1, hm2, hm3, Hm⟩ : ∃ m, m ≤ n ∧ m ≤ n' ∧ m ≤ 40 ∧ Hid (m = n ∨ m = n' ∨ m = 40) := ⟨min n (min n' 40), by omega, by omega, by omega, Lib.hid (by omega)⟩
  have hc1 := hk.le
  have hc2 := hl.le
  have hmx1 : c ≤ 9223372036854775807 := hk.max
  have hmx2 : c' ≤ 9223372036854775807 := hl.max
  have r_k : Rd u64v w A m (ks.take m) := hk.rd.take hm1
  have r_l : Rd u64v w A' m (ls.take m) := hl.rd.take hm2
  have Hkl := Lib.hid (fun x hx => hk.lt x (List.mem_of_mem_take hx) : ∀ x ∈ ks.take m, x < 18446744073709551616)
  have Hll := Lib.hid (fun x hx => hl.lt x (List.mem_of_mem_take hx) : ∀ x ∈ ls.take m, x < 18446744073709551616)
  generalize ks.take m = k at *
  generalize ls.take m = l at *
  have hml : (m : Int) ≤ (c : Int) := by omega
  have hml' : (m : Int) ≤ (c' : Int) := by omega
  have Hkn := Lib.hid r_k.1
  have Hln := Lib.hid r_l.1
  have Hn : Hid ((n : Int) = n) := Lib.hid rfl
  obtain ⟨p, Hp⟩ : ∃ p, Hid ((Num.all k).length = p) := ⟨_, Lib.hid rfl⟩
  obtain ⟨q, Hq⟩ : ∃ q, Hid ((Num.all l).length = q) := ⟨_, Lib.hid rfl⟩
  have hp9 : p ≤ 360 := by have := Num.all_length_le k; have := Hkn.out; have := Hp.out; omega
  have hq9 : q ≤ 360 := by have := Num.all_length_le l; have := Hln.out; have := Hq.out; omega
  have Hal := Lib.hid (Num.all_lt k)
  have Hbl := Lib.hid (Num.all_lt l)
  have Hsk := Lib.hid (Num.split_all k Hkl.out)
  have Hsl := Lib.hid (Num.split_all l Hll.out)
  have Hlex := Lib.hid (Num.all_lex k l (by rw [Hkn.out, Hln.out]) Hkl.out Hll.out)
  clear hk hl
  go_enter Try.func6, Try.ntmps6
  have hE := Ext.refl w
  go_wp2_with fail
  refine (awake _).mono ?_
  rintro e wk1 ⟨rfl, ek1⟩
  have hE := hE.t ek1
  have r_k := r_k.ext ek1
  have r_l := r_l.ext ek1
  clear ek1
  go_upto_region 3 with fail
  go_cut [7] from 27 to 31 (fun v wx => v = .int .i64 (m : Int) ∧ wk1 = wx)
  case first =>
    go_wp2_with fail
    all_goals go_meet
    all_goals refine ⟨?_, rfl⟩
    all_goals exact congrArg (Value.int .i64) (by have := Hm.out; omega)
  case rest =>
  obtain ⟨rfl, rfl⟩ := hcut
  go_upto_region 4 with fail
  go_cut [0, 1] from 32 to 37 (fun v v' wx => v = .slice A m c ∧ v' = .slice A' m c' ∧ Ext wk1 wx)
  case first =>
    go_quiet (fail)
    go_wp2_with fail
    go_meet
    exact ⟨rfl, rfl, Ext.drewN _ _⟩
  case rest =>
  obtain ⟨rfl, rfl, ek⟩ := hcut
  have hE := hE.t ek
  have r_k := r_k.ext ek
  have r_l := r_l.ext ek
  clear ek
  go_wp2_with fail
  refine (num_All _ m _ k _ r_k Hkl.out (by omega)).mono ?_
  rw [Hp.out]
  rintro e wk2 ⟨A1, c1, rfl, own1, ek2⟩
  have hE := hE.t ek2
  have r_k := r_k.ext ek2
  have r_l := r_l.ext ek2
  clear ek2
  have r_a := Rd.of_own own1
  have hca := own_cap own1
  go_wp2_with fail
  refine (num_All _ m _ l _ r_l Hll.out (by omega)).mono ?_
  rw [Hq.out]
  rintro e wk3 ⟨A2, c2, rfl, own2, ek3⟩
  have hE := hE.t ek3
  have r_k := r_k.ext ek3
  have r_l := r_l.ext ek3
  have r_a := r_a.ext ek3
  clear ek3
  have r_b := Rd.of_own own2
  go_wp2_with fail
  refine (num_Split _ _ _ _ _ r_a Hal.out (by omega)).mono ?_
  rw [Hsk.out]
  rintro e wk4 ⟨A3, n3, c3, rfl, r_p, ek4⟩
  have hE := hE.t ek4
  have r_k := r_k.ext ek4
  have r_l := r_l.ext ek4
  have r_a := r_a.ext ek4
  have r_b := r_b.ext ek4
  clear ek4
  obtain rfl : m = n3 := by have := r_p.1; have := Hkn.out; simp only at *; omega
  go_wp2_with fail
  refine (num_Split _ _ _ _ _ r_b Hbl.out (by omega)).mono ?_
  rw [Hsl.out]
  rintro e wk5 ⟨A4, n4, c4, rfl, r_q, ek5⟩
  have hE := hE.t ek5
  have r_k := r_k.ext ek5
  have r_l := r_l.ext ek5
  have r_a := r_a.ext ek5
  have r_b := r_b.ext ek5
  have r_p := r_p.ext ek5
  clear ek5
  obtain rfl : m = n4 := by have := r_q.1; have := Hln.out; simp only at *; omega
  go_wp2_with fail
  refine (sameNums _ _ _ _ _ _ _ _ _ r_p r_k (by simp only [maxLen]; omega) (by simp only [maxLen]; omega)).mono ?_
  rintro e wk6 ⟨rfl, ek6⟩
  have hE := hE.t ek6
  have r_k := r_k.ext ek6
  have r_l := r_l.ext ek6
  have r_a := r_a.ext ek6
  have r_b := r_b.ext ek6
  have r_p := r_p.ext ek6
  have r_q := r_q.ext ek6
  clear ek6
  go_wp2_with fail
  refine (sameNums _ _ _ _ _ _ _ _ _ r_q r_l (by simp only [maxLen]; omega) (by simp only [maxLen]; omega)).mono ?_
  rintro e wk7 ⟨rfl, ek7⟩
  have hE := hE.t ek7
  have r_k := r_k.ext ek7
  have r_l := r_l.ext ek7
  have r_a := r_a.ext ek7
  have r_b := r_b.ext ek7
  have r_p := r_p.ext ek7
  have r_q := r_q.ext ek7
  clear ek7
  go_wp2_with fail
  go_loopw [14, 15] (fun ov iv wr => ∃ j : Nat, j ≤ m ∧ iv = .int .i64 ((j : Int) - 1) ∧ ov = .int .i64 (lexN (k.drop j) (l.drop j)) ∧ Ext wk7 wr) (fun _ iv _ => (intOf iv + 1).toNat)
  case atStart => exact ⟨m, Nat.le_refl _, by go_num, by rw [List.drop_eq_nil_of_le (by have := Hkn.out; omega), List.drop_eq_nil_of_le (by have := Hln.out; omega)]; rfl, Ext.refl _⟩
  case round =>
    obtain ⟨j, hj, rfl, rfl, er⟩ := hrel
    cases j with
    | succ i =>
      obtain ⟨b1, o1, x, rfl, _, hx, hcx⟩ := (r_k.ext er).at_ (k := i) (by omega)
      obtain ⟨b2, o2, y, rfl, _, hy, hcy⟩ := (r_l.ext er).at_ (k := i) (by omega)
      have HL := Lib.hid (Num.lex_drop hx hy)
      have him : (i : Int) < (m : Int) := by omega
      have ej : ((i + 1 : Nat) : Int) - 1 = (i : Int) := by omega
      rw [ej]
      generalize lexN (k.drop (i + 1)) (l.drop (i + 1)) = o at *
      clear hx hy ej
      rcases Nat.lt_trichotomy x y with hxy | hxy | hxy
      · have h1 : decide ((x : Int) < (y : Int)) = true := by simp; omega
        go_wp2
        go_quiet (fail)
        go_wp2
        go_roundw
        case rel => exact ⟨i, by omega, by go_num, by rw [HL.out, if_pos hxy], er.t (Ext.drewN _ _)⟩
        case measure => simp [intOf]
      · subst hxy
        have h1 : decide ((x : Int) < (x : Int)) = false := by simp
        go_wp2
        go_quiet (fail)
        go_wp2
        go_quiet (fail)
        go_wp2
        go_roundw
        case rel => exact ⟨i, by omega, by go_num, by rw [HL.out, if_neg (by omega), if_neg (by omega)], er.t (Ext.drewN _ _)⟩
        case measure => simp [intOf]
      · have h1 : decide ((x : Int) < (y : Int)) = false := by simp; omega
        have h2 : decide ((y : Int) < (x : Int)) = true := by simp; omega
        go_wp2
        go_quiet (fail)
        go_wp2
        go_quiet (fail)
        go_wp2
        go_roundw
        case rel => exact ⟨i, by omega, by go_num, by rw [HL.out, if_neg (by omega), if_pos hxy], er.t (Ext.drewN _ _)⟩
        case measure => simp [intOf]
    | zero =>
      have hE := hE.t er
      have r_a := r_a.ext er
      have r_b := r_b.ext er
      have r_k := r_k.ext er
      clear er r_l r_p r_q
      rw [List.drop_zero, List.drop_zero]
      go_wp2_with fail
      refine (bytes_Compare _ _ _ _ _ _ _ _ _ r_a r_b Hal.out Hbl.out).mono ?_
      rw [Hlex.out]
      rintro e wy8 ⟨rfl, rfl⟩
      go_wp2_with fail
      generalize hat : (ct : Int) % ((p : Int) + 1) = av
      have ha0 : 0 ≤ av := by rw [← hat]; exact Int.emod_nonneg _ (by omega)
      have ha1 : av < (p : Int) + 1 := by rw [← hat]; exact Int.emod_lt_of_pos _ (by omega)
      clear hat
      obtain ⟨a, rfl⟩ := Int.eq_ofNat_of_zero_le ha0
      have hap : a ≤ p := by omega
      have hac : (a : Int) ≤ (c1 : Int) := by omega
      clear ha0 ha1
      go_loopw [17, 18, 105] (fun ev hv iv wq => ∃ j : Nat, j ≤ m ∧ iv = .int .i64 (j : Int) ∧ hv = .int .i64 (j : Int) ∧ ev = .int .i64 ((Num.all (k.take j)).length : Nat) ∧ (Num.all (k.take j)).length ≤ a ∧ wq = wr) (fun _ _ iv _ => m - (intOf iv).toNat)
      case atStart => exact ⟨0, by omega, rfl, rfl, by simp [Num.all], by simp [Num.all], rfl⟩
      case round =>
        obtain ⟨j, hj, rfl, rfl, rfl, hea, rfl⟩ := hrel
        obtain ⟨e, He⟩ : ∃ e, Hid ((Num.all (k.take j)).length = e) := ⟨_, Lib.hid rfl⟩
        rw [He.out] at hea ⊢
        by_cases hjm : j < m
        · obtain ⟨b1, o1, x, rfl, _, hx, hcx⟩ := r_k.at_ hjm
          have Hx := Lib.hid hx
          have hx64 := Lib.hid (Hkl.out x (List.mem_of_getElem? hx))
          have hjm' : (j : Int) < (m : Int) := by omega
          clear hx
          by_cases hae : e = a
          · subst hae
            have Hst : Hid (Num.split ((Num.all k).take e) = (k.take j, 0)) := Lib.hid (by rw [← He.out, Num.all_take, Num.split_all _ (fun z hz => Hkl.out z (List.mem_of_mem_take hz))])
            go_wp2_with fail
            refine (num_Split _ _ _ _ _ (r_a.take (k := e) (by omega)) (fun d hd => Hal.out d (List.mem_of_mem_take hd)) (by omega)).mono ?_
            rw [Hst.out]
            rintro e wk9 ⟨A5, n5, c5, rfl, r_5, ek9⟩
            have hE := hE.t ek9
            have r_k := r_k.ext ek9
            have r_a := r_a.ext ek9
            have r_b := r_b.ext ek9
            clear ek9
            obtain rfl : j = n5 := by have := r_5.1; have := Hkn.out; simp only [List.length_take] at *; omega
            have hjc : (j : Int) ≤ (c : Int) := by omega
            go_wp2_with fail
            refine (sameNums _ _ _ _ _ _ _ _ _ r_5 (r_k.take (k := j) (by omega)) (by simp only [maxLen]; omega) (by simp only [maxLen]; omega)).mono ?_
            rintro e wk10 ⟨rfl, ek10⟩
            have hE := hE.t ek10
            have r_k := r_k.ext ek10
            have r_a := r_a.ext ek10
            have r_b := r_b.ext ek10
            clear ek10
            go_wp2_with fail
            go_ret
            exact ⟨rfl, hE⟩
          · obtain ⟨s, Hs⟩ : ∃ s, Hid (Num.size x = s) := ⟨_, Lib.hid rfl⟩
            have hs9 := Num.size_le x
            have hae' : ((e : Int) == (a : Int)) = false := by simp; omega
            rw [Hs.out] at hs9
            go_wp2_with fail
            refine (num_Size x _ hx64.out).mono ?_
            rw [Hs.out]
            rintro e wy11 ⟨rfl, rfl⟩
            by_cases hov : a < e + s
            · have hov' : (a : Int) < (e : Int) + (s : Int) := by omega
              have Hst : Hid (Num.split ((Num.all k).take a) = ([], 10)) := Lib.hid (by
                have h1 := Num.all_take_in k j x (a - e) Hx.out (by rw [Hs.out]; omega)
                rw [He.out, show e + (a - e) = a by omega] at h1
                rw [h1]
                exact Num.split_cut _ x (a - e) (fun z hz => Hkl.out z (List.mem_of_mem_take hz)) (by omega) (by rw [Hs.out]; omega))
              go_wp2_with fail
              refine (num_Split _ _ _ _ _ (r_a.take (k := a) (by omega)) (fun d hd => Hal.out d (List.mem_of_mem_take hd)) (by omega)).mono ?_
              rw [Hst.out]
              rintro e wk12 ⟨A5, n5, c5, rfl, r_5, ek12⟩
              have hE := hE.t ek12
              have r_k := r_k.ext ek12
              have r_a := r_a.ext ek12
              have r_b := r_b.ext ek12
              clear ek12
              obtain rfl : 0 = n5 := r_5.1
              go_wp2_with fail
              go_ret
              exact ⟨rfl, hE⟩
            · have hov' : ¬ (a : Int) < (e : Int) + (s : Int) := by omega
              go_wp2_with fail
              refine (num_Size x _ hx64.out).mono ?_
              rw [Hs.out]
              rintro e wy13 ⟨rfl, rfl⟩
              have hnx : (Num.all (k.take (j + 1))).length = e + s := by
                rw [take_snoc Hx.out, Num.all_snoc, List.length_append, He.out, Num.form_length, Hs.out]
              go_wp2_with fail
              go_roundw
              case rel => exact ⟨j + 1, by omega, by go_num, by go_num, by rw [hnx]; go_num, by omega, trivial⟩
              case measure => simp [intOf]; omega
        · obtain rfl : j = m := by omega
          by_cases hae : e = a
          · subst hae
            have Hst : Hid (Num.split ((Num.all k).take e) = (k.take j, 0)) := Lib.hid (by rw [← He.out, Num.all_take, Num.split_all _ (fun z hz => Hkl.out z (List.mem_of_mem_take hz))])
            go_wp2_with fail
            refine (num_Split _ _ _ _ _ (r_a.take (k := e) (by omega)) (fun d hd => Hal.out d (List.mem_of_mem_take hd)) (by omega)).mono ?_
            rw [Hst.out]
            rintro e wk14 ⟨A5, n5, c5, rfl, r_5, ek14⟩
            have hE := hE.t ek14
            have r_k := r_k.ext ek14
            have r_a := r_a.ext ek14
            have r_b := r_b.ext ek14
            clear ek14
            obtain rfl : j = n5 := by have := r_5.1; have := Hkn.out; simp only [List.length_take] at *; omega
            have hjc : (j : Int) ≤ (c : Int) := by omega
            go_wp2_with fail
            refine (sameNums _ _ _ _ _ _ _ _ _ r_5 (r_k.take (k := j) (by omega)) (by simp only [maxLen]; omega) (by simp only [maxLen]; omega)).mono ?_
            rintro e wk15 ⟨rfl, ek15⟩
            have hE := hE.t ek15
            have r_k := r_k.ext ek15
            have r_a := r_a.ext ek15
            have r_b := r_b.ext ek15
            clear ek15
            go_wp2_with fail
            go_ret
            exact ⟨rfl, hE⟩
          · exfalso
            have h1 : k.take j = k := List.take_of_length_le (by have := Hkn.out; omega)
            have := He.out
            have := Hp.out
            rw [h1] at *
            omega
end Go.Proofs.Ytidjimkhppfjjaa
