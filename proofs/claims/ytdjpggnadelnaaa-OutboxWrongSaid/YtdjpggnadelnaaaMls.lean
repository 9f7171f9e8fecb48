/- Mls: the least list. -/
import Derived.Test.YtdjpggnadelnaaaMrn
import Derived.Test.YtdjpggnadelnaaaEls
namespace Go.Proofs.Ytdjpggnadelnaaa
open Go.RowKit Go.Fx
theorem RdS_first {w : World} {A : Option Addr} {n : Nat} {p : List Ev} (h : RdS 5 evC w A n p) (hk : 0 < n) : ∃ b o i l, A = some ⟨b, o, none⟩ ∧ b < w.heap.size ∧ p = i :: l ∧
    w.cell? ⟨b, o, none⟩ = some (.int .i64 i.t) ∧ w.cell? ⟨b, o + 1, none⟩ = some (.int .i64 i.s) ∧ w.cell? ⟨b, o + 2, none⟩ = some (.int .i64 i.q) ∧ w.cell? ⟨b, o + 3, none⟩ = some (.int .i64 i.to) ∧ w.cell? ⟨b, o + 4, none⟩ = some (.int .i64 i.v) := by
  obtain ⟨b, o, i, h1, h2, h3, h4⟩ := h.ev hk
  cases p with
  | nil => simp at h3
  | cons x l =>
    have hx : x = i := by simpa using h3
    subst hx
    simp only [Nat.zero_mul, Nat.add_zero] at h4
    exact ⟨b, o, x, l, h1, h2, rfl, h4⟩
/-- What Least leaves. -/
def LeastP (b : Option (Nat × Ev)) (w : World) (e : Ending) (w' : World) : Prop := e = .returned (.tuple #[.int .i64 (ixO b : Int), .bool (isO b)]) ∧ Ext w w'
theorem leastA_step (i : Nat) (b : Option (Nat × Ev)) (x : Ev) (l : List Ev) (ls : List (List Ev)) : leastA i b ((x :: l) :: ls) = leastA (i + 1) (match b with | none => some (i, x) | some (j, y) => if elB x y then some (i, x) else some (j, y)) ls := by
  cases b with
  | none => rfl
  | some p => rfl
set_option maxRecDepth 100000 in
set_option maxHeartbeats 1000000 in
theorem least_ (A : Option Addr) (n c : Nat) (ss : List Sl) (ls : List (List Ev)) (w : World) (h : Rd slv w A n ss) (hs : Els w ss ls) (hn : n ≤ 1000000000) :
    Calls Try.prog 60 #[.slice A n c] w (LeastP (leastF ls) w) := by
  have H := Lib.hid h
  have Hs := Lib.hid hs
  have Hl := Lib.hid h.1
  clear h hs
  go_enter Try.func60, Try.ntmps60
  go_wp2_with fail
  go_step3
  go_wp2_with fail
  go_step3
  go_wp2_with fail
  go_loopw [4, 5, 10] (fun a b i wr => ∃ (k : Nat) (bt : Option (Nat × Ev)), k ≤ n ∧ i = .int .i64 (k : Int) ∧ a = .int .i64 (ixO bt : Int) ∧ b = .bool (isO bt) ∧ Hid (leastF ls = leastA k bt (ls.drop k) ∧ BestOk ls bt ∧ Ext w wr)) (fun _ _ i _ => n - (intOf i).toNat)
  case atStart => exact ⟨0, none, by omega, rfl, rfl, rfl, Lib.hid ⟨rfl, (fun _ _ h => by cases h), Ext.refl _⟩⟩
  case round =>
    obtain ⟨k, bt, hk, rfl, rfl, rfl, HJ⟩ := hrel
    by_cases hlt : k < n
    · obtain ⟨b, o, s, rfl, _, hsx, hcs⟩ := (H.out.ext HJ.out.2.2).at_ hlt
      obtain ⟨s', l, hsx', hlx, hsc, hrd⟩ := Hs.out.get (i := k) (by have := Hl.out; omega)
      obtain rfl : s' = s := by rw [hsx] at hsx'; exact (Option.some.inj hsx').symm
      have hltI : (k : Int) < (n : Int) := by omega
      have Hlx := Lib.hid hlx
      have Hrd := Lib.hid hrd
      obtain ⟨sA, sn, sc⟩ := s'
      unfold slv at hcs
      clear hsx hsx' hlx hrd
      rcases Nat.eq_zero_or_pos sn with rfl | hsn
      · obtain rfl : l = [] := List.eq_nil_of_length_eq_zero Hrd.out.1
        have HJ1 : Hid (leastF ls = leastA (k + 1) bt (ls.drop (k + 1)) ∧ BestOk ls bt ∧ Ext w wr) := Lib.hid ⟨by rw [HJ.out.1, drop_at Hlx.out]; cases bt <;> rfl, HJ.out.2⟩
        clear HJ Hrd Hlx
        go_wp2_with fail
        go_roundw
        case rel => exact ⟨k + 1, bt, by omega, by go_num, rfl, rfl, HJ1⟩
        case measure => simp [intOf]; omega
      · obtain ⟨b', o', x, l', e1, _, rfl, c0, c1, c2, c3, c4⟩ := RdS_first (Hrd.out.ext HJ.out.2.2) hsn
        change sA = _ at e1
        subst e1
        change 0 < sn at hsn
        have hsn0 : ((sn : Int) == 0) = false := by simp; omega
        have hsnI : (0 : Int) < (sn : Int) := by omega
        cases bt with
        | none =>
          have HJ1 : Hid (leastF ls = leastA (k + 1) (some (k, x)) (ls.drop (k + 1)) ∧ BestOk ls (some (k, x)) ∧ Ext w wr) := Lib.hid ⟨by rw [HJ.out.1, drop_at Hlx.out]; rfl, (fun j y h => by cases h; exact ⟨l', Hlx.out⟩), HJ.out.2.2⟩
          unfold isO ixO
          clear HJ Hrd Hlx
          go_wp2_with fail
          go_quiet (fail)
          go_wp2_with fail
          go_roundw
          case rel => exact ⟨k + 1, some (k, x), by omega, by go_num, rfl, rfl, Lib.hid ⟨HJ1.out.1, HJ1.out.2.1, HJ1.out.2.2.t (Ext.drewN _ _)⟩⟩
          case measure => simp [intOf]; omega
        | some p =>
          obtain ⟨j, y⟩ := p
          obtain ⟨ly, hly⟩ := HJ.out.2.1 j y rfl
          have hjl : j < n := by have := (List.getElem?_eq_some_iff.1 hly).1; have := Hl.out; have := Hs.out.len; omega
          obtain ⟨b2, o2, s2, e2, _, hs2, hc2⟩ := (H.out.ext HJ.out.2.2).at_ hjl
          cases e2
          obtain ⟨s3, l3, hs3, hl3, hsc3, hrd3⟩ := Hs.out.get (i := j) (by have := Hl.out; omega)
          obtain rfl : s3 = s2 := by rw [hs2] at hs3; exact (Option.some.inj hs3).symm
          obtain rfl : l3 = y :: ly := by rw [hly] at hl3; exact (Option.some.inj hl3).symm
          obtain ⟨sA3, sn3, sc3⟩ := s3
          unfold slv at hc2
          have hn3 : 0 < sn3 := by have := hrd3.1; simp at this; omega
          obtain ⟨b4, o4, x4, l4, e4, _, e5, d0, d1, d2, d3, d4⟩ := RdS_first (hrd3.ext HJ.out.2.2) hn3
          change sA3 = _ at e4
          subst e4
          cases e5
          have hjI : (j : Int) < (n : Int) := by omega
          have hn3I : (0 : Int) < (sn3 : Int) := by omega
          have HB := Lib.hid (fun w' => before_ x y w')
          unfold evV at HB
          have HJ2 := Lib.hid (show leastF ls = leastA (k + 1) (if elB x y then some (k, x) else some (j, y)) (ls.drop (k + 1)) by rw [HJ.out.1, drop_at Hlx.out]; rfl)
          have HJ3 : Hid (BestOk ls (some (j, y)) ∧ BestOk ls (some (k, x)) ∧ Ext w wr) := Lib.hid ⟨HJ.out.2.1, (fun j y h => by cases h; exact ⟨l', Hlx.out⟩), HJ.out.2.2⟩
          clear hs2 hs3 hl3 hrd3 hly HJ Hrd Hlx
          unfold isO ixO
          go_wp2_with fail
          go_still_tail 12, (by kernel_rfl)
          change wpList _ _ _ _ _ wr.drew
          have HE := Lib.hid (HJ3.out.2.2.t (Ext.drew wr))
          generalize wr.drew = w2 at *
          clear hcs c0 c1 c2 c3 c4 d0 d1 d2 d3 d4 hc2
          go_wp2_with fail
          refine (HB.out _).mono ?_; rintro e w3 ⟨rfl, e3⟩
          have HE3 := Lib.hid (HE.out.t e3)
          clear e3 HE HB
          cases hz : elB x y with
          | true =>
            have HJ4 := Lib.hid (show leastF ls = leastA (k + 1) (some (k, x)) (ls.drop (k + 1)) by rw [HJ2.out, hz]; rfl)
            clear hz HJ2
            go_wp2_with fail
            go_roundw
            case rel => exact ⟨k + 1, some (k, x), by omega, by go_num, rfl, rfl, Lib.hid ⟨HJ4.out, HJ3.out.2.1, HE3.out⟩⟩
            case measure => simp [intOf]; omega
          | false =>
            have HJ4 := Lib.hid (show leastF ls = leastA (k + 1) (some (j, y)) (ls.drop (k + 1)) by rw [HJ2.out, hz]; rfl)
            clear hz HJ2
            go_wp2_with fail
            go_roundw
            case rel => exact ⟨k + 1, some (j, y), by omega, by go_num, rfl, rfl, Lib.hid ⟨HJ4.out, HJ3.out.1, HE3.out⟩⟩
            case measure => simp [intOf]; omega
    · obtain rfl : n = k := by omega
      have HV := Lib.hid (show leastF ls = bt by rw [HJ.out.1, List.drop_eq_nil_of_le (by have := Hl.out; have := Hs.out.len; omega)]; cases bt <;> rfl)
      generalize hi : ixO bt = ix at *
      generalize ho : isO bt = is at *
      have Hi := Lib.hid hi
      have Ho := Lib.hid ho
      clear hi ho
      go_wp2_with fail
      try rw [Exit.noGoto_ret]
      go_ret2
      refine ⟨?_, HJ.out.2.2⟩
      rw [HV.out, Hi.out, Ho.out]; rfl
end Go.Proofs.Ytdjpggnadelnaaa
