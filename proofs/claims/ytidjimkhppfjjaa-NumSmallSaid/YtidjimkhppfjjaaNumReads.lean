/- NumReads: the walk of the law. -/
import Derived.Test.YtidjimkhppfjjaaNumA
import Derived.Test.YtidjimkhppfjjaaRefS
import Derived.Test.YtidjimkhppfjjaaOpen
namespace Go.Fx.Num
theorem splitF_len : ∀ (f : Nat) (b : List Nat), (splitF f b).1.length ≤ b.length := by
  intro f
  induction f with
  | zero => intro b; simp [splitF]
  | succ f ih =>
    intro b
    unfold splitF
    by_cases hb : b = []
    · rw [if_pos hb]; simp
    · rw [if_neg hb]
      by_cases he : (readF b).2.2 = 0
      · rw [if_pos he]
        have h1 := readF_size b he
        have h2 := ih (b.drop (readF b).2.1)
        rw [List.length_drop] at h2
        split
        · simp only [List.length_cons]; omega
        · simp
      · rw [if_neg he]; simp
theorem split_len (b : List Nat) : (split b).1.length ≤ b.length := splitF_len _ b
end Go.Fx.Num
namespace Go.Proofs.Ytidjimkhppfjjaa
open Go.RowKit Go.Fx Go.ChangeShapes Go.WideShapes
set_option maxRecDepth 100000 in
set_option maxHeartbeats 2000000 in
theorem reads_ (A : Option Addr) (n c : Nat) (a : List Nat) (A' : Option Addr) (n' c' : Nat) (b : List Nat) (at_ least most : Int) (w : World)
    (hat : -9223372036854775808 ≤ at_ ∧ at_ ≤ 9223372036854775807) (hl : -9223372036854775808 ≤ least ∧ least ≤ 9223372036854775807) (hm : -9223372036854775808 ≤ most ∧ most ≤ 9223372036854775807) (hA : Arg .u8 256 w A n c a) (hB : Arg .u8 256 w A' n' c' b) :
    Calls Try.prog 24 #[.slice A n c, .slice A' n' c', .int .i64 at_, .int .i64 least, .int .i64 most] w fun e w' => e = .returned (.bool true) ∧ Ext w w' := by
  by_cases hn : 500 < n
  · have hn' : 500 < (n : Int) := by omega
    go_enter Try.func24, Try.ntmps24
    go_wp2_with fail
    go_ret
    exact ⟨rfl, Ext.refl _⟩
  · by_cases hm' : 500 < n'
    · have hn2 : ¬ 500 < (n : Int) := by omega
      have hn' : 500 < (n' : Int) := by omega
      go_enter Try.func24, Try.ntmps24
      go_wp2_with fail
      go_ret
      exact ⟨rfl, Ext.refl _⟩
    · have hn2 : ¬ 500 < (n : Int) := by omega
      have hn3 : ¬ 500 < (n' : Int) := by omega
      have r_a : Rd u8v w A n a := hA.rd
      have r_b : Rd u8v w A' n' b := hB.rd
      have Ha := Lib.hid (hA.lt)
      have Hb := Lib.hid (hB.lt)
      have Hc1 := Lib.hid (hA.le)
      have Hc2 := Lib.hid (hB.le)
      have Hc3 := Lib.hid (hA.max)
      have Hc4 := Lib.hid (hB.max)
      clear hA hB
      have Hat := Lib.hid hat
      have Hle := Lib.hid hl
      have Hmo := Lib.hid hm
      clear hat hl hm
      obtain ⟨r1, H1⟩ : ∃ r, Hid (Num.readAt a at_ = r) := ⟨_, Lib.hid rfl⟩
      obtain ⟨r2, H2⟩ : ∃ r, Hid (Num.last a = r) := ⟨_, Lib.hid rfl⟩
      obtain ⟨r3, H3⟩ : ∃ r, Hid (Num.intAt a at_ least most = r) := ⟨_, Lib.hid rfl⟩
      obtain ⟨r4, H4⟩ : ∃ r, Hid (Num.split a = r) := ⟨_, Lib.hid rfl⟩
      obtain ⟨r5, H5⟩ : ∃ r, Hid (Num.compare a b = r) := ⟨_, Lib.hid rfl⟩
      obtain ⟨x1, y1, z1⟩ := r1
      obtain ⟨x2, y2, z2⟩ := r2
      obtain ⟨x3, y3, z3⟩ := r3
      obtain ⟨x4, y4⟩ := r4
      obtain ⟨x5, y5⟩ := r5
      go_enter Try.func24, Try.ntmps24
      have hE := Ext.refl w
      go_wp2_with fail
      refine (lentBytes A n c a _ r_a (by omega)).mono ?_
      rintro e wk1 ⟨A1, c1, rfl, hc1, hm1, r_p, ek1⟩
      have hE := hE.t ek1
      have r_a := r_a.ext ek1
      have r_b := r_b.ext ek1
      clear ek1
      go_wp2_with fail
      refine (lentBytes A' n' c' b _ r_b (by omega)).mono ?_
      rintro e wk2 ⟨A2, c2, rfl, hc2, hm2, r_q, ek2⟩
      have hE := hE.t ek2
      have r_a := r_a.ext ek2
      have r_b := r_b.ext ek2
      have r_p := r_p.ext ek2
      clear ek2
      have r_p1 : Rd u8v wk2 A1 n a := by
        have h := r_p.take (k := n) (by omega)
        rwa [← r_a.1, List.take_left, r_a.1] at h
      have r_q1 : Rd u8v wk2 A2 n' b := by
        have h := r_q.take (k := n') (by omega)
        rwa [← r_b.1, List.take_left, r_b.1] at h
      go_wp2_with fail
      refine (num_Read A1 n c1 a at_ _ r_p1 Ha.out (by simp only [maxLen]; omega)).mono ?_
      rw [H1.out]; unfold rets
      rintro e wy3 ⟨rfl, rfl⟩
      go_wp2_with fail
      refine (ref_Read A n c a at_ _ r_a Ha.out Hc1.out Hc3.out).mono ?_
      rw [H1.out]; unfold rets
      rintro e wk4 ⟨rfl, ek4⟩
      have hE := hE.t ek4
      have r_a := r_a.ext ek4
      have r_b := r_b.ext ek4
      have r_p := r_p.ext ek4
      have r_q := r_q.ext ek4
      have r_p1 := r_p1.ext ek4
      have r_q1 := r_q1.ext ek4
      clear ek4
      go_wp2_with fail
      refine (num_Last A1 n c1 a _ r_p1 Ha.out (by simp only [maxLen]; omega)).mono ?_
      rw [H2.out]; unfold rets
      rintro e wy5 ⟨rfl, rfl⟩
      go_wp2_with fail
      refine (ref_Last A n c a _ r_a Ha.out Hc1.out Hc3.out).mono ?_
      rw [H2.out]; unfold rets
      rintro e wk6 ⟨rfl, ek6⟩
      have hE := hE.t ek6
      have r_a := r_a.ext ek6
      have r_b := r_b.ext ek6
      have r_p := r_p.ext ek6
      have r_q := r_q.ext ek6
      have r_p1 := r_p1.ext ek6
      have r_q1 := r_q1.ext ek6
      clear ek6
      go_wp2_with fail
      refine (num_Int A1 n c1 a at_ least most _ r_p1 Ha.out (by simp only [maxLen]; omega) Hle.out.1 Hle.out.2 Hmo.out.1 Hmo.out.2).mono ?_
      rw [H3.out]; unfold irets
      rintro e wy7 ⟨rfl, rfl⟩
      go_wp2_with fail
      refine (ref_Int A n c a at_ least most _ r_a Ha.out Hc1.out Hc3.out Hle.out.1 Hle.out.2 Hmo.out.1 Hmo.out.2).mono ?_
      rw [H3.out]; unfold irets
      rintro e wk8 ⟨rfl, ek8⟩
      have hE := hE.t ek8
      have r_a := r_a.ext ek8
      have r_b := r_b.ext ek8
      have r_p := r_p.ext ek8
      have r_q := r_q.ext ek8
      have r_p1 := r_p1.ext ek8
      have r_q1 := r_q1.ext ek8
      clear ek8
      go_wp2_with fail
      refine (num_Split A1 n c1 a _ r_p1 Ha.out (by omega)).mono ?_
      rw [H4.out]
      rintro e wk9 ⟨A3, n3, c3, rfl, r_s, ek9⟩
      have hE := hE.t ek9
      have r_a := r_a.ext ek9
      have r_b := r_b.ext ek9
      have r_p := r_p.ext ek9
      have r_q := r_q.ext ek9
      have r_p1 := r_p1.ext ek9
      have r_q1 := r_q1.ext ek9
      clear ek9
      go_wp2_with fail
      refine (ref_Split A n c a _ r_a Ha.out Hc1.out Hc3.out (by omega)).mono ?_
      rw [H4.out]
      rintro e wk10 ⟨A4, n4, c4, rfl, r_t, ek10⟩
      have hE := hE.t ek10
      have r_a := r_a.ext ek10
      have r_b := r_b.ext ek10
      have r_p := r_p.ext ek10
      have r_q := r_q.ext ek10
      have r_p1 := r_p1.ext ek10
      have r_q1 := r_q1.ext ek10
      have r_s := r_s.ext ek10
      clear ek10
      go_wp2_with fail
      refine (num_Compare _ _ _ _ c1 c2 _ _ _ r_p1 r_q1 Ha.out Hb.out (by simp only [maxLen]; omega) (by simp only [maxLen]; omega)).mono ?_
      rw [H5.out]; unfold crets
      rintro e wy11 ⟨rfl, rfl⟩
      go_wp2_with fail
      refine (ref_Compare _ _ _ _ c c' _ _ _ r_a r_b Ha.out Hb.out Hc1.out Hc3.out Hc2.out Hc4.out).mono ?_
      rw [H5.out]; unfold crets
      rintro e wk12 ⟨rfl, ek12⟩
      have hE := hE.t ek12
      have r_a := r_a.ext ek12
      have r_b := r_b.ext ek12
      have r_p := r_p.ext ek12
      have r_q := r_q.ext ek12
      have r_p1 := r_p1.ext ek12
      have r_q1 := r_q1.ext ek12
      have r_s := r_s.ext ek12
      have r_t := r_t.ext ek12
      clear ek12
      have hs3 : n3 ≤ maxLen := by have h1 := Num.split_len a; rw [H4.out, r_s.1, r_a.1] at h1; simp only [maxLen]; omega
      have hs4 : n4 ≤ maxLen := by have h1 := Num.split_len a; rw [H4.out, r_t.1, r_a.1] at h1; simp only [maxLen]; omega
      go_wp2_with fail
      refine (sameNums _ _ _ _ _ _ _ _ _ r_s r_t hs3 hs4).mono ?_
      rintro e wk13 ⟨rfl, ek13⟩
      have hE := hE.t ek13
      have r_a := r_a.ext ek13
      have r_b := r_b.ext ek13
      have r_p := r_p.ext ek13
      have r_q := r_q.ext ek13
      have r_p1 := r_p1.ext ek13
      have r_q1 := r_q1.ext ek13
      have r_s := r_s.ext ek13
      have r_t := r_t.ext ek13
      clear ek13
      go_wp2_with fail
      refine (keptBytes A1 A n c1 c a _ r_p r_a hc1 (by omega) hm1).mono ?_
      rintro e wk14 ⟨rfl, ek14⟩
      have hE := hE.t ek14
      have r_a := r_a.ext ek14
      have r_b := r_b.ext ek14
      have r_p := r_p.ext ek14
      have r_q := r_q.ext ek14
      have r_p1 := r_p1.ext ek14
      have r_q1 := r_q1.ext ek14
      have r_s := r_s.ext ek14
      have r_t := r_t.ext ek14
      clear ek14
      go_wp2_with fail
      refine (keptBytes A2 A' n' c2 c' b _ r_q r_b hc2 (by omega) hm2).mono ?_
      rintro e wk15 ⟨rfl, ek15⟩
      have hE := hE.t ek15
      have r_a := r_a.ext ek15
      have r_b := r_b.ext ek15
      have r_p := r_p.ext ek15
      have r_q := r_q.ext ek15
      have r_p1 := r_p1.ext ek15
      have r_q1 := r_q1.ext ek15
      have r_s := r_s.ext ek15
      have r_t := r_t.ext ek15
      clear ek15
      go_wp2_with fail
      go_ret
      exact ⟨rfl, hE⟩

set_option maxRecDepth 100000 in
theorem walkNumReads (A : Option Addr) (n c : Nat) (a : List Nat) (A' : Option Addr) (n' c' : Nat) (b : List Nat) (at_ least most : Int) (w : World) (hA : Arg .u8 256 w A n c a) (hB : Arg .u8 256 w A' n' c' b)
    (hat : (Lit.int .i64 at_).wf = true) (hl : (Lit.int .i64 least).wf = true) (hm : (Lit.int .i64 most).wf = true) :
    Calls Try.prog 7 #[.slice A n c, .slice A' n' c', .int .i64 at_, .int .i64 least, .int .i64 most] w fun e w' => e = .returned (.bool true) ∧ Below w.heap.size w w' := by
  have HW := Lib.hid (reads_ A n c a A' n' c' b at_ least most w (bounds_i64 hat) (bounds_i64 hl) (bounds_i64 hm) hA hB)
  clear hA hB hat hl hm
  go_enter Try.func7, Try.ntmps7
  have hE := Ext.refl w
  go_wp2_with fail
  refine (HW.out).mono ?_
  rintro e wk16 ⟨rfl, ek16⟩
  have hE := hE.t ek16
  clear ek16
  go_wp2_with fail
  refine (awake _).mono ?_
  rintro e wk17 ⟨rfl, ek17⟩
  have hE := hE.t ek17
  clear ek17
  go_wp2_with fail
  go_ret
  exact ⟨rfl, hE⟩
end Go.Proofs.Ytidjimkhppfjjaa
