/- The reference answer's Last, Int, Split and Compare. -/
import Derived.Test.YtidjimkhppfjjaaRefR
import Derived.Test.YtidjimkhppfjjaaNumC
namespace Go.Proofs.Ytidjimkhppfjjaa
open Go.RowKit Go.Fx
set_option maxRecDepth 100000 in
set_option maxHeartbeats 1000000 in
theorem ref_Last (A : Option Addr) (n c : Nat) (b : List Nat) (w : World) (h : Rd u8v w A n b) (hb : ∀ d ∈ b, d < 256) (hn : n ≤ c) (hcm : c ≤ maxLen) :
    Calls Try.prog 36 #[.slice A n c] w fun e w' => e = rets (Num.last b) ∧ Ext w w' := by
  have hl := h.1
  have HR := Lib.hid (ref_Read A n c b 0 w h hb hn hcm)
  have hr : Num.readAt b 0 = Num.readF b := by unfold Num.readAt; rw [if_neg (by omega)]; simp
  have Hsz := Lib.hid (Num.readF_size b)
  have Hz : Hid ((Num.readF b).2.2 ≠ 0 → (Num.readF b).1 = 0 ∧ (Num.readF b).2.1 = 0) := Lib.hid (by
    cases b with
    | nil => simp [Num.readF]
    | cons c rest =>
      simp only [Num.readF]
      split
      · simp
      · split
        · simp
        · split
          · simp
          · unfold Num.readTail; split <;> simp)
  rw [hr] at HR
  clear hr
  unfold Num.last
  generalize Num.readF b = r at *
  obtain ⟨x, m, e⟩ := r
  unfold maxLen at hcm
  simp only [hl] at HR Hsz Hz ⊢
  unfold rets at HR ⊢
  simp only at HR
  clear h hb hl
  by_cases he : e = 0
  · subst he
    have h1 : (((0 : Nat) : Int) == 0) = true := by simp
    rw [if_neg (by simp)]
    have hm := Hsz.out rfl
    by_cases hmn : m < n
    · rw [if_pos hmn]
      have h2 : ((m : Int) != (n : Int)) = true := by simp; omega
      go_enter Try.func36, Try.ntmps36
      go_wp2_with fail
      refine HR.out.mono ?_; rintro e w1 ⟨rfl, e1⟩
      go_wp2_with fail
      go_ret3
      exact ⟨rfl, e1⟩
    · rw [if_neg hmn]
      have h2 : ((m : Int) != (n : Int)) = false := by simp; omega
      go_enter Try.func36, Try.ntmps36
      go_wp2_with fail
      refine HR.out.mono ?_; rintro e w1 ⟨rfl, e1⟩
      go_wp2_with fail
      go_ret3
      exact ⟨rfl, e1⟩
  · have h1 : ((e : Int) == 0) = false := by simp; omega
    rw [if_pos he]
    obtain ⟨rfl, rfl⟩ := Hz.out he
    go_enter Try.func36, Try.ntmps36
    go_wp2_with fail
    refine HR.out.mono ?_; rintro e w1 ⟨rfl, e1⟩
    go_wp2_with fail
    go_ret3
    exact ⟨rfl, e1⟩

set_option maxRecDepth 100000 in
set_option maxHeartbeats 1000000 in
theorem ref_Int (A : Option Addr) (n c : Nat) (b : List Nat) (at_ least most : Int) (w : World) (h : Rd u8v w A n b) (hb : ∀ d ∈ b, d < 256) (hn : n ≤ c) (hcm : c ≤ maxLen)
    (hl1 : -9223372036854775808 ≤ least) (hl2 : least ≤ 9223372036854775807) (hm1 : -9223372036854775808 ≤ most) (hm2 : most ≤ 9223372036854775807) :
    Calls Try.prog 37 #[.slice A n c, .int .i64 at_, .int .i64 least, .int .i64 most] w fun e w' => e = irets (Num.intAt b at_ least most) ∧ Ext w w' := by
  have hx := (Num.readAt_lt b at_ hb).1
  have HR := Lib.hid (ref_Read A n c b at_ w h hb hn hcm)
  unfold Num.intAt
  generalize Num.readAt b at_ = r at *
  obtain ⟨x, m, e⟩ := r
  simp only at hx ⊢
  have hx' : (x : Int) < 18446744073709551616 := by omega
  unfold rets at HR
  simp only at HR
  clear hn hb h hx
  by_cases he : e = 0
  · subst he
    have he' : (((0 : Nat) : Int) != 0) = false := by simp
    rw [if_neg (by simp)]
    rcases (by omega : 9223372036854775807 < (x : Int) ∨ ((x : Int) ≤ 9223372036854775807 ∧ (x : Int) < least) ∨ ((x : Int) ≤ 9223372036854775807 ∧ ¬ (x : Int) < least ∧ most < (x : Int)) ∨ ((x : Int) ≤ 9223372036854775807 ∧ ¬ (x : Int) < least ∧ ¬ most < (x : Int))) with h1 | h1 | h1 | h1
    · rw [if_pos (by omega)]
      go_enter Try.func37, Try.ntmps37
      go_wp2_with fail
      refine HR.out.mono ?_; rintro e w1 ⟨rfl, e1⟩
      go_wp2_with fail
      go_ret3
      exact ⟨rfl, e1⟩
    · rw [if_pos (by omega)]
      obtain ⟨h1, h2⟩ := h1
      have hx2 : IntKind.i64.wrap (x : Int) = (x : Int) := IntWalk.i64_in _ (by omega)
      go_enter Try.func37, Try.ntmps37
      go_wp2_with fail
      refine HR.out.mono ?_; rintro e w1 ⟨rfl, e1⟩
      go_wp2_with fail
      go_ret3
      exact ⟨rfl, e1⟩
    · rw [if_pos (by omega)]
      obtain ⟨h1, h2, h3⟩ := h1
      have hx2 : IntKind.i64.wrap (x : Int) = (x : Int) := IntWalk.i64_in _ (by omega)
      go_enter Try.func37, Try.ntmps37
      go_wp2_with fail
      refine HR.out.mono ?_; rintro e w1 ⟨rfl, e1⟩
      go_wp2_with fail
      go_ret3
      exact ⟨rfl, e1⟩
    · rw [if_neg (by omega)]
      obtain ⟨h1, h2, h3⟩ := h1
      clear hx'
      go_enter Try.func37, Try.ntmps37
      go_wp2_with fail
      refine HR.out.mono ?_; rintro e w1 ⟨rfl, e1⟩
      go_wp2_with fail
      go_ret3
      exact ⟨rfl, e1⟩
  · have he' : ((e : Int) != 0) = true := by simp; omega
    rw [if_pos he]
    go_enter Try.func37, Try.ntmps37
    go_wp2_with fail
    refine HR.out.mono ?_; rintro e w1 ⟨rfl, e1⟩
    go_wp2_with fail
    go_ret3
    exact ⟨rfl, e1⟩

set_option maxRecDepth 100000 in
set_option maxHeartbeats 1000000 in
theorem ref_Compare (A A' : Option Addr) (n n' c c' : Nat) (a b : List Nat) (w : World) (h : Rd u8v w A n a) (h' : Rd u8v w A' n' b) (ha : ∀ d ∈ a, d < 256) (hb : ∀ d ∈ b, d < 256) (hn : n ≤ c) (hcm : c ≤ maxLen) (hn' : n' ≤ c') (hcm' : c' ≤ maxLen) :
    Calls Try.prog 39 #[.slice A n c, .slice A' n' c'] w fun e w' => e = crets (Num.compare a b) ∧ Ext w w' := by
  have H1 := Lib.hid (ref_Last A n c a w h ha hn hcm)
  have H2 := Lib.hid (fun w' (e : Ext w w') => ref_Last A' n' c' b w' (h'.ext e) hb hn' hcm')
  have hl1 := Num.last_lt a ha
  have hl2 := Num.last_lt b hb
  unfold Num.compare Num.cmpN
  generalize Num.last a = r at *
  generalize Num.last b = s at *
  obtain ⟨x, m, e⟩ := r
  obtain ⟨y, m', e'⟩ := s
  simp only at hl1 hl2 ⊢
  clear h h' ha hb hn hn' hcm hcm'
  unfold rets at H1 H2
  simp only at H1 H2
  by_cases he : e = 0
  · subst he
    have he1 : (((0 : Nat) : Int) != 0) = false := by simp
    rw [if_neg (by simp)]
    by_cases he' : e' = 0
    · subst he'
      rw [if_neg (by simp)]
      rcases (by omega : x < y ∨ y < x ∨ x = y) with hxy | hxy | hxy
      · rw [if_pos hxy]
        have h1 : (x : Int) < (y : Int) := by omega
        clear hxy
        go_enter Try.func39, Try.ntmps39
        go_wp2_with fail
        refine H1.out.mono ?_; rintro e w1 ⟨rfl, e1⟩
        go_wp2_with fail
        refine (H2.out w1 e1).mono ?_; rintro e w2 ⟨rfl, e2⟩
        go_wp2_with fail
        go_ret2
        exact ⟨rfl, e1.t e2⟩
      · rw [if_neg (by omega), if_pos hxy]
        have h1 : (y : Int) < (x : Int) := by omega
        clear hxy
        go_enter Try.func39, Try.ntmps39
        go_wp2_with fail
        refine H1.out.mono ?_; rintro e w1 ⟨rfl, e1⟩
        go_wp2_with fail
        refine (H2.out w1 e1).mono ?_; rintro e w2 ⟨rfl, e2⟩
        go_wp2_with fail
        go_ret2
        exact ⟨rfl, e1.t e2⟩
      · subst hxy
        rw [if_neg (by omega), if_neg (by omega)]
        go_enter Try.func39, Try.ntmps39
        go_wp2_with fail
        refine H1.out.mono ?_; rintro e w1 ⟨rfl, e1⟩
        go_wp2_with fail
        refine (H2.out w1 e1).mono ?_; rintro e w2 ⟨rfl, e2⟩
        go_wp2_with fail
        go_ret2
        exact ⟨rfl, e1.t e2⟩
    · have he2 : ((e' : Int) != 0) = true := by simp; omega
      rw [if_pos he']
      go_enter Try.func39, Try.ntmps39
      go_wp2_with fail
      refine H1.out.mono ?_; rintro e w1 ⟨rfl, e1⟩
      go_wp2_with fail
      refine (H2.out w1 e1).mono ?_; rintro e w2 ⟨rfl, e2⟩
      go_wp2_with fail
      go_ret2
      exact ⟨rfl, e1.t e2⟩
  · have he2 : ((e : Int) != 0) = true := by simp; omega
    rw [if_pos he]
    go_enter Try.func39, Try.ntmps39
    go_wp2_with fail
    refine H1.out.mono ?_; rintro e w1 ⟨rfl, e1⟩
    go_wp2_with fail
    go_ret2
    exact ⟨rfl, e1⟩

set_option maxHeartbeats 1000000 in
theorem ref_Split (A : Option Addr) (n c : Nat) (b : List Nat) (w : World) (h : Rd u8v w A n b) (hb : ∀ d ∈ b, d < 256) (hn : n ≤ c) (hcm : c ≤ maxLen) (hn9 : n ≤ 1000000000000) :
    Calls Try.prog 38 #[.slice A n c] w fun e w' => ∃ A' n' c', e = .returned (.tuple #[.slice A' n' c', .int .i64 ((Num.split b).2 : Int)]) ∧ Rd u64v w' A' n' (Num.split b).1 ∧ Below w.heap.size w w' := by
  have Hl := Lib.hid h.1
  have HR := Lib.hid (fun (o : Nat) (W : World) (e : Ext w W) => ref_Read A n c b (o : Int) W (h.ext e) hb hn hcm)
  have HA : Hid (∀ o : Nat, o ≤ n → Num.readAt b (o : Int) = Num.readF (b.drop o)) := Lib.hid (fun o ho => by
    unfold Num.readAt; rw [if_neg (by rw [Hl.out]; omega), Int.toNat_natCast])
  have Hlt := Lib.hid (fun o => (Num.readF_lt (b.drop o) (fun d hd => hb d (List.mem_of_mem_drop hd))).1)
  clear h hb
  unfold maxLen at hcm
  go_enter Try.func38, Try.ntmps38
  go_wp2_with fail
  go_loopw [4, 5] (fun v iv wr => ∃ (o m : Nat) (pre : List Nat) (A1 : Option Addr) (c1 : Nat), o ≤ n ∧ m ≤ o ∧ iv = .int .i64 (o : Int) ∧ v = .slice A1 m c1 ∧
      wr.ownsRow w.heap.size 22 1 (.slice A1 m c1) m (pre.map u64v) ∧ Ext w wr ∧ Hid (Num.split b = Num.behind pre (Num.split (b.drop o)))) (fun _ iv _ => n - (intOf iv).toNat)
  case atStart => exact ⟨0, 0, [], none, 0, by omega, by omega, rfl, rfl, World.ownsRow_nil _ _ _ _, Ext.refl _, Lib.hid (by rw [List.drop_zero, Num.behind_nil _ (Num.split_bad b)])⟩
  case round =>
    obtain ⟨o, m, pre, A1, c1, ho, hmo, rfl, rfl, hown, hE, Hpre⟩ := hrel
    by_cases hlt : o < n
    · have hlt' : (o : Int) < (n : Int) := by omega
      have Hne : Hid (b.drop o ≠ []) := Lib.hid (by intro h'; have := congrArg List.length h'; rw [List.length_drop, Hl.out] at this; simp at this; omega)
      have HRo := Lib.hid (HR.out o wr hE)
      rw [HA.out o ho] at HRo
      have Hlto := Lib.hid (Hlt.out o)
      have Hsz := Lib.hid (Num.readF_size (b.drop o))
      have hdl : (b.drop o).length = n - o := by rw [List.length_drop, Hl.out]
      have Hdl := Lib.hid hdl
      clear hdl
      obtain ⟨r, hr⟩ : ∃ r, Num.readF (b.drop o) = r := ⟨_, rfl⟩
      rw [hr] at HRo Hlto Hsz
      have Hr := Lib.hid hr
      clear hr
      obtain ⟨x, sz, e⟩ := r
      unfold rets at HRo
      simp only at HRo
      by_cases he : e = 0
      · subst he
        have he' : (((0 : Nat) : Int) != 0) = false := by simp
        have hs := Hsz.out rfl
        rw [Hdl.out] at hs
        simp only at hs
        obtain ⟨hs1, hs2⟩ := hs
        go_wp2_with fail
        refine HRo.out.mono ?_; rintro e w1 ⟨rfl, e1⟩
        go_wp2_with (refine wpl_build (by rfl) rfl ul_u64 info_u64 [.tmp 24] (by rfl) (by rfl) (by decide) (f := u64v) [x] (by rfl) (fun _ => rfl) ?_)
        intro g w4 _ e4 _ r4; refine Lib.hid ?_
        go_wp2_with (refine wpl_append (f := u64v) (by rfl) rfl ul_u64 info_u64 rfl rfl (own_ext hown (e1.t e4)) rfl r4 (fun _ => rfl) (by simp only [maxLen]; omega) (by omega) (by have := hE.size; have := e1.size; have := e4.size; omega) ?_)
        intro A5 c5 w5 own5 gr5 _; refine Lib.hid ?_
        have e5 : Below w.heap.size w w5 := ((hE.t e1).t e4).grown gr5 (by have := hE.size; have := e1.size; have := e4.size; omega) (fun k hk => (hown.lt k hk).1)
        clear gr5 hown e4 r4
        go_wp2
        go_roundw
        case rel => exact ⟨o + sz, m + 1, pre ++ [x], A5, c5, by omega, by omega, by go_num, rfl, by simpa using own5, e5, Lib.hid (by rw [Hpre.out, Num.behind_step pre _ Hne.out (by rw [Hr.out]), Hr.out, List.drop_drop])⟩
        case measure => simp [intOf]; omega
      · have he' : ((e : Int) != 0) = true := by simp; omega
        have He := Lib.hid he
        clear he
        go_wp2_with fail
        refine HRo.out.mono ?_; rintro e w1 ⟨rfl, e1⟩
        go_wp2_with fail
        go_ret2
        have hsp : Num.split b = ([], e) := by rw [Hpre.out, Num.behind_err pre _ Hne.out (by rw [Hr.out]; exact He.out), Hr.out]
        rw [hsp]
        exact ⟨_, _, _, rfl, Rd.none_, hE.t e1⟩
    · obtain rfl : o = n := by omega
      go_wp2_with fail
      go_ret2
      have hsp : Num.split b = (pre, 0) := by rw [Hpre.out, List.drop_of_length_le (by rw [Hl.out]; omega), Num.split_nil]; simp [Num.behind]
      rw [hsp]
      exact ⟨_, _, _, rfl, Rd.of_own hown, hE⟩
end Go.Proofs.Ytidjimkhppfjjaa
