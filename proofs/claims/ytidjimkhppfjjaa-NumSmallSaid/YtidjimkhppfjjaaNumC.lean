/- The contract of num.Compare. -/
import Derived.Test.YtidjimkhppfjjaaNumI
import Derived.Test.YtidjimkhppfjjaaByt
namespace Go.Fx.Num
theorem last_lt (b : List Nat) (h : ∀ d ∈ b, d < 256) : (last b).1 < 18446744073709551616 := by
  have := (readF_lt b h).1
  unfold last
  split
  · simp
  · split
    · simp
    · exact this
end Go.Fx.Num
namespace Go.Proofs.Ytidjimkhppfjjaa
open Go.RowKit Go.Fx
def crets (r : Int × Nat) : Ending := .returned (.tuple #[.int .i64 r.1, .int .i64 (r.2 : Int)])
set_option maxHeartbeats 1000000 in
theorem num_Compare (A A' : Option Addr) (n n' c c' : Nat) (a b : List Nat) (w : World) (h : Rd u8v w A n a) (h' : Rd u8v w A' n' b) (ha : ∀ d ∈ a, d < 256) (hb : ∀ d ∈ b, d < 256) (hn : n ≤ maxLen) (hn' : n' ≤ maxLen) :
    Calls Try.prog 26 #[.slice A n c, .slice A' n' c'] w fun e w' => e = crets (Num.compare a b) ∧ w = w' := by
  have H1 := Lib.hid (num_Last A n c a w h ha hn)
  have H2 := Lib.hid (num_Last A' n' c' b w h' hb hn')
  unfold Num.compare Num.cmpN
  generalize Num.last a = r at *
  generalize Num.last b = s at *
  obtain ⟨x, m, e⟩ := r
  obtain ⟨y, m', e'⟩ := s
  simp only
  have H3 := Lib.hid (cmp_Compare x y w)
  clear h h' ha hb hn hn'
  unfold rets at H1 H2
  simp only at H1 H2
  by_cases he : e = 0
  · subst he
    have he1 : (((0 : Nat) : Int) != 0) = false := by simp
    rw [if_neg (by simp)]
    by_cases he' : e' = 0
    · subst he'
      rw [if_neg (by simp)]
      generalize (if x < y then (-1 : Int) else if y < x then 1 else 0) = d at *
      go_enter Try.func26, Try.ntmps26
      go_wp2_with fail
      refine H1.out.mono ?_; rintro e w1 ⟨rfl, rfl⟩
      go_wp2_with fail
      refine H2.out.mono ?_; rintro e w1 ⟨rfl, rfl⟩
      go_wp2_with fail
      refine H3.out.mono ?_; rintro e w1 ⟨rfl, rfl⟩
      go_wp2_with fail
      go_ret2
      exact ⟨rfl, rfl⟩
    · have he2 : ((e' : Int) != 0) = true := by simp; omega
      rw [if_pos he']
      go_enter Try.func26, Try.ntmps26
      go_wp2_with fail
      refine H1.out.mono ?_; rintro e w1 ⟨rfl, rfl⟩
      go_wp2_with fail
      refine H2.out.mono ?_; rintro e w1 ⟨rfl, rfl⟩
      go_wp2_with fail
      go_ret2
      exact ⟨rfl, rfl⟩
  · have he2 : ((e : Int) != 0) = true := by simp; omega
    rw [if_pos he]
    go_enter Try.func26, Try.ntmps26
    go_wp2_with fail
    refine H1.out.mono ?_; rintro e w1 ⟨rfl, rfl⟩
    go_wp2_with fail
    go_ret2
    exact ⟨rfl, rfl⟩
end Go.Proofs.Ytidjimkhppfjjaa
