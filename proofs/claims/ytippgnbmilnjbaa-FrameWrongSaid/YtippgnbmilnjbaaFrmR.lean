/- FrmR: the program's Read and Need, and the reference's. -/
import Derived.Test.YtippgnbmilnjbaaFrmS
import Derived.Test.YtippgnbmilnjbaaFsl
namespace Go.Fx
open Go.RowKit
theorem sz_head {d : Nat} {r : List Nat} (h : (sz (d :: r)).2.1 ≠ 0) : (sz (d :: r)).2.1 = 1 + (d - 246) := by
  have h2 := hd_of (d :: r)
  generalize sz (d :: r) = u at h2 h
  cases h2 <;> simp at h ⊢ <;> omega
end Go.Fx
namespace Go.Proofs.Ytippgnbmilnjbaa
open Go.RowKit Go.Fx
/-- What Read leaves. -/
def ReadP (xs : List Nat) (w : World) (e : Ending) (w' : World) : Prop := ∃ s : Sl, e = .returned (.tuple #[slv s, .int .i64 ((rdF xs).2.1 : Int), .int .i64 ((rdF xs).2.2 : Int)]) ∧ Cloned w (rdF xs).1 (rdF xs).1.length s w'
theorem cloned_nil (w : World) : Cloned w [] 0 ⟨none, 0, 0⟩ w := ⟨rfl, ⟨Room.nil, by simp⟩, Ext.refl _, fun k hk => absurd hk foot_none⟩
theorem readP_err {xs : List Nat} {w : World} {er : Nat} (h : rdF xs = ([], 0, er)) : ReadP xs w (.returned (.tuple #[.slice none 0 0, .int .i64 0, .int .i64 (er : Int)])) w := by
  refine ⟨⟨none, 0, 0⟩, by rw [h]; rfl, ?_⟩
  rw [h]; exact cloned_nil w
set_option maxRecDepth 100000 in
set_option maxHeartbeats 1000000 in
theorem read_ (A : Option Addr) (n c : Nat) (xs : List Nat) (w : World) (h : Rd u8v w A n xs) (hx : ∀ x ∈ xs, x < 256) (hc : n ≤ c) (hm : c ≤ maxLen) (hn : n ≤ 1000000000000) :
    Calls Try.prog 18 #[.slice A n c] w (ReadP xs w) := by
  have HS := Lib.hid (size_ A n c xs w h hx (by omega))
  unfold Sized at HS
  have hl := h.1
  rcases sz_err xs with h0 | ⟨h0, h1, h2⟩
  · have hp := sz_pos h0
    by_cases h3 : (sz xs).2.1 = 0 ∨ xs.length < (sz xs).1
    · have hF : rdF xs = ([], 0, 30) := by unfold rdF; rw [if_pos h0, if_pos h3]
      have HF := Lib.hid hF
      rw [h0] at HS
      by_cases h4 : (sz xs).2.1 = 0
      · rw [h4] at HS
        have hd : decide (0 < 0) = false := rfl
        rw [hd] at HS
        generalize (sz xs).1 = a at *
        clear h hx h0 hp h3 h4 hF hd hl
        go_enter Try.func18, Try.ntmps18
        go_wp2_with fail
        refine HS.out.mono ?_; rintro e w1 ⟨rfl, rfl⟩
        go_wp2_with fail
        try rw [Exit.noGoto_ret]
        go_ret3
        exact readP_err HF.out
      · have hd : decide (0 < (sz xs).2.1) = true := decide_eq_true (by omega)
        rw [hd] at HS
        have h5 : (n : Int) < ((sz xs).1 : Int) := by omega
        generalize (sz xs).1 = a at *
        clear h hx h0 hp h3 h4 hF hd hl
        go_enter Try.func18, Try.ntmps18
        go_wp2_with fail
        refine HS.out.mono ?_; rintro e w1 ⟨rfl, rfl⟩
        go_wp2_with fail
        try rw [Exit.noGoto_ret]
        go_ret3
        exact readP_err HF.out
    · have h4 : (sz xs).2.1 ≠ 0 := fun h => h3 (.inl h)
      have h5 : (sz xs).1 ≤ xs.length := by omega
      have hF : rdF xs = ((xs.take (sz xs).1).drop (sz xs).2.1, (sz xs).1, 0) := by unfold rdF; rw [if_pos h0, if_neg h3]
      have HF := Lib.hid hF
      have hd : decide (0 < (sz xs).2.1) = true := decide_eq_true (by omega)
      rw [hd, h0] at HS
      have HM : Hid (∀ x ∈ (xs.take (sz xs).1).drop (sz xs).2.1, x < 256) := Lib.hid (fun x hm => hx x (List.mem_of_mem_take (List.mem_of_mem_drop hm)))
      have HL : Hid ((sz xs).1 - (sz xs).2.1 = ((xs.take (sz xs).1).drop (sz xs).2.1).length) := Lib.hid (by rw [List.length_drop, List.length_take]; omega)
      obtain ⟨d, r, rfl⟩ : ∃ d r, xs = d :: r := by
        cases xs with
        | nil => exact absurd rfl h4
        | cons d r => exact ⟨d, r, rfl⟩
      obtain ⟨b, o, y, rfl, _, hy, c0⟩ := h.at_ (k := 0) (by rw [← hl]; simp)
      obtain rfl : d = y := by simpa using hy
      have hd8 : d < 256 := hx d (by simp)
      have hh := sz_head h4
      rw [Nat.add_zero] at c0
      have hnp : 0 < (n : Int) := by rw [← hl, List.length_cons]; omega
      unfold maxLen at hm
      by_cases hs : d < 246
      · have hmx : (d : Int) - 246 < 0 := by omega
        have hh1 : (sz (d :: r)).2.1 = 1 := by omega
        have hle3 : (sz (d :: r)).1 ≤ n := by omega
        have hle4 : 1 ≤ (sz (d :: r)).1 := by omega
        have Hhs := Lib.hid hs
        clear hs
        rw [hh1] at HF HM HL
        have hsl := fun w' => u8_cutI (A := some ⟨b, o, none⟩) (n := n) (c := c) (lo := 1) (hi := (sz (d :: r)).1) (li := 1) w' (by omega) rfl hle4 (by omega)
        have HR : Hid (Rd u8v w (from_ (some ⟨b, o, none⟩) c (1)) ((sz (d :: r)).1 - (1)) (((d :: r).take (sz (d :: r)).1).drop (1))) := Lib.hid (h.cut_ hle4 hle3 hc)
        generalize (sz (d :: r)).1 = a at *
        generalize ((d :: r).take a).drop (1) = body at *
        generalize from_ (some ⟨b, o, none⟩) c (1) = A' at *
        clear hy hF hd h3 h4 h5 hh hh1 hp hx h hl
        go_enter Try.func18, Try.ntmps18
        go_wp2_with fail
        refine HS.out.mono ?_; rintro e w1 ⟨rfl, rfl⟩
        go_wp2_with fail
        refine (clone_ _ _ _ _ _ HR.out HM.out (by omega)).mono ?_; rintro e w2 ⟨s, rfl, hcl⟩
        have Hcl := Lib.hid hcl
        clear hcl
        unfold slv
        go_wp2_with fail
        try rw [Exit.noGoto_ret]
        go_ret3
        refine ⟨s, by rw [HF.out]; rfl, ?_⟩
        rw [HF.out]
        have hcl := Hcl.out
        exact ⟨hcl.n_.trans HL.out, hcl.byt, hcl.ext, hcl.new⟩
      · obtain ⟨D, hD⟩ : ∃ D, d = D + 246 := ⟨d - 246, by omega⟩
        subst hD
        have hmx : ((D + 246 : Nat) : Int) - 246 = (D : Int) := by omega
        have hh1 : (sz ((D + 246) :: r)).2.1 = 1 + D := by omega
        have hle3 : (sz ((D + 246) :: r)).1 ≤ n := by omega
        have hle4 : 1 + D ≤ (sz ((D + 246) :: r)).1 := by omega
        clear hs
        rw [hh1] at HF HM HL
        have hsl := fun w' => u8_cutI (A := some ⟨b, o, none⟩) (n := n) (c := c) (lo := 1 + D) (hi := (sz ((D + 246) :: r)).1) (li := 1 + (D : Int)) w' (by omega) rfl hle4 (by omega)
        have HR : Hid (Rd u8v w (from_ (some ⟨b, o, none⟩) c (1 + D)) ((sz ((D + 246) :: r)).1 - (1 + D)) ((((D + 246) :: r).take (sz ((D + 246) :: r)).1).drop (1 + D))) := Lib.hid (h.cut_ hle4 hle3 hc)
        generalize (sz ((D + 246) :: r)).1 = a at *
        generalize (((D + 246) :: r).take a).drop (1 + D) = body at *
        generalize from_ (some ⟨b, o, none⟩) c (1 + D) = A' at *
        clear hy hF hd h3 h4 h5 hh hh1 hp hx h hl
        go_enter Try.func18, Try.ntmps18
        go_wp2_with fail
        refine HS.out.mono ?_; rintro e w1 ⟨rfl, rfl⟩
        go_wp2_with fail
        refine (clone_ _ _ _ _ _ HR.out HM.out (by omega)).mono ?_; rintro e w2 ⟨s, rfl, hcl⟩
        have Hcl := Lib.hid hcl
        clear hcl
        unfold slv
        go_wp2_with fail
        try rw [Exit.noGoto_ret]
        go_ret3
        refine ⟨s, by rw [HF.out]; rfl, ?_⟩
        rw [HF.out]
        have hcl := Hcl.out
        exact ⟨hcl.n_.trans HL.out, hcl.byt, hcl.ext, hcl.new⟩
  · have hF : rdF xs = ([], 0, 31) := by unfold rdF; rw [if_neg (by omega), h0]
    have HF := Lib.hid hF
    rw [h0, h1, h2] at HS
    clear h hx h0 h1 h2 hF hl
    go_enter Try.func18, Try.ntmps18
    go_wp2_with fail
    refine HS.out.mono ?_; rintro e w1 ⟨rfl, rfl⟩
    go_wp2_with fail
    try rw [Exit.noGoto_ret]
    go_ret3
    exact readP_err HF.out
theorem ret_ii {a b a' b' : Int} (h1 : a = a') (h2 : b = b') : Ending.returned (.tuple #[.int .i64 a, .int .i64 b]) = .returned (.tuple #[.int .i64 a', .int .i64 b']) := by rw [h1, h2]
def NeedP (xs : List Nat) (e : Ending) : Prop := e = .returned (.tuple #[.int .i64 ((ndF xs).1 : Int), .int .i64 ((ndF xs).2 : Int)])
theorem needP_mk {xs : List Nat} {a b : Nat} (h : ndF xs = (a, b)) {a' b' : Int} (h1 : a' = (a : Int)) (h2 : b' = (b : Int)) : NeedP xs (.returned (.tuple #[.int .i64 a', .int .i64 b'])) := by
  subst h1; subst h2; unfold NeedP; rw [h]
set_option maxHeartbeats 1000000 in
theorem need_ (A : Option Addr) (n c : Nat) (xs : List Nat) (w : World) (h : Rd u8v w A n xs) (hx : ∀ x ∈ xs, x < 256) (hm : n ≤ 1000000000000) :
    Calls Try.prog 19 #[.slice A n c] w fun e w' => NeedP xs e ∧ w = w' := by
  have HS := Lib.hid (size_ A n c xs w h hx (by simp only [maxLen]; omega))
  unfold Sized at HS
  have hl := h.1
  rcases sz_err xs with h0 | ⟨h0, h1, h2⟩
  · have hsl := sz_le hx
    have hF : ndF xs = ((sz xs).1 - xs.length, 0) := by unfold ndF; rw [if_pos h0]
    rw [hl] at hF
    have HF := Lib.hid hF
    rw [h0] at HS
    generalize (sz xs).1 = a at *
    clear h hx hF h0 hl
    by_cases h3 : a < n
    · have h3' : (a : Int) - (n : Int) < 0 := by omega
      have H3 := Lib.hid h3
      clear h3
      go_enter Try.func19, Try.ntmps19
      go_wp2_with fail
      refine HS.out.mono ?_; rintro e w1 ⟨rfl, rfl⟩
      go_wp2_with fail
      go_ret2
      exact ⟨needP_mk HF.out (by have := H3.out; omega) rfl, rfl⟩
    · obtain ⟨D, hD⟩ : ∃ D, a = n + D := ⟨a - n, by omega⟩
      have h3' : (a : Int) - (n : Int) = (D : Int) := by omega
      have H3 := Lib.hid hD
      clear h3 hD
      go_enter Try.func19, Try.ntmps19
      go_wp2_with fail
      refine HS.out.mono ?_; rintro e w1 ⟨rfl, rfl⟩
      go_wp2_with fail
      go_ret2
      exact ⟨needP_mk HF.out (by have := H3.out; omega) rfl, rfl⟩
  · have hF : ndF xs = (0, 31) := by unfold ndF; rw [if_neg (by omega), h0]
    have HF := Lib.hid hF
    rw [h0, h1, h2] at HS
    clear h hx hF h0 h1 h2 hl
    go_enter Try.func19, Try.ntmps19
    go_wp2_with fail
    refine HS.out.mono ?_; rintro e w1 ⟨rfl, rfl⟩
    go_wp2_with fail
    go_ret2
    exact ⟨needP_mk HF.out rfl rfl, rfl⟩
set_option maxHeartbeats 1000000 in
theorem rneed_ (A : Option Addr) (n c : Nat) (xs : List Nat) (w : World) (h : Rd u8v w A n xs) (hx : ∀ x ∈ xs, x < 256) (hm : n ≤ 1000000000000) :
    Calls Try.prog 49 #[.slice A n c] w fun e w' => NeedP xs e ∧ Ext w w' := by
  have HS := Lib.hid (least_ A n c xs w h hx)
  unfold Least at HS
  have hl := h.1
  rcases sz_err xs with h0 | ⟨h0, h1, h2⟩
  · have hsl := sz_le hx
    have hF : ndF xs = ((sz xs).1 - xs.length, 0) := by unfold ndF; rw [if_pos h0]
    rw [hl] at hF
    have HF := Lib.hid hF
    rw [h0] at HS
    generalize (sz xs).1 = a at *
    clear h hx hF h0 hl
    by_cases h3 : a < n
    · have h3' : (a : Int) < (n : Int) := by omega
      have H3 := Lib.hid h3
      clear h3
      go_enter Try.func49, Try.ntmps49
      go_wp2_with fail
      refine HS.out.mono ?_; rintro e w1 ⟨rfl, e1⟩
      have E1 := Lib.hid e1
      clear e1
      go_wp2_with fail
      go_ret2
      exact ⟨needP_mk HF.out (by have := H3.out; omega) rfl, E1.out⟩
    · obtain ⟨D, hD⟩ : ∃ D, a = n + D := ⟨a - n, by omega⟩
      have h3' : (a : Int) - (n : Int) = (D : Int) := by omega
      have h3'' : ¬ (a : Int) < (n : Int) := by omega
      have H3 := Lib.hid hD
      clear h3 hD
      go_enter Try.func49, Try.ntmps49
      go_wp2_with fail
      refine HS.out.mono ?_; rintro e w1 ⟨rfl, e1⟩
      have E1 := Lib.hid e1
      clear e1
      go_wp2_with fail
      go_ret2
      exact ⟨needP_mk HF.out (by have := H3.out; omega) rfl, E1.out⟩
  · have hF : ndF xs = (0, 31) := by unfold ndF; rw [if_neg (by omega), h0]
    have HF := Lib.hid hF
    rw [h0, h1, h2] at HS
    clear h hx hF h0 h1 h2 hl
    go_enter Try.func49, Try.ntmps49
    go_wp2_with fail
    refine HS.out.mono ?_; rintro e w1 ⟨rfl, e1⟩
    have E1 := Lib.hid e1
    clear e1
    go_wp2_with fail
    go_ret2
    exact ⟨needP_mk HF.out rfl rfl, E1.out⟩
theorem ReadP.ext {xs : List Nat} {w w1 : World} {e : Ending} {w' : World} (h : ReadP xs w1 e w') (e1 : Ext w w1) : ReadP xs w e w' := by
  obtain ⟨s, h1, h2⟩ := h
  exact ⟨s, h1, h2.n_, h2.byt, e1.t h2.ext, fun k hk => Nat.le_trans e1.size (h2.new k hk)⟩
set_option maxRecDepth 100000 in
set_option maxHeartbeats 1000000 in
theorem rread_ (A : Option Addr) (n c : Nat) (xs : List Nat) (w : World) (h : Rd u8v w A n xs) (hx : ∀ x ∈ xs, x < 256) (hc : n ≤ c) (hn : n ≤ 1000000000000) :
    Calls Try.prog 48 #[.slice A n c] w (ReadP xs w) := by
  have HS := Lib.hid (least_ A n c xs w h hx)
  unfold Least at HS
  have hl := h.1
  rcases sz_err xs with h0 | ⟨h0, h1, h2⟩
  · have hp := sz_pos h0
    by_cases h3 : (sz xs).2.1 = 0 ∨ xs.length < (sz xs).1
    · have hF : rdF xs = ([], 0, 30) := by unfold rdF; rw [if_pos h0, if_pos h3]
      have HF := Lib.hid hF
      rw [h0] at HS
      by_cases h4 : (sz xs).2.1 = 0
      · rw [h4] at HS
        generalize (sz xs).1 = a at *
        clear h hx h0 hp h3 h4 hF hl
        go_enter Try.func48, Try.ntmps48
        go_wp2_with fail
        refine HS.out.mono ?_; rintro e w1 ⟨rfl, e1⟩
        have E1 := Lib.hid e1
        clear e1
        go_wp2_with fail
        go_ret3
        exact (readP_err HF.out).ext E1.out
      · have hd : (((sz xs).2.1 : Int) == 0) = false := by simp; omega
        have h5 : (n : Int) < ((sz xs).1 : Int) := by omega
        generalize (sz xs).1 = a at *
        generalize (sz xs).2.1 = a2 at *
        clear h hx h0 hp h3 h4 hF hl
        go_enter Try.func48, Try.ntmps48
        go_wp2_with fail
        refine HS.out.mono ?_; rintro e w1 ⟨rfl, e1⟩
        have E1 := Lib.hid e1
        clear e1
        go_wp2_with fail
        go_ret3
        exact (readP_err HF.out).ext E1.out
    · have h4 : (sz xs).2.1 ≠ 0 := fun h => h3 (.inl h)
      have h5 : (sz xs).1 ≤ xs.length := by omega
      have hF : rdF xs = ((xs.take (sz xs).1).drop (sz xs).2.1, (sz xs).1, 0) := by unfold rdF; rw [if_pos h0, if_neg h3]
      have HF := Lib.hid hF
      have hd : (((sz xs).2.1 : Int) == 0) = false := by simp; omega
      rw [h0] at HS
      have HM : Hid (∀ x ∈ (xs.take (sz xs).1).drop (sz xs).2.1, x < 256) := Lib.hid (fun x hm => hx x (List.mem_of_mem_take (List.mem_of_mem_drop hm)))
      have HL : Hid ((sz xs).1 - (sz xs).2.1 = ((xs.take (sz xs).1).drop (sz xs).2.1).length) := Lib.hid (by rw [List.length_drop, List.length_take]; omega)
      have hle3 : (sz xs).1 ≤ n := by omega
      have hle4 : (sz xs).2.1 ≤ (sz xs).1 := hp.2.2.1
      have hle5 : ¬ (n : Int) < ((sz xs).1 : Int) := by omega
      have hsl := fun w' => u8_cutI (A := A) (n := n) (c := c) (lo := (sz xs).2.1) (hi := (sz xs).1) w' rfl rfl hle4 (by omega)
      have HR : Hid (Rd u8v w (from_ A c (sz xs).2.1) ((sz xs).1 - (sz xs).2.1) ((xs.take (sz xs).1).drop (sz xs).2.1)) := Lib.hid (h.cut_ hle4 hle3 hc)
      generalize (sz xs).1 = a at *
      generalize (sz xs).2.1 = a2 at *
      generalize (xs.take a).drop a2 = body at *
      generalize from_ A c a2 = A' at *
      clear h hx h0 hp h3 h4 h5 hF hl
      go_enter Try.func48, Try.ntmps48
      go_wp2_with fail
      refine HS.out.mono ?_; rintro e w0 ⟨rfl, e1⟩
      have E1 := Lib.hid e1
      clear e1
      go_wp2_with (refine wpl_build (by rfl) rfl ul_u8 info_u8 [] (by rfl) (by rfl) (by decide) (f := u8v) [] (by rfl) (fun _ => rfl) ?_)
      intro g w1 b1 e1 lo1 _; refine Lib.hid ?_
      have own0 : Room w1 (some ⟨g, 0, none⟩) 0 0 [] := Room.zero
      go_wp2_with (refine wpl_append_at (by rfl) rfl ul_u8 info_u8 rfl rfl own0 rfl (Src.ofRd ul_u8 (HR.out.ext (E1.out.t e1)) (fun _ => rfl)) (by simp only [maxLen]; omega) (by omega) ?_)
      intro A2 c2 w2 r2 ch2 ft2; refine Lib.hid ?_
      have e2 : Ext w1 w2 := (ch2.mono (T' := fun _ => False) (fun k _ hk => foot_zero hk)).ext
      have hcl : Cloned w body body.length ⟨A2, body.length, c2⟩ w2 := by
        refine ⟨rfl, ⟨?_, HM.out⟩, E1.out.t (e1.t e2), fun k hk => ?_⟩
        · have := HL.out
          rw [← this]
          simpa only [Nat.zero_add, List.nil_append] using r2
        · rcases ft2 k hk with h1 | h1
          · exact absurd h1 foot_zero
          · have := e1.size; have := E1.out.size; omega
      have Hcl := Lib.hid hcl
      clear hcl r2 ch2 ft2 e2 own0 b1
      go_wp2
      go_ret3
      refine ⟨⟨A2, body.length, c2⟩, ?_, ?_⟩
      · rw [HF.out, ← HL.out]
        simp only [slv]
        rfl
      · rw [HF.out]; exact Hcl.out
  · have hF : rdF xs = ([], 0, 31) := by unfold rdF; rw [if_neg (by omega), h0]
    have HF := Lib.hid hF
    rw [h0, h1, h2] at HS
    clear h hx h0 h1 h2 hF hl
    go_enter Try.func48, Try.ntmps48
    go_wp2_with fail
    refine HS.out.mono ?_; rintro e w1 ⟨rfl, e1⟩
    have E1 := Lib.hid e1
    clear e1
    go_wp2_with fail
    go_ret3
    exact (readP_err HF.out).ext E1.out
end Go.Proofs.Ytippgnbmilnjbaa
