/- Fwr: the program's Write. -/
import Derived.Test.YtippgnbmilnjbaaFrf
import Derived.Test.YtippgnbmilnjbaaFnum
namespace Go.Fx
open Go.RowKit
theorem len256_2 {n : Nat} (h1 : 246 < n) (h2 : n ≤ 16384) : Num.len256 8 n = if n ≤ 255 then 1 else 2 := by
  rw [Num.len256_pos 7 n (by omega)]
  by_cases h3 : n ≤ 255
  · rw [if_pos h3, show n / 256 = 0 by omega, Num.len256_zero]
  · rw [if_neg h3, Num.len256_pos 6 (n / 256) (by omega), show n / 256 / 256 = 0 by omega, Num.len256_zero]
theorem form_fmF {n : Nat} (h : n ≤ 16384) : Num.form n = fmF n := by
  unfold Num.form fmF
  by_cases h1 : n ≤ 246
  · rw [if_pos h1, if_pos h1]
  · rw [if_neg h1, if_neg h1, len256_2 (by omega) h]
    by_cases h2 : n ≤ 255
    · rw [if_pos h2, if_pos h2]; simp [Num.digs]; omega
    · rw [if_neg h2, if_neg h2]; simp [Num.digs]; omega
end Go.Fx
namespace Go.Proofs.Ytippgnbmilnjbaa
open Go.RowKit Go.Fx
theorem append_len (n : Nat) (w : World) (hn' : n ≤ 16384) :
    Calls Try.prog 43 #[.slice none 0 0, .int .u64 (n : Int)] w fun e w' => ∃ s : Sl, e = .returned (slv s) ∧ Cloned w (fmF n) (fmF n).length s w' := by
  have HF := num_Append w.heap.size (.slice none 0 0) 0 [] none n w Dst.nil (Nat.le_refl _) (by omega) (by omega)
  have hsz : Num.size n = (fmF n).length := by rw [← form_fmF hn', Num.form_length]
  rw [form_fmF hn', hsz] at HF
  refine HF.mono ?_
  rintro e w1 ⟨g, c1, rfl, hown, hgr, hlo⟩
  rw [Nat.zero_add] at hown ⊢
  refine ⟨⟨some ⟨g, 0, none⟩, (fmF n).length, c1⟩, rfl, rfl, ⟨?_, fmF_lt hn'⟩, below_of_grown hgr (Nat.le_refl _) (fun k hk => by cases hk), fun k hk => foot_own hown (k := k) hk⟩
  exact Room.of_own hown
set_option maxHeartbeats 1000000 in
theorem write_ (A : Option Addr) (n c : Nat) (xs : List Nat) (w : World) (h : Rd u8v w A n xs) (hx : ∀ x ∈ xs, x < 256) :
    Calls Try.prog 17 #[.slice A n c] w (WriteP xs w) := by
  have hl := h.1
  by_cases h1 : 16384 < n
  · have h1' : (16384 : Int) < (n : Int) := by omega
    have hf : wrF xs = ([], 3) := by unfold wrF; rw [if_pos (by omega)]
    have Hf := Lib.hid hf
    clear hf h1 h hl
    go_enter Try.func17, Try.ntmps17
    go_wp2
    go_ret2
    exact ⟨⟨none, 0, 0⟩, by rw [Hf.out]; rfl, by rw [Hf.out]; exact cloned_nil w⟩
  · have h1' : ¬ (16384 : Int) < (n : Int) := by omega
    have hf : wrF xs = (fmF n ++ xs, 0) := by unfold wrF; rw [if_neg (by omega)]; unfold frF; rw [hl]
    have Hf := Lib.hid hf
    have hn' : n ≤ 16384 := by omega
    have HF := Lib.hid (append_len n w hn')
    have HR := Lib.hid h
    have Hl := Lib.hid hl
    have Hx := Lib.hid hx
    have Hfl := Lib.hid (fmF_len n)
    have hw : IntKind.u64.wrap (n : Int) = (n : Int) := by rw [IntKind.wrap_u64]; omega
    clear hf h1 h hl hx
    go_enter Try.func17, Try.ntmps17
    go_wp2_with fail
    refine HF.out.mono ?_; rintro e w1 ⟨s, rfl, hcl⟩
    have hsn : s.n ≤ 3 := by rw [hcl.n_]; exact Hfl.out.2
    have Hcl := Lib.hid hcl
    clear hcl
    unfold slv
    go_wp2_with (refine wpl_append_at (by rfl) rfl ul_u8 info_u8 rfl rfl Hcl.out.byt.room rfl (Src.ofRd ul_u8 (HR.out.ext Hcl.out.ext) (fun _ => rfl)) (by simp only [maxLen]; omega) (by omega) ?_)
    intro A2 c2 w2 r2 ch2 ft2; refine Lib.hid ?_
    have Hfin := Lib.hid (cloned_app Hcl.out Hx.out Hl.out r2 ch2 ft2)
    clear r2 ch2 ft2
    go_wp2_with fail
    go_ret2
    exact ⟨⟨A2, s.n + n, c2⟩, by rw [Hf.out]; rfl, by rw [Hf.out]; exact Hfin.out⟩
end Go.Proofs.Ytippgnbmilnjbaa
