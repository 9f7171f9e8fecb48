/- FBas: comparing and copying bytes, and lists of them (seats whose code has slices.Clone[[]byte,byte] and a closure that compares). -/
import Derived.Test.YtippgnbmilnjbaaChg
import Derived.Test.YtippgnbmilnjbaaStr
import Derived.WalkSpells
import Derived.Lib.SliceRun
namespace Go.Fx
theorem Byts.get {w : World} {ss : List Sl} {xss : List (List Nat)} (h : Byts w ss xss) {i : Nat} (hi : i < ss.length) : ∃ s xs, ss[i]? = some s ∧ xss[i]? = some xs ∧ Byt w s xs := by
  obtain ⟨xs, h1, h2⟩ := h.at_ i ss[i] (List.getElem?_eq_getElem hi)
  exact ⟨_, xs, List.getElem?_eq_getElem hi, h1, h2⟩
theorem ne_of_get {α : Type} {xs ys : List α} {k : Nat} {a b : α} (hx : xs[k]? = some a) (hy : ys[k]? = some b) (h : a ≠ b) : xs ≠ ys := by
  rintro rfl; rw [hx] at hy; exact h (Option.some.inj hy)
end Go.Fx
namespace Go.Proofs.Ytippgnbmilnjbaa
open Go.RowKit Go.Fx
abbrev u8v (n : Nat) : Value := .int .u8 (n : Int)
theorem ul_u8 : Try.prog.underlying 23 = some (.slice 5) := Try.underlying23
theorem info_u8 : (Try.prog.info? 5).map (fun i => (i.zero, i.size, i.bytes)) = some (some (.int .u8 0), 1, 1) := by kernel_rfl
theorem ul_bb : Try.prog.underlying 25 = some (.slice 23) := Try.underlying25
theorem info_bb : (Try.prog.info? 23).map (fun i => (i.zero, i.size, i.bytes)) = some (some (.slice none 0 0), 1, 24) := by kernel_rfl

set_option maxHeartbeats 400000 in
theorem bytes_Equal (A A' : Option Addr) (n n' c c' : Nat) (xs ys : List Nat) (w : World) (h : Rd u8v w A n xs) (h' : Rd u8v w A' n' ys) (hx : ∀ x ∈ xs, x < 256) (hy : ∀ y ∈ ys, y < 256) :
    Calls Try.prog 34 #[.slice A n c, .slice A' n' c'] w fun e w' => e = .returned (.bool (decide (xs = ys))) ∧ w = w' := by
  have h1 := conv_bytes (P := Try.prog) (c := c) h _ _ Try.underlying23 Try.underlying5 _ Try.underlying9
  have h2 := conv_bytes (P := Try.prog) (c := c') h' _ _ Try.underlying23 Try.underlying5 _ Try.underlying9
  have he := Lib.hid (str_eq hx hy)
  clear h h' hx hy
  generalize strOfNums (xs.map fun x : Nat => (x : Int)) = s at *
  generalize strOfNums (ys.map fun x : Nat => (x : Int)) = s' at *
  go_enter Try.func34, Try.ntmps34
  go_wp2
  go_ret
  refine ⟨ret_bool ?_, rfl⟩
  rw [Bool.eq_iff_iff, decide_eq_true_iff, ← he.out, beq_iff_eq, Lib.toList_data, Lib.toList_data]
  constructor
  · intro h
    obtain ⟨⟨l⟩⟩ := s
    obtain ⟨⟨l'⟩⟩ := s'
    simpa using h
  · rintro rfl; rfl

/-- What slices.Clone leaves. -/
structure Cloned (w : World) (xs : List Nat) (n : Nat) (s : Sl) (w' : World) : Prop where
  n_ : s.n = n
  byt : Byt w' s xs
  ext : Ext w w'
  new : ∀ k, foot s.A s.c k → w.heap.size ≤ k
set_option maxHeartbeats 400000 in
theorem clone_ (A : Option Addr) (n c : Nat) (xs : List Nat) (w : World) (h : Rd u8v w A n xs) (hx : ∀ x ∈ xs, x < 256) (hn : n ≤ 1000000000000) :
    Calls Try.prog 32 #[.slice A n c] w fun e w' => ∃ s : Sl, e = .returned (slv s) ∧ Cloned w xs n s w' := by
  cases A with
  | none =>
    have hn0 : n = 0 := by
      rcases Nat.eq_zero_or_pos n with h0 | h0
      · exact h0
      · obtain ⟨b, o, e⟩ := h.some_ h0; cases e
    subst hn0
    obtain rfl : xs = [] := List.eq_nil_of_length_eq_zero h.1
    have hq := fun w' => Lib.run_eql_slice_nil (P := Try.prog) w' 23 5 none 0 c 0 0 ul_u8
    simp only [Option.isNone_none] at hq
    clear h hx
    go_enter Try.func32, Try.ntmps32
    go_wp2
    go_ret
    exact ⟨⟨none, 0, 0⟩, rfl, rfl, ⟨Room.nil, by simp⟩, Ext.refl _, fun k hk => absurd hk foot_none⟩
  | some a =>
    have hq := fun w' => Lib.run_eql_slice_nil (P := Try.prog) w' 23 5 (some a) n c 0 0 ul_u8
    simp only [Option.isNone_some] at hq
    go_enter Try.func32, Try.ntmps32
    go_wp2_with (refine wpl_build (by rfl) rfl ul_u8 info_u8 [] (by rfl) (by rfl) (by decide) (f := u8v) [] (by rfl) (fun _ => rfl) ?_)
    intro g w1 b1 e1 lo1 _; refine Lib.hid ?_
    have own0 : Room w1 (some ⟨g, 0, none⟩) 0 0 [] := Room.zero
    go_wp2_with (refine wpl_append_at (by rfl) rfl ul_u8 info_u8 rfl rfl own0 rfl (Src.ofRd ul_u8 (h.ext e1) (fun _ => rfl)) (by simp only [maxLen]; omega) (by omega) ?_)
    intro A2 c2 w2 r2 ch2 ft2; refine Lib.hid ?_
    try simp only [Nat.zero_add, List.nil_append] at r2
    have e2 : Ext w1 w2 := (ch2.mono (T' := fun _ => False) (fun k _ hk => foot_zero hk)).ext
    have hnew : ∀ k, foot A2 c2 k → w.heap.size ≤ k := fun k hk => by
      rcases ft2 k hk with h1 | h1
      · exact absurd h1 foot_zero
      · have := e1.size; omega
    go_wp2
    go_ret
    exact ⟨⟨A2, n, c2⟩, rfl, rfl, ⟨r2, hx⟩, e1.t e2, hnew⟩

/-- A list of slices of bytes that can be read. -/
structure Reads (w : World) (ss : List Sl) (xss : List (List Nat)) : Prop where
  len : ss.length = xss.length
  at_ : ∀ (i : Nat) (s : Sl), ss[i]? = some s → ∃ xs, xss[i]? = some xs ∧ Rd u8v w s.A s.n xs ∧ ∀ x ∈ xs, x < 256
theorem Reads.of {w : World} {ss : List Sl} {xss : List (List Nat)} (h : Byts w ss xss) : Reads w ss xss :=
  ⟨h.len, fun i s hs => by obtain ⟨xs, h1, h2⟩ := h.at_ i s hs; exact ⟨xs, h1, h2.rd, h2.lt⟩⟩
theorem Reads.nil {w : World} : Reads w [] [] := ⟨rfl, by simp⟩
theorem Reads.ext {w w' : World} {ss : List Sl} {xss : List (List Nat)} (h : Reads w ss xss) (e : Ext w w') : Reads w' ss xss :=
  ⟨h.len, fun i s hs => by obtain ⟨xs, h1, h2, h3⟩ := h.at_ i s hs; exact ⟨xs, h1, h2.ext e, h3⟩⟩
theorem Reads.take {w : World} {ss : List Sl} {xss : List (List Nat)} (h : Reads w ss xss) (k : Nat) : Reads w (ss.take k) (xss.take k) :=
  ⟨by rw [List.length_take, List.length_take, h.len], fun i s hs => by
    rw [List.getElem?_take] at hs ⊢
    split at hs
    · next hi => rw [if_pos hi]; exact h.at_ i s hs
    · cases hs⟩
theorem Reads.drop {w : World} {ss : List Sl} {xss : List (List Nat)} (h : Reads w ss xss) (k : Nat) : Reads w (ss.drop k) (xss.drop k) :=
  ⟨by rw [List.length_drop, List.length_drop, h.len], fun i s hs => by
    rw [List.getElem?_drop] at hs ⊢
    exact h.at_ _ s hs⟩
theorem Reads.snoc {w : World} {ss : List Sl} {xss : List (List Nat)} {s : Sl} {xs : List Nat} (h : Reads w ss xss) (hr : Rd u8v w s.A s.n xs) (hx : ∀ x ∈ xs, x < 256) : Reads w (ss ++ [s]) (xss ++ [xs]) := by
  refine ⟨by simp [h.len], fun i s' hs => ?_⟩
  by_cases hi : i < ss.length
  · rw [List.getElem?_append_left hi] at hs
    obtain ⟨ys, h1, h2⟩ := h.at_ i s' hs
    exact ⟨ys, by rw [List.getElem?_append_left (by rw [← h.len]; exact hi)]; exact h1, h2⟩
  · rw [List.getElem?_append_right (by omega)] at hs
    obtain ⟨hj, e⟩ := List.getElem?_eq_some_iff.1 hs
    simp at hj
    have : i - ss.length = 0 := by omega
    simp [this] at e
    subst e
    exact ⟨xs, by rw [List.getElem?_append_right (by rw [← h.len]; omega), ← h.len, this]; rfl, hr, hx⟩

theorem equal1 (A A' : Option Addr) (n n' c c' : Nat) (xs ys : List Nat) (w : World) (h : Rd u8v w A n xs) (h' : Rd u8v w A' n' ys) (hx : ∀ x ∈ xs, x < 256) (hy : ∀ y ∈ ys, y < 256) :
    Calls Try.prog 47 #[.slice A n c, .slice A' n' c'] w fun e w' => e = .returned (.bool (decide (xs = ys))) ∧ w = w' := by
  have HE := Lib.hid (bytes_Equal A A' n n' c c' xs ys w h h' hx hy)
  clear h h' hx hy
  generalize decide (xs = ys) = d at *
  go_enter Try.func47, Try.ntmps47
  go_wp2_with fail
  refine HE.out.mono ?_; rintro e w1 ⟨rfl, rfl⟩
  go_wp2_with fail
  go_ret
  exact ⟨rfl, rfl⟩
set_option maxHeartbeats 400000 in
theorem equalFuncR (A A' : Option Addr) (n n' c c' : Nat) (ss ts : List Sl) (xss yss : List (List Nat)) (w : World) (h : Rd slv w A n ss) (hb : Reads w ss xss) (h' : Rd slv w A' n' ts) (hb' : Reads w ts yss) (hn : n ≤ maxLen) (hn' : n' ≤ maxLen) :
    Calls Try.prog 46 #[.slice A n c, .slice A' n' c', .func (.func 47) #[] #[]] w fun e w' => e = .returned (.bool (decide (xss = yss))) ∧ w = w' := by
  unfold maxLen at hn hn'
  have Hl := Lib.hid h.1
  have Hl' := Lib.hid h'.1
  have Hb := Lib.hid hb.len
  have Hb' := Lib.hid hb'.len
  by_cases hnn : n = n'
  · subst hnn
    have hne : ((n : Int) != (n : Int)) = false := by simp
    go_enter Try.func46, Try.ntmps46
    go_wp2
    go_loop [17] (fun i => ∃ k : Nat, k ≤ n ∧ i = .int .i64 (k : Int) ∧ Hid (xss.take k = yss.take k)) (fun i => n - (intOf i).toNat)
    case atStart => exact ⟨0, by omega, rfl, Lib.hid (by simp)⟩
    case round =>
      obtain ⟨k, hk, rfl, H⟩ := hrel
      by_cases hlt : k < n
      · have hlt' : (k : Int) < (n : Int) := by omega
        obtain ⟨b1, o1, s, rfl, _, hs, hc1⟩ := h.at_ hlt
        obtain ⟨b2, o2, t, rfl, _, ht, hc2⟩ := h'.at_ hlt
        obtain ⟨xs, hxs, bxr, bxl⟩ := hb.at_ k s hs
        obtain ⟨ys, hys, btr, btl⟩ := hb'.at_ k t ht
        have HE := Lib.hid (equal1 s.A t.A s.n t.n s.c t.c xs ys w bxr btr bxl btl)
        have Hxs := Lib.hid hxs
        have Hys := Lib.hid hys
        clear hxs hys bxr bxl btr btl hs ht
        unfold slv at hc1 hc2
        by_cases hxy : xs = ys
        · have hd : decide (xs = ys) = true := by simpa using hxy
          rw [hd] at HE
          subst hxy
          clear hd
          go_wp2_with fail
          refine HE.out.mono ?_; rintro e w1 ⟨rfl, rfl⟩
          go_wp2_with fail
          go_round
          case rel => exact ⟨k + 1, by omega, by go_num, Lib.hid (by rw [take_snoc Hxs.out, take_snoc Hys.out, H.out])⟩
          case measure => simp [intOf]; omega
        · have hd : decide (xs = ys) = false := by simpa using hxy
          rw [hd] at HE
          have Hxy := Lib.hid hxy
          clear hd hxy
          go_wp2_with fail
          refine HE.out.mono ?_; rintro e w1 ⟨rfl, rfl⟩
          go_wp2_with fail
          go_ret
          exact ⟨ret_bool (by symm; simpa using ne_of_get Hxs.out Hys.out Hxy.out), rfl⟩
      · obtain rfl : k = n := by omega
        go_wp2
        go_ret
        refine ⟨ret_bool ?_, rfl⟩
        have := H.out
        rw [List.take_of_length_le (by rw [← Hb.out, Hl.out]; omega), List.take_of_length_le (by rw [← Hb'.out, Hl'.out]; omega)] at this
        simpa using this
  · have hne : ((n : Int) != (n' : Int)) = true := by simp; omega
    go_enter Try.func46, Try.ntmps46
    go_wp2
    go_ret
    refine ⟨ret_bool ?_, rfl⟩
    symm
    simp only [decide_eq_false_iff_not]
    rintro rfl
    have h1 := Hl.out; have h2 := Hl'.out; have h3 := Hb.out; have h4 := Hb'.out
    omega
theorem equal_ (A A' : Option Addr) (n n' c c' : Nat) (ss ts : List Sl) (xss yss : List (List Nat)) (w : World) (h : Rd slv w A n ss) (hb : Reads w ss xss) (h' : Rd slv w A' n' ts) (hb' : Reads w ts yss) (hn : n ≤ maxLen) (hn' : n' ≤ maxLen) :
    Calls Try.prog 21 #[.slice A n c, .slice A' n' c'] w fun e w' => e = .returned (.bool (decide (xss = yss))) ∧ w = w' := by
  have HE := Lib.hid (equalFuncR A A' n n' c c' ss ts xss yss w h hb h' hb' hn hn')
  clear h hb h' hb' hn hn'
  generalize decide (xss = yss) = d at *
  go_enter Try.func21, Try.ntmps21
  go_wp2_with fail
  refine HE.out.mono ?_; rintro e w1 ⟨rfl, rfl⟩
  go_wp2_with fail
  go_ret
  exact ⟨rfl, rfl⟩
end Go.Proofs.Ytippgnbmilnjbaa
