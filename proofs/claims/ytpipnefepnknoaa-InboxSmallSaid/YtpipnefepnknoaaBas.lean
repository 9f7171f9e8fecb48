/- The contracts of bytes.Equal, bytes.Clone and of comparing lists of frames. -/
import Derived.Test.YtpipnefepnknoaaChg
import Derived.Test.YtpipnefepnknoaaStr
import Derived.Lib.SliceRun
import Derived.Lib.SlBytesConst
namespace Go.Fx
theorem Byts.get {w : World} {ss : List Sl} {xss : List (List Nat)} (h : Byts w ss xss) {i : Nat} (hi : i < ss.length) : ∃ s xs, ss[i]? = some s ∧ xss[i]? = some xs ∧ Byt w s xs := by
  obtain ⟨xs, h1, h2⟩ := h.at_ i ss[i] (List.getElem?_eq_getElem hi)
  exact ⟨_, xs, List.getElem?_eq_getElem hi, h1, h2⟩
theorem ne_of_get {α : Type} {xs ys : List α} {k : Nat} {a b : α} (hx : xs[k]? = some a) (hy : ys[k]? = some b) (h : a ≠ b) : xs ≠ ys := by
  rintro rfl; rw [hx] at hy; exact h (Option.some.inj hy)
/-- []byte("..") of a constant: the row is marked; its value goes on. -/
theorem run_convert_same {P : Program} {w : World} {g : Nat} {t e : TypeId} {C : Array Value} (n c : Nat) (h : Blk w g e C) (ht : P.underlying t = some (.slice e)) (he : P.underlying e = some (.int .u8)) :
    ∃ w', (convert t t (.slice (some ⟨g, 0, none⟩) n c)).run P w = .ok (.slice (some ⟨g, 0, none⟩) n c) w' ∧ Chg (fun k => k = g) w w' := by
  have hsh : w.shape? g = some (e, C.size) := by
    unfold World.shape?
    unfold Blk at h
    rw [h]
  refine ⟨w.freeze ⟨g, C.size, none⟩ 1, ?_, ?_⟩
  · simp [convert, run_underlying ht, run_underlying he, markStringish, hsh]
  · unfold World.freeze
    rw [if_neg (by decide)]
    exact ⟨rfl, rfl, rfl, by simp, fun k _ hk => by simp only [Array.getElem?_modify]; rw [if_neg (fun e => hk e.symm)]⟩
end Go.Fx
namespace Go.Proofs.Ytpipnefepnknoaa
open Go.RowKit Go.Fx
abbrev u8v (n : Nat) : Value := .int .u8 (n : Int)
theorem ul_u8 : Try.prog.underlying 29 = some (.slice 5) := Try.underlying29
theorem info_u8 : (Try.prog.info? 5).map (fun i => (i.zero, i.size, i.bytes)) = some (some (.int .u8 0), 1, 1) := by kernel_rfl
theorem ul_bb : Try.prog.underlying 25 = some (.slice 29) := Try.underlying25
theorem info_bb : (Try.prog.info? 29).map (fun i => (i.zero, i.size, i.bytes)) = some (some (.slice none 0 0), 1, 24) := by kernel_rfl

set_option maxHeartbeats 400000 in
theorem bytes_Equal (A A' : Option Addr) (n n' c c' : Nat) (xs ys : List Nat) (w : World) (h : Rd u8v w A n xs) (h' : Rd u8v w A' n' ys) (hx : ∀ x ∈ xs, x < 256) (hy : ∀ y ∈ ys, y < 256) :
    Calls Try.prog 22 #[.slice A n c, .slice A' n' c'] w fun e w' => e = .returned (.bool (decide (xs = ys))) ∧ w = w' := by
  have h1 := conv_bytes (P := Try.prog) (c := c) h _ _ Try.underlying29 Try.underlying5 _ Try.underlying9
  have h2 := conv_bytes (P := Try.prog) (c := c') h' _ _ Try.underlying29 Try.underlying5 _ Try.underlying9
  have he := Lib.hid (str_eq hx hy)
  clear h h' hx hy
  generalize strOfNums (xs.map fun x : Nat => (x : Int)) = s at *
  generalize strOfNums (ys.map fun x : Nat => (x : Int)) = s' at *
  go_enter Try.func22, Try.ntmps22
  go_wp2
  go_ret
  refine ⟨ret_bool ?_, rfl⟩
  rw [Bool.eq_iff_iff, decide_eq_true_iff, ← he.out, beq_iff_eq, Lib.toList_data, Lib.toList_data]
  constructor
  · intro h
    obtain ⟨⟨l⟩⟩ := s
    obtain ⟨⟨l'⟩⟩ := s'
    simpa using h
  · rintro rfl; rfl

/-- What bytes.Clone leaves. -/
structure Cloned (w : World) (xs : List Nat) (n : Nat) (s : Sl) (w' : World) : Prop where
  n_ : s.n = n
  byt : Byt w' s xs
  ext : Ext w w'
  new : ∀ k, foot s.A s.c k → w.heap.size ≤ k
set_option maxHeartbeats 400000 in
theorem bytes_Clone (A : Option Addr) (n c : Nat) (xs : List Nat) (w : World) (h : Rd u8v w A n xs) (hx : ∀ x ∈ xs, x < 256) (hn : n ≤ 1000000000000) :
    Calls Try.prog 27 #[.slice A n c] w fun e w' => ∃ s : Sl, e = .returned (slv s) ∧ Cloned w xs n s w' := by
  cases A with
  | none =>
    have hn0 : n = 0 := by
      rcases Nat.eq_zero_or_pos n with h0 | h0
      · exact h0
      · obtain ⟨b, o, e⟩ := h.some_ h0; cases e
    subst hn0
    obtain rfl : xs = [] := List.eq_nil_of_length_eq_zero h.1
    have hq := fun w' => Lib.run_eql_slice_nil (P := Try.prog) w' 29 5 none 0 c 0 0 ul_u8
    simp only [Option.isNone_none] at hq
    clear h hx
    go_enter Try.func27, Try.ntmps27
    go_wp2
    go_ret
    exact ⟨⟨none, 0, 0⟩, rfl, rfl, ⟨Room.nil, by simp⟩, Ext.refl _, fun k hk => absurd hk foot_none⟩
  | some a =>
    have hq := fun w' => Lib.run_eql_slice_nil (P := Try.prog) w' 29 5 (some a) n c 0 0 ul_u8
    simp only [Option.isNone_some] at hq
    go_enter Try.func27, Try.ntmps27
    go_wp2_with (refine wpl_build (by rfl) rfl ul_u8 info_u8 [] (by rfl) (by rfl) (by decide) (f := u8v) [] (by rfl) (fun _ => rfl) ?_)
    intro g w1 b1 e1 lo1 _; refine Lib.hid ?_
    have own0 : Room w1 (some ⟨g, 0, none⟩) 0 0 [] := Room.zero
    go_wp2_with (refine wpl_append_at (by rfl) rfl ul_u8 info_u8 rfl rfl own0 rfl (Src.ofRd ul_u8 (h.ext e1) (fun _ => rfl)) (by simp only [maxLen]; omega) (by omega) ?_)
    intro A2 c2 w2 r2 ch2 ft2; refine Lib.hid ?_
    try simp only [Nat.zero_add, List.nil_append] at r2
    have e2 : Ext w1 w2 := (ch2.mono (T' := fun _ => False) (fun k _ hk => foot_zero hk)).ext
    have hnew : ∀ k, foot A2 c2 k → w.heap.size ≤ k := fun k hk => by
      rcases ft2 k hk with h1 | h1
      · exact absurd h1 foot_zero
      · have := e1.size; omega
    go_wp2
    go_ret
    exact ⟨⟨A2, n, c2⟩, rfl, rfl, ⟨r2, hx⟩, e1.t e2, hnew⟩

set_option maxHeartbeats 400000 in
theorem equalFunc (A A' : Option Addr) (n n' c c' : Nat) (ss ts : List Sl) (xss yss : List (List Nat)) (w : World) (h : Rd slv w A n ss) (hb : Byts w ss xss) (h' : Rd slv w A' n' ts) (hb' : Byts w ts yss) (hn : n ≤ maxLen) (hn' : n' ≤ maxLen) :
    Calls Try.prog 31 #[.slice A n c, .slice A' n' c', .func (.func 22) #[] #[]] w fun e w' => e = .returned (.bool (decide (xss = yss))) ∧ w = w' := by
  unfold maxLen at hn hn'
  have Hl := Lib.hid h.1
  have Hl' := Lib.hid h'.1
  have Hb := Lib.hid hb.len
  have Hb' := Lib.hid hb'.len
  by_cases hnn : n = n'
  · subst hnn
    have hne : ((n : Int) != (n : Int)) = false := by simp
    go_enter Try.func31, Try.ntmps31
    go_wp2
    go_loop [17] (fun i => ∃ k : Nat, k ≤ n ∧ i = .int .i64 (k : Int) ∧ Hid (xss.take k = yss.take k)) (fun i => n - (intOf i).toNat)
    case atStart => exact ⟨0, by omega, rfl, Lib.hid (by simp)⟩
    case round =>
      obtain ⟨k, hk, rfl, H⟩ := hrel
      by_cases hlt : k < n
      · have hlt' : (k : Int) < (n : Int) := by omega
        obtain ⟨b1, o1, s, rfl, _, hs, hc1⟩ := h.at_ hlt
        obtain ⟨b2, o2, t, rfl, _, ht, hc2⟩ := h'.at_ hlt
        obtain ⟨xs, hxs, bx⟩ := hb.at_ k s hs
        obtain ⟨ys, hys, bt⟩ := hb'.at_ k t ht
        have HE := Lib.hid (bytes_Equal s.A t.A s.n t.n s.c t.c xs ys w bx.rd bt.rd bx.lt bt.lt)
        have Hxs := Lib.hid hxs
        have Hys := Lib.hid hys
        clear hxs hys bx bt hs ht
        unfold slv at hc1 hc2
        by_cases hxy : xs = ys
        · have hd : decide (xs = ys) = true := by simpa using hxy
          rw [hd] at HE
          subst hxy
          clear hd
          go_wp2_with fail
          refine HE.out.mono ?_; rintro e w1 ⟨rfl, rfl⟩
          go_wp2_with fail
          go_round
          case rel => exact ⟨k + 1, by omega, by go_num, Lib.hid (by rw [take_snoc Hxs.out, take_snoc Hys.out, H.out])⟩
          case measure => simp [intOf]; omega
        · have hd : decide (xs = ys) = false := by simpa using hxy
          rw [hd] at HE
          have Hxy := Lib.hid hxy
          clear hd hxy
          go_wp2_with fail
          refine HE.out.mono ?_; rintro e w1 ⟨rfl, rfl⟩
          go_wp2_with fail
          go_ret
          exact ⟨ret_bool (by symm; simpa using ne_of_get Hxs.out Hys.out Hxy.out), rfl⟩
      · obtain rfl : k = n := by omega
        go_wp2
        go_ret
        refine ⟨ret_bool ?_, rfl⟩
        have := H.out
        rw [List.take_of_length_le (by rw [← Hb.out, Hl.out]; omega), List.take_of_length_le (by rw [← Hb'.out, Hl'.out]; omega)] at this
        simpa using this
  · have hne : ((n : Int) != (n' : Int)) = true := by simp; omega
    go_enter Try.func31, Try.ntmps31
    go_wp2
    go_ret
    refine ⟨ret_bool ?_, rfl⟩
    symm
    simp only [decide_eq_false_iff_not]
    rintro rfl
    have h1 := Hl.out; have h2 := Hl'.out; have h3 := Hb.out; have h4 := Hb'.out
    omega
theorem frames_ (A A' : Option Addr) (n n' c c' : Nat) (ss ts : List Sl) (xss yss : List (List Nat)) (w : World) (h : Rd slv w A n ss) (hb : Byts w ss xss) (h' : Rd slv w A' n' ts) (hb' : Byts w ts yss) (hn : n ≤ maxLen) (hn' : n' ≤ maxLen) :
    Calls Try.prog 20 #[.slice A n c, .slice A' n' c'] w fun e w' => e = .returned (.bool (decide (xss = yss))) ∧ w = w' := by
  have HE := Lib.hid (equalFunc A A' n n' c c' ss ts xss yss w h hb h' hb' hn hn')
  clear h hb h' hb' hn hn'
  generalize decide (xss = yss) = d at *
  go_enter Try.func20, Try.ntmps20
  go_wp2_with fail
  refine HE.out.mono ?_; rintro e w1 ⟨rfl, rfl⟩
  go_wp2_with fail
  go_ret
  exact ⟨rfl, rfl⟩
end Go.Proofs.Ytpipnefepnknoaa
