/- Lists of frames that are read only; what put returns. -/
import Derived.Test.YtpipnefepnknoaaOpenA
import Derived.WalkSpells
namespace Go.Proofs.Ytpipnefepnknoaa
open Go.RowKit Go.Fx
/-- A list of slices of bytes that can be read. -/
structure Reads (w : World) (ss : List Sl) (xss : List (List Nat)) : Prop where
  len : ss.length = xss.length
  at_ : ∀ (i : Nat) (s : Sl), ss[i]? = some s → ∃ xs, xss[i]? = some xs ∧ Rd u8v w s.A s.n xs ∧ ∀ x ∈ xs, x < 256
theorem Reads.of {w : World} {ss : List Sl} {xss : List (List Nat)} (h : Byts w ss xss) : Reads w ss xss :=
  ⟨h.len, fun i s hs => by obtain ⟨xs, h1, h2⟩ := h.at_ i s hs; exact ⟨xs, h1, h2.rd, h2.lt⟩⟩
theorem Reads.nil {w : World} : Reads w [] [] := ⟨rfl, by simp⟩
theorem Reads.ext {w w' : World} {ss : List Sl} {xss : List (List Nat)} (h : Reads w ss xss) (e : Ext w w') : Reads w' ss xss :=
  ⟨h.len, fun i s hs => by obtain ⟨xs, h1, h2, h3⟩ := h.at_ i s hs; exact ⟨xs, h1, h2.ext e, h3⟩⟩
theorem Reads.take {w : World} {ss : List Sl} {xss : List (List Nat)} (h : Reads w ss xss) (k : Nat) : Reads w (ss.take k) (xss.take k) :=
  ⟨by rw [List.length_take, List.length_take, h.len], fun i s hs => by
    rw [List.getElem?_take] at hs ⊢
    split at hs
    · next hi => rw [if_pos hi]; exact h.at_ i s hs
    · cases hs⟩
theorem Reads.drop {w : World} {ss : List Sl} {xss : List (List Nat)} (h : Reads w ss xss) (k : Nat) : Reads w (ss.drop k) (xss.drop k) :=
  ⟨by rw [List.length_drop, List.length_drop, h.len], fun i s hs => by
    rw [List.getElem?_drop] at hs ⊢
    exact h.at_ _ s hs⟩
theorem Reads.snoc {w : World} {ss : List Sl} {xss : List (List Nat)} {s : Sl} {xs : List Nat} (h : Reads w ss xss) (hr : Rd u8v w s.A s.n xs) (hx : ∀ x ∈ xs, x < 256) : Reads w (ss ++ [s]) (xss ++ [xs]) := by
  refine ⟨by simp [h.len], fun i s' hs => ?_⟩
  by_cases hi : i < ss.length
  · rw [List.getElem?_append_left hi] at hs
    obtain ⟨ys, h1, h2⟩ := h.at_ i s' hs
    exact ⟨ys, by rw [List.getElem?_append_left (by rw [← h.len]; exact hi)]; exact h1, h2⟩
  · rw [List.getElem?_append_right (by omega)] at hs
    obtain ⟨hj, e⟩ := List.getElem?_eq_some_iff.1 hs
    simp at hj
    have : i - ss.length = 0 := by omega
    simp [this] at e
    subst e
    exact ⟨xs, by rw [List.getElem?_append_right (by rw [← h.len]; omega), ← h.len, this]; rfl, hr, hx⟩

set_option maxHeartbeats 400000 in
theorem equalFuncR (A A' : Option Addr) (n n' c c' : Nat) (ss ts : List Sl) (xss yss : List (List Nat)) (w : World) (h : Rd slv w A n ss) (hb : Reads w ss xss) (h' : Rd slv w A' n' ts) (hb' : Reads w ts yss) (hn : n ≤ maxLen) (hn' : n' ≤ maxLen) :
    Calls Try.prog 31 #[.slice A n c, .slice A' n' c', .func (.func 22) #[] #[]] w fun e w' => e = .returned (.bool (decide (xss = yss))) ∧ w = w' := by
  unfold maxLen at hn hn'
  have Hl := Lib.hid h.1
  have Hl' := Lib.hid h'.1
  have Hb := Lib.hid hb.len
  have Hb' := Lib.hid hb'.len
  by_cases hnn : n = n'
  · subst hnn
    have hne : ((n : Int) != (n : Int)) = false := by simp
    go_enter Try.func31, Try.ntmps31
    go_wp2
    go_loop [17] (fun i => ∃ k : Nat, k ≤ n ∧ i = .int .i64 (k : Int) ∧ Hid (xss.take k = yss.take k)) (fun i => n - (intOf i).toNat)
    case atStart => exact ⟨0, by omega, rfl, Lib.hid (by simp)⟩
    case round =>
      obtain ⟨k, hk, rfl, H⟩ := hrel
      by_cases hlt : k < n
      · have hlt' : (k : Int) < (n : Int) := by omega
        obtain ⟨b1, o1, s, rfl, _, hs, hc1⟩ := h.at_ hlt
        obtain ⟨b2, o2, t, rfl, _, ht, hc2⟩ := h'.at_ hlt
        obtain ⟨xs, hxs, bxr, bxl⟩ := hb.at_ k s hs
        obtain ⟨ys, hys, btr, btl⟩ := hb'.at_ k t ht
        have HE := Lib.hid (bytes_Equal s.A t.A s.n t.n s.c t.c xs ys w bxr btr bxl btl)
        have Hxs := Lib.hid hxs
        have Hys := Lib.hid hys
        clear hxs hys bxr bxl btr btl hs ht
        unfold slv at hc1 hc2
        by_cases hxy : xs = ys
        · have hd : decide (xs = ys) = true := by simpa using hxy
          rw [hd] at HE
          subst hxy
          clear hd
          go_wp2_with fail
          refine HE.out.mono ?_; rintro e w1 ⟨rfl, rfl⟩
          go_wp2_with fail
          go_round
          case rel => exact ⟨k + 1, by omega, by go_num, Lib.hid (by rw [take_snoc Hxs.out, take_snoc Hys.out, H.out])⟩
          case measure => simp [intOf]; omega
        · have hd : decide (xs = ys) = false := by simpa using hxy
          rw [hd] at HE
          have Hxy := Lib.hid hxy
          clear hd hxy
          go_wp2_with fail
          refine HE.out.mono ?_; rintro e w1 ⟨rfl, rfl⟩
          go_wp2_with fail
          go_ret
          exact ⟨ret_bool (by symm; simpa using ne_of_get Hxs.out Hys.out Hxy.out), rfl⟩
      · obtain rfl : k = n := by omega
        go_wp2
        go_ret
        refine ⟨ret_bool ?_, rfl⟩
        have := H.out
        rw [List.take_of_length_le (by rw [← Hb.out, Hl.out]; omega), List.take_of_length_le (by rw [← Hb'.out, Hl'.out]; omega)] at this
        simpa using this
  · have hne : ((n : Int) != (n' : Int)) = true := by simp; omega
    go_enter Try.func31, Try.ntmps31
    go_wp2
    go_ret
    refine ⟨ret_bool ?_, rfl⟩
    symm
    simp only [decide_eq_false_iff_not]
    rintro rfl
    have h1 := Hl.out; have h2 := Hl'.out; have h3 := Hb.out; have h4 := Hb'.out
    omega
theorem framesR (A A' : Option Addr) (n n' c c' : Nat) (ss ts : List Sl) (xss yss : List (List Nat)) (w : World) (h : Rd slv w A n ss) (hb : Reads w ss xss) (h' : Rd slv w A' n' ts) (hb' : Reads w ts yss) (hn : n ≤ maxLen) (hn' : n' ≤ maxLen) :
    Calls Try.prog 20 #[.slice A n c, .slice A' n' c'] w fun e w' => e = .returned (.bool (decide (xss = yss))) ∧ w = w' := by
  have HE := Lib.hid (equalFuncR A A' n n' c c' ss ts xss yss w h hb h' hb' hn hn')
  clear h hb h' hb' hn hn'
  generalize decide (xss = yss) = d at *
  go_enter Try.func20, Try.ntmps20
  go_wp2_with fail
  refine HE.out.mono ?_; rintro e w1 ⟨rfl, rfl⟩
  go_wp2_with fail
  go_ret
  exact ⟨rfl, rfl⟩

/-- The frames that acts put. -/
def putL (al : List ActN) : List (List Nat) := al.filterMap putOf
theorem putL_snoc (al : List ActN) (a : ActN) : putL (al ++ [a]) = putL al ++ (match putOf a with | none => [] | some f => [f]) := by
  unfold putL
  rw [List.filterMap_append]
  congr 1
  cases h : putOf a <;> simp [h]
structure Puts (w0 w : World) (xss : List (List Nat)) (w' : World) (A : Option Addr) (n c : Nat) (os : List Sl) : Prop where
  len : os.length = n
  room : Room w' A n c (os.map slv)
  reads : Reads w0 os xss
  ext : Ext w w'
  na : ∀ k, foot A c k → w.heap.size ≤ k
def PutsP (w0 w : World) (xss : List (List Nat)) (e : Ending) (w' : World) : Prop := ∃ A n c os, e = .returned (.slice A n c) ∧ Puts w0 w xss w' A n c os

set_option maxRecDepth 100000 in
set_option maxHeartbeats 2000000 in
theorem put_ (A : Option Addr) (n c : Nat) (al : List ActN) (w0 w : World) (hacts : Acts w0 A n al) (he0 : Ext w0 w) (hnc : n ≤ c) (hc : c ≤ maxLen) :
    Calls Try.prog 24 #[.slice A n c] w (PutsP w0 w (putL (al.take 40))) := by
  have He0 := Lib.hid he0
  clear he0
  unfold maxLen at hc
  rcases (by omega : n ≤ 40 ∨ 40 < n) with h40 | h40
  · have h1 : (n : Int) ≤ 40 := by omega
    have h2 : (n : Int) ≤ (c : Int) := by omega
    rw [show al.take 40 = al from List.take_of_length_le (by rw [hacts.len]; omega)]
    have Hacts := Lib.hid hacts
    clear hacts
    go_enter Try.func24, Try.ntmps24
    go_wp2_with fail
    go_loopw [3, 12] (fun v i wr => ∃ (k : Nat) (A' : Option Addr) (n' c' : Nat), k ≤ n ∧ i = .int .i64 (k : Int) ∧ v = .slice A' n' c' ∧ n' ≤ k ∧ Hid (∃ os, Puts w0 w (putL (al.take k)) wr A' n' c' os)) (fun _ i _ => n - (intOf i).toNat)
    case atStart => exact ⟨0, none, 0, 0, by omega, rfl, rfl, by omega, Lib.hid ⟨[], rfl, Room.nil, Reads.nil, Ext.refl _, fun k hk => absurd hk foot_none⟩⟩
    case round =>
      obtain ⟨k, A', n', c', hk, rfl, rfl, hnk, H⟩ := hrel
      by_cases hlt : k < n
      · have hlt' : (k : Int) < (n : Int) := by omega
        obtain ⟨os, hP⟩ := H.out
        obtain ⟨a, ha⟩ : ∃ a, al[k]? = some a := ⟨al[k]'(by rw [Hacts.out.len]; exact hlt), List.getElem?_eq_getElem _⟩
        obtain ⟨b, o, s, rfl, hb, hat⟩ := Hacts.out.at_ k a ha
        have ct := ((He0.out.t hP.ext).cell (p := ⟨b, o + k * 2, none⟩) hb).trans hat.t
        have cf := ((He0.out.t hP.ext).cell (p := ⟨b, o + k * 2 + 1, none⟩) hb).trans hat.f
        have Hv := Lib.hid (hat.v.ext (He0.out.t hP.ext))
        have Hv0 := Lib.hid hat.v
        have hps : putL (al.take (k + 1)) = putL (al.take k) ++ (match putOf a with | none => [] | some f => [f]) := by rw [take_snoc ha, putL_snoc]
        have Hps := Lib.hid hps
        have HP := Lib.hid hP
        clear H hP ha hat hps
        have hq := fun w' => run_neq_slice_nil_any (P := Try.prog) w' 29 5 s.A s.n s.c 0 0 ul_u8
        have he2 := Ext.alloc wr (.cells #[.int .u8 (a.1 : Int), .slice s.A s.n s.c] 47)
        have He2 := Lib.hid he2
        clear he2
        obtain ⟨tt, fr⟩ := a
        simp only at Hv Hv0 Hps ct He2
        have hsame : ∀ (e : putOf (tt, fr) = none), ∃ os, Puts w0 w (putL (al.take (k + 1))) (wr.alloc (.cells #[.int .u8 (tt : Int), .slice s.A s.n s.c] 47)) A' n' c' os := fun e => by
          have h := HP.out
          refine ⟨os, h.len, h.room.ext He2.out, ?_, h.ext.t He2.out, h.na⟩
          rw [Hps.out, e, List.append_nil]
          exact h.reads
        have Hsame := Lib.hid hsame
        clear hsame
        cases fr with
        | none =>
          have hA : s.A = none := Hv.out.1
          rw [hA] at hq cf Hsame
          simp only [Option.isNone_none, Bool.not_true] at hq
          clear hA
          go_wp2_with fail
          go_roundw
          case rel => exact ⟨k + 1, A', n', c', by omega, by go_num, rfl, by omega, Lib.hid (Hsame.out rfl)⟩
          case measure => simp [intOf]; omega
        | some xs =>
          obtain ⟨hA, hrd, hx⟩ := Hv.out
          have hi : s.A.isNone = false := by cases hs : s.A with
            | none => exact absurd hs hA
            | some _ => rfl
          rw [hi] at hq
          simp only [Bool.not_false] at hq
          have hsl := hrd.1
          by_cases hx40 : xs.length ≤ 40
          · have hn40 : (s.n : Int) ≤ 40 := by omega
            have hrm := HP.out.room.ext He2.out
            have Hx40 := Lib.hid hx40
            have Hrd := Lib.hid hrd
            have Hx := Lib.hid hx
            clear hA hrd hx hi hsl hx40
            go_wp2_with (refine wpl_build (by rfl) rfl ul_bb info_bb [.tmp 27] (by rfl) (by rfl) (by decide) (f := slv) [s] (by rfl) (fun _ => rfl) ?_)
            intro g3 w3 b3 e3 lo3 r3; refine Lib.hid ?_
            have hrm3 := hrm.ext e3
            have E3 := Lib.hid (He2.out.t e3)
            have E3' := Lib.hid e3
            clear hrm b3 lo3 e3
            go_wp2_with (refine wpl_append_at (by rfl) rfl ul_bb info_bb rfl rfl hrm3 rfl (Src.ofRd ul_bb r3 (fun _ => rfl)) (by simp only [maxLen]; omega) (by omega) ?_)
            intro A4 c4 w4 r4 ch4 ft4; refine Lib.hid ?_
            have hfin : ∃ os, Puts w0 w (putL (al.take (k + 1))) w4 A4 (n' + 1) c4 os := by
              have h := HP.out
              have hw4 : Below w.heap.size w w4 := ((h.ext.t E3.out)).trans (ch4.below (by have := h.ext.size; have := E3.out.size; omega) (fun k' hk' hk2 => by have := h.na k' hk2; omega))
              refine ⟨os ++ [s], by rw [List.length_append, h.len]; rfl, by rw [List.map_append]; exact r4, ?_, hw4, fun k' hk' => ?_⟩
              · rw [Hps.out]
                have e1 : putOf (tt, some xs) = some xs := by show (if xs.length ≤ 40 then some xs else none) = some xs; rw [if_pos Hx40.out]
                rw [e1]
                exact h.reads.snoc Hv0.out.2.1 Hv0.out.2.2
              · rcases ft4 k' hk' with h1 | h1
                · exact h.na k' h1
                · have := h.ext.size; have := E3.out.size; omega
            have Hfin := Lib.hid hfin
            clear hfin r4 ch4 ft4 hrm3 r3
            go_wp2_with fail
            go_roundw
            case rel => exact ⟨k + 1, A4, n' + 1, c4, by omega, by go_num, rfl, by omega, Hfin⟩
            case measure => simp [intOf]; omega
          · have hn40 : ¬ (s.n : Int) ≤ 40 := by omega
            have He : Hid (putOf (tt, some xs) = none) := Lib.hid (by show (if xs.length ≤ 40 then some xs else none) = none; rw [if_neg hx40])
            clear hA hrd hx hi hsl hx40
            go_wp2_with fail
            go_roundw
            case rel => exact ⟨k + 1, A', n', c', by omega, by go_num, rfl, by omega, Lib.hid (Hsame.out He.out)⟩
            case measure => simp [intOf]; omega
      · obtain rfl : k = n := by omega
        obtain ⟨os, hP⟩ := H.out
        have HP := Lib.hid hP
        clear H hP
        go_wp2_with fail
        go_ret
        have e0 : ∀ j, al.length ≤ j → al.take j = al := fun j h => List.take_of_length_le h
        have hp := HP.out
        rw [e0 _ (by rw [Hacts.out.len]; exact Nat.le_refl _)] at hp
        exact ⟨A', n', c', os, rfl, hp⟩
  · have h1 : (40 : Int) < (n : Int) := by omega
    have h2 : (40 : Int) ≤ (c : Int) := by omega
    have hacts := hacts.take (k := 40) (by omega)
    generalize al.take 40 = al at hacts ⊢
    have Hacts := Lib.hid hacts
    clear hacts
    go_enter Try.func24, Try.ntmps24
    go_wp2_with fail
    go_loopw [3, 12] (fun v i wr => ∃ (k : Nat) (A' : Option Addr) (n' c' : Nat), k ≤ 40 ∧ i = .int .i64 (k : Int) ∧ v = .slice A' n' c' ∧ n' ≤ k ∧ Hid (∃ os, Puts w0 w (putL (al.take k)) wr A' n' c' os)) (fun _ i _ => 40 - (intOf i).toNat)
    case atStart => exact ⟨0, none, 0, 0, by omega, rfl, rfl, by omega, Lib.hid ⟨[], rfl, Room.nil, Reads.nil, Ext.refl _, fun k hk => absurd hk foot_none⟩⟩
    case round =>
      obtain ⟨k, A', n', c', hk, rfl, rfl, hnk, H⟩ := hrel
      by_cases hlt : k < 40
      · have hlt' : (k : Int) < (40 : Int) := by omega
        obtain ⟨os, hP⟩ := H.out
        obtain ⟨a, ha⟩ : ∃ a, al[k]? = some a := ⟨al[k]'(by rw [Hacts.out.len]; exact hlt), List.getElem?_eq_getElem _⟩
        obtain ⟨b, o, s, rfl, hb, hat⟩ := Hacts.out.at_ k a ha
        have ct := ((He0.out.t hP.ext).cell (p := ⟨b, o + k * 2, none⟩) hb).trans hat.t
        have cf := ((He0.out.t hP.ext).cell (p := ⟨b, o + k * 2 + 1, none⟩) hb).trans hat.f
        have Hv := Lib.hid (hat.v.ext (He0.out.t hP.ext))
        have Hv0 := Lib.hid hat.v
        have hps : putL (al.take (k + 1)) = putL (al.take k) ++ (match putOf a with | none => [] | some f => [f]) := by rw [take_snoc ha, putL_snoc]
        have Hps := Lib.hid hps
        have HP := Lib.hid hP
        clear H hP ha hat hps
        have hq := fun w' => run_neq_slice_nil_any (P := Try.prog) w' 29 5 s.A s.n s.c 0 0 ul_u8
        have he2 := Ext.alloc wr (.cells #[.int .u8 (a.1 : Int), .slice s.A s.n s.c] 47)
        have He2 := Lib.hid he2
        clear he2
        obtain ⟨tt, fr⟩ := a
        simp only at Hv Hv0 Hps ct He2
        have hsame : ∀ (e : putOf (tt, fr) = none), ∃ os, Puts w0 w (putL (al.take (k + 1))) (wr.alloc (.cells #[.int .u8 (tt : Int), .slice s.A s.n s.c] 47)) A' n' c' os := fun e => by
          have h := HP.out
          refine ⟨os, h.len, h.room.ext He2.out, ?_, h.ext.t He2.out, h.na⟩
          rw [Hps.out, e, List.append_nil]
          exact h.reads
        have Hsame := Lib.hid hsame
        clear hsame
        cases fr with
        | none =>
          have hA : s.A = none := Hv.out.1
          rw [hA] at hq cf Hsame
          simp only [Option.isNone_none, Bool.not_true] at hq
          clear hA
          go_wp2_with fail
          go_roundw
          case rel => exact ⟨k + 1, A', n', c', by omega, by go_num, rfl, by omega, Lib.hid (Hsame.out rfl)⟩
          case measure => simp [intOf]; omega
        | some xs =>
          obtain ⟨hA, hrd, hx⟩ := Hv.out
          have hi : s.A.isNone = false := by cases hs : s.A with
            | none => exact absurd hs hA
            | some _ => rfl
          rw [hi] at hq
          simp only [Bool.not_false] at hq
          have hsl := hrd.1
          by_cases hx40 : xs.length ≤ 40
          · have hn40 : (s.n : Int) ≤ 40 := by omega
            have hrm := HP.out.room.ext He2.out
            have Hx40 := Lib.hid hx40
            have Hrd := Lib.hid hrd
            have Hx := Lib.hid hx
            clear hA hrd hx hi hsl hx40
            go_wp2_with (refine wpl_build (by rfl) rfl ul_bb info_bb [.tmp 27] (by rfl) (by rfl) (by decide) (f := slv) [s] (by rfl) (fun _ => rfl) ?_)
            intro g3 w3 b3 e3 lo3 r3; refine Lib.hid ?_
            have hrm3 := hrm.ext e3
            have E3 := Lib.hid (He2.out.t e3)
            have E3' := Lib.hid e3
            clear hrm b3 lo3 e3
            go_wp2_with (refine wpl_append_at (by rfl) rfl ul_bb info_bb rfl rfl hrm3 rfl (Src.ofRd ul_bb r3 (fun _ => rfl)) (by simp only [maxLen]; omega) (by omega) ?_)
            intro A4 c4 w4 r4 ch4 ft4; refine Lib.hid ?_
            have hfin : ∃ os, Puts w0 w (putL (al.take (k + 1))) w4 A4 (n' + 1) c4 os := by
              have h := HP.out
              have hw4 : Below w.heap.size w w4 := ((h.ext.t E3.out)).trans (ch4.below (by have := h.ext.size; have := E3.out.size; omega) (fun k' hk' hk2 => by have := h.na k' hk2; omega))
              refine ⟨os ++ [s], by rw [List.length_append, h.len]; rfl, by rw [List.map_append]; exact r4, ?_, hw4, fun k' hk' => ?_⟩
              · rw [Hps.out]
                have e1 : putOf (tt, some xs) = some xs := by show (if xs.length ≤ 40 then some xs else none) = some xs; rw [if_pos Hx40.out]
                rw [e1]
                exact h.reads.snoc Hv0.out.2.1 Hv0.out.2.2
              · rcases ft4 k' hk' with h1 | h1
                · exact h.na k' h1
                · have := h.ext.size; have := E3.out.size; omega
            have Hfin := Lib.hid hfin
            clear hfin r4 ch4 ft4 hrm3 r3
            go_wp2_with fail
            go_roundw
            case rel => exact ⟨k + 1, A4, n' + 1, c4, by omega, by go_num, rfl, by omega, Hfin⟩
            case measure => simp [intOf]; omega
          · have hn40 : ¬ (s.n : Int) ≤ 40 := by omega
            have He : Hid (putOf (tt, some xs) = none) := Lib.hid (by show (if xs.length ≤ 40 then some xs else none) = none; rw [if_neg hx40])
            clear hA hrd hx hi hsl hx40
            go_wp2_with fail
            go_roundw
            case rel => exact ⟨k + 1, A', n', c', by omega, by go_num, rfl, by omega, Lib.hid (Hsame.out He.out)⟩
            case measure => simp [intOf]; omega
      · obtain rfl : k = 40 := by omega
        obtain ⟨os, hP⟩ := H.out
        have HP := Lib.hid hP
        clear H hP
        go_wp2_with fail
        go_ret
        have e0 : ∀ j, al.length ≤ j → al.take j = al := fun j h => List.take_of_length_le h
        have hp := HP.out
        rw [e0 _ (by rw [Hacts.out.len]; exact Nat.le_refl _)] at hp
        exact ⟨A', n', c', os, rfl, hp⟩
end Go.Proofs.Ytpipnefepnknoaa
