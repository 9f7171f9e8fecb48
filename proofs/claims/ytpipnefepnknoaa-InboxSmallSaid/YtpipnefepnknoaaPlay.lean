/- What play does: acts with a new inbox. -/
import Derived.Test.YtpipnefepnknoaaAwake
import Derived.WalkSpells
namespace Go.Fx
/-- An act: so many turns; a frame, or none. -/
abbrev ActN := Nat × Option (List Nat)
end Go.Fx
namespace Go.Proofs.Ytpipnefepnknoaa
open Go.RowKit Go.Fx
def FrameV (w : World) (s : Sl) : Option (List Nat) → Prop
  | none => s.A = none ∧ s.n = 0
  | some xs => s.A ≠ none ∧ Rd u8v w s.A s.n xs ∧ ∀ x ∈ xs, x < 256
structure ActAt (w : World) (b o : Nat) (a : ActN) (s : Sl) : Prop where
  t : w.cell? ⟨b, o, none⟩ = some (.int .u8 (a.1 : Int))
  f : w.cell? ⟨b, o + 1, none⟩ = some (.slice s.A s.n s.c)
  lt : a.1 < 256
  v : FrameV w s a.2
structure Acts (w : World) (A : Option Addr) (n : Nat) (al : List ActN) : Prop where
  len : al.length = n
  at_ : ∀ (i : Nat) (a : ActN), al[i]? = some a → ∃ b o s, A = some ⟨b, o, none⟩ ∧ b < w.heap.size ∧ ActAt w b (o + i * 2) a s
theorem FrameV.ext {w w' : World} {s : Sl} {x : Option (List Nat)} (h : FrameV w s x) (e : Ext w w') : FrameV w' s x := by
  cases x with
  | none => exact h
  | some xs => exact ⟨h.1, h.2.1.ext e, h.2.2⟩
theorem Acts.ext {w w' : World} {A : Option Addr} {n : Nat} {al : List ActN} (h : Acts w A n al) (e : Ext w w') : Acts w' A n al :=
  ⟨h.len, fun i a ha => by
    obtain ⟨b, o, s, hA, hb, h1⟩ := h.at_ i a ha
    exact ⟨b, o, s, hA, Nat.lt_of_lt_of_le hb e.size, (e.cell (p := ⟨b, _, none⟩) hb).trans h1.t, (e.cell (p := ⟨b, _, none⟩) hb).trans h1.f, h1.lt, h1.v.ext e⟩⟩
theorem Acts.take {w : World} {A : Option Addr} {n : Nat} {al : List ActN} (h : Acts w A n al) {k : Nat} (hk : k ≤ n) : Acts w A k (al.take k) :=
  ⟨by rw [List.length_take, h.len]; omega, fun i a ha => by
    rw [List.getElem?_take] at ha
    split at ha
    · exact h.at_ i a ha
    · cases ha⟩
def stepT (p : St × List (List Nat)) : St × List (List Nat) := ((turnF p.1).1, p.2 ++ (turnF p.1).2)
def turnsF : Nat → St × List (List Nat) → St × List (List Nat)
  | 0, p => p
  | k + 1, p => stepT (turnsF k p)
/-- The frame that an act puts. -/
def putOf (a : ActN) : Option (List Nat) := match a.2 with | none => none | some xs => if xs.length ≤ 40 then some xs else none
def putS (p : St × List (List Nat)) (f : List Nat) : St × List (List Nat) := ((putF p.1 f).1, p.2 ++ (putF p.1 f).2)
def actF (p : St × List (List Nat)) (a : ActN) : St × List (List Nat) := match putOf a with | none => turnsF (a.1 % 10) p | some f => putS (turnsF (a.1 % 10) p) f
def playF (al : List ActN) : St × List (List Nat) := al.foldl actF (st0, [])
theorem onL_ans : ∀ (ws : List (List Nat)) (st : St) (out : List (List Nat)), (onL ws st out).2.length + st.ans = (onL ws st out).1.ans + out.length
  | [], st, out => by show out.length + st.ans = st.ans + out.length; omega
  | f :: fs, st, out => by
    rw [onL_cons]
    by_cases h0 : needs f = 0
    · rw [if_pos h0]
      have h := onL_ans fs (stDone st f fs) (out ++ [f])
      simp only [stDone, List.length_append, List.length_cons, List.length_nil] at h ⊢
      omega
    · rw [if_neg h0]; simp only [stPend]; omega
theorem on_ans (st : St) (out : List (List Nat)) : (on st out).2.length + st.ans = (on st out).1.ans + out.length := by
  unfold on
  by_cases hp : st.pend = true
  · rw [if_pos hp]; show out.length + st.ans = st.ans + out.length; omega
  · rw [if_neg hp]; exact onL_ans _ st out
theorem put_ans (st : St) (f : List Nat) : (putF st f).2.length + st.ans = (putF st f).1.ans := by
  have := on_ans { st with wait := st.wait ++ [f], put := st.put + 1 } []
  simpa [putF] using this
theorem turn_ans (st : St) : (turnF st).2.length + st.ans = (turnF st).1.ans := by
  unfold turnF
  by_cases hp : st.pend = true
  · rw [if_pos hp]
    by_cases h0 : st.left - 1 = 0
    · rw [if_pos h0]
      have key : ∀ z : St, z.ans = st.ans + 1 → (on z [st.cur]).2.length + st.ans = (on z [st.cur]).1.ans := fun z hz => by
        have := on_ans z [st.cur]
        simp only [List.length_cons, List.length_nil] at this
        omega
      exact key _ rfl
    · rw [if_neg h0]; simp [turn1]
  · rw [if_neg hp]; simp
theorem turnsF_good (k N : Nat) (p : St × List (List Nat)) (g : Good p.1 (N + k)) : Good (turnsF k p).1 N := by
  induction k generalizing N with
  | zero => exact g
  | succ k ih => exact turn_good _ N (ih (N + 1) (by rw [show N + 1 + k = N + (k + 1) by omega]; exact g))

theorem playF_snoc (l : List ActN) (a : ActN) : playF (l ++ [a]) = actF (playF l) a := by unfold playF; rw [List.foldl_append]; rfl
/-- What play leaves. -/
structure Played (w : World) (al : List ActN) (e : Ending) (w' : World) (ib : Nat) (L : Lay) (A : Option Addr) (n c : Nat) (os : List Sl) (st : St) (outs : List (List Nat)) : Prop where
  ret : e = .returned (.tuple #[.pointer (some ⟨ib, 0, none⟩), .slice A n c, .pointer (some ⟨w.heap.size, 0, none⟩), .bool true])
  res : (st, outs) = playF al
  sys : Sys w w' ib L st
  sv : L.sv = w.heap.size
  resp : Resp w.heap.size w' ib L A n c os outs
  good : Good st 1000
  ans : outs.length = st.ans
def PlayP (w : World) (al : List ActN) (e : Ending) (w' : World) : Prop := ∃ ib L A n c os st outs, Played w al e w' ib L A n c os st outs

set_option maxRecDepth 100000 in
set_option maxHeartbeats 2000000 in
theorem play_ (A : Option Addr) (n c : Nat) (al : List ActN) (w : World) (hacts : Acts w A n al) (hnc : n ≤ c) (hc : c ≤ maxLen) :
    Calls Try.prog 12 #[.slice A n c] w (PlayP w (al.take 40)) := by
  unfold maxLen at hc
  rcases (by omega : n ≤ 40 ∨ 40 < n) with h40 | h40
  · have h1 : (n : Int) ≤ 40 := by omega
    have h2 : (n : Int) ≤ (c : Int) := by omega
    rw [show al.take 40 = al from List.take_of_length_le (by rw [hacts.len]; omega)]
    have Hacts := Lib.hid hacts
    clear hacts
    go_enter Try.func12, Try.ntmps12
    go_wp2_with fail
    refine (ib_New _ _).mono ?_
    rintro e w1 ⟨rfl, hib, he, hsz⟩
    have hsb := Blk.new w 31 #[.slice none 0 0, .int .i64 0, .slice none 0 0, .slice none 0 0]
    have hS := sys_new (Below.refl w.heap.size w) (Ext.alloc w _) (Nat.le_refl _) hsb hib he
    rw [World.size_alloc] at *
    generalize hibe : w.heap.size + 1 = ib at hS ⊢
    have HS := Lib.hid hS
    clear hS hsb hib he hsz hibe
    go_wp2_with fail
    go_loopw [9, 36] (fun v i wr => ∃ (k : Nat) (A' : Option Addr) (n' c' : Nat), k ≤ n ∧ i = .int .i64 (k : Int) ∧ v = .slice A' n' c' ∧ Hid (∃ (L : Lay) (os : List Sl) (st : St) (outs : List (List Nat)), (st, outs) = playF (al.take k) ∧ Sys w wr ib L st ∧ L.sv = w.heap.size ∧ Resp w.heap.size wr ib L A' n' c' os outs ∧ Good st (2000 - 20 * k) ∧ outs.length = st.ans)) (fun _ i _ => n - (intOf i).toNat)
    case atStart => exact ⟨0, none, 0, 0, by omega, rfl, rfl, Lib.hid ⟨lay0 w.heap.size, [], st0, [], rfl, HS.out, rfl, ⟨rfl, Room.nil, Byts.nil, fun k hk => absurd hk foot_none, fun k hk => absurd hk foots_nil, fun k hk => absurd hk foots_nil, fun k hk => absurd hk foot_none⟩, good0 _ (by omega), rfl⟩⟩
    case round =>
      obtain ⟨k, A', n', c', hk, rfl, rfl, H⟩ := hrel
      by_cases hlt : k < n
      · have hlt' : (k : Int) < (n : Int) := by omega
        obtain ⟨L, os, st, outs, hpl, hS, hsv, hR, hG, hO⟩ := H.out
        obtain ⟨a, ha⟩ : ∃ a, al[k]? = some a := ⟨al[k]'(by rw [Hacts.out.len]; exact hlt), List.getElem?_eq_getElem _⟩
        obtain ⟨b, o, s, rfl, hb, hat⟩ := Hacts.out.at_ k a ha
        have ct := (hS.below.cell (p := ⟨b, o + k * 2, none⟩) hb).trans hat.t
        have cf := (hS.below.cell (p := ⟨b, o + k * 2 + 1, none⟩) hb).trans hat.f
        have hlt256 := hat.lt
        have Hv := Lib.hid hat.v
        have Ha := Lib.hid ha
        have HS := Lib.hid hS
        have HR := Lib.hid hR
        have HG := Lib.hid hG
        have HO := Lib.hid hO
        have Hpl := Lib.hid hpl
        have Hsv := Lib.hid hsv
        clear H hpl hS hsv hR hG hO ha hat
        go_wp2_with fail
        have hblk : Blk (wr.alloc (.cells #[.int .u8 (a.1 : Int), .slice s.A s.n s.c] 47)) wr.heap.size 47 #[.int .u8 (a.1 : Int), .slice s.A s.n s.c] := Blk.new wr _ _
        have he2 := Ext.alloc wr (.cells #[.int .u8 (a.1 : Int), .slice s.A s.n s.c] 47)
        generalize hWg : wr.alloc (.cells #[.int .u8 (a.1 : Int), .slice s.A s.n s.c] 47) = W1 at *
        have hg : ¬ boxF ib L wr.heap.size ∧ ¬ foot A' c' wr.heap.size := ⟨fun h => by have := HS.out.box.lt h; omega, fun h => by have := HR.out.room.lt h; omega⟩
        obtain ⟨g, hgg⟩ : ∃ g, wr.heap.size = g := ⟨_, rfl⟩
        rw [hgg] at hblk hg ⊢
        have Hblk := Lib.hid hblk
        have Hg := Lib.hid hg
        have He2 := Lib.hid he2
        clear hblk hg he2 hWg hgg ct cf
        have ht10 : (a.1 : Int) % 10 < 10 := by omega
        go_loopw [9, 43] (fun v i wr => ∃ (j : Nat) (A' : Option Addr) (n' c' : Nat), j ≤ a.1 % 10 ∧ i = .int .u8 (j : Int) ∧ v = .slice A' n' c' ∧ Hid (∃ (L : Lay) (os : List Sl) (st' : St) (outs' : List (List Nat)), (st', outs') = turnsF j (st, outs) ∧ Sys w wr ib L st' ∧ L.sv = w.heap.size ∧ Resp w.heap.size wr ib L A' n' c' os outs' ∧ Good st' (2000 - 20 * k - j) ∧ outs'.length = st'.ans ∧ Blk wr g 47 #[.int .u8 (a.1 : Int), .slice s.A s.n s.c] ∧ ¬ boxF ib L g ∧ ¬ foot A' c' g)) (fun _ i _ => a.1 % 10 - (intOf i).toNat)
        case atStart => exact ⟨0, A', n', c', by omega, rfl, rfl, Lib.hid ⟨L, os, st, outs, rfl, HS.out.ext He2.out, Hsv.out, HR.out.ext He2.out, HG.out, HO.out, Hblk.out, Hg.out⟩⟩
        case round =>
          obtain ⟨j, A2, n2, c2, hj, rfl, rfl, H⟩ := hrel
          by_cases hjt : j < a.1 % 10
          · have hjt' : (j : Int) < (a.1 : Int) % 10 := by omega
            have hj9 : (j : Int) < 10 := by omega
            obtain ⟨L2, os2, st2, outs2, hpl, hS, hsv, hR, hG, hO, hB, hg, hgf⟩ := H.out
            have hG' : Good st2 ((2000 - 20 * k - (j + 1)) + 1) := by rw [show 2000 - 20 * k - (j + 1) + 1 = 2000 - 20 * k - j by omega]; exact hG
            have HT := Lib.hid (sys_Turn hS hG')
            have hbd : n2 + (turnF st2).2.length ≤ 100000000 := by
              have h1 := turn_ans st2
              have h2 := (turn_good st2 _ hG').fine.ans
              have h3 := hR.n_
              omega
            have Hbd := Lib.hid hbd
            have HG' := Lib.hid hG'
            have HR2 := Lib.hid hR
            have HB2 := Lib.hid hB
            have Hg2 := Lib.hid hg
            have Hgf2 := Lib.hid hgf
            have Hpl2 := Lib.hid hpl
            have Hsv2 := Lib.hid hsv
            have HO2 := Lib.hid hO
            clear hpl hS hsv hR hG hO hB hg H hgf hbd hG'
            go_wp2_with fail
            refine HT.out.mono ?_
            rintro e w3 ⟨L3, A3, n3, c3, os3, got⟩
            have Hgot := Lib.hid got
            have hret := got.ret
            have hRs := HR2.out.step got.step
            have hrr := hRs.room
            have hrd := got.resp.rd
            have hbd2 : n2 + n3 ≤ 100000000 := by have := Hbd.out; rw [got.resp.n_]; exact this
            clear got
            subst hret
            go_wp2_with (refine wpl_append_at (by rfl) rfl ul_bb info_bb rfl rfl hrr rfl (Src.ofRd ul_bb hrd (fun _ => rfl)) (by simp only [maxLen]; omega) (by omega) ?_)
            intro A4 c4 w4 r4 ch4 ft4; refine Lib.hid ?_
            have hfin : ∃ (L : Lay) (os : List Sl) (st' : St) (outs' : List (List Nat)), (st', outs') = turnsF (j + 1) (st, outs) ∧ Sys w w4 ib L st' ∧ L.sv = w.heap.size ∧ Resp w.heap.size w4 ib L A4 (n2 + n3) c4 os outs' ∧ Good st' (2000 - 20 * k - (j + 1)) ∧ outs'.length = st'.ans ∧ Blk w4 g 47 #[.int .u8 (a.1 : Int), .slice s.A s.n s.c] ∧ ¬ boxF ib L g ∧ ¬ foot A4 c4 g := by
              have got := Hgot.out
              have hz := got.step.chg.size
              have hgl := HB2.out.lt
              refine ⟨L3, os2 ++ os3, (turnF st2).1, outs2 ++ (turnF st2).2, ?_, got.sys.chg ch4 (fun k hk => ⟨hRs.na k hk, hRs.base k hk⟩), ?_, hRs.append got.sys.below.size got.resp.byt got.resp.len (fun k hk => ⟨got.resp.no k hk, fun h1 => ?_⟩) (fun k hk => got.sys.box.lt hk) r4 ch4 ft4, turn_good st2 _ HG'.out, ?_, (HB2.out.chg got.step.chg Hg2.out).chg ch4 Hgf2.out, fun h1 => ?_, fun h1 => ?_⟩
              · unfold turnsF; rw [← Hpl2.out]; rfl
              · rw [got.sv]; exact Hsv2.out
              · have := got.new k (.inr hk); have := HR2.out.room.lt h1; omega
              · have := turn_ans st2; rw [List.length_append, HO2.out]; omega
              · rcases got.step.nb g h1 with h2 | h2
                · exact Hg2.out h2
                · omega
              · rcases ft4 g h1 with h2 | h2
                · exact Hgf2.out h2
                · omega
            have Hfin := Lib.hid hfin
            clear hfin r4 ch4 ft4 hRs hrr hrd
            go_wp2_with fail
            go_roundw
            case rel => exact ⟨j + 1, A4, n2 + n3, c4, by omega, by go_num, rfl, Hfin⟩
            case measure => simp [intOf]; omega
          · obtain rfl : j = a.1 % 10 := by omega
            obtain ⟨L2, os2, st2, outs2, hpl, hS, hsv, hR, hG, hO, hB, hg, hgf⟩ := H.out
            have cg1 : wr.cell? ⟨g, 1, none⟩ = some (.slice s.A s.n s.c) := by rw [hB.cell]; rfl
            have hq := fun w' => run_neq_slice_nil_any (P := Try.prog) w' 29 5 s.A s.n s.c 0 0 ul_u8
            have hps : playF (al.take (k + 1)) = actF (playF (al.take k)) a := by rw [take_snoc Ha.out, playF_snoc]
            rw [← Hpl.out] at hps
            have Hps := Lib.hid hps
            have HS2 := Lib.hid hS
            have HR2 := Lib.hid hR
            have HG2 := Lib.hid hG
            have HO2 := Lib.hid hO
            have Hpl2 := Lib.hid hpl
            have Hsv2 := Lib.hid hsv
            clear hps hpl hS hsv hR hG hO hB hg hgf H
            obtain ⟨tt, fr⟩ := a
            simp only at Hv Hps Hpl2 HG2 hlt256 ht10
            have hsame : ∀ (e : putOf (tt, fr) = none), ∃ (L : Lay) (os : List Sl) (st : St) (outs : List (List Nat)), (st, outs) = playF (al.take (k + 1)) ∧ Sys w wr ib L st ∧ L.sv = w.heap.size ∧ Resp w.heap.size wr ib L A2 n2 c2 os outs ∧ Good st (2000 - 20 * (k + 1)) ∧ outs.length = st.ans := fun e => by
              refine ⟨L2, os2, st2, outs2, ?_, HS2.out, Hsv2.out, HR2.out, HG2.out.mono (by omega), HO2.out⟩
              rw [Hps.out]
              unfold actF
              rw [e]
              exact Hpl2.out
            have Hsame := Lib.hid hsame
            clear hsame
            cases fr with
            | none =>
              have hA : s.A = none := Hv.out.1
              rw [hA] at hq cg1
              simp only [Option.isNone_none, Bool.not_true] at hq
              clear hA
              go_wp2_with fail
              go_roundw
              case rel => exact ⟨k + 1, A2, n2, c2, by omega, by go_num, rfl, Lib.hid (Hsame.out rfl)⟩
              case measure => simp [intOf]; omega
            | some xs =>
              obtain ⟨hA, hrd, hx⟩ := Hv.out
              have hi : s.A.isNone = false := by cases hs : s.A with
                | none => exact absurd hs hA
                | some _ => rfl
              rw [hi] at hq
              simp only [Bool.not_false] at hq
              have hsl := hrd.1
              by_cases hx40 : xs.length ≤ 40
              · have hn40 : (s.n : Int) ≤ 40 := by omega
                have Hx40 := Lib.hid hx40
                have hG3 : Good st2 (2000 - 20 * (k + 1) + 1) := HG2.out.mono (by omega)
                have HP := Lib.hid (sys_Put HS2.out hG3 s.A s.n s.c xs (hrd.ext HS2.out.below) hx (by omega))
                have hbd : n2 + (putF st2 xs).2.length ≤ 100000000 := by
                  have h1 := put_ans st2 xs
                  have h2 := (put_good st2 xs _ hG3 (by omega)).fine.ans
                  have h3 := HR2.out.n_
                  have h4 := HO2.out
                  omega
                have Hbd := Lib.hid hbd
                have HG3 := Lib.hid hG3
                clear hA hrd hx hi hsl hx40 hG3 hbd
                go_wp2_with fail
                refine HP.out.mono ?_
                rintro e w3 ⟨L3, A3, n3, c3, os3, got⟩
                have Hgot := Lib.hid got
                have hret := got.ret
                have hRs := HR2.out.step got.step
                have hrr := hRs.room
                have hrd := got.resp.rd
                have hbd2 : n2 + n3 ≤ 100000000 := by have := Hbd.out; rw [got.resp.n_]; exact this
                clear got
                subst hret
                go_wp2_with (refine wpl_append_at (by rfl) rfl ul_bb info_bb rfl rfl hrr rfl (Src.ofRd ul_bb hrd (fun _ => rfl)) (by simp only [maxLen]; omega) (by omega) ?_)
                intro A4 c4 w4 r4 ch4 ft4; refine Lib.hid ?_
                have hfin : ∃ (L : Lay) (os : List Sl) (st : St) (outs : List (List Nat)), (st, outs) = playF (al.take (k + 1)) ∧ Sys w w4 ib L st ∧ L.sv = w.heap.size ∧ Resp w.heap.size w4 ib L A4 (n2 + n3) c4 os outs ∧ Good st (2000 - 20 * (k + 1)) ∧ outs.length = st.ans := by
                  have got := Hgot.out
                  refine ⟨L3, os2 ++ os3, (putF st2 xs).1, outs2 ++ (putF st2 xs).2, ?_, got.sys.chg ch4 (fun k hk => ⟨hRs.na k hk, hRs.base k hk⟩), ?_, hRs.append got.sys.below.size got.resp.byt got.resp.len (fun k hk => ⟨got.resp.no k hk, fun h1 => ?_⟩) (fun k hk => got.sys.box.lt hk) r4 ch4 ft4, put_good st2 xs _ HG3.out (by have := Hx40.out; omega), ?_⟩
                  · rw [Hps.out]
                    have e1 : putOf (tt, some xs) = some xs := by show (if xs.length ≤ 40 then some xs else none) = some xs; rw [if_pos Hx40.out]
                    unfold actF
                    rw [e1]
                    simp only
                    rw [← Hpl2.out]
                    rfl
                  · rw [got.sv]; exact Hsv2.out
                  · have := got.new k (.inr hk); have := HR2.out.room.lt h1; omega
                  · have := put_ans st2 xs; rw [List.length_append, HO2.out]; omega
                have Hfin := Lib.hid hfin
                clear hfin r4 ch4 ft4 hRs hrr hrd
                go_wp2_with fail
                go_roundw
                case rel => exact ⟨k + 1, A4, n2 + n3, c4, by omega, by go_num, rfl, Hfin⟩
                case measure => simp [intOf]; omega
              · have hn40 : ¬ (s.n : Int) ≤ 40 := by omega
                have He : Hid (putOf (tt, some xs) = none) := Lib.hid (by show (if xs.length ≤ 40 then some xs else none) = none; rw [if_neg hx40])
                clear hA hrd hx hi hsl hx40
                go_wp2_with fail
                go_roundw
                case rel => exact ⟨k + 1, A2, n2, c2, by omega, by go_num, rfl, Lib.hid (Hsame.out He.out)⟩
                case measure => simp [intOf]; omega
      · obtain rfl : k = n := by omega
        obtain ⟨L, os, st, outs, hpl, hS, hsv, hR, hG, hO⟩ := H.out
        have HS := Lib.hid hS
        have HR := Lib.hid hR
        have HG := Lib.hid hG
        have HO := Lib.hid hO
        have Hpl := Lib.hid hpl
        have Hsv := Lib.hid hsv
        clear H hpl hS hsv hR hG hO
        go_wp2_with fail
        refine bodyPost_ret (v := .tuple #[.pointer (some ⟨ib, 0, none⟩), .slice A' n' c', .pointer (some ⟨w.heap.size, 0, none⟩), .bool true]) (by simp [results, Try.results12, go_sem]) rfl ?_
        have e0 : ∀ j, al.length ≤ j → al.take j = al := fun j h => List.take_of_length_le h
        have hpl := Hpl.out
        rw [e0 _ (by rw [Hacts.out.len]; exact Nat.le_refl _)] at hpl
        exact ⟨ib, L, A', n', c', os, st, outs, rfl, hpl, HS.out, Hsv.out, HR.out, HG.out.mono (by omega), HO.out⟩
  · have h1 : (40 : Int) < (n : Int) := by omega
    have h2 : (40 : Int) ≤ (c : Int) := by omega
    have hacts := hacts.take (k := 40) (by omega)
    generalize al.take 40 = al at hacts ⊢
    have Hacts := Lib.hid hacts
    clear hacts
    go_enter Try.func12, Try.ntmps12
    go_wp2_with fail
    refine (ib_New _ _).mono ?_
    rintro e w1 ⟨rfl, hib, he, hsz⟩
    have hsb := Blk.new w 31 #[.slice none 0 0, .int .i64 0, .slice none 0 0, .slice none 0 0]
    have hS := sys_new (Below.refl w.heap.size w) (Ext.alloc w _) (Nat.le_refl _) hsb hib he
    rw [World.size_alloc] at *
    generalize hibe : w.heap.size + 1 = ib at hS ⊢
    have HS := Lib.hid hS
    clear hS hsb hib he hsz hibe
    go_wp2_with fail
    go_loopw [9, 36] (fun v i wr => ∃ (k : Nat) (A' : Option Addr) (n' c' : Nat), k ≤ 40 ∧ i = .int .i64 (k : Int) ∧ v = .slice A' n' c' ∧ Hid (∃ (L : Lay) (os : List Sl) (st : St) (outs : List (List Nat)), (st, outs) = playF (al.take k) ∧ Sys w wr ib L st ∧ L.sv = w.heap.size ∧ Resp w.heap.size wr ib L A' n' c' os outs ∧ Good st (2000 - 20 * k) ∧ outs.length = st.ans)) (fun _ i _ => 40 - (intOf i).toNat)
    case atStart => exact ⟨0, none, 0, 0, by omega, rfl, rfl, Lib.hid ⟨lay0 w.heap.size, [], st0, [], rfl, HS.out, rfl, ⟨rfl, Room.nil, Byts.nil, fun k hk => absurd hk foot_none, fun k hk => absurd hk foots_nil, fun k hk => absurd hk foots_nil, fun k hk => absurd hk foot_none⟩, good0 _ (by omega), rfl⟩⟩
    case round =>
      obtain ⟨k, A', n', c', hk, rfl, rfl, H⟩ := hrel
      by_cases hlt : k < 40
      · have hlt' : (k : Int) < (40 : Int) := by omega
        obtain ⟨L, os, st, outs, hpl, hS, hsv, hR, hG, hO⟩ := H.out
        obtain ⟨a, ha⟩ : ∃ a, al[k]? = some a := ⟨al[k]'(by rw [Hacts.out.len]; exact hlt), List.getElem?_eq_getElem _⟩
        obtain ⟨b, o, s, rfl, hb, hat⟩ := Hacts.out.at_ k a ha
        have ct := (hS.below.cell (p := ⟨b, o + k * 2, none⟩) hb).trans hat.t
        have cf := (hS.below.cell (p := ⟨b, o + k * 2 + 1, none⟩) hb).trans hat.f
        have hlt256 := hat.lt
        have Hv := Lib.hid hat.v
        have Ha := Lib.hid ha
        have HS := Lib.hid hS
        have HR := Lib.hid hR
        have HG := Lib.hid hG
        have HO := Lib.hid hO
        have Hpl := Lib.hid hpl
        have Hsv := Lib.hid hsv
        clear H hpl hS hsv hR hG hO ha hat
        go_wp2_with fail
        have hblk : Blk (wr.alloc (.cells #[.int .u8 (a.1 : Int), .slice s.A s.n s.c] 47)) wr.heap.size 47 #[.int .u8 (a.1 : Int), .slice s.A s.n s.c] := Blk.new wr _ _
        have he2 := Ext.alloc wr (.cells #[.int .u8 (a.1 : Int), .slice s.A s.n s.c] 47)
        generalize hWg : wr.alloc (.cells #[.int .u8 (a.1 : Int), .slice s.A s.n s.c] 47) = W1 at *
        have hg : ¬ boxF ib L wr.heap.size ∧ ¬ foot A' c' wr.heap.size := ⟨fun h => by have := HS.out.box.lt h; omega, fun h => by have := HR.out.room.lt h; omega⟩
        obtain ⟨g, hgg⟩ : ∃ g, wr.heap.size = g := ⟨_, rfl⟩
        rw [hgg] at hblk hg ⊢
        have Hblk := Lib.hid hblk
        have Hg := Lib.hid hg
        have He2 := Lib.hid he2
        clear hblk hg he2 hWg hgg ct cf
        have ht10 : (a.1 : Int) % 10 < 10 := by omega
        go_loopw [9, 43] (fun v i wr => ∃ (j : Nat) (A' : Option Addr) (n' c' : Nat), j ≤ a.1 % 10 ∧ i = .int .u8 (j : Int) ∧ v = .slice A' n' c' ∧ Hid (∃ (L : Lay) (os : List Sl) (st' : St) (outs' : List (List Nat)), (st', outs') = turnsF j (st, outs) ∧ Sys w wr ib L st' ∧ L.sv = w.heap.size ∧ Resp w.heap.size wr ib L A' n' c' os outs' ∧ Good st' (2000 - 20 * k - j) ∧ outs'.length = st'.ans ∧ Blk wr g 47 #[.int .u8 (a.1 : Int), .slice s.A s.n s.c] ∧ ¬ boxF ib L g ∧ ¬ foot A' c' g)) (fun _ i _ => a.1 % 10 - (intOf i).toNat)
        case atStart => exact ⟨0, A', n', c', by omega, rfl, rfl, Lib.hid ⟨L, os, st, outs, rfl, HS.out.ext He2.out, Hsv.out, HR.out.ext He2.out, HG.out, HO.out, Hblk.out, Hg.out⟩⟩
        case round =>
          obtain ⟨j, A2, n2, c2, hj, rfl, rfl, H⟩ := hrel
          by_cases hjt : j < a.1 % 10
          · have hjt' : (j : Int) < (a.1 : Int) % 10 := by omega
            have hj9 : (j : Int) < 10 := by omega
            obtain ⟨L2, os2, st2, outs2, hpl, hS, hsv, hR, hG, hO, hB, hg, hgf⟩ := H.out
            have hG' : Good st2 ((2000 - 20 * k - (j + 1)) + 1) := by rw [show 2000 - 20 * k - (j + 1) + 1 = 2000 - 20 * k - j by omega]; exact hG
            have HT := Lib.hid (sys_Turn hS hG')
            have hbd : n2 + (turnF st2).2.length ≤ 100000000 := by
              have h1 := turn_ans st2
              have h2 := (turn_good st2 _ hG').fine.ans
              have h3 := hR.n_
              omega
            have Hbd := Lib.hid hbd
            have HG' := Lib.hid hG'
            have HR2 := Lib.hid hR
            have HB2 := Lib.hid hB
            have Hg2 := Lib.hid hg
            have Hgf2 := Lib.hid hgf
            have Hpl2 := Lib.hid hpl
            have Hsv2 := Lib.hid hsv
            have HO2 := Lib.hid hO
            clear hpl hS hsv hR hG hO hB hg H hgf hbd hG'
            go_wp2_with fail
            refine HT.out.mono ?_
            rintro e w3 ⟨L3, A3, n3, c3, os3, got⟩
            have Hgot := Lib.hid got
            have hret := got.ret
            have hRs := HR2.out.step got.step
            have hrr := hRs.room
            have hrd := got.resp.rd
            have hbd2 : n2 + n3 ≤ 100000000 := by have := Hbd.out; rw [got.resp.n_]; exact this
            clear got
            subst hret
            go_wp2_with (refine wpl_append_at (by rfl) rfl ul_bb info_bb rfl rfl hrr rfl (Src.ofRd ul_bb hrd (fun _ => rfl)) (by simp only [maxLen]; omega) (by omega) ?_)
            intro A4 c4 w4 r4 ch4 ft4; refine Lib.hid ?_
            have hfin : ∃ (L : Lay) (os : List Sl) (st' : St) (outs' : List (List Nat)), (st', outs') = turnsF (j + 1) (st, outs) ∧ Sys w w4 ib L st' ∧ L.sv = w.heap.size ∧ Resp w.heap.size w4 ib L A4 (n2 + n3) c4 os outs' ∧ Good st' (2000 - 20 * k - (j + 1)) ∧ outs'.length = st'.ans ∧ Blk w4 g 47 #[.int .u8 (a.1 : Int), .slice s.A s.n s.c] ∧ ¬ boxF ib L g ∧ ¬ foot A4 c4 g := by
              have got := Hgot.out
              have hz := got.step.chg.size
              have hgl := HB2.out.lt
              refine ⟨L3, os2 ++ os3, (turnF st2).1, outs2 ++ (turnF st2).2, ?_, got.sys.chg ch4 (fun k hk => ⟨hRs.na k hk, hRs.base k hk⟩), ?_, hRs.append got.sys.below.size got.resp.byt got.resp.len (fun k hk => ⟨got.resp.no k hk, fun h1 => ?_⟩) (fun k hk => got.sys.box.lt hk) r4 ch4 ft4, turn_good st2 _ HG'.out, ?_, (HB2.out.chg got.step.chg Hg2.out).chg ch4 Hgf2.out, fun h1 => ?_, fun h1 => ?_⟩
              · unfold turnsF; rw [← Hpl2.out]; rfl
              · rw [got.sv]; exact Hsv2.out
              · have := got.new k (.inr hk); have := HR2.out.room.lt h1; omega
              · have := turn_ans st2; rw [List.length_append, HO2.out]; omega
              · rcases got.step.nb g h1 with h2 | h2
                · exact Hg2.out h2
                · omega
              · rcases ft4 g h1 with h2 | h2
                · exact Hgf2.out h2
                · omega
            have Hfin := Lib.hid hfin
            clear hfin r4 ch4 ft4 hRs hrr hrd
            go_wp2_with fail
            go_roundw
            case rel => exact ⟨j + 1, A4, n2 + n3, c4, by omega, by go_num, rfl, Hfin⟩
            case measure => simp [intOf]; omega
          · obtain rfl : j = a.1 % 10 := by omega
            obtain ⟨L2, os2, st2, outs2, hpl, hS, hsv, hR, hG, hO, hB, hg, hgf⟩ := H.out
            have cg1 : wr.cell? ⟨g, 1, none⟩ = some (.slice s.A s.n s.c) := by rw [hB.cell]; rfl
            have hq := fun w' => run_neq_slice_nil_any (P := Try.prog) w' 29 5 s.A s.n s.c 0 0 ul_u8
            have hps : playF (al.take (k + 1)) = actF (playF (al.take k)) a := by rw [take_snoc Ha.out, playF_snoc]
            rw [← Hpl.out] at hps
            have Hps := Lib.hid hps
            have HS2 := Lib.hid hS
            have HR2 := Lib.hid hR
            have HG2 := Lib.hid hG
            have HO2 := Lib.hid hO
            have Hpl2 := Lib.hid hpl
            have Hsv2 := Lib.hid hsv
            clear hps hpl hS hsv hR hG hO hB hg hgf H
            obtain ⟨tt, fr⟩ := a
            simp only at Hv Hps Hpl2 HG2 hlt256 ht10
            have hsame : ∀ (e : putOf (tt, fr) = none), ∃ (L : Lay) (os : List Sl) (st : St) (outs : List (List Nat)), (st, outs) = playF (al.take (k + 1)) ∧ Sys w wr ib L st ∧ L.sv = w.heap.size ∧ Resp w.heap.size wr ib L A2 n2 c2 os outs ∧ Good st (2000 - 20 * (k + 1)) ∧ outs.length = st.ans := fun e => by
              refine ⟨L2, os2, st2, outs2, ?_, HS2.out, Hsv2.out, HR2.out, HG2.out.mono (by omega), HO2.out⟩
              rw [Hps.out]
              unfold actF
              rw [e]
              exact Hpl2.out
            have Hsame := Lib.hid hsame
            clear hsame
            cases fr with
            | none =>
              have hA : s.A = none := Hv.out.1
              rw [hA] at hq cg1
              simp only [Option.isNone_none, Bool.not_true] at hq
              clear hA
              go_wp2_with fail
              go_roundw
              case rel => exact ⟨k + 1, A2, n2, c2, by omega, by go_num, rfl, Lib.hid (Hsame.out rfl)⟩
              case measure => simp [intOf]; omega
            | some xs =>
              obtain ⟨hA, hrd, hx⟩ := Hv.out
              have hi : s.A.isNone = false := by cases hs : s.A with
                | none => exact absurd hs hA
                | some _ => rfl
              rw [hi] at hq
              simp only [Bool.not_false] at hq
              have hsl := hrd.1
              by_cases hx40 : xs.length ≤ 40
              · have hn40 : (s.n : Int) ≤ 40 := by omega
                have Hx40 := Lib.hid hx40
                have hG3 : Good st2 (2000 - 20 * (k + 1) + 1) := HG2.out.mono (by omega)
                have HP := Lib.hid (sys_Put HS2.out hG3 s.A s.n s.c xs (hrd.ext HS2.out.below) hx (by omega))
                have hbd : n2 + (putF st2 xs).2.length ≤ 100000000 := by
                  have h1 := put_ans st2 xs
                  have h2 := (put_good st2 xs _ hG3 (by omega)).fine.ans
                  have h3 := HR2.out.n_
                  have h4 := HO2.out
                  omega
                have Hbd := Lib.hid hbd
                have HG3 := Lib.hid hG3
                clear hA hrd hx hi hsl hx40 hG3 hbd
                go_wp2_with fail
                refine HP.out.mono ?_
                rintro e w3 ⟨L3, A3, n3, c3, os3, got⟩
                have Hgot := Lib.hid got
                have hret := got.ret
                have hRs := HR2.out.step got.step
                have hrr := hRs.room
                have hrd := got.resp.rd
                have hbd2 : n2 + n3 ≤ 100000000 := by have := Hbd.out; rw [got.resp.n_]; exact this
                clear got
                subst hret
                go_wp2_with (refine wpl_append_at (by rfl) rfl ul_bb info_bb rfl rfl hrr rfl (Src.ofRd ul_bb hrd (fun _ => rfl)) (by simp only [maxLen]; omega) (by omega) ?_)
                intro A4 c4 w4 r4 ch4 ft4; refine Lib.hid ?_
                have hfin : ∃ (L : Lay) (os : List Sl) (st : St) (outs : List (List Nat)), (st, outs) = playF (al.take (k + 1)) ∧ Sys w w4 ib L st ∧ L.sv = w.heap.size ∧ Resp w.heap.size w4 ib L A4 (n2 + n3) c4 os outs ∧ Good st (2000 - 20 * (k + 1)) ∧ outs.length = st.ans := by
                  have got := Hgot.out
                  refine ⟨L3, os2 ++ os3, (putF st2 xs).1, outs2 ++ (putF st2 xs).2, ?_, got.sys.chg ch4 (fun k hk => ⟨hRs.na k hk, hRs.base k hk⟩), ?_, hRs.append got.sys.below.size got.resp.byt got.resp.len (fun k hk => ⟨got.resp.no k hk, fun h1 => ?_⟩) (fun k hk => got.sys.box.lt hk) r4 ch4 ft4, put_good st2 xs _ HG3.out (by have := Hx40.out; omega), ?_⟩
                  · rw [Hps.out]
                    have e1 : putOf (tt, some xs) = some xs := by show (if xs.length ≤ 40 then some xs else none) = some xs; rw [if_pos Hx40.out]
                    unfold actF
                    rw [e1]
                    simp only
                    rw [← Hpl2.out]
                    rfl
                  · rw [got.sv]; exact Hsv2.out
                  · have := got.new k (.inr hk); have := HR2.out.room.lt h1; omega
                  · have := put_ans st2 xs; rw [List.length_append, HO2.out]; omega
                have Hfin := Lib.hid hfin
                clear hfin r4 ch4 ft4 hRs hrr hrd
                go_wp2_with fail
                go_roundw
                case rel => exact ⟨k + 1, A4, n2 + n3, c4, by omega, by go_num, rfl, Hfin⟩
                case measure => simp [intOf]; omega
              · have hn40 : ¬ (s.n : Int) ≤ 40 := by omega
                have He : Hid (putOf (tt, some xs) = none) := Lib.hid (by show (if xs.length ≤ 40 then some xs else none) = none; rw [if_neg hx40])
                clear hA hrd hx hi hsl hx40
                go_wp2_with fail
                go_roundw
                case rel => exact ⟨k + 1, A2, n2, c2, by omega, by go_num, rfl, Lib.hid (Hsame.out He.out)⟩
                case measure => simp [intOf]; omega
      · obtain rfl : k = 40 := by omega
        obtain ⟨L, os, st, outs, hpl, hS, hsv, hR, hG, hO⟩ := H.out
        have HS := Lib.hid hS
        have HR := Lib.hid hR
        have HG := Lib.hid hG
        have HO := Lib.hid hO
        have Hpl := Lib.hid hpl
        have Hsv := Lib.hid hsv
        clear H hpl hS hsv hR hG hO
        go_wp2_with fail
        refine bodyPost_ret (v := .tuple #[.pointer (some ⟨ib, 0, none⟩), .slice A' n' c', .pointer (some ⟨w.heap.size, 0, none⟩), .bool true]) (by simp [results, Try.results12, go_sem]) rfl ?_
        have e0 : ∀ j, al.length ≤ j → al.take j = al := fun j h => List.take_of_length_le h
        have hpl := Hpl.out
        rw [e0 _ (by rw [Hacts.out.len]; exact Nat.le_refl _)] at hpl
        exact ⟨ib, L, A', n', c', os, st, outs, rfl, hpl, HS.out, Hsv.out, HR.out, HG.out.mono (by omega), HO.out⟩
end Go.Proofs.Ytpipnefepnknoaa
