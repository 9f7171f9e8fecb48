/- Mli: lists: small numbers as five lists of events, each in order. -/
import Derived.Test.YtkeapijehfacfaaMin
import Derived.Test.YtkeapijehfacfaaMlt
import Derived.Test.YtkeapijehfacfaaMdl
import Derived.Test.YtkeapijehfacfaaMev
namespace Go.Fx
open Go.RowKit
/-- Where an event belongs in a list. -/
def posE (x : Ev) (l : List Ev) : Nat := l.findIdx (fun y => !elB y x)
theorem posE_le (x : Ev) (l : List Ev) : posE x l ≤ l.length := List.findIdx_le_length
theorem insE_pos (x : Ev) : ∀ l : List Ev, insE x l = l.take (posE x l) ++ [x] ++ l.drop (posE x l)
  | [] => rfl
  | y :: ys => by
    have ih := insE_pos x ys
    unfold posE at ih ⊢
    rw [List.findIdx_cons]
    cases h : elB y x with
    | true => unfold insE; rw [if_pos h, ih]; simp
    | false => unfold insE; rw [if_neg (by rw [h]; simp)]; simp
theorem pos_stop {x y : Ev} {l : List Ev} {m : Nat} (h : l[m]? = some y) (hm : m ≤ posE x l) (hy : elB y x = false) : m = posE x l := by
  rcases Nat.lt_or_ge m (posE x l) with h1 | h1
  · exfalso
    obtain ⟨hl, e⟩ := List.getElem?_eq_some_iff.1 h
    have := List.not_of_lt_findIdx (p := fun y => !elB y x) (xs := l) (i := m) h1
    rw [e, hy] at this
    simp at this
  · omega
theorem pos_more {x y : Ev} {l : List Ev} {m : Nat} (h : l[m]? = some y) (hm : m ≤ posE x l) (hy : elB y x = true) : m + 1 ≤ posE x l := by
  rcases Nat.lt_or_ge m (posE x l) with h1 | h1
  · omega
  · exfalso
    obtain ⟨hl, e⟩ := List.getElem?_eq_some_iff.1 h
    have h2 : posE x l = m := by omega
    have h3 : posE x l < l.length := by omega
    have := List.findIdx_getElem (p := fun y => !elB y x) (xs := l) (w := h3)
    have h4 : l[posE x l]'h3 = y := by rw [← e]; congr 1
    unfold posE at h4
    rw [h4, hy] at this
    simp at this
theorem set_perm {ls : List (List Ev)} {j : Nat} {l l' : List Ev} {x : Ev} (h : ls[j]? = some l) (p : l'.Perm (x :: l)) : (ls.set j l').flatten.Perm (x :: ls.flatten) := by
  induction ls generalizing j with
  | nil => simp at h
  | cons a ls ih =>
    cases j with
    | zero => simp at h; subst h; simpa using p.append_right ls.flatten
    | succ j =>
      have h' : ls[j]? = some l := by simpa using h
      rw [List.set_cons_succ, List.flatten_cons, List.flatten_cons]
      exact ((ih h').append_left a).trans List.perm_middle
/-- Five lists in order, which hold the first event of each key. -/
structure LsOk (M : List Ev) (ls : List (List Ev)) : Prop where
  len : ls.length = 5
  srt : ∀ l ∈ ls, Srt l
  perm : ls.flatten.Perm (fstF M)
theorem LsOk.nil : LsOk [] (List.replicate 5 []) := ⟨rfl, fun l hl => by rw [List.eq_of_mem_replicate hl]; exact List.Pairwise.nil, by simp [fstF, fstA]⟩
theorem LsOk.old {M : List Ev} {ls : List (List Ev)} {x : Ev} (h : LsOk M ls) (hc : cntF M x.k ≠ 0) : LsOk (M ++ [x]) ls := ⟨h.len, h.srt, by rw [fstF_hit hc]; exact h.perm⟩
theorem LsOk.put {M : List Ev} {ls : List (List Ev)} {x : Ev} {j : Nat} {l : List Ev} (h : LsOk M ls) (hc : cntF M x.k = 0) (hj : ls[j]? = some l) : LsOk (M ++ [x]) (ls.set j (insE x l)) := by
  refine ⟨by rw [List.length_set]; exact h.len, fun l' hl' => ?_, ?_⟩
  · rcases List.mem_or_eq_of_mem_set hl' with h1 | h1
    · exact h.srt l' h1
    · subst h1
      refine insE_srt (h.srt l (List.mem_of_getElem? hj)) (fun y hy => cntF_zero.1 hc y ?_)
      have h2 : y ∈ ls.flatten := List.mem_flatten.2 ⟨l, List.mem_of_getElem? hj, hy⟩
      exact (fstA_in (h.perm.mem_iff.1 h2)).1
  · rw [fstF_new hc]
    exact (set_perm hj (insE_perm x l)).trans ((h.perm.cons x).trans (List.perm_append_comm (l₁ := [x]) (l₂ := fstF M)))
theorem LsOk.le {M : List Ev} {ls : List (List Ev)} (h : LsOk M ls) {l : List Ev} (hl : l ∈ ls) : l.length ≤ M.length := by
  have h1 : l.length ≤ ls.flatten.length := (List.sublist_flatten_of_mem hl).length_le
  rw [h.perm.length_eq] at h1
  exact Nat.le_trans h1 (fstA_len _ _)
theorem LsOk.dif {M : List Ev} {ls : List (List Ev)} (h : LsOk M ls) : Dif ls.flatten := (fstA_dif M []).perm h.perm.symm
theorem LsOk.mem {M : List Ev} {ls : List (List Ev)} (h : LsOk M ls) {x : Ev} (hx : x ∈ ls.flatten) : x ∈ M := (fstA_in (h.perm.mem_iff.1 hx)).1
theorem LsOk.tot {M : List Ev} {ls : List (List Ev)} (h : LsOk M ls) : ls.flatten.length ≤ M.length := by rw [h.perm.length_eq]; exact fstA_len _ _
/-- One of the lists grows by an event. -/
theorem put_step {B M g og j sn sc c9 : Nat} {sA A9 : Option Addr} {W1 X w9 : World} {ss : List Sl} {ls : List (List Ev)} {l2 : List Ev} (h : Lse B W1 (some ⟨g, og, none⟩) M M ss ls) (hs : ss[j]? = some ⟨sA, sn, sc⟩) (ch : Chg (foot sA sc) X w9) (hx : Ext W1 X)
    (r : RoomS 5 w9 A9 (sn + 1) c9 (l2.flatMap evC)) (ft : ∀ k, foot A9 c9 k → foot sA sc k ∨ X.heap.size ≤ k) (hB : B ≤ W1.heap.size) :
    w9.cell? ⟨g, og + j, none⟩ = some (.slice sA sn sc) ∧ w9.frozen? ⟨g, og + j, none⟩ = false ∧ Lse B (w9.setCell ⟨g, og + j, none⟩ (.slice A9 (sn + 1) c9)) (some ⟨g, og, none⟩) M M (ss.set j ⟨A9, sn + 1, c9⟩) (ls.set j l2) ∧ Chg (fun k => foot (some ⟨g, og, none⟩) M k ∨ foots ss k) W1 (w9.setCell ⟨g, og + j, none⟩ (.slice A9 (sn + 1) c9)) := by
  have hl := h.ext hx
  have hr := hl.room.chg ch (fun k hk hs' => h.outer k ⟨_, List.mem_of_getElem? hs, hs'⟩ hk)
  have hjM : j < M := by have h1 := (List.getElem?_eq_some_iff.1 hs).1; have h2 := h.room.1; rw [List.length_map] at h2; omega
  obtain ⟨g1, g2⟩ := hl.grow (s2 := ⟨A9, sn + 1, c9⟩) (l2 := l2) hs r ch ft (Nat.le_trans hB hx.size)
  exact ⟨hr.cellAt (k := j) (u := slv ⟨sA, sn, sc⟩) (by rw [List.getElem?_map, hs]; rfl), hr.frozenAt (k := j) hjM, g1, (Chg.ofExt hx).t g2⟩
theorem Blk.sm4 {w : World} {g : Nat} {t : TypeId} {i : Sm} (h : Blk w g t (smC i).toArray) : w.cell? ⟨g, 4, none⟩ = some (.int .u8 (i.li : Int)) := by rw [h.cell]; rfl
end Go.Fx
namespace Go.Proofs.Ytkeapijehfacfaa
open Go.RowKit Go.Fx
/-- The loop of lists. -/
structure LiJ (w : World) (mb : Nat) (A : Option Addr) (m : Nat) (M : List Ev) (ss : List Sl) (ls : List (List Ev)) (W : World) : Prop where
  lse : Lse w.heap.size W A 5 5 ss ls
  ok : LsOk M ls
  off : ∀ k, (foot A 5 k ∨ foots ss k) → k ≠ mb
  mp : MapK W mb m (metF M)
  ext : Ext w W
section
variable {w W W' : World} {mb m : Nat} {A : Option Addr} {M : List Ev} {ss : List Sl} {ls : List (List Ev)} {x : Ev}
theorem LiJ.e (h : LiJ w mb A m M ss ls W) (e : Ext W W') : LiJ w mb A m M ss ls W' := ⟨h.lse.ext e, h.ok, h.off, h.mp.ext e, h.ext.t e⟩
theorem LiJ.old (h : LiJ w mb A m M ss ls W) (hb : w.heap.size ≤ mb) (ch : Chg (fun j => j = mb) W W') (hm : MapK W' mb (m + 1) (metF (M ++ [x]))) (hc : cntF M x.k ≠ 0) : LiJ w mb A (m + 1) (M ++ [x]) ss ls W' :=
  ⟨h.lse.chg ch (fun k hk e => h.off k hk e), h.ok.old hc, h.off, hm, h.ext.trans (ch.below h.ext.size (fun k hk e => by omega))⟩
theorem foots_set {ss : List Sl} {j : Nat} {s2 : Sl} {k : Nat} (h : foots (ss.set j s2) k) : foot s2.A s2.c k ∨ foots ss k := by
  obtain ⟨t, ht, hk⟩ := h
  rcases List.mem_or_eq_of_mem_set ht with h1 | h1
  · exact .inr ⟨t, h1, hk⟩
  · subst h1; exact .inl hk
theorem LiJ.put {W2 w5 w10 : World} {j sn sc c9 : Nat} {sA A9 : Option Addr} {lj : List Ev} (h : LiJ w mb A m M ss ls W) (hb : w.heap.size ≤ mb) (ch : Chg (fun j => j = mb) W W2) (hm : MapK W2 mb (m + 1) (metF (M ++ [x]))) (hx : Ext W2 w5) (hBn : w.heap.size ≤ w5.heap.size) (hmn : mb < w5.heap.size) (hc : cntF M x.k = 0)
    (hsj : ss[j]? = some ⟨sA, sn, sc⟩) (hlj : ls[j]? = some lj) (hf : ∀ k, foot A9 c9 k → foot sA sc k ∨ w5.heap.size ≤ k) (hl : Lse w.heap.size w10 A 5 5 (ss.set j ⟨A9, sn + 1, c9⟩) (ls.set j (insE x lj))) (ch2 : Chg (fun k => foot A 5 k ∨ foots ss k) w5 w10) :
    LiJ w mb A (m + 1) (M ++ [x]) (ss.set j ⟨A9, sn + 1, c9⟩) (ls.set j (insE x lj)) w10 := by
  have e5 : Ext w w5 := (h.ext.trans (ch.below h.ext.size (fun k hk e => by omega))).t hx
  refine ⟨hl, h.ok.put hc hlj, fun k hk => ?_, (hm.ext hx).chg ch2 (fun hk => h.off _ hk rfl), e5.trans (ch2.below hBn (fun k hk hf' => by have := h.lse.new k hf'; omega))⟩
  rcases hk with hk | hk
  · exact h.off k (.inl hk)
  · rcases foots_set hk with h1 | h1
    · rcases hf k h1 with h2 | h2
      · exact h.off k (.inr ⟨_, List.mem_of_getElem? hsj, h2⟩)
      · omega
    · exact h.off k (.inr h1)
end
/-- An event is put where it belongs. -/
theorem ins_evs {X : World} {sA : Option Addr} {sn sc q vb : Nat} {x : Ev} {lj : List Ev} (h : RoomS 5 X sA sn sc (lj.flatMap evC)) (hq : q = posE x lj) (hv : Blk X vb 37 (evC x).toArray) (hne : ¬ foot sA sc vb) (hn : sn ≤ 100000) :
    Calls Try.prog 36 #[.slice sA sn sc, .int .i64 (q : Int), .slice (some ⟨vb, 0, none⟩) 1 1] X fun e w' => ∃ A' c', e = .returned (.slice A' (sn + 1) c') ∧ RoomS 5 w' A' (sn + 1) c' ((insE x lj).flatMap evC) ∧ Chg (foot sA sc) X w' ∧ (∀ k, foot A' c' k → foot sA sc k ∨ X.heap.size ≤ k) := by
  subst hq
  have hl : lj.length = sn := (h.rd evC_len (by decide)).1
  refine (ev_ins_all sA sn sc (posE x lj) (lj.flatMap evC) vb 1 (evC x) X h (by have := posE_le x lj; omega) hv rfl (by decide) hne (one_flat evC_one lj) (evC_one x) (by omega)).mono ?_
  rintro e w' ⟨A', c', rfl, h1, h2, h3⟩
  refine ⟨A', c', rfl, ?_, h2, h3⟩
  rw [insE_pos, List.flatMap_append, List.flatMap_append, flat_take evC_len, flat_drop evC_len]
  simpa using h1
/-- What lists leaves. -/
def LisP (l : List Sm) (w : World) (e : Ending) (w' : World) : Prop :=
  ∃ A ss ls, e = .returned (.slice A 5 5) ∧ Lse w.heap.size w' A 5 5 ss ls ∧ LsOk ((l.take 50).map mkE) ls ∧ Ext w w'
set_option maxRecDepth 100000 in
set_option maxHeartbeats 20000000 in
theorem lists_50 (A : Option Addr) (n c : Nat) (l : List Sm) (w : World) (h : SmArg w A n c l) (hnM : (50 : Int) < (n : Int)) :
    Calls Try.prog 31 #[.slice A n c] w (LisP l w) := by
  obtain ⟨L, hL⟩ : ∃ L, L = (l.take 50).map mkE := ⟨_, rfl⟩
  have HLL := Lib.hid hL
  have HLl := Lib.hid (show L.length ≤ 50 by rw [hL, List.length_map, List.length_take]; omega)
  have H := Lib.hid h
  have Hl := Lib.hid h.rd.1
  have hmk := @run_makeMap Try.prog
  have hnc := h.le
  have hMn : 50 ≤ n ∧ 50 ≤ 50 ∧ min 50 n = 50 := by omega
  have hsl := fun w' => sm_to (A := A) (n := n) (c := c) (hi := 50) (li := (50 : Int)) w' rfl (by omega)
  have HLx := Lib.hid (show ∀ k s, k < 50 → l[k]? = some s → L[k]? = some (mkE s) from fun k s h1 h2 => by rw [hL, List.getElem?_map, List.getElem?_take, if_pos (by omega), h2]; rfl)
  have HE := Lib.hid (show L.length = 50 by rw [hL, List.length_map, List.length_take, h.rd.1]; omega)
  have hNn : 50 ≤ n := hMn.1
  clear h hL hMn
  go_enter Try.func31, Try.ntmps31
  go_wp2_with (refine wpl_makeN (n := 5) rfl rfl ul_ee info_ee rfl rfl rfl rfl rfl (by omega) (by unfold maxLen; omega) ?_)
  intro A1 w1 r1 e1 f1; refine Lib.hid ?_
  obtain ⟨mb, hmb⟩ : ∃ mb, mb = w1.heap.size := ⟨_, rfl⟩
  have HBm := Lib.hid (show w.heap.size ≤ mb by rw [hmb]; exact e1.size)
  have H0 : Hid (LiJ w mb A1 0 (L.take 0) (List.replicate 5 ⟨none, 0, 0⟩) (List.replicate 5 []) (w1.alloc (.map #[] 0)) ∧ 0 ≤ 0) := Lib.hid ⟨⟨(Lse.made r1 f1).ext (Ext.alloc _ _), by rw [List.take_zero]; exact LsOk.nil, fun q hq => by have := (Lse.made (n := 5) r1 f1).lt hq; omega, by rw [hmb]; exact MapK.made w1, e1.t (Ext.alloc _ _)⟩, Nat.le_refl _⟩
  clear r1 e1 f1
  go_wp2_with fail
  rw [← hmb]
  generalize w1.alloc (.map #[] 0) = w2 at *
  clear hmb hmk
  go_wp2_with fail
  go_loopw [18] (fun i wr => ∃ (k m : Nat) (ss : List Sl) (ls : List (List Ev)), k ≤ 50 ∧ i = .int .i64 (k : Int) ∧ Hid (LiJ w mb A1 m (L.take k) ss ls wr ∧ m ≤ k)) (fun i _ => 50 - (intOf i).toNat)
  case atStart => exact ⟨0, 0, _, _, by omega, rfl, H0⟩
  case round =>
    clear H0
    obtain ⟨k, m, ss, ls, hk, rfl, HJ⟩ := hrel
    by_cases hlt : k < 50
    · obtain ⟨b, o, s, rfl, _, hx, c0, c1, c2, c3, c4⟩ := (H.out.rd.ext HJ.out.1.ext).sm (k := k) (by omega)
      have hltI : (k : Int) < (50 : Int) := by omega
      have HMd := Lib.hid (fun w' => made_ s w' (H.out.ok s (List.mem_of_getElem? hx)))
      have hLx := HLx.out k s hlt hx
      have HSk := Lib.hid (H.out.ok s (List.mem_of_getElem? hx))
      obtain ⟨x, hxx⟩ : ∃ x, x = mkE s := ⟨_, rfl⟩
      rw [← hxx] at HMd hLx
      have HLx2 := Lib.hid hLx
      have HXo := Lib.hid (show EvOk x by rw [hxx]; exact mkE_ok (H.out.ok s (List.mem_of_getElem? hx)))
      unfold smV at HMd
      obtain ⟨gs, hgs⟩ : ∃ gs, gs = wr.heap.size := ⟨_, rfl⟩
      have hbs := Blk.new wr 75 (smC s).toArray
      rw [← hgs] at hbs
      have HBs := Lib.hid hbs
      have HGs := Lib.hid hgs
      clear hx hxx hLx hgs hbs
      go_wp2_with fail
      refine (HMd.out _).mono ?_; rintro e w2 ⟨rfl, e2⟩
      rw [← HGs.out]
      have E2 := Lib.hid ((Ext.alloc wr (.cells #[.int .u8 (s.t : Int), .int .u8 (s.s : Int), .int .u8 (s.q : Int), .int .u8 (s.o : Int), .int .u8 (s.li : Int)] 75)).t e2)
      have HBs := Lib.hid (HBs.out.ext e2)
      unfold evV
      clear e2 HMd
      obtain ⟨g8, hg8⟩ : ∃ g8, g8 = w2.heap.size := ⟨_, rfl⟩
      have hb8 := Blk.new w2 37 (evC x).toArray
      rw [← hg8] at hb8
      obtain ⟨w8, hw8⟩ : ∃ w8, w8 = w2.alloc (.cells (evC x).toArray 37) := ⟨_, rfl⟩
      have HW8 := Lib.hid hw8
      have HG8 := Lib.hid hg8
      rw [← hw8] at hb8
      have HJ8 := Lib.hid (HJ.out.1.e (show Ext wr w8 by rw [hw8]; exact E2.out.t (Ext.alloc _ _)))
      have HB8 := Lib.hid hb8
      have HBs := Lib.hid (show Blk w8 gs 75 (smC s).toArray by rw [hw8]; exact HBs.out.ext (Ext.alloc _ _))
      have hgm : mb < g8 := by
        have h1 := HJ.out.1.mp.lt
        have h2 := E2.out.size
        omega
      have hgsm : mb < gs := by
        have h1 := HJ.out.1.mp.lt
        have h2 := HGs.out
        omega
      have Hm := Lib.hid HJ.out.2
      clear hw8 hg8 hb8 E2 HJ HGs
      go_upto_region 7 with fail
      change Code.wp _ _ _ _ (w2.alloc (.cells (evC x).toArray 37))
      rw [← HW8.out, ← HG8.out]
      clear HW8 HG8 c0 c1 c2 c3 c4
      obtain ⟨d0, d1, d2, d3, d4⟩ := HB8.out.ev
      have hlk := (HJ8.out.mp.ext (Ext.drew w8)).look1 (ev_key HXo.out)
      have hcl : cntF (L.take k) x.k ≤ 1000000 := by have h1 := cntF_le (L.take k) x.k; rw [List.length_take] at h1; have := HLl.out; omega
      obtain ⟨v0, st, W1, hme, ⟨n1, hM1⟩, ch1, hst⟩ := (HJ8.out.mp.ext (Ext.drew w8)).entry (ev_key HXo.out) (by unfold maxLen; have := Hm.out; omega) (metF_wf (by rw [List.length_take]; have := HLl.out; omega))
      have hlk1 := hM1.look1 (ev_key HXo.out)
      simp only [if_true, Option.getD_some] at hlk1
      obtain ⟨W2, hs2, hM2, ch2⟩ := hst W1 ((cntF (L.take k) x.k : Int) + 1) (Ext.refl _) (wf_i64 (by omega) (by omega))
      rw [metF_snoc] at hM2
      have hlk2 := hM2.look1 (ev_key HXo.out)
      rw [metF_get] at hlk hlk1 hlk2
      rw [cntF_snoc, if_pos rfl] at hlk2
      have ch := ((Chg.drew (T := fun j => j = mb) w8).t ch1).t ch2
      have hg8l := HB8.out.lt
      have HB9 := Lib.hid (HB8.out.chg ch (by omega))
      have HBs9 := Lib.hid (HBs.out.chg ch (by omega))
      obtain ⟨e0, e1, e2, e3, e4⟩ := HB9.out.ev
      have HM2 := Lib.hid hM2
      have HCH := Lib.hid ch
      have HSn := Lib.hid (show L.take (k + 1) = L.take k ++ [x] from take_snoc HLx2.out)
      unfold kyV Ev.k at hlk hlk1 hlk2 hme
      simp only [goInt] at hme hs2
      clear hM1 hM2 ch ch1 ch2 hst HBs HB8
      by_cases hc : cntF (L.take k) x.k = 0
      · have Hc := Lib.hid hc
        unfold Ev.k at hc hs2
        rw [hc] at hlk hlk1 hlk2 hs2
        rw [show (((0 : Nat) : Int) + 1) = 1 from rfl] at hs2
        rw [show ((0 : Nat) : Int) = 0 from rfl] at hlk hlk1
        rw [show ((0 + 1 : Nat) : Int) = 1 from rfl] at hlk2
        have hw1 : IntKind.i64.wrap 1 = 1 := by decide
        clear hc hcl
        go_region_law (fail)
        all_goals
          clear hlk hlk1 hme hs2 d0 d1 d2 d3 d4
          have hs4 := HBs9.out.sm4
          obtain ⟨j, hj⟩ : ∃ j, j = s.li % 5 := ⟨_, rfl⟩
          have hj5 : j < 5 := by omega
          have hj5I : (j : Int) < 5 := by omega
          have hwl : IntKind.i64.wrap ((s.li : Int) % 5) = (j : Int) := by rw [show (s.li : Int) % 5 = (j : Int) by omega]; exact IntWalk.i64_in _ (by omega)
          clear hj
          obtain ⟨⟨sA, sn, sc⟩, hsj⟩ : ∃ s, ss[j]? = some s := ⟨ss[j]'(by have h1 := HJ8.out.lse.n_; have h2 := HJ8.out.lse.len; omega), List.getElem?_eq_getElem _⟩
          have HL2 := Lib.hid (HJ8.out.lse.chg HCH.out (fun k hk e => HJ8.out.off k hk e))
          obtain ⟨lj, hlj, hrj⟩ := HL2.out.at_ j _ hsj
          obtain ⟨ga, oa, rfl, hgl⟩ := HL2.out.room.some_ (by omega)
          have Hsj := Lib.hid hsj
          have Hlj := Lib.hid hlj
          have HRj := Lib.hid (show RoomS 5 W2 sA sn sc (lj.flatMap evC) from hrj)
          have hsn : lj.length = sn := (HRj.out.rd evC_len (by decide)).1
          have Hsn := Lib.hid hsn
          have HN := Lib.hid (show sn ≤ 50 by have h1 := HJ8.out.ok.le (List.mem_of_getElem? hlj); rw [List.length_take] at h1; have := HLl.out; omega)
          clear hsj hlj hrj hsn
          go_wp2_with fail
          obtain ⟨w0, rfl⟩ : ∃ w0, w0 = wr := ⟨_, rfl⟩
          go_loopw [9] (fun nv wx => ∃ q : Nat, nv = .int .i64 (q : Int) ∧ Hid (q ≤ posE x lj) ∧ Hid (Ext W2 wx)) (fun nv _ => sn - (intOf nv).toNat)
          case atStart => exact ⟨0, rfl, Lib.hid (Nat.zero_le _), Lib.hid (Ext.refl _)⟩
          case round =>
            obtain ⟨q, rfl, Hq, HX⟩ := hrel
            have hsn50 := HN.out
            have hca := (HL2.out.ext HX.out).room.cellAt (k := j) (u := slv ⟨sA, sn, sc⟩) (by rw [List.getElem?_map, Hsj.out]; rfl)
            unfold slv at hca
            simp only at hca
            obtain ⟨f0, f1, f2, f3, f4⟩ := (HB9.out.ext HX.out).ev
            clear e0 e1 e2 e3 e4 hs4
            by_cases hqs : q < sn
            · obtain ⟨b', o', y, rfl, _, hy, z0, z1, z2, z3, z4⟩ := ((HRj.out.rd evC_len (by decide)).ext HX.out).ev hqs
              have HBf := Lib.hid (fun w' => less_ y x w')
              unfold evV at HBf
              have Hy := Lib.hid hy
              have hqI : (q : Int) < (sn : Int) := by omega
              clear hy
              go_wp2_with fail
              go_still_tail 16, (by kernel_rfl)
              change wpList _ _ _ _ _ wr.drew
              have HXd := Lib.hid (Ext.drew wr)
              generalize wr.drew = w4 at *
              go_wp2_with fail
              refine (HBf.out _).mono ?_; rintro e w5 ⟨rfl, e5⟩
              have HX5 := Lib.hid ((HX.out.t HXd.out).t e5)
              clear e5 HBf HXd z0 z1 z2 z3 z4 f0 f1 f2 f3 f4 hca
              cases hz : elB y x with
              | true =>
                have Hp := Lib.hid (pos_more Hy.out Hq.out hz)
                clear hz
                go_wp2_with fail
                go_roundw
                case rel => exact ⟨q + 1, by go_num, Hp, HX5⟩
                case measure => simp [intOf]; omega
              | false =>
                have Hp := Lib.hid (pos_stop Hy.out Hq.out hz)
                clear hz
                go_upto_region 13 with fail
                obtain ⟨f0, f1, f2, f3, f4⟩ := (HB9.out.ext HX5.out).ev
                have HL5 := Lib.hid (HL2.out.ext HX5.out)
                have hca := HL5.out.room.cellAt (k := j) (u := slv ⟨(some ⟨b', o', none⟩), sn, sc⟩) (by rw [List.getElem?_map, Hsj.out]; rfl)
                have hg5 : ga < w5.heap.size := HL5.out.lt (.inl ⟨by omega, oa, rfl⟩)
                have HG5 := Lib.hid hg5
                have HBn := Lib.hid (show w.heap.size ≤ w5.heap.size by have h1 := HJ8.out.ext.size; have h2 := HCH.out.size; have h3 := HX5.out.size; omega)
                have HMn := Lib.hid (show mb < w5.heap.size by have h1 := HM2.out.lt; have h3 := HX5.out.size; omega)
                unfold slv at hca
                simp only at hca
                have hcaa := fun ob => (World.cell?_alloc_lt w5 ob ⟨ga, oa + j, none⟩ hg5).trans hca
                have HIn := Lib.hid (fun X (hX : Ext w5 X) (vb : Nat) (hvb : w5.heap.size ≤ vb) (hv : Blk X vb 37 (evC x).toArray) => ins_evs (x := x) (lj := lj) (((HRj.out.ext HX5.out)).ext hX) Hp.out hv (fun hf => by have := (HRj.out.ext HX5.out).lt hf; omega) (by have := HN.out; omega))
                clear hg5
                go_region_law (first
                  | (go_simp; go_at_call 36
                     refine (HIn.out _ (by first | exact (Ext.drew _).t (Ext.alloc _ _) | exact (Ext.alloc _ _).t (Ext.drew _)) _ (by first | exact Nat.le_refl _ | simp) (by first | exact Blk.new w5.drew _ _ | exact (Blk.new w5 _ _).drew)).mono ?_
                     rintro e w9 ⟨A9, c9, rfl, r9, ch9, ft9⟩
                     have hq9 := put_step HL5.out Hsj.out ch9 (by first | exact (Ext.drew _).t (Ext.alloc _ _) | exact (Ext.alloc _ _).t (Ext.drew _)) r9 ft9 HBn.out
                     have HF9 : Hid (∀ k, foot A9 c9 k → foot _ _ k ∨ w5.heap.size ≤ k) := Lib.hid (fun k hk => (ft9 k hk).imp id (fun h => Nat.le_trans (by simp) h))
                     have cg9 := hq9.1
                     have fz9 := hq9.2.1
                     have HG := Lib.hid hq9.2.2
                     clear hq9 r9 ch9 ft9))
                all_goals
                  have HR := Lib.hid (HJ8.out.put HBm.out HCH.out HM2.out HX5.out HBn.out HMn.out Hc.out Hsj.out Hlj.out HF9.out HG.out.1 HG.out.2)
                  rw [← HSn.out] at HR
                  clear HG cg9 fz9 f0 f1 f2 f3 f4 hca hcaa HIn
                  go_wp2_with fail
                  go_roundw
                  case rel => exact ⟨k + 1, m + 1, _, _, by omega, by go_num, Lib.hid ⟨by first | exact HR.out | exact HR.out.e (Ext.drew _), by have := Hm.out; omega⟩⟩
                  case measure => simp [intOf]; omega
            · have hqI : ¬ ((q : Int) < (sn : Int)) := by omega
              have Hp : Hid (q = posE x lj) := Lib.hid (by have h1 := Hq.out; have h2 := posE_le x lj; have h3 := Hsn.out; omega)
              go_wp2_with fail
              go_quiet (fail)
              go_upto_region 13 with fail
              have HX5 := Lib.hid (HX.out.t (Ext.drewN wr nq))
              generalize wr.drewN nq = w5 at *
              clear f0 f1 f2 f3 f4 hca
              obtain ⟨f0, f1, f2, f3, f4⟩ := (HB9.out.ext HX5.out).ev
              have HL5 := Lib.hid (HL2.out.ext HX5.out)
              have hca := HL5.out.room.cellAt (k := j) (u := slv ⟨sA, sn, sc⟩) (by rw [List.getElem?_map, Hsj.out]; rfl)
              have hg5 : ga < w5.heap.size := HL5.out.lt (.inl ⟨by omega, oa, rfl⟩)
              have HG5 := Lib.hid hg5
              have HBn := Lib.hid (show w.heap.size ≤ w5.heap.size by have h1 := HJ8.out.ext.size; have h2 := HCH.out.size; have h3 := HX5.out.size; omega)
              have HMn := Lib.hid (show mb < w5.heap.size by have h1 := HM2.out.lt; have h3 := HX5.out.size; omega)
              unfold slv at hca
              simp only at hca
              have hcaa := fun ob => (World.cell?_alloc_lt w5 ob ⟨ga, oa + j, none⟩ hg5).trans hca
              have HIn := Lib.hid (fun X (hX : Ext w5 X) (vb : Nat) (hvb : w5.heap.size ≤ vb) (hv : Blk X vb 37 (evC x).toArray) => ins_evs (x := x) (lj := lj) (((HRj.out.ext HX5.out)).ext hX) Hp.out hv (fun hf => by have := (HRj.out.ext HX5.out).lt hf; omega) (by have := HN.out; omega))
              clear hg5
              go_region_law (first
                | (go_simp; go_at_call 36
                   refine (HIn.out _ (by first | exact (Ext.drew _).t (Ext.alloc _ _) | exact (Ext.alloc _ _).t (Ext.drew _)) _ (by first | exact Nat.le_refl _ | simp) (by first | exact Blk.new w5.drew _ _ | exact (Blk.new w5 _ _).drew)).mono ?_
                   rintro e w9 ⟨A9, c9, rfl, r9, ch9, ft9⟩
                   have hq9 := put_step HL5.out Hsj.out ch9 (by first | exact (Ext.drew _).t (Ext.alloc _ _) | exact (Ext.alloc _ _).t (Ext.drew _)) r9 ft9 HBn.out
                   have HF9 : Hid (∀ k, foot A9 c9 k → foot _ _ k ∨ w5.heap.size ≤ k) := Lib.hid (fun k hk => (ft9 k hk).imp id (fun h => Nat.le_trans (by simp) h))
                   have cg9 := hq9.1
                   have fz9 := hq9.2.1
                   have HG := Lib.hid hq9.2.2
                   clear hq9 r9 ch9 ft9))
              all_goals
                have HR := Lib.hid (HJ8.out.put HBm.out HCH.out HM2.out HX5.out HBn.out HMn.out Hc.out Hsj.out Hlj.out HF9.out HG.out.1 HG.out.2)
                rw [← HSn.out] at HR
                clear HG cg9 fz9 f0 f1 f2 f3 f4 hca hcaa HIn
                go_wp2_with fail
                go_roundw
                case rel => exact ⟨k + 1, m + 1, _, _, by omega, by go_num, Lib.hid ⟨by first | exact HR.out | exact HR.out.e (Ext.drew _), by have := Hm.out; omega⟩⟩
                case measure => simp [intOf]; omega
      · have HR := Lib.hid (HJ8.out.old HBm.out HCH.out HM2.out hc)
        rw [← HSn.out] at HR
        unfold Ev.k at hc hcl hs2
        have hwq : IntKind.i64.wrap ((cntF (L.take k) ⟨x.t, x.s, x.q⟩ : Int) + 1) = (cntF (L.take k) ⟨x.t, x.s, x.q⟩ : Int) + 1 := IntWalk.i64_in _ (by omega)
        rw [show ((cntF (L.take k) ⟨x.t, x.s, x.q⟩ + 1 : Nat) : Int) = (cntF (L.take k) ⟨x.t, x.s, x.q⟩ : Int) + 1 from rfl] at hlk2
        have hgt : decide ((cntF (L.take k) ⟨x.t, x.s, x.q⟩ : Int) + 1 > 1) = true := by simp; omega
        generalize cntF (L.take k) ⟨x.t, x.s, x.q⟩ = q at *
        clear hcl
        go_region_law (fail)
        all_goals
          clear hlk hlk1 hme hs2 d0 d1 d2 d3 d4
          go_wp2_with fail
          go_roundw
          case rel => exact ⟨k + 1, m + 1, ss, ls, by omega, by go_num, Lib.hid ⟨HR.out, by have := Hm.out; omega⟩⟩
          case measure => simp [intOf]; omega
    · obtain rfl : k = 50 := by omega
      have HL := Lib.hid HJ.out.1
      rw [List.take_of_length_le (by have := HE.out; omega)] at HL
      clear HJ
      go_wp2_with fail
      go_ret
      exact ⟨A1, ss, ls, rfl, HL.out.lse, by rw [← HLL.out]; exact HL.out.ok, HL.out.ext⟩
set_option maxRecDepth 100000 in
set_option maxHeartbeats 20000000 in
theorem lists_n (A : Option Addr) (n c : Nat) (l : List Sm) (w : World) (h : SmArg w A n c l) (hnM : ¬ ((50 : Int) < (n : Int))) :
    Calls Try.prog 31 #[.slice A n c] w (LisP l w) := by
  obtain ⟨L, hL⟩ : ∃ L, L = (l.take 50).map mkE := ⟨_, rfl⟩
  have HLL := Lib.hid hL
  have HLl := Lib.hid (show L.length ≤ 50 by rw [hL, List.length_map, List.length_take]; omega)
  have H := Lib.hid h
  have Hl := Lib.hid h.rd.1
  have hmk := @run_makeMap Try.prog
  have hnc := h.le
  have hMn : n ≤ n ∧ n ≤ 50 ∧ min 50 n = n := by omega
  have hsl := fun w' => sm_to (A := A) (n := n) (c := c) (hi := n) (li := (n : Int)) w' rfl (by omega)
  have HLx := Lib.hid (show ∀ k s, k < n → l[k]? = some s → L[k]? = some (mkE s) from fun k s h1 h2 => by rw [hL, List.getElem?_map, List.getElem?_take, if_pos (by omega), h2]; rfl)
  have HE := Lib.hid (show L.length = n by rw [hL, List.length_map, List.length_take, h.rd.1]; omega)
  have hNn : n ≤ n := hMn.1
  clear h hL hMn
  go_enter Try.func31, Try.ntmps31
  go_wp2_with (refine wpl_makeN (n := 5) rfl rfl ul_ee info_ee rfl rfl rfl rfl rfl (by omega) (by unfold maxLen; omega) ?_)
  intro A1 w1 r1 e1 f1; refine Lib.hid ?_
  obtain ⟨mb, hmb⟩ : ∃ mb, mb = w1.heap.size := ⟨_, rfl⟩
  have HBm := Lib.hid (show w.heap.size ≤ mb by rw [hmb]; exact e1.size)
  have H0 : Hid (LiJ w mb A1 0 (L.take 0) (List.replicate 5 ⟨none, 0, 0⟩) (List.replicate 5 []) (w1.alloc (.map #[] 0)) ∧ 0 ≤ 0) := Lib.hid ⟨⟨(Lse.made r1 f1).ext (Ext.alloc _ _), by rw [List.take_zero]; exact LsOk.nil, fun q hq => by have := (Lse.made (n := 5) r1 f1).lt hq; omega, by rw [hmb]; exact MapK.made w1, e1.t (Ext.alloc _ _)⟩, Nat.le_refl _⟩
  clear r1 e1 f1
  go_wp2_with fail
  rw [← hmb]
  generalize w1.alloc (.map #[] 0) = w2 at *
  clear hmb hmk
  go_wp2_with fail
  go_loopw [18] (fun i wr => ∃ (k m : Nat) (ss : List Sl) (ls : List (List Ev)), k ≤ n ∧ i = .int .i64 (k : Int) ∧ Hid (LiJ w mb A1 m (L.take k) ss ls wr ∧ m ≤ k)) (fun i _ => n - (intOf i).toNat)
  case atStart => exact ⟨0, 0, _, _, by omega, rfl, H0⟩
  case round =>
    clear H0
    obtain ⟨k, m, ss, ls, hk, rfl, HJ⟩ := hrel
    by_cases hlt : k < n
    · obtain ⟨b, o, s, rfl, _, hx, c0, c1, c2, c3, c4⟩ := (H.out.rd.ext HJ.out.1.ext).sm (k := k) (by omega)
      have hltI : (k : Int) < (n : Int) := by omega
      have HMd := Lib.hid (fun w' => made_ s w' (H.out.ok s (List.mem_of_getElem? hx)))
      have hLx := HLx.out k s hlt hx
      have HSk := Lib.hid (H.out.ok s (List.mem_of_getElem? hx))
      obtain ⟨x, hxx⟩ : ∃ x, x = mkE s := ⟨_, rfl⟩
      rw [← hxx] at HMd hLx
      have HLx2 := Lib.hid hLx
      have HXo := Lib.hid (show EvOk x by rw [hxx]; exact mkE_ok (H.out.ok s (List.mem_of_getElem? hx)))
      unfold smV at HMd
      obtain ⟨gs, hgs⟩ : ∃ gs, gs = wr.heap.size := ⟨_, rfl⟩
      have hbs := Blk.new wr 75 (smC s).toArray
      rw [← hgs] at hbs
      have HBs := Lib.hid hbs
      have HGs := Lib.hid hgs
      clear hx hxx hLx hgs hbs
      go_wp2_with fail
      refine (HMd.out _).mono ?_; rintro e w2 ⟨rfl, e2⟩
      rw [← HGs.out]
      have E2 := Lib.hid ((Ext.alloc wr (.cells #[.int .u8 (s.t : Int), .int .u8 (s.s : Int), .int .u8 (s.q : Int), .int .u8 (s.o : Int), .int .u8 (s.li : Int)] 75)).t e2)
      have HBs := Lib.hid (HBs.out.ext e2)
      unfold evV
      clear e2 HMd
      obtain ⟨g8, hg8⟩ : ∃ g8, g8 = w2.heap.size := ⟨_, rfl⟩
      have hb8 := Blk.new w2 37 (evC x).toArray
      rw [← hg8] at hb8
      obtain ⟨w8, hw8⟩ : ∃ w8, w8 = w2.alloc (.cells (evC x).toArray 37) := ⟨_, rfl⟩
      have HW8 := Lib.hid hw8
      have HG8 := Lib.hid hg8
      rw [← hw8] at hb8
      have HJ8 := Lib.hid (HJ.out.1.e (show Ext wr w8 by rw [hw8]; exact E2.out.t (Ext.alloc _ _)))
      have HB8 := Lib.hid hb8
      have HBs := Lib.hid (show Blk w8 gs 75 (smC s).toArray by rw [hw8]; exact HBs.out.ext (Ext.alloc _ _))
      have hgm : mb < g8 := by
        have h1 := HJ.out.1.mp.lt
        have h2 := E2.out.size
        omega
      have hgsm : mb < gs := by
        have h1 := HJ.out.1.mp.lt
        have h2 := HGs.out
        omega
      have Hm := Lib.hid HJ.out.2
      clear hw8 hg8 hb8 E2 HJ HGs
      go_upto_region 7 with fail
      change Code.wp _ _ _ _ (w2.alloc (.cells (evC x).toArray 37))
      rw [← HW8.out, ← HG8.out]
      clear HW8 HG8 c0 c1 c2 c3 c4
      obtain ⟨d0, d1, d2, d3, d4⟩ := HB8.out.ev
      have hlk := (HJ8.out.mp.ext (Ext.drew w8)).look1 (ev_key HXo.out)
      have hcl : cntF (L.take k) x.k ≤ 1000000 := by have h1 := cntF_le (L.take k) x.k; rw [List.length_take] at h1; have := HLl.out; omega
      obtain ⟨v0, st, W1, hme, ⟨n1, hM1⟩, ch1, hst⟩ := (HJ8.out.mp.ext (Ext.drew w8)).entry (ev_key HXo.out) (by unfold maxLen; have := Hm.out; omega) (metF_wf (by rw [List.length_take]; have := HLl.out; omega))
      have hlk1 := hM1.look1 (ev_key HXo.out)
      simp only [if_true, Option.getD_some] at hlk1
      obtain ⟨W2, hs2, hM2, ch2⟩ := hst W1 ((cntF (L.take k) x.k : Int) + 1) (Ext.refl _) (wf_i64 (by omega) (by omega))
      rw [metF_snoc] at hM2
      have hlk2 := hM2.look1 (ev_key HXo.out)
      rw [metF_get] at hlk hlk1 hlk2
      rw [cntF_snoc, if_pos rfl] at hlk2
      have ch := ((Chg.drew (T := fun j => j = mb) w8).t ch1).t ch2
      have hg8l := HB8.out.lt
      have HB9 := Lib.hid (HB8.out.chg ch (by omega))
      have HBs9 := Lib.hid (HBs.out.chg ch (by omega))
      obtain ⟨e0, e1, e2, e3, e4⟩ := HB9.out.ev
      have HM2 := Lib.hid hM2
      have HCH := Lib.hid ch
      have HSn := Lib.hid (show L.take (k + 1) = L.take k ++ [x] from take_snoc HLx2.out)
      unfold kyV Ev.k at hlk hlk1 hlk2 hme
      simp only [goInt] at hme hs2
      clear hM1 hM2 ch ch1 ch2 hst HBs HB8
      by_cases hc : cntF (L.take k) x.k = 0
      · have Hc := Lib.hid hc
        unfold Ev.k at hc hs2
        rw [hc] at hlk hlk1 hlk2 hs2
        rw [show (((0 : Nat) : Int) + 1) = 1 from rfl] at hs2
        rw [show ((0 : Nat) : Int) = 0 from rfl] at hlk hlk1
        rw [show ((0 + 1 : Nat) : Int) = 1 from rfl] at hlk2
        have hw1 : IntKind.i64.wrap 1 = 1 := by decide
        clear hc hcl
        go_region_law (fail)
        all_goals
          clear hlk hlk1 hme hs2 d0 d1 d2 d3 d4
          have hs4 := HBs9.out.sm4
          obtain ⟨j, hj⟩ : ∃ j, j = s.li % 5 := ⟨_, rfl⟩
          have hj5 : j < 5 := by omega
          have hj5I : (j : Int) < 5 := by omega
          have hwl : IntKind.i64.wrap ((s.li : Int) % 5) = (j : Int) := by rw [show (s.li : Int) % 5 = (j : Int) by omega]; exact IntWalk.i64_in _ (by omega)
          clear hj
          obtain ⟨⟨sA, sn, sc⟩, hsj⟩ : ∃ s, ss[j]? = some s := ⟨ss[j]'(by have h1 := HJ8.out.lse.n_; have h2 := HJ8.out.lse.len; omega), List.getElem?_eq_getElem _⟩
          have HL2 := Lib.hid (HJ8.out.lse.chg HCH.out (fun k hk e => HJ8.out.off k hk e))
          obtain ⟨lj, hlj, hrj⟩ := HL2.out.at_ j _ hsj
          obtain ⟨ga, oa, rfl, hgl⟩ := HL2.out.room.some_ (by omega)
          have Hsj := Lib.hid hsj
          have Hlj := Lib.hid hlj
          have HRj := Lib.hid (show RoomS 5 W2 sA sn sc (lj.flatMap evC) from hrj)
          have hsn : lj.length = sn := (HRj.out.rd evC_len (by decide)).1
          have Hsn := Lib.hid hsn
          have HN := Lib.hid (show sn ≤ 50 by have h1 := HJ8.out.ok.le (List.mem_of_getElem? hlj); rw [List.length_take] at h1; have := HLl.out; omega)
          clear hsj hlj hrj hsn
          go_wp2_with fail
          obtain ⟨w0, rfl⟩ : ∃ w0, w0 = wr := ⟨_, rfl⟩
          go_loopw [9] (fun nv wx => ∃ q : Nat, nv = .int .i64 (q : Int) ∧ Hid (q ≤ posE x lj) ∧ Hid (Ext W2 wx)) (fun nv _ => sn - (intOf nv).toNat)
          case atStart => exact ⟨0, rfl, Lib.hid (Nat.zero_le _), Lib.hid (Ext.refl _)⟩
          case round =>
            obtain ⟨q, rfl, Hq, HX⟩ := hrel
            have hsn50 := HN.out
            have hca := (HL2.out.ext HX.out).room.cellAt (k := j) (u := slv ⟨sA, sn, sc⟩) (by rw [List.getElem?_map, Hsj.out]; rfl)
            unfold slv at hca
            simp only at hca
            obtain ⟨f0, f1, f2, f3, f4⟩ := (HB9.out.ext HX.out).ev
            clear e0 e1 e2 e3 e4 hs4
            by_cases hqs : q < sn
            · obtain ⟨b', o', y, rfl, _, hy, z0, z1, z2, z3, z4⟩ := ((HRj.out.rd evC_len (by decide)).ext HX.out).ev hqs
              have HBf := Lib.hid (fun w' => less_ y x w')
              unfold evV at HBf
              have Hy := Lib.hid hy
              have hqI : (q : Int) < (sn : Int) := by omega
              clear hy
              go_wp2_with fail
              go_still_tail 16, (by kernel_rfl)
              change wpList _ _ _ _ _ wr.drew
              have HXd := Lib.hid (Ext.drew wr)
              generalize wr.drew = w4 at *
              go_wp2_with fail
              refine (HBf.out _).mono ?_; rintro e w5 ⟨rfl, e5⟩
              have HX5 := Lib.hid ((HX.out.t HXd.out).t e5)
              clear e5 HBf HXd z0 z1 z2 z3 z4 f0 f1 f2 f3 f4 hca
              cases hz : elB y x with
              | true =>
                have Hp := Lib.hid (pos_more Hy.out Hq.out hz)
                clear hz
                go_wp2_with fail
                go_roundw
                case rel => exact ⟨q + 1, by go_num, Hp, HX5⟩
                case measure => simp [intOf]; omega
              | false =>
                have Hp := Lib.hid (pos_stop Hy.out Hq.out hz)
                clear hz
                go_upto_region 13 with fail
                obtain ⟨f0, f1, f2, f3, f4⟩ := (HB9.out.ext HX5.out).ev
                have HL5 := Lib.hid (HL2.out.ext HX5.out)
                have hca := HL5.out.room.cellAt (k := j) (u := slv ⟨(some ⟨b', o', none⟩), sn, sc⟩) (by rw [List.getElem?_map, Hsj.out]; rfl)
                have hg5 : ga < w5.heap.size := HL5.out.lt (.inl ⟨by omega, oa, rfl⟩)
                have HG5 := Lib.hid hg5
                have HBn := Lib.hid (show w.heap.size ≤ w5.heap.size by have h1 := HJ8.out.ext.size; have h2 := HCH.out.size; have h3 := HX5.out.size; omega)
                have HMn := Lib.hid (show mb < w5.heap.size by have h1 := HM2.out.lt; have h3 := HX5.out.size; omega)
                unfold slv at hca
                simp only at hca
                have hcaa := fun ob => (World.cell?_alloc_lt w5 ob ⟨ga, oa + j, none⟩ hg5).trans hca
                have HIn := Lib.hid (fun X (hX : Ext w5 X) (vb : Nat) (hvb : w5.heap.size ≤ vb) (hv : Blk X vb 37 (evC x).toArray) => ins_evs (x := x) (lj := lj) (((HRj.out.ext HX5.out)).ext hX) Hp.out hv (fun hf => by have := (HRj.out.ext HX5.out).lt hf; omega) (by have := HN.out; omega))
                clear hg5
                go_region_law (first
                  | (go_simp; go_at_call 36
                     refine (HIn.out _ (by first | exact (Ext.drew _).t (Ext.alloc _ _) | exact (Ext.alloc _ _).t (Ext.drew _)) _ (by first | exact Nat.le_refl _ | simp) (by first | exact Blk.new w5.drew _ _ | exact (Blk.new w5 _ _).drew)).mono ?_
                     rintro e w9 ⟨A9, c9, rfl, r9, ch9, ft9⟩
                     have hq9 := put_step HL5.out Hsj.out ch9 (by first | exact (Ext.drew _).t (Ext.alloc _ _) | exact (Ext.alloc _ _).t (Ext.drew _)) r9 ft9 HBn.out
                     have HF9 : Hid (∀ k, foot A9 c9 k → foot _ _ k ∨ w5.heap.size ≤ k) := Lib.hid (fun k hk => (ft9 k hk).imp id (fun h => Nat.le_trans (by simp) h))
                     have cg9 := hq9.1
                     have fz9 := hq9.2.1
                     have HG := Lib.hid hq9.2.2
                     clear hq9 r9 ch9 ft9))
                all_goals
                  have HR := Lib.hid (HJ8.out.put HBm.out HCH.out HM2.out HX5.out HBn.out HMn.out Hc.out Hsj.out Hlj.out HF9.out HG.out.1 HG.out.2)
                  rw [← HSn.out] at HR
                  clear HG cg9 fz9 f0 f1 f2 f3 f4 hca hcaa HIn
                  go_wp2_with fail
                  go_roundw
                  case rel => exact ⟨k + 1, m + 1, _, _, by omega, by go_num, Lib.hid ⟨by first | exact HR.out | exact HR.out.e (Ext.drew _), by have := Hm.out; omega⟩⟩
                  case measure => simp [intOf]; omega
            · have hqI : ¬ ((q : Int) < (sn : Int)) := by omega
              have Hp : Hid (q = posE x lj) := Lib.hid (by have h1 := Hq.out; have h2 := posE_le x lj; have h3 := Hsn.out; omega)
              go_wp2_with fail
              go_quiet (fail)
              go_upto_region 13 with fail
              have HX5 := Lib.hid (HX.out.t (Ext.drewN wr nq))
              generalize wr.drewN nq = w5 at *
              clear f0 f1 f2 f3 f4 hca
              obtain ⟨f0, f1, f2, f3, f4⟩ := (HB9.out.ext HX5.out).ev
              have HL5 := Lib.hid (HL2.out.ext HX5.out)
              have hca := HL5.out.room.cellAt (k := j) (u := slv ⟨sA, sn, sc⟩) (by rw [List.getElem?_map, Hsj.out]; rfl)
              have hg5 : ga < w5.heap.size := HL5.out.lt (.inl ⟨by omega, oa, rfl⟩)
              have HG5 := Lib.hid hg5
              have HBn := Lib.hid (show w.heap.size ≤ w5.heap.size by have h1 := HJ8.out.ext.size; have h2 := HCH.out.size; have h3 := HX5.out.size; omega)
              have HMn := Lib.hid (show mb < w5.heap.size by have h1 := HM2.out.lt; have h3 := HX5.out.size; omega)
              unfold slv at hca
              simp only at hca
              have hcaa := fun ob => (World.cell?_alloc_lt w5 ob ⟨ga, oa + j, none⟩ hg5).trans hca
              have HIn := Lib.hid (fun X (hX : Ext w5 X) (vb : Nat) (hvb : w5.heap.size ≤ vb) (hv : Blk X vb 37 (evC x).toArray) => ins_evs (x := x) (lj := lj) (((HRj.out.ext HX5.out)).ext hX) Hp.out hv (fun hf => by have := (HRj.out.ext HX5.out).lt hf; omega) (by have := HN.out; omega))
              clear hg5
              go_region_law (first
                | (go_simp; go_at_call 36
                   refine (HIn.out _ (by first | exact (Ext.drew _).t (Ext.alloc _ _) | exact (Ext.alloc _ _).t (Ext.drew _)) _ (by first | exact Nat.le_refl _ | simp) (by first | exact Blk.new w5.drew _ _ | exact (Blk.new w5 _ _).drew)).mono ?_
                   rintro e w9 ⟨A9, c9, rfl, r9, ch9, ft9⟩
                   have hq9 := put_step HL5.out Hsj.out ch9 (by first | exact (Ext.drew _).t (Ext.alloc _ _) | exact (Ext.alloc _ _).t (Ext.drew _)) r9 ft9 HBn.out
                   have HF9 : Hid (∀ k, foot A9 c9 k → foot _ _ k ∨ w5.heap.size ≤ k) := Lib.hid (fun k hk => (ft9 k hk).imp id (fun h => Nat.le_trans (by simp) h))
                   have cg9 := hq9.1
                   have fz9 := hq9.2.1
                   have HG := Lib.hid hq9.2.2
                   clear hq9 r9 ch9 ft9))
              all_goals
                have HR := Lib.hid (HJ8.out.put HBm.out HCH.out HM2.out HX5.out HBn.out HMn.out Hc.out Hsj.out Hlj.out HF9.out HG.out.1 HG.out.2)
                rw [← HSn.out] at HR
                clear HG cg9 fz9 f0 f1 f2 f3 f4 hca hcaa HIn
                go_wp2_with fail
                go_roundw
                case rel => exact ⟨k + 1, m + 1, _, _, by omega, by go_num, Lib.hid ⟨by first | exact HR.out | exact HR.out.e (Ext.drew _), by have := Hm.out; omega⟩⟩
                case measure => simp [intOf]; omega
      · have HR := Lib.hid (HJ8.out.old HBm.out HCH.out HM2.out hc)
        rw [← HSn.out] at HR
        unfold Ev.k at hc hcl hs2
        have hwq : IntKind.i64.wrap ((cntF (L.take k) ⟨x.t, x.s, x.q⟩ : Int) + 1) = (cntF (L.take k) ⟨x.t, x.s, x.q⟩ : Int) + 1 := IntWalk.i64_in _ (by omega)
        rw [show ((cntF (L.take k) ⟨x.t, x.s, x.q⟩ + 1 : Nat) : Int) = (cntF (L.take k) ⟨x.t, x.s, x.q⟩ : Int) + 1 from rfl] at hlk2
        have hgt : decide ((cntF (L.take k) ⟨x.t, x.s, x.q⟩ : Int) + 1 > 1) = true := by simp; omega
        generalize cntF (L.take k) ⟨x.t, x.s, x.q⟩ = q at *
        clear hcl
        go_region_law (fail)
        all_goals
          clear hlk hlk1 hme hs2 d0 d1 d2 d3 d4
          go_wp2_with fail
          go_roundw
          case rel => exact ⟨k + 1, m + 1, ss, ls, by omega, by go_num, Lib.hid ⟨HR.out, by have := Hm.out; omega⟩⟩
          case measure => simp [intOf]; omega
    · obtain rfl : k = n := by omega
      have HL := Lib.hid HJ.out.1
      rw [List.take_of_length_le (by have := HE.out; omega)] at HL
      clear HJ
      go_wp2_with fail
      go_ret
      exact ⟨A1, ss, ls, rfl, HL.out.lse, by rw [← HLL.out]; exact HL.out.ok, HL.out.ext⟩
theorem lists_ (A : Option Addr) (n c : Nat) (l : List Sm) (w : World) (h : SmArg w A n c l) :
    Calls Try.prog 31 #[.slice A n c] w (LisP l w) := by
  by_cases hnM : (50 : Int) < (n : Int)
  · exact lists_50 A n c l w h hnM
  · exact lists_n A n c l w h hnM
end Go.Proofs.Ytkeapijehfacfaa
