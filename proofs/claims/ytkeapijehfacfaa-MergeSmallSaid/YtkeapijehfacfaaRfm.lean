/- Rfm: the reference's merge and its least list. -/
import Derived.Test.YtkeapijehfacfaaRfb
import Derived.Test.YtkeapijehfacfaaMls
namespace Go.Fx
open Go.RowKit
theorem Rd.get {α : Type} {f : α → Value} {w : World} {A : Option Addr} {n k : Nat} {xs : List α} {x : α} (h : Rd f w A n xs) (hx : xs[k]? = some x) : ∃ b o, A = some ⟨b, o, none⟩ ∧ w.cell? ⟨b, o + k, none⟩ = some (f x) := by
  obtain ⟨b, o, y, h1, _, h3, h4⟩ := h.at_ (k := k) (by have := (List.getElem?_eq_some_iff.1 hx).1; have := h.1; omega)
  obtain rfl : x = y := by rw [hx] at h3; exact Option.some.inj h3
  exact ⟨b, o, h1, h4⟩
/-- What holds ahead of the list k of the reference's merge. -/
structure MgO (ls : List (List Ev)) (k : Nat) (r : List Ev) : Prop where
  srt : Srt r
  perm : r.Perm (ls.take k).flatten
  tw : ∃ s, (∀ q, q ∈ s ↔ hasK r q = true) ∧ twF [] 0 ls = twF s k (ls.drop k)
/-- .. and ahead of its event j. -/
structure MgI (ls : List (List Ev)) (k j : Nat) (l : List Ev) (r : List Ev) : Prop where
  srt : Srt r
  perm : r.Perm ((ls.take k).flatten ++ l.take j)
  tw : ∃ s, (∀ q, q ∈ s ↔ hasK r q = true) ∧ twF [] 0 ls = twI s (l.drop j) k (ls.drop (k + 1))
section
variable {ls : List (List Ev)} {k j : Nat} {l r : List Ev} {x : Ev}
theorem MgO.start : MgO ls 0 [] := ⟨List.Pairwise.nil, by simp, [], by simp [hasK], rfl⟩
theorem MgO.into (h : MgO ls k r) (hl : ls[k]? = some l) : MgI ls k 0 l r := by
  obtain ⟨s, h1, h2⟩ := h.tw
  exact ⟨h.srt, by simpa using h.perm, s, h1, by rw [h2, drop_at hl, twF_cons, List.drop_zero]⟩
theorem MgI.hit (h : MgI ls k j l r) (hx : l[j]? = some x) (hk : hasK r x.k = true) : twF [] 0 ls = some k := by
  obtain ⟨s, h1, h2⟩ := h.tw
  rw [h2, drop_at hx, twI_hit ((h1 _).2 hk)]
theorem MgI.put (h : MgI ls k j l r) (hx : l[j]? = some x) (hk : hasK r x.k = false) : MgI ls k (j + 1) l (insE x r) := by
  obtain ⟨s, h1, h2⟩ := h.tw
  refine ⟨insE_srt h.srt (fun y hy e => ?_), ?_, x.k :: s, fun q => ?_, ?_⟩
  · rw [hasK_iff.2 ⟨y, hy, e⟩] at hk; cases hk
  · rw [take_snoc hx, ← List.append_assoc]
    exact (insE_perm x r).trans ((h.perm.cons x).trans (List.perm_append_singleton x _).symm)
  · rw [List.mem_cons, h1]
    constructor
    · rintro (rfl | hq)
      · exact hasK_iff.2 ⟨x, (insE_perm x r).mem_iff.2 (by simp), rfl⟩
      · obtain ⟨y, hy, e⟩ := hasK_iff.1 hq
        exact hasK_iff.2 ⟨y, (insE_perm x r).mem_iff.2 (by simp [hy]), e⟩
    · intro hq
      obtain ⟨y, hy, e⟩ := hasK_iff.1 hq
      rcases List.mem_cons.1 ((insE_perm x r).mem_iff.1 hy) with rfl | hy
      · exact .inl e.symm
      · exact .inr (hasK_iff.2 ⟨y, hy, e⟩)
  · rw [h2, drop_at hx, twI_step (fun hs => by rw [(h1 _).1 hs] at hk; cases hk)]
theorem MgI.out (h : MgI ls k j l r) (hl : ls[k]? = some l) (hj : l.length ≤ j) : MgO ls (k + 1) r := by
  obtain ⟨s, h1, h2⟩ := h.tw
  refine ⟨h.srt, ?_, s, h1, ?_⟩
  · have h3 := h.perm
    rw [List.take_of_length_le hj] at h3
    rw [take_snoc hl, List.flatten_append, List.flatten_cons, List.flatten_nil, List.append_nil]
    exact h3
  · rw [h2, List.drop_eq_nil_of_le hj, twI_nil]
theorem MgO.fin (h : MgO ls k r) (hk : ls.length ≤ k) : twF [] 0 ls = none ∧ isort ls.flatten = r := by
  obtain ⟨s, h1, h2⟩ := h.tw
  refine ⟨by rw [h2, List.drop_eq_nil_of_le hk]; rfl, isort_unique h.srt ?_⟩
  have h3 := h.perm
  rwa [List.take_of_length_le hk] at h3
theorem MgI.le (h : MgI ls k j l r) (hl : ls[k]? = some l) : r.length ≤ ls.flatten.length := by
  rw [h.perm.length_eq]
  have h1 : ls = ls.take k ++ (l :: ls.drop (k + 1)) := by rw [← drop_at hl, List.take_append_drop]
  have h2 : (l.take j).length ≤ l.length := by rw [List.length_take]; omega
  have h3 := congrArg (fun z => z.flatten.length) h1
  simp only [List.flatten_append, List.flatten_cons, List.length_append] at h3 ⊢
  omega
end
/-! The least list from behind. -/
def bestOf (a b : Option (Nat × Ev)) : Option (Nat × Ev) := match a, b with
  | none, b => b
  | some p, none => some p
  | some p, some q => if elB q.2 p.2 = true then some q else some p
theorem bestOf_none (a : Option (Nat × Ev)) : bestOf a none = a := by cases a <;> rfl
theorem bestOf_assoc (a b c : Option (Nat × Ev)) : bestOf (bestOf a b) c = bestOf a (bestOf b c) := by
  cases a with
  | none => rfl
  | some p =>
    cases b with
    | none => rfl
    | some q =>
      cases c with
      | none => rw [bestOf_none, bestOf_none]
      | some z =>
        simp only [bestOf]
        by_cases h1 : elB q.2 p.2 = true
        · rw [if_pos h1]
          by_cases h2 : elB z.2 q.2 = true
          · simp only [h2, if_true, el_tr h2 h1]
          · simp only [h2]; simp [h1]
        · rw [if_neg h1]
          by_cases h2 : elB z.2 q.2 = true
          · simp only [h2, if_true]
          · simp only [h2]
            have h3 : ¬ elB z.2 p.2 = true := by
              intro h3
              rcases el_tri q.2 p.2 with h4 | h4 | h4
              · exact h1 h4
              · apply h2; unfold elB at h3 ⊢; rw [h4]; exact h3
              · exact h2 (el_tr h3 h4)
            simp [h3, h1]
theorem leastA_best : ∀ (rest : List (List Ev)) (i : Nat) (b : Option (Nat × Ev)), leastA i b rest = bestOf b (leastA i none rest)
  | [], i, b => (bestOf_none b).symm
  | [] :: rest, i, b => leastA_best rest (i + 1) b
  | (x :: xs) :: rest, i, none => rfl
  | (x :: xs) :: rest, i, some (j, y) => by
    rw [show leastA i (some (j, y)) ((x :: xs) :: rest) = leastA (i + 1) (bestOf (some (j, y)) (some (i, x))) rest from rfl]
    rw [show leastA i none ((x :: xs) :: rest) = leastA (i + 1) (some (i, x)) rest from rfl]
    rw [leastA_best rest (i + 1) (bestOf _ _), leastA_best rest (i + 1) (some (i, x)), bestOf_assoc]
def bestI (b : Option (Nat × Ev)) : Int := match b with | none => -1 | some (j, _) => (j : Int)
theorem least_skip {ls : List (List Ev)} {k : Nat} (h : ls[k]? = some []) : leastA k none (ls.drop k) = leastA (k + 1) none (ls.drop (k + 1)) := by rw [drop_at h]; rfl
theorem least_cons {ls : List (List Ev)} {k : Nat} {x : Ev} {l : List Ev} (h : ls[k]? = some (x :: l)) : leastA k none (ls.drop k) = bestOf (some (k, x)) (leastA (k + 1) none (ls.drop (k + 1))) := by
  rw [drop_at h, show leastA k none ((x :: l) :: ls.drop (k + 1)) = leastA (k + 1) (some (k, x)) (ls.drop (k + 1)) from rfl, leastA_best]
end Go.Fx
namespace Go.Proofs.Ytkeapijehfacfaa
open Go.RowKit Go.Fx
set_option maxRecDepth 100000 in
set_option maxHeartbeats 2000000 in
theorem rmerge_ (A : Option Addr) (n c : Nat) (ss : List Sl) (ls : List (List Ev)) (w : World) (h : Rd slv w A n ss) (hs : Els w ss ls) (hn : n ≤ 1000000) (hm : ∀ s ∈ ss, s.n ≤ 1000000) (htot : ls.flatten.length ≤ 100000) :
    Calls Try.prog 48 #[.slice A n c] w (MergeP (mergeF ls) w) := by
  have H := Lib.hid h
  have Hs := Lib.hid hs
  have Hl := Lib.hid h.1
  have Hm := Lib.hid hm
  have Htot := Lib.hid htot
  clear h hs hm htot
  go_enter Try.func48, Try.ntmps48
  go_wp2_with fail
  go_loopw [5] (fun i wr => ∃ k : Nat, k ≤ n ∧ i = .int .i64 (k : Int) ∧ Hid (badS 0 ls = badS k (ls.drop k) ∧ Ext w wr)) (fun i _ => n - (intOf i).toNat)
  case atStart => exact ⟨0, by omega, rfl, Lib.hid ⟨rfl, Ext.refl _⟩⟩
  case round =>
    obtain ⟨k, hk, rfl, HJ⟩ := hrel
    by_cases hlt : k < n
    · obtain ⟨b, o, s, rfl, _, hsx, hcs⟩ := (H.out.ext HJ.out.2).at_ hlt
      obtain ⟨s', l, hsx', hlx, hsc, hrd⟩ := Hs.out.get (i := k) (by have := Hl.out; omega)
      obtain rfl : s' = s := by rw [hsx] at hsx'; exact (Option.some.inj hsx').symm
      have hltI : (k : Int) < (n : Int) := by omega
      have HS := Lib.hid (rsorted_ s'.A s'.n s'.c l wr (hrd.ext HJ.out.2) (by have := Hm.out s' (List.mem_of_getElem? hsx); omega))
      obtain ⟨sA, sn, sc⟩ := s'
      dsimp only at HS
      unfold slv at hcs
      cases hsr : srtB l with
      | true =>
        have HJ1 := Lib.hid (show badS 0 ls = badS (k + 1) (ls.drop (k + 1)) by rw [HJ.out.1, drop_at hlx, badS, if_pos hsr])
        have HE := Lib.hid HJ.out.2
        rw [hsr] at HS
        clear hsx hsx' hlx hrd hsc HJ hsr
        go_wp2_with fail
        refine HS.out.mono ?_; rintro e w2 ⟨rfl, e2⟩
        go_wp2_with fail
        go_roundw
        case rel => exact ⟨k + 1, by omega, by go_num, Lib.hid ⟨HJ1.out, HE.out.t e2⟩⟩
        case measure => simp [intOf]; omega
      | false =>
        have HJ1 := Lib.hid (show badS 0 ls = some k by rw [HJ.out.1, drop_at hlx, badS, if_neg (by rw [hsr]; simp)])
        have HE := Lib.hid HJ.out.2
        rw [hsr] at HS
        clear hsx hsx' hlx hrd hsc HJ hsr
        go_wp2_with fail
        refine HS.out.mono ?_; rintro e w2 ⟨rfl, e2⟩
        go_wp2_with fail
        go_ret3
        have hv : mergeF ls = ([], (k : Int), 110) := by unfold mergeF; rw [HJ1.out]
        rw [hv]
        exact ⟨none, 0, 0, rfl, RoomS.nil, rfl, fun k hk => absurd hk foot_none, HE.out.t e2⟩
    · obtain rfl : n = k := by omega
      have HB := Lib.hid (show badS 0 ls = none by rw [HJ.out.1, List.drop_eq_nil_of_le (by have := Hl.out; have := Hs.out.len; omega)]; rfl)
      have HE := Lib.hid HJ.out.2
      have Hlen := Lib.hid (show n = ls.length by have := Hl.out; have := Hs.out.len; omega)
      clear HJ
      go_wp2_with fail
      obtain ⟨w9, rfl⟩ : ∃ w9, w9 = wr := ⟨_, rfl⟩
      go_loopw [6, 7] (fun a i wr => ∃ (k : Nat) (Ao : Option Addr) (no co : Nat), k ≤ n ∧ i = .int .i64 (k : Int) ∧ a = .slice Ao no co ∧ Hid (∃ r, RoomS 5 wr Ao no co (r.flatMap evC) ∧ r.length = no ∧ (∀ q, foot Ao co q → w.heap.size ≤ q) ∧ Ext w wr ∧ MgO ls k r)) (fun _ i _ => n - (intOf i).toNat)
      case atStart => exact ⟨0, none, 0, 0, by omega, rfl, rfl, Lib.hid ⟨[], RoomS.nil, rfl, fun k hk => absurd hk foot_none, HE.out, MgO.start⟩⟩
      case round =>
        clear HE
        obtain ⟨k, Ao, no, co, hk, rfl, rfl, HJ⟩ := hrel
        by_cases hlt2 : k < n
        · obtain ⟨s, l, hsx, hlx, hsc, hrd⟩ := Hs.out.get (i := k) (by have := Hl.out; omega)
          have hltI : (k : Int) < (n : Int) := by omega
          have hsm : s.n ≤ 1000000 := Hm.out s (List.mem_of_getElem? hsx)
          have HC := Lib.hid (fun w' (e : Ext w w') => (H.out.ext e).get hsx)
          obtain ⟨sA, sn, sc⟩ := s
          change sn ≤ 1000000 at hsm
          have Hrd := Lib.hid (show RdS 5 evC w sA sn l from hrd)
          have Hlx := Lib.hid hlx
          have HJ0 : Hid (∃ r, RoomS 5 wr Ao no co (r.flatMap evC) ∧ r.length = no ∧ (∀ q, foot Ao co q → w.heap.size ≤ q) ∧ Ext w wr ∧ MgI ls k 0 l r) := Lib.hid (by
            obtain ⟨r, h1, h2, h3, h4, h5⟩ := HJ.out
            exact ⟨r, h1, h2, h3, h4, h5.into Hlx.out⟩)
          clear hsx hlx hsc hrd HJ
          go_wp2_with fail
          obtain ⟨w0, rfl⟩ : ∃ w0, w0 = wr := ⟨_, rfl⟩
          go_loopw [6, 8] (fun a i wr => ∃ (j : Nat) (Ao : Option Addr) (no co : Nat), j ≤ sn ∧ i = .int .i64 (j : Int) ∧ a = .slice Ao no co ∧ Hid (∃ r, RoomS 5 wr Ao no co (r.flatMap evC) ∧ r.length = no ∧ (∀ q, foot Ao co q → w.heap.size ≤ q) ∧ Ext w wr ∧ MgI ls k j l r)) (fun _ i _ => sn - (intOf i).toNat)
          case atStart => exact ⟨0, Ao, no, co, by omega, rfl, rfl, HJ0⟩
          case round =>
            clear HJ0
            obtain ⟨j, Ao, no, co, hj, rfl, rfl, HJ⟩ := hrel
            obtain ⟨r, hr, hrl, hrn, hE, hM⟩ := HJ.out
            obtain ⟨b1, o1, rfl, hcs⟩ := HC.out _ hE
            unfold slv at hcs
            by_cases hlt3 : j < sn
            · obtain ⟨b2, o2, x, rfl, _, hx, c0, c1, c2, c3, c4⟩ := (Hrd.out.ext hE).ev hlt3
              have hltJ : (j : Int) < (sn : Int) := by omega
              have hrb := hM.le Hlx.out
              have hnb : no ≤ 100000 := by have := Htot.out; omega
              have HH := Lib.hid (rhas_ Ao no co r x.k wr (hr.rd evC_len (by decide)) (by omega))
              cases hh : hasK r x.k with
              | true =>
                have HV := Lib.hid (hM.hit hx hh)
                have HE := Lib.hid hE
                rw [hh] at HH
                unfold kyV Ev.k at HH
                clear hr hrl hrn hE hM hx hh hrb HJ
                go_wp2_with fail
                refine HH.out.mono ?_; rintro e w2 ⟨rfl, e2⟩
                go_wp2_with fail
                go_ret3
                have hv : mergeF ls = ([], (k : Int), 111) := by unfold mergeF; rw [HB.out, HV.out]
                rw [hv]
                exact ⟨none, 0, 0, rfl, RoomS.nil, rfl, fun k hk => absurd hk foot_none, HE.out.t e2⟩
              | false =>
                have HM := Lib.hid (hM.put hx hh)
                have HR := Lib.hid hr
                have HN := Lib.hid hrn
                have HE := Lib.hid hE
                have HC2 := Lib.hid (fun w2 (e : Ext wr w2) => (Hrd.out.ext (hE.t e)).ev hlt3)
                have HC3 := Lib.hid (fun w2 (e : Ext wr w2) => HC.out w2 (hE.t e))
                have HP := Lib.hid (fun w2 (e : Ext wr w2) => rput_ Ao no co r x w2 ((hr.ext e).rd evC_len (by decide)) hr.2.1 (by omega))
                have Hx := Lib.hid hx
                rw [hh] at HH
                unfold kyV Ev.k at HH
                unfold evV at HP
                clear hr hrl hrn hE hM hx hh hrb HJ
                go_wp2_with fail
                refine HH.out.mono ?_; rintro e w2 ⟨rfl, e2⟩
                obtain ⟨b3, o3, y, e3, _, hy, d0, d1, d2, d3, d4⟩ := HC2.out w2 e2
                cases e3
                obtain rfl : x = y := by rw [Hx.out] at hy; exact Option.some.inj hy
                obtain ⟨b4, o4, e4, hcs2⟩ := HC3.out w2 e2
                cases e4
                unfold slv at hcs2
                have HP2 := Lib.hid (HP.out w2 e2)
                have HE2 := Lib.hid (HE.out.t e2)
                clear e2 hy HC2 HC3 HP HH c0 c1 c2 c3 c4 hcs
                go_wp2_with fail
                refine HP2.out.mono ?_; rintro e w3 ⟨A3, n3, c3, rfl, r3, l3, f3, e3⟩
                have HJ3 : Hid (∃ r, RoomS 5 w3 A3 n3 c3 (r.flatMap evC) ∧ r.length = n3 ∧ (∀ q, foot A3 c3 q → w.heap.size ≤ q) ∧ Ext w w3 ∧ MgI ls k (j + 1) l r) := Lib.hid ⟨_, r3, l3, fun q hq => Nat.le_trans HE2.out.size (f3 q hq), HE2.out.t e3, HM.out⟩
                clear r3 l3 f3 e3 d0 d1 d2 d3 d4 hcs2 HP2
                go_wp2_with fail
                go_roundw
                case rel => exact ⟨j + 1, A3, n3, c3, by omega, by go_num, rfl, HJ3⟩
                case measure => simp [intOf]; omega
            · obtain rfl : sn = j := by omega
              have HJ5 : Hid (∃ r, RoomS 5 wr Ao no co (r.flatMap evC) ∧ r.length = no ∧ (∀ q, foot Ao co q → w.heap.size ≤ q) ∧ Ext w wr ∧ MgO ls (k + 1) r) := Lib.hid ⟨r, hr, hrl, hrn, hE, hM.out Hlx.out (by have := Hrd.out.1; omega)⟩
              clear HJ hr hrl hrn hE hM
              go_wp2_with fail
              go_roundw
              case rel => exact ⟨k + 1, Ao, no, co, by omega, by go_num, rfl, HJ5⟩
              case measure => simp [intOf]; omega
        · obtain rfl : n = k := by omega
          obtain ⟨r, hr, hrl, hrn, hE, hM⟩ := HJ.out
          obtain ⟨hT, hI⟩ := hM.fin (by have := Hlen.out; omega)
          have hV : mergeF ls = (r, -1, 0) := by unfold mergeF; rw [HB.out, hT, hI]
          have HV := Lib.hid hV
          have HR := Lib.hid hr
          have HL := Lib.hid hrl
          have HN := Lib.hid hrn
          have HE := Lib.hid hE
          clear hr hrl hrn hE hM hT hI hV HJ
          go_wp2_with fail
          go_ret3
          rw [HV.out]
          exact ⟨Ao, no, co, rfl, HR.out, HL.out, HN.out, HE.out⟩
set_option maxRecDepth 100000 in
set_option maxHeartbeats 2000000 in
theorem rleast_ (A : Option Addr) (n c : Nat) (ss : List Sl) (ls : List (List Ev)) (w : World) (h : Rd slv w A n ss) (hs : Els w ss ls) (hn : n ≤ 1000000) :
    Calls Try.prog 49 #[.slice A n c] w (LeastP (leastF ls) w) := by
  have H := Lib.hid h
  have Hs := Lib.hid hs
  have Hl := Lib.hid h.1
  have Hlen := Lib.hid (show n = ls.length by have := h.1; have := hs.len; omega)
  have hw0 : IntKind.i64.wrap ((n : Int) - 1) = (n : Int) - 1 := IntWalk.i64_in _ (by omega)
  clear h hs
  go_enter Try.func49, Try.ntmps49
  go_wp2_with fail
  go_loopw [4, 5] (fun a i wr => ∃ k : Nat, k ≤ n ∧ i = .int .i64 ((k : Int) - 1) ∧ a = .int .i64 (bestI (leastA k none (ls.drop k))) ∧ Hid (Ext w wr)) (fun _ i _ => (intOf i + 1).toNat)
  case atStart =>
    refine ⟨n, by omega, rfl, ?_, Lib.hid (Ext.refl _)⟩
    rw [List.drop_eq_nil_of_le (by have := Hlen.out; omega)]; rfl
  case round =>
    clear hw0
    obtain ⟨k, hk, rfl, rfl, HJ⟩ := hrel
    rcases Nat.eq_zero_or_pos k with rfl | hpos
    · have hneg : ((0 : Nat) : Int) - 1 = -1 := by omega
      rw [hneg]
      have HV : Hid (leastA 0 none (ls.drop 0) = leastF ls) := Lib.hid rfl
      rw [HV.out]
      cases hb : leastF ls with
      | none =>
        have HB := Lib.hid hb
        unfold bestI
        clear HV hb hneg
        go_wp2_with fail
        go_ret2
        refine ⟨?_, HJ.out⟩
        rw [HB.out]; rfl
      | some p =>
        obtain ⟨j, y⟩ := p
        unfold bestI
        have hj0 : ¬ ((j : Int) < 0) := by omega
        have HB := Lib.hid hb
        clear HV hb hneg
        go_wp2_with fail
        go_ret2
        refine ⟨?_, HJ.out⟩
        rw [HB.out]; rfl
    · obtain ⟨i, rfl⟩ : ∃ i, k = i + 1 := ⟨k - 1, by omega⟩
      have hsub : ((i + 1 : Nat) : Int) - 1 = (i : Int) := by omega
      rw [hsub]
      have hge : (i : Int) ≥ 0 := by omega
      have hin : (i : Int) < (n : Int) := by omega
      obtain ⟨s, l, hsx, hlx, hsc, hrd⟩ := Hs.out.get (i := i) (by have := Hl.out; omega)
      obtain ⟨b, o, rfl, hcs⟩ := (H.out.ext HJ.out).get hsx
      obtain ⟨sA, sn, sc⟩ := s
      have Hrd := Lib.hid (show RdS 5 evC w sA sn l from hrd)
      have Hlx := Lib.hid hlx
      unfold slv at hcs
      have hw1 : IntKind.i64.wrap ((i : Int) - 1) = (i : Int) - 1 := IntWalk.i64_in _ (by omega)
      clear hsx hlx hrd hsc hsub hpos
      rcases Nat.eq_zero_or_pos sn with rfl | hsn
      · obtain rfl : l = [] := List.eq_nil_of_length_eq_zero Hrd.out.1
        have HB := Lib.hid (least_skip Hlx.out)
        rw [← HB.out]
        obtain ⟨bb, hbb⟩ : ∃ bb, bb = bestI (leastA i none (ls.drop i)) := ⟨_, rfl⟩
        rw [← hbb]
        have HBB := Lib.hid hbb
        have hg0 : decide (((0 : Nat) : Int) > 0) = false := by decide
        clear hbb HB Hrd
        go_wp2_with fail
        go_quiet (fail)
        go_wp2_with fail
        go_roundw
        case rel => exact ⟨i, by omega, by go_num, by rw [HBB.out], Lib.hid (HJ.out.t (Ext.drewN _ _))⟩
        case measure => simp [intOf]
      · obtain ⟨b', o', x, l', e1, _, rfl, c0, c1, c2, c3, c4⟩ := RdS_first (Hrd.out.ext HJ.out) hsn
        change sA = _ at e1
        subst e1
        have hsnI : (0 : Int) < (sn : Int) := by omega
        have hg0 : decide ((sn : Int) > 0) = true := by simp; omega
        have HL := Lib.hid (least_cons Hlx.out)
        have HBk := Lib.hid (leastA_ok (ls := ls) (ls.drop (i + 1)) (i + 1) none (fun _ _ h => by cases h) rfl)
        cases hB : leastA (i + 1) none (ls.drop (i + 1)) with
        | none =>
          have HL1 := Lib.hid (show leastA i none (ls.drop i) = some (i, x) by rw [HL.out, hB]; rfl)
          unfold bestI
          have hg1 : decide ((-1 : Int) < 0) = true := by decide
          clear HL HBk hB Hrd
          go_wp2_with fail
          go_quiet (fail)
          go_wp2_with fail
          go_roundw
          case rel => exact ⟨i, by omega, by go_num, by rw [HL1.out], Lib.hid (HJ.out.t (Ext.drewN _ _))⟩
          case measure => simp [intOf]
        | some p =>
          obtain ⟨j, y⟩ := p
          obtain ⟨ly, hly⟩ := HBk.out j y hB
          have hjl : j < n := by have := (List.getElem?_eq_some_iff.1 hly).1; have := Hlen.out; omega
          obtain ⟨s3, l3, hs3, hl3, hsc3, hrd3⟩ := Hs.out.get (i := j) (by have := Hl.out; omega)
          obtain rfl : l3 = y :: ly := by rw [hly] at hl3; exact (Option.some.inj hl3).symm
          obtain ⟨b2, o2, e2, hc2⟩ := (H.out.ext HJ.out).get hs3
          cases e2
          obtain ⟨sA3, sn3, sc3⟩ := s3
          unfold slv at hc2
          have hn3 : 0 < sn3 := by have := hrd3.1; simp at this; omega
          obtain ⟨b4, o4, x4, l4, e4, _, e5, d0, d1, d2, d3, d4⟩ := RdS_first (hrd3.ext HJ.out) hn3
          change sA3 = _ at e4
          subst e4
          cases e5
          have hjI : (j : Int) < (n : Int) := by omega
          have hn3I : (0 : Int) < (sn3 : Int) := by omega
          have hg1 : decide ((j : Int) < 0) = false := by simp
          have HB := Lib.hid (fun w' => rless_ y.k x.k w')
          rw [show klB y.k x.k = elB y x from rfl] at HB
          have HL2 := Lib.hid (show leastA i none (ls.drop i) = (if elB y x = true then some (j, y) else some (i, x)) by rw [HL.out, hB]; rfl)
          unfold kyV Ev.k at HB
          unfold bestI
          have HE := Lib.hid HJ.out
          clear HL HBk hB Hrd hly hs3 hl3 hrd3 hsc3 HJ
          go_wp2_with fail
          go_still_tail 24, (by kernel_rfl)
          change wpList _ _ _ _ _ wr.drew
          have HEd := Lib.hid (HE.out.t (Ext.drew wr))
          generalize wr.drew = w2 at *
          clear hcs c0 c1 c2 c3 c4 d0 d1 d2 d3 d4 hc2 HE
          go_wp2_with fail
          refine (HB.out _).mono ?_; rintro e w3 ⟨rfl, e3⟩
          have HE3 := Lib.hid (HEd.out.t e3)
          clear e3 HEd HB
          cases hz : elB y x with
          | true =>
            have HL4 := Lib.hid (show leastA i none (ls.drop i) = some (j, y) by rw [HL2.out, hz]; rfl)
            clear hz HL2
            go_wp2_with fail
            go_roundw
            case rel => exact ⟨i, by omega, by go_num, by rw [HL4.out], HE3⟩
            case measure => simp [intOf]
          | false =>
            have HL4 := Lib.hid (show leastA i none (ls.drop i) = some (i, x) by rw [HL2.out, hz]; rfl)
            clear hz HL2
            go_wp2_with fail
            go_roundw
            case rel => exact ⟨i, by omega, by go_num, by rw [HL4.out], HE3⟩
            case measure => simp [intOf]
end Go.Proofs.Ytkeapijehfacfaa
