/- Faw: the examples of chapter 16. -/
import Derived.Test.YtlneifgihdickaaFbc
import Derived.Test.YtlneifgihdickaaFbw
import Derived.Test.YtlneifgihdickaaFmd
import Derived.Test.YtlneifgihdickaaFrc
namespace Go.Proofs.Ytlneifgihdickaa
open Go.RowKit Go.Fx
section
variable {A : Option Addr} {c : Nat} {w : World}
/-- A call that returns a new list of numbers, and no error. -/
def OkN (xs : List Nat) (n : Nat) (w : World) (e : Ending) (w' : World) : Prop := ∃ A c, e = .returned (.tuple #[.slice A n c, .int .i64 0]) ∧ Rd intv w' A n xs ∧ Ext w w'
def OkZ (xs : List Int) (n : Nat) (w : World) (e : Ending) (w' : World) : Prop := ∃ A c, e = .returned (.tuple #[.slice A n c, .int .i64 0]) ∧ Rd intz w' A n xs ∧ Ext w w'
def OkB (xs : List Bool) (n : Nat) (w : World) (e : Ending) (w' : World) : Prop := ∃ A c, e = .returned (.tuple #[.slice A n c, .int .i64 0]) ∧ Rd boolv w' A n xs ∧ Ext w w'
def OkK (xs : List Bk) (n : Nat) (w : World) (e : Ending) (w' : World) : Prop := ∃ A c, e = .returned (.tuple #[.slice A n c, .int .i64 0]) ∧ BlsR w' A n xs ∧ Ext w w'
theorem sh_next {p : List Ins} {n m : Nat} {i : Int} {l : List Nat} (h : RdS 5 insC w A n p) (e : nextF p i = (l, 0)) (hm : l.length = m) : Calls Try.prog 14 #[.slice A n c, .int .i64 i] w (OkN l m w) := by
  subst hm
  refine (next_ A n c p i w h).mono ?_
  rw [e]
  rintro e w' ⟨A', c', rfl, r, -, x⟩
  exact ⟨A', c', rfl, r.rd, x⟩
theorem sh_reach {p : List Ins} {n : Nat} {d : List Int} (h : RdS 5 insC w A n p) (hp : RightP p) (hd : IsD (EdP p) n 0 d) : Calls Try.prog 20 #[.slice A n c] w (OkB (rchB d) n w) := by
  refine (reached_ A n c p w h hp).mono ?_
  rintro e w' ⟨A', c', d', rfl, hd', r, -, x⟩
  obtain rfl := hd.unique hd'
  exact ⟨A', c', rfl, r.rd, x⟩
theorem sh_ends {p : List Ins} {n : Nat} {es : List Bool} (h : RdS 5 insC w A n p) (hp : RightP p) (hd : IsE p es) : Calls Try.prog 13 #[.slice A n c] w (OkB es n w) := by
  refine (ends_ A n c p w h hp).mono ?_
  rintro e w' ⟨A', c', d', rfl, hd', r, -, x⟩
  obtain rfl := hd.unique hd'
  exact ⟨A', c', rfl, r.rd, x⟩
theorem sh_dist {p : List Ins} {n : Nat} {d : List Int} (h : RdS 5 insC w A n p) (hp : RightP p) (hd : IsD (EdP p) n 0 d) : Calls Try.prog 12 #[.slice A n c] w (OkZ d n w) := by
  refine (dist_ A n c p w h hp).mono ?_
  rintro e w' ⟨A', c', d', rfl, hd', r, -, x⟩
  obtain rfl := hd.unique hd'
  exact ⟨A', c', rfl, r.rd, x⟩
theorem sh_dom {p : List Ins} {n : Nat} {d : List Int} (h : RdS 5 insC w A n p) (hp : RightP p) (hd : IsN (EdP p) n d) : Calls Try.prog 21 #[.slice A n c] w (OkZ d n w) := by
  refine (dom_ A n c p w h hp).mono ?_
  rintro e w' ⟨A', c', d', rfl, hd', r, -, x⟩
  obtain rfl := hd.unique hd'
  exact ⟨A', c', rfl, r.rd, x⟩
theorem sh_blk {p : List Ins} {n m : Nat} {bs : List Bk} (h : RdS 5 insC w A n p) (hp : RightP p) (hb : (blkN (ledF p n) n).zip ((blkN (ledF p n) n).map (fun x => (edF p (x.2 - 1)).map (numN (ledF p n)))) = bs) (hm : bs.length = m) : Calls Try.prog 26 #[.slice A n c] w (OkK bs m w) := by
  refine (blocks_ A n c p w h hp).mono ?_
  rintro e w' ⟨A', m', c', ss, rfl, hm', hl, x⟩
  have hb2 := hl.bls (fun l hl => by
    obtain ⟨x, _, rfl⟩ := List.mem_map.1 hl
    have := edF_len p (x.2 - 1)
    rw [List.length_map]; omega)
  rw [hb] at hb2
  have := hb2.1
  obtain rfl : m = m' := by omega
  exact ⟨A', c', rfl, hb2, x⟩
end
theorem RdS.bls {w : World} {A : Option Addr} {n : Nat} {xs : List ((Nat × Nat) × Sl)} {bs : List Bk} (h : RdS 3 blC w A n xs) (hl : bs.length = n) (hx : ∀ (i : Nat) (x : Bk), bs[i]? = some x → ∃ s : Sl, xs[i]? = some (x.1, s) ∧ Rd intv w s.A s.n x.2 ∧ s.n ≤ 1000000000) : BlsR w A n bs := by
  refine ⟨hl, fun hn => ?_⟩
  obtain ⟨b, o, h1, h2, h3⟩ := h.2 hn
  refine ⟨b, o, h1, h2, fun i x hi => ?_⟩
  obtain ⟨s, hs, hr⟩ := hx i x hi
  have h4 := h3 i _ hs
  exact ⟨s, h4 0 _ rfl, h4 1 _ rfl, h4 2 _ rfl, hr⟩
theorem ul_br : Try.prog.underlying 60 = some (.slice 59) := by kernel_rfl
theorem info_br : (Try.prog.info? 59).map (fun i => (i.zero, i.size, i.bytes)) = some (some (.agg #[.int .i64 0, .int .i64 0, .slice none 0 0]), 3, 40) := by kernel_rfl
def bk5 : List Bk := [((0, 1), [1, 2]), ((1, 3), [3]), ((3, 4), []), ((4, 5), [])]
theorem bk5_eq : (blkN (ledF p5 5) 5).zip ((blkN (ledF p5 5) 5).map (fun x => (edF p5 (x.2 - 1)).map (numN (ledF p5 5)))) = bk5 := by rw [p5_m, p5_b]; rfl
set_option maxRecDepth 100000 in
theorem blocks_law (A1 A2 : Option Addr) (n1 n2 c1 c2 : Nat) (xs ys : List Bk) (w : World) (h1 : BlsR w A1 n1 xs) (h2 : BlsR w A2 n2 ys) (hm : n1 ≤ 1000000000) :
    Calls Try.prog 29 #[.slice A1 n1 c1, .slice A2 n2 c2] w fun e w' => e = .returned (.bool (decide (xs = ys))) ∧ Ext w w' := by
  have HE := Lib.hid (equalBk A1 A2 n1 n2 c1 c2 xs ys w h1 h2 hm)
  generalize decide (xs = ys) = z at *
  clear h1 h2
  go_enter Try.func29, Try.ntmps29
  go_wp2_with fail
  refine HE.out.mono ?_; rintro e w1 ⟨rfl, e1⟩
  go_wp2_with fail
  go_ret
  exact ⟨rfl, e1⟩
/- SHORT -/
section
variable {A1 A2 : Option Addr} {n c1 c2 : Nat} {w : World}
theorem same_N {xs : List Nat} (h1 : Rd intv w A1 n xs) (h2 : Rd intv w A2 n xs) (hm : n ≤ 1000000000) : Calls Try.prog 27 #[.slice A1 n c1, .slice A2 n c2] w fun e w' => e = .returned (.bool true) ∧ Ext w w' := by
  have := equalN A1 A2 n n c1 c2 xs xs w h1 h2 hm
  rwa [decide_eq_true rfl] at this
theorem same_Z {xs : List Int} (h1 : Rd intz w A1 n xs) (h2 : Rd intz w A2 n xs) (hm : n ≤ 1000000000) : Calls Try.prog 27 #[.slice A1 n c1, .slice A2 n c2] w fun e w' => e = .returned (.bool true) ∧ Ext w w' := by
  have := equalZ A1 A2 n n c1 c2 xs xs w h1 h2 hm
  rwa [decide_eq_true rfl] at this
theorem same_B {xs : List Bool} (h1 : Rd boolv w A1 n xs) (h2 : Rd boolv w A2 n xs) (hm : n ≤ 1000000000) : Calls Try.prog 30 #[.slice A1 n c1, .slice A2 n c2] w fun e w' => e = .returned (.bool true) ∧ Ext w w' := by
  have := equalB A1 A2 n n c1 c2 xs xs w h1 h2 hm
  rwa [decide_eq_true rfl] at this
theorem all_B {xs : List Bool} (h1 : Rd boolv w A1 n xs) (hx : false ∉ xs) (hm : n ≤ 1000000000) : Calls Try.prog 28 #[.slice A1 n c1, .bool false] w fun e w' => e = .returned (.bool false) ∧ Ext w w' := by
  have := containsB A1 n c1 xs false w h1 hm
  rwa [decide_eq_false hx] at this
end
set_option maxRecDepth 100000 in
set_option maxHeartbeats 4000000 in
theorem awake_ (w : World) : Calls Try.prog 10 #[] w fun e w' => e = .returned (.bool true) ∧ Ext w w' := by
  go_enter Try.func10, Try.ntmps10
  go_wp2_with (refine wpl_buildS insC_len (by decide) (by rfl) rfl ul_ins info_ins [.tmp 16, .tmp 17, .tmp 18, .tmp 19, .tmp 20] (by rfl) (by rfl) (by decide) p5 (by rfl) ?_)
  intro g2 v2 b1 e1 lo1 r1; refine Lib.hid ?_
  have HP := Lib.hid r1
  have E := Lib.hid e1
  clear b1 e1 lo1 r1
  go_wp2_with fail
  refine (sh_next (m := 2) HP.out p5_0 rfl).mono ?_; rintro e v3 ⟨A3, c3, rfl, k1, x1⟩
  have HA := Lib.hid k1
  replace HP := Lib.hid (HP.out.ext x1)
  replace E := Lib.hid (E.out.t x1)
  clear x1 k1
  go_wp2_with fail
  refine (sh_next (m := 1) HP.out p5_2 rfl).mono ?_; rintro e v4 ⟨A4, c4, rfl, k1, x1⟩
  have HB := Lib.hid k1
  replace HP := Lib.hid (HP.out.ext x1)
  replace HA := Lib.hid (HA.out.ext x1)
  replace E := Lib.hid (E.out.t x1)
  clear x1 k1
  go_wp2_with fail
  refine (sh_reach HP.out p5_right p5_d).mono ?_; rintro e v5 ⟨A5, c5, rfl, k1, x1⟩
  have HR := Lib.hid k1
  replace HP := Lib.hid (HP.out.ext x1)
  replace HA := Lib.hid (HA.out.ext x1)
  replace HB := Lib.hid (HB.out.ext x1)
  replace E := Lib.hid (E.out.t x1)
  clear x1 k1
  go_wp2_with fail
  refine (sh_ends HP.out p5_right p5_e).mono ?_; rintro e v6 ⟨A6, c6, rfl, k1, x1⟩
  have HH := Lib.hid k1
  replace HP := Lib.hid (HP.out.ext x1)
  replace HA := Lib.hid (HA.out.ext x1)
  replace HB := Lib.hid (HB.out.ext x1)
  replace HR := Lib.hid (HR.out.ext x1)
  replace E := Lib.hid (E.out.t x1)
  clear x1 k1
  go_wp2_with fail
  refine (sh_dist HP.out p5_right p5_d).mono ?_; rintro e v7 ⟨A7, c7, rfl, k1, x1⟩
  have HD := Lib.hid k1
  replace HP := Lib.hid (HP.out.ext x1)
  replace HA := Lib.hid (HA.out.ext x1)
  replace HB := Lib.hid (HB.out.ext x1)
  replace HR := Lib.hid (HR.out.ext x1)
  replace HH := Lib.hid (HH.out.ext x1)
  replace E := Lib.hid (E.out.t x1)
  clear x1 k1
  go_wp2_with fail
  refine (sh_dom HP.out p5_right p5_n).mono ?_; rintro e v8 ⟨A8, c8, rfl, k1, x1⟩
  have HM := Lib.hid k1
  replace HP := Lib.hid (HP.out.ext x1)
  replace HA := Lib.hid (HA.out.ext x1)
  replace HB := Lib.hid (HB.out.ext x1)
  replace HR := Lib.hid (HR.out.ext x1)
  replace HH := Lib.hid (HH.out.ext x1)
  replace HD := Lib.hid (HD.out.ext x1)
  replace E := Lib.hid (E.out.t x1)
  clear x1 k1
  go_wp2_with fail
  refine (sh_blk HP.out p5_right bk5_eq rfl).mono ?_; rintro e v9 ⟨A9, c9, rfl, k1, x1⟩
  have HK := Lib.hid k1
  replace HP := Lib.hid (HP.out.ext x1)
  replace HA := Lib.hid (HA.out.ext x1)
  replace HB := Lib.hid (HB.out.ext x1)
  replace HR := Lib.hid (HR.out.ext x1)
  replace HH := Lib.hid (HH.out.ext x1)
  replace HD := Lib.hid (HD.out.ext x1)
  replace HM := Lib.hid (HM.out.ext x1)
  replace E := Lib.hid (E.out.t x1)
  clear x1 k1
  clear HP
  go_wp2_with (refine wpl_build (by rfl) rfl ul_in info_in [.const (.int .i64 1), .const (.int .i64 3)] (by rfl) (by rfl) (by decide) (f := intv) [1, 3] (by rfl) (fun _ => rfl) ?_)
  intro g10 v10 b1 e1 lo1 r1; refine Lib.hid ?_
  replace HA := Lib.hid (HA.out.ext e1)
  replace HB := Lib.hid (HB.out.ext e1)
  replace HR := Lib.hid (HR.out.ext e1)
  replace HH := Lib.hid (HH.out.ext e1)
  replace HD := Lib.hid (HD.out.ext e1)
  replace HM := Lib.hid (HM.out.ext e1)
  replace HK := Lib.hid (HK.out.ext e1)
  replace E := Lib.hid (E.out.t e1)
  have HL := Lib.hid r1
  clear b1 e1 lo1 r1
  go_wp2_with fail
  refine (same_N HA.out HL.out (by decide)).mono ?_; rintro e v11 ⟨rfl, x1⟩
  replace HA := Lib.hid (HA.out.ext x1)
  replace HB := Lib.hid (HB.out.ext x1)
  replace HR := Lib.hid (HR.out.ext x1)
  replace HH := Lib.hid (HH.out.ext x1)
  replace HD := Lib.hid (HD.out.ext x1)
  replace HM := Lib.hid (HM.out.ext x1)
  replace HK := Lib.hid (HK.out.ext x1)
  replace HL := Lib.hid (HL.out.ext x1)
  replace E := Lib.hid (E.out.t x1)
  clear x1
  clear HL HA
  go_wp2_with (refine wpl_build (by rfl) rfl ul_in info_in [.const (.int .i64 4)] (by rfl) (by rfl) (by decide) (f := intv) [4] (by rfl) (fun _ => rfl) ?_)
  intro g12 v12 b1 e1 lo1 r1; refine Lib.hid ?_
  replace HB := Lib.hid (HB.out.ext e1)
  replace HR := Lib.hid (HR.out.ext e1)
  replace HH := Lib.hid (HH.out.ext e1)
  replace HD := Lib.hid (HD.out.ext e1)
  replace HM := Lib.hid (HM.out.ext e1)
  replace HK := Lib.hid (HK.out.ext e1)
  replace E := Lib.hid (E.out.t e1)
  have HL := Lib.hid r1
  clear b1 e1 lo1 r1
  go_wp2_with fail
  refine (same_N HB.out HL.out (by decide)).mono ?_; rintro e v13 ⟨rfl, x1⟩
  replace HB := Lib.hid (HB.out.ext x1)
  replace HR := Lib.hid (HR.out.ext x1)
  replace HH := Lib.hid (HH.out.ext x1)
  replace HD := Lib.hid (HD.out.ext x1)
  replace HM := Lib.hid (HM.out.ext x1)
  replace HK := Lib.hid (HK.out.ext x1)
  replace HL := Lib.hid (HL.out.ext x1)
  replace E := Lib.hid (E.out.t x1)
  clear x1
  clear HL HB
  go_wp2_with fail
  refine (all_B HR.out (by decide) (by decide)).mono ?_; rintro e v14 ⟨rfl, x1⟩
  replace HR := Lib.hid (HR.out.ext x1)
  replace HH := Lib.hid (HH.out.ext x1)
  replace HD := Lib.hid (HD.out.ext x1)
  replace HM := Lib.hid (HM.out.ext x1)
  replace HK := Lib.hid (HK.out.ext x1)
  replace E := Lib.hid (E.out.t x1)
  clear x1
  clear HR
  go_wp2_with fail
  refine (all_B HH.out (by decide) (by decide)).mono ?_; rintro e v15 ⟨rfl, x1⟩
  replace HH := Lib.hid (HH.out.ext x1)
  replace HD := Lib.hid (HD.out.ext x1)
  replace HM := Lib.hid (HM.out.ext x1)
  replace HK := Lib.hid (HK.out.ext x1)
  replace E := Lib.hid (E.out.t x1)
  clear x1
  clear HH
  go_wp2_with (refine wpl_build (by rfl) rfl ul_in info_in [.const (.int .i64 0), .const (.int .i64 1), .const (.int .i64 2), .const (.int .i64 1), .const (.int .i64 3)] (by rfl) (by rfl) (by decide) (f := intz) [0, 1, 2, 1, 3] (by rfl) (fun _ => rfl) ?_)
  intro g16 v16 b1 e1 lo1 r1; refine Lib.hid ?_
  replace HD := Lib.hid (HD.out.ext e1)
  replace HM := Lib.hid (HM.out.ext e1)
  replace HK := Lib.hid (HK.out.ext e1)
  replace E := Lib.hid (E.out.t e1)
  have HL := Lib.hid r1
  clear b1 e1 lo1 r1
  go_wp2_with fail
  refine (same_Z HD.out HL.out (by decide)).mono ?_; rintro e v17 ⟨rfl, x1⟩
  replace HD := Lib.hid (HD.out.ext x1)
  replace HM := Lib.hid (HM.out.ext x1)
  replace HK := Lib.hid (HK.out.ext x1)
  replace HL := Lib.hid (HL.out.ext x1)
  replace E := Lib.hid (E.out.t x1)
  clear x1
  clear HL HD
  go_wp2_with (refine wpl_build (by rfl) rfl ul_in info_in [.const (.int .i64 (-1)), .const (.int .i64 0), .const (.int .i64 1), .const (.int .i64 0), .const (.int .i64 2)] (by rfl) (by rfl) (by decide) (f := intz) [-1, 0, 1, 0, 2] (by rfl) (fun _ => rfl) ?_)
  intro g18 v18 b1 e1 lo1 r1; refine Lib.hid ?_
  replace HM := Lib.hid (HM.out.ext e1)
  replace HK := Lib.hid (HK.out.ext e1)
  replace E := Lib.hid (E.out.t e1)
  have HL := Lib.hid r1
  clear b1 e1 lo1 r1
  go_wp2_with fail
  refine (same_Z HM.out HL.out (by decide)).mono ?_; rintro e v19 ⟨rfl, x1⟩
  replace HM := Lib.hid (HM.out.ext x1)
  replace HK := Lib.hid (HK.out.ext x1)
  replace HL := Lib.hid (HL.out.ext x1)
  replace E := Lib.hid (E.out.t x1)
  clear x1
  clear HL HM
  go_wp2_with (refine wpl_build (by rfl) rfl ul_in info_in [.const (.int .i64 1), .const (.int .i64 2)] (by rfl) (by rfl) (by decide) (f := intv) [1, 2] (by rfl) (fun _ => rfl) ?_)
  intro g20 v20 b1 e1 lo1 r1; refine Lib.hid ?_
  replace HK := Lib.hid (HK.out.ext e1)
  replace E := Lib.hid (E.out.t e1)
  have HX := Lib.hid r1
  clear b1 e1 lo1 r1
  go_wp2_with (refine wpl_build (by rfl) rfl ul_in info_in [.const (.int .i64 3)] (by rfl) (by rfl) (by decide) (f := intv) [3] (by rfl) (fun _ => rfl) ?_)
  intro g21 v21 b1 e1 lo1 r1; refine Lib.hid ?_
  replace HK := Lib.hid (HK.out.ext e1)
  replace HX := Lib.hid (HX.out.ext e1)
  replace E := Lib.hid (E.out.t e1)
  have HY := Lib.hid r1
  clear b1 e1 lo1 r1
  go_wp2_with (refine wpl_buildS blC_len (by decide) (by rfl) rfl ul_br info_br [.tmp 115, .tmp 117, .tmp 118, .tmp 119] (by rfl) (by rfl) (by decide) [((0, 1), ⟨some ⟨g20, 0, none⟩, 2, 2⟩), ((1, 3), ⟨some ⟨g21, 0, none⟩, 1, 1⟩), ((3, 4), ⟨none, 0, 0⟩), ((4, 5), ⟨none, 0, 0⟩)] (by rfl) ?_)
  intro g22 v22 b1 e1 lo1 r1; refine Lib.hid ?_
  replace HK := Lib.hid (HK.out.ext e1)
  replace HX := Lib.hid (HX.out.ext e1)
  replace HY := Lib.hid (HY.out.ext e1)
  replace E := Lib.hid (E.out.t e1)
  have HW := Lib.hid (RdS.bls (bs := bk5) r1 rfl (fun i x hx => by
    have hi : i < 4 := (List.getElem?_eq_some_iff.1 hx).1
    rcases (by omega : i = 0 ∨ i = 1 ∨ i = 2 ∨ i = 3) with rfl | rfl | rfl | rfl
    · cases hx; exact ⟨_, rfl, HX.out, by show (2 : Nat) ≤ _; omega⟩
    · cases hx; exact ⟨_, rfl, HY.out, by show (1 : Nat) ≤ _; omega⟩
    · cases hx; exact ⟨_, rfl, Rd.none_, by decide⟩
    · cases hx; exact ⟨_, rfl, Rd.none_, by decide⟩))
  clear b1 e1 lo1 r1
  go_wp2_with fail
  refine (blocks_law _ _ _ _ _ _ bk5 bk5 _ HK.out HW.out (by decide)).mono ?_; rintro e v23 ⟨rfl, x1⟩
  replace HK := Lib.hid (HK.out.ext x1)
  replace HX := Lib.hid (HX.out.ext x1)
  replace HY := Lib.hid (HY.out.ext x1)
  replace HW := Lib.hid (HW.out.ext x1)
  replace E := Lib.hid (E.out.t x1)
  clear x1
  rw [decide_eq_true (show bk5 = bk5 from rfl)]
  clear HX HY HW HK
  go_wp2_with (refine wpl_buildS insC_len (by decide) (by rfl) rfl ul_ins info_ins [.tmp 123, .tmp 124] (by rfl) (by rfl) (by decide) p2 (by rfl) ?_)
  intro g24 v24 b1 e1 lo1 r1; refine Lib.hid ?_
  have HP := Lib.hid r1
  replace E := Lib.hid (E.out.t e1)
  clear b1 e1 lo1 r1
  go_wp2_with fail
  refine (sh_reach HP.out p2_right p2_d).mono ?_; rintro e v25 ⟨A25, c25, rfl, k1, x1⟩
  have HR := Lib.hid k1
  replace HP := Lib.hid (HP.out.ext x1)
  replace E := Lib.hid (E.out.t x1)
  clear x1 k1
  go_wp2_with fail
  refine (sh_ends HP.out p2_right p2_e).mono ?_; rintro e v26 ⟨A26, c26, rfl, k1, x1⟩
  have HH := Lib.hid k1
  replace HP := Lib.hid (HP.out.ext x1)
  replace HR := Lib.hid (HR.out.ext x1)
  replace E := Lib.hid (E.out.t x1)
  clear x1 k1
  clear HP
  go_wp2_with (refine wpl_build (by rfl) rfl ul_bo info_bo [.const (.bool true), .const (.bool false)] (by rfl) (by rfl) (by decide) (f := boolv) [true, false] (by rfl) (fun _ => rfl) ?_)
  intro g27 v27 b1 e1 lo1 r1; refine Lib.hid ?_
  replace HR := Lib.hid (HR.out.ext e1)
  replace HH := Lib.hid (HH.out.ext e1)
  replace E := Lib.hid (E.out.t e1)
  have HL := Lib.hid r1
  clear b1 e1 lo1 r1
  go_wp2_with fail
  refine (same_B HR.out HL.out (by decide)).mono ?_; rintro e v28 ⟨rfl, x1⟩
  replace HR := Lib.hid (HR.out.ext x1)
  replace HH := Lib.hid (HH.out.ext x1)
  replace HL := Lib.hid (HL.out.ext x1)
  replace E := Lib.hid (E.out.t x1)
  clear x1
  clear HL HR
  go_wp2_with (refine wpl_build (by rfl) rfl ul_bo info_bo [.const (.bool false), .const (.bool true)] (by rfl) (by rfl) (by decide) (f := boolv) [false, true] (by rfl) (fun _ => rfl) ?_)
  intro g29 v29 b1 e1 lo1 r1; refine Lib.hid ?_
  replace HH := Lib.hid (HH.out.ext e1)
  replace E := Lib.hid (E.out.t e1)
  have HL := Lib.hid r1
  clear b1 e1 lo1 r1
  go_wp2_with fail
  refine (same_B HH.out HL.out (by decide)).mono ?_; rintro e v30 ⟨rfl, x1⟩
  replace HH := Lib.hid (HH.out.ext x1)
  replace HL := Lib.hid (HL.out.ext x1)
  replace E := Lib.hid (E.out.t x1)
  clear x1
  clear HL HH
  go_wp2_with fail
  go_ret
  exact ⟨rfl, E.out⟩
end Go.Proofs.Ytlneifgihdickaa
