/- CodeWrong: the walk of the law: for any list of small instructions, any defect, any place it answers true and leaves all memory as it was (no condition). -/
import Derived.Test.YtiakcehhegippaaCwp
import Derived.Test.YtiakcehhegippaaCop
namespace Go.Proofs.Ytiakcehhegippaa
open Go.RowKit Go.Fx
theorem check_wr (A : Option Addr) (n c : Nat) (p : List Ins) (k : Int) (e : Nat) (w : World) (h : RdS 5 insC w A n p) (hp : checkF p = (k, e)) :
    Calls Try.prog 14 #[.slice A n c] w fun en w' => en = .returned (.tuple #[.int .i64 k, .int .i64 (e : Int)]) ∧ Ext w w' := by
  refine (check_ A n c p w h).mono ?_
  rintro en w' ⟨rfl, he⟩
  rw [hp]
  exact ⟨rfl, he⟩
theorem write_wr (A : Option Addr) (n c : Nat) (p : List Ins) (k : Int) (e : Nat) (w : World) (h : RdS 5 insC w A n p) (hp : checkF p = (k, e)) (he : e ≠ 0) :
    Calls Try.prog 15 #[.slice A n c] w fun en w' => ∃ A' c', en = .returned (.tuple #[.slice A' 0 c', .int .i64 (e : Int)]) ∧ Ext w w' := by
  refine (write_ A n c p w h).mono ?_
  rintro en w' ⟨A', n', c', rfl, hn⟩
  rw [write_wrong hp he] at hn ⊢
  obtain rfl : n' = 0 := hn.n_
  exact ⟨A', c', rfl, hn.ext⟩
theorem read_nil_ (w : World) : Calls Try.prog 13 #[.slice none 0 0] w fun e w' => ∃ A' n' c', e = .returned (.tuple #[.slice A' n' c', .int .i64 (-1), .int .i64 6]) ∧ Ext w w' := by
  refine (read_all none 0 0 [] w Rd.none_ (by simp) (Nat.le_refl _) (by omega)).mono ?_
  rintro e w' ⟨A', n', c', rfl, _, _, he⟩
  rw [read_nil]
  exact ⟨A', n', c', rfl, he⟩
theorem oneF_eq2 {i : Ins} (h : okOp i.op = true) : oneF i = if (rgOk (nrOf i.op) i.a i.b i.c && nOk (tlOf i.op) i.n) = true then 0 else 141 := by
  unfold oneF
  rw [if_neg (by rw [h]; simp)]
theorem in_to1 {A : Option Addr} {n c : Nat} (w : World) (h2 : 1 ≤ c) :
    (Instr.sliceAt 25 (.slice A n c) none (some (.int .i64 1)) none).run Try.prog w = .ok (.slice A 1 c) w := ri_to (li := 1) (hi := 1) w rfl h2
theorem repeat256 (A : Option Addr) (c : Nat) (xs : List Ins) (w : World) (h : RdS 5 insC w A 1 xs) :
    Calls Try.prog 25 #[.slice A 1 c, .int .i64 256] w fun e w' => ∃ G, e = .returned (.slice (some ⟨G, 0, none⟩) 256 256) ∧ RoomS 5 w' (some ⟨G, 0, none⟩) 256 256 ((repL 256 xs).flatMap insC) ∧ w.heap.size ≤ G ∧ Ext w w' :=
  repeatI A 1 c 256 xs w h (by decide) (by decide) (by decide) (by decide)
set_option maxRecDepth 100000 in
set_option maxHeartbeats 4000000 in
theorem walkCodeWrong (A0 : Option Addr) (n0 c0 : Nat) (l : List Ins) (wi ai : Int) (w : World) (h0 : InArg w A0 n0 c0 l) (hwi : (Lit.int .u8 wi).wf = true) (hai : (Lit.int .u8 ai).wf = true) :
    Calls Try.prog 9 #[.slice A0 n0 c0, .int .u8 wi, .int .u8 ai] w fun e w' => e = .returned (.bool true) ∧ Ext w w' := by
  have hwb := bounds_u8 hwi
  have hab := bounds_u8 hai
  obtain ⟨wy, rfl⟩ := Int.eq_ofNat_of_zero_le hwb.1
  obtain ⟨ta, rfl⟩ := Int.eq_ofNat_of_zero_le hab.1
  obtain ⟨p, hp⟩ : ∃ p, p = madeF l := ⟨_, rfl⟩
  have HM0 := Lib.hid (fun w' e => makes_ A0 n0 c0 l w' (h0.rd.ext e) h0.ok h0.le h0.max)
  have Hall : Hid (∀ i ∈ madeF l, oneF i = 0 ∧ (tgtF i = true → i.n < ((madeF l).length : Int))) := Lib.hid (fun i hi => ⟨(made_all h0.ok i hi).1, (made_all h0.ok i hi).2.2⟩)
  have hpl := made_le l
  rw [← hp] at HM0 Hall hpl
  have Hpl := Lib.hid hpl
  have hta : ta < 256 := by omega
  have hwy : wy < 256 := by omega
  clear h0 hp hpl hwi hai hwb hab
  go_enter Try.func9, Try.ntmps9
  go_wp2_with fail
  refine (awake_ w).mono ?_; rintro e w1 ⟨rfl, e1⟩
  have E1 := Lib.hid e1
  clear e1
  go_wp2_with fail
  refine (HM0.out _ E1.out).mono ?_; rintro e w2 ⟨A2, n2, c2, rfl, hn⟩
  have hpn := hn.n_
  obtain ⟨b2, o2, hA2⟩ := hn.rd.some_ (by have := Hpl.out; omega)
  subst hA2
  have N2 : Hid (NewS w p w2 (some ⟨b2, o2, none⟩) n2 c2) := Lib.hid ⟨hn.room, E1.out.t hn.ext, fun k hk => by have := hn.ft k hk; have := E1.out.size; omega⟩
  have hn2 : 1 ≤ n2 ∧ n2 ≤ 41 := by have := Hpl.out; omega
  have Hpn : Hid (p.length = n2) := Lib.hid hpn.symm
  obtain ⟨hn2a, hn2b⟩ := hn2
  obtain ⟨k, hkk⟩ : ∃ k, k = ta % n2 := ⟨_, rfl⟩
  have hk : k < n2 := by rw [hkk]; exact Nat.mod_lt _ (by omega)
  have Hat : Hid ((wrap64 (ta : Int)).tmod (n2 : Int) = (k : Int)) := Lib.hid (by rw [show wrap64 (ta : Int) = (ta : Int) by unfold wrap64; omega, hkk]; rfl)
  have Hat2 : Hid ((ta : Int) % (n2 : Int) = (k : Int)) := Lib.hid (by rw [hkk]; rfl)
  have heq0 : ((n2 : Int) == 0) = false := by simp; omega
  clear hn E1 hkk hpn
  go_upto_region 5 with fail
  first | rw [Hat2.out] | rw [Hat.out]
  clear Hat Hat2
  obtain ⟨r, hr⟩ : ∃ r, r = wy % 7 := ⟨_, rfl⟩
  obtain ⟨d, hd⟩ : ∃ d, d = wy / 7 := ⟨_, rfl⟩
  have hrI : (wy : Int) % 7 = (r : Int) := by omega
  have hdI : (wy : Int) / 7 = (d : Int) := by omega
  have hr7 : r < 7 := by omega
  have hd37 : d < 37 := by omega
  clear hr hd
  rcases (by omega : r = 0 ∨ r = 1 ∨ r = 2 ∨ r = 3 ∨ r = 4 ∨ r = 5 ∨ r = 6) with rfl | rfl | rfl | rfl | rfl | rfl | rfl
  · obtain ⟨j, hj⟩ : ∃ j, j = d % 5 := ⟨_, rfl⟩
    have hjI : (d : Int) % 5 = (j : Int) := by omega
    have hj5 : j < 5 := by omega
    have hj5I : (j : Int) < 5 := by omega
    clear hj
    go_wp2_with (refine wpl_build (by rfl) rfl ul_u8 info_u8 (([0, 12, 32, 50, 255] : List Nat).map fun y : Nat => .const (.int .u8 (y : Int))) (by rfl) (by rfl) (by decide) (f := u8v) [0, 12, 32, 50, 255] (by rfl) (fun _ => rfl) ?_)
    intro g w9 b9 e9 lo9 r9; refine Lib.hid ?_
    have N9 := Lib.hid (N2.out.exte e9)
    obtain ⟨b', o', x, h1, _, hx, hcx⟩ := r9.at_ (k := j) hj5
    cases h1
    rw [Nat.zero_add] at hcx
    have hone : oneF ⟨x, 0, 0, 0, 0⟩ = 140 := by
      rcases (by omega : j = 0 ∨ j = 1 ∨ j = 2 ∨ j = 3 ∨ j = 4) with rfl | rfl | rfl | rfl | rfl <;> (cases hx; decide)
    have Hone := Lib.hid hone
    clear b9 e9 lo9 r9 hx hone
    obtain ⟨v0, v1, v2, v3, v4, c0, c1, c2', c3, c4, hf⟩ := N9.out.cells5 hk
    have f0 := hf 0 (by decide)
    have f1 := hf 1 (by decide)
    have f2 := hf 2 (by decide)
    have f3 := hf 3 (by decide)
    have f4 := hf 4 (by decide)
    rw [Nat.add_zero] at f0
    have NW := Lib.hid (N9.out.five hk ⟨x, 0, 0, 0, 0⟩)
    have HCK : Hid (checkF (p.set k ⟨x, 0, 0, 0, 0⟩) = ((k : Int), 140)) := Lib.hid (by have h := wrong_one Hall.out (by have := Hpl.out; omega) (k := k) (by rw [Hpn.out]; exact hk) (i := ⟨x, 0, 0, 0, 0⟩) (by rw [Hone.out]; decide); rw [Hone.out] at h; exact h)
    clear hf HM0
    go_wp2_with fail
    change Calls _ _ _ (fiveAt w9 b2 (o2 + k * 5) ⟨x, 0, 0, 0, 0⟩) _
    generalize fiveAt w9 b2 (o2 + k * 5) ⟨x, 0, 0, 0, 0⟩ = wq at *
    clear c0 c1 c2' c3 c4 f0 f1 f2 f3 f4
    refine (check_wr (some ⟨b2, o2, none⟩) n2 c2 (p.set k ⟨x, 0, 0, 0, 0⟩) (k : Int) 140 wq NW.out.rd HCK.out).mono ?_; rintro e w31 ⟨rfl, e31⟩
    have R31 := Lib.hid ((show RdS 5 insC wq (some ⟨b2, o2, none⟩) n2 (p.set k ⟨x, 0, 0, 0, 0⟩) from NW.out.rd).ext e31)
    have E31 := Lib.hid (NW.out.ext.t e31)
    clear e31
    go_wp2_with fail
    refine (write_wr (some ⟨b2, o2, none⟩) n2 c2 (p.set k ⟨x, 0, 0, 0, 0⟩) (k : Int) 140 w31 R31.out HCK.out (by decide)).mono ?_; rintro e w32 ⟨A32, c32, rfl, e32⟩
    have E32 := Lib.hid (E31.out.t e32)
    clear e32 E31 R31
    go_wp2_with fail
    refine (check_wr none 0 0 [] (-1) 6 w32 RdS.none_ rfl).mono ?_; rintro e w33 ⟨rfl, e33⟩
    have E33 := Lib.hid (E32.out.t e33)
    clear e33 E32
    go_wp2_with fail
    refine (read_nil_ w33).mono ?_; rintro e w34 ⟨A34, n34, c34, rfl, e34⟩
    have E34 := Lib.hid (E33.out.t e34)
    clear e34 E33
    go_wp2_with fail
    go_ret
    exact ⟨rfl, E34.out⟩
  · obtain ⟨y, hy⟩ : ∃ y, y = 8 + d := ⟨_, rfl⟩
    have hyI : 8 + (d : Int) = (y : Int) := by omega
    have hy2 : y < 256 := by omega
    have Hone : Hid (oneF ⟨4, 1, y, 0, 0⟩ = 141) := Lib.hid (by
      rw [oneF_eq2 (show okOp 4 = true by decide)]
      have : rgOk (nrOf 4) 1 y 0 = false := by rw [show nrOf 4 = 2 from rfl]; unfold rgOk; simp; omega
      show (if (rgOk (nrOf 4) 1 y 0 && _) = true then 0 else 141) = 141
      rw [this]; rfl)
    clear hy
    obtain ⟨v0, v1, v2, v3, v4, c0, c1, c2', c3, c4, hf⟩ := N2.out.cells5 hk
    have f0 := hf 0 (by decide)
    have f1 := hf 1 (by decide)
    have f2 := hf 2 (by decide)
    have f3 := hf 3 (by decide)
    have f4 := hf 4 (by decide)
    rw [Nat.add_zero] at f0
    have NW := Lib.hid (N2.out.five hk ⟨4, 1, y, 0, 0⟩)
    have HCK : Hid (checkF (p.set k ⟨4, 1, y, 0, 0⟩) = ((k : Int), 141)) := Lib.hid (by have h := wrong_one Hall.out (by have := Hpl.out; omega) (k := k) (by rw [Hpn.out]; exact hk) (i := ⟨4, 1, y, 0, 0⟩) (by rw [Hone.out]; decide); rw [Hone.out] at h; exact h)
    clear hf HM0
    go_wp2_with fail
    change Calls _ _ _ (fiveAt w2 b2 (o2 + k * 5) ⟨4, 1, y, 0, 0⟩) _
    generalize fiveAt w2 b2 (o2 + k * 5) ⟨4, 1, y, 0, 0⟩ = wq at *
    clear c0 c1 c2' c3 c4 f0 f1 f2 f3 f4
    refine (check_wr (some ⟨b2, o2, none⟩) n2 c2 (p.set k ⟨4, 1, y, 0, 0⟩) (k : Int) 141 wq NW.out.rd HCK.out).mono ?_; rintro e w31 ⟨rfl, e31⟩
    have R31 := Lib.hid ((show RdS 5 insC wq (some ⟨b2, o2, none⟩) n2 (p.set k ⟨4, 1, y, 0, 0⟩) from NW.out.rd).ext e31)
    have E31 := Lib.hid (NW.out.ext.t e31)
    clear e31
    go_wp2_with fail
    refine (write_wr (some ⟨b2, o2, none⟩) n2 c2 (p.set k ⟨4, 1, y, 0, 0⟩) (k : Int) 141 w31 R31.out HCK.out (by decide)).mono ?_; rintro e w32 ⟨A32, c32, rfl, e32⟩
    have E32 := Lib.hid (E31.out.t e32)
    clear e32 E31 R31
    go_wp2_with fail
    refine (check_wr none 0 0 [] (-1) 6 w32 RdS.none_ rfl).mono ?_; rintro e w33 ⟨rfl, e33⟩
    have E33 := Lib.hid (E32.out.t e33)
    clear e33 E32
    go_wp2_with fail
    refine (read_nil_ w33).mono ?_; rintro e w34 ⟨A34, n34, c34, rfl, e34⟩
    have E34 := Lib.hid (E33.out.t e34)
    clear e34 E33
    go_wp2_with fail
    go_ret
    exact ⟨rfl, E34.out⟩
  · have Hone : Hid (oneF ⟨1, 0, 0, 0, 1⟩ = 141) := Lib.hid (by decide)
    obtain ⟨v0, v1, v2, v3, v4, c0, c1, c2', c3, c4, hf⟩ := N2.out.cells5 hk
    have f0 := hf 0 (by decide)
    have f1 := hf 1 (by decide)
    have f2 := hf 2 (by decide)
    have f3 := hf 3 (by decide)
    have f4 := hf 4 (by decide)
    rw [Nat.add_zero] at f0
    have NW := Lib.hid (N2.out.five hk ⟨1, 0, 0, 0, 1⟩)
    have HCK : Hid (checkF (p.set k ⟨1, 0, 0, 0, 1⟩) = ((k : Int), 141)) := Lib.hid (by have h := wrong_one Hall.out (by have := Hpl.out; omega) (k := k) (by rw [Hpn.out]; exact hk) (i := ⟨1, 0, 0, 0, 1⟩) (by rw [Hone.out]; decide); rw [Hone.out] at h; exact h)
    clear hf HM0
    go_wp2_with fail
    change Calls _ _ _ (fiveAt w2 b2 (o2 + k * 5) ⟨1, 0, 0, 0, 1⟩) _
    generalize fiveAt w2 b2 (o2 + k * 5) ⟨1, 0, 0, 0, 1⟩ = wq at *
    clear c0 c1 c2' c3 c4 f0 f1 f2 f3 f4
    refine (check_wr (some ⟨b2, o2, none⟩) n2 c2 (p.set k ⟨1, 0, 0, 0, 1⟩) (k : Int) 141 wq NW.out.rd HCK.out).mono ?_; rintro e w31 ⟨rfl, e31⟩
    have R31 := Lib.hid ((show RdS 5 insC wq (some ⟨b2, o2, none⟩) n2 (p.set k ⟨1, 0, 0, 0, 1⟩) from NW.out.rd).ext e31)
    have E31 := Lib.hid (NW.out.ext.t e31)
    clear e31
    go_wp2_with fail
    refine (write_wr (some ⟨b2, o2, none⟩) n2 c2 (p.set k ⟨1, 0, 0, 0, 1⟩) (k : Int) 141 w31 R31.out HCK.out (by decide)).mono ?_; rintro e w32 ⟨A32, c32, rfl, e32⟩
    have E32 := Lib.hid (E31.out.t e32)
    clear e32 E31 R31
    go_wp2_with fail
    refine (check_wr none 0 0 [] (-1) 6 w32 RdS.none_ rfl).mono ?_; rintro e w33 ⟨rfl, e33⟩
    have E33 := Lib.hid (E32.out.t e33)
    clear e33 E32
    go_wp2_with fail
    refine (read_nil_ w33).mono ?_; rintro e w34 ⟨A34, n34, c34, rfl, e34⟩
    have E34 := Lib.hid (E33.out.t e34)
    clear e34 E33
    go_wp2_with fail
    go_ret
    exact ⟨rfl, E34.out⟩
  · obtain ⟨y, hy⟩ : ∃ y, y = n2 + d := ⟨_, rfl⟩
    have hyI : (n2 : Int) + (d : Int) = (y : Int) := by omega
    have Hone : Hid (oneF ⟨10, 0, 0, 0, (y : Int)⟩ = 0 ∧ tgtF ⟨10, 0, 0, 0, (y : Int)⟩ = true ∧ n2 ≤ y) := Lib.hid (by
      have h1 : oneF ⟨10, 0, 0, 0, (y : Int)⟩ = 0 := by
        rw [oneF_eq2 (show okOp 10 = true by decide)]
        have h2 : nOk (tlOf 10) (y : Int) = true := decide_eq_true (show 0 ≤ (y : Int) ∧ (y : Int) < 256 by omega)
        show (if (rgOk (nrOf 10) 0 0 0 && nOk (tlOf 10) (y : Int)) = true then 0 else 141) = 0
        rw [h2]; rfl
      exact ⟨h1, by unfold tgtF; rw [h1]; rfl, by omega⟩)
    clear hy
    obtain ⟨v0, v1, v2, v3, v4, c0, c1, c2', c3, c4, hf⟩ := N2.out.cells5 hk
    have f0 := hf 0 (by decide)
    have f1 := hf 1 (by decide)
    have f2 := hf 2 (by decide)
    have f3 := hf 3 (by decide)
    have f4 := hf 4 (by decide)
    rw [Nat.add_zero] at f0
    have NW := Lib.hid (N2.out.five hk ⟨10, 0, 0, 0, (y : Int)⟩)
    have HCK : Hid (checkF (p.set k ⟨10, 0, 0, 0, (y : Int)⟩) = ((k : Int), 142)) := Lib.hid (by exact wrong_tgt Hall.out (by have := Hpl.out; omega) (by rw [Hpn.out]; exact hk) Hone.out.1 Hone.out.2.1 (by rw [Hpn.out]; have := Hone.out.2.2; show (n2 : Int) ≤ (y : Int); omega))
    clear hf HM0
    go_wp2_with fail
    change Calls _ _ _ (fiveAt w2 b2 (o2 + k * 5) ⟨10, 0, 0, 0, (y : Int)⟩) _
    generalize fiveAt w2 b2 (o2 + k * 5) ⟨10, 0, 0, 0, (y : Int)⟩ = wq at *
    clear c0 c1 c2' c3 c4 f0 f1 f2 f3 f4
    refine (check_wr (some ⟨b2, o2, none⟩) n2 c2 (p.set k ⟨10, 0, 0, 0, (y : Int)⟩) (k : Int) 142 wq NW.out.rd HCK.out).mono ?_; rintro e w31 ⟨rfl, e31⟩
    have R31 := Lib.hid ((show RdS 5 insC wq (some ⟨b2, o2, none⟩) n2 (p.set k ⟨10, 0, 0, 0, (y : Int)⟩) from NW.out.rd).ext e31)
    have E31 := Lib.hid (NW.out.ext.t e31)
    clear e31
    go_wp2_with fail
    refine (write_wr (some ⟨b2, o2, none⟩) n2 c2 (p.set k ⟨10, 0, 0, 0, (y : Int)⟩) (k : Int) 142 w31 R31.out HCK.out (by decide)).mono ?_; rintro e w32 ⟨A32, c32, rfl, e32⟩
    have E32 := Lib.hid (E31.out.t e32)
    clear e32 E31 R31
    go_wp2_with fail
    refine (check_wr none 0 0 [] (-1) 6 w32 RdS.none_ rfl).mono ?_; rintro e w33 ⟨rfl, e33⟩
    have E33 := Lib.hid (E32.out.t e33)
    clear e33 E32
    go_wp2_with fail
    refine (read_nil_ w33).mono ?_; rintro e w34 ⟨A34, n34, c34, rfl, e34⟩
    have E34 := Lib.hid (E33.out.t e34)
    clear e34 E33
    go_wp2_with fail
    go_ret
    exact ⟨rfl, E34.out⟩
  · have Hone : Hid (oneF ⟨8, 0, 0, 0, 16⟩ = 141) := Lib.hid (by decide)
    obtain ⟨v0, v1, v2, v3, v4, c0, c1, c2', c3, c4, hf⟩ := N2.out.cells5 hk
    have f0 := hf 0 (by decide)
    have f1 := hf 1 (by decide)
    have f2 := hf 2 (by decide)
    have f3 := hf 3 (by decide)
    have f4 := hf 4 (by decide)
    rw [Nat.add_zero] at f0
    have NW := Lib.hid (N2.out.five hk ⟨8, 0, 0, 0, 16⟩)
    have HCK : Hid (checkF (p.set k ⟨8, 0, 0, 0, 16⟩) = ((k : Int), 141)) := Lib.hid (by have h := wrong_one Hall.out (by have := Hpl.out; omega) (k := k) (by rw [Hpn.out]; exact hk) (i := ⟨8, 0, 0, 0, 16⟩) (by rw [Hone.out]; decide); rw [Hone.out] at h; exact h)
    clear hf HM0
    go_wp2_with fail
    change Calls _ _ _ (fiveAt w2 b2 (o2 + k * 5) ⟨8, 0, 0, 0, 16⟩) _
    generalize fiveAt w2 b2 (o2 + k * 5) ⟨8, 0, 0, 0, 16⟩ = wq at *
    clear c0 c1 c2' c3 c4 f0 f1 f2 f3 f4
    refine (check_wr (some ⟨b2, o2, none⟩) n2 c2 (p.set k ⟨8, 0, 0, 0, 16⟩) (k : Int) 141 wq NW.out.rd HCK.out).mono ?_; rintro e w31 ⟨rfl, e31⟩
    have R31 := Lib.hid ((show RdS 5 insC wq (some ⟨b2, o2, none⟩) n2 (p.set k ⟨8, 0, 0, 0, 16⟩) from NW.out.rd).ext e31)
    have E31 := Lib.hid (NW.out.ext.t e31)
    clear e31
    go_wp2_with fail
    refine (write_wr (some ⟨b2, o2, none⟩) n2 c2 (p.set k ⟨8, 0, 0, 0, 16⟩) (k : Int) 141 w31 R31.out HCK.out (by decide)).mono ?_; rintro e w32 ⟨A32, c32, rfl, e32⟩
    have E32 := Lib.hid (E31.out.t e32)
    clear e32 E31 R31
    go_wp2_with fail
    refine (check_wr none 0 0 [] (-1) 6 w32 RdS.none_ rfl).mono ?_; rintro e w33 ⟨rfl, e33⟩
    have E33 := Lib.hid (E32.out.t e33)
    clear e33 E32
    go_wp2_with fail
    refine (read_nil_ w33).mono ?_; rintro e w34 ⟨A34, n34, c34, rfl, e34⟩
    have E34 := Lib.hid (E33.out.t e34)
    clear e34 E33
    go_wp2_with fail
    go_ret
    exact ⟨rfl, E34.out⟩
  · obtain ⟨k1, hk1⟩ : ∃ k1, k1 = n2 - 1 := ⟨_, rfl⟩
    have hk1I : (n2 : Int) - 1 = (k1 : Int) := by omega
    have hk1n : k1 < n2 := by omega
    have Hk1 : Hid (k1 + 1 = n2) := Lib.hid (by omega)
    clear hk1
    obtain ⟨v0, v1, v2, v3, v4, c0, c1, c2', c3, c4, hf⟩ := N2.out.cells5 hk1n
    have f0 := hf 0 (by decide)
    have f1 := hf 1 (by decide)
    have f2 := hf 2 (by decide)
    have f3 := hf 3 (by decide)
    have f4 := hf 4 (by decide)
    rw [Nat.add_zero] at f0
    have NW := Lib.hid (N2.out.five hk1n ⟨3, 0, 0, 0, 0⟩)
    have HCK : Hid (checkF (p.set k1 ⟨3, 0, 0, 0, 0⟩) = ((k1 : Int), 143)) := Lib.hid (by exact wrong_end Hall.out (by have := Hpl.out; omega) (by rw [Hpn.out]; exact Hk1.out) (by decide) (by decide) (by decide))
    clear hf HM0
    go_wp2_with fail
    change Calls _ _ _ (fiveAt w2 b2 (o2 + k1 * 5) ⟨3, 0, 0, 0, 0⟩) _
    generalize fiveAt w2 b2 (o2 + k1 * 5) ⟨3, 0, 0, 0, 0⟩ = wq at *
    clear c0 c1 c2' c3 c4 f0 f1 f2 f3 f4
    refine (check_wr (some ⟨b2, o2, none⟩) n2 c2 (p.set k1 ⟨3, 0, 0, 0, 0⟩) (k1 : Int) 143 wq NW.out.rd HCK.out).mono ?_; rintro e w31 ⟨rfl, e31⟩
    have R31 := Lib.hid ((show RdS 5 insC wq (some ⟨b2, o2, none⟩) n2 (p.set k1 ⟨3, 0, 0, 0, 0⟩) from NW.out.rd).ext e31)
    have E31 := Lib.hid (NW.out.ext.t e31)
    clear e31
    go_wp2_with fail
    refine (write_wr (some ⟨b2, o2, none⟩) n2 c2 (p.set k1 ⟨3, 0, 0, 0, 0⟩) (k1 : Int) 143 w31 R31.out HCK.out (by decide)).mono ?_; rintro e w32 ⟨A32, c32, rfl, e32⟩
    have E32 := Lib.hid (E31.out.t e32)
    clear e32 E31 R31
    go_wp2_with fail
    refine (check_wr none 0 0 [] (-1) 6 w32 RdS.none_ rfl).mono ?_; rintro e w33 ⟨rfl, e33⟩
    have E33 := Lib.hid (E32.out.t e33)
    clear e33 E32
    go_wp2_with fail
    refine (read_nil_ w33).mono ?_; rintro e w34 ⟨A34, n34, c34, rfl, e34⟩
    have E34 := Lib.hid (E33.out.t e34)
    clear e34 E33
    go_wp2_with fail
    go_ret
    exact ⟨rfl, E34.out⟩
  · have hsl := fun w' => in_to1 (A := some ⟨b2, o2, none⟩) (n := n2) (c := c2) w' (by have := N2.out.room.2.1; omega)
    have HRp := Lib.hid (repeat256 (some ⟨b2, o2, none⟩) c2 (p.take 1) w2 (N2.out.rd.take (by omega)))
    obtain ⟨pr, hpr⟩ : ∃ pr, pr = repL 256 (p.take 1) := ⟨_, rfl⟩
    rw [← hpr] at HRp
    obtain ⟨pq, hpq⟩ : ∃ pq, pq = pr ++ p := ⟨_, rfl⟩
    have Hpq := Lib.hid hpq
    have HCK : Hid (checkF pq = (-1, 5)) := Lib.hid (check_many (by
      rw [hpq, hpr, List.length_append, repL_len, List.length_take, Hpn.out, Nat.min_eq_left (by omega)]; omega))
    clear hpr hpq HM0
    go_wp2_with fail
    refine HRp.out.mono ?_; rintro e w3 ⟨G, rfl, hroom, hG, e3⟩
    have R3 := Lib.hid hroom
    have P3 := Lib.hid (N2.out.rd.ext e3)
    have E3 := Lib.hid (N2.out.ext.t e3)
    have HG : Hid (w.heap.size ≤ G) := Lib.hid (Nat.le_trans N2.out.ext.size hG)
    clear hroom hG e3
    go_wp2_with (refine wpl_append_atS (by rfl) rfl ul_ins info_ins rfl rfl R3.out rfl (Src.ofRdS ul_ins insC_len P3.out insC_one) (by unfold maxLen; omega) (by omega) ?_)
    intro A4 c4 w4 r4 ch4 ft4; refine Lib.hid ?_
    have R4 : Hid (RdS 5 insC w4 A4 (256 + n2) pq) := Lib.hid (by
      have h : RoomS 5 w4 A4 (256 + n2) c4 (pq.flatMap insC) := by rw [Hpq.out, List.flatMap_append]; exact r4
      exact h.rd insC_len (by decide))
    have E4 : Hid (Ext w w4) := Lib.hid (E3.out.trans (ch4.below E3.out.size (fun k hk hf => by have h1 := foot_some hf; have := HG.out; omega)))
    clear r4 ch4 ft4 R3 P3 E3 HG
    go_wp2_with fail
    refine (check_wr A4 (256 + n2) c4 pq (-1) 5 w4 R4.out HCK.out).mono ?_; rintro e w31 ⟨rfl, e31⟩
    have R31 := Lib.hid ((show RdS 5 insC w4 A4 (256 + n2) pq from R4.out).ext e31)
    have E31 := Lib.hid (E4.out.t e31)
    clear e31
    go_wp2_with fail
    refine (write_wr A4 (256 + n2) c4 pq (-1) 5 w31 R31.out HCK.out (by decide)).mono ?_; rintro e w32 ⟨A32, c32, rfl, e32⟩
    have E32 := Lib.hid (E31.out.t e32)
    clear e32 E31 R31
    go_wp2_with fail
    refine (check_wr none 0 0 [] (-1) 6 w32 RdS.none_ rfl).mono ?_; rintro e w33 ⟨rfl, e33⟩
    have E33 := Lib.hid (E32.out.t e33)
    clear e33 E32
    go_wp2_with fail
    refine (read_nil_ w33).mono ?_; rintro e w34 ⟨A34, n34, c34, rfl, e34⟩
    have E34 := Lib.hid (E33.out.t e34)
    clear e34 E33
    go_wp2_with fail
    go_ret
    exact ⟨rfl, E34.out⟩
end Go.Proofs.Ytiakcehhegippaa
