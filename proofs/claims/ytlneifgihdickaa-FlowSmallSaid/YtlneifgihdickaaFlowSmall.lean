/- FlowSmall: what the flow of the greatest program is, in plain Lean; the walk of big; the walk of the law: it answers true and leaves all memory as it was (no condition). -/
import Derived.Test.YtlneifgihdickaaFcs
import Derived.Test.YtlneifgihdickaaWrp
import Derived.Test.YtlneifgihdickaaTls
namespace Go.Fx
open Go.Proofs Go.Proofs.Ytlneifgihdickaa
/-- 255 moves and a jump back to the first. -/
def pb : List Ins := (List.replicate 256 ⟨4, 0, 0, 0, 0⟩).set 255 ⟨9, 0, 0, 0, 0⟩
theorem pb_len : pb.length = 256 := by unfold pb; rw [List.length_set, List.length_replicate]
theorem pb_get {i : Nat} (h : i < 255) : pb[i]? = some ⟨4, 0, 0, 0, 0⟩ := by
  unfold pb
  rw [List.getElem?_set_ne (by omega), List.getElem?_replicate, if_pos (by omega)]
theorem pb_last : pb[255]? = some ⟨9, 0, 0, 0, 0⟩ := by
  unfold pb
  rw [List.getElem?_set_self (by rw [List.length_replicate]; omega)]
theorem ed_move (i : Nat) : edX ⟨4, 0, 0, 0, 0⟩ i = [i + 1] := by
  unfold edX
  rw [show tgtF ⟨4, 0, 0, 0, 0⟩ = false by decide, show goesF ⟨4, 0, 0, 0, 0⟩ = true by decide]
  simp
theorem pb_ed {i : Nat} (h : i < 255) : edF pb i = [i + 1] := by
  unfold edF
  rw [pb_get h]
  exact ed_move i
theorem pb_ed1 : edF pb 255 = [0] := by
  unfold edF
  rw [pb_last]
  decide
theorem pb_chk : (checkF pb).2 = 0 := by decide +kernel
theorem pb_right : RightP pb := rightP_iff.1 pb_chk
def pbD : List Int := (List.range 256).map (fun i : Nat => (i : Int))
def pbN : List Int := (List.range 256).map (fun i : Nat => (i : Int) - 1)
def pbE : List Bool := List.replicate 256 false
theorem pbD_get {i : Nat} (h : i < 256) : pbD[i]? = some (i : Int) := by
  unfold pbD
  rw [List.getElem?_map, List.getElem?_range h]; rfl
theorem pbN_get {i : Nat} (h : i < 256) : pbN[i]? = some ((i : Int) - 1) := by
  unfold pbN
  rw [List.getElem?_map, List.getElem?_range h]; rfl
theorem pbE_get {i : Nat} (h : i < 256) : pbE[i]? = some false := by
  unfold pbE
  rw [List.getElem?_replicate, if_pos h]
theorem pbD_len : pbD.length = 256 := by unfold pbD; rw [List.length_map, List.length_range]
theorem pbN_len : pbN.length = 256 := by unfold pbN; rw [List.length_map, List.length_range]
theorem pbE_len : pbE.length = 256 := List.length_replicate
theorem pb_go {u v : Nat} : EdP pb u v ↔ (u < 255 ∧ v = u + 1) ∨ (u = 255 ∧ v = 0) := by
  unfold EdP
  by_cases h : u < 255
  · rw [pb_ed h, List.mem_singleton]; omega
  · by_cases h2 : u = 255
    · subst h2; rw [pb_ed1, List.mem_singleton]; omega
    · unfold edF
      rw [List.getElem?_eq_none (by rw [pb_len]; omega)]
      refine ⟨fun h => absurd h List.not_mem_nil, fun h => ?_⟩
      omega
theorem pb_d : IsD (EdP pb) 256 0 pbD := by
  refine ⟨pbD_len, pbD_get (by omega), fun {v x} hv => ?_, fun {u v x} hu h0 he => ?_⟩
  · have hl : v < 256 := by have := (List.getElem?_eq_some_iff.1 hv).1; rw [pbD_len] at this; exact this
    rw [pbD_get hl] at hv
    cases hv
    by_cases h0 : v = 0
    · exact .inr (.inl ⟨by omega, h0⟩)
    · exact .inr (.inr ⟨by omega, v - 1, pb_go.2 (.inl ⟨by omega, by omega⟩), by rw [pbD_get (by omega)]; congr 1; omega⟩)
  · have hl : u < 256 := by have := (List.getElem?_eq_some_iff.1 hu).1; rw [pbD_len] at this; exact this
    rw [pbD_get hl] at hu
    cases hu
    rcases pb_go.1 he with ⟨h1, rfl⟩ | ⟨h1, rfl⟩
    · exact ⟨((u + 1 : Nat) : Int), pbD_get (by omega), by omega, by omega⟩
    · exact ⟨((0 : Nat) : Int), pbD_get (by omega), by omega, by omega⟩
theorem pb_n : IsN (EdP pb) 256 pbN := by
  refine ⟨pbN_len, fun {i} hi h => ?_, fun {i} hi h0 hr => ?_⟩
  · rcases h with rfl | h
    · exact pbN_get hi
    · exact absurd ((pb_d.iff (pbD_get hi)).1 (by omega)) h
  · refine ⟨i - 1, by omega, by rw [pbN_get hi]; congr 1; omega, nea_of_one (fun u he => ?_) h0 (by omega) hr⟩
    rcases pb_go.1 he with h | h <;> omega
theorem pb_e : IsE pb pbE := by
  refine ⟨by rw [pbE_len, pb_len], fun {v b} hv => ?_⟩
  have hl : v < 256 := by have := (List.getElem?_eq_some_iff.1 hv).1; rw [pbE_len] at this; exact this
  rw [pbE_get hl] at hv
  cases hv
  refine ⟨fun h => (by cases h), fun ⟨h, x, hx, h1, _⟩ => ?_⟩
  have hh : h < 256 := by have := (List.getElem?_eq_some_iff.1 hx).1; rw [pb_len] at this; exact this
  by_cases h2 : h < 255
  · rw [pb_get h2] at hx; cases hx; cases h1
  · obtain rfl : h = 255 := by omega
    rw [pb_last] at hx; cases hx; cases h1
theorem pb_led (k : Nat) : ∀ m, m ≤ 256 → ledF pb m k = decide (k = 0)
  | 0, _ => rfl
  | m + 1, hm => by
    have ih := pb_led k m (by omega)
    by_cases h : m < 255
    · rw [ledF_succ (pb_get h), ih]
      unfold ledS
      rw [show tgtF ⟨4, 0, 0, 0, 0⟩ = false by decide, show goesF ⟨4, 0, 0, 0, 0⟩ = true by decide]
      simp
    · obtain rfl : m = 255 := by omega
      rw [ledF_succ pb_last, ih]
      unfold ledS
      rw [show tgtF ⟨9, 0, 0, 0, 0⟩ = true by decide, show goesF ⟨9, 0, 0, 0, 0⟩ = false by decide, pb_len]
      by_cases h0 : k = 0
      · subst h0; rfl
      · have h1 : ¬ ((0 : Int) = (k : Int)) := by omega
        simp [h0, h1]
theorem pb_blkN {L : Nat → Bool} (h : ∀ k, L k = decide (k = 0)) : ∀ m, blkN L (m + 1) = [(0, m + 1)]
  | 0 => by
    rw [blkN, blkN, blkA, if_pos (by rw [h]; rfl)]; rfl
  | m + 1 => by
    rw [blkN, pb_blkN h m, blkA, if_neg (by rw [h]; simp)]; rfl
theorem pb_b : (blkN (ledF pb 256) 256).zip ((blkN (ledF pb 256) 256).map (fun x => (edF pb (x.2 - 1)).map (numN (ledF pb 256)))) = [((0, 256), [0])] := by
  have h := pb_blkN (L := ledF pb 256) (fun k => pb_led k 256 (Nat.le_refl _))
  have h2 : numN (ledF pb 256) 0 = 0 := by unfold numN; rw [h 0]; rfl
  rw [show blkN (ledF pb 256) 256 = [(0, 256)] from h 255]
  simp only [List.map_cons, List.map_nil, List.zip_cons_cons, List.zip_nil_right]
  rw [show 256 - 1 = 255 from rfl, pb_ed1, List.map_cons, h2]; rfl
end Go.Fx
namespace Go.Proofs.Ytlneifgihdickaa
open Go.RowKit Go.Fx
theorem rep256 {A : Option Addr} {c : Nat} {xs : List Ins} {w : World} (h : RdS 5 insC w A 1 xs) :
    Calls Try.prog 25 #[.slice A 1 c, .int .i64 256] w fun e w' => ∃ G, e = .returned (.slice (some ⟨G, 0, none⟩) 256 256) ∧ RoomS 5 w' (some ⟨G, 0, none⟩) 256 256 ((repL 256 xs).flatMap insC) ∧ w.heap.size ≤ G ∧ Ext w w' :=
  repeatI A 1 c 256 xs w h (by decide) (by decide) (by decide) (by decide)
theorem bls_one {w : World} {A : Option Addr} {x : Bk} (h : BlsR w A 1 [x]) : ∃ (b o : Nat) (s : Sl), A = some ⟨b, o, none⟩ ∧ w.cell? ⟨b, o, none⟩ = some (.int .i64 (x.1.1 : Int)) ∧ w.cell? ⟨b, o + 1, none⟩ = some (.int .i64 (x.1.2 : Int)) ∧ w.cell? ⟨b, o + 2, none⟩ = some (.slice s.A s.n s.c) ∧ Rd intv w s.A s.n x.2 := by
  obtain ⟨b, o, h1, _, h3⟩ := h.2 (by decide)
  obtain ⟨s, c0, c1, c2, r, _⟩ := h3 0 x rfl
  rw [Nat.zero_mul, Nat.add_zero] at c0 c1 c2
  exact ⟨b, o, s, h1, c0, c1, c2, r⟩
set_option maxRecDepth 100000 in
set_option maxHeartbeats 4000000 in
theorem big_ (w : World) : Calls Try.prog 24 #[] w fun e w' => e = .returned (.bool true) ∧ Ext w w' := by
  go_enter Try.func24, Try.ntmps24
  go_wp2_with (refine wpl_buildS insC_len (by decide) (by rfl) rfl ul_ins info_ins [.tmp 11] (by rfl) (by rfl) (by decide) [⟨4, 0, 0, 0, 0⟩] (by rfl) ?_)
  intro g2 v2 b1 e1 lo1 r1; refine Lib.hid ?_
  have E := Lib.hid e1
  have HR := Lib.hid (rep256 (c := 1) r1)
  clear b1 e1 lo1 r1
  go_wp2_with fail
  refine HR.out.mono ?_; rintro e v3 ⟨G, rfl, rm, lo, x1⟩
  have hN : NewS w (List.replicate 256 ⟨4, 0, 0, 0, 0⟩) v3 (some ⟨G, 0, none⟩) 256 256 := ⟨by rw [repL_single] at rm; exact rm, E.out.t x1, fun k hk => by
    obtain ⟨_, o, e⟩ := hk
    cases e
    have := E.out.size
    omega⟩
  obtain ⟨u0, u1, u2, u3, u4, c0, c1, c2, c3, c4, hf⟩ := hN.cells5 (k := 255) (by decide)
  have f0 := hf 0 (by decide)
  have f1 := hf 1 (by decide)
  have f2 := hf 2 (by decide)
  have f3 := hf 3 (by decide)
  have f4 := hf 4 (by decide)
  have NW : NewS w pb (fiveAt v3 G 1275 ⟨9, 0, 0, 0, 0⟩) (some ⟨G, 0, none⟩) 256 256 := hN.five (k := 255) (by decide) ⟨9, 0, 0, 0, 0⟩
  have HP := Lib.hid NW.rd
  replace E := Lib.hid NW.ext
  rw [Nat.add_zero] at f0
  rw [show 0 + 255 * 5 = 1275 from rfl] at c0 c1 c2 c3 c4
  clear hN hf rm lo x1 HR NW
  go_wp2_with fail
  change Calls _ _ _ (fiveAt v3 G 1275 ⟨9, 0, 0, 0, 0⟩) _
  generalize fiveAt v3 G 1275 ⟨9, 0, 0, 0, 0⟩ = v4 at *
  clear c0 c1 c2 c3 c4 f0 f1 f2 f3 f4
  refine (sh_dist HP.out pb_right pb_d).mono ?_; rintro e v5 ⟨A5, c5, rfl, k1, x1⟩
  have HD := Lib.hid k1
  replace HP := Lib.hid (HP.out.ext x1)
  replace E := Lib.hid (E.out.t x1)
  clear x1 k1
  go_wp2_with fail
  refine (sh_dom HP.out pb_right pb_n).mono ?_; rintro e v6 ⟨A6, c6, rfl, k1, x1⟩
  have HM := Lib.hid k1
  replace HP := Lib.hid (HP.out.ext x1)
  replace HD := Lib.hid (HD.out.ext x1)
  replace E := Lib.hid (E.out.t x1)
  clear x1 k1
  go_wp2_with fail
  refine (sh_ends HP.out pb_right pb_e).mono ?_; rintro e v7 ⟨A7, c7, rfl, k1, x1⟩
  have HH := Lib.hid k1
  replace HP := Lib.hid (HP.out.ext x1)
  replace HD := Lib.hid (HD.out.ext x1)
  replace HM := Lib.hid (HM.out.ext x1)
  replace E := Lib.hid (E.out.t x1)
  clear x1 k1
  go_wp2_with fail
  refine (sh_blk (m := 1) HP.out pb_right pb_b rfl).mono ?_; rintro e v8 ⟨A8, c8, rfl, k1, x1⟩
  obtain ⟨b8, o8, ⟨As, ns, cs⟩, rfl, d0, d1, d2, rs⟩ := bls_one k1
  have hns : ns = 1 := rs.1.symm
  subst hns
  have HS := Lib.hid rs
  replace HP := Lib.hid (HP.out.ext x1)
  replace HD := Lib.hid (HD.out.ext x1)
  replace HM := Lib.hid (HM.out.ext x1)
  replace HH := Lib.hid (HH.out.ext x1)
  replace E := Lib.hid (E.out.t x1)
  clear x1 k1 rs
  simp only at d0 d1 d2
  go_wp2_with (refine wpl_build (by rfl) rfl ul_in info_in [.const (.int .i64 0)] (by rfl) (by rfl) (by decide) (f := intv) [0] (by rfl) (fun _ => rfl) ?_)
  intro g9 v9 b1 e1 lo1 r1; refine Lib.hid ?_
  replace HS := Lib.hid (HS.out.ext e1)
  have HQ := Lib.hid r1
  replace HD := Lib.hid (HD.out.ext e1)
  replace HM := Lib.hid (HM.out.ext e1)
  replace HH := Lib.hid (HH.out.ext e1)
  replace E := Lib.hid (E.out.t e1)
  clear b1 e1 lo1 r1 d0 d1 d2
  go_wp2_with fail
  refine (same_N HS.out HQ.out (by decide)).mono ?_; rintro e v10 ⟨rfl, x1⟩
  replace HD := Lib.hid (HD.out.ext x1)
  replace HM := Lib.hid (HM.out.ext x1)
  replace HH := Lib.hid (HH.out.ext x1)
  replace E := Lib.hid (E.out.t x1)
  clear x1 HS HQ HP
  have HDg := Lib.hid (fun (i : Nat) (hi : i < 256) => pbD_get hi)
  have HMg := Lib.hid (fun (i : Nat) (hi : i < 256) => pbN_get hi)
  have HHg := Lib.hid (fun (i : Nat) (hi : i < 256) => pbE_get hi)
  generalize pbD = dD at HD HDg
  generalize pbN = dN at HM HMg
  generalize pbE = dE at HH HHg
  go_wp2_with fail
  go_loopw [90] (fun v90 wr => ∃ k : Nat, k ≤ 256 ∧ v90 = .int .i64 (k : Int) ∧ Hid (Ext v10 wr)) (fun v _ => 256 - (intOf v).toNat)
  case atStart => exact ⟨0, by omega, rfl, Lib.hid (Ext.refl _)⟩
  case round =>
    obtain ⟨k, hk, rfl, HJ⟩ := hrel
    by_cases hlt : k < 256
    · have hltI : (k : Int) < 256 := by omega
      obtain ⟨b, o, x, rfl, hx, cx⟩ := rd_get (HD.out.ext HJ.out) hlt
      obtain ⟨b', o', y, rfl, hy, cy⟩ := rd_get (HM.out.ext HJ.out) hlt
      obtain ⟨b'', o'', z, rfl, hz, cz⟩ := rd_get (HH.out.ext HJ.out) hlt
      rw [HDg.out k hlt] at hx; cases hx
      rw [HMg.out k hlt] at hy; cases hy
      rw [HHg.out k hlt] at hz; cases hz
      unfold intz at cx cy
      unfold boolv at cz
      go_wp2_with fail
      go_roundw
      case rel => exact ⟨k + 1, by omega, by go_num, HJ⟩
      case measure => simp [intOf]; omega
    · obtain rfl : k = 256 := by omega
      go_wp2_with fail
      go_ret
      exact ⟨rfl, E.out.t HJ.out⟩
end Go.Proofs.Ytlneifgihdickaa
namespace Go.Proofs.Ytlneifgihdickaa
open Go.RowKit Go.Fx
theorem ul_pp : Try.prog.underlying 47 = some (.slice 24) := by kernel_rfl
theorem info_pp : (Try.prog.info? 24).map (fun i => (i.zero, i.size, i.bytes)) = some (some (.slice none 0 0), 1, 24) := by kernel_rfl
theorem ins_at {w : World} {b o' n k : Nat} {p : List Ins} {x : Ins} (h : RdS 5 insC w (some ⟨b, o', none⟩) n p) (hx : p[k]? = some x) (hk : k < n) :
    w.cell? ⟨b, o' + k * 5, none⟩ = some (.int .u8 (x.op : Int)) ∧ w.cell? ⟨b, o' + k * 5 + 1, none⟩ = some (.int .u8 (x.a : Int)) ∧ w.cell? ⟨b, o' + k * 5 + 2, none⟩ = some (.int .u8 (x.b : Int)) ∧ w.cell? ⟨b, o' + k * 5 + 3, none⟩ = some (.int .u8 (x.c : Int)) ∧ w.cell? ⟨b, o' + k * 5 + 4, none⟩ = some (.int .i64 x.n) := by
  obtain ⟨b2, o2, i, h1, _, h3, h4⟩ := h.ins hk
  cases h1
  rw [hx] at h3
  cases h3
  exact h4
theorem rds_blk {w : World} {g n : Nat} {t : TypeId} {xs : List Ins} (hb : Blk w g t (xs.flatMap insC).toArray) (hn : xs.length = n) : RdS 5 insC w (some ⟨g, 0, none⟩) n xs := by
  refine ⟨hn, fun _ => ⟨_, 0, rfl, hb.lt, fun i x hx j u hu => ?_⟩⟩
  have hj : j < 5 := by have := (List.getElem?_eq_some_iff.1 hu).1; rw [insC_len] at this; exact this
  rw [Nat.zero_add, hb.cell, List.getElem?_toArray, flat_get insC_len xs i j x hx hj]
  exact hu
def Sep (A : Option Addr) (c : Nat) (A' : Option Addr) (c' : Nat) : Prop := ∀ k, foot A c k → ¬ foot A' c' k
theorem Sep.symm {A A' : Option Addr} {c c' : Nat} (h : Sep A c A' c') : Sep A' c' A c := fun k h1 h2 => h k h2 h1
/-- Three lists that grow side by side. -/
structure Tri (w0 : World) (A1 : Option Addr) (n1 c1 : Nat) (A2 : Option Addr) (n2 c2 : Nat) (A3 : Option Addr) (n3 c3 : Nat) (w : World) : Prop where
  a : ∃ p, NewS w0 p w A1 n1 c1
  b : ∃ p, NewS w0 p w A2 n2 c2
  c : ∃ p, NewS w0 p w A3 n3 c3
  ab : Sep A1 c1 A2 c2
  ac : Sep A1 c1 A3 c3
  bc : Sep A2 c2 A3 c3
section
variable {w0 w w3 : World} {A1 A2 A3 A' : Option Addr} {n1 n2 n3 c1 c2 c3 c' : Nat}
theorem Tri.nil (h : Ext w0 w) : Tri w0 none 0 0 none 0 0 none 0 0 w :=
  ⟨⟨[], (NewS.nil w0).exte h⟩, ⟨[], (NewS.nil w0).exte h⟩, ⟨[], (NewS.nil w0).exte h⟩, fun _ h => absurd h foot_none, fun _ h => absurd h foot_none, fun _ h => absurd h foot_none⟩
theorem Tri.rot (h : Tri w0 A1 n1 c1 A2 n2 c2 A3 n3 c3 w) : Tri w0 A2 n2 c2 A3 n3 c3 A1 n1 c1 w := ⟨h.b, h.c, h.a, h.bc, h.ab.symm, h.ac.symm⟩
theorem Tri.exte (h : Tri w0 A1 n1 c1 A2 n2 c2 A3 n3 c3 w) (e : Ext w w3) : Tri w0 A1 n1 c1 A2 n2 c2 A3 n3 c3 w3 :=
  ⟨h.a.imp fun _ h => h.exte e, h.b.imp fun _ h => h.exte e, h.c.imp fun _ h => h.exte e, h.ab, h.ac, h.bc⟩
theorem NewS.off {p : List Ins} {T : Nat → Prop} (h : NewS w0 p w A2 n2 c2) (x : Ext w0 w3) (ch : Chg T w w3) (hs : ∀ k, foot A2 c2 k → ¬ T k) : NewS w0 p w3 A2 n2 c2 := ⟨h.room.chg ch hs, x, h.ft⟩
theorem Tri.more {p : List Ins} {y : Ins} (h : Tri w0 A1 n1 c1 A2 n2 c2 A3 n3 c3 w) (hp : NewS w0 p w A1 n1 c1) (r : RoomS 5 w3 A' (n1 + 1) c' (p.flatMap insC ++ [y].flatMap insC)) (ch : Chg (foot A1 c1) w w3) (ft : ∀ k, foot A' c' k → foot A1 c1 k ∨ w.heap.size ≤ k) :
    Tri w0 A' (n1 + 1) c' A2 n2 c2 A3 n3 c3 w3 := by
  have hN := hp.more (Ext.refl _) r ch ft
  obtain ⟨p2, h2⟩ := h.b
  obtain ⟨p3, h3⟩ := h.c
  refine ⟨⟨_, hN⟩, ⟨p2, h2.off hN.ext ch (fun k hk ht => h.ab k ht hk)⟩, ⟨p3, h3.off hN.ext ch (fun k hk ht => h.ac k ht hk)⟩, fun k hk ht => ?_, fun k hk ht => ?_, h.bc⟩
  · rcases ft k hk with h1 | h1
    · exact h.ab k h1 ht
    · have := h2.room.lt ht; omega
  · rcases ft k hk with h1 | h1
    · exact h.ac k h1 ht
    · have := h3.room.lt ht; omega
end
/-- A row of lists, of which those from the j-th on are still as they were made. -/
structure RowL (w0 : World) (g m : Nat) (ss : List Sl) (j : Nat) (w : World) : Prop where
  ext : Ext w0 w
  rd : Rd slv w (some ⟨g, 0, none⟩) 3 ss
  at_ : ∀ (i : Nat) (s : Sl), j ≤ i → ss[i]? = some s → s.n = m ∧ ∃ p, NewS w0 p w s.A m s.c
  sep : ∀ (i i' : Nat) (s s' : Sl), i ≠ i' → ss[i]? = some s → ss[i']? = some s' → Sep s.A s.c s'.A s'.c
  off : ∀ (i : Nat) (s : Sl), ss[i]? = some s → ∀ k, foot s.A s.c k → k ≠ g
theorem RowL.exte {w0 w w' : World} {g m j : Nat} {ss : List Sl} (h : RowL w0 g m ss j w) (e : Ext w w') : RowL w0 g m ss j w' :=
  ⟨h.ext.t e, h.rd.ext e, fun i s hi hs => ⟨(h.at_ i s hi hs).1, (h.at_ i s hi hs).2.imp fun _ h => h.exte e⟩, h.sep, h.off⟩
theorem RowL.of {w0 w w4 : World} {A1 A2 A3 : Option Addr} {c1 c2 c3 g m : Nat} (h : Tri w0 A1 m c1 A2 m c2 A3 m c3 w) (e : Ext w w4) (lo : w.heap.size ≤ g) (r : Rd slv w4 (some ⟨g, 0, none⟩) 3 [⟨A1, m, c1⟩, ⟨A2, m, c2⟩, ⟨A3, m, c3⟩]) : RowL w0 g m [⟨A1, m, c1⟩, ⟨A2, m, c2⟩, ⟨A3, m, c3⟩] 0 w4 := by
  obtain ⟨p1, h1⟩ := h.a
  obtain ⟨p2, h2⟩ := h.b
  obtain ⟨p3, h3⟩ := h.c
  refine ⟨h1.ext.t e, r, fun i s _ hs => ?_, fun i i' s s' hne hs hs' => ?_, fun i s hs k hk => ?_⟩
  · match i, hs with
    | 0, hs => cases hs; exact ⟨rfl, p1, h1.exte e⟩
    | 1, hs => cases hs; exact ⟨rfl, p2, h2.exte e⟩
    | 2, hs => cases hs; exact ⟨rfl, p3, h3.exte e⟩
    | i + 3, hs => cases hs
  · match i, i', hne, hs, hs' with
    | 0, 1, _, hs, hs' => cases hs; cases hs'; exact h.ab
    | 0, 2, _, hs, hs' => cases hs; cases hs'; exact h.ac
    | 1, 0, _, hs, hs' => cases hs; cases hs'; exact h.ab.symm
    | 1, 2, _, hs, hs' => cases hs; cases hs'; exact h.bc
    | 2, 0, _, hs, hs' => cases hs; cases hs'; exact h.ac.symm
    | 2, 1, _, hs, hs' => cases hs; cases hs'; exact h.bc.symm
    | 0, 0, hne, _, _ => exact absurd rfl hne
    | 1, 1, hne, _, _ => exact absurd rfl hne
    | 2, 2, hne, _, _ => exact absurd rfl hne
    | i + 3, _, _, hs, _ => cases hs
    | _, i + 3, _, _, hs' => cases hs'
  · match i, hs with
    | 0, hs => cases hs; have := h1.room.lt hk; omega
    | 1, hs => cases hs; have := h2.room.lt hk; omega
    | 2, hs => cases hs; have := h3.room.lt hk; omega
    | i + 3, hs => cases hs
theorem RowL.more {w0 w w3 : World} {A A' : Option Addr} {n c c' g m j : Nat} {ss : List Sl} {p : List Ins} {y : Ins} (h : RowL w0 g m ss j w) (hs : ss[j]? = some ⟨A, n, c⟩) (hp : NewS w0 p w A m c) (r : RoomS 5 w3 A' (m + 1) c' (p.flatMap insC ++ [y].flatMap insC)) (ch : Chg (foot A c) w w3) (ft : ∀ k, foot A' c' k → foot A c k ∨ w.heap.size ≤ k) :
    RowL w0 g m ss (j + 1) w3 ∧ NewS w0 (p ++ [y]) w3 A' (m + 1) c' := by
  have hN := hp.more (Ext.refl _) r ch ft
  refine ⟨⟨hN.ext, h.rd.chg ch (fun k o hA _ hk => ?_), fun i s hi hs' => ⟨(h.at_ i s (by omega) hs').1, ?_⟩, h.sep, h.off⟩, hN⟩
  · cases hA
    exact h.off j _ hs _ hk rfl
  · obtain ⟨_, q, hq⟩ := h.at_ i s (by omega) hs'
    exact ⟨q, hq.off hN.ext ch (fun k hk ht => h.sep i j s _ (by omega) hs' hs k hk ht)⟩
theorem rep257 {A : Option Addr} {c : Nat} {xs : List Ins} {w : World} (h : RdS 5 insC w A 1 xs) :
    Calls Try.prog 25 #[.slice A 1 c, .int .i64 257] w fun e w' => ∃ G, e = .returned (.slice (some ⟨G, 0, none⟩) 257 257) ∧ RoomS 5 w' (some ⟨G, 0, none⟩) 257 257 ((repL 257 xs).flatMap insC) ∧ w.heap.size ≤ G ∧ Ext w w' :=
  repeatI A 1 c 257 xs w h (by decide) (by decide) (by decide) (by decide)
set_option maxRecDepth 100000 in
set_option maxHeartbeats 4000000 in
theorem walkFlowSmall (w : World) : Calls Try.prog 7 #[] w fun e w' => e = .returned (.bool true) ∧ Ext w w' := by
  go_enter Try.func7, Try.ntmps7
  go_wp2_with (refine wpl_buildS insC_len (by decide) (by rfl) rfl ul_ins info_ins [.tmp 11, .tmp 12, .tmp 13, .tmp 14, .tmp 15, .tmp 16, .tmp 17, .tmp 18, .tmp 19, .tmp 20, .tmp 21, .tmp 22, .tmp 23] (by rfl) (by rfl) (by decide) [⟨1, 0, 0, 0, 0⟩, ⟨2, 0, 0, 0, 0⟩, ⟨4, 0, 0, 0, 0⟩, ⟨9, 0, 0, 0, 0⟩, ⟨9, 0, 0, 0, 1⟩, ⟨9, 0, 0, 0, 2⟩, ⟨10, 0, 0, 0, 0⟩, ⟨10, 0, 0, 0, 1⟩, ⟨11, 0, 0, 0, 2⟩, ⟨11, 0, 0, 0, 3⟩, ⟨9, 0, 0, 0, 3⟩, ⟨9, 0, 0, 0, 4⟩, ⟨12, 0, 0, 0, 0⟩] (by rfl) ?_)
  intro g2 v2 b1 e1 lo1 r1; refine Lib.hid ?_
  have E := Lib.hid e1
  have HP := Lib.hid r1
  clear b1 e1 lo1 r1
  generalize ([⟨1, 0, 0, 0, 0⟩, ⟨2, 0, 0, 0, 0⟩, ⟨4, 0, 0, 0, 0⟩, ⟨9, 0, 0, 0, 0⟩, ⟨9, 0, 0, 0, 1⟩, ⟨9, 0, 0, 0, 2⟩, ⟨10, 0, 0, 0, 0⟩, ⟨10, 0, 0, 0, 1⟩, ⟨11, 0, 0, 0, 2⟩, ⟨11, 0, 0, 0, 3⟩, ⟨9, 0, 0, 0, 3⟩, ⟨9, 0, 0, 0, 4⟩, ⟨12, 0, 0, 0, 0⟩] : List Ins) = ms at HP
  go_wp2_with fail
  go_loopw [25] (fun v wr => ∃ (way : Nat), way ≤ 2197 ∧ v = .int .i64 (way : Int) ∧ Hid (Ext v2 wr)) (fun v _ => 2197 - (intOf v).toNat)
  case atStart => exact ⟨0, Nat.zero_le _, rfl, Lib.hid (Ext.refl _)⟩
  case round =>
    obtain ⟨way, hway, rfl, HJ⟩ := hrel
    by_cases hlt : way < 2197
    · have hltI : (way : Int) < 2197 := by omega
      obtain ⟨r1, hr1⟩ : ∃ r, r = way % 13 := ⟨_, rfl⟩
      obtain ⟨q1, hq1⟩ : ∃ r, r = way / 13 := ⟨_, rfl⟩
      obtain ⟨r2, hr2⟩ : ∃ r, r = q1 % 13 := ⟨_, rfl⟩
      obtain ⟨r3, hr3⟩ : ∃ r, r = way / 169 := ⟨_, rfl⟩
      have hr1I : (way : Int).tmod 13 = (r1 : Int) := by rw [Int.tmod_eq_emod_of_nonneg (Int.natCast_nonneg _)]; omega
      have hr1E : (way : Int) % 13 = (r1 : Int) := by omega
      have hq1I : (way : Int).tdiv 13 = (q1 : Int) := by rw [Int.tdiv_eq_ediv_of_nonneg (Int.natCast_nonneg _)]; omega
      have hq1E : (way : Int) / 13 = (q1 : Int) := by omega
      have hr2I : (q1 : Int).tmod 13 = (r2 : Int) := by rw [Int.tmod_eq_emod_of_nonneg (Int.natCast_nonneg _)]; omega
      have hr2E : (q1 : Int) % 13 = (r2 : Int) := by omega
      have hr3I : (way : Int).tdiv 169 = (r3 : Int) := by rw [Int.tdiv_eq_ediv_of_nonneg (Int.natCast_nonneg _)]; omega
      have hr3E : (way : Int) / 169 = (r3 : Int) := by omega
      have h1 : r1 < 13 := by omega
      have h2 : r2 < 13 := by omega
      have h3 : r3 < 13 := by omega
      have hwq : IntKind.i64.wrap (q1 : Int) = (q1 : Int) := IntWalk.i64_in _ (by omega)
      have hw3 : IntKind.i64.wrap (r3 : Int) = (r3 : Int) := IntWalk.i64_in _ (by omega)
      have h1I : (r1 : Int) < 13 := by omega
      have h2I : (r2 : Int) < 13 := by omega
      have h3I : (r3 : Int) < 13 := by omega
      have HR := Lib.hid (HP.out.ext HJ.out)
      obtain ⟨x1, hx1⟩ : ∃ x, ms[r1]? = some x := ⟨_, List.getElem?_eq_getElem (by rw [HP.out.1]; exact h1)⟩
      obtain ⟨x2, hx2⟩ : ∃ x, ms[r2]? = some x := ⟨_, List.getElem?_eq_getElem (by rw [HP.out.1]; exact h2)⟩
      obtain ⟨x3, hx3⟩ : ∃ x, ms[r3]? = some x := ⟨_, List.getElem?_eq_getElem (by rw [HP.out.1]; exact h3)⟩
      have HX1 : Hid (∀ w', Ext wr w' → w'.cell? ⟨g2, r1 * 5, none⟩ = some (.int .u8 (x1.op : Int)) ∧ w'.cell? ⟨g2, r1 * 5 + 1, none⟩ = some (.int .u8 (x1.a : Int)) ∧ w'.cell? ⟨g2, r1 * 5 + 2, none⟩ = some (.int .u8 (x1.b : Int)) ∧ w'.cell? ⟨g2, r1 * 5 + 3, none⟩ = some (.int .u8 (x1.c : Int)) ∧ w'.cell? ⟨g2, r1 * 5 + 4, none⟩ = some (.int .i64 x1.n)) := Lib.hid (fun w' e => by have := ins_at (HR.out.ext e) hx1 h1; rwa [Nat.zero_add] at this)
      have HX2 : Hid (∀ w', Ext wr w' → w'.cell? ⟨g2, r2 * 5, none⟩ = some (.int .u8 (x2.op : Int)) ∧ w'.cell? ⟨g2, r2 * 5 + 1, none⟩ = some (.int .u8 (x2.a : Int)) ∧ w'.cell? ⟨g2, r2 * 5 + 2, none⟩ = some (.int .u8 (x2.b : Int)) ∧ w'.cell? ⟨g2, r2 * 5 + 3, none⟩ = some (.int .u8 (x2.c : Int)) ∧ w'.cell? ⟨g2, r2 * 5 + 4, none⟩ = some (.int .i64 x2.n)) := Lib.hid (fun w' e => by have := ins_at (HR.out.ext e) hx2 h2; rwa [Nat.zero_add] at this)
      have HX3 : Hid (∀ w', Ext wr w' → w'.cell? ⟨g2, r3 * 5, none⟩ = some (.int .u8 (x3.op : Int)) ∧ w'.cell? ⟨g2, r3 * 5 + 1, none⟩ = some (.int .u8 (x3.a : Int)) ∧ w'.cell? ⟨g2, r3 * 5 + 2, none⟩ = some (.int .u8 (x3.b : Int)) ∧ w'.cell? ⟨g2, r3 * 5 + 3, none⟩ = some (.int .u8 (x3.c : Int)) ∧ w'.cell? ⟨g2, r3 * 5 + 4, none⟩ = some (.int .i64 x3.n)) := Lib.hid (fun w' e => by have := ins_at (HR.out.ext e) hx3 h3; rwa [Nat.zero_add] at this)
      obtain ⟨r7, hr7⟩ : ∃ r, r = way % 7 := ⟨_, rfl⟩
      obtain ⟨r6, hr6⟩ : ∃ r, r = way % 6 := ⟨_, rfl⟩
      have hr7I : (way : Int).tmod 7 = (r7 : Int) := by rw [Int.tmod_eq_emod_of_nonneg (Int.natCast_nonneg _)]; omega
      have hr7E : (way : Int) % 7 = (r7 : Int) := by omega
      have hr6I : (way : Int).tmod 6 = (r6 : Int) := by rw [Int.tmod_eq_emod_of_nonneg (Int.natCast_nonneg _)]; omega
      have hr6E : (way : Int) % 6 = (r6 : Int) := by omega
      have hr6b : r6 < 6 := by omega
      clear hr1 hq1 hr2 hr3 hx1 hx2 hx3 hr6 hr7
      go_upto_region 5 with fail
      refine wp_region_held_drew (S := fun w' => Ext wr w') (by kernel_rfl) (Ext.drew wr) (fun hHeld => ?_)
      clear hHeld
      refine take_heldS (i := 0) (j := 28) (v := .slice (some ⟨g2, 0, none⟩) 13 13) rfl rfl (by as_aux_lemma => kernel_rfl) (by as_aux_lemma => kernel_rfl) (by as_aux_lemma => kernel_rfl) (fun _ _ _ h => h) (Or.inl ⟨by rfl, fun w' hw' => by go_simp; try rfl⟩) (Ext.drew _) ?_
      simp only [Act.put, List.setIfInBounds_toArray, List.set_cons_zero, List.set_cons_succ]
      refine take_heldS (i := 1) (j := 29) (v := .int .i64 (way : Int)) rfl rfl (by as_aux_lemma => kernel_rfl) (by as_aux_lemma => kernel_rfl) (by as_aux_lemma => kernel_rfl) (fun _ _ _ h => h) (Or.inl ⟨by rfl, fun w' hw' => by go_simp; try rfl⟩) (Ext.drew _) ?_
      simp only [Act.put, List.setIfInBounds_toArray, List.set_cons_zero, List.set_cons_succ]
      refine take_heldS (i := 2) (j := 30) (v := .int .i64 (r1 : Int)) rfl rfl (by as_aux_lemma => kernel_rfl) (by as_aux_lemma => kernel_rfl) (by as_aux_lemma => kernel_rfl) (fun _ _ _ h => h) (Or.inl ⟨by rfl, fun w' hw' => by go_simp; try rfl⟩) (Ext.drew _) ?_
      simp only [Act.put, List.setIfInBounds_toArray, List.set_cons_zero, List.set_cons_succ]
      refine take_heldS (i := 3) (j := 31) (v := .pointer (some ⟨g2, r1 * 5, none⟩)) rfl rfl (by as_aux_lemma => kernel_rfl) (by as_aux_lemma => kernel_rfl) (by as_aux_lemma => kernel_rfl) (fun _ _ _ h => h) (Or.inl ⟨by rfl, fun w' hw' => by go_simp; try rfl⟩) (Ext.drew _) ?_
      simp only [Act.put, List.setIfInBounds_toArray, List.set_cons_zero, List.set_cons_succ]
      refine take_heldS (i := 4) (j := 32) (v := .agg #[.int .u8 (x1.op : Int), .int .u8 (x1.a : Int), .int .u8 (x1.b : Int), .int .u8 (x1.c : Int), .int .i64 x1.n]) rfl rfl (by as_aux_lemma => kernel_rfl) (by as_aux_lemma => kernel_rfl) (by as_aux_lemma => kernel_rfl) (fun _ _ _ h => h) (Or.inl ⟨by rfl, fun w' hw' => by obtain ⟨q0, q1, q2, q3, q4⟩ := HX1.out w' hw'; go_simp; try rfl⟩) (Ext.drew _) ?_
      simp only [Act.put, List.setIfInBounds_toArray, List.set_cons_zero, List.set_cons_succ]
      refine take_heldS (i := 5) (j := 33) (v := .slice (some ⟨g2, 0, none⟩) 13 13) rfl rfl (by as_aux_lemma => kernel_rfl) (by as_aux_lemma => kernel_rfl) (by as_aux_lemma => kernel_rfl) (fun _ _ _ h => h) (Or.inl ⟨by rfl, fun w' hw' => by go_simp; try rfl⟩) (Ext.drew _) ?_
      simp only [Act.put, List.setIfInBounds_toArray, List.set_cons_zero, List.set_cons_succ]
      refine take_heldS (i := 6) (j := 34) (v := .int .i64 (way : Int)) rfl rfl (by as_aux_lemma => kernel_rfl) (by as_aux_lemma => kernel_rfl) (by as_aux_lemma => kernel_rfl) (fun _ _ _ h => h) (Or.inl ⟨by rfl, fun w' hw' => by go_simp; try rfl⟩) (Ext.drew _) ?_
      simp only [Act.put, List.setIfInBounds_toArray, List.set_cons_zero, List.set_cons_succ]
      refine take_heldS (i := 7) (j := 35) (v := .int .i64 (q1 : Int)) rfl rfl (by as_aux_lemma => kernel_rfl) (by as_aux_lemma => kernel_rfl) (by as_aux_lemma => kernel_rfl) (fun _ _ _ h => h) (Or.inl ⟨by rfl, fun w' hw' => by go_simp; try rfl⟩) (Ext.drew _) ?_
      simp only [Act.put, List.setIfInBounds_toArray, List.set_cons_zero, List.set_cons_succ]
      refine take_heldS (i := 8) (j := 36) (v := .int .i64 (r2 : Int)) rfl rfl (by as_aux_lemma => kernel_rfl) (by as_aux_lemma => kernel_rfl) (by as_aux_lemma => kernel_rfl) (fun _ _ _ h => h) (Or.inl ⟨by rfl, fun w' hw' => by go_simp; try rfl⟩) (Ext.drew _) ?_
      simp only [Act.put, List.setIfInBounds_toArray, List.set_cons_zero, List.set_cons_succ]
      refine take_heldS (i := 9) (j := 37) (v := .pointer (some ⟨g2, r2 * 5, none⟩)) rfl rfl (by as_aux_lemma => kernel_rfl) (by as_aux_lemma => kernel_rfl) (by as_aux_lemma => kernel_rfl) (fun _ _ _ h => h) (Or.inl ⟨by rfl, fun w' hw' => by go_simp; try rfl⟩) (Ext.drew _) ?_
      simp only [Act.put, List.setIfInBounds_toArray, List.set_cons_zero, List.set_cons_succ]
      refine take_heldS (i := 10) (j := 38) (v := .agg #[.int .u8 (x2.op : Int), .int .u8 (x2.a : Int), .int .u8 (x2.b : Int), .int .u8 (x2.c : Int), .int .i64 x2.n]) rfl rfl (by as_aux_lemma => kernel_rfl) (by as_aux_lemma => kernel_rfl) (by as_aux_lemma => kernel_rfl) (fun _ _ _ h => h) (Or.inl ⟨by rfl, fun w' hw' => by obtain ⟨q0, q1, q2, q3, q4⟩ := HX2.out w' hw'; go_simp; try rfl⟩) (Ext.drew _) ?_
      simp only [Act.put, List.setIfInBounds_toArray, List.set_cons_zero, List.set_cons_succ]
      refine take_heldS (i := 11) (j := 39) (v := .slice (some ⟨g2, 0, none⟩) 13 13) rfl rfl (by as_aux_lemma => kernel_rfl) (by as_aux_lemma => kernel_rfl) (by as_aux_lemma => kernel_rfl) (fun _ _ _ h => h) (Or.inl ⟨by rfl, fun w' hw' => by go_simp; try rfl⟩) (Ext.drew _) ?_
      simp only [Act.put, List.setIfInBounds_toArray, List.set_cons_zero, List.set_cons_succ]
      refine take_heldS (i := 12) (j := 40) (v := .int .i64 (way : Int)) rfl rfl (by as_aux_lemma => kernel_rfl) (by as_aux_lemma => kernel_rfl) (by as_aux_lemma => kernel_rfl) (fun _ _ _ h => h) (Or.inl ⟨by rfl, fun w' hw' => by go_simp; try rfl⟩) (Ext.drew _) ?_
      simp only [Act.put, List.setIfInBounds_toArray, List.set_cons_zero, List.set_cons_succ]
      refine take_heldS (i := 13) (j := 41) (v := .int .i64 (r3 : Int)) rfl rfl (by as_aux_lemma => kernel_rfl) (by as_aux_lemma => kernel_rfl) (by as_aux_lemma => kernel_rfl) (fun _ _ _ h => h) (Or.inl ⟨by rfl, fun w' hw' => by go_simp; try rfl⟩) (Ext.drew _) ?_
      simp only [Act.put, List.setIfInBounds_toArray, List.set_cons_zero, List.set_cons_succ]
      refine take_heldS (i := 14) (j := 42) (v := .pointer (some ⟨g2, r3 * 5, none⟩)) rfl rfl (by as_aux_lemma => kernel_rfl) (by as_aux_lemma => kernel_rfl) (by as_aux_lemma => kernel_rfl) (fun _ _ _ h => h) (Or.inl ⟨by rfl, fun w' hw' => by go_simp; try rfl⟩) (Ext.drew _) ?_
      simp only [Act.put, List.setIfInBounds_toArray, List.set_cons_zero, List.set_cons_succ]
      refine take_heldS (i := 15) (j := 43) (v := .agg #[.int .u8 (x3.op : Int), .int .u8 (x3.a : Int), .int .u8 (x3.b : Int), .int .u8 (x3.c : Int), .int .i64 x3.n]) rfl rfl (by as_aux_lemma => kernel_rfl) (by as_aux_lemma => kernel_rfl) (by as_aux_lemma => kernel_rfl) (fun _ _ _ h => h) (Or.inl ⟨by rfl, fun w' hw' => by obtain ⟨q0, q1, q2, q3, q4⟩ := HX3.out w' hw'; go_simp; try rfl⟩) (Ext.drew _) ?_
      simp only [Act.put, List.setIfInBounds_toArray, List.set_cons_zero, List.set_cons_succ]
      refine take_heldS (i := 16) (j := 44) (v := .agg #[.int .u8 1, .int .u8 0, .int .u8 0, .int .u8 0, .int .i64 0]) rfl rfl (by as_aux_lemma => kernel_rfl) (by as_aux_lemma => kernel_rfl) (by as_aux_lemma => kernel_rfl) (fun _ _ _ h => h) (Or.inl ⟨by rfl, fun w' hw' => by go_simp; try rfl⟩) (Ext.drew _) ?_
      simp only [Act.put, List.setIfInBounds_toArray, List.set_cons_zero, List.set_cons_succ]
      refine wpAnyH_ready (rs := [17]) (by kernel_rfl) (by simp) (AllReadyH.cons rfl (fun K hK => ?_) AllReadyH.nil)
      go_simp
      refine hK.out _ _ ?_ (fun hHeld => ?_)
      · first | exact (Ext.drew _).t (Ext.alloc _ _) | exact Ext.alloc _ _
      clear hK K hHeld
      obtain ⟨w_0, hW⟩ : ∃ W, W = (wr.alloc (.cells #[.int .u8 (x1.op : Int), .int .u8 (x1.a : Int), .int .u8 (x1.b : Int), .int .u8 (x1.c : Int), .int .i64 x1.n, .int .u8 (x2.op : Int), .int .u8 (x2.a : Int), .int .u8 (x2.b : Int), .int .u8 (x2.c : Int), .int .i64 x2.n, .int .u8 (x3.op : Int), .int .u8 (x3.a : Int), .int .u8 (x3.b : Int), .int .u8 (x3.c : Int), .int .i64 x3.n, .int .u8 1, .int .u8 0, .int .u8 0, .int .u8 0, .int .i64 0] 34)).drew := ⟨_, rfl⟩
      obtain ⟨g3, hg⟩ : ∃ g, g = wr.heap.size := ⟨_, rfl⟩
      have HQ : Hid (RdS 5 insC w_0 (some ⟨g3, 0, none⟩) 4 [x1, x2, x3, ⟨1, 0, 0, 0, 0⟩]) := Lib.hid (by rw [hW, hg]; exact (rds_blk (xs := [x1, x2, x3, ⟨1, 0, 0, 0, 0⟩]) (Blk.new wr _ _) rfl).ext (Ext.drew _))
      have E0 : Hid (Ext v2 w_0) := Lib.hid (HJ.out.t (by rw [hW]; exact (Ext.alloc _ _).t (Ext.drew _)))
      have hS : Ext wr w_0 := by rw [hW]; exact (Ext.alloc _ _).t (Ext.drew _)
      rw [← hW, ← hg]
      clear hW hg
      refine wpAnyH_ready (rs := [18]) (by kernel_rfl) (by simp) (AllReadyH.cons rfl (fun K hK => ?_) AllReadyH.nil)
      go_simp
      refine hK.out _ _ (by first | exact hS | exact hS.t (Ext.drew _)) (fun hHeld => ?_)
      clear hK K hHeld hS
      refine wpAnyH_done (by kernel_rfl) ?_ _
      have hsl := fun w' => sl_toP (A := some ⟨g3, 0, none⟩) (n := 4) (c := 4) (hi := 3) (li := 3) w' rfl (by omega)
      clear HX1 HX2 HX3 HR hr1I hr1E hq1I hq1E hr2I hr2E hr3I hr3E hwq hw3 h1I h2I h3I h1 h2 h3
      have HT := Lib.hid (fun (u : World) (e : Ext w_0 u) (z : Int) => tells_ (some ⟨g3, 0, none⟩) 4 4 _ z u (HQ.out.ext e) (by decide))
      have HT3 := Lib.hid (fun (u : World) (e : Ext w_0 u) (z : Int) => tells_ (some ⟨g3, 0, none⟩) 3 4 _ z u ((HQ.out.ext e).take (k := 3) (by decide)) (by decide))
      by_cases h7 : r7 = 0
      · subst h7
        go_wp2_with fail
        refine (HT.out _ (by first | exact Ext.refl _ | exact Ext.drew _) _).mono ?_; rintro e w5 ⟨rfl, x5⟩
        have E5 : Hid (Ext v2 w5) := Lib.hid (E0.out.t (by first | exact x5 | exact (Ext.drew _).t x5))
        have E5' : Hid (Ext w_0 w5) := Lib.hid (by first | exact x5 | exact (Ext.drew _).t x5)
        clear x5 HT
        go_wp2_with fail
        refine (HT3.out _ E5'.out _).mono ?_; rintro e w6 ⟨rfl, x6⟩
        have E6 := Lib.hid (E5.out.t x6)
        clear x6 HT3 E5 E5'
        go_wp2_with fail
        go_roundw
        case rel => exact ⟨way + 1, by omega, by go_num, E6⟩
        case measure => simp [intOf]; omega
      · have h7I : ((r7 : Int) == 0) = false := by simp; omega
        have h7D : decide ((r7 : Int) = 0) = false := by simp; omega
        go_wp2_with fail
        refine (HT.out _ (by first | exact Ext.refl _ | exact Ext.drew _) _).mono ?_; rintro e w5 ⟨rfl, x5⟩
        have E5 : Hid (Ext v2 w5) := Lib.hid (E0.out.t (by first | exact x5 | exact (Ext.drew _).t x5))
        clear x5 HT
        go_wp2_with fail
        go_roundw
        case rel => exact ⟨way + 1, by omega, by go_num, E5⟩
        case measure => simp [intOf]; omega
    · have hltI : ¬ (way : Int) < 2197 := by omega
      have E1 := Lib.hid (E.out.t HJ.out)
      clear HJ HP E
      generalize wr = wy at *
      go_wp2_with fail
      go_loopw [4, 5, 6, 64] (fun v4 v5 v6 v64 wr => ∃ (k : Nat) (A1 : Option Addr) (c1 : Nat) (A2 : Option Addr) (c2 : Nat) (A3 : Option Addr) (c3 : Nat), k ≤ 30 ∧ v64 = .int .i64 (k : Int) ∧ v4 = .slice A1 k c1 ∧ v5 = .slice A2 k c2 ∧ v6 = .slice A3 k c3 ∧ Hid (Tri w A1 k c1 A2 k c2 A3 k c3 wr)) (fun _ _ _ v _ => 30 - (intOf v).toNat)
      case atStart => exact ⟨0, none, 0, none, 0, none, 0, by omega, rfl, rfl, rfl, rfl, Lib.hid (Tri.nil E1.out)⟩
      case round =>
        clear E1
        obtain ⟨k, A1, c1, A2, c2, A3, c3, hk, rfl, rfl, rfl, rfl, HT⟩ := hrel
        by_cases hlt : k < 30
        · have hltI : (k : Int) < 30 := by omega
          go_upto_region 13 with fail
          go_cut [4] from 67 to 73 (fun v wx => ∃ B1 d1, v = .slice B1 (k + 1) d1 ∧ Hid (Tri w A2 k c2 A3 k c3 B1 (k + 1) d1 wx))
          case first =>
            by_cases hm : (30 : Int) < (k : Int) + 2
            · have hmd : decide ((30 : Int) < (k : Int) + 2) = true := decide_eq_true hm
              go_wp2_with (refine wpl_buildS insC_len (by decide) (by rfl) rfl ul_ins info_ins [.tmp 71] (by rfl) (by rfl) (by decide) [⟨10, 0, 0, 0, _⟩] (by rfl) ?_)
              intro ga wa b1 e1 lo1 ra; refine Lib.hid ?_
              have HTa := Lib.hid (HT.out.exte e1)
              obtain ⟨p1, hp1⟩ := HTa.out.a
              clear b1 e1 lo1
              go_wp2_with (refine wpl_append_atS (by rfl) rfl ul_ins info_ins rfl rfl hp1.room rfl (Src.ofRdS ul_ins insC_len ra insC_one) (by unfold maxLen; omega) (by omega) ?_)
              intro B1 d1 wb r3 ch3 ft3; refine Lib.hid ?_
              have HT2 := Lib.hid (HTa.out.more hp1 r3 ch3 ft3).rot
              clear r3 ch3 ft3 HTa hp1 ra
              go_wp2_with fail
              go_meet
              exact ⟨B1, d1, rfl, HT2⟩
            · have hmd : decide ((30 : Int) < (k : Int) + 2) = false := decide_eq_false hm
              go_wp2_with (refine wpl_buildS insC_len (by decide) (by rfl) rfl ul_ins info_ins [.tmp 71] (by rfl) (by rfl) (by decide) [⟨10, 0, 0, 0, _⟩] (by rfl) ?_)
              intro ga wa b1 e1 lo1 ra; refine Lib.hid ?_
              have HTa := Lib.hid (HT.out.exte e1)
              obtain ⟨p1, hp1⟩ := HTa.out.a
              clear b1 e1 lo1
              go_wp2_with (refine wpl_append_atS (by rfl) rfl ul_ins info_ins rfl rfl hp1.room rfl (Src.ofRdS ul_ins insC_len ra insC_one) (by unfold maxLen; omega) (by omega) ?_)
              intro B1 d1 wb r3 ch3 ft3; refine Lib.hid ?_
              have HT2 := Lib.hid (HTa.out.more hp1 r3 ch3 ft3).rot
              clear r3 ch3 ft3 HTa hp1 ra
              go_wp2_with fail
              go_meet
              exact ⟨B1, d1, rfl, HT2⟩
          case rest =>
            obtain ⟨B1, d1, rfl, HT2⟩ := hcut
            clear HT
            obtain ⟨m1, hm1⟩ : ∃ m, m = (k + 7) % 31 := ⟨_, rfl⟩
            obtain ⟨m2, hm2⟩ : ∃ m, m = k * k := ⟨_, rfl⟩
            have hm2b : m2 ≤ 900 := by rw [hm2]; exact Nat.mul_le_mul hk hk
            have hm2I : (k : Int) * (k : Int) = (m2 : Int) := by rw [hm2, Int.natCast_mul]
            have hm2w : IntKind.i64.wrap (m2 : Int) = (m2 : Int) := IntWalk.i64_in _ (by omega)
            obtain ⟨m3, hm3⟩ : ∃ m, m = m2 % 31 := ⟨_, rfl⟩
            have hm3I : (m2 : Int).tmod 31 = (m3 : Int) := by rw [Int.tmod_eq_emod_of_nonneg (Int.natCast_nonneg _)]; omega
            have hm3E : (m2 : Int) % 31 = (m3 : Int) := by omega
            have hm1I : ((k : Int) + 7).tmod 31 = (m1 : Int) := by rw [Int.tmod_eq_emod_of_nonneg (by omega)]; omega
            have hm1E : ((k : Int) + 7) % 31 = (m1 : Int) := by omega
            clear hm1 hm2 hm3
            go_wp2_with (refine wpl_buildS insC_len (by decide) (by rfl) rfl ul_ins info_ins [.tmp 78] (by rfl) (by rfl) (by decide) [⟨11, 0, 0, 0, _⟩] (by rfl) ?_)
            intro ga wa b1 e1 lo1 ra; refine Lib.hid ?_
            have HTa := Lib.hid (HT2.out.exte e1)
            obtain ⟨p1, hp1⟩ := HTa.out.a
            clear b1 e1 lo1
            go_wp2_with (refine wpl_append_atS (by rfl) rfl ul_ins info_ins rfl rfl hp1.room rfl (Src.ofRdS ul_ins insC_len ra insC_one) (by unfold maxLen; omega) (by omega) ?_)
            intro B2 d2 wc r3 ch3 ft3; refine Lib.hid ?_
            have HT3 := Lib.hid (HTa.out.more hp1 r3 ch3 ft3).rot
            clear r3 ch3 ft3 HTa hp1 ra
            clear HT2
            go_wp2_with (refine wpl_buildS insC_len (by decide) (by rfl) rfl ul_ins info_ins [.tmp 86] (by rfl) (by rfl) (by decide) [⟨10, 0, 0, 0, _⟩] (by rfl) ?_)
            intro ga wa b1 e1 lo1 ra; refine Lib.hid ?_
            have HTa := Lib.hid (HT3.out.exte e1)
            obtain ⟨p1, hp1⟩ := HTa.out.a
            clear b1 e1 lo1
            go_wp2_with (refine wpl_append_atS (by rfl) rfl ul_ins info_ins rfl rfl hp1.room rfl (Src.ofRdS ul_ins insC_len ra insC_one) (by unfold maxLen; omega) (by omega) ?_)
            intro B3 d3 wd r3 ch3 ft3; refine Lib.hid ?_
            have HT4 := Lib.hid (HTa.out.more hp1 r3 ch3 ft3).rot
            clear r3 ch3 ft3 HTa hp1 ra
            clear HT3
            go_wp2_with fail
            go_roundw
            case rel => exact ⟨k + 1, B1, d1, B2, d2, B3, d3, by omega, by go_num, rfl, rfl, rfl, HT4⟩
            case measure => simp [intOf]; omega
        · have hltI : ¬ (k : Int) < 30 := by omega
          have hk30 : 30 ≤ k := by omega
          go_wp2_with (refine wpl_build (by rfl) rfl ul_pp info_pp [.tmp 90, .tmp 91, .tmp 92] (by rfl) (by rfl) (by decide) (f := slv) [⟨A1, k, c1⟩, ⟨A2, k, c2⟩, ⟨A3, k, c3⟩] (by rfl) (fun _ => rfl) ?_)
          intro g4 w4 b1 e1 lo1 r1; refine Lib.hid ?_
          have HR0 := Lib.hid (RowL.of HT.out e1 lo1 r1)
          clear b1 e1 lo1 r1 HT
          generalize ([⟨A1, k, c1⟩, ⟨A2, k, c2⟩, ⟨A3, k, c3⟩] : List Sl) = ss at HR0
          go_wp2_with fail
          go_loopw [95] (fun v wr => ∃ (j : Nat), j ≤ 3 ∧ v = .int .i64 (j : Int) ∧ Hid (RowL w g4 k ss j wr)) (fun v _ => 3 - (intOf v).toNat)
          case atStart => exact ⟨0, by omega, rfl, HR0⟩
          case round =>
            clear HR0
            obtain ⟨j, hj, rfl, HR⟩ := hrel
            by_cases hjl : j < 3
            · have hjI : (j : Int) < 3 := by omega
              obtain ⟨b, o, ⟨A, n, c⟩, hgo, hs, cs⟩ := rd_get HR.out.rd hjl
              cases hgo
              rw [Nat.zero_add] at cs
              unfold slv at cs
              simp only at cs
              obtain ⟨hn, p1, hp1⟩ := HR.out.at_ j _ (Nat.le_refl _) hs
              simp only at hn hp1
              subst hn
              go_wp2_with (refine wpl_buildS insC_len (by decide) (by rfl) rfl ul_ins info_ins [.tmp 100] (by rfl) (by rfl) (by decide) [⟨1, 0, 0, 0, 0⟩] (by rfl) ?_)
              intro ga wa b1 e1 lo1 ra; refine Lib.hid ?_
              have HRa := Lib.hid (HR.out.exte e1)
              have hpa := hp1.exte e1
              clear b1 e1 lo1 HR hp1 cs
              go_wp2_with (refine wpl_append_atS (by rfl) rfl ul_ins info_ins rfl rfl hpa.room rfl (Src.ofRdS ul_ins insC_len ra insC_one) (by unfold maxLen; omega) (by omega) ?_)
              intro B d wb r3 ch3 ft3; refine Lib.hid ?_
              have HRb := Lib.hid (HRa.out.more hs hpa r3 ch3 ft3).1
              have HN := Lib.hid (HRa.out.more hs hpa r3 ch3 ft3).2
              clear r3 ch3 ft3 HRa hpa ra hs
              have hd := HN.out.room.2.1
              have HT := Lib.hid (fun (u : World) (e : Ext wb u) (z : Int) => tells_ B (n + 1) d _ z u (HN.out.rd.ext e) hd)
              clear hd HN
              go_wp2_with fail
              go_loopw [105] (fun v wr => ∃ (i : Nat), i ≤ n + 1 ∧ v = .int .i64 (i : Int) ∧ Hid (Ext wb wr)) (fun v _ => n + 1 - (intOf v).toNat)
              case atStart => exact ⟨0, by omega, rfl, Lib.hid (Ext.refl _)⟩
              case round =>
                obtain ⟨i, hi, rfl, HE⟩ := hrel
                by_cases hil : i < n + 1
                · have hiI : (i : Int) < (n : Int) + 1 := by omega
                  go_wp2_with fail
                  refine (HT.out _ HE.out _).mono ?_; rintro e wc ⟨rfl, x1⟩
                  have HE2 := Lib.hid (HE.out.t x1)
                  clear x1 HE
                  go_wp2_with fail
                  go_roundw
                  case rel => exact ⟨i + 1, by omega, by go_num, HE2⟩
                  case measure => simp [intOf]; omega
                · have hiI : ¬ (i : Int) < (n : Int) + 1 := by omega
                  have HRc := Lib.hid (HRb.out.exte HE.out)
                  clear HE HRb HT
                  go_wp2_with fail
                  go_roundw
                  case rel => exact ⟨j + 1, by omega, by go_num, HRc⟩
                  case measure => simp [intOf]; omega
            · have hjI : ¬ (j : Int) < 3 := by omega
              have E5 := Lib.hid HR.out.ext
              clear HR
              go_wp2_with fail
              refine (big_ _).mono ?_; rintro e w6 ⟨rfl, x1⟩
              have E6 := Lib.hid (E5.out.t x1)
              clear x1 E5
              go_wp2_with fail
              refine (tells_ none 0 0 [] _ _ RdS.none_ (Nat.le_refl _)).mono ?_; rintro e w7 ⟨rfl, x1⟩
              have E7 := Lib.hid (E6.out.t x1)
              clear x1 E6
              go_wp2_with (refine wpl_buildS insC_len (by decide) (by rfl) rfl ul_ins info_ins [.tmp 119] (by rfl) (by rfl) (by decide) [⟨1, 0, 0, 0, 0⟩] (by rfl) ?_)
              intro g8 w8 b1 e1 lo1 r1; refine Lib.hid ?_
              have E8 := Lib.hid (E7.out.t e1)
              have HRp := Lib.hid (rep257 (c := 1) r1)
              clear b1 e1 lo1 r1 E7
              go_wp2_with fail
              refine HRp.out.mono ?_; rintro e w9 ⟨G, rfl, rm, _, x1⟩
              have HTm := Lib.hid (tells_ (some ⟨G, 0, none⟩) 257 257 _ 0 w9 (rm.rd insC_len (by decide)) (Nat.le_refl _))
              have E9 := Lib.hid (E8.out.t x1)
              clear x1 rm HRp E8
              go_wp2_with fail
              refine HTm.out.mono ?_; rintro e w10 ⟨rfl, x1⟩
              have E10 := Lib.hid (E9.out.t x1)
              clear x1 HTm E9
              go_wp2_with fail
              refine (awake_ _).mono ?_; rintro e w11 ⟨rfl, x1⟩
              have E11 := Lib.hid (E10.out.t x1)
              clear x1 E10
              go_wp2_with fail
              go_ret
              exact ⟨rfl, E11.out⟩
end Go.Proofs.Ytlneifgihdickaa
