/- FrameWrong: the walk of the law: for any bodies, places, defects and bytes behind it answers true and leaves all memory as it was (no condition). -/
import Derived.Test.YtippgnbmilnjbaaFwg
import Derived.Test.YtippgnbmilnjbaaFins
import Derived.Test.YtippgnbmilnjbaaFdw
import Derived.Test.YtippgnbmilnjbaaFops
import Derived.Test.YtippgnbmilnjbaaFbg
namespace Go.Proofs.Ytippgnbmilnjbaa
open Go.RowKit Go.Fx
theorem take_map {α β : Type} (f : α → β) (xs : List α) (k : Nat) : (xs.map f).take k = (xs.take k).map f := by rw [List.map_take]
theorem drop_map {α β : Type} (f : α → β) (xs : List α) (k : Nat) : (xs.map f).drop k = (xs.drop k).map f := by rw [List.map_drop]
theorem Reads.append {w : World} {a b : List Sl} {xs ys : List (List Nat)} (h : Reads w a xs) (h2 : Reads w b ys) : Reads w (a ++ b) (xs ++ ys) := by
  refine ⟨by simp [h.len, h2.len], fun i s hs => ?_⟩
  by_cases hi : i < a.length
  · rw [List.getElem?_append_left hi] at hs
    obtain ⟨ys', h3, h4⟩ := h.at_ i s hs
    exact ⟨ys', by rw [List.getElem?_append_left (by rw [← h.len]; exact hi)]; exact h3, h4⟩
  · rw [List.getElem?_append_right (by omega)] at hs
    obtain ⟨ys', h3, h4⟩ := h2.at_ _ s hs
    exact ⟨ys', by rw [List.getElem?_append_right (by rw [← h.len]; omega), ← h.len]; exact h3, h4⟩
theorem Reads.one {w : World} {s : Sl} {xs : List Nat} (h : Rd u8v w s.A s.n xs) (hx : ∀ x ∈ xs, x < 256) : Reads w [s] [xs] := by
  have := Reads.snoc (Reads.nil (w := w)) h hx
  simpa using this
theorem Bad5 (way : Nat) : Bad [] (249 + way % 7) ∧ Bad [247] (way % 247) ∧ Bad [248] 0 ∧ Bad [248] (65 + way % 191) ∧ Bad [248, 64] (1 + way % 255) := by
  refine ⟨?_, ?_, ?_, ?_, ?_⟩
  · refine ⟨by simp; omega, by rw [rdF_nil]; simp, by rw [erF_nil]; omega, ?_, by simp⟩
    rw [List.nil_append, hd_sz (.high (by omega))]; simp
  · refine ⟨by simp; omega, by decide, by decide, ?_, by simp⟩
    rw [List.singleton_append, hd_sz (.a2 (by omega))]; simp
  · refine ⟨by simp, by decide, by decide, ?_, by simp⟩
    rw [List.singleton_append, hd_sz (.b2 (by omega))]; simp
  · refine ⟨by simp; omega, by decide, by decide, ?_, by simp⟩
    rw [List.singleton_append, hd_sz (.b2 (by omega))]; simp
  · refine ⟨by simp; omega, by decide, by decide, ?_, by simp⟩
    rw [show [248, 64] ++ [1 + way % 255] = 248 :: 64 :: (1 + way % 255) :: [] by rfl, hd_sz (.b4 (by omega) (by omega) (by omega))]; simp
/-- One of the wrong slices. -/
structure BadW (w : World) (s : Sl) (P : List Nat) (d : Nat) : Prop where
  bad : Bad P d
  rd : Rd u8v w s.A s.n (P ++ [d])
  eq : s.n = s.c
  le : s.n ≤ 3
theorem badW_of {way q5 : Nat} {w : World} {g0 g1 g2 g3 g4 d0 d1 d3 d4 : Nat} {s : Sl} (h0 : d0 = 249 + way % 7) (h1 : d1 = way % 247) (h3 : d3 = 65 + way % 191) (h4 : d4 = 1 + way % 255)
    (r0 : Rd u8v w (some ⟨g0, 0, none⟩) 1 [d0]) (r1 : Rd u8v w (some ⟨g1, 0, none⟩) 2 [247, d1]) (r2 : Rd u8v w (some ⟨g2, 0, none⟩) 2 [248, 0]) (r3 : Rd u8v w (some ⟨g3, 0, none⟩) 2 [248, d3]) (r4 : Rd u8v w (some ⟨g4, 0, none⟩) 3 [248, 64, d4])
    (hs : [(⟨some ⟨g0, 0, none⟩, 1, 1⟩ : Sl), ⟨some ⟨g1, 0, none⟩, 2, 2⟩, ⟨some ⟨g2, 0, none⟩, 2, 2⟩, ⟨some ⟨g3, 0, none⟩, 2, 2⟩, ⟨some ⟨g4, 0, none⟩, 3, 3⟩][q5]? = some s) : ∃ P d, BadW w s P d := by
  subst h0 h1 h3 h4
  obtain ⟨b0, b1, b2, b3, b4⟩ := Bad5 way
  have hq : q5 < 5 := by have := (List.getElem?_eq_some_iff.1 hs).1; simpa using this
  rcases (by omega : q5 = 0 ∨ q5 = 1 ∨ q5 = 2 ∨ q5 = 3 ∨ q5 = 4) with h | h | h | h | h <;>
    (subst h
     simp only [List.getElem?_cons_zero, List.getElem?_cons_succ, Option.some.injEq] at hs
     subst hs)
  · exact ⟨_, _, b0, r0, rfl, by simp⟩
  · exact ⟨_, _, b1, r1, rfl, by simp⟩
  · exact ⟨_, _, b2, r2, rfl, by simp⟩
  · exact ⟨_, _, b3, r3, rfl, by simp⟩
  · exact ⟨_, _, b4, r4, rfl, by simp⟩
theorem mem_ins {α : Type} {xs : List α} {k : Nat} {x : α} (h : x ∈ xs.take k) : x ∈ xs := List.mem_of_mem_take h
set_option maxRecDepth 100000 in
set_option maxHeartbeats 4000000 in
theorem wrong1 (A0 : Option Addr) (n0 c0 : Nat) (l : List (Nat × Nat)) (at_ way : Nat) (A2 : Option Addr) (n2 c2 : Nat) (behind : List Nat) (w : World) (h0 : SmArg w A0 n0 c0 l) (hat : at_ < 256) (hway : way < 256) (h2 : Arg .u8 256 w A2 n2 c2 behind) (h50 : 100 < n2) :
    Calls Try.prog 3 #[.slice A0 n0 c0, .int .u8 (at_ : Int), .int .u8 (way : Int), .slice A2 n2 c2] w fun e w' => e = .returned (.bool true) ∧ Ext w w' := by
  have hml := mdF_mem (l := l) (fun a ha => by
    obtain ⟨i, hi, rfl⟩ := List.mem_iff_getElem.1 ha
    obtain ⟨_, _, _, _, _, _, _, h⟩ := h0.sm.at_ i _ (List.getElem?_eq_getElem hi)
    exact h)
  have HB5 : Hid (∀ x ∈ mdF l, x.length ≤ 599) := Lib.hid (fun x hx => (hml x hx).2)
  have HS := Lib.hid h0
  have HBh := Lib.hid h2
  have h50I : (100 : Int) < (n2 : Int) := by omega
  have hsl := fun w' => u8_toI (A := A2) (n := n2) (c := c2) (hi := 100) (li := 100) w' rfl (by have := h2.le; omega)
  clear h0 h2 hml
  obtain ⟨q7, hq7⟩ : ∃ q, q = way % 7 := ⟨_, rfl⟩
  obtain ⟨q247, hq247⟩ : ∃ q, q = way % 247 := ⟨_, rfl⟩
  obtain ⟨q191, hq191⟩ : ∃ q, q = way % 191 := ⟨_, rfl⟩
  obtain ⟨q255, hq255⟩ : ∃ q, q = way % 255 := ⟨_, rfl⟩
  obtain ⟨d0, hd0⟩ : ∃ d, d = 249 + q7 := ⟨_, rfl⟩
  obtain ⟨d3, hd3⟩ : ∃ d, d = 65 + q191 := ⟨_, rfl⟩
  obtain ⟨d4, hd4⟩ : ∃ d, d = 1 + q255 := ⟨_, rfl⟩
  have q7lt : q7 < 7 := by omega
  have q247lt : q247 < 247 := by omega
  have q191lt : q191 < 191 := by omega
  have q255lt : q255 < 255 := by omega
  have Hq : Hid (d0 = 249 + way % 7 ∧ q247 = way % 247 ∧ d3 = 65 + way % 191 ∧ d4 = 1 + way % 255) := Lib.hid ⟨by omega, hq247, by omega, by omega⟩
  have d0lt : d0 < 256 := by omega
  have d3lt : d3 < 256 := by omega
  have d4lt : d4 < 256 := by omega
  have Hs : Hid ((249 : Int) + (q7 : Int) = (d0 : Int) ∧ (65 : Int) + (q191 : Int) = (d3 : Int) ∧ (1 : Int) + (q255 : Int) = (d4 : Int)) := Lib.hid ⟨by omega, by omega, by omega⟩
  have Ht : Hid (((way : Int) % 7 = (q7 : Int) ∧ (way : Int).tmod 7 = (q7 : Int)) ∧ ((way : Int) % 247 = (q247 : Int) ∧ (way : Int).tmod 247 = (q247 : Int)) ∧ ((way : Int) % 191 = (q191 : Int) ∧ (way : Int).tmod 191 = (q191 : Int)) ∧ ((way : Int) % 255 = (q255 : Int) ∧ (way : Int).tmod 255 = (q255 : Int))) := Lib.hid ⟨tmod_nat (m := 7) hq7, tmod_nat (m := 247) hq247, tmod_nat (m := 191) hq191, tmod_nat (m := 255) hq255⟩
  obtain ⟨NL, hNL⟩ : ∃ NL, NL = 16385 + way := ⟨_, rfl⟩
  have hNLI : (16385 : Int) + (way : Int) = (NL : Int) := by omega
  have hNL1 : 16384 < NL := by omega
  have hNL2 : NL ≤ 17000 := by omega
  have hNLm : NL ≤ maxLen := by unfold maxLen; omega
  clear hq7 hq247 hq191 hq255 hd0 hd3 hd4 hNL
  go_enter Try.func3, Try.ntmps3
  go_wp2_with fail
  refine (awake w).mono ?_; rintro e w1 ⟨rfl, e1⟩
  have E1 := Lib.hid e1
  clear e1
  have HM := Lib.hid (made_ A0 n0 c0 l w1 (HS.out.sm.ext E1.out) HS.out.le)
  go_wp2_with fail
  refine HM.out.mono ?_; rintro e w2 ⟨A7, n7, c7, os7, rfl, hl7, e2⟩
  have hn7 := hl7.n_
  rw [mdF_len] at hn7
  have HL7 := Lib.hid hl7
  have E2 := Lib.hid (E1.out.t e2)
  have HN7 := Lib.hid hl7.n_
  have hn30 : n7 ≤ 30 := by omega
  clear hl7 e2 HM hn7
  obtain ⟨k, hk⟩ : ∃ k, k = at_ % (n7 + 1) := ⟨_, rfl⟩
  obtain ⟨n71, hn71⟩ : ∃ x, x = n7 + 1 := ⟨_, rfl⟩
  rw [← hn71] at hk
  have hkm : (at_ : Int) % (n71 : Int) = (k : Int) := (tmod_nat hk).1
  have hkt : (at_ : Int).tmod (n71 : Int) = (k : Int) := (tmod_nat hk).2
  have hn71I : (n7 : Int) + 1 = (n71 : Int) := by omega
  have hn710 : 0 < n71 := by omega
  have hk7 : k ≤ n7 := by have := Nat.mod_lt at_ hn710; omega
  have Hn71 := Lib.hid hn71
  clear hk hn71
  go_wp2_with (refine wpl_makeN rfl rfl ul_u8 info_u8 rfl (n := NL) rfl rfl rfl rfl (by omega) hNLm ?_)
  intro AL w3 hr e3 ft; refine Lib.hid ?_
  obtain ⟨lg, hlg⟩ : ∃ lg, lg = List.replicate NL 0 := ⟨_, rfl⟩
  have hr2 : Room w3 AL NL NL (lg.map u8v) := by rw [hlg, ← rep_map]; exact hr
  have HLr := Lib.hid hr2
  have HLl : Hid (lg.length = NL) := Lib.hid (by rw [hlg]; simp)
  have HLx : Hid (∀ x ∈ lg, x < 256) := Lib.hid (fun x hx => by rw [hlg] at hx; rw [(List.mem_replicate.1 hx).2]; omega)
  have E23 := Lib.hid e3
  have E3 := Lib.hid (E2.out.t e3)
  have HCb := Lib.hid (bb_clone A7 n7 c7 (f := fun s => [slv s]) (fun _ => rfl) (fun _ u hu => by simp at hu; subst hu; rfl) os7 w3 (RdS.of_rd (HL7.out.ext e3).rd) (by omega))
  rw [flat_one] at HCb
  clear hr hr2 hlg e3 ft
  go_wp2_with fail
  refine HCb.out.mono ?_; rintro e w4 ⟨Ac, cc, rfl, hrc, e4, hfc⟩
  have E34 := Lib.hid e4
  have hcl : ∀ j, foot Ac cc j → j < w4.heap.size := fun j hj => hrc.lt hj
  have Hcl := Lib.hid hcl
  have Hfc := Lib.hid hfc
  have Hrc := Lib.hid hrc
  clear hrc e4 hfc hcl HCb
  go_wp2_with (refine wpl_build (by rfl) rfl ul_bb info_bb [.tmp 46] (by rfl) (by rfl) (by decide) (f := slv) [⟨AL, NL, NL⟩] (by rfl) (fun _ => rfl) ?_)
  intro g5 w5 b5 e5 lo5 r5; refine Lib.hid ?_
  have HI := Lib.hid (bb_ins_all Ac n7 cc k (os7.map slv) g5 1 [slv ⟨AL, NL, NL⟩] w5 (Hrc.out.ext e5) hk7 b5 (by simp) (by omega) (fun h => by have := Hcl.out _ h; omega) (fun v hv => by obtain ⟨s, _, rfl⟩ := List.mem_map.1 hv; rfl) (fun v hv => by simp at hv; subst hv; rfl) (by omega))
  unfold InsP at HI
  have E35 := Lib.hid (E34.out.t e5)
  clear b5 e5 lo5 r5 Hrc
  go_wp2_with fail
  refine HI.out.mono ?_; rintro e w6 ⟨Ai, ci, rfl, hri, chi, fti⟩
  have hz34 := E34.out.size
  have hz35 := E35.out.size
  have e36 : Ext w3 w6 := E35.out.trans (chi.below hz35 (fun j hj hf => by have := Hfc.out j hf; omega))
  have hrm : Room w6 Ai (n7 + 1) ci ((os7.take k ++ [(⟨AL, NL, NL⟩ : Sl)] ++ os7.drop k).map slv) := by
    have h1 := hri.room
    rw [Nat.mul_one, take_map, drop_map] at h1
    simpa using h1
  obtain ⟨sI, hsI⟩ : ∃ sI, sI = os7.take k ++ [(⟨AL, NL, NL⟩ : Sl)] ++ os7.drop k := ⟨_, rfl⟩
  rw [← hsI] at hrm
  have HsI := Lib.hid hsI
  have E36 := Lib.hid e36
  have Hrm := Lib.hid hrm
  have Hai : Hid (∀ j, foot Ai ci j → w3.heap.size ≤ j) := Lib.hid (fun j hj => (fti j hj).elim (Hfc.out j) (fun h => by omega))
  clear hri chi fti e36 hrm HI hz34 hz35 hsI
  go_wp2_with (refine wpl_build (by rfl) rfl ul_bb info_bb [.tmp 49] (by rfl) (by rfl) (by decide) (f := slv) [⟨AL, NL, NL⟩] (by rfl) (fun _ => rfl) ?_)
  intro g7 w7 b7 e7 lo7 r7; refine Lib.hid ?_
  have E37 := Lib.hid (E36.out.t e7)
  have hrm := Hrm.out.ext e7
  clear b7 e7 lo7
  go_wp2_with (refine wpl_append_at (by rfl) rfl ul_bb info_bb rfl rfl hrm rfl (Src.ofRd ul_bb r7 (fun _ => rfl)) (by simp only [maxLen]; omega) (by omega) ?_)
  intro A8 c8 w8 r8 ch8 ft8; refine Lib.hid ?_
  have hz37 := E37.out.size
  have e38 : Ext w3 w8 := E37.out.trans (ch8.below hz37 (fun j hj hf => by have := Hai.out j hf; omega))
  have hl7 := HL7.out.ext (E23.out.t e38)
  have hrL := (HLr.out.ext e38).rd
  have hlgR := Reads.one (s := ⟨AL, NL, NL⟩) hrL HLx.out
  have hrds := (((Reads.of hl7.byt).take k).append hlgR).append ((Reads.of hl7.byt).drop k)
  rw [← HsI.out] at hrds
  have hrds2 := hrds.append hlgR
  have hxs : (mdF l).take k ++ [lg] ++ (mdF l).drop k ++ [lg] = (mdF l).take k ++ lg :: ((mdF l).drop k ++ [lg]) := by simp
  have hr8 : Room w8 A8 (n7 + 1 + 1) c8 ((sI ++ [(⟨AL, NL, NL⟩ : Sl)]).map slv) := by rw [List.map_append]; exact r8
  have HJ := Lib.hid (join_ A8 (n7 + 1 + 1) c8 _ _ w8 hr8.rd hrds2 (by omega))
  unfold JoinP at HJ
  rw [hxs, jnF_long _ 0 [] _ _ (fun x hx => by have := HB5.out x (List.mem_of_mem_take hx); omega) (by rw [HLl.out]; exact hNL1), List.length_take, ← HN7.out, Nat.zero_add, Nat.min_eq_left hk7] at HJ
  have HWr := Lib.hid (fun w' (e : Ext w3 w') => write_ AL NL NL lg w' (HLr.out.ext e).rd HLx.out)
  unfold WriteP at HWr
  rw [wrF_long (by rw [HLl.out]; exact hNL1)] at HWr
  have E38 := Lib.hid e38
  clear r8 ch8 ft8 hl7 hrL hlgR hrds hrds2 hxs hr8 e38 hrm r7 hz37
  go_wp2_with fail
  refine HJ.out.mono ?_; rintro e w9 ⟨s9, rfl, hs9⟩
  have hs9n : s9.n = 0 := hs9.n_
  obtain ⟨A9, n9, c9⟩ := s9
  simp only at hs9n
  subst hs9n
  have E39 := Lib.hid (E38.out.t hs9.ext)
  clear hs9 HJ
  unfold slv
  go_wp2_with fail
  refine (HWr.out _ E39.out).mono ?_; rintro e w10 ⟨s10, rfl, hs10⟩
  have hs10n : s10.n = 0 := hs10.n_
  obtain ⟨A10, n10, c10⟩ := s10
  simp only at hs10n
  subst hs10n
  have E10 := Lib.hid (E3.out.t (E39.out.t hs10.ext))
  clear hs10 HWr
  unfold slv
  have hBr := (HBh.out.rd.ext E10.out).take (k := 100) (by omega)
  have hKK : 100 ≤ 100 := by omega
  have HBr := Lib.hid hBr
  clear hBr
  obtain ⟨hs0, hs3, hs4⟩ := Hs.out
  obtain ⟨⟨m7, t7⟩, ⟨m247, t247⟩, ⟨m191, t191⟩, m255, t255⟩ := Ht.out
  go_wp2_with (refine wpl_build (by rfl) rfl ul_u8 info_u8 [.tmp 87] (by rfl) (by rfl) (by decide) (f := u8v) [d0] (by rfl) (fun _ => rfl) ?_)
  intro g0 v1 b1 x1 l1 r1; refine Lib.hid ?_
  clear b1
  go_wp2_with (refine wpl_build (by rfl) rfl ul_u8 info_u8 [.const (.int .u8 247), .tmp 90] (by rfl) (by rfl) (by decide) (f := u8v) [247, q247] (by rfl) (fun _ => rfl) ?_)
  intro g1 v2 b2 x2 l2 r2; refine Lib.hid ?_
  clear b2
  go_wp2_with (refine wpl_build (by rfl) rfl ul_u8 info_u8 [.const (.int .u8 248), .const (.int .u8 0)] (by rfl) (by rfl) (by decide) (f := u8v) [248, 0] (by rfl) (fun _ => rfl) ?_)
  intro g2 v3 b3 x3 l3 r3; refine Lib.hid ?_
  clear b3
  go_wp2_with (refine wpl_build (by rfl) rfl ul_u8 info_u8 [.const (.int .u8 248), .tmp 95] (by rfl) (by rfl) (by decide) (f := u8v) [248, d3] (by rfl) (fun _ => rfl) ?_)
  intro g3 v4 b4 x4 l4 r4; refine Lib.hid ?_
  clear b4
  go_wp2_with (refine wpl_build (by rfl) rfl ul_u8 info_u8 [.const (.int .u8 248), .const (.int .u8 64), .tmp 99] (by rfl) (by rfl) (by decide) (f := u8v) [248, 64, d4] (by rfl) (fun _ => rfl) ?_)
  intro g4 v5 b5 x5 l5 r5; refine Lib.hid ?_
  clear b5
  go_wp2_with (refine wpl_build (by rfl) rfl ul_bb info_bb [.tmp 88, .tmp 91, .tmp 92, .tmp 96, .tmp 100] (by rfl) (by rfl) (by decide) (f := slv) [⟨some ⟨g0, 0, none⟩, 1, 1⟩, ⟨some ⟨g1, 0, none⟩, 2, 2⟩, ⟨some ⟨g2, 0, none⟩, 2, 2⟩, ⟨some ⟨g3, 0, none⟩, 2, 2⟩, ⟨some ⟨g4, 0, none⟩, 3, 3⟩] (by rfl) (fun _ => rfl) ?_)
  intro gw w11 b6 x6 l6 r6; refine Lib.hid ?_
  have E10w := Lib.hid (x1.t (x2.t (x3.t (x4.t (x5.t x6)))))
  have E11 := Lib.hid (E10.out.t E10w.out)
  have HRw := Lib.hid r6
  have HBw := Lib.hid (fun (i : Nat) (s : Sl) hs => badW_of (q5 := i) (s := s) Hq.out.1 Hq.out.2.1 Hq.out.2.2.1 Hq.out.2.2.2 (r1.ext (x2.t (x3.t (x4.t (x5.t x6))))) (r2.ext (x3.t (x4.t (x5.t x6)))) (r3.ext (x4.t (x5.t x6))) (r4.ext (x5.t x6)) (r5.ext x6) hs)
  generalize [(⟨some ⟨g0, 0, none⟩, 1, 1⟩ : Sl), ⟨some ⟨g1, 0, none⟩, 2, 2⟩, ⟨some ⟨g2, 0, none⟩, 2, 2⟩, ⟨some ⟨g3, 0, none⟩, 2, 2⟩, ⟨some ⟨g4, 0, none⟩, 3, 3⟩] = sw at *
  clear b6 r1 r2 r3 r4 r5 r6 l1 l2 l3 l4 l5 l6 x1 x2 x3 x4 x5 x6 hs0 hs3 hs4 m7 t7 m247 t247 m191 t191 m255 t255
  go_wp2_with fail
  go_loopw [103] (fun i wr => ∃ (j : Nat), j ≤ 5 ∧ i = .int .i64 (j : Int) ∧ Ext w11 wr) (fun i _ => 5 - (intOf i).toNat)
  case atStart => exact ⟨0, by omega, rfl, Ext.refl _⟩
  case round =>
    obtain ⟨j, hj, rfl, hEr⟩ := hrel
    have HEr := Lib.hid hEr
    clear hEr
    by_cases hlt : j < 5
    · have hltI : (j : Int) < 5 := by omega
      obtain ⟨b, o, s, hb0, _, hs, hc⟩ := (HRw.out.ext HEr.out).at_ hlt
      obtain ⟨P, d, hbw⟩ := HBw.out j s hs
      cases hb0
      rw [Nat.zero_add] at hc
      obtain ⟨sA, sN, sC⟩ := s
      obtain rfl : sN = sC := hbw.eq
      have hsN : sN ≤ 3 := hbw.le
      have HBad := Lib.hid hbw.bad
      obtain ⟨PD, hPD⟩ : ∃ PD, PD = P ++ [d] := ⟨_, rfl⟩
      have HPD := Lib.hid hPD
      have hwr : Rd u8v wr sA sN PD := by rw [hPD]; exact hbw.rd.ext HEr.out
      have Hwr := Lib.hid hwr
      obtain ⟨YY, hYY⟩ : ∃ YY, YY = PD ++ behind.take 100 := ⟨_, rfl⟩
      have HYY := Lib.hid hYY
      have hmr := HBr.out.ext (E10w.out.t HEr.out)
      have Hml : Hid (∀ y ∈ YY, y < 256) := Lib.hid (fun y hy => by
        rw [hYY, hPD] at hy
        exact (List.mem_append.1 hy).elim (HBad.out.lt y) (fun h => HBh.out.lt y (List.mem_of_mem_take h)))
      unfold slv at hc
      clear hs hbw hwr hPD hYY
      go_wp2_with (refine wpl_append_full (by rfl) rfl ul_u8 info_u8 rfl rfl Hwr.out rfl hmr (fun _ => rfl) (by simp only [maxLen]; omega) (by omega) ?_)
      intro Ab cb w12 rb hcb hcm eb; refine Lib.hid ?_
      rw [← HYY.out] at rb
      have Hrb := Lib.hid rb
      have Hrdf : Hid (rdF YY = ([], 0, 31) ∧ ndF YY = (0, 31) ∧ splF (frF [7] ++ YY) = ([[7]], YY) ∧ erF YY = 31) := Lib.hid (by rw [HYY.out, HPD.out]; exact ⟨HBad.out.rdF_ _, HBad.out.ndF_ _, HBad.out.split (by simp) _, HBad.out.erF_ _⟩)
      have E12 := Lib.hid (HEr.out.t eb)
      have HRd := Lib.hid (read_ Ab (sN + 100) cb YY w12 rb Hml.out hcb hcm (by omega))
      unfold ReadP at HRd
      rw [Hrdf.out.1] at HRd
      have HNd := Lib.hid (fun w' (e : Ext w12 w') => need_ Ab (sN + 100) cb YY w' (rb.ext e) Hml.out (by omega))
      unfold NeedP at HNd
      rw [Hrdf.out.2.1] at HNd
      have hcb2 : sN + 100 ≤ cb := hcb
      clear rb hcb hcm eb hmr Hwr
      go_wp2_with fail
      refine HRd.out.mono ?_; rintro e w13 ⟨sr, rfl, hsr⟩
      have hsrn : sr.n = 0 := hsr.n_
      obtain ⟨Ar, nr, cr⟩ := sr
      simp only at hsrn
      subst hsrn
      have E123 := Lib.hid hsr.ext
      clear hsr HRd
      unfold slv
      go_wp2_with fail
      refine (HNd.out _ E123.out).mono ?_; rintro e w' ⟨rfl, rfl⟩
      clear HNd
      go_wp2_with (refine wpl_build (by rfl) rfl ul_u8 info_u8 [.const (.int .u8 1), .const (.int .u8 7)] (by rfl) (by rfl) (by decide) (f := u8v) [1, 7] (by rfl) (fun _ => rfl) ?_)
      intro g14 w14 b14 e14 lo14 r14; refine Lib.hid ?_
      have hrb := Hrb.out.ext (E123.out.t e14)
      have E14 := Lib.hid (E12.out.t (E123.out.t e14))
      obtain ⟨L17, hL17⟩ : ∃ L, L = [1, 7] := ⟨_, rfl⟩
      rw [← hL17] at r14
      have HL17 := Lib.hid hL17
      clear b14 e14 lo14 hL17
      go_wp2_with (refine wpl_append_full (by rfl) rfl ul_u8 info_u8 rfl rfl r14 rfl hrb (fun _ => rfl) (by simp only [maxLen]; omega) (by omega) ?_)
      intro A15 c15 w15 r15 hc15 hm15 e15; refine Lib.hid ?_
      have hx15 : L17 ++ YY = frF [7] ++ YY := by rw [HL17.out]; rfl
      have hlen : YY.length = sN + 100 := Hrb.out.1
      have HSp := Lib.hid (split_ A15 (2 + (sN + 100)) c15 _ w15 r15 (fun y hy => (List.mem_append.1 hy).elim (fun h => by rw [HL17.out] at h; simp at h; omega) (Hml.out y)) hc15 hm15 (by omega))
      unfold SplitP at HSp
      rw [hx15, Hrdf.out.2.2.1] at HSp
      simp only at HSp
      rw [Hrdf.out.2.2.2, List.length_append, hlen, show (frF [7]).length = 2 from rfl, Nat.add_sub_cancel] at HSp
      have E15 := Lib.hid (E14.out.t e15)
      clear r15 hc15 hm15 e15 hx15 hlen hrb r14 HBad Hml
      go_wp2_with fail
      refine HSp.out.mono ?_; rintro e w16 ⟨Aq, nq, cq, oq, rfl, hlq, eq⟩
      obtain rfl : nq = 1 := hlq.n_
      have Hlq := Lib.hid hlq
      have E16 := Lib.hid (E15.out.t eq)
      clear hlq eq HSp
      go_wp2_with (refine wpl_build (by rfl) rfl ul_u8 info_u8 [.const (.int .u8 7)] (by rfl) (by rfl) (by decide) (f := u8v) [7] (by rfl) (fun _ => rfl) ?_)
      intro g17 w17 b17 e17 lo17 r17; refine Lib.hid ?_
      clear b17 lo17
      go_wp2_with (refine wpl_build (by rfl) rfl ul_bb info_bb [.tmp 154] (by rfl) (by rfl) (by decide) (f := slv) [⟨some ⟨g17, 0, none⟩, 1, 1⟩] (by rfl) (fun _ => rfl) ?_)
      intro g18 w18 b18 e18 lo18 r18; refine Lib.hid ?_
      have hlq := Hlq.out.ext (e17.t e18)
      have HQ := Lib.hid (equal_ Aq (some ⟨g18, 0, none⟩) 1 1 cq 1 oq [⟨some ⟨g17, 0, none⟩, 1, 1⟩] [[7]] [[7]] w18 hlq.rd (Reads.of hlq.byt) r18 (Reads.one (s := ⟨some ⟨g17, 0, none⟩, 1, 1⟩) (r17.ext e18) (by simp)) (by simp [maxLen]) (by simp [maxLen]))
      rw [decide_eq_true (rfl : ([[7]] : List (List Nat)) = [[7]])] at HQ
      have E18 := Lib.hid (E16.out.t (e17.t e18))
      clear b18 lo18 r18 r17 e17 e18 hlq
      go_wp2_with fail
      refine HQ.out.mono ?_; rintro e w' ⟨rfl, rfl⟩
      go_wp2_with fail
      go_roundw
      case rel => exact ⟨j + 1, by omega, by go_num, E18.out⟩
      case measure => simp [intOf]; omega
    · obtain rfl : 5 = j := by omega
      go_wp2_with fail
      go_ret
      exact ⟨rfl, E11.out.t HEr.out⟩
set_option maxRecDepth 100000 in
set_option maxHeartbeats 4000000 in
theorem wrong2 (A0 : Option Addr) (n0 c0 : Nat) (l : List (Nat × Nat)) (at_ way : Nat) (A2 : Option Addr) (n2 c2 : Nat) (behind : List Nat) (w : World) (h0 : SmArg w A0 n0 c0 l) (hat : at_ < 256) (hway : way < 256) (h2 : Arg .u8 256 w A2 n2 c2 behind) (h50 : n2 ≤ 100) :
    Calls Try.prog 3 #[.slice A0 n0 c0, .int .u8 (at_ : Int), .int .u8 (way : Int), .slice A2 n2 c2] w fun e w' => e = .returned (.bool true) ∧ Ext w w' := by
  have hml := mdF_mem (l := l) (fun a ha => by
    obtain ⟨i, hi, rfl⟩ := List.mem_iff_getElem.1 ha
    obtain ⟨_, _, _, _, _, _, _, h⟩ := h0.sm.at_ i _ (List.getElem?_eq_getElem hi)
    exact h)
  have HB5 : Hid (∀ x ∈ mdF l, x.length ≤ 599) := Lib.hid (fun x hx => (hml x hx).2)
  have HS := Lib.hid h0
  have HBh := Lib.hid h2
  have h50I : ¬ (100 : Int) < (n2 : Int) := by omega
  have hif : (if (100 : Int) < (n2 : Int) then (100 : Int) else (n2 : Int)) = (n2 : Int) := if_neg h50I
  have hsl := fun w' => u8_toI (A := A2) (n := n2) (c := c2) (hi := n2) (li := (n2 : Int)) w' rfl h2.le
  clear h0 h2 hml
  obtain ⟨q7, hq7⟩ : ∃ q, q = way % 7 := ⟨_, rfl⟩
  obtain ⟨q247, hq247⟩ : ∃ q, q = way % 247 := ⟨_, rfl⟩
  obtain ⟨q191, hq191⟩ : ∃ q, q = way % 191 := ⟨_, rfl⟩
  obtain ⟨q255, hq255⟩ : ∃ q, q = way % 255 := ⟨_, rfl⟩
  obtain ⟨d0, hd0⟩ : ∃ d, d = 249 + q7 := ⟨_, rfl⟩
  obtain ⟨d3, hd3⟩ : ∃ d, d = 65 + q191 := ⟨_, rfl⟩
  obtain ⟨d4, hd4⟩ : ∃ d, d = 1 + q255 := ⟨_, rfl⟩
  have q7lt : q7 < 7 := by omega
  have q247lt : q247 < 247 := by omega
  have q191lt : q191 < 191 := by omega
  have q255lt : q255 < 255 := by omega
  have Hq : Hid (d0 = 249 + way % 7 ∧ q247 = way % 247 ∧ d3 = 65 + way % 191 ∧ d4 = 1 + way % 255) := Lib.hid ⟨by omega, hq247, by omega, by omega⟩
  have d0lt : d0 < 256 := by omega
  have d3lt : d3 < 256 := by omega
  have d4lt : d4 < 256 := by omega
  have Hs : Hid ((249 : Int) + (q7 : Int) = (d0 : Int) ∧ (65 : Int) + (q191 : Int) = (d3 : Int) ∧ (1 : Int) + (q255 : Int) = (d4 : Int)) := Lib.hid ⟨by omega, by omega, by omega⟩
  have Ht : Hid (((way : Int) % 7 = (q7 : Int) ∧ (way : Int).tmod 7 = (q7 : Int)) ∧ ((way : Int) % 247 = (q247 : Int) ∧ (way : Int).tmod 247 = (q247 : Int)) ∧ ((way : Int) % 191 = (q191 : Int) ∧ (way : Int).tmod 191 = (q191 : Int)) ∧ ((way : Int) % 255 = (q255 : Int) ∧ (way : Int).tmod 255 = (q255 : Int))) := Lib.hid ⟨tmod_nat (m := 7) hq7, tmod_nat (m := 247) hq247, tmod_nat (m := 191) hq191, tmod_nat (m := 255) hq255⟩
  obtain ⟨NL, hNL⟩ : ∃ NL, NL = 16385 + way := ⟨_, rfl⟩
  have hNLI : (16385 : Int) + (way : Int) = (NL : Int) := by omega
  have hNL1 : 16384 < NL := by omega
  have hNL2 : NL ≤ 17000 := by omega
  have hNLm : NL ≤ maxLen := by unfold maxLen; omega
  clear hq7 hq247 hq191 hq255 hd0 hd3 hd4 hNL
  go_enter Try.func3, Try.ntmps3
  go_wp2_with fail
  refine (awake w).mono ?_; rintro e w1 ⟨rfl, e1⟩
  have E1 := Lib.hid e1
  clear e1
  have HM := Lib.hid (made_ A0 n0 c0 l w1 (HS.out.sm.ext E1.out) HS.out.le)
  go_wp2_with fail
  refine HM.out.mono ?_; rintro e w2 ⟨A7, n7, c7, os7, rfl, hl7, e2⟩
  have hn7 := hl7.n_
  rw [mdF_len] at hn7
  have HL7 := Lib.hid hl7
  have E2 := Lib.hid (E1.out.t e2)
  have HN7 := Lib.hid hl7.n_
  have hn30 : n7 ≤ 30 := by omega
  clear hl7 e2 HM hn7
  obtain ⟨k, hk⟩ : ∃ k, k = at_ % (n7 + 1) := ⟨_, rfl⟩
  obtain ⟨n71, hn71⟩ : ∃ x, x = n7 + 1 := ⟨_, rfl⟩
  rw [← hn71] at hk
  have hkm : (at_ : Int) % (n71 : Int) = (k : Int) := (tmod_nat hk).1
  have hkt : (at_ : Int).tmod (n71 : Int) = (k : Int) := (tmod_nat hk).2
  have hn71I : (n7 : Int) + 1 = (n71 : Int) := by omega
  have hn710 : 0 < n71 := by omega
  have hk7 : k ≤ n7 := by have := Nat.mod_lt at_ hn710; omega
  have Hn71 := Lib.hid hn71
  clear hk hn71
  go_wp2_with (refine wpl_makeN rfl rfl ul_u8 info_u8 rfl (n := NL) rfl rfl rfl rfl (by omega) hNLm ?_)
  intro AL w3 hr e3 ft; refine Lib.hid ?_
  obtain ⟨lg, hlg⟩ : ∃ lg, lg = List.replicate NL 0 := ⟨_, rfl⟩
  have hr2 : Room w3 AL NL NL (lg.map u8v) := by rw [hlg, ← rep_map]; exact hr
  have HLr := Lib.hid hr2
  have HLl : Hid (lg.length = NL) := Lib.hid (by rw [hlg]; simp)
  have HLx : Hid (∀ x ∈ lg, x < 256) := Lib.hid (fun x hx => by rw [hlg] at hx; rw [(List.mem_replicate.1 hx).2]; omega)
  have E23 := Lib.hid e3
  have E3 := Lib.hid (E2.out.t e3)
  have HCb := Lib.hid (bb_clone A7 n7 c7 (f := fun s => [slv s]) (fun _ => rfl) (fun _ u hu => by simp at hu; subst hu; rfl) os7 w3 (RdS.of_rd (HL7.out.ext e3).rd) (by omega))
  rw [flat_one] at HCb
  clear hr hr2 hlg e3 ft
  go_wp2_with fail
  refine HCb.out.mono ?_; rintro e w4 ⟨Ac, cc, rfl, hrc, e4, hfc⟩
  have E34 := Lib.hid e4
  have hcl : ∀ j, foot Ac cc j → j < w4.heap.size := fun j hj => hrc.lt hj
  have Hcl := Lib.hid hcl
  have Hfc := Lib.hid hfc
  have Hrc := Lib.hid hrc
  clear hrc e4 hfc hcl HCb
  go_wp2_with (refine wpl_build (by rfl) rfl ul_bb info_bb [.tmp 46] (by rfl) (by rfl) (by decide) (f := slv) [⟨AL, NL, NL⟩] (by rfl) (fun _ => rfl) ?_)
  intro g5 w5 b5 e5 lo5 r5; refine Lib.hid ?_
  have HI := Lib.hid (bb_ins_all Ac n7 cc k (os7.map slv) g5 1 [slv ⟨AL, NL, NL⟩] w5 (Hrc.out.ext e5) hk7 b5 (by simp) (by omega) (fun h => by have := Hcl.out _ h; omega) (fun v hv => by obtain ⟨s, _, rfl⟩ := List.mem_map.1 hv; rfl) (fun v hv => by simp at hv; subst hv; rfl) (by omega))
  unfold InsP at HI
  have E35 := Lib.hid (E34.out.t e5)
  clear b5 e5 lo5 r5 Hrc
  go_wp2_with fail
  refine HI.out.mono ?_; rintro e w6 ⟨Ai, ci, rfl, hri, chi, fti⟩
  have hz34 := E34.out.size
  have hz35 := E35.out.size
  have e36 : Ext w3 w6 := E35.out.trans (chi.below hz35 (fun j hj hf => by have := Hfc.out j hf; omega))
  have hrm : Room w6 Ai (n7 + 1) ci ((os7.take k ++ [(⟨AL, NL, NL⟩ : Sl)] ++ os7.drop k).map slv) := by
    have h1 := hri.room
    rw [Nat.mul_one, take_map, drop_map] at h1
    simpa using h1
  obtain ⟨sI, hsI⟩ : ∃ sI, sI = os7.take k ++ [(⟨AL, NL, NL⟩ : Sl)] ++ os7.drop k := ⟨_, rfl⟩
  rw [← hsI] at hrm
  have HsI := Lib.hid hsI
  have E36 := Lib.hid e36
  have Hrm := Lib.hid hrm
  have Hai : Hid (∀ j, foot Ai ci j → w3.heap.size ≤ j) := Lib.hid (fun j hj => (fti j hj).elim (Hfc.out j) (fun h => by omega))
  clear hri chi fti e36 hrm HI hz34 hz35 hsI
  go_wp2_with (refine wpl_build (by rfl) rfl ul_bb info_bb [.tmp 49] (by rfl) (by rfl) (by decide) (f := slv) [⟨AL, NL, NL⟩] (by rfl) (fun _ => rfl) ?_)
  intro g7 w7 b7 e7 lo7 r7; refine Lib.hid ?_
  have E37 := Lib.hid (E36.out.t e7)
  have hrm := Hrm.out.ext e7
  clear b7 e7 lo7
  go_wp2_with (refine wpl_append_at (by rfl) rfl ul_bb info_bb rfl rfl hrm rfl (Src.ofRd ul_bb r7 (fun _ => rfl)) (by simp only [maxLen]; omega) (by omega) ?_)
  intro A8 c8 w8 r8 ch8 ft8; refine Lib.hid ?_
  have hz37 := E37.out.size
  have e38 : Ext w3 w8 := E37.out.trans (ch8.below hz37 (fun j hj hf => by have := Hai.out j hf; omega))
  have hl7 := HL7.out.ext (E23.out.t e38)
  have hrL := (HLr.out.ext e38).rd
  have hlgR := Reads.one (s := ⟨AL, NL, NL⟩) hrL HLx.out
  have hrds := (((Reads.of hl7.byt).take k).append hlgR).append ((Reads.of hl7.byt).drop k)
  rw [← HsI.out] at hrds
  have hrds2 := hrds.append hlgR
  have hxs : (mdF l).take k ++ [lg] ++ (mdF l).drop k ++ [lg] = (mdF l).take k ++ lg :: ((mdF l).drop k ++ [lg]) := by simp
  have hr8 : Room w8 A8 (n7 + 1 + 1) c8 ((sI ++ [(⟨AL, NL, NL⟩ : Sl)]).map slv) := by rw [List.map_append]; exact r8
  have HJ := Lib.hid (join_ A8 (n7 + 1 + 1) c8 _ _ w8 hr8.rd hrds2 (by omega))
  unfold JoinP at HJ
  rw [hxs, jnF_long _ 0 [] _ _ (fun x hx => by have := HB5.out x (List.mem_of_mem_take hx); omega) (by rw [HLl.out]; exact hNL1), List.length_take, ← HN7.out, Nat.zero_add, Nat.min_eq_left hk7] at HJ
  have HWr := Lib.hid (fun w' (e : Ext w3 w') => write_ AL NL NL lg w' (HLr.out.ext e).rd HLx.out)
  unfold WriteP at HWr
  rw [wrF_long (by rw [HLl.out]; exact hNL1)] at HWr
  have E38 := Lib.hid e38
  clear r8 ch8 ft8 hl7 hrL hlgR hrds hrds2 hxs hr8 e38 hrm r7 hz37
  go_wp2_with fail
  refine HJ.out.mono ?_; rintro e w9 ⟨s9, rfl, hs9⟩
  have hs9n : s9.n = 0 := hs9.n_
  obtain ⟨A9, n9, c9⟩ := s9
  simp only at hs9n
  subst hs9n
  have E39 := Lib.hid (E38.out.t hs9.ext)
  clear hs9 HJ
  unfold slv
  go_wp2_with fail
  refine (HWr.out _ E39.out).mono ?_; rintro e w10 ⟨s10, rfl, hs10⟩
  have hs10n : s10.n = 0 := hs10.n_
  obtain ⟨A10, n10, c10⟩ := s10
  simp only at hs10n
  subst hs10n
  have E10 := Lib.hid (E3.out.t (E39.out.t hs10.ext))
  clear hs10 HWr
  unfold slv
  have hBr := (HBh.out.rd.ext E10.out).take (k := n2) (by omega)
  have hKK : n2 ≤ 100 := by omega
  have HBr := Lib.hid hBr
  clear hBr
  obtain ⟨hs0, hs3, hs4⟩ := Hs.out
  obtain ⟨⟨m7, t7⟩, ⟨m247, t247⟩, ⟨m191, t191⟩, m255, t255⟩ := Ht.out
  go_wp2_with (refine wpl_build (by rfl) rfl ul_u8 info_u8 [.tmp 87] (by rfl) (by rfl) (by decide) (f := u8v) [d0] (by rfl) (fun _ => rfl) ?_)
  intro g0 v1 b1 x1 l1 r1; refine Lib.hid ?_
  clear b1
  go_wp2_with (refine wpl_build (by rfl) rfl ul_u8 info_u8 [.const (.int .u8 247), .tmp 90] (by rfl) (by rfl) (by decide) (f := u8v) [247, q247] (by rfl) (fun _ => rfl) ?_)
  intro g1 v2 b2 x2 l2 r2; refine Lib.hid ?_
  clear b2
  go_wp2_with (refine wpl_build (by rfl) rfl ul_u8 info_u8 [.const (.int .u8 248), .const (.int .u8 0)] (by rfl) (by rfl) (by decide) (f := u8v) [248, 0] (by rfl) (fun _ => rfl) ?_)
  intro g2 v3 b3 x3 l3 r3; refine Lib.hid ?_
  clear b3
  go_wp2_with (refine wpl_build (by rfl) rfl ul_u8 info_u8 [.const (.int .u8 248), .tmp 95] (by rfl) (by rfl) (by decide) (f := u8v) [248, d3] (by rfl) (fun _ => rfl) ?_)
  intro g3 v4 b4 x4 l4 r4; refine Lib.hid ?_
  clear b4
  go_wp2_with (refine wpl_build (by rfl) rfl ul_u8 info_u8 [.const (.int .u8 248), .const (.int .u8 64), .tmp 99] (by rfl) (by rfl) (by decide) (f := u8v) [248, 64, d4] (by rfl) (fun _ => rfl) ?_)
  intro g4 v5 b5 x5 l5 r5; refine Lib.hid ?_
  clear b5
  go_wp2_with (refine wpl_build (by rfl) rfl ul_bb info_bb [.tmp 88, .tmp 91, .tmp 92, .tmp 96, .tmp 100] (by rfl) (by rfl) (by decide) (f := slv) [⟨some ⟨g0, 0, none⟩, 1, 1⟩, ⟨some ⟨g1, 0, none⟩, 2, 2⟩, ⟨some ⟨g2, 0, none⟩, 2, 2⟩, ⟨some ⟨g3, 0, none⟩, 2, 2⟩, ⟨some ⟨g4, 0, none⟩, 3, 3⟩] (by rfl) (fun _ => rfl) ?_)
  intro gw w11 b6 x6 l6 r6; refine Lib.hid ?_
  have E10w := Lib.hid (x1.t (x2.t (x3.t (x4.t (x5.t x6)))))
  have E11 := Lib.hid (E10.out.t E10w.out)
  have HRw := Lib.hid r6
  have HBw := Lib.hid (fun (i : Nat) (s : Sl) hs => badW_of (q5 := i) (s := s) Hq.out.1 Hq.out.2.1 Hq.out.2.2.1 Hq.out.2.2.2 (r1.ext (x2.t (x3.t (x4.t (x5.t x6))))) (r2.ext (x3.t (x4.t (x5.t x6)))) (r3.ext (x4.t (x5.t x6))) (r4.ext (x5.t x6)) (r5.ext x6) hs)
  generalize [(⟨some ⟨g0, 0, none⟩, 1, 1⟩ : Sl), ⟨some ⟨g1, 0, none⟩, 2, 2⟩, ⟨some ⟨g2, 0, none⟩, 2, 2⟩, ⟨some ⟨g3, 0, none⟩, 2, 2⟩, ⟨some ⟨g4, 0, none⟩, 3, 3⟩] = sw at *
  clear b6 r1 r2 r3 r4 r5 r6 l1 l2 l3 l4 l5 l6 x1 x2 x3 x4 x5 x6 hs0 hs3 hs4 m7 t7 m247 t247 m191 t191 m255 t255
  go_wp2_with fail
  go_loopw [103] (fun i wr => ∃ (j : Nat), j ≤ 5 ∧ i = .int .i64 (j : Int) ∧ Ext w11 wr) (fun i _ => 5 - (intOf i).toNat)
  case atStart => exact ⟨0, by omega, rfl, Ext.refl _⟩
  case round =>
    obtain ⟨j, hj, rfl, hEr⟩ := hrel
    have HEr := Lib.hid hEr
    clear hEr
    by_cases hlt : j < 5
    · have hltI : (j : Int) < 5 := by omega
      obtain ⟨b, o, s, hb0, _, hs, hc⟩ := (HRw.out.ext HEr.out).at_ hlt
      obtain ⟨P, d, hbw⟩ := HBw.out j s hs
      cases hb0
      rw [Nat.zero_add] at hc
      obtain ⟨sA, sN, sC⟩ := s
      obtain rfl : sN = sC := hbw.eq
      have hsN : sN ≤ 3 := hbw.le
      have HBad := Lib.hid hbw.bad
      obtain ⟨PD, hPD⟩ : ∃ PD, PD = P ++ [d] := ⟨_, rfl⟩
      have HPD := Lib.hid hPD
      have hwr : Rd u8v wr sA sN PD := by rw [hPD]; exact hbw.rd.ext HEr.out
      have Hwr := Lib.hid hwr
      obtain ⟨YY, hYY⟩ : ∃ YY, YY = PD ++ behind.take n2 := ⟨_, rfl⟩
      have HYY := Lib.hid hYY
      have hmr := HBr.out.ext (E10w.out.t HEr.out)
      have Hml : Hid (∀ y ∈ YY, y < 256) := Lib.hid (fun y hy => by
        rw [hYY, hPD] at hy
        exact (List.mem_append.1 hy).elim (HBad.out.lt y) (fun h => HBh.out.lt y (List.mem_of_mem_take h)))
      unfold slv at hc
      clear hs hbw hwr hPD hYY
      go_wp2_with (refine wpl_append_full (by rfl) rfl ul_u8 info_u8 rfl rfl Hwr.out rfl hmr (fun _ => rfl) (by simp only [maxLen]; omega) (by omega) ?_)
      intro Ab cb w12 rb hcb hcm eb; refine Lib.hid ?_
      rw [← HYY.out] at rb
      have Hrb := Lib.hid rb
      have Hrdf : Hid (rdF YY = ([], 0, 31) ∧ ndF YY = (0, 31) ∧ splF (frF [7] ++ YY) = ([[7]], YY) ∧ erF YY = 31) := Lib.hid (by rw [HYY.out, HPD.out]; exact ⟨HBad.out.rdF_ _, HBad.out.ndF_ _, HBad.out.split (by simp) _, HBad.out.erF_ _⟩)
      have E12 := Lib.hid (HEr.out.t eb)
      have HRd := Lib.hid (read_ Ab (sN + n2) cb YY w12 rb Hml.out hcb hcm (by omega))
      unfold ReadP at HRd
      rw [Hrdf.out.1] at HRd
      have HNd := Lib.hid (fun w' (e : Ext w12 w') => need_ Ab (sN + n2) cb YY w' (rb.ext e) Hml.out (by omega))
      unfold NeedP at HNd
      rw [Hrdf.out.2.1] at HNd
      have hcb2 : sN + n2 ≤ cb := hcb
      clear rb hcb hcm eb hmr Hwr
      go_wp2_with fail
      refine HRd.out.mono ?_; rintro e w13 ⟨sr, rfl, hsr⟩
      have hsrn : sr.n = 0 := hsr.n_
      obtain ⟨Ar, nr, cr⟩ := sr
      simp only at hsrn
      subst hsrn
      have E123 := Lib.hid hsr.ext
      clear hsr HRd
      unfold slv
      go_wp2_with fail
      refine (HNd.out _ E123.out).mono ?_; rintro e w' ⟨rfl, rfl⟩
      clear HNd
      go_wp2_with (refine wpl_build (by rfl) rfl ul_u8 info_u8 [.const (.int .u8 1), .const (.int .u8 7)] (by rfl) (by rfl) (by decide) (f := u8v) [1, 7] (by rfl) (fun _ => rfl) ?_)
      intro g14 w14 b14 e14 lo14 r14; refine Lib.hid ?_
      have hrb := Hrb.out.ext (E123.out.t e14)
      have E14 := Lib.hid (E12.out.t (E123.out.t e14))
      obtain ⟨L17, hL17⟩ : ∃ L, L = [1, 7] := ⟨_, rfl⟩
      rw [← hL17] at r14
      have HL17 := Lib.hid hL17
      clear b14 e14 lo14 hL17
      go_wp2_with (refine wpl_append_full (by rfl) rfl ul_u8 info_u8 rfl rfl r14 rfl hrb (fun _ => rfl) (by simp only [maxLen]; omega) (by omega) ?_)
      intro A15 c15 w15 r15 hc15 hm15 e15; refine Lib.hid ?_
      have hx15 : L17 ++ YY = frF [7] ++ YY := by rw [HL17.out]; rfl
      have hlen : YY.length = sN + n2 := Hrb.out.1
      have HSp := Lib.hid (split_ A15 (2 + (sN + n2)) c15 _ w15 r15 (fun y hy => (List.mem_append.1 hy).elim (fun h => by rw [HL17.out] at h; simp at h; omega) (Hml.out y)) hc15 hm15 (by omega))
      unfold SplitP at HSp
      rw [hx15, Hrdf.out.2.2.1] at HSp
      simp only at HSp
      rw [Hrdf.out.2.2.2, List.length_append, hlen, show (frF [7]).length = 2 from rfl, Nat.add_sub_cancel] at HSp
      have E15 := Lib.hid (E14.out.t e15)
      clear r15 hc15 hm15 e15 hx15 hlen hrb r14 HBad Hml
      go_wp2_with fail
      refine HSp.out.mono ?_; rintro e w16 ⟨Aq, nq, cq, oq, rfl, hlq, eq⟩
      obtain rfl : nq = 1 := hlq.n_
      have Hlq := Lib.hid hlq
      have E16 := Lib.hid (E15.out.t eq)
      clear hlq eq HSp
      go_wp2_with (refine wpl_build (by rfl) rfl ul_u8 info_u8 [.const (.int .u8 7)] (by rfl) (by rfl) (by decide) (f := u8v) [7] (by rfl) (fun _ => rfl) ?_)
      intro g17 w17 b17 e17 lo17 r17; refine Lib.hid ?_
      clear b17 lo17
      go_wp2_with (refine wpl_build (by rfl) rfl ul_bb info_bb [.tmp 154] (by rfl) (by rfl) (by decide) (f := slv) [⟨some ⟨g17, 0, none⟩, 1, 1⟩] (by rfl) (fun _ => rfl) ?_)
      intro g18 w18 b18 e18 lo18 r18; refine Lib.hid ?_
      have hlq := Hlq.out.ext (e17.t e18)
      have HQ := Lib.hid (equal_ Aq (some ⟨g18, 0, none⟩) 1 1 cq 1 oq [⟨some ⟨g17, 0, none⟩, 1, 1⟩] [[7]] [[7]] w18 hlq.rd (Reads.of hlq.byt) r18 (Reads.one (s := ⟨some ⟨g17, 0, none⟩, 1, 1⟩) (r17.ext e18) (by simp)) (by simp [maxLen]) (by simp [maxLen]))
      rw [decide_eq_true (rfl : ([[7]] : List (List Nat)) = [[7]])] at HQ
      have E18 := Lib.hid (E16.out.t (e17.t e18))
      clear b18 lo18 r18 r17 e17 e18 hlq
      go_wp2_with fail
      refine HQ.out.mono ?_; rintro e w' ⟨rfl, rfl⟩
      go_wp2_with fail
      go_roundw
      case rel => exact ⟨j + 1, by omega, by go_num, E18.out⟩
      case measure => simp [intOf]; omega
    · obtain rfl : 5 = j := by omega
      go_wp2_with fail
      go_ret
      exact ⟨rfl, E11.out.t HEr.out⟩
theorem walkFrameWrong (A0 : Option Addr) (n0 c0 : Nat) (l : List (Nat × Nat)) (a1 a2 : Int) (A2 : Option Addr) (n2 c2 : Nat) (behind : List Nat) (w : World) (h0 : SmArg w A0 n0 c0 l) (h1 : (Lit.int .u8 a1).wf = true) (hw : (Lit.int .u8 a2).wf = true) (h2 : Arg .u8 256 w A2 n2 c2 behind) :
    Calls Try.prog 3 #[.slice A0 n0 c0, .int .u8 a1, .int .u8 a2, .slice A2 n2 c2] w fun e w' => e = .returned (.bool true) ∧ Ext w w' := by
  obtain ⟨at_, rfl⟩ := Int.eq_ofNat_of_zero_le (bounds_u8 h1).1
  obtain ⟨way, rfl⟩ := Int.eq_ofNat_of_zero_le (bounds_u8 hw).1
  have hat : at_ < 256 := by have := (bounds_u8 h1).2; omega
  have hway : way < 256 := by have := (bounds_u8 hw).2; omega
  by_cases h50 : 100 < n2
  · exact wrong1 A0 n0 c0 l at_ way A2 n2 c2 behind w h0 hat hway h2 h50
  · exact wrong2 A0 n0 c0 l at_ way A2 n2 c2 behind w h0 hat hway h2 (by omega)
end Go.Proofs.Ytippgnbmilnjbaa
