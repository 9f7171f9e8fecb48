/- Crw: the reference's Write. -/
import Derived.Test.YtiakcehhegippaaCrr
import Derived.Deep.RegionHeld3
import Derived.Deep.RegionHeldLaw
namespace Go.Fx
open Go.RowKit Go.Proofs Go.Proofs.Ytiakcehhegippaa
theorem wd_sum (op : Nat) : 8 * cnF op 110 + cnF op 112 + 2 * cnF op 116 = wdT (tlOf op) := by
  have := nr_tl op
  unfold wdT cnF
  repeat' split
  all_goals first | omega | (exfalso; omega)
end Go.Fx
namespace Go.Proofs.Ytiakcehhegippaa
open Go.RowKit Go.Fx
set_option maxRecDepth 100000 in
set_option maxHeartbeats 4000000 in
theorem rwrite_ (A : Option Addr) (n c : Nat) (p : List Ins) (w : World) (h : RdS 5 insC w A n p) :
    Calls Try.prog 45 #[.slice A n c] w (WriteP p w) := by
  have hl := h.1
  have HC := Lib.hid (rcheck_ A n c p w h)
  unfold CheckP at HC
  by_cases h0 : (checkF p).2 = 0
  · have hlen : p.length ≤ 256 := by
      rcases Nat.lt_or_ge 256 p.length with h1 | h1
      · unfold checkF at h0
        rw [if_neg (by omega), if_pos h1] at h0
        cases h0
      · exact h1
    have hw : writeF p = (p.flatMap wbF, 0) := by unfold writeF; rw [if_pos h0]
    rw [h0] at HC
    have Hw := Lib.hid hw
    have HR := Lib.hid h
    have Hl := Lib.hid hl
    have hn : n ≤ 256 := by omega
    generalize (checkF p).1 = ck at *
    clear h hl h0 hw hlen
    go_enter Try.func45, Try.ntmps45
    go_wp2_with fail
    refine HC.out.mono ?_; rintro e w1 ⟨rfl, e1⟩
    have E1 := Lib.hid e1
    clear e1 HC
    go_wp2_with fail
    have H0 : Hid (New w ((p.take 0).flatMap wbF) w1 none 0 0) := Lib.hid ((New.nil w).exte E1.out)
    go_loopw [6, 7] (fun v6 v7 wr => ∃ (k : Nat) (Ao : Option Addr) (no co : Nat), k ≤ n ∧ v7 = .int .i64 (k : Int) ∧ v6 = .slice Ao no co ∧ Hid (New w ((p.take k).flatMap wbF) wr Ao no co)) (fun _ v7 _ => n - (intOf v7).toNat)
    case atStart => exact ⟨0, none, 0, 0, by omega, rfl, rfl, H0⟩
    case round =>
      clear H0
      obtain ⟨k, Ao, no, co, hk, rfl, rfl, HN⟩ := hrel
      obtain ⟨wo, rfl⟩ : ∃ wo : World, wo = wr := ⟨_, rfl⟩
      by_cases hlt : k < n
      · have hltI : (k : Int) < (n : Int) := by omega
        obtain ⟨b, o, i, rfl, hbl, hi, c0, c1, c2, c3, c4⟩ := (HR.out.ext HN.out.ext).ins hlt
        have Hi := Lib.hid hi
        have HF := Lib.hid (fun w' => rform_ i.op w')
        unfold FormP at HF
        have HCC := Lib.hid (fun l w' h => count_ i.op l w' h)
        have hs := wd_sum i.op
        have hnr := (nr_tl i.op).1
        have hwT : wdT (tlOf i.op) ≤ 8 := wdT_le _
        obtain ⟨r, hr⟩ : ∃ r, r = cnF i.op 114 := ⟨_, rfl⟩
        have hrn : r = nrOf i.op := by rw [hr]; unfold cnF; rw [if_pos rfl]
        obtain ⟨x, hx⟩ : ∃ x, x = cnF i.op 110 := ⟨_, rfl⟩
        obtain ⟨y, hy⟩ : ∃ y, y = cnF i.op 112 := ⟨_, rfl⟩
        obtain ⟨z, hz⟩ : ∃ z, z = cnF i.op 116 := ⟨_, rfl⟩
        have HCr : Hid (∀ w', Calls Try.prog 50 #[.string (strOf i.op), .int .u8 114] w' fun e w'' => e = .returned (.int .i64 (r : Int)) ∧ w' = w'') := Lib.hid (fun w' => by rw [hr]; exact HCC.out 114 w' (by omega))
        have HCx : Hid (∀ w', Calls Try.prog 50 #[.string (strOf i.op), .int .u8 110] w' fun e w'' => e = .returned (.int .i64 (x : Int)) ∧ w' = w'') := Lib.hid (fun w' => by rw [hx]; exact HCC.out 110 w' (by omega))
        have HCy : Hid (∀ w', Calls Try.prog 50 #[.string (strOf i.op), .int .u8 112] w' fun e w'' => e = .returned (.int .i64 (y : Int)) ∧ w' = w'') := Lib.hid (fun w' => by rw [hy]; exact HCC.out 112 w' (by omega))
        have HCz : Hid (∀ w', Calls Try.prog 50 #[.string (strOf i.op), .int .u8 116] w' fun e w'' => e = .returned (.int .i64 (z : Int)) ∧ w' = w'') := Lib.hid (fun w' => by rw [hz]; exact HCC.out 116 w' (by omega))
        obtain ⟨wd, hwd⟩ : ∃ wd, wd = wdT (tlOf i.op) := ⟨_, rfl⟩
        obtain ⟨u, hu⟩ : ∃ u, u = U64 i.n := ⟨_, rfl⟩
        obtain ⟨T, hT⟩ : ∃ T, T = (p.take k).flatMap wbF ++ wbF i := ⟨_, rfl⟩
        have HTd := Lib.hid hT
        have Hu : Hid (IntKind.u64.wrap i.n = (u : Int) ∧ u < 18446744073709551616) := Lib.hid ⟨by rw [hu]; exact U64_wrap _, by rw [hu]; exact U64_lt _⟩
        rw [← hwd, ← hx, ← hy, ← hz] at hs
        have Hs : Hid (8 * x + y + 2 * z = wd) := Lib.hid hs
        have HW : Hid (wbF i = i.op :: ([i.a, i.b, i.c].take r ++ nbF wd u)) := Lib.hid (by unfold wbF; rw [hrn, hwd, hu])
        have hr3 : r ≤ 3 := by omega
        have hwd8 : wd ≤ 8 := by omega
        have bx : x ≤ 12 := by omega
        have by' : y ≤ 12 := by omega
        have bz : z ≤ 12 := by omega
        have hno : no ≤ 9000 := by
          rw [HN.out.n_]
          have := flat_len_le (p.take k)
          rw [List.length_take] at this
          omega
        generalize okOp i.op = ok at *
        clear hi hs hr hx hy hz hwd hu hT HCC hwT hrn hnr
        go_wp2_with fail
        refine (HF.out _).mono ?_; rintro e w2 ⟨rfl, e2⟩
        have HN2 := Lib.hid (HN.out.exte e2)
        have d0 := (e2.cell (p := ⟨b, o + k * 5, none⟩) hbl).trans c0
        clear e2 c0 c1 c2 c3 c4 HF HN hbl
        go_wp2_with (refine wpl_build (by rfl) rfl ul_u8 info_u8 [.tmp 43] (by rfl) (by rfl) (by decide) (f := u8v) [i.op] (by rfl) (fun _ => rfl) ?_)
        intro g3 w3 b3 e3 lo3 r3; refine Lib.hid ?_
        have hrm := HN2.out.room.ext e3
        have E3 := Lib.hid e3
        clear b3 e3 lo3 d0
        go_wp2_with (refine wpl_append_at (by rfl) rfl ul_u8 info_u8 rfl rfl hrm rfl (Src.ofRd ul_u8 r3 (fun _ => rfl)) (by simp only [maxLen]; omega) (by omega) ?_)
        intro A4 c4 w4 r4 ch4 ft4; refine Lib.hid ?_
        have HN4 := Lib.hid (HN2.out.more (ys := [i.op]) E3.out r4 ch4 ft4)
        clear r4 ch4 ft4 hrm r3 HN2 E3
        go_wp2_with fail
        refine (HCr.out _).mono ?_; rintro e w' ⟨rfl, rfl⟩
        by_cases hr0 : r = 0
        · subst hr0
          have HT : Hid (New w ((p.take k).flatMap wbF ++ [i.op]) w4 A4 (no + 1) c4 ∧ ((p.take k).flatMap wbF ++ [i.op]) ++ nbF wd u = T) := Lib.hid ⟨HN4.out, by rw [HTd.out, HW.out, List.append_assoc]; rfl⟩
          have HTT := HN4
          clear HN4 HW
          have E0 := Lib.hid HT.out.1.ext
          clear HTT
          go_wp2_with fail
          refine (HCx.out _).mono ?_; rintro e w' ⟨rfl, rfl⟩
          go_wp2_with fail
          refine (HCy.out _).mono ?_; rintro e w' ⟨rfl, rfl⟩
          go_wp2_with fail
          refine (HCz.out _).mono ?_; rintro e w' ⟨rfl, rfl⟩
          go_wp2_with fail
          go_loopw [6, 12] (fun v6 v12 wr => ∃ (j m c' : Nat) (A' : Option Addr), j ≤ wd ∧ m + j = (no + 1) + wd ∧ v12 = .int .i64 ((j : Int) - 1) ∧ v6 = .slice A' m c' ∧ Hid (∃ ys, New w ys wr A' m c' ∧ ys ++ nbF j u = T)) (fun _ v12 _ => ((intOf v12) + 1).toNat)
          case atStart => exact ⟨wd, (no + 1), c4, A4, Nat.le_refl _, rfl, congrArg (Value.int .i64) (by have := Hs.out; omega), rfl, Lib.hid ⟨_, HT.out⟩⟩
          case round =>
            clear HT E0
            obtain ⟨j, m, c', A', hj, hm, rfl, rfl, HJ⟩ := hrel
            obtain ⟨ys, hN, hY⟩ := HJ.out
            have HN := Lib.hid hN
            have HY := Lib.hid hY
            clear HJ hN hY
            by_cases hj0 : j = 0
            · subst hj0
              have HFin : Hid (New w ((p.take (k + 1)).flatMap wbF) wr A' m c') := Lib.hid (by
                have h := HY.out
                rw [nbF, List.append_nil] at h
                rw [flat_take_snoc Hi.out, ← HTd.out, ← h]; exact HN.out)
              clear HN HY hm
              go_wp2_with fail
              go_roundw
              case rel => exact ⟨k + 1, A', m, c', by omega, by go_num, rfl, HFin⟩
              case measure => simp [intOf]; omega
            · obtain ⟨g, rfl⟩ : ∃ g, j = g + 1 := ⟨j - 1, by omega⟩
              have hgI : ((g + 1 : Nat) : Int) - 1 = (g : Int) := by omega
              obtain ⟨b', o', i', hA', hbl, hi', _, _, _, _, c4⟩ := (HR.out.ext HN.out.ext).ins hlt
              cases hA'
              obtain rfl : i' = i := by have := Hi.out; rw [this] at hi'; exact (Option.some.inj hi').symm
              clear hi'
              simp only [hgI]
              go_wp2_with fail
              go_loop [13, 14] (fun vx vm => ∃ (q x : Nat), q ≤ g ∧ x < 18446744073709551616 ∧ vm = .int .i64 (q : Int) ∧ vx = .int .u64 (x : Int) ∧ Hid (x = u / 256 ^ q)) (fun _ vm => g - (intOf vm).toNat)
              case atStart => exact ⟨0, u, Nat.zero_le _, Hu.out.2, rfl, congrArg (Value.int .u64) Hu.out.1, Lib.hid (by simp)⟩
              case round =>
                obtain ⟨q, x, hq, hx, rfl, rfl, HX⟩ := hrel
                by_cases hqg : q < g
                · have hqI : (q : Int) < (g : Int) := by omega
                  obtain ⟨z, hz⟩ : ∃ z, z = x / 256 := ⟨_, rfl⟩
                  have hzI : IntKind.u64.wrap ((x : Int).tdiv 256) = (z : Int) := by rw [Int.tdiv_eq_ediv_of_nonneg (Int.natCast_nonneg _), IntKind.wrap_u64]; omega
                  have HZ : Hid (z = u / 256 ^ (q + 1)) := Lib.hid (by rw [hz, HX.out, Nat.div_div_eq_div_mul, Nat.pow_succ])
                  clear HX
                  go_wp2_with fail
                  go_round
                  case rel => exact ⟨q + 1, z, by omega, by omega, by go_num, congrArg (Value.int .u64) (by omega), HZ⟩
                  case measure => simp [intOf]; omega
                · obtain rfl : q = g := by omega
                  obtain ⟨y, hy⟩ : ∃ y, y = x % 256 := ⟨_, rfl⟩
                  have hyI : (x : Int) % 256 = (y : Int) := by omega
                  have hyT : (x : Int).tmod 256 = (y : Int) := by rw [Int.tmod_eq_emod_of_nonneg (Int.natCast_nonneg _)]; omega
                  have HY' : Hid ((ys ++ [y]) ++ nbF q u = T) := Lib.hid (by
                    rw [← HY.out, nbF, hy, HX.out, pow8, List.append_assoc]; rfl)
                  clear hy HX HY
                  have hm2 : m ≤ 10000 := by omega
                  go_wp2_with (refine wpl_build (by rfl) rfl ul_u8 info_u8 [.tmp 102] (by rfl) (by rfl) (by decide) (f := u8v) [y] (by rfl) (fun _ => rfl) ?_)
                  intro g6 w6 b6 e6 lo6 r6; refine Lib.hid ?_
                  have hrm := HN.out.room.ext e6
                  have E6 := Lib.hid e6
                  clear b6 e6 lo6
                  go_wp2_with (refine wpl_append_at (by rfl) rfl ul_u8 info_u8 rfl rfl hrm rfl (Src.ofRd ul_u8 r6 (fun _ => rfl)) (by simp only [maxLen]; omega) (by omega) ?_)
                  intro A7 c7 w7 r7 ch7 ft7; refine Lib.hid ?_
                  have HN7 := Lib.hid (HN.out.more (ys := [y]) E6.out r7 ch7 ft7)
                  clear r7 ch7 ft7 hrm r6
                  go_wp2_with fail
                  go_roundw
                  case rel => exact ⟨q, m + 1, c7, A7, by omega, by omega, by go_num, rfl, Lib.hid ⟨_, HN7.out, HY'.out⟩⟩
                  case measure => simp [intOf]
        · have hrI : (0 : Int) < (r : Int) := by omega
          obtain ⟨b', o', i', hA', hbl, hi', _, c1, c2, c3, _⟩ := (HR.out.ext HN4.out.ext).ins hlt
          cases hA'
          obtain rfl : i = i' := by have := Hi.out; rw [this] at hi'; exact Option.some.inj hi'
          clear hi'
          have ha1 := fun ob => (World.cell?_alloc_lt w4 ob ⟨b, o + k * 5 + 1, none⟩ hbl).trans c1
          have ha2 := fun ob => (World.cell?_alloc_lt w4 ob ⟨b, o + k * 5 + 2, none⟩ hbl).trans c2
          have ha3 := fun ob => (World.cell?_alloc_lt w4 ob ⟨b, o + k * 5 + 3, none⟩ hbl).trans c3
          have hfb : ¬ foot A4 c4 b := fun hk => by have h1 := HN4.out.ft _ hk; have h2 := (HR.out.ins hlt); obtain ⟨_, _, _, hA, h3, _⟩ := h2; cases hA; omega
          have hrd : Rd u8v (w4.alloc (.cells #[.int .u8 (i.a : Int), .int .u8 (i.b : Int), .int .u8 (i.c : Int)] 5)) (some ⟨w4.heap.size, 0, none⟩) r ([i.a, i.b, i.c].take r) := by
            refine ⟨by rw [List.length_take]; simp only [List.length_cons, List.length_nil]; omega, fun _ => ⟨w4.heap.size, 0, rfl, by simp, fun j x hx => ?_⟩⟩
            rw [List.getElem?_take] at hx
            split at hx
            · rw [Nat.zero_add, (Blk.new w4 _ _).cell]
              rcases (by omega : j = 0 ∨ j = 1 ∨ j = 2) with rfl | rfl | rfl <;> (simp at hx; subst hx; rfl)
            · cases hx
          have hr3I : (r : Int) ≤ 3 := by omega
          have Hrd := Lib.hid hrd
          have Hfb := Lib.hid hfb
          clear hrd hfb
          go_wp2_with fail
          refine wp_region_held_drew (S := fun w' => w'.cell? ⟨b, o + k * 5 + 1, none⟩ = some (.int .u8 (i.a : Int)) ∧ w'.cell? ⟨b, o + k * 5 + 2, none⟩ = some (.int .u8 (i.b : Int)) ∧ w'.cell? ⟨b, o + k * 5 + 3, none⟩ = some (.int .u8 (i.c : Int))) (by kernel_rfl) ⟨c1, c2, c3⟩ (fun hHeld => ?_)
          refine wpAnyH_take (i := 0) (v := .slice A4 (no + 1) c4) rfl (by kernel_rfl) (by kernel_rfl) (by kernel_rfl) (fun _ _ _ h => h) (Or.inl ⟨by rfl, fun w' hw' => by obtain ⟨q1, q2, q3⟩ := hw'; go_simp; try rfl⟩) hHeld ?_
          try simp only [Act.put]
          refine wpAnyH_take (i := 1) (v := .slice (some ⟨b, o, none⟩) n c) rfl (by kernel_rfl) (by kernel_rfl) (by kernel_rfl) (fun _ _ _ h => h) (Or.inl ⟨by rfl, fun w' hw' => by obtain ⟨q1, q2, q3⟩ := hw'; go_simp; try rfl⟩) hHeld ?_
          try simp only [Act.put]
          refine wpAnyH_take (i := 2) (v := .int .i64 (k : Int)) rfl (by kernel_rfl) (by kernel_rfl) (by kernel_rfl) (fun _ _ _ h => h) (Or.inl ⟨by rfl, fun w' hw' => by obtain ⟨q1, q2, q3⟩ := hw'; go_simp; try rfl⟩) hHeld ?_
          try simp only [Act.put]
          refine wpAnyH_take (i := 3) (v := .pointer (some ⟨b, o + k * 5, none⟩)) rfl (by kernel_rfl) (by kernel_rfl) (by kernel_rfl) (fun _ _ _ h => h) (Or.inl ⟨by rfl, fun w' hw' => by obtain ⟨q1, q2, q3⟩ := hw'; go_simp; try rfl⟩) hHeld ?_
          try simp only [Act.put]
          refine wpAnyH_take (i := 4) (v := .pointer (some ⟨b, o + k * 5 + 1, none⟩)) rfl (by kernel_rfl) (by kernel_rfl) (by kernel_rfl) (fun _ _ _ h => h) (Or.inl ⟨by rfl, fun w' hw' => by obtain ⟨q1, q2, q3⟩ := hw'; go_simp; try rfl⟩) hHeld ?_
          try simp only [Act.put]
          refine wpAnyH_take (i := 5) (v := .int .u8 (i.a : Int)) rfl (by kernel_rfl) (by kernel_rfl) (by kernel_rfl) (fun _ _ _ h => h) (Or.inl ⟨by rfl, fun w' hw' => by obtain ⟨q1, q2, q3⟩ := hw'; go_simp; try rfl⟩) hHeld ?_
          try simp only [Act.put]
          refine wpAnyH_take (i := 6) (v := .slice (some ⟨b, o, none⟩) n c) rfl (by kernel_rfl) (by kernel_rfl) (by kernel_rfl) (fun _ _ _ h => h) (Or.inl ⟨by rfl, fun w' hw' => by obtain ⟨q1, q2, q3⟩ := hw'; go_simp; try rfl⟩) hHeld ?_
          try simp only [Act.put]
          refine wpAnyH_take (i := 7) (v := .int .i64 (k : Int)) rfl (by kernel_rfl) (by kernel_rfl) (by kernel_rfl) (fun _ _ _ h => h) (Or.inl ⟨by rfl, fun w' hw' => by obtain ⟨q1, q2, q3⟩ := hw'; go_simp; try rfl⟩) hHeld ?_
          try simp only [Act.put]
          refine wpAnyH_take (i := 8) (v := .pointer (some ⟨b, o + k * 5, none⟩)) rfl (by kernel_rfl) (by kernel_rfl) (by kernel_rfl) (fun _ _ _ h => h) (Or.inl ⟨by rfl, fun w' hw' => by obtain ⟨q1, q2, q3⟩ := hw'; go_simp; try rfl⟩) hHeld ?_
          try simp only [Act.put]
          refine wpAnyH_take (i := 9) (v := .pointer (some ⟨b, o + k * 5 + 2, none⟩)) rfl (by kernel_rfl) (by kernel_rfl) (by kernel_rfl) (fun _ _ _ h => h) (Or.inl ⟨by rfl, fun w' hw' => by obtain ⟨q1, q2, q3⟩ := hw'; go_simp; try rfl⟩) hHeld ?_
          try simp only [Act.put]
          refine wpAnyH_take (i := 10) (v := .int .u8 (i.b : Int)) rfl (by kernel_rfl) (by kernel_rfl) (by kernel_rfl) (fun _ _ _ h => h) (Or.inl ⟨by rfl, fun w' hw' => by obtain ⟨q1, q2, q3⟩ := hw'; go_simp; try rfl⟩) hHeld ?_
          try simp only [Act.put]
          refine wpAnyH_take (i := 11) (v := .slice (some ⟨b, o, none⟩) n c) rfl (by kernel_rfl) (by kernel_rfl) (by kernel_rfl) (fun _ _ _ h => h) (Or.inl ⟨by rfl, fun w' hw' => by obtain ⟨q1, q2, q3⟩ := hw'; go_simp; try rfl⟩) hHeld ?_
          try simp only [Act.put]
          refine wpAnyH_take (i := 12) (v := .int .i64 (k : Int)) rfl (by kernel_rfl) (by kernel_rfl) (by kernel_rfl) (fun _ _ _ h => h) (Or.inl ⟨by rfl, fun w' hw' => by obtain ⟨q1, q2, q3⟩ := hw'; go_simp; try rfl⟩) hHeld ?_
          try simp only [Act.put]
          refine wpAnyH_take (i := 13) (v := .pointer (some ⟨b, o + k * 5, none⟩)) rfl (by kernel_rfl) (by kernel_rfl) (by kernel_rfl) (fun _ _ _ h => h) (Or.inl ⟨by rfl, fun w' hw' => by obtain ⟨q1, q2, q3⟩ := hw'; go_simp; try rfl⟩) hHeld ?_
          try simp only [Act.put]
          refine wpAnyH_take (i := 14) (v := .pointer (some ⟨b, o + k * 5 + 3, none⟩)) rfl (by kernel_rfl) (by kernel_rfl) (by kernel_rfl) (fun _ _ _ h => h) (Or.inl ⟨by rfl, fun w' hw' => by obtain ⟨q1, q2, q3⟩ := hw'; go_simp; try rfl⟩) hHeld ?_
          try simp only [Act.put]
          refine wpAnyH_take (i := 15) (v := .int .u8 (i.c : Int)) rfl (by kernel_rfl) (by kernel_rfl) (by kernel_rfl) (fun _ _ _ h => h) (Or.inl ⟨by rfl, fun w' hw' => by obtain ⟨q1, q2, q3⟩ := hw'; go_simp; try rfl⟩) hHeld ?_
          try simp only [Act.put]
          refine wpAnyH_take (i := 17) (v := .int .i64 (r : Int)) rfl (by kernel_rfl) (by kernel_rfl) (by kernel_rfl) (fun _ _ _ h => h) (Or.inl ⟨by rfl, fun w' hw' => by obtain ⟨q1, q2, q3⟩ := hw'; go_simp; try rfl⟩) hHeld ?_
          try simp only [Act.put]
          refine wpAnyH_ready (rs := [16]) (by kernel_rfl) (by simp) (AllReadyH.cons rfl (fun K hK => ?_) AllReadyH.nil)
          go_simp
          refine hK.out _ _ ⟨ha1 _, ha2 _, ha3 _⟩ (fun hHeld => ?_)
          clear hK K
          refine wpAnyH_ready (rs := [18]) (by kernel_rfl) (by simp) (AllReadyH.cons rfl (fun K hK => ?_) AllReadyH.nil)
          go_simp
          refine hK.out _ _ ⟨ha1 _, ha2 _, ha3 _⟩ (fun hHeld => ?_)
          clear hK K
          refine wpAnyH_ready (rs := [19]) (by kernel_rfl) (by simp) (AllReadyH.cons rfl (fun K hK => ?_) AllReadyH.nil)
          refine step_append_at (A := A4) (n := no + 1) (c := c4) (v := .slice (some ⟨w4.heap.size, 0, none⟩) r 3) rfl rfl ul_u8 info_u8 rfl (by first | rfl | go_simp) (HN4.out.room.ext ((Ext.alloc w4 _).t (Ext.drew _))) (by first | rfl | go_simp) (Src.ofRd ul_u8 (Hrd.out.ext (Ext.drew _)) (fun _ => rfl)) (by simp only [maxLen]; omega) (by omega) ?_
          intro A7 c7 w7 r7 ch7 ft7
          have Hch := Lib.hid ch7
          have HN7 := Lib.hid (HN4.out.more (ys := [i.a, i.b, i.c].take r) ((Ext.alloc w4 _).t (Ext.drew _)) r7 ch7 ft7)
          have hbl' : b < (w4.alloc (.cells #[.int .u8 (i.a : Int), .int .u8 (i.b : Int), .int .u8 (i.c : Int)] 5)).drew.heap.size := by show b < (w4.alloc _).heap.size; rw [World.size_alloc]; omega
          clear r7 ch7 ft7
          try simp only [Act.put]
          refine hK.out _ _ ⟨(Hch.out.cell (p := ⟨b, _, none⟩) hbl' Hfb.out).trans (ha1 _), (Hch.out.cell (p := ⟨b, _, none⟩) hbl' Hfb.out).trans (ha2 _), (Hch.out.cell (p := ⟨b, _, none⟩) hbl' Hfb.out).trans (ha3 _)⟩ (fun hHeld => ?_)
          clear hK K
          have k1 := (Hch.out.cell (p := ⟨b, o + k * 5 + 1, none⟩) hbl' Hfb.out).trans (ha1 _)
          have k2 := (Hch.out.cell (p := ⟨b, o + k * 5 + 2, none⟩) hbl' Hfb.out).trans (ha2 _)
          have k3 := (Hch.out.cell (p := ⟨b, o + k * 5 + 3, none⟩) hbl' Hfb.out).trans (ha3 _)
          refine wpAnyH_ready (rs := [20]) (by kernel_rfl) (by simp) (AllReadyH.cons rfl (fun K hK => ?_) AllReadyH.nil)
          go_simp
          refine hK.out _ _ ⟨k1, k2, k3⟩ (fun hHeld => ?_)
          clear hK K
          refine wpAnyH_done (by kernel_rfl) ?_ _
          have HT : Hid (New w ((p.take k).flatMap wbF ++ [i.op] ++ [i.a, i.b, i.c].take r) w7 A7 (no + 1 + r) c7 ∧ ((p.take k).flatMap wbF ++ [i.op] ++ [i.a, i.b, i.c].take r) ++ nbF wd u = T) := Lib.hid ⟨HN7.out, by rw [HTd.out, HW.out]; simp⟩
          have HTT := HN7
          clear HN7 HN4 HW Hch Hrd Hfb hbl' k1 k2 k3 ha1 ha2 ha3 c1 c2 c3 hbl
          have E0 := Lib.hid HT.out.1.ext
          clear HTT
          go_wp2_with fail
          refine (HCx.out _).mono ?_; rintro e w' ⟨rfl, rfl⟩
          go_wp2_with fail
          refine (HCy.out _).mono ?_; rintro e w' ⟨rfl, rfl⟩
          go_wp2_with fail
          refine (HCz.out _).mono ?_; rintro e w' ⟨rfl, rfl⟩
          go_wp2_with fail
          go_loopw [6, 12] (fun v6 v12 wr => ∃ (j m c' : Nat) (A' : Option Addr), j ≤ wd ∧ m + j = (no + 1 + r) + wd ∧ v12 = .int .i64 ((j : Int) - 1) ∧ v6 = .slice A' m c' ∧ Hid (∃ ys, New w ys wr A' m c' ∧ ys ++ nbF j u = T)) (fun _ v12 _ => ((intOf v12) + 1).toNat)
          case atStart => exact ⟨wd, (no + 1 + r), c7, A7, Nat.le_refl _, rfl, congrArg (Value.int .i64) (by have := Hs.out; omega), rfl, Lib.hid ⟨_, HT.out⟩⟩
          case round =>
            clear HT E0
            obtain ⟨j, m, c', A', hj, hm, rfl, rfl, HJ⟩ := hrel
            obtain ⟨ys, hN, hY⟩ := HJ.out
            have HN := Lib.hid hN
            have HY := Lib.hid hY
            clear HJ hN hY
            by_cases hj0 : j = 0
            · subst hj0
              have HFin : Hid (New w ((p.take (k + 1)).flatMap wbF) wr A' m c') := Lib.hid (by
                have h := HY.out
                rw [nbF, List.append_nil] at h
                rw [flat_take_snoc Hi.out, ← HTd.out, ← h]; exact HN.out)
              clear HN HY hm
              go_wp2_with fail
              go_roundw
              case rel => exact ⟨k + 1, A', m, c', by omega, by go_num, rfl, HFin⟩
              case measure => simp [intOf]; omega
            · obtain ⟨g, rfl⟩ : ∃ g, j = g + 1 := ⟨j - 1, by omega⟩
              have hgI : ((g + 1 : Nat) : Int) - 1 = (g : Int) := by omega
              obtain ⟨b', o', i', hA', hbl, hi', _, _, _, _, c4⟩ := (HR.out.ext HN.out.ext).ins hlt
              cases hA'
              obtain rfl : i' = i := by have := Hi.out; rw [this] at hi'; exact (Option.some.inj hi').symm
              clear hi'
              simp only [hgI]
              go_wp2_with fail
              go_loop [13, 14] (fun vx vm => ∃ (q x : Nat), q ≤ g ∧ x < 18446744073709551616 ∧ vm = .int .i64 (q : Int) ∧ vx = .int .u64 (x : Int) ∧ Hid (x = u / 256 ^ q)) (fun _ vm => g - (intOf vm).toNat)
              case atStart => exact ⟨0, u, Nat.zero_le _, Hu.out.2, rfl, congrArg (Value.int .u64) Hu.out.1, Lib.hid (by simp)⟩
              case round =>
                obtain ⟨q, x, hq, hx, rfl, rfl, HX⟩ := hrel
                by_cases hqg : q < g
                · have hqI : (q : Int) < (g : Int) := by omega
                  obtain ⟨z, hz⟩ : ∃ z, z = x / 256 := ⟨_, rfl⟩
                  have hzI : IntKind.u64.wrap ((x : Int).tdiv 256) = (z : Int) := by rw [Int.tdiv_eq_ediv_of_nonneg (Int.natCast_nonneg _), IntKind.wrap_u64]; omega
                  have HZ : Hid (z = u / 256 ^ (q + 1)) := Lib.hid (by rw [hz, HX.out, Nat.div_div_eq_div_mul, Nat.pow_succ])
                  clear HX
                  go_wp2_with fail
                  go_round
                  case rel => exact ⟨q + 1, z, by omega, by omega, by go_num, congrArg (Value.int .u64) (by omega), HZ⟩
                  case measure => simp [intOf]; omega
                · obtain rfl : q = g := by omega
                  obtain ⟨y, hy⟩ : ∃ y, y = x % 256 := ⟨_, rfl⟩
                  have hyI : (x : Int) % 256 = (y : Int) := by omega
                  have hyT : (x : Int).tmod 256 = (y : Int) := by rw [Int.tmod_eq_emod_of_nonneg (Int.natCast_nonneg _)]; omega
                  have HY' : Hid ((ys ++ [y]) ++ nbF q u = T) := Lib.hid (by
                    rw [← HY.out, nbF, hy, HX.out, pow8, List.append_assoc]; rfl)
                  clear hy HX HY
                  have hm2 : m ≤ 10000 := by omega
                  go_wp2_with (refine wpl_build (by rfl) rfl ul_u8 info_u8 [.tmp 102] (by rfl) (by rfl) (by decide) (f := u8v) [y] (by rfl) (fun _ => rfl) ?_)
                  intro g6 w6 b6 e6 lo6 r6; refine Lib.hid ?_
                  have hrm := HN.out.room.ext e6
                  have E6 := Lib.hid e6
                  clear b6 e6 lo6
                  go_wp2_with (refine wpl_append_at (by rfl) rfl ul_u8 info_u8 rfl rfl hrm rfl (Src.ofRd ul_u8 r6 (fun _ => rfl)) (by simp only [maxLen]; omega) (by omega) ?_)
                  intro A7 c7 w7 r7 ch7 ft7; refine Lib.hid ?_
                  have HN7 := Lib.hid (HN.out.more (ys := [y]) E6.out r7 ch7 ft7)
                  clear r7 ch7 ft7 hrm r6
                  go_wp2_with fail
                  go_roundw
                  case rel => exact ⟨q, m + 1, c7, A7, by omega, by omega, by go_num, rfl, Lib.hid ⟨_, HN7.out, HY'.out⟩⟩
                  case measure => simp [intOf]
      · obtain rfl : n = k := by omega
        have hfin := HN.out
        rw [List.take_of_length_le (by rw [Hl.out]; exact Nat.le_refl _)] at hfin
        have HFin := Lib.hid hfin
        clear hfin HN
        go_wp2_with fail
        go_ret2
        exact ⟨Ao, no, co, by rw [Hw.out]; rfl, by rw [Hw.out]; exact HFin.out⟩
  · have hw : writeF p = ([], (checkF p).2) := by unfold writeF; rw [if_neg h0]
    have hq : (((checkF p).2 : Int) != 0) = true := by simp; omega
    have Hw := Lib.hid hw
    generalize (checkF p).1 = ck at *
    generalize (checkF p).2 = er at *
    clear h hl h0 hw
    go_enter Try.func45, Try.ntmps45
    go_wp2_with fail
    refine HC.out.mono ?_; rintro e w1 ⟨rfl, e1⟩
    have E1 := Lib.hid e1
    clear e1 HC
    go_wp2_with fail
    go_ret2
    exact ⟨none, 0, 0, by rw [Hw.out]; rfl, by rw [Hw.out]; exact (New.nil w).exte E1.out⟩
end Go.Proofs.Ytiakcehhegippaa
