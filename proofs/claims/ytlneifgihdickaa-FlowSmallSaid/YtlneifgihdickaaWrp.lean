/- Wrp: slices.Repeat, of instructions and of integers. -/
import Derived.Test.YtlneifgihdickaaRpS
import Derived.Test.YtlneifgihdickaaFcl
import Derived.Laws.Bits64b
import Derived.Deep.RegionLaw
namespace Go.Proofs.Ytlneifgihdickaa
open Go.RowKit Go.Fx
set_option maxHeartbeats 1000000 in
theorem mul64_ (x y p : Nat) (w : World) (hx : x < 4294967296) (hy : y < 4294967296) (hxy : x * y = p) (hp : p < 4294967296) :
    Calls Try.prog 72 #[.int .u64 (x : Int), .int .u64 (y : Int)] w fun e w' => e = .returned (.tuple #[.int .u64 0, .int .u64 (p : Int)]) ∧ w = w' := by
  have mask : ∀ a : Nat, a < 4294967296 → bits .and .u64 (a : Int) 4294967295 = (a : Int) := fun a ha => by
    have h := bits_and_u64_nat a 4294967295 (by omega) (by omega)
    have e : a &&& 4294967295 = a % 4294967296 := Nat.and_two_pow_sub_one_eq_mod a 32
    rw [e, Nat.mod_eq_of_lt ha] at h
    exact h
  have m1 := mask x hx
  have m2 := mask y hy
  have m0 := mask 0 (by omega)
  have d1 : (x : Int) / 4294967296 = 0 := by omega
  have d2 : (y : Int) / 4294967296 = 0 := by omega
  have d3 : (p : Int) / 4294967296 = 0 := by omega
  have pp : (x : Int) * (y : Int) = (p : Int) := by rw [← hxy, Int.natCast_mul]
  have hw : IntKind.u64.wrap (p : Int) = (p : Int) := by rw [IntKind.wrap_u64]; omega
  clear mask hxy
  go_enter Try.func72, Try.ntmps72
  go_wp2
  go_ret2
  exact ⟨rfl, rfl⟩
theorem mul_ (x y p : Nat) (w : World) (hx : x < 4294967296) (hy : y < 4294967296) (hxy : x * y = p) (hp : p < 4294967296) :
    Calls Try.prog 53 #[.int .u64 (x : Int), .int .u64 (y : Int)] w fun e w' => e = .returned (.tuple #[.int .u64 0, .int .u64 (p : Int)]) ∧ w = w' := by
  have HM := Lib.hid (mul64_ x y p w hx hy hxy hp)
  clear hxy
  go_enter Try.func53, Try.ntmps53
  go_wp2_with fail
  refine HM.out.mono ?_; rintro e w' ⟨rfl, rfl⟩
  go_wp2_with fail
  go_ret2
  exact ⟨rfl, rfl⟩
theorem ul_ins : Try.prog.underlying 24 = some (.slice 34) := by kernel_rfl
theorem info_ins : (Try.prog.info? 34).map (fun i => (i.zero, i.size, i.bytes)) = some (some (.agg #[.int .u8 0, .int .u8 0, .int .u8 0, .int .u8 0, .int .i64 0]), 5, 16) := by kernel_rfl
theorem sz_insT : (Try.prog.info? 34).map (·.size) = some 5 := by kernel_rfl
theorem ri_from {A : Option Addr} {n c k : Nat} {li : Int} (w : World) (e : li = (k : Int)) (hk : k ≤ n) :
    (Instr.sliceAt 24 (.slice A n c) (some (.int .i64 li)) none none).run Try.prog w = .ok (.slice (fromS 5 A c k) (n - k) (c - k)) w := by
  subst e
  have h1 : (k : Int) ≤ (n : Int) := by omega
  have h2 : (0 : Int) ≤ (k : Int) := by omega
  simp [go_sem, sliced, fromS, h1]
theorem ri_to {A : Option Addr} {n c hi : Nat} {li : Int} (w : World) (e : li = (hi : Int)) (h2 : hi ≤ c) :
    (Instr.sliceAt 24 (.slice A n c) none (some (.int .i64 li)) none).run Try.prog w = .ok (.slice A hi c) w := by
  subst e
  have h4 : (hi : Int) ≤ (c : Int) := by omega
  have h5 : (0 : Int) ≤ (hi : Int) := by omega
  simp [go_sem, sliced, h4, Addr.add]
set_option maxRecDepth 100000 in
set_option maxHeartbeats 2000000 in
theorem repeatI (A : Option Addr) (n c k : Nat) (xs : List Ins) (w : World) (h : RdS 5 insC w A n xs) (hn : 1 ≤ n) (hk : 1 ≤ k) (hn2 : n ≤ 1000) (hk2 : k ≤ 1000) :
    Calls Try.prog 25 #[.slice A n c, .int .i64 (k : Int)] w fun e w' => ∃ G, e = .returned (.slice (some ⟨G, 0, none⟩) (k * n) (k * n)) ∧ RoomS 5 w' (some ⟨G, 0, none⟩) (k * n) (k * n) ((repL k xs).flatMap insC) ∧ w.heap.size ≤ G ∧ Ext w w' := by
  obtain ⟨N, hN⟩ : ∃ N, N = k * n := ⟨_, rfl⟩
  have hl := h.1
  have hNb : N ≤ 1000000 := by rw [hN]; exact Nat.le_trans (Nat.mul_le_mul hk2 hn2) (by decide)
  have hNn : n ≤ N := by rw [hN]; exact Nat.le_mul_of_pos_left n (by omega)
  have HM := Lib.hid (mul_ n k N w (by omega) (by omega) (by rw [hN, Nat.mul_comm]) (by omega))
  have hw1 : IntKind.u64.wrap (n : Int) = (n : Int) := by rw [IntKind.wrap_u64]; omega
  have hw2 : IntKind.u64.wrap (k : Int) = (k : Int) := by rw [IntKind.wrap_u64]; omega
  have hw3 : IntKind.i64.wrap (N : Int) = (N : Int) := IntWalk.i64_in _ (by omega)
  have hkn : ¬ (k : Int) < 0 := by omega
  obtain ⟨bA, oA, rfl⟩ := h.some_ (by omega)
  have HA := Lib.hid h
  have HNe : Hid (N = k * xs.length ∧ xs.length = n) := Lib.hid ⟨by rw [hl]; exact hN, hl⟩
  obtain ⟨w1, L1, hmk, hroom, e1⟩ := run_makeS (P := Try.prog) (s := 5) (N := N) w ul_ins info_ins (by omega) (by unfold maxLen; omega)
  obtain ⟨G, hG⟩ : ∃ G, G = w.heap.size := ⟨_, rfl⟩
  rw [← hG] at hmk hroom
  have HJ0 : Hid (RpJ 5 insC w G N xs 0 w1) := Lib.hid ⟨⟨_, hroom, by simp [repL_zero]⟩, e1, by rw [hG]; exact Nat.le_refl _⟩
  have HE1 := Lib.hid e1
  have hlen1 : (xs.flatMap insC).length = n * 5 := by rw [flat_len insC_len, hl]
  have hnSS : n * 5 ≤ N * 5 := Nat.mul_le_mul_right 5 hNn
  have hnm : n = min n N := (Nat.min_eq_left hNn).symm
  have Hnm := Lib.hid hnm
  have Hlen1 := Lib.hid hlen1
  rw [← hN]
  clear hN h hl hroom e1 hG hlen1 hnm
  go_enter Try.func25, Try.ntmps25
  go_wp2_with fail
  refine HM.out.mono ?_; rintro e w' ⟨rfl, rfl⟩
  go_upto_region 7 with fail
  go_wp2_with (refine wpl_copyS (by rfl) rfl ul_ins sz_insT rfl rfl (m := n) (cs := xs.flatMap insC) Hnm.out Hlen1.out ((HA.out.ext HE1.out).cells insC_len) (fun j hj => by rw [Nat.zero_add]; exact (HJ0.out.there (by rw [Hlen1.out] at hj; omega)).1) (fun j hj => by rw [Nat.zero_add]; exact (HJ0.out.there (by rw [Hlen1.out] at hj; omega)).2) (one_flat insC_one xs) ?_)
  intro w2 hw2'; refine Lib.hid ?_
  have HJ1 : Hid (RpJ 5 insC w G N xs 1 w2) := Lib.hid (by
    have h1 := HJ0.out.put insC_len (r := 1) (by rw [HNe.out.2]; omega)
    rw [Nat.zero_mul, Nat.zero_mul, repL_one, Nat.zero_add] at h1
    rw [hw2'.out]; exact h1)
  clear HJ0 hw2' HA HE1 hmk HM
  go_wp2_with fail
  go_loopw [8] (fun v wr => ∃ (BP q : Nat), v = .int .i64 (BP : Int) ∧ BP ≤ N ∧ 1 ≤ BP ∧ Hid (BP = q * n ∧ 1 ≤ q ∧ q ≤ k ∧ RpJ 5 insC w G N xs q wr)) (fun v _ => N - (intOf v).toNat)
  case atStart => exact ⟨n, 1, rfl, hNn, hn, Lib.hid ⟨by omega, Nat.le_refl _, hk, HJ1.out⟩⟩
  case round =>
    clear HJ1
    obtain ⟨BP, q, rfl, hBP, hBP1, HQ⟩ := hrel
    by_cases hlt : BP < N
    · have hltI : (BP : Int) < (N : Int) := by omega
      obtain ⟨r, hr⟩ : ∃ r, r = min q (k - q) := ⟨_, rfl⟩
      obtain ⟨M, hM⟩ : ∃ M, M = r * n := ⟨_, rfl⟩
      have hNq : N - BP = (k - q) * n := by rw [HNe.out.1, HNe.out.2, HQ.out.1, Nat.sub_mul]
      have hqk : q < k := by
        rcases Nat.lt_or_ge q k with h | h
        · exact h
        · exfalso
          rw [show k - q = 0 by omega, Nat.zero_mul] at hNq; omega
      have hr1 : 1 ≤ r ∧ r ≤ q ∧ q + r ≤ k := by have := HQ.out.2.1; omega
      have hMmin : M = min BP (N - BP) := by rw [hM, hr, hNq, HQ.out.1, Nat.mul_min_mul_right]
      have hM1 : 1 ≤ M := by rw [hM]; exact Nat.mul_pos (by omega) (by omega)
      have hqr : (q + r) * n = BP + M := by rw [Nat.add_mul, ← HQ.out.1, ← hM]
      have hcs : ((repL r xs).flatMap insC).length = M * 5 := by rw [flat_len insC_len, repL_len, HNe.out.2, hM]
      have HJw := Lib.hid HQ.out.2.2.2
      have hsrc : ∀ j v, ((repL r xs).flatMap insC)[j]? = some v → wr.drew.cell? ⟨G, 0 + j, none⟩ = some v := fun j v hj => by
        refine (HJw.out.exte (Ext.drew wr)).cell (by rw [HNe.out.2, ← HQ.out.1]; exact hBP) ?_
        obtain ⟨d, hd⟩ : ∃ d, q = r + d := ⟨q - r, by omega⟩
        rw [hd, repL_add, List.flatMap_append, List.getElem?_append_left (List.getElem?_eq_some_iff.1 hj).1]
        exact hj
      have hMle : BP * 5 + M * 5 ≤ N * 5 := by rw [← Nat.add_mul]; exact Nat.mul_le_mul_right 5 (by omega)
      have hth : ∀ j, j < ((repL r xs).flatMap insC).length → (wr.drew.cell? ⟨G, BP * 5 + j, none⟩).isSome = true ∧ wr.drew.frozen? ⟨G, BP * 5 + j, none⟩ = false := fun j hj => (HJw.out.exte (Ext.drew wr)).there (by rw [hcs] at hj; omega)
      have HS : Hid (BP + M = (q + r) * n ∧ 1 ≤ q + r ∧ q + r ≤ k ∧ RpJ 5 insC w G N xs (q + r) (wr.drew.setCells G (BP * 5) ((repL r xs).flatMap insC))) := Lib.hid ⟨hqr.symm, by omega, hr1.2.2, by
        have h1 := (HJw.out.exte (Ext.drew wr)).put insC_len (r := r) (by rw [HNe.out.2, hqr]; omega)
        rw [HNe.out.2, ← HQ.out.1] at h1
        exact h1⟩
      have hsA := fun w' => ri_from (A := some ⟨G, 0, none⟩) (n := N) (c := N) (k := BP) (li := (BP : Int)) w' rfl hBP
      unfold fromS at hsA
      rw [if_neg (by omega)] at hsA
      simp only [Option.map_some, Addr.add_lit, Nat.zero_add] at hsA
      have hsB := fun w' => ri_to (A := some ⟨G, 0, none⟩) (n := N) (c := N) (hi := BP) (li := (BP : Int)) w' rfl hBP
      have hMN : BP + M ≤ N := by omega
      have Hmin := Lib.hid hMmin
      have Hcs := Lib.hid hcs
      have Hsrc := Lib.hid hsrc
      have Hth := Lib.hid hth
      have hwM : IntKind.i64.wrap ((BP : Int) + (M : Int)) = (BP : Int) + (M : Int) := IntWalk.i64_in _ (by omega)
      clear hr hM hNq hqk hr1 hMmin hqr hcs hsrc hMle hth HQ
      go_upto_region 9 with fail
      go_region_law (first
        | (refine step_copyS rfl rfl ul_ins sz_insT (nd := N - BP) (cd := N - BP) (g := G) (of := BP * 5) (b := G) (o2 := 0) (ns := BP) (c2 := N) (m := M) (cs := (repL r xs).flatMap insC) (by first | (simp [Act.eval, Act.put]; done) | (go_simp; done) | (simp [go_sem, Act.eval]; done)) (by first | (simp [Act.eval, Act.put]; done) | (go_simp; done) | (simp [go_sem, Act.eval]; done)) Hmin.out Hcs.out Hsrc.out (fun j hj => (Hth.out j hj).1) (fun j hj => (Hth.out j hj).2) (one_flat insC_one _) ?_; intro w5 hw5))
      have HS2 : Hid (BP + M = (q + r) * n ∧ 1 ≤ q + r ∧ q + r ≤ k ∧ RpJ 5 insC w G N xs (q + r) w5) := Lib.hid (by rw [hw5.out]; exact HS.out)
      clear hw5 HS Hmin Hcs Hsrc Hth hsA hsB HJw
      go_wp2_with fail
      try go_simp
      refine ⟨⟨BP + M, by go_num, hMN, by omega, q + r, HS2⟩, by simp [intOf]; omega⟩
    · obtain rfl : BP = N := by omega
      have hq : q = k := by
        have h1 := HQ.out.1
        rw [HNe.out.1, HNe.out.2] at h1
        exact (Nat.eq_of_mul_eq_mul_right (by omega) h1).symm
      have HF : Hid (RoomS 5 wr (some ⟨G, 0, none⟩) BP BP ((repL k xs).flatMap insC)) := Lib.hid (by
        have h1 := HQ.out.2.2.2
        rw [hq] at h1
        have h2 := HNe.out.1
        subst h2
        exact h1.full insC_len)
      have HE := Lib.hid (show w.heap.size ≤ G ∧ Ext w wr from ⟨HQ.out.2.2.2.le, HQ.out.2.2.2.ext⟩)
      clear hq HQ
      go_wp2_with fail
      go_ret
      exact ⟨G, rfl, HF.out, HE.out⟩
def intz (x : Int) : Value := .int .i64 x
def inzC (x : Int) : List Value := [intz x]
theorem inzC_len (x : Int) : (inzC x).length = 1 := rfl
theorem inzC_one (x : Int) : ∀ u ∈ inzC x, u.oneCell' = true := fun u hu => by
  obtain rfl : u = intz x := by simpa [inzC] using hu
  rfl
theorem inzC_map (xs : List Int) : xs.flatMap inzC = xs.map intz := flat_one intz xs
theorem sz_inT : (Try.prog.info? 3).map (·.size) = some 1 := by kernel_rfl
theorem rz_from {A : Option Addr} {n c k : Nat} {li : Int} (w : World) (e : li = (k : Int)) (hk : k ≤ n) :
    (Instr.sliceAt 26 (.slice A n c) (some (.int .i64 li)) none none).run Try.prog w = .ok (.slice (fromS 1 A c k) (n - k) (c - k)) w := by
  subst e
  have h1 : (k : Int) ≤ (n : Int) := by omega
  have h2 : (0 : Int) ≤ (k : Int) := by omega
  simp [go_sem, sliced, fromS, h1]
theorem rz_to {A : Option Addr} {n c hi : Nat} {li : Int} (w : World) (e : li = (hi : Int)) (h2 : hi ≤ c) :
    (Instr.sliceAt 26 (.slice A n c) none (some (.int .i64 li)) none).run Try.prog w = .ok (.slice A hi c) w := by
  subst e
  have h4 : (hi : Int) ≤ (c : Int) := by omega
  have h5 : (0 : Int) ≤ (hi : Int) := by omega
  simp [go_sem, sliced, h4, Addr.add]
set_option maxRecDepth 100000 in
set_option maxHeartbeats 2000000 in
theorem repeatZ (A : Option Addr) (n c k : Nat) (xs : List Int) (w : World) (h : RdS 1 inzC w A n xs) (hn : 1 ≤ n) (hk : 1 ≤ k) (hn2 : n ≤ 1000) (hk2 : k ≤ 1000) :
    Calls Try.prog 33 #[.slice A n c, .int .i64 (k : Int)] w fun e w' => ∃ G, e = .returned (.slice (some ⟨G, 0, none⟩) (k * n) (k * n)) ∧ RoomS 1 w' (some ⟨G, 0, none⟩) (k * n) (k * n) ((repL k xs).flatMap inzC) ∧ w.heap.size ≤ G ∧ Ext w w' := by
  obtain ⟨N, hN⟩ : ∃ N, N = k * n := ⟨_, rfl⟩
  have hl := h.1
  have hNb : N ≤ 1000000 := by rw [hN]; exact Nat.le_trans (Nat.mul_le_mul hk2 hn2) (by decide)
  have hNn : n ≤ N := by rw [hN]; exact Nat.le_mul_of_pos_left n (by omega)
  have HM := Lib.hid (mul_ n k N w (by omega) (by omega) (by rw [hN, Nat.mul_comm]) (by omega))
  have hw1 : IntKind.u64.wrap (n : Int) = (n : Int) := by rw [IntKind.wrap_u64]; omega
  have hw2 : IntKind.u64.wrap (k : Int) = (k : Int) := by rw [IntKind.wrap_u64]; omega
  have hw3 : IntKind.i64.wrap (N : Int) = (N : Int) := IntWalk.i64_in _ (by omega)
  have hkn : ¬ (k : Int) < 0 := by omega
  obtain ⟨bA, oA, rfl⟩ := h.some_ (by omega)
  have HA := Lib.hid h
  have HNe : Hid (N = k * xs.length ∧ xs.length = n) := Lib.hid ⟨by rw [hl]; exact hN, hl⟩
  obtain ⟨w1, L1, hmk, hroom, e1⟩ := run_makeS (P := Try.prog) (s := 1) (N := N) w ul_in info_in (by omega) (by unfold maxLen; omega)
  obtain ⟨G, hG⟩ : ∃ G, G = w.heap.size := ⟨_, rfl⟩
  rw [← hG] at hmk hroom
  have HJ0 : Hid (RpJ 1 inzC w G N xs 0 w1) := Lib.hid ⟨⟨_, hroom, by simp [repL_zero]⟩, e1, by rw [hG]; exact Nat.le_refl _⟩
  have HE1 := Lib.hid e1
  have hlen1 : (xs.flatMap inzC).length = n * 1 := by rw [flat_len inzC_len, hl]
  have hnSS : n * 1 ≤ N * 1 := Nat.mul_le_mul_right 1 hNn
  have hnm : n = min n N := (Nat.min_eq_left hNn).symm
  have Hnm := Lib.hid hnm
  have Hlen1 := Lib.hid hlen1
  rw [← hN]
  clear hN h hl hroom e1 hG hlen1 hnm
  go_enter Try.func33, Try.ntmps33
  go_wp2_with fail
  refine HM.out.mono ?_; rintro e w' ⟨rfl, rfl⟩
  go_upto_region 7 with fail
  go_wp2_with (refine wpl_copyS (by rfl) rfl ul_in sz_inT rfl rfl (m := n) (cs := xs.flatMap inzC) Hnm.out Hlen1.out ((HA.out.ext HE1.out).cells inzC_len) (fun j hj => by rw [Nat.zero_add]; exact (HJ0.out.there (by rw [Hlen1.out] at hj; omega)).1) (fun j hj => by rw [Nat.zero_add]; exact (HJ0.out.there (by rw [Hlen1.out] at hj; omega)).2) (one_flat inzC_one xs) ?_)
  intro w2 hw2'; refine Lib.hid ?_
  have HJ1 : Hid (RpJ 1 inzC w G N xs 1 w2) := Lib.hid (by
    have h1 := HJ0.out.put inzC_len (r := 1) (by rw [HNe.out.2]; omega)
    rw [Nat.zero_mul, Nat.zero_mul, repL_one, Nat.zero_add] at h1
    rw [hw2'.out]; exact h1)
  clear HJ0 hw2' HA HE1 hmk HM
  go_wp2_with fail
  go_loopw [8] (fun v wr => ∃ (BP q : Nat), v = .int .i64 (BP : Int) ∧ BP ≤ N ∧ 1 ≤ BP ∧ Hid (BP = q * n ∧ 1 ≤ q ∧ q ≤ k ∧ RpJ 1 inzC w G N xs q wr)) (fun v _ => N - (intOf v).toNat)
  case atStart => exact ⟨n, 1, rfl, hNn, hn, Lib.hid ⟨by omega, Nat.le_refl _, hk, HJ1.out⟩⟩
  case round =>
    clear HJ1
    obtain ⟨BP, q, rfl, hBP, hBP1, HQ⟩ := hrel
    by_cases hlt : BP < N
    · have hltI : (BP : Int) < (N : Int) := by omega
      obtain ⟨r, hr⟩ : ∃ r, r = min q (k - q) := ⟨_, rfl⟩
      obtain ⟨M, hM⟩ : ∃ M, M = r * n := ⟨_, rfl⟩
      have hNq : N - BP = (k - q) * n := by rw [HNe.out.1, HNe.out.2, HQ.out.1, Nat.sub_mul]
      have hqk : q < k := by
        rcases Nat.lt_or_ge q k with h | h
        · exact h
        · exfalso
          rw [show k - q = 0 by omega, Nat.zero_mul] at hNq; omega
      have hr1 : 1 ≤ r ∧ r ≤ q ∧ q + r ≤ k := by have := HQ.out.2.1; omega
      have hMmin : M = min BP (N - BP) := by rw [hM, hr, hNq, HQ.out.1, Nat.mul_min_mul_right]
      have hM1 : 1 ≤ M := by rw [hM]; exact Nat.mul_pos (by omega) (by omega)
      have hqr : (q + r) * n = BP + M := by rw [Nat.add_mul, ← HQ.out.1, ← hM]
      have hcs : ((repL r xs).flatMap inzC).length = M * 1 := by rw [flat_len inzC_len, repL_len, HNe.out.2, hM]
      have HJw := Lib.hid HQ.out.2.2.2
      have hsrc : ∀ j v, ((repL r xs).flatMap inzC)[j]? = some v → wr.drew.cell? ⟨G, 0 + j, none⟩ = some v := fun j v hj => by
        refine (HJw.out.exte (Ext.drew wr)).cell (by rw [HNe.out.2, ← HQ.out.1]; exact hBP) ?_
        obtain ⟨d, hd⟩ : ∃ d, q = r + d := ⟨q - r, by omega⟩
        rw [hd, repL_add, List.flatMap_append, List.getElem?_append_left (List.getElem?_eq_some_iff.1 hj).1]
        exact hj
      have hMle : BP * 1 + M * 1 ≤ N * 1 := by rw [← Nat.add_mul]; exact Nat.mul_le_mul_right 1 (by omega)
      have hth : ∀ j, j < ((repL r xs).flatMap inzC).length → (wr.drew.cell? ⟨G, BP * 1 + j, none⟩).isSome = true ∧ wr.drew.frozen? ⟨G, BP * 1 + j, none⟩ = false := fun j hj => (HJw.out.exte (Ext.drew wr)).there (by rw [hcs] at hj; omega)
      have HS : Hid (BP + M = (q + r) * n ∧ 1 ≤ q + r ∧ q + r ≤ k ∧ RpJ 1 inzC w G N xs (q + r) (wr.drew.setCells G (BP * 1) ((repL r xs).flatMap inzC))) := Lib.hid ⟨hqr.symm, by omega, hr1.2.2, by
        have h1 := (HJw.out.exte (Ext.drew wr)).put inzC_len (r := r) (by rw [HNe.out.2, hqr]; omega)
        rw [HNe.out.2, ← HQ.out.1] at h1
        exact h1⟩
      have hsA := fun w' => rz_from (A := some ⟨G, 0, none⟩) (n := N) (c := N) (k := BP) (li := (BP : Int)) w' rfl hBP
      unfold fromS at hsA
      rw [if_neg (by omega)] at hsA
      simp only [Option.map_some, Addr.add_lit, Nat.zero_add] at hsA
      have hsB := fun w' => rz_to (A := some ⟨G, 0, none⟩) (n := N) (c := N) (hi := BP) (li := (BP : Int)) w' rfl hBP
      have hMN : BP + M ≤ N := by omega
      have Hmin := Lib.hid hMmin
      have Hcs := Lib.hid hcs
      have Hsrc := Lib.hid hsrc
      have Hth := Lib.hid hth
      have hwM : IntKind.i64.wrap ((BP : Int) + (M : Int)) = (BP : Int) + (M : Int) := IntWalk.i64_in _ (by omega)
      clear hr hM hNq hqk hr1 hMmin hqr hcs hsrc hMle hth HQ
      go_upto_region 9 with fail
      go_region_law (first
        | (refine step_copyS rfl rfl ul_in sz_inT (nd := N - BP) (cd := N - BP) (g := G) (of := BP * 1) (b := G) (o2 := 0) (ns := BP) (c2 := N) (m := M) (cs := (repL r xs).flatMap inzC) (by first | (simp [Act.eval, Act.put]; done) | (go_simp; done) | (simp [go_sem, Act.eval]; done)) (by first | (simp [Act.eval, Act.put]; done) | (go_simp; done) | (simp [go_sem, Act.eval]; done)) Hmin.out Hcs.out Hsrc.out (fun j hj => (Hth.out j hj).1) (fun j hj => (Hth.out j hj).2) (one_flat inzC_one _) ?_; intro w5 hw5))
      have HS2 : Hid (BP + M = (q + r) * n ∧ 1 ≤ q + r ∧ q + r ≤ k ∧ RpJ 1 inzC w G N xs (q + r) w5) := Lib.hid (by rw [hw5.out]; exact HS.out)
      clear hw5 HS Hmin Hcs Hsrc Hth hsA hsB HJw
      go_wp2_with fail
      try go_simp
      refine ⟨⟨BP + M, by go_num, hMN, by omega, q + r, HS2⟩, by simp [intOf]; omega⟩
    · obtain rfl : BP = N := by omega
      have hq : q = k := by
        have h1 := HQ.out.1
        rw [HNe.out.1, HNe.out.2] at h1
        exact (Nat.eq_of_mul_eq_mul_right (by omega) h1).symm
      have HF : Hid (RoomS 1 wr (some ⟨G, 0, none⟩) BP BP ((repL k xs).flatMap inzC)) := Lib.hid (by
        have h1 := HQ.out.2.2.2
        rw [hq] at h1
        have h2 := HNe.out.1
        subst h2
        exact h1.full inzC_len)
      have HE := Lib.hid (show w.heap.size ≤ G ∧ Ext w wr from ⟨HQ.out.2.2.2.le, HQ.out.2.2.2.ext⟩)
      clear hq HQ
      go_wp2_with fail
      go_ret
      exact ⟨G, rfl, HF.out, HE.out⟩
end Go.Proofs.Ytlneifgihdickaa
