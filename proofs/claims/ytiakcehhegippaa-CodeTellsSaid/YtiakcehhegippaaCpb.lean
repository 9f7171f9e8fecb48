/- Cpb: what is written is read back, and what is read was written so: plain Lean over the forms. -/
import Derived.Test.YtiakcehhegippaaCrl
import Derived.Test.YtiakcehhegippaaCwr
namespace Go.Fx
open Go.RowKit Go.Proofs Go.Proofs.Ytiakcehhegippaa
theorem vF_cons (d : Nat) (bs : List Nat) : vF (d :: bs) = d * 256 ^ bs.length + vF bs := by
  have key : ∀ (l : List Nat) (a : Nat), l.foldl (fun x b => x * 256 + b) a = a * 256 ^ l.length + l.foldl (fun x b => x * 256 + b) 0 := by
    intro l
    induction l with
    | nil => intro a; simp
    | cons d l ih =>
      intro a
      rw [List.foldl_cons, List.foldl_cons, ih, ih (0 * 256 + d), List.length_cons, Nat.pow_succ, Nat.zero_mul, Nat.zero_add, Nat.add_mul, Nat.add_assoc, Nat.mul_assoc, Nat.mul_comm 256]
  unfold vF
  rw [List.foldl_cons, key, Nat.zero_mul, Nat.zero_add]
theorem pow8 (k : Nat) : 2 ^ (8 * k) = 256 ^ k := by rw [Nat.pow_mul]
theorem nbF_add : ∀ (k j d v : Nat), k ≤ j → nbF k (d * 256 ^ j + v) = nbF k v
  | 0, _, _, _, _ => rfl
  | k + 1, j, d, v, h => by
    rw [nbF, nbF, nbF_add k j d v (by omega), pow8]
    congr 1
    obtain ⟨m, rfl⟩ : ∃ m, j = k + (m + 1) := ⟨j - k - 1, by omega⟩
    have e : d * 256 ^ (k + (m + 1)) + v = v + 256 ^ k * (d * 256 ^ m * 256) := by
      rw [Nat.pow_add, Nat.pow_succ, Nat.add_comm]
      congr 1
      rw [← Nat.mul_assoc, ← Nat.mul_assoc, ← Nat.mul_assoc, ← Nat.mul_assoc, Nat.mul_comm d]
    rw [e, Nat.add_mul_div_left _ _ (Nat.pow_pos (by omega)), Nat.add_mul_mod_self_right]
theorem nbF_vF : ∀ (zs : List Nat), (∀ x ∈ zs, x < 256) → nbF zs.length (vF zs) = zs
  | [], _ => rfl
  | d :: zs, h => by
    have hv := vF_lt zs (fun x hx => h x (by simp [hx]))
    have hd := h d (by simp)
    have ih := nbF_vF zs (fun x hx => h x (by simp [hx]))
    rw [List.length_cons, nbF, vF_cons, nbF_add _ _ _ _ (Nat.le_refl _), ih, pow8, Nat.add_comm, Nat.add_mul_div_right _ _ (Nat.pow_pos (by omega)), Nat.div_eq_of_lt hv, Nat.zero_add, Nat.mod_eq_of_lt hd]
theorem vF_nbF : ∀ (k u : Nat), vF (nbF k u) = u % 256 ^ k
  | 0, u => by rw [Nat.pow_zero, Nat.mod_one]; rfl
  | k + 1, u => by
    rw [nbF, vF_cons, vF_nbF k u, nbF_len, pow8, Nat.pow_succ, Nat.mod_mul, Nat.mul_comm]
    omega
theorem U64_I64 {x : Nat} (h : x < 18446744073709551616) : U64 (I64 x) = x := by
  unfold U64 I64 wrap64; omega
theorem I64_U64 {n : Int} (h1 : -9223372036854775808 ≤ n) (h2 : n ≤ 9223372036854775807) : I64 (U64 n) = n := by
  unfold U64 I64 wrap64; omega
theorem wdT_le (tl : Nat) : wdT tl ≤ 8 := by
  unfold wdT
  repeat' split
  all_goals omega
theorem wdT_zero {op : Nat} : wdT (tlOf op) = 0 ↔ tlOf op = 0 := by
  unfold wdT
  rcases (nr_tl op).2.1 with h | h | h | h <;> rw [h] <;> simp
theorem sz_pos (op : Nat) : (strOf op).size ≤ nrOf op ↔ tlOf op = 0 := by
  rw [strOf_size]
  split
  · next h => exact ⟨fun _ => h, fun _ => by omega⟩
  · next h => exact ⟨fun h1 => by omega, fun h1 => absurd h1 h⟩
theorem min_sz (op : Nat) : min (strOf op).size (nrOf op) = nrOf op := by rw [strOf_size]; omega
theorem rdI_eq (op : Nat) (ys : List Nat) : rdI op ys = ⟨op, if 0 < nrOf op then (ys[0]?).getD 0 else 0, if 1 < nrOf op then (ys[1]?).getD 0 else 0, if 2 < nrOf op then (ys[2]?).getD 0 else 0, I64 (vF ((ys.drop (nrOf op)).take (wdT (tlOf op))))⟩ := by
  unfold rdI rdP
  rw [min_sz]
  congr 1
  split
  · next h => rw [wdT_zero.2 ((sz_pos op).1 h), List.take_zero]; rw [show vF [] = 0 from rfl]; unfold I64 wrap64; decide
  · rfl
theorem take3 (ys : List Nat) (k a b c : Nat) (hk : k ≤ 3) (hl : k ≤ ys.length) (ha : 0 < k → a = (ys[0]?).getD 0) (hb : 1 < k → b = (ys[1]?).getD 0) (hc : 2 < k → c = (ys[2]?).getD 0) : [a, b, c].take k = ys.take k := by
  rcases (by omega : k = 0 ∨ k = 1 ∨ k = 2 ∨ k = 3) with rfl | rfl | rfl | rfl
  · rfl
  · obtain ⟨x, t, rfl⟩ : ∃ x t, ys = x :: t := by cases ys with | nil => simp at hl | cons x t => exact ⟨x, t, rfl⟩
    simp [ha (by omega)]
  · obtain ⟨x, y, t, rfl⟩ : ∃ x y t, ys = x :: y :: t := by
      cases ys with
      | nil => simp at hl
      | cons x t => cases t with
        | nil => simp at hl
        | cons y t => exact ⟨x, y, t, rfl⟩
    simp [ha (by omega), hb (by omega)]
  · obtain ⟨x, y, z, t, rfl⟩ : ∃ x y z t, ys = x :: y :: z :: t := by
      cases ys with
      | nil => simp at hl
      | cons x t => cases t with
        | nil => simp at hl
        | cons y t => cases t with
          | nil => simp at hl
          | cons z t => exact ⟨x, y, z, t, rfl⟩
    simp [ha (by omega), hb (by omega), hc (by omega)]
/-- What is read is written as the same bytes. -/
theorem wbF_rdI (op : Nat) (ys : List Nat) (hl : ys.length = szOp op - 1) (hy : ∀ y ∈ ys, y < 256) : wbF (rdI op ys) = op :: ys := by
  have h3 := nr_tl op
  have hs := szOp_eq op
  rw [rdI_eq]
  unfold wbF
  show op :: (_ ++ nbF _ (U64 (I64 (vF _)))) = op :: ys
  congr 1
  have hz : ((ys.drop (nrOf op)).take (wdT (tlOf op))) = ys.drop (nrOf op) := List.take_of_length_le (by rw [List.length_drop]; omega)
  have hzl : (ys.drop (nrOf op)).length = wdT (tlOf op) := by rw [List.length_drop]; omega
  have hzb : ∀ x ∈ ys.drop (nrOf op), x < 256 := fun x hx => hy x (List.mem_of_mem_drop hx)
  have hv := vF_lt _ hzb
  have hp : 256 ^ (ys.drop (nrOf op)).length ≤ 256 ^ 8 := Nat.pow_le_pow_right (by omega) (by rw [hzl]; exact wdT_le _)
  rw [hz, U64_I64 (by have : (256 : Nat) ^ 8 = 18446744073709551616 := by decide
                      omega), ← hzl, nbF_vF _ hzb]
  rw [take3 ys (nrOf op) _ _ _ h3.1 (by omega) (fun h => by rw [if_pos h]) (fun h => by rw [if_pos h]) (fun h => by rw [if_pos h]), List.take_append_drop]
theorem oneF_zero {i : Ins} (h : oneF i = 0) : okOp i.op = true ∧ rgOk (nrOf i.op) i.a i.b i.c = true ∧ nOk (tlOf i.op) i.n = true := by
  unfold oneF at h
  split at h
  · cases h
  · next h1 =>
    split at h
    · next h2 => simp at h2; exact ⟨by simpa using h1, h2.1, h2.2⟩
    · cases h
/-- What is written is read back. -/
theorem rdI_wbF (i : Ins) (hi : InsOk i) (h : oneF i = 0) : rdI i.op ((wbF i).tail) = i := by
  obtain ⟨_, hr, hn⟩ := oneF_zero h
  have h3 := nr_tl i.op
  rw [rdI_eq]
  unfold wbF
  rw [List.tail_cons]
  have hl : ([i.a, i.b, i.c].take (nrOf i.op)).length = nrOf i.op := by rw [List.length_take]; simp only [List.length_cons, List.length_nil]; omega
  rw [List.drop_left' hl, List.take_of_length_le (l := nbF _ _) (by rw [nbF_len]; omega), vF_nbF]
  have hN : I64 (U64 i.n % 256 ^ wdT (tlOf i.op)) = i.n := by
    unfold nOk at hn
    rcases h3.2.1 with ht | ht | ht | ht
    all_goals rw [ht] at hn ⊢
    · have h0 : i.n = 0 := by simpa using hn
      rw [h0]; unfold U64 I64 wrap64; decide
    · show I64 (U64 i.n % 18446744073709551616) = i.n
      rw [Nat.mod_eq_of_lt (U64_lt _)]; exact I64_U64 hi.n1 hi.n2
    · have h0 : 0 ≤ i.n ∧ i.n < 16 := by simpa using hn
      show I64 (U64 i.n % 256) = i.n
      unfold U64 I64 wrap64; omega
    · have h0 : 0 ≤ i.n ∧ i.n < 256 := by simpa using hn
      show I64 (U64 i.n % 65536) = i.n
      unfold U64 I64 wrap64; omega
  rw [hN]
  unfold rgOk at hr
  simp only [Bool.and_eq_true, decide_eq_true_eq] at hr
  obtain ⟨⟨ha, hb⟩, hc⟩ := hr
  obtain ⟨op, a, b, c, n⟩ := i
  simp only at *
  congr 1
  · split
    · next h => rw [List.getElem?_append_left (by omega), List.getElem?_take, if_pos h]; rfl
    · next h => rw [if_neg h] at ha; exact ha.symm
  · split
    · next h => rw [List.getElem?_append_left (by omega), List.getElem?_take, if_pos h]; rfl
    · next h => rw [if_neg h] at hb; exact hb.symm
  · split
    · next h => rw [List.getElem?_append_left (by omega), List.getElem?_take, if_pos h]; rfl
    · next h => rw [if_neg h] at hc; exact hc.symm
theorem wbF_cons (i : Ins) : wbF i = i.op :: (wbF i).tail := rfl
theorem rdS_wb (i : Ins) (hi : InsOk i) (h : oneF i = 0) (rest : List Nat) : rdS (wbF i ++ rest) = (i, 0, szOp i.op) := by
  have hl := wbF_len i
  have hok := (oneF_zero h).1
  have hr := rdI_wbF i hi h
  rw [wbF_cons, List.cons_append, rdS_cons, if_neg (by rw [hok]; simp)]
  have hl2 : (wbF i).tail.length = szOp i.op - 1 := by rw [List.length_tail, hl]
  have hs := szOp_le i.op
  rw [if_neg (by rw [List.length_append]; omega), List.take_left' hl2, hr, if_pos h]
/-- What rdS reads is what was written. -/
theorem rdS_inv {b : List Nat} (h0 : 0 < b.length) (hb : ∀ x ∈ b, x < 256) (h : (rdS b).2.1 = 0) : wbF (rdS b).1 ++ b.drop (rdS b).2.2 = b ∧ oneF (rdS b).1 = 0 ∧ (rdS b).2.2 = szOp (rdS b).1.op := by
  cases b with
  | nil => simp at h0
  | cons op t =>
    have hs := szOp_le op
    rw [rdS_cons] at h ⊢
    by_cases h1 : okOp op = false
    · rw [if_pos h1] at h; cases h
    · rw [if_neg h1] at h ⊢
      by_cases h2 : t.length + 1 < szOp op
      · rw [if_pos h2] at h; cases h
      · rw [if_neg h2] at h ⊢
        by_cases h3 : oneF (rdI op (t.take (szOp op - 1))) = 0
        · rw [if_pos h3]
          refine ⟨?_, h3, ?_⟩
          · show wbF (rdI op (t.take (szOp op - 1))) ++ (op :: t).drop (szOp op) = op :: t
            rw [wbF_rdI op _ (by rw [List.length_take]; omega) (fun y hy => hb y (List.mem_cons_of_mem _ (List.mem_of_mem_take hy)))]
            obtain ⟨m, hm⟩ : ∃ m, szOp op = m + 1 := ⟨szOp op - 1, by omega⟩
            rw [hm, List.drop_succ_cons, Nat.add_sub_cancel, List.cons_append, List.take_append_drop]
          · show szOp op = szOp (rdI op (t.take (szOp op - 1))).op
            rw [rdI_eq]
        · rw [if_neg h3] at h; exact absurd h h3
theorem rlF_inv : ∀ (m : Nat) (b : List Nat) (out : List Ins), b.length ≤ m → (∀ x ∈ b, x < 256) →
    ∃ q, (rlF out b).1 = out ++ q ∧ (∀ i ∈ q, oneF i = 0) ∧ q.length ≤ b.length ∧ (out.length ≤ 256 → (out ++ q).length ≤ 256) ∧ ((rlF out b).2 = 0 → q.flatMap wbF = b)
  | 0, b, out, hm, hb => ⟨[], by rw [rlF_nil (by omega), List.append_nil], by simp, by simp, by simp, fun _ => by rw [List.eq_nil_of_length_eq_zero (by omega : b.length = 0)]; rfl⟩
  | m + 1, b, out, hm, hb => by
    by_cases h0 : b.length = 0
    · exact ⟨[], by rw [rlF_nil h0, List.append_nil], by simp, by simp, by simp, fun _ => by rw [List.eq_nil_of_length_eq_zero h0]; rfl⟩
    · have h0' : 0 < b.length := by omega
      by_cases h1 : out.length = 256
      · rw [rlF_many h0' h1]
        exact ⟨[], by simp, by simp, by simp, by simp, fun h => by cases h⟩
      · by_cases h2 : (rdS b).2.1 = 0
        · obtain ⟨hw, ho, hn⟩ := rdS_inv h0' hb h2
          have hn2 := rdS_n h2 h0'
          obtain ⟨q, e1, e2, e3, e4, e5⟩ := rlF_inv m (b.drop (rdS b).2.2) (out ++ [(rdS b).1]) (by rw [List.length_drop]; omega) (fun x hx => hb x (List.mem_of_mem_drop hx))
          rw [rlF_step h0' h1 h2]
          refine ⟨(rdS b).1 :: q, by rw [e1]; simp, ?_, ?_, fun h => ?_, fun h => ?_⟩
          · intro i hi
            rcases List.mem_cons.1 hi with rfl | hi
            · exact ho
            · exact e2 i hi
          · rw [List.length_cons]; rw [List.length_drop] at e3; omega
          · have := e4 (by rw [List.length_append, List.length_singleton]; omega)
            rw [List.append_assoc] at this
            exact this
          · rw [List.flatMap_cons, e5 h]; exact hw
        · rw [rlF_bad h0' h1 h2]
          exact ⟨[], by simp, by simp, by simp, by simp, fun h => absurd h h2⟩
theorem rlF_wb : ∀ (p out : List Ins), (∀ i ∈ p, oneF i = 0 ∧ InsOk i) → (out ++ p).length ≤ 256 → ∀ rest, rlF out (p.flatMap wbF ++ rest) = rlF (out ++ p) rest
  | [], out, _, _, rest => by simp
  | i :: p, out, hp, hl, rest => by
    obtain ⟨h1, h2⟩ := hp i (by simp)
    have hs := szOp_le i.op
    have hw := wbF_len i
    have hrd := rdS_wb i h2 h1 (p.flatMap wbF ++ rest)
    have e : (i :: p).flatMap wbF ++ rest = wbF i ++ (p.flatMap wbF ++ rest) := by simp
    rw [e, rlF_step (by rw [List.length_append]; omega) (by rw [List.length_append, List.length_cons] at hl; omega) (by rw [hrd]), hrd]
    show rlF (out ++ [i]) ((wbF i ++ (p.flatMap wbF ++ rest)).drop (szOp i.op)) = _
    rw [List.drop_left' hw, rlF_wb p (out ++ [i]) (fun j hj => hp j (by simp [hj])) (by simpa using hl)]
    simp
theorem chkF_ne {len : Nat} : ∀ (p : List Ins) (k a e : Nat), chkF len p k = some (a, e) → e ≠ 0 ∧ k ≤ a ∧ a < k + p.length
  | [], _, _, _, h => by cases h
  | i :: p, k, a, e, h => by
    unfold chkF at h
    split at h
    · next h1 => cases h; exact ⟨h1, Nat.le_refl _, by simp⟩
    · split at h
      · cases h; exact ⟨by decide, Nat.le_refl _, by simp⟩
      · have := chkF_ne p (k + 1) a e h
        rw [List.length_cons]
        exact ⟨this.1, by omega, by omega⟩
theorem checkF_bounds (p : List Ins) : ((checkF p).2 = 0 → (checkF p).1 = -1) ∧ (-1 : Int) ≤ (checkF p).1 ∧ (checkF p).1 < (p.length : Int) ∧ ((checkF p).2 = 0 → 0 < p.length ∧ p.length ≤ 256) := by
  unfold checkF
  split
  · next h0 => exact ⟨fun h => absurd h (by decide), by decide, by show (-1 : Int) < _; omega, fun h => absurd h (by decide)⟩
  · next h0 =>
    split
    · next h1 => exact ⟨fun h => absurd h (by decide), by decide, by show (-1 : Int) < _; omega, fun h => absurd h (by decide)⟩
    · next h1 =>
      split
      · next k e hk =>
        have := chkF_ne _ _ _ _ hk
        exact ⟨fun h => absurd h this.1, by show (-1 : Int) ≤ (k : Int); omega, by show (k : Int) < _; omega, fun h => absurd h this.1⟩
      · split
        · exact ⟨fun h => absurd (show (143 : Nat) = 0 from h) (by decide), by show (-1 : Int) ≤ ((p.length - 1 : Nat) : Int); omega, by show ((p.length - 1 : Nat) : Int) < _; omega, fun h => absurd (show (143 : Nat) = 0 from h) (by decide)⟩
        · exact ⟨fun _ => rfl, by decide, by show (-1 : Int) < _; omega, fun _ => ⟨by omega, by omega⟩⟩
/-- What is read from any bytes. -/
theorem readF_ok {b : List Nat} (hb : ∀ x ∈ b, x < 256) (h : (readF b).2.2 = 0) : (readF b).2.1 = -1 ∧ checkF (readF b).1 = (-1, 0) ∧ writeF (readF b).1 = (b, 0) := by
  obtain ⟨q, e1, e2, e3, e4, e5⟩ := rlF_inv b.length b [] (Nat.le_refl _) hb
  rw [List.nil_append] at e1
  unfold readF at h ⊢
  by_cases h1 : (rlF [] b).2 = 0
  · rw [if_pos h1] at h ⊢
    by_cases h2 : (checkF (rlF [] b).1).2 = 0
    · rw [if_pos h2]
      refine ⟨rfl, Prod.ext ((checkF_bounds _).1 h2) h2, ?_⟩
      unfold writeF
      rw [if_pos h2]
      show ((rlF [] b).1.flatMap wbF, 0) = (b, 0)
      rw [e1, e5 h1]
    · rw [if_neg h2] at h; exact absurd h h2
  · rw [if_neg h1] at h; exact absurd h h1
theorem readF_bad {b : List Nat} (hb : ∀ x ∈ b, x < 256) (h : (readF b).2.2 ≠ 0) : (readF b).1 = [] ∧ -1 ≤ (readF b).2.1 ∧ (readF b).2.1 ≤ (b.length : Int) ∧ (readF b).2.1 ≤ 256 := by
  obtain ⟨q, e1, e2, e3, e4, e5⟩ := rlF_inv b.length b [] (Nat.le_refl _) hb
  rw [List.nil_append] at e1 e4
  have e4 := e4 (by simp)
  unfold readF at h ⊢
  by_cases h1 : (rlF [] b).2 = 0
  · rw [if_pos h1] at h ⊢
    by_cases h2 : (checkF (rlF [] b).1).2 = 0
    · rw [if_pos h2] at h; exact absurd rfl h
    · rw [if_neg h2]
      have := checkF_bounds (rlF [] b).1
      rw [e1] at this ⊢
      exact ⟨rfl, this.2.1, by show (checkF q).1 ≤ _; omega, by show (checkF q).1 ≤ _; omega⟩
  · rw [if_neg h1, e1]
    exact ⟨rfl, by show (-1 : Int) ≤ (q.length : Int); omega, by show (q.length : Int) ≤ _; omega, by show (q.length : Int) ≤ _; omega⟩
theorem chkF_none {len : Nat} : ∀ (p : List Ins) (k : Nat), chkF len p k = none → ∀ i ∈ p, oneF i = 0
  | [], _, _, i, hi => by cases hi
  | j :: p, k, h, i, hi => by
    unfold chkF at h
    split at h
    · cases h
    · next h1 =>
      split at h
      · cases h
      · rcases List.mem_cons.1 hi with rfl | hi
        · simpa using h1
        · exact chkF_none p (k + 1) h i hi
theorem checkF_right {p : List Ins} (h : (checkF p).2 = 0) : ∀ i ∈ p, oneF i = 0 := by
  unfold checkF at h
  split at h
  · cases h
  · split at h
    · cases h
    · split at h
      · next k e hk => exact absurd h (chkF_ne _ _ _ _ hk).1
      · next hk => exact chkF_none _ _ hk
/-- What is written is read back. -/
theorem readF_writeF {p : List Ins} (hp : ∀ i ∈ p, InsOk i) (h : (checkF p).2 = 0) : readF (p.flatMap wbF) = (p, -1, 0) := by
  have hr := checkF_right h
  have hl := (checkF_bounds p).2.2.2 h
  have h1 := rlF_wb p [] (fun i hi => ⟨hr i hi, hp i hi⟩) (by simpa using hl.2) []
  rw [List.append_nil, List.nil_append, rlF_nil (b := []) rfl] at h1
  unfold readF
  rw [h1]
  show (if (0 : Nat) = 0 then _ else _) = _
  rw [if_pos rfl, if_pos h]
end Go.Fx
