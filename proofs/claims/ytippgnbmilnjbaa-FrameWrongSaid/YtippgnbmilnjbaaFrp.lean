/- Frp: bytes.Repeat, and what it calls. -/
import Derived.Test.YtippgnbmilnjbaaFcp
import Derived.Test.YtippgnbmilnjbaaFpd
import Derived.Lib.MakeNoZero
import Derived.Laws.Bits64b
import Derived.Deep.RegionLaw
import Derived.Deep.CutRange
namespace Go.Fx
open Go.RowKit
def repF (k : Nat) (xs : List Nat) : List Nat := (List.replicate k xs).flatten
theorem repF_zero (xs : List Nat) : repF 0 xs = [] := rfl
theorem repF_add (a b : Nat) (xs : List Nat) : repF (a + b) xs = repF a xs ++ repF b xs := by unfold repF; rw [← List.replicate_append_replicate, List.flatten_append]
theorem repF_one (xs : List Nat) : repF 1 xs = xs := by simp [repF]
theorem repF_len (k : Nat) (xs : List Nat) : (repF k xs).length = k * xs.length := by simp [repF]
theorem repF_nil (k : Nat) : repF k [] = [] := by simp [repF]
theorem repF_mem {k : Nat} {xs : List Nat} {x : Nat} (h : x ∈ repF k xs) : x ∈ xs := by
  unfold repF at h
  obtain ⟨l, hl, hx⟩ := List.mem_flatten.1 h
  rw [(List.mem_replicate.1 hl).2] at hx
  exact hx
theorem repF_byte (k b : Nat) : repF k [b] = List.replicate k b := by
  induction k with
  | zero => rfl
  | succ k ih => rw [Nat.add_comm, repF_add, repF_one, ih, Nat.add_comm]; rfl
theorem Room.clip {w : World} {A : Option Addr} {n c c' : Nat} {xs : List Value} (h : Room w A n c xs) (h1 : n ≤ c') (h2 : c' ≤ c) : Room w A n c' xs := by
  refine ⟨h.1, h1, Nat.le_trans h2 h.2.2.1, ?_⟩
  rcases h.2.2.2 with h0 | ⟨g, o, hA, hg, hc, hf⟩
  · exact .inl (by omega)
  · exact .inr ⟨g, o, hA, hg, hc, fun j hj => hf j (by omega)⟩
theorem Room.setCells {w : World} {g o n c : Nat} {L : List Value} (h : Room w (some ⟨g, o, none⟩) n c L) (off : Nat) (vs : List Value) (hv : off + vs.length ≤ n) :
    Room (w.setCells g (o + off) vs) (some ⟨g, o, none⟩) n c (L.take off ++ vs ++ L.drop (off + vs.length)) := by
  have hl := h.1
  have hnc := h.2.1
  rcases h.2.2.2 with h0 | ⟨g', o', hA, hg, hcell, hfr⟩
  · obtain rfl : n = 0 := by omega
    obtain rfl : L = [] := List.eq_nil_of_length_eq_zero hl
    obtain rfl : vs = [] := List.eq_nil_of_length_eq_zero (by omega)
    exact ⟨by simp, hnc, h.2.2.1, .inl h0⟩
  · cases hA
    refine ⟨by simp; omega, hnc, h.2.2.1, .inr ⟨g, o, rfl, (chg_setCells w (T := fun _ => True) g (o + off) vs trivial).lt hg, fun j u hu => ?_, fun j hj => ⟨?_, by rw [World.frozen?_setCells]; exact (hfr j hj).2⟩⟩⟩
    · by_cases h1 : j < off
      · rw [List.append_assoc, List.getElem?_append_left (by rw [List.length_take]; omega), List.getElem?_take, if_pos h1] at hu
        rw [World.cell?_setCells_out g _ _ w _ (fun _ _ => by simp only; omega)]
        exact hcell j u hu
      · by_cases h2 : j < off + vs.length
        · rw [List.append_assoc, List.getElem?_append_right (by rw [List.length_take]; omega), List.getElem?_append_left (by rw [List.length_take]; omega)] at hu
          have e : j - (L.take off).length = j - off := by rw [List.length_take]; omega
          rw [e] at hu
          obtain ⟨hj, rfl⟩ := List.getElem?_eq_some_iff.1 hu
          have := World.cell?_setCells_in g vs (o + off) w (fun i hi => by rw [Nat.add_assoc]; exact (hfr (off + i) (by omega)).1) (j - off) hj
          rw [show o + off + (j - off) = o + j by omega] at this
          exact this
        · rw [List.getElem?_append_right (by simp; omega), List.getElem?_drop] at hu
          have e : off + vs.length + (j - (L.take off ++ vs).length) = j := by simp; omega
          rw [e] at hu
          rw [World.cell?_setCells_out g _ _ w _ (fun _ _ => by simp only; omega)]
          exact hcell j u hu
    · by_cases h1 : off ≤ j ∧ j < off + vs.length
      · have := World.cell?_setCells_in g vs (o + off) w (fun i hi => by rw [Nat.add_assoc]; exact (hfr (off + i) (by omega)).1) (j - off) (by omega)
        rw [show o + off + (j - off) = o + j by omega] at this
        rw [this]; rfl
      · rw [World.cell?_setCells_out g _ _ w _ (fun _ _ => by simp only; omega)]
        exact (hfr j hj).1
section
variable {P : Program} {w : World} {ops : Array Oper} {rest : List Oper} {o : Oper} {a : Act} {Q : Exit → Act → World → Prop}
theorem run_copy_at (w : World) {dT sT ty e : TypeId} (hu : P.underlying dT = some (.slice e)) (hs1 : (P.info? e).map (·.size) = some 1) {g of nd cd b o2 ns c2 m : Nat} {old : List Value} {α : Type} {f : α → Value} {xs : List α} (hr : Room w (some ⟨g, of, none⟩) nd cd old) (hx : Rd f w (some ⟨b, o2, none⟩) ns xs) (h1 : ∀ x, (f x).oneCell' = true) (hm : m = min ns nd) :
    (Builtin.copy_ #[dT, sT] ty #[.slice (some ⟨g, of, none⟩) nd cd, .slice (some ⟨b, o2, none⟩) ns c2]).run P w = .ok (goInt m) (w.setCells g of ((xs.take m).map f)) := by
  have hxl := hx.1
  have hl : ((xs.take m).map f).length = m := by simp; omega
  have hcap := hr.2.1
  have hroom : ∀ j, j < m → (w.cell? ⟨g, of + j, none⟩).isSome = true ∧ w.frozen? ⟨g, of + j, none⟩ = false := fun j hj => by
    rcases hr.2.2.2 with h0 | ⟨g', o', hA, hg, hcell, hfr⟩
    · omega
    · cases hA
      exact hfr j (by omega)
  have := run_copy_cells (P := P) (elem := e) w dT sT ty g of nd cd ⟨b, o2, none⟩ ns c2 ((xs.take m).map f) hu hs1 (by rw [hl]; exact hm) (fun j v hv => by
    refine hx.news j v ?_
    rw [List.getElem?_map, List.getElem?_take] at hv
    rw [List.getElem?_map]
    split at hv
    · exact hv
    · cases hv) (fun j hj => (hroom j (by omega)).1) (fun j hj => (hroom j (by omega)).2) (one_cells _ h1)
  rw [hl] at this
  exact this
theorem wp_copy_at {K : Act → World → Prop} {d s : Operand} {dT sT e : TypeId} (ho : o.op = .call { callee := .builtin .copy, args := #[d, s], argTypes := #[dT, sT] }) (hu : P.underlying dT = some (.slice e)) (hs1 : (P.info? e).map (·.size) = some 1)
    {g of nd cd b o2 ns c2 m : Nat} {old : List Value} {α : Type} {f : α → Value} {xs : List α} (hd : a.eval d = .slice (some ⟨g, of, none⟩) nd cd) (hs : a.eval s = .slice (some ⟨b, o2, none⟩) ns c2) (hr : Room w (some ⟨g, of, none⟩) nd cd old) (hx : Rd f w (some ⟨b, o2, none⟩) ns xs) (h1 : ∀ x, (f x).oneCell' = true) (hm : m = min ns nd)
    (h : K (a.put o.dst (goInt m)) (w.setCells g of ((xs.take m).map f))) : o.wp P a w K Q := by
  have hrun := run_copy_at (P := P) (ty := o.type) (sT := sT) (cd := cd) (c2 := c2) w hu hs1 hr hx h1 hm
  unfold Oper.wp execOp
  simp only [ho, resolve, invoke, builtin, Sem.run_bind, Sem.run_pure, Result.andThen_ok, List.map_toArray, List.map_cons, List.map_nil, hd, hs, hrun]
  exact h
theorem wpl_copy_at (hgd : Region.wanted o (yielded ops a.tmps) = true) {d s : Operand} {dT sT e : TypeId} (ho : o.op = .call { callee := .builtin .copy, args := #[d, s], argTypes := #[dT, sT] }) (hu : P.underlying dT = some (.slice e)) (hs1 : (P.info? e).map (·.size) = some 1)
    {g of nd cd b o2 ns c2 m : Nat} {old : List Value} {α : Type} {f : α → Value} {xs : List α} (hd : a.eval d = .slice (some ⟨g, of, none⟩) nd cd) (hs : a.eval s = .slice (some ⟨b, o2, none⟩) ns c2) (hr : Room w (some ⟨g, of, none⟩) nd cd old) (hx : Rd f w (some ⟨b, o2, none⟩) ns xs) (h1 : ∀ x, (f x).oneCell' = true) (hm : m = min ns nd)
    (h : Hid (wpList P ops Q rest (a.put o.dst (goInt m)) (w.setCells g of ((xs.take m).map f)))) : wpList P ops Q (o :: rest) a w := by
  refine wpList_step fun K hK => ?_
  rw [if_pos hgd]
  exact wp_copy_at ho hu hs1 hd hs hr hx h1 hm (hK _ _ h.out)
theorem step_copy_at {K : Act → World → Prop} {E : Prop} (hgd : o.guard = none) {d s : Operand} {dT sT e : TypeId} (ho : o.op = .call { callee := .builtin .copy, args := #[d, s], argTypes := #[dT, sT] }) (hu : P.underlying dT = some (.slice e)) (hs1 : (P.info? e).map (·.size) = some 1)
    {g of nd cd b o2 ns c2 m : Nat} {old : List Value} {α : Type} {f : α → Value} {xs : List α} (hd : a.eval d = .slice (some ⟨g, of, none⟩) nd cd) (hs : a.eval s = .slice (some ⟨b, o2, none⟩) ns c2) (hr : Room w (some ⟨g, of, none⟩) nd cd old) (hx : Rd f w (some ⟨b, o2, none⟩) ns xs) (h1 : ∀ x, (f x).oneCell' = true) (hm : m = min ns nd)
    (h : K (a.put o.dst (goInt m)) (w.setCells g of ((xs.take m).map f))) : if Region.wanted o (yielded ops a.tmps) = true then Oper.wp P o a w K Q else E := by
  have hw : Region.wanted o (yielded ops a.tmps) = true := by simp [Region.wanted, hgd]
  rw [if_pos hw]
  exact wp_copy_at ho hu hs1 hd hs hr hx h1 hm h
end
end Go.Fx
namespace Go.Proofs.Ytippgnbmilnjbaa
open Go.RowKit Go.Fx
set_option maxHeartbeats 1000000 in
theorem mul64_ (x y p : Nat) (w : World) (hx : x < 4294967296) (hy : y < 4294967296) (hxy : x * y = p) (hp : p < 4294967296) :
    Calls Try.prog 65 #[.int .u64 (x : Int), .int .u64 (y : Int)] w fun e w' => e = .returned (.tuple #[.int .u64 0, .int .u64 (p : Int)]) ∧ w = w' := by
  have mask : ∀ a : Nat, a < 4294967296 → bits .and .u64 (a : Int) 4294967295 = (a : Int) := fun a ha => by
    have h := bits_and_u64_nat a 4294967295 (by omega) (by omega)
    have e : a &&& 4294967295 = a % 4294967296 := Nat.and_two_pow_sub_one_eq_mod a 32
    rw [e, Nat.mod_eq_of_lt ha] at h
    exact h
  have m1 := mask x hx
  have m2 := mask y hy
  have m0 := mask 0 (by omega)
  have d1 : (x : Int) / 4294967296 = 0 := by omega
  have d2 : (y : Int) / 4294967296 = 0 := by omega
  have d3 : (p : Int) / 4294967296 = 0 := by omega
  have pp : (x : Int) * (y : Int) = (p : Int) := by rw [← hxy, Int.natCast_mul]
  have hw : IntKind.u64.wrap (p : Int) = (p : Int) := by rw [IntKind.wrap_u64]; omega
  clear mask hxy
  go_enter Try.func65, Try.ntmps65
  go_wp2
  go_ret2
  exact ⟨rfl, rfl⟩
theorem mul_ (x y p : Nat) (w : World) (hx : x < 4294967296) (hy : y < 4294967296) (hxy : x * y = p) (hp : p < 4294967296) :
    Calls Try.prog 57 #[.int .u64 (x : Int), .int .u64 (y : Int)] w fun e w' => e = .returned (.tuple #[.int .u64 0, .int .u64 (p : Int)]) ∧ w = w' := by
  have HM := Lib.hid (mul64_ x y p w hx hy hxy hp)
  clear hxy
  go_enter Try.func57, Try.ntmps57
  go_wp2_with fail
  refine HM.out.mono ?_; rintro e w' ⟨rfl, rfl⟩
  go_wp2_with fail
  go_ret2
  exact ⟨rfl, rfl⟩
theorem u8_to3 (A : Option Addr) (n c m : Nat) (w : World) (h2 : m ≤ c) :
    (Instr.sliceAt 23 (.slice A n c) none (some (.int .i64 (m : Int))) (some (.int .i64 (m : Int)))).run Try.prog w = .ok (.slice A m m) w := by
  have h4 : (m : Int) ≤ (c : Int) := by omega
  have h5 : (0 : Int) ≤ (m : Int) := by omega
  simp [go_sem, sliced, h4, Addr.add]
theorem MakeNoZero_ (N : Nat) (w : World) (hN : N ≤ 4294967296) : ∃ cs : Array Value, (callFunc 58 #[.int .i64 (N : Int)]).run Try.prog w = .ok (.value (.slice (some ⟨w.heap.size, 0, none⟩) N cs.size)) ((w.alloc (.cells cs 5)).drewN 2) ∧ N ≤ cs.size ∧ cs.size ≤ maxLen := by
  obtain ⟨cs, hrun, hle, hm⟩ := Lib.run_makeNoZero (P := Try.prog) w #[3] 23 5 ul_u8 N (by omega)
  refine ⟨cs, ?_, hle, hm (by simp only [maxLen]; omega)⟩
  rw [run_callFunc_extern Try.func58 (by kernel_rfl) (by kernel_rfl) (by kernel_rfl) (e := Extern.BytealgMakeNoZero.makeNoZero #[3] #[23]) (by kernel_rfl), hrun]
  rfl
/-- What holds while the buffer is being filled. -/
structure RpJ (w : World) (N n : Nat) (xs : List Nat) (q : Nat) (wr : World) : Prop where
  room : ∃ L, Room wr (some ⟨w.heap.size, 0, none⟩) N N L ∧ L.take (q * n) = (repF q xs).map u8v
  ext : Ext w wr
theorem RpJ.copy {w wr : World} {N n k q r : Nat} {xs : List Nat} (h : RpJ w N n xs q wr) (hn : xs.length = n) (hN : N = k * n) (hrq : r ≤ q) (hqr : q + r ≤ k) :
    RpJ w N n xs (q + r) (wr.setCells w.heap.size (q * n) (((repF q xs).take (r * n)).map u8v)) := by
  obtain ⟨L, h1, h2⟩ := h.room
  have hr1 : (repF q xs).take (r * n) = repF r xs := by
    obtain ⟨d, rfl⟩ : ∃ d, q = r + d := ⟨q - r, by omega⟩
    rw [repF_add, List.take_append_of_le_length (by rw [repF_len, hn]; exact Nat.le_refl _), List.take_of_length_le (by rw [repF_len, hn]; exact Nat.le_refl _)]
  rw [hr1]
  have hlen : ((repF r xs).map u8v).length = r * n := by rw [List.length_map, repF_len, hn]
  have hle : q * n + r * n ≤ N := by rw [hN, ← Nat.add_mul]; exact Nat.mul_le_mul_right n hqr
  have h3 := h1.setCells (q * n) ((repF r xs).map u8v) (by rw [hlen]; exact hle)
  rw [Nat.zero_add, hlen] at h3
  refine ⟨⟨_, h3, ?_⟩, h.ext.trans ((chg_setCells wr (T := fun k => k = w.heap.size) w.heap.size (q * n) _ rfl).below h.ext.size (fun k hk e => by omega))⟩
  have hL : (L.take (q * n)).length = q * n := by rw [List.length_take, h1.1]; omega
  rw [Nat.add_mul, List.take_append_of_le_length (by rw [List.length_append, hL, hlen]; exact Nat.le_refl _), List.take_of_length_le (by rw [List.length_append, hL, hlen]; exact Nat.le_refl _), h2, repF_add, List.map_append]
theorem RpJ.first {w wr : World} {N n : Nat} {xs : List Nat} (h : RpJ w N n xs 0 wr) (hn : xs.length = n) (hN : n ≤ N) : RpJ w N n xs 1 (wr.setCells w.heap.size 0 ((xs.map u8v).take n)) := by
  obtain ⟨L, h1, _⟩ := h.room
  rw [List.take_of_length_le (by simp; omega)]
  have hlen : (xs.map u8v).length = n := by rw [List.length_map, hn]
  have h3 := h1.setCells 0 (xs.map u8v) (by omega)
  refine ⟨⟨_, h3, ?_⟩, h.ext.trans ((chg_setCells wr (T := fun k => k = w.heap.size) w.heap.size 0 _ rfl).below h.ext.size (fun k hk e => by omega))⟩
  rw [List.take_zero, List.nil_append, Nat.one_mul, repF_one, List.take_append_of_le_length (by omega), List.take_of_length_le (by omega)]
theorem RpJ.src {w wr : World} {N n q ch : Nat} {xs : List Nat} (h : RpJ w N n xs q wr) (hch : ch ≤ q * n) (hN : q * n ≤ N) : Rd u8v wr (some ⟨w.heap.size, 0, none⟩) ch ((repF q xs).take ch) := by
  obtain ⟨L, h1, h2⟩ := h.room
  have h3 := h1.take (k := ch) (by omega)
  have e : L.take ch = ((repF q xs).take ch).map u8v := by
    rw [List.map_take, ← h2, List.take_take, Nat.min_eq_left hch]
  rw [e] at h3
  exact h3.rd
theorem RpJ.dst {w wr : World} {N n q bp : Nat} {xs : List Nat} (h : RpJ w N n xs q wr) (hN : bp ≤ N) : ∃ L, Room wr (some ⟨w.heap.size, bp, none⟩) (N - bp) (N - bp) L := by
  obtain ⟨L, h1, h2⟩ := h.room
  have h3 := h1.drop (k := bp) hN
  rw [Nat.zero_add] at h3
  exact ⟨_, h3⟩
/-- What Repeat answers. -/
def RepP (k : Nat) (xs : List Nat) (w : World) (e : Ending) (w' : World) : Prop := ∃ s : Sl, e = .returned (slv s) ∧ Cloned w (repF k xs) (repF k xs).length s w'
theorem rep_empty {w w1 : World} {k : Nat} {xs : List Nat} {g : Nat} (h : repF k xs = []) (e : Ext w w1) : RepP k xs w (.returned (.slice (some ⟨g, 0, none⟩) 0 0)) w1 := by
  refine ⟨⟨some ⟨g, 0, none⟩, 0, 0⟩, rfl, ?_⟩
  rw [h]
  exact ⟨rfl, ⟨Room.zero, by simp⟩, e, fun k hk => absurd hk foot_zero⟩
theorem RpJ.ext_ {w wr w' : World} {N n q : Nat} {xs : List Nat} (h : RpJ w N n xs q wr) (e : Ext wr w') : RpJ w N n xs q w' := by
  obtain ⟨L, h1, h2⟩ := h.room
  exact ⟨⟨L, h1.ext e, h2⟩, h.ext.t e⟩
theorem rp_from (g N BP : Nat) (w : World) (h : BP < N) : (Instr.sliceAt 23 (.slice (some ⟨g, 0, none⟩) N N) (some (.int .i64 (BP : Int))) none none).run Try.prog w = .ok (.slice (some ⟨g, BP, none⟩) (N - BP) (N - BP)) w := by
  have h1 := u8_from (some ⟨g, 0, none⟩) N N BP w (by omega)
  rw [h1]
  unfold from_
  rw [if_neg (by omega)]
  simp [Addr.add_lit]
set_option maxRecDepth 100000 in
set_option maxHeartbeats 2000000 in
theorem repeat_ (A : Option Addr) (n c k : Nat) (xs : List Nat) (w : World) (h : Rd u8v w A n xs) (hx : ∀ x ∈ xs, x < 256) (hn : n < 4294967296) (hk : k < 4294967296) (hN : n * k < 4294967296) :
    Calls Try.prog 37 #[.slice A n c, .int .i64 (k : Int)] w (RepP k xs w) := by
  have hl := h.1
  have hw1 : IntKind.u64.wrap (n : Int) = (n : Int) := by rw [IntKind.wrap_u64]; omega
  have hw2 : IntKind.u64.wrap (k : Int) = (k : Int) := by rw [IntKind.wrap_u64]; omega
  rcases Nat.eq_zero_or_pos k with hk0 | hk0
  · have H0 : Hid (repF k xs = []) := Lib.hid (by rw [hk0]; rfl)
    have hkI : ((k : Int) == 0) = true := by simp; omega
    clear h hx hl
    go_enter Try.func37, Try.ntmps37
    go_wp2_with (refine wpl_build (by rfl) rfl ul_u8 info_u8 [] (by rfl) (by rfl) (by decide) (f := u8v) [] (by rfl) (fun _ => rfl) ?_)
    intro g w1 b1 e1 lo1 _; refine Lib.hid ?_
    go_wp2_with fail
    go_ret
    exact rep_empty H0.out e1
  · have hkI : ((k : Int) == 0) = false := by simp; omega
    have hkn : ¬ (k : Int) < 0 := by omega
    rcases Nat.eq_zero_or_pos n with hn0 | hn0
    · have H0 : Hid (repF k xs = []) := Lib.hid (by rw [List.eq_nil_of_length_eq_zero (by omega : xs.length = 0), repF_nil])
      have HM : Hid (Calls Try.prog 57 #[.int .u64 0, .int .u64 (k : Int)] w fun e w' => e = .returned (.tuple #[.int .u64 0, .int .u64 0]) ∧ w = w') := Lib.hid (mul_ 0 k 0 w (by omega) hk (by omega) (by omega))
      have hnI : ((n : Int) == 0) = true := by simp; omega
      clear h hx hl
      go_enter Try.func37, Try.ntmps37
      go_wp2_with fail
      refine HM.out.mono ?_; rintro e w' ⟨rfl, rfl⟩
      go_wp2_with (refine wpl_build (by rfl) rfl ul_u8 info_u8 [] (by rfl) (by rfl) (by decide) (f := u8v) [] (by rfl) (fun _ => rfl) ?_)
      intro g w1 b1 e1 lo1 _; refine Lib.hid ?_
      go_wp2_with fail
      go_ret
      exact rep_empty H0.out e1
    · have hnI : ((n : Int) == 0) = false := by simp; omega
      obtain ⟨N, hNe⟩ : ∃ N, N = k * n := ⟨_, rfl⟩
      have hNN : n * k = N := by rw [hNe, Nat.mul_comm]
      rw [hNN] at hN
      have HM := Lib.hid (mul_ n k N w hn hk hNN hN)
      have hNpos : n ≤ N := by rw [hNe]; exact Nat.le_mul_of_pos_left n hk0
      have HNe := Lib.hid hNe
      have Hl := Lib.hid hl
      have HA := Lib.hid h
      have Hx := Lib.hid hx
      have hw3 : IntKind.i64.wrap (N : Int) = (N : Int) := IntWalk.i64_in _ (by omega)
      obtain ⟨bA, oA, rfl⟩ := h.some_ hn0
      have Hcm : Hid (1 ≤ 8192 / n → 1 ≤ 8192 / n) := Lib.hid id
      clear hNe hNN h hx hl
      go_enter Try.func37, Try.ntmps37
      go_wp2_with fail
      refine HM.out.mono ?_; rintro e w' ⟨rfl, rfl⟩
      go_upto_if 42 with fail
      go_cut [8] from 43 to 52 (fun s8 wx => w = wx ∧ ∃ m : Nat, 1 ≤ m ∧ s8 = .int .i64 ((m * n : Nat) : Int))
      case first =>
        by_cases h8 : 8192 < N
        · have h8I : (8192 : Int) < (N : Int) := by omega
          obtain ⟨d, hd⟩ : ∃ d, d = 8192 / n := ⟨_, rfl⟩
          have hq1 : (8192 : Int) / (n : Int) = (d : Int) := by rw [hd, Int.natCast_ediv]; rfl
          have hq2 : (8192 : Int).tdiv (n : Int) = (d : Int) := by rw [Int.tdiv_eq_ediv_of_nonneg (by omega)]; exact hq1
          obtain ⟨CM, hCM⟩ : ∃ CM, CM = d * n := ⟨_, rfl⟩
          have hle : CM ≤ 8192 := by rw [hCM, hd]; exact Nat.div_mul_le_self 8192 n
          have hq3 : (d : Int) * (n : Int) = (CM : Int) := by rw [hCM, Int.natCast_mul]
          have hq4 : IntKind.i64.wrap (CM : Int) = (CM : Int) := IntWalk.i64_in _ (by omega)
          have hq5 : wrap64 (CM : Int) = (CM : Int) := by unfold wrap64; omega
          have hd8 : d ≤ 8192 := by rw [hd]; exact Nat.div_le_self _ _
          have hq6 : IntKind.i64.wrap (d : Int) = (d : Int) := IntWalk.i64_in _ (by omega)
          have hq7 : wrap64 (d : Int) = (d : Int) := by unfold wrap64; omega
          by_cases hz : CM = 0
          · have hzI : ((CM : Int) == 0) = true := by simp; omega
            clear hd hCM hz
            go_wp2_with fail
            go_meet
            exact ⟨rfl, 1, Nat.le_refl _, by rw [Nat.one_mul]⟩
          · have hzI : ((CM : Int) == 0) = false := by simp; omega
            have HC : Hid (1 ≤ d ∧ CM = d * n) := Lib.hid ⟨Nat.pos_of_ne_zero (fun e => hz (by rw [hCM, e, Nat.zero_mul])), hCM⟩
            clear hd hCM hz
            go_wp2_with fail
            go_meet
            exact ⟨rfl, d, HC.out.1, by rw [HC.out.2]⟩
        · have h8I : ¬ (8192 : Int) < (N : Int) := by omega
          go_wp2_with fail
          go_meet
          exact ⟨rfl, k, by omega, by rw [HNe.out]⟩
      case rest =>
      obtain ⟨rfl, cm, hcm1, rfl⟩ := hcut
      obtain ⟨CM, hCM⟩ : ∃ CM, CM = cm * n := ⟨_, rfl⟩
      rw [← hCM]
      have HCM : Hid (CM = cm * n ∧ 1 ≤ cm) := Lib.hid ⟨hCM, hcm1⟩
      obtain ⟨cs, hmk, hle, hmax⟩ := MakeNoZero_ N w (by omega)
      have hsl := fun w' => u8_to3 (some ⟨w.heap.size, 0, none⟩) N cs.size N w' hle
      have hb := (Blk.new w 5 cs).drewN 2
      have hE2 : Ext w ((w.alloc (.cells cs 5)).drewN 2) := (Ext.alloc w _).t (Ext.drewN _ _)
      have hr0 : Room ((w.alloc (.cells cs 5)).drewN 2) (some ⟨w.heap.size, 0, none⟩) N N (cs.toList.take N) := ((Room.of_blk hb rfl hmax).take hle).clip (Nat.le_refl _) hle
      have hsrc0 := HA.out.ext hE2
      have Hone : Hid (n = min n N) := Lib.hid (by show n = min n N; omega)
      have hrp0 : RpJ w N n xs 0 ((w.alloc (.cells cs 5)).drewN 2) := ⟨⟨_, hr0, by simp [repF_zero]⟩, hE2⟩
      have Hrp0 := Lib.hid hrp0
      clear hCM hcm1 hb hE2 hrp0
      have Hrp1 := Lib.hid (Hrp0.out.first Hl.out hNpos)
      go_wp2_with (refine wpl_copy_at (by rfl) rfl ul_u8 one_u8 rfl rfl hr0 hsrc0 (fun _ => rfl) Hone.out ?_)
      refine Lib.hid ?_
      try simp only [List.map_take]
      generalize ((w.alloc (.cells cs 5)).drewN 2).setCells w.heap.size 0 ((xs.map u8v).take n) = w2 at Hrp1 ⊢
      clear hr0 hsrc0 Hone Hrp0 hmk hsl hle hmax
      go_wp2_with fail
      go_loopw [10] (fun v wr => ∃ q BP : Nat, v = .int .i64 (BP : Int) ∧ 1 ≤ q ∧ q ≤ k ∧ BP ≤ N ∧ Hid (BP = q * n ∧ RpJ w N n xs q wr)) (fun v _ => N - (intOf v).toNat)
      case atStart => exact ⟨1, n, rfl, Nat.le_refl _, hk0, hNpos, Lib.hid ⟨by omega, Hrp1.out⟩⟩
      case round =>
        clear Hrp1
        obtain ⟨q, BP, rfl, hq1, hqk, hBP, HR⟩ := hrel
        have hBn : n ≤ BP := by rw [HR.out.1]; exact Nat.le_mul_of_pos_left n hq1
        by_cases hlt : BP < N
        · have hltI : (BP : Int) < (N : Int) := by omega
          have hqk2 : q < k := by
            rcases Nat.lt_or_ge q k with h | h
            · exact h
            · have := Nat.mul_le_mul_right n h; rw [← HR.out.1, ← HNe.out] at this; omega
          by_cases hc : CM < BP
          · have hcI : (CM : Int) < (BP : Int) := by omega
            have hch : cm ≤ q := by
              rcases Nat.lt_or_ge q cm with h | h
              · have := Nat.mul_le_mul_right n (Nat.le_of_lt h); rw [← HR.out.1, ← HCM.out.1] at this; omega
              · exact h
            have hCH : CM = cm * n := HCM.out.1
            have hch1 : 1 ≤ cm := HCM.out.2
            obtain ⟨R, hR⟩ : ∃ R, R = min cm (k - q) := ⟨_, rfl⟩
            obtain ⟨M, hM⟩ : ∃ M, M = min CM (N - BP) := ⟨_, rfl⟩
            have hMR : M = R * n := by
              have e1 : N - BP = (k - q) * n := by rw [HNe.out, Nat.sub_mul, ← HR.out.1]
              rw [hM, e1, hR, hCH, Nat.mul_min_mul_right]
            have hCHle : CM ≤ BP := by omega
            have hMle : M ≤ CM := by omega
            have hM1 : 1 ≤ M := by rw [hMR]; exact Nat.mul_pos (by omega) hn0
            have hMN : BP + M ≤ N := by omega
            obtain ⟨L, hdst⟩ := (HR.out.2.ext_ (Ext.drew wr)).dst hBP
            have hsrc := (HR.out.2.ext_ (Ext.drew wr)).src (ch := CM) (by rw [← HR.out.1]; exact hCHle) (by rw [← HR.out.1]; exact hBP)
            have hst := RpJ.copy (r := R) (HR.out.2.ext_ (Ext.drew wr)) Hl.out HNe.out (by omega) (by omega)
            rw [← HR.out.1, ← hMR] at hst
            have hst2 : Hid (BP + M = (q + R) * n ∧ RpJ w N n xs (q + R) (wr.drew.setCells w.heap.size BP ((((repF q xs).take CM).take M).map u8v))) := Lib.hid ⟨by rw [Nat.add_mul, ← HR.out.1, ← hMR], by rw [List.take_take, Nat.min_eq_left hMle]; exact hst⟩
            try simp only [List.map_take] at hst2
            have hqR : q + R ≤ k := by omega
            have hslA := fun w' => rp_from w.heap.size N BP w' hlt
            have hslB := fun w' => u8_to (some ⟨w.heap.size, 0, none⟩) N N CM w' (by omega)
            have hwM : IntKind.i64.wrap ((BP : Int) + (M : Int)) = (BP : Int) + (M : Int) := IntWalk.i64_in _ (by omega)
            have Hst := Lib.hid hst2.out
            have HM2 : Hid (M = min CM (N - BP)) := Lib.hid hM
            clear hR hM hMR hst hst2 hCH
            go_upto_region 20 with fail
            go_region_law (first
              | (refine step_copy_at rfl rfl ul_u8 one_u8 (nd := N - BP) (cd := N - BP) (g := w.heap.size) (of := BP) (b := w.heap.size) (o2 := 0) (ns := CM) (c2 := N) (by first | (simp [Act.eval, Act.put]; done) | (go_simp; done) | (simp [go_sem, Act.eval]; done)) (by first | (simp [Act.eval, Act.put]; done) | (go_simp; done) | (simp [go_sem, Act.eval]; done)) hdst hsrc (fun _ => rfl) HM2.out ?_))
            go_wp2_with fail
            try go_simp
            refine ⟨⟨q + R, BP + M, by go_num, by omega, hqR, hMN, Hst⟩, by simp [intOf]; omega⟩
          · have hcI : ¬ (CM : Int) < (BP : Int) := by omega
            have hch : q ≤ q := Nat.le_refl _
            have hCH : BP = q * n := HR.out.1
            have hch1 : 1 ≤ q := hq1
            obtain ⟨R, hR⟩ : ∃ R, R = min q (k - q) := ⟨_, rfl⟩
            obtain ⟨M, hM⟩ : ∃ M, M = min BP (N - BP) := ⟨_, rfl⟩
            have hMR : M = R * n := by
              have e1 : N - BP = (k - q) * n := by rw [HNe.out, Nat.sub_mul, ← HR.out.1]
              rw [hM, e1, hR, hCH, Nat.mul_min_mul_right]
            have hCHle : BP ≤ BP := by omega
            have hMle : M ≤ BP := by omega
            have hM1 : 1 ≤ M := by rw [hMR]; exact Nat.mul_pos (by omega) hn0
            have hMN : BP + M ≤ N := by omega
            obtain ⟨L, hdst⟩ := (HR.out.2.ext_ (Ext.drew wr)).dst hBP
            have hsrc := (HR.out.2.ext_ (Ext.drew wr)).src (ch := BP) (by rw [← HR.out.1]; exact hCHle) (by rw [← HR.out.1]; exact hBP)
            have hst := RpJ.copy (r := R) (HR.out.2.ext_ (Ext.drew wr)) Hl.out HNe.out (by omega) (by omega)
            rw [← HR.out.1, ← hMR] at hst
            have hst2 : Hid (BP + M = (q + R) * n ∧ RpJ w N n xs (q + R) (wr.drew.setCells w.heap.size BP ((((repF q xs).take BP).take M).map u8v))) := Lib.hid ⟨by rw [Nat.add_mul, ← HR.out.1, ← hMR], by rw [List.take_take, Nat.min_eq_left hMle]; exact hst⟩
            try simp only [List.map_take] at hst2
            have hqR : q + R ≤ k := by omega
            have hslA := fun w' => rp_from w.heap.size N BP w' hlt
            have hslB := fun w' => u8_to (some ⟨w.heap.size, 0, none⟩) N N BP w' (by omega)
            have hwM : IntKind.i64.wrap ((BP : Int) + (M : Int)) = (BP : Int) + (M : Int) := IntWalk.i64_in _ (by omega)
            have Hst := Lib.hid hst2.out
            have HM2 : Hid (M = min BP (N - BP)) := Lib.hid hM
            clear hR hM hMR hst hst2 hCH
            go_upto_region 20 with fail
            go_region_law (first
              | (refine step_copy_at rfl rfl ul_u8 one_u8 (nd := N - BP) (cd := N - BP) (g := w.heap.size) (of := BP) (b := w.heap.size) (o2 := 0) (ns := BP) (c2 := N) (by first | (simp [Act.eval, Act.put]; done) | (go_simp; done) | (simp [go_sem, Act.eval]; done)) (by first | (simp [Act.eval, Act.put]; done) | (go_simp; done) | (simp [go_sem, Act.eval]; done)) hdst hsrc (fun _ => rfl) HM2.out ?_))
            go_wp2_with fail
            try go_simp
            refine ⟨⟨q + R, BP + M, by go_num, by omega, hqR, hMN, Hst⟩, by simp [intOf]; omega⟩
        · obtain rfl : BP = N := by omega
          have hqk2 : q = k := by
            have h1 : q * n = k * n := by rw [← HR.out.1, ← HNe.out]
            exact Nat.eq_of_mul_eq_mul_right hn0 h1
          obtain ⟨L, h1, h2⟩ := HR.out.2.room
          rw [hqk2, ← HNe.out, List.take_of_length_le (by rw [h1.1]; exact Nat.le_refl _)] at h2
          have hE := HR.out.2.ext
          rw [h2] at h1
          have H1 := Lib.hid h1
          have HE := Lib.hid hE
          clear h1 h2 hE hqk2
          go_wp2_with fail
          go_ret
          exact ⟨⟨some ⟨w.heap.size, 0, none⟩, BP, BP⟩, rfl, by rw [repF_len, Hl.out]; exact HNe.out, ⟨H1.out, fun x hx => Hx.out x (repF_mem hx)⟩, HE.out, fun j hj => by rw [foot_some hj]; exact Nat.le_refl _⟩
end Go.Proofs.Ytippgnbmilnjbaa
