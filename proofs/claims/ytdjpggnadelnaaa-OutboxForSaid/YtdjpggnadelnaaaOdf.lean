/- Odf: slices.DeleteFunc for the events of others; For; Least. -/
import Derived.Test.YtdjpggnadelnaaaObq
import Derived.Test.YtdjpggnadelnaaaOss
import Derived.Test.YtdjpggnadelnaaaScp
namespace Go.Fx
open Go.RowKit
/-- What slices.IndexFunc tells. -/
def idxI (p : Ev → Bool) (l : List Ev) : Int := if l.findIdx p < l.length then (l.findIdx p : Int) else -1
theorem idx_hit {p : Ev → Bool} {l : List Ev} {k : Nat} {x : Ev} (hx : l[k]? = some x) (hp : p x = true) (hb : ∀ y ∈ l.take k, p y = false) : l.findIdx p = k := by
  obtain ⟨hk, e⟩ := List.getElem?_eq_some_iff.1 hx
  refine (List.findIdx_eq hk).2 ⟨by rw [e]; exact hp, fun j hj => ?_⟩
  exact hb _ (by rw [List.mem_take_iff_getElem]; exact ⟨j, by omega, rfl⟩)
theorem idx_miss {p : Ev → Bool} {l : List Ev} (hb : ∀ y ∈ l, p y = false) : l.findIdx p = l.length := List.findIdx_eq_length.2 (fun y hy => by simpa using hb y hy)
theorem mem_take_snoc {l : List Ev} {k : Nat} {x y : Ev} (hx : l[k]? = some x) (h : y ∈ l.take (k + 1)) : y ∈ l.take k ∨ y = x := by
  rw [take_snoc hx] at h
  rcases List.mem_append.1 h with h | h
  · exact .inl h
  · exact .inr (by simpa using h)
def farB (p : Int) (x : Ev) : Bool := x.to != p
def keepF (p : Int) (l : List Ev) : List Ev := l.filter (fun x => !farB p x)
theorem keep_snoc {p : Int} {l : List Ev} {j : Nat} {x : Ev} (hx : l[j]? = some x) : keepF p (l.take (j + 1)) = if farB p x = true then keepF p (l.take j) else keepF p (l.take j) ++ [x] := by
  rw [take_snoc hx]
  unfold keepF
  rw [List.filter_append]
  cases h : farB p x <;> simp [h]
theorem keep_all {p : Int} {l : List Ev} (h : ∀ y ∈ l, farB p y = false) : keepF p l = l := List.filter_eq_self.2 (fun y hy => by rw [h y hy]; rfl)
theorem keep_len (p : Int) (l : List Ev) : (keepF p l).length ≤ l.length := List.length_filter_le _ _
/-- One event of a list is stored. -/
def fiveE (w : World) (g o : Nat) (q : Ev) : World := ((((w.setCell ⟨g, o, none⟩ (.int .i64 q.t)).setCell ⟨g, o + 1, none⟩ (.int .i64 q.s)).setCell ⟨g, o + 2, none⟩ (.int .i64 q.q)).setCell ⟨g, o + 3, none⟩ (.int .i64 q.to)).setCell ⟨g, o + 4, none⟩ (.int .i64 q.v)
theorem flat_setE {L : List Ev} {k : Nat} {x : Ev} (q : Ev) (hx : L[k]? = some x) : (((((L.flatMap evC).set (k * 5) (.int .i64 q.t)).set (k * 5 + 1) (.int .i64 q.s)).set (k * 5 + 2) (.int .i64 q.q)).set (k * 5 + 3) (.int .i64 q.to)).set (k * 5 + 4) (.int .i64 q.v) = (L.set k q).flatMap evC := by
  have hk := (List.getElem?_eq_some_iff.1 hx).1
  have s0 := flat_set evC_len (s := 5) (j := 0) (by decide) (x := x) (y := ⟨q.t, x.s, x.q, x.to, x.v⟩) (u := .int .i64 q.t) rfl L k hx
  have s1 := flat_set evC_len (s := 5) (j := 1) (by decide) (x := ⟨q.t, x.s, x.q, x.to, x.v⟩) (y := ⟨q.t, q.s, x.q, x.to, x.v⟩) (u := .int .i64 q.s) rfl (L.set k ⟨q.t, x.s, x.q, x.to, x.v⟩) k (by rw [List.getElem?_set_self hk])
  rw [List.set_set] at s1
  have s2 := flat_set evC_len (s := 5) (j := 2) (by decide) (x := ⟨q.t, q.s, x.q, x.to, x.v⟩) (y := ⟨q.t, q.s, q.q, x.to, x.v⟩) (u := .int .i64 q.q) rfl (L.set k ⟨q.t, q.s, x.q, x.to, x.v⟩) k (by rw [List.getElem?_set_self hk])
  rw [List.set_set] at s2
  have s3 := flat_set evC_len (s := 5) (j := 3) (by decide) (x := ⟨q.t, q.s, q.q, x.to, x.v⟩) (y := ⟨q.t, q.s, q.q, q.to, x.v⟩) (u := .int .i64 q.to) rfl (L.set k ⟨q.t, q.s, q.q, x.to, x.v⟩) k (by rw [List.getElem?_set_self hk])
  rw [List.set_set] at s3
  have s4 := flat_set evC_len (s := 5) (j := 4) (by decide) (x := ⟨q.t, q.s, q.q, q.to, x.v⟩) (y := q) (u := .int .i64 q.v) rfl (L.set k ⟨q.t, q.s, q.q, q.to, x.v⟩) k (by rw [List.getElem?_set_self hk])
  rw [List.set_set] at s4
  rw [Nat.add_zero] at s0
  rw [s0, s1, s2, s3, s4]
theorem RoomS.fiveE {w : World} {g o n c k : Nat} {L : List Ev} {x : Ev} (h : RoomS 5 w (some ⟨g, o, none⟩) n c (L.flatMap evC)) (hx : L[k]? = some x) (hk : k < n) (q : Ev) : RoomS 5 (fiveE w g (o + k * 5) q) (some ⟨g, o, none⟩) n c ((L.set k q).flatMap evC) := by
  have h1 := ((((h.set (k := k * 5) (by omega) (.int .i64 q.t)).set (k := k * 5 + 1) (by omega) (.int .i64 q.s)).set (k := k * 5 + 2) (by omega) (.int .i64 q.q)).set (k := k * 5 + 3) (by omega) (.int .i64 q.to)).set (k := k * 5 + 4) (by omega) (.int .i64 q.v)
  rw [flat_setE q hx] at h1
  exact h1
theorem chg_fiveE {T : Nat → Prop} (w : World) (g o : Nat) (q : Ev) (hT : T g) : Chg T w (fiveE w g o q) := by
  unfold Go.Fx.fiveE
  exact (((((Chg.set _ _ _ _ hT).t (Chg.set _ _ _ _ hT)).t (Chg.set _ _ _ _ hT)).t (Chg.set _ _ _ _ hT)).t (Chg.set _ _ _ _ hT))
theorem RoomS.cells5 {w : World} {g o n c k : Nat} {L : List Ev} {x : Ev} (h : RoomS 5 w (some ⟨g, o, none⟩) n c (L.flatMap evC)) (hx : L[k]? = some x) : w.cell? ⟨g, o + k * 5, none⟩ = some (.int .i64 x.t) ∧ w.cell? ⟨g, o + k * 5 + 1, none⟩ = some (.int .i64 x.s) ∧ w.cell? ⟨g, o + k * 5 + 2, none⟩ = some (.int .i64 x.q) ∧ w.cell? ⟨g, o + k * 5 + 3, none⟩ = some (.int .i64 x.to) ∧ w.cell? ⟨g, o + k * 5 + 4, none⟩ = some (.int .i64 x.v) ∧ (k < c → ∀ j, j < 5 → w.frozen? ⟨g, o + k * 5 + j, none⟩ = false) := by
  have hc : ∀ j v, j < 5 → (evC x)[j]? = some v → w.cell? ⟨g, o + k * 5 + j, none⟩ = some v := fun j v hj hv => by
    rw [Nat.add_assoc]
    exact h.cellAt (by rw [flat_get evC_len _ k j x hx hj]; exact hv)
  exact ⟨hc 0 _ (by decide) rfl, hc 1 _ (by decide) rfl, hc 2 _ (by decide) rfl, hc 3 _ (by decide) rfl, hc 4 _ (by decide) rfl, fun hkc j hj => by rw [Nat.add_assoc]; exact h.frozenAt (by omega)⟩
section
variable {P : Program}
theorem run_clearS (w : World) {t ty e : TypeId} {s bytes : Nat} {z : Value} (hu : P.underlying t = some (.slice e)) (hi : (P.info? e).map (fun i => (i.zero, i.size, i.bytes)) = some (some z, s, bytes)) {g of n c : Nat} (hn : 0 < n)
    (hc : ∀ j, j < (Builtin.zeroCells z.cells n).toList.length → (w.cell? ⟨g, of + j, none⟩).isSome = true) (hf : ∀ j, j < (Builtin.zeroCells z.cells n).toList.length → w.frozen? ⟨g, of + j, none⟩ = false) (h1 : ∀ v ∈ (Builtin.zeroCells z.cells n).toList, v.oneCell' = true) :
    (Builtin.clear_ #[t] ty #[.slice (some ⟨g, of, none⟩) n c]).run P w = .ok (.tuple #[]) (w.setCells g of (Builtin.zeroCells z.cells n).toList) := by
  have hst := run_storeCells_cells (P := P) g of (Builtin.zeroCells z.cells n).toList 0 w (by simpa using hc) (by simpa using hf) h1
  obtain ⟨i0, hi', hz, hsize, hby⟩ := info_parts hi
  obtain ⟨m, rfl⟩ : ∃ m, n = m + 1 := ⟨n - 1, by omega⟩
  simp [Builtin.clear_, run_underlying hu, zeroValue, typeInfo, hi', hz, hst]
/-- clear(s[i:]) in a straight walk. -/
theorem wpl_clearS {w : World} {ops : Array Oper} {rest : List Oper} {o : Oper} {a : Act} {Q : Exit → Act → World → Prop} {x : Operand} {t e : TypeId} {s bytes : Nat} {z : Value} {g of n c : Nat} (hgd : Region.wanted o (yielded ops a.tmps) = true) (ho : o.op = .call { callee := .builtin .clear, args := #[x], argTypes := #[t] })
    (hu : P.underlying t = some (.slice e)) (hi : (P.info? e).map (fun i => (i.zero, i.size, i.bytes)) = some (some z, s, bytes)) (hx : a.eval x = .slice (some ⟨g, of, none⟩) n c) (hn : 0 < n)
    (hc : ∀ j, j < (Builtin.zeroCells z.cells n).toList.length → (w.cell? ⟨g, of + j, none⟩).isSome = true) (hf : ∀ j, j < (Builtin.zeroCells z.cells n).toList.length → w.frozen? ⟨g, of + j, none⟩ = false) (h1 : ∀ v ∈ (Builtin.zeroCells z.cells n).toList, v.oneCell' = true)
    (h : ∀ w', Hid (w' = w.setCells g of (Builtin.zeroCells z.cells n).toList) → Hid (wpList P ops Q rest (a.put o.dst (.tuple #[])) w')) : wpList P ops Q (o :: rest) a w := by
  refine wpList_step fun K hK => ?_
  rw [if_pos hgd]
  have hrun := run_clearS (P := P) (ty := o.type) (c := c) w hu hi hn hc hf h1
  unfold Oper.wp execOp
  simp only [ho, resolve, invoke, builtin, Sem.run_bind, Sem.run_pure, Result.andThen_ok, List.map_toArray, List.map_cons, List.map_nil, hx, hrun]
  exact hK _ _ (h _ (Lib.hid rfl)).out
theorem zeroE_len (n : Nat) : (Builtin.zeroCells (.agg #[.int .i64 0, .int .i64 0, .int .i64 0, .int .i64 0, .int .i64 0] : Value).cells n).toList.length = n * 5 := by
  simp [Builtin.zeroCells, Value.cells]
theorem zeroE_one (n : Nat) : ∀ v ∈ (Builtin.zeroCells (.agg #[.int .i64 0, .int .i64 0, .int .i64 0, .int .i64 0, .int .i64 0] : Value).cells n).toList, v.oneCell' = true := by
  intro v hv
  simp only [Builtin.zeroCells, Value.cells, Array.toList_map, List.mem_map] at hv
  obtain ⟨i, _, rfl⟩ := hv
  have h5 : i % 5 < 5 := Nat.mod_lt _ (by decide)
  show ((#[.int .i64 0, .int .i64 0, .int .i64 0, .int .i64 0, .int .i64 0] : Array Value)[i % 5]!).oneCell' = true
  rcases (by omega : i % 5 = 0 ∨ i % 5 = 1 ∨ i % 5 = 2 ∨ i % 5 = 3 ∨ i % 5 = 4) with h | h | h | h | h <;> (rw [h]; rfl)
end
end Go.Fx
namespace Go.Proofs.Ytdjpggnadelnaaa
open Go.RowKit Go.Fx
set_option maxRecDepth 100000 in
theorem for1_ (x : Ev) (p : Int) (B : Nat) (w : World) (hb : Blk w B 3 #[.int .i64 p]) :
    Calls Try.prog 39 #[evV x, .pointer (some ⟨B, 0, none⟩)] w fun e w' => e = .returned (.bool (farB p x)) ∧ Ext w w' := by
  have c0 := (hb.alloc (.cells #[.int .i64 x.t, .int .i64 x.s, .int .i64 x.q, .int .i64 x.to, .int .i64 x.v] 35)).cell0
  clear hb
  unfold evV farB
  go_enter Try.func39, Try.ntmps39
  go_wp2_with fail
  go_ret
  exact ⟨rfl, Ext.alloc _ _⟩
set_option maxRecDepth 100000 in
set_option maxHeartbeats 1000000 in
theorem index_far (p : Int) (B : Nat) (A : Option Addr) (n c : Nat) (l : List Ev) (w : World) (h : RdS 5 evC w A n l) (hn : n ≤ 1000000000) (hb : Blk w B 3 #[.int .i64 p]) :
    Calls Try.prog 56 #[.slice A n c, .func (.func 39) #[] #[.pointer (some ⟨B, 0, none⟩)]] w fun e w' => e = .returned (.int .i64 (idxI (farB p) l)) ∧ Ext w w' := by
  have H := Lib.hid h
  have Hl := Lib.hid h.1
  have HF := Lib.hid (show ∀ x ∈ l, ∀ W, Ext w W → Calls Try.prog 39 #[evV x, .pointer (some ⟨B, 0, none⟩)] W (fun e w' => e = .returned (.bool (farB p x)) ∧ Ext W w') from fun x _ W e => for1_ x p B W (hb.ext e))
  clear h hb
  go_enter Try.func56, Try.ntmps56
  go_wp2_with fail
  go_loopw [8] (fun i wr => ∃ k : Nat, k ≤ n ∧ i = .int .i64 (k : Int) ∧ Hid ((∀ y ∈ l.take k, (farB p) y = false) ∧ Ext w wr)) (fun i _ => n - (intOf i).toNat)
  case atStart => exact ⟨0, by omega, rfl, Lib.hid ⟨by simp, Ext.refl _⟩⟩
  case round =>
    obtain ⟨k, hk, rfl, HJ⟩ := hrel
    by_cases hlt : k < n
    · obtain ⟨b, o, x, rfl, _, hx, c0, c1, c2, c3, c4⟩ := (H.out.ext HJ.out.2).ev hlt
      have hltI : (k : Int) < (n : Int) := by omega
      have HC := Lib.hid (HF.out x (List.mem_of_getElem? hx) wr HJ.out.2)
      unfold evV at HC
      have Hx := Lib.hid hx
      clear hx
      cases hp : (farB p) x with
      | true =>
        have Hp := Lib.hid hp
        rw [hp] at HC
        clear hp
        go_wp2_with fail
        refine HC.out.mono ?_; rintro e w2 ⟨rfl, e2⟩
        have HV := Lib.hid (idx_hit Hx.out Hp.out HJ.out.1)
        go_wp2_with fail
        go_ret
        refine ⟨ret_int ?_, HJ.out.2.t e2⟩
        unfold idxI
        rw [HV.out, if_pos (by have := Hl.out; omega)]
      | false =>
        have HJ2 : Hid (∀ y ∈ l.take (k + 1), (farB p) y = false) := Lib.hid (fun y hy => (mem_take_snoc Hx.out hy).elim (HJ.out.1 y) (fun e => by rw [e]; exact hp))
        rw [hp] at HC
        clear hp
        go_wp2_with fail
        refine HC.out.mono ?_; rintro e w2 ⟨rfl, e2⟩
        have HE := Lib.hid (HJ.out.2.t e2)
        clear e2 HC HJ
        go_wp2_with fail
        go_roundw
        case rel => exact ⟨k + 1, by omega, by go_num, Lib.hid ⟨HJ2.out, HE.out⟩⟩
        case measure => simp [intOf]; omega
    · obtain rfl : n = k := by omega
      have HV := Lib.hid (idx_miss (p := (farB p)) (l := l) (fun y hy => HJ.out.1 y (by rw [List.take_of_length_le (by have := Hl.out; omega)]; exact hy)))
      have HE := Lib.hid HJ.out.2
      clear HJ
      go_wp2_with fail
      go_ret
      refine ⟨ret_int ?_, HE.out⟩
      unfold idxI
      rw [HV.out, if_neg (by omega)]
end Go.Proofs.Ytdjpggnadelnaaa
