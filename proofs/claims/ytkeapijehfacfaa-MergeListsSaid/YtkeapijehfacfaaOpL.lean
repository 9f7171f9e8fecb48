/- OpL: how lists of events, and lists of such lists, come in. -/
import Derived.Test.YtkeapijehfacfaaOpE
import Derived.Test.YtkeapijehfacfaaEls
namespace Go.Proofs.Ytkeapijehfacfaa
open Go.RowKit Go.Fx Go.ChangeShapes Go.WideShapes Go.ChangeAt Go.Deep
/-- A list of events that came in. -/
structure EvArg (W : World) (A : Option Addr) (n c : Nat) (l : List Ev) : Prop where
  rd : RdS 5 evC W A n l
  ok : ∀ x ∈ l, EvOk x
  le : n ≤ c
  max : c ≤ maxLen
/-- A list of lists of events that came in. -/
structure EeArg (W : World) (A : Option Addr) (n c : Nat) (ss : List Sl) (ls : List (List Ev)) : Prop where
  rd : Rd slv W A n ss
  els : Els W ss ls
  ok : ∀ l ∈ ls, ∀ x ∈ l, EvOk x
  le : n ≤ c
  max : c ≤ maxLen
section
variable {H : Type} {enc : TypeId × Value → H} {w : World} {base b0 : Nat} {spare : Nat → Bool} {held : Bool} {r : Reach}
theorem key_cells {fuel : Nat} {cs : List Value} {x : DataW H × List MemPlace} (h : DataW.trod enc Try.prog w base spare held fuel 35 cs = some x) : IntsOk [.i64, .i64, .i64] cs :=
  ints_struct (ks := [.i64, .i64, .i64]) Try.underlying35 rfl (by kernel_rfl) (fun i k hk => by
    match i, hk with
    | 0, hk => cases hk; exact ⟨_, rfl, by kernel_rfl, by kernel_rfl, rfl⟩
    | 1, hk => cases hk; exact ⟨_, rfl, by kernel_rfl, by kernel_rfl, rfl⟩
    | 2, hk => cases hk; exact ⟨_, rfl, by kernel_rfl, by kernel_rfl, rfl⟩
    | i + 3, hk => cases (show (none : Option IntKind) = some k from hk)) h
set_option maxRecDepth 100000 in
theorem ev_cells {fuel : Nat} {cs : List Value} {x : DataW H × List MemPlace} (h : DataW.trod enc Try.prog w base spare held fuel 37 cs = some x) : ∃ e : Ev, cs = evC e ∧ EvOk e := by
  obtain ⟨xs, n, _, rfl, hl, hlen, hx⟩ := DataW.trod_struct Try.underlying37 h
  have h0 : DataW.trod enc Try.prog w base spare held n 35 ((cs.drop 0).take (Try.prog.cellsOf 35)) = xs[0]? := hx 0 _ rfl
  have h1 : DataW.trod enc Try.prog w base spare held n 3 ((cs.drop 3).take (Try.prog.cellsOf 3)) = xs[1]? := hx 1 _ rfl
  have h2 : DataW.trod enc Try.prog w base spare held n 2 ((cs.drop 4).take (Try.prog.cellsOf 2)) = xs[2]? := hx 2 _ rfl
  have c0 : Try.prog.cellsOf 35 = 3 := by kernel_rfl
  have c1 : Try.prog.cellsOf 3 = 1 := by kernel_rfl
  have c2 : Try.prog.cellsOf 2 = 1 := by kernel_rfl
  have c5 : Try.prog.cellsOf 37 = 5 := by kernel_rfl
  rw [c5] at hl
  have hn3 : xs.length = 3 := hlen
  rw [c0] at h0
  rw [c1] at h1
  rw [c2] at h2
  match cs, hl with
  | [v0, v1, v2, v3, v4], _ =>
    match xs, hn3 with
    | [x0, x1, x2], _ =>
      have k0 := key_cells (x := x0) h0
      obtain ⟨z3, e3, _, w3⟩ := DataW.trod_int (x := x1) Try.underlying3 h1
      obtain ⟨z4, e4, _, w4⟩ := DataW.trod_int (x := x2) Try.underlying2 h2
      obtain ⟨_, hz⟩ := k0
      obtain ⟨z0, e0, w0⟩ := hz 0 .i64 rfl
      obtain ⟨z1, e1, w1⟩ := hz 1 .i64 rfl
      obtain ⟨z2, e2, w2⟩ := hz 2 .i64 rfl
      have b0 := bounds_i64 w0
      have b1 := bounds_i64 w1
      have b2 := bounds_i64 w2
      have b3 := bounds_i64 w3
      have b4 := bounds_i64 w4
      simp at e0 e1 e2 e3 e4
      subst e0 e1 e2 e3 e4
      exact ⟨⟨z0, z1, z2, z3, z4⟩, rfl, ⟨b0.1, b0.2, b1.1, b1.2, b2.1, b2.2, b3.1, b3.2, b4.1, b4.2⟩⟩
set_option maxRecDepth 100000 in
theorem evs_cells {fuel : Nat} {cs : List Value} {x : DataW H × List MemPlace} (h : DataW.trod enc Try.prog w base spare held fuel 24 cs = some x) : ∃ A n c l, cs = [.slice A n c] ∧ EvArg w A n c l := by
  obtain ⟨A, n, c, l, h1, h2, h3, h4, h5⟩ := cells_slice (f := evC) (OK := EvOk) (s := 5) Try.underlying24 (by kernel_rfl) (by decide) evC_len ev_cells h
  exact ⟨A, n, c, l, h1, h2, h3, h4, h5⟩
set_option maxRecDepth 100000 in
theorem open_t24 {v : Value} {d : DataW H} {p : List MemPlace} (hv : Value.okWide Try.prog w r b0 24 v) (h : DataW.Trod enc Try.prog w base spare held 24 v d p) :
    ∃ A n c l, v = .slice A n c ∧ EvArg w A n c l := by
  obtain ⟨A, n, c, l, h1, h2, h3, h4, h5⟩ := open_slice_of (f := evC) (OK := EvOk) (s := 5) Try.underlying24 (by kernel_rfl) (by decide) evC_len ev_cells hv h
  exact ⟨A, n, c, l, h1, h2, h3, h4, h5⟩
set_option maxRecDepth 100000 in
theorem open_t31 {v : Value} {d : DataW H} {p : List MemPlace} (hv : Value.okWide Try.prog w r b0 31 v) (h : DataW.Trod enc Try.prog w base spare held 31 v d p) :
    ∃ (A : Option Addr) (n c : Nat) (z : List (Sl × List Ev)), v = .slice A n c ∧ EeArg w A n c (z.map Prod.fst) (z.map Prod.snd) := by
  obtain ⟨A, n, c, zs, h1, h2, h3, h4, h5⟩ := open_slice_of (f := fun z : Sl × List Ev => [slv z.1]) (OK := fun z => EvArg w z.1.A z.1.n z.1.c z.2) (s := 1) Try.underlying31 (by kernel_rfl) (by decide) (fun _ => rfl) (fun h => by
    obtain ⟨A, n, c, l, rfl, ha⟩ := evs_cells h
    exact ⟨(⟨A, n, c⟩, l), rfl, ha⟩) hv h
  refine ⟨A, n, c, zs, h1, ⟨h2.rd1, ⟨by simp, fun i s hs => ?_⟩, fun l hl x hx => ?_, h4, h5⟩⟩
  · rw [List.getElem?_map] at hs ⊢
    obtain ⟨z, hz, rfl⟩ := Option.map_eq_some_iff.1 hs
    rw [hz]
    have := h3 z (List.mem_of_getElem? hz)
    exact ⟨this.le, _, rfl, this.rd⟩
  · obtain ⟨z, hz, rfl⟩ := List.mem_map.1 hl
    exact (h3 z hz).ok x hx
end
end Go.Proofs.Ytkeapijehfacfaa
