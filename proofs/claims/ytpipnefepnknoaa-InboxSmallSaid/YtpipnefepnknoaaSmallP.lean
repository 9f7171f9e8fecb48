/- SmallP: the plain part of InboxSmall: scripts of acts, and many frames. -/
import Derived.Test.YtpipnefepnknoaaBuildN
import Derived.Test.YtpipnefepnknoaaTells
import Derived.Test.YtpipnefepnknoaaNone
namespace Go.Proofs.Ytpipnefepnknoaa
open Go.RowKit Go.Fx
def actv (p : ActN × Sl) : Value := .agg #[.int .u8 (p.1.1 : Int), slv p.2]
theorem actv_cells (p : ActN × Sl) : (actv p).cells.toList = [.int .u8 (p.1.1 : Int), slv p.2] := rfl
theorem actv_size (l : List (ActN × Sl)) : ∀ v ∈ l.map actv, v.cells.size = 2 := by
  intro v hv
  obtain ⟨p, _, rfl⟩ := List.mem_map.1 hv
  rfl
theorem acts_cells (l : List (ActN × Sl)) : (l.map actv).flatMap (·.cells.toList) = l.flatMap fun p => [.int .u8 (p.1.1 : Int), slv p.2] := by
  rw [List.flatMap_map]
  rfl
/-- A slice of acts that was written out. -/
theorem acts_of_row {w : World} {b o : Nat} {l : List (ActN × Sl)} (h : RowAt w b o ((l.map actv).flatMap (·.cells.toList))) (hv : ∀ p ∈ l, p.1.1 < 256 ∧ FrameV w p.2 p.1.2) : Acts w (some ⟨b, o, none⟩) l.length (l.map (·.1)) := by
  refine ⟨by simp, fun i a ha => ?_⟩
  rw [List.getElem?_map] at ha
  obtain ⟨p, hp, rfl⟩ := Option.map_eq_some_iff.1 ha
  rw [acts_cells] at h
  have hm := hv p (List.mem_of_getElem? hp)
  have h2 := flat2 (fun p : ActN × Sl => Value.int .u8 (p.1.1 : Int)) (fun p => slv p.2) l i
  exact ⟨b, o, p.2, rfl, h.1, h.2 _ _ (by rw [h2.1, hp]; rfl), by rw [Nat.add_assoc]; exact h.2 _ _ (by rw [h2.2, hp]; rfl), hm.1, hm.2⟩
theorem fv_none {w : World} : FrameV w ⟨none, 0, 0⟩ none := ⟨rfl, rfl⟩
theorem fv_some {w : World} {g o n : Nat} {xs : List Nat} (h : Rd u8v w (some ⟨g, o, none⟩) n xs) (hx : ∀ x ∈ xs, x < 256) : FrameV w ⟨some ⟨g, o, none⟩, n, n⟩ (some xs) := ⟨by simp, h, hx⟩
def al0 (ga gb gc gd : Nat) : List (ActN × Sl) := [((1, none), ⟨none, 0, 0⟩), ((2, none), ⟨none, 0, 0⟩), ((0, some [0]), ⟨some ⟨ga, 0, none⟩, 1, 1⟩), ((0, some [1, 5]), ⟨some ⟨gb, 0, none⟩, 2, 2⟩), ((0, some [2, 6, 7]), ⟨some ⟨gc, 0, none⟩, 3, 3⟩), ((1, some []), ⟨some ⟨gd, 0, none⟩, 0, 0⟩)]
theorem acts0 {w : World} {b o ga gb gc gd : Nat} (h : RowAt w b o (((al0 ga gb gc gd).map actv).flatMap (·.cells.toList))) (ra : Rd u8v w (some ⟨ga, 0, none⟩) 1 [0]) (rb : Rd u8v w (some ⟨gb, 0, none⟩) 2 [1, 5]) (rc : Rd u8v w (some ⟨gc, 0, none⟩) 3 [2, 6, 7]) (rd : Rd u8v w (some ⟨gd, 0, none⟩) 0 ([] : List Nat)) :
    ∃ al, Acts w (some ⟨b, o, none⟩) 6 al := by
  refine ⟨_, acts_of_row h ?_⟩
  intro p hp
  unfold al0 at hp
  simp only [List.mem_cons, List.not_mem_nil, or_false] at hp
  rcases hp with rfl | rfl | rfl | rfl | rfl | rfl
  · exact ⟨by decide, fv_none⟩
  · exact ⟨by decide, fv_none⟩
  · exact ⟨by simp, fv_some ra (by simp)⟩
  · exact ⟨by simp, fv_some rb (by simp)⟩
  · exact ⟨by simp, fv_some rc (by simp)⟩
  · exact ⟨by simp, fv_some rd (by simp)⟩
/-- The script: five acts that were read, and two more. -/
def al7 (p1 p2 p3 p4 p5 : ActN × Sl) (g og : Nat) : List (ActN × Sl) := [p1, p2, p3, p4, p5, ((3, some [9]), ⟨some ⟨g, og, none⟩, 1, 1⟩), ((9, none), ⟨none, 0, 0⟩)]
theorem acts7 {w : World} {b o g og : Nat} {p1 p2 p3 p4 p5 : ActN × Sl} (h : RowAt w b o (((al7 p1 p2 p3 p4 p5 g og).map actv).flatMap (·.cells.toList))) (h1 : p1.1.1 < 256 ∧ FrameV w p1.2 p1.1.2) (h2 : p2.1.1 < 256 ∧ FrameV w p2.2 p2.1.2) (h3 : p3.1.1 < 256 ∧ FrameV w p3.2 p3.1.2) (h4 : p4.1.1 < 256 ∧ FrameV w p4.2 p4.1.2) (h5 : p5.1.1 < 256 ∧ FrameV w p5.2 p5.1.2) (rg : Rd u8v w (some ⟨g, og, none⟩) 1 [9]) :
    ∃ al, Acts w (some ⟨b, o, none⟩) 7 al := by
  refine ⟨_, acts_of_row h ?_⟩
  intro p hp
  unfold al7 at hp
  simp only [List.mem_cons, List.not_mem_nil, or_false] at hp
  rcases hp with rfl | rfl | rfl | rfl | rfl | rfl | rfl
  · exact h1
  · exact h2
  · exact h3
  · exact h4
  · exact h5
  · exact ⟨by simp, fv_some rg (by simp)⟩
  · exact ⟨by decide, fv_none⟩
theorem rd9 {w : World} {b o : Nat} (h : RowAt w b o (([.int .u8 9] : List Value).flatMap (·.cells.toList))) : Rd u8v w (some ⟨b, o, none⟩) 1 [9] := by
  refine ⟨rfl, fun _ => ⟨b, o, rfl, h.1, fun i x hx => ?_⟩⟩
  have hi : i = 0 := by have := (List.getElem?_eq_some_iff.1 hx).1; simp at this; exact this
  subst hi
  have e : x = 9 := by simpa using hx.symm
  subst e
  exact h.2 0 _ rfl
/-- The state with a pending frame, and k more behind it. -/
def frs (k : Nat) : List (List Nat) := (List.range k).map fun i => [0, i % 256]
def stK (k : Nat) : St := ⟨frs k, true, [1], 1, [98], k + 1, 0, 0, 0⟩
theorem put_first : putF st0 [1] = (stK 0, []) := by rfl
theorem put_next (k : Nat) : putF (stK k) [0, k % 256] = (stK (k + 1), []) := by
  simp [putF, on, stK, frs, List.range_succ]
theorem onL_zero : ∀ (ws : List (List Nat)) (st : St) (out : List (List Nat)), (∀ f ∈ ws, needs f = 0) → st.pend = false → (onL ws st out).2 = out ++ ws ∧ (onL ws st out).1.wait = [] ∧ (onL ws st out).1.pend = false
  | [], st, out, _, hp => ⟨by simp [onL], rfl, hp⟩
  | f :: fs, st, out, h, hp => by
    rw [onL_cons, if_pos (h f (by simp))]
    have h1 := onL_zero fs (stDone st f fs) (out ++ [f]) (fun g hg => h g (by simp [hg])) rfl
    exact ⟨by rw [h1.1]; simp, h1.2⟩
theorem frs_needs (k : Nat) : ∀ f ∈ frs k, needs f = 0 := by
  intro f hf
  obtain ⟨i, _, rfl⟩ := List.mem_map.1 hf
  rfl
theorem turn_all (k : Nat) : (turnF (stK k)).2 = [1] :: frs k ∧ (turnF (stK k)).1.wait = [] ∧ (turnF (stK k)).1.pend = false := by
  have h : turnF (stK k) = onL (frs k) { turn1 (stK k) with pend := false, ans := (stK k).ans + 1 } [[1]] := by simp [turnF, stK, on, turn1]
  rw [h]
  have h1 := onL_zero (frs k) { turn1 (stK k) with pend := false, ans := (stK k).ans + 1 } [[1]] (frs_needs k) rfl
  exact ⟨by rw [h1.1]; rfl, h1.2⟩
theorem frs_at {k i : Nat} (h : i < k) : (frs k)[i]? = some [0, i % 256] := by
  unfold frs
  rw [List.getElem?_map, List.getElem?_range h]; rfl
theorem frs_len (k : Nat) : (frs k).length = k := by simp [frs]
theorem good_first : Good (stK 0) 2000 := by
  have h := put_good st0 [1] 2000 (good0 2001 (by omega)) (by simp)
  rw [put_first] at h
  exact h
theorem good_next {k N : Nat} (h : Good (stK k) (N + 1)) : Good (stK (k + 1)) N := by
  have h := put_good (stK k) [0, k % 256] N h (by simp)
  rw [put_next] at h
  exact h
theorem ul_act : Try.prog.underlying 22 = some (.slice 47) := Try.underlying22
theorem info_act : (Try.prog.info? 47).map (fun i => (i.zero, i.size, i.bytes)) = some (some (.agg #[.int .u8 0, .slice none 0 0]), 2, 32) := by kernel_rfl
theorem ul_ibs : Try.prog.underlying 53 = some (.slice 24) := Try.underlying53
theorem info_ibs : (Try.prog.info? 24).map (fun i => (i.zero, i.size, i.bytes)) = some (some (.pointer none), 1, 8) := by kernel_rfl
end Go.Proofs.Ytpipnefepnknoaa
