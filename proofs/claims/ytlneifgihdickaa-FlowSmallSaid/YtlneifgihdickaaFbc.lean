/- Fap: what the examples of chapter 16 answer, in plain Lean. No program in sight. Fsl: slices.Index, Contains, Equal at numbers and at truth values; slices.IsSorted at numbers. Fbc: lists of blocks that are read; the law's comparing of blocks. -/
import Derived.Test.YtlneifgihdickaaFen
import Derived.Test.YtlneifgihdickaaFbx
import Derived.BigQuiet
namespace Go.Fx
open Go.Proofs Go.Proofs.Ytlneifgihdickaa
/-- A check of distances. -/
def isDB (p : List Ins) (n b : Nat) (d : List Int) : Bool :=
  decide (d.length = n) && decide (d[b]? = some 0) && (List.range n).all (fun v => match d[v]? with
    | some x => decide (x = -1) || decide (x = 0 ∧ v = b) || (decide (0 < x) && (List.range n).any (fun u => decide (v ∈ edF p u) && decide (d[u]? = some (x - 1))))
    | none => true) && (List.range n).all (fun u => match d[u]? with
    | some x => decide (x < 0) || (edF p u).all (fun v => match d[v]? with
      | some y => decide (0 ≤ y ∧ y ≤ x + 1)
      | none => false)
    | none => true)
theorem isDB_ok {p : List Ins} {n b : Nat} {d : List Int} (h : isDB p n b d = true) : IsD (EdP p) n b d := by
  unfold isDB at h
  simp only [Bool.and_eq_true, decide_eq_true_eq, List.all_eq_true, List.mem_range] at h
  obtain ⟨⟨⟨h1, h2⟩, h3⟩, h4⟩ := h
  refine ⟨h1, h2, fun {v x} hv => ?_, fun {u v x} hu h0 he => ?_⟩
  · have hl : v < n := by have := (List.getElem?_eq_some_iff.1 hv).1; omega
    have h5 := h3 v hl
    rw [hv] at h5
    simp only [Bool.or_eq_true, Bool.and_eq_true, decide_eq_true_eq, List.any_eq_true, List.mem_range] at h5
    rcases h5 with (h5 | h5) | ⟨h5, u, _, h6, h7⟩
    · exact .inl h5
    · exact .inr (.inl h5)
    · exact .inr (.inr ⟨h5, u, h6, h7⟩)
  · have hl : u < n := by have := (List.getElem?_eq_some_iff.1 hu).1; omega
    have h5 := h4 u hl
    rw [hu] at h5
    simp only [Bool.or_eq_true, decide_eq_true_eq, List.all_eq_true] at h5
    rcases h5 with h5 | h5
    · omega
    · have h6 := h5 v he
      cases hy : d[v]? with
      | none => rw [hy] at h6; cases h6
      | some y =>
        rw [hy] at h6
        simp only [decide_eq_true_eq] at h6
        exact ⟨y, rfl, h6.1, h6.2⟩
/-- A check of what can end: r tells how far each one is from a Halt. -/
def isEB (p : List Ins) (es : List Bool) (r : List Nat) : Bool :=
  decide (es.length = p.length) && (List.range p.length).all (fun v => match p[v]?, es[v]?, r[v]? with
    | some x, some true, some m => decide (x.op = 1) || (edF p v).any (fun u => decide (es[u]? = some true) && (match r[u]? with | some k => decide (k < m) | none => false))
    | some x, some false, _ => decide (x.op ≠ 1) && (edF p v).all (fun u => decide (es[u]? = some false))
    | _, _, _ => false)
theorem way_front {E : Nat → Nat → Prop} {v u h : Nat} (e : E v u) (hw : Way E (fun _ => True) u h) : Way E (fun _ => True) v h := by
  induction hw with
  | start _ => exact .step (.start trivial) e trivial
  | step _ e2 _ ih => exact .step ih e2 trivial
theorem isEB_ok {p : List Ins} {es : List Bool} {r : List Nat} (h : isEB p es r = true) : IsE p es := by
  unfold isEB at h
  simp only [Bool.and_eq_true, decide_eq_true_eq, List.all_eq_true, List.mem_range] at h
  obtain ⟨h1, h2⟩ := h
  have yes : ∀ (m v k : Nat), k < m → es[v]? = some true → r[v]? = some k → EnW p v := by
    intro m
    induction m with
    | zero => intro v k hk; omega
    | succ m ih =>
      intro v k hk hv hr
      have hl : v < p.length := by have := (List.getElem?_eq_some_iff.1 hv).1; omega
      obtain ⟨x, hx⟩ : ∃ x, p[v]? = some x := ⟨_, List.getElem?_eq_getElem hl⟩
      have h3 := h2 v hl
      rw [hx, hv, hr] at h3
      simp only [Bool.or_eq_true, decide_eq_true_eq, List.any_eq_true, Bool.and_eq_true] at h3
      rcases h3 with h3 | ⟨u, he, hu, h4⟩
      · exact ⟨v, x, hx, h3, .start trivial⟩
      · cases hru : r[u]? with
        | none => rw [hru] at h4; cases h4
        | some k' =>
          rw [hru] at h4
          simp only [decide_eq_true_eq] at h4
          obtain ⟨t, y, hy, h5, h6⟩ := ih u k' (by omega) hu hru
          exact ⟨t, y, hy, h5, way_front he h6⟩
  have no : ∀ v h : Nat, Way (EdP p) (fun _ => True) v h → es[v]? = some false → es[h]? = some false := by
    intro v h hw
    induction hw with
    | start _ => exact id
    | @step a b ha e _ ih =>
      intro hv
      have h3 := ih hv
      have hl : a < p.length := by have := (List.getElem?_eq_some_iff.1 h3).1; omega
      obtain ⟨x, hx⟩ : ∃ x, p[a]? = some x := ⟨_, List.getElem?_eq_getElem hl⟩
      have h4 := h2 a hl
      rw [hx, h3] at h4
      simp only [Bool.and_eq_true, decide_eq_true_eq, List.all_eq_true] at h4
      exact h4.2 b e
  refine ⟨h1, fun {v b} hv => ?_⟩
  have hl : v < p.length := by have := (List.getElem?_eq_some_iff.1 hv).1; omega
  obtain ⟨x, hx⟩ : ∃ x, p[v]? = some x := ⟨_, List.getElem?_eq_getElem hl⟩
  cases b with
  | true =>
    refine ⟨fun _ => ?_, fun _ => rfl⟩
    have h3 := h2 v hl
    rw [hx, hv] at h3
    cases hr : r[v]? with
    | none => rw [hr] at h3; cases h3
    | some k => exact yes (k + 1) v k (Nat.lt_succ_self k) hv hr
  | false =>
    refine ⟨fun h => (by cases h), fun ⟨h, y, hy, h5, h6⟩ => ?_⟩
    have h3 := no v h h6 hv
    have hlh : h < p.length := by have := (List.getElem?_eq_some_iff.1 hy).1; omega
    have h4 := h2 h hlh
    rw [hy, h3] at h4
    simp only [Bool.and_eq_true, decide_eq_true_eq] at h4
    exact absurd h5 h4.1
/-- Where control comes from one place alone, that one is the nearest dominator. -/
theorem nea_of_one {E : Nat → Nat → Prop} {v k : Nat} (h : ∀ u, E u v → u = k) (h0 : v ≠ 0) (hkv : k ≠ v) (hr : Rch E v) : Nea E v k := by
  have hk : Rch E k := by
    cases hr with
    | start _ => exact absurd rfl h0
    | step hu e _ => rw [← h _ e]; exact hu
  have hE : E k v := by
    cases hr with
    | start _ => exact absurd rfl h0
    | step hu e _ => rw [h _ e] at e; exact e
  refine ⟨hkv, ⟨hr, fun hw => ?_⟩, fun j hj => ?_⟩
  · cases hw with
    | start _ => exact h0 rfl
    | step hu e _ => exact hu.ok_last (h _ e)
  · by_cases hjv : j = v
    · exact .inl hjv
    · exact .inr ⟨hk, fun hw => hj.2 (.step hw hE (fun e => hjv e.symm))⟩
/-- A check of nearest dominators where control comes from at most one place. -/
def isNB (p : List Ins) (n : Nat) (ds ns : List Int) : Bool :=
  decide (ns.length = n) && decide (ns[0]? = some (-1)) && decide (0 < n) && (List.range n).all (fun v => decide (v = 0) || (match ds[v]?, ns[v]? with
    | some x, some y => (decide (x < 0) && decide (y = -1)) || (decide (0 ≤ x ∧ 0 ≤ y ∧ y < (n : Int) ∧ y ≠ (v : Int)) && (List.range n).all (fun u => decide (v ∉ edF p u) || decide ((u : Int) = y)))
    | _, _ => false))
theorem isNB_ok {p : List Ins} {n : Nat} {ds ns : List Int} (hp : p.length = n) (hd : IsD (EdP p) n 0 ds) (h : isNB p n ds ns = true) : IsN (EdP p) n ns := by
  unfold isNB at h
  simp only [Bool.and_eq_true, Bool.or_eq_true, decide_eq_true_eq, List.all_eq_true, List.mem_range] at h
  obtain ⟨⟨⟨h1, h2⟩, h3⟩, h4⟩ := h
  have hlt : ∀ u v, EdP p u v → u < n := fun u v he => by
    obtain ⟨x, hx, _⟩ := edF_mem.1 he
    have := (List.getElem?_eq_some_iff.1 hx).1
    omega
  have key : ∀ i, i < n → i ≠ 0 → ∃ x y, ds[i]? = some x ∧ ns[i]? = some y ∧ ((x < 0 ∧ y = -1) ∨ ((0 ≤ x ∧ 0 ≤ y ∧ y < (n : Int) ∧ y ≠ (i : Int)) ∧ ∀ u, u < n → i ∉ edF p u ∨ (u : Int) = y)) := by
    intro i hi h0
    have h5 := (h4 i hi).resolve_left h0
    cases hx : ds[i]? with
    | none => rw [hx] at h5; cases h5
    | some x =>
      cases hy : ns[i]? with
      | none => rw [hx, hy] at h5; cases h5
      | some y =>
        rw [hx, hy] at h5
        simp only [Bool.and_eq_true, Bool.or_eq_true, decide_eq_true_eq, List.all_eq_true, List.mem_range] at h5
        exact ⟨x, y, rfl, rfl, h5⟩
  refine ⟨h1, fun {i} hi h => ?_, fun {i} hi h0 hr => ?_⟩
  · by_cases h0 : i = 0
    · rw [h0]; exact h2
    · obtain ⟨x, y, hx, hy, h5⟩ := key i hi h0
      rcases h5 with h5 | h5
      · rw [hy, h5.2]
      · exact absurd ((hd.iff hx).1 h5.1.1) (h.resolve_left h0)
  · obtain ⟨x, y, hx, hy, h5⟩ := key i hi h0
    rcases h5 with h5 | ⟨⟨h5, h6, h7, h8⟩, h9⟩
    · have := (hd.iff hx).2 hr; omega
    · refine ⟨y.toNat, by omega, by rw [hy]; congr 1; omega, nea_of_one (fun u he => ?_) h0 (by omega) hr⟩
      rcases h9 u (hlt u i he) with h | h
      · exact absurd he h
      · omega
/-- The programs of the examples. -/
def p5 : List Ins := [⟨10, 0, 0, 0, 3⟩, ⟨3, 1, 0, 0, 5⟩, ⟨9, 0, 0, 0, 4⟩, ⟨1, 0, 0, 0, 0⟩, ⟨1, 0, 0, 0, 0⟩]
def p2 : List Ins := [⟨9, 0, 0, 0, 0⟩, ⟨1, 0, 0, 0, 0⟩]
theorem p5_chk : (checkF p5).2 = 0 := by decide +kernel
theorem p2_chk : (checkF p2).2 = 0 := by decide +kernel
theorem p5_right : RightP p5 := rightP_iff.1 p5_chk
theorem p2_right : RightP p2 := rightP_iff.1 p2_chk
theorem p5_d : IsD (EdP p5) 5 0 [0, 1, 2, 1, 3] := isDB_ok (by decide +kernel)
theorem p2_d : IsD (EdP p2) 2 0 [0, -1] := isDB_ok (by decide +kernel)
theorem p5_e : IsE p5 [true, true, true, true, true] := isEB_ok (r := [1, 2, 1, 0, 0]) (by decide +kernel)
theorem p2_e : IsE p2 [false, true] := isEB_ok (r := [0, 0]) (by decide +kernel)
theorem p5_n : IsN (EdP p5) 5 [-1, 0, 1, 0, 2] := isNB_ok (ds := [0, 1, 2, 1, 3]) rfl p5_d (by decide +kernel)
theorem p5_0 : nextF p5 0 = ([1, 3], 0) := by decide +kernel
theorem p5_2 : nextF p5 2 = ([4], 0) := by decide +kernel
theorem p5_b : blkN (ledF p5 5) 5 = [(0, 1), (1, 3), (3, 4), (4, 5)] := by decide +kernel
theorem p5_m : (blkN (ledF p5 5) 5).map (fun x => (edF p5 (x.2 - 1)).map (numN (ledF p5 5))) = [[1, 2], [3], [], []] := by decide +kernel
end Go.Fx
namespace Go.Fx
open Go.RowKit
theorem rd_get {α : Type} {f : α → Value} {w : World} {A : Option Addr} {n k : Nat} {xs : List α} (h : Rd f w A n xs) (hk : k < n) : ∃ b o x, A = some ⟨b, o, none⟩ ∧ xs[k]? = some x ∧ w.cell? ⟨b, o + k, none⟩ = some (f x) := by
  obtain ⟨b, o, x, h1, _, h2, h3⟩ := h.at_ hk
  exact ⟨b, o, x, h1, h2, h3⟩
theorem ne_of_getx {α : Type} {xs ys : List α} {k : Nat} {a b : α} (hx : xs[k]? = some a) (hy : ys[k]? = some b) (h : a ≠ b) : xs ≠ ys := by
  rintro rfl; rw [hx] at hy; exact h (Option.some.inj hy)
/-- Where the first such element is; -1: nowhere. -/
def idxL {α : Type} [DecidableEq α] (y : α) (l : List α) : Int := if y ∈ l then (l.idxOf y : Int) else -1
theorem idxL_hit {α : Type} [DecidableEq α] {y : α} {l : List α} {k : Nat} (hy : l[k]? = some y) (h : ∀ z ∈ l.take k, z ≠ y) : idxL y l = (k : Int) := by
  unfold idxL
  rw [if_pos (List.mem_of_getElem? hy)]
  obtain ⟨hk, e⟩ := List.getElem?_eq_some_iff.1 hy
  have h1 : l.idxOf y = k := by
    rw [← List.take_append_drop k l, List.idxOf_append]
    rw [if_neg (fun hm => h y hm rfl)]
    have : l.drop k = y :: l.drop (k + 1) := by rw [← e]; exact List.drop_eq_getElem_cons hk
    rw [this]
    simp; omega
  rw [h1]
theorem idxL_miss {α : Type} [DecidableEq α] {y : α} {l : List α} (h : ∀ z ∈ l, z ≠ y) : idxL y l = -1 := by
  unfold idxL
  rw [if_neg (fun hm => h y hm rfl)]
theorem idxL_ge {α : Type} [DecidableEq α] (y : α) (l : List α) : decide (idxL y l ≥ 0) = decide (y ∈ l) := by
  unfold idxL
  by_cases h : y ∈ l
  · rw [if_pos h, decide_eq_true h, decide_eq_true (by omega)]
  · rw [if_neg h, decide_eq_false h]; rfl
end Go.Fx
namespace Go.Proofs.Ytlneifgihdickaa
open Go.RowKit Go.Fx
set_option maxRecDepth 100000 in
set_option maxHeartbeats 1000000 in
theorem equalZ (A1 A2 : Option Addr) (n1 n2 c1 c2 : Nat) (xs ys : List Int) (w : World) (h1 : Rd intz w A1 n1 xs) (h2 : Rd intz w A2 n2 ys) (hm : n1 ≤ 1000000000) :
    Calls Try.prog 27 #[.slice A1 n1 c1, .slice A2 n2 c2] w fun e w' => e = .returned (.bool (decide (xs = ys))) ∧ Ext w w' := by
  have hl1 := h1.1
  have hl2 := h2.1
  by_cases hn : n1 = n2
  · subst hn
    have hne : ((n1 : Int) != (n1 : Int)) = false := by simp
    have H1 := Lib.hid h1
    have H2 := Lib.hid h2
    clear h1 h2
    go_enter Try.func27, Try.ntmps27
    go_wp2_with fail
    go_loopw [13] (fun i wr => ∃ k : Nat, k ≤ n1 ∧ i = .int .i64 (k : Int) ∧ Hid (xs.take k = ys.take k) ∧ ∃ q, wr = w.drewN q) (fun i _ => n1 - (intOf i).toNat)
    case atStart => exact ⟨0, by omega, rfl, Lib.hid (by simp), 0, rfl⟩
    case round =>
      obtain ⟨k, hk, rfl, H, q, rfl⟩ := hrel
      by_cases hlt : k < n1
      · obtain ⟨b1, o1, x, rfl, hx, c0⟩ := rd_get H1.out hlt
        obtain ⟨b2, o2, y, rfl, hy, d0⟩ := rd_get H2.out hlt
        have hli : (k : Int) < (n1 : Int) := by omega
        have Hx := Lib.hid hx
        have Hy := Lib.hid hy
        unfold intz at c0 d0
        clear hx hy
        by_cases hxy : x = y
        · subst hxy
          have hbe : (x != x) = false := by simp
          go_wp2_with fail
          go_quiet (fail)
          go_wp2_with fail
          go_roundw
          case rel => exact ⟨k + 1, by omega, by go_num, Lib.hid (by rw [take_snoc Hx.out, take_snoc Hy.out, H.out]), _, rfl⟩
          case measure => simp [intOf]; omega
        · have hbe : (x != y) = true := by simp [hxy]
          have hbe2 : (!(x == y)) = true := by simp [hxy]
          have hbe3 : (x == y) = false := by simp [hxy]
          go_wp2_with fail
          go_quiet (fail)
          go_wp2_with fail
          go_ret
          exact ⟨ret_bool (by symm; simpa using ne_of_getx Hx.out Hy.out hxy), (Ext.drewN _ _).t (by first | exact Ext.drewN _ _ | exact Ext.drew _)⟩
      · obtain rfl : k = n1 := by omega
        go_wp2_with fail
        go_ret
        refine ⟨ret_bool ?_, Ext.drewN _ _⟩
        have := H.out
        rw [List.take_of_length_le (by omega), List.take_of_length_le (by omega)] at this
        simpa using this
  · have hne : ((n1 : Int) != (n2 : Int)) = true := by simp; omega
    clear h1 h2
    go_enter Try.func27, Try.ntmps27
    go_wp2_with fail
    go_ret
    refine ⟨ret_bool ?_, Ext.refl _⟩
    symm
    simp only [decide_eq_false_iff_not]
    rintro rfl
    omega
set_option maxRecDepth 100000 in
set_option maxHeartbeats 1000000 in
theorem equalB (A1 A2 : Option Addr) (n1 n2 c1 c2 : Nat) (xs ys : List Bool) (w : World) (h1 : Rd boolv w A1 n1 xs) (h2 : Rd boolv w A2 n2 ys) (hm : n1 ≤ 1000000000) :
    Calls Try.prog 30 #[.slice A1 n1 c1, .slice A2 n2 c2] w fun e w' => e = .returned (.bool (decide (xs = ys))) ∧ Ext w w' := by
  have hl1 := h1.1
  have hl2 := h2.1
  by_cases hn : n1 = n2
  · subst hn
    have hne : ((n1 : Int) != (n1 : Int)) = false := by simp
    have H1 := Lib.hid h1
    have H2 := Lib.hid h2
    clear h1 h2
    go_enter Try.func30, Try.ntmps30
    go_wp2_with fail
    go_loopw [13] (fun i wr => ∃ k : Nat, k ≤ n1 ∧ i = .int .i64 (k : Int) ∧ Hid (xs.take k = ys.take k) ∧ ∃ q, wr = w.drewN q) (fun i _ => n1 - (intOf i).toNat)
    case atStart => exact ⟨0, by omega, rfl, Lib.hid (by simp), 0, rfl⟩
    case round =>
      obtain ⟨k, hk, rfl, H, q, rfl⟩ := hrel
      by_cases hlt : k < n1
      · obtain ⟨b1, o1, x, rfl, hx, c0⟩ := rd_get H1.out hlt
        obtain ⟨b2, o2, y, rfl, hy, d0⟩ := rd_get H2.out hlt
        have hli : (k : Int) < (n1 : Int) := by omega
        have Hx := Lib.hid hx
        have Hy := Lib.hid hy
        unfold boolv at c0 d0
        clear hx hy
        by_cases hxy : x = y
        · subst hxy
          have hbe : (x != x) = false := by simp
          go_wp2_with fail
          go_quiet (fail)
          go_wp2_with fail
          go_roundw
          case rel => exact ⟨k + 1, by omega, by go_num, Lib.hid (by rw [take_snoc Hx.out, take_snoc Hy.out, H.out]), _, rfl⟩
          case measure => simp [intOf]; omega
        · have hbe : (x != y) = true := by simp [hxy]
          have hbe2 : (!(x == y)) = true := by simp [hxy]
          have hbe3 : (x == y) = false := by simp [hxy]
          go_wp2_with fail
          go_quiet (fail)
          go_wp2_with fail
          go_ret
          exact ⟨ret_bool (by symm; simpa using ne_of_getx Hx.out Hy.out hxy), (Ext.drewN _ _).t (by first | exact Ext.drewN _ _ | exact Ext.drew _)⟩
      · obtain rfl : k = n1 := by omega
        go_wp2_with fail
        go_ret
        refine ⟨ret_bool ?_, Ext.drewN _ _⟩
        have := H.out
        rw [List.take_of_length_le (by omega), List.take_of_length_le (by omega)] at this
        simpa using this
  · have hne : ((n1 : Int) != (n2 : Int)) = true := by simp; omega
    clear h1 h2
    go_enter Try.func30, Try.ntmps30
    go_wp2_with fail
    go_ret
    refine ⟨ret_bool ?_, Ext.refl _⟩
    symm
    simp only [decide_eq_false_iff_not]
    rintro rfl
    omega
set_option maxRecDepth 100000 in
set_option maxHeartbeats 1000000 in
theorem indexZ (A : Option Addr) (n c : Nat) (l : List Int) (y : Int) (w : World) (h : Rd intz w A n l) (hm : n ≤ 1000000000) :
    Calls Try.prog 40 #[.slice A n c, intz y] w fun e w' => e = .returned (.int .i64 (idxL y l)) ∧ Ext w w' := by
  have H := Lib.hid h
  have Hl := Lib.hid h.1
  clear h
  unfold intz
  go_enter Try.func40, Try.ntmps40
  go_wp2_with fail
  go_loopw [8] (fun i wr => ∃ k : Nat, k ≤ n ∧ i = .int .i64 (k : Int) ∧ Hid (∀ z ∈ l.take k, z ≠ y) ∧ ∃ q, wr = w.drewN q) (fun i _ => n - (intOf i).toNat)
  case atStart => exact ⟨0, by omega, rfl, Lib.hid (by simp), 0, rfl⟩
  case round =>
    obtain ⟨k, hk, rfl, HJ, q, rfl⟩ := hrel
    by_cases hlt : k < n
    · obtain ⟨b, o, x, rfl, hx, c0⟩ := rd_get H.out hlt
      have hltI : (k : Int) < (n : Int) := by omega
      have Hx := Lib.hid hx
      unfold intz at c0
      clear hx
      by_cases hyx : y = x
      · subst hyx
        have hbe : (y == y) = true := by simp
        have HV := Lib.hid (idxL_hit Hx.out HJ.out)
        clear HJ
        go_wp2_with fail
        go_ret
        exact ⟨ret_int HV.out.symm, Ext.drewN _ _⟩
      · have hbe : (y == x) = false := by simp [hyx]
        have HJ2 : Hid (∀ z ∈ l.take (k + 1), z ≠ y) := Lib.hid (fun z hz => by
          rw [take_snoc Hx.out] at hz
          rcases List.mem_append.1 hz with h1 | h1
          · exact HJ.out z h1
          · obtain rfl := List.mem_singleton.1 h1
            exact fun e => hyx e.symm)
        clear HJ
        go_wp2_with fail
        go_roundw
        case rel => exact ⟨k + 1, by omega, by go_num, HJ2, _, rfl⟩
        case measure => simp [intOf]; omega
    · obtain rfl : n = k := by omega
      have HV := Lib.hid (idxL_miss (y := y) (l := l) (fun z hz => HJ.out z (by rw [List.take_of_length_le (by have := Hl.out; omega)]; exact hz)))
      clear HJ
      go_wp2_with fail
      go_ret
      exact ⟨ret_int HV.out.symm, Ext.drewN _ _⟩
theorem containsZ (A : Option Addr) (n c : Nat) (l : List Int) (y : Int) (w : World) (h : Rd intz w A n l) (hm : n ≤ 1000000000) :
    Calls Try.prog 18 #[.slice A n c, intz y] w fun e w' => e = .returned (.bool (decide (y ∈ l))) ∧ Ext w w' := by
  have HI := Lib.hid (indexZ A n c l y w h hm)
  rw [← idxL_ge]
  generalize idxL y l = z at *
  clear h
  unfold intz at HI ⊢
  go_enter Try.func18, Try.ntmps18
  go_wp2_with fail
  refine HI.out.mono ?_; rintro e w2 ⟨rfl, e2⟩
  go_wp2_with fail
  go_ret
  exact ⟨by simp, e2⟩
set_option maxRecDepth 100000 in
set_option maxHeartbeats 1000000 in
theorem indexB (A : Option Addr) (n c : Nat) (l : List Bool) (y : Bool) (w : World) (h : Rd boolv w A n l) (hm : n ≤ 1000000000) :
    Calls Try.prog 54 #[.slice A n c, boolv y] w fun e w' => e = .returned (.int .i64 (idxL y l)) ∧ Ext w w' := by
  have H := Lib.hid h
  have Hl := Lib.hid h.1
  clear h
  unfold boolv
  go_enter Try.func54, Try.ntmps54
  go_wp2_with fail
  go_loopw [8] (fun i wr => ∃ k : Nat, k ≤ n ∧ i = .int .i64 (k : Int) ∧ Hid (∀ z ∈ l.take k, z ≠ y) ∧ ∃ q, wr = w.drewN q) (fun i _ => n - (intOf i).toNat)
  case atStart => exact ⟨0, by omega, rfl, Lib.hid (by simp), 0, rfl⟩
  case round =>
    obtain ⟨k, hk, rfl, HJ, q, rfl⟩ := hrel
    by_cases hlt : k < n
    · obtain ⟨b, o, x, rfl, hx, c0⟩ := rd_get H.out hlt
      have hltI : (k : Int) < (n : Int) := by omega
      have Hx := Lib.hid hx
      unfold boolv at c0
      clear hx
      by_cases hyx : y = x
      · subst hyx
        have hbe : (y == y) = true := by simp
        have HV := Lib.hid (idxL_hit Hx.out HJ.out)
        clear HJ
        go_wp2_with fail
        go_ret
        exact ⟨ret_int HV.out.symm, Ext.drewN _ _⟩
      · have hbe : (y == x) = false := by simp [hyx]
        have HJ2 : Hid (∀ z ∈ l.take (k + 1), z ≠ y) := Lib.hid (fun z hz => by
          rw [take_snoc Hx.out] at hz
          rcases List.mem_append.1 hz with h1 | h1
          · exact HJ.out z h1
          · obtain rfl := List.mem_singleton.1 h1
            exact fun e => hyx e.symm)
        clear HJ
        go_wp2_with fail
        go_roundw
        case rel => exact ⟨k + 1, by omega, by go_num, HJ2, _, rfl⟩
        case measure => simp [intOf]; omega
    · obtain rfl : n = k := by omega
      have HV := Lib.hid (idxL_miss (y := y) (l := l) (fun z hz => HJ.out z (by rw [List.take_of_length_le (by have := Hl.out; omega)]; exact hz)))
      clear HJ
      go_wp2_with fail
      go_ret
      exact ⟨ret_int HV.out.symm, Ext.drewN _ _⟩
theorem containsB (A : Option Addr) (n c : Nat) (l : List Bool) (y : Bool) (w : World) (h : Rd boolv w A n l) (hm : n ≤ 1000000000) :
    Calls Try.prog 28 #[.slice A n c, boolv y] w fun e w' => e = .returned (.bool (decide (y ∈ l))) ∧ Ext w w' := by
  have HI := Lib.hid (indexB A n c l y w h hm)
  rw [← idxL_ge]
  generalize idxL y l = z at *
  clear h
  unfold boolv at HI ⊢
  go_enter Try.func28, Try.ntmps28
  go_wp2_with fail
  refine HI.out.mono ?_; rintro e w2 ⟨rfl, e2⟩
  go_wp2_with fail
  go_ret
  exact ⟨by simp, e2⟩
end Go.Proofs.Ytlneifgihdickaa
namespace Go.Fx
open Go.RowKit
abbrev Bk := (Nat × Nat) × List Nat
end Go.Fx
namespace Go.Proofs.Ytlneifgihdickaa
open Go.RowKit Go.Fx
theorem map_z (xs : List Nat) : (xs.map fun k : Nat => (k : Int)).map intz = xs.map intv := by rw [List.map_map]; rfl
theorem Rd.z {w : World} {A : Option Addr} {n : Nat} {xs : List Nat} (h : Rd intv w A n xs) : Rd intz w A n (xs.map fun k : Nat => (k : Int)) := by
  unfold Rd at h ⊢
  rw [List.length_map]
  refine ⟨h.1, fun hn => ?_⟩
  obtain ⟨b, o, h1, h2, h3⟩ := h.2 hn
  refine ⟨b, o, h1, h2, fun k x hx => ?_⟩
  rw [List.getElem?_map] at hx
  cases hy : xs[k]? with
  | none => rw [hy] at hx; cases hx
  | some y =>
    rw [hy] at hx
    obtain rfl := Option.some.inj hx
    exact h3 k y hy
theorem z_inj (xs ys : List Nat) : decide ((xs.map fun k : Nat => (k : Int)) = ys.map fun k : Nat => (k : Int)) = decide (xs = ys) := by
  rw [Bool.eq_iff_iff, decide_eq_true_iff, decide_eq_true_iff]
  constructor
  · intro h
    have h2 := congrArg (List.map Int.toNat) h
    simpa [List.map_map, Function.comp_def] using h2
  · intro h; rw [h]
theorem equalN (A1 A2 : Option Addr) (n1 n2 c1 c2 : Nat) (xs ys : List Nat) (w : World) (h1 : Rd intv w A1 n1 xs) (h2 : Rd intv w A2 n2 ys) (hm : n1 ≤ 1000000000) :
    Calls Try.prog 27 #[.slice A1 n1 c1, .slice A2 n2 c2] w fun e w' => e = .returned (.bool (decide (xs = ys))) ∧ Ext w w' := by
  rw [← z_inj]
  exact equalZ A1 A2 n1 n2 c1 c2 _ _ w (Rd.z h1) (Rd.z h2) hm
theorem z_mem (y : Nat) (l : List Nat) : decide ((y : Int) ∈ l.map fun k : Nat => (k : Int)) = decide (y ∈ l) := by
  rw [Bool.eq_iff_iff, decide_eq_true_iff, decide_eq_true_iff, List.mem_map]
  exact ⟨fun ⟨x, hx, e⟩ => by rw [show y = x by omega]; exact hx, fun h => ⟨y, h, rfl⟩⟩
theorem containsN (A : Option Addr) (n c : Nat) (l : List Nat) (y : Nat) (w : World) (h : Rd intv w A n l) (hm : n ≤ 1000000000) :
    Calls Try.prog 18 #[.slice A n c, .int .i64 (y : Int)] w fun e w' => e = .returned (.bool (decide (y ∈ l))) ∧ Ext w w' := by
  rw [← z_mem]
  exact containsZ A n c _ (y : Int) w (Rd.z h) hm
/-- A list of blocks that is read. -/
def BlsR (w : World) (A : Option Addr) (n : Nat) (bs : List Bk) : Prop :=
  bs.length = n ∧ (0 < n → ∃ b o, A = some ⟨b, o, none⟩ ∧ b < w.heap.size ∧ ∀ (i : Nat) (x : Bk), bs[i]? = some x → ∃ s : Sl, w.cell? ⟨b, o + i * 3, none⟩ = some (.int .i64 (x.1.1 : Int)) ∧ w.cell? ⟨b, o + i * 3 + 1, none⟩ = some (.int .i64 (x.1.2 : Int)) ∧ w.cell? ⟨b, o + i * 3 + 2, none⟩ = some (.slice s.A s.n s.c) ∧ Rd intv w s.A s.n x.2 ∧ s.n ≤ 1000000000)
theorem BlsR.ext {w w' : World} {A : Option Addr} {n : Nat} {bs : List Bk} (h : BlsR w A n bs) (e : Ext w w') : BlsR w' A n bs := by
  refine ⟨h.1, fun hn => ?_⟩
  obtain ⟨b, o, h1, h2, h3⟩ := h.2 hn
  refine ⟨b, o, h1, Nat.lt_of_lt_of_le h2 e.size, fun i x hx => ?_⟩
  obtain ⟨s, q1, q2, q3, q4, q5⟩ := h3 i x hx
  exact ⟨s, (e.cell (p := ⟨b, o + i * 3, none⟩) h2).trans q1, (e.cell (p := ⟨b, o + i * 3 + 1, none⟩) h2).trans q2, (e.cell (p := ⟨b, o + i * 3 + 2, none⟩) h2).trans q3, q4.ext e, q5⟩
theorem BlsR.get {w : World} {A : Option Addr} {n k : Nat} {bs : List Bk} (h : BlsR w A n bs) (hk : k < n) : ∃ b o x s, A = some ⟨b, o, none⟩ ∧ b < w.heap.size ∧ bs[k]? = some x ∧ w.cell? ⟨b, o + k * 3, none⟩ = some (.int .i64 (x.1.1 : Int)) ∧ w.cell? ⟨b, o + k * 3 + 1, none⟩ = some (.int .i64 (x.1.2 : Int)) ∧ w.cell? ⟨b, o + k * 3 + 2, none⟩ = some (.slice (Sl.A s) (Sl.n s) (Sl.c s)) ∧ Rd intv w (Sl.A s) (Sl.n s) x.2 ∧ Sl.n s ≤ 1000000000 := by
  obtain ⟨b, o, h1, h2, h3⟩ := h.2 (by omega)
  obtain ⟨x, hx⟩ : ∃ x, bs[k]? = some x := ⟨bs[k]'(by rw [h.1]; exact hk), List.getElem?_eq_getElem _⟩
  obtain ⟨s, q⟩ := h3 k x hx
  exact ⟨b, o, x, s, h1, h2, hx, q⟩
theorem Lsb.bls {B : Nat} {w : World} {A : Option Addr} {n c : Nat} {fs : List (Nat × Nat)} {ss : List Sl} {ls : List (List Nat)} (h : Lsb B w A n c fs ss ls) (hs0 : ∀ l ∈ ls, l.length ≤ 1000000000) : BlsR w A n (fs.zip ls) := by
  have hr := h.room.rd blC_len (by decide)
  refine ⟨by rw [List.length_zip, h.fl, h.len, Nat.min_self], fun hn => ?_⟩
  obtain ⟨b, o, hA, hb, h3⟩ := hr.2 hn
  refine ⟨b, o, hA, hb, fun i x hx => ?_⟩
  rw [List.getElem?_zip_eq_some] at hx
  have hi : i < n := by have := (List.getElem?_eq_some_iff.1 hx.1).1; rw [h.fl] at this; exact this
  obtain ⟨s, hs⟩ : ∃ s, ss[i]? = some s := ⟨ss[i]'(by rw [h.sl]; exact hi), List.getElem?_eq_getElem _⟩
  obtain ⟨l, hl, hrm⟩ := h.at_ i s hs
  rw [hx.2] at hl
  obtain rfl := Option.some.inj hl
  have h4 := h3 i (x.1, s) (by rw [List.getElem?_zip_eq_some]; exact ⟨hx.1, hs⟩)
  exact ⟨s, h4 0 _ rfl, h4 1 _ rfl, h4 2 _ rfl, hrm.rd, by have h5 := hs0 _ (List.mem_of_getElem? hx.2); have h6 := hrm.1; rw [List.length_map] at h6; omega⟩
set_option maxRecDepth 100000 in
set_option maxHeartbeats 1000000 in
theorem blkEq1 (a1 a2 b1 b2 : Nat) (xs ys : List Nat) (A1 A2 : Option Addr) (n1 n2 c1 c2 : Nat) (w : World) (h1 : Rd intv w A1 n1 xs) (h2 : Rd intv w A2 n2 ys) (hm : n1 ≤ 1000000000) :
    Calls Try.prog 56 #[.agg #[.int .i64 (a1 : Int), .int .i64 (a2 : Int), .slice A1 n1 c1], .agg #[.int .i64 (b1 : Int), .int .i64 (b2 : Int), .slice A2 n2 c2]] w fun e w' => e = .returned (.bool (decide (((a1, a2), xs) = ((b1, b2), ys)))) ∧ Ext w w' := by
  obtain ⟨w0, hw0⟩ : ∃ w0, w0 = (w.alloc (.cells #[.int .i64 (a1 : Int), .int .i64 (a2 : Int), .slice A1 n1 c1] 53)).alloc (.cells #[.int .i64 (b1 : Int), .int .i64 (b2 : Int), .slice A2 n2 c2] 59) := ⟨_, rfl⟩
  have e0 : Ext w w0 := by rw [hw0]; exact (Ext.alloc _ _).t (Ext.alloc _ _)
  have HE := Lib.hid (equalN A1 A2 n1 n2 c1 c2 xs ys w0 (h1.ext e0) (h2.ext e0) hm)
  have HW := Lib.hid hw0
  have E0 := Lib.hid e0
  clear h1 h2 hw0 e0
  by_cases q1 : a1 = b1
  · subst q1
    have g1 : ((a1 : Int) == (a1 : Int)) = true := by simp
    by_cases q2 : a2 = b2
    · subst q2
      have g2 : ((a2 : Int) == (a2 : Int)) = true := by simp
      have hd : decide (((a1, a2), xs) = ((a1, a2), ys)) = decide (xs = ys) := by simp
      rw [hd]
      clear hd
      go_enter Try.func56, Try.ntmps56
      go_wp2_with fail
      rw [← HW.out]
      refine HE.out.mono ?_; rintro e w1 ⟨rfl, e1⟩
      have E1 := Lib.hid (E0.out.t e1)
      clear HW E0 HE e1
      go_wp2_with fail
      go_ret
      exact ⟨by simp, E1.out⟩
    · have g2 : ((a2 : Int) == (b2 : Int)) = false := by simp; omega
      have hd : decide (((a1, a2), xs) = ((a1, b2), ys)) = false := by simp [q2]
      rw [hd]
      clear hd HE
      go_enter Try.func56, Try.ntmps56
      go_wp2_with fail
      go_ret
      exact ⟨by simp, by have := E0.out; rw [HW.out] at this; exact this⟩
  · have g1 : ((a1 : Int) == (b1 : Int)) = false := by simp; omega
    have hd : decide (((a1, a2), xs) = ((b1, b2), ys)) = false := by simp [q1]
    rw [hd]
    clear hd HE
    go_enter Try.func56, Try.ntmps56
    go_wp2_with fail
    go_ret
    exact ⟨by simp, by have := E0.out; rw [HW.out] at this; exact this⟩
set_option maxRecDepth 100000 in
set_option maxHeartbeats 1000000 in
theorem equalBk (A1 A2 : Option Addr) (n1 n2 c1 c2 : Nat) (xs ys : List Bk) (w : World) (h1 : BlsR w A1 n1 xs) (h2 : BlsR w A2 n2 ys) (hm : n1 ≤ 1000000000) :
    Calls Try.prog 55 #[.slice A1 n1 c1, .slice A2 n2 c2, .func (.func 56) #[] #[]] w fun e w' => e = .returned (.bool (decide (xs = ys))) ∧ Ext w w' := by
  have hl1 := h1.1
  have hl2 := h2.1
  by_cases hn : n1 = n2
  · subst hn
    have hne : ((n1 : Int) != (n1 : Int)) = false := by simp
    have H1 := Lib.hid h1
    have H2 := Lib.hid h2
    clear h1 h2
    go_enter Try.func55, Try.ntmps55
    go_wp2_with fail
    go_loopw [17] (fun i wr => ∃ k : Nat, k ≤ n1 ∧ i = .int .i64 (k : Int) ∧ Hid (xs.take k = ys.take k ∧ Ext w wr)) (fun i _ => n1 - (intOf i).toNat)
    case atStart => exact ⟨0, by omega, rfl, Lib.hid ⟨by simp, Ext.refl _⟩⟩
    case round =>
      obtain ⟨k, hk, rfl, H⟩ := hrel
      by_cases hlt : k < n1
      · obtain ⟨p1, o1, x, s, rfl, lx1, hx, x0, x1, x2, rx, lx⟩ := (H1.out.ext H.out.2).get hlt
        obtain ⟨p2, o2, y, t, rfl, ly1, hy, y0, y1, y2, ry, ly⟩ := (H2.out.ext H.out.2).get hlt
        obtain ⟨⟨a1, a2⟩, xl⟩ := x
        obtain ⟨⟨b1, b2⟩, yl⟩ := y
        obtain ⟨sA, sn, sc⟩ := s
        obtain ⟨tA, tn, tc⟩ := t
        simp only at x0 x1 x2 y0 y1 y2 rx ry lx
        have hli : (k : Int) < (n1 : Int) := by omega
        obtain ⟨w0, hw0⟩ : ∃ w0, w0 = (wr.alloc (.cells #[.int .i64 (a1 : Int), .int .i64 (a2 : Int), .slice sA sn sc] 53)).alloc (.cells #[.int .i64 (b1 : Int), .int .i64 (b2 : Int), .slice tA tn tc] 59) := ⟨_, rfl⟩
        have e0 : Ext wr w0 := by rw [hw0]; exact (Ext.alloc _ _).t (Ext.alloc _ _)
        have HE := Lib.hid (blkEq1 a1 a2 b1 b2 xl yl sA tA sn tn sc tc w0 (rx.ext e0) (ry.ext e0) lx)
        have HW := Lib.hid hw0
        have E0 := Lib.hid (H.out.2.t e0)
        have Hx := Lib.hid hx
        have Hy := Lib.hid hy
        clear hx hy hw0 e0 rx ry
        by_cases hxy : ((a1, a2), xl) = ((b1, b2), yl)
        · rw [decide_eq_true hxy] at HE
          have HJ : Hid (xs.take (k + 1) = ys.take (k + 1)) := Lib.hid (by rw [take_snoc Hx.out, take_snoc Hy.out, H.out.1, hxy])
          clear hxy Hx Hy H H1 H2
          go_wp2_with fail
          rw [← HW.out]
          refine HE.out.mono ?_; rintro e w1 ⟨rfl, e1⟩
          have E1 := Lib.hid (E0.out.t e1)
          clear e1 HE HW E0
          go_wp2_with fail
          go_roundw
          case rel => exact ⟨k + 1, by omega, by go_num, Lib.hid ⟨HJ.out, E1.out⟩⟩
          case measure => simp [intOf]; omega
        · rw [decide_eq_false hxy] at HE
          have HJ : Hid (false = decide (xs = ys)) := Lib.hid (by symm; simpa using ne_of_getx Hx.out Hy.out hxy)
          clear hxy Hx Hy H H1 H2
          go_wp2_with fail
          rw [← HW.out]
          refine HE.out.mono ?_; rintro e w1 ⟨rfl, e1⟩
          have E1 := Lib.hid (E0.out.t e1)
          clear e1 HE HW E0
          go_wp2_with fail
          go_ret
          exact ⟨ret_bool HJ.out, E1.out⟩
      · obtain rfl : k = n1 := by omega
        go_wp2_with fail
        go_ret
        refine ⟨ret_bool ?_, H.out.2⟩
        have := H.out.1
        rw [List.take_of_length_le (by omega), List.take_of_length_le (by omega)] at this
        simpa using this
  · have hne : ((n1 : Int) != (n2 : Int)) = true := by simp; omega
    clear h1 h2
    go_enter Try.func55, Try.ntmps55
    go_wp2_with fail
    go_ret
    refine ⟨ret_bool ?_, Ext.refl _⟩
    symm
    simp only [decide_eq_false_iff_not]
    rintro rfl
    omega
end Go.Proofs.Ytlneifgihdickaa
