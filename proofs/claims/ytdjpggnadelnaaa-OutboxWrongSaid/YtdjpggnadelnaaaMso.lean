/- Mso: Sort. -/
import Derived.Test.YtdjpggnadelnaaaMmg
namespace Go.Fx
open Go.RowKit
def difB (l : List Ev) : Bool := (twL [] l).isSome
theorem difB_iff (l : List Ev) : difB l = true ↔ Dif l := by
  unfold difB
  constructor
  · intro h
    obtain ⟨s, hs⟩ := Option.isSome_iff_exists.1 h
    exact (twL_some hs).1
  · intro h
    obtain ⟨s, hs⟩ := twL_of (seen := []) h (by simp)
    rw [hs]; rfl
def sortF (l : List Ev) : List Ev × Nat := if difB l = true then (isort l, 0) else ([], 111)
theorem sortF_ok {l : List Ev} (h : Dif l) : sortF l = (isort l, 0) := by unfold sortF; rw [if_pos ((difB_iff l).2 h)]
theorem sortF_bad {l : List Ev} (h : ¬ Dif l) : sortF l = ([], 111) := by unfold sortF; rw [if_neg (fun e => h ((difB_iff l).1 e))]
theorem merge_runs (l : List Ev) : (mergeF ((runsF l).map (cutL l))).1 = (sortF l).1 ∧ (mergeF ((runsF l).map (cutL l))).2.2 = (sortF l).2 := by
  have hs : ∀ l' ∈ (runsF l).map (cutL l), Srt l' := by
    intro l' hl
    obtain ⟨r, hr, rfl⟩ := List.mem_map.1 hl
    exact runsF_srt l r hr
  by_cases hd : Dif l
  · rw [mergeF_ok hs (by rw [runsF_flat]; exact hd), runsF_flat, sortF_ok hd]
    exact ⟨rfl, rfl⟩
  · rw [sortF_bad hd]
    unfold mergeF
    rw [badS_of hs]
    cases h : twF [] 0 ((runsF l).map (cutL l)) with
    | none => exact absurd (by have := (twF_none h).1; rwa [runsF_flat] at this) hd
    | some i => exact ⟨rfl, rfl⟩
theorem sortF_len (l : List Ev) : (sortF l).1.length ≤ l.length := by
  unfold sortF
  split
  · rw [isort_len]; exact Nat.le_refl _
  · simp
theorem blk_new1 (w : World) (o : Obj) (t : TypeId) (cs : Array Value) : Blk ((w.alloc o).alloc (.cells cs t)) (w.heap.size + 1) t cs := by
  have := Blk.new (w.alloc o) t cs
  rwa [World.size_alloc] at this
/-- What Sort leaves. -/
def SortP (r : List Ev × Nat) (w : World) (e : Ending) (w' : World) : Prop :=
  ∃ A n c, e = .returned (.tuple #[.slice A n c, .int .i64 (r.2 : Int)]) ∧ RoomS 5 w' A n c (r.1.flatMap evC) ∧ r.1.length = n ∧ (∀ k, foot A c k → w.heap.size ≤ k) ∧ Ext w w'
end Go.Fx
namespace Go.Proofs.Ytdjpggnadelnaaa
open Go.RowKit Go.Fx
theorem ev_cut {A : Option Addr} {n c lo hi : Nat} {l1 l2 : Int} (w : World) (e1 : l1 = (lo : Int)) (e2 : l2 = (hi : Int)) (h1 : lo ≤ hi) (h2 : hi ≤ c) :
    (Instr.sliceAt 26 (.slice A n c) (some (.int .i64 l1)) (some (.int .i64 l2)) none).run Try.prog w = .ok (.slice (fromS 5 A c lo) (hi - lo) (c - lo)) w := by
  subst e1; subst e2
  have h3 : (lo : Int) ≤ (hi : Int) := by omega
  have h4 : (0 : Int) ≤ (lo : Int) := by omega
  have h5 : (hi : Int) ≤ (c : Int) := by omega
  have h6 : (0 : Int) ≤ (hi : Int) := by omega
  simp [go_sem, sliced, fromS, h3, h5]
theorem ev_to {A : Option Addr} {n c hi : Nat} {li : Int} (w : World) (e : li = (hi : Int)) (h2 : hi ≤ c) :
    (Instr.sliceAt 26 (.slice A n c) none (some (.int .i64 li)) none).run Try.prog w = .ok (.slice A hi c) w := by
  subst e
  have h4 : (hi : Int) ≤ (c : Int) := by omega
  have h5 : (0 : Int) ≤ (hi : Int) := by omega
  simp [go_sem, sliced, h4, Addr.add]
theorem RdS.cut {α : Type} {f : α → List Value} {s : Nat} {w : World} {A : Option Addr} {n c lo hi : Nat} {xs : List α} (h : RdS s f w A n xs) (h1 : lo ≤ hi) (h2 : hi ≤ n) (hc : n ≤ c) : RdS s f w (fromS s A c lo) (hi - lo) ((xs.take hi).drop lo) :=
  (h.take h2).from_ h1 (by omega)
set_option maxRecDepth 100000 in
set_option maxHeartbeats 1000000 in
theorem sort_ (A : Option Addr) (n c : Nat) (l : List Ev) (w : World) (h : RdS 5 evC w A n l) (hc : n ≤ c) (hn : n ≤ 1000000) (hok : ∀ x ∈ l, EvOk x) :
    Calls Try.prog 16 #[.slice A n c] w (SortP (sortF l) w) := by
  have H := Lib.hid h
  have Hl := Lib.hid h.1
  have Hok := Lib.hid hok
  have HR := Lib.hid (runs_ A n c l w h (by omega))
  have Hin := Lib.hid (runsF_in l)
  have Hle := Lib.hid (show (runsF l).length ≤ n by rw [← h.1]; exact runsF_le l)
  clear h hok
  go_enter Try.func16, Try.ntmps16
  go_wp2_with fail
  refine HR.out.mono ?_
  rintro e w2 ⟨A2, n2, c2, rfl, r2, hl2, -, e2⟩
  have HP := Lib.hid (RoomS.rd pairC_len (by decide) r2)
  have HE := Lib.hid e2
  have HL2 := Lib.hid hl2
  have hn2 : n2 ≤ 1000000 := by have := Hle.out; omega
  clear r2 hl2 e2 HR
  go_wp2_with fail
  go_loopw [4, 13] (fun v i wr => ∃ (k : Nat) (A' : Option Addr) (c' : Nat) (ss : List Sl), k ≤ n2 ∧ i = .int .i64 (k : Int) ∧ v = .slice A' k c' ∧ Hid (Room wr A' k c' (ss.map slv) ∧ Els w ss (((runsF l).take k).map (cutL l)) ∧ (∀ s ∈ ss, s.n ≤ n) ∧ (∀ q, foot A' c' q → w2.heap.size ≤ q) ∧ Ext w2 wr)) (fun _ i _ => n2 - (intOf i).toNat)
  case atStart => exact ⟨0, none, 0, [], by omega, rfl, rfl, Lib.hid ⟨Room.nil, by rw [List.take_zero]; exact Els.nil, by simp, fun q hq => absurd hq foot_none, Ext.refl _⟩⟩
  case round =>
    obtain ⟨k, A', c', ss, hk, rfl, rfl, HJ⟩ := hrel
    by_cases hlt : k < n2
    · obtain ⟨b, o, r, rfl, _, hr, c0, c1⟩ := rdS_pr (HP.out.ext HJ.out.2.2.2.2) hlt
      obtain ⟨lo, hi⟩ := r
      have hlh := Hin.out _ (List.mem_of_getElem? hr)
      have hltI : (k : Int) < (n2 : Int) := by omega
      have h1 : lo < hi := hlh.1
      have h2 : hi ≤ n := by have := hlh.2; have := Hl.out; simp at *; omega
      have hsl := fun w' => ev_cut (A := A) (n := n) (c := c) (lo := lo) (hi := hi) (l1 := (lo : Int)) (l2 := (hi : Int)) w' rfl rfl (by omega) (by omega)
      have Hcut := Lib.hid (RdS.cut (lo := lo) (hi := hi) (c := c) H.out (by omega) h2 hc)
      have Hr := Lib.hid hr
      have Hh := Lib.hid (show hi - lo ≤ n ∧ hi - lo ≤ c - lo by omega)
      generalize fromS 5 A c lo = fA at *
      generalize hi - lo = fn at *
      generalize c - lo = fc at *
      clear hr hlh h1 h2
      go_wp2_with (refine wpl_append_at (by rfl) rfl ul_ee info_ee rfl rfl (HJ.out.1.ext ((Ext.alloc _ _).t (Ext.alloc _ _))) rfl (Src.ofRd (f := slv) (xs := [⟨fA, fn, fc⟩]) ul_ee ((blk_new1 _ _ _ _).rd rfl rfl) (fun _ => rfl)) (by simp only [maxLen]; omega) (by omega) ?_)
      intro A3 c3 w3 r3 ch3 ft3
      have hE3 : Ext w2 w3 := (HJ.out.2.2.2.2.t ((Ext.alloc _ _).t (Ext.alloc _ _))).trans (ch3.below (Nat.le_trans HJ.out.2.2.2.2.size ((Ext.alloc _ _).t (Ext.alloc _ _)).size) (fun q hq hf => by have := HJ.out.2.2.2.1 q hf; omega))
      have hf1 : ∀ q, foot A3 c3 q → w2.heap.size ≤ q := fun q hq => (ft3 q hq).elim (HJ.out.2.2.2.1 q) (fun h => by have := HJ.out.2.2.2.2.size; omega)
      have hs1 : ∀ s ∈ ss ++ [(⟨fA, fn, fc⟩ : Sl)], s.n ≤ n := by
        intro s hs
        rcases List.mem_append.1 hs with hs | hs
        · exact HJ.out.2.2.1 s hs
        · simp at hs; subst hs; exact Hh.out.1
      have hl1 : Els w (ss ++ [(⟨fA, fn, fc⟩ : Sl)]) (((runsF l).take (k + 1)).map (cutL l)) := by
        rw [take_snoc Hr.out, List.map_append]
        exact Els.snoc (s := ⟨fA, fn, fc⟩) (l := cutL l (lo, hi)) HJ.out.2.1 Hh.out.2 Hcut.out
      have HN : Hid (Room w3 A3 (k + 1) c3 ((ss ++ [(⟨fA, fn, fc⟩ : Sl)]).map slv) ∧ Els w (ss ++ [(⟨fA, fn, fc⟩ : Sl)]) (((runsF l).take (k + 1)).map (cutL l)) ∧ (∀ s ∈ ss ++ [(⟨fA, fn, fc⟩ : Sl)], s.n ≤ n) ∧ (∀ q, foot A3 c3 q → w2.heap.size ≤ q) ∧ Ext w2 w3) :=
        Lib.hid ⟨by rw [List.map_append]; exact r3, hl1, hs1, hf1, hE3⟩
      clear hf1 hs1 hl1
      clear HJ r3 ch3 ft3 hE3 c0 c1
      refine Lib.hid ?_
      go_wp2_with fail
      go_roundw
      case rel => exact ⟨k + 1, A3, c3, _, by omega, by go_num, rfl, HN⟩
      case measure => simp [intOf]; omega
    · obtain rfl : n2 = k := by omega
      have hfull : (runsF l).take n2 = runsF l := List.take_of_length_le (by have := HL2.out; omega)
      obtain ⟨hr, he, hs, hf, hx⟩ := HJ.out
      rw [hfull] at he
      have hM := merge_ A' n2 c' ss ((runsF l).map (cutL l)) wr hr.rd (he.ext (HE.out.t hx)) hn2 (fun s h => by have := hs s h; omega) (fun l' hl' x hx => Hok.out x (by
        have : x ∈ ((runsF l).map (cutL l)).flatten := List.mem_flatten.2 ⟨l', hl', hx⟩
        rwa [runsF_flat] at this)) (by rw [runsF_flat]; have := Hl.out; omega)
      obtain ⟨hm1, hm2⟩ := merge_runs l
      have HE2 := Lib.hid (HE.out.t hx)
      unfold MergeP at hM
      rw [hm1, hm2] at hM
      generalize (mergeF ((runsF l).map (cutL l))).2.1 = mi at *
      have HM := Lib.hid hM
      clear hr he hs hf hx hm1 hm2 hM hfull HJ
      go_wp2_with fail
      refine HM.out.mono ?_
      rintro e w4 ⟨A4, n4, c4, rfl, r4, l4, f4, e4⟩
      have HF := Lib.hid (show RoomS 5 w4 A4 n4 c4 ((sortF l).1.flatMap evC) ∧ (sortF l).1.length = n4 ∧ (∀ k, foot A4 c4 k → w.heap.size ≤ k) ∧ Ext w w4 from ⟨r4, l4, fun q hq => Nat.le_trans HE2.out.size (f4 q hq), HE2.out.t e4⟩)
      clear r4 l4 f4 e4 HM
      go_wp2_with fail
      go_ret2
      exact ⟨A4, n4, c4, rfl, HF.out⟩
end Go.Proofs.Ytdjpggnadelnaaa
