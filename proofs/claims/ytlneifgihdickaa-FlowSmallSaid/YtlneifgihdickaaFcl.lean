/- Fcl: slices.AppendSeq and slices.Collect at integers; right; Next. -/
import Derived.Test.YtlneifgihdickaaFed
import Derived.Test.YtlneifgihdickaaInsP
namespace Go.Proofs.Ytlneifgihdickaa
open Go.RowKit Go.Fx
attribute [local go_sem] Oper.semAt_some
def intv (k : Nat) : Value := .int .i64 (k : Int)
def intC (k : Nat) : List Value := [intv k]
theorem intC_len (k : Nat) : (intC k).length = 1 := rfl
theorem intC_one (k : Nat) : ∀ u ∈ intC k, u.oneCell' = true := fun u hu => by
  obtain rfl : u = intv k := by simpa [intC] using hu
  rfl
theorem intC_map (xs : List Nat) : xs.flatMap intC = xs.map intv := flat_one intv xs
theorem ul_in : Try.prog.underlying 26 = some (.slice 3) := by kernel_rfl
theorem info_in : (Try.prog.info? 3).map (fun i => (i.zero, i.size, i.bytes)) = some (some (.int .i64 0), 1, 8) := by kernel_rfl
theorem heap_put' {w : World} {l g : Nat} {o : Obj} (hne : g ≠ l) : (w.putObj l o).heap[g]? = w.heap[g]? := World.putObj_heap_other hne
theorem rdS_one {α : Type} {f : α → List Value} {s : Nat} (_hf : ∀ x, (f x).length = s) (w : World) (t : TypeId) (q : α) {cs : Array Value} (hcs : cs = (f q).toArray) : RdS s f (w.alloc (.cells cs t)) (some ⟨w.heap.size, 0, none⟩) 1 [q] := by
  subst hcs
  have hb := Blk.new w t (f q).toArray
  refine ⟨rfl, fun _ => ⟨_, 0, rfl, hb.lt, fun i x hx j u hu => ?_⟩⟩
  have hi := (List.getElem?_eq_some_iff.1 hx).1
  obtain rfl : i = 0 := by simp at hi; exact hi
  simp at hx
  subst hx
  rw [Nat.zero_mul, Nat.zero_add]
  exact (hb.cell j).trans (by rw [List.getElem?_toArray]; exact hu)
/-- What AppendSeq, Collect leave. -/
def ColI (xs : List Nat) (w : World) (e : Ending) (w' : World) : Prop :=
  ∃ A c, e = .returned (.slice A xs.length c) ∧ Room w' A xs.length c (xs.map intv) ∧ (∀ k, foot A c k → w.heap.size ≤ k) ∧ Ext w w'
set_option maxRecDepth 100000 in
set_option maxHeartbeats 1000000 in
theorem appendSeqI (gf : Nat) (lb : Array Value) (xs : List Nat) (w : World) (eg : Enters Try.prog gf) (hn : xs.length ≤ 1000000) (Hd : World → Prop) (hH : ∀ W, Ext w W → Hd W) (hIt : IterI gf lb Hd xs) :
    Calls Try.prog 61 #[.slice none 0 0, .func (.func gf) #[] lb] w (ColI xs w) := by
  refine calls_of_wp_marks Try.func61 rfl ?_
  simp only [Try.ntmps61, List.size_toArray, List.length_cons, List.length_nil, Nat.reduceAdd, Nat.reduceSub, Array.replicate_succ, Array.replicate_zero, List.push_toArray, List.append_toArray, List.nil_append, List.cons_append]
  go_wp2_with fail
  have b0 := Blk.new w 26 #[.slice none 0 0]
  have hbl := Ext.alloc w (.cells #[.slice none 0 0] 26)
  generalize hW : w.alloc (.cells #[.slice none 0 0] 26) = W0 at *
  have hsz : W0.heap.size = w.heap.size + 1 := by rw [← hW]; simp
  clear hW
  refine wp_range (gf := gf) rfl eg (fun fn rec hrec => ?_)
  rw [hsz]
  refine (hIt (w.heap.size + 2) (fun o => match xs[o]? with | some x => #[.int .i64 (x : Int)] | none => #[]) (ApJ0 26 w (rec .ready none)) (ApJ 26 1 intC xs w (rec .ready none)) _ (fun o x hx => by rw [hx]) ⟨fun W W' T h e hT => h.start e hT, fun T o W W' h e => h.e e, fun T o W W' h c => h.chg c (fun _ t => t), ?hY⟩ (fun W h => hH W h.ext) (fun T o W h => hH W h.ext) ?h0).mono ?post
  case h0 =>
    clear hrec
    refine ⟨(b0.alloc _).alloc _, ?_, ?_, (hbl.t (Ext.alloc _ _)).t (Ext.alloc _ _), by simp; omega⟩
    · refine (Below.heap_alloc _ _ _ (by simp; omega)).trans ?_
      have := World.alloc_heap_new W0 (.deferred (some []))
      rwa [hsz] at this
    · have := World.alloc_heap_new (W0.alloc (.deferred (some []))) (rec .ready none)
      rwa [World.size_alloc, hsz] at this
  case hY =>
    intro T o W ho hj
    obtain ⟨x, hx⟩ : ∃ x, xs[o]? = some x := ⟨xs[o], List.getElem?_eq_getElem ho⟩
    simp only [hx]
    refine (yieldAt hrec trivial hj.loop (by rfl) (fun jump W3 => jump = none ∧ ApJ 26 1 intC xs w (rec .busy none) T (o + 1) W3 ∧ ∀ k, T k → W3.heap[k]? = W.heap[k]?) ?walk).mono ?yp
    case yp =>
      rintro e W' ⟨jump, W3, ⟨rfl, hB, hT⟩, hl, rfl, rfl⟩
      exact .inl ⟨rfl, hB.put _, fun k hk => (heap_put' (by have := (hj.own k hk).1; omega)).trans (hT k hk)⟩
    case walk =>
      clear hrec
      gi_wp2
      refine ⟨hj.loop, ?_⟩
      have hk1 := hj.put (rec .busy none)
      have HT : Hid (∀ k, T k → (W.putObj (w.heap.size + 2) (rec .busy none)).heap[k]? = W.heap[k]?) := Lib.hid (fun k hk => heap_put' (by have := (hj.own k hk).1; omega))
      clear hj
      change Code.wpIn _ _ _ _ _ _ (W.putObj (w.heap.size + 2) (rec .busy none))
      generalize W.putObj (w.heap.size + 2) (rec .busy none) = W1 at *
      obtain ⟨A, c, hout, hroom, hft⟩ := hk1.out
      have cb := hout.cell0
      have hpush := fun A2 c2 w1 w2 (e1 : Ext W1 w1) r ch ft => ApJ.push (A2 := A2) (c2 := c2) (w2 := w2) (x := x) hk1 hx hout hft e1 r ch ft
      have HPush := Lib.hid hpush
      have HOut := Lib.hid hout
      have HRoom := Lib.hid hroom
      have HK := Lib.hid hk1.loop
      have HNA : Hid (¬ foot A c w.heap.size) := Lib.hid (fun hf => by have := (hft _ hf).1; omega)
      have Hn := Lib.hid hn
      have Ho := Lib.hid ho
      clear hk1 hout hroom hft hpush hx hbl b0 hsz hIt hH hn ho
      gi_wp2_with (gi_at_builtin; refine wpListIn_append_atS _ rfl rfl ul_in info_in rfl rfl (HRoom.out.ext (Ext.alloc _ _)) rfl (Src.ofRdS ul_in intC_len (rdS_one intC_len _ _ x rfl) intC_one) (by have := Hn.out; have := Ho.out; simp only [maxLen]; omega) (by have := Hn.out; have := Ho.out; omega) ?_; intro A2 c2 w2 r2 ch2 ft2; have b2 := (HOut.out.alloc (.cells (intC x).toArray 3)).chg ch2 HNA.out; have cb2 := b2.cell0; have fb2 := b2.frozen 0)
      have hp := HPush.out A2 c2 _ _ (Ext.alloc W1 _) (by rw [show [x].flatMap intC = intC x by simp]; exact r2) ch2 ft2
      exact ⟨hp.1.loop, rfl, hp.1, fun k hk => (hp.2 k hk).trans (HT.out k hk)⟩
  case post =>
    clear hrec
    rintro e W2 ⟨⟨v, rfl⟩, ⟨T, hj⟩ | hx⟩
    · refine ⟨⟨_, rfl⟩, .ready, none, by simp, hj.loop, ?_⟩
      have hj2 := hj.put (rec .exhausted none)
      clear hj
      generalize W2.putObj (w.heap.size + 2) (rec .exhausted none) = W3 at *
      obtain ⟨A, c, hout, hroom, hft⟩ := hj2.out
      have co := hout.cell0
      have HK := Lib.hid hj2
      have HRoom := Lib.hid hroom
      have HFt := Lib.hid hft
      clear hj2 hout hroom hft hbl b0 hsz hn hIt hH
      go_wp2_with fail
      try rw [Exit.noGoto_ret]
      refine leave1 (v := .slice A xs.length c) rfl HK.out.defd ?_ ?_
      · simp [results, Try.results61, go_sem]
      · have ch := chg_put W3 (w.heap.size + 1) (.deferred none)
        have hE : Ext w W3 := HK.out.ext
        have h := HRoom.out.chg ch (fun k hk e => by have := (HFt.out k hk).1; omega)
        rw [List.take_length, intC_map] at h
        exact ⟨A, c, rfl, h.room, fun k hk => by have := (HFt.out k hk).1; omega, hE.trans (ch.below hE.size (fun k hk ht => by omega))⟩
    · exact hx.elim
theorem collectI (gf : Nat) (lb : Array Value) (xs : List Nat) (w : World) (eg : Enters Try.prog gf) (hn : xs.length ≤ 1000000) (Hd : World → Prop) (hH : ∀ W, Ext w W → Hd W) (hIt : IterI gf lb Hd xs) :
    Calls Try.prog 38 #[.func (.func gf) #[] lb] w (ColI xs w) := by
  go_enter Try.func38, Try.ntmps38
  go_wp2_with (go_at_call 61; refine (appendSeqI gf lb xs w eg hn Hd hH hIt).mono ?_; rintro e w' ⟨A, c, rfl, r, ft, ex⟩)
  go_ret
  exact ⟨A, c, rfl, r, ft, ex⟩
theorem right_ (A : Option Addr) (n c : Nat) (p : List Ins) (w : World) (h : RdS 5 insC w A n p) :
    Calls Try.prog 32 #[.slice A n c] w fun e w' => e = .returned (.int .i64 (if (checkF p).2 = 0 then 0 else 160)) ∧ Ext w w' := by
  have HC := Lib.hid (check_ A n c p w h)
  unfold CheckP at HC
  clear h
  obtain ⟨z, hz⟩ : ∃ z, z = (checkF p).2 := ⟨_, rfl⟩
  rw [← hz] at HC ⊢
  by_cases h0 : z = 0
  · subst h0
    clear hz
    go_enter Try.func32, Try.ntmps32
    go_wp2_with fail
    refine HC.out.mono ?_; rintro e w2 ⟨rfl, e2⟩
    have E2 := Lib.hid e2
    clear e2
    go_wp2_with fail
    go_ret
    exact ⟨rfl, E2.out⟩
  · have hq : ((z : Int) != 0) = true := by simp; omega
    rw [if_neg h0]
    clear hz h0
    go_enter Try.func32, Try.ntmps32
    go_wp2_with fail
    refine HC.out.mono ?_; rintro e w2 ⟨rfl, e2⟩
    have E2 := Lib.hid e2
    clear e2
    go_wp2_with fail
    go_ret
    exact ⟨rfl, E2.out⟩
/-- A list of numbers and an error; the list lies in new memory. -/
def NumsP (r : List Nat × Nat) (w : World) (e : Ending) (w' : World) : Prop :=
  ∃ A c, e = .returned (.tuple #[.slice A r.1.length c, .int .i64 (r.2 : Int)]) ∧ Room w' A r.1.length c (r.1.map intv) ∧ (∀ k, foot A c k → w.heap.size ≤ k) ∧ Ext w w'
/-- What Next tells. -/
def nextF (p : List Ins) (i : Int) : List Nat × Nat := if (checkF p).2 ≠ 0 then ([], 160) else if i < 0 ∨ (p.length : Int) ≤ i then ([], 2) else (edF p i.toNat, 0)
set_option maxRecDepth 100000 in
theorem next_ (A : Option Addr) (n c : Nat) (p : List Ins) (i : Int) (w : World) (h : RdS 5 insC w A n p) :
    Calls Try.prog 14 #[.slice A n c, .int .i64 i] w (NumsP (nextF p i) w) := by
  have HR := Lib.hid (right_ A n c p w h)
  have hl := h.1
  by_cases h0 : (checkF p).2 = 0
  · rw [if_pos h0] at HR
    by_cases h1 : i < 0
    · rw [show nextF p i = ([], 2) by unfold nextF; rw [if_neg (by simpa using h0), if_pos (.inl h1)]]
      clear h h0
      go_enter Try.func14, Try.ntmps14
      go_wp2_with fail
      refine HR.out.mono ?_; rintro e w2 ⟨rfl, e2⟩
      have E2 := Lib.hid e2
      clear e2
      go_wp2_with fail
      go_ret2
      exact ⟨none, 0, rfl, Room.nil, fun k hk => absurd hk foot_none, E2.out⟩
    · by_cases h2 : (n : Int) ≤ i
      · rw [show nextF p i = ([], 2) by unfold nextF; rw [if_neg (by simpa using h0), if_pos (.inr (by omega))]]
        clear h h0
        go_enter Try.func14, Try.ntmps14
        go_wp2_with fail
        refine HR.out.mono ?_; rintro e w2 ⟨rfl, e2⟩
        have E2 := Lib.hid e2
        clear e2
        go_wp2_with fail
        go_ret2
        exact ⟨none, 0, rfl, Room.nil, fun k hk => absurd hk foot_none, E2.out⟩
      · obtain ⟨k, rfl⟩ : ∃ k : Nat, i = (k : Int) := ⟨i.toNat, by omega⟩
        have hk : k < n := by omega
        have hkI : (k : Int) < (n : Int) := by omega
        have hn := (rightP_iff.1 h0).max
        rw [show nextF p (k : Int) = (edF p k, 0) by unfold nextF; rw [if_neg (by simpa using h0), if_neg (by omega), Int.toNat_natCast]]
        have H := Lib.hid h
        have Hlen := Lib.hid (edF_len p k)
        clear h h0
        go_enter Try.func14, Try.ntmps14
        go_wp2_with fail
        refine HR.out.mono ?_; rintro e w2 ⟨rfl, e2⟩
        have E2 := Lib.hid e2
        clear e2
        go_wp2_with fail
        refine (edges_ A n c k p w2 (H.out.ext E2.out)).mono ?_; rintro e w3 ⟨b1, b2, rfl, e3, hit, _, _⟩
        have E3 := Lib.hid (E2.out.t e3)
        have HI := Lib.hid hit
        clear e3 hit
        go_wp2_with fail
        refine (collectI _ _ (edF p k) w3 (enters_of Try.func60 (by kernel_rfl) rfl) (by have := Hlen.out; omega) (EdH p A n c k b1 b2) (fun W e => HI.out.ext e) (edges1 b1 b2 A n c k p hk (by omega))).mono ?_; rintro e w4 ⟨A4, c4, rfl, r4, f4, e4⟩
        have HF := Lib.hid (show Room w4 A4 (edF p k).length c4 ((edF p k).map intv) ∧ (∀ j, foot A4 c4 j → w.heap.size ≤ j) ∧ Ext w w4 from ⟨r4, fun j hj => Nat.le_trans E3.out.size (f4 j hj), E3.out.t e4⟩)
        clear r4 f4 e4 HI
        generalize edF p k = L at *
        go_wp2_with fail
        go_ret2
        exact ⟨A4, c4, rfl, HF.out⟩
  · rw [if_neg h0] at HR
    rw [show nextF p i = ([], 160) by unfold nextF; rw [if_pos (by simpa using h0)]]
    clear h h0
    go_enter Try.func14, Try.ntmps14
    go_wp2_with fail
    refine HR.out.mono ?_; rintro e w2 ⟨rfl, e2⟩
    have E2 := Lib.hid e2
    clear e2
    go_wp2_with fail
    go_ret2
    exact ⟨none, 0, rfl, Room.nil, fun k hk => absurd hk foot_none, E2.out⟩
end Go.Proofs.Ytlneifgihdickaa
