/- Asq: slices.AppendSeq and slices.Collect, at fields of keys and at events. -/
import Derived.Test.YtdjpggnadelnaaaAps
import Derived.Test.YtdjpggnadelnaaaEvm
import Derived.Test.YtdjpggnadelnaaaKcm
namespace Go.Proofs.Ytdjpggnadelnaaa
open Go.RowKit Go.Fx
attribute [local go_sem] Oper.semAt_some
theorem ul_fl : Try.prog.underlying 133 = some (.slice 125) := by kernel_rfl
theorem info_fl : (Try.prog.info? 125).map (fun i => (i.zero, i.size, i.bytes)) = some (some (.agg #[.pointer none, .int .i64 0, .int .i64 0, .string { data := #[] }]), 4, 40) := by kernel_rfl
theorem ul_ev : Try.prog.underlying 26 = some (.slice 35) := by kernel_rfl
theorem info_ev : (Try.prog.info? 35).map (fun i => (i.zero, i.size, i.bytes)) = some (some (.agg #[.int .i64 0, .int .i64 0, .int .i64 0, .int .i64 0, .int .i64 0]), 5, 40) := by kernel_rfl
theorem flC_cases (g o : Nat) : ∃ p a b s, flC g o = [.pointer (some p), .int .i64 a, .int .i64 b, .string s] := by
  match o with
  | 0 => exact ⟨_, _, _, _, rfl⟩
  | 1 => exact ⟨_, _, _, _, rfl⟩
  | _ + 2 => exact ⟨_, _, _, _, rfl⟩
/-- What an iterator that never is left asks and leaves. -/
def Iter {α : Type} (f : α → List Value) (gf : Nat) (lb : Array Value) (w : World) (xs : List α) : Prop :=
  ∀ (l : Nat) (el : Nat → Array Value) (J0 : World → Prop) (J : (Nat → Prop) → Nat → World → Prop) (W : World), (∀ o x, xs[o]? = some x → el o = #[.agg (f x).toArray]) → IterH Try.prog l el xs.length J0 J (fun _ => False) → (∀ W, J0 W → Ext w W) → (∀ T o W, J T o W → Ext w W) → J0 W → Calls Try.prog gf (#[.func (.yield l) #[] #[]] ++ lb) W (IterP xs.length J (fun _ => False))
theorem rdS_one {α : Type} {f : α → List Value} {s : Nat} (_hf : ∀ x, (f x).length = s) (w : World) (t : TypeId) (q : α) {cs : Array Value} (hcs : cs = (f q).toArray) : RdS s f (w.alloc (.cells cs t)) (some ⟨w.heap.size, 0, none⟩) 1 [q] := by
  subst hcs
  have hb := Blk.new w t (f q).toArray
  refine ⟨rfl, fun _ => ⟨_, 0, rfl, hb.lt, fun i x hx j u hu => ?_⟩⟩
  have hi := (List.getElem?_eq_some_iff.1 hx).1
  obtain rfl : i = 0 := by simp at hi; exact hi
  simp at hx
  subst hx
  rw [Nat.zero_mul, Nat.zero_add]
  exact (hb.cell j).trans (by rw [List.getElem?_toArray]; exact hu)
/-- What AppendSeq, Collect leave. -/
def ColP {α : Type} (s : Nat) (f : α → List Value) (xs : List α) (w : World) (e : Ending) (w' : World) : Prop :=
  ∃ A c, e = .returned (.slice A xs.length c) ∧ RoomS s w' A xs.length c (xs.flatMap f) ∧ (∀ k, foot A c k → w.heap.size ≤ k) ∧ Ext w w'
theorem heap_put' {w : World} {l g : Nat} {o : Obj} (hne : g ≠ l) : (w.putObj l o).heap[g]? = w.heap[g]? := World.putObj_heap_other hne
set_option maxRecDepth 100000 in
set_option maxHeartbeats 1000000 in
theorem appendSeqE  (gf : Nat) (lb : Array Value) (xs : List Ev) (w : World) (eg : Enters Try.prog gf) (hn : xs.length ≤ 1000000000) (hIt : Iter evC gf lb w xs) :
    Calls Try.prog 57 #[.slice none 0 0, .func (.func gf) #[] lb] w (ColP 5 evC xs w) := by
  refine calls_of_wp_marks Try.func57 rfl ?_
  simp only [Try.ntmps57, List.size_toArray, List.length_cons, List.length_nil, Nat.reduceAdd, Nat.reduceSub, Array.replicate_succ, Array.replicate_zero, List.push_toArray, List.append_toArray, List.nil_append, List.cons_append]
  go_wp2_with fail
  have b0 := Blk.new w 26 #[.slice none 0 0]
  have hbl := Ext.alloc w (.cells #[.slice none 0 0] 26)
  generalize hW : w.alloc (.cells #[.slice none 0 0] 26) = W0 at *
  have hsz : W0.heap.size = w.heap.size + 1 := by rw [← hW]; simp
  clear hW
  refine wp_range (gf := gf) rfl eg (fun fn rec hrec => ?_)
  rw [hsz]
  refine (hIt (w.heap.size + 2) (fun o => match xs[o]? with | some x => #[.agg (evC x).toArray] | none => #[]) (ApJ0 26 w (rec .ready none)) (ApJ 26 5 evC xs w (rec .ready none)) _ (fun o x hx => by rw [hx]) ⟨fun W W' T h e hT => h.start e hT, fun T o W W' h e => h.e e, fun T o W W' h c => h.chg c (fun _ t => t), ?hY⟩ (fun W h => h.ext) (fun T o W h => h.ext) ?h0).mono ?post
  case h0 =>
    clear hrec
    refine ⟨(b0.alloc _).alloc _, ?_, ?_, (hbl.t (Ext.alloc _ _)).t (Ext.alloc _ _), by simp; omega⟩
    · refine (Below.heap_alloc _ _ _ (by simp; omega)).trans ?_
      have := World.alloc_heap_new W0 (.deferred (some []))
      rwa [hsz] at this
    · have := World.alloc_heap_new (W0.alloc (.deferred (some []))) (rec .ready none)
      rwa [World.size_alloc, hsz] at this
  case hY =>
    intro T o W ho hj
    obtain ⟨x, hx⟩ : ∃ x, xs[o]? = some x := ⟨xs[o], List.getElem?_eq_getElem ho⟩
    simp only [hx]
    rw [show (evC x).toArray = #[.int .i64 x.t, .int .i64 x.s, .int .i64 x.q, .int .i64 x.to, .int .i64 x.v] from rfl]
    refine (yieldAt hrec trivial hj.loop (by rfl) (fun jump W3 => jump = none ∧ ApJ 26 5 evC xs w (rec .busy none) T (o + 1) W3 ∧ ∀ k, T k → W3.heap[k]? = W.heap[k]?) ?walk).mono ?yp
    case yp =>
      rintro e W' ⟨jump, W3, ⟨rfl, hB, hT⟩, hl, rfl, rfl⟩
      exact .inl ⟨rfl, hB.put _, fun k hk => (heap_put' (by have := (hj.own k hk).1; omega)).trans (hT k hk)⟩
    case walk =>
      clear hrec
      gi_wp2
      have hja := hj.e (Ext.alloc W (.cells (evC x).toArray 35))
      refine ⟨hja.loop, ?_⟩
      have hk1 := hja.put (rec .busy none)
      have hbi := blk_put (l := w.heap.size + 2) (o := rec .busy none) (Blk.new W 35 (evC x).toArray) (by have := hj.size; omega)
      have HT : Hid (∀ k, T k → ((W.alloc (.cells (evC x).toArray 35)).putObj (w.heap.size + 2) (rec .busy none)).heap[k]? = W.heap[k]?) := Lib.hid (fun k hk => (heap_put' (by have := (hj.own k hk).1; omega)).trans ((Ext.alloc W _).block k (hj.own k hk).2))
      have hz := hj.size
      clear hj hja
      change Code.wpIn _ _ _ _ _ _ ((W.alloc (.cells (evC x).toArray 35)).putObj (w.heap.size + 2) (rec .busy none))
      generalize (W.alloc (.cells (evC x).toArray 35)).putObj (w.heap.size + 2) (rec .busy none) = W1 at *
      obtain ⟨g, hg⟩ : ∃ g, g = W.heap.size := ⟨_, rfl⟩
      rw [← hg] at hbi ⊢
      obtain ⟨A, c, hout, hroom, hft⟩ := hk1.out
      obtain ⟨d0, d1, d2, d3, d4⟩ := hbi.ev
      have cb := hout.cell0
      have hpush := fun A2 c2 w1 w2 (e1 : Ext W1 w1) r ch ft => ApJ.push (A2 := A2) (c2 := c2) (w2 := w2) (x := x) hk1 hx hout hft e1 r ch ft
      have HPush := Lib.hid hpush
      have HOut := Lib.hid hout
      have HRoom := Lib.hid hroom
      have HK := Lib.hid hk1.loop
      have HNA : Hid (¬ foot A c w.heap.size) := Lib.hid (fun hf => by have := (hft _ hf).1; omega)
      have Hn := Lib.hid hn
      have Ho := Lib.hid ho
      have HEq := Lib.hid (rfl : #[.int .i64 x.t, .int .i64 x.s, .int .i64 x.q, .int .i64 x.to, .int .i64 x.v] = (evC x).toArray)
      clear hk1 hbi hout hroom hft hpush hx hg hz hbl b0 hsz hIt hn ho
      gi_wp2_with (gi_at_builtin; refine wpListIn_append_atS _ rfl rfl ul_ev info_ev rfl rfl (HRoom.out.ext (Ext.alloc _ _)) rfl (Src.ofRdS ul_ev evC_len (rdS_one evC_len _ _ x HEq.out) evC_one) (by have := Hn.out; have := Ho.out; simp only [maxLen]; omega) (by have := Hn.out; have := Ho.out; omega) ?_; intro A2 c2 w2 r2 ch2 ft2; have b2 := (HOut.out.alloc (.cells (evC x).toArray 35)).chg ch2 HNA.out; have cb2 := b2.cell0; have fb2 := b2.frozen 0)
      have hp := HPush.out A2 c2 _ _ (Ext.alloc W1 _) r2 ch2 ft2
      exact ⟨hp.1.loop, rfl, hp.1, fun k hk => (hp.2 k hk).trans (HT.out k hk)⟩
  case post =>
    clear hrec
    rintro e W2 ⟨⟨v, rfl⟩, ⟨T, hj⟩ | hx⟩
    · refine ⟨⟨_, rfl⟩, .ready, none, by simp, hj.loop, ?_⟩
      have hj2 := hj.put (rec .exhausted none)
      clear hj
      generalize W2.putObj (w.heap.size + 2) (rec .exhausted none) = W3 at *
      obtain ⟨A, c, hout, hroom, hft⟩ := hj2.out
      have co := hout.cell0
      have HK := Lib.hid hj2
      have HRoom := Lib.hid hroom
      have HFt := Lib.hid hft
      clear hj2 hout hroom hft hbl b0 hsz hn hIt
      go_wp2_with fail
      try rw [Exit.noGoto_ret]
      refine leave1 (v := .slice A xs.length c) rfl HK.out.defd ?_ ?_
      · simp [results, Try.results57, go_sem]
      · have ch := chg_put W3 (w.heap.size + 1) (.deferred none)
        have hE : Ext w W3 := HK.out.ext
        exact ⟨A, c, rfl, by have h := HRoom.out.chg ch (fun k hk e => by have := (HFt.out k hk).1; omega); rwa [List.take_length] at h, fun k hk => by have := (HFt.out k hk).1; omega, hE.trans (ch.below hE.size (fun k hk ht => by omega))⟩
    · exact hx.elim
theorem collectE (gf : Nat) (lb : Array Value) (xs : List Ev) (w : World) (eg : Enters Try.prog gf) (hn : xs.length ≤ 1000000000) (hIt : Iter evC gf lb w xs) :
    Calls Try.prog 40 #[.func (.func gf) #[] lb] w (ColP 5 evC xs w) := by
  go_enter Try.func40, Try.ntmps40
  go_wp2_with (go_at_call 57; refine (appendSeqE gf lb xs w eg hn hIt).mono ?_; rintro e w' ⟨A, c, rfl, r, ft, ex⟩)
  go_ret
  exact ⟨A, c, rfl, r, ft, ex⟩
set_option maxRecDepth 100000 in
set_option maxHeartbeats 1000000 in
theorem appendSeqF (gk : Nat) (gf : Nat) (lb : Array Value) (xs : List Nat) (w : World) (eg : Enters Try.prog gf) (hn : xs.length ≤ 1000000000) (hIt : Iter (flC gk) gf lb w xs) :
    Calls Try.prog 78 #[.slice none 0 0, .func (.func gf) #[] lb] w (ColP 4 (flC gk) xs w) := by
  refine calls_of_wp_marks Try.func78 rfl ?_
  simp only [Try.ntmps78, List.size_toArray, List.length_cons, List.length_nil, Nat.reduceAdd, Nat.reduceSub, Array.replicate_succ, Array.replicate_zero, List.push_toArray, List.append_toArray, List.nil_append, List.cons_append]
  go_wp2_with fail
  have b0 := Blk.new w 133 #[.slice none 0 0]
  have hbl := Ext.alloc w (.cells #[.slice none 0 0] 133)
  generalize hW : w.alloc (.cells #[.slice none 0 0] 133) = W0 at *
  have hsz : W0.heap.size = w.heap.size + 1 := by rw [← hW]; simp
  clear hW
  refine wp_range (gf := gf) rfl eg (fun fn rec hrec => ?_)
  rw [hsz]
  refine (hIt (w.heap.size + 2) (fun o => match xs[o]? with | some x => #[.agg ((flC gk) x).toArray] | none => #[]) (ApJ0 133 w (rec .ready none)) (ApJ 133 4 (flC gk) xs w (rec .ready none)) _ (fun o x hx => by rw [hx]) ⟨fun W W' T h e hT => h.start e hT, fun T o W W' h e => h.e e, fun T o W W' h c => h.chg c (fun _ t => t), ?hY⟩ (fun W h => h.ext) (fun T o W h => h.ext) ?h0).mono ?post
  case h0 =>
    clear hrec
    refine ⟨(b0.alloc _).alloc _, ?_, ?_, (hbl.t (Ext.alloc _ _)).t (Ext.alloc _ _), by simp; omega⟩
    · refine (Below.heap_alloc _ _ _ (by simp; omega)).trans ?_
      have := World.alloc_heap_new W0 (.deferred (some []))
      rwa [hsz] at this
    · have := World.alloc_heap_new (W0.alloc (.deferred (some []))) (rec .ready none)
      rwa [World.size_alloc, hsz] at this
  case hY =>
    intro T o W ho hj
    obtain ⟨x, hx⟩ : ∃ x, xs[o]? = some x := ⟨xs[o], List.getElem?_eq_getElem ho⟩
    simp only [hx]
    obtain ⟨fp, fa, fb, fs, hfl⟩ := flC_cases gk x; rw [hfl]
    refine (yieldAt hrec trivial hj.loop (by rfl) (fun jump W3 => jump = none ∧ ApJ 133 4 (flC gk) xs w (rec .busy none) T (o + 1) W3 ∧ ∀ k, T k → W3.heap[k]? = W.heap[k]?) ?walk).mono ?yp
    case yp =>
      rintro e W' ⟨jump, W3, ⟨rfl, hB, hT⟩, hl, rfl, rfl⟩
      exact .inl ⟨rfl, hB.put _, fun k hk => (heap_put' (by have := (hj.own k hk).1; omega)).trans (hT k hk)⟩
    case walk =>
      clear hrec
      gi_wp2
      have hja := hj.e (Ext.alloc W (.cells ([Value.pointer (some fp), .int .i64 fa, .int .i64 fb, .string fs]).toArray 125))
      refine ⟨hja.loop, ?_⟩
      have hk1 := hja.put (rec .busy none)
      have hbi := blk_put (l := w.heap.size + 2) (o := rec .busy none) (Blk.new W 125 ([Value.pointer (some fp), .int .i64 fa, .int .i64 fb, .string fs]).toArray) (by have := hj.size; omega)
      have HT : Hid (∀ k, T k → ((W.alloc (.cells ([Value.pointer (some fp), .int .i64 fa, .int .i64 fb, .string fs]).toArray 125)).putObj (w.heap.size + 2) (rec .busy none)).heap[k]? = W.heap[k]?) := Lib.hid (fun k hk => (heap_put' (by have := (hj.own k hk).1; omega)).trans ((Ext.alloc W _).block k (hj.own k hk).2))
      have hz := hj.size
      clear hj hja
      change Code.wpIn _ _ _ _ _ _ ((W.alloc (.cells ([Value.pointer (some fp), .int .i64 fa, .int .i64 fb, .string fs]).toArray 125)).putObj (w.heap.size + 2) (rec .busy none))
      generalize (W.alloc (.cells ([Value.pointer (some fp), .int .i64 fa, .int .i64 fb, .string fs]).toArray 125)).putObj (w.heap.size + 2) (rec .busy none) = W1 at *
      obtain ⟨g, hg⟩ : ∃ g, g = W.heap.size := ⟨_, rfl⟩
      rw [← hg] at hbi ⊢
      obtain ⟨A, c, hout, hroom, hft⟩ := hk1.out
      have d0 := (hbi.cell 0).trans (show _ = some (Value.pointer (some fp)) from rfl); have d1 := (hbi.cell 1).trans (show _ = some (Value.int .i64 fa) from rfl); have d2 := (hbi.cell 2).trans (show _ = some (Value.int .i64 fb) from rfl); have d3 := (hbi.cell 3).trans (show _ = some (Value.string fs) from rfl)
      have cb := hout.cell0
      have hpush := fun A2 c2 w1 w2 (e1 : Ext W1 w1) r ch ft => ApJ.push (A2 := A2) (c2 := c2) (w2 := w2) (x := x) hk1 hx hout hft e1 r ch ft
      have HPush := Lib.hid hpush
      have HOut := Lib.hid hout
      have HRoom := Lib.hid hroom
      have HK := Lib.hid hk1.loop
      have HNA : Hid (¬ foot A c w.heap.size) := Lib.hid (fun hf => by have := (hft _ hf).1; omega)
      have Hn := Lib.hid hn
      have Ho := Lib.hid ho
      have HEq := Lib.hid (by rw [hfl] : #[Value.pointer (some fp), .int .i64 fa, .int .i64 fb, .string fs] = (flC gk x).toArray)
      clear hk1 hbi hout hroom hft hpush hx hg hz hbl b0 hsz hIt hn ho
      gi_wp2_with (gi_at_builtin; refine wpListIn_append_atS _ rfl rfl ul_fl info_fl rfl rfl (HRoom.out.ext (Ext.alloc _ _)) rfl (Src.ofRdS ul_fl (flC_len gk) (rdS_one (flC_len gk) _ _ x HEq.out) (flC_one gk)) (by have := Hn.out; have := Ho.out; simp only [maxLen]; omega) (by have := Hn.out; have := Ho.out; omega) ?_; intro A2 c2 w2 r2 ch2 ft2; have b2 := (HOut.out.alloc (.cells ([Value.pointer (some fp), .int .i64 fa, .int .i64 fb, .string fs]).toArray 125)).chg ch2 HNA.out; have cb2 := b2.cell0; have fb2 := b2.frozen 0)
      have hp := HPush.out A2 c2 _ _ (Ext.alloc W1 _) r2 ch2 ft2
      exact ⟨hp.1.loop, rfl, hp.1, fun k hk => (hp.2 k hk).trans (HT.out k hk)⟩
  case post =>
    clear hrec
    rintro e W2 ⟨⟨v, rfl⟩, ⟨T, hj⟩ | hx⟩
    · refine ⟨⟨_, rfl⟩, .ready, none, by simp, hj.loop, ?_⟩
      have hj2 := hj.put (rec .exhausted none)
      clear hj
      generalize W2.putObj (w.heap.size + 2) (rec .exhausted none) = W3 at *
      obtain ⟨A, c, hout, hroom, hft⟩ := hj2.out
      have co := hout.cell0
      have HK := Lib.hid hj2
      have HRoom := Lib.hid hroom
      have HFt := Lib.hid hft
      clear hj2 hout hroom hft hbl b0 hsz hn hIt
      go_wp2_with fail
      try rw [Exit.noGoto_ret]
      refine leave1 (v := .slice A xs.length c) rfl HK.out.defd ?_ ?_
      · simp [results, Try.results78, go_sem]
      · have ch := chg_put W3 (w.heap.size + 1) (.deferred none)
        have hE : Ext w W3 := HK.out.ext
        exact ⟨A, c, rfl, by have h := HRoom.out.chg ch (fun k hk e => by have := (HFt.out k hk).1; omega); rwa [List.take_length] at h, fun k hk => by have := (HFt.out k hk).1; omega, hE.trans (ch.below hE.size (fun k hk ht => by omega))⟩
    · exact hx.elim
theorem collectF (gk : Nat) (gf : Nat) (lb : Array Value) (xs : List Nat) (w : World) (eg : Enters Try.prog gf) (hn : xs.length ≤ 1000000000) (hIt : Iter (flC gk) gf lb w xs) :
    Calls Try.prog 76 #[.func (.func gf) #[] lb] w (ColP 4 (flC gk) xs w) := by
  go_enter Try.func76, Try.ntmps76
  go_wp2_with (go_at_call 78; refine (appendSeqF gk gf lb xs w eg hn hIt).mono ?_; rintro e w' ⟨A, c, rfl, r, ft, ex⟩)
  go_ret
  exact ⟨A, c, rfl, r, ft, ex⟩
/-- The fields of the key in block g, collected. -/
theorem collect_fields (g Bx : Nat) (w : World) (hb : Blk w Bx 122 #[.pointer (some ⟨g, 0, none⟩)]) :
    Calls Try.prog 76 #[.func (.func 75) #[] #[.pointer (some ⟨Bx, 0, none⟩)]] w (ColP 4 (flC g) [0, 1, 2] w) := by
  refine collectF g _ _ [0, 1, 2] w (enters_of Try.func75 (by kernel_rfl) rfl) (by decide) ?_
  intro l el J0 J W hel hI hJ _ h0
  refine fields1 l Bx g J0 J (fun _ => False) (fun W h => hb.ext (hJ W h)) ⟨hI.start, hI.ext, hI.own, fun T o W ho h => ?_⟩ W h0
  have h1 := hI.yield T o W ho h
  have : ([0, 1, 2] : List Nat)[o]? = some o := by
    rcases (by omega : o = 0 ∨ o = 1 ∨ o = 2) with rfl | rfl | rfl <;> rfl
  rw [hel o o this] at h1
  exact h1
end Go.Proofs.Ytdjpggnadelnaaa
