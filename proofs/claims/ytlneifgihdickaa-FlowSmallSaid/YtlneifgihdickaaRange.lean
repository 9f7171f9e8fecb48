/- Plain words for ranging over a function: entering the loop, a round's body, and leaving the function that holds the loop. No condition. -/
import Derived.Test.YtlneifgihdickaaLib
import Derived.RangeFuncNested
import Derived.RangeFuncBound
import Derived.RangeFuncCalls
import Derived.RangeFuncLeaves
import Derived.Shelf.Abstract
import Derived.Shelf.RegionOpen
import Derived.OwnWalkIn
import Derived.TacticsInMore
import Derived.LoopNIn
import Derived.LoopIn
namespace Go.Fx
open Go.RowKit Go.Proofs

section
variable {P : Program}

theorem calls_of_wp_marks {f : FuncId} {fn : Func} {c : Code} {args : Array Value} {w : World} {R : Ending → World → Prop}
    (hf : P.funcs[f]? = some fn) (hb : fn.body = some c)
    (h : c.wp P (bodyPostM Fence.wide 9 P fn R) { tmps := args ++ Array.replicate (fn.ntmps - args.size) undef, defers := [] } w) : Calls P f args w R :=
  callsIn_wide.1 (callsIn_of_wp_marks hf hb trivial (wpIn_wide.2 h) rfl)

theorem leave0 {fn : Func} {R : Ending → World → Prop} {a : Act} {w : World} {v : Value} (hd : a.defers = []) (hr : (results fn a.tmps).run P w = .ok v w) (hR : R (.returned v) w) : bodyPostM Fence.wide 9 P fn R .ret a w := by
  show LeavesInM Fence.wide 9 P fn a.tmps R a.defers .returning w
  rw [hd]
  exact ⟨v, hr, hR⟩
theorem leave1 {fn : Func} {R : Ending → World → Prop} {a : Act} {w : World} {v : Value} {D : Nat} (hd : a.defers = [{ target := .collected D, args := #[] }]) (hD : w.heap[D]? = some (.deferred (some [])))
    (hr : (results fn a.tmps).run P (w.putObj D (.deferred none)) = .ok v (w.putObj D (.deferred none))) (hR : R (.returned v) (w.putObj D (.deferred none))) : bodyPostM Fence.wide 9 P fn R .ret a w := by
  show LeavesInM Fence.wide 9 P fn a.tmps R a.defers .returning w
  rw [hd]
  exact ⟨by simp, .inl ⟨D, _, rfl, run_takeDeferred hD, v, hr, hR⟩⟩

/-- The loop's record. -/
def Rec (fn : FuncId) (tmps : Array Value) (ps : Array Tmp) (assign body : Code) (D : Nat) (st : LoopState) (pe : Option Code) : Obj :=
  .loop { state := st, pending := pe, fn, tmps, params := ps, assign, body, defers := D }

/-- What is asked behind the iterator; D: the heap's size where the loop begins. -/
def rangeEnd (P : Program) (D : Nat) (rec : LoopState → Option Code → Obj) (a : Act) (Q : Exit → Act → World → Prop) (e : Ending) (W2 : World) : Prop :=
  (∃ v, e = .returned v) ∧ ∃ st pe, st ≠ .busy ∧ W2.heap[D + 1]? = some (rec st pe) ∧
    match pe with
    | none => Q .normal { a with defers := { target := .collected D, args := #[] } :: a.defers } (W2.putObj (D + 1) (rec .exhausted none))
    | some c => c.wp P Q { a with defers := { target := .collected D, args := #[] } :: a.defers } (W2.putObj (D + 1) (rec .exhausted (some c)))

theorem wp_range {g : Operand} {ps : Array Tmp} {assign body : Code} {Q : Exit → Act → World → Prop} {a : Act} {w : World} {gf : Nat} {lb : Array Value}
    (hg : a.eval g = .func (.func gf) #[] lb) (eg : Enters P gf)
    (h : ∀ fn rec, rec = Rec fn a.tmps ps assign body w.heap.size → Calls P gf (#[.func (.yield (w.heap.size + 1)) #[] #[]] ++ lb) ((w.alloc (.deferred (some []))).alloc (rec .ready none)) (rangeEnd P w.heap.size rec a Q)) :
    (Code.rangeFunc g ps assign body).wp P Q a w := by
  refine (wpIn_wide (n := 9)).1 ?_
  refine wpIn_rangeFunc ?_
  intro fn _
  have h := h fn _ rfl
  obtain ⟨W1, hW1⟩ : ∃ W1, (w.alloc (.deferred (some []))).alloc (Rec fn a.tmps ps assign body w.heap.size .ready none) = W1 := ⟨_, rfl⟩
  refine ⟨w.heap.size + 1, [{ target := .collected w.heap.size, args := #[] }], W1, { target := .fn (.func gf) lb, args := #[.func (.yield (w.heap.size + 1)) #[] #[]] }, W1, gf,
    #[.func (.yield (w.heap.size + 1)) #[] #[]] ++ lb, W1, ?_, ?_, fun _ _ => trivial, ?_, ?_, ?_⟩
  · rw [← hW1]; exact run_enterLoop_outer _ _ _ _ _
  · simp only [resolve, hg]
    simp [go_sem]
  · simp [invoke, go_sem, eg _ _]
  · intro _; omega
  · rw [hW1] at h
    refine callsIn_wide.2 (h.mono ?_)
    rintro e W2 ⟨⟨v, rfl⟩, st, pe, hst, hl, hq⟩
    refine ⟨pe, _, run_endLoop (r := { state := st, pending := pe, fn, tmps := a.tmps, params := ps, assign, body, defers := w.heap.size }) hl hst, ?_⟩
    cases pe with
    | none => exact hq
    | some c => exact wpIn_wide.2 hq

/-- How the body of a round may be left; 'B': what holds there (none: off its end; else the jump). -/
def roundEnd (l : Nat) (busy : Obj) (B : Option Code → World → Prop) : Exit → Act → World → Prop
  | .normal, _, W => W.heap[l]? = some busy ∧ B none W
  | .ret, _, W => W.heap[l]? = some busy ∧ B (some .ret) W
  | .exit id, _, W => W.heap[l]? = some busy ∧ B (some (.exit id)) W
  | .goto t, _, W => W.heap[l]? = some busy ∧ B (some (.goto t)) W
  | _, _, _ => False

/-- What a call of yield leaves. -/
def yieldPost (l : Nat) (rec : LoopState → Option Code → Obj) (B : Option Code → World → Prop) (e : Ending) (W' : World) : Prop :=
  ∃ jump W3, B jump W3 ∧ W3.heap[l]? = some (rec .busy none) ∧ e = .returned (.bool jump.isNone) ∧ W' = W3.putObj l (rec (if jump.isNone then .ready else .done) jump)

/-- A round, out of its body's walk. -/
theorem yieldAt {F : Fence} {l : Nat} {W : World} {fn : FuncId} {tmps : Array Value} {ps : Array Tmp} {assign body : Code} {D : Nat} {args : Array Value} {n : Nat} {rec : LoopState → Option Code → Obj} (hrec : rec = Rec fn tmps ps assign body D) (hF : F.fn fn)
    (hl : W.heap[l]? = some (rec .ready none)) (hs : args.size = ps.size) (B : Option Code → World → Prop)
    (h : assign.wpIn (F.inRound l) n P (Exit.then (fun a1 w1 => w1.heap[l]? = some (rec .ready none) ∧
        body.wpIn (F.inRound l) n P (roundEnd l (rec .busy none) B) a1 (w1.putObj l (rec .busy none))) (fun _ _ _ => False))
      { tmps := (ps.zip args).foldl (fun t (p, v) => t.setIfInBounds p v) tmps, defers := [] } W) :
    YieldAt F n P l args W (yieldPost l rec B) := by
  subst hrec
  refine ⟨fn, _, assign, body, run_yield hl hs, roundIn_of_wpIn hF (wpIn_mono h ?_)⟩
  rintro e a1 w1 hq
  cases e with
  | normal =>
    obtain ⟨hr, hb⟩ := hq
    refine ⟨_, run_beginRound hr rfl, wpIn_mono hb ?_⟩
    rintro e2 a3 W3 hp
    cases e2 with
    | normal => obtain ⟨hl3, hB⟩ := hp; exact ⟨_, _, run_endRound none hl3, none, W3, hB, hl3, rfl, rfl⟩
    | ret => obtain ⟨hl3, hB⟩ := hp; exact ⟨_, _, run_endRound (some .ret) hl3, some .ret, W3, hB, hl3, rfl, rfl⟩
    | exit id => obtain ⟨hl3, hB⟩ := hp; exact ⟨_, _, run_endRound (some (.exit id)) hl3, some (.exit id), W3, hB, hl3, rfl, rfl⟩
    | goto t => obtain ⟨hl3, hB⟩ := hp; exact ⟨_, _, run_endRound (some (.goto t)) hl3, some (.goto t), W3, hB, hl3, rfl, rfl⟩
    | panic c => exact hp.elim
    | outgrown => exact hp.elim
  | ret => exact hq.elim
  | exit id => exact hq.elim
  | goto t => exact hq.elim
  | panic c => exact hq.elim
  | outgrown => exact hq.elim
end

/-! What survives a turn of the loop's record (or of the block for deferred calls). -/
section
variable {w : World} {l : Nat} {o : Obj}
theorem blk_put {g : Nat} {t : TypeId} {cs : Array Value} (h : Blk w g t cs) (hne : g ≠ l) : Blk (w.putObj l o) g t cs := (World.putObj_heap_other hne).trans h
theorem heap_put {g : Nat} {x : Obj} (h : w.heap[g]? = some x) (hne : g ≠ l) : (w.putObj l o).heap[g]? = some x := (World.putObj_heap_other hne).trans h
theorem cell_put {p : Addr} (hne : p.block ≠ l) : (w.putObj l o).cell? p = w.cell? p := World.cell?_of_block (World.putObj_heap_other hne)
theorem below_put {B : Nat} {a : World} (h : Below B a w) (hl : B ≤ l) : Below B a (w.putObj l o) :=
  h.trans ⟨rfl, rfl, rfl, by simp, fun k hk => World.putObj_heap_other (by omega)⟩
theorem own_put {base : Nat} {e : TypeId} {size : Nat} {v : Value} {n : Nat} {xs : List Value} (h : w.ownsRow base e size v n xs) (hne : v.ownBlock ≠ some l) : (w.putObj l o).ownsRow base e size v n xs := by
  refine ⟨h.1, ?_⟩
  rcases h.2 with h2 | ⟨g, cap, cur, rfl, hb, hg, rest⟩
  · exact .inl h2
  · exact .inr ⟨g, cap, cur, rfl, hb, heap_put hg (fun e => hne (by simp [Value.ownBlock, e])), rest⟩
theorem own_put' {base : Nat} {e : TypeId} {size : Nat} {v : Value} {n : Nat} {xs : List Value} (h : w.ownsRow base e size v n xs) {x : Obj} (hx : w.heap[l]? = some x) (hc : x.isCells = false) : (w.putObj l o).ownsRow base e size v n xs := by
  refine own_put h (fun e => ?_)
  rcases h.2 with ⟨rfl, _⟩ | ⟨g, cap, cur, rfl, hb, hg, rest⟩
  · simp [Value.ownBlock] at e
  · have : g = l := by simpa [Value.ownBlock] using e
    subst this
    rw [hg] at hx; injection hx with hx; subst hx; simp [Obj.isCells] at hc
end

theorem wpListIn_append_dst {F : Fence} {k : Nat} {P : Program} (w : World) {ops : Array Oper} {rest : List Oper} {o : Oper} {a : Act} {Q : Exit → Act → World → Prop} (hgd : o.guard = none) {s x : Operand} {t : TypeId}
    (ho : o.op = .call { callee := .builtin .append, args := #[s, x], argTypes := #[t, t] })
    {base : Nat} {e : TypeId} {z : Value} {size bytes : Nat} (ht : P.underlying t = some (.slice e)) (hi : (P.info? e).map (fun i => (i.zero, i.size, i.bytes)) = some (some z, size, bytes))
    (hzs : z.cells.size = size) (hsz : 0 < size)
    {v : Value} {n : Nat} {xs : List Value} {row : Option Nat} (hs : a.eval s = v) (hd : Dst w base e size v n xs row)
    {ad : Addr} {m c : Nat} {news : List Value} (hx : a.eval x = .slice (some ad) m c) (hl : news.length = m * size) (hnews : ∀ j u, news[j]? = some u → w.cell? (ad.add j) = some u) (h1 : ∀ u ∈ news, u.oneCell' = true)
    (hm : 0 < m) (h63 : n + m ≤ maxLen) (hbytes : (n + m) * bytes ≤ 140737488355328) (hbase : base ≤ w.heap.size)
    (h : ∀ g cap w', w'.ownsRow base e size (.slice (some ⟨g, 0, none⟩) (n + m) cap) (n + m) (xs ++ news) → w.grownBy w' row → (row = some g ∨ g = w.heap.size) → g < w'.heap.size → wpListIn F k P ops Q rest (a.put o.dst (.slice (some ⟨g, 0, none⟩) (n + m) cap)) w') : wpListIn F k P ops Q (o :: rest) a w := by
  refine wpListIn_plain hgd fun K hK' => ?_
  obtain ⟨i, hi', hz, hsize, hby⟩ := info_parts hi
  obtain ⟨g, cap, w', hrun, r1, r2, r3, r4⟩ := run_append_dst (P := P) w base t o.type e i z size bytes ht hi' hz hsize hby hzs hsz v n xs row hd ad m c news hl hnews h1 hm h63 hbytes hbase
  unfold Oper.wpIn
  refine ⟨?_, ?_⟩
  · simp [Oper.about, ho, resolve, Target.leads, Sem.run_pure]
  · rw [Oper.semAt_plain F _ _ (by rw [ho]; intro c hc'; cases hc')]
    simp [execOp, ho, resolve, invoke, builtin, hs, hx, hrun, Result.andThen]
    exact hK' _ _ (h g cap w' r1 r2 r3 r4)
end Go.Fx
