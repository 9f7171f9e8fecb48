/- StF: slices of structs inside a fence: append and writing out. No condition. -/
import Derived.Test.YtlneifgihdickaaSts
import Derived.Test.YtlneifgihdickaaRange
namespace Go.Fx
open Go.RowKit Go.Proofs
theorem chg_put (w : World) (l : Nat) (o : Obj) : Chg (fun k => k = l) w (w.putObj l o) := by
  exact ⟨rfl, rfl, rfl, by simp, fun k _ hk => World.putObj_heap_other hk⟩
theorem wpListIn_append_atS {F : Fence} {k : Nat} {P : Program} (w : World) {ops : Array Oper} {rest : List Oper} {o : Oper} {a : Act} {Q : Exit → Act → World → Prop} (hgd : o.guard = none) {s x : Operand} {t e : TypeId} {z : Value} {bytes sz : Nat} {A : Option Addr} {n c : Nat} {xs : List Value} {v : Value} {m : Nat} {news : List Value}
    (ho : o.op = .call { callee := .builtin .append, args := #[s, x], argTypes := #[t, t] })
    (ht : P.underlying t = some (.slice e)) (hi : (P.info? e).map (fun i => (i.zero, i.size, i.bytes)) = some (some z, sz, bytes)) (hzs : z.cells.size = sz)
    (hs : a.eval s = .slice A n c) (hr : RoomS sz w A n c xs) (hx : a.eval x = v) (hsrc : Src P sz t v m news w) (h63 : n + m ≤ maxLen) (hbytes : (n + m) * bytes ≤ 140737488355328)
    (h : ∀ A' c' w', RoomS sz w' A' (n + m) c' (xs ++ news) → Chg (foot A c) w w' → (∀ k, foot A' c' k → foot A c k ∨ w.heap.size ≤ k) → wpListIn F k P ops Q rest (a.put o.dst (.slice A' (n + m) c')) w') : wpListIn F k P ops Q (o :: rest) a w := by
  refine wpListIn_plain hgd fun K hK' => ?_
  obtain ⟨A', c', w', hrun, h1, h2, h3⟩ := run_append_atS (P := P) w t t o.type e z bytes sz ht hi hzs A n c xs hr v m news hsrc h63 hbytes
  unfold Oper.wpIn
  refine ⟨?_, ?_⟩
  · simp [Oper.about, ho, resolve, Target.leads, Sem.run_pure]
  · rw [Oper.semAt_plain F _ _ (by rw [ho]; intro c hc'; cases hc')]
    simp [execOp, ho, resolve, invoke, builtin, hs, hx, hrun, Result.andThen]
    exact hK' _ _ (h A' c' w' h1 h2 h3)
end Go.Fx
