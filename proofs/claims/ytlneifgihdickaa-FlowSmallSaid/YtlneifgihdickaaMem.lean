/- Mem: making rows; what a row holds that grows. No condition. -/
import Derived.Test.YtlneifgihdickaaStep
import Derived.OwnWalk
namespace Go.Fx
open Go.RowKit
section
variable {P : Program}
/-- make([]T, 0, n), n computed: an empty row of the call's own. -/
theorem wpl_make {w : World} {ops : Array Oper} {rest : List Oper} {o : Oper} {a : Act} {Q : Exit → Act → World → Prop} (hgd : o.guard = none) {l c : Operand} {t : TypeId}
    (ho : o.op = Op.makeSlice t l c)
    {base : Nat} {e : TypeId} {z : Value} {size bytes : Nat} (ht : P.underlying t = some (.slice e)) (hi : (P.info? e).map (fun i => (i.zero, i.size, i.bytes)) = some (some z, size, bytes))
    {kl kc : IntKind} {C : Int} {n : Nat} (hl : a.eval l = .int kl 0) (hc : a.eval c = .int kc C) (hC : C = (n : Int)) (b2 : bytes * n ≤ 281474976710656) (b3 : n ≤ maxLen) (b4 : base ≤ w.heap.size)
    (h : ∀ A w', w'.ownsRow base e size (.slice A 0 n) 0 [] → w.grownBy w' none → (∀ k, (Value.slice A 0 n).ownBlock = some k → w.heap.size ≤ k) → Hid (wpList P ops Q rest (a.put o.dst (.slice A 0 n)) w')) : wpList P ops Q (o :: rest) a w := by
  obtain ⟨i, hi', hz, hsize, hby⟩ := info_parts hi
  subst hby
  exact wpList_make_own w hgd l c t ho base e i z size ht hi' hz hsize kl kc C n hl hc hC b2 b3 b4 (fun w' h1 h2 => (h _ w' h1 h2 (fun k hk => by cases hk; simp only; omega)).out)
end
end Go.Fx
