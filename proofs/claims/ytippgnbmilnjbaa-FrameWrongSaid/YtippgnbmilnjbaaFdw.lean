/- Fdw: a stream of the statement's own through several calls: what it may have turned since a world. -/
import Derived.Test.YtippgnbmilnjbaaFdd
import Derived.Test.YtippgnbmilnjbaaFrameCuts
namespace Go.Proofs.Ytippgnbmilnjbaa
open Go.RowKit Go.Fx
/-- A stream, and what its calls may have turned since w8. -/
structure DS (w8 : World) (sb : Nat) (wr : World) (s : Sl) (st : FSt) : Prop where
  stm : Stm wr sb s st
  chg : Chg (fun k => k = sb ∨ w8.heap.size ≤ k) w8 wr
  nb : ∀ k, stmF sb s k → k = sb ∨ w8.heap.size ≤ k
section
variable {w8 wr w1 w2 : World} {sb : Nat} {s s' : Sl} {st : FSt} {xs b : List Nat} {e : Ending} {Al : Option Addr} {nl cl : Nat} {os : List Sl}
theorem DS.ext (h : DS w8 sb wr s st) (e : Ext wr w1) : DS w8 sb w1 s st := ⟨h.stm.ext e, h.chg.e e, h.nb⟩
theorem DS.fed (h : DS w8 sb wr s st) (f : Fed wr sb s st xs e w2 Al nl cl os s') : DS w8 sb w2 s' (fdF st xs).1 :=
  ⟨f.stm, h.chg.t (f.chg.mono (fun k _ hk => h.nb k hk)), fun k hk => (f.nb k hk).elim (h.nb k) (fun h1 => .inr (Nat.le_trans h.chg.size h1))⟩
theorem DS.pld (h : DS w8 sb wr s st) (f : Pld wr sb s b w2 Al nl cl os s') : DS w8 sb w2 s' (stOf b) :=
  ⟨f.stm, h.chg.t (f.chg.mono (fun k _ hk => h.nb k hk)), fun k hk => (f.nb k hk).elim (h.nb k) (fun h1 => .inr (Nat.le_trans h.chg.size h1))⟩
theorem DS.reset (h : DS w8 sb wr s st) (f : Stm w2 sb ⟨none, 0, 0⟩ fst0) (ch : Chg (fun k => k = sb) wr w2) : DS w8 sb w2 ⟨none, 0, 0⟩ fst0 :=
  ⟨f, h.chg.t (ch.mono (fun _ _ hk => .inl hk)), fun _ hk => hk.elim .inl (fun h1 => absurd h1 foot_none)⟩
theorem DS.st_ (h : DS w8 sb wr s st) {st' : FSt} (e : st = st') : DS w8 sb wr s st' := by rw [← e]; exact h
theorem rd_ds {α : Type} {f : α → Value} {A : Option Addr} {n : Nat} {l : List α} (h : Rd f w8 A n l) (hs : DS w8 sb wr s st) (hne : ∀ k o, A = some ⟨k, o, none⟩ → 0 < n → k ≠ sb) : Rd f wr A n l := by
  refine h.chg hs.chg (fun k o ha hn ht => ?_)
  obtain ⟨b, o', e, hb, _⟩ := h.2 hn
  rw [ha] at e; cases e
  exact ht.elim (hne k o ha hn) (fun h1 => by omega)
theorem lst_ds {B : Nat} {A : Option Addr} {n c : Nat} {l : List Sl} {xss : List (List Nat)} (h : Lst B w8 A n c l xss) (hs : DS w8 sb wr s st) (hne : ∀ k, foot A c k ∨ foots l k → k ≠ sb) : Lst B wr A n c l xss :=
  h.chg hs.chg (fun k hk ht => ht.elim (hne k hk) (fun h1 => by have := h.lt hk; omega))
theorem DS.out {w : World} (h : DS w8 sb wr s st) (e : Ext w w8) (hb : w.heap.size ≤ sb) : Ext w wr := e.trans (h.chg.below e.size (fun _ _ ht => by have := e.size; omega))
end
theorem u8_wrap {n : Nat} (h : n < 256) : IntKind.u8.wrap (n : Int) = (n : Int) := by rw [IntKind.wrap_u8]; omega
theorem u8_sum {a n d : Nat} (h : d = a + n) (h2 : d < 256) : IntKind.u8.wrap ((a : Int) + (n : Int)) = (d : Int) := by rw [IntKind.wrap_u8]; omega
theorem tmod_nat {n m q : Nat} (h : q = n % m) : (n : Int) % (m : Int) = (q : Int) ∧ (n : Int).tmod (m : Int) = (q : Int) := by
  have e : (n : Int) % (m : Int) = (q : Int) := by rw [h]; simp
  exact ⟨e, by rw [Int.tmod_eq_emod_of_nonneg (by omega)]; exact e⟩
/-- What is wrong, as bytes in memory. -/
structure BadS (way : Nat) (lo : Nat) (w : World) (s : Sl) : Prop where
  rd : Rd u8v w s.A s.n (badP way ++ [badD way])
  eq : s.n = (badP way).length + 1
  le : s.n ≤ s.c
  le3 : s.c ≤ 3
  ne : ∀ k o, s.A = some ⟨k, o, none⟩ → lo ≤ k
theorem badS_of {way q5 lo : Nat} {w : World} {g0 g1 g2 g3 g4 d0 d1 d3 d4 : Nat} {s : Sl} (h5 : q5 = way % 5) (h0 : d0 = 249 + way % 7) (h1 : d1 = way % 247) (h3 : d3 = 65 + way % 191) (h4 : d4 = 1 + way % 255)
    (r0 : Rd u8v w (some ⟨g0, 0, none⟩) 1 [d0]) (r1 : Rd u8v w (some ⟨g1, 0, none⟩) 2 [247, d1]) (r2 : Rd u8v w (some ⟨g2, 0, none⟩) 2 [248, 0]) (r3 : Rd u8v w (some ⟨g3, 0, none⟩) 2 [248, d3]) (r4 : Rd u8v w (some ⟨g4, 0, none⟩) 3 [248, 64, d4])
    (l0 : lo ≤ g0) (l1 : lo ≤ g1) (l2 : lo ≤ g2) (l3 : lo ≤ g3) (l4 : lo ≤ g4)
    (hs : [(⟨some ⟨g0, 0, none⟩, 1, 1⟩ : Sl), ⟨some ⟨g1, 0, none⟩, 2, 2⟩, ⟨some ⟨g2, 0, none⟩, 2, 2⟩, ⟨some ⟨g3, 0, none⟩, 2, 2⟩, ⟨some ⟨g4, 0, none⟩, 3, 3⟩][q5]? = some s) : BadS way lo w s := by
  subst h0 h1 h3 h4
  rcases (by omega : way % 5 = 0 ∨ way % 5 = 1 ∨ way % 5 = 2 ∨ way % 5 = 3 ∨ way % 5 = 4) with h | h | h | h | h <;>
    (rw [h] at h5
     subst h5
     simp only [List.getElem?_cons_zero, List.getElem?_cons_succ, Option.some.injEq] at hs
     subst hs
     refine ⟨?_, ?_, Nat.le_refl _, by simp, fun k o e => ?_⟩
     · simp only [badP, badD, h, List.nil_append, List.cons_append]; assumption
     · simp only [badP, h]; rfl
     · simp only [Option.some.injEq, Addr.mk.injEq] at e
       obtain ⟨rfl, -⟩ := e
       assumption)
end Go.Proofs.Ytippgnbmilnjbaa
