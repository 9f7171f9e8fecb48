/- Ein: lists of small numbers, and the events that they make. -/
import Derived.Test.YtkeapijehfacfaaMmk
import Derived.Test.YtkeapijehfacfaaOpS
import Derived.WideKeyEntry
namespace Go.Fx
open Go.RowKit
/-- Five small numbers. -/
structure Sm where
  t : Nat
  s : Nat
  q : Nat
  o : Nat
  li : Nat
def smC (x : Sm) : List Value := [.int .u8 (x.t : Int), .int .u8 (x.s : Int), .int .u8 (x.q : Int), .int .u8 (x.o : Int), .int .u8 (x.li : Int)]
structure SmOk (x : Sm) : Prop where
  t : x.t < 256
  s : x.s < 256
  q : x.q < 256
  o : x.o < 256
  li : x.li < 256
theorem smC_len (x : Sm) : (smC x).length = 5 := rfl
/-- The event of small numbers. -/
def mkE (x : Sm) : Ev := ⟨(x.t : Int) % 16, (x.s : Int) % 5, (x.q : Int) % 32, 1 + (x.o : Int) % 16, (x.t : Int) - (x.o : Int)⟩
theorem mkE_ok {x : Sm} (h : SmOk x) : EvOk (mkE x) := by
  obtain ⟨a, b, c, d, e⟩ := h
  constructor <;> simp only [mkE] <;> omega
theorem RdS.sm {w : World} {A : Option Addr} {n k : Nat} {p : List Sm} (h : RdS 5 smC w A n p) (hk : k < n) : ∃ b o i, A = some ⟨b, o, none⟩ ∧ b < w.heap.size ∧ p[k]? = some i ∧
    w.cell? ⟨b, o + k * 5, none⟩ = some (.int .u8 (i.t : Int)) ∧ w.cell? ⟨b, o + k * 5 + 1, none⟩ = some (.int .u8 (i.s : Int)) ∧ w.cell? ⟨b, o + k * 5 + 2, none⟩ = some (.int .u8 (i.q : Int)) ∧ w.cell? ⟨b, o + k * 5 + 3, none⟩ = some (.int .u8 (i.o : Int)) ∧ w.cell? ⟨b, o + k * 5 + 4, none⟩ = some (.int .u8 (i.li : Int)) := by
  obtain ⟨b, o, i, h1, h2, h3, h4⟩ := h.at_ hk
  exact ⟨b, o, i, h1, h2, h3, by simpa using h4 0 _ rfl, h4 1 _ rfl, h4 2 _ rfl, h4 3 _ rfl, h4 4 _ rfl⟩
theorem Blk.sm {w : World} {g : Nat} {t : TypeId} {i : Sm} (h : Blk w g t (smC i).toArray) : w.cell? ⟨g, 0, none⟩ = some (.int .u8 (i.t : Int)) ∧ w.cell? ⟨g, 1, none⟩ = some (.int .u8 (i.s : Int)) ∧ w.cell? ⟨g, 2, none⟩ = some (.int .u8 (i.q : Int)) ∧ w.cell? ⟨g, 3, none⟩ = some (.int .u8 (i.o : Int)) ∧ w.cell? ⟨g, 4, none⟩ = some (.int .u8 (i.li : Int)) :=
  ⟨by rw [h.cell]; rfl, by rw [h.cell]; rfl, by rw [h.cell]; rfl, by rw [h.cell]; rfl, by rw [h.cell]; rfl⟩
/-- How often a key comes. -/
def cntF (l : List Ev) (k : Ky) : Nat := l.countP (fun x => decide (x.k = k))
/-- The first event of each key. -/
def fstA : List Ky → List Ev → List Ev
  | _, [] => []
  | s, x :: xs => if x.k ∈ s then fstA s xs else x :: fstA (x.k :: s) xs
def fstF (l : List Ev) : List Ev := fstA [] l
theorem cntF_zero {l : List Ev} {k : Ky} : cntF l k = 0 ↔ ∀ x ∈ l, x.k ≠ k := by
  unfold cntF
  rw [List.countP_eq_zero]
  simp
theorem cntF_snoc (l : List Ev) (x : Ev) (k : Ky) : cntF (l ++ [x]) k = cntF l k + if x.k = k then 1 else 0 := by
  unfold cntF
  rw [List.countP_append, List.countP_singleton]
  by_cases h : x.k = k <;> simp [h]
theorem cntF_le (l : List Ev) (k : Ky) : cntF l k ≤ l.length := List.countP_le_length
theorem fstA_in : ∀ {l : List Ev} {s : List Ky} {x : Ev}, x ∈ fstA s l → x ∈ l ∧ x.k ∉ s
  | [], _, _, h => by cases h
  | y :: l, s, x, h => by
    unfold fstA at h
    split at h
    · exact ⟨List.mem_cons_of_mem _ (fstA_in h).1, (fstA_in h).2⟩
    · next hy =>
      rcases List.mem_cons.1 h with rfl | h
      · exact ⟨by simp, hy⟩
      · exact ⟨List.mem_cons_of_mem _ (fstA_in h).1, fun hs => (fstA_in h).2 (List.mem_cons_of_mem _ hs)⟩
theorem fstA_dif : ∀ (l : List Ev) (s : List Ky), Dif (fstA s l)
  | [], _ => List.Pairwise.nil
  | y :: l, s => by
    unfold fstA
    split
    · exact fstA_dif l s
    · exact List.pairwise_cons.2 ⟨fun z hz e => (fstA_in hz).2 (by rw [← e]; simp), fstA_dif l _⟩
theorem fstA_len : ∀ (l : List Ev) (s : List Ky), (fstA s l).length ≤ l.length
  | [], _ => Nat.le_refl _
  | y :: l, s => by
    unfold fstA
    split
    · have := fstA_len l s; simp only [List.length_cons]; omega
    · have := fstA_len l (y.k :: s); simp only [List.length_cons]; omega
theorem fstA_snoc (x : Ev) : ∀ (l : List Ev) (s : List Ky), fstA s (l ++ [x]) = fstA s l ++ (if x.k ∈ s ∨ ∃ y ∈ l, y.k = x.k then [] else [x])
  | [], s => by
    by_cases h : x.k ∈ s <;> simp [fstA, h]
  | y :: l, s => by
    rw [List.cons_append]
    unfold fstA
    split
    · next hy =>
      rw [fstA_snoc x l s]
      congr 1
      by_cases h : x.k ∈ s
      · simp [h]
      · have : y.k ≠ x.k := fun e => h (by rw [← e]; exact hy)
        simp [h, this]
    · rw [fstA_snoc x l _, List.cons_append]
      congr 2
      by_cases h : y.k = x.k
      · simp [h]
      · have h' : ¬ x.k = y.k := fun e => h e.symm
        simp [h, h']
theorem fstF_hit {l : List Ev} {x : Ev} (h : cntF l x.k ≠ 0) : fstF (l ++ [x]) = fstF l := by
  unfold fstF
  rw [fstA_snoc, if_pos, List.append_nil]
  rcases Classical.not_forall.1 (fun hx => h (cntF_zero.2 hx)) with ⟨y, hy⟩
  rcases Classical.not_forall.1 hy with ⟨hy1, hy2⟩
  exact .inr ⟨y, hy1, Classical.not_not.1 hy2⟩
theorem fstF_new {l : List Ev} {x : Ev} (h : cntF l x.k = 0) : fstF (l ++ [x]) = fstF l ++ [x] := by
  unfold fstF
  rw [fstA_snoc, if_neg]
  rintro (h' | ⟨y, hy, e⟩)
  · cases h'
  · exact cntF_zero.1 h y hy e
/-- The events of small numbers with different keys. -/
def evsF (l : List Sm) (m : Nat) : List Ev := fstF ((l.take m).map mkE)
theorem evsF_dif (l : List Sm) (m : Nat) : Dif (evsF l m) := fstA_dif _ _
theorem evsF_len (l : List Sm) (m : Nat) : (evsF l m).length ≤ m := by
  have h1 := fstA_len ((l.take m).map mkE) []
  rw [List.length_map, List.length_take] at h1
  unfold evsF fstF; omega
theorem evsF_in {l : List Sm} {m : Nat} {x : Ev} (h : x ∈ evsF l m) : ∃ y ∈ l, x = mkE y := by
  obtain ⟨y, hy, e⟩ := List.mem_map.1 (fstA_in h).1
  exact ⟨y, List.mem_of_mem_take hy, e.symm⟩
end Go.Fx
namespace Go.Proofs.Ytkeapijehfacfaa
open Go.RowKit Go.Fx Go.ChangeShapes Go.WideShapes Go.ChangeAt Go.Deep
def smV (x : Sm) : Value := .agg #[.int .u8 (x.t : Int), .int .u8 (x.s : Int), .int .u8 (x.q : Int), .int .u8 (x.o : Int), .int .u8 (x.li : Int)]
/-- A list of small numbers that came in. -/
structure SmArg (W : World) (A : Option Addr) (n c : Nat) (l : List Sm) : Prop where
  rd : RdS 5 smC W A n l
  ok : ∀ i ∈ l, SmOk i
  le : n ≤ c
  max : c ≤ maxLen
theorem ints_sm {cs : List Value} (h : IntsOk [.u8, .u8, .u8, .u8, .u8] cs) : ∃ x : Sm, cs = smC x ∧ SmOk x := by
  obtain ⟨hl, hz⟩ := h
  obtain ⟨z0, e0, w0⟩ := hz 0 .u8 rfl
  obtain ⟨z1, e1, w1⟩ := hz 1 .u8 rfl
  obtain ⟨z2, e2, w2⟩ := hz 2 .u8 rfl
  obtain ⟨z3, e3, w3⟩ := hz 3 .u8 rfl
  obtain ⟨z4, e4, w4⟩ := hz 4 .u8 rfl
  have b0 := bounds_u8 w0
  have b1 := bounds_u8 w1
  have b2 := bounds_u8 w2
  have b3 := bounds_u8 w3
  have b4 := bounds_u8 w4
  match cs, hl with
  | [v0, v1, v2, v3, v4], _ =>
    simp only [List.getElem?_cons_zero, List.getElem?_cons_succ, Option.some.injEq] at e0 e1 e2 e3 e4
    refine ⟨⟨z0.toNat, z1.toNat, z2.toNat, z3.toNat, z4.toNat⟩, ?_, ⟨by show z0.toNat < 256; omega, by show z1.toNat < 256; omega, by show z2.toNat < 256; omega, by show z3.toNat < 256; omega, by show z4.toNat < 256; omega⟩⟩
    rw [e0, e1, e2, e3, e4]
    unfold smC
    simp only [show ((z0.toNat : Nat) : Int) = z0 by omega, show ((z1.toNat : Nat) : Int) = z1 by omega, show ((z2.toNat : Nat) : Int) = z2 by omega, show ((z3.toNat : Nat) : Int) = z3 by omega, show ((z4.toNat : Nat) : Int) = z4 by omega]
section
variable {H : Type} {enc : TypeId × Value → H} {w : World} {base b0 : Nat} {spare : Nat → Bool} {held : Bool} {r : Reach}
set_option maxRecDepth 100000 in
theorem open_sm {v : Value} {d : DataW H} {p : List MemPlace} (hv : Value.okWide Try.prog w r b0 22 v) (h : DataW.Trod enc Try.prog w base spare held 22 v d p) :
    ∃ A n c l, v = .slice A n c ∧ SmArg w A n c l := by
  obtain ⟨A, n, c, zs, rfl, h1, h2, h3, h4⟩ := open_structs (ks := [.u8, .u8, .u8, .u8, .u8]) Try.underlying22 Try.underlying75 rfl (by kernel_rfl) (by decide) (fun i k hk => by
    match i, hk with
    | 0, hk => cases hk; exact ⟨_, rfl, by kernel_rfl, by kernel_rfl, rfl⟩
    | 1, hk => cases hk; exact ⟨_, rfl, by kernel_rfl, by kernel_rfl, rfl⟩
    | 2, hk => cases hk; exact ⟨_, rfl, by kernel_rfl, by kernel_rfl, rfl⟩
    | 3, hk => cases hk; exact ⟨_, rfl, by kernel_rfl, by kernel_rfl, rfl⟩
    | 4, hk => cases hk; exact ⟨_, rfl, by kernel_rfl, by kernel_rfl, rfl⟩
    | i + 5, hk => cases (show (none : Option IntKind) = some k from hk)) hv h
  obtain ⟨l, h5, h6⟩ := RdS.of_ints (f := smC) (OK := SmOk) (fun cs hcs => ints_sm (h2 cs hcs)) h1
  exact ⟨A, n, c, l, rfl, h5, h6, h3, h4⟩
end
theorem sm_to {A : Option Addr} {n c hi : Nat} {li : Int} (w : World) (e : li = (hi : Int)) (h2 : hi ≤ c) :
    (Instr.sliceAt 22 (.slice A n c) none (some (.int .i64 li)) none).run Try.prog w = .ok (.slice A hi c) w := by
  subst e
  have h4 : (hi : Int) ≤ (c : Int) := by omega
  have h5 : (0 : Int) ≤ (hi : Int) := by omega
  simp [go_sem, sliced, h4, Addr.add]
set_option maxRecDepth 100000 in
set_option maxHeartbeats 1000000 in
theorem made_ (x : Sm) (w : World) (hx : SmOk x) : Calls Try.prog 41 #[smV x] w fun e w' => e = .returned (evV (mkE x)) ∧ Ext w w' := by
  have hwt : IntKind.i64.wrap ((x.t : Int) % 16) = (x.t : Int) % 16 := IntWalk.i64_in _ (by omega)
  have hws : IntKind.i64.wrap ((x.s : Int) % 5) = (x.s : Int) % 5 := IntWalk.i64_in _ (by omega)
  have hwq : IntKind.i64.wrap ((x.q : Int) % 32) = (x.q : Int) % 32 := IntWalk.i64_in _ (by omega)
  have hwo : IntKind.i64.wrap ((x.o : Int) % 16) = (x.o : Int) % 16 := IntWalk.i64_in _ (by omega)
  have hwo1 : IntKind.i64.wrap (1 + (x.o : Int) % 16) = 1 + (x.o : Int) % 16 := IntWalk.i64_in _ (by omega)
  have hwx : IntKind.i64.wrap (x.t : Int) = (x.t : Int) := IntWalk.i64_in _ (by have := hx.t; omega)
  have hwy : IntKind.i64.wrap (x.o : Int) = (x.o : Int) := IntWalk.i64_in _ (by have := hx.o; omega)
  have hwz : IntKind.i64.wrap ((x.t : Int) - (x.o : Int)) = (x.t : Int) - (x.o : Int) := IntWalk.i64_in _ (by have := hx.o; have := hx.t; omega)
  clear hx
  unfold smV
  go_enter Try.func41, Try.ntmps41
  go_wp2_with fail
  refine bodyPost_ret (v := evV (mkE x)) (by simp [results, Try.results41, go_sem, evV, mkE]) rfl ⟨rfl, ?_⟩
  exact (Ext.alloc _ _).t (Ext.alloc _ _)
theorem MapK.chg {T : Nat → Prop} {w w' : World} {b n : Nat} {f : Ky → Option Int} (h : MapK w b n f) (ch : Chg T w w') (hb : ¬ T b) : MapK w' b n f := by
  have hlt := h.lt
  obtain ⟨D, ⟨es, cl, h1, r⟩, h2⟩ := h
  exact ⟨D, ⟨es, cl, (ch.block b hlt hb).trans h1, r⟩, h2⟩
end Go.Proofs.Ytkeapijehfacfaa
