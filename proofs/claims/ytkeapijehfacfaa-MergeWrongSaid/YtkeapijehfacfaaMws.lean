/- Mws: what MergeWrong merges, cuts, takes away and deals, in plain Lean: none of it is right; how its key is made; its lists in memory. -/
import Derived.Test.YtkeapijehfacfaaMergeAll
import Derived.Test.YtkeapijehfacfaaMdp
namespace Go.Fx
open Go.RowKit
theorem badS_at {l : List Ev} (hl : srtB l = false) (b : List (List Ev)) : ∀ (a : List (List Ev)) (j : Nat), (∀ x ∈ a, Srt x) → badS j (a ++ l :: b) = some (j + a.length)
  | [], j, _ => by
    rw [List.nil_append, badS, if_neg (by rw [hl]; simp)]; rfl
  | x :: a, j, h => by
    rw [List.cons_append, badS, if_pos ((srtB_iff _).2 (h x (by simp))), badS_at hl b a (j + 1) (fun y hy => h y (by simp [hy])), List.length_cons]
    congr 1; omega
theorem twF_at (x : Ev) (b : List (List Ev)) : ∀ (a : List (List Ev)) (seen : List Ky) (j : Nat), Dif a.flatten → (∀ y ∈ a.flatten, y.k ∉ seen) → (x.k ∈ seen ∨ ∃ y ∈ a.flatten, y.k = x.k) → twF seen j (a ++ [x] :: b) = some (j + a.length)
  | [], seen, j, _, _, hx => by
    have h1 : x.k ∈ seen := hx.elim id (fun ⟨y, hy, _⟩ => by simp at hy)
    rw [List.nil_append, twF, twL, if_pos h1]; rfl
  | l :: a, seen, j, hd, hs, hx => by
    rw [List.flatten_cons] at hd hs hx
    obtain ⟨h1, h2, h3⟩ := List.pairwise_append.1 hd
    obtain ⟨s, hs'⟩ := twL_of h1 (fun y hy => hs y (List.mem_append_left _ hy))
    have hk := (twL_some hs').2.2
    rw [List.cons_append, twF, hs']
    show twF s (j + 1) (a ++ [x] :: b) = _
    have hA : ∀ y ∈ a.flatten, y.k ∉ s := by
      intro y hy hm
      rcases (hk _).1 hm with h | ⟨z, hz, e⟩
      · exact hs y (List.mem_append_right _ hy) h
      · exact h3 z hz y hy e
    have hB : x.k ∈ s ∨ ∃ y ∈ a.flatten, y.k = x.k := by
      rcases hx with h | ⟨y, hy, e⟩
      · exact .inl ((hk _).2 (.inl h))
      · rcases List.mem_append.1 hy with hy | hy
        · exact .inl ((hk _).2 (.inr ⟨y, hy, e⟩))
        · exact .inr ⟨y, hy, e⟩
    rw [twF_at x b a s (j + 1) h2 hA hB, List.length_cons]
    congr 1; omega
theorem merge_order {a b : List (List Ev)} {l : List Ev} (ha : ∀ x ∈ a, Srt x) (hl : srtB l = false) : mergeF (a ++ l :: b) = ([], (a.length : Int), 110) := by
  unfold mergeF
  rw [badS_at hl b a 0 ha]
  simp
theorem merge_twice {a b : List (List Ev)} {x : Ev} (hs : ∀ l ∈ a ++ [x] :: b, Srt l) (hd : Dif a.flatten) (hx : ∃ y ∈ a.flatten, y.k = x.k) : mergeF (a ++ [x] :: b) = ([], (a.length : Int), 111) := by
  unfold mergeF
  rw [badS_of hs, twF_at x b a [] 0 hd (by simp) (.inr hx)]
  simp
theorem bad_two (x : Ev) : srtB [x, x] = false := by
  show srtA x [x] = false
  unfold srtA
  rw [el_irr]; rfl
/-- A list with one more in it. -/
def putL {α : Type} (i : Nat) (l : α) (ls : List α) : List α := ls.take i ++ [l] ++ ls.drop i
theorem putL_len {α : Type} {i : Nat} {l : α} {ls : List α} (h : i ≤ ls.length) : (putL i l ls).length = ls.length + 1 := by
  unfold putL; simp; omega
theorem putL_perm {α : Type} (i : Nat) (l : α) (ls : List α) : (putL i l ls).Perm (l :: ls) := by
  unfold putL
  rw [List.append_assoc]
  show (ls.take i ++ l :: ls.drop i).Perm (l :: ls)
  refine List.perm_middle.trans ?_
  rw [List.take_append_drop]
theorem putL_mem {α : Type} {i : Nat} {l x : α} {ls : List α} : x ∈ putL i l ls ↔ x = l ∨ x ∈ ls := by rw [(putL_perm i l ls).mem_iff]; simp
theorem putL_map {α β : Type} (f : α → β) (i : Nat) (l : α) (ls : List α) : (putL i l ls).map f = putL i (f l) (ls.map f) := by
  unfold putL; simp [List.map_take, List.map_drop]
/-- What MergeWrong merges. -/
theorem wrong_order {M : List Ev} {ls : List (List Ev)} {x : Ev} {i : Nat} (h : LsOk M ls) (hi : i ≤ 5) : mergeF (putL i [x, x] ls ++ [[x, x]]) = ([], (i : Int), 110) := by
  unfold putL
  have e : ls.take i ++ [[x, x]] ++ ls.drop i ++ [[x, x]] = ls.take i ++ [x, x] :: (ls.drop i ++ [[x, x]]) := by simp
  rw [e, merge_order (fun l hl => h.srt l (List.mem_of_mem_take hl)) (bad_two x), List.length_take, h.len, Nat.min_eq_left hi]
theorem wrong_twice {M : List Ev} {ls : List (List Ev)} {x : Ev} {i k : Nat} (h : LsOk M ls) (hi : i ≤ 5) (hik : i < k) (hk : k ≤ 6) (hM : ∀ y ∈ M, y.k ≠ x.k) : mergeF (putL k [x] (putL i [x] ls)) = ([], (k : Int), 111) := by
  have hl := putL_len (l := [x]) (ls := ls) (i := i) (by rw [h.len]; exact hi)
  rw [h.len] at hl
  have hp : (putL i [x] ls).flatten.Perm (x :: ls.flatten) := by
    have := (putL_perm i [x] ls).flatten
    simpa using this
  have hd : Dif (putL i [x] ls).flatten := by
    refine Dif.perm (List.pairwise_cons.2 ⟨fun y hy e => hM y (h.mem hy) e.symm, h.dif⟩) hp.symm
  have hs : ∀ l ∈ putL i [x] ls, Srt l := fun l hl' => (putL_mem.1 hl').elim (fun e => by rw [e]; simp [Srt]) (h.srt l)
  have hs2 : ∀ l ∈ putL k [x] (putL i [x] ls), Srt l := fun l hl' => (putL_mem.1 hl').elim (fun e => by rw [e]; simp [Srt]) (hs l)
  have ht : (putL i [x] ls)[i]? = some [x] := by
    unfold putL
    rw [List.append_assoc, List.getElem?_append_right (by rw [List.length_take]; omega), List.length_take, h.len, Nat.min_eq_left hi, Nat.sub_self]
    rfl
  have e : putL k [x] (putL i [x] ls) = (putL i [x] ls).take k ++ [x] :: (putL i [x] ls).drop k := by
    conv => lhs; unfold putL
    simp [putL]
  rw [e] at hs2 ⊢
  have hdt : Dif ((putL i [x] ls).take k).flatten := by
    have h1 := hd
    rw [← List.take_append_drop k (putL i [x] ls), List.flatten_append] at h1
    exact (List.pairwise_append.1 h1).1
  rw [merge_twice hs2 hdt ⟨x, List.mem_flatten.2 ⟨[x], ?_, by simp⟩, rfl⟩, List.length_take, hl, Nat.min_eq_left hk]
  rw [List.mem_take_iff_getElem]
  obtain ⟨h1, h2⟩ := List.getElem?_eq_some_iff.1 ht
  exact ⟨i, by omega, h2⟩
theorem badT_at {n : Int} {y : Ev} (hy : okT n y = false) (b : List Ev) : ∀ (a : List Ev) (j : Nat), (∀ x ∈ a, okT n x = true) → badT n j (a ++ y :: b) = some (j + a.length)
  | [], j, _ => by rw [List.nil_append, badT, if_neg (by rw [hy]; simp)]; rfl
  | x :: a, j, h => by
    rw [List.cons_append, badT, if_pos (h x (by simp)), badT_at hy b a (j + 1) (fun z hz => h z (by simp [hz])), List.length_cons]
    congr 1; omega
theorem wrong_deal {L : List Ev} {y : Ev} {p : Nat} (hL : ∀ x ∈ L, 1 ≤ x.to ∧ x.to ≤ 16) (hp : p ≤ L.length) (hy : y.to < 1 ∨ 16 < y.to) : dealF (putL p y L ++ [y]) 16 = ([], (p : Int), 112) := by
  have e : putL p y L ++ [y] = L.take p ++ y :: (L.drop p ++ [y]) := by unfold putL; simp
  unfold dealF
  rw [if_neg (by omega), e, badT_at (by unfold okT; simp; omega) _ _ _ (fun x hx => by have := hL x (List.mem_of_mem_take hx); unfold okT; simp; omega), List.length_take, Nat.min_eq_left hp]
  simp
/-- A key of small numbers. -/
structure K3 where
  t : Nat
  s : Nat
  q : Nat
structure K3Ok (x : K3) : Prop where
  t : x.t < 18446744073709551616
  s : x.s < 4294967296
  q : x.q < 4294967296
def mkK (x : K3) : Ky := ⟨(x.t : Int) % 281474976710657, (x.s : Int) % 17, (x.q : Int)⟩
/-- The event of MergeWrong. -/
def wrE (x : K3) : Ev := ⟨(x.t : Int) % 281474976710657, 16, (x.q : Int), 1, 0⟩
theorem wrE_ok {x : K3} (h : K3Ok x) : EvOk (wrE x) := by
  obtain ⟨a, b, c⟩ := h
  constructor <;> simp only [wrE] <;> omega
end Go.Fx
namespace Go.Proofs.Ytkeapijehfacfaa
open Go.RowKit Go.Fx Go.ChangeShapes Go.WideShapes Go.ChangeAt Go.Deep
def k3V (x : K3) : Value := .agg #[.int .u64 (x.t : Int), .int .u32 (x.s : Int), .int .u32 (x.q : Int)]
def k3C (x : K3) : Array Value := #[.int .u64 (x.t : Int), .int .u32 (x.s : Int), .int .u32 (x.q : Int)]
set_option maxRecDepth 100000 in
theorem made07_ (x : K3) (w : World) (hx : K3Ok x) : Calls Try.prog 33 #[k3V x] w fun e w' => e = .returned (kyV (mkK x)) ∧ Ext w w' := by
  have hwt : IntKind.i64.wrap ((x.t : Int) % 281474976710657) = (x.t : Int) % 281474976710657 := IntWalk.i64_in _ (by omega)
  have hws : IntKind.i64.wrap ((x.s : Int) % 17) = (x.s : Int) % 17 := IntWalk.i64_in _ (by omega)
  have hwq : IntKind.i64.wrap (x.q : Int) = (x.q : Int) := IntWalk.i64_in _ (by have := hx.q; omega)
  clear hx
  unfold k3V
  go_enter Try.func33, Try.ntmps33
  go_wp2_with fail
  refine bodyPost_ret (v := kyV (mkK x)) (by simp [results, Try.results33, go_sem, kyV, mkK]) rfl ⟨rfl, ?_⟩
  exact (Ext.alloc _ _).t (Ext.alloc _ _)
section
variable {H : Type} {enc : TypeId × Value → H} {w : World} {base b0 : Nat} {spare : Nat → Bool} {held : Bool} {r : Reach}
set_option maxRecDepth 100000 in
theorem open_t63 {v : Value} {d : DataW H} {p : List MemPlace} (hv : Value.okWide Try.prog w r b0 63 v) (h : DataW.Trod enc Try.prog w base spare held 63 v d p) :
    ∃ x : K3, v = k3V x ∧ K3Ok x := by
  obtain ⟨cs, rfl, hsz⟩ := okWide_struct Try.underlying63 hv
  obtain ⟨fuel, hf⟩ := h
  have hi := ints_struct (ks := [.u64, .u32, .u32]) Try.underlying63 rfl (by kernel_rfl) (fun i k hk => by
    match i, hk with
    | 0, hk => cases hk; exact ⟨_, rfl, by kernel_rfl, by kernel_rfl, rfl⟩
    | 1, hk => cases hk; exact ⟨_, rfl, by kernel_rfl, by kernel_rfl, rfl⟩
    | 2, hk => cases hk; exact ⟨_, rfl, by kernel_rfl, by kernel_rfl, rfl⟩
    | i + 3, hk => cases (show (none : Option IntKind) = some k from hk)) hf
  obtain ⟨l⟩ := cs
  obtain ⟨hl, hz⟩ := hi
  simp only [Value.cells] at hl hz
  obtain ⟨z0, e0, w0⟩ := hz 0 .u64 rfl
  obtain ⟨z1, e1, w1⟩ := hz 1 .u32 rfl
  obtain ⟨z2, e2, w2⟩ := hz 2 .u32 rfl
  have b0 := bounds_u64 w0
  have b1 := bounds_u32 w1
  have b2 := bounds_u32 w2
  match l, hl with
  | [v0, v1, v2], _ =>
    simp only [List.getElem?_cons_zero, List.getElem?_cons_succ, Option.some.injEq] at e0 e1 e2
    refine ⟨⟨z0.toNat, z1.toNat, z2.toNat⟩, ?_, ⟨by show z0.toNat < _; omega, by show z1.toNat < _; omega, by show z2.toNat < _; omega⟩⟩
    rw [e0, e1, e2]
    unfold k3V
    simp only [show ((z0.toNat : Nat) : Int) = z0 by omega, show ((z1.toNat : Nat) : Int) = z1 by omega, show ((z2.toNat : Nat) : Int) = z2 by omega]
end
theorem law_cloneL {A : Option Addr} {n c : Nat} {ss : List Sl} {w : World} (h : Rd slv w A n ss) (hn : n ≤ 1000) :
    Calls Try.prog 35 #[.slice A n c] w fun e w' => ∃ A' c', e = .returned (.slice A' n c') ∧ Room w' A' n c' (ss.map slv) ∧ (∀ k, foot A' c' k → w.heap.size ≤ k) ∧ Ext w w' := by
  refine (cloneL A n c (f := fun s => [slv s]) (fun _ => rfl) slv_one ss w (RdS.of_rd h) (by omega)).mono ?_
  rintro e w' ⟨A', c', rfl, hr, he, hf⟩
  rw [flat_one] at hr
  exact ⟨A', c', rfl, hr.room, hf, he⟩
theorem law_insL {A : Option Addr} {n c i vb : Nat} {s : Sl} {ss : List Sl} {w : World} (h : Room w A n c (ss.map slv)) (hi : i ≤ n) (hv : Blk w vb 24 #[slv s]) (hne : ¬ foot A c vb) (hn : n ≤ 1000) :
    Calls Try.prog 34 #[.slice A n c, .int .i64 (i : Int), .slice (some ⟨vb, 0, none⟩) 1 1] w fun e w' => ∃ A' c', e = .returned (.slice A' (n + 1) c') ∧ Room w' A' (n + 1) c' ((putL i s ss).map slv) ∧ Chg (foot A c) w w' ∧ (∀ k, foot A' c' k → foot A c k ∨ w.heap.size ≤ k) := by
  refine (ee_ins_all A n c i (ss.map slv) vb 1 [slv s] w h.roomS hi hv rfl (by decide) hne (fun v hv' => by obtain ⟨t, _, rfl⟩ := List.mem_map.1 hv'; rfl) (slv_one s) (by omega)).mono ?_
  rintro e w' ⟨A', c', rfl, hr, hc, hf⟩
  refine ⟨A', c', rfl, ?_, hc, hf⟩
  rw [putL_map]
  simp only [Nat.mul_one] at hr
  exact hr.room
theorem law_mergeBad {A : Option Addr} {n c : Nat} {ss : List Sl} {ls : List (List Ev)} {i er : Int} {e' : Nat} {w : World} (hF : mergeF ls = ([], i, e')) (her : er = (e' : Int)) (h : Rd slv w A n ss) (hs : Els w ss ls) (hn : n ≤ 1000) (hok : ∀ x ∈ ls.flatten, EvOk x) (htot : ls.flatten.length ≤ 1000) :
    Calls Try.prog 19 #[.slice A n c] w fun e w' => ∃ A' c', e = .returned (.tuple #[.slice A' 0 c', .int .i64 i, .int .i64 er]) ∧ Ext w w' := by
  subst her
  refine (merge_ A n c ss ls w h hs (by omega) (fun s hs' => ?_) (fun l hl x hx => hok x (List.mem_flatten.2 ⟨l, hl, hx⟩)) (by omega)).mono ?_
  · obtain ⟨i, hi, rfl⟩ := List.getElem_of_mem hs'
    obtain ⟨_, l, h2, h3⟩ := hs.at_ i _ (List.getElem?_eq_getElem hi)
    have h4 : l.length ≤ ls.flatten.length := (List.sublist_flatten_of_mem (List.mem_of_getElem? h2)).length_le
    have h5 := h3.1
    omega
  · rintro e w' ⟨A', n', c', rfl, hr, hl', _, he⟩
    rw [hF] at hr hl' ⊢
    have h0 : n' = 0 := by simpa using hl'.symm
    subst h0
    exact ⟨A', c', rfl, he⟩
theorem els_put {w : World} {ss : List Sl} {ls : List (List Ev)} {s : Sl} {l : List Ev} (i : Nat) (h : Els w ss ls) (hc : s.n ≤ s.c) (hr : RdS 5 evC w s.A s.n l) : Els w (putL i s ss) (putL i l ls) :=
  ((h.take i).snoc hc hr).append (h.drop i)
end Go.Proofs.Ytkeapijehfacfaa
