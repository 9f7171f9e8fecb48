/- Omd: Made and filled; how lists of small numbers come in. -/
import Derived.Test.YtdjpggnadelnaaaObq
import Derived.Test.YtdjpggnadelnaaaOpE
namespace Go.Fx
open Go.RowKit
/-- An event in numbers. -/
structure Sb where
  la : Nat
  o : Nat
  sk : Nat
  v : Int
structure SbOk (x : Sb) : Prop where
  la : x.la < 256
  o : x.o < 256
  sk : x.sk < 256
  v1 : -9223372036854775808 ≤ x.v
  v2 : x.v ≤ 9223372036854775807
def sbC (x : Sb) : List Value := [.int .u8 (x.la : Int), .int .u8 (x.o : Int), .int .u8 (x.sk : Int), .int .i64 x.v]
theorem sbC_len (x : Sb) : (sbC x).length = 4 := rfl
def mkB (s e : Int) (q : Nat) (x : Sb) : Ev := ⟨e + ((x.la % 10 : Nat) : Int), s, ((q + x.sk % 3 : Nat) : Int), 1 + ((x.o % 16 : Nat) : Int), x.v⟩
/-- What Made makes; q is the next Seq. -/
def madeF (s e : Int) : Nat → List Sb → List Ev
  | _, [] => []
  | q, x :: xs => mkB s e q x :: madeF s e (q + x.sk % 3 + 1) xs
def nextQ : Nat → List Sb → Nat
  | q, [] => q
  | q, x :: xs => nextQ (q + x.sk % 3 + 1) xs
theorem madeF_app (s e : Int) : ∀ (a b : List Sb) (q : Nat), madeF s e q (a ++ b) = madeF s e q a ++ madeF s e (nextQ q a) b
  | [], _, _ => rfl
  | x :: xs, b, q => by rw [List.cons_append, madeF, madeF, nextQ, madeF_app s e xs b, List.cons_append]
theorem nextQ_app : ∀ (a b : List Sb) (q : Nat), nextQ q (a ++ b) = nextQ (nextQ q a) b
  | [], _, _ => rfl
  | x :: xs, b, q => by rw [List.cons_append, nextQ, nextQ, nextQ_app xs b]
theorem madeF_len (s e : Int) : ∀ (l : List Sb) (q : Nat), (madeF s e q l).length = l.length
  | [], _ => rfl
  | x :: xs, q => by rw [madeF, List.length_cons, List.length_cons, madeF_len s e xs]
theorem nextQ_le : ∀ (l : List Sb) (q : Nat), q ≤ nextQ q l ∧ nextQ q l ≤ q + 3 * l.length
  | [], q => by simp [nextQ]
  | x :: xs, q => by
    have h := nextQ_le xs (q + x.sk % 3 + 1)
    rw [nextQ, List.length_cons]
    omega
theorem madeF_snoc (s e : Int) {l : List Sb} {k : Nat} {x : Sb} (q : Nat) (h : l[k]? = some x) : madeF s e q (l.take (k + 1)) = madeF s e q (l.take k) ++ [mkB s e (nextQ q (l.take k)) x] ∧ nextQ q (l.take (k + 1)) = nextQ q (l.take k) + x.sk % 3 + 1 := by
  rw [take_snoc h, madeF_app, nextQ_app]
  exact ⟨rfl, rfl⟩
theorem madeF_ok {s e e' : Int} (hs : 1 ≤ s) (hs2 : s ≤ 16) (he : 0 ≤ e) (he2 : e ≤ 281474976710000) (hee : e' ≤ e) : ∀ (l : List Sb) (q : Nat) (last : Int), last < (q : Int) → q + 3 * l.length ≤ 4000000000 → okP s e' last (madeF s e q l) = true
  | [], _, _, _, _ => rfl
  | x :: xs, q, last, h1, h2 => by
    rw [List.length_cons] at h2
    rw [madeF, okP, Bool.and_eq_true, decide_eq_true_eq]
    refine ⟨look_of ?_ ?_ ?_ rfl ?_ ?_, madeF_ok hs hs2 he he2 hee xs _ _ ?_ ?_⟩
    · unfold rightK
      rw [decide_eq_true_eq]
      simp only [mkB, Ev.k]
      omega
    · simp only [mkB]; omega
    · simp only [mkB]; omega
    · simp only [mkB]; omega
    · simp only [mkB]; omega
    · simp only [mkB]; omega
    · omega
theorem madeF_evok {s e : Int} (hs : 0 ≤ s) (hs2 : s ≤ 16) (he : -10 ≤ e) (he2 : e ≤ 281474976710000) : ∀ (l : List Sb) (q : Nat), (∀ x ∈ l, SbOk x) → q + 3 * l.length ≤ 4000000000 → ∀ y ∈ madeF s e q l, EvOk y
  | [], _, _, _, y, hy => by cases hy
  | x :: xs, q, h, h2, y, hy => by
    rw [List.length_cons] at h2
    rcases List.mem_cons.1 hy with rfl | hy
    · have hx := h x (by simp)
      have h3 := hx.v1
      have h4 := hx.v2
      constructor <;> (simp only [mkB]; omega)
    · exact madeF_evok hs hs2 he he2 xs _ (fun z hz => h z (by simp [hz])) (by omega) y hy
theorem RdS.sb {w : World} {A : Option Addr} {n k : Nat} {p : List Sb} (h : RdS 4 sbC w A n p) (hk : k < n) : ∃ b o i, A = some ⟨b, o, none⟩ ∧ b < w.heap.size ∧ p[k]? = some i ∧
    w.cell? ⟨b, o + k * 4, none⟩ = some (.int .u8 (i.la : Int)) ∧ w.cell? ⟨b, o + k * 4 + 1, none⟩ = some (.int .u8 (i.o : Int)) ∧ w.cell? ⟨b, o + k * 4 + 2, none⟩ = some (.int .u8 (i.sk : Int)) ∧ w.cell? ⟨b, o + k * 4 + 3, none⟩ = some (.int .i64 i.v) := by
  obtain ⟨b, o, i, h1, h2, h3, h4⟩ := h.at_ hk
  exact ⟨b, o, i, h1, h2, h3, by simpa using h4 0 _ rfl, h4 1 _ rfl, h4 2 _ rfl, h4 3 _ rfl⟩
end Go.Fx
namespace Go.Proofs.Ytdjpggnadelnaaa
open Go.RowKit Go.Fx Go.ChangeShapes Go.WideShapes Go.ChangeAt Go.Deep
/-- A list of small numbers that came in. -/
structure SbArg (W : World) (A : Option Addr) (n c : Nat) (l : List Sb) : Prop where
  rd : RdS 4 sbC W A n l
  ok : ∀ x ∈ l, SbOk x
  le : n ≤ c
  max : c ≤ maxLen
theorem SbArg.ext {w w' : World} {A : Option Addr} {n c : Nat} {l : List Sb} (h : SbArg w A n c l) (e : Ext w w') : SbArg w' A n c l := ⟨h.rd.ext e, h.ok, h.le, h.max⟩
section
variable {H : Type} {enc : TypeId × Value → H} {w : World} {base b0 : Nat} {spare : Nat → Bool} {held : Bool} {r : Reach}
theorem sb_cells {fuel : Nat} {cs : List Value} {x : DataW H × List MemPlace} (h : DataW.trod enc Try.prog w base spare held fuel 52 cs = some x) : ∃ y, cs = sbC y ∧ SbOk y := by
  obtain ⟨hl, hz⟩ := ints_struct (ks := [.u8, .u8, .u8, .i64]) Try.underlying52 rfl (by kernel_rfl) (fun i k hk => by
    match i, hk with
    | 0, hk => cases hk; exact ⟨_, rfl, by kernel_rfl, by kernel_rfl, rfl⟩
    | 1, hk => cases hk; exact ⟨_, rfl, by kernel_rfl, by kernel_rfl, rfl⟩
    | 2, hk => cases hk; exact ⟨_, rfl, by kernel_rfl, by kernel_rfl, rfl⟩
    | 3, hk => cases hk; exact ⟨_, rfl, by kernel_rfl, by kernel_rfl, rfl⟩
    | i + 4, hk => cases (show (none : Option IntKind) = some k from hk)) h
  obtain ⟨z0, e0, w0⟩ := hz 0 .u8 rfl
  obtain ⟨z1, e1, w1⟩ := hz 1 .u8 rfl
  obtain ⟨z2, e2, w2⟩ := hz 2 .u8 rfl
  obtain ⟨z3, e3, w3⟩ := hz 3 .i64 rfl
  have b0 := bounds_u8 w0
  have b1 := bounds_u8 w1
  have b2 := bounds_u8 w2
  have b3 := bounds_i64 w3
  match cs, hl with
  | [v0, v1, v2, v3], _ =>
    simp only [List.getElem?_cons_zero, List.getElem?_cons_succ, Option.some.injEq] at e0 e1 e2 e3
    refine ⟨⟨z0.toNat, z1.toNat, z2.toNat, z3⟩, ?_, ⟨by show z0.toNat < 256; omega, by show z1.toNat < 256; omega, by show z2.toNat < 256; omega, b3.1, b3.2⟩⟩
    rw [e0, e1, e2, e3]
    unfold sbC
    simp only [show ((z0.toNat : Nat) : Int) = z0 by omega, show ((z1.toNat : Nat) : Int) = z1 by omega, show ((z2.toNat : Nat) : Int) = z2 by omega]
set_option maxRecDepth 100000 in
theorem sbs_cells {fuel : Nat} {cs : List Value} {x : DataW H × List MemPlace} (h : DataW.trod enc Try.prog w base spare held fuel 28 cs = some x) : ∃ A n c l, cs = [.slice A n c] ∧ SbArg w A n c l := by
  obtain ⟨A, n, c, l, h1, h2, h3, h4, h5⟩ := cells_slice (f := sbC) (OK := SbOk) (s := 4) Try.underlying28 (by kernel_rfl) (by decide) sbC_len sb_cells h
  exact ⟨A, n, c, l, h1, h2, h3, h4, h5⟩
set_option maxRecDepth 100000 in
theorem open_t28 {v : Value} {d : DataW H} {p : List MemPlace} (hv : Value.okWide Try.prog w r b0 28 v) (h : DataW.Trod enc Try.prog w base spare held 28 v d p) :
    ∃ A n c l, v = .slice A n c ∧ SbArg w A n c l := by
  obtain ⟨A, n, c, l, h1, h2, h3, h4, h5⟩ := open_slice_of (f := sbC) (OK := SbOk) (s := 4) Try.underlying28 (by kernel_rfl) (by decide) sbC_len sb_cells hv h
  exact ⟨A, n, c, l, h1, h2, h3, h4, h5⟩
end
theorem sb_to {A : Option Addr} {n c hi : Nat} {li : Int} (w : World) (e : li = (hi : Int)) (h2 : hi ≤ c) :
    (Instr.sliceAt 28 (.slice A n c) none (some (.int .i64 li)) none).run Try.prog w = .ok (.slice A hi c) w := by
  subst e
  have h4 : (hi : Int) ≤ (c : Int) := by omega
  have h5 : (0 : Int) ≤ (hi : Int) := by omega
  simp [go_sem, sliced, h4, Addr.add]
theorem rdS_one_at {α : Type} {f : α → List Value} {s : Nat} (hf : ∀ x, (f x).length = s) (w : World) (t : TypeId) (q : α) {cs : Array Value} (hcs : cs = (f q).toArray) {g : Nat} (hg : g = w.heap.size) : RdS s f (w.alloc (.cells cs t)) (some ⟨g, 0, none⟩) 1 [q] := by
  subst hg
  exact rdS_one hf w t q hcs
/-- New events are returned. -/
def EvsP (r : List Ev) (w : World) (e : Ending) (w' : World) : Prop :=
  ∃ A n c, e = .returned (.slice A n c) ∧ RoomS 5 w' A n c (r.flatMap evC) ∧ r.length = n ∧ (∀ k, foot A c k → w.heap.size ≤ k) ∧ Ext w w'
def WoE (w : World) (A : Option Addr) (n c : Nat) (l : List Ev) (W : World) : Prop := RoomS 5 W A n c (l.flatMap evC) ∧ l.length = n ∧ (∀ q, foot A c q → w.heap.size ≤ q) ∧ Ext w W
theorem we_app {w W W1 w3 : World} {A A3 : Option Addr} {n c c3 : Nat} {l : List Ev} {x : Ev} (h : WoE w A n c l W) (e : Ext W W1) (r : RoomS 5 w3 A3 (n + 1) c3 (l.flatMap evC ++ [x].flatMap evC)) (ch : Chg (foot A c) W1 w3) (ft : ∀ k, foot A3 c3 k → foot A c k ∨ W1.heap.size ≤ k) : WoE w A3 (n + 1) c3 (l ++ [x]) w3 := by
  have h1 := h.2.2.2.t e
  exact ⟨by rw [List.flatMap_append]; exact r, by simp [h.2.1], fun q hq => (ft q hq).elim (h.2.2.1 q) (fun h' => Nat.le_trans h1.size h'), h1.trans (ch.below h1.size (fun q hq hf => by have := h.2.2.1 q hf; omega))⟩
set_option maxRecDepth 100000 in
set_option maxHeartbeats 2000000 in
theorem made_ (s e : Int) (A : Option Addr) (n c : Nat) (l : List Sb) (w : World) (h : SbArg w A n c l) (_hs : 1 ≤ s ∧ s ≤ 16) (he : -1 ≤ e ∧ e ≤ 281474976710000) :
    Calls Try.prog 11 #[.int .i64 s, .int .i64 e, .slice A n c] w (EvsP (madeF s e 0 (l.take 40)) w) := by
  have H := Lib.hid h
  have hmx := h.max
  have hle := h.le
  have Hl := Lib.hid h.rd.1
  unfold maxLen at hmx
  clear h
  by_cases h40 : n ≤ 40
  · have hI : (n : Int) ≤ 40 := by omega
    have hsl := fun w' => sb_to (A := A) (n := n) (c := c) (hi := n) (li := (n : Int)) w' rfl hle
    go_enter Try.func11, Try.ntmps11
    go_wp2_with fail
    go_loopw [7, 8, 17] (fun a q i wr => ∃ (k : Nat) (Ao : Option Addr) (co Q : Nat), k ≤ n ∧ i = .int .i64 (k : Int) ∧ q = .int .i64 (Q : Int) ∧ Q = nextQ 0 (l.take k) ∧ a = .slice Ao k co ∧ Hid (WoE w Ao k co (madeF s e 0 (l.take k)) wr)) (fun _ _ i _ => n - (intOf i).toNat)
    case atStart => exact ⟨0, none, 0, 0, by omega, rfl, rfl, rfl, rfl, Lib.hid ⟨RoomS.nil, rfl, fun q hq => absurd hq foot_none, Ext.refl _⟩⟩
    case round =>
      obtain ⟨k, Ao, co, Q, hk, rfl, rfl, hQ, rfl, HO⟩ := hrel
      by_cases hlt : k < n
      · obtain ⟨b, o, x, rfl, _, hx, c0, c1, c2, c3⟩ := (H.out.rd.ext HO.out.2.2.2).sb (k := k) (by omega)
        have hltI : (k : Int) < (n : Int) := by omega
        have hxo := H.out.ok x (List.mem_of_getElem? hx)
        obtain ⟨hm1, hm2⟩ := madeF_snoc s e 0 hx
        rw [← hQ] at hm1 hm2
        have hQb : Q ≤ 3 * k := by have := (nextQ_le (l.take k) 0).2; rw [List.length_take] at this; omega
        obtain ⟨y, hy⟩ : ∃ y, y = mkB s e Q x := ⟨_, rfl⟩
        rw [← hy] at hm1
        obtain ⟨yt, hyt⟩ : ∃ yt : Int, yt = e + ((x.la % 10 : Nat) : Int) := ⟨_, rfl⟩
        obtain ⟨yq, hyq⟩ : ∃ yq : Nat, yq = Q + x.sk % 3 := ⟨_, rfl⟩
        obtain ⟨yo, hyo⟩ : ∃ yo : Nat, yo = 1 + x.o % 16 := ⟨_, rfl⟩
        have HY := Lib.hid (show (evC y).toArray = #[.int .i64 yt, .int .i64 s, .int .i64 (yq : Int), .int .i64 (yo : Int), .int .i64 x.v] by rw [hy, hyt, hyq, hyo]; simp [mkB, evC])
        have a1 : ((x.la : Int) % 10) = ((x.la % 10 : Nat) : Int) := by omega
        have a2 : ((x.sk : Int) % 3) = ((x.sk % 3 : Nat) : Int) := by omega
        have a3 : ((x.o : Int) % 16) = ((x.o % 16 : Nat) : Int) := by omega
        have b1 : e + ((x.la % 10 : Nat) : Int) = yt := hyt.symm
        have b2 : (Q : Int) + ((x.sk % 3 : Nat) : Int) = (yq : Int) := by omega
        have b3 : 1 + ((x.o % 16 : Nat) : Int) = (yo : Int) := by omega
        have wlt : yt ≤ 281474976711000 ∧ -1000 ≤ yt := by omega
        have wq : yq ≤ 1000 := by omega
        have wo : yo ≤ 16 := by omega
        have r1 := hxo.la
        have r2 := hxo.o
        have r3 := hxo.sk
        have hm3 : nextQ 0 (l.take (k + 1)) = yq + 1 := by omega
        have HM1 := Lib.hid hm1
        have HM3 := Lib.hid hm3
        generalize hla : x.la % 10 = la at *
        generalize hsk : x.sk % 3 = sk at *
        generalize hoo : x.o % 16 = oo at *
        clear hx hxo hm1 hm2 hm3 hy hyt hyq hyo hQ hla hsk hoo
        go_wp2_with (refine wpl_append_atS (by rfl) rfl ul_ev info_ev rfl rfl (HO.out.1.ext ((Ext.alloc _ _).t (Ext.alloc _ _))) rfl (Src.ofRdS ul_ev evC_len (rdS_one_at evC_len _ _ y HY.out.symm (Array.size_push _).symm) evC_one) (by simp only [maxLen]; omega) (by omega) ?_)
        intro A3 c3' w3 r3' ch3 ft3
        have HR := Lib.hid (we_app HO.out ((Ext.alloc _ _).t (Ext.alloc _ _)) r3' ch3 (by simpa using ft3))
        rw [← HM1.out] at HR
        clear r3' ch3 ft3 HO
        refine Lib.hid ?_
        go_wp2_with fail
        go_roundw
        case rel => exact ⟨k + 1, A3, c3', yq + 1, by omega, by go_num, by go_num, HM3.out.symm, rfl, HR⟩
        case measure => simp [intOf]; omega
      · obtain rfl : n = k := by omega
        have hltI : ¬ ((n : Int) < (n : Int)) := by omega
        have HF := HO
        go_wp2_with fail
        go_ret
        exact ⟨Ao, n, co, rfl, by rw [show l.take 40 = l.take n by rw [List.take_of_length_le (by have := Hl.out; omega), List.take_of_length_le (by have := Hl.out; omega)]]; exact HF.out⟩
  · have hI : ¬ ((n : Int) ≤ 40) := by omega
    have hsl := fun w' => sb_to (A := A) (n := n) (c := c) (hi := 40) (li := 40) w' rfl (by omega)
    go_enter Try.func11, Try.ntmps11
    go_wp2_with fail
    go_loopw [7, 8, 17] (fun a q i wr => ∃ (k : Nat) (Ao : Option Addr) (co Q : Nat), k ≤ 40 ∧ i = .int .i64 (k : Int) ∧ q = .int .i64 (Q : Int) ∧ Q = nextQ 0 (l.take k) ∧ a = .slice Ao k co ∧ Hid (WoE w Ao k co (madeF s e 0 (l.take k)) wr)) (fun _ _ i _ => 40 - (intOf i).toNat)
    case atStart => exact ⟨0, none, 0, 0, by omega, rfl, rfl, rfl, rfl, Lib.hid ⟨RoomS.nil, rfl, fun q hq => absurd hq foot_none, Ext.refl _⟩⟩
    case round =>
      obtain ⟨k, Ao, co, Q, hk, rfl, rfl, hQ, rfl, HO⟩ := hrel
      by_cases hlt : k < 40
      · obtain ⟨b, o, x, rfl, _, hx, c0, c1, c2, c3⟩ := (H.out.rd.ext HO.out.2.2.2).sb (k := k) (by omega)
        have hltI : (k : Int) < (40 : Int) := by omega
        have hxo := H.out.ok x (List.mem_of_getElem? hx)
        obtain ⟨hm1, hm2⟩ := madeF_snoc s e 0 hx
        rw [← hQ] at hm1 hm2
        have hQb : Q ≤ 3 * k := by have := (nextQ_le (l.take k) 0).2; rw [List.length_take] at this; omega
        obtain ⟨y, hy⟩ : ∃ y, y = mkB s e Q x := ⟨_, rfl⟩
        rw [← hy] at hm1
        obtain ⟨yt, hyt⟩ : ∃ yt : Int, yt = e + ((x.la % 10 : Nat) : Int) := ⟨_, rfl⟩
        obtain ⟨yq, hyq⟩ : ∃ yq : Nat, yq = Q + x.sk % 3 := ⟨_, rfl⟩
        obtain ⟨yo, hyo⟩ : ∃ yo : Nat, yo = 1 + x.o % 16 := ⟨_, rfl⟩
        have HY := Lib.hid (show (evC y).toArray = #[.int .i64 yt, .int .i64 s, .int .i64 (yq : Int), .int .i64 (yo : Int), .int .i64 x.v] by rw [hy, hyt, hyq, hyo]; simp [mkB, evC])
        have a1 : ((x.la : Int) % 10) = ((x.la % 10 : Nat) : Int) := by omega
        have a2 : ((x.sk : Int) % 3) = ((x.sk % 3 : Nat) : Int) := by omega
        have a3 : ((x.o : Int) % 16) = ((x.o % 16 : Nat) : Int) := by omega
        have b1 : e + ((x.la % 10 : Nat) : Int) = yt := hyt.symm
        have b2 : (Q : Int) + ((x.sk % 3 : Nat) : Int) = (yq : Int) := by omega
        have b3 : 1 + ((x.o % 16 : Nat) : Int) = (yo : Int) := by omega
        have wlt : yt ≤ 281474976711000 ∧ -1000 ≤ yt := by omega
        have wq : yq ≤ 1000 := by omega
        have wo : yo ≤ 16 := by omega
        have r1 := hxo.la
        have r2 := hxo.o
        have r3 := hxo.sk
        have hm3 : nextQ 0 (l.take (k + 1)) = yq + 1 := by omega
        have HM1 := Lib.hid hm1
        have HM3 := Lib.hid hm3
        generalize hla : x.la % 10 = la at *
        generalize hsk : x.sk % 3 = sk at *
        generalize hoo : x.o % 16 = oo at *
        clear hx hxo hm1 hm2 hm3 hy hyt hyq hyo hQ hla hsk hoo
        go_wp2_with (refine wpl_append_atS (by rfl) rfl ul_ev info_ev rfl rfl (HO.out.1.ext ((Ext.alloc _ _).t (Ext.alloc _ _))) rfl (Src.ofRdS ul_ev evC_len (rdS_one_at evC_len _ _ y HY.out.symm (Array.size_push _).symm) evC_one) (by simp only [maxLen]; omega) (by omega) ?_)
        intro A3 c3' w3 r3' ch3 ft3
        have HR := Lib.hid (we_app HO.out ((Ext.alloc _ _).t (Ext.alloc _ _)) r3' ch3 (by simpa using ft3))
        rw [← HM1.out] at HR
        clear r3' ch3 ft3 HO
        refine Lib.hid ?_
        go_wp2_with fail
        go_roundw
        case rel => exact ⟨k + 1, A3, c3', yq + 1, by omega, by go_num, by go_num, HM3.out.symm, rfl, HR⟩
        case measure => simp [intOf]; omega
      · obtain rfl : k = 40 := by omega
        have hltI : ¬ ((40 : Int) < (40 : Int)) := by omega
        have HF := HO
        go_wp2_with fail
        go_ret
        exact ⟨Ao, 40, co, rfl, HF.out⟩
end Go.Proofs.Ytdjpggnadelnaaa
