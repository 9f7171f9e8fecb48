/- Maw: the examples of the chapter: awake answers true and writes nothing that was there. -/
import Derived.Test.YtkeapijehfacfaaMdl
import Derived.Test.YtkeapijehfacfaaSeg
import Derived.Deep.RegionHeld3
namespace Go.Proofs.Ytkeapijehfacfaa
open Go.RowKit Go.Fx
theorem at_ (t s q : Int) (w : World) : Calls Try.prog 30 #[.int .i64 t, .int .i64 s, .int .i64 q] w fun e w' => e = .returned (evV ⟨t, s, q, 1, 0⟩) ∧ w.alloc (.cells (evC ⟨t, s, q, 1, 0⟩).toArray 37) = w' := by
  unfold evV evC
  go_enter Try.func30, Try.ntmps30
  go_wp2_with fail
  refine bodyPost_ret (v := .agg #[.int .i64 t, .int .i64 s, .int .i64 q, .int .i64 1, .int .i64 0]) (by simp [results, Try.results30, go_sem]) rfl ⟨rfl, rfl⟩
theorem at_ag (t s q : Int) (w : World) : Calls Try.prog 30 #[.int .i64 t, .int .i64 s, .int .i64 q] w fun e w' => e = .returned (.agg #[.int .i64 t, .int .i64 s, .int .i64 q, .int .i64 1, .int .i64 0]) ∧ w.alloc (.cells (evC ⟨t, s, q, 1, 0⟩).toArray 37) = w' := at_ t s q w
theorem rdS_blk {w : World} {g n : Nat} {t : TypeId} {cs : Array Value} {l : List Ev} (h : Blk w g t cs) (hc : cs = (l.flatMap evC).toArray) (hl : l.length = n) (hn : n ≤ 1000) : RdS 5 evC w (some ⟨g, 0, none⟩) n l := by
  subst hc
  have h1 : (List.flatMap evC l).toArray.size = n * 5 := by rw [List.size_toArray, flat_len evC_len, hl]
  exact (RoomS.of_blk h h1 (by unfold maxLen; omega)).rd evC_len (by decide)
theorem aw_merge {A : Option Addr} {n c : Nat} {ss : List Sl} {ls : List (List Ev)} {w : World} {r : List Ev} {i : Int} {er : Nat} {ei : Int} (hF : mergeF ls = (r, i, er)) (h1 : ei = (er : Int)) (h : Rd slv w A n ss) (hs : Els w ss ls) (hn : n ≤ 1000) (hm : ∀ s ∈ ss, s.n ≤ 1000) (hok : ∀ l ∈ ls, ∀ x ∈ l, EvOk x) (htot : ls.flatten.length ≤ 1000) :
    Calls Try.prog 19 #[.slice A n c] w fun e w' => ∃ A' c', e = .returned (.tuple #[.slice A' r.length c', .int .i64 i, .int .i64 ei]) ∧ RdS 5 evC w' A' r.length r ∧ Ext w w' := by
  subst h1
  refine (merge_ A n c ss ls w h hs (by omega) (fun s h => by have := hm s h; omega) hok (by omega)).mono ?_
  rintro e w' ⟨A', n', c', rfl, hr, hl, _, he⟩
  rw [hF] at hr hl ⊢
  subst hl
  exact ⟨A', c', rfl, hr.rd evC_len (by decide), he⟩
theorem aw_runs {A : Option Addr} {n c : Nat} {l : List Ev} {w : World} {r : List (Nat × Nat)} (hF : runsF l = r) (h : RdS 5 evC w A n l) (hn : n ≤ 1000) :
    Calls Try.prog 15 #[.slice A n c] w fun e w' => ∃ A' c', e = .returned (.slice A' r.length c') ∧ RdS 2 pairC w' A' r.length r ∧ Ext w w' := by
  refine (runs_ A n c l w h (by omega)).mono ?_
  rintro e w' ⟨A', n', c', rfl, hr, hl, _, he⟩
  rw [hF] at hr hl
  subst hl
  exact ⟨A', c', rfl, hr.rd pairC_len (by decide), he⟩
theorem aw_cut {A : Option Addr} {n c : Nat} {l l1 l2 : List Ev} {t : Int} {w : World} (hF : cutF l t = (l1, l2, 0)) (h : RdS 5 evC w A n l) (hc : n ≤ c) (hn : n ≤ 1000) :
    Calls Try.prog 23 #[.slice A n c, .int .i64 t] w fun e w' => ∃ A1 c1 A2 c2, e = .returned (.tuple #[.slice A1 l1.length c1, .slice A2 l2.length c2, .int .i64 0]) ∧ Ext w w' := by
  refine (cut_ A n c l t w h hc (by omega)).mono ?_
  rintro e w' ⟨A1, n1, c1, A2, n2, c2, rfl, _, _, h1, h2, _, _, he⟩
  rw [hF] at h1 h2 ⊢
  subst h1 h2
  exact ⟨A1, c1, A2, c2, rfl, he⟩
theorem aw_least {A : Option Addr} {n c : Nat} {ss : List Sl} {ls : List (List Ev)} {w : World} {b : Option (Nat × Ev)} {i : Int} {ok : Bool} (hF : leastF ls = b) (hi : (ixO b : Int) = i) (hk : isO b = ok) (h : Rd slv w A n ss) (hs : Els w ss ls) (hn : n ≤ 1000) :
    Calls Try.prog 32 #[.slice A n c] w fun e w' => e = .returned (.tuple #[.int .i64 i, .bool ok]) ∧ Ext w w' := by
  subst hi hk
  refine (least_ A n c ss ls w h hs (by omega)).mono ?_
  rintro e w' ⟨rfl, he⟩
  rw [hF]
  exact ⟨rfl, he⟩
theorem aw_deal {A : Option Addr} {n c : Nat} {l : List Ev} {m : Int} {w : World} {r : List (List Ev)} (hF : dealF l m = (r, -1, 0)) (h : RdS 5 evC w A n l) (hn : n ≤ 1000) :
    Calls Try.prog 21 #[.slice A n c, .int .i64 m] w fun e w' => ∃ A' c' ss, e = .returned (.tuple #[.slice A' r.length c', .int .i64 (-1), .int .i64 0]) ∧ Rd slv w' A' r.length ss ∧ Els w' ss r ∧ Ext w w' := by
  refine (deal_ A n c l m w h (by omega)).mono ?_
  rintro e w' ⟨A', n', c', ss, rfl, hl, he⟩
  rw [hF] at hl ⊢
  have hn := hl.n_
  subst hn
  exact ⟨A', c', ss, rfl, hl.room.rd, hl.els, he⟩
theorem aw_same {A1 A2 : Option Addr} {n1 n2 c1 c2 : Nat} {xs ys : List Ev} {w : World} (hF : xs = ys) (h1 : RdS 5 evC w A1 n1 xs) (h2 : RdS 5 evC w A2 n2 ys) (m1 : n1 ≤ 1000) (m2 : n2 ≤ 1000) :
    Calls Try.prog 20 #[.slice A1 n1 c1, .slice A2 n2 c2] w fun e w' => e = .returned (.bool true) ∧ Ext w w' := by
  have h := same_ A1 A2 n1 n2 c1 c2 xs ys w h1 h2 (by omega) (by omega)
  rwa [show decide (xs = ys) = true from decide_eq_true hF] at h
theorem aw_pairs {A1 A2 : Option Addr} {n1 n2 c1 c2 : Nat} {xs ys : List (Nat × Nat)} {w : World} (hF : xs = ys) (h1 : RdS 2 pairC w A1 n1 xs) (h2 : RdS 2 pairC w A2 n2 ys) (m1 : n1 ≤ 1000) (m2 : n2 ≤ 1000) :
    Calls Try.prog 40 #[.slice A1 n1 c1, .slice A2 n2 c2] w fun e w' => e = .returned (.bool true) ∧ Ext w w' := by
  have h := equalP A1 A2 n1 n2 c1 c2 xs ys w h1 h2 (by omega) (by omega)
  rwa [show decide (xs = ys) = true from decide_eq_true hF] at h
theorem rdS_past {α : Type} {f : α → List Value} {s : Nat} {w w1 w2 : World} {A : Option Addr} {n g : Nat} {xs : List α} (h : RdS s f w A n xs) (e : Ext w w1) (hg : w.heap.size ≤ g) (ch : Chg (fun k => k = g) w1 w2) : RdS s f w2 A n xs :=
  (h.ext e).chg ch (fun k o hA hn hk => by
    obtain ⟨b, o', e1, hb, _⟩ := h.2 hn
    rw [hA] at e1
    cases e1
    omega)
theorem rdP_blk {w : World} {g n : Nat} {t : TypeId} {cs : Array Value} {l : List (Nat × Nat)} (h : Blk w g t cs) (hc : cs = (l.flatMap pairC).toArray) (hl : l.length = n) (hn : n ≤ 1000) : RdS 2 pairC w (some ⟨g, 0, none⟩) n l := by
  subst hc
  have h1 : (List.flatMap pairC l).toArray.size = n * 2 := by rw [List.size_toArray, flat_len pairC_len, hl]
  exact (RoomS.of_blk h h1 (by unfold maxLen; omega)).rd pairC_len (by decide)
theorem els2 {w : World} {s1 s2 : Sl} {l1 l2 : List Ev} (h1 : RdS 5 evC w s1.A s1.n l1) (h2 : RdS 5 evC w s2.A s2.n l2) (c1 : s1.n ≤ s1.c) (c2 : s2.n ≤ s2.c) : Els w [s1, s2] [l1, l2] := ((Els.nil.snoc c1 h1).snoc c2 h2)
theorem els3 {w : World} {s1 s2 s3 : Sl} {l1 l2 l3 : List Ev} (h1 : RdS 5 evC w s1.A s1.n l1) (h2 : RdS 5 evC w s2.A s2.n l2) (h3 : RdS 5 evC w s3.A s3.n l3) (c1 : s1.n ≤ s1.c) (c2 : s2.n ≤ s2.c) (c3 : s3.n ≤ s3.c) : Els w [s1, s2, s3] [l1, l2, l3] := (((Els.nil.snoc c1 h1).snoc c2 h2).snoc c3 h3)
def okB (l : List Ev) : Bool := l.all fun e => decide (-1000 ≤ e.t ∧ e.t ≤ 1000 ∧ -1000 ≤ e.s ∧ e.s ≤ 1000 ∧ -1000 ≤ e.q ∧ e.q ≤ 1000 ∧ -1000 ≤ e.to ∧ e.to ≤ 1000 ∧ -1000 ≤ e.v ∧ e.v ≤ 1000)
theorem ok_of {l : List Ev} (h : okB l = true) : ∀ x ∈ l, EvOk x := by
  intro x hx
  have := List.all_eq_true.1 h x hx
  simp only [decide_eq_true_eq] at this
  constructor <;> omega
theorem oks_of {ls : List (List Ev)} (h : ls.all okB = true) : ∀ l ∈ ls, ∀ x ∈ l, EvOk x := fun l hl => ok_of (List.all_eq_true.1 h l hl)
section
variable {P : Program} {ops : Array Oper} {Q : Exit → Act → World → Prop} {md : Region.Mode} {S : World → Prop}
/-- As 'wpAny_take': the slot is a letter of its own, so that the act stays plain. -/
theorem take_any {i j : Nat} {oi : Oper} {v : Value} {fuel : Nat} {listed : Array Bool} {a : Act} {w : World} (hi : ops[i]? = some oi) (hd : oi.dst = some j)
    (hs : Region.noSelect ops = true) (hf : Region.free md ops listed i = true) (hr : (Region.ready md ops listed).contains i = true)
    (hQ : ∀ c a w, Q (.panic c) (a.put (some j) v) w → Q (.panic c) a w) (hy : Yields P ops oi v a)
    (h : wpAny P md ops Q fuel (listed.setIfInBounds i true) (a.put (some j) v) w) : wpAny P md ops Q (fuel + 1) listed a w :=
  wpAny_take hi hs hf hr (by rw [hd]; exact hQ) hy (by rw [hd]; exact h)
theorem take_held {i j : Nat} {oi : Oper} {v : Value} {fuel : Nat} {listed : Array Bool} {a : Act} {w : World} (hi : ops[i]? = some oi) (hd : oi.dst = some j)
    (hs : Region.noSelect ops = true) (hf : Region.free md ops listed i = true) (hr : (Region.ready md ops listed).contains i = true)
    (hQ : ∀ c a w, Q (.panic c) (a.put (some j) v) w → Q (.panic c) a w) (hy : YieldsIf P ops S oi v a) (hS : S w)
    (h : wpAnyH P md ops Q S fuel (listed.setIfInBounds i true) (a.put (some j) v) w) : wpAnyH P md ops Q S (fuel + 1) listed a w :=
  wpAnyH_take hi hs hf hr (by rw [hd]; exact hQ) hy hS (by rw [hd]; exact h)
end
set_option maxRecDepth 100000 in
set_option maxHeartbeats 16000000 in
theorem awake_ (w : World) : Calls Try.prog 13 #[] w fun e w' => e = .returned (.bool true) ∧ Ext w w' := by
  go_enter Try.func13, Try.ntmps13
  go_wp2_with (first | (go_at_call 30; refine (at_ag _ _ _ _).mono ?_; rintro e w' ⟨rfl, rfl⟩) | (refine wpl_buildS evC_len (by decide) (by rfl) rfl ul_ev info_ev [.tmp 19, .tmp 20] (by rfl) (by rfl) (by decide) [⟨1, 1, 0, 1, 0⟩, ⟨4, 1, 1, 1, 0⟩] (by rfl) ?_))
  intro ga w1 ba e1 loa ra; refine Lib.hid ?_
  have ex1 := (((Ext.alloc _ _).t (Ext.alloc _ _)).t e1)
  have HE := Lib.hid (ex1)
  clear ex1
  have Ra := Lib.hid ra
  have Ba := Lib.hid ba
  clear ra ba loa e1
  go_wp2_with (first | (go_at_call 30; refine (at_ag _ _ _ _).mono ?_; rintro e w' ⟨rfl, rfl⟩) | (refine wpl_buildS evC_len (by decide) (by rfl) rfl ul_ev info_ev [.tmp 22, .tmp 23] (by rfl) (by rfl) (by decide) [⟨2, 0, 0, 1, 0⟩, ⟨4, 0, 5, 1, 0⟩] (by rfl) ?_))
  intro gb w2 bb e2 lob rb; refine Lib.hid ?_
  have ex2 := (((Ext.alloc _ _).t (Ext.alloc _ _)).t e2)
  have HE := Lib.hid (HE.out.t ex2)
  have Ra := Lib.hid (Ra.out.ext ex2)
  have Ba := Lib.hid (Ba.out.ext ex2)
  clear ex2
  have Rb := Lib.hid rb
  have Bb := Lib.hid bb
  clear rb bb lob e2
  go_wp2_with (refine wpl_build (by rfl) rfl ul_ee info_ee [.tmp 26, .tmp 27] (by rfl) (by rfl) (by decide) (f := slv) [⟨some ⟨ga, 0, none⟩, 2, 2⟩, ⟨some ⟨gb, 0, none⟩, 2, 2⟩] (by rfl) (fun _ => rfl) ?_)
  intro gp w3 bp e3 lop rp; refine Lib.hid ?_
  have ex3 := e3
  have HE := Lib.hid (HE.out.t ex3)
  have Ra := Lib.hid (Ra.out.ext ex3)
  have Ba := Lib.hid (Ba.out.ext ex3)
  have Rb := Lib.hid (Rb.out.ext ex3)
  have Bb := Lib.hid (Bb.out.ext ex3)
  clear ex3
  have Rp := Lib.hid rp
  clear rp bp lop e3
  go_wp2_with fail
  refine (aw_merge (ls := [[⟨1, 1, 0, 1, 0⟩, ⟨4, 1, 1, 1, 0⟩], [⟨2, 0, 0, 1, 0⟩, ⟨4, 0, 5, 1, 0⟩]]) (r := [⟨1, 1, 0, 1, 0⟩, ⟨2, 0, 0, 1, 0⟩, ⟨4, 0, 5, 1, 0⟩, ⟨4, 1, 1, 1, 0⟩]) (i := -1) (er := 0) (by decide +kernel) rfl Rp.out (els2 Ra.out Rb.out (Nat.le_refl _) (Nat.le_refl _)) (by decide) (by simp) (oks_of (by decide +kernel)) (by decide)).mono ?_; rintro e w4 ⟨Am, cm, rfl, rm, e4⟩
  have ex4 := e4
  have HE := Lib.hid (HE.out.t ex4)
  have Ra := Lib.hid (Ra.out.ext ex4)
  have Ba := Lib.hid (Ba.out.ext ex4)
  have Rb := Lib.hid (Rb.out.ext ex4)
  have Bb := Lib.hid (Bb.out.ext ex4)
  have Rp := Lib.hid (Rp.out.ext ex4)
  clear ex4
  have RM := Lib.hid rm
  clear rm
  clear e4
  clear Rp
  go_wp2_with (first | (go_at_call 30; refine (at_ag _ _ _ _).mono ?_; rintro e w' ⟨rfl, rfl⟩) | (refine wpl_buildS evC_len (by decide) (by rfl) rfl ul_ev info_ev [.tmp 36] (by rfl) (by rfl) (by decide) [⟨4, 1, 1, 1, 0⟩] (by rfl) ?_))
  intro gc w5 bc e5 loc rc; refine Lib.hid ?_
  have ex5 := ((Ext.alloc _ _).t e5)
  have HE := Lib.hid (HE.out.t ex5)
  have Ra := Lib.hid (Ra.out.ext ex5)
  have Ba := Lib.hid (Ba.out.ext ex5)
  have Rb := Lib.hid (Rb.out.ext ex5)
  have Bb := Lib.hid (Bb.out.ext ex5)
  have RM := Lib.hid (RM.out.ext ex5)
  clear ex5
  have Rc := Lib.hid rc
  have Bc := Lib.hid bc
  clear rc bc loc e5
  go_wp2_with (refine wpl_build (by rfl) rfl ul_ee info_ee [.tmp 34, .tmp 35, .tmp 37] (by rfl) (by rfl) (by decide) (f := slv) [⟨some ⟨ga, 0, none⟩, 2, 2⟩, ⟨some ⟨gb, 0, none⟩, 2, 2⟩, ⟨some ⟨gc, 0, none⟩, 1, 1⟩] (by rfl) (fun _ => rfl) ?_)
  intro gq w6 bq e6 loq rq; refine Lib.hid ?_
  have ex6 := e6
  have HE := Lib.hid (HE.out.t ex6)
  have Ra := Lib.hid (Ra.out.ext ex6)
  have Ba := Lib.hid (Ba.out.ext ex6)
  have Rb := Lib.hid (Rb.out.ext ex6)
  have Bb := Lib.hid (Bb.out.ext ex6)
  have RM := Lib.hid (RM.out.ext ex6)
  have Rc := Lib.hid (Rc.out.ext ex6)
  have Bc := Lib.hid (Bc.out.ext ex6)
  clear ex6
  have Rq := Lib.hid rq
  clear rq bq loq e6
  go_wp2_with fail
  refine (aw_merge (ls := [[⟨1, 1, 0, 1, 0⟩, ⟨4, 1, 1, 1, 0⟩], [⟨2, 0, 0, 1, 0⟩, ⟨4, 0, 5, 1, 0⟩], [⟨4, 1, 1, 1, 0⟩]]) (r := []) (i := 2) (er := 111) (by decide +kernel) rfl Rq.out (els3 Ra.out Rb.out Rc.out (Nat.le_refl _) (Nat.le_refl _) (Nat.le_refl _)) (by decide) (by simp) (oks_of (by decide +kernel)) (by decide)).mono ?_; rintro e w7 ⟨Am2, cm2, rfl, -, e7⟩
  have ex7 := e7
  have HE := Lib.hid (HE.out.t ex7)
  have Ra := Lib.hid (Ra.out.ext ex7)
  have Ba := Lib.hid (Ba.out.ext ex7)
  have Rb := Lib.hid (Rb.out.ext ex7)
  have Bb := Lib.hid (Bb.out.ext ex7)
  have RM := Lib.hid (RM.out.ext ex7)
  have Rc := Lib.hid (Rc.out.ext ex7)
  have Bc := Lib.hid (Bc.out.ext ex7)
  have Rq := Lib.hid (Rq.out.ext ex7)
  clear ex7
  clear e7
  clear Rq Rc Bc
  go_wp2_with (first | (go_at_call 30; refine (at_ag _ _ _ _).mono ?_; rintro e w' ⟨rfl, rfl⟩) | (refine wpl_buildS evC_len (by decide) (by rfl) rfl ul_ev info_ev [.tmp 43, .tmp 44, .tmp 45, .tmp 46] (by rfl) (by rfl) (by decide) [⟨3, 0, 0, 1, 0⟩, ⟨5, 0, 1, 1, 0⟩, ⟨5, 0, 0, 1, 0⟩, ⟨5, 0, 0, 1, 0⟩] (by rfl) ?_))
  intro gr w8 br e8 lor rr; refine Lib.hid ?_
  have ex8 := (((((Ext.alloc _ _).t (Ext.alloc _ _)).t (Ext.alloc _ _)).t (Ext.alloc _ _)).t e8)
  have HE := Lib.hid (HE.out.t ex8)
  have Ra := Lib.hid (Ra.out.ext ex8)
  have Ba := Lib.hid (Ba.out.ext ex8)
  have Rb := Lib.hid (Rb.out.ext ex8)
  have Bb := Lib.hid (Bb.out.ext ex8)
  have RM := Lib.hid (RM.out.ext ex8)
  clear ex8
  have Rr := Lib.hid rr
  have Br := Lib.hid br
  clear rr br lor e8
  go_wp2_with fail
  refine (aw_runs (r := [(0, 2), (2, 3), (3, 4)]) (by decide +kernel) Rr.out (by decide)).mono ?_; rintro e w9 ⟨Ar, cr, rfl, rr, e9⟩
  have ex9 := e9
  have HE := Lib.hid (HE.out.t ex9)
  have Ra := Lib.hid (Ra.out.ext ex9)
  have Ba := Lib.hid (Ba.out.ext ex9)
  have Rb := Lib.hid (Rb.out.ext ex9)
  have Bb := Lib.hid (Bb.out.ext ex9)
  have RM := Lib.hid (RM.out.ext ex9)
  have Rr := Lib.hid (Rr.out.ext ex9)
  have Br := Lib.hid (Br.out.ext ex9)
  clear ex9
  have RR := Lib.hid rr
  clear rr
  clear e9
  clear Rr Br
  go_wp2_with (first | (go_at_call 30; refine (at_ag _ _ _ _).mono ?_; rintro e w' ⟨rfl, rfl⟩) | (refine wpl_buildS evC_len (by decide) (by rfl) rfl ul_ev info_ev [.tmp 50, .tmp 51, .tmp 52] (by rfl) (by rfl) (by decide) [⟨1, 0, 0, 1, 0⟩, ⟨2, 0, 1, 1, 0⟩, ⟨2, 0, 2, 1, 0⟩] (by rfl) ?_))
  intro gt w10 bt e10 lot rt; refine Lib.hid ?_
  have ex10 := ((((Ext.alloc _ _).t (Ext.alloc _ _)).t (Ext.alloc _ _)).t e10)
  have HE := Lib.hid (HE.out.t ex10)
  have Ra := Lib.hid (Ra.out.ext ex10)
  have Ba := Lib.hid (Ba.out.ext ex10)
  have Rb := Lib.hid (Rb.out.ext ex10)
  have Bb := Lib.hid (Bb.out.ext ex10)
  have RM := Lib.hid (RM.out.ext ex10)
  have RR := Lib.hid (RR.out.ext ex10)
  clear ex10
  have Rt := Lib.hid rt
  have Bt := Lib.hid bt
  clear rt bt lot e10
  go_wp2_with fail
  refine (aw_cut (l1 := [⟨1, 0, 0, 1, 0⟩]) (l2 := [⟨2, 0, 1, 1, 0⟩, ⟨2, 0, 2, 1, 0⟩]) (by decide +kernel) Rt.out (by decide) (by decide)).mono ?_; rintro e w11 ⟨Ac1, cc1, Ac2, cc2, rfl, e11⟩
  have ex11 := e11
  have HE := Lib.hid (HE.out.t ex11)
  have Ra := Lib.hid (Ra.out.ext ex11)
  have Ba := Lib.hid (Ba.out.ext ex11)
  have Rb := Lib.hid (Rb.out.ext ex11)
  have Bb := Lib.hid (Bb.out.ext ex11)
  have RM := Lib.hid (RM.out.ext ex11)
  have RR := Lib.hid (RR.out.ext ex11)
  have Rt := Lib.hid (Rt.out.ext ex11)
  have Bt := Lib.hid (Bt.out.ext ex11)
  clear ex11
  clear e11
  clear Rt Bt
  go_wp2_with (first | (go_at_call 30; refine (at_ag _ _ _ _).mono ?_; rintro e w' ⟨rfl, rfl⟩) | (refine wpl_buildS evC_len (by decide) (by rfl) rfl ul_ev info_ev [.tmp 59] (by rfl) (by rfl) (by decide) [⟨5, 1, 0, 1, 0⟩] (by rfl) ?_))
  intro gu w12 bu e12 lou ru; refine Lib.hid ?_
  have ex12 := ((Ext.alloc _ _).t e12)
  have HE := Lib.hid (HE.out.t ex12)
  have Ra := Lib.hid (Ra.out.ext ex12)
  have Ba := Lib.hid (Ba.out.ext ex12)
  have Rb := Lib.hid (Rb.out.ext ex12)
  have Bb := Lib.hid (Bb.out.ext ex12)
  have RM := Lib.hid (RM.out.ext ex12)
  have RR := Lib.hid (RR.out.ext ex12)
  clear ex12
  have Ru := Lib.hid ru
  have Bu := Lib.hid bu
  clear ru bu lou e12
  go_wp2_with (first | (go_at_call 30; refine (at_ag _ _ _ _).mono ?_; rintro e w' ⟨rfl, rfl⟩) | (refine wpl_buildS evC_len (by decide) (by rfl) rfl ul_ev info_ev [.tmp 61] (by rfl) (by rfl) (by decide) [⟨5, 0, 9, 1, 0⟩] (by rfl) ?_))
  intro gv w13 bv e13 lov rv; refine Lib.hid ?_
  have ex13 := ((Ext.alloc _ _).t e13)
  have HE := Lib.hid (HE.out.t ex13)
  have Ra := Lib.hid (Ra.out.ext ex13)
  have Ba := Lib.hid (Ba.out.ext ex13)
  have Rb := Lib.hid (Rb.out.ext ex13)
  have Bb := Lib.hid (Bb.out.ext ex13)
  have RM := Lib.hid (RM.out.ext ex13)
  have RR := Lib.hid (RR.out.ext ex13)
  have Ru := Lib.hid (Ru.out.ext ex13)
  have Bu := Lib.hid (Bu.out.ext ex13)
  clear ex13
  have Rv := Lib.hid rv
  have Bv := Lib.hid bv
  clear rv bv lov e13
  go_wp2_with (refine wpl_build (by rfl) rfl ul_ee info_ee [.const (.slice none 0 0), .tmp 60, .tmp 62] (by rfl) (by rfl) (by decide) (f := slv) [⟨none, 0, 0⟩, ⟨some ⟨gu, 0, none⟩, 1, 1⟩, ⟨some ⟨gv, 0, none⟩, 1, 1⟩] (by rfl) (fun _ => rfl) ?_)
  intro gx w14 bx e14 lox rx; refine Lib.hid ?_
  have ex14 := e14
  have HE := Lib.hid (HE.out.t ex14)
  have Ra := Lib.hid (Ra.out.ext ex14)
  have Ba := Lib.hid (Ba.out.ext ex14)
  have Rb := Lib.hid (Rb.out.ext ex14)
  have Bb := Lib.hid (Bb.out.ext ex14)
  have RM := Lib.hid (RM.out.ext ex14)
  have RR := Lib.hid (RR.out.ext ex14)
  have Ru := Lib.hid (Ru.out.ext ex14)
  have Bu := Lib.hid (Bu.out.ext ex14)
  have Rv := Lib.hid (Rv.out.ext ex14)
  have Bv := Lib.hid (Bv.out.ext ex14)
  clear ex14
  have Rx := Lib.hid rx
  clear rx bx lox e14
  go_wp2_with fail
  refine (aw_least (ls := [[], [⟨5, 1, 0, 1, 0⟩], [⟨5, 0, 9, 1, 0⟩]]) (b := some (2, ⟨5, 0, 9, 1, 0⟩)) (i := 2) (ok := true) (by decide +kernel) rfl rfl Rx.out (els3 RdS.none_ Ru.out Rv.out (Nat.le_refl _) (Nat.le_refl _) (Nat.le_refl _)) (by decide)).mono ?_; rintro e w15 ⟨rfl, e15⟩
  have ex15 := e15
  have HE := Lib.hid (HE.out.t ex15)
  have Ra := Lib.hid (Ra.out.ext ex15)
  have Ba := Lib.hid (Ba.out.ext ex15)
  have Rb := Lib.hid (Rb.out.ext ex15)
  have Bb := Lib.hid (Bb.out.ext ex15)
  have RM := Lib.hid (RM.out.ext ex15)
  have RR := Lib.hid (RR.out.ext ex15)
  have Ru := Lib.hid (Ru.out.ext ex15)
  have Bu := Lib.hid (Bu.out.ext ex15)
  have Rv := Lib.hid (Rv.out.ext ex15)
  have Bv := Lib.hid (Bv.out.ext ex15)
  have Rx := Lib.hid (Rx.out.ext ex15)
  clear ex15
  clear e15
  clear Ru Bu Rv Bv Rx
  have PRa := Ra
  have PRb := Rb
  have PRM := RM
  have PRR := RR
  go_wp2_with (first | (go_at_call 30; refine (at_ag _ _ _ _).mono ?_; rintro e w' ⟨rfl, rfl⟩) | (refine wpl_buildS evC_len (by decide) (by rfl) rfl ul_ev info_ev [.tmp 67, .tmp 68, .tmp 69] (by rfl) (by rfl) (by decide) [⟨1, 0, 0, 1, 0⟩, ⟨1, 0, 1, 1, 0⟩, ⟨1, 0, 2, 1, 0⟩] (by rfl) ?_))
  intro gd w16 bd e16 lod rd; refine Lib.hid ?_
  have hx := (((Ext.alloc _ _).t (Ext.alloc _ _)).t (Ext.alloc _ _)).t e16
  have hlo : w15.heap.size ≤ gd := by omega
  have HEp := HE
  have HE := Lib.hid (HE.out.t hx)
  have Hlo := Lib.hid hlo
  have Hx := Lib.hid hx
  have HBa := Lib.hid (Ba.out.ext hx)
  have HBb := Lib.hid (Bb.out.ext hx)
  have HLa := Lib.hid (show ga ≠ gd from fun e => by have := Ba.out.lt; omega)
  have HLb := Lib.hid (show gb ≠ gd from fun e => by have := Bb.out.lt; omega)
  have HBd := Lib.hid bd
  have q3 : _ = some (Value.int .i64 1) := (bd.cell 3).trans rfl
  have f3 := bd.frozen 3
  have q13 : _ = some (Value.int .i64 1) := (bd.cell 13).trans rfl
  have f13 := bd.frozen 13
  clear hx hlo lod rd bd Ra Rb RM RR Ba Bb e16
  go_wp2_with fail
  obtain ⟨W2, hW2⟩ : ∃ W2, W2 = (w16.setCell ⟨gd, 3, none⟩ (.int .i64 2)).setCell ⟨gd, 13, none⟩ (.int .i64 2) := ⟨_, rfl⟩
  have hch : Chg (fun k => k = gd) w16 W2 := by rw [hW2]; exact (Chg.set (T := fun k => k = gd) _ gd 3 _ rfl).t (Chg.set (T := fun k => k = gd) _ gd 13 _ rfl)
  have hbd : Blk W2 gd 37 (List.flatMap evC [⟨1, 0, 0, 2, 0⟩, ⟨1, 0, 1, 1, 0⟩, ⟨1, 0, 2, 2, 0⟩]).toArray := by rw [hW2]; exact (HBd.out.set_ 3 _).set_ 13 _
  rw [← hW2]
  have HE := Lib.hid (HE.out.trans (hch.below HE.out.size (fun k hk e => by have := Hlo.out; have := HEp.out.size; omega)))
  have Ra := Lib.hid (rdS_past PRa.out Hx.out Hlo.out hch)
  have Rb := Lib.hid (rdS_past PRb.out Hx.out Hlo.out hch)
  have RM := Lib.hid (rdS_past PRM.out Hx.out Hlo.out hch)
  have RR := Lib.hid (rdS_past PRR.out Hx.out Hlo.out hch)
  have Ba := Lib.hid (HBa.out.chg hch HLa.out)
  have Bb := Lib.hid (HBb.out.chg hch HLb.out)
  have Bd := Lib.hid hbd
  have Rd := Lib.hid (rdS_blk (n := 3) hbd rfl rfl (by decide))
  clear hW2 hch hbd q3 f3 q13 f13 PRa PRb PRM PRR HBa HBb HLa HLb HBd Hx Hlo HEp
  go_wp2_with fail
  refine (aw_deal (r := [[⟨1, 0, 1, 1, 0⟩], [⟨1, 0, 0, 2, 0⟩, ⟨1, 0, 2, 2, 0⟩]]) (by decide +kernel) Rd.out (by decide)).mono ?_; rintro e w17 ⟨Ad, cd, sd, rfl, rs, els, e17⟩
  have ex17 := e17
  have HE := Lib.hid (HE.out.t ex17)
  have Ra := Lib.hid (Ra.out.ext ex17)
  have Rb := Lib.hid (Rb.out.ext ex17)
  have RM := Lib.hid (RM.out.ext ex17)
  have RR := Lib.hid (RR.out.ext ex17)
  have Ba := Lib.hid (Ba.out.ext ex17)
  have Bb := Lib.hid (Bb.out.ext ex17)
  have Bd := Lib.hid (Bd.out.ext ex17)
  have Rd := Lib.hid (Rd.out.ext ex17)
  clear ex17
  have RS := Lib.hid rs
  clear rs
  have ELS := Lib.hid els
  clear els
  clear e17
  obtain ⟨ds0, dl0, hd0, hdl0, hdc0, hdr0⟩ := ELS.out.get (i := 0) (by have := RS.out.1; simp at this ⊢; omega)
  obtain ⟨ds1, dl1, hd1, hdl1, hdc1, hdr1⟩ := ELS.out.get (i := 1) (by have := RS.out.1; simp at this ⊢; omega)
  have hdl0' : dl0 = [⟨1, 0, 1, 1, 0⟩] := by simpa using hdl0.symm
  have hdl1' : dl1 = [⟨1, 0, 0, 2, 0⟩, ⟨1, 0, 2, 2, 0⟩] := by simpa using hdl1.symm
  subst hdl0' hdl1'
  obtain ⟨bs, os, x0, hAd, _, hx0, hc0⟩ := RS.out.at_ (k := 0) (by decide)
  obtain ⟨bs', os', x1, hAd1, _, hx1, hc1⟩ := RS.out.at_ (k := 1) (by decide)
  subst hAd
  cases hAd1
  rw [hd0] at hx0; cases hx0
  rw [hd1] at hx1; cases hx1
  have Rd0 := Lib.hid hdr0
  have Rd1 := Lib.hid hdr1
  have Hs0 := Lib.hid hc0
  have Hs1 := Lib.hid hc1
  have hn0 : ds0.n = 1 := hdr0.1.symm
  have hn1 : ds1.n = 2 := hdr1.1.symm
  obtain ⟨dA0, dn0, dc0⟩ := ds0
  obtain ⟨dA1, dn1, dc1⟩ := ds1
  change dn0 = 1 at hn0
  change dn1 = 2 at hn1
  subst hn0 hn1
  clear hd0 hdl0 hdc0 hdr0 hd1 hdl1 hdc1 hdr1 hc0 hc1 RS ELS
  obtain ⟨wq, hwq⟩ : ∃ wq, wq = w17 := ⟨_, rfl⟩
  have HSS : Hid (∀ w', Ext w17 w' → Ext w17 w' ∧ w'.cell? ⟨ga, 0, none⟩ = some (.int .i64 1) ∧ w'.cell? ⟨ga, 1, none⟩ = some (.int .i64 1) ∧ w'.cell? ⟨ga, 2, none⟩ = some (.int .i64 0) ∧ w'.cell? ⟨ga, 3, none⟩ = some (.int .i64 1) ∧ w'.cell? ⟨ga, 4, none⟩ = some (.int .i64 0) ∧ w'.cell? ⟨ga, 5, none⟩ = some (.int .i64 4) ∧ w'.cell? ⟨ga, 6, none⟩ = some (.int .i64 1) ∧ w'.cell? ⟨ga, 7, none⟩ = some (.int .i64 1) ∧ w'.cell? ⟨ga, 8, none⟩ = some (.int .i64 1) ∧ w'.cell? ⟨ga, 9, none⟩ = some (.int .i64 0) ∧ w'.cell? ⟨gb, 0, none⟩ = some (.int .i64 2) ∧ w'.cell? ⟨gb, 1, none⟩ = some (.int .i64 0) ∧ w'.cell? ⟨gb, 2, none⟩ = some (.int .i64 0) ∧ w'.cell? ⟨gb, 3, none⟩ = some (.int .i64 1) ∧ w'.cell? ⟨gb, 4, none⟩ = some (.int .i64 0) ∧ w'.cell? ⟨gb, 5, none⟩ = some (.int .i64 4) ∧ w'.cell? ⟨gb, 6, none⟩ = some (.int .i64 0) ∧ w'.cell? ⟨gb, 7, none⟩ = some (.int .i64 5) ∧ w'.cell? ⟨gb, 8, none⟩ = some (.int .i64 1) ∧ w'.cell? ⟨gb, 9, none⟩ = some (.int .i64 0) ∧ w'.cell? ⟨gd, 0, none⟩ = some (.int .i64 1) ∧ w'.cell? ⟨gd, 1, none⟩ = some (.int .i64 0) ∧ w'.cell? ⟨gd, 2, none⟩ = some (.int .i64 0) ∧ w'.cell? ⟨gd, 3, none⟩ = some (.int .i64 2) ∧ w'.cell? ⟨gd, 4, none⟩ = some (.int .i64 0) ∧ w'.cell? ⟨gd, 10, none⟩ = some (.int .i64 1) ∧ w'.cell? ⟨gd, 11, none⟩ = some (.int .i64 0) ∧ w'.cell? ⟨gd, 12, none⟩ = some (.int .i64 2) ∧ w'.cell? ⟨gd, 13, none⟩ = some (.int .i64 2) ∧ w'.cell? ⟨gd, 14, none⟩ = some (.int .i64 0) ∧ w'.cell? ⟨bs, os, none⟩ = some (.slice dA0 1 dc0) ∧ w'.cell? ⟨bs, os + 1, none⟩ = some (.slice dA1 2 dc1)) := Lib.hid (fun w' e => ⟨e, ((Ba.out.ext e).cell 0).trans (show _ = some (Value.int .i64 1) from rfl), ((Ba.out.ext e).cell 1).trans (show _ = some (Value.int .i64 1) from rfl), ((Ba.out.ext e).cell 2).trans (show _ = some (Value.int .i64 0) from rfl), ((Ba.out.ext e).cell 3).trans (show _ = some (Value.int .i64 1) from rfl), ((Ba.out.ext e).cell 4).trans (show _ = some (Value.int .i64 0) from rfl), ((Ba.out.ext e).cell 5).trans (show _ = some (Value.int .i64 4) from rfl), ((Ba.out.ext e).cell 6).trans (show _ = some (Value.int .i64 1) from rfl), ((Ba.out.ext e).cell 7).trans (show _ = some (Value.int .i64 1) from rfl), ((Ba.out.ext e).cell 8).trans (show _ = some (Value.int .i64 1) from rfl), ((Ba.out.ext e).cell 9).trans (show _ = some (Value.int .i64 0) from rfl), ((Bb.out.ext e).cell 0).trans (show _ = some (Value.int .i64 2) from rfl), ((Bb.out.ext e).cell 1).trans (show _ = some (Value.int .i64 0) from rfl), ((Bb.out.ext e).cell 2).trans (show _ = some (Value.int .i64 0) from rfl), ((Bb.out.ext e).cell 3).trans (show _ = some (Value.int .i64 1) from rfl), ((Bb.out.ext e).cell 4).trans (show _ = some (Value.int .i64 0) from rfl), ((Bb.out.ext e).cell 5).trans (show _ = some (Value.int .i64 4) from rfl), ((Bb.out.ext e).cell 6).trans (show _ = some (Value.int .i64 0) from rfl), ((Bb.out.ext e).cell 7).trans (show _ = some (Value.int .i64 5) from rfl), ((Bb.out.ext e).cell 8).trans (show _ = some (Value.int .i64 1) from rfl), ((Bb.out.ext e).cell 9).trans (show _ = some (Value.int .i64 0) from rfl), ((Bd.out.ext e).cell 0).trans (show _ = some (Value.int .i64 1) from rfl), ((Bd.out.ext e).cell 1).trans (show _ = some (Value.int .i64 0) from rfl), ((Bd.out.ext e).cell 2).trans (show _ = some (Value.int .i64 0) from rfl), ((Bd.out.ext e).cell 3).trans (show _ = some (Value.int .i64 2) from rfl), ((Bd.out.ext e).cell 4).trans (show _ = some (Value.int .i64 0) from rfl), ((Bd.out.ext e).cell 10).trans (show _ = some (Value.int .i64 1) from rfl), ((Bd.out.ext e).cell 11).trans (show _ = some (Value.int .i64 0) from rfl), ((Bd.out.ext e).cell 12).trans (show _ = some (Value.int .i64 2) from rfl), ((Bd.out.ext e).cell 13).trans (show _ = some (Value.int .i64 2) from rfl), ((Bd.out.ext e).cell 14).trans (show _ = some (Value.int .i64 0) from rfl), (e.cell (p := ⟨bs, os, none⟩) (World.block_lt_of_cell? _ _ Hs0.out)).trans Hs0.out, (e.cell (p := ⟨bs, os + 1, none⟩) (World.block_lt_of_cell? _ _ Hs1.out)).trans Hs1.out⟩)
  have hsl := fun w' => ev_cut (A := some ⟨gd, 0, none⟩) (n := 3) (c := 3) (lo := 1) (hi := 2) (l1 := 1) (l2 := 2) w' rfl rfl (by decide) (by decide)
  have RL := Lib.hid (RdS.cut (lo := 1) (hi := 2) (c := 3) Rd.out (by decide) (by decide) (by decide))
  generalize fromS 5 (some ⟨gd, 0, none⟩) 3 1 = fL at *
  go_upto_region 10 with fail
  clear HSS
  have zga0 := (Ba.out.cell 0).trans (show _ = some (Value.int .i64 1) from rfl)
  have zga1 := (Ba.out.cell 1).trans (show _ = some (Value.int .i64 1) from rfl)
  have zga2 := (Ba.out.cell 2).trans (show _ = some (Value.int .i64 0) from rfl)
  have zga3 := (Ba.out.cell 3).trans (show _ = some (Value.int .i64 1) from rfl)
  have zga4 := (Ba.out.cell 4).trans (show _ = some (Value.int .i64 0) from rfl)
  have zga5 := (Ba.out.cell 5).trans (show _ = some (Value.int .i64 4) from rfl)
  have zga6 := (Ba.out.cell 6).trans (show _ = some (Value.int .i64 1) from rfl)
  have zga7 := (Ba.out.cell 7).trans (show _ = some (Value.int .i64 1) from rfl)
  have zga8 := (Ba.out.cell 8).trans (show _ = some (Value.int .i64 1) from rfl)
  have zga9 := (Ba.out.cell 9).trans (show _ = some (Value.int .i64 0) from rfl)
  have zgb0 := (Bb.out.cell 0).trans (show _ = some (Value.int .i64 2) from rfl)
  have zgb1 := (Bb.out.cell 1).trans (show _ = some (Value.int .i64 0) from rfl)
  have zgb2 := (Bb.out.cell 2).trans (show _ = some (Value.int .i64 0) from rfl)
  have zgb3 := (Bb.out.cell 3).trans (show _ = some (Value.int .i64 1) from rfl)
  have zgb4 := (Bb.out.cell 4).trans (show _ = some (Value.int .i64 0) from rfl)
  have zgb5 := (Bb.out.cell 5).trans (show _ = some (Value.int .i64 4) from rfl)
  have zgb6 := (Bb.out.cell 6).trans (show _ = some (Value.int .i64 0) from rfl)
  have zgb7 := (Bb.out.cell 7).trans (show _ = some (Value.int .i64 5) from rfl)
  have zgb8 := (Bb.out.cell 8).trans (show _ = some (Value.int .i64 1) from rfl)
  have zgb9 := (Bb.out.cell 9).trans (show _ = some (Value.int .i64 0) from rfl)
  simp only [List.append_eq, List.cons_append, List.nil_append]
  refine wp_region_seg true 23 68 (by as_aux_lemma => kernel_rfl) rfl (by as_aux_lemma => kernel_rfl) ?_
  simp only [List.take_succ_cons, List.take_zero]
  repeat still_step
  refine wpStill_nil ?_
  refine take_any (i := 23) (j := 106) (v := .slice Am 4 cm) rfl rfl (by as_aux_lemma => kernel_rfl) (by as_aux_lemma => kernel_rfl) (by as_aux_lemma => kernel_rfl) (fun _ _ _ h => h) (Or.inl ⟨by rfl, fun w => by go_simp; try rfl⟩) ?_
  simp only [Act.put, List.setIfInBounds_toArray, List.set_cons_zero, List.set_cons_succ]
  refine wpAny_seg false 12 24 55 (by as_aux_lemma => kernel_rfl) ?_
  simp only [List.take_succ_cons, List.take_zero, List.drop_succ_cons, List.drop_zero]
  repeat still_step
  refine wpStill_nil ?_
  clear zga0 zga1 zga2 zga3 zga4 zga5 zga6 zga7 zga8 zga9 zgb0 zgb1 zgb2 zgb3 zgb4 zgb5 zgb6 zgb7 zgb8 zgb9
  refine wpAny_ready (rs := [36]) (by as_aux_lemma => kernel_rfl) (by simp) (AllReady.cons rfl (fun K hK => ?_) AllReady.nil)
  go_simp
  try go_simp
  refine hK _ _ ?_
  clear hK K
  refine wpAny_ready (rs := [37]) (by as_aux_lemma => kernel_rfl) (by simp) (AllReady.cons rfl (fun K hK => ?_) AllReady.nil)
  go_simp
  refine (aw_same (n1 := 4) (n2 := 4) (xs := [⟨1, 1, 0, 1, 0⟩, ⟨2, 0, 0, 1, 0⟩, ⟨4, 0, 5, 1, 0⟩, ⟨4, 1, 1, 1, 0⟩]) (ys := [⟨1, 1, 0, 1, 0⟩, ⟨2, 0, 0, 1, 0⟩, ⟨4, 0, 5, 1, 0⟩, ⟨4, 1, 1, 1, 0⟩]) rfl (RM.out.ext (by first | exact (Ext.alloc _ _).t (Ext.drew _) | exact (Ext.drew _).t (Ext.alloc _ _) | exact Ext.alloc _ _)) (rdS_blk (n := 4) (by first | exact Blk.new _ _ _ | exact (Blk.new _ _ _).drew) rfl rfl (by decide)) (by decide) (by decide)).mono ?_; rintro e wa ⟨rfl, ea⟩
  have EA := Lib.hid (Below.t (a := w17) (by first | exact (Ext.alloc _ _).t (Ext.drew _) | exact (Ext.drew _).t (Ext.alloc _ _) | exact Ext.alloc _ _) ea)
  clear ea
  try go_simp
  refine hK _ _ ?_
  clear hK K
  refine wpAny_seg true 2 38 51 (by as_aux_lemma => kernel_rfl) ?_
  simp only [List.take_succ_cons, List.take_zero, List.drop_succ_cons, List.drop_zero]
  repeat still_step
  refine wpStill_nil ?_
  refine take_any (i := 40) (j := 123) (v := .slice Ar 3 cr) rfl rfl (by as_aux_lemma => kernel_rfl) (by as_aux_lemma => kernel_rfl) (by as_aux_lemma => kernel_rfl) (fun _ _ _ h => h) (Or.inl ⟨by rfl, fun w => by go_simp; try rfl⟩) ?_
  simp only [Act.put, List.setIfInBounds_toArray, List.set_cons_zero, List.set_cons_succ]
  refine wpAny_seg false 3 41 47 (by as_aux_lemma => kernel_rfl) ?_
  simp only [List.take_succ_cons, List.take_zero, List.drop_succ_cons, List.drop_zero]
  repeat still_step
  refine wpStill_nil ?_
  refine wpAny_ready (rs := [44]) (by as_aux_lemma => kernel_rfl) (by simp) (AllReady.cons rfl (fun K hK => ?_) AllReady.nil)
  go_simp
  try go_simp
  refine hK _ _ ?_
  clear hK K
  refine wpAny_ready (rs := [45]) (by as_aux_lemma => kernel_rfl) (by simp) (AllReady.cons rfl (fun K hK => ?_) AllReady.nil)
  go_simp
  refine (aw_pairs (n1 := 3) (n2 := 3) (xs := [(0, 2), (2, 3), (3, 4)]) (ys := [(0, 2), (2, 3), (3, 4)]) rfl (RR.out.ext (EA.out.t (by first | exact (Ext.alloc _ _).t (Ext.drew _) | exact (Ext.drew _).t (Ext.alloc _ _) | exact Ext.alloc _ _))) (rdP_blk (n := 3) (by first | exact Blk.new _ _ _ | exact (Blk.new _ _ _).drew) rfl rfl (by decide)) (by decide) (by decide)).mono ?_; rintro e wb ⟨rfl, eb⟩
  have EB := Lib.hid (EA.out.t (Below.t (a := wa) (by first | exact (Ext.alloc _ _).t (Ext.drew _) | exact (Ext.drew _).t (Ext.alloc _ _) | exact Ext.alloc _ _) eb))
  clear eb
  try go_simp
  refine hK _ _ ?_
  clear hK K
  have zs0 : wb.cell? ⟨bs, os, none⟩ = some (.slice dA0 1 dc0) := (EB.out.cell (p := ⟨bs, os, none⟩) (World.block_lt_of_cell? _ _ Hs0.out)).trans Hs0.out
  refine wpAny_seg false 29 46 16 (by as_aux_lemma => kernel_rfl) ?_
  simp only [List.take_succ_cons, List.take_zero, List.drop_succ_cons, List.drop_zero]
  repeat still_step
  refine wpStill_nil ?_
  clear zs0
  refine wpAny_ready (rs := [75]) (by as_aux_lemma => kernel_rfl) (by simp) (AllReady.cons rfl (fun K hK => ?_) AllReady.nil)
  go_simp
  refine (aw_same (n1 := 1) (n2 := 1) (xs := [⟨1, 0, 1, 1, 0⟩]) (ys := [⟨1, 0, 1, 1, 0⟩]) rfl (Rd0.out.ext EB.out) (RL.out.ext EB.out) (by decide) (by decide)).mono ?_; rintro e wc ⟨rfl, ec⟩
  have EC := Lib.hid (EB.out.t ec)
  clear ec
  try go_simp
  refine hK _ _ ?_
  clear hK K
  refine wpAny_seg true 2 76 13 (by as_aux_lemma => kernel_rfl) ?_
  simp only [List.take_succ_cons, List.take_zero, List.drop_succ_cons, List.drop_zero]
  repeat still_step
  refine wpStill_nil ?_
  have HS2 : Hid (∀ w', Ext w17 w' → w'.cell? ⟨bs, os + 1, none⟩ = some (.slice dA1 2 dc1) ∧ w'.cell? ⟨gd, 0, none⟩ = some (.int .i64 1) ∧ w'.cell? ⟨gd, 1, none⟩ = some (.int .i64 0) ∧ w'.cell? ⟨gd, 2, none⟩ = some (.int .i64 0) ∧ w'.cell? ⟨gd, 3, none⟩ = some (.int .i64 2) ∧ w'.cell? ⟨gd, 4, none⟩ = some (.int .i64 0) ∧ w'.cell? ⟨gd, 10, none⟩ = some (.int .i64 1) ∧ w'.cell? ⟨gd, 11, none⟩ = some (.int .i64 0) ∧ w'.cell? ⟨gd, 12, none⟩ = some (.int .i64 2) ∧ w'.cell? ⟨gd, 13, none⟩ = some (.int .i64 2) ∧ w'.cell? ⟨gd, 14, none⟩ = some (.int .i64 0)) := Lib.hid (fun w' e => ⟨(e.cell (p := ⟨bs, os + 1, none⟩) (World.block_lt_of_cell? _ _ Hs1.out)).trans Hs1.out, ((Bd.out.ext e).cell 0).trans (show _ = some (Value.int .i64 1) from rfl), ((Bd.out.ext e).cell 1).trans (show _ = some (Value.int .i64 0) from rfl), ((Bd.out.ext e).cell 2).trans (show _ = some (Value.int .i64 0) from rfl), ((Bd.out.ext e).cell 3).trans (show _ = some (Value.int .i64 2) from rfl), ((Bd.out.ext e).cell 4).trans (show _ = some (Value.int .i64 0) from rfl), ((Bd.out.ext e).cell 10).trans (show _ = some (Value.int .i64 1) from rfl), ((Bd.out.ext e).cell 11).trans (show _ = some (Value.int .i64 0) from rfl), ((Bd.out.ext e).cell 12).trans (show _ = some (Value.int .i64 2) from rfl), ((Bd.out.ext e).cell 13).trans (show _ = some (Value.int .i64 2) from rfl), ((Bd.out.ext e).cell 14).trans (show _ = some (Value.int .i64 0) from rfl)⟩)
  refine wpAny_of_held (S := fun w' => w'.cell? ⟨bs, os + 1, none⟩ = some (.slice dA1 2 dc1) ∧ w'.cell? ⟨gd, 0, none⟩ = some (.int .i64 1) ∧ w'.cell? ⟨gd, 1, none⟩ = some (.int .i64 0) ∧ w'.cell? ⟨gd, 2, none⟩ = some (.int .i64 0) ∧ w'.cell? ⟨gd, 3, none⟩ = some (.int .i64 2) ∧ w'.cell? ⟨gd, 4, none⟩ = some (.int .i64 0) ∧ w'.cell? ⟨gd, 10, none⟩ = some (.int .i64 1) ∧ w'.cell? ⟨gd, 11, none⟩ = some (.int .i64 0) ∧ w'.cell? ⟨gd, 12, none⟩ = some (.int .i64 2) ∧ w'.cell? ⟨gd, 13, none⟩ = some (.int .i64 2) ∧ w'.cell? ⟨gd, 14, none⟩ = some (.int .i64 0)) _ _ _ _ ?_
  have hHeld := HS2.out _ EC.out
  refine take_held (i := 78) (j := 161) (v := .slice (some ⟨bs, os, none⟩) 2 cd) rfl rfl (by as_aux_lemma => kernel_rfl) (by as_aux_lemma => kernel_rfl) (by as_aux_lemma => kernel_rfl) (fun _ _ _ h => h) (Or.inl ⟨by as_aux_lemma => kernel_rfl, fun w' hw' => by obtain ⟨q0, q1, q2, q3, q4, q5, q6, q7, q8, q9, q10⟩ := hw'; go_simp; try rfl⟩) hHeld ?_
  simp only [Act.put, List.setIfInBounds_toArray, List.set_cons_zero, List.set_cons_succ]
  refine take_held (i := 79) (j := 162) (v := .pointer (some ⟨bs, os + 1, none⟩)) rfl rfl (by as_aux_lemma => kernel_rfl) (by as_aux_lemma => kernel_rfl) (by as_aux_lemma => kernel_rfl) (fun _ _ _ h => h) (Or.inl ⟨by as_aux_lemma => kernel_rfl, fun w' hw' => by obtain ⟨q0, q1, q2, q3, q4, q5, q6, q7, q8, q9, q10⟩ := hw'; go_simp; try rfl⟩) hHeld ?_
  simp only [Act.put, List.setIfInBounds_toArray, List.set_cons_zero, List.set_cons_succ]
  refine take_held (i := 80) (j := 163) (v := .slice dA1 2 dc1) rfl rfl (by as_aux_lemma => kernel_rfl) (by as_aux_lemma => kernel_rfl) (by as_aux_lemma => kernel_rfl) (fun _ _ _ h => h) (Or.inl ⟨by as_aux_lemma => kernel_rfl, fun w' hw' => by obtain ⟨q0, q1, q2, q3, q4, q5, q6, q7, q8, q9, q10⟩ := hw'; go_simp; try rfl⟩) hHeld ?_
  simp only [Act.put, List.setIfInBounds_toArray, List.set_cons_zero, List.set_cons_succ]
  refine take_held (i := 81) (j := 164) (v := .slice (some ⟨gd, 0, none⟩) 3 3) rfl rfl (by as_aux_lemma => kernel_rfl) (by as_aux_lemma => kernel_rfl) (by as_aux_lemma => kernel_rfl) (fun _ _ _ h => h) (Or.inl ⟨by as_aux_lemma => kernel_rfl, fun w' hw' => by obtain ⟨q0, q1, q2, q3, q4, q5, q6, q7, q8, q9, q10⟩ := hw'; go_simp; try rfl⟩) hHeld ?_
  simp only [Act.put, List.setIfInBounds_toArray, List.set_cons_zero, List.set_cons_succ]
  refine take_held (i := 82) (j := 165) (v := .pointer (some ⟨gd, 0, none⟩)) rfl rfl (by as_aux_lemma => kernel_rfl) (by as_aux_lemma => kernel_rfl) (by as_aux_lemma => kernel_rfl) (fun _ _ _ h => h) (Or.inl ⟨by as_aux_lemma => kernel_rfl, fun w' hw' => by obtain ⟨q0, q1, q2, q3, q4, q5, q6, q7, q8, q9, q10⟩ := hw'; go_simp; try rfl⟩) hHeld ?_
  simp only [Act.put, List.setIfInBounds_toArray, List.set_cons_zero, List.set_cons_succ]
  refine take_held (i := 83) (j := 166) (v := .agg #[.int .i64 1, .int .i64 0, .int .i64 0, .int .i64 2, .int .i64 0]) rfl rfl (by as_aux_lemma => kernel_rfl) (by as_aux_lemma => kernel_rfl) (by as_aux_lemma => kernel_rfl) (fun _ _ _ h => h) (Or.inl ⟨by as_aux_lemma => kernel_rfl, fun w' hw' => by obtain ⟨q0, q1, q2, q3, q4, q5, q6, q7, q8, q9, q10⟩ := hw'; go_simp; try rfl⟩) hHeld ?_
  simp only [Act.put, List.setIfInBounds_toArray, List.set_cons_zero, List.set_cons_succ]
  refine take_held (i := 84) (j := 167) (v := .slice (some ⟨gd, 0, none⟩) 3 3) rfl rfl (by as_aux_lemma => kernel_rfl) (by as_aux_lemma => kernel_rfl) (by as_aux_lemma => kernel_rfl) (fun _ _ _ h => h) (Or.inl ⟨by as_aux_lemma => kernel_rfl, fun w' hw' => by obtain ⟨q0, q1, q2, q3, q4, q5, q6, q7, q8, q9, q10⟩ := hw'; go_simp; try rfl⟩) hHeld ?_
  simp only [Act.put, List.setIfInBounds_toArray, List.set_cons_zero, List.set_cons_succ]
  refine take_held (i := 85) (j := 168) (v := .pointer (some ⟨gd, 10, none⟩)) rfl rfl (by as_aux_lemma => kernel_rfl) (by as_aux_lemma => kernel_rfl) (by as_aux_lemma => kernel_rfl) (fun _ _ _ h => h) (Or.inl ⟨by as_aux_lemma => kernel_rfl, fun w' hw' => by obtain ⟨q0, q1, q2, q3, q4, q5, q6, q7, q8, q9, q10⟩ := hw'; go_simp; try rfl⟩) hHeld ?_
  simp only [Act.put, List.setIfInBounds_toArray, List.set_cons_zero, List.set_cons_succ]
  refine take_held (i := 86) (j := 169) (v := .agg #[.int .i64 1, .int .i64 0, .int .i64 2, .int .i64 2, .int .i64 0]) rfl rfl (by as_aux_lemma => kernel_rfl) (by as_aux_lemma => kernel_rfl) (by as_aux_lemma => kernel_rfl) (fun _ _ _ h => h) (Or.inl ⟨by as_aux_lemma => kernel_rfl, fun w' hw' => by obtain ⟨q0, q1, q2, q3, q4, q5, q6, q7, q8, q9, q10⟩ := hw'; go_simp; try rfl⟩) hHeld ?_
  simp only [Act.put, List.setIfInBounds_toArray, List.set_cons_zero, List.set_cons_succ]
  refine wpAnyH_ready (rs := [87]) (by as_aux_lemma => kernel_rfl) (by simp) (AllReadyH.cons rfl (fun K hK => ?_) AllReadyH.nil)
  go_simp
  try go_simp
  refine hK.out _ _ (HS2.out _ (EC.out.t (by first | exact (Ext.alloc _ _).t (Ext.drew _) | exact (Ext.drew _).t (Ext.alloc _ _) | exact Ext.alloc _ _))) (fun hHeld => ?_)
  clear hK K
  refine wpAnyH_ready (rs := [88]) (by as_aux_lemma => kernel_rfl) (by simp) (AllReadyH.cons rfl (fun K hK => ?_) AllReadyH.nil)
  go_simp
  refine (aw_same (n1 := 2) (n2 := 2) (xs := [⟨1, 0, 0, 2, 0⟩, ⟨1, 0, 2, 2, 0⟩]) (ys := [⟨1, 0, 0, 2, 0⟩, ⟨1, 0, 2, 2, 0⟩]) rfl (Rd1.out.ext (EC.out.t (by first | exact (Ext.alloc _ _).t (Ext.drew _) | exact (Ext.drew _).t (Ext.alloc _ _) | exact Ext.alloc _ _))) (rdS_blk (n := 2) (by first | exact Blk.new _ _ _ | exact (Blk.new _ _ _).drew) rfl rfl (by decide)) (by decide) (by decide)).mono ?_; rintro e wd ⟨rfl, ed⟩
  have ED := Lib.hid (EC.out.t (Below.t (a := wc) (by first | exact (Ext.alloc _ _).t (Ext.drew _) | exact (Ext.drew _).t (Ext.alloc _ _) | exact Ext.alloc _ _) ed))
  clear ed
  try go_simp
  refine hK.out _ _ (HS2.out _ (ED.out)) (fun hHeld => ?_)
  clear hK K
  refine wpAnyH_ready (rs := [89]) (by as_aux_lemma => kernel_rfl) (by simp) (AllReadyH.cons rfl (fun K hK => ?_) AllReadyH.nil)
  go_simp
  try go_simp
  refine hK.out _ _ (HS2.out _ (ED.out)) (fun hHeld => ?_)
  clear hK K
  refine wpAnyH_ready (rs := [90]) (by as_aux_lemma => kernel_rfl) (by simp) (AllReadyH.cons rfl (fun K hK => ?_) AllReadyH.nil)
  go_simp
  try go_simp
  refine hK.out _ _ (HS2.out _ (ED.out)) (fun hHeld => ?_)
  clear hK K
  refine wpAnyH_done (by as_aux_lemma => kernel_rfl) ?_ _
  have HF := Lib.hid (HE.out.t ED.out)
  clear HS2 ED EC EB EA hHeld
  go_wp2_with fail
  go_ret
  exact ⟨rfl, HF.out⟩
end Go.Proofs.Ytkeapijehfacfaa
