/- The contracts of num.forms (an iterator) and num.Split. -/
import Derived.Test.YtidjimkhppfjjaaNumR
import Derived.Test.YtidjimkhppfjjaaRange
namespace Go.Proofs.Ytidjimkhppfjjaa
open Go.RowKit Go.Fx
attribute [local go_sem] Oper.semAt_some

theorem num_forms (v : Value) (w : World) (A : Option Addr) (n c : Nat) (hv : v = .slice A n c) :
    Calls Try.prog 32 #[v] w fun e w' => e = .returned (.func (.func 44) #[] #[.pointer (some ⟨w.heap.size, 0, none⟩)]) ∧ w.alloc (.cells #[v] 24) = w' := by
  subst hv
  go_enter Try.func32, Try.ntmps32
  go_wp2
  go_ret
  exact ⟨rfl, rfl⟩

/-- What a call of yield must do for the iterator that has come to the offset o. -/
def formsYield (b : List Nat) (J : Nat → World → Prop) (Jx : World → Prop) (o : Nat) (e : Ending) (W' : World) : Prop :=
  (e = .returned (.bool true) ∧ (Num.readF (b.drop o)).2.2 = 0 ∧ J (o + (Num.readF (b.drop o)).2.1) W') ∨ (e = .returned (.bool false) ∧ Jx W')

set_option maxHeartbeats 1000000 in
theorem num_forms1 (l Bx : Nat) (A : Option Addr) (n c : Nat) (b : List Nat) (J : Nat → World → Prop) (Jx : World → Prop) (hb : ∀ d ∈ b, d < 256) (hn : n ≤ 1000000000000)
    (hJ : ∀ o W, J o W → W.cell? ⟨Bx, 0, none⟩ = some (.slice A n c) ∧ Rd u8v W A n b)
    (hY : ∀ o W, J o W → o < n → YieldAt Fence.wide 8 Try.prog l #[.int .u64 ((Num.readF (b.drop o)).1 : Int), .int .i64 ((Num.readF (b.drop o)).2.2 : Int)] W (formsYield b J Jx o))
    (W : World) (h0 : J 0 W) :
    Calls Try.prog 44 #[.func (.yield l) #[] #[], .pointer (some ⟨Bx, 0, none⟩)] W fun e W' => (∃ v, e = .returned v) ∧ (J n W' ∨ Jx W') := by
  have HJ := Lib.hid hJ
  have HY := Lib.hid hY
  clear hJ hY
  refine (callsIn_wide (n := 9)).1 ?_
  refine callsIn_of_wp Try.func44 rfl trivial ?_ rfl
  simp only [Try.ntmps44, List.size_toArray, List.length_cons, List.length_nil, Nat.reduceAdd, Nat.reduceSub, Array.replicate_succ, Array.replicate_zero, List.push_toArray, List.append_toArray, List.nil_append, List.cons_append]
  gi_wp2
  gi_loopw [3] (fun iv wr => ∃ o : Nat, o ≤ n ∧ iv = .int .i64 (o : Int) ∧ J o wr) (fun iv _ => n - (intOf iv).toNat)
  case atStart => exact ⟨0, by omega, rfl, h0⟩
  case round =>
    obtain ⟨o, ho, rfl, hJo⟩ := hrel
    obtain ⟨hcell, hrd⟩ := HJ.out o wr hJo
    have hl := hrd.1
    by_cases hlt : o < n
    · have hlt' : (o : Int) < (n : Int) := by omega
      obtain ⟨fn, tmps, assign, body, hy, hR⟩ := HY.out o wr hJo hlt
      have Hl := Lib.hid hl
      clear hl
      have hbo : b.drop o ≠ [] := by intro h; have := congrArg List.length h; rw [List.length_drop, Hl.out] at this; simp at this; omega
      have Hsz := Lib.hid (Num.readF_size (b.drop o))
      have Hlen : Hid ((b.drop o).length = n - o) := Lib.hid (by rw [List.length_drop, Hl.out])
      clear hbo
      generalize hr : Num.readF (b.drop o) = r at *
      have Hr := Lib.hid hr
      clear hr
      gi_wp2_with (refine ⟨trivial, ?_⟩; gi_at_call 15; refine (callsIn_wide.2 (num_Read_at A n c o b wr hrd hb (by simp only [maxLen]; omega) ho)).mono ?_; rw [Hr.out]; rintro e w2 ⟨rfl, rfl⟩)
      refine hR.mono ?_
      rintro e W' (⟨rfl, he, hJ'⟩ | ⟨rfl, hx⟩)
      · rw [Hr.out] at he hJ'
        have h1 := Hsz.out he
        have h2 := Hlen.out
        have hs1 : r.2.1 ≤ n - o := by omega
        have hs2 : 1 ≤ r.2.1 := h1.1
        have HJ' := Lib.hid hJ'
        have he' : ((r.2.2 : Int) != 0) = false := by simp [he]
        have hs3 : (r.2.1 : Int) ≤ (n : Int) - (o : Int) := by omega
        clear he hJ' h1 h2
        gi_wp2
        go_roundw
        case rel => exact ⟨o + r.2.1, by omega, by go_num, HJ'.out⟩
        case measure => simp [intOf]; omega
      · gi_wp2
        refine bodyPost_ret (results_none rfl _ _ _) rfl ?_
        exact ⟨⟨_, rfl⟩, .inr hx⟩
    · obtain rfl : o = n := by omega
      gi_wp2
      go_end0
      exact ⟨⟨_, rfl⟩, .inl hJo⟩


/-- What holds between two rounds of Split's loop; v: the slice that is split; R: the loop's record. -/
structure SplitJ (w : World) (v : Value) (b : List Nat) (R : Obj) (o : Nat) (W : World) : Prop where
  r0 : Blk W w.heap.size 37 #[.slice none 0 0]
  r1 : Blk W (w.heap.size + 1) 26 #[.int .i64 0]
  out : ∃ pre A m c, Blk W (w.heap.size + 1 + 1) 37 #[.slice A m c] ∧ W.ownsRow (w.heap.size + 6) 22 1 (.slice A m c) m (pre.map u64v) ∧ m ≤ o ∧ Hid (Num.split b = Num.behind pre (Num.split (b.drop o)))
  box : Blk W (w.heap.size + 1 + 1 + 1) 24 #[v]
  defd : W.heap[w.heap.size + 1 + 1 + 1 + 1]? = some (.deferred (some []))
  loop : W.heap[w.heap.size + 1 + 1 + 1 + 1 + 1]? = some R
  below : Below w.heap.size w W
  size : w.heap.size + 6 ≤ W.heap.size

/-- What holds where Split's loop was left. -/
structure SplitX (w : World) (b : List Nat) (R : Obj) (W : World) : Prop where
  r0 : Blk W w.heap.size 37 #[.slice none 0 0]
  r1 : Blk W (w.heap.size + 1) 26 #[.int .i64 ((Num.split b).2 : Int)]
  nil : Hid ((Num.split b).1 = [])
  defd : W.heap[w.heap.size + 1 + 1 + 1 + 1]? = some (.deferred (some []))
  loop : W.heap[w.heap.size + 1 + 1 + 1 + 1 + 1]? = some R
  below : Below w.heap.size w W

theorem SplitJ.put {w : World} {v : Value} {b : List Nat} {R : Obj} {o : Nat} {W : World} (h : SplitJ w v b R o W) (R' : Obj) : SplitJ w v b R' o (W.putObj (w.heap.size + 1 + 1 + 1 + 1 + 1) R') where
  r0 := blk_put h.r0 (by omega)
  r1 := blk_put h.r1 (by omega)
  out := by
    obtain ⟨pre, A, m, c, h1, h2, h3, h4⟩ := h.out
    exact ⟨pre, A, m, c, blk_put h1 (by omega), own_put h2 (own_ne h2 (by omega)), h3, h4⟩
  box := blk_put h.box (by omega)
  defd := heap_put h.defd (by omega)
  loop := World.putObj_heap_same (by have := h.size; omega)
  below := below_put h.below (by omega)
  size := by have := h.size; simp; omega
theorem SplitX.put {w : World} {b : List Nat} {R : Obj} {W : World} (h : SplitX w b R W) (R' : Obj) : SplitX w b R' (W.putObj (w.heap.size + 1 + 1 + 1 + 1 + 1) R') where
  r0 := blk_put h.r0 (by omega)
  r1 := blk_put h.r1 (by omega)
  nil := h.nil
  defd := heap_put h.defd (by omega)
  loop := World.putObj_heap_same (Array.getElem?_eq_some_iff.1 h.loop).1
  below := below_put h.below (by omega)

set_option maxHeartbeats 1000000 in
theorem num_Split (A : Option Addr) (n c : Nat) (b : List Nat) (w : World) (h : Rd u8v w A n b) (hb : ∀ d ∈ b, d < 256) (hn : n ≤ 1000000000000) :
    Calls Try.prog 21 #[.slice A n c] w fun e w' => ∃ A' n' c', e = .returned (.tuple #[.slice A' n' c', .int .i64 ((Num.split b).2 : Int)]) ∧ Rd u64v w' A' n' (Num.split b).1 ∧ Below w.heap.size w w' := by
  refine calls_of_wp_marks Try.func21 rfl ?_
  simp only [Try.ntmps21, List.size_toArray, List.length_cons, List.length_nil, Nat.reduceAdd, Nat.reduceSub, Array.replicate_succ, Array.replicate_zero, List.push_toArray, List.append_toArray, List.nil_append, List.cons_append]
  go_wp2_with (go_at_call 32; refine (num_forms _ _ A n c rfl).mono ?_; rintro e w1 ⟨rfl, rfl⟩)
  have hbl : Below w.heap.size w ((((w.alloc (.cells #[.slice none 0 0] 37)).alloc (.cells #[.int .i64 0] 26)).alloc (.cells #[.slice none 0 0] 37)).alloc (.cells #[.slice A n c] 24)) :=
    ((((Below.refl _ w).alloc (Nat.le_refl _) _).alloc (by simp) _).alloc (by simp; omega) _).alloc (by simp; omega) _
  have b0 := Blk.new w 37 #[.slice none 0 0]
  have b1 := Blk.new (w.alloc (.cells #[.slice none 0 0] 37)) 26 #[.int .i64 0]
  have b2 := Blk.new ((w.alloc (.cells #[.slice none 0 0] 37)).alloc (.cells #[.int .i64 0] 26)) 37 #[.slice none 0 0]
  have b3 := Blk.new (((w.alloc (.cells #[.slice none 0 0] 37)).alloc (.cells #[.int .i64 0] 26)).alloc (.cells #[.slice none 0 0] 37)) 24 #[.slice A n c]
  have b2 := b2.alloc (.cells #[.slice A n c] 24)
  have b1 := (b1.alloc (.cells #[.slice none 0 0] 37)).alloc (.cells #[.slice A n c] 24)
  have b0 := ((b0.alloc (.cells #[.int .i64 0] 26)).alloc (.cells #[.slice none 0 0] 37)).alloc (.cells #[.slice A n c] 24)
  simp only [World.size_alloc] at b0 b1 b2 b3
  generalize hW : ((((w.alloc (.cells #[.slice none 0 0] 37)).alloc (.cells #[.int .i64 0] 26)).alloc (.cells #[.slice none 0 0] 37)).alloc (.cells #[.slice A n c] 24)) = W0 at *
  have hsz : W0.heap.size = w.heap.size + 1 + 1 + 1 + 1 := by rw [← hW]; simp
  clear hW
  refine wp_range (gf := 44) rfl (enters_of Try.func44 (by kernel_rfl) rfl) (fun fn rec hrec => ?_)
  rw [hsz]
  have HB := Lib.hid hb
  clear hb
  refine (num_forms1 _ (w.heap.size + 1 + 1 + 1) A n c b (SplitJ w (.slice A n c) b (rec .ready none)) (SplitX w b (rec .done (some .ret))) HB.out hn ?hJ ?hY _ ?h0).mono ?post
  case hJ => exact fun o W hj => ⟨by rw [hj.box.cell]; rfl, h.ext hj.below⟩
  case h0 =>
    clear hrec
    refine ⟨(b0.alloc _).alloc _, (b1.alloc _).alloc _, ⟨[], none, 0, 0, (b2.alloc _).alloc _, World.ownsRow_nil _ _ _ _, by omega, Lib.hid (by rw [List.drop_zero, Num.behind_nil _ (Num.split_bad b)])⟩, (b3.alloc _).alloc _, ?_, ?_, (hbl.alloc (by omega) _).alloc (by simp; omega) _, by simp; omega⟩
    · refine (Below.heap_alloc _ _ _ (by simp; omega)).trans ?_
      have := World.alloc_heap_new W0 (.deferred (some []))
      rwa [hsz] at this
    · have := World.alloc_heap_new (W0.alloc (.deferred (some []))) (rec .ready none)
      rwa [World.size_alloc, hsz] at this
  case hY =>
    intro o W hj ho
    refine (yieldAt hrec trivial hj.loop (by rfl) (fun jump W3 => match jump with
      | none => (Num.readF (b.drop o)).2.2 = 0 ∧ SplitJ w (.slice A n c) b (rec .busy none) (o + (Num.readF (b.drop o)).2.1) W3
      | some cd => cd = .ret ∧ SplitX w b (rec .busy none) W3) ?walk).mono ?yp
    case yp =>
      rintro e W' ⟨jump, W3, hB, hl, rfl, rfl⟩
      cases jump with
      | none => exact .inl ⟨rfl, hB.1, hB.2.put _⟩
      | some cd =>
        obtain ⟨rfl, hx⟩ := hB
        exact .inr ⟨rfl, hx.put _⟩
    case walk =>
      clear hrec
      gi_wp2
      refine ⟨hj.loop, ?_⟩
      have hj1 := hj.put (rec .busy none)
      clear hj
      generalize W.putObj (w.heap.size + 1 + 1 + 1 + 1 + 1) (rec .busy none) = W1 at *
      obtain ⟨pre, A1, m1, c1, hout, hown, hm1, Hpre⟩ := hj1.out
      have hc0 : W1.cell? ⟨w.heap.size, 0, none⟩ = some (.slice none 0 0) := by rw [hj1.r0.cell]; rfl
      have hc1 : W1.cell? ⟨w.heap.size + 1, 0, none⟩ = some (.int .i64 0) := by rw [hj1.r1.cell]; rfl
      have hc2 : W1.cell? ⟨w.heap.size + 1 + 1, 0, none⟩ = some (.slice A1 m1 c1) := by rw [hout.cell]; rfl
      have hf0 := hj1.r0.frozen 0
      have hf1 := hj1.r1.frozen 0
      have hf2 := hout.frozen 0
      have Hl := Lib.hid h.1
      have Hne : Hid (b.drop o ≠ []) := Lib.hid (by intro h'; have := congrArg List.length h'; rw [List.length_drop, Hl.out] at this; simp at this; omega)
      have Hsz1 := Lib.hid hj1.size
      by_cases he : (Num.readF (b.drop o)).2.2 = 0
      · have he' : (((Num.readF (b.drop o)).2.2 : Int) != 0) = false := by simp [he]
        have Hsz := Lib.hid (Num.readF_size (b.drop o) he)
        have He := Lib.hid he
        clear he
        generalize hr : Num.readF (b.drop o) = r at *
        have Hr := Lib.hid hr
        clear hr
        gi_wp2_with (gi_at_builtin; refine wpListIn_append_dst _ rfl rfl Try.underlying37 info_u64 rfl (by omega) rfl (Dst.of_own (hown.alloc _)) rfl (news := [_]) rfl (cell_one_new _ _ _) (by simp [Value.oneCell']) (by omega) (by simp only [maxLen]; omega) (by omega) (by have := Hsz1.out; simp; omega) ?_; intro g1 cap1 w1 hown1 hgrow1 hat1 hlt1; have ho1 := (hout.alloc _).grown hgrow1 (fun e => own_ne hown (by omega) e.symm); have hc3 := ho1.cell0; have hf3 := ho1.frozen 0)
        have hne : ∀ k, k < w.heap.size + 6 → some k ≠ (Value.slice A1 m1 c1).ownBlock := fun k hk e => own_ne hown hk e.symm
        have hg1 : w.heap.size + 6 ≤ g1 := (hown1.lt g1 rfl).1
        have hs0 := Hsz1.out
        have hs1 : W1.heap.size + 1 ≤ w1.heap.size := by have := hgrow1.size; simpa using this
        have hold : ∀ k, k < w.heap.size + 6 → k ≠ w.heap.size + 1 + 1 → (w1.setCell ⟨w.heap.size + 1 + 1, 0, none⟩ (.slice (some ⟨g1, 0, none⟩) (m1 + 1) cap1)).heap[k]? = W1.heap[k]? := fun k hk hk2 =>
          (heap_set hk2 _).trans ((hgrow1.block k (by simp; omega) (hne k hk)).trans (heap_all (by omega) _))
        refine ⟨(hold _ (by omega) (by omega)).trans hj1.loop, He.out, ?_⟩
        · refine ⟨(hold _ (by omega) (by omega)).trans hj1.r0, (hold _ (by omega) (by omega)).trans hj1.r1,
            ⟨pre ++ [r.1], some ⟨g1, 0, none⟩, m1 + 1, cap1, ho1.set0 _, own_set (by simpa using hown1) (by simp [Value.ownBlock]; omega) _, by have := Hsz.out; omega, Lib.hid ?_⟩,
            (hold _ (by omega) (by omega)).trans hj1.box, (hold _ (by omega) (by omega)).trans hj1.defd, (hold _ (by omega) (by omega)).trans hj1.loop,
            below_set ((hj1.below.alloc (by omega) _).grown hgrow1 (by simp; omega) (fun k e => by have := (hown.lt k e).1; omega)) (by omega) _,
            by rw [setCell_size]; omega⟩
          rw [Hpre.out, Num.behind_step pre _ Hne.out (by rw [Hr.out]; exact He.out), Hr.out, List.drop_drop]
      · have he' : (((Num.readF (b.drop o)).2.2 : Int) != 0) = true := by simp; omega
        have He := Lib.hid he
        clear he
        generalize hr : Num.readF (b.drop o) = r at *
        have Hr := Lib.hid hr
        clear hr
        gi_wp2
        have hsp : Num.split b = ([], r.2.2) := by rw [Hpre.out, Num.behind_err pre _ Hne.out (by rw [Hr.out]; exact He.out), Hr.out]
        have hold : ∀ k, k ≠ w.heap.size → k ≠ w.heap.size + 1 → ((W1.setCell ⟨w.heap.size, 0, none⟩ (.slice none 0 0)).setCell ⟨w.heap.size + 1, 0, none⟩ (.int .i64 (r.2.2 : Int))).heap[k]? = W1.heap[k]? := fun k h1 h2 => (heap_set h2 _).trans (heap_set h1 _)
        refine ⟨(hold _ (by omega) (by omega)).trans hj1.loop, rfl, ?_⟩
        refine ⟨(hj1.r0.set0 _).off (by omega) _, ?_, Lib.hid (by rw [hsp]), (hold _ (by omega) (by omega)).trans hj1.defd, (hold _ (by omega) (by omega)).trans hj1.loop, below_set (below_set hj1.below (by omega) _) (by omega) _⟩
        rw [hsp]
        exact (hj1.r1.off (by omega) _).set0 _
  case post =>
    clear hrec
    rintro e W2 ⟨⟨v, rfl⟩, hj | hx⟩
    · refine ⟨⟨_, rfl⟩, .ready, none, by simp, hj.loop, ?_⟩
      have hj2 := hj.put (rec .exhausted none)
      generalize W2.putObj (w.heap.size + 1 + 1 + 1 + 1 + 1) (rec .exhausted none) = W3 at *
      clear hj
      obtain ⟨pre, A1, m1, c1, hout, hown, hm1, Hpre⟩ := hj2.out
      have hc0 : W3.cell? ⟨w.heap.size, 0, none⟩ = some (.slice none 0 0) := by rw [hj2.r0.cell]; rfl
      have hc1 : W3.cell? ⟨w.heap.size + 1, 0, none⟩ = some (.int .i64 0) := by rw [hj2.r1.cell]; rfl
      have hc2 : W3.cell? ⟨w.heap.size + 1 + 1, 0, none⟩ = some (.slice A1 m1 c1) := by rw [hout.cell]; rfl
      have hf0 := hj2.r0.frozen 0
      have hf1 := hj2.r1.frozen 0
      go_wp2
      have hsz3 := hj2.size
      have r0 := (hj2.r0.set0 (.slice A1 m1 c1)).off (b := w.heap.size + 1) (o := 0) (by omega) (.int .i64 0)
      have r1 := (hj2.r1.off (b := w.heap.size) (o := 0) (by omega) (.slice A1 m1 c1)).set0 (.int .i64 0)
      have hd : ((W3.setCell ⟨w.heap.size, 0, none⟩ (.slice A1 m1 c1)).setCell ⟨w.heap.size + 1, 0, none⟩ (.int .i64 0)).heap[w.heap.size + 1 + 1 + 1 + 1]? = some (.deferred (some [])) :=
        (heap_set (by omega) _).trans ((heap_set (by omega) _).trans hj2.defd)
      have hown4 : ((W3.setCell ⟨w.heap.size, 0, none⟩ (.slice A1 m1 c1)).setCell ⟨w.heap.size + 1, 0, none⟩ (.int .i64 0)).ownsRow (w.heap.size + 6) 22 1 (.slice A1 m1 c1) m1 (pre.map u64v) := own_set (own_set hown (own_ne hown (by omega)) _) (own_ne hown (by omega)) _
      have hbel4 := below_set (o := 0) (below_set (o := 0) hj2.below (Nat.le_refl _) (.slice A1 m1 c1)) (b := w.heap.size + 1) (by omega) (.int .i64 0)
      have hfin : Num.split b = (pre, 0) := by
        rw [Hpre.out, List.drop_of_length_le (by have := h.1; omega), Num.split_nil]; simp [Num.behind]
      have Hfin := Lib.hid hfin
      clear hfin Hpre hc0 hc1 hc2 hf0 hf1 hout
      generalize ((W3.setCell ⟨w.heap.size, 0, none⟩ (.slice A1 m1 c1)).setCell ⟨w.heap.size + 1, 0, none⟩ (.int .i64 0)) = W4 at *
      refine leave1 (v := .tuple #[.slice A1 m1 c1, .int .i64 0]) rfl hd ?_ ?_
      · have c0 := (blk_put (l := w.heap.size + 1 + 1 + 1 + 1) (o := .deferred none) r0 (by omega)).cell0
        have c1 := (blk_put (l := w.heap.size + 1 + 1 + 1 + 1) (o := .deferred none) r1 (by omega)).cell0
        simp [results, Try.results21, go_sem, c0, c1]
      · rw [Hfin.out]
        exact ⟨_, _, _, rfl, Rd.of_own (own_put hown4 (own_ne hown4 (by omega))), below_put hbel4 (by omega)⟩
    · refine ⟨⟨_, rfl⟩, .done, some .ret, by simp, hx.loop, ?_⟩
      have hx2 := hx.put (rec .exhausted (some .ret))
      clear hx
      go_wp2
      refine leave1 (v := .tuple #[.slice none 0 0, .int .i64 ((Num.split b).2 : Int)]) rfl hx2.defd ?_ ?_
      · have c0 := (blk_put (l := w.heap.size + 1 + 1 + 1 + 1) (o := .deferred none) hx2.r0 (by omega)).cell0
        have c1 := (blk_put (l := w.heap.size + 1 + 1 + 1 + 1) (o := .deferred none) hx2.r1 (by omega)).cell0
        simp [results, Try.results21, go_sem, c0, c1]
      · exact ⟨_, _, _, rfl, by rw [hx2.nil.out]; exact Rd.none_, below_put hx2.below (by omega)⟩
end Go.Proofs.Ytidjimkhppfjjaa
