/- Fsp: the program's iterator over frames, and Split. -/
import Derived.Test.YtippgnbmilnjbaaFrmR
import Derived.Test.YtippgnbmilnjbaaLst
import Derived.Deep.LoopGhost
namespace Go.Proofs.Ytippgnbmilnjbaa
open Go.RowKit Go.Fx
attribute [local go_sem] Oper.semAt_some
theorem frames_ (A : Option Addr) (n c : Nat) (w : World) :
    Calls Try.prog 45 #[.slice A n c] w fun e w' => e = .returned (.func (.func 62) #[] #[.pointer (some ⟨w.heap.size, 0, none⟩)]) ∧ w.alloc (.cells #[.slice A n c] 23) = w' := by
  go_enter Try.func45, Try.ntmps45
  go_wp2
  go_ret
  exact ⟨rfl, rfl⟩
/-- What a call of yield must leave. -/
def FyP (J : Nat → Option Addr → World → Prop) (Bx o : Nat) (A' : Option Addr) (v : Value) (e : Ending) (W' : World) : Prop := e = .returned (.bool true) ∧ J o A' W' ∧ Blk W' Bx 23 #[v]
def FrP (J : Nat → Option Addr → World → Prop) (w : World) (n : Nat) (b : List Nat) (e : Ending) (W' : World) : Prop := (∃ v, e = .returned v) ∧ ∃ o A', J o A' W' ∧ o ≤ n ∧ (rdF (b.drop o)).2.2 ≠ 0 ∧ Rd u8v w A' (n - o) (b.drop o)
set_option maxRecDepth 100000 in
set_option maxHeartbeats 1000000 in
theorem frames1 (l Bx : Nat) (A : Option Addr) (n c : Nat) (b : List Nat) (w : World) (J : Nat → Option Addr → World → Prop) (hb : ∀ x ∈ b, x < 256) (hc : n ≤ c) (hm : c ≤ maxLen) (hn : n ≤ 1000000000000)
    (hJ : ∀ o A' W, J o A' W → Ext w W)
    (hE : ∀ o A' W W', J o A' W → Ext W W' → J o A' W')
    (hS : ∀ o A' W v, J o A' W → J o A' (W.setCell ⟨Bx, 0, none⟩ v))
    (hY : ∀ o A' W0 W s v, J o A' W0 → Blk W Bx 23 #[v] → (rdF (b.drop o)).2.2 = 0 → Cloned W0 (rdF (b.drop o)).1 (rdF (b.drop o)).1.length s W → o + (rdF (b.drop o)).2.1 ≤ n →
      YieldAt Fence.wide 8 Try.prog l #[slv s, .slice (from_ A' (c - o) (rdF (b.drop o)).2.1) (n - o - (rdF (b.drop o)).2.1) (c - o - (rdF (b.drop o)).2.1)] W (FyP J Bx (o + (rdF (b.drop o)).2.1) (from_ A' (c - o) (rdF (b.drop o)).2.1) v))
    (W : World) (h0 : J 0 A W) (hbx : Blk W Bx 23 #[.slice A n c]) (hr : Rd u8v w A n b) :
    Calls Try.prog 62 #[.func (.yield l) #[] #[], .pointer (some ⟨Bx, 0, none⟩)] W (FrP J w n b) := by
  have HJ := Lib.hid hJ
  have HE := Lib.hid hE
  have HS := Lib.hid hS
  have HY := Lib.hid hY
  have Hb := Lib.hid hb
  have Hl := Lib.hid hr.1
  have H0 : Hid (0 ≤ n ∧ n = n - 0 ∧ Blk W Bx 23 #[.slice A (n - 0) (c - 0)] ∧ Rd u8v w A (n - 0) (b.drop 0) ∧ J 0 A W) := Lib.hid ⟨Nat.zero_le _, rfl, hbx, hr, h0⟩
  clear hJ hE hS hY hb h0 hbx hr
  unfold maxLen at hm
  go_enter Try.func62, Try.ntmps62
  go_wp2_with fail
  go_loopg [] n (fun k wr => ∃ o A', Hid (o ≤ n ∧ k = n - o ∧ Blk wr Bx 23 #[.slice A' (n - o) (c - o)] ∧ Rd u8v w A' (n - o) (b.drop o) ∧ J o A' wr))
  case atStart => exact ⟨0, A, H0⟩
  case round =>
    clear H0
    obtain ⟨o, A', H⟩ := hrel
    obtain ⟨ho, hk, hbx, hrd, hj⟩ := H.out
    have hcb := hbx.cell0
    have hfb := hbx.frozen 0
    obtain ⟨N, hN⟩ : ∃ N, N = n - o := ⟨_, rfl⟩
    obtain ⟨C, hC⟩ : ∃ C, C = c - o := ⟨_, rfl⟩
    have hNC : N ≤ C := by omega
    have hNm : N ≤ 1000000000000 := by omega
    have hCm : C ≤ maxLen := by unfold maxLen; omega
    rw [← hN, ← hC] at hcb
    have HR := Lib.hid (read_ A' N C (b.drop o) wr (by rw [hN]; exact hrd.ext (HJ.out _ _ _ hj)) (fun x hx => Hb.out x (List.mem_of_mem_drop hx)) hNC hCm hNm)
    have HN := Lib.hid hN
    have HC := Lib.hid hC
    have Hj := Lib.hid hj
    have Hbx := Lib.hid hbx
    have Hrd := Lib.hid hrd
    have Hk := Lib.hid hk
    have Ho := Lib.hid ho
    clear H hN hC ho hk hbx hrd hj hCm
    unfold ReadP at HR
    by_cases he : (rdF (b.drop o)).2.2 = 0
    · have hrn := rdF_n he
      have hdl : (b.drop o).length = N := by rw [List.length_drop, Hl.out]; exact HN.out.symm
      rw [hdl] at hrn
      have HY' : Hid (∀ W0 W s v, J o A' W0 → Blk W Bx 23 #[v] → Cloned W0 (rdF (b.drop o)).1 (rdF (b.drop o)).1.length s W →
          YieldAt Fence.wide 8 Try.prog l #[slv s, .slice (from_ A' C (rdF (b.drop o)).2.1) (N - (rdF (b.drop o)).2.1) (C - (rdF (b.drop o)).2.1)] W (FyP J Bx (o + (rdF (b.drop o)).2.1) (from_ A' C (rdF (b.drop o)).2.1) v)) := Lib.hid (by
        rw [HN.out, HC.out]
        exact fun W0 W s v h1 h2 h3 => HY.out o A' W0 W s v h1 h2 he h3 (by have := HN.out; omega))
      have Hsd := Lib.hid (Hrd.out.from_ (k := (rdF (b.drop o)).2.1) (c := c - o) (by have := HN.out; omega) (by have := HN.out; have := HC.out; omega))
      have Hsl := Lib.hid (fun w' => u8_fromI (A := A') (n := N) (c := C) (lo := (rdF (b.drop o)).2.1) w' rfl hrn.2.1)
      rw [he] at HR
      rw [List.drop_drop] at Hsd
      generalize (rdF (b.drop o)).1 = x at *
      generalize (rdF (b.drop o)).2.1 = m at *
      obtain ⟨hm1, hm2, -⟩ := hrn
      have hmI : (m : Int) ≤ (N : Int) := by omega
      have Hm1 := Lib.hid hm1
      have Hm2 := Lib.hid hm2
      clear he hdl hm1 hm2
      go_wp2_with fail
      refine HR.out.mono ?_; rintro e w1 ⟨s, rfl, hcl⟩
      have hbx1 := Hbx.out.ext hcl.ext
      have hcb1 := hbx1.cell0
      rw [← HN.out, ← HC.out] at hcb1
      have hYY := HY'.out wr w1 s _ Hj.out hbx1 hcl
      rw [← HN.out, ← HC.out] at hYY
      obtain ⟨fn, tmps, assign, body, hy, hRn⟩ := hYY
      have HRn := Lib.hid hRn
      have hsl := Hsl.out
      clear hRn hcl hbx1 HY' HR hcb hfb
      unfold slv at hy ⊢
      go_upto_region 1 with fail
      refine (wpIn_wide (n := 9)).1 ?_
      gi_wp2
      refine HRn.out.mono ?_
      rintro e W' ⟨rfl, hJ', hB'⟩
      have hcb2 := hB'.cell0
      have hfb2 := hB'.frozen 0
      have HJ' := Lib.hid hJ'
      have HB' := Lib.hid hB'
      clear hJ' hB' hcb1 hy
      gi_wp2
      go_wp2_with fail
      go_roundg (n - (o + m))
      case rel =>
        refine ⟨o + m, from_ A' C m, Lib.hid ⟨by have := HN.out; have := Hm2.out; have := Hm1.out; omega, rfl, ?_, ?_, HS.out _ _ _ _ HJ'.out⟩⟩
        · have h1 := HB'.out.set0 (.slice (from_ A' C m) (N - m) (C - m))
          have e1 : n - (o + m) = N - m := by have := HN.out; omega
          have e2 : c - (o + m) = C - m := by have := HC.out; omega
          rw [e1, e2]
          exact h1
        · have h1 := Hsd.out
          rw [← HC.out] at h1
          have e1 : n - (o + m) = n - o - m := by omega
          rw [e1]
          exact h1
      case measure =>
        have := Hk.out; have := HN.out; have := Hm1.out; have := Hm2.out; omega
    · have he' : (((rdF (b.drop o)).2.2 : Int) != 0) = true := by simp; omega
      have He := Lib.hid he
      generalize hr : (rdF (b.drop o)).2.2 = er at *
      have Hr := Lib.hid hr
      clear he hr
      go_wp2_with fail
      refine HR.out.mono ?_; rintro e w1 ⟨s, rfl, hcl⟩
      have hbx1 := Hbx.out.ext hcl.ext
      have hcb1 := hbx1.cell0
      have Hext := Lib.hid hcl.ext
      clear hcl hbx1 hcb
      unfold slv
      go_wp2_with fail
      try refine bodyPost_ret (results_none rfl _ _ _) rfl ?_
      exact ⟨⟨_, rfl⟩, o, A', HE.out _ _ _ _ Hj.out Hext.out, Ho.out, by rw [Hr.out]; exact He.out, Hrd.out⟩

/-- What holds between two rounds of Split's loop. -/
structure SpJ (w : World) (n c : Nat) (b : List Nat) (R : Obj) (o : Nat) (A' : Option Addr) (W : World) : Prop where
  out : ∃ Al nl cl os pre, Blk W w.heap.size 25 #[.slice Al nl cl] ∧ Lst (w.heap.size + 5) W Al nl cl os pre ∧ nl ≤ o ∧ Hid (splF b = (pre ++ (splF (b.drop o)).1, (splF (b.drop o)).2))
  rest : Blk W (w.heap.size + 1) 23 #[.slice A' (n - o) (c - o)]
  defd : W.heap[w.heap.size + 3]? = some (.deferred (some []))
  loop : W.heap[w.heap.size + 4]? = some R
  ext : Ext w W
  size : w.heap.size + 5 ≤ W.heap.size
section
variable {w : World} {n c : Nat} {b : List Nat} {R : Obj} {o : Nat} {A' : Option Addr} {W W' : World}
theorem SpJ.chg {T : Nat → Prop} (h : SpJ w n c b R o A' W) (ch : Chg T W W') (hT : ∀ k, T k → k = w.heap.size + 2) : SpJ w n c b R o A' W' := by
  obtain ⟨Al, nl, cl, os, pre, h1, h2, h3, h4⟩ := h.out
  have hz := h.size
  exact ⟨⟨Al, nl, cl, os, pre, h1.chg ch (fun ht => by have := hT _ ht; omega), h2.chg ch (fun k hk ht => by have := h2.new k hk; have := hT _ ht; omega), h3, h4⟩, h.rest.chg ch (fun ht => by have := hT _ ht; omega),
    (ch.block _ (by omega) (fun ht => by have := hT _ ht; omega)).trans h.defd, (ch.block _ (by omega) (fun ht => by have := hT _ ht; omega)).trans h.loop,
    h.ext.trans (ch.below h.ext.size (fun k hk ht => by have := hT _ ht; omega)), Nat.le_trans hz ch.size⟩
theorem SpJ.put (h : SpJ w n c b R o A' W) (R' : Obj) : SpJ w n c b R' o A' (W.putObj (w.heap.size + 4) R') := by
  obtain ⟨Al, nl, cl, os, pre, h1, h2, h3, h4⟩ := h.out
  have hz := h.size
  have ch := chg_put W (w.heap.size + 4) R'
  exact ⟨⟨Al, nl, cl, os, pre, h1.chg ch (by omega), h2.chg ch (fun k hk ht => by have := h2.new k hk; omega), h3, h4⟩, h.rest.chg ch (by omega),
    heap_put h.defd (by omega), World.putObj_heap_same (by omega), h.ext.trans (ch.below h.ext.size (fun k hk ht => by omega)), by simpa using hz⟩
end
theorem SpJ.push {w : World} {n c : Nat} {b : List Nat} {R : Obj} {o : Nat} {A' A2 Al A3 : Option Addr} {nl cl c2 : Nat} {W w1 w2 : World} {os : List Sl} {pre : List (List Nat)} {s : Sl} (h : SpJ w n c b R o A' W) (hout : Blk W w.heap.size 25 #[.slice Al nl cl]) (hl : Lst (w.heap.size + 5) W Al nl cl os pre)
    (hno : nl ≤ o) (hpre : splF b = (pre ++ (splF (b.drop o)).1, (splF (b.drop o)).2)) (he : (rdF (b.drop o)).2.2 = 0) (hbs : Byt W s (rdF (b.drop o)).1) (hfr : ∀ k, foot s.A s.c k → w.heap.size + 5 ≤ k ∧ ¬ foot Al cl k ∧ ¬ foots os k) (e1 : Ext W w1)
    (r : Room w2 A2 (nl + 1) c2 (os.map slv ++ [slv s])) (ch : Chg (foot Al cl) w1 w2) (ft : ∀ k, foot A2 c2 k → foot Al cl k ∨ w1.heap.size ≤ k) :
    SpJ w n c b R (o + (rdF (b.drop o)).2.1) A3 ((w2.setCell ⟨w.heap.size, 0, none⟩ (.slice A2 (nl + 1) c2)).setCell ⟨w.heap.size + 1, 0, none⟩ (.slice A3 (n - (o + (rdF (b.drop o)).2.1)) (c - (o + (rdF (b.drop o)).2.1)))) ∧
      (∀ v, Blk W (w.heap.size + 2) 23 #[v] → Blk ((w2.setCell ⟨w.heap.size, 0, none⟩ (.slice A2 (nl + 1) c2)).setCell ⟨w.heap.size + 1, 0, none⟩ (.slice A3 (n - (o + (rdF (b.drop o)).2.1)) (c - (o + (rdF (b.drop o)).2.1)))) (w.heap.size + 2) 23 #[v]) := by
  have hz := h.size
  have hlow : ∀ k, k < w.heap.size + 5 → ¬ foot Al cl k := fun k hk hf => by have := hl.new k (.inl hf); omega
  have c0 : Chg (foot Al cl) W w2 := (Chg.ofExt e1).t ch
  generalize hv1 : Value.slice A2 (nl + 1) c2 = v1
  generalize hv2 : Value.slice A3 (n - (o + (rdF (b.drop o)).2.1)) (c - (o + (rdF (b.drop o)).2.1)) = v2
  have s1 : Chg (fun k => k = w.heap.size ∨ k = w.heap.size + 1) w2 ((w2.setCell ⟨w.heap.size, 0, none⟩ v1).setCell ⟨w.heap.size + 1, 0, none⟩ v2) := (Chg.set w2 w.heap.size 0 v1 (.inl rfl)).t (Chg.set _ (w.heap.size + 1) 0 v2 (.inr rfl))
  have cc : Chg (fun k => foot Al cl k ∨ k = w.heap.size ∨ k = w.heap.size + 1) W ((w2.setCell ⟨w.heap.size, 0, none⟩ v1).setCell ⟨w.heap.size + 1, 0, none⟩ v2) := (c0.mono (fun k _ hk => .inl hk)).t (s1.mono (fun k _ hk => .inr hk))
  have hpush := hl.push hz hbs hfr e1 r ch ft
  have hr1 := rdF_n he
  have keep : ∀ k, w.heap.size + 2 ≤ k → k < w.heap.size + 5 → ¬ (foot Al cl k ∨ k = w.heap.size ∨ k = w.heap.size + 1) := fun k h1 h2 h3 => h3.elim (hlow k h2) (fun h4 => by omega)
  refine ⟨⟨⟨A2, nl + 1, c2, os ++ [s], pre ++ [(rdF (b.drop o)).1], ?_, hpush.chg s1 (fun k hk ht => by have := hpush.new k hk; omega), by omega, ?_⟩, ?_, (cc.block _ (by omega) (keep _ (by omega) (by omega))).trans h.defd, (cc.block _ (by omega) (keep _ (by omega) (by omega))).trans h.loop,
    h.ext.trans (cc.below h.ext.size (fun k hk ht => ht.elim (hlow k (by omega)) (fun h4 => by omega))), Nat.le_trans hz cc.size⟩, fun v hb => hb.chg cc (keep _ (by omega) (by omega))⟩
  · rw [hv1]
    exact ((hout.chg c0 (hlow _ (by omega))).set0 v1).off (by omega) v2
  · refine Lib.hid ?_
    rw [hpre, splF_step he, List.drop_drop, List.append_assoc]
    rfl
  · rw [hv2]
    exact ((h.rest.chg c0 (hlow _ (by omega))).off (by omega) v1).set0 v2
/-- What Split leaves. -/
def SplitP (b : List Nat) (w : World) (e : Ending) (w' : World) : Prop :=
  ∃ A n c os, e = .returned (.tuple #[.slice A n c, .int .i64 ((b.length - (splF b).2.length : Nat) : Int), .int .i64 (erF (splF b).2 : Int)]) ∧ Lst w.heap.size w' A n c os (splF b).1 ∧ Ext w w'
set_option maxRecDepth 100000 in
set_option maxHeartbeats 1000000 in
theorem split_ (A : Option Addr) (n c : Nat) (b : List Nat) (w : World) (h : Rd u8v w A n b) (hb : ∀ x ∈ b, x < 256) (hc : n ≤ c) (hm : c ≤ maxLen) (hn : n ≤ 1000000000000) :
    Calls Try.prog 20 #[.slice A n c] w (SplitP b w) := by
  refine calls_of_wp_marks Try.func20 rfl ?_
  simp only [Try.ntmps20, List.size_toArray, List.length_cons, List.length_nil, Nat.reduceAdd, Nat.reduceSub, Array.replicate_succ, Array.replicate_zero, List.push_toArray, List.append_toArray, List.nil_append, List.cons_append]
  go_wp2_with (go_at_call 45; refine (frames_ A n c _).mono ?_; rintro e w1 ⟨rfl, rfl⟩)
  have hbl : Ext w (((w.alloc (.cells #[.slice none 0 0] 25)).alloc (.cells #[.slice A n c] 23)).alloc (.cells #[.slice A n c] 23)) := ((Ext.alloc w _).t (Ext.alloc _ _)).t (Ext.alloc _ _)
  have b0 := ((Blk.new w 25 #[.slice none 0 0]).alloc (.cells #[.slice A n c] 23)).alloc (.cells #[.slice A n c] 23)
  have b1 := (Blk.new (w.alloc (.cells #[.slice none 0 0] 25)) 23 #[.slice A n c]).alloc (.cells #[.slice A n c] 23)
  have b2 := Blk.new ((w.alloc (.cells #[.slice none 0 0] 25)).alloc (.cells #[.slice A n c] 23)) 23 #[.slice A n c]
  simp only [World.size_alloc] at b0 b1 b2
  generalize hW : (((w.alloc (.cells #[.slice none 0 0] 25)).alloc (.cells #[.slice A n c] 23)).alloc (.cells #[.slice A n c] 23)) = W0 at *
  have hsz : W0.heap.size = w.heap.size + 3 := by rw [← hW]; simp
  clear hW
  refine wp_range (gf := 62) rfl (enters_of Try.func62 (by kernel_rfl) rfl) (fun fn rec hrec => ?_)
  rw [hsz]
  refine (frames1 (w.heap.size + 4) (w.heap.size + 2) A n c b w (SpJ w n c b (rec .ready none)) hb hc hm hn (fun o A' W h => h.ext) (fun o A' W W' h e => h.chg (T := fun _ => False) (Chg.ofExt e) (fun _ t => t.elim)) (fun o A' W v h => h.chg (Chg.set W (w.heap.size + 2) 0 v (T := fun k => k = w.heap.size + 2) rfl) (fun _ t => t)) ?hY _ ?h0 ?hbx h).mono ?post
  case hbx => exact (b2.alloc _).alloc _
  case h0 =>
    clear hrec
    refine ⟨⟨none, 0, 0, [], [], (b0.alloc _).alloc _, Lst.nil, Nat.le_refl _, Lib.hid rfl⟩, (b1.alloc _).alloc _, ?_, ?_, (hbl.t (Ext.alloc _ _)).t (Ext.alloc _ _), by simp; omega⟩
    · refine (Below.heap_alloc _ _ _ (by simp; omega)).trans ?_
      have := World.alloc_heap_new W0 (.deferred (some []))
      rwa [hsz] at this
    · have := World.alloc_heap_new (W0.alloc (.deferred (some []))) (rec .ready none)
      rwa [World.size_alloc, hsz] at this
  case hY =>
    intro o A' W1 W s v hj hbx he hcl hle
    have hjW := hj.chg (T := fun _ => False) (Chg.ofExt hcl.ext) (fun _ t => t.elim)
    rw [show slv s = .slice s.A s.n s.c from rfl]
    refine (yieldAt hrec trivial hjW.loop (by rfl) (fun jump W3 => jump = none ∧ SpJ w n c b (rec .busy none) (o + (rdF (b.drop o)).2.1) (from_ A' (c - o) (rdF (b.drop o)).2.1) W3 ∧ Blk W3 (w.heap.size + 2) 23 #[v]) ?walk).mono ?yp
    case yp =>
      rintro e W' ⟨jump, W3, ⟨rfl, hB, hB2⟩, hl, rfl, rfl⟩
      exact ⟨rfl, hB.put _, blk_put hB2 (by omega)⟩
    case walk =>
      clear hrec
      gi_wp2
      refine ⟨hjW.loop, ?_⟩
      have hk1 := hjW.put (rec .busy none)
      have hz1 := hj.size
      have hbx1 := blk_put (l := w.heap.size + 4) (o := rec .busy none) hbx (by omega)
      have hbs : Byt (W.putObj (w.heap.size + 4) (rec .busy none)) s (rdF (b.drop o)).1 := hcl.byt.chg (chg_put _ _ _) (fun k hk e => by have := hcl.new k hk; omega)
      have hfr0 : ∀ k, foot s.A s.c k → W1.heap.size ≤ k := hcl.new
      obtain ⟨Al, nl, cl, os, pre, hout, hl, hno, hpre⟩ := hj.out
      have hfr : ∀ k, foot s.A s.c k → w.heap.size + 5 ≤ k ∧ ¬ foot Al cl k ∧ ¬ foots os k := fun k hk => by
        have h1 := hfr0 k hk
        exact ⟨by omega, fun h2 => by have := hl.lt (.inl h2); omega, fun h2 => by have := hl.lt (.inr h2); omega⟩
      have hoP := blk_put (l := w.heap.size + 4) (o := rec .busy none) (hout.ext hcl.ext) (by omega)
      have hlP : Lst (w.heap.size + 5) (W.putObj (w.heap.size + 4) (rec .busy none)) Al nl cl os pre := (hl.ext hcl.ext).chg (chg_put _ _ _) (fun k hk e => by have := hl.new k hk; omega)
      have hnl : nl ≤ 1000000000000 := by omega
      have HNA : ¬ foot Al cl w.heap.size := fun hf => by have := hl.new _ (.inl hf); omega
      have HNA1 : ¬ foot Al cl (w.heap.size + 1) := fun hf => by have := hl.new _ (.inl hf); omega
      clear hj hbx hcl hjW hout hl hfr0
      generalize W.putObj (w.heap.size + 4) (rec .busy none) = W2 at *
      have cb := hoP.cell0
      have cr := hk1.rest.cell0
      have hx1 : n - o - (rdF (b.drop o)).2.1 = n - (o + (rdF (b.drop o)).2.1) := by omega
      have hx2 : c - o - (rdF (b.drop o)).2.1 = c - (o + (rdF (b.drop o)).2.1) := by omega
      rw [hx1, hx2]
      have HK := Lib.hid hk1
      have HBx := Lib.hid hbx1
      have HBs := Lib.hid hbs
      have HFr := Lib.hid hfr
      have HOut := Lib.hid hoP
      have HL := Lib.hid hlP
      have HNA := Lib.hid HNA
      have HNA1 := Lib.hid HNA1
      have Hpush := Lib.hid (fun A2 A3 c2 w1 w2 (e1 : Ext W2 w1) r ch ft => SpJ.push (A2 := A2) (A3 := A3) (c2 := c2) (w2 := w2) hk1 hoP hlP hno hpre.out he hbs hfr e1 r ch ft)
      have Hb := Lib.hid hb
      have Hh := Lib.hid h
      generalize from_ A' (c - o) (rdF (b.drop o)).2.1 = A3 at *
      generalize (rdF (b.drop o)).2.1 = m at *
      generalize n - (o + m) = n3 at *
      generalize c - (o + m) = c3 at *
      clear hk1 hbx1 hbs hfr hoP hlP hpre hx1 hx2 he hno hle hb h hbl b0 b1 b2 hsz hz1
      gi_wp2_with (gi_at_builtin; refine wpListIn_append_at _ rfl rfl ul_bb info_bb rfl rfl (HL.out.room.ext (Ext.alloc _ _)) rfl (Src.ofRd (f := slv) (xs := [s]) ul_bb ((Blk.new _ _ _).rd rfl rfl) (fun _ => rfl)) (by simp only [maxLen]; omega) (by omega) ?_; intro A2 c2 w2 r2 ch2 ft2; have b2 := (HOut.out.alloc (.cells #[.slice s.A s.n s.c] 23)).chg ch2 HNA.out; have cb2 := b2.cell0; have fb2 := b2.frozen 0; have b3 := (Blk.alloc HK.out.rest (.cells #[.slice s.A s.n s.c] 23)).chg ch2 HNA1.out; have cb3 := b3.cell0; have fb3 := b3.frozen 0)
      have hp := Hpush.out A2 A3 c2 _ _ (Ext.alloc W2 _) r2 ch2 ft2
      exact ⟨hp.1.loop, rfl, hp.1, hp.2 _ HBx.out⟩
  case post =>
    clear hrec
    rintro e W2 ⟨⟨v, rfl⟩, o, A', hj, ho, he, hrd⟩
    refine ⟨⟨_, rfl⟩, .ready, none, by simp, hj.loop, ?_⟩
    have hj2 := hj.put (rec .exhausted none)
    clear hj
    generalize W2.putObj (w.heap.size + 4) (rec .exhausted none) = W3 at *
    obtain ⟨Al, nl, cl, os, pre, hout, hl, hno, hpre⟩ := hj2.out
    have hsp : splF b = (pre, b.drop o) := by rw [hpre.out, splF_stop he, List.append_nil]
    have hlen : (b.drop o).length = n - o := by rw [List.length_drop, h.1]
    have hbl : b.length = n := h.1
    have Hfin : Hid (∀ W4 e4, Ext W3 W4 → e4 = erF (b.drop o) → SplitP b w (.returned (.tuple #[.slice Al nl cl, .int .i64 ((n : Int) - ((n - o : Nat) : Int)), .int .i64 (e4 : Int)])) (W4.putObj (w.heap.size + 3) (.deferred none))) := Lib.hid (fun W4 e4 e1 e2 => by
      have ch := chg_put W4 (w.heap.size + 3) (.deferred none)
      have hE : Ext w W4 := hj2.ext.t e1
      refine ⟨Al, nl, cl, os, ?_, ?_, hE.trans (ch.below hE.size (fun k hk ht => by omega))⟩
      · rw [hsp, e2, hlen, hbl]
        have : ((n - (n - o) : Nat) : Int) = (n : Int) - ((n - o : Nat) : Int) := by omega
        rw [this]
      · rw [hsp]
        exact ((hl.ext e1).chg ch (fun k hk e => by have := hl.new k hk; omega)).down (by omega))
    have HR := Lib.hid (read_ A' (n - o) (c - o) (b.drop o) W3 (hrd.ext hj2.ext) (fun x hx => hb x (List.mem_of_mem_drop hx)) (by omega) (by omega) (by omega))
    unfold ReadP at HR
    have HJ := Lib.hid hj2
    have HO := Lib.hid hout
    have cr := hj2.rest.cell0
    have co := hout.cell0
    have he0 : n - o = 0 → erF (b.drop o) = 0 := fun h0 => by
      have : b.drop o = [] := List.eq_nil_of_length_eq_zero (by omega)
      rw [this]; rfl
    have he1 : 0 < n - o → erF (b.drop o) = (rdF (b.drop o)).2.2 := fun h0 => by
      unfold erF
      rw [if_neg (fun h1 => by rw [h1] at hlen; simp at hlen; omega)]
    have Hb := Lib.hid hb
    have Hh := Lib.hid h
    have hNn : n - o ≤ n := by omega
    generalize hN : n - o = N at *
    have HN := Lib.hid hN
    have He0 := Lib.hid he0
    have He1 := Lib.hid he1
    clear hj2 hout hl hno hpre hsp hb h he hrd he0 he1 hN hbl hlen hsz b0 b1 b2
    by_cases h0 : N = 0
    · subst h0
      have He := Lib.hid (He0.out rfl)
      go_upto_region 10 with fail
      go_quiet (fail)
      go_wp2
      refine leave1 (v := .tuple #[.slice Al nl cl, .int .i64 (n : Int), .int .i64 0]) rfl HJ.out.defd ?_ ?_
      · simp [results, Try.results20, go_sem]
      · have hf := fun q => Hfin.out (W3.drewN q) 0 (Ext.drewN W3 q) He.out.symm
        have e0 : (n : Int) - ((0 : Nat) : Int) = (n : Int) := by omega
        rw [e0] at hf
        exact hf _
    · have hp : (0 : Int) < (N : Int) := by omega
      have He := Lib.hid (He1.out (by omega))
      go_upto_region 9 with fail
      go_wp2_with fail
      refine HR.out.mono ?_; rintro e w5 ⟨s, rfl, hcl⟩
      have Hcl := Lib.hid hcl.ext
      have co5 := (HO.out.ext hcl.ext).cell0
      have cr5 := (HJ.out.rest.ext hcl.ext).cell0
      rw [HN.out] at cr5
      have hd5 : w5.heap[w.heap.size + 3]? = some (.deferred (some [])) := (hcl.ext.block _ (by have := HJ.out.size; omega)).trans HJ.out.defd
      have Hd5 := Lib.hid hd5
      generalize (rdF (b.drop o)).2.2 = er at *
      generalize (rdF (b.drop o)).2.1 = er2 at *
      clear hcl hd5 co cr HR
      unfold slv
      go_upto_region 10 with fail
      go_quiet (fail)
      go_wp2
      refine leave1 (v := .tuple #[.slice Al nl cl, .int .i64 ((n : Int) - (N : Int)), .int .i64 (er : Int)]) rfl Hd5.out ?_ ?_
      · simp [results, Try.results20, go_sem]
      · exact Hfin.out _ er (Hcl.out.t (Ext.drewN _ _)) He.out.symm
end Go.Proofs.Ytippgnbmilnjbaa
