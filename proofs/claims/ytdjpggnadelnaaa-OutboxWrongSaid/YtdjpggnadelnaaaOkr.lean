/- Okr: key.Right. -/
import Derived.Test.YtdjpggnadelnaaaKcp
import Derived.Test.YtdjpggnadelnaaaObp
namespace Go.Fx
open Go.RowKit Go.Proofs.Ytdjpggnadelnaaa
/-- The greatest value of a field. -/
def mostK : Nat → Int
  | 0 => 281474976710656
  | 1 => 16
  | _ => 4294967295
theorem flC_most (g : Nat) {o : Nat} (ho : o < 3) : ∃ b s, flC g o = [.pointer (some ⟨g, o, none⟩), .int .i64 (mostK o), .int .i64 b, .string s] := by
  rcases (by omega : o = 0 ∨ o = 1 ∨ o = 2) with rfl | rfl | rfl <;> exact ⟨_, _, rfl⟩
theorem rightK_iff (k : Ky) : rightK k = true ↔ ∀ o, o < 3 → 0 ≤ fldK k o ∧ fldK k o ≤ mostK o := by
  unfold rightK
  rw [decide_eq_true_eq]
  constructor
  · intro h o ho
    rcases (by omega : o = 0 ∨ o = 1 ∨ o = 2) with rfl | rfl | rfl <;> simp only [fldK, mostK] <;> omega
  · intro h
    have h0 := h 0 (by omega)
    have h1 := h 1 (by omega)
    have h2 := h 2 (by omega)
    simp only [fldK, mostK] at h0 h1 h2
    omega
end Go.Fx
namespace Go.Proofs.Ytdjpggnadelnaaa
open Go.RowKit Go.Fx
attribute [local go_sem] Oper.semAt_some
attribute [local simp, local go_sem] wide_fn
/-- The loop's own: the result. -/
def KrM (w : World) (k : Nat) : Prop := k = w.heap.size + 1
structure KrJ (a : Ky) (w W0 : World) (R : Obj) (T : Nat → Prop) (o : Nat) (W : World) : Prop where
  rg : RgJ W0 (KrM w) R T W
  rc : Blk W (w.heap.size + 1) 4 #[.bool false]
  ok : ∀ i, i < o → 0 ≤ fldK a i ∧ fldK a i ≤ mostK i
structure KrX (a : Ky) (w W0 : World) (R : Obj) (W : World) : Prop where
  rg : RgJ W0 (KrM w) R (fun _ => False) W
  rc : Blk W (w.heap.size + 1) 4 #[.bool false]
  bad : rightK a = false
section
variable {a : Ky} {w W0 : World} {R : Obj} {T : Nat → Prop} {o : Nat} {W W' : World}
theorem KrJ.e (h : KrJ a w W0 R T o W) (e : Ext W W') : KrJ a w W0 R T o W' := ⟨h.rg.e e, h.rc.ext e, h.ok⟩
theorem KrJ.stop (h : KrJ a w W0 R T o W) (hV : W0.heap.size = w.heap.size + 3) (hb : rightK a = false) : KrX a w W0 R (W.setCell ⟨w.heap.size + 1, 0, none⟩ (.bool false)) := by
  have c1 := Chg.set W (w.heap.size + 1) 0 (.bool false) (T := fun k => k = w.heap.size + 1) rfl
  have r := h.rg.step c1 (fun k _ hk => .inr ⟨hk, by omega⟩)
  exact ⟨⟨r.chg, r.defd, r.loop, r.size, fun _ t => t.elim⟩, h.rc.set0 _, hb⟩
theorem KrX.e (h : KrX a w W0 R W) (e : Ext W W') : KrX a w W0 R W' := ⟨h.rg.e e, h.rc.ext e, h.bad⟩
end
set_option maxRecDepth 100000 in
set_option maxHeartbeats 1000000 in
theorem right_ (a : Ky) (w : World) : Calls Try.prog 52 #[kyV a] w fun e w' => e = .returned (.bool (rightK a)) ∧ Ext w w' := by
  unfold kyV
  refine calls_of_wp_marks Try.func52 rfl ?_
  simp only [Try.ntmps52, List.size_toArray, List.length_cons, List.length_nil, Nat.reduceAdd, Nat.reduceSub, Array.replicate_succ, Array.replicate_zero, List.push_toArray, List.append_toArray, List.nil_append, List.cons_append]
  go_wp2_with (go_at_call 69; refine (fields_ _ _).mono ?_; rintro e w1 ⟨rfl, rfl⟩)
  obtain ⟨V, hV⟩ : ∃ V, V = ((w.alloc (.cells (kyC a).toArray 33)).alloc (.cells #[.bool false] 4)).alloc (.cells #[.pointer (some ⟨w.heap.size, 0, none⟩)] 122) := ⟨_, rfl⟩
  have ka : Blk V w.heap.size 33 (kyC a).toArray := by rw [hV]; exact ((Blk.new _ _ _).alloc _).alloc _
  have rc : Blk V (w.heap.size + 1) 4 #[.bool false] := by
    rw [hV]; have := Blk.new (w.alloc (.cells (kyC a).toArray 33)) 4 #[.bool false]; rw [World.size_alloc] at this; exact this.alloc _
  have bx : Blk V (w.heap.size + 2) 122 #[.pointer (some ⟨w.heap.size, 0, none⟩)] := by
    rw [hV]; have := Blk.new ((w.alloc (.cells (kyC a).toArray 33)).alloc (.cells #[.bool false] 4)) 122 #[.pointer (some ⟨w.heap.size, 0, none⟩)]; simp only [World.size_alloc] at this; exact this
  have ev : Ext w V := by rw [hV]; exact ((Ext.alloc _ _).t (Ext.alloc _ _)).t (Ext.alloc _ _)
  have sv : V.heap.size = w.heap.size + 3 := by rw [hV]; simp
  change Code.wp _ _ _ _ (((w.alloc (.cells (kyC a).toArray 33)).alloc (.cells #[.bool false] 4)).alloc (.cells #[.pointer (some ⟨w.heap.size, 0, none⟩)] 122))
  rw [← hV]
  clear hV
  refine wp_range (gf := 75) rfl (enters_of Try.func75 (by kernel_rfl) rfl) (fun fn rec hrec => ?_)
  rw [show w.heap.size + 1 + 1 = w.heap.size + 2 from rfl]
  refine (fields1 (V.heap.size + 1) (w.heap.size + 2) w.heap.size (KrJ a w V (rec .ready none) (fun _ => False) 0) (fun T o W => KrJ a w V (rec .ready none) T o W) (KrX a w V (rec .done (some .ret))) (fun W h => h.rg.blk bx (by unfold KrM; omega)) ⟨?s1, ?s2, ?s3, ?hY⟩ _ ?h0).mono ?post
  case s1 =>
    intro W W' T h e hT
    exact ⟨h.rg.begin e hT, h.rc.ext e, h.ok⟩
  case s2 =>
    intro T o W W' h e
    exact h.e e
  case s3 =>
    intro T o W W' h ch
    have nT : ∀ k, k < V.heap.size → ¬ T k := fun k hk ht => by have := (h.rg.own k ht).1; omega
    exact ⟨h.rg.iown ch, h.rc.chg ch (nT _ (by omega)), h.ok⟩
  case h0 => exact ⟨RgJ.start _, (rc.alloc _).alloc _, fun i hi => by omega⟩
  case hY =>
    intro T o W ho hj
    obtain ⟨fb, fs, hfl⟩ := flC_most w.heap.size ho
    rw [hfl]
    refine (yieldAt hrec trivial hj.rg.loop (by rfl) (fun jump W3 => (jump = none ∧ KrJ a w V (rec .busy none) T (o + 1) W3 ∧ ∀ k, T k → W3.heap[k]? = W.heap[k]?) ∨ (jump = some .ret ∧ KrX a w V (rec .busy none) W3)) ?walk).mono ?yp
    case yp =>
      rintro e W' ⟨jump, W3, (⟨rfl, hB, hT⟩ | ⟨rfl, hX⟩), hl, rfl, rfl⟩
      · exact .inl ⟨rfl, ⟨hB.rg.put _, blk_put hB.rc (by omega), hB.ok⟩, fun k hk => (heap_put' (by have := (hj.rg.own k hk).1; omega)).trans (hT k hk)⟩
      · exact .inr ⟨rfl, hX.rg.put _, blk_put hX.rc (by omega), hX.bad⟩
    case walk =>
      clear hrec
      gi_wp2
      have HT : Hid (∀ k, T k → ((W.alloc (.cells #[.pointer (some ⟨w.heap.size, o, none⟩), .int .i64 (mostK o), .int .i64 fb, .string fs] 125)).putObj (V.heap.size + 1) (rec .busy none)).heap[k]? = W.heap[k]?) := Lib.hid (fun k hk => (heap_put' (by have := (hj.rg.own k hk).1; omega)).trans ((Ext.alloc W _).block k (hj.rg.own k hk).2))
      have hz := hj.rg.size
      have hgl := (hj.rg.e (Ext.alloc W (.cells #[.pointer (some ⟨w.heap.size, o, none⟩), .int .i64 (mostK o), .int .i64 fb, .string fs] 125))).loop
      refine ⟨hgl, ?_⟩
      have hk : KrJ a w V (rec .busy none) T o ((W.alloc (.cells #[.pointer (some ⟨w.heap.size, o, none⟩), .int .i64 (mostK o), .int .i64 fb, .string fs] 125)).putObj (V.heap.size + 1) (rec .busy none)) :=
        ⟨(hj.rg.e (Ext.alloc _ _)).put _, blk_put (hj.rc.alloc _) (by omega), hj.ok⟩
      have hd := blk_put (l := V.heap.size + 1) (o := rec .busy none) (Blk.new W 125 #[.pointer (some ⟨w.heap.size, o, none⟩), .int .i64 (mostK o), .int .i64 fb, .string fs]) (by omega)
      generalize (W.alloc (.cells #[.pointer (some ⟨w.heap.size, o, none⟩), .int .i64 (mostK o), .int .i64 fb, .string fs] 125)).putObj (V.heap.size + 1) (rec .busy none) = W1 at *
      obtain ⟨g, hg⟩ : ∃ g, g = W.heap.size := ⟨_, rfl⟩
      rw [← hg] at hd ⊢
      have d0 : W1.cell? ⟨g, 0, none⟩ = some (.pointer (some ⟨w.heap.size, o, none⟩)) := by rw [hd.cell]; rfl
      have d1 : W1.cell? ⟨g, 1, none⟩ = some (.int .i64 (mostK o)) := by rw [hd.cell]; rfl
      have ca := fldK_cell (hk.rg.blk ka (by unfold KrM; omega)) ho
      have f2 := hk.rc.frozen 0
      have c2 := hk.rc.cell0
      have HK := Lib.hid hk
      have Hsz := Lib.hid (show V.heap.size = w.heap.size + 3 ∧ o < 3 from ⟨sv, ho⟩)
      have Hbad : Hid (¬ (0 ≤ fldK a o ∧ fldK a o ≤ mostK o) → rightK a = false) := Lib.hid (fun h => by
        cases hr : rightK a with
        | false => rfl
        | true => exact absurd ((rightK_iff a).1 hr o ho) h)
      have Hok : Hid (0 ≤ fldK a o → fldK a o ≤ mostK o → ∀ i, i < o + 1 → 0 ≤ fldK a i ∧ fldK a i ≤ mostK i) := Lib.hid (fun h1 h2 i hi => by
        rcases Nat.lt_or_ge i o with h | h
        · exact hk.ok i h
        · obtain rfl : i = o := by omega
          exact ⟨h1, h2⟩)
      generalize fldK a o = xa at *
      generalize mostK o = xm at *
      clear hgl hj hk hd hg hz bx ka rc ev sv ho hfl
      by_cases hx : xa < 0
      · have hd0 : decide (xa < 0) = true := by simpa using hx
        have HB := Lib.hid (Hbad.out (by omega))
        gi_wp2
        refine wpIn_region_quiet_litR (by kernel_rfl) (by kernel_rfl) (by kernel_rfl) ?_
        repeat (gi_big_quiet_step (fail))
        refine wpQuietIn_nil ?_
        rintro _ ⟨nq, rfl⟩
        have HK2 := Lib.hid (HK.out.e (Ext.drewN W1 nq))
        have HX := Lib.hid (HK2.out.stop Hsz.out.1 HB.out)
        have f2 := HK2.out.rc.frozen 0
        have c2 := HK2.out.rc.cell0
        generalize W1.drewN nq = W2 at *
        clear d0 d1 ca HK HK2
        gi_wp2
        exact ⟨HX.out.rg.loop, .inr ⟨rfl, HX.out⟩⟩
      · have hd0 : decide (xa < 0) = false := by simpa using hx
        by_cases hx2 : xa > xm
        · have hd2 : decide (xa > xm) = true := by simpa using hx2
          have HB := Lib.hid (Hbad.out (by omega))
          gi_wp2
          refine wpIn_region_quiet_litR (by kernel_rfl) (by kernel_rfl) (by kernel_rfl) ?_
          repeat (gi_big_quiet_step (fail))
          refine wpQuietIn_nil ?_
          rintro _ ⟨nq, rfl⟩
          have HK2 := Lib.hid (HK.out.e (Ext.drewN W1 nq))
          have HX := Lib.hid (HK2.out.stop Hsz.out.1 HB.out)
          have f2 := HK2.out.rc.frozen 0
          have c2 := HK2.out.rc.cell0
          generalize W1.drewN nq = W2 at *
          clear d0 d1 ca HK HK2
          gi_wp2
          exact ⟨HX.out.rg.loop, .inr ⟨rfl, HX.out⟩⟩
        · have hd2 : decide (xa > xm) = false := by simpa using hx2
          have HO := Lib.hid (Hok.out (by omega) (by omega))
          gi_wp2
          refine wpIn_region_quiet_litR (by kernel_rfl) (by kernel_rfl) (by kernel_rfl) ?_
          repeat (gi_big_quiet_step (fail))
          refine wpQuietIn_nil ?_
          rintro _ ⟨nq, rfl⟩
          gi_wp2
          have hfin := HK.out.e (Ext.drewN W1 nq)
          exact ⟨hfin.rg.loop, .inl ⟨rfl, ⟨hfin.rg, hfin.rc, HO.out⟩, HT.out⟩⟩
  case post =>
    clear hrec
    rintro e W2 ⟨⟨v, rfl⟩, ⟨T, hj⟩ | hx⟩
    · refine ⟨⟨_, rfl⟩, .ready, none, by simp, hj.rg.loop, ?_⟩
      have hj2 : KrJ a w V (rec .exhausted none) T 3 (W2.putObj (V.heap.size + 1) (rec .exhausted none)) := ⟨hj.rg.put _, blk_put hj.rc (by omega), hj.ok⟩
      clear hj
      generalize W2.putObj (V.heap.size + 1) (rec .exhausted none) = W3 at *
      have f2 := hj2.rc.frozen 0
      have c2 := hj2.rc.cell0
      have HV := Lib.hid ((rightK_iff a).2 hj2.ok)
      have HJ := Lib.hid hj2
      have HE := Lib.hid ev
      have HS := Lib.hid sv
      clear hj2 bx ka rc ev sv
      go_wp2_with fail
      try rw [Exit.noGoto_ret]
      have c1 := Chg.set W3 (w.heap.size + 1) 0 (.bool true) (T := fun k => k = w.heap.size + 1) rfl
      have k2 : Blk (W3.setCell ⟨w.heap.size + 1, 0, none⟩ (.bool true)) (w.heap.size + 1) 4 #[.bool true] := HJ.out.rc.set0 _
      have hd := HJ.out.rg.defd
      have hd2 := (c1.block _ (Array.getElem?_eq_some_iff.1 hd).1 (by have := HS.out; omega)).trans hd
      have hE : Ext w W3 := HE.out.trans (HJ.out.rg.chg.below HE.out.size (fun k hk hm => by unfold KrM at hm; omega))
      have q2 := (blk_put (l := V.heap.size) (o := .deferred none) k2 (by have := HS.out; omega)).cell0
      refine leave1 (v := .bool true) rfl hd2 ?_ ?_
      · change _ = Result.ok _ ((W3.setCell ⟨w.heap.size + 1, 0, none⟩ (.bool true)).putObj V.heap.size (.deferred none))
        simp [results, Try.results52, go_sem, q2]
      · have ch := chg_putI (W3.setCell ⟨w.heap.size + 1, 0, none⟩ (.bool true)) V.heap.size (.deferred none)
        rw [HV.out]
        exact ⟨rfl, (hE.trans (c1.below hE.size (fun k hk ht => by omega))).trans (ch.below (Nat.le_trans hE.size c1.size) (fun k hk ht => by have := HS.out; omega))⟩
    · refine ⟨⟨_, rfl⟩, .done, some .ret, by simp, hx.rg.loop, ?_⟩
      have hx2 : KrX a w V (rec .exhausted (some .ret)) (W2.putObj (V.heap.size + 1) (rec .exhausted (some .ret))) := ⟨hx.rg.put _, blk_put hx.rc (by omega), hx.bad⟩
      clear hx
      show Code.wp _ _ _ _ (W2.putObj (V.heap.size + 1) (rec .exhausted (some .ret)))
      generalize W2.putObj (V.heap.size + 1) (rec .exhausted (some .ret)) = W3 at *
      have q2 := (blk_put (l := V.heap.size) (o := .deferred none) hx2.rc (by omega)).cell0
      have hE : Ext w W3 := ev.trans (hx2.rg.chg.below ev.size (fun k hk hm => by unfold KrM at hm; omega))
      have HX := Lib.hid hx2
      have HE := Lib.hid hE
      have HS := Lib.hid sv
      clear hx2 hE bx ka rc ev sv
      go_wp2_with fail
      try rw [Exit.noGoto_ret]
      refine leave1 (v := .bool false) rfl HX.out.rg.defd ?_ ?_
      · simp [results, Try.results52, go_sem, q2]
      · have ch := chg_putI W3 V.heap.size (.deferred none)
        rw [HX.out.bad]
        exact ⟨rfl, HE.out.trans (ch.below HE.out.size (fun k hk ht => by have := HS.out; omega))⟩
end Go.Proofs.Ytdjpggnadelnaaa
