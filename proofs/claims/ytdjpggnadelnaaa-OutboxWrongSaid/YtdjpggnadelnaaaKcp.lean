/- Kcp: key.Compare. -/
import Derived.Test.YtdjpggnadelnaaaAsq
import Derived.Test.YtdjpggnadelnaaaKeq
import Derived.Test.YtdjpggnadelnaaaQuR
namespace Go.Fx
open Go.RowKit Go.Proofs.Ytdjpggnadelnaaa
/-- A key's field. -/
def fldK (k : Ky) : Nat → Int
  | 0 => k.t
  | 1 => k.s
  | _ => k.q
/-- What Compare tells from its n-th field on. -/
def cmpN (a b : Ky) (n : Nat) : Int × Int := if n < 3 then (if fldK a n = fldK b n then cmpN a b (n + 1) else (cmpI (fldK a n) (fldK b n), (n : Int) + 1)) else (0, 0)
termination_by 3 - n
def cmpK (a b : Ky) : Int × Int := cmpN a b 0
theorem cmpN_eq {a b : Ky} {n : Nat} (hn : n < 3) (h : fldK a n = fldK b n) : cmpN a b n = cmpN a b (n + 1) := by
  conv => lhs; rw [cmpN, if_pos hn, if_pos h]
theorem cmpN_ne {a b : Ky} {n : Nat} (hn : n < 3) (h : fldK a n ≠ fldK b n) : cmpN a b n = (cmpI (fldK a n) (fldK b n), (n : Int) + 1) := by
  conv => lhs; rw [cmpN, if_pos hn, if_neg h]
theorem cmpN_end (a b : Ky) : cmpN a b 3 = (0, 0) := by rw [cmpN, if_neg (by omega)]
theorem cmpK_self (a : Ky) : cmpK a a = (0, 0) := by
  unfold cmpK
  rw [cmpN_eq (by omega) rfl, cmpN_eq (by omega) rfl, cmpN_eq (by omega) rfl, cmpN_end]
theorem cmpI_lt {a b : Int} : cmpI a b < 0 ↔ a < b := by
  unfold cmpI
  split
  · simp_all
  · split <;> omega
theorem cmpK_lt (a b : Ky) : decide ((cmpK a b).1 < 0) = klB a b := by
  unfold cmpK
  by_cases h0 : fldK a 0 = fldK b 0
  · rw [cmpN_eq (by omega) h0]
    by_cases h1 : fldK a 1 = fldK b 1
    · rw [cmpN_eq (by omega) h1]
      by_cases h2 : fldK a 2 = fldK b 2
      · rw [cmpN_eq (by omega) h2, cmpN_end]
        simp only [fldK] at h0 h1 h2
        simp [klB, h0, h1, h2]
      · rw [cmpN_ne (by omega) h2]
        simp only [fldK] at h0 h1 h2
        simp [klB, cmpI_lt, h0, h1, fldK]
    · rw [cmpN_ne (by omega) h1]
      simp only [fldK] at h0 h1
      simp [klB, cmpI_lt, h0, h1, fldK]
  · rw [cmpN_ne (by omega) h0]
    simp only [fldK] at h0
    simp [klB, cmpI_lt, h0, fldK]
theorem fldK_cell {w : World} {g : Nat} {t : TypeId} {k : Ky} (h : Blk w g t (kyC k).toArray) {o : Nat} (ho : o < 3) : w.cell? ⟨g, o, none⟩ = some (.int .i64 (fldK k o)) := by
  rw [h.cell]
  rcases (by omega : o = 0 ∨ o = 1 ∨ o = 2) with rfl | rfl | rfl <;> rfl
theorem flC_at (g : Nat) {o : Nat} (ho : o < 3) : ∃ a b s, flC g o = [.pointer (some ⟨g, o, none⟩), .int .i64 a, .int .i64 b, .string s] := by
  rcases (by omega : o = 0 ∨ o = 1 ∨ o = 2) with rfl | rfl | rfl <;> exact ⟨_, _, _, rfl⟩
theorem flC_rd {w : World} {A : Option Addr} {g o : Nat} (h : RdS 4 (flC g) w A 3 [0, 1, 2]) (ho : o < 3) : ∃ b of, A = some ⟨b, of, none⟩ ∧ w.cell? ⟨b, of + o * 4, none⟩ = some (.pointer (some ⟨g, o, none⟩)) := by
  obtain ⟨b, of, x, h1, _, h3, h4⟩ := h.at_ ho
  refine ⟨b, of, h1, ?_⟩
  have : ([0, 1, 2] : List Nat)[o]? = some o := by
    rcases (by omega : o = 0 ∨ o = 1 ∨ o = 2) with rfl | rfl | rfl <;> rfl
  rw [this] at h3
  cases h3
  obtain ⟨_, _, _, hf⟩ := flC_at g ho
  exact h4 0 _ (by rw [hf]; rfl)
end Go.Fx
namespace Go.Proofs.Ytdjpggnadelnaaa
open Go.RowKit Go.Fx
attribute [local go_sem] Oper.semAt_some
theorem wide_fn (f : FuncId) : Fence.wide.fn f = True := eq_true trivial
attribute [local simp, local go_sem] wide_fn
def CmpP (a b : Ky) (w : World) (e : Ending) (w' : World) : Prop := e = .returned (.tuple #[.int .i64 (cmpK a b).1, .int .i64 (cmpK a b).2]) ∧ Ext w w'
/-- The loop's own: the counter, the results. -/
def KcM (w : World) (B : Nat) (k : Nat) : Prop := k = B + 1 ∨ k = w.heap.size + 2 ∨ k = w.heap.size + 3
structure KcJ (a b : Ky) (w W0 : World) (B : Nat) (R : Obj) (T : Nat → Prop) (o : Nat) (W : World) : Prop where
  rg : RgJ W0 (KcM w B) R T W
  cnt : Blk W (B + 1) 3 #[.int .i64 (o : Int)]
  rc : Blk W (w.heap.size + 2) 3 #[.int .i64 0]
  rn : Blk W (w.heap.size + 3) 3 #[.int .i64 0]
  eqs : cmpK a b = cmpN a b o
structure KcX (a b : Ky) (w W0 : World) (B : Nat) (R : Obj) (W : World) : Prop where
  rg : RgJ W0 (KcM w B) R (fun _ => False) W
  rc : Blk W (w.heap.size + 2) 3 #[.int .i64 (cmpK a b).1]
  rn : Blk W (w.heap.size + 3) 3 #[.int .i64 (cmpK a b).2]
section
variable {a b : Ky} {w W0 : World} {B : Nat} {R : Obj} {T : Nat → Prop} {o : Nat} {W W' : World}
theorem KcJ.e (h : KcJ a b w W0 B R T o W) (e : Ext W W') : KcJ a b w W0 B R T o W' := ⟨h.rg.e e, h.cnt.ext e, h.rc.ext e, h.rn.ext e, h.eqs⟩
theorem KcJ.inc (h : KcJ a b w W0 B R T o W) (nq : Nat) (hV : W0.heap.size = B + 3) (hB : w.heap.size + 5 ≤ B) (he : cmpN a b o = cmpN a b (o + 1)) :
    KcJ a b w W0 B R T (o + 1) ((W.drewN nq).setCell ⟨B + 1, 0, none⟩ (.int .i64 ((o : Int) + 1))) ∧ ∀ k, T k → ((W.drewN nq).setCell ⟨B + 1, 0, none⟩ (.int .i64 ((o : Int) + 1))).heap[k]? = W.heap[k]? := by
  have h' := h.e (Ext.drewN W nq)
  have ch := Chg.set (W.drewN nq) (B + 1) 0 (.int .i64 ((o : Int) + 1)) (T := fun k => k = B + 1) rfl
  have hz := h.rg.size
  refine ⟨⟨h'.rg.step ch (fun k _ hk => .inr ⟨.inl hk, by omega⟩), ?_, h'.rc.chg ch (by omega), h'.rn.chg ch (by omega), h.eqs.trans he⟩, h'.rg.keep ch (fun k hk ht => by have := (h.rg.own k ht).1; omega)⟩
  have := h'.cnt.set0 (.int .i64 ((o : Int) + 1))
  rwa [show ((o + 1 : Nat) : Int) = (o : Int) + 1 by omega]
theorem KcX.e (h : KcX a b w W0 B R W) (e : Ext W W') : KcX a b w W0 B R W' := ⟨h.rg.e e, h.rc.ext e, h.rn.ext e⟩
theorem KcJ.stop {z : Int} (h : KcJ a b w W0 B R T o W) (hV : W0.heap.size = B + 3) (hB : w.heap.size + 5 ≤ B) (he : cmpK a b = (z, (o : Int) + 1)) :
    KcX a b w W0 B R ((W.setCell ⟨w.heap.size + 2, 0, none⟩ (.int .i64 z)).setCell ⟨w.heap.size + 3, 0, none⟩ (.int .i64 ((o : Int) + 1))) := by
  have c1 := Chg.set W (w.heap.size + 2) 0 (.int .i64 z) (T := fun k => k = w.heap.size + 2 ∨ k = w.heap.size + 3) (.inl rfl)
  have c2 := Chg.set (W.setCell ⟨w.heap.size + 2, 0, none⟩ (.int .i64 z)) (w.heap.size + 3) 0 (.int .i64 ((o : Int) + 1)) (T := fun k => k = w.heap.size + 2 ∨ k = w.heap.size + 3) (.inr rfl)
  have hz := h.rg.size
  have r := h.rg.step (c1.t c2) (fun k _ hk => .inr ⟨.inr hk, by omega⟩)
  refine ⟨⟨r.chg, r.defd, r.loop, r.size, fun _ t => t.elim⟩, ?_, ?_⟩
  · rw [he]; exact (h.rc.set0 _).off (by omega) _
  · rw [he]; exact (h.rn.off (by omega) _).set0 _
end
set_option maxRecDepth 100000 in
set_option maxHeartbeats 1000000 in
theorem kcompare_ (a b : Ky) (w : World) : Calls Try.prog 70 #[kyV a, kyV b] w (CmpP a b w) := by
  have heq := fun w' => eql_ky w' a b
  by_cases hab : a = b
  · subst hab
    rw [show decide (a = a) = true from decide_eq_true rfl] at heq
    unfold kyV at heq ⊢
    unfold CmpP
    rw [cmpK_self]
    go_enter Try.func70, Try.ntmps70
    go_wp2_with fail
    refine bodyPost_ret (v := .tuple #[.int .i64 0, .int .i64 0]) (by simp [results, Try.results70, go_sem]) rfl ⟨rfl, ?_⟩
    exact (((Ext.alloc _ _).t (Ext.alloc _ _)).t (Ext.alloc _ _)).t (Ext.alloc _ _)
  · rw [show decide (a = b) = false from decide_eq_false hab] at heq
    unfold kyV at heq ⊢
    refine calls_of_wp_marks Try.func70 rfl ?_
    simp only [Try.ntmps70, List.size_toArray, List.length_cons, List.length_nil, Nat.reduceAdd, Nat.reduceSub, Array.replicate_succ, Array.replicate_zero, List.push_toArray, List.append_toArray, List.nil_append, List.cons_append]
    go_wp2_with (go_at_call 69; refine (fields_ _ _).mono ?_; rintro e w1 ⟨rfl, rfl⟩)
    obtain ⟨V, hV⟩ : ∃ V, V = ((((w.alloc (.cells (kyC a).toArray 33)).alloc (.cells (kyC b).toArray 33)).alloc (.cells #[.int .i64 0] 3)).alloc (.cells #[.int .i64 0] 3)).alloc (.cells #[.pointer (some ⟨w.heap.size + 1, 0, none⟩)] 122) := ⟨_, rfl⟩
    have ka : Blk V w.heap.size 33 (kyC a).toArray := by rw [hV]; exact ((((Blk.new _ _ _).alloc _).alloc _).alloc _).alloc _
    have kb : Blk V (w.heap.size + 1) 33 (kyC b).toArray := by
      rw [hV]; have := Blk.new (w.alloc (.cells (kyC a).toArray 33)) 33 (kyC b).toArray; rw [World.size_alloc] at this; exact ((this.alloc _).alloc _).alloc _
    have rc : Blk V (w.heap.size + 2) 3 #[.int .i64 0] := by
      rw [hV]; have := Blk.new ((w.alloc (.cells (kyC a).toArray 33)).alloc (.cells (kyC b).toArray 33)) 3 #[.int .i64 0]; simp only [World.size_alloc] at this; exact (this.alloc _).alloc _
    have rn : Blk V (w.heap.size + 3) 3 #[.int .i64 0] := by
      rw [hV]; have := Blk.new (((w.alloc (.cells (kyC a).toArray 33)).alloc (.cells (kyC b).toArray 33)).alloc (.cells #[.int .i64 0] 3)) 3 #[.int .i64 0]; simp only [World.size_alloc] at this; exact this.alloc _
    have b4 : Blk V (w.heap.size + 4) 122 #[.pointer (some ⟨w.heap.size + 1, 0, none⟩)] := by
      rw [hV]; have := Blk.new ((((w.alloc (.cells (kyC a).toArray 33)).alloc (.cells (kyC b).toArray 33)).alloc (.cells #[.int .i64 0] 3)).alloc (.cells #[.int .i64 0] 3)) 122 #[.pointer (some ⟨w.heap.size + 1, 0, none⟩)]; simp only [World.size_alloc] at this; exact this
    have ev : Ext w V := by rw [hV]; exact ((((Ext.alloc _ _).t (Ext.alloc _ _)).t (Ext.alloc _ _)).t (Ext.alloc _ _)).t (Ext.alloc _ _)
    have sv : V.heap.size = w.heap.size + 5 := by rw [hV]; simp
    change Calls _ _ _ (((((w.alloc (.cells (kyC a).toArray 33)).alloc (.cells (kyC b).toArray 33)).alloc (.cells #[.int .i64 0] 3)).alloc (.cells #[.int .i64 0] 3)).alloc (.cells #[.pointer (some ⟨w.heap.size + 1, 0, none⟩)] 122)) _
    rw [← hV]
    clear hV
    refine (collect_fields (w.heap.size + 1) (w.heap.size + 4) V b4).mono ?_
    rintro e w2 ⟨A, c, he, r, ft, ex⟩
    obtain rfl : e = .returned (.slice A 3 c) := he
    have hbase : Hid (Blk w2 w.heap.size 33 (kyC a).toArray ∧ Blk w2 (w.heap.size + 1) 33 (kyC b).toArray ∧ Blk w2 (w.heap.size + 2) 3 #[.int .i64 0] ∧ Blk w2 (w.heap.size + 3) 3 #[.int .i64 0] ∧ RdS 4 (flC (w.heap.size + 1)) w2 A 3 [0, 1, 2] ∧ Ext w w2 ∧ w.heap.size + 5 ≤ w2.heap.size ∧ (∀ k o, A = some ⟨k, o, none⟩ → w.heap.size + 5 ≤ k ∧ k < w2.heap.size)) :=
      Lib.hid ⟨ka.ext ex, kb.ext ex, rc.ext ex, rn.ext ex, RoomS.rd (flC_len _) (by decide) r, ev.t ex, by have := ex.size; omega, fun k o hk => by
        have h3 : 3 ≤ c := r.2.1
        have hf : foot A c k := ⟨by omega, o, hk⟩
        have := ft k hf
        exact ⟨by omega, RoomS.lt r hf⟩⟩
    clear ka kb rc rn b4 ev sv r ft ex heq
    go_wp2_with (go_at_call 69; refine (fields_ _ _).mono ?_; rintro e w3 ⟨rfl, rfl⟩)
    obtain ⟨ka, kb, rc, rn, rd, ev, sv, hAb⟩ := hbase.out
    obtain ⟨V, hV⟩ : ∃ V, V = ((w2.alloc (.cells #[.slice A 3 c] 133)).alloc (.cells #[.int .i64 0] 3)).alloc (.cells #[.pointer (some ⟨w.heap.size, 0, none⟩)] 122) := ⟨_, rfl⟩
    have e2 : Ext w2 V := by rw [hV]; exact ((Ext.alloc _ _).t (Ext.alloc _ _)).t (Ext.alloc _ _)
    have ow : Blk V w2.heap.size 133 #[.slice A 3 c] := by rw [hV]; exact ((Blk.new _ _ _).alloc _).alloc _
    have cn : Blk V (w2.heap.size + 1) 3 #[.int .i64 0] := by
      rw [hV]; have := Blk.new (w2.alloc (.cells #[.slice A 3 c] 133)) 3 #[.int .i64 0]; simp only [World.size_alloc] at this; exact this.alloc _
    have bx : Blk V (w2.heap.size + 2) 122 #[.pointer (some ⟨w.heap.size, 0, none⟩)] := by
      rw [hV]; have := Blk.new ((w2.alloc (.cells #[.slice A 3 c] 133)).alloc (.cells #[.int .i64 0] 3)) 122 #[.pointer (some ⟨w.heap.size, 0, none⟩)]; simp only [World.size_alloc] at this; exact this
    have sV : V.heap.size = w2.heap.size + 3 := by rw [hV]; simp
    have ka := ka.ext e2
    have kb := kb.ext e2
    have rc := rc.ext e2
    have rn := rn.ext e2
    have rd := rd.ext e2
    have ev := ev.t e2
    rw [← hV]
    clear hV e2 hbase
    generalize w2.heap.size = B at *
    refine wp_range (gf := 75) rfl (enters_of Try.func75 (by kernel_rfl) rfl) (fun fn rec hrec => ?_)
    rw [show B + 1 + 1 = B + 2 from rfl]
    refine (fields1 (V.heap.size + 1) (B + 2) w.heap.size (KcJ a b w V B (rec .ready none) (fun _ => False) 0) (fun T o W => KcJ a b w V B (rec .ready none) T o W) (KcX a b w V B (rec .done (some .ret))) (fun W h => h.rg.blk bx (by unfold KcM; omega)) ⟨?s1, ?s2, ?s3, ?hY⟩ _ ?h0).mono ?post
    case s1 =>
      intro W W' T h e hT
      exact ⟨h.rg.begin e hT, h.cnt.ext e, h.rc.ext e, h.rn.ext e, h.eqs⟩
    case s2 =>
      intro T o W W' h e
      exact ⟨h.rg.e e, h.cnt.ext e, h.rc.ext e, h.rn.ext e, h.eqs⟩
    case s3 =>
      intro T o W W' h ch
      have nT : ∀ k, k < V.heap.size → ¬ T k := fun k hk ht => by have := (h.rg.own k ht).1; omega
      exact ⟨h.rg.iown ch, h.cnt.chg ch (nT _ (by omega)), h.rc.chg ch (nT _ (by omega)), h.rn.chg ch (nT _ (by omega)), h.eqs⟩
    case h0 => exact ⟨RgJ.start _, (cn.alloc _).alloc _, (rc.alloc _).alloc _, (rn.alloc _).alloc _, rfl⟩
    case hY =>
      intro T o W ho hj
      obtain ⟨fa, fb, fs, hfl⟩ := flC_at w.heap.size ho
      rw [hfl]
      refine (yieldAt hrec trivial hj.rg.loop (by rfl) (fun jump W3 => (jump = none ∧ KcJ a b w V B (rec .busy none) T (o + 1) W3 ∧ ∀ k, T k → W3.heap[k]? = W.heap[k]?) ∨ (jump = some .ret ∧ KcX a b w V B (rec .busy none) W3)) ?walk).mono ?yp
      case yp =>
        rintro e W' ⟨jump, W3, (⟨rfl, hB, hT⟩ | ⟨rfl, hX⟩), hl, rfl, rfl⟩
        · exact .inl ⟨rfl, ⟨hB.rg.put _, blk_put hB.cnt (by omega), blk_put hB.rc (by omega), blk_put hB.rn (by omega), hB.eqs⟩, fun k hk => (heap_put' (by have := (hj.rg.own k hk).1; omega)).trans (hT k hk)⟩
        · exact .inr ⟨rfl, hX.rg.put _, blk_put hX.rc (by omega), blk_put hX.rn (by omega)⟩
      case walk =>
        clear hrec
        gi_wp2
        have HT : Hid (∀ k, T k → ((W.alloc (.cells #[.pointer (some ⟨w.heap.size, o, none⟩), .int .i64 fa, .int .i64 fb, .string fs] 125)).putObj (V.heap.size + 1) (rec .busy none)).heap[k]? = W.heap[k]?) := Lib.hid (fun k hk => (heap_put' (by have := (hj.rg.own k hk).1; omega)).trans ((Ext.alloc W _).block k (hj.rg.own k hk).2))
        have hz := hj.rg.size
        have hgl := (hj.rg.e (Ext.alloc W (.cells #[.pointer (some ⟨w.heap.size, o, none⟩), .int .i64 fa, .int .i64 fb, .string fs] 125))).loop
        refine ⟨hgl, ?_⟩
        have hk : KcJ a b w V B (rec .busy none) T o ((W.alloc (.cells #[.pointer (some ⟨w.heap.size, o, none⟩), .int .i64 fa, .int .i64 fb, .string fs] 125)).putObj (V.heap.size + 1) (rec .busy none)) :=
          ⟨(hj.rg.e (Ext.alloc _ _)).put _, blk_put (hj.cnt.alloc _) (by omega), blk_put (hj.rc.alloc _) (by omega), blk_put (hj.rn.alloc _) (by omega), hj.eqs⟩
        have hd := blk_put (l := V.heap.size + 1) (o := rec .busy none) (Blk.new W 125 #[.pointer (some ⟨w.heap.size, o, none⟩), .int .i64 fa, .int .i64 fb, .string fs]) (by omega)
        generalize (W.alloc (.cells #[.pointer (some ⟨w.heap.size, o, none⟩), .int .i64 fa, .int .i64 fb, .string fs] 125)).putObj (V.heap.size + 1) (rec .busy none) = W1 at *
        obtain ⟨g, hg⟩ : ∃ g, g = W.heap.size := ⟨_, rfl⟩
        rw [← hg] at hd ⊢
        have d0 : W1.cell? ⟨g, 0, none⟩ = some (.pointer (some ⟨w.heap.size, o, none⟩)) := by rw [hd.cell]; rfl
        have ca := fldK_cell (hk.rg.blk ka (by unfold KcM; omega)) ho
        have cb := fldK_cell (hk.rg.blk kb (by unfold KcM; omega)) ho
        have cw := (hk.rg.blk ow (by unfold KcM; omega)).cell0
        have cc := hk.cnt.cell0
        have fc := hk.cnt.frozen 0
        have f2 := hk.rc.frozen 0
        have f3 := hk.rn.frozen 0
        have c2 := hk.rc.cell0
        have c3 := hk.rn.cell0
        obtain ⟨Ab, Ao, rfl, cA⟩ := flC_rd (rd.chg hk.rg.chg (fun k o hA _ => by have := hAb k o hA; unfold KcM; omega)) ho
        have hoI : (o : Int) < 3 := by omega
        have HK := Lib.hid hk
        have Hsz := Lib.hid (show w.heap.size + 5 ≤ B ∧ V.heap.size = B + 3 ∧ o < 3 from ⟨sv, sV, ho⟩)
        have Heq : Hid (fldK a o = fldK b o → cmpN a b o = cmpN a b (o + 1)) := Lib.hid (fun h => cmpN_eq ho h)
        have Hne : Hid (fldK a o ≠ fldK b o → cmpK a b = (cmpI (fldK a o) (fldK b o), (o : Int) + 1)) := Lib.hid (fun h => by rw [hk.eqs, cmpN_ne ho h])
        have Hz0 : Hid (fldK a o = fldK b o → cmpI (fldK a o) (fldK b o) = 0) := Lib.hid (fun h => by rw [h]; simp [cmpI])
        have Hz1 : Hid (fldK a o ≠ fldK b o → cmpI (fldK a o) (fldK b o) ≠ 0) := Lib.hid (fun h => by unfold cmpI; split; omega; split <;> omega)
        have HC := Lib.hid (fun w' => compareI (fldK a o) (fldK b o) w')
        generalize hzz : cmpI (fldK a o) (fldK b o) = z at *
        generalize fldK a o = xa at *
        generalize fldK b o = xb at *
        clear hgl hj hk hd hg hz ow cn bx ka kb rc rn rd ev hAb sv sV ho hab hzz hfl
        by_cases hx : xa = xb
        · have Hx := Lib.hid hx
          have hq := Hz0.out hx
          subst hq
          clear hx
          gi_wp2
          refine wpIn_region_quiet_litR (by kernel_rfl) (by kernel_rfl) (by kernel_rfl) ?_
          repeat (gi_big_quiet_step ((gi_at_call 77; exact CallsIn.quiet_of_same (CallsIn.inRound _ (callsIn_wide.2 ((HC.out _).mono fun _ _ h => ⟨h.1, h.2.symm⟩))))))
          first | refine wpQuietIn_nil ?_ | gi_big_quiet_step (fail)
          rintro _ ⟨nq, rfl⟩
          have hq0 : ((0 : Int) != 0) = false := rfl
          gi_wp2
          have hfin := HK.out.inc nq Hsz.out.2.1 (by have := Hsz.out.1; omega) (Heq.out Hx.out)
          exact ⟨hfin.1.rg.loop, .inl ⟨rfl, hfin.1, fun k hk => (hfin.2 k hk).trans (HT.out k hk)⟩⟩
        · have Hx := Lib.hid hx
          have hq0 : (z != 0) = true := by have := Hz1.out hx; simpa using this
          clear hx
          gi_wp2
          refine wpIn_region_quiet_litR (by kernel_rfl) (by kernel_rfl) (by kernel_rfl) ?_
          repeat (gi_big_quiet_step ((gi_at_call 77; exact CallsIn.quiet_of_same (CallsIn.inRound _ (callsIn_wide.2 ((HC.out _).mono fun _ _ h => ⟨h.1, h.2.symm⟩))))))
          refine wpQuietIn_nil ?_
          rintro _ ⟨nq, rfl⟩
          have HK2 := Lib.hid (HK.out.e (Ext.drewN W1 nq))
          have cc := HK2.out.cnt.cell0
          have f2 := HK2.out.rc.frozen 0
          have f3 := HK2.out.rn.frozen 0
          have c2 := HK2.out.rc.cell0
          have c3 := HK2.out.rn.cell0
          generalize W1.drewN nq = W2 at *
          have hmix : Try.prog.follows .mixedOrders = true := by kernel_rfl
          clear d0 ca cb cw cA HK
          have HW : Hid (IntKind.i64.wrap ((o : Int) + 1) = (o : Int) + 1) := Lib.hid (IntWalk.i64_in _ (by omega))
          have HX := Lib.hid ((HK2.out.stop (z := z) Hsz.out.2.1 (by have := Hsz.out.1; omega) (Hne.out Hx.out)).e (Ext.drew _))
          have e1 : ¬ B = w.heap.size + 1 := by have := Hsz.out.1; omega
          have e2 : ¬ B = w.heap.size + 1 + 1 := by have := Hsz.out.1; omega
          have e3 : ¬ w.heap.size + 1 = B := by have := Hsz.out.1; omega
          have e4 : ¬ w.heap.size + 1 + 1 = B := by have := Hsz.out.1; omega
          gi_wp2
          gi_region_with_o (fail)
          all_goals gi_wp2
          all_goals rw [HW.out]
          all_goals exact ⟨HX.out.rg.loop, .inr ⟨rfl, HX.out⟩⟩
    case post =>
      clear hrec
      rintro e W2 ⟨⟨v, rfl⟩, ⟨T, hj⟩ | hx⟩
      · refine ⟨⟨_, rfl⟩, .ready, none, by simp, hj.rg.loop, ?_⟩
        have hj2 : KcJ a b w V B (rec .exhausted none) T 3 (W2.putObj (V.heap.size + 1) (rec .exhausted none)) := ⟨hj.rg.put _, blk_put hj.cnt (by omega), blk_put hj.rc (by omega), blk_put hj.rn (by omega), hj.eqs⟩
        clear hj
        generalize W2.putObj (V.heap.size + 1) (rec .exhausted none) = W3 at *
        have f2 := hj2.rc.frozen 0
        have f3 := hj2.rn.frozen 0
        have c2 := hj2.rc.cell0
        have c3 := hj2.rn.cell0
        have hv : cmpK a b = (0, 0) := hj2.eqs.trans (cmpN_end a b)
        have HV := Lib.hid hv
        have HJ := Lib.hid hj2
        have HE := Lib.hid ev
        have HS := Lib.hid (show w.heap.size + 5 ≤ B ∧ V.heap.size = B + 3 from ⟨sv, sV⟩)
        clear hj2 hv ow cn bx ka kb rc rn rd ev hAb sv sV hab
        go_wp2_with fail
        try rw [Exit.noGoto_ret]
        have c1 := Chg.set W3 (w.heap.size + 2) 0 (.int .i64 0) (T := fun k => k = w.heap.size + 2 ∨ k = w.heap.size + 3) (.inl rfl)
        have c4 := Chg.set (W3.setCell ⟨w.heap.size + 2, 0, none⟩ (.int .i64 0)) (w.heap.size + 3) 0 (.int .i64 0) (T := fun k => k = w.heap.size + 2 ∨ k = w.heap.size + 3) (.inr rfl)
        have c5 := c1.t c4
        have k2 : Blk ((W3.setCell ⟨w.heap.size + 2, 0, none⟩ (.int .i64 0)).setCell ⟨w.heap.size + 3, 0, none⟩ (.int .i64 0)) (w.heap.size + 2) 3 #[.int .i64 0] := (HJ.out.rc.set0 _).off (by omega) _
        have k3 : Blk ((W3.setCell ⟨w.heap.size + 2, 0, none⟩ (.int .i64 0)).setCell ⟨w.heap.size + 3, 0, none⟩ (.int .i64 0)) (w.heap.size + 3) 3 #[.int .i64 0] := (HJ.out.rn.off (by omega) _).set0 _
        have hd := HJ.out.rg.defd
        have hd2 := (c5.block _ (Array.getElem?_eq_some_iff.1 hd).1 (by have := HS.out; omega)).trans hd
        have hE : Ext w W3 := HJ.out.rg.chg.below (Nat.le_trans HE.out.size (Nat.le_refl _)) (fun k hk hm => by unfold KcM at hm; have := HS.out; omega) |> fun h => HE.out.trans h
        have q2 := (blk_put (l := V.heap.size) (o := .deferred none) k2 (by have := HS.out; omega)).cell0
        have q3 := (blk_put (l := V.heap.size) (o := .deferred none) k3 (by have := HS.out; omega)).cell0
        refine leave1 (v := .tuple #[.int .i64 0, .int .i64 0]) rfl hd2 ?_ ?_
        · change _ = Result.ok _ (((W3.setCell ⟨w.heap.size + 2, 0, none⟩ (.int .i64 0)).setCell ⟨w.heap.size + 3, 0, none⟩ (.int .i64 0)).putObj V.heap.size (.deferred none))
          simp [results, Try.results70, go_sem, q2, q3]
        · have ch := chg_putI ((W3.setCell ⟨w.heap.size + 2, 0, none⟩ (.int .i64 0)).setCell ⟨w.heap.size + 3, 0, none⟩ (.int .i64 0)) V.heap.size (.deferred none)
          unfold CmpP
          rw [HV.out]
          exact ⟨rfl, (hE.trans (c5.below hE.size (fun k hk ht => by omega))).trans (ch.below (Nat.le_trans hE.size c5.size) (fun k hk ht => by have := HS.out; omega))⟩
      · refine ⟨⟨_, rfl⟩, .done, some .ret, by simp, hx.rg.loop, ?_⟩
        have hx2 : KcX a b w V B (rec .exhausted (some .ret)) (W2.putObj (V.heap.size + 1) (rec .exhausted (some .ret))) := ⟨hx.rg.put _, blk_put hx.rc (by omega), blk_put hx.rn (by omega)⟩
        clear hx
        show Code.wp _ _ _ _ (W2.putObj (V.heap.size + 1) (rec .exhausted (some .ret)))
        generalize W2.putObj (V.heap.size + 1) (rec .exhausted (some .ret)) = W3 at *
        have q2 := (blk_put (l := V.heap.size) (o := .deferred none) hx2.rc (by omega)).cell0
        have q3 := (blk_put (l := V.heap.size) (o := .deferred none) hx2.rn (by omega)).cell0
        have hE : Ext w W3 := ev.trans (hx2.rg.chg.below ev.size (fun k hk hm => by unfold KcM at hm; omega))
        have HX := Lib.hid hx2
        have HE := Lib.hid hE
        have HS := Lib.hid (show w.heap.size + 5 ≤ B ∧ V.heap.size = B + 3 from ⟨sv, sV⟩)
        generalize hz1 : (cmpK a b).1 = z1 at *
        generalize hz2 : (cmpK a b).2 = z2 at *
        have Hz1 := Lib.hid hz1
        have Hz2 := Lib.hid hz2
        clear hx2 hE hz1 hz2 ow cn bx ka kb rc rn rd ev hAb sv sV hab
        go_wp2_with fail
        try rw [Exit.noGoto_ret]
        refine leave1 (v := .tuple #[.int .i64 z1, .int .i64 z2]) rfl HX.out.rg.defd ?_ ?_
        · simp [results, Try.results70, go_sem, q2, q3]
        · have ch := chg_putI W3 V.heap.size (.deferred none)
          unfold CmpP
          rw [Hz1.out, Hz2.out]
          exact ⟨rfl, HE.out.trans (ch.below HE.out.size (fun k hk ht => by have := HS.out; omega))⟩
end Go.Proofs.Ytdjpggnadelnaaa
