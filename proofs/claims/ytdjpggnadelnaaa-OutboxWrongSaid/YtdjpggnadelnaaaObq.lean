/- Obq: checks, and what it returns; Put; filled. -/
import Derived.Test.YtdjpggnadelnaaaObm
namespace Go.Proofs.Ytdjpggnadelnaaa
open Go.RowKit Go.Fx
/-- What looks at events: the outbox's pointer in block bo, the Seq before in block bl. -/
structure Lok (w : World) (bo bl g : Nat) (last : Int) : Prop where
  ptr : Blk w bo 29 #[.pointer (some ⟨g, 0, none⟩)]
  cnt : Blk w bl 3 #[.int .i64 last]
  ne : bo ≠ bl
theorem Lok.ext {w w' : World} {bo bl g : Nat} {last : Int} (h : Lok w bo bl g last) (e : Ext w w') : Lok w' bo bl g last := ⟨h.ptr.ext e, h.cnt.ext e, h.ne⟩
theorem Lok.step {w : World} {bo bl g : Nat} {last : Int} (h : Lok w bo bl g last) (q : Int) : Lok (w.setCell ⟨bl, 0, none⟩ (.int .i64 q)) bo bl g q :=
  ⟨h.ptr.chg (Chg.set w bl 0 (.int .i64 q) (T := fun k => k = bl) rfl) h.ne, h.cnt.set0 _, h.ne⟩
theorem lastR_get {l : List Ev} {x : Ev} {last : Int} (h : l[l.length - 1]? = some x) : lastR last l = x.q := by
  unfold lastR
  rw [List.getLast?_eq_getElem?, h]
set_option maxRecDepth 100000 in
theorem obx_checks {w : World} {g n c : Nat} {s lim e : Int} {evs : List Ev} {A : Option Addr} (h : Obx w g s lim e evs A n c) :
    Calls Try.prog 33 #[.pointer (some ⟨g, 0, none⟩)] w fun en w' => ∃ bo bl, en = .returned (.func (.func 51) #[] #[.pointer (some ⟨bo, 0, none⟩), .pointer (some ⟨bl, 0, none⟩)]) ∧ Lok w' bo bl g (lastR (-1) evs) ∧ w.heap.size ≤ bo ∧ w.heap.size ≤ bl ∧ Ext w w' := by
  obtain ⟨-, -, -, c3⟩ := h.cells
  have hg := h.blk.lt
  have HO := Lib.hid h
  obtain ⟨V, hV⟩ : ∃ V, V = (w.alloc (.cells #[.pointer (some ⟨g, 0, none⟩)] 29)).alloc (.cells #[.int .i64 (-1)] 3) := ⟨_, rfl⟩
  have hbo : Blk V w.heap.size 29 #[.pointer (some ⟨g, 0, none⟩)] := by rw [hV]; exact (Blk.new _ _ _).alloc _
  have hbl : Blk V (w.heap.size + 1) 3 #[.int .i64 (-1)] := by rw [hV]; exact blk_new1 w _ _ _
  have ev : Ext w V := by rw [hV]; exact (Ext.alloc _ _).t (Ext.alloc _ _)
  have HV := Lib.hid hV
  obtain ⟨bo, hbo'⟩ : ∃ bo, bo = w.heap.size := ⟨_, rfl⟩
  obtain ⟨bl, hbl'⟩ : ∃ bl, bl = w.heap.size + 1 := ⟨_, rfl⟩
  have Hbo := Lib.hid hbo'
  have Hbl := Lib.hid hbl'
  rw [← hbo'] at hbo
  rw [← hbl'] at hbl
  have hne : bo ≠ bl := by omega
  have Hne := Lib.hid hne
  have Hg1 := Lib.hid (show w.heap.size ≤ bo ∧ w.heap.size ≤ bl by omega)
  have HEv := Lib.hid ev
  have hO := h.ext ev
  obtain ⟨-, -, -, c3'⟩ := hO.cells
  have HBo := Lib.hid hbo
  have HBl := Lib.hid hbl
  have cbo := hbo.cell0
  have cbl := hbl.cell0
  have fbl := hbl.frozen 0
  clear h hV hbo' hbl' hne hbo hbl ev hg c3
  go_enter Try.func33, Try.ntmps33
  go_upto_region 2 with fail
  change Code.wp _ _ _ _ ((w.alloc (.cells #[.pointer (some ⟨g, 0, none⟩)] 29)).alloc (.cells #[.int .i64 (-1)] 3))
  rw [← HV.out, ← Hbl.out, ← Hbo.out]
  clear HV Hbo Hbl
  rcases Nat.eq_zero_or_pos n with hn0 | hn0
  · have hnI : ¬ ((n : Int) > 0) := by omega
    have HL : Hid (lastR (-1) evs = -1) := Lib.hid (by
      obtain rfl : evs = [] := List.eq_nil_of_length_eq_zero (by have := HO.out.len; omega)
      rfl)
    clear hn0
    go_wp2_with fail
    go_ret
    exact ⟨bo, bl, rfl, ⟨HBo.out, by rw [HL.out]; exact HBl.out, Hne.out⟩, Hg1.out.1, Hg1.out.2, HEv.out⟩
  · obtain ⟨m, rfl⟩ : ∃ m, n = m + 1 := ⟨n - 1, by omega⟩
    obtain ⟨b, o, x, rfl, _, hx, d0, d1, d2, d3, d4⟩ := (hO.room.rd evC_len (by decide)).ev (k := m) (by omega)
    have HL := Lib.hid (show lastR (-1) evs = x.q from lastR_get (by rw [HO.out.len, Nat.add_sub_cancel]; exact hx))
    have hnI : ((m + 1 : Nat) : Int) > 0 := by omega
    have hsub : ((m + 1 : Nat) : Int) - 1 = (m : Int) := by omega
    have hmn : (m : Int) < ((m + 1 : Nat) : Int) := by omega
    have hwm : IntKind.i64.wrap (m : Int) = (m : Int) := by have := HO.out.n_le; exact IntWalk.i64_in _ (by omega)
    have hw2 : IntKind.i64.wrap (((m + 1 : Nat) : Int) - 1) = (m : Int) := by rw [hsub]; exact hwm
    clear hx hn0 hO
    go_wp2_with fail
    go_ret
    have ch := Chg.set V bl 0 (.int .i64 x.q) (T := fun k => k = bl) rfl
    exact ⟨bo, bl, rfl, ⟨HBo.out.chg ch Hne.out, by rw [HL.out]; exact HBl.out.set0 _, Hne.out⟩, Hg1.out.1, Hg1.out.2, HEv.out.trans (ch.below HEv.out.size (fun k hk e => by have := Hg1.out.2; omega))⟩
/-- What a look leaves. -/
def LookP (w : World) (bl g : Nat) (bo : Nat) (_last : Int) (r : Nat) (x : Ev) (en : Ending) (w' : World) : Prop :=
  en = .returned (.int .i64 (r : Int)) ∧ ((r = 0 ∧ Lok w' bo bl g x.q ∧ Chg (fun k => k = bl) w w') ∨ (r ≠ 0 ∧ Ext w w'))
set_option maxRecDepth 100000 in
set_option maxHeartbeats 2000000 in
theorem obx_look {w : World} {g n c bo bl : Nat} {s lim e last : Int} {evs : List Ev} {A : Option Addr} (x : Ev) (h : Obx w g s lim e evs A n c) (hl : Lok w bo bl g last) :
    Calls Try.prog 51 #[evV x, .pointer (some ⟨bo, 0, none⟩), .pointer (some ⟨bl, 0, none⟩)] w (LookP w bl g bo last (lookF s e last x) x) := by
  have HL := Lib.hid hl
  have HO := Lib.hid h
  have HR := Lib.hid (fun w' => right_ x.k w')
  obtain ⟨W0, hW0⟩ : ∃ W0, W0 = w.alloc (.cells (evC x).toArray 35) := ⟨_, rfl⟩
  have HW0 := Lib.hid hW0
  obtain ⟨gx, hgx⟩ : ∃ gx, gx = w.heap.size := ⟨_, rfl⟩
  have HGX := Lib.hid hgx
  have HB := Lib.hid (show Blk W0 gx 35 (evC x).toArray by rw [hW0, hgx]; exact Blk.new _ _ _)
  have E0 := Lib.hid (show Ext w W0 by rw [hW0]; exact Ext.alloc _ _)
  obtain ⟨b0, b1, b2, b3, b4⟩ := HB.out.ev
  have hv0 : lookF s e last x = (if rightK x.k = false ∨ x.to < 1 ∨ 16 < x.to then 290 else if x.s ≠ s then 291 else if x.t < e then 292 else if x.q ≤ last then 293 else 0) := rfl
  generalize lookF s e last x = r at *
  have Hv0 := Lib.hid hv0
  unfold kyV Ev.k at HR
  unfold evV
  clear h hl hW0 hgx hv0
  go_enter Try.func51, Try.ntmps51
  go_upto_region 1 with fail
  change Code.wp _ _ _ _ (w.alloc (.cells (evC x).toArray 35))
  rw [← HW0.out, ← HGX.out]
  clear HW0 HGX
  go_wp2_with fail
  refine (HR.out _).mono ?_; rintro en w1 ⟨rfl, e1⟩
  have EX := Lib.hid (E0.out.t e1)
  have HL1 := Lib.hid (HL.out.ext EX.out)
  have cbo := HL1.out.ptr.cell0
  have cbl := HL1.out.cnt.cell0
  have fbl := HL1.out.cnt.frozen 0
  obtain ⟨o0, o1, o2, o3⟩ := (HO.out.ext EX.out).cells
  obtain ⟨d0, d1, d2, d3, d4⟩ := (HB.out.ext e1).ev
  clear e1 E0 HR b0 b1 b2 b3 b4
  have hrk : rightK x.k = rightK ⟨x.t, x.s, x.q⟩ := rfl
  by_cases h1 : rightK ⟨x.t, x.s, x.q⟩ = true
  · rw [h1]
    by_cases h2 : x.to < 1
    · have HV := Lib.hid (show r = 290 by rw [Hv0.out, if_pos (.inr (.inl h2))])
      have HNz := Lib.hid (show r ≠ 0 by rw [HV.out]; decide)
      clear h1 hrk
      go_wp2_with fail
      go_ret
      exact ⟨by rw [HV.out]; rfl, .inr ⟨HNz.out, EX.out⟩⟩
    · by_cases h3 : x.to > 16
      · have HV := Lib.hid (show r = 290 by rw [Hv0.out, if_pos (.inr (.inr h3))])
        have HNz := Lib.hid (show r ≠ 0 by rw [HV.out]; decide)
        clear h1 hrk
        go_wp2_with fail
        go_ret
        exact ⟨by rw [HV.out]; rfl, .inr ⟨HNz.out, EX.out⟩⟩
      · have Hv1 := Lib.hid (show r = (if x.s ≠ s then 291 else if x.t < e then 292 else if x.q ≤ last then 293 else 0) by rw [Hv0.out, if_neg (by rw [hrk, h1]; simp; omega)])
        clear h1 hrk Hv0
        by_cases h4 : x.s = s
        · have hs : (x.s != s) = false := by simp [h4]
          have Hv2 := Lib.hid (show r = (if x.t < e then 292 else if x.q ≤ last then 293 else 0) by rw [Hv1.out, if_neg (by simpa using h4)])
          clear h4 Hv1
          by_cases h5 : x.t < e
          · have HV := Lib.hid (show r = 292 by rw [Hv2.out, if_pos h5])
            have HNz := Lib.hid (show r ≠ 0 by rw [HV.out]; decide)
            have hd5 : decide (x.t < e) = true := by simpa using h5
            go_wp2_with fail
            go_quiet (fail)
            go_wp2_with fail
            go_quiet (fail)
            go_wp2_with fail
            go_ret
            exact ⟨by rw [HV.out]; rfl, .inr ⟨HNz.out, by first | exact EX.out.t (Ext.drewN _ _) | exact (EX.out.t (Ext.drewN _ _)).t (Ext.drewN _ _)⟩⟩
          · have hd5 : decide (x.t < e) = false := by simpa using h5
            have Hv3 := Lib.hid (show r = (if x.q ≤ last then 293 else 0) by rw [Hv2.out, if_neg h5])
            clear Hv2
            by_cases h6 : x.q ≤ last
            · have HV := Lib.hid (show r = 293 by rw [Hv3.out, if_pos h6])
              have HNz := Lib.hid (show r ≠ 0 by rw [HV.out]; decide)
              go_wp2_with fail
              go_quiet (fail)
              go_wp2_with fail
              go_quiet (fail)
              go_wp2_with fail
              go_ret
              exact ⟨by rw [HV.out]; rfl, .inr ⟨HNz.out, by first | exact EX.out.t (Ext.drewN _ _) | exact (EX.out.t (Ext.drewN _ _)).t (Ext.drewN _ _)⟩⟩
            · have HV := Lib.hid (show r = 0 by rw [Hv3.out, if_neg h6])
              go_wp2_with fail
              go_quiet (fail)
              go_wp2_with fail
              go_quiet (fail)
              go_wp2_with fail
              go_ret
              exact ⟨by rw [HV.out]; rfl, .inl ⟨HV.out, (HL1.out.ext (Ext.drewN _ _)).step x.q, (Chg.ofExt (EX.out.t (Ext.drewN _ _))).t (Chg.set _ bl 0 (.int .i64 x.q) rfl)⟩⟩
        · have hs : (x.s != s) = true := by simp [h4]
          have HV := Lib.hid (show r = 291 by rw [Hv1.out, if_pos (by simpa using h4)])
          have HNz := Lib.hid (show r ≠ 0 by rw [HV.out]; decide)
          clear h4
          go_wp2_with fail
          go_quiet (fail)
          go_wp2_with fail
          go_ret
          exact ⟨by rw [HV.out]; rfl, .inr ⟨HNz.out, by first | exact EX.out.t (Ext.drewN _ _) | exact (EX.out.t (Ext.drewN _ _)).t (Ext.drewN _ _)⟩⟩
  · have h1' : rightK ⟨x.t, x.s, x.q⟩ = false := by simpa using h1
    have HV := Lib.hid (show r = 290 by rw [Hv0.out, if_pos (.inl (by rw [hrk, h1']))])
    have HNz := Lib.hid (show r ≠ 0 by rw [HV.out]; decide)
    rw [h1']
    clear h1 h1' hrk
    go_wp2_with fail
    go_ret
    exact ⟨by rw [HV.out]; rfl, .inr ⟨HNz.out, EX.out⟩⟩
/-- What Put leaves. -/
def PutP (w : World) (g : Nat) (s lim e : Int) (A : Option Addr) (c : Nat) (r : Int × Nat × List Ev) (en : Ending) (w' : World) : Prop :=
  ∃ A' n' c', en = .returned (.tuple #[.int .i64 r.1, .int .i64 (r.2.1 : Int)]) ∧ Obx w' g s lim e r.2.2 A' n' c' ∧ Chg (fun k => k = g ∨ foot A c k) w w' ∧ (∀ k, foot A' c' k → foot A c k ∨ w.heap.size ≤ k)
set_option maxRecDepth 100000 in
set_option maxHeartbeats 2000000 in
theorem obx_put {w : World} {g n c : Nat} {s lim e : Int} {evs : List Ev} {A : Option Addr} (Al : Option Addr) (nl cl : Nat) (l : List Ev) (h : Obx w g s lim e evs A n c) (hl : RdS 5 evC w Al nl l) (hok : ∀ x ∈ l, EvOk x) (hn : nl ≤ 100000) :
    Calls Try.prog 13 #[.pointer (some ⟨g, 0, none⟩), .slice Al nl cl] w (PutP w g s lim e A c (putF s lim e evs l)) := by
  have HN := Lib.hid (obx_none h)
  have HC := Lib.hid (obx_checks h)
  have HO := Lib.hid h
  have HL := Lib.hid hl
  have HK := Lib.hid hok
  have Hll := Lib.hid hl.1
  have HBp := Lib.hid (fun hb => BoxOk.put (l := l) (s := s) (lim := lim) (e := e) (evs := evs) hb)
  clear h hl hok
  go_enter Try.func13, Try.ntmps13
  go_wp2_with fail
  refine HN.out.mono ?_; rintro en w1 ⟨rfl, rfl⟩
  go_wp2_with fail
  refine HC.out.mono ?_; rintro en w2 ⟨bo, bl, rfl, hk, hb1, hb2, e2⟩
  have HK2 := Lib.hid hk
  have E2 := Lib.hid e2
  have HB := Lib.hid (And.intro hb1 hb2)
  clear hk hb1 hb2 e2 HN HC
  go_wp2_with fail
  go_loopw [16] (fun i wr => ∃ (k : Nat) (last : Int), k ≤ nl ∧ i = .int .i64 (k : Int) ∧ Hid (Lok wr bo bl g last ∧ last = lastR (lastR (-1) evs) (l.take k) ∧ okP s e (lastR (-1) evs) (l.take k) = true ∧ Ext w wr)) (fun i _ => nl - (intOf i).toNat)
  case atStart => exact ⟨0, _, by omega, rfl, Lib.hid ⟨HK2.out, rfl, by rw [List.take_zero]; rfl, E2.out⟩⟩
  case round =>
    clear HK2 E2
    obtain ⟨k, last, hk, rfl, HJ⟩ := hrel
    by_cases hlt : k < nl
    · obtain ⟨b, o, x, rfl, _, hx, c0, c1, c2, c3, c4⟩ := (HL.out.ext HJ.out.2.2.2).ev hlt
      have hltI : (k : Int) < (nl : Int) := by omega
      obtain ⟨wx, hwx⟩ : ∃ wx, wx = wr.alloc (.cells (evC x).toArray 35) := ⟨_, rfl⟩
      have HLk := Lib.hid (obx_look x (HO.out.ext (HJ.out.2.2.2.t (Ext.alloc wr (.cells (evC x).toArray 35)))) (HJ.out.1.ext (Ext.alloc _ _)))
      have HX := Lib.hid hx
      have HE := Lib.hid (HJ.out.2.2.2.t (Ext.alloc wr (.cells (evC x).toArray 35)))
      have HS := Lib.hid (take_snoc hx)
      obtain ⟨r, hr⟩ : ∃ r, r = lookF s e last x := ⟨_, rfl⟩
      rw [← hr] at HLk
      have Hr := Lib.hid hr
      unfold evV at HLk
      clear hx hwx hr
      go_wp2_with fail
      refine HLk.out.mono ?_
      rintro en w5 ⟨rfl, (⟨h0, hk5, ch⟩ | ⟨h0, e5⟩)⟩
      · have HJ5 : Hid (Lok w5 bo bl g x.q ∧ x.q = lastR (lastR (-1) evs) (l.take (k + 1)) ∧ okP s e (lastR (-1) evs) (l.take (k + 1)) = true ∧ Ext w w5) := Lib.hid ⟨hk5, by rw [HS.out, lastR_snoc], by
          rw [HS.out, okP_app, HJ.out.2.2.1, ← HJ.out.2.1, okP, ← Hr.out, h0]; rfl, HE.out.trans (ch.below HE.out.size (fun q hq e => by have := HB.out.2; omega))⟩
        subst h0
        clear hk5 ch HJ HE HS HLk
        go_wp2_with fail
        go_roundw
        case rel => exact ⟨k + 1, _, by omega, by go_num, HJ5⟩
        case measure => simp [intOf]; omega
      · have h0I : ((r : Int) != 0) = true := by simp; omega
        have HV : Hid (putF s lim e evs l = ((k : Int), r, evs)) := Lib.hid (by
          have h1 := drop_at HX.out
          have h2 : l = l.take k ++ x :: l.drop (k + 1) := by rw [← h1, List.take_append_drop]
          have h3 := put_bad (lim := lim) (evs := evs) (b := l.drop (k + 1)) HJ.out.2.2.1 (by rw [← HJ.out.2.1]; exact Hr.out.symm) h0
          rw [← h2] at h3
          rw [h3, List.length_take, Nat.min_eq_left (by have := Hll.out; omega)])
        have HE5 := Lib.hid (HE.out.t e5)
        clear e5 h0 HJ HE HS HLk
        go_wp2_with fail
        go_ret2
        rw [HV.out]
        exact ⟨A, n, c, rfl, HO.out.ext HE5.out, Chg.ofExt HE5.out, fun k hk => .inl hk⟩
    · obtain rfl : nl = k := by omega
      have HJe := Lib.hid HJ.out.2.2.2
      have HOk : Hid (okP s e (lastR (-1) evs) l = true) := Lib.hid (by
        have h1 := HJ.out.2.2.1
        rwa [List.take_of_length_le (by have := Hll.out; omega)] at h1)
      have HRm := Lib.hid (obx_room (HO.out.ext HJ.out.2.2.2))
      clear HJ
      go_wp2_with fail
      refine HRm.out.mono ?_; rintro en w5 ⟨rfl, e5⟩
      have HE5 := Lib.hid (HJe.out.t e5)
      have HO5 := Lib.hid (HO.out.ext HE5.out)
      clear e5 HRm HJe
      by_cases hf : (nl : Int) > lim - (n : Int)
      · have HV := Lib.hid (show putF s lim e evs l = (-1, 4, evs) from put_full HOk.out (by have := HO.out.len; have := Hll.out; omega))
        go_wp2_with fail
        go_ret2
        rw [HV.out]
        exact ⟨A, n, c, rfl, HO5.out, Chg.ofExt HE5.out, fun k hk => .inl hk⟩
      · have HV := Lib.hid (show putF s lim e evs l = (-1, 0, evs ++ l) from put_all HO.out.ok HOk.out (by have := HO.out.len; have := Hll.out; omega))
        obtain ⟨-, -, -, c3⟩ := HO5.out.cells
        have hn2 := HO5.out.n_le
        go_wp2_with (refine wpl_append_atS (by rfl) rfl ul_ev info_ev rfl rfl HO5.out.room rfl (Src.ofRdS ul_ev evC_len (HL.out.ext HE5.out) evC_one) (by simp only [maxLen]; omega) (by omega) ?_)
        intro A3 c3' w6 r3 ch3 ft3
        have R3 := Lib.hid (show RoomS 5 w6 A3 (n + nl) c3' ((evs ++ l).flatMap evC) by rw [List.flatMap_append]; exact r3)
        have CH3 := Lib.hid ch3
        have FT3 := Lib.hid ft3
        have HBk := Lib.hid (HO5.out.blk.chg ch3 (fun hf' => HO5.out.off hf'))
        have f3 := HBk.out.frozen 3
        have d3 : w6.cell? ⟨g, 3, none⟩ = some (.slice A n c) := by rw [HBk.out.cell]; rfl
        clear r3 ch3 ft3 c3
        refine Lib.hid ?_
        go_wp2_with fail
        go_ret2
        rw [HV.out]
        have ch4 := Chg.set w6 g 3 (.slice A3 (n + nl) c3') (T := fun k => k = g) rfl
        have hgw : g < w5.heap.size := HO5.out.blk.lt
        have hoff : ¬ foot A3 c3' g := fun hf' => (FT3.out g hf').elim (fun h1 => HO5.out.off h1) (fun h1 => by omega)
        refine ⟨A3, n + nl, c3', rfl, ⟨HBk.out.set_ 3 _, R3.out.chg ch4 (fun k hk e => hoff (by rw [← e]; exact hk)), by rw [List.length_append]; have := HO.out.len; have := Hll.out; omega, hoff, ?_, fun x hx => ?_⟩, ((Chg.ofExt HE5.out).t (CH3.out.mono (fun k _ hk => .inr hk))).t (ch4.mono (fun k _ hk => .inl hk)), fun k hk => (FT3.out k hk).elim .inl (fun h1 => .inr (Nat.le_trans HE5.out.size h1))⟩
        · have := HBp.out HO.out.ok
          rwa [HV.out] at this
        · rcases List.mem_append.1 hx with h1 | h1
          · exact HO.out.evok x h1
          · exact HK.out x h1
end Go.Proofs.Ytdjpggnadelnaaa
