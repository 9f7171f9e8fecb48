/- Fbw: Blocks: the walk. -/
import Derived.Test.YtlneifgihdickaaFbx
namespace Go.Proofs.Ytlneifgihdickaa
open Go.RowKit Go.Fx
attribute [local go_sem] Oper.semAt_some
theorem zero_cells : Try.zeroCells79 = (setC (fun _ => false)).toArray := by kernel_rfl
theorem OwnR.zero (w : World) : OwnR (w.alloc (.cells Try.zeroCells79 79)) w.heap.size (fun _ => false) := by
  have h1 := RoomS.of_blk (s := 256) (n := 1) (Blk.new w 79 Try.zeroCells79) (by kernel_rfl) (by unfold maxLen; omega)
  rw [zero_cells] at h1 ⊢
  show RoomS 256 _ _ 1 1 (([fun _ => false] : List (Nat → Bool)).flatMap setC)
  rw [List.flatMap_cons, List.flatMap_nil, List.append_nil]
  exact h1
theorem OwnR.x {W : World} {bo : Nat} {s : Nat → Bool} {W' : World} (h : OwnR W bo s) (e : Ext W W') : OwnR W' bo s := RoomS.ext h e
/-- Where blocks begin, in memory. -/
structure LedJ (w : World) (b5 : Nat) (s : Nat → Bool) (W : World) : Prop where
  own : OwnR W b5 s
  lo : w.heap.size ≤ b5
  ext : Ext w W
theorem LedJ.e {w : World} {b5 : Nat} {s : Nat → Bool} {W W' : World} (h : LedJ w b5 s W) (e : Ext W W') : LedJ w b5 s W' := ⟨h.own.ext e, h.lo, h.ext.t e⟩
theorem LedJ.set {w : World} {b5 q : Nat} {s : Nat → Bool} {W : World} (h : LedJ w b5 s W) (hq : q < 256) : LedJ w b5 (fun x => if x = q then true else s x) (W.setCell ⟨b5, q, none⟩ (.bool true)) :=
  ⟨h.own.set hq true, h.lo, h.ext.trans ((Chg.set W b5 q (.bool true) (T := fun q => q = b5) rfl).below h.ext.size (fun q hq e => by have := h.lo; omega))⟩
theorem ul_bs : Try.prog.underlying 49 = some (.slice 53) := by kernel_rfl
theorem info_bs : (Try.prog.info? 53).map (fun i => (i.zero, i.size, i.bytes)) = some (some (.agg #[.int .i64 0, .int .i64 0, .slice none 0 0]), 3, 40) := by kernel_rfl
set_option maxRecDepth 100000 in
theorem blocks_bad (A : Option Addr) (n c : Nat) (p : List Ins) (w : World) (h : RdS 5 insC w A n p) (h0 : (checkF p).2 ≠ 0) :
    Calls Try.prog 26 #[.slice A n c] w fun e w' => e = .returned (.tuple #[.slice none 0 0, .int .i64 160]) ∧ Ext w w' := by
  have HR := Lib.hid (right_ A n c p w h)
  rw [if_neg h0] at HR
  clear h h0
  go_enter Try.func26, Try.ntmps26
  go_wp2_with fail
  refine HR.out.mono ?_; rintro e w2 ⟨rfl, e2⟩
  have E2 := Lib.hid e2
  clear e2
  go_wp2_with fail
  go_ret2
  exact ⟨rfl, E2.out⟩
theorem setTo_snoc (l : List (Nat × Nat)) (y : Nat × Nat) (v : Nat) : setTo (l ++ [y]) v = l ++ [(y.1, v)] := by
  have h1 : (l ++ [y]).length - 1 = l.length := by simp
  unfold setTo
  rw [h1, List.getElem?_append_right (Nat.le_refl _), Nat.sub_self]
  simp
theorem blkN_hi {L : Nat → Bool} (h0 : L 0 = true) : ∀ (m : Nat) (x : Nat × Nat), x ∈ blkN L m → x.1 < x.2 ∧ x.2 ≤ m
  | 0, x, h => by cases h
  | m + 1, x, h => by
    have ih := blkN_hi h0 m
    rw [blkN] at h
    unfold blkA at h
    by_cases hL : L m = true
    · rw [if_pos hL, setTo_snoc] at h
      rcases List.mem_append.1 h with h1 | h1
      · have := ih x h1; omega
      · obtain rfl := List.mem_singleton.1 h1
        exact ⟨Nat.lt_succ_self _, Nat.le_refl _⟩
    · rw [if_neg hL] at h
      have hm : m ≠ 0 := fun e => hL (by rw [e]; exact h0)
      obtain ⟨m', rfl⟩ : ∃ m', m = m' + 1 := ⟨m - 1, by omega⟩
      have hp := blkN_pos h0 m'
      obtain ⟨l, y, hly⟩ : ∃ l y, blkN L (m' + 1) = l ++ [y] := ⟨_, _, (List.dropLast_concat_getLast (List.ne_nil_of_length_pos hp)).symm⟩
      rw [hly, setTo_snoc] at h
      rw [hly] at ih
      rcases List.mem_append.1 h with h1 | h1
      · have := ih x (List.mem_append_left _ h1); omega
      · obtain rfl := List.mem_singleton.1 h1
        have := ih y (List.mem_append_right _ (List.mem_singleton.2 rfl))
        exact ⟨by simp only; omega, Nat.le_refl _⟩
/-- What stays as it is while the next blocks are told. -/
def KpQ (A1 : Option Addr) (n b9 b10 : Nat) (q : Nat) : Prop := q = b9 ∨ q = b10 ∨ foot A1 n q
structure KpM (Ab : Option Addr) (m cb : Nat) (A1 : Option Addr) (n b9 b10 : Nat) (nu : List Nat) (W : World) : Prop where
  k9 : Blk W b9 49 #[.slice Ab m cb]
  k10 : Blk W b10 26 #[.slice A1 n n]
  rn : Room W A1 n n (nu.map intv)
section
variable {T : Nat → Prop} {W W' : World} {Ab A1 : Option Addr} {m cb n b9 b10 : Nat} {nu : List Nat}
theorem KpM.chg (h : KpM Ab m cb A1 n b9 b10 nu W) (ch : Chg T W W') (hT : ∀ q, KpQ A1 n b9 b10 q → ¬ T q) : KpM Ab m cb A1 n b9 b10 nu W' :=
  ⟨h.k9.chg ch (hT _ (.inl rfl)), h.k10.chg ch (hT _ (.inr (.inl rfl))), h.rn.chg ch (fun q hq => hT q (.inr (.inr hq)))⟩
theorem KpM.ext (h : KpM Ab m cb A1 n b9 b10 nu W) (e : Ext W W') : KpM Ab m cb A1 n b9 b10 nu W' := ⟨h.k9.ext e, h.k10.ext e, h.rn.ext e⟩
theorem KpM.lt (h : KpM Ab m cb A1 n b9 b10 nu W) {q : Nat} (hq : KpQ A1 n b9 b10 q) : q < W.heap.size := by
  rcases hq with rfl | rfl | hq
  · exact h.k9.lt
  · exact h.k10.lt
  · exact h.rn.lt hq
end
/-- What Blocks leaves. -/
def BlkP (p : List Ins) (n : Nat) (w : World) (e : Ending) (w' : World) : Prop :=
  ∃ A m c ss, e = .returned (.tuple #[.slice A m c, .int .i64 0]) ∧ m = (blkN (ledF p n) n).length ∧ Lsb w.heap.size w' A m c (blkN (ledF p n) n) ss ((blkN (ledF p n) n).map (fun x => (edF p (x.2 - 1)).map (numN (ledF p n)))) ∧ Ext w w'
set_option maxRecDepth 100000 in
set_option maxHeartbeats 8000000 in
theorem blocks_ (A : Option Addr) (n c : Nat) (p : List Ins) (w : World) (h : RdS 5 insC w A n p) (hp : RightP p) :
    Calls Try.prog 26 #[.slice A n c] w (BlkP p n w) := by
  have hl := h.1
  have hn := hp.max
  have hn0 := hp.pos
  rw [hl] at hn hn0
  have HR := Lib.hid (right_ A n c p w h)
  rw [if_pos (rightP_iff.2 hp)] at HR
  have H := Lib.hid h
  have HP := Lib.hid hp
  have Hl := Lib.hid hl
  clear h hp hl
  refine calls_of_wp_marks Try.func26 rfl ?_
  simp only [Try.ntmps26, List.size_toArray, List.length_cons, List.length_nil, Nat.reduceAdd, Nat.reduceSub, Array.replicate_succ, Array.replicate_zero, List.push_toArray, List.append_toArray, List.nil_append, List.cons_append]
  go_wp2_with fail
  refine HR.out.mono ?_; rintro e w2 ⟨rfl, e2⟩
  obtain ⟨w3, hw3⟩ : ∃ w3, w3 = w2.alloc (.cells Try.zeroCells79 79) := ⟨_, rfl⟩
  obtain ⟨b5, hb5⟩ : ∃ b5, b5 = w2.heap.size := ⟨_, rfl⟩
  have H3 : Hid (LedJ w b5 (fun _ => false) w3) := Lib.hid (by
    rw [hw3, hb5]
    exact ⟨OwnR.zero w2, e2.size, e2.t (Ext.alloc _ _)⟩)
  have HW3 := Lib.hid hw3
  have HB5 := Lib.hid hb5
  clear e2 HR hw3 hb5
  go_upto_region 5 with fail
  rw [← HB5.out]
  (first | rw [← HW3.out] | change Code.wp _ _ _ _ (w2.alloc (.cells Try.zeroCells79 79)))
  try rw [← HW3.out]
  clear HW3 HB5
  obtain ⟨hc0, hf0⟩ := OwnR.at_ H3.out.own (q := 0) (by decide)
  have H4 : Hid (LedJ w b5 (ledF p 0) (w3.setCell ⟨b5, 0, none⟩ (.bool true))) := Lib.hid (by
    have h1 := H3.out.set (q := 0) (by decide)
    have e : (fun x => if x = 0 then true else false) = ledF p 0 := by funext k; unfold ledF; by_cases h : k = 0 <;> simp [h]
    rw [← e]
    exact h1)
  clear H3
  go_wp2_with fail
  go_loopw [22] (fun v wr => ∃ i : Nat, i ≤ n ∧ v = .int .i64 (i : Int) ∧ Hid (LedJ w b5 (ledF p i) wr)) (fun v _ => n - (intOf v).toNat)
  case atStart => exact ⟨0, by omega, rfl, H4⟩
  case round =>
    clear H4 hc0 hf0
    obtain ⟨i, hi, rfl, HJ⟩ := hrel
    by_cases hlt : i < n
    · have hltI : (i : Int) < (n : Int) := by omega
      have hi256 : (i : Int) < 256 := by omega
      obtain ⟨bp, op_, x, hA, _, hx, c0, c1, c2, c3, c4⟩ := (H.out.ext HJ.out.ext).ins hlt
      subst hA
      have Hx := Lib.hid hx
      have H1 := Lib.hid (fun w' => target_ x w')
      unfold TgtP insV at H1
      have H2 := Lib.hid (fun w' => goes_ x w')
      unfold BoolP insV at H2
      cases ht : tgtF x with
      | true =>
        obtain ⟨to_, hto⟩ : ∃ t : Nat, x.n = (t : Int) := ⟨x.n.toNat, by have := (tgtF_lo ht).1; omega⟩
        have hto2 : to_ < 256 := by have := (tgtF_lo ht).2; omega
        have htoI : (to_ : Int) < 256 := by omega
        rw [ht] at H1
        simp only [if_true] at H1
        rw [hto] at H1 c4
        have Ht := Lib.hid ht
        have Hto := Lib.hid hto
        clear hx ht hto H2
        go_wp2_with fail
        refine (H1.out _).mono ?_; rintro e w4 ⟨rfl, e4⟩
        have HJ4 := Lib.hid (HJ.out.e e4)
        clear e4 c0 c1 c2 c3 c4 HJ H1
        obtain ⟨hc5, hf5⟩ := OwnR.at_ HJ4.out.own hto2
        have hs := HJ4.out.set hto2
        obtain ⟨w5, hw5⟩ : ∃ w5, w5 = w4.setCell ⟨b5, to_, none⟩ (.bool true) := ⟨_, rfl⟩
        rw [← hw5] at hs
        have HS := Lib.hid hs
        have HW5 := Lib.hid hw5
        clear hs hw5
        go_upto_region 12 with fail
        rw [← HW5.out]
        clear hc5 hf5 HW5 HJ4
        by_cases hin : i + 1 < n
        · have hinI : (i : Int) + 1 < (n : Int) := by omega
          have hin2 : (i : Int) + 1 < 256 := by omega
          obtain ⟨hc5, hf5⟩ := OwnR.at_ HS.out.own (q := i + 1) (by omega)
          have HN : Hid (LedJ w b5 (ledF p (i + 1)) (w5.setCell ⟨b5, i + 1, none⟩ (.bool true))) := Lib.hid (by
            have h2 := HS.out.set (q := i + 1) (by omega)
            rw [← ledF_tt Hx.out Ht.out Hto.out (by rw [Hl.out]; exact hin)]
            exact h2)
          clear HS
          go_wp2_with fail
          go_roundw
          case rel => exact ⟨i + 1, by omega, by go_num, HN⟩
          case measure => simp [intOf]; omega
        · have hinI : ¬ ((i : Int) + 1 < (n : Int)) := by omega
          have HN : Hid (LedJ w b5 (ledF p (i + 1)) w5) := Lib.hid (by
            rw [← ledF_tf Hx.out Ht.out Hto.out (by rw [Hl.out]; exact hin)]
            exact HS.out)
          clear HS
          go_wp2_with fail
          go_roundw
          case rel => exact ⟨i + 1, by omega, by go_num, HN⟩
          case measure => simp [intOf]; omega
      | false =>
        rw [ht] at H1
        simp only [Bool.false_eq_true, if_false] at H1
        have Ht := Lib.hid ht
        clear hx ht
        go_wp2_with fail
        refine (H1.out _).mono ?_; rintro e w4 ⟨rfl, e4⟩
        have HJ4 := Lib.hid (HJ.out.e e4)
        clear e4 c0 c1 c2 c3 c4 HJ H1
        obtain ⟨_, _, x', hA, _, hx', c0, c1, c2, c3, c4⟩ := (H.out.ext HJ4.out.ext).ins hlt
        cases hA
        obtain rfl : x' = x := by have := Hx.out; rw [hx'] at this; exact Option.some.inj this
        clear hx'
        go_upto_region 12 with fail
        obtain ⟨gx, hgx⟩ : ∃ gx, gx = goesF x' := ⟨_, rfl⟩
        rw [← hgx] at H2
        have Hgx := Lib.hid hgx
        clear hgx
        by_cases hin : gx = false ∧ i + 1 < n
        · obtain ⟨rfl, hin⟩ := hin
          have hinI : (i : Int) + 1 < (n : Int) := by omega
          have hin2 : (i : Int) + 1 < 256 := by omega
          go_wp2_with fail
          refine (H2.out _).mono ?_; rintro e w5 ⟨rfl, e5⟩
          have HJ5 := Lib.hid (HJ4.out.e e5)
          clear e5 c0 c1 c2 c3 c4 HJ4 H2
          obtain ⟨hc5, hf5⟩ := OwnR.at_ HJ5.out.own (q := i + 1) (by omega)
          have HN : Hid (LedJ w b5 (ledF p (i + 1)) (w5.setCell ⟨b5, i + 1, none⟩ (.bool true))) := Lib.hid (by
            have h2 := HJ5.out.set (q := i + 1) (by omega)
            rw [← ledF_ft Hx.out Ht.out Hgx.out.symm (by rw [Hl.out]; exact hin)]
            exact h2)
          clear HJ5
          go_wp2_with fail
          go_roundw
          case rel => exact ⟨i + 1, by omega, by go_num, HN⟩
          case measure => simp [intOf]; omega
        · have hor : goesF x' = true ∨ ¬ i + 1 < p.length := by
            rw [Hl.out, ← Hgx.out]
            cases gx with
            | true => exact .inl rfl
            | false => exact .inr (fun e => hin ⟨rfl, e⟩)
          have hin' := hin
          clear hin
          cases gx with
          | true =>
            go_wp2_with fail
            refine (H2.out _).mono ?_; rintro e w5 ⟨rfl, e5⟩
            have HN : Hid (LedJ w b5 (ledF p (i + 1)) w5) := Lib.hid (by
              rw [← ledF_ff Hx.out Ht.out hor]
              exact HJ4.out.e e5)
            clear e5 c0 c1 c2 c3 c4 HJ4 H2 hor hin'
            go_wp2_with fail
            go_roundw
            case rel => exact ⟨i + 1, by omega, by go_num, HN⟩
            case measure => simp [intOf]; omega
          | false =>
            have hinI : ¬ ((i : Int) + 1 < (n : Int)) := fun e => hin' ⟨rfl, by omega⟩
            go_wp2_with fail
            refine (H2.out _).mono ?_; rintro e w5 ⟨rfl, e5⟩
            have HN : Hid (LedJ w b5 (ledF p (i + 1)) w5) := Lib.hid (by
              rw [← ledF_ff Hx.out Ht.out hor]
              exact HJ4.out.e e5)
            clear e5 c0 c1 c2 c3 c4 HJ4 H2 hor hin'
            go_wp2_with fail
            go_roundw
            case rel => exact ⟨i + 1, by omega, by go_num, HN⟩
            case measure => simp [intOf]; omega
    · obtain rfl : n = i := by omega
      have hltI : ¬ ((n : Int) < (n : Int)) := by omega
      obtain ⟨L, hL⟩ : ∃ L, L = ledF p n := ⟨_, rfl⟩
      have HL : Hid (L = ledF p n ∧ L 0 = true) := Lib.hid ⟨hL, by rw [hL]; exact ledF_zero p n⟩
      have HJL : Hid (LedJ w b5 L wr) := Lib.hid (by rw [hL]; exact HJ.out)
      clear hL HJ
      obtain ⟨w5, hw5⟩ : ∃ w5, w5 = wr.alloc (.cells #[.slice none 0 0] 49) := ⟨_, rfl⟩
      obtain ⟨b9, hb9⟩ : ∃ b9, b9 = wr.heap.size := ⟨_, rfl⟩
      have H5 : Hid (LedJ w b5 L w5 ∧ Blk w5 b9 49 #[.slice none 0 0] ∧ b5 < b9 ∧ w.heap.size ≤ b9) := Lib.hid (by
        have h1 : b5 < wr.heap.size := RoomS.lt HJL.out.own ⟨by decide, 0, rfl⟩
        rw [hw5, hb9]
        exact ⟨HJL.out.e (Ext.alloc _ _), Blk.new _ _ _, h1, HJL.out.ext.size⟩)
      have HW5 := Lib.hid hw5
      have HB9 := Lib.hid hb9
      clear hw5 hb9 HJL
      go_upto_region 16 with fail
      rw [← HB9.out, ← HW5.out]
      clear HB9 HW5
      go_wp2_with (refine wpl_makeN rfl rfl ul_in info_in rfl rfl rfl rfl rfl (by omega) (by unfold maxLen; omega) ?_)
      intro A1 w6 r1 e1 f1; refine Lib.hid ?_
      obtain ⟨w7, hw7⟩ : ∃ w7, w7 = w6.alloc (.cells #[.slice A1 n n] 26) := ⟨_, rfl⟩
      obtain ⟨b10, hb10⟩ : ∃ b10, b10 = w6.heap.size := ⟨_, rfl⟩
      have H7 : Hid (BlS w L n b5 b9 b10 A1 (numL L n 0) (blkN L 0) none 0 0 w7) := Lib.hid (by
        have h1 := H5.out.2.1.lt
        have h2 := e1.size
        have h3 := H5.out.2.2.1
        have h4 := H5.out.1.lo
        have x7 : Ext w6 w7 := by rw [hw7]; exact Ext.alloc _ _
        refine ⟨(H5.out.1.own.ext e1).ext x7, (H5.out.2.1.ext e1).ext x7, RoomS.nil, by rw [hw7, hb10]; exact Blk.new _ _ _, ?_, rfl, ⟨by omega, by omega, by omega⟩, fun q hq => ?_, fun q hq => absurd hq foot_none, ⟨h4, by omega, by omega⟩, (H5.out.1.ext.t e1).t x7⟩
        · rw [numL_zero, List.map_replicate]
          exact r1.ext x7
        · have h5 := f1 q hq
          have h6 := r1.lt hq
          exact ⟨by omega, by omega, by omega, by omega⟩)
      have HW7 := Lib.hid hw7
      have HB10 := Lib.hid hb10
      clear hw7 hb10 r1 e1 f1 H5
      go_upto_region 17 with fail
      rw [← HB10.out, ← HW7.out]
      clear HB10 HW7
      go_wp2_with fail
      go_loopw [61] (fun v wr => ∃ (i : Nat) (Ab : Option Addr) (m cb : Nat), i ≤ n ∧ v = .int .i64 (i : Int) ∧ Hid (BlS w L n b5 b9 b10 A1 (numL L n i) (blkN L i) Ab m cb wr)) (fun v _ => n - (intOf v).toNat)
      case atStart => exact ⟨0, none, 0, 0, by omega, rfl, H7⟩
      case round =>
        clear H7
        obtain ⟨i, Ab, m, cb, hi, rfl, HJ⟩ := hrel
        by_cases hlt : i < n
        · have hltI : (i : Int) < (n : Int) := by omega
          have hi256 : (i : Int) < 256 := by omega
          obtain ⟨g1, o1, hA1, _⟩ := HJ.out.rn.some_ (by omega)
          subst hA1
          obtain ⟨hld, -⟩ := OwnR.at_ HJ.out.led (q := i) (by omega)
          cases hLi : L i with
          | true =>
            rw [hLi] at hld
            have hc9 := HJ.out.k9.cell0
            have hml : m ≤ 256 := by have h1 := HJ.out.bm; have h3 := blkN_le L i; omega
            have HLi := Lib.hid hLi
            clear hLi
            go_wp2_with (refine wpl_buildS bl0_len (by decide) (by rfl) rfl ul_bs info_bs [.tmp 69] (by rfl) (by rfl) (by decide) [(i, 0)] (by rfl) ?_)
            intro g8 w8 _ e8 _ r8; refine Lib.hid ?_
            have R8 := Lib.hid r8
            have E8 := Lib.hid e8
            clear r8 e8 hc9 hld
            go_wp2_with (refine wpl_append_atS (by rfl) rfl ul_bs info_bs rfl rfl (HJ.out.rb.ext E8.out) rfl (Src.ofRdS ul_bs bl0_len R8.out bl0_one) (by unfold maxLen; omega) (by omega) ?_)
            intro A9 c9 w9 r9 ch9 ft9; refine Lib.hid ?_
            have HA' := Lib.hid (HJ.out.push (i := i) E8.out (by simpa using r9) ch9 ft9)
            have hbk := (HJ.out.k9.ext E8.out).chg ch9 (fun hf => (HJ.out.nb _ hf).2.1 rfl)
            have hc9 := hbk.cell0
            have hf9 := hbk.frozen 0
            clear hbk r9 ch9 ft9 HJ R8 E8
            obtain ⟨wa, hwa⟩ : ∃ wa, wa = w9.setCell ⟨b9, 0, none⟩ (.slice A9 (m + 1) c9) := ⟨_, rfl⟩
            rw [← hwa] at HA'
            have HWa := Lib.hid hwa
            clear hwa
            go_upto_region 22 with fail
            rw [← HWa.out]
            clear HWa hc9 hf9
            obtain ⟨ma, hma⟩ : ∃ ma, ma = m + 1 := ⟨_, rfl⟩
            rw [← hma] at HA' ⊢
            clear hma
            obtain ⟨ca, hca⟩ : ∃ ca, ca = c9 := ⟨_, rfl⟩
            rw [← hca] at HA' ⊢
            clear hca
            have HA : Hid (BlS w L n b5 b9 b10 (some ⟨g1, o1, none⟩) (numL L n i) (blkA L i (blkN L i)) A9 ma ca wa) := Lib.hid (by unfold blkA; rw [if_pos HLi.out]; exact HA'.out)
            clear HA'
            obtain ⟨k, hk⟩ : ∃ k, ma = k + 1 := ⟨ma - 1, by have h1 := HA.out.bm; have h2 := blkA_pos HL.out.2 i; omega⟩
            subst hk
            obtain ⟨gb, ob, hAb, _⟩ := HA.out.rb.some_ (by have := HA.out.rb.2.1; omega)
            subst hAb
            obtain ⟨x0, hx0⟩ : ∃ x, (blkA L i (blkN L i))[k]? = some x := ⟨(blkA L i (blkN L i))[k]'(by rw [HA.out.bm]; omega), List.getElem?_eq_getElem _⟩
            have hcb := HA.out.rb.cellAt (k := k * 3 + 1) (u := .int .i64 (x0.2 : Int)) (by rw [flat_get bl0_len _ k 1 x0 hx0 (by decide)]; rfl)
            have hfb := HA.out.rb.frozenAt (k := k * 3 + 1) (by have := HA.out.rb.2.1; omega)
            rw [← Nat.add_assoc] at hcb hfb
            have hc9 := HA.out.k9.cell0
            have hkl : k < 1000 := by have h1 := HA.out.bm; have h2 := (blkA_len (L := L) (m := i) (l := blkN L i)).2; have h3 := blkN_le L i; omega
            have HB : Hid (BlS w L n b5 b9 b10 (some ⟨g1, o1, none⟩) (numL L n i) (blkN L (i + 1)) (some ⟨gb, ob, none⟩) (k + 1) ca (wa.setCell ⟨gb, ob + k * 3 + 1, none⟩ (.int .i64 ((i : Int) + 1)))) := Lib.hid (by
              have h2 := HA.out.to_ (v := i + 1) (by omega)
              rw [show ob + ((k + 1 - 1) * 3 + 1) = ob + k * 3 + 1 by omega] at h2
              exact h2)
            obtain ⟨wt, hwt⟩ : ∃ wt, wt = wa.setCell ⟨gb, ob + k * 3 + 1, none⟩ (.int .i64 ((i : Int) + 1)) := ⟨_, rfl⟩
            rw [← hwt] at HB
            have HWt := Lib.hid hwt
            clear hwt
            go_upto_region 23 with fail
            rw [← HWt.out]
            clear HWt hcb hfb hc9 HA
            have hc9 := HB.out.k9.cell0
            have hc10 := HB.out.k10.cell0
            have hcn := HB.out.rn.cellAt (k := i) (u := intv 0) (by rw [List.getElem?_map, numL_get hlt, if_neg (Nat.lt_irrefl i)]; rfl)
            have hfn := HB.out.rn.frozenAt (k := i) hlt
            unfold intv at hcn
            have HN : Hid (BlS w L n b5 b9 b10 (some ⟨g1, o1, none⟩) (numL L n (i + 1)) (blkN L (i + 1)) (some ⟨gb, ob, none⟩) (k + 1) ca (wt.setCell ⟨g1, o1 + i, none⟩ (.int .i64 (k : Int)))) := Lib.hid (by
              have h2 := HB.out.num (v := k) hlt
              have h3 : numN L i = k := by unfold numN; rw [HB.out.bm]; rfl
              rw [← h3, numL_step hlt, h3] at h2
              exact h2)
            clear HB
            go_wp2_with fail
            go_roundw
            case rel => exact ⟨i + 1, some ⟨gb, ob, none⟩, k + 1, ca, by omega, by go_num, HN⟩
            case measure => simp [intOf]; omega
          | false =>
            rw [hLi] at hld
            have HA : Hid (BlS w L n b5 b9 b10 (some ⟨g1, o1, none⟩) (numL L n i) (blkA L i (blkN L i)) Ab m cb wr) := Lib.hid (by unfold blkA; rw [if_neg (by rw [hLi]; simp)]; exact HJ.out)
            clear hLi HJ
            go_upto_region 22 with fail
            clear hld
            obtain ⟨ma, hma⟩ : ∃ ma, ma = m := ⟨_, rfl⟩
            subst hma
            obtain ⟨ca, hca⟩ : ∃ ca, ca = cb := ⟨_, rfl⟩
            subst hca
            obtain ⟨wa, hwa⟩ : ∃ wa, wa = wr := ⟨_, rfl⟩
            subst hwa
            obtain ⟨k, hk⟩ : ∃ k, ma = k + 1 := ⟨ma - 1, by have h1 := HA.out.bm; have h2 := blkA_pos HL.out.2 i; omega⟩
            subst hk
            obtain ⟨gb, ob, hAb, _⟩ := HA.out.rb.some_ (by have := HA.out.rb.2.1; omega)
            subst hAb
            obtain ⟨x0, hx0⟩ : ∃ x, (blkA L i (blkN L i))[k]? = some x := ⟨(blkA L i (blkN L i))[k]'(by rw [HA.out.bm]; omega), List.getElem?_eq_getElem _⟩
            have hcb := HA.out.rb.cellAt (k := k * 3 + 1) (u := .int .i64 (x0.2 : Int)) (by rw [flat_get bl0_len _ k 1 x0 hx0 (by decide)]; rfl)
            have hfb := HA.out.rb.frozenAt (k := k * 3 + 1) (by have := HA.out.rb.2.1; omega)
            rw [← Nat.add_assoc] at hcb hfb
            have hc9 := HA.out.k9.cell0
            have hkl : k < 1000 := by have h1 := HA.out.bm; have h2 := (blkA_len (L := L) (m := i) (l := blkN L i)).2; have h3 := blkN_le L i; omega
            have HB : Hid (BlS w L n b5 b9 b10 (some ⟨g1, o1, none⟩) (numL L n i) (blkN L (i + 1)) (some ⟨gb, ob, none⟩) (k + 1) ca (wa.setCell ⟨gb, ob + k * 3 + 1, none⟩ (.int .i64 ((i : Int) + 1)))) := Lib.hid (by
              have h2 := HA.out.to_ (v := i + 1) (by omega)
              rw [show ob + ((k + 1 - 1) * 3 + 1) = ob + k * 3 + 1 by omega] at h2
              exact h2)
            obtain ⟨wt, hwt⟩ : ∃ wt, wt = wa.setCell ⟨gb, ob + k * 3 + 1, none⟩ (.int .i64 ((i : Int) + 1)) := ⟨_, rfl⟩
            rw [← hwt] at HB
            have HWt := Lib.hid hwt
            clear hwt
            go_upto_region 23 with fail
            rw [← HWt.out]
            clear HWt hcb hfb hc9 HA
            have hc9 := HB.out.k9.cell0
            have hc10 := HB.out.k10.cell0
            have hcn := HB.out.rn.cellAt (k := i) (u := intv 0) (by rw [List.getElem?_map, numL_get hlt, if_neg (Nat.lt_irrefl i)]; rfl)
            have hfn := HB.out.rn.frozenAt (k := i) hlt
            unfold intv at hcn
            have HN : Hid (BlS w L n b5 b9 b10 (some ⟨g1, o1, none⟩) (numL L n (i + 1)) (blkN L (i + 1)) (some ⟨gb, ob, none⟩) (k + 1) ca (wt.setCell ⟨g1, o1 + i, none⟩ (.int .i64 (k : Int)))) := Lib.hid (by
              have h2 := HB.out.num (v := k) hlt
              have h3 : numN L i = k := by unfold numN; rw [HB.out.bm]; rfl
              rw [← h3, numL_step hlt, h3] at h2
              exact h2)
            clear HB
            go_wp2_with fail
            go_roundw
            case rel => exact ⟨i + 1, some ⟨gb, ob, none⟩, k + 1, ca, by omega, by go_num, HN⟩
            case measure => simp [intOf]; omega
        · obtain rfl : n = i := by omega
          have hltI : ¬ ((n : Int) < (n : Int)) := by omega
          obtain ⟨fs, hfs⟩ : ∃ fs, fs = blkN L n := ⟨_, rfl⟩
          rw [← hfs] at HJ
          have HF : Hid (fs.length = m ∧ m ≤ n ∧ ∀ x, x ∈ fs → x.1 < x.2 ∧ x.2 ≤ n) := Lib.hid ⟨HJ.out.bm, by rw [← HJ.out.bm, hfs]; exact blkN_le L n, by rw [hfs]; exact blkN_hi HL.out.2 n⟩
          have hmn := HF.out.2.1
          have H9 : Hid (Lsb w.heap.size wr Ab m cb fs (List.replicate m ⟨none, 0, 0⟩) (nxO p (numN L) fs 0 0) ∧ KpM Ab m cb A1 n b9 b10 (numL L n n) wr ∧ (∀ q, KpQ A1 n b9 b10 q → ¬ foot Ab cb q) ∧ Ext w wr) := Lib.hid (by
            refine ⟨?_, ⟨HJ.out.k9, HJ.out.k10, HJ.out.rn⟩, fun q hq hf => ?_, HJ.out.ext⟩
            · rw [nxO_zero, HF.out.1]
              exact Lsb.made (by rw [bl0_zip fs m HF.out.1.symm]; exact HJ.out.rb) HF.out.1 (fun q hq => (HJ.out.nb q hq).2.2.2.2)
            · have h1 := HJ.out.nb q hf
              rcases hq with rfl | rfl | hq
              · exact h1.2.1 rfl
              · exact h1.2.2.1 rfl
              · exact h1.2.2.2.1 hq)
          have HFS := Lib.hid hfs
          have HNF := Lib.hid H9.out.2.2.1
          have hc9 := H9.out.2.1.k9.cell0
          clear hfs HJ
          go_upto_region 26 with fail
          clear hc9
          refine wp_loop_ghost_k (fun gk a' w' => ∃ (u12 u13 u89 u90 u91 u92 u93 u94 u95 u96 u97 u98 u99 u100 u101 u102 u103 u104 u105 u106 u107 u108 u109 u110 u111 u112 u113 u114 u115 u116 : Value) (ds : List Deferred), (∃ (k : Nat) (ss : List Sl) (Ds : List Nat), k ≤ m ∧ u89 = .int .i64 (k : Int) ∧ gk + k = m ∧ Hid (ds = Ds.map collD ∧ Lsb w.heap.size w' Ab m cb fs ss (nxO p (numN L) fs k 0) ∧ KpM Ab m cb A1 n b9 b10 (numL L n n) w' ∧ (∀ q, KpQ A1 n b9 b10 q → ¬ foots ss q) ∧ Cds w.heap.size w' Ds ∧ (∀ D ∈ Ds, ¬ (foot Ab cb D ∨ foots ss D ∨ KpQ A1 n b9 b10 D)) ∧ Ext w w')) ∧ a' = { tmps := #[.slice A n c, undef, .slice none 0 0, .int .i64 0, .int .i64 0, .pointer (some ⟨b5, 0, none⟩), u6, u7, u8, .pointer (some ⟨b9, 0, none⟩), .pointer (some ⟨b10, 0, none⟩), u11, u12, u13, .slice A n c, .int .i64 0, .int .i64 0, .bool false, undef, .pointer (some ⟨b5, 0, none⟩), .slice A n c, .int .i64 (n : Int), .int .i64 (n : Int), .bool false, u24, u25, u26, u27, u28, u29, u30, u31, u32, u33, u34, u35, u36, u37, u38, u39, u40, u41, u42, u43, u44, u45, u46, u47, u48, u49, u50, u51, u52, u53, u54, u55, .slice A n c, .int .i64 (n : Int), .slice A1 n n, .slice A n c, .int .i64 (n : Int), .int .i64 (n : Int), .bool false, u63, u64, u65, u66, u67, u68, u69, u70, u71, u72, u73, u74, u75, u76, u77, u78, u79, u80, u81, u82, u83, u84, u85, u86, .slice Ab m cb, .int .i64 (m : Int), u89, u90, u91, u92, u93, u94, u95, u96, u97, u98, u99, u100, u101, u102, u103, u104, u105, u106, u107, u108, u109, u110, u111, u112, u113, u114, u115, u116, undef], defers := ds }) m ?_ ?_
          · (repeat apply Exists.intro); refine ⟨?_, rfl⟩
            exact ⟨0, _, [], by omega, rfl, by omega, Lib.hid ⟨rfl, H9.out.1, H9.out.2.1, fun q _ hf => foots_rep hf, Cds.nil, by simp, H9.out.2.2.2⟩⟩
          · clear H9
            intro gk _ wr hinv
            obtain ⟨u12, u13, u89, u90, u91, u92, u93, u94, u95, u96, u97, u98, u99, u100, u101, u102, u103, u104, u105, u106, u107, u108, u109, u110, u111, u112, u113, u114, u115, u116, ds, hrel, ha⟩ := hinv
            subst ha
            try dsimp only
            intro JJ KK hJJ hKK
            obtain ⟨k, ss, Ds, hk, rfl, hgk, HJ⟩ := hrel
            by_cases hlt : k < m
            · have hltI : (k : Int) < (m : Int) := by omega
              obtain ⟨w3, hw3⟩ : ∃ w3, w3 = wr.alloc (.cells #[.int .i64 (k : Int)] 3) := ⟨_, rfl⟩
              have hbi : Blk w3 wr.heap.size 3 #[.int .i64 (k : Int)] := by rw [hw3]; exact Blk.new _ _ _
              have ci := hbi.cell0
              have hx3 : Ext wr w3 := by rw [hw3]; exact Ext.alloc _ _
              obtain ⟨gb, ob, hAb, _⟩ := HJ.out.2.1.room.some_ (by have := HJ.out.2.1.room.2.1; omega)
              subst hAb
              obtain ⟨fk, hfk⟩ : ∃ x, fs[k]? = some x := ⟨fs[k]'(by rw [HF.out.1]; exact hlt), List.getElem?_eq_getElem _⟩
              obtain ⟨sk0, hsk0⟩ : ∃ s, ss[k]? = some s := ⟨ss[k]'(by rw [HJ.out.2.1.sl]; exact hlt), List.getElem?_eq_getElem _⟩
              obtain ⟨hi_, hhi⟩ : ∃ h, fk.2 = h + 1 := ⟨fk.2 - 1, by have := HF.out.2.2 fk (List.mem_of_getElem? hfk); omega⟩
              have hhn : hi_ < n := by have := HF.out.2.2 fk (List.mem_of_getElem? hfk); omega
              have hch := ((HJ.out.2.1.ext hx3).get hfk hsk0).1
              rw [hhi, ← Nat.add_assoc] at hch
              have HEd : Hid (edB p fs k = edF p hi_) := Lib.hid (by unfold edB; rw [hfk]; show edF p (fk.2 - 1) = _; rw [hhi]; rfl)
              have hc9 := (HJ.out.2.2.1.ext hx3).k9.cell0
              have HBi := Lib.hid hbi
              have Hx3 := Lib.hid hx3
              have HW3 := Lib.hid hw3
              clear hbi hx3 hw3 hfk hsk0 hhi
              go_upto_region 28 with fail
              rw [← HW3.out]
              go_wp2_with fail
              refine (edges_ (A) n c hi_ p w3 (H.out.ext (HJ.out.2.2.2.2.2.2.t Hx3.out))).mono ?_; rintro e w4 ⟨b1, b2, rfl, e4, hed, lb1, lb2⟩
              have Hed := Lib.hid hed
              obtain ⟨bi, hbi⟩ : ∃ bi, bi = wr.heap.size := ⟨_, rfl⟩
              have HQ : Hid (Lsb w.heap.size w4 (some ⟨gb, ob, none⟩) m cb fs ss (nxO p (numN L) fs k 0) ∧ KpM (some ⟨gb, ob, none⟩) m cb A1 n b9 b10 (numL L n n) w4 ∧ Cds w.heap.size w4 Ds ∧ Ext w w4 ∧ Blk w4 bi 3 #[.int .i64 (k : Int)] ∧ ¬ (foot (some ⟨gb, ob, none⟩) cb bi ∨ foots ss bi)) := Lib.hid ⟨(HJ.out.2.1.ext Hx3.out).ext e4, (HJ.out.2.2.1.ext Hx3.out).ext e4, (HJ.out.2.2.2.2.1.ext Hx3.out).ext e4, (HJ.out.2.2.2.2.2.2.t Hx3.out).t e4, by rw [hbi]; exact HBi.out.ext e4, fun hf => by have := HJ.out.2.1.lt hf; omega⟩
              have HD := Lib.hid (show ds = Ds.map collD ∧ (∀ q, KpQ A1 n b9 b10 q → ¬ foots ss q) ∧ ∀ D ∈ Ds, ¬ (foot (some ⟨gb, ob, none⟩) cb D ∨ foots ss D ∨ KpQ A1 n b9 b10 D) from ⟨HJ.out.1, HJ.out.2.2.2.1, HJ.out.2.2.2.2.2.1⟩)
              have HB12 := Lib.hid (show (∀ q, (foot (some ⟨gb, ob, none⟩) cb q ∨ foots ss q) → q ≠ b1 ∧ q ≠ b2) from fun q hq => by
                have h1 := HJ.out.2.1.lt hq
                have h2 := Hx3.out.size
                exact ⟨by omega, by omega⟩)
              have HKi := Lib.hid (show ¬ KpQ A1 n b9 b10 bi from fun hq => by have := HJ.out.2.2.1.lt hq; omega)
              rw [← hbi]
              clear e4 hed lb1 lb2 HJ HBi Hx3 HW3 hbi ci hch hc9
              go_wp2_with fail
              refine wp_range (gf := 60) rfl (enters_of Try.func60 (by kernel_rfl) rfl) (fun fn rec hrec => ?_)
              have hread : ∀ (R : Obj) (T : Nat → Prop) (o : Nat) (W : World), BbJ p (numN L) fs m cb k w.heap.size w4 (some ⟨gb, ob, none⟩) (fun q => foot (some ⟨gb, ob, none⟩) cb q ∨ foots ss q) R T o W → EdH p A n c hi_ b1 b2 W := fun R T o W hj => by
                have nm : ∀ q o', A = some ⟨q, o', none⟩ → 0 < n → ¬ (foot (some ⟨gb, ob, none⟩) cb q ∨ foots ss q) := fun q o' hA h0 hf => by
                  obtain ⟨b, o2, hA2, hb, _⟩ := H.out.2 h0
                  rw [hA] at hA2
                  cases hA2
                  have := HQ.out.1.new q hf
                  omega
                exact ⟨Hed.out.rd.chg hj.rg.chg nm, hj.rg.blk Hed.out.b1 (fun hf => (HB12.out _ hf).1 rfl), hj.rg.blk Hed.out.b2 (fun hf => (HB12.out _ hf).2 rfl)⟩
              refine (edges1 b1 b2 A n c hi_ p hhn hn (w4.heap.size + 1) (fun o => match (edF p hi_)[o]? with | some x => #[.int .i64 (x : Int)] | none => #[]) (BbJ p (numN L) fs m cb k w.heap.size w4 (some ⟨gb, ob, none⟩) (fun q => foot (some ⟨gb, ob, none⟩) cb q ∨ foots ss q) (rec .ready none) (fun _ => False) 0) (fun T o W => BbJ p (numN L) fs m cb k w.heap.size w4 (some ⟨gb, ob, none⟩) (fun q => foot (some ⟨gb, ob, none⟩) cb q ∨ foots ss q) (rec .ready none) T o W) _ (fun o x hx => by rw [hx]) ⟨?s1, fun T o W W' hj e => hj.e e, fun T o W W' hj ch => hj.own ch, ?hY⟩ (fun W hj => hread _ _ _ W hj) (fun T o W hj => hread _ _ _ W hj) ?h0).mono ?post
              case s1 =>
                intro W W' T hj e hT
                obtain ⟨ss', q1, q2, q3⟩ := hj.out
                exact ⟨hj.rg.begin e hT, ss', q1.ext e, q2, fun q hq ht => by have := q1.lt hq; have := (hT q ht).1; omega⟩
              case h0 => exact ⟨RgJ.start _, ss, (HQ.out.1.ext (Ext.alloc _ _)).ext (Ext.alloc _ _), fun q hq => .inl ⟨hq, HQ.out.1.lt hq⟩, fun _ _ t => t⟩
              case hY =>
                intro T o W ho hj
                obtain ⟨j, hx⟩ : ∃ j, (edF p hi_)[o]? = some j := ⟨(edF p hi_)[o], List.getElem?_eq_getElem ho⟩
                simp only [hx]
                have hjn : j < n := by have := edF_lt HP.out (List.mem_of_getElem? hx); rwa [Hl.out] at this
                refine (yieldAt hrec trivial hj.rg.loop (by rfl) (fun jump W3 => jump = none ∧ BbJ p (numN L) fs m cb k w.heap.size w4 (some ⟨gb, ob, none⟩) (fun q => foot (some ⟨gb, ob, none⟩) cb q ∨ foots ss q) (rec .busy none) T (o + 1) W3 ∧ ∀ q, T q → W3.heap[q]? = W.heap[q]?) ?walk).mono ?yp
                case yp =>
                  rintro e W' ⟨jump, W3, ⟨rfl, hB, hT⟩, hl, rfl, rfl⟩
                  exact .inl ⟨rfl, hB.put _, fun q hq => (heap_put' (by have := (hj.rg.own q hq).1; omega)).trans (hT q hq)⟩
                case walk =>
                  clear hrec hread
                  gi_wp2
                  refine ⟨hj.rg.loop, ?_⟩
                  have hk1 := hj.put (rec .busy none)
                  have HT : Hid (∀ q, T q → (W.putObj (w4.heap.size + 1) (rec .busy none)).heap[q]? = W.heap[q]?) := Lib.hid (fun q hq => heap_put' (by have := (hj.rg.own q hq).1; omega))
                  clear hj
                  change Code.wpIn _ _ _ _ _ _ (W.putObj (w4.heap.size + 1) (rec .busy none))
                  generalize W.putObj (w4.heap.size + 1) (rec .busy none) = W1 at *
                  obtain ⟨ss', q1, q2, q3⟩ := hk1.out
                  have hx' : (edB p fs k)[o]? = some j := by rw [HEd.out]; exact hx
                  obtain ⟨fk, hfk⟩ : ∃ x, fs[k]? = some x := ⟨fs[k]'(by rw [HF.out.1]; exact hlt), List.getElem?_eq_getElem _⟩
                  obtain ⟨⟨sA, sn, sc⟩, hsk⟩ : ∃ s, ss'[k]? = some s := ⟨ss'[k]'(by rw [q1.sl]; exact hlt), List.getElem?_eq_getElem _⟩
                  obtain ⟨lk, hlk, hrk⟩ := q1.at_ k _ hsk
                  obtain rfl : lk = ((edB p fs k).take o).map (numN L) := by rw [nxO_at (by rw [q1.fl]; exact hlt)] at hlk; exact (Option.some.inj hlk).symm
                  have hsn : sn ≤ 256 := by
                    have h1 := hrk.1
                    rw [List.length_map, List.length_map, List.length_take] at h1
                    have h2 := edF_len p hi_
                    rw [← HEd.out] at h2
                    simp only at h1
                    omega
                  have hgf : foot (some ⟨gb, ob, none⟩) cb gb := ⟨by have := q1.room.2.1; omega, ob, rfl⟩
                  have hsf : ∀ q, foot sA sc q → foots ss' q := fun q hq => ⟨_, List.mem_of_getElem? hsk, hq⟩
                  obtain ⟨-, hcg, hfg⟩ := q1.get hfk hsk
                  rw [← Nat.add_assoc] at hcg hfg
                  have hgl := q1.lt (.inl hgf)
                  have kn : ∀ q, KpQ A1 n b9 b10 q → ¬ (foot (some ⟨gb, ob, none⟩) cb q ∨ foots ss q) := fun q hq hf => hf.elim (HNF.out q hq) (HD.out.2.1 q hq)
                  have hkp := HQ.out.2.1.chg hk1.rg.chg kn
                  have hbi := hk1.rg.blk HQ.out.2.2.2.2.1 HQ.out.2.2.2.2.2
                  have hltk : ∀ q, KpQ A1 n b9 b10 q → q < w4.heap.size := fun q hq => HQ.out.2.1.lt hq
                  have hlti := HQ.out.2.2.2.2.1.lt
                  have n3 : ∀ q, (foot (some ⟨gb, ob, none⟩) cb q ∨ foots ss' q) → ¬ KpQ A1 n b9 b10 q := fun q hq hk => by
                    rcases q2 q hq with ⟨h1, _⟩ | h1
                    · exact kn q hk h1
                    · have := hltk q hk; omega
                  have ni : ∀ q, (foot (some ⟨gb, ob, none⟩) cb q ∨ foots ss' q) → q ≠ bi := fun q hq e => by
                    subst e
                    rcases q2 q hq with ⟨h1, _⟩ | h1
                    · exact HQ.out.2.2.2.2.2 h1
                    · omega
                  obtain ⟨g1, o1, hA1, _⟩ := hkp.rn.some_ (by omega)
                  subst hA1
                  obtain ⟨Nj, hNj⟩ : ∃ x, x = numN L j := ⟨_, rfl⟩
                  have hg1 : KpQ (some ⟨g1, o1, none⟩) n b9 b10 g1 := .inr (.inr ⟨by omega, o1, rfl⟩)
                  have hcn := hkp.rn.cellAt (k := j) (u := intv Nj) (by rw [List.getElem?_map, numL_get hjn, if_pos hjn, hNj]; rfl)
                  unfold intv at hcn
                  have hg1l := hkp.lt hg1
                  have hS : ∀ W', Ext W1 W' → (W'.cell? ⟨b9, 0, none⟩ = some (.slice (some ⟨gb, ob, none⟩) m cb) ∧ W'.cell? ⟨b10, 0, none⟩ = some (.slice (some ⟨g1, o1, none⟩) n n) ∧ W'.cell? ⟨bi, 0, none⟩ = some (.int .i64 (k : Int)) ∧ W'.cell? ⟨g1, o1 + j, none⟩ = some (.int .i64 (Nj : Int))) ∧ W'.cell? ⟨gb, ob + k * 3 + 2, none⟩ = some (.slice sA sn sc) := fun W' e =>
                    ⟨⟨(hkp.k9.ext e).cell0, (hkp.k10.ext e).cell0, (hbi.ext e).cell0, (e.cell (p := ⟨g1, o1 + j, none⟩) hg1l).trans hcn⟩, (e.cell (p := ⟨gb, ob + k * 3 + 2, none⟩) hgl).trans hcg⟩
                  have hS9 : ∀ X w9, Ext W1 X → Chg (foot sA sc) X w9 → ((w9.cell? ⟨b9, 0, none⟩ = some (.slice (some ⟨gb, ob, none⟩) m cb) ∧ w9.cell? ⟨b10, 0, none⟩ = some (.slice (some ⟨g1, o1, none⟩) n n) ∧ w9.cell? ⟨bi, 0, none⟩ = some (.int .i64 (k : Int)) ∧ w9.cell? ⟨g1, o1 + j, none⟩ = some (.int .i64 (Nj : Int))) ∧ w9.cell? ⟨gb, ob + k * 3 + 2, none⟩ = some (.slice sA sn sc)) ∧ w9.frozen? ⟨gb, ob + k * 3 + 2, none⟩ = false := fun X w9 e ch => by
                    obtain ⟨⟨h1, h2, h3, h4⟩, h5⟩ := hS X e
                    have hz := e.size
                    have l9 := hkp.k9.lt
                    have l10 := hkp.k10.lt
                    have li := hbi.lt
                    have ck : ∀ q, KpQ (some ⟨g1, o1, none⟩) n b9 b10 q → ¬ foot sA sc q := fun q hq hf => n3 q (.inr (hsf _ hf)) hq
                    have ci : ¬ foot sA sc bi := fun hf => ni _ (.inr (hsf _ hf)) rfl
                    have cg : ¬ foot sA sc gb := fun hf => q1.outer gb (hsf _ hf) hgf
                    exact ⟨⟨⟨(ch.cell (p := ⟨b9, 0, none⟩) (by show b9 < _; omega) (ck _ (.inl rfl))).trans h1, (ch.cell (p := ⟨b10, 0, none⟩) (by show b10 < _; omega) (ck _ (.inr (.inl rfl)))).trans h2, (ch.cell (p := ⟨bi, 0, none⟩) (by show bi < _; omega) ci).trans h3, (ch.cell (p := ⟨g1, o1 + j, none⟩) (by show g1 < _; omega) (ck _ hg1)).trans h4⟩, (ch.cell (p := ⟨gb, ob + k * 3 + 2, none⟩) (by show gb < _; omega) cg).trans h5⟩,
                      (ch.frozen (p := ⟨gb, ob + k * 3 + 2, none⟩) (by show gb < _; omega) cg).trans ((e.frozen (p := ⟨gb, ob + k * 3 + 2, none⟩) hgl).trans hfg)⟩
                  have HS9 := Lib.hid hS9
                  have HS0 := Lib.hid (hS W1.drew (Ext.drew _))
                  have Hne := Lib.hid (show b9 ≠ gb ∧ b10 ≠ gb ∧ bi ≠ gb ∧ g1 ≠ gb from ⟨fun e => n3 gb (.inl hgf) (.inl e.symm), fun e => n3 gb (.inl hgf) (.inr (.inl e.symm)), fun e => ni gb (.inl hgf) e.symm, fun e => n3 gb (.inl hgf) (by rw [← e]; exact hg1)⟩)
                  have HRj := Lib.hid (hrk.ext (Ext.drew W1))
                  have HG := Lib.hid (fun X w9 A9 c9 (e : Ext W1 X) (r : RoomS 1 w9 A9 (sn + 1) c9 ((((edB p fs k).take o).map (numN L)).map intv ++ intC Nj)) (ch : Chg (foot sA sc) X w9) ft => hk1.grow (X := X) (w9 := w9) (A9 := A9) (c9 := c9) q1 q2 q3 HQ.out.2.2.2.1.size hx' hlt hsk e (by rw [← hNj]; exact r) ch ft)
                  have hjI : (j : Int) < (n : Int) := by omega
                  obtain ⟨Lk, hLk⟩ : ∃ l, l = ((edB p fs k).take o).map (numN L) := ⟨_, rfl⟩
                  rw [← hLk] at HRj HG
                  clear hS9 hS hrk hcg hfg hk1 q1 q2 q3 hkp hbi hltk hlti n3 ni hsk hlk hsf hx hx' kn hNj hg1 hg1l hcn hgl hfk hLk
                  gi_wp2
                  refine wpIn_region_plainH (fun W' => W'.cell? ⟨b9, 0, none⟩ = some (.slice (some ⟨gb, ob, none⟩) m cb) ∧ W'.cell? ⟨b10, 0, none⟩ = some (.slice (some ⟨g1, o1, none⟩) n n) ∧ W'.cell? ⟨bi, 0, none⟩ = some (.int .i64 (k : Int)) ∧ W'.cell? ⟨g1, o1 + j, none⟩ = some (.int .i64 (Nj : Int))) (by kernel_rfl) (fun _ => trivial) (by rintro ⟨_, _, h⟩; exact h) (by kernel_rfl) ?_
                  have HSt := Lib.hid HS0.out.1
                  refine take_heldS (i := 0) (j := 101) (v := .slice (some ⟨gb, ob, none⟩) m cb) rfl rfl (by as_aux_lemma => kernel_rfl) (by as_aux_lemma => kernel_rfl) (by as_aux_lemma => kernel_rfl) (fun _ _ _ h => h) (Or.inl ⟨by rfl, fun w' hw' => by obtain ⟨q0, q1, q2, q3⟩ := hw'; go_simp; try rfl⟩) HSt.out ?_
                  simp only [Act.put, List.setIfInBounds_toArray, List.set_cons_zero, List.set_cons_succ]
                  refine take_heldS (i := 1) (j := 102) (v := .int .i64 (k : Int)) rfl rfl (by as_aux_lemma => kernel_rfl) (by as_aux_lemma => kernel_rfl) (by as_aux_lemma => kernel_rfl) (fun _ _ _ h => h) (Or.inl ⟨by rfl, fun w' hw' => by obtain ⟨q0, q1, q2, q3⟩ := hw'; go_simp; try rfl⟩) HSt.out ?_
                  simp only [Act.put, List.setIfInBounds_toArray, List.set_cons_zero, List.set_cons_succ]
                  refine take_heldS (i := 2) (j := 103) (v := .slice (some ⟨gb, ob, none⟩) m cb) rfl rfl (by as_aux_lemma => kernel_rfl) (by as_aux_lemma => kernel_rfl) (by as_aux_lemma => kernel_rfl) (fun _ _ _ h => h) (Or.inl ⟨by rfl, fun w' hw' => by obtain ⟨q0, q1, q2, q3⟩ := hw'; go_simp; try rfl⟩) HSt.out ?_
                  simp only [Act.put, List.setIfInBounds_toArray, List.set_cons_zero, List.set_cons_succ]
                  refine take_heldS (i := 3) (j := 104) (v := .int .i64 (k : Int)) rfl rfl (by as_aux_lemma => kernel_rfl) (by as_aux_lemma => kernel_rfl) (by as_aux_lemma => kernel_rfl) (fun _ _ _ h => h) (Or.inl ⟨by rfl, fun w' hw' => by obtain ⟨q0, q1, q2, q3⟩ := hw'; go_simp; try rfl⟩) HSt.out ?_
                  simp only [Act.put, List.setIfInBounds_toArray, List.set_cons_zero, List.set_cons_succ]
                  refine take_heldS (i := 4) (j := 105) (v := .pointer (some ⟨gb, ob + k * 3, none⟩)) rfl rfl (by as_aux_lemma => kernel_rfl) (by as_aux_lemma => kernel_rfl) (by as_aux_lemma => kernel_rfl) (fun _ _ _ h => h) (Or.inl ⟨by rfl, fun w' hw' => by obtain ⟨q0, q1, q2, q3⟩ := hw'; go_simp; try rfl⟩) HSt.out ?_
                  simp only [Act.put, List.setIfInBounds_toArray, List.set_cons_zero, List.set_cons_succ]
                  refine take_heldS (i := 5) (j := 106) (v := .pointer (some ⟨gb, ob + k * 3 + 2, none⟩)) rfl rfl (by as_aux_lemma => kernel_rfl) (by as_aux_lemma => kernel_rfl) (by as_aux_lemma => kernel_rfl) (fun _ _ _ h => h) (Or.inl ⟨by rfl, fun w' hw' => by obtain ⟨q0, q1, q2, q3⟩ := hw'; go_simp; try rfl⟩) HSt.out ?_
                  simp only [Act.put, List.setIfInBounds_toArray, List.set_cons_zero, List.set_cons_succ]
                  refine take_heldS (i := 7) (j := 108) (v := .slice (some ⟨g1, o1, none⟩) n n) rfl rfl (by as_aux_lemma => kernel_rfl) (by as_aux_lemma => kernel_rfl) (by as_aux_lemma => kernel_rfl) (fun _ _ _ h => h) (Or.inl ⟨by rfl, fun w' hw' => by obtain ⟨q0, q1, q2, q3⟩ := hw'; go_simp; try rfl⟩) HSt.out ?_
                  simp only [Act.put, List.setIfInBounds_toArray, List.set_cons_zero, List.set_cons_succ]
                  refine take_heldS (i := 8) (j := 109) (v := .int .i64 (j : Int)) rfl rfl (by as_aux_lemma => kernel_rfl) (by as_aux_lemma => kernel_rfl) (by as_aux_lemma => kernel_rfl) (fun _ _ _ h => h) (Or.inl ⟨by rfl, fun w' hw' => by obtain ⟨q0, q1, q2, q3⟩ := hw'; go_simp; try rfl⟩) HSt.out ?_
                  simp only [Act.put, List.setIfInBounds_toArray, List.set_cons_zero, List.set_cons_succ]
                  refine take_heldS (i := 9) (j := 110) (v := .pointer (some ⟨g1, o1 + j, none⟩)) rfl rfl (by as_aux_lemma => kernel_rfl) (by as_aux_lemma => kernel_rfl) (by as_aux_lemma => kernel_rfl) (fun _ _ _ h => h) (Or.inl ⟨by rfl, fun w' hw' => by obtain ⟨q0, q1, q2, q3⟩ := hw'; go_simp; try rfl⟩) HSt.out ?_
                  simp only [Act.put, List.setIfInBounds_toArray, List.set_cons_zero, List.set_cons_succ]
                  refine take_heldS (i := 10) (j := 111) (v := .int .i64 (Nj : Int)) rfl rfl (by as_aux_lemma => kernel_rfl) (by as_aux_lemma => kernel_rfl) (by as_aux_lemma => kernel_rfl) (fun _ _ _ h => h) (Or.inl ⟨by rfl, fun w' hw' => by obtain ⟨q0, q1, q2, q3⟩ := hw'; go_simp; try rfl⟩) HSt.out ?_
                  simp only [Act.put, List.setIfInBounds_toArray, List.set_cons_zero, List.set_cons_succ]
                  refine wpAnyH_ready (rs := [6, 11]) (by kernel_rfl) (by simp) (AllReadyH.cons rfl (fun K hK => ?_) (AllReadyH.cons rfl (fun K hK => ?_) AllReadyH.nil))
                  · have q4 := HS0.out.2
                    go_simp
                    refine hK.out _ _ HSt.out (fun hS2 => ?_)
                    clear hK K q4 hS2
                    refine wpAnyH_ready (rs := [11]) (by kernel_rfl) (by simp) (AllReadyH.cons rfl (fun K hK => ?_) AllReadyH.nil)
                    go_simp
                    refine hK.out _ _ (HS9.out _ _ ((Ext.drew W1).t (Ext.alloc _ _)) (Chg.refl _ _)).1.1 (fun hS2 => ?_)
                    clear hK K hS2
                    refine wpAnyH_ready (rs := [12]) (by kernel_rfl) (by simp) (AllReadyH.cons rfl (fun K hK => ?_) AllReadyH.nil)
                    refine step_append_atS rfl rfl ul_in info_in rfl rfl ((HRj.out.ext (Ext.alloc _ _)).roomS) rfl (Src.ofRdS ul_in intC_len (rdS_one intC_len _ _ Nj rfl) intC_one) (by simp only [maxLen]; omega) (by omega) ?_
                    intro A9 c9 w9 r9 ch9 ft9
                    obtain ⟨hS9, hF9⟩ := HS9.out _ w9 ((Ext.drew W1).t (Ext.alloc _ _)) ch9
                    have HGr := Lib.hid (HG.out _ w9 A9 c9 ((Ext.drew W1).t (Ext.alloc _ _)) (by simpa using r9) ch9 ft9)
                    refine hK.out _ _ hS9.1 (fun hS2 => ?_)
                    clear hK K r9 ch9 ft9 HG hS2
                    simp only [Act.put, List.setIfInBounds_toArray]
                    have hr : ob + (k * 3 + 2) = ob + k * 3 + 2 := by omega
                    rw [hr] at HGr
                    clear hr
                    have HSl : Hid ((w9.setCell ⟨gb, ob + k * 3 + 2, none⟩ (.slice A9 (sn + 1) c9)).cell? ⟨b9, 0, none⟩ = some (.slice (some ⟨gb, ob, none⟩) m cb) ∧ (w9.setCell ⟨gb, ob + k * 3 + 2, none⟩ (.slice A9 (sn + 1) c9)).cell? ⟨b10, 0, none⟩ = some (.slice (some ⟨g1, o1, none⟩) n n) ∧ (w9.setCell ⟨gb, ob + k * 3 + 2, none⟩ (.slice A9 (sn + 1) c9)).cell? ⟨bi, 0, none⟩ = some (.int .i64 (k : Int)) ∧ (w9.setCell ⟨gb, ob + k * 3 + 2, none⟩ (.slice A9 (sn + 1) c9)).cell? ⟨g1, o1 + j, none⟩ = some (.int .i64 (Nj : Int))) := Lib.hid ⟨(World.cell?_setCell_other _ _ _ _ (by first | (simp; done) | (simp; intro e; exact absurd e.symm Hne.out.1) | (intro e; simp at e; first | exact absurd e.1.symm Hne.out.1 | exact absurd e.symm Hne.out.1))).trans hS9.1.1, (World.cell?_setCell_other _ _ _ _ (by first | (simp; done) | (simp; intro e; exact absurd e.symm Hne.out.2.1) | (intro e; simp at e; first | exact absurd e.1.symm Hne.out.2.1 | exact absurd e.symm Hne.out.2.1))).trans hS9.1.2.1, (World.cell?_setCell_other _ _ _ _ (by first | (simp; done) | (simp; intro e; exact absurd e.symm Hne.out.2.2.1) | (intro e; simp at e; first | exact absurd e.1.symm Hne.out.2.2.1 | exact absurd e.symm Hne.out.2.2.1))).trans hS9.1.2.2.1, (World.cell?_setCell_other _ _ _ _ (by first | (simp; done) | (simp; intro e; exact absurd e.symm Hne.out.2.2.2) | (intro e; simp at e; first | exact absurd e.1.symm Hne.out.2.2.2 | exact absurd e.symm Hne.out.2.2.2))).trans hS9.1.2.2.2⟩
                    refine take_heldS (i := 13) (j := 114) (v := .pointer (some ⟨gb, ob + k * 3, none⟩)) rfl rfl (by as_aux_lemma => kernel_rfl) (by as_aux_lemma => kernel_rfl) (by as_aux_lemma => kernel_rfl) (fun _ _ _ h => h) (Or.inl ⟨by rfl, fun w' hw' => by obtain ⟨q0, q1, q2, q3⟩ := hw'; go_simp; try rfl⟩) hS9.1 ?_
                    simp only [Act.put]
                    refine take_heldS (i := 14) (j := 115) (v := .pointer (some ⟨gb, ob + k * 3 + 2, none⟩)) rfl rfl (by as_aux_lemma => kernel_rfl) (by as_aux_lemma => kernel_rfl) (by as_aux_lemma => kernel_rfl) (fun _ _ _ h => h) (Or.inl ⟨by rfl, fun w' hw' => by obtain ⟨q0, q1, q2, q3⟩ := hw'; go_simp; try rfl⟩) hS9.1 ?_
                    simp only [Act.put]
                    obtain ⟨-, h9c⟩ := hS9
                    refine wpAnyH_ready (rs := [15]) (by kernel_rfl) (by simp) (AllReadyH.cons rfl (fun K hK => ?_) AllReadyH.nil)
                    go_simp
                    refine hK.out _ _ HSl.out (fun hS2 => ?_)
                    refine wpAnyH_done (by kernel_rfl) ?_ _
                    exact ⟨HGr.out.1.rg.loop, rfl, HGr.out.1, fun q hq => (HGr.out.2 q hq).trans (HT.out q hq)⟩
                  · go_simp
                    refine hK.out _ _ (HS9.out _ _ ((Ext.drew W1).t (Ext.alloc _ _)) (Chg.refl _ _)).1.1 (fun hS2 => ?_)
                    clear hK K hS2
                    refine wpAnyH_ready (rs := [6]) (by kernel_rfl) (by simp) (AllReadyH.cons rfl (fun K hK => ?_) AllReadyH.nil)
                    have q5 := (HS9.out _ _ ((Ext.drew W1).t (Ext.alloc _ (.cells #[.int .i64 (Nj : Int)] 3))) (Chg.refl _ _)).1
                    have q6 : W1.cell? ⟨gb, ob + k * 3 + 2, none⟩ = some (.slice sA sn sc) := HS0.out.2
                    have q7 : (W1.alloc (.cells #[.int .i64 (Nj : Int)] 3)).cell? ⟨gb, ob + k * 3 + 2, none⟩ = some (.slice sA sn sc) := (HS9.out _ _ (Ext.alloc W1 _) (Chg.refl _ _)).1.2
                    obtain ⟨q5a, q4⟩ := q5
                    go_simp
                    refine hK.out _ _ q5a (fun hS2 => ?_)
                    clear hK K q4 q5a q6 q7 hS2
                    refine wpAnyH_ready (rs := [12]) (by kernel_rfl) (by simp) (AllReadyH.cons rfl (fun K hK => ?_) AllReadyH.nil)
                    refine step_append_atS rfl rfl ul_in info_in rfl rfl ((HRj.out.ext (Ext.alloc _ _)).roomS) rfl (Src.ofRdS ul_in intC_len (rdS_one intC_len _ _ Nj rfl) intC_one) (by simp only [maxLen]; omega) (by omega) ?_
                    intro A9 c9 w9 r9 ch9 ft9
                    obtain ⟨hS9, hF9⟩ := HS9.out _ w9 ((Ext.drew W1).t (Ext.alloc _ _)) ch9
                    have HGr := Lib.hid (HG.out _ w9 A9 c9 ((Ext.drew W1).t (Ext.alloc _ _)) (by simpa using r9) ch9 ft9)
                    refine hK.out _ _ hS9.1 (fun hS2 => ?_)
                    clear hK K r9 ch9 ft9 HG hS2
                    simp only [Act.put, List.setIfInBounds_toArray]
                    have hr : ob + (k * 3 + 2) = ob + k * 3 + 2 := by omega
                    rw [hr] at HGr
                    clear hr
                    have HSl : Hid ((w9.setCell ⟨gb, ob + k * 3 + 2, none⟩ (.slice A9 (sn + 1) c9)).cell? ⟨b9, 0, none⟩ = some (.slice (some ⟨gb, ob, none⟩) m cb) ∧ (w9.setCell ⟨gb, ob + k * 3 + 2, none⟩ (.slice A9 (sn + 1) c9)).cell? ⟨b10, 0, none⟩ = some (.slice (some ⟨g1, o1, none⟩) n n) ∧ (w9.setCell ⟨gb, ob + k * 3 + 2, none⟩ (.slice A9 (sn + 1) c9)).cell? ⟨bi, 0, none⟩ = some (.int .i64 (k : Int)) ∧ (w9.setCell ⟨gb, ob + k * 3 + 2, none⟩ (.slice A9 (sn + 1) c9)).cell? ⟨g1, o1 + j, none⟩ = some (.int .i64 (Nj : Int))) := Lib.hid ⟨(World.cell?_setCell_other _ _ _ _ (by first | (simp; done) | (simp; intro e; exact absurd e.symm Hne.out.1) | (intro e; simp at e; first | exact absurd e.1.symm Hne.out.1 | exact absurd e.symm Hne.out.1))).trans hS9.1.1, (World.cell?_setCell_other _ _ _ _ (by first | (simp; done) | (simp; intro e; exact absurd e.symm Hne.out.2.1) | (intro e; simp at e; first | exact absurd e.1.symm Hne.out.2.1 | exact absurd e.symm Hne.out.2.1))).trans hS9.1.2.1, (World.cell?_setCell_other _ _ _ _ (by first | (simp; done) | (simp; intro e; exact absurd e.symm Hne.out.2.2.1) | (intro e; simp at e; first | exact absurd e.1.symm Hne.out.2.2.1 | exact absurd e.symm Hne.out.2.2.1))).trans hS9.1.2.2.1, (World.cell?_setCell_other _ _ _ _ (by first | (simp; done) | (simp; intro e; exact absurd e.symm Hne.out.2.2.2) | (intro e; simp at e; first | exact absurd e.1.symm Hne.out.2.2.2 | exact absurd e.symm Hne.out.2.2.2))).trans hS9.1.2.2.2⟩
                    refine take_heldS (i := 13) (j := 114) (v := .pointer (some ⟨gb, ob + k * 3, none⟩)) rfl rfl (by as_aux_lemma => kernel_rfl) (by as_aux_lemma => kernel_rfl) (by as_aux_lemma => kernel_rfl) (fun _ _ _ h => h) (Or.inl ⟨by rfl, fun w' hw' => by obtain ⟨q0, q1, q2, q3⟩ := hw'; go_simp; try rfl⟩) hS9.1 ?_
                    simp only [Act.put]
                    refine take_heldS (i := 14) (j := 115) (v := .pointer (some ⟨gb, ob + k * 3 + 2, none⟩)) rfl rfl (by as_aux_lemma => kernel_rfl) (by as_aux_lemma => kernel_rfl) (by as_aux_lemma => kernel_rfl) (fun _ _ _ h => h) (Or.inl ⟨by rfl, fun w' hw' => by obtain ⟨q0, q1, q2, q3⟩ := hw'; go_simp; try rfl⟩) hS9.1 ?_
                    simp only [Act.put]
                    obtain ⟨-, h9c⟩ := hS9
                    refine wpAnyH_ready (rs := [15]) (by kernel_rfl) (by simp) (AllReadyH.cons rfl (fun K hK => ?_) AllReadyH.nil)
                    go_simp
                    refine hK.out _ _ HSl.out (fun hS2 => ?_)
                    refine wpAnyH_done (by kernel_rfl) ?_ _
                    exact ⟨HGr.out.1.rg.loop, rfl, HGr.out.1, fun q hq => (HGr.out.2 q hq).trans (HT.out q hq)⟩
              case post =>
                clear hrec hread
                rintro e W2 ⟨⟨v, rfl⟩, ⟨T, hj⟩ | hx⟩
                · refine ⟨⟨_, rfl⟩, .ready, none, by simp, hj.rg.loop, ?_⟩
                  have hj2 := hj.put (rec .exhausted none)
                  clear hj
                  generalize W2.putObj (w4.heap.size + 1) (rec .exhausted none) = W3 at *
                  obtain ⟨ss', q1, q2, q3⟩ := hj2.out
                  rw [← HEd.out, nxO_all] at q1
                  have hD0 : ∀ D, D < w4.heap.size → ¬ (foot (some ⟨gb, ob, none⟩) cb D ∨ foots ss D) → ¬ (foot (some ⟨gb, ob, none⟩) cb D ∨ foots ss' D) := fun D hlt hn hf => (q2 D hf).elim (fun h => hn h.1) (fun h => by omega)
                  have kn : ∀ q, KpQ A1 n b9 b10 q → ¬ (foot (some ⟨gb, ob, none⟩) cb q ∨ foots ss q) := fun q hq hf => hf.elim (HNF.out q hq) (HD.out.2.1 q hq)
                  have hDl : ∀ D ∈ Ds, D < w4.heap.size := HQ.out.2.2.1.lt
                  have hCd : Cds w.heap.size W3 (w4.heap.size :: Ds) := (HQ.out.2.2.1.chg hj2.rg.chg (fun D hD hf => HD.out.2.2 D hD (hf.elim .inl (fun h => .inr (.inl h))))).cons hj2.rg.defd HQ.out.2.2.2.1.size (fun hm => by have := hDl _ hm; omega)
                  have HN : Hid (({ target := .collected w4.heap.size, args := #[] } : Deferred) :: ds = (w4.heap.size :: Ds).map collD ∧ Lsb w.heap.size W3 (some ⟨gb, ob, none⟩) m cb fs ss' (nxO p (numN L) fs (k + 1) 0) ∧ KpM (some ⟨gb, ob, none⟩) m cb A1 n b9 b10 (numL L n n) W3 ∧ (∀ q, KpQ A1 n b9 b10 q → ¬ foots ss' q) ∧ Cds w.heap.size W3 (w4.heap.size :: Ds) ∧ (∀ D ∈ w4.heap.size :: Ds, ¬ (foot (some ⟨gb, ob, none⟩) cb D ∨ foots ss' D ∨ KpQ A1 n b9 b10 D)) ∧ Ext w W3) := Lib.hid ⟨by rw [HD.out.1]; rfl, q1, HQ.out.2.1.chg hj2.rg.chg (fun q hq hf => kn q hq hf), fun q hq hf => hD0 q (HQ.out.2.1.lt hq) (kn q hq) (.inr hf), hCd, fun D hD => by
                    rcases List.mem_cons.1 hD with rfl | hD
                    · rintro (hf | hf | hf)
                      · exact (q2 _ (.inl hf)).elim (fun h => by omega) (fun h => by omega)
                      · exact (q2 _ (.inr hf)).elim (fun h => by omega) (fun h => by omega)
                      · have := HQ.out.2.1.lt hf; omega
                    · have h1 := HD.out.2.2 D hD
                      have h2 := hD0 D (hDl D hD) (fun h => h1 (h.elim .inl (fun h => .inr (.inl h))))
                      rintro (hf | hf | hf)
                      · exact h2 (.inl hf)
                      · exact h2 (.inr hf)
                      · exact h1 (.inr (.inr hf)), HQ.out.2.2.2.1.trans (hj2.rg.chg.below HQ.out.2.2.2.1.size (fun q hq hf => by have := HQ.out.1.new q hf; omega))⟩
                  clear hj2 q1 q2 q3 hD0 hDl hCd kn
                  go_wp2_with fail
                  go_roundg (m - (k + 1))
                  case rel => exact ⟨k + 1, ss', w4.heap.size :: Ds, by omega, by go_num, by omega, HN⟩
                  case measure => omega
                · exact hx.elim
            · obtain rfl : m = k := by omega
              have hltI : ¬ ((m : Int) < (m : Int)) := by omega
              have hc9 := HJ.out.2.2.1.k9.cell0
              go_wp2_with fail
              try rw [Exit.noGoto_ret]
              refine leaveN (B := w.heap.size) (Ds := Ds) HJ.out.1 HJ.out.2.2.2.2.1 (fun w' ch => ⟨.tuple #[.slice Ab m cb, .int .i64 0], by simp [results, Try.results26, go_sem], Ab, m, cb, ss, rfl, by rw [← HL.out.1, ← HFS.out]; exact HF.out.1.symm, ?_, HJ.out.2.2.2.2.2.2.trans (ch.below HJ.out.2.2.2.2.2.2.size (fun q hq hD => by have := HJ.out.2.2.2.2.1.lo q hD; omega))⟩)
              rw [← HL.out.1, ← HFS.out, ← nxO_end, HF.out.1]
              exact HJ.out.2.1.chg ch (fun q hq hD => HJ.out.2.2.2.2.2.1 q hD (hq.elim .inl (fun h => .inr (.inl h))))
end Go.Proofs.Ytlneifgihdickaa
