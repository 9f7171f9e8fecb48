/- Mpt: parts: Sorted, Same, Runs, Sort, Cut, Without, Deal against the reference. -/
import Derived.Test.YtkeapijehfacfaaRft
import Derived.Test.YtkeapijehfacfaaMts
import Derived.Test.YtkeapijehfacfaaMin
namespace Go.Fx
open Go.RowKit
theorem RoomS.sep {s n c B : Nat} {w w' : World} {A : Option Addr} {xs : List Value} {T : Nat → Prop} (h : RoomS s w A n c xs) (ch : Chg T w w') (hn : ∀ k, foot A c k → B ≤ k) (ho : ∀ k, T k → k < B) : RoomS s w' A n c xs :=
  h.chg ch (fun k hk ht => by have := hn k hk; have := ho k ht; omega)
theorem Lse.sep {B B' n c : Nat} {w w' : World} {A : Option Addr} {ss : List Sl} {ls : List (List Ev)} {T : Nat → Prop} (h : Lse B w A n c ss ls) (ch : Chg T w w') (hB : B' ≤ B) (ho : ∀ k, T k → k < B') : Lse B w' A n c ss ls :=
  h.chg ch (fun k hk ht => by have := h.new k hk; have := ho k ht; omega)
theorem Rd.from2 {α : Type} {f : α → Value} {w : World} {A : Option Addr} {n c k : Nat} {xs : List α} (h : Rd f w A n xs) (hk : k ≤ n) (hc : n ≤ c) : Rd f w (fromS 1 A c k) (n - k) (xs.drop k) := by
  refine ⟨by rw [List.length_drop, h.1], fun hn => ?_⟩
  obtain ⟨b, o, rfl, hb, hr⟩ := h.2 (by omega)
  refine ⟨b, o + k, ?_, hb, fun i x hx => ?_⟩
  · unfold fromS
    rw [if_neg (by omega)]
    simp [Addr.add_lit]
  · rw [List.getElem?_drop] at hx
    have := hr _ x hx
    rwa [Nat.add_assoc]
theorem blk_rd2 {w : World} {g : Nat} {t : TypeId} {s1 s2 : Sl} (hb : Blk w g t #[slv s1, slv s2]) : Rd slv w (some ⟨g, 0, none⟩) 2 [s1, s2] :=
  ⟨rfl, fun _ => ⟨g, 0, rfl, hb.lt, fun i x hx => by
    match i, hx with
    | 0, hx => cases hx; rw [hb.cell]; rfl
    | 1, hx => cases hx; rw [hb.cell]; rfl
    | i + 2, hx => simp at hx⟩⟩
theorem mem_drop_le {α : Type} {l : List α} {k : Nat} {x : α} (h : x ∈ l.drop k) : x ∈ l := List.mem_of_mem_drop h
end Go.Fx
namespace Go.Proofs.Ytkeapijehfacfaa
open Go.RowKit Go.Fx
/-- spoil(l, m), two lists. -/
theorem spoil2 {g n c n' c' : Nat} {A A' : Option Addr} {L L' : List Value} {t : TypeId} {w : World} (hb : Blk w g t #[.slice A n c, .slice A' n' c']) (hr : RoomS 5 w A n c L) (hr' : RoomS 5 w A' n' c' L') (ha : ∀ k, foot A c k → ¬ foot A' c' k) (hg : ¬ foot A c g) (hg' : ¬ foot A' c' g) (hn : n ≤ 1000000) (hn' : n' ≤ 1000000) :
    Calls Try.prog 50 #[.slice (some ⟨g, 0, none⟩) 2 2] w fun e w' => e = .returned (.tuple #[]) ∧ Chg (fun k => foot A c k ∨ foot A' c' k) w w' := by
  have hf : ∀ k, foots [(⟨A, n, c⟩ : Sl), ⟨A', n', c'⟩] k → foot A c k ∨ foot A' c' k := by
    rintro k ⟨s, hs, hk⟩
    simp at hs
    rcases hs with rfl | rfl
    · exact .inl hk
    · exact .inr hk
  refine (spoil_ (some ⟨g, 0, none⟩) 2 2 [⟨A, n, c⟩, ⟨A', n', c'⟩] w (blk_rd2 hb) (Wrt.two (s := ⟨A, n, c⟩) (t := ⟨A', n', c'⟩) hr hr' ha) (fun k o h1 h2 h3 => ?_) (by omega) (fun s hs => ?_)).mono ?_
  · cases h1
    exact (hf _ h3).elim hg hg'
  · simp at hs
    rcases hs with rfl | rfl
    · show n ≤ _; omega
    · show n' ≤ _; omega
  · rintro e w' ⟨rfl, h⟩
    exact ⟨rfl, h.mono (fun k _ hk => hf k hk)⟩
set_option maxRecDepth 100000 in
set_option maxHeartbeats 8000000 in
theorem parts_ (Aa Ab : Option Addr) (na ca nb cb : Nat) (la lb : List Ev) (t m : Int) (w : World) (ha : RdS 5 evC w Aa na la) (hb : RdS 5 evC w Ab nb lb) (hok : ∀ x ∈ la, EvOk x) (hna : na ≤ 1000) (hnb : nb ≤ 1000) :
    Calls Try.prog 29 #[.slice Aa na ca, .slice Ab nb cb, .int .i64 t, .int .i64 m] w fun e w' => e = .returned (.bool true) ∧ Ext w w' := by
  have Ha := Lib.hid ha
  have Hb := Lib.hid hb
  have Hok := Lib.hid hok
  have Hla := Lib.hid ha.1
  have Hlb := Lib.hid hb.1
  have H1 := Lib.hid (cloneE Aa na ca evC_len evC_one la w ha (by omega))
  have H2 := Lib.hid (fun w' (e : Ext w w') => cloneE Ab nb cb evC_len evC_one lb w' (hb.ext e) (by omega))
  have HsL := Lib.hid (show (sortF la).1.length ≤ 1000 by have := sortF_len la; have := ha.1; omega)
  have HcL := Lib.hid (show (cutF la t).1.length ≤ 1000 ∧ (cutF la t).2.1.length ≤ 1000 by
    have := ha.1
    unfold cutF
    split
    · simp only [List.length_take, List.length_drop]; omega
    · simp)
  have HwL := Lib.hid (show (woF la lb).1.length ≤ 1000 by
    have := ha.1
    have := leftF_len la lb
    unfold woF
    split
    · simp only; omega
    · simp)
  have HdL := Lib.hid (show (dealF la m).1.length ≤ 16 ∧ ∀ l ∈ (dealF la m).1, l.length ≤ 1000 by
    have := ha.1
    unfold dealF
    split
    · simp
    · next hm =>
      split
      · simp
      · refine ⟨by rw [dealL_len]; omega, fun l hl => ?_⟩
        have := dealL_le hl
        omega)
  have HrL := Lib.hid (show (runsF la).length ≤ 1000 by have := runsF_le la; have := ha.1; omega)
  clear ha hb hok
  go_enter Try.func29, Try.ntmps29
  go_wp2_with fail
  refine H1.out.mono ?_; rintro e w1 ⟨Ax, cx, rfl, rx, ex, fx⟩
  have RX := Lib.hid rx
  have EX := Lib.hid ex
  have H2 := Lib.hid (H2.out w1 ex)
  clear rx ex fx H1
  go_wp2_with fail
  refine H2.out.mono ?_; rintro e w2 ⟨Ay, cy, rfl, ry, ey, fy⟩
  have RX := Lib.hid (RX.out.ext ey)
  have RY := Lib.hid ry
  have E2 := Lib.hid (EX.out.t ey)
  have HA2 := Lib.hid (Ha.out.ext E2.out)
  have HB2 := Lib.hid (Hb.out.ext E2.out)
  have H3 := Lib.hid (sort_ Ax na cx la w2 ((RX.out).rd evC_len (by decide)) RX.out.2.1 (by omega) Hok.out)
  clear ry ey fy H2 EX Ha Hb
  unfold SortP at H3
  generalize hsv : sortF la = sv at *
  obtain ⟨sl, se⟩ := sv
  go_wp2_with fail
  refine H3.out.mono ?_; rintro e w3 ⟨As, ns, cs, rfl, rs, ls, fs, es⟩
  have RS := Lib.hid rs
  have LS := Lib.hid ls
  have FS := Lib.hid fs
  have E3 := Lib.hid es
  have H4 := Lib.hid (rsort_ Aa na ca la w3 (HA2.out.ext es) (by omega))
  rw [hsv] at H4
  unfold SortP at H4
  clear rs ls fs es H3 hsv
  go_wp2_with fail
  refine H4.out.mono ?_; rintro e w4 ⟨Ar, nr, cr, rfl, rr, lr, fr, er⟩
  have RS := Lib.hid (RS.out.ext er)
  have SLT := Lib.hid (fun k (hk : foot As cs k) => RS.out.lt hk)
  have RR := Lib.hid rr
  have LR := Lib.hid lr
  have E4 := Lib.hid (E3.out.t er)
  have H5 := Lib.hid (cut_ Ax na cx la t w4 ((RX.out.ext E4.out).rd evC_len (by decide)) RX.out.2.1 (by omega))
  unfold CutP at H5
  generalize hcv : cutF la t = cv at *
  obtain ⟨el, ll, ce⟩ := cv
  clear rr lr fr er H4
  go_wp2_with fail
  refine H5.out.mono ?_; rintro e w5 ⟨Ae, ne, cee, Al, nl, cl, rfl, re, rl, le, ll', fe, fl, e5⟩
  have RS := Lib.hid (RS.out.ext e5)
  have RR := Lib.hid (RR.out.ext e5)
  have RE := Lib.hid re
  have RL := Lib.hid rl
  have LE := Lib.hid le
  have LL := Lib.hid ll'
  have FE := Lib.hid fe
  have FL := Lib.hid fl
  have ELT := Lib.hid (fun k (hk : foot Ae cee k) => RE.out.lt hk)
  have LLT := Lib.hid (fun k (hk : foot Al cl k) => RL.out.lt hk)
  have SZ5 := Lib.hid (show w4.heap.size ≤ w5.heap.size from e5.size)
  have E5 := Lib.hid (E4.out.t e5)
  have H6 := Lib.hid (rcut_ Aa na ca la t w5 (HA2.out.ext E5.out) (by omega))
  rw [hcv] at H6
  unfold CutP at H6
  clear re rl le ll' fe fl e5 H5 hcv
  go_wp2_with fail
  refine H6.out.mono ?_; rintro e w6 ⟨Ap, np, cp, Aq, nq, cq, rfl, rp, rq, lp, lq, fp, fq, e6⟩
  have RS := Lib.hid (RS.out.ext e6)
  have RR := Lib.hid (RR.out.ext e6)
  have RE := Lib.hid (RE.out.ext e6)
  have RL := Lib.hid (RL.out.ext e6)
  have RP := Lib.hid rp
  have RQ := Lib.hid rq
  have LP := Lib.hid lp
  have LQ := Lib.hid lq
  have FQ := Lib.hid fq
  have E6 := Lib.hid (E5.out.t e6)
  have SZ6 := Lib.hid (show w5.heap.size ≤ w6.heap.size from e6.size)
  have H7 := Lib.hid (without_ Ax Ay na cx nb cy la lb w6 ((RX.out.ext E6.out).rd evC_len (by decide)) ((RY.out.ext E6.out).rd evC_len (by decide)) (by omega) (by omega) RY.out.2.1)
  unfold SortP at H7
  generalize hwv : woF la lb = wv at *
  obtain ⟨wl, we⟩ := wv
  clear rp rq lp lq fp fq e6 H6
  go_wp2_with fail
  refine H7.out.mono ?_; rintro e w7 ⟨Aw, nw, cw, rfl, rw', lw, fw, e7⟩
  have RS := Lib.hid (RS.out.ext e7)
  have RR := Lib.hid (RR.out.ext e7)
  have RE := Lib.hid (RE.out.ext e7)
  have RL := Lib.hid (RL.out.ext e7)
  have RP := Lib.hid (RP.out.ext e7)
  have RQ := Lib.hid (RQ.out.ext e7)
  have RW := Lib.hid rw'
  have LW := Lib.hid lw
  have FW := Lib.hid fw
  have WLT := Lib.hid (fun k (hk : foot Aw cw k) => RW.out.lt hk)
  have E7 := Lib.hid (E6.out.t e7)
  have SZ7 := Lib.hid (show w6.heap.size ≤ w7.heap.size from e7.size)
  have H8 := Lib.hid (rwithout_ Aa Ab na ca nb cb la lb w7 (HA2.out.ext E7.out) (HB2.out.ext E7.out) (by omega) (by omega))
  rw [hwv] at H8
  unfold SortP at H8
  clear rw' lw fw e7 H7 hwv
  go_wp2_with fail
  refine H8.out.mono ?_; rintro e w8 ⟨Av, nv, cv, rfl, rv, lv, fv, e8⟩
  have RS := Lib.hid (RS.out.ext e8)
  have RR := Lib.hid (RR.out.ext e8)
  have RE := Lib.hid (RE.out.ext e8)
  have RL := Lib.hid (RL.out.ext e8)
  have RP := Lib.hid (RP.out.ext e8)
  have RQ := Lib.hid (RQ.out.ext e8)
  have RW := Lib.hid (RW.out.ext e8)
  have RV := Lib.hid rv
  have LV := Lib.hid lv
  have E8 := Lib.hid (E7.out.t e8)
  have SZ8 := Lib.hid (show w7.heap.size ≤ w8.heap.size from e8.size)
  have H9 := Lib.hid (deal_ Ax na cx la m w8 ((RX.out.ext E8.out).rd evC_len (by decide)) (by omega))
  unfold DealP at H9
  generalize hdv : dealF la m = dv at *
  obtain ⟨dl, di, de⟩ := dv
  clear rv lv fv e8 H8
  go_wp2_with fail
  refine H9.out.mono ?_; rintro e w9 ⟨Ad, nd, cd, ds, rfl, rd, e9⟩
  have RS := Lib.hid (RS.out.ext e9)
  have RR := Lib.hid (RR.out.ext e9)
  have RE := Lib.hid (RE.out.ext e9)
  have RL := Lib.hid (RL.out.ext e9)
  have RP := Lib.hid (RP.out.ext e9)
  have RQ := Lib.hid (RQ.out.ext e9)
  have RW := Lib.hid (RW.out.ext e9)
  have RV := Lib.hid (RV.out.ext e9)
  have DLT := Lib.hid (fun k (hk : foot Ad cd k ∨ foots ds k) => rd.lt hk)
  have RD := Lib.hid rd
  have E9 := Lib.hid (E8.out.t e9)
  have SZ9 := Lib.hid (show w8.heap.size ≤ w9.heap.size from e9.size)
  have H10 := Lib.hid (rdeal_ Aa na ca la m w9 (HA2.out.ext E9.out) (by omega))
  rw [hdv] at H10
  unfold DealP at H10
  clear rd e9 H9 hdv
  go_wp2_with fail
  refine H10.out.mono ?_; rintro e w10 ⟨Ag, ng, cg, gs, rfl, rg, e10⟩
  have RS := Lib.hid (RS.out.ext e10)
  have RR := Lib.hid (RR.out.ext e10)
  have RE := Lib.hid (RE.out.ext e10)
  have RL := Lib.hid (RL.out.ext e10)
  have RP := Lib.hid (RP.out.ext e10)
  have RQ := Lib.hid (RQ.out.ext e10)
  have RW := Lib.hid (RW.out.ext e10)
  have RV := Lib.hid (RV.out.ext e10)
  have RD := Lib.hid (RD.out.ext e10)
  have RG := Lib.hid rg
  have E10 := Lib.hid (E9.out.t e10)
  have SZ10 := Lib.hid (show w9.heap.size ≤ w10.heap.size from e10.size)
  clear rg e10 H10
  go_upto_region 10 with fail
  simp only [List.append_eq, List.cons_append, List.nil_append]
  have C1 := Lib.hid (fun w' (e : Ext w10 w') => sorted_ Ax na cx la w' ((RX.out.ext (E10.out.t e)).rd evC_len (by decide)) (by omega))
  have C2 := Lib.hid (fun w' (e : Ext w10 w') => rsorted_ Aa na ca la w' (HA2.out.ext (E10.out.t e)) (by omega))
  have C3 := Lib.hid (fun w' (e : Ext w10 w') => same_ Ax Ay na nb cx cy la lb w' ((RX.out.ext (E10.out.t e)).rd evC_len (by decide)) ((RY.out.ext (E10.out.t e)).rd evC_len (by decide)) (by omega) (by omega))
  have C4 := Lib.hid (fun w' (e : Ext w10 w') => equalE Aa Ab na nb ca cb la lb w' (HA2.out.ext (E10.out.t e)) (HB2.out.ext (E10.out.t e)) (by omega) (by omega))
  have C5 := Lib.hid (fun w' (e : Ext w10 w') => runs_ Ax na cx la w' ((RX.out.ext (E10.out.t e)).rd evC_len (by decide)) (by omega))
  have C6 := Lib.hid (fun w' (e : Ext w10 w') => rruns_ Aa na ca la w' (HA2.out.ext (E10.out.t e)) (by omega))
  have hl1 := HsL.out
  have hl2 := HcL.out
  have hl3 := HwL.out
  have hl4 := HdL.out
  have hl5 := HrL.out
  try dsimp only at hl1 hl2 hl3 hl4
  have C8 := Lib.hid (fun w' (e : Ext w10 w') => equalE As Ar ns nr cs cr sl sl w' ((RS.out.ext e).rd evC_len (by decide)) ((RR.out.ext e).rd evC_len (by decide)) (by have := LS.out; (try dsimp only at this); omega) (by have := LR.out; (try dsimp only at this); omega))
  have C9 := Lib.hid (fun w' (e : Ext w10 w') => equalE Ae Ap ne np cee cp el el w' ((RE.out.ext e).rd evC_len (by decide)) ((RP.out.ext e).rd evC_len (by decide)) (by have := LE.out; (try dsimp only at this); omega) (by have := LP.out; (try dsimp only at this); omega))
  have C10 := Lib.hid (fun w' (hL : RoomS 5 w' Al nl cl (ll.flatMap evC)) (hQ : RoomS 5 w' Aq nq cq (ll.flatMap evC)) => equalE Al Aq nl nq cl cq ll ll w' (hL.rd evC_len (by decide)) (hQ.rd evC_len (by decide)) (by have := LL.out; (try dsimp only at this); omega) (by have := LQ.out; (try dsimp only at this); omega))
  have C11 := Lib.hid (fun w' (e : Ext w10 w') => equalE Aw Av nw nv cw cv wl wl w' ((RW.out.ext e).rd evC_len (by decide)) ((RV.out.ext e).rd evC_len (by decide)) (by have := LW.out; (try dsimp only at this); omega) (by have := LV.out; (try dsimp only at this); omega))
  have C12 := Lib.hid (fun w' (e : Ext w10 w') => equal_ Ad Ag nd ng cd cg ds gs dl dl w' (RD.out.room.rd.ext e) (RD.out.els.ext e) (RG.out.room.rd.ext e) (RG.out.els.ext e) (by have := RD.out.n_; omega) (by have := RG.out.n_; omega) (fun s hs => by have := RD.out.els.n_le hl4.2 s hs; omega) (fun s hs => by have := RG.out.els.n_le hl4.2 s hs; omega))
  rw [decide_eq_true rfl] at C8 C9 C10 C11 C12
  have N1 := Lib.hid (show ns ≤ 1000 ∧ ne ≤ 1000 ∧ nl ≤ 1000 ∧ nw ≤ 1000 ∧ nd ≤ 16 ∧ ng ≤ 16 by
    have h1 := LS.out; have h2 := LE.out; have h3 := LL.out; have h4 := LW.out; have h5 := RD.out.n_; have h6 := RG.out.n_
    try dsimp only at h1 h2 h3 h4 h5 h6
    refine ⟨by omega, by omega, by omega, by omega, by omega, by omega⟩)
  generalize hsb : srtB la = sb at *
  generalize hab : decide (la = lb) = ab at *
  clear hl1 hl2 hl3 hl4 hsb hab
  go_wp2_with fail
  refine (C1.out _ (Ext.refl _)).mono ?_; rintro e w11 ⟨rfl, e1⟩
  have C2' := Lib.hid (C2.out _ e1)
  have X1 := Lib.hid e1
  clear e1 C1 C2
  go_wp2_with fail
  refine C2'.out.mono ?_; rintro e w12 ⟨rfl, e1⟩
  have X2 := Lib.hid (X1.out.t e1)
  clear e1 C2' X1
  have C3' := Lib.hid (C3.out _ X2.out)
  clear C3
  go_wp2_with fail
  refine C3'.out.mono ?_; rintro e w13 ⟨rfl, e1⟩
  have X3 := Lib.hid (X2.out.t e1)
  clear e1 C3' X2
  have C4' := Lib.hid (C4.out _ X3.out)
  clear C4
  go_wp2_with fail
  refine C4'.out.mono ?_; rintro e w14 ⟨rfl, e1⟩
  have X4 := Lib.hid (X3.out.t e1)
  clear e1 C4' X3
  have C5' := Lib.hid (C5.out _ X4.out)
  clear C5
  go_wp2_with fail
  refine C5'.out.mono ?_; rintro e w15 ⟨A15, n15, c15, rfl, r15, l15, -, e1⟩
  have X5 := Lib.hid (X4.out.t e1)
  have R15 := Lib.hid r15
  have L15 := Lib.hid l15
  clear e1 C5' X4 r15 l15
  have C6' := Lib.hid (C6.out _ X5.out)
  clear C6
  go_wp2_with fail
  refine C6'.out.mono ?_; rintro e w16 ⟨A16, n16, c16, rfl, r16, l16, -, e1⟩
  have X6 := Lib.hid (X5.out.t e1)
  have C7 := Lib.hid (equalP A15 A16 n15 n16 c15 c16 (runsF la) (runsF la) w16 ((R15.out.ext e1).rd pairC_len (by decide)) (r16.rd pairC_len (by decide)) (by have := L15.out; omega) (by omega))
  rw [decide_eq_true rfl] at C7
  clear e1 C6' X5 r16 l16 R15 L15 hl5
  go_wp2_with fail
  refine C7.out.mono ?_; rintro e w17 ⟨rfl, e1⟩
  have X7 := Lib.hid (X6.out.t e1)
  clear e1 C7 X6
  have C8' := Lib.hid (C8.out _ X7.out)
  clear C8
  go_wp2_with fail
  refine C8'.out.mono ?_; rintro e w18 ⟨rfl, e1⟩
  have X8 := Lib.hid (X7.out.t e1)
  clear e1 C8' X7
  have C9' := Lib.hid (C9.out _ X8.out)
  clear C9
  go_wp2_with fail
  refine C9'.out.mono ?_; rintro e w19 ⟨rfl, e1⟩
  have X9 := Lib.hid (X8.out.t e1)
  clear e1 C9' X8
  have C10' := Lib.hid (C10.out _ (RL.out.ext X9.out) (RQ.out.ext X9.out))
  go_wp2_with fail
  refine C10'.out.mono ?_; rintro e w20 ⟨rfl, e1⟩
  have X10 := Lib.hid (X9.out.t e1)
  clear e1 C10' X9
  have C11' := Lib.hid (C11.out _ X10.out)
  clear C11
  go_wp2_with fail
  refine C11'.out.mono ?_; rintro e w21 ⟨rfl, e1⟩
  have X11 := Lib.hid (X10.out.t e1)
  clear e1 C11' X10
  have C12' := Lib.hid (C12.out _ X11.out)
  clear C12
  go_wp2_with fail
  refine C12'.out.mono ?_; rintro e w22 ⟨rfl, e1⟩
  have X12 := Lib.hid (X11.out.t e1)
  clear e1 C12' X11
  have S1 := Lib.hid (spoil2 (g := w22.heap.size) (n := ns) (c := cs) (A := As) (n' := ne) (c' := cee) (A' := Ae) (t := 24) (w := w22.alloc (.cells #[.slice As ns cs, .slice Ae ne cee] 24)) (Blk.new _ _ _) ((RS.out.ext X12.out).ext (Ext.alloc _ _)) ((RE.out.ext X12.out).ext (Ext.alloc _ _)) (fun k h1 h2 => by have := SLT.out k h1; have := (FE.out k h2).1; omega) (fun hf => by have := (RS.out.ext X12.out).lt hf; omega) (fun hf => by have := (RE.out.ext X12.out).lt hf; omega) (by have := N1.out.1; omega) (by have := N1.out.2.1; omega))
  have Z := Lib.hid (show w2.heap.size ≤ w4.heap.size from E4.out.size)
  clear RR RP RV E3 E4 E5 E6 E7 E8 E9
  go_wp2_with fail
  refine S1.out.mono ?_; rintro e ws ⟨rfl, ch⟩
  have CH := Lib.hid ((Chg.ofExt (T := fun k => foot As cs k ∨ foot Ae cee k) (X12.out.t (Ext.alloc w22 (.cells #[.slice As ns cs, .slice Ae ne cee] 24)))).t ch)
  have HT := Lib.hid (show ∀ k, (foot As cs k ∨ foot Ae cee k) → k < w5.heap.size from fun k hk => hk.elim (fun h => by have := SLT.out k h; have := SZ5.out; omega) (fun h => ELT.out k h))
  have RL := Lib.hid (RL.out.chg CH.out (fun k hk ht => ht.elim (fun h => by have := SLT.out k h; have := FL.out k hk; omega) (fun h => (FE.out k h).2 hk)))
  have RQ := Lib.hid (RQ.out.sep CH.out FQ.out HT.out)
  have RW := Lib.hid (RW.out.sep CH.out (fun k hk => by have := FW.out k hk; have := SZ6.out; omega) HT.out)
  have RD := Lib.hid (RD.out.sep CH.out (B' := w5.heap.size) (by have := SZ6.out; have := SZ7.out; have := SZ8.out; omega) HT.out)
  have RG := Lib.hid (RG.out.sep CH.out (B' := w5.heap.size) (by have := SZ6.out; have := SZ7.out; have := SZ8.out; have := SZ9.out; omega) HT.out)
  have ES := Lib.hid (E10.out.trans (CH.out.below E10.out.size (fun k hk ht => ht.elim (fun h => by have := FS.out k h; omega) (fun h => by have := (FE.out k h).1; have := Z.out; omega))))
  have C10' := Lib.hid (C10.out _ RL.out RQ.out)
  clear S1 ch CH HT RS RE X12 C10 E10
  go_wp2_with fail
  refine C10'.out.mono ?_; rintro e wt ⟨rfl, e1⟩
  have RL := Lib.hid (RL.out.ext e1)
  have RW := Lib.hid (RW.out.ext e1)
  have RD := Lib.hid (RD.out.ext e1)
  have RG := Lib.hid (RG.out.ext e1)
  have ES := Lib.hid (ES.out.t e1)
  clear e1 C10' RQ
  have S2 := Lib.hid (spoil2 (g := wt.heap.size) (n := nl) (c := cl) (A := Al) (n' := nw) (c' := cw) (A' := Aw) (t := 24) (w := wt.alloc (.cells #[.slice Al nl cl, .slice Aw nw cw] 24)) (Blk.new _ _ _) (RL.out.ext (Ext.alloc _ _)) (RW.out.ext (Ext.alloc _ _)) (fun k h1 h2 => by have := LLT.out k h1; have := FW.out k h2; have := SZ6.out; omega) (fun hf => by have := RL.out.lt hf; omega) (fun hf => by have := RW.out.lt hf; omega) (by have := N1.out.2.2.1; omega) (by have := N1.out.2.2.2.1; omega))
  go_wp2_with fail
  refine S2.out.mono ?_; rintro e wu ⟨rfl, ch⟩
  have CH := Lib.hid ((Chg.ofExt (T := fun k => foot Al cl k ∨ foot Aw cw k) (Ext.alloc wt (.cells #[.slice Al nl cl, .slice Aw nw cw] 24))).t ch)
  have HT := Lib.hid (show ∀ k, (foot Al cl k ∨ foot Aw cw k) → k < w7.heap.size from fun k hk => hk.elim (fun h => by have := LLT.out k h; have := SZ6.out; have := SZ7.out; omega) (fun h => WLT.out k h))
  have RD := Lib.hid (RD.out.sep CH.out (B' := w7.heap.size) (by have := SZ8.out; omega) HT.out)
  have RG := Lib.hid (RG.out.sep CH.out (B' := w7.heap.size) (by have := SZ8.out; have := SZ9.out; omega) HT.out)
  have ES := Lib.hid (ES.out.trans (CH.out.below ES.out.size (fun k hk ht => ht.elim (fun h => by have := FL.out k h; have := Z.out; omega) (fun h => by have := FW.out k h; have := Z.out; have := SZ5.out; have := SZ6.out; omega))))
  have hng : ng = nd := by have := RG.out.n_; have := RD.out.n_; omega
  subst hng
  have hnd : ng ≤ 16 := N1.out.2.2.2.2.1
  have Z8 := Lib.hid (show w2.heap.size ≤ w8.heap.size by have := Z.out; have := SZ5.out; have := SZ6.out; have := SZ7.out; have := SZ8.out; omega)
  have HQ := Lib.hid (fun j (hj : j ≤ ng) w' (h1 : Rd slv w' Ad ng ds) (h2 : Els w' (ds.drop j) (dl.drop j)) (h3 : Rd slv w' Ag ng gs) (h4 : Els w' gs dl) => equal_ (fromS 1 Ad cd j) (fromS 1 Ag cg j) (ng - j) (ng - j) (cd - j) (cg - j) (ds.drop j) (gs.drop j) (dl.drop j) (dl.drop j) w' (h1.from2 hj RD.out.room.2.1) h2 (h3.from2 hj RG.out.room.2.1) (h4.drop j) (by omega) (by omega) (fun s hs => by have := RD.out.els.n_le HdL.out.2 s (List.mem_of_mem_drop hs); omega) (fun s hs => by have := RG.out.els.n_le HdL.out.2 s (List.mem_of_mem_drop hs); omega))
  clear S2 ch CH HT RL RW FS FE FL FQ FW SLT ELT LLT WLT SZ5 SZ6 SZ7 SZ8 LS LR LE LL LP LQ LW LV
  go_wp2_with fail
  have hdsl : ds.length = ng := by have h1 := RD.out.len; have h2 := RD.out.n_; omega
  have HdsL := Lib.hid hdsl
  have HAP := Lib.hid (show ∀ (j i : Nat) (s : Sl), i ≤ j → ds[j]? = some s → ∀ k, foot s.A s.c k → ¬ foots (ds.take i) k from fun j i s hij hs k hk ht => by
    obtain ⟨t', ht', hkt⟩ := ht
    obtain ⟨i', hi', rfl⟩ := List.getElem_of_mem ht'
    rw [List.length_take] at hi'
    rw [List.getElem_take] at hkt
    exact RD.out.apart j i' s ds[i'] hs (List.getElem?_eq_getElem (by omega)) (by omega) k hk hkt)
  have HDR := Lib.hid (show ∀ (j : Nat) (W : World), Chg (foots (ds.take j)) wu W → Rd slv W Ad ng ds from fun j W hc => RD.out.room.rd.chg hc (fun k o e0 h0 hf => by
    obtain ⟨t', ht', hkt⟩ := hf
    exact RD.out.outer k ⟨t', List.mem_of_mem_take ht', hkt⟩ ⟨by have := RD.out.room.2.1; omega, o, e0⟩))
  have HDE := Lib.hid (show ∀ (j : Nat) (W : World), Chg (foots (ds.take j)) wu W → Els W (ds.drop j) (dl.drop j) from fun j W hc => (RD.out.els.drop j).chg hc (fun s hs k o e0 h0 hf => by
    obtain ⟨i, hi, rfl⟩ := List.getElem_of_mem hs
    rw [List.length_drop] at hi
    rw [List.getElem_drop] at e0 h0
    obtain ⟨l', h1, h2⟩ := RD.out.at_ (j + i) ds[j + i] (List.getElem?_eq_getElem (by omega))
    exact HAP.out (j + i) j ds[j + i] (by omega) (List.getElem?_eq_getElem (by omega)) k ⟨by have := h2.2.1; omega, o, e0⟩ hf))
  have HGR := Lib.hid (show ∀ (j : Nat) (W : World), Chg (foots (ds.take j)) wu W → Lse w9.heap.size W Ag ng cg gs dl from fun j W hc => RG.out.sep hc (Nat.le_refl _) (fun k ⟨t', ht', hkt⟩ => DLT.out k (.inr ⟨t', List.mem_of_mem_take ht', hkt⟩)))
  have HEW := Lib.hid (show ∀ (j : Nat) (W : World), Chg (foots (ds.take j)) wu W → Ext w2 W from fun j W hc => ES.out.trans (hc.below ES.out.size (fun k hk ⟨t', ht', hkt⟩ => by have := RD.out.new k (.inr ⟨t', List.mem_of_mem_take ht', hkt⟩); have := Z8.out; omega)))
  have C15 := Lib.hid (fun w' (e : Ext w2 w') => equalE Ax Aa na na cx ca la la w' ((RX.out.ext e).rd evC_len (by decide)) (HA2.out.ext e) (by omega) (by omega))
  have C16 := Lib.hid (fun w' (e : Ext w2 w') => equalE Ay Ab nb nb cy cb lb lb w' ((RY.out.ext e).rd evC_len (by decide)) (HB2.out.ext e) (by omega) (by omega))
  rw [decide_eq_true rfl] at C15 C16
  simp only [decide_true] at HQ
  have HNd := Lib.hid (show ∀ s ∈ ds, s.n ≤ 1000 from fun s hs => RD.out.els.n_le HdL.out.2 s hs)
  have HCd := Lib.hid (show ng ≤ cd ∧ ng ≤ cg from ⟨RD.out.room.2.1, RG.out.room.2.1⟩)
  clear hdsl ES Z8 RX RY HA2 HB2 RG DLT N1 Z SZ9 SZ10
  go_loopw [177] (fun i wr => ∃ j : Nat, j ≤ ng ∧ i = .int .i64 (j : Int) ∧ Hid (Chg (foots (ds.take j)) wu wr)) (fun i _ => ng - (intOf i).toNat)
  case atStart => exact ⟨0, by omega, rfl, Lib.hid (Chg.refl _ _)⟩
  case round =>
    obtain ⟨j, hj, rfl, HJ⟩ := hrel
    by_cases hlt : j < ng
    · have hltI : (j : Int) < (ng : Int) := by omega
      obtain ⟨s, hs⟩ : ∃ s, ds[j]? = some s := ⟨ds[j]'(by have := HdsL.out; omega), List.getElem?_eq_getElem _⟩
      obtain ⟨b, o, hAd, hcs⟩ := (HDR.out j wr HJ.out).get hs
      obtain ⟨l', _, hroom⟩ := RD.out.at_ j s hs
      have hR := hroom.chg HJ.out (fun k hk => HAP.out j j s (Nat.le_refl _) hs k hk)
      have hsn : s.n ≤ 1000 := HNd.out s (List.mem_of_getElem? hs)
      obtain ⟨sA, sn, sc⟩ := s
      have HS1 := Lib.hid (spoil1 (g := wr.heap.size) (n := sn) (c := sc) (A := sA) (t := 24) (w := wr.alloc (.cells #[.slice sA sn sc] 24)) (Blk.new _ _ _) (hR.ext (Ext.alloc _ _)) (fun hf => by have := hR.lt hf; omega) (by change sn ≤ _; change sn ≤ _ at hsn; omega))
      have HJ1 := Lib.hid (show ∀ W, Chg (foot sA sc) (wr.alloc (.cells #[.slice sA sn sc] 24)) W → Chg (foots (ds.take (j + 1))) wu W from fun W hc => by
        rw [take_snoc hs]
        refine ((HJ.out.mono (fun k _ ⟨t', ht', hkt⟩ => ⟨t', List.mem_append_left _ ht', hkt⟩)).t (Chg.alloc _ _)).trans hc (fun k _ hk => ⟨_, List.mem_append_right _ (List.mem_singleton.2 rfl), hk⟩))
      have HQ1 := Lib.hid (show ∀ W, Chg (foots (ds.take (j + 1))) wu W → _ from fun W hc => HQ.out (j + 1) (by omega) W (HDR.out _ W hc) (HDE.out _ W hc) (HGR.out _ W hc).room.rd (HGR.out _ W hc).els)
      have HCell := Lib.hid (show ∀ W, Chg (foots (ds.take (j + 1))) wu W → Ext w2 W from fun W hc => HEW.out _ W hc)
      unfold slv at hcs
      subst hAd
      have hs1 := fun w' => ee_ins_from (A := some ⟨b, o, none⟩) (n := ng) (c := cd) (k := j + 1) (li := (j : Int) + 1) w' (by omega) (by omega)
      have hs2 := fun w' => ee_ins_from (A := Ag) (n := ng) (c := cg) (k := j + 1) (li := (j : Int) + 1) w' (by omega) (by omega)
      generalize fromS 1 (some ⟨b, o, none⟩) cd (j + 1) = F1 at *
      generalize fromS 1 Ag cg (j + 1) = F2 at *
      generalize ng - (j + 1) = FN at *
      generalize cd - (j + 1) = FC1 at *
      generalize cg - (j + 1) = FC2 at *
      have hwj : IntKind.i64.wrap ((j : Int) + 1) = (j : Int) + 1 := IntWalk.i64_in _ (by omega)
      clear hs hroom hR hsn HJ
      go_wp2_with fail
      refine HS1.out.mono ?_; rintro e wv ⟨rfl, ch⟩
      have CHv := Lib.hid (HJ1.out wv ch)
      clear ch HS1 HJ1 hcs
      go_wp2_with fail
      go_still_tail 8, (by kernel_rfl)
      change wpList _ _ _ _ _ wv.drew
      have CHd := Lib.hid (CHv.out.t (Chg.drew wv))
      generalize wv.drew = wd at *
      have HQ2 := Lib.hid (HQ1.out wd CHd.out)
      clear HQ1 CHv
      go_wp2_with fail
      refine HQ2.out.mono ?_; rintro e we ⟨rfl, e1⟩
      have CHe := Lib.hid (CHd.out.t (Chg.ofExt e1))
      clear e1 HQ2 CHd
      go_wp2_with fail
      go_roundw
      case rel => exact ⟨j + 1, by omega, by go_num, CHe⟩
      case measure => simp [intOf]; omega
    · obtain rfl : ng = j := by omega
      have EW := Lib.hid (HEW.out _ _ HJ.out)
      have C15' := Lib.hid (C15.out _ EW.out)
      go_wp2_with fail
      refine C15'.out.mono ?_; rintro e wx ⟨rfl, e1⟩
      have EX2 := Lib.hid (EW.out.t e1)
      have C16' := Lib.hid (C16.out _ EX2.out)
      clear e1
      go_wp2_with fail
      refine C16'.out.mono ?_; rintro e wy ⟨rfl, e1⟩
      have EY := Lib.hid (E2.out.t (EX2.out.t e1))
      clear e1
      go_wp2_with fail
      go_ret
      exact ⟨rfl, EY.out⟩
end Go.Proofs.Ytkeapijehfacfaa
