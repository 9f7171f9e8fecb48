/- InboxApart: the walk of the law. -/
import Derived.Test.YtpipnefepnknoaaRan
import Derived.Deep.CutRange
import Derived.Deep.RegionHeldLaw
namespace Go.Proofs.Ytpipnefepnknoaa
open Go.RowKit Go.Fx
theorem take40 {al : List ActN} : (al.take 40).take 40 = al.take 40 := by rw [List.take_take]; rfl
/-- What the loop holds of one inbox. -/
def HasP (w0 : World) (bl : List ActN) (k : Nat) (w : World) (ib : Nat) (L : Lay) (A : Option Addr) (n c : Nat) (os : List Sl) : Prop :=
  Run w0 w ib L A n c os (playF (bl.take k)) ∧ Good (playF (bl.take k)).1 (2000 - 20 * k)
theorem HasP.same {w0 w : World} {bl : List ActN} {k ib : Nat} {L : Lay} {A : Option Addr} {n c : Nat} {os : List Sl} (h : HasP w0 bl k w ib L A n c os) (hk : bl.length ≤ k) : HasP w0 bl (k + 1) w ib L A n c os := by
  obtain ⟨h1, h2⟩ := h
  have e : bl.take (k + 1) = bl.take k := by rw [List.take_of_length_le hk, List.take_of_length_le (by omega)]
  unfold HasP
  rw [e]
  exact ⟨h1, h2.mono (by omega)⟩
theorem HasP.act {w0 w : World} {bl : List ActN} {k ib : Nat} {a : ActN} {L : Lay} {A : Option Addr} {n c : Nat} {os : List Sl} (ha : bl[k]? = some a) (hr : Run w0 w ib L A n c os (actF ((playF (bl.take k)).1, (playF (bl.take k)).2) a)) (hg : Good (actF ((playF (bl.take k)).1, (playF (bl.take k)).2) a).1 (2000 - 20 * (k + 1))) : HasP w0 bl (k + 1) w ib L A n c os := by
  unfold HasP
  rw [take_snoc ha, playF_snoc]
  exact ⟨hr, hg⟩
theorem HasP.other {w0 w w1 : World} {bl : List ActN} {k ib iz : Nat} {L Lz Lz' : Lay} {A Az Az' : Option Addr} {n c cz cz' : Nat} {os oz oz' : List Sl} (h : HasP w0 bl k w ib L A n c os) (hw : Went w iz Lz Az cz oz w1 Lz' Az' cz' oz') (hT : ∀ j, (boxF iz Lz j ∨ foot Az cz j) → ¬ runF ib L A c os j ∧ w0.heap.size ≤ j) : HasP w0 bl k w1 ib L A n c os :=
  ⟨h.1.chg hw.chg hT, h.2⟩
set_option maxRecDepth 100000 in
set_option maxHeartbeats 4000000 in
theorem apart_ (A B : Option Addr) (n c n' c' : Nat) (al bl : List ActN) (w : World) (hacts : Acts w A n al) (hnc : n ≤ c) (hc : c ≤ maxLen) (hacts' : Acts w B n' bl) (hnc' : n' ≤ c') (hc' : c' ≤ maxLen) :
    Calls Try.prog 9 #[.slice A n c, .slice B n' c'] w fun e w' => e = .returned (.bool true) ∧ Ext w w' := by
  obtain ⟨m, hm⟩ : ∃ m, m = min n 40 := ⟨_, rfl⟩
  obtain ⟨m', hm'⟩ : ∃ m', m' = min n' 40 := ⟨_, rfl⟩
  obtain ⟨xl, hxl⟩ : ∃ xl, xl = al.take 40 := ⟨_, rfl⟩
  obtain ⟨yl, hyl⟩ : ∃ yl, yl = bl.take 40 := ⟨_, rfl⟩
  have hxa : Acts w A m xl := by
    have h := hacts.take (k := m) (by omega)
    rw [hxl]
    by_cases h40 : n ≤ 40
    · rw [List.take_of_length_le (by rw [hacts.len]; exact h40)]
      rwa [List.take_of_length_le (by rw [hacts.len]; omega)] at h
    · rwa [show m = 40 by omega] at h ⊢
  have hya : Acts w B m' yl := by
    have h := hacts'.take (k := m') (by omega)
    rw [hyl]
    by_cases h40 : n' ≤ 40
    · rw [List.take_of_length_le (by rw [hacts'.len]; exact h40)]
      rwa [List.take_of_length_le (by rw [hacts'.len]; omega)] at h
    · rwa [show m' = 40 by omega] at h ⊢
  have HP := Lib.hid (fun w' (e : Ext w w') => play_ A m c xl w' (hxa.ext e) (by omega) hc)
  have HQ := Lib.hid (fun w' (e : Ext w w') => play_ B m' c' yl w' (hya.ext e) (by omega) hc')
  rw [show xl.take 40 = xl by rw [hxl, take40]] at HP
  rw [show yl.take 40 = yl by rw [hyl, take40]] at HQ
  have hxn : xl.length = m := hxa.len
  have hyn : yl.length = m' := hya.len
  have HX := Lib.hid hxa
  have HY := Lib.hid hya
  have HA := Lib.hid (awake w)
  have Hm := Lib.hid hm
  have Hm' := Lib.hid hm'
  have hm40 : m ≤ 40 := by omega
  have hm40' : m' ≤ 40 := by omega
  have Hxn := Lib.hid hxn
  have Hyn := Lib.hid hyn
  unfold maxLen at hc hc'
  clear hacts hacts' hxa hya hm hm' hxl hyl hxn hyn
  go_enter Try.func9, Try.ntmps9
  go_wp2_with fail
  refine HA.out.mono ?_; rintro e w1 ⟨rfl, e1⟩
  have E1 := Lib.hid e1
  clear e1 HA
  go_upto_region 3 with fail
  go_cut [0, 1] from 23 to 32 (fun v v2 wx => v = .slice A m c ∧ v2 = .slice B m' c' ∧ Ext w1 wx)
  case first =>
    have hm := Hm.out
    have hm' := Hm'.out
    clear hm40 hm40'
    have hnc1 : (n : Int) ≤ (c : Int) := by omega
    have hnc2 : (n' : Int) ≤ (c' : Int) := by omega
    rcases (by omega : n ≤ 40 ∨ 40 < n) with h40 | h40
    · obtain rfl : n = m := by omega
      have h1 : (n : Int) ≤ 40 := by omega
      rcases (by omega : n' ≤ 40 ∨ 40 < n') with h40' | h40'
      · obtain rfl : n' = m' := by omega
        have h1' : (n' : Int) ≤ 40 := by omega
        clear hm hm'
        first
        | (go_region_held_law (fun w' => Ext w1 w') (first | assumption | exact Ext.drew _) (fail))
        | fail
        all_goals go_wp2_with fail
        all_goals go_simp
        all_goals go_meet
        all_goals exact ⟨rfl, rfl, Ext.drew _⟩
      · obtain rfl : m' = 40 := by omega
        have h1' : (40 : Int) < (n' : Int) := by omega
        have h2' : (40 : Int) ≤ (c' : Int) := by omega
        clear hm hm'
        first
        | (go_region_held_law (fun w' => Ext w1 w') (first | assumption | exact Ext.drew _) (fail))
        | fail
        all_goals go_wp2_with fail
        all_goals go_simp
        all_goals go_meet
        all_goals exact ⟨rfl, rfl, Ext.drew _⟩
    · obtain rfl : m = 40 := by omega
      have h1 : (40 : Int) < (n : Int) := by omega
      have h2 : (40 : Int) ≤ (c : Int) := by omega
      rcases (by omega : n' ≤ 40 ∨ 40 < n') with h40' | h40'
      · obtain rfl : n' = m' := by omega
        have h1' : (n' : Int) ≤ 40 := by omega
        clear hm hm'
        first
        | (go_region_held_law (fun w' => Ext w1 w') (first | assumption | exact Ext.drew _) (fail))
        | fail
        all_goals go_wp2_with fail
        all_goals go_simp
        all_goals go_meet
        all_goals exact ⟨rfl, rfl, Ext.drew _⟩
      · obtain rfl : m' = 40 := by omega
        have h1' : (40 : Int) < (n' : Int) := by omega
        have h2' : (40 : Int) ≤ (c' : Int) := by omega
        clear hm hm'
        first
        | (go_region_held_law (fun w' => Ext w1 w') (first | assumption | exact Ext.drew _) (fail))
        | fail
        all_goals go_wp2_with fail
        all_goals go_simp
        all_goals go_meet
        all_goals exact ⟨rfl, rfl, Ext.drew _⟩
  case rest =>
  obtain ⟨rfl, rfl, eC⟩ := hcut
  have EC := Lib.hid (E1.out.t eC)
  clear E1 eC hnc hnc' hc hc' Hm Hm'
  go_wp2_with fail
  refine (HP.out _ EC.out).mono ?_
  rintro e w2 ⟨ia, La, A2, n2, c2, os, st, outs, hpl⟩
  have hret := hpl.ret
  have e2 := EC.out.t hpl.sys.below
  have Hpl := Lib.hid hpl
  clear hpl HP
  subst hret
  go_wp2_with fail
  refine (HQ.out _ e2).mono ?_
  rintro e w3 ⟨ib, Lb, B2, p2, d2, os', st', outs', hql⟩
  have hret := hql.ret
  have E3 := Lib.hid (e2.t hql.sys.below)
  have Hql := Lib.hid hql
  clear hql HQ e2
  subst hret
  go_wp2_with fail
  refine (ib_New _ _).mono ?_
  rintro e w4 ⟨rfl, hib, he, hsz⟩
  have hsb := Blk.new w3 31 #[.slice none 0 0, .int .i64 0, .slice none 0 0, .slice none 0 0]
  have hS := sys_new (Below.refl w3.heap.size w3) (Ext.alloc w3 _) (Nat.le_refl _) hsb hib he
  rw [World.size_alloc] at *
  generalize hix : w3.heap.size + 1 = ix at hS ⊢
  have HS := Lib.hid hS
  clear hS hsb hib he hsz hix
  go_wp2_with fail
  refine (ib_New _ _).mono ?_
  rintro e w5 ⟨rfl, hib, he, hsz⟩
  have hsb := Blk.new w4 31 #[.slice none 0 0, .int .i64 0, .slice none 0 0, .slice none 0 0]
  have hS := sys_new HS.out.below (Ext.alloc w4 _) (Nat.le_refl _) hsb hib he
  have hS4 := sys_new (Below.refl w4.heap.size w4) (Ext.alloc w4 _) (Nat.le_refl _) hsb hib he
  rw [World.size_alloc] at *
  generalize hiy : w4.heap.size + 1 = iy at hS hS4 ⊢
  have h0 : Run w3 w4 ix (lay0 w3.heap.size) none 0 0 [] (st0, []) := ⟨HS.out, run_none, rfl⟩
  have H0 : Hid (∃ Lx ox Ly oy, HasP w3 xl 0 w5 ix Lx none 0 0 ox ∧ HasP w3 yl 0 w5 iy Ly none 0 0 oy ∧ ∀ j, runF ix Lx none 0 ox j → ¬ runF iy Ly none 0 oy j) := Lib.hid
    ⟨lay0 w3.heap.size, [], lay0 w4.heap.size, [], ⟨h0.ext ((Ext.alloc w4 _).t he), good0 _ (by omega)⟩, ⟨⟨hS, run_none, rfl⟩, good0 _ (by omega)⟩, fun j hj hj2 => by
      have h1 := h0.lt hj
      rcases hj2 with h2 | h2 | h2
      · have := hS4.ge j h2; omega
      · exact foot_none h2
      · exact foots_nil h2⟩
  clear hS hS4 hsb hib he hsz hiy h0 HS
  go_upto_region 12 with fail
  obtain ⟨M, hM⟩ : ∃ M, M = max m m' := ⟨_, rfl⟩
  have HM := Lib.hid hM
  have hM40 : M ≤ 40 := by omega
  go_cut [85, 86] from 81 to 84 (fun v v2 wx => v = .int .i64 (M : Int) ∧ v2 = .int .i64 0 ∧ Ext w5 wx)
  case first =>
    have hM := HM.out
    go_wp2_with fail
    all_goals go_simp
    all_goals go_meet
    all_goals exact ⟨by congr 1; omega, rfl, Ext.refl _⟩
  case rest =>
  obtain ⟨rfl, rfl, eM⟩ := hcut
  have H1 : Hid (∃ Lx ox Ly oy, HasP w3 xl 0 wc ix Lx none 0 0 ox ∧ HasP w3 yl 0 wc iy Ly none 0 0 oy ∧ ∀ j, runF ix Lx none 0 ox j → ¬ runF iy Ly none 0 oy j) := by
    obtain ⟨Lx, ox, Ly, oy, hx, hy, hd⟩ := H0.out
    exact Lib.hid ⟨Lx, ox, Ly, oy, ⟨hx.1.ext eM, hx.2⟩, ⟨hy.1.ext eM, hy.2⟩, hd⟩
  clear H0 eM hM
  go_wp2_with fail
  go_loopw [17, 18, 86] (fun v1 v2 i wr => ∃ (k : Nat) (A1 : Option Addr) (n1 c1 : Nat) (B1 : Option Addr) (p1 d1 : Nat), k ≤ M ∧ i = .int .i64 (k : Int) ∧ v1 = .slice A1 n1 c1 ∧ v2 = .slice B1 p1 d1 ∧ Hid (∃ Lx ox Ly oy, HasP w3 xl k wr ix Lx A1 n1 c1 ox ∧ HasP w3 yl k wr iy Ly B1 p1 d1 oy ∧ ∀ j, runF ix Lx A1 c1 ox j → ¬ runF iy Ly B1 d1 oy j)) (fun _ _ i _ => M - (intOf i).toNat)
  case atStart => exact ⟨0, none, 0, 0, none, 0, 0, by omega, rfl, rfl, rfl, H1⟩
  case round =>
    clear H1
    obtain ⟨k, A1, n1, c1, B1, p1, d1, hk, rfl, rfl, rfl, H⟩ := hrel
    by_cases hlt : k < M
    · have hlt' : (k : Int) < (M : Int) := by omega
      by_cases hkm : k < m
      · have hkm' : (k : Int) < (m : Int) := by omega
        obtain ⟨Lx, ox, Ly, oy, hx, hy, hd⟩ := H.out
        obtain ⟨a, ha⟩ : ∃ a, xl[k]? = some a := ⟨xl[k]'(by rw [Hxn.out]; exact hkm), List.getElem?_eq_getElem _⟩
        obtain ⟨b, o, s, rfl, hb, hat⟩ := HX.out.at_ k a ha
        have ew := E3.out.t hx.1.sys.below
        have ct := (ew.cell (p := ⟨b, o + k * 2, none⟩) hb).trans hat.t
        have cf := (ew.cell (p := ⟨b, o + k * 2 + 1, none⟩) hb).trans hat.f
        have HST := Lib.hid (step_ w3 wr ix Lx A1 n1 c1 ox (playF (xl.take k)).1 (playF (xl.take k)).2 a s (2000 - 20 * (k + 1)) hx.1 (hx.2.mono (by omega)) hat.lt (hat.v.ext E3.out))
        have Ha := Lib.hid ha
        have Hx := Lib.hid hx
        have Hy := Lib.hid hy
        have Hd := Lib.hid hd
        clear H hx hy hd ha hat ew
        go_wp2_with fail
        refine HST.out.mono ?_
        rintro e wB ⟨L6, A6, n6, c6, o6, rfl, hr6, hg6, hw6⟩
        have H6 : Hid (∃ Lx ox Ly oy, HasP w3 xl (k + 1) wB ix Lx A6 n6 c6 ox ∧ HasP w3 yl k wB iy Ly B1 p1 d1 oy ∧ ∀ j, runF ix Lx A6 c6 ox j → ¬ runF iy Ly B1 d1 oy j) := Lib.hid
          ⟨L6, o6, Ly, oy, HasP.act Ha.out hr6 hg6, Hy.out.other hw6 (fun j hj => ⟨fun h => Hd.out j (hj.elim .inl (fun h => .inr (.inl h))) h, hj.elim (Hx.out.1.sys.ge j) (Hx.out.1.resp.base j)⟩),
            fun j h1 h2 => hw6.sep (G := runF iy Ly B1 d1 oy) (fun j hj => ⟨Hy.out.1.lt hj, fun h => Hd.out j h hj⟩) j h2 h1⟩
        clear hr6 hg6 hw6 Ha Hx Hy Hd ct cf HST hkm hkm'
        go_upto_region 17 with fail
        by_cases hkn : k < m'
        · have hkn' : (k : Int) < (m' : Int) := by omega
          obtain ⟨Lx, ox, Ly, oy, hx, hy, hd⟩ := H6.out
          obtain ⟨a, ha⟩ : ∃ a, yl[k]? = some a := ⟨yl[k]'(by rw [Hyn.out]; exact hkn), List.getElem?_eq_getElem _⟩
          obtain ⟨b', o', s, rfl, hb', hat⟩ := HY.out.at_ k a ha
          have ew := E3.out.t hx.1.sys.below
          have ct := (ew.cell (p := ⟨b', o' + k * 2, none⟩) hb').trans hat.t
          have cf := (ew.cell (p := ⟨b', o' + k * 2 + 1, none⟩) hb').trans hat.f
          have HST := Lib.hid (step_ w3 wB iy Ly B1 p1 d1 oy (playF (yl.take k)).1 (playF (yl.take k)).2 a s (2000 - 20 * (k + 1)) hy.1 (hy.2.mono (by omega)) hat.lt (hat.v.ext E3.out))
          have Ha := Lib.hid ha
          have Hx := Lib.hid hx
          have Hy := Lib.hid hy
          have Hd := Lib.hid hd
          clear H6 hx hy hd ha hat ew
          go_wp2_with fail
          refine HST.out.mono ?_
          rintro e wC ⟨L7, B7, p7, d7, o7, rfl, hr7, hg7, hw7⟩
          have H7 : Hid (∃ Lx ox Ly oy, HasP w3 xl (k + 1) wC ix Lx A6 n6 c6 ox ∧ HasP w3 yl (k + 1) wC iy Ly B7 p7 d7 oy ∧ ∀ j, runF ix Lx A6 c6 ox j → ¬ runF iy Ly B7 d7 oy j) := Lib.hid
            ⟨Lx, ox, L7, o7, Hx.out.other hw7 (fun j hj => ⟨fun h => Hd.out j h (hj.elim .inl (fun h => .inr (.inl h))), hj.elim (Hy.out.1.sys.ge j) (Hy.out.1.resp.base j)⟩), HasP.act Ha.out hr7 hg7,
              fun j h1 h2 => hw7.sep (G := runF ix Lx A6 c6 ox) (fun j hj => ⟨Hx.out.1.lt hj, fun h => Hd.out j hj h⟩) j h1 h2⟩
          clear hr7 hg7 hw7 Ha Hx Hy Hd ct cf HST
          go_wp2_with fail
          go_roundw
          case rel => exact ⟨k + 1, A6, n6, c6, B7, p7, d7, by omega, by go_num, rfl, rfl, H7⟩
          case measure => simp [intOf]; omega
        · have hkn' : ¬ (k : Int) < (m' : Int) := by omega
          have H7 : Hid (∃ Lx ox Ly oy, HasP w3 xl (k + 1) wB ix Lx A6 n6 c6 ox ∧ HasP w3 yl (k + 1) wB iy Ly B1 p1 d1 oy ∧ ∀ j, runF ix Lx A6 c6 ox j → ¬ runF iy Ly B1 d1 oy j) := by
            obtain ⟨Lx, ox, Ly, oy, hx, hy, hd⟩ := H6.out
            exact Lib.hid ⟨Lx, ox, Ly, oy, hx, hy.same (by rw [Hyn.out]; omega), hd⟩
          clear H6
          go_wp2_with fail
          go_roundw
          case rel => exact ⟨k + 1, A6, n6, c6, B1, p1, d1, by omega, by go_num, rfl, rfl, H7⟩
          case measure => simp [intOf]; omega
      · have hkm' : ¬ (k : Int) < (m : Int) := by omega
        have H6 : Hid (∃ Lx ox Ly oy, HasP w3 xl (k + 1) wr ix Lx A1 n1 c1 ox ∧ HasP w3 yl k wr iy Ly B1 p1 d1 oy ∧ ∀ j, runF ix Lx A1 c1 ox j → ¬ runF iy Ly B1 d1 oy j) := by
          obtain ⟨Lx, ox, Ly, oy, hx, hy, hd⟩ := H.out
          exact Lib.hid ⟨Lx, ox, Ly, oy, hx.same (by rw [Hxn.out]; omega), hy, hd⟩
        clear H
        go_upto_region 17 with fail
        clear hkm hkm'
        by_cases hkn : k < m'
        · have hkn' : (k : Int) < (m' : Int) := by omega
          obtain ⟨Lx, ox, Ly, oy, hx, hy, hd⟩ := H6.out
          obtain ⟨a, ha⟩ : ∃ a, yl[k]? = some a := ⟨yl[k]'(by rw [Hyn.out]; exact hkn), List.getElem?_eq_getElem _⟩
          obtain ⟨b', o', s, rfl, hb', hat⟩ := HY.out.at_ k a ha
          have ew := E3.out.t hx.1.sys.below
          have ct := (ew.cell (p := ⟨b', o' + k * 2, none⟩) hb').trans hat.t
          have cf := (ew.cell (p := ⟨b', o' + k * 2 + 1, none⟩) hb').trans hat.f
          have HST := Lib.hid (step_ w3 wr iy Ly B1 p1 d1 oy (playF (yl.take k)).1 (playF (yl.take k)).2 a s (2000 - 20 * (k + 1)) hy.1 (hy.2.mono (by omega)) hat.lt (hat.v.ext E3.out))
          have Ha := Lib.hid ha
          have Hx := Lib.hid hx
          have Hy := Lib.hid hy
          have Hd := Lib.hid hd
          clear H6 hx hy hd ha hat ew
          go_wp2_with fail
          refine HST.out.mono ?_
          rintro e wC ⟨L7, B7, p7, d7, o7, rfl, hr7, hg7, hw7⟩
          have H7 : Hid (∃ Lx ox Ly oy, HasP w3 xl (k + 1) wC ix Lx A1 n1 c1 ox ∧ HasP w3 yl (k + 1) wC iy Ly B7 p7 d7 oy ∧ ∀ j, runF ix Lx A1 c1 ox j → ¬ runF iy Ly B7 d7 oy j) := Lib.hid
            ⟨Lx, ox, L7, o7, Hx.out.other hw7 (fun j hj => ⟨fun h => Hd.out j h (hj.elim .inl (fun h => .inr (.inl h))), hj.elim (Hy.out.1.sys.ge j) (Hy.out.1.resp.base j)⟩), HasP.act Ha.out hr7 hg7,
              fun j h1 h2 => hw7.sep (G := runF ix Lx A1 c1 ox) (fun j hj => ⟨Hx.out.1.lt hj, fun h => Hd.out j hj h⟩) j h1 h2⟩
          clear hr7 hg7 hw7 Ha Hx Hy Hd ct cf HST
          go_wp2_with fail
          go_roundw
          case rel => exact ⟨k + 1, A1, n1, c1, B7, p7, d7, by omega, by go_num, rfl, rfl, H7⟩
          case measure => simp [intOf]; omega
        · have hkn' : ¬ (k : Int) < (m' : Int) := by omega
          have H7 : Hid (∃ Lx ox Ly oy, HasP w3 xl (k + 1) wr ix Lx A1 n1 c1 ox ∧ HasP w3 yl (k + 1) wr iy Ly B1 p1 d1 oy ∧ ∀ j, runF ix Lx A1 c1 ox j → ¬ runF iy Ly B1 d1 oy j) := by
            obtain ⟨Lx, ox, Ly, oy, hx, hy, hd⟩ := H6.out
            exact Lib.hid ⟨Lx, ox, Ly, oy, hx, hy.same (by rw [Hyn.out]; omega), hd⟩
          clear H6
          go_wp2_with fail
          go_roundw
          case rel => exact ⟨k + 1, A1, n1, c1, B1, p1, d1, by omega, by go_num, rfl, rfl, H7⟩
          case measure => simp [intOf]; omega
    · obtain rfl : M = k := by omega
      obtain ⟨Lx, ox, Ly, oy, hx, hy, hd⟩ := H.out
      have hfx : playF (xl.take M) = (st, outs) := by rw [List.take_of_length_le (by rw [Hxn.out]; have := HM.out; omega)]; exact Hpl.out.res.symm
      have hfy : playF (yl.take M) = (st', outs') := by rw [List.take_of_length_le (by rw [Hyn.out]; have := HM.out; omega)]; exact Hql.out.res.symm
      unfold HasP at hx hy
      rw [hfx] at hx
      rw [hfy] at hy
      have e3 : Ext w3 wr := hx.1.sys.below
      have hRa := Hpl.out.resp.ext (Hql.out.sys.below.t e3)
      have hRb := Hql.out.resp.ext e3
      have hf1 := framesR A2 A1 n2 n1 c2 c1 os ox outs outs wr hRa.rd (Reads.of hRa.byt) hx.1.resp.rd (Reads.of hx.1.resp.byt) hRa.le hx.1.resp.le
      have hf2 := framesR B2 B1 p2 p1 d2 d1 os' oy outs' outs' wr hRb.rd (Reads.of hRb.byt) hy.1.resp.rd (Reads.of hy.1.resp.byt) hRb.le hy.1.resp.le
      rw [decide_eq_true (rfl : outs = outs)] at hf1
      rw [decide_eq_true (rfl : outs' = outs')] at hf2
      have HF1 := Lib.hid hf1
      have HF2 := Lib.hid hf2
      have HSa := Lib.hid (Hpl.out.sys.ext (Hql.out.sys.below.t e3))
      have HSb := Lib.hid (Hql.out.sys.ext e3)
      have HSx : Hid (Sys w3 wr ix Lx st) := Lib.hid hx.1.sys
      have HSy : Hid (Sys w3 wr iy Ly st') := Lib.hid hy.1.sys
      have HGa := Lib.hid Hpl.out.good
      have HGb := Lib.hid Hql.out.good
      have Hend := Lib.hid (E3.out.t e3)
      have hcq := fun w => cnt_self (st.put : Int) (st.ans : Int) (st.turns : Int) (st.idle : Int) w
      have hcq' := fun w => cnt_self (st'.put : Int) (st'.ans : Int) (st'.turns : Int) (st'.idle : Int) w
      clear H hx hy hd hfx hfy e3 hRa hRb hf1 hf2 hk hM40
      go_wp2_with fail
      refine HF1.out.mono ?_; rintro e wx ⟨rfl, rfl⟩
      go_wp2_with fail
      refine HF2.out.mono ?_; rintro e wx ⟨rfl, rfl⟩
      go_wp2_with fail
      refine (ib_Counts _ _ _ _ HSa.out.box).mono ?_; rintro e w6 ⟨rfl, e6⟩
      have E6 := Lib.hid e6
      clear e6
      go_wp2_with fail
      refine (ib_Counts _ _ _ _ (HSx.out.ext E6.out).box).mono ?_; rintro e w7 ⟨rfl, e7⟩
      have E7 := Lib.hid (E6.out.t e7)
      clear e7
      go_wp2_with fail
      refine (ib_Counts _ _ _ _ (HSb.out.ext E7.out).box).mono ?_; rintro e w8 ⟨rfl, e8⟩
      have E8 := Lib.hid (E7.out.t e8)
      clear e8
      go_wp2_with fail
      refine (ib_Counts _ _ _ _ (HSy.out.ext E8.out).box).mono ?_; rintro e w9 ⟨rfl, e9⟩
      have E9 := Lib.hid (E8.out.t e9)
      clear e9
      go_wp2_with fail
      refine (ib_Frames _ _ _ _ (HSa.out.ext E9.out).box (by have := HGa.out.wait; omega) HGa.out.fine.wait).mono ?_
      rintro e wf ⟨Af, cf, osf, hlf⟩
      have hret := hlf.ret
      have Hlf := Lib.hid hlf
      have Ef := Lib.hid (E9.out.t hlf.ext)
      clear hlf
      subst hret
      go_wp2_with fail
      refine (ib_Frames _ _ _ _ (HSx.out.ext Ef.out).box (by have := HGa.out.wait; omega) HGa.out.fine.wait).mono ?_
      rintro e wg ⟨Ag, cg, osg, hlg⟩
      have hret := hlg.ret
      have Eg := Lib.hid (Ef.out.t hlg.ext)
      have hfg := framesR Af Ag osf.length osg.length cf cg osf osg st.wait st.wait wg (Room.rd (Hlf.out.room.ext hlg.ext)) (Reads.of (Hlf.out.outs.ext hlg.ext)) (Room.rd hlg.room) (Reads.of hlg.outs) (Nat.le_trans Hlf.out.room.2.1 Hlf.out.room.2.2.1) (Nat.le_trans hlg.room.2.1 hlg.room.2.2.1)
      rw [decide_eq_true (rfl : st.wait = st.wait)] at hfg
      have Hfg := Lib.hid hfg
      clear hlg hfg Hlf
      subst hret
      go_wp2_with fail
      refine Hfg.out.mono ?_; rintro e wx ⟨rfl, rfl⟩
      go_wp2_with fail
      refine (ib_Frames _ _ _ _ (HSb.out.ext Eg.out).box (by have := HGb.out.wait; omega) HGb.out.fine.wait).mono ?_
      rintro e wf' ⟨Ah, ch, osh, hlf⟩
      have hret := hlf.ret
      have Hlf := Lib.hid hlf
      have Eh := Lib.hid (Eg.out.t hlf.ext)
      clear hlf Hfg
      subst hret
      go_wp2_with fail
      refine (ib_Frames _ _ _ _ (HSy.out.ext Eh.out).box (by have := HGb.out.wait; omega) HGb.out.fine.wait).mono ?_
      rintro e wg' ⟨Ai, ci, osi, hlg⟩
      have hret := hlg.ret
      have Ei := Lib.hid (Eh.out.t hlg.ext)
      have hfg := framesR Ah Ai osh.length osi.length ch ci osh osi st'.wait st'.wait wg' (Room.rd (Hlf.out.room.ext hlg.ext)) (Reads.of (Hlf.out.outs.ext hlg.ext)) (Room.rd hlg.room) (Reads.of hlg.outs) (Nat.le_trans Hlf.out.room.2.1 Hlf.out.room.2.2.1) (Nat.le_trans hlg.room.2.1 hlg.room.2.2.1)
      rw [decide_eq_true (rfl : st'.wait = st'.wait)] at hfg
      have Hfg := Lib.hid hfg
      clear hlg hfg Hlf
      subst hret
      go_wp2_with fail
      refine Hfg.out.mono ?_; rintro e wx ⟨rfl, rfl⟩
      go_wp2_with fail
      go_ret
      exact ⟨rfl, Hend.out.t Ei.out⟩
theorem walkInboxApart (A : Option Addr) (n c : Nat) (al : List ActN) (B : Option Addr) (n' c' : Nat) (bl : List ActN) (w : World) (h : ActsArg w A n c al) (h' : ActsArg w B n' c' bl) :
    Calls Try.prog 9 #[.slice A n c, .slice B n' c'] w fun e w' => e = .returned (.bool true) ∧ Ext w w' := apart_ A B n c n' c' al bl w h.acts h.le h.max h'.acts h'.le h'.max
end Go.Proofs.Ytpipnefepnknoaa
