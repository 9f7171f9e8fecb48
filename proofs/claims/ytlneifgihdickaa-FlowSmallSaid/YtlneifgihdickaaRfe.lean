/- Rfe: the reference of chapter 16: Edge, right, Next, Before; new lists. -/
import Derived.Test.YtlneifgihdickaaFdc
import Derived.Test.YtlneifgihdickaaCrg
namespace Go.Fx
open Go.RowKit Go.Proofs Go.Proofs.Ytlneifgihdickaa
/-- A new list. -/
structure NwL {α : Type} (f : α → Value) (V : World) (A : Option Addr) (m c : Nat) (ws : List α) (W : World) : Prop where
  room : Room W A m c (ws.map f)
  ext : Ext V W
  ft : ∀ k, foot A c k → V.heap.size ≤ k
section
variable {α : Type} {f : α → Value} {V W W' W2 W3 : World} {A A2 : Option Addr} {m c c2 : Nat} {ws : List α} {v : α}
theorem NwL.nil (V : World) : NwL f V none 0 0 [] V := ⟨Room.nil, Ext.refl _, fun _ hk => absurd hk foot_none⟩
theorem NwL.x (h : NwL f V A m c ws W) (e : Ext W W') : NwL f V A m c ws W' := ⟨h.room.ext e, h.ext.t e, h.ft⟩
theorem NwL.len (h : NwL f V A m c ws W) : ws.length = m := by have := h.room.1; rwa [List.length_map] at this
theorem NwL.more (h : NwL f V A m c ws W) (e : Ext W W2) (r : Room W3 A2 (m + 1) c2 (ws.map f ++ [f v])) (ch : Chg (foot A c) W2 W3) (ft : ∀ k, foot A2 c2 k → foot A c k ∨ W2.heap.size ≤ k) : NwL f V A2 (m + 1) c2 (ws ++ [v]) W3 := by
  have e2 := h.ext.t e
  exact ⟨by rw [List.map_append]; exact r, e2.trans (ch.below e2.size (fun k hk hf => by have := h.ft k hf; omega)), fun k hk => (ft k hk).elim (h.ft k) (fun h1 => by have := e2.size; omega)⟩
theorem NwL.set {g o k : Nat} {c : Nat} (h : NwL f V (some ⟨g, o, none⟩) m c ws W) (hk : k < m) (y : α) : NwL f V (some ⟨g, o, none⟩) m c (ws.set k y) (W.setCell ⟨g, o + k, none⟩ (f y)) :=
  ⟨by rw [List.map_set]; exact h.room.set hk (f y), below_set h.ext (h.ft g ⟨by have := h.room.2.1; omega, o, rfl⟩) _, h.ft⟩
end
def nxR (p : List Ins) (i k : Nat) : List Nat := (List.range k).filter (fun j => decide (j ∈ edF p i))
theorem nxR_succ (p : List Ins) (i k : Nat) : nxR p i (k + 1) = nxR p i k ++ if k ∈ edF p i then [k] else [] := by
  unfold nxR
  rw [List.range_succ, List.filter_append]
  congr 1
  by_cases h : k ∈ edF p i
  · simp [h]
  · simp [h]
theorem nxR_len (p : List Ins) (i k : Nat) : (nxR p i k).length ≤ k := by
  unfold nxR
  have h := List.length_filter_le (fun j => decide (j ∈ edF p i)) (List.range k)
  rwa [List.length_range] at h
theorem nxR_end {p : List Ins} (hp : RightP p) (i : Nat) : nxR p i p.length = edF p i := srt_filter (edF_srt p i) (fun _ hx => edF_lt hp hx)
def bfR (p : List Ins) (i k : Nat) : List Nat := befN p k i
theorem bfR_succ (p : List Ins) (i k : Nat) : bfR p i (k + 1) = bfR p i k ++ if i ∈ edF p k then [k] else [] := befN_succ p k i
theorem bfR_len (p : List Ins) (i k : Nat) : (bfR p i k).length ≤ k := befN_len p k i
theorem ret_boolx {a b : Bool} (h : a = b) : Ending.returned (Value.bool a) = .returned (.bool b) := by rw [h]
end Go.Fx
namespace Go.Proofs.Ytlneifgihdickaa
open Go.RowKit Go.Fx
set_option maxRecDepth 100000 in
set_option maxHeartbeats 1000000 in
theorem redge_ (A : Option Addr) (n c : Nat) (p : List Ins) (i k : Nat) (w : World) (h : RdS 5 insC w A n p) (hi : i < n) (hn : n ≤ 1000) (_hk : k < n) :
    Calls Try.prog 65 #[.slice A n c, .int .i64 (i : Int), .int .i64 (k : Int)] w fun e w' => e = .returned (.bool (decide (k ∈ edF p i))) ∧ Ext w w' := by
  obtain ⟨b, o, x, rfl, _, hx, c0, c1, c2, c3, c4⟩ := h.ins hi
  have H := Lib.hid h
  have Hx := Lib.hid hx
  have HT := Lib.hid (rtarget_ x w)
  have HG := Lib.hid (fun w' => rgoes_ x w')
  unfold TgtP insV at HT
  unfold BoolP insV at HG
  obtain ⟨to_, hto⟩ : ∃ t, t = if tgtF x = true then x.n else 0 := ⟨_, rfl⟩
  obtain ⟨tb, htb⟩ : ∃ t, t = tgtF x := ⟨_, rfl⟩
  obtain ⟨gb, hgb⟩ : ∃ t, t = goesF x := ⟨_, rfl⟩
  rw [← hto, ← htb] at HT
  rw [← hgb] at HG
  have HQ : Hid (decide (k ∈ edF p i) = ((tb && decide (to_ = (k : Int))) || (gb && decide (k = i + 1)))) := Lib.hid (by
    rw [goes_edF hx, htb, hgb, hto]
    cases h : tgtF x with
    | true => simp
    | false => simp)
  have hiI : (i : Int) < (n : Int) := by omega
  clear hto htb hgb h hx
  go_enter Try.func65, Try.ntmps65
  go_wp2_with fail
  refine HT.out.mono ?_; rintro e w1 ⟨rfl, e1⟩
  obtain ⟨_, _, x', hh, _, hx', c0, c1, c2, c3, c4⟩ := (H.out.ext e1).ins hi
  cases hh
  obtain rfl : x = x' := by rw [Hx.out] at hx'; exact Option.some.inj hx'
  have E1 := Lib.hid e1
  clear e1 hx' HT H Hx
  obtain ⟨q, hqq⟩ : ∃ q, q = decide (k ∈ edF p i) := ⟨_, rfl⟩
  rw [← hqq] at HQ
  have HQQ := Lib.hid hqq
  clear hqq
  cases tb with
  | true =>
    by_cases hk1 : to_ = (k : Int)
    · have hke : (to_ == (k : Int)) = true := by simp [hk1]
      have Hq : Hid (true = q) := Lib.hid (by rw [HQ.out, decide_eq_true hk1]; rfl)
      clear hk1 HQ HG
      go_wp2_with fail
      go_ret
      exact ⟨ret_boolx (Hq.out.trans HQQ.out), E1.out⟩
    · have hke : (to_ == (k : Int)) = false := by simp [hk1]
      have Hq : Hid (q = (gb && decide (k = i + 1))) := Lib.hid (by rw [HQ.out, decide_eq_false hk1]; rfl)
      clear hk1 HQ
      by_cases hk2 : k = i + 1
      · have hki : ((k : Int) == (i : Int) + 1) = true := by simp; omega
        have Hq2 : Hid (gb = q) := Lib.hid (by rw [Hq.out, decide_eq_true hk2, Bool.and_true])
        clear hk2 Hq
        go_wp2_with fail
        refine (HG.out _).mono ?_; rintro e wx ⟨rfl, ex⟩
        go_wp2_with fail
        go_ret
        exact ⟨ret_boolx (Hq2.out.trans HQQ.out), E1.out.t ex⟩
      · have hki : ((k : Int) == (i : Int) + 1) = false := by simp; omega
        have Hq2 : Hid (false = q) := Lib.hid (by rw [Hq.out, decide_eq_false hk2, Bool.and_false])
        clear hk2 Hq HG
        go_wp2_with fail
        go_ret
        exact ⟨ret_boolx (Hq2.out.trans HQQ.out), E1.out⟩
  | false =>
    have Hq : Hid (q = (gb && decide (k = i + 1))) := Lib.hid (by rw [HQ.out]; rfl)
    clear HQ
    by_cases hk2 : k = i + 1
    · have hki : ((k : Int) == (i : Int) + 1) = true := by simp; omega
      have Hq2 : Hid (gb = q) := Lib.hid (by rw [Hq.out, decide_eq_true hk2, Bool.and_true])
      clear hk2 Hq
      go_wp2_with fail
      refine (HG.out _).mono ?_; rintro e wx ⟨rfl, ex⟩
      go_wp2_with fail
      go_ret
      exact ⟨ret_boolx (Hq2.out.trans HQQ.out), E1.out.t ex⟩
    · have hki : ((k : Int) == (i : Int) + 1) = false := by simp; omega
      have Hq2 : Hid (false = q) := Lib.hid (by rw [Hq.out, decide_eq_false hk2, Bool.and_false])
      clear hk2 Hq HG
      go_wp2_with fail
      go_ret
      exact ⟨ret_boolx (Hq2.out.trans HQQ.out), E1.out⟩
theorem rright_ (A : Option Addr) (n c : Nat) (p : List Ins) (w : World) (h : RdS 5 insC w A n p) :
    Calls Try.prog 64 #[.slice A n c] w fun e w' => e = .returned (.bool (decide ((checkF p).2 = 0))) ∧ Ext w w' := by
  have HC := Lib.hid (rcheck_ A n c p w h)
  unfold CheckP at HC
  obtain ⟨z, hz⟩ : ∃ z, z = (checkF p).2 := ⟨_, rfl⟩
  rw [← hz] at HC ⊢
  have hq : ((z : Int) == 0) = decide (z = 0) := by
    rw [Bool.eq_iff_iff]
    first | (simp; done) | (simp; omega)
  clear h hz
  go_enter Try.func64, Try.ntmps64
  go_wp2_with fail
  refine HC.out.mono ?_; rintro e w1 ⟨rfl, e1⟩
  go_wp2_with fail
  go_ret
  exact ⟨ret_boolx (by simp), e1⟩
set_option maxRecDepth 100000 in
set_option maxHeartbeats 1000000 in
theorem rnext_ (A : Option Addr) (n c : Nat) (p : List Ins) (i : Int) (w : World) (h : RdS 5 insC w A n p) :
    Calls Try.prog 44 #[.slice A n c, .int .i64 i] w (NumsP (nextF p i) w) := by
  have HR := Lib.hid (rright_ A n c p w h)
  have hl := h.1
  by_cases h0 : (checkF p).2 = 0
  · rw [decide_eq_true h0] at HR
    have HP := Lib.hid (rightP_iff.1 h0)
    by_cases h1 : i < 0
    · rw [show nextF p i = ([], 2) by unfold nextF; rw [if_neg (by simpa using h0), if_pos (.inl h1)]]
      clear h h0 HP
      go_enter Try.func44, Try.ntmps44
      go_wp2_with fail
      refine HR.out.mono ?_; rintro e w1 ⟨rfl, e1⟩
      go_wp2_with fail
      go_ret2
      exact ⟨none, 0, rfl, Room.nil, fun k hk => absurd hk foot_none, e1⟩
    · by_cases h2 : (n : Int) ≤ i
      · rw [show nextF p i = ([], 2) by unfold nextF; rw [if_neg (by simpa using h0), if_pos (.inr (by rw [hl]; exact h2))]]
        clear h h0 HP
        go_enter Try.func44, Try.ntmps44
        go_wp2_with fail
        refine HR.out.mono ?_; rintro e w1 ⟨rfl, e1⟩
        go_wp2_with fail
        go_ret2
        exact ⟨none, 0, rfl, Room.nil, fun k hk => absurd hk foot_none, e1⟩
      · obtain ⟨i, rfl⟩ := Int.eq_ofNat_of_zero_le (show 0 ≤ i by omega)
        have hi : i < n := by omega
        have hd1 : decide ((i : Int) < 0) = false := decide_eq_false h1
        have hd2 : decide (n ≤ i) = false := decide_eq_false (by omega)
        have hd3 : decide ((n : Int) ≤ (i : Int)) = false := decide_eq_false h2
        have hnb : n ≤ 256 := by have := HP.out.max; omega
        have HS : Hid (nextF p (i : Int) = (nxR p i n, 0)) := Lib.hid (by
          unfold nextF
          rw [if_neg (by simpa using h0), if_neg (by rw [hl]; omega)]
          rw [show n = p.length from hl.symm, nxR_end HP.out]; simp)
        rw [HS.out]
        have H := Lib.hid h
        clear h h0 HS
        go_enter Try.func44, Try.ntmps44
        go_wp2_with fail
        refine HR.out.mono ?_; rintro e w1 ⟨rfl, e1⟩
        have HN : Hid (NwL intv w none 0 0 [] w1) := Lib.hid ((NwL.nil w).x e1)
        clear e1 HR
        go_wp2_with fail
        go_loopw [6, 7] (fun v6 v7 wr => ∃ (k : Nat) (Ao : Option Addr) (co : Nat), k ≤ n ∧ v7 = .int .i64 (k : Int) ∧ v6 = .slice Ao (nxR p i k).length co ∧ Hid (NwL intv w Ao (nxR p i k).length co (nxR p i k) wr)) (fun _ v _ => n - (intOf v).toNat)
        case atStart => exact ⟨0, none, 0, by omega, rfl, rfl, HN⟩
        case round =>
          clear HN
          obtain ⟨k, Ao, co, hk, rfl, rfl, HN⟩ := hrel
          by_cases hlt : k < n
          · have hltI : (k : Int) < (n : Int) := by omega
            have HE := Lib.hid (redge_ A n c p i k wr (H.out.ext HN.out.ext) (by omega) (by omega) (by omega))
            obtain ⟨lk, hlk⟩ : ∃ l, l = nxR p i k := ⟨_, rfl⟩
            obtain ⟨q, hq⟩ : ∃ q, q = decide (k ∈ edF p i) := ⟨_, rfl⟩
            obtain ⟨mk, hmk⟩ : ∃ m, m = (nxR p i k).length := ⟨_, rfl⟩
            have hmb : mk ≤ 256 := by rw [hmk]; have := nxR_len p i k; omega
            have HNX : Hid (nxR p i (k + 1) = lk ++ if q = true then [k] else []) := Lib.hid (by
              rw [hlk, nxR_succ, hq]
              congr 1
              by_cases hh : k ∈ edF p i
              · simp [hh]
              · simp [hh])
            rw [← hq] at HE
            rw [← hmk, ← hlk] at HN
            rw [← hmk]
            have Hmk : Hid (lk.length = mk) := Lib.hid (by rw [hlk, hmk])
            clear hlk hq hmk
            cases q with
            | false =>
              have HX : Hid (nxR p i (k + 1) = lk) := Lib.hid (by rw [HNX.out]; simp)
              clear HNX
              go_wp2_with fail
              refine HE.out.mono ?_; rintro e w2 ⟨rfl, e2⟩
              have HN2 := Lib.hid (HN.out.x e2)
              clear e2 HN HE
              go_wp2_with fail
              go_roundw
              case rel => exact ⟨k + 1, Ao, co, by omega, by go_num, by rw [HX.out, Hmk.out], Lib.hid (by rw [HX.out, Hmk.out]; exact HN2.out)⟩
              case measure => simp [intOf]; omega
            | true =>
              have HX : Hid (nxR p i (k + 1) = lk ++ [k]) := Lib.hid (by rw [HNX.out]; simp)
              clear HNX
              go_wp2_with fail
              refine HE.out.mono ?_; rintro e w2 ⟨rfl, e2⟩
              have HN2 := Lib.hid (HN.out.x e2)
              clear e2 HN HE
              go_wp2_with (refine wpl_build (by rfl) rfl ul_in info_in [.tmp 30] (by rfl) (by rfl) (by decide) (f := intv) [k] (by rfl) (fun _ => rfl) ?_)
              intro g3 w3 y1 xa lo1 r1; refine Lib.hid ?_
              have HN3 := Lib.hid (HN2.out.x xa)
              have RV := Lib.hid r1
              clear y1 xa lo1 r1 HN2
              go_wp2_with (refine wpl_append_at (by rfl) rfl ul_in info_in rfl rfl HN3.out.room rfl (Src.ofRd ul_in RV.out (fun _ => rfl)) (by simp only [maxLen]; omega) (by omega) ?_)
              intro A3 c3 w4 r3 ch3 ft3; refine Lib.hid ?_
              have HN4 : Hid (NwL intv w A3 (mk + 1) c3 (lk ++ [k]) w4) := Lib.hid (HN3.out.more (Ext.refl _) (by simpa using r3) ch3 ft3)
              clear r3 ch3 ft3 HN3 RV
              have Hl1 : Hid ((nxR p i (k + 1)).length = mk + 1) := Lib.hid (by rw [HX.out]; simp [Hmk.out])
              go_wp2_with fail
              go_roundw
              case rel => exact ⟨k + 1, A3, c3, by omega, by go_num, by rw [Hl1.out], Lib.hid (by rw [Hl1.out, HX.out]; exact HN4.out)⟩
              case measure => simp [intOf]; omega
          · obtain rfl : n = k := by omega
            have HF := Lib.hid HN.out
            clear HN
            go_wp2_with fail
            go_ret2
            exact ⟨Ao, co, rfl, HF.out.room, HF.out.ft, HF.out.ext⟩
  · rw [decide_eq_false h0] at HR
    rw [show nextF p i = ([], 160) by unfold nextF; rw [if_pos h0]]
    clear h h0
    go_enter Try.func44, Try.ntmps44
    go_wp2_with fail
    refine HR.out.mono ?_; rintro e w1 ⟨rfl, e1⟩
    go_wp2_with fail
    go_ret2
    exact ⟨none, 0, rfl, Room.nil, fun k hk => absurd hk foot_none, e1⟩
set_option maxRecDepth 100000 in
set_option maxHeartbeats 1000000 in
theorem rbefore_ (A : Option Addr) (n c : Nat) (p : List Ins) (i : Int) (w : World) (h : RdS 5 insC w A n p) :
    Calls Try.prog 45 #[.slice A n c, .int .i64 i] w (NumsP (befF p i) w) := by
  have HR := Lib.hid (rright_ A n c p w h)
  have hl := h.1
  by_cases h0 : (checkF p).2 = 0
  · rw [decide_eq_true h0] at HR
    have HP := Lib.hid (rightP_iff.1 h0)
    by_cases h1 : i < 0
    · rw [show befF p i = ([], 2) by unfold befF; rw [if_neg (by simpa using h0), if_pos (.inl h1)]]
      clear h h0 HP
      go_enter Try.func45, Try.ntmps45
      go_wp2_with fail
      refine HR.out.mono ?_; rintro e w1 ⟨rfl, e1⟩
      go_wp2_with fail
      go_ret2
      exact ⟨none, 0, rfl, Room.nil, fun k hk => absurd hk foot_none, e1⟩
    · by_cases h2 : (n : Int) ≤ i
      · rw [show befF p i = ([], 2) by unfold befF; rw [if_neg (by simpa using h0), if_pos (.inr (by rw [hl]; exact h2))]]
        clear h h0 HP
        go_enter Try.func45, Try.ntmps45
        go_wp2_with fail
        refine HR.out.mono ?_; rintro e w1 ⟨rfl, e1⟩
        go_wp2_with fail
        go_ret2
        exact ⟨none, 0, rfl, Room.nil, fun k hk => absurd hk foot_none, e1⟩
      · obtain ⟨i, rfl⟩ := Int.eq_ofNat_of_zero_le (show 0 ≤ i by omega)
        have hi : i < n := by omega
        have hd1 : decide ((i : Int) < 0) = false := decide_eq_false h1
        have hd2 : decide (n ≤ i) = false := decide_eq_false (by omega)
        have hd3 : decide ((n : Int) ≤ (i : Int)) = false := decide_eq_false h2
        have hnb : n ≤ 256 := by have := HP.out.max; omega
        have HS : Hid (befF p (i : Int) = (bfR p i n, 0)) := Lib.hid (by
          unfold befF
          rw [if_neg (by simpa using h0), if_neg (by rw [hl]; omega)]
          rw [show n = p.length from hl.symm]; rfl)
        rw [HS.out]
        have H := Lib.hid h
        clear h h0 HS
        go_enter Try.func45, Try.ntmps45
        go_wp2_with fail
        refine HR.out.mono ?_; rintro e w1 ⟨rfl, e1⟩
        have HN : Hid (NwL intv w none 0 0 [] w1) := Lib.hid ((NwL.nil w).x e1)
        clear e1 HR
        go_wp2_with fail
        go_loopw [6, 7] (fun v6 v7 wr => ∃ (k : Nat) (Ao : Option Addr) (co : Nat), k ≤ n ∧ v7 = .int .i64 (k : Int) ∧ v6 = .slice Ao (bfR p i k).length co ∧ Hid (NwL intv w Ao (bfR p i k).length co (bfR p i k) wr)) (fun _ v _ => n - (intOf v).toNat)
        case atStart => exact ⟨0, none, 0, by omega, rfl, rfl, HN⟩
        case round =>
          clear HN
          obtain ⟨k, Ao, co, hk, rfl, rfl, HN⟩ := hrel
          by_cases hlt : k < n
          · have hltI : (k : Int) < (n : Int) := by omega
            have HE := Lib.hid (redge_ A n c p k i wr (H.out.ext HN.out.ext) (by omega) (by omega) (by omega))
            obtain ⟨lk, hlk⟩ : ∃ l, l = bfR p i k := ⟨_, rfl⟩
            obtain ⟨q, hq⟩ : ∃ q, q = decide (i ∈ edF p k) := ⟨_, rfl⟩
            obtain ⟨mk, hmk⟩ : ∃ m, m = (bfR p i k).length := ⟨_, rfl⟩
            have hmb : mk ≤ 256 := by rw [hmk]; have := bfR_len p i k; omega
            have HNX : Hid (bfR p i (k + 1) = lk ++ if q = true then [k] else []) := Lib.hid (by
              rw [hlk, bfR_succ, hq]
              congr 1
              by_cases hh : i ∈ edF p k
              · simp [hh]
              · simp [hh])
            rw [← hq] at HE
            rw [← hmk, ← hlk] at HN
            rw [← hmk]
            have Hmk : Hid (lk.length = mk) := Lib.hid (by rw [hlk, hmk])
            clear hlk hq hmk
            cases q with
            | false =>
              have HX : Hid (bfR p i (k + 1) = lk) := Lib.hid (by rw [HNX.out]; simp)
              clear HNX
              go_wp2_with fail
              refine HE.out.mono ?_; rintro e w2 ⟨rfl, e2⟩
              have HN2 := Lib.hid (HN.out.x e2)
              clear e2 HN HE
              go_wp2_with fail
              go_roundw
              case rel => exact ⟨k + 1, Ao, co, by omega, by go_num, by rw [HX.out, Hmk.out], Lib.hid (by rw [HX.out, Hmk.out]; exact HN2.out)⟩
              case measure => simp [intOf]; omega
            | true =>
              have HX : Hid (bfR p i (k + 1) = lk ++ [k]) := Lib.hid (by rw [HNX.out]; simp)
              clear HNX
              go_wp2_with fail
              refine HE.out.mono ?_; rintro e w2 ⟨rfl, e2⟩
              have HN2 := Lib.hid (HN.out.x e2)
              clear e2 HN HE
              go_wp2_with (refine wpl_build (by rfl) rfl ul_in info_in [.tmp 30] (by rfl) (by rfl) (by decide) (f := intv) [k] (by rfl) (fun _ => rfl) ?_)
              intro g3 w3 y1 xa lo1 r1; refine Lib.hid ?_
              have HN3 := Lib.hid (HN2.out.x xa)
              have RV := Lib.hid r1
              clear y1 xa lo1 r1 HN2
              go_wp2_with (refine wpl_append_at (by rfl) rfl ul_in info_in rfl rfl HN3.out.room rfl (Src.ofRd ul_in RV.out (fun _ => rfl)) (by simp only [maxLen]; omega) (by omega) ?_)
              intro A3 c3 w4 r3 ch3 ft3; refine Lib.hid ?_
              have HN4 : Hid (NwL intv w A3 (mk + 1) c3 (lk ++ [k]) w4) := Lib.hid (HN3.out.more (Ext.refl _) (by simpa using r3) ch3 ft3)
              clear r3 ch3 ft3 HN3 RV
              have Hl1 : Hid ((bfR p i (k + 1)).length = mk + 1) := Lib.hid (by rw [HX.out]; simp [Hmk.out])
              go_wp2_with fail
              go_roundw
              case rel => exact ⟨k + 1, A3, c3, by omega, by go_num, by rw [Hl1.out], Lib.hid (by rw [Hl1.out, HX.out]; exact HN4.out)⟩
              case measure => simp [intOf]; omega
          · obtain rfl : n = k := by omega
            have HF := Lib.hid HN.out
            clear HN
            go_wp2_with fail
            go_ret2
            exact ⟨Ao, co, rfl, HF.out.room, HF.out.ft, HF.out.ext⟩
  · rw [decide_eq_false h0] at HR
    rw [show befF p i = ([], 160) by unfold befF; rw [if_pos h0]]
    clear h h0
    go_enter Try.func45, Try.ntmps45
    go_wp2_with fail
    refine HR.out.mono ?_; rintro e w1 ⟨rfl, e1⟩
    go_wp2_with fail
    go_ret2
    exact ⟨none, 0, rfl, Room.nil, fun k hk => absurd hk foot_none, e1⟩
end Go.Proofs.Ytlneifgihdickaa
