/- Cme: programs made of small numbers: the law's Made; they are right. -/
import Derived.Test.YtiakcehhegippaaCmd
import Derived.Test.YtiakcehhegippaaCpb
import Derived.Test.YtiakcehhegippaaCie
namespace Go.Fx
open Go.RowKit Go.Proofs Go.Proofs.Ytiakcehhegippaa
def halt0 : Ins := ⟨1, 0, 0, 0, 0⟩
def madeF (l : List Ins) : List Ins := (l.take 40).map (mdI ((l.take 40).length + 1)) ++ [halt0]
end Go.Fx
namespace Go.Proofs.Ytiakcehhegippaa
open Go.RowKit Go.Fx
theorem sm_toI {A : Option Addr} {n c hi : Nat} {li : Int} (w : World) (e : li = (hi : Int)) (h2 : hi ≤ c) :
    (Instr.sliceAt 46 (.slice A n c) none (some (.int .i64 li)) none).run Try.prog w = .ok (.slice A hi c) w := by
  subst e
  have h4 : (hi : Int) ≤ (c : Int) := by omega
  have h5 : (0 : Int) ≤ (hi : Int) := by omega
  simp [go_sem, sliced, h4, Addr.add]
set_option maxRecDepth 100000 in
set_option maxHeartbeats 2000000 in
theorem makes_ (A : Option Addr) (n c : Nat) (l : List Ins) (w : World) (h : RdS 5 insC w A n l) (hok : ∀ i ∈ l, InsOk i) (hnc : n ≤ c) (_hc : c ≤ maxLen) :
    Calls Try.prog 22 #[.slice A n c] w fun e w' => ∃ A' n' c', e = .returned (.slice A' n' c') ∧ NewS w (madeF l) w' A' n' c' := by
  have key : ∀ M, M ≤ n → M ≤ 40 → (M = n ∨ M = 40) → RdS 5 insC w A M (l.take 40) := fun M h1 h2 h3 => by
    have h4 := h.take (k := M) h1
    rcases h3 with h3 | h3
    · rw [List.take_of_length_le (by rw [h.1]; omega)] at h4
      rw [List.take_of_length_le (by rw [h.1]; omega)]; exact h4
    · rw [h3] at h4 ⊢; exact h4
  obtain ⟨q, hq⟩ : ∃ q, q = l.take 40 := ⟨_, rfl⟩
  rw [← hq] at key
  have Hok : Hid (∀ i ∈ q, InsOk i) := Lib.hid (fun i hi => hok i (by rw [hq] at hi; exact List.mem_of_mem_take hi))
  have hF : ∀ M, q.length = M → madeF l = q.map (mdI (M + 1)) ++ [halt0] := fun M hM => by unfold madeF; rw [← hq, hM]
  have Hkey := Lib.hid key
  have HFF := Lib.hid hF
  clear h hok hq hF key
  by_cases h40 : n ≤ 40
  · have h40I : (n : Int) ≤ 40 := by omega
    have hsl := fun w' => sm_toI (A := A) (n := n) (c := c) (hi := n) (li := (n : Int)) w' rfl (by omega)
    have H := Lib.hid (Hkey.out n (Nat.le_refl _) h40 (.inl rfl))
    obtain ⟨N1, hN1⟩ : ∃ N1, N1 = n + 1 := ⟨_, rfl⟩
    have hN1I : (n : Int) + 1 = (N1 : Int) := by omega
    obtain ⟨Q, hQ⟩ : ∃ Q, Q = q.map (mdI N1) := ⟨_, rfl⟩
    have HQ := Lib.hid hQ
    have HF : Hid (madeF l = Q ++ [halt0]) := Lib.hid (by rw [HFF.out n H.out.1, hQ, hN1])
    clear hQ
    have hb1 : N1 ≤ 41 := by omega
    have hb2 : 1 ≤ N1 := by omega
    clear hN1
    go_enter Try.func22, Try.ntmps22
    go_wp2_with fail
    go_loopw [3, 13] (fun v3 v13 wr => ∃ (k : Nat) (Ao : Option Addr) (co : Nat), k ≤ n ∧ v13 = .int .i64 (k : Int) ∧ v3 = .slice Ao k co ∧ Hid (NewS w (Q.take k) wr Ao k co)) (fun _ i _ => n - (intOf i).toNat)
    case atStart => exact ⟨0, none, 0, by omega, rfl, rfl, Lib.hid (NewS.nil w)⟩
    case round =>
      obtain ⟨k, Ao, co, hk, rfl, rfl, HN⟩ := hrel
      by_cases hlt : k < n
      · have hltI : (k : Int) < (n : Int) := by omega
        obtain ⟨b, o, i, rfl, _, hi, c0, c1, c2, c3, c4⟩ := (H.out.ext HN.out.ext).ins hlt
        have Hi := Lib.hid hi
        have HM := Lib.hid (fun w' => made_ i N1 w' (Hok.out i (List.mem_of_getElem? hi)) (by omega) (by omega))
        obtain ⟨y, hy⟩ : ∃ y, y = mdI N1 i := ⟨_, rfl⟩
        rw [← hy] at HM
        unfold insV at HM
        have Hy : Hid (Q[k]? = some y) := Lib.hid (by rw [HQ.out, List.getElem?_map, Hi.out, hy]; rfl)
        clear hi hy
        go_wp2_with fail
        refine (HM.out _).mono ?_; rintro e w1 ⟨rfl, e1⟩
        have HN1 := Lib.hid (HN.out.exte ((Ext.alloc wr _).t e1))
        clear e1 HM c0 c1 c2 c3 c4
        go_wp2_with (refine wpl_buildS insC_len (by decide) (by rfl) rfl ul_ins info_ins [.tmp 22] (by rfl) (by rfl) (by decide) [y] (by rfl) ?_)
        intro g w2 b2 e2 lo2 r2; refine Lib.hid ?_
        have HN2 := Lib.hid (HN1.out.exte e2)
        have R2 := Lib.hid r2
        clear b2 e2 lo2 r2
        go_wp2_with (refine wpl_append_atS (by rfl) rfl ul_ins info_ins rfl rfl HN2.out.room rfl (Src.ofRdS ul_ins insC_len R2.out insC_one) (by unfold maxLen; omega) (by omega) ?_)
        intro A3 c3 w3 r3 ch3 ft3; refine Lib.hid ?_
        have HN3 : Hid (NewS w (Q.take (k + 1)) w3 A3 (k + 1) c3) := Lib.hid (by rw [take_snoc Hy.out]; exact HN2.out.more (q := [y]) (Ext.refl _) (by rw [List.flatMap_singleton]; exact r3) ch3 ft3)
        clear r3 ch3 ft3
        go_wp2_with fail
        go_roundw
        case rel => exact ⟨k + 1, A3, c3, by omega, by go_num, rfl, HN3⟩
        case measure => simp [intOf]; omega
      · obtain rfl : k = n := by omega
        have HN1 : Hid (NewS w Q wr Ao k co) := Lib.hid (by have h1 := HN.out; rw [List.take_of_length_le (by rw [HQ.out, List.length_map, H.out.1]; omega)] at h1; exact h1)
        clear HN
        go_wp2_with (refine wpl_buildS insC_len (by decide) (by rfl) rfl ul_ins info_ins [.tmp 27] (by rfl) (by rfl) (by decide) [halt0] (by rfl) ?_)
        intro g w2 b2 e2 lo2 r2; refine Lib.hid ?_
        have HN2 := Lib.hid (HN1.out.exte e2)
        have R2 := Lib.hid r2
        clear b2 e2 lo2 r2
        go_wp2_with (refine wpl_append_atS (by rfl) rfl ul_ins info_ins rfl rfl HN2.out.room rfl (Src.ofRdS ul_ins insC_len R2.out insC_one) (by unfold maxLen; omega) (by omega) ?_)
        intro A3 c3 w3 r3 ch3 ft3; refine Lib.hid ?_
        have HN3 : Hid (NewS w (Q ++ [halt0]) w3 A3 (k + 1) c3) := Lib.hid (HN2.out.more (q := [halt0]) (Ext.refl _) (by rw [List.flatMap_singleton]; exact r3) ch3 ft3)
        clear r3 ch3 ft3
        go_wp2_with fail
        go_ret
        exact ⟨_, _, _, rfl, by rw [HF.out]; exact HN3.out⟩
  · have h40I : ¬ (n : Int) ≤ 40 := by omega
    have h40J : (40 : Int) ≤ (n : Int) := by omega
    have hsl := fun w' => sm_toI (A := A) (n := n) (c := c) (hi := 40) (li := 40) w' rfl (by omega)
    obtain ⟨m, hm⟩ : ∃ m : Nat, m = 40 := ⟨_, rfl⟩
    have H := Lib.hid (Hkey.out m (by omega) (by omega) (.inr hm))
    obtain ⟨N1, hN1⟩ : ∃ N1, N1 = m + 1 := ⟨_, rfl⟩
    have hN1I : (m : Int) + 1 = (N1 : Int) := by omega
    obtain ⟨Q, hQ⟩ : ∃ Q, Q = q.map (mdI N1) := ⟨_, rfl⟩
    have HQ := Lib.hid hQ
    have HF : Hid (madeF l = Q ++ [halt0]) := Lib.hid (by rw [HFF.out m H.out.1, hQ, hN1])
    clear hQ
    have hb1 : N1 ≤ 41 := by omega
    have hb2 : 1 ≤ N1 := by omega
    have hs40 : Value.slice A 40 c = Value.slice A m c := by rw [hm]
    have hi40 : Value.int .i64 (max 40 0) = Value.int .i64 (m : Int) := by rw [hm]; rfl
    have Hs40 := Lib.hid hs40
    have Hi40 := Lib.hid hi40
    have Hj40 : Hid (Value.int .i64 40 = Value.int .i64 (m : Int)) := Lib.hid (by rw [hm]; rfl)
    have hmb : m ≤ 40 := by omega
    clear hN1 hm hs40 hi40
    go_enter Try.func22, Try.ntmps22
    go_wp2_with fail
    rw [Hs40.out]
    first | rw [Hi40.out] | rw [Hj40.out]
    go_loopw [3, 13] (fun v3 v13 wr => ∃ (k : Nat) (Ao : Option Addr) (co : Nat), k ≤ m ∧ v13 = .int .i64 (k : Int) ∧ v3 = .slice Ao k co ∧ Hid (NewS w (Q.take k) wr Ao k co)) (fun _ i _ => m - (intOf i).toNat)
    case atStart => exact ⟨0, none, 0, by omega, rfl, rfl, Lib.hid (NewS.nil w)⟩
    case round =>
      obtain ⟨k, Ao, co, hk, rfl, rfl, HN⟩ := hrel
      by_cases hlt : k < m
      · have hltI : (k : Int) < (m : Int) := by omega
        obtain ⟨b, o, i, rfl, _, hi, c0, c1, c2, c3, c4⟩ := (H.out.ext HN.out.ext).ins hlt
        have Hi := Lib.hid hi
        have HM := Lib.hid (fun w' => made_ i N1 w' (Hok.out i (List.mem_of_getElem? hi)) (by omega) (by omega))
        obtain ⟨y, hy⟩ : ∃ y, y = mdI N1 i := ⟨_, rfl⟩
        rw [← hy] at HM
        unfold insV at HM
        have Hy : Hid (Q[k]? = some y) := Lib.hid (by rw [HQ.out, List.getElem?_map, Hi.out, hy]; rfl)
        clear hi hy
        go_wp2_with fail
        refine (HM.out _).mono ?_; rintro e w1 ⟨rfl, e1⟩
        have HN1 := Lib.hid (HN.out.exte ((Ext.alloc wr _).t e1))
        clear e1 HM c0 c1 c2 c3 c4
        go_wp2_with (refine wpl_buildS insC_len (by decide) (by rfl) rfl ul_ins info_ins [.tmp 22] (by rfl) (by rfl) (by decide) [y] (by rfl) ?_)
        intro g w2 b2 e2 lo2 r2; refine Lib.hid ?_
        have HN2 := Lib.hid (HN1.out.exte e2)
        have R2 := Lib.hid r2
        clear b2 e2 lo2 r2
        go_wp2_with (refine wpl_append_atS (by rfl) rfl ul_ins info_ins rfl rfl HN2.out.room rfl (Src.ofRdS ul_ins insC_len R2.out insC_one) (by unfold maxLen; omega) (by omega) ?_)
        intro A3 c3 w3 r3 ch3 ft3; refine Lib.hid ?_
        have HN3 : Hid (NewS w (Q.take (k + 1)) w3 A3 (k + 1) c3) := Lib.hid (by rw [take_snoc Hy.out]; exact HN2.out.more (q := [y]) (Ext.refl _) (by rw [List.flatMap_singleton]; exact r3) ch3 ft3)
        clear r3 ch3 ft3
        go_wp2_with fail
        go_roundw
        case rel => exact ⟨k + 1, A3, c3, by omega, by go_num, rfl, HN3⟩
        case measure => simp [intOf]; omega
      · obtain rfl : k = m := by omega
        have HN1 : Hid (NewS w Q wr Ao k co) := Lib.hid (by have h1 := HN.out; rw [List.take_of_length_le (by rw [HQ.out, List.length_map, H.out.1]; omega)] at h1; exact h1)
        clear HN
        go_wp2_with (refine wpl_buildS insC_len (by decide) (by rfl) rfl ul_ins info_ins [.tmp 27] (by rfl) (by rfl) (by decide) [halt0] (by rfl) ?_)
        intro g w2 b2 e2 lo2 r2; refine Lib.hid ?_
        have HN2 := Lib.hid (HN1.out.exte e2)
        have R2 := Lib.hid r2
        clear b2 e2 lo2 r2
        go_wp2_with (refine wpl_append_atS (by rfl) rfl ul_ins info_ins rfl rfl HN2.out.room rfl (Src.ofRdS ul_ins insC_len R2.out insC_one) (by unfold maxLen; omega) (by omega) ?_)
        intro A3 c3 w3 r3 ch3 ft3; refine Lib.hid ?_
        have HN3 : Hid (NewS w (Q ++ [halt0]) w3 A3 (k + 1) c3) := Lib.hid (HN2.out.more (q := [halt0]) (Ext.refl _) (by rw [List.flatMap_singleton]; exact r3) ch3 ft3)
        clear r3 ch3 ft3
        go_wp2_with fail
        go_ret
        exact ⟨_, _, _, rfl, by rw [HF.out]; exact HN3.out⟩
end Go.Proofs.Ytiakcehhegippaa
