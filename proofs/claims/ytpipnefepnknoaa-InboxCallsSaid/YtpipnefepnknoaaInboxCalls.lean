/- InboxCalls: the walk of the law. -/
import Derived.Test.YtpipnefepnknoaaOpenA
namespace Go.Fx
theorem snoc_ind {α : Type} {p : List α → Prop} (h0 : p []) (h : ∀ l a, p l → p (l ++ [a])) (l : List α) : p l := by
  rw [← l.reverse_reverse]
  induction l.reverse with
  | nil => exact h0
  | cons a t ih => rw [List.reverse_cons]; exact h _ _ ih
abbrev Cs := Bool × Nat × Nat × Nat
def callStep (s : Option Cs) (c : Nat) : Option Cs :=
  match s with
  | none => none
  | some (p, b, d, t) => if (decide (c = 98) || decide (c = 66)) = p then none else
    if c = 98 then some (true, b + 1, d, t) else if c = 66 then some (p, b + 1, d + 1, t) else if c = 116 then some (p, b, d, t + 1) else some (false, b, d + 1, t + 1)
def scan (l : List Nat) : Option Cs := l.foldl callStep (some (false, 0, 0, 0))
theorem scan_snoc (l : List Nat) (c : Nat) : scan (l ++ [c]) = callStep (scan l) c := by unfold scan; rw [List.foldl_append]; rfl
theorem foldl_none (l : List Nat) : l.foldl callStep none = none := by induction l with
  | nil => rfl
  | cons c l ih => exact ih
theorem scan_take {l : List Nat} {v : Cs} (h : scan l = some v) (k : Nat) : ∃ u, scan (l.take k) = some u := by
  cases hu : scan (l.take k) with
  | some u => exact ⟨u, rfl⟩
  | none =>
    have : scan l = (l.drop k).foldl callStep (scan (l.take k)) := by unfold scan; rw [← List.foldl_append, List.take_append_drop]
    rw [this, hu, foldl_none] at h
    cases h
end Go.Fx
namespace Go.Proofs.Ytpipnefepnknoaa
open Go.RowKit Go.Fx
structure CallsOk (st : St) : Prop where
  scan : scan st.calls = some (st.pend, st.put - st.wait.length, st.ans, st.turns)
  le : st.wait.length ≤ st.put
theorem onL_calls : ∀ (ws : List (List Nat)) (st : St) (out : List (List Nat)), st.wait = ws → st.pend = false → CallsOk st → CallsOk (onL ws st out).1
  | [], st, out, hw, hp, h => by
    have e : ({ st with wait := [] } : St) = st := by rw [← hw]
    show CallsOk { st with wait := [] }
    rw [e]; exact h
  | f :: fs, st, out, hw, hp, h => by
    rw [onL_cons]
    have h1 := h.scan
    have h2 := h.le
    rw [hw] at h1 h2
    rw [hp] at h1
    simp only [List.length_cons] at h1 h2
    by_cases h0 : needs f = 0
    · rw [if_pos h0]
      refine onL_calls fs (stDone st f fs) _ rfl rfl ⟨?_, by simp only [stDone]; omega⟩
      simp only [stDone]
      rw [scan_snoc, h1]
      simp [callStep]
      omega
    · rw [if_neg h0]
      refine ⟨?_, by simp only [stPend]; omega⟩
      simp only [stPend]
      rw [scan_snoc, h1]
      simp [callStep]
      omega
theorem on_calls (st : St) (out : List (List Nat)) (h : CallsOk st) : CallsOk (on st out).1 := by
  unfold on
  by_cases hp : st.pend = true
  · rw [if_pos hp]; exact h
  · rw [if_neg hp]; exact onL_calls _ st out rfl (by simpa using hp) h
theorem put_calls (st : St) (f : List Nat) (h : CallsOk st) : CallsOk (putF st f).1 :=
  on_calls _ _ ⟨by simp only [List.length_append, List.length_cons, List.length_nil]; rw [h.scan]; congr 3; omega, by have := h.le; simp; omega⟩
theorem turn_calls (st : St) (h : CallsOk st) : CallsOk (turnF st).1 := by
  unfold turnF
  by_cases hp : st.pend = true
  · rw [if_pos hp]
    have h1 := h.scan
    rw [hp] at h1
    by_cases h0 : st.left - 1 = 0
    · rw [if_pos h0]
      refine on_calls _ _ ⟨?_, h.le⟩
      simp only [turn1]
      rw [if_pos h0, scan_snoc, h1]
      simp [callStep]
    · rw [if_neg h0]
      refine ⟨?_, h.le⟩
      simp only [turn1]
      rw [if_neg h0, scan_snoc, h1]
      simp [callStep, hp]
  · rw [if_neg hp]; exact ⟨h.scan, h.le⟩
theorem turnsF_ind {P : St → Prop} (ht : ∀ st, P st → P (turnF st).1) (k : Nat) (p : St × List (List Nat)) (h : P p.1) : P (turnsF k p).1 := by
  induction k with
  | zero => exact h
  | succ k ih => exact ht _ ih
theorem playF_ind {P : St → Prop} (h0 : P st0) (ht : ∀ st, P st → P (turnF st).1) (hp : ∀ st f, P st → f.length ≤ 40 → P (putF st f).1) (l : List ActN) : P (playF l).1 := by
  induction l using snoc_ind with
  | h0 => exact h0
  | h l a ih =>
    rw [playF_snoc]
    unfold actF
    cases hq : putOf a with
    | none => exact turnsF_ind ht _ _ ih
    | some f =>
      refine hp _ _ (turnsF_ind ht _ _ ih) ?_
      unfold putOf at hq
      split at hq
      · cases hq
      · split at hq
        · cases hq; assumption
        · cases hq
theorem quiet_eq {P : Program} {f : FuncId} {args : Array Value} {w : World} {n : Nat} {v : Value}
    (h : Calls P f args (w.drewN n) fun e w' => e = .returned v ∧ w.drewN n = w') : Calls P f args (w.drewN n) fun e w'' => e = .returned v ∧ ∃ m, w'' = w.drewN m :=
  h.mono fun _ _ ⟨he, hm⟩ => ⟨he, n, hm.symm⟩
theorem play_calls (l : List ActN) : CallsOk (playF l).1 := playF_ind ⟨rfl, by simp [st0]⟩ turn_calls (fun st f h _ => put_calls st f h) l

set_option maxRecDepth 100000 in
set_option maxHeartbeats 2000000 in
theorem calls_ (A : Option Addr) (n c : Nat) (al : List ActN) (w : World) (hacts : Acts w A n al) (hnc : n ≤ c) (hc : c ≤ maxLen) :
    Calls Try.prog 3 #[.slice A n c] w fun e w' => e = .returned (.bool true) ∧ Ext w w' := by
  have HP := Lib.hid (fun w' (e : Ext w w') => play_ A n c al w' (hacts.ext e) hnc hc)
  have HA := Lib.hid (awake w)
  clear hacts hnc hc
  go_enter Try.func3, Try.ntmps3
  go_wp2_with fail
  refine HA.out.mono ?_; rintro e w1 ⟨rfl, e1⟩
  go_wp2_with fail
  refine (HP.out w1 e1).mono ?_
  rintro e w2 ⟨ib, L, A2, n2, c2, os, st, outs, hpl⟩
  have hret := hpl.ret
  have Hpl := Lib.hid hpl
  have hsb := hpl.sys.box.srv.blk
  rw [hpl.sv] at hsb
  obtain ⟨d0, d1, d2, d3⟩ := hsb.c0
  unfold slv at d0 d2 d3
  have hok := play_calls (al.take 40)
  rw [← hpl.res] at hok
  have Hok := Lib.hid hok
  have hcal : Rd u8v w2 L.C.A L.C.n st.calls := hpl.sys.box.srv.cal.rd
  have hcl : L.C.n ≤ 1000000000 := by have := hpl.good.fine.calls; rw [hpl.sys.box.srv.clen]; omega
  have hput : st.put ≤ 100000000 := by have := hpl.good.fine.put; omega
  have hans : st.ans ≤ 100000000 := by have := hpl.good.fine.ans; omega
  have htur : st.turns ≤ 100000000 := by have := hpl.good.fine.turns; omega
  have Hcl := Lib.hid hpl.sys.box.srv.clen
  have E1 := Lib.hid e1
  clear hpl hsb hok e1
  subst hret
  go_wp2_with fail
  go_loopw [7, 8, 9, 10, 30] (fun vp vb vd vt i wr => ∃ (k : Nat) (p : Bool) (b d t : Nat), k ≤ L.C.n ∧ i = .int .i64 (k : Int) ∧ vp = .bool p ∧ vb = .int .i64 (b : Int) ∧ vd = .int .i64 (d : Int) ∧ vt = .int .i64 (t : Int) ∧ Hid (scan (st.calls.take k) = some (p, b, d, t) ∧ b ≤ k ∧ d ≤ k ∧ t ≤ k) ∧ wr = w2) (fun _ _ _ _ i _ => L.C.n - (intOf i).toNat)
  case atStart => exact ⟨0, false, 0, 0, 0, by omega, rfl, rfl, rfl, rfl, rfl, Lib.hid ⟨rfl, by omega, by omega, by omega⟩, rfl⟩
  case round =>
    obtain ⟨k, p, b, d, t, hk, rfl, rfl, rfl, rfl, rfl, H, rfl⟩ := hrel
    obtain ⟨_, hb1, hd1, ht1⟩ := H.out
    by_cases hlt : k < L.C.n
    · have hlt' : (k : Int) < (L.C.n : Int) := by omega
      obtain ⟨bb, oo, x, hA, _, hx, hc⟩ := hcal.at_ hlt
      obtain ⟨u, hu⟩ := scan_take Hok.out.scan (k + 1)
      rw [take_snoc hx, scan_snoc, H.out.1] at hu
      have Hx := Lib.hid hx
      clear hx
      rw [hA]
      clear hA d0 d1 d2 d3
      simp only [callStep] at hu
      by_cases h98 : x = 98
      · subst h98
        cases p with
        | true => simp at hu
        | false =>
          have H' : Hid (scan (st.calls.take (k + 1)) = some (true, b + 1, d, t) ∧ b + 1 ≤ k + 1 ∧ d ≤ k + 1 ∧ t ≤ k + 1) := Lib.hid ⟨by rw [take_snoc Hx.out, scan_snoc, H.out.1]; simp [callStep], by omega, by omega, by omega⟩
          clear hu
          go_wp2_with fail
          go_roundw
          case rel => exact ⟨k + 1, true, b + 1, d, t, by omega, by go_num, rfl, by go_num, by go_num, by go_num, H', trivial⟩
          case measure => simp [intOf]; omega
      · by_cases h66 : x = 66
        · subst h66
          cases p with
          | true => simp at hu
          | false =>
            have H' : Hid (scan (st.calls.take (k + 1)) = some (false, b + 1, d + 1, t) ∧ b + 1 ≤ k + 1 ∧ d + 1 ≤ k + 1 ∧ t ≤ k + 1) := Lib.hid ⟨by rw [take_snoc Hx.out, scan_snoc, H.out.1]; simp [callStep], by omega, by omega, by omega⟩
            clear hu
            go_wp2_with fail
            go_roundw
            case rel => exact ⟨k + 1, false, b + 1, d + 1, t, by omega, by go_num, rfl, by go_num, by go_num, by go_num, H', trivial⟩
            case measure => simp [intOf]; omega
        · have q98 : ((x : Int) == 98) = false := by simp; omega
          have q66 : ((x : Int) == 66) = false := by simp; omega
          cases p with
          | false => simp [h98, h66] at hu
          | true =>
            by_cases h116 : x = 116
            · subst h116
              have H' : Hid (scan (st.calls.take (k + 1)) = some (true, b, d, t + 1) ∧ b ≤ k + 1 ∧ d ≤ k + 1 ∧ t + 1 ≤ k + 1) := Lib.hid ⟨by rw [take_snoc Hx.out, scan_snoc, H.out.1]; simp [callStep], by omega, by omega, by omega⟩
              clear hu
              go_wp2_with fail
              go_roundw
              case rel => exact ⟨k + 1, true, b, d, t + 1, by omega, by go_num, rfl, by go_num, by go_num, by go_num, H', trivial⟩
              case measure => simp [intOf]; omega
            · have q116 : ((x : Int) == 116) = false := by simp; omega
              have H' : Hid (scan (st.calls.take (k + 1)) = some (false, b, d + 1, t + 1) ∧ b ≤ k + 1 ∧ d + 1 ≤ k + 1 ∧ t + 1 ≤ k + 1) := Lib.hid ⟨by rw [take_snoc Hx.out, scan_snoc, H.out.1]; simp [callStep, h98, h66, h116], by omega, by omega, by omega⟩
              clear hu
              go_wp2_with fail
              go_roundw
              case rel => exact ⟨k + 1, false, b, d + 1, t + 1, by omega, by go_num, rfl, by go_num, by go_num, by go_num, H', trivial⟩
              case measure => simp [intOf]; omega
    · obtain rfl : k = L.C.n := by omega
      have hx : st.calls.take L.C.n = st.calls := List.take_of_length_le (by rw [Hcl.out]; exact Nat.le_refl _)
      have h1 := H.out.1
      rw [hx, Hok.out.scan] at h1
      cases h1
      have HC := Lib.hid (ib_Counts ib L st _ Hpl.out.sys.box)
      have hle := Hok.out.le
      have hsub : (st.put : Int) - ((st.wait.length : Nat) : Int) = ((st.put - st.wait.length : Nat) : Int) := by omega
      have hsubw : IntKind.i64.wrap ((st.put : Int) - ((st.wait.length : Nat) : Int)) = ((st.put - st.wait.length : Nat) : Int) := by rw [hsub]; exact IntWalk.i64_in _ (by omega)
      have hn2 : n2 = st.ans := by rw [Hpl.out.resp.n_, Hpl.out.ans]
      have q1 : ((n2 : Int) == ((st.ans : Nat) : Int)) = true := by rw [hn2]; simp
      have q2 : ((st.ans : Int) == ((n2 : Nat) : Int)) = true := by rw [hn2]; simp
      have q3 : (st.pend == st.pend) = true := by simp
      have q4 : ((st.turns : Int) == (st.turns : Int)) = true := by simp
      have q5 : (((st.put - st.wait.length : Nat) : Int) == ((st.put - st.wait.length : Nat) : Int)) = true := by simp
      clear hx hn2 hsub hle
      go_wp2_with fail
      refine HC.out.mono ?_
      rintro e w3 ⟨rfl, e3⟩
      go_wp2_with fail
      have b0 := Blk.new w3 33 #[.int .i64 (st.put : Int), .int .i64 (st.ans : Int), .int .i64 (st.turns : Int), .int .i64 (st.idle : Int)]
      obtain ⟨g0, g1, g2, g3⟩ := b0.c0
      obtain ⟨k0, k1, k2, k3⟩ := b0.f0
      have e4 := e3.t (Ext.alloc w3 (.cells #[.int .i64 (st.put : Int), .int .i64 (st.ans : Int), .int .i64 (st.turns : Int), .int .i64 (st.idle : Int)] 33))
      generalize w3.alloc (.cells #[.int .i64 (st.put : Int), .int .i64 (st.ans : Int), .int .i64 (st.turns : Int), .int .i64 (st.idle : Int)] 33) = w4 at b0 g0 g1 g2 g3 e4 ⊢
      have hbx := fun m => Hpl.out.sys.box.ext (e4.t (Ext.drewN w4 m))
      have HP := Lib.hid (fun m => quiet_eq (ib_Pending ib L st _ (hbx m)))
      have HW := Lib.hid (fun m => quiet_eq (ib_Waiting ib L st _ (hbx m)))
      have E4 := Lib.hid e4
      clear hbx e3 e4
      go_quiet ((first | (go_at_call 14; exact HP.out _) | (go_at_call 15; exact HW.out _)))
      go_wp2_with fail
      go_ret
      exact ⟨rfl, E1.out.t (Hpl.out.sys.below.t (E4.out.t (Ext.drewN _ _)))⟩
theorem walkInboxCalls (A : Option Addr) (n c : Nat) (al : List ActN) (w : World) (h : ActsArg w A n c al) :
    Calls Try.prog 3 #[.slice A n c] w fun e w' => e = .returned (.bool true) ∧ Ext w w' := calls_ A n c al w h.acts h.le h.max
end Go.Proofs.Ytpipnefepnknoaa
