/- Tlp: Theirs, slices.Equal at instructions; the contracts of flow and of its reference, told alike. -/
import Derived.Test.YtlneifgihdickaaAkb
import Derived.Test.YtlneifgihdickaaRbk
import Derived.Test.YtlneifgihdickaaRdm
import Derived.Laws.StructEq
namespace Go.Proofs.Ytlneifgihdickaa
open Go.RowKit Go.Fx
theorem guard_insT (w : World) (op : BinOp) (x y : Operand) (xs ys : Array Value) : (eqGuard op 34 x y (.agg xs) (.agg ys)).run Try.prog w = .ok () w := run_eqGuard_agg w op 34 x y xs ys (by kernel_rfl)
theorem fields_insT : (Try.prog.fieldsOf 34).toList = [⟨"Op", 5, 0, false, "", "", 0⟩, ⟨"A", 5, 1, false, "", "", 1⟩, ⟨"B", 5, 2, false, "", "", 2⟩, ⟨"C", 5, 3, false, "", "", 3⟩, ⟨"N", 2, 4, false, "", "", 8⟩] := by kernel_rfl
set_option maxRecDepth 10000 in
theorem eq_insT (w : World) (i j : Ins) : (Op.equalIn 10000 34 (insV i) (insV j)).run Try.prog w = .ok (decide (i = j)) w := by
  have he : ∀ (a b : Int) (w : World), (Op.equalIn 9999 5 (.int .u8 a) (.int .u8 b)).run Try.prog w = .ok (a == b) w := fun a b w => run_equalIn_int (P := Try.prog) w 9998 5 .u8 .u8 a b Try.underlying5
  have hn : ∀ (a b : Int) (w : World), (Op.equalIn 9999 2 (.int .i64 a) (.int .i64 b)).run Try.prog w = .ok (a == b) w := fun a b w => run_equalIn_int (P := Try.prog) w 9998 2 .i64 .i64 a b Try.underlying2
  have hp : ∀ (i : Ins) (w : World), (part 5 (insC i).toArray 0).run Try.prog w = .ok (.int .u8 (i.op : Int)) w ∧ (part 5 (insC i).toArray 1).run Try.prog w = .ok (.int .u8 (i.a : Int)) w ∧ (part 5 (insC i).toArray 2).run Try.prog w = .ok (.int .u8 (i.b : Int)) w ∧ (part 5 (insC i).toArray 3).run Try.prog w = .ok (.int .u8 (i.c : Int)) w ∧ (part 2 (insC i).toArray 4).run Try.prog w = .ok (.int .i64 i.n) w := by
    intro i w
    refine ⟨?_, ?_, ?_, ?_, ?_⟩ <;> simp [go_sem, insC]
  have h0 : ∀ (i : Ins) w, _ := fun i w => (hp i w).1
  have h1 : ∀ (i : Ins) w, _ := fun i w => (hp i w).2.1
  have h2 : ∀ (i : Ins) w, _ := fun i w => (hp i w).2.2.1
  have h3 : ∀ (i : Ins) w, _ := fun i w => (hp i w).2.2.2.1
  have h4 : ∀ (i : Ins) w, _ := fun i w => (hp i w).2.2.2.2
  rw [insV_agg, insV_agg, show (10000 : Nat) = 9999 + 1 from rfl, run_equalIn_struct w 9999 34 _ _ (by kernel_rfl) (by kernel_rfl), fields_insT]
  generalize (9999 : Nat) = D at *
  simp only [Op.eqFields, Sem.run_bind, Sem.run_ite, Sem.run_pure, h0, h1, h2, h3, h4, he, hn, Result.andThen_ok, ne_eq, show ¬ ("Op" = "_") by decide, show ¬ ("A" = "_") by decide, show ¬ ("B" = "_") by decide, show ¬ ("C" = "_") by decide, show ¬ ("N" = "_") by decide, not_false_eq_true, if_true]
  obtain ⟨o, a, b, c, n⟩ := i
  obtain ⟨o', a', b', c', n'⟩ := j
  by_cases e0 : o = o' <;> by_cases e1 : a = a' <;> by_cases e2 : b = b' <;> by_cases e3 : c = c' <;> by_cases e4 : n = n' <;> simp [e0, e1, e2, e3, e4, Int.natCast_inj]
theorem neq_insT (w : World) (i j : Ins) : (binOp .neq 34 (insV i) (insV j)).run Try.prog w = .ok (.bool (!decide (i = j))) w := by
  rw [insV_agg, insV_agg, run_neq_struct, ← insV_agg, ← insV_agg, eq_insT]
  rfl
theorem ne_of_ins {xs ys : List Ins} {k : Nat} {a b : Ins} (hx : xs[k]? = some a) (hy : ys[k]? = some b) (h : a ≠ b) : xs ≠ ys := by
  rintro rfl; rw [hx] at hy; exact h (Option.some.inj hy)
set_option maxRecDepth 100000 in
set_option maxHeartbeats 1000000 in
theorem equalI (A1 A2 : Option Addr) (n1 n2 c1 c2 : Nat) (xs ys : List Ins) (w : World) (h1 : RdS 5 insC w A1 n1 xs) (h2 : RdS 5 insC w A2 n2 ys) (m1 : n1 ≤ 1000000000000) (m2 : n2 ≤ 1000000000000) :
    Calls Try.prog 52 #[.slice A1 n1 c1, .slice A2 n2 c2] w fun e w' => e = .returned (.bool (decide (xs = ys))) ∧ Ext w w' := by
  have hl1 := h1.1
  have hl2 := h2.1
  by_cases hn : n1 = n2
  · subst hn
    have hne : ((n1 : Int) != (n1 : Int)) = false := by simp
    have H1 := Lib.hid h1
    have H2 := Lib.hid h2
    have hgu := fun w' op a b xs ys => guard_insT w' op a b xs ys
    clear h1 h2
    go_enter Try.func52, Try.ntmps52
    go_wp2
    go_loopw [13] (fun i wr => ∃ k : Nat, k ≤ n1 ∧ i = .int .i64 (k : Int) ∧ Hid (xs.take k = ys.take k) ∧ ∃ q, wr = w.drewN q) (fun i _ => n1 - (intOf i).toNat)
    case atStart => exact ⟨0, by omega, rfl, Lib.hid (by simp), 0, rfl⟩
    case round =>
      obtain ⟨k, hk, rfl, H, q, rfl⟩ := hrel
      by_cases hlt : k < n1
      · obtain ⟨b1, o1, x, rfl, _, hx, c0, c1', c2', c3, c4⟩ := H1.out.ins hlt
        obtain ⟨b2, o2, y, rfl, _, hy, d0, d1, d2, d3, d4⟩ := H2.out.ins hlt
        have hli : (k : Int) < (n1 : Int) := by omega
        have Hx := Lib.hid hx
        have Hy := Lib.hid hy
        have hneq := fun w' => neq_insT w' x y
        unfold insV at hneq
        clear hx hy
        by_cases hxy : x = y
        · subst hxy
          rw [show decide (x = x) = true from decide_eq_true rfl] at hneq
          go_wp2
          go_quiet (fail)
          go_wp2
          go_roundw
          case rel => exact ⟨k + 1, by omega, by go_num, Lib.hid (by rw [take_snoc Hx.out, take_snoc Hy.out, H.out]), _, rfl⟩
          case measure => simp [intOf]; omega
        · rw [show decide (x = y) = false from decide_eq_false hxy] at hneq
          go_wp2
          go_quiet (fail)
          go_wp2
          go_ret
          exact ⟨ret_bool (by symm; simpa using ne_of_ins Hx.out Hy.out hxy), (Ext.drewN _ _).t (Ext.drewN _ _)⟩
      · obtain rfl : k = n1 := by omega
        go_wp2
        go_ret
        refine ⟨ret_bool ?_, Ext.drewN _ _⟩
        have := H.out
        rw [List.take_of_length_le (by omega), List.take_of_length_le (by omega)] at this
        simpa using this
  · have hne : ((n1 : Int) != (n2 : Int)) = true := by simp; omega
    clear h1 h2
    go_enter Try.func52, Try.ntmps52
    go_wp2
    go_ret
    refine ⟨ret_bool ?_, Ext.refl _⟩
    symm
    simp only [decide_eq_false_iff_not]
    rintro rfl
    omega
theorem ul_insR : Try.prog.underlying 81 = some (.slice 110) := by kernel_rfl
theorem info_insR : (Try.prog.info? 110).map (fun i => (i.zero, i.size, i.bytes)) = some (some (.agg #[.int .u8 0, .int .u8 0, .int .u8 0, .int .u8 0, .int .i64 0]), 5, 16) := by kernel_rfl
set_option maxRecDepth 100000 in
set_option maxHeartbeats 1000000 in
theorem theirs_ (A : Option Addr) (n c : Nat) (p : List Ins) (w : World) (h : RdS 5 insC w A n p) (hn : n ≤ 1000000000) :
    Calls Try.prog 43 #[.slice A n c] w fun e w' => ∃ A' n' c', e = .returned (.slice A' n' c') ∧ NewS w p w' A' n' c' := by
  have H := Lib.hid h
  clear h
  go_enter Try.func43, Try.ntmps43
  go_wp2_with fail
  go_loopw [3, 8] (fun v3 v8 wr => ∃ (k : Nat) (Ao : Option Addr) (co : Nat), k ≤ n ∧ v8 = .int .i64 (k : Int) ∧ v3 = .slice Ao k co ∧ Hid (NewS w (p.take k) wr Ao k co)) (fun _ i _ => n - (intOf i).toNat)
  case atStart => exact ⟨0, none, 0, by omega, rfl, rfl, Lib.hid (NewS.nil w)⟩
  case round =>
    obtain ⟨k, Ao, co, hk, rfl, rfl, HN⟩ := hrel
    by_cases hlt : k < n
    · have hltI : (k : Int) < (n : Int) := by omega
      obtain ⟨b, o, i, rfl, _, hi, c0, c1, c2, c3, c4⟩ := (H.out.ext HN.out.ext).ins hlt
      have Hi := Lib.hid hi
      clear hi
      go_wp2_with (refine wpl_buildS insC_len (by decide) (by rfl) rfl ul_insR info_insR [.tmp 13] (by rfl) (by rfl) (by decide) [i] (by rfl) ?_)
      intro g w2 b2 e2 lo2 r2; refine Lib.hid ?_
      have HN2 := Lib.hid (HN.out.exte ((Ext.alloc wr _).t e2))
      have R2 := Lib.hid r2
      clear b2 e2 lo2 r2 c0 c1 c2 c3 c4
      go_wp2_with (refine wpl_append_atS (by rfl) rfl ul_insR info_insR rfl rfl HN2.out.room rfl (Src.ofRdS ul_insR insC_len R2.out insC_one) (by unfold maxLen; omega) (by omega) ?_)
      intro A3 c3 w3 r3 ch3 ft3; refine Lib.hid ?_
      have HN3 : Hid (NewS w (p.take (k + 1)) w3 A3 (k + 1) c3) := Lib.hid (by rw [take_snoc Hi.out]; exact HN2.out.more (Ext.refl _) r3 ch3 ft3)
      clear r3 ch3 ft3
      go_wp2_with fail
      go_roundw
      case rel => exact ⟨k + 1, A3, c3, by omega, by go_num, rfl, HN3⟩
      case measure => simp [intOf]; omega
    · obtain rfl : k = n := by omega
      go_wp2_with fail
      go_ret
      refine ⟨_, _, _, rfl, ?_⟩
      have h1 := HN.out
      rw [List.take_of_length_le (by rw [H.out.1]; omega)] at h1
      exact h1

end Go.Proofs.Ytlneifgihdickaa
namespace Go.Fx
open Go.RowKit Go.Proofs Go.Proofs.Ytlneifgihdickaa
/-- What Reached tells, whatever the program. -/
def RchR (p : List Ins) (bs : List Bool) (E : Nat) : Prop := (RightP p ∧ E = 0 ∧ ∃ d, IsD (EdP p) p.length 0 d ∧ bs = rchB d) ∨ (¬ RightP p ∧ E = 160 ∧ bs = [])
def EndR (p : List Ins) (bs : List Bool) (E : Nat) : Prop := (RightP p ∧ E = 0 ∧ IsE p bs) ∨ (¬ RightP p ∧ E = 160 ∧ bs = [])
def DisR (p : List Ins) (d : List Int) (E : Nat) : Prop := (RightP p ∧ E = 0 ∧ IsD (EdP p) p.length 0 d) ∨ (¬ RightP p ∧ E = 160 ∧ d = [])
def DomR (p : List Ins) (d : List Int) (E : Nat) : Prop := (RightP p ∧ E = 0 ∧ IsN (EdP p) p.length d) ∨ (¬ RightP p ∧ E = 160 ∧ d = [])
def BlkR (p : List Ins) (fs : List (Nat × Nat)) (ls : List (List Nat)) (E : Nat) : Prop := (RightP p ∧ E = 0 ∧ fs = blkN (ledF p p.length) p.length ∧ ls = fs.map (fun x => (edF p (x.2 - 1)).map (numN (ledF p p.length)))) ∨ (¬ RightP p ∧ E = 160 ∧ fs = [] ∧ ls = [])
section
variable {p : List Ins} {E E' : Nat}
theorem RchR.eq {b b' : List Bool} (h : RchR p b E) (h' : RchR p b' E') : b = b' ∧ E = E' := by
  rcases h with ⟨h1, rfl, d, h2, rfl⟩ | ⟨h1, rfl, rfl⟩ <;> rcases h' with ⟨h3, rfl, d', h4, rfl⟩ | ⟨h3, rfl, rfl⟩
  · rw [h2.unique h4]; exact ⟨rfl, rfl⟩
  · exact absurd h1 h3
  · exact absurd h3 h1
  · exact ⟨rfl, rfl⟩
theorem EndR.eq {b b' : List Bool} (h : EndR p b E) (h' : EndR p b' E') : b = b' ∧ E = E' := by
  rcases h with ⟨h1, rfl, h2⟩ | ⟨h1, rfl, rfl⟩ <;> rcases h' with ⟨h3, rfl, h4⟩ | ⟨h3, rfl, rfl⟩
  · exact ⟨h2.unique h4, rfl⟩
  · exact absurd h1 h3
  · exact absurd h3 h1
  · exact ⟨rfl, rfl⟩
theorem DisR.eq {b b' : List Int} (h : DisR p b E) (h' : DisR p b' E') : b = b' ∧ E = E' := by
  rcases h with ⟨h1, rfl, h2⟩ | ⟨h1, rfl, rfl⟩ <;> rcases h' with ⟨h3, rfl, h4⟩ | ⟨h3, rfl, rfl⟩
  · exact ⟨h2.unique h4, rfl⟩
  · exact absurd h1 h3
  · exact absurd h3 h1
  · exact ⟨rfl, rfl⟩
theorem DomR.eq {b b' : List Int} (h : DomR p b E) (h' : DomR p b' E') : b = b' ∧ E = E' := by
  rcases h with ⟨h1, rfl, h2⟩ | ⟨h1, rfl, rfl⟩ <;> rcases h' with ⟨h3, rfl, h4⟩ | ⟨h3, rfl, rfl⟩
  · exact ⟨h2.unique h4, rfl⟩
  · exact absurd h1 h3
  · exact absurd h3 h1
  · exact ⟨rfl, rfl⟩
theorem BlkR.eq {f f' : List (Nat × Nat)} {l l' : List (List Nat)} (h : BlkR p f l E) (h' : BlkR p f' l' E') : f = f' ∧ l = l' ∧ E = E' := by
  rcases h with ⟨h1, rfl, rfl, rfl⟩ | ⟨h1, rfl, rfl, rfl⟩ <;> rcases h' with ⟨h3, rfl, rfl, rfl⟩ | ⟨h3, rfl, rfl, rfl⟩
  · exact ⟨rfl, rfl, rfl⟩
  · exact absurd h1 h3
  · exact absurd h3 h1
  · exact ⟨rfl, rfl, rfl⟩
end
theorem right_dec (p : List Ins) : RightP p ∨ ((checkF p).2 ≠ 0 ∧ ¬ RightP p) := by
  by_cases h : (checkF p).2 = 0
  · exact .inl (rightP_iff.1 h)
  · exact .inr ⟨h, fun h2 => h (rightP_iff.2 h2)⟩
end Go.Fx
namespace Go.Proofs.Ytlneifgihdickaa
open Go.RowKit Go.Fx
/-- A call that tells of truth values. -/
def TelB (R : List Bool → Nat → Prop) (w : World) (e : Ending) (w' : World) : Prop := ∃ A m c bs E, e = .returned (.tuple #[.slice A m c, .int .i64 ((E : Nat) : Int)]) ∧ R bs E ∧ Room w' A m c (bs.map boolv) ∧ (∀ k, foot A c k → w.heap.size ≤ k) ∧ Ext w w'
def TelZ (R : List Int → Nat → Prop) (w : World) (e : Ending) (w' : World) : Prop := ∃ A m c bs E, e = .returned (.tuple #[.slice A m c, .int .i64 ((E : Nat) : Int)]) ∧ R bs E ∧ Room w' A m c (bs.map intz) ∧ (∀ k, foot A c k → w.heap.size ≤ k) ∧ Ext w w'
def TelK (p : List Ins) (w : World) (e : Ending) (w' : World) : Prop := ∃ A m c fs ss ls E, e = .returned (.tuple #[.slice A m c, .int .i64 ((E : Nat) : Int)]) ∧ BlkR p fs ls E ∧ Lsb w.heap.size w' A m c fs ss ls ∧ Ext w w'
theorem lsb_nil (B : Nat) (w : World) : Lsb B w none 0 0 [] [] [] := by
  have hn : ∀ k, ¬ foots ([] : List Sl) k := fun k h => by
    obtain ⟨s, h, _⟩ := h
    cases h
  refine ⟨RoomS.nil, rfl, rfl, rfl, fun i s h => by simp at h, fun k hk => ?_, fun k hk => absurd hk (hn k), fun i j s t h => by simp at h⟩
  rcases hk with hk | hk
  · exact absurd hk foot_none
  · exact absurd hk (hn k)
section
variable {A : Option Addr} {n c : Nat} {p : List Ins} {w : World}
theorem t_reach (h : RdS 5 insC w A n p) : Calls Try.prog 20 #[.slice A n c] w (TelB (RchR p) w) := by
  have hl := h.1
  rcases right_dec p with hp | ⟨h0, hp⟩
  · refine (reached_ A n c p w h hp).mono ?_
    rintro e w' ⟨A', c', d, rfl, hd, r, ft, x⟩
    rw [← hl] at hd
    exact ⟨A', n, c', rchB d, 0, rfl, .inl ⟨hp, rfl, d, hd, rfl⟩, r, ft, x⟩
  · refine (reached_bad A n c p w h h0).mono ?_
    rintro e w' ⟨rfl, x⟩
    exact ⟨none, 0, 0, [], 160, rfl, .inr ⟨hp, rfl, rfl⟩, Room.nil, fun k hk => absurd hk foot_none, x⟩
theorem t_ends (h : RdS 5 insC w A n p) : Calls Try.prog 13 #[.slice A n c] w (TelB (EndR p) w) := by
  rcases right_dec p with hp | ⟨h0, hp⟩
  · refine (ends_ A n c p w h hp).mono ?_
    rintro e w' ⟨A', c', d, rfl, hd, r, ft, x⟩
    exact ⟨A', n, c', d, 0, rfl, .inl ⟨hp, rfl, hd⟩, r, ft, x⟩
  · refine (ends_bad A n c p w h h0).mono ?_
    rintro e w' ⟨rfl, x⟩
    exact ⟨none, 0, 0, [], 160, rfl, .inr ⟨hp, rfl, rfl⟩, Room.nil, fun k hk => absurd hk foot_none, x⟩
theorem t_dist (h : RdS 5 insC w A n p) : Calls Try.prog 12 #[.slice A n c] w (TelZ (DisR p) w) := by
  have hl := h.1
  rcases right_dec p with hp | ⟨h0, hp⟩
  · refine (dist_ A n c p w h hp).mono ?_
    rintro e w' ⟨A', c', d, rfl, hd, r, ft, x⟩
    rw [← hl] at hd
    exact ⟨A', n, c', d, 0, rfl, .inl ⟨hp, rfl, hd⟩, r, ft, x⟩
  · refine (dist_bad A n c p w h h0).mono ?_
    rintro e w' ⟨rfl, x⟩
    exact ⟨none, 0, 0, [], 160, rfl, .inr ⟨hp, rfl, rfl⟩, Room.nil, fun k hk => absurd hk foot_none, x⟩
theorem t_dom (h : RdS 5 insC w A n p) : Calls Try.prog 21 #[.slice A n c] w (TelZ (DomR p) w) := by
  have hl := h.1
  rcases right_dec p with hp | ⟨h0, hp⟩
  · refine (dom_ A n c p w h hp).mono ?_
    rintro e w' ⟨A', c', d, rfl, hd, r, ft, x⟩
    rw [← hl] at hd
    exact ⟨A', n, c', d, 0, rfl, .inl ⟨hp, rfl, hd⟩, r, ft, x⟩
  · refine (dom_bad A n c p w h h0).mono ?_
    rintro e w' ⟨rfl, x⟩
    exact ⟨none, 0, 0, [], 160, rfl, .inr ⟨hp, rfl, rfl⟩, Room.nil, fun k hk => absurd hk foot_none, x⟩
theorem t_blk (h : RdS 5 insC w A n p) : Calls Try.prog 26 #[.slice A n c] w (TelK p w) := by
  have hl := h.1
  rcases right_dec p with hp | ⟨h0, hp⟩
  · refine (blocks_ A n c p w h hp).mono ?_
    rintro e w' ⟨A', m', c', ss, rfl, hm, hb, x⟩
    rw [← hl] at hb
    exact ⟨A', m', c', _, ss, _, 0, rfl, .inl ⟨hp, rfl, rfl, rfl⟩, hb, x⟩
  · refine (blocks_bad A n c p w h h0).mono ?_
    rintro e w' ⟨rfl, x⟩
    exact ⟨none, 0, 0, [], [], [], 160, rfl, .inr ⟨hp, rfl, rfl, rfl⟩, lsb_nil _ _, x⟩
theorem u_reach (h : RdS 5 insC w A n p) : Calls Try.prog 46 #[.slice A n c] w (TelB (RchR p) w) := by
  have hl := h.1
  rcases right_dec p with hp | ⟨h0, hp⟩
  · refine (rreach_ A n c p w h hp).mono ?_
    rintro e w' ⟨A', c', d, rfl, hd, r, ft, x⟩
    rw [← hl] at hd
    exact ⟨A', n, c', rchB d, 0, rfl, .inl ⟨hp, rfl, d, hd, rfl⟩, r, ft, x⟩
  · refine (rreach_bad A n c p w h h0).mono ?_
    rintro e w' ⟨rfl, x⟩
    exact ⟨none, 0, 0, [], 160, rfl, .inr ⟨hp, rfl, rfl⟩, Room.nil, fun k hk => absurd hk foot_none, x⟩
theorem u_ends (h : RdS 5 insC w A n p) : Calls Try.prog 47 #[.slice A n c] w (TelB (EndR p) w) := by
  rcases right_dec p with hp | ⟨h0, hp⟩
  · refine (rends_ A n c p w h hp).mono ?_
    rintro e w' ⟨A', c', d, rfl, hd, r, ft, x⟩
    exact ⟨A', n, c', d, 0, rfl, .inl ⟨hp, rfl, hd⟩, r, ft, x⟩
  · refine (rends_bad A n c p w h h0).mono ?_
    rintro e w' ⟨rfl, x⟩
    exact ⟨none, 0, 0, [], 160, rfl, .inr ⟨hp, rfl, rfl⟩, Room.nil, fun k hk => absurd hk foot_none, x⟩
theorem u_dist (h : RdS 5 insC w A n p) : Calls Try.prog 48 #[.slice A n c] w (TelZ (DisR p) w) := by
  have hl := h.1
  rcases right_dec p with hp | ⟨h0, hp⟩
  · refine (rdist_ A n c p w h hp).mono ?_
    rintro e w' ⟨A', c', d, rfl, hd, r, ft, x⟩
    rw [← hl] at hd
    exact ⟨A', n, c', d, 0, rfl, .inl ⟨hp, rfl, hd⟩, r, ft, x⟩
  · refine (rdist_bad A n c p w h h0).mono ?_
    rintro e w' ⟨rfl, x⟩
    exact ⟨none, 0, 0, [], 160, rfl, .inr ⟨hp, rfl, rfl⟩, Room.nil, fun k hk => absurd hk foot_none, x⟩
theorem u_dom (h : RdS 5 insC w A n p) : Calls Try.prog 49 #[.slice A n c] w (TelZ (DomR p) w) := by
  have hl := h.1
  rcases right_dec p with hp | ⟨h0, hp⟩
  · refine (rdom_ A n c p w h hp).mono ?_
    rintro e w' ⟨A', c', d, rfl, hd, r, ft, x⟩
    rw [← hl] at hd
    exact ⟨A', n, c', d, 0, rfl, .inl ⟨hp, rfl, hd⟩, r, ft, x⟩
  · refine (rdom_bad A n c p w h h0).mono ?_
    rintro e w' ⟨rfl, x⟩
    exact ⟨none, 0, 0, [], 160, rfl, .inr ⟨hp, rfl, rfl⟩, Room.nil, fun k hk => absurd hk foot_none, x⟩
theorem u_blk (h : RdS 5 insC w A n p) : Calls Try.prog 50 #[.slice A n c] w (TelK p w) := by
  have hl := h.1
  rcases right_dec p with hp | ⟨h0, hp⟩
  · refine (rblk_ A n c p w h hp).mono ?_
    rintro e w' ⟨A', m', c', ss, rfl, hm, hb, x⟩
    rw [← hl] at hb
    exact ⟨A', m', c', _, ss, _, 0, rfl, .inl ⟨hp, rfl, rfl, rfl⟩, hb, x⟩
  · refine (rblk_bad A n c p w h h0).mono ?_
    rintro e w' ⟨rfl, x⟩
    exact ⟨none, 0, 0, [], [], [], 160, rfl, .inr ⟨hp, rfl, rfl, rfl⟩, lsb_nil _ _, x⟩
end
end Go.Proofs.Ytlneifgihdickaa
namespace Go.Fx
open Go.RowKit Go.Proofs Go.Proofs.Ytlneifgihdickaa
/-- Lists that share no memory, without a header. -/
structure LsN (ss : List Sl) (ls : List (List Int)) (W : World) : Prop where
  len : ss.length = ls.length
  at_ : ∀ (i : Nat) (s : Sl), ss[i]? = some s → ∃ l, ls[i]? = some l ∧ Room W s.A s.n s.c (l.map intz)
  apart : ∀ (i j : Nat) (s t : Sl), ss[i]? = some s → ss[j]? = some t → i ≠ j → ∀ k, foot s.A s.c k → ¬ foot t.A t.c k
section
variable {ss ss2 : List Sl} {ls ls2 : List (List Int)} {W W' : World}
theorem LsN.nil (W : World) : LsN [] [] W := ⟨rfl, fun i s h => by simp at h, fun i j s t h => by simp at h⟩
theorem LsN.x (h : LsN ss ls W) (e : Ext W W') : LsN ss ls W' := ⟨h.len, fun i s hs => by obtain ⟨l, h1, h2⟩ := h.at_ i s hs; exact ⟨l, h1, h2.ext e⟩, h.apart⟩
theorem LsN.lt (h : LsN ss ls W) {k : Nat} (hk : foots ss k) : k < W.heap.size := by
  obtain ⟨s, hs, hk⟩ := hk
  obtain ⟨i, hi, rfl⟩ := List.getElem_of_mem hs
  obtain ⟨l, _, hr⟩ := h.at_ i _ (List.getElem?_eq_getElem hi)
  exact hr.lt hk
/-- More lists, which are newer. -/
theorem LsN.app (h : LsN ss ls W) (e : Ext W W') (h2 : LsN ss2 ls2 W') (hn : ∀ k, foots ss2 k → W.heap.size ≤ k) : LsN (ss ++ ss2) (ls ++ ls2) W' := by
  have hx := h.x e
  refine ⟨by rw [List.length_append, List.length_append, h.len, h2.len], fun i s hs => ?_, fun i j s t hs ht hne k hk hk2 => ?_⟩
  · by_cases hi : i < ss.length
    · rw [List.getElem?_append_left hi] at hs
      rw [List.getElem?_append_left (by rw [← h.len]; exact hi)]
      exact hx.at_ i s hs
    · rw [List.getElem?_append_right (by omega)] at hs
      rw [List.getElem?_append_right (by rw [← h.len]; omega), ← h.len]
      exact h2.at_ _ s hs
  · by_cases hi : i < ss.length
    · rw [List.getElem?_append_left hi] at hs
      by_cases hj : j < ss.length
      · rw [List.getElem?_append_left hj] at ht
        exact h.apart i j s t hs ht hne k hk hk2
      · rw [List.getElem?_append_right (by omega)] at ht
        have h3 := h.lt ⟨s, List.mem_of_getElem? hs, hk⟩
        have h4 := hn k ⟨t, List.mem_of_getElem? ht, hk2⟩
        omega
    · rw [List.getElem?_append_right (by omega)] at hs
      by_cases hj : j < ss.length
      · rw [List.getElem?_append_left hj] at ht
        have h3 := h.lt ⟨t, List.mem_of_getElem? ht, hk2⟩
        have h4 := hn k ⟨s, List.mem_of_getElem? hs, hk⟩
        omega
      · rw [List.getElem?_append_right (by omega)] at ht
        exact h2.apart _ _ s t hs ht (by omega) k hk hk2
theorem LsN.one {s : Sl} {l : List Int} (r : Room W s.A s.n s.c (l.map intz)) : LsN [s] [l] W :=
  ⟨rfl, fun i t ht => by
    match i, ht with
    | 0, ht => cases ht; exact ⟨l, rfl, r⟩, fun i j t u ht hu hne => by
    match i, j, ht, hu with
    | 0, 0, _, _ => exact absurd rfl hne⟩
theorem LsN.snoc {s : Sl} {l : List Int} (h : LsN ss ls W) (e : Ext W W') (r : Room W' s.A s.n s.c (l.map intz)) (ft : ∀ k, foot s.A s.c k → W.heap.size ≤ k) : LsN (ss ++ [s]) (ls ++ [l]) W' :=
  h.app e (LsN.one r) (fun k ⟨t, ht, hk⟩ => by
    obtain rfl := List.mem_singleton.1 ht
    exact ft k hk)
theorem LsN.blocks {B : Nat} {A : Option Addr} {m c : Nat} {fs : List (Nat × Nat)} {nl : List (List Nat)} (h : Lsb B W A m c fs ss nl) : LsN ss (nl.map fun l => l.map fun k : Nat => (k : Int)) W :=
  ⟨by rw [List.length_map, h.sl, h.len], fun i s hs => by
    obtain ⟨l, h1, h2⟩ := h.at_ i s hs
    exact ⟨_, by rw [List.getElem?_map, h1]; rfl, by rw [map_z]; exact h2⟩, h.apart⟩
/-- With a header that is newer. -/
theorem LsN.lsi {A : Option Addr} {n c : Nat} (h : LsN ss ls W) (r : Room W A n c (ss.map slv)) (ho : ∀ k, foots ss k → ¬ foot A c k) : Lsi intz 0 W A n c ss ls := ⟨r, h.len, h.at_, fun _ _ => Nat.zero_le _, ho, h.apart⟩
end
end Go.Fx
