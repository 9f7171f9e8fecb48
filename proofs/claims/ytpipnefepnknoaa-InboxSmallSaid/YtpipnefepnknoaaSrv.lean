/- The server of chapter 37's statements: what it holds, and what its methods do. -/
import Derived.Test.YtpipnefepnknoaaBas
import Derived.Deep.CutRange
namespace Go.Fx
/-- How many turns a frame needs. -/
def needs (f : List Nat) : Nat := match f with | [] => 0 | x :: _ => x % 8
theorem needs_lt (f : List Nat) : needs f < 8 := by
  cases f with
  | nil => simp [needs]
  | cons x l => simp only [needs]; omega
theorem Blk.c0 {w : World} {g : Nat} {t : TypeId} {a b c d : Value} (h : Blk w g t #[a, b, c, d]) : w.cell? ⟨g, 0, none⟩ = some a ∧ w.cell? ⟨g, 1, none⟩ = some b ∧ w.cell? ⟨g, 2, none⟩ = some c ∧ w.cell? ⟨g, 3, none⟩ = some d :=
  ⟨by rw [h.cell]; rfl, by rw [h.cell]; rfl, by rw [h.cell]; rfl, by rw [h.cell]; rfl⟩
theorem Blk.f0 {w : World} {g : Nat} {t : TypeId} {cs : Array Value} (h : Blk w g t cs) : w.frozen? ⟨g, 0, none⟩ = false ∧ w.frozen? ⟨g, 1, none⟩ = false ∧ w.frozen? ⟨g, 2, none⟩ = false ∧ w.frozen? ⟨g, 3, none⟩ = false :=
  ⟨h.frozen 0, h.frozen 1, h.frozen 2, h.frozen 3⟩

theorem Blk.s0 {w : World} {g : Nat} {t : TypeId} {a b c d : Value} (h : Blk w g t #[a, b, c, d]) (u : Value) : Blk (w.setCell ⟨g, 0, none⟩ u) g t #[u, b, c, d] := by simpa using h.set_ 0 u
theorem Blk.s1 {w : World} {g : Nat} {t : TypeId} {a b c d : Value} (h : Blk w g t #[a, b, c, d]) (u : Value) : Blk (w.setCell ⟨g, 1, none⟩ u) g t #[a, u, c, d] := by simpa using h.set_ 1 u
theorem Blk.s2 {w : World} {g : Nat} {t : TypeId} {a b c d : Value} (h : Blk w g t #[a, b, c, d]) (u : Value) : Blk (w.setCell ⟨g, 2, none⟩ u) g t #[a, b, u, d] := by simpa using h.set_ 2 u
theorem Blk.s3 {w : World} {g : Nat} {t : TypeId} {a b c d : Value} (h : Blk w g t #[a, b, c, d]) (u : Value) : Blk (w.setCell ⟨g, 3, none⟩ u) g t #[a, b, c, u] := by simpa using h.set_ 3 u
end Go.Fx
namespace Go.Proofs.Ytpipnefepnknoaa
open Go.RowKit Go.Fx

/-- The blocks of a server. -/
def srvF (sv : Nat) (F R C : Sl) (k : Nat) : Prop := k = sv ∨ foot F.A F.c k ∨ foot R.A R.c k ∨ foot C.A C.c k
structure Srv (w : World) (sv : Nat) (F R C : Sl) (fr : List Nat) (left : Int) (calls : List Nat) : Prop where
  blk : Blk w sv 31 #[slv F, .int .i64 left, slv R, slv C]
  frm : Byt w F fr
  rep : ∃ old, Room w R.A R.n R.c old
  cal : Byt w C calls
  d1 : ∀ k, foot F.A F.c k → k ≠ sv ∧ ¬ foot R.A R.c k ∧ ¬ foot C.A C.c k
  d2 : ∀ k, foot R.A R.c k → k ≠ sv ∧ ¬ foot C.A C.c k
  d3 : ∀ k, foot C.A C.c k → k ≠ sv
section
variable {T : Nat → Prop} {w w' : World} {sv : Nat} {F R C : Sl} {fr : List Nat} {left : Int} {calls : List Nat}
theorem Srv.chg (h : Srv w sv F R C fr left calls) (hc : Chg T w w') (hT : ∀ k, srvF sv F R C k → ¬ T k) : Srv w' sv F R C fr left calls where
  blk := h.blk.chg hc (hT _ (.inl rfl))
  frm := h.frm.chg hc (fun k hk => hT _ (.inr (.inl hk)))
  rep := by obtain ⟨old, ho⟩ := h.rep; exact ⟨old, ho.chg hc (fun k hk => hT _ (.inr (.inr (.inl hk))))⟩
  cal := h.cal.chg hc (fun k hk => hT _ (.inr (.inr (.inr hk))))
  d1 := h.d1
  d2 := h.d2
  d3 := h.d3
theorem Srv.ext (h : Srv w sv F R C fr left calls) (e : Ext w w') : Srv w' sv F R C fr left calls := h.chg (T := fun _ => False) (Chg.ofExt e) (fun _ _ t => t)
theorem Srv.lt (h : Srv w sv F R C fr left calls) {k : Nat} (hk : srvF sv F R C k) : k < w.heap.size := by
  rcases hk with rfl | hk | hk | hk
  · exact h.blk.lt
  · exact h.frm.room.lt hk
  · obtain ⟨old, ho⟩ := h.rep; exact ho.lt hk
  · exact h.cal.room.lt hk
theorem Srv.clen (h : Srv w sv F R C fr left calls) : C.n = calls.length := by have := h.cal.room.1; simpa using this.symm
theorem Srv.flen (h : Srv w sv F R C fr left calls) : F.n = fr.length := by have := h.frm.room.1; simpa using this.symm
end

set_option maxHeartbeats 400000 in
theorem needs_ (A : Option Addr) (n c : Nat) (xs : List Nat) (w : World) (h : Rd u8v w A n xs) (hx : ∀ x ∈ xs, x < 256) :
    Calls Try.prog 19 #[.slice A n c] w fun e w' => e = .returned (.int .i64 ((needs xs : Nat) : Int)) ∧ w = w' := by
  by_cases hn : n = 0
  · subst hn
    obtain rfl : xs = [] := List.eq_nil_of_length_eq_zero h.1
    have h0 : (((0 : Nat) : Int) == 0) = true := by simp
    go_enter Try.func19, Try.ntmps19
    go_wp2
    go_ret
    exact ⟨rfl, rfl⟩
  · obtain ⟨b, o, x, rfl, _, hx0, hc⟩ := h.at_ (k := 0) (by omega)
    have h0 : ((n : Int) == 0) = false := by simp; omega
    have h1 : (0 : Int) < (n : Int) := by omega
    have hx256 := hx x (List.mem_of_getElem? hx0)
    have Hn : Hid (needs xs = x % 8) := Lib.hid (by
      cases xs with
      | nil => simp at hx0
      | cons y l => simp at hx0; subst hx0; rfl)
    clear hx hx0 h
    rw [Nat.add_zero] at hc
    go_enter Try.func19, Try.ntmps19
    go_wp2
    go_ret
    exact ⟨ret_int (by rw [Hn.out]; omega), rfl⟩

/-- What told leaves where the response is not ready. -/
structure Told0 (w : World) (sv : Nat) (F R C : Sl) (fr : List Nat) (left : Int) (calls : List Nat) (w' : World) (C' : Sl) : Prop where
  srv : Srv w' sv F R C' fr left calls
  chg : Chg (srvF sv F R C) w w'
  new : ∀ k, srvF sv F R C' k → srvF sv F R C k ∨ w.heap.size ≤ k
set_option maxHeartbeats 1000000 in
theorem told_0 (sv : Nat) (F R C : Sl) (fr : List Nat) (left : Int) (calls : List Nat) (c : Nat) (w : World) (h : Srv w sv F R C fr left calls) (hl : 0 < left) (hc : c < 256) (hn : calls.length ≤ 1000000000) :
    Calls Try.prog 56 #[.pointer (some ⟨sv, 0, none⟩), .int .u8 (c : Int)] w fun e w' => ∃ A n cc C', e = .returned (.tuple #[.slice A n cc, .bool false]) ∧ Told0 w sv F R C fr left (calls ++ [c]) w' C' := by
  obtain ⟨c0, c1, c2, c3⟩ := h.blk.c0
  obtain ⟨f0, f1, f2, f3⟩ := h.blk.f0
  have hcn : C.n ≤ 1000000000 := by rw [h.clen]; exact hn
  clear hn
  unfold slv at c0 c2 c3
  go_enter Try.func56, Try.ntmps56
  go_wp2_with (refine wpl_build (by rfl) rfl ul_u8 info_u8 [.tmp 16] (by rfl) (by rfl) (by decide) (f := u8v) [c] (by rfl) (fun _ => rfl) ?_)
  intro g w1 b1 e1 lo1 r1; refine Lib.hid ?_
  have h1 := h.ext e1
  go_wp2_with (refine wpl_append_at (by rfl) rfl ul_u8 info_u8 rfl rfl h1.cal.room rfl (Src.ofRd ul_u8 r1 (fun _ => rfl)) (by simp only [maxLen]; omega) (by omega) ?_)
  intro A2 cc2 w2 r2 ch2 ft2; refine Lib.hid ?_
  have b2 := h1.blk.chg ch2 (fun hk => h1.d3 _ hk rfl)
  obtain ⟨c0', c1', c2', c3'⟩ := b2.c0
  obtain ⟨f0', f1', f2', f3'⟩ := b2.f0
  unfold slv at c0' c2' c3'
  clear c0 c1 c2 c3 f0 f1 f2 f3
  go_wp2_with (refine wpl_build (by rfl) rfl ul_u8 info_u8 [.const (.int .u8 110), .const (.int .u8 111), .const (.int .u8 116), .const (.int .u8 32), .const (.int .u8 121), .const (.int .u8 101), .const (.int .u8 116)] (by rfl) (by rfl) (by decide) (f := u8v) [110, 111, 116, 32, 121, 101, 116] (by rfl) (fun _ => rfl) ?_)
  intro g3 w3 b3 e3 lo3 r3; refine Lib.hid ?_
  obtain ⟨w4, hcv, ch4⟩ := run_convert_same (P := Try.prog) 7 7 b3 ul_u8 Try.underlying5
  have e3 := Below.trans e3 (ch4.below e3.size (fun k hk e => by subst e; simp only [setCell_size] at hk lo3; omega))
  go_wp2_with fail
  go_ret2
  have hs3 : ∀ k, foot A2 cc2 k → foot C.A C.c k ∨ w.heap.size ≤ k := fun k hk => by
    rcases ft2 k hk with h | h
    · exact .inl h
    · exact .inr (by have := e1.size; omega)
  have hsv : sv < w.heap.size := h.blk.lt
  have hcs : Chg (srvF sv F R C) w (w2.setCell ⟨sv, 3, none⟩ (.slice A2 (C.n + 1) cc2)) :=
    ((Chg.ofExt e1).trans ch2 (fun k _ hk => .inr (.inr (.inr hk)))).t (Chg.set _ _ _ _ (.inl rfl))
  refine ⟨_, _, _, ⟨A2, C.n + 1, cc2⟩, rfl, ?_, hcs.e e3, fun k hk => ?_⟩
  · refine Srv.ext ?_ e3
    have hch : Chg (fun k => foot C.A C.c k ∨ k = sv) w1 (w2.setCell ⟨sv, 3, none⟩ (.slice A2 (C.n + 1) cc2)) := (ch2.mono (fun k _ hk => .inl hk)).t (Chg.set _ _ _ _ (.inr rfl))
    refine ⟨b2.set_ 3 _, h1.frm.chg hch (fun k hk => ?_), ?_, ⟨?_, ?_⟩, fun k hk => ⟨(h.d1 k hk).1, (h.d1 k hk).2.1, fun hk2 => ?_⟩, fun k hk => ⟨(h.d2 k hk).1, fun hk2 => ?_⟩, fun k hk => ?_⟩
    · have := h.d1 k hk
      rintro (h' | h')
      · exact this.2.2 h'
      · exact this.1 h'
    · obtain ⟨old, ho⟩ := h1.rep
      refine ⟨old, ho.chg hch (fun k hk => ?_)⟩
      have := h.d2 k hk
      rintro (h' | h')
      · exact this.2 h'
      · exact this.1 h'
    · simp only [List.map_append]
      refine r2.chg (Chg.set (T := fun k => k = sv) _ _ _ _ rfl) (fun k hk e => ?_)
      subst e
      rcases hs3 k hk with h' | h'
      · exact h.d3 k h' rfl
      · omega
    · intro x hx
      rcases List.mem_append.1 hx with h' | h'
      · exact h.cal.lt x h'
      · simp at h'; omega
    · rcases hs3 k hk2 with h' | h'
      · exact (h.d1 k hk).2.2 h'
      · have := h.frm.room.lt hk; omega
    · rcases hs3 k hk2 with h' | h'
      · exact (h.d2 k hk).2 h'
      · obtain ⟨old, ho⟩ := h.rep
        have := ho.lt hk; omega
    · rcases hs3 k hk with h' | h'
      · exact h.d3 k h'
      · omega
  · rcases hk with h' | h' | h' | h'
    · exact .inl (.inl h')
    · exact .inl (.inr (.inl h'))
    · exact .inl (.inr (.inr (.inl h')))
    · rcases hs3 k h' with h' | h'
      · exact .inl (.inr (.inr (.inr h')))
      · exact .inr h'
/-- What told leaves where the response is ready. -/
structure Told1 (w : World) (sv : Nat) (F R C : Sl) (fr : List Nat) (left : Int) (calls : List Nat) (w' : World) (R' C' : Sl) : Prop where
  srv : Srv w' sv F R' C' fr left calls
  rep : Byt w' R' fr
  n_ : R'.n = F.n
  chg : Chg (srvF sv F R C) w w'
  new : ∀ k, srvF sv F R' C' k → srvF sv F R C k ∨ w.heap.size ≤ k
set_option maxRecDepth 100000 in
set_option maxHeartbeats 1000000 in
theorem told_1 (sv : Nat) (F R C : Sl) (fr : List Nat) (left : Int) (calls : List Nat) (c d : Nat) (w : World) (h : Srv w sv F R C fr left calls) (hl : left ≤ 0) (hc : c < 256) (hcd : (c : Int) - 32 = (d : Int)) (hn : calls.length ≤ 1000000000) (hfn : fr.length ≤ 1000000000) :
    Calls Try.prog 56 #[.pointer (some ⟨sv, 0, none⟩), .int .u8 (c : Int)] w fun e w' => ∃ R' C', e = .returned (.tuple #[slv R', .bool true]) ∧ Told1 w sv F R C fr left (calls ++ [d]) w' R' C' := by
  obtain ⟨c0, c1, c2, c3⟩ := h.blk.c0
  obtain ⟨f0, f1, f2, f3⟩ := h.blk.f0
  have hcn : C.n ≤ 1000000000 := by rw [h.clen]; exact hn
  have hfn2 : F.n ≤ 1000000000 := by rw [h.flen]; exact hfn
  have hsv : sv < w.heap.size := h.blk.lt
  have hd : d < 256 := by omega
  have hc0 : 0 ≤ (d : Int) := by omega
  have hl' : ¬ 0 < left := by omega
  clear hn hfn
  unfold slv at c0 c2 c3
  go_enter Try.func56, Try.ntmps56
  go_wp2_with (refine wpl_build (by rfl) rfl ul_u8 info_u8 [.tmp 29] (by rfl) (by rfl) (by decide) (f := u8v) [d] (by rfl) (fun _ => rfl) ?_)
  intro g w1 b1 e1 lo1 r1; refine Lib.hid ?_
  have h1 := h.ext e1
  go_wp2_with (refine wpl_append_at (by rfl) rfl ul_u8 info_u8 rfl rfl h1.cal.room rfl (Src.ofRd ul_u8 r1 (fun _ => rfl)) (by simp only [maxLen]; omega) (by omega) ?_)
  intro A2 cc2 w2 r2 ch2 ft2; refine Lib.hid ?_
  have b2 := h1.blk.chg ch2 (fun hk => h1.d3 _ hk rfl)
  obtain ⟨c0', c1', c2', c3'⟩ := b2.c0
  obtain ⟨f0', f1', f2', f3'⟩ := b2.f0
  unfold slv at c0' c2' c3'
  clear c0 c1 c2 c3 f0 f1 f2 f3
  go_wp2_with fail
  have hs3 : ∀ k, foot A2 cc2 k → foot C.A C.c k ∨ w.heap.size ≤ k := fun k hk => by
    rcases ft2 k hk with h | h
    · exact .inl h
    · exact .inr (by have := e1.size; omega)
  have hcs : Chg (srvF sv F R C) w (w2.setCell ⟨sv, 3, none⟩ (.slice A2 (C.n + 1) cc2)) :=
    ((Chg.ofExt e1).trans ch2 (fun k _ hk => .inr (.inr (.inr hk)))).t (Chg.set _ _ _ _ (.inl rfl))
  have hch : Chg (fun k => foot C.A C.c k ∨ k = sv) w1 (w2.setCell ⟨sv, 3, none⟩ (.slice A2 (C.n + 1) cc2)) := (ch2.mono (fun k _ hk => .inl hk)).t (Chg.set _ _ _ _ (.inr rfl))
  have b3 := b2.s3 (.slice A2 (C.n + 1) cc2)
  have frm3 : Byt (w2.setCell ⟨sv, 3, none⟩ (.slice A2 (C.n + 1) cc2)) F fr := h1.frm.chg hch (fun k hk => by
    have := h.d1 k hk
    rintro (h' | h')
    · exact this.2.2 h'
    · exact this.1 h')
  have cal3 : Byt (w2.setCell ⟨sv, 3, none⟩ (.slice A2 (C.n + 1) cc2)) ⟨A2, C.n + 1, cc2⟩ (calls ++ [d]) := by
    refine ⟨?_, ?_⟩
    · simp only [List.map_append]
      refine r2.chg (Chg.set (T := fun k => k = sv) _ _ _ _ rfl) (fun k hk e => ?_)
      subst e
      rcases hs3 k hk with h' | h'
      · exact h.d3 k h' rfl
      · omega
    · intro x hx
      rcases List.mem_append.1 hx with h' | h'
      · exact h.cal.lt x h'
      · simp at h'; omega
  have rep3 : ∃ old, Room (w2.setCell ⟨sv, 3, none⟩ (.slice A2 (C.n + 1) cc2)) R.A R.n R.c old := by
    obtain ⟨old, ho⟩ := h1.rep
    refine ⟨old, ho.chg hch (fun k hk => ?_)⟩
    have := h.d2 k hk
    rintro (h' | h')
    · exact this.2 h'
    · exact this.1 h'
  obtain ⟨old, rep3⟩ := rep3
  have rep0 : Room (w2.setCell ⟨sv, 3, none⟩ (.slice A2 (C.n + 1) cc2)) R.A 0 R.c [] := by simpa using rep3.take (k := 0) (Nat.zero_le _)
  have hsz : w.heap.size ≤ (w2.setCell ⟨sv, 3, none⟩ (.slice A2 (C.n + 1) cc2)).heap.size := hcs.size
  have dR : ∀ k, foot R.A R.c k → k ≠ sv ∧ ¬ foot A2 cc2 k := fun k hk => ⟨(h.d2 k hk).1, fun hk2 => by
    rcases hs3 k hk2 with h' | h'
    · exact (h.d2 k hk).2 h'
    · obtain ⟨old, ho⟩ := h.rep
      have := ho.lt hk; omega⟩
  have dF : ∀ k, foot F.A F.c k → k ≠ sv ∧ ¬ foot R.A R.c k ∧ ¬ foot A2 cc2 k := fun k hk => ⟨(h.d1 k hk).1, (h.d1 k hk).2.1, fun hk2 => by
    rcases hs3 k hk2 with h' | h'
    · exact (h.d1 k hk).2.2 h'
    · have := h.frm.room.lt hk; omega⟩
  have dC : ∀ k, foot A2 cc2 k → k ≠ sv := fun k hk => by
    rcases hs3 k hk with h' | h'
    · exact h.d3 k h'
    · omega
  have ltC : ∀ k, foot A2 cc2 k → k < (w2.setCell ⟨sv, 3, none⟩ (.slice A2 (C.n + 1) cc2)).heap.size := fun k hk => cal3.room.lt hk
  have ltF : ∀ k, foot F.A F.c k → k < (w2.setCell ⟨sv, 3, none⟩ (.slice A2 (C.n + 1) cc2)).heap.size := fun k hk => frm3.room.lt hk
  have Hs3 := Lib.hid hs3
  clear h h1 ch2 r2 hch ft2 c0' c1' c2' c3' f0' f1' f2' f3' r1 b1 e1 lo1 hs3
  generalize hw3 : w2.setCell ⟨sv, 3, none⟩ (.slice A2 (C.n + 1) cc2) = w3 at *
  clear hw3
  obtain ⟨c0, c1, c2, c3⟩ := b3.c0
  obtain ⟨f0, f1, f2, f3⟩ := b3.f0
  unfold slv at c0 c2
  go_region_law (first
    | (refine step_append_at rfl rfl ul_u8 info_u8 rfl (by simp [Act.eval, Act.put]) (rep0.ext (Ext.drew _)) (by simp [Act.eval, Act.put]; rfl) (Src.ofRd ul_u8 (frm3.rd.drew) (fun _ => rfl)) (by simp only [maxLen]; omega) (by omega) ?_
       intro A5 cc5 w5 r5 ch5 ft5
       have b5 := b3.chg ((Chg.drew w3).t ch5) (fun hk => (dR _ hk).1 rfl)
       obtain ⟨d0, d1, d2, d3⟩ := b5.c0
       obtain ⟨q0, q1, q2, q3⟩ := b5.f0))
  all_goals go_wp2_with fail
  all_goals go_ret2
  all_goals
    try simp only [Nat.zero_add, List.nil_append] at r5
    have b6 := b5.s2 (.slice A5 F.n cc5)
    have hs5 : ∀ k, foot A5 cc5 k → foot R.A R.c k ∨ w3.heap.size ≤ k := ft5
    have ch6 : Chg (fun k => foot R.A R.c k ∨ k = sv) w3 (w5.setCell ⟨sv, 2, none⟩ (.slice A5 F.n cc5)) := (((Chg.drew w3).t (ch5.mono (fun k _ hk => .inl hk)))).t (Chg.set _ _ _ _ (.inr rfl))
    have hsv3 : sv < w3.heap.size := b3.lt
    have rep6 : Byt (w5.setCell ⟨sv, 2, none⟩ (.slice A5 F.n cc5)) ⟨A5, F.n, cc5⟩ fr := ⟨r5.chg (Chg.set (T := fun k => k = sv) _ _ _ _ rfl) (fun k hk e => by
      subst e
      rcases hs5 k hk with h' | h'
      · exact (dR k h').1 rfl
      · omega), frm3.lt⟩
    refine ⟨⟨A5, F.n, cc5⟩, ⟨A2, C.n + 1, cc2⟩, rfl, ⟨b6, frm3.chg ch6 (fun k hk => ?_), ⟨_, rep6.room⟩, cal3.chg ch6 (fun k hk => ?_), fun k hk => ⟨(dF k hk).1, fun hk2 => ?_, (dF k hk).2.2⟩, fun k hk => ?_, dC⟩, rep6, rfl, hcs.trans ch6 (fun k _ hk => ?_), fun k hk => ?_⟩
    · rintro (h' | h')
      · exact (dF k hk).2.1 h'
      · exact (dF k hk).1 h'
    · rintro (h' | h')
      · exact (dR k h').2 hk
      · exact dC k hk h'
    · rcases hs5 k hk2 with h' | h'
      · exact (dF k hk).2.1 h'
      · have := ltF k hk; omega
    · rcases hs5 k hk with h' | h'
      · exact dR k h'
      · exact ⟨by omega, fun hk2 => by have := ltC k hk2; omega⟩
    · rcases hk with h' | h'
      · exact .inr (.inr (.inl h'))
      · exact .inl h'
    · rcases hk with h' | h' | h' | h'
      · exact .inl (.inl h')
      · exact .inl (.inr (.inl h'))
      · rcases hs5 k h' with h' | h'
        · exact .inl (.inr (.inr (.inl h')))
        · exact .inr (by omega)
      · rcases Hs3.out k h' with h' | h'
        · exact .inl (.inr (.inr (.inr h')))
        · exact .inr h'
end Go.Proofs.Ytpipnefepnknoaa
