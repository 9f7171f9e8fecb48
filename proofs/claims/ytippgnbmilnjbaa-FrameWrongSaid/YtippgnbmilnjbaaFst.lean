/- Fst: a stream: what it holds, what it tells, Reset and Feed. -/
import Derived.Test.YtippgnbmilnjbaaFwr
import Derived.Test.YtippgnbmilnjbaaFcp
namespace Go.Fx
open Go.RowKit
/-- A stream's state. -/
structure FSt where
  held : List Nat
  n : Nat
  dead : Bool
/-- Feed. -/
def fdF (st : FSt) (xs : List Nat) : FSt × List (List Nat) × Nat :=
  if st.dead = true then (st, [], 31)
  else if erF (splF (st.held ++ xs)).2 = 31 then (⟨[], st.n + (splF (st.held ++ xs)).1.length, true⟩, (splF (st.held ++ xs)).1, 31)
  else (⟨(splF (st.held ++ xs)).2, st.n + (splF (st.held ++ xs)).1.length, false⟩, (splF (st.held ++ xs)).1, 0)
def fst0 : FSt := ⟨[], 0, false⟩
def tlF (st : FSt) : Nat := if st.dead = true then 0 else (ndF st.held).1
theorem cells4 {w : World} {g : Nat} {t : TypeId} {a b c d : Value} (h : Blk w g t #[a, b, c, d]) : w.cell? ⟨g, 0, none⟩ = some a ∧ w.cell? ⟨g, 1, none⟩ = some b ∧ w.cell? ⟨g, 2, none⟩ = some c ∧ w.cell? ⟨g, 3, none⟩ = some d :=
  ⟨by rw [h.cell]; rfl, by rw [h.cell]; rfl, by rw [h.cell]; rfl, by rw [h.cell]; rfl⟩
theorem froz4 {w : World} {g : Nat} {t : TypeId} {a b c d : Value} (h : Blk w g t #[a, b, c, d]) : w.frozen? ⟨g, 0, none⟩ = false ∧ w.frozen? ⟨g, 1, none⟩ = false ∧ w.frozen? ⟨g, 2, none⟩ = false ∧ w.frozen? ⟨g, 3, none⟩ = false := ⟨h.frozen 0, h.frozen 1, h.frozen 2, h.frozen 3⟩
end Go.Fx
namespace Go.Proofs.Ytippgnbmilnjbaa
open Go.RowKit Go.Fx
abbrev stmC (s : Sl) (st : FSt) : Array Value := #[.bool true, .slice s.A s.n s.c, .int .i64 (st.n : Int), .bool st.dead]
/-- A stream in memory. -/
structure Stm (w : World) (sb : Nat) (s : Sl) (st : FSt) : Prop where
  blk : Blk w sb 84 (stmC s st)
  byt : Byt w s st.held
  sep : ¬ foot s.A s.c sb
  live : st.dead = true → st.held = []
def stmF (sb : Nat) (s : Sl) (k : Nat) : Prop := k = sb ∨ foot s.A s.c k
section
variable {T : Nat → Prop} {w w' : World} {sb : Nat} {s : Sl} {st : FSt}
theorem Stm.chg (h : Stm w sb s st) (hc : Chg T w w') (hT : ∀ k, stmF sb s k → ¬ T k) : Stm w' sb s st := ⟨h.blk.chg hc (hT _ (.inl rfl)), h.byt.chg hc (fun k hk => hT k (.inr hk)), h.sep, h.live⟩
theorem Stm.ext (h : Stm w sb s st) (e : Ext w w') : Stm w' sb s st := h.chg (T := fun _ => False) (Chg.ofExt e) (fun _ _ t => t)
theorem Stm.lt (h : Stm w sb s st) {k : Nat} (hk : stmF sb s k) : k < w.heap.size := hk.elim (fun e => by rw [e]; exact h.blk.lt) (fun hf => h.byt.room.lt hf)
theorem Stm.n_ (h : Stm w sb s st) : s.n = st.held.length := by have := h.byt.room.1; simpa using this.symm
end
/-- A stream that is one. -/
theorem none_ (sb : Nat) (w : World) (h : w.cell? ⟨sb, 0, none⟩ = some (.bool true)) :
    Calls Try.prog 52 #[.pointer (some ⟨sb, 0, none⟩)] w fun e w' => e = .returned (.bool false) ∧ w = w' := by
  go_enter Try.func52, Try.ntmps52
  go_wp2
  go_ret
  exact ⟨rfl, rfl⟩
theorem new_ (w : World) : Calls Try.prog 23 #[] w fun e w' => ∃ sb, e = .returned (.pointer (some ⟨sb, 0, none⟩)) ∧ Stm w' sb ⟨none, 0, 0⟩ fst0 ∧ Ext w w' ∧ w.heap.size ≤ sb := by
  go_enter Try.func23, Try.ntmps23
  go_wp2
  go_ret
  refine ⟨w.heap.size, rfl, ⟨Blk.new w _ _, ⟨Room.nil, by simp [fst0]⟩, foot_none, fun _ => rfl⟩, Ext.alloc w _, Nat.le_refl _⟩
section
variable {w : World} {sb : Nat} {s : Sl} {st : FSt}
set_option maxHeartbeats 400000 in
theorem held_ (h : Stm w sb s st) : Calls Try.prog 26 #[.pointer (some ⟨sb, 0, none⟩)] w fun e w' => e = .returned (.int .i64 (st.held.length : Int)) ∧ w = w' := by
  obtain ⟨c0, c1, c2, c3⟩ := cells4 h.blk
  have Hn := Lib.hid h.n_
  have HN := Lib.hid (none_ sb w c0)
  clear h
  go_enter Try.func26, Try.ntmps26
  go_wp2_with fail
  refine HN.out.mono ?_; rintro e w1 ⟨rfl, rfl⟩
  go_wp2_with fail
  go_ret
  exact ⟨ret_int (by rw [Hn.out]), rfl⟩
set_option maxHeartbeats 400000 in
theorem frames2_ (h : Stm w sb s st) : Calls Try.prog 28 #[.pointer (some ⟨sb, 0, none⟩)] w fun e w' => e = .returned (.int .i64 (st.n : Int)) ∧ w = w' := by
  obtain ⟨c0, c1, c2, c3⟩ := cells4 h.blk
  have HN := Lib.hid (none_ sb w c0)
  clear h
  go_enter Try.func28, Try.ntmps28
  go_wp2_with fail
  refine HN.out.mono ?_; rintro e w1 ⟨rfl, rfl⟩
  go_wp2_with fail
  go_ret
  exact ⟨rfl, rfl⟩
set_option maxHeartbeats 400000 in
theorem dead_ (h : Stm w sb s st) : Calls Try.prog 29 #[.pointer (some ⟨sb, 0, none⟩)] w fun e w' => e = .returned (.bool st.dead) ∧ w = w' := by
  obtain ⟨c0, c1, c2, c3⟩ := cells4 h.blk
  have HN := Lib.hid (none_ sb w c0)
  clear h
  go_enter Try.func29, Try.ntmps29
  go_wp2_with fail
  refine HN.out.mono ?_; rintro e w1 ⟨rfl, rfl⟩
  go_wp2_with fail
  go_ret
  exact ⟨rfl, rfl⟩
set_option maxHeartbeats 400000 in
theorem need2_ (h : Stm w sb s st) (hl : st.held.length ≤ 1000000000) : Calls Try.prog 27 #[.pointer (some ⟨sb, 0, none⟩)] w fun e w' => e = .returned (.int .i64 (tlF st : Int)) ∧ w = w' := by
  obtain ⟨c0, c1, c2, c3⟩ := cells4 h.blk
  have HN := Lib.hid (none_ sb w c0)
  have HD := Lib.hid (need_ s.A s.n s.c st.held w h.byt.rd h.byt.lt (by rw [h.n_]; omega))
  unfold NeedP at HD
  cases hd : st.dead with
  | true =>
    have Ht : Hid (tlF st = 0) := Lib.hid (by unfold tlF; rw [if_pos hd])
    rw [hd] at c3
    clear h hd HD
    go_enter Try.func27, Try.ntmps27
    go_wp2_with fail
    refine HN.out.mono ?_; rintro e w1 ⟨rfl, rfl⟩
    go_wp2_with fail
    go_ret
    exact ⟨ret_int (by rw [Ht.out]; rfl), rfl⟩
  | false =>
    have Ht : Hid (tlF st = (ndF st.held).1) := Lib.hid (by unfold tlF; rw [if_neg (by simp [hd])])
    rw [hd] at c3
    clear h hd
    go_enter Try.func27, Try.ntmps27
    go_wp2_with fail
    refine HN.out.mono ?_; rintro e w1 ⟨rfl, rfl⟩
    go_wp2_with fail
    refine HD.out.mono ?_; rintro e w1 ⟨rfl, rfl⟩
    go_wp2_with fail
    go_ret
    exact ⟨ret_int (by rw [Ht.out]), rfl⟩
set_option maxHeartbeats 400000 in
theorem reset_ (h : Stm w sb s st) : Calls Try.prog 36 #[.pointer (some ⟨sb, 0, none⟩)] w fun e w' => e = .returned (.int .i64 0) ∧ Stm w' sb ⟨none, 0, 0⟩ fst0 ∧ Chg (fun k => k = sb) w w' := by
  obtain ⟨c0, c1, c2, c3⟩ := cells4 h.blk
  obtain ⟨f0, f1, f2, f3⟩ := froz4 h.blk
  have HN := Lib.hid (none_ sb w c0)
  have H := Lib.hid h
  clear h
  go_enter Try.func36, Try.ntmps36
  go_wp2_with fail
  refine HN.out.mono ?_; rintro e w1 ⟨rfl, rfl⟩
  go_wp2_with fail
  go_ret
  refine ⟨rfl, ⟨((((H.out.blk.set_ 0 _).set_ 1 _).set_ 2 _).set_ 3 _), ⟨Room.nil, by simp [fst0]⟩, foot_none, fun _ => rfl⟩, ?_⟩
  have cs := fun (w : World) (o : Nat) (v : Value) => Chg.set (T := fun k => k = sb) w sb o v rfl
  exact (((cs _ _ _).t (cs _ _ _)).t (cs _ _ _)).t (cs _ _ _)
theorem one_u8 : (Try.prog.info? 5).map (·.size) = some 1 := by kernel_rfl
/-- What Feed leaves. -/
structure Fed (w : World) (sb : Nat) (s : Sl) (st : FSt) (xs : List Nat) (e : Ending) (w' : World) (Al : Option Addr) (nl cl : Nat) (os : List Sl) (s' : Sl) : Prop where
  ret : e = .returned (.tuple #[.slice Al nl cl, .int .i64 ((fdF st xs).2.2 : Int)])
  stm : Stm w' sb s' (fdF st xs).1
  lst : Lst w.heap.size w' Al nl cl os (fdF st xs).2.1
  chg : Chg (stmF sb s) w w'
  nb : ∀ k, stmF sb s' k → stmF sb s k ∨ w.heap.size ≤ k
  no : ∀ k, foot Al cl k ∨ foots os k → ¬ stmF sb s' k
def FedP (w : World) (sb : Nat) (s : Sl) (st : FSt) (xs : List Nat) (e : Ending) (w' : World) : Prop := ∃ Al nl cl os s', Fed w sb s st xs e w' Al nl cl os s'
set_option maxRecDepth 100000 in
set_option maxHeartbeats 1000000 in
theorem feed_ (h : Stm w sb s st) (A : Option Addr) (n c : Nat) (xs : List Nat) (hx : Rd u8v w A n xs) (hlt : ∀ x ∈ xs, x < 256) (hb : st.held.length + n ≤ 1000000000) (hn : st.n ≤ 1000000000) :
    Calls Try.prog 24 #[.pointer (some ⟨sb, 0, none⟩), .slice A n c] w (FedP w sb s st xs) := by
  obtain ⟨c0, c1, c2, c3⟩ := cells4 h.blk
  have HN := Lib.hid (none_ sb w c0)
  have H := Lib.hid h
  cases hd : st.dead with
  | true =>
    have Hf : Hid (fdF st xs = (st, [], 31)) := Lib.hid (by unfold fdF; rw [if_pos hd])
    rw [hd] at c3
    clear h hd
    go_enter Try.func24, Try.ntmps24
    go_wp2_with fail
    refine HN.out.mono ?_; rintro e w1 ⟨rfl, rfl⟩
    go_wp2_with fail
    try rw [Exit.noGoto_ret]
    go_ret2
    refine ⟨none, 0, 0, [], s, by rw [Hf.out]; rfl, by rw [Hf.out]; exact H.out, by rw [Hf.out]; exact Lst.nil, Chg.refl _ _, fun k hk => .inl hk, fun k hk => hk.elim (fun h => absurd h foot_none) (fun h => absurd h foots_nil)⟩
  | false =>
    have Hd := Lib.hid hd
    have Hx := Lib.hid hx
    have Hlt := Lib.hid hlt
    rw [hd] at c3
    have hsn : s.n ≤ 1000000000 := by rw [h.n_]; omega
    have Hsn := Lib.hid h.n_
    have hN : s.n + n ≤ 1000000000 := by rw [h.n_]; exact hb
    clear h hd hx hlt hb
    go_enter Try.func24, Try.ntmps24
    go_wp2_with fail
    refine HN.out.mono ?_; rintro e w1 ⟨rfl, rfl⟩
    go_wp2_with (refine wpl_append_at (by rfl) rfl ul_u8 info_u8 rfl rfl H.out.byt.room rfl (Src.ofRd ul_u8 Hx.out (fun _ => rfl)) (by simp only [maxLen]; omega) (by omega) ?_)
    intro A2 cc2 w2 r2 ch2 ft2; refine Lib.hid ?_
    rw [← List.map_append] at r2
    have hbl2 := H.out.blk.chg ch2 H.out.sep
    have hrd2 : Rd u8v w2 A2 (s.n + n) (st.held ++ xs) := Room.rd r2
    have hb2 : ∀ x ∈ st.held ++ xs, x < 256 := fun x hx => (List.mem_append.1 hx).elim (H.out.byt.lt x) (Hlt.out x)
    have HS := Lib.hid (split_ A2 (s.n + n) cc2 (st.held ++ xs) w2 hrd2 hb2 r2.2.1 r2.2.2.1 (by omega))
    unfold SplitP at HS
    have hll : (st.held ++ xs).length = s.n + n := hrd2.1
    rw [hll] at HS
    have Hbl2 := Lib.hid hbl2
    have Hr2 := Lib.hid r2
    have Hch2 := Lib.hid ch2
    have Hft2 := Lib.hid ft2
    have Hrd2 := Lib.hid hrd2
    have Hll := Lib.hid hll
    have Hb2 := Lib.hid hb2
    have hrl := splF_len (st.held ++ xs)
    have hrn := splF_bodies (st.held ++ xs)
    have hdr := splF_drop (st.held ++ xs)
    rw [hll] at hrl hrn hdr
    obtain ⟨q, hq⟩ : ∃ q, q = s.n + n - (splF (st.held ++ xs)).2.length := ⟨_, rfl⟩
    rw [← hq] at HS hdr
    have hcc := r2.2.1
    have hfd : fdF st xs = if erF (splF (st.held ++ xs)).2 = 31 then (⟨[], st.n + (splF (st.held ++ xs)).1.length, true⟩, (splF (st.held ++ xs)).1, 31) else (⟨(splF (st.held ++ xs)).2, st.n + (splF (st.held ++ xs)).1.length, false⟩, (splF (st.held ++ xs)).1, 0) := by
      unfold fdF; rw [if_neg (by simp [Hd.out])]
    have Hfd := Lib.hid hfd
    clear hfd hbl2 r2 ch2 ft2 hrd2 hb2 hll c0 c1 c2 c3
    obtain ⟨N, hNe⟩ : ∃ N, N = s.n + n := ⟨_, rfl⟩
    rw [← hNe] at HS Hr2 Hrd2 Hll hN hrl hrn hcc hq ⊢
    obtain ⟨R, hR⟩ : ∃ R, R = (splF (st.held ++ xs)).2.length := ⟨_, rfl⟩
    rw [← hR] at hrl hrn hq
    have hqN : q ≤ N := by omega
    have hqR : N - q = R := by omega
    have HqR : Hid ((N : Int) - (q : Int) = (R : Int)) := Lib.hid (by omega)
    have HNe := Lib.hid hNe
    have HR := Lib.hid hR
    have Hdr := Lib.hid hdr
    have Hrn := Lib.hid hrn
    clear hNe hR hdr hq
    go_wp2_with fail
    refine HS.out.mono ?_; rintro e w3 ⟨Al, nl, cl, os, rfl, hl, he3⟩
    have hnl := hl.n_
    have hnl2 : nl ≤ 1000000000 := by rw [hnl]; have := Hrn.out; omega
    have hbl3 := Hbl2.out.ext he3
    obtain ⟨c0, c1, c2, c3⟩ := cells4 hbl3
    obtain ⟨f0, f1, f2, f3⟩ := froz4 hbl3
    have Hbl3 := Lib.hid hbl3
    have Hl := Lib.hid hl
    have He3 := Lib.hid he3
    have Hnl := Lib.hid hnl
    clear hl he3 hnl hbl3 HS hrn
    by_cases he : erF (splF (st.held ++ xs)).2 = 31
    · rw [if_pos he] at Hfd
      rw [he]
      clear he
      go_wp2_with fail
      try rw [Exit.noGoto_ret]
      go_ret2
      have cs := fun (w : World) (o : Nat) (v : Value) => Chg.set (T := fun k => k = sb) w sb o v rfl
      have hsb := H.out.blk.lt
      have hz2 := Hch2.out.size
      have hz3 := He3.out.size
      have e1 : ((st.n + (splF (st.held ++ xs)).1.length : Nat) : Int) = (st.n : Int) + (nl : Int) := by rw [Hnl.out]; omega
      have c3 := ((cs w3 2 (.int .i64 ((st.n : Int) + (nl : Int)))).t (cs _ 1 (.slice none 0 0))).t (cs _ 3 (.bool true))
      refine ⟨Al, nl, cl, os, ⟨none, 0, 0⟩, by rw [Hfd.out]; rfl, ?_, ?_, ?_, fun k hk => .inl (hk.elim .inl (fun h => absurd h foot_none)), fun k hk hk2 => ?_⟩
      · rw [Hfd.out]
        refine ⟨?_, ⟨Room.nil, by simp⟩, foot_none, fun _ => rfl⟩
        have hb := ((Hbl3.out.set_ 2 (.int .i64 ((st.n : Int) + (nl : Int)))).set_ 1 (.slice none 0 0)).set_ 3 (.bool true)
        unfold stmC
        rw [e1]
        exact hb
      · rw [Hfd.out]
        exact (Hl.out.chg c3 (fun k hk e => by have := Hl.out.new k hk; omega)).down hz2
      · exact ((Hch2.out.mono (fun k _ hk => .inr hk)).e He3.out).t (c3.mono (fun k _ hk => .inl hk))
      · have := Hl.out.new k hk
        rcases hk2 with h1 | h1
        · omega
        · exact foot_none h1
    · rw [if_neg he] at Hfd
      have he' : ((erF (splF (st.held ++ xs)).2 : Int) == 31) = false := by simp; omega
      generalize erF (splF (st.held ++ xs)).2 = er at *
      have hsl := fun w' => u8_from A2 N cc2 q w' hqN
      rw [hqR] at hsl
      clear he
      go_wp2_with (refine wpl_makeN (by rfl) rfl ul_u8 info_u8 rfl rfl rfl HqR.out HqR.out (by omega) (by simp only [maxLen]; omega) ?_)
      intro A4 w4 r4 e4 new4; refine Lib.hid ?_
      have hsb := H.out.blk.lt
      have hz2 := Hch2.out.size
      have hz3 := He3.out.size
      have hz4 := e4.size
      rw [setCell_size] at hz4
      have cs3 := Chg.set (T := fun k => k = sb) w3 sb 2 (.int .i64 ((st.n : Int) + (nl : Int))) rfl
      have hnsb : ∀ k, foot A2 cc2 k → ¬ (k = sb) := fun k hk e => by
        rcases Hft2.out k hk with h1 | h1
        · exact H.out.sep (e ▸ h1)
        · omega
      have hr4 : Room w4 A2 N cc2 ((st.held ++ xs).map u8v) := ((Hr2.out.ext He3.out).chg cs3 hnsb).ext e4
      have hsrc : Rd u8v w4 (from_ A2 cc2 q) R (splF (st.held ++ xs)).2 := by
        have h1 := hr4.from_ hqN
        rw [← List.map_drop, hqR, ← Hdr.out] at h1
        exact h1.rd
      have hsb4 : ¬ foot A4 R sb := fun hf => by have := new4 sb hf; omega
      have hbl4 := (Hbl3.out.set_ 2 (.int .i64 ((st.n : Int) + (nl : Int)))).ext e4
      have Hnew4 := Lib.hid new4
      have He4 := Lib.hid e4
      have Hcs3 := Lib.hid cs3
      have Hbl4 := Lib.hid hbl4
      have Hsb4 := Lib.hid hsb4
      have Hhz : Hid (w.heap.size ≤ w2.heap.size ∧ w2.heap.size ≤ w3.heap.size ∧ w3.heap.size ≤ w4.heap.size ∧ sb < w.heap.size) := Lib.hid ⟨hz2, hz3, hz4, hsb⟩
      clear hnsb hr4 hsb4 hbl4 new4 e4 cs3 hz2 hz3 hz4 hsb c0 c1 c2 c3 f0 f1 f2 f3
      go_wp2_with (refine wpl_copyN (by rfl) rfl ul_u8 one_u8 rfl rfl r4 hsrc (fun _ => rfl) ?_)
      intro w5 r5 ch5; refine Lib.hid ?_
      have hbl5 := Hbl4.out.chg ch5 Hsb4.out
      have c1 : w5.cell? ⟨sb, 1, none⟩ = some (.slice s.A s.n s.c) := by rw [hbl5.cell]; rfl
      have f1 := hbl5.frozen 1
      have Hbl5 := Lib.hid hbl5
      have Hr5 := Lib.hid r5
      have Hch5 := Lib.hid ch5
      clear hbl5 r5 ch5 r4 hsrc
      go_wp2_with fail
      try rw [Exit.noGoto_ret]
      go_ret2
      obtain ⟨hz2, hz3, hz4, hsb⟩ := Hhz.out
      have hnew4 := Hnew4.out
      have e1 : ((st.n + (splF (st.held ++ xs)).1.length : Nat) : Int) = (st.n : Int) + (nl : Int) := by rw [Hnl.out]; omega
      have cs5 := Chg.set (T := fun k => k = sb) w5 sb 1 (.slice A4 R R) rfl
      have ca : Chg (stmF sb s) w w4 := (((Hch2.out.mono (fun k _ hk => .inr hk)).e He3.out).t (Hcs3.out.mono (fun k _ hk => .inl hk))).e He4.out
      have cb : Chg (stmF sb s) w w5 := ca.trans Hch5.out (fun k hk hk2 => by have := hnew4 k hk2; omega)
      refine ⟨Al, nl, cl, os, ⟨A4, R, R⟩, by rw [Hfd.out]; rfl, ?_, ?_, cb.t (cs5.mono (fun k _ hk => .inl hk)), fun k hk => ?_, fun k hk hk2 => ?_⟩
      · rw [Hfd.out]
        refine ⟨?_, ⟨Hr5.out.chg cs5 (fun k hk e => Hsb4.out (e ▸ hk)), (splF_mem Hb2.out).1⟩, Hsb4.out, fun h => by cases h⟩
        have hb : Blk (w5.setCell ⟨sb, 1, none⟩ (.slice A4 R R)) sb 84 #[.bool true, .slice A4 R R, .int .i64 ((st.n : Int) + (nl : Int)), .bool st.dead] := Hbl5.out.set_ 1 (.slice A4 R R)
        unfold stmC
        rw [e1]
        rw [Hd.out] at hb
        exact hb
      · rw [Hfd.out]
        have h1 := ((Hl.out.chg Hcs3.out (fun k hk e => by have := Hl.out.new k hk; omega)).ext He4.out).chg Hch5.out (fun k hk hk2 => by have := Hl.out.lt hk; have := hnew4 k hk2; omega)
        exact (h1.chg cs5 (fun k hk e => by have := Hl.out.new k hk; omega)).down hz2
      · rcases hk with hk | hk
        · exact .inl (.inl hk)
        · have := hnew4 k hk; exact .inr (by omega)
      · have h1 := Hl.out.new k hk
        have h2 := Hl.out.lt hk
        rcases hk2 with hk2 | hk2
        · omega
        · have := hnew4 k hk2; omega
end
end Go.Proofs.Ytippgnbmilnjbaa
