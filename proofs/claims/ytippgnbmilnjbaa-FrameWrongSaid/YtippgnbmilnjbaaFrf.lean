/- Frf: the reference's Split, Form, Write, Dead, Tells. -/
import Derived.Test.YtippgnbmilnjbaaFsp
namespace Go.Fx
open Go.RowKit
theorem byt_of_blk {w : World} {g : Nat} {t : TypeId} {xs : List Nat} {n : Nat} (h : Blk w g t (xs.map fun x : Nat => Value.int .u8 (x : Int)).toArray) (hx : ∀ x ∈ xs, x < 256) (hn : xs.length = n) (hm : n ≤ maxLen) : Byt w ⟨some ⟨g, 0, none⟩, n, n⟩ xs :=
  ⟨Room.of_blk h (by simp [hn]) hm, hx⟩
end Go.Fx
namespace Go.Proofs.Ytippgnbmilnjbaa
open Go.RowKit Go.Fx
/-- What holds between two rounds of the reference's Split. -/
structure RsJ (w : World) (b : List Nat) (o : Nat) (W : World) (A : Option Addr) (m c : Nat) : Prop where
  ext : Ext w W
  lst : ∃ os pre, Lst w.heap.size W A m c os pre ∧ splF b = (pre ++ (splF (b.drop o)).1, (splF (b.drop o)).2)
  le : m ≤ o
set_option maxRecDepth 100000 in
set_option maxHeartbeats 1000000 in
theorem rsplit_ (A : Option Addr) (n c : Nat) (b : List Nat) (w : World) (h : Rd u8v w A n b) (hb : ∀ x ∈ b, x < 256) (hc : n ≤ c) (hn : n ≤ 1000000000000) :
    Calls Try.prog 50 #[.slice A n c] w (SplitP b w) := by
  have Hl := Lib.hid h.1
  have H := Lib.hid h
  have Hb := Lib.hid hb
  have H0 : Hid (RsJ w b 0 w none 0 0) := Lib.hid ⟨Ext.refl _, ⟨[], [], Lst.nil, rfl⟩, Nat.le_refl _⟩
  clear h hb
  go_enter Try.func50, Try.ntmps50
  go_wp2_with fail
  go_loopw [5, 6] (fun v i wr => ∃ (o : Nat) (A1 : Option Addr) (m c1 : Nat), o ≤ n ∧ i = .int .i64 (o : Int) ∧ v = .slice A1 m c1 ∧ Hid (RsJ w b o wr A1 m c1)) (fun _ i _ => n - (intOf i).toNat)
  case atStart => exact ⟨0, none, 0, 0, by omega, rfl, rfl, H0⟩
  case round =>
    clear H0
    obtain ⟨o, A1, m, c1, ho, rfl, rfl, HJ⟩ := hrel
    by_cases hlt : o < n
    · have hltI : (o : Int) < (n : Int) := by omega
      have hsl := fun w' => u8_from A n c o w' ho
      have HR := Lib.hid (rread_ (from_ A c o) (n - o) (c - o) (b.drop o) wr ((H.out.from_ ho hc).ext HJ.out.ext) (fun x hx => Hb.out x (List.mem_of_mem_drop hx)) (by omega) (by omega))
      unfold ReadP at HR
      have hdl : (b.drop o).length = n - o := by rw [List.length_drop, Hl.out]
      by_cases he : (rdF (b.drop o)).2.2 = 0
      · have hrn := rdF_n he
        rw [hdl] at hrn
        have hJ := HJ.out
        have Hpush : Hid (∀ s W1, Cloned wr (rdF (b.drop o)).1 (rdF (b.drop o)).1.length s W1 → ∀ W2 A2 c2 W3, Ext W1 W2 → Room W3 A2 (m + 1) c2 ((hJ.lst.choose).map slv ++ [slv s]) → Chg (foot A1 c1) W2 W3 → (∀ k, foot A2 c2 k → foot A1 c1 k ∨ W2.heap.size ≤ k) →
            RsJ w b (o + (rdF (b.drop o)).2.1) W3 A2 (m + 1) c2) := Lib.hid (fun s W1 hcl W2 A2 c2 W3 e2 r ch ft => by
          obtain ⟨pre, hl, hsp⟩ := hJ.lst.choose_spec
          have hl1 := hl.ext hcl.ext
          have hz := hJ.ext.size
          have hz1 := hcl.ext.size
          have hp := hl1.push (by omega) hcl.byt (fun k hk => by
            have h1 := hcl.new k hk
            exact ⟨by omega, fun h2 => by have := hl.lt (.inl h2); omega, fun h2 => by have := hl.lt (.inr h2); omega⟩) e2 r ch ft
          refine ⟨(hJ.ext.t (hcl.ext.t e2)).trans (ch.below (hJ.ext.t (hcl.ext.t e2)).size (fun k hk ht => by have := hl.new k (.inl ht); omega)), ⟨_, _, hp, ?_⟩, by have := hJ.le; omega⟩
          rw [hsp, splF_step he, List.drop_drop, List.append_assoc]
          rfl)
        have Hroom : Hid (∀ W1, Ext wr W1 → Room W1 A1 m c1 ((hJ.lst.choose).map slv)) := Lib.hid (fun W1 e1 => by
          obtain ⟨pre, hl, hsp⟩ := hJ.lst.choose_spec
          exact hl.room.ext e1)
        generalize hJ.lst.choose = os at *
        have hmle : m ≤ 1000000000000 := by have := hJ.le; omega
        rw [he] at HR
        generalize (rdF (b.drop o)).1 = x at *
        generalize (rdF (b.drop o)).2.1 = q at *
        obtain ⟨hq1, hq2, -⟩ := hrn
        have hq2' : (q : Int) ≤ (n : Int) - (o : Int) := by omega
        clear HJ hJ hdl he
        go_wp2_with fail
        refine HR.out.mono ?_; rintro e w1 ⟨s, rfl, hcl⟩
        have Hcl := Lib.hid hcl
        clear hcl
        unfold slv
        go_wp2_with (refine wpl_build (by rfl) rfl ul_bb info_bb [.tmp 28] (by rfl) (by rfl) (by decide) (f := slv) [s] (by rfl) (fun _ => rfl) ?_)
        intro g w2 b2 e2 lo2 r2; refine Lib.hid ?_
        have hrm := Hroom.out w2 (Hcl.out.ext.t e2)
        clear b2 lo2
        go_wp2_with (refine wpl_append_at (by rfl) rfl ul_bb info_bb rfl rfl hrm rfl (Src.ofRd ul_bb r2 (fun _ => rfl)) (by simp only [maxLen]; omega) (by omega) ?_)
        intro A3 c3 w3 r3 ch3 ft3; refine Lib.hid ?_
        have Hfin := Lib.hid (Hpush.out s w1 Hcl.out w2 A3 c3 w3 e2 r3 ch3 ft3)
        clear r3 ch3 ft3 hrm r2 e2
        go_wp2_with fail
        go_roundw
        case rel => exact ⟨o + q, A3, m + 1, c3, by omega, by go_num, rfl, Hfin⟩
        case measure => simp [intOf]; omega
      · have he' : (((rdF (b.drop o)).2.2 : Int) != 0) = true := by simp; omega
        have hsp : ∀ W', Ext wr W' → ∀ er, er = (rdF (b.drop o)).2.2 → SplitP b w (.returned (.tuple #[.slice A1 m c1, .int .i64 (o : Int), .int .i64 (er : Int)])) W' := fun W' e' er hre => by
          obtain ⟨os, pre, hl, hsp⟩ := HJ.out.lst
          rw [splF_stop he, List.append_nil] at hsp
          refine ⟨A1, m, c1, os, ?_, by rw [hsp]; exact hl.ext e', HJ.out.ext.t e'⟩
          have h1 : erF (b.drop o) = er := by
            unfold erF
            rw [if_neg (fun h1 => by rw [h1] at hdl; simp at hdl; omega), hre]
          rw [hsp]
          simp only
          rw [h1, hdl, Hl.out]
          have : n - (n - o) = o := by omega
          rw [this]
        have Hsp := Lib.hid hsp
        generalize hr : (rdF (b.drop o)).2.2 = er at *
        generalize (rdF (b.drop o)).2.1 = er1 at *
        have Hr := Lib.hid hr
        clear he hsp hr hdl
        go_wp2_with fail
        refine HR.out.mono ?_; rintro e w1 ⟨s, rfl, hcl⟩
        have Hcl := Lib.hid hcl
        clear hcl
        unfold slv
        go_wp2_with fail
        go_ret3
        exact Hsp.out _ Hcl.out.ext er rfl
    · obtain rfl : n = o := by omega
      go_wp2_with fail
      go_ret3
      obtain ⟨os, pre, hl, hsp⟩ := HJ.out.lst
      rw [List.drop_of_length_le (by rw [Hl.out]; exact Nat.le_refl _), splF_nil, List.append_nil] at hsp
      refine ⟨A1, m, c1, os, ?_, by rw [hsp]; exact hl, HJ.out.ext⟩
      rw [hsp, Hl.out]
      rfl
theorem cloned_blk {w w' : World} {g : Nat} {xs : List Nat} {n : Nat} (hb : Blk w' g 5 (xs.map u8v).toArray) (e : Ext w w') (lo : w.heap.size ≤ g) (hx : ∀ x ∈ xs, x < 256) (hn : xs.length = n) (hm : n ≤ maxLen) : Cloned w xs n ⟨some ⟨g, 0, none⟩, n, n⟩ w' :=
  ⟨rfl, byt_of_blk hb hx hn hm, e, fun k hk => by rw [foot_some hk]; exact lo⟩
theorem Cloned.down {w w0 : World} {xs : List Nat} {n : Nat} {s : Sl} {w' : World} (h : Cloned w xs n s w') (e : Ext w0 w) : Cloned w0 xs n s w' := ⟨h.n_, h.byt, e.t h.ext, fun k hk => Nat.le_trans e.size (h.new k hk)⟩
set_option maxHeartbeats 1000000 in
theorem rform_ (n : Nat) (w : World) (hn : n ≤ 16384) :
    Calls Try.prog 59 #[.int .i64 (n : Int)] w fun e w' => ∃ s : Sl, e = .returned (slv s) ∧ Cloned w (fmF n) (fmF n).length s w' := by
  by_cases h1 : n ≤ 246
  · have h1' : (n : Int) ≤ 246 := by omega
    have hf : fmF n = [n] := by unfold fmF; rw [if_pos h1]
    have hw : IntKind.u8.wrap (n : Int) = (n : Int) := by rw [IntKind.wrap_u8]; omega
    rw [hf]
    have H1 := Lib.hid h1
    clear hf h1
    go_enter Try.func59, Try.ntmps59
    have hE := Ext.refl w
    go_wp2_with (refine wpl_build (by rfl) rfl ul_u8 info_u8 [.tmp 6] (by rfl) (by rfl) (by decide) (f := u8v) [n] (by rfl) (fun _ => rfl) ?_)
    intro g wk1 b_g ek1 lo_g r_g; refine Lib.hid ?_
    have hE := hE.t ek1
    clear ek1
    go_wp2_with fail
    go_ret
    exact ⟨⟨some ⟨g, 0, none⟩, 1, 1⟩, rfl, cloned_blk b_g hE lo_g (by have := H1.out; simp; omega) rfl (by simp [maxLen])⟩
  · have h1' : ¬ (n : Int) ≤ 246 := by omega
    by_cases h2 : n ≤ 255
    · have h2' : (n : Int) ≤ 255 := by omega
      have hf : fmF n = [247, n] := by unfold fmF; rw [if_neg h1, if_pos h2]
      have hw : IntKind.u8.wrap (n : Int) = (n : Int) := by rw [IntKind.wrap_u8]; omega
      rw [hf]
      have H1 := Lib.hid h2
      clear hf h1 h2
      go_enter Try.func59, Try.ntmps59
      have hE := Ext.refl w
      go_wp2_with (refine wpl_build (by rfl) rfl ul_u8 info_u8 [.const (.int .u8 247), .tmp 11] (by rfl) (by rfl) (by decide) (f := u8v) [247, n] (by rfl) (fun _ => rfl) ?_)
      intro g wk2 b_g ek2 lo_g r_g; refine Lib.hid ?_
      have hE := hE.t ek2
      clear ek2
      go_wp2_with fail
      go_ret
      exact ⟨⟨some ⟨g, 0, none⟩, 2, 2⟩, rfl, cloned_blk b_g hE lo_g (by have := H1.out; simp; omega) rfl (by simp [maxLen])⟩
    · have h2' : ¬ (n : Int) ≤ 255 := by omega
      have hf : fmF n = [248, n / 256, n % 256] := by unfold fmF; rw [if_neg h1, if_neg h2]
      obtain ⟨q, hq⟩ : ∃ q, q = n / 256 := ⟨_, rfl⟩
      obtain ⟨r, hr⟩ : ∃ r, r = n % 256 := ⟨_, rfl⟩
      have e1 : (n : Int) / 256 = (q : Int) := by omega
      have e2 : (n : Int) % 256 = (r : Int) := by omega
      have hw : IntKind.u8.wrap (q : Int) = (q : Int) := by rw [IntKind.wrap_u8]; omega
      have hw2 : IntKind.u8.wrap (r : Int) = (r : Int) := by rw [IntKind.wrap_u8]; omega
      rw [hf, ← hq, ← hr]
      have H1 : Hid (q < 256 ∧ r < 256) := Lib.hid ⟨by omega, by omega⟩
      clear hf h1 h2 hq hr
      go_enter Try.func59, Try.ntmps59
      have hE := Ext.refl w
      go_wp2_with (refine wpl_build (by rfl) rfl ul_u8 info_u8 [.const (.int .u8 248), .tmp 15, .tmp 18] (by rfl) (by rfl) (by decide) (f := u8v) [248, q, r] (by rfl) (fun _ => rfl) ?_)
      intro g wk3 b_g ek3 lo_g r_g; refine Lib.hid ?_
      have hE := hE.t ek3
      clear ek3
      go_wp2_with fail
      go_ret
      exact ⟨⟨some ⟨g, 0, none⟩, 3, 3⟩, rfl, cloned_blk b_g hE lo_g (by have := H1.out; simp; omega) rfl (by simp [maxLen])⟩
def WriteP (xs : List Nat) (w : World) (e : Ending) (w' : World) : Prop := ∃ s : Sl, e = .returned (.tuple #[slv s, .int .i64 ((wrF xs).2 : Int)]) ∧ Cloned w (wrF xs).1 (wrF xs).1.length s w'
theorem fmF_lt {n : Nat} (h : n ≤ 16384) : ∀ x ∈ fmF n, x < 256 := by
  unfold fmF
  split
  · simp; omega
  · split
    · simp; omega
    · simp; omega
/-- A body is put behind its form. -/
theorem cloned_app {w w1 w2 : World} {xs fs : List Nat} {n : Nat} {s : Sl} {A' : Option Addr} {c' : Nat} (h : Cloned w fs fs.length s w1) (hx : ∀ x ∈ xs, x < 256) (hn : xs.length = n) (r : Room w2 A' (s.n + n) c' (fs.map u8v ++ xs.map u8v)) (ch : Chg (foot s.A s.c) w1 w2) (ft : ∀ k, foot A' c' k → foot s.A s.c k ∨ w1.heap.size ≤ k) :
    Cloned w (fs ++ xs) (fs ++ xs).length ⟨A', s.n + n, c'⟩ w2 := by
  refine ⟨?_, ⟨by rw [List.map_append]; exact r, ?_⟩, ?_, fun k hk => ?_⟩
  · rw [List.length_append, ← hn]
    exact congrArg (· + xs.length) h.n_
  · intro x hx'
    rcases List.mem_append.1 hx' with h1 | h1
    · exact h.byt.lt x h1
    · exact hx x h1
  · exact h.ext.trans (ch.below h.ext.size (fun k hk ht => by have := h.new k ht; omega))
  · rcases ft k hk with h1 | h1
    · exact h.new k h1
    · exact Nat.le_trans h.ext.size h1
set_option maxHeartbeats 1000000 in
theorem rwrite_ (A : Option Addr) (n c : Nat) (xs : List Nat) (w : World) (h : Rd u8v w A n xs) (hx : ∀ x ∈ xs, x < 256) :
    Calls Try.prog 38 #[.slice A n c] w (WriteP xs w) := by
  have hl := h.1
  by_cases h1 : 16384 < n
  · have h1' : (16384 : Int) < (n : Int) := by omega
    have hf : wrF xs = ([], 3) := by unfold wrF; rw [if_pos (by omega)]
    have Hf := Lib.hid hf
    clear hf h1 h hl
    go_enter Try.func38, Try.ntmps38
    go_wp2
    go_ret2
    exact ⟨⟨none, 0, 0⟩, by rw [Hf.out]; rfl, by rw [Hf.out]; exact cloned_nil w⟩
  · have h1' : ¬ (16384 : Int) < (n : Int) := by omega
    have hf : wrF xs = (fmF n ++ xs, 0) := by unfold wrF; rw [if_neg (by omega)]; unfold frF; rw [hl]
    have Hf := Lib.hid hf
    have HF := Lib.hid (rform_ n w (by omega))
    have HR := Lib.hid h
    have Hl := Lib.hid hl
    have Hx := Lib.hid hx
    have hn' : n ≤ 16384 := by omega
    have Hfl := Lib.hid (fmF_len n)
    clear hf h1 h hl hx
    go_enter Try.func38, Try.ntmps38
    go_wp2_with fail
    refine HF.out.mono ?_; rintro e w1 ⟨s, rfl, hcl⟩
    have hsn : s.n ≤ 3 := by rw [hcl.n_]; exact Hfl.out.2
    have Hcl := Lib.hid hcl
    clear hcl
    unfold slv
    go_wp2_with (refine wpl_append_at (by rfl) rfl ul_u8 info_u8 rfl rfl Hcl.out.byt.room rfl (Src.ofRd ul_u8 (HR.out.ext Hcl.out.ext) (fun _ => rfl)) (by simp only [maxLen]; omega) (by omega) ?_)
    intro A2 c2 w2 r2 ch2 ft2; refine Lib.hid ?_
    have Hfin := Lib.hid (cloned_app Hcl.out Hx.out Hl.out r2 ch2 ft2)
    clear r2 ch2 ft2
    go_wp2_with fail
    go_ret2
    exact ⟨⟨A2, s.n + n, c2⟩, by rw [Hf.out]; rfl, by rw [Hf.out]; exact Hfin.out⟩
/-- The reference's stream is a value of one field. -/
abbrev strv (s : Sl) : Value := .agg #[.slice s.A s.n s.c]
set_option maxHeartbeats 1000000 in
theorem rdead_ (A : Option Addr) (n c : Nat) (b : List Nat) (w : World) (h : Rd u8v w A n b) (hb : ∀ x ∈ b, x < 256) (hc : n ≤ c) (hn : n ≤ 1000000000000) :
    Calls Try.prog 56 #[strv ⟨A, n, c⟩] w fun e w' => e = .returned (.bool (decide (erF (splF b).2 = 31))) ∧ Ext w w' := by
  have HS := Lib.hid (rsplit_ A n c b (w.alloc (.cells #[.slice A n c] 87)) (h.alloc _) hb hc hn)
  unfold SplitP at HS
  clear h hb
  go_enter Try.func56, Try.ntmps56
  go_wp2_with fail
  refine HS.out.mono ?_; rintro e w1 ⟨A1, n1, c1, os, rfl, hl, he⟩
  have He := Lib.hid he
  have hq : ((erF (splF b).2 : Int) == 31) = decide (erF (splF b).2 = 31) := by
    rw [Bool.eq_iff_iff]; simp; omega
  clear hl he
  obtain ⟨d, hd⟩ : ∃ d, d = decide (erF (splF b).2 = 31) := ⟨_, rfl⟩
  have Hd := Lib.hid hd
  rw [← hd] at hq
  clear hd
  generalize erF (splF b).2 = er at hq ⊢
  go_wp2_with fail
  refine bodyPost_ret (v := .bool d) (by simp [results, Try.results56, go_sem]) rfl ⟨?_, (Ext.alloc w _).t He.out⟩
  rw [Hd.out]
def TellsP (b : List Nat) : Nat × Nat × Nat := if erF (splF b).2 = 31 then (0, 0, (splF b).1.length) else ((splF b).2.length, (ndF (splF b).2).1, (splF b).1.length)
set_option maxHeartbeats 1000000 in
theorem rtells_ (A : Option Addr) (n c : Nat) (b : List Nat) (w : World) (h : Rd u8v w A n b) (hb : ∀ x ∈ b, x < 256) (hc : n ≤ c) (hn : n ≤ 1000000000000) :
    Calls Try.prog 55 #[strv ⟨A, n, c⟩] w fun e w' => e = .returned (.tuple #[.int .i64 ((TellsP b).1 : Int), .int .i64 ((TellsP b).2.1 : Int), .int .i64 ((TellsP b).2.2 : Int)]) ∧ Ext w w' := by
  have HS := Lib.hid (rsplit_ A n c b (w.alloc (.cells #[.slice A n c] 87)) (h.alloc _) hb hc hn)
  unfold SplitP at HS
  have Hb := Lib.hid (Blk.new w 87 #[.slice A n c])
  have Hh := Lib.hid h
  have Hx := Lib.hid hb
  have hbn : b.length = n := h.1
  have hrl := splF_len b
  have hrd := splF_drop b
  rw [hbn] at hrl hrd HS
  obtain ⟨q, hq⟩ : ∃ q, q = n - (splF b).2.length := ⟨_, rfl⟩
  rw [← hq] at HS hrd
  have hqn : q ≤ n := by omega
  clear h hb
  by_cases he : erF (splF b).2 = 31
  · have hT : TellsP b = (0, 0, (splF b).1.length) := by unfold TellsP; rw [if_pos he]
    have HT := Lib.hid hT
    rw [he] at HS
    clear hT he hrl hrd hq
    go_enter Try.func55, Try.ntmps55
    go_wp2_with fail
    refine HS.out.mono ?_; rintro e w1 ⟨A1, n1, c1, os, rfl, hl, he⟩
    have He := Lib.hid he
    have Hn1 := Lib.hid hl.n_
    clear hl he
    go_wp2_with fail
    go_ret3
    refine ⟨?_, (Ext.alloc w _).t He.out⟩
    rw [HT.out, Hn1.out]
    rfl
  · have hT : TellsP b = ((splF b).2.length, (ndF (splF b).2).1, (splF b).1.length) := by unfold TellsP; rw [if_neg he]
    have HT := Lib.hid hT
    have he' : ((erF (splF b).2 : Int) == 31) = false := by simp; omega
    have hsl := fun w' => u8_from A n c q w' hqn
    have HN := Lib.hid (fun w' (e : Ext w w') => rneed_ (from_ A c q) (n - q) (c - q) (splF b).2 w' (by rw [hrd]; exact (Hh.out.ext e).from_ hqn hc) (splF_mem Hx.out).1 (by omega))
    unfold NeedP at HN
    have Hq : Hid ((n : Int) - (q : Int) = ((splF b).2.length : Int)) := Lib.hid (by omega)
    clear hT he hrl hrd hq
    generalize erF (splF b).2 = er at *
    go_enter Try.func55, Try.ntmps55
    go_wp2_with fail
    refine HS.out.mono ?_; rintro e w1 ⟨A1, n1, c1, os, rfl, hl, he⟩
    have hce := (Hb.out.ext he).cell0
    have He := Lib.hid ((Ext.alloc w _).t he)
    have Hn1 := Lib.hid hl.n_
    have hbk := Hb.out.ext he
    have Hbk := Lib.hid hbk
    clear hl he hbk
    go_wp2_with fail
    refine (HN.out _ He.out).mono ?_; rintro e w2 ⟨rfl, he2⟩
    have hce2 := (Hbk.out.ext he2).cell0
    have He2 := Lib.hid he2
    clear he2 hce
    go_wp2_with fail
    go_ret3
    refine ⟨ret3 ?_ ?_ ?_, He.out.t He2.out⟩
    · rw [HT.out]; exact Hq.out
    · rw [HT.out]
    · rw [HT.out, Hn1.out]
end Go.Proofs.Ytippgnbmilnjbaa
