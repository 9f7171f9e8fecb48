/- Ofl: filled, of events that can be put. -/
import Derived.Test.YtdjpggnadelnaaaOmd
namespace Go.Proofs.Ytdjpggnadelnaaa
open Go.RowKit Go.Fx
/-- A new outbox with these events. -/
def FillP (s e : Int) (l : List Ev) (w : World) (en : Ending) (w' : World) : Prop :=
  ∃ g A n c, en = .returned (.tuple #[.pointer (some ⟨g, 0, none⟩), .bool true]) ∧ Obx w' g s 256 e l A n c ∧ w.heap.size ≤ g ∧ (∀ k, foot A c k → w.heap.size ≤ k) ∧ Ext w w'
set_option maxRecDepth 100000 in
theorem filled_ (s e : Int) (Al : Option Addr) (nl cl : Nat) (l : List Ev) (w : World) (hn : newB s 256 e = true) (hl : RdS 5 evC w Al nl l) (hok : ∀ x ∈ l, EvOk x) (ho : okP s e (-1) l = true) (h256 : l.length ≤ 256) :
    Calls Try.prog 12 #[.int .i64 s, .int .i64 e, .slice Al nl cl] w (FillP s e l w) := by
  have HN := Lib.hid (obx_new s 256 e w hn)
  have hnl : nl ≤ 100000 := by have := hl.1; omega
  have HP := Lib.hid (fun (w1 : World) (g : Nat) (h : Obx w1 g s 256 e [] none 0 0) (x : Ext w w1) => obx_put Al nl cl l h (hl.ext x) hok hnl)
  have HE := Lib.hid (put_all (s := s) (lim := 256) (e := e) (evs := []) (l := l) (BoxOk.nil hn) ho (by simp; omega))
  clear hl hok ho h256 hn
  go_enter Try.func12, Try.ntmps12
  go_wp2_with fail
  refine HN.out.mono ?_; rintro en w1 ⟨g, rfl, o1, b1, x1⟩
  have HO := Lib.hid o1
  clear o1
  go_wp2_with fail
  refine (HP.out w1 g HO.out x1).mono ?_; rw [HE.out]; rintro en w2 ⟨A, n, c, rfl, o2, ch2, ft2⟩
  have x2 : Ext w w2 := x1.trans (ch2.below x1.size (fun k hk hf => by
    rcases hf with hf | hf
    · omega
    · exact absurd hf foot_none))
  have HR := Lib.hid (show Obx w2 g s 256 e l A n c ∧ w.heap.size ≤ g ∧ (∀ k, foot A c k → w.heap.size ≤ k) ∧ Ext w w2 from ⟨o2, b1, fun k hk => (ft2 k hk).elim (fun h => absurd h foot_none) (fun h => Nat.le_trans x1.size h), x2⟩)
  clear o2 ch2 ft2 x2 HO HP HN
  go_wp2_with fail
  refine bodyPost_ret (v := .tuple #[.pointer (some ⟨g, 0, none⟩), .bool true]) (by simp [results, Try.results12, go_sem]) rfl ⟨g, A, n, c, rfl, HR.out⟩
set_option maxRecDepth 100000 in
/-- Clear. -/
theorem obx_clear {w : World} {g n c : Nat} {s lim e : Int} {evs : List Ev} {A : Option Addr} (h : Obx w g s lim e evs A n c) :
    Calls Try.prog 24 #[.pointer (some ⟨g, 0, none⟩)] w fun en w' => en = .returned (.int .i64 (n : Int)) ∧ Obx w' g s lim e [] A 0 c ∧ Chg (fun k => k = g) w w' := by
  have HB := Lib.hid (obx_back 0 h)
  clear h
  go_enter Try.func24, Try.ntmps24
  go_wp2_with fail
  refine HB.out.mono ?_; rintro en w1 ⟨n', hn, o1, ch, ⟨h0, hz, rfl⟩ | ⟨h0, -, -⟩⟩
  · obtain rfl : n' = 0 := by omega
    rw [List.take_zero] at o1
    have HO := Lib.hid (And.intro o1 ch)
    clear o1 ch HB hn h0 hz
    simp only [Int.natCast_zero, Int.sub_zero]
    go_wp2_with fail
    go_ret
    exact ⟨rfl, HO.out⟩
  · omega
end Go.Proofs.Ytdjpggnadelnaaa
