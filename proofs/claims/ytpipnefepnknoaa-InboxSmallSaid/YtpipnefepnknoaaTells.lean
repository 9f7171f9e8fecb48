/- What tells does: acts with an inbox, and with the reference's state beside it. -/
import Derived.Test.YtpipnefepnknoaaBo
import Derived.Test.YtpipnefepnknoaaSpoil
namespace Go.Proofs.Ytpipnefepnknoaa
open Go.RowKit Go.Fx
def TellK (w0 : World) (ib rb : Nat) (al : List ActN) (k : Nat) (w : World) : Prop :=
  ∃ L W P pn fs, Bo w0 w ib rb L W P pn fs (playF (al.take k)).1 ∧ Good (playF (al.take k)).1 (2000 - 20 * k)
def TellJ (w0 : World) (ib rb g : Nat) (cs : Array Value) (al : List ActN) (k j : Nat) (w : World) : Prop :=
  ∃ L W P pn fs, Bo w0 w ib rb L W P pn fs (turnsF j (playF (al.take k))).1 ∧ Good (turnsF j (playF (al.take k))).1 (2000 - 20 * k - j) ∧ Blk w g 47 cs ∧ w0.heap.size ≤ g ∧ ¬ boxF ib L g ∧ g ≠ rb ∧ ¬ rowF W.A W.n g
theorem good_ref {st : St} {N : Nat} (h : Good st (N + 1)) : st.ans + st.wait.length + 1 ≤ 100000000 ∧ st.put ≤ 100000000 ∧ st.turns ≤ 100000000 ∧ st.idle ≤ 100000000 ∧ st.left ≤ 1000000 := by
  have h1 := h.fine.ans
  have h2 := h.fine.put
  have h3 := h.fine.turns
  have h4 := h.fine.idle
  have h5 := h.fine.left
  omega
theorem ext_set8 {B b : Nat} {a w : World} (h : Below B a w) (hb : B ≤ b) (v0 v1 v2 v3 v4 v5 v6 v7 : Value) : Below B a ((((((((w.setCell ⟨b, 0, none⟩ v0).setCell ⟨b, 1, none⟩ v1).setCell ⟨b, 2, none⟩ v2).setCell ⟨b, 3, none⟩ v3).setCell ⟨b, 4, none⟩ v4).setCell ⟨b, 5, none⟩ v5).setCell ⟨b, 6, none⟩ v6).setCell ⟨b, 7, none⟩ v7) :=
  below_set (below_set (below_set (below_set (below_set (below_set (below_set (below_set h hb _) hb _) hb _) hb _) hb _) hb _) hb _) hb _
/-- What the reference's Put leaves, in the law's own boxes. -/
def RefQ (w0 w : World) (q : St × List (List Nat)) (v18 v19 : Value) (wx : World) : Prop :=
  ∃ W P pn fs A n c os nb, v18 = .pointer (some ⟨nb, 0, none⟩) ∧ v19 = .slice A n c ∧ RefOk w0 wx W P fs q.1 ∧ RefL w0 wx A n c os q.2 ∧ Ext w wx ∧ (∀ k, rowF W.A W.n k → w.heap.size ≤ k) ∧
    Blk wx nb 69 #[.slice W.A W.n W.c, .slice P.A P.n P.c, .int .i64 pn, .int .i64 (q.1.left : Int), .int .i64 (q.1.put : Int), .int .i64 (q.1.ans : Int), .int .i64 (q.1.turns : Int), .int .i64 (q.1.idle : Int)] ∧ w.heap.size ≤ nb
section
variable {w w6 w7 : World} {q : St × List (List Nat)} {W7 P7 : Sl} {pn7 : Int} {fs7 : List Fr} {A7 : Option Addr} {n7 c7 : Nat} {os7 : List Sl}
theorem refQ_new (hk : RefOk w w7 W7 P7 fs7 q.1) (hl : RefL w w7 A7 n7 c7 os7 q.2) (he : Ext w6 w7) (hw : ∀ k, rowF W7.A W7.n k → w6.heap.size ≤ k) :
    RefQ w w6 q (.pointer (some ⟨w7.heap.size, 0, none⟩)) (.slice A7 n7 c7) (w7.alloc (.cells #[.slice W7.A W7.n W7.c, .slice P7.A P7.n P7.c, .int .i64 pn7, .int .i64 (q.1.left : Int), .int .i64 (q.1.put : Int), .int .i64 (q.1.ans : Int), .int .i64 (q.1.turns : Int), .int .i64 (q.1.idle : Int)] 69)) :=
  ⟨W7, P7, pn7, fs7, A7, n7, c7, os7, w7.heap.size, rfl, rfl, hk.ext (Ext.alloc _ _), hl.ext (Ext.alloc _ _), he.t (Ext.alloc _ _), hw, Blk.new _ _ _, he.size⟩
theorem refQ_set (hb : Blk w7 w6.heap.size 69 #[.slice none 0 0, .slice none 0 0, .int .i64 0, .int .i64 0, .int .i64 0, .int .i64 0, .int .i64 0, .int .i64 0]) (hk : RefOk w w7 W7 P7 fs7 q.1) (hl : RefL w w7 A7 n7 c7 os7 q.2) (he : Ext w6 w7) (hw : ∀ k, rowF W7.A W7.n k → w6.heap.size + 1 ≤ k) (ht : ∀ k, rowF A7 n7 k → w6.heap.size + 1 ≤ k) :
    RefQ w w6 q (.pointer (some ⟨w6.heap.size, 0, none⟩)) (.slice A7 n7 c7) ((((((((w7.setCell ⟨w6.heap.size, 0, none⟩ (.slice W7.A W7.n W7.c)).setCell ⟨w6.heap.size, 1, none⟩ (.slice P7.A P7.n P7.c)).setCell ⟨w6.heap.size, 2, none⟩ (.int .i64 pn7)).setCell ⟨w6.heap.size, 3, none⟩ (.int .i64 (q.1.left : Int))).setCell ⟨w6.heap.size, 4, none⟩ (.int .i64 (q.1.put : Int))).setCell ⟨w6.heap.size, 5, none⟩ (.int .i64 (q.1.ans : Int))).setCell ⟨w6.heap.size, 6, none⟩ (.int .i64 (q.1.turns : Int))).setCell ⟨w6.heap.size, 7, none⟩ (.int .i64 (q.1.idle : Int))) := by
  obtain ⟨hb8, hch8⟩ := hb.all8 (.slice W7.A W7.n W7.c) (.slice P7.A P7.n P7.c) (.int .i64 pn7) (.int .i64 (q.1.left : Int)) (.int .i64 (q.1.put : Int)) (.int .i64 (q.1.ans : Int)) (.int .i64 (q.1.turns : Int)) (.int .i64 (q.1.idle : Int))
  exact ⟨W7, P7, pn7, fs7, A7, n7, c7, os7, w6.heap.size, rfl, rfl, hk.chg hch8 (fun k hk e => by have := hw k hk; omega), hl.chg hch8 (fun k hk e => by have := ht k hk; omega), ext_set8 he (Nat.le_refl _) _ _ _ _ _ _ _ _, fun k hk => by have := hw k hk; omega, hb8, Nat.le_refl _⟩
end
set_option maxRecDepth 100000 in
set_option maxHeartbeats 4000000 in
theorem tells_le (A : Option Addr) (n c : Nat) (al : List ActN) (w : World) (hacts : Acts w A n al) (hnc : n ≤ c) (_hc : c ≤ maxLen) (h40 : n ≤ 40) :
    Calls Try.prog 21 #[.slice A n c] w fun e w' => e = .returned (.bool true) ∧ Ext w w' := by
  unfold maxLen at _hc
  have h1 : (n : Int) ≤ 40 := by omega
  have h2 : (n : Int) ≤ (c : Int) := by omega
  have HX := Lib.hid hacts
  clear hacts
  go_enter Try.func21, Try.ntmps21
  go_wp2_with fail
  refine (ib_New _ _).mono ?_
  rintro e w1 ⟨rfl, hib, he, hsz⟩
  have hsb := Blk.new w 31 #[.slice none 0 0, .int .i64 0, .slice none 0 0, .slice none 0 0]
  have hS := sys_new (Below.refl w.heap.size w) (Ext.alloc w _) (Nat.le_refl _) hsb hib he
  rw [World.size_alloc] at *
  generalize hibe : w.heap.size + 1 = ib at hS ⊢
  have HS := Lib.hid hS
  clear hS hsb hib he hsz hibe
  go_upto_region 6 with fail
  have H0 : Hid (TellK w ib w1.heap.size al 0 (w1.alloc (.cells zeroC 69))) :=
    Lib.hid ⟨lay0 w.heap.size, ⟨none, 0, 0⟩, ⟨none, 0, 0⟩, 0, [], ⟨HS.out.ext (Ext.alloc _ _), ⟨FrL.nil, Nat.le_refl _, by simp [maxLen], rfl, by simp, ⟨rfl, fun h => absurd h (Nat.lt_irrefl 0)⟩, by simp [playF, st0]⟩, Blk.new w1 _ _, rfl, fun h => by have := HS.out.box.lt h; omega, HS.out.below.size, fun j hj => absurd hj.1 (Nat.lt_irrefl 0)⟩, good0 _ (by omega)⟩
  unfold zeroC at H0
  generalize w1.alloc (.cells #[.slice none 0 0, .slice none 0 0, .int .i64 0, .int .i64 0, .int .i64 0, .int .i64 0, .int .i64 0, .int .i64 0] 69) = w2 at H0 ⊢
  generalize w1.heap.size = rb at H0 ⊢
  clear HS
  go_wp2_with fail
  go_loopw [44] (fun i wr => ∃ (k : Nat), k ≤ n ∧ i = .int .i64 (k : Int) ∧ Hid (TellK w ib rb al k wr)) (fun i _ => n - (intOf i).toNat)
  case atStart => exact ⟨0, by omega, rfl, H0⟩
  case round =>
    clear H0
    obtain ⟨k, hk, rfl, H⟩ := hrel
    by_cases hlt : k < n
    · have hlt' : (k : Int) < (n : Int) := by omega
      obtain ⟨L0, W0, P0, pn0, fs0, hO, hG⟩ := H.out
      obtain ⟨a, ha⟩ : ∃ a, al[k]? = some a := ⟨al[k]'(by rw [HX.out.len]; exact hlt), List.getElem?_eq_getElem _⟩
      obtain ⟨b, o, s, rfl, hb, hat⟩ := HX.out.at_ k a ha
      have ew : Ext w wr := hO.sys.below
      have ct := (ew.cell (p := ⟨b, o + k * 2, none⟩) hb).trans hat.t
      have cf := (ew.cell (p := ⟨b, o + k * 2 + 1, none⟩) hb).trans hat.f
      have hlt256 := hat.lt
      have Hv := Lib.hid hat.v
      have Ha := Lib.hid ha
      have HO := Lib.hid hO
      have HG := Lib.hid hG
      clear H hO hG ha hat ew
      go_wp2_with fail
      have H1 : Hid (TellJ w ib rb wr.heap.size #[.int .u8 (a.1 : Int), .slice s.A s.n s.c] al k 0 (wr.alloc (.cells #[.int .u8 (a.1 : Int), .slice s.A s.n s.c] 47))) :=
        Lib.hid ⟨L0, W0, P0, pn0, fs0, HO.out.ext (Ext.alloc _ _), HG.out, Blk.new wr _ _, HO.out.sys.below.size, fun h => by have := HO.out.sys.box.lt h; omega, by have := HO.out.blk.lt; omega, fun h => by have := HO.out.rlt h; omega⟩
      have cg0 : (wr.alloc (.cells #[.int .u8 (a.1 : Int), .slice s.A s.n s.c] 47)).cell? ⟨wr.heap.size, 0, none⟩ = some (.int .u8 (a.1 : Int)) := by rw [(Blk.new wr _ _).cell]; rfl
      generalize wr.alloc (.cells #[.int .u8 (a.1 : Int), .slice s.A s.n s.c] 47) = W1 at H1 cg0 ⊢
      generalize wr.heap.size = g at H1 cg0 ⊢
      have ht10 : (a.1 : Int) % 10 < 10 := by omega
      clear ct cf HO HG
      try go_wp2_with fail
      clear cg0
      go_loopw [51] (fun i wr => ∃ (j : Nat), j ≤ a.1 % 10 ∧ i = .int .u8 (j : Int) ∧ Hid (TellJ w ib rb g #[.int .u8 (a.1 : Int), .slice s.A s.n s.c] al k j wr)) (fun i _ => a.1 % 10 - (intOf i).toNat)
      case atStart => exact ⟨0, by omega, rfl, H1⟩
      case round =>
        clear H1
        obtain ⟨j, hj, rfl, H⟩ := hrel
        by_cases hjt : j < a.1 % 10
        · have hjt' : (j : Int) < (a.1 : Int) % 10 := by omega
          have hj9 : (j : Int) < 10 := by omega
          obtain ⟨L0, W0, P0, pn0, fs0, hO, hG, hB, hg, hgb, hgr, hgo⟩ := H.out
          obtain ⟨st, hst⟩ : ∃ st, st = (turnsF j (playF (al.take k))).1 := ⟨_, rfl⟩
          rw [← hst] at hO hG
          have hG1 : Good st ((2000 - 20 * k - (j + 1)) + 1) := hG.mono (by omega)
          have hgrf := good_ref hG1
          have HT := Lib.hid (sys_Turn hO.sys hG1)
          generalize hq : turnF st = q at HT
          have Hq := Lib.hid hq
          have HO := Lib.hid hO
          have HG1 := Lib.hid hG1
          have HB := Lib.hid hB
          have Hg := Lib.hid (And.intro hg (And.intro hgb (And.intro hgr hgo)))
          have Hst := Lib.hid hst
          have Hgrf := Lib.hid hgrf
          clear H hO hG hB hg hgb hgr hgo hG1 hst hgrf hq
          go_wp2_with fail
          refine HT.out.mono ?_
          rintro e w5 ⟨L5, A5, n5, c5, os5, got⟩
          have hret := got.ret
          have Hgot := Lib.hid got
          have hrow5 : ∀ j, rowF W0.A W0.n j → ¬ boxF ib L0 j := fun j hj => (HO.out.row j hj).2.1
          have hb5 := HO.out.blk.chg got.step.chg HO.out.rb1
          unfold refC at hb5
          obtain ⟨x0, x1, x2, x3, x4, x5, x6, x7⟩ := hb5.c8
          have HR := Lib.hid (ref_Turn w w5 W0 P0 pn0 fs0 st (HO.out.ref.chg got.step.chg hrow5) HO.out.flag Hgrf.out.1 Hgrf.out.2.2.1 Hgrf.out.2.2.2.1 Hgrf.out.2.2.2.2)
          unfold refV at HR
          rw [Hq.out] at HR
          have Hb5 := Lib.hid hb5
          clear got hrow5 hb5 HT
          subst hret
          go_wp2_with fail
          refine HR.out.mono ?_
          rintro e w6 ⟨W6, P6, pn6, fs6, A6, n6, c6, os6, rfl, hk6, hl6, he6, hw6, ht6⟩
          unfold refV
          clear x0 x1 x2 x3 x4 x5 x6 x7 HR
          have he6 := he6
          have hb7 := Blk.new w6 69 #[.slice W6.A W6.n W6.c, .slice P6.A P6.n P6.c, .int .i64 pn6, .int .i64 (q.1.left : Int), .int .i64 (q.1.put : Int), .int .i64 (q.1.ans : Int), .int .i64 (q.1.turns : Int), .int .i64 (q.1.idle : Int)]
          have e67 := Ext.alloc w6 (.cells #[.slice W6.A W6.n W6.c, .slice P6.A P6.n P6.c, .int .i64 pn6, .int .i64 (q.1.left : Int), .int .i64 (q.1.put : Int), .int .i64 (q.1.ans : Int), .int .i64 (q.1.turns : Int), .int .i64 (q.1.idle : Int)] 69)
          have got := Hgot.out
          have hE := he6.t e67
          have hfr := framesR A5 A6 n5 n6 c5 c6 os5 os6 q.2 q.2 (w6.alloc (.cells #[.slice W6.A W6.n W6.c, .slice P6.A P6.n P6.c, .int .i64 pn6, .int .i64 (q.1.left : Int), .int .i64 (q.1.put : Int), .int .i64 (q.1.ans : Int), .int .i64 (q.1.turns : Int), .int .i64 (q.1.idle : Int)] 69)) (got.resp.ext hE).rd (Reads.of (got.resp.ext hE).byt) (hl6.ext e67).rd (hl6.reads.ext (got.sys.below.t hE)) got.resp.le (Nat.le_trans hl6.le hl6.max)
          rw [decide_eq_true (rfl : q.2 = q.2)] at hfr
          have HFr := Lib.hid hfr
          have Hk6 := Lib.hid hk6
          have Hw6 := Lib.hid hw6
          have He6 := Lib.hid he6
          have Hb7 := Lib.hid hb7
          have hb5 := Blk.ext Hb5.out hE
          clear hfr hl6 ht6 hk6 hw6 he6 e67 hE got
          go_wp2_with fail
          refine HFr.out.mono ?_; rintro e wx ⟨rfl, rfl⟩
          have Ee := Lib.hid (Ext.alloc w6 (.cells #[.slice W6.A W6.n W6.c, .slice P6.A P6.n P6.c, .int .i64 pn6, .int .i64 (q.1.left : Int), .int .i64 (q.1.put : Int), .int .i64 (q.1.ans : Int), .int .i64 (q.1.turns : Int), .int .i64 (q.1.idle : Int)] 69))
          generalize w6.alloc (.cells #[.slice W6.A W6.n W6.c, .slice P6.A P6.n P6.c, .int .i64 pn6, .int .i64 (q.1.left : Int), .int .i64 (q.1.put : Int), .int .i64 (q.1.ans : Int), .int .i64 (q.1.turns : Int), .int .i64 (q.1.idle : Int)] 69) = w7 at hb5 Hb7 Ee ⊢
          generalize w6.heap.size = nb at Hb7 ⊢
          obtain ⟨x0, x1, x2, x3, x4, x5, x6, x7⟩ := Hb7.out.c8
          obtain ⟨y0, y1, y2, y3, y4, y5, y6, y7⟩ := hb5.c8
          obtain ⟨z0, z1, z2, z3, z4, z5, z6, z7⟩ := hb5.f8
          go_upto_region 16 with fail
          obtain ⟨hb8, hch8⟩ := hb5.all8 (.slice W6.A W6.n W6.c) (.slice P6.A P6.n P6.c) (.int .i64 pn6) (.int .i64 (q.1.left : Int)) (.int .i64 (q.1.put : Int)) (.int .i64 (q.1.ans : Int)) (.int .i64 (q.1.turns : Int)) (.int .i64 (q.1.idle : Int))
          generalize ((((((((w7.setCell ⟨rb, 0, none⟩ (.slice W6.A W6.n W6.c)).setCell ⟨rb, 1, none⟩ (.slice P6.A P6.n P6.c)).setCell ⟨rb, 2, none⟩ (.int .i64 pn6)).setCell ⟨rb, 3, none⟩ (.int .i64 (q.1.left : Int))).setCell ⟨rb, 4, none⟩ (.int .i64 (q.1.put : Int))).setCell ⟨rb, 5, none⟩ (.int .i64 (q.1.ans : Int))).setCell ⟨rb, 6, none⟩ (.int .i64 (q.1.turns : Int))).setCell ⟨rb, 7, none⟩ (.int .i64 (q.1.idle : Int))) = W4 at hb8 hch8 ⊢
          have hout := HO.out.outs Hgot.out Hw6.out
          have HBo : Hid (Bo w W4 ib rb L5 W6 P6 pn6 fs6 q.1) := Lib.hid (HO.out.next Hgot.out Hk6.out He6.out Ee.out Hw6.out hb8 hch8 (by rw [← Hq.out]; exact turn_flag st HO.out.flag))
          have Hby : Hid (Byts W4 os5 q.2) := Lib.hid ((Hgot.out.resp.byt.ext (He6.out.t Ee.out)).chg hch8 (fun j hj e => (hout j hj).2.1 e))
          have hrbl := HO.out.blk.lt
          have Hro : Hid (Room W4 A5 n5 c5 (os5.map slv)) := Lib.hid ((Hgot.out.resp.room.ext (He6.out.t Ee.out)).chg hch8 (fun j hj e => by have := Hgot.out.new j (.inl hj); omega))
          have Hsp : Hid (∀ j, foots os5 j → ¬ foot A5 c5 j) := Lib.hid Hgot.out.resp.sep
          have Hap : Hid (Apart os5) := Lib.hid Hgot.out.ap
          have hgl := HB.out.lt
          have hz5 := Hgot.out.step.chg.size
          have HgB : Hid (Blk W4 g 47 #[.int .u8 (a.1 : Int), .slice s.A s.n s.c] ∧ ¬ boxF ib L5 g ∧ g ≠ rb ∧ ¬ rowF W6.A W6.n g ∧ ¬ foots os5 g) := Lib.hid
            ⟨(((HB.out.chg Hgot.out.step.chg Hg.out.2.1).ext (He6.out.t Ee.out))).chg hch8 Hg.out.2.2.1, fun h => (Hgot.out.step.nb g h).elim Hg.out.2.1 (fun h => by omega), Hg.out.2.2.1, fun h => (Hw6.out g h).elim Hg.out.2.2.2 (fun h => by omega), fun h => by have := Hgot.out.new g (.inr h); omega⟩
          have Hout := Lib.hid hout
          clear x0 x1 x2 x3 x4 x5 x6 x7 y0 y1 y2 y3 y4 y5 y6 y7 z0 z1 z2 z3 z4 z5 z6 z7 hb5 hb8 hch8 hout hrbl hgl hz5
          have h0F : Hid (Chg (foots os5) W4 W4 ∧ Byts W4 (os5.drop 0) (q.2.drop 0)) := Lib.hid ⟨Chg.refl _ _, Hby.out⟩
          go_wp2_with fail
          go_loopw [74] (fun i wz => ∃ (m : Nat), m ≤ n5 ∧ i = .int .i64 (m : Int) ∧ Hid (Chg (foots os5) W4 wz ∧ Byts wz (os5.drop m) (q.2.drop m))) (fun i _ => n5 - (intOf i).toNat)
          case atStart => exact ⟨0, by omega, rfl, h0F⟩
          case round =>
            clear h0F
            obtain ⟨m, hm, rfl, HM⟩ := hrel
            by_cases hmt : m < n5
            · have hmt' : (m : Int) < (n5 : Int) := by omega
              have hnb := Nat.le_trans Hro.out.2.1 Hro.out.2.2.1
              unfold maxLen at hnb
              have hRm : Room wr A5 n5 c5 (os5.map slv) := Hro.out.chg HM.out.1 (fun j hj hT => Hsp.out j hT hj)
              obtain ⟨bf, oF, sf, hAf, _, hs, hc⟩ := (Room.rd hRm).at_ hmt
              obtain ⟨ff, hf0, hbs⟩ := HM.out.2.at_ 0 sf (by rw [List.getElem?_drop]; simpa using hs)
              have hff : q.2[m]? = some ff := by rw [List.getElem?_drop] at hf0; simpa using hf0
              obtain ⟨W9, hcl, hch9⟩ := clear_run wr sf _ hbs.room
              have hdr : os5.drop m = sf :: os5.drop (m + 1) := by
                obtain ⟨h, e⟩ := List.getElem?_eq_some_iff.1 hs
                rw [List.drop_eq_getElem_cons h, e]
              have hgr : q.2.drop m = ff :: q.2.drop (m + 1) := by
                obtain ⟨h, e⟩ := List.getElem?_eq_some_iff.1 hff
                rw [List.drop_eq_getElem_cons h, e]
              have h4 := HM.out.2
              rw [hdr, hgr] at h4
              have hap : Apart (sf :: os5.drop (m + 1)) := by
                rw [← hdr]; exact List.Pairwise.drop Hap.out
              have Hfin : Hid (Chg (foots os5) W4 W9 ∧ Byts W9 (os5.drop (m + 1)) (q.2.drop (m + 1))) := Lib.hid
                ⟨HM.out.1.trans hch9 (fun i _ hT => ⟨sf, List.mem_of_getElem? hs, hT⟩), h4.tail.2.chg hch9 (fun i hi h => (apart_cons hap).1 i h hi)⟩
              unfold slv at hc
              clear hap h4 hgr hdr hch9 hbs hff hf0 hs hRm
              rw [hAf]
              clear hAf
              go_wp2_with fail
              go_roundw
              case rel => exact ⟨m + 1, by omega, by go_num, Hfin⟩
              case measure => simp [intOf]; omega
            · obtain rfl : n5 = m := by omega
              have H7 : Hid (TellJ w ib rb g #[.int .u8 (a.1 : Int), .slice s.A s.n s.c] al k (j + 1) wr) := by
                have e1 : (turnsF (j + 1) (playF (al.take k))).1 = q.1 := by rw [← Hq.out, Hst.out]; rfl
                refine Lib.hid ?_
                unfold TellJ
                rw [e1]
                exact ⟨L5, W6, P6, pn6, fs6, HBo.out.chg HM.out.1 Hout.out, by rw [← Hq.out]; exact turn_good st _ HG1.out, HgB.out.1.chg HM.out.1 HgB.out.2.2.2.2, Hg.out.1, HgB.out.2.1, HgB.out.2.2.1, HgB.out.2.2.2.1⟩
              clear HM
              go_wp2_with fail
              go_roundw
              case rel => exact ⟨j + 1, by omega, by go_num, H7⟩
              case measure => simp [intOf]; omega
        · obtain rfl : j = a.1 % 10 := by omega
          obtain ⟨L0, W0, P0, pn0, fs0, hO, hG, hB, hg, hgb, hgr, hgo⟩ := H.out
          have cg1 : wr.cell? ⟨g, 1, none⟩ = some (.slice s.A s.n s.c) := by rw [hB.cell]; rfl
          have hq := fun w' => run_neq_slice_nil_any (P := Try.prog) w' 29 5 s.A s.n s.c 0 0 ul_u8
          have hps : playF (al.take (k + 1)) = actF (playF (al.take k)) a := by rw [take_snoc Ha.out, playF_snoc]
          obtain ⟨p0, hp0⟩ : ∃ p0, p0 = turnsF (a.1 % 10) (playF (al.take k)) := ⟨_, rfl⟩
          rw [← hp0] at hO hG
          have Hps0 := Lib.hid hps
          have Hp0 := Lib.hid hp0
          have HBo := Lib.hid hO
          have HG := Lib.hid hG
          have HB := Lib.hid hB
          have Hg := Lib.hid (And.intro hg (And.intro hgb (And.intro hgr hgo)))
          clear H hO hG hB hg hgb hgr hgo hps hp0
          obtain ⟨tt, fr⟩ := a
          simp only at Hv Hps0 Hp0 HG hlt256 ht10
          have hskip : putOf (tt, fr) = none → (playF (al.take (k + 1))).1 = p0.1 := fun e => by
            rw [Hps0.out]
            unfold actF
            rw [e, Hp0.out]
          have Hskip := Lib.hid hskip
          have HGd : Hid (Good p0.1 (2000 - 20 * (k + 1))) := Lib.hid (HG.out.mono (by omega))
          clear hskip
          cases fr with
          | none =>
            have hA : s.A = none := Hv.out.1
            rw [hA] at hq cg1
            simp only [Option.isNone_none, Bool.not_true] at hq
            have Hps := Lib.hid (Hskip.out rfl)
            clear hA Hskip
            go_upto_region 39 with fail
            clear cg1 hq
            have hbT := HBo.out.blk
            unfold refC at hbT
            obtain ⟨x0, x1, x2, x3, x4, x5, x6, x7⟩ := hbT.c8
            have HSm := Lib.hid (same_ w w wr ib L0 _ W0 P0 pn0 fs0 _ HBo.out.sys HGd.out HBo.out.ref HBo.out.sys.below HBo.out.flag)
            unfold refV at HSm
            clear hbT
            go_wp2_with fail
            refine HSm.out.mono ?_
            rintro e w9 ⟨rfl, ex⟩
            have HFin : Hid (TellK w ib rb al (k + 1) w9) := by
              refine Lib.hid ?_
              unfold TellK
              rw [Hps.out]
              exact ⟨L0, W0, P0, pn0, fs0, HBo.out.ext ex, HGd.out⟩
            clear x0 x1 x2 x3 x4 x5 x6 x7 ex HSm HBo
            go_wp2_with fail
            go_roundw
            case rel => exact ⟨k + 1, by omega, by go_num, HFin⟩
            case measure => simp [intOf]; omega
          | some xs =>
            obtain ⟨hA, hrd, hx⟩ := Hv.out
            have hi : s.A.isNone = false := by cases hs : s.A with
              | none => exact absurd hs hA
              | some _ => rfl
            rw [hi] at hq
            simp only [Bool.not_false] at hq
            have hsl := hrd.1
            by_cases hx40 : xs.length ≤ 40
            · have hn40 : (s.n : Int) ≤ 40 := by omega
              have Hx40 := Lib.hid hx40
              have Hrd := Lib.hid hrd
              have Hx := Lib.hid hx
              have hps2 : (playF (al.take (k + 1))).1 = (putF p0.1 xs).1 := by
                rw [Hps0.out]
                have e1 : putOf (tt, some xs) = some xs := by show (if xs.length ≤ 40 then some xs else none) = some xs; rw [if_pos hx40]
                unfold actF
                rw [e1]
                simp only
                rw [← Hp0.out]
                rfl
              generalize p0.1 = st at HBo HG HGd hps2
              have hG3 : Good st (2000 - 20 * (k + 1) + 1) := HG.out.mono (by omega)
              have HGd : Hid (Good (putF st xs).1 (2000 - 20 * (k + 1))) := Lib.hid (put_good st xs _ hG3 (by omega))
              have hgrf := good_ref hG3
              have Hgrf := Lib.hid hgrf
              have HG3 := Lib.hid hG3
              have HC := Lib.hid (bytes_Clone s.A s.n s.c xs wr (hrd.ext HBo.out.sys.below) hx (by omega))
              generalize hq' : putF st xs = q at hps2 HGd
              have Hq := Lib.hid hq'
              have Hps := Lib.hid hps2
              clear hA hrd hx hi hx40 Hskip hps2 hG3 hgrf hq' Hps0 Hp0
              go_wp2_with fail
              refine HC.out.mono ?_
              rintro e w5 ⟨sc, rfl, hcl⟩
              have hsn := hcl.n_
              have HB5 := Lib.hid (HBo.out.ext hcl.ext)
              have HP := Lib.hid (sys_Put HB5.out.sys HG3.out sc.A sc.n sc.c xs hcl.byt.rd Hx.out (by have := Hx40.out; omega))
              rw [Hq.out] at HP
              have cg5 := (hcl.ext.cell (p := ⟨g, 1, none⟩) HB.out.lt).trans cg1
              have Hcl := Lib.hid hcl
              have Hsn := Lib.hid hsn
              unfold slv
              clear hcl hsn cg1 HC
              go_wp2_with fail
              refine HP.out.mono ?_
              rintro e w6 ⟨L6, A6, n6, c6, os6, got⟩
              have hret := got.ret
              have Hgot := Lib.hid got
              have hb6 := HB5.out.blk.chg got.step.chg HB5.out.rb1
              have hg6 := (HB.out.ext Hcl.out.ext).chg got.step.chg Hg.out.2.1
              have hrow6 : ∀ j, rowF W0.A W0.n j → ¬ boxF ib L0 j := fun j hj => (HB5.out.row j hj).2.1
              have hk6 := HB5.out.ref.chg got.step.chg hrow6
              have HR := Lib.hid (fun wz (ez : Ext w6 wz) => ref_Put w wz W0 P0 pn0 fs0 st s xs (hk6.ext ez) HB5.out.flag Hrd.out Hx.out Hgrf.out.1 Hgrf.out.2.1)
              rw [Hq.out] at HR
              have Hnd := Lib.hid (fun wz (ez : Ext w6 wz) => needs_ s.A s.n s.c xs wz (Hrd.out.ext (got.sys.below.t ez)) Hx.out)
              have Hb6 := Lib.hid hb6
              have Hg6 := Lib.hid hg6
              clear got hb6 hg6 hrow6 HP cg5 hk6
              subst hret
              go_upto_region 25 with fail
              go_cut [18, 19] from 99 to 109 (fun v18 v19 wx => RefQ w w6 q v18 v19 wx)
              case first =>
                obtain ⟨x0, x1, x2, x3, x4, x5, x6, x7⟩ := Hb6.out.c8
                have cg6 : w6.cell? ⟨g, 1, none⟩ = some (.slice s.A s.n s.c) := by rw [Hg6.out.cell]; rfl
                unfold refV at HR
                have hgl6 := Hg6.out.lt
                have hrl6 := Hb6.out.lt
                have hS : ∀ w', Ext w6 w' → w'.cell? ⟨rb, 0, none⟩ = some (.slice W0.A W0.n W0.c) ∧ w'.cell? ⟨rb, 1, none⟩ = some (.slice P0.A P0.n P0.c) ∧ w'.cell? ⟨rb, 2, none⟩ = some (.int .i64 pn0) ∧ w'.cell? ⟨rb, 3, none⟩ = some (.int .i64 (st.left : Int)) ∧ w'.cell? ⟨rb, 4, none⟩ = some (.int .i64 (st.put : Int)) ∧ w'.cell? ⟨rb, 5, none⟩ = some (.int .i64 (st.ans : Int)) ∧ w'.cell? ⟨rb, 6, none⟩ = some (.int .i64 (st.turns : Int)) ∧ w'.cell? ⟨rb, 7, none⟩ = some (.int .i64 (st.idle : Int)) ∧ w'.cell? ⟨g, 1, none⟩ = some (.slice s.A s.n s.c) := fun w' ex => by
                  obtain ⟨y0, y1, y2, y3, y4, y5, y6, y7⟩ := (Hb6.out.ext ex).c8
                  exact ⟨y0, y1, y2, y3, y4, y5, y6, y7, by rw [(Hg6.out.ext ex).cell]; rfl⟩
                have HS := Lib.hid hS
                have HS0 := Lib.hid (hS _ (Ext.drew w6))
                have HSz := Lib.hid (hS _ ((Ext.alloc w6 (.cells zeroC 69)).t (Ext.drew _)))
                unfold zeroC at HSz
                clear hS
                first
                | (go_region_held_law (fun w' => w'.cell? ⟨rb, 0, none⟩ = some (.slice W0.A W0.n W0.c) ∧ w'.cell? ⟨rb, 1, none⟩ = some (.slice P0.A P0.n P0.c) ∧ w'.cell? ⟨rb, 2, none⟩ = some (.int .i64 pn0) ∧ w'.cell? ⟨rb, 3, none⟩ = some (.int .i64 (st.left : Int)) ∧ w'.cell? ⟨rb, 4, none⟩ = some (.int .i64 (st.put : Int)) ∧ w'.cell? ⟨rb, 5, none⟩ = some (.int .i64 (st.ans : Int)) ∧ w'.cell? ⟨rb, 6, none⟩ = some (.int .i64 (st.turns : Int)) ∧ w'.cell? ⟨rb, 7, none⟩ = some (.int .i64 (st.idle : Int)) ∧ w'.cell? ⟨g, 1, none⟩ = some (.slice s.A s.n s.c))
                    (first | with_reducible exact HS8.out | with_reducible exact HS7.out | with_reducible exact HS0.out | with_reducible exact HSz.out | with_reducible exact HS.out _ (((Ext.drew _).t He7.out).t (Ext.alloc _ _)))
                    (first
                      | (go_at_call 19; first
                          | ((with_reducible refine (Hnd.out _ (Ext.drew _)).mono ?_); rintro e wn ⟨rfl, rfl⟩)
                          | ((with_reducible refine (Hnd.out _ ((Ext.alloc _ _).t (Ext.drew _))).mono ?_); rintro e wn ⟨rfl, rfl⟩))
                      | (go_at_call 33; first
                          | ((with_reducible refine (HR.out _ (Ext.drew _)).mono ?_); rintro e w7 ⟨W7, P7, pn7, fs7, A7, n7, c7, os7, rfl, hk7, hl7, he7, hw7, ht7⟩; unfold refV; have HS7 := Lib.hid (HS.out w7 ((Ext.drew _).t he7)); have Hk7 := Lib.hid hk7; have Hl7 := Lib.hid hl7; have He7 := Lib.hid he7; have Hw7 := Lib.hid hw7; have Ht7 := Lib.hid ht7; clear hk7 hl7 he7 hw7 ht7)
                          | ((with_reducible refine (HR.out _ ((Ext.alloc _ _).t (Ext.drew _))).mono ?_); rintro e w7 ⟨W7, P7, pn7, fs7, A7, n7, c7, os7, rfl, hk7, hl7, he7, hw7, ht7⟩; unfold refV; have HS7 := Lib.hid (HS.out w7 (((Ext.alloc _ _).t (Ext.drew _)).t he7)); have HS8 := Lib.hid (HS.out _ (ext_set8 (((Ext.alloc _ _).t (Ext.drew _)).t he7) (Nat.le_refl _) (.slice W7.A W7.n W7.c) (.slice P7.A P7.n P7.c) (.int .i64 pn7) (.int .i64 (q.1.left : Int)) (.int .i64 (q.1.put : Int)) (.int .i64 (q.1.ans : Int)) (.int .i64 (q.1.turns : Int)) (.int .i64 (q.1.idle : Int)))); have hb7 := ((Blk.new w6 69 zeroC).drew).ext he7; unfold zeroC at hb7; have Hb7 := Lib.hid hb7; obtain ⟨y0, y1, y2, y3, y4, y5, y6, y7⟩ := hb7.c8; obtain ⟨z0, z1, z2, z3, z4, z5, z6, z7⟩ := hb7.f8; have Hk7 := Lib.hid hk7; have Hl7 := Lib.hid hl7; have He7 := Lib.hid he7; have Hw7 := Lib.hid hw7; have Ht7 := Lib.hid ht7; clear hb7 hk7 hl7 he7 hw7 ht7))))
                | fail
                all_goals go_wp2_with fail
                all_goals go_simp
                all_goals go_meet
                · exact refQ_new Hk7.out Hl7.out ((Ext.drew _).t He7.out) Hw7.out
                all_goals exact refQ_set Hb7.out Hk7.out Hl7.out (((Ext.alloc _ _).t (Ext.drew _)).t He7.out) (fun k hk => by have := Hw7.out k hk; simpa using this) (fun k hk => by have := Ht7.out k hk; simpa using this)
              case rest =>
                obtain ⟨W7, P7, pn7, fs7, A7, n7, c7, os7, nb, rfl, rfl, hk7, hl7, he7, hw7, hb7, hnb⟩ := hcut
                have got := Hgot.out
                have hfr := framesR A6 A7 n6 n7 c6 c7 os6 os7 q.2 q.2 wc (got.resp.ext he7).rd (Reads.of (got.resp.ext he7).byt) hl7.rd (hl7.reads.ext (got.sys.below.t he7)) got.resp.le (Nat.le_trans hl7.le hl7.max)
                rw [decide_eq_true (rfl : q.2 = q.2)] at hfr
                have hsb : Byt wc sc xs := (Hcl.out.byt.chg got.step.chg (fun k hk h => by have := Hcl.out.new k hk; have := HBo.out.sys.box.lt h; omega)).ext he7
                have heq := bytes_Equal sc.A s.A sc.n s.n sc.c s.c xs xs wc hsb.rd (Hrd.out.ext (got.sys.below.t he7)) Hx.out Hx.out
                rw [decide_eq_true (rfl : xs = xs)] at heq
                have cgc : wc.cell? ⟨g, 1, none⟩ = some (.slice s.A s.n s.c) := by rw [(Hg6.out.ext he7).cell]; rfl
                have HFr := Lib.hid hfr
                have HEq := Lib.hid heq
                have Hsb := Lib.hid hsb
                have Hk7 := Lib.hid hk7
                have Hw7 := Lib.hid hw7
                have He7 := Lib.hid he7
                have Hb7 := Lib.hid hb7
                have hb5 := Hb6.out.ext he7
                clear hfr heq hsb hk7 hl7 he7 hw7 hnb hb7 got
                go_wp2_with fail
                refine HFr.out.mono ?_; rintro e wx ⟨rfl, rfl⟩
                go_wp2_with fail
                refine HEq.out.mono ?_; rintro e wx ⟨rfl, rfl⟩
                clear cgc
                obtain ⟨x0, x1, x2, x3, x4, x5, x6, x7⟩ := Hb7.out.c8
                obtain ⟨y0, y1, y2, y3, y4, y5, y6, y7⟩ := hb5.c8
                obtain ⟨z0, z1, z2, z3, z4, z5, z6, z7⟩ := hb5.f8
                go_upto_region 29 with fail
                obtain ⟨hb8, hch8⟩ := hb5.all8 (.slice W7.A W7.n W7.c) (.slice P7.A P7.n P7.c) (.int .i64 pn7) (.int .i64 (q.1.left : Int)) (.int .i64 (q.1.put : Int)) (.int .i64 (q.1.ans : Int)) (.int .i64 (q.1.turns : Int)) (.int .i64 (q.1.idle : Int))
                generalize ((((((((wc.setCell ⟨rb, 0, none⟩ (.slice W7.A W7.n W7.c)).setCell ⟨rb, 1, none⟩ (.slice P7.A P7.n P7.c)).setCell ⟨rb, 2, none⟩ (.int .i64 pn7)).setCell ⟨rb, 3, none⟩ (.int .i64 (q.1.left : Int))).setCell ⟨rb, 4, none⟩ (.int .i64 (q.1.put : Int))).setCell ⟨rb, 5, none⟩ (.int .i64 (q.1.ans : Int))).setCell ⟨rb, 6, none⟩ (.int .i64 (q.1.turns : Int))).setCell ⟨rb, 7, none⟩ (.int .i64 (q.1.idle : Int))) = W3 at hb8 hch8 ⊢
                have hBo3 : Bo w W3 ib rb L6 W7 P7 pn7 fs7 q.1 := HB5.out.next Hgot.out Hk7.out He7.out (Ext.refl _) (fun k hk => .inr (Hw7.out k hk)) hb8 hch8 (by rw [← Hq.out]; exact put_flag st xs HB5.out.flag)
                have houtB := HB5.out.outs Hgot.out (W2 := W7) (fun k hk => .inr (Hw7.out k hk))
                have hz6 := Hgot.out.step.chg.size
                have hz5 := Hcl.out.ext.size
                have hrl := HBo.out.blk.lt
                have hscl : ∀ k, foot sc.A sc.c k → k < w5.heap.size := fun k hk => Hcl.out.byt.room.lt hk
                have hsc : ∀ j, foot sc.A sc.c j → ¬ boxF ib L6 j ∧ j ≠ rb ∧ ¬ rowF W7.A W7.n j ∧ w.heap.size ≤ j := fun j hj => by
                  have h1 := Hcl.out.new j hj
                  have h2 := hscl j hj
                  have h3 := HBo.out.sys.below.size
                  refine ⟨fun h => (Hgot.out.step.nb j h).elim (fun h => by have := HBo.out.sys.box.lt h; omega) (fun h => by omega), by omega, fun h => by have := Hw7.out j h; omega, by omega⟩
                have hs3 : Byt W3 sc xs := Hsb.out.chg hch8 (fun k hk e => (hsc k hk).2.1 e)
                have hby3 : Byts W3 os6 q.2 := (Hgot.out.resp.byt.ext He7.out).chg hch8 (fun j hj e => (houtB j hj).2.1 e)
                have hro3 : Room W3 A6 n6 c6 (os6.map slv) := (Hgot.out.resp.room.ext He7.out).chg hch8 (fun j hj e => by have := Hgot.out.new j (.inl hj); omega)
                have HBo3 := Lib.hid hBo3
                have Hsc := Lib.hid hsc
                have Hs3 := Lib.hid hs3
                have Hby3 := Lib.hid hby3
                have Hro3 := Lib.hid hro3
                have Hout := Lib.hid houtB
                have Hlt := Lib.hid (And.intro hscl hz6)
                have hs40 : (sc.n : Int) ≤ 40 := by have := Hsn.out; omega
                clear x0 x1 x2 x3 x4 x5 x6 x7 y0 y1 y2 y3 y4 y5 y6 y7 z0 z1 z2 z3 z4 z5 z6 z7 hb5 hb8 hch8 hBo3 houtB hz6 hz5 hrl hscl hsc hs3 hby3 hro3
                clear HB5 HBo Hsb Hk7 Hb7 HFr HEq Hb6 Hg6 HR Hnd
                go_wp2_with fail
                go_loopw [128] (fun i wy => ∃ (m : Nat) (old : List Nat), m ≤ sc.n ∧ i = .int .i64 (m : Int) ∧ Room wy sc.A sc.n sc.c (old.map u8v) ∧ Chg (foot sc.A sc.c) W3 wy) (fun i _ => sc.n - (intOf i).toNat)
                case atStart => exact ⟨0, xs, by omega, rfl, Hs3.out.room, Chg.refl _ _⟩
                case round =>
                  obtain ⟨m, old, hm, rfl, hr, hchr⟩ := hrel
                  by_cases hmt : m < sc.n
                  · have hmt' : (m : Int) < (sc.n : Int) := by omega
                    have hsc' := hr.2.1
                    obtain ⟨g', o', hA, _⟩ := hr.some_ (by omega)
                    rw [hA] at hr hchr ⊢
                    have hol2 : old.length = sc.n := by have := hr.1; simpa using this
                    obtain ⟨u, hu⟩ : ∃ u, old[m]? = some u := ⟨old[m]'(by omega), List.getElem?_eq_getElem _⟩
                    have hc1 := hr.cellAt (k := m) (u := u8v u) (by rw [List.getElem?_map, hu]; rfl)
                    have hz1 := hr.frozenAt (k := m) (by omega)
                    have hset := hr.set hmt (u8v 221)
                    rw [← List.map_set] at hset
                    have Hset := Lib.hid hset
                    have Hchr := Lib.hid hchr
                    clear hA hu hsc' hr hchr hset hol2
                    go_wp2_with fail
                    go_roundw
                    case rel => exact ⟨m + 1, _, by omega, by go_num, Hset.out, Hchr.out.t (Chg.set _ _ _ _ ⟨by have := Hset.out.2.1; omega, o', rfl⟩)⟩
                    case measure => simp [intOf]; omega
                  · obtain ⟨W4, hW4⟩ : ∃ W4 : World, W4 = wr := ⟨_, rfl⟩
                    have HBo : Hid (Bo w W4 ib rb L6 W7 P7 pn7 fs7 q.1) := Lib.hid (HBo3.out.chg (hW4 ▸ hchr) Hsc.out)
                    have hns : ∀ k, (foot A6 c6 k ∨ foots os6 k) → ¬ foot sc.A sc.c k := fun k hk h => by
                      have h1 := Hgot.out.new k hk
                      have h2 := Hlt.out.1 k h
                      omega
                    have Hby : Hid (Byts W4 os6 q.2) := Lib.hid (Hby3.out.chg (hW4 ▸ hchr) (fun k hk => hns k (.inr hk)))
                    have Hro : Hid (Room W4 A6 n6 c6 (os6.map slv)) := Lib.hid (Hro3.out.chg (hW4 ▸ hchr) (fun k hk => hns k (.inl hk)))
                    have Hsp : Hid (∀ j, foots os6 j → ¬ foot A6 c6 j) := Lib.hid Hgot.out.resp.sep
                    have Hap : Hid (Apart os6) := Lib.hid Hgot.out.ap
                    have HBo4 := HBo
                    clear HBo hr hchr hns Hby3 Hro3 Hs3 HBo3 Hsc
                    subst hW4
                    have h0F : Hid (Chg (foots os6) W4 W4 ∧ Byts W4 (os6.drop 0) (q.2.drop 0)) := Lib.hid ⟨Chg.refl _ _, Hby.out⟩
                    go_wp2_with fail
                    go_loopw [137] (fun i wz => ∃ (m : Nat), m ≤ n6 ∧ i = .int .i64 (m : Int) ∧ Hid (Chg (foots os6) W4 wz ∧ Byts wz (os6.drop m) (q.2.drop m))) (fun i _ => n6 - (intOf i).toNat)
                    case atStart => exact ⟨0, by omega, rfl, h0F⟩
                    case round =>
                      clear h0F
                      obtain ⟨m, hm, rfl, HM⟩ := hrel
                      by_cases hmt : m < n6
                      · have hmt' : (m : Int) < (n6 : Int) := by omega
                        have hnb := Nat.le_trans Hro.out.2.1 Hro.out.2.2.1
                        unfold maxLen at hnb
                        have hRm : Room wr A6 n6 c6 (os6.map slv) := Hro.out.chg HM.out.1 (fun j hj hT => Hsp.out j hT hj)
                        obtain ⟨bf, oF, sf, hAf, _, hs, hc⟩ := (Room.rd hRm).at_ hmt
                        obtain ⟨ff, hf0, hbs⟩ := HM.out.2.at_ 0 sf (by rw [List.getElem?_drop]; simpa using hs)
                        have hff : q.2[m]? = some ff := by rw [List.getElem?_drop] at hf0; simpa using hf0
                        obtain ⟨W9, hcl, hch9⟩ := clear_run wr sf _ hbs.room
                        have hdr : os6.drop m = sf :: os6.drop (m + 1) := by
                          obtain ⟨h, e⟩ := List.getElem?_eq_some_iff.1 hs
                          rw [List.drop_eq_getElem_cons h, e]
                        have hgr : q.2.drop m = ff :: q.2.drop (m + 1) := by
                          obtain ⟨h, e⟩ := List.getElem?_eq_some_iff.1 hff
                          rw [List.drop_eq_getElem_cons h, e]
                        have h4 := HM.out.2
                        rw [hdr, hgr] at h4
                        have hap : Apart (sf :: os6.drop (m + 1)) := by
                          rw [← hdr]; exact List.Pairwise.drop Hap.out
                        have Hfin : Hid (Chg (foots os6) W4 W9 ∧ Byts W9 (os6.drop (m + 1)) (q.2.drop (m + 1))) := Lib.hid
                          ⟨HM.out.1.trans hch9 (fun i _ hT => ⟨sf, List.mem_of_getElem? hs, hT⟩), h4.tail.2.chg hch9 (fun i hi h => (apart_cons hap).1 i h hi)⟩
                        unfold slv at hc
                        clear hap h4 hgr hdr hch9 hbs hff hf0 hs hRm
                        rw [hAf]
                        clear hAf
                        go_wp2_with fail
                        go_roundw
                        case rel => exact ⟨m + 1, by omega, by go_num, Hfin⟩
                        case measure => simp [intOf]; omega
                      · obtain rfl : n6 = m := by omega
                        have HBo : Hid (Bo w wr ib rb L6 W7 P7 pn7 fs7 q.1) := Lib.hid (HBo4.out.chg HM.out.1 Hout.out)
                        clear HM HBo4 Hby Hro Hsp Hap
                        have hbT := HBo.out.blk
                        unfold refC at hbT
                        obtain ⟨x0, x1, x2, x3, x4, x5, x6, x7⟩ := hbT.c8
                        have HSm := Lib.hid (same_ w w wr ib L6 _ W7 P7 pn7 fs7 _ HBo.out.sys HGd.out HBo.out.ref HBo.out.sys.below HBo.out.flag)
                        unfold refV at HSm
                        clear hbT
                        go_wp2_with fail
                        refine HSm.out.mono ?_
                        rintro e w9 ⟨rfl, ex⟩
                        have HFin : Hid (TellK w ib rb al (k + 1) w9) := by
                          refine Lib.hid ?_
                          unfold TellK
                          rw [Hps.out]
                          exact ⟨L6, W7, P7, pn7, fs7, HBo.out.ext ex, HGd.out⟩
                        clear x0 x1 x2 x3 x4 x5 x6 x7 ex HSm HBo
                        go_wp2_with fail
                        go_roundw
                        case rel => exact ⟨k + 1, by omega, by go_num, HFin⟩
                        case measure => simp [intOf]; omega
            · have hn40 : ¬ (s.n : Int) ≤ 40 := by omega
              have Hps := Lib.hid (Hskip.out (by show (if xs.length ≤ 40 then some xs else none) = none; rw [if_neg hx40]))
              clear hA hrd hx hi hsl hx40 Hskip
              go_upto_region 39 with fail
              clear cg1 hq
              have hbT := HBo.out.blk
              unfold refC at hbT
              obtain ⟨x0, x1, x2, x3, x4, x5, x6, x7⟩ := hbT.c8
              have HSm := Lib.hid (same_ w w wr ib L0 _ W0 P0 pn0 fs0 _ HBo.out.sys HGd.out HBo.out.ref HBo.out.sys.below HBo.out.flag)
              unfold refV at HSm
              clear hbT
              go_wp2_with fail
              refine HSm.out.mono ?_
              rintro e w9 ⟨rfl, ex⟩
              have HFin : Hid (TellK w ib rb al (k + 1) w9) := by
                refine Lib.hid ?_
                unfold TellK
                rw [Hps.out]
                exact ⟨L0, W0, P0, pn0, fs0, HBo.out.ext ex, HGd.out⟩
              clear x0 x1 x2 x3 x4 x5 x6 x7 ex HSm HBo
              go_wp2_with fail
              go_roundw
              case rel => exact ⟨k + 1, by omega, by go_num, HFin⟩
              case measure => simp [intOf]; omega
    · obtain rfl : k = n := by omega
      obtain ⟨L0, W0, P0, pn0, fs0, hO, hG⟩ := H.out
      have hbT := hO.blk
      unfold refC at hbT
      obtain ⟨x0, x1, x2, x3, x4, x5, x6, x7⟩ := hbT.c8
      have HSm := Lib.hid (same_ w w wr ib L0 _ W0 P0 pn0 fs0 _ hO.sys hG hO.ref hO.sys.below hO.flag)
      unfold refV at HSm
      have Hbel := Lib.hid hO.sys.below
      clear hbT hO hG H
      go_wp2_with fail
      refine HSm.out.mono ?_
      rintro e w9 ⟨rfl, ex⟩
      have Hex := Lib.hid ex
      clear x0 x1 x2 x3 x4 x5 x6 x7 ex HSm
      go_wp2_with fail
      go_ret
      exact ⟨rfl, Hbel.out.t Hex.out⟩
set_option maxRecDepth 100000 in
set_option maxHeartbeats 4000000 in
theorem tells_gt (A : Option Addr) (n c : Nat) (al : List ActN) (w : World) (hacts : Acts w A 40 al) (hnc : n ≤ c) (hc : c ≤ maxLen) (h40 : 40 < n) :
    Calls Try.prog 21 #[.slice A n c] w fun e w' => e = .returned (.bool true) ∧ Ext w w' := by
  unfold maxLen at hc
  have h1 : (40 : Int) < (n : Int) := by omega
  have h2 : (40 : Int) ≤ (c : Int) := by omega
  have HX := Lib.hid hacts
  clear hacts
  go_enter Try.func21, Try.ntmps21
  go_wp2_with fail
  refine (ib_New _ _).mono ?_
  rintro e w1 ⟨rfl, hib, he, hsz⟩
  have hsb := Blk.new w 31 #[.slice none 0 0, .int .i64 0, .slice none 0 0, .slice none 0 0]
  have hS := sys_new (Below.refl w.heap.size w) (Ext.alloc w _) (Nat.le_refl _) hsb hib he
  rw [World.size_alloc] at *
  generalize hibe : w.heap.size + 1 = ib at hS ⊢
  have HS := Lib.hid hS
  clear hS hsb hib he hsz hibe
  go_upto_region 6 with fail
  have H0 : Hid (TellK w ib w1.heap.size al 0 (w1.alloc (.cells zeroC 69))) :=
    Lib.hid ⟨lay0 w.heap.size, ⟨none, 0, 0⟩, ⟨none, 0, 0⟩, 0, [], ⟨HS.out.ext (Ext.alloc _ _), ⟨FrL.nil, Nat.le_refl _, by simp [maxLen], rfl, by simp, ⟨rfl, fun h => absurd h (Nat.lt_irrefl 0)⟩, by simp [playF, st0]⟩, Blk.new w1 _ _, rfl, fun h => by have := HS.out.box.lt h; omega, HS.out.below.size, fun j hj => absurd hj.1 (Nat.lt_irrefl 0)⟩, good0 _ (by omega)⟩
  unfold zeroC at H0
  generalize w1.alloc (.cells #[.slice none 0 0, .slice none 0 0, .int .i64 0, .int .i64 0, .int .i64 0, .int .i64 0, .int .i64 0, .int .i64 0] 69) = w2 at H0 ⊢
  generalize w1.heap.size = rb at H0 ⊢
  clear HS
  go_wp2_with fail
  go_loopw [44] (fun i wr => ∃ (k : Nat), k ≤ 40 ∧ i = .int .i64 (k : Int) ∧ Hid (TellK w ib rb al k wr)) (fun i _ => 40 - (intOf i).toNat)
  case atStart => exact ⟨0, by omega, rfl, H0⟩
  case round =>
    clear H0
    obtain ⟨k, hk, rfl, H⟩ := hrel
    by_cases hlt : k < 40
    · have hlt' : (k : Int) < (40 : Int) := by omega
      obtain ⟨L0, W0, P0, pn0, fs0, hO, hG⟩ := H.out
      obtain ⟨a, ha⟩ : ∃ a, al[k]? = some a := ⟨al[k]'(by rw [HX.out.len]; exact hlt), List.getElem?_eq_getElem _⟩
      obtain ⟨b, o, s, rfl, hb, hat⟩ := HX.out.at_ k a ha
      have ew : Ext w wr := hO.sys.below
      have ct := (ew.cell (p := ⟨b, o + k * 2, none⟩) hb).trans hat.t
      have cf := (ew.cell (p := ⟨b, o + k * 2 + 1, none⟩) hb).trans hat.f
      have hlt256 := hat.lt
      have Hv := Lib.hid hat.v
      have Ha := Lib.hid ha
      have HO := Lib.hid hO
      have HG := Lib.hid hG
      clear H hO hG ha hat ew
      go_wp2_with fail
      have H1 : Hid (TellJ w ib rb wr.heap.size #[.int .u8 (a.1 : Int), .slice s.A s.n s.c] al k 0 (wr.alloc (.cells #[.int .u8 (a.1 : Int), .slice s.A s.n s.c] 47))) :=
        Lib.hid ⟨L0, W0, P0, pn0, fs0, HO.out.ext (Ext.alloc _ _), HG.out, Blk.new wr _ _, HO.out.sys.below.size, fun h => by have := HO.out.sys.box.lt h; omega, by have := HO.out.blk.lt; omega, fun h => by have := HO.out.rlt h; omega⟩
      have cg0 : (wr.alloc (.cells #[.int .u8 (a.1 : Int), .slice s.A s.n s.c] 47)).cell? ⟨wr.heap.size, 0, none⟩ = some (.int .u8 (a.1 : Int)) := by rw [(Blk.new wr _ _).cell]; rfl
      generalize wr.alloc (.cells #[.int .u8 (a.1 : Int), .slice s.A s.n s.c] 47) = W1 at H1 cg0 ⊢
      generalize wr.heap.size = g at H1 cg0 ⊢
      have ht10 : (a.1 : Int) % 10 < 10 := by omega
      clear ct cf HO HG
      try go_wp2_with fail
      clear cg0
      go_loopw [51] (fun i wr => ∃ (j : Nat), j ≤ a.1 % 10 ∧ i = .int .u8 (j : Int) ∧ Hid (TellJ w ib rb g #[.int .u8 (a.1 : Int), .slice s.A s.n s.c] al k j wr)) (fun i _ => a.1 % 10 - (intOf i).toNat)
      case atStart => exact ⟨0, by omega, rfl, H1⟩
      case round =>
        clear H1
        obtain ⟨j, hj, rfl, H⟩ := hrel
        by_cases hjt : j < a.1 % 10
        · have hjt' : (j : Int) < (a.1 : Int) % 10 := by omega
          have hj9 : (j : Int) < 10 := by omega
          obtain ⟨L0, W0, P0, pn0, fs0, hO, hG, hB, hg, hgb, hgr, hgo⟩ := H.out
          obtain ⟨st, hst⟩ : ∃ st, st = (turnsF j (playF (al.take k))).1 := ⟨_, rfl⟩
          rw [← hst] at hO hG
          have hG1 : Good st ((2000 - 20 * k - (j + 1)) + 1) := hG.mono (by omega)
          have hgrf := good_ref hG1
          have HT := Lib.hid (sys_Turn hO.sys hG1)
          generalize hq : turnF st = q at HT
          have Hq := Lib.hid hq
          have HO := Lib.hid hO
          have HG1 := Lib.hid hG1
          have HB := Lib.hid hB
          have Hg := Lib.hid (And.intro hg (And.intro hgb (And.intro hgr hgo)))
          have Hst := Lib.hid hst
          have Hgrf := Lib.hid hgrf
          clear H hO hG hB hg hgb hgr hgo hG1 hst hgrf hq
          go_wp2_with fail
          refine HT.out.mono ?_
          rintro e w5 ⟨L5, A5, n5, c5, os5, got⟩
          have hret := got.ret
          have Hgot := Lib.hid got
          have hrow5 : ∀ j, rowF W0.A W0.n j → ¬ boxF ib L0 j := fun j hj => (HO.out.row j hj).2.1
          have hb5 := HO.out.blk.chg got.step.chg HO.out.rb1
          unfold refC at hb5
          obtain ⟨x0, x1, x2, x3, x4, x5, x6, x7⟩ := hb5.c8
          have HR := Lib.hid (ref_Turn w w5 W0 P0 pn0 fs0 st (HO.out.ref.chg got.step.chg hrow5) HO.out.flag Hgrf.out.1 Hgrf.out.2.2.1 Hgrf.out.2.2.2.1 Hgrf.out.2.2.2.2)
          unfold refV at HR
          rw [Hq.out] at HR
          have Hb5 := Lib.hid hb5
          clear got hrow5 hb5 HT
          subst hret
          go_wp2_with fail
          refine HR.out.mono ?_
          rintro e w6 ⟨W6, P6, pn6, fs6, A6, n6, c6, os6, rfl, hk6, hl6, he6, hw6, ht6⟩
          unfold refV
          clear x0 x1 x2 x3 x4 x5 x6 x7 HR
          have he6 := he6
          have hb7 := Blk.new w6 69 #[.slice W6.A W6.n W6.c, .slice P6.A P6.n P6.c, .int .i64 pn6, .int .i64 (q.1.left : Int), .int .i64 (q.1.put : Int), .int .i64 (q.1.ans : Int), .int .i64 (q.1.turns : Int), .int .i64 (q.1.idle : Int)]
          have e67 := Ext.alloc w6 (.cells #[.slice W6.A W6.n W6.c, .slice P6.A P6.n P6.c, .int .i64 pn6, .int .i64 (q.1.left : Int), .int .i64 (q.1.put : Int), .int .i64 (q.1.ans : Int), .int .i64 (q.1.turns : Int), .int .i64 (q.1.idle : Int)] 69)
          have got := Hgot.out
          have hE := he6.t e67
          have hfr := framesR A5 A6 n5 n6 c5 c6 os5 os6 q.2 q.2 (w6.alloc (.cells #[.slice W6.A W6.n W6.c, .slice P6.A P6.n P6.c, .int .i64 pn6, .int .i64 (q.1.left : Int), .int .i64 (q.1.put : Int), .int .i64 (q.1.ans : Int), .int .i64 (q.1.turns : Int), .int .i64 (q.1.idle : Int)] 69)) (got.resp.ext hE).rd (Reads.of (got.resp.ext hE).byt) (hl6.ext e67).rd (hl6.reads.ext (got.sys.below.t hE)) got.resp.le (Nat.le_trans hl6.le hl6.max)
          rw [decide_eq_true (rfl : q.2 = q.2)] at hfr
          have HFr := Lib.hid hfr
          have Hk6 := Lib.hid hk6
          have Hw6 := Lib.hid hw6
          have He6 := Lib.hid he6
          have Hb7 := Lib.hid hb7
          have hb5 := Blk.ext Hb5.out hE
          clear hfr hl6 ht6 hk6 hw6 he6 e67 hE got
          go_wp2_with fail
          refine HFr.out.mono ?_; rintro e wx ⟨rfl, rfl⟩
          have Ee := Lib.hid (Ext.alloc w6 (.cells #[.slice W6.A W6.n W6.c, .slice P6.A P6.n P6.c, .int .i64 pn6, .int .i64 (q.1.left : Int), .int .i64 (q.1.put : Int), .int .i64 (q.1.ans : Int), .int .i64 (q.1.turns : Int), .int .i64 (q.1.idle : Int)] 69))
          generalize w6.alloc (.cells #[.slice W6.A W6.n W6.c, .slice P6.A P6.n P6.c, .int .i64 pn6, .int .i64 (q.1.left : Int), .int .i64 (q.1.put : Int), .int .i64 (q.1.ans : Int), .int .i64 (q.1.turns : Int), .int .i64 (q.1.idle : Int)] 69) = w7 at hb5 Hb7 Ee ⊢
          generalize w6.heap.size = nb at Hb7 ⊢
          obtain ⟨x0, x1, x2, x3, x4, x5, x6, x7⟩ := Hb7.out.c8
          obtain ⟨y0, y1, y2, y3, y4, y5, y6, y7⟩ := hb5.c8
          obtain ⟨z0, z1, z2, z3, z4, z5, z6, z7⟩ := hb5.f8
          go_upto_region 16 with fail
          obtain ⟨hb8, hch8⟩ := hb5.all8 (.slice W6.A W6.n W6.c) (.slice P6.A P6.n P6.c) (.int .i64 pn6) (.int .i64 (q.1.left : Int)) (.int .i64 (q.1.put : Int)) (.int .i64 (q.1.ans : Int)) (.int .i64 (q.1.turns : Int)) (.int .i64 (q.1.idle : Int))
          generalize ((((((((w7.setCell ⟨rb, 0, none⟩ (.slice W6.A W6.n W6.c)).setCell ⟨rb, 1, none⟩ (.slice P6.A P6.n P6.c)).setCell ⟨rb, 2, none⟩ (.int .i64 pn6)).setCell ⟨rb, 3, none⟩ (.int .i64 (q.1.left : Int))).setCell ⟨rb, 4, none⟩ (.int .i64 (q.1.put : Int))).setCell ⟨rb, 5, none⟩ (.int .i64 (q.1.ans : Int))).setCell ⟨rb, 6, none⟩ (.int .i64 (q.1.turns : Int))).setCell ⟨rb, 7, none⟩ (.int .i64 (q.1.idle : Int))) = W4 at hb8 hch8 ⊢
          have hout := HO.out.outs Hgot.out Hw6.out
          have HBo : Hid (Bo w W4 ib rb L5 W6 P6 pn6 fs6 q.1) := Lib.hid (HO.out.next Hgot.out Hk6.out He6.out Ee.out Hw6.out hb8 hch8 (by rw [← Hq.out]; exact turn_flag st HO.out.flag))
          have Hby : Hid (Byts W4 os5 q.2) := Lib.hid ((Hgot.out.resp.byt.ext (He6.out.t Ee.out)).chg hch8 (fun j hj e => (hout j hj).2.1 e))
          have hrbl := HO.out.blk.lt
          have Hro : Hid (Room W4 A5 n5 c5 (os5.map slv)) := Lib.hid ((Hgot.out.resp.room.ext (He6.out.t Ee.out)).chg hch8 (fun j hj e => by have := Hgot.out.new j (.inl hj); omega))
          have Hsp : Hid (∀ j, foots os5 j → ¬ foot A5 c5 j) := Lib.hid Hgot.out.resp.sep
          have Hap : Hid (Apart os5) := Lib.hid Hgot.out.ap
          have hgl := HB.out.lt
          have hz5 := Hgot.out.step.chg.size
          have HgB : Hid (Blk W4 g 47 #[.int .u8 (a.1 : Int), .slice s.A s.n s.c] ∧ ¬ boxF ib L5 g ∧ g ≠ rb ∧ ¬ rowF W6.A W6.n g ∧ ¬ foots os5 g) := Lib.hid
            ⟨(((HB.out.chg Hgot.out.step.chg Hg.out.2.1).ext (He6.out.t Ee.out))).chg hch8 Hg.out.2.2.1, fun h => (Hgot.out.step.nb g h).elim Hg.out.2.1 (fun h => by omega), Hg.out.2.2.1, fun h => (Hw6.out g h).elim Hg.out.2.2.2 (fun h => by omega), fun h => by have := Hgot.out.new g (.inr h); omega⟩
          have Hout := Lib.hid hout
          clear x0 x1 x2 x3 x4 x5 x6 x7 y0 y1 y2 y3 y4 y5 y6 y7 z0 z1 z2 z3 z4 z5 z6 z7 hb5 hb8 hch8 hout hrbl hgl hz5
          have h0F : Hid (Chg (foots os5) W4 W4 ∧ Byts W4 (os5.drop 0) (q.2.drop 0)) := Lib.hid ⟨Chg.refl _ _, Hby.out⟩
          go_wp2_with fail
          go_loopw [74] (fun i wz => ∃ (m : Nat), m ≤ n5 ∧ i = .int .i64 (m : Int) ∧ Hid (Chg (foots os5) W4 wz ∧ Byts wz (os5.drop m) (q.2.drop m))) (fun i _ => n5 - (intOf i).toNat)
          case atStart => exact ⟨0, by omega, rfl, h0F⟩
          case round =>
            clear h0F
            obtain ⟨m, hm, rfl, HM⟩ := hrel
            by_cases hmt : m < n5
            · have hmt' : (m : Int) < (n5 : Int) := by omega
              have hnb := Nat.le_trans Hro.out.2.1 Hro.out.2.2.1
              unfold maxLen at hnb
              have hRm : Room wr A5 n5 c5 (os5.map slv) := Hro.out.chg HM.out.1 (fun j hj hT => Hsp.out j hT hj)
              obtain ⟨bf, oF, sf, hAf, _, hs, hc⟩ := (Room.rd hRm).at_ hmt
              obtain ⟨ff, hf0, hbs⟩ := HM.out.2.at_ 0 sf (by rw [List.getElem?_drop]; simpa using hs)
              have hff : q.2[m]? = some ff := by rw [List.getElem?_drop] at hf0; simpa using hf0
              obtain ⟨W9, hcl, hch9⟩ := clear_run wr sf _ hbs.room
              have hdr : os5.drop m = sf :: os5.drop (m + 1) := by
                obtain ⟨h, e⟩ := List.getElem?_eq_some_iff.1 hs
                rw [List.drop_eq_getElem_cons h, e]
              have hgr : q.2.drop m = ff :: q.2.drop (m + 1) := by
                obtain ⟨h, e⟩ := List.getElem?_eq_some_iff.1 hff
                rw [List.drop_eq_getElem_cons h, e]
              have h4 := HM.out.2
              rw [hdr, hgr] at h4
              have hap : Apart (sf :: os5.drop (m + 1)) := by
                rw [← hdr]; exact List.Pairwise.drop Hap.out
              have Hfin : Hid (Chg (foots os5) W4 W9 ∧ Byts W9 (os5.drop (m + 1)) (q.2.drop (m + 1))) := Lib.hid
                ⟨HM.out.1.trans hch9 (fun i _ hT => ⟨sf, List.mem_of_getElem? hs, hT⟩), h4.tail.2.chg hch9 (fun i hi h => (apart_cons hap).1 i h hi)⟩
              unfold slv at hc
              clear hap h4 hgr hdr hch9 hbs hff hf0 hs hRm
              rw [hAf]
              clear hAf
              go_wp2_with fail
              go_roundw
              case rel => exact ⟨m + 1, by omega, by go_num, Hfin⟩
              case measure => simp [intOf]; omega
            · obtain rfl : n5 = m := by omega
              have H7 : Hid (TellJ w ib rb g #[.int .u8 (a.1 : Int), .slice s.A s.n s.c] al k (j + 1) wr) := by
                have e1 : (turnsF (j + 1) (playF (al.take k))).1 = q.1 := by rw [← Hq.out, Hst.out]; rfl
                refine Lib.hid ?_
                unfold TellJ
                rw [e1]
                exact ⟨L5, W6, P6, pn6, fs6, HBo.out.chg HM.out.1 Hout.out, by rw [← Hq.out]; exact turn_good st _ HG1.out, HgB.out.1.chg HM.out.1 HgB.out.2.2.2.2, Hg.out.1, HgB.out.2.1, HgB.out.2.2.1, HgB.out.2.2.2.1⟩
              clear HM
              go_wp2_with fail
              go_roundw
              case rel => exact ⟨j + 1, by omega, by go_num, H7⟩
              case measure => simp [intOf]; omega
        · obtain rfl : j = a.1 % 10 := by omega
          obtain ⟨L0, W0, P0, pn0, fs0, hO, hG, hB, hg, hgb, hgr, hgo⟩ := H.out
          have cg1 : wr.cell? ⟨g, 1, none⟩ = some (.slice s.A s.n s.c) := by rw [hB.cell]; rfl
          have hq := fun w' => run_neq_slice_nil_any (P := Try.prog) w' 29 5 s.A s.n s.c 0 0 ul_u8
          have hps : playF (al.take (k + 1)) = actF (playF (al.take k)) a := by rw [take_snoc Ha.out, playF_snoc]
          obtain ⟨p0, hp0⟩ : ∃ p0, p0 = turnsF (a.1 % 10) (playF (al.take k)) := ⟨_, rfl⟩
          rw [← hp0] at hO hG
          have Hps0 := Lib.hid hps
          have Hp0 := Lib.hid hp0
          have HBo := Lib.hid hO
          have HG := Lib.hid hG
          have HB := Lib.hid hB
          have Hg := Lib.hid (And.intro hg (And.intro hgb (And.intro hgr hgo)))
          clear H hO hG hB hg hgb hgr hgo hps hp0
          obtain ⟨tt, fr⟩ := a
          simp only at Hv Hps0 Hp0 HG hlt256 ht10
          have hskip : putOf (tt, fr) = none → (playF (al.take (k + 1))).1 = p0.1 := fun e => by
            rw [Hps0.out]
            unfold actF
            rw [e, Hp0.out]
          have Hskip := Lib.hid hskip
          have HGd : Hid (Good p0.1 (2000 - 20 * (k + 1))) := Lib.hid (HG.out.mono (by omega))
          clear hskip
          cases fr with
          | none =>
            have hA : s.A = none := Hv.out.1
            rw [hA] at hq cg1
            simp only [Option.isNone_none, Bool.not_true] at hq
            have Hps := Lib.hid (Hskip.out rfl)
            clear hA Hskip
            go_upto_region 39 with fail
            clear cg1 hq
            have hbT := HBo.out.blk
            unfold refC at hbT
            obtain ⟨x0, x1, x2, x3, x4, x5, x6, x7⟩ := hbT.c8
            have HSm := Lib.hid (same_ w w wr ib L0 _ W0 P0 pn0 fs0 _ HBo.out.sys HGd.out HBo.out.ref HBo.out.sys.below HBo.out.flag)
            unfold refV at HSm
            clear hbT
            go_wp2_with fail
            refine HSm.out.mono ?_
            rintro e w9 ⟨rfl, ex⟩
            have HFin : Hid (TellK w ib rb al (k + 1) w9) := by
              refine Lib.hid ?_
              unfold TellK
              rw [Hps.out]
              exact ⟨L0, W0, P0, pn0, fs0, HBo.out.ext ex, HGd.out⟩
            clear x0 x1 x2 x3 x4 x5 x6 x7 ex HSm HBo
            go_wp2_with fail
            go_roundw
            case rel => exact ⟨k + 1, by omega, by go_num, HFin⟩
            case measure => simp [intOf]; omega
          | some xs =>
            obtain ⟨hA, hrd, hx⟩ := Hv.out
            have hi : s.A.isNone = false := by cases hs : s.A with
              | none => exact absurd hs hA
              | some _ => rfl
            rw [hi] at hq
            simp only [Bool.not_false] at hq
            have hsl := hrd.1
            by_cases hx40 : xs.length ≤ 40
            · have hn40 : (s.n : Int) ≤ 40 := by omega
              have Hx40 := Lib.hid hx40
              have Hrd := Lib.hid hrd
              have Hx := Lib.hid hx
              have hps2 : (playF (al.take (k + 1))).1 = (putF p0.1 xs).1 := by
                rw [Hps0.out]
                have e1 : putOf (tt, some xs) = some xs := by show (if xs.length ≤ 40 then some xs else none) = some xs; rw [if_pos hx40]
                unfold actF
                rw [e1]
                simp only
                rw [← Hp0.out]
                rfl
              generalize p0.1 = st at HBo HG HGd hps2
              have hG3 : Good st (2000 - 20 * (k + 1) + 1) := HG.out.mono (by omega)
              have HGd : Hid (Good (putF st xs).1 (2000 - 20 * (k + 1))) := Lib.hid (put_good st xs _ hG3 (by omega))
              have hgrf := good_ref hG3
              have Hgrf := Lib.hid hgrf
              have HG3 := Lib.hid hG3
              have HC := Lib.hid (bytes_Clone s.A s.n s.c xs wr (hrd.ext HBo.out.sys.below) hx (by omega))
              generalize hq' : putF st xs = q at hps2 HGd
              have Hq := Lib.hid hq'
              have Hps := Lib.hid hps2
              clear hA hrd hx hi hx40 Hskip hps2 hG3 hgrf hq' Hps0 Hp0
              go_wp2_with fail
              refine HC.out.mono ?_
              rintro e w5 ⟨sc, rfl, hcl⟩
              have hsn := hcl.n_
              have HB5 := Lib.hid (HBo.out.ext hcl.ext)
              have HP := Lib.hid (sys_Put HB5.out.sys HG3.out sc.A sc.n sc.c xs hcl.byt.rd Hx.out (by have := Hx40.out; omega))
              rw [Hq.out] at HP
              have cg5 := (hcl.ext.cell (p := ⟨g, 1, none⟩) HB.out.lt).trans cg1
              have Hcl := Lib.hid hcl
              have Hsn := Lib.hid hsn
              unfold slv
              clear hcl hsn cg1 HC
              go_wp2_with fail
              refine HP.out.mono ?_
              rintro e w6 ⟨L6, A6, n6, c6, os6, got⟩
              have hret := got.ret
              have Hgot := Lib.hid got
              have hb6 := HB5.out.blk.chg got.step.chg HB5.out.rb1
              have hg6 := (HB.out.ext Hcl.out.ext).chg got.step.chg Hg.out.2.1
              have hrow6 : ∀ j, rowF W0.A W0.n j → ¬ boxF ib L0 j := fun j hj => (HB5.out.row j hj).2.1
              have hk6 := HB5.out.ref.chg got.step.chg hrow6
              have HR := Lib.hid (fun wz (ez : Ext w6 wz) => ref_Put w wz W0 P0 pn0 fs0 st s xs (hk6.ext ez) HB5.out.flag Hrd.out Hx.out Hgrf.out.1 Hgrf.out.2.1)
              rw [Hq.out] at HR
              have Hnd := Lib.hid (fun wz (ez : Ext w6 wz) => needs_ s.A s.n s.c xs wz (Hrd.out.ext (got.sys.below.t ez)) Hx.out)
              have Hb6 := Lib.hid hb6
              have Hg6 := Lib.hid hg6
              clear got hb6 hg6 hrow6 HP cg5 hk6
              subst hret
              go_upto_region 25 with fail
              go_cut [18, 19] from 99 to 109 (fun v18 v19 wx => RefQ w w6 q v18 v19 wx)
              case first =>
                obtain ⟨x0, x1, x2, x3, x4, x5, x6, x7⟩ := Hb6.out.c8
                have cg6 : w6.cell? ⟨g, 1, none⟩ = some (.slice s.A s.n s.c) := by rw [Hg6.out.cell]; rfl
                unfold refV at HR
                have hgl6 := Hg6.out.lt
                have hrl6 := Hb6.out.lt
                have hS : ∀ w', Ext w6 w' → w'.cell? ⟨rb, 0, none⟩ = some (.slice W0.A W0.n W0.c) ∧ w'.cell? ⟨rb, 1, none⟩ = some (.slice P0.A P0.n P0.c) ∧ w'.cell? ⟨rb, 2, none⟩ = some (.int .i64 pn0) ∧ w'.cell? ⟨rb, 3, none⟩ = some (.int .i64 (st.left : Int)) ∧ w'.cell? ⟨rb, 4, none⟩ = some (.int .i64 (st.put : Int)) ∧ w'.cell? ⟨rb, 5, none⟩ = some (.int .i64 (st.ans : Int)) ∧ w'.cell? ⟨rb, 6, none⟩ = some (.int .i64 (st.turns : Int)) ∧ w'.cell? ⟨rb, 7, none⟩ = some (.int .i64 (st.idle : Int)) ∧ w'.cell? ⟨g, 1, none⟩ = some (.slice s.A s.n s.c) := fun w' ex => by
                  obtain ⟨y0, y1, y2, y3, y4, y5, y6, y7⟩ := (Hb6.out.ext ex).c8
                  exact ⟨y0, y1, y2, y3, y4, y5, y6, y7, by rw [(Hg6.out.ext ex).cell]; rfl⟩
                have HS := Lib.hid hS
                have HS0 := Lib.hid (hS _ (Ext.drew w6))
                have HSz := Lib.hid (hS _ ((Ext.alloc w6 (.cells zeroC 69)).t (Ext.drew _)))
                unfold zeroC at HSz
                clear hS
                first
                | (go_region_held_law (fun w' => w'.cell? ⟨rb, 0, none⟩ = some (.slice W0.A W0.n W0.c) ∧ w'.cell? ⟨rb, 1, none⟩ = some (.slice P0.A P0.n P0.c) ∧ w'.cell? ⟨rb, 2, none⟩ = some (.int .i64 pn0) ∧ w'.cell? ⟨rb, 3, none⟩ = some (.int .i64 (st.left : Int)) ∧ w'.cell? ⟨rb, 4, none⟩ = some (.int .i64 (st.put : Int)) ∧ w'.cell? ⟨rb, 5, none⟩ = some (.int .i64 (st.ans : Int)) ∧ w'.cell? ⟨rb, 6, none⟩ = some (.int .i64 (st.turns : Int)) ∧ w'.cell? ⟨rb, 7, none⟩ = some (.int .i64 (st.idle : Int)) ∧ w'.cell? ⟨g, 1, none⟩ = some (.slice s.A s.n s.c))
                    (first | with_reducible exact HS8.out | with_reducible exact HS7.out | with_reducible exact HS0.out | with_reducible exact HSz.out | with_reducible exact HS.out _ (((Ext.drew _).t He7.out).t (Ext.alloc _ _)))
                    (first
                      | (go_at_call 19; first
                          | ((with_reducible refine (Hnd.out _ (Ext.drew _)).mono ?_); rintro e wn ⟨rfl, rfl⟩)
                          | ((with_reducible refine (Hnd.out _ ((Ext.alloc _ _).t (Ext.drew _))).mono ?_); rintro e wn ⟨rfl, rfl⟩))
                      | (go_at_call 33; first
                          | ((with_reducible refine (HR.out _ (Ext.drew _)).mono ?_); rintro e w7 ⟨W7, P7, pn7, fs7, A7, n7, c7, os7, rfl, hk7, hl7, he7, hw7, ht7⟩; unfold refV; have HS7 := Lib.hid (HS.out w7 ((Ext.drew _).t he7)); have Hk7 := Lib.hid hk7; have Hl7 := Lib.hid hl7; have He7 := Lib.hid he7; have Hw7 := Lib.hid hw7; have Ht7 := Lib.hid ht7; clear hk7 hl7 he7 hw7 ht7)
                          | ((with_reducible refine (HR.out _ ((Ext.alloc _ _).t (Ext.drew _))).mono ?_); rintro e w7 ⟨W7, P7, pn7, fs7, A7, n7, c7, os7, rfl, hk7, hl7, he7, hw7, ht7⟩; unfold refV; have HS7 := Lib.hid (HS.out w7 (((Ext.alloc _ _).t (Ext.drew _)).t he7)); have HS8 := Lib.hid (HS.out _ (ext_set8 (((Ext.alloc _ _).t (Ext.drew _)).t he7) (Nat.le_refl _) (.slice W7.A W7.n W7.c) (.slice P7.A P7.n P7.c) (.int .i64 pn7) (.int .i64 (q.1.left : Int)) (.int .i64 (q.1.put : Int)) (.int .i64 (q.1.ans : Int)) (.int .i64 (q.1.turns : Int)) (.int .i64 (q.1.idle : Int)))); have hb7 := ((Blk.new w6 69 zeroC).drew).ext he7; unfold zeroC at hb7; have Hb7 := Lib.hid hb7; obtain ⟨y0, y1, y2, y3, y4, y5, y6, y7⟩ := hb7.c8; obtain ⟨z0, z1, z2, z3, z4, z5, z6, z7⟩ := hb7.f8; have Hk7 := Lib.hid hk7; have Hl7 := Lib.hid hl7; have He7 := Lib.hid he7; have Hw7 := Lib.hid hw7; have Ht7 := Lib.hid ht7; clear hb7 hk7 hl7 he7 hw7 ht7))))
                | fail
                all_goals go_wp2_with fail
                all_goals go_simp
                all_goals go_meet
                · exact refQ_new Hk7.out Hl7.out ((Ext.drew _).t He7.out) Hw7.out
                all_goals exact refQ_set Hb7.out Hk7.out Hl7.out (((Ext.alloc _ _).t (Ext.drew _)).t He7.out) (fun k hk => by have := Hw7.out k hk; simpa using this) (fun k hk => by have := Ht7.out k hk; simpa using this)
              case rest =>
                obtain ⟨W7, P7, pn7, fs7, A7, n7, c7, os7, nb, rfl, rfl, hk7, hl7, he7, hw7, hb7, hnb⟩ := hcut
                have got := Hgot.out
                have hfr := framesR A6 A7 n6 n7 c6 c7 os6 os7 q.2 q.2 wc (got.resp.ext he7).rd (Reads.of (got.resp.ext he7).byt) hl7.rd (hl7.reads.ext (got.sys.below.t he7)) got.resp.le (Nat.le_trans hl7.le hl7.max)
                rw [decide_eq_true (rfl : q.2 = q.2)] at hfr
                have hsb : Byt wc sc xs := (Hcl.out.byt.chg got.step.chg (fun k hk h => by have := Hcl.out.new k hk; have := HBo.out.sys.box.lt h; omega)).ext he7
                have heq := bytes_Equal sc.A s.A sc.n s.n sc.c s.c xs xs wc hsb.rd (Hrd.out.ext (got.sys.below.t he7)) Hx.out Hx.out
                rw [decide_eq_true (rfl : xs = xs)] at heq
                have cgc : wc.cell? ⟨g, 1, none⟩ = some (.slice s.A s.n s.c) := by rw [(Hg6.out.ext he7).cell]; rfl
                have HFr := Lib.hid hfr
                have HEq := Lib.hid heq
                have Hsb := Lib.hid hsb
                have Hk7 := Lib.hid hk7
                have Hw7 := Lib.hid hw7
                have He7 := Lib.hid he7
                have Hb7 := Lib.hid hb7
                have hb5 := Hb6.out.ext he7
                clear hfr heq hsb hk7 hl7 he7 hw7 hnb hb7 got
                go_wp2_with fail
                refine HFr.out.mono ?_; rintro e wx ⟨rfl, rfl⟩
                go_wp2_with fail
                refine HEq.out.mono ?_; rintro e wx ⟨rfl, rfl⟩
                clear cgc
                obtain ⟨x0, x1, x2, x3, x4, x5, x6, x7⟩ := Hb7.out.c8
                obtain ⟨y0, y1, y2, y3, y4, y5, y6, y7⟩ := hb5.c8
                obtain ⟨z0, z1, z2, z3, z4, z5, z6, z7⟩ := hb5.f8
                go_upto_region 29 with fail
                obtain ⟨hb8, hch8⟩ := hb5.all8 (.slice W7.A W7.n W7.c) (.slice P7.A P7.n P7.c) (.int .i64 pn7) (.int .i64 (q.1.left : Int)) (.int .i64 (q.1.put : Int)) (.int .i64 (q.1.ans : Int)) (.int .i64 (q.1.turns : Int)) (.int .i64 (q.1.idle : Int))
                generalize ((((((((wc.setCell ⟨rb, 0, none⟩ (.slice W7.A W7.n W7.c)).setCell ⟨rb, 1, none⟩ (.slice P7.A P7.n P7.c)).setCell ⟨rb, 2, none⟩ (.int .i64 pn7)).setCell ⟨rb, 3, none⟩ (.int .i64 (q.1.left : Int))).setCell ⟨rb, 4, none⟩ (.int .i64 (q.1.put : Int))).setCell ⟨rb, 5, none⟩ (.int .i64 (q.1.ans : Int))).setCell ⟨rb, 6, none⟩ (.int .i64 (q.1.turns : Int))).setCell ⟨rb, 7, none⟩ (.int .i64 (q.1.idle : Int))) = W3 at hb8 hch8 ⊢
                have hBo3 : Bo w W3 ib rb L6 W7 P7 pn7 fs7 q.1 := HB5.out.next Hgot.out Hk7.out He7.out (Ext.refl _) (fun k hk => .inr (Hw7.out k hk)) hb8 hch8 (by rw [← Hq.out]; exact put_flag st xs HB5.out.flag)
                have houtB := HB5.out.outs Hgot.out (W2 := W7) (fun k hk => .inr (Hw7.out k hk))
                have hz6 := Hgot.out.step.chg.size
                have hz5 := Hcl.out.ext.size
                have hrl := HBo.out.blk.lt
                have hscl : ∀ k, foot sc.A sc.c k → k < w5.heap.size := fun k hk => Hcl.out.byt.room.lt hk
                have hsc : ∀ j, foot sc.A sc.c j → ¬ boxF ib L6 j ∧ j ≠ rb ∧ ¬ rowF W7.A W7.n j ∧ w.heap.size ≤ j := fun j hj => by
                  have h1 := Hcl.out.new j hj
                  have h2 := hscl j hj
                  have h3 := HBo.out.sys.below.size
                  refine ⟨fun h => (Hgot.out.step.nb j h).elim (fun h => by have := HBo.out.sys.box.lt h; omega) (fun h => by omega), by omega, fun h => by have := Hw7.out j h; omega, by omega⟩
                have hs3 : Byt W3 sc xs := Hsb.out.chg hch8 (fun k hk e => (hsc k hk).2.1 e)
                have hby3 : Byts W3 os6 q.2 := (Hgot.out.resp.byt.ext He7.out).chg hch8 (fun j hj e => (houtB j hj).2.1 e)
                have hro3 : Room W3 A6 n6 c6 (os6.map slv) := (Hgot.out.resp.room.ext He7.out).chg hch8 (fun j hj e => by have := Hgot.out.new j (.inl hj); omega)
                have HBo3 := Lib.hid hBo3
                have Hsc := Lib.hid hsc
                have Hs3 := Lib.hid hs3
                have Hby3 := Lib.hid hby3
                have Hro3 := Lib.hid hro3
                have Hout := Lib.hid houtB
                have Hlt := Lib.hid (And.intro hscl hz6)
                have hs40 : (sc.n : Int) ≤ 40 := by have := Hsn.out; omega
                clear x0 x1 x2 x3 x4 x5 x6 x7 y0 y1 y2 y3 y4 y5 y6 y7 z0 z1 z2 z3 z4 z5 z6 z7 hb5 hb8 hch8 hBo3 houtB hz6 hz5 hrl hscl hsc hs3 hby3 hro3
                clear HB5 HBo Hsb Hk7 Hb7 HFr HEq Hb6 Hg6 HR Hnd
                go_wp2_with fail
                go_loopw [128] (fun i wy => ∃ (m : Nat) (old : List Nat), m ≤ sc.n ∧ i = .int .i64 (m : Int) ∧ Room wy sc.A sc.n sc.c (old.map u8v) ∧ Chg (foot sc.A sc.c) W3 wy) (fun i _ => sc.n - (intOf i).toNat)
                case atStart => exact ⟨0, xs, by omega, rfl, Hs3.out.room, Chg.refl _ _⟩
                case round =>
                  obtain ⟨m, old, hm, rfl, hr, hchr⟩ := hrel
                  by_cases hmt : m < sc.n
                  · have hmt' : (m : Int) < (sc.n : Int) := by omega
                    have hsc' := hr.2.1
                    obtain ⟨g', o', hA, _⟩ := hr.some_ (by omega)
                    rw [hA] at hr hchr ⊢
                    have hol2 : old.length = sc.n := by have := hr.1; simpa using this
                    obtain ⟨u, hu⟩ : ∃ u, old[m]? = some u := ⟨old[m]'(by omega), List.getElem?_eq_getElem _⟩
                    have hc1 := hr.cellAt (k := m) (u := u8v u) (by rw [List.getElem?_map, hu]; rfl)
                    have hz1 := hr.frozenAt (k := m) (by omega)
                    have hset := hr.set hmt (u8v 221)
                    rw [← List.map_set] at hset
                    have Hset := Lib.hid hset
                    have Hchr := Lib.hid hchr
                    clear hA hu hsc' hr hchr hset hol2
                    go_wp2_with fail
                    go_roundw
                    case rel => exact ⟨m + 1, _, by omega, by go_num, Hset.out, Hchr.out.t (Chg.set _ _ _ _ ⟨by have := Hset.out.2.1; omega, o', rfl⟩)⟩
                    case measure => simp [intOf]; omega
                  · obtain ⟨W4, hW4⟩ : ∃ W4 : World, W4 = wr := ⟨_, rfl⟩
                    have HBo : Hid (Bo w W4 ib rb L6 W7 P7 pn7 fs7 q.1) := Lib.hid (HBo3.out.chg (hW4 ▸ hchr) Hsc.out)
                    have hns : ∀ k, (foot A6 c6 k ∨ foots os6 k) → ¬ foot sc.A sc.c k := fun k hk h => by
                      have h1 := Hgot.out.new k hk
                      have h2 := Hlt.out.1 k h
                      omega
                    have Hby : Hid (Byts W4 os6 q.2) := Lib.hid (Hby3.out.chg (hW4 ▸ hchr) (fun k hk => hns k (.inr hk)))
                    have Hro : Hid (Room W4 A6 n6 c6 (os6.map slv)) := Lib.hid (Hro3.out.chg (hW4 ▸ hchr) (fun k hk => hns k (.inl hk)))
                    have Hsp : Hid (∀ j, foots os6 j → ¬ foot A6 c6 j) := Lib.hid Hgot.out.resp.sep
                    have Hap : Hid (Apart os6) := Lib.hid Hgot.out.ap
                    have HBo4 := HBo
                    clear HBo hr hchr hns Hby3 Hro3 Hs3 HBo3 Hsc
                    subst hW4
                    have h0F : Hid (Chg (foots os6) W4 W4 ∧ Byts W4 (os6.drop 0) (q.2.drop 0)) := Lib.hid ⟨Chg.refl _ _, Hby.out⟩
                    go_wp2_with fail
                    go_loopw [137] (fun i wz => ∃ (m : Nat), m ≤ n6 ∧ i = .int .i64 (m : Int) ∧ Hid (Chg (foots os6) W4 wz ∧ Byts wz (os6.drop m) (q.2.drop m))) (fun i _ => n6 - (intOf i).toNat)
                    case atStart => exact ⟨0, by omega, rfl, h0F⟩
                    case round =>
                      clear h0F
                      obtain ⟨m, hm, rfl, HM⟩ := hrel
                      by_cases hmt : m < n6
                      · have hmt' : (m : Int) < (n6 : Int) := by omega
                        have hnb := Nat.le_trans Hro.out.2.1 Hro.out.2.2.1
                        unfold maxLen at hnb
                        have hRm : Room wr A6 n6 c6 (os6.map slv) := Hro.out.chg HM.out.1 (fun j hj hT => Hsp.out j hT hj)
                        obtain ⟨bf, oF, sf, hAf, _, hs, hc⟩ := (Room.rd hRm).at_ hmt
                        obtain ⟨ff, hf0, hbs⟩ := HM.out.2.at_ 0 sf (by rw [List.getElem?_drop]; simpa using hs)
                        have hff : q.2[m]? = some ff := by rw [List.getElem?_drop] at hf0; simpa using hf0
                        obtain ⟨W9, hcl, hch9⟩ := clear_run wr sf _ hbs.room
                        have hdr : os6.drop m = sf :: os6.drop (m + 1) := by
                          obtain ⟨h, e⟩ := List.getElem?_eq_some_iff.1 hs
                          rw [List.drop_eq_getElem_cons h, e]
                        have hgr : q.2.drop m = ff :: q.2.drop (m + 1) := by
                          obtain ⟨h, e⟩ := List.getElem?_eq_some_iff.1 hff
                          rw [List.drop_eq_getElem_cons h, e]
                        have h4 := HM.out.2
                        rw [hdr, hgr] at h4
                        have hap : Apart (sf :: os6.drop (m + 1)) := by
                          rw [← hdr]; exact List.Pairwise.drop Hap.out
                        have Hfin : Hid (Chg (foots os6) W4 W9 ∧ Byts W9 (os6.drop (m + 1)) (q.2.drop (m + 1))) := Lib.hid
                          ⟨HM.out.1.trans hch9 (fun i _ hT => ⟨sf, List.mem_of_getElem? hs, hT⟩), h4.tail.2.chg hch9 (fun i hi h => (apart_cons hap).1 i h hi)⟩
                        unfold slv at hc
                        clear hap h4 hgr hdr hch9 hbs hff hf0 hs hRm
                        rw [hAf]
                        clear hAf
                        go_wp2_with fail
                        go_roundw
                        case rel => exact ⟨m + 1, by omega, by go_num, Hfin⟩
                        case measure => simp [intOf]; omega
                      · obtain rfl : n6 = m := by omega
                        have HBo : Hid (Bo w wr ib rb L6 W7 P7 pn7 fs7 q.1) := Lib.hid (HBo4.out.chg HM.out.1 Hout.out)
                        clear HM HBo4 Hby Hro Hsp Hap
                        have hbT := HBo.out.blk
                        unfold refC at hbT
                        obtain ⟨x0, x1, x2, x3, x4, x5, x6, x7⟩ := hbT.c8
                        have HSm := Lib.hid (same_ w w wr ib L6 _ W7 P7 pn7 fs7 _ HBo.out.sys HGd.out HBo.out.ref HBo.out.sys.below HBo.out.flag)
                        unfold refV at HSm
                        clear hbT
                        go_wp2_with fail
                        refine HSm.out.mono ?_
                        rintro e w9 ⟨rfl, ex⟩
                        have HFin : Hid (TellK w ib rb al (k + 1) w9) := by
                          refine Lib.hid ?_
                          unfold TellK
                          rw [Hps.out]
                          exact ⟨L6, W7, P7, pn7, fs7, HBo.out.ext ex, HGd.out⟩
                        clear x0 x1 x2 x3 x4 x5 x6 x7 ex HSm HBo
                        go_wp2_with fail
                        go_roundw
                        case rel => exact ⟨k + 1, by omega, by go_num, HFin⟩
                        case measure => simp [intOf]; omega
            · have hn40 : ¬ (s.n : Int) ≤ 40 := by omega
              have Hps := Lib.hid (Hskip.out (by show (if xs.length ≤ 40 then some xs else none) = none; rw [if_neg hx40]))
              clear hA hrd hx hi hsl hx40 Hskip
              go_upto_region 39 with fail
              clear cg1 hq
              have hbT := HBo.out.blk
              unfold refC at hbT
              obtain ⟨x0, x1, x2, x3, x4, x5, x6, x7⟩ := hbT.c8
              have HSm := Lib.hid (same_ w w wr ib L0 _ W0 P0 pn0 fs0 _ HBo.out.sys HGd.out HBo.out.ref HBo.out.sys.below HBo.out.flag)
              unfold refV at HSm
              clear hbT
              go_wp2_with fail
              refine HSm.out.mono ?_
              rintro e w9 ⟨rfl, ex⟩
              have HFin : Hid (TellK w ib rb al (k + 1) w9) := by
                refine Lib.hid ?_
                unfold TellK
                rw [Hps.out]
                exact ⟨L0, W0, P0, pn0, fs0, HBo.out.ext ex, HGd.out⟩
              clear x0 x1 x2 x3 x4 x5 x6 x7 ex HSm HBo
              go_wp2_with fail
              go_roundw
              case rel => exact ⟨k + 1, by omega, by go_num, HFin⟩
              case measure => simp [intOf]; omega
    · obtain rfl : k = 40 := by omega
      obtain ⟨L0, W0, P0, pn0, fs0, hO, hG⟩ := H.out
      have hbT := hO.blk
      unfold refC at hbT
      obtain ⟨x0, x1, x2, x3, x4, x5, x6, x7⟩ := hbT.c8
      have HSm := Lib.hid (same_ w w wr ib L0 _ W0 P0 pn0 fs0 _ hO.sys hG hO.ref hO.sys.below hO.flag)
      unfold refV at HSm
      have Hbel := Lib.hid hO.sys.below
      clear hbT hO hG H
      go_wp2_with fail
      refine HSm.out.mono ?_
      rintro e w9 ⟨rfl, ex⟩
      have Hex := Lib.hid ex
      clear x0 x1 x2 x3 x4 x5 x6 x7 ex HSm
      go_wp2_with fail
      go_ret
      exact ⟨rfl, Hbel.out.t Hex.out⟩
theorem tells_ (A : Option Addr) (n c : Nat) (al : List ActN) (w : World) (hacts : Acts w A n al) (hnc : n ≤ c) (hc : c ≤ maxLen) :
    Calls Try.prog 21 #[.slice A n c] w fun e w' => e = .returned (.bool true) ∧ Ext w w' := by
  rcases (by omega : n ≤ 40 ∨ 40 < n) with h40 | h40
  · exact tells_le A n c al w hacts hnc hc h40
  · exact tells_gt A n c (al.take 40) w (hacts.take (k := 40) (by omega)) hnc hc h40
end Go.Proofs.Ytpipnefepnknoaa
