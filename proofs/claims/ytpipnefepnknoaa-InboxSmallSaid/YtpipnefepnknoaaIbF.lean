/- The inbox's New, Pending, Waiting, Counts and Frames. -/
import Derived.Test.YtpipnefepnknoaaIbT
namespace Go.Proofs.Ytpipnefepnknoaa
open Go.RowKit Go.Fx
set_option maxHeartbeats 400000 in
theorem ib_New (sv : Nat) (w : World) :
    Calls Try.prog 16 #[.iface 26 (.pointer (some ⟨sv, 0, none⟩))] w fun e w' => e = .returned (.tuple #[.pointer (some ⟨w.heap.size, 0, none⟩), .int .i64 0]) ∧ IbBlk w' w.heap.size sv false ⟨none, 0, 0⟩ 0 0 0 0 ∧ Ext w w' ∧ w'.heap.size = w.heap.size + 1 := by
  have hn := fun w => ifc_nil w sv
  go_enter Try.func16, Try.ntmps16
  go_wp2
  go_ret2
  exact ⟨rfl, Blk.new w _ _, Ext.alloc _ _, by simp⟩
set_option maxHeartbeats 400000 in
theorem ib_Pending (ib : Nat) (L : Lay) (st : St) (w : World) (hb : Box w ib L st) :
    Calls Try.prog 14 #[.pointer (some ⟨ib, 0, none⟩)] w fun e w' => e = .returned (.bool st.pend) ∧ w = w' := by
  obtain ⟨c0, c1, c2, c3, c4, c5, c6⟩ := Blk.c7 hb.blk
  have HN := Lib.hid (ib_none ib L.sv st.pend L.Q _ _ _ _ w hb.blk)
  clear hb
  go_enter Try.func14, Try.ntmps14
  go_wp2_with fail
  refine HN.out.mono ?_; rintro e w1 ⟨rfl, rfl⟩
  go_wp2_with fail
  go_ret
  exact ⟨rfl, rfl⟩
set_option maxHeartbeats 400000 in
theorem ib_Waiting (ib : Nat) (L : Lay) (st : St) (w : World) (hb : Box w ib L st) :
    Calls Try.prog 15 #[.pointer (some ⟨ib, 0, none⟩)] w fun e w' => e = .returned (.int .i64 ((st.wait.length : Nat) : Int)) ∧ w = w' := by
  obtain ⟨c0, c1, c2, c3, c4, c5, c6⟩ := Blk.c7 hb.blk
  have HN := Lib.hid (ib_none ib L.sv st.pend L.Q _ _ _ _ w hb.blk)
  have Hq := Lib.hid hb.qn
  unfold slv at c2
  clear hb
  go_enter Try.func15, Try.ntmps15
  go_wp2_with fail
  refine HN.out.mono ?_; rintro e w1 ⟨rfl, rfl⟩
  go_wp2_with fail
  go_ret
  exact ⟨ret_int (by rw [Hq.out]), rfl⟩
set_option maxHeartbeats 400000 in
theorem ib_Counts (ib : Nat) (L : Lay) (st : St) (w : World) (hb : Box w ib L st) :
    Calls Try.prog 13 #[.pointer (some ⟨ib, 0, none⟩)] w fun e w' => e = .returned (.agg #[.int .i64 (st.put : Int), .int .i64 (st.ans : Int), .int .i64 (st.turns : Int), .int .i64 (st.idle : Int)]) ∧ Ext w w' := by
  have hb' := hb.ext (Ext.alloc w (.cells #[.int .i64 0, .int .i64 0, .int .i64 0, .int .i64 0] 33))
  obtain ⟨c0, c1, c2, c3, c4, c5, c6⟩ := Blk.c7 hb'.blk
  have HN := Lib.hid (ib_none ib L.sv st.pend L.Q _ _ _ _ _ hb'.blk)
  have b0 := Blk.new w 33 #[.int .i64 0, .int .i64 0, .int .i64 0, .int .i64 0]
  obtain ⟨g0, g1, g2, g3⟩ := b0.c0
  obtain ⟨k0, k1, k2, k3⟩ := b0.f0
  have Hb0 := Lib.hid b0
  have hib : ib < w.heap.size := hb.lt (.inl rfl)
  clear hb hb' b0
  go_enter Try.func13, Try.ntmps13
  go_wp2_with fail
  refine HN.out.mono ?_; rintro e w1 ⟨rfl, rfl⟩
  go_wp2_with fail
  exact bodyPost_ret (v := .agg #[.int .i64 (st.put : Int), .int .i64 (st.ans : Int), .int .i64 (st.turns : Int), .int .i64 (st.idle : Int)]) (by simp [results, Try.results13, go_sem]) rfl ⟨rfl, Ext.alloc _ _⟩
/-- A list of copies, all of it new. -/
structure Listed (w : World) (xss : List (List Nat)) (e : Ending) (w' : World) (A : Option Addr) (c : Nat) (os : List Sl) : Prop where
  ret : e = .returned (.slice A os.length c)
  room : Room w' A os.length c (os.map slv)
  outs : Byts w' os xss
  ext : Ext w w'
  na : ∀ k, foot A c k → w.heap.size ≤ k
  no : ∀ k, foots os k → w.heap.size ≤ k ∧ ¬ foot A c k
  ap : Apart os
def ListedP (w : World) (xss : List (List Nat)) (e : Ending) (w' : World) : Prop := ∃ A c os, Listed w xss e w' A c os
set_option maxRecDepth 100000 in
set_option maxHeartbeats 1000000 in
theorem ib_Frames (ib : Nat) (L : Lay) (st : St) (w : World) (hb : Box w ib L st) (hw : st.wait.length < 1000000) (hx : ∀ f ∈ st.wait, f.length ≤ 1000000) :
    Calls Try.prog 23 #[.pointer (some ⟨ib, 0, none⟩)] w (ListedP w st.wait) := by
  obtain ⟨c0, c1, c2, c3, c4, c5, c6⟩ := Blk.c7 hb.blk
  have HN := Lib.hid (ib_none ib L.sv st.pend L.Q _ _ _ _ w hb.blk)
  have hqn := hb.qn
  have hn : L.Q.n < 1000000 := by omega
  unfold slv at c2
  have Hqn := Lib.hid hqn
  have HB := Lib.hid hb
  have Hx := Lib.hid hx
  generalize hxs : st.wait = xss
  have Hxs := Lib.hid hxs
  clear hb hqn hw hx hxs
  go_enter Try.func23, Try.ntmps23
  go_wp2_with fail
  refine HN.out.mono ?_; rintro e w1 ⟨rfl, rfl⟩
  go_wp2_with fail
  go_loopw [3, 13] (fun v i wr => ∃ (k : Nat) (A : Option Addr) (c : Nat) (os : List Sl), k ≤ L.Q.n ∧ i = .int .i64 (k : Int) ∧ v = .slice A k c ∧ Hid (os.length = k ∧ Listed w (xss.take k) (.returned (.slice A os.length c)) wr A c os)) (fun _ i _ => L.Q.n - (intOf i).toNat)
  case atStart => exact ⟨0, none, 0, [], by omega, rfl, rfl, Lib.hid ⟨rfl, rfl, Room.nil, by rw [List.take_zero]; exact Byts.nil, Ext.refl _, fun k hk => absurd hk foot_none, fun k hk => absurd hk foots_nil, List.Pairwise.nil⟩⟩
  case round =>
    obtain ⟨k, A, c, os, hk, rfl, rfl, H⟩ := hrel
    clear c0 c1 c2 c3 c4 c5 c6
    by_cases hlt : k < L.Q.n
    · have hlt' : (k : Int) < (L.Q.n : Int) := by omega
      have hbr := HB.out.ext H.out.2.ext
      have hrd : Rd slv wr L.Q.A L.Q.n L.ss := Room.rd hbr.que
      obtain ⟨bq, oq, s, hA, _, hs, hc⟩ := hrd.at_ hlt
      obtain ⟨xs, hxk, hbs⟩ := hbr.byt.at_ k s hs
      have hxl : xs.length ≤ 1000000 := Hx.out xs (by exact List.mem_of_getElem? hxk)
      have hsn : s.n = xs.length := by have := hbs.room.1; simpa using this.symm
      have HC := Lib.hid (bytes_Clone s.A s.n s.c xs wr hbs.rd hbs.lt (by omega))
      have Hxk : Hid (xss[k]? = some xs) := Lib.hid (by rw [← Hxs.out]; exact hxk)
      unfold slv at hc
      clear hbr hrd hs hxk hbs hsn
      rw [hA]
      clear hA
      go_wp2_with fail
      refine HC.out.mono ?_
      rintro e w2 ⟨r, rfl, hcl⟩
      go_wp2_with (refine wpl_build (by rfl) rfl ul_bb info_bb [.tmp 19] (by rfl) (by rfl) (by decide) (f := slv) [r] (by rfl) (fun _ => rfl) ?_)
      intro g w3 b3 e3 lo3 r3; refine Lib.hid ?_
      have Hcl := Lib.hid hcl
      have Hol := H.out.1
      have hroom : Room w3 A k c (os.map slv) := by have h := (H.out.2.room.ext hcl.ext).ext e3; rwa [Hol] at h
      have He3 := Lib.hid e3
      clear hcl b3 lo3 e3 Hol
      go_wp2_with (refine wpl_append_at (by rfl) rfl ul_bb info_bb rfl rfl hroom rfl (Src.ofRd ul_bb r3 (fun _ => rfl)) (by simp only [maxLen]; omega) (by omega) ?_)
      intro A4 c4 w4 r4 ch4 ft4; refine Lib.hid ?_
      have hfin : Listed w (xss.take (k + 1)) (.returned (.slice A4 (os ++ [r]).length c4)) w4 A4 c4 (os ++ [r]) := by
        have h := H.out.2
        have hl := H.out.1
        have hz1 := h.ext.size
        have hz2 := Hcl.out.ext.size
        have hz3 := He3.out.size
        have e23 : Ext wr w3 := Hcl.out.ext.t He3.out
        have hro : ∀ k', foot A c k' → k' < wr.heap.size := fun k' hk' => h.room.lt hk'
        refine ⟨rfl, ?_, ?_, ?_, fun k' hk' => ?_, fun k' hk' => ?_, apart_snoc h.ap (fun k' h1 h2 => by have := Hcl.out.new k' h2; have := Byts.lt h.outs h1; omega)⟩
        · rw [List.map_append, List.length_append, hl]; exact r4
        · rw [take_snoc Hxk.out]
          refine Byts.snoc ((h.outs.ext e23).chg ch4 (fun k' hk' hk2 => (h.no k' hk').2 hk2)) (((Hcl.out.byt).ext He3.out).chg ch4 (fun k' hk' hk2 => ?_))
          have := Hcl.out.new k' hk'
          have := hro k' hk2
          omega
        · exact ((Chg.ofExt (T := fun _ => False) (h.ext.t e23)).trans ch4 (fun k' hk' hk2 => by have := h.na k' hk2; omega)).ext
        · rcases ft4 k' hk' with h1 | h1
          · exact h.na k' h1
          · have := h.ext.size; omega
        · rcases foots_append.1 hk' with h1 | h1
          · refine ⟨(h.no k' h1).1, fun h2 => ?_⟩
            rcases ft4 k' h2 with h2 | h2
            · exact (h.no k' h1).2 h2
            · have := Byts.lt h.outs h1; omega
          · have h3 := Hcl.out.new k' (foots_one.1 h1)
            have h4 := Hcl.out.byt.room.lt (foots_one.1 h1)
            refine ⟨by have := h.ext.size; omega, fun h2 => ?_⟩
            rcases ft4 k' h2 with h2 | h2
            · have := hro k' h2; omega
            · omega
      have Hfin := Lib.hid hfin
      clear hfin r4 ch4 ft4 hroom r3
      go_wp2_with fail
      go_roundw
      case rel => exact ⟨k + 1, A4, c4, os ++ [r], by omega, by go_num, rfl, Lib.hid ⟨by rw [List.length_append, H.out.1]; rfl, Hfin.out⟩⟩
      case measure => simp [intOf]; omega
    · obtain rfl : k = L.Q.n := by omega
      go_wp2_with fail
      go_ret
      have h := H.out.2
      have hl := H.out.1
      have hx : xss.take L.Q.n = xss := List.take_of_length_le (by rw [← Hxs.out, ← Hqn.out]; exact Nat.le_refl _)
      rw [hx] at h
      exact ⟨A, c, os, by rw [hl]; rfl, h.room, h.outs, h.ext, h.na, h.no, h.ap⟩
end Go.Proofs.Ytpipnefepnknoaa
