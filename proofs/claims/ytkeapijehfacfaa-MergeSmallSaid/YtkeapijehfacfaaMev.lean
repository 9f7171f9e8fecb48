/- Mev: Events. -/
import Derived.Test.YtkeapijehfacfaaMso
import Derived.Test.YtkeapijehfacfaaEin
namespace Go.Proofs.Ytkeapijehfacfaa
open Go.RowKit Go.Fx Go.ChangeMaps
theorem law_ky : WideMaps.KeyLaw Try.prog 35 := deep_law_gate laid_out (of_decide_eq_true (by kernel_rfl)) (of_decide_eq_true (by kernel_rfl)) (by kernel_rfl) (by kernel_rfl)
theorem zero_int' (u : World) : (zeroValue 3).run Try.prog u = .ok (.int .i64 0) u := by kernel_rfl
theorem chg_block (w : World) (b : Nat) (o : Obj) : Chg (fun j => j = b) w (setBlock w b o) :=
  ⟨rfl, rfl, rfl, by simp [setBlock], fun k _ hn => by simp only [setBlock]; rw [Array.getElem?_setIfInBounds]; rw [if_neg (fun e => hn e.symm)]⟩
theorem MapK.same {w w' : World} {b n : Nat} {f : Ky → Option Int} (h : MapK w b n f) (e : w'.heap[b]? = w.heap[b]?) : MapK w' b n f := by
  obtain ⟨D, ⟨es, cl, h1, r⟩, h2⟩ := h
  exact ⟨D, ⟨es, cl, e.trans h1, r⟩, h2⟩
theorem at_block {w w2 : World} {b : Nat} {o o2 : Obj} (h : w.heap[b]? = some o) (h2 : w2.heap[b]? = some o2) (x : Obj) : (setBlock w2 b x).heap[b]? = (setBlock w b x).heap[b]? := by
  have a1 := (Array.getElem?_eq_some_iff.1 h).1
  have a2 := (Array.getElem?_eq_some_iff.1 h2).1
  simp only [setBlock]
  rw [Array.getElem?_setIfInBounds, Array.getElem?_setIfInBounds]
  simp [a1, a2]
/-- m[k]++: the entry, and the store into it. -/
theorem MapK.entry {w : World} {b n : Nat} {f : Ky → Option Int} (h : MapK w b n f) {k : Ky} (hk : ∃ l, keyOf Try.prog 35 (kyV k) = some l) (hn : n < maxLen) (hv : ∀ v, f k = some v → (Lit.int .i64 v).wf = true) :
    ∃ v0 st w1, (Instr.mapEntry 73 (.map (some b)) (kyV k)).run Try.prog w = .ok (.tuple #[v0, goInt st]) w1 ∧ (∃ n1, MapK w1 b n1 (fun k' => if k' = k then some ((f k).getD 0) else f k')) ∧ Chg (fun j => j = b) w w1 ∧
      ∀ (w2 : World) (i : Int), Ext w1 w2 → (Lit.int .i64 i).wf = true → ∃ w3, (Instr.entryStore 73 (.map (some b)) (goInt st) (.int .i64 i)).run Try.prog w2 = .ok () w3 ∧ MapK w3 b (n + 1) (fun k' => if k' = k then some i else f k') ∧ Chg (fun j => j = b) w2 w3 := by
  have hh := h
  obtain ⟨kl, hkl⟩ := hk
  obtain ⟨D, ⟨es, cl, hb, F, hsz, hD⟩, h2⟩ := h
  obtain ⟨v0, st, es1, cl1, hE, hold, hS⟩ := WideElems.entry_then_store law_ky ul_mk zero_int' hb F hkl
  have key : ∀ (w2 : World) (i : Int), w2.heap[b]? = some (.map es1 cl1) → (Lit.int .i64 i).wf = true → ∃ es' cl', (Instr.entryStore 73 (.map (some b)) (goInt st) (.int .i64 i)).run Try.prog w2 = .ok () (setBlock w2 b (.map es' cl')) ∧ MapK (setBlock w2 b (.map es' cl')) b (n + 1) (fun k' => if k' = k then some i else f k') := by
    intro w2 i hw2 hi
    obtain ⟨es', cl', hs1, hs2⟩ := hS w2 (.int .i64 i) hw2
    obtain ⟨w', hp1, hp2, _⟩ := hh.put ⟨kl, hkl⟩ hn hi
    rw [hs2] at hp1
    cases hp1
    exact ⟨es', cl', hs1, hp2.same (at_block hb hw2 _)⟩
  have hw1 : (setBlock w b (.map es1 cl1)).heap[b]? = some (.map es1 cl1) := by
    have a1 := (Array.getElem?_eq_some_iff.1 hb).1
    simp only [setBlock]
    rw [Array.getElem?_setIfInBounds]
    simp [a1]
  have hwf : (Lit.int .i64 ((f k).getD 0)).wf = true := by
    cases hf : f k with
    | none => decide
    | some v => exact hv v hf
  have hlk := hh.look1 ⟨kl, hkl⟩
  have hent : ∃ v : Value, v = .int .i64 ((f k).getD 0) ∧ (Instr.mapUpdate 73 (.map (some b)) (kyV k) v).run Try.prog w = .ok () (setBlock w b (.map es1 cl1)) := by
    rcases law_ky.find w hkl es.toList F.keys with ⟨g1, g2⟩ | ⟨j, e0, g1, g2, g3⟩
    · have u1 : (Instr.mapEntry 73 (.map (some b)) (kyV k)).run Try.prog w = .ok (.tuple #[.int .i64 0, goInt cl]) (setBlock w b (.map (es.push ⟨kyV k, .int .i64 0, cl⟩) (cl + 1))) := by
        simp [Instr.mapEntry, run_underlying ul_mk, MapKept.run_getObj_map hb, law_ky.check w false hkl, g1, MapKept.run_setObj_map _ hb, Result.andThen, setBlock]
      have u2 : (Instr.mapUpdate 73 (.map (some b)) (kyV k) (.int .i64 0)).run Try.prog w = .ok () (setBlock w b (.map (es.push ⟨kyV k, .int .i64 0, cl⟩) (cl + 1))) := by
        simp [Instr.mapUpdate, run_underlying ul_mk, MapKept.run_getObj_map hb, law_ky.check w false hkl, g1, MapKept.run_setObj_map _ hb, Result.andThen, setBlock]
      have u3 : (Instr.lookup 73 (.map (some b)) (kyV k) false).run Try.prog w = .ok (.int .i64 0) w := by
        simp [Instr.lookup, run_underlying ul_mk, MapKept.run_getObj_map hb, law_ky.check w _ hkl, g1, Result.andThen]
      rw [u3] at hlk
      rw [u1] at hE
      injection hE with _ hw
      injection hlk with hz _
      exact ⟨_, hz, by rw [u2, hw]⟩
    · have hj : es[j]? = some e0 := by simpa using g2
      have hm1 : es.modify j (fun e => { e with key := kyV k }) = es := by
        apply Array.ext'
        rw [Array.toList_modify, modify_eq_set _ _ _ _ g2, show ({ e0 with key := kyV k } : MapEntry) = e0 by rw [← g3], WideElems.set_self _ _ _ g2]
      have hm2 : es.modify j (fun e => { e with key := kyV k, val := e0.val }) = es := by
        apply Array.ext'
        rw [Array.toList_modify, modify_eq_set _ _ _ _ g2, show ({ e0 with key := kyV k, val := e0.val } : MapEntry) = e0 by rw [← g3], WideElems.set_self _ _ _ g2]
      have u1 : (Instr.mapEntry 73 (.map (some b)) (kyV k)).run Try.prog w = .ok (.tuple #[e0.val, goInt e0.born]) (setBlock w b (.map es cl)) := by
        simp [Instr.mapEntry, run_underlying ul_mk, MapKept.run_getObj_map hb, law_ky.check w false hkl, g1, hj, g3, law_ky.stays w hkl, hm1, MapKept.run_setObj_map _ hb, Result.andThen, setBlock]
      have u2 : (Instr.mapUpdate 73 (.map (some b)) (kyV k) e0.val).run Try.prog w = .ok () (setBlock w b (.map es cl)) := by
        simp [Instr.mapUpdate, run_underlying ul_mk, MapKept.run_getObj_map hb, law_ky.check w false hkl, g1, hj, g3, law_ky.stays w hkl, hm2, MapKept.run_setObj_map _ hb, Result.andThen, setBlock]
      have u3 : (Instr.lookup 73 (.map (some b)) (kyV k) false).run Try.prog w = .ok e0.val w := by
        simp [Instr.lookup, run_underlying ul_mk, MapKept.run_getObj_map hb, law_ky.check w _ hkl, g1, Result.andThen]
      rw [u3] at hlk
      rw [u1] at hE
      injection hE with _ hw
      injection hlk with hz _
      exact ⟨_, hz, by rw [u2, hw]⟩
  obtain ⟨v, rfl, hu⟩ := hent
  refine ⟨v0, st, _, hE, ?_, chg_block _ _ _, fun w2 i e hi => ?_⟩
  · obtain ⟨w', hp1, hp2, _⟩ := hh.put ⟨kl, hkl⟩ hn hwf
    rw [hu] at hp1
    cases hp1
    exact ⟨_, hp2⟩
  · obtain ⟨es', cl', h3, h4⟩ := key w2 i ((e.block b (Array.getElem?_eq_some_iff.1 hw1).1).trans hw1) hi
    exact ⟨_, h3, h4, chg_block _ _ _⟩
/-- How often keys came. -/
def metF (l : List Ev) (k : Ky) : Option Int := if cntF l k = 0 then none else some (cntF l k : Int)
theorem metF_get (l : List Ev) (k : Ky) : (metF l k).getD 0 = (cntF l k : Int) := by
  unfold metF
  split
  · next h => rw [h]; rfl
  · rfl
theorem metF_wf {l : List Ev} {k : Ky} (h : l.length ≤ 1000000) : ∀ v, metF l k = some v → (Lit.int .i64 v).wf = true := by
  intro v hv
  unfold metF at hv
  split at hv
  · cases hv
  · cases hv
    have := cntF_le l k
    exact wf_i64 (by omega) (by omega)
theorem metF_snoc {l : List Ev} {x : Ev} : (fun k' => if k' = x.k then some ((cntF l x.k : Int) + 1) else metF l k') = metF (l ++ [x]) := by
  funext k'
  unfold metF
  rw [cntF_snoc]
  by_cases h : k' = x.k
  · subst h
    simp
  · have h' : ¬ x.k = k' := fun e => h e.symm
    simp [h, h']
/-- What Events leaves. -/
def EvsP (r : List Ev) (w : World) (e : Ending) (w' : World) : Prop :=
  ∃ A n c, e = .returned (.slice A n c) ∧ RoomS 5 w' A n c (r.flatMap evC) ∧ r.length = n ∧ (∀ k, foot A c k → w.heap.size ≤ k) ∧ Ext w w'
/-- The loop of Events. -/
structure EvJ (w : World) (mb : Nat) (A : Option Addr) (n c m : Nat) (l : List Ev) (W : World) : Prop where
  room : RoomS 5 W A n c ((fstF l).flatMap evC)
  len : (fstF l).length = n
  new : ∀ q, foot A c q → mb < q
  mp : MapK W mb m (metF l)
  ext : Ext w W
theorem EvJ.e {w : World} {mb n c m : Nat} {A : Option Addr} {l : List Ev} {W W' : World} (h : EvJ w mb A n c m l W) (e : Ext W W') : EvJ w mb A n c m l W' := ⟨h.room.ext e, h.len, h.new, h.mp.ext e, h.ext.t e⟩
theorem EvJ.old {w : World} {mb n c m : Nat} {A : Option Addr} {l : List Ev} {x : Ev} {W W' : World} (h : EvJ w mb A n c m l W) (hb : w.heap.size ≤ mb) (ch : Chg (fun j => j = mb) W W') (hm : MapK W' mb (m + 1) (metF (l ++ [x]))) (hc : cntF l x.k ≠ 0) : EvJ w mb A n c (m + 1) (l ++ [x]) W' :=
  ⟨by rw [fstF_hit hc]; exact h.room.chg ch (fun k hk e => by have := h.new k hk; omega), by rw [fstF_hit hc]; exact h.len, h.new, hm, h.ext.trans (ch.below h.ext.size (fun k hk e => by omega))⟩
theorem EvJ.app {w : World} {mb n c m c3 : Nat} {A A3 : Option Addr} {l : List Ev} {x : Ev} {W W' w3 : World} {o : Obj} (h : EvJ w mb A n c m l W) (hb : w.heap.size ≤ mb) (ch : Chg (fun j => j = mb) W W') (hm : MapK W' mb (m + 1) (metF (l ++ [x]))) (hc : cntF l x.k = 0)
    (r : RoomS 5 w3 A3 (n + 1) c3 ((fstF l).flatMap evC ++ [x].flatMap evC)) (ch3 : Chg (foot A c) (W'.alloc o) w3) (S : Nat) (ft : ∀ k, foot A3 c3 k → foot A c k ∨ S ≤ k) (hS : W'.heap.size ≤ S) : EvJ w mb A3 (n + 1) c3 (m + 1) (l ++ [x]) w3 := by
  have h1 := h.ext.trans (ch.below h.ext.size (fun k hk e => by omega))
  have h2 := h1.t (Ext.alloc W' o)
  have hml := hm.lt
  refine ⟨by rw [fstF_new hc, List.flatMap_append]; exact r, by rw [fstF_new hc, List.length_append, h.len]; rfl, fun q hq => (ft q hq).elim (h.new q) (fun h' => by omega), (hm.ext (Ext.alloc W' o)).chg ch3 (fun hf => by have := h.new _ hf; omega), h2.trans (ch3.below h2.size (fun q hq hf => by have := h.new q hf; omega))⟩
set_option maxRecDepth 100000 in
set_option maxHeartbeats 2000000 in
theorem events_ (A : Option Addr) (n c M : Nat) (l : List Sm) (w : World) (h : SmArg w A n c l) (hM : M ≤ 1000000) :
    Calls Try.prog 14 #[.slice A n c, .int .i64 (M : Int)] w (EvsP (evsF l M) w) := by
  obtain ⟨L, hL⟩ : ∃ L, L = (l.take M).map mkE := ⟨_, rfl⟩
  have HV := Lib.hid (show evsF l M = fstF L by rw [hL]; rfl)
  have HLl := Lib.hid (show L.length ≤ 1000000 by rw [hL, List.length_map, List.length_take]; omega)
  have H := Lib.hid h
  have Hl := Lib.hid h.rd.1
  have hmk := @run_makeMap Try.prog
  have hnc := h.le
  obtain ⟨mb, hmb⟩ : ∃ mb, mb = w.heap.size := ⟨_, rfl⟩
  have HBm := Lib.hid (show w.heap.size ≤ mb by omega)
  have H0 : Hid (EvJ w mb none 0 0 0 (L.take 0) (w.alloc (.map #[] 0)) ∧ 0 ≤ 0) := Lib.hid ⟨⟨RoomS.nil, rfl, fun q hq => absurd hq foot_none, by rw [hmb]; exact MapK.made w, Ext.alloc _ _⟩, Nat.le_refl _⟩
  by_cases hnM : (M : Int) < (n : Int)
  · have hMn : M < n := by omega
    have hsl := fun w' => sm_to (A := A) (n := n) (c := c) (hi := M) (li := (M : Int)) w' rfl (by omega)
    have HLx := Lib.hid (show ∀ k s, k < M → l[k]? = some s → L[k]? = some (mkE s) from fun k s h1 h2 => by rw [hL, List.getElem?_map, List.getElem?_take, if_pos h1, h2]; rfl)
    have HE := Lib.hid (show L.length = M by rw [hL, List.length_map, List.length_take, h.rd.1]; omega)
    clear h hL
    go_enter Try.func14, Try.ntmps14
    go_wp2_with fail
    rw [← hmb]
    generalize w.alloc (.map #[] 0) = w1 at *
    clear hmb hmk
    go_wp2_with fail
    go_loopw [5, 18] (fun ov i wr => ∃ (k no co m : Nat) (Ao : Option Addr), k ≤ M ∧ i = .int .i64 (k : Int) ∧ ov = .slice Ao no co ∧ Hid (EvJ w mb Ao no co m (L.take k) wr ∧ m ≤ k)) (fun _ i _ => M - (intOf i).toNat)
    case atStart => exact ⟨0, 0, 0, 0, none, by omega, rfl, rfl, H0⟩
    case round =>
      clear H0
      obtain ⟨k, no, co, m, Ao, hk, rfl, rfl, HJ⟩ := hrel
      by_cases hlt : k < M
      · obtain ⟨b, o, s, rfl, _, hx, c0, c1, c2, c3, c4⟩ := (H.out.rd.ext HJ.out.1.ext).sm (k := k) (by omega)
        have hltI : (k : Int) < (M : Int) := by omega
        have HMd := Lib.hid (fun w' => made_ s w' (H.out.ok s (List.mem_of_getElem? hx)))
        have hLx := HLx.out k s hlt hx
        obtain ⟨x, hxx⟩ : ∃ x, x = mkE s := ⟨_, rfl⟩
        rw [← hxx] at HMd hLx
        have HLx2 := Lib.hid hLx
        have HXo := Lib.hid (show EvOk x by rw [hxx]; exact mkE_ok (H.out.ok s (List.mem_of_getElem? hx)))
        unfold smV at HMd
        clear hx hxx hLx
        go_wp2_with fail
        refine (HMd.out _).mono ?_; rintro e w2 ⟨rfl, e2⟩
        have E2 := Lib.hid ((Ext.alloc wr (.cells #[.int .u8 (s.t : Int), .int .u8 (s.s : Int), .int .u8 (s.q : Int), .int .u8 (s.o : Int), .int .u8 (s.li : Int)] 75)).t e2)
        unfold evV
        clear e2 HMd
        obtain ⟨g8, hg8⟩ : ∃ g8, g8 = w2.heap.size := ⟨_, rfl⟩
        have hb8 := Blk.new w2 37 (evC x).toArray
        rw [← hg8] at hb8
        obtain ⟨w8, hw8⟩ : ∃ w8, w8 = w2.alloc (.cells (evC x).toArray 37) := ⟨_, rfl⟩
        have HW8 := Lib.hid hw8
        have HG8 := Lib.hid hg8
        rw [← hw8] at hb8
        have HJ8 := Lib.hid (HJ.out.1.e (show Ext wr w8 by rw [hw8]; exact E2.out.t (Ext.alloc _ _)))
        have HB8 := Lib.hid hb8
        have hgm : mb < g8 := by
          have h1 := HJ.out.1.mp.lt
          have h2 := E2.out.size
          omega
        have Hm := Lib.hid HJ.out.2
        clear hw8 hg8 hb8 E2 HJ
        go_upto_region 7 with fail
        change Code.wp _ _ _ _ (w2.alloc (.cells (evC x).toArray 37))
        rw [← HW8.out, ← HG8.out]
        clear HW8 HG8 c0 c1 c2 c3 c4
        obtain ⟨d0, d1, d2, d3, d4⟩ := HB8.out.ev
        have hlk := (HJ8.out.mp.ext (Ext.drew w8)).look1 (ev_key HXo.out)
        have hcl : cntF (L.take k) x.k ≤ 1000000 := by have h1 := cntF_le (L.take k) x.k; rw [List.length_take] at h1; have := HLl.out; omega
        obtain ⟨v0, st, W1, hme, ⟨n1, hM1⟩, ch1, hst⟩ := (HJ8.out.mp.ext (Ext.drew w8)).entry (ev_key HXo.out) (by unfold maxLen; have := Hm.out; omega) (metF_wf (by rw [List.length_take]; have := HLl.out; omega))
        have hlk1 := hM1.look1 (ev_key HXo.out)
        simp only [if_true, Option.getD_some] at hlk1
        obtain ⟨W2, hs2, hM2, ch2⟩ := hst W1 ((cntF (L.take k) x.k : Int) + 1) (Ext.refl _) (wf_i64 (by omega) (by omega))
        rw [metF_snoc] at hM2
        have hlk2 := hM2.look1 (ev_key HXo.out)
        rw [metF_get] at hlk hlk1 hlk2
        rw [cntF_snoc, if_pos rfl] at hlk2
        have ch := ((Chg.drew (T := fun j => j = mb) w8).t ch1).t ch2
        have hg8l := HB8.out.lt
        have e0 := (ch.cell (p := ⟨g8, 0, none⟩) hg8l (by show ¬ g8 = mb; omega)).trans d0
        have e1 := (ch.cell (p := ⟨g8, 1, none⟩) hg8l (by show ¬ g8 = mb; omega)).trans d1
        have e2 := (ch.cell (p := ⟨g8, 2, none⟩) hg8l (by show ¬ g8 = mb; omega)).trans d2
        have e3 := (ch.cell (p := ⟨g8, 3, none⟩) hg8l (by show ¬ g8 = mb; omega)).trans d3
        have e4 := (ch.cell (p := ⟨g8, 4, none⟩) hg8l (by show ¬ g8 = mb; omega)).trans d4
        have HM2 := Lib.hid hM2
        have HCH := Lib.hid ch
        have HSn := Lib.hid (show L.take (k + 1) = L.take k ++ [x] from take_snoc HLx2.out)
        unfold kyV Ev.k at hlk hlk1 hlk2 hme
        simp only [goInt] at hme hs2
        clear hM1 hM2 ch ch1 ch2 hst
        by_cases hc : cntF (L.take k) x.k = 0
        · have Hc := Lib.hid hc
          unfold Ev.k at hc hs2
          rw [hc] at hlk hlk1 hlk2 hs2
          rw [show (((0 : Nat) : Int) + 1) = 1 from rfl] at hs2
          rw [show ((0 : Nat) : Int) = 0 from rfl] at hlk hlk1
          rw [show ((0 + 1 : Nat) : Int) = 1 from rfl] at hlk2
          have hnol : no ≤ 1000000 := by have h1 := HJ8.out.len; have h2 := fstA_len (L.take k) []; rw [List.length_take] at h2; have := HLl.out; unfold fstF at h1; omega
          have hw1 : IntKind.i64.wrap 1 = 1 := by decide
          clear hc hcl
          go_region_law (fail)
          all_goals
            clear hlk hlk1 hme hs2 d0 d1 d2 d3 d4
            go_wp2_with (refine wpl_append_atS (by rfl) rfl ul_ev info_ev rfl rfl ((HJ8.out.room.chg HCH.out (fun k hk e => by have := HJ8.out.new k hk; omega)).ext (Ext.alloc _ _)) rfl (Src.ofRdS ul_ev evC_len (rdS_one evC_len _ _ x rfl) evC_one) (by simp only [maxLen]; omega) (by omega) ?_)
            intro A3 c3 w3 r3 ch3 ft3
            have HR := Lib.hid (HJ8.out.app HBm.out HCH.out HM2.out Hc.out r3 ch3 _ ft3 (by simp))
            rw [← HSn.out] at HR
            clear r3 ch3 ft3
            refine Lib.hid ?_
            go_wp2_with fail
            go_roundw
            case rel => exact ⟨k + 1, no + 1, c3, m + 1, A3, by omega, by go_num, rfl, Lib.hid ⟨HR.out, by have := Hm.out; omega⟩⟩
            case measure => simp [intOf]; omega
        · have HR := Lib.hid (HJ8.out.old HBm.out HCH.out HM2.out hc)
          rw [← HSn.out] at HR
          unfold Ev.k at hc hcl hs2
          have hwq : IntKind.i64.wrap ((cntF (L.take k) ⟨x.t, x.s, x.q⟩ : Int) + 1) = (cntF (L.take k) ⟨x.t, x.s, x.q⟩ : Int) + 1 := IntWalk.i64_in _ (by omega)
          rw [show ((cntF (L.take k) ⟨x.t, x.s, x.q⟩ + 1 : Nat) : Int) = (cntF (L.take k) ⟨x.t, x.s, x.q⟩ : Int) + 1 from rfl] at hlk2
          generalize cntF (L.take k) ⟨x.t, x.s, x.q⟩ = q at *
          clear hcl
          go_region_law (fail)
          all_goals
            clear hlk hlk1 hme hs2 d0 d1 d2 d3 d4
            go_wp2_with fail
            go_roundw
            case rel => exact ⟨k + 1, no, co, m + 1, Ao, by omega, by go_num, rfl, Lib.hid ⟨HR.out, by have := Hm.out; omega⟩⟩
            case measure => simp [intOf]; omega
      · obtain rfl : k = M := by omega
        have HL := Lib.hid HJ.out.1
        rw [List.take_of_length_le (by have := HE.out; omega)] at HL
        clear HJ
        go_wp2_with fail
        go_ret
        rw [HV.out]
        exact ⟨Ao, no, co, rfl, HL.out.room, HL.out.len, fun q hq => by have := HL.out.new q hq; have := HBm.out; omega, HL.out.ext⟩
  · have hsl := fun w' => sm_to (A := A) (n := n) (c := c) (hi := n) (li := (n : Int)) w' rfl (by omega)
    have HLx := Lib.hid (show ∀ k s, k < n → l[k]? = some s → L[k]? = some (mkE s) from fun k s h1 h2 => by rw [hL, List.getElem?_map, List.getElem?_take, if_pos (by omega), h2]; rfl)
    have HE := Lib.hid (show L.length = n by rw [hL, List.length_map, List.length_take, h.rd.1]; omega)
    clear h hL
    go_enter Try.func14, Try.ntmps14
    go_wp2_with fail
    rw [← hmb]
    generalize w.alloc (.map #[] 0) = w1 at *
    clear hmb hmk
    go_wp2_with fail
    go_loopw [5, 18] (fun ov i wr => ∃ (k no co m : Nat) (Ao : Option Addr), k ≤ n ∧ i = .int .i64 (k : Int) ∧ ov = .slice Ao no co ∧ Hid (EvJ w mb Ao no co m (L.take k) wr ∧ m ≤ k)) (fun _ i _ => n - (intOf i).toNat)
    case atStart => exact ⟨0, 0, 0, 0, none, by omega, rfl, rfl, H0⟩
    case round =>
      clear H0
      obtain ⟨k, no, co, m, Ao, hk, rfl, rfl, HJ⟩ := hrel
      by_cases hlt : k < n
      · obtain ⟨b, o, s, rfl, _, hx, c0, c1, c2, c3, c4⟩ := (H.out.rd.ext HJ.out.1.ext).sm (k := k) (by omega)
        have hltI : (k : Int) < (n : Int) := by omega
        have HMd := Lib.hid (fun w' => made_ s w' (H.out.ok s (List.mem_of_getElem? hx)))
        have hLx := HLx.out k s hlt hx
        obtain ⟨x, hxx⟩ : ∃ x, x = mkE s := ⟨_, rfl⟩
        rw [← hxx] at HMd hLx
        have HLx2 := Lib.hid hLx
        have HXo := Lib.hid (show EvOk x by rw [hxx]; exact mkE_ok (H.out.ok s (List.mem_of_getElem? hx)))
        unfold smV at HMd
        clear hx hxx hLx
        go_wp2_with fail
        refine (HMd.out _).mono ?_; rintro e w2 ⟨rfl, e2⟩
        have E2 := Lib.hid ((Ext.alloc wr (.cells #[.int .u8 (s.t : Int), .int .u8 (s.s : Int), .int .u8 (s.q : Int), .int .u8 (s.o : Int), .int .u8 (s.li : Int)] 75)).t e2)
        unfold evV
        clear e2 HMd
        obtain ⟨g8, hg8⟩ : ∃ g8, g8 = w2.heap.size := ⟨_, rfl⟩
        have hb8 := Blk.new w2 37 (evC x).toArray
        rw [← hg8] at hb8
        obtain ⟨w8, hw8⟩ : ∃ w8, w8 = w2.alloc (.cells (evC x).toArray 37) := ⟨_, rfl⟩
        have HW8 := Lib.hid hw8
        have HG8 := Lib.hid hg8
        rw [← hw8] at hb8
        have HJ8 := Lib.hid (HJ.out.1.e (show Ext wr w8 by rw [hw8]; exact E2.out.t (Ext.alloc _ _)))
        have HB8 := Lib.hid hb8
        have hgm : mb < g8 := by
          have h1 := HJ.out.1.mp.lt
          have h2 := E2.out.size
          omega
        have Hm := Lib.hid HJ.out.2
        clear hw8 hg8 hb8 E2 HJ
        go_upto_region 7 with fail
        change Code.wp _ _ _ _ (w2.alloc (.cells (evC x).toArray 37))
        rw [← HW8.out, ← HG8.out]
        clear HW8 HG8 c0 c1 c2 c3 c4
        obtain ⟨d0, d1, d2, d3, d4⟩ := HB8.out.ev
        have hlk := (HJ8.out.mp.ext (Ext.drew w8)).look1 (ev_key HXo.out)
        have hcl : cntF (L.take k) x.k ≤ 1000000 := by have h1 := cntF_le (L.take k) x.k; rw [List.length_take] at h1; have := HLl.out; omega
        obtain ⟨v0, st, W1, hme, ⟨n1, hM1⟩, ch1, hst⟩ := (HJ8.out.mp.ext (Ext.drew w8)).entry (ev_key HXo.out) (by unfold maxLen; have := Hm.out; omega) (metF_wf (by rw [List.length_take]; have := HLl.out; omega))
        have hlk1 := hM1.look1 (ev_key HXo.out)
        simp only [if_true, Option.getD_some] at hlk1
        obtain ⟨W2, hs2, hM2, ch2⟩ := hst W1 ((cntF (L.take k) x.k : Int) + 1) (Ext.refl _) (wf_i64 (by omega) (by omega))
        rw [metF_snoc] at hM2
        have hlk2 := hM2.look1 (ev_key HXo.out)
        rw [metF_get] at hlk hlk1 hlk2
        rw [cntF_snoc, if_pos rfl] at hlk2
        have ch := ((Chg.drew (T := fun j => j = mb) w8).t ch1).t ch2
        have hg8l := HB8.out.lt
        have e0 := (ch.cell (p := ⟨g8, 0, none⟩) hg8l (by show ¬ g8 = mb; omega)).trans d0
        have e1 := (ch.cell (p := ⟨g8, 1, none⟩) hg8l (by show ¬ g8 = mb; omega)).trans d1
        have e2 := (ch.cell (p := ⟨g8, 2, none⟩) hg8l (by show ¬ g8 = mb; omega)).trans d2
        have e3 := (ch.cell (p := ⟨g8, 3, none⟩) hg8l (by show ¬ g8 = mb; omega)).trans d3
        have e4 := (ch.cell (p := ⟨g8, 4, none⟩) hg8l (by show ¬ g8 = mb; omega)).trans d4
        have HM2 := Lib.hid hM2
        have HCH := Lib.hid ch
        have HSn := Lib.hid (show L.take (k + 1) = L.take k ++ [x] from take_snoc HLx2.out)
        unfold kyV Ev.k at hlk hlk1 hlk2 hme
        simp only [goInt] at hme hs2
        clear hM1 hM2 ch ch1 ch2 hst
        by_cases hc : cntF (L.take k) x.k = 0
        · have Hc := Lib.hid hc
          unfold Ev.k at hc hs2
          rw [hc] at hlk hlk1 hlk2 hs2
          rw [show (((0 : Nat) : Int) + 1) = 1 from rfl] at hs2
          rw [show ((0 : Nat) : Int) = 0 from rfl] at hlk hlk1
          rw [show ((0 + 1 : Nat) : Int) = 1 from rfl] at hlk2
          have hnol : no ≤ 1000000 := by have h1 := HJ8.out.len; have h2 := fstA_len (L.take k) []; rw [List.length_take] at h2; have := HLl.out; unfold fstF at h1; omega
          have hw1 : IntKind.i64.wrap 1 = 1 := by decide
          clear hc hcl
          go_region_law (fail)
          all_goals
            clear hlk hlk1 hme hs2 d0 d1 d2 d3 d4
            go_wp2_with (refine wpl_append_atS (by rfl) rfl ul_ev info_ev rfl rfl ((HJ8.out.room.chg HCH.out (fun k hk e => by have := HJ8.out.new k hk; omega)).ext (Ext.alloc _ _)) rfl (Src.ofRdS ul_ev evC_len (rdS_one evC_len _ _ x rfl) evC_one) (by simp only [maxLen]; omega) (by omega) ?_)
            intro A3 c3 w3 r3 ch3 ft3
            have HR := Lib.hid (HJ8.out.app HBm.out HCH.out HM2.out Hc.out r3 ch3 _ ft3 (by simp))
            rw [← HSn.out] at HR
            clear r3 ch3 ft3
            refine Lib.hid ?_
            go_wp2_with fail
            go_roundw
            case rel => exact ⟨k + 1, no + 1, c3, m + 1, A3, by omega, by go_num, rfl, Lib.hid ⟨HR.out, by have := Hm.out; omega⟩⟩
            case measure => simp [intOf]; omega
        · have HR := Lib.hid (HJ8.out.old HBm.out HCH.out HM2.out hc)
          rw [← HSn.out] at HR
          unfold Ev.k at hc hcl hs2
          have hwq : IntKind.i64.wrap ((cntF (L.take k) ⟨x.t, x.s, x.q⟩ : Int) + 1) = (cntF (L.take k) ⟨x.t, x.s, x.q⟩ : Int) + 1 := IntWalk.i64_in _ (by omega)
          rw [show ((cntF (L.take k) ⟨x.t, x.s, x.q⟩ + 1 : Nat) : Int) = (cntF (L.take k) ⟨x.t, x.s, x.q⟩ : Int) + 1 from rfl] at hlk2
          generalize cntF (L.take k) ⟨x.t, x.s, x.q⟩ = q at *
          clear hcl
          go_region_law (fail)
          all_goals
            clear hlk hlk1 hme hs2 d0 d1 d2 d3 d4
            go_wp2_with fail
            go_roundw
            case rel => exact ⟨k + 1, no, co, m + 1, Ao, by omega, by go_num, rfl, Lib.hid ⟨HR.out, by have := Hm.out; omega⟩⟩
            case measure => simp [intOf]; omega
      · obtain rfl : k = n := by omega
        have HL := Lib.hid HJ.out.1
        rw [List.take_of_length_le (by have := HE.out; omega)] at HL
        clear HJ
        go_wp2_with fail
        go_ret
        rw [HV.out]
        exact ⟨Ao, no, co, rfl, HL.out.room, HL.out.len, fun q hq => by have := HL.out.new q hq; have := HBm.out; omega, HL.out.ext⟩
end Go.Proofs.Ytkeapijehfacfaa
