/- Mal: all yields the events of lists, the least one first. -/
import Derived.Test.YtdjpggnadelnaaaMls
import Derived.Test.YtdjpggnadelnaaaEcl
namespace Go.Proofs.Ytdjpggnadelnaaa
open Go.RowKit Go.Fx
attribute [local go_sem] Oper.semAt_some
theorem all_ (A : Option Addr) (n c : Nat) (w : World) :
    Calls Try.prog 41 #[.slice A n c] w fun e w' => e = .returned (.func (.func 58) #[] #[.pointer (some ⟨w.heap.size, 0, none⟩)]) ∧ w.alloc (.cells #[.slice A n c] 56) = w' := by
  go_enter Try.func41, Try.ntmps41
  go_wp2
  go_ret
  exact ⟨rfl, rfl⟩
/-- What the iterator holds between two rounds: its own list of what is left. -/
structure AlJ (ls0 : List (List Ev)) (w : World) (A : Option Addr) (n c : Nat) (J : (Nat → Prop) → Nat → World → Prop) (o : Nat) (W : World) : Prop where
  j : J (foot A c) o W
  st : ∃ ss ls pre, Room W A n c (ss.map slv) ∧ Els w ss ls ∧ (∀ l ∈ ls, Srt l) ∧ Dif ls.flatten ∧ isort ls0.flatten = pre ++ isort ls.flatten ∧ pre.length = o
theorem ev_from {A : Option Addr} {n c k : Nat} {li : Int} (w : World) (e : li = (k : Int)) (hk : k ≤ n) :
    (Instr.sliceAt 26 (.slice A n c) (some (.int .i64 li)) none none).run Try.prog w = .ok (.slice (fromS 5 A c k) (n - k) (c - k)) w := by
  subst e
  have h1 : (k : Int) ≤ (n : Int) := by omega
  have h2 : (0 : Int) ≤ (k : Int) := by omega
  simp [go_sem, sliced, fromS, h1]
set_option maxRecDepth 100000 in
set_option maxHeartbeats 1000000 in
theorem all1 (l Bx : Nat) (A0 : Option Addr) (n c0 : Nat) (ss : List Sl) (ls : List (List Ev)) (w : World) (el : Nat → Array Value) (J0 : World → Prop) (J : (Nat → Prop) → Nat → World → Prop)
    (h : Rd slv w A0 n ss) (hs : Els w ss ls) (hsr : ∀ l ∈ ls, Srt l) (hd : Dif ls.flatten) (hn : n ≤ 1000000000)
    (hel : ∀ o x, (isort ls.flatten)[o]? = some x → el o = #[.agg (evC x).toArray])
    (hI : IterH Try.prog l el (isort ls.flatten).length J0 J (fun _ => False)) (hw : ∀ W, J0 W → Ext w W ∧ Blk W Bx 56 #[.slice A0 n c0]) (hJ : ∀ T o W, J T o W → Ext w W)
    (W : World) (h0 : J0 W) :
    Calls Try.prog 58 #[.func (.yield l) #[] #[], .pointer (some ⟨Bx, 0, none⟩)] W (IterP (isort ls.flatten).length J (fun _ => False)) := by
  obtain ⟨ew, hbx⟩ := hw W h0
  have hcb := hbx.cell0
  have HC := Lib.hid (cloneL A0 n c0 (f := fun s => [slv s]) (fun _ => rfl) (fun _ u hu => by simp at hu; subst hu; rfl) ss W ((RdS.of_rd h).ext ew) hn)
  have HI := Lib.hid hI
  have H0 := Lib.hid h0
  have HJ := Lib.hid hJ
  have HS := Lib.hid hs
  have Hsr := Lib.hid hsr
  have Hd := Lib.hid hd
  have Hel := Lib.hid hel
  have Hl := Lib.hid h.1
  clear h hs hsr hd hel hI hw hJ h0 hbx ew
  go_enter Try.func58, Try.ntmps58
  go_wp2_with fail
  refine HC.out.mono ?_
  rintro e w2 ⟨A, c, rfl, r2, e2, hf⟩
  rw [flat_one] at r2
  have HA : Hid (AlJ ls w A n c J 0 w2) := Lib.hid ⟨HI.out.start _ _ _ H0.out e2 (fun k hk => ⟨hf k hk, RoomS.lt r2 hk⟩), ⟨ss, ls, [], r2.room, HS.out, Hsr.out, Hd.out, rfl, rfl⟩⟩
  clear r2 e2 hf HC hcb H0 HS Hsr Hd
  go_wp2_with fail
  go_loopg [] (isort ls.flatten).length (fun k wr => ∃ o, Hid (AlJ ls w A n c J o wr ∧ k + o = (isort ls.flatten).length))
  case atStart => exact ⟨0, Lib.hid ⟨HA.out, by omega⟩⟩
  case round =>
    clear HA
    obtain ⟨o, HH⟩ := hrel
    obtain ⟨⟨hj, ss', ls', pre, hr, he, hs, hd, hi, hpl⟩, hk⟩ := HH.out
    have hew := HJ.out _ _ _ hj
    have hlen := hr.1
    rw [List.length_map] at hlen
    have HL := Lib.hid (least_ A n c ss' ls' wr hr.rd (he.ext hew) hn)
    unfold LeastP at HL
    clear HH
    cases hlf : leastF ls' with
    | none =>
      have hm := merge_none hlf
      have Hfin : Hid (∀ W', Ext wr W' → J (foot A c) (isort ls.flatten).length W') := Lib.hid (fun W' e => by
        rw [hi, hm, List.append_nil, hpl]; exact HI.out.ext _ _ _ _ hj e)
      rw [hlf] at HL
      unfold ixO isO at HL
      clear hj hr he hs hd hi hpl hk hew hlen hlf hm
      go_wp2_with fail
      refine HL.out.mono ?_
      rintro e w3 ⟨rfl, e3⟩
      have HF := Lib.hid (Hfin.out w3 e3)
      clear e3 HL Hfin
      go_wp2_with fail
      try refine bodyPost_ret (results_none rfl _ _ _) rfl ?_
      exact ⟨⟨_, rfl⟩, .inl ⟨_, HF.out⟩⟩
    | some p =>
      obtain ⟨j, y⟩ := p
      obtain ⟨ly, hly⟩ := leastF_ok ls' j y hlf
      have hmp := merge_pop hs hd hlf hly
      have hjl : j < n := by have := (List.getElem?_eq_some_iff.1 hly).1; have := he.len; omega
      obtain ⟨s, l3, hsj, hl3, hsc, hrd⟩ := he.get (i := j) (by omega)
      obtain rfl : l3 = y :: ly := by rw [hly] at hl3; exact (Option.some.inj hl3).symm
      obtain ⟨sA, sn, sc⟩ := s
      change sn ≤ sc at hsc
      have hsn : 0 < sn := by have := hrd.1; simp at this; omega
      rw [hlf] at HL
      unfold ixO isO at HL
      dsimp only at HL
      obtain ⟨g, og, rfl, hgl⟩ := hr.some_ (by have := hr.2.1; omega)
      have hca := hr.cellAt (k := j) (u := .slice sA sn sc) (by rw [List.getElem?_map, hsj]; rfl)
      have hfa := hr.frozenAt (k := j) (by have := hr.2.1; omega)
      have hoj : (isort ls.flatten)[o]? = some y := by rw [hi, hmp, ← hpl]; simp
      have hol : o < (isort ls.flatten).length := (List.getElem?_eq_some_iff.1 hoj).1
      have Hyy := Lib.hid (fun W' (e : Ext wr W') => by
        have h1 := HI.out.yield _ _ W' hol (HI.out.ext _ _ _ _ hj e)
        rw [Hel.out o y hoj] at h1
        change YieldAt Fence.wide 8 _ l #[.agg #[.int .i64 y.t, .int .i64 y.s, .int .i64 y.q, .int .i64 y.to, .int .i64 y.v]] W' _ at h1
        exact h1)
      have Hst : Hid (∀ W', Ext wr W' → ∀ W'', J (foot (some ⟨g, og, none⟩) c) (o + 1) W'' → (∀ k, foot (some ⟨g, og, none⟩) c k → W''.heap[k]? = W'.heap[k]?) → Room W'' (some ⟨g, og, none⟩) n c (ss'.map slv) ∧ AlJ ls w (some ⟨g, og, none⟩) n c J (o + 1) (W''.setCell ⟨g, og + j, none⟩ (.slice (fromS 5 sA sc 1) (sn - 1) (sc - 1)))) := Lib.hid (fun W' e W'' hJ2 hT => by
        have hr2 := (hr.ext e).same hT
        have ch := Chg.set W'' g (og + j) (.slice (fromS 5 sA sc 1) (sn - 1) (sc - 1)) (T := foot (some ⟨g, og, none⟩) c) ⟨by have := hr.2.1; omega, og, rfl⟩
        refine ⟨hr2, HI.out.own _ _ _ _ hJ2 ch, ss'.set j ⟨fromS 5 sA sc 1, sn - 1, sc - 1⟩, ls'.set j ly, pre ++ [y], ?_, he.set (by show sn - 1 ≤ sc - 1; omega) (by have := hrd.from_ (k := 1) (c := sc) hsn hsc; exact this), pop_srt hly hs, ?_, ?_, by simp [hpl]⟩
        · have := hr2.set hjl (.slice (fromS 5 sA sc 1) (sn - 1) (sc - 1))
          rw [List.map_set]; exact this
        · exact (List.pairwise_cons.1 (hd.perm (pop_perm hly))).2
        · rw [hi, hmp, List.append_assoc]; rfl)
      have Hk := Lib.hid hk
      have Hol := Lib.hid hol
      obtain ⟨b', o', x, l', e1, hbl, e2, _⟩ := RdS_first hrd hsn
      change sA = _ at e1
      subst e1
      cases e2
      have hcr := fun W' (e : Ext w W') => RdS_first (hrd.ext e) hsn
      have HR := Lib.hid (show ∀ W', Ext w W' → W'.cell? ⟨b', o', none⟩ = some (.int .i64 y.t) ∧ W'.cell? ⟨b', o' + 1, none⟩ = some (.int .i64 y.s) ∧ W'.cell? ⟨b', o' + 2, none⟩ = some (.int .i64 y.q) ∧ W'.cell? ⟨b', o' + 3, none⟩ = some (.int .i64 y.to) ∧ W'.cell? ⟨b', o' + 4, none⟩ = some (.int .i64 y.v) from fun W' e => by
        obtain ⟨b2, o2, x2, l2, q1, _, q2, q3⟩ := hcr W' e
        change some _ = _ at q1
        cases q1; cases q2; exact q3)
      have HE := Lib.hid hew
      have hjI : (j : Int) < (n : Int) := by omega
      have hsnI : (0 : Int) < (sn : Int) := by omega
      have hsl := fun w' => ev_from (A := some ⟨b', o', none⟩) (n := sn) (c := sc) (k := 1) (li := 1) w' rfl (by omega)
      have Hca := Lib.hid (show wr.cell? ⟨g, og + j, none⟩ = some (.slice (some ⟨b', o', none⟩) sn sc) from hca)
      have Hsj : Hid ((ss'.map slv)[j]? = some (.slice (some ⟨b', o', none⟩) sn sc)) := Lib.hid (by rw [List.getElem?_map, hsj]; rfl)
      have Hjc : Hid (j < c) := Lib.hid (by have := hr.2.1; omega)
      generalize fromS 5 (some ⟨b', o', none⟩) sc 1 = fA at *
      generalize hsn1 : sn - 1 = sn1 at *
      generalize hsc1 : sc - 1 = sc1 at *
      clear hj hr he hs hd hi hpl hk hew hlen hlf hly hmp hsj hl3 hsc hrd hsn hgl hoj hol hbl hcr hca hsn1 hsc1
      go_wp2_with fail
      refine HL.out.mono ?_
      rintro e w3 ⟨rfl, e3⟩
      have hca3 := (e3.cell (p := ⟨g, og + j, none⟩) (World.block_lt_of_cell? _ _ Hca.out)).trans Hca.out
      obtain ⟨c0, c1, c2, c3, c4⟩ := HR.out w3 (HE.out.t e3)
      obtain ⟨fn, tmps, assign, body, hy, hRn⟩ := Hyy.out w3 e3
      have HRn := Lib.hid hRn
      have HX := Lib.hid (Hst.out w3 e3)
      clear e3 HL Hyy hRn Hst hfa
      go_upto_region 2 with fail
      refine (wpIn_wide (n := 9)).1 ?_
      gi_wp2
      refine HRn.out.mono ?_
      rintro e W' (⟨rfl, hJ', hT⟩ | ⟨rfl, hX'⟩)
      · obtain ⟨hr4, hal⟩ := HX.out W' hJ' hT
        have HA := Lib.hid hal
        have hca4 := hr4.cellAt (k := j) (u := .slice (some ⟨b', o', none⟩) sn sc) Hsj.out
        have hfa4 := hr4.frozenAt (k := j) Hjc.out
        clear hJ' hT hy hca3 c0 c1 c2 c3 c4 HRn HX hr4 hal
        gi_wp2
        go_wp2_with fail
        go_roundg ((isort ls.flatten).length - (o + 1))
        case rel => exact ⟨o + 1, Lib.hid ⟨HA.out, by have := Hol.out; omega⟩⟩
        case measure => have := Hk.out; have := Hol.out; omega
      · exact hX'.elim
end Go.Proofs.Ytdjpggnadelnaaa
