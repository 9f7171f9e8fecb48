/- Mmg: Merge. -/
import Derived.Test.YtdjpggnadelnaaaMmk
namespace Go.Fx
open Go.RowKit
theorem twL_hit {seen : List Ky} {x : Ev} {xs : List Ev} (h : x.k ∈ seen) : twL seen (x :: xs) = none := by rw [twL, if_pos h]
theorem twL_step {seen : List Ky} {x : Ev} {xs : List Ev} (h : x.k ∉ seen) : twL seen (x :: xs) = twL (x.k :: seen) xs := by conv => lhs; rw [twL, if_neg h]
/-- What the loop over a list tells. -/
def twI (seen : List Ky) (l : List Ev) (i : Nat) (rest : List (List Ev)) : Option Nat := match twL seen l with
  | none => some i
  | some s => twF s (i + 1) rest
theorem twI_hit {seen : List Ky} {x : Ev} {xs : List Ev} {i : Nat} {rest : List (List Ev)} (h : x.k ∈ seen) : twI seen (x :: xs) i rest = some i := by unfold twI; rw [twL_hit h]
theorem twI_step {seen : List Ky} {x : Ev} {xs : List Ev} {i : Nat} {rest : List (List Ev)} (h : x.k ∉ seen) : twI seen (x :: xs) i rest = twI (x.k :: seen) xs i rest := by unfold twI; rw [twL_step h]
theorem twI_nil {seen : List Ky} {i : Nat} {rest : List (List Ev)} : twI seen [] i rest = twF seen (i + 1) rest := rfl
theorem twF_cons {seen : List Ky} {i : Nat} {l : List Ev} {rest : List (List Ev)} : twF seen i (l :: rest) = twI seen l i rest := rfl
end Go.Fx
namespace Go.Proofs.Ytdjpggnadelnaaa
open Go.RowKit Go.Fx
/-- The map of Merge: the keys that were met. -/
def MapS (w : World) (b n : Nat) (seen : List Ky) : Prop := ∃ f, MapK w b n f ∧ ∀ k, (f k).isSome = decide (k ∈ seen)
theorem MapS.made (w : World) : MapS (w.alloc (.map #[] 0)) w.heap.size 0 [] := ⟨_, MapK.made w, fun k => by simp⟩
theorem MapS.ext {w w' : World} {b n : Nat} {s : List Ky} (h : MapS w b n s) (e : Ext w w') : MapS w' b n s := let ⟨f, h1, h2⟩ := h; ⟨f, h1.ext e, h2⟩
theorem MapS.look {w : World} {b n : Nat} {s : List Ky} (h : MapS w b n s) {e : Ev} (hk : EvOk e) : ∃ v, (Instr.lookup 81 (.map (some b)) (kyV e.k) true).run Try.prog w = .ok (.tuple #[.int .i64 v, .bool (decide (e.k ∈ s))]) w := by
  obtain ⟨f, h1, h2⟩ := h
  exact ⟨_, by rw [h1.look (ev_key hk), h2]⟩
theorem MapS.put {w : World} {b n : Nat} {s : List Ky} (h : MapS w b n s) {e : Ev} (hk : EvOk e) (i : Nat) (hn : n ≤ 1000000000000) (hi : i ≤ 1000000000000) : ∃ w', (Instr.mapUpdate 81 (.map (some b)) (kyV e.k) (.int .i64 (i : Int))).run Try.prog w = .ok () w' ∧ MapS w' b (n + 1) (e.k :: s) ∧ Chg (fun j => j = b) w w' := by
  obtain ⟨f, h1, h2⟩ := h
  obtain ⟨w', hr, h3, h4⟩ := h1.put (ev_key hk) (i := (i : Int)) (by unfold maxLen; omega) (wf_i64 (by omega) (by omega))
  refine ⟨w', hr, ⟨_, h3, fun k => ?_⟩, h4⟩
  by_cases e' : k = e.k
  · simp [e']
  · simp [e', h2]
/-- What Merge leaves. -/
def MergeP (r : List Ev × Int × Nat) (w : World) (e : Ending) (w' : World) : Prop :=
  ∃ A n c, e = .returned (.tuple #[.slice A n c, .int .i64 r.2.1, .int .i64 (r.2.2 : Int)]) ∧ RoomS 5 w' A n c (r.1.flatMap evC) ∧ r.1.length = n ∧ (∀ k, foot A c k → w.heap.size ≤ k) ∧ Ext w w'
theorem merge_iter (A : Option Addr) (n c B : Nat) (ss : List Sl) (ls : List (List Ev)) (w : World) (h : Rd slv w A n ss) (hs : Els w ss ls) (hn : n ≤ 1000000000) (hsr : ∀ l ∈ ls, Srt l) (hd : Dif ls.flatten) (hb : Blk w B 56 #[.slice A n c]) :
    Iter evC 58 #[.pointer (some ⟨B, 0, none⟩)] w (isort ls.flatten) := by
  intro l el J0 J W hel hI hJ0 hJ h0
  exact all1 l B A n c ss ls w el J0 J h hs hsr hd hn hel hI (fun W h => ⟨hJ0 W h, hb.ext (hJ0 W h)⟩) hJ W h0
set_option maxRecDepth 100000 in
set_option maxHeartbeats 2000000 in
theorem merge_ (A : Option Addr) (n c : Nat) (ss : List Sl) (ls : List (List Ev)) (w : World) (h : Rd slv w A n ss) (hs : Els w ss ls) (hn : n ≤ 1000000) (hm : ∀ s ∈ ss, s.n ≤ 1000000) (hok : ∀ l ∈ ls, ∀ x ∈ l, EvOk x) (htot : ls.flatten.length ≤ 1000000000) :
    Calls Try.prog 26 #[.slice A n c] w (MergeP (mergeF ls) w) := by
  have H := Lib.hid h
  have Hs := Lib.hid hs
  have Hl := Lib.hid h.1
  have Hm := Lib.hid hm
  have Hok := Lib.hid hok
  have Htot := Lib.hid htot
  have hmk := @run_makeMap Try.prog
  clear h hs hm hok htot
  go_enter Try.func26, Try.ntmps26
  go_wp2_with fail
  go_loopw [16] (fun i wr => ∃ k : Nat, k ≤ n ∧ i = .int .i64 (k : Int) ∧ Hid (badS 0 ls = badS k (ls.drop k) ∧ Ext w wr)) (fun i _ => n - (intOf i).toNat)
  case atStart => exact ⟨0, by omega, rfl, Lib.hid ⟨rfl, Ext.refl _⟩⟩
  case round =>
    obtain ⟨k, hk, rfl, HJ⟩ := hrel
    by_cases hlt : k < n
    · obtain ⟨b, o, s, rfl, _, hsx, hcs⟩ := (H.out.ext HJ.out.2).at_ hlt
      obtain ⟨s', l, hsx', hlx, hsc, hrd⟩ := Hs.out.get (i := k) (by have := Hl.out; omega)
      obtain rfl : s' = s := by rw [hsx] at hsx'; exact (Option.some.inj hsx').symm
      have hltI : (k : Int) < (n : Int) := by omega
      have HS := Lib.hid (sorted_ s'.A s'.n s'.c l wr (hrd.ext HJ.out.2) (by have := Hm.out s' (List.mem_of_getElem? hsx); omega))
      obtain ⟨sA, sn, sc⟩ := s'
      dsimp only at HS
      unfold slv at hcs
      cases hsr : srtB l with
      | true =>
        have HJ1 := Lib.hid (show badS 0 ls = badS (k + 1) (ls.drop (k + 1)) by rw [HJ.out.1, drop_at hlx, badS, if_pos hsr])
        have HE := Lib.hid HJ.out.2
        rw [hsr] at HS
        clear hsx hsx' hlx hrd hsc HJ hsr
        go_wp2_with fail
        refine HS.out.mono ?_; rintro e w2 ⟨rfl, e2⟩
        go_wp2_with fail
        go_roundw
        case rel => exact ⟨k + 1, by omega, by go_num, Lib.hid ⟨HJ1.out, HE.out.t e2⟩⟩
        case measure => simp [intOf]; omega
      | false =>
        have HJ1 := Lib.hid (show badS 0 ls = some k by rw [HJ.out.1, drop_at hlx, badS, if_neg (by rw [hsr]; simp)])
        have HE := Lib.hid HJ.out.2
        rw [hsr] at HS
        clear hsx hsx' hlx hrd hsc HJ hsr
        go_wp2_with fail
        refine HS.out.mono ?_; rintro e w2 ⟨rfl, e2⟩
        go_wp2_with fail
        go_ret3
        have hv : mergeF ls = ([], (k : Int), 110) := by unfold mergeF; rw [HJ1.out]
        rw [hv]
        exact ⟨none, 0, 0, rfl, RoomS.nil, rfl, fun k hk => absurd hk foot_none, HE.out.t e2⟩
    · obtain rfl : n = k := by omega
      have HB := Lib.hid (show badS 0 ls = none by rw [HJ.out.1, List.drop_eq_nil_of_le (by have := Hl.out; have := Hs.out.len; omega)]; rfl)
      have HE := Lib.hid HJ.out.2
      clear HJ
      go_wp2_with fail
      obtain ⟨b, hb⟩ : ∃ b, b = wr.heap.size := ⟨_, rfl⟩
      have HM0 := Lib.hid (MapS.made wr)
      have HE0 := Lib.hid (HE.out.t (Ext.alloc wr (.map #[] 0)))
      have HBw := Lib.hid (show w.heap.size ≤ b by rw [hb]; exact HE.out.size)
      rw [← hb] at HM0 ⊢
      generalize wr.alloc (.map #[] 0) = w1 at *
      clear hb HE
      have hlen0 : n = ls.length := by have := Hl.out; have := Hs.out.len; omega
      have Hlen := Lib.hid hlen0
      clear hlen0 hmk
      go_loopw [29] (fun i wr => ∃ (k m : Nat) (seen : List Ky), k ≤ n ∧ i = .int .i64 (k : Int) ∧ Hid (MapS wr b m seen ∧ twF [] 0 ls = twF seen k (ls.drop k) ∧ m + (ls.drop k).flatten.length ≤ 1000000000 ∧ Ext w wr)) (fun i _ => n - (intOf i).toNat)
      case atStart => exact ⟨0, 0, [], by omega, rfl, Lib.hid ⟨HM0.out, rfl, by have := Htot.out; simpa using this, HE0.out⟩⟩
      case round =>
        clear HM0 HE0
        obtain ⟨k, m, seen, hk, rfl, HJ⟩ := hrel
        by_cases hlt2 : k < n
        · obtain ⟨b1, o, s, rfl, _, hsx, hcs⟩ := (H.out.ext HJ.out.2.2.2).at_ hlt2
          obtain ⟨s', l, hsx', hlx, hsc, hrd⟩ := Hs.out.get (i := k) (by have := Hl.out; omega)
          obtain rfl : s' = s := by rw [hsx] at hsx'; exact (Option.some.inj hsx').symm
          have hltI : (k : Int) < (n : Int) := by omega
          have hsm : s'.n ≤ 1000000 := Hm.out s' (List.mem_of_getElem? hsx)
          obtain ⟨sA, sn, sc⟩ := s'
          unfold slv at hcs
          change sn ≤ 1000000 at hsm
          have Hrd := Lib.hid (show RdS 5 evC w sA sn l from hrd)
          have Hlx := Lib.hid hlx
          have HJ0 : Hid (MapS wr b m seen ∧ twF [] 0 ls = twI seen (l.drop 0) k (ls.drop (k + 1)) ∧ m + ((l.drop 0).length + (ls.drop (k + 1)).flatten.length) ≤ 1000000000 ∧ Ext w wr) := Lib.hid ⟨HJ.out.1, by rw [HJ.out.2.1, drop_at hlx, twF_cons, List.drop_zero], by have h := HJ.out.2.2.1; rw [drop_at hlx, List.flatten_cons, List.length_append] at h; rw [List.drop_zero]; exact h, HJ.out.2.2.2⟩
          clear hsx hsx' hlx hsc hrd HJ
          go_wp2_with fail
          obtain ⟨w0, rfl⟩ : ∃ w0, w0 = wr := ⟨_, rfl⟩
          go_loopw [36] (fun i wr => ∃ (j m : Nat) (seen : List Ky), j ≤ sn ∧ i = .int .i64 (j : Int) ∧ Hid (MapS wr b m seen ∧ twF [] 0 ls = twI seen (l.drop j) k (ls.drop (k + 1)) ∧ m + ((l.drop j).length + (ls.drop (k + 1)).flatten.length) ≤ 1000000000 ∧ Ext w wr)) (fun i _ => sn - (intOf i).toNat)
          case atStart => exact ⟨0, m, seen, by omega, rfl, HJ0⟩
          case round =>
            clear HJ0
            obtain ⟨j, m, seen, hj, rfl, HJ⟩ := hrel
            by_cases hlt3 : j < sn
            · obtain ⟨b2, o2, x, rfl, _, hx, c0, c1, c2, c3, c4⟩ := (Hrd.out.ext HJ.out.2.2.2).ev hlt3
              have hltJ : (j : Int) < (sn : Int) := by omega
              have hxo : EvOk x := Hok.out l (List.mem_of_getElem? Hlx.out) x (List.mem_of_getElem? hx)
              have HMa := Lib.hid (HJ.out.1.ext (Ext.alloc wr (.cells #[.int .i64 x.t, .int .i64 x.s, .int .i64 x.q, .int .i64 x.to, .int .i64 x.v] 35)))
              have HEa := Lib.hid (HJ.out.2.2.2.t (Ext.alloc wr (.cells #[.int .i64 x.t, .int .i64 x.s, .int .i64 x.q, .int .i64 x.to, .int .i64 x.v] 35)))
              obtain ⟨v, hlk⟩ := HMa.out.look hxo
              by_cases hin : x.k ∈ seen
              · rw [show decide (x.k ∈ seen) = true from decide_eq_true hin] at hlk
                unfold kyV Ev.k at hlk
                have HV := Lib.hid (show twF [] 0 ls = some k by rw [HJ.out.2.1, drop_at hx, twI_hit hin])
                clear hx hin HJ HMa
                go_wp2_with fail
                go_ret3
                have hv : mergeF ls = ([], (k : Int), 111) := by unfold mergeF; rw [HB.out, HV.out]
                rw [hv]
                exact ⟨none, 0, 0, rfl, RoomS.nil, rfl, fun k hk => absurd hk foot_none, HEa.out⟩
              · rw [show decide (x.k ∈ seen) = false from decide_eq_false hin] at hlk
                have hlm : m ≤ 1000000000 := by have := HJ.out.2.2.1; omega
                obtain ⟨w4, hpu, hM4, ch4⟩ := HMa.out.put hxo k (by omega) (by omega)
                unfold kyV Ev.k at hlk hpu
                have HJ4 : Hid (MapS w4 b (m + 1) (x.k :: seen) ∧ twF [] 0 ls = twI (x.k :: seen) (l.drop (j + 1)) k (ls.drop (k + 1)) ∧ (m + 1) + ((l.drop (j + 1)).length + (ls.drop (k + 1)).flatten.length) ≤ 1000000000 ∧ Ext w w4) := Lib.hid ⟨hM4, by rw [HJ.out.2.1, drop_at hx, twI_step hin], by have h := HJ.out.2.2.1; rw [drop_at hx, List.length_cons] at h; omega, HEa.out.trans (ch4.below HEa.out.size (fun q hq e => by have := HBw.out; omega))⟩
                clear hx hin HJ HMa HEa hM4 ch4
                go_wp2_with fail
                go_roundw
                case rel => exact ⟨j + 1, m + 1, _, by omega, by go_num, HJ4⟩
                case measure => simp [intOf]; omega
            · obtain rfl : sn = j := by omega
              have HJ5 : Hid (MapS wr b m seen ∧ twF [] 0 ls = twF seen (k + 1) (ls.drop (k + 1)) ∧ m + (ls.drop (k + 1)).flatten.length ≤ 1000000000 ∧ Ext w wr) := by
                have e0 : l.drop sn = [] := List.drop_eq_nil_of_le (by have := Hrd.out.1; omega)
                refine Lib.hid ⟨HJ.out.1, ?_, ?_, HJ.out.2.2.2⟩
                · rw [HJ.out.2.1, e0, twI_nil]
                · have h := HJ.out.2.2.1; rw [e0] at h; simpa using h
              clear HJ
              go_wp2_with fail
              go_roundw
              case rel => exact ⟨k + 1, m, seen, by omega, by go_num, HJ5⟩
              case measure => simp [intOf]; omega
        · obtain rfl : n = k := by omega
          have hnil : ls.drop n = [] := List.drop_eq_nil_of_le (by have := Hlen.out; omega)
          have hT : twF [] 0 ls = none := by rw [HJ.out.2.1, hnil]; rfl
          obtain ⟨hdf, -⟩ := twF_none hT
          have hE := HJ.out.2.2.2
          have HV := Lib.hid (show mergeF ls = (isort ls.flatten, -1, 0) by unfold mergeF; rw [HB.out, hT])
          have HI := Lib.hid (fun w' (e : Ext w w') B hb => collectE 58 #[.pointer (some ⟨B, 0, none⟩)] (isort ls.flatten) w' (enters_of Try.func58 (by kernel_rfl) rfl) (by rw [isort_len]; exact Htot.out) (merge_iter A n c B ss ls w' (H.out.ext e) (Hs.out.ext e) (by omega) (badS_none HB.out) hdf hb))
          have HE := Lib.hid hE
          clear hnil hT hdf hE HJ
          go_wp2_with (go_at_call 41; refine (all_ _ _ _ _).mono ?_; rintro e w2 ⟨rfl, rfl⟩)
          refine (HI.out _ (HE.out.t (Ext.alloc _ _)) wr.heap.size (Blk.new _ _ _)).mono ?_
          rintro e w3 ⟨A3, c3, rfl, r3, f3, e3⟩
          have HE3 := Lib.hid ((HE.out.t (Ext.alloc _ _)).t e3)
          have HR3 := Lib.hid r3
          have HF3 := Lib.hid (show ∀ q, foot A3 c3 q → w.heap.size ≤ q from fun q hq => Nat.le_trans (Nat.le_trans HE.out.size (Ext.alloc _ _).size) (f3 q hq))
          clear r3 f3 e3 HI
          go_wp2_with fail
          go_ret3
          rw [HV.out]
          exact ⟨A3, _, c3, rfl, HR3.out, rfl, HF3.out, HE3.out⟩
end Go.Proofs.Ytdjpggnadelnaaa
