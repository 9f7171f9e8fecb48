/- Cck: the program's Check. -/
import Derived.Test.YtlneifgihdickaaCls
namespace Go.Fx
theorem chkF_step {len k : Nat} {p : List Ins} {i : Ins} (h : p[k]? = some i) : chkF len (p.drop k) k = if oneF i ≠ 0 then some (k, oneF i) else if tgtF i = true ∧ (len : Int) ≤ i.n then some (k, 142) else chkF len (p.drop (k + 1)) (k + 1) := by
  obtain ⟨h1, h2⟩ := List.getElem?_eq_some_iff.1 h
  rw [List.drop_eq_getElem_cons h1, h2]
  rfl
theorem chkF_end {len k : Nat} {p : List Ins} (h : p.length ≤ k) : chkF len (p.drop k) k = none := by
  rw [List.drop_eq_nil_of_le h]; rfl
end Go.Fx
namespace Go.Proofs.Ytlneifgihdickaa
open Go.RowKit Go.Fx
def CheckP (p : List Ins) (w : World) (e : Ending) (w' : World) : Prop := e = .returned (.tuple #[.int .i64 (checkF p).1, .int .i64 ((checkF p).2 : Int)]) ∧ Ext w w'
theorem checkP_mk {p : List Ins} {w w' : World} {a b : Int} {c : Nat} (h : checkF p = (a, c)) (hb : b = (c : Int)) (e : Ext w w') : CheckP p w (.returned (.tuple #[.int .i64 a, .int .i64 b])) w' := by
  subst hb; exact ⟨by rw [h], e⟩
theorem checkF_at {p : List Ins} {k e : Nat} (h0 : 0 < p.length) (h1 : p.length ≤ 256) (h : chkF p.length p 0 = some (k, e)) : checkF p = ((k : Int), e) := by
  unfold checkF; rw [if_neg (by omega), if_neg (by omega), h]
set_option maxRecDepth 100000 in
set_option maxHeartbeats 2000000 in
theorem check_ (A : Option Addr) (n c : Nat) (p : List Ins) (w : World) (h : RdS 5 insC w A n p) :
    Calls Try.prog 59 #[.slice A n c] w (CheckP p w) := by
  have hl := h.1
  by_cases h0 : n = 0
  · subst h0
    have Hr := Lib.hid (show checkF p = (-1, 6) by unfold checkF; rw [if_pos hl])
    clear h hl
    go_enter Try.func59, Try.ntmps59
    go_wp2
    go_ret2
    exact checkP_mk Hr.out rfl (Ext.refl _)
  · have h0I : ((n : Int) == 0) = false := by simp; omega
    by_cases h2 : 256 < n
    · have h2I : (256 : Int) < (n : Int) := by omega
      have Hr := Lib.hid (show checkF p = (-1, 5) by unfold checkF; rw [if_neg (by omega), if_pos (by omega)])
      clear h hl h0 h2
      go_enter Try.func59, Try.ntmps59
      go_wp2
      go_ret2
      exact checkP_mk Hr.out rfl (Ext.refl _)
    · have h2I : ¬ (256 : Int) < (n : Int) := by omega
      have hn : n ≤ 256 := by omega
      have hn0 : 0 < n := by omega
      have HR := Lib.hid h
      have Hl := Lib.hid hl
      clear h hl h0 h2
      go_enter Try.func59, Try.ntmps59
      go_wp2
      go_loopw [20] (fun i wr => ∃ k : Nat, k ≤ n ∧ i = .int .i64 (k : Int) ∧ Hid (chkF p.length p 0 = chkF p.length (p.drop k) k) ∧ Hid (Ext w wr)) (fun i _ => n - (intOf i).toNat)
      case atStart => exact ⟨0, by omega, rfl, Lib.hid rfl, Lib.hid (Ext.refl _)⟩
      case round =>
        obtain ⟨k, hk, rfl, HC, HE⟩ := hrel
        by_cases hlt : k < n
        · have hltI : (k : Int) < (n : Int) := by omega
          obtain ⟨b, o, i, rfl, _, hi, c0, c1, c2, c3, c4⟩ := (HR.out.ext HE.out).ins hlt
          have HO := Lib.hid (fun w' => one_ i w')
          unfold OneP insV at HO
          have HT := Lib.hid (fun w' => target_ i w')
          unfold TgtP insV at HT
          have hstep := chkF_step (len := p.length) hi
          rw [← HC.out] at hstep
          have Hstep := Lib.hid hstep
          clear hstep hi
          by_cases h1 : oneF i = 0
          · rw [h1] at HO
            have H1 := Lib.hid h1
            clear h1
            go_wp2_with fail
            refine (HO.out _).mono ?_; rintro e w2 ⟨rfl, e2⟩
            have hb := ((Blk.new wr 34 (insC i).toArray).ext e2)
            obtain ⟨d0, d1, d2, d3, d4⟩ := hb.ins
            have E2 := Lib.hid ((HE.out.t (Ext.alloc wr _)).t e2)
            clear e2 hb c0 c1 c2 c3 c4
            cases ht : tgtF i with
            | false =>
              rw [ht] at HT
              simp only [Bool.false_eq_true, if_false] at HT
              have hnext : chkF p.length p 0 = chkF p.length (p.drop (k + 1)) (k + 1) := by rw [Hstep.out, if_neg (by rw [H1.out]; simp), if_neg (by rw [ht]; simp)]
              have Hnext := Lib.hid hnext
              clear ht hnext
              go_wp2_with fail
              refine (HT.out _).mono ?_; rintro e w3 ⟨rfl, e3⟩
              have E3 := Lib.hid (E2.out.t e3)
              clear e3
              go_wp2_with fail
              go_roundw
              case rel => exact ⟨k + 1, by omega, by go_num, Hnext, E3⟩
              case measure => simp [intOf]; omega
            | true =>
              rw [ht] at HT
              simp only [if_true] at HT
              by_cases hto : (n : Int) ≤ i.n
              · have hres : chkF p.length p 0 = some (k, 142) := by rw [Hstep.out, if_neg (by rw [H1.out]; simp), if_pos ⟨ht, by rw [Hl.out]; exact hto⟩]
                have Hres := Lib.hid (checkF_at (by rw [Hl.out]; exact hn0) (by rw [Hl.out]; exact hn) hres)
                clear ht hres
                go_wp2_with fail
                refine (HT.out _).mono ?_; rintro e w3 ⟨rfl, e3⟩
                have E3 := Lib.hid (E2.out.t e3)
                clear e3
                go_wp2_with fail
                go_ret2
                exact checkP_mk Hres.out rfl E3.out
              · have hnext : chkF p.length p 0 = chkF p.length (p.drop (k + 1)) (k + 1) := by rw [Hstep.out, if_neg (by rw [H1.out]; simp), if_neg (fun h => hto (by rw [← Hl.out]; exact h.2))]
                have Hnext := Lib.hid hnext
                clear ht hnext
                go_wp2_with fail
                refine (HT.out _).mono ?_; rintro e w3 ⟨rfl, e3⟩
                have E3 := Lib.hid (E2.out.t e3)
                clear e3
                go_wp2_with fail
                go_roundw
                case rel => exact ⟨k + 1, by omega, by go_num, Hnext, E3⟩
                case measure => simp [intOf]; omega
          · have hres : chkF p.length p 0 = some (k, oneF i) := by rw [Hstep.out, if_pos h1]
            have Hres := Lib.hid (checkF_at (by rw [Hl.out]; exact hn0) (by rw [Hl.out]; exact hn) hres)
            have hq : ((oneF i : Int) != 0) = true := by simp; omega
            generalize oneF i = er at *
            clear h1 hres
            go_wp2_with fail
            refine (HO.out _).mono ?_; rintro e w2 ⟨rfl, e2⟩
            have E2 := Lib.hid ((HE.out.t (Ext.alloc wr _)).t e2)
            clear e2
            go_wp2_with fail
            go_ret2
            exact checkP_mk Hres.out rfl E2.out
        · obtain rfl : n = k := by omega
          have hnone : chkF p.length p 0 = none := by rw [HC.out, chkF_end (by rw [Hl.out]; exact Nat.le_refl _)]
          obtain ⟨m, hm⟩ : ∃ m, m + 1 = n := ⟨n - 1, by omega⟩
          have hmI : (n : Int) - 1 = (m : Int) := by omega
          have hmn : m < n := by omega
          obtain ⟨b, o, i, rfl, _, hi, c0, c1, c2, c3, c4⟩ := (HR.out.ext HE.out).ins hmn
          have hlast : p.getLast? = some i := by rw [List.getLast?_eq_getElem?, Hl.out, show n - 1 = m by omega]; exact hi
          have hck : checkF p = if goesF i = true then (((n - 1 : Nat) : Int), 143) else (-1, 0) := by
            unfold checkF
            rw [if_neg (by rw [Hl.out]; omega), if_neg (by rw [Hl.out]; omega), hnone, hlast, Hl.out]
            simp
          have HG := Lib.hid (fun w' => goes_ i w')
          unfold BoolP insV at HG
          have Hck := Lib.hid hck
          have Hm : Hid (n - 1 = m) := Lib.hid (by omega)
          clear hnone hi hlast hck HC hm
          cases hg : goesF i with
          | false =>
            rw [hg] at HG
            have Hres : Hid (checkF p = (-1, 0)) := Lib.hid (by rw [Hck.out, hg]; rfl)
            clear hg
            go_wp2_with fail
            refine (HG.out _).mono ?_; rintro e w2 ⟨rfl, e2⟩
            have E2 := Lib.hid (HE.out.t e2)
            clear e2
            go_wp2_with fail
            go_ret2
            exact checkP_mk Hres.out rfl E2.out
          | true =>
            rw [hg] at HG
            have Hres : Hid (checkF p = ((m : Int), 143)) := Lib.hid (by rw [Hck.out, hg, Hm.out]; rfl)
            clear hg
            go_wp2_with fail
            refine (HG.out _).mono ?_; rintro e w2 ⟨rfl, e2⟩
            have E2 := Lib.hid (HE.out.t e2)
            clear e2
            go_wp2_with fail
            go_ret2
            exact checkP_mk Hres.out rfl E2.out
end Go.Proofs.Ytlneifgihdickaa
