/- Fspo: spoil writes over bytes, and nothing else. -/
import Derived.Test.YtippgnbmilnjbaaLst
namespace Go.Proofs.Ytippgnbmilnjbaa
open Go.RowKit Go.Fx
set_option maxRecDepth 100000 in
set_option maxHeartbeats 1000000 in
theorem spoil_ (A : Option Addr) (n c : Nat) (ss : List Sl) (xss : List (List Nat)) (w : World) (hr : Rd slv w A n ss) (hy : Byts w ss xss) (hap : Apart ss) (hsep : ∀ k o, A = some ⟨k, o, none⟩ → 0 < n → ¬ foots ss k) (hn : n ≤ 1000000000) (hl : ∀ s ∈ ss, s.n ≤ 1000000000) :
    Calls Try.prog 51 #[.slice A n c] w fun e w' => e = .returned (.tuple #[]) ∧ Chg (foots ss) w w' := by
  have Hr := Lib.hid hr
  have Hap := Lib.hid hap
  have Hsep := Lib.hid hsep
  have Hl := Lib.hid hl
  have Hy := Lib.hid hy
  have Hsl := Lib.hid hr.1
  clear hr hap hsep hl
  go_enter Try.func51, Try.ntmps51
  go_wp2_with fail
  go_loopw [7] (fun i wr => ∃ (m : Nat), m ≤ n ∧ i = .int .i64 (m : Int) ∧ Hid (Chg (foots ss) w wr ∧ Byts wr (ss.drop m) (xss.drop m))) (fun i _ => n - (intOf i).toNat)
  case atStart => exact ⟨0, by omega, rfl, Lib.hid ⟨Chg.refl _ _, hy⟩⟩
  case round =>
    clear hy
    obtain ⟨m, hm, rfl, HM⟩ := hrel
    by_cases hmt : m < n
    · have hmt' : (m : Int) < (n : Int) := by omega
      obtain ⟨bf, oF, sf, hAf, _, hs, hc⟩ := (Hr.out.chg HM.out.1 (fun k o h1 h2 => Hsep.out k o h1 h2)).at_ hmt
      obtain ⟨ff, hf0, hbs⟩ := HM.out.2.at_ 0 sf (by rw [List.getElem?_drop]; simpa using hs)
      have hff : xss[m]? = some ff := by rw [List.getElem?_drop] at hf0; simpa using hf0
      have hsm : sf.n ≤ 1000000000 := Hl.out sf (List.mem_of_getElem? hs)
      have Hs := Lib.hid hs
      have Hff := Lib.hid hff
      have Hbs := Lib.hid hbs
      have h0 : Room wr sf.A sf.n sf.c ((ff.map fun x : Nat => (x : Int)).map fun z : Int => Value.int .u8 z) := by
        have := hbs.room
        rw [List.map_map]
        exact this
      have H0 := Lib.hid h0
      unfold slv at hc
      clear hs hf0 hff hbs h0
      subst hAf
      go_wp2_with fail
      go_loopw [13] (fun i wy => ∃ (j : Nat) (old : List Int), j ≤ sf.n ∧ i = .int .i64 (j : Int) ∧ Room wy sf.A sf.n sf.c (old.map fun z : Int => Value.int .u8 z) ∧ Chg (foot sf.A sf.c) wr wy) (fun i _ => sf.n - (intOf i).toNat)
      case atStart => exact ⟨0, _, by omega, rfl, H0.out, Chg.refl _ _⟩
      case round =>
        clear hc H0
        obtain ⟨j, old, hj, rfl, hr, hchr⟩ := hrel
        by_cases hjt : j < sf.n
        · have hjt' : (j : Int) < (sf.n : Int) := by omega
          have hsc := hr.2.1
          obtain ⟨g', o', hA, _⟩ := hr.some_ (by omega)
          rw [hA] at hr hchr ⊢
          have hol2 : old.length = sf.n := by have := hr.1; simpa using this
          obtain ⟨u, hu⟩ : ∃ u, old[j]? = some u := ⟨old[j]'(by omega), List.getElem?_eq_getElem _⟩
          have hc1 := hr.cellAt (k := j) (u := .int .u8 u) (by rw [List.getElem?_map, hu]; rfl)
          have hz1 := hr.frozenAt (k := j) (by omega)
          obtain ⟨v, hv⟩ : ∃ v, bits .xor .u8 u 255 = v := ⟨_, rfl⟩
          have hset := hr.set hjt (.int .u8 v)
          have e9 : (old.map fun z : Int => Value.int .u8 z).set j (.int .u8 v) = (old.set j v).map fun z : Int => Value.int .u8 z := by rw [List.map_set]
          rw [e9] at hset
          have Hset := Lib.hid hset
          have Hchr := Lib.hid hchr
          clear hA hu hsc hr hchr hset hol2 e9
          go_wp2_with fail
          go_roundw
          case rel => exact ⟨j + 1, _, by omega, by go_num, Hset.out, Hchr.out.t (Chg.set _ _ _ _ ⟨by have := Hset.out.2.1; omega, o', rfl⟩)⟩
          case measure => simp [intOf]; omega
        · obtain rfl : j = sf.n := by omega
          have hdr : ss.drop m = sf :: ss.drop (m + 1) := by
            obtain ⟨h, e⟩ := List.getElem?_eq_some_iff.1 Hs.out
            rw [List.drop_eq_getElem_cons h, e]
          have hgr : xss.drop m = ff :: xss.drop (m + 1) := by
            obtain ⟨h, e⟩ := List.getElem?_eq_some_iff.1 Hff.out
            rw [List.drop_eq_getElem_cons h, e]
          have h4 := HM.out.2
          rw [hdr, hgr] at h4
          have hap : Apart (sf :: ss.drop (m + 1)) := by
            rw [← hdr]; exact List.Pairwise.drop Hap.out
          have Hfin : Hid (Chg (foots ss) w wr ∧ Byts wr (ss.drop (m + 1)) (xss.drop (m + 1))) := Lib.hid
            ⟨HM.out.1.trans hchr (fun i _ hT => ⟨sf, List.mem_of_getElem? Hs.out, hT⟩), h4.tail.2.chg hchr (fun i hi h => (apart_cons hap).1 i h hi)⟩
          clear hap h4 hgr hdr hr hchr
          go_wp2_with fail
          go_roundw
          case rel => exact ⟨m + 1, by omega, by go_num, Hfin⟩
          case measure => simp [intOf]; omega
    · obtain rfl : n = m := by omega
      go_wp2_with fail
      go_end0
      exact ⟨rfl, HM.out.1⟩
/-- spoil(s), one slice. -/
theorem spoil1 (g : Nat) (t : TypeId) (s : Sl) (xs : List Nat) (w : World) (hb : Blk w g t #[.slice s.A s.n s.c]) (hy : Byt w s xs) (hg : ¬ foot s.A s.c g) (hl : s.n ≤ 1000000000) :
    Calls Try.prog 51 #[.slice (some ⟨g, 0, none⟩) 1 1] w fun e w' => e = .returned (.tuple #[]) ∧ Chg (foot s.A s.c) w w' := by
  refine (spoil_ (some ⟨g, 0, none⟩) 1 1 [s] [xs] w (hb.rd rfl rfl) (Byts.nil.snoc hy) (List.pairwise_singleton _ _) (fun k o h1 h2 h3 => ?_) (by omega) (by simp [hl])).mono ?_
  · cases h1; exact hg (foots_one.1 h3)
  · rintro e w' ⟨rfl, h⟩
    exact ⟨rfl, h.mono (fun k _ hk => foots_one.1 hk)⟩
end Go.Proofs.Ytippgnbmilnjbaa
