/- Mts: Merge and Least against the reference: merges answers true for all lists. -/
import Derived.Test.YtkeapijehfacfaaMcq
namespace Go.Fx
open Go.RowKit
theorem RdS.low {α : Type} {f : α → List Value} {s n : Nat} {w : World} {A : Option Addr} {xs : List α} (h : RdS s f w A n xs) : ∀ k o, A = some ⟨k, o, none⟩ → 0 < n → k < w.heap.size := fun k o e hn => by
  obtain ⟨b, o', h1, h2, _⟩ := h.2 hn
  rw [h1] at e; cases e; exact h2
theorem Rd.low {α : Type} {f : α → Value} {n : Nat} {w : World} {A : Option Addr} {xs : List α} (h : Rd f w A n xs) : ∀ k o, A = some ⟨k, o, none⟩ → 0 < n → k < w.heap.size := fun k o e hn => by
  obtain ⟨b, o', h1, h2, _⟩ := h.2 hn
  rw [h1] at e; cases e; exact h2
theorem Els.low {w : World} {ss : List Sl} {ls : List (List Ev)} (h : Els w ss ls) : ∀ s ∈ ss, ∀ k o, s.A = some ⟨k, o, none⟩ → 0 < s.n → k < w.heap.size := fun s hs k o e hn => by
  obtain ⟨i, hi, rfl⟩ := List.getElem_of_mem hs
  obtain ⟨_, l, _, h3⟩ := h.at_ i _ (List.getElem?_eq_getElem hi)
  exact h3.low k o e hn
theorem Els.n_le {w : World} {ss : List Sl} {ls : List (List Ev)} (h : Els w ss ls) {M : Nat} (hM : ∀ l ∈ ls, l.length ≤ M) : ∀ s ∈ ss, s.n ≤ M := fun s hs => by
  obtain ⟨i, hi, rfl⟩ := List.getElem_of_mem hs
  obtain ⟨_, l, h2, h3⟩ := h.at_ i _ (List.getElem?_eq_getElem hi)
  have := hM l (List.mem_of_getElem? h2)
  have := h3.1
  omega
theorem flat_bound {M : Nat} : ∀ {ls : List (List Ev)}, (∀ l ∈ ls, l.length ≤ M) → ls.flatten.length ≤ ls.length * M
  | [], _ => by simp
  | l :: ls, h => by
    rw [List.flatten_cons, List.length_append, List.length_cons, Nat.add_mul, Nat.one_mul]
    have h1 := h l (by simp)
    have h2 := flat_bound (fun l' h' => h l' (by simp [h']) : ∀ l' ∈ ls, l'.length ≤ M)
    omega
end Go.Fx
namespace Go.Proofs.Ytkeapijehfacfaa
open Go.RowKit Go.Fx
/-- spoil(l), one list. -/
theorem spoil1 {g n c : Nat} {A : Option Addr} {L : List Value} {t : TypeId} {w : World} (hb : Blk w g t #[.slice A n c]) (hr : RoomS 5 w A n c L) (hg : ¬ foot A c g) (hn : n ≤ 1000000) :
    Calls Try.prog 50 #[.slice (some ⟨g, 0, none⟩) 1 1] w fun e w' => e = .returned (.tuple #[]) ∧ Chg (foot A c) w w' := by
  refine (spoil_ (some ⟨g, 0, none⟩) 1 1 [⟨A, n, c⟩] w (hb.rd rfl rfl) (Wrt.one (s := ⟨A, n, c⟩) hr) (fun k o h1 h2 h3 => ?_) (by omega) (fun s hs => by simp at hs; subst hs; show n ≤ _; omega)).mono ?_
  · cases h1
    obtain ⟨s, hs, hk⟩ := h3
    simp at hs; subst hs
    exact hg hk
  · rintro e w' ⟨rfl, h⟩
    refine ⟨rfl, h.mono (fun k _ hk => ?_)⟩
    obtain ⟨s, hs, hk⟩ := hk
    simp at hs; subst hs
    exact hk
set_option maxRecDepth 100000 in
set_option maxHeartbeats 4000000 in
theorem merges_ (A : Option Addr) (n c : Nat) (ss : List Sl) (ls : List (List Ev)) (w : World) (h : Rd slv w A n ss) (hs : Els w ss ls) (hok : ∀ l ∈ ls, ∀ x ∈ l, EvOk x) (hn : n ≤ 1000) (hm : ∀ l ∈ ls, l.length ≤ 90) :
    Calls Try.prog 22 #[.slice A n c] w fun e w' => e = .returned (.bool true) ∧ Ext w w' := by
  have hlen : n = ls.length := by have := h.1; have := hs.len; omega
  have htot : ls.flatten.length ≤ 90000 := by have := flat_bound hm; rw [← hlen] at this; have : n * 90 ≤ 1000 * 90 := Nat.mul_le_mul_right _ hn; omega
  have HC := Lib.hid (copied_ A n c ss ls w h hs (by omega) (fun s h => by have := hs.n_le hm s h; omega))
  have HM1 := Lib.hid (fun A' n' c' ts w' (h : Rd slv w' A' n' ts) (hs : Els w' ts ls) (hn : n' ≤ 1000) => merge_ A' n' c' ts ls w' h hs (by omega) (fun s h => by have := hs.n_le hm s h; omega) hok (by omega))
  have HM2 := Lib.hid (fun w' (e : Ext w w') => rmerge_ A n c ss ls w' (h.ext e) (hs.ext e) (by omega) (fun s h => by have := hs.n_le hm s h; omega) (by omega))
  have HL1 := Lib.hid (fun A' n' c' ts w' (h : Rd slv w' A' n' ts) (hs : Els w' ts ls) (hn : n' ≤ 1000) => least_ A' n' c' ts ls w' h hs (by omega))
  have HL2 := Lib.hid (fun w' (e : Ext w w') => rleast_ A n c ss ls w' (h.ext e) (hs.ext e) (by omega))
  have HQ := Lib.hid (fun A' n' c' ts w' (h1 : Rd slv w' A' n' ts) (hs1 : Els w' ts ls) (hn' : n' ≤ 1000) (h2 : Rd slv w' A n ss) (hs2 : Els w' ss ls) => equal_ A' A n' n c' c ts ss ls ls w' h1 hs1 h2 hs2 (by omega) (by omega) (fun s h => by have := hs1.n_le hm s h; omega) (fun s h => by have := hs2.n_le hm s h; omega))
  have Hlen := Lib.hid hlen
  have HML := Lib.hid (show (mergeF ls).1.length ≤ 90000 from Nat.le_trans (mergeF_len ls) htot)
  unfold MergeP at HM1 HM2
  unfold LeastP at HL1 HL2
  obtain ⟨M, hM⟩ : ∃ M, M = mergeF ls := ⟨_, rfl⟩
  rw [← hM] at HM1 HM2 HML
  obtain ⟨r, mi, me⟩ := M
  generalize ixO (leastF ls) = ix at *
  generalize isO (leastF ls) = is at *
  rw [decide_eq_true rfl] at HQ
  have H := Lib.hid h
  have Hs := Lib.hid hs
  dsimp only at HM1 HM2 HML
  clear hM htot hlen h hs hm hok
  go_enter Try.func22, Try.ntmps22
  go_wp2_with fail
  refine HC.out.mono ?_; rintro e w1 ⟨A1, n1, c1, ts, rfl, hl1, e1⟩
  have hn1 : n1 ≤ 1000 := by have := hl1.n_; have := Hlen.out; omega
  have HL := Lib.hid hl1
  have E1 := Lib.hid e1
  have HM1 := Lib.hid (HM1.out A1 n1 c1 ts w1 hl1.room.rd hl1.els hn1)
  clear HC hl1 e1
  go_wp2_with fail
  refine HM1.out.mono ?_; rintro e w2 ⟨A2, n2, c2, rfl, r2, l2, f2, e2⟩
  have R2 := Lib.hid r2
  have L2 := Lib.hid l2
  have F2 := Lib.hid f2
  have E2 := Lib.hid e2
  have HM2 := Lib.hid (HM2.out w2 (E1.out.t e2))
  clear r2 l2 f2 e2 HM1
  go_wp2_with fail
  refine HM2.out.mono ?_; rintro e w3 ⟨A3, n3, c3, rfl, r3, l3, f3, e3⟩
  have R3 := Lib.hid r3
  have L3 := Lib.hid l3
  have E3 := Lib.hid (E2.out.t e3)
  have HR2 := Lib.hid (R2.out.ext e3)
  have HL1 := Lib.hid (HL1.out A1 n1 c1 ts w3 (HL.out.room.rd.ext E3.out) (HL.out.els.ext E3.out) hn1)
  clear r3 l3 f3 e3 HM2
  go_wp2_with fail
  refine HL1.out.mono ?_; rintro e w4 ⟨rfl, e4⟩
  have E4 := Lib.hid (E3.out.t e4)
  have HR2 := Lib.hid (HR2.out.ext e4)
  have R3 := Lib.hid (R3.out.ext e4)
  have HL2 := Lib.hid (HL2.out w4 (E1.out.t E4.out))
  clear e4 HL1
  go_wp2_with fail
  refine HL2.out.mono ?_; rintro e w5 ⟨rfl, e5⟩
  have E5 := Lib.hid (E4.out.t e5)
  have HR2 := Lib.hid (HR2.out.ext e5)
  have R3 := Lib.hid (R3.out.ext e5)
  have hn2 : n2 ≤ 90000 := by have := L2.out; have := HML.out; omega
  have hn3 : n3 ≤ 90000 := by have := L3.out; have := HML.out; omega
  have HE := Lib.hid (fun w' (e : Ext w5 w') => equalE A2 A3 n2 n3 c2 c3 r r w' ((HR2.out.ext e).rd evC_len (by decide)) ((R3.out.ext e).rd evC_len (by decide)) (by omega) (by omega))
  rw [decide_eq_true rfl] at HE
  clear e5 HL2
  go_wp2_with fail
  refine (HE.out _ (Ext.refl _)).mono ?_; rintro e w6 ⟨rfl, e6⟩
  have E6 := Lib.hid (E5.out.t e6)
  have HR2 := Lib.hid (HR2.out.ext e6)
  have HS := Lib.hid (spoil1 (g := w6.heap.size) (n := n2) (c := c2) (A := A2) (t := 24) (w := w6.alloc (.cells #[.slice A2 n2 c2] 24)) (Blk.new _ _ _) (HR2.out.ext (Ext.alloc _ _)) (fun hf => by have := HR2.out.lt hf; omega) (by omega))
  clear e6 HE R3
  go_wp2_with fail
  refine HS.out.mono ?_; rintro e w7 ⟨rfl, c7⟩
  have C7 := Lib.hid ((Chg.ofExt (T := foot A2 c2) (E6.out.t (Ext.alloc w6 (.cells #[.slice A2 n2 c2] 24)))).t c7)
  have C0 := Lib.hid ((Chg.ofExt (T := foot A2 c2) E1.out).t C7.out)
  have hz := E1.out.size
  have HQ7 := Lib.hid (HQ.out A1 n1 c1 ts w7 (HL.out.room.rd.chg C7.out (fun k o e0 h0 hf => by have := HL.out.room.rd.low k o e0 h0; have := F2.out k hf; omega)) (HL.out.els.chg C7.out (fun s hs k o e0 h0 hf => by have := HL.out.els.low s hs k o e0 h0; have := F2.out k hf; omega)) hn1 (H.out.chg C0.out (fun k o e0 h0 hf => by have := H.out.low k o e0 h0; have := F2.out k hf; omega)) (Hs.out.chg C0.out (fun s hs k o e0 h0 hf => by have := Hs.out.low s hs k o e0 h0; have := F2.out k hf; omega)))
  have E7 := Lib.hid (C0.out.below (Nat.le_refl _) (fun k hk hf => by have := F2.out k hf; omega))
  clear c7 HS HQ C7 C0
  go_wp2_with fail
  refine HQ7.out.mono ?_; rintro e w8 ⟨rfl, e8⟩
  have E8 := Lib.hid (E7.out.t e8)
  clear e8
  go_wp2_with fail
  go_ret
  exact ⟨rfl, E8.out⟩
end Go.Proofs.Ytkeapijehfacfaa
