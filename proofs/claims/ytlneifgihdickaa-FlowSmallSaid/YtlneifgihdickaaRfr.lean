/- Rfp: the reference's distances by levels, in plain Lean. No program in sight. Rfr: the reference of chapter 16: From, Distances, Reached. -/
import Derived.Test.YtlneifgihdickaaFdc
import Derived.Test.YtlneifgihdickaaRfe
import Derived.Test.YtlneifgihdickaaFrc
namespace Go.Fx
open Go.RowKit Go.Proofs Go.Proofs.Ytlneifgihdickaa
/-- Where the reference stands at level m, instruction i, place k. -/
structure FrI (E : Nat → Nat → Prop) (n b m i k : Nat) (d : List Int) : Prop where
  len : d.length = n
  at_b : d[b]? = some 0
  low : ∀ {v : Nat} {x : Int}, d[v]? = some x → x = -1 ∨ (x = 0 ∧ v = b) ∨ (0 < x ∧ ∃ u, E u v ∧ d[u]? = some (x - 1))
  up : ∀ {v : Nat} {x : Int}, d[v]? = some x → x ≤ (m : Int) + 1
  go : ∀ {u v : Nat} {x : Int}, d[u]? = some x → 0 ≤ x → (x < (m : Int) ∨ (x = (m : Int) ∧ u < i)) → E u v → ∃ y, d[v]? = some y ∧ 0 ≤ y ∧ y ≤ x + 1
  part : d[i]? = some (m : Int) → ∀ {v : Nat}, v < k → E i v → ∃ y, d[v]? = some y ∧ 0 ≤ y ∧ y ≤ (m : Int) + 1
section
variable {E : Nat → Nat → Prop} {n b m i k : Nat} {d : List Int}
theorem FrI.start (hb : b < n) : FrI E n b 0 0 0 ((List.replicate n (-1 : Int)).set b 0) := by
  have hv : ∀ {v : Nat} {x : Int}, ((List.replicate n (-1 : Int)).set b 0)[v]? = some x → x = -1 ∨ (x = 0 ∧ v = b) := fun {v x} h => by
    by_cases e : b = v
    · subst e
      rw [List.getElem?_set_self (by simpa using hb)] at h
      exact .inr ⟨(Option.some.inj h).symm, rfl⟩
    · rw [List.getElem?_set_ne e] at h
      exact .inl (List.eq_of_mem_replicate (List.mem_of_getElem? h))
  refine ⟨by simp, List.getElem?_set_self (by simpa using hb), fun {v x} h => ?_, fun {v x} h => ?_, fun {u v x} h h0 h1 => ?_, fun _ {v} hv => by omega⟩
  · rcases hv h with h1 | h1
    · exact .inl h1
    · exact .inr (.inl h1)
  · rcases hv h with h1 | h1 <;> omega
  · omega
theorem FrI.skip (h : FrI E n b m i 0 d) (hi : d[i]? ≠ some (m : Int)) : FrI E n b m (i + 1) 0 d := by
  refine ⟨h.len, h.at_b, h.low, h.up, fun {u v x} hu h0 hx => ?_, fun _ {v} hv => by omega⟩
  rcases hx with hx | ⟨hx, hui⟩
  · exact h.go hu h0 (.inl hx)
  · by_cases e : u = i
    · subst e; rw [hx] at hu; exact absurd hu hi
    · exact h.go hu h0 (.inr ⟨hx, by omega⟩)
theorem FrI.endk (h : FrI E n b m i n d) (hE : ∀ v, E i v → v < n) : FrI E n b m (i + 1) 0 d := by
  refine ⟨h.len, h.at_b, h.low, h.up, fun {u v x} hu h0 hx he => ?_, fun _ {v} hv => by omega⟩
  rcases hx with hx | ⟨hx, hui⟩
  · exact h.go hu h0 (.inl hx) he
  · by_cases e : u = i
    · subst e
      rw [hx] at hu ⊢
      exact h.part hu (hE v he) he
    · exact h.go hu h0 (.inr ⟨hx, by omega⟩) he
theorem FrI.endi (h : FrI E n b m n 0 d) : FrI E n b (m + 1) 0 0 d := by
  refine ⟨h.len, h.at_b, h.low, fun {v x} hv => by have := h.up hv; omega, fun {u v x} hu h0 hx he => ?_, fun _ {v} hv => by omega⟩
  have hun : u < n := by have := (List.getElem?_eq_some_iff.1 hu).1; rw [h.len] at this; exact this
  by_cases e : x = (m : Int)
  · exact h.go hu h0 (.inr ⟨e, hun⟩) he
  · exact h.go hu h0 (.inl (by omega)) he
theorem FrI.keep (h : FrI E n b m i k d) (hk : ¬ E i k ∨ ∃ y, d[k]? = some y ∧ 0 ≤ y) : FrI E n b m i (k + 1) d := by
  refine ⟨h.len, h.at_b, h.low, h.up, h.go, fun hi {v} hv he => ?_⟩
  by_cases e : v = k
  · subst e
    rcases hk with hk | ⟨y, hy, h0⟩
    · exact absurd he hk
    · exact ⟨y, hy, h0, h.up hy⟩
  · exact h.part hi (by omega) he
theorem FrI.set {y : Int} (h : FrI E n b m i k d) (hi : d[i]? = some (m : Int)) (hy : d[k]? = some y) (h0 : y < 0) (he : E i k) : FrI E n b m i (k + 1) (d.set k ((m : Int) + 1)) := by
  have hkn := (List.getElem?_eq_some_iff.1 hy).1
  have old : ∀ {v : Nat} {x : Int}, 0 ≤ x → d[v]? = some x → (d.set k ((m : Int) + 1))[v]? = some x := fun {v x} hx hv => by
    have hne : k ≠ v := fun e => by subst e; rw [hy] at hv; have := Option.some.inj hv; omega
    rw [List.getElem?_set_ne hne]; exact hv
  have cases_ : ∀ {v : Nat} {x : Int}, (d.set k ((m : Int) + 1))[v]? = some x → (v = k ∧ x = (m : Int) + 1) ∨ (v ≠ k ∧ d[v]? = some x) := fun {v x} hv => by
    by_cases e : k = v
    · subst e
      rw [List.getElem?_set_self hkn] at hv
      exact .inl ⟨rfl, (Option.some.inj hv).symm⟩
    · rw [List.getElem?_set_ne e] at hv
      exact .inr ⟨fun e2 => e e2.symm, hv⟩
  refine ⟨by rw [List.length_set]; exact h.len, old (by omega) h.at_b, fun {v x} hv => ?_, fun {v x} hv => ?_, fun {u v x} hu hx0 hx hE => ?_, fun hi2 {v} hv hE => ?_⟩
  · rcases cases_ hv with ⟨e1, e2⟩ | ⟨_, hv⟩
    · subst e1 e2
      exact .inr (.inr ⟨by omega, i, he, by rw [show (m : Int) + 1 - 1 = (m : Int) by omega]; exact old (by omega) hi⟩)
    · rcases h.low hv with h1 | h1 | ⟨h1, u, h2, h3⟩
      · exact .inl h1
      · exact .inr (.inl h1)
      · exact .inr (.inr ⟨h1, u, h2, old (by omega) h3⟩)
  · rcases cases_ hv with ⟨_, e2⟩ | ⟨_, hv⟩
    · omega
    · exact h.up hv
  · rcases cases_ hu with ⟨_, e2⟩ | ⟨_, hu⟩
    · omega
    · obtain ⟨z, hz, h1, h2⟩ := h.go hu hx0 hx hE
      exact ⟨z, old h1 hz, h1, h2⟩
  · by_cases e : v = k
    · subst e
      exact ⟨(m : Int) + 1, List.getElem?_set_self hkn, by omega, by omega⟩
    · obtain ⟨z, hz, h1, h2⟩ := h.part hi (v := v) (by omega) hE
      exact ⟨z, old h1 hz, h1, h2⟩
theorem low_lt {d : List Int} (hlen : d.length = n) (hlow : ∀ {v : Nat} {x : Int}, d[v]? = some x → x = -1 ∨ (x = 0 ∧ v = b) ∨ (0 < x ∧ ∃ u, E u v ∧ d[u]? = some (x - 1))) {v : Nat} {x : Int} (hx : d[v]? = some x) : x < (n : Int) := by
  have key : ∀ (m v : Nat), d[v]? = some (m : Int) → ∀ j : Nat, j ≤ m → (j : Int) ∈ d := by
    intro m
    induction m with
    | zero =>
      intro v hv j hj
      have hj0 : j = 0 := by omega
      rw [hj0]
      exact List.mem_of_getElem? hv
    | succ m ih =>
      intro v hv j hj
      by_cases e : j = m + 1
      · subst e; exact List.mem_of_getElem? hv
      · rcases hlow hv with h1 | ⟨h1, -⟩ | ⟨-, u, -, hu⟩
        · omega
        · omega
        · exact ih u (by rw [hu]; congr 1; omega) j (by omega)
  have hn : 0 < n := by have := (List.getElem?_eq_some_iff.1 hx).1; omega
  rcases hlow hx with h1 | ⟨h1, -⟩ | ⟨h1, -⟩
  · omega
  · omega
  · obtain ⟨m, rfl⟩ := Int.eq_ofNat_of_zero_le (show 0 ≤ x by omega)
    have h2 := nodup_le (l := (List.range (m + 1)).map fun k : Nat => (k : Int)) (l' := d) (by
      rw [List.nodup_iff_pairwise_ne, List.pairwise_map]
      exact List.nodup_range.imp (fun h e => h (by omega))) (fun y hy => by
      obtain ⟨j, hj, rfl⟩ := List.mem_map.1 hy
      exact key m v hx j (by have := List.mem_range.1 hj; omega))
    rw [List.length_map, List.length_range, hlen] at h2
    omega
theorem FrI.isD (h : FrI E n b n 0 0 d) : IsD E n b d := by
  refine ⟨h.len, h.at_b, h.low, fun {u v x} hu h0 he => ?_⟩
  exact h.go hu h0 (.inl (low_lt h.len h.low hu)) he
end
/-- Control that does not go to t. -/
def EdW (p : List Ins) (t : Int) (u v : Nat) : Prop := v ∈ edF p u ∧ (v : Int) ≠ t
theorem edW_none (p : List Ins) : EdW p (-1) = EdP p := by
  funext u v
  unfold EdW EdP
  exact propext ⟨fun h => h.1, fun h => ⟨h, by omega⟩⟩
theorem edW_rwo {p : List Ins} {k v : Nat} (hk : (0 : Nat) ≠ k) : Way (EdW p (k : Int)) (fun _ => True) 0 v ↔ Rwo (EdP p) k v := by
  constructor
  · intro h
    induction h with
    | start _ => exact .start hk
    | step _ e _ ih => exact .step ih e.1 (fun e2 => e.2 (by omega))
  · intro h
    induction h with
    | start _ => exact .start trivial
    | step _ e h2 ih => exact .step ih ⟨e, fun e2 => h2 (by omega)⟩ trivial
/-- What From returns. -/
def FrmP (p : List Ins) (n b : Nat) (t : Int) (d : List Int) : Prop := if (b : Int) = t then d = List.replicate n (-1) else IsD (EdW p t) n b d
theorem frm_rwo {p : List Ins} {n k i : Nat} {d : List Int} {x : Int} (h : FrmP p n 0 (k : Int) d) (hx : d[i]? = some x) : 0 ≤ x ↔ Rwo (EdP p) k i := by
  unfold FrmP at h
  by_cases hk : ((0 : Nat) : Int) = (k : Int)
  · rw [if_pos hk] at h
    subst h
    have h1 := List.eq_of_mem_replicate (List.mem_of_getElem? hx)
    have hk0 : k = 0 := by omega
    subst hk0
    constructor
    · intro h2; omega
    · intro h2
      have : ∀ v, Rwo (EdP p) 0 v → False := fun v hv => by
        induction hv with
        | start h => exact h rfl
        | step _ _ _ ih => exact ih
      exact (this i h2).elim
  · rw [if_neg hk] at h
    rw [h.iff hx]
    exact edW_rwo (by omega)
theorem frm_all {p : List Ins} {n b : Nat} {d : List Int} (h : FrmP p n b (-1) d) : IsD (EdP p) n b d := by
  unfold FrmP at h
  rw [if_neg (by omega), edW_none] at h
  exact h
end Go.Fx
namespace Go.Proofs.Ytlneifgihdickaa
open Go.RowKit Go.Fx
/-- What From leaves. -/
def FromP (p : List Ins) (n b : Nat) (t : Int) (w : World) (e : Ending) (w' : World) : Prop :=
  ∃ A c d, e = .returned (.slice A n c) ∧ FrmP p n b t d ∧ NwL intz w A n c d w'
set_option maxRecDepth 100000 in
set_option maxHeartbeats 2000000 in
theorem rfrom_ (A : Option Addr) (n c : Nat) (p : List Ins) (b : Nat) (t : Int) (w : World) (h : RdS 5 insC w A n p) (hp : RightP p) (hb : b < n) (_ht1 : -1 ≤ t) (_ht2 : t ≤ 1000) :
    Calls Try.prog 66 #[.slice A n c, .int .i64 (b : Int), .int .i64 t] w (FromP p n b t w) := by
  have hl := h.1
  have hn : n ≤ 256 := by have := hp.max; omega
  have H := Lib.hid h
  have HP := Lib.hid hp
  have Hpl := Lib.hid hl
  have HEd := Lib.hid (fun W (e : Ext w W) (i k : Nat) (hi : i < n) (hk : k < n) => redge_ A n c p i k W (h.ext e) hi (by omega) hk)
  clear h hp hl
  go_enter Try.func66, Try.ntmps66
  go_wp2_with fail
  go_loopw [7, 8] (fun v7 v8 wr => ∃ (k : Nat) (Ao : Option Addr) (co : Nat), k ≤ n ∧ v8 = .int .i64 (k : Int) ∧ v7 = .slice Ao k co ∧ Hid (NwL intz w Ao k co (List.replicate k (-1)) wr)) (fun _ v _ => n - (intOf v).toNat)
  case atStart => exact ⟨0, none, 0, by omega, rfl, rfl, Lib.hid (NwL.nil w)⟩
  case round =>
    obtain ⟨k, Ao, co, hk, rfl, rfl, HN⟩ := hrel
    by_cases hlt : k < n
    · have hltI : (k : Int) < (n : Int) := by omega
      go_wp2_with (refine wpl_build (by rfl) rfl ul_in info_in [.const (.int .i64 (-1))] (by rfl) (by rfl) (by decide) (f := intz) [-1] (by rfl) (fun _ => rfl) ?_)
      intro g3 w3 y1 xa lo1 r1; refine Lib.hid ?_
      have HN3 := Lib.hid (HN.out.x xa)
      have RV := Lib.hid r1
      clear y1 xa lo1 r1 HN
      go_wp2_with (refine wpl_append_at (by rfl) rfl ul_in info_in rfl rfl HN3.out.room rfl (Src.ofRd ul_in RV.out (fun _ => rfl)) (by simp only [maxLen]; omega) (by omega) ?_)
      intro A3 c3 w4 r3 ch3 ft3; refine Lib.hid ?_
      have HN4 : Hid (NwL intz w A3 (k + 1) c3 (List.replicate (k + 1) (-1)) w4) := Lib.hid (by
        rw [List.replicate_succ']
        exact HN3.out.more (Ext.refl _) (by simpa using r3) ch3 ft3)
      clear r3 ch3 ft3 HN3 RV
      go_wp2_with fail
      go_roundw
      case rel => exact ⟨k + 1, A3, c3, by omega, by go_num, rfl, HN4⟩
      case measure => simp [intOf]; omega
    · obtain rfl : n = k := by omega
      by_cases hbt : (b : Int) = t
      · have hbe : ((b : Int) == t) = true := by simp [hbt]
        have HF := Lib.hid HN.out
        have HQ : Hid (FrmP p n b t (List.replicate n (-1))) := Lib.hid (by unfold FrmP; rw [if_pos hbt])
        clear HN hbt
        go_wp2_with fail
        go_ret
        exact ⟨Ao, co, _, rfl, HQ.out, HF.out⟩
      · have hbe : ((b : Int) == t) = false := by simp [hbt]
        obtain ⟨g, o, _, rfl, _, c0⟩ := rd_get HN.out.room.rd hb
        have f0 := HN.out.room.frozenAt (k := b) (by have := HN.out.room.2.1; omega)
        have hbI : (b : Int) < (n : Int) := by omega
        have HN2 := Lib.hid (HN.out.set hb 0)
        have HQ := Lib.hid (FrI.start (E := EdW p t) hb)
        have HFP : Hid (∀ d, IsD (EdW p t) n b d → FrmP p n b t d) := Lib.hid (fun d hd => by unfold FrmP; rw [if_neg hbt]; exact hd)
        have HET : Hid (∀ u v, EdW p t u v → v < n) := Lib.hid (fun u v he => by have := edF_lt HP.out he.1; rw [Hpl.out] at this; exact this)
        have HS0 : Hid (NwL intz w (some ⟨g, o, none⟩) n co ((List.replicate n (-1 : Int)).set b 0) (wr.setCell ⟨g, o + b, none⟩ (.int .i64 0))) := HN2
        clear HN HN2 hbt
        go_wp2_with fail
        generalize wr.setCell ⟨g, o + b, none⟩ (.int .i64 0) = w5 at HS0 ⊢
        clear c0 f0
        go_loopw [9] (fun v9 wr => ∃ (m : Nat) (d : List Int), m ≤ n ∧ v9 = .int .i64 (m : Int) ∧ Hid (NwL intz w (some ⟨g, o, none⟩) n co d wr) ∧ Hid (FrI (EdW p t) n b m 0 0 d)) (fun v _ => n - (intOf v).toNat)
        case atStart => exact ⟨0, _, by omega, rfl, HS0, HQ⟩
        case round =>
          clear HS0 HQ
          obtain ⟨m, d, hm, rfl, HN, HQ⟩ := hrel
          by_cases hlm : m < n
          · have hmI : (m : Int) < (n : Int) := by omega
            go_wp2_with fail
            go_loopw [10] (fun v10 wr => ∃ (i : Nat) (d : List Int), i ≤ n ∧ v10 = .int .i64 (i : Int) ∧ Hid (NwL intz w (some ⟨g, o, none⟩) n co d wr) ∧ Hid (FrI (EdW p t) n b m i 0 d)) (fun v _ => n - (intOf v).toNat)
            case atStart => exact ⟨0, d, by omega, rfl, HN, HQ⟩
            case round =>
              clear HN HQ
              obtain ⟨i, d, hi, rfl, HN, HQ⟩ := hrel
              by_cases hli : i < n
              · have hiI : (i : Int) < (n : Int) := by omega
                obtain ⟨_, _, y, hh, hy, cy⟩ := rd_get HN.out.room.rd hli
                cases hh
                unfold intz at cy
                by_cases hym : y = (m : Int)
                · subst hym
                  have hme : ((m : Int) != (m : Int)) = false := by simp
                  have Hy := Lib.hid hy
                  clear hy
                  go_wp2_with fail
                  clear cy
                  go_loopw [11] (fun v11 wr => ∃ (k : Nat) (d : List Int), k ≤ n ∧ v11 = .int .i64 (k : Int) ∧ Hid (NwL intz w (some ⟨g, o, none⟩) n co d wr) ∧ Hid (FrI (EdW p t) n b m i k d) ∧ Hid (d[i]? = some (m : Int))) (fun v _ => n - (intOf v).toNat)
                  case atStart => exact ⟨0, d, by omega, rfl, HN, HQ, Hy⟩
                  case round =>
                    clear HN HQ Hy
                    obtain ⟨k, d, hk, rfl, HN, HQ, Hy⟩ := hrel
                    by_cases hlk : k < n
                    · have hkI : (k : Int) < (n : Int) := by omega
                      obtain ⟨_, _, z, hh, hz, cz⟩ := rd_get HN.out.room.rd hlk
                      cases hh
                      unfold intz at cz
                      have Hz := Lib.hid hz
                      clear hz
                      by_cases hz0 : z < 0
                      · by_cases hkt : (k : Int) = t
                        · have hke : ((k : Int) != t) = false := by simp [hkt]
                          have HQ2 := Lib.hid (HQ.out.keep (.inl (fun he => he.2 hkt)))
                          clear hkt HQ
                          go_wp2_with fail
                          go_roundw
                          case rel => exact ⟨k + 1, d, by omega, by go_num, HN, HQ2, Hy⟩
                          case measure => simp [intOf]; omega
                        · have hke : ((k : Int) != t) = true := by simp [hkt]
                          have HE := Lib.hid (HEd.out wr HN.out.ext i k hli hlk)
                          by_cases hq : k ∈ edF p i
                          · rw [decide_eq_true hq] at HE
                            have HQ2 := Lib.hid (HQ.out.set Hy.out Hz.out hz0 ⟨hq, hkt⟩)
                            have Hy2 : Hid ((d.set k ((m : Int) + 1))[i]? = some (m : Int)) := Lib.hid (by
                              have hne : k ≠ i := fun e => by subst e; rw [Hy.out] at Hz; have := Option.some.inj Hz.out; omega
                              rw [List.getElem?_set_ne hne]; exact Hy.out)
                            clear hq hkt HQ Hy Hz
                            go_wp2_with fail
                            refine HE.out.mono ?_; rintro e w6 ⟨rfl, e6⟩
                            have HN3 := Lib.hid (HN.out.x e6)
                            have HN4 := Lib.hid (HN3.out.set hlk ((m : Int) + 1))
                            obtain ⟨_, _, z', hh, hz', cz'⟩ := rd_get HN3.out.room.rd hlk
                            cases hh
                            have fz := HN3.out.room.frozenAt (k := k) (by have := HN3.out.room.2.1; omega)
                            clear e6 HN HE hz' HN3
                            go_wp2_with fail
                            go_roundw
                            case rel => exact ⟨k + 1, _, by omega, by go_num, HN4, HQ2, Hy2⟩
                            case measure => simp [intOf]; omega
                          · rw [decide_eq_false hq] at HE
                            have HQ2 := Lib.hid (HQ.out.keep (.inl (fun he => hq he.1)))
                            clear hq hkt HQ
                            go_wp2_with fail
                            refine HE.out.mono ?_; rintro e w6 ⟨rfl, e6⟩
                            have HN3 := Lib.hid (HN.out.x e6)
                            clear e6 HN HE
                            go_wp2_with fail
                            go_roundw
                            case rel => exact ⟨k + 1, d, by omega, by go_num, HN3, HQ2, Hy⟩
                            case measure => simp [intOf]; omega
                      · have HQ2 := Lib.hid (HQ.out.keep (.inr ⟨z, Hz.out, by omega⟩))
                        clear HQ
                        go_wp2_with fail
                        go_roundw
                        case rel => exact ⟨k + 1, d, by omega, by go_num, HN, HQ2, Hy⟩
                        case measure => simp [intOf]; omega
                    · obtain rfl : n = k := by omega
                      have HQ2 := Lib.hid (HQ.out.endk (fun v he => HET.out i v he))
                      clear HQ
                      go_wp2_with fail
                      go_roundw
                      case rel => exact ⟨i + 1, d, by omega, by go_num, HN, HQ2⟩
                      case measure => simp [intOf]; omega
                · have hme : (y != (m : Int)) = true := by simp [hym]
                  have HQ2 := Lib.hid (HQ.out.skip (fun e => by rw [hy] at e; exact hym (Option.some.inj e)))
                  clear hy hym HQ
                  go_wp2_with fail
                  go_roundw
                  case rel => exact ⟨i + 1, d, by omega, by go_num, HN, HQ2⟩
                  case measure => simp [intOf]; omega
              · obtain rfl : n = i := by omega
                have HQ2 := Lib.hid HQ.out.endi
                clear HQ
                go_wp2_with fail
                go_roundw
                case rel => exact ⟨m + 1, d, by omega, by go_num, HN, HQ2⟩
                case measure => simp [intOf]; omega
          · obtain rfl : n = m := by omega
            have HF := Lib.hid (HFP.out d HQ.out.isD)
            clear HQ
            go_wp2_with fail
            go_ret
            exact ⟨_, co, d, rfl, HF.out, HN.out⟩
theorem rdist_ (A : Option Addr) (n c : Nat) (p : List Ins) (w : World) (h : RdS 5 insC w A n p) (hp : RightP p) :
    Calls Try.prog 48 #[.slice A n c] w (DistP p n w) := by
  have HR := Lib.hid (rright_ A n c p w h)
  rw [decide_eq_true (rightP_iff.2 hp)] at HR
  have HF := Lib.hid (fun W (e : Ext w W) => rfrom_ A n c p 0 (-1) W (h.ext e) hp (by have := hp.pos; have := h.1; omega) (by omega) (by omega))
  clear h
  go_enter Try.func48, Try.ntmps48
  go_wp2_with fail
  refine HR.out.mono ?_; rintro e w1 ⟨rfl, e1⟩
  have E1 := Lib.hid e1
  clear e1
  go_wp2_with fail
  refine (HF.out w1 E1.out).mono ?_; rintro e w2 ⟨A2, c2, d, rfl, hd, hn⟩
  have HD := Lib.hid (frm_all hd)
  have HN := Lib.hid hn
  clear hd hn
  go_wp2_with fail
  go_ret2
  exact ⟨A2, c2, d, rfl, HD.out, HN.out.room, fun k hk => by have := HN.out.ft k hk; have := E1.out.size; omega, E1.out.t HN.out.ext⟩
theorem rdist_bad (A : Option Addr) (n c : Nat) (p : List Ins) (w : World) (h : RdS 5 insC w A n p) (h0 : (checkF p).2 ≠ 0) :
    Calls Try.prog 48 #[.slice A n c] w fun e w' => e = .returned (.tuple #[.slice none 0 0, .int .i64 160]) ∧ Ext w w' := by
  have HR := Lib.hid (rright_ A n c p w h)
  rw [decide_eq_false h0] at HR
  clear h h0
  go_enter Try.func48, Try.ntmps48
  go_wp2_with fail
  refine HR.out.mono ?_; rintro e w1 ⟨rfl, e1⟩
  have E1 := Lib.hid e1
  clear e1
  go_wp2_with fail
  go_ret2
  exact ⟨rfl, E1.out⟩
end Go.Proofs.Ytlneifgihdickaa
