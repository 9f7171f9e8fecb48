/- Fwrs: writes compares Write and Join with the reference and answers true. -/
import Derived.Test.YtippgnbmilnjbaaFjn
import Derived.Test.YtippgnbmilnjbaaFspo
namespace Go.Fx
open Go.RowKit
theorem jnF_len : ∀ (xs : List (List Nat)) (k : Nat) (out : List Nat), (jnF k xs out).1.length ≤ out.length + xs.length * 16387
  | [], k, out => by simp [jnF]
  | x :: r, k, out => by
    unfold jnF
    split
    · simp
    · next h =>
      refine Nat.le_trans (jnF_len r (k + 1) _) ?_
      have h2 := frF_len x
      have h3 := fmF_len x.length
      simp only [List.length_append, List.length_cons]
      omega
theorem wrF_len (x : List Nat) : (wrF x).1.length ≤ 16387 := by
  unfold wrF
  split
  · simp
  · have h2 := frF_len x
    have h3 := fmF_len x.length
    simp only
    omega
end Go.Fx
namespace Go.Proofs.Ytippgnbmilnjbaa
open Go.RowKit Go.Fx
theorem Reads.get_ {w : World} {ss : List Sl} {xss : List (List Nat)} (h : Reads w ss xss) {k : Nat} {s : Sl} {x : List Nat} (hs : ss[k]? = some s) (hx : xss[k]? = some x) : Rd u8v w s.A s.n x := by
  obtain ⟨y, h1, h2, _⟩ := h.at_ k s hs
  rw [hx] at h1
  cases h1
  exact h2
/-- What holds between two rounds of writes. -/
structure WrJ (w : World) (xss : List (List Nat)) (k : Nat) (Ao : Option Addr) (co : Nat) (os : List Sl) (wr : World) : Prop where
  lst : Lst w.heap.size wr Ao k co os (xss.take k)
  ext : Ext w wr
theorem WrJ.step {w wr w1 w2 w3 w6 w7 : World} {xss : List (List Nat)} {k n : Nat} {Ao A3 : Option Addr} {co c3 : Nat} {os : List Sl} {x f : List Nat} {nf : Nat} {s sf : Sl} (h : WrJ w xss k Ao co os wr) (hx : xss[k]? = some x) (hs : Cloned wr x n s w1) (e2 : Ext w1 w2)
    (r : Room w3 A3 (k + 1) c3 (os.map slv ++ [slv s])) (ch : Chg (foot Ao co) w2 w3) (ft : ∀ j, foot A3 c3 j → foot Ao co j ∨ w2.heap.size ≤ j) :
    Byt w3 s x ∧ (Ext w w3) ∧ (∀ w4, Cloned w3 f nf sf w4 → Ext w4 w6 → Chg (foot sf.A sf.c) w6 w7 → WrJ w xss (k + 1) A3 c3 (os ++ [s]) w7) := by
  have hz := h.ext.size
  have hz1 := hs.ext.size
  have hl1 := h.lst.ext hs.ext
  have hp := hl1.push (by omega) hs.byt (fun j hj => by
    have h1 := hs.new j hj
    exact ⟨by omega, fun h2 => by have := h.lst.lt (.inl h2); omega, fun h2 => by have := h.lst.lt (.inr h2); omega⟩) e2 r ch ft
  rw [← take_snoc hx] at hp
  have he3 : Ext w w3 := (h.ext.t (hs.ext.t e2)).trans (ch.below (h.ext.t (hs.ext.t e2)).size (fun j hj ht => by have := h.lst.new j (.inl ht); omega))
  refine ⟨(hs.byt.ext e2).chg ch (fun j hj ht => by have := hs.new j hj; have := h.lst.lt (.inl ht); omega), he3, fun w4 hf e6 ch7 => ?_⟩
  have hz4 := hf.ext.size
  have he6 := he3.t (hf.ext.t e6)
  have hz3 := he3.size
  refine ⟨((hp.ext hf.ext).ext e6).chg ch7 (fun j hj ht => by have := hp.lt hj; have := hf.new j ht; omega), he6.trans (ch7.below he6.size (fun j hj ht => by have := hf.new j ht; omega))⟩
set_option maxHeartbeats 2000000 in
theorem writes_ (A : Option Addr) (n c : Nat) (ss : List Sl) (xss : List (List Nat)) (w : World) (hr : Rd slv w A n ss) (hy : Reads w ss xss) (hn : n ≤ 1000) (hl : ∀ x ∈ xss, x.length ≤ 1000000) :
    Calls Try.prog 30 #[.slice A n c] w fun e w' => e = .returned (.bool true) ∧ Ext w w' := by
  have Hr := Lib.hid hr
  have Hy := Lib.hid hy
  have HL := Lib.hid hl
  have H0 : Hid (WrJ w xss 0 none 0 [] w) := Lib.hid ⟨Lst.nil, Ext.refl _⟩
  have Hnl : Hid (xss.length = n) := Lib.hid (by rw [← hy.len]; exact hr.1)
  clear hr hy hl
  go_enter Try.func30, Try.ntmps30
  go_wp2_with fail
  go_loopw [3, 19] (fun v i wr => ∃ (k : Nat) (Ao : Option Addr) (co : Nat) (os : List Sl), k ≤ n ∧ i = .int .i64 (k : Int) ∧ v = .slice Ao k co ∧ Hid (WrJ w xss k Ao co os wr)) (fun _ i _ => n - (intOf i).toNat)
  case atStart => exact ⟨0, none, 0, [], by omega, rfl, rfl, H0⟩
  case round =>
    clear H0
    obtain ⟨k, Ao, co, os, hk, rfl, rfl, HJ⟩ := hrel
    by_cases hlt : k < n
    · have hltI : (k : Int) < (n : Int) := by omega
      obtain ⟨b, o, s, rfl, _, hs, hc⟩ := (Hr.out.ext HJ.out.ext).at_ hlt
      obtain ⟨x, hx, hxr, hxl⟩ := (Hy.out.ext HJ.out.ext).at_ k s hs
      have hlen : s.n ≤ 1000000 := by rw [← hxr.1]; exact HL.out x (List.mem_of_getElem? hx)
      have HC := Lib.hid (clone_ s.A s.n s.c x wr hxr hxl (by omega))
      have Hx := Lib.hid hx
      have Hs := Lib.hid hs
      have Hxl := Lib.hid hxl
      unfold slv at hc
      clear hs hx hxr hxl
      go_wp2_with fail
      refine HC.out.mono ?_; rintro e w1 ⟨s0, rfl, hcl⟩
      have Hcl := Lib.hid hcl
      clear hcl
      unfold slv
      go_wp2_with (refine wpl_build (by rfl) rfl ul_bb info_bb [.tmp 26] (by rfl) (by rfl) (by decide) (f := slv) [s0] (by rfl) (fun _ => rfl) ?_)
      intro g w2 b2 e2 lo2 r2; refine Lib.hid ?_
      have hrm := (HJ.out.lst.ext (Hcl.out.ext.t e2)).room
      clear b2 lo2
      go_wp2_with (refine wpl_append_at (by rfl) rfl ul_bb info_bb rfl rfl hrm rfl (Src.ofRd ul_bb r2 (fun _ => rfl)) (by simp only [maxLen]; omega) (by omega) ?_)
      intro A3 c3 w3 r3 ch3 ft3; refine Lib.hid ?_
      have hst := fun sf w6 w7 => WrJ.step (f := (wrF x).1) (nf := (wrF x).1.length) (sf := sf) (w6 := w6) (w7 := w7) HJ.out Hx.out Hcl.out e2 r3 ch3 ft3
      have hs3 := (hst s0 w3 w3).1
      have E3 := Lib.hid (hst s0 w3 w3).2.1
      have Hst := Lib.hid (fun sf w6 w7 => (hst sf w6 w7).2.2)
      have HW1 := Lib.hid (write_ s0.A s0.n s0.c x w3 hs3.rd Hxl.out)
      unfold WriteP at HW1
      clear hst hs3 r3 ch3 ft3 hrm r2 e2
      go_wp2_with fail
      refine HW1.out.mono ?_; rintro e w4 ⟨f, rfl, hf⟩
      have Hf := Lib.hid hf
      clear hf
      have HW2 := Lib.hid (rwrite_ s.A s.n s.c x w4 ((Hy.out.ext (E3.out.t Hf.out.ext)).get_ Hs.out Hx.out) Hxl.out)
      unfold WriteP at HW2
      unfold slv
      go_wp2_with fail
      refine HW2.out.mono ?_; rintro e w5 ⟨f2, rfl, hf2⟩
      have Hf2 := Lib.hid hf2
      clear hf2
      have HE := Lib.hid (bytes_Equal f.A f2.A f.n f2.n f.c f2.c _ _ w5 (Hf.out.byt.ext Hf2.out.ext).rd Hf2.out.byt.rd Hf.out.byt.lt Hf2.out.byt.lt)
      rw [decide_eq_true (rfl : (wrF x).1 = (wrF x).1)] at HE
      generalize (wrF x).2 = er
      unfold slv
      go_wp2_with fail
      refine HE.out.mono ?_; rintro e w5' ⟨rfl, rfl⟩
      go_wp2_with (refine wpl_build (by rfl) rfl ul_bb info_bb [.tmp 48] (by rfl) (by rfl) (by decide) (f := slv) [f] (by rfl) (fun _ => rfl) ?_)
      intro g6 w6 b6 e6 lo6 _; refine Lib.hid ?_
      have hf6 := Hf.out.byt.ext (Hf2.out.ext.t e6)
      have HSP := Lib.hid (spoil1 g6 _ f (wrF x).1 w6 b6 hf6 (fun hf => by have := Hf.out.byt.room.lt hf; have := Hf2.out.ext.size; omega) (by rw [Hf.out.n_]; have := wrF_len x; omega))
      have E6 := Lib.hid e6
      clear b6 hf6 e6 lo6
      go_wp2_with fail
      refine HSP.out.mono ?_; rintro e w7 ⟨rfl, ch7⟩
      have Hn := Lib.hid (Hst.out f w6 w7 w4 Hf.out (Hf2.out.ext.t E6.out) ch7)
      clear ch7
      go_wp2_with fail
      go_roundw
      case rel => exact ⟨k + 1, A3, c3, os ++ [s0], by omega, by go_num, rfl, Hn⟩
      case measure => simp [intOf]; omega
    · obtain rfl : n = k := by omega
      have hJ := HJ.out
      have hL := hJ.lst
      rw [List.take_of_length_le (by rw [Hnl.out]; exact Nat.le_refl _)] at hL
      have HLs := Lib.hid hL
      have E1 := Lib.hid hJ.ext
      clear hJ hL HJ
      have HJ1 := Lib.hid (join_ Ao n co os xss wr HLs.out.rd (Reads.of HLs.out.byt) (by omega))
      unfold JoinP at HJ1
      go_wp2_with fail
      refine HJ1.out.mono ?_; rintro e w1 ⟨f, rfl, hf⟩
      have Hf := Lib.hid hf
      clear hf
      have HJ2 := Lib.hid (rjoin_ A n c ss xss w1 (Hr.out.ext (E1.out.t Hf.out.ext)) (Hy.out.ext (E1.out.t Hf.out.ext)) (by omega))
      unfold JoinP at HJ2
      unfold slv
      go_wp2_with fail
      refine HJ2.out.mono ?_; rintro e w2 ⟨f2, rfl, hf2⟩
      have Hf2 := Lib.hid hf2
      clear hf2
      have HE := Lib.hid (bytes_Equal f.A f2.A f.n f2.n f.c f2.c _ _ w2 (Hf.out.byt.ext Hf2.out.ext).rd Hf2.out.byt.rd Hf.out.byt.lt Hf2.out.byt.lt)
      rw [decide_eq_true (rfl : (jnF 0 xss []).1 = (jnF 0 xss []).1)] at HE
      generalize (jnF 0 xss []).2.2 = er
      generalize (jnF 0 xss []).2.1 = ix
      unfold slv
      go_wp2_with fail
      refine HE.out.mono ?_; rintro e w2' ⟨rfl, rfl⟩
      go_wp2_with (refine wpl_build (by rfl) rfl ul_bb info_bb [.tmp 78] (by rfl) (by rfl) (by decide) (f := slv) [f] (by rfl) (fun _ => rfl) ?_)
      intro g6 w6 b6 e6 lo6 _; refine Lib.hid ?_
      have hf6 := Hf.out.byt.ext (Hf2.out.ext.t e6)
      have HSP := Lib.hid (spoil1 g6 _ f (jnF 0 xss []).1 w6 b6 hf6 (fun hf => by have := Hf.out.byt.room.lt hf; have := Hf2.out.ext.size; omega) (by rw [Hf.out.n_]; have := jnF_len xss 0 []; rw [Hnl.out] at this; simp only [List.length_nil] at this; omega))
      have E6 := Lib.hid e6
      clear b6 hf6 e6 lo6
      go_wp2_with fail
      refine HSP.out.mono ?_; rintro e w7 ⟨rfl, ch7⟩
      have hE6 := E1.out.t (Hf.out.ext.t (Hf2.out.ext.t E6.out))
      have hz1 := E1.out.size
      have hE7 : Ext w w7 := hE6.trans (ch7.below hE6.size (fun j hj ht => by have := Hf.out.new j ht; omega))
      have hL7 : Lst w.heap.size w7 Ao n co os xss := (HLs.out.ext (Hf.out.ext.t (Hf2.out.ext.t E6.out))).chg ch7 (fun j hj ht => by have := HLs.out.lt hj; have := Hf.out.new j ht; omega)
      have HQ := Lib.hid (equal_ Ao A n n co c os ss xss xss w7 hL7.rd (Reads.of hL7.byt) (Hr.out.ext hE7) (Hy.out.ext hE7) hL7.le (by simp only [maxLen]; omega))
      rw [decide_eq_true (rfl : xss = xss)] at HQ
      have HE7 := Lib.hid hE7
      clear hE6 hz1 hE7 hL7 ch7
      go_wp2_with fail
      refine HQ.out.mono ?_; rintro e w8 ⟨rfl, rfl⟩
      go_wp2_with fail
      go_ret
      exact ⟨rfl, HE7.out⟩
end Go.Proofs.Ytippgnbmilnjbaa
