/- Frd: reads compares with the reference and answers true. -/
import Derived.Test.YtippgnbmilnjbaaFrf
import Derived.Test.YtippgnbmilnjbaaFspo
namespace Go.Fx
open Go.RowKit
theorem quiet_left {P : Program} {f : FuncId} {args : Array Value} {w : World} {n : Nat} {v : Value}
    (h : Calls P f args (w.drewN n) fun e w' => e = .returned v ∧ w.drewN n = w') : Calls P f args (w.drewN n) fun e w'' => e = .returned v ∧ ∃ m, w'' = w.drewN m :=
  h.mono fun _ _ ⟨he, hm⟩ => ⟨he, n, hm.symm⟩
theorem quiet_add_left {P : Program} {f : FuncId} {args : Array Value} {w : World} {a n : Nat} {v : Value}
    (h : Calls P f args (w.drewN (a + n)) fun e w' => e = .returned v ∧ w.drewN (a + n) = w') :
    Calls P f args (w.drewN (a + n)) fun e w'' => e = .returned v ∧ ∃ m, w'' = w.drewN (a + m) :=
  h.mono fun _ _ ⟨he, hm⟩ => ⟨he, n, hm.symm⟩
theorem Lst.stay {B : Nat} {w w' : World} {A : Option Addr} {n c : Nat} {os : List Sl} {xss : List (List Nat)} {T : Nat → Prop} (h : Lst B w A n c os xss) (ch : Chg T w w') (hT : ∀ k, T k → k < B) : Lst B w' A n c os xss := h.chg ch (fun k hk ht => by have := h.new k hk; have := hT k ht; omega)
end Go.Fx
namespace Go.Proofs.Ytippgnbmilnjbaa
open Go.RowKit Go.Fx
theorem bb_fromI {A : Option Addr} {n c lo : Nat} {li : Int} (w : World) (e1 : li = (lo : Int)) (h1 : lo ≤ n) :
    (Instr.sliceAt 25 (.slice A n c) (some (.int .i64 li)) none none).run Try.prog w = .ok (.slice (from_ A c lo) (n - lo) (c - lo)) w := by
  subst e1; exact bb_from A n c lo w h1
/-- The lists that reads compares. -/
structure RdL (w : World) (Al : Option Addr) (nl cl : Nat) (os : List Sl) (Ar : Option Addr) (cr : Nat) (or : List Sl) (bs : List (List Nat)) : Prop where
  r1 : Rd slv w Al nl os
  r2 : Rd slv w Ar nl or
  y2 : Reads w or bs
  c1 : nl ≤ cl
  c2 : nl ≤ cr
  m1 : cl ≤ maxLen
  m2 : cr ≤ maxLen
  s1 : ∀ k o, Al = some ⟨k, o, none⟩ → 0 < nl → ¬ foots os k
  s2 : ∀ k o, Ar = some ⟨k, o, none⟩ → 0 < nl → ¬ foots os k
  s3 : ∀ (i : Nat) s, or[i]? = some s → ∀ k o, s.A = some ⟨k, o, none⟩ → 0 < s.n → ¬ foots os k
theorem RdL.chg {w w' : World} {Al : Option Addr} {nl cl : Nat} {os : List Sl} {Ar : Option Addr} {cr : Nat} {or : List Sl} {bs : List (List Nat)} (h : RdL w Al nl cl os Ar cr or bs) (ch : Chg (foots os) w w') : RdL w' Al nl cl os Ar cr or bs :=
  ⟨h.r1.chg ch h.s1, h.r2.chg ch h.s2, ⟨h.y2.len, fun i s hs => by obtain ⟨xs, h1, h2, h3⟩ := h.y2.at_ i s hs; exact ⟨xs, h1, h2.chg ch (h.s3 i s hs), h3⟩⟩, h.c1, h.c2, h.m1, h.m2, h.s1, h.s2, h.s3⟩
set_option maxRecDepth 100000 in
set_option maxHeartbeats 4000000 in
theorem reads_ (A : Option Addr) (n c : Nat) (b : List Nat) (w : World) (h : Rd u8v w A n b) (hb : ∀ x ∈ b, x < 256) (hc : n ≤ c) (hn : n ≤ 1000000) :
    Calls Try.prog 22 #[.slice A n c] w fun e w' => e = .returned (.bool true) ∧ Ext w w' := by
  have H := Lib.hid h
  have Hb := Lib.hid hb
  clear h hb
  go_enter Try.func22, Try.ntmps22
  go_wp2_with fail
  refine (clone_ A n c b w H.out Hb.out (by omega)).mono ?_; rintro e w1 ⟨s0, rfl, h0⟩
  have H0 := Lib.hid h0
  have hs0 : s0.n ≤ 1000000 := by rw [h0.n_]; exact hn
  clear h0
  unfold slv
  go_wp2_with fail
  refine (read_ s0.A s0.n s0.c b w1 H0.out.byt.rd Hb.out H0.out.byt.room.2.1 H0.out.byt.room.2.2.1 (by omega)).mono ?_; rintro e w2 ⟨sx, rfl, hx⟩
  have Hx := Lib.hid hx
  have E2 := Lib.hid (H0.out.ext.t hx.ext)
  clear hx
  unfold slv
  go_wp2_with fail
  refine (rread_ A n c b w2 (H.out.ext E2.out) Hb.out hc (by omega)).mono ?_; rintro e w3 ⟨sy, rfl, hy⟩
  have Hy := Lib.hid hy
  have E3 := Lib.hid (E2.out.t hy.ext)
  clear hy
  unfold slv
  go_wp2_with fail
  refine (need_ s0.A s0.n s0.c b w3 (H0.out.byt.ext (Hx.out.ext.t Hy.out.ext)).rd Hb.out (by omega)).mono ?_; rintro e w4 ⟨he, rfl⟩
  unfold NeedP at he
  subst he
  go_wp2_with fail
  refine (rneed_ A n c b w3 (H.out.ext E3.out) Hb.out (by omega)).mono ?_; rintro e w4 ⟨he, e4⟩
  unfold NeedP at he
  subst he
  have E34 := Lib.hid e4
  have E4 := Lib.hid (E3.out.t e4)
  clear e4
  go_wp2_with fail
  refine (split_ s0.A s0.n s0.c b w4 (H0.out.byt.ext ((Hx.out.ext.t Hy.out.ext).t E34.out)).rd Hb.out H0.out.byt.room.2.1 H0.out.byt.room.2.2.1 (by omega)).mono ?_; rintro e w5 ⟨Al, nl, cl, os, rfl, hl, e5⟩
  have Hl := Lib.hid hl
  have E45 := Lib.hid e5
  have E5 := Lib.hid (E4.out.t e5)
  clear hl e5
  go_wp2_with fail
  refine (rsplit_ A n c b w5 (H.out.ext E5.out) Hb.out hc (by omega)).mono ?_; rintro e w6 ⟨Ar, nr, cr, or, rfl, hr, e6⟩
  obtain rfl : nr = nl := by rw [hr.n_, Hl.out.n_]
  have Hr := Lib.hid hr
  have E56 := Lib.hid e6
  have E6 := Lib.hid (E5.out.t e6)
  have hnl : nr ≤ 1000000 := by rw [hr.n_]; have := splF_bodies b; have := H.out.1; omega
  clear hr e6
  generalize hq1 : (rdF b).2.1 = q1
  generalize hq2 : (rdF b).2.2 = q2
  generalize (ndF b).1 = q3
  generalize (ndF b).2 = q4
  generalize b.length - (splF b).2.length = q5
  generalize erF (splF b).2 = q6
  clear hq1 hq2
  have HQ1 := Lib.hid (bytes_Equal sx.A sy.A sx.n sy.n sx.c sy.c _ _ w6 (Hx.out.byt.ext ((Hy.out.ext.t E34.out).t (E45.out.t E56.out))).rd (Hy.out.byt.ext (E34.out.t (E45.out.t E56.out))).rd Hx.out.byt.lt Hy.out.byt.lt)
  rw [decide_eq_true (rfl : (rdF b).1 = (rdF b).1)] at HQ1
  have HQ2 := Lib.hid (equal_ Al Ar nr nr cl cr os or _ _ w6 (Hl.out.ext E56.out).rd (Reads.of (Hl.out.ext E56.out).byt) Hr.out.rd (Reads.of Hr.out.byt) Hl.out.le Hr.out.le)
  rw [decide_eq_true (rfl : (splF b).1 = (splF b).1)] at HQ2
  go_wp2_with fail
  refine HQ1.out.mono ?_; rintro e w7 ⟨rfl, rfl⟩
  go_wp2_with fail
  refine HQ2.out.mono ?_; rintro e w7 ⟨rfl, rfl⟩
  clear HQ1 HQ2
  go_wp2_with (refine wpl_build (by rfl) rfl ul_bb info_bb [.tmp 97] (by rfl) (by rfl) (by decide) (f := slv) [sx] (by rfl) (fun _ => rfl) ?_)
  intro g w7 b7 e7 lo7 _; refine Lib.hid ?_
  have hsx7 := Hx.out.byt.ext (((Hy.out.ext.t E34.out).t (E45.out.t E56.out)).t e7)
  have HSP := Lib.hid (spoil1 g _ sx (rdF b).1 w7 b7 hsx7 (fun hf => by have := Hx.out.byt.room.lt hf; have := Hy.out.ext.size; have := E34.out.size; have := E45.out.size; have := E56.out.size; omega) (by rw [Hx.out.n_]; have := H.out.1; by_cases he : (rdF b).2.2 = 0; (have := rdF_n he; omega); (rw [(rdF_zero he).1]; simp)))
  have E67 := Lib.hid e7
  clear b7 hsx7 e7 lo7
  go_wp2_with fail
  refine HSP.out.mono ?_; rintro e w8 ⟨rfl, ch8⟩
  have hz : w.heap.size ≤ w1.heap.size ∧ w1.heap.size ≤ w2.heap.size ∧ w2.heap.size ≤ w3.heap.size ∧ w3.heap.size ≤ w4.heap.size ∧ w4.heap.size ≤ w5.heap.size ∧ w5.heap.size ≤ w6.heap.size ∧ w6.heap.size ≤ w7.heap.size := ⟨H0.out.ext.size, Hx.out.ext.size, Hy.out.ext.size, E34.out.size, E45.out.size, E56.out.size, E67.out.size⟩
  have hxn : ∀ k, foot sx.A sx.c k → w1.heap.size ≤ k ∧ k < w2.heap.size := fun k hk => ⟨Hx.out.new k hk, Hx.out.byt.room.lt hk⟩
  have hl8 : Lst w4.heap.size w8 Al nr cl os (splF b).1 := ((Hl.out.ext E56.out).ext E67.out).stay ch8 (fun k hk => by have := hxn k hk; omega)
  have hr8 : Lst w5.heap.size w8 Ar nr cr or (splF b).1 := (Hr.out.ext E67.out).stay ch8 (fun k hk => by have := hxn k hk; omega)
  have hol : ∀ k, foots os k → k < w5.heap.size := fun k hk => Hl.out.lt (.inr hk)
  have HR : Hid (RdL w8 Al nr cl os Ar cr or (splF b).1) := Lib.hid
    ⟨hl8.rd, hr8.rd, Reads.of hr8.byt, hl8.room.2.1, hr8.room.2.1, hl8.room.2.2.1, hr8.room.2.2.1, fun k o h1 h2 h3 => hl8.sep k h3 ⟨by have := hl8.room.2.1; omega, o, h1⟩,
      fun k o h1 h2 h3 => by
        have := hr8.new k (.inl ⟨by have := hr8.room.2.1; omega, o, h1⟩)
        have := hol k h3
        omega,
      fun i s hs k o h1 h2 h3 => by
        obtain ⟨xs, hx1, hx2⟩ := hr8.byt.at_ i s hs
        have := hr8.new k (.inr ⟨s, List.mem_of_getElem? hs, by have := hx2.room.2.1; omega, o, h1⟩)
        have := hol k h3
        omega⟩
  have hE8 : Ext w w8 := (E6.out.t E67.out).trans (ch8.below (E6.out.t E67.out).size (fun k hk hk2 => by have := hxn k hk2; omega))
  have hs8 : Byt w8 s0 b := (H0.out.byt.ext ((Hx.out.ext.t Hy.out.ext).t (E34.out.t (E45.out.t (E56.out.t E67.out))))).chg ch8 (fun k hk hk2 => by have := hxn k hk2; have := H0.out.byt.room.lt hk; omega)
  have HS8 : Hid (Byt w8 s0 b ∧ (∀ k, foot s0.A s0.c k → ¬ foots os k) ∧ (∀ k, foots os k → w.heap.size ≤ k)) := Lib.hid ⟨hs8, fun k hk hk2 => by have := H0.out.byt.room.lt hk; have := hl8.new k (.inr hk2); omega, fun k hk => by have := hl8.new k (.inr hk); omega⟩
  have HE8 := Lib.hid hE8
  have HY : Hid (Byts w8 os (splF b).1) := Lib.hid hl8.byt
  have HA : Hid (Apart os ∧ os.length = nr ∧ (∀ k, foots os k → k < w8.heap.size)) := Lib.hid ⟨hl8.ap, hl8.len, fun k hk => hl8.lt (.inr hk)⟩
  have HBn : Hid (∀ l ∈ (splF b).1, l.length ≤ 1000000) := Lib.hid (fun l hl => by have := ((splF_mem Hb.out).2 l hl).2; have := H.out.1; omega)
  clear hz hxn hl8 hr8 hol hE8 hs8 ch8 HSP E67 Hl Hr E45 E56 E5 E6 Hx Hy E2 E3 E34 E4 H0
  generalize (splF b).1 = bs at *
  go_wp2_with fail
  go_loopw [102] (fun i wr => ∃ (k : Nat), k ≤ nr ∧ i = .int .i64 (k : Int) ∧ Hid (Chg (foots os) w8 wr ∧ Byts wr (os.drop k) (bs.drop k))) (fun i _ => nr - (intOf i).toNat)
  case atStart => exact ⟨0, by omega, rfl, Lib.hid ⟨Chg.refl _ _, HY.out⟩⟩
  case round =>
    clear HY
    obtain ⟨k, hk, rfl, HK⟩ := hrel
    by_cases hlt : k < nr
    · have hltI : (k : Int) < (nr : Int) := by omega
      have hR := HR.out.chg HK.out.1
      obtain ⟨bl, ol, s, hAl, _, hs, hcl⟩ := hR.r1.at_ hlt
      obtain ⟨x, hx0, hbx⟩ := HK.out.2.at_ 0 s (by rw [List.getElem?_drop]; simpa using hs)
      have hx : bs[k]? = some x := by rw [List.getElem?_drop] at hx0; simpa using hx0
      have hsn : s.n ≤ 1000000 := by
        have h1 : s.n = x.length := by have := hbx.room.1; simpa using this.symm
        rw [h1]; exact HBn.out x (List.mem_of_getElem? hx)
      have Hs := Lib.hid hs
      have Hx := Lib.hid hx
      have Hbx := Lib.hid hbx
      have hsl1 := fun w' => bb_fromI (A := Al) (n := nr) (c := cl) (lo := k + 1) (li := (k : Int) + 1) w' (by omega) (by omega)
      have hsl2 := fun w' => bb_fromI (A := Ar) (n := nr) (c := cr) (lo := k + 1) (li := (k : Int) + 1) w' (by omega) (by omega)
      unfold slv at hcl
      clear hR hs hx0 hx hbx
      rw [hAl] at hsl1 ⊢
      have HAl := Lib.hid hAl
      clear hAl
      go_wp2_with (refine wpl_build (by rfl) rfl ul_bb info_bb [.tmp 108] (by rfl) (by rfl) (by decide) (f := slv) [s] (by rfl) (fun _ => rfl) ?_)
      intro g w9 b9 e9 lo9 _; refine Lib.hid ?_
      have HSP := Lib.hid (spoil1 g _ s x w9 b9 (Hbx.out.ext e9) (fun hf => by have := Hbx.out.room.lt hf; omega) (by omega))
      have E9 := Lib.hid e9
      clear b9 e9 lo9
      go_wp2_with fail
      refine HSP.out.mono ?_; rintro e w10 ⟨rfl, ch10⟩
      have hdr : os.drop k = s :: os.drop (k + 1) := by
        obtain ⟨h, e⟩ := List.getElem?_eq_some_iff.1 Hs.out
        rw [List.drop_eq_getElem_cons h, e]
      have hgr : bs.drop k = x :: bs.drop (k + 1) := by
        obtain ⟨h, e⟩ := List.getElem?_eq_some_iff.1 Hx.out
        rw [List.drop_eq_getElem_cons h, e]
      have h4 := HK.out.2
      rw [hdr, hgr] at h4
      have hap : Apart (s :: os.drop (k + 1)) := by
        rw [← hdr]; exact List.Pairwise.drop HA.out.1
      have hfin : Chg (foots os) w8 w10 ∧ Byts w10 (os.drop (k + 1)) (bs.drop (k + 1)) :=
        ⟨(HK.out.1.e E9.out).trans ch10 (fun i _ hT => ⟨s, List.mem_of_getElem? Hs.out, hT⟩), (h4.tail.2.ext E9.out).chg ch10 (fun i hi h => (apart_cons hap).1 i h hi)⟩
      have Hfin := Lib.hid hfin
      have hR10 := HR.out.chg hfin.1
      have HQ := Lib.hid (fun w' (e : Ext w10 w') => equal_ (from_ Al cl (k + 1)) (from_ Ar cr (k + 1)) (nr - (k + 1)) (nr - (k + 1)) (cl - (k + 1)) (cr - (k + 1)) (os.drop (k + 1)) (or.drop (k + 1)) (bs.drop (k + 1)) (bs.drop (k + 1)) w'
        ((hR10.r1.from_ (by omega) hR10.c1).ext e) ((Reads.of hfin.2).ext e) ((hR10.r2.from_ (by omega) hR10.c2).ext e) ((hR10.y2.drop (k + 1)).ext e) (by have := hR10.c1; have := hR10.m1; omega) (by have := hR10.c2; have := hR10.m2; omega))
      rw [decide_eq_true (rfl : bs.drop (k + 1) = bs.drop (k + 1)), HAl.out] at HQ
      have hw1 : IntKind.i64.wrap ((k : Int) + 1) = (k : Int) + 1 := IntWalk.i64_in _ (by omega)
      clear hdr hgr h4 hap hfin hR10 ch10 HSP HK
      go_upto_region 15 with fail
      go_quiet ((go_at_call 21; first | exact quiet_left (HQ.out _ (Ext.drewN _ _)) | exact quiet_add_left (HQ.out _ (Ext.drewN _ _))))
      go_wp2_with fail
      go_roundw
      case rel => exact ⟨k + 1, by omega, by go_num, Lib.hid ⟨Hfin.out.1.e (Ext.drewN _ _), Hfin.out.2.ext (Ext.drewN _ _)⟩⟩
      case measure => simp [intOf]; omega
    · obtain rfl : nr = k := by omega
      have hE : Ext w wr := HE8.out.trans (HK.out.1.below HE8.out.size (fun k hk hk2 => by have := HS8.out.2.2 k hk2; omega))
      have HF := Lib.hid (bytes_Equal s0.A A s0.n n s0.c c b b wr (HS8.out.1.chg HK.out.1 HS8.out.2.1).rd (H.out.ext hE) Hb.out Hb.out)
      rw [decide_eq_true (rfl : b = b)] at HF
      have HE := Lib.hid hE
      clear hE
      go_wp2_with fail
      refine HF.out.mono ?_; rintro e w9 ⟨rfl, rfl⟩
      go_wp2_with fail
      go_ret
      exact ⟨rfl, HE.out⟩
end Go.Proofs.Ytippgnbmilnjbaa
