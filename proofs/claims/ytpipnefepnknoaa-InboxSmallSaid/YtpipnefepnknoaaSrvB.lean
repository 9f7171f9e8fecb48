/- The server's Begin and Turn. -/
import Derived.Test.YtpipnefepnknoaaSrv
namespace Go.Proofs.Ytpipnefepnknoaa
open Go.RowKit Go.Fx

/-- What a call of the server leaves: it is done (ok), or it is not. -/
structure Served (w : World) (sv : Nat) (F R C : Sl) (T : Nat → Prop) (fr : List Nat) (left : Int) (calls : List Nat) (w' : World) (F' R' C' : Sl) : Prop where
  srv : Srv w' sv F' R' C' fr left calls
  chg : Chg (fun k => srvF sv F R C k ∨ T k) w w'
  new : ∀ k, srvF sv F' R' C' k → srvF sv F R C k ∨ w.heap.size ≤ k

/-- The answer of a call: the bytes if it is done, something if it is not. -/
def Answer (w' : World) (done : Bool) (fr : List Nat) (R' : Sl) (e : Ending) : Prop :=
  (done = false ∧ ∃ A n cc, e = .returned (.tuple #[.slice A n cc, .bool false])) ∨ (done = true ∧ e = .returned (.tuple #[slv R', .bool true]) ∧ Byt w' R' fr)

theorem Answer.one {w' : World} {done : Bool} {fr : List Nat} {R' : Sl} {e : Ending} (h : Answer w' done fr R' e) : ∃ r : Sl, e = .returned (.tuple #[.slice r.A r.n r.c, .bool done]) ∧ (done = true → r = R' ∧ Byt w' R' fr) := by
  rcases h with ⟨rfl, A, n, cc, rfl⟩ | ⟨rfl, rfl, hb⟩
  · exact ⟨⟨A, n, cc⟩, rfl, fun h => by cases h⟩
  · exact ⟨R', rfl, fun _ => ⟨rfl, hb⟩⟩
/-- .. as one word. -/
def ServedP (w : World) (sv : Nat) (F R C : Sl) (T : Nat → Prop) (fr : List Nat) (left : Int) (calls : List Nat) (done : Bool) (e : Ending) (w' : World) : Prop :=
  ∃ F' R' C', Answer w' done fr R' e ∧ Served w sv F R C T fr left calls w' F' R' C'

theorem told_ (sv : Nat) (F R C : Sl) (fr : List Nat) (left : Int) (calls : List Nat) (c d : Nat) (w : World) (h : Srv w sv F R C fr left calls) (hc : c < 256) (hcd : (c : Int) - 32 = (d : Int)) (hn : calls.length ≤ 1000000000) (hfn : fr.length ≤ 1000000000) :
    Calls Try.prog 56 #[.pointer (some ⟨sv, 0, none⟩), .int .u8 (c : Int)] w fun e w' => ∃ R' C', Answer w' (decide (left ≤ 0)) fr R' e ∧ Served w sv F R C (fun _ => False) fr left (calls ++ [if left ≤ 0 then d else c]) w' F R' C' := by
  by_cases hl : left ≤ 0
  · rw [if_pos hl]
    refine (told_1 sv F R C fr left calls c d w h hl hc hcd hn hfn).mono ?_
    rintro e w' ⟨R', C', rfl, ht⟩
    exact ⟨R', C', .inr ⟨by simpa using hl, rfl, ht.rep⟩, ht.srv, ht.chg.mono (fun k _ hk => .inl hk), ht.new⟩
  · rw [if_neg hl]
    refine (told_0 sv F R C fr left calls c w h (by omega) hc hn).mono ?_
    rintro e w' ⟨A, n, cc, C', rfl, ht⟩
    exact ⟨R, C', .inl ⟨by simpa using hl, A, n, cc, rfl⟩, ht.srv, ht.chg.mono (fun k _ hk => .inl hk), ht.new⟩

set_option maxHeartbeats 1000000 in
theorem srv_Turn (sv : Nat) (F R C : Sl) (fr : List Nat) (left : Int) (calls : List Nat) (w : World) (h : Srv w sv F R C fr left calls) (hl1 : 0 ≤ left) (hl2 : left ≤ 100) (hn : calls.length ≤ 1000000000) (hfn : fr.length ≤ 1000000000) :
    Calls Try.prog 55 #[.pointer (some ⟨sv, 0, none⟩)] w (ServedP w sv F R C (fun _ => False) fr (left - 1) (calls ++ [if left - 1 ≤ 0 then 84 else 116]) (decide (left - 1 ≤ 0))) := by
  obtain ⟨c0, c1, c2, c3⟩ := h.blk.c0
  obtain ⟨f0, f1, f2, f3⟩ := h.blk.f0
  have b1 := h.blk.s1 (.int .i64 (left - 1))
  have ch1 : Chg (fun k => k = sv) w (w.setCell ⟨sv, 1, none⟩ (.int .i64 (left - 1))) := Chg.set _ _ _ _ rfl
  have h1 : Srv (w.setCell ⟨sv, 1, none⟩ (.int .i64 (left - 1))) sv F R C fr (left - 1) calls :=
    ⟨b1, h.frm.chg ch1 (fun k hk => (h.d1 k hk).1), (by obtain ⟨old, ho⟩ := h.rep; exact ⟨old, ho.chg ch1 (fun k hk => (h.d2 k hk).1)⟩), h.cal.chg ch1 (fun k hk => h.d3 k hk), h.d1, h.d2, h.d3⟩
  have HT := Lib.hid (told_ sv F R C fr (left - 1) calls 116 84 _ h1 (by omega) (by omega) hn hfn)
  have Hch := Lib.hid ch1
  clear h h1 ch1 b1 hn hfn
  generalize hcl : calls ++ [if left - 1 ≤ 0 then 84 else 116] = cl at *
  generalize hdn : decide (left - 1 ≤ 0) = dn at *
  clear hcl hdn
  go_enter Try.func55, Try.ntmps55
  go_wp2_with fail
  refine HT.out.mono ?_
  rintro e w2 ⟨R', C', ha, hs⟩
  have Hs := Lib.hid hs
  clear hs
  rcases ha with ⟨hd, A, n, cc, rfl⟩ | ⟨hd, rfl, hb⟩
  · have Hd := Lib.hid hd
    clear hd
    go_wp2_with fail
    go_ret2
    exact ⟨F, R', C', .inl ⟨Hd.out, A, n, cc, rfl⟩, Hs.out.srv, (Hch.out.mono (fun k _ hk => .inl (.inl hk))).t Hs.out.chg, fun k hk => by
      rcases Hs.out.new k hk with h | h
      · exact .inl h
      · rw [setCell_size] at h; exact .inr h⟩
  · have Hd := Lib.hid hd
    have Hb := Lib.hid hb
    clear hd hb
    unfold slv
    go_wp2_with fail
    go_ret2
    exact ⟨F, R', C', .inr ⟨Hd.out, rfl, Hb.out⟩, Hs.out.srv, (Hch.out.mono (fun k _ hk => .inl (.inl hk))).t Hs.out.chg, fun k hk => by
      rcases Hs.out.new k hk with h | h
      · exact .inl h
      · rw [setCell_size] at h; exact .inr h⟩

set_option maxHeartbeats 1000000 in
theorem srv_Begin (sv : Nat) (F R C f : Sl) (fr xs : List Nat) (left : Int) (calls : List Nat) (w : World) (h : Srv w sv F R C fr left calls) (hf : Byt w f xs) (hd : ∀ k, foot f.A f.c k → ¬ srvF sv F R C k) (hn : calls.length ≤ 1000000000) (hfn : xs.length ≤ 1000000000) :
    Calls Try.prog 54 #[.pointer (some ⟨sv, 0, none⟩), .slice f.A f.n f.c] w (ServedP w sv F R C (foot f.A f.c) xs (needs xs : Nat) (calls ++ [if ((needs xs : Nat) : Int) ≤ 0 then 66 else 98]) (decide (((needs xs : Nat) : Int) ≤ 0))) := by
  have hfl : f.n = xs.length := by have := hf.room.1; simpa using this.symm
  have hfn2 : f.n ≤ 1000000000 := by omega
  have Hfl := Lib.hid hfl
  clear hfl
  have HC := Lib.hid (bytes_Clone f.A f.n f.c xs w hf.rd hf.lt (by omega))
  have HN := Lib.hid (fun w' (e : Ext w w') => needs_ f.A f.n f.c xs w' (hf.rd.ext e) hf.lt)
  have hnl := needs_lt xs
  have HT := Lib.hid (fun s w2 h3 => told_ sv s R C xs (needs xs : Nat) calls 98 66 w2 h3 (by omega) (by omega) hn hfn)
  generalize hcl : calls ++ [if ((needs xs : Nat) : Int) ≤ 0 then 66 else 98] = cl at *
  generalize hdn : decide (((needs xs : Nat) : Int) ≤ 0) = dn at *
  clear hcl hdn hn hfn
  go_enter Try.func54, Try.ntmps54
  go_wp2_with fail
  refine HC.out.mono ?_
  rintro e w1 ⟨s, rfl, hc⟩
  have h1 := h.ext hc.ext
  obtain ⟨c0, c1, c2, c3⟩ := h1.blk.c0
  obtain ⟨f0, f1, f2, f3⟩ := h1.blk.f0
  have Hc := Lib.hid hc
  clear hc
  unfold slv
  go_wp2_with fail
  refine (HN.out w1 Hc.out.ext).mono ?_
  rintro e w2 ⟨rfl, rfl⟩
  have hsv : sv < w.heap.size := h.blk.lt
  have ch1 : Chg (fun k => k = sv) w1 ((w1.setCell ⟨sv, 0, none⟩ (slv s)).setCell ⟨sv, 1, none⟩ (.int .i64 ((needs xs : Nat) : Int))) := (Chg.set (T := fun k => k = sv) _ _ _ _ rfl).t (Chg.set (T := fun k => k = sv) _ _ _ _ rfl)
  have b2 := (h1.blk.s0 (slv s)).s1 (.int .i64 ((needs xs : Nat) : Int))
  have h2 : Srv ((w1.setCell ⟨sv, 0, none⟩ (slv s)).setCell ⟨sv, 1, none⟩ (.int .i64 ((needs xs : Nat) : Int))) sv s R C xs (needs xs : Nat) calls := by
    refine ⟨b2, Hc.out.byt.chg ch1 (fun k hk => by have := Hc.out.new k hk; omega), ?_, h1.cal.chg ch1 (fun k hk => h.d3 k hk), fun k hk => ?_, h.d2, h.d3⟩
    · obtain ⟨old, ho⟩ := h1.rep; exact ⟨old, ho.chg ch1 (fun k hk => (h.d2 k hk).1)⟩
    · have hk1 := Hc.out.new k hk
      refine ⟨by omega, fun hk2 => ?_, fun hk2 => ?_⟩
      · obtain ⟨old, ho⟩ := h.rep
        have := ho.lt hk2; omega
      · have := h.cal.room.lt hk2; omega
  have hf2 : Room ((w1.setCell ⟨sv, 0, none⟩ (slv s)).setCell ⟨sv, 1, none⟩ (.int .i64 ((needs xs : Nat) : Int))) f.A f.n f.c (xs.map u8v) := (hf.room.ext Hc.out.ext).chg ch1 (fun k hk e => hd k hk (.inl e))
  have hd2 : ∀ k, srvF sv s R C k → ¬ foot f.A f.c k := fun k hk hk2 => by
    rcases hk with h' | h' | h' | h'
    · exact hd k hk2 (.inl h')
    · have h3 := Hc.out.new k h'
      have := hf.room.lt hk2; omega
    · exact hd k hk2 (.inr (.inr (.inl h')))
    · exact hd k hk2 (.inr (.inr (.inr h')))
  have hch : Chg (fun k => srvF sv F R C k ∨ foot f.A f.c k) w ((w1.setCell ⟨sv, 0, none⟩ (slv s)).setCell ⟨sv, 1, none⟩ (.int .i64 ((needs xs : Nat) : Int))) := (Chg.ofExt Hc.out.ext).trans ch1 (fun k _ hk => .inl (.inl hk))
  have hnew : ∀ k, srvF sv s R C k → srvF sv F R C k ∨ w.heap.size ≤ k := fun k hk => by
    rcases hk with h' | h' | h' | h'
    · exact .inl (.inl h')
    · exact .inr (Hc.out.new k h')
    · exact .inl (.inr (.inr (.inl h')))
    · exact .inl (.inr (.inr (.inr h')))
  have Hd2 := Lib.hid hd2
  have Hnew := Lib.hid hnew
  clear hd2 hnew hd
  go_wp2_with fail
  clear c0 c1 c2 c3 f0 f1 f2 f3
  unfold slv at ch1 b2 h2 hf2 hch
  generalize hW : ((w1.setCell ⟨sv, 0, none⟩ (.slice s.A s.n s.c)).setCell ⟨sv, 1, none⟩ (.int .i64 ((needs xs : Nat) : Int))) = w2 at *
  clear hW ch1 h1 hf h b2
  go_loopw [19] (fun i wr => ∃ (k : Nat) (old : List Value), k ≤ f.n ∧ i = .int .i64 (k : Int) ∧ Room wr f.A f.n f.c old ∧ Chg (foot f.A f.c) w2 wr) (fun i _ => f.n - (intOf i).toNat)
  case atStart => exact ⟨0, _, by omega, rfl, hf2, Chg.refl _ _⟩
  case round =>
    obtain ⟨k, old, hk, rfl, hr, hchr⟩ := hrel
    by_cases hlt : k < f.n
    · have hlt' : (k : Int) < (f.n : Int) := by omega
      have hfc := hr.2.1
      obtain ⟨g, o, hA, _⟩ := hr.some_ (by omega)
      rw [hA] at hr hchr ⊢
      obtain ⟨u, hu⟩ : ∃ u, old[k]? = some u := ⟨old[k]'(by rw [hr.1]; exact hlt), List.getElem?_eq_getElem _⟩
      have hc1 := hr.cellAt hu
      have hz1 := hr.frozenAt (k := k) (by omega)
      have hset := hr.set hlt (.int .u8 238)
      clear hA hu hfc
      go_wp2
      go_roundw
      case rel => exact ⟨k + 1, _, by omega, by go_num, hset, hchr.t (Chg.set _ _ _ _ ⟨by have := hset.2.1; omega, o, rfl⟩)⟩
      case measure => simp [intOf]; omega
    · obtain rfl : k = f.n := by omega
      have h3 := h2.chg hchr Hd2.out
      have HT := Lib.hid (HT.out _ _ h3)
      clear h2 h3 hr
      go_wp2_with fail
      refine HT.out.mono ?_
      rintro e w4 ⟨R', C', ha, hs⟩
      have Hs := Lib.hid hs
      have Hch := Lib.hid (hch.t (hchr.mono (fun k _ hk => .inr hk)))
      clear hs hch hchr
      have hfin : Served w sv F R C (foot f.A f.c) xs (needs xs : Nat) cl w4 s R' C' :=
        ⟨Hs.out.srv, Hch.out.trans Hs.out.chg (fun k hk hk2 => by
          rcases hk2 with hk2 | hk2
          · rcases Hnew.out k hk2 with h | h
            · exact .inl h
            · omega
          · exact hk2.elim), fun k hk => by
          rcases Hs.out.new k hk with h | h
          · exact Hnew.out k h
          · exact .inr (Nat.le_trans Hch.out.size h)⟩
      have Hfin := Lib.hid hfin
      clear hfin
      rcases ha with ⟨hd, A, n, cc, rfl⟩ | ⟨hd, rfl, hb⟩
      · have Hd := Lib.hid hd
        clear hd
        go_wp2_with fail
        go_ret2
        exact ⟨s, R', C', .inl ⟨Hd.out, A, n, cc, rfl⟩, Hfin.out⟩
      · have Hd := Lib.hid hd
        have Hb := Lib.hid hb
        clear hd hb
        unfold slv
        go_wp2_with fail
        go_ret2
        exact ⟨s, R', C', .inr ⟨Hd.out, rfl, Hb.out⟩, Hfin.out⟩
end Go.Proofs.Ytpipnefepnknoaa
