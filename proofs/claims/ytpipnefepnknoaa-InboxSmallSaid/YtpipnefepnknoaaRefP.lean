/- The reference's Put and Turn. -/
import Derived.Test.YtpipnefepnknoaaRef
namespace Go.Proofs.Ytpipnefepnknoaa
open Go.RowKit Go.Fx
theorem news2 {w : World} {g : Nat} {t : TypeId} {v u : Value} (hb : Blk w g t #[v, u]) : ∀ (j : Nat) (x : Value), [v, u][j]? = some x → w.cell? ((⟨g, 0, none⟩ : Addr).add j) = some x := fun j x hx => by
  rw [Addr.add_lit, Nat.zero_add, hb.cell, ← Array.getElem?_toList]
  exact hx
theorem frl_at {w : World} {A : Option Addr} {n : Nat} {fs : List Fr} (h : FrL w A n fs) : ∀ w', Ext w w' → 0 < n → ∃ b o, A = some ⟨b, o, none⟩ ∧ ∀ j u, (fcells fs)[j]? = some u → w'.cell? ⟨b, o + j, none⟩ = some u := fun _ e hn => by
  obtain ⟨b, o, hA, _, hc⟩ := (h.ext e).at_ hn
  exact ⟨b, o, hA, hc⟩
theorem frl_set {w : World} {g i g5 n : Nat} {v : Value} {fs : List Fr} (h : FrL w (some ⟨g5, 0, none⟩) n fs) (hne : g5 ≠ g) : FrL (w.setCell ⟨g, i, none⟩ v) (some ⟨g5, 0, none⟩) n fs := by
  refine ⟨h.len, fun hn => ?_⟩
  obtain ⟨b, o, hA, hb, hc⟩ := h.at_ hn
  cases hA
  have ch := chg_set1 w g i v
  exact ⟨g5, 0, rfl, ch.lt hb, fun j u hu => (ch.cell (p := ⟨g5, 0 + j, none⟩) hb hne).trans (hc j u hu)⟩
theorem FrL.own2 {w : World} {base : Nat} {e : TypeId} {A : Option Addr} {n c : Nat} {l : List Fr} (h : w.ownsRow base e 2 (.slice A n c) n (fcells l)) : FrL w A n l ∧ n ≤ c ∧ c ≤ maxLen := by
  refine ⟨FrL.of_own h, own_cap h, ?_⟩
  rcases h.2 with ⟨h1, _⟩ | ⟨g, cap, cur, h1, _, _, _, h2, _⟩
  · simp only [Value.slice.injEq] at h1; simp only [maxLen]; omega
  · simp only [Value.slice.injEq] at h1; omega
set_option maxRecDepth 100000 in
set_option maxHeartbeats 4000000 in
theorem ref_Put (wb w : World) (W P : Sl) (pn : Int) (fs : List Fr) (st : St) (s : Sl) (xs : List Nat) (hk : RefOk wb w W P fs st) (hfl : Flag st) (hs : Rd u8v wb s.A s.n xs) (hx : ∀ x ∈ xs, x < 256) (ha : st.ans + st.wait.length + 1 ≤ 100000000) (hp : st.put ≤ 100000000) :
    Calls Try.prog 33 #[refV W P pn st.left st.put st.ans st.turns st.idle, .agg #[.slice s.A s.n s.c, .int .i64 ((needs xs : Nat) : Int)]] w (RefP wb w (fun k => w.heap.size ≤ k) (fun k => w.heap.size ≤ k) (putF st xs)) := by
  obtain ⟨res, hres⟩ : ∃ res, res = putF st xs := ⟨_, rfl⟩
  rw [← hres]
  have Hres := Lib.hid hres
  have hwl : W.n = st.wait.length := by have := hk.frl.len; have h2 := congrArg List.length hk.wait; simp at h2; omega
  have hnW : W.n ≤ 100000000 := by omega
  have HK := Lib.hid hk
  have Hfl := Lib.hid hfl
  have Hs := Lib.hid (And.intro hs hx)
  have Hab := Lib.hid ha
  have Hwl := Lib.hid hwl
  clear hk hfl hs hx ha hwl hres
  unfold refV
  go_enter Try.func33, Try.ntmps33
  go_upto_region 1 with fail
  have hb1 := ((Blk.new w 69 (refC W P pn st.left st.put st.ans st.turns st.idle)).alloc (.cells #[.slice s.A s.n s.c, .int .i64 ((needs xs : Nat) : Int)] 67)).alloc (.cells zeroC 69)
  have hb2 := (Blk.new (w.alloc (.cells (refC W P pn st.left st.put st.ans st.turns st.idle) 69)) 67 #[.slice s.A s.n s.c, .int .i64 ((needs xs : Nat) : Int)]).alloc (.cells zeroC 69)
  have hb3 := Blk.new ((w.alloc (.cells (refC W P pn st.left st.put st.ans st.turns st.idle) 69)).alloc (.cells #[.slice s.A s.n s.c, .int .i64 ((needs xs : Nat) : Int)] 67)) 69 zeroC
  have he := ((Ext.alloc w (.cells (refC W P pn st.left st.put st.ans st.turns st.idle) 69)).t (Ext.alloc _ (.cells #[.slice s.A s.n s.c, .int .i64 ((needs xs : Nat) : Int)] 67))).t (Ext.alloc _ (.cells zeroC 69))
  rw [World.size_alloc] at hb2
  rw [World.size_alloc, World.size_alloc] at hb3
  unfold refC zeroC at hb1 hb2 hb3 he
  generalize ((w.alloc (.cells #[.slice W.A W.n W.c, .slice P.A P.n P.c, .int .i64 pn, .int .i64 (st.left : Int), .int .i64 (st.put : Int), .int .i64 (st.ans : Int), .int .i64 (st.turns : Int), .int .i64 (st.idle : Int)] 69)).alloc (.cells #[.slice s.A s.n s.c, .int .i64 ((needs xs : Nat) : Int)] 67)).alloc (.cells #[.slice none 0 0, .slice none 0 0, .int .i64 0, .int .i64 0, .int .i64 0, .int .i64 0, .int .i64 0, .int .i64 0] 69) = W1 at hb1 hb2 hb3 he ⊢
  obtain ⟨g, hg⟩ : ∃ g, w.heap.size = g := ⟨_, rfl⟩
  rw [hg] at hb1 hb2 hb3 ⊢
  have Hg := Lib.hid hg
  have He := Lib.hid he
  have Hb1 := Lib.hid hb1
  have Hb3 := Lib.hid hb3
  have hgl : g < W1.heap.size := hb1.lt
  have hgl2 : g + 1 < W1.heap.size := hb2.lt
  have y0 := hb1.c8.1
  have y0a : ∀ o, (W1.drew.alloc o).cell? ⟨g, 0, none⟩ = some (.slice W.A W.n W.c) := fun o => (((Ext.drew W1).t (Ext.alloc _ o)).cell (p := ⟨g, 0, none⟩) hgl).trans y0
  have y1 : W1.cell? ⟨g + 1, 0, none⟩ = some (.slice s.A s.n s.c) := by rw [hb2.cell]; rfl
  have y2 : W1.cell? ⟨g + 1, 1, none⟩ = some (.int .i64 ((needs xs : Nat) : Int)) := by rw [hb2.cell]; rfl
  have y1a : ∀ o, (W1.drew.alloc o).cell? ⟨g + 1, 0, none⟩ = some (.slice s.A s.n s.c) := fun o => (((Ext.drew W1).t (Ext.alloc _ o)).cell (p := ⟨g + 1, 0, none⟩) hgl2).trans y1
  have y2a : ∀ o, (W1.drew.alloc o).cell? ⟨g + 1, 1, none⟩ = some (.int .i64 ((needs xs : Nat) : Int)) := fun o => (((Ext.drew W1).t (Ext.alloc _ o)).cell (p := ⟨g + 1, 1, none⟩) hgl2).trans y2
  clear hb1 hb2 hb3 he hg
  go_cut [13] from 6 to 12 (fun v wx => v = .pointer (some ⟨g, 0, none⟩) ∧ ∃ g5 c5, Hid (g + 3 ≤ g5 ∧ Blk wx g 69 #[.slice (some ⟨g5, 0, none⟩) (W.n + 1) c5, .slice P.A P.n P.c, .int .i64 pn, .int .i64 (st.left : Int), .int .i64 (st.put : Int), .int .i64 (st.ans : Int), .int .i64 (st.turns : Int), .int .i64 (st.idle : Int)] ∧ Blk wx (g + 1 + 1) 69 zeroC ∧ FrL wx (some ⟨g5, 0, none⟩) (W.n + 1) (fs ++ [(s, xs)]) ∧ W.n + 1 ≤ c5 ∧ c5 ≤ maxLen ∧ Ext w wx))
  case first =>
    have hl5 : (fcells fs).length = W.n * 2 := by rw [fcells_len, HK.out.frl.len]; omega
    have hat : ∀ w', Ext W1 w' → 0 < W.n → ∃ b o, W.A = some ⟨b, o, none⟩ ∧ ∀ j u, (fcells fs)[j]? = some u → w'.cell? ⟨b, o + j, none⟩ = some u := fun w' e hn => frl_at HK.out.frl w' (He.out.t e) hn
    have hn0 : ∀ t o, Blk ((W1.alloc (.cells #[.slice s.A s.n s.c, .int .i64 ((needs xs : Nat) : Int)] t)).alloc o) W1.heap.size t #[.slice s.A s.n s.c, .int .i64 ((needs xs : Nat) : Int)] := fun t o => (Blk.new W1 t _).alloc o
    have hn1 : ∀ t o, Blk ((W1.alloc o).alloc (.cells #[.slice s.A s.n s.c, .int .i64 ((needs xs : Nat) : Int)] t)) (W1.heap.size + 1) t #[.slice s.A s.n s.c, .int .i64 ((needs xs : Nat) : Int)] := fun t o => by have h := Blk.new (W1.alloc o) t #[.slice s.A s.n s.c, .int .i64 ((needs xs : Nat) : Int)]; rwa [World.size_alloc] at h
    go_region_law (first
      | (refine step_append_empty rfl rfl ul_fr info_fr rfl (by omega) rfl rfl hl5 (by first | exact hat _ ((Ext.drew _).t (Ext.alloc _ _)) | exact hat _ (((Ext.drew _).t (Ext.alloc _ _)).t (Ext.alloc _ _))) (fcells_one _) (by simp only [maxLen]; omega) (by omega) ?_
         intro A4 c4 w4 row4 e4 d4 r4
         have e14 : Ext W1 w4 := by first | exact ((Ext.drew _).t (Ext.alloc _ _)).t e4 | exact (((Ext.drew _).t (Ext.alloc _ _)).t (Ext.alloc _ _)).t e4
         have y14 : w4.cell? ⟨g + 1, 0, none⟩ = some (.slice s.A s.n s.c) := (e14.cell (p := ⟨g + 1, 0, none⟩) hgl2).trans y1
         have y24 : w4.cell? ⟨g + 1, 1, none⟩ = some (.int .i64 ((needs xs : Nat) : Int)) := (e14.cell (p := ⟨g + 1, 1, none⟩) hgl2).trans y2
         have r14 : ∀ k, row4 = some k → W1.heap.size ≤ k := fun k hk => by have := r4 k hk; simp at this; omega)
      | (refine step_append_dst _ rfl rfl ul_fr info_fr rfl (by omega) rfl (by first | exact d4 | exact d4.alloc _) rfl (news := [.slice s.A s.n s.c, .int .i64 ((needs xs : Nat) : Int)]) rfl (by first | exact news2 (Blk.new _ _ _) | exact news2 (Blk.ext (hn1 _ _) ((Ext.drew _).t e4)) | exact news2 (Blk.ext (hn0 _ _) ((Ext.drew _).t e4))) (by intro u hu; simp at hu; rcases hu with rfl | rfl <;> rfl) (by omega) (by simp only [maxLen]; omega) (by omega) (by have := e4.size; simp at this ⊢; omega) ?_
         intro g5 c5 w5 own5 gr5 _ lt5
         have e15 : Ext W1 w5 := by first | exact e14.grown gr5 e14.size r14 | exact (e14.t (Ext.alloc _ _)).grown gr5 (e14.t (Ext.alloc _ _)).size r14
         have own6 := own5
         rw [show fcells fs ++ [.slice s.A s.n s.c, .int .i64 ((needs xs : Nat) : Int)] = fcells (fs ++ [(s, xs)]) by rw [fcells_append]; rfl] at own6
         have hb5 := Hb1.out.ext e15
         have z0 := hb5.c8.1
         have zf := hb5.frozen 0
         have ge5 : W1.heap.size ≤ g5 := by have := (own5.lt g5 rfl).1; simp at this; omega))
    all_goals go_wp2_with fail
    all_goals go_simp
    all_goals go_meet
    all_goals (
      obtain ⟨f1, f2, f3⟩ := FrL.own2 own6
      have hb6 := hb5.set_ 0 (.slice (some ⟨g5, 0, none⟩) (W.n + 1) c5)
      simp only [List.setIfInBounds_toArray, List.set_cons_zero] at hb6
      have hc6 := chg_set1 w5 g 0 (.slice (some ⟨g5, 0, none⟩) (W.n + 1) c5)
      refine ⟨rfl, g5, c5, Lib.hid ⟨by have := Hb3.out.lt; omega, hb6, (Hb3.out.ext e15).chg hc6 (by omega), frl_set f1 (by omega), f2, f3, (He.out.t e15).trans (hc6.below (He.out.t e15).size (fun k hk e => by have := Hg.out; omega))⟩⟩)
  case rest =>
  obtain ⟨rfl, g5, c5, H5⟩ := hcut
  obtain ⟨hg5, hb5, hz5, hf5, hl5, hm5, he5⟩ := H5.out
  obtain ⟨x0, x1, x2, x3, x4, x5, x6, x7⟩ := hb5.c8
  obtain ⟨z0, z1, z2, z3, z4, z5, z6, z7⟩ := hb5.f8
  have hw1 : IntKind.i64.wrap ((st.put : Int) + 1) = (st.put : Int) + 1 := IntWalk.i64_in _ (by omega)
  have hb6 := hb5.set_ 4 (.int .i64 ((st.put : Int) + 1))
  simp only [List.setIfInBounds_toArray, List.set_cons_zero, List.set_cons_succ] at hb6
  have hc6 := chg_set1 wc g 4 (.int .i64 ((st.put : Int) + 1))
  have he6 : Ext w (wc.setCell ⟨g, 4, none⟩ (.int .i64 ((st.put : Int) + 1))) := he5.trans (hc6.below he5.size (fun k hk e => by have := Hg.out; omega))
  have hk6 : RefOk wb (wc.setCell ⟨g, 4, none⟩ (.int .i64 ((st.put : Int) + 1))) ⟨some ⟨g5, 0, none⟩, W.n + 1, c5⟩ P (fs ++ [(s, xs)]) { st with wait := st.wait ++ [xs], put := st.put + 1 } := ⟨frl_set hf5 (by omega), hl5, hm5, by rw [List.map_append, HK.out.wait]; rfl, fun p hp => by
    rcases List.mem_append.1 hp with h | h
    · exact HK.out.rds p h
    · simp at h; subst h; exact Hs.out, HK.out.cur⟩
  have hz6 := hz5.chg hc6 (by omega)
  have Hz6 := Lib.hid hz6
  have He6 := Lib.hid he6
  generalize hW6 : wc.setCell ⟨g, 4, none⟩ (.int .i64 ((st.put : Int) + 1)) = W6 at hb6 he6 hk6 hz6 Hz6 He6
  obtain ⟨t0, t1, t2, t3, t4, t5, t6, t7⟩ := hb6.c8
  have HO := Lib.hid (ref_on wb W6 ⟨some ⟨g5, 0, none⟩, W.n + 1, c5⟩ P pn (fs ++ [(s, xs)]) { st with wait := st.wait ++ [xs], put := st.put + 1 } none 0 0 [] [] hk6 RefL.nil Hfl.out (by have := Hab.out; simp only [List.length_append, List.length_cons, List.length_nil]; omega) (by have := Hab.out; simp only [List.length_append, List.length_cons, List.length_nil]; omega))
  unfold refV at HO
  simp only [Int.natCast_add, Int.natCast_one] at HO
  clear H5 hb5 hz5 hf5 hl5 hm5 he5 hb6 hc6 he6 hk6 hz6
  go_wp2_with fail
  clear hW6
  have hres := Hres.out
  unfold putF at hres
  rw [← hres] at HO
  refine HO.out.mono ?_
  rintro e w7 ⟨W7, P7, pn7, fs7, A7, n7, c7, os7, rfl, hk7, hl7, he7, hw7, ht7⟩
  have hz7 := Hz6.out.ext he7
  have He7 := Lib.hid (He6.out.t he7)
  have hz6 := Hz6.out.lt
  unfold zeroC at hz7
  unfold refV
  obtain ⟨u0, u1, u2, u3, u4, u5, u6, u7⟩ := hz7.c8
  obtain ⟨v0, v1, v2, v3, v4, v5, v6, v7⟩ := hz7.f8
  have hg5b := hg5
  clear HO hres t0 t1 t2 t3 t4 t5 t6 t7 he7
  go_wp2_with fail
  obtain ⟨hb8, hch8⟩ := hz7.all8 (.slice W7.A W7.n W7.c) (.slice P7.A P7.n P7.c) (.int .i64 pn7) (.int .i64 (res.1.left : Int)) (.int .i64 (res.1.put : Int)) (.int .i64 (res.1.ans : Int)) (.int .i64 (res.1.turns : Int)) (.int .i64 (res.1.idle : Int))
  generalize ((((((((w7.setCell ⟨g + 1 + 1, 0, none⟩ (.slice W7.A W7.n W7.c)).setCell ⟨g + 1 + 1, 1, none⟩ (.slice P7.A P7.n P7.c)).setCell ⟨g + 1 + 1, 2, none⟩ (.int .i64 pn7)).setCell ⟨g + 1 + 1, 3, none⟩ (.int .i64 (res.1.left : Int))).setCell ⟨g + 1 + 1, 4, none⟩ (.int .i64 (res.1.put : Int))).setCell ⟨g + 1 + 1, 5, none⟩ (.int .i64 (res.1.ans : Int))).setCell ⟨g + 1 + 1, 6, none⟩ (.int .i64 (res.1.turns : Int))).setCell ⟨g + 1 + 1, 7, none⟩ (.int .i64 (res.1.idle : Int))) = W8 at hb8 hch8 ⊢
  obtain ⟨t0, t1, t2, t3, t4, t5, t6, t7⟩ := hb8.c8
  have he8 : Ext w W8 := He7.out.trans (hch8.below He7.out.size (fun k hk e => by have := Hg.out; omega))
  have hk5 : ∀ k, rowF W7.A W7.n k → k = g5 := fun k hk => by obtain ⟨_, o, e⟩ := hw7 k hk; cases e; rfl
  have hk6 : ∀ k, rowF A7 n7 k → W6.heap.size ≤ k := fun k hk => (ht7 k hk).elim (fun h => by obtain ⟨h, _⟩ := h; omega) id
  refine bodyPost_ret (v := .tuple #[.agg #[.slice W7.A W7.n W7.c, .slice P7.A P7.n P7.c, .int .i64 pn7, .int .i64 (res.1.left : Int), .int .i64 (res.1.put : Int), .int .i64 (res.1.ans : Int), .int .i64 (res.1.turns : Int), .int .i64 (res.1.idle : Int)], .slice A7 n7 c7]) ?_ rfl ?_
  · simp [results, Try.results33, go_sem, t0, t1, t2, t3, t4, t5, t6, t7]
  · exact ⟨W7, P7, pn7, fs7, A7, n7, c7, os7, rfl, hk7.chg hch8 (fun k hk e => by have := hk5 k hk; omega), hl7.chg hch8 (fun k hk e => by have := hk6 k hk; omega), he8, fun k hk => by have := hk5 k hk; have := Hg.out; omega, fun k hk => by have := hk6 k hk; have := Hg.out; omega⟩
end Go.Proofs.Ytpipnefepnknoaa
