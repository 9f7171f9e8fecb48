/- Fjn: Join, the program's and the reference's. -/
import Derived.Test.YtippgnbmilnjbaaFwr
namespace Go.Fx
/-- Join, from the k-th body on, with what was put before. -/
def jnF (k : Nat) : List (List Nat) → List Nat → List Nat × Int × Nat
  | [], out => (out, -1, 0)
  | x :: r, out => if 16384 < x.length then ([], (k : Int), 3) else jnF (k + 1) r (out ++ frF x)
theorem jnF_ok : ∀ (xs : List (List Nat)) (k : Nat) (out : List Nat), (∀ x ∈ xs, x.length ≤ 16384) → jnF k xs out = (out ++ joF xs, -1, 0)
  | [], k, out, _ => by simp [jnF, joF]
  | x :: r, k, out, h => by
    unfold jnF
    rw [if_neg (by have := h x (by simp); omega), jnF_ok r (k + 1) _ (fun y hy => h y (by simp [hy])), joF_cons, List.append_assoc]
theorem jnF_long : ∀ (xs : List (List Nat)) (k : Nat) (out x : List Nat) (r : List (List Nat)), (∀ x ∈ xs, x.length ≤ 16384) → 16384 < x.length → jnF k (xs ++ x :: r) out = ([], ((k + xs.length : Nat) : Int), 3)
  | [], k, out, x, r, _, hx => by
    rw [List.nil_append]
    unfold jnF
    rw [if_pos hx]
    simp
  | y :: ys, k, out, x, r, h, hx => by
    rw [List.cons_append]
    unfold jnF
    rw [if_neg (by have := h y (by simp); omega), jnF_long ys (k + 1) _ x r (fun z hz => h z (by simp [hz])) hx]
    simp only [List.length_cons]
    congr 2
    omega
theorem wrF_ok {x : List Nat} (h : x.length ≤ 16384) : wrF x = (frF x, 0) := by unfold wrF; rw [if_neg (by omega)]
theorem wrF_long {x : List Nat} (h : 16384 < x.length) : wrF x = ([], 3) := by unfold wrF; rw [if_pos h]
end Go.Fx
namespace Go.Proofs.Ytippgnbmilnjbaa
open Go.RowKit Go.Fx
theorem frF_lt {x : List Nat} (hx : ∀ y ∈ x, y < 256) (h : x.length ≤ 16384) : ∀ y ∈ frF x, y < 256 := by
  intro y hy
  rcases List.mem_append.1 hy with h1 | h1
  · exact fmF_lt h y h1
  · exact hx y h1
def JoinP (xss : List (List Nat)) (w : World) (e : Ending) (w' : World) : Prop := ∃ s : Sl, e = .returned (.tuple #[slv s, .int .i64 (jnF 0 xss []).2.1, .int .i64 ((jnF 0 xss []).2.2 : Int)]) ∧ Cloned w (jnF 0 xss []).1 (jnF 0 xss []).1.length s w'
/-- What holds between two rounds of Join. -/
structure JnJ (w : World) (xss : List (List Nat)) (k : Nat) (Ao : Option Addr) (no co : Nat) (wr : World) : Prop where
  out : ∃ o, Byt wr ⟨Ao, no, co⟩ o ∧ jnF k (xss.drop k) o = jnF 0 xss []
  new : ∀ j, foot Ao co j → w.heap.size ≤ j
  ext : Ext w wr
  le : no ≤ k * 16387
theorem JnJ.step {w w1 w2 : World} {xss : List (List Nat)} {k : Nat} {Ao A2 : Option Addr} {no co n2 c2 : Nat} {wr : World} {x : List Nat} {s : Sl} {o : List Nat} (h : JnJ w xss k Ao no co wr) (hx : xss[k]? = some x) (hl : x.length ≤ 16384) (hlt : ∀ y ∈ x, y < 256) (hs : Cloned wr (frF x) (frF x).length s w1) (hn : s.n = n2)
    (ho : Byt wr ⟨Ao, no, co⟩ o) (hj : jnF k (xss.drop k) o = jnF 0 xss []) (r : Room w2 A2 (no + n2) c2 (o.map u8v ++ (frF x).map u8v)) (ch : Chg (foot Ao co) w1 w2) (ft : ∀ j, foot A2 c2 j → foot Ao co j ∨ w1.heap.size ≤ j) : JnJ w xss (k + 1) A2 (no + n2) c2 w2 := by
  have hz := h.ext.size
  have hz1 := hs.ext.size
  refine ⟨⟨o ++ frF x, ⟨by rw [List.map_append]; exact r, fun y hy => (List.mem_append.1 hy).elim (ho.lt y) (frF_lt hlt hl y)⟩, ?_⟩, fun j hj => ?_, (h.ext.t hs.ext).trans (ch.below (h.ext.t hs.ext).size (fun j hj ht => by have := h.new j ht; omega)), ?_⟩
  · rw [← hj]
    have hd : xss.drop k = x :: xss.drop (k + 1) := by
      obtain ⟨h1, h2⟩ := List.getElem?_eq_some_iff.1 hx
      rw [List.drop_eq_getElem_cons h1, h2]
    rw [hd]
    conv => rhs; unfold jnF
    rw [if_neg (by omega)]
  · rcases ft j hj with h1 | h1
    · exact h.new j h1
    · omega
  · have h1 : n2 = (frF x).length := by rw [← hn]; exact hs.n_
    have h2 := frF_len x
    have h3 := fmF_len x.length
    have := h.le
    omega
set_option maxHeartbeats 1000000 in
theorem join_ (A : Option Addr) (n c : Nat) (ss : List Sl) (xss : List (List Nat)) (w : World) (hr : Rd slv w A n ss) (hy : Reads w ss xss) (hn : n ≤ 1000000) :
    Calls Try.prog 14 #[.slice A n c] w (JoinP xss w) := by
  have Hr := Lib.hid hr
  have Hy := Lib.hid hy
  have H0 : Hid (JnJ w xss 0 none 0 0 w) := Lib.hid ⟨⟨[], ⟨Room.nil, by simp⟩, rfl⟩, fun k hk => absurd hk foot_none, Ext.refl _, Nat.le_refl _⟩
  have Hnl : Hid (xss.length = n) := Lib.hid (by rw [← hy.len]; exact hr.1)
  clear hr hy
  go_enter Try.func14, Try.ntmps14
  go_wp2_with fail
  go_loopw [5, 12] (fun v i wr => ∃ (k : Nat) (Ao : Option Addr) (no co : Nat), k ≤ n ∧ i = .int .i64 (k : Int) ∧ v = .slice Ao no co ∧ Hid (JnJ w xss k Ao no co wr)) (fun _ i _ => n - (intOf i).toNat)
  case atStart => exact ⟨0, none, 0, 0, by omega, rfl, rfl, H0⟩
  case round =>
    clear H0
    obtain ⟨k, Ao, no, co, hk, rfl, rfl, HJ⟩ := hrel
    by_cases hlt : k < n
    · have hltI : (k : Int) < (n : Int) := by omega
      obtain ⟨b, o, s, rfl, _, hs, hc⟩ := (Hr.out.ext HJ.out.ext).at_ hlt
      obtain ⟨x, hx, hxr, hxl⟩ := (Hy.out.ext HJ.out.ext).at_ k s hs
      have HW := Lib.hid (write_ s.A s.n s.c x wr hxr hxl)
      unfold WriteP at HW
      have Hx := Lib.hid hx
      have Hxl := Lib.hid hxl
      unfold slv at hc
      have hno : no ≤ 100000000000 := by have := HJ.out.le; omega
      by_cases hlong : 16384 < x.length
      · rw [wrF_long hlong] at HW
        have hres : jnF 0 xss [] = ([], (k : Int), 3) := by
          obtain ⟨o', ho, hj⟩ := HJ.out.out
          rw [← hj]
          obtain ⟨h1, h2⟩ := List.getElem?_eq_some_iff.1 hx
          rw [List.drop_eq_getElem_cons h1, h2]
          unfold jnF
          rw [if_pos hlong]
        have Hres := Lib.hid hres
        clear hs hx hxr hxl hlong hres
        go_wp2_with fail
        refine HW.out.mono ?_; rintro e w1 ⟨f, rfl, hf⟩
        have Hf := Lib.hid hf.ext
        clear hf
        unfold slv
        go_wp2_with fail
        go_ret3
        refine ⟨⟨none, 0, 0⟩, by rw [Hres.out]; rfl, ?_⟩
        rw [Hres.out]
        exact ⟨rfl, ⟨Room.nil, by simp⟩, HJ.out.ext.t Hf.out, fun k hk => absurd hk foot_none⟩
      · have hle : x.length ≤ 16384 := by omega
        rw [wrF_ok hle] at HW
        have Hle := Lib.hid hle
        have hfl : (frF x).length ≤ 16387 := by have := frF_len x; have := fmF_len x.length; omega
        have Hfl := Lib.hid hfl
        clear hs hx hxr hxl hlong hle hfl
        go_wp2_with fail
        refine HW.out.mono ?_; rintro e w1 ⟨f, rfl, hf⟩
        have hfn : f.n ≤ 16387 := by rw [hf.n_]; exact Hfl.out
        obtain ⟨o', ho, hj⟩ := HJ.out.out
        have hrm : Room w1 Ao no co (o'.map u8v) := (ho.ext hf.ext).room
        have hsrc := hf.byt.rd
        have Hf := Lib.hid hf
        have Ho := Lib.hid ho
        have Hj := Lib.hid hj
        clear hf ho hj
        unfold slv
        go_wp2_with (refine wpl_append_at (by rfl) rfl ul_u8 info_u8 rfl rfl hrm rfl (Src.ofRd ul_u8 hsrc (fun _ => rfl)) (by simp only [maxLen]; omega) (by omega) ?_)
        intro A2 c2 w3 r3 ch3 ft3; refine Lib.hid ?_
        have Hst := Lib.hid (JnJ.step HJ.out Hx.out Hle.out Hxl.out Hf.out rfl Ho.out Hj.out r3 ch3 ft3)
        clear r3 ch3 ft3 hrm hsrc
        go_wp2_with fail
        go_roundw
        case rel => exact ⟨k + 1, A2, no + f.n, c2, by omega, by go_num, rfl, Hst⟩
        case measure => simp [intOf]; omega
    · obtain rfl : n = k := by omega
      obtain ⟨o', ho, hj⟩ := HJ.out.out
      rw [List.drop_of_length_le (by rw [Hnl.out]; exact Nat.le_refl _)] at hj
      have Hj := Lib.hid hj
      have Ho := Lib.hid ho
      clear hj ho
      go_wp2_with fail
      go_ret3
      have hj : (o', (-1 : Int), 0) = jnF 0 xss [] := Hj.out
      refine ⟨⟨Ao, no, co⟩, by rw [← hj]; rfl, ?_⟩
      rw [← hj]
      have ho := Ho.out
      exact ⟨by have := ho.room.1; simpa using this.symm, ho, HJ.out.ext, HJ.out.new⟩
set_option maxHeartbeats 1000000 in
theorem rjoin_ (A : Option Addr) (n c : Nat) (ss : List Sl) (xss : List (List Nat)) (w : World) (hr : Rd slv w A n ss) (hy : Reads w ss xss) (hn : n ≤ 1000000) :
    Calls Try.prog 53 #[.slice A n c] w (JoinP xss w) := by
  have Hr := Lib.hid hr
  have Hy := Lib.hid hy
  have H0 : Hid (JnJ w xss 0 none 0 0 w) := Lib.hid ⟨⟨[], ⟨Room.nil, by simp⟩, rfl⟩, fun k hk => absurd hk foot_none, Ext.refl _, Nat.le_refl _⟩
  have Hnl : Hid (xss.length = n) := Lib.hid (by rw [← hy.len]; exact hr.1)
  clear hr hy
  go_enter Try.func53, Try.ntmps53
  go_wp2_with fail
  go_loopw [5, 6] (fun v i wr => ∃ (k : Nat) (Ao : Option Addr) (no co : Nat), k ≤ n ∧ i = .int .i64 (k : Int) ∧ v = .slice Ao no co ∧ Hid (JnJ w xss k Ao no co wr)) (fun _ i _ => n - (intOf i).toNat)
  case atStart => exact ⟨0, none, 0, 0, by omega, rfl, rfl, H0⟩
  case round =>
    clear H0
    obtain ⟨k, Ao, no, co, hk, rfl, rfl, HJ⟩ := hrel
    by_cases hlt : k < n
    · have hltI : (k : Int) < (n : Int) := by omega
      obtain ⟨b, o, s, rfl, _, hs, hc⟩ := (Hr.out.ext HJ.out.ext).at_ hlt
      obtain ⟨x, hx, hxr, hxl⟩ := (Hy.out.ext HJ.out.ext).at_ k s hs
      have HW := Lib.hid (rwrite_ s.A s.n s.c x wr hxr hxl)
      unfold WriteP at HW
      have Hx := Lib.hid hx
      have Hxl := Lib.hid hxl
      unfold slv at hc
      have hno : no ≤ 100000000000 := by have := HJ.out.le; omega
      by_cases hlong : 16384 < x.length
      · rw [wrF_long hlong] at HW
        have hres : jnF 0 xss [] = ([], (k : Int), 3) := by
          obtain ⟨o', ho, hj⟩ := HJ.out.out
          rw [← hj]
          obtain ⟨h1, h2⟩ := List.getElem?_eq_some_iff.1 hx
          rw [List.drop_eq_getElem_cons h1, h2]
          unfold jnF
          rw [if_pos hlong]
        have Hres := Lib.hid hres
        clear hs hx hxr hxl hlong hres
        go_wp2_with fail
        refine HW.out.mono ?_; rintro e w1 ⟨f, rfl, hf⟩
        have Hf := Lib.hid hf.ext
        clear hf
        unfold slv
        go_wp2_with fail
        go_ret3
        refine ⟨⟨none, 0, 0⟩, by rw [Hres.out]; rfl, ?_⟩
        rw [Hres.out]
        exact ⟨rfl, ⟨Room.nil, by simp⟩, HJ.out.ext.t Hf.out, fun k hk => absurd hk foot_none⟩
      · have hle : x.length ≤ 16384 := by omega
        rw [wrF_ok hle] at HW
        have Hle := Lib.hid hle
        have hfl : (frF x).length ≤ 16387 := by have := frF_len x; have := fmF_len x.length; omega
        have Hfl := Lib.hid hfl
        clear hs hx hxr hxl hlong hle hfl
        go_wp2_with fail
        refine HW.out.mono ?_; rintro e w1 ⟨f, rfl, hf⟩
        have hfn : f.n ≤ 16387 := by rw [hf.n_]; exact Hfl.out
        obtain ⟨o', ho, hj⟩ := HJ.out.out
        have hrm : Room w1 Ao no co (o'.map u8v) := (ho.ext hf.ext).room
        have hsrc := hf.byt.rd
        have Hf := Lib.hid hf
        have Ho := Lib.hid ho
        have Hj := Lib.hid hj
        clear hf ho hj
        unfold slv
        go_wp2_with (refine wpl_append_at (by rfl) rfl ul_u8 info_u8 rfl rfl hrm rfl (Src.ofRd ul_u8 hsrc (fun _ => rfl)) (by simp only [maxLen]; omega) (by omega) ?_)
        intro A2 c2 w3 r3 ch3 ft3; refine Lib.hid ?_
        have Hst := Lib.hid (JnJ.step HJ.out Hx.out Hle.out Hxl.out Hf.out rfl Ho.out Hj.out r3 ch3 ft3)
        clear r3 ch3 ft3 hrm hsrc
        go_wp2_with fail
        go_roundw
        case rel => exact ⟨k + 1, A2, no + f.n, c2, by omega, by go_num, rfl, Hst⟩
        case measure => simp [intOf]; omega
    · obtain rfl : n = k := by omega
      obtain ⟨o', ho, hj⟩ := HJ.out.out
      rw [List.drop_of_length_le (by rw [Hnl.out]; exact Nat.le_refl _)] at hj
      have Hj := Lib.hid hj
      have Ho := Lib.hid ho
      clear hj ho
      go_wp2_with fail
      go_ret3
      have hj : (o', (-1 : Int), 0) = jnF 0 xss [] := Hj.out
      refine ⟨⟨Ao, no, co⟩, by rw [← hj]; rfl, ?_⟩
      rw [← hj]
      have ho := Ho.out
      exact ⟨by have := ho.room.1; simpa using this.symm, ho, HJ.out.ext, HJ.out.new⟩
end Go.Proofs.Ytippgnbmilnjbaa
