/- Str: slices of bytes as strings, and compared. No condition. -/
import Derived.Test.YtiakcehhegippaaMore
import Derived.Lib.Bytealg
import Derived.Laws.BytesArg
namespace Go.Fx
open Go.RowKit
/-- The order of lists of numbers, as words are. -/
def lexN : List Nat → List Nat → Int
  | [], [] => 0
  | [], _ :: _ => -1
  | _ :: _, [] => 1
  | a :: ra, b :: rb => if a < b then -1 else if b < a then 1 else lexN ra rb
theorem lex_bytes : ∀ (xs ys : List Nat), (∀ x ∈ xs, x < 256) → (∀ y ∈ ys, y < 256) → Lib.compareBytes (xs.map UInt8.ofNat) (ys.map UInt8.ofNat) = lexN xs ys
  | [], [], _, _ => rfl
  | [], _ :: _, _, _ => rfl
  | _ :: _, [], _, _ => rfl
  | a :: ra, b :: rb, h1, h2 => by
    have ha := h1 a (by simp)
    have hb := h2 b (by simp)
    have ih := lex_bytes ra rb (fun x hx => h1 x (by simp [hx])) (fun y hy => h2 y (by simp [hy]))
    have e1 : UInt8.ofNat a < UInt8.ofNat b ↔ a < b := by
      rw [UInt8.lt_iff_toNat_lt, UInt8.toNat_ofNat_of_lt' (by simpa using ha), UInt8.toNat_ofNat_of_lt' (by simpa using hb)]
    have e2 : UInt8.ofNat b < UInt8.ofNat a ↔ b < a := by
      rw [UInt8.lt_iff_toNat_lt, UInt8.toNat_ofNat_of_lt' (by simpa using hb), UInt8.toNat_ofNat_of_lt' (by simpa using ha)]
    rw [List.map_cons, List.map_cons]
    unfold Lib.compareBytes lexN
    rw [ih]
    simp only [e1, e2]
theorem lexN_self : ∀ xs : List Nat, lexN xs xs = 0
  | [] => rfl
  | a :: ra => by unfold lexN; rw [if_neg (by omega), if_neg (by omega)]; exact lexN_self ra
section
variable {P : Program} {w : World}
theorem run_loadBytes {b o n : Nat} {xs : List Nat} (h : Rd (fun x : Nat => Value.int .u8 (x : Int)) w (some ⟨b, o, none⟩) n xs) :
    ∀ (m k : Nat) (acc : ByteArray), k + m = n → (Extern.Bytes.loadBytes ⟨b, o + k, none⟩ m acc).run P w = .ok ⟨acc.data ++ ((xs.drop k).map UInt8.ofNat).toArray⟩ w
  | 0, k, acc, hk => by
    have : xs.drop k = [] := List.drop_eq_nil_of_le (by have := h.1; omega)
    rw [this]
    simp [Extern.Bytes.loadBytes]
  | m + 1, k, acc, hk => by
    obtain ⟨b', o', x, e, _, hx, hc⟩ := h.at_ (k := k) (by omega)
    cases e
    have ih := run_loadBytes h m (k + 1) (acc.push (UInt8.ofNat x)) (by omega)
    have hadd : (⟨b, o + k, none⟩ : Addr).add 1 = ⟨b, o + (k + 1), none⟩ := by rw [Addr.add_lit]; rfl
    have hd : xs.drop k = x :: xs.drop (k + 1) := by
      have hlt : k < xs.length := (List.getElem?_eq_some_iff.1 hx).1
      rw [List.drop_eq_getElem_cons hlt, (List.getElem?_eq_some_iff.1 hx).2]
    simp only [Extern.Bytes.loadBytes, Sem.run_bind, run_load, hc, Result.andThen, hadd]
    have e1 : ((x : Int).toNat).toUInt8 = UInt8.ofNat x := by simp
    rw [e1, ih, hd]
    simp [ByteArray.push]
theorem run_bytesOf {A : Option Addr} {n c : Nat} {xs : List Nat} (h : Rd (fun x : Nat => Value.int .u8 (x : Int)) w A n xs) :
    (Extern.Bytes.bytesOf (.slice A n c)).run P w = .ok ⟨(xs.map UInt8.ofNat).toArray⟩ w := by
  by_cases hn : 0 < n
  · obtain ⟨b, o, rfl⟩ := h.some_ hn
    have := run_loadBytes (P := P) h n 0 .empty (by omega)
    simp only [Nat.add_zero, List.drop_zero] at this
    simp only [Extern.Bytes.bytesOf, this]
    simp [ByteArray.empty, ByteArray.emptyWithCapacity]
    rfl
  · obtain rfl : n = 0 := by omega
    obtain rfl : xs = [] := List.eq_nil_of_length_eq_zero h.1
    cases A <;> simp [Extern.Bytes.bytesOf, Extern.Bytes.loadBytes, ByteArray.empty, ByteArray.emptyWithCapacity] <;> rfl
theorem run_comparer {A A' : Option Addr} {n n' c c' : Nat} {xs ys : List Nat} (h : Rd (fun x : Nat => Value.int .u8 (x : Int)) w A n xs) (h' : Rd (fun x : Nat => Value.int .u8 (x : Int)) w A' n' ys)
    (hx : ∀ x ∈ xs, x < 256) (hy : ∀ y ∈ ys, y < 256) :
    (Extern.BytealgCompare.compare #[.slice A n c, .slice A' n' c']).run P w = .ok (.int .i64 (lexN xs ys)) w := by
  change Sem.run P (do pure (goInt (Extern.BytealgCompare.cmp (← Extern.Bytes.bytesOf (.slice A n c)) (← Extern.Bytes.bytesOf (.slice A' n' c'))))) w = _
  simp only [Sem.run_bind, Sem.run_pure, Result.andThen, run_bytesOf h, run_bytesOf h']
  rw [Lib.cmp_eq]
  simp only [lex_bytes xs ys hx hy]
  rfl
theorem conv_bytes {A : Option Addr} {n c : Nat} {xs : List Nat} (h : Rd (fun x : Nat => Value.int .u8 (x : Int)) w A n xs) (src e : TypeId) (hs : P.underlying src = some (.slice e)) (he : P.underlying e = some (.int .u8)) :
    ∀ dst, P.underlying dst = some .string → (convert src dst (.slice A n c)).run P w = .ok (.string (strOfNums (xs.map fun x : Nat => (x : Int)))) w := by
  intro dst hd
  by_cases hn : 0 < n
  · obtain ⟨b, o, rfl⟩ := h.some_ hn
    refine run_convert_bytes_arg w src e hs he b o n c _ (by simp [h.1]) (fun i hi => ?_) dst hd
    obtain ⟨b', o', x, e', _, hx, hc⟩ := h.at_ hi
    cases e'
    rw [hc]
    simp [List.getD, hx]
  · obtain rfl : n = 0 := by omega
    obtain rfl : xs = [] := List.eq_nil_of_length_eq_zero h.1
    rw [run_convert_bytes_string w src dst e _ 0 c hs he hd]
    cases A <;> simp [Conv.bytesToString, loadCells, loadCellsFrom, strOfNums, ByteArray.empty, ByteArray.emptyWithCapacity]
    all_goals rfl
theorem str_eq {xs ys : List Nat} (hx : ∀ x ∈ xs, x < 256) (hy : ∀ y ∈ ys, y < 256) : (strOfNums (xs.map fun x : Nat => (x : Int)) = strOfNums (ys.map fun x : Nat => (x : Int))) ↔ xs = ys := by
  constructor
  · intro h
    have h2 := congrArg (fun s : ByteArray => s.data.toList) h
    simp only [strOfNums_data, List.map_map] at h2
    have back : ∀ l : List Nat, (∀ x ∈ l, x < 256) → ((l.map ((fun n : Int => UInt8.ofNat n.toNat) ∘ fun x : Nat => (x : Int))).map UInt8.toNat) = l := by
      intro l hl
      rw [List.map_map]
      conv => rhs; rw [← List.map_id l]
      refine List.map_congr_left fun x hx => ?_
      simp only [Function.comp, Int.toNat_natCast, id]
      exact UInt8.toNat_ofNat_of_lt' (by simpa using hl x hx)
    rw [← back xs hx, h2, back ys hy]
  · rintro rfl; rfl
end
end Go.Fx
