/-
  Plain data: numbers that fit, lists, marks. No program in sight.
-/
import Derived.Test.YtdgpjdedpkpfhaaAxM
namespace Go.Aw.Pl
open Go Go.Aw

theorem w64 {n : Int} (h1 : -9223372036854775808 ≤ n) (h2 : n ≤ 9223372036854775807) : IntKind.wrap .i64 n = n := by
  simp [IntKind.wrap, IntKind.signed, IntKind.bits]; omega

theorem w8 {n : Int} (h1 : 0 ≤ n) (h2 : n ≤ 255) : IntKind.wrap .u8 n = n := by
  simp [IntKind.wrap, IntKind.signed, IntKind.bits]; omega

theorem w64_lo (n : Int) : -9223372036854775808 ≤ IntKind.wrap .i64 n := by
  simp [IntKind.wrap, IntKind.signed, IntKind.bits]; split <;> omega
theorem w64_hi (n : Int) : IntKind.wrap .i64 n ≤ 9223372036854775807 := by
  simp [IntKind.wrap, IntKind.signed, IntKind.bits]; split <;> omega

theorem in64 {n : Int} : inK .i64 n ↔ -9223372036854775808 ≤ n ∧ n ≤ 9223372036854775807 := by
  unfold inK; rw [i64_min, i64_max]
theorem in8 {n : Int} : inK .u8 n ↔ 0 ≤ n ∧ n ≤ 255 := by
  unfold inK; rfl

theorem maxLen_eq : maxLen = 9223372036854775807 := rfl

theorem peta {α β : Type} (p : α × β) : (p.1, p.2) = p := rfl
theorem petaU {α : Type} (p : α × Unit) : (p.1, ()) = p := rfl

/-- Lists of moderate length. -/
def small {α : Type} (xs : List α) : Bool := decide (xs.length ≤ 16777216)
theorem small_iff {α : Type} {xs : List α} : small xs = true ↔ xs.length ≤ 16777216 := by simp [small]

theorem getD_get {α : Type} {xs : List α} {i : Nat} {d : α} (h : i < xs.length) : xs.getD i d = xs[i] := by
  rw [List.getD_eq_getElem?_getD, List.getElem?_eq_getElem h]; rfl

/-! ### one datum and the same -/
open Classical in
noncomputable def same {α : Type} (a b : α) : Bool := decide (a = b)
theorem same_true {α : Type} {a b : α} : same a b = true ↔ a = b := by simp [same]
theorem same_false {α : Type} {a b : α} : same a b = false ↔ ¬ a = b := by simp [same]
theorem same_self {α : Type} (a : α) : same a a = true := same_true.2 rfl

/-! ### marks -/
def markL : Nat → Int → List Int
  | 0, _ => []
  | n + 1, k => IntKind.wrap .u8 k :: markL n (IntKind.wrap .i64 (k + 1))
def markK : Nat → Int → Int
  | 0, k => k
  | n + 1, k => markK n (IntKind.wrap .i64 (k + 1))

theorem markL_len : (n : Nat) → (k : Int) → (markL n k).length = n
  | 0, _ => rfl
  | n + 1, k => by simp [markL, markL_len n]

theorem markK_eq : (n : Nat) → (k : Int) → 0 ≤ k → k + n ≤ 9223372036854775807 → markK n k = k + n
  | 0, k, _, _ => by simp [markK]
  | n + 1, k, h0, h1 => by
    simp only [markK]
    rw [w64 (by omega) (by omega), markK_eq n (k + 1) (by omega) (by push_cast at h1; omega)]
    push_cast; omega

end Go.Aw.Pl
