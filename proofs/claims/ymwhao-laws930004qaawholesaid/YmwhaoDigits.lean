/-
  THE PLAIN LAW of the eight hex digits, and THE WALK of 'HexDigit'.
-/
import Derived.Test.YmwhaoRows
import Derived.WalkKit
import Derived.ProofKit
namespace Go.Proofs.Ymwhao.lawS930004QAAWhole
open Go.RowKit

/-- The lower-case hex digit of n, n below 16. -/
def hexd (n : Int) : Int := if n < 10 then 48 + n else 87 + n
/-- Digit j of x, the most significant first. -/
def nib (x : Int) (j : Nat) : Int := x / 2 ^ (28 - 4 * j) % 16
/-- x behind k rounds of 'off <<= 4'. -/
def shl (x : Int) (k : Nat) : Int := x * 16 ^ k % 4294967296
/-- The first k digits of x. -/
def digs (x : Int) (k : Nat) : List Int := (List.range k).map fun j => hexd (nib x j)

theorem shl_zero (x : Int) (h0 : 0 ≤ x) (h1 : x ≤ 4294967295) : shl x 0 = x := by
  unfold shl; simp; omega
theorem shl_succ (x : Int) (k : Nat) : shl x (k + 1) = shl x k * 16 % 4294967296 := by
  unfold shl
  rw [Int.pow_succ, ← Int.mul_assoc]
  generalize x * 16 ^ k = y
  omega
theorem shl_bounds (x : Int) (k : Nat) : 0 ≤ shl x k ∧ shl x k ≤ 4294967295 := by
  unfold shl; omega
theorem shl_nib (x : Int) (k : Nat) (hk : k < 8) : shl x k / 268435456 = nib x k := by
  unfold shl nib
  have h : k = 0 ∨ k = 1 ∨ k = 2 ∨ k = 3 ∨ k = 4 ∨ k = 5 ∨ k = 6 ∨ k = 7 := by omega
  rcases h with rfl | rfl | rfl | rfl | rfl | rfl | rfl | rfl <;> simp <;> omega
theorem nib_bounds (x : Int) (k : Nat) : 0 ≤ nib x k ∧ nib x k < 16 := by
  unfold nib; omega
theorem hexd_bounds (n : Int) (h0 : 0 ≤ n) (h1 : n < 16) : 0 ≤ hexd n ∧ hexd n ≤ 255 := by
  unfold hexd; split <;> omega
theorem digs_succ (x : Int) (k : Nat) : digs x (k + 1) = digs x k ++ [hexd (nib x k)] := by
  unfold digs; rw [List.range_succ, List.map_append]; rfl
theorem digs_length (x : Int) (k : Nat) : (digs x k).length = k := by simp [digs]
theorem digs_get (x : Int) (k j : Nat) (h : j < k) : (digs x k)[j]? = some (hexd (nib x j)) := by
  simp [digs, h]

theorem ret_hex {a b : Int} {c : Bool} (h : a = b) : Ending.returned (.tuple #[.int .u8 a, .bool c]) = .returned (.tuple #[.int .u8 b, .bool c]) := by rw [h]

theorem hex_any (n : Int) (w : World) (h0 : 0 ≤ n) (h1 : n < 16) :
    Calls Yaov.prog 8 #[.int .u8 n] w fun e w' => e = .returned (.tuple #[.int .u8 (hexd n), .bool true]) ∧ w' = w := by
  by_cases h : n < 10
  · go_enter Yaov.func8, Yaov.ntmps8
    go_wp2
    go_ret2
    exact ⟨ret_hex (by unfold hexd; rw [if_pos h]), rfl⟩
  · go_enter Yaov.func8, Yaov.ntmps8
    go_wp2
    go_ret2
    exact ⟨ret_hex (by unfold hexd; rw [if_neg (by omega)]; omega), rfl⟩

end Go.Proofs.Ymwhao.lawS930004QAAWhole
