/-
  THE WALKS OF 'Fits' AND OF ITS MODEL (the law 'LawS930004QABWhole'), each returning a known bool.
-/
import Derived.Test.YmwhaoRows
import Derived.WalkKit
import Derived.ProofKit
namespace Go.Proofs.Ymwhao.lawS930004QABWhole
open Go.RowKit

theorem ret_bool {a b : Bool} (h : a = b) : Ending.returned (.bool a) = .returned (.bool b) := by rw [h]

theorem fits_yes (b n : Int) (w : World) (hb0 : 0 ≤ b) (hb1 : b ≤ 4294967295) (h0 : 0 ≤ n) (h1 : n ≤ 4294967296 - b) :
    Calls Yaov.prog 6 #[.int .u32 b, .int .i64 n] w fun e w' => e = .returned (.bool true) ∧ w' = w := by
  go_enter Yaov.func6, Yaov.ntmps6
  go_wp2
  go_ret
  exact ⟨rfl, rfl⟩

theorem fits_no (b n : Int) (w : World) (hb0 : 0 ≤ b) (hb1 : b ≤ 4294967295) (h : n < 0 ∨ 4294967296 - b < n) :
    Calls Yaov.prog 6 #[.int .u32 b, .int .i64 n] w fun e w' => e = .returned (.bool false) ∧ w' = w := by
  by_cases h0 : 0 ≤ n
  · have h1 : 4294967296 - b < n := by omega
    clear h
    go_enter Yaov.func6, Yaov.ntmps6
    go_wp2
    go_ret
    exact ⟨ret_bool (decide_eq_false (by omega)), rfl⟩
  · clear h
    go_enter Yaov.func6, Yaov.ntmps6
    go_wp2
    go_ret
    exact ⟨rfl, rfl⟩

theorem model_yes (b n : Int) (w : World) (hb0 : 0 ≤ b) (hb1 : b ≤ 4294967295) (h0 : 0 ≤ n) (h1 : n ≤ 4294967296 - b) :
    Calls Yaov.prog 7 #[.int .u32 b, .int .i64 n] w fun e w' => e = .returned (.bool true) ∧ w' = w := by
  go_enter Yaov.func7, Yaov.ntmps7
  go_wp2
  go_ret
  exact ⟨ret_bool (decide_eq_true (by omega)), rfl⟩

theorem model_no (b n : Int) (w : World) (hb0 : 0 ≤ b) (hb1 : b ≤ 4294967295) (hn : n ≤ 9223372036854775807) (h : n < 0 ∨ 4294967296 - b < n) :
    Calls Yaov.prog 7 #[.int .u32 b, .int .i64 n] w fun e w' => e = .returned (.bool false) ∧ w' = w := by
  by_cases h0 : n < 0
  · clear h
    go_enter Yaov.func7, Yaov.ntmps7
    go_wp2
    go_ret
    exact ⟨rfl, rfl⟩
  · have h1 : 4294967296 - b < n := by omega
    have h2 : 0 ≤ n := by omega
    clear h
    go_enter Yaov.func7, Yaov.ntmps7
    go_wp2
    go_ret
    exact ⟨ret_bool (decide_eq_false (by omega)), rfl⟩

end Go.Proofs.Ymwhao.lawS930004QABWhole
