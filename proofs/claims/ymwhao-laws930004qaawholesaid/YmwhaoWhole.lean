/-
  THE WALK of the law 'LawS930004QAAWhole'.
-/
import Derived.Test.YmwhaoOffset
import Derived.WalkKit
import Derived.ProofKit
import Derived.WalkSpells
import Derived.WalkSmall
import Derived.Laws.BitsAllLaws
import Derived.Laws.CopyOwn
import Derived.Deep.AppendLies
import Derived.Deep.QuietTactic
import Derived.BigQuiet
namespace Go.Proofs.Ymwhao.lawS930004QAAWhole
open Go.RowKit

theorem size5 : (Yaov.prog.info? 5).map (·.size) = some 1 := by kernel_rfl

theorem walk_long (a0 : Option Addr) (n cap : Nat) (x : Int) (w : World) (hn : 1024 < n) :
    Calls Yaov.prog 3 #[.slice a0 n cap, .int .u32 x] w fun e w' => e = .returned (.bool true) ∧ Below w.heap.size w w' := by
  go_enter Yaov.func3, Yaov.ntmps3
  go_wp2
  go_ret
  exact ⟨rfl, Below.refl _ _⟩

/-- The row that 'make' has laid, whole. -/
theorem made_row {w1 : World} {base n g : Nat} {xs : List Value} (h : w1.ownsRow base 5 1 (.slice (some ⟨g, 0, none⟩) n n) n xs) : ∃ cur : List Value, cur.length = n ∧ w1.heap[g]? = some (.cells cur.toArray 5 (0, 0)) := by
  obtain ⟨_, h2⟩ := h
  rcases h2 with ⟨h2, _⟩ | ⟨g', cap, cur, hv, _, hg, _, _, hs, _⟩
  · simp at h2
  · simp only [Value.slice.injEq, Option.some.injEq, Addr.mk.injEq] at hv
    obtain ⟨⟨rfl, _⟩, _, rfl⟩ := hv
    exact ⟨cur.toList, by simpa using hs, by simpa using hg⟩

/-- The elements of the slice that came in, as cells. -/
def elems (n : Nat) (zs : List Int) : List Value := (zs.take n).map (Value.int .u8)
theorem elems_length {n : Nat} {zs : List Int} (h : n ≤ zs.length) : (elems n zs).length = n := by
  unfold elems; rw [List.length_map, List.length_take]; omega
theorem elems_get {n : Nat} {zs : List Int} (h : n ≤ zs.length) {j : Nat} (hj : j < n) : (elems n zs)[j]? = some (.int .u8 (zs.getD j 0)) := by
  unfold elems
  rw [List.getElem?_map, List.getElem?_take, if_pos hj, List.getElem?_eq_getElem (by omega), List.getD_eq_getElem?_getD, List.getElem?_eq_getElem (by omega)]
  rfl
theorem elems_some {n : Nat} {zs : List Int} (h : n ≤ zs.length) {j : Nat} {u : Value} (hu : (elems n zs)[j]? = some u) : j < n ∧ u = .int .u8 (zs.getD j 0) := by
  have hj : j < n := by have := (List.getElem?_eq_some_iff.1 hu).1; rw [elems_length h] at this; exact this
  rw [elems_get h hj] at hu
  exact ⟨hj, (Option.some.inj hu).symm⟩
theorem elems_one (n : Nat) (zs : List Int) : ∀ u ∈ elems n zs, u.oneCell' = true := ints_oneCell _ _
theorem splice_whole {cur cs : List Value} (h : cur.length = cs.length) : splice cur 0 cs = cs := by
  unfold splice; rw [List.take_zero, List.nil_append, Nat.zero_add, ← h, List.drop_length, List.append_nil]

theorem src_cells {a0 : Option Addr} {n : Nat} {zs : List Int} {w w1 : World} {dp : Option Addr} (hz : n ≤ zs.length) (hb : Below w.heap.size w w1)
    (hA : 0 < n → ∃ b off, a0 = some ⟨b, off, none⟩ ∧ ∀ j, j < n → w.cell? ⟨b, off + j, none⟩ = some (.int .u8 (zs.getD j 0))) :
    0 < (elems n zs).length → dp = dp ∧ ∃ ad : Addr, a0 = some ad ∧ ∀ (j : Nat) (v : Value), (elems n zs)[j]? = some v → w1.cell? (ad.add j) = some v := by
  intro h0
  rw [elems_length hz] at h0
  obtain ⟨b, off, rfl, hc⟩ := hA h0
  refine ⟨rfl, _, rfl, fun j v hv => ?_⟩
  obtain ⟨hj, rfl⟩ := elems_some hz hv
  rw [Addr.add_lit, hb.cell (World.block_lt_of_cell? _ _ (hc j hj))]
  exact hc j hj

/-- What the loops read, in the world behind AppendOffset. -/
theorem read_c {w2 w3 : World} {n B : Nat} {zs : List Int} (hz : n ≤ zs.length) (hrow : w2.heap[B]? = some (.cells (elems n zs).toArray 5 (0, 0))) (hb : Below w2.heap.size w2 w3) (hB : B < w2.heap.size) :
    ∀ j, j < n → w3.cell? ⟨B, j, none⟩ = some (.int .u8 (zs.getD j 0)) := by
  intro j hj
  rw [hb.cell (by exact hB), cell_of_row w2 B j _ 5 (0, 0) hrow, List.getElem?_toArray, elems_get hz hj]
theorem row_cells {w2 : World} {n B : Nat} {zs : List Int} (hrow : w2.heap[B]? = some (.cells (elems n zs).toArray 5 (0, 0))) :
    ∀ (j : Nat) (u : Value), (elems n zs)[j]? = some u → w2.cell? ⟨B, j, none⟩ = some u := by
  intro j u hu
  rw [cell_of_row w2 B j _ 5 (0, 0) hrow, List.getElem?_toArray, hu]
theorem read_got {w3 : World} {base n g cap : Nat} {zs : List Int} {x : Int} (hz : n ≤ zs.length) (hown : w3.ownsRow base 5 1 (.slice (some ⟨g, 0, none⟩) (n + 8) cap) (n + 8) (elems n zs ++ (digs x 8).map (Value.int .u8))) :
    (∀ j, j < n → w3.cell? ⟨g, j, none⟩ = some (.int .u8 (zs.getD j 0))) ∧ (∀ j, j < 8 → w3.cell? ⟨g, n + j, none⟩ = some (.int .u8 (hexd (nib x j)))) := by
  refine ⟨fun j hj => ?_, fun j hj => ?_⟩
  · rw [hown.cellAt j (by omega), List.getElem?_append_left (by rw [elems_length hz]; exact hj), elems_get hz hj]
  · rw [hown.cellAt (n + j) (by omega), List.getElem?_append_right (by rw [elems_length hz]; omega), elems_length hz, Nat.add_sub_cancel_left, List.getElem?_map, digs_get x 8 j hj]
    rfl

/-- 'nib := (off >> shift) & 15'. -/
theorem nib_bits (x : Int) (j : Nat) (h0 : 0 ≤ x) (h1 : x ≤ 4294967295) : bits BinOp.and IntKind.u32 (x / 2 ^ (28 - 4 * j)) 15 = nib x j := by
  have hp : (0 : Int) < 2 ^ (28 - 4 * j) := Int.pow_pos (by decide)
  unfold nib
  generalize (2 : Int) ^ (28 - 4 * j) = p at hp
  have hd0 : 0 ≤ x / p := Int.ediv_nonneg h0 (Int.le_of_lt hp)
  have hd1 : x / p ≤ x := Int.ediv_le_self p h0
  generalize x / p = y at hd0 hd1
  rw [u32_and y 15 hd0 (by omega) (by decide) (by decide)]
  have e : (15 : Int).toNat = 2 ^ 4 - 1 := by decide
  rw [e, Nat.and_two_pow_sub_one_eq_mod]
  omega

theorem hex_table (m : Nat) (h : m < 16) : ((((⟨#[48, 49, 50, 51, 52, 53, 54, 55, 56, 57, 97, 98, 99, 100, 101, 102]⟩ : ByteArray)[m]'(by exact h)).toNat : Nat) : Int) = hexd (m : Int) := by
  have hm : m = 0 ∨ m = 1 ∨ m = 2 ∨ m = 3 ∨ m = 4 ∨ m = 5 ∨ m = 6 ∨ m = 7 ∨ m = 8 ∨ m = 9 ∨ m = 10 ∨ m = 11 ∨ m = 12 ∨ m = 13 ∨ m = 14 ∨ m = 15 := by omega
  rcases hm with rfl | rfl | rfl | rfl | rfl | rfl | rfl | rfl | rfl | rfl | rfl | rfl | rfl | rfl | rfl | rfl <;> rfl

/-- 'digits[nib]'. -/
theorem index_hex (q : Int) (h0 : 0 ≤ q) (h1 : q < 16) (w : World) :
    (Instr.index 9 (.string ⟨#[48, 49, 50, 51, 52, 53, 54, 55, 56, 57, 97, 98, 99, 100, 101, 102]⟩) (.int .u32 q)).run Yaov.prog w = .ok (.int .u8 (hexd q)) w := by
  obtain ⟨m, rfl⟩ := Int.eq_ofNat_of_zero_le h0
  have hm : m < 16 := by omega
  rw [run_index_string w 9 _ .u32 (m : Int) Yaov.underlying9, dif_pos ⟨h0, h1⟩]
  have e := hex_table m hm
  simp only [Int.toNat_natCast]
  rw [e]

set_option maxHeartbeats 1600000 in
theorem walk_short (a0 : Option Addr) (n cap : Nat) (zs : List Int) (x : Int) (w : World) (hx0 : 0 ≤ x) (hx1 : x ≤ 4294967295) (hn : n ≤ 1024) (hz : n ≤ zs.length)
    (hA : 0 < n → ∃ b off, a0 = some ⟨b, off, none⟩ ∧ ∀ j, j < n → w.cell? ⟨b, off + j, none⟩ = some (.int .u8 (zs.getD j 0))) :
    Calls Yaov.prog 3 #[.slice a0 n cap, .int .u32 x] w fun e w' => e = .returned (.bool true) ∧ Below w.heap.size w w' := by
  obtain ⟨i0, hi, hz0, hz1, hz2⟩ := info_parts info5
  have hdec : decide ((1024 : Int) < (n : Int)) = false := decide_eq_false (by omega)
  go_enter Yaov.func3, Yaov.ntmps3
  go_wp2_with (at_make; refine wpList_make_full _ rfl (.tmp 15) (.tmp 15) 22 rfl w.heap.size 5 i0 (.int .u8 0) 1 Yaov.underlying22 hi hz0 hz1 .i64 .i64 _ _ n rfl rfl rfl rfl (by rw [hz2]; omega) (by unfold maxLen; omega) (Nat.le_refl _) ?_)
  intro w1 hown hgrow
  obtain ⟨cur, hcl, hcur⟩ := made_row hown
  have hb1 : Below w.heap.size w w1 := (Below.refl _ _).grown hgrow (Nat.le_refl _) (fun k h => by cases h)
  clear hown hgrow
  have HA : Hid (0 < n → ∃ b off, a0 = some ⟨b, off, none⟩ ∧ ∀ j, j < n → w.cell? ⟨b, off + j, none⟩ = some (.int .u8 (zs.getD j 0))) := hA
  have HCL : Hid (cur.length = n) := hcl
  clear hA hcl
  go_wp2_with (refine wpList_copy_splice rfl (.tmp 17) (.tmp 18) 22 22 rfl 5 Yaov.underlying22 size5 (some ⟨w.heap.size, 0, none⟩) a0 n n n cap ?_ ?_ w.heap.size 0 cur 5 hcur (elems n zs) ?_ (src_cells hz hb1 HA.out) ?_ (elems_one n zs) w.heap.size w hb1 (Nat.le_refl _) ?_)
  · rfl
  · rfl
  · rw [elems_length hz]; exact (Nat.min_self n).symm
  · rw [elems_length hz, HCL.out]; omega
  intro w2 hrow0 hb2
  have hrow : w2.heap[w.heap.size]? = some (.cells (elems n zs).toArray 5 (0, 0)) := by
    have h := hrow0.out
    rw [splice_whole (by rw [elems_length hz]; exact HCL.out)] at h
    exact h
  have hB : w.heap.size < w2.heap.size := (Array.getElem?_eq_some_iff.1 hrow).1
  have HR : Hid (w2.heap[w.heap.size]? = some (.cells (elems n zs).toArray 5 (0, 0))) := hrow
  clear hrow0 hrow hcur hb1 HCL
  go_wp2_with fail
  refine (offset_any w.heap.size n (elems n zs) x _ hx0 hx1 hn hB (elems_length hz) (row_cells HR.out)).mono ?_
  rintro e w3 ⟨v, rfl, hown, hb3⟩
  obtain ⟨g, cp, rfl, hg1, hg2⟩ := hown.form (by omega)
  obtain ⟨hgot, hdig⟩ := read_got hz hown
  have hcc := read_c hz HR.out hb3 hB
  have hbw : Below w.heap.size w w3 := hb2.trans (hb3.mono (by omega))
  clear hown HR hb2 hb3 hB hg1 hg2
  have HG : Hid (∀ j, j < n → w3.cell? ⟨g, j, none⟩ = some (.int .u8 (zs.getD j 0))) := hgot
  have HD : Hid (∀ j, j < 8 → w3.cell? ⟨g, n + j, none⟩ = some (.int .u8 (hexd (nib x j)))) := hdig
  have HCC : Hid (∀ j, j < n → w3.cell? ⟨w.heap.size, j, none⟩ = some (.int .u8 (zs.getD j 0))) := hcc
  clear hgot hdig hcc
  go_wp2_with fail
  go_loopw [7] (fun i wr => ∃ k m : Nat, k ≤ n ∧ i = .int .i64 k ∧ wr = w3.drewN m) (fun i _ => n - (intOf i).toNat)
  case atStart => exact ⟨0, 0, Nat.zero_le _, rfl, rfl⟩
  case round =>
    obtain ⟨k, m, hk, rfl, rfl⟩ := hrel
    by_cases hlt : k < n
    · obtain ⟨b, off, rfl, hcell⟩ := HA.out (by omega)
      have c1 := HG.out k hlt
      have c2 := HCC.out k hlt
      have c3 : w3.cell? ⟨b, off + k, none⟩ = some (.int .u8 (zs.getD k 0)) := (hbw.cell (by exact World.block_lt_of_cell? _ _ (hcell k hlt))).trans (hcell k hlt)
      have hki : (k : Int) < (n : Int) := by omega
      have hki8 : (k : Int) < ((n + 8 : Nat) : Int) := by omega
      have hk0 : (0 : Int) ≤ (k : Int) := by omega
      clear hcell
      generalize zs.getD k 0 = y at c1 c2 c3
      go_wp2_with fail
      go_quiet (fail)
      go_wp2_with fail
      go_roundw
      case rel => exact ⟨k + 1, _, by omega, by go_num, rfl⟩
      case measure => simp [intOf]; omega
    · obtain rfl : k = n := by omega
      clear HG HCC
      go_wp2_with fail
      go_loopw [8] (fun i wr => ∃ j m : Nat, j ≤ 8 ∧ i = .int .i64 j ∧ wr = w3.drewN m) (fun i _ => 8 - (intOf i).toNat)
      case atStart => exact ⟨0, m, Nat.zero_le _, rfl, rfl⟩
      case round =>
        obtain ⟨j, m, hj, rfl, rfl⟩ := hrel
        by_cases hlt : j < 8
        · have c1 := HD.out j hlt
          obtain ⟨hq0, hq1⟩ := nib_bounds x j
          have hb8 : ((k + j : Nat) : Int) < ((k + 8 : Nat) : Int) := by omega
          go_wp2_with fail
          rw [nib_bits x j hx0 hx1]
          generalize nib x j = q at c1 hq0 hq1 ⊢
          have hix := index_hex q hq0 hq1
          go_quiet (fail)
          go_wp2_with fail
          go_roundw
          case rel => exact ⟨j + 1, _, by omega, by go_num, rfl⟩
          case measure => simp [intOf]; omega
        · go_wp2
          go_ret
          exact ⟨rfl, Go.below_drewN hbw _⟩

end Go.Proofs.Ymwhao.lawS930004QAAWhole
