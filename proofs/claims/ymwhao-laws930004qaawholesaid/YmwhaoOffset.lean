/-
  THE WALK of 'AppendOffset' at a slice without spare room: the eight digits are laid behind the old cells, in a row of the call's own; what was there is left alone.
-/
import Derived.Test.YmwhaoDigits
import Derived.WalkKit
import Derived.ProofKit
import Derived.ArgAppend
import Derived.WalkSpells
namespace Go.Proofs.Ymwhao.lawS930004QAAWhole
open Go.RowKit

theorem info5 : (Yaov.prog.info? 5).map (fun i => (i.zero, i.size, i.bytes)) = some (some (.int .u8 0), 1, 1) := by kernel_rfl

theorem owns_lower {w : World} {b b' e s n : Nat} {v : Value} {xs : List Value} (h : w.ownsRow b e s v n xs) (hb : b' ≤ b) : w.ownsRow b' e s v n xs := by
  obtain ⟨h1, h2⟩ := h
  refine ⟨h1, ?_⟩
  rcases h2 with h2 | ⟨g, cap, cur, hv, hg, r⟩
  · exact .inl h2
  · exact .inr ⟨g, cap, cur, hv, Nat.le_trans hb hg, r⟩

theorem rel_first {w wr w1 : World} {o : Obj} {n : Nat} {v : Value} {xs : List Value} (hbel : Below w.heap.size w wr) (hown : w1.ownsRow (wr.alloc o).heap.size 5 1 v n xs) (hgrow : (wr.alloc o).grownBy w1 none) :
    Below w.heap.size w w1 ∧ w1.ownsRow w.heap.size 5 1 v n xs := by
  have hs := hbel.size
  have ha : w.heap.size ≤ (wr.alloc o).heap.size := by simp; omega
  exact ⟨(hbel.alloc hs o).grown hgrow ha (fun k h => by cases h), owns_lower hown ha⟩

theorem rel_next {w wr w1 : World} {o : Obj} {n m : Nat} {v v' : Value} {xs ys : List Value} (hbel : Below w.heap.size w wr) (hold : wr.ownsRow w.heap.size 5 1 v n xs) (hown : w1.ownsRow w.heap.size 5 1 v' m ys) (hgrow : (wr.alloc o).grownBy w1 v.ownBlock) :
    Below w.heap.size w w1 ∧ w1.ownsRow w.heap.size 5 1 v' m ys := by
  have hs := hbel.size
  have ha : w.heap.size ≤ (wr.alloc o).heap.size := by simp; omega
  exact ⟨(hbel.alloc hs o).grown hgrow ha (fun k h => (hold.lt k h).1), hown⟩

theorem old_cells {w wr : World} {B : Nat} {olds : List Value} (o : Obj) (hbel : Below w.heap.size w wr) (hB : B < w.heap.size) (hc : ∀ (j : Nat) (u : Value), olds[j]? = some u → w.cell? ⟨B, j, none⟩ = some u) :
    ∀ b : Addr, some (⟨B, 0, none⟩ : Addr) = some b → ∀ (j : Nat) (u : Value), olds[j]? = some u → (wr.alloc o).cell? (b.add j) = some u := by
  intro b hb j u hu
  obtain rfl := Option.some.inj hb
  rw [Addr.add_lit, Nat.zero_add]
  have h : Below w.heap.size w (wr.alloc o) := hbel.alloc hbel.size o
  rw [h.cell (by exact hB)]
  exact hc j u hu

set_option maxHeartbeats 800000 in
theorem offset_any (B n : Nat) (olds : List Value) (x : Int) (w : World) (hx0 : 0 ≤ x) (hx1 : x ≤ 4294967295) (hn : n ≤ 1024) (hB : B < w.heap.size) (hl : olds.length = n)
    (hc : ∀ (j : Nat) (u : Value), olds[j]? = some u → w.cell? ⟨B, j, none⟩ = some u) :
    Calls Yaov.prog 5 #[.slice (some ⟨B, 0, none⟩) n n, .int .u32 x] w fun e w' => ∃ v, e = .returned v ∧ w'.ownsRow w.heap.size 5 1 v (n + 8) (olds ++ (digs x 8).map (Value.int .u8)) ∧ Below w.heap.size w w' := by
  obtain ⟨i0, hi, hz0, hz1, hz2⟩ := info_parts info5
  have HL : Hid (olds.length = n) := hl
  have HC : Hid (∀ (j : Nat) (u : Value), olds[j]? = some u → w.cell? ⟨B, j, none⟩ = some u) := hc
  clear hl hc
  go_enter Yaov.func5, Yaov.ntmps5
  go_wp2
  go_loopw [0, 1, 5] (fun d o i wr => ∃ k : Nat, k ≤ 8 ∧ i = .int .i64 k ∧ o = .int .u32 (shl x k) ∧ Below w.heap.size w wr ∧
      ((k = 0 ∧ d = .slice (some ⟨B, 0, none⟩) n n) ∨ (0 < k ∧ wr.ownsRow w.heap.size 5 1 d (n + k) (olds ++ (digs x k).map (Value.int .u8)))))
    (fun _ _ i _ => 8 - (intOf i).toNat)
  case atStart => exact ⟨0, by omega, rfl, by rw [shl_zero x hx0 hx1], Below.refl _ _, .inl ⟨rfl, rfl⟩⟩
  case round =>
    obtain ⟨k, hk, rfl, rfl, hbel, hd⟩ := hrel
    obtain ⟨hs0, hs1⟩ := shl_bounds x k
    by_cases hlt : k < 8
    · have hnb := nib_bounds x k
      rcases hd with ⟨hk0, rfl⟩ | ⟨hk0, hown⟩
      · have HK : Hid (k = 0) := hk0
        clear hk0
        go_wp2_with fail
        rw [shl_nib x k hlt]
        refine (hex_any (nib x k) _ hnb.1 hnb.2).mono ?_
        rintro e w' ⟨rfl, rfl⟩
        go_wp2_with (at_builtin; refine wpList_append_grows _ rfl (.tmp 19) (.tmp 21) 22 rfl 5 i0 (.int .u8 0) 1 1 Yaov.underlying22 hi hz0 hz1 hz2 rfl (by decide) (some ⟨B, 0, none⟩) n n olds rfl (by simp) (by rw [HL.out]; omega) (old_cells _ hbel hB HC.out) ⟨w'.heap.size, 0, none⟩ 1 1 [.int .u8 (hexd (nib x k))] rfl rfl (cell_one_new _ _ _) (by simp [Value.oneCell']) (by omega) (by unfold maxLen; omega) (by omega) ?_; intro v' w1 hown' hgrow)
        have R := rel_first hbel hown' hgrow
        clear hown' hgrow
        go_roundw
        case rel =>
          refine ⟨k + 1, by omega, by go_num, by rw [shl_succ], R.1, .inr ⟨by omega, ?_⟩⟩
          have hk0 := HK.out
          subst hk0
          exact R.2
        case measure => simp [intOf]; omega
      · have hgt := hbel.size
        go_wp2_with fail
        rw [shl_nib x k hlt]
        refine (hex_any (nib x k) _ hnb.1 hnb.2).mono ?_
        rintro e w' ⟨rfl, rfl⟩
        go_wp2_with (at_builtin; refine wpList_append_own _ rfl (.tmp 19) (.tmp 21) 22 rfl w.heap.size 5 i0 (.int .u8 0) 1 1 Yaov.underlying22 hi hz0 hz1 hz2 rfl (by decide) _ _ _ rfl (hown.alloc _) ⟨w'.heap.size, 0, none⟩ 1 1 [.int .u8 (hexd (nib x k))] rfl rfl (cell_one_new _ _ _) (by simp [Value.oneCell']) (by unfold maxLen; omega) (by omega) (by simp; omega) ?_; intro v' w1 hown' hgrow _)
        have R := rel_next hbel hown hown' hgrow
        clear hown' hgrow hown
        go_roundw
        case rel =>
          refine ⟨k + 1, by omega, by go_num, by rw [shl_succ], R.1, .inr ⟨by omega, ?_⟩⟩
          rw [digs_succ, List.map_append, ← List.append_assoc]
          exact R.2
        case measure => simp [intOf]; omega
    · obtain rfl : k = 8 := by omega
      rcases hd with ⟨hk0, rfl⟩ | ⟨_, hown⟩
      · exact absurd hk0 (by decide)
      · go_wp2
        go_ret
        exact ⟨_, rfl, hown, hbel⟩

end Go.Proofs.Ymwhao.lawS930004QAAWhole
