/- number of the document's answer: bytes put behind a row of the call's own. -/
import Derived.Test.YtambpbgmmmiocaaDoorE3
namespace Go.Proofs.YtambpbgmmmiocaaDoor
open Go.RowKit

theorem info5 : (Tryd.prog.info? 5).map (fun i => (i.zero, i.size, i.bytes)) = some (some (.int .u8 0), 1, 1) := by kernel_rfl
theorem le_snoc (n : Nat) (v : Int) : le (n + 1) v = le n v ++ [v / 2 ^ (8 * n) % 256] := rfl
theorem Owns.block_or {w : World} {base : Nat} {e : TypeId} {v : Value} {xs : List Value} (h : Owns w base e v xs) : v.ownBlock = none ∨ ∃ g, v.ownBlock = some g ∧ base ≤ g ∧ g < w.heap.size := by
  cases hv : v.ownBlock with
  | none => exact .inl rfl
  | some g => exact .inr ⟨g, rfl, (h.lt hv).1, (h.lt hv).2⟩

/-- What a function that puts numbers behind a row leaves: the row, longer. -/
def Pushed (base : Nat) (e : TypeId) (sv : Value) (xs : List Value) (w : World) (en : Ending) (w' : World) : Prop :=
  ∃ sv', en = .returned sv' ∧ Owns w' base e sv' xs ∧ w.grownBy w' sv.ownBlock ∧ (sv'.ownBlock = sv.ownBlock ∨ ∃ g, sv'.ownBlock = some g ∧ w.heap.size ≤ g)
theorem div_step (v : Int) (k : Nat) : v / 2 ^ (8 * k) / 256 = v / 2 ^ (8 * (k + 1)) := by
  rw [Int.ediv_ediv_of_nonneg (Int.pow_nonneg (by omega)), show 8 * (k + 1) = 8 * k + 8 by omega, Int.pow_add]; rfl
set_option maxHeartbeats 2000000 in
theorem number_any (base : Nat) (sv : Value) (xs : List Value) (v : Int) (n : Nat) (w : World) (hown : Owns w base 5 sv xs) (hbase : base ≤ w.heap.size) (hv0 : 0 ≤ v) (hv : v ≤ 18446744073709551615) (hlen : xs.length + n ≤ 70000000) :
    Calls Tryd.prog 32 #[sv, .int .u64 v, .int .i64 n] w (Pushed base 5 sv (xs ++ nums .u8 (le n v)) w) := by
  have HO := Lib.hid hown
  clear hown
  go_enter Tryd.func32, Tryd.ntmps32
  go_wp2
  go_loopw [0, 1, 7] (fun s x i wr => ∃ k : Nat, ∃ y : Int, k ≤ n ∧ i = .int .i64 k ∧ x = .int .u64 y ∧ 0 ≤ y ∧ y ≤ 18446744073709551615 ∧ Hid (y = v / 2 ^ (8 * k)) ∧ Hid (Owns wr base 5 s (xs ++ nums .u8 (le k v))) ∧ Hid (w.grownBy wr sv.ownBlock) ∧ Hid (s.ownBlock = sv.ownBlock ∨ ∃ g, s.ownBlock = some g ∧ w.heap.size ≤ g)) (fun _ _ i _ => n - (intOf i).toNat)
  case atStart => exact ⟨0, v, by omega, rfl, rfl, hv0, hv, Lib.hid (by simp), Lib.hid (by rw [show le 0 v = [] from rfl]; simpa [nums] using HO.out), Lib.hid (only_refl _ _), Lib.hid (.inl rfl)⟩
  case round =>
    obtain ⟨k, y, hk, rfl, rfl, hy0, hy1, HY, HW, HG, HB⟩ := hrel
    by_cases hlt : k < n
    · have hll : (xs ++ nums .u8 (le k v)).length = xs.length + k := by rw [List.length_append, nums_length, le_length]
      go_wp2_with (at_builtin; refine wpList_push rfl _ _ 36 rfl base 5 _ 1 Tryd.underlying36 info5 rfl u0 (xs ++ nums .u8 (le k v)) rfl (HW.out.below (below1 _ _)) ⟨wr.heap.size, 0, none⟩ (.int .u8 (y % 256)) rfl (by simp [go_sem]) rfl (by rw [hll]; omega) (by have := HG.out.size; simp; omega) ?_; intro v1 w1 hown1 hg1 hb1)
      go_roundw
      case rel =>
        refine ⟨k + 1, y / 256, by omega, by go_num, rfl, by omega, by omega, Lib.hid (by rw [HY.out, div_step]), Lib.hid ?_, Lib.hid ?_, Lib.hid ?_⟩
        · rw [le_snoc, nums_append, ← List.append_assoc, ← HY.out]; exact hown1
        · exact only_step HG.out (only_trans (only_of_below (below1 _ _) _) hg1) (by
            rcases HB.out with h | ⟨g, h, hg⟩
            · exact .inl h
            · exact .inr fun g' e => by rw [h] at e; cases e; exact hg)
        · rcases hb1 with h | h
          · rw [h]; exact HB.out
          · exact .inr ⟨_, h, by have := HG.out.size; simp; omega⟩
      case measure => simp [intOf]; omega
    · obtain rfl : k = n := by omega
      go_wp2
      go_ret
      exact ⟨_, rfl, HW.out, HG.out, HB.out⟩
end Go.Proofs.YtambpbgmmmiocaaDoor
