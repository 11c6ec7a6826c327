/- The law RecsPointers answers true, at every input. -/
import Derived.Test.YtambpbgmmmiocaaA1
namespace Go.Proofs.Ytambpbgmmmiocaa
open Go.RowKit

set_option maxRecDepth 100000 in
set_option maxHeartbeats 4000000 in
theorem pointers_any (l i p : Int) (v : Bool) (w : World) (hl : -9223372036854775808 ≤ l ∧ l ≤ 9223372036854775807) (hi : -9223372036854775808 ≤ i ∧ i ≤ 9223372036854775807) (h0 : 0 ≤ p) (h1 : p ≤ 18446744073709551615) :
    Calls Try.prog 3 #[.agg #[.int .i64 l, .int .i64 i, .int .u64 p, .bool v]] w fun e w' => e = .returned (.bool true) ∧ Below w.heap.size w w' := by
  have F := at4_new w (.int .i64 l) (.int .i64 i) (.int .u64 p) (.bool v) 25
  have B := Lib.hid (below1 w (.cells #[.int .i64 l, .int .i64 i, .int .u64 p, .bool v] 25))
  go_enter Try.func3, Try.ntmps3
  go_upto_region 1 with (fail)
  show Code.wp _ _ _ _ (w.alloc (.cells #[.int .i64 l, .int .i64 i, .int .u64 p, .bool v] 25))
  generalize w.alloc (.cells #[.int .i64 l, .int .i64 i, .int .u64 p, .bool v] 25) = W at *
  have lt := F.lt
  obtain ⟨f0, f1, f2, f3⟩ := F
  have s0 : (∀ b o, b < W.heap.size → W.cell? ⟨b, o, none⟩ = W.cell? ⟨b, o, none⟩) ∧ Hid (Below W.heap.size W W) := stays_refl W
  go_wp2_with (first
    | (go_at_call 5; refine (inner_any _ _ _ hl hi).mono ?_; rintro e w1 ⟨rfl, hb⟩; have s1 : (∀ b o, b < W.heap.size → w1.cell? ⟨b, o, none⟩ = W.cell? ⟨b, o, none⟩) ∧ Hid (Below W.heap.size W w1) := Stays.then (by assumption) hb; clear hb)
    | (go_at_call 6; refine (inner_ref _ _ _ hl hi).mono ?_; rintro e w1 ⟨rfl, hb⟩; have s1 : (∀ b o, b < W.heap.size → w1.cell? ⟨b, o, none⟩ = W.cell? ⟨b, o, none⟩) ∧ Hid (Below W.heap.size W w1) := Stays.then (by assumption) hb; clear hb)
    | (go_at_call 7; refine (leaf_any 7 (.inl rfl) _ _).mono ?_; rintro e w1 ⟨rfl, hb⟩; have s1 : (∀ b o, b < W.heap.size → w1.cell? ⟨b, o, none⟩ = W.cell? ⟨b, o, none⟩) ∧ Hid (Below W.heap.size W w1) := Stays.then (by assumption) hb; clear hb)
    | (go_at_call 8; refine (leaf_any 8 (.inr rfl) _ _).mono ?_; rintro e w1 ⟨rfl, hb⟩; have s1 : (∀ b o, b < W.heap.size → w1.cell? ⟨b, o, none⟩ = W.cell? ⟨b, o, none⟩) ∧ Hid (Below W.heap.size W w1) := Stays.then (by assumption) hb; clear hb)
    | (go_at_call 9; refine (level_any _ _ h0 h1).mono ?_; rintro e w1 ⟨rfl, hb⟩; have s1 : (∀ b o, b < W.heap.size → w1.cell? ⟨b, o, none⟩ = W.cell? ⟨b, o, none⟩) ∧ Hid (Below W.heap.size W w1) := Stays.then (by assumption) hb; clear hb)
    | (go_at_call 10; refine (level_ref _ _ h0 h1).mono ?_; rintro e w1 ⟨rfl, hb⟩; have s1 : (∀ b o, b < W.heap.size → w1.cell? ⟨b, o, none⟩ = W.cell? ⟨b, o, none⟩) ∧ Hid (Below W.heap.size W w1) := Stays.then (by assumption) hb; clear hb)
    | (go_at_call 11; refine (split_any _ _ h0 h1).mono ?_; rintro e w1 ⟨rfl, hb⟩; have s1 : (∀ b o, b < W.heap.size → w1.cell? ⟨b, o, none⟩ = W.cell? ⟨b, o, none⟩) ∧ Hid (Below W.heap.size W w1) := Stays.then (by assumption) hb; clear hb)
    | (go_at_call 12; refine (split_ref _ _ h0 h1).mono ?_; rintro e w1 ⟨rfl, hb⟩; have s1 : (∀ b o, b < W.heap.size → w1.cell? ⟨b, o, none⟩ = W.cell? ⟨b, o, none⟩) ∧ Hid (Below W.heap.size W w1) := Stays.then (by assumption) hb; clear hb))
  go_ret
  exact ⟨ret_bool (by simp), below_self B.out s1.2.out⟩
end Go.Proofs.Ytambpbgmmmiocaa
