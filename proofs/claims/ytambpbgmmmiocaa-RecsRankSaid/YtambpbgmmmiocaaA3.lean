/- The law RecsRank answers true, at every input. -/
import Derived.Test.YtambpbgmmmiocaaA1
namespace Go.Proofs.Ytambpbgmmmiocaa
open Go.RowKit

def wi (v n : Int) : Int := (if v < 0 then -(v + 1) else v) % n
theorem wi_range (v n : Int) (h : 0 < n) : 0 ≤ wi v n ∧ wi v n < n := by
  unfold wi
  exact ⟨Int.emod_nonneg _ (by omega), Int.emod_lt_of_pos _ h⟩
set_option maxHeartbeats 1000000 in
theorem within_any (v n : Int) (w : World) (h0 : -9223372036854775808 ≤ v) (h1 : v ≤ 9223372036854775807) (h2 : 1 ≤ n) (h3 : n ≤ 9223372036854775807) :
    Calls Try.prog 13 #[.int .i64 v, .int .i64 n] w fun e w' => e = .returned (.int .i64 (wi v n)) ∧ Below w.heap.size w w' := by
  by_cases a : v < 0
  · have H : Hid (wi v n = -(v + 1) % n) := Lib.hid (by unfold wi; rw [if_pos a])
    have hn : (n == 0) = false := by simp; omega
    go_enter Try.func13, Try.ntmps13
    go_wp2
    go_ret
    exact ⟨ret_int (by rw [H.out]; exact (Int.neg_tmod ..).symm.trans (Int.tmod_eq_emod_of_nonneg (by omega))), Below.refl _ _⟩
  · have H : Hid (wi v n = v % n) := Lib.hid (by unfold wi; rw [if_neg a])
    have hn : (n == 0) = false := by simp; omega
    go_enter Try.func13, Try.ntmps13
    go_wp2
    go_ret
    exact ⟨ret_int (by rw [H.out]; try rfl), Below.refl _ _⟩

section
variable (l i : Int) (w : World) (l0 : 0 ≤ l) (l1 : l < 65536) (i0 : 0 ≤ i) (i1 : i < 1099511627776)
include l0 l1 i0 i1
theorem inner_ok : Calls Try.prog 5 #[.int .i64 l, .int .i64 i] w fun e w' => e = .returned (.tuple #[.int .u64 (l * 1099511627776 + i), .int .i64 0]) ∧ Below w.heap.size w w' := by
  refine (inner_any l i w (by omega) (by omega)).mono fun e w' ⟨he, hb⟩ => ⟨?_, hb⟩
  rw [he]
  unfold innerP innerE
  rw [if_neg (by omega), if_neg (by omega), if_neg (by omega), if_neg (by omega), if_neg (by omega), if_neg (by omega), if_neg (by omega), if_neg (by omega)]
theorem node_facts : spLeaf (l * 1099511627776 + i) = false ∧ spOk (l * 1099511627776 + i) = true ∧ spL (l * 1099511627776 + i) = l ∧ spI (l * 1099511627776 + i) = i ∧ (l * 1099511627776 + i == 9223372036854775809) = false := by
  have a : spLeaf (l * 1099511627776 + i) = false := by
    unfold spLeaf
    rw [Bool.or_eq_false_iff]
    exact ⟨by rw [beq_eq_false_iff_ne]; omega, by rw [beq_eq_false_iff_ne]; omega⟩
  have d : (l * 1099511627776 + i) / 1099511627776 = l := by omega
  have m : (l * 1099511627776 + i) % 1099511627776 = i := by omega
  refine ⟨a, ?_, ?_, ?_, by rw [beq_eq_false_iff_ne]; omega⟩
  · unfold spOk; rw [d]; simp [l1]
  · unfold spL; rw [a, d]; simp [l1]
  · unfold spI; rw [a, d, m]; simp [l1]
theorem split_node : Calls Try.prog 11 #[.int .u64 (l * 1099511627776 + i)] w fun e w' => e = .returned (.tuple #[.int .i64 l, .int .i64 i, .bool false, .bool false, .bool true]) ∧ Below w.heap.size w w' := by
  obtain ⟨a, b, c, d, e5⟩ := node_facts l i l0 l1 i0 i1
  refine (split_any _ w (by omega) (by omega)).mono fun e w' ⟨he, hb⟩ => ⟨?_, hb⟩
  rw [he, a, b, c, d, e5]
theorem level_node : Calls Try.prog 9 #[.int .u64 (l * 1099511627776 + i)] w fun e w' => e = .returned (.int .i64 l) ∧ Below w.heap.size w w' := by
  obtain ⟨a, b, c, d, e5⟩ := node_facts l i l0 l1 i0 i1
  refine (level_any _ w (by omega) (by omega)).mono fun e w' ⟨he, hb⟩ => ⟨?_, hb⟩
  rw [he]
  unfold lev
  rw [a, b, c]; rfl
end
theorem level_leaf (v : Bool) (w : World) : Calls Try.prog 9 #[.int .u64 (leafP v)] w fun e w' => e = .returned (.int .i64 65536) ∧ Below w.heap.size w w' := by
  refine (level_any _ w (by cases v <;> decide) (by cases v <;> decide)).mono fun e w' ⟨he, hb⟩ => ⟨?_, hb⟩
  rw [he]
  cases v <;> rfl

theorem level_leaf0 (w : World) : Calls Try.prog 9 #[.int .u64 9223372036854775808] w fun e w' => e = .returned (.int .i64 65536) ∧ Below w.heap.size w w' := level_leaf false w
theorem level_leaf1 (w : World) : Calls Try.prog 9 #[.int .u64 9223372036854775809] w fun e w' => e = .returned (.int .i64 65536) ∧ Below w.heap.size w w' := level_leaf true w

set_option maxRecDepth 100000 in
set_option maxHeartbeats 8000000 in
theorem rank_any (xl xi xp : Int) (xv : Bool) (yl yi yp : Int) (yv : Bool) (w : World) (a0 : -9223372036854775808 ≤ xl ∧ xl ≤ 9223372036854775807) (a1 : -9223372036854775808 ≤ xi ∧ xi ≤ 9223372036854775807)
    (b0 : -9223372036854775808 ≤ yl ∧ yl ≤ 9223372036854775807) (b1 : -9223372036854775808 ≤ yi ∧ yi ≤ 9223372036854775807) :
    Calls Try.prog 4 #[.agg #[.int .i64 xl, .int .i64 xi, .int .u64 xp, .bool xv], .agg #[.int .i64 yl, .int .i64 yi, .int .u64 yp, .bool yv]] w fun e w' => e = .returned (.bool true) ∧ Below w.heap.size w w' := by
  have F := (at4_new w (.int .i64 xl) (.int .i64 xi) (.int .u64 xp) (.bool xv) 25).alloc (.cells #[.int .i64 yl, .int .i64 yi, .int .u64 yp, .bool yv] 25)
  have G := at4_new (w.alloc (.cells #[.int .i64 xl, .int .i64 xi, .int .u64 xp, .bool xv] 25)) (.int .i64 yl) (.int .i64 yi) (.int .u64 yp) (.bool yv) 25
  have B := Lib.hid (below2 w (.cells #[.int .i64 xl, .int .i64 xi, .int .u64 xp, .bool xv] 25) (.cells #[.int .i64 yl, .int .i64 yi, .int .u64 yp, .bool yv] 25))
  simp only [World.size_alloc] at G
  go_enter Try.func4, Try.ntmps4
  go_upto_region 1 with (fail)
  show Code.wp _ _ _ _ ((w.alloc (.cells #[.int .i64 xl, .int .i64 xi, .int .u64 xp, .bool xv] 25)).alloc (.cells #[.int .i64 yl, .int .i64 yi, .int .u64 yp, .bool yv] 25))
  generalize (w.alloc (.cells #[.int .i64 xl, .int .i64 xi, .int .u64 xp, .bool xv] 25)).alloc (.cells #[.int .i64 yl, .int .i64 yi, .int .u64 yp, .bool yv] 25) = W at *
  have lt := F.lt
  have lt2 := G.lt
  obtain ⟨f0, f1, f2, f3⟩ := F
  obtain ⟨g0, g1, g2, g3⟩ := G
  have s0 : (∀ b o, b < W.heap.size → W.cell? ⟨b, o, none⟩ = W.cell? ⟨b, o, none⟩) ∧ Hid (Below W.heap.size W W) := stays_refl W
  obtain ⟨l0, l1⟩ := wi_range xl 65536 (by omega)
  obtain ⟨m0, m1⟩ := wi_range yl 65536 (by omega)
  obtain ⟨i0, i1⟩ := wi_range xi 1099511627776 (by omega)
  obtain ⟨j0, j1⟩ := wi_range yi 1099511627776 (by omega)
  go_upto_region 5 with (first | ((go_at_call 13; (with_reducible refine (within_any _ _ _ (by omega) (by omega) (by omega) (by omega)).mono ?_); rintro e w1 ⟨rfl, hb⟩; have s1 : (∀ b o, b < W.heap.size → w1.cell? ⟨b, o, none⟩ = W.cell? ⟨b, o, none⟩) ∧ Hid (Below W.heap.size W w1) := Stays.then (by assumption) hb; clear hb)) | ((go_at_call 5; (with_reducible refine (inner_ok _ _ _ l0 l1 i0 i1).mono ?_); rintro e w1 ⟨rfl, hb⟩; have s1 : (∀ b o, b < W.heap.size → w1.cell? ⟨b, o, none⟩ = W.cell? ⟨b, o, none⟩) ∧ Hid (Below W.heap.size W w1) := Stays.then (by assumption) hb; clear hb)) | ((go_at_call 5; (with_reducible refine (inner_ok _ _ _ m0 m1 j0 j1).mono ?_); rintro e w1 ⟨rfl, hb⟩; have s1 : (∀ b o, b < W.heap.size → w1.cell? ⟨b, o, none⟩ = W.cell? ⟨b, o, none⟩) ∧ Hid (Below W.heap.size W w1) := Stays.then (by assumption) hb; clear hb)) | ((go_at_call 7; (with_reducible refine (leaf_any 7 (.inl rfl) _ _).mono ?_); rintro e w1 ⟨rfl, hb⟩; have s1 : (∀ b o, b < W.heap.size → w1.cell? ⟨b, o, none⟩ = W.cell? ⟨b, o, none⟩) ∧ Hid (Below W.heap.size W w1) := Stays.then (by assumption) hb; clear hb)) | ((go_at_call 9; (with_reducible refine (level_node _ _ _ l0 l1 i0 i1).mono ?_); rintro e w1 ⟨rfl, hb⟩; have s1 : (∀ b o, b < W.heap.size → w1.cell? ⟨b, o, none⟩ = W.cell? ⟨b, o, none⟩) ∧ Hid (Below W.heap.size W w1) := Stays.then (by assumption) hb; clear hb)) | ((go_at_call 9; (with_reducible refine (level_leaf1 _).mono ?_); rintro e w1 ⟨rfl, hb⟩; have s1 : (∀ b o, b < W.heap.size → w1.cell? ⟨b, o, none⟩ = W.cell? ⟨b, o, none⟩) ∧ Hid (Below W.heap.size W w1) := Stays.then (by assumption) hb; clear hb)) | ((go_at_call 9; (with_reducible refine (level_leaf0 _).mono ?_); rintro e w1 ⟨rfl, hb⟩; have s1 : (∀ b o, b < W.heap.size → w1.cell? ⟨b, o, none⟩ = W.cell? ⟨b, o, none⟩) ∧ Hid (Below W.heap.size W w1) := Stays.then (by assumption) hb; clear hb)) | ((go_at_call 11; (with_reducible refine (split_node _ _ _ l0 l1 i0 i1).mono ?_); rintro e w1 ⟨rfl, hb⟩; have s1 : (∀ b o, b < W.heap.size → w1.cell? ⟨b, o, none⟩ = W.cell? ⟨b, o, none⟩) ∧ Hid (Below W.heap.size W w1) := Stays.then (by assumption) hb; clear hb)))
  generalize wi xl 65536 = l at *
  generalize wi yl 65536 = m at *
  generalize wi xi 1099511627776 = i at *
  generalize wi yi 1099511627776 = j at *
  clear a0 a1 b0 b1 f0 f1 f2 f3 g0 g1 g2 g3 lt lt2
  have e1 : leafP false = 9223372036854775808 := rfl
  have e2 : leafP true = 9223372036854775809 := rfl
  rcases Int.lt_trichotomy l m with h | h | h
  · have q1 : (l == m) = false := by rw [beq_eq_false_iff_ne]; omega
    have q2 : (l * 1099511627776 + i == m * 1099511627776 + j) = false := by rw [beq_eq_false_iff_ne]; omega
    go_wp2_with (first | ((go_at_call 13; (with_reducible refine (within_any _ _ _ (by omega) (by omega) (by omega) (by omega)).mono ?_); rintro e w1 ⟨rfl, hb⟩; have s1 : (∀ b o, b < W.heap.size → w1.cell? ⟨b, o, none⟩ = W.cell? ⟨b, o, none⟩) ∧ Hid (Below W.heap.size W w1) := Stays.then (by assumption) hb; clear hb)) | ((go_at_call 5; (with_reducible refine (inner_ok _ _ _ l0 l1 i0 i1).mono ?_); rintro e w1 ⟨rfl, hb⟩; have s1 : (∀ b o, b < W.heap.size → w1.cell? ⟨b, o, none⟩ = W.cell? ⟨b, o, none⟩) ∧ Hid (Below W.heap.size W w1) := Stays.then (by assumption) hb; clear hb)) | ((go_at_call 5; (with_reducible refine (inner_ok _ _ _ m0 m1 j0 j1).mono ?_); rintro e w1 ⟨rfl, hb⟩; have s1 : (∀ b o, b < W.heap.size → w1.cell? ⟨b, o, none⟩ = W.cell? ⟨b, o, none⟩) ∧ Hid (Below W.heap.size W w1) := Stays.then (by assumption) hb; clear hb)) | ((go_at_call 7; (with_reducible refine (leaf_any 7 (.inl rfl) _ _).mono ?_); rintro e w1 ⟨rfl, hb⟩; have s1 : (∀ b o, b < W.heap.size → w1.cell? ⟨b, o, none⟩ = W.cell? ⟨b, o, none⟩) ∧ Hid (Below W.heap.size W w1) := Stays.then (by assumption) hb; clear hb)) | ((go_at_call 9; (with_reducible refine (level_node _ _ _ l0 l1 i0 i1).mono ?_); rintro e w1 ⟨rfl, hb⟩; have s1 : (∀ b o, b < W.heap.size → w1.cell? ⟨b, o, none⟩ = W.cell? ⟨b, o, none⟩) ∧ Hid (Below W.heap.size W w1) := Stays.then (by assumption) hb; clear hb)) | ((go_at_call 9; (with_reducible refine (level_leaf1 _).mono ?_); rintro e w1 ⟨rfl, hb⟩; have s1 : (∀ b o, b < W.heap.size → w1.cell? ⟨b, o, none⟩ = W.cell? ⟨b, o, none⟩) ∧ Hid (Below W.heap.size W w1) := Stays.then (by assumption) hb; clear hb)) | ((go_at_call 9; (with_reducible refine (level_leaf0 _).mono ?_); rintro e w1 ⟨rfl, hb⟩; have s1 : (∀ b o, b < W.heap.size → w1.cell? ⟨b, o, none⟩ = W.cell? ⟨b, o, none⟩) ∧ Hid (Below W.heap.size W w1) := Stays.then (by assumption) hb; clear hb)) | ((go_at_call 11; (with_reducible refine (split_node _ _ _ l0 l1 i0 i1).mono ?_); rintro e w1 ⟨rfl, hb⟩; have s1 : (∀ b o, b < W.heap.size → w1.cell? ⟨b, o, none⟩ = W.cell? ⟨b, o, none⟩) ∧ Hid (Below W.heap.size W w1) := Stays.then (by assumption) hb; clear hb)))
    go_ret
    exact ⟨ret_bool (by simp), below_self B.out s1.2.out⟩
  · subst h
    rcases Int.lt_trichotomy i j with k | k | k
    · have q1 : (i == j) = false := by rw [beq_eq_false_iff_ne]; omega
      have q2 : (l * 1099511627776 + i == l * 1099511627776 + j) = false := by rw [beq_eq_false_iff_ne]; omega
      go_wp2_with (first | ((go_at_call 13; (with_reducible refine (within_any _ _ _ (by omega) (by omega) (by omega) (by omega)).mono ?_); rintro e w1 ⟨rfl, hb⟩; have s1 : (∀ b o, b < W.heap.size → w1.cell? ⟨b, o, none⟩ = W.cell? ⟨b, o, none⟩) ∧ Hid (Below W.heap.size W w1) := Stays.then (by assumption) hb; clear hb)) | ((go_at_call 5; (with_reducible refine (inner_ok _ _ _ l0 l1 i0 i1).mono ?_); rintro e w1 ⟨rfl, hb⟩; have s1 : (∀ b o, b < W.heap.size → w1.cell? ⟨b, o, none⟩ = W.cell? ⟨b, o, none⟩) ∧ Hid (Below W.heap.size W w1) := Stays.then (by assumption) hb; clear hb)) | ((go_at_call 5; (with_reducible refine (inner_ok _ _ _ m0 m1 j0 j1).mono ?_); rintro e w1 ⟨rfl, hb⟩; have s1 : (∀ b o, b < W.heap.size → w1.cell? ⟨b, o, none⟩ = W.cell? ⟨b, o, none⟩) ∧ Hid (Below W.heap.size W w1) := Stays.then (by assumption) hb; clear hb)) | ((go_at_call 7; (with_reducible refine (leaf_any 7 (.inl rfl) _ _).mono ?_); rintro e w1 ⟨rfl, hb⟩; have s1 : (∀ b o, b < W.heap.size → w1.cell? ⟨b, o, none⟩ = W.cell? ⟨b, o, none⟩) ∧ Hid (Below W.heap.size W w1) := Stays.then (by assumption) hb; clear hb)) | ((go_at_call 9; (with_reducible refine (level_node _ _ _ l0 l1 i0 i1).mono ?_); rintro e w1 ⟨rfl, hb⟩; have s1 : (∀ b o, b < W.heap.size → w1.cell? ⟨b, o, none⟩ = W.cell? ⟨b, o, none⟩) ∧ Hid (Below W.heap.size W w1) := Stays.then (by assumption) hb; clear hb)) | ((go_at_call 9; (with_reducible refine (level_leaf1 _).mono ?_); rintro e w1 ⟨rfl, hb⟩; have s1 : (∀ b o, b < W.heap.size → w1.cell? ⟨b, o, none⟩ = W.cell? ⟨b, o, none⟩) ∧ Hid (Below W.heap.size W w1) := Stays.then (by assumption) hb; clear hb)) | ((go_at_call 9; (with_reducible refine (level_leaf0 _).mono ?_); rintro e w1 ⟨rfl, hb⟩; have s1 : (∀ b o, b < W.heap.size → w1.cell? ⟨b, o, none⟩ = W.cell? ⟨b, o, none⟩) ∧ Hid (Below W.heap.size W w1) := Stays.then (by assumption) hb; clear hb)) | ((go_at_call 11; (with_reducible refine (split_node _ _ _ l0 l1 i0 i1).mono ?_); rintro e w1 ⟨rfl, hb⟩; have s1 : (∀ b o, b < W.heap.size → w1.cell? ⟨b, o, none⟩ = W.cell? ⟨b, o, none⟩) ∧ Hid (Below W.heap.size W w1) := Stays.then (by assumption) hb; clear hb)))
      go_ret
      exact ⟨ret_bool (by simp), below_self B.out s1.2.out⟩
    · subst k
      go_wp2_with (first | ((go_at_call 13; (with_reducible refine (within_any _ _ _ (by omega) (by omega) (by omega) (by omega)).mono ?_); rintro e w1 ⟨rfl, hb⟩; have s1 : (∀ b o, b < W.heap.size → w1.cell? ⟨b, o, none⟩ = W.cell? ⟨b, o, none⟩) ∧ Hid (Below W.heap.size W w1) := Stays.then (by assumption) hb; clear hb)) | ((go_at_call 5; (with_reducible refine (inner_ok _ _ _ l0 l1 i0 i1).mono ?_); rintro e w1 ⟨rfl, hb⟩; have s1 : (∀ b o, b < W.heap.size → w1.cell? ⟨b, o, none⟩ = W.cell? ⟨b, o, none⟩) ∧ Hid (Below W.heap.size W w1) := Stays.then (by assumption) hb; clear hb)) | ((go_at_call 5; (with_reducible refine (inner_ok _ _ _ m0 m1 j0 j1).mono ?_); rintro e w1 ⟨rfl, hb⟩; have s1 : (∀ b o, b < W.heap.size → w1.cell? ⟨b, o, none⟩ = W.cell? ⟨b, o, none⟩) ∧ Hid (Below W.heap.size W w1) := Stays.then (by assumption) hb; clear hb)) | ((go_at_call 7; (with_reducible refine (leaf_any 7 (.inl rfl) _ _).mono ?_); rintro e w1 ⟨rfl, hb⟩; have s1 : (∀ b o, b < W.heap.size → w1.cell? ⟨b, o, none⟩ = W.cell? ⟨b, o, none⟩) ∧ Hid (Below W.heap.size W w1) := Stays.then (by assumption) hb; clear hb)) | ((go_at_call 9; (with_reducible refine (level_node _ _ _ l0 l1 i0 i1).mono ?_); rintro e w1 ⟨rfl, hb⟩; have s1 : (∀ b o, b < W.heap.size → w1.cell? ⟨b, o, none⟩ = W.cell? ⟨b, o, none⟩) ∧ Hid (Below W.heap.size W w1) := Stays.then (by assumption) hb; clear hb)) | ((go_at_call 9; (with_reducible refine (level_leaf1 _).mono ?_); rintro e w1 ⟨rfl, hb⟩; have s1 : (∀ b o, b < W.heap.size → w1.cell? ⟨b, o, none⟩ = W.cell? ⟨b, o, none⟩) ∧ Hid (Below W.heap.size W w1) := Stays.then (by assumption) hb; clear hb)) | ((go_at_call 9; (with_reducible refine (level_leaf0 _).mono ?_); rintro e w1 ⟨rfl, hb⟩; have s1 : (∀ b o, b < W.heap.size → w1.cell? ⟨b, o, none⟩ = W.cell? ⟨b, o, none⟩) ∧ Hid (Below W.heap.size W w1) := Stays.then (by assumption) hb; clear hb)) | ((go_at_call 11; (with_reducible refine (split_node _ _ _ l0 l1 i0 i1).mono ?_); rintro e w1 ⟨rfl, hb⟩; have s1 : (∀ b o, b < W.heap.size → w1.cell? ⟨b, o, none⟩ = W.cell? ⟨b, o, none⟩) ∧ Hid (Below W.heap.size W w1) := Stays.then (by assumption) hb; clear hb)))
      go_ret
      exact ⟨ret_bool (by simp), below_self B.out s1.2.out⟩
    · have q1 : (i == j) = false := by rw [beq_eq_false_iff_ne]; omega
      have q2 : (l * 1099511627776 + i == l * 1099511627776 + j) = false := by rw [beq_eq_false_iff_ne]; omega
      go_wp2_with (first | ((go_at_call 13; (with_reducible refine (within_any _ _ _ (by omega) (by omega) (by omega) (by omega)).mono ?_); rintro e w1 ⟨rfl, hb⟩; have s1 : (∀ b o, b < W.heap.size → w1.cell? ⟨b, o, none⟩ = W.cell? ⟨b, o, none⟩) ∧ Hid (Below W.heap.size W w1) := Stays.then (by assumption) hb; clear hb)) | ((go_at_call 5; (with_reducible refine (inner_ok _ _ _ l0 l1 i0 i1).mono ?_); rintro e w1 ⟨rfl, hb⟩; have s1 : (∀ b o, b < W.heap.size → w1.cell? ⟨b, o, none⟩ = W.cell? ⟨b, o, none⟩) ∧ Hid (Below W.heap.size W w1) := Stays.then (by assumption) hb; clear hb)) | ((go_at_call 5; (with_reducible refine (inner_ok _ _ _ m0 m1 j0 j1).mono ?_); rintro e w1 ⟨rfl, hb⟩; have s1 : (∀ b o, b < W.heap.size → w1.cell? ⟨b, o, none⟩ = W.cell? ⟨b, o, none⟩) ∧ Hid (Below W.heap.size W w1) := Stays.then (by assumption) hb; clear hb)) | ((go_at_call 7; (with_reducible refine (leaf_any 7 (.inl rfl) _ _).mono ?_); rintro e w1 ⟨rfl, hb⟩; have s1 : (∀ b o, b < W.heap.size → w1.cell? ⟨b, o, none⟩ = W.cell? ⟨b, o, none⟩) ∧ Hid (Below W.heap.size W w1) := Stays.then (by assumption) hb; clear hb)) | ((go_at_call 9; (with_reducible refine (level_node _ _ _ l0 l1 i0 i1).mono ?_); rintro e w1 ⟨rfl, hb⟩; have s1 : (∀ b o, b < W.heap.size → w1.cell? ⟨b, o, none⟩ = W.cell? ⟨b, o, none⟩) ∧ Hid (Below W.heap.size W w1) := Stays.then (by assumption) hb; clear hb)) | ((go_at_call 9; (with_reducible refine (level_leaf1 _).mono ?_); rintro e w1 ⟨rfl, hb⟩; have s1 : (∀ b o, b < W.heap.size → w1.cell? ⟨b, o, none⟩ = W.cell? ⟨b, o, none⟩) ∧ Hid (Below W.heap.size W w1) := Stays.then (by assumption) hb; clear hb)) | ((go_at_call 9; (with_reducible refine (level_leaf0 _).mono ?_); rintro e w1 ⟨rfl, hb⟩; have s1 : (∀ b o, b < W.heap.size → w1.cell? ⟨b, o, none⟩ = W.cell? ⟨b, o, none⟩) ∧ Hid (Below W.heap.size W w1) := Stays.then (by assumption) hb; clear hb)) | ((go_at_call 11; (with_reducible refine (split_node _ _ _ l0 l1 i0 i1).mono ?_); rintro e w1 ⟨rfl, hb⟩; have s1 : (∀ b o, b < W.heap.size → w1.cell? ⟨b, o, none⟩ = W.cell? ⟨b, o, none⟩) ∧ Hid (Below W.heap.size W w1) := Stays.then (by assumption) hb; clear hb)))
      go_ret
      exact ⟨ret_bool (by simp), below_self B.out s1.2.out⟩
  · have q1 : (l == m) = false := by rw [beq_eq_false_iff_ne]; omega
    have q2 : (l * 1099511627776 + i == m * 1099511627776 + j) = false := by rw [beq_eq_false_iff_ne]; omega
    go_wp2_with (first | ((go_at_call 13; (with_reducible refine (within_any _ _ _ (by omega) (by omega) (by omega) (by omega)).mono ?_); rintro e w1 ⟨rfl, hb⟩; have s1 : (∀ b o, b < W.heap.size → w1.cell? ⟨b, o, none⟩ = W.cell? ⟨b, o, none⟩) ∧ Hid (Below W.heap.size W w1) := Stays.then (by assumption) hb; clear hb)) | ((go_at_call 5; (with_reducible refine (inner_ok _ _ _ l0 l1 i0 i1).mono ?_); rintro e w1 ⟨rfl, hb⟩; have s1 : (∀ b o, b < W.heap.size → w1.cell? ⟨b, o, none⟩ = W.cell? ⟨b, o, none⟩) ∧ Hid (Below W.heap.size W w1) := Stays.then (by assumption) hb; clear hb)) | ((go_at_call 5; (with_reducible refine (inner_ok _ _ _ m0 m1 j0 j1).mono ?_); rintro e w1 ⟨rfl, hb⟩; have s1 : (∀ b o, b < W.heap.size → w1.cell? ⟨b, o, none⟩ = W.cell? ⟨b, o, none⟩) ∧ Hid (Below W.heap.size W w1) := Stays.then (by assumption) hb; clear hb)) | ((go_at_call 7; (with_reducible refine (leaf_any 7 (.inl rfl) _ _).mono ?_); rintro e w1 ⟨rfl, hb⟩; have s1 : (∀ b o, b < W.heap.size → w1.cell? ⟨b, o, none⟩ = W.cell? ⟨b, o, none⟩) ∧ Hid (Below W.heap.size W w1) := Stays.then (by assumption) hb; clear hb)) | ((go_at_call 9; (with_reducible refine (level_node _ _ _ l0 l1 i0 i1).mono ?_); rintro e w1 ⟨rfl, hb⟩; have s1 : (∀ b o, b < W.heap.size → w1.cell? ⟨b, o, none⟩ = W.cell? ⟨b, o, none⟩) ∧ Hid (Below W.heap.size W w1) := Stays.then (by assumption) hb; clear hb)) | ((go_at_call 9; (with_reducible refine (level_leaf1 _).mono ?_); rintro e w1 ⟨rfl, hb⟩; have s1 : (∀ b o, b < W.heap.size → w1.cell? ⟨b, o, none⟩ = W.cell? ⟨b, o, none⟩) ∧ Hid (Below W.heap.size W w1) := Stays.then (by assumption) hb; clear hb)) | ((go_at_call 9; (with_reducible refine (level_leaf0 _).mono ?_); rintro e w1 ⟨rfl, hb⟩; have s1 : (∀ b o, b < W.heap.size → w1.cell? ⟨b, o, none⟩ = W.cell? ⟨b, o, none⟩) ∧ Hid (Below W.heap.size W w1) := Stays.then (by assumption) hb; clear hb)) | ((go_at_call 11; (with_reducible refine (split_node _ _ _ l0 l1 i0 i1).mono ?_); rintro e w1 ⟨rfl, hb⟩; have s1 : (∀ b o, b < W.heap.size → w1.cell? ⟨b, o, none⟩ = W.cell? ⟨b, o, none⟩) ∧ Hid (Below W.heap.size W w1) := Stays.then (by assumption) hb; clear hb)))
    go_ret
    exact ⟨ret_bool (by simp), below_self B.out s1.2.out⟩
end Go.Proofs.Ytambpbgmmmiocaa
