/- Inner, Leaf, Split, Level of package recs and the document's own answer the same, at all arguments. -/
import Derived.Test.YtambpbgmmmiocaaG0
namespace Go.Proofs.Ytambpbgmmmiocaa
open Go.RowKit

def innerP (l i : Int) : Int := if l < 0 then 0 else if 65536 ≤ l then 0 else if i < 0 then 0 else if 1099511627775 < i then 0 else l * 1099511627776 + i
def innerE (l i : Int) : Int := if l < 0 then 1 else if 65536 ≤ l then 1 else if i < 0 then 1 else if 1099511627775 < i then 8 else 0
def leafP (v : Bool) : Int := if v then 9223372036854775809 else 9223372036854775808
def spLeaf (p : Int) : Bool := p == 9223372036854775808 || p == 9223372036854775809
def spOk (p : Int) : Bool := spLeaf p || decide (p / 1099511627776 < 65536)
def spL (p : Int) : Int := if spLeaf p then 0 else if p / 1099511627776 < 65536 then p / 1099511627776 else 0
def spI (p : Int) : Int := if spLeaf p then 0 else if p / 1099511627776 < 65536 then p % 1099511627776 else 0
def lev (p : Int) : Int := if spOk p then (if spLeaf p then 65536 else spL p) else -1

theorem or_join (l i : Int) (h0 : 0 ≤ l) (h1 : l < 65536) (h2 : 0 ≤ i) (h3 : i ≤ 1099511627775) : bits .or .u64 (l * 1099511627776) i = l * 1099511627776 + i := by
  rw [u64_or _ _ (by omega) (by omega) h2 (by omega), nat_join 40 _ _ (by omega) (by omega)]
  omega
theorem and_low (p : Int) (h0 : 0 ≤ p) (h1 : p ≤ 18446744073709551615) : bits .and .u64 p 1099511627775 = p % 1099511627776 := by
  rw [u64_and _ _ h0 (by omega) (by omega) (by omega)]
  have := Nat.and_two_pow_sub_one_eq_mod p.toNat 40
  have e : (1099511627775 : Int).toNat = 2 ^ 40 - 1 := by decide
  rw [e, this]
  omega
theorem ret2 {k j : IntKind} {a b c d : Int} (h : a = c) (h' : b = d) : Ending.returned (.tuple #[.int k a, .int j b]) = .returned (.tuple #[.int k c, .int j d]) := by rw [h, h']

theorem leaf_any (f : FuncId) (hf : f = 7 ∨ f = 8) (v : Bool) (w : World) : Calls Try.prog f #[.bool v] w fun e w' => e = .returned (.int .u64 (leafP v)) ∧ Below w.heap.size w w' := by
  rcases hf with rfl | rfl <;> cases v
  · go_enter Try.func7, Try.ntmps7
    go_wp2
    go_ret
    exact ⟨rfl, Below.refl _ _⟩
  · go_enter Try.func7, Try.ntmps7
    go_wp2
    go_ret
    exact ⟨rfl, Below.refl _ _⟩
  · go_enter Try.func8, Try.ntmps8
    go_wp2
    go_ret
    exact ⟨rfl, Below.refl _ _⟩
  · go_enter Try.func8, Try.ntmps8
    go_wp2
    go_ret
    exact ⟨rfl, Below.refl _ _⟩

set_option maxHeartbeats 1000000 in
theorem inner_any (l i : Int) (w : World) (hl : -9223372036854775808 ≤ l ∧ l ≤ 9223372036854775807) (hi : -9223372036854775808 ≤ i ∧ i ≤ 9223372036854775807) :
    Calls Try.prog 5 #[.int .i64 l, .int .i64 i] w fun e w' => e = .returned (.tuple #[.int .u64 (innerP l i), .int .i64 (innerE l i)]) ∧ Below w.heap.size w w' := by
  by_cases h1 : l < 0
  · have H : Hid (innerP l i = 0 ∧ innerE l i = 1) := Lib.hid (by unfold innerP innerE; rw [if_pos h1, if_pos h1]; exact ⟨rfl, rfl⟩)
    go_enter Try.func5, Try.ntmps5
    go_wp2
    go_ret2
    exact ⟨ret2 H.out.1.symm H.out.2.symm, Below.refl _ _⟩
  ·
    by_cases h2 : 65536 ≤ l
    · have H : Hid (innerP l i = 0 ∧ innerE l i = 1) := Lib.hid (by unfold innerP innerE; rw [if_neg h1, if_neg h1, if_pos h2, if_pos h2]; exact ⟨rfl, rfl⟩)
      go_enter Try.func5, Try.ntmps5
      go_wp2
      go_ret2
      exact ⟨ret2 H.out.1.symm H.out.2.symm, Below.refl _ _⟩
    ·
      by_cases h3 : i < 0
      · have H : Hid (innerP l i = 0 ∧ innerE l i = 1) := Lib.hid (by unfold innerP innerE; rw [if_neg h1, if_neg h1, if_neg h2, if_neg h2, if_pos h3, if_pos h3]; exact ⟨rfl, rfl⟩)
        go_enter Try.func5, Try.ntmps5
        go_wp2
        go_ret2
        exact ⟨ret2 H.out.1.symm H.out.2.symm, Below.refl _ _⟩
      ·
        by_cases h4 : 1099511627775 < i
        · have H : Hid (innerP l i = 0 ∧ innerE l i = 8) := Lib.hid (by unfold innerP innerE; rw [if_neg h1, if_neg h1, if_neg h2, if_neg h2, if_neg h3, if_neg h3, if_pos h4, if_pos h4]; exact ⟨rfl, rfl⟩)
          go_enter Try.func5, Try.ntmps5
          go_wp2
          go_ret2
          exact ⟨ret2 H.out.1.symm H.out.2.symm, Below.refl _ _⟩
        ·
          have H : Hid (innerP l i = l * 1099511627776 + i ∧ innerE l i = 0) := Lib.hid (by unfold innerP innerE; rw [if_neg h1, if_neg h1, if_neg h2, if_neg h2, if_neg h3, if_neg h3, if_neg h4, if_neg h4]; exact ⟨rfl, rfl⟩)
          have hor := or_join l i (by omega) (by omega) (by omega) (by omega)
          go_enter Try.func5, Try.ntmps5
          go_wp2
          go_ret2
          exact ⟨ret2 H.out.1.symm H.out.2.symm, Below.refl _ _⟩

set_option maxHeartbeats 1000000 in
theorem inner_ref (l i : Int) (w : World) (hl : -9223372036854775808 ≤ l ∧ l ≤ 9223372036854775807) (hi : -9223372036854775808 ≤ i ∧ i ≤ 9223372036854775807) :
    Calls Try.prog 6 #[.int .i64 l, .int .i64 i] w fun e w' => e = .returned (.tuple #[.int .u64 (innerP l i), .int .i64 (innerE l i)]) ∧ Below w.heap.size w w' := by
  by_cases h1 : l < 0
  · have H : Hid (innerP l i = 0 ∧ innerE l i = 1) := Lib.hid (by unfold innerP innerE; rw [if_pos h1, if_pos h1]; exact ⟨rfl, rfl⟩)
    go_enter Try.func6, Try.ntmps6
    go_wp2
    go_ret2
    exact ⟨ret2 H.out.1.symm H.out.2.symm, Below.refl _ _⟩
  ·
    by_cases h2 : 65536 ≤ l
    · have H : Hid (innerP l i = 0 ∧ innerE l i = 1) := Lib.hid (by unfold innerP innerE; rw [if_neg h1, if_neg h1, if_pos h2, if_pos h2]; exact ⟨rfl, rfl⟩)
      go_enter Try.func6, Try.ntmps6
      go_wp2
      go_ret2
      exact ⟨ret2 H.out.1.symm H.out.2.symm, Below.refl _ _⟩
    ·
      by_cases h3 : i < 0
      · have H : Hid (innerP l i = 0 ∧ innerE l i = 1) := Lib.hid (by unfold innerP innerE; rw [if_neg h1, if_neg h1, if_neg h2, if_neg h2, if_pos h3, if_pos h3]; exact ⟨rfl, rfl⟩)
        go_enter Try.func6, Try.ntmps6
        go_wp2
        go_ret2
        exact ⟨ret2 H.out.1.symm H.out.2.symm, Below.refl _ _⟩
      ·
        by_cases h4 : 1099511627775 < i
        · have H : Hid (innerP l i = 0 ∧ innerE l i = 8) := Lib.hid (by unfold innerP innerE; rw [if_neg h1, if_neg h1, if_neg h2, if_neg h2, if_neg h3, if_neg h3, if_pos h4, if_pos h4]; exact ⟨rfl, rfl⟩)
          go_enter Try.func6, Try.ntmps6
          go_wp2
          go_ret2
          exact ⟨ret2 H.out.1.symm H.out.2.symm, Below.refl _ _⟩
        ·
          have H : Hid (innerP l i = l * 1099511627776 + i ∧ innerE l i = 0) := Lib.hid (by unfold innerP innerE; rw [if_neg h1, if_neg h1, if_neg h2, if_neg h2, if_neg h3, if_neg h3, if_neg h4, if_neg h4]; exact ⟨rfl, rfl⟩)
          have hor := or_join l i (by omega) (by omega) (by omega) (by omega)
          go_enter Try.func6, Try.ntmps6
          go_wp2
          go_ret2
          exact ⟨ret2 H.out.1.symm H.out.2.symm, Below.refl _ _⟩

set_option maxHeartbeats 1000000 in
theorem split_any (p : Int) (w : World) (h0 : 0 ≤ p) (h1 : p ≤ 18446744073709551615) :
    Calls Try.prog 11 #[.int .u64 p] w fun e w' => e = .returned (.tuple #[.int .i64 (spL p), .int .i64 (spI p), .bool (spLeaf p), .bool (p == 9223372036854775809), .bool (spOk p)]) ∧ Below w.heap.size w w' := by
  by_cases a : p = 9223372036854775808
  · subst a
    go_enter Try.func11, Try.ntmps11
    go_wp2
    refine bodyPost_ret (results_tmp5 rfl _ _ _) rfl ?_
    exact ⟨rfl, Below.refl _ _⟩
  · by_cases b : p = 9223372036854775809
    · subst b
      go_enter Try.func11, Try.ntmps11
      go_wp2
      refine bodyPost_ret (results_tmp5 rfl _ _ _) rfl ?_
      exact ⟨rfl, Below.refl _ _⟩
    · have ea : (p == 9223372036854775808) = false := by simp [a]
      have eb : (p == 9223372036854775809) = false := by simp [b]
      by_cases c : p / 1099511627776 < 65536
      · have H : Hid (spL p = p / 1099511627776 ∧ spI p = p % 1099511627776 ∧ spLeaf p = false ∧ spOk p = true) := Lib.hid (by refine ⟨?_, ?_, ?_, ?_⟩ <;> simp [spL, spI, spLeaf, spOk, ea, eb, c])
        have hand := and_low p h0 h1
        have hq : 0 ≤ p / 1099511627776 := by omega
        have hr : 0 ≤ p % 1099511627776 ∧ p % 1099511627776 < 1099511627776 := by omega
        clear a b
        go_enter Try.func11, Try.ntmps11
        go_wp2
        refine bodyPost_ret (results_tmp5 rfl _ _ _) rfl ?_
        exact ⟨by rw [H.out.1, H.out.2.1, H.out.2.2.1, H.out.2.2.2]; first | rfl | (rw [eb]; rfl), Below.refl _ _⟩
      · have H : Hid (spL p = 0 ∧ spI p = 0 ∧ spLeaf p = false ∧ spOk p = false) := Lib.hid (by refine ⟨?_, ?_, ?_, ?_⟩ <;> simp [spL, spI, spLeaf, spOk, ea, eb, c])
        clear a b
        go_enter Try.func11, Try.ntmps11
        go_wp2
        refine bodyPost_ret (results_tmp5 rfl _ _ _) rfl ?_
        exact ⟨by rw [H.out.1, H.out.2.1, H.out.2.2.1, H.out.2.2.2]; first | rfl | (rw [eb]; rfl), Below.refl _ _⟩

set_option maxHeartbeats 1000000 in
theorem split_ref (p : Int) (w : World) (h0 : 0 ≤ p) (h1 : p ≤ 18446744073709551615) :
    Calls Try.prog 12 #[.int .u64 p] w fun e w' => e = .returned (.tuple #[.int .i64 (spL p), .int .i64 (spI p), .bool (spLeaf p), .bool (p == 9223372036854775809), .bool (spOk p)]) ∧ Below w.heap.size w w' := by
  by_cases a : p = 9223372036854775808
  · subst a
    go_enter Try.func12, Try.ntmps12
    go_wp2
    refine bodyPost_ret (results_tmp5 rfl _ _ _) rfl ?_
    exact ⟨rfl, Below.refl _ _⟩
  · by_cases b : p = 9223372036854775809
    · subst b
      go_enter Try.func12, Try.ntmps12
      go_wp2
      refine bodyPost_ret (results_tmp5 rfl _ _ _) rfl ?_
      exact ⟨rfl, Below.refl _ _⟩
    · have ea : (p == 9223372036854775808) = false := by simp [a]
      have eb : (p == 9223372036854775809) = false := by simp [b]
      by_cases c : p / 1099511627776 < 65536
      · have H : Hid (spL p = p / 1099511627776 ∧ spI p = p % 1099511627776 ∧ spLeaf p = false ∧ spOk p = true) := Lib.hid (by refine ⟨?_, ?_, ?_, ?_⟩ <;> simp [spL, spI, spLeaf, spOk, ea, eb, c])
        have hand := and_low p h0 h1
        have hq : 0 ≤ p / 1099511627776 := by omega
        have hr : 0 ≤ p % 1099511627776 ∧ p % 1099511627776 < 1099511627776 := by omega
        clear a b
        go_enter Try.func12, Try.ntmps12
        go_wp2
        refine bodyPost_ret (results_tmp5 rfl _ _ _) rfl ?_
        exact ⟨by rw [H.out.1, H.out.2.1, H.out.2.2.1, H.out.2.2.2]; first | rfl | (rw [eb]; rfl), Below.refl _ _⟩
      · have H : Hid (spL p = 0 ∧ spI p = 0 ∧ spLeaf p = false ∧ spOk p = false) := Lib.hid (by refine ⟨?_, ?_, ?_, ?_⟩ <;> simp [spL, spI, spLeaf, spOk, ea, eb, c])
        clear a b
        go_enter Try.func12, Try.ntmps12
        go_wp2
        refine bodyPost_ret (results_tmp5 rfl _ _ _) rfl ?_
        exact ⟨by rw [H.out.1, H.out.2.1, H.out.2.2.1, H.out.2.2.2]; first | rfl | (rw [eb]; rfl), Below.refl _ _⟩

set_option maxHeartbeats 1000000 in
theorem level_any (p : Int) (w : World) (h0 : 0 ≤ p) (h1 : p ≤ 18446744073709551615) :
    Calls Try.prog 9 #[.int .u64 p] w fun e w' => e = .returned (.int .i64 (lev p)) ∧ Below w.heap.size w w' := by
  cases ho : spOk p with
  | false =>
    have H : Hid (lev p = -1) := Lib.hid (by unfold lev; rw [ho]; rfl)
    go_enter Try.func9, Try.ntmps9
    go_wp2_with (go_at_call 11; refine (split_any _ _ h0 h1).mono ?_; rintro e w1 ⟨rfl, hb⟩)
    go_ret
    exact ⟨ret_int H.out.symm, hb⟩
  | true =>
    cases hl : spLeaf p with
    | true =>
      have H : Hid (lev p = 65536) := Lib.hid (by unfold lev; rw [ho, hl]; rfl)
      go_enter Try.func9, Try.ntmps9
      go_wp2_with (go_at_call 11; refine (split_any _ _ h0 h1).mono ?_; rintro e w1 ⟨rfl, hb⟩)
      go_ret
      exact ⟨ret_int H.out.symm, hb⟩
    | false =>
      have H : Hid (lev p = spL p) := Lib.hid (by unfold lev; rw [ho, hl]; rfl)
      go_enter Try.func9, Try.ntmps9
      go_wp2_with (go_at_call 11; refine (split_any _ _ h0 h1).mono ?_; rintro e w1 ⟨rfl, hb⟩)
      go_ret
      exact ⟨ret_int H.out.symm, hb⟩

set_option maxHeartbeats 1000000 in
theorem level_ref (p : Int) (w : World) (h0 : 0 ≤ p) (h1 : p ≤ 18446744073709551615) :
    Calls Try.prog 10 #[.int .u64 p] w fun e w' => e = .returned (.int .i64 (lev p)) ∧ Below w.heap.size w w' := by
  cases ho : spOk p with
  | false =>
    have H : Hid (lev p = -1) := Lib.hid (by unfold lev; rw [ho]; rfl)
    go_enter Try.func10, Try.ntmps10
    go_wp2_with (go_at_call 12; refine (split_ref _ _ h0 h1).mono ?_; rintro e w1 ⟨rfl, hb⟩)
    go_ret
    exact ⟨ret_int H.out.symm, hb⟩
  | true =>
    cases hl : spLeaf p with
    | true =>
      have H : Hid (lev p = 65536) := Lib.hid (by unfold lev; rw [ho, hl]; rfl)
      go_enter Try.func10, Try.ntmps10
      go_wp2_with (go_at_call 12; refine (split_ref _ _ h0 h1).mono ?_; rintro e w1 ⟨rfl, hb⟩)
      go_ret
      exact ⟨ret_int H.out.symm, hb⟩
    | false =>
      have H : Hid (lev p = spL p) := Lib.hid (by unfold lev; rw [ho, hl]; rfl)
      go_enter Try.func10, Try.ntmps10
      go_wp2_with (go_at_call 12; refine (split_ref _ _ h0 h1).mono ?_; rintro e w1 ⟨rfl, hb⟩)
      go_ret
      exact ⟨ret_int H.out.symm, hb⟩

end Go.Proofs.Ytambpbgmmmiocaa
