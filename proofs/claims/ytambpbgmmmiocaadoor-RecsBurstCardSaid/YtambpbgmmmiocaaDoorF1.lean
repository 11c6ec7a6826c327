/- The plain law of a burst: bits turned within 32, one behind the other, never leave the sum as it must be. -/
import Derived.Test.YtambpbgmmmiocaaDoorF0
namespace Go.Proofs.YtambpbgmmmiocaaDoor
open Go.RowKit

/-- The bytes as one great number, the low byte first. -/
def unN : List Int → Nat
  | [] => 0
  | x :: r => x.toNat + 256 * unN r
theorem unN_unle : ∀ l : List Int, IsBytes l → (unN l : Int) = unle l
  | [], _ => rfl
  | x :: r, h => by
    have h1 := h x (by simp)
    have h2 := unN_unle r fun y hy => h y (by simp [hy])
    simp only [unN, unle, ← h2]
    omega
theorem unN_app : ∀ a b : List Int, unN (a ++ b) = unN a + 256 ^ a.length * unN b
  | [], b => by simp [unN]
  | x :: r, b => by
    simp only [List.cons_append, unN, unN_app r b, List.length_cons, Nat.pow_succ]
    rw [Nat.mul_add, Nat.add_assoc, ← Nat.mul_assoc, Nat.mul_comm 256 (256 ^ _)]
theorem add_xor (x u k : Nat) (h : x < 2 ^ k) : x + 2 ^ k * u = x ^^^ 2 ^ k * u := by
  refine Nat.eq_of_testBit_eq fun i => ?_
  rw [Nat.testBit_xor, Nat.add_comm, Nat.testBit_two_pow_mul_add u h, Nat.testBit_two_pow_mul]
  by_cases hi : i < k
  · rw [if_pos hi]; simp [Nat.not_le.2 hi]
  · rw [if_neg hi, Nat.testBit_lt_two_pow (Nat.lt_of_lt_of_le h (Nat.pow_le_pow_right (by omega) (by omega)))]
    simp [show k ≤ i by omega]
theorem mul_xor (a b k : Nat) : 2 ^ k * (a ^^^ b) = 2 ^ k * a ^^^ 2 ^ k * b := by
  refine Nat.eq_of_testBit_eq fun i => ?_
  rw [Nat.testBit_xor, Nat.testBit_two_pow_mul, Nat.testBit_two_pow_mul, Nat.testBit_two_pow_mul, Nat.testBit_xor]
  by_cases hi : k ≤ i <;> simp [hi]
theorem bitSteps_pow : ∀ k q, bitSteps k (2 ^ k * q) = q
  | 0, q => by simp [bitSteps]
  | k + 1, q => by
    simp only [bitSteps]
    rw [Nat.pow_succ, Nat.mul_comm (2 ^ k) 2, Nat.mul_assoc, bitStep_even, bitSteps_pow k q]
theorem crc_bits : ∀ (xs : List Int) (s : Nat), IsBytes xs → crcN s xs = bitSteps (8 * xs.length) (s ^^^ unN xs)
  | [], s, _ => by simp [crcN, unN, bitSteps]
  | x :: r, s, h => by
    have h1 := h x (by simp)
    have h2 := crc_bits r (crcByte s x) fun y hy => h y (by simp [hy])
    show crcN (crcByte s x) r = _
    rw [h2]
    simp only [List.length_cons, unN]
    rw [show 8 * (r.length + 1) = 8 + 8 * r.length by omega, bitSteps_add, show (256 : Nat) = 2 ^ 8 from rfl, add_xor _ _ 8 (by omega), ← Nat.xor_assoc, bitSteps_xor 8, bitSteps_pow]
    rfl
theorem xor_zero_iff {a b : Nat} (h : a ^^^ b = 0) : a = b := by
  have := congrArg (· ^^^ b) h
  simpa [Nat.xor_assoc] using this
theorem bitStep_zero {s : Nat} (h : s < 4294967296) (h0 : bitStep s = 0) : s = 0 := by
  unfold bitStep at h0
  by_cases ho : s % 2 = 1
  · rw [if_pos ho] at h0
    have : s / 2 = 3988292384 := by
      exact xor_zero_iff h0
    omega
  · rw [if_neg ho] at h0
    omega
theorem bitSteps_zero : ∀ n s, s < 4294967296 → bitSteps n s = 0 → s = 0
  | 0, _, _, h => h
  | n + 1, s, hs, h => bitStep_zero hs (bitSteps_zero n _ (bitStep_lt hs) h)
theorem bitSteps_inj {n a b : Nat} (ha : a < 4294967296) (hb : b < 4294967296) (h : bitSteps n a = bitSteps n b) : a = b := by
  have h0 : bitSteps n (a ^^^ b) = 0 := by rw [bitSteps_xor, h, Nat.xor_self]
  exact xor_zero_iff (bitSteps_zero n _ (xor_lt ha hb) h0)

theorem xor_swap {c v : Nat} (hc : c < 4294967296) : v = 4294967295 - c ↔ c ^^^ v = 4294967295 := by
  rw [← xor_ones c hc]
  constructor
  · rintro rfl
    rw [Nat.xor_comm, Nat.xor_assoc, Nat.xor_self, Nat.xor_zero]
  · intro h
    rw [← h, Nat.xor_comm c v, Nat.xor_assoc, Nat.xor_self, Nat.xor_zero]
/-- The sum is right just where the whole comes to one number. -/
theorem sum_iff {xs : List Int} (hx : IsBytes xs) (hl : 4 ≤ xs.length) : unle (xs.drop (xs.length - 4)) = sumV (xs.take (xs.length - 4)) ↔ crcN 4294967295 xs = bitSteps 32 4294967295 := by
  have hp : IsBytes (xs.take (xs.length - 4)) := fun y hy => hx y (List.mem_of_mem_take hy)
  have hd : IsBytes (xs.drop (xs.length - 4)) := fun y hy => hx y (List.mem_of_mem_drop hy)
  have hdl : (xs.drop (xs.length - 4)).length = 4 := by rw [List.length_drop]; omega
  have e : crcN 4294967295 xs = crcN (crcN 4294967295 (xs.take (xs.length - 4))) (xs.drop (xs.length - 4)) := by
    conv => lhs; rw [← List.take_append_drop (xs.length - 4) xs]
    unfold crcN
    rw [List.foldl_append]
  have hc := crcN_lt _ 4294967295 (by decide) hp
  have hv := unle_range _ hd
  rw [hdl] at hv
  have hn := unN_unle _ hd
  rw [e, crc_bits _ _ hd, hdl]
  unfold sumV
  generalize crcN 4294967295 (xs.take (xs.length - 4)) = c at *
  generalize unN (xs.drop (xs.length - 4)) = v at *
  generalize unle (xs.drop (xs.length - 4)) = u at *
  subst hn
  have hv4 : v < 4294967296 := by have := hv.2; omega
  constructor
  · intro h
    rw [(xor_swap hc).1 (by omega)]
  · intro h
    have := (xor_swap (v := v) hc).2 (bitSteps_inj (xor_lt hc hv4) (by decide) h)
    omega
theorem burst_spoils {xs ys : List Int} {p at' : Nat} (hx : IsBytes xs) (hy : IsBytes ys) (hl : ys.length = xs.length) (h4 : 4 ≤ xs.length) (ha : at' ≤ 8 * xs.length) (hp : p < 4294967296) (hp0 : p ≠ 0) (hu : unN ys = unN xs ^^^ 2 ^ at' * p)
    (hs : unle (xs.drop (xs.length - 4)) = sumV (xs.take (xs.length - 4))) : unle (ys.drop (ys.length - 4)) ≠ sumV (ys.take (ys.length - 4)) := by
  intro h
  have h1 := (sum_iff hx h4).1 hs
  have h2 := (sum_iff hy (by omega)).1 h
  rw [crc_bits _ _ hx] at h1
  rw [crc_bits _ _ hy, hl, hu, ← Nat.xor_assoc, bitSteps_xor, h1] at h2
  have h3 : bitSteps (8 * xs.length) (2 ^ at' * p) = 0 := by
    have := congrArg (fun z => bitSteps 32 4294967295 ^^^ z) h2
    simp only [← Nat.xor_assoc, Nat.xor_self, Nat.zero_xor] at this
    exact this
  rw [show 8 * xs.length = at' + (8 * xs.length - at') by omega, bitSteps_add, bitSteps_pow] at h3
  exact hp0 (bitSteps_zero _ _ hp h3)
/-- A bit turned in byte j. -/
theorem unN_turn : ∀ (xs : List Int) (j r : Nat) (x : Int), IsBytes xs → xs[j]? = some x → r < 8 → unN (xs.set j ((x.toNat ^^^ 2 ^ r : Nat) : Int)) = unN xs ^^^ 2 ^ (8 * j + r)
  | [], _, _, _, _, h, _ => by simp at h
  | y :: l, 0, r, x, hx, h, hr => by
    simp at h
    subst h
    have h1 := hx y (by simp)
    have hlt : y.toNat ^^^ 2 ^ r < 2 ^ 8 := Nat.xor_lt_two_pow (by omega) (Nat.pow_lt_pow_right (by omega) hr)
    simp only [List.set_cons_zero, unN, Int.toNat_natCast]
    rw [show (256 : Nat) = 2 ^ 8 from rfl, add_xor _ _ 8 hlt, add_xor _ _ 8 (by omega), Nat.mul_zero, Nat.zero_add, Nat.xor_assoc, Nat.xor_assoc, Nat.xor_comm (2 ^ r)]
  | y :: l, j + 1, r, x, hx, h, hr => by
    have ih := unN_turn l j r x (fun z hz => hx z (by simp [hz])) (by simpa using h) hr
    have h1 := hx y (by simp)
    simp only [List.set_cons_succ, unN, ih]
    rw [show (256 : Nat) = 2 ^ 8 from rfl, add_xor _ _ 8 (by omega), add_xor _ _ 8 (by omega), mul_xor, ← Nat.pow_add, show 8 + (8 * j + r) = 8 * (j + 1) + r by omega, Nat.xor_assoc]
theorem turn_bytes {xs : List Int} {j r : Nat} {x : Int} (hx : IsBytes xs) (h : xs[j]? = some x) (hr : r < 8) : IsBytes (xs.set j ((x.toNat ^^^ 2 ^ r : Nat) : Int)) := fun y hy => by
  rcases List.mem_or_eq_of_mem_set hy with hy | hy
  · exact hx y hy
  · have h1 := hx x (List.mem_of_getElem? h)
    have : x.toNat ^^^ 2 ^ r < 2 ^ 8 := Nat.xor_lt_two_pow (by omega) (Nat.pow_lt_pow_right (by omega) hr)
    subst hy
    omega
/-- One bit more of the window. -/
theorem window_step {X p at' i : Nat} (hp : p < 2 ^ i) : X ^^^ 2 ^ at' * p ^^^ 2 ^ (at' + i) = X ^^^ 2 ^ at' * (p + 2 ^ i) ∧ p + 2 ^ i < 2 ^ (i + 1) ∧ p + 2 ^ i ≠ 0 := by
  have h1 := add_xor p 1 i hp
  rw [Nat.mul_one] at h1
  refine ⟨?_, by rw [Nat.pow_succ]; omega, by have := Nat.two_pow_pos i; omega⟩
  rw [h1, mul_xor, ← Nat.pow_add, Nat.xor_assoc]
end Go.Proofs.YtambpbgmmmiocaaDoor
