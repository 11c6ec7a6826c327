/- The CRC of package recs, by half bytes, is the document's, bit by bit; both functions answer sumV. -/
import Derived.Test.YtambpbgmmmiocaaDoorE1
namespace Go.Proofs.YtambpbgmmmiocaaDoor
open Go.RowKit

/-- What a half byte comes to. -/
def halfT (n : Nat) : Nat := [0, 498536548, 997073096, 651767980, 1994146192, 1802195444, 1303535960, 1342533948, 3988292384, 4027552580, 3604390888, 3412177804, 2607071920, 2262029012, 2685067896, 3183342108].getD n 0
/-- One bit. -/
def bitStep (s : Nat) : Nat := if s % 2 = 1 then s / 2 ^^^ 3988292384 else s / 2
def bitSteps : Nat → Nat → Nat
  | 0, s => s
  | n + 1, s => bitSteps n (bitStep s)
/-- A half byte. -/
def nib (s : Nat) : Nat := s / 16 ^^^ halfT (s % 16)
theorem halfT_lt (n : Nat) : halfT n < 4294967296 := by
  have small : ∀ r, r < 16 → halfT r < 4294967296 := by decide
  rcases Nat.lt_or_ge n 16 with h | h
  · exact small n h
  · unfold halfT
    rw [List.getD_eq_getElem?_getD, List.getElem?_eq_none (by simpa using h)]
    decide
theorem xor_lt {a b : Nat} (ha : a < 4294967296) (hb : b < 4294967296) : a ^^^ b < 4294967296 := by
  have := Nat.xor_lt_two_pow (n := 32) (by simpa using ha) (by simpa using hb)
  simpa using this
theorem bitStep_lt {s : Nat} (h : s < 4294967296) : bitStep s < 4294967296 := by
  unfold bitStep
  split
  · exact xor_lt (by omega) (by decide)
  · omega
theorem nib_lt {s : Nat} (h : s < 4294967296) : nib s < 4294967296 := xor_lt (by omega) (halfT_lt _)
theorem xor_div2 (a b : Nat) : (a ^^^ b) / 2 = a / 2 ^^^ b / 2 := by
  simpa [Nat.shiftRight_eq_div_pow] using Nat.shiftRight_xor_distrib (a := a) (b := b) (i := 1)
theorem xor_mod2 (a b : Nat) : (a ^^^ b) % 2 = (a % 2 + b % 2) % 2 := by
  have := Nat.xor_mod_two_pow (a := a) (b := b) (n := 1)
  simp only [Nat.pow_one] at this
  rw [this]
  rcases Nat.mod_two_eq_zero_or_one a with h | h <;> rcases Nat.mod_two_eq_zero_or_one b with h' | h' <;> rw [h, h'] <;> rfl
/-- A bit's step is linear. -/
theorem bitStep_xor (a b : Nat) : bitStep (a ^^^ b) = bitStep a ^^^ bitStep b := by
  unfold bitStep
  rw [xor_mod2, xor_div2]
  rcases Nat.mod_two_eq_zero_or_one a with h | h <;> rcases Nat.mod_two_eq_zero_or_one b with h' | h' <;> rw [h, h'] <;> simp
  · rw [Nat.xor_assoc]
  · rw [Nat.xor_assoc, Nat.xor_comm (b / 2), Nat.xor_assoc]
  · rw [Nat.xor_assoc, Nat.xor_comm (b / 2), ← Nat.xor_assoc 3988292384, Nat.xor_self, Nat.zero_xor]
theorem bitSteps_xor : ∀ n a b, bitSteps n (a ^^^ b) = bitSteps n a ^^^ bitSteps n b
  | 0, _, _ => rfl
  | n + 1, a, b => by simp only [bitSteps, bitStep_xor, bitSteps_xor n]
theorem bitStep_even (q : Nat) : bitStep (2 * q) = q := by unfold bitStep; simp
theorem bitSteps_four (q : Nat) : bitSteps 4 (16 * q) = q := by
  simp only [bitSteps]
  rw [show 16 * q = 2 * (2 * (2 * (2 * q))) by omega, bitStep_even, bitStep_even, bitStep_even, bitStep_even]
theorem half_low : ∀ r, r < 16 → bitSteps 4 r = halfT r := by decide
theorem nib_steps (s : Nat) : nib s = bitSteps 4 s := by
  have e : s = 16 * (s / 16) ^^^ s % 16 := by
    refine Nat.eq_of_testBit_eq fun i => ?_
    rw [Nat.testBit_xor, show (16 : Nat) = 2 ^ 4 from rfl, Nat.testBit_two_pow_mul, Nat.testBit_mod_two_pow, Nat.testBit_div_two_pow]
    by_cases h : i < 4
    · simp [h, Nat.not_le.2 h]
    · simp [h, Nat.not_lt.1 h]
  conv => rhs; rw [e]
  rw [bitSteps_xor, bitSteps_four, half_low _ (by omega)]
  rfl
theorem bitSteps_add : ∀ m n s, bitSteps (m + n) s = bitSteps n (bitSteps m s)
  | 0, n, s => by rw [Nat.zero_add]; rfl
  | m + 1, n, s => by rw [Nat.succ_add]; exact bitSteps_add m n (bitStep s)
theorem nibs_steps (s : Nat) : nib (nib s) = bitSteps 8 s := by rw [nib_steps, nib_steps, ← bitSteps_add]

/-- The state behind a byte, behind bytes. -/
def crcByte (s : Nat) (x : Int) : Nat := bitSteps 8 (s ^^^ x.toNat)
def crcN (s : Nat) (xs : List Int) : Nat := xs.foldl crcByte s
def sumV (xs : List Int) : Int := 4294967295 - (crcN 4294967295 xs : Nat)
theorem bitSteps_lt : ∀ n s, s < 4294967296 → bitSteps n s < 4294967296
  | 0, _, h => h
  | n + 1, _, h => bitSteps_lt n _ (bitStep_lt h)
theorem crcByte_lt {s : Nat} {x : Int} (h : s < 4294967296) (hx : x ≤ 255) : crcByte s x < 4294967296 := bitSteps_lt _ _ (xor_lt h (by omega))
theorem crcN_lt : ∀ (xs : List Int) (s : Nat), s < 4294967296 → IsBytes xs → crcN s xs < 4294967296
  | [], _, h, _ => h
  | x :: r, s, h, hx => crcN_lt r _ (crcByte_lt h (hx x (by simp)).2) fun y hy => hx y (by simp [hy])
theorem crcN_snoc (s : Nat) (xs : List Int) (x : Int) : crcN s (xs ++ [x]) = crcByte (crcN s xs) x := by simp [crcN]

/-- The table of half bytes, as it is laid. -/
def Halves (w : World) : Prop := ∀ n, n < 16 → w.cell? ⟨2, n, none⟩ = some (.int .u32 (halfT n))
theorem Halves.below {w w' : World} (h : Halves w) (hb : Below w.heap.size w w') : Halves w' := fun n hn => cell_kept hb (h n hn)
theorem and15 (s : Nat) (h : s < 4294967296) : bits .and .u32 (s : Int) 15 = ((s % 16 : Nat) : Int) := by
  have := u32_and_nat s 15 h (by decide)
  rw [nat_mask4] at this
  exact this
theorem xor_ones (x : Nat) (h : x < 4294967296) : 4294967295 ^^^ x = 4294967295 - x := by
  refine Nat.eq_of_testBit_eq fun i => ?_
  have e : 4294967295 - x = 2 ^ 32 - (x + 1) := by omega
  rw [e, Nat.testBit_two_pow_sub_succ (by simpa using h), Nat.testBit_xor, show (4294967295 : Nat) = 2 ^ 32 - 1 from rfl, Nat.testBit_two_pow_sub_one]
  by_cases hi : i < 32
  · simp [hi]
  · have : x.testBit i = false := Nat.testBit_lt_two_pow (Nat.lt_of_lt_of_le (by simpa using h) (Nat.pow_le_pow_right (by omega) (show 32 ≤ i by omega)))
    simp [hi, this]
theorem flip32 (s : Nat) (h : s < 4294967296) : bits .xor .u32 IntKind.u32.max (s : Int) = 4294967295 - (s : Int) := by
  have := u32_xor_nat 4294967295 s (by decide) h
  rw [xor_ones s h] at this
  refine Eq.trans (show _ = bits .xor .u32 ((4294967295 : Nat) : Int) (s : Int) from rfl) (this.trans ?_)
  omega

set_option maxHeartbeats 2000000 in
theorem sum_any (A : Option Addr) (m c : Nat) (xs : List Int) (w : World) (ht : Halves w) (hr : Reads w .u8 A xs) (hx : IsBytes xs) (hxm : xs.length = m) (hm : m ≤ 140737488355328) :
    Calls Tryd.prog 25 #[.slice A m c] w fun e w' => e = .returned (.int .u32 (sumV xs)) ∧ Below w.heap.size w w' := by
  have HR := Lib.hid hr
  have HX := Lib.hid hx
  have HT := Lib.hid ht
  clear hr hx ht
  go_enter Tryd.func25, Tryd.ntmps25
  go_wp2
  go_loop [3, 8] (fun acc i => ∃ k s : Nat, k ≤ m ∧ i = .int .i64 k ∧ acc = .int .u32 (s : Int) ∧ Hid (s = crcN 4294967295 (xs.take k))) (fun _ i => m - (intOf i).toNat)
  case atStart => exact ⟨0, 4294967295, by omega, rfl, rfl, Lib.hid rfl⟩
  case round =>
    obtain ⟨k, s, hk, rfl, rfl, HA⟩ := hrel
    have hs : s < 4294967296 := by rw [HA.out]; exact crcN_lt _ _ (by decide) fun y hy => HX.out y (List.mem_of_mem_take hy)
    by_cases hlt : k < m
    · have hget : xs[k]? = some (xs[k]'(by omega)) := List.getElem?_eq_getElem _
      obtain ⟨b, o, rfl, hc⟩ := HR.out.at_ hget
      have hxb := HX.out (xs[k]'(by omega)) (List.getElem_mem _)
      generalize xs[k]'(by omega) = x at *
      obtain ⟨y, rfl⟩ : ∃ y : Nat, x = y := ⟨x.toNat, by omega⟩
      obtain ⟨s1, h1⟩ : ∃ s1, s1 = s ^^^ y := ⟨_, rfl⟩
      obtain ⟨s2, h2⟩ : ∃ s2, s2 = nib s1 := ⟨_, rfl⟩
      obtain ⟨s3, h3⟩ : ∃ s3, s3 = nib s2 := ⟨_, rfl⟩
      have hl1 : s1 < 4294967296 := by rw [h1]; exact xor_lt hs (by omega)
      have hl2 : s2 < 4294967296 := by rw [h2]; exact nib_lt hl1
      have hl3 : s3 < 4294967296 := by rw [h3]; exact nib_lt hl2
      have x1 : bits .xor .u32 (s : Int) (y : Int) = (s1 : Int) := by rw [h1]; exact u32_xor_nat _ _ hs (by omega)
      have a1 := and15 s1 hl1
      have a2 := and15 s2 hl2
      have c1 := HT.out (s1 % 16) (by omega)
      have c2 := HT.out (s2 % 16) (by omega)
      have t1 := halfT_lt (s1 % 16)
      have t2 := halfT_lt (s2 % 16)
      have x2 : bits .xor .u32 ((s1 : Int) / 16) (halfT (s1 % 16) : Int) = (s2 : Int) := by
        rw [h2]
        exact u32_xor_nat (s1 / 16) _ (by omega) t1
      have x3 : bits .xor .u32 ((s2 : Int) / 16) (halfT (s2 % 16) : Int) = (s3 : Int) := by
        rw [h3]
        exact u32_xor_nat (s2 / 16) _ (by omega) t2
      have HS : Hid (s3 = crcN 4294967295 (xs.take (k + 1))) := Lib.hid (by
        rw [List.take_add_one, hget, h3, h2, nibs_steps, h1]
        show _ = crcN _ (xs.take k ++ [(y : Int)])
        rw [crcN_snoc, ← HA.out]; rfl)
      have HG := Lib.hid hget
      clear hget h1 h2 h3
      have m1 : s1 % 16 < 16 := by omega
      have m2 : s2 % 16 < 16 := by omega
      generalize s1 % 16 = r1 at *
      generalize s2 % 16 = r2 at *
      go_wp2
      go_roundw
      case rel => exact ⟨k + 1, s3, by omega, by go_num, rfl, HS⟩
      case measure => simp [intOf]; omega
    · obtain rfl : k = m := by omega
      have hfin : Hid (sumV xs = 4294967295 - (s : Int)) := Lib.hid (by unfold sumV; rw [HA.out, List.take_of_length_le (by omega)])
      go_wp2
      go_ret
      exact ⟨ret_int (by rw [hfin.out]; exact flip32 s hs), Below.refl _ _⟩

set_option maxHeartbeats 2000000 in
theorem sum_ref (A : Option Addr) (m c : Nat) (xs : List Int) (w : World) (hr : Reads w .u8 A xs) (hx : IsBytes xs) (hxm : xs.length = m) (hm : m ≤ 140737488355328) :
    Calls Tryd.prog 26 #[.slice A m c] w fun e w' => e = .returned (.int .u32 (sumV xs)) ∧ Below w.heap.size w w' := by
  have HR := Lib.hid hr
  have HX := Lib.hid hx
  clear hr hx
  go_enter Tryd.func26, Tryd.ntmps26
  go_wp2
  go_loop [3, 4] (fun acc i => ∃ k s : Nat, k ≤ m ∧ i = .int .i64 k ∧ acc = .int .u32 (s : Int) ∧ Hid (s = crcN 4294967295 (xs.take k))) (fun _ i => m - (intOf i).toNat)
  case atStart => exact ⟨0, 4294967295, by omega, rfl, rfl, Lib.hid rfl⟩
  case round =>
    obtain ⟨k, s, hk, rfl, rfl, HA⟩ := hrel
    have hs : s < 4294967296 := by rw [HA.out]; exact crcN_lt _ _ (by decide) fun y hy => HX.out y (List.mem_of_mem_take hy)
    by_cases hlt : k < m
    · have hget : xs[k]? = some (xs[k]'(by omega)) := List.getElem?_eq_getElem _
      obtain ⟨b, o, rfl, hc⟩ := HR.out.at_ hget
      have hxb := HX.out (xs[k]'(by omega)) (List.getElem_mem _)
      generalize xs[k]'(by omega) = x at *
      obtain ⟨y, rfl⟩ : ∃ y : Nat, x = y := ⟨x.toNat, by omega⟩
      obtain ⟨s1, h1⟩ : ∃ s1, s1 = s ^^^ y := ⟨_, rfl⟩
      have hl1 : s1 < 4294967296 := by rw [h1]; exact xor_lt hs (by omega)
      have x1 : bits .xor .u32 (s : Int) (y : Int) = (s1 : Int) := by rw [h1]; exact u32_xor_nat _ _ hs (by omega)
      have HS : Hid (bitSteps 8 s1 = crcN 4294967295 (xs.take (k + 1))) := Lib.hid (by
        rw [List.take_add_one, hget, h1]
        show _ = crcN _ (xs.take k ++ [(y : Int)])
        rw [crcN_snoc, ← HA.out]; rfl)
      have HG := Lib.hid hget
      clear hget h1
      go_wp2
      go_loop [3, 5] (fun acc i => ∃ j t : Nat, j ≤ 8 ∧ t < 4294967296 ∧ i = .int .i64 j ∧ acc = .int .u32 (t : Int) ∧ Hid (bitSteps (8 - j) t = bitSteps 8 s1)) (fun _ i => 8 - (intOf i).toNat)
      case atStart => exact ⟨0, s1, by omega, hl1, rfl, rfl, Lib.hid rfl⟩
      case round =>
        obtain ⟨j, t, hj, ht, rfl, rfl, HJ⟩ := hrel
        by_cases hjt : j < 8
        · have HN : Hid (bitSteps (8 - (j + 1)) (bitStep t) = bitSteps 8 s1) := Lib.hid (by
            rw [← HJ.out, show 8 - j = (8 - (j + 1)) + 1 by omega]; rfl)
          have x2 : bits .xor .u32 ((t : Int) / 2) 3988292384 = ((t / 2 ^^^ 3988292384 : Nat) : Int) := u32_xor_nat (t / 2) 3988292384 (by omega) (by decide)
          have hbl := bitStep_lt ht
          by_cases hodd : t % 2 = 1
          · have e1 : ((t : Int) % 2 == 1) = true := by simp; omega
            have HB : Hid (bitStep t = t / 2 ^^^ 3988292384) := Lib.hid (by unfold bitStep; rw [if_pos hodd])
            have HBl := Lib.hid hbl
            clear hodd hbl
            generalize t / 2 ^^^ 3988292384 = u at *
            go_wp2
            go_round
            case rel => exact ⟨j + 1, u, by omega, by rw [← HB.out]; exact HBl.out, by go_num, rfl, Lib.hid (by rw [← HB.out]; exact HN.out)⟩
            case measure => simp [intOf]; omega
          · have e1 : ((t : Int) % 2 == 1) = false := by simp; omega
            have HB : Hid (bitStep t = t / 2) := Lib.hid (by unfold bitStep; rw [if_neg hodd])
            clear hodd
            go_wp2
            go_round
            case rel => exact ⟨j + 1, t / 2, by omega, by omega, by go_num, by go_num, Lib.hid (by rw [← HB.out]; exact HN.out)⟩
            case measure => simp [intOf]; omega
        · obtain rfl : j = 8 := by omega
          go_wp2
          go_round
          case rel => exact ⟨k + 1, t, by omega, by go_num, rfl, Lib.hid (HJ.out.trans HS.out)⟩
          case measure => simp [intOf]; omega
    · obtain rfl : k = m := by omega
      have hfin : Hid (sumV xs = 4294967295 - (s : Int)) := Lib.hid (by unfold sumV; rw [HA.out, List.take_of_length_le (by omega)])
      go_wp2
      go_ret
      exact ⟨ret_int (by rw [hfin.out]), Below.refl _ _⟩
end Go.Proofs.YtambpbgmmmiocaaDoor
