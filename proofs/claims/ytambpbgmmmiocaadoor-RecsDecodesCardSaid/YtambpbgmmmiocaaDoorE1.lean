/- put and get of package recs: numbers as bytes, the low one first. -/
import Derived.Test.YtambpbgmmmiocaaDoorG1
namespace Go.Proofs.YtambpbgmmmiocaaDoor
open Go.RowKit

/-- The bytes of a number, the low one first. -/
def le : Nat → Int → List Int
  | 0, _ => []
  | n + 1, v => le n v ++ [v / 2 ^ (8 * n) % 256]
theorem le_length : ∀ n v, (le n v).length = n
  | 0, _ => rfl
  | n + 1, v => by simp [le, le_length n v]

set_option maxHeartbeats 2000000 in
theorem put_any (v : Int) (g o n m c : Nat) (t : TypeId) (l : List Int) (w : World) (hv : 0 ≤ v) (hn : n ≤ m) (h8 : n ≤ 8) (hB : Blk w g t (nums .u8 l)) (hl : o + n ≤ l.length) (hm : l.length ≤ 140737488355328) :
    Calls Tryd.prog 31 #[.slice (some ⟨g, o, none⟩) m c, .int .u64 v, .int .i64 n] w fun e w' => e = .returned (.tuple #[]) ∧ Blk w' g t (nums .u8 (splice l o (le n v))) ∧ w.grownBy w' (some g) := by
  have HB := Lib.hid hB
  clear hB
  go_enter Tryd.func31, Tryd.ntmps31
  go_wp2
  go_loopw [8] (fun i wr => ∃ k : Nat, k ≤ n ∧ i = .int .i64 k ∧ Hid (Blk wr g t (nums .u8 (splice l o (le k v)))) ∧ Hid (w.grownBy wr (some g))) (fun i _ => n - (intOf i).toNat)
  case atStart => exact ⟨0, by omega, rfl, Lib.hid (by rw [show le 0 v = [] from rfl, splice_nil]; exact HB.out), Lib.hid (only_refl _ _)⟩
  case round =>
    obtain ⟨k, hk, rfl, HK, HG⟩ := hrel
    by_cases hlt : k < n
    · have hlen : (splice l o (le k v)).length = l.length := splice_length _ _ _ (by rw [le_length]; omega)
      have hc : wr.cell? ⟨g, o + k, none⟩ = some (.int .u8 ((splice l o (le k v))[o + k]'(by omega))) := by
        rw [HK.out.cell, nums_get, List.getElem?_eq_getElem (by omega)]; rfl
      have hf := HK.out.frozen (o + k)
      go_wp2
      go_roundw
      case rel =>
        refine ⟨k + 1, by omega, by go_num, Lib.hid ?_, Lib.hid (only_setCell HG.out (.inl rfl) _)⟩
        have h := HK.out.set_ (o + k) (.int .u8 (v / 2 ^ (8 * k) % 256))
        rw [nums_set] at h
        have hs := splice_snoc l o (le k v) (v / 2 ^ (8 * k) % 256) (by rw [le_length]; omega)
        rw [le_length] at hs
        rw [hs] at h
        exact h
      case measure => simp [intOf]; omega
    · obtain rfl : k = n := by omega
      go_wp2
      go_end0
      exact ⟨rfl, HK.out, HG.out⟩

/-- The number of bytes, the low one first. -/
def unle : List Int → Int
  | [] => 0
  | x :: r => x + 256 * unle r
def IsBytes (l : List Int) : Prop := ∀ x ∈ l, 0 ≤ x ∧ x ≤ 255
theorem unle_range : ∀ l : List Int, IsBytes l → 0 ≤ unle l ∧ unle l < 256 ^ l.length
  | [], _ => by simp [unle]
  | x :: r, h => by
    have h1 := h x (by simp)
    have h2 := unle_range r fun y hy => h y (by simp [hy])
    simp only [unle, List.length_cons, Int.pow_succ]
    omega
theorem unle_snoc (x : Int) : ∀ l : List Int, unle (l ++ [x]) = unle l + x * 256 ^ l.length
  | [] => by simp [unle]
  | y :: r => by
    simp only [List.cons_append, unle, unle_snoc x r, List.length_cons, Int.pow_succ]
    rw [Int.mul_add, Int.mul_comm 256 (x * _), Int.mul_assoc, Int.add_assoc]

theorem or_byte (k : Nat) (hk : k < 8) (a x : Int) (ha0 : 0 ≤ a) (ha : a < 256 ^ k) (hx0 : 0 ≤ x) (hx : x ≤ 255) : bits .or .u64 a (IntKind.u64.wrap (x * 2 ^ (8 * k))) = a + x * 256 ^ k := by
  have join : ∀ j : Nat, a < 2 ^ (8 * j) → x * 2 ^ (8 * j) < 18446744073709551616 → 2 ^ (8 * j) ≤ 18446744073709551616 → bits .or .u64 a (IntKind.u64.wrap (x * 2 ^ (8 * j))) = a + x * 2 ^ (8 * j) := fun j h1 h2 h3 => by
    have hp : (0 : Int) ≤ x * 2 ^ (8 * j) := Int.mul_nonneg hx0 (Int.pow_nonneg (by omega))
    have hw : IntKind.u64.wrap (x * 2 ^ (8 * j)) = x * 2 ^ (8 * j) := IntWalk.u64_in _ ⟨hp, by omega⟩
    obtain ⟨y, rfl⟩ : ∃ y : Nat, x = y := ⟨x.toNat, by omega⟩
    obtain ⟨d, rfl⟩ : ∃ d : Nat, a = d := ⟨a.toNat, by omega⟩
    have e2 : (y : Int) * 2 ^ (8 * j) = ((y * 2 ^ (8 * j) : Nat) : Int) := by rw [Int.natCast_mul, Int.natCast_pow]; rfl
    have h1' : d < 2 ^ (8 * j) := by
      have : ((d : Nat) : Int) < ((2 ^ (8 * j) : Nat) : Int) := by rw [Int.natCast_pow]; exact h1
      omega
    rw [hw, e2]
    rw [e2] at h2
    have hd : d < 18446744073709551616 := Nat.lt_of_lt_of_le h1' h3
    rw [u64_or_nat _ _ hd (by omega), Nat.or_comm, nat_join (8 * j) _ _ (Nat.mul_mod_left _ _) h1']
    omega
  match k, hk with
  | 0, _ | 1, _ | 2, _ | 3, _ | 4, _ | 5, _ | 6, _ | 7, _ => exact join _ ha (by simp; omega) (by decide)

set_option maxHeartbeats 2000000 in
theorem get_any (A : Option Addr) (n m c : Nat) (xs : List Int) (w : World) (hr : Reads w .u8 A xs) (hx : IsBytes xs) (hxm : xs.length = m) (hn : n ≤ m) (h8 : n ≤ 8) (hm : m ≤ 140737488355328) :
    Calls Tryd.prog 35 #[.slice A m c, .int .i64 n] w fun e w' => e = .returned (.int .u64 (unle (xs.take n))) ∧ Below w.heap.size w w' := by
  have HR := Lib.hid hr
  have HX := Lib.hid hx
  clear hr hx
  go_enter Tryd.func35, Tryd.ntmps35
  go_wp2
  go_loop [5, 8] (fun acc i => ∃ k : Nat, ∃ a : Int, k ≤ n ∧ i = .int .i64 k ∧ acc = .int .u64 a ∧ Hid (a = unle (xs.take k))) (fun _ i => n - (intOf i).toNat)
  case atStart => exact ⟨0, 0, by omega, rfl, rfl, Lib.hid rfl⟩
  case round =>
    obtain ⟨k, a, hk, rfl, rfl, HA⟩ := hrel
    by_cases hlt : k < n
    · have hget : xs[k]? = some (xs[k]'(by omega)) := List.getElem?_eq_getElem _
      obtain ⟨b, o, rfl, hc⟩ := HR.out.at_ hget
      have hxb := HX.out (xs[k]'(by omega)) (List.getElem_mem _)
      generalize xs[k]'(by omega) = x at *
      obtain ⟨x0, x1⟩ := hxb
      have HT : Hid (unle (xs.take (k + 1)) = a + x * 256 ^ k) := Lib.hid (by
        rw [List.take_add_one, hget]
        show unle (xs.take k ++ [x]) = _
        rw [unle_snoc, ← HA.out, List.length_take, Nat.min_eq_left (by omega)])
      have HG := Lib.hid hget
      clear hget
      go_wp2
      go_round
      case rel =>
        have ha := unle_range (xs.take k) fun y hy => HX.out y (List.mem_of_mem_take hy)
        rw [← HA.out, List.length_take, Nat.min_eq_left (by omega)] at ha
        exact ⟨k + 1, a + x * 256 ^ k, by omega, by go_num, by rw [or_byte k (by omega) a x ha.1 ha.2 x0 x1], Lib.hid HT.out.symm⟩
      case measure => simp [intOf]; omega
    · obtain rfl : k = n := by omega
      go_wp2
      go_ret
      exact ⟨ret_int HA.out, Below.refl _ _⟩
end Go.Proofs.YtambpbgmmmiocaaDoor
