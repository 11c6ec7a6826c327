/- What a Decode answers, in plain words. -/
import Derived.Test.YtambpbgmmmiocaaDoorD1
namespace Go.Proofs.YtambpbgmmmiocaaDoor
open Go.RowKit

def decE (kind place : Int) (xs : List Int) : Int :=
  if kind < 1 then 1 else if 255 < kind then 1 else if place < 0 then 1 else if fitV xs.length = 0 then 1
  else if unle (xs.drop (xs.length - 4)) ≠ sumV (xs.take (xs.length - 4)) then 30 else if headV xs = false then 31
  else if xs[5]? ≠ some kind then 32 else if unle ((xs.drop 8).take 8) ≠ place then 32 else 0
/-- Word j behind the head. -/
def wordV (xs : List Int) (j : Nat) : Int := unle ((xs.drop (28 + 8 * j)).take 8)
def wordsV (xs : List Int) (m : Nat) : List Int := (List.range m).map (wordV xs)
theorem wordsV_length (xs : List Int) (m : Nat) : (wordsV xs m).length = m := by simp [wordsV]
theorem wordsV_succ (xs : List Int) (m : Nat) : wordsV xs (m + 1) = wordsV xs m ++ [wordV xs m] := by simp [wordsV, List.range_succ]
def decN (kind place : Int) (xs : List Int) : Nat := if decE kind place xs = 0 then (numV xs).toNat else 0
def decL (kind place : Int) (xs : List Int) : List Int := wordsV xs (4 * decN kind place xs)
/-- What a Decode leaves. -/
def Decoded (kind place : Int) (xs : List Int) (w : World) (en : Ending) (w' : World) : Prop :=
  ∃ v, en = .returned (.tuple #[v, .int .i64 (decE kind place xs)]) ∧ w'.ownsRow w.heap.size 26 4 v (decN kind place xs) (nums .u64 (decL kind place xs)) ∧ Below w.heap.size w w'
theorem decoded_err {kind place : Int} {xs : List Int} {e : Int} {w w' : World} (h : decE kind place xs = e) (he : e ≠ 0) (hb : Below w.heap.size w w') :
    Decoded kind place xs w (.returned (.tuple #[.slice none 0 0, .int .i64 e])) w' := by
  have h0 : decN kind place xs = 0 := by unfold decN; rw [h, if_neg he]
  refine ⟨_, by rw [h], ?_, hb⟩
  unfold decL
  rw [h0]
  exact World.ownsRow_nil _ _ _ _
theorem wordV_range {xs : List Int} (h : IsBytes xs) (j : Nat) : 0 ≤ wordV xs j ∧ wordV xs j ≤ 18446744073709551615 := by
  have hr := unle_range ((xs.drop (28 + 8 * j)).take 8) fun x hx => h x (List.mem_of_mem_drop (List.mem_of_mem_take hx))
  have hl : ((xs.drop (28 + 8 * j)).take 8).length ≤ 8 := by rw [List.length_take]; omega
  have hp : (256 : Int) ^ ((xs.drop (28 + 8 * j)).take 8).length ≤ 18446744073709551616 := by
    have : ∀ k : Nat, k ≤ 8 → (256 : Int) ^ k ≤ 18446744073709551616 := by decide
    exact this _ hl
  unfold wordV
  omega
/-- The magic, as a number and as bytes. -/
theorem magic_num {x0 x1 x2 x3 : Int} (h0 : 0 ≤ x0 ∧ x0 ≤ 255) (h1 : 0 ≤ x1 ∧ x1 ≤ 255) (h2 : 0 ≤ x2 ∧ x2 ≤ 255) (h3 : 0 ≤ x3 ∧ x3 ≤ 255) : unle [x0, x1, x2, x3] = 1095914579 ↔ x0 = 83 ∧ x1 = 84 ∧ x2 = 82 ∧ x3 = 65 := by
  have e : unle [x0, x1, x2, x3] = x0 + 256 * (x1 + 256 * (x2 + 256 * (x3 + 256 * 0))) := by simp [unle]; try omega
  rw [e]
  omega
end Go.Proofs.YtambpbgmmmiocaaDoor
