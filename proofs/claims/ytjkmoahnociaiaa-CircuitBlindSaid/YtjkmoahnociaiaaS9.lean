/- The law's own lists of truths: truths, roomy, flipped, flip. -/
import Derived.Test.YtjkmoahnociaiaaS8
namespace Go.Proofs.Ytjkmoahnociaiaa
open Go.RowKit

set_option maxHeartbeats 2000000 in
/-- Two lists of truths that read alike. -/
theorem truths_same (A B : Option Addr) (n ca cb : Nat) (xs : List Bool) (w : World) (hA : CReads w A (bools xs)) (hB : CReads w B (bools xs)) (hn : xs.length = n) (hm : n ≤ 9223372036854775806) :
    Calls Try.prog 18 #[.slice A n ca, .slice B n cb] w fun e w' => e = .returned (.bool true) ∧ Below w.heap.size w w' := by
  have HA := Lib.hid hA; have HB := Lib.hid hB; have HN := Lib.hid hn
  clear hA hB hn
  go_enter Try.func18, Try.ntmps18
  go_upto_region 4 with (fail)
  go_loopw [5] (fun s5 wr => ∃ i : Nat, i ≤ n ∧ s5 = .int .i64 i ∧ Hid (Below w.heap.size w wr)) (fun s5 _ => n - (intOf s5).toNat)
  case atStart => exact ⟨0, by omega, rfl, Lib.hid (Below.refl _ _)⟩
  case round =>
    obtain ⟨i, hi, rfl, HBW⟩ := hrel
    by_cases hlt : i < n
    · obtain ⟨x, hx⟩ : ∃ x, xs[i]? = some x := ⟨_, List.getElem?_eq_getElem (by rw [HN.out]; exact hlt)⟩
      obtain ⟨ab, ao, rfl, h1⟩ := bat (HA.out.below HBW.out) hx
      obtain ⟨bb, bo, rfl, h2⟩ := bat (HB.out.below HBW.out) hx
      have hi0 : (0 : Int) ≤ (i : Int) := by omega
      have hin : (i : Int) < (n : Int) := by omega
      have hxx : (x != x) = false := by simp
      clear hx
      go_upto_region 6 with (fail)
      go_quiet (fail)
      all_goals
        go_wp2
        go_roundw
        case rel => exact ⟨i + 1, by omega, by go_num, Lib.hid (below_drewN HBW.out _)⟩
        case measure => simp [intOf]; omega
    · obtain rfl : i = n := by omega
      go_wp2
      go_ret
      exact ⟨rfl, HBW.out⟩
theorem bools_one {l : List Bool} : ∀ u ∈ bools l, u.oneCell' = true := fun u hu => by
  simp only [bools, List.mem_map] at hu
  obtain ⟨b, _, rfl⟩ := hu
  rfl
theorem bools_append (l m : List Bool) : bools (l ++ m) = bools l ++ bools m := by simp [bools]
set_option maxHeartbeats 4000000 in
theorem flipped_any (A : Option Addr) (n c : Nat) (xs : List Bool) (w : World) (hA : CReads w A (bools xs)) (hn : xs.length = n) (hm : n ≤ 140737488355327) :
    Calls Try.prog 22 #[.slice A n c] w (NewB w (xs.map (!·))) := by
  have HA := Lib.hid hA; have HN := Lib.hid hn
  clear hA hn
  have HO0 : Hid (Owns w w.heap.size 4 (.slice none 0 0) (bools ((xs.take 0).map (!·)))) := Lib.hid (by simp only [List.take_zero, List.map_nil]; exact owns_nil _ _ _)
  have HB0 := Lib.hid (Below.refl w.heap.size w)
  go_enter Try.func22, Try.ntmps22
  go_upto_region 3 with (fail)
  go_loopw [3, 4] (fun s3 s4 wr => ∃ i : Nat, i ≤ n ∧ s4 = .int .i64 i ∧ Hid (Owns wr w.heap.size 4 s3 (bools ((xs.take i).map (!·)))) ∧ Hid (Below w.heap.size w wr)) (fun _ s4 _ => n - (intOf s4).toNat)
  case atStart => exact ⟨0, by omega, rfl, HO0, HB0⟩
  case round =>
    clear HO0 HB0
    obtain ⟨i, hi, rfl, HO, HB⟩ := hrel
    by_cases hlt : i < n
    · obtain ⟨x, hx⟩ : ∃ x, xs[i]? = some x := ⟨_, List.getElem?_eq_getElem (by rw [HN.out]; exact hlt)⟩
      have hF : (xs.take (i + 1)).map (!·) = (xs.take i).map (!·) ++ [!x] := by rw [List.take_add_one, hx]; simp
      obtain ⟨y, hy⟩ : ∃ y, (!x) = y := ⟨_, rfl⟩
      rw [hy] at hF
      have HF := Lib.hid hF
      obtain ⟨ab, ao, rfl, h1⟩ := bat (HA.out.below HB.out) hx
      have hi0 : (0 : Int) ≤ (i : Int) := by omega
      have hin : (i : Int) < (n : Int) := by omega
      have HO1 := Lib.hid (HO.out.below (below1 wr (.cells [Value.bool y].toArray 4)))
      have HB1 := Lib.hid (HB.out.alloc HB.out.size (.cells [Value.bool y].toArray 4))
      have hlen : (bools ((xs.take i).map (!·))).length = i := by rw [bools_length, List.length_map, List.length_take, HN.out]; omega
      clear hx hF
      go_upto_region 4 with (at_builtin; refine wpList_push2 rfl _ _ 35 rfl w.heap.size 4 _ 1 Try.underlying35 info_bool rfl u3 _ rfl HO1.out ⟨wr.heap.size, 0, none⟩ (.bool y) rfl (by simp [go_sem]) rfl (by rw [hlen]; unfold maxLen; omega) (by rw [hlen]; omega) (by simp; have := HB.out.size; omega) ?_; intro v5 w5 hown5 hg5 hb5; have HO5 := hown5; rw [bools_snoc, ← HF.out] at HO5; have HO5 := Lib.hid HO5; have HB5 := Lib.hid (HB1.out.grown hg5 HB1.out.size (fun g hv => (HO1.out.lt hv).1)); clear hown5 hg5 hb5)
      clear HO HB HO1 HB1 hlen h1
      go_wp2
      go_roundw
      case rel => exact ⟨i + 1, by omega, by go_num, HO5, HB5⟩
      case measure => simp [intOf]; omega
    · obtain rfl : i = n := by omega
      have HOf : Hid (Owns wr w.heap.size 4 u3 (bools (xs.map (!·)))) := Lib.hid (by have := HO.out; rwa [List.take_of_length_le (by rw [HN.out]; exact Nat.le_refl _)] at this)
      clear HO
      go_wp2
      go_ret
      exact NewB.of rfl HOf.out HB.out
/-- A list, two marks behind it. -/
theorem roomy_any (A : Option Addr) (n c : Nat) (xs : List Bool) (w : World) (hA : CReads w A (bools xs)) (hn : xs.length = n) (hm : n + 2 ≤ 140737488355328) :
    Calls Try.prog 13 #[.slice A n c] w (NewB w (xs ++ [true, false])) := by
  have HA := Lib.hid hA; have HN := Lib.hid hn
  clear hA hn
  go_enter Try.func13, Try.ntmps13
  go_upto_region 2 with (at_builtin; refine wpList_cells rfl _ _ 35 rfl w.heap.size 4 _ 1 1 Try.underlying35 info_bool rfl (by decide) (.slice none 0 0) 0 [] rfl (World.ownsRow_nil _ _ _ _) A n c (bools xs) rfl HA.out (by rw [bools_length, HN.out, Nat.mul_one]) bools_one (by unfold maxLen; omega) (by omega) (Nat.le_refl _) ?_; intro v3 w3 hown3 hg3 hb3)
  have hgn3 : w.grownBy w3 none := hg3
  have HB3 : Hid (Below w.heap.size w w3) := Lib.hid ⟨hgn3.os, hgn3.tape, hgn3.output, hgn3.size, fun i hi => hgn3.block i hi (by simp)⟩
  have HO3 : Hid (w3.ownsRow w.heap.size 4 1 v3 n (bools xs)) := Lib.hid (by simpa using hown3)
  clear hg3 hgn3 hb3 hown3
  have hbl := below1 w3 (.cells [Value.bool true, Value.bool false].toArray 4)
  have HR : Hid (CReads (w3.alloc (.cells [Value.bool true, Value.bool false].toArray 4)) (some ⟨w3.heap.size, 0, none⟩) (bools [true, false])) := Lib.hid (CReads.of_blk (Blk.new w3 4 (bools [true, false])))
  have HB4 := Lib.hid (below_then HB3.out HB3.out.size hbl)
  have HO4 := Lib.hid (rows_below HO3.out hbl)
  clear hbl
  go_wp2_with (at_builtin; refine wpList_cells rfl _ _ 35 rfl w.heap.size 4 _ 1 1 Try.underlying35 info_bool rfl (by decide) v3 n (bools xs) rfl HO4.out (some ⟨w3.heap.size, 0, none⟩) 2 2 (bools [true, false]) rfl HR.out rfl bools_one (by unfold maxLen; omega) (by omega) HB4.out.size ?_; intro v5 w5 hown5 hg5 hb5)
  go_ret
  refine NewB.of rfl ?_ (HB4.out.grown hg5 HB4.out.size (fun g hv => (World.ownsRow.lt HO4.out g hv).1))
  unfold Owns
  rw [bools_append, List.length_append, bools_length, HN.out]
  exact hown5
end Go.Proofs.Ytjkmoahnociaiaa
