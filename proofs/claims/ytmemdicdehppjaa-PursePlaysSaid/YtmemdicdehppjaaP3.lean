/- A purse that is no part and has none: what its calls leave; begun of the laws. -/
import Derived.Test.YtmemdicdehppjaaP2
namespace Go.Proofs.Ytmemdicdehppjaa
open Go.RowKit Go.MuLone

def flat (l h k : Int) (lk : Nat) : PS := ⟨l, h, 0, 0, false, k, lk, none⟩
theorem flat_good {l h k : Int} {lk : Nat} (a : 0 ≤ h ∧ h ≤ l ∧ 0 ≤ k ∧ k ≤ l ∧ l ≤ 9223372036854775807) : (flat l h k lk).Good := by
  constructor <;> simp [flat] <;> omega
theorem below_still {B : Nat} {w W w' : World} (h : Below B w W) (hB : B ≤ W.heap.size) (k : W.grownBy w' none) : Below B w w' :=
  h.trans ⟨k.os, k.tape, k.output, k.size, fun i hi => k.block i (Nat.lt_of_lt_of_le hi hB) (by simp)⟩
section
variable {b lk : Nat} {l h k : Int} {w : World}
theorem takeF_ok {x : Int} (hP : IsP w b (flat l h k lk)) (hg : 0 ≤ h ∧ h ≤ l ∧ 0 ≤ k ∧ k ≤ l ∧ l ≤ 9223372036854775807) (hx : 0 ≤ x) (hx2 : x ≤ l - h) :
    Calls Try.prog 10 #[.pointer (some ⟨b, 0, none⟩), .int .i64 x] w fun e w' => e = .returned (.int .i64 0) ∧ IsP w' b (flat l (h + x) (max k (h + x)) lk) ∧ w.grownBy w' (some b) := by
  have hE : askE (flat l h k lk) x = 0 := by
    unfold askE flat
    dsimp only
    rw [if_neg (by simp), if_neg (by omega), if_neg (by omega)]
  refine (take_any b _ x w hP (flat_good hg) (by omega)).mono fun e w' ⟨he, h1, h2⟩ => ⟨by rw [he, hE], ?_, h2⟩
  unfold takeP at h1
  rw [if_pos hE] at h1
  simpa [flat] using h1
theorem takeF_no {x : Int} (hP : IsP w b (flat l h k lk)) (hg : 0 ≤ h ∧ h ≤ l ∧ 0 ≤ k ∧ k ≤ l ∧ l ≤ 9223372036854775807) (hn : -9223372036854775808 ≤ x ∧ x ≤ 9223372036854775807) (hx : x < 0 ∨ l - h < x) :
    Calls Try.prog 10 #[.pointer (some ⟨b, 0, none⟩), .int .i64 x] w fun e w' => ∃ E : Int, e = .returned (.int .i64 E) ∧ E ≠ 0 ∧ E = (if x < 0 then 1 else 2) ∧ IsP w' b (flat l h k lk) ∧ w.grownBy w' (some b) := by
  have hE : askE (flat l h k lk) x = if x < 0 then 1 else 2 := by
    unfold askE flat
    dsimp only
    rw [if_neg (by simp)]
    by_cases h0 : x < 0
    · rw [if_pos h0, if_pos h0]
    · rw [if_neg h0, if_neg h0, if_pos (by omega)]
  have h0 : askE (flat l h k lk) x ≠ 0 := by rw [hE]; split <;> decide
  refine (take_any b _ x w hP (flat_good hg) hn).mono fun e w' ⟨he, h1, h2⟩ => ⟨_, he, h0, hE, ?_, h2⟩
  unfold takeP at h1
  rwa [if_neg h0] at h1
theorem giveF_ok {x : Int} (hP : IsP w b (flat l h k lk)) (hg : 0 ≤ h ∧ h ≤ l ∧ 0 ≤ k ∧ k ≤ l ∧ l ≤ 9223372036854775807) (hx : 0 ≤ x) (hx2 : x ≤ h) :
    Calls Try.prog 9 #[.pointer (some ⟨b, 0, none⟩), .int .i64 x] w fun e w' => e = .returned (.int .i64 0) ∧ IsP w' b (flat l (h - x) k lk) ∧ w.grownBy w' (some b) := by
  have hE : giveE (flat l h k lk) x = 0 := by
    unfold giveE flat
    dsimp only
    rw [if_neg (by simp), if_neg (by omega), if_neg (by omega)]
  refine (give_any b _ x w hP (flat_good hg) (by omega)).mono fun e w' ⟨he, h1, h2⟩ => ⟨by rw [he, hE], ?_, h2⟩
  unfold giveP at h1
  rw [if_pos hE] at h1
  simpa [flat] using h1
theorem giveF_no {x : Int} (hP : IsP w b (flat l h k lk)) (hg : 0 ≤ h ∧ h ≤ l ∧ 0 ≤ k ∧ k ≤ l ∧ l ≤ 9223372036854775807) (hn : -9223372036854775808 ≤ x ∧ x ≤ 9223372036854775807) (hx : x < 0 ∨ h < x) :
    Calls Try.prog 9 #[.pointer (some ⟨b, 0, none⟩), .int .i64 x] w fun e w' => ∃ E : Int, e = .returned (.int .i64 E) ∧ E ≠ 0 ∧ E = (if x < 0 then 1 else 20) ∧ IsP w' b (flat l h k lk) ∧ w.grownBy w' (some b) := by
  have hE : giveE (flat l h k lk) x = if x < 0 then 1 else 20 := by
    unfold giveE flat
    dsimp only
    rw [if_neg (by simp)]
    by_cases h0 : x < 0
    · rw [if_pos h0, if_pos h0]
    · rw [if_neg h0, if_neg h0, if_pos (by omega)]
  have h0 : giveE (flat l h k lk) x ≠ 0 := by rw [hE]; split <;> decide
  refine (give_any b _ x w hP (flat_good hg) hn).mono fun e w' ⟨he, h1, h2⟩ => ⟨_, he, h0, hE, ?_, h2⟩
  unfold giveP at h1
  rwa [if_neg h0] at h1
theorem usedF (hP : IsP w b (flat l h k lk)) (hg : 0 ≤ h ∧ h ≤ l ∧ 0 ≤ k ∧ k ≤ l ∧ l ≤ 9223372036854775807) :
    Calls Try.prog 11 #[.pointer (some ⟨b, 0, none⟩)] w fun e w' => e = .returned (.int .i64 h) ∧ IsP w' b (flat l h k lk) ∧ w.grownBy w' none :=
  (used_any b _ w hP (flat_good hg)).mono fun e w' ⟨he, h1⟩ => ⟨by rw [he]; simp [flat], hP.still h1, h1⟩
theorem freeF (hP : IsP w b (flat l h k lk)) (hg : 0 ≤ h ∧ h ≤ l ∧ 0 ≤ k ∧ k ≤ l ∧ l ≤ 9223372036854775807) :
    Calls Try.prog 12 #[.pointer (some ⟨b, 0, none⟩)] w fun e w' => e = .returned (.int .i64 (l - h)) ∧ IsP w' b (flat l h k lk) ∧ w.grownBy w' none :=
  (freeM_any b _ w hP (flat_good hg)).mono fun e w' ⟨he, h1⟩ => ⟨by rw [he]; simp [freeV, flat], hP.still h1, h1⟩
theorem peakF (hP : IsP w b (flat l h k lk)) : Calls Try.prog 13 #[.pointer (some ⟨b, 0, none⟩)] w fun e w' => e = .returned (.int .i64 k) ∧ w' = w := peak_any b _ w hP.1
theorem limitF (hP : IsP w b (flat l h k lk)) : Calls Try.prog 14 #[.pointer (some ⟨b, 0, none⟩)] w fun e w' => e = .returned (.int .i64 l) ∧ w' = w := limit_any b _ w hP.1
end
theorem newF (l : Int) (w : World) (h : 0 ≤ l) : Calls Try.prog 8 #[.int .i64 l] w fun e w' => ∃ b lk, e = .returned (.tuple #[.pointer (some ⟨b, 0, none⟩), .int .i64 0]) ∧ IsP w' b (flat l 0 0 lk) ∧ w.heap.size ≤ b ∧ w.heap.size ≤ lk ∧ Below w.heap.size w w' :=
  (new_any l w).mono fun e w' hn => by
    rcases hn with ⟨h0, _⟩ | ⟨_, b, lk, h1, h2, h3, h4, h5⟩
    · omega
    · exact ⟨b, lk, h1, h2, h3, h4, h5⟩
set_option maxRecDepth 100000 in
set_option maxHeartbeats 2000000 in
theorem begun_any (w : World) : Calls Try.prog 7 #[] w fun e w' => e = .returned (.bool true) ∧ Below w.heap.size w w' := by
  go_enter Try.func7, Try.ntmps7
  go_upto_region 2 with (go_at_call 8; refine (newF 10 _ (by omega)).mono ?_; rintro e w1 ⟨b, lk, rfl, hP, hb, hlk, hB⟩)
  have h1 := takeF_ok (x := 4) hP (by omega) (by omega) (by omega)
  go_upto_region 5 with (go_at_call 10; refine h1.mono ?_; rintro e w2 ⟨rfl, hP2, hg2⟩)
  have hB2 := Lib.hid (below_only hB hB.size hg2 hb)
  have hP3 : IsP w2 b (flat 10 4 4 lk) := by rw [show (max 0 (0 + 4) : Int) = 4 by decide] at hP2; exact hP2
  have h1 := usedF hP3 (by omega)
  clear hP hP2 hg2 hB
  go_wp2_with (first | (go_at_call 11; refine h1.mono ?_; rintro e w3 ⟨rfl, hP4, hg3⟩; have h2 := freeF hP4 (by omega)) | (go_at_call 12; refine h2.mono ?_; rintro e w4 ⟨rfl, hP5, hg4⟩; have h3 := peakF hP5; have h4 := limitF hP5) | (go_at_call 13; refine h3.mono ?_; rintro e w5 ⟨rfl, h55⟩; cases h55) | (go_at_call 14; refine h4.mono ?_; rintro e w6 ⟨rfl, h66⟩; cases h66))
  go_ret
  have hB3 := below_still hB2.out hB2.out.size hg3
  exact ⟨rfl, below_still hB3 hB3.size hg4⟩
end Go.Proofs.Ytmemdicdehppjaa
