/- RecsTold: the law's text answers true. -/
import Derived.Test.YtambpbgmmmiocaaDoorD3
import Derived.Test.YtambpbgmmmiocaaDoorF0
namespace Go.Proofs.YtambpbgmmmiocaaDoor
open Go.RowKit

theorem decL_length (kind place : Int) (xs : List Int) : (decL kind place xs).length = 4 * decN kind place xs := wordsV_length _ _
theorem decN_le {kind place : Int} {xs : List Int} (hx : IsBytes xs) : decN kind place xs ≤ 65535 := by
  unfold decN
  split
  · rename_i h
    obtain ⟨_, _, _, f0, _⟩ := dec_ok h
    obtain ⟨b0, _⟩ := fit_pos f0
    have := numV_range hx (by omega)
    omega
  · omega
theorem decL_range {kind place : Int} {xs : List Int} (hx : IsBytes xs) : ∀ x ∈ decL kind place xs, 0 ≤ x ∧ x ≤ 18446744073709551615 := fun x h => by
  unfold decL wordsV at h
  obtain ⟨j, _, rfl⟩ := List.mem_map.1 h
  exact wordV_range hx j
theorem encE_one : encE 3 4 1 64 = 0 := by decide
/-- A row of n records of four words, read. -/
theorem recs_cells {w : World} {base n : Nat} {v : Value} {ws : List Int} (h : w.ownsRow base 26 4 v n (nums .u64 ws)) (hn : 0 < n) : ∃ g c, v = .slice (some ⟨g, 0, none⟩) n c ∧ n ≤ c ∧ ∀ j x, ws[j]? = some x → w.cell? ⟨g, j, none⟩ = some (.int .u64 x) := by
  rcases h.2 with ⟨_, h0⟩ | ⟨g, cap, cur, rfl, _, hh, hle, _, hsz, htk⟩
  · omega
  · have hR : Reads w .u64 (some ⟨g, 0, none⟩) ws := rows_read h
    refine ⟨g, cap, rfl, hle, fun j x hx => ?_⟩
    obtain ⟨b, o, e, hc⟩ := hR.at_ hx
    cases e
    rwa [Nat.zero_add] at hc

theorem owns_cap {w : World} {base n c : Nat} {e : TypeId} {A : Option Addr} {xs : List Value} (h : Owns w base e (.slice A n c) xs) (hl : xs.length = n) : n ≤ c := by
  subst hl
  exact rows_cap h

set_option maxRecDepth 100000 in
set_option maxHeartbeats 4000000 in
theorem recsTold_any (kind place : Int) (A : Option Addr) (L c : Nat) (xs : List Int) (w : World) (hM : Magic w) (hT : Halves w) (hk : -9223372036854775808 ≤ kind ∧ kind ≤ 9223372036854775807) (hp : -9223372036854775808 ≤ place ∧ place ≤ 9223372036854775807)
    (hr : Reads w .u8 A xs) (hx : IsBytes xs) (hl : xs.length = L) (hc : L ≤ c) (hm : L ≤ 140737488355328) :
    Calls Tryd.prog 8 #[.int .i64 kind, .int .i64 place, .slice A L c] w fun e w' => e = .returned (.bool true) ∧ Below w.heap.size w w' := by
  have HR := Lib.hid hr; have HX := Lib.hid hx; have HL := Lib.hid hl; have HM := Lib.hid hM; have HT := Lib.hid hT; have HKP := Lib.hid (And.intro hk hp)
  clear hr hx hl hM hT hk hp
  have hB0 := below1 w (.cells (nums .u64 [1, 2, 3, 4]).toArray 26)
  have hcall : Calls Tryd.prog 15 #[.int .i64 3, .int .i64 4, .slice (some ⟨w.heap.size, 0, none⟩) 1 1, .int .i64 64] (w.alloc (.cells (nums .u64 [1, 2, 3, 4]).toArray 26))
      (fun e w' => ∃ v, e = .returned (.tuple #[v, .int .i64 0]) ∧ Owns w' w.heap.size 5 v (nums .u8 (encV 3 4 [1, 2, 3, 4] 1 64)) ∧ Below w.heap.size w w') :=
    (encode_any 3 4 (some ⟨w.heap.size, 0, none⟩) 1 1 [1, 2, 3, 4] 64 _ (HM.out.below hB0) (HT.out.below hB0) (by omega) (by omega) (by omega) (by omega) (reads_new w 26 .u64 [1, 2, 3, 4]) rfl (by simp)).mono
      fun e w' ⟨v, he, ho, hb⟩ => ⟨v, by rw [he, encE_one], by
        have h := ho.more hB0.size
        unfold encL at h
        rw [encE_one, if_pos rfl] at h
        exact h, below_self hB0 hb⟩
  obtain ⟨X, hX⟩ : ∃ X, encV 3 4 [1, 2, 3, 4] 1 64 = X := ⟨_, rfl⟩
  have h64 : X.length = 64 := by rw [← hX]; exact encV_len rfl (by decide)
  have hXB : IsBytes X := by rw [← hX]; exact encV_bytes (by decide) (by decide)
  obtain ⟨d0, d1, d2⟩ := decL_enc (kind := 3) (place := 4) (ws := [1, 2, 3, 4]) (n := 1) (bn := 64) encE_one (by decide) rfl (by simp)
  rw [hX] at d0 d1 d2 hcall
  have HD := Lib.hid (And.intro d0 (And.intro d1 (And.intro d2 (And.intro h64 hXB))))
  clear d0 d1 d2 h64 hXB hX hB0
  go_enter Tryd.func8, Tryd.ntmps8
  go_upto_region 2 with (go_at_call 15; refine hcall.mono ?_; rintro e w1 ⟨v, rfl, ho, hb⟩)
  have HB1 := Lib.hid hb
  obtain ⟨Ax, cx, rfl, rx⟩ := ho.reads_at HD.out.2.2.2.1
  have hcx : 64 ≤ cx := owns_cap ho (by rw [nums_length, HD.out.2.2.2.1])
  clear hcall hb
  have hcall : Calls Tryd.prog 23 #[.int .i64 3, .int .i64 4, .slice Ax 64 cx] w1
      (fun e w' => ∃ v, e = .returned (.tuple #[v, .int .i64 0]) ∧ w'.ownsRow w1.heap.size 26 4 v 1 (nums .u64 [1, 2, 3, 4]) ∧ Below w1.heap.size w1 w') :=
    (decode_any 3 4 Ax 64 cx X w1 (HM.out.below HB1.out) (HT.out.below HB1.out) (by omega) (by omega) rx HD.out.2.2.2.2 HD.out.2.2.2.1 hcx (by omega)).mono
      fun e w' ⟨v, he, ho, hb⟩ => ⟨v, by rw [he, HD.out.1], by rw [← HD.out.2.1, ← HD.out.2.2.1]; exact ho, hb⟩
  clear ho rx
  go_upto_region 3 with (go_at_call 23; refine hcall.mono ?_; rintro e w2 ⟨v, rfl, ho, hb⟩)
  have HB2 := Lib.hid (below_self HB1.out hb)
  obtain ⟨g, c2, rfl, hc2, hcell⟩ := recs_cells ho (by omega)
  have e0 := hcell 0 1 rfl
  have e1 := hcell 1 2 rfl
  have e2 := hcell 2 3 rfl
  have e3 := hcell 3 4 rfl
  have eqs := fun w => eq_recs w .u64 1 2 3 4 1 2 3 4
  simp only [beq_self_eq_true, Bool.and_self] at eqs
  have eqg := eqg26
  clear hcall hcell ho hb HB1
  go_upto_region 5 with (fail)
  clear e0 e1 e2 e3 eqs eqg
  have hcall := decode_any kind place A L c xs w2 (HM.out.below HB2.out) (HT.out.below HB2.out) HKP.out.1 HKP.out.2 (HR.out.below HB2.out) HX.out HL.out hc hm
  go_upto_region 6 with (go_at_call 23; refine hcall.mono ?_; rintro e w3 ⟨v, rfl, ho, hb⟩)
  have HB3 := Lib.hid (below_self HB2.out hb)
  clear hcall hb HB2
  have HO := Lib.hid ho
  by_cases hE : decE kind place xs = 0
  · have hN := decN_le (kind := kind) (place := place) HX.out
    obtain ⟨hE1, hV⟩ := enc_dec HX.out hE
    obtain ⟨Av, cv, rfl, rv, _⟩ := rows_reads ho
    rw [hE]
    have HN := Lib.hid hN
    rw [HL.out] at hE1 hV
    have hcall : Calls Tryd.prog 15 #[.int .i64 kind, .int .i64 place, .slice Av (decN kind place xs) cv, .int .i64 (L : Int)] w3
        (fun e w' => ∃ v, e = .returned (.tuple #[v, .int .i64 0]) ∧ Owns w' w3.heap.size 5 v (nums .u8 xs) ∧ Below w3.heap.size w3 w') :=
      (encode_any kind place Av (decN kind place xs) cv (decL kind place xs) L w3 (HM.out.below HB3.out) (HT.out.below HB3.out) HKP.out.1 HKP.out.2 (by omega) (by omega) rv (decL_length _ _ _) (decL_range HX.out)).mono
        fun e w' ⟨v, he, ho, hb⟩ => ⟨v, by rw [he, hE1], by
          have h := ho
          unfold encL at h
          rw [hE1, if_pos rfl, Int.toNat_natCast, hV] at h
          exact h, hb⟩
    clear hE hE1 hV hN ho rv
    generalize decN kind place xs = N at *
    go_upto_region 9 with (go_at_call 15; refine hcall.mono ?_; rintro e w4 ⟨v, rfl, ho, hb⟩)
    have HB4 := Lib.hid (below_self HB3.out hb)
    obtain ⟨Ay, cy, rfl, ry⟩ := ho.reads_at HL.out
    have fy := run_bytes36 (c := cy) ry HL.out
    have fx := run_bytes36 (c := c) (HR.out.below HB4.out) HL.out
    clear hcall ho hb ry
    go_wp2
    go_ret
    exact ⟨rfl, HB4.out⟩
  · have h0 : decN kind place xs = 0 := by unfold decN; rw [if_neg hE]
    rw [h0] at ho
    obtain ⟨Av, cv, rfl, _⟩ := rows_reads ho
    have e1 : (decE kind place xs != 0) = true := by simpa using hE
    clear h0 ho HO hE
    generalize decE kind place xs = E at *
    go_wp2
    go_ret
    exact ⟨rfl, HB3.out⟩
end Go.Proofs.YtambpbgmmmiocaaDoor
