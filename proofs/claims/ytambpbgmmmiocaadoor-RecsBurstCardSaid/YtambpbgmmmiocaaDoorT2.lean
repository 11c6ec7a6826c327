/- RecsBack: the law's text answers true. -/
import Derived.Test.YtambpbgmmmiocaaDoorT1
namespace Go.Proofs.YtambpbgmmmiocaaDoor
open Go.RowKit

theorem within_any (v n : Int) (w : World) (hv : -9223372036854775808 ≤ v ∧ v ≤ 9223372036854775807) (hn : 1 ≤ n ∧ n ≤ 4611686018427387904) :
    Calls Tryd.prog 29 #[.int .i64 v, .int .i64 n] w fun e w' => ∃ r : Int, e = .returned (.int .i64 r) ∧ 0 ≤ r ∧ r < n ∧ w' = w := by
  by_cases h : v < 0
  · have h0 : 0 ≤ -(v + 1) := by omega
    have hm := Int.emod_nonneg (-(v + 1)) (show n ≠ 0 by omega)
    have hl := Int.emod_lt_of_pos (-(v + 1)) (show 0 < n by omega)
    have HM := Lib.hid (And.intro hm hl)
    clear hm hl
    have hn0 : ¬ n = 0 := by omega
    go_enter Tryd.func29, Tryd.ntmps29
    go_wp2
    go_ret
    exact ⟨_, rfl, by rw [← Int.neg_tmod, Int.tmod_eq_emod_of_nonneg h0]; exact HM.out.1, by rw [← Int.neg_tmod, Int.tmod_eq_emod_of_nonneg h0]; exact HM.out.2, rfl⟩
  · have hm := Int.emod_nonneg v (show n ≠ 0 by omega)
    have hl := Int.emod_lt_of_pos v (show 0 < n by omega)
    have HM := Lib.hid (And.intro hm hl)
    clear hm hl
    have hn0 : ¬ n = 0 := by omega
    go_enter Tryd.func29, Tryd.ntmps29
    go_wp2
    go_ret
    exact ⟨_, rfl, HM.out.1, HM.out.2, rfl⟩

/-- What some leaves: 1 to k records. -/
def Someof (k : Int) (w : World) (e : Ending) (w' : World) : Prop :=
  ∃ A m c ws, e = .returned (.slice A m c) ∧ Reads w' .u64 A ws ∧ ws.length = 4 * m ∧ (∀ x ∈ ws, 0 ≤ x ∧ x ≤ 18446744073709551615) ∧ 1 ≤ m ∧ (m : Int) ≤ k ∧ Below w.heap.size w w'
set_option maxHeartbeats 1000000 in
theorem some_any (A : Option Addr) (n c : Nat) (ws : List Int) (k : Nat) (w : World) (hr : Reads w .u64 A ws) (hl : ws.length = n * 4) (hw : ∀ x ∈ ws, 0 ≤ x ∧ x ≤ 18446744073709551615) (hn : n ≤ 140737488355328) (hc : n ≤ c) (hk : 1 ≤ k ∧ k ≤ 65536) :
    Calls Tryd.prog 30 #[.slice A n c, .int .i64 (k : Int)] w (Someof k w) := by
  have HR := Lib.hid hr; have HL := Lib.hid hl; have HW := Lib.hid hw
  clear hr hl hw
  by_cases h0 : n = 0
  · subst h0
    have HB := Lib.hid (below1 w (.cells (nums .u64 [0, 0, 0, 0]).toArray 26))
    have HN := Lib.hid (reads_new w 26 .u64 [0, 0, 0, 0])
    go_enter Tryd.func30, Tryd.ntmps30
    go_wp2
    go_ret
    exact ⟨_, 1, 1, [0, 0, 0, 0], rfl, HN.out, rfl, by simp, by omega, by omega, HB.out⟩
  · have e0 : ((n : Int) == 0) = false := by simp; omega
    by_cases h1 : k < n
    · obtain ⟨b, o, rfl, hcell⟩ := HR.out (by rw [HL.out]; omega)
      clear hcell
      have hk1 : (k : Int) < (n : Int) := by omega
      have hkc : (k : Int) ≤ (c : Int) := by omega
      have HS : Hid (Reads w .u64 (some ⟨b, o, none⟩) (ws.take (4 * k))) := Lib.hid (Reads.head (ys := ws.drop (4 * k)) (by rw [List.take_append_drop]; exact HR.out))
      go_enter Tryd.func30, Tryd.ntmps30
      go_wp2
      go_ret
      exact ⟨_, k, _, ws.take (4 * k), rfl, HS.out, by rw [List.length_take, HL.out]; omega, fun x hx => HW.out x (List.mem_of_mem_take hx), by omega, by omega, Below.refl _ _⟩
    · have hk1 : (n : Int) ≤ (k : Int) := by omega
      go_enter Tryd.func30, Tryd.ntmps30
      go_wp2
      go_ret
      exact ⟨_, n, _, ws, rfl, HR.out, by rw [HL.out]; omega, HW.out, by omega, by omega, Below.refl _ _⟩
theorem fitV_of (kk : Nat) (h : 1 ≤ kk ∧ kk ≤ 2047) : fitV (32 * ((kk : Int) + 1)) = kk := by
  unfold fitV
  rw [if_neg (by omega), if_neg (by omega), if_neg (by omega)]
  omega

set_option maxRecDepth 100000 in
set_option maxHeartbeats 4000000 in
theorem recsBack_any (kind place : Int) (A : Option Addr) (n c : Nat) (ws : List Int) (block other elsewhere : Int) (w : World) (hM : Magic w) (hT : Halves w) (hk : -9223372036854775808 ≤ kind ∧ kind ≤ 9223372036854775807) (hp : -9223372036854775808 ≤ place ∧ place ≤ 9223372036854775807)
    (hb : -9223372036854775808 ≤ block ∧ block ≤ 9223372036854775807) (hn : (n + 2) * 32 ≤ 140737488355328) (hr : Reads w .u64 A ws) (hl : ws.length = n * 4) (hw : ∀ x ∈ ws, 0 ≤ x ∧ x ≤ 18446744073709551615) (hc : n ≤ c)
    (ho : -9223372036854775808 ≤ other ∧ other ≤ 9223372036854775807) (he : -9223372036854775808 ≤ elsewhere ∧ elsewhere ≤ 9223372036854775807) :
    Calls Tryd.prog 7 #[.agg #[.int .i64 kind, .int .i64 place, .slice A n c, .int .i64 block], .int .i64 other, .int .i64 elsewhere] w fun e w' => e = .returned (.bool true) ∧ Below w.heap.size w w' := by
  have HR := Lib.hid hr; have HL := Lib.hid hl; have HW := Lib.hid hw; have HM := Lib.hid hM; have HT := Lib.hid hT
  clear hr hl hw hM hT
  have HB0 := Lib.hid (below1 w (.cells #[.int .i64 kind, .int .i64 place, .slice A n c, .int .i64 block] 34))
  have within255 := fun (v : Int) (W : World) (hv : -9223372036854775808 ≤ v ∧ v ≤ 9223372036854775807) => within_any v 255 W hv (by omega)
  have within62 := fun (v : Int) (W : World) (hv : -9223372036854775808 ≤ v ∧ v ≤ 9223372036854775807) => within_any v 4611686018427387904 W hv (by omega)
  have within2047 := fun (v : Int) (W : World) (hv : -9223372036854775808 ≤ v ∧ v ≤ 9223372036854775807) => within_any v 2047 W hv (by omega)
  go_enter Tryd.func7, Tryd.ntmps7
  go_upto_region 2 with (go_at_call 29; refine (within255 _ _ hk).mono ?_; rintro e w1 ⟨r1, rfl, a1, b1, rfl⟩)
  go_upto_region 3 with (go_at_call 29; refine (within255 _ _ ho).mono ?_; rintro e w1 ⟨r2, rfl, a2, b2, rfl⟩)
  go_upto_region 4 with (go_at_call 29; refine (within62 _ _ hp).mono ?_; rintro e w1 ⟨pl, rfl, a3, b3, rfl⟩)
  go_upto_region 5 with (go_at_call 29; refine (within62 _ _ he).mono ?_; rintro e w1 ⟨el, rfl, a4, b4, rfl⟩)
  go_upto_region 6 with (go_at_call 29; refine (within2047 _ _ hb).mono ?_; rintro e w1 ⟨r5, rfl, a5, b5, rfl⟩)
  have q1 : 1 ≤ 1 + r1 ∧ 1 + r1 ≤ 255 := by omega
  have q2 : 1 ≤ 1 + r2 ∧ 1 + r2 ≤ 255 := by omega
  have q5 : 1 ≤ 1 + r5 ∧ 1 + r5 ≤ 2047 := by omega
  generalize 1 + r1 = kd at *
  generalize 1 + r2 = ot at *
  generalize 1 + r5 = k9 at *
  obtain ⟨kk, rfl⟩ : ∃ kk : Nat, k9 = kk := ⟨k9.toNat, by omega⟩
  have hsome := some_any A n c ws kk _ (HR.out.below HB0.out) HL.out HW.out (by omega) hc (by omega)
  clear within255 within62 within2047 a1 b1 a2 b2 a5 b5
  go_upto_region 7 with (go_at_call 30; refine hsome.mono ?_; rintro e w1 ⟨A1, m, c1, l, rfl, hrl, hll, hlw, hm1, hm2, hb1⟩)
  have HB1 := Lib.hid (below_self HB0.out hb1)
  obtain ⟨B, hB⟩ : ∃ B : Nat, 32 * ((kk : Int) + 1) = (B : Int) := ⟨32 * (kk + 1), by omega⟩
  have hfit : fitV (B : Int) = (kk : Int) := by rw [← hB]; exact fitV_of kk (by omega)
  have HF := Lib.hid hfit
  have hE : encE kd pl m B = 0 := enc_zero (by omega) (by omega) (by omega) (by rw [hfit]; omega) (by omega) (by rw [hfit]; omega)
  have hBm : 32 * m + 32 ≤ B := by omega
  have hB6 : 64 ≤ B ∧ B ≤ 65536 := by omega
  obtain ⟨X, hX⟩ : ∃ X, encV kd pl l m B = X := ⟨_, rfl⟩
  have hXl : X.length = B := by rw [← hX]; exact encV_len hll hBm
  have hXB : IsBytes X := by rw [← hX]; exact encV_bytes (by omega) (by omega)
  obtain ⟨d0, d1, d2⟩ := decL_enc hE (by omega) hll hlw
  have d3 := dec_enc (other := ot) (elsewhere := el) hE (by omega) hll hlw q2 a4
  rw [hX] at d0 d1 d2 d3
  have D0 := Lib.hid d0; have D1 := Lib.hid d1; have D2 := Lib.hid d2; have D3 := Lib.hid d3
  have XL := Lib.hid hXl; have XB := Lib.hid hXB
  have HE := Lib.hid hE; have LL := Lib.hid hll; have LW := Lib.hid hlw; have RL := Lib.hid hrl; have HX := Lib.hid hX
  have EA : Hid (∀ W, Hid (Below w.heap.size w W) → ∀ (C : Option Addr) (d : Nat), Reads W .u64 C l → Calls Tryd.prog 15 #[.int .i64 kd, .int .i64 pl, .slice C m d, .int .i64 (B : Int)] W
      (fun e w' => ∃ v, e = .returned (.tuple #[v, .int .i64 0]) ∧ Owns w' W.heap.size 5 v (nums .u8 X) ∧ Below W.heap.size W w')) := Lib.hid (fun W hW C d hC =>
    (encode_any kd pl C m d l B W (HM.out.below hW.out) (HT.out.below hW.out) (by omega) (by omega) (by omega) (by omega) hC LL.out LW.out).mono
      fun e w' ⟨v, he, ho, hb⟩ => ⟨v, by rw [he, HE.out], by
        unfold encL at ho
        rw [HE.out, if_pos rfl, Int.toNat_natCast, HX.out] at ho
        exact ho, hb⟩)
  have DA : Hid (∀ W, Hid (Below w.heap.size w W) → ∀ (k2 p2 : Int) (C : Option Addr) (d : Nat), -9223372036854775808 ≤ k2 ∧ k2 ≤ 9223372036854775807 → -9223372036854775808 ≤ p2 ∧ p2 ≤ 9223372036854775807 → Reads W .u8 C X → B ≤ d → Calls Tryd.prog 23 #[.int .i64 k2, .int .i64 p2, .slice C B d] W (Decoded k2 p2 X W)) := Lib.hid (fun W hW k2 p2 C d h1 h2 hC hd =>
    decode_any k2 p2 C B d X W (HM.out.below hW.out) (HT.out.below hW.out) h1 h2 hC XB.out XL.out hd (by omega))
  have hcall := EA.out w1 HB1 A1 c1 hrl
  have hfs : ∀ W, Calls Tryd.prog 19 #[.int .i64 (B : Int)] W fun e w' => e = .returned (.int .i64 (kk : Int)) ∧ w' = W := fun W => by
    have h := fit_same 19 (by simp) (B : Int) W (by omega)
    rw [HF.out] at h; exact h
  clear hsome hb1 hfit hE hX hXl hXB d0 d1 d2 d3 hll hlw hrl HB0
  go_upto_region 8 with (go_at_call 15; refine hcall.mono ?_; rintro e w2 ⟨v, rfl, ho, hb⟩)
  have HB2 := Lib.hid (below_self HB1.out hb)
  obtain ⟨Ax, cx, rfl, rx⟩ := ho.reads_at XL.out
  have hcx : B ≤ cx := owns_cap ho (by rw [nums_length, XL.out])
  have RX := Lib.hid rx
  have RL2 := Lib.hid (RL.out.below hb)
  clear hcall ho hb rx
  go_upto_region 10 with (go_at_call 19; refine (hfs _).mono ?_; rintro e w2 ⟨rfl, rfl⟩)
  have hcall : Calls Tryd.prog 23 #[.int .i64 kd, .int .i64 pl, .slice Ax B cx] w2
      (fun e w' => ∃ v, e = .returned (.tuple #[v, .int .i64 0]) ∧ w'.ownsRow w2.heap.size 26 4 v m (nums .u64 l) ∧ Below w2.heap.size w2 w') :=
    (DA.out w2 HB2 kd pl Ax cx (by omega) (by omega) RX.out hcx).mono fun e w' ⟨v, he, ho, hb⟩ => ⟨v, by rw [he, D0.out], by rw [← D1.out, ← D2.out]; exact ho, hb⟩
  go_upto_region 11 with (go_at_call 23; refine hcall.mono ?_; rintro e w3 ⟨v, rfl, ho, hb⟩)
  have HB3 := Lib.hid (below_self HB2.out hb)
  obtain ⟨A3, c3, rfl, r3, _⟩ := rows_reads ho
  have L4 : Hid (l.length = m * 4) := Lib.hid (by rw [LL.out]; omega)
  have RL3 := Lib.hid (RL2.out.below hb); have RX3 := Lib.hid (RX.out.below hb)
  have R3 := Lib.hid r3
  clear hcall ho hb r3 hfs
  have hcall := same_any A3 A1 m c3 c1 l w3 R3.out RL3.out L4.out (by omega)
  go_upto_region 13 with (go_at_call 18; refine hcall.mono ?_; rintro e w4 ⟨rfl, hb⟩)
  have HB4 := Lib.hid (below_self HB3.out hb)
  have RL4 := Lib.hid (RL3.out.below hb); have RX4 := Lib.hid (RX3.out.below hb); have R4 := Lib.hid (R3.out.below hb)
  clear hcall hb
  have hcall := EA.out w4 HB4 A3 c3 R4.out
  go_upto_region 14 with (go_at_call 15; refine hcall.mono ?_; rintro e w5 ⟨v, rfl, ho, hb⟩)
  have HB5 := Lib.hid (below_self HB4.out hb)
  obtain ⟨Ay, cy, rfl, ry⟩ := ho.reads_at XL.out
  have fy := run_bytes36 (c := cy) ry XL.out
  have RX5 := Lib.hid (RX4.out.below hb); have RL5 := Lib.hid (RL4.out.below hb)
  have fx := run_bytes36 (c := cx) RX5.out XL.out
  clear hcall ho hb ry
  go_upto_region 16 with (fail)
  clear fy fx
  have hcall := DA.out w5 HB5 ot el Ax cx (by omega) (by omega) RX5.out hcx
  by_cases h1 : ot = kd ∧ el = pl
  · obtain ⟨rfl, rfl⟩ := h1
    have hcall : Calls Tryd.prog 23 #[.int .i64 ot, .int .i64 el, .slice Ax B cx] w5
        (fun e w' => ∃ v, e = .returned (.tuple #[v, .int .i64 0]) ∧ w'.ownsRow w5.heap.size 26 4 v m (nums .u64 l) ∧ Below w5.heap.size w5 w') :=
      hcall.mono fun e w' ⟨v, he, ho, hb⟩ => ⟨v, by rw [he, D0.out], by rw [← D1.out, ← D2.out]; exact ho, hb⟩
    go_upto_region 17 with (go_at_call 23; refine hcall.mono ?_; rintro e w6 ⟨v, rfl, ho, hb⟩)
    have HB6 := Lib.hid (below_self HB5.out hb)
    obtain ⟨A6, c6, rfl, r6, _⟩ := rows_reads ho
    have R6 := Lib.hid r6
    have RL6 := Lib.hid (RL5.out.below hb)
    clear hcall ho hb r6
    have hcall := same_any A6 A1 m c6 c1 l w6 R6.out RL6.out L4.out (by omega)
    go_wp2_with (go_at_call 18; refine hcall.mono ?_; rintro e w7 ⟨rfl, hb⟩)
    go_ret
    exact ⟨rfl, below_self HB6.out hb⟩
  · have h32 : decE ot el X = 32 := by rw [D3.out, if_neg h1]
    have hN0 : decN ot el X = 0 := by unfold decN; rw [if_neg (by rw [h32]; decide)]
    have hcall : Calls Tryd.prog 23 #[.int .i64 ot, .int .i64 el, .slice Ax B cx] w5
        (fun e w' => ∃ A c, e = .returned (.tuple #[.slice A 0 c, .int .i64 32]) ∧ Below w5.heap.size w5 w') :=
      hcall.mono fun e w' ⟨v, he, ho, hb⟩ => by
        rw [hN0] at ho
        obtain ⟨A6, c6, rfl, _⟩ := rows_reads ho
        exact ⟨A6, c6, by rw [he, h32], hb⟩
    clear h32 hN0
    by_cases h2 : ot = kd
    · have h3 : ¬ el = pl := fun e => h1 ⟨h2, e⟩
      have e2 : (ot == kd) = true := by simp [h2]
      have e3 : (el == pl) = false := by simp [h3]
      clear h1 h2 h3
      go_upto_region 17 with (go_at_call 23; refine hcall.mono ?_; rintro e w6 ⟨A6, c6, rfl, hb⟩)
      have HB6 := Lib.hid (below_self HB5.out hb)
      clear hcall hb
      go_wp2
      go_ret
      exact ⟨rfl, HB6.out⟩
    · have e2 : (ot == kd) = false := by simp [h2]
      clear h1 h2
      go_upto_region 17 with (go_at_call 23; refine hcall.mono ?_; rintro e w6 ⟨A6, c6, rfl, hb⟩)
      have HB6 := Lib.hid (below_self HB5.out hb)
      clear hcall hb
      go_wp2
      go_ret
      exact ⟨rfl, HB6.out⟩
end Go.Proofs.YtambpbgmmmiocaaDoor
