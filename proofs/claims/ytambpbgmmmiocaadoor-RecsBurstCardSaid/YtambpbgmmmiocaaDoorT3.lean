/- RecsBurst: the law's text answers true. -/
import Derived.Test.YtambpbgmmmiocaaDoorT2
import Derived.Test.YtambpbgmmmiocaaDoorF1
namespace Go.Proofs.YtambpbgmmmiocaaDoor
open Go.RowKit

theorem own_some {w : World} {base n : Nat} {e : TypeId} {v : Value} {xs : List Int} (h : Owns w base e v (nums .u8 xs)) (hl : xs.length = n) (hn : 0 < n) : ∃ g c, v = .slice (some ⟨g, 0, none⟩) n c ∧ n ≤ c ∧ base ≤ g := by
  rcases h.2 with ⟨_, h0⟩ | ⟨g, cap, cur, rfl, hb, _, hle, _⟩
  · rw [nums_length] at h0; omega
  · rw [nums_length, hl] at hle ⊢
    exact ⟨g, cap, rfl, hle, hb⟩
theorem own_row {w : World} {base n : Nat} {e : TypeId} {v : Value} {xs : List Int} (h : Owns w base e v (nums .u8 xs)) (hl : xs.length = n) : w.ownsRow base e 1 v n (nums .u8 xs) := by
  have h2 : w.ownsRow base e 1 v (nums .u8 xs).length (nums .u8 xs) := h
  rwa [nums_length, hl] at h2
set_option maxRecDepth 100000 in
set_option maxHeartbeats 4000000 in
theorem recsBurst_any (kind place : Int) (A : Option Addr) (n c : Nat) (ws : List Int) (block at0 bts : Int) (w : World) (hM : Magic w) (hT : Halves w) (hk : -9223372036854775808 ≤ kind ∧ kind ≤ 9223372036854775807) (hp : -9223372036854775808 ≤ place ∧ place ≤ 9223372036854775807)
    (hb : -9223372036854775808 ≤ block ∧ block ≤ 9223372036854775807) (hn : (n + 2) * 32 ≤ 140737488355328) (hr : Reads w .u64 A ws) (hl : ws.length = n * 4) (hw : ∀ x ∈ ws, 0 ≤ x ∧ x ≤ 18446744073709551615) (hc : n ≤ c)
    (ho : -9223372036854775808 ≤ at0 ∧ at0 ≤ 9223372036854775807) (he : 0 ≤ bts ∧ bts ≤ 4294967295) :
    Calls Tryd.prog 9 #[.agg #[.int .i64 kind, .int .i64 place, .slice A n c, .int .i64 block], .int .i64 at0, .int .u32 bts] w fun e w' => e = .returned (.bool true) ∧ Below w.heap.size w w' := by
  have HR := Lib.hid hr; have HL := Lib.hid hl; have HW := Lib.hid hw; have HM := Lib.hid hM; have HT := Lib.hid hT
  clear hr hl hw hM hT
  have HB0 := Lib.hid (below1 w (.cells #[.int .i64 kind, .int .i64 place, .slice A n c, .int .i64 block] 34))
  have within255 := fun (v : Int) (W : World) (hv : -9223372036854775808 ≤ v ∧ v ≤ 9223372036854775807) => within_any v 255 W hv (by omega)
  have within62 := fun (v : Int) (W : World) (hv : -9223372036854775808 ≤ v ∧ v ≤ 9223372036854775807) => within_any v 4611686018427387904 W hv (by omega)
  have within2047 := fun (v : Int) (W : World) (hv : -9223372036854775808 ≤ v ∧ v ≤ 9223372036854775807) => within_any v 2047 W hv (by omega)
  go_enter Tryd.func9, Tryd.ntmps9
  go_upto_region 2 with (go_at_call 29; refine (within255 _ _ hk).mono ?_; rintro e w1 ⟨r1, rfl, a1, b1, rfl⟩)
  go_upto_region 3 with (go_at_call 29; refine (within62 _ _ hp).mono ?_; rintro e w1 ⟨pl, rfl, a3, b3, rfl⟩)
  go_upto_region 4 with (go_at_call 29; refine (within2047 _ _ hb).mono ?_; rintro e w1 ⟨r5, rfl, a5, b5, rfl⟩)
  have q1 : 1 ≤ 1 + r1 ∧ 1 + r1 ≤ 255 := by omega
  have q5 : 1 ≤ 1 + r5 ∧ 1 + r5 ≤ 2047 := by omega
  generalize 1 + r1 = kd at *
  generalize 1 + r5 = k9 at *
  obtain ⟨kk, rfl⟩ : ∃ kk : Nat, k9 = kk := ⟨k9.toNat, by omega⟩
  have hsome := some_any A n c ws kk _ (HR.out.below HB0.out) HL.out HW.out (by omega) hc (by omega)
  clear within255 within62 within2047 a1 b1 a5 b5
  go_upto_region 5 with (go_at_call 30; refine hsome.mono ?_; rintro e w1 ⟨A1, m, c1, l, rfl, hrl, hll, hlw, hm1, hm2, hb1⟩)
  have HB1 := Lib.hid (below_self HB0.out hb1)
  obtain ⟨B, hB⟩ : ∃ B : Nat, 32 * ((kk : Int) + 1) = (B : Int) := ⟨32 * (kk + 1), by omega⟩
  have hfit : fitV (B : Int) = (kk : Int) := by rw [← hB]; exact fitV_of kk (by omega)
  have HF := Lib.hid hfit
  have hE : encE kd pl m B = 0 := enc_zero (by omega) (by omega) (by omega) (by rw [hfit]; omega) (by omega) (by rw [hfit]; omega)
  have hBm : 32 * m + 32 ≤ B := by omega
  have hB6 : 64 ≤ B ∧ B ≤ 65536 := by omega
  obtain ⟨X, hX⟩ : ∃ X, encV kd pl l m B = X := ⟨_, rfl⟩
  have hXl : X.length = B := by rw [← hX]; exact encV_len hll hBm
  have hXB : IsBytes X := by rw [← hX]; exact encV_bytes (by omega) (by omega)
  obtain ⟨d0, d1, d2⟩ := decL_enc hE (by omega) hll hlw
  rw [hX] at d0 d1 d2
  have D0 := Lib.hid d0; have D1 := Lib.hid d1; have D2 := Lib.hid d2
  have XL := Lib.hid hXl; have XB := Lib.hid hXB
  have HE := Lib.hid hE; have LL := Lib.hid hll; have LW := Lib.hid hlw; have RL := Lib.hid hrl; have HX := Lib.hid hX
  have EA : Hid (∀ W, Hid (Below w.heap.size w W) → ∀ (C : Option Addr) (d : Nat), Reads W .u64 C l → Calls Tryd.prog 15 #[.int .i64 kd, .int .i64 pl, .slice C m d, .int .i64 (B : Int)] W
      (fun e w' => ∃ v, e = .returned (.tuple #[v, .int .i64 0]) ∧ Owns w' W.heap.size 5 v (nums .u8 X) ∧ Below W.heap.size W w')) := Lib.hid (fun W hW C d hC =>
    (encode_any kd pl C m d l B W (HM.out.below hW.out) (HT.out.below hW.out) (by omega) (by omega) (by omega) (by omega) hC LL.out LW.out).mono
      fun e w' ⟨v, he, ho, hb⟩ => ⟨v, by rw [he, HE.out], by
        unfold encL at ho
        rw [HE.out, if_pos rfl, Int.toNat_natCast, HX.out] at ho
        exact ho, hb⟩)
  have DA : Hid (∀ W, Hid (Below w.heap.size w W) → ∀ (k2 p2 : Int) (C : Option Addr) (d : Nat), -9223372036854775808 ≤ k2 ∧ k2 ≤ 9223372036854775807 → -9223372036854775808 ≤ p2 ∧ p2 ≤ 9223372036854775807 → Reads W .u8 C X → B ≤ d → Calls Tryd.prog 23 #[.int .i64 k2, .int .i64 p2, .slice C B d] W (Decoded k2 p2 X W)) := Lib.hid (fun W hW k2 p2 C d h1 h2 hC hd =>
    decode_any k2 p2 C B d X W (HM.out.below hW.out) (HT.out.below hW.out) h1 h2 hC XB.out XL.out hd (by omega))
  have hcall := EA.out w1 HB1 A1 c1 hrl
  have hfs : ∀ W, Calls Tryd.prog 19 #[.int .i64 (B : Int)] W fun e w' => e = .returned (.int .i64 (kk : Int)) ∧ w' = W := fun W => by
    have h := fit_same 19 (by simp) (B : Int) W (by omega)
    rw [HF.out] at h; exact h
  clear hsome hb1 hfit hE hX hXl hXB d0 d1 d2 hll hlw hrl HB0
  go_upto_region 6 with (go_at_call 15; refine hcall.mono ?_; rintro e w2 ⟨v, rfl, ho, hb⟩)
  have HB2 := Lib.hid (below_self HB1.out hb)
  have hcell0 : B ≤ B := Nat.le_refl _
  obtain ⟨g, cx, rfl, hcx, hg⟩ := own_some ho XL.out (by omega)
  have HG : Hid (w.heap.size ≤ g) := Lib.hid (Nat.le_trans HB1.out.size hg)
  have OX : Hid (w2.ownsRow w.heap.size 5 1 (.slice (some ⟨g, 0, none⟩) B cx) B (nums .u8 X)) := Lib.hid (rows_more (own_row ho XL.out) HB1.out.size)
  have RL2 := Lib.hid (RL.out.below hb)
  clear hcall ho hb hg hcell0
  have hcall : Calls Tryd.prog 23 #[.int .i64 kd, .int .i64 pl, .slice (some ⟨g, 0, none⟩) B cx] w2
      (fun e w' => ∃ v, e = .returned (.tuple #[v, .int .i64 0]) ∧ w'.ownsRow w2.heap.size 26 4 v m (nums .u64 l) ∧ Below w2.heap.size w2 w') :=
    (DA.out w2 HB2 kd pl _ cx (by omega) (by omega) (rows_read OX.out) hcx).mono fun e w' ⟨v, he, ho, hb⟩ => ⟨v, by rw [he, D0.out], by rw [← D1.out, ← D2.out]; exact ho, hb⟩
  go_upto_region 7 with (go_at_call 23; refine hcall.mono ?_; rintro e w3 ⟨v, rfl, ho, hb⟩)
  have HB3 := Lib.hid (below_self HB2.out hb)
  obtain ⟨A3, c3, rfl, r3, _⟩ := rows_reads ho
  have L4 : Hid (l.length = m * 4) := Lib.hid (by rw [LL.out]; omega)
  have RL3 := Lib.hid (RL2.out.below hb); have OX3 := Lib.hid (rows_below OX.out hb)
  have R3 := Lib.hid r3
  clear hcall ho hb r3 hfs
  have hcall := same_any A3 A1 m c3 c1 l w3 R3.out RL3.out L4.out (by omega)
  go_upto_region 9 with (go_at_call 18; refine hcall.mono ?_; rintro e w4 ⟨rfl, hb⟩)
  have HB4 := Lib.hid (below_self HB3.out hb)
  have OX4 := Lib.hid (rows_below OX3.out hb)
  clear hcall hb OX OX3 RL2 RL3 RL HB2 HB3
  by_cases hbits : bts = 0
  · have e1 : (bts == 0) = true := by simp [hbits]
    clear hbits
    go_wp2
    go_ret
    exact ⟨rfl, HB4.out⟩
  have e1 : (bts == 0) = false := by simp [hbits]
  clear hbits
  have hwi := within_any at0 (8 * (B : Int)) w4 ho (by omega)
  go_upto_region 12 with (go_at_call 29; refine hwi.mono ?_; rintro e w4 ⟨at1, rfl, t0, t1, rfl⟩)
  obtain ⟨at2, rfl⟩ : ∃ a : Nat, at1 = a := ⟨at1.toNat, by omega⟩
  clear hwi e1
  go_upto_region 14 with (fail)
  go_loopw [15, 16] (fun s15 i wr => ∃ (k p : Nat) (t : Int) (ys : List Int), k ≤ 32 ∧ i = .int .i64 k ∧ s15 = .int .i64 t ∧ 0 ≤ t ∧ t ≤ k ∧ Hid (t = 0 ↔ p = 0) ∧ Hid (p < 2 ^ k) ∧ Hid (wr.ownsRow w.heap.size 5 1 (.slice (some ⟨g, 0, none⟩) B cx) B (nums .u8 ys)) ∧ Hid (ys.length = B ∧ IsBytes ys ∧ unN ys = unN X ^^^ 2 ^ at2 * p) ∧ Hid (Below w.heap.size w wr)) (fun _ i _ => 32 - (intOf i).toNat)
  case atStart => exact ⟨0, 0, 0, X, by omega, rfl, rfl, by omega, by omega, Lib.hid (by simp), Lib.hid (by decide), OX4, Lib.hid ⟨XL.out, XB.out, by simp⟩, HB4⟩
  case round =>
    obtain ⟨k, p, t, ys, hk, rfl, rfl, ht0, ht1, HTP, HPK, HO, HY, HB⟩ := hrel
    by_cases hlt : k < 32
    · obtain ⟨s, hs⟩ : ∃ s : Nat, bts / 2 ^ k = s := ⟨(bts / 2 ^ k).toNat, by have := Int.ediv_nonneg he.1 (Int.pow_nonneg (m := k) (show (0 : Int) ≤ 2 by omega)); omega⟩
      have hs1 : s ≤ 4294967295 := by
        have := Int.ediv_le_self (2 ^ k) he.1
        omega
      have hand : bits .and .u32 (s : Int) 1 = ((s % 2 : Nat) : Int) := by
        have := u32_and_nat s 1 (by omega) (by decide)
        rw [Nat.and_one_is_mod] at this
        exact this
      obtain ⟨nn, hnn⟩ : ∃ nn : Nat, at2 + k = nn := ⟨_, rfl⟩
      have hnI : (at2 : Int) + (k : Int) = (nn : Int) := by omega
      have hB8 : (8 : Int) * (B : Int) ≤ 524288 := by omega
      clear EA DA
      by_cases hodd : s % 2 = 1
      · replace hand : bits .and .u32 (s : Int) 1 = 1 := by rw [hand, hodd]; rfl
        by_cases hin : nn < 8 * B
        · have hinI : (nn : Int) < 8 * (B : Int) := by omega
          obtain ⟨q, hq⟩ : ∃ q : Nat, nn / 8 = q := ⟨_, rfl⟩
          obtain ⟨r, hr⟩ : ∃ r : Nat, nn % 8 = r := ⟨_, rfl⟩
          have hqI : (nn : Int) / 8 = (q : Int) := by omega
          have hrI : (nn : Int) % 8 = (r : Int) := by omega
          have hqB : q < B := by omega
          have hqB' : (q : Int) < (B : Int) := by omega
          have hr8 : r < 8 := by omega
          have hnqr : 8 * q + r = nn := by omega
          obtain ⟨y, hy⟩ : ∃ y, ys[q]? = some y := ⟨_, List.getElem?_eq_getElem (by rw [HY.out.1]; exact hqB)⟩
          have hyr := HY.out.2.1 y (List.mem_of_getElem? hy)
          obtain ⟨y0, rfl⟩ : ∃ y0 : Nat, y = y0 := ⟨y.toNat, by omega⟩
          obtain ⟨z, hz⟩ : ∃ z : Nat, 2 ^ r = z := ⟨_, rfl⟩
          have hz1 : z ≤ 128 := by
            rw [← hz]
            exact Nat.le_trans (Nat.pow_le_pow_right (by omega) (show r ≤ 7 by omega)) (by decide)
          have hzI : (2 : Int) ^ r = (z : Int) := by rw [← hz, Int.natCast_pow]; rfl
          have hxor : bits .xor .u8 (y0 : Int) (z : Int) = ((y0 ^^^ z : Nat) : Int) := u8_xor_nat y0 z (by omega) (by omega)
          obtain ⟨x, hx⟩ : ∃ x : Nat, y0 ^^^ z = x := ⟨_, rfl⟩
          rw [hx] at hxor
          obtain ⟨g', eg, hcell, hfz, hown⟩ := rows_store HO.out (i := q) (by rw [nums_length, HY.out.1]; exact hqB) (.int .u8 (x : Int))
          cases eg
          rw [nums_get, hy] at hcell
          rw [nums_set] at hown
          have HN := Lib.hid hown
          have HZ : Hid (∀ (Z : Nat), unN (ys.set q (x : Int)) = unN X ^^^ 2 ^ at2 * (p + 2 ^ k) ∧ p + 2 ^ k < 2 ^ (k + 1) ∧ p + 2 ^ k ≠ 0 ∧ IsBytes (ys.set q (x : Int)) ∧ (ys.set q (x : Int)).length = B) := Lib.hid (fun _ => by
            obtain ⟨w1, w2, w3⟩ := window_step (X := unN X) (at' := at2) HPK.out
            have h1 := unN_turn ys q r y0 HY.out.2.1 hy hr8
            have h2 := turn_bytes HY.out.2.1 hy hr8
            rw [Int.toNat_natCast, hz, hx] at h1 h2
            refine ⟨?_, w2, w3, h2, by rw [List.length_set]; exact HY.out.1⟩
            rw [h1, HY.out.2.2, hnqr, ← hnn]
            exact w1)
          clear hown hy hz hx hq hr hnn
          simp only [Option.map_some] at hcell
          go_upto_region 18 with (fail)
          go_upto_region 19 with (fail)
          clear hcell hfz
          go_wp2
          go_roundw
          case rel =>
            obtain ⟨z1, z2, z3, z4, z5⟩ := HZ.out 0
            exact ⟨k + 1, p + 2 ^ k, t + 1, ys.set q (x : Int), by omega, by go_num, by go_num, by omega, by omega, Lib.hid ⟨fun h => by omega, fun h => absurd h z3⟩, Lib.hid z2, HN, Lib.hid ⟨z5, z4, z1⟩, Lib.hid (HB.out.setCell (p := ⟨g, q, none⟩) HG.out _)⟩
          case measure => simp [intOf]; omega
        · have hinI : 8 * (B : Int) ≤ (nn : Int) := by omega
          have HQ : Hid (p < 2 ^ (k + 1)) := Lib.hid (by have := HPK.out; rw [Nat.pow_succ]; omega)
          clear hnn
          go_wp2
          go_roundw
          case rel => exact ⟨k + 1, p, t, ys, by omega, by go_num, rfl, by omega, by omega, HTP, HQ, HO, HY, HB⟩
          case measure => simp [intOf]; omega
      · replace hand : bits .and .u32 (s : Int) 1 = 0 := by rw [hand, show s % 2 = 0 by omega]; rfl
        have HQ : Hid (p < 2 ^ (k + 1)) := Lib.hid (by have := HPK.out; rw [Nat.pow_succ]; omega)
        clear hnn
        go_wp2
        go_roundw
        case rel => exact ⟨k + 1, p, t, ys, by omega, by go_num, rfl, by omega, by omega, HTP, HQ, HO, HY, HB⟩
        case measure => simp [intOf]; omega
    · obtain rfl : k = 32 := by omega
      by_cases ht : t = 0
      · have e2 : (t == 0) = true := by simp [ht]
        clear ht
        go_wp2
        go_ret
        exact ⟨rfl, HB.out⟩
      · have e2 : (t == 0) = false := by simp [ht]
        have hp0 : p ≠ 0 := fun e => ht (HTP.out.2 e)
        obtain ⟨k0, k1, p0, f0, n0, n1⟩ := enc_ok HE.out
        obtain ⟨_, _, _, _, s0, _⟩ := dec_ok D0.out
        have h30 : decE kd pl ys = 30 := by
          unfold decE
          rw [if_neg (by omega), if_neg (by omega), if_neg (by omega), if_neg (by rw [HY.out.1]; exact f0), if_pos (burst_spoils XB.out HY.out.2.1 (by rw [HY.out.1, XL.out]) (by rw [XL.out]; omega) (by rw [XL.out]; omega) (by have := HPK.out; omega) hp0 HY.out.2.2 s0)]
        have hN0 : decN kd pl ys = 0 := by unfold decN; rw [if_neg (by rw [h30]; decide)]
        have hcall : Calls Tryd.prog 23 #[.int .i64 kd, .int .i64 pl, .slice (some ⟨g, 0, none⟩) B cx] wr
            (fun e w' => ∃ A c, e = .returned (.tuple #[.slice A 0 c, .int .i64 30]) ∧ Below wr.heap.size wr w') :=
          (decode_any kd pl _ B cx ys wr (HM.out.below HB.out) (HT.out.below HB.out) (by omega) (by omega) (rows_read HO.out) HY.out.2.1 HY.out.1 hcx (by omega)).mono fun e w' ⟨v, he, ho, hb⟩ => by
            rw [hN0] at ho
            obtain ⟨A6, c6, rfl, _⟩ := rows_reads ho
            exact ⟨A6, c6, by rw [he, h30], hb⟩
        clear ht hp0 h30 hN0 s0 f0 n1
        go_upto_region 23 with (go_at_call 23; refine hcall.mono ?_; rintro e w6 ⟨A6, c6, rfl, hb⟩)
        have HB6 := Lib.hid (below_self HB.out hb)
        clear hcall hb
        go_wp2
        go_ret
        exact ⟨rfl, HB6.out⟩
end Go.Proofs.YtambpbgmmmiocaaDoor
