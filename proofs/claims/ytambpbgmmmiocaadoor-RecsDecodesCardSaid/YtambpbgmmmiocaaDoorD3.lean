/- recs.Decode answers decE and decL, at all arguments, where the tables lie as they are laid. -/
import Derived.Test.YtambpbgmmmiocaaDoorD2
import Derived.Test.YtambpbgmmmiocaaDoorF0
import Derived.Deep.RegionWith
import Derived.Test.YtambpbgmmmiocaaDoorA0
import Derived.Test.YtambpbgmmmiocaaDoorD0
import Derived.Laws.Cover3
namespace Go.Proofs.YtambpbgmmmiocaaDoor
open Go.RowKit

theorem make_recs (n : Nat) (h : n ≤ 65536) : ∀ w, (Instr.makeSlice 32 (.int .i64 (n : Int)) (.int .i64 (n : Int))).run Tryd.prog w = .ok (.slice (some ⟨w.heap.size, 0, none⟩) n n) (w.alloc (.cells (nums .u64 (zeros (n * 4))).toArray 26)) := by
  intro w
  obtain ⟨i, hi, hz, hs, hb⟩ := info_parts info26
  have hr := run_make (P := Tryd.prog) w 32 26 i _ Tryd.underlying32 hi hz .i64 .i64 n n (by omega) (by omega) (by rw [hb]; omega) (by omega)
  rw [hr, hs]
  simp only [Int.toNat_natCast]
  congr 3
  apply Array.ext
  · simp [size_madeCells, nums_length, zeros]
  · intro k h1 h2
    have h4 : k % 4 < 4 := Nat.mod_lt _ (by omega)
    simp [madeCells, nums, zeros, Value.cells]
    generalize k % 4 = r at *
    match r, h4 with
    | 0, _ | 1, _ | 2, _ | 3, _ => rfl
theorem rows_blk {w : World} {base g n size : Nat} {e : TypeId} {k : IntKind} {l : List Int} (h : Blk w g e (nums k l)) (hb : base ≤ g) (hc : l.length = n * size) (hm : l.length ≤ maxLen) (hn : n ≤ maxLen) : w.ownsRow base e size (.slice (some ⟨g, 0, none⟩) n n) n (nums k l) := by
  refine ⟨by rw [nums_length, hc], .inr ⟨g, n, _, rfl, hb, h, Nat.le_refl _, hn, by simp [nums_length, hc], ?_⟩⟩
  rw [← hc, ← nums_length k l]
  simp
theorem isAgg5 (w : World) : (isAgg 5).run Tryd.prog w = .ok false w := by kernel_rfl
theorem size5 (w : World) : (sizeOf 5).run Tryd.prog w = .ok 1 w := by kernel_rfl
theorem eqg58 : Tryd.prog.eqGuardType Tryd.prog.depth 58 = false := by kernel_rfl
theorem eq_magic (w : World) (a0 a1 a2 a3 b0 b1 b2 b3 : Int) : (Op.equalIn 10000 58 (.agg #[.int .u8 a0, .int .u8 a1, .int .u8 a2, .int .u8 a3]) (.agg #[.int .u8 b0, .int .u8 b1, .int .u8 b2, .int .u8 b3])).run Tryd.prog w = .ok ((a0 == b0) && (a1 == b1) && (a2 == b2) && (a3 == b3)) w :=
  run_equalIn_arr4 w 9999 _ _ _ _ _ _ _ _ _ _ _ _ Tryd.underlying58 (size5 w) (isAgg5 w) (run_equalIn_int w _ _ _ _ _ _ Tryd.underlying5) (run_equalIn_int w _ _ _ _ _ _ Tryd.underlying5) (run_equalIn_int w _ _ _ _ _ _ Tryd.underlying5) (run_equalIn_int w _ _ _ _ _ _ Tryd.underlying5)
theorem below_lt {w w' : World} {b o : Nat} {v : Value} (hb : Below w.heap.size w w') (hc : w.cell? ⟨b, o, none⟩ = some v) : b < w'.heap.size := by
  have h : b < w.heap.size := by
    rcases Nat.lt_or_ge b w.heap.size with h | h
    · exact h
    · simp [World.cell?, Array.getElem?_eq_none h] at hc
  exact Nat.lt_of_lt_of_le h hb.size
set_option maxRecDepth 100000 in
set_option maxHeartbeats 4000000 in
theorem decode_any (kind place : Int) (A : Option Addr) (L c : Nat) (xs : List Int) (w : World) (hM : Magic w) (hT : Halves w) (hk : -9223372036854775808 ≤ kind ∧ kind ≤ 9223372036854775807) (hp : -9223372036854775808 ≤ place ∧ place ≤ 9223372036854775807)
    (hr : Reads w .u8 A xs) (hx : IsBytes xs) (hl : xs.length = L) (hc : L ≤ c) (hm : L ≤ 140737488355328) :
    Calls Tryd.prog 23 #[.int .i64 kind, .int .i64 place, .slice A L c] w (Decoded kind place xs w) := by
  have HR := Lib.hid hr; have HX := Lib.hid hx; have HL := Lib.hid hl; have HM := Lib.hid hM; have HT := Lib.hid hT
  clear hr hx hl hM hT
  by_cases k1 : kind < 1
  · have HE : Hid (decE kind place xs = 1) := Lib.hid (by unfold decE; rw [if_pos k1])
    go_enter Tryd.func23, Tryd.ntmps23
    go_wp2_with (go_at_call 19; refine (fit_any 19 (by simp) _ _ (by omega)).mono ?_; rintro e w1 ⟨rfl, hb1⟩)
    go_ret2
    exact decoded_err HE.out (by decide) (by first | exact Below.refl _ _ | exact hb1 | exact below_self (by assumption) hb1)
  by_cases k2 : 255 < kind
  · have HE : Hid (decE kind place xs = 1) := Lib.hid (by unfold decE; rw [if_neg k1, if_pos k2])
    go_enter Tryd.func23, Tryd.ntmps23
    go_wp2_with (go_at_call 19; refine (fit_any 19 (by simp) _ _ (by omega)).mono ?_; rintro e w1 ⟨rfl, hb1⟩)
    go_ret2
    exact decoded_err HE.out (by decide) (by first | exact Below.refl _ _ | exact hb1 | exact below_self (by assumption) hb1)
  by_cases p1 : place < 0
  · have HE : Hid (decE kind place xs = 1) := Lib.hid (by unfold decE; rw [if_neg k1, if_neg k2, if_pos p1])
    go_enter Tryd.func23, Tryd.ntmps23
    go_wp2_with (go_at_call 19; refine (fit_any 19 (by simp) _ _ (by omega)).mono ?_; rintro e w1 ⟨rfl, hb1⟩)
    go_ret2
    exact decoded_err HE.out (by decide) (by first | exact Below.refl _ _ | exact hb1 | exact below_self (by assumption) hb1)
  by_cases f1 : fitV L = 0
  · have HE : Hid (decE kind place xs = 1) := Lib.hid (by unfold decE; rw [HL.out]; rw [if_neg k1, if_neg k2, if_neg p1, if_pos f1])
    have e1 : (fitV (L : Int) == 0) = true := by simp [f1]
    have F1 := Lib.hid f1
    clear f1
    go_enter Tryd.func23, Tryd.ntmps23
    go_wp2_with (go_at_call 19; refine (fit_any 19 (by simp) _ _ (by omega)).mono ?_; rintro e w1 ⟨rfl, hb1⟩)
    go_ret2
    exact decoded_err HE.out (by decide) (by first | exact Below.refl _ _ | exact hb1 | exact below_self (by assumption) hb1)
  obtain ⟨b0, b1, b2, b3⟩ := fit_pos f1
  have e1 : (fitV (L : Int) == 0) = false := by simp [f1]
  have HF := Lib.hid f1
  have HK := Lib.hid (And.intro k1 (And.intro k2 p1))
  clear f1 b2 b3
  obtain ⟨b, o, rfl, hcell⟩ := HR.out (by rw [HL.out]; omega)
  have HC := Lib.hid hcell
  clear hcell
  go_enter Tryd.func23, Tryd.ntmps23
  go_upto_region 3 with (go_at_call 19; refine (fit_any 19 (by simp) _ _ (by omega)).mono ?_; rintro e w1 ⟨rfl, hb1⟩)
  have HB : Hid (Below w.heap.size w w1) := Lib.hid (by first | exact hb1 | exact below_self (by assumption) hb1)
  obtain ⟨q, rfl⟩ : ∃ q, L = q + 4 := ⟨L - 4, by omega⟩
  have hq : IntKind.i64.wrap (q : Int) = (q : Int) := by rw [IntKind.wrap_i64]; omega
  have hq0 : (0 : Int) ≤ (q : Int) := by omega
  have hq1 : (q : Int) ≤ (q : Int) + 4 := by omega
  have hqc : (q : Int) ≤ (c : Int) := by omega
  have hq4 : q + 4 - q = 4 := by omega
  have hqb : q ≤ 65532 := by omega
  have hcq : ¬ c = q := by omega
  have hqc4 : (q : Int) + 4 ≤ (c : Int) := by omega
  clear hb1
  go_upto_region 4 with (fail)
  obtain ⟨g, hg⟩ : ∃ g, unle (xs.drop q) = g := ⟨_, rfl⟩
  obtain ⟨s, hs⟩ : ∃ s, sumV (xs.take q) = s := ⟨_, rfl⟩
  have hgr : 0 ≤ g ∧ g ≤ 4294967295 := by
    have h := unle_range (xs.drop q) fun x hx => HX.out x (List.mem_of_mem_drop hx)
    rw [show (xs.drop q).length = 4 by rw [List.length_drop, HL.out]; omega, hg] at h
    omega
  have hsr : 0 ≤ s ∧ s ≤ 4294967295 := by rw [← hs]; exact sumV_range fun x hx => HX.out x (List.mem_of_mem_take hx)
  have getAt : ∀ W, Hid (Below w.heap.size w W) → Calls Tryd.prog 35 #[.slice (some ⟨b, o + q, none⟩) 4 (c - q), .int .i64 4] W fun e w' => e = .returned (.int .u64 g) ∧ Below W.heap.size W w' := fun W hW => by
    have h := get_any (some ⟨b, o + q, none⟩) 4 4 (c - q) ((xs.drop q).take 4) W ((HR.out.below hW.out).cut) (fun x hx => HX.out x (List.mem_of_mem_drop (List.mem_of_mem_take hx))) (by rw [List.length_take, List.length_drop, HL.out]; omega) (by omega) (by omega) (by omega)
    rw [List.take_of_length_le (by rw [List.length_take]; omega), List.take_of_length_le (by rw [List.length_drop, HL.out]; omega), hg] at h
    exact h
  have sumAt : ∀ W, Hid (Below w.heap.size w W) → Calls Tryd.prog 25 #[.slice (some ⟨b, o, none⟩) q c] W fun e w' => e = .returned (.int .u32 s) ∧ Below W.heap.size W w' := fun W hW => by
    have h := sum_any (some ⟨b, o, none⟩) q c (xs.take q) W (HT.out.below hW.out) (Reads.head (ys := xs.drop q) (by rw [List.take_append_drop]; exact HR.out.below hW.out)) (fun x hx => HX.out x (List.mem_of_mem_take hx)) (by rw [List.length_take, HL.out]; omega) (by omega)
    rw [hs] at h
    exact h
  have HG := Lib.hid hg; have HS := Lib.hid hs
  have hgw : IntKind.u32.wrap g = g := by rw [IntKind.wrap_u32]; omega
  clear hg hs
  have HS2 := Lib.hid (And.intro hgr hsr)
  by_cases m1 : g = s
  rotate_left
  · have e2 : (g != s) = true := by simp [m1]
    have HE : Hid (decE kind place xs = 30) := Lib.hid (by
      unfold decE
      rw [if_neg (by have := HK.out; omega), if_neg (by have := HK.out; omega), if_neg (by have := HK.out; omega), if_neg (by rw [HL.out]; exact HF.out), HL.out, Nat.add_sub_cancel, HG.out, HS.out, if_pos m1])
    clear m1 hgr hsr
    go_region_held3 (fun w' => Hid (Below w.heap.size w w')) (first | exact hS | exact Lib.hid (below_drew hS.out) | exact Lib.hid (below_drew HB.out) | assumption) (first | ((go_at_call 35; refine (getAt _ (by first | assumption | exact Lib.hid (below_drew (Hid.out (by assumption))))).mono ?_; rintro e w3 ⟨rfl, hb3⟩; have hS : Hid (Below w.heap.size w w3) := Lib.hid (below_self (by first | exact Hid.out (by assumption) | exact below_drew (Hid.out (by assumption))) hb3))) | (go_at_call 25; refine (sumAt _ (by first | assumption | exact Lib.hid (below_drew (Hid.out (by assumption))))).mono ?_; rintro e w3 ⟨rfl, hb3⟩; have hS : Hid (Below w.heap.size w w3) := Lib.hid (below_self (by first | exact Hid.out (by assumption) | exact below_drew (Hid.out (by assumption))) hb3)))
    go_wp2
    go_ret2
    exact decoded_err HE.out (by decide) hS.out
  subst m1
  go_region_held3 (fun w' => Hid (Below w.heap.size w w')) (first | exact hS | exact Lib.hid (below_drew hS.out) | exact Lib.hid (below_drew HB.out) | assumption) (first | ((go_at_call 35; refine (getAt _ (by first | assumption | exact Lib.hid (below_drew (Hid.out (by assumption))))).mono ?_; rintro e w3 ⟨rfl, hb3⟩; have hS : Hid (Below w.heap.size w w3) := Lib.hid (below_self (by first | exact Hid.out (by assumption) | exact below_drew (Hid.out (by assumption))) hb3))) | (go_at_call 25; refine (sumAt _ (by first | assumption | exact Lib.hid (below_drew (Hid.out (by assumption))))).mono ?_; rintro e w3 ⟨rfl, hb3⟩; have hS : Hid (Below w.heap.size w w3) := Lib.hid (below_self (by first | exact Hid.out (by assumption) | exact below_drew (Hid.out (by assumption))) hb3)))
  have HBB := hS
  clear getAt sumAt hb3 hS hgr hsr HB hgw
  obtain ⟨nn, hnn⟩ : ∃ nn : Nat, numV xs = nn := ⟨(numV xs).toNat, by have := (numV_range HX.out (by rw [HL.out]; omega)).1; omega⟩
  have hnn' : nn ≤ 65535 := by have := (numV_range HX.out (by rw [HL.out]; omega)).2; omega
  obtain ⟨m6, hm6⟩ : ∃ m6, q - 2 = m6 := ⟨_, rfl⟩
  have hm6' : q + 4 - 6 = m6 := by omega
  have HN := Lib.hid hnn
  have get2 : ∀ W, Hid (Below w.heap.size w W) → Calls Tryd.prog 35 #[.slice (some ⟨b, o + 6, none⟩) m6 (c - 6), .int .i64 2] W fun e w' => e = .returned (.int .u64 (nn : Int)) ∧ Below W.heap.size W w' := fun W hW => by
    have h := get_any (some ⟨b, o + 6, none⟩) 2 m6 (c - 6) ((xs.drop 6).take m6) W ((HR.out.below hW.out).cut) (fun x hx => HX.out x (List.mem_of_mem_drop (List.mem_of_mem_take hx))) (by rw [List.length_take, List.length_drop, HL.out]; omega) (by omega) (by omega) (by omega)
    rw [List.take_take, Nat.min_eq_left (by omega)] at h
    exact (show unle ((xs.drop 6).take 2) = (nn : Int) from HN.out) ▸ h
  have hc6 : ¬ c = 6 := by omega
  have hq6 : (6 : Int) ≤ (q : Int) + 4 := by omega
  have hwn : IntKind.i64.wrap (nn : Int) = (nn : Int) := by rw [IntKind.wrap_i64]; omega
  clear hnn
  go_upto_region 7 with (go_at_call 35; refine (get2 _ HBB).mono ?_; rintro e w4 ⟨rfl, hb4⟩)
  have HB4 := Lib.hid (below_self HBB.out hb4)
  clear hb3 hS hb4 HBB get2 hm6 hm6' hc6 hq6
  obtain ⟨x0, x1, x2, x3, h0, h1, h2, h3, h03⟩ := four_of xs 0 (by rw [HL.out]; omega)
  obtain ⟨x4, h4⟩ : ∃ x, xs[4]? = some x := ⟨_, List.getElem?_eq_getElem (by rw [HL.out]; omega)⟩
  obtain ⟨x5, h5⟩ : ∃ x, xs[5]? = some x := ⟨_, List.getElem?_eq_getElem (by rw [HL.out]; omega)⟩
  have c0 := cell_kept HB4.out (HC.out 0 x0 h0)
  have c1 := cell_kept HB4.out (HC.out 1 x1 h1)
  have c2 := cell_kept HB4.out (HC.out 2 x2 h2)
  have c3 := cell_kept HB4.out (HC.out 3 x3 h3)
  have c4 := cell_kept HB4.out (HC.out 4 x4 h4)
  have c5 := cell_kept HB4.out (HC.out 5 x5 h5)
  simp only [Nat.add_zero] at c0
  have hbW := below_lt HB4.out (HC.out 0 x0 h0)
  obtain ⟨_, _, em, hmag⟩ := HM.out (by simp)
  cases em
  have hmagw := HM.out
  have g0 := cell_kept HB4.out (hmag 0 83 rfl)
  have g1 := cell_kept HB4.out (hmag 1 84 rfl)
  have g2 := cell_kept HB4.out (hmag 2 82 rfl)
  have g3 := cell_kept HB4.out (hmag 3 65 rfl)
  simp only [Nat.zero_add, Nat.add_zero] at g0 g1 g2 g3
  have h1W := below_lt HB4.out (hmag 0 83 rfl)
  have HMg : Hid (unle (xs.take 4) = 1095914579 ↔ ((x0 == 83) && (x1 == 84) && (x2 == 82) && (x3 == 65)) = true) := Lib.hid (by
    have e4 : xs.take 4 = [x0, x1, x2, x3] := by simpa using h03
    rw [e4, magic_num (HX.out _ (List.mem_of_getElem? h0)) (HX.out _ (List.mem_of_getElem? h1)) (HX.out _ (List.mem_of_getElem? h2)) (HX.out _ (List.mem_of_getElem? h3))]
    simp [and_assoc])
  have eqm := fun w => eq_magic w x0 x1 x2 x3 83 84 82 65
  have eqg := eqg58
  obtain ⟨mb, hmb⟩ : ∃ mb, ((x0 == 83) && (x1 == 84) && (x2 == 82) && (x3 == 65)) = mb := ⟨_, rfl⟩
  rw [hmb] at HMg
  simp only [hmb] at eqm
  have H4 := Lib.hid h4; have H5 := Lib.hid h5
  clear h0 h1 h2 h3 h03 h4 h5 hmag hmagw hmb
  obtain ⟨F, hF⟩ : ∃ F, fitV ((q : Int) + 4) = F := ⟨_, rfl⟩
  have HFF := Lib.hid hF
  have fitAt : ∀ W, Calls Tryd.prog 19 #[.int .i64 ((q : Int) + 4)] W fun e w' => e = .returned (.int .i64 F) ∧ w' = W := fun W => by
    have h := fit_same 19 (by simp) ((q : Int) + 4) W (by omega)
    rw [hF] at h; exact h
  clear hF
  have hE31 : headV xs = false → Hid (decE kind place xs = 31) := fun hv => Lib.hid (by
    unfold decE
    rw [if_neg (by have := HK.out; omega), if_neg (by have := HK.out; omega), if_neg (by have := HK.out; omega), if_neg (by rw [HL.out]; exact HF.out), HL.out, Nat.add_sub_cancel, HG.out, HS.out, if_neg (by simp), if_pos hv])
  have H31 := Lib.hid hE31
  clear hE31
  have hc4' : (4 : Int) ≤ (c : Int) := by omega
  have hq4' : (4 : Int) < (q : Int) + 4 := by omega
  have hat : ∀ w, (Instr.arrayAt 58 (.slice (some ⟨b, o, none⟩) 4 c)).run Tryd.prog w = .ok (.pointer (some ⟨b, o, none⟩)) w := fun w => run_arrayAt w 58 5 4 _ 4 c Tryd.underlying58 (by omega)
  have hq5' : (5 : Int) < (q : Int) + 4 := by omega
  have hc28 : (28 : Int) ≤ (c : Int) := by omega
  have hc16 : ¬ c = 16 := by omega
  obtain ⟨B1, hB1⟩ : ∃ B1, blankV ((xs.drop 16).take 12) = B1 := ⟨_, rfl⟩
  have bl1 : ∀ n, Calls Tryd.prog 36 #[.slice (some ⟨b, o + 16, none⟩) 12 (c - 16)] (w4.drewN n) fun e w' => e = .returned (.bool B1) ∧ w' = w4.drewN n := fun n => by
    have h := blank_same (some ⟨b, o + 16, none⟩) 12 (c - 16) ((xs.drop 16).take 12) (w4.drewN n) ((HR.out.below (below_drewN HB4.out n)).cut) (by rw [List.length_take, List.length_drop, HL.out]; omega) (by omega)
    rw [hB1] at h; exact h
  have HB1 := Lib.hid hB1
  clear hB1
  cases mb
  · have HE := H31.out (by unfold headV; rw [decide_eq_false (by rw [HMg.out]; simp)]; simp)
    go_quiet (fail)
    go_wp2
    go_ret2
    exact decoded_err HE.out (by decide) (below_drewN HB4.out _)
  by_cases t1 : x4 = 1
  rotate_left
  · have u1 : (x4 != 1) = true := by simpa using t1
    have HE := H31.out (by unfold headV; rw [H4.out]; simp [t1])
    go_quiet (fail)
    go_wp2
    go_ret2
    exact decoded_err HE.out (by decide) (below_drewN HB4.out _)
  have u1 : (x4 != 1) = false := by simp [t1]
  by_cases t2 : x5 = 0
  · have u2 : (x5 == 0) = true := by simp [t2]
    have HE := H31.out (by unfold headV; rw [H5.out]; simp [t2])
    go_quiet (fail)
    go_wp2
    go_ret2
    exact decoded_err HE.out (by decide) (below_drewN HB4.out _)
  have u2 : (x5 == 0) = false := by simp [t2]
  by_cases t3 : nn < 1
  · have u3 : decide ((nn : Int) < 1) = true := by simp; omega
    have HE := H31.out (by unfold headV; rw [HN.out]; simp; omega)
    go_quiet (fail)
    go_wp2
    go_ret2
    exact decoded_err HE.out (by decide) (below_drewN HB4.out _)
  have u3 : decide ((nn : Int) < 1) = false := by simp; omega
  by_cases t4 : F < nn
  · have u4 : decide (F < (nn : Int)) = true := by simp; omega
    have HE := H31.out (by unfold headV; rw [HN.out, HL.out, show ((q + 4 : Nat) : Int) = (q : Int) + 4 by omega, HFF.out]; simp; omega)
    go_quiet ((go_at_call 19; exact Calls.quiet_of_same (fitAt _)))
    go_wp2
    go_ret2
    exact decoded_err HE.out (by decide) (below_drewN HB4.out _)
  have u4 : decide (F < (nn : Int)) = false := by simp; omega
  cases B1
  · have HE := H31.out (by unfold headV; rw [HB1.out]; simp)
    go_quiet (first | ((go_at_call 19; exact Calls.quiet_of_same (fitAt _))) | (go_at_call 36; exact Calls.quiet_of_same (bl1 _)))
    go_wp2
    go_ret2
    exact decoded_err HE.out (by decide) (below_drewN HB4.out _)
  obtain ⟨s0, hs0⟩ : ∃ s0, s0 = 28 + 32 * nn := ⟨_, rfl⟩
  have hFn : Hid (32 * nn + 28 ≤ q ∧ 1 ≤ nn ∧ (nn : Int) ≤ F) := Lib.hid (by
    have h := HFF.out
    obtain ⟨_, _, _, h3⟩ := fit_pos HF.out
    rw [show ((q + 4 : Nat) : Int) = (q : Int) + 4 by omega] at h3
    rw [h3] at h
    omega)
  have hsq : s0 ≤ q := by have := hFn.out; omega
  have hw2 : IntKind.i64.wrap (32 * (nn : Int)) = 32 * (nn : Int) := by rw [IntKind.wrap_i64]; omega
  have hw3 : IntKind.i64.wrap (28 + 32 * (nn : Int)) = (s0 : Int) := by rw [IntKind.wrap_i64]; omega
  have hw4 : 28 + 32 * (nn : Int) = (s0 : Int) := by omega
  obtain ⟨e2, he2⟩ : ∃ e2, q - s0 = e2 := ⟨_, rfl⟩
  have hcs : ¬ c = s0 := by omega
  have hs0i : (0 : Int) ≤ (s0 : Int) := by omega
  have hsqi : (s0 : Int) ≤ (q : Int) := by omega
  have HS0 := Lib.hid hs0
  obtain ⟨B2, hB2⟩ : ∃ B2, blankV ((xs.drop s0).take e2) = B2 := ⟨_, rfl⟩
  have bl2 : ∀ n, Calls Tryd.prog 36 #[.slice (some ⟨b, o + s0, none⟩) e2 (c - s0)] (w4.drewN n) fun e w' => e = .returned (.bool B2) ∧ w' = w4.drewN n := fun n => by
    have h := blank_same (some ⟨b, o + s0, none⟩) e2 (c - s0) ((xs.drop s0).take e2) (w4.drewN n) ((HR.out.below (below_drewN HB4.out n)).cut) (by rw [List.length_take, List.length_drop, HL.out]; omega) (by omega)
    rw [hB2] at h; exact h
  have HB2 : Hid (blankV ((xs.drop (28 + 32 * (numV xs).toNat)).take (xs.length - 4 - (28 + 32 * (numV xs).toNat))) = B2) := Lib.hid (by
    rw [HN.out, HL.out, Int.toNat_natCast, ← hs0, Nat.add_sub_cancel, he2]; exact hB2)
  clear hB2 hs0
  cases B2
  · have HE := H31.out (by unfold headV; rw [HB2.out]; simp)
    go_quiet (first | ((go_at_call 19; exact Calls.quiet_of_same (fitAt _))) | (go_at_call 36; with_reducible exact Calls.quiet_of_same (bl1 _)) | (go_at_call 36; exact Calls.quiet_of_same (bl2 _)))
    go_wp2
    go_ret2
    exact decoded_err HE.out (by decide) (below_drewN HB4.out _)
  go_quiet (first | ((go_at_call 19; exact Calls.quiet_of_same (fitAt _))) | (go_at_call 36; with_reducible exact Calls.quiet_of_same (bl1 _)) | (go_at_call 36; exact Calls.quiet_of_same (bl2 _)))
  go_upto_region 9 with (fail)
  have HB5 := Lib.hid (below_drewN HB4.out nq)
  generalize w4.drewN nq = w5 at *
  clear c0 c1 c2 c3 c4 c5 g0 g1 g2 g3 bl1 bl2 fitAt eqm eqg hat HB4 h1W hbW
  have HV : Hid (headV xs = true) := Lib.hid (by
    unfold headV
    rw [H4.out, H5.out, HN.out, HL.out, show ((q + 4 : Nat) : Int) = (q : Int) + 4 by omega, HFF.out, HMg.out.2 (by simp), HB1.out]
    have hb2 := HB2.out
    rw [HN.out, HL.out] at hb2
    rw [hb2]
    simp [t1, t2]; omega)
  have c5 := cell_kept HB5.out (HC.out 5 x5 H5.out)
  have x5r := HX.out x5 (List.mem_of_getElem? H5.out)
  have hx5w : IntKind.i64.wrap x5 = x5 := by rw [IntKind.wrap_i64]; omega
  have hpw : IntKind.u64.wrap place = place := by rw [IntKind.wrap_u64]; omega
  have hc8 : ¬ c = 8 := by omega
  have hq8 : (8 : Int) ≤ (q : Int) + 4 := by omega
  have hq5 : (5 : Int) < (q : Int) + 4 := by omega
  obtain ⟨m8, hm8⟩ : ∃ m8, q - 4 = m8 := ⟨_, rfl⟩
  have hm8' : q + 4 - 8 = m8 := by omega
  obtain ⟨P, hP⟩ : ∃ P, unle ((xs.drop 8).take 8) = P := ⟨_, rfl⟩
  have get8 : ∀ W, Hid (Below w.heap.size w W) → Calls Tryd.prog 35 #[.slice (some ⟨b, o + 8, none⟩) m8 (c - 8), .int .i64 8] W fun e w' => e = .returned (.int .u64 P) ∧ Below W.heap.size W w' := fun W hW => by
    have h := get_any (some ⟨b, o + 8, none⟩) 8 m8 (c - 8) ((xs.drop 8).take m8) W ((HR.out.below hW.out).cut) (fun x hx => HX.out x (List.mem_of_mem_drop (List.mem_of_mem_take hx))) (by rw [List.length_take, List.length_drop, HL.out]; omega) (by omega) (by omega) (by omega)
    rw [List.take_take, Nat.min_eq_left (by omega), hP] at h
    exact h
  have HP := Lib.hid hP
  clear hP
  have hE32 : (x5 ≠ kind ∨ P ≠ place) → Hid (decE kind place xs = 32) := fun hv => Lib.hid (by
    unfold decE
    rw [if_neg (by have := HK.out; omega), if_neg (by have := HK.out; omega), if_neg (by have := HK.out; omega), if_neg (by rw [HL.out]; exact HF.out), HL.out, Nat.add_sub_cancel, HG.out, HS.out, if_neg (by simp), if_neg (by rw [HV.out]; simp), H5.out, HP.out]
    rcases hv with h | h
    · rw [if_pos (by simpa using h)]
    · by_cases h5 : (some x5 : Option Int) ≠ some kind
      · rw [if_pos h5]
      · rw [if_neg h5, if_pos h])
  have H32 := Lib.hid hE32
  clear hE32
  by_cases v1 : x5 = kind
  rotate_left
  · have HE := H32.out (.inl v1)
    have e3 : (x5 != kind) = true := by simp [v1]
    clear v1
    go_wp2
    go_ret2
    exact decoded_err HE.out (by decide) HB5.out
  subst v1
  by_cases v2 : P = place
  rotate_left
  · have HE := H32.out (.inr v2)
    have e4 : (P != place) = true := by simp [v2]
    clear v2
    go_wp2_with (go_at_call 35; refine (get8 _ HB5).mono ?_; rintro e w6 ⟨rfl, hb6⟩)
    go_ret2
    exact decoded_err HE.out (by decide) (below_self HB5.out hb6)
  subst v2
  have HE : Hid (decE x5 P xs = 0) := Lib.hid (by
    unfold decE
    rw [if_neg (by have := HK.out; omega), if_neg (by have := HK.out; omega), if_neg (by have := HK.out; omega), if_neg (by rw [HL.out]; exact HF.out), HL.out, Nat.add_sub_cancel, HG.out, HS.out, if_neg (by simp), if_neg (by rw [HV.out]; simp), H5.out, HP.out, if_neg (by simp), if_neg (by simp)])
  have hmk := make_recs nn (by omega)
  go_upto_region 11 with (go_at_call 35; refine (get8 _ HB5).mono ?_; rintro e w6 ⟨rfl, hb6⟩)
  have HB6 := Lib.hid (below_self HB5.out hb6)
  clear hb6 get8 c5 hx5w hpw hc8 hq8 hq5 hm8 hm8' H32 HP
  go_upto_region 12 with (fail)
  have hg6 := HB6.out.size
  have P0 := Lib.hid (Blk.new w6 26 (nums .u64 (zeros (nn * 4))))
  have B0 := Lib.hid (below_self HB6.out (below1 w6 (.cells (nums .u64 (zeros (nn * 4))).toArray 26)))
  generalize w6.alloc (Obj.cells (nums IntKind.u64 (zeros (nn * 4))).toArray 26) = W at *
  generalize w6.heap.size = g2 at *
  clear hmk HB6 H31 HMg hw2 hw3 hw4 he2 hcs HB2 hs0i hsqi e1 hq hq0 hq1 hqc hq4 hcq hqc4 hwn hc4' hq4' hq5' hc28 hc16
  have P1 : Hid (Blk W g2 26 (nums .u64 (wordsV xs (4 * 0) ++ zeros (4 * nn - 4 * 0)))) := Lib.hid (by rw [show 4 * nn - 4 * 0 = nn * 4 by omega]; exact P0.out)
  clear P0
  go_wp2
  go_loopw [109] (fun i wr => ∃ k : Nat, k ≤ nn ∧ i = .int .i64 k ∧ Hid (Blk wr g2 26 (nums .u64 (wordsV xs (4 * k) ++ zeros (4 * nn - 4 * k)))) ∧ Hid (Below w.heap.size w wr)) (fun i _ => nn - (intOf i).toNat)
  case atStart => exact ⟨0, by omega, rfl, P1, B0⟩
  case round =>
    obtain ⟨k, hk, rfl, HO, HB⟩ := hrel
    by_cases hlt : k < nn
    · go_wp2
      go_loopw [112] (fun i wr2 => ∃ j : Nat, j ≤ 4 ∧ i = .int .i64 j ∧ Hid (Blk wr2 g2 26 (nums .u64 (wordsV xs (4 * k + j) ++ zeros (4 * nn - 4 * k - j)))) ∧ Hid (Below w.heap.size w wr2)) (fun i _ => 4 - (intOf i).toNat)
      case atStart => exact ⟨0, by omega, rfl, HO, HB⟩
      case round =>
        obtain ⟨j, hj, rfl, HJ, HBJ⟩ := hrel
        by_cases hjt : j < 4
        · obtain ⟨p, hp⟩ : ∃ p, p = 28 + 8 * (4 * k + j) := ⟨_, rfl⟩
          have hpq : p + 8 ≤ q := by have := hFn.out; omega
          have hw1 : IntKind.i64.wrap (32 * (k : Int)) = 32 * (k : Int) := by rw [IntKind.wrap_i64]; omega
          have hw2 : IntKind.i64.wrap (28 + 32 * (k : Int)) = 28 + 32 * (k : Int) := by rw [IntKind.wrap_i64]; omega
          have hw3 : IntKind.i64.wrap (8 * (j : Int)) = 8 * (j : Int) := by rw [IntKind.wrap_i64]; omega
          have hw4 : IntKind.i64.wrap (28 + 32 * (k : Int) + 8 * (j : Int)) = (p : Int) := by rw [IntKind.wrap_i64]; omega
          have hw5 : 28 + 32 * (k : Int) + 8 * (j : Int) = (p : Int) := by omega
          have hw6 : IntKind.i64.wrap (p : Int) = (p : Int) := by rw [IntKind.wrap_i64]; omega
          have hp0 : (0 : Int) ≤ (p : Int) := by omega
          have hp1 : (p : Int) ≤ (q : Int) + 4 := by omega
          have hp2 : (p : Int) ≤ (c : Int) := by omega
          have hcp : ¬ c = p := by omega
          obtain ⟨m, hm'⟩ : ∃ m, q + 4 - p = m := ⟨_, rfl⟩
          obtain ⟨v, hv⟩ : ∃ v, wordV xs (4 * k + j) = v := ⟨_, rfl⟩
          have hvr := wordV_range HX.out (4 * k + j)
          rw [hv] at hvr
          have getk : ∀ W, Hid (Below w.heap.size w W) → Calls Tryd.prog 35 #[.slice (some ⟨b, o + p, none⟩) m (c - p), .int .i64 8] W fun e w' => e = .returned (.int .u64 v) ∧ w' = W := fun W hW => by
            have h := get_same (some ⟨b, o + p, none⟩) 8 m (c - p) ((xs.drop p).take m) W ((HR.out.below hW.out).cut) (fun x hx => HX.out x (List.mem_of_mem_drop (List.mem_of_mem_take hx))) (by rw [List.length_take, List.length_drop, HL.out]; omega) (by omega) (by omega) (by omega)
            rw [List.take_take, Nat.min_eq_left (by omega)] at h
            have hv2 : unle ((xs.drop p).take 8) = v := by rw [hp]; exact hv
            rw [hv2] at h; exact h
          have hll : (wordsV xs (4 * k + j) ++ zeros (4 * nn - 4 * k - j)).length = 4 * nn := by rw [List.length_append, wordsV_length, zeros_length]; omega
          have hcell : wr.cell? ⟨g2, k * 4 + j, none⟩ = some (.int .u64 ((wordsV xs (4 * k + j) ++ zeros (4 * nn - 4 * k - j))[k * 4 + j]'(by omega))) := by
            rw [HJ.out.cell, nums_get, List.getElem?_eq_getElem (by omega)]; rfl
          have hfz := HJ.out.frozen (k * 4 + j)
          have HN2 : Hid (Blk (wr.drew.setCell ⟨g2, k * 4 + j, none⟩ (.int .u64 v)) g2 26 (nums .u64 (wordsV xs (4 * k + (j + 1)) ++ zeros (4 * nn - 4 * k - (j + 1)))) ∧ Below w.heap.size w (wr.drew.setCell ⟨g2, k * 4 + j, none⟩ (.int .u64 v))) := Lib.hid (by
            have hb' : Blk wr.drew g2 26 (nums .u64 (wordsV xs (4 * k + j) ++ zeros (4 * nn - 4 * k - j))) := HJ.out
            refine ⟨?_, (below_drew HBJ.out).setCell (p := ⟨g2, k * 4 + j, none⟩) hg6 _⟩
            have h := hb'.set_ (k * 4 + j) (.int .u64 v)
            rw [nums_set] at h
            have e : (wordsV xs (4 * k + j) ++ zeros (4 * nn - 4 * k - j)).set (k * 4 + j) v = wordsV xs (4 * k + (j + 1)) ++ zeros (4 * nn - 4 * k - (j + 1)) := by
              rw [List.set_append_right _ _ (by rw [wordsV_length]; omega), wordsV_length, show k * 4 + j - (4 * k + j) = 0 by omega, show 4 * nn - 4 * k - j = (4 * nn - 4 * k - (j + 1)) + 1 by omega]
              rw [show 4 * k + (j + 1) = 4 * k + j + 1 by omega, wordsV_succ, hv, List.append_assoc]
              rfl
            rw [e] at h
            exact h)
          generalize (wordsV xs (4 * k + j) ++ zeros (4 * nn - 4 * k - j))[k * 4 + j]'(by omega) = old at *
          clear hll
          have HPP := Lib.hid hp; have HVV := Lib.hid hv
          have h4k : k * 4 + j < 4 * nn := by omega
          clear hp hv
          clear HS2 HS HG HFF HN HF H4 H5 HM HT HC HV HB5 hFn HS0 HB1 HK t1 t2 t3 t4 k1 k2 p1 x5r hp b0 b1 hnn'
          have hkn : (k : Int) < (nn : Int) := by omega
          have hj4 : (j : Int) < 4 := by omega
          go_wp2
          go_region_held3 (fun w' => True) (trivial) ((go_at_call 35; refine (getk _ (by first | exact HBJ | exact Lib.hid (below_drew HBJ.out))).mono ?_; rintro e w' ⟨rfl, rfl⟩))
          all_goals
            go_wp2
            go_roundw
            case rel => exact ⟨j + 1, by omega, by go_num, Lib.hid HN2.out.1, Lib.hid HN2.out.2⟩
            case measure => simp [intOf]; omega
        · obtain rfl : j = 4 := by omega
          go_wp2
          go_roundw
          case rel => exact ⟨k + 1, by omega, by go_num, Lib.hid (by rw [show 4 * (k + 1) = 4 * k + 4 by omega, show 4 * nn - (4 * k + 4) = 4 * nn - 4 * k - 4 by omega]; exact HJ.out), HBJ⟩
          case measure => simp [intOf]; omega
    · obtain rfl : k = nn := by omega
      have HD : Hid (decN x5 P xs = k ∧ decL x5 P xs = wordsV xs (4 * k)) := Lib.hid (by
        have hN : decN x5 P xs = k := by unfold decN; rw [if_pos HE.out, HN.out]; rfl
        exact ⟨hN, by unfold decL; rw [hN]⟩)
      go_wp2
      go_ret2
      refine ⟨.slice (some ⟨g2, 0, none⟩) k k, by rw [HE.out]; rfl, ?_, HB.out⟩
      rw [HD.out.1, HD.out.2]
      have ho := HO.out
      rw [Nat.sub_self] at ho
      exact rows_blk (by simpa [zeros] using ho) hg6 (by rw [wordsV_length]; omega) (by rw [wordsV_length]; simp [maxLen]; omega) (by simp [maxLen]; omega)
end Go.Proofs.YtambpbgmmmiocaaDoor
