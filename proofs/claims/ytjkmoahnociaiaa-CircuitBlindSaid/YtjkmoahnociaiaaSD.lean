/- alone: the walk. -/
import Derived.Test.YtjkmoahnociaiaaRX
namespace Go.Proofs.Ytjkmoahnociaiaa
open Go.RowKit

theorem Hold.back {w : World} {base : Nat} {l m : List RW} (h : Hold w base (l ++ m)) : Hold w base m :=
  ⟨fun i r hr => h.1 (l.length + i) r (by rw [List.getElem?_append_right (by omega), Nat.add_sub_cancel_left]; exact hr), fun i j r s hne hr hs => h.2 (l.length + i) (l.length + j) r s (by omega) (by rw [List.getElem?_append_right (by omega), Nat.add_sub_cancel_left]; exact hr) (by rw [List.getElem?_append_right (by omega), Nat.add_sub_cancel_left]; exact hs)⟩
set_option maxRecDepth 100000 in
set_option maxHeartbeats 8000000 in
theorem alone_keep (base : Nat) (AL AW : Option Addr) (N cl cw : Nat) (R : List LR) (X : List RW) (wants : List Value) (w : World) (hH : Hold w base (R.map LR.row ++ X)) (hL : RdT w AL 35 (R.map LR.v)) (hW : RdT w AW 35 wants) (hX : Wants R X wants)
    (hN : R.length = N) (hs : ∀ r ∈ R, r.xs.length ≤ 65536) (hN1 : N ≤ 1000) (hb : base ≤ w.heap.size) :
    Calls Try.prog 19 #[.slice AL N cl, .slice AW N cw] w fun e w' => e = .returned (.bool true) ∧ Below base w w' ∧ Hold w' base X := by
  have HH0 : Hid (Hold w base ((flipK R 0).map LR.row ++ X)) := Lib.hid (by rw [flipK_zero]; exact hH)
  have HL0 := Lib.hid hL; have HW0 := Lib.hid hW; have HX := Lib.hid hX; have HN := Lib.hid hN; have HS := Lib.hid hs
  have HB0 : Hid (Below base w w) := Lib.hid (Below.refl _ _)
  have HBB : Hid (base ≤ w.heap.size) := Lib.hid hb
  clear hH hL hW hX hN hs hb
  go_enter Try.func19, Try.ntmps19
  go_upto_region 2 with (fail)
  go_loopw [5] (fun s5 wr => ∃ i : Nat, i ≤ N ∧ s5 = .int .i64 i ∧ Hid (Hold wr base ((flipK R i).map LR.row ++ X)) ∧ Hid (RdT wr AL 35 (R.map LR.v)) ∧ Hid (RdT wr AW 35 wants) ∧ Hid (Below base w wr)) (fun s5 _ => N - (intOf s5).toNat)
  case atStart => exact ⟨0, by omega, rfl, HH0, HL0, HW0, HB0⟩
  case round =>
    clear HH0 HL0 HW0 HB0
    obtain ⟨i, hi, rfl, HH, HL, HW, HB⟩ := hrel
    by_cases hlt : i < N
    · obtain ⟨r, hr⟩ : ∃ r, R[i]? = some r := ⟨_, List.getElem?_eq_getElem (by rw [HN.out]; exact hlt)⟩
      have hrk := flipK_ge hr (Nat.le_refl i)
      have hrl := HS.out r (List.mem_of_getElem? hr)
      obtain ⟨lb, lo, rfl, l1⟩ := HL.out.at_ (x := r.v) (by rw [List.getElem?_map, hr]; rfl)
      have ho := HH.out.lrow hrk
      have hcall : Calls Try.prog 21 #[.slice r.A r.xs.length r.c] wr fun e w' => e = .returned (.tuple #[]) ∧ Hid (Owns w' base 4 (.slice r.A r.xs.length r.c) (bools (r.xs.map (!·)))) ∧ wr.grownBy w' (r.A.map (·.block)) := flip_any base r.A r.xs.length r.c r.xs wr ho rfl (by omega)
      have hty : ∀ g, r.A.map (·.block) = some g → Typed wr g 4 := fun g hg => ho.typed (by
        rcases hA : r.A with _ | a
        · rw [hA] at hg; cases hg
        · rw [hA] at hg; exact hg)
      have hlt0 : ∀ g, r.A.map (·.block) = some g → base ≤ g := fun g hg => (ho.lt (g := g) (by
        rcases hA : r.A with _ | a
        · rw [hA] at hg; cases hg
        · rw [hA] at hg; exact hg)).1
      have HTY := Lib.hid hty
      have HLT := Lib.hid hlt0
      have HRK := Lib.hid hrk
      have HFS := Lib.hid (flipK_succ hr)
      have hi0 : (0 : Int) ≤ (i : Int) := by omega
      have hiN : (i : Int) < (N : Int) := by omega
      unfold LR.v at l1
      clear ho hty hlt0 hrk hr
      generalize hrv : r.xs.length = rn at *
      go_upto_region 5 with (go_at_call 21; with_reducible refine hcall.mono ?_; rintro e w2 ⟨rfl, hO2, hg2⟩)
      have HH2 : Hid (Hold w2 base ((flipK R (i + 1)).map LR.row ++ X)) := Lib.hid (by rw [HFS.out]; exact HH.out.flip HRK.out (by rw [hrv]; exact hO2.out) hg2)
      have HL2 := Lib.hid (HL.out.aside hg2 HTY.out (by decide))
      have HW2 := Lib.hid (HW.out.aside hg2 HTY.out (by decide))
      have HB2 := Lib.hid (HB.out.grown hg2 (Nat.le_trans HBB.out HB.out.size) HLT.out)
      have HW0 := Lib.hid (Below.refl w2.heap.size w2)
      clear hcall l1 hO2 hg2 HH HL HW HB HTY HLT HRK HFS hrl
      clear hrv
      go_upto_region 6 with (fail)
      go_loopw [6] (fun s6 wr => ∃ j : Nat, j ≤ N ∧ s6 = .int .i64 j ∧ Hid (Below w2.heap.size w2 wr)) (fun s6 _ => N - (intOf s6).toNat)
      case atStart => exact ⟨0, by omega, rfl, HW0⟩
      case round =>
        clear HW0
        obtain ⟨j, hj, rfl, HB⟩ := hrel
        by_cases hlt2 : j < N
        · obtain ⟨r, hr⟩ : ∃ r, R[j]? = some r := ⟨_, List.getElem?_eq_getElem (by rw [HN.out]; exact hlt2)⟩
          obtain ⟨A', c', jj, hw1, hw2⟩ := HX.out j r hr
          obtain ⟨b1, o1, e1, l1⟩ := (HL2.out.below HB.out).at_ (x := r.v) (by rw [List.getElem?_map, hr]; rfl)
          cases e1
          obtain ⟨wb, wo, rfl, l2⟩ := (HW2.out.below HB.out).at_ hw1
          have hrl := HS.out r (List.mem_of_getElem? hr)
          have hlx : ∃ ys : List Bool, ys.length = r.xs.length ∧ Hid (CReads w2 r.A (bools ys)) ∧ ys = (if j ≤ i then r.xs.map (!·) else r.xs) := by
            by_cases h : j ≤ i
            · have ho := HH2.out.lrow (r := r.no) (flipK_lt hr (by omega : j < i + 1))
              exact ⟨r.xs.map (!·), by simp, Lib.hid (owns_read ho rfl), by rw [if_pos h]⟩
            · exact ⟨_, rfl, Lib.hid (owns_read (HH2.out.lrow (flipK_ge hr (by omega : i + 1 ≤ j))) rfl), by rw [if_neg h]⟩
          obtain ⟨ys, hyl, HY, hys⟩ := hlx
          have HWX : Hid (CReads w2 A' (bools r.xs)) := Lib.hid (owns_read (HH2.out.xrow hw2) rfl)
          have hj0 : (0 : Int) ≤ (j : Int) := by omega
          have hjN : (j : Int) < (N : Int) := by omega
          have HD := Lib.hid (below_drew0 HB.out)
          have HRL := Lib.hid (rfl : r.xs.length = r.xs.length)
          unfold LR.v at l1
          have HKP : Hid (∀ W, Below w2.heap.size w2 W → W.cell? ⟨lb, lo + j, none⟩ = some (.slice r.A r.xs.length r.c) ∧ W.cell? ⟨wb, wo + j, none⟩ = some (.slice A' r.xs.length c')) := Lib.hid (fun W hW => by
            obtain ⟨_, _, e1, k1⟩ := (HL2.out.below hW).at_ (x := r.v) (by rw [List.getElem?_map, hr]; rfl)
            cases e1
            obtain ⟨_, _, e2, k2⟩ := (HW2.out.below hW).at_ hw1
            cases e2
            exact ⟨k1, k2⟩)
          obtain ⟨q, hq⟩ : ∃ q, r.xs.length = q := ⟨_, rfl⟩
          rw [hq] at l1 l2 HKP hrl hyl
          have HQ := Lib.hid hq
          clear hw1 hw2 hr hq HRL
          by_cases h : j ≤ i
          · rw [if_pos h] at hys
            have hc : Calls Try.prog 22 #[.slice A' q c'] wr.drew fun e w' => ∃ A3 c3, e = .returned (.slice A3 q c3) ∧ Hid (CReads w' A3 (bools ys)) ∧ Below wr.drew.heap.size wr.drew w' := by
              refine (flipped_any A' q c' r.xs wr.drew (HWX.out.below HD.out) HQ.out (by omega)).mono ?_
              rintro e w' ⟨A3, c3, rfl, ho, hb⟩
              rw [← hys, hyl] at ho ⊢
              exact ⟨A3, c3, rfl, Lib.hid (owns_read ho.out hyl), hb⟩
            have ht : ∀ W A3 c3, Below w2.heap.size w2 W → CReads W A3 (bools ys) → Calls Try.prog 18 #[.slice r.A q r.c, .slice A3 q c3] W fun e w' => e = .returned (.bool true) ∧ Below W.heap.size W w' := fun W A3 c3 hW hR => truths_same r.A A3 q r.c c3 ys W (HY.out.below hW) hR hyl (by omega)
            have HT := Lib.hid ht
            have d1 : decide (j ≤ i) = true := by simpa using h
            have d2 : decide ((j : Int) ≤ (i : Int)) = true := by simpa using h
            have d3 : decide ((i : Int) < (j : Int)) = false := by simp; omega
            have d4 : decide (i < j) = false := by simp; omega
            have h1 : (j : Int) ≤ (i : Int) := by omega
            have h2 : ¬ (i : Int) < (j : Int) := by omega
            clear ht hys h
            go_upto_region 8 with (fail)
            refine wp_region_held_drew (S := (fun w' => w'.cell? ⟨lb, lo + j, none⟩ = some (.slice r.A q r.c) ∧ w'.cell? ⟨wb, wo + j, none⟩ = some (.slice A' q c'))) (by kernel_rfl) ?hS0a (fun hHeld => ?hR0a)
            case hS0a => (try dsimp only); (first | exact ⟨l1, l2⟩ | exact HKP.out _ HD.out | exact HKP.out _ HB3.out | exact HKP.out _ HB4.out)
            refine takeOn (i := 0) (v := ?v0a) rfl (by kernel_rfl) (by kernel_rfl) (by kernel_rfl) (fun _ _ _ h => h) (by rfl) ?y0a (by assumption) ?r0a
            case y0a => (intro w hSw; (try dsimp only at hSw); go_simp; (try with_reducible rfl))
            try simp only [Act.put, List.setIfInBounds_toArray, List.set_cons_zero, List.set_cons_succ]
            refine takeOn (i := 1) (v := ?v1a) rfl (by kernel_rfl) (by kernel_rfl) (by kernel_rfl) (fun _ _ _ h => h) (by rfl) ?y1a (by assumption) ?r1a
            case y1a => (intro w hSw; (try dsimp only at hSw); go_simp; (try with_reducible rfl))
            try simp only [Act.put, List.setIfInBounds_toArray, List.set_cons_zero, List.set_cons_succ]
            refine takeOn (i := 2) (v := ?v2a) rfl (by kernel_rfl) (by kernel_rfl) (by kernel_rfl) (fun _ _ _ h => h) (by rfl) ?y2a (by assumption) ?r2a
            case y2a => (intro w hSw; (try dsimp only at hSw); go_simp; (try with_reducible rfl))
            try simp only [Act.put, List.setIfInBounds_toArray, List.set_cons_zero, List.set_cons_succ]
            refine takeOn (i := 3) (v := ?v3a) rfl (by kernel_rfl) (by kernel_rfl) (by kernel_rfl) (fun _ _ _ h => h) (by rfl) ?y3a (by assumption) ?r3a
            case y3a => (intro w hSw; (try dsimp only at hSw); go_simp; (try with_reducible rfl))
            try simp only [Act.put, List.setIfInBounds_toArray, List.set_cons_zero, List.set_cons_succ]
            refine takeOn (i := 4) (v := ?v4a) rfl (by kernel_rfl) (by kernel_rfl) (by kernel_rfl) (fun _ _ _ h => h) (by rfl) ?y4a (by assumption) ?r4a
            case y4a => (intro w hSw; (try dsimp only at hSw); go_simp; (try with_reducible rfl))
            try simp only [Act.put, List.setIfInBounds_toArray, List.set_cons_zero, List.set_cons_succ]
            refine takeOn (i := 5) (v := ?v5a) rfl (by kernel_rfl) (by kernel_rfl) (by kernel_rfl) (fun _ _ _ h => h) (by rfl) ?y5a (by assumption) ?r5a
            case y5a => (intro w hSw; (try dsimp only at hSw); go_simp; (try with_reducible rfl))
            try simp only [Act.put, List.setIfInBounds_toArray, List.set_cons_zero, List.set_cons_succ]
            refine takeOn (i := 6) (v := ?v6a) rfl (by kernel_rfl) (by kernel_rfl) (by kernel_rfl) (fun _ _ _ h => h) (by rfl) ?y6a (by assumption) ?r6a
            case y6a => (intro w hSw; (try dsimp only at hSw); go_simp; (try with_reducible rfl))
            try simp only [Act.put, List.setIfInBounds_toArray, List.set_cons_zero, List.set_cons_succ]
            refine takeOn (i := 7) (v := ?v7a) rfl (by kernel_rfl) (by kernel_rfl) (by kernel_rfl) (fun _ _ _ h => h) (by rfl) ?y7a (by assumption) ?r7a
            case y7a => (intro w hSw; (try dsimp only at hSw); go_simp; (try with_reducible rfl))
            try simp only [Act.put, List.setIfInBounds_toArray, List.set_cons_zero, List.set_cons_succ]
            refine takeOn (i := 8) (v := ?v8a) rfl (by kernel_rfl) (by kernel_rfl) (by kernel_rfl) (fun _ _ _ h => h) (by rfl) ?y8a (by assumption) ?r8a
            case y8a => (intro w hSw; (try dsimp only at hSw); go_simp; (try with_reducible rfl))
            try simp only [Act.put, List.setIfInBounds_toArray, List.set_cons_zero, List.set_cons_succ]
            refine takeOn (i := 9) (v := ?v9a) rfl (by kernel_rfl) (by kernel_rfl) (by kernel_rfl) (fun _ _ _ h => h) (by rfl) ?y9a (by assumption) ?r9a
            case y9a => (intro w hSw; (try dsimp only at hSw); go_simp; (try with_reducible rfl))
            try simp only [Act.put, List.setIfInBounds_toArray, List.set_cons_zero, List.set_cons_succ]
            refine takeOn (i := 10) (v := ?v10a) rfl (by kernel_rfl) (by kernel_rfl) (by kernel_rfl) (fun _ _ _ h => h) (by rfl) ?y10a (by assumption) ?r10a
            case y10a => (intro w hSw; (try dsimp only at hSw); go_simp; (try with_reducible rfl))
            try simp only [Act.put, List.setIfInBounds_toArray, List.set_cons_zero, List.set_cons_succ]
            refine takeOn (i := 11) (v := ?v11a) rfl (by kernel_rfl) (by kernel_rfl) (by kernel_rfl) (fun _ _ _ h => h) (by rfl) ?y11a (by assumption) ?r11a
            case y11a => (intro w hSw; (try dsimp only at hSw); go_simp; (try with_reducible rfl))
            try simp only [Act.put, List.setIfInBounds_toArray, List.set_cons_zero, List.set_cons_succ]
            refine callOn (i := 12) rfl (by kernel_rfl) (by rfl) ?_
            intro K hK
            go_simp
            go_at_call 22
            with_reducible refine hc.mono ?_
            rintro e w3 ⟨A3, c3, rfl, hO3, hb3⟩
            have HB3 := Lib.hid (below_self HD.out hb3)
            have st := HT.out w3 A3 c3 HB3.out hO3.out
            refine hK.out _ _ ?hS13a (fun hHeld13 => ?hR13a)
            case hS13a => (try dsimp only); (first | exact ⟨l1, l2⟩ | exact HKP.out _ HD.out | exact HKP.out _ HB3.out | exact HKP.out _ HB4.out)
            clear hK K
            try simp only [Act.put, List.setIfInBounds_toArray, List.set_cons_zero, List.set_cons_succ]
            refine callOn (i := 13) rfl (by kernel_rfl) (by rfl) ?_
            intro K hK
            go_simp
            go_at_call 18
            with_reducible refine st.mono ?_
            rintro e w4 ⟨rfl, hb4⟩
            have HB4 := Lib.hid (below_self HB3.out hb4)
            refine hK.out _ _ ?hS14a (fun hHeld14 => ?hR14a)
            case hS14a => (try dsimp only); (first | exact ⟨l1, l2⟩ | exact HKP.out _ HD.out | exact HKP.out _ HB3.out | exact HKP.out _ HB4.out)
            clear hK K
            try simp only [Act.put, List.setIfInBounds_toArray, List.set_cons_zero, List.set_cons_succ]
            refine takeOn (i := 14) (v := ?v14a) rfl (by kernel_rfl) (by kernel_rfl) (by kernel_rfl) (fun _ _ _ h => h) (by rfl) ?y14a (by assumption) ?r14a
            case y14a => (intro w hSw; (try dsimp only at hSw); go_simp; (try with_reducible rfl))
            try simp only [Act.put, List.setIfInBounds_toArray, List.set_cons_zero, List.set_cons_succ]
            refine takeOn (i := 15) (v := ?v15a) rfl (by kernel_rfl) (by kernel_rfl) (by kernel_rfl) (fun _ _ _ h => h) (by rfl) ?y15a (by assumption) ?r15a
            case y15a => (intro w hSw; (try dsimp only at hSw); go_simp; (try with_reducible rfl))
            try simp only [Act.put, List.setIfInBounds_toArray, List.set_cons_zero, List.set_cons_succ]
            refine takeOn (i := 16) (v := ?v16a) rfl (by kernel_rfl) (by kernel_rfl) (by kernel_rfl) (fun _ _ _ h => h) (by rfl) ?y16a (by assumption) ?r16a
            case y16a => (intro w hSw; (try dsimp only at hSw); go_simp; (try with_reducible rfl))
            try simp only [Act.put, List.setIfInBounds_toArray, List.set_cons_zero, List.set_cons_succ]
            refine takeOn (i := 17) (v := ?v17a) rfl (by kernel_rfl) (by kernel_rfl) (by kernel_rfl) (fun _ _ _ h => h) (by rfl) ?y17a (by assumption) ?r17a
            case y17a => (intro w hSw; (try dsimp only at hSw); go_simp; (try with_reducible rfl))
            try simp only [Act.put, List.setIfInBounds_toArray, List.set_cons_zero, List.set_cons_succ]
            refine takeOn (i := 18) (v := ?v18a) rfl (by kernel_rfl) (by kernel_rfl) (by kernel_rfl) (fun _ _ _ h => h) (by rfl) ?y18a (by assumption) ?r18a
            case y18a => (intro w hSw; (try dsimp only at hSw); go_simp; (try with_reducible rfl))
            try simp only [Act.put, List.setIfInBounds_toArray, List.set_cons_zero, List.set_cons_succ]
            refine takeOn (i := 19) (v := ?v19a) rfl (by kernel_rfl) (by kernel_rfl) (by kernel_rfl) (fun _ _ _ h => h) (by rfl) ?y19a (by assumption) ?r19a
            case y19a => (intro w hSw; (try dsimp only at hSw); go_simp; (try with_reducible rfl))
            try simp only [Act.put, List.setIfInBounds_toArray, List.set_cons_zero, List.set_cons_succ]
            refine takeOn (i := 20) (v := ?v20a) rfl (by kernel_rfl) (by kernel_rfl) (by kernel_rfl) (fun _ _ _ h => h) (by rfl) ?y20a (by assumption) ?r20a
            case y20a => (intro w hSw; (try dsimp only at hSw); go_simp; (try with_reducible rfl))
            try simp only [Act.put, List.setIfInBounds_toArray, List.set_cons_zero, List.set_cons_succ]
            refine takeOff (i := 21) rfl (by kernel_rfl) (by kernel_rfl) (by kernel_rfl) (fun _ _ _ h => h) (by rfl) (by assumption) ?_
            try simp only [Act.put, List.setIfInBounds_toArray, List.set_cons_zero, List.set_cons_succ]
            refine takeOff (i := 22) rfl (by kernel_rfl) (by kernel_rfl) (by kernel_rfl) (fun _ _ _ h => h) (by rfl) (by assumption) ?_
            try simp only [Act.put, List.setIfInBounds_toArray, List.set_cons_zero, List.set_cons_succ]
            refine takeOff (i := 23) rfl (by kernel_rfl) (by kernel_rfl) (by kernel_rfl) (fun _ _ _ h => h) (by rfl) (by assumption) ?_
            try simp only [Act.put, List.setIfInBounds_toArray, List.set_cons_zero, List.set_cons_succ]
            refine takeOff (i := 24) rfl (by kernel_rfl) (by kernel_rfl) (by kernel_rfl) (fun _ _ _ h => h) (by rfl) (by assumption) ?_
            try simp only [Act.put, List.setIfInBounds_toArray, List.set_cons_zero, List.set_cons_succ]
            refine takeOff (i := 25) rfl (by kernel_rfl) (by kernel_rfl) (by kernel_rfl) (fun _ _ _ h => h) (by rfl) (by assumption) ?_
            try simp only [Act.put, List.setIfInBounds_toArray, List.set_cons_zero, List.set_cons_succ]
            refine takeOff (i := 26) rfl (by kernel_rfl) (by kernel_rfl) (by kernel_rfl) (fun _ _ _ h => h) (by rfl) (by assumption) ?_
            try simp only [Act.put, List.setIfInBounds_toArray, List.set_cons_zero, List.set_cons_succ]
            refine takeOff (i := 27) rfl (by kernel_rfl) (by kernel_rfl) (by kernel_rfl) (fun _ _ _ h => h) (by rfl) (by assumption) ?_
            try simp only [Act.put, List.setIfInBounds_toArray, List.set_cons_zero, List.set_cons_succ]
            refine takeOff (i := 28) rfl (by kernel_rfl) (by kernel_rfl) (by kernel_rfl) (fun _ _ _ h => h) (by rfl) (by assumption) ?_
            try simp only [Act.put, List.setIfInBounds_toArray, List.set_cons_zero, List.set_cons_succ]
            refine takeOff (i := 29) rfl (by kernel_rfl) (by kernel_rfl) (by kernel_rfl) (fun _ _ _ h => h) (by rfl) (by assumption) ?_
            try simp only [Act.put, List.setIfInBounds_toArray, List.set_cons_zero, List.set_cons_succ]
            refine takeOff (i := 30) rfl (by kernel_rfl) (by kernel_rfl) (by kernel_rfl) (fun _ _ _ h => h) (by rfl) (by assumption) ?_
            try simp only [Act.put, List.setIfInBounds_toArray, List.set_cons_zero, List.set_cons_succ]
            refine takeOn (i := 31) (v := ?v31a) rfl (by kernel_rfl) (by kernel_rfl) (by kernel_rfl) (fun _ _ _ h => h) (by rfl) ?y31a (by assumption) ?r31a
            case y31a => (intro w hSw; (try dsimp only at hSw); go_simp; (try with_reducible rfl))
            try simp only [Act.put, List.setIfInBounds_toArray, List.set_cons_zero, List.set_cons_succ]
            refine takeOn (i := 32) (v := ?v32a) rfl (by kernel_rfl) (by kernel_rfl) (by kernel_rfl) (fun _ _ _ h => h) (by rfl) ?y32a (by assumption) ?r32a
            case y32a => (intro w hSw; (try dsimp only at hSw); go_simp; (try with_reducible rfl))
            try simp only [Act.put, List.setIfInBounds_toArray, List.set_cons_zero, List.set_cons_succ]
            refine wpAnyH_done (by kernel_rfl) ?_ _
            clear hc HT l1 l2 HKP HY HWX HD hO3 st HB3 HQ
            go_wp2
            go_roundw
            case rel => exact ⟨j + 1, by omega, by go_num, HB4⟩
            case measure => simp [intOf]; omega
          · rw [if_neg h] at hys
            subst hys
            have hc : Calls Try.prog 18 #[.slice r.A q r.c, .slice A' q c'] wr.drew fun e w' => e = .returned (.bool true) ∧ Below wr.drew.heap.size wr.drew w' := truths_same r.A A' q r.c c' r.xs wr.drew (HY.out.below HD.out) (HWX.out.below HD.out) HQ.out (by omega)
            have d1 : decide (j ≤ i) = false := by simpa using h
            have d2 : decide ((j : Int) ≤ (i : Int)) = false := by simp; omega
            have d3 : decide ((i : Int) < (j : Int)) = true := by simp; omega
            have d4 : decide (i < j) = true := by simp; omega
            have h1 : ¬ (j : Int) ≤ (i : Int) := by omega
            have h2 : (i : Int) < (j : Int) := by omega
            clear h
            go_upto_region 8 with (fail)
            refine wp_region_held_drew (S := (fun w' => w'.cell? ⟨lb, lo + j, none⟩ = some (.slice r.A q r.c) ∧ w'.cell? ⟨wb, wo + j, none⟩ = some (.slice A' q c'))) (by kernel_rfl) ?hS0b (fun hHeld => ?hR0b)
            case hS0b => (try dsimp only); (first | exact ⟨l1, l2⟩ | exact HKP.out _ HD.out | exact HKP.out _ HB4.out)
            refine takeOn (i := 0) (v := ?v0b) rfl (by kernel_rfl) (by kernel_rfl) (by kernel_rfl) (fun _ _ _ h => h) (by rfl) ?y0b (by assumption) ?r0b
            case y0b => (intro w hSw; (try dsimp only at hSw); go_simp; (try with_reducible rfl))
            try simp only [Act.put, List.setIfInBounds_toArray, List.set_cons_zero, List.set_cons_succ]
            refine takeOn (i := 1) (v := ?v1b) rfl (by kernel_rfl) (by kernel_rfl) (by kernel_rfl) (fun _ _ _ h => h) (by rfl) ?y1b (by assumption) ?r1b
            case y1b => (intro w hSw; (try dsimp only at hSw); go_simp; (try with_reducible rfl))
            try simp only [Act.put, List.setIfInBounds_toArray, List.set_cons_zero, List.set_cons_succ]
            refine takeOn (i := 2) (v := ?v2b) rfl (by kernel_rfl) (by kernel_rfl) (by kernel_rfl) (fun _ _ _ h => h) (by rfl) ?y2b (by assumption) ?r2b
            case y2b => (intro w hSw; (try dsimp only at hSw); go_simp; (try with_reducible rfl))
            try simp only [Act.put, List.setIfInBounds_toArray, List.set_cons_zero, List.set_cons_succ]
            refine takeOn (i := 3) (v := ?v3b) rfl (by kernel_rfl) (by kernel_rfl) (by kernel_rfl) (fun _ _ _ h => h) (by rfl) ?y3b (by assumption) ?r3b
            case y3b => (intro w hSw; (try dsimp only at hSw); go_simp; (try with_reducible rfl))
            try simp only [Act.put, List.setIfInBounds_toArray, List.set_cons_zero, List.set_cons_succ]
            refine takeOff (i := 4) rfl (by kernel_rfl) (by kernel_rfl) (by kernel_rfl) (fun _ _ _ h => h) (by rfl) (by assumption) ?_
            try simp only [Act.put, List.setIfInBounds_toArray, List.set_cons_zero, List.set_cons_succ]
            refine takeOff (i := 5) rfl (by kernel_rfl) (by kernel_rfl) (by kernel_rfl) (fun _ _ _ h => h) (by rfl) (by assumption) ?_
            try simp only [Act.put, List.setIfInBounds_toArray, List.set_cons_zero, List.set_cons_succ]
            refine takeOff (i := 6) rfl (by kernel_rfl) (by kernel_rfl) (by kernel_rfl) (fun _ _ _ h => h) (by rfl) (by assumption) ?_
            try simp only [Act.put, List.setIfInBounds_toArray, List.set_cons_zero, List.set_cons_succ]
            refine takeOff (i := 7) rfl (by kernel_rfl) (by kernel_rfl) (by kernel_rfl) (fun _ _ _ h => h) (by rfl) (by assumption) ?_
            try simp only [Act.put, List.setIfInBounds_toArray, List.set_cons_zero, List.set_cons_succ]
            refine takeOff (i := 8) rfl (by kernel_rfl) (by kernel_rfl) (by kernel_rfl) (fun _ _ _ h => h) (by rfl) (by assumption) ?_
            try simp only [Act.put, List.setIfInBounds_toArray, List.set_cons_zero, List.set_cons_succ]
            refine takeOff (i := 9) rfl (by kernel_rfl) (by kernel_rfl) (by kernel_rfl) (fun _ _ _ h => h) (by rfl) (by assumption) ?_
            try simp only [Act.put, List.setIfInBounds_toArray, List.set_cons_zero, List.set_cons_succ]
            refine takeOff (i := 10) rfl (by kernel_rfl) (by kernel_rfl) (by kernel_rfl) (fun _ _ _ h => h) (by rfl) (by assumption) ?_
            try simp only [Act.put, List.setIfInBounds_toArray, List.set_cons_zero, List.set_cons_succ]
            refine takeOff (i := 11) rfl (by kernel_rfl) (by kernel_rfl) (by kernel_rfl) (fun _ _ _ h => h) (by rfl) (by assumption) ?_
            try simp only [Act.put, List.setIfInBounds_toArray, List.set_cons_zero, List.set_cons_succ]
            refine takeOff (i := 12) rfl (by kernel_rfl) (by kernel_rfl) (by kernel_rfl) (fun _ _ _ h => h) (by rfl) (by assumption) ?_
            try simp only [Act.put, List.setIfInBounds_toArray, List.set_cons_zero, List.set_cons_succ]
            refine takeOff (i := 13) rfl (by kernel_rfl) (by kernel_rfl) (by kernel_rfl) (fun _ _ _ h => h) (by rfl) (by assumption) ?_
            try simp only [Act.put, List.setIfInBounds_toArray, List.set_cons_zero, List.set_cons_succ]
            refine takeOff (i := 14) rfl (by kernel_rfl) (by kernel_rfl) (by kernel_rfl) (fun _ _ _ h => h) (by rfl) (by assumption) ?_
            try simp only [Act.put, List.setIfInBounds_toArray, List.set_cons_zero, List.set_cons_succ]
            refine takeOn (i := 15) (v := ?v15b) rfl (by kernel_rfl) (by kernel_rfl) (by kernel_rfl) (fun _ _ _ h => h) (by rfl) ?y15b (by assumption) ?r15b
            case y15b => (intro w hSw; (try dsimp only at hSw); go_simp; (try with_reducible rfl))
            try simp only [Act.put, List.setIfInBounds_toArray, List.set_cons_zero, List.set_cons_succ]
            refine takeOn (i := 16) (v := ?v16b) rfl (by kernel_rfl) (by kernel_rfl) (by kernel_rfl) (fun _ _ _ h => h) (by rfl) ?y16b (by assumption) ?r16b
            case y16b => (intro w hSw; (try dsimp only at hSw); go_simp; (try with_reducible rfl))
            try simp only [Act.put, List.setIfInBounds_toArray, List.set_cons_zero, List.set_cons_succ]
            refine takeOn (i := 17) (v := ?v17b) rfl (by kernel_rfl) (by kernel_rfl) (by kernel_rfl) (fun _ _ _ h => h) (by rfl) ?y17b (by assumption) ?r17b
            case y17b => (intro w hSw; (try dsimp only at hSw); go_simp; (try with_reducible rfl))
            try simp only [Act.put, List.setIfInBounds_toArray, List.set_cons_zero, List.set_cons_succ]
            refine takeOn (i := 18) (v := ?v18b) rfl (by kernel_rfl) (by kernel_rfl) (by kernel_rfl) (fun _ _ _ h => h) (by rfl) ?y18b (by assumption) ?r18b
            case y18b => (intro w hSw; (try dsimp only at hSw); go_simp; (try with_reducible rfl))
            try simp only [Act.put, List.setIfInBounds_toArray, List.set_cons_zero, List.set_cons_succ]
            refine takeOn (i := 19) (v := ?v19b) rfl (by kernel_rfl) (by kernel_rfl) (by kernel_rfl) (fun _ _ _ h => h) (by rfl) ?y19b (by assumption) ?r19b
            case y19b => (intro w hSw; (try dsimp only at hSw); go_simp; (try with_reducible rfl))
            try simp only [Act.put, List.setIfInBounds_toArray, List.set_cons_zero, List.set_cons_succ]
            refine takeOn (i := 20) (v := ?v20b) rfl (by kernel_rfl) (by kernel_rfl) (by kernel_rfl) (fun _ _ _ h => h) (by rfl) ?y20b (by assumption) ?r20b
            case y20b => (intro w hSw; (try dsimp only at hSw); go_simp; (try with_reducible rfl))
            try simp only [Act.put, List.setIfInBounds_toArray, List.set_cons_zero, List.set_cons_succ]
            refine takeOn (i := 21) (v := ?v21b) rfl (by kernel_rfl) (by kernel_rfl) (by kernel_rfl) (fun _ _ _ h => h) (by rfl) ?y21b (by assumption) ?r21b
            case y21b => (intro w hSw; (try dsimp only at hSw); go_simp; (try with_reducible rfl))
            try simp only [Act.put, List.setIfInBounds_toArray, List.set_cons_zero, List.set_cons_succ]
            refine takeOn (i := 22) (v := ?v22b) rfl (by kernel_rfl) (by kernel_rfl) (by kernel_rfl) (fun _ _ _ h => h) (by rfl) ?y22b (by assumption) ?r22b
            case y22b => (intro w hSw; (try dsimp only at hSw); go_simp; (try with_reducible rfl))
            try simp only [Act.put, List.setIfInBounds_toArray, List.set_cons_zero, List.set_cons_succ]
            refine takeOn (i := 23) (v := ?v23b) rfl (by kernel_rfl) (by kernel_rfl) (by kernel_rfl) (fun _ _ _ h => h) (by rfl) ?y23b (by assumption) ?r23b
            case y23b => (intro w hSw; (try dsimp only at hSw); go_simp; (try with_reducible rfl))
            try simp only [Act.put, List.setIfInBounds_toArray, List.set_cons_zero, List.set_cons_succ]
            refine takeOn (i := 24) (v := ?v24b) rfl (by kernel_rfl) (by kernel_rfl) (by kernel_rfl) (fun _ _ _ h => h) (by rfl) ?y24b (by assumption) ?r24b
            case y24b => (intro w hSw; (try dsimp only at hSw); go_simp; (try with_reducible rfl))
            try simp only [Act.put, List.setIfInBounds_toArray, List.set_cons_zero, List.set_cons_succ]
            refine takeOn (i := 25) (v := ?v25b) rfl (by kernel_rfl) (by kernel_rfl) (by kernel_rfl) (fun _ _ _ h => h) (by rfl) ?y25b (by assumption) ?r25b
            case y25b => (intro w hSw; (try dsimp only at hSw); go_simp; (try with_reducible rfl))
            try simp only [Act.put, List.setIfInBounds_toArray, List.set_cons_zero, List.set_cons_succ]
            refine takeOn (i := 26) (v := ?v26b) rfl (by kernel_rfl) (by kernel_rfl) (by kernel_rfl) (fun _ _ _ h => h) (by rfl) ?y26b (by assumption) ?r26b
            case y26b => (intro w hSw; (try dsimp only at hSw); go_simp; (try with_reducible rfl))
            try simp only [Act.put, List.setIfInBounds_toArray, List.set_cons_zero, List.set_cons_succ]
            refine takeOn (i := 27) (v := ?v27b) rfl (by kernel_rfl) (by kernel_rfl) (by kernel_rfl) (fun _ _ _ h => h) (by rfl) ?y27b (by assumption) ?r27b
            case y27b => (intro w hSw; (try dsimp only at hSw); go_simp; (try with_reducible rfl))
            try simp only [Act.put, List.setIfInBounds_toArray, List.set_cons_zero, List.set_cons_succ]
            refine takeOn (i := 28) (v := ?v28b) rfl (by kernel_rfl) (by kernel_rfl) (by kernel_rfl) (fun _ _ _ h => h) (by rfl) ?y28b (by assumption) ?r28b
            case y28b => (intro w hSw; (try dsimp only at hSw); go_simp; (try with_reducible rfl))
            try simp only [Act.put, List.setIfInBounds_toArray, List.set_cons_zero, List.set_cons_succ]
            refine callOn (i := 29) rfl (by kernel_rfl) (by rfl) ?_
            intro K hK
            go_simp
            go_at_call 18
            with_reducible refine hc.mono ?_
            rintro e w4 ⟨rfl, hb4⟩
            have HB4 := Lib.hid (below_self HD.out hb4)
            refine hK.out _ _ ?hS30b (fun hHeld30 => ?hR30b)
            case hS30b => (try dsimp only); (first | exact ⟨l1, l2⟩ | exact HKP.out _ HD.out | exact HKP.out _ HB4.out)
            clear hK K
            try simp only [Act.put, List.setIfInBounds_toArray, List.set_cons_zero, List.set_cons_succ]
            refine takeOn (i := 30) (v := ?v30b) rfl (by kernel_rfl) (by kernel_rfl) (by kernel_rfl) (fun _ _ _ h => h) (by rfl) ?y30b (by assumption) ?r30b
            case y30b => (intro w hSw; (try dsimp only at hSw); go_simp; (try with_reducible rfl))
            try simp only [Act.put, List.setIfInBounds_toArray, List.set_cons_zero, List.set_cons_succ]
            refine takeOn (i := 31) (v := ?v31b) rfl (by kernel_rfl) (by kernel_rfl) (by kernel_rfl) (fun _ _ _ h => h) (by rfl) ?y31b (by assumption) ?r31b
            case y31b => (intro w hSw; (try dsimp only at hSw); go_simp; (try with_reducible rfl))
            try simp only [Act.put, List.setIfInBounds_toArray, List.set_cons_zero, List.set_cons_succ]
            refine takeOn (i := 32) (v := ?v32b) rfl (by kernel_rfl) (by kernel_rfl) (by kernel_rfl) (fun _ _ _ h => h) (by rfl) ?y32b (by assumption) ?r32b
            case y32b => (intro w hSw; (try dsimp only at hSw); go_simp; (try with_reducible rfl))
            try simp only [Act.put, List.setIfInBounds_toArray, List.set_cons_zero, List.set_cons_succ]
            refine wpAnyH_done (by kernel_rfl) ?_ _
            clear hc l1 l2 HKP HY HWX HD HQ
            go_wp2
            go_roundw
            case rel => exact ⟨j + 1, by omega, by go_num, HB4⟩
            case measure => simp [intOf]; omega
        · obtain rfl : j = N := by omega
          have HH3 := Lib.hid (HH2.out.below HB.out)
          have HL3 := Lib.hid (HL2.out.below HB.out)
          have HW3 := Lib.hid (HW2.out.below HB.out)
          have HB3 := Lib.hid (below_then HB2.out (Nat.le_trans HBB.out HB2.out.size) HB.out)
          clear HH2 HL2 HW2 HB2 HB
          go_wp2
          go_roundw
          case rel => exact ⟨i + 1, by omega, by go_num, HH3, HL3, HW3, HB3⟩
          case measure => simp [intOf]; omega
    · obtain rfl : i = N := by omega
      obtain ⟨F, hFd⟩ : ∃ F, R.map LR.no = F := ⟨_, rfl⟩
      have hFv : R.map LR.v = F.map LR.v := by rw [← hFd, List.map_map]; exact List.map_congr_left fun r _ => by simp [LR.no, LR.v]
      have HFN : Hid (F.length = i) := Lib.hid (by rw [← hFd, List.length_map]; exact HN.out)
      have HFR : Hid (∀ (k : Nat) (r : LR), R[k]? = some r → F[k]? = some r.no) := Lib.hid fun k r hr => by rw [← hFd, List.getElem?_map, hr]; rfl
      have H0 : Hid (Hold wr base (F.map LR.row ++ X)) := Lib.hid (by have := HH.out; rwa [flipK_all HN.out, hFd] at this)
      have AL0 : Hid (RdT wr AL 35 (F.map LR.v)) := Lib.hid (by rw [← hFv]; exact HL.out)
      have HM0 : Hid (More wr wr base 0 F [] X (.slice none 0 0) AL AW wants) := Lib.hid (More.start H0.out AL0.out HW.out)
      have HBB2 : Hid (base ≤ wr.heap.size) := Lib.hid (Nat.le_trans HBB.out HB.out.size)
      have HLW : Hid (wants.length = 0 → i = 0) := Lib.hid fun h0 => by
        rcases Nat.eq_zero_or_pos i with e | e
        · exact e
        · obtain ⟨r, hr⟩ : ∃ r, R[0]? = some r := ⟨_, List.getElem?_eq_getElem (by rw [HN.out]; exact e)⟩
          obtain ⟨_, _, _, h1, _⟩ := HX.out 0 r hr
          have := (List.getElem?_eq_some_iff.1 h1).1
          omega
      have HB1 := HB
      clear HH HL HB hFd hFv
      rename World => w1
      go_upto_region 12 with (fail)
      go_loopw [7, 8] (fun s7 s8 wq => ∃ (k : Nat) (G : List LR), k ≤ i ∧ s8 = .int .i64 k ∧ Hid (More w1 wq base k F G X s7 AL AW wants)) (fun _ s8 _ => i - (intOf s8).toNat)
      case atStart => exact ⟨0, [], by omega, rfl, HM0⟩
      case round =>
        clear HM0
        obtain ⟨k, G, hk, rfl, HM⟩ := hrel
        by_cases hlt : k < i
        · obtain ⟨r, hr⟩ : ∃ r, R[k]? = some r := ⟨_, List.getElem?_eq_getElem (by rw [HN.out]; exact hlt)⟩
          have hf := HFR.out k r hr
          have hrl := HS.out r (List.mem_of_getElem? hr)
          obtain ⟨f, hfe⟩ : ∃ f, r.no = f := ⟨_, rfl⟩
          have hfl : f.xs.length = r.xs.length := by rw [← hfe]; simp [LR.no]
          rw [hfe] at hf
          have hal : Hid (∀ b o, AL = some ⟨b, o, none⟩ → b < w1.heap.size) := Lib.hid fun b o e => by
            obtain ⟨_, _, e2, e3⟩ := AL0.out.at_ (i := k) (x := f.v) (by rw [List.getElem?_map, hf]; rfl)
            cases e.symm.trans e2
            exact World.block_lt_of_cell? _ _ e3
          have haw : Hid (∀ b o, AW = some ⟨b, o, none⟩ → b < w1.heap.size) := Lib.hid fun b o e => by
            obtain ⟨_, _, _, h1, _⟩ := HX.out k r hr
            obtain ⟨_, _, e2, e3⟩ := HW.out.at_ h1
            cases e.symm.trans e2
            exact World.block_lt_of_cell? _ _ e3
          obtain ⟨lb, lo, rfl, l1⟩ := HM.out.al.at_ (x := f.v) (by rw [List.getElem?_map, hf]; rfl)
          have hro := HM.out.row hf
          have hbs : base ≤ wr.heap.size := Nat.le_trans HBB2.out HM.out.bel.size
          obtain ⟨q, hq⟩ : ∃ q, f.xs.length = q := ⟨_, rfl⟩
          unfold LR.v at l1
          rw [hq] at l1 hro hfl
          have hql : q ≤ 65536 := by omega
          have hcall : Calls Try.prog 44 #[.slice f.A q f.c, .int .i64 ((k : Int) + 1)] wr fun e w' => ∃ A' c', e = .returned (.slice A' (q + 64) c') ∧ Hid (Owns w' base 4 (.slice A' (q + 64) c') (bools (f.xs ++ gbits ((k : Int) + 1) 64))) ∧ Hid (CReads w' f.A (bools f.xs)) ∧ Hid (wr.grownBy w' (f.A.map (·.block))) ∧ Hid (OrNew wr f.A (.slice A' (q + 64) c')) := grown_any base f.A q f.c f.xs ((k : Int) + 1) wr hro hbs hq (by omega)
          have hkw : IntKind.i64.wrap ((k : Int) + 1) = (k : Int) + 1 := by rw [IntKind.wrap_i64]; omega
          have hk0 : (0 : Int) ≤ (k : Int) := by omega
          have hki : (k : Int) < (i : Int) := by omega
          have HFT := Lib.hid hf
          have HQ : Hid (f.xs.length + 64 = q + 64) := Lib.hid (by rw [hq])
          clear hr hro hf hfe hbs hfl hrl hq
          go_upto_region 13 with (first
            | ((go_at_call 44; with_reducible refine hcall.mono ?_; rintro e w2 ⟨A5, c5, rfl, hO2, hC2, hg2, hE2⟩; have hgr := HM.out.grow HFT.out H0.out HBB2.out HQ.out hO2.out hC2.out hg2.out hE2.out; have HGR := Lib.hid hgr; have hbl := below1 w2 (.cells [Value.slice A5 (q + 64) c5].toArray 35); have HBL := Lib.hid hbl; have hv2 := Hold.last (hgr.1.below hbl); have HV := Lib.hid hv2; have hlen : (G.map LR.v).length = k := (List.length_map ..).trans HM.out.len; have hsz2 : base ≤ w2.heap.size := Nat.le_trans HBB2.out (Nat.le_trans HM.out.bel.size hgr.2.2.2.2.2.2); clear hgr hbl hv2 hcall))
            | ((at_builtin; refine wpList_push2 rfl _ _ 43 rfl base 35 _ 24 Try.underlying43 info_bools rfl u7 _ rfl HV.out ⟨w2.heap.size, 0, none⟩ (.slice A5 (q + 64) c5) rfl (by simp [go_sem]) rfl (by rw [hlen]; unfold maxLen; omega) (by rw [hlen]; omega) (by simp; omega) ?_; intro v5 w5 hown5 hg5 hb5)))
          obtain ⟨m1, m2, m3, m4, m5, m6, m7⟩ := HGR.out
          have hnv : Value.slice A5 (q + 64) c5 = LR.v ⟨A5, c5, f.xs ++ gbits ((k : Int) + 1) 64⟩ := by unfold LR.v; rw [List.length_append, gbits_length, ← HQ.out]
          rw [hnv] at hown5
          have HM5 : Hid (More w1 w5 base (k + 1) F (G ++ [(⟨A5, c5, f.xs ++ gbits ((k : Int) + 1) 64⟩ : LR)]) X v5 (some ⟨lb, lo, none⟩) AW wants) := Lib.hid (More.push HM.out.len HM.out.own H0.out HBB2.out (m1.below HBL.out) (fun k f hk => (m2 k f hk).below HBL.out) (m3.below HBL.out) (m4.below HBL.out) (below_then m5 (Nat.le_trans HBB2.out m5.size) HBL.out) m6 hal.out haw.out hown5 hg5 hb5)
          clear m1 m2 m3 m4 m5 m6 m7 hnv hown5 hg5 hb5 HGR HBL HV HM l1 hO2 hC2 hg2 hE2
          go_wp2
          go_roundw
          case rel => exact ⟨k + 1, _, by omega, by go_num, HM5⟩
          case measure => simp [intOf]; omega
        · obtain rfl : k = i := by omega
          have hlG := HM.out.len
          obtain ⟨Am, cm, hvm⟩ := HM.out.vec.form
          rw [List.length_map, hlG] at hvm
          subst hvm
          have HVR : Hid (CReads wr Am (G.map LR.v)) := Lib.hid (by have := HM.out.vec; unfold Owns at this; rw [List.length_map, hlG] at this; exact rows_read this (by decide))
          have HLG := Lib.hid hlG
          clear hlG H0 AL0 HBB HLW hk
          rename World => w3
          go_upto_region 16 with (fail)
          go_loopw [9] (fun s9 wq => ∃ j : Nat, j ≤ k ∧ s9 = .int .i64 j ∧ Hid (Below w3.heap.size w3 wq)) (fun s9 _ => k - (intOf s9).toNat)
          case atStart => exact ⟨0, by omega, rfl, Lib.hid (Below.refl _ _)⟩
          case round =>
            obtain ⟨j, hj, rfl, HB⟩ := hrel
            by_cases hlt2 : j < k
            · obtain ⟨r, hr⟩ : ∃ r, R[j]? = some r := ⟨_, List.getElem?_eq_getElem (by rw [HN.out]; exact hlt2)⟩
              obtain ⟨g, hg⟩ : ∃ g, G[j]? = some g := ⟨_, List.getElem?_eq_getElem (by rw [HLG.out]; exact hlt2)⟩
              have hf := HFR.out j r hr
              have hrl := HS.out r (List.mem_of_getElem? hr)
              obtain ⟨A', c', jj, hw1, hw2⟩ := HX.out j r hr
              obtain ⟨q, hq⟩ : ∃ q, r.xs.length = q := ⟨_, rfl⟩
              obtain ⟨ys, hys⟩ : ∃ ys, ys = r.xs.map (!·) := ⟨_, rfl⟩
              have hyl : ys.length = q := by rw [hys, List.length_map]; exact hq
              have hgx : g.xs = ys ++ gbits ((j : Int) + 1) 64 := by rw [hys]; exact HM.out.xs j r.no g hf hg
              obtain ⟨zs, hzs⟩ : ∃ zs, zs = ys ++ gbits ((j : Int) + 1) 64 := ⟨_, rfl⟩
              have hzl : zs.length = q + 64 := by rw [hzs, List.length_append, gbits_length, hyl]
              rw [← hzs] at hgx
              have hno : LR.v r.no = .slice r.A q r.c := by unfold LR.v LR.no; rw [List.length_map, hq]
              have hgv : LR.v g = .slice g.A (q + 64) g.c := by unfold LR.v; rw [hgx, hzl]
              obtain ⟨lb, lo, rfl, l1⟩ := HM.out.al.at_ (x := r.no.v) (by rw [List.getElem?_map, hf]; rfl)
              obtain ⟨wb, wo, rfl, l2⟩ := HM.out.aw.at_ hw1
              obtain ⟨mb, mo, rfl, l3'⟩ := HVR.out (by rw [List.length_map, HLG.out]; omega)
              have l3 := l3' j g.v (by rw [List.getElem?_map, hg]; rfl)
              rw [hno] at l1
              rw [hgv] at l3
              rw [hq] at l2
              have HY : Hid (CReads w3 r.A (bools ys)) := Lib.hid (by rw [hys]; exact HM.out.rd j r.no hf)
              have HZ : Hid (CReads w3 g.A (bools zs)) := Lib.hid (by rw [← hgx]; exact owns_read (HM.out.got hg) rfl)
              have HWX : Hid (CReads w3 A' (bools r.xs)) := Lib.hid (owns_read (Hold.xrow (j := jj) HM.out.hold (by rw [List.getElem?_append_left (List.getElem?_eq_some_iff.1 hw2).1]; exact hw2)) rfl)
              have HKP : Hid (∀ W, Below w3.heap.size w3 W → W.cell? ⟨lb, lo + j, none⟩ = some (.slice r.A q r.c) ∧ W.cell? ⟨wb, wo + j, none⟩ = some (.slice A' q c') ∧ W.cell? ⟨mb, mo + j, none⟩ = some (.slice g.A (q + 64) g.c)) := Lib.hid fun W hW => ⟨cell_kept hW l1, cell_kept hW l2, cell_kept hW l3⟩
              have hc : ∀ W, Below w3.heap.size w3 W → Calls Try.prog 22 #[.slice A' q c'] W fun e w' => ∃ A3 c3, e = .returned (.slice A3 q c3) ∧ Owns w' W.heap.size 4 (.slice A3 q c3) (bools ys) ∧ Below W.heap.size W w' := by
                intro W hW
                refine (flipped_any A' q c' r.xs W (HWX.out.below hW) hq (by omega)).mono ?_
                rintro e w' ⟨A3, c3, rfl, ho, hb⟩
                rw [← hys, hyl] at ho ⊢
                exact ⟨A3, c3, rfl, ho.out, hb⟩
              have ht : ∀ W A3 c3, Below w3.heap.size w3 W → CReads W A3 (bools ys) → Calls Try.prog 18 #[.slice r.A q r.c, .slice A3 q c3] W fun e w' => e = .returned (.bool true) ∧ Below W.heap.size W w' := fun W A3 c3 hW hR => truths_same r.A A3 q r.c c3 ys W (HY.out.below hW) hR hyl (by omega)
              have ht2 : ∀ W A5 c5, Below w3.heap.size w3 W → CReads W A5 (bools zs) → Calls Try.prog 18 #[.slice g.A (q + 64) g.c, .slice A5 (q + 64) c5] W fun e w' => e = .returned (.bool true) ∧ Below W.heap.size W w' := fun W A5 c5 hW hR => truths_same g.A A5 (q + 64) g.c c5 zs W (HZ.out.below hW) hR hzl (by omega)
              have hgr : ∀ W B A4 c4, Below w3.heap.size w3 W → Owns W B 4 (.slice A4 q c4) (bools ys) → w3.heap.size ≤ B → B ≤ W.heap.size → Calls Try.prog 44 #[.slice A4 q c4, .int .i64 ((j : Int) + 1)] W fun e w' => ∃ A5 c5, e = .returned (.slice A5 (q + 64) c5) ∧ CReads w' A5 (bools zs) ∧ Below w3.heap.size W w' := by
                intro W B A4 c4 hW hO h1 h2
                refine (grown_any B A4 q c4 ys ((j : Int) + 1) W hO h2 hyl (by omega)).mono ?_
                rintro e w' ⟨A5, c5, rfl, ho, _, hg, _⟩
                refine ⟨A5, c5, rfl, by rw [hzs]; exact owns_read ho.out (by rw [← hzs]; exact hzl), (Below.refl w3.heap.size W).grown hg.out (Nat.le_trans h1 h2) fun g e => ?_⟩
                exact Nat.le_trans h1 (hO.lt (g := g) (by cases A4 with | none => cases e | some a => exact e)).1
              have hc := Lib.hid hc; have ht := Lib.hid ht; have ht2 := Lib.hid ht2; have hgr := Lib.hid hgr
              have hkw : IntKind.i64.wrap ((j : Int) + 1) = (j : Int) + 1 := by rw [IntKind.wrap_i64]; omega
              have hj0 : (0 : Int) ≤ (j : Int) := by omega
              have hjk : (j : Int) < (k : Int) := by omega
              have HD := Lib.hid (below_drew0 HB.out)
              have HYL := Lib.hid hyl
              clear hr hg hf hw1 hw2 hq hys hyl hgx hzs hzl hno hgv l1 l2 l3 l3' HY HZ HWX
              go_upto_region 18 with (fail)
              refine wp_region_held_drew (S := (fun w' => w'.cell? ⟨lb, lo + j, none⟩ = some (.slice r.A q r.c) ∧ w'.cell? ⟨wb, wo + j, none⟩ = some (.slice A' q c') ∧ w'.cell? ⟨mb, mo + j, none⟩ = some (.slice g.A (q + 64) g.c))) (by kernel_rfl) ?hS0c (fun hHeld => ?hR0c)
              case hS0c => (try dsimp only); (first | exact HKP.out _ HD.out | exact HKP.out _ HB4.out | exact HKP.out _ HB5.out | exact HKP.out _ HB6.out | exact HKP.out _ HB7.out | exact HKP.out _ HB8.out)
              refine takeOn (i := 0) (v := ?v0c) rfl (by kernel_rfl) (by kernel_rfl) (by kernel_rfl) (fun _ _ _ h => h) (by rfl) ?y0c (by assumption) ?r0c
              case y0c => (intro w hSw; (try dsimp only at hSw); go_simp; (try with_reducible rfl))
              try simp only [Act.put, List.setIfInBounds_toArray, List.set_cons_zero, List.set_cons_succ]
              refine takeOn (i := 1) (v := ?v1c) rfl (by kernel_rfl) (by kernel_rfl) (by kernel_rfl) (fun _ _ _ h => h) (by rfl) ?y1c (by assumption) ?r1c
              case y1c => (intro w hSw; (try dsimp only at hSw); go_simp; (try with_reducible rfl))
              try simp only [Act.put, List.setIfInBounds_toArray, List.set_cons_zero, List.set_cons_succ]
              refine takeOn (i := 2) (v := ?v2c) rfl (by kernel_rfl) (by kernel_rfl) (by kernel_rfl) (fun _ _ _ h => h) (by rfl) ?y2c (by assumption) ?r2c
              case y2c => (intro w hSw; (try dsimp only at hSw); go_simp; (try with_reducible rfl))
              try simp only [Act.put, List.setIfInBounds_toArray, List.set_cons_zero, List.set_cons_succ]
              refine takeOn (i := 3) (v := ?v3c) rfl (by kernel_rfl) (by kernel_rfl) (by kernel_rfl) (fun _ _ _ h => h) (by rfl) ?y3c (by assumption) ?r3c
              case y3c => (intro w hSw; (try dsimp only at hSw); go_simp; (try with_reducible rfl))
              try simp only [Act.put, List.setIfInBounds_toArray, List.set_cons_zero, List.set_cons_succ]
              refine takeOn (i := 4) (v := ?v4c) rfl (by kernel_rfl) (by kernel_rfl) (by kernel_rfl) (fun _ _ _ h => h) (by rfl) ?y4c (by assumption) ?r4c
              case y4c => (intro w hSw; (try dsimp only at hSw); go_simp; (try with_reducible rfl))
              try simp only [Act.put, List.setIfInBounds_toArray, List.set_cons_zero, List.set_cons_succ]
              refine takeOn (i := 5) (v := ?v5c) rfl (by kernel_rfl) (by kernel_rfl) (by kernel_rfl) (fun _ _ _ h => h) (by rfl) ?y5c (by assumption) ?r5c
              case y5c => (intro w hSw; (try dsimp only at hSw); go_simp; (try with_reducible rfl))
              try simp only [Act.put, List.setIfInBounds_toArray, List.set_cons_zero, List.set_cons_succ]
              refine takeOn (i := 6) (v := ?v6c) rfl (by kernel_rfl) (by kernel_rfl) (by kernel_rfl) (fun _ _ _ h => h) (by rfl) ?y6c (by assumption) ?r6c
              case y6c => (intro w hSw; (try dsimp only at hSw); go_simp; (try with_reducible rfl))
              try simp only [Act.put, List.setIfInBounds_toArray, List.set_cons_zero, List.set_cons_succ]
              refine takeOn (i := 7) (v := ?v7c) rfl (by kernel_rfl) (by kernel_rfl) (by kernel_rfl) (fun _ _ _ h => h) (by rfl) ?y7c (by assumption) ?r7c
              case y7c => (intro w hSw; (try dsimp only at hSw); go_simp; (try with_reducible rfl))
              try simp only [Act.put, List.setIfInBounds_toArray, List.set_cons_zero, List.set_cons_succ]
              refine callOn (i := 8) rfl (by kernel_rfl) (by rfl) ?_
              intro K hK
              go_simp
              go_at_call 22
              with_reducible refine (hc.out _ HD.out).mono ?_
              rintro e w4 ⟨A4, c4, rfl, hO4, hb4⟩
              have HB4 := Lib.hid (below_self HD.out hb4)
              have st := ht.out w4 A4 c4 HB4.out (owns_read hO4 HYL.out)
              clear hO4
              refine hK.out _ _ ?hS9c (fun hHeld9 => ?hR9c)
              case hS9c => (try dsimp only); (first | exact HKP.out _ HD.out | exact HKP.out _ HB4.out | exact HKP.out _ HB5.out | exact HKP.out _ HB6.out | exact HKP.out _ HB7.out | exact HKP.out _ HB8.out)
              clear hK K
              try simp only [Act.put, List.setIfInBounds_toArray, List.set_cons_zero, List.set_cons_succ]
              refine callOn (i := 9) rfl (by kernel_rfl) (by rfl) ?_
              intro K hK
              go_simp
              go_at_call 18
              with_reducible refine st.mono ?_
              rintro e w5 ⟨rfl, hb5⟩
              have HB5 := Lib.hid (below_self HB4.out hb5)
              clear st
              refine hK.out _ _ ?hS10c (fun hHeld10 => ?hR10c)
              case hS10c => (try dsimp only); (first | exact HKP.out _ HD.out | exact HKP.out _ HB4.out | exact HKP.out _ HB5.out | exact HKP.out _ HB6.out | exact HKP.out _ HB7.out | exact HKP.out _ HB8.out)
              clear hK K
              try simp only [Act.put, List.setIfInBounds_toArray, List.set_cons_zero, List.set_cons_succ]
              refine takeOn (i := 10) (v := ?v10c) rfl (by kernel_rfl) (by kernel_rfl) (by kernel_rfl) (fun _ _ _ h => h) (by rfl) ?y10c (by assumption) ?r10c
              case y10c => (intro w hSw; (try dsimp only at hSw); go_simp; (try with_reducible rfl))
              try simp only [Act.put, List.setIfInBounds_toArray, List.set_cons_zero, List.set_cons_succ]
              refine takeOn (i := 11) (v := ?v11c) rfl (by kernel_rfl) (by kernel_rfl) (by kernel_rfl) (fun _ _ _ h => h) (by rfl) ?y11c (by assumption) ?r11c
              case y11c => (intro w hSw; (try dsimp only at hSw); go_simp; (try with_reducible rfl))
              try simp only [Act.put, List.setIfInBounds_toArray, List.set_cons_zero, List.set_cons_succ]
              refine takeOn (i := 12) (v := ?v12c) rfl (by kernel_rfl) (by kernel_rfl) (by kernel_rfl) (fun _ _ _ h => h) (by rfl) ?y12c (by assumption) ?r12c
              case y12c => (intro w hSw; (try dsimp only at hSw); go_simp; (try with_reducible rfl))
              try simp only [Act.put, List.setIfInBounds_toArray, List.set_cons_zero, List.set_cons_succ]
              refine takeOn (i := 13) (v := ?v13c) rfl (by kernel_rfl) (by kernel_rfl) (by kernel_rfl) (fun _ _ _ h => h) (by rfl) ?y13c (by assumption) ?r13c
              case y13c => (intro w hSw; (try dsimp only at hSw); go_simp; (try with_reducible rfl))
              try simp only [Act.put, List.setIfInBounds_toArray, List.set_cons_zero, List.set_cons_succ]
              refine takeOn (i := 14) (v := ?v14c) rfl (by kernel_rfl) (by kernel_rfl) (by kernel_rfl) (fun _ _ _ h => h) (by rfl) ?y14c (by assumption) ?r14c
              case y14c => (intro w hSw; (try dsimp only at hSw); go_simp; (try with_reducible rfl))
              try simp only [Act.put, List.setIfInBounds_toArray, List.set_cons_zero, List.set_cons_succ]
              refine takeOn (i := 15) (v := ?v15c) rfl (by kernel_rfl) (by kernel_rfl) (by kernel_rfl) (fun _ _ _ h => h) (by rfl) ?y15c (by assumption) ?r15c
              case y15c => (intro w hSw; (try dsimp only at hSw); go_simp; (try with_reducible rfl))
              try simp only [Act.put, List.setIfInBounds_toArray, List.set_cons_zero, List.set_cons_succ]
              refine takeOn (i := 16) (v := ?v16c) rfl (by kernel_rfl) (by kernel_rfl) (by kernel_rfl) (fun _ _ _ h => h) (by rfl) ?y16c (by assumption) ?r16c
              case y16c => (intro w hSw; (try dsimp only at hSw); go_simp; (try with_reducible rfl))
              try simp only [Act.put, List.setIfInBounds_toArray, List.set_cons_zero, List.set_cons_succ]
              refine takeOn (i := 17) (v := ?v17c) rfl (by kernel_rfl) (by kernel_rfl) (by kernel_rfl) (fun _ _ _ h => h) (by rfl) ?y17c (by assumption) ?r17c
              case y17c => (intro w hSw; (try dsimp only at hSw); go_simp; (try with_reducible rfl))
              try simp only [Act.put, List.setIfInBounds_toArray, List.set_cons_zero, List.set_cons_succ]
              refine takeOn (i := 18) (v := ?v18c) rfl (by kernel_rfl) (by kernel_rfl) (by kernel_rfl) (fun _ _ _ h => h) (by rfl) ?y18c (by assumption) ?r18c
              case y18c => (intro w hSw; (try dsimp only at hSw); go_simp; (try with_reducible rfl))
              try simp only [Act.put, List.setIfInBounds_toArray, List.set_cons_zero, List.set_cons_succ]
              refine takeOn (i := 19) (v := ?v19c) rfl (by kernel_rfl) (by kernel_rfl) (by kernel_rfl) (fun _ _ _ h => h) (by rfl) ?y19c (by assumption) ?r19c
              case y19c => (intro w hSw; (try dsimp only at hSw); go_simp; (try with_reducible rfl))
              try simp only [Act.put, List.setIfInBounds_toArray, List.set_cons_zero, List.set_cons_succ]
              refine takeOn (i := 21) (v := ?v21c) rfl (by kernel_rfl) (by kernel_rfl) (by kernel_rfl) (fun _ _ _ h => h) (by rfl) ?y21c (by assumption) ?r21c
              case y21c => (intro w hSw; (try dsimp only at hSw); go_simp; (try with_reducible rfl))
              try simp only [Act.put, List.setIfInBounds_toArray, List.set_cons_zero, List.set_cons_succ]
              refine takeOn (i := 22) (v := ?v22c) rfl (by kernel_rfl) (by kernel_rfl) (by kernel_rfl) (fun _ _ _ h => h) (by rfl) ?y22c (by assumption) ?r22c
              case y22c => (intro w hSw; (try dsimp only at hSw); go_simp; (try with_reducible rfl))
              try simp only [Act.put, List.setIfInBounds_toArray, List.set_cons_zero, List.set_cons_succ]
              refine callOn (i := 20) rfl (by kernel_rfl) (by rfl) ?_
              intro K hK
              go_simp
              go_at_call 22
              with_reducible refine (hc.out _ HB5.out).mono ?_
              rintro e w6 ⟨A6, c6, rfl, hO6, hb6⟩
              have HB6 := Lib.hid (below_self HB5.out hb6)
              have sg := hgr.out w6 _ A6 c6 HB6.out hO6 HB5.out.size hb6.size
              clear hO6
              refine hK.out _ _ ?hS21c (fun hHeld21 => ?hR21c)
              case hS21c => (try dsimp only); (first | exact HKP.out _ HD.out | exact HKP.out _ HB4.out | exact HKP.out _ HB5.out | exact HKP.out _ HB6.out | exact HKP.out _ HB7.out | exact HKP.out _ HB8.out)
              clear hK K
              try simp only [Act.put, List.setIfInBounds_toArray, List.set_cons_zero, List.set_cons_succ]
              refine callOn (i := 23) rfl (by kernel_rfl) (by rfl) ?_
              intro K hK
              go_simp
              go_at_call 44
              with_reducible refine sg.mono ?_
              rintro e w7 ⟨A7, c7, rfl, hC7, hb7⟩
              have HB7 := Lib.hid (HB6.out.trans hb7)
              have st := ht2.out w7 A7 c7 HB7.out hC7
              clear hC7 sg
              refine hK.out _ _ ?hS24c (fun hHeld24 => ?hR24c)
              case hS24c => (try dsimp only); (first | exact HKP.out _ HD.out | exact HKP.out _ HB4.out | exact HKP.out _ HB5.out | exact HKP.out _ HB6.out | exact HKP.out _ HB7.out | exact HKP.out _ HB8.out)
              clear hK K
              try simp only [Act.put, List.setIfInBounds_toArray, List.set_cons_zero, List.set_cons_succ]
              refine callOn (i := 24) rfl (by kernel_rfl) (by rfl) ?_
              intro K hK
              go_simp
              go_at_call 18
              with_reducible refine st.mono ?_
              rintro e w8 ⟨rfl, hb8⟩
              have HB8 := Lib.hid (below_self HB7.out hb8)
              refine hK.out _ _ ?hS25c (fun hHeld25 => ?hR25c)
              case hS25c => (try dsimp only); (first | exact HKP.out _ HD.out | exact HKP.out _ HB4.out | exact HKP.out _ HB5.out | exact HKP.out _ HB6.out | exact HKP.out _ HB7.out | exact HKP.out _ HB8.out)
              clear hK K
              try simp only [Act.put, List.setIfInBounds_toArray, List.set_cons_zero, List.set_cons_succ]
              refine takeOn (i := 25) (v := ?v25c) rfl (by kernel_rfl) (by kernel_rfl) (by kernel_rfl) (fun _ _ _ h => h) (by rfl) ?y25c (by assumption) ?r25c
              case y25c => (intro w hSw; (try dsimp only at hSw); go_simp; (try with_reducible rfl))
              try simp only [Act.put, List.setIfInBounds_toArray, List.set_cons_zero, List.set_cons_succ]
              refine takeOn (i := 26) (v := ?v26c) rfl (by kernel_rfl) (by kernel_rfl) (by kernel_rfl) (fun _ _ _ h => h) (by rfl) ?y26c (by assumption) ?r26c
              case y26c => (intro w hSw; (try dsimp only at hSw); go_simp; (try with_reducible rfl))
              try simp only [Act.put, List.setIfInBounds_toArray, List.set_cons_zero, List.set_cons_succ]
              refine wpAnyH_done (by kernel_rfl) ?_ _
              clear hc ht ht2 hgr HKP HD HB4 HB5 HB6 HB7 HYL
              go_wp2
              go_roundw
              case rel => exact ⟨j + 1, by omega, by go_num, HB8⟩
              case measure => simp [intOf]; omega
            · obtain rfl : j = k := by omega
              go_wp2
              go_ret
              exact ⟨rfl, below_then (HB1.out.trans HM.out.bel) (Nat.le_trans HBB2.out HM.out.bel.size) HB.out, (Hold.front (Hold.back HM.out.hold)).below HB.out⟩
theorem alone_any (base : Nat) (AL AW : Option Addr) (N cl cw : Nat) (R : List LR) (X : List RW) (wants : List Value) (w : World) (hH : Hold w base (R.map LR.row ++ X)) (hL : RdT w AL 35 (R.map LR.v)) (hW : RdT w AW 35 wants) (hX : Wants R X wants)
    (hN : R.length = N) (hs : ∀ r ∈ R, r.xs.length ≤ 65536) (hN1 : N ≤ 1000) (hb : base ≤ w.heap.size) :
    Calls Try.prog 19 #[.slice AL N cl, .slice AW N cw] w fun e w' => e = .returned (.bool true) ∧ Below base w w' :=
  (alone_keep base AL AW N cl cw R X wants w hH hL hW hX hN hs hN1 hb).mono fun _ _ h => ⟨h.1, h.2.1⟩
end Go.Proofs.Ytjkmoahnociaiaa
