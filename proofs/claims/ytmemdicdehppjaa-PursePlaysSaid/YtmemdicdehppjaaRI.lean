/- PursePlays: the law's text answers true. -/
import Derived.Test.YtmemdicdehppjaaRG
namespace Go.Proofs.Ytmemdicdehppjaa
open Go.RowKit

section
variable {w w' : World} {base : Nat} {N : List ND}
theorem makes_any {va vb : Value} (on k n : Int) (h : Laid w base N va vb) (hbase : base ≤ w.heap.size) (hlen : (N.length + 1) * 8 ≤ 140737488351232) (hon : -9223372036854775808 ≤ on ∧ on ≤ 9223372036854775807) (hn : -9223372036854775808 ≤ n ∧ n ≤ 9223372036854775807) :
    Calls Try.prog 15 #[.agg #[.int .i64 on, .int .i64 k, .int .i64 n], va, vb] w fun e w' => ∃ N' va' vb', e = .returned (.tuple #[va', vb', .bool true]) ∧ N'.length ≤ N.length + 1 ∧ Laid w' base N' va' vb' ∧ ∀ B, B ≤ base → Below B w w' := by
  by_cases hk : k = 1
  · subst hk
    by_cases h0 : n < 0
    · exact makes_no on n h hbase h0
    · exact makes_new on n h hbase ⟨by omega, hn.2⟩ hlen
  · rcases N with _ | ⟨x, l⟩
    · exact makes_none on k n h hbase hk
    · exact makes_part on k n h hbase hk (by simp) hlen hon hn
theorem laid_nil (w : World) (base : Nat) : Laid w base [] (.slice none 0 0) (.slice none 0 0) := by
  refine ⟨⟨?_, ?_, ?_, ?_, ?_, ?_, ?_, ?_, ?_⟩, owns_nil _ _ _, owns_nil _ _ _, by simp⟩ <;> simp
end
theorem Moved.cell {w w' : World} {base : Nat} {N : List ND} (h : Moved w base N w') {g i : Nat} {v : Value} {t : TypeId} (hc : w.cell? ⟨g, i, none⟩ = some v) (ht : Typed w g t) (h1 : t ≠ 60) (h2 : t ≠ 69) : w'.cell? ⟨g, i, none⟩ = some v := by
  obtain ⟨_, _, _, _, _, bs, hT, hbs⟩ := h
  refine hT.cell hc (fun hm => ?_)
  rcases (hbs g hm).2 with h3 | h3
  · exact ht.ne h3 h1 rfl
  · exact ht.ne h3 h2 rfl
/-- What stands at the end of a round, and in the midst of one. -/
def Round (B n : Nat) (w1 : World) (m : Nat) (va vb : Value) (w : World) : Prop := ∃ N : List ND, N.length ≤ m ∧ Laid w B N va vb ∧ Below B w1 w
theorem Round.still {B n m : Nat} {w1 w w' : World} {va vb : Value} (h : Round B n w1 m va vb w) (hB : B ≤ w1.heap.size) (hg : w.grownBy w' none) : Round B n w1 m va vb w' := by
  obtain ⟨N, h1, h2, h3⟩ := h
  exact ⟨N, h1, h2.still hg, h3.grown hg (Nat.le_trans hB h3.size) (by simp)⟩
set_option maxRecDepth 100000 in
set_option maxHeartbeats 4000000 in
theorem plays_any (A : Option Addr) (n c : Nat) (xs : List Int) (w : World) (hr : Reads w .i64 A xs) (hlen : xs.length = 3 * n) (hx : ∀ x ∈ xs, -9223372036854775808 ≤ x ∧ x ≤ 9223372036854775807) (hn : n * 24 ≤ 140737488351232) :
    Calls Try.prog 5 #[.slice A n c] w fun e w' => e = .returned (.bool true) ∧ Below w.heap.size w w' := by
  have HR := Lib.hid hr; have HL := Lib.hid hlen; have HX := Lib.hid hx
  clear hr hlen hx
  have hnew := newF 3 w (by omega)
  go_enter Try.func5, Try.ntmps5
  go_upto_region 7 with (go_at_call 8; refine hnew.mono ?_; rintro e w1 ⟨b, lk, rfl, hP, hbb, hlk, hB⟩)
  have HP := Lib.hid hP; have HB0 := Lib.hid hB
  have HSZ : Hid (w1.heap.size ≤ w1.heap.size) := Lib.hid (Nat.le_refl _)
  clear hnew hP hbb hlk hB
  go_loopw [3, 4, 7] (fun va vb i wr => ∃ (k : Nat), k ≤ n ∧ i = .int .i64 k ∧ Hid (Round w1.heap.size n w1 k va vb wr)) (fun _ _ i _ => n - (intOf i).toNat)
  case atStart => exact ⟨0, by omega, rfl, Lib.hid ⟨[], by simp, laid_nil _ _, Below.refl _ _⟩⟩
  case round =>
    obtain ⟨k, hk, rfl, HRd⟩ := hrel
    by_cases hlt : k < n
    · obtain ⟨x0, hx0⟩ : ∃ y, xs[3 * k]? = some y := ⟨_, List.getElem?_eq_getElem (by rw [HL.out]; omega)⟩
      obtain ⟨x1, hx1⟩ : ∃ y, xs[3 * k + 1]? = some y := ⟨_, List.getElem?_eq_getElem (by rw [HL.out]; omega)⟩
      obtain ⟨x2, hx2⟩ : ∃ x, xs[3 * k + 2]? = some x := ⟨_, List.getElem?_eq_getElem (by rw [HL.out]; omega)⟩
      obtain ⟨ab, ao, rfl, hc0⟩ := HR.out.at_ hx0
      obtain ⟨_, _, e, hc1⟩ := HR.out.at_ hx1
      cases e
      obtain ⟨_, _, e, hc2⟩ := HR.out.at_ hx2
      cases e
      have hbw : Below w.heap.size w wr := by
        obtain ⟨N, _, _, h3⟩ := HRd.out
        exact HB0.out.trans (h3.mono HB0.out.size)
      have c0 := cell_kept hbw hc0
      have c1 := cell_kept hbw hc1
      have c2 := cell_kept hbw hc2
      rw [show ao + 3 * k = ao + k * 3 by omega] at c0
      rw [show ao + (3 * k + 1) = ao + k * 3 + 1 by omega] at c1
      rw [show ao + (3 * k + 2) = ao + k * 3 + 2 by omega] at c2
      have r0 := Lib.hid (HX.out x0 (List.mem_of_getElem? hx0))
      have r2 := Lib.hid (HX.out x2 (List.mem_of_getElem? hx2))
      clear hx0 hx1 hx2 hc0 hc1 hc2
      go_upto_region 10 with (fail)
      have HO0 := Lib.hid (Blk.new wr 29 [.int .i64 x0, .int .i64 x1, .int .i64 x2])
      have HR0 := Lib.hid (HRd.out.still HSZ.out (only_of_below (below1 wr (.cells #[.int .i64 x0, .int .i64 x1, .int .i64 x2] 29)) none))
      change Code.wp _ _ _ _ (wr.alloc (.cells #[.int .i64 x0, .int .i64 x1, .int .i64 x2] 29))
      have HOb : Hid (∀ W, (wr.alloc (.cells #[.int .i64 x0, .int .i64 x1, .int .i64 x2] 29)).grownBy W none → W.cell? ⟨wr.heap.size, 0, none⟩ = some (.int .i64 x0) ∧ W.cell? ⟨wr.heap.size, 1, none⟩ = some (.int .i64 x1) ∧ W.cell? ⟨wr.heap.size, 2, none⟩ = some (.int .i64 x2)) := Lib.hid (fun W hg => ⟨((HO0.out.grown hg (by simp)).cell 0).trans rfl, ((HO0.out.grown hg (by simp)).cell 1).trans rfl, ((HO0.out.grown hg (by simp)).cell 2).trans rfl⟩)
      have HTY := Lib.hid HO0.out.typed
      clear c0 c1 c2 hbw HO0
      generalize wr.alloc (.cells #[.int .i64 x0, .int .i64 x1, .int .i64 x2] 29) = W0 at *
      obtain ⟨o, ho⟩ : ∃ o, wr.heap.size = o := ⟨_, rfl⟩
      rw [ho] at HOb HTY ⊢
      clear ho
      obtain ⟨d0, d1, d2⟩ := HOb.out W0 (only_refl _ _)
      have D := Lib.hid (And.intro d0 (And.intro d1 d2))
      clear HOb d0 d2
      go_cut [41] (fun s41 wx => ∃ bb : Bool, s41 = .bool bb ∧ wx = W0)
      case first =>
        by_cases h1 : x1 = 1
        · subst h1
          go_wp2_with fail
          go_meet
          exact ⟨true, rfl, rfl⟩
        · have e1 : (x1 == 1) = false := by simpa using h1
          by_cases h4 : x1 = 4
          · subst h4
            go_wp2_with fail
            go_meet
            exact ⟨true, rfl, rfl⟩
          · have e4 : (x1 == 4) = false := by simpa using h4
            clear h1 h4
            go_wp2_with fail
            go_meet
            exact ⟨false, rfl, rfl⟩
      obtain ⟨bb, rfl, rfl⟩ := hcut
      go_upto_if 41 with (fail)
      go_cut [3, 4] (fun va vb wx => Hid (Round w1.heap.size n w1 (k + 1) va vb wx))
      case first =>
        obtain ⟨N, hN, hL, hBl⟩ := HR0.out
        obtain ⟨A3, c3, hv3⟩ := hL.a.form
        obtain ⟨A4, c4, hv4⟩ := hL.b.form
        rw [List.length_map] at hv3 hv4
        subst hv3 hv4
        have HBL := Lib.hid hBl
        have hsz : w1.heap.size ≤ wc.heap.size := hBl.size
        have HSC := Lib.hid hsz
        have hbd : (N.length + 1) * 8 ≤ 140737488351232 := by omega
        have HN := Lib.hid hN
        cases bb
        rotate_left
        · have hcall := makes_any x0 x1 x2 hL hsz hbd r0.out r2.out
          obtain ⟨d0, _, d2⟩ := D.out
          clear hL hBl hsz hbd hN
          go_wp2_with (go_at_call 15; with_reducible refine hcall.mono ?_; rintro e W2 ⟨N', va', vb', rfl, hlen, hL2, hB2⟩)
          go_meet
          exact Lib.hid ⟨N', Nat.le_trans hlen (Nat.succ_le_succ HN.out), hL2, HBL.out.trans (hB2 _ (Nat.le_refl _))⟩
        · have HL4 := Lib.hid hL
          clear hBl hL
          by_cases h0 : N.length = 0
          · have e0 : decide ((0 : Int) < (N.length : Int)) = false := by simp [h0]
            have e1 : decide (0 < N.length) = false := by simp [h0]
            clear h0 
            go_wp2_with fail
            go_meet
            exact Lib.hid ⟨N, Nat.le_succ_of_le HN.out, HL4.out, HBL.out⟩
          · have e0 : decide ((0 : Int) < (N.length : Int)) = true := by simp; omega
            have e1 : decide (0 < N.length) = true := by simp; omega
            have hmax : N.length ≤ 4611686018427387904 := by omega
            have hone : 1 ≤ N.length := by omega
            have C1 := on_any x0 N.length wc r0.out ⟨hone, hmax⟩
            obtain ⟨d0, _, d2⟩ := D.out
            clear hsz hbd hN h0
            go_upto_region 17 with (go_at_call 16; with_reducible refine C1.mono ?_; rintro e W2 ⟨i, rfl, hi, rfl⟩; have hi0 : (0 : Int) ≤ (i : Int) := by omega)
            have hin : (i : Int) < (N.length : Int) := by omega
            obtain ⟨x, hx⟩ : ∃ x, N[i]? = some x := ⟨_, List.getElem?_eq_getElem hi⟩
            have HLd : Hid (Laid W2.drew w1.heap.size N (.slice A3 N.length c3) (.slice A4 N.length c4)) := Lib.hid (HL4.out.still ⟨rfl, rfl, rfl, Nat.le_refl _, fun _ _ _ => rfl⟩)
            have HBd : Hid (Below w1.heap.size w1 W2.drew) := Lib.hid (below_drew0 HBL.out)
            have hstep := forest_step HLd.out.f hmax hx x0 x1 x2 r2.out
            obtain ⟨ga, rfl, ca1⟩ := HL4.out.a.first (i := i) (u := .pointer (some ⟨x.b, 0, none⟩)) (by rw [List.getElem?_map, hx]; rfl)
            obtain ⟨gb, rfl, cb1⟩ := HL4.out.b.first (i := i) (u := .pointer (some ⟨x.r, 0, none⟩)) (by rw [List.getElem?_map, hx]; rfl)
            have HSD : Hid (w1.heap.size ≤ W2.drew.heap.size) := HSC
            have HKP : Hid (∀ W8, Moved W2.drew w1.heap.size N W8 → (W8.cell? ⟨o, 0, none⟩ = some (.int .i64 x0) ∧ W8.cell? ⟨o, 1, none⟩ = some (.int .i64 x1) ∧ W8.cell? ⟨o, 2, none⟩ = some (.int .i64 x2)) ∧ W8.cell? ⟨ga, i, none⟩ = some (.pointer (some ⟨x.b, 0, none⟩)) ∧ W8.cell? ⟨gb, i, none⟩ = some (.pointer (some ⟨x.r, 0, none⟩))) := Lib.hid (fun W8 hM =>
              ⟨⟨hM.cell (t := 29) d0 HTY.out (by decide) (by decide), hM.cell (t := 29) d1 HTY.out (by decide) (by decide), hM.cell (t := 29) d2 HTY.out (by decide) (by decide)⟩, hM.cell ca1 (HLd.out.a.typed rfl) (by decide) (by decide), hM.cell cb1 (HLd.out.b.typed rfl) (by decide) (by decide)⟩)
            clear hx C1 e0 e1
            go_cut [11] (fun s11 wx => s11 = .bool true ∧ Hid (Round w1.heap.size n w1 (k + 1) (.slice (some ⟨ga, 0, none⟩) N.length c3) (.slice (some ⟨gb, 0, none⟩) N.length c4) wx))
            case first =>
              go_region_held3 (fun w' => (w'.cell? ⟨o, 0, none⟩ = some (.int .i64 x0) ∧ w'.cell? ⟨o, 1, none⟩ = some (.int .i64 x1) ∧ w'.cell? ⟨o, 2, none⟩ = some (.int .i64 x2)) ∧ w'.cell? ⟨ga, i, none⟩ = some (.pointer (some ⟨x.b, 0, none⟩)) ∧ w'.cell? ⟨gb, i, none⟩ = some (.pointer (some ⟨x.r, 0, none⟩))) (first | exact ⟨⟨d0, d1, d2⟩, ca1, cb1⟩ | exact q8) (first | ((go_at_call 17; with_reducible refine hstep.mono ?_; rintro e W8 ⟨rfl, hM8⟩; have HM8 := Lib.hid hM8; have q8 := HKP.out W8 hM8; clear hM8)))
              all_goals
                go_wp2_with fail
                go_meet
                obtain ⟨N', h1, h2, h3⟩ := HLd.out.moved HM8.out
                have e := HN.out
                exact ⟨rfl, Lib.hid ⟨N', by omega, h2, HBd.out.trans (h3 _ (Nat.le_refl _) HSD.out)⟩⟩
            obtain ⟨rfl, HRf⟩ := hcut
            go_wp2_with fail
            go_meet
            exact HRf
      obtain ⟨N, hN, hL, hBl⟩ := hcut.out
      obtain ⟨A3, c3, hv3⟩ := hL.a.form
      obtain ⟨A4, c4, hv4⟩ := hL.b.form
      rw [List.length_map] at hv3 hv4
      subst hv3 hv4
      have HN := Lib.hid hN
      have HL1 := Lib.hid hL
      have HB1 := Lib.hid hBl
      have hmax : N.length ≤ 4611686018427387904 := by omega
      clear hL hBl hN hcut HRd HR0 D d1 HTY r0 r2
      go_upto_region 21 with (fail)
      go_loopw [12] (fun s12 wx => ∃ j : Nat, j ≤ N.length ∧ s12 = .int .i64 j ∧ Hid (Laid wx w1.heap.size N (.slice A3 N.length c3) (.slice A4 N.length c4)) ∧ Hid (Below w1.heap.size w1 wx)) (fun s12 _ => N.length - (intOf s12).toNat)
      case atStart => exact ⟨0, by omega, rfl, HL1, HB1⟩
      case round =>
        obtain ⟨j, hj, rfl, HL2, HB2⟩ := hrel
        by_cases hjl : j < N.length
        · have hj0 : (0 : Int) ≤ (j : Int) := by omega
          have hjn : (j : Int) < (N.length : Int) := by omega
          obtain ⟨x, hx⟩ : ∃ x, N[j]? = some x := ⟨_, List.getElem?_eq_getElem hjl⟩
          have HLd : Hid (Laid wr.drew w1.heap.size N (.slice A3 N.length c3) (.slice A4 N.length c4)) := Lib.hid (HL2.out.still ⟨rfl, rfl, rfl, Nat.le_refl _, fun _ _ _ => rfl⟩)
          have hsees := forest_sees HLd.out.f hmax hx
          obtain ⟨ga, rfl, ca1⟩ := HL2.out.a.first (i := j) (u := .pointer (some ⟨x.b, 0, none⟩)) (by rw [List.getElem?_map, hx]; rfl)
          obtain ⟨gb, rfl, cb1⟩ := HL2.out.b.first (i := j) (u := .pointer (some ⟨x.r, 0, none⟩)) (by rw [List.getElem?_map, hx]; rfl)
          have ca2 : wr.drew.cell? ⟨ga, j, none⟩ = some (.pointer (some ⟨x.b, 0, none⟩)) := ca1
          have cb2 : wr.drew.cell? ⟨gb, j, none⟩ = some (.pointer (some ⟨x.r, 0, none⟩)) := cb1
          have HKP : Hid (∀ W8, wr.drew.grownBy W8 none → W8.cell? ⟨ga, j, none⟩ = some (.pointer (some ⟨x.b, 0, none⟩)) ∧ W8.cell? ⟨gb, j, none⟩ = some (.pointer (some ⟨x.r, 0, none⟩))) := Lib.hid (fun W8 hg => ⟨hg.cell ca2 (by simp), hg.cell cb2 (by simp)⟩)
          have HBd : Hid (Below w1.heap.size w1 wr.drew) := Lib.hid (below_drew0 HB2.out)
          clear hx ca2 cb2
          go_upto_region 23 with (fail)
          go_cut [13] (fun s13 wx => s13 = .bool true ∧ Hid (wr.drew.grownBy wx none))
          case first =>
            go_region_held3 (fun w' => w'.cell? ⟨ga, j, none⟩ = some (.pointer (some ⟨x.b, 0, none⟩)) ∧ w'.cell? ⟨gb, j, none⟩ = some (.pointer (some ⟨x.r, 0, none⟩))) (first | exact ⟨ca1, cb1⟩ | exact q8) (first | ((go_at_call 18; with_reducible refine hsees.mono ?_; rintro e W8 ⟨rfl, _, hg8⟩; have HG8 := Lib.hid hg8; have q8 := HKP.out W8 hg8; clear hg8)))
            all_goals
              go_wp2_with fail
              go_meet
              exact ⟨rfl, HG8⟩
          obtain ⟨rfl, HG8⟩ := hcut
          clear hsees ca1 cb1 HKP
          go_wp2_with fail
          go_roundw
          case rel => exact ⟨j + 1, by omega, by go_num, Lib.hid (HLd.out.still HG8.out), Lib.hid (below_still HBd.out HBd.out.size HG8.out)⟩
          case measure => simp [intOf]; omega
        · obtain rfl : j = N.length := by omega
          go_wp2_with fail
          go_roundw
          case rel => exact ⟨k + 1, by omega, by go_num, Lib.hid ⟨N, HN.out, HL2.out, HB2.out⟩⟩
          case measure => simp [intOf]; omega
    · obtain rfl : k = n := by omega
      obtain ⟨N, hN, hL, hBl⟩ := HRd.out
      have HBl := Lib.hid hBl
      have hPw : IsP wr b (flat 3 0 0 lk) := ⟨HP.out.1.self hBl, HP.out.2.self hBl⟩
      have hu := usedF hPw (by omega)
      clear hN hL hBl HRd hPw
      go_wp2_with (first | (go_at_call 11; with_reducible refine hu.mono ?_; rintro e w4 ⟨rfl, hP4, hg4⟩; have h4 := limitF hP4) | (go_at_call 14; with_reducible refine h4.mono ?_; rintro e w5 ⟨rfl, rfl⟩))
      go_ret
      exact ⟨rfl, below_still (HB0.out.trans (HBl.out.mono HB0.out.size)) (HB0.out.trans (HBl.out.mono HB0.out.size)).size hg4⟩
end Go.Proofs.Ytmemdicdehppjaa
