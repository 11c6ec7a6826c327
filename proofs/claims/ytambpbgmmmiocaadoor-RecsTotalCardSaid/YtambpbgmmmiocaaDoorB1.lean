/- The law RecsTotal answers true, at every order and all records, where the table of places lies as it is laid. -/
import Derived.Test.YtambpbgmmmiocaaDoorB0
import Derived.Test.YtambpbgmmmiocaaDoorA5
import Derived.LoopN
import Derived.Deep.Cut
import Derived.Deep.CutRange
namespace Go.Proofs.YtambpbgmmmiocaaDoor
open Go.RowKit
attribute [local go_sem] cell?_setCell_self

theorem sound_st {o0 o1 o2 o3 : Int} {b : Bool} {W w : World} (h : Hid (soundB o0 o1 o2 o3 = b)) (s : (∀ b o, b < W.heap.size → w.cell? ⟨b, o, none⟩ = W.cell? ⟨b, o, none⟩) ∧ Hid (Below W.heap.size W w)) :
    Calls Tryd.prog 10 #[.agg #[.int .i64 o0, .int .i64 o1, .int .i64 o2, .int .i64 o3]] w fun e w' => e = .returned (.bool b) ∧ (∀ b o, b < W.heap.size → w'.cell? ⟨b, o, none⟩ = W.cell? ⟨b, o, none⟩) ∧ Hid (Below W.heap.size W w') := by
  have e := h.out
  subst e
  exact (sound_any _ _ _ _ _).mono fun e w' ⟨he, hb⟩ => ⟨he, Stays.then s hb⟩
theorem compare_st {o0 o1 o2 o3 a0 a1 a2 a3 b0 b1 b2 b3 x : Int} {W w : World} (h : Hid (cmp o0 o1 o2 o3 a0 a1 a2 a3 b0 b1 b2 b3 = x)) (hn : Hid (Nat4 W)) (s : (∀ b o, b < W.heap.size → w.cell? ⟨b, o, none⟩ = W.cell? ⟨b, o, none⟩) ∧ Hid (Below W.heap.size W w)) :
    Calls Tryd.prog 12 #[.agg #[.int .i64 o0, .int .i64 o1, .int .i64 o2, .int .i64 o3], .agg #[.int .u64 a0, .int .u64 a1, .int .u64 a2, .int .u64 a3], .agg #[.int .u64 b0, .int .u64 b1, .int .u64 b2, .int .u64 b3]] w
      fun e w' => e = .returned (.int .i64 x) ∧ (∀ b o, b < W.heap.size → w'.cell? ⟨b, o, none⟩ = W.cell? ⟨b, o, none⟩) ∧ Hid (Below W.heap.size W w') := by
  have e := h.out
  subst e
  exact (compare_at _ _ _ _ _ _ _ _ _ _ _ _ _ (hn.out.stays s)).mono fun e w' ⟨he, hb⟩ => ⟨he, Stays.then s hb⟩

/-- The world behind the law's own boxes. -/
def TotW (w : World) (o0 o1 o2 o3 a0 a1 a2 a3 b0 b1 b2 b3 c0 c1 c2 c3 : Int) : World :=
  (((((w.alloc (.cells #[.int .i64 o0, .int .i64 o1, .int .i64 o2, .int .i64 o3] 23)).alloc
    (.cells #[.int .u64 a0, .int .u64 a1, .int .u64 a2, .int .u64 a3, .int .u64 b0, .int .u64 b1, .int .u64 b2, .int .u64 b3, .int .u64 c0, .int .u64 c1, .int .u64 c2, .int .u64 c3] 30)).alloc
    (.cells #[.int .u64 a0, .int .u64 a1, .int .u64 a2, .int .u64 a3] 26)).alloc (.cells #[.int .u64 b0, .int .u64 b1, .int .u64 b2, .int .u64 b3] 26)).alloc
    (.cells #[.int .u64 c0, .int .u64 c1, .int .u64 c2, .int .u64 c3] 26)).alloc (.cells #[.int .i64 0, .int .i64 1, .int .i64 2, .int .i64 3] 23)
theorem totW_at (w : World) (o0 o1 o2 o3 a0 a1 a2 a3 b0 b1 b2 b3 c0 c1 c2 c3 : Int) :
    let W := TotW w o0 o1 o2 o3 a0 a1 a2 a3 b0 b1 b2 b3 c0 c1 c2 c3
    At4 W w.heap.size (.int .i64 o0) (.int .i64 o1) (.int .i64 o2) (.int .i64 o3) ∧ At4 W (w.heap.size + 1 + 1) (.int .u64 a0) (.int .u64 a1) (.int .u64 a2) (.int .u64 a3) ∧
    At4 W (w.heap.size + 1 + 1 + 1) (.int .u64 b0) (.int .u64 b1) (.int .u64 b2) (.int .u64 b3) ∧ At4 W (w.heap.size + 1 + 1 + 1 + 1) (.int .u64 c0) (.int .u64 c1) (.int .u64 c2) (.int .u64 c3) ∧
    At4 W (w.heap.size + 1 + 1 + 1 + 1 + 1) (.int .i64 0) (.int .i64 1) (.int .i64 2) (.int .i64 3) ∧ Below w.heap.size w W := by
  intro W
  refine ⟨(((((at4_new _ _ _ _ _ _).alloc _).alloc _).alloc _).alloc _).alloc _, ?_, ?_, ?_, ?_, ?_⟩
  · have h := (((at4_new ((w.alloc (.cells #[.int .i64 o0, .int .i64 o1, .int .i64 o2, .int .i64 o3] 23)).alloc
    (.cells #[.int .u64 a0, .int .u64 a1, .int .u64 a2, .int .u64 a3, .int .u64 b0, .int .u64 b1, .int .u64 b2, .int .u64 b3, .int .u64 c0, .int .u64 c1, .int .u64 c2, .int .u64 c3] 30)) (.int .u64 a0) (.int .u64 a1) (.int .u64 a2) (.int .u64 a3) 26).alloc (.cells #[.int .u64 b0, .int .u64 b1, .int .u64 b2, .int .u64 b3] 26)).alloc
    (.cells #[.int .u64 c0, .int .u64 c1, .int .u64 c2, .int .u64 c3] 26)).alloc (.cells #[.int .i64 0, .int .i64 1, .int .i64 2, .int .i64 3] 23)
    simp only [World.size_alloc] at h
    exact h
  · have h := ((at4_new (((w.alloc (.cells #[.int .i64 o0, .int .i64 o1, .int .i64 o2, .int .i64 o3] 23)).alloc
    (.cells #[.int .u64 a0, .int .u64 a1, .int .u64 a2, .int .u64 a3, .int .u64 b0, .int .u64 b1, .int .u64 b2, .int .u64 b3, .int .u64 c0, .int .u64 c1, .int .u64 c2, .int .u64 c3] 30)).alloc (.cells #[.int .u64 a0, .int .u64 a1, .int .u64 a2, .int .u64 a3] 26)) (.int .u64 b0) (.int .u64 b1) (.int .u64 b2) (.int .u64 b3) 26).alloc
    (.cells #[.int .u64 c0, .int .u64 c1, .int .u64 c2, .int .u64 c3] 26)).alloc (.cells #[.int .i64 0, .int .i64 1, .int .i64 2, .int .i64 3] 23)
    simp only [World.size_alloc] at h
    exact h
  · have h := (at4_new ((((w.alloc (.cells #[.int .i64 o0, .int .i64 o1, .int .i64 o2, .int .i64 o3] 23)).alloc
    (.cells #[.int .u64 a0, .int .u64 a1, .int .u64 a2, .int .u64 a3, .int .u64 b0, .int .u64 b1, .int .u64 b2, .int .u64 b3, .int .u64 c0, .int .u64 c1, .int .u64 c2, .int .u64 c3] 30)).alloc (.cells #[.int .u64 a0, .int .u64 a1, .int .u64 a2, .int .u64 a3] 26)).alloc (.cells #[.int .u64 b0, .int .u64 b1, .int .u64 b2, .int .u64 b3] 26)) (.int .u64 c0) (.int .u64 c1) (.int .u64 c2) (.int .u64 c3) 26).alloc (.cells #[.int .i64 0, .int .i64 1, .int .i64 2, .int .i64 3] 23)
    simp only [World.size_alloc] at h
    exact h
  · have h := at4_new (((((w.alloc (.cells #[.int .i64 o0, .int .i64 o1, .int .i64 o2, .int .i64 o3] 23)).alloc
    (.cells #[.int .u64 a0, .int .u64 a1, .int .u64 a2, .int .u64 a3, .int .u64 b0, .int .u64 b1, .int .u64 b2, .int .u64 b3, .int .u64 c0, .int .u64 c1, .int .u64 c2, .int .u64 c3] 30)).alloc (.cells #[.int .u64 a0, .int .u64 a1, .int .u64 a2, .int .u64 a3] 26)).alloc (.cells #[.int .u64 b0, .int .u64 b1, .int .u64 b2, .int .u64 b3] 26)).alloc (.cells #[.int .u64 c0, .int .u64 c1, .int .u64 c2, .int .u64 c3] 26)) (.int .i64 0) (.int .i64 1) (.int .i64 2) (.int .i64 3) 23
    simp only [World.size_alloc] at h
    exact h
  · exact below_self (below3 _ _ _ _) (below3 _ _ _ _)

set_option maxRecDepth 100000 in
set_option maxHeartbeats 8000000 in
theorem total_any (o0 o1 o2 o3 a0 a1 a2 a3 b0 b1 b2 b3 c0 c1 c2 c3 : Int) (w : World) (hn : Nat4 w) :
    Calls Tryd.prog 4 #[.agg #[.int .i64 o0, .int .i64 o1, .int .i64 o2, .int .i64 o3], .agg #[.int .u64 a0, .int .u64 a1, .int .u64 a2, .int .u64 a3, .int .u64 b0, .int .u64 b1, .int .u64 b2, .int .u64 b3, .int .u64 c0, .int .u64 c1, .int .u64 c2, .int .u64 c3]] w
      fun e w' => e = .returned (.bool true) ∧ Below w.heap.size w w' := by
  have HN := Lib.hid hn
  clear hn
  have S0 : Hid (soundB 0 1 2 3 = true) := Lib.hid (by decide)
  have C0 : Hid (cmp 0 1 2 3 0 9 9 9 1 0 0 0 = -1) := Lib.hid (by decide)
  go_enter Tryd.func4, Tryd.ntmps4
  go_upto_region 5 with (fail)
  have F := Lib.hid (totW_at w o0 o1 o2 o3 a0 a1 a2 a3 b0 b1 b2 b3 c0 c1 c2 c3)
  show Code.wp _ _ _ _ (TotW w o0 o1 o2 o3 a0 a1 a2 a3 b0 b1 b2 b3 c0 c1 c2 c3)
  generalize TotW w o0 o1 o2 o3 a0 a1 a2 a3 b0 b1 b2 b3 c0 c1 c2 c3 = W at *
  obtain ⟨fo, fa, fb, fc, fp, hB⟩ := F.out
  clear F
  have NW := Lib.hid (HN.out.kept hB)
  have HB := Lib.hid hB
  clear hB
  have lo := fo.lt; have la := fa.lt; have lb := fb.lt; have lc := fc.lt; have lp := fp.lt
  obtain ⟨fo0, fo1, fo2, fo3⟩ := fo
  obtain ⟨fa0, fa1, fa2, fa3⟩ := fa
  obtain ⟨fb0, fb1, fb2, fb3⟩ := fb
  obtain ⟨fc0, fc1, fc2, fc3⟩ := fc
  obtain ⟨fp0, fp1, fp2, fp3⟩ := fp
  have s0 : (∀ b o, b < W.heap.size → W.cell? ⟨b, o, none⟩ = W.cell? ⟨b, o, none⟩) ∧ Hid (Below W.heap.size W W) := stays_refl W
  obtain ⟨x, hx⟩ : ∃ x, cmp o0 o1 o2 o3 a0 a1 a2 a3 b0 b1 b2 b3 = x := ⟨_, rfl⟩
  obtain ⟨z, hz⟩ : ∃ z, cmp o0 o1 o2 o3 b0 b1 b2 b3 c0 c1 c2 c3 = z := ⟨_, rfl⟩
  obtain ⟨t, ht⟩ : ∃ t, cmp o0 o1 o2 o3 a0 a1 a2 a3 c0 c1 c2 c3 = t := ⟨_, rfl⟩
  have hy : cmp o0 o1 o2 o3 b0 b1 b2 b3 a0 a1 a2 a3 = -x := by rw [← hx]; exact cmp_swap ..
  obtain ⟨x0, x1⟩ : -1 ≤ x ∧ x ≤ 1 := by rw [← hx]; exact cmp_range ..
  have hq : (a0 == b0 && a1 == b1 && a2 == b2 && a3 == b3) = (x == 0) := by rw [← hx]; exact cmp_zero ..
  have htr : x ≤ 0 → z ≤ 0 → t ≤ 0 := by rw [← hx, ← hz, ← ht]; exact fun a b => cmp_trans _ _ _ _ _ _ _ _ _ _ _ _ _ _ _ _ a b
  obtain ⟨s, hs⟩ : ∃ s, soundB o0 o1 o2 o3 = s := ⟨_, rfl⟩
  have HX := Lib.hid hx; have HZ := Lib.hid hz; have HT := Lib.hid ht; have HY := Lib.hid hy; have HS := Lib.hid hs
  have HE := eq_recs
  have HG := eqg26
  have e1 : (x != -(-x)) = false := by simp
  clear hx hz ht hy hs
  go_upto_if 31 with (first | (go_at_call 10; refine (sound_st (by assumption) (by assumption)).mono ?_; rintro e w1 ⟨rfl, s1⟩) | (go_at_call 12; refine (compare_st (by assumption) (by assumption) (by assumption)).mono ?_; rintro e w1 ⟨rfl, s1⟩))
  have d1 : decide (x < -1) = false := by simp; omega
  have d2 : decide (1 < x) = false := by simp; omega
  go_upto_if 63 with (first | (go_at_call 10; refine (sound_st (by assumption) (by assumption)).mono ?_; rintro e w1 ⟨rfl, s1⟩) | (go_at_call 12; refine (compare_st (by assumption) (by assumption) (by assumption)).mono ?_; rintro e w1 ⟨rfl, s1⟩))
  go_upto_region 12 with (first | (go_at_call 10; refine (sound_st (by assumption) (by assumption)).mono ?_; rintro e w1 ⟨rfl, s1⟩) | (go_at_call 12; refine (compare_st (by assumption) (by assumption) (by assumption)).mono ?_; rintro e w1 ⟨rfl, s1⟩))
  go_cut [76] from 15 (fun v wc => v = .bool false ∧ (∀ b o, b < W.heap.size → wc.cell? ⟨b, o, none⟩ = W.cell? ⟨b, o, none⟩) ∧ Hid (Below W.heap.size W wc))
  case first =>
    go_wp2_with (first | (go_at_call 10; refine (sound_st (by assumption) (by assumption)).mono ?_; rintro e w1 ⟨rfl, s1⟩) | (go_at_call 12; refine (compare_st (by assumption) (by assumption) (by assumption)).mono ?_; rintro e w1 ⟨rfl, s1⟩))
    all_goals go_meet
    case rel => exact ⟨by rw [decide_eq_false (by omega)], s1⟩
    all_goals exact ⟨rfl, by assumption⟩
  case rest =>
    obtain ⟨rfl, s2⟩ := hcut
    cases s with
    | false =>
      have HU : Hid (cmp 0 1 2 3 a0 a1 a2 a3 b0 b1 b2 b3 = x) := Lib.hid (by rw [← HX.out]; exact (cmp_unsound _ _ _ _ _ _ _ _ _ _ _ _ HS.out).symm)
      go_wp2_with (first | (go_at_call 10; refine (sound_st (by assumption) (by assumption)).mono ?_; rintro e w1 ⟨rfl, s1⟩) | (go_at_call 12; refine (compare_st (by assumption) (by assumption) (by assumption)).mono ?_; rintro e w1 ⟨rfl, s1⟩))
      go_ret
      exact ⟨ret_bool (by simp), below_self HB.out s1.2.out⟩
    | true =>
      obtain ⟨hpl, _⟩ := sound_places HS.out
      obtain ⟨p0, q0⟩ := hpl o0 (by simp)
      obtain ⟨p1, q1⟩ := hpl o1 (by simp)
      obtain ⟨p2, q2⟩ := hpl o2 (by simp)
      obtain ⟨p3, q3⟩ := hpl o3 (by simp)
      clear hpl
      have HU : Hid (cmp 0 1 2 3 (word a0 a1 a2 a3 o0) (word a0 a1 a2 a3 o1) (word a0 a1 a2 a3 o2) (word a0 a1 a2 a3 o3) (word b0 b1 b2 b3 o0) (word b0 b1 b2 b3 o1) (word b0 b1 b2 b3 o2) (word b0 b1 b2 b3 o3) = x) :=
        Lib.hid (by rw [← HX.out]; exact (cmp_sound _ _ _ _ _ _ _ _ _ _ _ _ HS.out).symm)
      have wa : ∀ p : Int, 0 ≤ p → p ≤ 3 → W.cell? ⟨w.heap.size + 1 + 1, p.toNat, none⟩ = some (.int .u64 (word a0 a1 a2 a3 p)) := fun p h0 h3 => by
        rcases four p h0 h3 with rfl | rfl | rfl | rfl <;> simp [word, fa0, fa1, fa2, fa3]
      have wb : ∀ p : Int, 0 ≤ p → p ≤ 3 → W.cell? ⟨w.heap.size + 1 + 1 + 1, p.toNat, none⟩ = some (.int .u64 (word b0 b1 b2 b3 p)) := fun p h0 h3 => by
        rcases four p h0 h3 with rfl | rfl | rfl | rfl <;> simp [word, fb0, fb1, fb2, fb3]
      have ga0 := wa o0 p0 q0; have ga1 := wa o1 p1 q1; have ga2 := wa o2 p2 q2; have ga3 := wa o3 p3 q3
      have gb0 := wb o0 p0 q0; have gb1 := wb o1 p1 q1; have gb2 := wb o2 p2 q2; have gb3 := wb o3 p3 q3
      clear wa wb
      generalize word a0 a1 a2 a3 o0 = r0 at *
      generalize word a0 a1 a2 a3 o1 = r1 at *
      generalize word a0 a1 a2 a3 o2 = r2 at *
      generalize word a0 a1 a2 a3 o3 = r3 at *
      generalize word b0 b1 b2 b3 o0 = t0 at *
      generalize word b0 b1 b2 b3 o1 = t1 at *
      generalize word b0 b1 b2 b3 o2 = t2 at *
      generalize word b0 b1 b2 b3 o3 = t3 at *
      go_wp2_with (first | (go_at_call 10; refine (sound_st (by assumption) (by assumption)).mono ?_; rintro e w1 ⟨rfl, s1⟩) | (go_at_call 12; refine (compare_st (by assumption) (by assumption) (by assumption)).mono ?_; rintro e w1 ⟨rfl, s1⟩))
      have hsz : W.heap.size ≤ w1.heap.size := s1.2.out.size
      have l1o : w.heap.size < w1.heap.size := by omega
      have l1a : w.heap.size + 1 + 1 < w1.heap.size := by omega
      have l1b : w.heap.size + 1 + 1 + 1 < w1.heap.size := by omega
      have l1p : w.heap.size + 1 + 1 + 1 + 1 + 1 < w1.heap.size := by omega
      have l1x : w.heap.size + 1 < w1.heap.size := by omega
      have l1y : w.heap.size + 1 + 1 + 1 + 1 < w1.heap.size := by omega
      refine wp_loop_rounds 5 ?_
      rw [rounds_succ]
      go_wp2
      rw [rounds_succ]
      go_wp2
      rw [rounds_succ]
      go_wp2
      rw [rounds_succ]
      go_wp2
      rw [rounds_succ]
      go_upto_region 22 with (fail)
      go_wp2_with (go_at_call 12; refine (compare_st HU NW (Stays.then s1 (below2 _ _ _))).mono ?_; rintro e w3 ⟨rfl, s3⟩)
      go_ret
      exact ⟨ret_bool (by simp), below_self HB.out s3.2.out⟩
end Go.Proofs.YtambpbgmmmiocaaDoor
