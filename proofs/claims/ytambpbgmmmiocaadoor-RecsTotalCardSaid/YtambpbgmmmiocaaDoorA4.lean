/- The document's Compare answers cmp, at every order and all records. -/
import Derived.Test.YtambpbgmmmiocaaDoorA3
namespace Go.Proofs.YtambpbgmmmiocaaDoor
open Go.RowKit
attribute [local go_sem] cell?_setCell_self

/-- The order lies boxed in the call's own block. -/
def Ordered (w wl : World) (o0 o1 o2 o3 : Int) : Prop := ∀ (k : Nat) (p : Int), [o0, o1, o2, o3][k]? = some p → wl.cell? ⟨w.heap.size, k, none⟩ = some (.int .i64 p)
theorem ordered_new (w : World) (o p : Obj) (t : TypeId) (o0 o1 o2 o3 : Int) : Ordered w (((w.alloc (.cells #[.int .i64 o0, .int .i64 o1, .int .i64 o2, .int .i64 o3] t)).alloc o).alloc p) o0 o1 o2 o3 := by
  intro k p hk
  match k, hk with
  | 0, h | 1, h | 2, h | 3, h => simp at h; subst h; simp [go_sem]
  | n + 4, h => simp at h
theorem Ordered.call {w W w1 : World} {o0 o1 o2 o3 : Int} (h : Ordered w W o0 o1 o2 o3) (hs : w.heap.size < W.heap.size) (hb : Below W.heap.size W w1) : Ordered w w1 o0 o1 o2 o3 :=
  fun k p hk => (hb.cell (by show w.heap.size < _; omega)).trans (h k p hk)
theorem Ordered.drewN {w W : World} {o0 o1 o2 o3 : Int} (h : Ordered w W o0 o1 o2 o3) (n : Nat) : Ordered w (W.drewN n) o0 o1 o2 o3 := h

set_option maxHeartbeats 4000000 in
theorem compare_ref (o0 o1 o2 o3 a0 a1 a2 a3 b0 b1 b2 b3 : Int) (w : World) :
    Calls Tryd.prog 13 #[.agg #[.int .i64 o0, .int .i64 o1, .int .i64 o2, .int .i64 o3], .agg #[.int .u64 a0, .int .u64 a1, .int .u64 a2, .int .u64 a3], .agg #[.int .u64 b0, .int .u64 b1, .int .u64 b2, .int .u64 b3]] w
      fun e w' => e = .returned (.int .i64 (cmp o0 o1 o2 o3 a0 a1 a2 a3 b0 b1 b2 b3)) ∧ Below w.heap.size w w' := by
  by_cases hs : soundB o0 o1 o2 o3 = true
  · have HP : Hid (placesOf o0 o1 o2 o3 = [o0, o1, o2, o3]) := Lib.hid (by unfold placesOf; rw [if_pos hs])
    have HR : Hid (∀ p ∈ [o0, o1, o2, o3], 0 ≤ p ∧ p ≤ 3) := Lib.hid (by
      have h := hs
      unfold soundB at h
      simp only [Bool.and_eq_true] at h
      intro p hp
      have := List.all_eq_true.1 h.1.1.1.1 p hp
      simpa using this)
    go_enter Tryd.func13, Tryd.ntmps13
    go_wp2_with (go_at_call 11; refine (sound_ref _ _ _ _ _).mono ?_; rintro e w1 ⟨rfl, hb⟩)
    go_loopw [8] (fun i wr => ∃ k : Nat, k ≤ 4 ∧ i = .int .i64 k ∧ Hid (Boxed w wr a0 a1 a2 a3 b0 b1 b2 b3) ∧ Hid (Ordered w wr o0 o1 o2 o3) ∧ Hid (Alike [o0, o1, o2, o3] k a0 a1 a2 a3 b0 b1 b2 b3)) (fun i _ => 4 - (intOf i).toNat)
    case atStart => exact ⟨0, by omega, rfl, Lib.hid ((boxed_new _ _ _ _ _ _ _ _ _ _ _).call (by simp) hb), Lib.hid ((ordered_new _ _ _ _ _ _ _ _).call (by simp; omega) hb), Lib.hid (by intro q hq; simp [pairs] at hq)⟩
    case round =>
      obtain ⟨k, hk, rfl, HB, HO, HA⟩ := hrel
      by_cases hlt : k < 4
      · obtain ⟨p, hp⟩ : ∃ p, [o0, o1, o2, o3][k]? = some p := ⟨_, List.getElem?_eq_getElem (by simpa using hlt)⟩
        have hp01 : 0 ≤ p ∧ p ≤ 3 := HR.out p (List.mem_of_getElem? hp)
        obtain ⟨hp0, hp3⟩ := hp01
        have hco := HO.out k p hp
        have hca := HB.out.1 p hp0 hp3
        have hcb := HB.out.2.1 p hp0 hp3
        have HN := Lib.hid (HA.out.now hp)
        have HX := Lib.hid (fun e => HA.out.next hp e)
        clear hp
        generalize word a0 a1 a2 a3 p = x at *
        generalize word b0 b1 b2 b3 p = y at *
        by_cases h1 : x < y
        · have hr : Hid (cmp o0 o1 o2 o3 a0 a1 a2 a3 b0 b1 b2 b3 = -1) := Lib.hid (by unfold cmp; rw [HP.out, HN.out, if_pos h1])
          have h1' : decide (x < y) = true := by simpa using h1
          go_wp2
          go_quiet (fail)
          go_wp2
          go_ret
          exact ⟨ret_int hr.out.symm, (HB.out.drewN _).2.2⟩
        · have h1' : decide (x < y) = false := by simpa using h1
          by_cases h2 : y < x
          · have hr : Hid (cmp o0 o1 o2 o3 a0 a1 a2 a3 b0 b1 b2 b3 = 1) := Lib.hid (by unfold cmp; rw [HP.out, HN.out, if_neg h1, if_pos h2])
            have h2' : decide (y < x) = true := by simpa using h2
            clear h1
            go_wp2
            go_quiet (fail)
            go_wp2
            go_quiet (fail)
            go_wp2
            go_ret
            exact ⟨ret_int hr.out.symm, ((HB.out.drewN _).drewN _).2.2⟩
          · have h2' : decide (y < x) = false := by simpa using h2
            have hxy : Hid (x = y) := Lib.hid (by omega)
            clear h1 h2
            go_wp2
            go_quiet (fail)
            go_wp2
            go_quiet (fail)
            go_wp2
            go_roundw
            case rel => exact ⟨k + 1, by omega, by go_num, Lib.hid (HB.out.drewN _), Lib.hid (HO.out.drewN _), Lib.hid (HX.out hxy.out)⟩
            case measure => simp [intOf]; omega
      · obtain rfl : k = 4 := by omega
        have hr : Hid (cmp o0 o1 o2 o3 a0 a1 a2 a3 b0 b1 b2 b3 = 0) := Lib.hid (by unfold cmp; rw [HP.out, HA.out.all (by simp)])
        go_wp2
        go_ret
        exact ⟨ret_int hr.out.symm, HB.out.2.2⟩
  · have hs' := Bool.eq_false_iff.2 hs
    have HP : Hid (placesOf o0 o1 o2 o3 = [0, 1, 2, 3]) := Lib.hid (by unfold placesOf; rw [if_neg hs])
    have HR : Hid (∀ p ∈ [(0 : Int), 1, 2, 3], 0 ≤ p ∧ p ≤ 3) := Lib.hid (by simp)
    go_enter Tryd.func13, Tryd.ntmps13
    go_wp2_with (go_at_call 11; refine (sound_ref _ _ _ _ _).mono ?_; rintro e w1 ⟨rfl, hb⟩)
    go_loopw [8] (fun i wr => ∃ k : Nat, k ≤ 4 ∧ i = .int .i64 k ∧ Hid (Boxed w wr a0 a1 a2 a3 b0 b1 b2 b3) ∧ Hid (Ordered w wr o0 o1 o2 o3) ∧ Hid (Alike [(0 : Int), 1, 2, 3] k a0 a1 a2 a3 b0 b1 b2 b3)) (fun i _ => 4 - (intOf i).toNat)
    case atStart => exact ⟨0, by omega, rfl, Lib.hid ((boxed_new _ _ _ _ _ _ _ _ _ _ _).call (by simp) hb), Lib.hid ((ordered_new _ _ _ _ _ _ _ _).call (by simp; omega) hb), Lib.hid (by intro q hq; simp [pairs] at hq)⟩
    case round =>
      obtain ⟨k, hk, rfl, HB, HO, HA⟩ := hrel
      by_cases hlt : k < 4
      · obtain ⟨p, hp⟩ : ∃ p, [(0 : Int), 1, 2, 3][k]? = some p := ⟨_, List.getElem?_eq_getElem (by simpa using hlt)⟩
        have hp01 : 0 ≤ p ∧ p ≤ 3 := HR.out p (List.mem_of_getElem? hp)
        obtain ⟨hp0, hp3⟩ := hp01
        have hpk : p = k := by
          match k, hlt, hp with
          | 0, _, h | 1, _, h | 2, _, h | 3, _, h => simp at h; omega
        subst hpk
        have hca := HB.out.1 (k : Int) hp0 hp3
        have hcb := HB.out.2.1 (k : Int) hp0 hp3
        have HN := Lib.hid (HA.out.now hp)
        have HX := Lib.hid (fun e => HA.out.next hp e)
        clear hp hp0 hp3
        simp only [Int.toNat_natCast] at hca hcb
        generalize word a0 a1 a2 a3 (k : Int) = x at *
        generalize word b0 b1 b2 b3 (k : Int) = y at *
        by_cases h1 : x < y
        · have hr : Hid (cmp o0 o1 o2 o3 a0 a1 a2 a3 b0 b1 b2 b3 = -1) := Lib.hid (by unfold cmp; rw [HP.out, HN.out, if_pos h1])
          have h1' : decide (x < y) = true := by simpa using h1
          go_wp2
          go_quiet (fail)
          go_wp2
          go_ret
          exact ⟨ret_int hr.out.symm, (HB.out.drewN _).2.2⟩
        · have h1' : decide (x < y) = false := by simpa using h1
          by_cases h2 : y < x
          · have hr : Hid (cmp o0 o1 o2 o3 a0 a1 a2 a3 b0 b1 b2 b3 = 1) := Lib.hid (by unfold cmp; rw [HP.out, HN.out, if_neg h1, if_pos h2])
            have h2' : decide (y < x) = true := by simpa using h2
            clear h1
            go_wp2
            go_quiet (fail)
            go_wp2
            go_quiet (fail)
            go_wp2
            go_ret
            exact ⟨ret_int hr.out.symm, ((HB.out.drewN _).drewN _).2.2⟩
          · have h2' : decide (y < x) = false := by simpa using h2
            have hxy : Hid (x = y) := Lib.hid (by omega)
            clear h1 h2
            go_wp2
            go_quiet (fail)
            go_wp2
            go_quiet (fail)
            go_wp2
            go_roundw
            case rel => exact ⟨k + 1, by omega, by go_num, Lib.hid (HB.out.drewN _), Lib.hid (HO.out.drewN _), Lib.hid (HX.out hxy.out)⟩
            case measure => simp [intOf]; omega
      · obtain rfl : k = 4 := by omega
        have hr : Hid (cmp o0 o1 o2 o3 a0 a1 a2 a3 b0 b1 b2 b3 = 0) := Lib.hid (by unfold cmp; rw [HP.out, HA.out.all (by simp)])
        go_wp2
        go_ret
        exact ⟨ret_int hr.out.symm, HB.out.2.2⟩
end Go.Proofs.YtambpbgmmmiocaaDoor
