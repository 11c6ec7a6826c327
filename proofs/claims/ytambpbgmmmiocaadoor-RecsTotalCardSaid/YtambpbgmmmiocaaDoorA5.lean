/- The law RecsOrders answers true, at every order and all records, where the table of places lies as it is laid. -/
import Derived.Test.YtambpbgmmmiocaaDoorA4
import Derived.Deep.RegionHeld3
namespace Go.Proofs.YtambpbgmmmiocaaDoor
open Go.RowKit
attribute [local go_sem] cell?_setCell_self

/-- The table of the words' places, as it is laid. -/
def Nat4 (w : World) : Prop := w.cell? ⟨0, 0, none⟩ = some (.int .i64 0) ∧ w.cell? ⟨0, 1, none⟩ = some (.int .i64 1) ∧ w.cell? ⟨0, 2, none⟩ = some (.int .i64 2) ∧ w.cell? ⟨0, 3, none⟩ = some (.int .i64 3)
theorem Nat4.kept {w w1 : World} (hw : Nat4 w) (h : Below w.heap.size w w1) : Nat4 w1 := ⟨cell_kept h hw.1, cell_kept h hw.2.1, cell_kept h hw.2.2.1, cell_kept h hw.2.2.2⟩

theorem Nat4.stays {W w : World} (hn : Nat4 W) (h : Stays W w) : Nat4 w := hn.kept h.below
theorem compare_at (o0 o1 o2 o3 a0 a1 a2 a3 b0 b1 b2 b3 : Int) (w : World) (hn : Nat4 w) :
    Calls Tryd.prog 12 #[.agg #[.int .i64 o0, .int .i64 o1, .int .i64 o2, .int .i64 o3], .agg #[.int .u64 a0, .int .u64 a1, .int .u64 a2, .int .u64 a3], .agg #[.int .u64 b0, .int .u64 b1, .int .u64 b2, .int .u64 b3]] w
      fun e w' => e = .returned (.int .i64 (cmp o0 o1 o2 o3 a0 a1 a2 a3 b0 b1 b2 b3)) ∧ Below w.heap.size w w' :=
  compare_any _ _ _ _ _ _ _ _ _ _ _ _ w hn.1 hn.2.1 hn.2.2.1 hn.2.2.2

set_option maxHeartbeats 4000000 in
theorem orders_any (o0 o1 o2 o3 a0 a1 a2 a3 b0 b1 b2 b3 : Int) (w : World) (hn : Nat4 w) :
    Calls Tryd.prog 3 #[.agg #[.int .i64 o0, .int .i64 o1, .int .i64 o2, .int .i64 o3], .agg #[.int .u64 a0, .int .u64 a1, .int .u64 a2, .int .u64 a3], .agg #[.int .u64 b0, .int .u64 b1, .int .u64 b2, .int .u64 b3]] w
      fun e w' => e = .returned (.bool true) ∧ Below w.heap.size w w' := by
  have hO := ((at4_new w (.int .i64 o0) (.int .i64 o1) (.int .i64 o2) (.int .i64 o3) 23).alloc (.cells #[.int .u64 a0, .int .u64 a1, .int .u64 a2, .int .u64 a3] 26)).alloc (.cells #[.int .u64 b0, .int .u64 b1, .int .u64 b2, .int .u64 b3] 26)
  have hA := (at4_new (w.alloc (.cells #[.int .i64 o0, .int .i64 o1, .int .i64 o2, .int .i64 o3] 23)) (.int .u64 a0) (.int .u64 a1) (.int .u64 a2) (.int .u64 a3) 26).alloc (.cells #[.int .u64 b0, .int .u64 b1, .int .u64 b2, .int .u64 b3] 26)
  have hB := at4_new ((w.alloc (.cells #[.int .i64 o0, .int .i64 o1, .int .i64 o2, .int .i64 o3] 23)).alloc (.cells #[.int .u64 a0, .int .u64 a1, .int .u64 a2, .int .u64 a3] 26)) (.int .u64 b0) (.int .u64 b1) (.int .u64 b2) (.int .u64 b3) 26
  have hall := below3 w (.cells #[.int .i64 o0, .int .i64 o1, .int .i64 o2, .int .i64 o3] 23) (.cells #[.int .u64 a0, .int .u64 a1, .int .u64 a2, .int .u64 a3] 26) (.cells #[.int .u64 b0, .int .u64 b1, .int .u64 b2, .int .u64 b3] 26)
  have hn2 := hn.kept hall
  simp only [World.size_alloc] at hA hB
  have H := Lib.hid (And.intro hO (And.intro hA (And.intro hB (And.intro hall hn2))))
  clear hO hA hB hall hn2 hn
  go_enter Tryd.func3, Tryd.ntmps3
  go_wp2_with fail
  generalize (((w.alloc (.cells #[.int .i64 o0, .int .i64 o1, .int .i64 o2, .int .i64 o3] 23)).alloc (.cells #[.int .u64 a0, .int .u64 a1, .int .u64 a2, .int .u64 a3] 26)).alloc (.cells #[.int .u64 b0, .int .u64 b1, .int .u64 b2, .int .u64 b3] 26)) = W at *
  obtain ⟨hO, hA, hB, hall, hn⟩ := H.out
  clear H
  have l1 := hO.lt
  have l2 := hA.lt
  have l3 := hB.lt
  obtain ⟨x0, x1, x2, x3⟩ := hO
  obtain ⟨y0, y1, y2, y3⟩ := hA
  obtain ⟨z0, z1, z2, z3⟩ := hB
  have HN := Lib.hid hn
  have HL := Lib.hid hall
  clear hn hall
  go_region_held3 (fun w' => (∀ b o, b < W.heap.size → w'.cell? ⟨b, o, none⟩ = W.cell? ⟨b, o, none⟩) ∧ Hid (Below W.heap.size W w'))
    (first | exact stays_drew W | (exact Stays.then (by assumption) (by assumption)))
    (first | ((go_at_call 10; refine (sound_any _ _ _ _ _).mono ?_; rintro e w1 ⟨rfl, hb⟩)) | (go_at_call 11; refine (sound_ref _ _ _ _ _).mono ?_; rintro e w2 ⟨rfl, hb2⟩) | (go_at_call 12; refine (compare_at _ _ _ _ _ _ _ _ _ _ _ _ _ (HN.out.stays (by assumption))).mono ?_; rintro e w3 ⟨rfl, hb3⟩) | (go_at_call 13; refine (compare_ref _ _ _ _ _ _ _ _ _ _ _ _ _).mono ?_; rintro e w4 ⟨rfl, hb4⟩))
  go_wp2
  go_ret
  have s1 := (stays_drew W).then hb
  have s4 := ((s1.then hb2).then hb3).then hb4
  exact ⟨rfl, below_self HL.out s4.below⟩
end Go.Proofs.YtambpbgmmmiocaaDoor
