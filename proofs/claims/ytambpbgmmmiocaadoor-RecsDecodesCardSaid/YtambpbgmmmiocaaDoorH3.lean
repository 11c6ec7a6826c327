/- roomy, turned and same of the law's text. -/
import Derived.Test.YtambpbgmmmiocaaDoorE6
import Derived.Test.YtambpbgmmmiocaaDoorG2
import Derived.Test.YtambpbgmmmiocaaDoorA0
namespace Go.Proofs.YtambpbgmmmiocaaDoor
open Go.RowKit

theorem info26 : (Tryd.prog.info? 26).map (fun i => (i.zero, i.size, i.bytes)) = some (some (.agg #[.int .u64 0, .int .u64 0, .int .u64 0, .int .u64 0]), 4, 32) := by kernel_rfl
def spareL : List Int := [7, 7, 7, 7, 8, 8, 8, 8]
theorem reads_new (w : World) (t : TypeId) (k : IntKind) (l : List Int) : Reads (w.alloc (.cells (nums k l).toArray t)) k (some ⟨w.heap.size, 0, none⟩) l :=
  Reads.of_blk (n := l.length) (Blk.new w t (nums k l)) (by simp)
set_option maxHeartbeats 2000000 in
theorem roomy_any (A : Option Addr) (m c : Nat) (ws : List Int) (w : World) (hr : Reads w .u64 A ws) (hl : ws.length = m * 4) (hb : (m + 2) * 32 ≤ 140737488355328) :
    Calls Tryd.prog 14 #[.slice A m c] w fun e w' => ∃ v, e = .returned v ∧ w'.ownsRow w.heap.size 26 4 v (m + 2) (nums .u64 (ws ++ spareL)) ∧ Below w.heap.size w w' := by
  have HR := Lib.hid hr
  have HL := Lib.hid hl
  clear hr hl
  have hl8 : spareL.length = 2 * 4 := rfl
  go_enter Tryd.func14, Tryd.ntmps14
  go_upto_region 2 with (at_builtin; refine wpList_more rfl _ _ 32 rfl w.heap.size 26 _ 4 32 Tryd.underlying32 info26 rfl (by decide) (.slice none 0 0) 0 [] rfl (World.ownsRow_nil _ _ _ _) A m c .u64 ws rfl HR.out HL.out (by simp [maxLen]; omega) (by omega) (Nat.le_refl _) ?_; intro v1 w1 o1 g1 a1)
  rw [Nat.zero_add, List.nil_append] at o1
  have hb1 : Hid (Below w.heap.size w w1) := Lib.hid ((Below.refl _ _).grown g1 (Nat.le_refl _) (fun j e => by simp [Value.ownBlock] at e))
  have hs1 := hb1.out.size
  have O1 := Lib.hid o1
  clear o1 g1 a1
  have hB : Hid (Below w.heap.size w (w1.alloc (.cells (nums .u64 spareL).toArray 26))) := Lib.hid (hb1.out.alloc hs1 _)
  have hO := Lib.hid (rows_below O1.out (below1 w1 (.cells (nums .u64 spareL).toArray 26)))
  have hN := Lib.hid (reads_new w1 26 .u64 spareL)
  go_wp2_with (at_builtin; refine wpList_more rfl _ _ 32 rfl w.heap.size 26 _ 4 32 Tryd.underlying32 info26 rfl (by decide) v1 m (nums .u64 ws) rfl hO.out (some ⟨w1.heap.size, 0, none⟩) 2 2 .u64 spareL rfl hN.out rfl (by simp [maxLen]; omega) (by omega) (by simp; omega) ?_; intro v2 w2 o2 g2 a2)
  go_ret
  refine ⟨v2, rfl, by rw [nums_append]; exact o2, hB.out.grown g2 hB.out.size (fun j e => ?_)⟩
  exact (World.ownsRow.lt hO.out j e).1

/-- The last k of m records, the last one first. -/
def backs (ws : List Int) (m : Nat) : Nat → List Int
  | 0 => []
  | k + 1 => backs ws m k ++ (ws.drop (4 * (m - 1 - k))).take 4
theorem backs_length (ws : List Int) (m : Nat) (hl : ws.length = m * 4) : ∀ k, k ≤ m → (backs ws m k).length = k * 4
  | 0, _ => rfl
  | k + 1, h => by
    rw [backs, List.length_append, backs_length ws m hl k (by omega), List.length_take, List.length_drop]; omega
theorem backs_mem (ws : List Int) (m : Nat) (x : Int) : ∀ k, x ∈ backs ws m k → x ∈ ws
  | 0, h => by simp [backs] at h
  | k + 1, h => by
    rw [backs, List.mem_append] at h
    rcases h with h | h
    · exact backs_mem ws m x k h
    · exact List.mem_of_mem_drop (List.mem_of_mem_take h)
theorem four_of (ws : List Int) (j : Nat) (h : 4 * j + 4 ≤ ws.length) : ∃ x0 x1 x2 x3, ws[4 * j]? = some x0 ∧ ws[4 * j + 1]? = some x1 ∧ ws[4 * j + 2]? = some x2 ∧ ws[4 * j + 3]? = some x3 ∧ (ws.drop (4 * j)).take 4 = [x0, x1, x2, x3] := by
  refine ⟨_, _, _, _, List.getElem?_eq_getElem (by omega), List.getElem?_eq_getElem (by omega), List.getElem?_eq_getElem (by omega), List.getElem?_eq_getElem (by omega), ?_⟩
  rw [List.drop_eq_getElem_cons (by omega), List.drop_eq_getElem_cons (by omega), List.drop_eq_getElem_cons (by omega), List.drop_eq_getElem_cons (by omega)]
  rfl
set_option maxHeartbeats 2000000 in
theorem turned_any (A : Option Addr) (m c : Nat) (ws : List Int) (w : World) (hr : Reads w .u64 A ws) (hl : ws.length = m * 4) (hb : (m + 2) * 32 ≤ 140737488355328) :
    Calls Tryd.prog 16 #[.slice A m c] w fun e w' => ∃ v, e = .returned v ∧ w'.ownsRow w.heap.size 26 4 v m (nums .u64 (backs ws m m)) ∧ Below w.heap.size w w' := by
  have HR := Lib.hid hr
  have HL := Lib.hid hl
  clear hr hl
  go_enter Tryd.func16, Tryd.ntmps16
  go_wp2
  go_loopw [3, 4] (fun s i wr => ∃ z : Int, ∃ k j : Nat, i = .int .i64 z ∧ -1 ≤ z ∧ z ≤ m ∧ Hid (z = (j : Int) - 1) ∧ Hid (j + k = m) ∧ Hid (wr.ownsRow w.heap.size 26 4 s k (nums .u64 (backs ws m k))) ∧ Hid (Below w.heap.size w wr)) (fun _ i _ => (intOf i + 1).toNat)
  case atStart => exact ⟨_, 0, m, rfl, by omega, by omega, Lib.hid rfl, Lib.hid (by omega), Lib.hid (World.ownsRow_nil _ _ _ _), Lib.hid (Below.refl _ _)⟩
  case round =>
    obtain ⟨z, k, j, rfl, hz0, hz1, HZ, HJ, HO, HB⟩ := hrel
    rcases j with _ | j
    · obtain rfl : z = -1 := by have := HZ.out; omega
      obtain rfl : k = m := by have := HJ.out; omega
      go_wp2
      go_ret
      exact ⟨_, rfl, HO.out, HB.out⟩
    · obtain rfl : z = (j : Int) := by have := HZ.out; omega
      have hjm : j < m := by have := HJ.out; omega
      have hkm : k < m := by have := HJ.out; omega
      obtain ⟨x0, x1, x2, x3, h0, h1, h2, h3, h4⟩ := four_of ws j (by rw [HL.out]; omega)
      obtain ⟨b, o, rfl, hc0⟩ := HR.out.at_ h0
      have at_ : ∀ i x, ws[4 * j + i]? = some x → wr.cell? ⟨b, o + j * 4 + i, none⟩ = some (.int .u64 x) := fun i x hx => by
        obtain ⟨b', o', e, hc⟩ := HR.out.at_ hx
        cases e
        have := cell_kept HB.out hc
        rwa [show o + (4 * j + i) = o + j * 4 + i by omega] at this
      have c0 := at_ 0 x0 h0
      have c1 := at_ 1 x1 h1
      have c2 := at_ 2 x2 h2
      have c3 := at_ 3 x3 h3
      simp only [Nat.add_zero] at c0
      have hB : Hid (Below w.heap.size w (wr.alloc (.cells (nums .u64 [x0, x1, x2, x3]).toArray 26))) := Lib.hid (HB.out.alloc HB.out.size _)
      have hO := Lib.hid (rows_below HO.out (below1 wr (.cells (nums .u64 [x0, x1, x2, x3]).toArray 26)))
      have hN := Lib.hid (reads_new wr 26 .u64 [x0, x1, x2, x3])
      have H4 := Lib.hid h4
      have hsz := HB.out.size
      clear at_ h0 h1 h2 h3 h4 hc0
      go_wp2_with (at_builtin; refine wpList_more rfl _ _ 32 rfl w.heap.size 26 _ 4 32 Tryd.underlying32 info26 rfl (by decide) u3 k (nums .u64 (backs ws m k)) rfl hO.out (some ⟨wr.heap.size, 0, none⟩) 1 1 .u64 [x0, x1, x2, x3] rfl hN.out rfl (by simp [maxLen]; omega) (by omega) (by simp; omega) ?_; intro v2 w2 o2 g2 a2)
      go_roundw
      case rel =>
        refine ⟨_, k + 1, j, rfl, by omega, by omega, Lib.hid rfl, Lib.hid (by have := HJ.out; omega), Lib.hid ?_, Lib.hid (hB.out.grown g2 hB.out.size (fun i e => (World.ownsRow.lt hO.out i e).1))⟩
        rw [backs, show m - 1 - k = j by have := HJ.out; omega, H4.out, nums_append]; exact o2
      case measure => simp [intOf]
end Go.Proofs.YtambpbgmmmiocaaDoor
