/- marked, still and apart of the law's text: answers that are memory of their own. -/
import Derived.Test.YtambpbgmmmiocaaDoorE6
import Derived.Test.YtambpbgmmmiocaaDoorG2
namespace Go.Proofs.YtambpbgmmmiocaaDoor
open Go.RowKit

def marks (n : Nat) (m : Int) : List Int := List.replicate n m
theorem marks_snoc (n : Nat) (m : Int) : marks (n + 1) m = marks n m ++ [m] := List.replicate_succ'
set_option maxHeartbeats 2000000 in
theorem marked_any (base : Nat) (v : Value) (xs : List Int) (m : Int) (w : World) (hown : Owns w base 5 v (nums .u8 xs)) (hbase : base ≤ w.heap.size) (hm : 0 ≤ m) (hm1 : m ≤ 254) (hlen : xs.length ≤ 70000000) :
    Calls Tryd.prog 33 #[v, .int .u8 m] w (Pushed base 5 v (nums .u8 (marks xs.length m ++ marks 64 (m + 1))) w) := by
  obtain ⟨L, hL⟩ : ∃ L, xs.length = L := ⟨_, rfl⟩
  rw [hL] at hlen ⊢
  obtain ⟨A, c, rfl, _⟩ := hown.reads_at hL
  have HO := Lib.hid hown
  have HL := Lib.hid hL
  clear hown hL
  have hadd : IntKind.u8.wrap (m + 1) = m + 1 := by rw [IntKind.wrap_u8]; omega
  go_enter Tryd.func33, Tryd.ntmps33
  go_wp2
  go_loopw [5] (fun i wr => ∃ k : Nat, k ≤ L ∧ i = .int .i64 k ∧ Hid (Owns wr base 5 (.slice A L c) (nums .u8 (marks k m ++ xs.drop k))) ∧ Hid (w.grownBy wr (Value.slice A L c).ownBlock)) (fun i _ => L - (intOf i).toNat)
  case atStart => exact ⟨0, by omega, rfl, Lib.hid (by simpa [marks] using HO.out), Lib.hid (only_refl _ _)⟩
  case round =>
    obtain ⟨k, hk, rfl, HW, HG⟩ := hrel
    by_cases hlt : k < L
    · have hW := HW.out
      unfold Owns at hW
      have hll : (nums .u8 (marks k m ++ xs.drop k)).length = L := by rw [nums_length, List.length_append, List.length_drop, HL.out]; simp [marks]; omega
      rw [hll] at hW
      rcases A with _ | ad
      · rcases hW.2 with ⟨_, h0⟩ | ⟨g, cap, cur, hv, _⟩
        · omega
        · cases hv
      · obtain ⟨g, rfl, hc, hf, hS⟩ := rows_store (c := c) hW (i := k) (by rw [hll]; exact hlt) (.int .u8 m)
        have hset : (nums .u8 (marks k m ++ xs.drop k)).set k (.int .u8 m) = nums .u8 (marks (k + 1) m ++ xs.drop (k + 1)) := by
          rw [nums_set, marks_snoc, List.set_append, if_neg (by simp [marks]), show k - (marks k m).length = 0 by simp [marks]]
          rw [List.drop_eq_getElem_cons (by rw [HL.out]; exact hlt), List.set_cons_zero, List.append_assoc]
          rfl
        rw [hset] at hS
        obtain ⟨u, hu⟩ : ∃ u, (nums .u8 (marks k m ++ xs.drop k))[k]? = some u := ⟨_, List.getElem?_eq_getElem (by rw [hll]; exact hlt)⟩
        rw [hu] at hc
        have HS := Lib.hid hS
        have HLL := Lib.hid hll
        clear hW hll hset hu hS
        go_wp2
        go_roundw
        case rel =>
          refine ⟨k + 1, by omega, by go_num, Lib.hid ?_, Lib.hid (only_setCell (p := ⟨g, k, none⟩) HG.out (.inl rfl) _)⟩
          unfold Owns
          rw [show (nums .u8 (marks (k + 1) m ++ xs.drop (k + 1))).length = L by rw [nums_length, List.length_append, List.length_drop, HL.out]; simp [marks]; omega]
          exact HS.out
        case measure => simp [intOf]; omega
    · obtain rfl : k = L := by omega
      have HW0 : Hid (Owns wr base 5 (.slice A k c) (nums .u8 (marks k m ++ marks 0 (m + 1)))) := Lib.hid (by
        have := HW.out
        rw [List.drop_eq_nil_of_le (by rw [HL.out]; omega)] at this
        simpa [marks] using this)
      clear HW
      go_wp2
      go_loopw [0, 6] (fun s i w2 => ∃ j : Nat, j ≤ 64 ∧ i = .int .i64 j ∧ Hid (Owns w2 base 5 s (nums .u8 (marks k m ++ marks j (m + 1)))) ∧ Hid (w.grownBy w2 (Value.slice A k c).ownBlock) ∧ Hid (s.ownBlock = (Value.slice A k c).ownBlock ∨ ∃ g, s.ownBlock = some g ∧ w.heap.size ≤ g)) (fun _ i _ => 64 - (intOf i).toNat)
      case atStart => exact ⟨0, by omega, rfl, HW0, HG, Lib.hid (.inl rfl)⟩
      case round =>
        obtain ⟨j, hj, rfl, HJ, HGJ, HB⟩ := hrel
        by_cases hjt : j < 64
        · have hll : (nums .u8 (marks k m ++ marks j (m + 1))).length = k + j := by rw [nums_length, List.length_append]; simp [marks]
          go_wp2_with (at_builtin; refine wpList_push rfl _ _ 36 rfl base 5 _ 1 Tryd.underlying36 info5 rfl u0 (nums .u8 (marks k m ++ marks j (m + 1))) rfl (HJ.out.below (below1 _ _)) ⟨wr.heap.size, 0, none⟩ (.int .u8 (m + 1)) rfl (by simp [go_sem]) rfl (by rw [hll]; omega) (by have := HGJ.out.size; simp; omega) ?_; intro v1 w3 hown1 hg1 hb1)
          go_roundw
          case rel =>
            refine ⟨j + 1, by omega, by go_num, Lib.hid ?_, Lib.hid ?_, Lib.hid ?_⟩
            · rw [marks_snoc, ← List.append_assoc, nums_append]; exact hown1
            · exact only_step HGJ.out (only_trans (only_of_below (below1 _ _) _) hg1) (by
                rcases HB.out with h | ⟨g, h, hg⟩
                · exact .inl h
                · exact .inr fun g' e => by rw [h] at e; cases e; exact hg)
            · rcases hb1 with h | h
              · rw [h]; exact HB.out
              · exact .inr ⟨_, h, by have := HGJ.out.size; simp; omega⟩
          case measure => simp [intOf]; omega
        · obtain rfl : j = 64 := by omega
          go_wp2
          go_ret
          exact ⟨_, rfl, HJ.out, HGJ.out, HB.out⟩
end Go.Proofs.YtambpbgmmmiocaaDoor
