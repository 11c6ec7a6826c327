/- recs.Sound answers soundB, at every order. -/
import Derived.Test.YtambpbgmmmiocaaDoorA0
namespace Go.Proofs.YtambpbgmmmiocaaDoor
open Go.RowKit

/-- the places that the first k numbers have met -/
def metB (l : List Int) (j : Int) : Bool := l.any (fun x => x == j)
def okB (l : List Int) : Bool := l.all (fun x => decide (0 ≤ x) && decide (x ≤ 3))
def soundB (o0 o1 o2 o3 : Int) : Bool := okB [o0, o1, o2, o3] && metB [o0, o1, o2, o3] 0 && metB [o0, o1, o2, o3] 1 && metB [o0, o1, o2, o3] 2 && metB [o0, o1, o2, o3] 3

def ordV (o0 o1 o2 o3 : Int) : Value := .agg #[.int .i64 o0, .int .i64 o1, .int .i64 o2, .int .i64 o3]

/-- What the loop knows: the first k numbers are places; which places they met. -/
def Mets (l : List Int) (m0 m1 m2 m3 : Bool) : Prop := okB l = true ∧ m0 = metB l 0 ∧ m1 = metB l 1 ∧ m2 = metB l 2 ∧ m3 = metB l 3
def mset (m : Bool) (j x : Int) : Bool := m || (x == j)
theorem Mets.snoc {l : List Int} {m0 m1 m2 m3 : Bool} (h : Mets l m0 m1 m2 m3) (x : Int) (h0 : 0 ≤ x) (h1 : x ≤ 3) : Mets (l ++ [x]) (mset m0 0 x) (mset m1 1 x) (mset m2 2 x) (mset m3 3 x) := by
  obtain ⟨a, rfl, rfl, rfl, rfl⟩ := h
  refine ⟨?_, ?_, ?_, ?_, ?_⟩ <;> simp_all [okB, metB, mset]

set_option maxHeartbeats 4000000 in
theorem sound_any (o0 o1 o2 o3 : Int) (w : World) :
    Calls Tryd.prog 10 #[.agg #[.int .i64 o0, .int .i64 o1, .int .i64 o2, .int .i64 o3]] w fun e w' => e = .returned (.bool (soundB o0 o1 o2 o3)) ∧ Below w.heap.size w w' := by
  have IX : ∀ (i : Int) (x0 x1 x2 x3 y : Value) (w : World), 0 ≤ i → i < 4 → #[x0, x1, x2, x3][i.toNat]? = some y → (Instr.index 23 (.agg #[x0, x1, x2, x3]) (.int .i64 i)).run Tryd.prog w = .ok y w := by
    intro i x0 x1 x2 x3 y w h0 h1 h; exact run_index_agg w Tryd.underlying23 (isAgg3 w) (size3 w) h0 h1 h
  go_enter Tryd.func10, Tryd.ntmps10
  go_wp2
  go_loopw [7] (fun i wr => ∃ k : Nat, ∃ m0 m1 m2 m3 : Bool, k ≤ 4 ∧ i = .int .i64 k ∧
      wr = (w.alloc (Obj.cells #[Value.int IntKind.i64 o0, Value.int IntKind.i64 o1, Value.int IntKind.i64 o2, Value.int IntKind.i64 o3] 23)).alloc (Obj.cells #[Value.bool m0, Value.bool m1, Value.bool m2, Value.bool m3] 57) ∧
      Hid (Mets ([o0, o1, o2, o3].take k) m0 m1 m2 m3))
    (fun i _ => 4 - (intOf i).toNat)
  case atStart => exact ⟨0, false, false, false, false, by omega, rfl, rfl, Lib.hid ⟨rfl, rfl, rfl, rfl, rfl⟩⟩
  case round =>
    obtain ⟨k, m0, m1, m2, m3, hk, rfl, rfl, HM⟩ := hrel
    have HM0 := HM.out
    by_cases hlt : k < 4
    · obtain ⟨x, hx⟩ : ∃ x, [o0, o1, o2, o3][k]? = some x := ⟨_, List.getElem?_eq_getElem (by simpa using hlt)⟩
      have hix : ∀ w, (Instr.index 23 (.agg #[.int .i64 o0, .int .i64 o1, .int .i64 o2, .int .i64 o3]) (.int .i64 k)).run Tryd.prog w = .ok (.int .i64 x) w := fun w => by
        refine IX _ _ _ _ _ _ w (by omega) (by omega) ?_
        match k, hlt, hx with
        | 0, _, hx | 1, _, hx | 2, _, hx | 3, _, hx => simp at hx; subst hx; rfl
      have htk : Hid ([o0, o1, o2, o3].take (k + 1) = [o0, o1, o2, o3].take k ++ [x]) := Lib.hid (by rw [List.take_add_one, hx]; rfl)
      have HX := Lib.hid hx
      clear hx HM IX
      by_cases h : 0 ≤ x ∧ x ≤ 3
      · obtain ⟨h1, h2⟩ := h
        have HM1 := HM0.snoc x h1 h2
        rw [← htk.out] at HM1
        clear HM0
        obtain rfl | rfl | rfl | rfl : x = 0 ∨ x = 1 ∨ x = 2 ∨ x = 3 := by omega
        all_goals
          simp [mset] at HM1
          have HM1 := Lib.hid HM1
          go_wp2
          go_roundw
          case rel => exact ⟨k + 1, _, _, _, _, by omega, by go_num, rfl, HM1⟩
          case measure => simp [intOf]; omega
      · have hno : Hid (soundB o0 o1 o2 o3 = false) := Lib.hid (by
          have hm : x ∈ [o0, o1, o2, o3] := List.mem_of_getElem? HX.out
          have : okB [o0, o1, o2, o3] = false := by
            unfold okB; rw [List.all_eq_false]; exact ⟨x, hm, by simp; omega⟩
          unfold soundB; rw [this]; rfl)
        by_cases h1 : 0 ≤ x
        · have h2 : 3 < x := by omega
          clear h HM0
          go_wp2
          go_ret
          exact ⟨ret_bool hno.out.symm, below2 _ _ _⟩
        · have h2 : x < 0 := by omega
          clear h HM0 h1
          go_wp2
          go_ret
          exact ⟨ret_bool hno.out.symm, below2 _ _ _⟩
    · obtain rfl : k = 4 := by omega
      clear HM IX
      have hs : Hid (soundB o0 o1 o2 o3 = (m0 && m1 && m2 && m3)) := Lib.hid (by
        obtain ⟨a, b, c, d, e⟩ := HM0
        simp only [List.take_succ_cons, List.take_zero] at a b c d e
        unfold soundB; rw [a, b, c, d, e]; simp)
      clear HM0
      have HE := eq_bools
      have HG := eqg57
      go_wp2
      go_ret
      exact ⟨ret_bool (by rw [hs.out]), below2 _ _ _⟩
end Go.Proofs.YtambpbgmmmiocaaDoor
