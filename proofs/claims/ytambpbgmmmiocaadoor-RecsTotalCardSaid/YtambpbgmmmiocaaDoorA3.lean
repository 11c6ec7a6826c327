/- recs.Compare answers cmp, at every order and all records, where the table of places lies as it is laid. -/
import Derived.Test.YtambpbgmmmiocaaDoorA2
import Derived.Deep.QuietTactic
import Derived.BigQuiet
namespace Go.Proofs.YtambpbgmmmiocaaDoor
open Go.RowKit

attribute [local go_sem] cell?_setCell_self

/-- The words of a record, by place. -/
def word (a0 a1 a2 a3 : Int) (p : Int) : Int := if p = 0 then a0 else if p = 1 then a1 else if p = 2 then a2 else a3
/-- The first two words that are not equal decide. -/
def cmpL : List (Int × Int) → Int
  | [] => 0
  | (x, y) :: r => if x < y then -1 else if y < x then 1 else cmpL r
/-- The places in which a comparison looks. -/
def placesOf (o0 o1 o2 o3 : Int) : List Int := if soundB o0 o1 o2 o3 = true then [o0, o1, o2, o3] else [0, 1, 2, 3]
def pairs (ps : List Int) (a0 a1 a2 a3 b0 b1 b2 b3 : Int) : List (Int × Int) := ps.map fun p => (word a0 a1 a2 a3 p, word b0 b1 b2 b3 p)
def cmp (o0 o1 o2 o3 a0 a1 a2 a3 b0 b1 b2 b3 : Int) : Int := cmpL (pairs (placesOf o0 o1 o2 o3) a0 a1 a2 a3 b0 b1 b2 b3)

theorem cmpL_eq : ∀ l : List (Int × Int), (∀ p ∈ l, p.1 = p.2) → cmpL l = 0
  | [], _ => rfl
  | (x, y) :: r, h => by
    have e : x = y := h (x, y) (by simp)
    subst e
    simp only [cmpL, Int.lt_irrefl, if_false]
    exact cmpL_eq r fun p hp => h p (List.mem_cons_of_mem _ hp)
theorem cmpL_app (l r : List (Int × Int)) (h : ∀ p ∈ l, p.1 = p.2) : cmpL (l ++ r) = cmpL r := by
  induction l with
  | nil => rfl
  | cons p l ih =>
    obtain ⟨x, y⟩ := p
    have e : x = y := h (x, y) (by simp)
    subst e
    simp only [List.cons_append, cmpL, Int.lt_irrefl, if_false]
    exact ih fun p hp => h p (List.mem_cons_of_mem _ hp)


/-- The two records lie boxed in the call's own blocks. -/
def Boxed (w wl : World) (a0 a1 a2 a3 b0 b1 b2 b3 : Int) : Prop :=
  (∀ p : Int, 0 ≤ p → p ≤ 3 → wl.cell? ⟨w.heap.size + 1, p.toNat, none⟩ = some (.int .u64 (word a0 a1 a2 a3 p))) ∧
  (∀ p : Int, 0 ≤ p → p ≤ 3 → wl.cell? ⟨w.heap.size + 1 + 1, p.toNat, none⟩ = some (.int .u64 (word b0 b1 b2 b3 p))) ∧ Below w.heap.size w wl
theorem four (p : Int) (h0 : 0 ≤ p) (h1 : p ≤ 3) : p = 0 ∨ p = 1 ∨ p = 2 ∨ p = 3 := by omega
theorem boxed_new (w : World) (o : Obj) (t : TypeId) (a0 a1 a2 a3 b0 b1 b2 b3 : Int) :
    Boxed w (((w.alloc o).alloc (.cells #[.int .u64 a0, .int .u64 a1, .int .u64 a2, .int .u64 a3] t)).alloc (.cells #[.int .u64 b0, .int .u64 b1, .int .u64 b2, .int .u64 b3] t)) a0 a1 a2 a3 b0 b1 b2 b3 := by
  refine ⟨fun p h0 h1 => ?_, fun p h0 h1 => ?_, below3 _ _ _ _⟩
  · rcases four p h0 h1 with rfl | rfl | rfl | rfl <;> simp [word, go_sem]
  · rcases four p h0 h1 with rfl | rfl | rfl | rfl <;> simp [word, go_sem]
theorem Boxed.call {w W w1 : World} {a0 a1 a2 a3 b0 b1 b2 b3 : Int} (h : Boxed w W a0 a1 a2 a3 b0 b1 b2 b3) (hs : w.heap.size + 3 ≤ W.heap.size) (hb : Below W.heap.size W w1) : Boxed w w1 a0 a1 a2 a3 b0 b1 b2 b3 :=
  ⟨fun p h0 h1 => (hb.cell (by show w.heap.size + 1 < _; omega)).trans (h.1 p h0 h1), fun p h0 h1 => (hb.cell (by show w.heap.size + 1 + 1 < _; omega)).trans (h.2.1 p h0 h1), h.2.2.trans (hb.mono (by omega))⟩
theorem Boxed.set {w W : World} {a0 a1 a2 a3 b0 b1 b2 b3 : Int} (h : Boxed w W a0 a1 a2 a3 b0 b1 b2 b3) (i : Nat) (v : Value) : Boxed w (W.setCell ⟨w.heap.size, i, none⟩ v) a0 a1 a2 a3 b0 b1 b2 b3 :=
  ⟨fun p h0 h1 => (World.cell?_setCell_other _ _ _ _ (by intro e; injection e with e; omega)).trans (h.1 p h0 h1), fun p h0 h1 => (World.cell?_setCell_other _ _ _ _ (by intro e; injection e with e; omega)).trans (h.2.1 p h0 h1), h.2.2.setCell (Nat.le_refl _) _⟩
theorem Boxed.drewN {w W : World} {a0 a1 a2 a3 b0 b1 b2 b3 : Int} (h : Boxed w W a0 a1 a2 a3 b0 b1 b2 b3) (n : Nat) : Boxed w (W.drewN n) a0 a1 a2 a3 b0 b1 b2 b3 := ⟨h.1, h.2.1, ⟨h.2.2.os, h.2.2.tape, h.2.2.output, h.2.2.size, h.2.2.block⟩⟩

/-- What the loop over the places knows behind k of them: all words so far were equal. -/
def Alike (ps : List Int) (k : Nat) (a0 a1 a2 a3 b0 b1 b2 b3 : Int) : Prop := ∀ q ∈ pairs (ps.take k) a0 a1 a2 a3 b0 b1 b2 b3, q.1 = q.2
theorem Alike.next {ps : List Int} {k : Nat} {a0 a1 a2 a3 b0 b1 b2 b3 p : Int} (h : Alike ps k a0 a1 a2 a3 b0 b1 b2 b3) (hp : ps[k]? = some p) (e : word a0 a1 a2 a3 p = word b0 b1 b2 b3 p) : Alike ps (k + 1) a0 a1 a2 a3 b0 b1 b2 b3 := by
  intro q hq
  rw [List.take_add_one, hp] at hq
  simp only [pairs, List.map_append, List.mem_append] at hq
  rcases hq with hq | hq
  · exact h q hq
  · simp at hq; subst hq; exact e
theorem Alike.now {ps : List Int} {k : Nat} {a0 a1 a2 a3 b0 b1 b2 b3 p : Int} (h : Alike ps k a0 a1 a2 a3 b0 b1 b2 b3) (hp : ps[k]? = some p) :
    cmpL (pairs ps a0 a1 a2 a3 b0 b1 b2 b3) = if word a0 a1 a2 a3 p < word b0 b1 b2 b3 p then -1 else if word b0 b1 b2 b3 p < word a0 a1 a2 a3 p then 1 else cmpL (pairs (ps.drop (k + 1)) a0 a1 a2 a3 b0 b1 b2 b3) := by
  have hl : k < ps.length := (List.getElem?_eq_some_iff.1 hp).1
  have hv : ps[k] = p := (List.getElem?_eq_some_iff.1 hp).2
  have e : ps = ps.take k ++ p :: ps.drop (k + 1) := by
    rw [← hv, ← List.drop_eq_getElem_cons hl, List.take_append_drop]
  conv => lhs; rw [e]
  simp only [pairs, List.map_append, List.map_cons]
  refine (cmpL_app _ _ h).trans ?_
  rfl
theorem Alike.all {ps : List Int} {k : Nat} {a0 a1 a2 a3 b0 b1 b2 b3 : Int} (h : Alike ps k a0 a1 a2 a3 b0 b1 b2 b3) (hk : ps.length ≤ k) : cmpL (pairs ps a0 a1 a2 a3 b0 b1 b2 b3) = 0 := by
  refine cmpL_eq _ ?_
  have := h
  unfold Alike at this
  rwa [List.take_of_length_le hk] at this

set_option maxHeartbeats 4000000 in
theorem compare_any (o0 o1 o2 o3 a0 a1 a2 a3 b0 b1 b2 b3 : Int) (w : World)
    (n0 : w.cell? ⟨0, 0, none⟩ = some (.int .i64 0)) (n1 : w.cell? ⟨0, 1, none⟩ = some (.int .i64 1)) (n2 : w.cell? ⟨0, 2, none⟩ = some (.int .i64 2)) (n3 : w.cell? ⟨0, 3, none⟩ = some (.int .i64 3)) :
    Calls Tryd.prog 12 #[.agg #[.int .i64 o0, .int .i64 o1, .int .i64 o2, .int .i64 o3], .agg #[.int .u64 a0, .int .u64 a1, .int .u64 a2, .int .u64 a3], .agg #[.int .u64 b0, .int .u64 b1, .int .u64 b2, .int .u64 b3]] w
      fun e w' => e = .returned (.int .i64 (cmp o0 o1 o2 o3 a0 a1 a2 a3 b0 b1 b2 b3)) ∧ Below w.heap.size w w' := by
  have hz0 : 0 < w.heap.size := World.block_lt_of_cell? w _ n0
  have HE := eq_recs
  have HG := eqg26
  by_cases hab : (a0 == b0 && a1 == b1 && a2 == b2 && a3 == b3) = true
  · have hz : Hid (cmp o0 o1 o2 o3 a0 a1 a2 a3 b0 b1 b2 b3 = 0) := Lib.hid (by
      simp at hab; obtain ⟨⟨⟨rfl, rfl⟩, rfl⟩, rfl⟩ := hab
      refine cmpL_eq _ fun p hp => ?_
      simp only [pairs, List.mem_map] at hp
      obtain ⟨q, _, rfl⟩ := hp
      rfl)
    go_enter Tryd.func12, Tryd.ntmps12
    go_wp2
    go_ret
    exact ⟨ret_int hz.out.symm, below3 _ _ _ _⟩
  · have hab' := Bool.eq_false_iff.2 hab
    have HE2 := eq_ords
    have HG2 := eqg23
    by_cases hnat : (o0 == 0 && o1 == 1 && o2 == 2 && o3 == 3) = true
    · have HP : Hid (placesOf o0 o1 o2 o3 = [o0, o1, o2, o3]) := Lib.hid (by
        simp at hnat; obtain ⟨⟨⟨rfl, rfl⟩, rfl⟩, rfl⟩ := hnat; rfl)
      have HR : Hid (∀ p ∈ [o0, o1, o2, o3], 0 ≤ p ∧ p ≤ 3) := Lib.hid (by
        simp at hnat; obtain ⟨⟨⟨rfl, rfl⟩, rfl⟩, rfl⟩ := hnat; simp)
      go_enter Tryd.func12, Tryd.ntmps12
      go_wp2
      go_loopw [22] (fun i wr => ∃ k : Nat, k ≤ 4 ∧ i = .int .i64 k ∧ Hid (Boxed w wr a0 a1 a2 a3 b0 b1 b2 b3) ∧ Hid (Alike [o0, o1, o2, o3] k a0 a1 a2 a3 b0 b1 b2 b3)) (fun i _ => 4 - (intOf i).toNat)
      case atStart => exact ⟨0, by omega, rfl, Lib.hid (boxed_new _ _ _ _ _ _ _ _ _ _ _), Lib.hid (by intro q hq; simp [pairs] at hq)⟩
      case round =>
        obtain ⟨k, hk, rfl, HB, HA⟩ := hrel
        by_cases hlt : k < 4
        · obtain ⟨p, hp⟩ : ∃ p, [o0, o1, o2, o3][k]? = some p := ⟨_, List.getElem?_eq_getElem (by simpa using hlt)⟩
          have hix : ∀ w, (Instr.index 23 (.agg #[.int .i64 o0, .int .i64 o1, .int .i64 o2, .int .i64 o3]) (.int .i64 k)).run Tryd.prog w = .ok (.int .i64 p) w := fun w => by
            refine run_index_agg w Tryd.underlying23 (isAgg3 w) (size3 w) (by omega) (by omega) ?_
            match k, hlt, hp with
            | 0, _, hx | 1, _, hx | 2, _, hx | 3, _, hx => simp at hx; subst hx; rfl
          have hp01 : 0 ≤ p ∧ p ≤ 3 := HR.out p (List.mem_of_getElem? hp)
          obtain ⟨hp0, hp3⟩ := hp01
          have hca := HB.out.1 p hp0 hp3
          have hcb := HB.out.2.1 p hp0 hp3
          have HN := Lib.hid (HA.out.now hp)
          have HX := Lib.hid (fun e => HA.out.next hp e)
          clear hp
          generalize word a0 a1 a2 a3 p = x at *
          generalize word b0 b1 b2 b3 p = y at *
          by_cases h1 : x < y
          · have hr : Hid (cmp o0 o1 o2 o3 a0 a1 a2 a3 b0 b1 b2 b3 = -1) := Lib.hid (by unfold cmp; rw [HP.out, HN.out, if_pos h1])
            have h1' : decide (x < y) = true := by simpa using h1
            go_wp2
            go_quiet (fail)
            go_wp2
            go_ret
            exact ⟨ret_int hr.out.symm, (HB.out.drewN _).2.2⟩
          · have h1' : decide (x < y) = false := by simpa using h1
            by_cases h2 : y < x
            · have hr : Hid (cmp o0 o1 o2 o3 a0 a1 a2 a3 b0 b1 b2 b3 = 1) := Lib.hid (by unfold cmp; rw [HP.out, HN.out, if_neg h1, if_pos h2])
              have h2' : decide (y < x) = true := by simpa using h2
              clear h1
              go_wp2
              go_quiet (fail)
              go_wp2
              go_quiet (fail)
              go_wp2
              go_ret
              exact ⟨ret_int hr.out.symm, ((HB.out.drewN _).drewN _).2.2⟩
            · have h2' : decide (y < x) = false := by simpa using h2
              have hxy : Hid (x = y) := Lib.hid (by omega)
              clear h1 h2
              go_wp2
              go_quiet (fail)
              go_wp2
              go_quiet (fail)
              go_wp2
              go_roundw
              case rel => exact ⟨k + 1, by omega, by go_num, Lib.hid (HB.out.drewN _), Lib.hid (HX.out hxy.out)⟩
              case measure => simp [intOf]; omega
        · obtain rfl : k = 4 := by omega
          have hr : Hid (cmp o0 o1 o2 o3 a0 a1 a2 a3 b0 b1 b2 b3 = 0) := Lib.hid (by unfold cmp; rw [HP.out, HA.out.all (by simp)])
          go_wp2
          go_ret
          exact ⟨ret_int hr.out.symm, HB.out.2.2⟩
    · have hnat' := Bool.eq_false_iff.2 hnat
      by_cases hs : soundB o0 o1 o2 o3 = true
      · have HP : Hid (placesOf o0 o1 o2 o3 = [o0, o1, o2, o3]) := Lib.hid (by unfold placesOf; rw [if_pos hs])
        have HR : Hid (∀ p ∈ [o0, o1, o2, o3], 0 ≤ p ∧ p ≤ 3) := Lib.hid (by
          have h := hs
          unfold soundB at h
          simp only [Bool.and_eq_true] at h
          intro p hp
          have := List.all_eq_true.1 h.1.1.1.1 p hp
          simpa using this)
        go_enter Tryd.func12, Tryd.ntmps12
        go_wp2_with (go_at_call 10; refine (sound_any _ _ _ _ _).mono ?_; rintro e w1 ⟨rfl, hb⟩; obtain ⟨hc, hf⟩ := bcell hb)
        go_loopw [22] (fun i wr => ∃ k : Nat, k ≤ 4 ∧ i = .int .i64 k ∧ Hid (Boxed w wr a0 a1 a2 a3 b0 b1 b2 b3) ∧ Hid (Alike [o0, o1, o2, o3] k a0 a1 a2 a3 b0 b1 b2 b3)) (fun i _ => 4 - (intOf i).toNat)
        case atStart => exact ⟨0, by omega, rfl, Lib.hid ((boxed_new _ _ _ _ _ _ _ _ _ _ _).call (by simp) hb), Lib.hid (by intro q hq; simp [pairs] at hq)⟩
        case round =>
          obtain ⟨k, hk, rfl, HB, HA⟩ := hrel
          by_cases hlt : k < 4
          · obtain ⟨p, hp⟩ : ∃ p, [o0, o1, o2, o3][k]? = some p := ⟨_, List.getElem?_eq_getElem (by simpa using hlt)⟩
            have hix : ∀ w, (Instr.index 23 (.agg #[.int .i64 o0, .int .i64 o1, .int .i64 o2, .int .i64 o3]) (.int .i64 k)).run Tryd.prog w = .ok (.int .i64 p) w := fun w => by
              refine run_index_agg w Tryd.underlying23 (isAgg3 w) (size3 w) (by omega) (by omega) ?_
              match k, hlt, hp with
              | 0, _, hx | 1, _, hx | 2, _, hx | 3, _, hx => simp at hx; subst hx; rfl
            have hp01 : 0 ≤ p ∧ p ≤ 3 := HR.out p (List.mem_of_getElem? hp)
            obtain ⟨hp0, hp3⟩ := hp01
            have hca := HB.out.1 p hp0 hp3
            have hcb := HB.out.2.1 p hp0 hp3
            have HN := Lib.hid (HA.out.now hp)
            have HX := Lib.hid (fun e => HA.out.next hp e)
            clear hp
            generalize word a0 a1 a2 a3 p = x at *
            generalize word b0 b1 b2 b3 p = y at *
            by_cases h1 : x < y
            · have hr : Hid (cmp o0 o1 o2 o3 a0 a1 a2 a3 b0 b1 b2 b3 = -1) := Lib.hid (by unfold cmp; rw [HP.out, HN.out, if_pos h1])
              have h1' : decide (x < y) = true := by simpa using h1
              go_wp2
              go_quiet (fail)
              go_wp2
              go_ret
              exact ⟨ret_int hr.out.symm, (HB.out.drewN _).2.2⟩
            · have h1' : decide (x < y) = false := by simpa using h1
              by_cases h2 : y < x
              · have hr : Hid (cmp o0 o1 o2 o3 a0 a1 a2 a3 b0 b1 b2 b3 = 1) := Lib.hid (by unfold cmp; rw [HP.out, HN.out, if_neg h1, if_pos h2])
                have h2' : decide (y < x) = true := by simpa using h2
                clear h1
                go_wp2
                go_quiet (fail)
                go_wp2
                go_quiet (fail)
                go_wp2
                go_ret
                exact ⟨ret_int hr.out.symm, ((HB.out.drewN _).drewN _).2.2⟩
              · have h2' : decide (y < x) = false := by simpa using h2
                have hxy : Hid (x = y) := Lib.hid (by omega)
                clear h1 h2
                go_wp2
                go_quiet (fail)
                go_wp2
                go_quiet (fail)
                go_wp2
                go_roundw
                case rel => exact ⟨k + 1, by omega, by go_num, Lib.hid (HB.out.drewN _), Lib.hid (HX.out hxy.out)⟩
                case measure => simp [intOf]; omega
          · obtain rfl : k = 4 := by omega
            have hr : Hid (cmp o0 o1 o2 o3 a0 a1 a2 a3 b0 b1 b2 b3 = 0) := Lib.hid (by unfold cmp; rw [HP.out, HA.out.all (by simp)])
            go_wp2
            go_ret
            exact ⟨ret_int hr.out.symm, HB.out.2.2⟩
      · have hs' := Bool.eq_false_iff.2 hs
        have HP : Hid (placesOf o0 o1 o2 o3 = [(0 : Int), 1, 2, 3]) := Lib.hid (by unfold placesOf; rw [if_neg hs])
        have HR : Hid (∀ p ∈ [(0 : Int), 1, 2, 3], 0 ≤ p ∧ p ≤ 3) := Lib.hid (by simp)
        go_enter Tryd.func12, Tryd.ntmps12
        go_wp2_with (go_at_call 10; refine (sound_any _ _ _ _ _).mono ?_; rintro e w1 ⟨rfl, hb⟩; obtain ⟨hc, hf⟩ := bcell hb)
        go_loopw [22] (fun i wr => ∃ k : Nat, k ≤ 4 ∧ i = .int .i64 k ∧ Hid (Boxed w wr a0 a1 a2 a3 b0 b1 b2 b3) ∧ Hid (Alike [(0 : Int), 1, 2, 3] k a0 a1 a2 a3 b0 b1 b2 b3)) (fun i _ => 4 - (intOf i).toNat)
        case atStart => exact ⟨0, by omega, rfl, Lib.hid (((((boxed_new _ _ _ _ _ _ _ _ _ _ _).call (by simp) hb).set _ _).set _ _).set _ _ |>.set _ _), Lib.hid (by intro q hq; simp [pairs] at hq)⟩
        case round =>
          obtain ⟨k, hk, rfl, HB, HA⟩ := hrel
          by_cases hlt : k < 4
          · obtain ⟨p, hp⟩ : ∃ p, [(0 : Int), 1, 2, 3][k]? = some p := ⟨_, List.getElem?_eq_getElem (by simpa using hlt)⟩
            have hix : ∀ w, (Instr.index 23 (.agg #[.int .i64 0, .int .i64 1, .int .i64 2, .int .i64 3]) (.int .i64 k)).run Tryd.prog w = .ok (.int .i64 p) w := fun w => by
              refine run_index_agg w Tryd.underlying23 (isAgg3 w) (size3 w) (by omega) (by omega) ?_
              match k, hlt, hp with
              | 0, _, hx | 1, _, hx | 2, _, hx | 3, _, hx => simp at hx; subst hx; rfl
            have hp01 : 0 ≤ p ∧ p ≤ 3 := HR.out p (List.mem_of_getElem? hp)
            obtain ⟨hp0, hp3⟩ := hp01
            have hca := HB.out.1 p hp0 hp3
            have hcb := HB.out.2.1 p hp0 hp3
            have HN := Lib.hid (HA.out.now hp)
            have HX := Lib.hid (fun e => HA.out.next hp e)
            clear hp
            generalize word a0 a1 a2 a3 p = x at *
            generalize word b0 b1 b2 b3 p = y at *
            by_cases h1 : x < y
            · have hr : Hid (cmp o0 o1 o2 o3 a0 a1 a2 a3 b0 b1 b2 b3 = -1) := Lib.hid (by unfold cmp; rw [HP.out, HN.out, if_pos h1])
              have h1' : decide (x < y) = true := by simpa using h1
              go_wp2
              go_quiet (fail)
              go_wp2
              go_ret
              exact ⟨ret_int hr.out.symm, (HB.out.drewN _).2.2⟩
            · have h1' : decide (x < y) = false := by simpa using h1
              by_cases h2 : y < x
              · have hr : Hid (cmp o0 o1 o2 o3 a0 a1 a2 a3 b0 b1 b2 b3 = 1) := Lib.hid (by unfold cmp; rw [HP.out, HN.out, if_neg h1, if_pos h2])
                have h2' : decide (y < x) = true := by simpa using h2
                clear h1
                go_wp2
                go_quiet (fail)
                go_wp2
                go_quiet (fail)
                go_wp2
                go_ret
                exact ⟨ret_int hr.out.symm, ((HB.out.drewN _).drewN _).2.2⟩
              · have h2' : decide (y < x) = false := by simpa using h2
                have hxy : Hid (x = y) := Lib.hid (by omega)
                clear h1 h2
                go_wp2
                go_quiet (fail)
                go_wp2
                go_quiet (fail)
                go_wp2
                go_roundw
                case rel => exact ⟨k + 1, by omega, by go_num, Lib.hid (HB.out.drewN _), Lib.hid (HX.out hxy.out)⟩
                case measure => simp [intOf]; omega
          · obtain rfl : k = 4 := by omega
            have hr : Hid (cmp o0 o1 o2 o3 a0 a1 a2 a3 b0 b1 b2 b3 = 0) := Lib.hid (by unfold cmp; rw [HP.out, HA.out.all (by simp)])
            go_wp2
            go_ret
            exact ⟨ret_int hr.out.symm, HB.out.2.2⟩
end Go.Proofs.YtambpbgmmmiocaaDoor
