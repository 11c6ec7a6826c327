/- A line's fields, by both texts; on what a line leans. -/
import Derived.Test.YtjkmoahnociaiaaDoorX1
namespace Go.Proofs.YtjkmoahnociaiaaDoor
open Go.RowKit

def PlaceP (p n : Int) : Prop := 0 ≤ p ∧ p < n
def FieldsP (g : Gt) (n : Int) : Prop :=
  (g.kind = 1 ∧ g.op = 0 ∧ g.a = 0 ∧ g.b = 0 ∧ g.c = 0) ∨
  (g.kind = 2 ∧ 0 ≤ g.op ∧ g.op ≤ 15 ∧ PlaceP g.a n ∧ PlaceP g.b n ∧ g.c = 0) ∨
  (g.kind = 3 ∧ 0 ≤ g.op ∧ g.op ≤ 1 ∧ PlaceP g.a n ∧ g.b = 0 ∧ g.c = 0) ∨
  (g.kind = 4 ∧ g.op = 0 ∧ PlaceP g.a n ∧ PlaceP g.b n ∧ PlaceP g.c n)
open Classical in
noncomputable def fieldsB (g : Gt) (n : Int) : Bool := decide (FieldsP g n)
theorem fieldsB_iff {g : Gt} {n : Int} {b : Bool} (h : b = true ↔ FieldsP g n) : fieldsB g n = b := by
  unfold fieldsB
  rw [Bool.eq_iff_iff, h]
  simp
set_option maxRecDepth 100000 in
set_option maxHeartbeats 4000000 in
theorem fields_any (g : Gt) (n : Int) (w : World) :
    Calls Tryd.prog 30 #[g.agg, .int .i64 n] w fun e w' => e = .returned (.bool (fieldsB g n)) ∧ Below w.heap.size w w' := by
  obtain ⟨kind, name, op, a, b, c⟩ := g
  unfold Gt.agg
  dsimp only
  by_cases k1 : kind = 1
  · subst k1
    go_enter Tryd.func30, Tryd.ntmps30
    go_wp2_with (go_in)
    all_goals
      go_ret
      refine ⟨ret_bool ?_, below2 _ _ _⟩
      symm
      refine fieldsB_iff ?_
      unfold FieldsP PlaceP
      dsimp only
      simp
      try omega
  by_cases k2 : kind = 2
  · subst k2
    go_enter Tryd.func30, Tryd.ntmps30
    go_wp2_with (go_in)
    all_goals
      go_ret
      refine ⟨ret_bool ?_, below2 _ _ _⟩
      symm
      refine fieldsB_iff ?_
      unfold FieldsP PlaceP
      dsimp only
      simp
      try omega
  by_cases k3 : kind = 3
  · subst k3
    go_enter Tryd.func30, Tryd.ntmps30
    go_wp2_with (go_in)
    all_goals
      go_ret
      refine ⟨ret_bool ?_, below2 _ _ _⟩
      symm
      refine fieldsB_iff ?_
      unfold FieldsP PlaceP
      dsimp only
      simp
      try omega
  by_cases k4 : kind = 4
  · subst k4
    go_enter Tryd.func30, Tryd.ntmps30
    go_wp2_with (go_in)
    all_goals
      go_ret
      refine ⟨ret_bool ?_, below2 _ _ _⟩
      symm
      refine fieldsB_iff ?_
      unfold FieldsP PlaceP
      dsimp only
      simp
      try omega
  have e1 : (kind == 1) = false := by simpa using k1
  have e2 : (kind == 2) = false := by simpa using k2
  have e3 : (kind == 3) = false := by simpa using k3
  have e4 : (kind == 4) = false := by simpa using k4
  have HN : Hid (fieldsB ⟨kind, name, op, a, b, c⟩ n = false) := Lib.hid (fieldsB_iff (by unfold FieldsP; simp [k1, k2, k3, k4]))
  clear k1 k2 k3 k4
  go_enter Tryd.func30, Tryd.ntmps30
  go_wp2_with (go_in)
  go_ret
  exact ⟨ret_bool HN.out.symm, below2 _ _ _⟩
open Classical in
noncomputable def fldB (v : Int) (used : Bool) (n : Int) : Bool := decide ((used = true ∧ PlaceP v n) ∨ (used = false ∧ v = 0))
theorem field_any (v n : Int) (used : Bool) (w : World) :
    Calls Tryd.prog 53 #[.int .i64 v, .bool used, .int .i64 n] w fun e w' => e = .returned (.bool (fldB v used n)) ∧ w' = w := by
  cases used
  all_goals
    go_enter Tryd.func53, Tryd.ntmps53
    go_wp2
    all_goals
      go_ret
      refine ⟨ret_bool ?_, rfl⟩
      rw [Bool.eq_iff_iff]
      simp only [fldB, decide_eq_true_eq, PlaceP]
      simp
      try omega
set_option maxRecDepth 100000 in
set_option maxHeartbeats 4000000 in
theorem formedLine_any (g : Gt) (n : Int) (w : World) :
    Calls Tryd.prog 33 #[g.agg, .int .i64 n] w fun e w' => e = .returned (.bool (fieldsB g n)) ∧ Below w.heap.size w w' := by
  obtain ⟨kind, name, op, a, b, c⟩ := g
  unfold Gt.agg
  dsimp only
  have CF := Lib.hid (fun v used w => field_any v n used w)
  by_cases h0 : kind < 1 ∨ 4 < kind ∨ op < 0
  · have HN : Hid (fieldsB ⟨kind, name, op, a, b, c⟩ n = false) := Lib.hid (fieldsB_iff (by unfold FieldsP; simp; omega))
    go_enter Tryd.func33, Tryd.ntmps33
    go_wp2_with (go_at_call 53; with_reducible refine (CF.out _ _ _).mono ?_; rintro e w' ⟨rfl, rfl⟩)
    all_goals
      first
        | omega
        | (go_ret; exact ⟨ret_bool HN.out.symm, below1 _ _⟩)
  have q0 : 0 ≤ op := by omega
  by_cases k1 : kind = 1
  · subst k1
    have HF : Hid (fieldsB ⟨1, name, op, a, b, c⟩ n = true ↔ (op ≤ 0 ∧ fldB a false n = true ∧ fldB b false n = true ∧ fldB c false n = true)) := Lib.hid (by
      simp only [fieldsB, fldB, decide_eq_true_eq, FieldsP, PlaceP]
      simp
      omega)
    have Fa := CF.out a false; have Fb := CF.out b false; have Fc := CF.out c false
    generalize fldB a false n = fa at *
    generalize fldB b false n = fb at *
    generalize fldB c false n = fc at *
    clear CF
    go_enter Tryd.func33, Tryd.ntmps33
    go_wp2_with (first
      | (go_at_call 53; with_reducible refine (Fa _).mono ?_; rintro e w' ⟨rfl, rfl⟩)
      | (go_at_call 53; with_reducible refine (Fb _).mono ?_; rintro e w' ⟨rfl, rfl⟩)
      | (go_at_call 53; with_reducible refine (Fc _).mono ?_; rintro e w' ⟨rfl, rfl⟩))
    all_goals
      go_ret
      refine ⟨ret_bool ?_, below1 _ _⟩
      rw [Bool.eq_iff_iff, HF.out]
      first
        | (simp_all; done)
        | (simp; intro; omega)
  by_cases k2 : kind = 2
  · subst k2
    have HF : Hid (fieldsB ⟨2, name, op, a, b, c⟩ n = true ↔ (op ≤ 15 ∧ fldB a true n = true ∧ fldB b true n = true ∧ fldB c false n = true)) := Lib.hid (by
      simp only [fieldsB, fldB, decide_eq_true_eq, FieldsP, PlaceP]
      simp
      omega)
    have Fa := CF.out a true; have Fb := CF.out b true; have Fc := CF.out c false
    generalize fldB a true n = fa at *
    generalize fldB b true n = fb at *
    generalize fldB c false n = fc at *
    clear CF
    go_enter Tryd.func33, Tryd.ntmps33
    go_wp2_with (first
      | (go_at_call 53; with_reducible refine (Fa _).mono ?_; rintro e w' ⟨rfl, rfl⟩)
      | (go_at_call 53; with_reducible refine (Fb _).mono ?_; rintro e w' ⟨rfl, rfl⟩)
      | (go_at_call 53; with_reducible refine (Fc _).mono ?_; rintro e w' ⟨rfl, rfl⟩))
    all_goals
      go_ret
      refine ⟨ret_bool ?_, below1 _ _⟩
      rw [Bool.eq_iff_iff, HF.out]
      first
        | (simp_all; done)
        | (simp; intro; omega)
  by_cases k3 : kind = 3
  · subst k3
    have HF : Hid (fieldsB ⟨3, name, op, a, b, c⟩ n = true ↔ (op ≤ 1 ∧ fldB a true n = true ∧ fldB b false n = true ∧ fldB c false n = true)) := Lib.hid (by
      simp only [fieldsB, fldB, decide_eq_true_eq, FieldsP, PlaceP]
      simp
      omega)
    have Fa := CF.out a true; have Fb := CF.out b false; have Fc := CF.out c false
    generalize fldB a true n = fa at *
    generalize fldB b false n = fb at *
    generalize fldB c false n = fc at *
    clear CF
    go_enter Tryd.func33, Tryd.ntmps33
    go_wp2_with (first
      | (go_at_call 53; with_reducible refine (Fa _).mono ?_; rintro e w' ⟨rfl, rfl⟩)
      | (go_at_call 53; with_reducible refine (Fb _).mono ?_; rintro e w' ⟨rfl, rfl⟩)
      | (go_at_call 53; with_reducible refine (Fc _).mono ?_; rintro e w' ⟨rfl, rfl⟩))
    all_goals
      go_ret
      refine ⟨ret_bool ?_, below1 _ _⟩
      rw [Bool.eq_iff_iff, HF.out]
      first
        | (simp_all; done)
        | (simp; intro; omega)
  by_cases k4 : kind = 4
  · subst k4
    have HF : Hid (fieldsB ⟨4, name, op, a, b, c⟩ n = true ↔ (op ≤ 0 ∧ fldB a true n = true ∧ fldB b true n = true ∧ fldB c true n = true)) := Lib.hid (by
      simp only [fieldsB, fldB, decide_eq_true_eq, FieldsP, PlaceP]
      simp
      omega)
    have Fa := CF.out a true; have Fb := CF.out b true; have Fc := CF.out c true
    generalize fldB a true n = fa at *
    generalize fldB b true n = fb at *
    generalize fldB c true n = fc at *
    clear CF
    go_enter Tryd.func33, Tryd.ntmps33
    go_wp2_with (first
      | (go_at_call 53; with_reducible refine (Fa _).mono ?_; rintro e w' ⟨rfl, rfl⟩)
      | (go_at_call 53; with_reducible refine (Fb _).mono ?_; rintro e w' ⟨rfl, rfl⟩)
      | (go_at_call 53; with_reducible refine (Fc _).mono ?_; rintro e w' ⟨rfl, rfl⟩))
    all_goals
      go_ret
      refine ⟨ret_bool ?_, below1 _ _⟩
      rw [Bool.eq_iff_iff, HF.out]
      first
        | (simp_all; done)
        | (simp; intro; omega)
  omega
end Go.Proofs.YtjkmoahnociaiaaDoor
