/- A line's fields, by both texts; on what a line leans. -/
import Derived.Test.YtjkmoahnociaiaaDoorX1
namespace Go.Proofs.YtjkmoahnociaiaaDoor
open Go.RowKit

def PlaceP (p n : Int) : Prop := 0 ≤ p ∧ p < n
def FieldsP (g : Gt) (n : Int) : Prop :=
  (g.kind = 1 ∧ g.op = 0 ∧ g.a = 0 ∧ g.b = 0 ∧ g.c = 0) ∨
  (g.kind = 2 ∧ 0 ≤ g.op ∧ g.op ≤ 15 ∧ PlaceP g.a n ∧ PlaceP g.b n ∧ g.c = 0) ∨
  (g.kind = 3 ∧ 0 ≤ g.op ∧ g.op ≤ 1 ∧ PlaceP g.a n ∧ g.b = 0 ∧ g.c = 0) ∨
  (g.kind = 4 ∧ g.op = 0 ∧ PlaceP g.a n ∧ PlaceP g.b n ∧ PlaceP g.c n)
open Classical in
noncomputable def fieldsB (g : Gt) (n : Int) : Bool := decide (FieldsP g n)
theorem fieldsB_iff {g : Gt} {n : Int} {b : Bool} (h : b = true ↔ FieldsP g n) : fieldsB g n = b := by
  unfold fieldsB
  rw [Bool.eq_iff_iff, h]
  simp
set_option maxRecDepth 100000 in
set_option maxHeartbeats 4000000 in
theorem fields_any (g : Gt) (n : Int) (w : World) :
    Calls Tryd.prog 30 #[g.agg, .int .i64 n] w fun e w' => e = .returned (.bool (fieldsB g n)) ∧ Below w.heap.size w w' := by
  obtain ⟨kind, name, op, a, b, c⟩ := g
  unfold Gt.agg
  dsimp only
  by_cases k1 : kind = 1
  · subst k1
    go_enter Tryd.func30, Tryd.ntmps30
    go_wp2_with (go_in)
    all_goals
      go_ret
      refine ⟨ret_bool ?_, below2 _ _ _⟩
      symm
      refine fieldsB_iff ?_
      unfold FieldsP PlaceP
      dsimp only
      simp
      try omega
  by_cases k2 : kind = 2
  · subst k2
    go_enter Tryd.func30, Tryd.ntmps30
    go_wp2_with (go_in)
    all_goals
      go_ret
      refine ⟨ret_bool ?_, below2 _ _ _⟩
      symm
      refine fieldsB_iff ?_
      unfold FieldsP PlaceP
      dsimp only
      simp
      try omega
  by_cases k3 : kind = 3
  · subst k3
    go_enter Tryd.func30, Tryd.ntmps30
    go_wp2_with (go_in)
    all_goals
      go_ret
      refine ⟨ret_bool ?_, below2 _ _ _⟩
      symm
      refine fieldsB_iff ?_
      unfold FieldsP PlaceP
      dsimp only
      simp
      try omega
  by_cases k4 : kind = 4
  · subst k4
    go_enter Tryd.func30, Tryd.ntmps30
    go_wp2_with (go_in)
    all_goals
      go_ret
      refine ⟨ret_bool ?_, below2 _ _ _⟩
      symm
      refine fieldsB_iff ?_
      unfold FieldsP PlaceP
      dsimp only
      simp
      try omega
  have e1 : (kind == 1) = false := by simpa using k1
  have e2 : (kind == 2) = false := by simpa using k2
  have e3 : (kind == 3) = false := by simpa using k3
  have e4 : (kind == 4) = false := by simpa using k4
  have HN : Hid (fieldsB ⟨kind, name, op, a, b, c⟩ n = false) := Lib.hid (fieldsB_iff (by unfold FieldsP; simp [k1, k2, k3, k4]))
  clear k1 k2 k3 k4
  go_enter Tryd.func30, Tryd.ntmps30
  go_wp2_with (go_in)
  go_ret
  exact ⟨ret_bool HN.out.symm, below2 _ _ _⟩
open Classical in
noncomputable def fldB (v : Int) (used : Bool) (n : Int) : Bool := decide ((used = true ∧ PlaceP v n) ∨ (used = false ∧ v = 0))
theorem field_any (v n : Int) (used : Bool) (w : World) :
    Calls Tryd.prog 53 #[.int .i64 v, .bool used, .int .i64 n] w fun e w' => e = .returned (.bool (fldB v used n)) ∧ w' = w := by
  cases used
  all_goals
    go_enter Tryd.func53, Tryd.ntmps53
    go_wp2
    all_goals
      go_ret
      refine ⟨ret_bool ?_, rfl⟩
      rw [Bool.eq_iff_iff]
      simp only [fldB, decide_eq_true_eq, PlaceP]
      simp
      try omega
set_option maxRecDepth 100000 in
set_option maxHeartbeats 4000000 in
theorem formedLine_any (g : Gt) (n : Int) (w : World) :
    Calls Tryd.prog 33 #[g.agg, .int .i64 n] w fun e w' => e = .returned (.bool (fieldsB g n)) ∧ Below w.heap.size w w' := by
  obtain ⟨kind, name, op, a, b, c⟩ := g
  unfold Gt.agg
  dsimp only
  have CF := Lib.hid (fun v used w => field_any v n used w)
  by_cases h0 : kind < 1 ∨ 4 < kind ∨ op < 0
  · have HN : Hid (fieldsB ⟨kind, name, op, a, b, c⟩ n = false) := Lib.hid (fieldsB_iff (by unfold FieldsP; simp; omega))
    go_enter Tryd.func33, Tryd.ntmps33
    go_wp2_with (go_at_call 53; with_reducible refine (CF.out _ _ _).mono ?_; rintro e w' ⟨rfl, rfl⟩)
    all_goals
      first
        | omega
        | (go_ret; exact ⟨ret_bool HN.out.symm, below1 _ _⟩)
  have q0 : 0 ≤ op := by omega
  by_cases k1 : kind = 1
  · subst k1
    have HF : Hid (fieldsB ⟨1, name, op, a, b, c⟩ n = true ↔ (op ≤ 0 ∧ fldB a false n = true ∧ fldB b false n = true ∧ fldB c false n = true)) := Lib.hid (by
      simp only [fieldsB, fldB, decide_eq_true_eq, FieldsP, PlaceP]
      simp
      omega)
    have Fa := CF.out a false; have Fb := CF.out b false; have Fc := CF.out c false
    generalize fldB a false n = fa at *
    generalize fldB b false n = fb at *
    generalize fldB c false n = fc at *
    clear CF
    go_enter Tryd.func33, Tryd.ntmps33
    go_wp2_with (first
      | (go_at_call 53; with_reducible refine (Fa _).mono ?_; rintro e w' ⟨rfl, rfl⟩)
      | (go_at_call 53; with_reducible refine (Fb _).mono ?_; rintro e w' ⟨rfl, rfl⟩)
      | (go_at_call 53; with_reducible refine (Fc _).mono ?_; rintro e w' ⟨rfl, rfl⟩))
    all_goals
      go_ret
      refine ⟨ret_bool ?_, below1 _ _⟩
      rw [Bool.eq_iff_iff, HF.out]
      first
        | (simp_all; done)
        | (simp; intro; omega)
  by_cases k2 : kind = 2
  · subst k2
    have HF : Hid (fieldsB ⟨2, name, op, a, b, c⟩ n = true ↔ (op ≤ 15 ∧ fldB a true n = true ∧ fldB b true n = true ∧ fldB c false n = true)) := Lib.hid (by
      simp only [fieldsB, fldB, decide_eq_true_eq, FieldsP, PlaceP]
      simp
      omega)
    have Fa := CF.out a true; have Fb := CF.out b true; have Fc := CF.out c false
    generalize fldB a true n = fa at *
    generalize fldB b true n = fb at *
    generalize fldB c false n = fc at *
    clear CF
    go_enter Tryd.func33, Tryd.ntmps33
    go_wp2_with (first
      | (go_at_call 53; with_reducible refine (Fa _).mono ?_; rintro e w' ⟨rfl, rfl⟩)
      | (go_at_call 53; with_reducible refine (Fb _).mono ?_; rintro e w' ⟨rfl, rfl⟩)
      | (go_at_call 53; with_reducible refine (Fc _).mono ?_; rintro e w' ⟨rfl, rfl⟩))
    all_goals
      go_ret
      refine ⟨ret_bool ?_, below1 _ _⟩
      rw [Bool.eq_iff_iff, HF.out]
      first
        | (simp_all; done)
        | (simp; intro; omega)
  by_cases k3 : kind = 3
  · subst k3
    have HF : Hid (fieldsB ⟨3, name, op, a, b, c⟩ n = true ↔ (op ≤ 1 ∧ fldB a true n = true ∧ fldB b false n = true ∧ fldB c false n = true)) := Lib.hid (by
      simp only [fieldsB, fldB, decide_eq_true_eq, FieldsP, PlaceP]
      simp
      omega)
    have Fa := CF.out a true; have Fb := CF.out b false; have Fc := CF.out c false
    generalize fldB a true n = fa at *
    generalize fldB b false n = fb at *
    generalize fldB c false n = fc at *
    clear CF
    go_enter Tryd.func33, Tryd.ntmps33
    go_wp2_with (first
      | (go_at_call 53; with_reducible refine (Fa _).mono ?_; rintro e w' ⟨rfl, rfl⟩)
      | (go_at_call 53; with_reducible refine (Fb _).mono ?_; rintro e w' ⟨rfl, rfl⟩)
      | (go_at_call 53; with_reducible refine (Fc _).mono ?_; rintro e w' ⟨rfl, rfl⟩))
    all_goals
      go_ret
      refine ⟨ret_bool ?_, below1 _ _⟩
      rw [Bool.eq_iff_iff, HF.out]
      first
        | (simp_all; done)
        | (simp; intro; omega)
  by_cases k4 : kind = 4
  · subst k4
    have HF : Hid (fieldsB ⟨4, name, op, a, b, c⟩ n = true ↔ (op ≤ 0 ∧ fldB a true n = true ∧ fldB b true n = true ∧ fldB c true n = true)) := Lib.hid (by
      simp only [fieldsB, fldB, decide_eq_true_eq, FieldsP, PlaceP]
      simp
      omega)
    have Fa := CF.out a true; have Fb := CF.out b true; have Fc := CF.out c true
    generalize fldB a true n = fa at *
    generalize fldB b true n = fb at *
    generalize fldB c true n = fc at *
    clear CF
    go_enter Tryd.func33, Tryd.ntmps33
    go_wp2_with (first
      | (go_at_call 53; with_reducible refine (Fa _).mono ?_; rintro e w' ⟨rfl, rfl⟩)
      | (go_at_call 53; with_reducible refine (Fb _).mono ?_; rintro e w' ⟨rfl, rfl⟩)
      | (go_at_call 53; with_reducible refine (Fc _).mono ?_; rintro e w' ⟨rfl, rfl⟩))
    all_goals
      go_ret
      refine ⟨ret_bool ?_, below1 _ _⟩
      rw [Bool.eq_iff_iff, HF.out]
      first
        | (simp_all; done)
        | (simp; intro; omega)
  omega
end Go.Proofs.YtjkmoahnociaiaaDoor
/- On what a line leans, by both texts. -/
namespace Go.Proofs.YtjkmoahnociaiaaDoor
open Go.RowKit

def Gt.arr (g : Gt) : List Int := if g.kind = 2 then [g.a, g.b, 0] else if g.kind = 4 then [g.a, g.b, g.c] else [0, 0, 0]
theorem blk_new2 (w : World) (o : Obj) (t : TypeId) (l : List Value) : Blk ((w.alloc o).alloc (.cells l.toArray t)) (w.heap.size + 1) t l := by
  have := Blk.new (w.alloc o) t l
  simpa using this
/-- A list of numbers that the call made. -/
def NewInts (w : World) (l : List Int) (e : Ending) (w' : World) : Prop := ∃ A c, e = .returned (.slice A l.length c) ∧ Hid (Owns w' w.heap.size 3 (.slice A l.length c) (nums .i64 l)) ∧ Below w.heap.size w w'
set_option maxHeartbeats 1000000 in
theorem leans_any (g : Gt) (w : World) : Calls Tryd.prog 47 #[g.agg] w (NewInts w g.leans) := by
  obtain ⟨kind, name, op, a, b, c⟩ := g
  unfold Gt.agg Gt.leans
  dsimp only
  by_cases k2 : kind = 2
  · subst k2
    rw [if_pos rfl]
    go_enter Tryd.func47, Tryd.ntmps47
    go_wp2
    go_ret
    exact ⟨_, _, rfl, Lib.hid (Owns.blk (l := [a, b]) (blk_new2 _ _ _ _) (by omega) rfl (by simp [maxLen])), below2 _ _ _⟩
  by_cases k4 : kind = 4
  · subst k4
    rw [if_neg (by decide), if_pos rfl]
    go_enter Tryd.func47, Tryd.ntmps47
    go_wp2
    go_ret
    exact ⟨_, _, rfl, Lib.hid (Owns.blk (l := [a, b, c]) (blk_new2 _ _ _ _) (by omega) rfl (by simp [maxLen])), below2 _ _ _⟩
  · rw [if_neg k2, if_neg k4]
    have e2 : (kind == 2) = false := by simpa using k2
    have e4 : (kind == 4) = false := by simpa using k4
    clear k2 k4
    go_enter Tryd.func47, Tryd.ntmps47
    go_wp2
    go_ret
    exact ⟨_, _, rfl, Lib.hid (owns_nil _ _ _), below1 _ _⟩
def LeansR (w : World) (g : Gt) (e : Ending) (w' : World) : Prop := e = .returned (.tuple #[.int .i64 g.leans.length, .agg (nums .i64 g.arr).toArray]) ∧ Below w.heap.size w w'
set_option maxHeartbeats 1000000 in
theorem leans_ref (g : Gt) (w : World) : Calls Tryd.prog 69 #[g.agg] w (LeansR w g) := by
  obtain ⟨kind, name, op, a, b, c⟩ := g
  unfold LeansR Gt.agg Gt.leans Gt.arr
  dsimp only
  by_cases k2 : kind = 2
  · subst k2
    rw [if_pos rfl, if_pos rfl]
    go_enter Tryd.func69, Tryd.ntmps69
    go_upto_region 3 with (fail)
    go_region_with (fail)
    all_goals
      go_wp2
      exact bodyPost_ret (v := .tuple #[.int .i64 2, .agg #[.int .i64 a, .int .i64 b, .int .i64 0]]) (by simp [results, Tryd.results69, go_sem]) rfl ⟨rfl, below_drew0 (below2 _ _ _)⟩
  by_cases k4 : kind = 4
  · subst k4
    rw [if_neg (by decide), if_pos rfl, if_neg (by decide), if_pos rfl]
    go_enter Tryd.func69, Tryd.ntmps69
    go_upto_region 5 with (fail)
    go_region_with (fail)
    all_goals
      go_wp2
      exact bodyPost_ret (v := .tuple #[.int .i64 3, .agg #[.int .i64 a, .int .i64 b, .int .i64 c]]) (by simp [results, Tryd.results69, go_sem]) rfl ⟨rfl, below_drew0 (below2 _ _ _)⟩
  · rw [if_neg k2, if_neg k4, if_neg k2, if_neg k4]
    have e2 : (kind == 2) = false := by simpa using k2
    have e4 : (kind == 4) = false := by simpa using k4
    clear k2 k4
    go_enter Tryd.func69, Tryd.ntmps69
    go_wp2
    exact bodyPost_ret (v := .tuple #[.int .i64 0, .agg #[.int .i64 0, .int .i64 0, .int .i64 0]]) (by simp [results, Tryd.results69, go_sem]) rfl ⟨rfl, below2 _ _ _⟩
end Go.Proofs.YtjkmoahnociaiaaDoor
/- order of circuit: what it makes of lines is an order. -/
namespace Go.Proofs.YtjkmoahnociaiaaDoor
open Go.RowKit

/-- On what the t-th line leans, as places. -/
def Gt.lns (g : Gt) : List Nat := g.leans.map Int.toNat
def lnsOf (gs : List Gt) (t : Nat) : List Nat := ((gs[t]?).map Gt.lns).getD []
theorem lnsOf_at {gs : List Gt} {t : Nat} {g : Gt} (h : gs[t]? = some g) : lnsOf gs t = g.lns := by simp [lnsOf, h]
theorem leans_le (g : Gt) : g.leans.length ≤ 3 := by
  unfold Gt.leans
  split
  · simp
  · split <;> simp
/-- All lean on lines that there are. -/
def InR (gs : List Gt) : Prop := ∀ g ∈ gs, ∀ p ∈ g.leans, 0 ≤ p ∧ p < (gs.length : Int)
theorem InR.lt {gs : List Gt} (h : InR gs) : ∀ i, i < gs.length → ∀ p ∈ lnsOf gs i, p < gs.length := by
  intro i hi p hp
  obtain ⟨g, hg⟩ : ∃ g, gs[i]? = some g := ⟨_, List.getElem?_eq_getElem hi⟩
  rw [lnsOf_at hg] at hp
  obtain ⟨x, hx, rfl⟩ := List.mem_map.1 hp
  have := h g (List.mem_of_getElem? hg) x hx
  omega
theorem InR.at_ {gs : List Gt} (h : InR gs) {i j : Nat} {g : Gt} (hg : gs[i]? = some g) (hj : j < g.leans.length) : ∃ p : Nat, g.leans[j]? = some (p : Int) ∧ (lnsOf gs i)[j]? = some p ∧ p < gs.length := by
  obtain ⟨x, hx⟩ : ∃ x, g.leans[j]? = some x := ⟨_, List.getElem?_eq_getElem hj⟩
  have hb := h g (List.mem_of_getElem? hg) x (List.mem_of_getElem? hx)
  refine ⟨x.toNat, ?_, ?_, by omega⟩
  · rw [hx, Int.toNat_of_nonneg hb.1]
  · rw [lnsOf_at hg]; simp [Gt.lns, hx]
theorem lns_length {gs : List Gt} {i : Nat} {g : Gt} (hg : gs[i]? = some g) : (lnsOf gs i).length = g.leans.length := by rw [lnsOf_at hg]; simp [Gt.lns]
/-- The users, as rows. -/
def usOf (U : List (Value × List Nat)) (p : Nat) : List Nat := ((U[p]?).map (·.2)).getD []
theorem usOf_at {U : List (Value × List Nat)} {p : Nat} {u : Value × List Nat} (h : U[p]? = some u) : usOf U p = u.2 := by simp [usOf, h]
def urow (u : Value × List Nat) : RW := row1 3 u.1 (ints u.2)
/-- waits, users, the list, each line's users. -/
def orows (vw vu vl : Value) (ws : List Nat) (U : List (Value × List Nat)) (L : List Nat) (X : List RW) : List RW :=
  [row1 3 vw (ints ws), row1 23 vu (U.map (·.1)), row1 3 vl (ints L)] ++ (U.map urow ++ X)
section
variable {vw vu vl : Value} {ws : List Nat} {U : List (Value × List Nat)} {L : List Nat} {X : List RW}
theorem orows_u {p : Nat} {u : Value × List Nat} (h : U[p]? = some u) : (orows vw vu vl ws U L X)[p + 3]? = some (urow u) := by
  unfold orows
  rw [List.getElem?_append_right (by simp)]
  rw [List.getElem?_append_left (by simp; exact (List.getElem?_eq_some_iff.1 h).1)]
  simp [h]
theorem orows_x {p : Nat} {r : RW} (h : X[p]? = some r) : (orows vw vu vl ws U L X)[U.length + p + 3]? = some r := by
  unfold orows
  rw [List.getElem?_append_right (by simp), List.getElem?_append_right (by simp)]
  simp [h]
theorem orows_add (Y : List RW) : orows vw vu vl ws U L X ++ Y = orows vw vu vl ws U L (X ++ Y) := by
  unfold orows
  simp
theorem orows_setW (i x : Nat) : (orows vw vu vl ws U L X).set 0 (row1 3 vw ((ints ws).set i (.int .i64 (x : Int)))) = orows vw vu vl (ws.set i x) U L X := by
  unfold orows
  rw [ints_set]
  rfl
theorem orows_setL (vl' : Value) (x : Nat) : (orows vw vu vl ws U L X).set 2 (row1 3 vl' (ints L ++ [.int .i64 (x : Int)])) = orows vw vu vl' ws U (L ++ [x]) X := by
  unfold orows
  rw [ints_snoc]
  rfl
theorem orows_setU {p : Nat} (hp : p < U.length) (u : Value × List Nat) : ((orows vw vu vl ws U L X).set (p + 3) (urow u)).set 1 (row1 23 vu ((U.map (·.1)).set p u.1)) = orows vw vu vl ws (U.set p u) L X := by
  unfold orows
  rw [List.set_append_right _ _ (by simp)]
  simp only [List.length_cons, List.length_nil, Nat.add_sub_cancel]
  simp [List.map_set]
  rw [List.set_append_left _ _ (by simpa using hp)]
end
structure Fill1 (gs : List Gt) (ws : List Nat) (U : List (Value × List Nat)) (L : List Nat) (i j : Nat) : Prop where
  wl : ws.length = gs.length
  ul : U.length = gs.length
  wv : ∀ (t x : Nat), ws[t]? = some x → x = if t < i then (lnsOf gs t).length else if t = i then j else 0
  fl : Fill gs.length (lnsOf gs) (usOf U) i j
  le : (List.range i).filter (fun t => (lnsOf gs t).isEmpty) = L
  um : ∀ (p : Nat) (u : Value × List Nat), U[p]? = some u → u.2.length ≤ 3 * i + j
section
variable {gs : List Gt} {ws : List Nat} {U : List (Value × List Nat)} {L : List Nat} {i j : Nat}
theorem Fill1.start : Fill1 gs (List.replicate gs.length 0) (List.replicate gs.length (.slice none 0 0, [])) [] 0 0 := by
  refine ⟨by simp, by simp, fun t x hx => ?_, ?_, by simp, fun p u hu => ?_⟩
  · rw [List.getElem?_replicate] at hx
    split at hx
    · cases hx; simp
    · cases hx
  · have : usOf (List.replicate gs.length (.slice none 0 0, [])) = fun _ => [] := by
      funext p
      unfold usOf
      rw [List.getElem?_replicate]
      split <;> rfl
    rw [this]
    exact Fill.start
  · rw [List.getElem?_replicate] at hu
    split at hu
    · cases hu; simp
    · cases hu
theorem Fill1.step (h : Fill1 gs ws U L i j) {p : Nat} (hp : (lnsOf gs i)[j]? = some p) {u : Value × List Nat} (hu : U[p]? = some u) (v' : Value) : Fill1 gs (ws.set i (j + 1)) (U.set p (v', u.2 ++ [i])) L i (j + 1) := by
  have hpl := (List.getElem?_eq_some_iff.1 hu).1
  refine ⟨by rw [List.length_set]; exact h.wl, by rw [List.length_set]; exact h.ul, fun t x hx => ?_, ?_, h.le, fun q w hq => ?_⟩
  · rw [List.getElem?_set] at hx
    split at hx
    · rename_i e
      subst e
      split at hx
      · cases hx; simp
      · cases hx
    · rename_i e
      have := h.wv t x hx
      rw [this]
      by_cases e1 : t < i
      · rw [if_pos e1, if_pos e1]
      · rw [if_neg e1, if_neg e1, if_neg (fun e2 => e e2.symm), if_neg (fun e2 => e e2.symm)]
  · refine h.fl.step hp (.inl ?_) (fun q hq => ?_)
    · rw [usOf_at hu, usOf_at (List.getElem?_set_self hpl)]
    · unfold usOf
      rw [List.getElem?_set_ne (fun e => hq e.symm)]
  · rw [List.getElem?_set] at hq
    split at hq
    · cases hq
      have := h.um p u hu
      simp
      omega
    · have := h.um q w hq
      omega
theorem Fill1.next (h : Fill1 gs ws U L i j) (hj : (lnsOf gs i).length = j) (h3 : j ≤ 3) : Fill1 gs ws U (if j = 0 then L ++ [i] else L) (i + 1) 0 := by
  refine ⟨h.wl, h.ul, fun t x hx => ?_, h.fl.next (by omega), ?_, fun p u hu => by have := h.um p u hu; omega⟩
  · rw [h.wv t x hx]
    by_cases e1 : t < i
    · rw [if_pos e1, if_pos (by omega)]
    · rw [if_neg e1]
      by_cases e2 : t = i
      · subst e2
        rw [if_pos rfl, if_pos (by omega), hj]
      · rw [if_neg e2, if_neg (by omega)]
        split <;> rfl
  · rw [List.range_succ, List.filter_append, h.le]
    by_cases e : j = 0
    · rw [if_pos e]
      have : lnsOf gs i = [] := List.eq_nil_of_length_eq_zero (by omega)
      simp [this]
    · rw [if_neg e]
      have : lnsOf gs i ≠ [] := fun e2 => e (by rw [← hj, e2]; rfl)
      simp [this]
theorem Fill1.kahn (h : Fill1 gs ws U L gs.length 0) : Kahn gs.length (lnsOf gs) (usOf U) ws L 0 0 ∧ Users gs.length (lnsOf gs) (usOf U) := by
  refine ⟨Kahn.start h.wl (fun t x hx => ?_) h.le.symm, h.fl.users⟩
  have := h.wv t x hx
  rwa [if_pos (by rw [← h.wl]; exact (List.getElem?_eq_some_iff.1 hx).1)] at this
theorem Fill1.len (h : Fill1 gs ws U L i j) : L.length ≤ i := by
  rw [← h.le]
  have := List.length_filter_le (fun t => (lnsOf gs t).isEmpty) (List.range i)
  simpa using this
end
theorem info_int : (Tryd.prog.info? 3).map (fun i => (i.zero, i.size, i.bytes)) = some (some (.int .i64 0), 1, 8) := by kernel_rfl
theorem info_ints : (Tryd.prog.info? 23).map (fun i => (i.zero, i.size, i.bytes)) = some (some (.slice none 0 0), 1, 24) := by kernel_rfl
theorem info_bool : (Tryd.prog.info? 4).map (fun i => (i.zero, i.size, i.bytes)) = some (some (.bool false), 1, 1) := by kernel_rfl
theorem info_gate : (Tryd.prog.info? 46).map (fun i => (i.zero, i.size, i.bytes)) = some (some (.agg #[.int .i64 0, .string ByteArray.empty, .int .i64 0, .int .i64 0, .int .i64 0, .int .i64 0]), 6, 56) := by kernel_rfl
end Go.Proofs.YtjkmoahnociaiaaDoor
