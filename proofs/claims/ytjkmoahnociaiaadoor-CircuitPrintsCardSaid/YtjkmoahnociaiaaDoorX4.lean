/- order of circuit: what it makes of lines is an order. -/
import Derived.Test.YtjkmoahnociaiaaDoorX3
namespace Go.Proofs.YtjkmoahnociaiaaDoor
open Go.RowKit

/-- On what the t-th line leans, as places. -/
def Gt.lns (g : Gt) : List Nat := g.leans.map Int.toNat
def lnsOf (gs : List Gt) (t : Nat) : List Nat := ((gs[t]?).map Gt.lns).getD []
theorem lnsOf_at {gs : List Gt} {t : Nat} {g : Gt} (h : gs[t]? = some g) : lnsOf gs t = g.lns := by simp [lnsOf, h]
theorem leans_le (g : Gt) : g.leans.length ≤ 3 := by
  unfold Gt.leans
  split
  · simp
  · split <;> simp
/-- All lean on lines that there are. -/
def InR (gs : List Gt) : Prop := ∀ g ∈ gs, ∀ p ∈ g.leans, 0 ≤ p ∧ p < (gs.length : Int)
theorem InR.lt {gs : List Gt} (h : InR gs) : ∀ i, i < gs.length → ∀ p ∈ lnsOf gs i, p < gs.length := by
  intro i hi p hp
  obtain ⟨g, hg⟩ : ∃ g, gs[i]? = some g := ⟨_, List.getElem?_eq_getElem hi⟩
  rw [lnsOf_at hg] at hp
  obtain ⟨x, hx, rfl⟩ := List.mem_map.1 hp
  have := h g (List.mem_of_getElem? hg) x hx
  omega
theorem InR.at_ {gs : List Gt} (h : InR gs) {i j : Nat} {g : Gt} (hg : gs[i]? = some g) (hj : j < g.leans.length) : ∃ p : Nat, g.leans[j]? = some (p : Int) ∧ (lnsOf gs i)[j]? = some p ∧ p < gs.length := by
  obtain ⟨x, hx⟩ : ∃ x, g.leans[j]? = some x := ⟨_, List.getElem?_eq_getElem hj⟩
  have hb := h g (List.mem_of_getElem? hg) x (List.mem_of_getElem? hx)
  refine ⟨x.toNat, ?_, ?_, by omega⟩
  · rw [hx, Int.toNat_of_nonneg hb.1]
  · rw [lnsOf_at hg]; simp [Gt.lns, hx]
theorem lns_length {gs : List Gt} {i : Nat} {g : Gt} (hg : gs[i]? = some g) : (lnsOf gs i).length = g.leans.length := by rw [lnsOf_at hg]; simp [Gt.lns]
/-- The users, as rows. -/
def usOf (U : List (Value × List Nat)) (p : Nat) : List Nat := ((U[p]?).map (·.2)).getD []
theorem usOf_at {U : List (Value × List Nat)} {p : Nat} {u : Value × List Nat} (h : U[p]? = some u) : usOf U p = u.2 := by simp [usOf, h]
def urow (u : Value × List Nat) : RW := row1 3 u.1 (ints u.2)
/-- waits, users, the list, each line's users. -/
def orows (vw vu vl : Value) (ws : List Nat) (U : List (Value × List Nat)) (L : List Nat) (X : List RW) : List RW :=
  [row1 3 vw (ints ws), row1 23 vu (U.map (·.1)), row1 3 vl (ints L)] ++ (U.map urow ++ X)
section
variable {vw vu vl : Value} {ws : List Nat} {U : List (Value × List Nat)} {L : List Nat} {X : List RW}
theorem orows_u {p : Nat} {u : Value × List Nat} (h : U[p]? = some u) : (orows vw vu vl ws U L X)[p + 3]? = some (urow u) := by
  unfold orows
  rw [List.getElem?_append_right (by simp)]
  rw [List.getElem?_append_left (by simp; exact (List.getElem?_eq_some_iff.1 h).1)]
  simp [h]
theorem orows_x {p : Nat} {r : RW} (h : X[p]? = some r) : (orows vw vu vl ws U L X)[U.length + p + 3]? = some r := by
  unfold orows
  rw [List.getElem?_append_right (by simp), List.getElem?_append_right (by simp)]
  simp [h]
theorem orows_add (Y : List RW) : orows vw vu vl ws U L X ++ Y = orows vw vu vl ws U L (X ++ Y) := by
  unfold orows
  simp
theorem orows_setW (i x : Nat) : (orows vw vu vl ws U L X).set 0 (row1 3 vw ((ints ws).set i (.int .i64 (x : Int)))) = orows vw vu vl (ws.set i x) U L X := by
  unfold orows
  rw [ints_set]
  rfl
theorem orows_setL (vl' : Value) (x : Nat) : (orows vw vu vl ws U L X).set 2 (row1 3 vl' (ints L ++ [.int .i64 (x : Int)])) = orows vw vu vl' ws U (L ++ [x]) X := by
  unfold orows
  rw [ints_snoc]
  rfl
theorem orows_setU {p : Nat} (hp : p < U.length) (u : Value × List Nat) : ((orows vw vu vl ws U L X).set (p + 3) (urow u)).set 1 (row1 23 vu ((U.map (·.1)).set p u.1)) = orows vw vu vl ws (U.set p u) L X := by
  unfold orows
  rw [List.set_append_right _ _ (by simp)]
  simp only [List.length_cons, List.length_nil, Nat.add_sub_cancel]
  simp [List.map_set]
  rw [List.set_append_left _ _ (by simpa using hp)]
end
structure Fill1 (gs : List Gt) (ws : List Nat) (U : List (Value × List Nat)) (L : List Nat) (i j : Nat) : Prop where
  wl : ws.length = gs.length
  ul : U.length = gs.length
  wv : ∀ (t x : Nat), ws[t]? = some x → x = if t < i then (lnsOf gs t).length else if t = i then j else 0
  fl : Fill gs.length (lnsOf gs) (usOf U) i j
  le : (List.range i).filter (fun t => (lnsOf gs t).isEmpty) = L
  um : ∀ (p : Nat) (u : Value × List Nat), U[p]? = some u → u.2.length ≤ 3 * i + j
section
variable {gs : List Gt} {ws : List Nat} {U : List (Value × List Nat)} {L : List Nat} {i j : Nat}
theorem Fill1.start : Fill1 gs (List.replicate gs.length 0) (List.replicate gs.length (.slice none 0 0, [])) [] 0 0 := by
  refine ⟨by simp, by simp, fun t x hx => ?_, ?_, by simp, fun p u hu => ?_⟩
  · rw [List.getElem?_replicate] at hx
    split at hx
    · cases hx; simp
    · cases hx
  · have : usOf (List.replicate gs.length (.slice none 0 0, [])) = fun _ => [] := by
      funext p
      unfold usOf
      rw [List.getElem?_replicate]
      split <;> rfl
    rw [this]
    exact Fill.start
  · rw [List.getElem?_replicate] at hu
    split at hu
    · cases hu; simp
    · cases hu
theorem Fill1.step (h : Fill1 gs ws U L i j) {p : Nat} (hp : (lnsOf gs i)[j]? = some p) {u : Value × List Nat} (hu : U[p]? = some u) (v' : Value) : Fill1 gs (ws.set i (j + 1)) (U.set p (v', u.2 ++ [i])) L i (j + 1) := by
  have hpl := (List.getElem?_eq_some_iff.1 hu).1
  refine ⟨by rw [List.length_set]; exact h.wl, by rw [List.length_set]; exact h.ul, fun t x hx => ?_, ?_, h.le, fun q w hq => ?_⟩
  · rw [List.getElem?_set] at hx
    split at hx
    · rename_i e
      subst e
      split at hx
      · cases hx; simp
      · cases hx
    · rename_i e
      have := h.wv t x hx
      rw [this]
      by_cases e1 : t < i
      · rw [if_pos e1, if_pos e1]
      · rw [if_neg e1, if_neg e1, if_neg (fun e2 => e e2.symm), if_neg (fun e2 => e e2.symm)]
  · refine h.fl.step hp (.inl ?_) (fun q hq => ?_)
    · rw [usOf_at hu, usOf_at (List.getElem?_set_self hpl)]
    · unfold usOf
      rw [List.getElem?_set_ne (fun e => hq e.symm)]
  · rw [List.getElem?_set] at hq
    split at hq
    · cases hq
      have := h.um p u hu
      simp
      omega
    · have := h.um q w hq
      omega
theorem Fill1.next (h : Fill1 gs ws U L i j) (hj : (lnsOf gs i).length = j) (h3 : j ≤ 3) : Fill1 gs ws U (if j = 0 then L ++ [i] else L) (i + 1) 0 := by
  refine ⟨h.wl, h.ul, fun t x hx => ?_, h.fl.next (by omega), ?_, fun p u hu => by have := h.um p u hu; omega⟩
  · rw [h.wv t x hx]
    by_cases e1 : t < i
    · rw [if_pos e1, if_pos (by omega)]
    · rw [if_neg e1]
      by_cases e2 : t = i
      · subst e2
        rw [if_pos rfl, if_pos (by omega), hj]
      · rw [if_neg e2, if_neg (by omega)]
        split <;> rfl
  · rw [List.range_succ, List.filter_append, h.le]
    by_cases e : j = 0
    · rw [if_pos e]
      have : lnsOf gs i = [] := List.eq_nil_of_length_eq_zero (by omega)
      simp [this]
    · rw [if_neg e]
      have : lnsOf gs i ≠ [] := fun e2 => e (by rw [← hj, e2]; rfl)
      simp [this]
theorem Fill1.kahn (h : Fill1 gs ws U L gs.length 0) : Kahn gs.length (lnsOf gs) (usOf U) ws L 0 0 ∧ Users gs.length (lnsOf gs) (usOf U) := by
  refine ⟨Kahn.start h.wl (fun t x hx => ?_) h.le.symm, h.fl.users⟩
  have := h.wv t x hx
  rwa [if_pos (by rw [← h.wl]; exact (List.getElem?_eq_some_iff.1 hx).1)] at this
theorem Fill1.len (h : Fill1 gs ws U L i j) : L.length ≤ i := by
  rw [← h.le]
  have := List.length_filter_le (fun t => (lnsOf gs t).isEmpty) (List.range i)
  simpa using this
end
theorem info_int : (Tryd.prog.info? 3).map (fun i => (i.zero, i.size, i.bytes)) = some (some (.int .i64 0), 1, 8) := by kernel_rfl
theorem info_ints : (Tryd.prog.info? 23).map (fun i => (i.zero, i.size, i.bytes)) = some (some (.slice none 0 0), 1, 24) := by kernel_rfl
theorem info_bool : (Tryd.prog.info? 4).map (fun i => (i.zero, i.size, i.bytes)) = some (some (.bool false), 1, 1) := by kernel_rfl
theorem info_gate : (Tryd.prog.info? 46).map (fun i => (i.zero, i.size, i.bytes)) = some (some (.agg #[.int .i64 0, .string ByteArray.empty, .int .i64 0, .int .i64 0, .int .i64 0, .int .i64 0]), 6, 56) := by kernel_rfl
end Go.Proofs.YtjkmoahnociaiaaDoor
