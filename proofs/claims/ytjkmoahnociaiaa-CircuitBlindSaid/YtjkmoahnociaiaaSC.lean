/- alone: lists that nobody has touched. -/
import Derived.Test.YtjkmoahnociaiaaSB
namespace Go.Proofs.Ytjkmoahnociaiaa
open Go.RowKit

/-- A list of truths in a row of the call's own. -/
structure LR where
  A : Option Addr
  c : Nat
  xs : List Bool
def LR.v (r : LR) : Value := .slice r.A r.xs.length r.c
def LR.row (r : LR) : RW := row1 4 r.v (bools r.xs)
def LR.no (r : LR) : LR := { r with xs := r.xs.map (!·) }
def flipK (R : List LR) (i : Nat) : List LR := (R.take i).map LR.no ++ R.drop i
theorem flipK_zero (R : List LR) : flipK R 0 = R := by simp [flipK]
theorem flipK_length (R : List LR) (i : Nat) : (flipK R i).length = R.length := by simp [flipK]; omega
theorem flipK_all {R : List LR} {n : Nat} (h : R.length = n) : flipK R n = R.map LR.no := by subst h; simp [flipK]
theorem flipK_lt {R : List LR} {i j : Nat} {r : LR} (hr : R[j]? = some r) (h : j < i) : (flipK R i)[j]? = some r.no := by
  have hj := (List.getElem?_eq_some_iff.1 hr).1
  unfold flipK
  rw [List.getElem?_append_left (by simp; omega), List.getElem?_map, List.getElem?_take, if_pos h, hr]
  rfl
theorem flipK_ge {R : List LR} {i j : Nat} {r : LR} (hr : R[j]? = some r) (h : i ≤ j) : (flipK R i)[j]? = some r := by
  have hj := (List.getElem?_eq_some_iff.1 hr).1
  have hl : ((R.take i).map LR.no).length = i := by rw [List.length_map, List.length_take]; omega
  unfold flipK
  rw [List.getElem?_append_right (by omega), hl, List.getElem?_drop, show i + (j - i) = j by omega]
  exact hr
theorem flipK_succ {R : List LR} {i : Nat} {r : LR} (hr : R[i]? = some r) : flipK R (i + 1) = (flipK R i).set i r.no := by
  have hi := (List.getElem?_eq_some_iff.1 hr).1
  have hr2 : R[i] = r := (List.getElem?_eq_some_iff.1 hr).2
  have hl : ((R.take i).map LR.no).length = i := by rw [List.length_map, List.length_take]; omega
  unfold flipK
  rw [List.set_append_right _ _ (by omega), hl, Nat.sub_self, List.drop_eq_getElem_cons hi, List.set_cons_zero, List.take_add_one, hr, List.map_append]
  simp
/-- A slice that reads as these cells, in a block of this type. -/
def RdT (w : World) (A : Option Addr) (e : TypeId) (xs : List Value) : Prop := 0 < xs.length → ∃ b o, A = some ⟨b, o, none⟩ ∧ Typed w b e ∧ ∀ (j : Nat) (x : Value), xs[j]? = some x → w.cell? ⟨b, o + j, none⟩ = some x
section
variable {w w' : World} {A : Option Addr} {e : TypeId} {xs : List Value}
theorem Typed.below {g : Nat} {t : TypeId} (h : Typed w g t) (hb : Below w.heap.size w w') : Typed w' g t := by
  obtain ⟨cs, h⟩ := h
  exact ⟨cs, (hb.block g (by
    rcases Nat.lt_or_ge g w.heap.size with h1 | h1
    · exact h1
    · rw [Array.getElem?_eq_none h1] at h; cases h)).trans h⟩
theorem Typed.grown {g : Nat} {t : TypeId} {r : Option Nat} (h : Typed w g t) (hb : w.grownBy w' r) (hr : some g ≠ r) : Typed w' g t := by
  obtain ⟨cs, h⟩ := h
  exact ⟨cs, (hb.block g (by
    rcases Nat.lt_or_ge g w.heap.size with h1 | h1
    · exact h1
    · rw [Array.getElem?_eq_none h1] at h; cases h) hr).trans h⟩
theorem RdT.below (h : RdT w A e xs) (hb : Below w.heap.size w w') : RdT w' A e xs := fun hn => by
  obtain ⟨b, o, h1, h2, h3⟩ := h hn
  exact ⟨b, o, h1, h2.below hb, fun j x hx => cell_kept hb (h3 j x hx)⟩
theorem RdT.aside (h : RdT w A e xs) {r : Option Nat} (hb : w.grownBy w' r) {t : TypeId} (hr : ∀ g, r = some g → Typed w g t) (ht : e ≠ t) : RdT w' A e xs := fun hn => by
  obtain ⟨b, o, h1, h2, h3⟩ := h hn
  have hne : some b ≠ r := fun e2 => h2.ne (hr b e2.symm) ht rfl
  exact ⟨b, o, h1, h2.grown hb hne, fun j x hx => hb.cell (h3 j x hx) hne⟩
theorem RdT.at_ (h : RdT w A e xs) {i : Nat} {x : Value} (hx : xs[i]? = some x) : ∃ b o, A = some ⟨b, o, none⟩ ∧ w.cell? ⟨b, o + i, none⟩ = some x := by
  obtain ⟨b, o, h1, _, h3⟩ := h (by have := (List.getElem?_eq_some_iff.1 hx).1; omega)
  exact ⟨b, o, h1, h3 i x hx⟩
end
/-- Each wanted list is a row beside, of the same truths. -/
def Wants (R : List LR) (X : List RW) (wants : List Value) : Prop := ∀ (i : Nat) (r : LR), R[i]? = some r → ∃ (A' : Option Addr) (c' j : Nat), wants[i]? = some (.slice A' r.xs.length c') ∧ X[j]? = some (row1 4 (.slice A' r.xs.length c') (bools r.xs))
section
variable {w w' : World} {base : Nat} {R : List LR} {X : List RW}
theorem Hold.lrow (h : Hold w base (R.map LR.row ++ X)) {i : Nat} {r : LR} (hr : R[i]? = some r) : Owns w base 4 (.slice r.A r.xs.length r.c) (bools r.xs) := by
  have hi := (List.getElem?_eq_some_iff.1 hr).1
  exact h.owns (i := i) (by rw [List.getElem?_append_left (by simpa using hi), List.getElem?_map, hr]; rfl)
theorem Hold.xrow (h : Hold w base (R.map LR.row ++ X)) {j : Nat} {v : Value} {xs : List Value} (hx : X[j]? = some (row1 4 v xs)) : Owns w base 4 v xs :=
  h.owns (i := R.length + j) (by rw [List.getElem?_append_right (by simp), List.length_map, Nat.add_sub_cancel_left]; exact hx)
theorem owns_read {w : World} {base : Nat} {A : Option Addr} {n c : Nat} {xs : List Bool} (h : Owns w base 4 (.slice A n c) (bools xs)) (hn : xs.length = n) : CReads w A (bools xs) := by
  unfold Owns at h
  rw [bools_length, hn] at h
  exact rows_read h (by decide)
/-- A row flipped. -/
theorem Hold.flip (h : Hold w base (R.map LR.row ++ X)) {i : Nat} {r : LR} (hr : R[i]? = some r) (ho : Owns w' base 4 (.slice r.A r.xs.length r.c) (bools (r.xs.map (!·)))) (hg : w.grownBy w' (r.A.map (·.block))) : Hold w' base ((R.set i r.no).map LR.row ++ X) := by
  have hi := (List.getElem?_eq_some_iff.1 hr).1
  have hro : r.no.row = row1 4 (.slice r.A r.xs.length r.c) (bools (r.xs.map (!·))) := by simp [LR.row, LR.no, LR.v]
  have hv : (LR.row r).v.ownBlock = r.A.map (·.block) := by
    unfold LR.row LR.v row1
    cases r.A <;> rfl
  have := h.turn (i := i) (r := r.row) (by rw [List.getElem?_append_left (by simpa using hi), List.getElem?_map, hr]; rfl) (w' := w') (by rw [hv]; exact hg) (r' := r.no.row) (by rw [hro]; exact ho) (.inl (by rw [hro]; unfold LR.row LR.v row1; rfl))
  rw [List.set_append_left _ _ (by simpa using hi), ← List.map_set] at this
  exact this
end
end Go.Proofs.Ytjkmoahnociaiaa
