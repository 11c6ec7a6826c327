/- Rows of the call's own that share no memory, kept together. -/
import Derived.Test.YtjkmoahnociaiaaDoorG3
namespace Go.Proofs.YtjkmoahnociaiaaDoor
open Go.RowKit

/-- A row: its elements' type and size, its value, its length, its cells. -/
structure RW where
  e : TypeId
  size : Nat
  v : Value
  n : Nat
  xs : List Value
def RW.own (r : RW) (w : World) (base : Nat) : Prop := w.ownsRow base r.e r.size r.v r.n r.xs
/-- All these rows are the call's own, and none shares memory with another. -/
def Hold (w : World) (base : Nat) (l : List RW) : Prop :=
  (∀ (i : Nat) (r : RW), l[i]? = some r → r.own w base) ∧ ∀ (i j : Nat) (r s : RW), i ≠ j → l[i]? = some r → l[j]? = some s → Far r.v s.v
section
variable {w w' : World} {base : Nat} {l : List RW}
theorem Hold.nil (w : World) (base : Nat) : Hold w base [] := ⟨fun i r h => by simp at h, fun i j r s _ h => by simp at h⟩
theorem Hold.at_ (h : Hold w base l) {i : Nat} {r : RW} (hi : l[i]? = some r) : w.ownsRow base r.e r.size r.v r.n r.xs := h.1 i r hi
theorem Hold.below (h : Hold w base l) (hb : Below w.heap.size w w') : Hold w' base l := ⟨fun i r hi => rows_below (h.1 i r hi) hb, h.2⟩
theorem Hold.snoc (h : Hold w base l) {r : RW} (hr : r.own w base) (hf : ∀ (i : Nat) (s : RW), l[i]? = some s → Far s.v r.v) : Hold w base (l ++ [r]) := by
  have key : ∀ (j : Nat) (x : RW), (l ++ [r])[j]? = some x → (j = l.length ∧ x = r) ∨ (j < l.length ∧ l[j]? = some x) := fun j x hx => by
    rcases Nat.lt_trichotomy j l.length with e | e | e
    · rw [List.getElem?_append_left e] at hx; exact .inr ⟨e, hx⟩
    · subst e; simp at hx; exact .inl ⟨rfl, hx.symm⟩
    · rw [List.getElem?_append_right (by omega), List.getElem?_eq_none (by simp; omega)] at hx; cases hx
  refine ⟨fun j x hx => ?_, fun i j x y hne hx hy => ?_⟩
  · rcases key j x hx with ⟨_, e2⟩ | ⟨_, hx2⟩
    · rw [e2]; exact hr
    · exact h.1 j x hx2
  · rcases key i x hx with ⟨e1, e2⟩ | ⟨_, hx2⟩ <;> rcases key j y hy with ⟨e3, e4⟩ | ⟨_, hy2⟩
    · omega
    · rw [e2]; exact (hf j y hy2).symm
    · rw [e4]; exact hf i x hx2
    · exact h.2 i j x y hne hx2 hy2
/-- A row that a call made. -/
theorem Hold.new (h : Hold w base l) (hb : Below w.heap.size w w') (hB : base ≤ w.heap.size) {r : RW} (hr : r.own w' w.heap.size) : Hold w' base (l ++ [r]) := by
  refine (h.below hb).snoc (rows_more hr hB) fun i s hs => ?_
  rcases hv : s.v.ownBlock with _ | g
  · exact .inl hv
  · refine .inr fun e => ?_
    have h1 := (World.ownsRow.lt (h.1 i s hs) g hv).2
    have h2 := (World.ownsRow.lt hr g (e.symm.trans hv)).1
    omega
/-- A row turned, in place or into a new block. -/
theorem Hold.turn (h : Hold w base l) {i : Nat} {r : RW} (hi : l[i]? = some r) (hg : w.grownBy w' r.v.ownBlock) {r' : RW} (hr : r'.own w' base) (hn : r'.v.ownBlock = r.v.ownBlock ∨ ∃ g, r'.v.ownBlock = some g ∧ w.heap.size ≤ g) : Hold w' base (l.set i r') := by
  have hlen := (List.getElem?_eq_some_iff.1 hi).1
  have key : ∀ (j : Nat) (x : RW), (l.set i r')[j]? = some x → (j = i ∧ x = r') ∨ (j ≠ i ∧ l[j]? = some x) := fun j x hx => by
    by_cases e : j = i
    · subst e
      rw [List.getElem?_set_self hlen] at hx
      exact .inl ⟨rfl, (Option.some.inj hx).symm⟩
    · rw [List.getElem?_set_ne (fun e2 => e e2.symm)] at hx
      exact .inr ⟨e, hx⟩
  have far : ∀ (j : Nat) (x : RW), j ≠ i → l[j]? = some x → Far r'.v x.v := fun j x hne hx => by
    have hf := h.2 i j r x (fun e => hne e.symm) hi hx
    rcases hn with hn | ⟨g, hn, hg⟩
    · unfold Far; rw [hn]; exact hf
    · refine .inr fun e => ?_
      rw [hn] at e
      have := (World.ownsRow.lt (h.1 j x hx) g e.symm).2
      omega
  refine ⟨fun j x hx => ?_, fun j k x y hne hx hy => ?_⟩
  · rcases key j x hx with ⟨_, e2⟩ | ⟨hj, hx2⟩
    · rw [e2]; exact hr
    · refine World.ownsRow.kept (h.1 j x hx2) hg ?_
      rcases (h.2 i j r x (fun e => hj e.symm) hi hx2).symm with hf | hf
      · exact .inl hf
      · exact .inr hf
  · rcases key j x hx with ⟨e1, e2⟩ | ⟨hj, hx2⟩ <;> rcases key k y hy with ⟨e3, e4⟩ | ⟨hk, hy2⟩
    · omega
    · rw [e2]; exact far k y hk hy2
    · rw [e4]; exact (far j x hj hx2).symm
    · exact h.2 j k x y hne hx2 hy2
end
/-- What turned a row of the call's own, seen from the world in which the whole began. -/
theorem below_turn {w0 w w' : World} {e : TypeId} {size n : Nat} {v : Value} {xs : List Value} (hb : Below w0.heap.size w0 w) (ho : w.ownsRow w0.heap.size e size v n xs) (hg : w.grownBy w' v.ownBlock) : Below w0.heap.size w0 w' :=
  hb.grown hg hb.size fun g hv => (World.ownsRow.lt ho g hv).1
/-- A row whose elements are of one cell. -/
def row1 (e : TypeId) (v : Value) (xs : List Value) : RW := ⟨e, 1, v, xs.length, xs⟩
section
variable {w w' : World} {base : Nat} {l : List RW} {e : TypeId} {v : Value} {xs : List Value}
theorem Hold.owns (h : Hold w base l) {i : Nat} (hi : l[i]? = some (row1 e v xs)) : Owns w base e v xs := h.1 i _ hi
theorem Hold.still (h : Hold w base l) (hg : w.grownBy w' none) : Hold w' base l :=
  ⟨fun i r hi => World.ownsRow.kept (h.1 i r hi) hg (by cases r.v.ownBlock <;> simp), h.2⟩
theorem Hold.base_ {base' : Nat} (h : Hold w base l) (hB : base' ≤ base) : Hold w base' l := ⟨fun i r hi => rows_more (h.1 i r hi) hB, h.2⟩
/-- A cell of a row, read and turned. -/
theorem Hold.cell (h : Hold w base l) {i : Nat} {A : Option Addr} {n c : Nat} (hi : l[i]? = some (row1 e (.slice A n c) xs)) {j : Nat} {u : Value} (hj : xs[j]? = some u) : ∃ g, A = some ⟨g, 0, none⟩ ∧ base ≤ g ∧ g < w.heap.size ∧ w.cell? ⟨g, j, none⟩ = some u ∧ w.frozen? ⟨g, j, none⟩ = false ∧
    ∀ u', Hold (w.setCell ⟨g, j, none⟩ u') base (l.set i (row1 e (.slice A n c) (xs.set j u'))) := by
  have ho := h.owns hi
  have hjl := (List.getElem?_eq_some_iff.1 hj).1
  have hn : n = xs.length := by
    rcases ho.2 with ⟨hv, _⟩ | ⟨g, cap, cur, hv, _⟩
    · cases hv; omega
    · cases hv; rfl
  subst hn
  rcases A with _ | A
  · rcases ho.2 with ⟨hv, h0⟩ | ⟨g, cap, cur, hv, _⟩
    · omega
    · cases hv
  · have hg0 : ∀ u', ∃ g, A = ⟨g, 0, none⟩ ∧ w.cell? ⟨g, j, none⟩ = xs[j]? ∧ w.frozen? ⟨g, j, none⟩ = false ∧ (w.setCell ⟨g, j, none⟩ u').ownsRow base e 1 (.slice (some A) xs.length c) xs.length (xs.set j u') := fun u' => rows_store ho hjl u'
    obtain ⟨g, rfl, h1, h2, _⟩ := hg0 u
    have hlt := ho.lt (g := g) rfl
    refine ⟨g, rfl, hlt.1, hlt.2, h1.trans hj, h2, fun u' => ?_⟩
    obtain ⟨g', e1, _, _, h3⟩ := hg0 u'
    cases e1
    refine h.turn hi (w' := w.setCell ⟨g, j, none⟩ u') (only_setCell (only_refl w (some g)) (.inl rfl) u') (r' := row1 e (.slice (some ⟨g, 0, none⟩) xs.length c) (xs.set j u')) ?_ (.inl rfl)
    show (w.setCell ⟨g, j, none⟩ u').ownsRow base e 1 (.slice (some ⟨g, 0, none⟩) xs.length c) (xs.set j u').length (xs.set j u')
    rw [List.length_set]
    exact h3
/-- A row grown by append. -/
theorem Hold.push (h : Hold w base l) {i : Nat} (hi : l[i]? = some (row1 e v xs)) {v' : Value} {ys : List Value} (ho : Owns w' base e v' ys) (hg : w.grownBy w' v.ownBlock) (hn : v'.ownBlock = v.ownBlock ∨ v'.ownBlock = some w.heap.size) : Hold w' base (l.set i (row1 e v' ys)) :=
  h.turn hi hg (r' := row1 e v' ys) ho (hn.imp id fun e => ⟨_, e, Nat.le_refl _⟩)
/-- A new row in a block of its own. -/
theorem Hold.made (h : Hold w base l) (hb : base ≤ w.heap.size) {n : Nat} {z : Value} (hn : n ≤ maxLen) : Hold (w.alloc (.cells (List.replicate n z).toArray e)) base (l ++ [row1 e (.slice (some ⟨w.heap.size, 0, none⟩) n n) (List.replicate n z)]) := by
  refine h.new (below1 w _) hb ?_
  show (w.alloc _).ownsRow w.heap.size e 1 _ (List.replicate n z).length (List.replicate n z)
  rw [List.length_replicate]
  exact World.ownsRow_lit w (List.replicate n z).toArray n (Nat.le_refl _) hn (by simp)
theorem Hold.nilRow (h : Hold w base l) : Hold w base (l ++ [row1 e (.slice none 0 0) []]) :=
  h.snoc (owns_nil w base e) fun _ _ _ => Far.symm (.inl rfl)
theorem below_hold {B : Nat} {a : World} (hb : Below B a w) (hB : B ≤ w.heap.size) (h : Hold w base l) (hBB : B ≤ base) {i : Nat} {r : RW} (hi : l[i]? = some r) (hg : w.grownBy w' r.v.ownBlock) : Below B a w' :=
  hb.grown hg hB fun g hv => Nat.le_trans hBB (World.ownsRow.lt (h.1 i r hi) g hv).1
end
/-- A row cut short. -/
theorem Owns.short {w : World} {base n c m : Nat} {e : TypeId} {A : Option Addr} {xs : List Value} (h : Owns w base e (.slice A n c) xs) (hm : m ≤ n) (h0 : 0 < n) : Owns w base e (.slice A m c) (xs.take m) := by
  rcases h.2 with ⟨hv, _⟩ | ⟨g, cap, cur, hv, hb, hh, hnc, hcm, hsz, htk⟩
  · cases hv; omega
  · cases hv
    have hl := h.1
    have hlen : (xs.take m).length = m := by rw [List.length_take]; omega
    refine ⟨by simp, .inr ⟨g, c, cur, by rw [hlen], hb, hh, by omega, hcm, hsz, ?_⟩⟩
    rw [hlen, Nat.mul_one, ← htk, List.take_take]
    congr 1
    omega
theorem Owns.cap {w : World} {base n c : Nat} {e : TypeId} {A : Option Addr} {xs : List Value} (h : Owns w base e (.slice A n c) xs) : n ≤ c ∧ n = xs.length := by
  rcases h.2 with ⟨hv, h0⟩ | ⟨g, cap, cur, hv, hb, hh, hnc, _⟩
  · cases hv; omega
  · cases hv; exact ⟨hnc, rfl⟩
/-- Natural numbers in a row of ints. -/
def ints (l : List Nat) : List Value := l.map fun (x : Nat) => .int .i64 (x : Int)
theorem ints_length (l : List Nat) : (ints l).length = l.length := by simp [ints]
theorem ints_get {l : List Nat} {i x : Nat} (h : l[i]? = some x) : (ints l)[i]? = some (.int .i64 (x : Int)) := by simp [ints, h]
theorem ints_set (l : List Nat) (i x : Nat) : (ints l).set i (.int .i64 (x : Int)) = ints (l.set i x) := by simp [ints, List.map_set]
theorem ints_snoc (l : List Nat) (x : Nat) : ints l ++ [.int .i64 (x : Int)] = ints (l ++ [x]) := by simp [ints]
theorem ints_rep (n x : Nat) : ints (List.replicate n x) = List.replicate n (.int .i64 (x : Int)) := by simp [ints]
end Go.Proofs.YtjkmoahnociaiaaDoor
