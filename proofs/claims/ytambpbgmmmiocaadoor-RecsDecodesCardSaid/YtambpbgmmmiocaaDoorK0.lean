/- Rows of the call's own that share no memory, kept together. -/
import Derived.Test.YtambpbgmmmiocaaDoorS1
namespace Go.Proofs.YtambpbgmmmiocaaDoor
open Go.RowKit

/-- A row: its elements' type and size, its value, its length, its cells. -/
structure RW where
  e : TypeId
  size : Nat
  v : Value
  n : Nat
  xs : List Value
def RW.own (r : RW) (w : World) (base : Nat) : Prop := w.ownsRow base r.e r.size r.v r.n r.xs
/-- All these rows are the call's own, and none shares memory with another. -/
def Hold (w : World) (base : Nat) (l : List RW) : Prop :=
  (∀ (i : Nat) (r : RW), l[i]? = some r → r.own w base) ∧ ∀ (i j : Nat) (r s : RW), i ≠ j → l[i]? = some r → l[j]? = some s → Far r.v s.v
section
variable {w w' : World} {base : Nat} {l : List RW}
theorem Hold.nil (w : World) (base : Nat) : Hold w base [] := ⟨fun i r h => by simp at h, fun i j r s _ h => by simp at h⟩
theorem Hold.at_ (h : Hold w base l) {i : Nat} {r : RW} (hi : l[i]? = some r) : w.ownsRow base r.e r.size r.v r.n r.xs := h.1 i r hi
theorem Hold.below (h : Hold w base l) (hb : Below w.heap.size w w') : Hold w' base l := ⟨fun i r hi => rows_below (h.1 i r hi) hb, h.2⟩
theorem Hold.snoc (h : Hold w base l) {r : RW} (hr : r.own w base) (hf : ∀ (i : Nat) (s : RW), l[i]? = some s → Far s.v r.v) : Hold w base (l ++ [r]) := by
  have key : ∀ (j : Nat) (x : RW), (l ++ [r])[j]? = some x → (j = l.length ∧ x = r) ∨ (j < l.length ∧ l[j]? = some x) := fun j x hx => by
    rcases Nat.lt_trichotomy j l.length with e | e | e
    · rw [List.getElem?_append_left e] at hx; exact .inr ⟨e, hx⟩
    · subst e; simp at hx; exact .inl ⟨rfl, hx.symm⟩
    · rw [List.getElem?_append_right (by omega), List.getElem?_eq_none (by simp; omega)] at hx; cases hx
  refine ⟨fun j x hx => ?_, fun i j x y hne hx hy => ?_⟩
  · rcases key j x hx with ⟨_, e2⟩ | ⟨_, hx2⟩
    · rw [e2]; exact hr
    · exact h.1 j x hx2
  · rcases key i x hx with ⟨e1, e2⟩ | ⟨_, hx2⟩ <;> rcases key j y hy with ⟨e3, e4⟩ | ⟨_, hy2⟩
    · omega
    · rw [e2]; exact (hf j y hy2).symm
    · rw [e4]; exact hf i x hx2
    · exact h.2 i j x y hne hx2 hy2
/-- A row that a call made. -/
theorem Hold.new (h : Hold w base l) (hb : Below w.heap.size w w') (hB : base ≤ w.heap.size) {r : RW} (hr : r.own w' w.heap.size) : Hold w' base (l ++ [r]) := by
  refine (h.below hb).snoc (rows_more hr hB) fun i s hs => ?_
  rcases hv : s.v.ownBlock with _ | g
  · exact .inl hv
  · refine .inr fun e => ?_
    have h1 := (World.ownsRow.lt (h.1 i s hs) g hv).2
    have h2 := (World.ownsRow.lt hr g (e.symm.trans hv)).1
    omega
/-- A row turned, in place or into a new block. -/
theorem Hold.turn (h : Hold w base l) {i : Nat} {r : RW} (hi : l[i]? = some r) (hg : w.grownBy w' r.v.ownBlock) {r' : RW} (hr : r'.own w' base) (hn : r'.v.ownBlock = r.v.ownBlock ∨ ∃ g, r'.v.ownBlock = some g ∧ w.heap.size ≤ g) : Hold w' base (l.set i r') := by
  have hlen := (List.getElem?_eq_some_iff.1 hi).1
  have key : ∀ (j : Nat) (x : RW), (l.set i r')[j]? = some x → (j = i ∧ x = r') ∨ (j ≠ i ∧ l[j]? = some x) := fun j x hx => by
    by_cases e : j = i
    · subst e
      rw [List.getElem?_set_self hlen] at hx
      exact .inl ⟨rfl, (Option.some.inj hx).symm⟩
    · rw [List.getElem?_set_ne (fun e2 => e e2.symm)] at hx
      exact .inr ⟨e, hx⟩
  have far : ∀ (j : Nat) (x : RW), j ≠ i → l[j]? = some x → Far r'.v x.v := fun j x hne hx => by
    have hf := h.2 i j r x (fun e => hne e.symm) hi hx
    rcases hn with hn | ⟨g, hn, hg⟩
    · unfold Far; rw [hn]; exact hf
    · refine .inr fun e => ?_
      rw [hn] at e
      have := (World.ownsRow.lt (h.1 j x hx) g e.symm).2
      omega
  refine ⟨fun j x hx => ?_, fun j k x y hne hx hy => ?_⟩
  · rcases key j x hx with ⟨_, e2⟩ | ⟨hj, hx2⟩
    · rw [e2]; exact hr
    · refine World.ownsRow.kept (h.1 j x hx2) hg ?_
      rcases (h.2 i j r x (fun e => hj e.symm) hi hx2).symm with hf | hf
      · exact .inl hf
      · exact .inr hf
  · rcases key j x hx with ⟨e1, e2⟩ | ⟨hj, hx2⟩ <;> rcases key k y hy with ⟨e3, e4⟩ | ⟨hk, hy2⟩
    · omega
    · rw [e2]; exact far k y hk hy2
    · rw [e4]; exact (far j x hj hx2).symm
    · exact h.2 j k x y hne hx2 hy2
end
/-- What turned a row of the call's own, seen from the world in which the whole began. -/
theorem below_turn {w0 w w' : World} {e : TypeId} {size n : Nat} {v : Value} {xs : List Value} (hb : Below w0.heap.size w0 w) (ho : w.ownsRow w0.heap.size e size v n xs) (hg : w.grownBy w' v.ownBlock) : Below w0.heap.size w0 w' :=
  hb.grown hg hb.size fun g hv => (World.ownsRow.lt ho g hv).1
theorem hold_same {w : World} {base : Nat} {l : List RW} (h : Hold w base l) {i j : Nat} {A B : Option Addr} {n c d : Nat} {ws : List Int} (hi : l[i]? = some ⟨26, 4, .slice A n c, n, nums .u64 ws⟩) (hj : l[j]? = some ⟨26, 4, .slice B n d, n, nums .u64 ws⟩) (hl : ws.length = n * 4) (hn : n ≤ 140737488355328) :
    Calls Tryd.prog 18 #[.slice A n c, .slice B n d] w fun e w' => e = .returned (.bool true) ∧ Hold w' base l ∧ Below w.heap.size w w' :=
  (same_any A B n c d ws w (rows_read (h.at_ hi)) (rows_read (h.at_ hj)) hl hn).mono fun e w' ⟨he, hb⟩ => ⟨he, h.below hb, hb⟩
theorem hold_scored {w0 w : World} {l : List RW} (h : Hold w w0.heap.size l) (hb : Below w0.heap.size w0 w) {i n : Nat} {v : Value} {xs : List Int} (m : Int) (hi : l[i]? = some ⟨26, 4, v, n, nums .u64 xs⟩) (hm : 0 ≤ m) (hm1 : m ≤ 254) (hlen : n ≤ 70000000) :
    Calls Tryd.prog 27 #[v, .int .u64 m] w fun e w' => ∃ A c, e = .returned (.slice A (n + 8) c) ∧ Hold w' w0.heap.size (l.set i ⟨26, 4, .slice A (n + 8) c, n + 8, nums .u64 (ms n m ++ gs 8 m)⟩) ∧ Below w0.heap.size w0 w' :=
  (scored_any w0.heap.size v n xs m w (h.at_ hi) hb.size hm hm1 hlen).mono fun e w' ⟨sv, he, ho, hg, hn⟩ => by
    obtain ⟨A, c, rfl, _⟩ := rows_reads ho
    exact ⟨A, c, he, h.turn hi hg (r' := ⟨26, 4, .slice A (n + 8) c, n + 8, nums .u64 (ms n m ++ gs 8 m)⟩) ho hn, below_turn hb (h.at_ hi) hg⟩
theorem hold_stands {w : World} {base : Nat} {l : List RW} (h : Hold w base l) {i : Nat} {A : Option Addr} {n c : Nat} {m : Int} (hi : l[i]? = some ⟨26, 4, .slice A (n + 8) c, n + 8, nums .u64 (ms n m ++ gs 8 m)⟩) (hm : 0 ≤ m) (hm1 : m ≤ 254) (hn : n ≤ 70000000) :
    Calls Tryd.prog 28 #[.slice A (n + 8) c, .int .i64 n, .int .u64 m] w fun e w' => e = .returned (.bool true) ∧ Hold w' base l ∧ Below w.heap.size w w' :=
  (stands_any A c n m w (rows_read (h.at_ hi)) hm hm1 hn).mono fun e w' ⟨he, hb⟩ => ⟨he, h.below hb, hb⟩
end Go.Proofs.YtambpbgmmmiocaaDoor
