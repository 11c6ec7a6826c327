/- Searches: what was met, and whose leans wait: their memory; comes of the document. -/
import Derived.Test.YtjkmoahnociaiaaDoorX7
namespace Go.Proofs.YtjkmoahnociaiaaDoor
open Go.RowKit

def bools (l : List Bool) : List Value := l.map Value.bool
theorem bools_length (l : List Bool) : (bools l).length = l.length := by simp [bools]
theorem bools_get {l : List Bool} {i : Nat} {x : Bool} (h : l[i]? = some x) : (bools l)[i]? = some (.bool x) := by simp [bools, h]
theorem bools_set (l : List Bool) (i : Nat) (x : Bool) : (bools l).set i (.bool x) = bools (l.set i x) := by simp [bools, List.map_set]
theorem bools_rep (n : Nat) (x : Bool) : bools (List.replicate n x) = List.replicate n (.bool x) := by simp [bools]
theorem bools_snoc (l : List Bool) (x : Bool) : bools l ++ [.bool x] = bools (l ++ [x]) := by simp [bools]
theorem Hold.swap {w : World} {base : Nat} {l : List RW} (h : Hold w base l) {i : Nat} {r r' : RW} (hi : l[i]? = some r) (ho : r'.own w base) (hv : r'.v.ownBlock = r.v.ownBlock) : Hold w base (l.set i r') :=
  h.turn hi (only_refl w _) ho (.inl hv)
/-- met, work, and rows beside. -/
def DMem (w : World) (base n : Nat) (vk : Value) (met : List Bool) (work : List Nat) (X : List RW) : Prop :=
  Hold w base ([row1 4 (.slice (some ⟨base, 0, none⟩) n n) (bools met), row1 3 vk (ints work)] ++ X)
section
variable {w w' : World} {base n k : Nat} {vk : Value} {met : List Bool} {work : List Nat} {X : List RW}
theorem dmem_start (w : World) (n : Nat) (hn : n ≤ maxLen) (p : Nat) : DMem ((w.alloc (.cells (List.replicate n (Value.bool false)).toArray 4)).alloc (.cells [Value.int .i64 (p : Int)].toArray 3)) w.heap.size n (.slice (some ⟨w.heap.size + 1, 0, none⟩) 1 1) (List.replicate n false) [p] [] := by
  have h1 := (Hold.nil w w.heap.size).made (e := 4) (z := .bool false) (Nat.le_refl _) hn
  have h2 := h1.new (below1 _ (.cells [Value.int .i64 (p : Int)].toArray 3)) (by simp) (r := row1 3 (.slice (some ⟨w.heap.size + 1, 0, none⟩) 1 1) [.int .i64 (p : Int)])
    (by
      have := World.ownsRow_lit (base := w.heap.size + 1) (e := 3) (size := 1) (w.alloc (.cells (List.replicate n (Value.bool false)).toArray 4)) [Value.int .i64 (p : Int)].toArray 1 (by simp) (by unfold maxLen; omega) (by simp)
      simpa [RW.own, row1] using this)
  unfold DMem
  rw [bools_rep]
  simpa [ints, row1] using h2
theorem DMem.below (h : DMem w base n vk met work X) (hb : Below w.heap.size w w') : DMem w' base n vk met work X := Hold.below h hb
theorem DMem.drop (h : DMem w base n vk met work X) : DMem w base n vk met work [] := by
  unfold DMem at h ⊢
  rw [List.append_nil]
  exact h.front
theorem DMem.new (h : DMem w base n vk met work []) (hb : Below w.heap.size w w') (hB : base ≤ w.heap.size) {e : TypeId} {v : Value} {xs : List Value} (ho : Owns w' w.heap.size e v xs) : DMem w' base n vk met work [row1 e v xs] := by
  have := Hold.new h hb hB (r := row1 e v xs) ho
  unfold DMem
  rw [List.append_nil] at this
  exact this
theorem DMem.metP (h : DMem w base n vk met work X) {i : Nat} {x : Bool} (hx : met[i]? = some x) : w.cell? ⟨base, i, none⟩ = some (.bool x) ∧ w.frozen? ⟨base, i, none⟩ = false ∧
    ∀ y : Bool, DMem (w.setCell ⟨base, i, none⟩ (.bool y)) base n vk (met.set i y) work X := by
  obtain ⟨g, e, _, _, h1, h2, h3⟩ := Hold.cell h (i := 0) rfl (bools_get hx)
  cases e
  refine ⟨h1, h2, fun y => ?_⟩
  have := h3 (.bool y)
  rw [bools_set] at this
  exact this
theorem DMem.owns (h : DMem w base n vk met work X) : Owns w base 3 vk (ints work) := Hold.owns h (i := 1) rfl
theorem DMem.at_ {A : Option Addr} {m c : Nat} (h : DMem w base n (.slice A m c) met work X) {j x : Nat} (hj : work[j]? = some x) : ∃ g, A = some ⟨g, 0, none⟩ ∧ w.cell? ⟨g, j, none⟩ = some (.int .i64 (x : Int)) := by
  obtain ⟨g, e, _, _, h1, _, _⟩ := Hold.cell h (i := 1) rfl (ints_get hj)
  exact ⟨g, e, h1⟩
theorem DMem.push (h : DMem w base n vk met work X) {v' : Value} {x : Nat} (ho : Owns w' base 3 v' (ints work ++ [.int .i64 (x : Int)])) (hg : w.grownBy w' vk.ownBlock) (hn : v'.ownBlock = vk.ownBlock ∨ v'.ownBlock = some w.heap.size) : DMem w' base n v' met (work ++ [x]) X := by
  have := Hold.push h (i := 1) rfl ho hg hn
  rw [ints_snoc] at this
  exact this
theorem DMem.pop {A : Option Addr} {m c p : Nat} (h : DMem w base n (.slice A (m + 1) c) met (work ++ [p]) X) (hm : work.length = m) : DMem w base n (.slice A m c) met work X := by
  have ho : Owns w base 3 (.slice A m c) (ints work) := by
    have := h.owns.short (m := m) (by omega) (by omega)
    rw [show (ints (work ++ [p])).take m = ints work by rw [← ints_snoc]; exact List.take_left' (by rw [ints_length]; exact hm)] at this
    exact this
  exact Hold.swap h (i := 1) (r' := row1 3 (.slice A m c) (ints work)) rfl ho (by cases A <;> rfl)
theorem DMem.beside {A : Option Addr} {m c : Nat} {l : List Int} (h : DMem w base n vk met work [row1 3 (.slice A m c) (nums .i64 l)]) {j : Nat} {x : Int} (hj : l[j]? = some x) : ∃ g, A = some ⟨g, 0, none⟩ ∧ w.cell? ⟨g, j, none⟩ = some (.int .i64 x) := by
  obtain ⟨g, e, _, _, h1, _, _⟩ := Hold.cell h (i := 2) rfl (j := j) (u := .int .i64 x) (by rw [nums_get, hj]; rfl)
  exact ⟨g, e, h1⟩
/-- A block of another type is none of these. -/
theorem DMem.far (h : DMem w base n vk met work X) {g : Nat} {t : TypeId} (ht : Typed w g t) (h1 : t ≠ 3) (h2 : t ≠ 4) : g ≠ base ∧ some g ≠ vk.ownBlock := by
  refine ⟨fun e => ?_, fun e => ht.ne (rows_typed (h.1 1 _ rfl) e.symm) h1 rfl⟩
  exact ht.ne (rows_typed (h.1 0 _ rfl) (g := g) (by rw [e]; rfl)) h2 rfl
end
end Go.Proofs.YtjkmoahnociaiaaDoor
