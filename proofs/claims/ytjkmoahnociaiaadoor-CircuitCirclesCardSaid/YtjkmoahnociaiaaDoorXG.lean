/- Cone of circuit: the walk. -/
import Derived.Test.YtjkmoahnociaiaaDoorXF
namespace Go.Proofs.YtjkmoahnociaiaaDoor
open Go.RowKit

open Classical in
noncomputable def coneB (gs : List Gt) (place i : Nat) : Bool := decide (i = place ∨ Way (lnsOf gs) place i)
theorem coneB_iff {gs : List Gt} {place i : Nat} : coneB gs place i = true ↔ i = place ∨ Way (lnsOf gs) place i := by simp [coneB]
/-- The cone of a line: itself, and all it leans on. -/
noncomputable def coneL (gs : List Gt) (place : Nat) : List Nat := (List.range gs.length).filter (coneB gs place)
open Classical in
noncomputable def coneCode (c : Ct) (place : Int) : Int := if FormedP c then if 0 ≤ place ∧ place < (c.gs.length : Int) then 0 else 1 else 144
noncomputable def coneList (c : Ct) (place : Int) : List Nat := if coneCode c place = 0 then coneL c.gs place.toNat else []
/-- What Cone answers. -/
def ConeR (w : World) (c : Ct) (place : Int) (e : Ending) (w' : World) : Prop :=
  ∃ v, e = .returned (.tuple #[v, .int .i64 (coneCode c place)]) ∧ Owns w' w.heap.size 3 v (ints (coneList c place)) ∧ Below w.heap.size w w'
section
variable {w w' : World} {base n k : Nat} {vk vl : Value} {met : List Bool} {work L : List Nat} {X : List RW}
theorem dmem_cone (w : World) (n : Nat) (hn : n ≤ maxLen) (p : Nat) (hp : p < n) : w.heap.size < (w.alloc (.cells (List.replicate n (Value.bool false)).toArray 4)).heap.size ∧ (w.alloc (.cells (List.replicate n (Value.bool false)).toArray 4)).cell? ⟨w.heap.size, p, none⟩ = some (.bool false) ∧ (w.alloc (.cells (List.replicate n (Value.bool false)).toArray 4)).frozen? ⟨w.heap.size, p, none⟩ = false ∧
    DMem (((w.alloc (.cells (List.replicate n (Value.bool false)).toArray 4)).setCell ⟨w.heap.size, p, none⟩ (.bool true)).alloc (.cells [Value.int .i64 (p : Int)].toArray 3)) w.heap.size n (.slice (some ⟨w.heap.size + 1, 0, none⟩) 1 1) ((List.replicate n false).set p true) [p] [] := by
  have h1 := (Hold.nil w w.heap.size).made (e := 4) (z := .bool false) (Nat.le_refl _) hn
  obtain ⟨g, e, _, _, h2, h3, h4⟩ := h1.cell (i := 0) rfl (j := p) (u := .bool false) (by rw [List.getElem?_replicate, if_pos hp])
  cases e
  refine ⟨by simp, h2, h3, ?_⟩
  have h5 := h4 (.bool true)
  have hsz : ((w.alloc (.cells (List.replicate n (Value.bool false)).toArray 4)).setCell ⟨w.heap.size, p, none⟩ (.bool true)).heap.size = w.heap.size + 1 := by simp [World.setCell]
  have h6 := h5.new (below1 _ (.cells [Value.int .i64 (p : Int)].toArray 3)) (by rw [hsz]; omega) (r := row1 3 (.slice (some ⟨w.heap.size + 1, 0, none⟩) 1 1) [.int .i64 (p : Int)])
    (by
      have := World.ownsRow_lit (base := w.heap.size + 1) (e := 3) (size := 1) ((w.alloc (.cells (List.replicate n (Value.bool false)).toArray 4)).setCell ⟨w.heap.size, p, none⟩ (.bool true)) [Value.int .i64 (p : Int)].toArray 1 (by rw [hsz]; omega) (by unfold maxLen; omega) (by simp)
      simpa [RW.own, row1, hsz] using this)
  unfold DMem
  rw [← bools_set, bools_rep]
  simpa [ints, row1] using h6
theorem DMem.addNil (h : DMem w base n vk met work []) : DMem w base n vk met work [row1 3 (.slice none 0 0) (ints [])] := by
  have := Hold.nilRow h (e := 3)
  rw [List.append_nil] at this
  exact this
theorem DMem.listO (h : DMem w base n vk met work [row1 3 vl (ints L)]) : Owns w base 3 vl (ints L) := Hold.owns h (i := 2) rfl
theorem DMem.listP (h : DMem w base n vk met work [row1 3 vl (ints L)]) {v' : Value} {x : Nat} (ho : Owns w' base 3 v' (ints L ++ [.int .i64 (x : Int)])) (hg : w.grownBy w' vl.ownBlock) (hn : v'.ownBlock = vl.ownBlock ∨ v'.ownBlock = some w.heap.size) : DMem w' base n vk met work [row1 3 v' (ints (L ++ [x]))] := by
  have := Hold.push h (i := 2) rfl ho hg hn
  rw [ints_snoc] at this
  exact this
end
theorem cone_take {gs : List Gt} {place : Nat} {met : List Bool} (hf : ∀ i : Nat, met[i]? = some true ↔ i = place ∨ Way (lnsOf gs) place i) {k : Nat} {x : Bool} (hx : met[k]? = some x) :
    (List.range (k + 1)).filter (coneB gs place) = (List.range k).filter (coneB gs place) ++ if x = true then [k] else [] := by
  rw [List.range_succ, List.filter_append]
  congr 1
  have h1 : coneB gs place k = x := by
    rw [Bool.eq_iff_iff, coneB_iff, ← hf k, hx]
    simp
  simp [List.filter_cons, h1]
end Go.Proofs.YtjkmoahnociaiaaDoor
