/- Lines of a circuit and circuits as they lie in memory; names; on what a line leans. -/
import Derived.Test.YtjkmoahnociaiaaDoorK0
import Derived.Test.YtjkmoahnociaiaaDoorKT
namespace Go.Proofs.YtjkmoahnociaiaaDoor
open Go.RowKit

/-- A line of a circuit: what its cells say. -/
structure Gt where
  kind : Int
  name : ByteArray
  op : Int
  a : Int
  b : Int
  c : Int
def Gt.cells (g : Gt) : List Value := [.int .i64 g.kind, .string g.name, .int .i64 g.op, .int .i64 g.a, .int .i64 g.b, .int .i64 g.c]
def Gt.agg (g : Gt) : Value := .agg #[.int .i64 g.kind, .string g.name, .int .i64 g.op, .int .i64 g.a, .int .i64 g.b, .int .i64 g.c]
def Gt.leans (g : Gt) : List Int := if g.kind = 2 then [g.a, g.b] else if g.kind = 4 then [g.a, g.b, g.c] else []
def gcells (gs : List Gt) : List Value := gs.flatMap Gt.cells
theorem gcells_length : ∀ gs : List Gt, (gcells gs).length = gs.length * 6
  | [] => rfl
  | g :: l => by
    have := gcells_length l
    simp [gcells, Gt.cells] at this ⊢
    omega
theorem gcells_cons (g : Gt) (l : List Gt) : gcells (g :: l) = g.cells ++ gcells l := by simp [gcells]
theorem gcells_append (l m : List Gt) : gcells (l ++ m) = gcells l ++ gcells m := by simp [gcells]
theorem gcells_get : ∀ {gs : List Gt} {i : Nat} {g : Gt}, gs[i]? = some g → ∀ (j : Nat), j < 6 → (gcells gs)[i * 6 + j]? = g.cells[j]?
  | [], i, g, h, _, _ => by simp at h
  | x :: l, 0, g, h, j, hj => by
    simp at h
    subst h
    rw [gcells_cons, List.getElem?_append_left (by simp [Gt.cells]; omega)]
    simp
  | x :: l, i + 1, g, h, j, hj => by
    rw [gcells_cons, List.getElem?_append_right (by simp [Gt.cells]; omega)]
    have := gcells_get (gs := l) (i := i) (g := g) (by simpa using h) j hj
    rw [← this]
    congr 1
    simp [Gt.cells]
    omega
theorem gcells_one {gs : List Gt} {u : Value} (h : u ∈ gcells gs) : u.oneCell' = true := by
  simp only [gcells, List.mem_flatMap] at h
  obtain ⟨g, _, hu⟩ := h
  simp [Gt.cells] at hu
  rcases hu with rfl | rfl | rfl | rfl | rfl | rfl <;> rfl
/-- The six cells of a line at an address. -/
structure GCells (w : World) (b o : Nat) (g : Gt) : Prop where
  c0 : w.cell? ⟨b, o, none⟩ = some (.int .i64 g.kind)
  c1 : w.cell? ⟨b, o + 1, none⟩ = some (.string g.name)
  c2 : w.cell? ⟨b, o + 2, none⟩ = some (.int .i64 g.op)
  c3 : w.cell? ⟨b, o + 3, none⟩ = some (.int .i64 g.a)
  c4 : w.cell? ⟨b, o + 4, none⟩ = some (.int .i64 g.b)
  c5 : w.cell? ⟨b, o + 5, none⟩ = some (.int .i64 g.c)
section
variable {w w' : World} {A : Option Addr} {gs : List Gt}
theorem greads_at (h : CReads w A (gcells gs)) {i : Nat} {g : Gt} (hg : gs[i]? = some g) : ∃ b o, A = some ⟨b, o, none⟩ ∧ GCells w b (o + i * 6) g := by
  have hlt := (List.getElem?_eq_some_iff.1 hg).1
  obtain ⟨b, o, e, hc⟩ := h (by rw [gcells_length]; omega)
  have key : ∀ j, j < 6 → ∀ v, g.cells[j]? = some v → w.cell? ⟨b, o + (i * 6 + j), none⟩ = some v := fun j hj v hv => hc _ _ (by rw [gcells_get hg j hj]; exact hv)
  refine ⟨b, o, e, ⟨?_, ?_, ?_, ?_, ?_, ?_⟩⟩
  · exact key 0 (by omega) _ rfl
  · exact key 1 (by omega) _ rfl
  · exact key 2 (by omega) _ rfl
  · exact key 3 (by omega) _ rfl
  · exact key 4 (by omega) _ rfl
  · exact key 5 (by omega) _ rfl
theorem GCells.below {b o : Nat} {g : Gt} (h : GCells w b o g) (hb : Below w.heap.size w w') : GCells w' b o g :=
  ⟨cell_kept hb h.c0, cell_kept hb h.c1, cell_kept hb h.c2, cell_kept hb h.c3, cell_kept hb h.c4, cell_kept hb h.c5⟩
end
theorem gblk {w : World} {b : Nat} {t : TypeId} {g : Gt} (h : Blk w b t g.cells) : GCells w b 0 g :=
  ⟨h.cell 0, h.cell 1, h.cell 2, h.cell 3, h.cell 4, h.cell 5⟩

/-! Names. -/
def LetP (c : Int) : Prop := (97 ≤ c ∧ c ≤ 122) ∨ (65 ≤ c ∧ c ≤ 90) ∨ c = 95
def RestP (c : Int) : Prop := LetP c ∨ c = 46 ∨ (48 ≤ c ∧ c ≤ 57)
def ChP (s : ByteArray) (j : Nat) : Prop := ∀ h : j < s.size, (j = 0 ∧ LetP (s[j].toNat : Int)) ∨ (j ≠ 0 ∧ RestP (s[j].toNat : Int))
def NameP (s : ByteArray) : Prop := 1 ≤ s.size ∧ s.size ≤ 32 ∧ ∀ j, ChP s j
open Classical in
noncomputable def nameB (s : ByteArray) : Bool := decide (NameP s)
theorem nameB_true {s : ByteArray} (h : NameP s) : nameB s = true := by simp [nameB, h]
theorem nameB_false {s : ByteArray} (h : ¬ NameP s) : nameB s = false := by simp [nameB, h]
open Classical in
noncomputable def letB (c : Int) : Bool := decide (LetP c)
theorem letB_true {c : Int} (h : LetP c) : letB c = true := by simp [letB, h]
theorem letB_false {c : Int} (h : ¬ LetP c) : letB c = false := by simp [letB, h]

theorem letter_any (c : Nat) (w : World) (hc : c < 256) :
    Calls Tryd.prog 52 #[.int .u8 (c : Int)] w fun e w' => e = .returned (.bool (letB (c : Int))) ∧ w' = w := by
  have hc0 : (0 : Int) ≤ (c : Int) := by omega
  have hc1 : (c : Int) < 256 := by omega
  obtain ⟨x, hx⟩ : ∃ x : Int, (c : Int) = x := ⟨_, rfl⟩
  rw [hx] at hc0 hc1 ⊢
  clear hx hc
  go_enter Tryd.func52, Tryd.ntmps52
  go_wp2
  all_goals
    go_ret
    refine ⟨ret_bool ?_, rfl⟩
    rw [Bool.eq_iff_iff]
    simp only [letB, decide_eq_true_eq]
    unfold LetP
    simp
    try omega
end Go.Proofs.YtjkmoahnociaiaaDoor
