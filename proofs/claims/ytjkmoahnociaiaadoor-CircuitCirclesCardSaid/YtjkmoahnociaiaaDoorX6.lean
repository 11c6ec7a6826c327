/- Layers of the document: what it makes of lines is an order: the plain half, and its memory. -/
import Derived.Test.YtjkmoahnociaiaaDoorX5
namespace Go.Proofs.YtjkmoahnociaiaaDoor
open Go.RowKit

/-- A chain of entries: each tells who leans, and the entry ahead of it. -/
inductive Chain (nx : List Int) (us : List Nat) : Int → List Nat → Prop
  | nil : Chain nx us (-1) []
  | cons {e u : Nat} {x : Int} {l : List Nat} (h1 : nx[e]? = some x) (h2 : us[e]? = some u) (t : Chain nx us x l) : Chain nx us (e : Int) (u :: l)
theorem Chain.grow {nx : List Int} {us : List Nat} {e : Int} {l : List Nat} (h : Chain nx us e l) (a : List Int) (b : List Nat) : Chain (nx ++ a) (us ++ b) e l := by
  induction h with
  | nil => exact .nil
  | cons h1 h2 _ ih =>
    refine .cons ?_ ?_ ih
    · rw [List.getElem?_append_left (List.getElem?_eq_some_iff.1 h1).1]; exact h1
    · rw [List.getElem?_append_left (List.getElem?_eq_some_iff.1 h2).1]; exact h2
structure Fill2 (gs : List Gt) (ws : List Nat) (fs nx : List Int) (user : List Nat) (us : Nat → List Nat) (L : List Nat) (c i j : Nat) : Prop where
  wl : ws.length = gs.length
  fl : fs.length = gs.length
  nl : nx.length = user.length
  ul : user.length ≤ 3 * i + j
  wv : ∀ (t x : Nat), ws[t]? = some x → t < c → x = (lnsOf gs t).length
  ch : ∀ (p : Nat) (x : Int), fs[p]? = some x → Chain nx user x (us p)
  fi : Fill gs.length (lnsOf gs) us i j
  le : (List.range i).filter (fun t => (lnsOf gs t).isEmpty) = L
section
variable {gs : List Gt} {ws : List Nat} {fs nx : List Int} {user : List Nat} {us : Nat → List Nat} {L : List Nat} {c i j : Nat}
theorem Fill2.start (hw : ws.length = gs.length) : Fill2 gs ws (List.replicate gs.length (-1)) [] [] (fun _ => []) [] 0 0 0 := by
  refine ⟨hw, by simp, rfl, by simp, fun t x _ h => by omega, fun p x hx => ?_, Fill.start, by simp⟩
  rw [List.getElem?_replicate] at hx
  split at hx
  · cases hx; exact .nil
  · cases hx
theorem Fill2.begin (h : Fill2 gs ws fs nx user us L i i 0) (hi : i < gs.length) : Fill2 gs (ws.set i (lnsOf gs i).length) fs nx user us L (i + 1) i 0 := by
  refine ⟨by rw [List.length_set]; exact h.wl, h.fl, h.nl, h.ul, fun t x hx ht => ?_, h.ch, h.fi, h.le⟩
  rw [List.getElem?_set] at hx
  split at hx
  · rename_i e
    subst e
    split at hx
    · exact (Option.some.inj hx).symm
    · cases hx
  · rename_i e
    exact h.wv t x hx (by omega)
theorem Fill2.step (h : Fill2 gs ws fs nx user us L c i j) {p : Nat} (hp : (lnsOf gs i)[j]? = some p) {x : Int} (hx : fs[p]? = some x) : Fill2 gs ws (fs.set p (user.length : Int)) (nx ++ [x]) (user ++ [i]) (fun q => if q = p then i :: us p else us q) L c i (j + 1) := by
  refine ⟨h.wl, by rw [List.length_set]; exact h.fl, by simp [h.nl], by have := h.ul; simp; omega, h.wv, fun q y hq => ?_, h.fi.step hp (.inr (by simp)) (fun q hq => by simp [hq]), h.le⟩
  by_cases e : q = p
  · subst e
    rw [if_pos rfl]
    rw [List.getElem?_set_self (List.getElem?_eq_some_iff.1 hx).1] at hq
    cases hq
    refine .cons (x := x) ?_ ?_ ((h.ch q x hx).grow _ _)
    · rw [List.getElem?_append_right (by rw [h.nl]; exact Nat.le_refl _), h.nl]
      simp
    · rw [List.getElem?_append_right (Nat.le_refl _)]
      simp
  · rw [if_neg e]
    rw [List.getElem?_set_ne (fun e2 => e e2.symm)] at hq
    exact (h.ch q y hq).grow _ _
theorem Fill2.next (h : Fill2 gs ws fs nx user us L (i + 1) i j) (hj : (lnsOf gs i).length = j) : Fill2 gs ws fs nx user us (if j = 0 then L ++ [i] else L) (i + 1) (i + 1) 0 := by
  have h3 := lnsOf_le gs i
  refine ⟨h.wl, h.fl, h.nl, by have := h.ul; omega, h.wv, h.ch, h.fi.next (by omega), ?_⟩
  rw [List.range_succ, List.filter_append, h.le]
  by_cases e : j = 0
  · rw [if_pos e]
    have : lnsOf gs i = [] := List.eq_nil_of_length_eq_zero (by omega)
    simp [this]
  · rw [if_neg e]
    have : lnsOf gs i ≠ [] := fun e2 => e (by rw [← hj, e2]; rfl)
    simp [this]
theorem Fill2.kahn (h : Fill2 gs ws fs nx user us L gs.length gs.length 0) : Kahn gs.length (lnsOf gs) us ws L 0 0 ∧ Users gs.length (lnsOf gs) us :=
  ⟨Kahn.start h.wl (fun t x hx => h.wv t x hx (by rw [← h.wl]; exact (List.getElem?_eq_some_iff.1 hx).1)) h.le.symm, h.fi.users⟩
theorem Fill2.len (h : Fill2 gs ws fs nx user us L c i j) : L.length ≤ i := by
  rw [← h.le]
  have := List.length_filter_le (fun t => (lnsOf gs t).isEmpty) (List.range i)
  simpa using this
theorem Chain.uncons {e : Int} {l : List Nat} (h : Chain nx user e l) {b v : Nat} (hb : b = 0) (hv : l[b]? = some v) : ∃ (k : Nat) (x : Int), e = (k : Int) ∧ nx[k]? = some x ∧ user[k]? = some v ∧ Chain nx user x (l.drop 1) := by
  subst hb
  cases h with
  | nil => simp at hv
  | cons h1 h2 t =>
    simp at hv
    subst hv
    exact ⟨_, _, rfl, h1, h2, t⟩
theorem Chain.end_ {e : Int} {l : List Nat} (h : Chain nx user e l) (hl : l = []) : e = -1 := by
  subst hl
  cases h
  rfl
end

theorem arr_at {g : Gt} {j : Nat} {x : Int} (h : g.leans[j]? = some x) : g.arr[j]? = some x := by
  unfold Gt.leans at h
  unfold Gt.arr
  split at h
  · rename_i e
    rw [if_pos e]
    match j, h with
    | 0, h => exact h
    | 1, h => exact h
    | j + 2, h => simp at h
  · rename_i e
    rw [if_neg e]
    split at h
    · rename_i e4
      rw [if_pos e4]; exact h
    · simp at h
/-- wait, first, next, user, out. -/
def lrows (vw vf vn vu vo : Value) (ws : List Nat) (fs nx : List Int) (user L : List Nat) : List RW :=
  [row1 3 vw (ints ws), row1 3 vf (nums .i64 fs), row1 3 vn (nums .i64 nx), row1 3 vu (ints user), row1 3 vo (ints L)]
def LMem (w : World) (base n : Nat) (vn vu vo : Value) (ws : List Nat) (fs nx : List Int) (user L : List Nat) : Prop :=
  Hold w base (lrows (.slice (some ⟨base, 0, none⟩) n n) (.slice (some ⟨base + 1, 0, none⟩) n n) vn vu vo ws fs nx user L)
theorem lmem_start (w : World) (n : Nat) (hn : n ≤ maxLen) : LMem ((w.alloc (.cells (List.replicate n (Value.int .i64 0)).toArray 3)).alloc (.cells (List.replicate n (Value.int .i64 0)).toArray 3)) w.heap.size n (.slice none 0 0) (.slice none 0 0) (.slice none 0 0) (List.replicate n 0) (List.replicate n 0) [] [] [] := by
  have h1 := (Hold.nil w w.heap.size).made (e := 3) (z := .int .i64 0) (Nat.le_refl _) hn
  have h2 := h1.made (e := 3) (z := .int .i64 0) (by simp) hn
  have h3 := ((h2.nilRow (e := 3)).nilRow (e := 3)).nilRow (e := 3)
  unfold LMem lrows
  rw [ints_rep, show nums .i64 (List.replicate n 0) = List.replicate n (.int .i64 0) by simp [nums]]
  simpa [ints, row1, nums] using h3
section
variable {w w' : World} {base n k : Nat} {vn vu vo : Value} {ws user L : List Nat} {fs nx : List Int}
theorem LMem.below (h : LMem w base n vn vu vo ws fs nx user L) (hb : Below w.heap.size w w') : LMem w' base n vn vu vo ws fs nx user L := Hold.below h hb
theorem LMem.wait (h : LMem w base n vn vu vo ws fs nx user L) {i x : Nat} (hx : ws[i]? = some x) : w.cell? ⟨base, i, none⟩ = some (.int .i64 (x : Int)) ∧ w.frozen? ⟨base, i, none⟩ = false ∧
    ∀ y : Nat, LMem (w.setCell ⟨base, i, none⟩ (.int .i64 (y : Int))) base n vn vu vo (ws.set i y) fs nx user L := by
  obtain ⟨g, e, _, _, h1, h2, h3⟩ := Hold.cell h (i := 0) rfl (ints_get hx)
  cases e
  refine ⟨h1, h2, fun y => ?_⟩
  have := h3 (.int .i64 (y : Int))
  rw [ints_set] at this
  exact this
theorem LMem.first (h : LMem w base n vn vu vo ws fs nx user L) {i : Nat} {x : Int} (hx : fs[i]? = some x) : w.cell? ⟨base + 1, i, none⟩ = some (.int .i64 x) ∧ w.frozen? ⟨base + 1, i, none⟩ = false ∧
    ∀ y : Int, LMem (w.setCell ⟨base + 1, i, none⟩ (.int .i64 y)) base n vn vu vo ws (fs.set i y) nx user L := by
  obtain ⟨g, e, _, _, h1, h2, h3⟩ := Hold.cell h (i := 1) rfl (j := i) (u := .int .i64 x) (by rw [nums_get, hx]; rfl)
  cases e
  refine ⟨h1, h2, fun y => ?_⟩
  have := h3 (.int .i64 y)
  rw [nums_set] at this
  exact this
theorem LMem.nextO (h : LMem w base n vn vu vo ws fs nx user L) : Owns w base 3 vn (nums .i64 nx) := Hold.owns h (i := 2) rfl
theorem LMem.userO (h : LMem w base n vn vu vo ws fs nx user L) : Owns w base 3 vu (ints user) := Hold.owns h (i := 3) rfl
theorem LMem.outO (h : LMem w base n vn vu vo ws fs nx user L) : Owns w base 3 vo (ints L) := Hold.owns h (i := 4) rfl
theorem LMem.nextAt {A : Option Addr} {m c : Nat} (h : LMem w base n (.slice A m c) vu vo ws fs nx user L) {j : Nat} {x : Int} (hj : nx[j]? = some x) : ∃ g, A = some ⟨g, 0, none⟩ ∧ w.cell? ⟨g, j, none⟩ = some (.int .i64 x) := by
  obtain ⟨g, e, _, _, h1, _, _⟩ := Hold.cell h (i := 2) rfl (j := j) (u := .int .i64 x) (by rw [nums_get, hj]; rfl)
  exact ⟨g, e, h1⟩
theorem LMem.userAt {A : Option Addr} {m c : Nat} (h : LMem w base n vn (.slice A m c) vo ws fs nx user L) {j x : Nat} (hj : user[j]? = some x) : ∃ g, A = some ⟨g, 0, none⟩ ∧ w.cell? ⟨g, j, none⟩ = some (.int .i64 (x : Int)) := by
  obtain ⟨g, e, _, _, h1, _, _⟩ := Hold.cell h (i := 3) rfl (ints_get hj)
  exact ⟨g, e, h1⟩
theorem LMem.outAt {A : Option Addr} {m c : Nat} (h : LMem w base n vn vu (.slice A m c) ws fs nx user L) {j x : Nat} (hj : L[j]? = some x) : ∃ g, A = some ⟨g, 0, none⟩ ∧ w.cell? ⟨g, j, none⟩ = some (.int .i64 (x : Int)) := by
  obtain ⟨g, e, _, _, h1, _, _⟩ := Hold.cell h (i := 4) rfl (ints_get hj)
  exact ⟨g, e, h1⟩
theorem LMem.nextP (h : LMem w base n vn vu vo ws fs nx user L) {v' : Value} {x : Int} (ho : Owns w' base 3 v' (nums .i64 nx ++ [.int .i64 x])) (hg : w.grownBy w' vn.ownBlock) (hn : v'.ownBlock = vn.ownBlock ∨ v'.ownBlock = some w.heap.size) : LMem w' base n v' vu vo ws fs (nx ++ [x]) user L := by
  have := Hold.push h (i := 2) rfl ho hg hn
  rw [show nums .i64 nx ++ [Value.int .i64 x] = nums .i64 (nx ++ [x]) by simp [nums]] at this
  exact this
theorem LMem.userP (h : LMem w base n vn vu vo ws fs nx user L) {v' : Value} {x : Nat} (ho : Owns w' base 3 v' (ints user ++ [.int .i64 (x : Int)])) (hg : w.grownBy w' vu.ownBlock) (hn : v'.ownBlock = vu.ownBlock ∨ v'.ownBlock = some w.heap.size) : LMem w' base n vn v' vo ws fs nx (user ++ [x]) L := by
  have := Hold.push h (i := 3) rfl ho hg hn
  rw [ints_snoc] at this
  exact this
theorem LMem.outP (h : LMem w base n vn vu vo ws fs nx user L) {v' : Value} {x : Nat} (ho : Owns w' base 3 v' (ints L ++ [.int .i64 (x : Int)])) (hg : w.grownBy w' vo.ownBlock) (hn : v'.ownBlock = vo.ownBlock ∨ v'.ownBlock = some w.heap.size) : LMem w' base n vn vu v' ws fs nx user (L ++ [x]) := by
  have := Hold.push h (i := 4) rfl ho hg hn
  rw [ints_snoc] at this
  exact this
/-- A block of another type is none of these. -/
theorem LMem.far (h : LMem w base n vn vu vo ws fs nx user L) {g : Nat} {t : TypeId} (ht : Typed w g t) (hne : t ≠ 3) : g ≠ base ∧ g ≠ base + 1 ∧ some g ≠ vn.ownBlock ∧ some g ≠ vu.ownBlock ∧ some g ≠ vo.ownBlock := by
  have key : ∀ (i : Nat) (v : Value) (xs : List Value), (lrows (.slice (some ⟨base, 0, none⟩) n n) (.slice (some ⟨base + 1, 0, none⟩) n n) vn vu vo ws fs nx user L)[i]? = some (row1 3 v xs) → some g ≠ v.ownBlock := fun i v xs hi e =>
    ht.ne (rows_typed (h.1 i _ hi) e.symm) hne rfl
  refine ⟨fun e => ?_, fun e => ?_, key 2 _ _ rfl, key 3 _ _ rfl, key 4 _ _ rfl⟩
  · exact key 0 _ _ rfl (by rw [e]; rfl)
  · exact key 1 _ _ rfl (by rw [e]; rfl)
end
end Go.Proofs.YtjkmoahnociaiaaDoor
