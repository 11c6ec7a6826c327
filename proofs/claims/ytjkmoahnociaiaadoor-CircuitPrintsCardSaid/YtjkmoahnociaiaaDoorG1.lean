/- Aids of no one program: blocks that are known whole, slices of numbers that read as a list, rows of the call's own. -/
import Derived.Test.YtjkmoahnociaiaaDoorG0
import Derived.Laws.OwnMore
import Derived.Laws.MakeOwn
import Derived.Deep.Draws
import Derived.Maps.AppendAt
namespace Go.Proofs.YtjkmoahnociaiaaDoor
open Go.RowKit

/-- The cells of whole numbers. -/
def nums (k : IntKind) (xs : List Int) : List Value := xs.map fun x => .int k x
theorem nums_length (k : IntKind) (xs : List Int) : (nums k xs).length = xs.length := by simp [nums]
theorem nums_append (k : IntKind) (xs ys : List Int) : nums k (xs ++ ys) = nums k xs ++ nums k ys := by simp [nums]
theorem nums_get (k : IntKind) (xs : List Int) (i : Nat) : (nums k xs)[i]? = (xs[i]?).map (.int k) := by simp [nums]
theorem nums_set (k : IntKind) (xs : List Int) (i : Nat) (x : Int) : (nums k xs).set i (.int k x) = nums k (xs.set i x) := by simp [nums, List.map_set]

/-- Block g is just these cells, none frozen. -/
def Blk (w : World) (g : Nat) (t : TypeId) (l : List Value) : Prop := w.heap[g]? = some (.cells l.toArray t (0, 0))
section
variable {w w' : World} {g : Nat} {t : TypeId} {l : List Value}
theorem Blk.lt (h : Blk w g t l) : g < w.heap.size := by
  rcases Nat.lt_or_ge g w.heap.size with hlt | hge
  · exact hlt
  · unfold Blk at h; rw [Array.getElem?_eq_none hge] at h; cases h
theorem Blk.cell (h : Blk w g t l) (i : Nat) : w.cell? ⟨g, i, none⟩ = l[i]? := by
  rw [cell_of_row w g i _ t (0, 0) h]; simp
theorem Blk.frozen (h : Blk w g t l) (i : Nat) : w.frozen? ⟨g, i, none⟩ = false := by
  unfold Blk at h
  simp [World.frozen?, h]
theorem Blk.new (w : World) (t : TypeId) (l : List Value) : Blk (w.alloc (.cells l.toArray t)) w.heap.size t l := heap_alloc_new w _
theorem Blk.set_ (h : Blk w g t l) (i : Nat) (u : Value) : Blk (w.setCell ⟨g, i, none⟩ u) g t (l.set i u) := by
  unfold Blk at h ⊢
  simp [World.setCell, Array.getElem?_modify, h]
theorem Blk.far (h : Blk w g t l) {p : Addr} (hp : g ≠ p.block) (u : Value) : Blk (w.setCell p u) g t l := (Below.heap_setCell w p u g hp).trans h
theorem Blk.below {B : Nat} (h : Blk w g t l) (hb : Below B w w') (hg : g < B) : Blk w' g t l := (hb.block g hg).trans h
theorem Blk.self (h : Blk w g t l) (hb : Below w.heap.size w w') : Blk w' g t l := h.below hb h.lt
theorem Blk.alloc (h : Blk w g t l) (o : Obj) : Blk (w.alloc o) g t l := h.self (below1 w o)
theorem Blk.grown {row : Option Nat} (h : Blk w g t l) (hb : w.grownBy w' row) (hg : some g ≠ row) : Blk w' g t l := (hb.block g h.lt hg).trans h
end

/-- Only block g, and what is new, has turned. -/
theorem only_refl (w : World) (row : Option Nat) : w.grownBy w row := ⟨rfl, rfl, rfl, Nat.le_refl _, fun _ _ _ => rfl⟩
theorem only_trans {a b c : World} {row : Option Nat} (h : a.grownBy b row) (k : b.grownBy c row) : a.grownBy c row :=
  ⟨k.os.trans h.os, k.tape.trans h.tape, k.output.trans h.output, Nat.le_trans h.size k.size, fun i hi hne => (k.block i (Nat.lt_of_lt_of_le hi h.size) hne).trans (h.block i hi hne)⟩
theorem only_drewN {a w : World} {row : Option Nat} (h : a.grownBy w row) (n : Nat) : a.grownBy (w.drewN n) row := ⟨h.os, h.tape, h.output, h.size, h.block⟩
theorem only_setCell {a w : World} {g : Nat} (h : a.grownBy w (some g)) {p : Addr} (hp : p.block = g ∨ a.heap.size ≤ p.block) (u : Value) : a.grownBy (w.setCell p u) (some g) :=
  ⟨h.os, h.tape, h.output, by simpa [World.setCell] using h.size, fun i hi hne => (Below.heap_setCell w p u i (by
    rintro rfl
    rcases hp with hp | hp
    · exact hne (by rw [hp])
    · omega)).trans (h.block i hi hne)⟩
theorem only_of_below {a w : World} (h : Below a.heap.size a w) (row : Option Nat) : a.grownBy w row := ⟨h.os, h.tape, h.output, h.size, fun i hi _ => h.block i hi⟩
theorem only_below {a b c : World} {row : Option Nat} (h : a.grownBy b row) (k : Below b.heap.size b c) : a.grownBy c row := only_trans h (only_of_below k row)
theorem below_only {B : Nat} {a b c : World} {g : Nat} (h : Below B a b) (hB : B ≤ b.heap.size) (k : b.grownBy c (some g)) (hg : B ≤ g) : Below B a c :=
  h.grown k hB (fun _ e => by cases e; exact hg)
theorem only_new {a b : World} {g : Nat} (h : a.grownBy b (some g)) (hg : a.heap.size ≤ g) : Below a.heap.size a b :=
  ⟨h.os, h.tape, h.output, h.size, fun i hi => h.block i hi (fun e => by cases e; omega)⟩

/-- What stands from o on is written over. -/
def splice {α : Type} (l : List α) (o : Nat) (xs : List α) : List α := l.take o ++ (xs ++ l.drop (o + xs.length))
theorem splice_nil {α : Type} (l : List α) (o : Nat) : splice l o [] = l := by simp [splice]
theorem splice_length {α : Type} (l : List α) (o : Nat) (xs : List α) (h : o + xs.length ≤ l.length) : (splice l o xs).length = l.length := by
  simp [splice]; omega
theorem splice_snoc {α : Type} (l : List α) (o : Nat) (xs : List α) (x : α) (h : o + xs.length < l.length) : (splice l o xs).set (o + xs.length) x = splice l o (xs ++ [x]) := by
  have e : l.drop (o + xs.length) = l[o + xs.length] :: l.drop (o + xs.length + 1) := List.drop_eq_getElem_cons h
  have hl : (l.take o).length = o := by simp; omega
  simp only [splice, List.length_append, List.length_singleton]
  rw [e, List.set_append_right _ _ (by omega), hl, show o + xs.length - o = xs.length by omega, List.set_append_right _ _ (by omega), Nat.sub_self]
  simp [Nat.add_assoc]
theorem splice_get_mid {α : Type} (l : List α) (o : Nat) (xs : List α) (i : Nat) (h : o ≤ l.length) (hi : i < xs.length) : (splice l o xs)[o + i]? = xs[i]? := by
  have hl : (l.take o).length = o := by simp; omega
  simp only [splice]
  rw [List.getElem?_append_right (by omega), hl, show o + i - o = i by omega, List.getElem?_append_left hi]
theorem splice_get_lo {α : Type} (l : List α) (o : Nat) (xs : List α) (i : Nat) (hi : i < o) (h : o ≤ l.length) : (splice l o xs)[i]? = l[i]? := by
  simp only [splice]
  rw [List.getElem?_append_left (by simp; omega), List.getElem?_take, if_pos hi]
theorem splice_get_hi {α : Type} (l : List α) (o : Nat) (xs : List α) (i : Nat) (h : o + xs.length ≤ l.length) (hi : o + xs.length ≤ i) : (splice l o xs)[i]? = l[i]? := by
  have hl : (l.take o).length = o := by simp; omega
  simp only [splice]
  rw [List.getElem?_append_right (by omega), hl, List.getElem?_append_right (by omega), List.getElem?_drop]
  congr 1
  omega

/-- A slice value of n numbers reads as xs; nil and empty ones too. -/
def Reads (w : World) (k : IntKind) (A : Option Addr) (xs : List Int) : Prop :=
  0 < xs.length → ∃ b o, A = some ⟨b, o, none⟩ ∧ ∀ j x, xs[j]? = some x → w.cell? ⟨b, o + j, none⟩ = some (.int k x)
section
variable {w w' : World} {k : IntKind} {A : Option Addr} {xs : List Int}
theorem Reads.at_ (h : Reads w k A xs) {i : Nat} {x : Int} (hx : xs[i]? = some x) : ∃ b o, A = some ⟨b, o, none⟩ ∧ w.cell? ⟨b, o + i, none⟩ = some (.int k x) := by
  obtain ⟨b, o, e, hc⟩ := h (by have := (List.getElem?_eq_some_iff.1 hx).1; omega)
  exact ⟨b, o, e, hc i x hx⟩
theorem Reads.below (h : Reads w k A xs) (hb : Below w.heap.size w w') : Reads w' k A xs := fun hn => by
  obtain ⟨b, o, e, hc⟩ := h hn
  exact ⟨b, o, e, fun j x hx => cell_kept hb (hc j x hx)⟩
theorem Reads.grown (h : Reads w k A xs) {row : Option Nat} (hb : w.grownBy w' row) (hne : ∀ b o, A = some ⟨b, o, none⟩ → some b ≠ row) : Reads w' k A xs := fun hn => by
  obtain ⟨b, o, e, hc⟩ := h hn
  exact ⟨b, o, e, fun j x hx => hb.cell (hc j x hx) (hne b o e)⟩
theorem Reads.nil (w : World) (k : IntKind) (A : Option Addr) : Reads w k A [] := fun h => absurd h (by simp)
theorem Reads.of_blk {g o n : Nat} {t : TypeId} {l : List Int} (h : Blk w g t (nums k l)) (e : xs = (l.drop o).take n) : Reads w k (some ⟨g, o, none⟩) xs := fun _ => by
  refine ⟨g, o, rfl, fun j x hx => ?_⟩
  rw [h.cell, nums_get]
  subst e
  rw [List.getElem?_take] at hx
  split at hx
  · rw [List.getElem?_drop] at hx; rw [hx]; rfl
  · cases hx
/-- A cut of it. -/
theorem Reads.cut {b o i n : Nat} (h : Reads w k (some ⟨b, o, none⟩) xs) : Reads w k (some ⟨b, o + i, none⟩) ((xs.drop i).take n) := fun hn => by
  refine ⟨b, o + i, rfl, fun j x hx => ?_⟩
  rw [List.getElem?_take] at hx
  split at hx
  · rw [List.getElem?_drop] at hx
    obtain ⟨b', o', e, hc⟩ := h (by have := (List.getElem?_eq_some_iff.1 hx).1; omega)
    cases e
    rw [Nat.add_assoc]
    exact hc _ _ hx
  · cases hx
end

/-- A row of the call's own: nil, or a block from base on that begins with these cells. -/
def Owns (w : World) (base : Nat) (e : TypeId) (v : Value) (xs : List Value) : Prop := w.ownsRow base e 1 v xs.length xs
section
variable {w w' : World} {base : Nat} {e : TypeId} {v : Value} {xs : List Value}
theorem Owns.form (h : Owns w base e v xs) : ∃ A c, v = .slice A xs.length c := by
  rcases h.2 with ⟨rfl, h0⟩ | ⟨g, cap, cur, rfl, _⟩
  · exact ⟨none, 0, by rw [h0]⟩
  · exact ⟨_, cap, rfl⟩
theorem Owns.kept (h : Owns w base e v xs) {row : Option Nat} (hg : w.grownBy w' row) (hne : v.ownBlock = none ∨ v.ownBlock ≠ row) : Owns w' base e v xs := World.ownsRow.kept h hg hne
theorem Owns.below (h : Owns w base e v xs) (hb : Below w.heap.size w w') : Owns w' base e v xs := h.kept (only_of_below hb none) (by cases v.ownBlock <;> simp)
theorem Owns.more {base' : Nat} (h : Owns w base e v xs) (hB : base' ≤ base) : Owns w base' e v xs := by
  refine ⟨h.1, ?_⟩
  rcases h.2 with hn | ⟨g, cap, cur, hv, hb, rest⟩
  · exact .inl hn
  · exact .inr ⟨g, cap, cur, hv, by omega, rest⟩
theorem Owns.lt (h : Owns w base e v xs) {g : Nat} (hg : v.ownBlock = some g) : base ≤ g ∧ g < w.heap.size := World.ownsRow.lt h g hg
theorem Owns.blk {g c : Nat} {k : IntKind} {l : List Int} (h : Blk w g e (nums k l)) (hb : base ≤ g) (hc : c = l.length) (hm : l.length ≤ maxLen) : Owns w base e (.slice (some ⟨g, 0, none⟩) l.length c) (nums k l) := by
  subst hc
  refine ⟨by simp, .inr ⟨g, l.length, _, by rw [nums_length], hb, h, by rw [nums_length]; exact Nat.le_refl _, hm, by simp [nums_length], by simp [nums_length, List.take_of_length_le]⟩⟩
theorem Owns.reads {k : IntKind} {l : List Int} (h : Owns w base e v (nums k l)) : ∃ A c, v = .slice A l.length c ∧ Reads w k A l := by
  rcases h.2 with ⟨rfl, h0⟩ | ⟨g, cap, cur, rfl, _, hh, hle, _, hsz, htk⟩
  · rw [nums_length] at h0
    exact ⟨none, 0, by rw [h0], fun hn => by omega⟩
  · refine ⟨_, cap, by rw [nums_length], fun _ => ⟨g, 0, rfl, fun j x hx => ?_⟩⟩
    have := World.ownsRow.cells h (g := g) rfl j (.int k x) (by rw [nums_get, hx]; rfl)
    unfold Addr.add at this
    split at this <;> simp_all
theorem owns_nil (w : World) (base : Nat) (e : TypeId) : Owns w base e (.slice none 0 0) [] := World.ownsRow_nil w base e 1
end

/-- What a new row, or the old one, has turned. -/
theorem only_step {a b c : World} {row r2 : Option Nat} (h : a.grownBy b row) (k : b.grownBy c r2) (hr : r2 = row ∨ ∀ g, r2 = some g → a.heap.size ≤ g) : a.grownBy c row :=
  ⟨k.os.trans h.os, k.tape.trans h.tape, k.output.trans h.output, Nat.le_trans h.size k.size, fun i hi hne =>
    (k.block i (Nat.lt_of_lt_of_le hi h.size) (fun e => by
      rcases hr with hr | hr
      · exact hne (e.trans hr)
      · have := hr i e.symm; omega)).trans (h.block i hi hne)⟩
theorem only_alloc {a w : World} {row : Option Nat} (h : a.grownBy w row) (o : Obj) : a.grownBy (w.alloc o) row := only_below h (below1 w o)

/-- 'append(out, x)': one element of one cell, onto a row of the call's own. -/
theorem wpList_push {P : Program} {ops : Array Oper} {rest : List Oper} {o : Oper} {a : Act} {Q : Exit → Act → World → Prop} {w : World} (hgd : o.guard = none) (s x : Operand) (t : TypeId)
    (ho : o.op = .call { callee := .builtin .append, args := #[s, x], argTypes := #[t, t] })
    (base : Nat) (e : TypeId) (z : Value) (bytes : Nat) (ht : P.underlying t = some (.slice e)) (hi : (P.info? e).map (fun i => (i.zero, i.size, i.bytes)) = some (some z, 1, bytes)) (hzs : z.cells.size = 1)
    (v : Value) (xs : List Value) (hs : a.eval s = v) (hown : Owns w base e v xs)
    (ad : Addr) (u : Value) (hx : a.eval x = .slice (some ad) 1 1) (hu : w.cell? ad = some u) (h1 : u.oneCell' = true)
    (hlen : (xs.length + 1) * (bytes + 1) ≤ 140737488355328) (hbase : base ≤ w.heap.size)
    (h : ∀ v' w', Owns w' base e v' (xs ++ [u]) → w.grownBy w' v.ownBlock → (v'.ownBlock = v.ownBlock ∨ v'.ownBlock = some w.heap.size) → wpList P ops Q rest (a.put o.dst v') w') :
    wpList P ops Q (o :: rest) a w := by
  obtain ⟨i, hi', hz, hsz, hby⟩ := info_parts hi
  have hm : (xs.length + 1) * (bytes + 1) = (xs.length + 1) * bytes + (xs.length + 1) := Nat.mul_add_one _ _
  refine wpList_append_own_at w hgd s x t ho base e i z 1 bytes ht hi' hz hsz hby hzs (by decide) v xs.length xs hs hown ad 1 1 [u] hx rfl ?_ ?_ ?_ ?_ hbase ?_
  · intro j y hj
    match j, hj with
    | 0, hj =>
      simp at hj
      subst hj
      simpa [Addr.add] using hu
  · intro y hy
    simp at hy
    subst hy
    exact h1
  · simp only [maxLen]; omega
  · omega
  · intro v' w' h2 h3 _ h5
    exact h v' w' (by unfold Owns; rw [List.length_append]; exact h2) h3 h5
end Go.Proofs.YtjkmoahnociaiaaDoor
