/- Aids of no one program: blocks that are known whole, slices of numbers that read as a list, rows of the call's own. -/
import Derived.Test.YtjkmoahnociaiaaDoorG0
import Derived.Laws.OwnMore
import Derived.Laws.MakeOwn
import Derived.Deep.Draws
import Derived.Maps.AppendAt
import Derived.Laws.BytesArg
import Derived.SizedLaws
import Derived.Deep.DeepCutAuto
import Derived.Deep.RegionWith
namespace Go.Proofs.YtjkmoahnociaiaaDoor
open Go.RowKit

/-- The cells of whole numbers. -/
def nums (k : IntKind) (xs : List Int) : List Value := xs.map fun x => .int k x
theorem nums_length (k : IntKind) (xs : List Int) : (nums k xs).length = xs.length := by simp [nums]
theorem nums_append (k : IntKind) (xs ys : List Int) : nums k (xs ++ ys) = nums k xs ++ nums k ys := by simp [nums]
theorem nums_get (k : IntKind) (xs : List Int) (i : Nat) : (nums k xs)[i]? = (xs[i]?).map (.int k) := by simp [nums]
theorem nums_set (k : IntKind) (xs : List Int) (i : Nat) (x : Int) : (nums k xs).set i (.int k x) = nums k (xs.set i x) := by simp [nums, List.map_set]

/-- Block g is just these cells, none frozen. -/
def Blk (w : World) (g : Nat) (t : TypeId) (l : List Value) : Prop := w.heap[g]? = some (.cells l.toArray t (0, 0))
section
variable {w w' : World} {g : Nat} {t : TypeId} {l : List Value}
theorem Blk.lt (h : Blk w g t l) : g < w.heap.size := by
  rcases Nat.lt_or_ge g w.heap.size with hlt | hge
  · exact hlt
  · unfold Blk at h; rw [Array.getElem?_eq_none hge] at h; cases h
theorem Blk.cell (h : Blk w g t l) (i : Nat) : w.cell? ⟨g, i, none⟩ = l[i]? := by
  rw [cell_of_row w g i _ t (0, 0) h]; simp
theorem Blk.frozen (h : Blk w g t l) (i : Nat) : w.frozen? ⟨g, i, none⟩ = false := by
  unfold Blk at h
  simp [World.frozen?, h]
theorem Blk.new (w : World) (t : TypeId) (l : List Value) : Blk (w.alloc (.cells l.toArray t)) w.heap.size t l := heap_alloc_new w _
theorem Blk.set_ (h : Blk w g t l) (i : Nat) (u : Value) : Blk (w.setCell ⟨g, i, none⟩ u) g t (l.set i u) := by
  unfold Blk at h ⊢
  simp [World.setCell, Array.getElem?_modify, h]
theorem Blk.far (h : Blk w g t l) {p : Addr} (hp : g ≠ p.block) (u : Value) : Blk (w.setCell p u) g t l := (Below.heap_setCell w p u g hp).trans h
theorem Blk.below {B : Nat} (h : Blk w g t l) (hb : Below B w w') (hg : g < B) : Blk w' g t l := (hb.block g hg).trans h
theorem Blk.self (h : Blk w g t l) (hb : Below w.heap.size w w') : Blk w' g t l := h.below hb h.lt
theorem Blk.alloc (h : Blk w g t l) (o : Obj) : Blk (w.alloc o) g t l := h.self (below1 w o)
theorem Blk.grown {row : Option Nat} (h : Blk w g t l) (hb : w.grownBy w' row) (hg : some g ≠ row) : Blk w' g t l := (hb.block g h.lt hg).trans h
end

/-- Only block g, and what is new, has turned. -/
theorem only_refl (w : World) (row : Option Nat) : w.grownBy w row := ⟨rfl, rfl, rfl, Nat.le_refl _, fun _ _ _ => rfl⟩
theorem only_trans {a b c : World} {row : Option Nat} (h : a.grownBy b row) (k : b.grownBy c row) : a.grownBy c row :=
  ⟨k.os.trans h.os, k.tape.trans h.tape, k.output.trans h.output, Nat.le_trans h.size k.size, fun i hi hne => (k.block i (Nat.lt_of_lt_of_le hi h.size) hne).trans (h.block i hi hne)⟩
theorem only_drewN {a w : World} {row : Option Nat} (h : a.grownBy w row) (n : Nat) : a.grownBy (w.drewN n) row := ⟨h.os, h.tape, h.output, h.size, h.block⟩
theorem only_setCell {a w : World} {g : Nat} (h : a.grownBy w (some g)) {p : Addr} (hp : p.block = g ∨ a.heap.size ≤ p.block) (u : Value) : a.grownBy (w.setCell p u) (some g) :=
  ⟨h.os, h.tape, h.output, by simpa [World.setCell] using h.size, fun i hi hne => (Below.heap_setCell w p u i (by
    rintro rfl
    rcases hp with hp | hp
    · exact hne (by rw [hp])
    · omega)).trans (h.block i hi hne)⟩
theorem only_of_below {a w : World} (h : Below a.heap.size a w) (row : Option Nat) : a.grownBy w row := ⟨h.os, h.tape, h.output, h.size, fun i hi _ => h.block i hi⟩
theorem only_below {a b c : World} {row : Option Nat} (h : a.grownBy b row) (k : Below b.heap.size b c) : a.grownBy c row := only_trans h (only_of_below k row)
theorem below_only {B : Nat} {a b c : World} {g : Nat} (h : Below B a b) (hB : B ≤ b.heap.size) (k : b.grownBy c (some g)) (hg : B ≤ g) : Below B a c :=
  h.grown k hB (fun _ e => by cases e; exact hg)
theorem only_new {a b : World} {g : Nat} (h : a.grownBy b (some g)) (hg : a.heap.size ≤ g) : Below a.heap.size a b :=
  ⟨h.os, h.tape, h.output, h.size, fun i hi => h.block i hi (fun e => by cases e; omega)⟩

/-- What stands from o on is written over. -/
def splice {α : Type} (l : List α) (o : Nat) (xs : List α) : List α := l.take o ++ (xs ++ l.drop (o + xs.length))
theorem splice_nil {α : Type} (l : List α) (o : Nat) : splice l o [] = l := by simp [splice]
theorem splice_length {α : Type} (l : List α) (o : Nat) (xs : List α) (h : o + xs.length ≤ l.length) : (splice l o xs).length = l.length := by
  simp [splice]; omega
theorem splice_snoc {α : Type} (l : List α) (o : Nat) (xs : List α) (x : α) (h : o + xs.length < l.length) : (splice l o xs).set (o + xs.length) x = splice l o (xs ++ [x]) := by
  have e : l.drop (o + xs.length) = l[o + xs.length] :: l.drop (o + xs.length + 1) := List.drop_eq_getElem_cons h
  have hl : (l.take o).length = o := by simp; omega
  simp only [splice, List.length_append, List.length_singleton]
  rw [e, List.set_append_right _ _ (by omega), hl, show o + xs.length - o = xs.length by omega, List.set_append_right _ _ (by omega), Nat.sub_self]
  simp [Nat.add_assoc]
theorem splice_get_mid {α : Type} (l : List α) (o : Nat) (xs : List α) (i : Nat) (h : o ≤ l.length) (hi : i < xs.length) : (splice l o xs)[o + i]? = xs[i]? := by
  have hl : (l.take o).length = o := by simp; omega
  simp only [splice]
  rw [List.getElem?_append_right (by omega), hl, show o + i - o = i by omega, List.getElem?_append_left hi]
theorem splice_get_lo {α : Type} (l : List α) (o : Nat) (xs : List α) (i : Nat) (hi : i < o) (h : o ≤ l.length) : (splice l o xs)[i]? = l[i]? := by
  simp only [splice]
  rw [List.getElem?_append_left (by simp; omega), List.getElem?_take, if_pos hi]
theorem splice_get_hi {α : Type} (l : List α) (o : Nat) (xs : List α) (i : Nat) (h : o + xs.length ≤ l.length) (hi : o + xs.length ≤ i) : (splice l o xs)[i]? = l[i]? := by
  have hl : (l.take o).length = o := by simp; omega
  simp only [splice]
  rw [List.getElem?_append_right (by omega), hl, List.getElem?_append_right (by omega), List.getElem?_drop]
  congr 1
  omega

/-- A slice value of n numbers reads as xs; nil and empty ones too. -/
def Reads (w : World) (k : IntKind) (A : Option Addr) (xs : List Int) : Prop :=
  0 < xs.length → ∃ b o, A = some ⟨b, o, none⟩ ∧ ∀ j x, xs[j]? = some x → w.cell? ⟨b, o + j, none⟩ = some (.int k x)
section
variable {w w' : World} {k : IntKind} {A : Option Addr} {xs : List Int}
theorem Reads.at_ (h : Reads w k A xs) {i : Nat} {x : Int} (hx : xs[i]? = some x) : ∃ b o, A = some ⟨b, o, none⟩ ∧ w.cell? ⟨b, o + i, none⟩ = some (.int k x) := by
  obtain ⟨b, o, e, hc⟩ := h (by have := (List.getElem?_eq_some_iff.1 hx).1; omega)
  exact ⟨b, o, e, hc i x hx⟩
theorem Reads.below (h : Reads w k A xs) (hb : Below w.heap.size w w') : Reads w' k A xs := fun hn => by
  obtain ⟨b, o, e, hc⟩ := h hn
  exact ⟨b, o, e, fun j x hx => cell_kept hb (hc j x hx)⟩
theorem Reads.grown (h : Reads w k A xs) {row : Option Nat} (hb : w.grownBy w' row) (hne : ∀ b o, A = some ⟨b, o, none⟩ → some b ≠ row) : Reads w' k A xs := fun hn => by
  obtain ⟨b, o, e, hc⟩ := h hn
  exact ⟨b, o, e, fun j x hx => hb.cell (hc j x hx) (hne b o e)⟩
theorem Reads.nil (w : World) (k : IntKind) (A : Option Addr) : Reads w k A [] := fun h => absurd h (by simp)
theorem Reads.of_blk {g o n : Nat} {t : TypeId} {l : List Int} (h : Blk w g t (nums k l)) (e : xs = (l.drop o).take n) : Reads w k (some ⟨g, o, none⟩) xs := fun _ => by
  refine ⟨g, o, rfl, fun j x hx => ?_⟩
  rw [h.cell, nums_get]
  subst e
  rw [List.getElem?_take] at hx
  split at hx
  · rw [List.getElem?_drop] at hx; rw [hx]; rfl
  · cases hx
/-- A cut of it. -/
theorem Reads.cut {b o i n : Nat} (h : Reads w k (some ⟨b, o, none⟩) xs) : Reads w k (some ⟨b, o + i, none⟩) ((xs.drop i).take n) := fun hn => by
  refine ⟨b, o + i, rfl, fun j x hx => ?_⟩
  rw [List.getElem?_take] at hx
  split at hx
  · rw [List.getElem?_drop] at hx
    obtain ⟨b', o', e, hc⟩ := h (by have := (List.getElem?_eq_some_iff.1 hx).1; omega)
    cases e
    rw [Nat.add_assoc]
    exact hc _ _ hx
  · cases hx
end

/-- A row of the call's own: nil, or a block from base on that begins with these cells. -/
def Owns (w : World) (base : Nat) (e : TypeId) (v : Value) (xs : List Value) : Prop := w.ownsRow base e 1 v xs.length xs
section
variable {w w' : World} {base : Nat} {e : TypeId} {v : Value} {xs : List Value}
theorem Owns.form (h : Owns w base e v xs) : ∃ A c, v = .slice A xs.length c := by
  rcases h.2 with ⟨rfl, h0⟩ | ⟨g, cap, cur, rfl, _⟩
  · exact ⟨none, 0, by rw [h0]⟩
  · exact ⟨_, cap, rfl⟩
theorem Owns.kept (h : Owns w base e v xs) {row : Option Nat} (hg : w.grownBy w' row) (hne : v.ownBlock = none ∨ v.ownBlock ≠ row) : Owns w' base e v xs := World.ownsRow.kept h hg hne
theorem Owns.below (h : Owns w base e v xs) (hb : Below w.heap.size w w') : Owns w' base e v xs := h.kept (only_of_below hb none) (by cases v.ownBlock <;> simp)
theorem Owns.more {base' : Nat} (h : Owns w base e v xs) (hB : base' ≤ base) : Owns w base' e v xs := by
  refine ⟨h.1, ?_⟩
  rcases h.2 with hn | ⟨g, cap, cur, hv, hb, rest⟩
  · exact .inl hn
  · exact .inr ⟨g, cap, cur, hv, by omega, rest⟩
theorem Owns.lt (h : Owns w base e v xs) {g : Nat} (hg : v.ownBlock = some g) : base ≤ g ∧ g < w.heap.size := World.ownsRow.lt h g hg
theorem Owns.blk {g c : Nat} {k : IntKind} {l : List Int} (h : Blk w g e (nums k l)) (hb : base ≤ g) (hc : c = l.length) (hm : l.length ≤ maxLen) : Owns w base e (.slice (some ⟨g, 0, none⟩) l.length c) (nums k l) := by
  subst hc
  refine ⟨by simp, .inr ⟨g, l.length, _, by rw [nums_length], hb, h, by rw [nums_length]; exact Nat.le_refl _, hm, by simp [nums_length], by simp [nums_length, List.take_of_length_le]⟩⟩
theorem Owns.reads {k : IntKind} {l : List Int} (h : Owns w base e v (nums k l)) : ∃ A c, v = .slice A l.length c ∧ Reads w k A l := by
  rcases h.2 with ⟨rfl, h0⟩ | ⟨g, cap, cur, rfl, _, hh, hle, _, hsz, htk⟩
  · rw [nums_length] at h0
    exact ⟨none, 0, by rw [h0], fun hn => by omega⟩
  · refine ⟨_, cap, by rw [nums_length], fun _ => ⟨g, 0, rfl, fun j x hx => ?_⟩⟩
    have := World.ownsRow.cells h (g := g) rfl j (.int k x) (by rw [nums_get, hx]; rfl)
    unfold Addr.add at this
    split at this <;> simp_all
theorem owns_nil (w : World) (base : Nat) (e : TypeId) : Owns w base e (.slice none 0 0) [] := World.ownsRow_nil w base e 1
end

/-- What a new row, or the old one, has turned. -/
theorem only_step {a b c : World} {row r2 : Option Nat} (h : a.grownBy b row) (k : b.grownBy c r2) (hr : r2 = row ∨ ∀ g, r2 = some g → a.heap.size ≤ g) : a.grownBy c row :=
  ⟨k.os.trans h.os, k.tape.trans h.tape, k.output.trans h.output, Nat.le_trans h.size k.size, fun i hi hne =>
    (k.block i (Nat.lt_of_lt_of_le hi h.size) (fun e => by
      rcases hr with hr | hr
      · exact hne (e.trans hr)
      · have := hr i e.symm; omega)).trans (h.block i hi hne)⟩
theorem only_alloc {a w : World} {row : Option Nat} (h : a.grownBy w row) (o : Obj) : a.grownBy (w.alloc o) row := only_below h (below1 w o)

/-- 'append(out, x)': one element of one cell, onto a row of the call's own. -/
theorem wpList_push {P : Program} {ops : Array Oper} {rest : List Oper} {o : Oper} {a : Act} {Q : Exit → Act → World → Prop} {w : World} (hgd : o.guard = none) (s x : Operand) (t : TypeId)
    (ho : o.op = .call { callee := .builtin .append, args := #[s, x], argTypes := #[t, t] })
    (base : Nat) (e : TypeId) (z : Value) (bytes : Nat) (ht : P.underlying t = some (.slice e)) (hi : (P.info? e).map (fun i => (i.zero, i.size, i.bytes)) = some (some z, 1, bytes)) (hzs : z.cells.size = 1)
    (v : Value) (xs : List Value) (hs : a.eval s = v) (hown : Owns w base e v xs)
    (ad : Addr) (u : Value) (hx : a.eval x = .slice (some ad) 1 1) (hu : w.cell? ad = some u) (h1 : u.oneCell' = true)
    (hlen : (xs.length + 1) * (bytes + 1) ≤ 140737488355328) (hbase : base ≤ w.heap.size)
    (h : ∀ v' w', Owns w' base e v' (xs ++ [u]) → w.grownBy w' v.ownBlock → (v'.ownBlock = v.ownBlock ∨ v'.ownBlock = some w.heap.size) → wpList P ops Q rest (a.put o.dst v') w') :
    wpList P ops Q (o :: rest) a w := by
  obtain ⟨i, hi', hz, hsz, hby⟩ := info_parts hi
  have hm : (xs.length + 1) * (bytes + 1) = (xs.length + 1) * bytes + (xs.length + 1) := Nat.mul_add_one _ _
  refine wpList_append_own_at w hgd s x t ho base e i z 1 bytes ht hi' hz hsz hby hzs (by decide) v xs.length xs hs hown ad 1 1 [u] hx rfl ?_ ?_ ?_ ?_ hbase ?_
  · intro j y hj
    match j, hj with
    | 0, hj =>
      simp at hj
      subst hj
      simpa [Addr.add] using hu
  · intro y hy
    simp at hy
    subst hy
    exact h1
  · simp only [maxLen]; omega
  · omega
  · intro v' w' h2 h3 _ h5
    exact h v' w' (by unfold Owns; rw [List.length_append]; exact h2) h3 h5
end Go.Proofs.YtjkmoahnociaiaaDoor
/- Aids of no one program: appending a slice that came in, storing into a row of the call's own, bytes read as a string. -/
namespace Go.Proofs.YtjkmoahnociaiaaDoor
open Go.RowKit

theorem run_append_nothing {P : Program} {w : World} {t ty e : TypeId} {i : TypeInfo} {base size n : Nat} {v : Value} {xs : List Value} (ht : P.underlying t = some (.slice e)) (hi : P.info? e = some i)
    (hown : w.ownsRow base e size v n xs) (c : Nat) : (Builtin.append_ #[t, t] ty #[v, .slice none 0 c]).run P w = .ok v w := by
  rcases hown.2 with ⟨rfl, rfl⟩ | ⟨g, cap, cur, rfl, _, _, hnc, _⟩
  · simp [Builtin.append_, run_underlying ht, sizeOf, typeInfo, hi, Builtin.lenOf, Builtin.firstCells]
  · simp [Builtin.append_, run_underlying ht, sizeOf, typeInfo, hi, Builtin.lenOf, Builtin.firstCells, hnc, storeCells]

/-- 'append(s, t...)' where t reads as numbers. -/
theorem run_more {P : Program} {w : World} {t ty e : TypeId} {base size bytes n : Nat} {z v : Value} {xs : List Value} (ht : P.underlying t = some (.slice e))
    (hi : (P.info? e).map (fun i => (i.zero, i.size, i.bytes)) = some (some z, size, bytes)) (hzs : z.cells.size = size) (hsz : 0 < size) (hown : w.ownsRow base e size v n xs)
    (A : Option Addr) (m c : Nat) (k : IntKind) (ys : List Int) (hr : Reads w k A ys) (hl : ys.length = m * size)
    (h63 : n + m ≤ maxLen) (hbytes : (n + m) * bytes ≤ 140737488355328) (hbase : base ≤ w.heap.size) :
    ∃ v' w', (Builtin.append_ #[t, t] ty #[v, .slice A m c]).run P w = .ok v' w' ∧ w'.ownsRow base e size v' (n + m) (xs ++ nums k ys) ∧ w.grownBy w' v.ownBlock ∧ (v'.ownBlock = v.ownBlock ∨ v'.ownBlock = some w.heap.size) := by
  obtain ⟨i, hi', hz, hs, hby⟩ := info_parts hi
  rcases A with _ | ad
  · have h0 : ys = [] := by
      rcases ys with _ | ⟨y, ys⟩
      · rfl
      · obtain ⟨b, o, e, _⟩ := hr (by simp)
        cases e
    subst h0
    have hm : m = 0 := by
      rcases Nat.eq_zero_or_pos m with h | h
      · exact h
      · have := Nat.mul_pos h hsz
        simp at hl; omega
    subst hm
    exact ⟨v, w, run_append_nothing ht hi' hown c, by simpa [nums] using hown, only_refl _ _, .inl rfl⟩
  · obtain ⟨v', w', hrun, h2, h3, _, h5⟩ := run_append_own_at (P := P) w base t ty e i z size bytes ht hi' hz hs hby hzs hsz v n xs hown ad m c (nums k ys) (by rw [nums_length]; exact hl)
      (fun j u hj => by
        rw [nums_get] at hj
        obtain ⟨x, hx, rfl⟩ := Option.map_eq_some_iff.1 hj
        obtain ⟨b, o, e, hc⟩ := hr.at_ hx
        cases e
        have : (⟨b, o, none⟩ : Addr).add j = ⟨b, o + j, none⟩ := by unfold Addr.add; split <;> simp_all
        rw [this]; exact hc)
      (fun u hu => by
        simp [nums] at hu
        obtain ⟨x, _, rfl⟩ := hu
        rfl) h63 hbytes hbase
    exact ⟨v', w', hrun, h2, h3, h5⟩
theorem wpList_more {P : Program} {ops : Array Oper} {rest : List Oper} {o : Oper} {a : Act} {Q : Exit → Act → World → Prop} {w : World} (hgd : o.guard = none) (s x : Operand) (t : TypeId)
    (ho : o.op = .call { callee := .builtin .append, args := #[s, x], argTypes := #[t, t] })
    (base : Nat) (e : TypeId) (z : Value) (size bytes : Nat) (ht : P.underlying t = some (.slice e)) (hi : (P.info? e).map (fun i => (i.zero, i.size, i.bytes)) = some (some z, size, bytes)) (hzs : z.cells.size = size) (hsz : 0 < size)
    (v : Value) (n : Nat) (xs : List Value) (hs : a.eval s = v) (hown : w.ownsRow base e size v n xs)
    (A : Option Addr) (m c : Nat) (k : IntKind) (ys : List Int) (hx : a.eval x = .slice A m c) (hr : Reads w k A ys) (hl : ys.length = m * size)
    (h63 : n + m ≤ maxLen) (hbytes : (n + m) * bytes ≤ 140737488355328) (hbase : base ≤ w.heap.size)
    (h : ∀ v' w', w'.ownsRow base e size v' (n + m) (xs ++ nums k ys) → w.grownBy w' v.ownBlock → (v'.ownBlock = v.ownBlock ∨ v'.ownBlock = some w.heap.size) → wpList P ops Q rest (a.put o.dst v') w') :
    wpList P ops Q (o :: rest) a w := by
  refine wpList_plain hgd fun K hK => ?_
  obtain ⟨v', w', hr, h2, h3, h5⟩ := run_more (P := P) (ty := o.type) ht hi hzs hsz hown A m c k ys hr hl h63 hbytes hbase
  unfold Oper.wp execOp
  simp only [ho, resolve, invoke, builtin, Sem.run_bind, Sem.run_pure, Result.andThen_ok, List.map_toArray, List.map_cons, List.map_nil, hs, hx, hr]
  exact hK _ _ (h v' w' h2 h3 h5)

section
variable {w w' : World} {base : Nat} {e : TypeId} {size n : Nat} {v : Value} {xs : List Value}
theorem rows_form (h : w.ownsRow base e size v n xs) : ∃ A c, v = .slice A n c := by
  rcases h.2 with ⟨rfl, h0⟩ | ⟨g, cap, cur, rfl, _⟩
  · exact ⟨none, 0, by rw [h0]⟩
  · exact ⟨_, cap, rfl⟩
theorem rows_below (h : w.ownsRow base e size v n xs) (hb : Below w.heap.size w w') : w'.ownsRow base e size v n xs := World.ownsRow.kept h (only_of_below hb none) (by cases v.ownBlock <;> simp)
theorem rows_more {base' : Nat} (h : w.ownsRow base e size v n xs) (hB : base' ≤ base) : w.ownsRow base' e size v n xs := by
  refine ⟨h.1, ?_⟩
  rcases h.2 with hn | ⟨g, cap, cur, hv, hb, rest⟩
  · exact .inl hn
  · exact .inr ⟨g, cap, cur, hv, by omega, rest⟩
theorem rows_reads {k : IntKind} {l : List Int} (h : w.ownsRow base e size v n (nums k l)) : ∃ A c, v = .slice A n c ∧ Reads w k A l ∧ v.ownBlock = A.map (·.block) := by
  rcases h.2 with ⟨rfl, h0⟩ | ⟨g, cap, cur, rfl, _, hh, hle, _, hsz, htk⟩
  · have := h.1
    rw [nums_length, h0] at this
    exact ⟨none, 0, by rw [h0], fun hn => by omega, rfl⟩
  · refine ⟨_, cap, rfl, fun _ => ⟨g, 0, rfl, fun j x hx => ?_⟩, rfl⟩
    have := World.ownsRow.cells h (g := g) rfl j (.int k x) (by rw [nums_get, hx]; rfl)
    unfold Addr.add at this
    split at this <;> simp_all
/-- A cell of the row turned. -/
theorem rows_store {c : Nat} {A : Addr} (h : w.ownsRow base e size (.slice (some A) n c) n xs) {i : Nat} (hi : i < xs.length) (u : Value) : ∃ g, A = ⟨g, 0, none⟩ ∧ w.cell? ⟨g, i, none⟩ = xs[i]? ∧ w.frozen? ⟨g, i, none⟩ = false ∧
    (w.setCell ⟨g, i, none⟩ u).ownsRow base e size (.slice (some A) n c) n (xs.set i u) := by
  rcases h.2 with ⟨hv, _⟩ | ⟨g, cap, cur, hv, hb, hh, hnc, hcm, hsz, htk⟩
  · cases hv
  cases hv
  have hB : Blk w g e cur.toList := by unfold Blk; simpa using hh
  refine ⟨g, rfl, ?_, hB.frozen i, ?_⟩
  · rw [hB.cell, ← htk, List.getElem?_take, if_pos (by have := h.1; omega)]
  · have hS := hB.set_ i u
    refine ⟨by simpa using h.1, .inr ⟨g, c, _, rfl, hb, hS, hnc, hcm, by simpa using hsz, ?_⟩⟩
    rw [← htk]
    simp only [List.take_set]
end
/-- Bytes that read as a list, as a string. -/
theorem run_text {P : Program} {w : World} {src dst e : TypeId} (hs : P.underlying src = some (.slice e)) (he : P.underlying e = some (.int .u8)) (hd : P.underlying dst = some .string)
    {A : Option Addr} {n c : Nat} {l : List Int} (hr : Reads w .u8 A l) (hl : l.length = n) : (convert src dst (.slice A n c)).run P w = .ok (.string (strOfNums l)) w := by
  rcases A with _ | ad
  · have h0 : l = [] := by
      rcases l with _ | ⟨y, ys⟩
      · rfl
      · obtain ⟨b, o, e, _⟩ := hr (by simp)
        cases e
    subst h0
    rw [run_convert_bytes_nil w src e hs he n c dst hd]; rfl
  · rcases Nat.eq_zero_or_pos n with h0 | h0
    · subst h0
      obtain rfl : l = [] := List.eq_nil_of_length_eq_zero hl
      rw [run_convert_bytes_string w src dst e _ 0 c hs he hd, run_bytesToString w ad 0 c [] (by simp [loadCells, loadCellsFrom])]; rfl
    · obtain ⟨b, o, e', hc⟩ := hr (by omega)
      cases e'
      refine run_convert_bytes_arg w src e hs he b o n c l hl (fun i hi => ?_) dst hd
      have hi' : i < l.length := by omega
      rw [hc i l[i] (List.getElem?_eq_getElem hi')]
      simp [List.getD, List.getElem?_eq_getElem hi']
theorem strOfNums_inj {a b : List Int} (ha : ∀ x ∈ a, 0 ≤ x ∧ x ≤ 255) (hb : ∀ x ∈ b, 0 ≤ x ∧ x ≤ 255) (h : strOfNums a = strOfNums b) : a = b := by
  have h' : (a.map fun n => UInt8.ofNat n.toNat) = b.map fun n => UInt8.ofNat n.toNat := by
    have := congrArg (fun s => s.data.toList) h
    simpa [strOfNums] using this
  clear h
  induction a generalizing b with
  | nil => cases b with
    | nil => rfl
    | cons y ys => simp at h'
  | cons x xs ih => cases b with
    | nil => simp at h'
    | cons y ys =>
      simp only [List.map_cons, List.cons.injEq] at h'
      have hx := ha x (by simp)
      have hy := hb y (by simp)
      have e : x = y := by
        have := congrArg UInt8.toNat h'.1
        simp [UInt8.toNat_ofNat'] at this
        omega
      rw [e, ih (fun z hz => ha z (by simp [hz])) (fun z hz => hb z (by simp [hz])) h'.2]
end Go.Proofs.YtjkmoahnociaiaaDoor
/- Aids of no one program: slices that read as cells (elements of more than one cell), their appending; blocks and rows of several types side by side. -/
namespace Go.Proofs.YtjkmoahnociaiaaDoor
open Go.RowKit

/-- A slice value reads as these cells; nil and empty ones too. -/
def CReads (w : World) (A : Option Addr) (xs : List Value) : Prop :=
  0 < xs.length → ∃ b o, A = some ⟨b, o, none⟩ ∧ ∀ (j : Nat) (x : Value), xs[j]? = some x → w.cell? ⟨b, o + j, none⟩ = some x
section
variable {w w' : World} {A : Option Addr} {xs ys : List Value}
theorem CReads.at_ (h : CReads w A xs) {i : Nat} {x : Value} (hx : xs[i]? = some x) : ∃ b o, A = some ⟨b, o, none⟩ ∧ w.cell? ⟨b, o + i, none⟩ = some x := by
  obtain ⟨b, o, e, hc⟩ := h (by have := (List.getElem?_eq_some_iff.1 hx).1; omega)
  exact ⟨b, o, e, hc i x hx⟩
theorem CReads.below (h : CReads w A xs) (hb : Below w.heap.size w w') : CReads w' A xs := fun hn => by
  obtain ⟨b, o, e, hc⟩ := h hn
  exact ⟨b, o, e, fun j x hx => cell_kept hb (hc j x hx)⟩
theorem CReads.grown (h : CReads w A xs) {row : Option Nat} (hb : w.grownBy w' row) (hne : ∀ b o, A = some ⟨b, o, none⟩ → some b ≠ row) : CReads w' A xs := fun hn => by
  obtain ⟨b, o, e, hc⟩ := h hn
  exact ⟨b, o, e, fun j x hx => hb.cell (hc j x hx) (hne b o e)⟩
theorem CReads.drewN (h : CReads w A xs) (n : Nat) : CReads (w.drewN n) A xs := h
theorem CReads.drew (h : CReads w A xs) : CReads w.drew A xs := h
theorem CReads.nil (w : World) (A : Option Addr) : CReads w A [] := fun h => absurd h (by simp)
theorem CReads.front (h : CReads w A (xs ++ ys)) : CReads w A xs := fun hn => by
  obtain ⟨b, o, e, hc⟩ := h (by rw [List.length_append]; omega)
  exact ⟨b, o, e, fun j x hx => hc j x (by rw [List.getElem?_append_left (List.getElem?_eq_some_iff.1 hx).1]; exact hx)⟩
theorem CReads.of_reads {k : IntKind} {l : List Int} (h : Reads w k A l) : CReads w A (nums k l) := fun hn => by
  rw [nums_length] at hn
  obtain ⟨b, o, e, hc⟩ := h hn
  refine ⟨b, o, e, fun j x hx => ?_⟩
  rw [nums_get] at hx
  obtain ⟨y, hy, rfl⟩ := Option.map_eq_some_iff.1 hx
  exact hc j y hy
theorem CReads.reads {k : IntKind} {l : List Int} (h : CReads w A (nums k l)) : Reads w k A l := fun hn => by
  obtain ⟨b, o, e, hc⟩ := h (by rw [nums_length]; exact hn)
  exact ⟨b, o, e, fun j x hx => hc j _ (by rw [nums_get, hx]; rfl)⟩
theorem CReads.of_blk {g : Nat} {t : TypeId} {l : List Value} (h : Blk w g t l) : CReads w (some ⟨g, 0, none⟩) l := fun _ => ⟨g, 0, rfl, fun j x hx => by rw [h.cell, Nat.zero_add]; exact hx⟩
theorem rows_cells {base : Nat} {e : TypeId} {size n : Nat} {v : Value} (h : w.ownsRow base e size v n xs) (hs : 0 < size) : ∃ A c, v = .slice A n c ∧ CReads w A xs ∧ v.ownBlock = A.map (·.block) := by
  rcases h.2 with ⟨rfl, h0⟩ | ⟨g, cap, cur, rfl, _, hh, hle, _, hsz, htk⟩
  · have := h.1
    rw [h0, Nat.zero_mul] at this
    exact ⟨none, 0, by rw [h0], fun hn => by omega, rfl⟩
  · refine ⟨_, cap, rfl, fun _ => ⟨g, 0, rfl, fun j x hx => ?_⟩, rfl⟩
    have := World.ownsRow.cells h (g := g) rfl j x hx
    unfold Addr.add at this
    split at this <;> simp_all
end
theorem run_cells {P : Program} {w : World} {t ty e : TypeId} {base size bytes n : Nat} {z v : Value} {xs : List Value} (ht : P.underlying t = some (.slice e))
    (hi : (P.info? e).map (fun i => (i.zero, i.size, i.bytes)) = some (some z, size, bytes)) (hzs : z.cells.size = size) (hsz : 0 < size) (hown : w.ownsRow base e size v n xs)
    (A : Option Addr) (m c : Nat) (ys : List Value) (hr : CReads w A ys) (hl : ys.length = m * size) (h1 : ∀ u ∈ ys, u.oneCell' = true)
    (h63 : n + m ≤ maxLen) (hbytes : (n + m) * bytes ≤ 140737488355328) (hbase : base ≤ w.heap.size) :
    ∃ v' w', (Builtin.append_ #[t, t] ty #[v, .slice A m c]).run P w = .ok v' w' ∧ w'.ownsRow base e size v' (n + m) (xs ++ ys) ∧ w.grownBy w' v.ownBlock ∧ (v'.ownBlock = v.ownBlock ∨ v'.ownBlock = some w.heap.size) := by
  obtain ⟨i, hi', hz, hs, hby⟩ := info_parts hi
  rcases A with _ | ad
  · have h0 : ys = [] := by
      rcases ys with _ | ⟨y, ys⟩
      · rfl
      · obtain ⟨b, o, e, _⟩ := hr (by simp)
        cases e
    subst h0
    have hm : m = 0 := by
      rcases Nat.eq_zero_or_pos m with h | h
      · exact h
      · have := Nat.mul_pos h hsz
        simp at hl; omega
    subst hm
    exact ⟨v, w, run_append_nothing ht hi' hown c, by simpa using hown, only_refl _ _, .inl rfl⟩
  · obtain ⟨v', w', hrun, h2, h3, _, h5⟩ := run_append_own_at (P := P) w base t ty e i z size bytes ht hi' hz hs hby hzs hsz v n xs hown ad m c ys hl
      (fun j u hj => by
        obtain ⟨b, o, e, hc⟩ := hr.at_ hj
        cases e
        have : (⟨b, o, none⟩ : Addr).add j = ⟨b, o + j, none⟩ := by unfold Addr.add; split <;> simp_all
        rw [this]; exact hc)
      h1 h63 hbytes hbase
    exact ⟨v', w', hrun, h2, h3, h5⟩
/-- 'append(s, t...)' where t reads as cells. -/
theorem wpList_cells {P : Program} {ops : Array Oper} {rest : List Oper} {o : Oper} {a : Act} {Q : Exit → Act → World → Prop} {w : World} (hgd : o.guard = none) (s x : Operand) (t : TypeId)
    (ho : o.op = .call { callee := .builtin .append, args := #[s, x], argTypes := #[t, t] })
    (base : Nat) (e : TypeId) (z : Value) (size bytes : Nat) (ht : P.underlying t = some (.slice e)) (hi : (P.info? e).map (fun i => (i.zero, i.size, i.bytes)) = some (some z, size, bytes)) (hzs : z.cells.size = size) (hsz : 0 < size)
    (v : Value) (n : Nat) (xs : List Value) (hs : a.eval s = v) (hown : w.ownsRow base e size v n xs)
    (A : Option Addr) (m c : Nat) (ys : List Value) (hx : a.eval x = .slice A m c) (hr : CReads w A ys) (hl : ys.length = m * size) (h1 : ∀ u ∈ ys, u.oneCell' = true)
    (h63 : n + m ≤ maxLen) (hbytes : (n + m) * bytes ≤ 140737488355328) (hbase : base ≤ w.heap.size)
    (h : ∀ v' w', w'.ownsRow base e size v' (n + m) (xs ++ ys) → w.grownBy w' v.ownBlock → (v'.ownBlock = v.ownBlock ∨ v'.ownBlock = some w.heap.size) → wpList P ops Q rest (a.put o.dst v') w') :
    wpList P ops Q (o :: rest) a w := by
  refine wpList_plain hgd fun K hK => ?_
  obtain ⟨v', w', hr, h2, h3, h5⟩ := run_cells (P := P) (ty := o.type) ht hi hzs hsz hown A m c ys hr hl h1 h63 hbytes hbase
  unfold Oper.wp execOp
  simp only [ho, resolve, invoke, builtin, Sem.run_bind, Sem.run_pure, Result.andThen_ok, List.map_toArray, List.map_cons, List.map_nil, hs, hx, hr]
  exact hK _ _ (h v' w' h2 h3 h5)
/-- 'append(out, x)', with the bounds apart. -/
theorem wpList_push2 {P : Program} {ops : Array Oper} {rest : List Oper} {o : Oper} {a : Act} {Q : Exit → Act → World → Prop} {w : World} (hgd : o.guard = none) (s x : Operand) (t : TypeId)
    (ho : o.op = .call { callee := .builtin .append, args := #[s, x], argTypes := #[t, t] })
    (base : Nat) (e : TypeId) (z : Value) (bytes : Nat) (ht : P.underlying t = some (.slice e)) (hi : (P.info? e).map (fun i => (i.zero, i.size, i.bytes)) = some (some z, 1, bytes)) (hzs : z.cells.size = 1)
    (v : Value) (xs : List Value) (hs : a.eval s = v) (hown : Owns w base e v xs)
    (ad : Addr) (u : Value) (hx : a.eval x = .slice (some ad) 1 1) (hu : w.cell? ad = some u) (h1 : u.oneCell' = true)
    (hlen : xs.length + 1 ≤ maxLen) (hby : (xs.length + 1) * bytes ≤ 140737488355328) (hbase : base ≤ w.heap.size)
    (h : ∀ v' w', Owns w' base e v' (xs ++ [u]) → w.grownBy w' v.ownBlock → (v'.ownBlock = v.ownBlock ∨ v'.ownBlock = some w.heap.size) → wpList P ops Q rest (a.put o.dst v') w') :
    wpList P ops Q (o :: rest) a w := by
  obtain ⟨i, hi', hz, hsz, hb⟩ := info_parts hi
  refine wpList_append_own_at w hgd s x t ho base e i z 1 bytes ht hi' hz hsz hb hzs (by decide) v xs.length xs hs hown ad 1 1 [u] hx rfl ?_ ?_ hlen hby hbase ?_
  · intro j y hj
    match j, hj with
    | 0, hj =>
      simp at hj
      subst hj
      simpa [Addr.add] using hu
  · intro y hy
    simp at hy
    subst hy
    exact h1
  · intro v' w' h2 h3 _ h5
    exact h v' w' (by unfold Owns; rw [List.length_append]; exact h2) h3 h5
/-- make of n elements of one cell. -/
theorem run_makeRep {P : Program} {t e : TypeId} {z : Value} {bytes : Nat} (ht : P.underlying t = some (.slice e)) (hi : (P.info? e).map (fun i => (i.zero, i.size, i.bytes)) = some (some z, 1, bytes)) (hz1 : z.cells = #[z]) (n : Nat) (h : n ≤ 9223372036854775807) (hb : n * bytes ≤ 140737488355328) :
    ∀ w, (Instr.makeSlice t (.int .i64 (n : Int)) (.int .i64 (n : Int))).run P w = .ok (.slice (some ⟨w.heap.size, 0, none⟩) n n) (w.alloc (.cells (List.replicate n z).toArray e)) := by
  intro w
  obtain ⟨i, hi, hz, hs, hby⟩ := info_parts hi
  have hr := run_make (P := P) w t e i z ht hi hz .i64 .i64 n n (by omega) (by omega) (by
    have h1 : ((n * bytes : Nat) : Int) ≤ 140737488355328 := by omega
    rw [Int.natCast_mul, Int.mul_comm] at h1
    rw [hby]
    omega) (by omega)
  rw [hr, hs]
  simp only [Int.toNat_natCast, Nat.mul_one]
  congr 3
  apply Array.ext
  · simp [size_madeCells]
  · intro k h1 h2
    simp [madeCells, hz1, Nat.mod_one]
theorem Owns.first {w : World} {base n c : Nat} {e : TypeId} {A : Option Addr} {xs : List Value} (h : Owns w base e (.slice A n c) xs) {i : Nat} {u : Value} (hi : xs[i]? = some u) : ∃ g, A = some ⟨g, 0, none⟩ ∧ w.cell? ⟨g, i, none⟩ = some u := by
  rcases h.2 with ⟨hv, h0⟩ | ⟨g, cap, cur, hv, _⟩
  · have := (List.getElem?_eq_some_iff.1 hi).1; omega
  · cases hv
    have := World.ownsRow.cells h (g := g) rfl i u hi
    refine ⟨g, rfl, ?_⟩
    unfold Addr.add at this
    split at this <;> simp_all
/-- Block g holds cells of type t. -/
def Typed (w : World) (g : Nat) (t : TypeId) : Prop := ∃ cs, w.heap[g]? = some (.cells cs t (0, 0))
theorem Typed.ne {w : World} {a b : Nat} {t u : TypeId} (ha : Typed w a t) (hb : Typed w b u) (h : t ≠ u) : a ≠ b := by
  rintro rfl
  obtain ⟨_, ha⟩ := ha
  obtain ⟨_, hb⟩ := hb
  rw [ha] at hb
  cases hb
  exact h rfl
theorem Blk.typed {w : World} {b : Nat} {t : TypeId} {l : List Value} (h : Blk w b t l) : Typed w b t := ⟨_, h⟩
theorem rows_typed {w : World} {base : Nat} {e : TypeId} {size n : Nat} {v : Value} {xs : List Value} (h : w.ownsRow base e size v n xs) {g : Nat} (hg : v.ownBlock = some g) : Typed w g e := by
  rcases h.2 with ⟨rfl, _⟩ | ⟨g', cap, cur, rfl, _, hh, _⟩
  · simp [Value.ownBlock] at hg
  · have e2 : g' = g := Option.some.inj hg
    subst e2
    exact ⟨_, hh⟩
/-- Some blocks, and what is new, have turned. -/
structure Tur (w w' : World) (bs : List Nat) : Prop where
  os : w'.os = w.os
  tape : w'.tape = w.tape
  output : w'.output = w.output
  size : w.heap.size ≤ w'.heap.size
  block : ∀ i, i < w.heap.size → i ∉ bs → w'.heap[i]? = w.heap[i]?
theorem below_drew0 {B : Nat} {w w' : World} (h : Below B w w') : Below B w w'.drew := ⟨h.os, h.tape, h.output, h.size, h.block⟩
/-- Two rows that share no memory. -/
def Far (a b : Value) : Prop := a.ownBlock = none ∨ a.ownBlock ≠ b.ownBlock
theorem Far.symm {a b : Value} (h : Far a b) : Far b a := by
  unfold Far at h ⊢
  rcases h with h | h
  · rcases hb : b.ownBlock with _ | g
    · exact .inl rfl
    · exact .inr (by rw [h]; simp)
  · rcases hb : b.ownBlock with _ | g
    · exact .inl rfl
    · exact .inr (by rw [← hb]; exact fun e => h e.symm)
end Go.Proofs.YtjkmoahnociaiaaDoor
