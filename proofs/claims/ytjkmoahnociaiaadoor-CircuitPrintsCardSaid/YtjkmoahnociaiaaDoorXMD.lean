/- Rows beside writes; copies. -/
import Derived.Test.YtjkmoahnociaiaaDoorXLD
namespace Go.Proofs.YtjkmoahnociaiaaDoor
open Go.RowKit

/-- A line's first operand set to its second. -/
def turnA (g : Gt) : Gt := if g.kind = 2 ∨ g.kind = 4 then { g with a := g.b } else g
theorem rep_set {u : Value} {l : List Value} {i : Nat} (hi : i < l.length) : (List.replicate i u ++ l.drop i).set i u = List.replicate (i + 1) u ++ l.drop (i + 1) := by
  rw [List.set_append_right _ _ (by simp), List.length_replicate, Nat.sub_self, List.drop_eq_getElem_cons hi, List.set_cons_zero, List.replicate_succ', List.append_assoc]
  rfl
theorem rep_at {u x : Value} {l : List Value} {i : Nat} (hx : l[i]? = some x) : (List.replicate i u ++ l.drop i)[i]? = some x := by
  rw [List.getElem?_append_right (by simp), List.length_replicate, Nat.sub_self, List.getElem?_drop, Nat.add_zero]
  exact hx
theorem rep_snoc (l : List Value) (u : Value) (j : Nat) : l ++ List.replicate j u ++ [u] = l ++ List.replicate (j + 1) u := by
  rw [List.append_assoc, List.replicate_succ']
/-- 'append(nil, x...)' as one step of a region that draws: a copy in memory of its own. -/
theorem step_copyOf {P : Program} {ops : Array Oper} {o : Oper} {a : Act} {w : World} {K : Act → World → Prop} {Q : Exit → Act → World → Prop} {E : Prop} (hgd : o.guard = none) (x : Operand) (T : TypeId)
    (ho : o.op = .call { callee := .builtin .append, args := #[.const (.slice none 0 0), x], argTypes := #[T, T] }) (e : TypeId) (z : Value) (size bytes : Nat) (hu : P.underlying T = some (.slice e))
    (hi : (P.info? e).map (fun i => (i.zero, i.size, i.bytes)) = some (some z, size, bytes)) (hzs : z.cells.size = size) (hsz : 0 < size)
    (A : Option Addr) (m c : Nat) (ys : List Value) (hx : a.eval x = .slice A m c) (hr : CReads w A ys) (hl : ys.length = m * size) (h1 : ∀ u ∈ ys, u.oneCell' = true) (h63 : m ≤ maxLen) (hbytes : m * bytes ≤ 140737488355328)
    (h : ∀ A' c' w', Hid (w'.ownsRow w.heap.size e size (.slice A' m c') m ys) → Below w.heap.size w w' → K (a.put o.dst (.slice A' m c')) w') :
    if Region.wanted o (yielded ops a.tmps) = true then Oper.wp P o a w K Q else E := by
  have hw : Region.wanted o (yielded ops a.tmps) = true := by simp [Region.wanted, hgd]
  rw [if_pos hw]
  obtain ⟨v', w', hrun, hown, hg, _⟩ := run_cells (P := P) (ty := o.type) hu hi hzs hsz (World.ownsRow_nil w w.heap.size e size) A m c ys hr hl h1 (by rw [Nat.zero_add]; exact h63) (by rw [Nat.zero_add]; exact hbytes) (Nat.le_refl _)
  rw [Nat.zero_add, List.nil_append] at hown
  obtain ⟨A', c', rfl, _, _⟩ := rows_cells hown hsz
  have hb : Below w.heap.size w w' := ⟨hg.os, hg.tape, hg.output, hg.size, fun i hi => hg.block i hi (by simp [Value.ownBlock])⟩
  have hfin := h A' c' w' (Lib.hid hown) hb
  unfold Oper.wp
  simp only [execOp, ho, resolve, invoke, builtin, Sem.run_bind, Sem.run_pure, Result.andThen_ok, List.map_toArray, List.map_cons, List.map_nil, Act.eval, hrun]
  have hx' := hx
  unfold Act.eval at hx'
  simp only [hx', hrun]
  exact hfin
theorem only_set3 (w : World) (g : Nat) (u v x : Value) : w.grownBy (((w.setCell ⟨g, 0, none⟩ u).setCell ⟨g, 1, none⟩ v).setCell ⟨g, 2, none⟩ x) (some g) :=
  only_setCell (only_setCell (only_setCell (only_refl w (some g)) (p := ⟨g, 0, none⟩) (.inl rfl) u) (p := ⟨g, 1, none⟩) (.inl rfl) v) (p := ⟨g, 2, none⟩) (.inl rfl) x
theorem below_set3 {B : Nat} {a w : World} (h : Below B a w) {g : Nat} (hg : B ≤ g) (hB : B ≤ w.heap.size) (u v x : Value) : Below B a (((w.setCell ⟨g, 0, none⟩ u).setCell ⟨g, 1, none⟩ v).setCell ⟨g, 2, none⟩ x) :=
  h.grown (only_set3 w g u v x) hB (fun g' e => by cases e; exact hg)
theorem rows_set3 {w : World} {base : Nat} {e : TypeId} {size n : Nat} {v : Value} {xs : List Value} (h : w.ownsRow base e size v n xs) {g : Nat} (hg : g < base ∨ w.heap.size ≤ g ∨ ∀ b, v.ownBlock = some b → b < g) (u1 u2 u3 : Value) :
    (((w.setCell ⟨g, 0, none⟩ u1).setCell ⟨g, 1, none⟩ u2).setCell ⟨g, 2, none⟩ u3).ownsRow base e size v n xs :=
  World.ownsRow.kept h (only_set3 w g u1 u2 u3) (by
    rcases hv : v.ownBlock with _ | b
    · exact .inl rfl
    · refine .inr fun e2 => ?_
      have e3 := Option.some.inj e2
      have h1 := World.ownsRow.lt h b hv
      rcases hg with hg | hg | hg
      · omega
      · omega
      · have := hg b hv; omega)
theorem rows_read {w : World} {base : Nat} {e : TypeId} {size n c : Nat} {A : Option Addr} {xs : List Value} (h : w.ownsRow base e size (.slice A n c) n xs) (hs : 0 < size) : CReads w A xs := by
  obtain ⟨A', c', e1, hr, _⟩ := rows_cells h hs
  cases e1
  exact hr
theorem gcells_set {v : Value} : ∀ {gs : List Gt} {i : Nat} {g g' : Gt}, gs[i]? = some g → g'.cells = g.cells.set 3 v → (gcells gs).set (i * 6 + 3) v = gcells (gs.set i g')
  | [], i, g, g', h, _ => by simp at h
  | x :: l, 0, g, g', h, hc => by
    simp at h
    subst h
    rw [gcells_cons, List.set_append_left _ _ (by simp [Gt.cells]), List.set_cons_zero, gcells_cons, hc, Nat.zero_mul, Nat.zero_add]
  | x :: l, i + 1, g, g', h, hc => by
    rw [gcells_cons, List.set_append_right _ _ (by simp [Gt.cells]; omega), List.set_cons_succ, gcells_cons]
    congr 1
    rw [← gcells_set (gs := l) (i := i) (g := g) (by simpa using h) hc]
    congr 1
    simp [Gt.cells]
    omega
/-- The lines below k turned. -/
def turnK (gs : List Gt) (k : Nat) : List Gt := (gs.take k).map turnA ++ gs.drop k
theorem turnK_length (gs : List Gt) (k : Nat) : (turnK gs k).length = gs.length := by simp [turnK]; omega
theorem turnK_get {gs : List Gt} {k : Nat} {g : Gt} (hg : gs[k]? = some g) : (turnK gs k)[k]? = some g := by
  have hk := (List.getElem?_eq_some_iff.1 hg).1
  unfold turnK
  rw [List.getElem?_append_right (by simp; omega), List.length_map, List.length_take, Nat.min_eq_left (by omega), Nat.sub_self, List.getElem?_drop, Nat.add_zero]
  exact hg
theorem turnK_succ {gs : List Gt} {k : Nat} {g : Gt} (hg : gs[k]? = some g) : turnK gs (k + 1) = (turnK gs k).set k (turnA g) := by
  have hk := (List.getElem?_eq_some_iff.1 hg).1
  have hg2 : gs[k] = g := (List.getElem?_eq_some_iff.1 hg).2
  unfold turnK
  rw [List.set_append_right _ _ (by simp; omega), List.length_map, List.length_take, Nat.min_eq_left (by omega), Nat.sub_self, List.drop_eq_getElem_cons hk, List.set_cons_zero, List.take_add_one, hg, List.map_append]
  simp
theorem turnK_same {gs : List Gt} {k : Nat} {g : Gt} (hg : gs[k]? = some g) (h2 : ¬ g.kind = 2) (h4 : ¬ g.kind = 4) : turnK gs (k + 1) = turnK gs k := by
  rw [turnK_succ hg]
  have : turnA g = g := by unfold turnA; rw [if_neg (by omega)]
  rw [this]
  apply List.ext_getElem?
  intro j
  rw [List.getElem?_set]
  split
  · rename_i e
    subst e
    rw [if_pos (List.getElem?_eq_some_iff.1 (turnK_get hg)).1, turnK_get hg]
  · rfl
theorem turnK_zero (gs : List Gt) : turnK gs 0 = gs := by simp [turnK]
theorem turnK_all {gs : List Gt} {n : Nat} (h : gs.length = n) : turnK gs n = gs.map turnA := by subst h; simp [turnK]
theorem turnA_cells {g : Gt} (h : g.kind = 2 ∨ g.kind = 4) : (turnA g).cells = g.cells.set 3 (.int .i64 g.b) := by
  unfold turnA
  rw [if_pos h]
  rfl
end Go.Proofs.YtjkmoahnociaiaaDoor
