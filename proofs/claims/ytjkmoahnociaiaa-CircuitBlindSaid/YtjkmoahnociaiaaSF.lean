/- CircuitSteps: aids of the law's walk. -/
import Derived.Test.YtjkmoahnociaiaaSE
namespace Go.Proofs.Ytjkmoahnociaiaa
open Go.RowKit

section
variable {w w' : World} {base : Nat} {l l2 : List RW}
theorem Hold.append (h : Hold w base l) (hb : Below w.heap.size w w') (hB : base ≤ w.heap.size) (h2 : Hold w' w.heap.size l2) : Hold w' base (l ++ l2) := by
  have far : ∀ (i j : Nat) (r s : RW), l[i]? = some r → l2[j]? = some s → Far r.v s.v := fun i j r s hr hs => by
    rcases hv : r.v.ownBlock with _ | g
    · exact .inl hv
    · refine .inr fun e => ?_
      have h1 := (World.ownsRow.lt (h.1 i r hr) g hv).2
      have h3 := (World.ownsRow.lt (h2.1 j s hs) g (e.symm.trans hv)).1
      omega
  have key : ∀ (j : Nat) (x : RW), (l ++ l2)[j]? = some x → (j < l.length ∧ l[j]? = some x) ∨ (l.length ≤ j ∧ l2[j - l.length]? = some x) := fun j x hx => by
    rcases Nat.lt_or_ge j l.length with e | e
    · rw [List.getElem?_append_left e] at hx; exact .inl ⟨e, hx⟩
    · rw [List.getElem?_append_right e] at hx; exact .inr ⟨e, hx⟩
  refine ⟨fun j x hx => ?_, fun i j x y hne hx hy => ?_⟩
  · rcases key j x hx with ⟨_, hx2⟩ | ⟨_, hx2⟩
    · exact (h.below hb).1 j x hx2
    · exact rows_more (h2.1 _ x hx2) hB
  · rcases key i x hx with ⟨e1, hx2⟩ | ⟨e1, hx2⟩ <;> rcases key j y hy with ⟨e3, hy2⟩ | ⟨e3, hy2⟩
    · exact h.2 i j x y hne hx2 hy2
    · exact far i _ x y hx2 hy2
    · exact (far j _ y x hy2 hx2).symm
    · exact h2.2 _ _ x y (by omega) hx2 hy2
/-- The same rows in another order. -/
theorem Hold.pick (h : Hold w base l) (f : Nat → Nat) (hf : ∀ i r, l2[i]? = some r → l[f i]? = some r) (hi : ∀ i j, i < l2.length → j < l2.length → i ≠ j → f i ≠ f j) : Hold w base l2 :=
  ⟨fun i r hr => h.1 _ r (hf i r hr), fun i j r s hne hr hs => h.2 _ _ r s (hi i j (List.getElem?_eq_some_iff.1 hr).1 (List.getElem?_eq_some_iff.1 hs).1 hne) (hf i r hr) (hf j s hs)⟩
theorem RdT.of_blk {g : Nat} {e : TypeId} {xs : List Value} (h : Blk w g e xs) : RdT w (some ⟨g, 0, none⟩) e xs := fun _ =>
  ⟨g, 0, rfl, ⟨_, h⟩, fun j x hx => by rw [Nat.zero_add, h.cell]; exact hx⟩
end
theorem stepO_len (c : Ct) (ins las : List Bool) : (stepO c ins las).length ≤ 65536 := by
  unfold stepO
  split
  · rename_i h
    unfold stepCode at h
    split at h
    · rename_i hf
      unfold outsL
      rw [List.length_map]
      exact hf.ol
    · cases h
  · simp
theorem stepN_len (c : Ct) (ins las : List Bool) : (stepN c ins las).length ≤ 65536 := by
  unfold stepN
  split
  · rename_i h
    unfold stepCode at h
    split at h
    · rename_i hf
      unfold nextL
      rw [List.length_map]
      exact Nat.le_trans (List.length_filter_le _ _) hf.gl
    · cases h
  · simp
theorem firstO_len (c : Ct) : (firstO c).length ≤ 65536 := by
  unfold firstO
  split
  · rename_i hf
    unfold firstL
    rw [List.length_map]
    exact Nat.le_trans (List.length_filter_le _ _) hf.gl
  · simp
/-- Step's answer, its lists under letters. -/
def StepN (w : World) (xo xn : List Bool) (lo ln : Nat) (cs : Int) (e : Ending) (w' : World) : Prop :=
  ∃ A1 c1 A2 c2, e = .returned (.tuple #[.slice A1 lo c1, .slice A2 ln c2, .int .i64 cs]) ∧ Hid (Hold w' w.heap.size [row1 4 (.slice A1 lo c1) (bools xo), row1 4 (.slice A2 ln c2) (bools xn)]) ∧ Below w.heap.size w w'
theorem StepR.n {w w' : World} {c : Ct} {ins las xo xn : List Bool} {e : Ending} {lo ln : Nat} {cs : Int} (h : StepR w c ins las e w') (h1 : stepO c ins las = xo) (h2 : stepN c ins las = xn) (h3 : stepCode c ins.length las.length = cs) (h4 : xo.length = lo) (h5 : xn.length = ln) : StepN w xo xn lo ln cs e w' := by
  obtain ⟨v, v', he, hh, hb⟩ := h
  rw [h1, h2] at hh
  rw [h3] at he
  obtain ⟨A1, c1, e1⟩ := (hh.owns (i := 0) rfl).form
  obtain ⟨A2, c2, e2⟩ := (hh.owns (i := 1) rfl).form
  rw [bools_length, h4] at e1
  rw [bools_length, h5] at e2
  subst e1 e2
  exact ⟨A1, c1, A2, c2, he, Lib.hid hh, hb⟩
def FirstN (w : World) (xf : List Bool) (lf : Nat) (cs : Int) (e : Ending) (w' : World) : Prop :=
  ∃ A1 c1, e = .returned (.tuple #[.slice A1 lf c1, .int .i64 cs]) ∧ Hid (Hold w' w.heap.size [row1 4 (.slice A1 lf c1) (bools xf)]) ∧ Below w.heap.size w w'
theorem FirstR.n {w w' : World} {c : Ct} {xf : List Bool} {e : Ending} {lf : Nat} {cs : Int} (h : FirstR w c e w') (h1 : firstO c = xf) (h3 : firstCode c = cs) (h4 : xf.length = lf) : FirstN w xf lf cs e w' := by
  obtain ⟨A, k, he, ho, hb⟩ := h
  rw [h1, h4] at he ho
  rw [h3] at he
  exact ⟨A, k, he, Lib.hid ((Hold.nil w' w.heap.size).snoc ho.out (fun i s h => by simp at h)), hb⟩
theorem wants6 {p m y o n q k x z : LR} (ho : o.xs = p.xs) (hn : n.xs = m.xs) (hq : q.xs = p.xs) (hk : k.xs = m.xs) (hx : x.xs = y.xs) (hz : z.xs = y.xs) : Wants [o, n, q, k, x, z] [p.row, m.row, y.row] [p.v, m.v, p.v, m.v, y.v, y.v] := by
  intro i r hr
  have key : ∀ (a b : LR) (j : Nat), a.xs = b.xs → [p.v, m.v, p.v, m.v, y.v, y.v][i]? = some b.v → [p.row, m.row, y.row][j]? = some b.row → ∃ (A' : Option Addr) (c' j : Nat), [p.v, m.v, p.v, m.v, y.v, y.v][i]? = some (.slice A' a.xs.length c') ∧ [p.row, m.row, y.row][j]? = some (row1 4 (.slice A' a.xs.length c') (bools a.xs)) := fun a b j e h1 h2 =>
    ⟨b.A, b.c, j, by rw [e]; exact h1, by rw [e]; exact h2⟩
  match i, hr with
  | 0, hr => cases hr; exact key _ p 0 ho rfl rfl
  | 1, hr => cases hr; exact key _ m 1 hn rfl rfl
  | 2, hr => cases hr; exact key _ p 0 hq rfl rfl
  | 3, hr => cases hr; exact key _ m 1 hk rfl rfl
  | 4, hr => cases hr; exact key _ y 2 hx rfl rfl
  | 5, hr => cases hr; exact key _ y 2 hz rfl rfl
  | j + 6, hr => simp at hr
/-- The order in which alone takes the nine rows. -/
def ord9 (i : Nat) : Nat := if i = 4 then 6 else if i = 5 then 7 else if i = 6 then 4 else if i = 7 then 5 else i
theorem Hold.nine {w : World} {base : Nat} {o n q k p m x z y : RW} (h : Hold w base ([o, n] ++ [q, k] ++ [p, m] ++ [x] ++ [z] ++ [y])) : Hold w base ([o, n, q, k, x, z] ++ [p, m, y]) := by
  refine h.pick ord9 (fun i r hr => ?_) (fun i j hi hj hne => ?_)
  · match i, hr with
    | 0, hr => exact hr
    | 1, hr => exact hr
    | 2, hr => exact hr
    | 3, hr => exact hr
    | 4, hr => exact hr
    | 5, hr => exact hr
    | 6, hr => exact hr
    | 7, hr => exact hr
    | 8, hr => exact hr
    | j + 9, hr => simp at hr
  · simp at hi hj
    unfold ord9
    split <;> (try split) <;> (try split) <;> (try split) <;> (try split) <;> (try split) <;> (try split) <;> (try split) <;> omega
end Go.Proofs.Ytjkmoahnociaiaa
