/- Over all purses: one more. -/
import Derived.Test.YtmemdicdehppjaaR9
namespace Go.Proofs.Ytmemdicdehppjaa
open Go.RowKit

section
variable {w w' : World} {base : Nat} {N : List ND}
theorem kids_app (x : ND) : ∀ (N : List ND) (j : Nat), kids (N ++ [x]) j = kids N j ++ (if x.up = some j then [x.rk] else [])
  | [], j => by
    rw [List.nil_append, kids_cons]
    split <;> rfl
  | y :: l, j => by
    rw [List.cons_append, kids_cons, kids_cons, kids_app x l j]
    split <;> simp
theorem kids_none {i : Nat} (h : ∀ (k : Nat) (x : ND), N[k]? = some x → x.up ≠ some i) : kids N i = [] := by
  unfold kids
  rw [List.map_eq_nil_iff, List.filter_eq_nil_iff]
  intro x hx
  obtain ⟨k, hk⟩ := List.getElem?_of_mem hx
  simpa using h k x hk
theorem app_at {x y : ND} {k : Nat} (h : (N ++ [x])[k]? = some y) : (k < N.length ∧ N[k]? = some y) ∨ (k = N.length ∧ y = x) := by
  rcases Nat.lt_or_ge k N.length with hlt | hge
  · rw [List.getElem?_append_left hlt] at h
    exact .inl ⟨hlt, h⟩
  · rw [List.getElem?_append_right hge] at h
    rcases Nat.eq_or_lt_of_le hge with e | hgt
    · rw [← e, Nat.sub_self] at h
      simp at h
      exact .inr ⟨e.symm, h.symm⟩
    · rw [List.getElem?_eq_none (by simp; omega)] at h
      cases h
theorem app_old {x y : ND} {k : Nat} (h : N[k]? = some y) : (N ++ [x])[k]? = some y := by
  rw [List.getElem?_append_left]
  · exact h
  · rcases Nat.lt_or_ge k N.length with hlt | hge
    · exact hlt
    · rw [List.getElem?_eq_none hge] at h; cases h
theorem upB_app (h : Forest w base N) {i : Nat} {x y : ND} (hi : N[i]? = some y) : upB (N ++ [x]) y.up = upB N y.up := by
  rcases hu : y.up with _ | j
  · rfl
  · obtain ⟨z, hz, _⟩ := h.u i y hi j hu
    simp only [upB, Option.bind_some, hz, app_old hz]
/-- Below two steps, seen as one. -/
theorem Forest.lt (h : Forest w base N) {i : Nat} {x : ND} (hi : N[i]? = some x) : x.b < w.heap.size ∧ x.r < w.heap.size ∧ ∀ g, x.row.ownBlock = some g → g < w.heap.size :=
  ⟨(h.p i x hi).1.lt, (h.r i x hi).lt, fun g hg => ((h.o i x hi).lt hg).2⟩
/-- A new purse that is no part. -/
theorem Forest.root (h : Forest w base N) (hb : Below w.heap.size w w') {q r lk : Nat} {limit : Int} (hp : IsP w' q (newP limit lk)) (hr : Blk w' r 69 (RS.cells ⟨limit, 0, 0, true, false, .slice none 0 0⟩)) (hq : w.heap.size ≤ q) (hr0 : w.heap.size ≤ r) (hl : w.heap.size ≤ lk) (hbase : base ≤ w.heap.size)
    (hl0 : 0 ≤ limit) (hl1 : limit ≤ 9223372036854775807) : Forest w' base (N ++ [⟨q, r, lk, limit, 0, 0, true, none, .slice none 0 0⟩]) := by
  have hg := only_of_below hb none
  have hks : ∀ j, kids (N ++ [⟨q, r, lk, limit, 0, 0, true, none, .slice none 0 0⟩]) j = kids N j := fun j => by rw [kids_app]; simp
  have hkn : kids N N.length = [] := kids_none fun k x hk hu => by
    obtain ⟨y, hy, _⟩ := h.u k x hk _ hu
    rw [List.getElem?_eq_none (Nat.le_refl _)] at hy
    cases hy
  have e1 : ND.ps (N ++ [⟨q, r, lk, limit, 0, 0, true, none, .slice none 0 0⟩]) N.length ⟨q, r, lk, limit, 0, 0, true, none, .slice none 0 0⟩ = newP limit lk := by
    unfold ND.ps
    rw [hks, hkn]
    rfl
  have e2 : ∀ k z, N[k]? = some z → ND.ps (N ++ [⟨q, r, lk, limit, 0, 0, true, none, .slice none 0 0⟩]) k z = z.ps N k := fun k z hz => by
    unfold ND.ps
    rw [hks, upB_app h hz]
  refine ⟨?_, ?_, ?_, ?_, ?_, ?_, ?_, ?_, ?_⟩
  · intro k z hk
    rcases app_at hk with ⟨_, hk⟩ | ⟨rfl, rfl⟩
    · rw [e2 k z hk]; exact (h.p k z hk).still hg
    · rw [e1]; exact hp
  · intro k z hk
    rcases app_at hk with ⟨_, hk⟩ | ⟨rfl, rfl⟩
    · exact (h.r k z hk).grown hg (by simp)
    · exact hr
  · intro k z hk
    rw [hks]
    rcases app_at hk with ⟨_, hk⟩ | ⟨rfl, rfl⟩
    · exact (h.o k z hk).below hb
    · rw [hkn]; exact owns_nil _ _ _
  · intro k z hk
    rcases app_at hk with ⟨_, hk⟩ | ⟨rfl, rfl⟩
    · rw [e2 k z hk]; exact h.g k z hk
    · rw [e1]; exact newP_good hl0 hl1
  · intro k j y z hk hj e
    rcases app_at hk with ⟨_, hk⟩ | ⟨rfl, rfl⟩ <;> rcases app_at hj with ⟨_, hj⟩ | ⟨rfl, rfl⟩
    · exact h.db k j y z hk hj e
    · have := (h.lt hk).1; dsimp only at e; omega
    · have := (h.lt hj).1; dsimp only at e; omega
    · rfl
  · intro k j y z hk hj e
    rcases app_at hk with ⟨_, hk⟩ | ⟨rfl, rfl⟩ <;> rcases app_at hj with ⟨_, hj⟩ | ⟨rfl, rfl⟩
    · exact h.dr k j y z hk hj e
    · have := (h.lt hk).2.1; dsimp only at e; omega
    · have := (h.lt hj).2.1; dsimp only at e; omega
    · rfl
  · intro k j y z hk hj e hne
    rcases app_at hk with ⟨_, hk⟩ | ⟨rfl, rfl⟩ <;> rcases app_at hj with ⟨_, hj⟩ | ⟨rfl, rfl⟩
    · exact h.dw k j y z hk hj e hne
    · exact absurd e hne
    · exact absurd rfl hne
    · rfl
  · intro k z hk j hu
    rcases app_at hk with ⟨_, hk⟩ | ⟨rfl, rfl⟩
    · obtain ⟨y, hy, h1, h2⟩ := h.u k z hk j hu
      exact ⟨y, app_old hy, h1, h2⟩
    · cases hu
  · intro k z hk
    rcases app_at hk with ⟨_, hk⟩ | ⟨rfl, rfl⟩
    · exact h.lo k z hk
    · exact ⟨by dsimp only; omega, by dsimp only; omega, by dsimp only; omega⟩
/-- Both lists of handles. -/
structure Laid (w : World) (base : Nat) (N : List ND) (va vb : Value) : Prop where
  f : Forest w base N
  a : Owns w base 24 va (N.map fun x => .pointer (some ⟨x.b, 0, none⟩))
  b : Owns w base 40 vb (N.map fun x => .pointer (some ⟨x.r, 0, none⟩))
  d : ∀ (i : Nat) (x : ND), N[i]? = some x → x.row.ownBlock = vb.ownBlock → x.row.ownBlock = none
theorem Laid.moved {va vb : Value} (h : Laid w base N va vb) (hm : Moved w base N w') : ∃ N', N'.length = N.length ∧ Laid w' base N' va vb ∧ ∀ B, B ≤ base → base ≤ w.heap.size → Below B w w' := by
  obtain ⟨N', hF, hb, hr, hw, bs, ht, hbs⟩ := hm
  have hty : ∀ t, t ≠ 60 → t ≠ 69 → ∀ g ∈ bs, ∃ u, t ≠ u ∧ Typed w g u := fun t h1 h2 g hg => by
    rcases (hbs g hg).2 with h3 | h3
    · exact ⟨60, h1, h3⟩
    · exact ⟨69, h2, h3⟩
  have e1 : (N'.map fun x => Value.pointer (some ⟨x.b, 0, none⟩)) = N.map fun x => .pointer (some ⟨x.b, 0, none⟩) := by
    have := congrArg (List.map fun b : Nat => Value.pointer (some ⟨b, 0, none⟩)) hb
    simpa [List.map_map, Function.comp_def] using this
  have e2 : (N'.map fun x => Value.pointer (some ⟨x.r, 0, none⟩)) = N.map fun x => .pointer (some ⟨x.r, 0, none⟩) := by
    have := congrArg (List.map fun b : Nat => Value.pointer (some ⟨b, 0, none⟩)) hr
    simpa [List.map_map, Function.comp_def] using this
  refine ⟨N', by simpa using congrArg List.length hb, ⟨hF, by rw [e1]; exact h.a.asideT (hty 24 (by decide) (by decide)) ht, by rw [e2]; exact h.b.asideT (hty 40 (by decide) (by decide)) ht, ?_⟩, fun B h1 h2 => ?_⟩
  · intro i x hi hd
    have := congrArg (fun l => l[i]?) hw
    simp only [List.getElem?_map, hi, Option.map_some] at this
    rcases hx : N[i]? with _ | y
    · rw [hx] at this; cases this
    · rw [hx] at this
      have e : x.row = y.row := by simpa using this
      rw [e] at hd ⊢
      exact h.d i y hx hd
  · exact ht.below (Below.refl _ _) (Nat.le_trans h1 h2) (fun b hb => Nat.le_trans h1 (hbs b hb).1)
end
end Go.Proofs.Ytmemdicdehppjaa
