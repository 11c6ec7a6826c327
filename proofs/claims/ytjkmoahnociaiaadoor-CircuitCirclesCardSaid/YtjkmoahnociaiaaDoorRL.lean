/- A drawn region walked by hand, where what its reads lean on is kept only up to one of its steps (a store into a cell that it has read). -/
import Derived.Test.YtjkmoahnociaiaaDoorRWD
namespace Go.Proofs.YtjkmoahnociaiaaDoor
open Go.RowKit

section
variable {P : Program} {ops : Array Oper} {Q : Exit → Act → World → Prop} {md : Region.Mode} {F : World → Prop} {st : Nat}

/-- Up to step st the world is so. -/
def SL (st : Nat) (F : World → Prop) (l : Array Bool) (w : World) : Prop := l.getD st false = true ∨ F w
/-- Whatever order is picked from here on, and SL holds behind each step. -/
def wpAnyL (P : Program) (md : Region.Mode) (ops : Array Oper) (Q : Exit → Act → World → Prop) (st : Nat) (F : World → Prop) : Nat → Array Bool → Act → World → Prop
  | 0, l, a, w => Region.ready md ops l = [] ∧ Q .normal a w
  | n + 1, l, a, w => (Region.ready md ops l = [] → Q .normal a w) ∧ ∀ i ∈ Region.ready md ops l, wpOp P ops Q i (fun a' w' => SL st F (l.setIfInBounds i true) w' ∧ wpAnyL P md ops Q st F n (l.setIfInBounds i true) a' w') a w
theorem wpAny_of_L : ∀ (n : Nat) (l : Array Bool) (a : Act) (w : World), wpAnyL P md ops Q st F n l a w → wpAny P md ops Q n l a w
  | 0, _, _, _, h => h
  | n + 1, _, _, _, h => ⟨h.1, fun i hi => wpOp_mono (fun a' w' h' => wpAny_of_L n _ a' w' h'.2) (h.2 i hi)⟩
/-- What is listed has all listed on which it waits. -/
def Good (md : Region.Mode) (ops : Array Oper) (l : Array Bool) : Prop := ∀ (j : Nat) (o : Oper), ops[j]? = some o → l.getD j false = true → ∀ e ∈ o.after, Region.binds md e = true → l.getD e.on false = true
def goodB (md : Region.Mode) (ops : Array Oper) (l : Array Bool) : Bool := (List.range ops.size).all fun j => !(l.getD j false) || (match ops[j]? with | some o => o.after.all fun e => !Region.binds md e || l.getD e.on false | none => true)
theorem good_of {l : Array Bool} (h : goodB md ops l = true) : Good md ops l := fun j o ho hj e he hb => by
  have hlt : j < ops.size := (Array.getElem?_eq_some_iff.1 ho).1
  have h1 := List.all_eq_true.1 h j (List.mem_range.2 hlt)
  rw [hj, ho] at h1
  simp only [Bool.not_true, Bool.false_or] at h1
  have h2 := Array.all_eq_true'.1 h1 e he
  rw [hb] at h2
  simpa using h2
theorem getD_set {l : Array Bool} {i k : Nat} (d : Bool) (h : i ≠ k) : (l.setIfInBounds i true).getD k d = l.getD k d := by
  rw [Array.getD_eq_getD_getElem?, Array.getD_eq_getD_getElem?, Array.getElem?_setIfInBounds_ne h]
theorem getD_up {l : Array Bool} {i k : Nat} (h : l.getD k false = true) : (l.setIfInBounds i true).getD k false = true := by
  by_cases e : i = k
  · subst e
    rw [Array.getD_eq_getD_getElem?] at h ⊢
    by_cases hi : i < l.size
    · rw [Array.getElem?_setIfInBounds_self_of_lt hi]
      rfl
    · rw [Array.getElem?_eq_none (by omega)] at h
      cases h
  · rw [getD_set false e]
    exact h
theorem Good.set {l : Array Bool} (h : Good md ops l) {j : Nat} (hj : j ∈ Region.ready md ops l) : Good md ops (l.setIfInBounds j true) := fun k o ho hk e he hb => by
  by_cases e1 : j = k
  · subst e1
    obtain ⟨_, o', ho', hall⟩ := mem_ready.1 hj
    rw [ho] at ho'
    cases ho'
    exact getD_up (hall e he hb)
  · rw [getD_set false e1] at hk
    exact getD_up (h k o ho hk e he hb)
def waitsT (md : Region.Mode) (ops : Array Oper) : Nat → Nat → Nat → Bool
  | 0, _, _ => false
  | n + 1, st, i => match ops[st]? with | some o => o.after.any fun e => Region.binds md e && (e.on == i || waitsT md ops n e.on i) | none => false
/-- The step st waits for i, or for what waits for i .. -/
def waitsB (md : Region.Mode) (ops : Array Oper) (st i : Nat) : Bool := waitsT md ops 4 st i
theorem till_list {l : Array Bool} (hG : Good md ops l) : ∀ (n st i : Nat), waitsT md ops n st i = true → l.getD st false = true → l.getD i false = true
  | 0, _, _, h, _ => by cases h
  | n + 1, st, i, h, hst => by
    unfold waitsT at h
    cases ho : ops[st]? with
    | none => rw [ho] at h; cases h
    | some o =>
      rw [ho] at h
      obtain ⟨e, he, h2⟩ := Array.any_eq_true'.1 h
      rw [Bool.and_eq_true, Bool.or_eq_true, beq_iff_eq] at h2
      have h3 := hG st o ho hst e he h2.1
      rcases h2.2 with h4 | h4
      · rw [← h4]; exact h3
      · exact till_list hG n e.on i h4 h3
theorem till {l : Array Bool} {i : Nat} {w : World} (hw : waitsB md ops st i = true) (hG : Good md ops l) (h0 : l.getD i true = false) (hS : SL st F l w) : F w := by
  rcases hS with hS | hS
  · have h3 := till_list hG 4 st i hw hS
    rw [Array.getD_eq_getD_getElem?] at h3 h0
    cases h4 : l[i]? with
    | none => rw [h4] at h3; cases h3
    | some b => rw [h4] at h3 h0; simp at h3 h0; rw [h3] at h0; cases h0
  · exact hS
theorem SL.set {l : Array Bool} {i : Nat} {w : World} (hne : i ≠ st) (h : SL st F l w) : SL st F (l.setIfInBounds i true) w := h.imp (fun h => by rw [getD_set false hne]; exact h) id
theorem SL.unset {l : Array Bool} {i : Nat} {w : World} (hne : i ≠ st) (h : SL st F (l.setIfInBounds i true) w) : SL st F l w := h.imp (fun h => by rw [getD_set false hne] at h; exact h) id
theorem wpAnyL_first {T : World → Prop} {i : Nat} {oi : Oper} {v : Value} (hi : ops[i]? = some oi) (hsel : ∀ (j : Nat) (o : Oper) cs b, ops[j]? = some o → o.op ≠ .select cs b) (hQ : ∀ c a w, Q (.panic c) (a.put oi.dst v) w → Q (.panic c) a w)
    (hne : i ≠ st) (hT : ∀ (l : Array Bool) (w : World), Good md ops l → l.getD i true = false → SL st F l w → T w) :
    ∀ (n : Nat) (l : Array Bool) (a : Act) (w : World), Good md ops l →
      (∀ j oj, ops[j]? = some oj → j ≠ i → l.getD j true = false → (∀ e ∈ oj.after, Region.binds md e = true → e.on ≠ i) → oi.apart ops oj = true) →
      i ∈ Region.ready md ops l → YieldsIf P ops T oi v a → SL st F l w → wpAnyL P md ops Q st F n (l.setIfInBounds i true) (a.put oi.dst v) w → wpAnyL P md ops Q st F (n + 1) l a w := by
  intro n
  induction n with
  | zero =>
    intro l a w hG _ hr hy hS H
    refine ⟨fun h => (by rw [h] at hr; cases hr), fun j hj => ?_⟩
    by_cases hji : j = i
    · subst hji
      exact hy.wpOp hi (hT l w hG (mem_ready.1 hr).1 hS) ⟨hS.set hne, H⟩
    · have := ready_mono hj hji
      rw [H.1] at this
      cases this
  | succ n ih =>
    intro l a w hG hfree hr hy hS H
    have h0 := (mem_ready.1 hr).1
    refine ⟨fun h => (by rw [h] at hr; cases hr), fun j hj => ?_⟩
    by_cases hji : j = i
    · subst hji
      exact hy.wpOp hi (hT l w hG h0 hS) ⟨hS.set hne, H⟩
    · have h1 := H.2 j (ready_mono hj hji)
      obtain ⟨hjun, oj, hoj, hall⟩ := mem_ready.1 hj
      have hnot : ∀ e ∈ oj.after, Region.binds md e = true → e.on ≠ i := fun e he hb heq => by
        have h2 := hall e he hb
        rw [heq, Array.getD_eq_getD_getElem?] at h2
        rw [Array.getD_eq_getD_getElem?] at h0
        cases h4 : l[i]? with
        | none => rw [h4] at h2; cases h2
        | some b => rw [h4] at h2 h0; simp at h2 h0; rw [h2] at h0; cases h0
      have h2 := wpOp_putIf hoj (hfree j oj hoj hji hjun hnot) (fun cs b => hsel i oi cs b hi) (fun cs b => hsel j oj cs b hoj) hQ hy h1
      refine wpOp_mono (fun a' w' h3 => ?_) h2
      have hs3 : SL st F (l.setIfInBounds j true) w' := by
        have := h3.2.1
        rw [Array.setIfInBounds_comm _ _ (fun e => hji e.symm)] at this
        exact this.unset hne
      refine ⟨hs3, ih (l.setIfInBounds j true) a' w' (hG.set hj) (fun k ok hk hki hun hno => ?_) (ready_mono hr (fun e => hji e.symm)) h3.1 hs3 ?_⟩
      · refine hfree k ok hk hki ?_ hno
        by_cases hjk : j = k
        · subst hjk; exact hjun
        · rw [getD_set true hjk] at hun; exact hun
      · rw [Array.setIfInBounds_comm _ _ hji]
        exact h3.2.2
/-- A read, taken first. -/
theorem takeL {i : Nat} {oi : Oper} {tl : List Oper} {v : Value} {n : Nat} {l : Array Bool} {a : Act} {w : World} (hl : ops.toList.drop i = oi :: tl)
    (hs : Region.noSelect ops = true) (hf : Region.free md ops l i = true) (hr : (Region.ready md ops l).contains i = true) (hgo : goodB md ops l = true) (hwt : waitsB md ops st i = true) (hne : i ≠ st)
    (hQ : ∀ c a w, Q (.panic c) (a.put oi.dst v) w → Q (.panic c) a w) (hw : Region.wanted oi (yielded ops a.tmps) = true)
    (hy : ∀ w, F w → (execOp a.eval oi).run P w = .ok (.value v) w) (hF : F w)
    (h : wpAnyL P md ops Q st F n (l.setIfInBounds i true) (a.put oi.dst v) w) : wpAnyL P md ops Q st F (n + 1) l a w :=
  wpAnyL_first (T := F) (drop_at hl) (Region.noSelect_spec hs) hQ hne (fun l w hG h0 hS => till hwt hG h0 hS) n l a w (good_of hgo) (Region.free_spec (drop_at hl) hf) (by simpa using hr) (Or.inl ⟨hw, hy⟩) (.inr hF) h
/-- What yields in whatever world, taken first. -/
theorem takeL0 {i : Nat} {oi : Oper} {tl : List Oper} {v : Value} {n : Nat} {l : Array Bool} {a : Act} {w : World} (hl : ops.toList.drop i = oi :: tl)
    (hs : Region.noSelect ops = true) (hf : Region.free md ops l i = true) (hr : (Region.ready md ops l).contains i = true) (hgo : goodB md ops l = true) (hne : i ≠ st)
    (hQ : ∀ c a w, Q (.panic c) (a.put oi.dst v) w → Q (.panic c) a w) (hw : Region.wanted oi (yielded ops a.tmps) = true)
    (hy : ∀ w, (execOp a.eval oi).run P w = .ok (.value v) w) (hS : SL st F l w)
    (h : wpAnyL P md ops Q st F n (l.setIfInBounds i true) (a.put oi.dst v) w) : wpAnyL P md ops Q st F (n + 1) l a w :=
  wpAnyL_first (T := fun _ => True) (drop_at hl) (Region.noSelect_spec hs) hQ hne (fun _ _ _ _ _ => trivial) n l a w (good_of hgo) (Region.free_spec (drop_at hl) hf) (by simpa using hr) (Or.inl ⟨hw, fun w _ => hy w⟩) hS h
def AllL (P : Program) (md : Region.Mode) (ops : Array Oper) (Q : Exit → Act → World → Prop) (st : Nat) (F : World → Prop) (n : Nat) (l : Array Bool) (a : Act) (w : World) (rs : List Nat) : Prop :=
  ∀ i ∈ rs, wpOp P ops Q i (fun a' w' => SL st F (l.setIfInBounds i true) w' ∧ wpAnyL P md ops Q st F n (l.setIfInBounds i true) a' w') a w
theorem AllL.nil {n : Nat} {l : Array Bool} {a : Act} {w : World} : AllL P md ops Q st F n l a w [] := fun _ h => by cases h
theorem AllL.cons {n : Nat} {l : Array Bool} {a : Act} {w : World} {i : Nat} {oi : Oper} {tl : List Oper} {rs : List Nat} (hl : ops.toList.drop i = oi :: tl)
    (h : ∀ K' : Act → World → Prop, Shut (∀ a w, SL st F (l.setIfInBounds i true) w → (SL st F (l.setIfInBounds i true) w → wpAnyL P md ops Q st F n (l.setIfInBounds i true) a w) → K' a w) → if Region.wanted oi (yielded ops a.tmps) = true then Oper.wp P oi a w K' Q else K' (a.put oi.dst undef) w)
    (hs : AllL P md ops Q st F n l a w rs) : AllL P md ops Q st F n l a w (i :: rs) := fun j hj => by
  rcases List.mem_cons.1 hj with rfl | hj
  · exact wpOp_step (drop_at hl) (fun K' hK => h K' (fun a w hS hW => hK a w ⟨hS, hW hS⟩))
  · exact hs j hj
theorem readyL {rs : List Nat} {n : Nat} {l : Array Bool} {a : Act} {w : World} (hr : Region.ready md ops l = rs) (hne : rs ≠ []) (h : AllL P md ops Q st F n l a w rs) : wpAnyL P md ops Q st F (n + 1) l a w :=
  ⟨fun h0 => absurd (hr ▸ h0) hne, hr ▸ h⟩
/-- One step alone may come up. -/
theorem callL {i : Nat} {oi : Oper} {tl : List Oper} {n : Nat} {l : Array Bool} {a : Act} {w : World} (hl : ops.toList.drop i = oi :: tl) (hr : Region.ready md ops l = [i]) (hw : Region.wanted oi (yielded ops a.tmps) = true)
    (h : ∀ K' : Act → World → Prop, Shut (∀ a w, SL st F (l.setIfInBounds i true) w → (SL st F (l.setIfInBounds i true) w → wpAnyL P md ops Q st F n (l.setIfInBounds i true) a w) → K' a w) → Oper.wp P oi a w K' Q) : wpAnyL P md ops Q st F (n + 1) l a w :=
  readyL hr (by simp) (AllL.cons hl (fun K' hK => by rw [if_pos hw]; exact h K' hK) AllL.nil)
theorem doneL {l : Array Bool} {a : Act} {w : World} (hr : Region.ready md ops l = []) (h : Q .normal a w) : ∀ n, wpAnyL P md ops Q st F n l a w
  | 0 => ⟨hr, h⟩
  | _ + 1 => ⟨fun _ => h, by rw [hr]; simp⟩
theorem regionL (st : Nat) (F : World → Prop) {id : Nat} {a : Act} {w : World} (hm : P.follows .mixedOrders = true) (h : wpAnyL P .any ops Q st F ops.size (Array.replicate ops.size false) a w.drew) : (Code.region id ops true).wp P Q a w :=
  wp_region_any hm (wpAny_of_L _ _ _ _ h)
end
end Go.Proofs.YtjkmoahnociaiaaDoor
