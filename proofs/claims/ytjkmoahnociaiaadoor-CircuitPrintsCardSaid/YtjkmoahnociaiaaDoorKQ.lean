/- Which lines are free of circles; the lists that Fill tells; search through what leans. No program in sight. -/
import Derived.Test.YtjkmoahnociaiaaDoorKP
namespace Go.Proofs.YtjkmoahnociaiaaDoor

/-- Free: it leans, on all ways, on what ends. -/
def Free (f : Nat → List Nat) (i : Nat) : Prop := Acc (fun p i => p ∈ f i) i
section
variable {n : Nat} {f : Nat → List Nat} {L : List Nat}
theorem order_free (h : IsOrder n f L) (hf : ∀ i, i < n → ∀ p ∈ f i, p < n) {i : Nat} (hi : i < n) : i ∈ L ↔ Free f i := by
  constructor
  · have key : ∀ (j i : Nat), L[j]? = some i → Free f i := by
      intro j
      induction j using Nat.strongRecOn with
      | _ j ih =>
        intro i hj
        refine ⟨_, fun p hp => ?_⟩
        have hm := h.topo j i hj p hp
        rw [List.mem_take_iff_getElem] at hm
        obtain ⟨k, hk, e⟩ := hm
        exact ih k (by omega) p (by rw [← e]; exact List.getElem?_eq_getElem (by omega))
    intro hm
    obtain ⟨j, hj⟩ := List.getElem?_of_mem hm
    exact key j i hj
  · intro ha
    induction ha with
    | intro i _ ih =>
      refine Classical.byContradiction fun hn => ?_
      obtain ⟨p, hp, hpn⟩ := h.full i hi hn
      exact hpn (ih p hp (hf i hi p hp))
theorem order_le (h : IsOrder n f L) : L.length ≤ n := by
  have : L.length ≤ (List.range n).length := List.Nodup.length_le_of_subset h.nd fun i hi => by simpa using h.lt i hi
  simpa using this
theorem order_all (h : IsOrder n f L) (hf : ∀ i, i < n → ∀ p ∈ f i, p < n) : L.length = n ↔ ∀ i, i < n → Free f i := by
  constructor
  · intro hl i hi
    rw [← order_free h hf hi]
    refine Classical.byContradiction fun hn => ?_
    have h1 : (i :: L).Nodup := List.nodup_cons.2 ⟨hn, h.nd⟩
    have : (i :: L).length ≤ (List.range n).length := List.Nodup.length_le_of_subset h1 fun j hj => by
      rcases List.mem_cons.1 hj with rfl | hj
      · simpa using hi
      · simpa using h.lt j hj
    simp at this
    omega
  · intro ha
    have h1 := order_le h
    have : (List.range n).length ≤ L.length := List.Nodup.length_le_of_subset List.nodup_range fun j hj => (order_free h hf (by simpa using hj)).2 (ha j (by simpa using hj))
    simp at this
    omega
end
/-- One comes from i to j by leaning, in one step or more. -/
inductive Way (f : Nat → List Nat) : Nat → Nat → Prop
  | one {i j : Nat} (h : j ∈ f i) : Way f i j
  | more {i j k : Nat} (h : j ∈ f i) (t : Way f j k) : Way f i k
section
variable {n : Nat} {f : Nat → List Nat}
theorem Way.snoc {i j k : Nat} (h : Way f i j) (hk : k ∈ f j) : Way f i k := by
  induction h with
  | one h => exact .more h (.one hk)
  | more h _ ih => exact .more h (ih hk)
theorem Way.trans {i j k : Nat} (h : Way f i j) (t : Way f j k) : Way f i k := by
  induction h with
  | one h => exact .more h t
  | more h _ ih => exact .more h (ih t)
theorem Way.lt (hf : ∀ i, i < n → ∀ p ∈ f i, p < n) {i j : Nat} (h : Way f i j) (hi : i < n) : j < n := by
  induction h with
  | one h => exact hf _ hi _ h
  | more h _ ih => exact ih (hf _ hi _ h)
theorem way_not_free {i j : Nat} (h : Way f i j) (hj : ¬ Free f j) : ¬ Free f i := by
  intro ha
  induction h with
  | one h => exact hj (Acc.inv ha h)
  | more h _ ih => exact ih hj (Acc.inv ha h)
theorem circ_not_free {i : Nat} (h : Way f i i) : ¬ Free f i := by
  intro ha
  have : ∀ i, Free f i → ∀ j, Way f i j → Way f j i → False := by
    intro i hi
    induction hi with
    | intro i _ ih =>
      intro j hij hji
      cases hij with
      | one h => exact ih j h _ (hji) (.one h)
      | more h t => exact ih _ h _ (t.trans hji) (.one h)
  exact this i ha i h h
theorem countP_lt {α : Type} {p q : α → Bool} : ∀ {l : List α}, (∀ x ∈ l, p x = true → q x = true) → (∃ x ∈ l, q x = true ∧ p x = false) → l.countP p < l.countP q
  | [], _, ⟨x, hx, _⟩ => by cases hx
  | y :: l, h, ⟨x, hx, hq, hp⟩ => by
    have hl := List.countP_mono_left (l := l) (p := p) (q := q) (fun z hz => h z (List.mem_cons_of_mem _ hz))
    rcases List.mem_cons.1 hx with rfl | hx
    · rw [List.countP_cons, List.countP_cons, hq, hp]
      simp
      omega
    · have ih := countP_lt (l := l) (p := p) (q := q) (fun z hz => h z (List.mem_cons_of_mem _ hz)) ⟨x, hx, hq, hp⟩
      rw [List.countP_cons, List.countP_cons]
      have := h y (by simp)
      by_cases hy : p y = true
      · rw [if_pos hy, if_pos (this hy)]; omega
      · rw [if_neg hy]; split <;> omega
open Classical in
theorem free_of_no_circ (hf : ∀ i, i < n → ∀ p ∈ f i, p < n) (h : ∀ i, i < n → ¬ Way f i i) : ∀ i, i < n → Free f i := by
  have key : ∀ (m i : Nat), i < n → (List.range n).countP (fun j => decide (Way f i j)) ≤ m → Free f i := by
    intro m
    induction m with
    | zero =>
      intro i hi hm
      refine ⟨_, fun p hp => ?_⟩
      have : 0 < (List.range n).countP (fun j => decide (Way f i j)) := List.countP_pos_iff.2 ⟨p, by simpa using hf i hi p hp, by simpa using Way.one hp⟩
      omega
    | succ m ih =>
      intro i hi hm
      refine ⟨_, fun p hp => ih p (hf i hi p hp) ?_⟩
      have := countP_lt (l := List.range n) (p := fun j => decide (Way f p j)) (q := fun j => decide (Way f i j))
        (fun j _ hj => by simp at hj ⊢; exact .more hp hj) ⟨p, by simpa using hf i hi p hp, by simpa using Way.one hp, by simpa using h p (hf i hi p hp)⟩
      omega
  exact fun i hi => key _ i hi (Nat.le_refl _)
theorem circ_of_not_free (hf : ∀ i, i < n → ∀ p ∈ f i, p < n) (h : ¬ ∀ i, i < n → Free f i) : ∃ i, i < n ∧ Way f i i :=
  Classical.byContradiction fun hn => h (free_of_no_circ hf fun i hi hw => hn ⟨i, hi, hw⟩)
end

/-- Waits and users while they are told, i lines behind, j of what the i-th leans on. -/
structure Fill (n : Nat) (f us : Nat → List Nat) (i j : Nat) : Prop where
  uc : ∀ p, p < n → ∀ t, (us p).count t = if t < i then (f t).count p else if t = i then ((f t).take j).count p else 0
section
variable {n : Nat} {f us : Nat → List Nat} {i j : Nat}
theorem Fill.start : Fill n f (fun _ => []) 0 0 := ⟨fun p _ t => by simp⟩
theorem Fill.step (h : Fill n f us i j) {p : Nat} (hp : (f i)[j]? = some p) {us' : Nat → List Nat} (h1 : us' p = us p ++ [i] ∨ us' p = i :: us p) (h2 : ∀ q, q ≠ p → us' q = us q) : Fill n f us' i (j + 1) := by
  refine ⟨fun q hq t => ?_⟩
  have hc : (us' p).count t = (us p).count t + if i = t then 1 else 0 := by
    rcases h1 with h1 | h1
    · rw [h1, List.count_append, List.count_singleton]; simp
    · rw [h1, List.count_cons]; simp
  have ht : ∀ q, ((f i).take (j + 1)).count q = ((f i).take j).count q + if p = q then 1 else 0 := fun q => by
    rw [List.take_add_one, hp, List.count_append]; simp [List.count_singleton]
  by_cases e : q = p
  · subst e
    rw [hc, h.uc q hq t]
    by_cases e1 : t < i
    · rw [if_pos e1, if_pos e1, if_neg (by omega)]; omega
    · rw [if_neg e1, if_neg e1]
      by_cases e2 : t = i
      · subst e2
        rw [if_pos rfl, if_pos rfl, if_pos rfl, ht, if_pos rfl]
      · rw [if_neg e2, if_neg e2, if_neg (fun e => e2 e.symm)]
  · rw [h2 q e, h.uc q hq t]
    by_cases e1 : t < i
    · rw [if_pos e1, if_pos e1]
    · rw [if_neg e1, if_neg e1]
      by_cases e2 : t = i
      · subst e2
        rw [if_pos rfl, if_pos rfl, ht, if_neg (fun e2 => e e2.symm)]; omega
      · rw [if_neg e2, if_neg e2]
theorem Fill.next (h : Fill n f us i j) (hj : (f i).length ≤ j) : Fill n f us (i + 1) 0 := by
  refine ⟨fun q hq t => ?_⟩
  rw [h.uc q hq t]
  by_cases e1 : t < i
  · rw [if_pos e1, if_pos (by omega)]
  · rw [if_neg e1]
    by_cases e2 : t = i
    · subst e2
      rw [if_pos rfl, if_pos (by omega), List.take_of_length_le hj]
    · rw [if_neg e2, if_neg (by omega)]
      simp
theorem Fill.users (h : Fill n f us n 0) : Users n f us := fun p hp t => by
  rw [h.uc p hp t]
  by_cases e : t < n
  · rw [if_pos e, if_pos e]
  · rw [if_neg e, if_neg e]; simp
theorem Users.mem (h : Users n f us) {p i : Nat} (hp : p < n) (hi : i ∈ us p) : i < n := by
  have h1 := h p hp i
  have h2 := List.count_pos_iff.2 hi
  by_cases e : i < n
  · exact e
  · rw [if_neg e] at h1; omega
end

/-! Search: from a place through all that is leant on. met: who was met; work: whose leans wait; p, m: whose leans are gone through, and how far. -/
structure Dfs (n : Nat) (f : Nat → List Nat) (place : Nat) (met : List Bool) (work : List Nat) (p m : Nat) : Prop where
  ml : met.length = n
  m0 : met[place]? = some true
  sound : ∀ i : Nat, met[i]? = some true → i = place ∨ Way f place i
  wm : ∀ i ∈ work, met[i]? = some true
  closed : ∀ i : Nat, met[i]? = some true → i ∉ work → ∀ (t q : Nat), (f i)[t]? = some q → (i = p → t < m) → met[q]? = some true
def unmet (met : List Bool) : Nat := met.count false
theorem unmet_set {met : List Bool} {q : Nat} (h : met[q]? = some false) : unmet (met.set q true) + 1 = unmet met := by
  unfold unmet
  have hq := (List.getElem?_eq_some_iff.1 h)
  obtain ⟨hlt, e⟩ := hq
  have h1 : met = met.take q ++ met[q] :: met.drop (q + 1) := by simp
  have h2 : met.set q true = met.take q ++ true :: met.drop (q + 1) := by
    rw [List.set_eq_take_append_cons_drop, if_pos hlt]
  rw [h2]
  conv => rhs; rw [h1]
  rw [List.count_append, List.count_append, List.count_cons, List.count_cons, e]
  simp
  omega
section
variable {n : Nat} {f : Nat → List Nat} {place : Nat} {met : List Bool} {work : List Nat} {p m : Nat}
theorem met_set {met : List Bool} {q i : Nat} (hq : q < met.length) : (met.set q true)[i]? = some true ↔ i = q ∨ met[i]? = some true := by
  rw [List.getElem?_set]
  by_cases e : q = i
  · subst e; simp [hq]
  · rw [if_neg e]
    constructor
    · exact .inr
    · rintro (h | h)
      · exact absurd h.symm e
      · exact h
theorem Dfs.start (hp : place < n) : Dfs n f place ((List.replicate n false).set place true) [place] n 0 := by
  have hl : place < (List.replicate n false).length := by simpa using hp
  have h1 : ∀ i : Nat, ((List.replicate n false).set place true)[i]? = some true ↔ i = place := fun i => by
    rw [met_set hl]
    constructor
    · rintro (h | h)
      · exact h
      · rw [List.getElem?_replicate] at h; split at h <;> simp at h
    · exact .inl
  refine ⟨by simp, by rw [h1], fun i hi => .inl ((h1 i).1 hi), fun i hi => ?_, fun i hi hw => ?_⟩
  · simp at hi; subst hi; rw [h1]
  · rw [h1] at hi; subst hi; simp at hw
theorem Dfs.pop (h : Dfs n f place met (work ++ [p]) n m) (hp : p < n) : Dfs n f place met work p 0 := by
  refine ⟨h.ml, h.m0, h.sound, fun i hi => h.wm i (by simp [hi]), fun i hi hw t q hq hlt => ?_⟩
  by_cases e : i = p
  · exact absurd (hlt e) (by omega)
  · exact h.closed i hi (by simp [hw, e]) t q hq (fun e2 => by
      subst e2
      have := (List.getElem?_eq_some_iff.1 hi).1
      have := h.ml
      omega)
theorem Dfs.old (h : Dfs n f place met work p m) {q : Nat} (hq : (f p)[m]? = some q) (hm : met[q]? = some true) : Dfs n f place met work p (m + 1) := by
  refine ⟨h.ml, h.m0, h.sound, h.wm, fun i hi hw t q' hq' hlt => ?_⟩
  by_cases e : i = p
  · subst e
    rcases Nat.lt_or_ge t m with h1 | h1
    · exact h.closed i hi hw t q' hq' (fun _ => h1)
    · have : t = m := by have := hlt rfl; omega
      subst this
      rw [hq] at hq'
      cases hq'
      exact hm
  · exact h.closed i hi hw t q' hq' (fun e2 => absurd e2 e)
theorem Dfs.new (h : Dfs n f place met work p m) (hpm : met[p]? = some true) {q : Nat} (hq : (f p)[m]? = some q) (hm : met[q]? = some false) : Dfs n f place (met.set q true) (work ++ [q]) p (m + 1) := by
  have hl : q < met.length := (List.getElem?_eq_some_iff.1 hm).1
  refine ⟨by rw [List.length_set]; exact h.ml, (met_set hl).2 (.inr h.m0), fun i hi => ?_, fun i hi => ?_, fun i hi hw t q' hq' hlt => ?_⟩
  · rcases (met_set hl).1 hi with rfl | hi
    · rcases h.sound p hpm with rfl | hw
      · exact .inr (.one (List.mem_of_getElem? hq))
      · exact .inr (hw.snoc (List.mem_of_getElem? hq))
    · exact h.sound i hi
  · rw [met_set hl]
    rcases List.mem_append.1 hi with hi | hi
    · exact .inr (h.wm i hi)
    · simp at hi; exact .inl hi
  · rw [met_set hl]
    simp at hw
    rcases (met_set hl).1 hi with e | hi
    · exact absurd e hw.2
    · by_cases e : i = p
      · subst e
        rcases Nat.lt_or_ge t m with h1 | h1
        · exact .inr (h.closed i hi hw.1 t q' hq' (fun _ => h1))
        · have : t = m := by have := hlt rfl; omega
          subst this
          rw [hq] at hq'
          cases hq'
          exact .inl rfl
      · exact .inr (h.closed i hi hw.1 t q' hq' (fun e2 => absurd e2 e))
theorem Dfs.done (h : Dfs n f place met work p m) (hm : (f p).length ≤ m) (k : Nat) : Dfs n f place met work n k := by
  refine ⟨h.ml, h.m0, h.sound, h.wm, fun i hi hw t q hq _ => h.closed i hi hw t q hq (fun e => ?_)⟩
  subst e
  have := (List.getElem?_eq_some_iff.1 hq).1
  omega
theorem Dfs.fin (h : Dfs n f place met [] n m) {i : Nat} : met[i]? = some true ↔ i = place ∨ Way f place i := by
  constructor
  · exact h.sound i
  · have step : ∀ {i q : Nat}, met[i]? = some true → q ∈ f i → met[q]? = some true := fun {i q} hi hq => by
      obtain ⟨t, ht⟩ := List.getElem?_of_mem hq
      refine h.closed i hi (by simp) t q ht (fun e => ?_)
      have := (List.getElem?_eq_some_iff.1 hi).1
      have := h.ml
      omega
    have key : ∀ {a b : Nat}, Way f a b → met[a]? = some true → met[b]? = some true := fun {a b} hw => by
      induction hw with
      | one h => exact fun ha => step ha h
      | more h _ ih => exact fun ha => ih (step ha h)
    rintro (rfl | hw)
    · exact h.m0
    · exact key hw h.m0
end

/-! Does one come back to a place, through the lines that are left? -/
structure Comes (n : Nat) (f : Nat → List Nat) (left : List Bool) (place : Nat) (met : List Bool) (work : List Nat) (p m : Nat) : Prop where
  ml : met.length = n
  sound : ∀ i : Nat, met[i]? = some true → left[i]? = some true ∧ Way f place i
  wm : ∀ i ∈ work, i = place ∨ met[i]? = some true
  closed : ∀ i : Nat, (i = place ∨ met[i]? = some true) → i ∉ work → ∀ (t q : Nat), (f i)[t]? = some q → (i = p → t < m) → q ≠ place ∧ (left[q]? = some true → met[q]? = some true)
section
variable {n : Nat} {f : Nat → List Nat} {left : List Bool} {place : Nat} {met : List Bool} {work : List Nat} {p m : Nat}
theorem Comes.start : Comes n f left place (List.replicate n false) [place] n 0 := by
  have h1 : ∀ i : Nat, (List.replicate n false)[i]? = some true → False := fun i h => by rw [List.getElem?_replicate] at h; split at h <;> simp at h
  refine ⟨by simp, fun i hi => (h1 i hi).elim, fun i hi => by simp at hi; exact .inl hi, fun i hi hw => ?_⟩
  rcases hi with rfl | hi
  · simp at hw
  · exact (h1 i hi).elim
theorem Comes.pop (h : Comes n f left place met (work ++ [p]) n m) (hpl : place < n) : Comes n f left place met work p 0 := by
  refine ⟨h.ml, h.sound, fun i hi => h.wm i (by simp [hi]), fun i hi hw t q hq hlt => ?_⟩
  by_cases e : i = p
  · exact absurd (hlt e) (by omega)
  · exact h.closed i hi (by simp [hw, e]) t q hq (fun e2 => by
      subst e2
      rcases hi with hi | hi
      · omega
      · have := (List.getElem?_eq_some_iff.1 hi).1
        have := h.ml
        omega)
theorem Comes.old (h : Comes n f left place met work p m) {q : Nat} (hq : (f p)[m]? = some q) (hne : q ≠ place) (hm : left[q]? = some true → met[q]? = some true) : Comes n f left place met work p (m + 1) := by
  refine ⟨h.ml, h.sound, h.wm, fun i hi hw t q' hq' hlt => ?_⟩
  by_cases e : i = p
  · subst e
    rcases Nat.lt_or_ge t m with h1 | h1
    · exact h.closed i hi hw t q' hq' (fun _ => h1)
    · have : t = m := by have := hlt rfl; omega
      subst this
      rw [hq] at hq'
      cases hq'
      exact ⟨hne, hm⟩
  · exact h.closed i hi hw t q' hq' (fun e2 => absurd e2 e)
theorem Comes.way (h : Comes n f left place met work p m) (hpm : p = place ∨ met[p]? = some true) {q : Nat} (hq : (f p)[m]? = some q) : Way f place q := by
  rcases hpm with rfl | hpm
  · exact .one (List.mem_of_getElem? hq)
  · exact (h.sound p hpm).2.snoc (List.mem_of_getElem? hq)
theorem Comes.new (h : Comes n f left place met work p m) (hpm : p = place ∨ met[p]? = some true) {q : Nat} (hq : (f p)[m]? = some q) (hne : q ≠ place) (hl : left[q]? = some true) (hm : met[q]? = some false) : Comes n f left place (met.set q true) (work ++ [q]) p (m + 1) := by
  have hlt : q < met.length := (List.getElem?_eq_some_iff.1 hm).1
  refine ⟨by rw [List.length_set]; exact h.ml, fun i hi => ?_, fun i hi => ?_, fun i hi hw t q' hq' hlt' => ?_⟩
  · rcases (met_set hlt).1 hi with rfl | hi
    · exact ⟨hl, h.way hpm hq⟩
    · exact h.sound i hi
  · rw [met_set hlt]
    rcases List.mem_append.1 hi with hi | hi
    · rcases h.wm i hi with e | e
      · exact .inl e
      · exact .inr (.inr e)
    · simp at hi; exact .inr (.inl hi)
  · rw [met_set hlt]
    simp at hw
    rw [met_set hlt] at hi
    have hi' : i = place ∨ met[i]? = some true := by
      rcases hi with e | e | e
      · exact .inl e
      · exact absurd e hw.2
      · exact .inr e
    by_cases e : i = p
    · subst e
      rcases Nat.lt_or_ge t m with h1 | h1
      · have := h.closed i hi' hw.1 t q' hq' (fun _ => h1)
        exact ⟨this.1, fun h2 => .inr (this.2 h2)⟩
      · have : t = m := by have := hlt' rfl; omega
        subst this
        rw [hq] at hq'
        cases hq'
        exact ⟨hne, fun _ => .inl rfl⟩
    · have := h.closed i hi' hw.1 t q' hq' (fun e2 => absurd e2 e)
      exact ⟨this.1, fun h2 => .inr (this.2 h2)⟩
theorem Comes.done (h : Comes n f left place met work p m) (hm : (f p).length ≤ m) (k : Nat) : Comes n f left place met work n k := by
  refine ⟨h.ml, h.sound, h.wm, fun i hi hw t q hq _ => h.closed i hi hw t q hq (fun e => ?_)⟩
  subst e
  have := (List.getElem?_eq_some_iff.1 hq).1
  omega
theorem Comes.fin (h : Comes n f left place met [] n m) (hpl : place < n) (hf : ∀ i, i < n → ∀ p ∈ f i, p < n) (hleft : ∀ i, i < n → ¬ Free f i → left[i]? = some true) : ¬ Way f place place := by
  intro hw
  have key : ∀ {a b : Nat}, Way f a b → b = place → (a = place ∨ met[a]? = some true) → a < n → False := fun {a b} hab => by
    induction hab with
    | @one i j hj =>
      intro e ha hin
      subst e
      obtain ⟨t, ht⟩ := List.getElem?_of_mem hj
      exact (h.closed i ha (by simp) t _ ht (fun e => by omega)).1 rfl
    | @more i j k hj ht ih =>
      intro e ha hin
      subst e
      obtain ⟨t, htt⟩ := List.getElem?_of_mem hj
      have hc := h.closed i ha (by simp) t _ htt (fun e => by omega)
      have hjn := hf i hin j hj
      exact ih rfl (.inr (hc.2 (hleft j hjn (way_not_free ht (circ_not_free hw))))) hjn
  exact key hw rfl (.inl rfl) hpl
end
end Go.Proofs.YtjkmoahnociaiaaDoor
