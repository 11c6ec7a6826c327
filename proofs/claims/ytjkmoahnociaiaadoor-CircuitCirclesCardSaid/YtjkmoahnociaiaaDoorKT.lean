/- Lines that lean on lines, as lists of numbers: an order, and how it is found. No program in sight. -/
import Derived.Test.YtjkmoahnociaiaaDoorRows
namespace Go.Proofs.YtjkmoahnociaiaaDoor

/-- Each stands behind those on which it leans; who is left out leans on one that is left out. -/
structure IsOrder (n : Nat) (f : Nat → List Nat) (L : List Nat) : Prop where
  nd : L.Nodup
  lt : ∀ i ∈ L, i < n
  topo : ∀ (j i : Nat), L[j]? = some i → ∀ p ∈ f i, p ∈ L.take j
  full : ∀ i, i < n → i ∉ L → ∃ p ∈ f i, p ∉ L

/-- How many of l are not in P. -/
def rest (P l : List Nat) : Nat := l.countP (fun p => !P.contains p)
theorem rest_nil (l : List Nat) : rest [] l = l.length := by
  unfold rest
  rw [List.countP_eq_length]
  simp
theorem rest_snoc {P : List Nat} {p : Nat} (hp : p ∉ P) : ∀ l : List Nat, rest (P ++ [p]) l + l.count p = rest P l
  | [] => rfl
  | x :: l => by
    have ih := rest_snoc hp l
    unfold rest at ih ⊢
    rw [List.countP_cons, List.countP_cons, List.count_cons]
    by_cases e : x = p
    · subst e
      simp [hp]
      simp at ih
      omega
    · by_cases hx : x ∈ P
      · simp [hx, e]
        simp at ih
        omega
      · simp [hx, e]
        simp at ih
        omega
theorem rest_zero {P l : List Nat} (h : rest P l = 0) : ∀ p ∈ l, p ∈ P := by
  unfold rest at h
  rw [List.countP_eq_zero] at h
  intro p hp
  have := h p hp
  simpa using this
theorem rest_pos {P l : List Nat} (h : rest P l ≠ 0) : ∃ p ∈ l, p ∉ P := by
  unfold rest at h
  have : 0 < l.countP (fun p => !P.contains p) := by omega
  rw [List.countP_pos_iff] at this
  obtain ⟨p, hp, hq⟩ := this
  exact ⟨p, hp, by simpa using hq⟩
theorem count_le_rest {P : List Nat} {p : Nat} (hp : p ∉ P) (l : List Nat) : l.count p ≤ rest P l := by
  have := rest_snoc hp l
  omega

/-- Who leans on p, told by lists: each as often as it leans. -/
def Users (n : Nat) (f : Nat → List Nat) (us : Nat → List Nat) : Prop := ∀ p, p < n → ∀ i, (us p).count i = if i < n then (f i).count p else 0

/-- What the lines wait for, while the k-th of the list is looked at, m of its users behind. -/
structure Kahn (n : Nat) (f us : Nat → List Nat) (ws L : List Nat) (k m : Nat) : Prop where
  wl : ws.length = n
  nd : L.Nodup
  lt : ∀ i ∈ L, i < n
  topo : ∀ (j i : Nat), L[j]? = some i → ∀ p ∈ f i, p ∈ L.take j
  kle : k ≤ L.length
  rem : ∀ (i x : Nat), ws[i]? = some x → x + (((L[k]?).map fun p => (us p).take m).getD []).count i = rest (L.take k) (f i)
  zero : ∀ (i x : Nat), ws[i]? = some x → (i ∈ L ↔ x = 0)

section
variable {n : Nat} {f us : Nat → List Nat} {ws L : List Nat} {k m : Nat}
theorem take_sub {l : List Nat} {a b x : Nat} (h : a ≤ b) (hx : x ∈ l.take a) : x ∈ l.take b := by
  rw [List.mem_take_iff_getElem] at hx ⊢
  obtain ⟨j, hj, e⟩ := hx
  exact ⟨j, by omega, e⟩
theorem topo_snoc {L : List Nat} {u : Nat} (h : ∀ (j i : Nat), L[j]? = some i → ∀ p ∈ f i, p ∈ L.take j) (hu : ∀ p ∈ f u, p ∈ L) : ∀ (j i : Nat), (L ++ [u])[j]? = some i → ∀ p ∈ f i, p ∈ (L ++ [u]).take j := by
  intro j i hj p hp
  rcases Nat.lt_or_ge j L.length with hlt | hge
  · rw [List.getElem?_append_left hlt] at hj
    have := h j i hj p hp
    rw [List.take_append_of_le_length (by omega)]
    exact this
  · have : j = L.length := by
      rcases Nat.eq_or_lt_of_le hge with e | e
      · exact e.symm
      · rw [List.getElem?_eq_none (by simp; omega)] at hj; cases hj
    subst this
    rw [List.getElem?_append_right (by omega)] at hj
    simp at hj
    subst hj
    rw [List.take_left']
    · exact hu p hp
    · rfl
theorem nd_snoc {L : List Nat} {u : Nat} (h : L.Nodup) (hu : u ∉ L) : (L ++ [u]).Nodup := by
  rw [List.nodup_append]
  refine ⟨h, by simp, fun a ha b hb => ?_⟩
  simp at hb
  subst hb
  rintro rfl
  exact hu ha
theorem Kahn.start (hwl : ws.length = n) (hws : ∀ (i x : Nat), ws[i]? = some x → x = (f i).length) (hL : L = (List.range n).filter fun i => (f i).isEmpty) : Kahn n f us ws L 0 0 := by
  subst hL
  refine ⟨hwl, List.Pairwise.filter _ List.nodup_range, fun i hi => ?_, fun j i hj p hp => ?_, Nat.zero_le _, fun i x hx => ?_, fun i x hx => ?_⟩
  · simp at hi; exact hi.1
  · have := List.mem_of_getElem? hj
    simp at this
    rw [this.2] at hp
    cases hp
  · rw [hws i x hx, List.take_zero, rest_nil]
    have : ∀ o : Option Nat, ((o.map fun p => (us p).take 0).getD []).count i = 0 := fun o => by cases o <;> simp
    rw [this]
    omega
  · have hlt : i < n := by rw [← hwl]; exact (List.getElem?_eq_some_iff.1 hx).1
    rw [hws i x hx]
    simp [hlt]
theorem Kahn.inner (h : Kahn n f us ws L k m) (hU : Users n f us) {p u x : Nat} (hp : L[k]? = some p) (hu : (us p)[m]? = some u) (hx : ws[u]? = some x) :
    1 ≤ x ∧ Kahn n f us (ws.set u (x - 1)) (if x = 1 then L ++ [u] else L) k (m + 1) := by
  have hpn : p < n := h.lt p (List.mem_of_getElem? hp)
  have hun : u < n := by rw [← h.wl]; exact (List.getElem?_eq_some_iff.1 hx).1
  have hkl : k < L.length := (List.getElem?_eq_some_iff.1 hp).1
  have htk : L.take (k + 1) = L.take k ++ [p] := by rw [List.take_add_one, hp]; rfl
  have hpt : p ∉ L.take k := fun hm => by
    have h1 := h.nd
    rw [← List.take_append_drop (k + 1) L, htk] at h1
    rw [List.append_assoc, List.nodup_append] at h1
    exact h1.2.2 p hm p (by simp) rfl
  have hct : ∀ i, ((us p).take (m + 1)).count i = ((us p).take m).count i + (if u = i then 1 else 0) := fun i => by
    rw [List.take_add_one, hu, List.count_append]
    simp [List.count_singleton]
  have hcl : ∀ i, ((us p).take (m + 1)).count i ≤ (us p).count i := fun i => List.Sublist.count_le _ (List.take_sublist _ _)
  have hrem := fun i y hy => h.rem i y hy
  simp only [hp, Option.map_some, Option.getD_some] at hrem
  have hru := hrem u x hx
  have hcu := hU p hpn u
  rw [if_pos hun] at hcu
  have h1 : 1 ≤ x := by
    have a1 := hcl u
    rw [hct u, if_pos rfl] at a1
    have a2 := count_le_rest hpt (f u)
    omega
  have hnu : u ∉ L := fun hm => by
    have := (h.zero u x hx).1 hm
    omega
  refine ⟨h1, ?_⟩
  have hset : ∀ (i y : Nat), (ws.set u (x - 1))[i]? = some y → (i = u ∧ y = x - 1) ∨ (i ≠ u ∧ ws[i]? = some y) := fun i y hy => by
    by_cases e : i = u
    · subst e
      rw [List.getElem?_set_self (by rw [h.wl]; exact hun)] at hy
      exact .inl ⟨rfl, (Option.some.inj hy).symm⟩
    · rw [List.getElem?_set_ne (fun e2 => e e2.symm)] at hy
      exact .inr ⟨e, hy⟩
  have hrem' : ∀ (i y : Nat), (ws.set u (x - 1))[i]? = some y → y + ((us p).take (m + 1)).count i = rest (L.take k) (f i) := fun i y hy => by
    rw [hct i]
    rcases hset i y hy with ⟨rfl, rfl⟩ | ⟨e, hy⟩
    · rw [if_pos rfl, ← hru]; omega
    · rw [if_neg (fun e2 => e e2.symm), ← hrem i y hy]; omega
  by_cases e1 : x = 1
  · subst e1
    rw [if_pos rfl]
    have hall : ∀ q ∈ f u, q ∈ L.take (k + 1) := by
      have a1 := hcl u
      have a2 := hrem' u 0 (by rw [List.getElem?_set_self (by rw [h.wl]; exact hun)])
      have a3 := rest_snoc hpt (f u)
      rw [← htk] at a3
      exact rest_zero (by omega)
    refine ⟨by rw [List.length_set]; exact h.wl, nd_snoc h.nd hnu, fun i hi => ?_, topo_snoc h.topo (fun q hq => List.mem_of_mem_take (hall q hq)), by simp; omega, fun i y hy => ?_, fun i y hy => ?_⟩
    · rcases List.mem_append.1 hi with hi | hi
      · exact h.lt i hi
      · simp at hi; subst hi; exact hun
    · rw [List.getElem?_append_left hkl, hp, List.take_append_of_le_length (by omega)]
      exact hrem' i y hy
    · rcases hset i y hy with ⟨rfl, rfl⟩ | ⟨e, hy⟩
      · simp
      · rw [List.mem_append]
        simp only [List.mem_singleton, e, or_false]
        exact h.zero i y hy
  · rw [if_neg e1]
    refine ⟨by rw [List.length_set]; exact h.wl, h.nd, h.lt, h.topo, h.kle, fun i y hy => ?_, fun i y hy => ?_⟩
    · rw [hp]
      exact hrem' i y hy
    · rcases hset i y hy with ⟨rfl, rfl⟩ | ⟨e, hy⟩
      · constructor
        · intro hm; exact absurd hm hnu
        · omega
      · exact h.zero i y hy
theorem Kahn.next (h : Kahn n f us ws L k m) (hU : Users n f us) {p : Nat} (hp : L[k]? = some p) (hm : m = (us p).length) : Kahn n f us ws L (k + 1) 0 := by
  have hpn : p < n := h.lt p (List.mem_of_getElem? hp)
  have hkl : k < L.length := (List.getElem?_eq_some_iff.1 hp).1
  have htk : L.take (k + 1) = L.take k ++ [p] := by rw [List.take_add_one, hp]; rfl
  have hpt : p ∉ L.take k := fun hm => by
    have h1 := h.nd
    rw [← List.take_append_drop (k + 1) L, htk] at h1
    rw [List.append_assoc, List.nodup_append] at h1
    exact h1.2.2 p hm p (by simp) rfl
  refine ⟨h.wl, h.nd, h.lt, h.topo, hkl, fun i y hy => ?_, h.zero⟩
  have hin : i < n := by rw [← h.wl]; exact (List.getElem?_eq_some_iff.1 hy).1
  have a1 := h.rem i y hy
  simp only [hp, Option.map_some, Option.getD_some] at a1
  rw [hm, List.take_length, hU p hpn i, if_pos hin] at a1
  have a3 := rest_snoc hpt (f i)
  rw [← htk] at a3
  have : ∀ o : Option Nat, ((o.map fun p => (us p).take 0).getD []).count i = 0 := fun o => by cases o <;> simp
  rw [this]
  omega
theorem Kahn.order (h : Kahn n f us ws L k 0) (hk : k = L.length) : IsOrder n f L := by
  subst hk
  refine ⟨h.nd, h.lt, h.topo, fun i hi hn => ?_⟩
  obtain ⟨x, hx⟩ : ∃ x, ws[i]? = some x := ⟨_, List.getElem?_eq_getElem (by rw [h.wl]; exact hi)⟩
  have h1 := h.rem i x hx
  have h2 := mt (h.zero i x hx).2 hn
  rw [List.take_length] at h1
  have : ∀ o : Option Nat, ((o.map fun p => (us p).take 0).getD []).count i = 0 := fun o => by cases o <;> simp
  rw [this] at h1
  exact rest_pos (by omega)
theorem Kahn.le (h : Kahn n f us ws L k m) : L.length ≤ n := by
  have : L.length ≤ (List.range n).length := by
    exact List.Nodup.length_le_of_subset h.nd fun i hi => by simpa using h.lt i hi
  simpa using this
end
end Go.Proofs.YtjkmoahnociaiaaDoor
/- Which lines are free of circles; the lists that Fill tells; search through what leans. No program in sight. -/
namespace Go.Proofs.YtjkmoahnociaiaaDoor

/-- Free: it leans, on all ways, on what ends. -/
def Free (f : Nat → List Nat) (i : Nat) : Prop := Acc (fun p i => p ∈ f i) i
section
variable {n : Nat} {f : Nat → List Nat} {L : List Nat}
theorem order_free (h : IsOrder n f L) (hf : ∀ i, i < n → ∀ p ∈ f i, p < n) {i : Nat} (hi : i < n) : i ∈ L ↔ Free f i := by
  constructor
  · have key : ∀ (j i : Nat), L[j]? = some i → Free f i := by
      intro j
      induction j using Nat.strongRecOn with
      | _ j ih =>
        intro i hj
        refine ⟨_, fun p hp => ?_⟩
        have hm := h.topo j i hj p hp
        rw [List.mem_take_iff_getElem] at hm
        obtain ⟨k, hk, e⟩ := hm
        exact ih k (by omega) p (by rw [← e]; exact List.getElem?_eq_getElem (by omega))
    intro hm
    obtain ⟨j, hj⟩ := List.getElem?_of_mem hm
    exact key j i hj
  · intro ha
    induction ha with
    | intro i _ ih =>
      refine Classical.byContradiction fun hn => ?_
      obtain ⟨p, hp, hpn⟩ := h.full i hi hn
      exact hpn (ih p hp (hf i hi p hp))
theorem order_le (h : IsOrder n f L) : L.length ≤ n := by
  have : L.length ≤ (List.range n).length := List.Nodup.length_le_of_subset h.nd fun i hi => by simpa using h.lt i hi
  simpa using this
theorem order_all (h : IsOrder n f L) (hf : ∀ i, i < n → ∀ p ∈ f i, p < n) : L.length = n ↔ ∀ i, i < n → Free f i := by
  constructor
  · intro hl i hi
    rw [← order_free h hf hi]
    refine Classical.byContradiction fun hn => ?_
    have h1 : (i :: L).Nodup := List.nodup_cons.2 ⟨hn, h.nd⟩
    have : (i :: L).length ≤ (List.range n).length := List.Nodup.length_le_of_subset h1 fun j hj => by
      rcases List.mem_cons.1 hj with rfl | hj
      · simpa using hi
      · simpa using h.lt j hj
    simp at this
    omega
  · intro ha
    have h1 := order_le h
    have : (List.range n).length ≤ L.length := List.Nodup.length_le_of_subset List.nodup_range fun j hj => (order_free h hf (by simpa using hj)).2 (ha j (by simpa using hj))
    simp at this
    omega
end
/-- One comes from i to j by leaning, in one step or more. -/
inductive Way (f : Nat → List Nat) : Nat → Nat → Prop
  | one {i j : Nat} (h : j ∈ f i) : Way f i j
  | more {i j k : Nat} (h : j ∈ f i) (t : Way f j k) : Way f i k
section
variable {n : Nat} {f : Nat → List Nat}
theorem Way.snoc {i j k : Nat} (h : Way f i j) (hk : k ∈ f j) : Way f i k := by
  induction h with
  | one h => exact .more h (.one hk)
  | more h _ ih => exact .more h (ih hk)
theorem Way.trans {i j k : Nat} (h : Way f i j) (t : Way f j k) : Way f i k := by
  induction h with
  | one h => exact .more h t
  | more h _ ih => exact .more h (ih t)
theorem Way.lt (hf : ∀ i, i < n → ∀ p ∈ f i, p < n) {i j : Nat} (h : Way f i j) (hi : i < n) : j < n := by
  induction h with
  | one h => exact hf _ hi _ h
  | more h _ ih => exact ih (hf _ hi _ h)
theorem way_not_free {i j : Nat} (h : Way f i j) (hj : ¬ Free f j) : ¬ Free f i := by
  intro ha
  induction h with
  | one h => exact hj (Acc.inv ha h)
  | more h _ ih => exact ih hj (Acc.inv ha h)
theorem circ_not_free {i : Nat} (h : Way f i i) : ¬ Free f i := by
  intro ha
  have : ∀ i, Free f i → ∀ j, Way f i j → Way f j i → False := by
    intro i hi
    induction hi with
    | intro i _ ih =>
      intro j hij hji
      cases hij with
      | one h => exact ih j h _ (hji) (.one h)
      | more h t => exact ih _ h _ (t.trans hji) (.one h)
  exact this i ha i h h
theorem countP_lt {α : Type} {p q : α → Bool} : ∀ {l : List α}, (∀ x ∈ l, p x = true → q x = true) → (∃ x ∈ l, q x = true ∧ p x = false) → l.countP p < l.countP q
  | [], _, ⟨x, hx, _⟩ => by cases hx
  | y :: l, h, ⟨x, hx, hq, hp⟩ => by
    have hl := List.countP_mono_left (l := l) (p := p) (q := q) (fun z hz => h z (List.mem_cons_of_mem _ hz))
    rcases List.mem_cons.1 hx with rfl | hx
    · rw [List.countP_cons, List.countP_cons, hq, hp]
      simp
      omega
    · have ih := countP_lt (l := l) (p := p) (q := q) (fun z hz => h z (List.mem_cons_of_mem _ hz)) ⟨x, hx, hq, hp⟩
      rw [List.countP_cons, List.countP_cons]
      have := h y (by simp)
      by_cases hy : p y = true
      · rw [if_pos hy, if_pos (this hy)]; omega
      · rw [if_neg hy]; split <;> omega
open Classical in
theorem free_of_no_circ (hf : ∀ i, i < n → ∀ p ∈ f i, p < n) (h : ∀ i, i < n → ¬ Way f i i) : ∀ i, i < n → Free f i := by
  have key : ∀ (m i : Nat), i < n → (List.range n).countP (fun j => decide (Way f i j)) ≤ m → Free f i := by
    intro m
    induction m with
    | zero =>
      intro i hi hm
      refine ⟨_, fun p hp => ?_⟩
      have : 0 < (List.range n).countP (fun j => decide (Way f i j)) := List.countP_pos_iff.2 ⟨p, by simpa using hf i hi p hp, by simpa using Way.one hp⟩
      omega
    | succ m ih =>
      intro i hi hm
      refine ⟨_, fun p hp => ih p (hf i hi p hp) ?_⟩
      have := countP_lt (l := List.range n) (p := fun j => decide (Way f p j)) (q := fun j => decide (Way f i j))
        (fun j _ hj => by simp at hj ⊢; exact .more hp hj) ⟨p, by simpa using hf i hi p hp, by simpa using Way.one hp, by simpa using h p (hf i hi p hp)⟩
      omega
  exact fun i hi => key _ i hi (Nat.le_refl _)
theorem circ_of_not_free (hf : ∀ i, i < n → ∀ p ∈ f i, p < n) (h : ¬ ∀ i, i < n → Free f i) : ∃ i, i < n ∧ Way f i i :=
  Classical.byContradiction fun hn => h (free_of_no_circ hf fun i hi hw => hn ⟨i, hi, hw⟩)
end

/-- Waits and users while they are told, i lines behind, j of what the i-th leans on. -/
structure Fill (n : Nat) (f us : Nat → List Nat) (i j : Nat) : Prop where
  uc : ∀ p, p < n → ∀ t, (us p).count t = if t < i then (f t).count p else if t = i then ((f t).take j).count p else 0
section
variable {n : Nat} {f us : Nat → List Nat} {i j : Nat}
theorem Fill.start : Fill n f (fun _ => []) 0 0 := ⟨fun p _ t => by simp⟩
theorem Fill.step (h : Fill n f us i j) {p : Nat} (hp : (f i)[j]? = some p) {us' : Nat → List Nat} (h1 : us' p = us p ++ [i] ∨ us' p = i :: us p) (h2 : ∀ q, q ≠ p → us' q = us q) : Fill n f us' i (j + 1) := by
  refine ⟨fun q hq t => ?_⟩
  have hc : (us' p).count t = (us p).count t + if i = t then 1 else 0 := by
    rcases h1 with h1 | h1
    · rw [h1, List.count_append, List.count_singleton]; simp
    · rw [h1, List.count_cons]; simp
  have ht : ∀ q, ((f i).take (j + 1)).count q = ((f i).take j).count q + if p = q then 1 else 0 := fun q => by
    rw [List.take_add_one, hp, List.count_append]; simp [List.count_singleton]
  by_cases e : q = p
  · subst e
    rw [hc, h.uc q hq t]
    by_cases e1 : t < i
    · rw [if_pos e1, if_pos e1, if_neg (by omega)]; omega
    · rw [if_neg e1, if_neg e1]
      by_cases e2 : t = i
      · subst e2
        rw [if_pos rfl, if_pos rfl, if_pos rfl, ht, if_pos rfl]
      · rw [if_neg e2, if_neg e2, if_neg (fun e => e2 e.symm)]
  · rw [h2 q e, h.uc q hq t]
    by_cases e1 : t < i
    · rw [if_pos e1, if_pos e1]
    · rw [if_neg e1, if_neg e1]
      by_cases e2 : t = i
      · subst e2
        rw [if_pos rfl, if_pos rfl, ht, if_neg (fun e2 => e e2.symm)]; omega
      · rw [if_neg e2, if_neg e2]
theorem Fill.next (h : Fill n f us i j) (hj : (f i).length ≤ j) : Fill n f us (i + 1) 0 := by
  refine ⟨fun q hq t => ?_⟩
  rw [h.uc q hq t]
  by_cases e1 : t < i
  · rw [if_pos e1, if_pos (by omega)]
  · rw [if_neg e1]
    by_cases e2 : t = i
    · subst e2
      rw [if_pos rfl, if_pos (by omega), List.take_of_length_le hj]
    · rw [if_neg e2, if_neg (by omega)]
      simp
theorem Fill.users (h : Fill n f us n 0) : Users n f us := fun p hp t => by
  rw [h.uc p hp t]
  by_cases e : t < n
  · rw [if_pos e, if_pos e]
  · rw [if_neg e, if_neg e]; simp
theorem Users.mem (h : Users n f us) {p i : Nat} (hp : p < n) (hi : i ∈ us p) : i < n := by
  have h1 := h p hp i
  have h2 := List.count_pos_iff.2 hi
  by_cases e : i < n
  · exact e
  · rw [if_neg e] at h1; omega
end

/-! Search: from a place through all that is leant on. met: who was met; work: whose leans wait; p, m: whose leans are gone through, and how far. -/
structure Dfs (n : Nat) (f : Nat → List Nat) (place : Nat) (met : List Bool) (work : List Nat) (p m : Nat) : Prop where
  ml : met.length = n
  m0 : met[place]? = some true
  sound : ∀ i : Nat, met[i]? = some true → i = place ∨ Way f place i
  wm : ∀ i ∈ work, met[i]? = some true
  closed : ∀ i : Nat, met[i]? = some true → i ∉ work → ∀ (t q : Nat), (f i)[t]? = some q → (i = p → t < m) → met[q]? = some true
def unmet (met : List Bool) : Nat := met.count false
theorem unmet_set {met : List Bool} {q : Nat} (h : met[q]? = some false) : unmet (met.set q true) + 1 = unmet met := by
  unfold unmet
  have hq := (List.getElem?_eq_some_iff.1 h)
  obtain ⟨hlt, e⟩ := hq
  have h1 : met = met.take q ++ met[q] :: met.drop (q + 1) := by simp
  have h2 : met.set q true = met.take q ++ true :: met.drop (q + 1) := by
    rw [List.set_eq_take_append_cons_drop, if_pos hlt]
  rw [h2]
  conv => rhs; rw [h1]
  rw [List.count_append, List.count_append, List.count_cons, List.count_cons, e]
  simp
  omega
section
variable {n : Nat} {f : Nat → List Nat} {place : Nat} {met : List Bool} {work : List Nat} {p m : Nat}
theorem met_set {met : List Bool} {q i : Nat} (hq : q < met.length) : (met.set q true)[i]? = some true ↔ i = q ∨ met[i]? = some true := by
  rw [List.getElem?_set]
  by_cases e : q = i
  · subst e; simp [hq]
  · rw [if_neg e]
    constructor
    · exact .inr
    · rintro (h | h)
      · exact absurd h.symm e
      · exact h
theorem Dfs.start (hp : place < n) : Dfs n f place ((List.replicate n false).set place true) [place] n 0 := by
  have hl : place < (List.replicate n false).length := by simpa using hp
  have h1 : ∀ i : Nat, ((List.replicate n false).set place true)[i]? = some true ↔ i = place := fun i => by
    rw [met_set hl]
    constructor
    · rintro (h | h)
      · exact h
      · rw [List.getElem?_replicate] at h; split at h <;> simp at h
    · exact .inl
  refine ⟨by simp, by rw [h1], fun i hi => .inl ((h1 i).1 hi), fun i hi => ?_, fun i hi hw => ?_⟩
  · simp at hi; subst hi; rw [h1]
  · rw [h1] at hi; subst hi; simp at hw
theorem Dfs.pop (h : Dfs n f place met (work ++ [p]) n m) (hp : p < n) : Dfs n f place met work p 0 := by
  refine ⟨h.ml, h.m0, h.sound, fun i hi => h.wm i (by simp [hi]), fun i hi hw t q hq hlt => ?_⟩
  by_cases e : i = p
  · exact absurd (hlt e) (by omega)
  · exact h.closed i hi (by simp [hw, e]) t q hq (fun e2 => by
      subst e2
      have := (List.getElem?_eq_some_iff.1 hi).1
      have := h.ml
      omega)
theorem Dfs.old (h : Dfs n f place met work p m) {q : Nat} (hq : (f p)[m]? = some q) (hm : met[q]? = some true) : Dfs n f place met work p (m + 1) := by
  refine ⟨h.ml, h.m0, h.sound, h.wm, fun i hi hw t q' hq' hlt => ?_⟩
  by_cases e : i = p
  · subst e
    rcases Nat.lt_or_ge t m with h1 | h1
    · exact h.closed i hi hw t q' hq' (fun _ => h1)
    · have : t = m := by have := hlt rfl; omega
      subst this
      rw [hq] at hq'
      cases hq'
      exact hm
  · exact h.closed i hi hw t q' hq' (fun e2 => absurd e2 e)
theorem Dfs.new (h : Dfs n f place met work p m) (hpm : met[p]? = some true) {q : Nat} (hq : (f p)[m]? = some q) (hm : met[q]? = some false) : Dfs n f place (met.set q true) (work ++ [q]) p (m + 1) := by
  have hl : q < met.length := (List.getElem?_eq_some_iff.1 hm).1
  refine ⟨by rw [List.length_set]; exact h.ml, (met_set hl).2 (.inr h.m0), fun i hi => ?_, fun i hi => ?_, fun i hi hw t q' hq' hlt => ?_⟩
  · rcases (met_set hl).1 hi with rfl | hi
    · rcases h.sound p hpm with rfl | hw
      · exact .inr (.one (List.mem_of_getElem? hq))
      · exact .inr (hw.snoc (List.mem_of_getElem? hq))
    · exact h.sound i hi
  · rw [met_set hl]
    rcases List.mem_append.1 hi with hi | hi
    · exact .inr (h.wm i hi)
    · simp at hi; exact .inl hi
  · rw [met_set hl]
    simp at hw
    rcases (met_set hl).1 hi with e | hi
    · exact absurd e hw.2
    · by_cases e : i = p
      · subst e
        rcases Nat.lt_or_ge t m with h1 | h1
        · exact .inr (h.closed i hi hw.1 t q' hq' (fun _ => h1))
        · have : t = m := by have := hlt rfl; omega
          subst this
          rw [hq] at hq'
          cases hq'
          exact .inl rfl
      · exact .inr (h.closed i hi hw.1 t q' hq' (fun e2 => absurd e2 e))
theorem Dfs.done (h : Dfs n f place met work p m) (hm : (f p).length ≤ m) (k : Nat) : Dfs n f place met work n k := by
  refine ⟨h.ml, h.m0, h.sound, h.wm, fun i hi hw t q hq _ => h.closed i hi hw t q hq (fun e => ?_)⟩
  subst e
  have := (List.getElem?_eq_some_iff.1 hq).1
  omega
theorem Dfs.fin (h : Dfs n f place met [] n m) {i : Nat} : met[i]? = some true ↔ i = place ∨ Way f place i := by
  constructor
  · exact h.sound i
  · have step : ∀ {i q : Nat}, met[i]? = some true → q ∈ f i → met[q]? = some true := fun {i q} hi hq => by
      obtain ⟨t, ht⟩ := List.getElem?_of_mem hq
      refine h.closed i hi (by simp) t q ht (fun e => ?_)
      have := (List.getElem?_eq_some_iff.1 hi).1
      have := h.ml
      omega
    have key : ∀ {a b : Nat}, Way f a b → met[a]? = some true → met[b]? = some true := fun {a b} hw => by
      induction hw with
      | one h => exact fun ha => step ha h
      | more h _ ih => exact fun ha => ih (step ha h)
    rintro (rfl | hw)
    · exact h.m0
    · exact key hw h.m0
end

/-! Does one come back to a place, through the lines that are left? -/
structure Comes (n : Nat) (f : Nat → List Nat) (left : List Bool) (place : Nat) (met : List Bool) (work : List Nat) (p m : Nat) : Prop where
  ml : met.length = n
  sound : ∀ i : Nat, met[i]? = some true → left[i]? = some true ∧ Way f place i
  wm : ∀ i ∈ work, i = place ∨ met[i]? = some true
  closed : ∀ i : Nat, (i = place ∨ met[i]? = some true) → i ∉ work → ∀ (t q : Nat), (f i)[t]? = some q → (i = p → t < m) → q ≠ place ∧ (left[q]? = some true → met[q]? = some true)
section
variable {n : Nat} {f : Nat → List Nat} {left : List Bool} {place : Nat} {met : List Bool} {work : List Nat} {p m : Nat}
theorem Comes.start : Comes n f left place (List.replicate n false) [place] n 0 := by
  have h1 : ∀ i : Nat, (List.replicate n false)[i]? = some true → False := fun i h => by rw [List.getElem?_replicate] at h; split at h <;> simp at h
  refine ⟨by simp, fun i hi => (h1 i hi).elim, fun i hi => by simp at hi; exact .inl hi, fun i hi hw => ?_⟩
  rcases hi with rfl | hi
  · simp at hw
  · exact (h1 i hi).elim
theorem Comes.pop (h : Comes n f left place met (work ++ [p]) n m) (hpl : place < n) : Comes n f left place met work p 0 := by
  refine ⟨h.ml, h.sound, fun i hi => h.wm i (by simp [hi]), fun i hi hw t q hq hlt => ?_⟩
  by_cases e : i = p
  · exact absurd (hlt e) (by omega)
  · exact h.closed i hi (by simp [hw, e]) t q hq (fun e2 => by
      subst e2
      rcases hi with hi | hi
      · omega
      · have := (List.getElem?_eq_some_iff.1 hi).1
        have := h.ml
        omega)
theorem Comes.old (h : Comes n f left place met work p m) {q : Nat} (hq : (f p)[m]? = some q) (hne : q ≠ place) (hm : left[q]? = some true → met[q]? = some true) : Comes n f left place met work p (m + 1) := by
  refine ⟨h.ml, h.sound, h.wm, fun i hi hw t q' hq' hlt => ?_⟩
  by_cases e : i = p
  · subst e
    rcases Nat.lt_or_ge t m with h1 | h1
    · exact h.closed i hi hw t q' hq' (fun _ => h1)
    · have : t = m := by have := hlt rfl; omega
      subst this
      rw [hq] at hq'
      cases hq'
      exact ⟨hne, hm⟩
  · exact h.closed i hi hw t q' hq' (fun e2 => absurd e2 e)
theorem Comes.way (h : Comes n f left place met work p m) (hpm : p = place ∨ met[p]? = some true) {q : Nat} (hq : (f p)[m]? = some q) : Way f place q := by
  rcases hpm with rfl | hpm
  · exact .one (List.mem_of_getElem? hq)
  · exact (h.sound p hpm).2.snoc (List.mem_of_getElem? hq)
theorem Comes.new (h : Comes n f left place met work p m) (hpm : p = place ∨ met[p]? = some true) {q : Nat} (hq : (f p)[m]? = some q) (hne : q ≠ place) (hl : left[q]? = some true) (hm : met[q]? = some false) : Comes n f left place (met.set q true) (work ++ [q]) p (m + 1) := by
  have hlt : q < met.length := (List.getElem?_eq_some_iff.1 hm).1
  refine ⟨by rw [List.length_set]; exact h.ml, fun i hi => ?_, fun i hi => ?_, fun i hi hw t q' hq' hlt' => ?_⟩
  · rcases (met_set hlt).1 hi with rfl | hi
    · exact ⟨hl, h.way hpm hq⟩
    · exact h.sound i hi
  · rw [met_set hlt]
    rcases List.mem_append.1 hi with hi | hi
    · rcases h.wm i hi with e | e
      · exact .inl e
      · exact .inr (.inr e)
    · simp at hi; exact .inr (.inl hi)
  · rw [met_set hlt]
    simp at hw
    rw [met_set hlt] at hi
    have hi' : i = place ∨ met[i]? = some true := by
      rcases hi with e | e | e
      · exact .inl e
      · exact absurd e hw.2
      · exact .inr e
    by_cases e : i = p
    · subst e
      rcases Nat.lt_or_ge t m with h1 | h1
      · have := h.closed i hi' hw.1 t q' hq' (fun _ => h1)
        exact ⟨this.1, fun h2 => .inr (this.2 h2)⟩
      · have : t = m := by have := hlt' rfl; omega
        subst this
        rw [hq] at hq'
        cases hq'
        exact ⟨hne, fun _ => .inl rfl⟩
    · have := h.closed i hi' hw.1 t q' hq' (fun e2 => absurd e2 e)
      exact ⟨this.1, fun h2 => .inr (this.2 h2)⟩
theorem Comes.done (h : Comes n f left place met work p m) (hm : (f p).length ≤ m) (k : Nat) : Comes n f left place met work n k := by
  refine ⟨h.ml, h.sound, h.wm, fun i hi hw t q hq _ => h.closed i hi hw t q hq (fun e => ?_)⟩
  subst e
  have := (List.getElem?_eq_some_iff.1 hq).1
  omega
theorem Comes.fin (h : Comes n f left place met [] n m) (hpl : place < n) (hf : ∀ i, i < n → ∀ p ∈ f i, p < n) (hleft : ∀ i, i < n → ¬ Free f i → left[i]? = some true) : ¬ Way f place place := by
  intro hw
  have key : ∀ {a b : Nat}, Way f a b → b = place → (a = place ∨ met[a]? = some true) → a < n → False := fun {a b} hab => by
    induction hab with
    | @one i j hj =>
      intro e ha hin
      subst e
      obtain ⟨t, ht⟩ := List.getElem?_of_mem hj
      exact (h.closed i ha (by simp) t _ ht (fun e => by omega)).1 rfl
    | @more i j k hj ht ih =>
      intro e ha hin
      subst e
      obtain ⟨t, htt⟩ := List.getElem?_of_mem hj
      have hc := h.closed i ha (by simp) t _ htt (fun e => by omega)
      have hjn := hf i hin j hj
      exact ih rfl (.inr (hc.2 (hleft j hjn (way_not_free ht (circ_not_free hw))))) hjn
  exact key hw rfl (.inl rfl) hpl
end
end Go.Proofs.YtjkmoahnociaiaaDoor
/- Circles by depth, as a search with a stack goes: what holds at each step. No program in sight. -/
namespace Go.Proofs.YtjkmoahnociaiaaDoor

def upd {α : Type} (g : Nat → α) (i : Nat) (v : α) : Nat → α := fun j => if j = i then v else g j
theorem upd_at {α : Type} (g : Nat → α) (i : Nat) (v : α) : upd g i v i = v := by simp [upd]
theorem upd_off {α : Type} (g : Nat → α) {i j : Nat} (v : α) (h : j ≠ i) : upd g i v j = g j := by simp [upd, h]
/-- One comes from i to j, in no step or more. -/
def Reach (f : Nat → List Nat) (i j : Nat) : Prop := i = j ∨ Way f i j
section
variable {n : Nat} {f : Nat → List Nat}
theorem Reach.refl (i : Nat) : Reach f i i := .inl rfl
theorem Reach.trans {i j k : Nat} (h : Reach f i j) (t : Reach f j k) : Reach f i k := by
  rcases h with rfl | h
  · exact t
  · rcases t with rfl | t
    · exact .inr h
    · exact .inr (h.trans t)
theorem Reach.step {i j k : Nat} (h : Reach f i j) (hk : k ∈ f j) : Reach f i k := h.trans (.inr (.one hk))
theorem Reach.way {i j : Nat} (h : Reach f i j) (hne : i ≠ j) : Way f i j := h.resolve_left hne
theorem Way.reach {i j k : Nat} (h : Way f i j) (t : Reach f j k) : Way f i k := by
  rcases t with rfl | t
  · exact h
  · exact h.trans t
/-- A way stays in what is closed. -/
theorem Way.stays {K : Nat → Prop} (hK : ∀ x, K x → ∀ p ∈ f x, K p) {i j : Nat} (h : Way f i j) (hi : K i) : K j := by
  induction h with
  | one h => exact hK _ hi _ h
  | more h _ ih => exact ih (hK _ hi _ h)
theorem free_out {x p : Nat} (h : Free f x) (hp : p ∈ f x) : Free f p := Acc.inv h hp

/-- What holds while the search goes: when each line was met, its low place, how many of what it leans on have been gone through; the stack; the lines whose walk is under way; the first line found. -/
structure Tj (n : Nat) (f : Nat → List Nat) (num low nx : Nat → Nat) (on : Nat → Bool) (S L : List Nat) (met : Nat) (fd : Int) : Prop where
  lt : ∀ x, 0 < num x → x < n
  nf : ∀ x, 0 < num x → ¬ Free f x
  le : ∀ x, num x ≤ met
  sm : ∀ x ∈ S, 0 < num x
  so : S.Pairwise (fun a b => num a < num b)
  os : ∀ x, on x = true ↔ x ∈ S
  ls : ∀ u ∈ L, u ∈ S
  lo : L.Pairwise (fun a b => num a < num b)
  nl : ∀ x, nx x ≤ (f x).length
  nd : ∀ x, 0 < num x → x ∈ L ∨ nx x = (f x).length
  ex : ∀ x j p, 0 < num x → j < nx x → (f x)[j]? = some p → ¬ Free f p → 0 < num p
  cl : ∀ x, 0 < num x → x ∉ S → ∀ p ∈ f x, p ∉ S
  up : ∀ x ∈ S, ∃ u ∈ L, num u ≤ num x ∧ Reach f x u
  dn : ∀ u ∈ L, ∀ x ∈ S, num u ≤ num x → Reach f u x
  ll : ∀ u ∈ L, low u ≤ num u ∧ ∃ y ∈ S, num y = low u ∧ Reach f u y
  lb : ∀ u ∈ L, ∀ x ∈ S, num u ≤ num x → (∀ v ∈ L, num v ≤ num x → num v ≤ num u) → ∀ (j : Nat) z, j < nx x → (f x)[j]? = some z → z ∈ S → low u ≤ num z
  fa : ∀ x, 0 < num x → x ∉ S → Way f x x → 0 ≤ fd ∧ fd ≤ (x : Int)
  fb : fd = -1 ∨ ∃ m : Nat, fd = (m : Int) ∧ m < n ∧ Way f m m
variable {num low nx : Nat → Nat} {on : Nat → Bool} {S L : List Nat} {met : Nat} {fd : Int}
theorem Tj.start : Tj n f (fun _ => 0) (fun _ => 0) (fun _ => 0) (fun _ => false) [] [] 0 (-1) where
  lt := fun x h => absurd h (Nat.lt_irrefl _)
  nf := fun x h => absurd h (Nat.lt_irrefl _)
  le := fun x => Nat.le_refl _
  sm := fun x h => by cases h
  so := .nil
  os := fun x => by simp
  ls := fun x h => by cases h
  lo := .nil
  nl := fun x => Nat.zero_le _
  nd := fun x h => absurd h (Nat.lt_irrefl _)
  ex := fun x _ _ h => absurd h (Nat.lt_irrefl _)
  cl := fun x h => absurd h (Nat.lt_irrefl _)
  up := fun x h => by cases h
  dn := fun x h => by cases h
  ll := fun x h => by cases h
  lb := fun x h => by cases h
  fa := fun x h => absurd h (Nat.lt_irrefl _)
  fb := .inl rfl
theorem pair_inj {g : Nat → Nat} : ∀ {l : List Nat}, l.Pairwise (fun a b => g a < g b) → ∀ x ∈ l, ∀ y ∈ l, g x = g y → x = y
  | [], _, x, hx, _, _, _ => by cases hx
  | a :: l, h, x, hx, y, hy, e => by
    obtain ⟨h1, h2⟩ := List.pairwise_cons.1 h
    rcases List.mem_cons.1 hx with ex | hx <;> rcases List.mem_cons.1 hy with ey | hy
    · rw [ex, ey]
    · have := h1 y hy; rw [← ex] at this; omega
    · have := h1 x hx; rw [← ey] at this; omega
    · exact pair_inj h2 x hx y hy e
theorem Tj.inj (h : Tj n f num low nx on S L met fd) {x y : Nat} (hx : x ∈ S) (hy : y ∈ S) (e : num x = num y) : x = y := pair_inj h.so x hx y hy e
theorem pair_last {g : Nat → Nat} {l : List Nat} {u : Nat} (h : (l ++ [u]).Pairwise (fun a b => g a < g b)) : ∀ v ∈ l, g v < g u := fun v hv => by
  rw [List.pairwise_append] at h
  exact h.2.2 v hv u (by simp)
theorem pair_front {g : Nat → Nat} {l m : List Nat} (h : (l ++ m).Pairwise (fun a b => g a < g b)) : l.Pairwise (fun a b => g a < g b) := (List.pairwise_append.1 h).1
/-- A line is met: it is laid upon the stack. -/
theorem Tj.push (h : Tj n f num low nx on S L met fd) {p : Nat} (hp : p < n) (h0 : num p = 0) (hfr : ¬ Free f p) {nx1 : Nat → Nat} (h1 : ∀ x, nx1 x ≤ (f x).length) (h2 : ∀ x, nx x ≤ nx1 x)
    (h3 : ∀ (x j z : Nat), j < nx1 x → (f x)[j]? = some z → j < nx x ∨ z = p) (hr : ∀ u ∈ L, Reach f u p) :
    Tj n f (upd num p (met + 1)) (upd low p (met + 1)) (upd nx1 p 0) (upd on p true) (S ++ [p]) (L ++ [p]) (met + 1) fd := by
  have hS : ∀ x ∈ S, x ≠ p := fun x hx e => by have := h.sm x hx; rw [e] at this; omega
  have hL : ∀ x ∈ L, x ≠ p := fun x hx => hS x (h.ls x hx)
  have hnS : ∀ x ∈ S, upd num p (met + 1) x = num x := fun x hx => upd_off _ _ (hS x hx)
  have hpos : ∀ x, 0 < num x → 0 < upd num p (met + 1) x := fun x hx => by
    unfold upd; split <;> omega
  have hpos2 : ∀ x, x ≠ p → 0 < upd num p (met + 1) x → 0 < num x := fun x hx => by rw [upd_off _ _ hx]; exact id
  exact {
    lt := fun x hx => by
      by_cases e : x = p
      · rw [e]; exact hp
      · exact h.lt x (hpos2 x e hx)
    nf := fun x hx => by
      by_cases e : x = p
      · rw [e]; exact hfr
      · exact h.nf x (hpos2 x e hx)
    le := fun x => by
      unfold upd; split
      · exact Nat.le_refl _
      · exact Nat.le_succ_of_le (h.le x)
    sm := fun x hx => by
      rcases List.mem_append.1 hx with hx | hx
      · exact hpos x (h.sm x hx)
      · rw [List.mem_singleton.1 hx, upd_at]; omega
    so := by
      rw [List.pairwise_append]
      refine ⟨?_, List.pairwise_singleton _ _, fun a ha b hb => ?_⟩
      · exact (List.Pairwise.imp_of_mem (fun {a b} ha hb hab => by rw [hnS a ha, hnS b hb]; exact hab) h.so)
      · rw [List.mem_singleton.1 hb, upd_at, hnS a ha]
        exact Nat.lt_succ_of_le (h.le a)
    os := fun x => by
      rw [List.mem_append, List.mem_singleton]
      by_cases e : x = p
      · rw [e, upd_at]; simp
      · rw [upd_off _ _ e, h.os]; simp [e]
    ls := fun u hu => by
      rcases List.mem_append.1 hu with hu | hu
      · exact List.mem_append_left _ (h.ls u hu)
      · exact List.mem_append_right _ hu
    lo := by
      rw [List.pairwise_append]
      refine ⟨?_, List.pairwise_singleton _ _, fun a ha b hb => ?_⟩
      · exact (List.Pairwise.imp_of_mem (fun {a b} ha hb hab => by rw [hnS a (h.ls a ha), hnS b (h.ls b hb)]; exact hab) h.lo)
      · rw [List.mem_singleton.1 hb, upd_at, hnS a (h.ls a ha)]
        exact Nat.lt_succ_of_le (h.le a)
    nl := fun x => by
      unfold upd; split
      · exact Nat.zero_le _
      · exact h1 x
    nd := fun x hx => by
      by_cases e : x = p
      · left; rw [e]; simp
      · rcases h.nd x (hpos2 x e hx) with hl | hl
        · exact .inl (List.mem_append_left _ hl)
        · right
          rw [upd_off _ _ e]
          have a := h1 x; have b := h2 x
          omega
    ex := fun x j z hx hj hz hf => by
      by_cases e : x = p
      · rw [e, upd_at] at hj; omega
      · rw [upd_off _ _ e] at hj
        rcases h3 x j z hj hz with hj | hj
        · exact hpos z (h.ex x j z (hpos2 x e hx) hj hz hf)
        · rw [hj, upd_at]; omega
    cl := fun x hx hS2 z hz hzS => by
      have e : x ≠ p := fun e => hS2 (by rw [e]; simp)
      have hx2 := hpos2 x e hx
      have hxS : x ∉ S := fun t => hS2 (List.mem_append_left _ t)
      rcases List.mem_append.1 hzS with hzS | hzS
      · exact h.cl x hx2 hxS z hz hzS
      · rw [List.mem_singleton.1 hzS] at hz
        obtain ⟨j, hj⟩ := List.getElem?_of_mem hz
        have hj2 : j < (f x).length := (List.getElem?_eq_some_iff.1 hj).1
        have hnx : nx x = (f x).length := (h.nd x hx2).resolve_left fun t => hxS (h.ls x t)
        have := h.ex x j p hx2 (by omega) hj hfr
        omega
    up := fun x hx => by
      rcases List.mem_append.1 hx with hx | hx
      · obtain ⟨u, hu, a, b⟩ := h.up x hx
        refine ⟨u, List.mem_append_left _ hu, ?_, b⟩
        rw [hnS x hx, hnS u (h.ls u hu)]; exact a
      · rw [List.mem_singleton.1 hx]
        exact ⟨p, by simp, Nat.le_refl _, Reach.refl p⟩
    dn := fun u hu x hx hl => by
      rcases List.mem_append.1 hu with hu | hu
      · rcases List.mem_append.1 hx with hx | hx
        · rw [hnS x hx, hnS u (h.ls u hu)] at hl
          exact h.dn u hu x hx hl
        · rw [List.mem_singleton.1 hx]; exact hr u hu
      · rcases List.mem_append.1 hx with hx | hx
        · rw [hnS x hx, List.mem_singleton.1 hu, upd_at] at hl
          have := h.le x
          omega
        · rw [List.mem_singleton.1 hx, List.mem_singleton.1 hu]; exact Reach.refl p
    ll := fun u hu => by
      rcases List.mem_append.1 hu with hu | hu
      · obtain ⟨a, y, hy, b, c⟩ := h.ll u hu
        rw [hnS u (h.ls u hu), upd_off _ _ (hL u hu)]
        exact ⟨a, y, List.mem_append_left _ hy, by rw [hnS y hy]; exact b, c⟩
      · rw [List.mem_singleton.1 hu, upd_at, upd_at]
        exact ⟨Nat.le_refl _, p, by simp, by rw [upd_at], Reach.refl p⟩
    lb := fun u hu x hx hl hm j z hj hz hzS => by
      rcases List.mem_append.1 hx with hx | hx
      · rw [upd_off _ _ (hS x hx)] at hj
        rcases List.mem_append.1 hu with hu | hu
        · rw [hnS x hx, hnS u (h.ls u hu)] at hl
          rw [upd_off _ _ (hL u hu)]
          have hm2 : ∀ v ∈ L, num v ≤ num x → num v ≤ num u := fun v hv hvx => by
            have := hm v (List.mem_append_left _ hv)
            rw [hnS x hx, hnS u (h.ls u hu), hnS v (h.ls v hv)] at this
            exact this hvx
          by_cases e : z = p
          · rw [e, upd_at]
            have a := (h.ll u hu).1; have b := h.le u
            omega
          · have hzS2 : z ∈ S := by
              rcases List.mem_append.1 hzS with t | t
              · exact t
              · exact absurd (List.mem_singleton.1 t) e
            rw [upd_off _ _ e]
            rcases h3 x j z hj hz with hj | hj
            · exact h.lb u hu x hx hl hm2 j z hj hz hzS2
            · exact absurd hj e
        · rw [List.mem_singleton.1 hu, upd_at, hnS x hx] at hl
          have := h.le x
          omega
      · rw [List.mem_singleton.1 hx, upd_at] at hj
        omega
    fa := fun x hx hxS => by
      have e : x ≠ p := fun e => hxS (by rw [e]; simp)
      exact h.fa x (hpos2 x e hx) fun t => hxS (List.mem_append_left _ t)
    fb := h.fb }
/-- The line on top is gone through by one more of what it leans on, which is free or was met. -/
theorem Tj.edge {L0 : List Nat} {u p : Nat} (h : Tj n f num low nx on S (L0 ++ [u]) met fd) (hp : (f u)[nx u]? = some p) (hk : Free f p ∨ 0 < num p) {low' : Nat → Nat}
    (hl : low' = if on p = true then upd low u (min (low u) (num p)) else low) : Tj n f num low' (upd nx u (nx u + 1)) on S (L0 ++ [u]) met fd := by
  have hlen : nx u < (f u).length := (List.getElem?_eq_some_iff.1 hp).1
  have hpm : p ∈ f u := List.mem_of_getElem? hp
  have huL : u ∈ L0 ++ [u] := by simp
  have huS := h.ls u huL
  have hle : ∀ v, low' v ≤ low v := fun v => by
    rw [hl]; split
    · unfold upd; split
      · rename_i e; rw [e]; exact Nat.min_le_left _ _
      · exact Nat.le_refl _
    · exact Nat.le_refl _
  have hlp : p ∈ S → low' u ≤ num p := fun hpS => by
    rw [hl, if_pos ((h.os p).2 hpS), upd_at]; exact Nat.min_le_right _ _
  exact {
    lt := h.lt, nf := h.nf, le := h.le, sm := h.sm, so := h.so, os := h.os, ls := h.ls, lo := h.lo
    nl := fun x => by
      unfold upd; split
      · rename_i e; rw [e]; omega
      · exact h.nl x
    nd := fun x hx => by
      by_cases e : x = u
      · left; rw [e]; exact huL
      · rw [upd_off _ _ e]; exact h.nd x hx
    ex := fun x j z hx hj hz hf => by
      by_cases e : x = u
      · subst e
        rw [upd_at] at hj
        by_cases e2 : j = nx x
        · rw [e2, hp] at hz
          cases hz
          exact hk.resolve_left hf
        · exact h.ex x j z hx (by omega) hz hf
      · rw [upd_off _ _ e] at hj
        exact h.ex x j z hx hj hz hf
    cl := h.cl, up := h.up, dn := h.dn
    ll := fun v hv => by
      obtain ⟨a, y, hy, b, c⟩ := h.ll v hv
      refine ⟨Nat.le_trans (hle v) a, ?_⟩
      rw [hl]
      by_cases ho : on p = true
      · rw [if_pos ho]
        by_cases e : v = u
        · rw [e, upd_at]
          by_cases hc : low u ≤ num p
          · rw [Nat.min_eq_left hc, ← e]; exact ⟨y, hy, b, c⟩
          · rw [Nat.min_eq_right (by omega)]
            exact ⟨p, (h.os p).1 ho, rfl, .inr (.one hpm)⟩
        · rw [upd_off _ _ e]; exact ⟨y, hy, b, c⟩
      · rw [if_neg ho]; exact ⟨y, hy, b, c⟩
    lb := fun v hv x hx hvx hm j z hj hz hzS => by
      by_cases e : x = u
      · subst e
        rw [upd_at] at hj
        by_cases e2 : j = nx x
        · rw [e2, hp] at hz
          cases hz
          have := hm x huL (Nat.le_refl _)
          have e3 : v = x := h.inj (h.ls v hv) huS (by omega)
          rw [e3]; exact hlp hzS
        · exact Nat.le_trans (hle v) (h.lb v hv x hx hvx hm j z (by omega) hz hzS)
      · rw [upd_off _ _ e] at hj
        exact Nat.le_trans (hle v) (h.lb v hv x hx hvx hm j z hj hz hzS)
    fa := h.fa, fb := h.fb }
/-- A line that is gone through is taken off; it leans on what was met before it. -/
theorem Tj.pop {L0 : List Nat} {u w : Nat} (h : Tj n f num low nx on S (L0 ++ [w] ++ [u]) met fd) (hd : (f u).length ≤ nx u) (hlow : low u < num u) :
    Tj n f num (upd low w (min (low w) (low u))) nx on S (L0 ++ [w]) met fd := by
  have huL : u ∈ L0 ++ [w] ++ [u] := by simp
  have hwL : w ∈ L0 ++ [w] := by simp
  have hin : ∀ v ∈ L0 ++ [w], v ∈ L0 ++ [w] ++ [u] := fun v hv => List.mem_append_left _ hv
  have huS := h.ls u huL
  have hlt : ∀ v ∈ L0 ++ [w], num v < num u := pair_last h.lo
  have hback : ∀ v ∈ L0 ++ [w] ++ [u], num v < num u → v ∈ L0 ++ [w] := fun v hv hl => by
    rcases List.mem_append.1 hv with t | t
    · exact t
    · rw [List.mem_singleton.1 t] at hl; omega
  have hle : ∀ v, upd low w (min (low w) (low u)) v ≤ low v := fun v => by
    unfold upd; split
    · rename_i e; rw [e]; exact Nat.min_le_left _ _
    · exact Nat.le_refl _
  obtain ⟨_, y, hyS, hy, hyr⟩ := h.ll u huL
  exact {
    lt := h.lt, nf := h.nf, le := h.le, sm := h.sm, so := h.so, os := h.os
    ls := fun v hv => h.ls v (hin v hv)
    lo := pair_front h.lo
    nl := h.nl
    nd := fun x hx => by
      rcases h.nd x hx with t | t
      · rcases List.mem_append.1 t with t | t
        · exact .inl t
        · rw [List.mem_singleton.1 t]; exact .inr (Nat.le_antisymm (h.nl u) hd)
      · exact .inr t
    ex := h.ex, cl := h.cl
    up := fun x hx => by
      obtain ⟨c, hc, a, b⟩ := h.up x hx
      rcases List.mem_append.1 hc with t | t
      · exact ⟨c, t, a, b⟩
      · rw [List.mem_singleton.1 t] at a b
        obtain ⟨v, hv, a2, b2⟩ := h.up y hyS
        exact ⟨v, hback v hv (by omega), by omega, (b.trans hyr).trans b2⟩
    dn := fun v hv => h.dn v (hin v hv)
    ll := fun v hv => by
      obtain ⟨a, y2, hy2, b, c⟩ := h.ll v (hin v hv)
      refine ⟨Nat.le_trans (hle v) a, ?_⟩
      by_cases e : v = w
      · rw [e, upd_at]
        by_cases hc : low w ≤ low u
        · rw [Nat.min_eq_left hc, ← e]; exact ⟨y2, hy2, b, c⟩
        · rw [Nat.min_eq_right (by omega)]
          exact ⟨y, hyS, hy, (h.dn w (hin w hwL) u huS (Nat.le_of_lt (hlt w hwL))).trans hyr⟩
      · rw [upd_off _ _ e]; exact ⟨y2, hy2, b, c⟩
    lb := fun v hv x hx hvx hm j z hj hz hzS => by
      by_cases hc : num u ≤ num x
      · have h1 := h.lb u huL x hx hc (fun d hd _ => by
          rcases List.mem_append.1 hd with t | t
          · exact Nat.le_of_lt (hlt d t)
          · rw [List.mem_singleton.1 t]; exact Nat.le_refl _) j z hj hz hzS
        have h2 := hm w hwL (by have := hlt w hwL; omega)
        have h3 : num v ≤ num w := by
          rcases List.mem_append.1 hv with t | t
          · exact Nat.le_of_lt (pair_last (pair_front h.lo) v t)
          · rw [List.mem_singleton.1 t]; exact Nat.le_refl _
        have e : v = w := h.inj (h.ls v (hin v hv)) (h.ls w (hin w hwL)) (by omega)
        rw [e, upd_at]
        exact Nat.le_trans (Nat.min_le_right _ _) h1
      · refine Nat.le_trans (hle v) (h.lb v (hin v hv) x hx hvx (fun d hd hdx => ?_) j z hj hz hzS)
        rcases List.mem_append.1 hd with t | t
        · exact hm d t hdx
        · rw [List.mem_singleton.1 t] at hdx; omega
    fa := h.fa, fb := h.fb }
/-- Whose low place lies below their own hang on a line that is under way. -/
theorem Tj.has_up {L0 : List Nat} {u : Nat} (h : Tj n f num low nx on S (L0 ++ [u]) met fd) (hlow : low u < num u) : ∃ L1 w, L0 = L1 ++ [w] := by
  obtain ⟨_, y, hyS, hy, _⟩ := h.ll u (by simp)
  obtain ⟨v, hv, a, _⟩ := h.up y hyS
  rcases List.eq_nil_or_concat L0 with rfl | ⟨L1, w, rfl⟩
  · simp at hv
    rw [hv] at a
    omega
  · exact ⟨L1, w, by rw [List.concat_eq_append]⟩
/-- The first line found, with one line more of a part that has been closed. -/
def findF (f : Nat → List Nat) (len : Nat) (fd : Int) (p : Nat) : Int := if (1 < len ∨ p ∈ f p) ∧ (fd < 0 ∨ (p : Int) < fd) then (p : Int) else fd
theorem find_fold (f : Nat → List Nat) (len : Nat) : ∀ (l : List Nat) (fd : Int), -1 ≤ fd →
    (l.foldl (findF f len) fd = fd ∨ ∃ p ∈ l, (1 < len ∨ p ∈ f p) ∧ l.foldl (findF f len) fd = (p : Int)) ∧
    (∀ p ∈ l, (1 < len ∨ p ∈ f p) → 0 ≤ l.foldl (findF f len) fd ∧ l.foldl (findF f len) fd ≤ (p : Int)) ∧
    (0 ≤ fd → 0 ≤ l.foldl (findF f len) fd ∧ l.foldl (findF f len) fd ≤ fd)
  | [], fd, _ => ⟨.inl rfl, fun p hp => (by cases hp), fun h => ⟨h, Int.le_refl _⟩⟩
  | a :: l, fd, h => by
    rw [List.foldl_cons]
    obtain ⟨fd1, h1⟩ : ∃ x, findF f len fd a = x := ⟨_, rfl⟩
    have hs : (fd1 = fd ∧ ((1 < len ∨ a ∈ f a) → 0 ≤ fd ∧ fd ≤ (a : Int))) ∨ (fd1 = (a : Int) ∧ (1 < len ∨ a ∈ f a) ∧ (fd < 0 ∨ (a : Int) < fd)) := by
      unfold findF at h1
      split at h1
      · rename_i hc; exact .inr ⟨h1.symm, hc⟩
      · rename_i hc; exact .inl ⟨h1.symm, fun t => by
          have : ¬ (fd < 0 ∨ (a : Int) < fd) := fun q => hc ⟨t, q⟩
          omega⟩
    have hge : -1 ≤ fd1 := by rcases hs with ⟨e, _⟩ | ⟨e, _⟩ <;> omega
    obtain ⟨i1, i2, i3⟩ := find_fold f len l fd1 hge
    rw [h1]
    refine ⟨?_, fun p hp hc => ?_, fun h0 => ?_⟩
    · rcases i1 with e | ⟨p, hp, hc, e⟩
      · rw [e]
        rcases hs with ⟨e, _⟩ | ⟨e, hc, _⟩
        · exact .inl e
        · exact .inr ⟨a, by simp, hc, e⟩
      · exact .inr ⟨p, List.mem_cons_of_mem _ hp, hc, e⟩
    · rcases List.mem_cons.1 hp with rfl | hp
      · have : 0 ≤ fd1 ∧ fd1 ≤ (p : Int) := by
          rcases hs with ⟨e, t⟩ | ⟨e, _⟩
          · rw [e]; exact t hc
          · rw [e]; omega
        have := i3 this.1
        omega
      · exact i2 p hp hc
    · have : 0 ≤ fd1 ∧ fd1 ≤ fd := by
        rcases hs with ⟨e, t⟩ | ⟨e, _, t⟩ <;> omega
      have := i3 this.1
      omega
theorem Tj.fdge (h : Tj n f num low nx on S L met fd) : -1 ≤ fd := by
  rcases h.fb with e | ⟨m, e, _⟩ <;> omega
/-- A line that is gone through and whose low place is its own: what lies behind it on the stack is one part. -/
theorem Tj.root {L0 S1 S2 : List Nat} {u : Nat} (h : Tj n f num low nx on (S1 ++ u :: S2) (L0 ++ [u]) met fd) (hd : (f u).length ≤ nx u) (hlow : ¬ low u < num u) {on' : Nat → Bool}
    (hon : ∀ x, on' x = true ↔ on x = true ∧ x ∉ u :: S2) :
    Tj n f num low nx on' S1 L0 met ((u :: S2).foldl (findF f (S2.length + 1)) fd) := by
  obtain ⟨part, hpart⟩ : ∃ part, u :: S2 = part := ⟨_, rfl⟩
  have hplen : S2.length + 1 = part.length := by rw [← hpart]; rfl
  have hup : u ∈ part := by rw [← hpart]; simp
  rw [hpart, hplen]
  rw [hpart] at h hon
  have huL : u ∈ L0 ++ [u] := by simp
  have huS : u ∈ S1 ++ part := h.ls u huL
  have hso := List.pairwise_append.1 h.so
  have h1 : ∀ x ∈ S1, num x < num u := fun x hx => hso.2.2 x hx u hup
  have h2 : ∀ x ∈ part, num u ≤ num x := fun x hx => by
    have hp := hso.2.1
    rw [← hpart] at hp hx
    rcases List.mem_cons.1 hx with rfl | hx
    · exact Nat.le_refl _
    · exact Nat.le_of_lt ((List.pairwise_cons.1 hp).1 x hx)
  have hS1 : ∀ x ∈ S1, x ∈ S1 ++ part := fun x hx => List.mem_append_left _ hx
  have hpS : ∀ x ∈ part, x ∈ S1 ++ part := fun x hx => List.mem_append_right _ hx
  have hcase : ∀ x, x ∈ S1 ++ part → num u ≤ num x → x ∈ part := fun x hx hl => by
    rcases List.mem_append.1 hx with t | t
    · have := h1 x t; omega
    · exact t
  have hcase1 : ∀ x, x ∈ S1 ++ part → num x < num u → x ∈ S1 := fun x hx hl => by
    rcases List.mem_append.1 hx with t | t
    · exact t
    · have := h2 x t; omega
  have hl0 : ∀ v ∈ L0, num v < num u := pair_last h.lo
  have hin : ∀ v ∈ L0, v ∈ L0 ++ [u] := fun v hv => List.mem_append_left _ hv
  have hback : ∀ v ∈ L0 ++ [u], num v < num u → v ∈ L0 := fun v hv hl => by
    rcases List.mem_append.1 hv with t | t
    · exact t
    · rw [List.mem_singleton.1 t] at hl; omega
  have hmax : ∀ d ∈ L0 ++ [u], num d ≤ num u := fun d hd => by
    rcases List.mem_append.1 hd with t | t
    · exact Nat.le_of_lt (hl0 d t)
    · rw [List.mem_singleton.1 t]; exact Nat.le_refl _
  -- what a line of the part leans on
  have hall : ∀ x, 0 < num x → x ∉ L0 → nx x = (f x).length := fun x hx hxl => by
    rcases h.nd x hx with t | t
    · rcases List.mem_append.1 t with t | t
      · exact absurd t hxl
      · rw [List.mem_singleton.1 t]; exact Nat.le_antisymm (h.nl u) hd
    · exact t
  have hpl : ∀ x ∈ part, x ∉ L0 := fun x hx t => by have a := hl0 x t; have b := h2 x hx; omega
  have hpe : ∀ x ∈ part, ∀ z ∈ f x, z ∈ S1 ++ part → z ∈ part := fun x hx z hz hzS => by
    obtain ⟨j, hj⟩ := List.getElem?_of_mem hz
    have hj2 : j < (f x).length := (List.getElem?_eq_some_iff.1 hj).1
    have hnx := hall x (h.sm x (hpS x hx)) (hpl x hx)
    have := h.lb u huL x (hpS x hx) (h2 x hx) (fun d hd _ => hmax d hd) j z (by omega) hj hzS
    exact hcase z hzS (by omega)
  have hmet : ∀ x, 0 < num x → x ∉ L0 → ∀ z ∈ f x, ¬ Free f z → 0 < num z := fun x hx hxl z hz hf => by
    obtain ⟨j, hj⟩ := List.getElem?_of_mem hz
    have hj2 : j < (f x).length := (List.getElem?_eq_some_iff.1 hj).1
    exact h.ex x j z hx (by rw [hall x hx hxl]; exact hj2) hj hf
  have hout : ∀ x, x ∉ S1 ++ part → x ∉ L0 := fun x hx t => hx (h.ls x (hin x t))
  -- all that one comes to from the part
  have hK : ∀ x, (Free f x ∨ (0 < num x ∧ (x ∈ part ∨ x ∉ S1 ++ part))) → ∀ z ∈ f x, (Free f z ∨ (0 < num z ∧ (z ∈ part ∨ z ∉ S1 ++ part))) := fun x hx z hz => by
    by_cases hf : Free f z
    · exact .inl hf
    · right
      rcases hx with hx | ⟨hx, hx2 | hx2⟩
      · exact absurd (free_out hx hz) hf
      · refine ⟨hmet x hx (hpl x hx2) z hz hf, ?_⟩
        by_cases hzS : z ∈ S1 ++ part
        · exact .inl (hpe x hx2 z hz hzS)
        · exact .inr hzS
      · exact ⟨hmet x hx (hout x hx2) z hz hf, .inr (h.cl x hx hx2 z hz)⟩
  have hF : ∀ x, (Free f x ∨ (0 < num x ∧ x ∉ S1 ++ part)) → ∀ z ∈ f x, (Free f z ∨ (0 < num z ∧ z ∉ S1 ++ part)) := fun x hx z hz => by
    by_cases hf : Free f z
    · exact .inl hf
    · right
      rcases hx with hx | ⟨hx, hx2⟩
      · exact absurd (free_out hx hz) hf
      · exact ⟨hmet x hx (hout x hx2) z hz hf, h.cl x hx hx2 z hz⟩
  have hru : ∀ x ∈ part, Reach f x u := fun x hx => by
    obtain ⟨v, hv, a, b⟩ := h.up x (hpS x hx)
    by_cases e : v = u
    · rw [← e]; exact b
    · have hvS := h.ls v hv
      have hv0 : v ∈ L0 := by
        rcases List.mem_append.1 hv with t | t
        · exact t
        · exact absurd (List.mem_singleton.1 t) e
      have hne : x ≠ v := fun t => hpl x hx (by rw [t]; exact hv0)
      rcases Way.stays hK (b.way hne) (.inr ⟨h.sm x (hpS x hx), .inl hx⟩) with t | ⟨_, t | t⟩
      · exact absurd t (h.nf v (h.sm v hvS))
      · exact absurd hv0 (hpl v t)
      · exact absurd hvS t
  have hrd : ∀ x ∈ part, Reach f u x := fun x hx => h.dn u huL x (hpS x hx) (h2 x hx)
  obtain ⟨g1, g2, g3⟩ := find_fold f part.length part fd h.fdge
  exact {
    lt := h.lt, nf := h.nf, le := h.le
    sm := fun x hx => h.sm x (hS1 x hx)
    so := hso.1
    os := fun x => by
      rw [hon, h.os]
      constructor
      · rintro ⟨a, b⟩
        rcases List.mem_append.1 a with t | t
        · exact t
        · exact absurd t b
      · intro t
        exact ⟨hS1 x t, fun q => by have a := h1 x t; have b := h2 x q; omega⟩
    ls := fun v hv => hcase1 v (h.ls v (hin v hv)) (hl0 v hv)
    lo := pair_front h.lo
    nl := h.nl
    nd := fun x hx => by
      by_cases hxl : x ∈ L0
      · exact .inl hxl
      · exact .inr (hall x hx hxl)
    ex := h.ex
    cl := fun x hx hxS z hz hzS => by
      by_cases hx2 : x ∈ S1 ++ part
      · have hxp : x ∈ part := by
          rcases List.mem_append.1 hx2 with t | t
          · exact absurd t hxS
          · exact t
        have a := h2 z (hpe x hxp z hz (hS1 z hzS)); have b := h1 z hzS
        omega
      · exact h.cl x hx hx2 z hz (hS1 z hzS)
    up := fun x hx => by
      obtain ⟨v, hv, a, b⟩ := h.up x (hS1 x hx)
      exact ⟨v, hback v hv (by have := h1 x hx; omega), a, b⟩
    dn := fun v hv x hx => h.dn v (hin v hv) x (hS1 x hx)
    ll := fun v hv => by
      obtain ⟨a, y, hy, b, c⟩ := h.ll v (hin v hv)
      exact ⟨a, y, hcase1 y hy (by have := hl0 v hv; omega), b, c⟩
    lb := fun v hv x hx hvx hm j z hj hz hzS =>
      h.lb v (hin v hv) x (hS1 x hx) hvx (fun d hd hdx => hm d (hback d hd (by have := h1 x hx; omega)) hdx) j z hj hz (hS1 z hzS)
    fa := fun x hx hxS hw => by
      by_cases hx2 : x ∈ S1 ++ part
      · have hxp : x ∈ part := by
          rcases List.mem_append.1 hx2 with t | t
          · exact absurd t hxS
          · exact t
        refine g2 x hxp ?_
        have key : ∀ z, z ∈ f x → Way f z x → z ≠ x → 1 < part.length := fun z hz hzw hne => by
          rcases hK x (.inr ⟨hx, .inl hxp⟩) z hz with t | ⟨t0, t | t⟩
          · exact absurd t (way_not_free hzw (h.nf x hx))
          · refine Nat.lt_of_not_le fun hle => ?_
            match hp : part, hxp, t, hle with
            | [a], hxp, t, _ => exact hne ((List.mem_singleton.1 t).trans (List.mem_singleton.1 hxp).symm)
            | [], hxp, _, _ => cases hxp
            | a :: b :: l, _, _, hle => simp at hle
          · rcases Way.stays hF hzw (.inr ⟨t0, t⟩) with q | ⟨_, q⟩
            · exact absurd q (h.nf x hx)
            · exact absurd hx2 q
        cases hw with
        | one hz => exact .inr hz
        | more hz hzw =>
          rename_i z
          by_cases e : z = x
          · rw [e] at hz; exact .inr hz
          · exact .inl (key z hz hzw e)
      · have a := h.fa x hx hx2 hw
        have b := g3 a.1
        omega
    fb := by
      rcases g1 with e | ⟨p, hp, hc, e⟩
      · rw [e]; exact h.fb
      · refine .inr ⟨p, e, h.lt p (h.sm p (hpS p hp)), ?_⟩
        rcases hc with hc | hc
        · by_cases hpu : p = u
          · have hnd : part.Nodup := hso.2.1.imp fun {a b} hab e => by rw [e] at hab; omega
            obtain ⟨q, hq, hqu⟩ : ∃ q ∈ part, q ≠ u := by
              refine Classical.byContradiction fun hn => ?_
              have hall : ∀ q ∈ part, q = u := fun q hq => Classical.byContradiction fun t => hn ⟨q, hq, t⟩
              match hp : part, hc, hnd, hall with
              | a :: b :: l, _, hnd, hall =>
                have h1 := hall a (by simp); have h2 := hall b (by simp)
                rw [List.nodup_cons] at hnd
                exact hnd.1 (by rw [h1, ← h2]; simp)
              | [a], hc, _, _ => simp at hc
              | [], hc, _, _ => simp at hc
            rw [hpu]
            exact ((hrd q hq).way (fun t => hqu t.symm)).reach (hru q hq)
          · exact ((hru p hp).way hpu).reach (hrd p hp)
        · exact .one hc }
/-- No line under way: the stack is empty. -/
theorem Tj.empty (h : Tj n f num low nx on S [] met fd) : S = [] := by
  match S, h with
  | [], _ => rfl
  | x :: l, h => obtain ⟨u, hu, _⟩ := h.up x (by simp); cases hu
theorem Tj.fin (h : Tj n f num low nx on S [] met fd) (hf : ∀ i, i < n → ∀ p ∈ f i, p < n) (ha : fd = 0 ∨ ∀ i, i < n → ¬ Free f i → 0 < num i) :
    (fd = -1 ∧ ∀ i, i < n → Free f i) ∨ ∃ i : Nat, i < n ∧ fd = (i : Int) ∧ Way f i i ∧ ∀ j, j < i → ¬ Way f j j := by
  have hS := h.empty
  subst hS
  rcases h.fb with e | ⟨m, e, hm, hw⟩
  · left
    refine ⟨e, ?_⟩
    have ha := ha.resolve_left (by omega)
    refine free_of_no_circ hf fun i hi hw => ?_
    have := h.fa i (ha i hi (circ_not_free hw)) (by simp) hw
    omega
  · right
    refine ⟨m, hm, e, hw, fun j hj hwj => ?_⟩
    rcases ha with ha | ha
    · omega
    · have := h.fa j (ha j (by omega) (circ_not_free hwj)) (by simp) hwj
      omega
end
end Go.Proofs.YtjkmoahnociaiaaDoor
