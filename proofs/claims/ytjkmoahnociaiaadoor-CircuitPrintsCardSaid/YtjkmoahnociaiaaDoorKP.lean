/- Lines that lean on lines, as lists of numbers: an order, and how it is found. No program in sight. -/
import Derived.Test.YtjkmoahnociaiaaDoorRows
namespace Go.Proofs.YtjkmoahnociaiaaDoor

/-- Each stands behind those on which it leans; who is left out leans on one that is left out. -/
structure IsOrder (n : Nat) (f : Nat → List Nat) (L : List Nat) : Prop where
  nd : L.Nodup
  lt : ∀ i ∈ L, i < n
  topo : ∀ (j i : Nat), L[j]? = some i → ∀ p ∈ f i, p ∈ L.take j
  full : ∀ i, i < n → i ∉ L → ∃ p ∈ f i, p ∉ L

/-- How many of l are not in P. -/
def rest (P l : List Nat) : Nat := l.countP (fun p => !P.contains p)
theorem rest_nil (l : List Nat) : rest [] l = l.length := by
  unfold rest
  rw [List.countP_eq_length]
  simp
theorem rest_snoc {P : List Nat} {p : Nat} (hp : p ∉ P) : ∀ l : List Nat, rest (P ++ [p]) l + l.count p = rest P l
  | [] => rfl
  | x :: l => by
    have ih := rest_snoc hp l
    unfold rest at ih ⊢
    rw [List.countP_cons, List.countP_cons, List.count_cons]
    by_cases e : x = p
    · subst e
      simp [hp]
      simp at ih
      omega
    · by_cases hx : x ∈ P
      · simp [hx, e]
        simp at ih
        omega
      · simp [hx, e]
        simp at ih
        omega
theorem rest_zero {P l : List Nat} (h : rest P l = 0) : ∀ p ∈ l, p ∈ P := by
  unfold rest at h
  rw [List.countP_eq_zero] at h
  intro p hp
  have := h p hp
  simpa using this
theorem rest_pos {P l : List Nat} (h : rest P l ≠ 0) : ∃ p ∈ l, p ∉ P := by
  unfold rest at h
  have : 0 < l.countP (fun p => !P.contains p) := by omega
  rw [List.countP_pos_iff] at this
  obtain ⟨p, hp, hq⟩ := this
  exact ⟨p, hp, by simpa using hq⟩
theorem count_le_rest {P : List Nat} {p : Nat} (hp : p ∉ P) (l : List Nat) : l.count p ≤ rest P l := by
  have := rest_snoc hp l
  omega

/-- Who leans on p, told by lists: each as often as it leans. -/
def Users (n : Nat) (f : Nat → List Nat) (us : Nat → List Nat) : Prop := ∀ p, p < n → ∀ i, (us p).count i = if i < n then (f i).count p else 0

/-- What the lines wait for, while the k-th of the list is looked at, m of its users behind. -/
structure Kahn (n : Nat) (f us : Nat → List Nat) (ws L : List Nat) (k m : Nat) : Prop where
  wl : ws.length = n
  nd : L.Nodup
  lt : ∀ i ∈ L, i < n
  topo : ∀ (j i : Nat), L[j]? = some i → ∀ p ∈ f i, p ∈ L.take j
  kle : k ≤ L.length
  rem : ∀ (i x : Nat), ws[i]? = some x → x + (((L[k]?).map fun p => (us p).take m).getD []).count i = rest (L.take k) (f i)
  zero : ∀ (i x : Nat), ws[i]? = some x → (i ∈ L ↔ x = 0)

section
variable {n : Nat} {f us : Nat → List Nat} {ws L : List Nat} {k m : Nat}
theorem take_sub {l : List Nat} {a b x : Nat} (h : a ≤ b) (hx : x ∈ l.take a) : x ∈ l.take b := by
  rw [List.mem_take_iff_getElem] at hx ⊢
  obtain ⟨j, hj, e⟩ := hx
  exact ⟨j, by omega, e⟩
theorem topo_snoc {L : List Nat} {u : Nat} (h : ∀ (j i : Nat), L[j]? = some i → ∀ p ∈ f i, p ∈ L.take j) (hu : ∀ p ∈ f u, p ∈ L) : ∀ (j i : Nat), (L ++ [u])[j]? = some i → ∀ p ∈ f i, p ∈ (L ++ [u]).take j := by
  intro j i hj p hp
  rcases Nat.lt_or_ge j L.length with hlt | hge
  · rw [List.getElem?_append_left hlt] at hj
    have := h j i hj p hp
    rw [List.take_append_of_le_length (by omega)]
    exact this
  · have : j = L.length := by
      rcases Nat.eq_or_lt_of_le hge with e | e
      · exact e.symm
      · rw [List.getElem?_eq_none (by simp; omega)] at hj; cases hj
    subst this
    rw [List.getElem?_append_right (by omega)] at hj
    simp at hj
    subst hj
    rw [List.take_left']
    · exact hu p hp
    · rfl
theorem nd_snoc {L : List Nat} {u : Nat} (h : L.Nodup) (hu : u ∉ L) : (L ++ [u]).Nodup := by
  rw [List.nodup_append]
  refine ⟨h, by simp, fun a ha b hb => ?_⟩
  simp at hb
  subst hb
  rintro rfl
  exact hu ha
theorem Kahn.start (hwl : ws.length = n) (hws : ∀ (i x : Nat), ws[i]? = some x → x = (f i).length) (hL : L = (List.range n).filter fun i => (f i).isEmpty) : Kahn n f us ws L 0 0 := by
  subst hL
  refine ⟨hwl, List.Pairwise.filter _ List.nodup_range, fun i hi => ?_, fun j i hj p hp => ?_, Nat.zero_le _, fun i x hx => ?_, fun i x hx => ?_⟩
  · simp at hi; exact hi.1
  · have := List.mem_of_getElem? hj
    simp at this
    rw [this.2] at hp
    cases hp
  · rw [hws i x hx, List.take_zero, rest_nil]
    have : ∀ o : Option Nat, ((o.map fun p => (us p).take 0).getD []).count i = 0 := fun o => by cases o <;> simp
    rw [this]
    omega
  · have hlt : i < n := by rw [← hwl]; exact (List.getElem?_eq_some_iff.1 hx).1
    rw [hws i x hx]
    simp [hlt]
theorem Kahn.inner (h : Kahn n f us ws L k m) (hU : Users n f us) {p u x : Nat} (hp : L[k]? = some p) (hu : (us p)[m]? = some u) (hx : ws[u]? = some x) :
    1 ≤ x ∧ Kahn n f us (ws.set u (x - 1)) (if x = 1 then L ++ [u] else L) k (m + 1) := by
  have hpn : p < n := h.lt p (List.mem_of_getElem? hp)
  have hun : u < n := by rw [← h.wl]; exact (List.getElem?_eq_some_iff.1 hx).1
  have hkl : k < L.length := (List.getElem?_eq_some_iff.1 hp).1
  have htk : L.take (k + 1) = L.take k ++ [p] := by rw [List.take_add_one, hp]; rfl
  have hpt : p ∉ L.take k := fun hm => by
    have h1 := h.nd
    rw [← List.take_append_drop (k + 1) L, htk] at h1
    rw [List.append_assoc, List.nodup_append] at h1
    exact h1.2.2 p hm p (by simp) rfl
  have hct : ∀ i, ((us p).take (m + 1)).count i = ((us p).take m).count i + (if u = i then 1 else 0) := fun i => by
    rw [List.take_add_one, hu, List.count_append]
    simp [List.count_singleton]
  have hcl : ∀ i, ((us p).take (m + 1)).count i ≤ (us p).count i := fun i => List.Sublist.count_le _ (List.take_sublist _ _)
  have hrem := fun i y hy => h.rem i y hy
  simp only [hp, Option.map_some, Option.getD_some] at hrem
  have hru := hrem u x hx
  have hcu := hU p hpn u
  rw [if_pos hun] at hcu
  have h1 : 1 ≤ x := by
    have a1 := hcl u
    rw [hct u, if_pos rfl] at a1
    have a2 := count_le_rest hpt (f u)
    omega
  have hnu : u ∉ L := fun hm => by
    have := (h.zero u x hx).1 hm
    omega
  refine ⟨h1, ?_⟩
  have hset : ∀ (i y : Nat), (ws.set u (x - 1))[i]? = some y → (i = u ∧ y = x - 1) ∨ (i ≠ u ∧ ws[i]? = some y) := fun i y hy => by
    by_cases e : i = u
    · subst e
      rw [List.getElem?_set_self (by rw [h.wl]; exact hun)] at hy
      exact .inl ⟨rfl, (Option.some.inj hy).symm⟩
    · rw [List.getElem?_set_ne (fun e2 => e e2.symm)] at hy
      exact .inr ⟨e, hy⟩
  have hrem' : ∀ (i y : Nat), (ws.set u (x - 1))[i]? = some y → y + ((us p).take (m + 1)).count i = rest (L.take k) (f i) := fun i y hy => by
    rw [hct i]
    rcases hset i y hy with ⟨rfl, rfl⟩ | ⟨e, hy⟩
    · rw [if_pos rfl, ← hru]; omega
    · rw [if_neg (fun e2 => e e2.symm), ← hrem i y hy]; omega
  by_cases e1 : x = 1
  · subst e1
    rw [if_pos rfl]
    have hall : ∀ q ∈ f u, q ∈ L.take (k + 1) := by
      have a1 := hcl u
      have a2 := hrem' u 0 (by rw [List.getElem?_set_self (by rw [h.wl]; exact hun)])
      have a3 := rest_snoc hpt (f u)
      rw [← htk] at a3
      exact rest_zero (by omega)
    refine ⟨by rw [List.length_set]; exact h.wl, nd_snoc h.nd hnu, fun i hi => ?_, topo_snoc h.topo (fun q hq => List.mem_of_mem_take (hall q hq)), by simp; omega, fun i y hy => ?_, fun i y hy => ?_⟩
    · rcases List.mem_append.1 hi with hi | hi
      · exact h.lt i hi
      · simp at hi; subst hi; exact hun
    · rw [List.getElem?_append_left hkl, hp, List.take_append_of_le_length (by omega)]
      exact hrem' i y hy
    · rcases hset i y hy with ⟨rfl, rfl⟩ | ⟨e, hy⟩
      · simp
      · rw [List.mem_append]
        simp only [List.mem_singleton, e, or_false]
        exact h.zero i y hy
  · rw [if_neg e1]
    refine ⟨by rw [List.length_set]; exact h.wl, h.nd, h.lt, h.topo, h.kle, fun i y hy => ?_, fun i y hy => ?_⟩
    · rw [hp]
      exact hrem' i y hy
    · rcases hset i y hy with ⟨rfl, rfl⟩ | ⟨e, hy⟩
      · constructor
        · intro hm; exact absurd hm hnu
        · omega
      · exact h.zero i y hy
theorem Kahn.next (h : Kahn n f us ws L k m) (hU : Users n f us) {p : Nat} (hp : L[k]? = some p) (hm : m = (us p).length) : Kahn n f us ws L (k + 1) 0 := by
  have hpn : p < n := h.lt p (List.mem_of_getElem? hp)
  have hkl : k < L.length := (List.getElem?_eq_some_iff.1 hp).1
  have htk : L.take (k + 1) = L.take k ++ [p] := by rw [List.take_add_one, hp]; rfl
  have hpt : p ∉ L.take k := fun hm => by
    have h1 := h.nd
    rw [← List.take_append_drop (k + 1) L, htk] at h1
    rw [List.append_assoc, List.nodup_append] at h1
    exact h1.2.2 p hm p (by simp) rfl
  refine ⟨h.wl, h.nd, h.lt, h.topo, hkl, fun i y hy => ?_, h.zero⟩
  have hin : i < n := by rw [← h.wl]; exact (List.getElem?_eq_some_iff.1 hy).1
  have a1 := h.rem i y hy
  simp only [hp, Option.map_some, Option.getD_some] at a1
  rw [hm, List.take_length, hU p hpn i, if_pos hin] at a1
  have a3 := rest_snoc hpt (f i)
  rw [← htk] at a3
  have : ∀ o : Option Nat, ((o.map fun p => (us p).take 0).getD []).count i = 0 := fun o => by cases o <;> simp
  rw [this]
  omega
theorem Kahn.order (h : Kahn n f us ws L k 0) (hk : k = L.length) : IsOrder n f L := by
  subst hk
  refine ⟨h.nd, h.lt, h.topo, fun i hi hn => ?_⟩
  obtain ⟨x, hx⟩ : ∃ x, ws[i]? = some x := ⟨_, List.getElem?_eq_getElem (by rw [h.wl]; exact hi)⟩
  have h1 := h.rem i x hx
  have h2 := mt (h.zero i x hx).2 hn
  rw [List.take_length] at h1
  have : ∀ o : Option Nat, ((o.map fun p => (us p).take 0).getD []).count i = 0 := fun o => by cases o <;> simp
  rw [this] at h1
  exact rest_pos (by omega)
theorem Kahn.le (h : Kahn n f us ws L k m) : L.length ≤ n := by
  have : L.length ≤ (List.range n).length := by
    exact List.Nodup.length_le_of_subset h.nd fun i hi => by simpa using h.lt i hi
  simpa using this
end
end Go.Proofs.YtjkmoahnociaiaaDoor
