/- All purses that were made, with the document's: one invariant over both. -/
import Derived.Test.YtmemdicdehppjaaR5
namespace Go.Proofs.Ytmemdicdehppjaa
open Go.RowKit

/-- A purse that was made, and the document's of the same number. -/
structure ND where
  b : Nat
  r : Nat
  lk : Nat
  limit : Int
  hand : Int
  peak : Int
  opn : Bool
  up : Option Nat
  row : Value
def ND.rk (x : ND) : RK := ⟨x.r, x.limit, x.opn⟩
def kids (N : List ND) (i : Nat) : List RK := (N.filter (fun x => x.up == some i)).map ND.rk
def ND.rs (x : ND) : RS := ⟨x.limit, x.hand, x.peak, x.opn, x.up.isSome, x.row⟩
def upB (N : List ND) (u : Option Nat) : Option Nat := u.bind fun j => (N[j]?).map (·.b)
def ND.ps (N : List ND) (i : Nat) (x : ND) : PS := ⟨x.limit, x.hand, kidSum (kids N i), kidCnt (kids N i), !x.opn, x.peak, x.lk, upB N x.up⟩
structure Forest (w : World) (base : Nat) (N : List ND) : Prop where
  p : ∀ (i : Nat) (x : ND), N[i]? = some x → IsP w x.b (x.ps N i)
  r : ∀ (i : Nat) (x : ND), N[i]? = some x → Blk w x.r 69 x.rs.cells
  o : ∀ (i : Nat) (x : ND), N[i]? = some x → Owns w base 40 x.row (kptrs (kids N i))
  g : ∀ (i : Nat) (x : ND), N[i]? = some x → (x.ps N i).Good
  db : ∀ (i j : Nat) (x y : ND), N[i]? = some x → N[j]? = some y → x.b = y.b → i = j
  dr : ∀ (i j : Nat) (x y : ND), N[i]? = some x → N[j]? = some y → x.r = y.r → i = j
  dw : ∀ (i j : Nat) (x y : ND), N[i]? = some x → N[j]? = some y → x.row.ownBlock = y.row.ownBlock → x.row.ownBlock ≠ none → i = j
  u : ∀ (i : Nat) (x : ND), N[i]? = some x → ∀ j, x.up = some j → ∃ y, N[j]? = some y ∧ y.lk = x.lk ∧ j ≠ i
  lo : ∀ (i : Nat) (x : ND), N[i]? = some x → base ≤ x.b ∧ base ≤ x.r ∧ base ≤ x.lk
section
variable {w w' : World} {base : Nat} {N : List ND}
theorem kids_mem {i : Nat} {k : RK} (h : k ∈ kids N i) : ∃ (j : Nat) (y : ND), N[j]? = some y ∧ y.up = some i ∧ y.rk = k := by
  unfold kids at h
  obtain ⟨y, hy, hk⟩ := List.mem_map.1 h
  obtain ⟨hm, hu⟩ := List.mem_filter.1 hy
  obtain ⟨j, hj⟩ := List.getElem?_of_mem hm
  exact ⟨j, y, hj, by simpa using hu, hk⟩
theorem Forest.kidB (h : Forest w base N) {i : Nat} {x : ND} (hi : N[i]? = some x) : ∀ k ∈ kids N i, k.b ≠ x.r ∧ KidB w k ∧ 0 ≤ k.limit := by
  intro k hk
  obtain ⟨j, y, hj, hu, rfl⟩ := kids_mem hk
  obtain ⟨_, _, _, hne⟩ := h.u j y hj i hu
  exact ⟨fun e => hne (h.dr i j x y hi hj e.symm), ⟨y.rs, h.r j y hj, rfl, rfl⟩, (h.g j y hj).l0⟩
theorem kids_length (i : Nat) : (kids N i).length ≤ N.length := by
  unfold kids
  rw [List.length_map]
  exact List.length_filter_le _ _
theorem Forest.link (h : Forest w base N) {i : Nat} {x : ND} (hi : N[i]? = some x) : Link (x.ps N i) x.rs (kids N i) := by
  refine ⟨rfl, rfl, rfl, rfl, by simp [ND.rs, ND.ps], ?_, rfl⟩
  show x.up.isSome = (upB N x.up).isSome
  rcases hu : x.up with _ | j
  · rfl
  · obtain ⟨y, hy, _⟩ := h.u i x hi j hu
    simp [upB, hy]
theorem Forest.rgood (h : Forest w base N) (hn : N.length ≤ 4611686018427387904) {i : Nat} {x : ND} (hi : N[i]? = some x) : RGood x.rs (kids N i) :=
  (h.link hi).good (h.g i x hi) (fun k hk => (h.kidB hi k hk).2.2) (by have := kids_length (N := N) i; omega)
/-- The kids of a purse stay while purses, or its own block, turn. -/
theorem Forest.kids_at (h : Forest w base N) {i : Nat} {x : ND} (hi : N[i]? = some x) {bs : List Nat} (ht : Tur w w' bs) (hb : ∀ g ∈ bs, Typed w g 60 ∨ g = x.r) : KidsAt w' x.row (kids N i) := by
  refine kids_of (base := base) ((h.o i x hi).asideT (fun g hg => ?_) ht) (fun k hk => ?_)
  · rcases hb g hg with h1 | rfl
    · exact ⟨60, by decide, h1⟩
    · exact ⟨69, by decide, (h.r i x hi).typed⟩
  · obtain ⟨hne, ⟨s, hs, h1, h2⟩, _⟩ := h.kidB hi k hk
    refine KidB.cells ⟨s, ht.blk hs (fun hm => ?_), h1, h2⟩
    rcases hb _ hm with h3 | h3
    · exact (hs.typed.ne h3 (by decide)) rfl
    · exact hne h3
theorem Forest.rp (h : Forest w base N) {i : Nat} {x : ND} (hi : N[i]? = some x) : RP w x.r x.rs (kids N i) :=
  ⟨h.r i x hi, h.kids_at hi (Tur.refl w []) (by simp)⟩
theorem Forest.still (h : Forest w base N) (hg : w.grownBy w' none) : Forest w' base N :=
  ⟨fun i x hi => (h.p i x hi).still hg, fun i x hi => (h.r i x hi).grown hg (by simp), fun i x hi => (h.o i x hi).kept hg (by cases x.row.ownBlock <;> simp), h.g, h.db, h.dr, h.dw, h.u, h.lo⟩
theorem forest_sees (h : Forest w base N) (hn : N.length ≤ 4611686018427387904) {i : Nat} {x : ND} (hi : N[i]? = some x) :
    Calls Try.prog 18 #[.pointer (some ⟨x.b, 0, none⟩), .pointer (some ⟨x.r, 0, none⟩)] w fun e w' => e = .returned (.bool true) ∧ Forest w' base N ∧ w.grownBy w' none :=
  (sees_any (h.p i x hi) (h.g i x hi) (h.rp hi) (h.rgood hn hi) (h.link hi)).mono fun e w' ⟨h1, h2⟩ => ⟨h1, h.still h2, h2⟩
/-! One purse turns, its kids and its row don't. -/
theorem kids_set {i : Nat} {x x' : ND} (hi : N[i]? = some x) (hk : x'.rk = x.rk) (hu : x'.up = x.up) (j : Nat) : kids (N.set i x') j = kids N j := by
  unfold kids
  induction N generalizing i with
  | nil => rfl
  | cons y l ih =>
    cases i with
    | zero =>
      simp at hi
      subst hi
      rw [List.set_cons_zero]
      simp only [List.filter_cons, hu]
      split
      · rw [List.map_cons, List.map_cons, hk]
      · rfl
    | succ i =>
      rw [List.set_cons_succ]
      simp only [List.filter_cons]
      split
      · rw [List.map_cons, List.map_cons, ih (by simpa using hi)]
      · exact ih (by simpa using hi)
theorem upB_set {i : Nat} {x x' : ND} (hi : N[i]? = some x) (hb : x'.b = x.b) (u : Option Nat) : upB (N.set i x') u = upB N u := by
  unfold upB
  rcases u with _ | j
  · rfl
  · simp only [Option.bind_some, List.getElem?_set]
    split
    · rename_i e
      subst e
      split
      · rw [hi]; simp [hb]
      · rename_i hlt
        rw [List.getElem?_eq_none (by omega)] at hi
        cases hi
    · rfl
theorem set_at {i j : Nat} {x' y : ND} (h : (N.set i x')[j]? = some y) : (i = j ∧ y = x') ∨ (i ≠ j ∧ N[j]? = some y) := by
  rw [List.getElem?_set] at h
  split at h
  · split at h
    · rename_i e _
      exact .inl ⟨e, (Option.some.inj h).symm⟩
    · cases h
  · rename_i e
    exact .inr ⟨e, h⟩
end
end Go.Proofs.Ytmemdicdehppjaa
