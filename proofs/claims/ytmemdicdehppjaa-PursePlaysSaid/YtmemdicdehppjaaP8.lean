/- PurseParts: what is kept of the parts; the contracts in these words. -/
import Derived.Test.YtmemdicdehppjaaP7
namespace Go.Proofs.Ytmemdicdehppjaa
open Go.RowKit Go.MuLone

/-- A part, as the law sees it: its block, its size, whether it is closed. -/
structure KD where
  b : Nat
  s : Int
  gone : Bool
def kid (b lk : Nat) (x : KD) : PS := ⟨x.s, if x.gone then 0 else x.s, 0, 0, x.gone, x.s, lk, some b⟩
def outOf : List KD → Int
  | [] => 0
  | x :: r => (if x.gone then 0 else x.s) + outOf r
def cntOf : List KD → Int
  | [] => 0
  | x :: r => (if x.gone then 0 else 1) + cntOf r
def par (L pk : Int) (lk : Nat) (l : List KD) : PS := ⟨L, 0, outOf l, cntOf l, false, pk, lk, none⟩
def fam (b lk : Nat) (L pk : Int) (l : List KD) : List (Nat × PS) := (b, par L pk lk l) :: l.map fun x => (x.b, kid b lk x)
theorem outOf_app : ∀ l m : List KD, outOf (l ++ m) = outOf l + outOf m
  | [], m => by simp [outOf]
  | x :: r, m => by simp only [List.cons_append, outOf, outOf_app r m]; omega
theorem cntOf_app : ∀ l m : List KD, cntOf (l ++ m) = cntOf l + cntOf m
  | [], m => by simp [cntOf]
  | x :: r, m => by simp only [List.cons_append, cntOf, cntOf_app r m]; omega
theorem outOf_set : ∀ (l : List KD) (i : Nat) (x y : KD), l[i]? = some x → outOf (l.set i y) = outOf l - (if x.gone then 0 else x.s) + (if y.gone then 0 else y.s)
  | [], _, _, _, h => by simp at h
  | z :: r, 0, x, y, h => by simp at h; subst h; simp only [List.set_cons_zero, outOf]; omega
  | z :: r, i + 1, x, y, h => by
    have := outOf_set r i x y (by simpa using h)
    simp only [List.set_cons_succ, outOf, this]; omega
theorem cntOf_set : ∀ (l : List KD) (i : Nat) (x y : KD), l[i]? = some x → cntOf (l.set i y) = cntOf l - (if x.gone then 0 else 1) + (if y.gone then 0 else 1)
  | [], _, _, _, h => by simp at h
  | z :: r, 0, x, y, h => by simp at h; subst h; simp only [List.set_cons_zero, cntOf]; omega
  | z :: r, i + 1, x, y, h => by
    have := cntOf_set r i x y (by simpa using h)
    simp only [List.set_cons_succ, cntOf, this]; omega
theorem outOf_mem : ∀ (l : List KD) (i : Nat) (x : KD), (∀ y ∈ l, 0 ≤ y.s) → l[i]? = some x → x.gone = false → x.s ≤ outOf l ∧ 0 ≤ outOf l
  | [], _, _, _, h, _ => by simp at h
  | z :: r, 0, x, hp, h, hg => by
    simp at h; subst h
    have h0 := outOf_nonneg r (fun y hy => hp y (by simp [hy]))
    have := hp z (by simp)
    simp only [outOf, hg]
    simp; omega
  | z :: r, i + 1, x, hp, h, hg => by
    have h0 := outOf_mem r i x (fun y hy => hp y (by simp [hy])) (by simpa using h) hg
    have := hp z (by simp)
    simp only [outOf]
    split <;> omega
where outOf_nonneg : ∀ l : List KD, (∀ y ∈ l, 0 ≤ y.s) → 0 ≤ outOf l
  | [], _ => by simp [outOf]
  | z :: r, hp => by
    have h0 := outOf_nonneg r (fun y hy => hp y (by simp [hy]))
    have := hp z (by simp)
    simp only [outOf]
    split <;> omega
theorem cntOf_range : ∀ l : List KD, 0 ≤ cntOf l ∧ cntOf l ≤ l.length
  | [] => by simp [cntOf]
  | z :: r => by
    have := cntOf_range r
    simp only [cntOf, List.length_cons]
    split <;> omega
theorem cntOf_mem : ∀ (l : List KD) (i : Nat) (x : KD), l[i]? = some x → x.gone = false → 1 ≤ cntOf l
  | [], _, _, h, _ => by simp at h
  | z :: r, 0, x, h, hg => by
    simp at h; subst h
    have := (cntOf_range r).1
    simp only [cntOf, hg]
    simp; omega
  | z :: r, i + 1, x, h, hg => by
    have := cntOf_mem r i x (by simpa using h) hg
    simp only [cntOf]
    split <;> omega
/-- Everything that the law keeps of a purse and its parts. -/
structure Kept (w : World) (b lk : Nat) (L pk : Int) (l : List KD) : Prop where
  f : Fam w (fam b lk L pk l)
  s : ∀ y ∈ l, 0 ≤ y.s ∧ y.s ≤ 9223372036854775807
  o : outOf l ≤ L
  L1 : L ≤ 9223372036854775807
  k0 : 0 ≤ pk
  k1 : pk ≤ L
  n : l.length ≤ 4611686018427387904
theorem Kept.goodP {w : World} {b lk : Nat} {L pk : Int} {l : List KD} (h : Kept w b lk L pk l) : (par L pk lk l).Good := by
  have h0 := outOf_mem.outOf_nonneg l (fun y hy => (h.s y hy).1)
  have h1 := cntOf_range l
  obtain ⟨_, _, ho, hL, k0, k1, _⟩ := h
  constructor <;> simp only [par] <;> omega
theorem kid_good {b lk : Nat} {x : KD} (h : 0 ≤ x.s ∧ x.s ≤ 9223372036854775807) : (kid b lk x).Good := by
  unfold kid
  cases x.gone <;> constructor <;> simp <;> omega
section
variable {w w' : World} {b lk : Nat} {L pk : Int} {l : List KD}
theorem Kept.p (h : Kept w b lk L pk l) : IsP w b (par L pk lk l) := h.f.at_ (i := 0) rfl
theorem Kept.kid_at (h : Kept w b lk L pk l) {i : Nat} {x : KD} (hi : l[i]? = some x) : IsP w x.b (kid b lk x) := h.f.at_ (i := i + 1) (x := (x.b, kid b lk x)) (by simp [fam, hi])
theorem Kept.b_ne (h : Kept w b lk L pk l) {i : Nat} {x : KD} (hi : l[i]? = some x) : x.b ≠ b := fun e => by
  have := h.f.2 (i + 1) 0 (x.b, kid b lk x) (b, par L pk lk l) (by simp [fam, hi]) rfl e
  omega
theorem Kept.still (h : Kept w b lk L pk l) (hg : w.grownBy w' none) : Kept w' b lk L pk l := ⟨h.f.still hg, h.s, h.o, h.L1, h.k0, h.k1, h.n⟩
theorem Kept.below (h : Kept w b lk L pk l) (hb : Below w.heap.size w w') : Kept w' b lk L pk l := h.still (only_of_below hb none)
end
end Go.Proofs.Ytmemdicdehppjaa
