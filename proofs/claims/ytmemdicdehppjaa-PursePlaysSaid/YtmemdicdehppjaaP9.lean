/- PurseParts: the calls, in the words of what is kept. -/
import Derived.Test.YtmemdicdehppjaaP8
namespace Go.Proofs.Ytmemdicdehppjaa
open Go.RowKit Go.MuLone

theorem IsP.tur {w w' : World} {b : Nat} {p : PS} {bs : List Nat} (h : IsP w b p) (ht : Tur w w' bs) (hb : b ∉ bs) (hl : p.lk ∉ bs) : IsP w' b p := ⟨ht.blk h.1 hb, ht.blk h.2 hl⟩
/-- Two purses of a family turned. -/
theorem Fam.two {w w' : World} {l : List (Nat × PS)} (h : Fam w l) {i j a b : Nat} {p p' q q' : PS} (hij : i ≠ j) (hi : l[i]? = some (a, p)) (hj : l[j]? = some (b, q)) (ht : Tur w w' [a, b]) (hp : IsP w' a p') (hq : IsP w' b q') : Fam w' ((l.set i (a, p')).set j (b, q')) := by
  have hli := (List.getElem?_eq_some_iff.1 hi).1
  have hlj := (List.getElem?_eq_some_iff.1 hj).1
  have key : ∀ (k : Nat) (x : Nat × PS), ((l.set i (a, p')).set j (b, q'))[k]? = some x → (k = j ∧ x = (b, q')) ∨ (k = i ∧ x = (a, p')) ∨ (k ≠ i ∧ k ≠ j ∧ l[k]? = some x) := fun k x hx => by
    by_cases e : k = j
    · subst e
      rw [List.getElem?_set_self (by rw [List.length_set]; exact hlj)] at hx
      exact .inl ⟨rfl, (Option.some.inj hx).symm⟩
    · rw [List.getElem?_set_ne (fun e2 => e e2.symm)] at hx
      by_cases e3 : k = i
      · subst e3
        rw [List.getElem?_set_self hli] at hx
        exact .inr (.inl ⟨rfl, (Option.some.inj hx).symm⟩)
      · rw [List.getElem?_set_ne (fun e2 => e3 e2.symm)] at hx
        exact .inr (.inr ⟨e3, e, hx⟩)
  have old : ∀ (k : Nat) (x : Nat × PS), ((l.set i (a, p')).set j (b, q'))[k]? = some x → ∃ y : Nat × PS, l[k]? = some y ∧ y.1 = x.1 := fun k x hx => by
    rcases key k x hx with ⟨e1, e2⟩ | ⟨e1, e2⟩ | ⟨_, _, h3⟩
    · exact ⟨_, by rw [e1]; exact hj, by rw [e2]⟩
    · exact ⟨_, by rw [e1]; exact hi, by rw [e2]⟩
    · exact ⟨x, h3, rfl⟩
  refine ⟨fun k x hx => ?_, fun k m x y hx hy e => ?_⟩
  · rcases key k x hx with ⟨_, e2⟩ | ⟨_, e2⟩ | ⟨hki, hkj, h3⟩
    · rw [e2]; exact hq
    · rw [e2]; exact hp
    · have hx1 := h.1 k x h3
      refine hx1.tur ht ?_ ?_
      · simp only [List.mem_cons, List.not_mem_nil, or_false]
        rintro (e | e)
        · exact hki (h.2 k i x _ h3 hi e)
        · exact hkj (h.2 k j x _ h3 hj e)
      · simp only [List.mem_cons, List.not_mem_nil, or_false]
        rintro (e | e)
        · exact ((h.1 i _ hi).1.ne hx1.2 (by decide)) e.symm
        · exact ((h.1 j _ hj).1.ne hx1.2 (by decide)) e.symm
  · obtain ⟨x', hx', ex⟩ := old k x hx
    obtain ⟨y', hy', ey⟩ := old m y hy
    exact h.2 k m x' y' hx' hy' (by rw [ex, ey, e])
theorem set_same {α : Type} {l : List α} {i : Nat} {x : α} (h : l[i]? = some x) : l.set i x = l := by
  obtain ⟨hi, e⟩ := List.getElem?_eq_some_iff.1 h
  rw [← e]; exact List.set_getElem_self hi
def born (b lk : Nat) (x : Int) : PS := ⟨x, 0, 0, 0, false, 0, lk, some b⟩
def empty (b lk : Nat) (x : Int) : PS := ⟨x, 0, 0, 0, false, x, lk, some b⟩
theorem par_more (L pk x : Int) (lk q : Nat) (l : List KD) : partP (par L pk lk l) x = par L (max pk (outOf l + x)) lk (l ++ [⟨q, x, false⟩]) := by
  unfold partP par
  rw [outOf_app, cntOf_app]
  simp [outOf, cntOf]
section
variable {w : World} {b lk : Nat} {L pk : Int} {l : List KD}
theorem kept_part_no (h : Kept w b lk L pk l) {x : Int} (hx : -9223372036854775808 ≤ x ∧ x ≤ 9223372036854775807) (hn : x < 0 ∨ L - outOf l < x) :
    Calls Try.prog 19 #[.pointer (some ⟨b, 0, none⟩), .int .i64 x] w fun e w' => ∃ E : Int, e = .returned (.tuple #[.pointer none, .int .i64 E]) ∧ E ≠ 0 ∧ Kept w' b lk L pk l ∧ w.grownBy w' (some b) := by
  have hE : askE (par L pk lk l) x ≠ 0 := by
    unfold askE par
    dsimp only
    rw [if_neg (by simp)]
    by_cases h0 : x < 0
    · rw [if_pos h0]; decide
    · rw [if_neg h0, if_pos (by omega)]; decide
  have hc := cntOf_range l
  have hn := h.n
  refine (part_any b _ x w h.p h.goodP hx (by simp only [par]; omega)).mono fun e w' hh => ?_
  rcases hh with ⟨_, he, hp, hg⟩ | ⟨h0, _⟩
  · have hF := h.f.set_ (i := 0) rfl hg hp
    exact ⟨_, he, hE, ⟨hF, h.s, h.o, h.L1, h.k0, h.k1, h.n⟩, hg⟩
  · exact absurd h0 hE
theorem kept_part_ok (h : Kept w b lk L pk l) {x : Int} (hx0 : 0 ≤ x) (hx1 : x ≤ L - outOf l) :
    Calls Try.prog 19 #[.pointer (some ⟨b, 0, none⟩), .int .i64 x] w fun e w' => ∃ q pk', e = .returned (.tuple #[.pointer (some ⟨q, 0, none⟩), .int .i64 0]) ∧ 0 ≤ pk' ∧ pk' ≤ L ∧ w.heap.size ≤ q ∧ w.grownBy w' (some b) ∧
      Fam w' (((b, par L pk' lk (l ++ [⟨q, x, false⟩])) :: l.map fun y => (y.b, kid b lk y)) ++ [(q, born b lk x)]) := by
  have h0 := outOf_mem.outOf_nonneg l (fun y hy => (h.s y hy).1)
  have hL := h.L1
  have hE : askE (par L pk lk l) x = 0 := by
    unfold askE par
    dsimp only
    rw [if_neg (by simp), if_neg (by omega), if_neg (by omega)]
  have hc := cntOf_range l
  have hn := h.n
  refine (part_any b _ x w h.p h.goodP (by omega) (by simp only [par]; omega)).mono fun e w' hh => ?_
  rcases hh with ⟨h1, _⟩ | ⟨_, q, he, hp, hq, hsz, hg⟩
  · exact absurd hE h1
  · rw [par_more L pk x lk q l] at hp
    have hk0 := h.k0; have hk1 := h.k1
    refine ⟨q, max pk (outOf l + x), he, by omega, by omega, hsz, hg, ?_⟩
    refine (h.f.set_ (i := 0) rfl hg hp).snoc hq fun i y hy => ?_
    rcases i with _ | i
    · simp [fam] at hy
      subst hy
      have := h.p.1.lt
      simp; omega
    · have hy2 : (fam b lk L pk l)[i + 1]? = some y := by simpa [fam] using hy
      have := h.f.lt hy2
      omega
/-- A part that has just been made takes all it has. -/
theorem kept_take (q : Nat) {x pk' : Int} (hF : Fam w (((b, par L pk' lk (l ++ [⟨q, x, false⟩])) :: l.map fun y => (y.b, kid b lk y)) ++ [(q, born b lk x)])) (hs : ∀ y ∈ l, 0 ≤ y.s ∧ y.s ≤ 9223372036854775807) (hL : L ≤ 9223372036854775807) (hk0 : 0 ≤ pk') (hk1 : pk' ≤ L) (hn : l.length + 1 ≤ 4611686018427387904)
    (hx0 : 0 ≤ x) (hx1 : outOf l + x ≤ L) (ho : 0 ≤ outOf l) :
    Calls Try.prog 10 #[.pointer (some ⟨q, 0, none⟩), .int .i64 x] w fun e w' => e = .returned (.int .i64 0) ∧ Kept w' b lk L pk' (l ++ [⟨q, x, false⟩]) ∧ w.grownBy w' (some q) := by
  have hi : ((((b, par L pk' lk (l ++ [⟨q, x, false⟩])) :: l.map fun y => (y.b, kid b lk y)) ++ [(q, born b lk x)]) : List (Nat × PS))[l.length + 1]? = some (q, born b lk x) := by
    rw [List.getElem?_append_right (by simp)]; simp
  have hg : (born b lk x).Good := by constructor <;> simp [born] <;> omega
  have hE : askE (born b lk x) x = 0 := by
    unfold askE born
    dsimp only
    rw [if_neg (by simp), if_neg (by omega), if_neg (by omega)]
  refine (take_any q _ x w (hF.at_ hi) hg (by omega)).mono fun e w' ⟨he, hp, hgr⟩ => ⟨by rw [he, hE], ⟨?_, ?_, ?_, hL, hk0, hk1, by rw [List.length_append]; exact hn⟩, hgr⟩
  · have hk : takeP (born b lk x) x = kid b lk ⟨q, x, false⟩ := by
      unfold takeP
      rw [if_pos hE]
      simp only [born, kid]
      rw [show (0 : Int) + x = x by omega, show x + (0 : Int) = x by omega, show max 0 x = x by omega]
      simp
    rw [hk] at hp
    have h := hF.set_ hi hgr hp
    have e : ((((b, par L pk' lk (l ++ [⟨q, x, false⟩])) :: l.map fun y => (y.b, kid b lk y)) ++ [(q, born b lk x)]) : List (Nat × PS)).set (l.length + 1) (q, kid b lk ⟨q, x, false⟩) = fam b lk L pk' (l ++ [⟨q, x, false⟩]) := by
      rw [List.set_append_right _ _ (by simp)]
      simp [fam]
    rw [e] at h
    exact h
  · intro y hy
    rcases List.mem_append.1 hy with hy | hy
    · exact hs y hy
    · simp at hy; subst hy; exact ⟨hx0, by simp; omega⟩
  · rw [outOf_app]; simp [outOf]; omega
/-- A part that holds all it has takes no more. -/
theorem kept_full (h : Kept w b lk L pk l) {i : Nat} {x : KD} (hi : l[i]? = some x) (hg : x.gone = false) :
    Calls Try.prog 10 #[.pointer (some ⟨x.b, 0, none⟩), .int .i64 1] w fun e w' => e = .returned (.int .i64 2) ∧ Kept w' b lk L pk l ∧ w.grownBy w' (some x.b) := by
  have hs := h.s x (List.mem_of_getElem? hi)
  have hE : askE (kid b lk x) 1 = 2 := by
    unfold askE kid
    rw [hg]
    dsimp only
    rw [if_neg (by simp), if_neg (by omega), if_pos (by simp)]
  have hf : (fam b lk L pk l)[i + 1]? = some (x.b, kid b lk x) := by simp [fam, hi]
  refine (take_any x.b _ 1 w (h.kid_at hi) (kid_good hs) (by omega)).mono fun e w' ⟨he, hp, hgr⟩ => ⟨by rw [he, hE], ⟨?_, h.s, h.o, h.L1, h.k0, h.k1, h.n⟩, hgr⟩
  have hk : takeP (kid b lk x) 1 = kid b lk x := by unfold takeP; rw [if_neg (by rw [hE]; decide)]
  rw [hk] at hp
  have h2 := h.f.set_ hf hgr hp
  rwa [set_same hf] at h2
theorem kept_used (h : Kept w b lk L pk l) : Calls Try.prog 11 #[.pointer (some ⟨b, 0, none⟩)] w fun e w' => e = .returned (.int .i64 (outOf l)) ∧ Kept w' b lk L pk l ∧ w.grownBy w' none :=
  (used_any b _ w h.p h.goodP).mono fun e w' ⟨he, hg⟩ => ⟨by rw [he]; simp [par], h.still hg, hg⟩
theorem kept_free (h : Kept w b lk L pk l) : Calls Try.prog 12 #[.pointer (some ⟨b, 0, none⟩)] w fun e w' => e = .returned (.int .i64 (L - outOf l)) ∧ Kept w' b lk L pk l ∧ w.grownBy w' none :=
  (freeM_any b _ w h.p h.goodP).mono fun e w' ⟨he, hg⟩ => ⟨by rw [he]; simp [par, freeV], h.still hg, hg⟩
theorem kept_used_kid (h : Kept w b lk L pk l) {i : Nat} {x : KD} (hi : l[i]? = some x) (hg : x.gone = false) : Calls Try.prog 11 #[.pointer (some ⟨x.b, 0, none⟩)] w fun e w' => e = .returned (.int .i64 x.s) ∧ Kept w' b lk L pk l ∧ w.grownBy w' none :=
  (used_any x.b _ w (h.kid_at hi) (kid_good (h.s x (List.mem_of_getElem? hi)))).mono fun e w' ⟨he, hgr⟩ => ⟨by rw [he]; simp [kid, hg], h.still hgr, hgr⟩
/-- Close of a part that is closed, or holds something: nothing turns. -/
theorem kept_close_no (h : Kept w b lk L pk l) {i : Nat} {x : KD} (hi : l[i]? = some x) (hx : x.gone = true ∨ 0 < x.s) :
    Calls Try.prog 20 #[.pointer (some ⟨x.b, 0, none⟩)] w fun e w' => e = .returned (.int .i64 (if x.gone then 6 else 20)) ∧ Kept w' b lk L pk l ∧ w.grownBy w' none := by
  have hs := h.s x (List.mem_of_getElem? hi)
  have hE : closeE (kid b lk x) = if x.gone then 6 else 20 := by
    unfold closeE kid
    dsimp only
    rcases hg : x.gone with _ | _
    · rw [if_neg (by simp), if_neg (by simp), if_pos (by rw [hg] at hx; simp at hx; simpa using hx)]; rfl
    · simp
  have hne : closeE (kid b lk x) ≠ 0 := by rw [hE]; split <;> decide
  refine (close_any x.b (kid b lk x) b (par L pk lk l) w (h.kid_at hi) (kid_good hs) (fun u hu => ?_) (fun hc u hu => ?_)).mono fun e w' hh => ?_
  · simp only [kid, Option.some.injEq] at hu
    exact ⟨hu.symm, h.p, rfl, h.b_ne hi⟩
  · have hg : x.gone = false := hc
    have h1 := outOf_mem l i x (fun y hy => (h.s y hy).1) hi hg
    have h2 := cntOf_mem l i x hi hg
    have h3 := cntOf_range l
    have h4 := h.n; have h5 := h.o; have h6 := h.L1
    simp only [kid, par]
    omega
  · rcases hh with ⟨_, he, _, hgr⟩ | ⟨h0, _⟩
    · exact ⟨by rw [he, hE], h.still hgr, hgr⟩
    · exact absurd h0 hne
/-- A part, emptied: what it holds is given back to it. -/
theorem kept_give (h : Kept w b lk L pk l) {i : Nat} {x : KD} (hi : l[i]? = some x) (hg : x.gone = false) :
    Calls Try.prog 9 #[.pointer (some ⟨x.b, 0, none⟩), .int .i64 x.s] w fun e w' => e = .returned (.int .i64 0) ∧ Fam w' ((fam b lk L pk l).set (i + 1) (x.b, empty b lk x.s)) ∧ w.grownBy w' (some x.b) := by
  have hs := h.s x (List.mem_of_getElem? hi)
  have hE : giveE (kid b lk x) x.s = 0 := by
    unfold giveE kid
    rw [hg]
    dsimp only
    rw [if_neg (by simp), if_neg (by omega), if_neg (by simp)]
  have hf : (fam b lk L pk l)[i + 1]? = some (x.b, kid b lk x) := by simp [fam, hi]
  refine (give_any x.b _ x.s w (h.kid_at hi) (kid_good hs) (by omega)).mono fun e w' ⟨he, hp, hgr⟩ => ⟨by rw [he, hE], ?_, hgr⟩
  have hk : giveP (kid b lk x) x.s = empty b lk x.s := by
    unfold giveP
    rw [if_pos hE]
    simp [kid, empty, hg]
  rw [hk] at hp
  exact h.f.set_ hf hgr hp
/-- Close of a part that holds nothing: it is closed, and its limit is no longer out. -/
theorem fam_close {i : Nat} {x : KD} (hi : l[i]? = some x) (hg : x.gone = false) (hF : Fam w ((fam b lk L pk l).set (i + 1) (x.b, empty b lk x.s))) (hs : ∀ y ∈ l, 0 ≤ y.s ∧ y.s ≤ 9223372036854775807) (ho : outOf l ≤ L) (hL : L ≤ 9223372036854775807) (hk0 : 0 ≤ pk) (hk1 : pk ≤ L) (hn : l.length ≤ 4611686018427387904) :
    Calls Try.prog 20 #[.pointer (some ⟨x.b, 0, none⟩)] w fun e w' => e = .returned (.int .i64 0) ∧ Kept w' b lk L pk (l.set i { x with gone := true }) ∧ Tur w w' [x.b, b] := by
  have hsx := hs x (List.mem_of_getElem? hi)
  have hil := (List.getElem?_eq_some_iff.1 hi).1
  have hgo : (empty b lk x.s).Good := by constructor <;> simp [empty] <;> omega
  have f1 : ((fam b lk L pk l).set (i + 1) (x.b, empty b lk x.s))[i + 1]? = some (x.b, empty b lk x.s) := by rw [List.getElem?_set_self (by simp [fam]; omega)]
  have f0 : ((fam b lk L pk l).set (i + 1) (x.b, empty b lk x.s))[0]? = some (b, par L pk lk l) := by simp [fam]
  have hE : closeE (empty b lk x.s) = 0 := by simp [closeE, empty]
  have hne : x.b ≠ b := fun e => by have := hF.2 _ _ _ _ f1 f0 e; omega
  refine (close_any x.b (empty b lk x.s) b (par L pk lk l) w (hF.at_ f1) hgo (fun u hu => ?_) (fun hc u hu => ?_)).mono fun e w' hh => ?_
  · simp only [empty, Option.some.injEq] at hu
    exact ⟨hu.symm, hF.at_ f0, rfl, hne⟩
  · have h1 := outOf_mem l i x (fun y hy => (hs y hy).1) hi hg
    have h2 := cntOf_mem l i x hi hg
    have h3 := cntOf_range l
    simp only [empty, par]
    omega
  · rcases hh with ⟨h0, _⟩ | ⟨_, _, he, hp, hq, ht⟩
    · exact absurd hE h0
    · have h2 := hF.two (i := i + 1) (j := 0) (by omega) f1 f0 ht hp hq
      have e : (((fam b lk L pk l).set (i + 1) (x.b, empty b lk x.s)).set (i + 1) (x.b, shutP (empty b lk x.s))).set 0 (b, lessP (par L pk lk l) (empty b lk x.s).limit) = fam b lk L pk (l.set i { x with gone := true }) := by
        rw [List.set_set]
        have ep : lessP (par L pk lk l) (empty b lk x.s).limit = par L pk lk (l.set i { x with gone := true }) := by
          simp only [lessP, par, empty]
          rw [outOf_set l i x _ hi, cntOf_set l i x _ hi, hg]
          simp
        have ek : shutP (empty b lk x.s) = kid b lk { x with gone := true } := by simp [shutP, empty, kid]
        rw [ep, ek]
        simp [fam, List.map_set]
      rw [e] at h2
      refine ⟨he, ⟨h2, fun y hy => ?_, ?_, hL, hk0, hk1, by rw [List.length_set]; exact hn⟩, ht⟩
      · rcases List.mem_or_eq_of_mem_set hy with hy | hy
        · exact hs y hy
        · subst hy; exact hsx
      · rw [outOf_set l i x _ hi, hg]; simp; omega
/-- A part of 0 that is open holds nothing. -/
theorem kept_zero (h : Kept w b lk L pk l) {i : Nat} {x : KD} (hi : l[i]? = some x) (hg : x.gone = false) (h0 : x.s = 0) : Fam w ((fam b lk L pk l).set (i + 1) (x.b, empty b lk x.s)) := by
  have hf : (fam b lk L pk l)[i + 1]? = some (x.b, kid b lk x) := by simp [fam, hi]
  have hk : kid b lk x = empty b lk x.s := by simp [kid, empty, hg, h0]
  rw [hk] at hf
  rw [set_same hf]
  exact h.f
end
end Go.Proofs.Ytmemdicdehppjaa
