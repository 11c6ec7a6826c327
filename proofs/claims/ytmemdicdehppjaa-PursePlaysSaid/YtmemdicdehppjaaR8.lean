/- Over all purses: step's Close; step whole. -/
import Derived.Test.YtmemdicdehppjaaR7
namespace Go.Proofs.Ytmemdicdehppjaa
open Go.RowKit

theorem kidSum_mem : ∀ {l : List RK} {k : RK}, (∀ k ∈ l, 0 ≤ k.limit) → k ∈ l → k.opn = true → k.limit ≤ kidSum l
  | a :: l, k, h0, hk, ho => by
    have h1 := kidSum_nonneg l (fun x hx => h0 x (by simp [hx]))
    have ha := h0 a (by simp)
    rw [kidSum]
    rcases List.mem_cons.1 hk with rfl | hk
    · rw [RK.out, if_pos ho]; omega
    · have := kidSum_mem (fun x hx => h0 x (by simp [hx])) hk ho
      have h2 : 0 ≤ a.out := by rw [RK.out]; split <;> omega
      omega
theorem kidCnt_mem {l : List RK} {k : RK} (hk : k ∈ l) (ho : k.opn = true) : 1 ≤ kidCnt l := by
  unfold kidCnt
  have : 0 < (l.filter (·.opn)).length := List.length_pos_of_mem (List.mem_filter.2 ⟨hk, ho⟩)
  omega
theorem kidCnt_le (l : List RK) : kidCnt l ≤ l.length := by
  unfold kidCnt
  have := List.length_filter_le (·.opn) l
  omega
section
variable {w w' : World} {base : Nat} {N : List ND}
theorem kids_cons (y : ND) (l : List ND) (j : Nat) : kids (y :: l) j = if y.up = some j then y.rk :: kids l j else kids l j := by
  unfold kids
  rw [List.filter_cons]
  by_cases h : y.up = some j
  · rw [if_pos (by simp [h]), if_pos h, List.map_cons]
  · rw [if_neg (by simp [h]), if_neg h]
theorem kptrs_cons (k : RK) (l : List RK) : kptrs (k :: l) = .pointer (some ⟨k.b, 0, none⟩) :: kptrs l := rfl
theorem kidCnt_cons (k : RK) (l : List RK) : kidCnt (k :: l) = (if k.opn then 1 else 0) + kidCnt l := by
  unfold kidCnt
  rw [List.filter_cons]
  split <;> simp <;> omega
/-- One purse is closed: what its parent counts. -/
theorem kids_shut : ∀ {N : List ND} {i : Nat} {x x' : ND}, N[i]? = some x → x'.up = x.up → x'.r = x.r → x'.limit = x.limit → x.opn = true → x'.opn = false → ∀ j,
    kptrs (kids (N.set i x') j) = kptrs (kids N j) ∧ kidSum (kids (N.set i x') j) = kidSum (kids N j) - (if x.up = some j then x.limit else 0) ∧ kidCnt (kids (N.set i x') j) = kidCnt (kids N j) - (if x.up = some j then 1 else 0)
  | y :: l, 0, x, x', hi, hu, hr, hl, ho, ho', j => by
    simp at hi
    subst hi
    rw [List.set_cons_zero, kids_cons, kids_cons, hu]
    by_cases h : y.up = some j
    · simp only [if_pos h, kptrs_cons, kidSum, kidCnt_cons, ND.rk, hr, RK.out, ho, ho', hl, if_true, Bool.false_eq_true, if_false]
      exact ⟨trivial, by omega, by omega⟩
    · simp only [if_neg h]
      exact ⟨trivial, by omega, by omega⟩
  | y :: l, i + 1, x, x', hi, hu, hr, hl, ho, ho', j => by
    have ih := kids_shut (N := l) (i := i) (by simpa using hi) hu hr hl ho ho' j
    rw [List.set_cons_succ, kids_cons, kids_cons]
    by_cases h : y.up = some j
    · simp only [if_pos h, kptrs_cons, kidSum, kidCnt_cons]
      exact ⟨by rw [ih.1], by omega, by omega⟩
    · simp only [if_neg h]
      exact ih
theorem Forest.set2 (h : Forest w base N) {i j : Nat} {x y : ND} (hi : N[i]? = some x) (hj : N[j]? = some y) (hu : x.up = some j) (ho : x.opn = true) (ht : Tur w w' [x.b, y.b, x.r])
    (hp : IsP w' x.b (shutP (x.ps N i))) (hq : IsP w' y.b (lessP (y.ps N j) x.limit)) (hR : Blk w' x.r 69 (RS.cells { x.rs with opn := false })) : Forest w' base (N.set i { x with opn := false }) := by
  obtain ⟨_, hj', _, hne⟩ := h.u i x hi j hu
  have hx : Like x { x with opn := false } := ⟨rfl, rfl, rfl, rfl, rfl, rfl⟩
  have hks := fun k => kids_shut (x' := { x with opn := false }) hi rfl rfl rfl ho rfl k
  have hup := fun u => upB_set (N := N) (x' := { x with opn := false }) hi rfl u
  have hmem : x.rk ∈ kids N j := List.mem_map.2 ⟨x, List.mem_filter.2 ⟨List.mem_of_getElem? hi, by simp [hu]⟩, rfl⟩
  have hle := kidSum_mem (fun k hk => (h.kidB hj k hk).2.2) hmem ho
  have hc1 := kidCnt_mem hmem ho
  have e1 : ND.ps (N.set i { x with opn := false }) i { x with opn := false } = shutP (x.ps N i) := by
    have hni : ¬ x.up = some i := by rw [hu]; exact fun e => hne (Option.some.inj e)
    have := hks i
    simp only [if_neg hni] at this
    simp only [ND.ps, shutP, hup, this.2.1, this.2.2, Int.sub_zero, Bool.not_false]
  have e2 : ND.ps (N.set i { x with opn := false }) j y = lessP (y.ps N j) x.limit := by
    have := hks j
    simp only [if_pos hu] at this
    simp only [ND.ps, lessP, hup, this.2.1, this.2.2]
  have e3 : ∀ k, k ≠ j → ∀ z, ND.ps (N.set i { x with opn := false }) k z = z.ps N k := fun k hk z => by
    have hnk : ¬ x.up = some k := by rw [hu]; exact fun e => hk (Option.some.inj e).symm
    have := hks k
    simp only [if_neg hnk] at this
    simp only [ND.ps, hup, this.2.1, this.2.2, Int.sub_zero]
  have hin : ∀ k z, N[k]? = some z → k ≠ i → k ≠ j → z.b ∉ [x.b, y.b, x.r] := fun k z hz h1 h2 => by
    simp only [List.mem_cons, List.not_mem_nil, or_false, not_or]
    exact ⟨fun e => h1 (h.db k i z x hz hi e), fun e => h2 (h.db k j z y hz hj e), (h.p k z hz).1.ne (h.r i x hi) (by decide)⟩
  refine h.frame hi hx ?_ ?_ ?_ ?_
  · intro k z hk
    rcases set_at hk with ⟨rfl, rfl⟩ | ⟨hki, hk⟩
    · rw [e1]; exact hp
    · by_cases hkj : k = j
      · subst hkj
        rw [hj] at hk
        cases hk
        rw [e2]; exact hq
      · rw [e3 k hkj]
        have hz := h.p k z hk
        refine hz.tur ht (hin k z hk (Ne.symm hki) hkj) ?_
        simp only [List.mem_cons, List.not_mem_nil, or_false, not_or]
        exact ⟨hz.2.ne (h.p i x hi).1 (by decide), hz.2.ne (h.p j y hj).1 (by decide), hz.2.ne (h.r i x hi) (by decide)⟩
  · intro k z hk
    rcases set_at hk with ⟨rfl, rfl⟩ | ⟨hki, hk⟩
    · exact hR
    · refine ht.blk (h.r k z hk) ?_
      simp only [List.mem_cons, List.not_mem_nil, or_false, not_or]
      exact ⟨(h.r k z hk).ne (h.p i x hi).1 (by decide), (h.r k z hk).ne (h.p j y hj).1 (by decide), fun e => hki (h.dr i k x z hi hk e.symm)⟩
  · intro k z hk
    obtain ⟨z0, hz, lz⟩ := set_old hi hx hk
    rw [(hks k).1, lz.row]
    refine (h.o k z0 hz).asideT (fun g hg => ?_) ht
    simp only [List.mem_cons, List.not_mem_nil, or_false] at hg
    rcases hg with rfl | rfl | rfl
    · exact ⟨60, by decide, (h.p i x hi).1.typed⟩
    · exact ⟨60, by decide, (h.p j y hj).1.typed⟩
    · exact ⟨69, by decide, (h.r i x hi).typed⟩
  · intro k z hk
    rcases set_at hk with ⟨rfl, rfl⟩ | ⟨hki, hk⟩
    · rw [e1]
      obtain ⟨l0, l1, h0, p0, o1, c0, k0, k1⟩ := h.g i x hi
      exact ⟨l0, l1, h0, p0, o1, c0, k0, k1⟩
    · by_cases hkj : k = j
      · subst hkj
        rw [hj] at hk
        cases hk
        rw [e2]
        obtain ⟨l0, l1, h0, p0, o1, c0, k0, k1⟩ := h.g k y hj
        have hxl := (h.g i x hi).l0
        simp only [ND.ps] at l0 l1 h0 p0 o1 c0 k0 k1 hxl
        simp only [ND.rk] at hle
        constructor <;> simp only [ND.ps, lessP] <;> omega
      · rw [e3 k hkj]
        exact h.g k z hk
end
end Go.Proofs.Ytmemdicdehppjaa
