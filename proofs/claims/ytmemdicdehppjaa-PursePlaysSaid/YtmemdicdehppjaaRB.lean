/- Over all purses: a new part. -/
import Derived.Test.YtmemdicdehppjaaRA
namespace Go.Proofs.Ytmemdicdehppjaa
open Go.RowKit

theorem kidCnt_app (l m : List RK) : kidCnt (l ++ m) = kidCnt l + kidCnt m := by
  unfold kidCnt
  rw [List.filter_append, List.length_append]
  omega
section
variable {w w' : World} {base : Nat} {N : List ND}
/-- The purse of which a part is made, behind it. -/
def ND.parted (x : ND) (N : List ND) (i : Nat) (n : Int) (v : Value) : ND := { x with peak := max x.peak (x.hand + (kidSum (kids N i) + n)), row := v }
def ND.born (x : ND) (i q r : Nat) (n : Int) : ND := ⟨q, r, x.lk, n, 0, 0, true, some i, .slice none 0 0⟩
theorem Forest.part (h : Forest w base N) {i : Nat} {x : ND} (hi : N[i]? = some x) {q r : Nat} {n : Int} {v : Value} (hask : askE (x.ps N i) n = 0)
    (hp : IsP w' x.b (partP (x.ps N i) n)) (hq : IsP w' q (bornP (x.ps N i) x.b n)) (hR : Blk w' x.r 69 (x.parted N i n v).rs.cells) (hr : Blk w' r 69 (RS.cells ⟨n, 0, 0, true, true, .slice none 0 0⟩))
    (hO : Owns w' base 40 v (kptrs (kids N i ++ [⟨r, n, true⟩]))) (ht : Tur w w' (x.b :: x.r :: x.row.ownBlock.toList)) (hq0 : w.heap.size ≤ q) (hr0 : w.heap.size ≤ r)
    (hv : v.ownBlock = x.row.ownBlock ∨ ∃ g, v.ownBlock = some g ∧ w.heap.size ≤ g) (hbase : base ≤ w.heap.size) : Forest w' base (N.set i (x.parted N i n v) ++ [x.born i q r n]) := by
  have hlt : i < N.length := by
    rcases Nat.lt_or_ge i N.length with hlt | hge
    · exact hlt
    · rw [List.getElem?_eq_none hge] at hi; cases hi
  have hlen : (N.set i (x.parted N i n v)).length = N.length := List.length_set
  have hk1 : (x.parted N i n v).rk = x.rk := rfl
  have hks : ∀ j, kids (N.set i (x.parted N i n v) ++ [x.born i q r n]) j = kids N j ++ (if i = j then [⟨r, n, true⟩] else []) := fun j => by
    rw [kids_app, kids_set hi hk1 rfl]
    by_cases e : i = j
    · rw [if_pos e, if_pos (by simp [ND.born, e])]; rfl
    · rw [if_neg e, if_neg (by simpa [ND.born] using e)]
  have hkn : kids N N.length = [] := kids_none fun k z hk hu => by
    obtain ⟨y, hy, _⟩ := h.u k z hk _ hu
    rw [List.getElem?_eq_none (Nat.le_refl _)] at hy
    cases hy
  -- an old one, behind it
  have old : ∀ {k : Nat} {z : ND}, (N.set i (x.parted N i n v))[k]? = some z → (k = i ∧ z = x.parted N i n v) ∨ (k ≠ i ∧ N[k]? = some z) := fun {k z} hk => by
    rcases set_at hk with ⟨e, h2⟩ | ⟨e, h2⟩
    · exact .inl ⟨e.symm, h2⟩
    · exact .inr ⟨fun e2 => e e2.symm, h2⟩
  have hup : ∀ {k : Nat} {z : ND}, N[k]? = some z → upB (N.set i (x.parted N i n v) ++ [x.born i q r n]) z.up = upB N z.up := fun {k z} hk => by
    rcases hu : z.up with _ | j
    · rfl
    · obtain ⟨y, hy, _⟩ := h.u k z hk j hu
      by_cases e : i = j
      · subst e
        rw [hi] at hy
        cases hy
        simp only [upB, Option.bind_some, hi]
        rw [List.getElem?_append_left (by omega), List.getElem?_set_self hlt]
        rfl
      · simp only [upB, Option.bind_some, hy]
        have : (N.set i (x.parted N i n v))[j]? = some y := by rw [List.getElem?_set_ne e]; exact hy
        rw [app_old this]
  have e1 : ND.ps (N.set i (x.parted N i n v) ++ [x.born i q r n]) i (x.parted N i n v) = partP (x.ps N i) n := by
    unfold ND.ps
    rw [hks, if_pos rfl, show (x.parted N i n v).up = x.up from rfl, hup hi, kidSum_app, kidCnt_app]
    simp [partP, ND.parted, kidSum, RK.out, kidCnt]
  have e0 : ND.ps (N.set i (x.parted N i n v) ++ [x.born i q r n]) N.length (x.born i q r n) = bornP (x.ps N i) x.b n := by
    unfold ND.ps
    rw [hks, hkn, if_neg (by omega)]
    have hu : upB (N.set i (x.parted N i n v) ++ [x.born i q r n]) (x.born i q r n).up = some x.b := by
      simp only [upB, ND.born, Option.bind_some]
      rw [List.getElem?_append_left (by omega), List.getElem?_set_self hlt]
      rfl
    rw [hu]
    simp [bornP, ND.born, kidSum, kidCnt]
  have e2 : ∀ {k : Nat} {z : ND}, k ≠ i → N[k]? = some z → ND.ps (N.set i (x.parted N i n v) ++ [x.born i q r n]) k z = z.ps N k := fun {k z} hne hk => by
    unfold ND.ps
    rw [hks, if_neg (Ne.symm hne), hup hk, List.append_nil]
  have hnb : ∀ {k : Nat} {z : ND}, k ≠ i → N[k]? = some z → z.b ∉ x.b :: x.r :: x.row.ownBlock.toList := fun {k z} hne hk => by
    simp only [List.mem_cons, not_or]
    refine ⟨fun e => hne (h.db k i z x hk hi e), (h.p k z hk).1.ne (h.r i x hi) (by decide), fun hm => ?_⟩
    exact ((h.o i x hi).typed (by simpa using hm)).ne (h.p k z hk).1.typed (by decide) rfl
  have hnl : ∀ {k : Nat} {z : ND}, N[k]? = some z → z.lk ∉ x.b :: x.r :: x.row.ownBlock.toList := fun {k z} hk => by
    simp only [List.mem_cons, not_or]
    refine ⟨(h.p k z hk).2.ne (h.p i x hi).1 (by decide), (h.p k z hk).2.ne (h.r i x hi) (by decide), fun hm => ?_⟩
    exact ((h.o i x hi).typed (show x.row.ownBlock = some z.lk by simpa using hm)).ne (h.p k z hk).2.typed (by decide) rfl
  have hnr : ∀ {k : Nat} {z : ND}, k ≠ i → N[k]? = some z → z.r ∉ x.b :: x.r :: x.row.ownBlock.toList := fun {k z} hne hk => by
    simp only [List.mem_cons, not_or]
    refine ⟨(h.r k z hk).ne (h.p i x hi).1 (by decide), fun e => hne (h.dr k i z x hk hi e), fun hm => ?_⟩
    exact ((h.o i x hi).typed (by simpa using hm)).ne (h.r k z hk).typed (by decide) rfl
  obtain ⟨_, hn0, hn1⟩ := ask_ok hask
  have split : ∀ {k : Nat} {z : ND}, (N.set i (x.parted N i n v) ++ [x.born i q r n])[k]? = some z → (k = i ∧ z = x.parted N i n v) ∨ (k ≠ i ∧ N[k]? = some z) ∨ (k = N.length ∧ z = x.born i q r n) := fun {k z} hk => by
    rcases app_at hk with ⟨_, hk⟩ | ⟨e, h2⟩
    · rcases old hk with h3 | h3
      · exact .inl h3
      · exact .inr (.inl h3)
    · exact .inr (.inr ⟨by rw [e, hlen], h2⟩)
  -- where each lies
  have hb_ : ∀ {k : Nat} {z : ND}, (N.set i (x.parted N i n v) ++ [x.born i q r n])[k]? = some z → (∃ y, N[k]? = some y ∧ z.b = y.b ∧ z.r = y.r ∧ z.lk = y.lk ∧ z.up = y.up) ∨ (k = N.length ∧ z = x.born i q r n) := fun {k z} hk => by
    rcases split hk with ⟨rfl, rfl⟩ | ⟨_, hk⟩ | h3
    · exact .inl ⟨x, hi, rfl, rfl, rfl, rfl⟩
    · exact .inl ⟨z, hk, rfl, rfl, rfl, rfl⟩
    · exact .inr h3
  refine ⟨?_, ?_, ?_, ?_, ?_, ?_, ?_, ?_, ?_⟩
  · intro k z hk
    rcases split hk with ⟨rfl, rfl⟩ | ⟨hne, hk⟩ | ⟨rfl, rfl⟩
    · rw [e1]; exact hp
    · rw [e2 hne hk]; exact (h.p k z hk).tur ht (hnb hne hk) (hnl hk)
    · rw [e0]; exact hq
  · intro k z hk
    rcases split hk with ⟨rfl, rfl⟩ | ⟨hne, hk⟩ | ⟨rfl, rfl⟩
    · exact hR
    · exact ht.blk (h.r k z hk) (hnr hne hk)
    · exact hr
  · intro k z hk
    rw [hks]
    rcases split hk with ⟨rfl, rfl⟩ | ⟨hne, hk⟩ | ⟨rfl, rfl⟩
    · rw [if_pos rfl]; exact hO
    · rw [if_neg (Ne.symm hne), List.append_nil]
      have ho := h.o k z hk
      refine ⟨ho.1, ?_⟩
      rcases ho.2 with hnil | ⟨g, cap, cur, hzv, hbb, hh, rest⟩
      · exact .inl hnil
      · have hgo : z.row.ownBlock = some g := by rw [hzv]; rfl
        refine .inr ⟨g, cap, cur, hzv, hbb, (ht.block g (ho.lt hgo).2 ?_).trans hh, rest⟩
        simp only [List.mem_cons, not_or]
        refine ⟨(ho.typed hgo).ne (h.p i x hi).1.typed (by decide), (ho.typed hgo).ne (h.r i x hi).typed (by decide), fun hm => hne (h.dw k i z x hk hi ?_ (by rw [hgo]; simp))⟩
        rw [hgo]
        exact (by simpa using hm : x.row.ownBlock = some g).symm
    · rw [hkn, if_neg (by omega)]; exact owns_nil _ _ _
  · intro k z hk
    rcases split hk with ⟨rfl, rfl⟩ | ⟨hne, hk⟩ | ⟨rfl, rfl⟩
    · rw [e1]; exact partP_good (h.g k x hi) hask
    · rw [e2 hne hk]; exact h.g k z hk
    · rw [e0]; exact bornP_good (h.g i x hi) hask
  · intro k j y z hk hj e
    rcases hb_ hk with ⟨y0, hk, a1, a2, a3, a4⟩ | ⟨rfl, rfl⟩ <;> rcases hb_ hj with ⟨z0, hj, b1, b2, b3, b4⟩ | ⟨rfl, rfl⟩
    · exact h.db k j y0 z0 hk hj (by rw [← a1, ← b1, e])
    · have := (h.lt hk).1; rw [a1] at e; simp only [ND.born] at e; omega
    · have := (h.lt hj).1; rw [b1] at e; simp only [ND.born] at e; omega
    · rfl
  · intro k j y z hk hj e
    rcases hb_ hk with ⟨y0, hk, a1, a2, a3, a4⟩ | ⟨rfl, rfl⟩ <;> rcases hb_ hj with ⟨z0, hj, b1, b2, b3, b4⟩ | ⟨rfl, rfl⟩
    · exact h.dr k j y0 z0 hk hj (by rw [← a2, ← b2, e])
    · have := (h.lt hk).2.1; rw [a2] at e; simp only [ND.born] at e; omega
    · have := (h.lt hj).2.1; rw [b2] at e; simp only [ND.born] at e; omega
    · rfl
  · have far : ∀ {k : Nat} {z : ND}, k ≠ i → N[k]? = some z → z.row.ownBlock = v.ownBlock → z.row.ownBlock ≠ none → False := fun {k z} hne hk e h0 => by
      rcases hv with h1 | ⟨g, h1, h2⟩
      · exact hne (h.dw k i z x hk hi (by rw [e, h1]) h0)
      · have := (h.lt hk).2.2 g (by rw [e, h1]); omega
    intro k j y z hk hj e h0
    rcases split hk with ⟨rfl, rfl⟩ | ⟨hne, hk'⟩ | ⟨rfl, rfl⟩ <;> rcases split hj with ⟨rfl, rfl⟩ | ⟨hne2, hj'⟩ | ⟨rfl, rfl⟩
    · rfl
    · exact (far hne2 hj' e.symm (by rw [← e]; exact h0)).elim
    · exact absurd e h0
    · exact (far hne hk' e h0).elim
    · exact h.dw k j y z hk' hj' e h0
    · exact absurd e h0
    · exact absurd rfl h0
    · exact absurd rfl h0
    · rfl
  · intro k z hk j hu
    rcases hb_ hk with ⟨y0, hk, a1, a2, a3, a4⟩ | ⟨rfl, rfl⟩
    · obtain ⟨y, hy, h1, h2⟩ := h.u k y0 hk j (by rw [← a4]; exact hu)
      have hx : Like x { x with peak := x.peak } := Like.refl x
      by_cases e : i = j
      · subst e
        rw [hi] at hy
        cases hy
        exact ⟨x.parted N i n v, by rw [List.getElem?_append_left (by omega), List.getElem?_set_self hlt], by rw [a3, ← h1]; rfl, h2⟩
      · exact ⟨y, app_old (by rw [List.getElem?_set_ne e]; exact hy), by rw [h1, a3], h2⟩
    · have e : i = j := by simpa [ND.born] using hu
      subst e
      exact ⟨x.parted N i n v, by rw [List.getElem?_append_left (by omega), List.getElem?_set_self hlt], rfl, by omega⟩
  · intro k z hk
    rcases hb_ hk with ⟨y0, hk, a1, a2, a3, a4⟩ | ⟨rfl, rfl⟩
    · rw [a1, a2, a3]; exact h.lo k y0 hk
    · have := (h.lo i x hi).2.2
      simp only [ND.born]
      exact ⟨by omega, by omega, this⟩
end
end Go.Proofs.Ytmemdicdehppjaa
