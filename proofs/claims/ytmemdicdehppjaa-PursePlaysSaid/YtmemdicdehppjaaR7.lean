/- Over all purses: step's Take and Give. -/
import Derived.Test.YtmemdicdehppjaaR6
namespace Go.Proofs.Ytmemdicdehppjaa
open Go.RowKit

section
variable {w w' : World} {base : Nat} {N : List ND}
theorem ps_set {i : Nat} {x x' : ND} (hi : N[i]? = some x) (hk : x'.rk = x.rk) (hu : x'.up = x.up) (hb : x'.b = x.b) (y : ND) (j : Nat) : y.ps (N.set i x') j = y.ps N j := by
  unfold ND.ps
  rw [kids_set hi hk hu, upB_set hi hb]
/-- What stays of a purse. -/
structure Like (x x' : ND) : Prop where
  b : x'.b = x.b
  r : x'.r = x.r
  lk : x'.lk = x.lk
  limit : x'.limit = x.limit
  up : x'.up = x.up
  row : x'.row = x.row
theorem Like.refl (x : ND) : Like x x := ⟨rfl, rfl, rfl, rfl, rfl, rfl⟩
theorem set_old {i j : Nat} {x x' y : ND} (hi : N[i]? = some x) (hx : Like x x') (h : (N.set i x')[j]? = some y) : ∃ y0, N[j]? = some y0 ∧ Like y0 y := by
  rcases set_at h with ⟨rfl, rfl⟩ | ⟨_, h⟩
  · exact ⟨x, hi, hx⟩
  · exact ⟨y, h, Like.refl y⟩
theorem set_new {i j : Nat} {x x' y : ND} (hi : N[i]? = some x) (hx : Like x x') (h : N[j]? = some y) : ∃ y1, (N.set i x')[j]? = some y1 ∧ Like y y1 := by
  by_cases e : i = j
  · subst e
    rw [hi] at h
    cases h
    refine ⟨x', ?_, hx⟩
    rw [List.getElem?_set_self]
    rcases Nat.lt_or_ge i N.length with hlt | hge
    · exact hlt
    · rw [List.getElem?_eq_none hge] at hi; cases hi
  · exact ⟨y, by rw [List.getElem?_set_ne e]; exact h, Like.refl y⟩
/-- What does not change by a turn of one purse's numbers. -/
theorem Forest.frame (h : Forest w base N) {i : Nat} {x x' : ND} (hi : N[i]? = some x) (hx : Like x x')
    (hp : ∀ (j : Nat) (y : ND), (N.set i x')[j]? = some y → IsP w' y.b (y.ps (N.set i x') j)) (hr : ∀ (j : Nat) (y : ND), (N.set i x')[j]? = some y → Blk w' y.r 69 y.rs.cells)
    (ho : ∀ (j : Nat) (y : ND), (N.set i x')[j]? = some y → Owns w' base 40 y.row (kptrs (kids (N.set i x') j))) (hg : ∀ (j : Nat) (y : ND), (N.set i x')[j]? = some y → (y.ps (N.set i x') j).Good) : Forest w' base (N.set i x') := by
  refine ⟨hp, hr, ho, hg, ?_, ?_, ?_, ?_, ?_⟩
  · intro j k y z hj hk e
    obtain ⟨y0, hy, ly⟩ := set_old hi hx hj
    obtain ⟨z0, hz, lz⟩ := set_old hi hx hk
    exact h.db j k y0 z0 hy hz (by rw [← ly.b, ← lz.b, e])
  · intro j k y z hj hk e
    obtain ⟨y0, hy, ly⟩ := set_old hi hx hj
    obtain ⟨z0, hz, lz⟩ := set_old hi hx hk
    exact h.dr j k y0 z0 hy hz (by rw [← ly.r, ← lz.r, e])
  · intro j k y z hj hk e hne
    obtain ⟨y0, hy, ly⟩ := set_old hi hx hj
    obtain ⟨z0, hz, lz⟩ := set_old hi hx hk
    exact h.dw j k y0 z0 hy hz (by rw [← ly.row, ← lz.row, e]) (by rw [← ly.row]; exact hne)
  · intro j y hj k hk
    obtain ⟨y0, hy, ly⟩ := set_old hi hx hj
    obtain ⟨z, hz, h1, h2⟩ := h.u j y0 hy k (by rw [← ly.up]; exact hk)
    obtain ⟨z1, hz1, lz⟩ := set_new hi hx hz
    exact ⟨z1, hz1, by rw [lz.lk, h1, ly.lk], h2⟩
  · intro j y hj
    obtain ⟨y0, hy, ly⟩ := set_old hi hx hj
    rw [ly.b, ly.r, ly.lk]
    exact h.lo j y0 hy
theorem Forest.set1 (h : Forest w base N) {i : Nat} {x x' : ND} (hi : N[i]? = some x) (hx : Like x x') (ho : x'.opn = x.opn) (ht : Tur w w' [x.b, x.r]) (hp : IsP w' x.b (x'.ps N i)) (hR : Blk w' x.r 69 x'.rs.cells) (hg : (x'.ps N i).Good) : Forest w' base (N.set i x') := by
  have hk : x'.rk = x.rk := by unfold ND.rk; rw [hx.r, hx.limit, ho]
  have hps := ps_set (N := N) hi hk hx.up hx.b
  have hks := kids_set (N := N) hi hk hx.up
  refine h.frame hi hx ?_ ?_ ?_ ?_
  · intro j y hj
    rw [hps]
    rcases set_at hj with ⟨rfl, rfl⟩ | ⟨hne, hj⟩
    · rw [hx.b]; exact hp
    · have hy := h.p j y hj
      refine hy.tur ht ?_ ?_
      · simp only [List.mem_cons, List.not_mem_nil, or_false, not_or]
        exact ⟨fun e => hne (h.db i j x y hi hj e.symm), hy.1.ne (h.r i x hi) (by decide)⟩
      · simp only [List.mem_cons, List.not_mem_nil, or_false, not_or]
        exact ⟨hy.2.ne (h.p i x hi).1 (by decide), hy.2.ne (h.r i x hi) (by decide)⟩
  · intro j y hj
    rcases set_at hj with ⟨rfl, rfl⟩ | ⟨hne, hj⟩
    · rw [hx.r]; exact hR
    · refine ht.blk (h.r j y hj) ?_
      simp only [List.mem_cons, List.not_mem_nil, or_false, not_or]
      exact ⟨(h.r j y hj).ne (h.p i x hi).1 (by decide), fun e => hne (h.dr i j x y hi hj e.symm)⟩
  · intro j y hj
    obtain ⟨y0, hy, ly⟩ := set_old hi hx hj
    rw [hks, ly.row]
    refine (h.o j y0 hy).asideT (fun g hg => ?_) ht
    simp only [List.mem_cons, List.not_mem_nil, or_false] at hg
    rcases hg with rfl | rfl
    · exact ⟨60, by decide, (h.p i x hi).1.typed⟩
    · exact ⟨69, by decide, (h.r i x hi).typed⟩
  · intro j y hj
    rw [hps]
    rcases set_at hj with ⟨rfl, rfl⟩ | ⟨hne, hj⟩
    · exact hg
    · exact h.g j y hj
/-- What a step leaves. -/
def Moved (w : World) (base : Nat) (N : List ND) (w' : World) : Prop :=
  ∃ N', Forest w' base N' ∧ N'.map (·.b) = N.map (·.b) ∧ N'.map (·.r) = N.map (·.r) ∧ N'.map (·.row) = N.map (·.row) ∧ ∃ bs, Tur w w' bs ∧ ∀ g ∈ bs, base ≤ g ∧ (Typed w g 60 ∨ Typed w g 69)
theorem map_set_same {α : Type} {f : ND → α} {i : Nat} {x x' : ND} (hi : N[i]? = some x) (h : f x' = f x) : (N.set i x').map f = N.map f := by
  rw [List.map_set, h]
  exact set_same (by rw [List.getElem?_map, hi]; rfl)
theorem Forest.two (h : Forest w base N) {i : Nat} {x : ND} (hi : N[i]? = some x) : ∀ g ∈ [x.b, x.r], base ≤ g ∧ (Typed w g 60 ∨ Typed w g 69) := by
  intro g hg
  simp only [List.mem_cons, List.not_mem_nil, or_false] at hg
  rcases hg with rfl | rfl
  · exact ⟨(h.lo i x hi).1, .inl (h.p i x hi).1.typed⟩
  · exact ⟨(h.lo i x hi).2.1, .inr (h.r i x hi).typed⟩
theorem Forest.kidsK (h : Forest w base N) {i : Nat} {x : ND} (hi : N[i]? = some x) : ∀ W, Tur w W [x.b, x.r] → KidsAt W x.rs.row (kids N i) := fun W ht => h.kids_at hi ht (fun g hg => by
  simp only [List.mem_cons, List.not_mem_nil, or_false] at hg
  rcases hg with rfl | rfl
  · exact .inl (h.p i x hi).1.typed
  · exact .inr rfl)
theorem forest_take (h : Forest w base N) (hn : N.length ≤ 4611686018427387904) {i : Nat} {x : ND} (hi : N[i]? = some x) (on n : Int) (hx : -9223372036854775808 ≤ n ∧ n ≤ 9223372036854775807) :
    Calls Try.prog 17 #[.agg #[.int .i64 on, .int .i64 2, .int .i64 n], .pointer (some ⟨x.b, 0, none⟩), .pointer (some ⟨x.r, 0, none⟩)] w fun e w' => e = .returned (.bool true) ∧ Moved w base N w' := by
  refine (step_take on n (h.p i x hi) (h.g i x hi) (h.r i x hi) (h.rgood hn hi) (h.link hi) (h.kidsK hi) hx).mono fun e w' ⟨he, hp, hr, ht⟩ => ⟨he, ?_⟩
  have hg := takeP_good (h.g i x hi) n
  by_cases h0 : askE (x.ps N i) n = 0
  · have e1 : takeP (x.ps N i) n = ND.ps N i { x with hand := x.hand + n, peak := max x.peak (x.hand + n + kidSum (kids N i)) } := by unfold takeP; rw [if_pos h0]; rfl
    have e2 : rTake x.rs (kids N i) n = ND.rs { x with hand := x.hand + n, peak := max x.peak (x.hand + n + kidSum (kids N i)) } := by unfold rTake; rw [(h.link hi).ask, if_pos h0]; rfl
    rw [e1] at hp hg
    rw [e2] at hr
    exact ⟨_, h.set1 (x' := { x with hand := x.hand + n, peak := max x.peak (x.hand + n + kidSum (kids N i)) }) hi ⟨rfl, rfl, rfl, rfl, rfl, rfl⟩ rfl ht hp hr hg, map_set_same hi rfl, map_set_same hi rfl, map_set_same hi rfl, _, ht, h.two hi⟩
  · have e1 : takeP (x.ps N i) n = x.ps N i := by unfold takeP; rw [if_neg h0]
    have e2 : rTake x.rs (kids N i) n = x.rs := by unfold rTake; rw [(h.link hi).ask, if_neg h0]
    rw [e1] at hp hg
    rw [e2] at hr
    exact ⟨_, h.set1 hi (Like.refl x) rfl ht hp hr hg, map_set_same hi rfl, map_set_same hi rfl, map_set_same hi rfl, _, ht, h.two hi⟩
theorem forest_give (h : Forest w base N) (hn : N.length ≤ 4611686018427387904) {i : Nat} {x : ND} (hi : N[i]? = some x) (on n : Int) (hx : -9223372036854775808 ≤ n ∧ n ≤ 9223372036854775807) :
    Calls Try.prog 17 #[.agg #[.int .i64 on, .int .i64 3, .int .i64 n], .pointer (some ⟨x.b, 0, none⟩), .pointer (some ⟨x.r, 0, none⟩)] w fun e w' => e = .returned (.bool true) ∧ Moved w base N w' := by
  refine (step_give on n (h.p i x hi) (h.g i x hi) (h.r i x hi) (h.rgood hn hi) (h.link hi) (h.kidsK hi) hx).mono fun e w' ⟨he, hp, hr, ht⟩ => ⟨he, ?_⟩
  have hg := giveP_good (h.g i x hi) n
  by_cases h0 : giveE (x.ps N i) n = 0
  · have e1 : giveP (x.ps N i) n = ND.ps N i { x with hand := x.hand - n } := by unfold giveP; rw [if_pos h0]; rfl
    have e2 : rGive x.rs n = ND.rs { x with hand := x.hand - n } := by unfold rGive; rw [(h.link hi).give, if_pos h0]; rfl
    rw [e1] at hp hg
    rw [e2] at hr
    exact ⟨_, h.set1 (x' := { x with hand := x.hand - n }) hi ⟨rfl, rfl, rfl, rfl, rfl, rfl⟩ rfl ht hp hr hg, map_set_same hi rfl, map_set_same hi rfl, map_set_same hi rfl, _, ht, h.two hi⟩
  · have e1 : giveP (x.ps N i) n = x.ps N i := by unfold giveP; rw [if_neg h0]
    have e2 : rGive x.rs n = x.rs := by unfold rGive; rw [(h.link hi).give, if_neg h0]
    rw [e1] at hp hg
    rw [e2] at hr
    exact ⟨_, h.set1 hi (Like.refl x) rfl ht hp hr hg, map_set_same hi rfl, map_set_same hi rfl, map_set_same hi rfl, _, ht, h.two hi⟩
end
end Go.Proofs.Ytmemdicdehppjaa
