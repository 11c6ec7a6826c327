/- Over all purses: step, whatever it is. -/
import Derived.Test.YtmemdicdehppjaaR8
namespace Go.Proofs.Ytmemdicdehppjaa
open Go.RowKit

section
variable {w w' : World} {base : Nat} {N : List ND}
theorem forest_close (h : Forest w base N) (hn : N.length ≤ 4611686018427387904) {i : Nat} {x : ND} (hi : N[i]? = some x) (on n : Int) :
    Calls Try.prog 17 #[.agg #[.int .i64 on, .int .i64 5, .int .i64 n], .pointer (some ⟨x.b, 0, none⟩), .pointer (some ⟨x.r, 0, none⟩)] w fun e w' => e = .returned (.bool true) ∧ Moved w base N w' := by
  have same : ∀ W, IsP W x.b (x.ps N i) → Blk W x.r 69 x.rs.cells → Tur w W [x.r] → Moved w base N W := fun W h1 h2 h3 => by
    have h4 : Tur w W [x.b, x.r] := h3.more (by simp)
    exact ⟨_, h.set1 hi (Like.refl x) rfl h4 h1 h2 (h.g i x hi), map_set_same hi rfl, map_set_same hi rfl, map_set_same hi rfl, _, h4, h.two hi⟩
  rcases hu : x.up with _ | j
  · have hup : (x.ps N i).up = none := by simp [ND.ps, upB, hu]
    refine (step_close (pb := x.b) (pp := x.ps N i) on n (h.p i x hi) (h.g i x hi) (h.r i x hi) (h.rgood hn hi) (h.link hi) ((h.p i x hi).1.ne (h.r i x hi) (by decide)) (fun W hW => h.kidsK hi W (hW.more (by simp)))
      (fun u h1 => by rw [hup] at h1; cases h1) (fun _ u h1 => by rw [hup] at h1; cases h1)).mono fun e w' ⟨he, hs⟩ => ⟨he, ?_⟩
    rcases hs with ⟨_, h1, h2, h3⟩ | ⟨_, h1, _⟩
    · exact same _ h1 h2 h3
    · rw [hup] at h1; cases h1
  · obtain ⟨y, hj, hlk, hne⟩ := h.u i x hi j hu
    have hup : (x.ps N i).up = some y.b := by simp [ND.ps, upB, hu, hj]
    have hbb : x.b ≠ y.b := fun e => hne (h.db i j x y hi hj e).symm
    refine (step_close (pb := y.b) (pp := y.ps N j) on n (h.p i x hi) (h.g i x hi) (h.r i x hi) (h.rgood hn hi) (h.link hi) ((h.p j y hj).1.ne (h.r i x hi) (by decide)) (fun W hW => h.kids_at hi hW (fun g hg => by
      simp only [List.mem_cons, List.not_mem_nil, or_false] at hg
      rcases hg with rfl | rfl | rfl
      · exact .inl (h.p i x hi).1.typed
      · exact .inl (h.p j y hj).1.typed
      · exact .inr rfl))
      (fun u h1 => by
        rw [hup] at h1
        cases h1
        exact ⟨rfl, h.p j y hj, hlk, hbb⟩) (fun hc u _ => by
        have ho : x.opn = true := by simpa [ND.ps] using hc
        have hmem : x.rk ∈ kids N j := List.mem_map.2 ⟨x, List.mem_filter.2 ⟨List.mem_of_getElem? hi, by simp [hu]⟩, rfl⟩
        have hle := kidSum_mem (fun k hk => (h.kidB hj k hk).2.2) hmem ho
        have hc1 := kidCnt_mem hmem ho
        have hc2 := kidCnt_le (kids N j)
        have hc3 := kids_length (N := N) j
        have hg := h.g j y hj
        have h1 := hg.o1; have h2 := hg.l1; have h3 := hg.h0
        simp only [ND.ps] at h1 h2 h3 ⊢
        simp only [ND.rk] at hle
        refine ⟨hle, by omega, hc1, by omega⟩)).mono fun e w' ⟨he, hs⟩ => ⟨he, ?_⟩
    rcases hs with ⟨_, h1, h2, h3⟩ | ⟨h0, _, h1, h2, h3, h4⟩
    · exact same _ h1 h2 h3
    · have ho : x.opn = true := by
        have := (close_ok (h.g i x hi) h0).1
        simpa [ND.ps] using this
      refine ⟨_, h.set2 hi hj hu ho h4 h1 h2 h3, map_set_same hi rfl, map_set_same hi rfl, map_set_same hi rfl, _, h4, fun g hg => ?_⟩
      simp only [List.mem_cons, List.not_mem_nil, or_false] at hg
      rcases hg with rfl | rfl | rfl
      · exact ⟨(h.lo i x hi).1, .inl (h.p i x hi).1.typed⟩
      · exact ⟨(h.lo j y hj).1, .inl (h.p j y hj).1.typed⟩
      · exact ⟨(h.lo i x hi).2.1, .inr (h.r i x hi).typed⟩
theorem Forest.moved (h : Forest w base N) (hb : Below w.heap.size w w') : Moved w base N w' :=
  ⟨N, h.still (only_of_below hb none), rfl, rfl, rfl, [], Tur.below0 hb [], by simp⟩
theorem forest_step (h : Forest w base N) (hn : N.length ≤ 4611686018427387904) {i : Nat} {x : ND} (hi : N[i]? = some x) (on k n : Int) (hx : -9223372036854775808 ≤ n ∧ n ≤ 9223372036854775807) :
    Calls Try.prog 17 #[.agg #[.int .i64 on, .int .i64 k, .int .i64 n], .pointer (some ⟨x.b, 0, none⟩), .pointer (some ⟨x.r, 0, none⟩)] w fun e w' => e = .returned (.bool true) ∧ Moved w base N w' := by
  by_cases h2 : k = 2
  · subst h2; exact forest_take h hn hi on n hx
  by_cases h3 : k = 3
  · subst h3; exact forest_give h hn hi on n hx
  by_cases h5 : k = 5
  · subst h5; exact forest_close h hn hi on n
  exact (step_none on k n h2 h3 h5).mono fun e w' ⟨he, hb⟩ => ⟨he, h.moved hb⟩
end
end Go.Proofs.Ytmemdicdehppjaa
