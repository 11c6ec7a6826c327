/- makes: Part, refused. -/
import Derived.Test.YtmemdicdehppjaaRE
namespace Go.Proofs.Ytmemdicdehppjaa
open Go.RowKit

theorem Owns.first {w : World} {base n c : Nat} {e : TypeId} {A : Option Addr} {xs : List Value} (h : Owns w base e (.slice A n c) xs) {i : Nat} {u : Value} (hi : xs[i]? = some u) : ∃ g, A = some ⟨g, 0, none⟩ ∧ w.cell? ⟨g, i, none⟩ = some u := by
  rcases h.2 with ⟨hv, h0⟩ | ⟨g, cap, cur, hv, _⟩
  · have := (List.getElem?_eq_some_iff.1 hi).1; omega
  · cases hv
    have := World.ownsRow.cells h (g := g) rfl i u hi
    refine ⟨g, rfl, ?_⟩
    unfold Addr.add at this
    split at this <;> simp_all
section
variable {w w' : World} {base : Nat} {N : List ND} {va vb : Value}
theorem Laid.still (h : Laid w base N va vb) (hg : w.grownBy w' none) : Laid w' base N va vb :=
  ⟨h.f.still hg, h.a.kept hg (by cases va.ownBlock <;> simp), h.b.kept hg (by cases vb.ownBlock <;> simp), h.d⟩
/-- A node's blocks turn and say again what they said. -/
theorem Laid.again (h : Laid w base N va vb) {i : Nat} {x : ND} (hi : N[i]? = some x) (hg : w.grownBy w' (some x.b)) (hp : IsP w' x.b (x.ps N i)) : Laid w' base N va vb := by
  have ht : Tur w w' [x.b, x.r] := Tur.of hg (by simp)
  have hF := h.f.set1 hi (Like.refl x) rfl ht hp ((h.f.r i x hi).grown hg (fun e => (h.f.r i x hi).ne (h.f.p i x hi).1 (by decide) (Option.some.inj e))) (h.f.g i x hi)
  rw [set_same hi] at hF
  exact ⟨hF, h.a.aside (h.f.p i x hi).1.typed (by decide) hg, h.b.aside (h.f.p i x hi).1.typed (by decide) hg, h.d⟩
theorem laid_part_no (h : Laid w base N va vb) {i : Nat} {x : ND} (hi : N[i]? = some x) (hn : N.length ≤ 4611686018427387904) {n E : Int} (hx : -9223372036854775808 ≤ n ∧ n ≤ 9223372036854775807) (hE : askE (x.ps N i) n = E) (h0 : E ≠ 0) :
    Calls Try.prog 19 #[.pointer (some ⟨x.b, 0, none⟩), .int .i64 n] w fun e w' => e = .returned (.tuple #[.pointer none, .int .i64 E]) ∧ Laid w' base N va vb ∧ w.grownBy w' (some x.b) := by
  have hc : (x.ps N i).cnt ≤ 4611686018427387904 := by
    have h1 := kidCnt_le (kids N i)
    have h2 := kids_length (N := N) i
    show kidCnt (kids N i) ≤ _
    omega
  refine (part_any x.b _ n w (h.f.p i x hi) (h.f.g i x hi) hx hc).mono fun e w' hh => ?_
  rcases hh with ⟨_, h1, h2, h3⟩ | ⟨h1, _⟩
  · rw [hE] at h1
    exact ⟨h1, h.again hi h3 h2, h3⟩
  · exact absurd (hE.symm.trans h1) h0
theorem laid_ref_no (h : Laid w base N va vb) {i : Nat} {x : ND} (hi : N[i]? = some x) (hn : (N.length + 1) * 8 ≤ 140737488351232) (hbase : base ≤ w.heap.size) {n E : Int} (hx : -9223372036854775808 ≤ n ∧ n ≤ 9223372036854775807) (hE : askE (x.ps N i) n = E) (h0 : E ≠ 0) :
    Calls Try.prog 29 #[.pointer (some ⟨x.r, 0, none⟩), .int .i64 n] w fun e w' => e = .returned (.tuple #[.pointer none, .int .i64 E]) ∧ w' = w := by
  have hkl := kids_length (N := N) i
  have hA : rAskE x.rs (kids N i) n = E := by rw [(h.f.link hi).ask, hE]
  refine (part_ref (base := base) n (h.f.r i x hi) (h.f.o i x hi) (fun k hk => ⟨(h.f.kidB hi k hk).1, (h.f.kidB hi k hk).2.1⟩) (h.f.rgood (by omega) hi) hbase (by omega) hx).mono fun e w' hh => ?_
  rcases hh with ⟨_, h1, h2⟩ | ⟨h1, _⟩
  · rw [hA] at h1
    exact ⟨h1, h2⟩
  · exact absurd (hA.symm.trans h1) h0
end
end Go.Proofs.Ytmemdicdehppjaa
