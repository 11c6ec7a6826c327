/- alone: what the third loop keeps. -/
import Derived.Test.YtjkmoahnociaiaaRW
namespace Go.Proofs.Ytjkmoahnociaiaa
open Go.RowKit

theorem info_bools : (Try.prog.info? 35).map (fun i => (i.zero, i.size, i.bytes)) = some (some (.slice none 0 0), 1, 24) := by rfl

theorem RdT.far {w w' : World} {A : Option Addr} {e : TypeId} {xs : List Value} (h : RdT w A e xs) {r : Option Nat} (hb : w.grownBy w' r) (hr : ∀ b o, A = some ⟨b, o, none⟩ → some b ≠ r) : RdT w' A e xs := fun hn => by
  obtain ⟨b, o, h1, h2, h3⟩ := h hn
  have hne := hr b o h1
  exact ⟨b, o, h1, h2.grown hb hne, fun j x hx => hb.cell (h3 j x hx) hne⟩
theorem LR.own_ (r : LR) : r.v.ownBlock = r.A.map (·.block) := by unfold LR.v; cases r.A <;> rfl
/-- The k-th is the k-th of F, grown by k + 1. -/
def GrownR (F G : List LR) : Prop := ∀ (k : Nat) (f g : LR), F[k]? = some f → G[k]? = some g → g.xs = f.xs ++ gbits ((k : Int) + 1) 64
/-- What the third loop keeps. -/
structure More (w0 wr : World) (base i : Nat) (F G : List LR) (X : List RW) (vm : Value) (AL AW : Option Addr) (wants : List Value) : Prop where
  hold : Hold wr base ((G ++ F.drop i).map LR.row ++ (X ++ [row1 35 vm (G.map LR.v)]))
  own : ∀ g, vm.ownBlock = some g → w0.heap.size ≤ g
  len : G.length = i
  xs : GrownR F G
  rd : ∀ (k : Nat) (f : LR), F[k]? = some f → CReads wr f.A (bools f.xs)
  al : RdT wr AL 35 (F.map LR.v)
  aw : RdT wr AW 35 wants
  bel : Below base w0 wr
section
variable {w0 wr w2 : World} {base i : Nat} {F G : List LR} {X : List RW} {vm : Value} {AL AW : Option Addr} {wants : List Value}
theorem More.start {w0 : World} {base : Nat} {F : List LR} {X : List RW} {AL AW : Option Addr} {wants : List Value} (hH : Hold w0 base (F.map LR.row ++ X)) (al : RdT w0 AL 35 (F.map LR.v)) (aw : RdT w0 AW 35 wants) : More w0 w0 base 0 F [] X (.slice none 0 0) AL AW wants :=
  ⟨by have := hH.nilRow (e := 35); simpa [List.append_assoc] using this, fun g h => (by cases h), rfl, fun k f g _ h => (by simp at h),
    fun k f hk => owns_read (hH.lrow hk) rfl, al, aw, Below.refl _ _⟩
theorem More.row (h : More w0 wr base i F G X vm AL AW wants) {f : LR} (hf : F[i]? = some f) : Owns wr base 4 (.slice f.A f.xs.length f.c) (bools f.xs) :=
  h.hold.lrow (r := f) (i := i) (by rw [List.getElem?_append_right (by rw [h.len]; exact Nat.le_refl _), h.len, Nat.sub_self, List.getElem?_drop, Nat.add_zero]; exact hf)
theorem More.got (h : More w0 wr base i F G X vm AL AW wants) {k : Nat} {g : LR} (hg : G[k]? = some g) : Owns wr base 4 (.slice g.A g.xs.length g.c) (bools g.xs) :=
  h.hold.lrow (r := g) (i := k) (by rw [List.getElem?_append_left (List.getElem?_eq_some_iff.1 hg).1]; exact hg)
theorem More.vec (h : More w0 wr base i F G X vm AL AW wants) : Owns wr base 35 vm (G.map LR.v) :=
  h.hold.owns (i := (G ++ F.drop i).length + X.length) (by
    rw [List.getElem?_append_right (by simp), List.length_map, Nat.add_sub_cancel_left, List.getElem?_append_right (Nat.le_refl _), Nat.sub_self]; rfl)
theorem More.below (h : More w0 wr base i F G X vm AL AW wants) (hb : Below wr.heap.size wr w2) (hB : base ≤ wr.heap.size) : More w0 w2 base i F G X vm AL AW wants :=
  ⟨h.hold.below hb, h.own, h.len, h.xs, fun k f hk => (h.rd k f hk).below hb, h.al.below hb, h.aw.below hb, below_then h.bel hB hb⟩
theorem Hold.last {l : List LR} {e : TypeId} {xs : List Value} (h : Hold wr base (l.map LR.row ++ (X ++ [row1 e vm xs]))) : Owns wr base e vm xs :=
  h.owns (i := l.length + X.length) (by
    rw [List.getElem?_append_right (by simp), List.length_map, Nat.add_sub_cancel_left, List.getElem?_append_right (Nat.le_refl _), Nat.sub_self]; rfl)
/-- A list is grown. -/
theorem More.grow (h : More w0 wr base i F G X vm AL AW wants) {f : LR} (hf : F[i]? = some f) (h0 : Hold w0 base (F.map LR.row ++ X)) (hB : base ≤ w0.heap.size) {A' : Option Addr} {n c' : Nat} (hn : f.xs.length + 64 = n)
    (hO : Owns w2 base 4 (.slice A' n c') (bools (f.xs ++ gbits ((i : Int) + 1) 64))) (hC : CReads w2 f.A (bools f.xs)) (hg : wr.grownBy w2 (f.A.map (·.block))) (hE : OrNew wr f.A (.slice A' n c')) :
    Hold w2 base ((G ++ [(⟨A', c', f.xs ++ gbits ((i : Int) + 1) 64⟩ : LR)] ++ F.drop (i + 1)).map LR.row ++ (X ++ [row1 35 vm (G.map LR.v)])) ∧
    (∀ (k : Nat) (f : LR), F[k]? = some f → CReads w2 f.A (bools f.xs)) ∧ RdT w2 AL 35 (F.map LR.v) ∧ RdT w2 AW 35 wants ∧ Below base w0 w2 ∧ GrownR F (G ++ [(⟨A', c', f.xs ++ gbits ((i : Int) + 1) 64⟩ : LR)]) ∧ wr.heap.size ≤ w2.heap.size := by
  have hiF := (List.getElem?_eq_some_iff.1 hf).1
  have hfi : F[i] = f := (List.getElem?_eq_some_iff.1 hf).2
  have hro := h.row hf
  have hty : ∀ g, f.A.map (·.block) = some g → Typed wr g 4 := fun g hg2 => hro.typed (by
    have := LR.own_ f
    unfold LR.v at this
    rw [this]; exact hg2)
  have hbs : ∀ g, f.A.map (·.block) = some g → base ≤ g := fun g hg2 => (hro.lt (g := g) (by
    have := LR.own_ f
    unfold LR.v at this
    rw [this]; exact hg2)).1
  have hsz : base ≤ wr.heap.size := Nat.le_trans hB h.bel.size
  refine ⟨?_, ?_, h.al.aside hg hty (by decide), h.aw.aside hg hty (by decide), h.bel.grown hg hsz hbs, ?_, hg.size⟩
  · have hlen : (f.xs ++ gbits ((i : Int) + 1) 64).length = n := by rw [List.length_append, gbits_length]; exact hn
    have hd : F.drop i = f :: F.drop (i + 1) := by rw [List.drop_eq_getElem_cons hiF, hfi]
    have hold := h.hold
    rw [hd] at hold
    have := hold.turn (i := i) (r := f.row) (by
      rw [List.getElem?_append_left (by simp; have := h.len; omega), List.getElem?_map, List.getElem?_append_right (by rw [h.len]; exact Nat.le_refl _), h.len, Nat.sub_self]
      rfl) (w' := w2) (by
        show wr.grownBy w2 f.v.ownBlock
        rw [LR.own_]; exact hg) (r' := (⟨A', c', f.xs ++ gbits ((i : Int) + 1) 64⟩ : LR).row) (by
        show Owns w2 base 4 (.slice A' (f.xs ++ gbits ((i : Int) + 1) 64).length c') (bools (f.xs ++ gbits ((i : Int) + 1) 64))
        rw [hlen]; exact hO) (by
        show (LR.v ⟨A', c', f.xs ++ gbits ((i : Int) + 1) 64⟩).ownBlock = f.v.ownBlock ∨ ∃ g, (LR.v ⟨A', c', f.xs ++ gbits ((i : Int) + 1) 64⟩).ownBlock = some g ∧ wr.heap.size ≤ g
        have e : LR.v ⟨A', c', f.xs ++ gbits ((i : Int) + 1) 64⟩ = .slice A' n c' := by unfold LR.v; rw [hlen]
        rw [e, LR.own_]
        exact hE)
    rw [List.set_append_left _ _ (by simp; have := h.len; omega), ← List.map_set, List.set_append_right _ _ (by rw [h.len]; exact Nat.le_refl _), h.len, Nat.sub_self, List.set_cons_zero] at this
    rw [List.append_assoc G, List.singleton_append]
    exact this
  · intro k g hk
    by_cases e : k = i
    · subst e
      rw [hf] at hk
      cases hk
      exact hC
    · have hfar := h0.2 k i g.row f.row e (by
        have := (List.getElem?_eq_some_iff.1 hk).1
        rw [List.getElem?_append_left (by simpa using this), List.getElem?_map, hk]; rfl) (by
        rw [List.getElem?_append_left (by simpa using hiF), List.getElem?_map, hf]; rfl)
      refine (h.rd k g hk).grown hg fun b o eA => ?_
      unfold Far at hfar
      rcases hfar with hfar | hfar
      · have : g.v.ownBlock = none := hfar
        rw [LR.own_, eA] at this
        cases this
      · intro e2
        apply hfar
        show g.v.ownBlock = f.v.ownBlock
        rw [LR.own_, LR.own_, eA, ← e2]
        rfl
  · intro k f' g hk hg'
    rcases Nat.lt_trichotomy k i with e | e | e
    · rw [List.getElem?_append_left (by rw [h.len]; exact e)] at hg'
      exact h.xs k f' g hk hg'
    · subst e
      rw [List.getElem?_append_right (by rw [h.len]; exact Nat.le_refl _), h.len, Nat.sub_self] at hg'
      cases hg'
      rw [hf] at hk
      cases hk
      rfl
    · rw [List.getElem?_append_right (by rw [h.len]; omega), h.len, List.getElem?_eq_none (by simp; omega)] at hg'
      cases hg'
/-- And told. -/
theorem More.push {w5 : World} {i : Nat} {g' : LR} {v5 : Value} (len : G.length = i) (own : ∀ g, vm.ownBlock = some g → w0.heap.size ≤ g) (h0 : Hold w0 base (F.map LR.row ++ X)) (hB : base ≤ w0.heap.size)
    (hH : Hold w2 base ((G ++ [g'] ++ F.drop (i + 1)).map LR.row ++ (X ++ [row1 35 vm (G.map LR.v)]))) (rd : ∀ (k : Nat) (f : LR), F[k]? = some f → CReads w2 f.A (bools f.xs)) (al : RdT w2 AL 35 (F.map LR.v)) (aw : RdT w2 AW 35 wants)
    (bl : Below base w0 w2) (xs : GrownR F (G ++ [g'])) (hal : ∀ b o, AL = some ⟨b, o, none⟩ → b < w0.heap.size) (haw : ∀ b o, AW = some ⟨b, o, none⟩ → b < w0.heap.size)
    (ho : Owns w5 base 35 v5 (G.map LR.v ++ [g'.v])) (hg : w2.grownBy w5 vm.ownBlock) (hb : v5.ownBlock = vm.ownBlock ∨ v5.ownBlock = some w2.heap.size) : More w0 w5 base (i + 1) F (G ++ [g']) X v5 AL AW wants := by
  have hsz := bl.size
  have hne : ∀ g, g < w0.heap.size → some g ≠ vm.ownBlock := fun g hlt e => by
    have := own g e.symm
    omega
  refine ⟨?_, fun g hg5 => ?_, by simp [len], xs, fun k f hk => ?_, al.far hg fun b o e => hne b (hal b o e), aw.far hg fun b o e => hne b (haw b o e), bl.grown hg (Nat.le_trans hB hsz) fun g e => Nat.le_trans hB (own g e)⟩
  · have := hH.push (i := ((G ++ [g'] ++ F.drop (i + 1)).map LR.row).length + X.length) (e := 35) (v := vm) (xs := G.map LR.v) (by
      rw [List.getElem?_append_right (by simp), Nat.add_sub_cancel_left, List.getElem?_append_right (Nat.le_refl _), Nat.sub_self]; rfl) ho hg hb
    rw [List.set_append_right _ _ (by simp), Nat.add_sub_cancel_left, List.set_append_right _ _ (Nat.le_refl _), Nat.sub_self, List.set_cons_zero] at this
    simpa using this
  · rcases hb with hb | hb
    · exact own g (hb.symm.trans hg5)
    · have := Option.some.inj (hb.symm.trans hg5)
      omega
  · refine (rd k f hk).grown hg fun b o e => ?_
    refine hne b ?_
    have hk2 := h0.lrow hk
    exact (hk2.lt (g := b) (by rw [e]; rfl)).2
end
end Go.Proofs.Ytjkmoahnociaiaa
