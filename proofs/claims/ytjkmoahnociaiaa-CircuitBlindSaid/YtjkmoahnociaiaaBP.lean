/- CircuitBlind, plain: the order of gates bears on nothing; nor what is in no cone. -/
import Derived.Test.YtjkmoahnociaiaaMD
import Derived.BigQuiet
namespace Go.Proofs.Ytjkmoahnociaiaa
open Go.RowKit

theorem filter_map_congr {α β γ : Type} {p : α → Bool} {q : β → Bool} {f : α → γ} {h : β → γ} : ∀ {l : List α} {m : List β}, l.length = m.length → (∀ (j : Nat) (x : α) (y : β), l[j]? = some x → m[j]? = some y → p x = q y ∧ (p x = true → f x = h y)) → (l.filter p).map f = (m.filter q).map h
  | [], [], _, _ => rfl
  | [], _ :: _, hl, _ => by simp at hl
  | _ :: _, [], hl, _ => by simp at hl
  | x :: l, y :: m, hl, hc => by
    have h0 := hc 0 x y rfl rfl
    have ih := filter_map_congr (p := p) (q := q) (f := f) (h := h) (l := l) (m := m) (by simpa using hl) (fun j a b ha hb => hc (j + 1) a b (by simpa using ha) (by simpa using hb))
    by_cases hp : p x = true
    · rw [List.filter_cons_of_pos hp, List.filter_cons_of_pos (by rw [← h0.1]; exact hp), List.map_cons, List.map_cons, ih, h0.2 hp]
    · rw [List.filter_cons_of_neg hp, List.filter_cons_of_neg (by rw [← h0.1]; exact hp), ih]
theorem countP_congr' {α β : Type} {p : α → Bool} {q : β → Bool} {l : List α} {m : List β} (hl : l.length = m.length) (hc : ∀ (j : Nat) (x : α) (y : β), l[j]? = some x → m[j]? = some y → p x = q y) : l.countP p = m.countP q := by
  have := congrArg List.length (filter_map_congr (p := p) (q := q) (f := fun _ => ()) (h := fun _ => ()) hl (fun j x y hx hy => ⟨hc j x y hx hy, fun _ => rfl⟩))
  rw [List.length_map, List.length_map] at this
  rw [List.countP_eq_length_filter, List.countP_eq_length_filter]
  exact this

/-! The order of gates. -/
/-- A line, its places turned. -/
def moved (at_ : Nat → Nat) (g : Gt) : Gt :=
  { g with
    a := if g.kind = 1 then g.a else (at_ g.a.toNat : Int)
    b := if g.kind = 2 ∨ g.kind = 4 then (at_ g.b.toNat : Int) else g.b
    c := if g.kind = 4 then (at_ g.c.toNat : Int) else g.c }
/-- D is c with its lines in other places. -/
structure Shuf (c : Ct) (at_ inv : Nat → Nat) (D : Ct) : Prop where
  name : D.name = c.name
  len : D.gs.length = c.gs.length
  lt : ∀ i, i < c.gs.length → at_ i < c.gs.length
  ilt : ∀ j, j < c.gs.length → inv j < c.gs.length
  left : ∀ i, i < c.gs.length → inv (at_ i) = i
  right : ∀ j, j < c.gs.length → at_ (inv j) = j
  fix : ∀ (i : Nat) (g : Gt), c.gs[i]? = some g → g.kind = 1 ∨ g.kind = 3 → at_ i = i
  line : ∀ (i : Nat) (g : Gt), c.gs[i]? = some g → D.gs[at_ i]? = some (moved at_ g)
  outs : D.outs = c.outs.map fun p => (at_ p.toNat : Int)
section
variable {c D : Ct} {at_ inv : Nat → Nat} {ins las : List Bool}
theorem Shuf.back (h : Shuf c at_ inv D) {j : Nat} {d : Gt} (hd : D.gs[j]? = some d) : ∃ g, c.gs[inv j]? = some g ∧ d = moved at_ g ∧ j < c.gs.length := by
  have hj : j < c.gs.length := by have := (List.getElem?_eq_some_iff.1 hd).1; rw [h.len] at this; exact this
  have hi := h.ilt j hj
  have hg := List.getElem?_eq_getElem hi
  have hl := h.line _ _ hg
  rw [h.right j hj, hd] at hl
  exact ⟨_, hg, Option.some.inj hl, hj⟩
/-- An input or a latch stands where it stood. -/
theorem Shuf.same (h : Shuf c at_ inv D) {k : Int} (hk : k = 1 ∨ k = 3) {j : Nat} {g d : Gt} (hg : c.gs[j]? = some g) (hd : D.gs[j]? = some d) : decide (g.kind = k) = decide (d.kind = k) ∧ (decide (g.kind = k) = true → d = moved at_ g) := by
  obtain ⟨g', hg', rfl, hj⟩ := h.back hd
  have hkd : (moved at_ g').kind = g'.kind := rfl
  by_cases h1 : g.kind = k
  · have hf := h.fix j g hg (by rcases hk with rfl | rfl <;> omega)
    have e : inv j = j := by have := h.left j hj; rwa [hf] at this
    rw [e, hg] at hg'
    cases hg'
    exact ⟨rfl, fun _ => rfl⟩
  · refine ⟨?_, fun h2 => absurd (of_decide_eq_true h2) h1⟩
    by_cases h2 : g'.kind = k
    · have hf := h.fix _ g' hg' (by rcases hk with rfl | rfl <;> omega)
      rw [h.right j hj] at hf
      rw [← hf, hg] at hg'
      cases hg'
      exact absurd h2 h1
    · rw [hkd]; simp [h1, h2]
theorem Shuf.cnt (h : Shuf c at_ inv D) {k : Int} (hk : k = 1 ∨ k = 3) (j : Nat) : cntK D.gs k j = cntK c.gs k j := by
  unfold cntK
  refine (countP_congr' (by rw [List.length_take, List.length_take, h.len]) fun i x y hx hy => ?_).symm
  rw [List.getElem?_take] at hx hy
  split at hx
  · rename_i hi
    rw [if_pos hi] at hy
    exact (h.same hk hx hy).1
  · cases hx
theorem Shuf.fields (h : Shuf c at_ inv D) {g : Gt} (hf : FieldsP g (c.gs.length : Int)) : FieldsP (moved at_ g) (c.gs.length : Int) := by
  have key : ∀ z : Int, PlaceP z (c.gs.length : Int) → PlaceP ((at_ z.toNat : Nat) : Int) (c.gs.length : Int) := fun z hz => by
    unfold PlaceP at hz ⊢
    have := h.lt z.toNat (by omega)
    omega
  unfold FieldsP at hf ⊢
  rcases hf with ⟨e, h1, h2, h3, h4⟩ | ⟨e, h1, h2, h3, h4, h5⟩ | ⟨e, h1, h2, h3, h4, h5⟩ | ⟨e, h1, h2, h3, h4⟩
  · exact .inl (by unfold moved; simp [e, h1, h2, h3, h4])
  · refine .inr (.inl ⟨e, h1, h2, ?_, ?_, ?_⟩)
    · unfold moved; simp only [e]; exact key _ h3
    · unfold moved; simp only [e]; exact key _ h4
    · unfold moved; simp [e, h5]
  · refine .inr (.inr (.inl ⟨e, h1, h2, ?_, ?_, ?_⟩))
    · unfold moved; simp only [e]; exact key _ h3
    · unfold moved; simp [e, h4]
    · unfold moved; simp [e, h5]
  · refine .inr (.inr (.inr ⟨e, h1, ?_, ?_, ?_⟩))
    · unfold moved; simp only [e]; exact key _ h2
    · unfold moved; simp only [e]; exact key _ h3
    · unfold moved; simp only [e]; exact key _ h4
theorem moved_lns (at_ : Nat → Nat) (g : Gt) : (moved at_ g).lns = g.lns.map at_ := by
  unfold Gt.lns Gt.leans moved
  by_cases h2 : g.kind = 2
  · simp [h2]
  · by_cases h4 : g.kind = 4
    · simp [h4]
    · simp [h2, h4]
theorem Shuf.formed (h : Shuf c at_ inv D) (hM : MadeC c) : FormedP D := by
  have hF := hM.formed
  refine ⟨by rw [h.name]; exact hF.name, by rw [h.len]; exact hF.gl, by rw [h.outs, List.length_map]; exact hF.ol, fun d hd => ?_, ?_, fun p hp => ?_, ?_⟩
  · obtain ⟨j, hj⟩ := List.getElem?_of_mem hd
    obtain ⟨g, hg, rfl, _⟩ := h.back hj
    have := hF.lines g (List.mem_of_getElem? hg)
    exact ⟨this.1, by rw [h.len]; exact h.fields this.2⟩
  · unfold List.Nodup
    rw [List.pairwise_iff_getElem]
    intro i j hi hj hij e
    rw [List.getElem_map, List.getElem_map] at e
    rw [List.length_map] at hi hj
    obtain ⟨g1, hg1, e1, hi'⟩ := h.back (List.getElem?_eq_getElem hi)
    obtain ⟨g2, hg2, e2, hj'⟩ := h.back (List.getElem?_eq_getElem hj)
    rw [e1, e2] at e
    have h1 := (hM.lines _ _ hg1).1
    have h2 := (hM.lines _ _ hg2).1
    have e3 : g1.name = g2.name := e
    rw [h1, h2] at e3
    have e4 := nameAt_inj e3
    have h5 := h.right i hi'
    rw [e4, h.right j hj'] at h5
    omega
  · rw [h.outs] at hp
    obtain ⟨q, hq, rfl⟩ := List.mem_map.1 hp
    have h1 := hM.outs q hq
    have := h.lt q.toNat (by omega)
    rw [h.len]
    omega
  · have key : ∀ i, i < c.gs.length → Free (lnsOf D.gs) (at_ i) := by
      intro i
      induction i using Nat.strongRecOn with
      | _ i ih =>
        intro hi
        refine Acc.intro _ fun p hp => ?_
        have hg := List.getElem?_eq_getElem hi
        rw [lnsOf_at (h.line i _ hg), moved_lns] at hp
        obtain ⟨q, hq, rfl⟩ := List.mem_map.1 hp
        have := hM.leans hg q hq
        exact ih q this (by omega)
    intro j hj
    rw [h.len] at hj
    have := key (inv j) (h.ilt j hj)
    rwa [h.right j hj] at this
/-- The values, moved. -/
def movedV (inv : Nat → Nat) (n : Nat) (v : List Bool) : List Bool := (List.range n).map fun j => v.getD (inv j) false
theorem movedV_at (h : Shuf c at_ inv D) {v : List Bool} {i : Nat} (hi : i < c.gs.length) : (movedV inv c.gs.length v).getD (at_ i) false = v.getD i false := by
  unfold movedV
  rw [List.getD_eq_getElem?_getD, List.getElem?_map, List.getElem?_range (h.lt i hi)]
  simp [h.left i hi]
theorem Shuf.val (h : Shuf c at_ inv D) (hM : MadeC c) {v : List Bool} (hv : Val c.gs ins las v) : Val D.gs ins las (movedV inv c.gs.length v) := by
  refine ⟨by simp [movedV, h.len], fun j d hd => ?_⟩
  obtain ⟨g, hg, rfl, hj⟩ := h.back hd
  have hr := hv.rule _ _ hg
  have e1 : (movedV inv c.gs.length v)[j]? = some (v.getD (inv j) false) := by
    unfold movedV
    rw [List.getElem?_map, List.getElem?_range hj]
    rfl
  rw [e1, List.getD_eq_getElem?_getD, hr]
  simp only [Option.getD_some, Option.some.injEq]
  have hf := (hM.formed.lines g (List.mem_of_getElem? hg)).2
  have hp : ∀ z : Int, PlaceP z (c.gs.length : Int) → (movedV inv c.gs.length v).getD (at_ z.toNat) false = v.getD z.toNat false := fun z hz => movedV_at h (by unfold PlaceP at hz; omega)
  unfold FieldsP at hf
  have hb : (g.kind = 1 ∨ g.kind = 3) → baseV c.gs ins las (inv j) g = baseV D.gs ins las j (moved at_ g) := fun hk => by
    have hfx := h.fix _ g hg hk
    rw [h.right j hj] at hfx
    unfold baseV
    rw [← hfx, h.cnt (.inl rfl), h.cnt (.inr rfl)]
    rfl
  rcases hf with ⟨e, _⟩ | ⟨e, _, _, ha, hb', _⟩ | ⟨e, _⟩ | ⟨e, _, ha, hb', hc'⟩
  · unfold ruleV
    rw [if_neg (by rw [e]; decide), if_neg (by rw [e]; decide), if_neg (show ¬ (moved at_ g).kind = 2 by show ¬ g.kind = 2; rw [e]; decide), if_neg (show ¬ (moved at_ g).kind = 4 by show ¬ g.kind = 4; rw [e]; decide)]
    exact hb (.inl e)
  · unfold ruleV
    rw [if_pos e, if_pos (show (moved at_ g).kind = 2 from e)]
    have a1 : (moved at_ g).a = (at_ g.a.toNat : Int) := by unfold moved; simp [e]
    have b1 : (moved at_ g).b = (at_ g.b.toNat : Int) := by unfold moved; simp [e]
    rw [a1, b1, Int.toNat_natCast, Int.toNat_natCast, hp _ ha, hp _ hb']
    rfl
  · unfold ruleV
    rw [if_neg (by rw [e]; decide), if_neg (by rw [e]; decide), if_neg (show ¬ (moved at_ g).kind = 2 by show ¬ g.kind = 2; rw [e]; decide), if_neg (show ¬ (moved at_ g).kind = 4 by show ¬ g.kind = 4; rw [e]; decide)]
    exact hb (.inr e)
  · unfold ruleV
    rw [if_neg (by rw [e]; decide), if_pos e, if_neg (show ¬ (moved at_ g).kind = 2 by show ¬ g.kind = 2; rw [e]; decide), if_pos (show (moved at_ g).kind = 4 from e)]
    have a1 : (moved at_ g).a = (at_ g.a.toNat : Int) := by unfold moved; simp [e]
    have b1 : (moved at_ g).b = (at_ g.b.toNat : Int) := by unfold moved; simp [e]
    have c1 : (moved at_ g).c = (at_ g.c.toNat : Int) := by unfold moved; simp [e]
    rw [a1, b1, c1, Int.toNat_natCast, Int.toNat_natCast, Int.toNat_natCast, hp _ ha, hp _ hb', hp _ hc']
theorem Shuf.the (h : Shuf c at_ inv D) (hM : MadeC c) : theV D.gs ins las = movedV inv c.gs.length (theV c.gs ins las) := by
  have hv := vL_val (ins := ins) (las := las) hM
  have h1 := (h.val hM hv).the (h.formed hM).free (h.formed hM).lines.inR
  rw [← h1, vL_the hM]
theorem Shuf.outs_ (h : Shuf c at_ inv D) (hM : MadeC c) : outsL D ins las = outsL c ins las := by
  unfold outsL
  rw [h.outs, List.map_map, h.the hM]
  refine List.map_congr_left fun p hp => ?_
  have := hM.outs p hp
  exact movedV_at h (by omega)
theorem Shuf.next_ (h : Shuf c at_ inv D) (hM : MadeC c) : nextL D ins las = nextL c ins las := by
  unfold nextL
  rw [h.the hM]
  refine filter_map_congr (by rw [h.len]) fun j d g hd hg => ?_
  have hs := h.same (k := 3) (.inr rfl) hg hd
  refine ⟨hs.1.symm, fun hk => ?_⟩
  have hk' : decide (g.kind = 3) = true := by rw [hs.1]; exact hk
  rw [hs.2 hk']
  have e := of_decide_eq_true hk'
  have a1 : (moved at_ g).a = (at_ g.a.toNat : Int) := by unfold moved; simp [e]
  have hf := (hM.lines j g hg).2
  have hj := (List.getElem?_eq_some_iff.1 hg).1
  unfold FieldsK PlaceP at hf
  rw [a1, Int.toNat_natCast]
  exact movedV_at h (by omega)
theorem Shuf.first_ (h : Shuf c at_ inv D) : firstL D = firstL c := by
  unfold firstL
  refine filter_map_congr (by rw [h.len]) fun j d g hd hg => ?_
  have hs := h.same (k := 3) (.inr rfl) hg hd
  exact ⟨hs.1.symm, fun hk => by rw [hs.2 (by rw [hs.1]; exact hk)]; rfl⟩
theorem Shuf.lat (h : Shuf c at_ inv D) (hM : MadeC c) (inss : List (List Bool)) : ∀ k, latAt D inss k = latAt c inss k
  | 0 => h.first_
  | k + 1 => by
    show nextL D _ _ = nextL c _ _
    rw [h.lat hM inss k, h.next_ hM]
theorem Shuf.run (h : Shuf c at_ inv D) (hM : MadeC c) (inss : List (List Bool)) (k : Nat) : runK D inss k = runK c inss k := by
  unfold runK
  refine List.map_congr_left fun j _ => ?_
  unfold outAt
  rw [h.lat hM, h.outs_ hM]
theorem Shuf.code (h : Shuf c at_ inv D) (hM : MadeC c) (inss : List (List Bool)) : runCode D inss = runCode c inss := by
  unfold runCode
  rw [if_pos (h.formed hM), if_pos hM.formed, h.len, h.cnt (.inl rfl)]
end
end Go.Proofs.Ytjkmoahnociaiaa
/- CircuitBlind, plain: what is in no cone. -/
namespace Go.Proofs.Ytjkmoahnociaiaa
open Go.RowKit

/-- D is c, where lines outside S have another operator. -/
structure Dead (c : Ct) (S : Nat → Prop) (D : Ct) : Prop where
  name : D.name = c.name
  outs : D.outs = c.outs
  len : D.gs.length = c.gs.length
  line : ∀ (i : Nat) (g : Gt), c.gs[i]? = some g → D.gs[i]? = some g ∨ (¬ S i ∧ g.kind = 2 ∧ D.gs[i]? = some { g with op := 15 - g.op })
structure Closed (c : Ct) (S : Nat → Prop) : Prop where
  outs : ∀ p ∈ c.outs, S p.toNat
  lat : ∀ (i : Nat) (g : Gt), c.gs[i]? = some g → g.kind = 3 → S g.a.toNat
  leans : ∀ (i : Nat) (g : Gt), c.gs[i]? = some g → S i → ∀ p ∈ g.lns, S p
section
variable {c D : Ct} {S : Nat → Prop} {ins las : List Bool}
theorem Dead.back (h : Dead c S D) {i : Nat} {d : Gt} (hd : D.gs[i]? = some d) : ∃ g, c.gs[i]? = some g ∧ (d = g ∨ (¬ S i ∧ g.kind = 2 ∧ d = { g with op := 15 - g.op })) := by
  have hi : i < c.gs.length := by have := (List.getElem?_eq_some_iff.1 hd).1; rw [h.len] at this; exact this
  have hg := List.getElem?_eq_getElem hi
  refine ⟨_, hg, ?_⟩
  rcases h.line _ _ hg with h1 | ⟨h1, h2, h3⟩
  · rw [hd] at h1; exact .inl (Option.some.inj h1)
  · rw [hd] at h3; exact .inr ⟨h1, h2, Option.some.inj h3⟩
theorem Dead.made (h : Dead c S D) (hM : MadeC c) : MadeC D := by
  refine ⟨h.name.trans hM.name, by rw [h.len]; exact hM.pos, by rw [h.len]; exact hM.le, by rw [h.outs]; exact hM.ol, fun i d hd => ?_, fun p hp => by rw [h.outs] at hp; rw [h.len]; exact hM.outs p hp⟩
  obtain ⟨g, hg, hd'⟩ := h.back hd
  obtain ⟨h1, h2⟩ := hM.lines i g hg
  rcases hd' with rfl | ⟨_, hk, rfl⟩
  · exact ⟨h1, h2⟩
  · refine ⟨h1, ?_⟩
    unfold FieldsK at h2 ⊢
    dsimp only
    rcases h2 with h2 | ⟨e, o1, o2, h2⟩ | h2 | h2
    · omega
    · exact .inr (.inl ⟨e, by omega, by omega, h2⟩)
    · omega
    · omega
theorem Dead.kind (h : Dead c S D) {i : Nat} {g d : Gt} (hg : c.gs[i]? = some g) (hd : D.gs[i]? = some d) : d.kind = g.kind ∧ d.a = g.a := by
  obtain ⟨g', hg', hd'⟩ := h.back hd
  rw [hg] at hg'
  cases hg'
  rcases hd' with rfl | ⟨_, _, rfl⟩ <;> exact ⟨rfl, rfl⟩
theorem Dead.cnt (h : Dead c S D) (k : Int) (j : Nat) : cntK D.gs k j = cntK c.gs k j := by
  unfold cntK
  refine countP_congr' (by rw [List.length_take, List.length_take, h.len]) fun i x y hx hy => ?_
  rw [List.getElem?_take] at hx hy
  split at hx
  · rename_i hi
    rw [if_pos hi] at hy
    rw [(h.kind hy hx).1]
  · cases hx
theorem Dead.agree (h : Dead c S D) (hM : MadeC c) (hC : Closed c S) : ∀ i, i < c.gs.length → S i → (theV D.gs ins las)[i]? = (theV c.gs ins las)[i]? := by
  have hv := vL_val (ins := ins) (las := las) hM
  have hv' := vL_val (ins := ins) (las := las) (h.made hM)
  rw [vL_the hM] at hv
  rw [vL_the (h.made hM)] at hv'
  intro i
  induction i using Nat.strongRecOn with
  | _ i ih =>
    intro hi hS
    have hg := List.getElem?_eq_getElem hi
    have hd : D.gs[i]? = some c.gs[i] := by
      rcases h.line _ _ hg with h1 | ⟨h1, _⟩
      · exact h1
      · exact absurd hS h1
    rw [hv.rule _ _ hg, hv'.rule _ _ hd]
    congr 1
    have hb : baseV D.gs ins las i c.gs[i] = baseV c.gs ins las i c.gs[i] := by unfold baseV; rw [h.cnt, h.cnt]
    have hl : ∀ p ∈ (c.gs[i]).lns, (theV D.gs ins las)[p]? = (theV c.gs ins las)[p]? := fun p hp => by
      have hpi := hM.leans hg p hp
      exact ih p hpi (by omega) (hC.leans i _ hg hS p hp)
    rw [ruleV_same (gs := D.gs) hl]
    unfold ruleV
    rw [hb]
theorem Dead.outs_ (h : Dead c S D) (hM : MadeC c) (hC : Closed c S) : outsL D ins las = outsL c ins las := by
  unfold outsL
  rw [h.outs]
  refine List.map_congr_left fun p hp => ?_
  have := hM.outs p hp
  exact getD_eq (h.agree hM hC _ (by omega) (hC.outs p hp))
theorem Dead.next_ (h : Dead c S D) (hM : MadeC c) (hC : Closed c S) : nextL D ins las = nextL c ins las := by
  unfold nextL
  refine filter_map_congr (by rw [h.len]) fun j d g hd hg => ?_
  have hk := h.kind hg hd
  refine ⟨by rw [hk.1], fun h3 => ?_⟩
  have e : g.kind = 3 := by rw [← hk.1]; exact of_decide_eq_true h3
  rw [hk.2]
  have hf := (hM.lines j g hg).2
  have hj := (List.getElem?_eq_some_iff.1 hg).1
  unfold FieldsK PlaceP at hf
  exact getD_eq (h.agree hM hC _ (by omega) (hC.lat j g hg e))
theorem Dead.first_ (h : Dead c S D) : firstL D = firstL c := by
  unfold firstL
  refine filter_map_congr (by rw [h.len]) fun j d g hd hg => ?_
  have hk := h.kind hg hd
  refine ⟨by rw [hk.1], fun h3 => ?_⟩
  obtain ⟨g', hg', hd'⟩ := h.back hd
  rw [hg] at hg'
  cases hg'
  rcases hd' with rfl | ⟨_, hk2, _⟩
  · rfl
  · have := of_decide_eq_true h3
    rw [hk.1] at this
    omega
theorem Dead.lat (h : Dead c S D) (hM : MadeC c) (hC : Closed c S) (inss : List (List Bool)) : ∀ k, latAt D inss k = latAt c inss k
  | 0 => h.first_
  | k + 1 => by
    show nextL D _ _ = nextL c _ _
    rw [h.lat hM hC inss k, h.next_ hM hC]
theorem Dead.run (h : Dead c S D) (hM : MadeC c) (hC : Closed c S) (inss : List (List Bool)) (k : Nat) : runK D inss k = runK c inss k := by
  unfold runK
  refine List.map_congr_left fun j _ => ?_
  unfold outAt
  rw [h.lat hM hC, h.outs_ hM hC]
theorem Dead.code (h : Dead c S D) (hM : MadeC c) (inss : List (List Bool)) : runCode D inss = runCode c inss := by
  unfold runCode
  rw [if_pos (h.made hM).formed, if_pos hM.formed, h.len, h.cnt]
end
/-- What is in the cone of one of these places. -/
def InCone (gs : List Gt) (ps : List Nat) (i : Nat) : Prop := ∃ p ∈ ps, i = p ∨ Way (lnsOf gs) p i
theorem InCone.leans {gs : List Gt} {ps : List Nat} {i : Nat} {g : Gt} (hg : gs[i]? = some g) (h : InCone gs ps i) {q : Nat} (hq : q ∈ g.lns) : InCone gs ps q := by
  obtain ⟨p, hp, h⟩ := h
  rw [← lnsOf_at hg] at hq
  refine ⟨p, hp, .inr ?_⟩
  rcases h with rfl | h
  · exact .one hq
  · exact h.snoc hq
end Go.Proofs.Ytjkmoahnociaiaa
/- shuffled: lines in other places. -/
namespace Go.Proofs.Ytjkmoahnociaiaa
open Go.RowKit

/-- Where each line goes, and whence it came. -/
structure AtF (c : Ct) (at_ inv : Nat → Nat) : Prop where
  lt : ∀ i, i < c.gs.length → at_ i < c.gs.length
  ilt : ∀ j, j < c.gs.length → inv j < c.gs.length
  left : ∀ i, i < c.gs.length → inv (at_ i) = i
  right : ∀ j, j < c.gs.length → at_ (inv j) = j
  fix : ∀ (i : Nat) (g : Gt), c.gs[i]? = some g → g.kind = 1 ∨ g.kind = 3 → at_ i = i
theorem AtF.id_ (c : Ct) : AtF c id id := ⟨fun _ h => h, fun _ h => h, fun _ _ => rfl, fun _ _ => rfl, fun _ _ _ _ => rfl⟩
def swapF (f : Nat → Nat) (p q : Nat) (i : Nat) : Nat := if i = q then f p else if i = p then f q else f i
def swapI (f inv : Nat → Nat) (p q : Nat) (j : Nat) : Nat := if j = f p then q else if j = f q then p else inv j
theorem AtF.swap {c : Ct} {at_ inv : Nat → Nat} (h : AtF c at_ inv) {p q : Nat} (hp : p < c.gs.length) (hq : q < c.gs.length) (kp : ∀ g, c.gs[p]? = some g → ¬ (g.kind = 1 ∨ g.kind = 3)) (kq : ∀ g, c.gs[q]? = some g → ¬ (g.kind = 1 ∨ g.kind = 3)) : AtF c (swapF at_ p q) (swapI at_ inv p q) := by
  have inj : ∀ a b, a < c.gs.length → b < c.gs.length → at_ a = at_ b → a = b := fun a b ha hb e => by rw [← h.left a ha, ← h.left b hb, e]
  refine ⟨fun i hi => ?_, fun j hj => ?_, fun i hi => ?_, fun j hj => ?_, fun i g hg hk => ?_⟩
  · unfold swapF
    split
    · exact h.lt p hp
    · split
      · exact h.lt q hq
      · exact h.lt i hi
  · unfold swapI
    split
    · exact hq
    · split
      · exact hp
      · exact h.ilt j hj
  · unfold swapF swapI
    by_cases e1 : i = q
    · rw [if_pos e1, if_pos rfl, e1]
    · rw [if_neg e1]
      by_cases e2 : i = p
      · rw [if_pos e2]
        by_cases e3 : at_ q = at_ p
        · have := inj q p hq hp e3
          omega
        · rw [if_neg e3, if_pos rfl, e2]
      · rw [if_neg e2, if_neg fun e => e2 (inj i p hi hp e), if_neg fun e => e1 (inj i q hi hq e)]
        exact h.left i hi
  · unfold swapI
    by_cases e1 : j = at_ p
    · rw [if_pos e1]
      unfold swapF
      rw [if_pos rfl, e1]
    · rw [if_neg e1]
      by_cases e2 : j = at_ q
      · rw [if_pos e2]
        unfold swapF
        by_cases e3 : p = q
        · rw [if_pos e3, e2, e3]
        · rw [if_neg e3, if_pos rfl, e2]
      · rw [if_neg e2]
        unfold swapF
        have h1 := h.right j hj
        rw [if_neg fun e => e2 (by rw [← h1, e]), if_neg fun e => e1 (by rw [← h1, e])]
        exact h1
  · unfold swapF
    rw [if_neg fun e => kq g (by rw [← e]; exact hg) hk, if_neg fun e => kp g (by rw [← e]; exact hg) hk]
    exact h.fix i g hg hk
/-- A list of n numbers, told by a function. -/
def tell (n : Nat) (f : Nat → Nat) : List Nat := (List.range n).map f
theorem tell_len (n : Nat) (f : Nat → Nat) : (tell n f).length = n := by simp [tell]
theorem tell_get {n : Nat} {f : Nat → Nat} {i : Nat} (hi : i < n) : (tell n f)[i]? = some (f i) := by
  unfold tell
  rw [List.getElem?_map, List.getElem?_range hi]
  rfl
theorem tell_set {n : Nat} {f : Nat → Nat} {i x : Nat} : (tell n f).set i x = tell n (fun k => if k = i then x else f k) := by
  apply List.ext_getElem?
  intro j
  rw [List.getElem?_set]
  by_cases hj : j < n
  · rw [tell_get hj, tell_get hj, tell_len]
    by_cases e : i = j
    · subst e; simp [hj]
    · rw [if_neg e, if_neg (fun e2 => e e2.symm)]
  · have h1 : (tell n f)[j]? = none := List.getElem?_eq_none (by rw [tell_len]; omega)
    have h2 : (tell n fun k => if k = i then x else f k)[j]? = none := List.getElem?_eq_none (by rw [tell_len]; omega)
    rw [h1, h2, tell_len]
    split
    · rename_i e; subst e; rw [if_neg hj]
    · rfl
theorem tell_congr {n : Nat} {f g : Nat → Nat} (h : ∀ i, i < n → f i = g i) : tell n f = tell n g := by
  unfold tell
  exact List.map_congr_left fun i hi => h i (List.mem_range.1 hi)
theorem tell_swap {n : Nat} {f : Nat → Nat} {p q : Nat} : ((tell n f).set p (f q)).set q (f p) = tell n (swapF f p q) := by
  rw [tell_set, tell_set]
  refine tell_congr fun i _ => ?_
  unfold swapF
  rfl
/-- The places of gates and multiplexers among the first k. -/
def freeL (gs : List Gt) (k : Nat) : List Nat := (List.range k).filter fun i => ((gs[i]?).map fun g => decide (g.kind = 2 ∨ g.kind = 4)).getD false
theorem freeL_zero (gs : List Gt) : freeL gs 0 = [] := rfl
theorem freeL_yes {gs : List Gt} {k : Nat} {g : Gt} (hg : gs[k]? = some g) (h : g.kind = 2 ∨ g.kind = 4) : freeL gs (k + 1) = freeL gs k ++ [k] := by
  unfold freeL
  rw [List.range_succ, List.filter_append]
  simp [hg, h]
theorem freeL_no {gs : List Gt} {k : Nat} {g : Gt} (hg : gs[k]? = some g) (h2 : ¬ g.kind = 2) (h4 : ¬ g.kind = 4) : freeL gs (k + 1) = freeL gs k := by
  unfold freeL
  rw [List.range_succ, List.filter_append]
  simp [hg, h2, h4]
theorem freeL_mem {gs : List Gt} {k p : Nat} (h : p ∈ freeL gs k) : p < k ∧ ∀ g, gs[p]? = some g → ¬ (g.kind = 1 ∨ g.kind = 3) := by
  unfold freeL at h
  rw [List.mem_filter] at h
  refine ⟨List.mem_range.1 h.1, fun g hg => ?_⟩
  have h2 := h.2
  rw [hg] at h2
  simp at h2
  omega
theorem freeL_len (gs : List Gt) (k : Nat) : (freeL gs k).length ≤ k := by
  unfold freeL
  have := List.length_filter_le (fun i => ((gs[i]?).map fun g => decide (g.kind = 2 ∨ g.kind = 4)).getD false) (List.range k)
  rw [List.length_range] at this
  exact this
/-- The lines told so far. -/
def outG (gs : List Gt) (at_ inv : Nat → Nat) (v : Nat) : List Gt := (List.range gs.length).map fun j => if inv j < v then ((gs[inv j]?).map (moved at_)).getD ⟨0, ByteArray.empty, 0, 0, 0, 0⟩ else ⟨0, ByteArray.empty, 0, 0, 0, 0⟩
theorem outG_len (gs : List Gt) (at_ inv : Nat → Nat) (v : Nat) : (outG gs at_ inv v).length = gs.length := by simp [outG]
theorem outG_zero (gs : List Gt) (at_ inv : Nat → Nat) : outG gs at_ inv 0 = List.replicate gs.length ⟨0, ByteArray.empty, 0, 0, 0, 0⟩ := by
  apply List.ext_getElem (by simp [outG])
  intro i h1 h2
  simp [outG]
theorem outG_get {gs : List Gt} {at_ inv : Nat → Nat} {v j : Nat} (hj : j < gs.length) : (outG gs at_ inv v)[j]? = some (if inv j < v then ((gs[inv j]?).map (moved at_)).getD ⟨0, ByteArray.empty, 0, 0, 0, 0⟩ else ⟨0, ByteArray.empty, 0, 0, 0, 0⟩) := by
  unfold outG
  rw [List.getElem?_map, List.getElem?_range hj]
  rfl
theorem outG_succ {c : Ct} {at_ inv : Nat → Nat} (h : AtF c at_ inv) {v : Nat} {g : Gt} (hg : c.gs[v]? = some g) : outG c.gs at_ inv (v + 1) = (outG c.gs at_ inv v).set (at_ v) (moved at_ g) := by
  have hv := (List.getElem?_eq_some_iff.1 hg).1
  apply List.ext_getElem?
  intro j
  rw [List.getElem?_set]
  by_cases hj : j < c.gs.length
  · rw [outG_get hj, outG_get hj, outG_len]
    by_cases e : at_ v = j
    · subst e
      rw [if_pos rfl, if_pos hj, h.left v hv, if_pos (by omega), hg]
      rfl
    · rw [if_neg e]
      have hne : inv j ≠ v := fun e2 => e (by rw [← e2]; exact h.right j hj)
      by_cases h1 : inv j < v
      · rw [if_pos (by omega), if_pos h1]
      · rw [if_neg (by omega), if_neg h1]
  · have h1 : (outG c.gs at_ inv (v + 1))[j]? = none := List.getElem?_eq_none (by rw [outG_len]; omega)
    have h2 : (outG c.gs at_ inv v)[j]? = none := List.getElem?_eq_none (by rw [outG_len]; omega)
    rw [h1, h2, outG_len]
    split
    · rename_i e; rw [if_neg (by omega)]
    · rfl
theorem outG_shuf {c : Ct} {at_ inv : Nat → Nat} (h : AtF c at_ inv) : Shuf c at_ inv ⟨c.name, outG c.gs at_ inv c.gs.length, c.outs.map fun p => (at_ p.toNat : Int)⟩ :=
  ⟨rfl, outG_len _ _ _ _, h.lt, h.ilt, h.left, h.right, h.fix, fun i g hg => by
    have hi := (List.getElem?_eq_some_iff.1 hg).1
    show (outG c.gs at_ inv c.gs.length)[at_ i]? = _
    rw [outG_get (h.lt i hi), h.left i hi, if_pos hi, hg]
    rfl, rfl⟩
/-- A gate stored whole. -/
theorem gcells_put {g' : Gt} : ∀ {gs : List Gt} {i : Nat}, i < gs.length → ((((((gcells gs).set (i * 6) (.int .i64 g'.kind)).set (i * 6 + 1) (.string g'.name)).set (i * 6 + 2) (.int .i64 g'.op)).set (i * 6 + 3) (.int .i64 g'.a)).set (i * 6 + 4) (.int .i64 g'.b)).set (i * 6 + 5) (.int .i64 g'.c) = gcells (gs.set i g')
  | x :: l, 0, _ => by simp [gcells, Gt.cells]
  | x :: l, i + 1, h => by
    have ih := gcells_put (g' := g') (gs := l) (i := i) (by simpa using h)
    rw [List.set_cons_succ, gcells_cons, gcells_cons, ← ih]
    have hx : x.cells.length = 6 := rfl
    rw [List.set_append_right _ _ (by rw [hx]; omega), List.set_append_right _ _ (by rw [hx]; omega), List.set_append_right _ _ (by rw [hx]; omega), List.set_append_right _ _ (by rw [hx]; omega), List.set_append_right _ _ (by rw [hx]; omega), List.set_append_right _ _ (by rw [hx]; omega), hx]
    rw [show (i + 1) * 6 - 6 = i * 6 by omega, show (i + 1) * 6 + 1 - 6 = i * 6 + 1 by omega, show (i + 1) * 6 + 2 - 6 = i * 6 + 2 by omega, show (i + 1) * 6 + 3 - 6 = i * 6 + 3 by omega, show (i + 1) * 6 + 4 - 6 = i * 6 + 4 by omega, show (i + 1) * 6 + 5 - 6 = i * 6 + 5 by omega]
/-- A line that is not told yet. -/
def noGt : Gt := ⟨0, ByteArray.empty, 0, 0, 0, 0⟩
theorem run_makeGates (n : Nat) (h : n ≤ 1000) : ∀ w, (Instr.makeSlice 22 (.int .i64 (n : Int)) (.int .i64 (n : Int))).run Try.prog w = .ok (.slice (some ⟨w.heap.size, 0, none⟩) n n) (w.alloc (.cells (gcells (List.replicate n noGt)).toArray 33)) := by
  intro w
  obtain ⟨i, hi, hz, hs, hby⟩ := info_parts info_gate
  have hr := run_make (P := Try.prog) w 22 33 i _ Try.underlying22 hi hz .i64 .i64 n n (by omega) (by omega) (by rw [hby]; omega) (by omega)
  rw [hr, hs]
  simp only [Int.toNat_natCast]
  congr 3
  apply Array.ext
  · simp [size_madeCells, gcells_length]
  · intro k h1 h2
    rw [size_madeCells] at h1
    have hk : k / 6 < n := by omega
    have hg : (List.replicate n noGt)[k / 6]? = some noGt := by rw [List.getElem?_replicate, if_pos hk]
    have h3 := gcells_get hg (k % 6) (by omega)
    rw [show k / 6 * 6 + k % 6 = k by omega] at h3
    have h4 : (gcells (List.replicate n noGt)).toArray[k] = (gcells (List.replicate n noGt))[k]'(by simpa using h2) := by simp
    have h5 : (gcells (List.replicate n noGt))[k]? = some ((gcells (List.replicate n noGt))[k]'(by simpa using h2)) := List.getElem?_eq_getElem _
    rw [h4]
    rw [h5] at h3
    have h6 : (madeCells (Value.agg #[.int .i64 0, .string ByteArray.empty, .int .i64 0, .int .i64 0, .int .i64 0, .int .i64 0]).cells (n * 6))[k] = #[Value.int .i64 0, .string ByteArray.empty, .int .i64 0, .int .i64 0, .int .i64 0, .int .i64 0][k % 6]! := by
      simp [madeCells, Value.cells]
    rw [h6]
    have h7 : k % 6 < 6 := by omega
    generalize k % 6 = r at h3 h7 ⊢
    match r, h7 with
    | 0, _ => exact (Option.some.inj h3).symm
    | 1, _ => exact (Option.some.inj h3).symm
    | 2, _ => exact (Option.some.inj h3).symm
    | 3, _ => exact (Option.some.inj h3).symm
    | 4, _ => exact (Option.some.inj h3).symm
    | 5, _ => exact (Option.some.inj h3).symm
theorem rows_far {w : World} {base g size n c : Nat} {e : TypeId} {xs : List Value} (h : w.ownsRow base e size (.slice (some ⟨g, 0, none⟩) n c) n xs) {p : Addr} (hp : g ≠ p.block) (u : Value) : (w.setCell p u).ownsRow base e size (.slice (some ⟨g, 0, none⟩) n c) n xs :=
  World.ownsRow.kept h (only_setCell (only_refl w (some p.block)) (p := p) (.inl rfl) u) (.inr fun e2 => hp (Option.some.inj e2))
theorem rows_put {w : World} {base g n c i : Nat} {gs : List Gt} (h : w.ownsRow base 33 6 (.slice (some ⟨g, 0, none⟩) n c) n (gcells gs)) (hn : gs.length = n) (hi : i < n) (k0 : Int) (k1 : ByteArray) (k2 k3 k4 k5 : Int) :
    (∃ u, GCells w g (i * 6) u) ∧ w.frozen? ⟨g, i * 6, none⟩ = false ∧ w.frozen? ⟨g, i * 6 + 1, none⟩ = false ∧ w.frozen? ⟨g, i * 6 + 2, none⟩ = false ∧ w.frozen? ⟨g, i * 6 + 3, none⟩ = false ∧ w.frozen? ⟨g, i * 6 + 4, none⟩ = false ∧ w.frozen? ⟨g, i * 6 + 5, none⟩ = false ∧
    World.ownsRow ((((((w.setCell ⟨g, i * 6, none⟩ (.int .i64 k0)).setCell ⟨g, i * 6 + 1, none⟩ (.string k1)).setCell ⟨g, i * 6 + 2, none⟩ (.int .i64 k2)).setCell ⟨g, i * 6 + 3, none⟩ (.int .i64 k3)).setCell ⟨g, i * 6 + 4, none⟩ (.int .i64 k4)).setCell ⟨g, i * 6 + 5, none⟩ (.int .i64 k5)) base 33 6 (.slice (some ⟨g, 0, none⟩) n c) n (gcells (gs.set i ⟨k0, k1, k2, k3, k4, k5⟩)) := by
  have hl : (gcells gs).length = n * 6 := by rw [gcells_length, hn]
  obtain ⟨A', c', e7, hr7, _⟩ := rows_cells h (by decide)
  cases e7
  obtain ⟨u, hu⟩ : ∃ u, gs[i]? = some u := ⟨_, List.getElem?_eq_getElem (by omega)⟩
  obtain ⟨b8, o8, e8, hc8⟩ := greads_at hr7 hu
  cases e8
  rw [Nat.zero_add] at hc8
  obtain ⟨_, e, _, f0, r0⟩ := rows_store h (i := i * 6) (by rw [hl]; omega) (.int .i64 k0)
  cases e
  obtain ⟨_, e, _, f1, _⟩ := rows_store h (i := i * 6 + 1) (by rw [hl]; omega) (.string k1)
  cases e
  obtain ⟨_, e, _, f2, _⟩ := rows_store h (i := i * 6 + 2) (by rw [hl]; omega) (.int .i64 k2)
  cases e
  obtain ⟨_, e, _, f3, _⟩ := rows_store h (i := i * 6 + 3) (by rw [hl]; omega) (.int .i64 k3)
  cases e
  obtain ⟨_, e, _, f4, _⟩ := rows_store h (i := i * 6 + 4) (by rw [hl]; omega) (.int .i64 k4)
  cases e
  obtain ⟨_, e, _, f5, _⟩ := rows_store h (i := i * 6 + 5) (by rw [hl]; omega) (.int .i64 k5)
  cases e
  refine ⟨⟨u, hc8⟩, f0, f1, f2, f3, f4, f5, ?_⟩
  obtain ⟨_, e, _, _, r1⟩ := rows_store r0 (i := i * 6 + 1) (by rw [List.length_set, hl]; omega) (.string k1)
  cases e
  obtain ⟨_, e, _, _, r2⟩ := rows_store r1 (i := i * 6 + 2) (by rw [List.length_set, List.length_set, hl]; omega) (.int .i64 k2)
  cases e
  obtain ⟨_, e, _, _, r3⟩ := rows_store r2 (i := i * 6 + 3) (by rw [List.length_set, List.length_set, List.length_set, hl]; omega) (.int .i64 k3)
  cases e
  obtain ⟨_, e, _, _, r4⟩ := rows_store r3 (i := i * 6 + 4) (by rw [List.length_set, List.length_set, List.length_set, List.length_set, hl]; omega) (.int .i64 k4)
  cases e
  obtain ⟨_, e, _, _, r5⟩ := rows_store r4 (i := i * 6 + 5) (by rw [List.length_set, List.length_set, List.length_set, List.length_set, List.length_set, hl]; omega) (.int .i64 k5)
  cases e
  have := gcells_put (g' := ⟨k0, k1, k2, k3, k4, k5⟩) (gs := gs) (i := i) (by omega)
  dsimp only at this
  rwa [this] at r5
end Go.Proofs.Ytjkmoahnociaiaa
/- mark: a line's cone, told into a row. -/
namespace Go.Proofs.Ytjkmoahnociaiaa
open Go.RowKit

/-- The row when k of the list are told. -/
def markK (lv : List Bool) (n : Nat) (L : List Nat) (k : Nat) : List Bool := (List.range n).map fun i => lv.getD i false || decide (i ∈ L.take k)
theorem markK_len (lv : List Bool) (n : Nat) (L : List Nat) (k : Nat) : (markK lv n L k).length = n := by simp [markK]
theorem markK_zero {lv : List Bool} {n : Nat} (h : lv.length = n) (L : List Nat) : markK lv n L 0 = lv := by
  apply List.ext_getElem (by rw [markK_len, h])
  intro i h1 h2
  simp [markK, List.getD_eq_getElem?_getD, List.getElem?_eq_getElem h2]
theorem markK_get {lv : List Bool} {n : Nat} {L : List Nat} {k i : Nat} (hi : i < n) : (markK lv n L k)[i]? = some (lv.getD i false || decide (i ∈ L.take k)) := by
  unfold markK
  rw [List.getElem?_map, List.getElem?_range hi]
  rfl
theorem markK_succ {lv : List Bool} {n : Nat} {L : List Nat} {k p : Nat} (hp : L[k]? = some p) (hn : p < n) : markK lv n L (k + 1) = (markK lv n L k).set p true := by
  apply List.ext_getElem?
  intro j
  rw [List.getElem?_set]
  have ht : L.take (k + 1) = L.take k ++ [p] := by rw [List.take_add_one, hp]; rfl
  by_cases hj : j < n
  · rw [markK_get hj, markK_get hj, markK_len, ht]
    by_cases e : p = j
    · subst e
      simp [hn]
    · rw [if_neg e]
      congr 2
      have : ¬ j = p := fun e2 => e e2.symm
      simp [this]
  · rw [List.getElem?_eq_none (by rw [markK_len]; omega), List.getElem?_eq_none (l := markK lv n L k) (by rw [markK_len]; omega), markK_len]
    split
    · omega
    · rfl
theorem coneL_mem {gs : List Gt} {p i : Nat} : i ∈ coneL gs p ↔ i < gs.length ∧ (i = p ∨ Way (lnsOf gs) p i) := by
  unfold coneL
  rw [List.mem_filter, List.mem_range, coneB_iff]
theorem coneL_up {gs : List Gt} {p i j x y : Nat} (hij : i < j) (hx : (coneL gs p)[i]? = some x) (hy : (coneL gs p)[j]? = some y) : x < y := by
  have h : (coneL gs p).Pairwise (· < ·) := List.Pairwise.filter _ List.pairwise_lt_range
  rw [List.pairwise_iff_getElem] at h
  obtain ⟨h1, rfl⟩ := List.getElem?_eq_some_iff.1 hx
  obtain ⟨h2, rfl⟩ := List.getElem?_eq_some_iff.1 hy
  exact h i j h1 h2 hij
theorem MadeC.cone {c : Ct} (h : MadeC c) {p : Nat} (hp : p < c.gs.length) : coneCode c (p : Int) = 0 ∧ coneList c (p : Int) = coneL c.gs p := by
  have h1 : coneCode c (p : Int) = 0 := by
    unfold coneCode
    rw [if_pos h.formed, if_pos (by omega)]
  refine ⟨h1, ?_⟩
  unfold coneList
  rw [if_pos h1, Int.toNat_natCast]
theorem MadeC.size {c : Ct} (h : MadeC c) : SizeP c := ⟨by rw [h.name]; show (4 : Nat) ≤ maxLen; decide, fun g hg => by
    obtain ⟨k, hk⟩ := List.getElem?_of_mem hg
    rw [(h.lines k g hk).1]
    have h1 := (nameAt_ok (k := k) (by have := (List.getElem?_eq_some_iff.1 hk).1; have := h.le; omega)).2.1
    unfold maxLen
    omega, by have := h.le; unfold maxLen; omega, by have := h.ol; unfold maxLen; omega⟩
/-- Met already. -/
def metK (L : List Nat) (p k : Nat) : Bool := decide (p ∈ L.take k)
theorem metK_succ {L : List Nat} {p k x : Nat} (hx : L[k]? = some x) : metK L p (k + 1) = (metK L p k || decide (x = p)) := by
  have ht : L.take (k + 1) = L.take k ++ [x] := by rw [List.take_add_one, hx]; rfl
  unfold metK
  rw [ht, Bool.eq_iff_iff]
  simp only [List.mem_append, List.mem_singleton, decide_eq_true_eq, Bool.or_eq_true]
  constructor
  · rintro (h | h)
    · exact .inl h
    · exact .inr h.symm
  · rintro (h | h)
    · exact .inl h
    · exact .inr h.symm

set_option maxRecDepth 100000 in
set_option maxHeartbeats 4000000 in
theorem mark_any (cc : Ct) (hM : MadeC cc) (p : Nat) (lv : List Bool) (A B : Option Addr) (n m ca cb bv base : Nat) (w : World) (hA : CReads w A (gcells cc.gs)) (hB : Reads w .i64 B cc.outs) (hn : cc.gs.length = n) (hm : cc.outs.length = m) (hp : p < n) (hl : lv.length = n) (hv : Owns w base 4 (.slice (some ⟨bv, 0, none⟩) n n) (bools lv)) :
    Calls Try.prog 31 #[.agg #[.string cc.name, .slice A n ca, .slice B m cb], .int .i64 (p : Int), .slice (some ⟨bv, 0, none⟩) n n] w fun e w' => e = .returned (.bool true) ∧ Hid (Owns w' base 4 (.slice (some ⟨bv, 0, none⟩) n n) (bools (markK lv n (coneL cc.gs p) n))) ∧ w.grownBy w' (some bv) := by
  have hbl := below1 w (.cells #[.string cc.name, .slice A n ca, .slice B m cb] 25)
  have hcall := cone_any cc (p : Int) A B n m ca cb _ (hA.below hbl) (hB.below hbl) hM.size hn hm
  obtain ⟨hco, hls⟩ := hM.cone (p := p) (by omega)
  have hn200 : n ≤ 200 := by rw [← hn]; exact hM.le
  unfold ConeR at hcall
  rw [hco, hls] at hcall
  have HX := Lib.hid (Blk.new w 25 [.string cc.name, .slice A n ca, .slice B m cb])
  have HV := Lib.hid (hv.below hbl)
  have HG1 := Lib.hid (only_of_below hbl (some bv))
  have HN := Lib.hid hn; have HL := Lib.hid hl
  have HP : Hid (p ∈ coneL cc.gs p) := Lib.hid (coneL_mem.2 ⟨by omega, .inl rfl⟩)
  have HLT : Hid (∀ x ∈ coneL cc.gs p, x < n) := Lib.hid fun x hx => by rw [← hn]; exact (coneL_mem.1 hx).1
  have HUP : Hid (∀ (i j x y : Nat), i < j → (coneL cc.gs p)[i]? = some x → (coneL cc.gs p)[j]? = some y → x < y) := Lib.hid fun i j x y => coneL_up
  have hqn0 : (coneL cc.gs p).length ≤ n := by
    unfold coneL
    refine Nat.le_trans (List.length_filter_le _ _) ?_
    rw [List.length_range, hn]
    exact Nat.le_refl _
  have hbv : bv < w.heap.size := (hv.lt rfl).2
  have HB1 := Lib.hid hbl
  clear hA hB hn hm hl hv hbl hco hls hM
  obtain ⟨L, hLe⟩ : ∃ L, coneL cc.gs p = L := ⟨_, rfl⟩
  rw [hLe] at hcall HP HLT HUP ⊢
  obtain ⟨q, hq⟩ : ∃ q, L.length = q := ⟨_, rfl⟩
  have hq0 : 0 < q := by rw [← hq]; exact List.length_pos_of_mem HP.out
  have hqn : q ≤ n := by rw [← hq, ← hLe]; exact hqn0
  have HQ := Lib.hid hq
  clear hq
  go_enter Try.func31, Try.ntmps31
  go_upto_region 1 with (fail)
  change Code.wp _ _ _ _ (w.alloc (.cells #[.string cc.name, .slice A n ca, .slice B m cb] 25))
  generalize w.alloc (.cells #[.string cc.name, .slice A n ca, .slice B m cb] 25) = W1 at *
  obtain ⟨bx, hbx⟩ : ∃ bx, w.heap.size = bx := ⟨_, rfl⟩
  rw [hbx] at HX ⊢
  clear hbx
  have x0 : W1.cell? ⟨bx, 0, none⟩ = some (.string cc.name) := (HX.out.cell 0).trans rfl
  have x1 : W1.cell? ⟨bx, 1, none⟩ = some (.slice A n ca) := (HX.out.cell 1).trans rfl
  have x2 : W1.cell? ⟨bx, 2, none⟩ = some (.slice B m cb) := (HX.out.cell 2).trans rfl
  go_upto_region 2 with (go_at_call 9; with_reducible refine hcall.mono ?_; rintro e w2 ⟨v2, rfl, hO2, hb2⟩)
  obtain ⟨AL, cL, e2⟩ := hO2.form
  rw [ints_length, HQ.out] at e2
  subst e2
  have hsz : w.heap.size ≤ W1.heap.size := HB1.out.size
  have HO0 := Lib.hid hO2
  have HV0 : Hid (Owns w2 base 4 (.slice (some ⟨bv, 0, none⟩) n n) (bools (markK lv n L 0))) := Lib.hid (by rw [markK_zero HL.out]; exact HV.out.below hb2)
  have HG0 := Lib.hid (only_below HG1.out hb2)
  clear hO2 hb2 HV HG1 HB1 hcall x0 x1 x2 HX
  go_upto_region 6 with (fail)
  go_loopw [9, 10] (fun s9 s10 wr => ∃ k : Nat, k ≤ q ∧ s9 = .bool (metK L p k) ∧ s10 = .int .i64 k ∧ Hid (Owns wr base 4 (.slice (some ⟨bv, 0, none⟩) n n) (bools (markK lv n L k))) ∧ Hid (Owns wr W1.heap.size 3 (.slice AL q cL) (ints L)) ∧ Hid (w.grownBy wr (some bv))) (fun _ s10 _ => q - (intOf s10).toNat)
  case atStart => exact ⟨0, by omega, by simp [metK], rfl, HV0, HO0, HG0⟩
  case round =>
    clear HV0 HO0 HG0
    obtain ⟨k, hk, rfl, rfl, HV, HO, HG⟩ := hrel
    by_cases hlt : k < q
    · obtain ⟨x, hx⟩ : ∃ x, L[k]? = some x := ⟨_, List.getElem?_eq_getElem (by rw [HQ.out]; exact hlt)⟩
      have hxn : x < n := HLT.out x (List.mem_of_getElem? hx)
      obtain ⟨gL, e, hc⟩ := HO.out.first (ints_get hx)
      subst e
      obtain ⟨b1, b2, b3⟩ := HV.out.own (bools_get (markK_get hxn))
      have hrow := b3 (.bool true)
      rw [bools_set, ← markK_succ hx hxn] at hrow
      have hon := only_setCell (only_refl wr (some bv)) (p := ⟨bv, x, none⟩) (.inl rfl) (.bool true)
      have hne : gL ≠ bv := by
        have := (HO.out.lt (g := gL) rfl).1
        omega
      have HVn := Lib.hid hrow
      have HOn := Lib.hid (HO.out.kept hon (.inr fun e => hne (Option.some.inj e)))
      have HGn := Lib.hid (only_trans HG.out hon)
      have hmk := metK_succ (p := p) hx
      obtain ⟨mb, hmb⟩ : ∃ mb, metK L p k = mb := ⟨_, rfl⟩
      rw [hmb] at hmk ⊢
      obtain ⟨old, hold⟩ : ∃ old, (lv.getD x false || decide (x ∈ L.take k)) = old := ⟨_, rfl⟩
      rw [hold] at b1
      have hk0 : (0 : Int) ≤ (k : Int) := by omega
      have hkq : (k : Int) < (q : Int) := by omega
      have d1 : decide ((x : Int) < 0) = false := by simp
      have d2 : decide ((n : Int) ≤ (x : Int)) = false := by simp; omega
      have h1 : ¬ (x : Int) < 0 := by omega
      have h2 : ¬ (n : Int) ≤ (x : Int) := by omega
      have h3 : (0 : Int) ≤ (x : Int) := by omega
      have h4 : (x : Int) < (n : Int) := by omega
      have hwk : IntKind.i64.wrap ((k : Int) + 1) = (k : Int) + 1 := by rw [IntKind.wrap_i64]; omega
      clear b3 hrow hon hold hmb HV HG
      by_cases hz : k = 0
      · subst hz
        clear hx
        go_upto_region 8 with (fail)
        go_quiet (fail)
        all_goals
          cases mb
          · by_cases hxp : x = p
            · subst hxp
              simp only [Bool.false_or, decide_true] at hmk
              go_wp2
              go_roundw
              case rel => exact ⟨0 + 1, by omega, by simp [hmk], by go_num, HVn, HOn, Lib.hid (only_drewN HGn.out _)⟩
              case measure => simp [intOf]; omega
            · have e1 : ¬ (x : Int) = (p : Int) := by omega
              have e2 : ((x : Int) == (p : Int)) = false := by simpa using e1
              have e3 : (x == p) = false := by simpa using hxp
              simp only [Bool.false_or, hxp, decide_false] at hmk
              go_wp2
              go_roundw
              case rel => exact ⟨0 + 1, by omega, by simp [hmk], by go_num, HVn, HOn, Lib.hid (only_drewN HGn.out _)⟩
              case measure => simp [intOf]; omega
          · simp only [Bool.true_or] at hmk
            go_wp2
            go_roundw
            case rel => exact ⟨0 + 1, by omega, by simp [hmk], by go_num, HVn, HOn, Lib.hid (only_drewN HGn.out _)⟩
            case measure => simp [intOf]; omega
      · obtain ⟨y, hy⟩ : ∃ y, L[k - 1]? = some y := ⟨_, List.getElem?_eq_getElem (by rw [HQ.out]; omega)⟩
        have hyx := HUP.out (k - 1) k y x (by omega) hy hx
        obtain ⟨_, e, hc2⟩ := HO.out.first (ints_get hy)
        cases e
        have hk1 : (0 : Int) < (k : Int) := by omega
        have ewk : IntKind.i64.wrap ((k : Int) - 1) = (k : Int) - 1 := by rw [IntKind.wrap_i64]; omega
        have hk2 : (0 : Int) ≤ (k : Int) - 1 := by omega
        have hk3 : (k : Int) - 1 < (q : Int) := by omega
        have hnt : ((k : Int) - 1).toNat = k - 1 := by omega
        have d3 : decide ((x : Int) ≤ (y : Int)) = false := by simp; omega
        have d4 : decide ((0 : Int) < (k : Int)) = true := by simp; omega
        have h5 : ¬ (x : Int) ≤ (y : Int) := by omega
        have h6 : ¬ x ≤ y := by omega
        have h7 : 0 < k := by omega
        have d5 : decide (x ≤ y) = false := by simp; omega
        clear hx hy hyx
        go_upto_region 8 with (fail)
        go_quiet (fail)
        all_goals
          cases mb
          · by_cases hxp : x = p
            · subst hxp
              simp only [Bool.false_or, decide_true] at hmk
              go_wp2
              go_roundw
              case rel => exact ⟨k + 1, by omega, by simp [hmk], by go_num, HVn, HOn, Lib.hid (only_drewN HGn.out _)⟩
              case measure => simp [intOf]; omega
            · have e1 : ¬ (x : Int) = (p : Int) := by omega
              have e2 : ((x : Int) == (p : Int)) = false := by simpa using e1
              have e3 : (x == p) = false := by simpa using hxp
              simp only [Bool.false_or, hxp, decide_false] at hmk
              go_wp2
              go_roundw
              case rel => exact ⟨k + 1, by omega, by simp [hmk], by go_num, HVn, HOn, Lib.hid (only_drewN HGn.out _)⟩
              case measure => simp [intOf]; omega
          · simp only [Bool.true_or] at hmk
            go_wp2
            go_roundw
            case rel => exact ⟨k + 1, by omega, by simp [hmk], by go_num, HVn, HOn, Lib.hid (only_drewN HGn.out _)⟩
            case measure => simp [intOf]; omega
    · obtain rfl : k = q := by omega
      have hmq : metK L p k = true := by
        unfold metK
        rw [List.take_of_length_le (by rw [HQ.out]; exact Nat.le_refl _)]
        exact decide_eq_true HP.out
      rw [hmq]
      have HVn : Hid (Owns wr base 4 (.slice (some ⟨bv, 0, none⟩) n n) (bools (markK lv n L n))) := Lib.hid (by
        have e : markK lv n L n = markK lv n L k := by
          unfold markK
          rw [List.take_of_length_le (by rw [HQ.out]; exact hqn), List.take_of_length_le (by rw [HQ.out]; exact Nat.le_refl _)]
        rw [e]
        exact HV.out)
      clear HV HO
      go_wp2
      exact bodyPost_ret (v := .bool true) (by simp [results, Try.results31, go_sem]) rfl ⟨rfl, HVn, HG.out⟩
end Go.Proofs.Ytjkmoahnociaiaa
/- CircuitBlind, plain: what is told live, and the circuit whose dead gates are turned. -/
namespace Go.Proofs.Ytjkmoahnociaiaa
open Go.RowKit

/-- What lies in the cone of one of these places. -/
noncomputable def liveK (gs : List Gt) (n : Nat) (ps : List Nat) : List Bool := (List.range n).map fun i => ps.any fun p => decide (i ∈ coneL gs p)
theorem liveK_len (gs : List Gt) (n : Nat) (ps : List Nat) : (liveK gs n ps).length = n := by simp [liveK]
theorem liveK_nil (gs : List Gt) (n : Nat) : liveK gs n [] = List.replicate n false := by
  apply List.ext_getElem (by simp [liveK])
  intro i h1 h2
  simp [liveK]
theorem liveK_at {gs : List Gt} {n : Nat} {ps : List Nat} {i : Nat} (hi : i < n) : (liveK gs n ps)[i]? = some (ps.any fun p => decide (i ∈ coneL gs p)) := by
  unfold liveK
  rw [List.getElem?_map, List.getElem?_range hi]
  rfl
theorem liveK_mark {gs : List Gt} {n : Nat} (hn : gs.length = n) (ps : List Nat) (p : Nat) : markK (liveK gs n ps) n (coneL gs p) n = liveK gs n (ps ++ [p]) := by
  have hl : (coneL gs p).length ≤ n := by
    unfold coneL
    refine Nat.le_trans (List.length_filter_le _ _) ?_
    rw [List.length_range, hn]
    exact Nat.le_refl _
  apply List.ext_getElem?
  intro i
  by_cases hi : i < n
  · rw [markK_get hi, liveK_at hi, List.getD_eq_getElem?_getD, liveK_at hi, List.take_of_length_le hl, List.any_append]
    simp
  · rw [List.getElem?_eq_none (by rw [markK_len]; omega), List.getElem?_eq_none (by rw [liveK_len]; omega)]
theorem liveK_true {gs : List Gt} {n : Nat} (hn : gs.length = n) {ps : List Nat} {i : Nat} : (liveK gs n ps).getD i false = true ↔ i < n ∧ InCone gs ps i := by
  rw [List.getD_eq_getElem?_getD]
  by_cases hi : i < n
  · rw [liveK_at hi]
    simp only [Option.getD_some, List.any_eq_true, decide_eq_true_eq]
    unfold InCone
    constructor
    · rintro ⟨p, hp, h⟩
      exact ⟨hi, p, hp, (coneL_mem.1 h).2⟩
    · rintro ⟨_, p, hp, h⟩
      exact ⟨p, hp, coneL_mem.2 ⟨by omega, h⟩⟩
  · rw [List.getElem?_eq_none (by rw [liveK_len]; omega)]
    simp [hi]
theorem live_closed {c : Ct} {n : Nat} {ps : List Nat} (hM : MadeC c) (hn : c.gs.length = n) (ho : ∀ q ∈ c.outs, q.toNat ∈ ps) (hl : ∀ (i : Nat) (g : Gt), c.gs[i]? = some g → g.kind = 3 → g.a.toNat ∈ ps) : Closed c (fun i => (liveK c.gs n ps).getD i false = true) := by
  refine ⟨fun q hq => ?_, fun i g hg hk => ?_, fun i g hg hS p hp => ?_⟩
  · have := hM.outs q hq
    exact (liveK_true hn).2 ⟨by omega, q.toNat, ho q hq, .inl rfl⟩
  · have hf := (hM.lines i g hg).2
    have hi := (List.getElem?_eq_some_iff.1 hg).1
    unfold FieldsK PlaceP at hf
    exact (liveK_true hn).2 ⟨by omega, g.a.toNat, hl i g hg hk, .inl rfl⟩
  · have hp2 := hM.leans hg p hp
    have h1 := (liveK_true hn).1 hS
    exact (liveK_true hn).2 ⟨by omega, InCone.leans hg h1.2 hp⟩
/-- The dead gates among the first k, turned. -/
def deadG (gs : List Gt) (S : Nat → Bool) (k : Nat) : List Gt := gs.mapIdx fun i g => if i < k ∧ S i = false ∧ g.kind = 2 then { g with op := 15 - g.op } else g
theorem deadG_len (gs : List Gt) (S : Nat → Bool) (k : Nat) : (deadG gs S k).length = gs.length := by simp [deadG]
theorem deadG_at {gs : List Gt} {S : Nat → Bool} {k i : Nat} {g : Gt} (hg : gs[i]? = some g) : (deadG gs S k)[i]? = some (if i < k ∧ S i = false ∧ g.kind = 2 then { g with op := 15 - g.op } else g) := by
  unfold deadG
  rw [List.getElem?_mapIdx, hg]
  rfl
theorem deadG_here {gs : List Gt} {S : Nat → Bool} {k : Nat} {g : Gt} (hg : gs[k]? = some g) : (deadG gs S k)[k]? = some g := by
  rw [deadG_at hg, if_neg (by omega)]
theorem deadG_zero (gs : List Gt) (S : Nat → Bool) : deadG gs S 0 = gs := by
  apply List.ext_getElem?
  intro i
  unfold deadG
  rw [List.getElem?_mapIdx]
  cases gs[i]? <;> simp
theorem deadG_set {gs : List Gt} {S : Nat → Bool} {k : Nat} {g : Gt} (hg : gs[k]? = some g) : deadG gs S (k + 1) = (deadG gs S k).set k (if S k = false ∧ g.kind = 2 then { g with op := 15 - g.op } else g) := by
  have hk := (List.getElem?_eq_some_iff.1 hg).1
  apply List.ext_getElem?
  intro i
  rw [List.getElem?_set, deadG_len]
  by_cases e : k = i
  · subst e
    rw [if_pos rfl, if_pos hk, deadG_at hg]
    congr 1
    simp
  · rw [if_neg e]
    by_cases hi : i < gs.length
    · rw [deadG_at (List.getElem?_eq_getElem hi), deadG_at (List.getElem?_eq_getElem hi)]
      congr 1
      have : (i < k + 1) ↔ (i < k) := by omega
      simp only [this]
    · rw [List.getElem?_eq_none (by rw [deadG_len]; omega), List.getElem?_eq_none (by rw [deadG_len]; omega)]
theorem deadG_yes {gs : List Gt} {S : Nat → Bool} {k : Nat} {g : Gt} (hg : gs[k]? = some g) (hS : S k = false) (h2 : g.kind = 2) : deadG gs S (k + 1) = (deadG gs S k).set k { g with op := 15 - g.op } := by
  rw [deadG_set hg, if_pos ⟨hS, h2⟩]
theorem deadG_no {gs : List Gt} {S : Nat → Bool} {k : Nat} {g : Gt} (hg : gs[k]? = some g) (h : ¬ (S k = false ∧ g.kind = 2)) : deadG gs S (k + 1) = deadG gs S k := by
  rw [deadG_set hg, if_neg h]
  apply List.ext_getElem?
  intro j
  rw [List.getElem?_set]
  split
  · rename_i e
    subst e
    rw [if_pos (List.getElem?_eq_some_iff.1 (deadG_here hg)).1, deadG_here hg]
  · rfl
theorem deadG_dead (name : ByteArray) (gs : List Gt) (outs : List Int) (S : Nat → Bool) {n : Nat} (hn : gs.length = n) : Dead ⟨name, gs, outs⟩ (fun i => S i = true) ⟨name, deadG gs S n, outs⟩ :=
  ⟨rfl, rfl, deadG_len _ _ _, fun i g hg => by
    have hi := (List.getElem?_eq_some_iff.1 hg).1
    dsimp only at hg hi
    rw [deadG_at hg]
    by_cases h : S i = false ∧ g.kind = 2
    · rw [if_pos ⟨by omega, h⟩]
      exact .inr ⟨by rw [h.1]; exact Bool.false_ne_true, h.2, rfl⟩
    · rw [if_neg (fun h2 => h h2.2)]
      exact .inl rfl⟩
end Go.Proofs.Ytjkmoahnociaiaa
