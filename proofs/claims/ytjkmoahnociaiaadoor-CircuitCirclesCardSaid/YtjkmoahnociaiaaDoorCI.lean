/- A gate of a made circuit that is made to lean on another: circles, and where they are told. No program in sight. -/
import Derived.Test.YtjkmoahnociaiaaDoorPL
import Derived.Test.YtjkmoahnociaiaaDoorMDD
import Derived.Test.YtjkmoahnociaiaaDoorXG
namespace Go.Proofs.YtjkmoahnociaiaaDoor

theorem coneL_mem {gs : List Gt} {p i : Nat} : i ∈ coneL gs p ↔ i < gs.length ∧ (i = p ∨ Way (lnsOf gs) p i) := by
  unfold coneL
  rw [List.mem_filter, List.mem_range, coneB_iff]
section
variable {f g : Nat → List Nat} {x y b : Nat}
theorem way_dec (hf : ∀ i, ∀ p ∈ f i, p < i) {i j : Nat} (h : Way f i j) : j < i := by
  induction h with
  | one h => exact hf _ _ h
  | more h _ ih => exact Nat.lt_trans ih (hf _ _ h)
theorem way_keep (hf : ∀ i, ∀ p ∈ f i, p < i) (hg : ∀ i, i ≠ x → g i = f i) {i j : Nat} (h : Way f i j) : j = x → Way g i x := by
  induction h with
  | one h =>
    intro e
    subst e
    have := hf _ _ h
    exact .one (by rw [hg _ (by omega)]; exact h)
  | more h t ih =>
    intro e
    subst e
    have h1 := hf _ _ h
    have h2 := way_dec hf t
    exact .more (by rw [hg _ (by omega)]; exact h) (ih rfl)
theorem way_circ (hf : ∀ i, ∀ p ∈ f i, p < i) (hg : ∀ i, i ≠ x → g i = f i) (hy : y ∈ g x) (h : x = y ∨ Way f y x) : Way g x x := by
  rcases h with rfl | h
  · exact .one hy
  · exact .more hy (way_keep hf hg h rfl)
theorem way_low (hf : ∀ i, ∀ p ∈ f i, p < i) (hg : ∀ i, i ≠ x → g i = f i) {i j : Nat} (h : Way g i j) : i < x → j < i := by
  induction h with
  | one h => intro hi; rw [hg _ (by omega)] at h; exact hf _ _ h
  | more h _ ih =>
    intro hi
    rw [hg _ (by omega)] at h
    have := hf _ _ h
    have := ih (by omega)
    omega
theorem free_off (hf : ∀ i, ∀ p ∈ f i, p < i) (hg : ∀ i, i ≠ x → g i = f i) : ∀ i, i ≠ x → ¬ Way f i x → Free g i := by
  intro i
  induction i using Nat.strongRecOn with
  | _ i ih =>
    intro hx hw
    refine Acc.intro _ fun p hp => ?_
    rw [hg _ hx] at hp
    exact ih p (hf _ _ hp) (fun e => hw (e ▸ .one hp)) (fun t => hw (.more hp t))
theorem free_new (hf : ∀ i, ∀ p ∈ f i, p < i) (hg : ∀ i, i ≠ x → g i = f i) (hx : ∀ p ∈ g x, p = y ∨ p < x) (hy : ¬ (x = y ∨ Way f y x)) : ∀ i, Free g i := by
  have hfx : Free g x := by
    refine Acc.intro _ fun p hp => ?_
    rcases hx p hp with rfl | hlt
    · exact free_off hf hg _ (fun e => hy (.inl e.symm)) (fun t => hy (.inr t))
    · exact free_off hf hg _ (by omega) (fun t => by have := way_dec hf t; omega)
  intro i
  induction i using Nat.strongRecOn with
  | _ i ih =>
    by_cases e : i = x
    · rw [e]; exact hfx
    · refine Acc.intro _ fun p hp => ?_
      rw [hg _ e] at hp
      exact ih p (hf _ _ hp)
end
/-- A gate's first operand turned. -/
def Gt.leanOn (g : Gt) (y : Nat) : Gt := { g with a := (y : Int) }
def Ct.leanOn (c : Ct) (x y : Nat) (g : Gt) : Ct := { c with gs := c.gs.set x (g.leanOn y) }
section
variable {c : Ct} {x y : Nat} {g : Gt}
theorem lnsOf_set {gs : List Gt} {x : Nat} {g : Gt} : ∀ i, i ≠ x → lnsOf (gs.set x g) i = lnsOf gs i := fun i hi => by
  unfold lnsOf
  rw [List.getElem?_set_ne (fun e => hi e.symm)]
theorem lns_dec (h : MadeC c) : ∀ i, ∀ p ∈ lnsOf c.gs i, p < i := fun i p hp => by
  cases hg : c.gs[i]? with
  | none =>
    unfold lnsOf at hp
    rw [hg] at hp
    cases hp
  | some g =>
    rw [lnsOf_at hg] at hp
    exact h.leans hg p hp
theorem lns_new (hg : c.gs[x]? = some g) (hk : g.kind = 2) : lnsOf (c.leanOn x y g).gs x = [y, g.b.toNat] := by
  have hx := (List.getElem?_eq_some_iff.1 hg).1
  have h1 : (c.leanOn x y g).gs[x]? = some (g.leanOn y) := by
    show (c.gs.set x _)[x]? = _
    rw [List.getElem?_set_self hx]
  rw [lnsOf_at h1]
  unfold Gt.lns Gt.leans Gt.leanOn
  dsimp only
  rw [if_pos hk]
  simp
theorem leanOn_net (h : MadeC c) (hg : c.gs[x]? = some g) (hk : g.kind = 2) (hy : y < c.gs.length) : NetP (c.leanOn x y g) := by
  have hF := h.formed
  have hx := (List.getElem?_eq_some_iff.1 hg).1
  have hl : (c.leanOn x y g).gs.length = c.gs.length := List.length_set
  have hnm : (c.leanOn x y g).gs.map Gt.name = c.gs.map Gt.name := by
    show (c.gs.set x (g.leanOn y)).map Gt.name = _
    apply List.ext_getElem?
    intro i
    rw [List.getElem?_map, List.getElem?_map, List.getElem?_set]
    by_cases e : x = i
    · rw [if_pos e, if_pos hx, ← e, hg]; rfl
    · rw [if_neg e]
  refine ⟨hF.name, by rw [hl]; exact hF.gl, hF.ol, fun k hk' => ?_, by rw [hnm]; exact hF.nd, by rw [hl]; exact hF.outs⟩
  rw [hl]
  rcases List.mem_or_eq_of_mem_set hk' with hm | rfl
  · exact hF.lines k hm
  · have h1 := hF.lines g (List.mem_of_getElem? hg)
    refine ⟨h1.1, ?_⟩
    have h2 := h1.2
    unfold Gt.leanOn
    unfold FieldsP PlaceP at h2 ⊢
    dsimp only
    omega
theorem lean_is (h : MadeC c) (hg : c.gs[x]? = some g) (hk : g.kind = 2) (hl : x ∈ coneL c.gs y) : circOf (c.leanOn x y g).gs = (x : Int) ∧ ¬ FormedP (c.leanOn x y g) := by
  have hw := (coneL_mem.1 hl).2
  have hx := (List.getElem?_eq_some_iff.1 hg).1
  have hc : Way (lnsOf (c.leanOn x y g).gs) x x := way_circ (lns_dec h) lnsOf_set (by rw [lns_new hg hk]; simp) hw
  have hlen : (c.leanOn x y g).gs.length = c.gs.length := List.length_set
  refine ⟨circOf_eq (.inr ⟨x, by rw [hlen]; exact hx, rfl, hc, fun j hj t => ?_⟩), fun hF => circ_not_free hc (hF.free x (by rw [hlen]; exact hx))⟩
  have := way_low (lns_dec h) lnsOf_set t hj
  omega
theorem lean_not (h : MadeC c) (hg : c.gs[x]? = some g) (hk : g.kind = 2) (hy : y < c.gs.length) (hl : ¬ x ∈ coneL c.gs y) : FormedP (c.leanOn x y g) := by
  have hx := (List.getElem?_eq_some_iff.1 hg).1
  have hN := leanOn_net h hg hk hy
  refine ⟨hN.name, hN.gl, hN.ol, hN.lines, hN.nd, hN.outs, fun i _ => ?_⟩
  refine free_new (lns_dec h) lnsOf_set (fun p hp => ?_) (fun t => hl (coneL_mem.2 ⟨hx, t⟩)) i
  have hp2 : p ∈ lnsOf (c.leanOn x y g).gs x := hp
  rw [lns_new hg hk] at hp2
  simp only [List.mem_cons, List.not_mem_nil, or_false] at hp2
  rcases hp2 with e | e
  · exact .inl e
  · right
    have := (h.lines x g hg).2
    unfold FieldsK PlaceP at this
    omega
end
/-! Where a line's name stands. -/
theorem joinL_good : ∀ {ws : List ByteArray}, (∀ w ∈ ws, GoodW w) → ws ≠ [] → 10 ∉ joinL ws ∧ Txt (joinL ws) ws
  | [w], h, _ => by
    have hw := h w (by simp)
    rw [joinL_one]
    refine ⟨fun hm => (hw.2 10 hm).2 rfl, ?_⟩
    have h1 := Txt.word hw.1 (fun c hc => (hw.2 c hc).1) (.inl rfl) Txt.nil
    rw [word_data] at h1
    simpa using h1
  | w :: x :: ws, h, _ => by
    have hw := h w (by simp)
    have ih := joinL_good (ws := x :: ws) (fun v hv => h v (List.mem_cons_of_mem _ hv)) (by simp)
    rw [joinL_cons]
    refine ⟨fun hm => ?_, ?_⟩
    · rcases List.mem_append.1 hm with hm | hm
      · exact (hw.2 10 hm).2 rfl
      · rcases List.mem_cons.1 hm with e | hm
        · cases e
        · exact ih.1 hm
    · have h1 := Txt.word hw.1 (fun c hc => (hw.2 c hc).1) (.inr ⟨32, _, rfl, by decide⟩) (Txt.blank (c := 32) (by decide) ih.2)
      rw [word_data] at h1
      exact h1
theorem linesL_docs : ∀ {docs : List (List ByteArray)}, (∀ ws ∈ docs, (∀ w ∈ ws, GoodW w) ∧ ws ≠ []) → linesL (docs.flatMap lineL) = docs.map joinL ++ [[]]
  | [], _ => rfl
  | ws :: docs, h => by
    have h1 := h ws (by simp)
    have e : ((ws :: docs).flatMap lineL) = joinL ws ++ 10 :: docs.flatMap lineL := by simp [lineL]
    rw [e, linesL_append (joinL_good h1.1 h1.2).1, linesL_docs (fun v hv => h v (List.mem_cons_of_mem _ hv))]
    rfl
theorem dlines_at : ∀ (ls : List ByteArray) (i k : Nat) (l : ByteArray), (∀ j, j ≤ k → ∀ v, ls[j]? = some v → (splitW v).1 ≠ []) → ls[k]? = some l → ∃ y, (dlines ls i)[k]? = some (y, (splitW l).1, ((i + k + 1 : Nat) : Int), (splitW l).2)
  | [], i, k, l, _, h => by cases h
  | v :: ls, i, k, l, hne, h => by
    have h0 := hne 0 (Nat.zero_le _) v rfl
    unfold dlines
    cases hw : (splitW v).1 with
    | nil => exact absurd hw h0
    | cons y t =>
      match k, h with
      | 0, h =>
        cases h
        exact ⟨y, by rw [hw]; rfl⟩
      | k + 1, h =>
        obtain ⟨y', e⟩ := dlines_at ls (i + 1) k l (fun j hj u hu => hne (j + 1) (by omega) u hu) h
        exact ⟨y', by show (dlines ls (i + 1))[k]? = _; rw [e, show i + 1 + k + 1 = i + (k + 1) + 1 by omega]⟩
theorem gate_col {nm : ByteArray} {ws : List ByteArray} (hn : GoodW nm) (hg : GoodW wGate) (l : ByteArray) (hl : l.data.toList = joinL (wGate :: nm :: ws)) : ∃ t, (splitW l).1[1]? = some ⟨t, 6⟩ := by
  unfold splitW
  have hsz : l.size = (joinL (wGate :: nm :: ws)).length := by rw [← hl, Array.length_toList]; rfl
  have hj : ∃ t, joinL (nm :: ws) = nm.data.toList ++ t ∧ (t = [] ∨ ∃ c u, t = c :: u ∧ stopC c = true) := by
    cases ws with
    | nil => exact ⟨[], by rw [joinL_one, List.append_nil], .inl rfl⟩
    | cons x ws => exact ⟨_, joinL_cons _ _ _, .inr ⟨32, _, rfl, by decide⟩⟩
  obtain ⟨t, ht, hs⟩ := hj
  rw [hsz, hl, joinL_cons, splitL_word hg.1 (fun c hc => (hg.2 c hc).1) (.inr ⟨32, _, rfl, by decide⟩)]
  have hlen : (wGate.data.toList ++ 32 :: joinL (nm :: ws)).length = (joinL (nm :: ws)).length + 5 := by
    rw [List.length_append, List.length_cons]
    show 4 + _ = _
    omega
  rw [hlen]
  show ∃ t, (splitL _ (0 + 4) _ _).1[0]? = some ⟨t, 6⟩
  rw [show (joinL (nm :: ws)).length + 5 = (joinL (nm :: ws)).length + 3 + 1 + 1 by omega, splitL_blank (by decide), ht, splitL_word hn.1 (fun c hc => (hn.2 c hc).1) hs]
  exact ⟨_, rfl⟩
theorem spot_gate {text : ByteArray} {c : Ct} (hN : NetP c) (ht : text.data.toList = textL c) {x : Nat} {g : Gt} (hg : c.gs[x]? = some g) (hk : g.kind = 2) : (((dlines (linesOf text) 0).drop 1).map spotOf)[x]? = some (((x + 2 : Nat) : Int), 6) := by
  have hgood := words_good hN
  have hls : (linesOf text).map (·.data.toList) = (docL c).map joinL ++ [[]] := by rw [linesOf_data, ht, textL_doc, linesL_docs hgood]
  have hx := (List.getElem?_eq_some_iff.1 hg).1
  have hdoc : (docL c)[x + 1]? = some (wordsG c.gs g) := by
    unfold docL
    rw [List.getElem?_cons_succ, List.getElem?_append_left (by rw [List.length_map]; exact hx), List.getElem?_map, hg]
    rfl
  have hdl : (docL c).length ≥ x + 2 := by
    have := (List.getElem?_eq_some_iff.1 hdoc).1
    omega
  have hline : ∀ j, j ≤ x + 1 → ∀ v, (linesOf text)[j]? = some v → ∃ ws, (docL c)[j]? = some ws ∧ v.data.toList = joinL ws := fun j hj v hv => by
    have h1 : ((linesOf text).map (·.data.toList))[j]? = some v.data.toList := by rw [List.getElem?_map, hv]; rfl
    rw [hls, List.getElem?_append_left (by rw [List.length_map]; omega), List.getElem?_map] at h1
    cases hd : (docL c)[j]? with
    | none => rw [hd] at h1; cases h1
    | some ws =>
      rw [hd] at h1
      exact ⟨ws, rfl, (Option.some.inj h1).symm⟩
  have hne : ∀ j, j ≤ x + 1 → ∀ v, (linesOf text)[j]? = some v → (splitW v).1 ≠ [] := fun j hj v hv e => by
    obtain ⟨ws, hw, hv2⟩ := hline j hj v hv
    have h1 := hgood ws (List.mem_of_getElem? hw)
    have h2 := (joinL_good h1.1 h1.2).2 (v.size + 1) 0 1 (by rw [← hv2, Array.length_toList]; exact Nat.le_refl _)
    unfold splitW at e
    rw [← hv2] at h2
    rw [e] at h2
    exact h1.2 h2.symm
  have hlen : (linesOf text).length = (docL c).length + 1 := by
    have := congrArg List.length hls
    simpa using this
  obtain ⟨l, hl⟩ : ∃ l, (linesOf text)[x + 1]? = some l := ⟨_, List.getElem?_eq_getElem (by omega)⟩
  obtain ⟨y, hy⟩ := dlines_at (linesOf text) 0 (x + 1) l hne hl
  obtain ⟨ws, hw, hv⟩ := hline (x + 1) (Nat.le_refl _) l hl
  rw [hdoc] at hw
  cases hw
  have hwg : wordsG c.gs g = wGate :: g.name :: [opW g.op, nmOf c.gs g.a, nmOf c.gs g.b] := by
    unfold wordsG
    rw [if_neg (by omega), if_pos hk]
  have hgn := hgood (wordsG c.gs g) (List.mem_of_getElem? hdoc)
  rw [hwg] at hv hgn
  obtain ⟨t, hc⟩ := gate_col (hgn.1 g.name (by simp)) (hgn.1 wGate (by simp)) l hv
  rw [List.getElem?_map, List.getElem?_drop, Nat.add_comm 1 x, hy]
  show some (spotOf _) = _
  unfold spotOf
  dsimp only
  rw [hc]
  simp
  omega
/-- What the reader tells of the turned circuit's text. -/
theorem lean_told {text : ByteArray} {c : Ct} {x y : Nat} {g : Gt} (h : MadeC c) (hg : c.gs[x]? = some g) (hk : g.kind = 2) (hy : y < c.gs.length) (hs : text.size ≤ 1048576) (ht : text.data.toList = textL (c.leanOn x y g)) (hl : x ∈ coneL c.gs y) :
    parseOut text = Out.bad (143, ((x + 2 : Nat) : Int), 6) := by
  have hN := leanOn_net h hg hk hy
  have hx := (List.getElem?_eq_some_iff.1 hg).1
  have h1 : (c.leanOn x y g).gs[x]? = some (g.leanOn y) := by
    show (c.gs.set x _)[x]? = _
    rw [List.getElem?_set_self hx]
  rw [read_back hs hN rfl (fill_texts hN (by rw [ht]; exact fill_refl _)), (lean_is h hg hk hl).1, if_pos (by omega)]
  have := spot_gate hN ht h1 hk
  rw [Int.toNat_natCast, List.getD_eq_getElem?_getD, this]
  rfl
theorem lean_read {text : ByteArray} {c : Ct} {x y : Nat} {g : Gt} (h : MadeC c) (hg : c.gs[x]? = some g) (hk : g.kind = 2) (hy : y < c.gs.length) (hs : text.size ≤ 1048576) (ht : text.data.toList = textL (c.leanOn x y g)) (hl : ¬ x ∈ coneL c.gs y) :
    parseOut text = ⟨(0, 0, 0), (c.leanOn x y g).name, (c.leanOn x y g).gs, (c.leanOn x y g).outs⟩ := fill_back hs (lean_not h hg hk hy hl) (by rw [ht]; exact fill_refl _)
end Go.Proofs.YtjkmoahnociaiaaDoor
