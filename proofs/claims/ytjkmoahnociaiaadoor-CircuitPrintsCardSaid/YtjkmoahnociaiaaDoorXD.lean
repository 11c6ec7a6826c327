/- Formed of circuit. -/
import Derived.Test.YtjkmoahnociaiaaDoorXC
import Derived.Maps.Own
import Derived.Maps.Views
namespace Go.Proofs.YtjkmoahnociaiaaDoor
open Go.RowKit Go.WideMaps Go.Maps

/-- A map from texts to numbers that the call made, and what it answers. -/
def MapIs (w : World) (b n : Nat) (f : ByteArray → Int) : Prop :=
  ∃ D : DataW Unit, w.ownsMap Tryd.prog 9 (plainElem Tryd.prog 3) b n D ∧ IsMap D ∧ ∀ s : ByteArray, D.atKey (.string s.data.toList) (.lit (.int .i64 0)) = .lit (.int .i64 (f s))
theorem run_makeMapN {P : Program} {t k e : TypeId} (ht : P.underlying t = some (.map k e)) (q : IntKind) (n : Int) (w : World) : (Instr.makeMap t (some (.int q n))).run P w = .ok (.map (some w.heap.size)) (w.alloc (.map #[] 0)) := by
  simp [Instr.makeMap, run_underlying ht, asInt, go_sem]
theorem slaw : Keyed Tryd.prog 9 := string_keyed Tryd.underlying9
theorem zeroInt (w : World) : (zeroValue 3).run Tryd.prog w = .ok (.int .i64 0) w := by kernel_rfl
section
variable {w w' : World} {b n : Nat} {f : ByteArray → Int}
theorem MapIs.made (w : World) : MapIs (w.alloc (.map #[] 0)) w.heap.size 0 (fun _ => 0) := ⟨.map [], World.ownsMap_made _ _ _ _, isMap_empty, fun s => rfl⟩
theorem MapIs.kept {row : Option Nat} (h : MapIs w b n f) (hg : w.grownBy w' row) (hne : some b ≠ row) : MapIs w' b n f := by
  obtain ⟨D, h1, h2, h3⟩ := h
  exact ⟨D, h1.kept hg hne, h2, h3⟩
theorem MapIs.below (h : MapIs w b n f) (hb : Below w.heap.size w w') : MapIs w' b n f := h.kept (only_of_below hb none) (by simp)
theorem MapIs.lt (h : MapIs w b n f) : b < w.heap.size := by
  obtain ⟨D, h1, _⟩ := h
  exact h1.lt
theorem MapIs.look (h : MapIs w b n f) {s : ByteArray} (hs : s.size ≤ maxLen) : (Instr.lookup 65 (.map (some b)) (.string s) false).run Tryd.prog w = .ok (.int .i64 (f s)) w := by
  obtain ⟨D, h1, h2, h3⟩ := h
  obtain ⟨c, hrun, hat, _⟩ := h1.lookup_int slaw Tryd.underlying65 Tryd.underlying3 (zeroInt _) (keyOf_string_mk Tryd.underlying9 hs)
  rw [h3 s] at hat
  have : f s = c := by simpa using hat
  rw [this]
  exact hrun
theorem MapIs.put {D : DataW Unit} (h2 : IsMap D) (h3 : ∀ s : ByteArray, D.atKey (.string s.data.toList) (.lit (.int .i64 0)) = .lit (.int .i64 (f s))) {s : ByteArray} {v : Int} (h : w.ownsMap Tryd.prog 9 (plainElem Tryd.prog 3) b n (D.put (.string s.data.toList) (.lit (.int .i64 v)))) :
    MapIs w b n (fun t => if t = s then v else f t) := by
  refine ⟨_, h, h2.put _ _, fun t => ?_⟩
  by_cases e : t = s
  · subst e
    dsimp only
    rw [if_pos rfl]
    exact atKey_put_same h2 (show WideAt.IsKeyLit (.string _) from trivial) _ _
  · dsimp only
    rw [if_neg e]
    rw [atKey_put_other (fun h => e (ByteArray.ext (Array.toList_inj.mp (by simpa using h))))]
    exact h3 t
end
theorem nd_snoc' {α : Type} {L : List α} {u : α} (h : L.Nodup) (hu : u ∉ L) : (L ++ [u]).Nodup := by
  rw [List.nodup_append]
  refine ⟨h, by simp, fun a ha b hb => ?_⟩
  simp at hb
  subst hb
  rintro rfl
  exact hu ha
/-- A circuit. -/
structure Ct where
  name : ByteArray
  gs : List Gt
  outs : List Int
def AllFree (gs : List Gt) : Prop := ∀ i, i < gs.length → Free (lnsOf gs) i
def LinesP (n : Nat) (gs : List Gt) : Prop := ∀ g ∈ gs, NameP g.name ∧ FieldsP g (n : Int)
def OutsP (n : Nat) (outs : List Int) : Prop := ∀ p ∈ outs, 0 ≤ p ∧ p < (n : Int)
structure FormedP (c : Ct) : Prop where
  name : NameP c.name
  gl : c.gs.length ≤ 65536
  ol : c.outs.length ≤ 65536
  lines : LinesP c.gs.length c.gs
  nd : (c.gs.map Gt.name).Nodup
  outs : OutsP c.gs.length c.outs
  free : AllFree c.gs
open Classical in
noncomputable def formedB (c : Ct) : Bool := decide (FormedP c)
theorem formedB_true {c : Ct} (h : FormedP c) : formedB c = true := by simp [formedB, h]
theorem formedB_false {c : Ct} (h : ¬ FormedP c) : formedB c = false := by simp [formedB, h]
/-- Texts are no longer than a text can be. -/
structure SizeP (c : Ct) : Prop where
  name : c.name.size ≤ maxLen
  names : ∀ g ∈ c.gs, g.name.size ≤ maxLen
  gl : c.gs.length ≤ maxLen
  ol : c.outs.length ≤ maxLen
theorem LinesP.inR {gs : List Gt} (h : LinesP gs.length gs) : InR gs := by
  intro g hg p hp
  have hf := (h g hg).2
  unfold FieldsP PlaceP at hf
  unfold Gt.leans at hp
  split at hp
  · rename_i e
    simp at hp
    rcases hp with rfl | rfl <;> omega
  · split at hp
    · simp at hp
      rcases hp with rfl | rfl | rfl <;> omega
    · simp at hp
open Classical in
/-- How often a text stands among the first names. -/
noncomputable def cntN (gs : List Gt) (k : Nat) (s : ByteArray) : Int := ((gs.take k).countP (fun g => decide (g.name = s)) : Nat)
open Classical in
theorem cntN_step {gs : List Gt} {k : Nat} {g : Gt} (hg : gs[k]? = some g) : cntN gs (k + 1) = fun t => if t = g.name then cntN gs k g.name + 1 else cntN gs k t := by
  funext t
  unfold cntN
  rw [List.take_add_one, hg]
  simp only [Option.toList, List.countP_append, List.countP_cons, List.countP_nil]
  by_cases e : t = g.name
  · subst e; simp
  · have e' : ¬ g.name = t := fun h => e h.symm
    rw [if_neg e]
    simp [e']
theorem cntN_nn (gs : List Gt) (k : Nat) (s : ByteArray) : 0 ≤ cntN gs k s := by unfold cntN; omega
open Classical in
theorem cntN_zero {gs : List Gt} {k : Nat} {s : ByteArray} : cntN gs k s = 0 ↔ s ∉ (gs.take k).map Gt.name := by
  unfold cntN
  constructor
  · intro h hm
    obtain ⟨g, hg, e⟩ := List.mem_map.1 hm
    have h0 : (gs.take k).countP (fun g => decide (g.name = s)) = 0 := by omega
    rw [List.countP_eq_zero] at h0
    exact h0 g hg (by simp [e])
  · intro h
    have : (gs.take k).countP (fun g => decide (g.name = s)) = 0 := by
      rw [List.countP_eq_zero]
      intro g hg
      simp
      exact fun e => h (List.mem_map.2 ⟨g, hg, e⟩)
    omega
open Classical in
theorem cntN_le (gs : List Gt) (k : Nat) (s : ByteArray) : cntN gs k s ≤ (k : Int) := by
  unfold cntN
  have h1 := List.countP_le_length (l := gs.take k) (p := fun g => decide (g.name = s))
  have h2 : (gs.take k).length ≤ k := List.length_take_le _ _
  omega
theorem cntN_nodup {gs : List Gt} {k : Nat} {g : Gt} (hg : gs[k]? = some g) (h : ((gs.take k).map Gt.name).Nodup) : ((gs.take (k + 1)).map Gt.name).Nodup ↔ cntN gs (k + 1) g.name ≤ 1 := by
  have hc : cntN gs (k + 1) g.name = cntN gs k g.name + 1 := by rw [cntN_step hg]; simp
  rw [hc]
  have e : (gs.take (k + 1)).map Gt.name = (gs.take k).map Gt.name ++ [g.name] := by
    rw [List.take_add_one, hg]
    simp
  rw [e]
  have hz := cntN_zero (gs := gs) (k := k) (s := g.name)
  have hn := cntN_nn gs k g.name
  constructor
  · intro h1
    rw [List.nodup_append] at h1
    have : g.name ∉ (gs.take k).map Gt.name := fun hm => h1.2.2 _ hm _ (by simp) rfl
    rw [hz.2 this]
    omega
  · intro h1
    exact nd_snoc' h (hz.1 (by omega))
end Go.Proofs.YtjkmoahnociaiaaDoor
