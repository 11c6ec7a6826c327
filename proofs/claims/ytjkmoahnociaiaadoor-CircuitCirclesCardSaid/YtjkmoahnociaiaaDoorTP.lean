/- What the search by depth keeps in memory. -/
import Derived.Test.YtjkmoahnociaiaaDoorKT
import Derived.Test.YtjkmoahnociaiaaDoorXA
import Derived.BigQuiet
namespace Go.Proofs.YtjkmoahnociaiaaDoor
open Go.RowKit

/-- A number, or a truth, for each line. -/
def tab {α : Type} (n : Nat) (g : Nat → α) : List α := (List.range n).map g
theorem tab_length {α : Type} (n : Nat) (g : Nat → α) : (tab n g).length = n := by simp [tab]
theorem tab_get {α : Type} {n : Nat} {g : Nat → α} {i : Nat} (h : i < n) : (tab n g)[i]? = some (g i) := by simp [tab, h]
theorem tab_set {α : Type} (n : Nat) (g : Nat → α) (i : Nat) (v : α) : (tab n g).set i v = tab n (upd g i v) := by
  apply List.ext_getElem?
  intro j
  rw [List.getElem?_set, tab_length]
  by_cases hj : j < n
  · rw [tab_get hj]
    by_cases e : i = j
    · subst e; rw [if_pos rfl, if_pos hj, tab_get hj, upd_at]
    · rw [if_neg e, tab_get hj, upd_off _ _ (fun t => e t.symm)]
  · have h1 : (tab n g)[j]? = none := List.getElem?_eq_none (by rw [tab_length]; omega)
    have h2 : (tab n (upd g i v))[j]? = none := List.getElem?_eq_none (by rw [tab_length]; omega)
    rw [h1, h2]
    by_cases e : i = j
    · rw [if_pos e, if_neg (by omega)]
    · rw [if_neg e]
theorem tab_rep {α : Type} (n : Nat) (x : α) : tab n (fun _ => x) = List.replicate n x := by
  apply List.ext_getElem?
  intro j
  rw [List.getElem?_replicate]
  by_cases hj : j < n
  · rw [tab_get hj, if_pos hj]
  · rw [if_neg hj]; exact List.getElem?_eq_none (by rw [tab_length]; omega)
/-- The walks that are under way: a line, and how many of what it leans on are behind. -/
def fcells (F : List (Nat × Nat)) : List Value := F.flatMap fun c => [.int .i64 (c.1 : Int), .int .i64 (c.2 : Int)]
theorem fcells_length (F : List (Nat × Nat)) : (fcells F).length = F.length * 2 := by
  induction F with
  | nil => rfl
  | cons c F ih => simp only [fcells, List.flatMap_cons, List.length_append, List.length_cons, List.length_nil] at ih ⊢; omega
theorem fcells_append (F G : List (Nat × Nat)) : fcells (F ++ G) = fcells F ++ fcells G := by simp [fcells]
theorem fcells_one {F : List (Nat × Nat)} {u : Value} (h : u ∈ fcells F) : u.oneCell' = true := by
  unfold fcells at h
  rw [List.mem_flatMap] at h
  obtain ⟨c, _, h⟩ := h
  simp only [List.mem_cons, List.not_mem_nil, or_false] at h
  rcases h with rfl | rfl <;> rfl
theorem fcells_last (F : List (Nat × Nat)) (u m : Nat) : (fcells (F ++ [(u, m)]))[F.length * 2]? = some (.int .i64 (u : Int)) ∧ (fcells (F ++ [(u, m)]))[F.length * 2 + 1]? = some (.int .i64 (m : Int)) ∧
    ∀ m' : Nat, (fcells (F ++ [(u, m)])).set (F.length * 2 + 1) (.int .i64 (m' : Int)) = fcells (F ++ [(u, m')]) := by
  rw [fcells_append]
  have hl := fcells_length F
  refine ⟨?_, ?_, fun m' => ?_⟩
  · rw [List.getElem?_append_right (by omega), hl, Nat.sub_self]; rfl
  · rw [List.getElem?_append_right (by omega), hl, Nat.add_sub_cancel_left]; rfl
  · rw [List.set_append_right _ _ (by omega), hl, Nat.add_sub_cancel_left, fcells_append]; rfl
theorem info_frame : (Tryd.prog.info? 121).map (fun i => (i.zero, i.size, i.bytes)) = some (some (.agg #[.int .i64 0, .int .i64 0]), 2, 16) := by kernel_rfl
/-- The rows: what is free, when it was met, its low place, whether it is on the stack, the stack. -/
def trows (n fb gb lb ob : Nat) (vS : Value) (fr : Nat → Bool) (num low : Nat → Nat) (on : Nat → Bool) (S : List Nat) : List RW :=
  [row1 4 (.slice (some ⟨fb, 0, none⟩) n n) (bools (tab n fr)), row1 3 (.slice (some ⟨gb, 0, none⟩) n n) (ints (tab n num)), row1 3 (.slice (some ⟨lb, 0, none⟩) n n) (ints (tab n low)), row1 4 (.slice (some ⟨ob, 0, none⟩) n n) (bools (tab n on)), row1 3 vS (ints S)]
def frow (vC : Value) (F : List (Nat × Nat)) : RW := ⟨121, 2, vC, F.length, fcells F⟩
def TMem (w : World) (base n fb gb lb ob : Nat) (vS : Value) (fr : Nat → Bool) (num low : Nat → Nat) (on : Nat → Bool) (S : List Nat) (X : List RW) : Prop := Hold w base (trows n fb gb lb ob vS fr num low on S ++ X)
section
variable {w w' : World} {base n fb gb lb ob : Nat} {vS vC : Value} {fr : Nat → Bool} {num low : Nat → Nat} {on : Nat → Bool} {S : List Nat} {X : List RW} {F : List (Nat × Nat)}
theorem TMem.below (h : TMem w base n fb gb lb ob vS fr num low on S X) (hb : Below w.heap.size w w') : TMem w' base n fb gb lb ob vS fr num low on S X := Hold.below h hb
theorem TMem.front {Y : List RW} (h : TMem w base n fb gb lb ob vS fr num low on S (X ++ Y)) : TMem w base n fb gb lb ob vS fr num low on S X := by
  unfold TMem at *
  rw [← List.append_assoc] at h
  exact h.front
theorem TMem.row (h : TMem w base n fb gb lb ob vS fr num low on S X) {i : Nat} {r : RW} (hi : (trows n fb gb lb ob vS fr num low on S)[i]? = some r) : (trows n fb gb lb ob vS fr num low on S ++ X)[i]? = some r := by
  rw [List.getElem?_append_left (List.getElem?_eq_some_iff.1 hi).1]; exact hi
theorem TMem.freeAt (h : TMem w base n fb gb lb ob vS fr num low on S X) {i : Nat} (hi : i < n) : w.cell? ⟨fb, i, none⟩ = some (.bool (fr i)) ∧ w.frozen? ⟨fb, i, none⟩ = false ∧ base ≤ fb ∧
    ∀ b, TMem (w.setCell ⟨fb, i, none⟩ (.bool b)) base n fb gb lb ob vS (upd fr i b) num low on S X := by
  obtain ⟨g, e, h1, h2, h3, h4, h5⟩ := Hold.cell h (i := 0) (h.row rfl) (j := i) (u := .bool (fr i)) (bools_get (tab_get hi))
  cases e
  refine ⟨h3, h4, h1, fun b => ?_⟩
  have := h5 (.bool b)
  rw [bools_set, tab_set, List.set_append_left _ _ (show 0 < 5 by omega)] at this
  exact this
theorem TMem.numAt (h : TMem w base n fb gb lb ob vS fr num low on S X) {i : Nat} (hi : i < n) : w.cell? ⟨gb, i, none⟩ = some (.int .i64 (num i : Int)) ∧ w.frozen? ⟨gb, i, none⟩ = false ∧ base ≤ gb ∧
    ∀ m : Nat, TMem (w.setCell ⟨gb, i, none⟩ (.int .i64 (m : Int))) base n fb gb lb ob vS fr (upd num i m) low on S X := by
  obtain ⟨g, e, h1, h2, h3, h4, h5⟩ := Hold.cell h (i := 1) (h.row rfl) (j := i) (u := .int .i64 (num i : Int)) (ints_get (tab_get hi))
  cases e
  refine ⟨h3, h4, h1, fun m => ?_⟩
  have := h5 (.int .i64 (m : Int))
  rw [ints_set, tab_set, List.set_append_left _ _ (show 1 < 5 by omega)] at this
  exact this
theorem TMem.lowAt (h : TMem w base n fb gb lb ob vS fr num low on S X) {i : Nat} (hi : i < n) : w.cell? ⟨lb, i, none⟩ = some (.int .i64 (low i : Int)) ∧ w.frozen? ⟨lb, i, none⟩ = false ∧ base ≤ lb ∧
    ∀ m : Nat, TMem (w.setCell ⟨lb, i, none⟩ (.int .i64 (m : Int))) base n fb gb lb ob vS fr num (upd low i m) on S X := by
  obtain ⟨g, e, h1, h2, h3, h4, h5⟩ := Hold.cell h (i := 2) (h.row rfl) (j := i) (u := .int .i64 (low i : Int)) (ints_get (tab_get hi))
  cases e
  refine ⟨h3, h4, h1, fun m => ?_⟩
  have := h5 (.int .i64 (m : Int))
  rw [ints_set, tab_set, List.set_append_left _ _ (show 2 < 5 by omega)] at this
  exact this
theorem TMem.onAt (h : TMem w base n fb gb lb ob vS fr num low on S X) {i : Nat} (hi : i < n) : w.cell? ⟨ob, i, none⟩ = some (.bool (on i)) ∧ w.frozen? ⟨ob, i, none⟩ = false ∧ base ≤ ob ∧
    ∀ b, TMem (w.setCell ⟨ob, i, none⟩ (.bool b)) base n fb gb lb ob vS fr num low (upd on i b) S X := by
  obtain ⟨g, e, h1, h2, h3, h4, h5⟩ := Hold.cell h (i := 3) (h.row rfl) (j := i) (u := .bool (on i)) (bools_get (tab_get hi))
  cases e
  refine ⟨h3, h4, h1, fun b => ?_⟩
  have := h5 (.bool b)
  rw [bools_set, tab_set, List.set_append_left _ _ (show 3 < 5 by omega)] at this
  exact this
theorem TMem.apart (h : TMem w base n fb gb lb ob vS fr num low on S X) (hn : 0 < n) : gb ≠ lb := by
  have h1 := h.2 1 2 _ _ (by decide) (h.row rfl) (h.row rfl)
  rcases h1 with h1 | h1
  · cases h1
  · intro e; exact h1 (by rw [e]; rfl)
theorem TMem.stack (h : TMem w base n fb gb lb ob vS fr num low on S X) : Owns w base 3 vS (ints S) := Hold.owns h (i := 4) (h.row rfl)
theorem TMem.pushS (h : TMem w base n fb gb lb ob vS fr num low on S X) {v' : Value} {x : Nat} (ho : Owns w' base 3 v' (ints S ++ [.int .i64 (x : Int)])) (hg : w.grownBy w' vS.ownBlock) (hn : v'.ownBlock = vS.ownBlock ∨ v'.ownBlock = some w.heap.size) : TMem w' base n fb gb lb ob v' fr num low on (S ++ [x]) X := by
  have := Hold.push h (i := 4) (h.row rfl) ho hg hn
  rw [ints_snoc, List.set_append_left _ _ (show 4 < 5 by omega)] at this
  exact this
theorem TMem.cutS {A : Option Addr} {m c k : Nat} {S1 S2 : List Nat} (h : TMem w base n fb gb lb ob (.slice A m c) fr num low on (S1 ++ S2) X) (hm : S1.length = k) (h2 : 0 < S2.length) : TMem w base n fb gb lb ob (.slice A k c) fr num low on S1 X := by
  have ho := h.stack
  have hc := ho.cap
  have hmm : m = S1.length + S2.length := by rw [hc.2, ints_length, List.length_append]
  have hs := ho.short (m := k) (by omega) (by omega)
  have e : (ints (S1 ++ S2)).take k = ints S1 := by
    rw [← hm]
    simp [ints]
  rw [e] at hs
  have := Hold.swap h (i := 4) (r' := row1 3 (.slice A k c) (ints S1)) (h.row rfl) hs (by cases A <;> rfl)
  rw [List.set_append_left _ _ (show 4 < 5 by omega)] at this
  exact this
theorem TMem.new (h : TMem w base n fb gb lb ob vS fr num low on S X) (hb : Below w.heap.size w w') (hB : base ≤ w.heap.size) {r : RW} (hr : r.own w' w.heap.size) : TMem w' base n fb gb lb ob vS fr num low on S (X ++ [r]) := by
  have := Hold.new h hb hB hr
  unfold TMem
  rw [← List.append_assoc]
  exact this
/-- The row of the walks under way. -/
theorem TMem.frames (h : TMem w base n fb gb lb ob vS fr num low on S [frow vC F]) : w.ownsRow base 121 2 vC F.length (fcells F) := h.1 5 (frow vC F) rfl
theorem TMem.swapF (h : TMem w base n fb gb lb ob vS fr num low on S [frow vC F]) {vC' : Value} {F' : List (Nat × Nat)} (ho : w.ownsRow base 121 2 vC' F'.length (fcells F')) (hv : vC'.ownBlock = vC.ownBlock) : TMem w base n fb gb lb ob vS fr num low on S [frow vC' F'] :=
  Hold.swap h (i := 5) (r' := frow vC' F') (show _ = some (frow vC F) from rfl) ho hv
theorem TMem.turnF (h : TMem w base n fb gb lb ob vS fr num low on S [frow vC F]) (hg : w.grownBy w' vC.ownBlock) {vC' : Value} {F' : List (Nat × Nat)} (ho : w'.ownsRow base 121 2 vC' F'.length (fcells F')) (hv : vC'.ownBlock = vC.ownBlock ∨ vC'.ownBlock = some w.heap.size) : TMem w' base n fb gb lb ob vS fr num low on S [frow vC' F'] :=
  Hold.turn h (i := 5) (r' := frow vC' F') (show _ = some (frow vC F) from rfl) hg ho (hv.imp id fun e => ⟨_, e, Nat.le_refl _⟩)
/-- The walk on top. -/
theorem TMem.top {A : Option Addr} {m c u k : Nat} (h : TMem w base n fb gb lb ob vS fr num low on S [frow (.slice A m c) (F ++ [(u, k)])]) : ∃ g, A = some ⟨g, 0, none⟩ ∧ m = F.length + 1 ∧ m ≤ c ∧ base ≤ g ∧ w.cell? ⟨g, F.length * 2, none⟩ = some (.int .i64 (u : Int)) ∧ w.cell? ⟨g, F.length * 2 + 1, none⟩ = some (.int .i64 (k : Int)) ∧ w.frozen? ⟨g, F.length * 2 + 1, none⟩ = false ∧
    (∀ k' : Nat, TMem (w.setCell ⟨g, F.length * 2 + 1, none⟩ (.int .i64 (k' : Int))) base n fb gb lb ob vS fr num low on S [frow (.slice (some ⟨g, 0, none⟩) m c) (F ++ [(u, k')])]) ∧
    TMem w base n fb gb lb ob vS fr num low on S [frow (.slice A F.length c) F] := by
  have ho := h.frames
  have hl := fcells_last F u k
  have hlen : (fcells (F ++ [(u, k)])).length = F.length * 2 + 2 := by rw [fcells_length, List.length_append]; simp; omega
  rcases ho.2 with ⟨_, h0⟩ | ⟨g, cap, cur, hv, hb, hh, hnc, hcm, hsz, htk⟩
  · simp at h0
  · cases hv
    have hm : (F ++ [(u, k)]).length = F.length + 1 := by simp
    have hst : ∀ i v, i < F.length * 2 + 2 → w.cell? ⟨g, i, none⟩ = (fcells (F ++ [(u, k)]))[i]? ∧ w.frozen? ⟨g, i, none⟩ = false ∧ (w.setCell ⟨g, i, none⟩ v).ownsRow base 121 2 (.slice (some ⟨g, 0, none⟩) (F ++ [(u, k)]).length c) (F ++ [(u, k)]).length ((fcells (F ++ [(u, k)])).set i v) := fun i v hi => by
      obtain ⟨g', e1, c1, c2, c3⟩ := rows_store ho (i := i) (by rw [hlen]; exact hi) v
      cases e1
      exact ⟨c1, c2, c3⟩
    refine ⟨g, rfl, hm, hnc, hb, ((hst (F.length * 2) (.int .i64 0) (by omega)).1).trans hl.1, ((hst (F.length * 2 + 1) (.int .i64 0) (by omega)).1).trans hl.2.1, (hst (F.length * 2 + 1) (.int .i64 0) (by omega)).2.1, fun k' => ?_, ?_⟩
    · have h3 := (hst (F.length * 2 + 1) (.int .i64 (k' : Int)) (by omega)).2.2
      rw [hl.2.2 k'] at h3
      refine h.turnF (only_setCell (only_refl w (some g)) (.inl rfl) _) (F' := F ++ [(u, k')]) ?_ (.inl rfl)
      have e : (F ++ [(u, k)]).length = (F ++ [(u, k')]).length := by simp
      rw [e] at h3 ⊢
      exact h3
    · refine h.swapF (F' := F) ?_ rfl
      refine ⟨by rw [fcells_length], .inr ⟨g, c, cur, rfl, hb, hh, by omega, hcm, hsz, ?_⟩⟩
      have e : cur.toList.take (F.length * 2) = (cur.toList.take ((F ++ [(u, k)]).length * 2)).take (F.length * 2) := by
        rw [List.take_take]; congr 1; rw [hm]; omega
      rw [e, htk, fcells_append, List.take_append_of_le_length (by rw [fcells_length]; exact Nat.le_refl _), List.take_of_length_le (by rw [fcells_length]; exact Nat.le_refl _)]
end
end Go.Proofs.YtjkmoahnociaiaaDoor
/- slices.Index and slices.Contains over numbers. -/
namespace Go.Proofs.YtjkmoahnociaiaaDoor
open Go.RowKit

/-- What Index answers, told by places: a natural number where the number is first met. -/
theorem index_ints (A : Option Addr) (zs : List Nat) (n c x : Nat) (w : World) (hz : zs.length = n) (hbig : n ≤ 4000000) (hc : CReads w A (ints zs)) :
    Calls Tryd.prog 63 #[.slice A n c, .int .i64 (x : Int)] w fun e w' => (∃ i : Int, e = .returned (.int .i64 i) ∧ (0 ≤ i ↔ x ∈ zs) ∧ (∀ k : Nat, i = (k : Int) → zs[k]? = some x)) ∧ w' = w := by
  have HC := Lib.hid hc
  clear hc
  go_enter Tryd.func63, Tryd.ntmps63
  go_wp2
  go_loop [5, 8] (fun _ i => ∃ k : Nat, k ≤ n ∧ i = .int .i64 k ∧ ∀ (j : Nat) y, j < k → zs[j]? = some y → y ≠ x) (fun _ i => n - (intOf i).toNat)
  case atStart => exact ⟨0, Nat.zero_le _, rfl, fun j _ hj => absurd hj (Nat.not_lt_zero _)⟩
  case round =>
    obtain ⟨k, hk, rfl, hne⟩ := hrel
    by_cases hlt : k < n
    · obtain ⟨y, hy⟩ : ∃ y, zs[k]? = some y := ⟨_, List.getElem?_eq_getElem (by omega)⟩
      obtain ⟨b, o, rfl, hcell⟩ := HC.out.at_ (ints_get hy)
      have h0 : (0 : Int) ≤ (k : Int) := by omega
      have h1 : (k : Int) < (n : Int) := by omega
      by_cases he : y = x
      · subst he
        have hb : ((y : Int) == (y : Int)) = true := by simp
        have HY := Lib.hid hy
        clear hy hne
        go_wp2
        go_ret
        exact ⟨⟨(k : Int), rfl, ⟨fun _ => List.mem_of_getElem? HY.out, fun _ => by omega⟩, fun k' e => by
          have : k = k' := by omega
          rw [← this]; exact HY.out⟩, rfl⟩
      · have hb : ((x : Int) == (y : Int)) = false := by simp; omega
        have hb2 : (x == y) = false := by simp; omega
        have hne2 : ∀ (j : Nat) y, j < k + 1 → zs[j]? = some y → y ≠ x := fun j z hj hz => by
          by_cases e : j = k
          · subst e
            rw [hy] at hz
            cases hz
            exact he
          · exact hne j z (by omega) hz
        clear hy hne he
        go_wp2
        go_round
        case rel => exact ⟨k + 1, by omega, by go_num, hne2⟩
        case measure => simp [intOf]; omega
    · obtain rfl : k = n := by omega
      have HN : Hid (x ∉ zs) := Lib.hid (fun hm => by
        obtain ⟨j, hj⟩ := List.getElem?_of_mem hm
        exact hne j x (by rw [← hz]; exact (List.getElem?_eq_some_iff.1 hj).1) hj rfl)
      clear hne
      go_wp2
      go_ret
      exact ⟨⟨-1, rfl, ⟨fun h => by omega, fun h => absurd h HN.out⟩, fun k' e => by omega⟩, rfl⟩

theorem contains_ints (A : Option Addr) (zs : List Nat) (n c x : Nat) (w : World) (hz : zs.length = n) (hbig : n ≤ 4000000) (hc : CReads w A (ints zs)) :
    Calls Tryd.prog 64 #[.slice A n c, .int .i64 (x : Int)] w fun e w' => e = .returned (.bool (decide (x ∈ zs))) ∧ w' = w := by
  have hi := index_ints A zs n c x w hz hbig hc
  go_enter Tryd.func64, Tryd.ntmps64
  go_wp2_with (go_at_call 63; with_reducible refine hi.mono ?_; rintro e w' ⟨⟨i, rfl, hm, _⟩, rfl⟩)
  go_ret
  exact ⟨rfl, rfl⟩
end Go.Proofs.YtjkmoahnociaiaaDoor
/- The search by depth: a line that waits to be met; how much is left. No program in sight. -/
namespace Go.Proofs.YtjkmoahnociaiaaDoor

/-- How many lines have not been met. -/
def unm (n : Nat) (num : Nat → Nat) : Nat := unmet (tab n fun i => decide (num i ≠ 0))
def frs (L : List Nat) (nx : Nat → Nat) : List (Nat × Nat) := L.map fun u => (u, nx u)
def mu (n : Nat) (num nx : Nat → Nat) (L : List Nat) (b : Bool) : Nat := 12 * unm n num + (L.map fun u => 5 - nx u).sum + (if b = true then 0 else 6)
theorem unm_push {n : Nat} {num : Nat → Nat} {p : Nat} (hp : p < n) (h0 : num p = 0) (m : Nat) : unm n (upd num p (m + 1)) + 1 = unm n num := by
  have h := unmet_set (met := tab n fun i => decide (num i ≠ 0)) (q := p) (by rw [tab_get hp]; simp [h0])
  rw [tab_set] at h
  unfold unm
  rw [← h]
  congr 3
  funext i
  unfold upd
  split <;> simp
/-- The walks in memory: as they are, or with a line more that waits to be met. -/
def Pend (n : Nat) (f : Nat → List Nat) (num nx : Nat → Nat) (L : List Nat) (M : List (Nat × Nat)) (b : Bool) : Prop :=
  (b = false ∧ M = frs L nx) ∨ (b = true ∧ ∃ p, p < n ∧ num p = 0 ∧ ¬ Free f p ∧ ((L = [] ∧ M = [(p, 0)]) ∨ ∃ L0 u, L = L0 ++ [u] ∧ (f u)[nx u]? = some p ∧ M = frs L0 nx ++ [(u, nx u + 1), (p, 0)]))
theorem frs_append (L K : List Nat) (nx : Nat → Nat) : frs (L ++ K) nx = frs L nx ++ frs K nx := by simp [frs]
theorem frs_length (L : List Nat) (nx : Nat → Nat) : (frs L nx).length = L.length := by simp [frs]
theorem frs_same {L : List Nat} {nx ny : Nat → Nat} (h : ∀ u ∈ L, nx u = ny u) : frs L nx = frs L ny := List.map_congr_left fun u hu => by rw [h u hu]
theorem sum_same {L : List Nat} {nx ny : Nat → Nat} (h : ∀ u ∈ L, nx u = ny u) : (L.map fun u => 5 - nx u).sum = (L.map fun u => 5 - ny u).sum := by
  rw [List.map_congr_left fun u hu => by rw [h u hu]]
section
variable {n : Nat} {f : Nat → List Nat} {num low nx : Nat → Nat} {on : Nat → Bool} {S L : List Nat} {met : Nat} {fd : Int} {M : List (Nat × Nat)}
theorem Tj.ne {L0 : List Nat} {u v : Nat} (h : Tj n f num low nx on S (L0 ++ [u]) met fd) (hv : v ∈ L0) : v ≠ u := fun e => by
  have := pair_last h.lo v hv
  rw [e] at this
  omega
theorem Pend.settle (h : Tj n f num low nx on S L met fd) (hP : Pend n f num nx L M true) (h3 : ∀ i, (f i).length ≤ 3) : ∃ M0 p nx', M = M0 ++ [(p, 0)] ∧ p < n ∧ num p = 0 ∧ M = frs (L ++ [p]) nx' ∧ mu n (upd num p (met + 1)) nx' (L ++ [p]) false ≤ mu n num nx L true ∧
    Tj n f (upd num p (met + 1)) (upd low p (met + 1)) nx' (upd on p true) (S ++ [p]) (L ++ [p]) (met + 1) fd := by
  rcases hP with ⟨hb, _⟩ | ⟨_, p, hp, h0, hfr, hc⟩
  · cases hb
  have hu := unm_push hp h0 met
  have hpS : ∀ v ∈ L, v ≠ p := fun v hv e => by
    have := h.sm v (h.ls v hv)
    rw [e] at this
    omega
  rcases hc with ⟨hL, hM⟩ | ⟨L0, u, hL, hk, hM⟩
  · refine ⟨[], p, upd nx p 0, hM, hp, h0, ?_, ?_, h.push hp h0 hfr h.nl (fun x => Nat.le_refl _) (fun x j z hj _ => .inl hj) (by rw [hL]; intro v hv; cases hv)⟩
    · rw [hL, hM]; simp [frs, upd_at]
    · rw [hL]; unfold mu; simp [upd_at]; omega
  · have hlen : nx u < (f u).length := (List.getElem?_eq_some_iff.1 hk).1
    have hl3 := h3 u
    have hup : u ≠ p := hpS u (by rw [hL]; simp)
    have hne : ∀ v ∈ L0, upd (upd nx u (nx u + 1)) p 0 v = nx v := fun v hv => by
      rw [upd_off _ _ (hpS v (by rw [hL]; simp [hv])), upd_off]
      subst hL
      exact h.ne hv
    have hu2 : upd (upd nx u (nx u + 1)) p 0 u = nx u + 1 := by rw [upd_off _ _ hup, upd_at]
    have hst := h.push hp h0 hfr (nx1 := upd nx u (nx u + 1)) (fun x => by
        unfold upd; split
        · rename_i e; rw [e]; omega
        · exact h.nl x) (fun x => by
        unfold upd; split
        · rename_i e; rw [e]; omega
        · exact Nat.le_refl _) (fun x j z hj hz => by
        by_cases e : x = u
        · subst e
          rw [upd_at] at hj
          by_cases e2 : j = nx x
          · rw [e2, hk] at hz; cases hz; exact .inr rfl
          · exact .inl (by omega)
        · rw [upd_off _ _ e] at hj; exact .inl hj) (fun v hv => by
        have huL : u ∈ L := by rw [hL]; simp
        refine (h.dn v hv u (h.ls u huL) ?_).step (List.mem_of_getElem? hk)
        rw [hL] at hv
        rcases List.mem_append.1 hv with t | t
        · subst hL; exact Nat.le_of_lt (pair_last h.lo v t)
        · rw [List.mem_singleton.1 t]; exact Nat.le_refl _)
    refine ⟨frs L0 nx ++ [(u, nx u + 1)], p, upd (upd nx u (nx u + 1)) p 0, by rw [hM]; simp, hp, h0, ?_, ?_, hst⟩
    · rw [hM, hL, frs_append, frs_append, frs_same hne]
      simp [frs, hu2, upd_at]
    · rw [hL]
      unfold mu
      simp only [List.map_append, List.sum_append]
      rw [sum_same hne]
      simp [hu2, upd_at]
      omega
theorem mu_edge {L0 : List Nat} {u : Nat} (h : Tj n f num low nx on S (L0 ++ [u]) met fd) (h3 : ∀ i, (f i).length ≤ 3) (hk : nx u < (f u).length) : mu n num (upd nx u (nx u + 1)) (L0 ++ [u]) false < mu n num nx (L0 ++ [u]) false ∧ frs (L0 ++ [u]) (upd nx u (nx u + 1)) = frs L0 nx ++ [(u, nx u + 1)] := by
  have hne : ∀ v ∈ L0, upd nx u (nx u + 1) v = nx v := fun v hv => upd_off _ _ (h.ne hv)
  have := h3 u
  refine ⟨?_, ?_⟩
  · unfold mu
    simp only [List.map_append, List.sum_append]
    rw [sum_same hne]
    simp [upd_at]
    omega
  · rw [frs_append, frs_same hne]; simp [frs, upd_at]
theorem mu_pop {L0 : List Nat} {u : Nat} (hk : nx u ≤ 3) : mu n num nx L0 false < mu n num nx (L0 ++ [u]) false := by
  unfold mu
  simp only [List.map_append, List.sum_append]
  simp
  omega
theorem mu_wait : mu n num nx L true < mu n num nx L false := by unfold mu; simp
theorem Pend.top {M0 : List (Nat × Nat)} {u k : Nat} {b : Bool} (hT : Tj n f num low nx on S L met fd) (hP : Pend n f num nx L (M0 ++ [(u, k)]) b) : (b = true → k = 0) ∧ (b = true → num u = 0) ∧ (b = false → 0 < num u) ∧ u < n ∧ M0.length ≤ n := by
  have hLl : L.length ≤ n := by
    have h1 : L.Nodup := hT.lo.imp fun {a b} hab e => by rw [e] at hab; omega
    have h2 : L.length ≤ (List.range n).length := List.Nodup.length_le_of_subset h1 fun v hv => by
      have := hT.lt v (hT.sm v (hT.ls v hv))
      simpa using this
    simpa using h2
  rcases hP with ⟨hb, h⟩ | ⟨hb, p, hpn, hp0, _, h⟩
  · have hu : u ∈ L := by
      have hm : (u, k) ∈ frs L nx := by rw [← h]; simp
      unfold frs at hm
      rw [List.mem_map] at hm
      obtain ⟨v, hv, e⟩ := hm
      cases e
      exact hv
    have h1 := hT.sm u (hT.ls u hu)
    have h2 := congrArg List.length h
    rw [frs_length, List.length_append, List.length_singleton] at h2
    exact ⟨fun t => absurd (hb.symm.trans t) (by decide), fun t => absurd (hb.symm.trans t) (by decide), fun _ => h1, hT.lt u h1, by omega⟩
  · have hk : k = 0 ∧ u = p ∧ M0.length ≤ n := by
      rcases h with ⟨_, h⟩ | ⟨L0, v, hL, _, h⟩
      · have h2 : M0 ++ [(u, k)] = [] ++ [(p, 0)] := h
        have h3 := List.append_inj' h2 rfl
        have h4 := h3.2
        simp at h4
        exact ⟨h4.2, h4.1, by rw [h3.1]; exact Nat.zero_le _⟩
      · have h2 : M0 ++ [(u, k)] = (frs L0 nx ++ [(v, nx v + 1)]) ++ [(p, 0)] := by rw [h]; simp
        have h3 := List.append_inj' h2 rfl
        have h4 := h3.2
        simp at h4
        refine ⟨h4.2, h4.1, ?_⟩
        rw [h3.1, List.length_append, frs_length, List.length_singleton]
        rw [hL, List.length_append, List.length_singleton] at hLl
        exact hLl
    exact ⟨fun _ => hk.1, fun _ => by rw [hk.2.1]; exact hp0, fun t => absurd (hb.symm.trans t) (by decide), by rw [hk.2.1]; exact hpn, hk.2.2⟩
theorem Pend.none {b : Bool} (hP : Pend n f num nx L [] b) : L = [] := by
  rcases hP with ⟨_, h⟩ | ⟨_, p, _, _, _, ⟨_, h⟩ | ⟨_, _, _, _, h⟩⟩
  · cases L
    · rfl
    · cases h
  · cases h
  · exact absurd h.symm (by simp)
theorem Pend.settled {M0 : List (Nat × Nat)} {u k : Nat} (hP : Pend n f num nx L (M0 ++ [(u, k)]) false) : ∃ L0, L = L0 ++ [u] ∧ k = nx u ∧ M0 = frs L0 nx := by
  rcases hP with ⟨_, h⟩ | ⟨hb, _⟩
  · rcases List.eq_nil_or_concat L with hL | ⟨L0, v, hL⟩
    · rw [hL] at h
      simp [frs] at h
    · rw [List.concat_eq_append] at hL
      rw [hL, frs_append] at h
      have h3 := List.append_inj' h rfl
      have h4 := h3.2
      simp [frs] at h4
      refine ⟨L0, by rw [hL, h4.1], by rw [h4.1]; exact h4.2, h3.1⟩
  · cases hb
/-- A line of number 0 that was found: none can stand ahead of it. -/
theorem Tj.zero (h : Tj n f num low nx on S L met 0) : 0 < n ∧ Way f 0 0 := by
  rcases h.fb with e | ⟨m, e, hm, hw⟩
  · omega
  · have : m = 0 := by omega
    subst this
    exact ⟨hm, hw⟩
/-- The low places when a line is taken off. -/
def popLow (low : Nat → Nat) (u : Nat) (L0 : List Nat) : Nat → Nat := match L0.getLast? with | some w => upd low w (min (low w) (low u)) | none => low
theorem popLow_snoc (low : Nat → Nat) (u w : Nat) (L1 : List Nat) : popLow low u (L1 ++ [w]) = upd low w (min (low w) (low u)) := by simp [popLow]
theorem popLow_self {L0 : List Nat} {u : Nat} (h : Tj n f num low nx on S (L0 ++ [u]) met fd) : popLow low u L0 u = low u := by
  rcases List.eq_nil_or_concat L0 with rfl | ⟨L1, w, rfl⟩
  · rfl
  · rw [List.concat_eq_append] at h ⊢
    rw [popLow_snoc, upd_off]
    exact fun e => h.ne (v := w) (by simp) e.symm
theorem Tj.pop_at {L0 : List Nat} {u : Nat} (h : Tj n f num low nx on S (L0 ++ [u]) met fd) (hd : (f u).length ≤ nx u) (hlow : low u < num u) : Tj n f num (popLow low u L0) nx on S L0 met fd := by
  obtain ⟨L1, w, rfl⟩ := h.has_up hlow
  rw [popLow_snoc]
  exact h.pop hd hlow
theorem popLow_root {L0 : List Nat} {u : Nat} (h : Tj n f num low nx on S (L0 ++ [u]) met fd) (hlow : ¬ low u < num u) : popLow low u L0 = low := by
  rcases List.eq_nil_or_concat L0 with rfl | ⟨L1, w, rfl⟩
  · rfl
  · rw [List.concat_eq_append] at h ⊢
    rw [popLow_snoc]
    have h1 := pair_last h.lo w (by simp)
    have h2 := (h.ll w (by simp)).1
    rw [Nat.min_eq_left (by omega)]
    funext i
    unfold upd
    split
    · rename_i e; rw [e]
    · rfl
/-- The stack falls in two at a line of it. -/
theorem mem_split {S : List Nat} {u : Nat} (h : u ∈ S) : ∃ S1 S2, S = S1 ++ u :: S2 := List.append_of_mem h
theorem Tj.place {S1 S2 : List Nat} {u k : Nat} (h : Tj n f num low nx on (S1 ++ u :: S2) L met fd) (hk : (S1 ++ u :: S2)[k]? = some u) : k = S1.length := by
  have h2 : (S1 ++ u :: S2)[S1.length]? = some u := by rw [List.getElem?_append_right (Nat.le_refl _)]; simp
  have hp := List.pairwise_iff_getElem.1 h.so
  obtain ⟨a, b⟩ := List.getElem?_eq_some_iff.1 hk
  obtain ⟨c, d⟩ := List.getElem?_eq_some_iff.1 h2
  rcases Nat.lt_trichotomy k S1.length with e | e | e
  · have := hp k S1.length a c e
    rw [b, d] at this
    omega
  · exact e
  · have := hp S1.length k c a e
    rw [b, d] at this
    omega
/-- What is on the stack while a part is taken off it. -/
def offOn (on : Nat → Bool) (l : List Nat) : Nat → Bool := fun x => on x && !l.contains x
theorem offOn_nil (on : Nat → Bool) : offOn on [] = on := by funext x; simp [offOn]
theorem offOn_snoc (on : Nat → Bool) (l : List Nat) (p : Nat) : upd (offOn on l) p false = offOn on (l ++ [p]) := by
  funext x
  unfold upd offOn
  split
  · rename_i e; rw [e]; simp
  · rename_i e; simp [e]
theorem offOn_true {on : Nat → Bool} {l : List Nat} {x : Nat} : offOn on l x = true ↔ on x = true ∧ x ∉ l := by
  unfold offOn; simp
end
end Go.Proofs.YtjkmoahnociaiaaDoor
