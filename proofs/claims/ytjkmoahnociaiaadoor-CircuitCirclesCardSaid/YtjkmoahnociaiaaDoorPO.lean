/- The document's reading of a text, whole, and that it is the reader's. No program in sight. -/
import Derived.Test.YtjkmoahnociaiaaDoorDP
import Derived.Test.YtjkmoahnociaiaaDoorQB
import Derived.Test.YtjkmoahnociaiaaDoorTW
namespace Go.Proofs.YtjkmoahnociaiaaDoor

/-- The lines with words: the first word, the words, the line's number, the column behind the last word. -/
def dlines : List ByteArray → Nat → List (Wd × List Wd × Int × Int)
  | [], _ => []
  | l :: ls, i => match (splitW l).1 with
    | [] => dlines ls (i + 1)
    | y :: t => (y, y :: t, ((i + 1 : Nat) : Int), (splitW l).2) :: dlines ls (i + 1)
def Rd.zero : Rd := ⟨⟨#[]⟩, [], [], fun _ => 0, [], [], false⟩
/-- Line by line, as far as a fault. -/
noncomputable def rgo : Rd → Bool → List (Wd × List Wd × Int × Int) → Rd × Fl
  | r, _, [] => (r, (0, 0, 0))
  | r, first, (y, ws, no, e) :: ls => if (r.line ws no e y first).2.1 = 0 then rgo (r.line ws no e y first).1 false ls else r.line ws no e y first
theorem zero_alike : Alike St.zero Rd.zero := ⟨rfl, rfl, rfl, rfl, rfl, rfl, rfl, rfl, JI.zero⟩
/-- What all lines leave. -/
def RunR (s : St) (R : Rd × Fl) : Prop := (R.2.1 ≠ 0 ∧ Flt s R.2) ∨ (R.2.1 = 0 ∧ s.fc = 0 ∧ Alike s R.1 ∧ Inv s)
theorem ran_alike : ∀ (ls : List ByteArray) (i : Nat) (st st' : St) (r : Rd) (first : Bool), Ran st i ls st' → st.fc = 0 → Alike st r → Inv st → st.begun = (!first) → (∀ l ∈ ls, l.size ≤ 4000000) → RunR st' (rgo r first (dlines ls i))
  | [], i, st, st', r, first, hr, hfc, ha, hI, _, _ => by
    have hr' : st' = st := hr
    rw [hr']
    exact .inr ⟨rfl, hfc, ha, hI⟩
  | l :: ls, i, st, st', r, first, hr, hfc, ha, hI, hb, hs => by
    obtain ⟨A, c, hr⟩ := hr
    have hI2 := stepL_inv hI ((i + 1 : Nat) : Int) l A c (hs l (by simp))
    have hs2 : ∀ l ∈ ls, l.size ≤ 4000000 := fun x hx => hs x (List.mem_cons_of_mem _ hx)
    have hat := at_inv hI ((i + 1 : Nat) : Int) l A c (hs l (by simp))
    unfold dlines
    cases hw : (splitW l).1 with
    | nil =>
      have hst : stepL st ((i + 1 : Nat) : Int) l A c = { st with line := ((i + 1 : Nat) : Int), words := (splitW l).1, end_ := (splitW l).2, wA := A, wC := c } := by
        unfold stepL
        rw [if_neg (by rw [hw]; exact Nat.lt_irrefl 0)]
      rw [hst] at hr hI2
      rw [if_pos hfc] at hr
      exact ran_alike ls (i + 1) _ st' r first hr hfc ⟨ha.nm, ha.gs, ha.os, ha.f, ha.sp, ha.us, ha.dn, ha.pl, ha.ji⟩ hI2 hb hs2
    | cons y t =>
      have hst : stepL st ((i + 1 : Nat) : Int) l A c = ({ st with line := ((i + 1 : Nat) : Int), words := (splitW l).1, end_ := (splitW l).2, wA := A, wC := c } : St).read := by
        unfold stepL
        rw [if_pos (by rw [hw]; exact Nat.succ_pos _)]
      have hl := line_alike (st := { st with line := ((i + 1 : Nat) : Int), words := (splitW l).1, end_ := (splitW l).2, wA := A, wC := c }) (r := r) (first := first) (no := ((i + 1 : Nat) : Int)) (e := (splitW l).2) hfc ⟨ha.nm, ha.gs, ha.os, ha.f, ha.sp, ha.us, ha.dn, ha.pl, ha.ji⟩ hat hw rfl rfl hb
      rw [← hst] at hl
      dsimp only
      unfold rgo
      rcases hl with ⟨h0, hf⟩ | ⟨h0, hfc2, ha2, hb2⟩
      · rw [if_neg h0]
        rw [if_neg hf.1] at hr
        rw [hr]
        exact .inl ⟨h0, hf⟩
      · rw [if_pos h0]
        rw [if_pos hfc2] at hr
        exact ran_alike ls (i + 1) _ st' _ false hr hfc2 ha2 hI2 hb2 hs2
/-- An operand is set. -/
def setOp (gs : List Gt) (p : Nat) (op v : Int) : List Gt := match gs[p]? with
  | some g => gs.set p (if op = 0 then { g with a := v } else if op = 1 then { g with b := v } else if op = 2 then { g with c := v } else g)
  | none => gs
/-- Names become places, one by one. -/
def dres (f : ByteArray → Int) : List Du → Nat → List Gt → List Int → List Gt × List Int × Fl
  | [], _, gs, os => (gs, os, (0, 0, 0))
  | u :: us, o, gs, os =>
    if f u.name = 0 then (gs, os, (142, u.line, u.col))
    else if u.gate < 0 then dres f us (o + 1) gs (os.set o (f u.name - 1))
    else dres f us o (setOp gs u.gate.toNat u.op (f u.name - 1)) os
theorem dres_bad {f : ByteArray → Int} {u : Du} {us : List Du} {o : Nat} {gs : List Gt} {os : List Int} (h : f u.name = 0) : dres f (u :: us) o gs os = (gs, os, (142, u.line, u.col)) := by
  unfold dres
  rw [if_pos h]
theorem dres_out {f : ByteArray → Int} {u : Du} {us : List Du} {o : Nat} {gs : List Gt} {os : List Int} (h : f u.name ≠ 0) (hg : u.gate < 0) : dres f (u :: us) o gs os = dres f us (o + 1) gs (os.set o (f u.name - 1)) := by
  conv => lhs; unfold dres
  rw [if_neg h, if_pos hg]
theorem dres_line {f : ByteArray → Int} {u : Du} {us : List Du} {o : Nat} {gs : List Gt} {os : List Int} (h : f u.name ≠ 0) (hg : ¬ u.gate < 0) : dres f (u :: us) o gs os = dres f us o (setOp gs u.gate.toNat u.op (f u.name - 1)) os := by
  conv => lhs; unfold dres
  rw [if_neg h, if_neg hg]
theorem setOp_at {gs : List Gt} {p : Nat} {g : Gt} (h : gs[p]? = some g) (op v : Int) : setOp gs p op v = gs.set p (if op = 0 then { g with a := v } else if op = 1 then { g with b := v } else if op = 2 then { g with c := v } else g) := by
  unfold setOp; rw [h]
theorem firstBad_cons {f : ByteArray → Int} {u : Us} {l : List Us} : firstBad f (u :: l) = if f u.name = 0 then some u else firstBad f l := by
  unfold firstBad
  rw [List.find?_cons]
  by_cases h : f u.name = 0
  · rw [if_pos h]; simp [h]
  · rw [if_neg h]
    have : (f u.name == 0) = false := by simpa using h
    rw [this]
/-- One list of a line's names. -/
theorem dres_list {f : ByteArray → Int} {gs : List Gt} {os : List Int} {o p : Nat} {g : Gt} (hg : gs[p]? = some g) (hz : g.a = 0 ∧ g.b = 0 ∧ g.c = 0) (rest : List Du) : ∀ l : List Us, l.length ≤ 3 →
    (∃ u, firstBad f l = some u ∧ ∃ gs' os', dres f (uflat (p : Int) l 0 ++ rest) o gs os = (gs', os', (142, u.line, u.col))) ∨
    (firstBad f l = none ∧ dres f (uflat (p : Int) l 0 ++ rest) o gs os = dres f rest o (gs.set p { g with a := opn f l 0, b := opn f l 1, c := opn f l 2 }) os) := by
  have hlt := (List.getElem?_eq_some_iff.1 hg).1
  have hp : ¬ ((p : Int) < 0) := by omega
  obtain ⟨k, nm, op, a, b, c⟩ := g
  obtain ⟨rfl, rfl, rfl⟩ := hz
  have hself : ∀ x : Gt, (gs.set p x)[p]? = some x := fun x => List.getElem?_set_self hlt
  intro l hl
  match l, hl with
  | [], _ =>
    right
    refine ⟨rfl, ?_⟩
    show dres f rest o gs os = dres f rest o (gs.set p ⟨k, nm, op, 0, 0, 0⟩) os
    have : gs.set p ⟨k, nm, op, 0, 0, 0⟩ = gs := by
      apply List.ext_getElem?
      intro i
      rw [List.getElem?_set]
      split
      · rename_i e; subst e; first | rw [if_pos hlt, hg] | rw [hg]
      · rfl
    rw [this]
  | [u], _ =>
    simp only [uflat, List.cons_append, List.nil_append]
    by_cases h0 : f u.name = 0
    · left
      exact ⟨u, by rw [firstBad_cons, if_pos h0], _, _, dres_bad h0⟩
    · right
      refine ⟨by rw [firstBad_cons, if_neg h0]; rfl, ?_⟩
      rw [dres_line h0 hp, Int.toNat_natCast, setOp_at hg]
      rfl
  | [u, v], _ =>
    simp only [uflat, List.cons_append, List.nil_append]
    by_cases h0 : f u.name = 0
    · left
      exact ⟨u, by rw [firstBad_cons, if_pos h0], _, _, dres_bad h0⟩
    · rw [dres_line h0 hp, Int.toNat_natCast, setOp_at hg]
      by_cases h1 : f v.name = 0
      · left
        exact ⟨v, by rw [firstBad_cons, if_neg h0, firstBad_cons, if_pos h1], _, _, dres_bad h1⟩
      · right
        refine ⟨by rw [firstBad_cons, if_neg h0, firstBad_cons, if_neg h1]; rfl, ?_⟩
        rw [dres_line h1 hp, Int.toNat_natCast, setOp_at (hself _), List.set_set]
        rfl
  | [u, v, x], _ =>
    simp only [uflat, List.cons_append, List.nil_append]
    by_cases h0 : f u.name = 0
    · left
      exact ⟨u, by rw [firstBad_cons, if_pos h0], _, _, dres_bad h0⟩
    · rw [dres_line h0 hp, Int.toNat_natCast, setOp_at hg]
      by_cases h1 : f v.name = 0
      · left
        exact ⟨v, by rw [firstBad_cons, if_neg h0, firstBad_cons, if_pos h1], _, _, dres_bad h1⟩
      · rw [dres_line h1 hp, Int.toNat_natCast, setOp_at (hself _), List.set_set]
        by_cases h2 : f x.name = 0
        · left
          exact ⟨x, by rw [firstBad_cons, if_neg h0, firstBad_cons, if_neg h1, firstBad_cons, if_pos h2], _, _, dres_bad h2⟩
        · right
          refine ⟨by rw [firstBad_cons, if_neg h0, firstBad_cons, if_neg h1, firstBad_cons, if_neg h2]; rfl, ?_⟩
          rw [dres_line h2 hp, Int.toNat_natCast, setOp_at (hself _), List.set_set]
          rfl
theorem uall_cons (us : List Us) (p : Int) (l : List (List Us × Int)) : uall ((us, p) :: l) = uflat p us 0 ++ uall l := by simp [uall]
/-- Names become places: the reader's way, list by list, and the document's, name by name. -/
theorem join_res (f : ByteArray → Int) : ∀ (l : List (List Us × Int)) (o : Nat) (st : St), (∀ x ∈ l, (x.2 = -1 ∧ x.1.length = 1) ∨ ∃ p : Nat, x.2 = (p : Int) ∧ p < st.gs.length ∧ x.1.length ≤ 3) →
    ((l.filter fun x => decide (0 ≤ x.2)).Pairwise fun x y => x.2 ≠ y.2) → (∀ x ∈ l, ∀ p : Nat, x.2 = (p : Int) → ∀ g, st.gs[p]? = some g → g.a = 0 ∧ g.b = 0 ∧ g.c = 0) →
    ((dres f (uall l) o st.gs st.outs).2.2.1 ≠ 0 ∧ Flt (joinFrom f l o st) (dres f (uall l) o st.gs st.outs).2.2) ∨
    ((dres f (uall l) o st.gs st.outs).2.2.1 = 0 ∧ joinFrom f l o st = { st with gs := (dres f (uall l) o st.gs st.outs).1, outs := (dres f (uall l) o st.gs st.outs).2.1 })
  | [], o, st, _, _, _ => .inr ⟨rfl, rfl⟩
  | (us, p) :: l, o, st, hg, hn, hz => by
    have hg2 := fun x hx => hg x (List.mem_cons_of_mem _ hx)
    rw [uall_cons]
    rcases hg (us, p) (by simp) with ⟨h1, h2⟩ | ⟨q, h1, h2, h3⟩
    · have h1' : p = -1 := h1
      subst h1'
      have hn2 : (l.filter fun x => decide (0 ≤ x.2)).Pairwise fun x y => x.2 ≠ y.2 := by
        rw [List.filter_cons, if_neg (by show ¬ decide (0 ≤ (-1 : Int)) = true; decide)] at hn
        exact hn
      match us, h2 with
      | [u], _ =>
        simp only [uflat, List.cons_append, List.nil_append]
        by_cases h0 : f u.name = 0
        · rw [dres_bad h0]
          left
          refine ⟨by show (142 : Int) ≠ 0; decide, ?_⟩
          unfold joinFrom
          rw [firstBad_cons, if_pos h0]
          exact ⟨by show (142 : Int) ≠ 0; decide, rfl, rfl, rfl⟩
        · rw [dres_out h0 (by show (-1 : Int) < 0; decide)]
          have hj : joinFrom f (([u], -1) :: l) o st = joinFrom f l (o + 1) { st with outs := st.outs.set o (f u.name - 1) } := by
            conv => lhs; unfold joinFrom
            rw [firstBad_cons, if_neg h0]
            rfl
          rw [hj]
          exact join_res f l (o + 1) { st with outs := st.outs.set o (f u.name - 1) } hg2 hn2 (fun x hx => hz x (List.mem_cons_of_mem _ hx))
    · have h1' : p = (q : Int) := h1
      subst h1'
      obtain ⟨g, hgq⟩ : ∃ g, st.gs[q]? = some g := ⟨_, List.getElem?_eq_getElem h2⟩
      rw [List.filter_cons, if_pos (by show decide (0 ≤ (q : Int)) = true; exact decide_eq_true (by omega))] at hn
      obtain ⟨hn1, hn2⟩ := List.pairwise_cons.1 hn
      rcases dres_list (f := f) (os := st.outs) (o := o) hgq (hz (us, (q : Int)) (by simp) q rfl g hgq) (uall l) us h3 with ⟨u, hb, gs', os', hd⟩ | ⟨hb, hd⟩
      · rw [hd]
        left
        refine ⟨by show (142 : Int) ≠ 0; decide, ?_⟩
        unfold joinFrom
        rw [hb]
        exact ⟨by show (142 : Int) ≠ 0; decide, rfl, rfl, rfl⟩
      · rw [hd]
        have hj : joinFrom f ((us, (q : Int)) :: l) o st = joinFrom f l o { st with gs := st.gs.set q { g with a := opn f us 0, b := opn f us 1, c := opn f us 2 } } := by
          conv => lhs; unfold joinFrom
          rw [hb]
          dsimp only
          rw [if_pos (by omega), Int.toNat_natCast]
          unfold St.setG
          rw [hgq]
        rw [hj]
        refine join_res f l o { st with gs := st.gs.set q { g with a := opn f us 0, b := opn f us 1, c := opn f us 2 } } (fun x hx => ?_) hn2 (fun x hx p hp g2 hg3 => ?_)
        · rcases hg2 x hx with t | ⟨p, a, b, c⟩
          · exact .inl t
          · exact .inr ⟨p, a, by rw [List.length_set]; exact b, c⟩
        · have hne : q ≠ p := fun e => by
            have := hn1 x (List.mem_filter.2 ⟨hx, decide_eq_true (by rw [hp]; omega)⟩)
            rw [hp, e] at this
            exact this rfl
          have hg4 : (st.gs.set q _)[p]? = some g2 := hg3
          rw [List.getElem?_set_ne hne] at hg4
          exact hz x (List.mem_cons_of_mem _ hx) p hp g2 hg4
/-- All operands are places. -/
def AllIn (gs : List Gt) (n : Nat) : Prop := ∀ g ∈ gs, (0 ≤ g.a ∧ g.a < (n : Int)) ∧ (0 ≤ g.b ∧ g.b < (n : Int)) ∧ (0 ≤ g.c ∧ g.c < (n : Int))
theorem opn_in {f : ByteArray → Int} {l : List Us} {n : Nat} (hn : 0 < n) (hf : ∀ t, 0 ≤ f t ∧ f t ≤ (n : Int)) (hb : firstBad f l = none) (j : Nat) : 0 ≤ opn f l j ∧ opn f l j < (n : Int) := by
  unfold opn
  cases h : l[j]? with
  | none => exact ⟨Int.le_refl _, by show (0 : Int) < n; omega⟩
  | some u =>
    dsimp only
    have h1 := hf u.name
    have h2 : f u.name ≠ 0 := fun e => by
      unfold firstBad at hb
      rw [List.find?_eq_none] at hb
      exact hb u (List.mem_of_getElem? h) (by simp [e])
    omega
theorem join_in {f : ByteArray → Int} {n : Nat} (hf : ∀ t, 0 ≤ f t ∧ f t ≤ (n : Int)) : ∀ (l : List (List Us × Int)) (o : Nat) (st : St), st.gs.length = n → AllIn st.gs n → AllIn (joinFrom f l o st).gs n
  | [], o, st, _, h => h
  | (us, p) :: l, o, st, hn, h => by
    unfold joinFrom
    split
    · exact h
    · rename_i hb
      split
      · refine join_in hf l o _ ((St.setG_same st _ _ _ _).2.2.2.1.trans hn) ?_
        unfold St.setG
        split
        · rename_i g hg
          intro x hx
          rcases List.mem_or_eq_of_mem_set hx with t | t
          · exact h x t
          · have hpos : 0 < n := by rw [← hn]; exact Nat.lt_of_le_of_lt (Nat.zero_le _) (List.getElem?_eq_some_iff.1 hg).1
            rw [t]
            exact ⟨opn_in hpos hf hb 0, opn_in hpos hf hb 1, opn_in hpos hf hb 2⟩
        · exact h
      · exact join_in hf l (o + 1) _ hn h
theorem AllIn.inR {gs : List Gt} (h : AllIn gs gs.length) : InR gs := fun g hg p hp => by
  obtain ⟨h1, h2, h3⟩ := h g hg
  unfold Gt.leans at hp
  split at hp
  · simp only [List.mem_cons, List.not_mem_nil, or_false] at hp
    rcases hp with rfl | rfl <;> assumption
  · split at hp
    · simp only [List.mem_cons, List.not_mem_nil, or_false] at hp
      rcases hp with rfl | rfl | rfl <;> assumption
    · cases hp
theorem join_inR {st : St} {r : Rd} (ha : Alike st r) (hI : Inv st) : InR st.join.gs := by
  have hl := (join_same st).2.1
  have h0 : AllIn st.gs st.gs.length := fun g hg => by
    obtain ⟨a, b, c⟩ := ha.ji.zr g hg
    have : 0 < st.gs.length := List.length_pos_of_mem hg
    rw [a, b, c]
    omega
  have h1 := join_in hI.j.fz (st.uses.zip st.places) 0 st rfl h0
  refine AllIn.inR ?_
  rw [hl]
  exact h1
/-- The first line in a circle, or -1. -/
def FirstC (gs : List Gt) (x : Int) : Prop := (x = -1 ∧ ∀ i, i < gs.length → Free (lnsOf gs) i) ∨ ∃ i : Nat, i < gs.length ∧ x = (i : Int) ∧ Way (lnsOf gs) i i ∧ ∀ j, j < i → ¬ Way (lnsOf gs) j j
open Classical in
noncomputable def circOf (gs : List Gt) : Int := if h : ∃ x, FirstC gs x then Classical.choose h else -1
theorem firstC_one {gs : List Gt} {x y : Int} (hx : FirstC gs x) (hy : FirstC gs y) : x = y := by
  rcases hx with ⟨ex, fx⟩ | ⟨i, hi, ex, wx, mx⟩ <;> rcases hy with ⟨ey, fy⟩ | ⟨j, hj, ey, wy, my⟩
  · omega
  · exact absurd (fx j hj) (circ_not_free wy)
  · exact absurd (fy i hi) (circ_not_free wx)
  · rcases Nat.lt_trichotomy i j with t | t | t
    · exact absurd wx (my i t)
    · omega
    · exact absurd wy (mx j t)
theorem circOf_eq {gs : List Gt} {x : Int} (h : FirstC gs x) : circOf gs = x := by
  have hex : ∃ x, FirstC gs x := ⟨x, h⟩
  unfold circOf
  rw [dif_pos hex]
  exact firstC_one (Classical.choose_spec hex) h
theorem firstC_some {gs : List Gt} (hin : InR gs) : ∃ x, FirstC gs x := by
  by_cases h : ∀ i, i < gs.length → Free (lnsOf gs) i
  · exact ⟨-1, .inl ⟨rfl, h⟩⟩
  · obtain ⟨i, hi, hw⟩ := circ_of_not_free hin.lt h
    have key : ∀ m i, i ≤ m → i < gs.length → Way (lnsOf gs) i i → ∃ x, FirstC gs x := by
      intro m
      induction m with
      | zero => intro i him hi hw; exact ⟨(i : Int), .inr ⟨i, hi, rfl, hw, fun j hj => by omega⟩⟩
      | succ m ih =>
        intro i him hi hw
        by_cases hex : ∃ j, j < i ∧ Way (lnsOf gs) j j
        · obtain ⟨j, hj, hwj⟩ := hex
          exact ih j (by omega) (by omega) hwj
        · exact ⟨(i : Int), .inr ⟨i, hi, rfl, hw, fun j hj hwj => hex ⟨j, hj, hwj⟩⟩⟩
    exact key i i (Nat.le_refl _) hi hw
theorem circOf_is {gs : List Gt} (hin : InR gs) : FirstC gs (circOf gs) := by
  obtain ⟨x, hx⟩ := firstC_some hin
  rw [circOf_eq hx]
  exact hx
end Go.Proofs.YtjkmoahnociaiaaDoor
/- What Parse answers: one value for each text. -/
namespace Go.Proofs.YtjkmoahnociaiaaDoor
open Go.RowKit

/-- What a text is read as: a fault, or a circuit. -/
structure Out where
  F : Fl
  name : ByteArray
  gs : List Gt
  outs : List Int
def Out.bad (F : Fl) : Out := ⟨F, ⟨#[]⟩, [], []⟩
noncomputable def parseOut (text : ByteArray) : Out :=
  if 1048576 < text.size then Out.bad (5, 0, 0)
  else if (rgo Rd.zero true (dlines (linesOf text) 0)).2.1 ≠ 0 then Out.bad (rgo Rd.zero true (dlines (linesOf text) 0)).2
  else if (rgo Rd.zero true (dlines (linesOf text) 0)).1.done = false then Out.bad (140, ((linesOf text).length : Int), (lastOf text : Int) + 1)
  else
    let r := (rgo Rd.zero true (dlines (linesOf text) 0)).1
    let D := dres r.f r.us 0 r.gs r.outs
    if D.2.2.1 ≠ 0 then Out.bad D.2.2
    else if 0 ≤ circOf D.1 then Out.bad (143, (r.spots.getD (circOf D.1).toNat (0, 0)).1, (r.spots.getD (circOf D.1).toNat (0, 0)).2)
    else ⟨(0, 0, 0), r.name, D.1, D.2.1⟩
/-- A call that answers so, with lists of its own. -/
def OutR (w : World) (O : Out) (e : Ending) (w' : World) : Prop :=
  Below w.heap.size w w' ∧ ∃ A ca B cb, e = .returned (.tuple #[.agg #[.string O.name, .slice A O.gs.length ca, .slice B O.outs.length cb], faultV O.F]) ∧ w'.ownsRow w.heap.size 46 6 (.slice A O.gs.length ca) O.gs.length (gcells O.gs) ∧ w'.ownsRow w.heap.size 3 1 (.slice B O.outs.length cb) O.outs.length (nums .i64 O.outs)
theorem OutR.bad {w w' : World} {F : Fl} {e : Ending} (hb : Below w.heap.size w w') (he : e = .returned (.tuple #[zeroC, faultV F])) : OutR w (Out.bad F) e w' :=
  ⟨hb, none, 0, none, 0, he, World.ownsRow_nil _ _ _ _, World.ownsRow_nil _ _ _ _⟩
theorem parse_all (text : ByteArray) (w : World) (hop : OpsAt w 0) : Calls Tryd.prog 14 #[.string text] w (OutR w (parseOut text)) := by
  have hsz : text.size ≤ 1048576 → ∀ l ∈ linesOf text, l.size ≤ 4000000 := fun h l hl => by have := linesOf_size text l hl; omega
  have hrun : text.size ≤ 1048576 → ∀ st, Ran St.zero 0 (linesOf text) st → RunR st (rgo Rd.zero true (dlines (linesOf text) 0)) := fun h st hr => ran_alike _ _ _ _ _ _ hr rfl zero_alike zero_inv rfl (hsz h)
  by_cases hlong : 1048576 < text.size
  · refine (parse_any text (fun st => -1) w hop (fun h => absurd hlong (by omega))).mono fun e w' h => ?_
    unfold parseOut
    rw [if_pos hlong]
    obtain ⟨hb, ⟨_, he⟩ | ⟨hs, _⟩⟩ := h
    · exact OutR.bad hb he
    · omega
  · refine (parse_any text (fun st => circOf st.join.gs) w hop (fun _ st hr hI hfc hend hj => ?_)).mono fun e w' h => ?_
    · rcases hrun (by omega) st hr with ⟨_, hf⟩ | ⟨_, _, ha, _⟩
      · exact absurd hfc hf.1
      · have hin := join_inR ha hI
        refine ⟨?_, fun A n c W hA hn => ?_⟩
        · rcases circOf_is hin with ⟨e, _⟩ | ⟨i, hi, e, _⟩ <;> (rw [e]; omega)
        · have hl : st.join.gs.length ≤ 65536 := by rw [(join_same st).2.1]; exact hI.b.gl
          refine (circle_any A n c st.join.gs W hA hn hin (by omega)).mono fun e w' ⟨x, he, hx, hb⟩ => ⟨?_, hb⟩
          rw [he, circOf_eq (x := x)]
          subst hn
          exact hx
    · obtain ⟨hb, ⟨hl, _⟩ | ⟨hs, st, hr, hc⟩⟩ := h
      · exact absurd hl hlong
      · have hR := hrun hs st hr
        unfold parseOut
        rw [if_neg hlong]
        rcases hR with ⟨h0, hf⟩ | ⟨h0, hfc, ha, hI⟩
        · rw [if_pos h0]
          have hF : faultOf st (linesOf text).length (lastOf text) (circOf st.join.gs) = (rgo Rd.zero true (dlines (linesOf text) 0)).2 := by
            unfold faultOf
            rw [if_pos hf.1, hf.2.1, hf.2.2.1, hf.2.2.2]
          rw [hF] at hc
          rcases hc with ⟨_, he⟩ | ⟨h1, _⟩
          · exact OutR.bad hb he
          · exact absurd h1 h0
        · rw [if_neg (fun t => t h0)]
          by_cases hd : (rgo Rd.zero true (dlines (linesOf text) 0)).1.done = false
          · rw [if_pos hd]
            have hF : faultOf st (linesOf text).length (lastOf text) (circOf st.join.gs) = (140, ((linesOf text).length : Int), (lastOf text : Int) + 1) := by
              unfold faultOf
              rw [if_neg (fun t => t hfc), if_pos (by rw [ha.dn]; exact hd)]
            rw [hF] at hc
            rcases hc with ⟨_, he⟩ | ⟨h1, _⟩
            · exact OutR.bad hb he
            · exact absurd h1 (by show ¬ (140 : Int) = 0; decide)
          · rw [if_neg hd]
            have hjr := join_res st.f (st.uses.zip st.places) 0 st ha.ji.gr ha.ji.nd (fun x _ p _ g hg => ha.ji.zr g (List.mem_of_getElem? hg))
            have huall : uall (st.uses.zip st.places) = (rgo Rd.zero true (dlines (linesOf text) 0)).1.us := ha.us
            rw [huall, ha.f, ha.gs, ha.os] at hjr
            have hjdef : joinFrom (rgo Rd.zero true (dlines (linesOf text) 0)).1.f (st.uses.zip st.places) 0 st = st.join := by rw [← ha.f]; rfl
            rw [hjdef] at hjr
            have hFst : faultOf st (linesOf text).length (lastOf text) (circOf st.join.gs) = if st.join.fc ≠ 0 then (st.join.fc, st.join.fl, st.join.fcol) else if 0 ≤ circOf st.join.gs then (143, (st.join.spots.getD (circOf st.join.gs).toNat (0, 0)).1, (st.join.spots.getD (circOf st.join.gs).toNat (0, 0)).2) else (0, 0, 0) := by
              unfold faultOf
              rw [if_neg (fun t => t hfc), if_neg (by rw [ha.dn]; exact hd)]
            rw [hFst] at hc
            dsimp only
            rcases hjr with ⟨h1, hf⟩ | ⟨h1, hj⟩
            · rw [if_pos h1]
              rw [if_pos hf.1] at hc
              have hF : (st.join.fc, st.join.fl, st.join.fcol) = (dres (rgo Rd.zero true (dlines (linesOf text) 0)).1.f (rgo Rd.zero true (dlines (linesOf text) 0)).1.us 0 (rgo Rd.zero true (dlines (linesOf text) 0)).1.gs (rgo Rd.zero true (dlines (linesOf text) 0)).1.outs).2.2 := by
                rw [hf.2.1, hf.2.2.1, hf.2.2.2]
              rw [hF] at hc
              rcases hc with ⟨_, he⟩ | ⟨h2, _⟩
              · exact OutR.bad hb he
              · exact absurd h2 h1
            · rw [if_neg (fun t => t h1)]
              have e1 : st.join.gs = (dres (rgo Rd.zero true (dlines (linesOf text) 0)).1.f (rgo Rd.zero true (dlines (linesOf text) 0)).1.us 0 (rgo Rd.zero true (dlines (linesOf text) 0)).1.gs (rgo Rd.zero true (dlines (linesOf text) 0)).1.outs).1 := by rw [hj]
              have e2 : st.join.outs = (dres (rgo Rd.zero true (dlines (linesOf text) 0)).1.f (rgo Rd.zero true (dlines (linesOf text) 0)).1.us 0 (rgo Rd.zero true (dlines (linesOf text) 0)).1.gs (rgo Rd.zero true (dlines (linesOf text) 0)).1.outs).2.1 := by rw [hj]
              have e3 : st.join.spots = (rgo Rd.zero true (dlines (linesOf text) 0)).1.spots := by rw [hj]; exact ha.sp
              have e4 : st.join.name = (rgo Rd.zero true (dlines (linesOf text) 0)).1.name := by rw [hj]; exact ha.nm
              have e5 : st.join.fc = 0 := by rw [hj]; exact hfc
              rw [if_neg (fun t => t e5), e3] at hc
              rw [← e1, ← e2, ← e4]
              by_cases hv : 0 ≤ circOf st.join.gs
              · rw [if_pos hv] at hc ⊢
                rcases hc with ⟨_, he⟩ | ⟨h2, _⟩
                · exact OutR.bad hb he
                · exact absurd h2 (by show ¬ (143 : Int) = 0; decide)
              · rw [if_neg hv] at hc ⊢
                rcases hc with ⟨h2, _⟩ | ⟨_, A, ca, B, cb, he, h3, h4⟩
                · exact absurd rfl h2
                · exact ⟨hb, A, ca, B, cb, he, h3, h4⟩
end Go.Proofs.YtjkmoahnociaiaaDoor
