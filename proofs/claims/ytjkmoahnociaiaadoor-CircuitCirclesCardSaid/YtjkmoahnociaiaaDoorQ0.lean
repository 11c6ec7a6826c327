/- The reader of circuits: what it holds. -/
import Derived.Test.YtjkmoahnociaiaaDoorP6
namespace Go.Proofs.YtjkmoahnociaiaaDoor
open Go.RowKit Go.WideMaps Go.Maps

theorem rows_aside {w w' : World} {base size n : Nat} {e t : TypeId} {v : Value} {xs : List Value} {row : Option Nat} (h : w.ownsRow base e size v n xs) (hg : w.grownBy w' row) (hr : ∀ g, row = some g → Typed w g t) (he : e ≠ t) : w'.ownsRow base e size v n xs :=
  World.ownsRow.kept h hg (by
    rcases hv : v.ownBlock with _ | g
    · exact .inl rfl
    · exact .inr fun e2 => (rows_typed h hv).ne (hr g e2.symm) he rfl)
theorem Hold.aside {w w' : World} {base : Nat} {l : List RW} (h : Hold w base l) {t : TypeId} {row : Option Nat} (hg : w.grownBy w' row) (hr : ∀ g, row = some g → Typed w g t) (he : ∀ r ∈ l, r.e ≠ t) : Hold w' base l :=
  ⟨fun i r hi => rows_aside (h.1 i r hi) hg hr (he r (List.mem_of_getElem? hi)), h.2⟩
/-- A word and its column. -/
structure Wd where
  text : ByteArray
  col : Int
def Wd.cells (x : Wd) : List Value := [.string x.text, .int .i64 x.col]
def wcells (l : List Wd) : List Value := l.flatMap Wd.cells
/-- A name that is used, and where. -/
structure Us where
  name : ByteArray
  line : Int
  col : Int
def Us.cells (x : Us) : List Value := [.string x.name, .int .i64 x.line, .int .i64 x.col]
def ucells (l : List Us) : List Value := l.flatMap Us.cells
def pcells (l : List (Int × Int)) : List Value := l.flatMap fun p => [.int .i64 p.1, .int .i64 p.2]
theorem pcells_length (l : List (Int × Int)) : (pcells l).length = l.length * 2 := by
  induction l with
  | nil => rfl
  | cons x l ih =>
    unfold pcells at ih ⊢
    simp only [List.flatMap_cons, List.length_append, ih, List.length_cons, List.length_nil]
    omega
theorem ucells_length (l : List Us) : (ucells l).length = l.length * 3 := by
  induction l with
  | nil => rfl
  | cons x l ih =>
    unfold ucells at ih ⊢
    simp only [List.flatMap_cons, List.length_append, ih, List.length_cons, Us.cells, List.length_nil]
    omega
theorem wcells_length (l : List Wd) : (wcells l).length = l.length * 2 := by
  induction l with
  | nil => rfl
  | cons x l ih =>
    unfold wcells at ih ⊢
    simp only [List.flatMap_cons, List.length_append, ih, List.length_cons, Wd.cells, List.length_nil]
    omega
theorem wcells_get {l : List Wd} {i : Nat} {x : Wd} (hx : l[i]? = some x) : (wcells l)[i * 2]? = some (.string x.text) ∧ (wcells l)[i * 2 + 1]? = some (.int .i64 x.col) := by
  induction l generalizing i with
  | nil => simp at hx
  | cons y l ih =>
    rcases i with _ | i
    · simp at hx
      subst hx
      exact ⟨rfl, rfl⟩
    · have h := ih (i := i) (by simpa using hx)
      have e : wcells (y :: l) = y.cells ++ wcells l := rfl
      have hl : y.cells.length = 2 := rfl
      rw [e, List.getElem?_append_right (by rw [hl]; omega), List.getElem?_append_right (by rw [hl]; omega), hl, show (i + 1) * 2 - 2 = i * 2 by omega, show (i + 1) * 2 + 1 - 2 = i * 2 + 1 by omega]
      exact h
theorem pcells_append (a b : List (Int × Int)) : pcells (a ++ b) = pcells a ++ pcells b := by simp [pcells]
theorem ucells_append (a b : List Us) : ucells (a ++ b) = ucells a ++ ucells b := by simp [ucells]
theorem wcells_append (a b : List Wd) : wcells (a ++ b) = wcells a ++ wcells b := by simp [wcells]
/-- A list of uses: where it lies, its room, what it says. -/
structure UR where
  A : Option Addr
  c : Nat
  xs : List Us
def UR.v (r : UR) : Value := .slice r.A r.xs.length r.c
def UR.row (r : UR) : RW := ⟨118, 3, r.v, r.xs.length, ucells r.xs⟩
/-- What the reader holds. -/
structure St where
  name : ByteArray
  gs : List Gt
  outs : List Int
  begun : Bool
  ended : Bool
  line : Int
  words : List Wd
  wA : Option Addr
  wC : Nat
  next : Int
  end_ : Int
  fc : Int
  fl : Int
  fcol : Int
  f : ByteArray → Int
  spots : List (Int × Int)
  uses : List (List Us)
  places : List Int
/-- Where it holds it. -/
structure Ex where
  vG : Value
  vO : Value
  vS : Value
  vU : Value
  vP : Value
  bm : Nat
  nm : Nat
  R : List UR
def cellsS (st : St) (x : Ex) : List Value :=
  [.string st.name, x.vG, x.vO, .bool st.begun, .bool st.ended, .int .i64 st.line, .slice st.wA st.words.length st.wC, .int .i64 st.next, .int .i64 st.end_, .int .i64 st.fc, .int .i64 st.fl, .int .i64 st.fcol, .map (some x.bm), x.vS, x.vU, x.vP]
def rowsS (st : St) (x : Ex) : List RW :=
  [⟨46, 6, x.vG, st.gs.length, gcells st.gs⟩, row1 3 x.vO (nums .i64 st.outs), ⟨33, 2, x.vS, st.spots.length, pcells st.spots⟩, row1 115 x.vU (x.R.map UR.v), row1 3 x.vP (nums .i64 st.places)] ++ x.R.map UR.row
/-- The words of the line at hand: a row that none writes. -/
def WordsAt (w : World) (A : Option Addr) (ws : List Wd) : Prop := 0 < ws.length → ∃ g cur, A = some ⟨g, 0, none⟩ ∧ Blk w g 109 cur ∧ ∀ (j : Nat) x, (wcells ws)[j]? = some x → cur[j]? = some x
/-- All but the block of the reader itself. -/
structure PR (w : World) (base b : Nat) (st : St) (x : Ex) : Prop where
  hold : Hold w base (rowsS st x)
  map : MapIs w x.bm x.nm st.f
  mb : base ≤ x.bm
  bb : base ≤ b
  ne : x.bm ≠ b
  nm : x.nm ≤ st.gs.length
  uses : x.R.map UR.xs = st.uses
  words : WordsAt w st.wA st.words
def PS (w : World) (base b : Nat) (st : St) (x : Ex) : Prop := Hid (Blk w b 79 (cellsS st x)) ∧ Hid (PR w base b st x)
/-- What is of none of these types is as it was. -/
def KeepT (w w' : World) : Prop := ∀ (g : Nat) (t : TypeId) (l : List Value), Blk w g t l → t ∉ [79, 46, 3, 33, 115] → Blk w' g t l
theorem KeepT.refl (w : World) : KeepT w w := fun _ _ _ h _ => h
theorem KeepT.trans {a b c : World} (h : KeepT a b) (k : KeepT b c) : KeepT a c := fun g t l hg ht => k g t l (h g t l hg ht) ht
theorem KeepT.of_below {w w' : World} (h : Below w.heap.size w w') : KeepT w w' := fun _ _ _ hg _ => hg.self h
theorem KeepT.of_row {w w' : World} {row : Option Nat} (h : w.grownBy w' row) {t : TypeId} (ht : t ∈ [79, 46, 3, 33, 115]) (hr : ∀ g, row = some g → Typed w g t) : KeepT w w' := fun g u l hg hu => hg.grown h (fun e => by
  have h1 := hr g e.symm
  exact (hg.typed.ne h1 (fun e2 => hu (e2 ▸ ht))) rfl)
theorem KeepT.words {w w' : World} {A : Option Addr} {ws : List Wd} (h : KeepT w w') (hw : WordsAt w A ws) : WordsAt w' A ws := fun h0 => by
  obtain ⟨g, cur, hA, hb, hc⟩ := hw h0
  exact ⟨g, cur, hA, h g _ _ hb (by decide), hc⟩
theorem WordsAt.at_ {w : World} {A : Option Addr} {ws : List Wd} (h : WordsAt w A ws) {i : Nat} {x : Wd} (hx : ws[i]? = some x) : ∃ g, A = some ⟨g, 0, none⟩ ∧ w.cell? ⟨g, i * 2, none⟩ = some (.string x.text) ∧ w.cell? ⟨g, i * 2 + 1, none⟩ = some (.int .i64 x.col) := by
  have hi := (List.getElem?_eq_some_iff.1 hx).1
  obtain ⟨g, cur, hA, hb, hc⟩ := h (by omega)
  obtain ⟨h1, h2⟩ := wcells_get hx
  exact ⟨g, hA, by rw [hb.cell]; exact hc _ _ h1, by rw [hb.cell]; exact hc _ _ h2⟩
section
variable {w w' : World} {base b : Nat} {st st' : St} {x : Ex}
theorem rowsS_types (st : St) (x : Ex) {t : TypeId} (h1 : 46 ≠ t) (h2 : 3 ≠ t) (h3 : 33 ≠ t) (h4 : 115 ≠ t) (h5 : 118 ≠ t) : ∀ r ∈ rowsS st x, r.e ≠ t := fun r hr => by
  unfold rowsS at hr
  rcases List.mem_append.1 hr with hr | hr
  · simp only [List.mem_cons, List.not_mem_nil, or_false] at hr
    rcases hr with rfl | rfl | rfl | rfl | rfl
    · exact h1
    · exact h2
    · exact h3
    · exact h4
    · exact h2
  · obtain ⟨u, _, rfl⟩ := List.mem_map.1 hr
    exact h5
theorem PR.below (h : PR w base b st x) (hb : Below w.heap.size w w') : PR w' base b st x :=
  ⟨h.hold.below hb, h.map.below hb, h.mb, h.bb, h.ne, h.nm, h.uses, (KeepT.of_below hb).words h.words⟩
theorem PS.below (h : PS w base b st x) (hb : Below w.heap.size w w') : PS w' base b st x := by
  obtain ⟨h1, h2⟩ := h
  exact ⟨Lib.hid (h1.out.self hb), Lib.hid (h2.out.below hb)⟩
/-- The reader's own block is written. -/
theorem PR.own (h : PR w base b st x) {l : List Value} (hB : Blk w b 79 l) (hg : w.grownBy w' (some b)) : PR w' base b st x :=
  ⟨Hold.aside h.hold hg (fun g e => by cases e; exact hB.typed) (rowsS_types st x (by decide) (by decide) (by decide) (by decide) (by decide)), h.map.kept hg (fun e => h.ne (Option.some.inj e)), h.mb, h.bb, h.ne, h.nm, h.uses, (KeepT.of_row hg (t := 79) (by decide) (fun g e => by cases e; exact hB.typed)).words h.words⟩
/-- What the rows say is all that counts. -/
theorem PR.as (h : PR w base b st x) (h1 : st'.gs = st.gs) (h2 : st'.outs = st.outs) (h3 : st'.words = st.words) (h3' : st'.wA = st.wA) (h4 : st'.f = st.f) (h5 : st'.spots = st.spots) (h6 : st'.uses = st.uses) (h7 : st'.places = st.places) : PR w base b st' x := by
  have e : rowsS st' x = rowsS st x := by unfold rowsS; rw [h1, h2, h5, h7]
  exact ⟨by rw [e]; exact h.hold, by rw [h4]; exact h.map, h.mb, h.bb, h.ne, by rw [h1]; exact h.nm, by rw [h6]; exact h.uses, by rw [h3, h3']; exact h.words⟩
theorem KeepT.own {l : List Value} (hB : Blk w b 79 l) (hg : w.grownBy w' (some b)) : KeepT w w' :=
  KeepT.of_row hg (t := 79) (by decide) (fun g e => by cases e; exact hB.typed)
end
/-- What a call on the reader leaves. -/
def Did (w : World) (base b : Nat) (st : St) (x : Ex) (w' : World) : Prop := PS w' base b st x ∧ Below base w w' ∧ KeepT w w'

theorem MapIs.not_typed {w : World} {b n : Nat} {f : ByteArray → Int} (h : MapIs w b n f) {t : TypeId} (ht : Typed w b t) : False := by
  obtain ⟨D, h1, _⟩ := h
  obtain ⟨l, hl⟩ := ht
  obtain ⟨es, n', hm, _⟩ := h1
  rw [hm] at hl
  cases hl
section
variable {w w2 w3 : World} {base b z : Nat} {st st' st2 : St} {x : Ex}
theorem PS.size (h : PS w base b st x) : base ≤ b ∧ b < w.heap.size := by
  obtain ⟨h1, h2⟩ := h
  exact ⟨h2.out.bb, h1.out.lt⟩
theorem PS.wa (h : PS w base b st x) {a : Addr} (ha : st.wA = some a) (h0 : 0 < st.words.length) : a.block < w.heap.size := by
  obtain ⟨h1, h2⟩ := h
  obtain ⟨g, cur, hA, hb, _⟩ := h2.out.words h0
  rw [ha] at hA
  cases hA
  exact hb.lt
/-- A word's block of the call's own is written. -/
theorem PS.word (h : PS w2 base b st x) (hz : Typed w2 z 109) (hne : ∀ a, st.wA = some a → 0 < st.words.length → a.block ≠ z) (hg : w2.grownBy w3 (some z)) : PS w3 base b st x := by
  obtain ⟨h1, h2⟩ := h
  refine ⟨Lib.hid (h1.out.aside hz (by decide) hg), Lib.hid ⟨Hold.aside h2.out.hold hg (fun g e => by cases e; exact hz) (rowsS_types st x (by decide) (by decide) (by decide) (by decide) (by decide)), h2.out.map.kept hg (fun e => ?_), h2.out.mb, h2.out.bb, h2.out.ne, h2.out.nm, h2.out.uses, fun h0 => ?_⟩⟩
  · cases e
    exact h2.out.map.not_typed hz
  · obtain ⟨g, cur, hA, hb, hc⟩ := h2.out.words h0
    exact ⟨g, cur, hA, hb.grown hg (fun e => hne _ hA h0 (Option.some.inj e)), hc⟩
theorem Did.refl (h : PS w base b st x) : Did w base b st x w := ⟨h, Below.refl _ _, KeepT.refl _⟩
theorem Did.trans {x2 : Ex} (h : Did w base b st x w2) (k : Did w2 base b st2 x2 w3) : Did w base b st2 x2 w3 := ⟨k.1, h.2.1.trans k.2.1, h.2.2.trans k.2.2⟩
theorem Did.below (h : Did w base b st x w2) (hb : Below w2.heap.size w2 w3) : Did w base b st x w3 :=
  ⟨h.1.below hb, h.2.1.trans (hb.mono (Nat.le_trans h.1.size.1 (Nat.le_of_lt h.1.size.2))), h.2.2.trans (KeepT.of_below hb)⟩
theorem Did.alloc (h : Did w base b st x w2) (o : Obj) : Did w base b st x (w2.alloc o) := h.below (below1 w2 o)
theorem Did.drew (h : Did w base b st x w2) : Did w base b st x w2.drew := h.below (below_drew0 (Below.refl _ _))
theorem Did.drewN (h : Did w base b st x w2) (n : Nat) : Did w base b st x (w2.drewN n) := h.below (below_drewN (Below.refl _ _) n)
theorem KeepT.new (h : KeepT w w2) (hg : w2.grownBy w3 (some z)) (hz : w.heap.size ≤ z) : KeepT w w3 := fun g t l hB ht => (h g t l hB ht).grown hg (fun e => by
  have h1 := hB.lt
  have h2 := Option.some.inj e
  omega)
theorem Did.word {x2 : Ex} (hp : PS w base b st' x2) (hwa : st.wA = st'.wA) (hww : st.words = st'.words) (h : Did w base b st x w2) (hz : Typed w2 z 109) (hg : w2.grownBy w3 (some z)) (hzw : w.heap.size ≤ z) : Did w base b st x w3 :=
  ⟨h.1.word hz (fun a ha h0 e => by
    rw [hwa] at ha
    rw [hww] at h0
    have := hp.wa ha h0
    omega) hg, h.2.1.grown hg (Nat.le_trans h.1.size.1 (Nat.le_of_lt h.1.size.2)) (fun g e => by cases e; have := hp.size; omega), h.2.2.new hg hzw⟩
end

section
variable {w w1 w2 : World} {base b : Nat} {st st' : St} {x x' : Ex}
theorem KeepT.rows {w w' : World} {base size n : Nat} {e : TypeId} {v : Value} {xs : List Value} (h : KeepT w w') (hr : w.ownsRow base e size v n xs) (he : e ∉ [79, 46, 3, 33, 115]) : w'.ownsRow base e size v n xs := by
  refine ⟨hr.1, ?_⟩
  rcases hr.2 with hn | ⟨g, cap, cur, hv, hb, hh, rest⟩
  · exact .inl hn
  · refine .inr ⟨g, cap, cur, hv, hb, ?_, rest⟩
    have h1 : Blk w g e cur.toList := by
      show w.heap[g]? = some (.cells cur.toList.toArray e (0, 0))
      rw [Array.toArray_toList]
      exact hh
    have h2 := h g e _ h1 he
    have h3 : w'.heap[g]? = some (.cells cur.toList.toArray e (0, 0)) := h2
    rw [Array.toArray_toList] at h3
    exact h3
/-- One row is grown. -/
theorem PR.grow (h : PR w base b st x) {i : Nat} {r r' : RW} (hi : (rowsS st x)[i]? = some r) (hg : w.grownBy w1 r.v.ownBlock) (hr : r'.own w1 base) (hn : r'.v.ownBlock = r.v.ownBlock ∨ r'.v.ownBlock = some w.heap.size) (hst : rowsS st' x' = (rowsS st x).set i r')
    (hf : st'.f = st.f) (hw : st'.words = st.words) (ha : st'.wA = st.wA) (hm : x'.bm = x.bm) (hnm : x'.nm = x.nm) (hu : x'.R.map UR.xs = st'.uses) (hgl : st.gs.length ≤ st'.gs.length) (he : r.e ∈ [79, 46, 3, 33, 115]) : PR w1 base b st' x' := by
  have hty : ∀ g, r.v.ownBlock = some g → Typed w g r.e := fun g e => rows_typed (h.hold.1 i r hi) e
  refine ⟨by rw [hst]; exact h.hold.turn hi hg hr (hn.imp id fun e => ⟨_, e, Nat.le_refl _⟩), ?_, by rw [hm]; exact h.mb, h.bb, by rw [hm]; exact h.ne, by rw [hnm]; exact Nat.le_trans h.nm hgl, hu, ?_⟩
  · rw [hm, hnm, hf]
    exact h.map.kept hg (fun e => h.map.not_typed (hty _ e.symm))
  · rw [hw, ha]
    exact (KeepT.of_row hg he hty).words h.words
/-- .. and its new address laid into the reader's own block. -/
theorem PS.grow (hB : Blk w b 79 (cellsS st x)) (h : PR w base b st x) {i c : Nat} {r r' : RW} (hi : (rowsS st x)[i]? = some r) (hg : w.grownBy w1 r.v.ownBlock) (hr : r'.own w1 base) (hn : r'.v.ownBlock = r.v.ownBlock ∨ r'.v.ownBlock = some w.heap.size) (hst : rowsS st' x' = (rowsS st x).set i r')
    (hf : st'.f = st.f) (hw : st'.words = st.words) (ha : st'.wA = st.wA) (hm : x'.bm = x.bm) (hnm : x'.nm = x.nm) (hu : x'.R.map UR.xs = st'.uses) (hgl : st.gs.length ≤ st'.gs.length) (he : r.e ∈ [46, 3, 33, 115]) (hc : (cellsS st x).set c r'.v = cellsS st' x') : Blk w1 b 79 (cellsS st x) ∧ Did w base b st' x' (w1.setCell ⟨b, c, none⟩ r'.v) := by
  have hty : ∀ g, r.v.ownBlock = some g → Typed w g r.e := fun g e => rows_typed (h.hold.1 i r hi) e
  have he' : r.e ∈ [79, 46, 3, 33, 115] := List.mem_cons_of_mem _ he
  have hne : 79 ≠ r.e := fun e => by rw [← e] at he; revert he; decide
  have hB1 : Blk w1 b 79 (cellsS st x) := hB.grown hg (fun e => (hB.typed.ne (hty _ e.symm) hne) rfl)
  have h1 := h.grow hi hg hr hn hst hf hw ha hm hnm hu hgl he'
  have hon := only_setCell (only_refl w1 (some b)) (p := ⟨b, c, none⟩) (.inl rfl) r'.v
  have hb1 : base ≤ w.heap.size := Nat.le_trans h.bb (Nat.le_of_lt hB.lt)
  have hbl : Below base w w1 := (Below.refl base w).grown hg hb1 (fun g e => (World.ownsRow.lt (h.hold.1 i r hi) g e).1)
  refine ⟨hB1, ⟨⟨Lib.hid (by have := hB1.set_ c r'.v; rwa [hc] at this), Lib.hid (h1.own hB1 hon)⟩, hbl.grown hon (Nat.le_trans hb1 hbl.size) (fun z e => by cases e; exact h.bb), (KeepT.of_row hg he' hty).trans (KeepT.own hB1 hon)⟩⟩
end

/-! ## fail -/
def St.fail (st : St) (e col : Int) : St := if st.fc = 0 then { st with fc := e, fl := st.line, fcol := col } else st
set_option maxRecDepth 100000 in
set_option maxHeartbeats 4000000 in
theorem fail_any (base b : Nat) (st : St) (x : Ex) (e col : Int) (w : World) (h : PS w base b st x) :
    Calls Tryd.prog 60 #[.pointer (some ⟨b, 0, none⟩), .int .i64 e, .int .i64 col] w fun e' w' => e' = .returned (.tuple #[]) ∧ Did w base b (st.fail e col) x w' := by
  obtain ⟨hB, hP⟩ := h
  have c5 : w.cell? ⟨b, 5, none⟩ = some (.int .i64 st.line) := (hB.out.cell 5).trans rfl
  have c9 : w.cell? ⟨b, 9, none⟩ = some (.int .i64 st.fc) := (hB.out.cell 9).trans rfl
  have c10 : w.cell? ⟨b, 10, none⟩ = some (.int .i64 st.fl) := (hB.out.cell 10).trans rfl
  have c11 : w.cell? ⟨b, 11, none⟩ = some (.int .i64 st.fcol) := (hB.out.cell 11).trans rfl
  have f9 := hB.out.frozen 9
  have f10 := hB.out.frozen 10
  have f11 := hB.out.frozen 11
  have hbb := hP.out.bb
  go_enter Tryd.func60, Tryd.ntmps60
  by_cases h0 : st.fc = 0
  · have hst : st.fail e col = { st with fc := e, fl := st.line, fcol := col } := by unfold St.fail; rw [if_pos h0]
    rw [h0] at c9
    have hon := only_setCell (only_setCell (only_setCell (only_refl w (some b)) (p := ⟨b, 9, none⟩) (.inl rfl) (.int .i64 e)) (p := ⟨b, 10, none⟩) (.inl rfl) (.int .i64 st.line)) (p := ⟨b, 11, none⟩) (.inl rfl) (.int .i64 col)
    have hb2 := ((hB.out.set_ 9 (.int .i64 e)).set_ 10 (.int .i64 st.line)).set_ 11 (.int .i64 col)
    have hd : Hid (Did w base b (st.fail e col) x (((w.setCell ⟨b, 9, none⟩ (.int .i64 e)).setCell ⟨b, 10, none⟩ (.int .i64 st.line)).setCell ⟨b, 11, none⟩ (.int .i64 col))) := Lib.hid (by
      rw [hst]
      exact ⟨⟨Lib.hid hb2, Lib.hid ((hP.out.own hB.out hon).as rfl rfl rfl rfl rfl rfl rfl rfl)⟩, (Below.refl base w).grown hon (Nat.le_trans hbb (Nat.le_of_lt hB.out.lt)) (fun z e => by cases e; exact hbb), KeepT.own hB.out hon⟩)
    clear hon hb2 hB hP hst
    go_wp2
    go_end0
    exact ⟨rfl, hd.out⟩
  · have hst : st.fail e col = st := by unfold St.fail; rw [if_neg h0]
    have h1 : (st.fc == 0) = false := by simpa using h0
    have hd : Hid (Did w base b (st.fail e col) x w) := Lib.hid (by
      rw [hst]
      exact ⟨⟨hB, hP⟩, Below.refl _ _, KeepT.refl _⟩)
    clear hB hP hst
    go_wp2
    go_end0
    exact ⟨rfl, hd.out⟩
end Go.Proofs.YtjkmoahnociaiaaDoor
