/- The reader: join (places in the place of names). -/
import Derived.Test.YtjkmoahnociaiaaDoorQ7
namespace Go.Proofs.YtjkmoahnociaiaaDoor
open Go.RowKit Go.WideMaps Go.Maps

def firstBad (f : ByteArray → Int) (l : List Us) : Option Us := l.find? fun u => f u.name == 0
def opn (f : ByteArray → Int) (l : List Us) (j : Nat) : Int := match l[j]? with | some u => f u.name - 1 | none => 0
def St.setG (st : St) (p : Nat) (a b c : Int) : St := match st.gs[p]? with | some g => { st with gs := st.gs.set p { g with a := a, b := b, c := c } } | none => st
def joinFrom (f : ByteArray → Int) : List (List Us × Int) → Nat → St → St
  | [], _, s => s
  | (l, p) :: r, o, s => match firstBad f l with
    | some u => { s with fc := 142, fl := u.line, fcol := u.col }
    | none => if 0 ≤ p then joinFrom f r o (s.setG p.toNat (opn f l 0) (opn f l 1) (opn f l 2)) else joinFrom f r (o + 1) { s with outs := s.outs.set o (opn f l 0) }
def St.join (st : St) : St := joinFrom st.f (st.uses.zip st.places) 0 st
/-- What holds between lines. -/
structure StJ (st : St) : Prop where
  us : ∀ l ∈ st.uses, l.length ≤ 3
  nm : ∀ l ∈ st.uses, ∀ u ∈ l, u.name.size ≤ 4000000
  pl : ∀ p ∈ st.places, p = -1 ∨ (0 ≤ p ∧ p < st.gs.length)
  ct : st.places.count (-1) = st.outs.length
  fz : ∀ t, 0 ≤ st.f t ∧ st.f t ≤ st.gs.length
theorem St.setG_same (st : St) (p : Nat) (a b c : Int) : (st.setG p a b c).f = st.f ∧ (st.setG p a b c).uses = st.uses ∧ (st.setG p a b c).places = st.places ∧ (st.setG p a b c).gs.length = st.gs.length ∧ (st.setG p a b c).outs = st.outs ∧ (st.setG p a b c).words = st.words ∧ (st.setG p a b c).wA = st.wA := by
  unfold St.setG
  split
  · exact ⟨rfl, rfl, rfl, by simp, rfl, rfl, rfl⟩
  · exact ⟨rfl, rfl, rfl, rfl, rfl, rfl, rfl⟩
theorem rows_somewhere {w : World} {base : Nat} {e : TypeId} {size : Nat} {v : Value} {n : Nat} {xs : List Value} (h : w.ownsRow base e size v n xs) (hn : 0 < n) : ∃ g cap, v = .slice (some ⟨g, 0, none⟩) n cap := by
  rcases h.2 with ⟨_, h0⟩ | ⟨g, cap, cur, hv, hb, hg, _⟩
  · omega
  · exact ⟨g, cap, hv⟩
section
variable {w w1 : World} {base b : Nat} {st st' : St} {x : Ex}
/-- A row's cells are written where they lie. -/
theorem PS.rowSet (h : PS w base b st x) {i : Nat} {r r' : RW} (hi : (rowsS st x)[i]? = some r) (hg : w.grownBy w1 r.v.ownBlock) (hr : r'.own w1 base) (hv : r'.v = r.v) (hst : rowsS st' x = (rowsS st x).set i r') (hc : cellsS st' x = cellsS st x)
    (hf : st'.f = st.f) (hw : st'.words = st.words) (ha : st'.wA = st.wA) (hu : st'.uses = st.uses) (hgl : st.gs.length ≤ st'.gs.length) (he : r.e ∈ [46, 3, 33, 115]) : Did w base b st' x w1 := by
  obtain ⟨hB, hP⟩ := h
  have hty : ∀ g, r.v.ownBlock = some g → Typed w g r.e := fun g e => rows_typed (hP.out.hold.1 i r hi) e
  have he' : r.e ∈ [79, 46, 3, 33, 115] := List.mem_cons_of_mem _ he
  have hne : 79 ≠ r.e := fun e => by rw [← e] at he; revert he; decide
  have hB1 : Blk w1 b 79 (cellsS st' x) := by
    rw [hc]
    exact hB.out.grown hg (fun e => (hB.out.typed.ne (hty _ e.symm) hne) rfl)
  have h1 := hP.out.grow (st' := st') (x' := x) hi hg hr (.inl (by rw [hv])) hst hf hw ha rfl rfl (by rw [hu]; exact hP.out.uses) hgl he'
  have hb1 : base ≤ w.heap.size := Nat.le_trans hP.out.bb (Nat.le_of_lt hB.out.lt)
  exact ⟨⟨Lib.hid hB1, Lib.hid h1⟩, (Below.refl base w).grown hg hb1 (fun g e => (World.ownsRow.lt (hP.out.hold.1 i r hi) g e).1), KeepT.of_row hg he' hty⟩
theorem PS.gAt (h : PS w base b st x) {p : Nat} {g : Gt} (hp : st.gs[p]? = some g) : ∃ G c, x.vG = .slice (some ⟨G, 0, none⟩) st.gs.length c := by
  have h0 := h.2.out.hold.1 0 _ rfl
  have hl := (List.getElem?_eq_some_iff.1 hp).1
  have h1 : w.ownsRow base 46 6 x.vG st.gs.length (gcells st.gs) := h0
  exact rows_somewhere h1 (by omega)
theorem PS.setGate (h : PS w base b st x) {p G c : Nat} {g : Gt} (hp : st.gs[p]? = some g) (hG : x.vG = .slice (some ⟨G, 0, none⟩) st.gs.length c) (A B C : Int) :
    (w.cell? ⟨G, p * 6 + 3, none⟩ = some (.int .i64 g.a) ∧ w.cell? ⟨G, p * 6 + 4, none⟩ = some (.int .i64 g.b) ∧ w.cell? ⟨G, p * 6 + 5, none⟩ = some (.int .i64 g.c) ∧ w.frozen? ⟨G, p * 6 + 3, none⟩ = false ∧ w.frozen? ⟨G, p * 6 + 4, none⟩ = false ∧ w.frozen? ⟨G, p * 6 + 5, none⟩ = false) ∧
    Did w base b (st.setG p A B C) x (((w.setCell ⟨G, p * 6 + 3, none⟩ (.int .i64 A)).setCell ⟨G, p * 6 + 4, none⟩ (.int .i64 B)).setCell ⟨G, p * 6 + 5, none⟩ (.int .i64 C)) := by
  have h0 : w.ownsRow base 46 6 x.vG st.gs.length (gcells st.gs) := h.2.out.hold.1 0 _ rfl
  have hpl := (List.getElem?_eq_some_iff.1 hp).1
  rw [hG] at h0
  have hat : ∀ j, j < 6 → w.cell? ⟨G, p * 6 + j, none⟩ = g.cells[j]? := fun j hj => by
    rw [h0.cellAt (p * 6 + j) (by omega)]
    exact gcells_get hp j hj
  refine ⟨⟨(hat 3 (by omega)).trans rfl, (hat 4 (by omega)).trans rfl, (hat 5 (by omega)).trans rfl, h0.frozenAt _, h0.frozenAt _, h0.frozenAt _⟩, ?_⟩
  obtain ⟨s1, g1⟩ := h0.stored (p * 6 + 3) (.int .i64 A)
  obtain ⟨s2, g2⟩ := s1.stored (p * 6 + 4) (.int .i64 B)
  obtain ⟨s3, g3⟩ := s2.stored (p * 6 + 5) (.int .i64 C)
  have e1 : (gcells st.gs).set (p * 6 + 3) (.int .i64 A) = gcells (st.gs.set p { g with a := A }) := gcells_setq (by omega) hp rfl
  have q1 : (st.gs.set p { g with a := A })[p]? = some { g with a := A } := by rw [List.getElem?_set_self hpl]
  have e2 : (gcells (st.gs.set p { g with a := A })).set (p * 6 + 4) (.int .i64 B) = gcells ((st.gs.set p { g with a := A }).set p { g with a := A, b := B }) := gcells_setq (by omega) q1 rfl
  have q2 : ((st.gs.set p { g with a := A }).set p { g with a := A, b := B })[p]? = some { g with a := A, b := B } := by rw [List.getElem?_set_self (by simpa using hpl)]
  have e3 : (gcells ((st.gs.set p { g with a := A }).set p { g with a := A, b := B })).set (p * 6 + 5) (.int .i64 C) = gcells (((st.gs.set p { g with a := A }).set p { g with a := A, b := B }).set p { g with a := A, b := B, c := C }) := gcells_setq (by omega) q2 rfl
  rw [e1, e2, e3] at s3
  rw [List.set_set, List.set_set] at s3
  have hsg : st.setG p A B C = { st with gs := st.gs.set p { g with a := A, b := B, c := C } } := by unfold St.setG; rw [hp]
  have hgg := g1.trans (g2.trans g3)
  rw [hsg]
  refine h.rowSet (i := 0) (r := ⟨46, 6, x.vG, st.gs.length, gcells st.gs⟩) (r' := ⟨46, 6, x.vG, st.gs.length, gcells (st.gs.set p { g with a := A, b := B, c := C })⟩) rfl (by rw [hG]; exact hgg) (by show World.ownsRow _ _ _ _ x.vG _ _; rw [hG]; exact s3) rfl ?_ ?_ rfl rfl rfl rfl (by simp) (show 46 ∈ [46, 3, 33, 115] by decide)
  · unfold rowsS
    simp
  · unfold cellsS
    rfl
theorem PS.setOut (h : PS w base b st x) {o : Nat} {v : Int} (hp : st.outs[o]? = some v) (A : Int) :
    ∃ G c, x.vO = .slice (some ⟨G, 0, none⟩) st.outs.length c ∧ w.cell? ⟨G, o, none⟩ = some (.int .i64 v) ∧ w.frozen? ⟨G, o, none⟩ = false ∧ Did w base b { st with outs := st.outs.set o A } x (w.setCell ⟨G, o, none⟩ (.int .i64 A)) := by
  have h0 : w.ownsRow base 3 1 x.vO (nums .i64 st.outs).length (nums .i64 st.outs) := h.2.out.hold.1 1 _ rfl
  have hpl := (List.getElem?_eq_some_iff.1 hp).1
  rw [nums_length] at h0
  obtain ⟨G, c, hG⟩ := rows_somewhere h0 (by omega)
  rw [hG] at h0
  obtain ⟨s1, g1⟩ := h0.stored o (.int .i64 A)
  refine ⟨G, c, hG, ?_, h0.frozenAt _, ?_⟩
  · rw [h0.cellAt o (by omega)]
    unfold nums
    rw [List.getElem?_map, hp]
    rfl
  · rw [nums_set] at s1
    refine h.rowSet (i := 1) (r := row1 3 x.vO (nums .i64 st.outs)) (r' := row1 3 x.vO (nums .i64 (st.outs.set o A))) rfl (by show World.grownBy _ _ x.vO.ownBlock; rw [hG]; exact g1) (by show World.ownsRow (w.setCell ⟨G, o, none⟩ (.int .i64 A)) base 3 1 x.vO (nums .i64 (st.outs.set o A)).length (nums .i64 (st.outs.set o A)); rw [hG, nums_length, List.length_set]; exact s1) rfl ?_ ?_ rfl rfl rfl rfl (Nat.le_refl _) (show 3 ∈ [46, 3, 33, 115] by decide)
    · unfold rowsS
      simp
    · unfold cellsS
      rfl
end
theorem ucells_get {l : List Us} {i : Nat} {u : Us} (hu : l[i]? = some u) : (ucells l)[i * 3]? = some (.string u.name) ∧ (ucells l)[i * 3 + 1]? = some (.int .i64 u.line) ∧ (ucells l)[i * 3 + 2]? = some (.int .i64 u.col) := by
  induction l generalizing i with
  | nil => simp at hu
  | cons y l ih =>
    rcases i with _ | i
    · simp at hu
      subst hu
      exact ⟨rfl, rfl, rfl⟩
    · have h := ih (i := i) (by simpa using hu)
      have e : ucells (y :: l) = y.cells ++ ucells l := rfl
      have hl : y.cells.length = 3 := rfl
      rw [e, List.getElem?_append_right (by rw [hl]; omega), List.getElem?_append_right (by rw [hl]; omega), List.getElem?_append_right (by rw [hl]; omega), hl, show (i + 1) * 3 - 3 = i * 3 by omega, show (i + 1) * 3 + 1 - 3 = i * 3 + 1 by omega, show (i + 1) * 3 + 2 - 3 = i * 3 + 2 by omega]
      exact h
/-- The places found so far. -/
def pcN (f : ByteArray → Int) (l : List Us) (k m : Nat) : Int := if m < k then opn f l m else 0
def pcs (f : ByteArray → Int) (l : List Us) (k : Nat) : List Value := [.int .i64 (pcN f l k 0), .int .i64 (pcN f l k 1), .int .i64 (pcN f l k 2)]
theorem pcs_set {f : ByteArray → Int} {l : List Us} {k : Nat} {u : Us} (hu : l[k]? = some u) (hk : k < 3) : (pcs f l k).set k (.int .i64 (f u.name - 1)) = pcs f l (k + 1) := by
  have ho : opn f l k = f u.name - 1 := by unfold opn; rw [hu]
  match k, hk with
  | 0, _ => simp [pcs, pcN, ← ho]
  | 1, _ => simp [pcs, pcN, ← ho]
  | 2, _ => simp [pcs, pcN, ← ho]
theorem pcN_all {f : ByteArray → Int} {l : List Us} (m : Nat) : pcN f l l.length m = opn f l m := by
  unfold pcN
  split
  · rfl
  · unfold opn
    rw [List.getElem?_eq_none (by omega)]
theorem firstBad_none {f : ByteArray → Int} {l : List Us} (h : ∀ (m : Nat) u, m < l.length → l[m]? = some u → f u.name ≠ 0) : firstBad f l = none := by
  unfold firstBad
  rw [List.find?_eq_none]
  intro u hu
  obtain ⟨m, hm⟩ := List.getElem?_of_mem hu
  simpa using h m u (List.getElem?_eq_some_iff.1 hm).1 hm
theorem firstBad_at {f : ByteArray → Int} {l : List Us} {k : Nat} {u : Us} (hu : l[k]? = some u) (h : ∀ (m : Nat) u, m < k → l[m]? = some u → f u.name ≠ 0) (h0 : f u.name = 0) : firstBad f l = some u := by
  unfold firstBad
  induction l generalizing k with
  | nil => simp at hu
  | cons y l ih =>
    rcases k with _ | k
    · simp at hu
      subst hu
      simp [h0]
    · have hy := h 0 y (by omega) rfl
      rw [List.find?_cons_of_neg (by simpa using hy)]
      exact ih (by simpa using hu) (fun m v hm hv => h (m + 1) v (by omega) (by simpa using hv))
theorem zip_drop {α β : Type} {a : List α} {b : List β} {i : Nat} {u : α} {v : β} (hu : a[i]? = some u) (hv : b[i]? = some v) : (a.zip b).drop i = (u, v) :: (a.zip b).drop (i + 1) := by
  have h : (a.zip b)[i]? = some (u, v) := by
    rw [List.getElem?_zip_eq_some]
    exact ⟨hu, hv⟩
  obtain ⟨hl, he⟩ := List.getElem?_eq_some_iff.1 h
  rw [List.drop_eq_getElem_cons hl, he]
def SameS (s st : St) : Prop := s.f = st.f ∧ s.uses = st.uses ∧ s.places = st.places ∧ s.gs.length = st.gs.length ∧ s.outs.length = st.outs.length
set_option maxRecDepth 100000 in
set_option maxHeartbeats 8000000 in
theorem pjoin_any (base b : Nat) (st : St) (x : Ex) (w : World) (h : PS w base b st x) (hb : StB st) (hj : StJ st) :
    Calls Tryd.prog 40 #[.pointer (some ⟨b, 0, none⟩)] w fun e w' => e = .returned (.tuple #[]) ∧ Did w base b st.join x w' := by
  have HX0 := Lib.hid h
  have HBB := Lib.hid hb
  have HJJ := Lib.hid hj
  obtain ⟨n, hn⟩ : ∃ n, st.uses.length = n := ⟨_, rfl⟩
  have hRn : x.R.length = n := by have := congrArg List.length h.2.out.uses; simpa [hn] using this
  have hPn : st.places.length = n := by rw [← hn]; exact hb.pl
  have hn1 : n ≤ 131072 := by have := hb.us; have := hb.gl; have := hb.ol; omega
  obtain ⟨AU, cU, eU, _⟩ := rows_cells (h.2.out.hold.1 3 _ rfl) (show 0 < 1 by omega)
  replace eU : x.vU = .slice AU n cU := by
    have e : (row1 115 x.vU (x.R.map UR.v)).n = n := by show (x.R.map UR.v).length = n; rw [List.length_map, hRn]
    rw [e] at eU
    exact eU
  have c14 : w.cell? ⟨b, 14, none⟩ = some (.slice AU n cU) := by rw [← eU]; exact (h.1.out.cell 14).trans rfl
  have HU := Lib.hid eU
  have HRN := Lib.hid hRn
  have HPN := Lib.hid hPn
  have HN := Lib.hid hn
  have HD0 := Lib.hid (Did.refl h)
  have HJ0 : Hid (st.join = joinFrom st.f ((st.uses.zip st.places).drop 0) 0 st) := Lib.hid rfl
  have HC0 : Hid (0 + (st.places.drop 0).count (-1) = st.outs.length) := Lib.hid (by rw [List.drop_zero, Nat.zero_add]; exact hj.ct)
  have HS0 : Hid (SameS st st) := Lib.hid ⟨rfl, rfl, rfl, rfl, rfl⟩
  clear h hb hj hn hRn hPn eU
  go_enter Tryd.func40, Tryd.ntmps40
  go_upto_region 2 with (fail)
  clear c14
  go_loopw [2, 16] (fun s2 s16 wr => ∃ (i o : Nat) (s : St), i ≤ n ∧ s16 = .int .i64 i ∧ s2 = .int .i64 o ∧ Hid (Did w base b s x wr) ∧ Hid (st.join = joinFrom st.f ((st.uses.zip st.places).drop i) o s) ∧ Hid (SameS s st) ∧ Hid (o + (st.places.drop i).count (-1) = st.outs.length)) (fun _ s16 _ => n - (intOf s16).toNat)
  case atStart => exact ⟨0, 0, st, by omega, rfl, rfl, HD0, HJ0, HS0, HC0⟩
  case round =>
    clear HD0 HJ0 HS0 HC0
    obtain ⟨i, o, s, hi, rfl, rfl, HD, HJ, HS, HC⟩ := hrel
    obtain ⟨wq, hwq⟩ : ∃ wq, wq = wr := ⟨_, rfl⟩
    subst hwq
    by_cases hlt : i < n
    · obtain ⟨r, hr⟩ : ∃ r, x.R[i]? = some r := ⟨_, List.getElem?_eq_getElem (by have := HRN.out; omega)⟩
      have hl : st.uses[i]? = some r.xs := by rw [← HX0.out.2.out.uses, List.getElem?_map, hr]; rfl
      obtain ⟨p, hp⟩ : ∃ p, st.places[i]? = some p := ⟨_, List.getElem?_eq_getElem (by have := HPN.out; omega)⟩
      have hl3 := HJJ.out.us _ (List.mem_of_getElem? hl)
      have HNM := Lib.hid (HJJ.out.nm _ (List.mem_of_getElem? hl))
      have hpp := HJJ.out.pl _ (List.mem_of_getElem? hp)
      have hzd := zip_drop hl hp
      have hpd : st.places.drop i = p :: st.places.drop (i + 1) := by
        obtain ⟨h1, h2⟩ := List.getElem?_eq_some_iff.1 hp
        rw [List.drop_eq_getElem_cons h1, h2]
      rw [hzd] at HJ
      rw [hpd] at HC
      have hrow : (rowsS s x)[3]? = some (row1 115 x.vU (x.R.map UR.v)) := by unfold rowsS; rfl
      obtain ⟨AU2, cU2, eU2, hreads, _⟩ := rows_cells (HD.out.1.2.out.hold.1 3 _ hrow) (show 0 < 1 by omega)
      obtain ⟨gU, oU, eAU, hcU⟩ := hreads.at_ (i := i) (x := r.v) (by show (x.R.map UR.v)[i]? = _; rw [List.getElem?_map, hr]; rfl)
      have e1 : (Value.slice AU n cU) = .slice AU2 (row1 115 x.vU (x.R.map UR.v)).n cU2 := by rw [← HU.out]; exact eU2
      have hAU : AU = AU2 := by simp only [Value.slice.injEq] at e1; exact e1.1
      subst hAU
      subst eAU
      clear e1
      have hrv : r.v = .slice r.A r.xs.length r.c := rfl
      rw [hrv] at hcU
      have hrrow : (rowsS s x)[5 + i]? = some r.row := by
        unfold rowsS
        rw [List.getElem?_append_right (by simp), List.getElem?_map]
        simp [hr]
      have HROW : Hid (∀ (W : World), Did wq base b s x W → W.ownsRow base 118 3 (.slice r.A r.xs.length r.c) r.xs.length (ucells r.xs)) := Lib.hid fun W hd => hd.1.2.out.hold.1 (5 + i) _ hrrow
      have HP0 := Lib.hid HD.out.1
      have DR : Hid (Did wq base b s x wq) := Lib.hid (Did.refl HD.out.1)
      obtain ⟨L, hL⟩ : ∃ L, r.xs.length = L := ⟨_, rfl⟩
      rw [hL] at hcU hl3 HROW
      have HLL := Lib.hid hL
      have HP := Lib.hid hp
      have hi0 : (0 : Int) ≤ (i : Int) := by omega
      have hi1 : (i : Int) < (n : Int) := by omega
      have HFE := Lib.hid HS.out.1
      have hbl := below1 wq (.cells #[.int .i64 0, .int .i64 0, .int .i64 0] 116)
      have DA := Lib.hid (DR.out.alloc (.cells #[.int .i64 0, .int .i64 0, .int .i64 0] 116))
      have BA : Hid (Blk (wq.alloc (.cells #[.int .i64 0, .int .i64 0, .int .i64 0] 116)) wq.heap.size 116 (pcs st.f r.xs 0)) := Lib.hid (Blk.new wq 116 (pcs st.f r.xs 0))
      have HBS : Hid (∀ m (u : Us), m < 0 → r.xs[m]? = some u → st.f u.name ≠ 0) := Lib.hid (fun m u h => by omega)
      have HSZ : Hid (wq.heap.size ≤ wq.heap.size) := Lib.hid (Nat.le_refl _)
      clear hr hl hp hzd hpd hrow eU2 hreads hrv hrrow hL hbl DR
      go_upto_region 5 with (fail)
      change Code.wp _ _ _ _ (wq.alloc (.cells #[.int .i64 0, .int .i64 0, .int .i64 0] 116))
      clear hcU
      generalize wq.alloc (.cells #[.int .i64 0, .int .i64 0, .int .i64 0] 116) = W1 at *
      obtain ⟨bP, hbP⟩ : ∃ bP, wq.heap.size = bP := ⟨_, rfl⟩
      have HBP : Hid (wq.heap.size ≤ bP) := Lib.hid (by omega)
      rw [hbP] at BA ⊢
      clear hbP HSZ
      go_upto_region 6 with (fail)
      go_loopw [23] (fun s23 wx => ∃ k : Nat, k ≤ L ∧ s23 = .int .i64 k ∧ Hid (Did wq base b s x wx) ∧ Hid (Blk wx bP 116 (pcs st.f r.xs k)) ∧ Hid (∀ m (u : Us), m < k → r.xs[m]? = some u → st.f u.name ≠ 0)) (fun s23 _ => L - (intOf s23).toNat)
      case atStart => exact ⟨0, by omega, rfl, DA, BA, HBS⟩
      case round =>
        clear DA BA HBS
        obtain ⟨k, hk, rfl, DX, BX, HBS⟩ := hrel
        by_cases hkl : k < L
        · obtain ⟨u, hu⟩ : ∃ u, r.xs[k]? = some u := ⟨_, List.getElem?_eq_getElem (by have := HLL.out; omega)⟩
          obtain ⟨uc0, uc1, uc2⟩ := ucells_get hu
          obtain ⟨AR, cR, eR, hrd, _⟩ := rows_cells (HROW.out wr DX.out) (show 0 < 3 by omega)
          obtain ⟨gR, oR, eAR, hq⟩ := hrd (by rw [ucells_length, HLL.out]; omega)
          have q0 := hq _ _ uc0
          have q1 := hq _ _ uc1
          have q2 := hq _ _ uc2
          clear hq
          have eRA : r.A = some ⟨gR, oR, none⟩ := by simp only [Value.slice.injEq] at eR; rw [eR.1, eAR]
          have HUN := Lib.hid (HNM.out u (List.mem_of_getElem? hu))
          have HU2 := Lib.hid hu
          have hk0 : (0 : Int) ≤ (k : Int) := by omega
          have hk1 : (k : Int) < (L : Int) := by omega
          have hk3 : (k : Int) < 3 := by omega
          have hkn3 : k < 3 := by omega
          obtain ⟨un, ul, uc⟩ := u
          dsimp only at *
          have q1' : wr.cell? ⟨gR, oR + k * 3 + 1, none⟩ = some (.int .i64 ul) := by rw [Nat.add_assoc]; exact q1
          have q2' : wr.cell? ⟨gR, oR + k * 3 + 2, none⟩ = some (.int .i64 uc) := by rw [Nat.add_assoc]; exact q2
          obtain ⟨rA, hrA⟩ : ∃ A, r.A = A := ⟨_, rfl⟩
          have hbl := below1 wr (.cells #[.string un, .int .i64 ul, .int .i64 uc] 118)
          have D7 := Lib.hid (DX.out.alloc (.cells #[.string un, .int .i64 ul, .int .i64 uc] 118))
          have B7 := Lib.hid (BX.out.self hbl)
          have U7 := Lib.hid (Blk.new wr 118 [.string un, .int .i64 ul, .int .i64 uc])
          rw [eRA]
          clear hu uc0 uc1 uc2 eR hrd q1 q2 eAR hbl DX BX HNM
          have hfz := HJJ.out.fz un
          have hgl := HBB.out.gl
          go_upto_region 8 with (fail)
          change Code.wp _ _ _ _ (wr.alloc (.cells #[.string un, .int .i64 ul, .int .i64 uc] 118))
          clear q0 q1' q2'
          generalize wr.alloc (.cells #[.string un, .int .i64 ul, .int .i64 uc] 118) = W7 at *
          obtain ⟨bU, hbU⟩ : ∃ bU, wr.heap.size = bU := ⟨_, rfl⟩
          rw [hbU] at U7 ⊢
          clear hbU
          have y0 : W7.cell? ⟨bU, 0, none⟩ = some (.string un) := (U7.out.cell 0).trans rfl
          have c12 : W7.cell? ⟨b, 12, none⟩ = some (.map (some x.bm)) := (D7.out.1.1.out.cell 12).trans rfl
          have HLK : Hid (∀ n', (Instr.lookup 65 (.map (some x.bm)) (.string un) false).run Tryd.prog (W7.drewN n') = .ok (.int .i64 (st.f un)) (W7.drewN n')) := Lib.hid fun n' => by
            rw [← HFE.out]
            exact (D7.out.1.2.out.below (below_drewN (Below.refl _ _) n')).map.look (s := un) (by have := HUN.out; unfold maxLen; omega)
          obtain ⟨fv, hfv⟩ : ∃ v, st.f un = v := ⟨_, rfl⟩
          rw [hfv] at HLK hfz
          have hlook := HLK.out
          have HFV := Lib.hid hfv
          clear hfv
          go_quiet (fail)
          have D8 := Lib.hid (D7.out.drewN nq)
          have B8 := Lib.hid (B7.out.self (below_drewN (Below.refl _ _) nq))
          have U8 := Lib.hid (U7.out.self (below_drewN (Below.refl _ _) nq))
          clear y0 c12 hlook HLK D7 B7 U7
          generalize W7.drewN nq = W8 at *
          by_cases h0 : fv = 0
          · subst h0
            have HJF : Hid (st.join = { s with fc := 142, fl := ul, fcol := uc }) := Lib.hid (by
              rw [HJ.out]
              unfold joinFrom
              rw [firstBad_at HU2.out HBS.out HFV.out])
            have y1 : W8.cell? ⟨bU, 1, none⟩ = some (.int .i64 ul) := (U8.out.cell 1).trans rfl
            have y2 : W8.cell? ⟨bU, 2, none⟩ = some (.int .i64 uc) := (U8.out.cell 2).trans rfl
            obtain ⟨z9, f9⟩ := D8.out.1.cellAt 9 (v := .int .i64 s.fc) rfl
            obtain ⟨z10, f10⟩ := D8.out.1.cellAt 10 (v := .int .i64 s.fl) rfl
            obtain ⟨z11, f11⟩ := D8.out.1.cellAt 11 (v := .int .i64 s.fcol) rfl
            have d1 := D8.out.1.setOwn (st' := { s with fc := 142 }) 9 (.int .i64 142) rfl rfl rfl rfl rfl rfl rfl rfl rfl
            have d2 := d1.1.setOwn (st' := { s with fc := 142, fl := ul }) 10 (.int .i64 ul) rfl rfl rfl rfl rfl rfl rfl rfl rfl
            have d3 := d2.1.setOwn (st' := { s with fc := 142, fl := ul, fcol := uc }) 11 (.int .i64 uc) rfl rfl rfl rfl rfl rfl rfl rfl rfl
            have DF := Lib.hid (HD.out.trans (D8.out.trans (d1.trans (d2.trans d3))))
            clear d1 d2 d3
            go_wp2
            refine bodyPost_ret (results_none rfl _ _ _) rfl ?_
            exact ⟨rfl, by rw [HJF.out]; exact DF.out⟩
          · have h0b : (fv == 0) = false := by simpa using h0
            obtain ⟨vk, hvk⟩ : ∃ v, (pcs st.f r.xs k)[k]? = some v := ⟨_, List.getElem?_eq_getElem (by show k < 3; omega)⟩
            have zk : W8.cell? ⟨bP, k, none⟩ = some vk := (B8.out.cell k).trans hvk
            have fk := B8.out.frozen k
            have hon := only_setCell (only_refl W8 (some bP)) (p := ⟨bP, k, none⟩) (.inl rfl) (.int .i64 (fv - 1))
            have D9 := Lib.hid (Did.local_ (v := .slice (some ⟨bP, 0, none⟩) 0 0) HP0.out D8.out hon (fun z e => by cases e; exact HBP.out) rfl rfl rfl)
            have B9 : Hid (Blk (W8.setCell ⟨bP, k, none⟩ (.int .i64 (fv - 1))) bP 116 (pcs st.f r.xs (k + 1))) := Lib.hid (by
              have h1 := B8.out.set_ k (.int .i64 (fv - 1))
              have h2 := pcs_set (f := st.f) HU2.out hkn3
              dsimp only at h2
              rw [HFV.out] at h2
              rw [h2] at h1
              exact h1)
            have HB2 : Hid (∀ m (u : Us), m < k + 1 → r.xs[m]? = some u → st.f u.name ≠ 0) := Lib.hid (fun m u hm hu => by
              rcases Nat.lt_or_ge m k with h | h
              · exact HBS.out m u h hu
              · obtain rfl : m = k := by omega
                rw [HU2.out] at hu
                cases hu
                dsimp only
                rw [HFV.out]
                exact h0)
            clear hon D8 B8 U8 hvk h0 HBS
            go_wp2
            go_roundw
            case rel => exact ⟨k + 1, by omega, by go_num, D9, B9, HB2⟩
            case measure => simp [intOf]; omega
        · obtain rfl : k = L := by omega
          have HNB : Hid (firstBad st.f r.xs = none) := Lib.hid (firstBad_none (fun m u hm hu => HBS.out m u (by rw [HLL.out] at hm; exact hm) hu))
          obtain ⟨o0, ho0⟩ : ∃ v, opn st.f r.xs 0 = v := ⟨_, rfl⟩
          obtain ⟨o1, ho1⟩ : ∃ v, opn st.f r.xs 1 = v := ⟨_, rfl⟩
          obtain ⟨o2, ho2⟩ : ∃ v, opn st.f r.xs 2 = v := ⟨_, rfl⟩
          have B1 : Hid (Blk wr bP 116 [.int .i64 o0, .int .i64 o1, .int .i64 o2]) := Lib.hid (by
            have h1 := BX.out
            unfold pcs at h1
            rw [← HLL.out, pcN_all, pcN_all, pcN_all, ho0, ho1, ho2] at h1
            exact h1)
          have hrow4 : (rowsS s x)[4]? = some (row1 3 x.vP (nums .i64 s.places)) := by unfold rowsS; rfl
          obtain ⟨AP, cP, eP, hrdP, _⟩ := rows_cells (DX.out.1.2.out.hold.1 4 _ hrow4) (show 0 < 1 by omega)
          obtain ⟨gP, oP, eAP, zP⟩ := hrdP.at_ (i := i) (x := .int .i64 p) (by show (nums .i64 s.places)[i]? = _; unfold nums; rw [List.getElem?_map, HS.out.2.2.1, HP.out]; rfl)
          have hnP : (row1 3 x.vP (nums .i64 s.places)).n = n := by show (nums .i64 s.places).length = n; rw [nums_length, HS.out.2.2.1, HPN.out]
          have c15 : wr.cell? ⟨b, 15, none⟩ = some (.slice (some ⟨gP, oP, none⟩) n cP) := by
            have h1 := (DX.out.1.1.out.cell 15).trans (show (cellsS s x)[15]? = some x.vP from rfl)
            rw [h1, show x.vP = .slice AP (row1 3 x.vP (nums .i64 s.places)).n cP from eP, hnP, eAP]
          have HZ : Hid (∀ q, p = q → st.join = if 0 ≤ q then joinFrom st.f ((st.uses.zip st.places).drop (i + 1)) o (s.setG q.toNat o0 o1 o2) else joinFrom st.f ((st.uses.zip st.places).drop (i + 1)) (o + 1) { s with outs := s.outs.set o o0 }) := Lib.hid (fun q e => by
            subst e
            rw [HJ.out]
            conv => lhs; unfold joinFrom
            rw [HNB.out, ho0, ho1, ho2])
          clear hrow4 eP hrdP eAP hnP BX HBS HNB ho0 ho1 ho2
          rcases hpp with hpm | ⟨hp0, hp1⟩
          · subst hpm
            have hoo : o < s.outs.length := by
              have h1 := HC.out
              rw [List.count_cons_self] at h1
              rw [HS.out.2.2.2.2]
              omega
            obtain ⟨vo, hvo⟩ : ∃ v, s.outs[o]? = some v := ⟨_, List.getElem?_eq_getElem hoo⟩
            have HVO := Lib.hid hvo
            clear hvo
            obtain ⟨gO, cO, hvO, _⟩ := DX.out.1.setOut HVO.out o0
            obtain ⟨mO, hmO⟩ : ∃ m, s.outs.length = m := ⟨_, rfl⟩
            have HGO := Lib.hid hvO
            have HMO := Lib.hid hmO
            clear hvO hmO
            go_upto_region 17 with (fail)
            clear c15 zP
            refine regionL 9 (fun W => W.cell? ⟨b, 2, none⟩ = some (.slice (some ⟨gO, 0, none⟩) mO cO) ∧ W.cell? ⟨bP, 0, none⟩ = some (.int .i64 o0)) (by kernel_rfl) ?_
            have D9 := Lib.hid DX.out.drew
            have B9 : Hid (Blk wr.drew bP 116 [.int .i64 o0, .int .i64 o1, .int .i64 o2]) := Lib.hid B1.out
            clear DX B1
            generalize wr.drew = W9 at *
            obtain ⟨gO', cO', hvO', zO, fO, DO⟩ := D9.out.1.setOut HVO.out o0
            rw [HGO.out] at hvO'
            cases hvO'
            have HF9 : Hid (W9.cell? ⟨b, 2, none⟩ = some (.slice (some ⟨gO, 0, none⟩) mO cO) ∧ W9.cell? ⟨bP, 0, none⟩ = some (.int .i64 o0)) := Lib.hid ⟨by rw [← HMO.out, ← HGO.out]; exact (D9.out.1.1.out.cell 2).trans rfl, (B9.out.cell 0).trans rfl⟩
            have hom0 : (0 : Int) ≤ (o : Int) := by omega
            have hom1 : (o : Int) < (mO : Int) := by have := HMO.out; omega
            have DOO := Lib.hid DO
            clear DO
            refine takeL0 (i := 0) (v := ?v0o) rfl (by kernel_rfl) (by kernel_rfl) (by kernel_rfl) (by kernel_rfl) (by decide) (fun _ _ _ h => h) (by rfl) ?y0o (Or.inr HF9.out) ?r0o
            case y0o => (intro w; go_simp; (try with_reducible rfl))
            try simp only [Act.put, List.setIfInBounds_toArray, List.set_cons_zero, List.set_cons_succ]
            refine takeL0 (i := 1) (v := ?v1o) rfl (by kernel_rfl) (by kernel_rfl) (by kernel_rfl) (by kernel_rfl) (by decide) (fun _ _ _ h => h) (by rfl) ?y1o (Or.inr HF9.out) ?r1o
            case y1o => (intro w; go_simp; (try with_reducible rfl))
            try simp only [Act.put, List.setIfInBounds_toArray, List.set_cons_zero, List.set_cons_succ]
            refine takeL0 (i := 2) (v := ?v2o) rfl (by kernel_rfl) (by kernel_rfl) (by kernel_rfl) (by kernel_rfl) (by decide) (fun _ _ _ h => h) (by rfl) ?y2o (Or.inr HF9.out) ?r2o
            case y2o => (intro w; go_simp; (try with_reducible rfl))
            try simp only [Act.put, List.setIfInBounds_toArray, List.set_cons_zero, List.set_cons_succ]
            refine takeL0 (i := 3) (v := ?v3o) rfl (by kernel_rfl) (by kernel_rfl) (by kernel_rfl) (by kernel_rfl) (by decide) (fun _ _ _ h => h) (by rfl) ?y3o (Or.inr HF9.out) ?r3o
            case y3o => (intro w; go_simp; (try with_reducible rfl))
            try simp only [Act.put, List.setIfInBounds_toArray, List.set_cons_zero, List.set_cons_succ]
            refine takeL (i := 4) (v := ?v4o) rfl (by kernel_rfl) (by kernel_rfl) (by kernel_rfl) (by kernel_rfl) (by kernel_rfl) (by decide) (fun _ _ _ h => h) (by rfl) ?y4o HF9.out ?r4o
            case y4o => (intro w hSw; (try dsimp only at hSw); obtain ⟨q0, q1⟩ := hSw; go_simp; (try with_reducible rfl))
            try simp only [Act.put, List.setIfInBounds_toArray, List.set_cons_zero, List.set_cons_succ]
            refine takeL0 (i := 5) (v := ?v5o) rfl (by kernel_rfl) (by kernel_rfl) (by kernel_rfl) (by kernel_rfl) (by decide) (fun _ _ _ h => h) (by rfl) ?y5o (Or.inr HF9.out) ?r5o
            case y5o => (intro w; go_simp; (try with_reducible rfl))
            try simp only [Act.put, List.setIfInBounds_toArray, List.set_cons_zero, List.set_cons_succ]
            refine takeL0 (i := 6) (v := ?v6o) rfl (by kernel_rfl) (by kernel_rfl) (by kernel_rfl) (by kernel_rfl) (by decide) (fun _ _ _ h => h) (by rfl) ?y6o (Or.inr HF9.out) ?r6o
            case y6o => (intro w; go_simp; (try with_reducible rfl))
            try simp only [Act.put, List.setIfInBounds_toArray, List.set_cons_zero, List.set_cons_succ]
            refine takeL (i := 7) (v := ?v7o) rfl (by kernel_rfl) (by kernel_rfl) (by kernel_rfl) (by kernel_rfl) (by kernel_rfl) (by decide) (fun _ _ _ h => h) (by rfl) ?y7o HF9.out ?r7o
            case y7o => (intro w hSw; (try dsimp only at hSw); obtain ⟨q0, q1⟩ := hSw; go_simp; (try with_reducible rfl))
            try simp only [Act.put, List.setIfInBounds_toArray, List.set_cons_zero, List.set_cons_succ]
            refine takeL0 (i := 8) (v := ?v8o) rfl (by kernel_rfl) (by kernel_rfl) (by kernel_rfl) (by kernel_rfl) (by decide) (fun _ _ _ h => h) (by rfl) ?y8o (Or.inr HF9.out) ?r8o
            case y8o => (intro w; go_simp; (try with_reducible rfl))
            try simp only [Act.put, List.setIfInBounds_toArray, List.set_cons_zero, List.set_cons_succ]
            refine callL (i := 9) rfl (by kernel_rfl) (by rfl) ?_
            intro K hK
            go_simp
            refine hK.out _ _ (Or.inl (by kernel_rfl)) (fun _ => ?_)
            clear hK K
            try simp only [Act.put, List.setIfInBounds_toArray, List.set_cons_zero, List.set_cons_succ]
            refine doneL (by kernel_rfl) ?_ _
            have hob : (o : Int) ≤ 65536 := by have := HBB.out.ol; have := HS.out.2.2.2.2; omega
            have hob2 : o ≤ 65536 := by omega
            have HDn := Lib.hid (HD.out.trans (D9.out.trans DOO.out))
            have HJn : Hid (st.join = joinFrom st.f ((st.uses.zip st.places).drop (i + 1)) (o + 1) { s with outs := s.outs.set o o0 }) := Lib.hid (by
              have h1 := HZ.out (-1) rfl
              rw [if_neg (by decide)] at h1
              exact h1)
            have HSn : Hid (SameS { s with outs := s.outs.set o o0 } st) := Lib.hid ⟨HS.out.1, HS.out.2.1, HS.out.2.2.1, HS.out.2.2.2.1, by rw [← HS.out.2.2.2.2]; simp⟩
            have HCn : Hid (o + 1 + (st.places.drop (i + 1)).count (-1) = st.outs.length) := Lib.hid (by
              have h1 := HC.out
              rw [List.count_cons_self] at h1
              omega)
            clear HD D9 DOO HZ HJ HS HC B9 HF9 zO fO HROW HP0
            go_wp2
            go_roundw
            case rel => exact ⟨i + 1, o + 1, { s with outs := s.outs.set o o0 }, by omega, by go_num, by go_num, HDn, HJn, HSn, HCn⟩
            case measure => simp [intOf]; omega
          · obtain ⟨pn, rfl⟩ : ∃ q : Nat, p = (q : Int) := ⟨p.toNat, by omega⟩
            have hpl : pn < s.gs.length := by rw [HS.out.2.2.2.1]; omega
            obtain ⟨g, hg⟩ : ∃ g, s.gs[pn]? = some g := ⟨_, List.getElem?_eq_getElem hpl⟩
            obtain ⟨G, cG, hG⟩ := DX.out.1.gAt hg
            obtain ⟨m, hm⟩ : ∃ m, s.gs.length = m := ⟨_, rfl⟩
            have c1 : wr.cell? ⟨b, 1, none⟩ = some (.slice (some ⟨G, 0, none⟩) m cG) := by rw [← hm, ← hG]; exact (DX.out.1.1.out.cell 1).trans rfl
            have HG := Lib.hid hg
            have HGV := Lib.hid hG
            have hpi : (pn : Int) < (m : Int) := by omega
            have hpi0 : (0 : Int) ≤ (pn : Int) := by omega
            clear hg hG hm
            go_upto_region 16 with (fail)
            clear c15 zP c1
            refine regionL 17 (fun W => W.cell? ⟨bP, 0, none⟩ = some (.int .i64 o0) ∧ W.cell? ⟨bP, 1, none⟩ = some (.int .i64 o1) ∧ W.cell? ⟨bP, 2, none⟩ = some (.int .i64 o2)) (by kernel_rfl) ?_
            have D9 := Lib.hid DX.out.drew
            have B9 : Hid (Blk wr.drew bP 116 [.int .i64 o0, .int .i64 o1, .int .i64 o2]) := Lib.hid B1.out
            clear DX B1
            generalize wr.drew = W9 at *
            have HF9 : Hid (W9.cell? ⟨bP, 0, none⟩ = some (.int .i64 o0) ∧ W9.cell? ⟨bP, 1, none⟩ = some (.int .i64 o1) ∧ W9.cell? ⟨bP, 2, none⟩ = some (.int .i64 o2)) := Lib.hid ⟨(B9.out.cell 0).trans rfl, (B9.out.cell 1).trans rfl, (B9.out.cell 2).trans rfl⟩
            obtain ⟨⟨z3, z4, z5, f3, f4, f5⟩, DG⟩ := D9.out.1.setGate HG.out HGV.out o0 o1 o2
            have DGG := Lib.hid DG
            have hne : bP ≠ G := fun e => (B9.out.typed.ne (rows_typed (D9.out.1.2.out.hold.1 0 _ rfl) (show x.vG.ownBlock = some bP by rw [HGV.out, e]; rfl)) (show 116 ≠ 46 by decide)) rfl
            have B10 := B9.out.far (p := ⟨G, pn * 6 + 3, none⟩) hne (.int .i64 o0)
            have B11 := B10.far (p := ⟨G, pn * 6 + 4, none⟩) hne (.int .i64 o1)
            have HF10 : Hid ((fun W : World => W.cell? ⟨bP, 0, none⟩ = some (.int .i64 o0) ∧ W.cell? ⟨bP, 1, none⟩ = some (.int .i64 o1) ∧ W.cell? ⟨bP, 2, none⟩ = some (.int .i64 o2)) (W9.setCell ⟨G, pn * 6 + 3, none⟩ (.int .i64 o0))) := Lib.hid ⟨(B10.cell 0).trans rfl, (B10.cell 1).trans rfl, (B10.cell 2).trans rfl⟩
            have HF11 : Hid ((fun W : World => W.cell? ⟨bP, 0, none⟩ = some (.int .i64 o0) ∧ W.cell? ⟨bP, 1, none⟩ = some (.int .i64 o1) ∧ W.cell? ⟨bP, 2, none⟩ = some (.int .i64 o2)) ((W9.setCell ⟨G, pn * 6 + 3, none⟩ (.int .i64 o0)).setCell ⟨G, pn * 6 + 4, none⟩ (.int .i64 o1))) := Lib.hid ⟨(B11.cell 0).trans rfl, (B11.cell 1).trans rfl, (B11.cell 2).trans rfl⟩
            clear DG B10 B11 hne
            refine takeL0 (i := 0) (v := ?v0g) rfl (by kernel_rfl) (by kernel_rfl) (by kernel_rfl) (by kernel_rfl) (by decide) (fun _ _ _ h => h) (by rfl) ?y0g (Or.inr HF9.out) ?r0g
            case y0g => (intro w; go_simp; (try with_reducible rfl))
            try simp only [Act.put, List.setIfInBounds_toArray, List.set_cons_zero, List.set_cons_succ]
            refine takeL0 (i := 1) (v := ?v1g) rfl (by kernel_rfl) (by kernel_rfl) (by kernel_rfl) (by kernel_rfl) (by decide) (fun _ _ _ h => h) (by rfl) ?y1g (Or.inr HF9.out) ?r1g
            case y1g => (intro w; go_simp; (try with_reducible rfl))
            try simp only [Act.put, List.setIfInBounds_toArray, List.set_cons_zero, List.set_cons_succ]
            refine takeL0 (i := 2) (v := ?v2g) rfl (by kernel_rfl) (by kernel_rfl) (by kernel_rfl) (by kernel_rfl) (by decide) (fun _ _ _ h => h) (by rfl) ?y2g (Or.inr HF9.out) ?r2g
            case y2g => (intro w; go_simp; (try with_reducible rfl))
            try simp only [Act.put, List.setIfInBounds_toArray, List.set_cons_zero, List.set_cons_succ]
            refine takeL0 (i := 3) (v := ?v3g) rfl (by kernel_rfl) (by kernel_rfl) (by kernel_rfl) (by kernel_rfl) (by decide) (fun _ _ _ h => h) (by rfl) ?y3g (Or.inr HF9.out) ?r3g
            case y3g => (intro w; go_simp; (try with_reducible rfl))
            try simp only [Act.put, List.setIfInBounds_toArray, List.set_cons_zero, List.set_cons_succ]
            refine takeL (i := 4) (v := ?v4g) rfl (by kernel_rfl) (by kernel_rfl) (by kernel_rfl) (by kernel_rfl) (by kernel_rfl) (by decide) (fun _ _ _ h => h) (by rfl) ?y4g HF9.out ?r4g
            case y4g => (intro w hSw; (try dsimp only at hSw); obtain ⟨q0, q1, q2⟩ := hSw; go_simp; (try with_reducible rfl))
            try simp only [Act.put, List.setIfInBounds_toArray, List.set_cons_zero, List.set_cons_succ]
            refine takeL0 (i := 5) (v := ?v5g) rfl (by kernel_rfl) (by kernel_rfl) (by kernel_rfl) (by kernel_rfl) (by decide) (fun _ _ _ h => h) (by rfl) ?y5g (Or.inr HF9.out) ?r5g
            case y5g => (intro w; go_simp; (try with_reducible rfl))
            try simp only [Act.put, List.setIfInBounds_toArray, List.set_cons_zero, List.set_cons_succ]
            refine takeL (i := 6) (v := ?v6g) rfl (by kernel_rfl) (by kernel_rfl) (by kernel_rfl) (by kernel_rfl) (by kernel_rfl) (by decide) (fun _ _ _ h => h) (by rfl) ?y6g HF9.out ?r6g
            case y6g => (intro w hSw; (try dsimp only at hSw); obtain ⟨q0, q1, q2⟩ := hSw; go_simp; (try with_reducible rfl))
            try simp only [Act.put, List.setIfInBounds_toArray, List.set_cons_zero, List.set_cons_succ]
            refine takeL0 (i := 7) (v := ?v7g) rfl (by kernel_rfl) (by kernel_rfl) (by kernel_rfl) (by kernel_rfl) (by decide) (fun _ _ _ h => h) (by rfl) ?y7g (Or.inr HF9.out) ?r7g
            case y7g => (intro w; go_simp; (try with_reducible rfl))
            try simp only [Act.put, List.setIfInBounds_toArray, List.set_cons_zero, List.set_cons_succ]
            refine takeL (i := 8) (v := ?v8g) rfl (by kernel_rfl) (by kernel_rfl) (by kernel_rfl) (by kernel_rfl) (by kernel_rfl) (by decide) (fun _ _ _ h => h) (by rfl) ?y8g HF9.out ?r8g
            case y8g => (intro w hSw; (try dsimp only at hSw); obtain ⟨q0, q1, q2⟩ := hSw; go_simp; (try with_reducible rfl))
            try simp only [Act.put, List.setIfInBounds_toArray, List.set_cons_zero, List.set_cons_succ]
            refine takeL0 (i := 9) (v := ?v9g) rfl (by kernel_rfl) (by kernel_rfl) (by kernel_rfl) (by kernel_rfl) (by decide) (fun _ _ _ h => h) (by rfl) ?y9g (Or.inr HF9.out) ?r9g
            case y9g => (intro w; go_simp; (try with_reducible rfl))
            try simp only [Act.put, List.setIfInBounds_toArray, List.set_cons_zero, List.set_cons_succ]
            refine takeL0 (i := 10) (v := ?v10g) rfl (by kernel_rfl) (by kernel_rfl) (by kernel_rfl) (by kernel_rfl) (by decide) (fun _ _ _ h => h) (by rfl) ?y10g (Or.inr HF9.out) ?r10g
            case y10g => (intro w; go_simp; (try with_reducible rfl))
            try simp only [Act.put, List.setIfInBounds_toArray, List.set_cons_zero, List.set_cons_succ]
            refine callL (i := 11) rfl (by kernel_rfl) (by rfl) ?_
            intro K hK
            go_simp
            refine hK.out _ _ (Or.inr HF10.out) (fun _ => ?_)
            clear hK K
            try simp only [Act.put, List.setIfInBounds_toArray, List.set_cons_zero, List.set_cons_succ]
            refine takeL0 (i := 12) (v := ?v12g) rfl (by kernel_rfl) (by kernel_rfl) (by kernel_rfl) (by kernel_rfl) (by decide) (fun _ _ _ h => h) (by rfl) ?y12g (Or.inr HF10.out) ?r12g
            case y12g => (intro w; go_simp; (try with_reducible rfl))
            try simp only [Act.put, List.setIfInBounds_toArray, List.set_cons_zero, List.set_cons_succ]
            refine takeL0 (i := 13) (v := ?v13g) rfl (by kernel_rfl) (by kernel_rfl) (by kernel_rfl) (by kernel_rfl) (by decide) (fun _ _ _ h => h) (by rfl) ?y13g (Or.inr HF10.out) ?r13g
            case y13g => (intro w; go_simp; (try with_reducible rfl))
            try simp only [Act.put, List.setIfInBounds_toArray, List.set_cons_zero, List.set_cons_succ]
            refine callL (i := 14) rfl (by kernel_rfl) (by rfl) ?_
            intro K hK
            go_simp
            refine hK.out _ _ (Or.inr HF11.out) (fun _ => ?_)
            clear hK K
            try simp only [Act.put, List.setIfInBounds_toArray, List.set_cons_zero, List.set_cons_succ]
            refine takeL0 (i := 15) (v := ?v15g) rfl (by kernel_rfl) (by kernel_rfl) (by kernel_rfl) (by kernel_rfl) (by decide) (fun _ _ _ h => h) (by rfl) ?y15g (Or.inr HF11.out) ?r15g
            case y15g => (intro w; go_simp; (try with_reducible rfl))
            try simp only [Act.put, List.setIfInBounds_toArray, List.set_cons_zero, List.set_cons_succ]
            refine takeL0 (i := 16) (v := ?v16g) rfl (by kernel_rfl) (by kernel_rfl) (by kernel_rfl) (by kernel_rfl) (by decide) (fun _ _ _ h => h) (by rfl) ?y16g (Or.inr HF11.out) ?r16g
            case y16g => (intro w; go_simp; (try with_reducible rfl))
            try simp only [Act.put, List.setIfInBounds_toArray, List.set_cons_zero, List.set_cons_succ]
            refine callL (i := 17) rfl (by kernel_rfl) (by rfl) ?_
            intro K hK
            go_simp
            refine hK.out _ _ (Or.inl (by kernel_rfl)) (fun _ => ?_)
            clear hK K
            try simp only [Act.put, List.setIfInBounds_toArray, List.set_cons_zero, List.set_cons_succ]
            refine doneL (by kernel_rfl) ?_ _
            have HDn := Lib.hid (HD.out.trans (D9.out.trans DGG.out))
            have HJn : Hid (st.join = joinFrom st.f ((st.uses.zip st.places).drop (i + 1)) o (s.setG pn o0 o1 o2)) := Lib.hid (by
              have h1 := HZ.out (pn : Int) rfl
              rw [if_pos hpi0] at h1
              exact h1)
            have hsg := St.setG_same s pn o0 o1 o2
            have HSn : Hid (SameS (s.setG pn o0 o1 o2) st) := Lib.hid ⟨hsg.1.trans HS.out.1, hsg.2.1.trans HS.out.2.1, hsg.2.2.1.trans HS.out.2.2.1, hsg.2.2.2.1.trans HS.out.2.2.2.1, by rw [hsg.2.2.2.2.1]; exact HS.out.2.2.2.2⟩
            have HCn : Hid (o + (st.places.drop (i + 1)).count (-1) = st.outs.length) := Lib.hid (by
              have h1 := HC.out
              rw [List.count_cons_of_ne (by omega)] at h1
              exact h1)
            clear HD D9 DGG HZ HJ HS HC B9 HF9 HF10 HF11 z3 z4 z5 f3 f4 f5 HROW HP0 hsg HG HGV
            go_wp2
            go_roundw
            case rel => exact ⟨i + 1, o, s.setG pn o0 o1 o2, by omega, by go_num, rfl, HDn, HJn, HSn, HCn⟩
            case measure => simp [intOf]; omega
    · obtain rfl : i = n := by omega
      have HF : Hid (st.join = s) := Lib.hid (by
        rw [HJ.out, List.drop_of_length_le (by rw [List.length_zip, HN.out, HPN.out]; omega)]
        rfl)
      go_wp2
      go_end0
      exact ⟨rfl, by rw [HF.out]; exact HD.out⟩
end Go.Proofs.YtjkmoahnociaiaaDoor
