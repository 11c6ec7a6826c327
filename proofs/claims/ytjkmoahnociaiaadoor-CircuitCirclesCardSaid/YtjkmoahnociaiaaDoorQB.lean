/- The reader: Parse. -/
import Derived.Test.YtjkmoahnociaiaaDoorDP
import Derived.Test.YtjkmoahnociaiaaDoorRWD
import Derived.Handy
namespace Go.Proofs.YtjkmoahnociaiaaDoor
open Go.RowKit Go.WideMaps Go.Maps

theorem rows_heap {W WF : World} {base size n : Nat} {e : TypeId} {v : Value} {xs : List Value} (h : W.ownsRow base e size v n xs) (hh : ∀ g, base ≤ g → WF.heap[g]? = W.heap[g]?) : WF.ownsRow base e size v n xs :=
  ⟨h.1, h.2.imp id fun ⟨g, cap, cur, hv, hb, hg, r⟩ => ⟨g, cap, cur, hv, hb, (hh g hb).trans hg, r⟩⟩
theorem pcells_get {l : List (Int × Int)} {i : Nat} {x : Int × Int} (hx : l[i]? = some x) : (pcells l)[i * 2]? = some (.int .i64 x.1) ∧ (pcells l)[i * 2 + 1]? = some (.int .i64 x.2) := by
  induction l generalizing i with
  | nil => cases hx
  | cons a l ih =>
    match i, hx with
    | 0, hx => cases hx; exact ⟨rfl, rfl⟩
    | i + 1, hx =>
      have h := ih (i := i) (by simpa using hx)
      have e : pcells (a :: l) = [.int .i64 a.1, .int .i64 a.2] ++ pcells l := by simp [pcells]
      rw [e]
      have e1 : (i + 1) * 2 = i * 2 + 2 := by omega
      rw [e1]
      exact h
theorem setG_spots (st : St) (p : Nat) (a b c : Int) : (st.setG p a b c).spots = st.spots := by
  unfold St.setG
  split <;> rfl
theorem joinFrom_same (f : ByteArray → Int) : ∀ (l : List (List Us × Int)) (o : Nat) (st : St), (joinFrom f l o st).spots = st.spots ∧ (joinFrom f l o st).gs.length = st.gs.length ∧ (joinFrom f l o st).outs.length = st.outs.length
  | [], o, st => ⟨rfl, rfl, rfl⟩
  | (us, p) :: l, o, st => by
    unfold joinFrom
    split
    · exact ⟨rfl, rfl, rfl⟩
    · split
      · have h1 := joinFrom_same f l o (st.setG p.toNat (opn f us 0) (opn f us 1) (opn f us 2))
        have h2 := St.setG_same st p.toNat (opn f us 0) (opn f us 1) (opn f us 2)
        rw [setG_spots, h2.2.2.2.1, h2.2.2.2.2.1] at h1
        exact h1
      · have h1 := joinFrom_same f l (o + 1) { st with outs := st.outs.set o (opn f us 0) }
        simpa using h1
theorem join_same (st : St) : st.join.spots = st.spots ∧ st.join.gs.length = st.gs.length ∧ st.join.outs.length = st.outs.length := joinFrom_same _ _ _ _
theorem alloc_size (w : World) (o : Obj) : (w.alloc o).heap.size = w.heap.size + 1 := by unfold World.alloc; exact Array.size_push _
def zeroC : Value := .agg #[.string ⟨#[]⟩, .slice none 0 0, .slice none 0 0]
def faultV (F : Int × Int × Int) : Value := .agg #[.int .i64 F.1, .int .i64 F.2.1, .int .i64 F.2.2]
def faultOf (st : St) (nl last : Nat) (v : Int) : Int × Int × Int :=
  if st.fc ≠ 0 then (st.fc, st.fl, st.fcol)
  else if st.ended = false then (140, (nl : Int), (last : Int) + 1)
  else if st.join.fc ≠ 0 then (st.join.fc, st.join.fl, st.join.fcol)
  else if 0 ≤ v then (143, (st.join.spots.getD v.toNat (0, 0)).1, (st.join.spots.getD v.toNat (0, 0)).2)
  else (0, 0, 0)
/-- The fault of a text that has been read so far, and what circle says of it. -/
def lastOf (s : ByteArray) : Nat := ((linesOf s).getLastD ⟨#[]⟩).size
/-- What Parse answers. -/
def PRes (w : World) (text : ByteArray) (circ : St → Int) (e : Ending) (w' : World) : Prop :=
  Below w.heap.size w w' ∧ ((1048576 < text.size ∧ e = .returned (.tuple #[zeroC, faultV (5, 0, 0)])) ∨ (text.size ≤ 1048576 ∧ ∃ st, Ran St.zero 0 (linesOf text) st ∧
    (((faultOf st (linesOf text).length (lastOf text) (circ st)).1 ≠ 0 ∧ e = .returned (.tuple #[zeroC, faultV (faultOf st (linesOf text).length (lastOf text) (circ st))])) ∨
     ((faultOf st (linesOf text).length (lastOf text) (circ st)).1 = 0 ∧ ∃ A ca B cb, e = .returned (.tuple #[.agg #[.string st.join.name, .slice A st.join.gs.length ca, .slice B st.join.outs.length cb], faultV (0, 0, 0)]) ∧ w'.ownsRow w.heap.size 46 6 (.slice A st.join.gs.length ca) st.join.gs.length (gcells st.join.gs) ∧ w'.ownsRow w.heap.size 3 1 (.slice B st.join.outs.length cb) st.join.outs.length (nums .i64 st.join.outs)))))
theorem PRes.fault {w w' : World} {text : ByteArray} {circ : St → Int} {st : St} {a b c : Int} (hb : Below w.heap.size w w') (ht : text.size ≤ 1048576) (hr : Ran St.zero 0 (linesOf text) st) (hF : faultOf st (linesOf text).length (lastOf text) (circ st) = (a, b, c)) (h0 : a ≠ 0) :
    PRes w text circ (.returned (.tuple #[.agg #[.string ⟨#[]⟩, .slice none 0 0, .slice none 0 0], .agg #[.int .i64 a, .int .i64 b, .int .i64 c]])) w' := by
  refine ⟨hb, .inr ⟨ht, st, hr, .inl ⟨?_, ?_⟩⟩⟩
  · rw [hF]; exact h0
  · rw [hF]; rfl
theorem PRes.good {w w' : World} {text : ByteArray} {circ : St → Int} {st : St} {A B : Option Addr} {ca cb : Nat} (hb : Below w.heap.size w w') (ht : text.size ≤ 1048576) (hr : Ran St.zero 0 (linesOf text) st) (hF : faultOf st (linesOf text).length (lastOf text) (circ st) = (0, 0, 0))
    (h1 : w'.ownsRow w.heap.size 46 6 (.slice A st.join.gs.length ca) st.join.gs.length (gcells st.join.gs)) (h2 : w'.ownsRow w.heap.size 3 1 (.slice B st.join.outs.length cb) st.join.outs.length (nums .i64 st.join.outs)) :
    PRes w text circ (.returned (.tuple #[.agg #[.string st.join.name, .slice A st.join.gs.length ca, .slice B st.join.outs.length cb], .agg #[.int .i64 0, .int .i64 0, .int .i64 0]])) w' := by
  refine ⟨hb, .inr ⟨ht, st, hr, .inr ⟨?_, A, ca, B, cb, rfl, h1, h2⟩⟩⟩
  rw [hF]
theorem Ran.lines {st' : St} : ∀ {ls : List ByteArray} {st : St} {i : Nat}, Ran st i ls st' → True := fun _ => trivial
def x0 (bm : Nat) : Ex := ⟨.slice none 0 0, .slice none 0 0, .slice none 0 0, .slice none 0 0, .slice none 0 0, bm, 0, []⟩
theorem PS.start {w : World} {base b bm : Nat} (hB : Blk w b 79 (cellsS St.zero (x0 bm))) (hM : MapIs w bm 0 (fun _ => 0)) (h1 : base ≤ bm) (h2 : base ≤ b) (h3 : bm ≠ b) : PS w base b St.zero (x0 bm) := by
  refine ⟨Lib.hid hB, Lib.hid ⟨⟨fun i r hi => ?_, fun i j r s hij hi hj => ?_⟩, hM, h1, h2, h3, Nat.le_refl _, rfl, fun h => absurd h (Nat.lt_irrefl _)⟩⟩
  · match i, hi with
    | 0, hi => cases hi; exact World.ownsRow_nil _ _ _ _
    | 1, hi => cases hi; exact World.ownsRow_nil _ _ _ _
    | 2, hi => cases hi; exact World.ownsRow_nil _ _ _ _
    | 3, hi => cases hi; exact World.ownsRow_nil _ _ _ _
    | 4, hi => cases hi; exact World.ownsRow_nil _ _ _ _
    | (n + 5), hi => simp [rowsS, x0] at hi
  · match i, hi with
    | 0, hi => cases hi; exact .inl rfl
    | 1, hi => cases hi; exact .inl rfl
    | 2, hi => cases hi; exact .inl rfl
    | 3, hi => cases hi; exact .inl rfl
    | 4, hi => cases hi; exact .inl rfl
    | (n + 5), hi => simp [rowsS, x0] at hi
theorem WordsAt.of_row {w : World} {B c : Nat} {A : Option Addr} {ws : List Wd} (h : w.ownsRow B 109 2 (.slice A ws.length c) ws.length (wcells ws)) : WordsAt w A ws := fun h0 => by
  rcases h.2 with ⟨_, e⟩ | ⟨g, cap, cur, hv, hb, hg, h1, h2, h3, h4⟩
  · omega
  · simp only [Value.slice.injEq] at hv
    refine ⟨g, cur.toList, hv.1, ?_, fun j y hy => ?_⟩
    · show w.heap[g]? = some (.cells cur.toList.toArray 109 (0, 0))
      rw [Array.toArray_toList]
      exact hg
    · rw [← h4] at hy
      rw [List.getElem?_take] at hy
      split at hy
      · exact hy
      · cases hy
/-- The two results are laid. -/
def putR (W : World) (r2 r3 : Nat) (v0 v1 v2 u0 u1 u2 : Value) : World := (((((W.setCell ⟨r2, 0, none⟩ v0).setCell ⟨r2, 1, none⟩ v1).setCell ⟨r2, 2, none⟩ v2).setCell ⟨r3, 0, none⟩ u0).setCell ⟨r3, 1, none⟩ u1).setCell ⟨r3, 2, none⟩ u2
theorem ret_store {W : World} {r2 r3 B : Nat} {t2 t3 : TypeId} {a0 a1 a2 b0 b1 b2 : Value} (h2 : Blk W r2 t2 [a0, a1, a2]) (h3 : Blk W r3 t3 [b0, b1, b2]) (hne : r2 ≠ r3) (hB2 : B ≤ r2) (hB3 : B ≤ r3) (v0 v1 v2 u0 u1 u2 : Value) :
    Blk (putR W r2 r3 v0 v1 v2 u0 u1 u2) r2 t2 [v0, v1, v2] ∧ Blk (putR W r2 r3 v0 v1 v2 u0 u1 u2) r3 t3 [u0, u1, u2] ∧ Below B W (putR W r2 r3 v0 v1 v2 u0 u1 u2) ∧ ∀ g, g ≠ r2 → g ≠ r3 → (putR W r2 r3 v0 v1 v2 u0 u1 u2).heap[g]? = W.heap[g]? := by
  unfold putR
  have h21 := ((h2.set_ 0 v0).set_ 1 v1).set_ 2 v2
  have h31 := ((h3.far (p := ⟨r2, 0, none⟩) (fun e => hne e.symm) v0).far (p := ⟨r2, 1, none⟩) (fun e => hne e.symm) v1).far (p := ⟨r2, 2, none⟩) (fun e => hne e.symm) v2
  have h32 := ((h31.set_ 0 u0).set_ 1 u1).set_ 2 u2
  have h22 := ((h21.far (p := ⟨r3, 0, none⟩) hne u0).far (p := ⟨r3, 1, none⟩) hne u1).far (p := ⟨r3, 2, none⟩) hne u2
  refine ⟨h22, h32, ?_, fun g hg2 hg3 => ?_⟩
  · exact ((((((Below.refl B W).setCell (p := ⟨r2, 0, none⟩) hB2 v0).setCell (p := ⟨r2, 1, none⟩) hB2 v1).setCell (p := ⟨r2, 2, none⟩) hB2 v2).setCell (p := ⟨r3, 0, none⟩) hB3 u0).setCell (p := ⟨r3, 1, none⟩) hB3 u1).setCell (p := ⟨r3, 2, none⟩) hB3 u2
  · rw [Below.heap_setCell _ _ _ g hg3, Below.heap_setCell _ _ _ g hg3, Below.heap_setCell _ _ _ g hg3, Below.heap_setCell _ _ _ g hg2, Below.heap_setCell _ _ _ g hg2, Below.heap_setCell _ _ _ g hg2]
theorem drew_cell (W : World) (a : Addr) : W.drew.cell? a = W.cell? a := rfl
theorem drew_heap (W : World) : W.drew.heap = W.heap := rfl
theorem ret_cells {W : World} {r2 r3 B : Nat} {t2 t3 : TypeId} {a0 a1 a2 b0 b1 b2 : Value} (h2 : Blk W r2 t2 [a0, a1, a2]) (h3 : Blk W r3 t3 [b0, b1, b2]) (hne : r2 ≠ r3) (hB2 : B ≤ r2) (hB3 : B ≤ r3) (v0 v1 v2 u0 u1 u2 : Value) :
    ∃ WF, (putR W r2 r3 v0 v1 v2 u0 u1 u2).drew = WF ∧ (WF.cell? ⟨r2, 0, none⟩ = some v0 ∧ WF.cell? ⟨r2, 1, none⟩ = some v1 ∧ WF.cell? ⟨r2, 2, none⟩ = some v2) ∧ (WF.cell? ⟨r3, 0, none⟩ = some u0 ∧ WF.cell? ⟨r3, 1, none⟩ = some u1 ∧ WF.cell? ⟨r3, 2, none⟩ = some u2) ∧ Below B W WF ∧ ∀ g, g ≠ r2 → g ≠ r3 → WF.heap[g]? = W.heap[g]? := by
  obtain ⟨h1, h2, h3, h4⟩ := ret_store h2 h3 hne hB2 hB3 v0 v1 v2 u0 u1 u2
  refine ⟨_, rfl, ⟨?_, ?_, ?_⟩, ⟨?_, ?_, ?_⟩, h3.drew, fun g e2 e3 => by rw [drew_heap]; exact h4 g e2 e3⟩
  · rw [drew_cell, h1.cell]; rfl
  · rw [drew_cell, h1.cell]; rfl
  · rw [drew_cell, h1.cell]; rfl
  · rw [drew_cell, h2.cell]; rfl
  · rw [drew_cell, h2.cell]; rfl
  · rw [drew_cell, h2.cell]; rfl
theorem ret_cells0 {W : World} {r2 r3 B : Nat} {t2 t3 : TypeId} {a0 a1 a2 b0 b1 b2 : Value} (h2 : Blk W r2 t2 [a0, a1, a2]) (h3 : Blk W r3 t3 [b0, b1, b2]) (hne : r2 ≠ r3) (hB2 : B ≤ r2) (hB3 : B ≤ r3) (v0 v1 v2 u0 u1 u2 : Value) :
    ∃ WF, putR W r2 r3 v0 v1 v2 u0 u1 u2 = WF ∧ (WF.cell? ⟨r2, 0, none⟩ = some v0 ∧ WF.cell? ⟨r2, 1, none⟩ = some v1 ∧ WF.cell? ⟨r2, 2, none⟩ = some v2) ∧ (WF.cell? ⟨r3, 0, none⟩ = some u0 ∧ WF.cell? ⟨r3, 1, none⟩ = some u1 ∧ WF.cell? ⟨r3, 2, none⟩ = some u2) ∧ Below B W WF ∧ ∀ g, g ≠ r2 → g ≠ r3 → WF.heap[g]? = W.heap[g]? := by
  obtain ⟨h1, h2, h3, h4⟩ := ret_store h2 h3 hne hB2 hB3 v0 v1 v2 u0 u1 u2
  refine ⟨_, rfl, ⟨?_, ?_, ?_⟩, ⟨?_, ?_, ?_⟩, h3, h4⟩
  · rw [h1.cell]; rfl
  · rw [h1.cell]; rfl
  · rw [h1.cell]; rfl
  · rw [h2.cell]; rfl
  · rw [h2.cell]; rfl
  · rw [h2.cell]; rfl
theorem PS.setWords {w : World} {base b : Nat} {st : St} {x : Ex} (h : PS w base b st x) {A : Option Addr} {ws : List Wd} (hw : WordsAt w A ws) (c : Nat) (e : Int) : Did w base b { st with words := ws, wA := A, wC := c, end_ := e } x ((w.setCell ⟨b, 6, none⟩ (.slice A ws.length c)).setCell ⟨b, 8, none⟩ (.int .i64 e)) := by
  obtain ⟨hB, hP⟩ := h
  have hon := only_setCell (only_setCell (only_refl w (some b)) (p := ⟨b, 6, none⟩) (.inl rfl) (.slice A ws.length c)) (p := ⟨b, 8, none⟩) (.inl rfl) (.int .i64 e)
  have hk := KeepT.own hB.out hon
  have hq := hP.out.own hB.out hon
  exact ⟨⟨Lib.hid ((hB.out.set_ 6 (.slice A ws.length c)).set_ 8 (.int .i64 e)), Lib.hid ⟨hq.hold, hq.map, hq.mb, hq.bb, hq.ne, hq.nm, hq.uses, hk.words hw⟩⟩, (Below.refl base w).grown hon (Nat.le_trans hP.out.bb (Nat.le_of_lt hB.out.lt)) (fun z e => by cases e; exact hP.out.bb), hk⟩
set_option maxRecDepth 100000 in
set_option maxHeartbeats 2000000 in
theorem parse_any (text : ByteArray) (circ : St → Int) (w : World) (hop : OpsAt w 0)
    (hcirc : text.size ≤ 1048576 → ∀ st, Ran St.zero 0 (linesOf text) st → Inv st → st.fc = 0 → st.ended = true → st.join.fc = 0 → (-1 ≤ circ st ∧ circ st < st.join.gs.length) ∧ ∀ (A : Option Addr) (n c : Nat) (W : World), CReads W A (gcells st.join.gs) → st.join.gs.length = n → Calls Tryd.prog 41 #[.slice A n c] W fun e w' => e = .returned (.int .i64 (circ st)) ∧ Below W.heap.size W w') :
    Calls Tryd.prog 14 #[.string text] w (PRes w text circ) := by
  go_enter Tryd.func14, Tryd.ntmps14
  by_cases hlong : 1048576 < text.size
  · go_wp2
    go_returns
    exact ⟨(below1 w _).trans ((below1 _ _).mono (by rw [alloc_size]; omega)), .inl ⟨hlong, rfl⟩⟩
  · have hts : text.size ≤ 1048576 := by omega
    have HT := Lib.hid hts
    replace hcirc := hcirc hts
    obtain ⟨W0, hW0⟩ : ∃ W, ((w.alloc (.cells #[.string ⟨#[]⟩, .slice none 0 0, .slice none 0 0] 25)).alloc (.cells #[.int .i64 0, .int .i64 0, .int .i64 0] 35)) = W := ⟨_, rfl⟩
    obtain ⟨r2, hr2⟩ : ∃ r, w.heap.size = r := ⟨_, rfl⟩
    have hs0 : W0.heap.size = r2 + 2 := by rw [← hW0, ← hr2, alloc_size, alloc_size]
    have hr3 : (w.alloc (.cells #[.string ⟨#[]⟩, .slice none 0 0, .slice none 0 0] 25)).heap.size = r2 + 1 := by rw [← hr2, alloc_size]
    have hbw1 := below1 w (.cells #[.string ⟨#[]⟩, .slice none 0 0, .slice none 0 0] 25)
    have hbw2 := below1 (w.alloc (.cells #[.string ⟨#[]⟩, .slice none 0 0, .slice none 0 0] 25)) (.cells #[.int .i64 0, .int .i64 0, .int .i64 0] 35)
    have B2 : Hid (Blk W0 r2 25 [.string ⟨#[]⟩, .slice none 0 0, .slice none 0 0]) := Lib.hid (by
      rw [← hW0, ← hr2]
      exact (Blk.new w 25 [.string ⟨#[]⟩, .slice none 0 0, .slice none 0 0]).self hbw2)
    have B3 : Hid (Blk W0 (r2 + 1) 35 [.int .i64 0, .int .i64 0, .int .i64 0]) := Lib.hid (by
      rw [← hW0, ← hr3]
      exact Blk.new _ 35 [.int .i64 0, .int .i64 0, .int .i64 0])
    have HBW : Hid (Below w.heap.size w W0) := Lib.hid (by
      rw [← hW0]
      exact hbw1.trans (hbw2.mono (by rw [hr3, hr2]; omega)))
    have hMK : Sem.run Tryd.prog (Instr.makeMap 65 none) W0 = .ok (.map (some W0.heap.size)) (W0.alloc (.map #[] 0)) := by simp [Instr.makeMap, run_underlying Tryd.underlying65, asInt, go_sem]
    have hbm := below1 W0 (.map #[] 0)
    have hbp := below1 (W0.alloc (.map #[] 0)) (.cells (cellsS St.zero (x0 W0.heap.size)).toArray 79)
    have hszm : (W0.alloc (.map #[] 0)).heap.size = W0.heap.size + 1 := alloc_size _ _
    have HM1 : Hid (MapIs ((W0.alloc (.map #[] 0)).alloc (.cells (cellsS St.zero (x0 W0.heap.size)).toArray 79)) W0.heap.size 0 (fun _ => 0)) := Lib.hid ((MapIs.made W0).below hbp)
    have HB1 : Hid (Blk ((W0.alloc (.map #[] 0)).alloc (.cells (cellsS St.zero (x0 W0.heap.size)).toArray 79)) (W0.heap.size + 1) 79 (cellsS St.zero (x0 W0.heap.size))) := Lib.hid (by
      have h1 := Blk.new (W0.alloc (.map #[] 0)) 79 (cellsS St.zero (x0 W0.heap.size))
      rw [hszm] at h1
      exact h1)
    have HB0 : Hid (Below W0.heap.size W0 ((W0.alloc (.map #[] 0)).alloc (.cells (cellsS St.zero (x0 W0.heap.size)).toArray 79))) := Lib.hid (hbm.trans (hbp.mono (by rw [hszm]; omega)))
    have hW0sz : w.heap.size ≤ W0.heap.size := HBW.out.size
    rw [hs0] at HM1 HB1 HB0 hW0sz hMK
    have hop0 : ∀ (j : Nat) (y : ByteArray), opWords[j]? = some y → 0 < w.heap.size := fun j y hy => World.block_lt_of_cell? w _ (hop j y hy)
    have HO0 : Hid (∀ W, Below (r2 + 2) ((W0.alloc (.map #[] 0)).alloc (.cells (cellsS St.zero (x0 (r2 + 2))).toArray 79)) W → OpsAt W 0) := Lib.hid (fun W hW j y hy => by
      have h0 := hop0 j y hy
      rw [hW.cell (p := ⟨0, j, none⟩) (by show 0 < r2 + 2; omega), HB0.out.cell (p := ⟨0, j, none⟩) (by show 0 < r2 + 2; omega), HBW.out.cell (p := ⟨0, j, none⟩) h0]
      exact hop j y hy)
    clear hbm hbp hbw1 hbw2 hszm hop0 hop
    go_upto_region 4 with (fail)
    clear hMK
    change Code.wp _ _ _ _ ((W0.alloc (.map #[] 0)).alloc (.cells (cellsS St.zero (x0 (r2 + 2))).toArray 79))
    generalize ((W0.alloc (.map #[] 0)).alloc (.cells (cellsS St.zero (x0 (r2 + 2))).toArray 79)) = W1 at *
    have P1 := Lib.hid (PS.start HB1.out HM1.out (Nat.le_refl _) (Nat.le_succ _) (by omega))
    have HR2 : Hid (Blk W1 r2 25 [.string ⟨#[]⟩, .slice none 0 0, .slice none 0 0]) := Lib.hid ((HB0.out.block r2 (by omega)).trans B2.out)
    have HR3 : Hid (Blk W1 (r2 + 1) 35 [.int .i64 0, .int .i64 0, .int .i64 0]) := Lib.hid ((HB0.out.block (r2 + 1) (by omega)).trans B3.out)
    have HBW1 := Lib.hid (HBW.out.trans (HB0.out.mono hW0sz))
    have hszr : w.heap.size ≤ r2 := by omega
    clear HB1 HM1 B2 B3 HB0 HBW hs0 hr3 hW0 hW0sz hr2
    obtain ⟨x, hx⟩ : ∃ x, x0 (r2 + 2) = x := ⟨_, rfl⟩
    rw [hx] at P1
    clear hx
    obtain ⟨base, hbase⟩ : ∃ base, r2 + 2 = base := ⟨_, rfl⟩
    obtain ⟨b, hb⟩ : ∃ b, base + 1 = b := ⟨_, rfl⟩
    obtain ⟨r3, hr3⟩ : ∃ r, r2 + 1 = r := ⟨_, rfl⟩
    rw [hbase] at P1 HO0 ⊢
    rw [hb] at P1 ⊢
    rw [hr3] at HR3 ⊢
    have hr2b : r2 < base := by omega
    have hr3b : r3 < base := by omega
    have hbb : base < b := by omega
    have hr23 : r2 ≠ r3 := by omega
    have hszr3 : w.heap.size ≤ r3 := by omega
    clear hbase hb hr3
    have hsp := split_any text W1 (by omega)
    rw [show nl = (⟨#[10]⟩ : ByteArray) from rfl] at hsp
    have D1 := Lib.hid (Did.refl P1.out)
    go_upto_region 6 with (go_at_call 37; with_reducible refine hsp.mono ?_; rintro e w2 ⟨rfl, rfl⟩)
    have HLs : Hid (∀ l ∈ linesOf text, l.size ≤ 4000000) := Lib.hid (fun l hl => by have := linesOf_size text l hl; omega)
    have HLast : Hid (lastOf text = ((linesOf text).getLastD ⟨#[]⟩).size) := Lib.hid rfl
    have hlen1 : 1 ≤ (linesOf text).length := by rw [linesOf_length]; omega
    have hlen2 : (linesOf text).length ≤ 1048577 := by
      rw [linesOf_length]
      have h1 := List.count_le_length (a := (10 : UInt8)) (l := text.data.toList)
      rw [Array.length_toList] at h1
      have h2 : text.data.size = text.size := rfl
      omega
    obtain ⟨n, hn⟩ : ∃ n, (linesOf text).length = n := ⟨_, rfl⟩
    rw [hn] at hlen1 hlen2 hsp ⊢
    have HN := Lib.hid hn
    have D2 := Lib.hid (D1.out.alloc (.cells ((linesOf text).map Value.string).toArray 9))
    have HL2 : Hid (Blk (W1.alloc (.cells ((linesOf text).map Value.string).toArray 9)) W1.heap.size 9 ((linesOf text).map Value.string)) := Lib.hid (Blk.new W1 9 ((linesOf text).map Value.string))
    have hbW1 := P1.out.size.2
    have HBW2 := Lib.hid (HBW1.out.trans ((below1 W1 (.cells ((linesOf text).map Value.string).toArray 9)).mono HBW1.out.size))
    have HR2' := Lib.hid (HR2.out.self (below1 W1 (.cells ((linesOf text).map Value.string).toArray 9)))
    have HR3' := Lib.hid (HR3.out.self (below1 W1 (.cells ((linesOf text).map Value.string).toArray 9)))
    have HO2 : Hid (∀ W, Below base (W1.alloc (.cells ((linesOf text).map Value.string).toArray 9)) W → OpsAt W 0) := Lib.hid (fun W hW => HO0.out W (D2.out.2.1.trans hW))
    clear hsp hn D1 P1 HBW1 HR2 HR3 HO0
    generalize W1.alloc (.cells ((linesOf text).map Value.string).toArray 9) = W2 at *
    obtain ⟨gL, hgL⟩ : ∃ g, W1.heap.size = g := ⟨_, rfl⟩
    rw [hgL] at HL2 hbW1 ⊢
    have hbL : b < gL := hbW1
    clear hgL hbW1
    have P2 := D2.out.1
    have D0 : Hid (Did W2 base b St.zero x W2) := Lib.hid (Did.refl P2)
    have HA0 : Hid (∀ st', Ran St.zero 0 ((linesOf text).drop 0) st' → Ran St.zero 0 (linesOf text) st') := Lib.hid (fun st' h => by rw [List.drop_zero] at h; exact h)
    have HI0 : Hid (St.zero.fc = 0 ∧ Inv St.zero) := Lib.hid ⟨rfl, zero_inv⟩
    clear P2 D2
    go_loopw [21] (fun s21 wr => ∃ (i : Nat) (s : St) (x1 : Ex), i ≤ n ∧ s21 = .int .i64 i ∧ Hid (Did W2 base b s x1 wr) ∧ Hid (∀ st', Ran s i ((linesOf text).drop i) st' → Ran St.zero 0 (linesOf text) st') ∧ Hid (s.fc = 0 ∧ Inv s)) (fun s21 _ => n - (intOf s21).toNat)
    case atStart => exact ⟨0, St.zero, x, by omega, rfl, D0, HA0, HI0⟩
    case round =>
      clear D0 HA0 HI0 x
      obtain ⟨i, s, x, hi, rfl, HD, HA, HI⟩ := hrel
      by_cases hlt : i < n
      · obtain ⟨l, hl⟩ : ∃ l, (linesOf text)[i]? = some l := ⟨_, List.getElem?_eq_getElem (by have := HN.out; omega)⟩
        have hls := HLs.out l (List.mem_of_getElem? hl)
        have hls2 : l.size ≤ 1100000 := by have := linesOf_size text l (List.mem_of_getElem? hl); omega
        have HLR : Hid (Blk wr gL 9 ((linesOf text).map Value.string)) := Lib.hid (HD.out.2.2 _ _ _ HL2.out (by decide))
        have zl : wr.cell? ⟨gL, i, none⟩ = some (.string l) := by rw [HLR.out.cell, List.getElem?_map, hl]; rfl
        have hi0 : (0 : Int) ≤ (i : Int) := by omega
        have hi1 : (i : Int) < (n : Int) := by omega
        have HLI := Lib.hid hl
        obtain ⟨z5, f5⟩ := HD.out.1.cellAt 5 (v := .int .i64 s.line) rfl
        have hcast : ((i + 1 : Nat) : Int) = (i : Int) + 1 := by omega
        have D3 := Lib.hid (HD.out.trans (HD.out.1.setOwn (st' := { s with line := ((i + 1 : Nat) : Int) }) 5 (.int .i64 ((i : Int) + 1)) (by unfold cellsS; rw [hcast]; rfl) rfl rfl rfl rfl rfl rfl rfl rfl))
        clear hl hcast HD HLR
        go_upto_region 9 with (fail)
        change Code.wp _ _ _ _ (wr.setCell ⟨b, 5, none⟩ (.int .i64 ((i : Int) + 1)))
        clear z5 f5 zl
        generalize wr.setCell ⟨b, 5, none⟩ (.int .i64 ((i : Int) + 1)) = W3 at *
        have hcs := csplit_any l W3 hls2
        obtain ⟨ws, we, hws⟩ : ∃ ws we, splitW l = (ws, we) := ⟨_, _, rfl⟩
        rw [hws] at hcs
        dsimp only at hcs
        have HWS := Lib.hid hws
        have hwl : ws.length ≤ 1100000 := by have := (splitW_len l).1; rw [hws] at this; dsimp only at this; omega
        have HZ : Hid (∀ w4, Below W3.heap.size W3 w4 → (w4.cell? ⟨b, 6, none⟩ = some (.slice s.wA s.words.length s.wC) ∧ w4.frozen? ⟨b, 6, none⟩ = false) ∧ (w4.cell? ⟨b, 8, none⟩ = some (.int .i64 s.end_) ∧ w4.frozen? ⟨b, 8, none⟩ = false)) := Lib.hid (fun w4 h4 => by
          have d := (D3.out.below h4).1
          exact ⟨d.cellAt 6 rfl, d.cellAt 8 rfl⟩)
        have HINV : Hid (∀ A c, Inv (stepL s ((i + 1 : Nat) : Int) l A c)) := Lib.hid (fun A c => stepL_inv HI.out.2 _ l A c hls)
        have HI5 : Hid (∀ A c, Inv ({ s with line := ((i + 1 : Nat) : Int), words := ws, end_ := we, wA := A, wC := c } : St)) := Lib.hid (fun A c => by
          have h := at_inv HI.out.2 ((i + 1 : Nat) : Int) l A c hls
          rw [hws] at h
          exact h)
        have HSTEP : Hid (∀ A c, stepL s ((i + 1 : Nat) : Int) l A c = if 0 < ws.length then ({ s with line := ((i + 1 : Nat) : Int), words := ws, end_ := we, wA := A, wC := c } : St).read else { s with line := ((i + 1 : Nat) : Int), words := ws, end_ := we, wA := A, wC := c }) := Lib.hid (fun A c => by
          unfold stepL
          rw [hws])
        clear hws
        go_upto_region 10 with (go_at_call 38; with_reducible refine hcs.mono ?_; rintro e w4 ⟨A, c, rfl, hrow, hb4⟩; obtain ⟨⟨z6, f6⟩, ⟨z8, f8⟩⟩ := HZ.out w4 hb4)
        have D4 := D3.out.below hb4
        have D5 := Lib.hid (D4.trans (D4.1.setWords (WordsAt.of_row hrow) c we))
        change Code.wp _ _ _ _ ((w4.setCell ⟨b, 6, none⟩ (.slice A ws.length c)).setCell ⟨b, 8, none⟩ (.int .i64 we))
        clear D4 D3 HZ hcs hrow hb4 z6 z8 f6 f8
        generalize (w4.setCell ⟨b, 6, none⟩ (.slice A ws.length c)).setCell ⟨b, 8, none⟩ (.int .i64 we) = W5 at *
        have HIA := Lib.hid (HI5.out A c)
        have HIB := Lib.hid (HINV.out A c)
        have HST := Lib.hid (HSTEP.out A c)
        clear HI5 HINV HSTEP
        obtain ⟨s6, hs6⟩ : ∃ s6, stepL s ((i + 1 : Nat) : Int) l A c = s6 := ⟨_, rfl⟩
        have HS6 := Lib.hid hs6
        rw [hs6] at HIB HST
        clear hs6
        obtain ⟨s5, hs5⟩ : ∃ s5, ({ s with line := ((i + 1 : Nat) : Int), words := ws, end_ := we, wA := A, wC := c } : St) = s5 := ⟨_, rfl⟩
        have hw5 : s5.words = ws := by rw [← hs5]
        have hc5 : s5.wC = c := by rw [← hs5]
        have ha5 : s5.wA = A := by rw [← hs5]
        rw [hs5] at D5 HIA HST
        have c6 : W5.cell? ⟨b, 6, none⟩ = some (.slice A ws.length c) := by
          have h1 := (D5.out.1.cellAt 6 (v := .slice s5.wA s5.words.length s5.wC) rfl).1
          rw [hw5, hc5, ha5] at h1
          exact h1
        have HW5 := Lib.hid hw5
        clear hs5 hw5 hc5 ha5
        go_upto_if 47 with (fail)
        clear c6
        go_cut [] from 47 to 49 (fun wx => Hid (∃ x6, Did W2 base b s6 x6 wx))
        case first =>
          by_cases hw : 0 < ws.length
          · have hrd := read_any base b s5 x W5 D5.out.1 HIA.out.ok HIA.out.b (by rw [HW5.out]; exact hw) (fun W hW => HO2.out W (D5.out.2.1.trans hW))
            have HE : Hid (s6 = s5.read) := Lib.hid (by rw [HST.out, if_pos hw])
            have hw2 : (0 : Int) < (ws.length : Int) := by omega
            go_wp2_with (go_at_call 39; with_reducible refine hrd.mono ?_; rintro e w6 ⟨rfl, x6, hd6⟩)
            all_goals
              go_meet
              exact Lib.hid ⟨x6, by rw [HE.out]; exact D5.out.trans hd6⟩
          · have HE : Hid (s6 = s5) := Lib.hid (by rw [HST.out, if_neg hw])
            have hw2 : ¬ (0 : Int) < (ws.length : Int) := by omega
            go_wp2
            go_meet
            exact Lib.hid ⟨x, by rw [HE.out]; exact D5.out⟩
        case rest =>
          obtain ⟨x6, D6'⟩ := hcut.out
          have D6 := Lib.hid D6'
          have c9 : wc.cell? ⟨b, 9, none⟩ = some (.int .i64 s6.fc) := (D6'.1.cellAt 9 rfl).1
          clear D6' hcut D5 HST HIA HW5
          by_cases h0 : s6.fc = 0
          · rw [h0] at c9
            have HAn : Hid (∀ st', Ran s6 (i + 1) ((linesOf text).drop (i + 1)) st' → Ran St.zero 0 (linesOf text) st') := Lib.hid (fun st' h => by
              refine HA.out st' ?_
              obtain ⟨h1, h2⟩ := List.getElem?_eq_some_iff.1 HLI.out
              rw [List.drop_eq_getElem_cons h1, h2]
              refine ⟨A, c, ?_⟩
              rw [HS6.out, if_pos h0]
              exact h)
            have HIn : Hid (s6.fc = 0 ∧ Inv s6) := Lib.hid ⟨h0, HIB.out⟩
            clear HA HI HLI HS6 HIB h0
            go_wp2
            go_roundw
            case rel => exact ⟨i + 1, s6, x6, by omega, by go_num, D6, HAn, HIn⟩
            case measure => simp [intOf]; omega
          · have h0b : (s6.fc == 0) = false := by simpa using h0
            have HRAN : Hid (Ran St.zero 0 (linesOf text) s6) := Lib.hid (by
              refine HA.out s6 ?_
              obtain ⟨h1, h2⟩ := List.getElem?_eq_some_iff.1 HLI.out
              rw [List.drop_eq_getElem_cons h1, h2]
              refine ⟨A, c, ?_⟩
              rw [HS6.out, if_neg h0])
            have HF : Hid (faultOf s6 (linesOf text).length (lastOf text) (circ s6) = (s6.fc, s6.fl, s6.fcol) ∧ s6.fc ≠ 0) := Lib.hid ⟨by unfold faultOf; rw [if_pos h0], h0⟩
            have c10 : wc.cell? ⟨b, 10, none⟩ = some (.int .i64 s6.fl) := (D6.out.1.cellAt 10 rfl).1
            have c11 : wc.cell? ⟨b, 11, none⟩ = some (.int .i64 s6.fcol) := (D6.out.1.cellAt 11 rfl).1
            have BR2 : Hid (Blk wc r2 25 [.string ⟨#[]⟩, .slice none 0 0, .slice none 0 0]) := Lib.hid ((D6.out.2.1.block r2 hr2b).trans HR2'.out)
            have BR3 : Hid (Blk wc r3 35 [.int .i64 0, .int .i64 0, .int .i64 0]) := Lib.hid ((D6.out.2.1.block r3 hr3b).trans HR3'.out)
            have y20 : wc.cell? ⟨r2, 0, none⟩ = some (.string ⟨#[]⟩) := (BR2.out.cell 0).trans rfl
            have y21 : wc.cell? ⟨r2, 1, none⟩ = some (.slice none 0 0) := (BR2.out.cell 1).trans rfl
            have y22 : wc.cell? ⟨r2, 2, none⟩ = some (.slice none 0 0) := (BR2.out.cell 2).trans rfl
            have y30 : wc.cell? ⟨r3, 0, none⟩ = some (.int .i64 0) := (BR3.out.cell 0).trans rfl
            have y31 : wc.cell? ⟨r3, 1, none⟩ = some (.int .i64 0) := (BR3.out.cell 1).trans rfl
            have y32 : wc.cell? ⟨r3, 2, none⟩ = some (.int .i64 0) := (BR3.out.cell 2).trans rfl
            have v20 := BR2.out.frozen 0
            have v21 := BR2.out.frozen 1
            have v22 := BR2.out.frozen 2
            have v30 := BR3.out.frozen 0
            have v31 := BR3.out.frozen 1
            have v32 := BR3.out.frozen 2
            have hrb2 : r2 ≠ b := by omega
            have hrb3 : r3 ≠ b := by omega
            go_upto_region 13 with (fail)
            go_region
            obtain ⟨WF, hWF, ⟨k20, k21, k22⟩, ⟨k30, k31, k32⟩, hbF, _⟩ := ret_cells BR2.out BR3.out hr23 hszr hszr3 (.string ⟨#[]⟩) (.slice none 0 0) (.slice none 0 0) (.int .i64 s6.fc) (.int .i64 s6.fl) (.int .i64 s6.fcol)
            have HBF := Lib.hid ((HBW2.out.trans (D6.out.2.1.mono (by omega))).trans hbF)
            clear hbF y20 y21 y22 y30 y31 y32 v20 v21 v22 v30 v31 v32 BR2 BR3
            change Exit.then _ _ _ _ (World.drew (putR wc r2 r3 (.string ⟨#[]⟩) (.slice none 0 0) (.slice none 0 0) (.int .i64 s6.fc) (.int .i64 s6.fl) (.int .i64 s6.fcol)))
            rw [hWF]
            clear hWF
            go_wp2
            (try simp only [Exit.inBlock, Exit.then])
            refine bodyPost_ret (v := .tuple #[.agg #[.string ⟨#[]⟩, .slice none 0 0, .slice none 0 0], .agg #[(.int .i64 s6.fc), (.int .i64 s6.fl), (.int .i64 s6.fcol)]]) (by simp [results, Tryd.results14, go_sem, k20, k21, k22, k30, k31, k32]) rfl ?_
            exact PRes.fault HBF.out HT.out HRAN.out HF.out.1 HF.out.2
      · obtain rfl : i = n := by omega
        have HRAN : Hid (Ran St.zero 0 (linesOf text) s) := Lib.hid (by
          refine HA.out s ?_
          rw [List.drop_of_length_le (by rw [HN.out]; exact Nat.le_refl _)]
          rfl)
        have c4 : wr.cell? ⟨b, 4, none⟩ = some (.bool s.ended) := (HD.out.1.cellAt 4 rfl).1
        cases he : s.ended
        · rw [he] at c4
          have HLR : Hid (Blk wr gL 9 ((linesOf text).map Value.string)) := Lib.hid (HD.out.2.2 _ _ _ HL2.out (by decide))
          obtain ⟨m, rfl⟩ : ∃ m, i = m + 1 := ⟨i - 1, by omega⟩
          obtain ⟨la, hla⟩ : ∃ la, (linesOf text)[m]? = some la := ⟨_, List.getElem?_eq_getElem (by have := HN.out; omega)⟩
          have hlast : lastOf text = la.size := by
            unfold lastOf
            rw [List.getLastD_eq_getLast?, List.getLast?_eq_getElem?, HN.out, Nat.add_sub_cancel, hla]
            rfl
          have zl : wr.cell? ⟨gL, m, none⟩ = some (.string la) := by rw [HLR.out.cell, List.getElem?_map, hla]; rfl
          have hlas : la.size ≤ 1048576 := by have := linesOf_size text la (List.mem_of_getElem? hla); omega
          have HF : Hid (faultOf s (linesOf text).length (lastOf text) (circ s) = (140, (m : Int) + 1, (la.size : Int) + 1) ∧ (140 : Int) ≠ 0) := Lib.hid ⟨by unfold faultOf; rw [if_neg (by rw [HI.out.1]; simp), if_pos he, HN.out, hlast]; rfl, by decide⟩
          have hm1 : ((m + 1 : Nat) : Int) - 1 = (m : Int) := by omega
          have BR2 : Hid (Blk wr r2 25 [.string ⟨#[]⟩, .slice none 0 0, .slice none 0 0]) := Lib.hid ((HD.out.2.1.block r2 hr2b).trans HR2'.out)
          have BR3 : Hid (Blk wr r3 35 [.int .i64 0, .int .i64 0, .int .i64 0]) := Lib.hid ((HD.out.2.1.block r3 hr3b).trans HR3'.out)
          have y20 : wr.cell? ⟨r2, 0, none⟩ = some (.string ⟨#[]⟩) := (BR2.out.cell 0).trans rfl
          have y21 : wr.cell? ⟨r2, 1, none⟩ = some (.slice none 0 0) := (BR2.out.cell 1).trans rfl
          have y22 : wr.cell? ⟨r2, 2, none⟩ = some (.slice none 0 0) := (BR2.out.cell 2).trans rfl
          have y30 : wr.cell? ⟨r3, 0, none⟩ = some (.int .i64 0) := (BR3.out.cell 0).trans rfl
          have y31 : wr.cell? ⟨r3, 1, none⟩ = some (.int .i64 0) := (BR3.out.cell 1).trans rfl
          have y32 : wr.cell? ⟨r3, 2, none⟩ = some (.int .i64 0) := (BR3.out.cell 2).trans rfl
          have v20 := BR2.out.frozen 0
          have v21 := BR2.out.frozen 1
          have v22 := BR2.out.frozen 2
          have v30 := BR3.out.frozen 0
          have v31 := BR3.out.frozen 1
          have v32 := BR3.out.frozen 2
          have hrb2 : r2 ≠ b := by omega
          have hrb3 : r3 ≠ b := by omega
          clear he hla hlast HLR HA HI hcirc
          go_upto_region 16 with (fail)
          go_region
          obtain ⟨WF, hWF, ⟨k20, k21, k22⟩, ⟨k30, k31, k32⟩, hbF, _⟩ := ret_cells BR2.out BR3.out hr23 hszr hszr3 (.string ⟨#[]⟩) (.slice none 0 0) (.slice none 0 0) (.int .i64 140) (.int .i64 ((m : Int) + 1)) (.int .i64 ((la.size : Int) + 1))
          have HBF := Lib.hid ((HBW2.out.trans (HD.out.2.1.mono (by omega))).trans hbF)
          clear hbF y20 y21 y22 y30 y31 y32 v20 v21 v22 v30 v31 v32 BR2 BR3
          change Exit.then _ _ _ _ (World.drew (putR wr r2 r3 (.string ⟨#[]⟩) (.slice none 0 0) (.slice none 0 0) (.int .i64 140) (.int .i64 ((m : Int) + 1)) (.int .i64 ((la.size : Int) + 1))))
          rw [hWF]
          clear hWF
          go_wp2
          (try simp only [Exit.inBlock, Exit.then])
          refine bodyPost_ret (v := .tuple #[.agg #[.string ⟨#[]⟩, .slice none 0 0, .slice none 0 0], .agg #[(.int .i64 140), (.int .i64 ((m : Int) + 1)), (.int .i64 ((la.size : Int) + 1))]]) (by simp [results, Tryd.results14, go_sem, k20, k21, k22, k30, k31, k32]) rfl ?_
          exact PRes.fault HBF.out HT.out HRAN.out HF.out.1 HF.out.2
        · rw [he] at c4
          have hjn := pjoin_any base b s x wr HD.out.1 HI.out.2.b HI.out.2.j
          have HE := Lib.hid he
          have HJS := Lib.hid (join_same s)
          have HCI : Hid (s.join.fc = 0 → (-1 ≤ circ s ∧ circ s < s.join.gs.length) ∧ ∀ (A : Option Addr) (n c : Nat) (W : World), CReads W A (gcells s.join.gs) → s.join.gs.length = n → Calls Tryd.prog 41 #[.slice A n c] W fun e w' => e = .returned (.int .i64 (circ s)) ∧ Below W.heap.size W w') := Lib.hid (fun h => hcirc s HRAN.out HI.out.2 HI.out.1 HE.out h)
          have HLEN : Hid (s.join.spots.length = s.join.gs.length ∧ s.join.gs.length ≤ 65536 ∧ s.join.outs.length ≤ 65536) := Lib.hid ⟨by rw [HJS.out.1, HJS.out.2.1]; exact HI.out.2.b.sp, by rw [HJS.out.2.1]; exact HI.out.2.b.gl, by rw [HJS.out.2.2]; exact HI.out.2.b.ol⟩
          obtain ⟨sj, hsj⟩ : ∃ sj, s.join = sj := ⟨_, rfl⟩
          have HFO : Hid (faultOf s (linesOf text).length (lastOf text) (circ s) = if sj.fc ≠ 0 then (sj.fc, sj.fl, sj.fcol) else if 0 ≤ circ s then (143, (sj.spots.getD (circ s).toNat (0, 0)).1, (sj.spots.getD (circ s).toNat (0, 0)).2) else (0, 0, 0)) := Lib.hid (by
            unfold faultOf
            rw [if_neg (by rw [HI.out.1]; simp), if_neg (by rw [HE.out]; simp), hsj])
          rw [hsj] at hjn HCI HLEN
          have HSJ := Lib.hid hsj
          clear he hcirc HA HI hsj HJS
          go_upto_region 18 with (go_at_call 40; with_reducible refine hjn.mono ?_; rintro e w6 ⟨rfl, hd6⟩)
          have D6 := Lib.hid (HD.out.trans hd6)
          have c9 : w6.cell? ⟨b, 9, none⟩ = some (.int .i64 sj.fc) := (D6.out.1.cellAt 9 rfl).1
          clear HD hd6 hjn c4
          by_cases h0 : sj.fc = 0
          · rw [h0] at c9
            obtain ⟨⟨hc1, hc2⟩, hcall⟩ := HCI.out h0
            obtain ⟨AG, cG, eG⟩ := D6.out.1.gform
            obtain ⟨A9, c9', e9, hR, -⟩ := rows_cells (D6.out.1.2.out.hold.1 0 _ rfl) (show 0 < 6 by decide)
            have e9' : x.vG = .slice A9 sj.gs.length c9' := e9
            rw [eG] at e9'
            simp only [Value.slice.injEq] at e9'
            obtain ⟨rfl, -, rfl⟩ := e9'
            have hcl := hcall AG sj.gs.length cG w6 hR rfl
            have c1 : w6.cell? ⟨b, 1, none⟩ = some x.vG := (D6.out.1.cellAt 1 rfl).1
            rw [eG] at c1
            have HEG := Lib.hid eG
            obtain ⟨v, hv⟩ : ∃ v, circ s = v := ⟨_, rfl⟩
            rw [hv] at hc1 hc2 hcl
            have HFO2 : Hid (faultOf s (linesOf text).length (lastOf text) (circ s) = if 0 ≤ v then (143, (sj.spots.getD v.toNat (0, 0)).1, (sj.spots.getD v.toNat (0, 0)).2) else (0, 0, 0)) := Lib.hid (by rw [HFO.out, if_neg (by rw [h0]; simp), hv])
            obtain ⟨k, hk⟩ : ∃ k, sj.gs.length = k := ⟨_, rfl⟩
            rw [hk] at c1 hcl hc2
            have HKK := Lib.hid hk
            clear HFO HCI hcall e9 hR eG hv h0 hk
            go_upto_region 21 with (go_at_call 41; with_reducible refine hcl.mono ?_; rintro e w7 ⟨rfl, hb7⟩)
            have D7 := Lib.hid (D6.out.below hb7)
            clear D6 hb7 hcl c9 c1
            by_cases h0v : 0 ≤ v
            · obtain ⟨pl, rfl⟩ : ∃ pl : Nat, v = (pl : Int) := ⟨v.toNat, by omega⟩
              obtain ⟨AS, cS, eS, hRS, hob⟩ := rows_cells (D7.out.1.2.out.hold.1 2 _ rfl) (show 0 < 2 by decide)
              have eS' : x.vS = .slice AS sj.spots.length cS := eS
              have hpl : pl < sj.spots.length := by have := HLEN.out.1; have := HKK.out; omega
              obtain ⟨y, hy⟩ : ∃ y, sj.spots[pl]? = some y := ⟨_, List.getElem?_eq_getElem hpl⟩
              obtain ⟨yl, yc⟩ := y
              have hg := pcells_get hy
              obtain ⟨gb, go, hAS, s0⟩ := hRS.at_ hg.1
              obtain ⟨gb', go', hAS', s1⟩ := hRS.at_ hg.2
              have hbo : gb' = gb ∧ go' = go := by rw [hAS] at hAS'; cases hAS'; exact ⟨rfl, rfl⟩
              obtain ⟨rfl, rfl⟩ := hbo
              clear hAS'
              subst hAS
              have hge : base ≤ gb' := (World.ownsRow.lt (D7.out.1.2.out.hold.1 2 _ rfl) gb' hob).1
              have hgr2 : gb' ≠ r2 := by omega
              have hgr3 : gb' ≠ r3 := by omega
              rw [← Nat.add_assoc] at s1
              clear hob
              have c13 : w7.cell? ⟨b, 13, none⟩ = some x.vS := (D7.out.1.cellAt 13 rfl).1
              rw [eS'] at c13
              have HF : Hid (faultOf s (linesOf text).length (lastOf text) (circ s) = (143, yl, yc) ∧ (143 : Int) ≠ 0) := Lib.hid ⟨by
                rw [HFO2.out, if_pos h0v, Int.toNat_natCast, List.getD_eq_getElem?_getD, hy]
                rfl, by decide⟩
              have hpl2 : (pl : Int) < (sj.spots.length : Int) := by omega
              have BR2 : Hid (Blk w7 r2 25 [.string ⟨#[]⟩, .slice none 0 0, .slice none 0 0]) := Lib.hid ((D7.out.2.1.block r2 hr2b).trans HR2'.out)
              have BR3 : Hid (Blk w7 r3 35 [.int .i64 0, .int .i64 0, .int .i64 0]) := Lib.hid ((D7.out.2.1.block r3 hr3b).trans HR3'.out)
              have y20 : w7.cell? ⟨r2, 0, none⟩ = some (.string ⟨#[]⟩) := (BR2.out.cell 0).trans rfl
              have y21 : w7.cell? ⟨r2, 1, none⟩ = some (.slice none 0 0) := (BR2.out.cell 1).trans rfl
              have y22 : w7.cell? ⟨r2, 2, none⟩ = some (.slice none 0 0) := (BR2.out.cell 2).trans rfl
              have y30 : w7.cell? ⟨r3, 0, none⟩ = some (.int .i64 0) := (BR3.out.cell 0).trans rfl
              have y31 : w7.cell? ⟨r3, 1, none⟩ = some (.int .i64 0) := (BR3.out.cell 1).trans rfl
              have y32 : w7.cell? ⟨r3, 2, none⟩ = some (.int .i64 0) := (BR3.out.cell 2).trans rfl
              have v20 := BR2.out.frozen 0
              have v21 := BR2.out.frozen 1
              have v22 := BR2.out.frozen 2
              have v30 := BR3.out.frozen 0
              have v31 := BR3.out.frozen 1
              have v32 := BR3.out.frozen 2
              have hrb2 : r2 ≠ b := by omega
              have hrb3 : r3 ≠ b := by omega
              clear HLEN HKK hRS hg hy eS eS' hc1 hc2 hpl HFO2 h0v
              go_upto_region 22 with (fail)
              go_region
              obtain ⟨WF, hWF, ⟨k20, k21, k22⟩, ⟨k30, k31, k32⟩, hbF, _⟩ := ret_cells BR2.out BR3.out hr23 hszr hszr3 (.string ⟨#[]⟩) (.slice none 0 0) (.slice none 0 0) (.int .i64 143) (.int .i64 yl) (.int .i64 yc)
              have HBF := Lib.hid ((HBW2.out.trans (D7.out.2.1.mono (by omega))).trans hbF)
              clear hbF y20 y21 y22 y30 y31 y32 v20 v21 v22 v30 v31 v32 BR2 BR3
              change Exit.then _ _ _ _ (World.drew (putR w7 r2 r3 (.string ⟨#[]⟩) (.slice none 0 0) (.slice none 0 0) (.int .i64 143) (.int .i64 yl) (.int .i64 yc)))
              rw [hWF]
              clear hWF
              go_wp2
              (try simp only [Exit.inBlock, Exit.then])
              refine bodyPost_ret (v := .tuple #[.agg #[.string ⟨#[]⟩, .slice none 0 0, .slice none 0 0], .agg #[(.int .i64 143), (.int .i64 yl), (.int .i64 yc)]]) (by simp [results, Tryd.results14, go_sem, k20, k21, k22, k30, k31, k32]) rfl ?_
              exact PRes.fault HBF.out HT.out HRAN.out HF.out.1 HF.out.2
            · have hv1 : v = -1 := by omega
              subst hv1
              have HF : Hid (faultOf s (linesOf text).length (lastOf text) (circ s) = (0, 0, 0)) := Lib.hid (by rw [HFO2.out, if_neg h0v])
              obtain ⟨AO, cO, eO⟩ := D7.out.1.oform
              have c0 : w7.cell? ⟨b, 0, none⟩ = some (.string sj.name) := (D7.out.1.cellAt 0 rfl).1
              have c1 : w7.cell? ⟨b, 1, none⟩ = some x.vG := (D7.out.1.cellAt 1 rfl).1
              have c2 : w7.cell? ⟨b, 2, none⟩ = some x.vO := (D7.out.1.cellAt 2 rfl).1
              rw [HEG.out] at c1
              rw [eO] at c2
              have HEO := Lib.hid eO
              have BR2 : Hid (Blk w7 r2 25 [.string ⟨#[]⟩, .slice none 0 0, .slice none 0 0]) := Lib.hid ((D7.out.2.1.block r2 hr2b).trans HR2'.out)
              have BR3 : Hid (Blk w7 r3 35 [.int .i64 0, .int .i64 0, .int .i64 0]) := Lib.hid ((D7.out.2.1.block r3 hr3b).trans HR3'.out)
              have y20 : w7.cell? ⟨r2, 0, none⟩ = some (.string ⟨#[]⟩) := (BR2.out.cell 0).trans rfl
              have y21 : w7.cell? ⟨r2, 1, none⟩ = some (.slice none 0 0) := (BR2.out.cell 1).trans rfl
              have y22 : w7.cell? ⟨r2, 2, none⟩ = some (.slice none 0 0) := (BR2.out.cell 2).trans rfl
              have y30 : w7.cell? ⟨r3, 0, none⟩ = some (.int .i64 0) := (BR3.out.cell 0).trans rfl
              have y31 : w7.cell? ⟨r3, 1, none⟩ = some (.int .i64 0) := (BR3.out.cell 1).trans rfl
              have y32 : w7.cell? ⟨r3, 2, none⟩ = some (.int .i64 0) := (BR3.out.cell 2).trans rfl
              have v20 := BR2.out.frozen 0
              have v21 := BR2.out.frozen 1
              have v22 := BR2.out.frozen 2
              have v30 := BR3.out.frozen 0
              have v31 := BR3.out.frozen 1
              have v32 := BR3.out.frozen 2
              have hrb2 : r2 ≠ b := by omega
              have hrb3 : r3 ≠ b := by omega
              clear HLEN hc1 hc2 HFO2 h0v eO
              go_wp2
              obtain ⟨WF, hWF, ⟨k20, k21, k22⟩, ⟨k30, k31, k32⟩, hbF, hhF⟩ := ret_cells0 BR2.out BR3.out hr23 hszr hszr3 (.string sj.name) (.slice AG sj.gs.length cG) (.slice AO sj.outs.length cO) (.int .i64 0) (.int .i64 0) (.int .i64 0)
              have HBF := Lib.hid ((HBW2.out.trans (D7.out.2.1.mono (by omega))).trans hbF)
              have hbs : w.heap.size ≤ base := by omega
              have HRG : Hid (WF.ownsRow w.heap.size 46 6 (.slice AG sj.gs.length cG) sj.gs.length (gcells sj.gs)) := Lib.hid (rows_more (by
                have h := rows_heap (WF := WF) (D7.out.1.2.out.hold.1 0 _ rfl) (fun g hg => hhF g (by omega) (by omega))
                dsimp only at h
                rw [HEG.out] at h
                exact h) hbs)
              have HRO : Hid (WF.ownsRow w.heap.size 3 1 (.slice AO sj.outs.length cO) sj.outs.length (nums .i64 sj.outs)) := Lib.hid (rows_more (by
                have h := rows_heap (WF := WF) (D7.out.1.2.out.hold.1 1 _ rfl) (fun g hg => hhF g (by omega) (by omega))
                dsimp only [row1] at h
                rw [HEO.out, nums_length] at h
                exact h) hbs)
              clear hbF hhF y20 y21 y22 y30 y31 y32 v20 v21 v22 v30 v31 v32 BR2 BR3 c0 c1 c2
              change bodyPost _ _ _ _ _ (putR w7 r2 r3 (.string sj.name) (.slice AG sj.gs.length cG) (.slice AO sj.outs.length cO) (.int .i64 0) (.int .i64 0) (.int .i64 0))
              rw [hWF]
              clear hWF
              refine bodyPost_ret (v := .tuple #[.agg #[.string sj.name, .slice AG sj.gs.length cG, .slice AO sj.outs.length cO], .agg #[.int .i64 0, .int .i64 0, .int .i64 0]]) (by simp [results, Tryd.results14, go_sem, k20, k21, k22, k30, k31, k32]) rfl ?_
              have hgood := PRes.good (text := text) (circ := circ) (st := s) (A := AG) (B := AO) (ca := cG) (cb := cO) HBF.out HT.out HRAN.out HF.out (by rw [HSJ.out]; exact HRG.out) (by rw [HSJ.out]; exact HRO.out)
              rw [HSJ.out] at hgood
              exact hgood
          · have h0b : (sj.fc == 0) = false := by simpa using h0
            have HF : Hid (faultOf s (linesOf text).length (lastOf text) (circ s) = (sj.fc, sj.fl, sj.fcol) ∧ sj.fc ≠ 0) := Lib.hid ⟨by rw [HFO.out, if_pos h0], h0⟩
            have c10 : w6.cell? ⟨b, 10, none⟩ = some (.int .i64 sj.fl) := (D6.out.1.cellAt 10 rfl).1
            have c11 : w6.cell? ⟨b, 11, none⟩ = some (.int .i64 sj.fcol) := (D6.out.1.cellAt 11 rfl).1
            have BR2 : Hid (Blk w6 r2 25 [.string ⟨#[]⟩, .slice none 0 0, .slice none 0 0]) := Lib.hid ((D6.out.2.1.block r2 hr2b).trans HR2'.out)
            have BR3 : Hid (Blk w6 r3 35 [.int .i64 0, .int .i64 0, .int .i64 0]) := Lib.hid ((D6.out.2.1.block r3 hr3b).trans HR3'.out)
            have y20 : w6.cell? ⟨r2, 0, none⟩ = some (.string ⟨#[]⟩) := (BR2.out.cell 0).trans rfl
            have y21 : w6.cell? ⟨r2, 1, none⟩ = some (.slice none 0 0) := (BR2.out.cell 1).trans rfl
            have y22 : w6.cell? ⟨r2, 2, none⟩ = some (.slice none 0 0) := (BR2.out.cell 2).trans rfl
            have y30 : w6.cell? ⟨r3, 0, none⟩ = some (.int .i64 0) := (BR3.out.cell 0).trans rfl
            have y31 : w6.cell? ⟨r3, 1, none⟩ = some (.int .i64 0) := (BR3.out.cell 1).trans rfl
            have y32 : w6.cell? ⟨r3, 2, none⟩ = some (.int .i64 0) := (BR3.out.cell 2).trans rfl
            have v20 := BR2.out.frozen 0
            have v21 := BR2.out.frozen 1
            have v22 := BR2.out.frozen 2
            have v30 := BR3.out.frozen 0
            have v31 := BR3.out.frozen 1
            have v32 := BR3.out.frozen 2
            have hrb2 : r2 ≠ b := by omega
            have hrb3 : r3 ≠ b := by omega
            clear HCI HLEN
            go_upto_region 19 with (fail)
            go_region
            obtain ⟨WF, hWF, ⟨k20, k21, k22⟩, ⟨k30, k31, k32⟩, hbF, _⟩ := ret_cells BR2.out BR3.out hr23 hszr hszr3 (.string ⟨#[]⟩) (.slice none 0 0) (.slice none 0 0) (.int .i64 sj.fc) (.int .i64 sj.fl) (.int .i64 sj.fcol)
            have HBF := Lib.hid ((HBW2.out.trans (D6.out.2.1.mono (by omega))).trans hbF)
            clear hbF y20 y21 y22 y30 y31 y32 v20 v21 v22 v30 v31 v32 BR2 BR3
            change Exit.then _ _ _ _ (World.drew (putR w6 r2 r3 (.string ⟨#[]⟩) (.slice none 0 0) (.slice none 0 0) (.int .i64 sj.fc) (.int .i64 sj.fl) (.int .i64 sj.fcol)))
            rw [hWF]
            clear hWF
            go_wp2
            (try simp only [Exit.inBlock, Exit.then])
            refine bodyPost_ret (v := .tuple #[.agg #[.string ⟨#[]⟩, .slice none 0 0, .slice none 0 0], .agg #[(.int .i64 sj.fc), (.int .i64 sj.fl), (.int .i64 sj.fcol)]]) (by simp [results, Tryd.results14, go_sem, k20, k21, k22, k30, k31, k32]) rfl ?_
            exact PRes.fault HBF.out HT.out HRAN.out HF.out.1 HF.out.2
end Go.Proofs.YtjkmoahnociaiaaDoor
