/- CircuitCones: the law's text answers true. -/
import Derived.Test.YtjkmoahnociaiaaXL
namespace Go.Proofs.Ytjkmoahnociaiaa
open Go.RowKit

noncomputable def coneI (c : Ct) (place : Int) : List Int := (coneList c place).map fun (x : Nat) => (x : Int)
theorem coneI_ints (c : Ct) (place : Int) : ints (coneList c place) = nums .i64 (coneI c place) := by simp [ints, nums, coneI]
/-- Cone, by either text: a new row of these numbers. -/
def ConeN (w : World) (c : Ct) (place : Int) (q : Nat) (e : Ending) (w' : World) : Prop :=
  ∃ A c', e = .returned (.tuple #[.slice A q c', .int .i64 (coneCode c place)]) ∧ Hid (Owns w' w.heap.size 3 (.slice A q c') (nums .i64 (coneI c place))) ∧ Below w.heap.size w w'
theorem ConeR.n {w w' : World} {c : Ct} {place : Int} {e : Ending} {q : Nat} (h : ConeR w c place e w') (hq : (coneI c place).length = q) : ConeN w c place q e w' := by
  obtain ⟨v, he, ho, hb⟩ := h
  rw [coneI_ints] at ho
  obtain ⟨A, c', rfl⟩ := ho.form
  rw [nums_length, hq] at he ho
  exact ⟨A, c', he, Lib.hid ho, hb⟩
theorem coneI_len (c : Ct) (place : Int) : (coneI c place).length ≤ 65536 := by
  unfold coneI coneList
  rw [List.length_map]
  split
  · rename_i h
    unfold coneL
    have h1 := List.length_filter_le (coneB c.gs place.toNat) (List.range c.gs.length)
    rw [List.length_range] at h1
    unfold coneCode at h
    split at h
    · rename_i hf
      have := hf.gl
      omega
    · cases h
  · simp
/-- A line's first operand set to its second. -/
def turnA (g : Gt) : Gt := if g.kind = 2 ∨ g.kind = 4 then { g with a := g.b } else g
theorem rep_set {u : Value} {l : List Value} {i : Nat} (hi : i < l.length) : (List.replicate i u ++ l.drop i).set i u = List.replicate (i + 1) u ++ l.drop (i + 1) := by
  rw [List.set_append_right _ _ (by simp), List.length_replicate, Nat.sub_self, List.drop_eq_getElem_cons hi, List.set_cons_zero, List.replicate_succ', List.append_assoc]
  rfl
theorem rep_at {u x : Value} {l : List Value} {i : Nat} (hx : l[i]? = some x) : (List.replicate i u ++ l.drop i)[i]? = some x := by
  rw [List.getElem?_append_right (by simp), List.length_replicate, Nat.sub_self, List.getElem?_drop, Nat.add_zero]
  exact hx
theorem rep_snoc (l : List Value) (u : Value) (j : Nat) : l ++ List.replicate j u ++ [u] = l ++ List.replicate (j + 1) u := by
  rw [List.append_assoc, List.replicate_succ']
/-- 'append(nil, x...)' as one step of a region that draws: a copy in memory of its own. -/
theorem step_copyOf {P : Program} {ops : Array Oper} {o : Oper} {a : Act} {w : World} {K : Act → World → Prop} {Q : Exit → Act → World → Prop} {E : Prop} (hgd : o.guard = none) (x : Operand) (T : TypeId)
    (ho : o.op = .call { callee := .builtin .append, args := #[.const (.slice none 0 0), x], argTypes := #[T, T] }) (e : TypeId) (z : Value) (size bytes : Nat) (hu : P.underlying T = some (.slice e))
    (hi : (P.info? e).map (fun i => (i.zero, i.size, i.bytes)) = some (some z, size, bytes)) (hzs : z.cells.size = size) (hsz : 0 < size)
    (A : Option Addr) (m c : Nat) (ys : List Value) (hx : a.eval x = .slice A m c) (hr : CReads w A ys) (hl : ys.length = m * size) (h1 : ∀ u ∈ ys, u.oneCell' = true) (h63 : m ≤ maxLen) (hbytes : m * bytes ≤ 140737488355328)
    (h : ∀ A' c' w', Hid (w'.ownsRow w.heap.size e size (.slice A' m c') m ys) → Below w.heap.size w w' → K (a.put o.dst (.slice A' m c')) w') :
    if Region.wanted o (yielded ops a.tmps) = true then Oper.wp P o a w K Q else E := by
  have hw : Region.wanted o (yielded ops a.tmps) = true := by simp [Region.wanted, hgd]
  rw [if_pos hw]
  obtain ⟨v', w', hrun, hown, hg, _⟩ := run_cells (P := P) (ty := o.type) hu hi hzs hsz (World.ownsRow_nil w w.heap.size e size) A m c ys hr hl h1 (by rw [Nat.zero_add]; exact h63) (by rw [Nat.zero_add]; exact hbytes) (Nat.le_refl _)
  rw [Nat.zero_add, List.nil_append] at hown
  obtain ⟨A', c', rfl, _, _⟩ := rows_cells hown hsz
  have hb : Below w.heap.size w w' := ⟨hg.os, hg.tape, hg.output, hg.size, fun i hi => hg.block i hi (by simp [Value.ownBlock])⟩
  have hfin := h A' c' w' (Lib.hid hown) hb
  unfold Oper.wp
  simp only [execOp, ho, resolve, invoke, builtin, Sem.run_bind, Sem.run_pure, Result.andThen_ok, List.map_toArray, List.map_cons, List.map_nil, Act.eval, hrun]
  have hx' := hx
  unfold Act.eval at hx'
  simp only [hx', hrun]
  exact hfin
theorem only_set3 (w : World) (g : Nat) (u v x : Value) : w.grownBy (((w.setCell ⟨g, 0, none⟩ u).setCell ⟨g, 1, none⟩ v).setCell ⟨g, 2, none⟩ x) (some g) :=
  only_setCell (only_setCell (only_setCell (only_refl w (some g)) (p := ⟨g, 0, none⟩) (.inl rfl) u) (p := ⟨g, 1, none⟩) (.inl rfl) v) (p := ⟨g, 2, none⟩) (.inl rfl) x
theorem below_set3 {B : Nat} {a w : World} (h : Below B a w) {g : Nat} (hg : B ≤ g) (hB : B ≤ w.heap.size) (u v x : Value) : Below B a (((w.setCell ⟨g, 0, none⟩ u).setCell ⟨g, 1, none⟩ v).setCell ⟨g, 2, none⟩ x) :=
  h.grown (only_set3 w g u v x) hB (fun g' e => by cases e; exact hg)
theorem rows_set3 {w : World} {base : Nat} {e : TypeId} {size n : Nat} {v : Value} {xs : List Value} (h : w.ownsRow base e size v n xs) {g : Nat} (hg : g < base ∨ w.heap.size ≤ g ∨ ∀ b, v.ownBlock = some b → b < g) (u1 u2 u3 : Value) :
    (((w.setCell ⟨g, 0, none⟩ u1).setCell ⟨g, 1, none⟩ u2).setCell ⟨g, 2, none⟩ u3).ownsRow base e size v n xs :=
  World.ownsRow.kept h (only_set3 w g u1 u2 u3) (by
    rcases hv : v.ownBlock with _ | b
    · exact .inl rfl
    · refine .inr fun e2 => ?_
      have e3 := Option.some.inj e2
      have h1 := World.ownsRow.lt h b hv
      rcases hg with hg | hg | hg
      · omega
      · omega
      · have := hg b hv; omega)
theorem rows_read {w : World} {base : Nat} {e : TypeId} {size n c : Nat} {A : Option Addr} {xs : List Value} (h : w.ownsRow base e size (.slice A n c) n xs) (hs : 0 < size) : CReads w A xs := by
  obtain ⟨A', c', e1, hr, _⟩ := rows_cells h hs
  cases e1
  exact hr
theorem gcells_set {v : Value} : ∀ {gs : List Gt} {i : Nat} {g g' : Gt}, gs[i]? = some g → g'.cells = g.cells.set 3 v → (gcells gs).set (i * 6 + 3) v = gcells (gs.set i g')
  | [], i, g, g', h, _ => by simp at h
  | x :: l, 0, g, g', h, hc => by
    simp at h
    subst h
    rw [gcells_cons, List.set_append_left _ _ (by simp [Gt.cells]), List.set_cons_zero, gcells_cons, hc, Nat.zero_mul, Nat.zero_add]
  | x :: l, i + 1, g, g', h, hc => by
    rw [gcells_cons, List.set_append_right _ _ (by simp [Gt.cells]; omega), List.set_cons_succ, gcells_cons]
    congr 1
    rw [← gcells_set (gs := l) (i := i) (g := g) (by simpa using h) hc]
    congr 1
    simp [Gt.cells]
    omega
/-- The lines below k turned. -/
def turnK (gs : List Gt) (k : Nat) : List Gt := (gs.take k).map turnA ++ gs.drop k
theorem turnK_length (gs : List Gt) (k : Nat) : (turnK gs k).length = gs.length := by simp [turnK]; omega
theorem turnK_get {gs : List Gt} {k : Nat} {g : Gt} (hg : gs[k]? = some g) : (turnK gs k)[k]? = some g := by
  have hk := (List.getElem?_eq_some_iff.1 hg).1
  unfold turnK
  rw [List.getElem?_append_right (by simp; omega), List.length_map, List.length_take, Nat.min_eq_left (by omega), Nat.sub_self, List.getElem?_drop, Nat.add_zero]
  exact hg
theorem turnK_succ {gs : List Gt} {k : Nat} {g : Gt} (hg : gs[k]? = some g) : turnK gs (k + 1) = (turnK gs k).set k (turnA g) := by
  have hk := (List.getElem?_eq_some_iff.1 hg).1
  have hg2 : gs[k] = g := (List.getElem?_eq_some_iff.1 hg).2
  unfold turnK
  rw [List.set_append_right _ _ (by simp; omega), List.length_map, List.length_take, Nat.min_eq_left (by omega), Nat.sub_self, List.drop_eq_getElem_cons hk, List.set_cons_zero, List.take_add_one, hg, List.map_append]
  simp
theorem turnK_same {gs : List Gt} {k : Nat} {g : Gt} (hg : gs[k]? = some g) (h2 : ¬ g.kind = 2) (h4 : ¬ g.kind = 4) : turnK gs (k + 1) = turnK gs k := by
  rw [turnK_succ hg]
  have : turnA g = g := by unfold turnA; rw [if_neg (by omega)]
  rw [this]
  apply List.ext_getElem?
  intro j
  rw [List.getElem?_set]
  split
  · rename_i e
    subst e
    rw [if_pos (List.getElem?_eq_some_iff.1 (turnK_get hg)).1, turnK_get hg]
  · rfl
theorem turnK_zero (gs : List Gt) : turnK gs 0 = gs := by simp [turnK]
theorem turnK_all {gs : List Gt} {n : Nat} (h : gs.length = n) : turnK gs n = gs.map turnA := by subst h; simp [turnK]
theorem turnA_cells {g : Gt} (h : g.kind = 2 ∨ g.kind = 4) : (turnA g).cells = g.cells.set 3 (.int .i64 g.b) := by
  unfold turnA
  rw [if_pos h]
  rfl
set_option maxRecDepth 100000 in
set_option maxHeartbeats 8000000 in
theorem cones_any (cc : Ct) (place : Int) (A B : Option Addr) (n m ca cb : Nat) (w : World) (hA : CReads w A (gcells cc.gs)) (hB : Reads w .i64 B cc.outs) (hs : SizeP cc) (hn : cc.gs.length = n) (hm : cc.outs.length = m) (hn1 : (n + 2) * 56 ≤ 140737488355328) (hm1 : (m + 2) * 8 ≤ 140737488355328) :
    Calls Try.prog 3 #[.agg #[.string cc.name, .slice A n ca, .slice B m cb], .int .i64 place] w fun e w' => e = .returned (.bool true) ∧ Below w.heap.size w w' := by
  have hbl := below1 w (.cells #[.string cc.name, .slice A n ca, .slice B m cb] 25)
  have HX := Lib.hid (Blk.new w 25 [.string cc.name, .slice A n ca, .slice B m cb])
  have HA := Lib.hid (hA.below hbl); have HB := Lib.hid (hB.below hbl); have HS := Lib.hid hs; have HN := Lib.hid hn; have HM := Lib.hid hm; have HB0 := Lib.hid hbl
  have CT : Calls Try.prog 8 #[.agg #[.string cc.name, .slice A n ca, .slice B m cb]] (w.alloc (.cells #[.string cc.name, .slice A n ca, .slice B m cb] 25)) fun e w' => ∃ A' B' ca' cb', e = .returned (.agg #[.string cc.name, .slice A' n ca', .slice B' m cb']) ∧ Hid (TwinAt w' (w.alloc (.cells #[.string cc.name, .slice A n ca, .slice B m cb] 25)).heap.size A' B' n m ca' cb' cc.gs cc.outs) ∧ Below (w.alloc (.cells #[.string cc.name, .slice A n ca, .slice B m cb] 25)).heap.size (w.alloc (.cells #[.string cc.name, .slice A n ca, .slice B m cb] 25)) w' := twin_any A B n m ca cb cc.name cc.gs cc.outs _ HA.out HB.out hn hm hn1 hm1
  clear hA hB hs hn hm hbl
  obtain ⟨name, gs, outs⟩ := cc
  dsimp only at *
  obtain ⟨q, hq⟩ : ∃ q, (coneI ⟨name, gs, outs⟩ place).length = q := ⟨_, rfl⟩
  have HQ := Lib.hid hq
  have hq1 : q ≤ 65536 := by rw [← hq]; exact coneI_len _ _
  clear hq
  go_enter Try.func3, Try.ntmps3
  go_upto_region 2 with (go_at_call 8; with_reducible refine CT.mono ?_; rintro e w1 ⟨A', B', ca', cb', rfl, HT1, hb1⟩)
  have HX1 := Lib.hid (HX.out.self hb1)
  have HA1 := Lib.hid (HA.out.below hb1)
  have HBB1 := Lib.hid (HB.out.below hb1)
  have HBW1 := Lib.hid (below_self HB0.out hb1)
  obtain ⟨gA, gB, rfl, rfl, hgA, hgA2, hgB, hgB2, hcA, hcB⟩ := HT1.out.form
  have hbl2 := below1 w1 (.cells #[.string name, .slice (some ⟨gA, 0, none⟩) n ca', .slice (some ⟨gB, 0, none⟩) m cb'] 25)
  have HXT := Lib.hid (Blk.new w1 25 [.string name, .slice (some ⟨gA, 0, none⟩) n ca', .slice (some ⟨gB, 0, none⟩) m cb'])
  have HX2 := Lib.hid (HX1.out.self hbl2)
  have HA2 := Lib.hid (HA1.out.below hbl2)
  have HBB2 := Lib.hid (HBB1.out.below hbl2)
  have HT2 := Lib.hid (HT1.out.below hbl2)
  have HBW2 := Lib.hid (below_then HBW1.out HBW1.out.size hbl2)
  clear CT HX HA HB HB0 hb1 HX1 HA1 HBB1 HT1 HBW1 hbl2
  change Code.wp _ _ _ _ (w1.alloc (.cells #[.string name, .slice (some ⟨gA, 0, none⟩) n ca', .slice (some ⟨gB, 0, none⟩) m cb'] 25))
  generalize w1.alloc (.cells #[.string name, .slice (some ⟨gA, 0, none⟩) n ca', .slice (some ⟨gB, 0, none⟩) m cb'] 25) = W2 at *
  obtain ⟨bt, hbt⟩ : ∃ bt, w1.heap.size = bt := ⟨_, rfl⟩
  obtain ⟨bx, hbx⟩ : ∃ bx, w.heap.size = bx := ⟨_, rfl⟩
  rw [hbt] at HXT ⊢
  rw [hbx] at HX2 ⊢
  have HBS := Lib.hid hbx
  clear hbt hbx
  obtain ⟨E, hE⟩ : ∃ E, coneCode ⟨name, gs, outs⟩ place = E := ⟨_, rfl⟩
  obtain ⟨xs, hxs⟩ : ∃ xs, coneI ⟨name, gs, outs⟩ place = xs := ⟨_, rfl⟩
  have HC : ∀ W, Below W2.heap.size W2 W → Calls Try.prog 9 #[.agg #[.string name, .slice (some ⟨gA, 0, none⟩) n ca', .slice (some ⟨gB, 0, none⟩) m cb'], .int .i64 place] W fun e w' => ∃ A c', e = .returned (.tuple #[.slice A q c', .int .i64 E]) ∧ Hid (Owns w' W.heap.size 3 (.slice A q c') (nums .i64 xs)) ∧ Below W.heap.size W w' := by
    intro W hW
    have hT := HT2.out.below hW
    have := cone_any ⟨name, gs, outs⟩ place (some ⟨gA, 0, none⟩) (some ⟨gB, 0, none⟩) n m ca' cb' W hT.gread hT.oread HS.out HN.out HM.out
    refine this.mono fun e w' h => ?_
    have := h.n HQ.out
    unfold ConeN at this
    rwa [hE, hxs] at this
  have HD : ∀ W, Below W2.heap.size W2 W → Calls Try.prog 10 #[.agg #[.string name, .slice A n ca, .slice B m cb], .int .i64 place] W fun e w' => ∃ A c', e = .returned (.tuple #[.slice A q c', .int .i64 E]) ∧ Hid (Owns w' W.heap.size 3 (.slice A q c') (nums .i64 xs)) ∧ Below W.heap.size W w' := by
    intro W hW
    have := cone_ref ⟨name, gs, outs⟩ place A B n m ca cb W (HA2.out.below hW) (HBB2.out.below hW) HS.out HN.out HM.out
    refine this.mono fun e w' h => ?_
    have := h.n HQ.out
    unfold ConeN at this
    rwa [hE, hxs] at this
  have HXL : Hid (xs.length = q) := Lib.hid (by rw [← hxs]; exact HQ.out)
  have HT0 := Lib.hid (fun W (hW : Below W2.heap.size W2 W) => HXT.out.self hW)
  have HU0 := Lib.hid (fun W (hW : Below W2.heap.size W2 W) => HX2.out.self hW)
  clear hE hxs HQ
  replace HC := Lib.hid HC
  replace HD := Lib.hid HD
  have hcall := HC.out W2 (Below.refl _ _)
  have x0 : W2.cell? ⟨bt, 0, none⟩ = some (.string name) := (HXT.out.cell 0).trans rfl
  have x1 : W2.cell? ⟨bt, 1, none⟩ = some (.slice (some ⟨gA, 0, none⟩) n ca') := (HXT.out.cell 1).trans rfl
  have x2 : W2.cell? ⟨bt, 2, none⟩ = some (.slice (some ⟨gB, 0, none⟩) m cb') := (HXT.out.cell 2).trans rfl
  go_upto_region 3 with (go_at_call 9; with_reducible refine hcall.mono ?_; rintro e w3 ⟨A3, c3, rfl, hO3, hb3⟩)
  have HH3 := Lib.hid ((Hold.nil W2 W2.heap.size).new hb3 (Nat.le_refl _) (r := row1 3 (.slice A3 q c3) (nums .i64 xs)) hO3.out)
  have HW3 := Lib.hid hb3
  clear hcall x0 x1 x2 hO3 hb3
  have hcall := HC.out w3 HW3.out
  have x0 : w3.cell? ⟨bt, 0, none⟩ = some (.string name) := ((HT0.out w3 HW3.out).cell 0).trans rfl
  have x1 : w3.cell? ⟨bt, 1, none⟩ = some (.slice (some ⟨gA, 0, none⟩) n ca') := ((HT0.out w3 HW3.out).cell 1).trans rfl
  have x2 : w3.cell? ⟨bt, 2, none⟩ = some (.slice (some ⟨gB, 0, none⟩) m cb') := ((HT0.out w3 HW3.out).cell 2).trans rfl
  go_upto_region 4 with (go_at_call 9; with_reducible refine hcall.mono ?_; rintro e w4 ⟨A4, c4, rfl, hO4, hb4⟩)
  have HH4 := Lib.hid (HH3.out.new hb4 HW3.out.size (r := row1 3 (.slice A4 q c4) (nums .i64 xs)) hO4.out)
  have HW4 := Lib.hid (below_self HW3.out hb4)
  clear hcall x0 x1 x2 hO4 hb4 HH3 HW3
  have hcall := HD.out w4 HW4.out
  have x0 : w4.cell? ⟨bx, 0, none⟩ = some (.string name) := ((HU0.out w4 HW4.out).cell 0).trans rfl
  have x1 : w4.cell? ⟨bx, 1, none⟩ = some (.slice A n ca) := ((HU0.out w4 HW4.out).cell 1).trans rfl
  have x2 : w4.cell? ⟨bx, 2, none⟩ = some (.slice B m cb) := ((HU0.out w4 HW4.out).cell 2).trans rfl
  go_upto_region 5 with (go_at_call 10; with_reducible refine hcall.mono ?_; rintro e w5 ⟨A5, c5, rfl, hO5, hb5⟩)
  have HH5 : Hid (Hold w5 W2.heap.size [row1 3 (.slice A3 q c3) (nums .i64 xs), row1 3 (.slice A4 q c4) (nums .i64 xs), row1 3 (.slice A5 q c5) (nums .i64 xs)]) := Lib.hid (HH4.out.new hb5 HW4.out.size (r := row1 3 (.slice A5 q c5) (nums .i64 xs)) hO5.out)
  have HW5 := Lib.hid (below_self HW4.out hb5)
  clear hcall x0 x1 x2 hO5 hb5 HH4 HW4
  have HPL : ∀ (W : World) (A A' : Option Addr) (c c' : Nat), Owns W W2.heap.size 3 (.slice A q c) (nums .i64 xs) → Owns W W2.heap.size 3 (.slice A' q c') (nums .i64 xs) → Calls Try.prog 11 #[.slice A q c, .slice A' q c'] W fun e w' => e = .returned (.bool true) ∧ Below W.heap.size W w' := by
    intro W A A' c c' h1 h2
    obtain ⟨_, _, e1, r1⟩ := h1.reads
    obtain ⟨_, _, e2, r2⟩ := h2.reads
    cases e1; cases e2
    exact places_same A A' _ c c' xs W r1 r2 rfl (by rw [HXL.out]; omega)
  replace HPL := Lib.hid HPL
  have cp1 := HPL.out w5 A3 A5 c3 c5 (HH5.out.owns (i := 0) rfl) (HH5.out.owns (i := 2) rfl)
  go_upto_region 7 with (first
    | (go_at_call 11; with_reducible refine cp1.mono ?_; rintro e w6 ⟨rfl, hb6⟩; have HH6 := Lib.hid (HH5.out.below hb6); have HW6 := Lib.hid (below_self HW5.out hb6); clear cp1 HH5 HW5 hb6; have cp2 := HPL.out w6 A4 A5 c4 c5 (HH6.out.owns (i := 1) rfl) (HH6.out.owns (i := 2) rfl))
    | (go_at_call 11; with_reducible refine cp2.mono ?_; rintro e w7 ⟨rfl, hb7⟩; have HH7 := Lib.hid (HH6.out.below hb7); have HW7 := Lib.hid (below_self HW6.out hb7); clear cp2 HH6 HW6 hb7
       have t0 : w7.cell? ⟨bt, 0, none⟩ = some (.string name) := ((HT0.out w7 HW7.out).cell 0).trans rfl
       have t1 : w7.cell? ⟨bt, 1, none⟩ = some (.slice (some ⟨gA, 0, none⟩) n ca') := ((HT0.out w7 HW7.out).cell 1).trans rfl
       have t2 : w7.cell? ⟨bt, 2, none⟩ = some (.slice (some ⟨gB, 0, none⟩) m cb') := ((HT0.out w7 HW7.out).cell 2).trans rfl
       have x0 : w7.cell? ⟨bx, 0, none⟩ = some (.string name) := ((HU0.out w7 HW7.out).cell 0).trans rfl
       have x1 : w7.cell? ⟨bx, 1, none⟩ = some (.slice A n ca) := ((HU0.out w7 HW7.out).cell 1).trans rfl
       have x2 : w7.cell? ⟨bx, 2, none⟩ = some (.slice B m cb) := ((HU0.out w7 HW7.out).cell 2).trans rfl
       have ck : Calls Try.prog 12 #[.agg #[.string name, .slice (some ⟨gA, 0, none⟩) n ca', .slice (some ⟨gB, 0, none⟩) m cb'], .agg #[.string name, .slice A n ca, .slice B m cb]] w7 fun e w' => e = .returned (.bool true) ∧ Below w7.heap.size w7 w' := kept_any _ (some ⟨gA, 0, none⟩) (some ⟨gB, 0, none⟩) A B n m ca' cb' ca cb name gs outs w7 (HT2.out.below HW7.out) (HA2.out.below HW7.out) (HBB2.out.below HW7.out) (by omega) (by omega))
    | (go_at_call 12; with_reducible refine ck.mono ?_; rintro e w8 ⟨rfl, hb8⟩; have HH8 := Lib.hid (HH7.out.below hb8); have HW8 := Lib.hid (below_self HW7.out hb8); clear ck HH7 HW7 hb8 t0 t1 t2 x0 x1 x2))
  go_upto_region 9 with (fail)
  go_loopw [13] (fun s13 wr => ∃ i : Nat, i ≤ q ∧ s13 = .int .i64 i ∧ Hid (Hold wr W2.heap.size [row1 3 (.slice A3 q c3) (List.replicate i (.int .i64 (-7)) ++ (nums .i64 xs).drop i), row1 3 (.slice A4 q c4) (nums .i64 xs), row1 3 (.slice A5 q c5) (nums .i64 xs)]) ∧ Hid (Below W2.heap.size W2 wr)) (fun s13 _ => q - (intOf s13).toNat)
  case atStart => exact ⟨0, by omega, rfl, HH8, HW8⟩
  case round =>
    clear HH8 HW8
    obtain ⟨i, hi, rfl, HH, HW⟩ := hrel
    by_cases hlt : i < q
    · obtain ⟨x, hx⟩ : ∃ x, (nums .i64 xs)[i]? = some x := ⟨_, List.getElem?_eq_getElem (by rw [nums_length, HXL.out]; exact hlt)⟩
      obtain ⟨g, rfl, hg1, hg2, hg3, hg4, hg5⟩ := HH.out.cell (i := 0) rfl (rep_at hx)
      have HN1 := Lib.hid (hg5 (.int .i64 (-7)))
      have HWN : Hid (Below W2.heap.size W2 (wr.setCell ⟨g, i, none⟩ (.int .i64 (-7)))) := Lib.hid (HW.out.grown (only_setCell (only_refl wr (some g)) (.inl rfl) _) HW.out.size (fun g' e => by cases e; exact hg1))
      have hi0 : (0 : Int) ≤ (i : Int) := by omega
      have hin : (i : Int) < (q : Int) := by omega
      clear hg5 hg1 hg2
      rw [rep_set (by rw [nums_length, HXL.out]; exact hlt)] at HN1
      go_wp2
      go_roundw
      case rel => exact ⟨i + 1, by omega, by go_num, HN1, HWN⟩
      case measure => simp [intOf]; omega
    · obtain rfl : i = q := by omega
      have HH2 : Hid (Hold wr W2.heap.size [row1 3 (.slice A3 i c3) ((List.replicate i (.int .i64 (-7)) ++ List.replicate 0 (.int .i64 (-8)))), row1 3 (.slice A4 i c4) (nums .i64 xs), row1 3 (.slice A5 i c5) (nums .i64 xs)]) := Lib.hid (by
        have := HH.out
        rwa [List.drop_eq_nil_of_le (by rw [nums_length, HXL.out]; exact Nat.le_refl _)] at this)
      clear HH hi hlt
      go_upto_region 13 with (fail)
      go_loopw [12, 14] (fun vl s14 wr => ∃ j : Nat, j ≤ 16 ∧ s14 = .int .i64 j ∧ Hid (Hold wr W2.heap.size [row1 3 vl (List.replicate i (.int .i64 (-7)) ++ List.replicate j (.int .i64 (-8))), row1 3 (.slice A4 i c4) (nums .i64 xs), row1 3 (.slice A5 i c5) (nums .i64 xs)]) ∧ Hid (Below W2.heap.size W2 wr)) (fun _ s14 _ => 16 - (intOf s14).toNat)
      case atStart => exact ⟨0, by omega, rfl, HH2, HW⟩
      case round =>
        clear HH2 HW
        obtain ⟨j, hj, rfl, HH, HW⟩ := hrel
        by_cases hlt : j < 16
        · have hj1 : (j : Int) < 16 := by omega
          have HH1 := Lib.hid (HH.out.below (below1 wr (.cells [Value.int .i64 (-8)].toArray 3)))
          have HW1 := Lib.hid (HW.out.alloc HW.out.size (.cells [Value.int .i64 (-8)].toArray 3))
          have hO := Lib.hid (HH1.out.owns (i := 0) rfl)
          have hlen : (List.replicate i (Value.int .i64 (-7)) ++ List.replicate j (Value.int .i64 (-8))).length = i + j := by simp
          go_upto_region 14 with (at_builtin; refine wpList_push2 rfl _ _ 23 rfl W2.heap.size 3 _ 8 Try.underlying23 info_int rfl u12 _ rfl hO.out ⟨wr.heap.size, 0, none⟩ (.int .i64 (-8)) rfl (by simp [go_sem]) rfl (by rw [hlen]; unfold maxLen; omega) (by rw [hlen]; omega) (by simp; have := HW.out.size; omega) ?_; intro v5 w5 hown5 hg5 hb5; have HH5 := HH1.out.push (i := 0) rfl hown5 hg5 hb5; have HW5 := Lib.hid (HW1.out.grown hg5 HW1.out.size (fun g hv => (hO.out.lt hv).1)); clear hown5 hg5 hb5)
          rw [rep_snoc] at HH5
          have HH5 := Lib.hid HH5
          clear HH HW HH1 HW1 hO hlen
          go_wp2
          go_roundw
          case rel => exact ⟨j + 1, by omega, by go_num, HH5, HW5⟩
          case measure => simp [intOf]; omega
        · obtain ⟨u, hu16⟩ : ∃ u, u = j := ⟨_, rfl⟩
          have hj16 : ¬ (u : Int) < 16 := by omega
          have he16 : j = 16 := by omega
          rw [← hu16]
          rw [he16] at HH
          clear hu16 he16
          have cp1 := HPL.out wr A4 A5 c4 c5 (HH.out.owns (i := 1) rfl) (HH.out.owns (i := 2) rfl)
          obtain ⟨ys, hys⟩ : ∃ ys, List.replicate i (Value.int .i64 (-7)) ++ List.replicate 16 (Value.int .i64 (-8)) = ys := ⟨_, rfl⟩
          have HYL : Hid (ys.length = i + 16) := Lib.hid (by rw [← hys]; simp)
          have HY1 : Hid (∀ j, j < i → ys[j]? = some (.int .i64 (-7))) := Lib.hid (fun j hji => by rw [← hys, List.getElem?_append_left (by simpa using hji), List.getElem?_replicate, if_pos hji])
          have HY2 : Hid (∀ j, j < i + 16 → i ≤ j → ys[j]? = some (.int .i64 (-8))) := Lib.hid (fun j hj hji => by rw [← hys, List.getElem?_append_right (by simpa using hji), List.length_replicate, List.getElem?_replicate, if_pos (by omega)])
          rw [hys] at HH
          clear hys
          go_upto_region 18 with (go_at_call 11; with_reducible refine cp1.mono ?_; rintro e w6 ⟨rfl, hb6⟩; have HH6 : Hid (Hold w6 W2.heap.size [row1 3 u12 ys, row1 3 (.slice A4 i c4) (nums .i64 xs ++ List.replicate 0 (.int .i64 (-9))), row1 3 (.slice A5 i c5) (nums .i64 xs)]) := Lib.hid (by have := HH.out.below hb6; rwa [List.replicate_zero, List.append_nil]); have HW6 := Lib.hid (below_self HW.out hb6); clear HH HW hb6)
          clear cp1 hj hlt
          go_upto_region 19 with (fail)
          go_loopw [8, 15] (fun vm s15 wr => ∃ j : Nat, j ≤ 16 ∧ s15 = .int .i64 j ∧ Hid (Hold wr W2.heap.size [row1 3 u12 ys, row1 3 vm (nums .i64 xs ++ List.replicate j (.int .i64 (-9))), row1 3 (.slice A5 i c5) (nums .i64 xs)]) ∧ Hid (Below W2.heap.size W2 wr)) (fun _ s15 _ => 16 - (intOf s15).toNat)
          case atStart => exact ⟨0, by omega, rfl, HH6, HW6⟩
          case round =>
            clear HH6 HW6
            obtain ⟨j, hj, rfl, HH, HW⟩ := hrel
            by_cases hlt : j < 16
            · have hj1 : (j : Int) < 16 := by omega
              have HH1 := Lib.hid (HH.out.below (below1 wr (.cells [Value.int .i64 (-9)].toArray 3)))
              have HW1 := Lib.hid (HW.out.alloc HW.out.size (.cells [Value.int .i64 (-9)].toArray 3))
              have hO := Lib.hid (HH1.out.owns (i := 1) rfl)
              have hlen : (nums .i64 xs ++ List.replicate j (Value.int .i64 (-9))).length = i + j := by simp [nums_length, HXL.out]
              go_upto_region 20 with (at_builtin; refine wpList_push2 rfl _ _ 23 rfl W2.heap.size 3 _ 8 Try.underlying23 info_int rfl u8 _ rfl hO.out ⟨wr.heap.size, 0, none⟩ (.int .i64 (-9)) rfl (by simp [go_sem]) rfl (by rw [hlen]; unfold maxLen; omega) (by rw [hlen]; omega) (by simp; have := HW.out.size; omega) ?_; intro v5 w5 hown5 hg5 hb5; have HH5 := HH1.out.push (i := 1) rfl hown5 hg5 hb5; have HW5 := Lib.hid (HW1.out.grown hg5 HW1.out.size (fun g hv => (hO.out.lt hv).1)); clear hown5 hg5 hb5)
              rw [rep_snoc] at HH5
              have HH5 := Lib.hid HH5
              clear HH HW HH1 HW1 hO hlen
              go_wp2
              go_roundw
              case rel => exact ⟨j + 1, by omega, by go_num, HH5, HW5⟩
              case measure => simp [intOf]; omega
            · have hj16 : ¬ (j : Int) < 16 := by omega
              have HO := Lib.hid (HH.out.owns (i := 0) rfl)
              have HK := Lib.hid (HH.out.owns (i := 2) rfl)
              obtain ⟨A6, c6, hu6⟩ := HO.out.form
              rw [HYL.out] at hu6
              subst hu6
              clear HH hj hlt
              go_upto_region 23 with (fail)
              go_loopw [16] (fun s16 wr => ∃ j : Nat, j ≤ i + 16 ∧ s16 = .int .i64 j ∧ Hid (Owns wr W2.heap.size 3 (.slice A6 (i + 16) c6) ys) ∧ Hid (Owns wr W2.heap.size 3 (.slice A5 i c5) (nums .i64 xs)) ∧ Hid (Below W2.heap.size W2 wr)) (fun s16 _ => i + 16 - (intOf s16).toNat)
              case atStart => exact ⟨0, by omega, rfl, HO, HK, HW⟩
              case round =>
                clear HO HK HW
                obtain ⟨j, hj, rfl, HO, HK, HW⟩ := hrel
                by_cases hlt : j < i + 16
                · have hj0 : (0 : Int) ≤ (j : Int) := by omega
                  have hj2 : (j : Int) < (i : Int) + 16 := by omega
                  by_cases hji : j < i
                  · obtain ⟨g, rfl, hc⟩ := HO.out.first (HY1.out j hji)
                    have h1 : (j : Int) < (i : Int) := by omega
                    have h2 : decide ((i : Int) ≤ (j : Int)) = false := by simpa using hji
                    have h3 : decide ((j : Int) < (i : Int)) = true := by simpa using hji
                    go_wp2
                    go_roundw
                    case rel => exact ⟨j + 1, by omega, by go_num, HO, HK, HW⟩
                    case measure => simp [intOf]; omega
                  · obtain ⟨g, rfl, hc⟩ := HO.out.first (HY2.out j hlt (by omega))
                    have h1 : ¬ (j : Int) < (i : Int) := by omega
                    have h2 : decide ((i : Int) ≤ (j : Int)) = true := by simp; omega
                    have h3 : decide ((j : Int) < (i : Int)) = false := by simp; omega
                    go_wp2
                    go_roundw
                    case rel => exact ⟨j + 1, by omega, by go_num, HO, HK, HW⟩
                    case measure => simp [intOf]; omega
                · obtain rfl : j = i + 16 := by omega
                  have hcall := HC.out wr HW.out
                  have x0 : wr.cell? ⟨bt, 0, none⟩ = some (.string name) := ((HT0.out wr HW.out).cell 0).trans rfl
                  have x1 : wr.cell? ⟨bt, 1, none⟩ = some (.slice (some ⟨gA, 0, none⟩) n ca') := ((HT0.out wr HW.out).cell 1).trans rfl
                  have x2 : wr.cell? ⟨bt, 2, none⟩ = some (.slice (some ⟨gB, 0, none⟩) m cb') := ((HT0.out wr HW.out).cell 2).trans rfl
                  clear HO hj hlt
                  go_upto_region 28 with (go_at_call 9; with_reducible refine hcall.mono ?_; rintro e w9 ⟨A9, c9, rfl, hO9, hb9⟩)
                  have cp1 := HPL.out w9 A9 A5 c9 c5 (hO9.out.more HW.out.size) (HK.out.below hb9)
                  have HW9 := Lib.hid (below_self HW.out hb9)
                  clear hcall x0 x1 x2 HK HW hO9 hb9
                  go_upto_region 30 with (go_at_call 11; with_reducible refine cp1.mono ?_; rintro e w6 ⟨rfl, hb6⟩)
                  have HW6 := Lib.hid (below_self HW9.out hb6)
                  have HT6 := HT2.out.below HW6.out
                  have HTg : Hid (w6.ownsRow bx 33 6 (.slice (some ⟨gA, 0, none⟩) (n + 2) ca') (n + 2) (gcells (turnK gs 0 ++ [room, room]))) := Lib.hid (by rw [turnK_zero]; exact rows_more HT6.g (by rw [← HBS.out]; simp))
                  have HTo : Hid (Owns w6 bx 3 (.slice (some ⟨gB, 0, none⟩) (m + 2) cb') (nums .i64 (outs ++ [77, 78]))) := Lib.hid (HT6.o.more (by rw [← HBS.out]; simp))
                  have HX6 := Lib.hid (HXT.out.self HW6.out)
                  have HB6 := Lib.hid (below_self HBW2.out HW6.out)
                  clear HT6 HW6 HT2 HXT HBW2 cp1 HW9 hb6 HC HD HPL HT0 HU0 HX2 HA2 HBB2 HXL
                  go_upto_region 31 with (fail)
                  go_loopw [18] (fun s18 wr => ∃ k : Nat, k ≤ n ∧ s18 = .int .i64 k ∧ Hid (wr.ownsRow bx 33 6 (.slice (some ⟨gA, 0, none⟩) (n + 2) ca') (n + 2) (gcells (turnK gs k ++ [room, room]))) ∧ Hid (Owns wr bx 3 (.slice (some ⟨gB, 0, none⟩) (m + 2) cb') (nums .i64 (outs ++ [77, 78]))) ∧ Hid (Blk wr bt 25 [.string name, .slice (some ⟨gA, 0, none⟩) n ca', .slice (some ⟨gB, 0, none⟩) m cb']) ∧ Hid (Below w.heap.size w wr)) (fun s18 _ => n - (intOf s18).toNat)
                  case atStart => exact ⟨0, by omega, rfl, HTg, HTo, HX6, HB6⟩
                  case round =>
                    clear HTg HTo HX6 HB6
                    obtain ⟨k, hk, rfl, HTg, HTo, HX6, HB6⟩ := hrel
                    have x1 : wr.cell? ⟨bt, 1, none⟩ = some (.slice (some ⟨gA, 0, none⟩) n ca') := (HX6.out.cell 1).trans rfl
                    by_cases hlt : k < n
                    · obtain ⟨g, hg⟩ : ∃ g, gs[k]? = some g := ⟨_, List.getElem?_eq_getElem (by rw [HN.out]; exact hlt)⟩
                      have hG : (turnK gs k ++ [room, room])[k]? = some g := by
                        rw [List.getElem?_append_left (by rw [turnK_length, HN.out]; exact hlt)]
                        exact turnK_get hg
                      obtain ⟨A7, c7, e7, hr7, _⟩ := rows_cells HTg.out (by decide)
                      cases e7
                      obtain ⟨b8, o8, e8, hc8⟩ := greads_at hr7 hG
                      cases e8
                      obtain ⟨c0, _, _, c3, c4, _⟩ := hc8
                      rw [Nat.zero_add] at c0 c3 c4
                      have hk0 : (0 : Int) ≤ (k : Int) := by omega
                      have hkn : (k : Int) < (n : Int) := by omega
                      clear hr7
                      by_cases h2 : g.kind = 2 ∨ g.kind = 4
                      · obtain ⟨_, e, _, hz, hrow⟩ := rows_store HTg.out (i := k * 6 + 3) (by rw [gcells_length, List.length_append, turnK_length, HN.out]; simp; omega) (.int .i64 g.b)
                        cases e
                        rw [gcells_set hG (turnA_cells h2), List.set_append_left _ _ (by rw [turnK_length, HN.out]; exact hlt), ← turnK_succ hg] at hrow
                        have HR := Lib.hid hrow
                        have hon := only_setCell (only_refl wr (some gA)) (p := ⟨gA, k * 6 + 3, none⟩) (.inl rfl) (.int .i64 g.b)
                        have HO := Lib.hid (HTo.out.aside (rows_typed HTg.out (g := gA) rfl) (by decide) hon)
                        have HX := Lib.hid (HX6.out.aside (rows_typed HTg.out (g := gA) rfl) (by decide) hon)
                        have HB := Lib.hid (HB6.out.grown hon HB6.out.size (fun g' e => by cases e; rw [HBS.out]; exact (World.ownsRow.lt HTg.out gA rfl).1))
                        clear hon hrow hG hg
                        obtain ⟨gb, hgb⟩ : ∃ gb, g.b = gb := ⟨_, rfl⟩
                        rw [hgb] at c4 HR HO HX HB
                        clear hgb
                        by_cases h3 : g.kind = 2
                        · rw [h3] at c0
                          go_upto_region 34 with (fail)
                          go_region_with (fail)
                          all_goals
                            go_wp2
                            go_roundw
                            case rel => exact ⟨k + 1, by omega, by go_num, HR, HO, HX, Lib.hid (below_drewN HB.out _)⟩
                            case measure => simp [intOf]; omega
                        · have h4 : g.kind = 4 := by omega
                          rw [h4] at c0
                          go_upto_region 34 with (fail)
                          go_region_with (fail)
                          all_goals
                            go_wp2
                            go_roundw
                            case rel => exact ⟨k + 1, by omega, by go_num, HR, HO, HX, Lib.hid (below_drewN HB.out _)⟩
                            case measure => simp [intOf]; omega
                      · have HR : Hid (wr.ownsRow bx 33 6 (.slice (some ⟨gA, 0, none⟩) (n + 2) ca') (n + 2) (gcells (turnK gs (k + 1) ++ [room, room]))) := Lib.hid (by rw [turnK_same hg (by omega) (by omega)]; exact HTg.out)
                        have h3 : (g.kind == 2) = false := by simp; omega
                        have h4 : (g.kind == 4) = false := by simp; omega
                        have h5 : ¬ g.kind = 2 := by omega
                        have h6 : ¬ g.kind = 4 := by omega
                        clear hG hg h2
                        go_wp2
                        go_roundw
                        case rel => exact ⟨k + 1, by omega, by go_num, HR, HTo, HX6, HB6⟩
                        case measure => simp [intOf]; omega
                    · obtain rfl : k = n := by omega
                      have HG2 : Hid (∀ W, Below wr.heap.size wr W → CReads W (some ⟨gA, 0, none⟩) (gcells (gs.map turnA))) := Lib.hid (fun W hW => by
                        obtain ⟨A7, c7, e7, hr7, _⟩ := rows_cells (rows_below HTg.out hW) (by decide)
                        cases e7
                        rw [gcells_append, turnK_all HN.out] at hr7
                        exact hr7.front)
                      have HO2 : Hid (∀ W, Below wr.heap.size wr W → CReads W (some ⟨gB, 0, none⟩) (nums .i64 outs)) := Lib.hid (fun W hW => by
                        obtain ⟨A7, c7, e7, hr7, _⟩ := rows_cells (HTo.out.below hW) (by decide)
                        simp only [Value.slice.injEq] at e7
                        rw [← e7.1, nums_append] at hr7
                        exact hr7.front)
                      have HK2 : Hid (∀ W, Below wr.heap.size wr W → W.cell? ⟨bt, 0, none⟩ = some (.string name) ∧ W.cell? ⟨bt, 1, none⟩ = some (.slice (some ⟨gA, 0, none⟩) k ca') ∧ W.cell? ⟨bt, 2, none⟩ = some (.slice (some ⟨gB, 0, none⟩) m cb') ∧ Below wr.heap.size wr W) := Lib.hid (fun W hW => ⟨((HX6.out.self hW).cell 0).trans rfl, ((HX6.out.self hW).cell 1).trans rfl, ((HX6.out.self hW).cell 2).trans rfl, hW⟩)
                      have hk0 := HK2.out wr (Below.refl _ _)
                      have hgl : (gcells (gs.map turnA)).length = k * 6 := by rw [gcells_length, List.length_map, HN.out]
                      have hol : (nums .i64 outs).length = m * 1 := by rw [nums_length, HM.out, Nat.mul_one]
                      have hHGL := Lib.hid (And.intro hgl hol)
                      clear hgl hol x1 hlt hk
                      go_upto_region 35 with (fail)
                      go_cut [19] (fun s19 wx => ∃ (bd : Nat) (A20 A21 : Option Addr) (c20 c21 : Nat), s19 = .pointer (some ⟨bd, 0, none⟩) ∧ Hid (Blk wx bd 25 [.string name, .slice A20 k c20, .slice A21 m c21]) ∧ Hid (CReads wx A20 (gcells (gs.map turnA))) ∧ Hid (CReads wx A21 (nums .i64 outs)) ∧ Hid (Below wr.heap.size wr wx))
                      case first =>
                        go_region_held3 (fun w' => w'.cell? ⟨bt, 0, none⟩ = some (.string name) ∧ w'.cell? ⟨bt, 1, none⟩ = some (.slice (some ⟨gA, 0, none⟩) k ca') ∧ w'.cell? ⟨bt, 2, none⟩ = some (.slice (some ⟨gB, 0, none⟩) m cb') ∧ Below wr.heap.size wr w')
                          (first | exact hk0 | (go_split_ands; exact HK2.out _ (by first | assumption | (apply below_drew0; assumption) | (refine Below.alloc (by assumption) (Below.size (by assumption)) _))) | exact HK2.out _ (below_set3 hW21 hW20.size hW21.size _ _ _) | exact HK2.out _ (below_set3 hW21 (Nat.le_refl _) hW21.size _ _ _))
                          (first
                            | (((try go_split_ands); refine step_copyOf rfl (.tmp 176) 22 ?ho 33 _ 6 56 Try.underlying22 info_gate rfl (by decide) (some ⟨gA, 0, none⟩) k ca' (gcells (gs.map turnA)) ?hx ?hr hHGL.out.1 (fun u hu => gcells_one hu) ?h1 ?h2 ?_; (case ho => rfl); (case hx => simp [Act.eval, Act.put]); (case hr => exact HG2.out _ (by assumption)); (case h1 => unfold maxLen; omega); (case h2 => omega); intro A20 c20 w20 HR20 hb20; have hW20 : Below wr.heap.size wr w20 := below_self (by assumption) hb20; (try (have hB20 : Blk w20 wr.heap.size 25 [.string ByteArray.empty, .slice none 0 0, .slice none 0 0] := (Blk.new wr.drew 25 [.string ByteArray.empty, .slice none 0 0, .slice none 0 0]).self hb20))))
                            | (((try go_split_ands); refine step_copyOf rfl (.tmp 179) 23 ?ko 3 _ 1 8 Try.underlying23 info_int rfl (by decide) (some ⟨gB, 0, none⟩) m cb' (nums .i64 outs) ?kx ?kr hHGL.out.2 (fun u hu => nums_one u hu) ?k1 ?k2 ?_; (case ko => rfl); (case kx => simp [Act.eval, Act.put]); (case kr => exact HO2.out _ (by assumption)); (case k1 => unfold maxLen; omega); (case k2 => omega); intro A21 c21 w21 HR21 hb21; have hW21 : Below wr.heap.size wr w21 := below_self (by assumption) hb21; (try (have hB21 := (Blk.new w20 25 [.string ByteArray.empty, .slice none 0 0, .slice none 0 0]).self hb21; have s0 := (hB21.cell 0).trans rfl; have s1 := (hB21.cell 1).trans rfl; have s2 := (hB21.cell 2).trans rfl; have f0 := hB21.frozen 0; have f1 := hB21.frozen 1; have f2 := hB21.frozen 2)); (try (have hB21 := hB20.self hb21; have s0 := (hB21.cell 0).trans rfl; have s1 := (hB21.cell 1).trans rfl; have s2 := (hB21.cell 2).trans rfl; have f0 := hB21.frozen 0; have f1 := hB21.frozen 1; have f2 := hB21.frozen 2)))))
                        all_goals
                          go_wp2_with fail
                          go_meet
                          first
                            | exact ⟨_, A20, A21, c20, c21, rfl, Lib.hid (Blk.new w21 25 [.string name, .slice A20 k c20, .slice A21 m c21]), Lib.hid (rows_read (rows_below (rows_below HR20.out hb21) (below1 _ _)) (by decide)), Lib.hid (rows_read (rows_below HR21.out (below1 _ _)) (by decide)), Lib.hid (below_then hW21 hW21.size (below1 _ _))⟩
                            | exact ⟨_, A20, A21, c20, c21, rfl, Lib.hid (((hB21.set_ 0 _).set_ 1 _).set_ 2 _), Lib.hid (rows_read (rows_set3 (rows_below (rows_below HR20.out (below1 _ _)) hb21) (.inr (.inr (fun b hb => (World.ownsRow.lt HR20.out b hb).2))) _ _ _) (by decide)), Lib.hid (rows_read (rows_set3 HR21.out (.inl (by simp)) _ _ _) (by decide)), Lib.hid (below_set3 hW21 hW20.size hW21.size _ _ _)⟩
                            | exact ⟨_, A20, A21, c20, c21, rfl, Lib.hid (((hB21.set_ 0 _).set_ 1 _).set_ 2 _), Lib.hid (rows_read (rows_set3 (rows_below HR20.out hb21) (.inl (by simp)) _ _ _) (by decide)), Lib.hid (rows_read (rows_set3 HR21.out (.inl hB20.lt) _ _ _) (by decide)), Lib.hid (below_set3 hW21 (Nat.le_refl _) hW21.size _ _ _)⟩
                      obtain ⟨bd, A20, A21, c20, c21, rfl, HD2, HGr, HOr, HBx⟩ := hcut
                      have HB9 := Lib.hid (below_self HB6.out HBx.out)
                      have HBS2 := Lib.hid (HX6.out.self HBx.out)
                      have HRg := Lib.hid (HG2.out _ HBx.out)
                      have HRo := Lib.hid (CReads.reads (HO2.out _ HBx.out))
                      have HSZ : Hid (SizeP ⟨name, gs.map turnA, outs⟩) := Lib.hid
                        ⟨HS.out.name, fun g hg => by
                          obtain ⟨g0, hg0, rfl⟩ := List.mem_map.1 hg
                          have := HS.out.names g0 hg0
                          unfold turnA
                          split <;> exact this, by have := HS.out.gl; simpa using this, HS.out.ol⟩
                      have HKL : Hid ((gs.map turnA).length = k) := Lib.hid (by rw [List.length_map]; exact HN.out)
                      clear HG2 HO2 HK2 hk0 hHGL HTg HTo HX6 HB6 HS
                      generalize gs.map turnA = ts at *
                      generalize wc = W7 at *
                      obtain ⟨q7, hq7⟩ : ∃ q7, (coneI ⟨name, ts, outs⟩ place).length = q7 := ⟨_, rfl⟩
                      have HQ7 := Lib.hid hq7
                      have hq71 : q7 ≤ 65536 := by rw [← hq7]; exact coneI_len _ _
                      clear hq7
                      obtain ⟨E7, hE7⟩ : ∃ E7, coneCode ⟨name, ts, outs⟩ place = E7 := ⟨_, rfl⟩
                      obtain ⟨xs7, hxs7⟩ : ∃ xs7, coneI ⟨name, ts, outs⟩ place = xs7 := ⟨_, rfl⟩
                      have hcall : Calls Try.prog 9 #[.agg #[.string name, .slice (some ⟨gA, 0, none⟩) k ca', .slice (some ⟨gB, 0, none⟩) m cb'], .int .i64 place] W7 fun e w' => ∃ A c', e = .returned (.tuple #[.slice A q7 c', .int .i64 E7]) ∧ Hid (Owns w' W7.heap.size 3 (.slice A q7 c') (nums .i64 xs7)) ∧ Below W7.heap.size W7 w' := by
                        have := cone_any ⟨name, ts, outs⟩ place (some ⟨gA, 0, none⟩) (some ⟨gB, 0, none⟩) k m ca' cb' W7 HRg.out HRo.out HSZ.out HKL.out HM.out
                        refine this.mono fun e w' h => ?_
                        have := h.n HQ7.out
                        unfold ConeN at this
                        rwa [hE7, hxs7] at this
                      have HD7 : ∀ W, Below W7.heap.size W7 W → Calls Try.prog 10 #[.agg #[.string name, .slice A20 k c20, .slice A21 m c21], .int .i64 place] W fun e w' => ∃ A c', e = .returned (.tuple #[.slice A q7 c', .int .i64 E7]) ∧ Hid (Owns w' W.heap.size 3 (.slice A q7 c') (nums .i64 xs7)) ∧ Below W.heap.size W w' := by
                        intro W hW
                        have := cone_ref ⟨name, ts, outs⟩ place A20 A21 k m c20 c21 W (HGr.out.below hW) (CReads.reads (HOr.out.below hW)) HSZ.out HKL.out HM.out
                        refine this.mono fun e w' h => ?_
                        have := h.n HQ7.out
                        unfold ConeN at this
                        rwa [hE7, hxs7] at this
                      have HXL7 : Hid (xs7.length = q7) := Lib.hid (by rw [← hxs7]; exact HQ7.out)
                      clear hE7 hxs7 HQ7
                      replace HD7 := Lib.hid HD7
                      have x0 : W7.cell? ⟨bt, 0, none⟩ = some (.string name) := (HBS2.out.cell 0).trans rfl
                      have x1 : W7.cell? ⟨bt, 1, none⟩ = some (.slice (some ⟨gA, 0, none⟩) k ca') := (HBS2.out.cell 1).trans rfl
                      have x2 : W7.cell? ⟨bt, 2, none⟩ = some (.slice (some ⟨gB, 0, none⟩) m cb') := (HBS2.out.cell 2).trans rfl
                      go_upto_region 37 with (go_at_call 9; with_reducible refine hcall.mono ?_; rintro e w8 ⟨A8, c8, rfl, hO8, hb8⟩)
                      have HO8 := Lib.hid hO8.out
                      have HB8 := Lib.hid hb8
                      have HDD := Lib.hid (HD2.out.self hb8)
                      clear hcall x0 x1 x2 hO8 hb8 HD2
                      have hcall := HD7.out w8 HB8.out
                      have x0 : w8.cell? ⟨bd, 0, none⟩ = some (.string name) := (HDD.out.cell 0).trans rfl
                      have x1 : w8.cell? ⟨bd, 1, none⟩ = some (.slice A20 k c20) := (HDD.out.cell 1).trans rfl
                      have x2 : w8.cell? ⟨bd, 2, none⟩ = some (.slice A21 m c21) := (HDD.out.cell 2).trans rfl
                      go_upto_region 38 with (go_at_call 10; with_reducible refine hcall.mono ?_; rintro e w9 ⟨A9, c9, rfl, hO9, hb9⟩)
                      have HO9 := Lib.hid hO9.out
                      have HO89 := Lib.hid (HO8.out.below hb9)
                      have HB99 := Lib.hid (below_self HB9.out (below_self HB8.out hb9))
                      clear hcall x0 x1 x2 hO9 hb9 HO8 HD7
                      have cp1 : Calls Try.prog 11 #[.slice A8 q7 c8, .slice A9 q7 c9] w9 fun e w' => e = .returned (.bool true) ∧ Below w9.heap.size w9 w' := by
                        obtain ⟨_, _, e1, r1⟩ := HO89.out.reads
                        obtain ⟨_, _, e2, r2⟩ := HO9.out.reads
                        cases e1; cases e2
                        exact places_same A8 A9 _ c8 c9 xs7 w9 r1 r2 rfl (by rw [HXL7.out]; omega)
                      go_wp2_with (go_at_call 11; with_reducible refine cp1.mono ?_; rintro e w10 ⟨rfl, hb10⟩)
                      go_ret
                      exact ⟨rfl, below_self HB99.out hb10⟩
end Go.Proofs.Ytjkmoahnociaiaa
