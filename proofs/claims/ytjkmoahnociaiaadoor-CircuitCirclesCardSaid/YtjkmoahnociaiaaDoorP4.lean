/- A row of bytes that began as a text, grown. -/
import Derived.Test.YtjkmoahnociaiaaDoorP2
import Derived.Lib.ConvBytes
import Derived.Laws.IdiomCopy
import Derived.Lib.AppendStr
namespace Go.Proofs.YtjkmoahnociaiaaDoor
open Go.RowKit

/-- A row of bytes of the call's own; it may have begun as a text's copy. -/
def BRow (w : World) (base : Nat) (v : Value) (l : List UInt8) : Prop :=
  ∃ g cap, v = .slice (some ⟨g, 0, none⟩) l.length cap ∧ base ≤ g ∧ 0 < l.length ∧ l.length ≤ cap ∧ (∀ j, j < cap → (w.cell? ⟨g, j, none⟩).isSome = true ∧ w.frozen? ⟨g, j, none⟩ = false) ∧ ∀ (j : Nat) (x : Value), (Lib.byteCells l)[j]? = some x → w.cell? ⟨g, j, none⟩ = some x
theorem BRow.below {w w' : World} {base : Nat} {v : Value} {l : List UInt8} (h : BRow w base v l) (hb : Below w.heap.size w w') : BRow w' base v l := by
  obtain ⟨g, cap, hv, hg, h0, hc, h1, h2⟩ := h
  obtain ⟨u, hu⟩ := Option.isSome_iff_exists.1 (h1 0 (by omega)).1
  have hlt : g < w.heap.size := World.block_lt_of_cell? _ _ hu
  have hh := hb.block g hlt
  have e1 : ∀ j, w'.cell? ⟨g, j, none⟩ = w.cell? ⟨g, j, none⟩ := fun j => by simp only [World.cell?, hh]
  have e2 : ∀ j, w'.frozen? ⟨g, j, none⟩ = w.frozen? ⟨g, j, none⟩ := fun j => by simp only [World.frozen?, hh]
  exact ⟨g, cap, hv, hg, h0, hc, fun j hj => by rw [e1, e2]; exact h1 j hj, fun j x hx => by rw [e1]; exact h2 j x hx⟩
theorem BRow.lt {w : World} {base : Nat} {v : Value} {l : List UInt8} (h : BRow w base v l) {g : Nat} (hg : v.ownBlock = some g) : base ≤ g ∧ g < w.heap.size := by
  obtain ⟨g', cap, hv, hb, h0, hc, h1, _⟩ := h
  subst hv
  cases hg
  obtain ⟨u, hu⟩ := Option.isSome_iff_exists.1 (h1 0 (by omega)).1
  exact ⟨hb, World.block_lt_of_cell? _ _ hu⟩
theorem setCells_grown (g : Nat) : ∀ (vs : List Value) (o : Nat) (w : World), w.grownBy (w.setCells g o vs) (some g)
  | [], _, w => only_refl w (some g)
  | v :: r, o, w => only_trans (only_setCell (only_refl w (some g)) (p := ⟨g, o, none⟩) (.inl rfl) v) (setCells_grown g r (o + 1) (w.setCell ⟨g, o, none⟩ v))
section
variable {w : World} {base g cap : Nat} {l s : List UInt8}
theorem brow_room (hg : base ≤ g) (h0 : 0 < l.length) (h1 : ∀ j, j < cap → (w.cell? ⟨g, j, none⟩).isSome = true ∧ w.frozen? ⟨g, j, none⟩ = false) (h2 : ∀ (j : Nat) (x : Value), (Lib.byteCells l)[j]? = some x → w.cell? ⟨g, j, none⟩ = some x) (hroom : l.length + s.length ≤ cap) :
    BRow (w.setCells g l.length (Lib.byteCells s)) base (.slice (some ⟨g, 0, none⟩) (l.length + s.length) cap) (l ++ s) := by
  have hs : (Lib.byteCells s).length = s.length := Lib.byteCells_length s
  have hin : ∀ j, j < (Lib.byteCells s).length → (w.cell? ⟨g, l.length + j, none⟩).isSome = true := fun j hj => (h1 _ (by omega)).1
  have key : ∀ (j : Nat) (x : Value), (Lib.byteCells (l ++ s))[j]? = some x → (w.setCells g l.length (Lib.byteCells s)).cell? ⟨g, j, none⟩ = some x := fun j x hx => by
    rw [Lib.byteCells_append] at hx
    by_cases hj : j < l.length
    · rw [List.getElem?_append_left (by rw [Lib.byteCells_length]; exact hj)] at hx
      rw [World.cell?_setCells_out g _ _ _ _ (fun _ _ => .inl hj)]
      exact h2 j x hx
    · rw [List.getElem?_append_right (by rw [Lib.byteCells_length]; omega), Lib.byteCells_length] at hx
      obtain ⟨hlt, hx⟩ := List.getElem?_eq_some_iff.1 hx
      have := World.cell?_setCells_in g (Lib.byteCells s) l.length w hin (j - l.length) hlt
      rw [show l.length + (j - l.length) = j by omega, hx] at this
      exact this
  refine ⟨g, cap, by rw [List.length_append], hg, by rw [List.length_append]; omega, by rw [List.length_append]; exact hroom, fun j hj => ⟨?_, by rw [World.frozen?_setCells]; exact (h1 j hj).2⟩, key⟩
  by_cases hj2 : l.length ≤ j ∧ j < l.length + s.length
  · have hlt : j - l.length < (Lib.byteCells s).length := by omega
    have := World.cell?_setCells_in g (Lib.byteCells s) l.length w hin (j - l.length) hlt
    rw [show l.length + (j - l.length) = j by omega] at this
    rw [this]
    rfl
  · rw [World.cell?_setCells_out g _ _ _ _ (fun _ _ => by dsimp only; omega)]
    exact (h1 j hj).1
theorem brow_new {W : World} {need c : Nat} (hb : base ≤ W.heap.size) (h0 : 0 < l.length) (hn : need = l.length + s.length) (hc : need ≤ c) :
    BRow (W.alloc (.cells ((Lib.byteCells l).toArray ++ (Lib.byteCells s).toArray ++ Builtin.zeroCells (Value.int .u8 0).cells (c - need)) 5)) base (.slice (some ⟨W.heap.size, 0, none⟩) need c) (l ++ s) := by
  obtain ⟨zs, hzs⟩ : ∃ zs, Builtin.zeroCells (Value.int .u8 0).cells (c - need) = zs := ⟨_, rfl⟩
  have hz : zs.size = c - need := by
    rw [← hzs, size_zeroCells]
    show (c - need) * 1 = c - need
    omega
  rw [hzs]
  have hblk := Blk.new W 5 (Lib.byteCells l ++ Lib.byteCells s ++ zs.toList)
  have ha : (Lib.byteCells l ++ Lib.byteCells s ++ zs.toList).toArray = (Lib.byteCells l).toArray ++ (Lib.byteCells s).toArray ++ zs := by
    apply Array.toList_inj.1
    simp
  rw [ha] at hblk
  have hlen : (Lib.byteCells l ++ Lib.byteCells s ++ zs.toList).length = c := by
    simp only [List.length_append, Lib.byteCells_length, Array.length_toList, hz]
    omega
  refine ⟨W.heap.size, c, by rw [List.length_append, hn], hb, by rw [List.length_append]; omega, by rw [List.length_append]; omega, fun j hj => ⟨?_, hblk.frozen j⟩, fun j x hx => ?_⟩
  · rw [hblk.cell, List.getElem?_eq_getElem (by omega)]
    rfl
  · rw [hblk.cell, ← Lib.byteCells_append, List.getElem?_append_left (List.getElem?_eq_some_iff.1 hx).1]
    exact hx
end
theorem info_u8 : ∃ i, Tryd.prog.info? 5 = some i ∧ i.zero = some (.int .u8 0) ∧ i.size = 1 ∧ i.bytes = 1 := info_parts extraD.infoByte
theorem brow_str {w : World} {base : Nat} {v : Value} {l : List UInt8} (h : BRow w base v l) (s : ByteArray) (hl : l.length + s.size ≤ 1000000000) (hb : base ≤ w.heap.size) (ty : TypeId) :
    ∃ v' w', (Builtin.append_ #[42, 9] ty #[v, .string s]).run Tryd.prog w = .ok v' w' ∧ BRow w' base v' (l ++ s.data.toList) ∧ w.grownBy w' v.ownBlock := by
  obtain ⟨g, cap, hv, hg, h0, hc, h1, h2⟩ := h
  subst hv
  obtain ⟨i, hi, hz0, hz1, hz2⟩ := info_u8
  have hss : s.data.toList.length = s.size := rfl
  by_cases hroom : l.length + s.size ≤ cap
  · have hf := Lib.run_firstCells_string (P := Tryd.prog) w 1 s
    have hst := run_storeCells_cells (P := Tryd.prog) g l.length (Lib.strCells s) 0 w (fun j hj => (h1 _ (by rw [Lib.strCells_length] at hj; omega)).1) (fun j hj => (h1 _ (by rw [Lib.strCells_length] at hj; omega)).2) (Lib.strCells_oneCell s)
    simp only [Nat.add_zero] at hst
    refine ⟨.slice (some ⟨g, 0, none⟩) (l.length + s.size) cap, w.setCells g l.length (Lib.strCells s), ?_, brow_room (s := s.data.toList) hg h0 h1 h2 hroom, setCells_grown g _ _ _⟩
    simp [Builtin.append_, run_underlying Tryd.underlying42, run_underlying Tryd.underlying9, sizeOf, typeInfo, hi, hz1, Builtin.lenOf, hroom, hf, Addr.add_lit, hst]
  · have hr := Lib.run_append_grow_string (P := Tryd.prog) w 42 9 ty 5 i (.int .u8 0) Tryd.underlying42 Tryd.underlying9 hi hz0 ⟨g, 0, none⟩ l.length cap (Lib.byteCells l) (by rw [Lib.byteCells_length, hz1, Nat.mul_one]) (fun j x hx => by rw [Addr.add_lit, Nat.zero_add]; exact h2 j x hx) s (by omega) (by omega) (by rw [hz2]; exact growslice_fits (by omega) (by omega))
    refine ⟨_, _, hr, brow_new (W := w.drew) (s := s.data.toList) hb h0 rfl (grownCap_ge w (l.length + s.size) cap _), ?_⟩
    exact only_below (only_of_below (below_drew0 (Below.refl _ _)) _) (below1 w.drew _)
theorem brow_byte {w : World} {base : Nat} {v : Value} {l : List UInt8} (h : BRow w base v l) (x : UInt8) (ad : Addr) (hx : w.cell? ad = some (.int .u8 x.toNat)) (hl : l.length + 1 ≤ 1000000000) (hb : base ≤ w.heap.size) (ty : TypeId) :
    ∃ v' w', (Builtin.append_ #[42, 42] ty #[v, .slice (some ad) 1 1]).run Tryd.prog w = .ok v' w' ∧ BRow w' base v' (l ++ [x]) ∧ w.grownBy w' v.ownBlock := by
  obtain ⟨g, cap, hv, hg, h0, hc, h1, h2⟩ := h
  subst hv
  obtain ⟨i, hi, hz0, hz1, hz2⟩ := info_u8
  have hnews : ∀ (j : Nat) (u : Value), (Lib.byteCells [x])[j]? = some u → w.cell? (ad.add j) = some u := fun j u hu => by
    match j, hu with
    | 0, hu =>
      simp [Lib.byteCells] at hu
      subst hu
      simpa [Addr.add] using hx
    | j + 1, hu => simp [Lib.byteCells] at hu
  by_cases hroom : l.length + 1 ≤ cap
  · have hf := run_firstCells_some (P := Tryd.prog) w 1 1 ad 1 1 (Lib.byteCells [x]) rfl hnews
    have hst := run_storeCells_cells (P := Tryd.prog) g l.length (Lib.byteCells [x]) 0 w (fun j hj => (h1 _ (by rw [Lib.byteCells_length] at hj; simp at hj; omega)).1) (fun j hj => (h1 _ (by rw [Lib.byteCells_length] at hj; simp at hj; omega)).2) (fun u hu => by simp [Lib.byteCells] at hu; subst hu; rfl)
    simp only [Nat.add_zero] at hst
    refine ⟨.slice (some ⟨g, 0, none⟩) (l.length + 1) cap, w.setCells g l.length (Lib.byteCells [x]), ?_, brow_room (s := [x]) hg h0 h1 h2 hroom, setCells_grown g _ _ _⟩
    simp [Builtin.append_, run_underlying Tryd.underlying42, sizeOf, typeInfo, hi, hz1, Builtin.lenOf, hroom, hf, Addr.add_lit, hst]
  · have hr := run_append_grow (P := Tryd.prog) w 42 ty 5 i (.int .u8 0) Tryd.underlying42 hi hz0 ⟨g, 0, none⟩ l.length cap (Lib.byteCells l) (by rw [Lib.byteCells_length, hz1, Nat.mul_one]) (fun j x hx => by rw [Addr.add_lit, Nat.zero_add]; exact h2 j x hx) ad 1 1 (Lib.byteCells [x]) (by rw [hz1]; rfl) hnews (by omega) (by omega) (by rw [hz2]; exact growslice_fits (by omega) (by omega))
    refine ⟨_, _, hr, brow_new (W := w.drew) (s := [x]) hb h0 rfl (grownCap_ge w (l.length + 1) cap _), ?_⟩
    exact only_below (only_of_below (below_drew0 (Below.refl _ _)) _) (below1 w.drew _)
end Go.Proofs.YtjkmoahnociaiaaDoor
/- Text: a circuit's text, by the document's text. -/
namespace Go.Proofs.YtjkmoahnociaiaaDoor
open Go.RowKit

/-- 'append(b, s...)' onto such a row. -/
theorem wpList_bstr {ops : Array Oper} {rest : List Oper} {o : Oper} {a : Act} {Q : Exit → Act → World → Prop} {w : World} (hgd : o.guard = none) (sl x : Operand) (ho : o.op = .call { callee := .builtin .append, args := #[sl, x], argTypes := #[42, 9] }) {base : Nat} {v : Value} {l : List UInt8} (hs : a.eval sl = v) (h : BRow w base v l) (s : ByteArray) (hx : a.eval x = .string s) (hl : l.length + s.size ≤ 1000000000) (hb : base ≤ w.heap.size)
    (hk : ∀ v' w', BRow w' base v' (l ++ s.data.toList) → w.grownBy w' v.ownBlock → wpList Tryd.prog ops Q rest (a.put o.dst v') w') : wpList Tryd.prog ops Q (o :: rest) a w := by
  refine wpList_plain hgd fun K hK => ?_
  obtain ⟨v', w', hr, h2, h3⟩ := brow_str h s hl hb o.type
  unfold Oper.wp execOp
  simp only [ho, resolve, invoke, builtin, Sem.run_bind, Sem.run_pure, Result.andThen_ok, List.map_toArray, List.map_cons, List.map_nil, hs, hx, hr]
  exact hK _ _ (hk v' w' h2 h3)
/-- 'append(b, c)' of one byte. -/
theorem wpList_bbyte {ops : Array Oper} {rest : List Oper} {o : Oper} {a : Act} {Q : Exit → Act → World → Prop} {w : World} (hgd : o.guard = none) (sl x : Operand) (ho : o.op = .call { callee := .builtin .append, args := #[sl, x], argTypes := #[42, 42] }) {base : Nat} {v : Value} {l : List UInt8} (hs : a.eval sl = v) (h : BRow w base v l) (c : UInt8) (ad : Addr) (hx : a.eval x = .slice (some ad) 1 1) (hc : w.cell? ad = some (.int .u8 c.toNat)) (hl : l.length + 1 ≤ 1000000000) (hb : base ≤ w.heap.size)
    (hk : ∀ v' w', BRow w' base v' (l ++ [c]) → w.grownBy w' v.ownBlock → wpList Tryd.prog ops Q rest (a.put o.dst v') w') : wpList Tryd.prog ops Q (o :: rest) a w := by
  refine wpList_plain hgd fun K hK => ?_
  obtain ⟨v', w', hr, h2, h3⟩ := brow_byte h c ad hc hl hb o.type
  unfold Oper.wp execOp
  simp only [ho, resolve, invoke, builtin, Sem.run_bind, Sem.run_pure, Result.andThen_ok, List.map_toArray, List.map_cons, List.map_nil, hs, hx, hr]
  exact hK _ _ (hk v' w' h2 h3)
/-- The first, as a step of a region that draws. -/
theorem step_bstr {ops : Array Oper} {o : Oper} {a : Act} {w : World} {K : Act → World → Prop} {Q : Exit → Act → World → Prop} {E : Prop} (hgd : o.guard = none) (sl x : Operand) (ho : o.op = .call { callee := .builtin .append, args := #[sl, x], argTypes := #[42, 9] }) {base : Nat} {v : Value} {l : List UInt8} (hs : a.eval sl = v) (h : BRow w base v l) (s : ByteArray) (hx : a.eval x = .string s) (hl : l.length + s.size ≤ 1000000000) (hb : base ≤ w.heap.size)
    (hk : ∀ v' w', BRow w' base v' (l ++ s.data.toList) → w.grownBy w' v.ownBlock → K (a.put o.dst v') w') : if Region.wanted o (yielded ops a.tmps) = true then Oper.wp Tryd.prog o a w K Q else E := by
  have hw : Region.wanted o (yielded ops a.tmps) = true := by simp [Region.wanted, hgd]
  rw [if_pos hw]
  obtain ⟨v', w', hr, h2, h3⟩ := brow_str h s hl hb o.type
  unfold Oper.wp
  simp only [execOp, ho, resolve, invoke, builtin, Sem.run_bind, Sem.run_pure, Result.andThen_ok, List.map_toArray, List.map_cons, List.map_nil, hs, hx, hr]
  exact hk v' w' h2 h3
theorem brow_conv (w : World) (base : Nat) (s : ByteArray) (h0 : 0 < s.size) (hb : base ≤ w.heap.size) : BRow (Lib.bytesWorld w 5 s) base (.slice (some ⟨w.heap.size, 0, none⟩) s.size (grownCap w s.size 0 5)) s.data.toList := by
  have hsz : (Lib.bytesCells w 5 s).size = grownCap w s.size 0 5 := by
    unfold Lib.bytesCells
    have h1 := grownCap_ge w s.size 0 5
    have h2 : s.data.size = s.size := rfl
    simp only [Array.size_append, Array.size_map, Array.size_replicate, h2]
    omega
  refine ⟨w.heap.size, _, rfl, hb, h0, grownCap_ge w s.size 0 _, fun j hj => ⟨?_, ?_⟩, fun j x hx => ?_⟩
  · simp only [World.cell?, Lib.bytesWorld_at_new]
    rw [Array.getElem?_eq_getElem (by omega)]
    rfl
  · simp only [World.frozen?, Lib.bytesWorld_at_new, Bool.and_eq_false_iff, decide_eq_false_iff_not]
    left
    omega
  · have hj := (List.getElem?_eq_some_iff.1 hx).1
    rw [Lib.byteCells_length] at hj
    rw [Lib.bytesWorld_cell w 5 s j hj]
    unfold Lib.byteCells at hx
    rw [List.getElem?_map] at hx
    rw [List.getD_eq_getElem?_getD]
    cases h : s.data.toList[j]? with
    | none => rw [h] at hx; cases hx
    | some y =>
      rw [h] at hx
      simpa using hx
theorem below_conv (w : World) (e : TypeId) (s : ByteArray) : Below w.heap.size w (Lib.bytesWorld w e s) :=
  ⟨rfl, rfl, rfl, by rw [Lib.bytesWorld_size]; omega, fun i hi => Lib.bytesWorld_at_old w e s i hi⟩
theorem brow_text {w : World} {base : Nat} {v : Value} {l : List UInt8} (h : BRow w base v l) : (convert 42 9 v).run Tryd.prog w = .ok (.string ⟨l.toArray⟩) w := by
  obtain ⟨g, cap, hv, _, _, _, _, h2⟩ := h
  subst hv
  have hr := run_text (P := Tryd.prog) (w := w) (n := l.length) (c := cap) (A := some ⟨g, 0, none⟩) (l := l.map fun x => (x.toNat : Int)) Tryd.underlying42 Tryd.underlying5 Tryd.underlying9 (fun _ => ⟨g, 0, rfl, fun j x hx => by
    rw [Nat.zero_add]
    refine h2 j _ ?_
    unfold Lib.byteCells
    rw [List.getElem?_map] at hx ⊢
    cases h : l[j]? with
    | none => rw [h] at hx; cases hx
    | some y =>
      rw [h] at hx
      simp at hx
      subst hx
      rfl⟩) (by rw [List.length_map])
  have hd : ∀ l : List UInt8, strOfNums (l.map fun x => (x.toNat : Int)) = ⟨l.toArray⟩ := fun l => by
    apply ByteArray.ext
    apply Array.toList_inj.1
    rw [strOfNums_data, List.toList_toArray]
    apply List.ext_getElem?
    intro j
    rw [List.getElem?_map, List.getElem?_map]
    cases l[j]? with
    | none => rfl
    | some y => simp
  rw [hr, hd]
end Go.Proofs.YtjkmoahnociaiaaDoor
