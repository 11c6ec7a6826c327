/- Text: a circuit's text, by the document's text. -/
import Derived.Test.YtjkmoahnociaiaaDoorP3
namespace Go.Proofs.YtjkmoahnociaiaaDoor
open Go.RowKit

/-- 'append(b, s...)' onto such a row. -/
theorem wpList_bstr {ops : Array Oper} {rest : List Oper} {o : Oper} {a : Act} {Q : Exit → Act → World → Prop} {w : World} (hgd : o.guard = none) (sl x : Operand) (ho : o.op = .call { callee := .builtin .append, args := #[sl, x], argTypes := #[42, 9] }) {base : Nat} {v : Value} {l : List UInt8} (hs : a.eval sl = v) (h : BRow w base v l) (s : ByteArray) (hx : a.eval x = .string s) (hl : l.length + s.size ≤ 1000000000) (hb : base ≤ w.heap.size)
    (hk : ∀ v' w', BRow w' base v' (l ++ s.data.toList) → w.grownBy w' v.ownBlock → wpList Tryd.prog ops Q rest (a.put o.dst v') w') : wpList Tryd.prog ops Q (o :: rest) a w := by
  refine wpList_plain hgd fun K hK => ?_
  obtain ⟨v', w', hr, h2, h3⟩ := brow_str h s hl hb o.type
  unfold Oper.wp execOp
  simp only [ho, resolve, invoke, builtin, Sem.run_bind, Sem.run_pure, Result.andThen_ok, List.map_toArray, List.map_cons, List.map_nil, hs, hx, hr]
  exact hK _ _ (hk v' w' h2 h3)
/-- 'append(b, c)' of one byte. -/
theorem wpList_bbyte {ops : Array Oper} {rest : List Oper} {o : Oper} {a : Act} {Q : Exit → Act → World → Prop} {w : World} (hgd : o.guard = none) (sl x : Operand) (ho : o.op = .call { callee := .builtin .append, args := #[sl, x], argTypes := #[42, 42] }) {base : Nat} {v : Value} {l : List UInt8} (hs : a.eval sl = v) (h : BRow w base v l) (c : UInt8) (ad : Addr) (hx : a.eval x = .slice (some ad) 1 1) (hc : w.cell? ad = some (.int .u8 c.toNat)) (hl : l.length + 1 ≤ 1000000000) (hb : base ≤ w.heap.size)
    (hk : ∀ v' w', BRow w' base v' (l ++ [c]) → w.grownBy w' v.ownBlock → wpList Tryd.prog ops Q rest (a.put o.dst v') w') : wpList Tryd.prog ops Q (o :: rest) a w := by
  refine wpList_plain hgd fun K hK => ?_
  obtain ⟨v', w', hr, h2, h3⟩ := brow_byte h c ad hc hl hb o.type
  unfold Oper.wp execOp
  simp only [ho, resolve, invoke, builtin, Sem.run_bind, Sem.run_pure, Result.andThen_ok, List.map_toArray, List.map_cons, List.map_nil, hs, hx, hr]
  exact hK _ _ (hk v' w' h2 h3)
/-- The first, as a step of a region that draws. -/
theorem step_bstr {ops : Array Oper} {o : Oper} {a : Act} {w : World} {K : Act → World → Prop} {Q : Exit → Act → World → Prop} {E : Prop} (hgd : o.guard = none) (sl x : Operand) (ho : o.op = .call { callee := .builtin .append, args := #[sl, x], argTypes := #[42, 9] }) {base : Nat} {v : Value} {l : List UInt8} (hs : a.eval sl = v) (h : BRow w base v l) (s : ByteArray) (hx : a.eval x = .string s) (hl : l.length + s.size ≤ 1000000000) (hb : base ≤ w.heap.size)
    (hk : ∀ v' w', BRow w' base v' (l ++ s.data.toList) → w.grownBy w' v.ownBlock → K (a.put o.dst v') w') : if Region.wanted o (yielded ops a.tmps) = true then Oper.wp Tryd.prog o a w K Q else E := by
  have hw : Region.wanted o (yielded ops a.tmps) = true := by simp [Region.wanted, hgd]
  rw [if_pos hw]
  obtain ⟨v', w', hr, h2, h3⟩ := brow_str h s hl hb o.type
  unfold Oper.wp
  simp only [execOp, ho, resolve, invoke, builtin, Sem.run_bind, Sem.run_pure, Result.andThen_ok, List.map_toArray, List.map_cons, List.map_nil, hs, hx, hr]
  exact hk v' w' h2 h3
theorem brow_conv (w : World) (base : Nat) (s : ByteArray) (h0 : 0 < s.size) (hb : base ≤ w.heap.size) : BRow (Lib.bytesWorld w 5 s) base (.slice (some ⟨w.heap.size, 0, none⟩) s.size (grownCap w s.size 0 5)) s.data.toList := by
  have hsz : (Lib.bytesCells w 5 s).size = grownCap w s.size 0 5 := by
    unfold Lib.bytesCells
    have h1 := grownCap_ge w s.size 0 5
    have h2 : s.data.size = s.size := rfl
    simp only [Array.size_append, Array.size_map, Array.size_replicate, h2]
    omega
  refine ⟨w.heap.size, _, rfl, hb, h0, grownCap_ge w s.size 0 _, fun j hj => ⟨?_, ?_⟩, fun j x hx => ?_⟩
  · simp only [World.cell?, Lib.bytesWorld_at_new]
    rw [Array.getElem?_eq_getElem (by omega)]
    rfl
  · simp only [World.frozen?, Lib.bytesWorld_at_new, Bool.and_eq_false_iff, decide_eq_false_iff_not]
    left
    omega
  · have hj := (List.getElem?_eq_some_iff.1 hx).1
    rw [Lib.byteCells_length] at hj
    rw [Lib.bytesWorld_cell w 5 s j hj]
    unfold Lib.byteCells at hx
    rw [List.getElem?_map] at hx
    rw [List.getD_eq_getElem?_getD]
    cases h : s.data.toList[j]? with
    | none => rw [h] at hx; cases hx
    | some y =>
      rw [h] at hx
      simpa using hx
theorem below_conv (w : World) (e : TypeId) (s : ByteArray) : Below w.heap.size w (Lib.bytesWorld w e s) :=
  ⟨rfl, rfl, rfl, by rw [Lib.bytesWorld_size]; omega, fun i hi => Lib.bytesWorld_at_old w e s i hi⟩
theorem brow_text {w : World} {base : Nat} {v : Value} {l : List UInt8} (h : BRow w base v l) : (convert 42 9 v).run Tryd.prog w = .ok (.string ⟨l.toArray⟩) w := by
  obtain ⟨g, cap, hv, _, _, _, _, h2⟩ := h
  subst hv
  have hr := run_text (P := Tryd.prog) (w := w) (n := l.length) (c := cap) (A := some ⟨g, 0, none⟩) (l := l.map fun x => (x.toNat : Int)) Tryd.underlying42 Tryd.underlying5 Tryd.underlying9 (fun _ => ⟨g, 0, rfl, fun j x hx => by
    rw [Nat.zero_add]
    refine h2 j _ ?_
    unfold Lib.byteCells
    rw [List.getElem?_map] at hx ⊢
    cases h : l[j]? with
    | none => rw [h] at hx; cases hx
    | some y =>
      rw [h] at hx
      simp at hx
      subst hx
      rfl⟩) (by rw [List.length_map])
  have hd : ∀ l : List UInt8, strOfNums (l.map fun x => (x.toNat : Int)) = ⟨l.toArray⟩ := fun l => by
    apply ByteArray.ext
    apply Array.toList_inj.1
    rw [strOfNums_data, List.toList_toArray]
    apply List.ext_getElem?
    intro j
    rw [List.getElem?_map, List.getElem?_map]
    cases l[j]? with
    | none => rfl
    | some y => simp
  rw [hr, hd]
end Go.Proofs.YtjkmoahnociaiaaDoor
