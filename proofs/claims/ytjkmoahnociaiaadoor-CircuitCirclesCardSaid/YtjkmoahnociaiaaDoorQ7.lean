/- The reader: the table of readers, and read. -/
import Derived.Test.YtjkmoahnociaiaaDoorQ6
import Derived.Deep.CutRange
import Derived.Deep.CutBlock
namespace Go.Proofs.YtjkmoahnociaiaaDoor
open Go.RowKit Go.WideMaps Go.Maps

/-- A function of the program, as a number; nil is 0. -/
def fe (v : Value) : Option (DataW Unit × List MemPlace) :=
  match v with
  | .func (.func g) a c => if a = #[] ∧ c = #[] ∧ 0 < g then some (.lit (.int .i64 (g : Int)), []) else none
  | .nilFunc => some (.lit (.int .i64 0), [])
  | _ => none
theorem fe_inv {v : Value} {i : Int} {ps : List MemPlace} (h : fe v = some (.lit (.int .i64 i), ps)) : (i = 0 ∧ v = .nilFunc) ∨ ∃ g : Nat, 0 < g ∧ i = (g : Int) ∧ v = .func (.func g) #[] #[] := by
  unfold fe at h
  split at h
  · split at h
    · rename_i hc
      obtain ⟨rfl, rfl, h0⟩ := hc
      simp only [Option.some.injEq, Prod.mk.injEq, DataW.lit.injEq, Lit.int.injEq, true_and] at h
      exact .inr ⟨_, h0, h.1.symm, rfl⟩
    · cases h
  · simp only [Option.some.injEq, Prod.mk.injEq, DataW.lit.injEq, Lit.int.injEq, true_and] at h
    exact .inl ⟨h.1.symm, rfl⟩
  · cases h
/-- A map from texts to functions. -/
def FMap (w : World) (b n : Nat) (f : ByteArray → Int) : Prop :=
  ∃ D : DataW Unit, w.ownsMap Tryd.prog 9 fe b n D ∧ IsMap D ∧ ∀ s : ByteArray, D.atKey (.string s.data.toList) (.lit (.int .i64 0)) = .lit (.int .i64 (f s))
theorem zeroFun (w : World) : (zeroValue 110).run Tryd.prog w = .ok .nilFunc w := by kernel_rfl
theorem FMap.made (w : World) : FMap (w.alloc (.map #[] 0)) w.heap.size 0 (fun _ => 0) := ⟨.map [], World.ownsMap_made _ _ _ _, isMap_empty, fun s => rfl⟩
theorem FMap.below {w w' : World} {b n : Nat} {f : ByteArray → Int} (h : FMap w b n f) (hb : Below w.heap.size w w') : FMap w' b n f := by
  obtain ⟨D, h1, h2, h3⟩ := h
  exact ⟨D, h1.kept (only_of_below hb none) (by simp), h2, h3⟩
theorem FMap.look {w : World} {b n : Nat} {f : ByteArray → Int} (h : FMap w b n f) {s : ByteArray} (hs : s.size ≤ maxLen) : ∃ v, (Instr.lookup 111 (.map (some b)) (.string s) false).run Tryd.prog w = .ok v w ∧ ((f s = 0 ∧ v = .nilFunc) ∨ ∃ g : Nat, 0 < g ∧ f s = (g : Int) ∧ v = .func (.func g) #[] #[]) := by
  obtain ⟨D, h1, h2, h3⟩ := h
  obtain ⟨v, ps, hrun, hat⟩ := h1.lookup slaw Tryd.underlying111 (zeroFun w) (zd := .lit (.int .i64 0)) (zp := []) rfl (keyOf_string_mk (P := Tryd.prog) Tryd.underlying9 hs)
  rw [h3 s] at hat
  exact ⟨v, hrun, fe_inv hat⟩
theorem FMap.put {w : World} {b n : Nat} {f : ByteArray → Int} {D : DataW Unit} (h2 : IsMap D) (h3 : ∀ s : ByteArray, D.atKey (.string s.data.toList) (.lit (.int .i64 0)) = .lit (.int .i64 (f s))) {s : ByteArray} {v : Int} (h : w.ownsMap Tryd.prog 9 fe b n (D.put (.string s.data.toList) (.lit (.int .i64 v)))) :
    FMap w b n (fun t => if t = s then v else f t) := by
  refine ⟨_, h, h2.put _ _, fun t => ?_⟩
  by_cases e : t = s
  · subst e
    dsimp only
    rw [if_pos rfl]
    exact atKey_put_same h2 (show WideAt.IsKeyLit (.string _) from trivial) _ _
  · dsimp only
    rw [if_neg e]
    rw [atKey_put_other (fun h => e (ByteArray.ext (Array.toList_inj.mp (by simpa using h))))]
    exact h3 t
/-- .. in a world that grew from w0. -/
def FB (w0 w : World) (b n : Nat) (f : ByteArray → Int) : Prop := FMap w b n f ∧ Below w0.heap.size w0 w ∧ w0.heap.size ≤ b
theorem wpList_fput {w0 : World} {ops : Array Oper} {rest : List Oper} {o : Oper} {a : Act} {Q : Exit → Act → World → Prop} {w : World} (hgd : o.guard = none) (m x v : Operand) (ho : o.op = .insert 111 m x v)
    (b n : Nat) (f : ByteArray → Int) (s : ByteArray) (g : Nat) (hm : a.eval m = .map (some b)) (hx : a.eval x = .string s) (hv : a.eval v = .func (.func g) #[] #[]) (h : FB w0 w b n f) (hn : n < maxLen) (hs : s.size ≤ maxLen) (hg : 0 < g)
    (hk : ∀ w', FB w0 w' b (n + 1) (fun t => if t = s then (g : Int) else f t) → wpList Tryd.prog ops Q rest (a.put o.dst undef) w') : wpList Tryd.prog ops Q (o :: rest) a w := by
  refine wpList_plain hgd fun K hK => ?_
  obtain ⟨⟨D, h1, h2, h3⟩, hb, hle⟩ := h
  obtain ⟨w', hrun, r1, r2⟩ := h1.update slaw Tryd.underlying111 hn (keyOf_string_mk (P := Tryd.prog) Tryd.underlying9 hs) (show fe (.func (.func g) #[] #[]) = some (.lit (.int .i64 (g : Int)), []) by unfold fe; simp [hg])
  have hfin := hk w' ⟨FMap.put h2 h3 r1, hb.grown r2 hb.size (fun z e => by cases e; exact hle), hle⟩
  unfold Oper.wp
  simp [execOp, ho, hm, hx, hv, hrun, Result.andThen, Oper.upon]
  exact hK _ _ hfin
/-- The readers by their words. -/
def rdF : ByteArray → Int := fun t => if t = ⟨#[111, 117, 116, 112, 117, 116]⟩ then 78 else if t = ⟨#[108, 97, 116, 99, 104]⟩ then 77 else if t = ⟨#[109, 117, 120]⟩ then 76 else if t = ⟨#[103, 97, 116, 101]⟩ then 75 else if t = ⟨#[105, 110, 112, 117, 116]⟩ then 74 else 0
set_option maxRecDepth 100000 in
set_option maxHeartbeats 4000000 in
theorem readers_any (w : World) : Calls Tryd.prog 59 #[] w fun e w' => ∃ bm, e = .returned (.map (some bm)) ∧ FMap w' bm 5 rdF ∧ Below w.heap.size w w' := by
  have hM : FB w (w.alloc (.map #[] 0)) w.heap.size 0 (fun _ => 0) := ⟨FMap.made w, below1 w _, Nat.le_refl _⟩
  have hMK : Sem.run Tryd.prog (Instr.makeMap 111 none) w = .ok (.map (some w.heap.size)) (w.alloc (.map #[] 0)) := by simp [Instr.makeMap, run_underlying Tryd.underlying111, asInt, go_sem]
  go_enter Tryd.func59, Tryd.ntmps59
  go_wp2_with (refine wpList_fput rfl _ _ _ rfl w.heap.size _ _ _ _ rfl rfl rfl (by assumption) (by unfold maxLen; omega) (by unfold maxLen; decide) (by decide) ?_; intro w' hM')
  go_ret
  exact ⟨w.heap.size, rfl, hM'.1, hM'.2.1⟩
/-- What one line's first word does. -/
noncomputable def St.body (st : St) (tx : ByteArray) : St :=
  if st.begun = false then { (({ st with begun := true } : St).take nameB).2 with name := (({ st with begun := true } : St).take nameB).1.text }
  else if tx.toList = [101, 110, 100] then { st with ended := true }
  else if tx.toList = [105, 110, 112, 117, 116] then st.input
  else if tx.toList = [103, 97, 116, 101] then st.gate
  else if tx.toList = [109, 117, 120] then st.mux
  else if tx.toList = [108, 97, 116, 99, 104] then st.latch
  else st.output
/-- Words behind the last. -/
def St.tail (st : St) : St := match st.words[st.next.toNat]? with | none => st | some x => st.fail 140 x.col
def rwB (tx : ByteArray) : Bool := decide (tx.toList = [105, 110, 112, 117, 116]) || decide (tx.toList = [103, 97, 116, 101]) || decide (tx.toList = [109, 117, 120]) || decide (tx.toList = [108, 97, 116, 99, 104]) || decide (tx.toList = [111, 117, 116, 112, 117, 116])
/-- Is a line of this word in its place? -/
def St.bad (st : St) (tx : ByteArray) : Bool := st.ended || (!st.begun && !decide (tx.toList = [99, 105, 114, 99, 117, 105, 116])) || (st.begun && !rwB tx && !decide (tx.toList = [101, 110, 100]))
noncomputable def St.readW (st : St) (y : Wd) : St :=
  if st.bad y.text = true then st.fail 140 y.col
  else if st.begun = true ∧ y.text.toList ≠ [101, 110, 100] ∧ st.full y.text = true then st.fail 8 y.col
  else (st.body y.text).tail
noncomputable def St.read (st : St) : St := match st.words with | [] => st | y :: _ => ({ st with next := 1 } : St).readW y
theorem text_eq {s : ByteArray} {l : List UInt8} : s = ⟨l.toArray⟩ ↔ s.toList = l := by
  rw [Lib.toList_data]
  constructor
  · rintro rfl; simp
  · intro h
    apply ByteArray.ext
    apply Array.toList_inj.1
    simpa using h
theorem rdF_eq (tx : ByteArray) : rdF tx = if tx.toList = [111, 117, 116, 112, 117, 116] then 78 else if tx.toList = [108, 97, 116, 99, 104] then 77 else if tx.toList = [109, 117, 120] then 76 else if tx.toList = [103, 97, 116, 101] then 75 else if tx.toList = [105, 110, 112, 117, 116] then 74 else 0 := by
  unfold rdF
  have e1 : (tx = ⟨#[111, 117, 116, 112, 117, 116]⟩) ↔ tx.toList = [111, 117, 116, 112, 117, 116] := text_eq
  have e2 : (tx = ⟨#[108, 97, 116, 99, 104]⟩) ↔ tx.toList = [108, 97, 116, 99, 104] := text_eq
  have e3 : (tx = ⟨#[109, 117, 120]⟩) ↔ tx.toList = [109, 117, 120] := text_eq
  have e4 : (tx = ⟨#[103, 97, 116, 101]⟩) ↔ tx.toList = [103, 97, 116, 101] := text_eq
  have e5 : (tx = ⟨#[105, 110, 112, 117, 116]⟩) ↔ tx.toList = [105, 110, 112, 117, 116] := text_eq
  simp only [e1, e2, e3, e4, e5]
section
variable {w : World} {base b : Nat} {st st' : St} {x : Ex}
theorem PS.setOwn (h : PS w base b st x) (c : Nat) (v : Value) (hc : (cellsS st x).set c v = cellsS st' x) (h1 : st'.gs = st.gs) (h2 : st'.outs = st.outs) (h3 : st'.words = st.words) (h3' : st'.wA = st.wA) (h4 : st'.f = st.f) (h5 : st'.spots = st.spots) (h6 : st'.uses = st.uses) (h7 : st'.places = st.places) : Did w base b st' x (w.setCell ⟨b, c, none⟩ v) := by
  obtain ⟨hB, hP⟩ := h
  have hon := only_setCell (only_refl w (some b)) (p := ⟨b, c, none⟩) (.inl rfl) v
  exact ⟨⟨Lib.hid (by have := hB.out.set_ c v; rwa [hc] at this), Lib.hid ((hP.out.own hB.out hon).as h1 h2 h3 h3' h4 h5 h6 h7)⟩, (Below.refl base w).grown hon (Nat.le_trans hP.out.bb (Nat.le_of_lt hB.out.lt)) (fun z e => by cases e; exact hP.out.bb), KeepT.own hB.out hon⟩
theorem PS.cellAt (h : PS w base b st x) (c : Nat) {v : Value} (hc : (cellsS st x)[c]? = some v) : w.cell? ⟨b, c, none⟩ = some v ∧ w.frozen? ⟨b, c, none⟩ = false := ⟨(h.1.out.cell c).trans hc, h.1.out.frozen c⟩
end
theorem eql_nil (w : World) : Sem.run Tryd.prog (binOp BinOp.eql 110 .nilFunc .nilFunc) w = .ok (.bool true) w := by kernel_rfl
theorem eql_fun (g : Nat) (w : World) : Sem.run Tryd.prog (binOp BinOp.eql 110 (.func (.func g) #[] #[]) .nilFunc) w = .ok (.bool false) w := by kernel_rfl
theorem field0 (tn : ByteArray) (tk : Int) (w : World) : Sem.run Tryd.prog (Instr.field 109 (.agg #[.string tn, .int .i64 tk]) 0) w = .ok (.string tn) w := by kernel_rfl
theorem StOk.begun {st : St} (h : StOk st) (v : Bool) : StOk ({ st with begun := v } : St) := ⟨h.nx0, h.nx1, h.wl, h.ws⟩
theorem add_ok {st : St} (h : StOk st) (g : Gt) : StOk (st.add g) := ⟨h.nx0, h.nx1, h.wl, h.ws⟩
theorem input_ok {st : St} (h : StOk st) : StOk st.input := add_ok (own_ok h) _
theorem mux_ok {st : St} (h : StOk st) : StOk st.mux := add_ok (used_ok (own_ok h) _ _) _
theorem gate_ok {st : St} (h : StOk st) : StOk st.gate := add_ok (used_ok ((own_ok h).take opB) _ _) _
theorem latch_ok {st : St} (h : StOk st) : StOk st.latch := add_ok (used_ok ((own_ok h).take bitB) _ _) _
theorem output_ok {st : St} (h : StOk st) : StOk st.output := used_ok (st := { st with outs := st.outs ++ [0] }) ⟨h.nx0, h.nx1, h.wl, h.ws⟩ _ _
theorem body_ok {st : St} (h : StOk st) (tx : ByteArray) : StOk (st.body tx) := by
  unfold St.body
  split
  · have h1 := (h.begun true).take nameB
    exact ⟨h1.nx0, h1.nx1, h1.wl, h1.ws⟩
  · split
    · exact ⟨h.nx0, h.nx1, h.wl, h.ws⟩
    · split
      · exact input_ok h
      · split
        · exact gate_ok h
        · split
          · exact mux_ok h
          · split
            · exact latch_ok h
            · exact output_ok h
theorem StB.gfull {st : St} (h : StB st) {s : ByteArray} (hs : s.toList ≠ [111, 117, 116, 112, 117, 116]) (hf : st.full s = false) : st.gs.length < 65536 := by
  unfold St.full at hf
  rw [if_neg hs] at hf
  simpa using hf
theorem StB.ofull {st : St} (h : StB st) {s : ByteArray} (hs : s.toList = [111, 117, 116, 112, 117, 116]) (hf : st.full s = false) : st.outs.length < 65536 := by
  unfold St.full at hf
  rw [if_pos hs] at hf
  simpa using hf
set_option maxRecDepth 100000 in
set_option maxHeartbeats 8000000 in
theorem read_any (base b : Nat) (st : St) (x : Ex) (w : World) (h : PS w base b st x) (hk : StOk st) (hb : StB st) (hw : 0 < st.words.length) (ho : ∀ W, Below base w W → OpsAt W 0) :
    Calls Tryd.prog 39 #[.pointer (some ⟨b, 0, none⟩)] w fun e w' => e = .returned (.tuple #[]) ∧ ∃ x', Did w base b st.read x' w' := by
  obtain ⟨⟨tx, tc⟩, hy⟩ : ∃ y, st.words[0]? = some y := ⟨_, List.getElem?_eq_getElem hw⟩
  have hread : st.read = ({ st with next := 1 } : St).readW ⟨tx, tc⟩ := by
    unfold St.read
    cases hws : st.words with
    | nil => rw [hws] at hw; simp at hw
    | cons z l => rw [hws] at hy; simp at hy; subst hy; rfl
  have hts : tx.size ≤ 4000000 := hk.ws _ (List.mem_of_getElem? hy)
  obtain ⟨gW, hA, hc0, hc1⟩ := h.2.out.words.at_ hy
  rw [Nat.zero_mul] at hc0 hc1
  dsimp only at hc0 hc1
  have c6 : w.cell? ⟨b, 6, none⟩ = some (.slice (some ⟨gW, 0, none⟩) st.words.length st.wC) := by rw [← hA]; exact (h.1.out.cell 6).trans rfl
  have D1 := Lib.hid ((Did.refl h).alloc (.cells #[.string tx, .int .i64 tc] 109))
  have HW1 := Lib.hid (Blk.new w 109 [.string tx, .int .i64 tc])
  have hw0 : (0 : Int) < (st.words.length : Int) := by omega
  have hb0 := h.size.2
  have HK := Lib.hid hk
  have HBD := Lib.hid hb
  have HO := Lib.hid ho
  have HREAD := Lib.hid hread
  clear h hk hb ho hread hw hA hy
  go_enter Tryd.func39, Tryd.ntmps39
  go_upto_region 1 with (fail)
  change Code.wp _ _ _ _ (w.alloc (.cells #[.string tx, .int .i64 tc] 109))
  clear c6 hc0 hc1 hw0
  generalize w.alloc (.cells #[.string tx, .int .i64 tc] 109) = W1 at *
  obtain ⟨bW, hbW⟩ : ∃ bW, w.heap.size = bW := ⟨_, rfl⟩
  rw [hbW] at HW1 ⊢
  rw [hbW] at hb0
  have D2 := Lib.hid (D1.out.trans (D1.out.1.next 1))
  have hB1 := D1.out.1.1
  have z7 : W1.cell? ⟨b, 7, none⟩ = some (.int .i64 st.next) := (hB1.out.cell 7).trans rfl
  have f7 := hB1.out.frozen 7
  have HW2 := Lib.hid (HW1.out.grown (only_setCell (only_refl W1 (some b)) (p := ⟨b, 7, none⟩) (.inl rfl) (.int .i64 1)) (fun e => by have := Option.some.inj e; omega))
  clear hB1 HW1 D1 hbW
  go_upto_region 2 with (fail)
  change Code.wp _ _ _ _ (W1.setCell ⟨b, 7, none⟩ (.int .i64 1))
  clear z7 f7
  generalize W1.setCell ⟨b, 7, none⟩ (.int .i64 1) = W2 at *
  refine regionL 3 (fun W => W.cell? ⟨bW, 0, none⟩ = some (.string tx)) (by kernel_rfl) ?_
  have D3 := Lib.hid D2.out.drew
  have HW3 : Hid (Blk W2.drew bW 109 [.string tx, .int .i64 tc]) := Lib.hid HW2.out
  have HF0 : Hid (W2.drew.cell? ⟨bW, 0, none⟩ = some (.string tx)) := Lib.hid ((HW2.out.cell 0).trans rfl)
  clear D2 HW2
  generalize W2.drew = W3 at *
  have hrd := readers_any W3
  refine takeL0 (i := 1) (v := ?v1r) rfl (by kernel_rfl) (by kernel_rfl) (by kernel_rfl) (by kernel_rfl) (by decide) (fun _ _ _ h => h) (by rfl) ?y1r (Or.inr HF0.out) ?r1r
  case y1r => (intro w; go_simp; (try with_reducible rfl))
  try simp only [Act.put, List.setIfInBounds_toArray, List.set_cons_zero, List.set_cons_succ]
  refine takeL (i := 2) (v := ?v2r) rfl (by kernel_rfl) (by kernel_rfl) (by kernel_rfl) (by kernel_rfl) (by kernel_rfl) (by decide) (fun _ _ _ h => h) (by rfl) ?y2r HF0.out ?r2r
  case y2r => (intro w hSw; (try dsimp only at hSw); obtain q0 := hSw; go_simp; (try with_reducible rfl))
  try simp only [Act.put, List.setIfInBounds_toArray, List.set_cons_zero, List.set_cons_succ]
  refine callL (i := 0) rfl (by kernel_rfl) (by rfl) ?_
  intro K hK
  go_simp
  go_at_call 59
  with_reducible refine hrd.mono ?_
  rintro e w4 ⟨bm, rfl, hM, hb4⟩
  have D4 := Lib.hid (D3.out.below hb4)
  have HW4 := Lib.hid (HW3.out.self hb4)
  have HF4 : Hid (w4.cell? ⟨bW, 0, none⟩ = some (.string tx)) := Lib.hid ((HW4.out.cell 0).trans rfl)
  obtain ⟨v, hrun, hv⟩ := hM.look (s := tx) (by unfold maxLen; omega)
  clear hb4 hM HW3 D3
  refine hK.out _ _ (Or.inr HF4.out) (fun _ => ?_)
  clear hK K
  try simp only [Act.put, List.setIfInBounds_toArray, List.set_cons_zero, List.set_cons_succ]
  refine callL (i := 3) rfl (by kernel_rfl) (by rfl) ?_
  intro K hK
  go_simp
  refine hK.out _ _ (Or.inl (by kernel_rfl)) (fun _ => ?_)
  clear hK K
  try simp only [Act.put, List.setIfInBounds_toArray, List.set_cons_zero, List.set_cons_succ]
  refine takeL0 (i := 4) (v := ?v4r) rfl (by kernel_rfl) (by kernel_rfl) (by kernel_rfl) (by kernel_rfl) (by decide) (fun _ _ _ h => h) (by rfl) ?y4r (Or.inl (by kernel_rfl)) ?r4r
  case y4r => (intro w; go_simp; (try with_reducible rfl))
  try simp only [Act.put, List.setIfInBounds_toArray, List.set_cons_zero, List.set_cons_succ]
  refine doneL (by kernel_rfl) ?_ _
  have HK0 : Hid (StOk ({ st with next := 1 } : St)) := Lib.hid ⟨by show (0 : Int) ≤ 1; omega, by show (1 : Int) ≤ 4000000; omega, HK.out.wl, HK.out.ws⟩
  have HB0 : Hid (StB ({ st with next := 1 } : St)) := Lib.hid ⟨HBD.out.sp, HBD.out.pl, HBD.out.us, HBD.out.gl, HBD.out.ol⟩
  generalize ({ st with next := 1 } : St) = s0 at *
  have c3 : w4.cell? ⟨b, 3, none⟩ = some (.bool s0.begun) := (D4.out.1.1.out.cell 3).trans rfl
  have c4 : w4.cell? ⟨b, 4, none⟩ = some (.bool s0.ended) := (D4.out.1.1.out.cell 4).trans rfl
  have y0 : w4.cell? ⟨bW, 0, none⟩ = some (.string tx) := (HW4.out.cell 0).trans rfl
  have y1 : w4.cell? ⟨bW, 1, none⟩ = some (.int .i64 tc) := (HW4.out.cell 1).trans rfl
  clear HF0 HF4 hrd HK HBD hrun
  have HW := Lib.hid HW4
  have hfl := fail_any base b s0 x 140 tc w4 D4.out.1
  have hfu := full_any base b s0 x tx w4 D4.out.1 (by have := HB0.out.gl; omega) (by have := HB0.out.ol; omega)
  go_upto_block 0 with (fail)
  go_cut [] from 17 to 83 (fun wx => Hid (s0.readW ⟨tx, tc⟩ = (s0.body tx).tail) ∧ Hid (∃ x1, Did w base b (s0.body tx) x1 wx))
  case first =>
    cases he : s0.ended
    · rw [he] at c4
      cases hbg : s0.begun
      · rw [hbg] at c3
        by_cases hci : tx.toList = [99, 105, 114, 99, 117, 105, 116]
        · have hci2 : (tx.toList == [99, 105, 114, 99, 117, 105, 116]) = true := by rw [hci]; rfl
          have f3 := (D4.out.1.cellAt 3 (v := .bool s0.begun) rfl).2
          have D5 := Lib.hid (D4.out.trans (D4.out.1.setOwn (st' := { s0 with begun := true }) 3 (.bool true) rfl rfl rfl rfl rfl rfl rfl rfl rfl))
          have hct := fun (wx : World) (hx : PS wx base b { s0 with begun := true } x) => take_name base b { s0 with begun := true } x wx hx (HK0.out.begun true)
          have HX : Hid (s0.readW ⟨tx, tc⟩ = (s0.body tx).tail) := Lib.hid (by unfold St.readW St.bad; simp [he, hbg, hci])
          have HY : Hid (s0.body tx = { (({ s0 with begun := true } : St).take nameB).2 with name := (({ s0 with begun := true } : St).take nameB).1.text }) := Lib.hid (by unfold St.body; simp [hbg])
          obtain ⟨t, ht⟩ : ∃ t, ({ s0 with begun := true } : St).take nameB = t := ⟨_, rfl⟩
          rw [ht] at HY hct
          obtain ⟨⟨tn, tk⟩, s1⟩ := t
          dsimp only at hct HY
          clear ht hfl hfu D4 HW4 HW he hbg
          go_upto_region 10 with (fail)
          change Code.wp _ _ _ _ (w4.setCell ⟨b, 3, none⟩ (.bool true))
          clear c3 c4 y0 y1 f3
          generalize w4.setCell ⟨b, 3, none⟩ (.bool true) = W5 at *
          have hct' := hct W5 D5.out.1
          clear hct
          go_wp2_with (go_at_call 61; with_reducible refine hct'.mono ?_; rintro e w6 ⟨rfl, hd6⟩; obtain ⟨z0, f0⟩ := hd6.ps.cellAt 0 rfl; have hfd := field0 tn tk w6)
          go_meet
          exact ⟨HX, Lib.hid ⟨x, by rw [HY.out]; exact (D5.out.trans hd6).trans (hd6.ps.setOwn (st' := { s1 with name := tn }) 0 (.string tn) rfl rfl rfl rfl rfl rfl rfl rfl rfl)⟩⟩
        · have hci2 : (tx.toList == [99, 105, 114, 99, 117, 105, 116]) = false := by simpa using hci
          have HX : Hid (st.read = s0.fail 140 tc) := Lib.hid (by rw [HREAD.out]; unfold St.readW St.bad; simp [he, hbg, hci])
          go_wp2_with (go_at_call 60; with_reducible refine hfl.mono ?_; rintro e w5 ⟨rfl, hd5⟩)
          refine bodyPost_ret (results_none rfl _ _ _) rfl ?_
          exact ⟨rfl, _, by rw [HX.out]; exact D4.out.trans hd5⟩
      · rw [hbg] at c3
        by_cases hen : tx.toList = [101, 110, 100]
        · have hen2 : (tx.toList == [101, 110, 100]) = true := by rw [hen]; rfl
          have f4 := (D4.out.1.cellAt 4 (v := .bool s0.ended) rfl).2
          have D5 := Lib.hid (D4.out.trans (D4.out.1.setOwn (st' := { s0 with ended := true }) 4 (.bool true) rfl rfl rfl rfl rfl rfl rfl rfl rfl))
          have HX : Hid (s0.readW ⟨tx, tc⟩ = (s0.body tx).tail) := Lib.hid (by unfold St.readW St.bad; simp [he, hbg, hen])
          have HY : Hid (s0.body tx = { s0 with ended := true }) := Lib.hid (by unfold St.body; simp [hbg, hen])
          have hr0 : rdF tx = 0 := by rw [rdF_eq, hen]; rfl
          obtain rfl : v = .nilFunc := by
            rcases hv with ⟨_, h⟩ | ⟨g, h1, h2, _⟩
            · exact h
            · omega
          clear hfl hfu D4 HW4 HW he hbg hv hr0
          have e41 := eql_nil w4
          go_wp2
          go_meet
          exact ⟨HX, Lib.hid ⟨x, by rw [HY.out]; exact D5.out⟩⟩
        · have hen2 : (tx.toList == [101, 110, 100]) = false := by simpa using hen
          by_cases hwd : rwB tx = true
          · rw [rdF_eq] at hv
            have hfu' := hfu
            by_cases hkinput : tx.toList = [105, 110, 112, 117, 116]
            · have hk := hkinput
              obtain rfl : v = .func (.func 74) #[] #[] := by
                rw [hk] at hv
                simp at hv
                rcases hv with ⟨g, _, h2, rfl⟩
                have : g = 74 := by omega
                rw [this]
              have HY : Hid (s0.body tx = s0.input) := Lib.hid (by unfold St.body; simp [hbg, hk])
              cases hf : s0.full tx
              · rw [hf] at hfu
                have HX : Hid (s0.readW ⟨tx, tc⟩ = (s0.body tx).tail) := Lib.hid (by unfold St.readW St.bad; simp [he, hbg, hwd, hf])
                have hct := input_any base b s0 x w4 D4.out.1 HK0.out HB0.out (HB0.out.gfull (by rw [hk]; decide) hf)
                clear hfl hv he hbg hwd hf hk hkinput hfu'
                have e41 := eql_fun 74 w4
                go_wp2_with (first | (go_at_call 62; with_reducible refine hfu.mono ?_; rintro e w5 ⟨rfl, rfl⟩) | (go_at_call 74; with_reducible refine hct.mono ?_; rintro e w6 ⟨rfl, x6, hd6⟩))
                go_meet
                exact ⟨HX, Lib.hid ⟨x6, by rw [HY.out]; exact D4.out.trans hd6⟩⟩
              · rw [hf] at hfu
                have hfl8 := fail_any base b s0 x 8 tc w4 D4.out.1
                have HX : Hid (st.read = s0.fail 8 tc) := Lib.hid (by rw [HREAD.out]; unfold St.readW St.bad; simp [he, hbg, hwd, hen, hf])
                clear hfl hv he hbg hwd hf hk hkinput hfu'
                have e41 := eql_fun 74 w4
                go_wp2_with (first | (go_at_call 62; with_reducible refine hfu.mono ?_; rintro e w5 ⟨rfl, rfl⟩) | (go_at_call 60; with_reducible refine hfl8.mono ?_; rintro e w5 ⟨rfl, hd5⟩))
                refine bodyPost_ret (results_none rfl _ _ _) rfl ?_
                exact ⟨rfl, _, by rw [HX.out]; exact D4.out.trans hd5⟩
            by_cases hkgate : tx.toList = [103, 97, 116, 101]
            · have hk := hkgate
              obtain rfl : v = .func (.func 75) #[] #[] := by
                rw [hk] at hv
                simp at hv
                rcases hv with ⟨g, _, h2, rfl⟩
                have : g = 75 := by omega
                rw [this]
              have HY : Hid (s0.body tx = s0.gate) := Lib.hid (by unfold St.body; simp [hbg, hk])
              cases hf : s0.full tx
              · rw [hf] at hfu
                have HX : Hid (s0.readW ⟨tx, tc⟩ = (s0.body tx).tail) := Lib.hid (by unfold St.readW St.bad; simp [he, hbg, hwd, hf])
                have hct := gate_any base b s0 x w4 D4.out.1 HK0.out HB0.out (HB0.out.gfull (by rw [hk]; decide) hf) (fun W hW => HO.out W (D4.out.2.1.trans hW))
                clear hfl hv he hbg hwd hf hk hkgate hfu'
                have e41 := eql_fun 75 w4
                go_wp2_with (first | (go_at_call 62; with_reducible refine hfu.mono ?_; rintro e w5 ⟨rfl, rfl⟩) | (go_at_call 75; with_reducible refine hct.mono ?_; rintro e w6 ⟨rfl, x6, hd6⟩))
                go_meet
                exact ⟨HX, Lib.hid ⟨x6, by rw [HY.out]; exact D4.out.trans hd6⟩⟩
              · rw [hf] at hfu
                have hfl8 := fail_any base b s0 x 8 tc w4 D4.out.1
                have HX : Hid (st.read = s0.fail 8 tc) := Lib.hid (by rw [HREAD.out]; unfold St.readW St.bad; simp [he, hbg, hwd, hen, hf])
                clear hfl hv he hbg hwd hf hk hkgate hfu'
                have e41 := eql_fun 75 w4
                go_wp2_with (first | (go_at_call 62; with_reducible refine hfu.mono ?_; rintro e w5 ⟨rfl, rfl⟩) | (go_at_call 60; with_reducible refine hfl8.mono ?_; rintro e w5 ⟨rfl, hd5⟩))
                refine bodyPost_ret (results_none rfl _ _ _) rfl ?_
                exact ⟨rfl, _, by rw [HX.out]; exact D4.out.trans hd5⟩
            by_cases hkmux : tx.toList = [109, 117, 120]
            · have hk := hkmux
              obtain rfl : v = .func (.func 76) #[] #[] := by
                rw [hk] at hv
                simp at hv
                rcases hv with ⟨g, _, h2, rfl⟩
                have : g = 76 := by omega
                rw [this]
              have HY : Hid (s0.body tx = s0.mux) := Lib.hid (by unfold St.body; simp [hbg, hk])
              cases hf : s0.full tx
              · rw [hf] at hfu
                have HX : Hid (s0.readW ⟨tx, tc⟩ = (s0.body tx).tail) := Lib.hid (by unfold St.readW St.bad; simp [he, hbg, hwd, hf])
                have hct := mux_any base b s0 x w4 D4.out.1 HK0.out HB0.out (HB0.out.gfull (by rw [hk]; decide) hf)
                clear hfl hv he hbg hwd hf hk hkmux hfu'
                have e41 := eql_fun 76 w4
                go_wp2_with (first | (go_at_call 62; with_reducible refine hfu.mono ?_; rintro e w5 ⟨rfl, rfl⟩) | (go_at_call 76; with_reducible refine hct.mono ?_; rintro e w6 ⟨rfl, x6, hd6⟩))
                go_meet
                exact ⟨HX, Lib.hid ⟨x6, by rw [HY.out]; exact D4.out.trans hd6⟩⟩
              · rw [hf] at hfu
                have hfl8 := fail_any base b s0 x 8 tc w4 D4.out.1
                have HX : Hid (st.read = s0.fail 8 tc) := Lib.hid (by rw [HREAD.out]; unfold St.readW St.bad; simp [he, hbg, hwd, hen, hf])
                clear hfl hv he hbg hwd hf hk hkmux hfu'
                have e41 := eql_fun 76 w4
                go_wp2_with (first | (go_at_call 62; with_reducible refine hfu.mono ?_; rintro e w5 ⟨rfl, rfl⟩) | (go_at_call 60; with_reducible refine hfl8.mono ?_; rintro e w5 ⟨rfl, hd5⟩))
                refine bodyPost_ret (results_none rfl _ _ _) rfl ?_
                exact ⟨rfl, _, by rw [HX.out]; exact D4.out.trans hd5⟩
            by_cases hklatch : tx.toList = [108, 97, 116, 99, 104]
            · have hk := hklatch
              obtain rfl : v = .func (.func 77) #[] #[] := by
                rw [hk] at hv
                simp at hv
                rcases hv with ⟨g, _, h2, rfl⟩
                have : g = 77 := by omega
                rw [this]
              have HY : Hid (s0.body tx = s0.latch) := Lib.hid (by unfold St.body; simp [hbg, hk])
              cases hf : s0.full tx
              · rw [hf] at hfu
                have HX : Hid (s0.readW ⟨tx, tc⟩ = (s0.body tx).tail) := Lib.hid (by unfold St.readW St.bad; simp [he, hbg, hwd, hf])
                have hct := latch_any base b s0 x w4 D4.out.1 HK0.out HB0.out (HB0.out.gfull (by rw [hk]; decide) hf)
                clear hfl hv he hbg hwd hf hk hklatch hfu'
                have e41 := eql_fun 77 w4
                go_wp2_with (first | (go_at_call 62; with_reducible refine hfu.mono ?_; rintro e w5 ⟨rfl, rfl⟩) | (go_at_call 77; with_reducible refine hct.mono ?_; rintro e w6 ⟨rfl, x6, hd6⟩))
                go_meet
                exact ⟨HX, Lib.hid ⟨x6, by rw [HY.out]; exact D4.out.trans hd6⟩⟩
              · rw [hf] at hfu
                have hfl8 := fail_any base b s0 x 8 tc w4 D4.out.1
                have HX : Hid (st.read = s0.fail 8 tc) := Lib.hid (by rw [HREAD.out]; unfold St.readW St.bad; simp [he, hbg, hwd, hen, hf])
                clear hfl hv he hbg hwd hf hk hklatch hfu'
                have e41 := eql_fun 77 w4
                go_wp2_with (first | (go_at_call 62; with_reducible refine hfu.mono ?_; rintro e w5 ⟨rfl, rfl⟩) | (go_at_call 60; with_reducible refine hfl8.mono ?_; rintro e w5 ⟨rfl, hd5⟩))
                refine bodyPost_ret (results_none rfl _ _ _) rfl ?_
                exact ⟨rfl, _, by rw [HX.out]; exact D4.out.trans hd5⟩
            by_cases hkoutput : tx.toList = [111, 117, 116, 112, 117, 116]
            · have hk := hkoutput
              obtain rfl : v = .func (.func 78) #[] #[] := by
                rw [hk] at hv
                simp at hv
                rcases hv with ⟨g, _, h2, rfl⟩
                have : g = 78 := by omega
                rw [this]
              have HY : Hid (s0.body tx = s0.output) := Lib.hid (by unfold St.body; simp [hbg, hk])
              cases hf : s0.full tx
              · rw [hf] at hfu
                have HX : Hid (s0.readW ⟨tx, tc⟩ = (s0.body tx).tail) := Lib.hid (by unfold St.readW St.bad; simp [he, hbg, hwd, hf])
                have hct := output_any base b s0 x w4 D4.out.1 HK0.out HB0.out (HB0.out.ofull hk hf)
                clear hfl hv he hbg hwd hf hk hkoutput hfu'
                have e41 := eql_fun 78 w4
                go_wp2_with (first | (go_at_call 62; with_reducible refine hfu.mono ?_; rintro e w5 ⟨rfl, rfl⟩) | (go_at_call 78; with_reducible refine hct.mono ?_; rintro e w6 ⟨rfl, x6, hd6⟩))
                go_meet
                exact ⟨HX, Lib.hid ⟨x6, by rw [HY.out]; exact D4.out.trans hd6⟩⟩
              · rw [hf] at hfu
                have hfl8 := fail_any base b s0 x 8 tc w4 D4.out.1
                have HX : Hid (st.read = s0.fail 8 tc) := Lib.hid (by rw [HREAD.out]; unfold St.readW St.bad; simp [he, hbg, hwd, hen, hf])
                clear hfl hv he hbg hwd hf hk hkoutput hfu'
                have e41 := eql_fun 78 w4
                go_wp2_with (first | (go_at_call 62; with_reducible refine hfu.mono ?_; rintro e w5 ⟨rfl, rfl⟩) | (go_at_call 60; with_reducible refine hfl8.mono ?_; rintro e w5 ⟨rfl, hd5⟩))
                refine bodyPost_ret (results_none rfl _ _ _) rfl ?_
                exact ⟨rfl, _, by rw [HX.out]; exact D4.out.trans hd5⟩
            exfalso
            unfold rwB at hwd
            simp only [Bool.or_eq_true, decide_eq_true_eq] at hwd
            rcases hwd with (((hwd | hwd) | hwd) | hwd) | hwd
            · exact hkinput hwd
            · exact hkgate hwd
            · exact hkmux hwd
            · exact hklatch hwd
            · exact hkoutput hwd
          · have hr0 : rdF tx = 0 := by
              rw [rdF_eq]
              unfold rwB at hwd
              simp only [Bool.or_eq_true, decide_eq_true_eq, not_or] at hwd
              rw [if_neg hwd.2, if_neg hwd.1.2, if_neg hwd.1.1.2, if_neg hwd.1.1.1.2, if_neg hwd.1.1.1.1]
            obtain rfl : v = .nilFunc := by
              rcases hv with ⟨_, h⟩ | ⟨g, h1, h2, _⟩
              · exact h
              · omega
            have hwd2 : rwB tx = false := by simpa using hwd
            have HX : Hid (st.read = s0.fail 140 tc) := Lib.hid (by rw [HREAD.out]; unfold St.readW St.bad; simp [he, hbg, hwd2, hen])
            clear hwd hwd2 hr0 hv he hbg
            have e41 := eql_nil w4
            go_wp2_with (go_at_call 60; with_reducible refine hfl.mono ?_; rintro e w5 ⟨rfl, hd5⟩)
            refine bodyPost_ret (results_none rfl _ _ _) rfl ?_
            exact ⟨rfl, _, by rw [HX.out]; exact D4.out.trans hd5⟩
    · rw [he] at c4
      have HX : Hid (st.read = s0.fail 140 tc) := Lib.hid (by rw [HREAD.out]; unfold St.readW St.bad; simp [he])
      go_wp2_with (go_at_call 60; with_reducible refine hfl.mono ?_; rintro e w5 ⟨rfl, hd5⟩)
      refine bodyPost_ret (results_none rfl _ _ _) rfl ?_
      exact ⟨rfl, _, by rw [HX.out]; exact D4.out.trans hd5⟩
  case rest =>
    obtain ⟨HX, HD⟩ := hcut
    obtain ⟨s1, hs1⟩ : ∃ s, s0.body tx = s := ⟨_, rfl⟩
    have HK1 : Hid (StOk s1) := Lib.hid (hs1 ▸ body_ok HK0.out tx)
    rw [hs1] at HX HD
    have HR : Hid (st.read = s1.tail) := Lib.hid (HREAD.out.trans HX.out)
    obtain ⟨x1, D⟩ := HD.out
    have HD1 := Lib.hid D
    have c6 : wc.cell? ⟨b, 6, none⟩ = some (.slice s1.wA s1.words.length s1.wC) := (D.1.1.out.cell 6).trans rfl
    have c7 : wc.cell? ⟨b, 7, none⟩ = some (.int .i64 s1.next) := (D.1.1.out.cell 7).trans rfl
    obtain ⟨q, hq⟩ : ∃ q : Nat, s1.next = (q : Int) := ⟨s1.next.toNat, by have := HK1.out.nx0; omega⟩
    rw [hq] at c7
    have HQ : Hid (s1.next.toNat = q) := Lib.hid (by omega)
    have hqm : q ≤ 4000000 := by have := HK1.out.nx1; omega
    clear hq D HD HX HREAD hs1 hv y0 y1 c3 c4 hfl hfu D4 HW4 HW
    by_cases hlt : q < s1.words.length
    · obtain ⟨z, hz⟩ : ∃ z, s1.words[q]? = some z := ⟨_, List.getElem?_eq_getElem hlt⟩
      have HT : Hid (s1.tail = s1.fail 140 z.col) := Lib.hid (by unfold St.tail; rw [HQ.out, hz])
      obtain ⟨gZ, hA, hz0, hz1⟩ := HD1.out.1.2.out.words.at_ hz
      obtain ⟨L, hL⟩ : ∃ L, s1.words.length = L := ⟨_, rfl⟩
      rw [hA, hL] at c6
      rw [hL] at hlt
      have hlt2 : (q : Int) < (L : Int) := by omega
      have hq0 : (0 : Int) ≤ (q : Int) := by omega
      obtain ⟨zc, hzc⟩ : ∃ c, z.col = c := ⟨_, rfl⟩
      rw [hzc] at hz1 HT
      have HFW : Hid (wc.cell? ⟨b, 6, none⟩ = some (.slice (some ⟨gZ, 0, none⟩) L s1.wC) ∧ wc.cell? ⟨b, 7, none⟩ = some (.int .i64 q) ∧ wc.cell? ⟨gZ, q * 2 + 1, none⟩ = some (.int .i64 zc)) := Lib.hid ⟨c6, c7, hz1⟩
      clear hz hA hz0 hL hzc
      go_upto_region 15 with (fail)
      go_quiet (fail)
      have D2 := Lib.hid (HD1.out.drewN nq)
      have HF2 : Hid ((wc.drewN nq).cell? ⟨b, 6, none⟩ = some (.slice (some ⟨gZ, 0, none⟩) L s1.wC) ∧ (wc.drewN nq).cell? ⟨b, 7, none⟩ = some (.int .i64 q) ∧ (wc.drewN nq).cell? ⟨gZ, q * 2 + 1, none⟩ = some (.int .i64 zc)) := Lib.hid HFW.out
      clear c6 c7 hz1 HFW HD1
      generalize wc.drewN nq = W8 at *
      go_upto_region 16 with (fail)
      refine regionL 12 (fun W => W.cell? ⟨b, 6, none⟩ = some (.slice (some ⟨gZ, 0, none⟩) L s1.wC) ∧ W.cell? ⟨b, 7, none⟩ = some (.int .i64 q) ∧ W.cell? ⟨gZ, q * 2 + 1, none⟩ = some (.int .i64 zc)) (by kernel_rfl) ?_
      have D9 := Lib.hid D2.out.drew
      have HF9 : Hid (W8.drew.cell? ⟨b, 6, none⟩ = some (.slice (some ⟨gZ, 0, none⟩) L s1.wC) ∧ W8.drew.cell? ⟨b, 7, none⟩ = some (.int .i64 q) ∧ W8.drew.cell? ⟨gZ, q * 2 + 1, none⟩ = some (.int .i64 zc)) := Lib.hid HF2.out
      clear D2 HF2
      generalize W8.drew = W9 at *
      have hfl9 := fail_any base b s1 x1 140 zc W9 D9.out.1
      refine takeL0 (i := 0) (v := ?v0z) rfl (by kernel_rfl) (by kernel_rfl) (by kernel_rfl) (by kernel_rfl) (by decide) (fun _ _ _ h => h) (by rfl) ?y0z (Or.inr HF9.out) ?r0z
      case y0z => (intro w; go_simp; (try with_reducible rfl))
      try simp only [Act.put, List.setIfInBounds_toArray, List.set_cons_zero, List.set_cons_succ]
      refine takeL0 (i := 1) (v := ?v1z) rfl (by kernel_rfl) (by kernel_rfl) (by kernel_rfl) (by kernel_rfl) (by decide) (fun _ _ _ h => h) (by rfl) ?y1z (Or.inr HF9.out) ?r1z
      case y1z => (intro w; go_simp; (try with_reducible rfl))
      try simp only [Act.put, List.setIfInBounds_toArray, List.set_cons_zero, List.set_cons_succ]
      refine takeL0 (i := 2) (v := ?v2z) rfl (by kernel_rfl) (by kernel_rfl) (by kernel_rfl) (by kernel_rfl) (by decide) (fun _ _ _ h => h) (by rfl) ?y2z (Or.inr HF9.out) ?r2z
      case y2z => (intro w; go_simp; (try with_reducible rfl))
      try simp only [Act.put, List.setIfInBounds_toArray, List.set_cons_zero, List.set_cons_succ]
      refine takeL0 (i := 3) (v := ?v3z) rfl (by kernel_rfl) (by kernel_rfl) (by kernel_rfl) (by kernel_rfl) (by decide) (fun _ _ _ h => h) (by rfl) ?y3z (Or.inr HF9.out) ?r3z
      case y3z => (intro w; go_simp; (try with_reducible rfl))
      try simp only [Act.put, List.setIfInBounds_toArray, List.set_cons_zero, List.set_cons_succ]
      refine takeL (i := 4) (v := ?v4z) rfl (by kernel_rfl) (by kernel_rfl) (by kernel_rfl) (by kernel_rfl) (by kernel_rfl) (by decide) (fun _ _ _ h => h) (by rfl) ?y4z HF9.out ?r4z
      case y4z => (intro w hSw; (try dsimp only at hSw); obtain ⟨q0, q1, q2⟩ := hSw; go_simp; (try with_reducible rfl))
      try simp only [Act.put, List.setIfInBounds_toArray, List.set_cons_zero, List.set_cons_succ]
      refine takeL0 (i := 5) (v := ?v5z) rfl (by kernel_rfl) (by kernel_rfl) (by kernel_rfl) (by kernel_rfl) (by decide) (fun _ _ _ h => h) (by rfl) ?y5z (Or.inr HF9.out) ?r5z
      case y5z => (intro w; go_simp; (try with_reducible rfl))
      try simp only [Act.put, List.setIfInBounds_toArray, List.set_cons_zero, List.set_cons_succ]
      refine takeL0 (i := 6) (v := ?v6z) rfl (by kernel_rfl) (by kernel_rfl) (by kernel_rfl) (by kernel_rfl) (by decide) (fun _ _ _ h => h) (by rfl) ?y6z (Or.inr HF9.out) ?r6z
      case y6z => (intro w; go_simp; (try with_reducible rfl))
      try simp only [Act.put, List.setIfInBounds_toArray, List.set_cons_zero, List.set_cons_succ]
      refine takeL0 (i := 7) (v := ?v7z) rfl (by kernel_rfl) (by kernel_rfl) (by kernel_rfl) (by kernel_rfl) (by decide) (fun _ _ _ h => h) (by rfl) ?y7z (Or.inr HF9.out) ?r7z
      case y7z => (intro w; go_simp; (try with_reducible rfl))
      try simp only [Act.put, List.setIfInBounds_toArray, List.set_cons_zero, List.set_cons_succ]
      refine takeL (i := 8) (v := ?v8z) rfl (by kernel_rfl) (by kernel_rfl) (by kernel_rfl) (by kernel_rfl) (by kernel_rfl) (by decide) (fun _ _ _ h => h) (by rfl) ?y8z HF9.out ?r8z
      case y8z => (intro w hSw; (try dsimp only at hSw); obtain ⟨q0, q1, q2⟩ := hSw; go_simp; (try with_reducible rfl))
      try simp only [Act.put, List.setIfInBounds_toArray, List.set_cons_zero, List.set_cons_succ]
      refine takeL0 (i := 9) (v := ?v9z) rfl (by kernel_rfl) (by kernel_rfl) (by kernel_rfl) (by kernel_rfl) (by decide) (fun _ _ _ h => h) (by rfl) ?y9z (Or.inr HF9.out) ?r9z
      case y9z => (intro w; go_simp; (try with_reducible rfl))
      try simp only [Act.put, List.setIfInBounds_toArray, List.set_cons_zero, List.set_cons_succ]
      refine takeL0 (i := 10) (v := ?v10z) rfl (by kernel_rfl) (by kernel_rfl) (by kernel_rfl) (by kernel_rfl) (by decide) (fun _ _ _ h => h) (by rfl) ?y10z (Or.inr HF9.out) ?r10z
      case y10z => (intro w; go_simp; (try with_reducible rfl))
      try simp only [Act.put, List.setIfInBounds_toArray, List.set_cons_zero, List.set_cons_succ]
      refine takeL (i := 11) (v := ?v11z) rfl (by kernel_rfl) (by kernel_rfl) (by kernel_rfl) (by kernel_rfl) (by kernel_rfl) (by decide) (fun _ _ _ h => h) (by rfl) ?y11z HF9.out ?r11z
      case y11z => (intro w hSw; (try dsimp only at hSw); obtain ⟨q0, q1, q2⟩ := hSw; go_simp; (try with_reducible rfl))
      try simp only [Act.put, List.setIfInBounds_toArray, List.set_cons_zero, List.set_cons_succ]
      refine callL (i := 12) rfl (by kernel_rfl) (by rfl) ?_
      intro K hK
      go_simp
      go_at_call 60
      with_reducible refine hfl9.mono ?_
      rintro e w10 ⟨rfl, hd9⟩
      refine hK.out _ _ (Or.inl (by kernel_rfl)) (fun _ => ?_)
      clear hK K
      try simp only [Act.put, List.setIfInBounds_toArray, List.set_cons_zero, List.set_cons_succ]
      refine doneL (by kernel_rfl) ?_ _
      go_wp2
      go_end0
      exact ⟨rfl, x1, by rw [HR.out, HT.out]; exact D9.out.trans hd9⟩
    · have HT : Hid (s1.tail = s1) := Lib.hid (by unfold St.tail; rw [HQ.out, List.getElem?_eq_none (by omega)])
      have hlt2 : ¬ (q : Int) < (s1.words.length : Int) := by omega
      go_upto_region 15 with (fail)
      go_quiet (fail)
      have D2 := Lib.hid (HD1.out.drewN nq)
      clear c6 c7 HD1
      go_wp2
      go_end0
      exact ⟨rfl, x1, by rw [HR.out, HT.out]; exact D2.out⟩
end Go.Proofs.YtjkmoahnociaiaaDoor
