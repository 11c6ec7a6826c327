/- Aids of no one program: frames, boxed arrays, the row's last step for a law that changes nothing that came in. -/
import Derived.Test.YtjkmoahnociaiaaDoorRows
import Derived.WalkKit
import Derived.WalkSpells
import Derived.WalkLawsBesides
import Derived.ProofKit
import Derived.OpenShut
import Derived.Deep.LoopGhost
import Derived.Deep.QuietTactic
import Derived.BigQuiet
import Derived.Deep.RegionHeld3
import Derived.Deep.Cut
import Derived.Deep.CutRange
import Derived.LoopN
import Derived.Lib.Hide
namespace Go.Proofs.YtjkmoahnociaiaaDoor
open Go.RowKit Go.WideShapes Go.ChangeShapes

theorem ret_bool {a b : Bool} (h : a = b) : Ending.returned (.bool a) = .returned (.bool b) := by rw [h]
theorem ret_int {k : IntKind} {a b : Int} (h : a = b) : Ending.returned (.int k a) = .returned (.int k b) := by rw [h]
theorem results_tmp4 {fn : Func} {t u v x : Tmp} (h : fn.results = #[.tmp t, .tmp u, .tmp v, .tmp x]) (tmps : Array Value) (P : Program) (w : World) :
    (results fn tmps).run P w = .ok (.tuple #[tmps.getD t undef, tmps.getD u undef, tmps.getD v undef, tmps.getD x undef]) w := by simp [results, h]
theorem results_tmp5 {fn : Func} {t u v x y : Tmp} (h : fn.results = #[.tmp t, .tmp u, .tmp v, .tmp x, .tmp y]) (tmps : Array Value) (P : Program) (w : World) :
    (results fn tmps).run P w = .ok (.tuple #[tmps.getD t undef, tmps.getD u undef, tmps.getD v undef, tmps.getD x undef, tmps.getD y undef]) w := by simp [results, h]
theorem below1 (w : World) (o : Obj) : Below w.heap.size w (w.alloc o) := (Below.refl _ _).alloc (Nat.le_refl _) _
theorem below2 (w : World) (o p : Obj) : Below w.heap.size w ((w.alloc o).alloc p) := ((Below.refl _ _).alloc (Nat.le_refl _) _).alloc (by simp) _
theorem below3 (w : World) (o p q : Obj) : Below w.heap.size w (((w.alloc o).alloc p).alloc q) := (below2 w o p).alloc (by simp; omega) _
theorem below_drewN {B : Nat} {a w : World} (h : Below B a w) (n : Nat) : Below B a (w.drewN n) := ⟨h.os, h.tape, h.output, h.size, h.block⟩
/-- Two steps, the second one behind the first's blocks. -/
theorem below_then {B : Nat} {w w1 w2 : World} (h : Below B w w1) (hB : B ≤ w1.heap.size) (k : Below w1.heap.size w1 w2) : Below B w w2 := h.trans (k.mono hB)
theorem below_self {w w1 w2 : World} (h : Below w.heap.size w w1) (k : Below w1.heap.size w1 w2) : Below w.heap.size w w2 := below_then h h.size k
theorem bcell {W w1 : World} (hb : Below W.heap.size W w1) : (∀ b o, b < W.heap.size → w1.cell? ⟨b, o, none⟩ = W.cell? ⟨b, o, none⟩) ∧ (∀ b o, b < W.heap.size → w1.frozen? ⟨b, o, none⟩ = W.frozen? ⟨b, o, none⟩) :=
  ⟨fun b o h => hb.cell (p := ⟨b, o, none⟩) h, fun b o h => hb.frozen (p := ⟨b, o, none⟩) h⟩
theorem cell_kept {w w1 : World} (h : Below w.heap.size w w1) {a : Addr} {v : Value} (hc : w.cell? a = some v) : w1.cell? a = some v := (h.cell (World.block_lt_of_cell? w a hc)).trans hc

/-- What a region's loads lean on: what lay there when it began lies there. -/
def Stays (W w : World) : Prop := (∀ b o, b < W.heap.size → w.cell? ⟨b, o, none⟩ = W.cell? ⟨b, o, none⟩) ∧ Hid (Below W.heap.size W w)
theorem stays_refl (W : World) : Stays W W := ⟨fun _ _ _ => rfl, Below.refl _ _⟩
theorem stays_drew (W : World) : Stays W W.drew := ⟨fun _ _ _ => rfl, (Below.refl _ _).drew⟩
theorem Stays.then {W w w1 : World} (h : Stays W w) (k : Below w.heap.size w w1) : Stays W w1 :=
  have hb : Below W.heap.size W w1 := h.2.out.trans (k.mono h.2.out.size)
  ⟨fun b o hlt => hb.cell (p := ⟨b, o, none⟩) hlt, hb⟩
theorem Stays.below {W w : World} (h : Stays W w) : Below W.heap.size W w := h.2.out

theorem cell?_setCell_self (w : World) (a : Addr) (v : Value) : (w.setCell a v).cell? a = (w.cell? a).map fun _ => v := by
  simp only [World.cell?, World.setCell, Array.getElem?_modify]
  cases w.heap[a.block]? with
  | none => simp
  | some o =>
    cases o <;> simp
    split
    · simp_all
    · rename_i cs _ _ h
      simp at h
      simp [h, Array.getElem?_setIfInBounds]
      split <;> simp_all

/-! ### arrays by value -/
theorem run_equalIn_arr4 {P : Program} {t e : TypeId} (w : World) (d : Nat) (x0 x1 x2 x3 y0 y1 y2 y3 : Value) (b0 b1 b2 b3 : Bool) (ht : P.underlying t = some (.array 4 e))
    (hs : (sizeOf e).run P w = .ok 1 w) (ha : (isAgg e).run P w = .ok false w)
    (h0 : (Op.equalIn d e x0 y0).run P w = .ok b0 w) (h1 : (Op.equalIn d e x1 y1).run P w = .ok b1 w) (h2 : (Op.equalIn d e x2 y2).run P w = .ok b2 w) (h3 : (Op.equalIn d e x3 y3).run P w = .ok b3 w) :
    (Op.equalIn (d + 1) t (.agg #[x0, x1, x2, x3]) (.agg #[y0, y1, y2, y3])).run P w = .ok (b0 && b1 && b2 && b3) w := by
  simp only [Op.equalIn, Sem.run_bind, run_underlying ht, Result.andThen_ok, hs]
  rw [Std.Legacy.Range.forIn_eq_forIn_range']
  simp [List.range', List.forIn_cons, part, ha, h0, h1, h2, h3, go_sem, Std.Legacy.Range.size]
  cases b0 <;> cases b1 <;> cases b2 <;> cases b3 <;> simp [go_sem, h1, h2, h3, ha, part]
/-- An array by value, indexed: elements of one cell. -/
theorem run_index_agg {P : Program} {t e : TypeId} {n : Nat} {cs : Array Value} {k : IntKind} {i : Int} {v : Value} (w : World) (h : P.underlying t = some (.array n e))
    (ha : (isAgg e).run P w = .ok false w) (hs : (sizeOf e).run P w = .ok 1 w) (h0 : 0 ≤ i) (h1 : i < n) (hv : cs[i.toNat]? = some v) :
    (Instr.index t (.agg cs) (.int k i)).run P w = .ok v w := by
  simp [Instr.index, run_underlying h, asIntOf, h0, h1, part, ha, hs, hv, go_sem]

/-- Four cells of a block. -/
def At4 (w : World) (b : Nat) (v0 v1 v2 v3 : Value) : Prop := w.cell? ⟨b, 0, none⟩ = some v0 ∧ w.cell? ⟨b, 1, none⟩ = some v1 ∧ w.cell? ⟨b, 2, none⟩ = some v2 ∧ w.cell? ⟨b, 3, none⟩ = some v3
theorem at4_new (w : World) (v0 v1 v2 v3 : Value) (t : TypeId) : At4 (w.alloc (.cells #[v0, v1, v2, v3] t)) w.heap.size v0 v1 v2 v3 := by
  unfold At4; simp [go_sem]
theorem At4.kept {w w1 : World} {b : Nat} {v0 v1 v2 v3 : Value} (hw : At4 w b v0 v1 v2 v3) (h : Below w.heap.size w w1) : At4 w1 b v0 v1 v2 v3 := ⟨cell_kept h hw.1, cell_kept h hw.2.1, cell_kept h hw.2.2.1, cell_kept h hw.2.2.2⟩
theorem At4.alloc {w : World} {b : Nat} {v0 v1 v2 v3 : Value} (hw : At4 w b v0 v1 v2 v3) (o : Obj) : At4 (w.alloc o) b v0 v1 v2 v3 := hw.kept (below1 w o)
theorem At4.lt {w : World} {b : Nat} {v0 v1 v2 v3 : Value} (hw : At4 w b v0 v1 v2 v3) : b < w.heap.size := World.block_lt_of_cell? w _ hw.1

/-! ### what came in reads as it did -/
section
variable {H : Type} {enc : TypeId × Value → H} {P : Program}
theorem trodAll_stays (hl : laidOutB P = true) {W W' : World} (hb : Below W.heap.size W W') {sp : Nat → Bool} : ∀ (ts : List TypeId) (vs : List Value) (ds : List (DataW H)) (ps : List MemPlace),
    (∀ t ∈ ts, P.readableRec t = true ∧ t < P.types.size) → DataW.TrodAll enc P W 0 (fun _ => true) true ts vs ds ps → (∀ x ∈ ps, x.block < W.heap.size) → (∀ x ∈ ps, sp x.block = true) → DataW.TrodAll enc P W' 0 sp true ts vs ds ps
  | [], [], [], _, _, h, _, _ => h
  | t :: ts, v :: vs, d :: ds, ps, hr, h, hlt, hsp => by
    obtain ⟨p, q, h1, h2, rfl⟩ := h
    exact ⟨p, q, WideElems.Trod_stays hl (hr t (by simp)).1 (hr t (by simp)).2 h1 (fun x hx => hb.same (hlt x (by simp [hx]))) (fun x hx => hsp x (by simp [hx])),
      trodAll_stays hl hb ts vs ds q (fun u hu => hr u (by simp [hu])) h2 (fun x hx => hlt x (by simp [hx])) (fun x hx => hsp x (by simp [hx])), rfl⟩
  | [], [], _ :: _, _, _, h, _, _ => h.elim
  | [], _ :: _, _, _, _, h, _, _ => by cases ‹List (DataW H)› <;> exact h.elim
  | _ :: _, [], _, _, _, h, _, _ => by cases ‹List (DataW H)› <;> exact h.elim
  | _ :: _, _ :: _, [], _, _, h, _, _ => h.elim

/-- The row's last step, of a law: it answered true, and of what was there nothing has turned. -/
theorem law_post {f : Func} {s : ChangeSpec} {W W' : World} {args : Array Value} {ds gs : List (DataW H)} {before : List MemPlace} {tb : TypeId}
    (hW : DataW.Whole enc P f.params.toList s.vars false W args.toList ds gs before) (hv : s.vars = []) (hfn : s.fn H ds = { results := [.lit (.bool true)], args := ds })
    (hres : f.resultTypes = #[tb]) (hu : P.underlying tb = some .bool) (hl : laidOutB P = true) (hr : ∀ t ∈ f.params.toList, P.readableRec t = true ∧ t < P.types.size)
    (hb : Below W.heap.size W W') : s.post enc P f false true false false W args (.bool true) W' := by
  have hlt : ∀ p ∈ before, p.block < W.heap.size := fun p hp => hW.lt p hp
  have hold : ∀ p ∈ before, (fun b => decide (b < W.heap.size)) p.block = true := fun p hp => by simpa using hlt p hp
  have hW0 := hW
  obtain ⟨p, q, hA, hV, rfl, hz, hn⟩ := hW
  rw [hv] at hV
  have hgq : gs = [] ∧ q = [] := by
    cases gs with
    | nil => exact ⟨rfl, hV⟩
    | cons g gs => exact hV.elim
  obtain ⟨rfl, rfl⟩ := hgq
  simp only [List.append_nil] at *
  have hargs : ∀ sp : Nat → Bool, (∀ x ∈ p, sp x.block = true) → DataW.TrodAll enc P W' 0 sp true f.params.toList args.toList ds p := fun sp hsp => trodAll_stays hl hb _ _ _ _ hr hA hlt hsp
  have hres' : ∀ (b : Nat) (sp : Nat → Bool) (hd : Bool), DataW.TrodAll enc P W' b sp hd f.resultTypes.toList ((Value.bool true).resultList f.resultTypes.size) [.lit (.bool true)] [] := fun b sp hd => by
    rw [hres]
    exact trodAll_cons_mk (shut_bool hu _) trodAll_mk0
  have hok : ∀ (j : Nat) (t : TypeId) (r : Value), f.resultTypes[j]? = some t → ((Value.bool true).resultList f.resultTypes.size)[j]? = some r → Value.okWide P W' .any 0 t r := ok_one hres rfl (okWide_bool_mk hu _)
  refine ⟨ds, [], p, [], p, [], hW0, ?_, ?_, ?_, World.keptBut_mono (fun x hx => ⟨hx, Or.inr (by simpa using hx)⟩) (hb.frame (· ∈ p)), fun _ => ⟨hok, ?_⟩⟩
  · simp only [List.append_nil, hfn]; exact hres' _ _ _
  · simp only [List.append_nil, hfn]; exact hargs _ hold
  · simp only [hv, List.append_nil, hfn]; exact rfl
  · refine ⟨[.lit (.bool true)] ++ ds, [], ([] ++ p), ⟨[] ++ p, [], ?_, ?_, by simp, ?_, fun h => by cases h⟩, fun x hx _ => by simpa using hx⟩
    · exact trodAll_append (hargs (fun _ => true) (fun _ _ => rfl)) (hres' 0 (fun _ => true) true)
    · rw [hv]; exact rfl
    · intro b off hp
      simp only [List.nil_append] at hp
      rw [hb.frozen (hlt _ hp)]
      exact hz b off hp

/-! ### opening -/
/-- An array of four whole numbers. -/
theorem open_arr4 {W : World} {base : Nat} {spare : Nat → Bool} {held : Bool} {t e : TypeId} {k : IntKind} {v : Value} {d : DataW H} {ps : List MemPlace} (ht : P.underlying t = some (.array 4 e)) (he : P.underlying e = some (.int k)) (hce : P.cellsOf e = 1) (hct : P.cellsOf t = 4)
    {r : Reach} {b : Nat} (hv : Value.okWide P W r b t v) (h : DataW.Trod enc P W base spare held t v d ps) :
    ∃ z0 z1 z2 z3 : Int, v = .agg #[.int k z0, .int k z1, .int k z2, .int k z3] ∧ d = .agg [.lit (.int k z0), .lit (.int k z1), .lit (.int k z2), .lit (.int k z3)] ∧ ps = [] ∧ (Lit.int k z0).wf = true ∧ (Lit.int k z1).wf = true ∧ (Lit.int k z2).wf = true ∧ (Lit.int k z3).wf = true := by
  unfold Value.okWide at hv
  rw [ht] at hv
  obtain ⟨cs, rfl, hsz, _⟩ := hv
  obtain ⟨l⟩ := cs
  obtain ⟨fuel, hf⟩ := h
  match l, hsz.trans hct with
  | [c0, c1, c2, c3], _ =>
    obtain ⟨y0, y1, y2, y3, n, hx, h0, h1, h2, h3⟩ := trod_array4 ht hce hf
    obtain ⟨z0, e0, r0, w0⟩ := DataW.trod_int he h0
    obtain ⟨z1, e1, r1, w1⟩ := DataW.trod_int he h1
    obtain ⟨z2, e2, r2, w2⟩ := DataW.trod_int he h2
    obtain ⟨z3, e3, r3, w3⟩ := DataW.trod_int he h3
    simp only [List.cons.injEq, and_true] at e0 e1 e2 e3
    subst e0 e1 e2 e3 r0 r1 r2 r3
    simp only [Prod.mk.injEq, List.append_nil] at hx
    exact ⟨z0, z1, z2, z3, rfl, hx.1, hx.2, w0, w1, w2, w3⟩
end
end Go.Proofs.YtjkmoahnociaiaaDoor
