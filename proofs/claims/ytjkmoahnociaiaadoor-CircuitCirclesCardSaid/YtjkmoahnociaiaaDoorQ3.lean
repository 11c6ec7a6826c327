/- The reader: add. -/
import Derived.Test.YtjkmoahnociaiaaDoorQ2
namespace Go.Proofs.YtjkmoahnociaiaaDoor
open Go.RowKit Go.WideMaps Go.Maps

section
variable {w w1 : World} {base b : Nat} {st : St} {x : Ex}
theorem KeepT.of_map {bm n : Nat} {f : ByteArray → Int} (hm : MapIs w bm n f) (hg : w.grownBy w1 (some bm)) : KeepT w w1 := fun g t l hB _ => hB.grown hg (fun e => by
  have h1 := Option.some.inj e
  subst h1
  exact hm.not_typed hB.typed)
/-- A name's place is laid. -/
theorem PS.mapput (h : PS w base b st x) {f' : ByteArray → Int} (hm : MapIs w1 x.bm (x.nm + 1) f') (hg : w.grownBy w1 (some x.bm)) (hgl : x.nm + 1 ≤ st.gs.length) : Did w base b { st with f := f' } { x with nm := x.nm + 1 } w1 := by
  obtain ⟨hB, hP⟩ := h
  have hk := KeepT.of_map hP.out.map hg
  have hB1 : Blk w1 b 79 (cellsS st x) := hB.out.grown hg (fun e => hP.out.ne (Option.some.inj e).symm)
  refine ⟨⟨Lib.hid hB1, Lib.hid ⟨⟨fun i r hi => ?_, hP.out.hold.2⟩, hm, hP.out.mb, hP.out.bb, hP.out.ne, hgl, hP.out.uses, hk.words hP.out.words⟩⟩, (Below.refl base w).grown hg (Nat.le_trans hP.out.bb (Nat.le_of_lt hB.out.lt)) (fun z e => by cases e; exact hP.out.mb), hk⟩
  have hr := hP.out.hold.1 i r hi
  refine World.ownsRow.kept hr hg ?_
  rcases hv : r.v.ownBlock with _ | g
  · exact .inl rfl
  · refine .inr fun e => ?_
    have h1 := Option.some.inj e
    subst h1
    exact hP.out.map.not_typed (rows_typed hr hv)
end
/-! ## add -/
def St.add (st : St) (g : Gt) : St := { st with gs := st.gs ++ [g], f := fun t => if t = g.name then ((st.gs.length + 1 : Nat) : Int) else st.f t }
set_option maxRecDepth 100000 in
set_option maxHeartbeats 8000000 in
theorem padd_any (base b : Nat) (st : St) (x : Ex) (g : Gt) (w : World) (h : PS w base b st x) (hgl : st.gs.length ≤ 100000) (hns : g.name.size ≤ maxLen) :
    Calls Tryd.prog 87 #[.pointer (some ⟨b, 0, none⟩), .agg #[.int .i64 g.kind, .string g.name, .int .i64 g.op, .int .i64 g.a, .int .i64 g.b, .int .i64 g.c]] w fun e w' => e = .returned (.tuple #[]) ∧ ∃ vG, Did w base b (st.add g) { x with vG := vG, nm := x.nm + 1 } w' := by
  obtain ⟨kd, nm, op, a, b2, cx⟩ := g
  dsimp only at *
  have D4 := Lib.hid ((Did.refl h).alloc (.cells #[.int .i64 kd, .string nm, .int .i64 op, .int .i64 a, .int .i64 b2, .int .i64 cx] 46))
  have HG4 := Lib.hid (Blk.new w 46 [.int .i64 kd, .string nm, .int .i64 op, .int .i64 a, .int .i64 b2, .int .i64 cx])
  have HROW : Hid (∀ z, x.vG.ownBlock = some z → z < w.heap.size) := Lib.hid fun z e => (World.ownsRow.lt (h.2.out.hold.1 0 _ rfl) z e).2
  have HNM := Lib.hid h.2.out.nm
  have hadd : st.add ⟨kd, nm, op, a, b2, cx⟩ = { st with gs := st.gs ++ [(⟨kd, nm, op, a, b2, cx⟩ : Gt)], f := fun t => if t = nm then ((st.gs.length + 1 : Nat) : Int) else st.f t } := rfl
  obtain ⟨n, hn⟩ : ∃ n, st.gs.length = n := ⟨_, rfl⟩
  rw [hn] at hadd hgl
  rw [hn] at HNM
  have HAD := Lib.hid hadd
  clear h hadd
  go_enter Tryd.func87, Tryd.ntmps87
  go_upto_region 1 with (fail)
  change Code.wp _ _ _ _ (w.alloc (.cells #[.int .i64 kd, .string nm, .int .i64 op, .int .i64 a, .int .i64 b2, .int .i64 cx] 46))
  generalize w.alloc (.cells #[.int .i64 kd, .string nm, .int .i64 op, .int .i64 a, .int .i64 b2, .int .i64 cx] 46) = W4 at *
  obtain ⟨bg, hbg⟩ : ∃ bg, w.heap.size = bg := ⟨_, rfl⟩
  rw [hbg] at HG4 HROW ⊢
  clear hbg
  refine regionL 12 (fun W => W.cell? ⟨b, 1, none⟩ = some x.vG ∧ W.cell? ⟨bg, 0, none⟩ = some (.int .i64 kd) ∧ W.cell? ⟨bg, 1, none⟩ = some (.string nm) ∧ W.cell? ⟨bg, 2, none⟩ = some (.int .i64 op) ∧ W.cell? ⟨bg, 3, none⟩ = some (.int .i64 a) ∧ W.cell? ⟨bg, 4, none⟩ = some (.int .i64 b2) ∧ W.cell? ⟨bg, 5, none⟩ = some (.int .i64 cx)) (by kernel_rfl) ?_
  have D5 := Lib.hid D4.out.drew
  have HG5 : Hid (Blk W4.drew bg 46 [.int .i64 kd, .string nm, .int .i64 op, .int .i64 a, .int .i64 b2, .int .i64 cx]) := Lib.hid (HG4.out.self (below_drew0 (Below.refl _ _)))
  have hsz5 : W4.drew.heap.size = W4.heap.size := rfl
  clear D4 HG4
  generalize W4.drew = W5 at *
  have HFX : Hid (∀ W, Blk W b 79 (cellsS st x) → Blk W bg 46 [.int .i64 kd, .string nm, .int .i64 op, .int .i64 a, .int .i64 b2, .int .i64 cx] → W.cell? ⟨b, 1, none⟩ = some x.vG ∧ W.cell? ⟨bg, 0, none⟩ = some (.int .i64 kd) ∧ W.cell? ⟨bg, 1, none⟩ = some (.string nm) ∧ W.cell? ⟨bg, 2, none⟩ = some (.int .i64 op) ∧ W.cell? ⟨bg, 3, none⟩ = some (.int .i64 a) ∧ W.cell? ⟨bg, 4, none⟩ = some (.int .i64 b2) ∧ W.cell? ⟨bg, 5, none⟩ = some (.int .i64 cx)) := Lib.hid fun W h1 h2 => ⟨(h1.cell 1).trans rfl, (h2.cell 0).trans rfl, (h2.cell 1).trans rfl, (h2.cell 2).trans rfl, (h2.cell 3).trans rfl, (h2.cell 4).trans rfl, (h2.cell 5).trans rfl⟩
  have HF0 := Lib.hid (HFX.out W5 D5.out.1.1.out HG5.out)
  have hbl := below1 W5 (.cells #[.int .i64 kd, .string nm, .int .i64 op, .int .i64 a, .int .i64 b2, .int .i64 cx] 46)
  have D6 := Lib.hid (D5.out.alloc (.cells #[.int .i64 kd, .string nm, .int .i64 op, .int .i64 a, .int .i64 b2, .int .i64 cx] 46))
  have HG6 := Lib.hid (HG5.out.self hbl)
  have HF6 := Lib.hid (HFX.out _ D6.out.1.1.out HG6.out)
  have HC6 : Hid (CReads (W5.alloc (.cells #[.int .i64 kd, .string nm, .int .i64 op, .int .i64 a, .int .i64 b2, .int .i64 cx] 46)) (some ⟨W5.heap.size, 0, none⟩) (gcells [⟨kd, nm, op, a, b2, cx⟩])) := Lib.hid (CReads.of_blk (Blk.new W5 46 (gcells [⟨kd, nm, op, a, b2, cx⟩])))
  clear hbl
  refine takeL (i := 0) (v := ?v0p) rfl (by kernel_rfl) (by kernel_rfl) (by kernel_rfl) (by kernel_rfl) (by kernel_rfl) (by decide) (fun _ _ _ h => h) (by rfl) ?y0p HF0.out ?r0p
  case y0p => (intro w hSw; (try dsimp only at hSw); obtain ⟨q0, q1, q2, q3, q4, q5, q6⟩ := hSw; go_simp; (try with_reducible rfl))
  try simp only [Act.put, List.setIfInBounds_toArray, List.set_cons_zero, List.set_cons_succ]
  refine takeL (i := 1) (v := ?v1p) rfl (by kernel_rfl) (by kernel_rfl) (by kernel_rfl) (by kernel_rfl) (by kernel_rfl) (by decide) (fun _ _ _ h => h) (by rfl) ?y1p HF0.out ?r1p
  case y1p => (intro w hSw; (try dsimp only at hSw); obtain ⟨q0, q1, q2, q3, q4, q5, q6⟩ := hSw; go_simp; (try with_reducible rfl))
  try simp only [Act.put, List.setIfInBounds_toArray, List.set_cons_zero, List.set_cons_succ]
  refine takeL (i := 2) (v := ?v2p) rfl (by kernel_rfl) (by kernel_rfl) (by kernel_rfl) (by kernel_rfl) (by kernel_rfl) (by decide) (fun _ _ _ h => h) (by rfl) ?y2p HF0.out ?r2p
  case y2p => (intro w hSw; (try dsimp only at hSw); obtain ⟨q0, q1, q2, q3, q4, q5, q6⟩ := hSw; go_simp; (try with_reducible rfl))
  try simp only [Act.put, List.setIfInBounds_toArray, List.set_cons_zero, List.set_cons_succ]
  refine takeL (i := 3) (v := ?v3p) rfl (by kernel_rfl) (by kernel_rfl) (by kernel_rfl) (by kernel_rfl) (by kernel_rfl) (by decide) (fun _ _ _ h => h) (by rfl) ?y3p HF0.out ?r3p
  case y3p => (intro w hSw; (try dsimp only at hSw); obtain ⟨q0, q1, q2, q3, q4, q5, q6⟩ := hSw; go_simp; (try with_reducible rfl))
  try simp only [Act.put, List.setIfInBounds_toArray, List.set_cons_zero, List.set_cons_succ]
  refine takeL (i := 4) (v := ?v4p) rfl (by kernel_rfl) (by kernel_rfl) (by kernel_rfl) (by kernel_rfl) (by kernel_rfl) (by decide) (fun _ _ _ h => h) (by rfl) ?y4p HF0.out ?r4p
  case y4p => (intro w hSw; (try dsimp only at hSw); obtain ⟨q0, q1, q2, q3, q4, q5, q6⟩ := hSw; go_simp; (try with_reducible rfl))
  try simp only [Act.put, List.setIfInBounds_toArray, List.set_cons_zero, List.set_cons_succ]
  refine takeL (i := 5) (v := ?v5p) rfl (by kernel_rfl) (by kernel_rfl) (by kernel_rfl) (by kernel_rfl) (by kernel_rfl) (by decide) (fun _ _ _ h => h) (by rfl) ?y5p HF0.out ?r5p
  case y5p => (intro w hSw; (try dsimp only at hSw); obtain ⟨q0, q1, q2, q3, q4, q5, q6⟩ := hSw; go_simp; (try with_reducible rfl))
  try simp only [Act.put, List.setIfInBounds_toArray, List.set_cons_zero, List.set_cons_succ]
  refine takeL (i := 6) (v := ?v6p) rfl (by kernel_rfl) (by kernel_rfl) (by kernel_rfl) (by kernel_rfl) (by kernel_rfl) (by decide) (fun _ _ _ h => h) (by rfl) ?y6p HF0.out ?r6p
  case y6p => (intro w hSw; (try dsimp only at hSw); obtain ⟨q0, q1, q2, q3, q4, q5, q6⟩ := hSw; go_simp; (try with_reducible rfl))
  try simp only [Act.put, List.setIfInBounds_toArray, List.set_cons_zero, List.set_cons_succ]
  refine callL (i := 7) rfl (by kernel_rfl) (by rfl) ?_
  intro K hK
  go_simp
  refine hK.out _ _ (Or.inr HF6.out) (fun _ => ?_)
  clear hK K
  try simp only [Act.put, List.setIfInBounds_toArray, List.set_cons_zero, List.set_cons_succ]
  refine callL (i := 8) rfl (by kernel_rfl) (by rfl) ?_
  intro K hK
  refine oper_cells (.tmp 9) (.tmp 11) 22 rfl base 46 _ 6 56 Tryd.underlying22 info_gate rfl (by decide) x.vG st.gs.length (gcells st.gs) (by simp [Act.eval, Act.put]) (D6.out.1.2.out.hold.1 0 _ rfl) (some ⟨W5.heap.size, 0, none⟩) 1 1 (gcells [⟨kd, nm, op, a, b2, cx⟩]) (by simp [Act.eval, Act.put]) HC6.out rfl (fun u hu => gcells_one hu) (by unfold maxLen; omega) (by omega) (Nat.le_trans D6.out.1.size.1 (Nat.le_of_lt D6.out.1.size.2)) ?_
  intro v7 w7 hr7 hg7 hn7
  obtain ⟨A7, c7, e7, _⟩ := rows_cells hr7 (by decide)
  subst e7
  have hgr := PS.grow (st' := { st with gs := st.gs ++ [(⟨kd, nm, op, a, b2, cx⟩ : Gt)] }) (x' := { x with vG := (Value.slice A7 (st.gs.length + 1) c7) }) D6.out.1.1.out D6.out.1.2.out (i := 0) (c := 1) (r := ⟨46, 6, x.vG, st.gs.length, gcells st.gs⟩) (r' := ⟨46, 6, (Value.slice A7 (st.gs.length + 1) c7), (st.gs ++ [(⟨kd, nm, op, a, b2, cx⟩ : Gt)]).length, gcells (st.gs ++ [(⟨kd, nm, op, a, b2, cx⟩ : Gt)])⟩) rfl hg7 (by show w7.ownsRow base 46 6 (Value.slice A7 (st.gs.length + 1) c7) _ _; rw [gcells_append, List.length_append]; exact hr7) hn7 rfl rfl rfl rfl rfl rfl D6.out.1.2.out.uses (by rw [List.length_append]; omega) (show 46 ∈ [46, 3, 33, 115] by decide) rfl
  have HG7 : Hid (Blk w7 bg 46 [.int .i64 kd, .string nm, .int .i64 op, .int .i64 a, .int .i64 b2, .int .i64 cx]) := Lib.hid (HG6.out.grown hg7 (fun e => by
    have h1 := HROW.out _ e.symm
    omega))
  have HF7 := Lib.hid (HFX.out w7 hgr.1 HG7.out)
  have z1 : w7.cell? ⟨b, 1, none⟩ = some x.vG := (hgr.1.cell 1).trans rfl
  have f1 := hgr.1.frozen 1
  have DE := Lib.hid (D6.out.trans hgr.2)
  have HGE : Hid (Blk (w7.setCell ⟨b, 1, none⟩ (Value.slice A7 (st.gs.length + 1) c7)) bg 46 [.int .i64 kd, .string nm, .int .i64 op, .int .i64 a, .int .i64 b2, .int .i64 cx]) := Lib.hid (HG7.out.aside hgr.1.typed (show 46 ≠ 79 by decide) (only_setCell (only_refl w7 (some b)) (p := ⟨b, 1, none⟩) (.inl rfl) _))
  clear hgr hr7 hg7 hn7
  refine hK.out _ _ (Or.inr HF7.out) (fun _ => ?_)
  clear hK K
  try simp only [Act.put, List.setIfInBounds_toArray, List.set_cons_zero, List.set_cons_succ]
  refine takeL0 (i := 9) (v := ?v9p) rfl (by kernel_rfl) (by kernel_rfl) (by kernel_rfl) (by kernel_rfl) (by decide) (fun _ _ _ h => h) (by rfl) ?y9p (Or.inr HF7.out) ?r9p
  case y9p => (intro w; go_simp; (try with_reducible rfl))
  try simp only [Act.put, List.setIfInBounds_toArray, List.set_cons_zero, List.set_cons_succ]
  refine takeL0 (i := 10) (v := ?v10p) rfl (by kernel_rfl) (by kernel_rfl) (by kernel_rfl) (by kernel_rfl) (by decide) (fun _ _ _ h => h) (by rfl) ?y10p (Or.inr HF7.out) ?r10p
  case y10p => (intro w; go_simp; (try with_reducible rfl))
  try simp only [Act.put, List.setIfInBounds_toArray, List.set_cons_zero, List.set_cons_succ]
  refine takeL0 (i := 11) (v := ?v11p) rfl (by kernel_rfl) (by kernel_rfl) (by kernel_rfl) (by kernel_rfl) (by decide) (fun _ _ _ h => h) (by rfl) ?y11p (Or.inr HF7.out) ?r11p
  case y11p => (intro w; go_simp; (try with_reducible rfl))
  try simp only [Act.put, List.setIfInBounds_toArray, List.set_cons_zero, List.set_cons_succ]
  refine callL (i := 12) rfl (by kernel_rfl) (by rfl) ?_
  intro K hK
  go_simp
  refine hK.out _ _ (Or.inl (by kernel_rfl)) (fun _ => ?_)
  clear hK K
  try simp only [Act.put, List.setIfInBounds_toArray, List.set_cons_zero, List.set_cons_succ]
  refine doneL (by kernel_rfl) ?_ _
  (try rw [hn] at DE)
  (try rw [hn] at HGE)
  (try rw [hn])
  generalize w7.setCell ⟨b, 1, none⟩ (Value.slice A7 (n + 1) c7) = W8 at *
  clear HFX HF0 HF6 HF7 HC6 HG5 HG6 HG7 D5 D6 z1 f1 hsz5
  go_upto_region 2 with (fail)
  refine regionL 12 (fun W => W.cell? ⟨b, 12, none⟩ = some (.map (some x.bm)) ∧ W.cell? ⟨bg, 1, none⟩ = some (.string nm) ∧ W.cell? ⟨b, 1, none⟩ = some (.slice A7 (n + 1) c7)) (by kernel_rfl) ?_
  have DA := Lib.hid DE.out.drew
  have HGA : Hid (Blk W8.drew bg 46 [.int .i64 kd, .string nm, .int .i64 op, .int .i64 a, .int .i64 b2, .int .i64 cx]) := Lib.hid (HGE.out.self (below_drew0 (Below.refl _ _)))
  clear DE HGE
  generalize W8.drew = W9 at *
  have HF8 : Hid (W9.cell? ⟨b, 12, none⟩ = some (.map (some x.bm)) ∧ W9.cell? ⟨bg, 1, none⟩ = some (.string nm) ∧ W9.cell? ⟨b, 1, none⟩ = some (.slice A7 (n + 1) c7)) := Lib.hid ⟨(DA.out.1.1.out.cell 12).trans rfl, (HGA.out.cell 1).trans rfl, (DA.out.1.1.out.cell 1).trans rfl⟩
  refine takeL (i := 0) (v := ?v0q) rfl (by kernel_rfl) (by kernel_rfl) (by kernel_rfl) (by kernel_rfl) (by kernel_rfl) (by decide) (fun _ _ _ h => h) (by rfl) ?y0q HF8.out ?r0q
  case y0q => (intro w hSw; (try dsimp only at hSw); obtain ⟨q0, q1, q2⟩ := hSw; go_simp; (try with_reducible rfl))
  try simp only [Act.put, List.setIfInBounds_toArray, List.set_cons_zero, List.set_cons_succ]
  refine takeL (i := 1) (v := ?v1q) rfl (by kernel_rfl) (by kernel_rfl) (by kernel_rfl) (by kernel_rfl) (by kernel_rfl) (by decide) (fun _ _ _ h => h) (by rfl) ?y1q HF8.out ?r1q
  case y1q => (intro w hSw; (try dsimp only at hSw); obtain ⟨q0, q1, q2⟩ := hSw; go_simp; (try with_reducible rfl))
  try simp only [Act.put, List.setIfInBounds_toArray, List.set_cons_zero, List.set_cons_succ]
  refine takeL (i := 2) (v := ?v2q) rfl (by kernel_rfl) (by kernel_rfl) (by kernel_rfl) (by kernel_rfl) (by kernel_rfl) (by decide) (fun _ _ _ h => h) (by rfl) ?y2q HF8.out ?r2q
  case y2q => (intro w hSw; (try dsimp only at hSw); obtain ⟨q0, q1, q2⟩ := hSw; go_simp; (try with_reducible rfl))
  try simp only [Act.put, List.setIfInBounds_toArray, List.set_cons_zero, List.set_cons_succ]
  refine takeL (i := 3) (v := ?v3q) rfl (by kernel_rfl) (by kernel_rfl) (by kernel_rfl) (by kernel_rfl) (by kernel_rfl) (by decide) (fun _ _ _ h => h) (by rfl) ?y3q HF8.out ?r3q
  case y3q => (intro w hSw; (try dsimp only at hSw); obtain ⟨q0, q1, q2⟩ := hSw; go_simp; (try with_reducible rfl))
  try simp only [Act.put, List.setIfInBounds_toArray, List.set_cons_zero, List.set_cons_succ]
  refine takeL (i := 4) (v := ?v4q) rfl (by kernel_rfl) (by kernel_rfl) (by kernel_rfl) (by kernel_rfl) (by kernel_rfl) (by decide) (fun _ _ _ h => h) (by rfl) ?y4q HF8.out ?r4q
  case y4q => (intro w hSw; (try dsimp only at hSw); obtain ⟨q0, q1, q2⟩ := hSw; go_simp; (try with_reducible rfl))
  try simp only [Act.put, List.setIfInBounds_toArray, List.set_cons_zero, List.set_cons_succ]
  refine takeL (i := 5) (v := ?v5q) rfl (by kernel_rfl) (by kernel_rfl) (by kernel_rfl) (by kernel_rfl) (by kernel_rfl) (by decide) (fun _ _ _ h => h) (by rfl) ?y5q HF8.out ?r5q
  case y5q => (intro w hSw; (try dsimp only at hSw); obtain ⟨q0, q1, q2⟩ := hSw; go_simp; (try with_reducible rfl))
  try simp only [Act.put, List.setIfInBounds_toArray, List.set_cons_zero, List.set_cons_succ]
  refine takeL (i := 6) (v := ?v6q) rfl (by kernel_rfl) (by kernel_rfl) (by kernel_rfl) (by kernel_rfl) (by kernel_rfl) (by decide) (fun _ _ _ h => h) (by rfl) ?y6q HF8.out ?r6q
  case y6q => (intro w hSw; (try dsimp only at hSw); obtain ⟨q0, q1, q2⟩ := hSw; go_simp; (try with_reducible rfl))
  try simp only [Act.put, List.setIfInBounds_toArray, List.set_cons_zero, List.set_cons_succ]
  refine takeL (i := 7) (v := ?v7q) rfl (by kernel_rfl) (by kernel_rfl) (by kernel_rfl) (by kernel_rfl) (by kernel_rfl) (by decide) (fun _ _ _ h => h) (by rfl) ?y7q HF8.out ?r7q
  case y7q => (intro w hSw; (try dsimp only at hSw); obtain ⟨q0, q1, q2⟩ := hSw; go_simp; (try with_reducible rfl))
  try simp only [Act.put, List.setIfInBounds_toArray, List.set_cons_zero, List.set_cons_succ]
  refine takeL (i := 8) (v := ?v8q) rfl (by kernel_rfl) (by kernel_rfl) (by kernel_rfl) (by kernel_rfl) (by kernel_rfl) (by decide) (fun _ _ _ h => h) (by rfl) ?y8q HF8.out ?r8q
  case y8q => (intro w hSw; (try dsimp only at hSw); obtain ⟨q0, q1, q2⟩ := hSw; go_simp; (try with_reducible rfl))
  try simp only [Act.put, List.setIfInBounds_toArray, List.set_cons_zero, List.set_cons_succ]
  refine takeL (i := 9) (v := ?v9q) rfl (by kernel_rfl) (by kernel_rfl) (by kernel_rfl) (by kernel_rfl) (by kernel_rfl) (by decide) (fun _ _ _ h => h) (by rfl) ?y9q HF8.out ?r9q
  case y9q => (intro w hSw; (try dsimp only at hSw); obtain ⟨q0, q1, q2⟩ := hSw; go_simp; (try with_reducible rfl))
  try simp only [Act.put, List.setIfInBounds_toArray, List.set_cons_zero, List.set_cons_succ]
  refine takeL (i := 10) (v := ?v10q) rfl (by kernel_rfl) (by kernel_rfl) (by kernel_rfl) (by kernel_rfl) (by kernel_rfl) (by decide) (fun _ _ _ h => h) (by rfl) ?y10q HF8.out ?r10q
  case y10q => (intro w hSw; (try dsimp only at hSw); obtain ⟨q0, q1, q2⟩ := hSw; go_simp; (try with_reducible rfl))
  try simp only [Act.put, List.setIfInBounds_toArray, List.set_cons_zero, List.set_cons_succ]
  refine takeL (i := 11) (v := ?v11q) rfl (by kernel_rfl) (by kernel_rfl) (by kernel_rfl) (by kernel_rfl) (by kernel_rfl) (by decide) (fun _ _ _ h => h) (by rfl) ?y11q HF8.out ?r11q
  case y11q => (intro w hSw; (try dsimp only at hSw); obtain ⟨q0, q1, q2⟩ := hSw; go_simp; (try with_reducible rfl))
  try simp only [Act.put, List.setIfInBounds_toArray, List.set_cons_zero, List.set_cons_succ]
  refine callL (i := 12) rfl (by kernel_rfl) (by rfl) ?_
  intro K hK
  refine oper_mapput (.tmp 19) (.tmp 21) (.tmp 27) rfl x.bm x.nm st.f nm ((n + 1 : Nat) : Int) (by simp [Act.eval, Act.put]) (by simp [Act.eval, Act.put]) (by simp [Act.eval, Act.put]) DA.out.1.2.out.map (by have := HNM.out; unfold maxLen; omega) hns (WalkArith.wf_i64 (by omega)) ?_
  intro w10 hm10 hg10
  have DZ := Lib.hid (DA.out.trans (PS.mapput DA.out.1 hm10 hg10 (by have := HNM.out; show x.nm + 1 ≤ (st.gs ++ [(⟨kd, nm, op, a, b2, cx⟩ : Gt)]).length; rw [List.length_append, hn]; exact Nat.succ_le_succ this)))
  clear hm10 hg10
  refine hK.out _ _ (Or.inl (by kernel_rfl)) (fun _ => ?_)
  clear hK K
  try simp only [Act.put, List.setIfInBounds_toArray, List.set_cons_zero, List.set_cons_succ]
  refine doneL (by kernel_rfl) ?_ _
  go_wp2
  go_end0
  exact ⟨rfl, _, by rw [HAD.out]; exact DZ.out⟩
end Go.Proofs.YtjkmoahnociaiaaDoor
