/- The reader: full, own, add. -/
import Derived.Test.YtjkmoahnociaiaaDoorQ1
import Derived.Test.YtjkmoahnociaiaaDoorRL
namespace Go.Proofs.YtjkmoahnociaiaaDoor
open Go.RowKit Go.WideMaps Go.Maps

/-- 'append(s, x...)' onto a row of the call's own, as one step. -/
theorem oper_cells {P : Program} {o : Oper} {a : Act} {w : World} {K : Act → World → Prop} {Q : Exit → Act → World → Prop} (s x : Operand) (T : TypeId)
    (ho : o.op = .call { callee := .builtin .append, args := #[s, x], argTypes := #[T, T] }) (base : Nat) (e : TypeId) (z : Value) (size bytes : Nat) (hu : P.underlying T = some (.slice e)) (hi : (P.info? e).map (fun i => (i.zero, i.size, i.bytes)) = some (some z, size, bytes)) (hzs : z.cells.size = size) (hsz : 0 < size)
    (v : Value) (n : Nat) (xs : List Value) (hs : a.eval s = v) (hown : w.ownsRow base e size v n xs) (A : Option Addr) (m c : Nat) (ys : List Value) (hx : a.eval x = .slice A m c) (hr : CReads w A ys) (hl : ys.length = m * size) (h1 : ∀ u ∈ ys, u.oneCell' = true) (h63 : n + m ≤ maxLen) (hbytes : (n + m) * bytes ≤ 140737488355328) (hbase : base ≤ w.heap.size)
    (h : ∀ v' w', w'.ownsRow base e size v' (n + m) (xs ++ ys) → w.grownBy w' v.ownBlock → (v'.ownBlock = v.ownBlock ∨ v'.ownBlock = some w.heap.size) → K (a.put o.dst v') w') : Oper.wp P o a w K Q := by
  obtain ⟨v', w', hrun, hown', hg, hb⟩ := run_cells (P := P) (ty := o.type) hu hi hzs hsz hown A m c ys hr hl h1 h63 hbytes hbase
  have hfin := h v' w' hown' hg hb
  unfold Oper.wp
  simp only [execOp, ho, resolve, invoke, builtin, Sem.run_bind, Sem.run_pure, Result.andThen_ok, List.map_toArray, List.map_cons, List.map_nil, hs, hx, hrun]
  exact hfin
set_option maxRecDepth 100000 in
/-- A place of a map from texts to numbers is laid, as one step. -/
theorem oper_mapput {o : Oper} {a : Act} {w : World} {K : Act → World → Prop} {Q : Exit → Act → World → Prop} (m x v : Operand) (ho : o.op = .mapUpdate 65 m x v) (b n : Nat) (f : ByteArray → Int) (s : ByteArray) (i : Int) (hm : a.eval m = .map (some b)) (hx : a.eval x = .string s) (hv : a.eval v = .int .i64 i) (h : MapIs w b n f) (hn : n < maxLen) (hs : s.size ≤ maxLen) (hi : (Lit.int .i64 i).wf = true)
    (hk : ∀ w', MapIs w' b (n + 1) (fun t => if t = s then i else f t) → w.grownBy w' (some b) → K (a.put o.dst undef) w') : Oper.wp Tryd.prog o a w K Q := by
  obtain ⟨D, h1, h2, h3⟩ := h
  obtain ⟨w', hrun, r1, r2⟩ := h1.update slaw Tryd.underlying65 hn (keyOf_string_mk (P := Tryd.prog) Tryd.underlying9 hs) (plainElem_int Tryd.underlying3 hi)
  have hfin := hk w' (MapIs.put h2 h3 r1) r2
  unfold Oper.wp
  simp [execOp, ho, hm, hx, hv, hrun, Result.andThen, Oper.upon]
  exact hfin
theorem info_pos : (Tryd.prog.info? 33).map (fun i => (i.zero, i.size, i.bytes)) = some (some (.agg #[.int .i64 0, .int .i64 0]), 2, 16) := by kernel_rfl
/-- The gates, the outputs: how many. -/
def St.full (st : St) (s : ByteArray) : Bool := if s.toList = [111, 117, 116, 112, 117, 116] then decide (65536 ≤ st.outs.length) else decide (65536 ≤ st.gs.length)
section
variable {w : World} {base b : Nat} {st : St} {x : Ex}
theorem PS.gform (h : PS w base b st x) : ∃ A c, x.vG = .slice A st.gs.length c := by
  obtain ⟨A, c, e, _⟩ := rows_cells (h.2.out.hold.1 0 _ rfl) (show 0 < 6 by decide)
  exact ⟨A, c, e⟩
theorem PS.oform (h : PS w base b st x) : ∃ A c, x.vO = .slice A st.outs.length c := by
  obtain ⟨A, c, e⟩ := (h.2.out.hold.owns (i := 1) rfl).form
  rw [nums_length] at e
  exact ⟨A, c, e⟩
end
set_option maxHeartbeats 4000000 in
theorem full_any (base b : Nat) (st : St) (x : Ex) (s : ByteArray) (w : World) (h : PS w base b st x) (hg : st.gs.length ≤ 100000) (ho : st.outs.length ≤ 100000) :
    Calls Tryd.prog 62 #[.pointer (some ⟨b, 0, none⟩), .string s] w fun e w' => e = .returned (.bool (st.full s)) ∧ w' = w := by
  obtain ⟨AG, cG, eG⟩ := h.gform
  obtain ⟨AO, cO, eO⟩ := h.oform
  obtain ⟨hB, _⟩ := h
  have c1 : w.cell? ⟨b, 1, none⟩ = some x.vG := (hB.out.cell 1).trans rfl
  have c2 : w.cell? ⟨b, 2, none⟩ = some x.vO := (hB.out.cell 2).trans rfl
  rw [eG] at c1
  rw [eO] at c2
  obtain ⟨n, hn⟩ : ∃ n, st.gs.length = n := ⟨_, rfl⟩
  obtain ⟨m, hm⟩ : ∃ m, st.outs.length = m := ⟨_, rfl⟩
  have hfull : st.full s = if s.toList = [111, 117, 116, 112, 117, 116] then decide (65536 ≤ m) else decide (65536 ≤ n) := by unfold St.full; rw [hn, hm]
  rw [hn] at c1 hg
  rw [hm] at c2 ho
  clear hB eG eO hn hm
  go_enter Tryd.func62, Tryd.ntmps62
  by_cases h0 : s.toList = [111, 117, 116, 112, 117, 116]
  · rw [if_pos h0] at hfull
    go_wp2
    go_ret
    exact ⟨by rw [hfull]; simp; omega, rfl⟩
  · rw [if_neg h0] at hfull
    have h1 : (s.toList == [111, 117, 116, 112, 117, 116]) = false := by simpa using h0
    go_wp2
    go_ret
    exact ⟨by rw [hfull]; simp; omega, rfl⟩
/-! ## own -/
noncomputable def St.own (st : St) : ByteArray × St :=
  let t := st.take nameB
  let s := if t.2.fc = 0 ∧ 0 < t.2.f t.1.text then t.2.fail 141 t.1.col else t.2
  (t.1.text, { s with spots := s.spots ++ [(s.line, t.1.col)] })
theorem take_size {st : St} (hk : StOk st) (r : ByteArray → Bool) : (st.take r).1.text.size ≤ 4000000 := by
  unfold St.take
  split
  · split
    · exact Nat.zero_le _
    · rename_i y hy
      exact hk.ws y (List.mem_of_getElem? hy)
  · exact Nat.zero_le _
theorem St.fail_same (st : St) (e c : Int) : (st.fail e c).gs = st.gs ∧ (st.fail e c).outs = st.outs ∧ (st.fail e c).words = st.words ∧ (st.fail e c).wA = st.wA ∧ (st.fail e c).f = st.f ∧ (st.fail e c).spots = st.spots ∧ (st.fail e c).uses = st.uses ∧ (st.fail e c).places = st.places ∧ (st.fail e c).line = st.line := by
  unfold St.fail
  split <;> exact ⟨rfl, rfl, rfl, rfl, rfl, rfl, rfl, rfl, rfl⟩
theorem St.take_same (st : St) (r : ByteArray → Bool) : (st.take r).2.gs = st.gs ∧ (st.take r).2.outs = st.outs ∧ (st.take r).2.words = st.words ∧ (st.take r).2.wA = st.wA ∧ (st.take r).2.f = st.f ∧ (st.take r).2.spots = st.spots ∧ (st.take r).2.uses = st.uses ∧ (st.take r).2.places = st.places ∧ (st.take r).2.line = st.line := by
  unfold St.take
  split
  · split
    · exact St.fail_same st _ _
    · dsimp only
      split
      · exact ⟨rfl, rfl, rfl, rfl, rfl, rfl, rfl, rfl, rfl⟩
      · exact St.fail_same { st with next := st.next + 1 } _ _
  · exact ⟨rfl, rfl, rfl, rfl, rfl, rfl, rfl, rfl, rfl⟩
set_option maxRecDepth 100000 in
set_option maxHeartbeats 8000000 in
theorem own_any (base b : Nat) (st : St) (x : Ex) (w : World) (h : PS w base b st x) (hk : StOk st) (hsl : st.spots.length ≤ 100000) :
    Calls Tryd.prog 88 #[.pointer (some ⟨b, 0, none⟩)] w fun e w' => e = .returned (.string st.own.1) ∧ ∃ vS, Did w base b st.own.2 { x with vS := vS } w' := by
  have hct := take_name base b st x w h hk
  have hts := take_size hk nameB
  have hsame := St.take_same st nameB
  obtain ⟨t, ht⟩ : ∃ t, st.take nameB = t := ⟨_, rfl⟩
  rw [ht] at hct hts hsame
  have hown : st.own = (t.1.text, { (if t.2.fc = 0 ∧ 0 < t.2.f t.1.text then t.2.fail 141 t.1.col else t.2) with spots := (if t.2.fc = 0 ∧ 0 < t.2.f t.1.text then t.2.fail 141 t.1.col else t.2).spots ++ [((if t.2.fc = 0 ∧ 0 < t.2.f t.1.text then t.2.fail 141 t.1.col else t.2).line, t.1.col)] }) := by
    unfold St.own
    rw [ht]
  have HOW := Lib.hid hown
  obtain ⟨⟨tx, tc⟩, s1⟩ := t
  dsimp only at *
  have hsp1 : s1.spots.length ≤ 100000 := by rw [hsame.2.2.2.2.2.1]; exact hsl
  clear ht hown hk h hsame
  go_enter Tryd.func88, Tryd.ntmps88
  go_upto_region 2 with (go_at_call 61; with_reducible refine hct.mono ?_; rintro e w2 ⟨rfl, hd2⟩)
  change Code.wp _ _ _ _ (w2.alloc (.cells #[.string tx, .int .i64 tc] 109))
  have D3 := Lib.hid (hd2.alloc (.cells #[.string tx, .int .i64 tc] 109))
  have HW := Lib.hid (Blk.new w2 109 [.string tx, .int .i64 tc])
  clear hct hd2
  generalize w2.alloc (.cells #[.string tx, .int .i64 tc] 109) = W3 at *
  obtain ⟨bW, hbW⟩ : ∃ bW, w2.heap.size = bW := ⟨_, rfl⟩
  rw [hbW] at HW ⊢
  clear hbW
  have c9 : W3.cell? ⟨b, 9, none⟩ = some (.int .i64 s1.fc) := (D3.out.1.1.out.cell 9).trans rfl
  have c12 : W3.cell? ⟨b, 12, none⟩ = some (.map (some x.bm)) := (D3.out.1.1.out.cell 12).trans rfl
  have y0 : W3.cell? ⟨bW, 0, none⟩ = some (.string tx) := (HW.out.cell 0).trans rfl
  have hlook := D3.out.1.2.out.map.look (s := tx) (by unfold maxLen; omega)
  have hlook2 := (D3.out.1.2.out.below (below_drew0 (Below.refl _ _))).map.look (s := tx) (by unfold maxLen; omega)
  have HLK : Hid (∀ n, (Instr.lookup 65 (.map (some x.bm)) (.string tx) false).run Tryd.prog (W3.drewN n) = .ok (.int .i64 (s1.f tx)) (W3.drewN n)) := Lib.hid fun n => (D3.out.1.2.out.below (below_drewN (Below.refl _ _) n)).map.look (s := tx) (by unfold maxLen; omega)
  obtain ⟨fx, hfx⟩ : ∃ v, s1.f tx = v := ⟨_, rfl⟩
  rw [hfx] at hlook hlook2 HLK HOW
  clear hfx
  have hlook3 := HLK.out
  by_cases hg : s1.fc = 0 ∧ 0 < fx
  · rw [if_pos hg] at HOW
    obtain ⟨hf0, hf1⟩ := hg
    rw [hf0] at c9
    have hf2 : decide (0 < fx) = true := by simpa using hf1
    go_upto_region 2 with (fail)
    go_quiet (fail)
    have D3n := Lib.hid (D3.out.drewN nq)
    have HWn : Hid (Blk (W3.drewN nq) bW 109 [.string tx, .int .i64 tc]) := Lib.hid (HW.out.self (below_drewN (Below.refl _ _) nq))
    have HF := Lib.hid (fail_any base b s1 x 141 tc _ D3n.out.1)
    have y1 : (W3.drewN nq).cell? ⟨bW, 1, none⟩ = some (.int .i64 tc) := (HWn.out.cell 1).trans rfl
    go_upto_region 4 with (go_at_call 60; with_reducible refine HF.out.mono ?_; rintro e w4 ⟨rfl, hd4⟩)
    have D4 := Lib.hid (D3n.out.trans hd4)
    have HW4 := Lib.hid (hd4.2.2 _ _ _ HWn.out (by decide))
    have hss := St.fail_same s1 141 tc
    obtain ⟨s2, hs2⟩ : ∃ s : St, s1.fail 141 tc = s := ⟨_, rfl⟩
    rw [hs2] at D4 HOW hss
    have hsp2 : s2.spots.length ≤ 100000 := by rw [hss.2.2.2.2.2.1]; exact hsp1
    clear hs2 hss hd4 HF D3n HWn D3 HW c9 c12 y0 y1 hlook hlook2 hlook3 HLK hf2 hf0 hf1
    generalize w4 = W4 at *
    go_upto_region 4 with (fail)
    refine regionL 16 (fun W => W.cell? ⟨b, 13, none⟩ = some x.vS ∧ W.cell? ⟨b, 5, none⟩ = some (.int .i64 s2.line) ∧ W.cell? ⟨bW, 1, none⟩ = some (.int .i64 tc)) (by kernel_rfl) ?_
    have D5 := Lib.hid D4.out.drew
    have HW5 : Hid (Blk W4.drew bW 109 [.string tx, .int .i64 tc]) := Lib.hid (HW4.out.self (below_drew0 (Below.refl _ _)))
    clear D4 HW4
    generalize W4.drew = W5 at *
    have HFX : Hid (∀ W, Blk W b 79 (cellsS s2 x) → Blk W bW 109 [.string tx, .int .i64 tc] → W.cell? ⟨b, 13, none⟩ = some x.vS ∧ W.cell? ⟨b, 5, none⟩ = some (.int .i64 s2.line) ∧ W.cell? ⟨bW, 1, none⟩ = some (.int .i64 tc)) := Lib.hid fun W h1 h2 => ⟨(h1.cell 13).trans rfl, (h1.cell 5).trans rfl, (h2.cell 1).trans rfl⟩
    have HF0 := Lib.hid (HFX.out W5 D5.out.1.1.out HW5.out)
    have hbl := below1 W5 (.cells #[.int .i64 s2.line, .int .i64 tc] 33)
    have D6 := Lib.hid (D5.out.alloc (.cells #[.int .i64 s2.line, .int .i64 tc] 33))
    have HW6 := Lib.hid (HW5.out.self hbl)
    have HF6 := Lib.hid (HFX.out _ D6.out.1.1.out HW6.out)
    have HC6 : Hid (CReads (W5.alloc (.cells #[.int .i64 s2.line, .int .i64 tc] 33)) (some ⟨W5.heap.size, 0, none⟩) [.int .i64 s2.line, .int .i64 tc]) := Lib.hid (CReads.of_blk (Blk.new W5 33 [.int .i64 s2.line, .int .i64 tc]))
    clear hbl
    refine takeL (i := 0) (v := ?v0a) rfl (by kernel_rfl) (by kernel_rfl) (by kernel_rfl) (by kernel_rfl) (by kernel_rfl) (by decide) (fun _ _ _ h => h) (by rfl) ?y0a HF0.out ?r0a
    case y0a => (intro w hSw; (try dsimp only at hSw); obtain ⟨q0, q1, q2⟩ := hSw; go_simp; (try with_reducible rfl))
    try simp only [Act.put, List.setIfInBounds_toArray, List.set_cons_zero, List.set_cons_succ]
    refine takeL (i := 1) (v := ?v1a) rfl (by kernel_rfl) (by kernel_rfl) (by kernel_rfl) (by kernel_rfl) (by kernel_rfl) (by decide) (fun _ _ _ h => h) (by rfl) ?y1a HF0.out ?r1a
    case y1a => (intro w hSw; (try dsimp only at hSw); obtain ⟨q0, q1, q2⟩ := hSw; go_simp; (try with_reducible rfl))
    try simp only [Act.put, List.setIfInBounds_toArray, List.set_cons_zero, List.set_cons_succ]
    refine takeL (i := 2) (v := ?v2a) rfl (by kernel_rfl) (by kernel_rfl) (by kernel_rfl) (by kernel_rfl) (by kernel_rfl) (by decide) (fun _ _ _ h => h) (by rfl) ?y2a HF0.out ?r2a
    case y2a => (intro w hSw; (try dsimp only at hSw); obtain ⟨q0, q1, q2⟩ := hSw; go_simp; (try with_reducible rfl))
    try simp only [Act.put, List.setIfInBounds_toArray, List.set_cons_zero, List.set_cons_succ]
    refine takeL (i := 3) (v := ?v3a) rfl (by kernel_rfl) (by kernel_rfl) (by kernel_rfl) (by kernel_rfl) (by kernel_rfl) (by decide) (fun _ _ _ h => h) (by rfl) ?y3a HF0.out ?r3a
    case y3a => (intro w hSw; (try dsimp only at hSw); obtain ⟨q0, q1, q2⟩ := hSw; go_simp; (try with_reducible rfl))
    try simp only [Act.put, List.setIfInBounds_toArray, List.set_cons_zero, List.set_cons_succ]
    refine takeL (i := 4) (v := ?v4a) rfl (by kernel_rfl) (by kernel_rfl) (by kernel_rfl) (by kernel_rfl) (by kernel_rfl) (by decide) (fun _ _ _ h => h) (by rfl) ?y4a HF0.out ?r4a
    case y4a => (intro w hSw; (try dsimp only at hSw); obtain ⟨q0, q1, q2⟩ := hSw; go_simp; (try with_reducible rfl))
    try simp only [Act.put, List.setIfInBounds_toArray, List.set_cons_zero, List.set_cons_succ]
    refine takeL (i := 5) (v := ?v5a) rfl (by kernel_rfl) (by kernel_rfl) (by kernel_rfl) (by kernel_rfl) (by kernel_rfl) (by decide) (fun _ _ _ h => h) (by rfl) ?y5a HF0.out ?r5a
    case y5a => (intro w hSw; (try dsimp only at hSw); obtain ⟨q0, q1, q2⟩ := hSw; go_simp; (try with_reducible rfl))
    try simp only [Act.put, List.setIfInBounds_toArray, List.set_cons_zero, List.set_cons_succ]
    refine takeL (i := 6) (v := ?v6a) rfl (by kernel_rfl) (by kernel_rfl) (by kernel_rfl) (by kernel_rfl) (by kernel_rfl) (by decide) (fun _ _ _ h => h) (by rfl) ?y6a HF0.out ?r6a
    case y6a => (intro w hSw; (try dsimp only at hSw); obtain ⟨q0, q1, q2⟩ := hSw; go_simp; (try with_reducible rfl))
    try simp only [Act.put, List.setIfInBounds_toArray, List.set_cons_zero, List.set_cons_succ]
    refine takeL (i := 7) (v := ?v7a) rfl (by kernel_rfl) (by kernel_rfl) (by kernel_rfl) (by kernel_rfl) (by kernel_rfl) (by decide) (fun _ _ _ h => h) (by rfl) ?y7a HF0.out ?r7a
    case y7a => (intro w hSw; (try dsimp only at hSw); obtain ⟨q0, q1, q2⟩ := hSw; go_simp; (try with_reducible rfl))
    try simp only [Act.put, List.setIfInBounds_toArray, List.set_cons_zero, List.set_cons_succ]
    refine takeL (i := 8) (v := ?v8a) rfl (by kernel_rfl) (by kernel_rfl) (by kernel_rfl) (by kernel_rfl) (by kernel_rfl) (by decide) (fun _ _ _ h => h) (by rfl) ?y8a HF0.out ?r8a
    case y8a => (intro w hSw; (try dsimp only at hSw); obtain ⟨q0, q1, q2⟩ := hSw; go_simp; (try with_reducible rfl))
    try simp only [Act.put, List.setIfInBounds_toArray, List.set_cons_zero, List.set_cons_succ]
    refine takeL (i := 9) (v := ?v9a) rfl (by kernel_rfl) (by kernel_rfl) (by kernel_rfl) (by kernel_rfl) (by kernel_rfl) (by decide) (fun _ _ _ h => h) (by rfl) ?y9a HF0.out ?r9a
    case y9a => (intro w hSw; (try dsimp only at hSw); obtain ⟨q0, q1, q2⟩ := hSw; go_simp; (try with_reducible rfl))
    try simp only [Act.put, List.setIfInBounds_toArray, List.set_cons_zero, List.set_cons_succ]
    refine takeL (i := 10) (v := ?v10a) rfl (by kernel_rfl) (by kernel_rfl) (by kernel_rfl) (by kernel_rfl) (by kernel_rfl) (by decide) (fun _ _ _ h => h) (by rfl) ?y10a HF0.out ?r10a
    case y10a => (intro w hSw; (try dsimp only at hSw); obtain ⟨q0, q1, q2⟩ := hSw; go_simp; (try with_reducible rfl))
    try simp only [Act.put, List.setIfInBounds_toArray, List.set_cons_zero, List.set_cons_succ]
    refine takeL (i := 11) (v := ?v11a) rfl (by kernel_rfl) (by kernel_rfl) (by kernel_rfl) (by kernel_rfl) (by kernel_rfl) (by decide) (fun _ _ _ h => h) (by rfl) ?y11a HF0.out ?r11a
    case y11a => (intro w hSw; (try dsimp only at hSw); obtain ⟨q0, q1, q2⟩ := hSw; go_simp; (try with_reducible rfl))
    try simp only [Act.put, List.setIfInBounds_toArray, List.set_cons_zero, List.set_cons_succ]
    refine callL (i := 12) rfl (by kernel_rfl) (by rfl) ?_
    intro K hK
    go_simp
    refine hK.out _ _ (Or.inr HF6.out) (fun _ => ?_)
    clear hK K
    try simp only [Act.put, List.setIfInBounds_toArray, List.set_cons_zero, List.set_cons_succ]
    refine callL (i := 13) rfl (by kernel_rfl) (by rfl) ?_
    intro K hK
    refine oper_cells (.tmp 30) (.tmp 38) 76 rfl base 33 _ 2 16 Tryd.underlying76 info_pos rfl (by decide) x.vS s2.spots.length (pcells s2.spots) (by simp [Act.eval, Act.put]) (D6.out.1.2.out.hold.1 2 _ rfl) (some ⟨W5.heap.size, 0, none⟩) 1 1 [.int .i64 s2.line, .int .i64 tc] (by simp [Act.eval, Act.put]) HC6.out rfl (fun u hu => by simp at hu; rcases hu with rfl | rfl <;> rfl) (by unfold maxLen; omega) (by omega) (Nat.le_trans D6.out.1.size.1 (Nat.le_of_lt D6.out.1.size.2)) ?_
    intro v7 w7 hr7 hg7 hn7
    obtain ⟨A7, c7, e7, _⟩ := rows_cells hr7 (by decide)
    subst e7
    have hgr := PS.grow (st' := { s2 with spots := s2.spots ++ [(s2.line, tc)] }) (x' := { x with vS := (Value.slice A7 (s2.spots.length + 1) c7) }) D6.out.1.1.out D6.out.1.2.out (i := 2) (c := 13) (r := ⟨33, 2, x.vS, s2.spots.length, pcells s2.spots⟩) (r' := ⟨33, 2, (Value.slice A7 (s2.spots.length + 1) c7), (s2.spots ++ [(s2.line, tc)]).length, pcells (s2.spots ++ [(s2.line, tc)])⟩) rfl hg7 (by show w7.ownsRow base 33 2 (Value.slice A7 (s2.spots.length + 1) c7) _ _; rw [pcells_append, List.length_append]; exact hr7) hn7 rfl rfl rfl rfl rfl rfl D6.out.1.2.out.uses (Nat.le_refl _) (show 33 ∈ [46, 3, 33, 115] by decide) rfl
    have HW7 : Hid (Blk w7 bW 109 [.string tx, .int .i64 tc]) := Lib.hid (HW6.out.grown hg7 (fun e => (HW6.out.typed.ne (rows_typed (D6.out.1.2.out.hold.1 2 _ rfl) e.symm) (show 109 ≠ 33 by decide)) rfl))
    have HF7 := Lib.hid (HFX.out w7 hgr.1 HW7.out)
    have z13 : w7.cell? ⟨b, 13, none⟩ = some x.vS := (hgr.1.cell 13).trans rfl
    have f13 := hgr.1.frozen 13
    have DE := Lib.hid (D6.out.trans hgr.2)
    have HWE : Hid (Blk (w7.setCell ⟨b, 13, none⟩ (Value.slice A7 (s2.spots.length + 1) c7)) bW 109 [.string tx, .int .i64 tc]) := Lib.hid (hgr.2.2.2 _ _ _ HW6.out (by decide))
    clear hgr hr7 hg7 hn7
    refine hK.out _ _ (Or.inr HF7.out) (fun _ => ?_)
    clear hK K
    try simp only [Act.put, List.setIfInBounds_toArray, List.set_cons_zero, List.set_cons_succ]
    refine takeL0 (i := 14) (v := ?v14a) rfl (by kernel_rfl) (by kernel_rfl) (by kernel_rfl) (by kernel_rfl) (by decide) (fun _ _ _ h => h) (by rfl) ?y14a (Or.inr HF7.out) ?r14a
    case y14a => (intro w; go_simp; (try with_reducible rfl))
    try simp only [Act.put, List.setIfInBounds_toArray, List.set_cons_zero, List.set_cons_succ]
    refine takeL0 (i := 15) (v := ?v15a) rfl (by kernel_rfl) (by kernel_rfl) (by kernel_rfl) (by kernel_rfl) (by decide) (fun _ _ _ h => h) (by rfl) ?y15a (Or.inr HF7.out) ?r15a
    case y15a => (intro w; go_simp; (try with_reducible rfl))
    try simp only [Act.put, List.setIfInBounds_toArray, List.set_cons_zero, List.set_cons_succ]
    refine callL (i := 16) rfl (by kernel_rfl) (by rfl) ?_
    intro K hK
    go_simp
    refine hK.out _ _ (Or.inl (by kernel_rfl)) (fun _ => ?_)
    clear hK K
    try simp only [Act.put, List.setIfInBounds_toArray, List.set_cons_zero, List.set_cons_succ]
    refine doneL (by kernel_rfl) ?_ _
    have y0 : (w7.setCell ⟨b, 13, none⟩ (Value.slice A7 (s2.spots.length + 1) c7)).cell? ⟨bW, 0, none⟩ = some (.string tx) := (HWE.out.cell 0).trans rfl
    clear HFX HF0 HF6 HF7 HC6 HW5 HW6 HW7 D5 D6 z13 f13
    go_wp2
    go_ret
    exact ⟨by rw [HOW.out]; rfl, _, by rw [HOW.out]; exact DE.out⟩
  · rw [if_neg hg] at HOW
    have hsp2 := hsp1
    by_cases hf0 : s1.fc = 0
    · rw [hf0] at c9
      have hf1 : ¬ 0 < fx := fun h => hg ⟨hf0, h⟩
      have hf2 : decide (0 < fx) = false := by simpa using hf1
      go_upto_region 2 with (fail)
      go_quiet (fail)
      have D4 := Lib.hid (D3.out.drewN nq)
      have HW4 : Hid (Blk (W3.drewN nq) bW 109 [.string tx, .int .i64 tc]) := Lib.hid (HW.out.self (below_drewN (Below.refl _ _) nq))
      generalize hs2 : s1 = s2 at D4 HOW hsp2
      clear hs2 D3 HW c9 c12 y0 hlook hlook2 hlook3 HLK hf2 hf0 hf1 hg
      generalize W3.drewN nq = W4 at *
      go_upto_region 4 with (fail)
      refine regionL 16 (fun W => W.cell? ⟨b, 13, none⟩ = some x.vS ∧ W.cell? ⟨b, 5, none⟩ = some (.int .i64 s2.line) ∧ W.cell? ⟨bW, 1, none⟩ = some (.int .i64 tc)) (by kernel_rfl) ?_
      have D5 := Lib.hid D4.out.drew
      have HW5 : Hid (Blk W4.drew bW 109 [.string tx, .int .i64 tc]) := Lib.hid (HW4.out.self (below_drew0 (Below.refl _ _)))
      clear D4 HW4
      generalize W4.drew = W5 at *
      have HFX : Hid (∀ W, Blk W b 79 (cellsS s2 x) → Blk W bW 109 [.string tx, .int .i64 tc] → W.cell? ⟨b, 13, none⟩ = some x.vS ∧ W.cell? ⟨b, 5, none⟩ = some (.int .i64 s2.line) ∧ W.cell? ⟨bW, 1, none⟩ = some (.int .i64 tc)) := Lib.hid fun W h1 h2 => ⟨(h1.cell 13).trans rfl, (h1.cell 5).trans rfl, (h2.cell 1).trans rfl⟩
      have HF0 := Lib.hid (HFX.out W5 D5.out.1.1.out HW5.out)
      have hbl := below1 W5 (.cells #[.int .i64 s2.line, .int .i64 tc] 33)
      have D6 := Lib.hid (D5.out.alloc (.cells #[.int .i64 s2.line, .int .i64 tc] 33))
      have HW6 := Lib.hid (HW5.out.self hbl)
      have HF6 := Lib.hid (HFX.out _ D6.out.1.1.out HW6.out)
      have HC6 : Hid (CReads (W5.alloc (.cells #[.int .i64 s2.line, .int .i64 tc] 33)) (some ⟨W5.heap.size, 0, none⟩) [.int .i64 s2.line, .int .i64 tc]) := Lib.hid (CReads.of_blk (Blk.new W5 33 [.int .i64 s2.line, .int .i64 tc]))
      clear hbl
      refine takeL (i := 0) (v := ?v0b) rfl (by kernel_rfl) (by kernel_rfl) (by kernel_rfl) (by kernel_rfl) (by kernel_rfl) (by decide) (fun _ _ _ h => h) (by rfl) ?y0b HF0.out ?r0b
      case y0b => (intro w hSw; (try dsimp only at hSw); obtain ⟨q0, q1, q2⟩ := hSw; go_simp; (try with_reducible rfl))
      try simp only [Act.put, List.setIfInBounds_toArray, List.set_cons_zero, List.set_cons_succ]
      refine takeL (i := 1) (v := ?v1b) rfl (by kernel_rfl) (by kernel_rfl) (by kernel_rfl) (by kernel_rfl) (by kernel_rfl) (by decide) (fun _ _ _ h => h) (by rfl) ?y1b HF0.out ?r1b
      case y1b => (intro w hSw; (try dsimp only at hSw); obtain ⟨q0, q1, q2⟩ := hSw; go_simp; (try with_reducible rfl))
      try simp only [Act.put, List.setIfInBounds_toArray, List.set_cons_zero, List.set_cons_succ]
      refine takeL (i := 2) (v := ?v2b) rfl (by kernel_rfl) (by kernel_rfl) (by kernel_rfl) (by kernel_rfl) (by kernel_rfl) (by decide) (fun _ _ _ h => h) (by rfl) ?y2b HF0.out ?r2b
      case y2b => (intro w hSw; (try dsimp only at hSw); obtain ⟨q0, q1, q2⟩ := hSw; go_simp; (try with_reducible rfl))
      try simp only [Act.put, List.setIfInBounds_toArray, List.set_cons_zero, List.set_cons_succ]
      refine takeL (i := 3) (v := ?v3b) rfl (by kernel_rfl) (by kernel_rfl) (by kernel_rfl) (by kernel_rfl) (by kernel_rfl) (by decide) (fun _ _ _ h => h) (by rfl) ?y3b HF0.out ?r3b
      case y3b => (intro w hSw; (try dsimp only at hSw); obtain ⟨q0, q1, q2⟩ := hSw; go_simp; (try with_reducible rfl))
      try simp only [Act.put, List.setIfInBounds_toArray, List.set_cons_zero, List.set_cons_succ]
      refine takeL (i := 4) (v := ?v4b) rfl (by kernel_rfl) (by kernel_rfl) (by kernel_rfl) (by kernel_rfl) (by kernel_rfl) (by decide) (fun _ _ _ h => h) (by rfl) ?y4b HF0.out ?r4b
      case y4b => (intro w hSw; (try dsimp only at hSw); obtain ⟨q0, q1, q2⟩ := hSw; go_simp; (try with_reducible rfl))
      try simp only [Act.put, List.setIfInBounds_toArray, List.set_cons_zero, List.set_cons_succ]
      refine takeL (i := 5) (v := ?v5b) rfl (by kernel_rfl) (by kernel_rfl) (by kernel_rfl) (by kernel_rfl) (by kernel_rfl) (by decide) (fun _ _ _ h => h) (by rfl) ?y5b HF0.out ?r5b
      case y5b => (intro w hSw; (try dsimp only at hSw); obtain ⟨q0, q1, q2⟩ := hSw; go_simp; (try with_reducible rfl))
      try simp only [Act.put, List.setIfInBounds_toArray, List.set_cons_zero, List.set_cons_succ]
      refine takeL (i := 6) (v := ?v6b) rfl (by kernel_rfl) (by kernel_rfl) (by kernel_rfl) (by kernel_rfl) (by kernel_rfl) (by decide) (fun _ _ _ h => h) (by rfl) ?y6b HF0.out ?r6b
      case y6b => (intro w hSw; (try dsimp only at hSw); obtain ⟨q0, q1, q2⟩ := hSw; go_simp; (try with_reducible rfl))
      try simp only [Act.put, List.setIfInBounds_toArray, List.set_cons_zero, List.set_cons_succ]
      refine takeL (i := 7) (v := ?v7b) rfl (by kernel_rfl) (by kernel_rfl) (by kernel_rfl) (by kernel_rfl) (by kernel_rfl) (by decide) (fun _ _ _ h => h) (by rfl) ?y7b HF0.out ?r7b
      case y7b => (intro w hSw; (try dsimp only at hSw); obtain ⟨q0, q1, q2⟩ := hSw; go_simp; (try with_reducible rfl))
      try simp only [Act.put, List.setIfInBounds_toArray, List.set_cons_zero, List.set_cons_succ]
      refine takeL (i := 8) (v := ?v8b) rfl (by kernel_rfl) (by kernel_rfl) (by kernel_rfl) (by kernel_rfl) (by kernel_rfl) (by decide) (fun _ _ _ h => h) (by rfl) ?y8b HF0.out ?r8b
      case y8b => (intro w hSw; (try dsimp only at hSw); obtain ⟨q0, q1, q2⟩ := hSw; go_simp; (try with_reducible rfl))
      try simp only [Act.put, List.setIfInBounds_toArray, List.set_cons_zero, List.set_cons_succ]
      refine takeL (i := 9) (v := ?v9b) rfl (by kernel_rfl) (by kernel_rfl) (by kernel_rfl) (by kernel_rfl) (by kernel_rfl) (by decide) (fun _ _ _ h => h) (by rfl) ?y9b HF0.out ?r9b
      case y9b => (intro w hSw; (try dsimp only at hSw); obtain ⟨q0, q1, q2⟩ := hSw; go_simp; (try with_reducible rfl))
      try simp only [Act.put, List.setIfInBounds_toArray, List.set_cons_zero, List.set_cons_succ]
      refine takeL (i := 10) (v := ?v10b) rfl (by kernel_rfl) (by kernel_rfl) (by kernel_rfl) (by kernel_rfl) (by kernel_rfl) (by decide) (fun _ _ _ h => h) (by rfl) ?y10b HF0.out ?r10b
      case y10b => (intro w hSw; (try dsimp only at hSw); obtain ⟨q0, q1, q2⟩ := hSw; go_simp; (try with_reducible rfl))
      try simp only [Act.put, List.setIfInBounds_toArray, List.set_cons_zero, List.set_cons_succ]
      refine takeL (i := 11) (v := ?v11b) rfl (by kernel_rfl) (by kernel_rfl) (by kernel_rfl) (by kernel_rfl) (by kernel_rfl) (by decide) (fun _ _ _ h => h) (by rfl) ?y11b HF0.out ?r11b
      case y11b => (intro w hSw; (try dsimp only at hSw); obtain ⟨q0, q1, q2⟩ := hSw; go_simp; (try with_reducible rfl))
      try simp only [Act.put, List.setIfInBounds_toArray, List.set_cons_zero, List.set_cons_succ]
      refine callL (i := 12) rfl (by kernel_rfl) (by rfl) ?_
      intro K hK
      go_simp
      refine hK.out _ _ (Or.inr HF6.out) (fun _ => ?_)
      clear hK K
      try simp only [Act.put, List.setIfInBounds_toArray, List.set_cons_zero, List.set_cons_succ]
      refine callL (i := 13) rfl (by kernel_rfl) (by rfl) ?_
      intro K hK
      refine oper_cells (.tmp 30) (.tmp 38) 76 rfl base 33 _ 2 16 Tryd.underlying76 info_pos rfl (by decide) x.vS s2.spots.length (pcells s2.spots) (by simp [Act.eval, Act.put]) (D6.out.1.2.out.hold.1 2 _ rfl) (some ⟨W5.heap.size, 0, none⟩) 1 1 [.int .i64 s2.line, .int .i64 tc] (by simp [Act.eval, Act.put]) HC6.out rfl (fun u hu => by simp at hu; rcases hu with rfl | rfl <;> rfl) (by unfold maxLen; omega) (by omega) (Nat.le_trans D6.out.1.size.1 (Nat.le_of_lt D6.out.1.size.2)) ?_
      intro v7 w7 hr7 hg7 hn7
      obtain ⟨A7, c7, e7, _⟩ := rows_cells hr7 (by decide)
      subst e7
      have hgr := PS.grow (st' := { s2 with spots := s2.spots ++ [(s2.line, tc)] }) (x' := { x with vS := (Value.slice A7 (s2.spots.length + 1) c7) }) D6.out.1.1.out D6.out.1.2.out (i := 2) (c := 13) (r := ⟨33, 2, x.vS, s2.spots.length, pcells s2.spots⟩) (r' := ⟨33, 2, (Value.slice A7 (s2.spots.length + 1) c7), (s2.spots ++ [(s2.line, tc)]).length, pcells (s2.spots ++ [(s2.line, tc)])⟩) rfl hg7 (by show w7.ownsRow base 33 2 (Value.slice A7 (s2.spots.length + 1) c7) _ _; rw [pcells_append, List.length_append]; exact hr7) hn7 rfl rfl rfl rfl rfl rfl D6.out.1.2.out.uses (Nat.le_refl _) (show 33 ∈ [46, 3, 33, 115] by decide) rfl
      have HW7 : Hid (Blk w7 bW 109 [.string tx, .int .i64 tc]) := Lib.hid (HW6.out.grown hg7 (fun e => (HW6.out.typed.ne (rows_typed (D6.out.1.2.out.hold.1 2 _ rfl) e.symm) (show 109 ≠ 33 by decide)) rfl))
      have HF7 := Lib.hid (HFX.out w7 hgr.1 HW7.out)
      have z13 : w7.cell? ⟨b, 13, none⟩ = some x.vS := (hgr.1.cell 13).trans rfl
      have f13 := hgr.1.frozen 13
      have DE := Lib.hid (D6.out.trans hgr.2)
      have HWE : Hid (Blk (w7.setCell ⟨b, 13, none⟩ (Value.slice A7 (s2.spots.length + 1) c7)) bW 109 [.string tx, .int .i64 tc]) := Lib.hid (hgr.2.2.2 _ _ _ HW6.out (by decide))
      clear hgr hr7 hg7 hn7
      refine hK.out _ _ (Or.inr HF7.out) (fun _ => ?_)
      clear hK K
      try simp only [Act.put, List.setIfInBounds_toArray, List.set_cons_zero, List.set_cons_succ]
      refine takeL0 (i := 14) (v := ?v14b) rfl (by kernel_rfl) (by kernel_rfl) (by kernel_rfl) (by kernel_rfl) (by decide) (fun _ _ _ h => h) (by rfl) ?y14b (Or.inr HF7.out) ?r14b
      case y14b => (intro w; go_simp; (try with_reducible rfl))
      try simp only [Act.put, List.setIfInBounds_toArray, List.set_cons_zero, List.set_cons_succ]
      refine takeL0 (i := 15) (v := ?v15b) rfl (by kernel_rfl) (by kernel_rfl) (by kernel_rfl) (by kernel_rfl) (by decide) (fun _ _ _ h => h) (by rfl) ?y15b (Or.inr HF7.out) ?r15b
      case y15b => (intro w; go_simp; (try with_reducible rfl))
      try simp only [Act.put, List.setIfInBounds_toArray, List.set_cons_zero, List.set_cons_succ]
      refine callL (i := 16) rfl (by kernel_rfl) (by rfl) ?_
      intro K hK
      go_simp
      refine hK.out _ _ (Or.inl (by kernel_rfl)) (fun _ => ?_)
      clear hK K
      try simp only [Act.put, List.setIfInBounds_toArray, List.set_cons_zero, List.set_cons_succ]
      refine doneL (by kernel_rfl) ?_ _
      have y0 : (w7.setCell ⟨b, 13, none⟩ (Value.slice A7 (s2.spots.length + 1) c7)).cell? ⟨bW, 0, none⟩ = some (.string tx) := (HWE.out.cell 0).trans rfl
      clear HFX HF0 HF6 HF7 HC6 HW5 HW6 HW7 D5 D6 z13 f13
      go_wp2
      go_ret
      exact ⟨by rw [HOW.out]; rfl, _, by rw [HOW.out]; exact DE.out⟩
    · have hf1 : (s1.fc == 0) = false := by simpa using hf0
      go_upto_region 2 with (fail)
      go_quiet (fail)
      have D4 := Lib.hid (D3.out.drewN nq)
      have HW4 : Hid (Blk (W3.drewN nq) bW 109 [.string tx, .int .i64 tc]) := Lib.hid (HW.out.self (below_drewN (Below.refl _ _) nq))
      generalize hs2 : s1 = s2 at D4 HOW hsp2
      clear hs2 D3 HW c9 c12 y0 hlook hlook2 hlook3 HLK hf0 hf1 hg
      generalize W3.drewN nq = W4 at *
      go_upto_region 4 with (fail)
      refine regionL 16 (fun W => W.cell? ⟨b, 13, none⟩ = some x.vS ∧ W.cell? ⟨b, 5, none⟩ = some (.int .i64 s2.line) ∧ W.cell? ⟨bW, 1, none⟩ = some (.int .i64 tc)) (by kernel_rfl) ?_
      have D5 := Lib.hid D4.out.drew
      have HW5 : Hid (Blk W4.drew bW 109 [.string tx, .int .i64 tc]) := Lib.hid (HW4.out.self (below_drew0 (Below.refl _ _)))
      clear D4 HW4
      generalize W4.drew = W5 at *
      have HFX : Hid (∀ W, Blk W b 79 (cellsS s2 x) → Blk W bW 109 [.string tx, .int .i64 tc] → W.cell? ⟨b, 13, none⟩ = some x.vS ∧ W.cell? ⟨b, 5, none⟩ = some (.int .i64 s2.line) ∧ W.cell? ⟨bW, 1, none⟩ = some (.int .i64 tc)) := Lib.hid fun W h1 h2 => ⟨(h1.cell 13).trans rfl, (h1.cell 5).trans rfl, (h2.cell 1).trans rfl⟩
      have HF0 := Lib.hid (HFX.out W5 D5.out.1.1.out HW5.out)
      have hbl := below1 W5 (.cells #[.int .i64 s2.line, .int .i64 tc] 33)
      have D6 := Lib.hid (D5.out.alloc (.cells #[.int .i64 s2.line, .int .i64 tc] 33))
      have HW6 := Lib.hid (HW5.out.self hbl)
      have HF6 := Lib.hid (HFX.out _ D6.out.1.1.out HW6.out)
      have HC6 : Hid (CReads (W5.alloc (.cells #[.int .i64 s2.line, .int .i64 tc] 33)) (some ⟨W5.heap.size, 0, none⟩) [.int .i64 s2.line, .int .i64 tc]) := Lib.hid (CReads.of_blk (Blk.new W5 33 [.int .i64 s2.line, .int .i64 tc]))
      clear hbl
      refine takeL (i := 0) (v := ?v0c) rfl (by kernel_rfl) (by kernel_rfl) (by kernel_rfl) (by kernel_rfl) (by kernel_rfl) (by decide) (fun _ _ _ h => h) (by rfl) ?y0c HF0.out ?r0c
      case y0c => (intro w hSw; (try dsimp only at hSw); obtain ⟨q0, q1, q2⟩ := hSw; go_simp; (try with_reducible rfl))
      try simp only [Act.put, List.setIfInBounds_toArray, List.set_cons_zero, List.set_cons_succ]
      refine takeL (i := 1) (v := ?v1c) rfl (by kernel_rfl) (by kernel_rfl) (by kernel_rfl) (by kernel_rfl) (by kernel_rfl) (by decide) (fun _ _ _ h => h) (by rfl) ?y1c HF0.out ?r1c
      case y1c => (intro w hSw; (try dsimp only at hSw); obtain ⟨q0, q1, q2⟩ := hSw; go_simp; (try with_reducible rfl))
      try simp only [Act.put, List.setIfInBounds_toArray, List.set_cons_zero, List.set_cons_succ]
      refine takeL (i := 2) (v := ?v2c) rfl (by kernel_rfl) (by kernel_rfl) (by kernel_rfl) (by kernel_rfl) (by kernel_rfl) (by decide) (fun _ _ _ h => h) (by rfl) ?y2c HF0.out ?r2c
      case y2c => (intro w hSw; (try dsimp only at hSw); obtain ⟨q0, q1, q2⟩ := hSw; go_simp; (try with_reducible rfl))
      try simp only [Act.put, List.setIfInBounds_toArray, List.set_cons_zero, List.set_cons_succ]
      refine takeL (i := 3) (v := ?v3c) rfl (by kernel_rfl) (by kernel_rfl) (by kernel_rfl) (by kernel_rfl) (by kernel_rfl) (by decide) (fun _ _ _ h => h) (by rfl) ?y3c HF0.out ?r3c
      case y3c => (intro w hSw; (try dsimp only at hSw); obtain ⟨q0, q1, q2⟩ := hSw; go_simp; (try with_reducible rfl))
      try simp only [Act.put, List.setIfInBounds_toArray, List.set_cons_zero, List.set_cons_succ]
      refine takeL (i := 4) (v := ?v4c) rfl (by kernel_rfl) (by kernel_rfl) (by kernel_rfl) (by kernel_rfl) (by kernel_rfl) (by decide) (fun _ _ _ h => h) (by rfl) ?y4c HF0.out ?r4c
      case y4c => (intro w hSw; (try dsimp only at hSw); obtain ⟨q0, q1, q2⟩ := hSw; go_simp; (try with_reducible rfl))
      try simp only [Act.put, List.setIfInBounds_toArray, List.set_cons_zero, List.set_cons_succ]
      refine takeL (i := 5) (v := ?v5c) rfl (by kernel_rfl) (by kernel_rfl) (by kernel_rfl) (by kernel_rfl) (by kernel_rfl) (by decide) (fun _ _ _ h => h) (by rfl) ?y5c HF0.out ?r5c
      case y5c => (intro w hSw; (try dsimp only at hSw); obtain ⟨q0, q1, q2⟩ := hSw; go_simp; (try with_reducible rfl))
      try simp only [Act.put, List.setIfInBounds_toArray, List.set_cons_zero, List.set_cons_succ]
      refine takeL (i := 6) (v := ?v6c) rfl (by kernel_rfl) (by kernel_rfl) (by kernel_rfl) (by kernel_rfl) (by kernel_rfl) (by decide) (fun _ _ _ h => h) (by rfl) ?y6c HF0.out ?r6c
      case y6c => (intro w hSw; (try dsimp only at hSw); obtain ⟨q0, q1, q2⟩ := hSw; go_simp; (try with_reducible rfl))
      try simp only [Act.put, List.setIfInBounds_toArray, List.set_cons_zero, List.set_cons_succ]
      refine takeL (i := 7) (v := ?v7c) rfl (by kernel_rfl) (by kernel_rfl) (by kernel_rfl) (by kernel_rfl) (by kernel_rfl) (by decide) (fun _ _ _ h => h) (by rfl) ?y7c HF0.out ?r7c
      case y7c => (intro w hSw; (try dsimp only at hSw); obtain ⟨q0, q1, q2⟩ := hSw; go_simp; (try with_reducible rfl))
      try simp only [Act.put, List.setIfInBounds_toArray, List.set_cons_zero, List.set_cons_succ]
      refine takeL (i := 8) (v := ?v8c) rfl (by kernel_rfl) (by kernel_rfl) (by kernel_rfl) (by kernel_rfl) (by kernel_rfl) (by decide) (fun _ _ _ h => h) (by rfl) ?y8c HF0.out ?r8c
      case y8c => (intro w hSw; (try dsimp only at hSw); obtain ⟨q0, q1, q2⟩ := hSw; go_simp; (try with_reducible rfl))
      try simp only [Act.put, List.setIfInBounds_toArray, List.set_cons_zero, List.set_cons_succ]
      refine takeL (i := 9) (v := ?v9c) rfl (by kernel_rfl) (by kernel_rfl) (by kernel_rfl) (by kernel_rfl) (by kernel_rfl) (by decide) (fun _ _ _ h => h) (by rfl) ?y9c HF0.out ?r9c
      case y9c => (intro w hSw; (try dsimp only at hSw); obtain ⟨q0, q1, q2⟩ := hSw; go_simp; (try with_reducible rfl))
      try simp only [Act.put, List.setIfInBounds_toArray, List.set_cons_zero, List.set_cons_succ]
      refine takeL (i := 10) (v := ?v10c) rfl (by kernel_rfl) (by kernel_rfl) (by kernel_rfl) (by kernel_rfl) (by kernel_rfl) (by decide) (fun _ _ _ h => h) (by rfl) ?y10c HF0.out ?r10c
      case y10c => (intro w hSw; (try dsimp only at hSw); obtain ⟨q0, q1, q2⟩ := hSw; go_simp; (try with_reducible rfl))
      try simp only [Act.put, List.setIfInBounds_toArray, List.set_cons_zero, List.set_cons_succ]
      refine takeL (i := 11) (v := ?v11c) rfl (by kernel_rfl) (by kernel_rfl) (by kernel_rfl) (by kernel_rfl) (by kernel_rfl) (by decide) (fun _ _ _ h => h) (by rfl) ?y11c HF0.out ?r11c
      case y11c => (intro w hSw; (try dsimp only at hSw); obtain ⟨q0, q1, q2⟩ := hSw; go_simp; (try with_reducible rfl))
      try simp only [Act.put, List.setIfInBounds_toArray, List.set_cons_zero, List.set_cons_succ]
      refine callL (i := 12) rfl (by kernel_rfl) (by rfl) ?_
      intro K hK
      go_simp
      refine hK.out _ _ (Or.inr HF6.out) (fun _ => ?_)
      clear hK K
      try simp only [Act.put, List.setIfInBounds_toArray, List.set_cons_zero, List.set_cons_succ]
      refine callL (i := 13) rfl (by kernel_rfl) (by rfl) ?_
      intro K hK
      refine oper_cells (.tmp 30) (.tmp 38) 76 rfl base 33 _ 2 16 Tryd.underlying76 info_pos rfl (by decide) x.vS s2.spots.length (pcells s2.spots) (by simp [Act.eval, Act.put]) (D6.out.1.2.out.hold.1 2 _ rfl) (some ⟨W5.heap.size, 0, none⟩) 1 1 [.int .i64 s2.line, .int .i64 tc] (by simp [Act.eval, Act.put]) HC6.out rfl (fun u hu => by simp at hu; rcases hu with rfl | rfl <;> rfl) (by unfold maxLen; omega) (by omega) (Nat.le_trans D6.out.1.size.1 (Nat.le_of_lt D6.out.1.size.2)) ?_
      intro v7 w7 hr7 hg7 hn7
      obtain ⟨A7, c7, e7, _⟩ := rows_cells hr7 (by decide)
      subst e7
      have hgr := PS.grow (st' := { s2 with spots := s2.spots ++ [(s2.line, tc)] }) (x' := { x with vS := (Value.slice A7 (s2.spots.length + 1) c7) }) D6.out.1.1.out D6.out.1.2.out (i := 2) (c := 13) (r := ⟨33, 2, x.vS, s2.spots.length, pcells s2.spots⟩) (r' := ⟨33, 2, (Value.slice A7 (s2.spots.length + 1) c7), (s2.spots ++ [(s2.line, tc)]).length, pcells (s2.spots ++ [(s2.line, tc)])⟩) rfl hg7 (by show w7.ownsRow base 33 2 (Value.slice A7 (s2.spots.length + 1) c7) _ _; rw [pcells_append, List.length_append]; exact hr7) hn7 rfl rfl rfl rfl rfl rfl D6.out.1.2.out.uses (Nat.le_refl _) (show 33 ∈ [46, 3, 33, 115] by decide) rfl
      have HW7 : Hid (Blk w7 bW 109 [.string tx, .int .i64 tc]) := Lib.hid (HW6.out.grown hg7 (fun e => (HW6.out.typed.ne (rows_typed (D6.out.1.2.out.hold.1 2 _ rfl) e.symm) (show 109 ≠ 33 by decide)) rfl))
      have HF7 := Lib.hid (HFX.out w7 hgr.1 HW7.out)
      have z13 : w7.cell? ⟨b, 13, none⟩ = some x.vS := (hgr.1.cell 13).trans rfl
      have f13 := hgr.1.frozen 13
      have DE := Lib.hid (D6.out.trans hgr.2)
      have HWE : Hid (Blk (w7.setCell ⟨b, 13, none⟩ (Value.slice A7 (s2.spots.length + 1) c7)) bW 109 [.string tx, .int .i64 tc]) := Lib.hid (hgr.2.2.2 _ _ _ HW6.out (by decide))
      clear hgr hr7 hg7 hn7
      refine hK.out _ _ (Or.inr HF7.out) (fun _ => ?_)
      clear hK K
      try simp only [Act.put, List.setIfInBounds_toArray, List.set_cons_zero, List.set_cons_succ]
      refine takeL0 (i := 14) (v := ?v14c) rfl (by kernel_rfl) (by kernel_rfl) (by kernel_rfl) (by kernel_rfl) (by decide) (fun _ _ _ h => h) (by rfl) ?y14c (Or.inr HF7.out) ?r14c
      case y14c => (intro w; go_simp; (try with_reducible rfl))
      try simp only [Act.put, List.setIfInBounds_toArray, List.set_cons_zero, List.set_cons_succ]
      refine takeL0 (i := 15) (v := ?v15c) rfl (by kernel_rfl) (by kernel_rfl) (by kernel_rfl) (by kernel_rfl) (by decide) (fun _ _ _ h => h) (by rfl) ?y15c (Or.inr HF7.out) ?r15c
      case y15c => (intro w; go_simp; (try with_reducible rfl))
      try simp only [Act.put, List.setIfInBounds_toArray, List.set_cons_zero, List.set_cons_succ]
      refine callL (i := 16) rfl (by kernel_rfl) (by rfl) ?_
      intro K hK
      go_simp
      refine hK.out _ _ (Or.inl (by kernel_rfl)) (fun _ => ?_)
      clear hK K
      try simp only [Act.put, List.setIfInBounds_toArray, List.set_cons_zero, List.set_cons_succ]
      refine doneL (by kernel_rfl) ?_ _
      have y0 : (w7.setCell ⟨b, 13, none⟩ (Value.slice A7 (s2.spots.length + 1) c7)).cell? ⟨bW, 0, none⟩ = some (.string tx) := (HWE.out.cell 0).trans rfl
      clear HFX HF0 HF6 HF7 HC6 HW5 HW6 HW7 D5 D6 z13 f13
      go_wp2
      go_ret
      exact ⟨by rw [HOW.out]; rfl, _, by rw [HOW.out]; exact DE.out⟩
end Go.Proofs.YtjkmoahnociaiaaDoor
