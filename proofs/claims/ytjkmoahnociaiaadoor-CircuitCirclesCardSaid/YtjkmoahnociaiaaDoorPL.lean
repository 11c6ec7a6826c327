/- A circuit's own lines, read: the circuit again. No program in sight. -/
import Derived.Test.YtjkmoahnociaiaaDoorPO
import Derived.Lib.Split
import Derived.Lib.SplitLaws
namespace Go.Proofs.YtjkmoahnociaiaaDoor

abbrev DL := Wd × List Wd × Int × Int
def DL.texts (d : DL) : List ByteArray := d.2.1.map Wd.text
def DL.ok (d : DL) : Prop := d.2.1.head? = some d.1
/-- The names that a line uses. -/
def opsOf (g : Gt) : List Int := if g.kind = 2 then [g.a, g.b] else if g.kind = 4 then [g.a, g.b, g.c] else if g.kind = 3 then [g.a] else []
def blankG (g : Gt) : Gt := ⟨g.kind, g.name, g.op, 0, 0, 0⟩
theorem opIx_opW {op : Int} (h0 : 0 ≤ op) (h1 : op ≤ 15) : opIx (opW op) = op := by
  have key : ∀ k : Nat, k < 16 → Lib.idxOfS opWords (opWords.getD k ⟨#[]⟩) = (k : Int) := by decide
  unfold opIx opW
  rw [key op.toNat (by omega)]
  omega
/-- What a line of the table adds. -/
def Rd.more (r : Rd) (g : Gt) (l : List Us) (sp : Int × Int) : Rd :=
  { r with us := r.us ++ uflat (r.gs.length : Int) l 0, f := fun t => if t = g.name then ((r.gs.length + 1 : Nat) : Int) else r.f t, gs := r.gs ++ [blankG g], spots := r.spots ++ [sp] }
section
variable {r : Rd} {no e : Int}
theorem dstep_n {f : ByteArray → Int} {gate : Int} {w : Wd} {a : Ac} (hn : nameB w.text = true) (hf : f w.text = 0) : dstep f no gate 110 w a = ({ a with nm := w.text, np := (no, w.col) }, (0, 0, 0)) := by
  unfold dstep
  rw [if_pos rfl, if_neg (fun t => t.2 hf), if_pos hn]
theorem dstep_u {f : ByteArray → Int} {gate : Int} {w : Wd} {a : Ac} (hn : nameB w.text = true) : dstep f no gate 117 w a = ({ a with us := a.us ++ [⟨w.text, no, w.col, gate, (a.us.length : Int)⟩] }, (0, 0, 0)) := by
  unfold dstep
  rw [if_neg (by decide), if_neg (by decide), if_neg (by decide), if_pos hn]
theorem dstep_o {f : ByteArray → Int} {gate : Int} {w : Wd} {a : Ac} (hn : 0 ≤ opIx w.text) : dstep f no gate 111 w a = ({ a with op := opIx w.text }, (0, 0, 0)) := by
  unfold dstep
  rw [if_neg (by decide), if_pos rfl, if_pos hn]
theorem dstep_f {f : ByteArray → Int} {gate : Int} {w : Wd} {a : Ac} (hn : bitB w.text = true) : dstep f no gate 102 w a = ({ a with op := if w.text.toList = [49] then 1 else a.op }, (0, 0, 0)) := by
  unfold dstep
  rw [if_neg (by decide), if_neg (by decide), if_pos rfl, if_pos (c := bitB w.text = true) hn]
theorem dgo_go {f : ByteArray → Int} {gate : Int} {ws : List Wd} {k : UInt8} {ks : List UInt8} {i : Nat} {a b : Ac} {w : Wd} (hw : ws[i + 1]? = some w) (hd : dstep f no gate k w a = (b, (0, 0, 0))) : dgo f no e gate ws (k :: ks) i a = dgo f no e gate ws ks (i + 1) b := by
  rw [dgo_some hw, hd, if_pos rfl]
theorem item_good {y : Wd} {ws : List Wd} {a : Ac} (hd : r.done = false) (hy : wnt y.text ≠ []) (he : y.text.toList ≠ [101, 110, 100]) (hl : isOut y.text = true → r.outs.length < 65536) (hg : isOut y.text = false → r.gs.length < 65536)
    (hgo : dgo r.f no e (if isOut y.text = true then -1 else (r.gs.length : Int)) ws (wnt y.text) 0 ac0 = (a, (0, 0, 0))) (hend : ws[(wnt y.text).length + 1]? = none) : r.line ws no e y false = (r.put y.text a, (0, 0, 0)) := by
  unfold Rd.line
  rw [if_neg (by rintro (t | t); exact absurd t.1 (by decide); rw [hd] at t; cases t), if_neg (by decide), if_neg he]
  unfold Rd.item
  rw [if_neg hy, if_neg (by rintro (⟨t, u⟩ | ⟨t, u⟩); have := hl t; omega; have := hg t; omega)]
  dsimp only
  rw [hgo, if_neg (fun t => t rfl), hend]
theorem tl_input : wInput.toList = [105, 110, 112, 117, 116] := by rw [Lib.toList_data]; rfl
theorem wnt_input : wnt wInput = [110] := by unfold wnt; rw [tl_input]; rfl
theorem out_input : isOut wInput = false := by unfold isOut; rw [tl_input]; decide
theorem knd_input : knd wInput = 1 := by unfold knd; rw [tl_input]; rfl
theorem ne_input : wInput.toList ≠ [101, 110, 100] := by rw [tl_input]; decide
theorem tl_gate : wGate.toList = [103, 97, 116, 101] := by rw [Lib.toList_data]; rfl
theorem wnt_gate : wnt wGate = [110, 111, 117, 117] := by unfold wnt; rw [tl_gate]; rfl
theorem out_gate : isOut wGate = false := by unfold isOut; rw [tl_gate]; decide
theorem knd_gate : knd wGate = 2 := by unfold knd; rw [tl_gate]; rfl
theorem ne_gate : wGate.toList ≠ [101, 110, 100] := by rw [tl_gate]; decide
theorem tl_mux : wMux.toList = [109, 117, 120] := by rw [Lib.toList_data]; rfl
theorem wnt_mux : wnt wMux = [110, 117, 117, 117] := by unfold wnt; rw [tl_mux]; rfl
theorem out_mux : isOut wMux = false := by unfold isOut; rw [tl_mux]; decide
theorem knd_mux : knd wMux = 4 := by unfold knd; rw [tl_mux]; rfl
theorem ne_mux : wMux.toList ≠ [101, 110, 100] := by rw [tl_mux]; decide
theorem tl_latch : wLatch.toList = [108, 97, 116, 99, 104] := by rw [Lib.toList_data]; rfl
theorem wnt_latch : wnt wLatch = [110, 102, 117] := by unfold wnt; rw [tl_latch]; rfl
theorem out_latch : isOut wLatch = false := by unfold isOut; rw [tl_latch]; decide
theorem knd_latch : knd wLatch = 3 := by unfold knd; rw [tl_latch]; rfl
theorem ne_latch : wLatch.toList ≠ [101, 110, 100] := by rw [tl_latch]; decide
theorem tl_output : wOutput.toList = [111, 117, 116, 112, 117, 116] := by rw [Lib.toList_data]; rfl
theorem wnt_output : wnt wOutput = [117] := by unfold wnt; rw [tl_output]; rfl
theorem out_output : isOut wOutput = true := by unfold isOut; rw [tl_output]; decide
theorem knd_output : knd wOutput = 3 := by unfold knd; rw [tl_output]; rfl
theorem ne_output : wOutput.toList ≠ [101, 110, 100] := by rw [tl_output]; decide
theorem tl_end : wEnd.toList = [101, 110, 100] := by rw [Lib.toList_data]; rfl
theorem tl_circuit : wCircuit.toList = [99, 105, 114, 99, 117, 105, 116] := by rw [Lib.toList_data]; rfl
theorem tl_w0 : w0.toList = [48] := by rw [Lib.toList_data]; rfl
theorem tl_w1 : w1.toList = [49] := by rw [Lib.toList_data]; rfl
theorem shape2 {ws : List Wd} {a b : ByteArray} (h : ws.map Wd.text = [a, b]) : ∃ x w, ws = [x, w] ∧ x.text = a ∧ w.text = b := by
  obtain ⟨x, l1, rfl, h0, h⟩ := List.map_eq_cons_iff.1 h
  obtain ⟨w, l2, rfl, h1, h⟩ := List.map_eq_cons_iff.1 h
  obtain rfl := List.map_eq_nil_iff.1 h
  exact ⟨x, w, rfl, h0, h1⟩
theorem shape4 {ws : List Wd} {a b c d : ByteArray} (h : ws.map Wd.text = [a, b, c, d]) : ∃ x w w2 w3, ws = [x, w, w2, w3] ∧ x.text = a ∧ w.text = b ∧ w2.text = c ∧ w3.text = d := by
  obtain ⟨x, l1, rfl, h0, h⟩ := List.map_eq_cons_iff.1 h
  obtain ⟨w, l2, rfl, h1, h⟩ := List.map_eq_cons_iff.1 h
  obtain ⟨w2, l3, rfl, h2, h⟩ := List.map_eq_cons_iff.1 h
  obtain ⟨w3, l4, rfl, h3, h⟩ := List.map_eq_cons_iff.1 h
  obtain rfl := List.map_eq_nil_iff.1 h
  exact ⟨x, w, w2, w3, rfl, h0, h1, h2, h3⟩
theorem shape5 {ws : List Wd} {a b c d e : ByteArray} (h : ws.map Wd.text = [a, b, c, d, e]) : ∃ x w w2 w3 w4, ws = [x, w, w2, w3, w4] ∧ x.text = a ∧ w.text = b ∧ w2.text = c ∧ w3.text = d ∧ w4.text = e := by
  obtain ⟨x, l1, rfl, h0, h⟩ := List.map_eq_cons_iff.1 h
  obtain ⟨w, l2, rfl, h1, h⟩ := List.map_eq_cons_iff.1 h
  obtain ⟨w2, l3, rfl, h2, h⟩ := List.map_eq_cons_iff.1 h
  obtain ⟨w3, l4, rfl, h3, h⟩ := List.map_eq_cons_iff.1 h
  obtain ⟨w4, l5, rfl, h4, h⟩ := List.map_eq_cons_iff.1 h
  obtain rfl := List.map_eq_nil_iff.1 h
  exact ⟨x, w, w2, w3, w4, rfl, h0, h1, h2, h3, h4⟩
/-- Where a line's own name stands. -/
def spotOf (d : DL) : Int × Int := (d.2.2.1, match d.2.1[1]? with | some w => w.col | none => 0)
/-- A line of a circuit is read as that line. -/
theorem line_gate {gs : List Gt} {g : Gt} {n : Nat} {d : DL} (hok : d.ok) (ht : d.texts = wordsG gs g) (hN : NameP g.name) (hF : FieldsP g (n : Int)) (hnm : ∀ p : Int, 0 ≤ p → p < (n : Int) → NameP (nmOf gs p)) (hd : r.done = false) (hg : r.gs.length < 65536) (hf : r.f g.name = 0) :
    ∃ l, r.line d.2.1 d.2.2.1 d.2.2.2 d.1 false = (r.more g l (spotOf d), (0, 0, 0)) ∧ l.map Us.name = (opsOf g).map (nmOf gs) := by
  obtain ⟨y, ws, no, e⟩ := d
  have hok' : ws.head? = some y := hok
  have ht' : ws.map Wd.text = wordsG gs g := ht
  rcases hF with ⟨hk, h0, ha, hb, hc⟩ | ⟨hk, h0, h1, ha, hb, hc⟩ | ⟨hk, h0, h1, ha, hb, hc⟩ | ⟨hk, h0, ha, hb, hc⟩
  · unfold wordsG at ht'
    rw [if_pos hk] at ht'
    obtain ⟨x, w, rfl, t0, t1⟩ := shape2 ht'
    obtain rfl : x = y := Option.some.inj hok'
    have hw : wnt x.text = [110] := by rw [t0]; exact wnt_input
    have ho : isOut x.text = false := by rw [t0]; exact out_input
    have hgo : dgo r.f no e (if isOut x.text = true then -1 else (r.gs.length : Int)) [x, w] (wnt x.text) 0 ac0 = ({ ac0 with nm := w.text, np := (no, w.col) }, (0, 0, 0)) := by
      rw [hw, dgo_go (w := w) rfl (dstep_n (by rw [t1]; exact nameB_true hN) (by rw [t1]; exact hf))]
      rfl
    refine ⟨[], ?_, by unfold opsOf; rw [hk]; rfl⟩
    show r.line [x, w] no e x false = _
    rw [item_good hd (by rw [hw]; decide) (by rw [t0]; exact ne_input) (fun t => by rw [ho] at t; cases t) (fun _ => hg) hgo (by rw [hw]; rfl)]
    unfold Rd.put Rd.more blankG
    rw [if_neg (by rw [ho]; decide), hk, h0]
    simp only [uflat, ac0]
    rw [t1, show knd x.text = 1 by rw [t0]; exact knd_input]
    rfl
  · unfold wordsG at ht'
    rw [if_neg (by omega), if_pos hk] at ht'
    obtain ⟨x, w, w2, w3, w4, rfl, t0, t1, t2, t3, t4⟩ := shape5 ht'
    obtain rfl : x = y := Option.some.inj hok'
    have hw : wnt x.text = [110, 111, 117, 117] := by rw [t0]; exact wnt_gate
    have ho : isOut x.text = false := by rw [t0]; exact out_gate
    have hop : opIx w2.text = g.op := by rw [t2]; exact opIx_opW h0 h1
    have hgo : dgo r.f no e (if isOut x.text = true then -1 else (r.gs.length : Int)) [x, w, w2, w3, w4] (wnt x.text) 0 ac0 = (⟨w.text, opIx w2.text, (no, w.col), [⟨w3.text, no, w3.col, (r.gs.length : Int), 0⟩, ⟨w4.text, no, w4.col, (r.gs.length : Int), 1⟩]⟩, (0, 0, 0)) := by
      rw [hw, if_neg (by rw [ho]; decide), dgo_go (w := w) rfl (dstep_n (by rw [t1]; exact nameB_true hN) (by rw [t1]; exact hf)), dgo_go (w := w2) rfl (dstep_o (by rw [hop]; exact h0)), dgo_go (w := w3) rfl (dstep_u (by rw [t3]; exact nameB_true (hnm _ ha.1 ha.2))), dgo_go (w := w4) rfl (dstep_u (by rw [t4]; exact nameB_true (hnm _ hb.1 hb.2)))]
      rfl
    refine ⟨[⟨w3.text, no, w3.col⟩, ⟨w4.text, no, w4.col⟩], ?_, by unfold opsOf; rw [if_pos hk]; simp [t3, t4]⟩
    show r.line [x, w, w2, w3, w4] no e x false = _
    rw [item_good hd (by rw [hw]; decide) (by rw [t0]; exact ne_gate) (fun t => by rw [ho] at t; cases t) (fun _ => hg) hgo (by rw [hw]; rfl)]
    unfold Rd.put Rd.more blankG
    rw [if_neg (by rw [ho]; decide), hk]
    simp only [uflat]
    rw [t1, hop, show knd x.text = 2 by rw [t0]; exact knd_gate]
    rfl
  · unfold wordsG at ht'
    rw [if_neg (by omega), if_neg (by omega), if_neg (by omega)] at ht'
    obtain ⟨x, w, w2, w3, rfl, t0, t1, t2, t3⟩ := shape4 ht'
    obtain rfl : x = y := Option.some.inj hok'
    have hw : wnt x.text = [110, 102, 117] := by rw [t0]; exact wnt_latch
    have ho : isOut x.text = false := by rw [t0]; exact out_latch
    have hbit : bitB w2.text = true ∧ (if w2.text.toList = [49] then (1 : Int) else 0) = g.op := by
      rw [t2]
      by_cases h : g.op = 1
      · rw [if_pos h, h]; unfold bitB; rw [tl_w1]; decide
      · rw [if_neg h, show g.op = 0 by omega]; unfold bitB; rw [tl_w0]; decide
    have hgo : dgo r.f no e (if isOut x.text = true then -1 else (r.gs.length : Int)) [x, w, w2, w3] (wnt x.text) 0 ac0 = (⟨w.text, g.op, (no, w.col), [⟨w3.text, no, w3.col, (r.gs.length : Int), 0⟩]⟩, (0, 0, 0)) := by
      rw [hw, if_neg (by rw [ho]; decide), dgo_go (w := w) rfl (dstep_n (by rw [t1]; exact nameB_true hN) (by rw [t1]; exact hf)), dgo_go (w := w2) rfl (dstep_f hbit.1), dgo_go (w := w3) rfl (dstep_u (by rw [t3]; exact nameB_true (hnm _ ha.1 ha.2)))]
      rw [← hbit.2]
      rfl
    refine ⟨[⟨w3.text, no, w3.col⟩], ?_, by unfold opsOf; rw [if_neg (by omega), if_neg (by omega), if_pos hk]; simp [t3]⟩
    show r.line [x, w, w2, w3] no e x false = _
    rw [item_good hd (by rw [hw]; decide) (by rw [t0]; exact ne_latch) (fun t => by rw [ho] at t; cases t) (fun _ => hg) hgo (by rw [hw]; rfl)]
    unfold Rd.put Rd.more blankG
    rw [if_neg (by rw [ho]; decide), hk]
    simp only [uflat]
    rw [t1, show knd x.text = 3 by rw [t0]; exact knd_latch]
    rfl
  · unfold wordsG at ht'
    rw [if_neg (by omega), if_neg (by omega), if_pos hk] at ht'
    obtain ⟨x, w, w2, w3, w4, rfl, t0, t1, t2, t3, t4⟩ := shape5 ht'
    obtain rfl : x = y := Option.some.inj hok'
    have hw : wnt x.text = [110, 117, 117, 117] := by rw [t0]; exact wnt_mux
    have ho : isOut x.text = false := by rw [t0]; exact out_mux
    have hgo : dgo r.f no e (if isOut x.text = true then -1 else (r.gs.length : Int)) [x, w, w2, w3, w4] (wnt x.text) 0 ac0 = (⟨w.text, 0, (no, w.col), [⟨w2.text, no, w2.col, (r.gs.length : Int), 0⟩, ⟨w3.text, no, w3.col, (r.gs.length : Int), 1⟩, ⟨w4.text, no, w4.col, (r.gs.length : Int), 2⟩]⟩, (0, 0, 0)) := by
      rw [hw, if_neg (by rw [ho]; decide), dgo_go (w := w) rfl (dstep_n (by rw [t1]; exact nameB_true hN) (by rw [t1]; exact hf)), dgo_go (w := w2) rfl (dstep_u (by rw [t2]; exact nameB_true (hnm _ ha.1 ha.2))), dgo_go (w := w3) rfl (dstep_u (by rw [t3]; exact nameB_true (hnm _ hb.1 hb.2))), dgo_go (w := w4) rfl (dstep_u (by rw [t4]; exact nameB_true (hnm _ hc.1 hc.2)))]
      rfl
    refine ⟨[⟨w2.text, no, w2.col⟩, ⟨w3.text, no, w3.col⟩, ⟨w4.text, no, w4.col⟩], ?_, by unfold opsOf; rw [if_neg (by omega), if_pos hk]; simp [t2, t3, t4]⟩
    show r.line [x, w, w2, w3, w4] no e x false = _
    rw [item_good hd (by rw [hw]; decide) (by rw [t0]; exact ne_mux) (fun t => by rw [ho] at t; cases t) (fun _ => hg) hgo (by rw [hw]; rfl)]
    unfold Rd.put Rd.more blankG
    rw [if_neg (by rw [ho]; decide), hk, h0]
    simp only [uflat]
    rw [t1, show knd x.text = 4 by rw [t0]; exact knd_mux]
    rfl
theorem line_circuit {d : DL} {name : ByteArray} (hok : d.ok) (ht : d.texts = [wCircuit, name]) (hN : NameP name) (hd : r.done = false) : r.line d.2.1 d.2.2.1 d.2.2.2 d.1 true = ({ r with name := name }, (0, 0, 0)) := by
  obtain ⟨y, ws, no, e⟩ := d
  have hok' : ws.head? = some y := hok
  obtain ⟨x, w, rfl, t0, t1⟩ := shape2 (show ws.map Wd.text = [wCircuit, name] from ht)
  obtain rfl : x = y := Option.some.inj hok'
  show r.line [x, w] no e x true = _
  unfold Rd.line
  rw [if_neg (by rintro (t | t); exact t.2 (by rw [t0]; exact tl_circuit); rw [hd] at t; cases t), if_pos rfl]
  show (if nameB w.text = true then _ else _) = _
  rw [if_pos (by rw [t1]; exact nameB_true hN), t1]
  rfl
theorem line_output {gs : List Gt} {p : Int} {d : DL} (hok : d.ok) (ht : d.texts = [wOutput, nmOf gs p]) (hN : NameP (nmOf gs p)) (hd : r.done = false) (hl : r.outs.length < 65536) :
    ∃ u : Us, r.line d.2.1 d.2.2.1 d.2.2.2 d.1 false = ({ r with outs := r.outs ++ [0], us := r.us ++ uflat (-1) [u] 0 }, (0, 0, 0)) ∧ u.name = nmOf gs p := by
  obtain ⟨y, ws, no, e⟩ := d
  have hok' : ws.head? = some y := hok
  obtain ⟨x, w, rfl, t0, t1⟩ := shape2 (show ws.map Wd.text = [wOutput, nmOf gs p] from ht)
  obtain rfl : x = y := Option.some.inj hok'
  have hw : wnt x.text = [117] := by rw [t0]; exact wnt_output
  have ho : isOut x.text = true := by rw [t0]; exact out_output
  have hgo : dgo r.f no e (if isOut x.text = true then -1 else (r.gs.length : Int)) [x, w] (wnt x.text) 0 ac0 = (⟨⟨#[]⟩, 0, (0, 0), [⟨w.text, no, w.col, -1, 0⟩]⟩, (0, 0, 0)) := by
    rw [hw, if_pos ho, dgo_go (w := w) rfl (dstep_u (by rw [t1]; exact nameB_true hN))]
    rfl
  refine ⟨⟨w.text, no, w.col⟩, ?_, t1⟩
  show r.line [x, w] no e x false = _
  rw [item_good hd (by rw [hw]; decide) (by rw [t0]; exact ne_output) (fun _ => hl) (fun t => by rw [ho] at t; cases t) hgo (by rw [hw]; rfl)]
  unfold Rd.put
  rw [if_pos ho]
  rfl
theorem line_end {d : DL} (hok : d.ok) (ht : d.texts = [wEnd]) (hd : r.done = false) : r.line d.2.1 d.2.2.1 d.2.2.2 d.1 false = ({ r with done := true }, (0, 0, 0)) := by
  obtain ⟨y, ws, no, e⟩ := d
  have hok' : ws.head? = some y := hok
  obtain ⟨x, l1, rfl, t0, h⟩ := List.map_eq_cons_iff.1 (show ws.map Wd.text = [wEnd] from ht)
  obtain rfl := List.map_eq_nil_iff.1 h
  obtain rfl : x = y := Option.some.inj hok'
  show r.line [x] no e x false = _
  unfold Rd.line
  rw [if_neg (by rintro (t | t); exact absurd t.1 (by decide); rw [hd] at t; cases t), if_neg (by decide), if_pos (by rw [t0]; exact tl_end)]
  rfl
theorem rgo_cons {first : Bool} {d : DL} {D : List DL} {r' : Rd} (h : r.line d.2.1 d.2.2.1 d.2.2.2 d.1 first = (r', (0, 0, 0))) : rgo r first (d :: D) = rgo r' false D := by
  obtain ⟨y, ws, no, e⟩ := d
  conv => lhs; unfold rgo
  have h' : r.line ws no e y first = (r', (0, 0, 0)) := h
  rw [h', if_pos rfl]
end
/-- The names used by the lines from the i-th on. -/
def usFrom : Nat → List (List Us) → List Du
  | _, [] => []
  | i, l :: ls => uflat (i : Int) l 0 ++ usFrom (i + 1) ls
theorem usFrom_snoc : ∀ (ls : List (List Us)) (i : Nat) (l : List Us), usFrom i (ls ++ [l]) = usFrom i ls ++ uflat ((i + ls.length : Nat) : Int) l 0
  | [], i, l => by simp [usFrom]
  | k :: ls, i, l => by
    have h := usFrom_snoc ls (i + 1) l
    simp only [List.cons_append, usFrom, List.length_cons]
    rw [h, List.append_assoc, show i + 1 + ls.length = i + (ls.length + 1) by omega]
/-- The document's reading behind the lines of gs1. -/
structure GS (all gs1 : List Gt) (r : Rd) (Ls : List (List Us)) : Prop where
  gs : r.gs = gs1.map blankG
  os : r.outs = []
  dn : r.done = false
  us : r.us = usFrom 0 Ls
  ll : Ls.map (fun l => l.map Us.name) = gs1.map (fun g => (opsOf g).map (nmOf all))
  fk : ∀ (i : Nat) g, gs1[i]? = some g → r.f g.name = ((i + 1 : Nat) : Int)
  fz : ∀ t, (∀ g ∈ gs1, g.name ≠ t) → r.f t = 0
theorem nmOf_name {gs : List Gt} (h : ∀ g ∈ gs, NameP g.name) (p : Int) (h0 : 0 ≤ p) (h1 : p < (gs.length : Int)) : NameP (nmOf gs p) := by
  unfold nmOf
  have hp : p.toNat < gs.length := by omega
  rw [List.getElem?_eq_getElem hp]
  exact h _ (List.getElem_mem hp)
theorem rgo_gates {all : List Gt} (hL : LinesP all.length all) (hnd : (all.map Gt.name).Nodup) (hlen : all.length ≤ 65536) : ∀ (gs2 gs1 : List Gt) (D : List DL) (r : Rd) (Ls : List (List Us)), all = gs1 ++ gs2 → D.map DL.texts = gs2.map (wordsG all) → (∀ d ∈ D, d.ok) → GS all gs1 r Ls →
    ∀ rest, ∃ r' Ls', rgo r false (D ++ rest) = rgo r' false rest ∧ GS all all r' Ls' ∧ r'.spots = r.spots ++ D.map spotOf ∧ r'.name = r.name
  | [], gs1, D, r, Ls, ha, hD, _, hG, rest => by
    have : D = [] := List.map_eq_nil_iff.1 hD
    subst this
    rw [List.append_nil] at ha
    subst ha
    exact ⟨r, Ls, rfl, hG, by simp, rfl⟩
  | g :: gs2, gs1, D, r, Ls, ha, hD, hok, hG, rest => by
    obtain ⟨d, D', rfl, hd, hD'⟩ := List.map_eq_cons_iff.1 hD
    have hg : g ∈ all := by rw [ha]; simp
    have hnew : ∀ x ∈ gs1, x.name ≠ g.name := fun x hx e => by
      rw [ha, List.map_append, List.nodup_append] at hnd
      exact hnd.2.2 x.name (List.mem_map.2 ⟨x, hx, rfl⟩) g.name (by simp) e
    have hll : Ls.length = gs1.length := by have := congrArg List.length hG.ll; simpa using this
    have hrl : r.gs.length = gs1.length := by rw [hG.gs, List.length_map]
    have hlt : gs1.length < all.length := by rw [ha]; simp
    obtain ⟨l, hline, hnm⟩ := line_gate (r := r) (hok d (by simp)) hd (hL g hg).1 (hL g hg).2 (fun p h0 h1 => nmOf_name (fun x hx => (hL x hx).1) p h0 h1) hG.dn (by omega) (hG.fz _ hnew)
    have hG2 : GS all (gs1 ++ [g]) (r.more g l (spotOf d)) (Ls ++ [l]) := by
      refine ⟨?_, hG.os, hG.dn, ?_, ?_, fun i x hx => ?_, fun t ht => ?_⟩
      · show r.gs ++ [blankG g] = _
        rw [hG.gs, List.map_append]; rfl
      · show r.us ++ uflat (r.gs.length : Int) l 0 = _
        rw [usFrom_snoc, ← hG.us, Nat.zero_add, hll, hrl]
      · rw [List.map_append, List.map_append, hG.ll]
        simp [hnm]
      · show (if x.name = g.name then ((r.gs.length + 1 : Nat) : Int) else r.f x.name) = _
        by_cases hi : i < gs1.length
        · rw [List.getElem?_append_left hi] at hx
          rw [if_neg (hnew x (List.mem_of_getElem? hx))]
          exact hG.fk i x hx
        · have hi2 : i = gs1.length := by
            have := (List.getElem?_eq_some_iff.1 hx).1
            simp at this
            omega
          subst hi2
          rw [List.getElem?_append_right (Nat.le_refl _), Nat.sub_self] at hx
          cases hx
          rw [if_pos rfl, hrl]
      · show (if t = g.name then _ else r.f t) = 0
        rw [if_neg (fun e => ht g (by simp) e.symm)]
        exact hG.fz t fun x hx => ht x (List.mem_append_left _ hx)
    obtain ⟨r', Ls', h1, h2, h3, h4⟩ := rgo_gates hL hnd hlen gs2 (gs1 ++ [g]) D' _ _ (by rw [ha]; simp) hD' (fun x hx => hok x (List.mem_cons_of_mem _ hx)) hG2 rest
    refine ⟨r', Ls', ?_, h2, ?_, h4⟩
    · rw [List.cons_append, rgo_cons hline]; exact h1
    · rw [h3]
      show r.spots ++ [spotOf d] ++ _ = _
      simp
theorem rgo_outs {all : List Gt} (hL : LinesP all.length all) : ∀ (outs : List Int) (D : List DL) (r : Rd), OutsP all.length outs → r.outs.length + outs.length ≤ 65536 → D.map DL.texts = outs.map (fun p => [wOutput, nmOf all p]) → (∀ d ∈ D, d.ok) → r.done = false →
    ∀ rest, ∃ vs : List Us, rgo r false (D ++ rest) = rgo { r with outs := r.outs ++ List.replicate outs.length 0, us := r.us ++ vs.flatMap fun u => uflat (-1) [u] 0 } false rest ∧ vs.map Us.name = outs.map (nmOf all)
  | [], D, r, _, _, hD, _, _, rest => by
    have : D = [] := List.map_eq_nil_iff.1 hD
    subst this
    exact ⟨[], by simp, rfl⟩
  | p :: outs, D, r, hO, hl, hD, hok, hd, rest => by
    obtain ⟨d, D', rfl, hd1, hD'⟩ := List.map_eq_cons_iff.1 hD
    have hp := hO p (by simp)
    rw [List.length_cons] at hl
    obtain ⟨u, hline, hnm⟩ := line_output (r := r) (hok d (by simp)) hd1 (nmOf_name (fun x hx => (hL x hx).1) p hp.1 hp.2) hd (by omega)
    obtain ⟨vs, h1, h2⟩ := rgo_outs hL outs D' { r with outs := r.outs ++ [0], us := r.us ++ uflat (-1) [u] 0 } (fun x hx => hO x (List.mem_cons_of_mem _ hx)) (by show (r.outs ++ [0]).length + outs.length ≤ 65536; rw [List.length_append, List.length_singleton]; omega) hD' (fun x hx => hok x (List.mem_cons_of_mem _ hx)) hd rest
    refine ⟨u :: vs, ?_, by simp [hnm, h2]⟩
    rw [List.cons_append, rgo_cons hline, h1]
    congr 2
    · simp [List.replicate_succ]
    · simp
theorem opn_of {all : List Gt} {f : ByteArray → Int} (hf : ∀ p : Int, 0 ≤ p → p < (all.length : Int) → f (nmOf all p) = p + 1) {l : List Us} {ps : List Int} (h : l.map Us.name = ps.map (nmOf all)) (hp : ∀ p ∈ ps, 0 ≤ p ∧ p < (all.length : Int)) (j : Nat) : opn f l j = (ps[j]?).getD 0 := by
  have hj : (l.map Us.name)[j]? = (ps.map (nmOf all))[j]? := by rw [h]
  rw [List.getElem?_map, List.getElem?_map] at hj
  unfold opn
  cases hl : l[j]? with
  | none =>
    rw [hl] at hj
    cases hq : ps[j]? with
    | none => rfl
    | some q => rw [hq] at hj; cases hj
  | some u =>
    rw [hl] at hj
    cases hq : ps[j]? with
    | none => rw [hq] at hj; cases hj
    | some q =>
      rw [hq] at hj
      have e : u.name = nmOf all q := Option.some.inj hj
      have := hp q (List.mem_of_getElem? hq)
      show f u.name - 1 = q
      rw [e, hf q this.1 this.2]
      omega
theorem bad_none {all : List Gt} {f : ByteArray → Int} (hf : ∀ p : Int, 0 ≤ p → p < (all.length : Int) → f (nmOf all p) = p + 1) {l : List Us} {ps : List Int} (h : l.map Us.name = ps.map (nmOf all)) (hp : ∀ p ∈ ps, 0 ≤ p ∧ p < (all.length : Int)) : ∀ u ∈ l, f u.name ≠ 0 := fun u hu => by
  have : u.name ∈ ps.map (nmOf all) := by rw [← h]; exact List.mem_map.2 ⟨u, hu, rfl⟩
  obtain ⟨p, hpp, e⟩ := List.mem_map.1 this
  have h2 := hp p hpp
  rw [← e, hf p h2.1 h2.2]
  omega
theorem opsOf_in {g : Gt} {n : Nat} (h : FieldsP g (n : Int)) : (∀ p ∈ opsOf g, 0 ≤ p ∧ p < (n : Int)) ∧ (opsOf g).length ≤ 3 ∧ ((opsOf g)[0]?).getD 0 = g.a ∧ ((opsOf g)[1]?).getD 0 = g.b ∧ ((opsOf g)[2]?).getD 0 = g.c := by
  unfold opsOf
  rcases h with ⟨hk, _, ha, hb, hc⟩ | ⟨hk, _, _, ha, hb, hc⟩ | ⟨hk, _, _, ha, hb, hc⟩ | ⟨hk, _, ha, hb, hc⟩
  · rw [if_neg (by omega), if_neg (by omega), if_neg (by omega)]
    exact ⟨fun p hp => (by cases hp), by decide, ha.symm, hb.symm, hc.symm⟩
  · rw [if_pos hk]
    refine ⟨fun p hp => ?_, by simp, rfl, rfl, hc.symm⟩
    simp only [List.mem_cons, List.not_mem_nil, or_false] at hp
    rcases hp with rfl | rfl <;> assumption
  · rw [if_neg (by omega), if_neg (by omega), if_pos hk]
    refine ⟨fun p hp => ?_, by simp, rfl, hb.symm, hc.symm⟩
    simp only [List.mem_cons, List.not_mem_nil, or_false] at hp
    rw [hp]; exact ha
  · rw [if_neg (by omega), if_pos hk]
    refine ⟨fun p hp => ?_, by simp, rfl, rfl, rfl⟩
    simp only [List.mem_cons, List.not_mem_nil, or_false] at hp
    rcases hp with rfl | rfl | rfl <;> assumption
theorem set_mid {α : Type} (l t : List α) (x y : α) : (l ++ x :: t).set l.length y = l ++ y :: t := by
  rw [List.set_append_right _ _ (Nat.le_refl _), Nat.sub_self]; rfl
theorem dres_gates {all : List Gt} {f : ByteArray → Int} (hL : LinesP all.length all) (hf : ∀ p : Int, 0 ≤ p → p < (all.length : Int) → f (nmOf all p) = p + 1) (os : List Int) (rest : List Du) :
    ∀ (gs2 gs1 : List Gt) (Ls : List (List Us)), all = gs1 ++ gs2 → Ls.map (fun l => l.map Us.name) = gs2.map (fun g => (opsOf g).map (nmOf all)) → dres f (usFrom gs1.length Ls ++ rest) 0 (gs1 ++ gs2.map blankG) os = dres f rest 0 all os
  | [], gs1, Ls, ha, hl => by
    have : Ls = [] := List.map_eq_nil_iff.1 hl
    subst this
    rw [List.append_nil] at ha
    rw [ha]
    simp [usFrom]
  | g :: gs2, gs1, Ls, ha, hl => by
    obtain ⟨l, Ls', rfl, h1, h2⟩ := List.map_eq_cons_iff.1 hl
    have hg : g ∈ all := by rw [ha]; simp
    obtain ⟨o1, o2, o3, o4, o5⟩ := opsOf_in (hL g hg).2
    have hll : l.length ≤ 3 := by
      have := congrArg List.length h1
      rw [List.length_map, List.length_map] at this
      omega
    have hat : (gs1 ++ (g :: gs2).map blankG)[gs1.length]? = some (blankG g) := by
      rw [List.getElem?_append_right (Nat.le_refl _), Nat.sub_self]; rfl
    have hu : usFrom gs1.length (l :: Ls') ++ rest = uflat (gs1.length : Int) l 0 ++ (usFrom (gs1.length + 1) Ls' ++ rest) := by
      simp only [usFrom]
      rw [List.append_assoc]
    rw [hu]
    rcases dres_list (f := f) (os := os) (o := 0) hat ⟨rfl, rfl, rfl⟩ (usFrom (gs1.length + 1) Ls' ++ rest) l hll with ⟨u, hb, _⟩ | ⟨_, hd⟩
    · exfalso
      unfold firstBad at hb
      have h3 := List.find?_some hb
      have h4 := List.mem_of_find?_eq_some hb
      exact bad_none hf h1 o1 u h4 (by simpa using h3)
    · rw [hd, opn_of hf h1 o1, opn_of hf h1 o1, opn_of hf h1 o1, o3, o4, o5]
      have e : (gs1 ++ (g :: gs2).map blankG).set gs1.length ({ blankG g with a := g.a, b := g.b, c := g.c } : Gt) = (gs1 ++ [g]) ++ gs2.map blankG := by
        rw [List.map_cons, set_mid]
        simp [blankG]
      rw [e]
      have ih := dres_gates hL hf os rest gs2 (gs1 ++ [g]) Ls' (by rw [ha]; simp) h2
      rw [List.length_append, List.length_singleton] at ih
      exact ih
theorem dres_outs {all : List Gt} {f : ByteArray → Int} (hf : ∀ p : Int, 0 ≤ p → p < (all.length : Int) → f (nmOf all p) = p + 1) (gs : List Gt) :
    ∀ (outs2 outs1 : List Int) (vs : List Us), OutsP all.length outs2 → vs.map Us.name = outs2.map (nmOf all) → dres f (vs.flatMap fun u => uflat (-1) [u] 0) outs1.length gs (outs1 ++ List.replicate outs2.length 0) = (gs, outs1 ++ outs2, (0, 0, 0))
  | [], outs1, vs, _, hv => by
    have : vs = [] := List.map_eq_nil_iff.1 hv
    subst this
    simp [dres]
  | p :: outs2, outs1, vs, hO, hv => by
    obtain ⟨u, vs', rfl, h1, h2⟩ := List.map_eq_cons_iff.1 hv
    have hp := hO p (by simp)
    have hfu : f u.name = p + 1 := by rw [h1]; exact hf p hp.1 hp.2
    have e1 : ((u :: vs').flatMap fun u => uflat (-1) [u] 0) = ⟨u.name, u.line, u.col, -1, 0⟩ :: vs'.flatMap fun u => uflat (-1) [u] 0 := by simp [uflat]
    rw [e1, dres_out (by show f u.name ≠ 0; rw [hfu]; omega) (by show (-1 : Int) < 0; decide)]
    have e2 : (outs1 ++ List.replicate (p :: outs2).length 0).set outs1.length (f u.name - 1) = (outs1 ++ [p]) ++ List.replicate outs2.length 0 := by
      rw [List.length_cons, List.replicate_succ, set_mid, hfu, Int.add_sub_cancel]
      simp
    show dres f _ (outs1.length + 1) gs ((outs1 ++ List.replicate (p :: outs2).length 0).set outs1.length (f u.name - 1)) = _
    rw [e2]
    have ih := dres_outs hf gs outs2 (outs1 ++ [p]) vs' (fun x hx => hO x (List.mem_cons_of_mem _ hx)) h2
    rw [List.length_append, List.length_singleton] at ih
    rw [ih]
    simp
/-- The words of a circuit's text, line by line. -/
def docL (c : Ct) : List (List ByteArray) := [wCircuit, c.name] :: (c.gs.map (wordsG c.gs) ++ (c.outs.map (fun p => [wOutput, nmOf c.gs p]) ++ [[wEnd]]))
theorem dlines_ok : ∀ (ls : List ByteArray) (i : Nat), ∀ d ∈ dlines ls i, DL.ok d
  | [], _, d, h => by cases h
  | l :: ls, i, d, h => by
    unfold dlines at h
    split at h
    · exact dlines_ok ls (i + 1) d h
    · rcases List.mem_cons.1 h with rfl | h
      · rfl
      · exact dlines_ok ls (i + 1) d h
/-- A text whose lines' words are a circuit's is read as that circuit; or its first line in a circle is told, where its name stands. -/
theorem read_back {text : ByteArray} {c : Ct} (hs : text.size ≤ 1048576) (hN : NetP c) {D : List DL} (hD : dlines (linesOf text) 0 = D) (ht : D.map DL.texts = docL c) :
    parseOut text = if 0 ≤ circOf c.gs then Out.bad (143, (((D.drop 1).map spotOf).getD (circOf c.gs).toNat (0, 0)).1, (((D.drop 1).map spotOf).getD (circOf c.gs).toNat (0, 0)).2) else ⟨(0, 0, 0), c.name, c.gs, c.outs⟩ := by
  have hok : ∀ d ∈ D, d.ok := fun d hd => dlines_ok (linesOf text) 0 d (by rw [hD]; exact hd)
  obtain ⟨d0, D1, rfl, ht0, ht1⟩ := List.map_eq_cons_iff.1 ht
  obtain ⟨Dg, D2, rfl, htg, ht2⟩ := List.map_eq_append_iff.1 ht1
  obtain ⟨Do, D3, rfl, hto, ht3⟩ := List.map_eq_append_iff.1 ht2
  obtain ⟨de, D4, rfl, hte, ht4⟩ := List.map_eq_cons_iff.1 ht3
  obtain rfl := List.map_eq_nil_iff.1 ht4
  have h0 := rgo_cons (D := Dg ++ (Do ++ [de])) (line_circuit (r := Rd.zero) (hok d0 (by simp)) ht0 hN.name rfl)
  obtain ⟨r1, Ls, h1, hG, hsp, hnm⟩ := rgo_gates hN.lines hN.nd hN.gl c.gs [] Dg { Rd.zero with name := c.name } [] rfl htg (fun d hd => hok d (by simp [hd])) ⟨rfl, rfl, rfl, rfl, rfl, fun i g h => (by cases h), fun t _ => rfl⟩ (Do ++ [de])
  obtain ⟨vs, h2, hvs⟩ := rgo_outs hN.lines c.outs Do r1 hN.outs (by rw [hG.os]; simpa using hN.ol) hto (fun d hd => hok d (by simp [hd])) hG.dn [de]
  have h3 := rgo_cons (D := []) (line_end (r := { r1 with outs := r1.outs ++ List.replicate c.outs.length 0, us := r1.us ++ vs.flatMap fun u => uflat (-1) [u] 0 }) (hok de (by simp)) hte hG.dn)
  have hrun : rgo Rd.zero true (dlines (linesOf text) 0) = ({ r1 with outs := r1.outs ++ List.replicate c.outs.length 0, us := r1.us ++ (vs.flatMap fun u => uflat (-1) [u] 0), done := true }, (0, 0, 0)) := by
    rw [hD, h0, h1, h2, h3]
    rfl
  have hf : ∀ p : Int, 0 ≤ p → p < (c.gs.length : Int) → r1.f (nmOf c.gs p) = p + 1 := fun p hp0 hp1 => by
    have hlt : p.toNat < c.gs.length := by omega
    have hg := List.getElem?_eq_getElem hlt
    have := hG.fk p.toNat _ hg
    unfold nmOf
    rw [hg]
    show r1.f (c.gs[p.toNat]).name = _
    rw [this]
    omega
  have hd : dres r1.f (r1.us ++ vs.flatMap fun u => uflat (-1) [u] 0) 0 r1.gs (r1.outs ++ List.replicate c.outs.length 0) = (c.gs, c.outs, (0, 0, 0)) := by
    rw [hG.us, hG.gs, hG.os]
    have e1 := dres_gates hN.lines hf ([] ++ List.replicate c.outs.length 0) (vs.flatMap fun u => uflat (-1) [u] 0) c.gs [] Ls rfl hG.ll
    rw [List.nil_append, List.length_nil] at e1
    rw [e1]
    have e2 := dres_outs hf c.gs c.outs [] vs hN.outs hvs
    rw [List.length_nil] at e2
    rw [e2]
    rfl
  unfold parseOut
  rw [if_neg (by omega), hrun]
  rw [if_neg (fun t => t rfl), if_neg (by show ¬ true = false; decide)]
  dsimp only
  rw [hd]
  dsimp only
  rw [if_neg (fun t => t rfl), hsp, hnm]
  have hdl : ∀ i : Nat, i < c.gs.length → (([] ++ Dg.map spotOf).getD i (0, 0) : Int × Int) = (((d0 :: (Dg ++ (Do ++ [de]))).drop 1).map spotOf).getD i (0, 0) := fun i hi => by
    have hlen : Dg.length = c.gs.length := by have := congrArg List.length htg; simpa using this
    simp only [List.nil_append, List.drop_succ_cons, List.drop_zero, List.map_append]
    rw [List.getD_eq_getElem?_getD, List.getD_eq_getElem?_getD, List.getElem?_append_left (by rw [List.length_map, hlen]; exact hi)]
  by_cases hc : 0 ≤ circOf c.gs
  · rw [if_pos hc, if_pos hc]
    have hlt : (circOf c.gs).toNat < c.gs.length := by
      rcases circOf_is hN.lines.inR with ⟨e, _⟩ | ⟨i, hi, e, _⟩
      · omega
      · rw [e]; omega
    show Out.bad (143, ((Rd.zero.spots ++ Dg.map spotOf).getD _ (0, 0)).1, _) = _
    rw [← hdl _ hlt]
    rfl
  · rw [if_neg hc, if_neg hc]
end Go.Proofs.YtjkmoahnociaiaaDoor
/- The lines of a text, and the words of a line, told byte by byte; a circuit's text, filled with blanks and notes. No program in sight. -/
namespace Go.Proofs.YtjkmoahnociaiaaDoor

/-- The lines of some bytes. -/
def linesL : List UInt8 → List (List UInt8)
  | [] => [[]]
  | c :: l => if c = 10 then [] :: linesL l else match linesL l with
    | [] => [[c]]
    | x :: xs => (c :: x) :: xs
theorem linesL_nl (l : List UInt8) : linesL (10 :: l) = [] :: linesL l := by simp [linesL]
theorem linesL_some (l : List UInt8) : ∃ x xs, linesL l = x :: xs := by
  cases l with
  | nil => exact ⟨_, _, rfl⟩
  | cons c l =>
    unfold linesL
    split
    · exact ⟨_, _, rfl⟩
    · split <;> exact ⟨_, _, rfl⟩
theorem linesL_cons {c : UInt8} (hc : c ≠ 10) {l x : List UInt8} {xs : List (List UInt8)} (h : linesL l = x :: xs) : linesL (c :: l) = (c :: x) :: xs := by
  unfold linesL
  rw [if_neg hc, h]
theorem linesL_one : ∀ (l : List UInt8), l.count 10 = 0 → linesL l = [l]
  | [], _ => rfl
  | c :: l, h => by
    rw [List.count_cons] at h
    have hc : c ≠ 10 := fun e => by rw [e] at h; simp at h
    exact linesL_cons hc (linesL_one l (by omega))
theorem splitK_lines : ∀ (l : List UInt8), Lib.splitK [10] 0 (l.count 10) l = linesL l
  | [] => rfl
  | c :: l => by
    have ih := splitK_lines l
    by_cases hc : c = 10
    · subst hc
      rw [List.count_cons, linesL_nl]
      simp only [beq_self_eq_true, if_true]
      have hx : Lib.index (10 :: l) [10] = 0 := by simp [Lib.index]
      unfold Lib.splitK
      rw [hx]
      simp [ih]
    · have hcount : (c :: l).count 10 = l.count 10 := by
        rw [List.count_cons, if_neg (by simpa using hc)]
        rfl
      rw [hcount]
      cases hk : l.count 10 with
      | zero =>
        rw [linesL_cons hc (linesL_one l hk)]
        rfl
      | succ k =>
        rw [hk] at ih
        have hne : ¬ (Lib.index l [10] == -1) = true := fun t => by
          have t2 : Lib.index l [10] = -1 := beq_iff_eq.1 t
          rw [Lib.index_one] at t2
          have h1 := Lib.indexByte_none t2
          have h2 : 10 ∈ l := List.count_pos_iff.1 (by omega)
          obtain ⟨j, hj⟩ := List.getElem?_of_mem h2
          exact h1 j hj
        have hge : -1 ≤ Lib.index l [10] := by rw [Lib.index_one]; exact Lib.indexByte_ge l 10
        have hne2 : Lib.index l [10] ≠ -1 := fun t => hne (beq_iff_eq.2 t)
        have hidx : Lib.index (c :: l) [10] = Lib.index l [10] + 1 := by
          conv => lhs; unfold Lib.index
          rw [if_neg (by simp; exact fun e => hc e.symm), if_neg hne]
        unfold Lib.splitK at ih ⊢
        rw [if_neg hne] at ih
        rw [hidx, if_neg (by intro t; have := beq_iff_eq.1 t; omega)]
        have hto : (Lib.index l [10] + 1).toNat = (Lib.index l [10]).toNat + 1 := by omega
        rw [hto, linesL_cons hc ih.symm]
        simp [Nat.add_right_comm]
theorem linesOf_data (s : ByteArray) : (linesOf s).map (·.data.toList) = linesL s.data.toList := by
  unfold linesOf
  rw [Lib.splitB_data]
  have : Lib.countB s nl = s.data.toList.count 10 := by
    show Lib.count s.data.toList [10] = _
    rw [Lib.count_one]
  rw [this]
  exact splitK_lines _
theorem linesL_append {a : List UInt8} (ha : 10 ∉ a) (b : List UInt8) : linesL (a ++ 10 :: b) = a :: linesL b := by
  induction a with
  | nil => exact linesL_nl b
  | cons c a ih =>
    have hc : c ≠ 10 := fun e => ha (by rw [e]; simp)
    rw [List.cons_append]
    exact linesL_cons hc (ih fun h => ha (List.mem_cons_of_mem _ h))
/-- The words of a line are these, wherever it begins. -/
def Txt (l : List UInt8) (ws : List ByteArray) : Prop := ∀ (n i : Nat) (e : Int), l.length + 1 ≤ n → (splitL n i e l).1.map Wd.text = ws
theorem Txt.nil : Txt [] [] := fun n i e hn => by
  match n, hn with
  | n + 1, _ => rfl
theorem Txt.hash (t : List UInt8) : Txt (35 :: t) [] := fun n i e hn => by
  match n, hn with
  | n + 1, _ =>
    unfold splitL
    rw [if_pos (by decide)]
    rfl
theorem splitL_blank {c : UInt8} (hc : blankC c = true) (t : List UInt8) (n i : Nat) (e : Int) : splitL (n + 1) i e (c :: t) = splitL n (i + 1) e t := by
  have h35 : (c == 35) = false := by
    unfold blankC at hc
    simp only [Bool.or_eq_true, beq_iff_eq] at hc
    rcases hc with (rfl | rfl) | rfl <;> decide
  conv => lhs; unfold splitL
  rw [if_neg (by rw [h35]; decide), if_pos hc]
theorem Txt.blank {c : UInt8} (hc : blankC c = true) {t : List UInt8} {ws : List ByteArray} (h : Txt t ws) : Txt (c :: t) ws := fun n i e hn => by
  match n, hn with
  | n + 1, hn =>
    rw [splitL_blank hc]
    exact h n (i + 1) e (by simp at hn; omega)
theorem headW_word : ∀ {w t : List UInt8}, (∀ c ∈ w, stopC c = false) → (t = [] ∨ ∃ c u, t = c :: u ∧ stopC c = true) → headW (w ++ t) = w
  | [], t, _, ht => by
    rcases ht with rfl | ⟨c, u, rfl, hc⟩
    · rfl
    · exact headW_stop hc
  | c :: w, t, hw, ht => by
    rw [List.cons_append, headW_cons (hw c (by simp)), headW_word (fun x hx => hw x (List.mem_cons_of_mem _ hx)) ht]
theorem splitL_word {w t : List UInt8} (h0 : w ≠ []) (hw : ∀ c ∈ w, stopC c = false) (ht : t = [] ∨ ∃ c u, t = c :: u ∧ stopC c = true) (n i : Nat) (e : Int) :
    splitL (n + 1) i e (w ++ t) = (⟨⟨w.toArray⟩, ((i + 1 : Nat) : Int)⟩ :: (splitL n (i + w.length) ((i + w.length + 1 : Nat) : Int) t).1, (splitL n (i + w.length) ((i + w.length + 1 : Nat) : Int) t).2) := by
  match w, h0 with
  | c :: w, _ =>
    have hh := headW_word hw ht
    have hc := hw c (by simp)
    have h35 : (c == 35) = false := by
      unfold stopC at hc
      simp only [Bool.or_eq_false_iff] at hc
      exact hc.2
    have hb : blankC c = false := by
      unfold stopC at hc
      simp only [Bool.or_eq_false_iff] at hc
      exact hc.1
    rw [List.cons_append] at hh ⊢
    conv => lhs; unfold splitL
    rw [if_neg (by rw [h35]; decide), if_neg (by rw [hb]; decide), hh]
    have hd : (c :: (w ++ t)).drop (c :: w).length = t := by
      rw [← List.cons_append]
      simp
    rw [hd]
theorem Txt.word {w t : List UInt8} (h0 : w ≠ []) (hw : ∀ c ∈ w, stopC c = false) (ht : t = [] ∨ ∃ c u, t = c :: u ∧ stopC c = true) {ws : List ByteArray} (h : Txt t ws) : Txt (w ++ t) (⟨w.toArray⟩ :: ws) := fun n i e hn => by
  match n, hn with
  | n + 1, hn =>
    rw [splitL_word h0 hw ht]
    show _ :: _ = _
    have hl : 0 < w.length := List.length_pos_iff.2 h0
    rw [h n _ _ (by rw [List.length_append] at hn; omega)]
theorem dlines_texts : ∀ (ls : List ByteArray) (i : Nat), (dlines ls i).map DL.texts = (ls.map fun l => (splitW l).1.map Wd.text).filter fun ws => !ws.isEmpty
  | [], _ => rfl
  | l :: ls, i => by
    have ih := dlines_texts ls (i + 1)
    unfold dlines
    cases hw : (splitW l).1 with
    | nil =>
      rw [ih, List.map_cons, hw]
      rfl
    | cons y t =>
      rw [List.map_cons, List.map_cons, hw]
      show _ = List.filter _ ((y :: t).map Wd.text :: _)
      rw [List.filter_cons, if_pos (by rfl), ← ih]
      rfl
/-- A word: some bytes, none of which parts words or lines. -/
def GoodW (w : ByteArray) : Prop := w.data.toList ≠ [] ∧ ∀ c ∈ w.data.toList, stopC c = false ∧ c ≠ 10
theorem name_good {s : ByteArray} (h : NameP s) : GoodW s := by
  obtain ⟨h1, _, h2⟩ := h
  refine ⟨fun e => ?_, fun c hc => ?_⟩
  · have : s.data.toList.length = s.size := Array.length_toList
    rw [e] at this
    simp at this
    omega
  · obtain ⟨j, hj⟩ := List.getElem?_of_mem hc
    have hlt : j < s.size := by
      have := (List.getElem?_eq_some_iff.1 hj).1
      rw [Array.length_toList] at this
      exact this
    have hcj : s[j] = c := by
      obtain ⟨a, b⟩ := List.getElem?_eq_some_iff.1 hj
      rw [← b]
      rfl
    have hr : RestP (c.toNat : Int) := by
      rcases h2 j hlt with ⟨_, t⟩ | ⟨_, t⟩
      · rw [hcj] at t; exact .inl t
      · rw [hcj] at t; exact t
    have hne : ∀ k : UInt8, (k.toNat = 32 ∨ k.toNat = 9 ∨ k.toNat = 13 ∨ k.toNat = 35 ∨ k.toNat = 10) → c ≠ k := fun k hk e => by
      rw [e] at hr
      unfold RestP LetP at hr
      omega
    have n1 := hne 32 (by decide); have n2 := hne 9 (by decide); have n3 := hne 13 (by decide); have n4 := hne 35 (by decide)
    refine ⟨?_, hne 10 (by decide)⟩
    unfold stopC blankC
    simp [n1, n2, n3, n4]
theorem consts_good : GoodW wCircuit ∧ GoodW wInput ∧ GoodW wGate ∧ GoodW wMux ∧ GoodW wLatch ∧ GoodW wOutput ∧ GoodW wEnd ∧ GoodW w0 ∧ GoodW w1 := by
  unfold GoodW; decide
theorem op_good {op : Int} (h0 : 0 ≤ op) (h1 : op ≤ 15) : GoodW (opW op) := by
  have key : ∀ k : Nat, k < 16 → GoodW (opWords.getD k ⟨#[]⟩) := by unfold GoodW; decide
  exact key op.toNat (by omega)
theorem words_good {c : Ct} (hN : NetP c) : ∀ ws ∈ docL c, (∀ w ∈ ws, GoodW w) ∧ ws ≠ [] := by
  have hnm : ∀ p : Int, 0 ≤ p → p < (c.gs.length : Int) → GoodW (nmOf c.gs p) := fun p h0 h1 => name_good (nmOf_name (fun g hg => (hN.lines g hg).1) p h0 h1)
  obtain ⟨k1, k2, k3, k4, k5, k6, k7, k8, k9⟩ := consts_good
  intro ws hws
  unfold docL at hws
  rcases List.mem_cons.1 hws with rfl | hws
  · refine ⟨fun w hw => ?_, by simp⟩
    simp only [List.mem_cons, List.not_mem_nil, or_false] at hw
    rcases hw with rfl | rfl
    · exact k1
    · exact name_good hN.name
  · rcases List.mem_append.1 hws with hws | hws
    · obtain ⟨g, hg, rfl⟩ := List.mem_map.1 hws
      obtain ⟨hn, hF⟩ := hN.lines g hg
      have hgn := name_good hn
      unfold wordsG
      rcases hF with ⟨hk, _, ha, hb, hc⟩ | ⟨hk, o1, o2, ha, hb, hc⟩ | ⟨hk, o1, o2, ha, hb, hc⟩ | ⟨hk, _, ha, hb, hc⟩
      · rw [if_pos hk]
        refine ⟨fun w hw => ?_, by simp⟩
        simp only [List.mem_cons, List.not_mem_nil, or_false] at hw
        rcases hw with rfl | rfl
        · exact k2
        · exact hgn
      · rw [if_neg (by omega), if_pos hk]
        refine ⟨fun w hw => ?_, by simp⟩
        simp only [List.mem_cons, List.not_mem_nil, or_false] at hw
        rcases hw with rfl | rfl | rfl | rfl | rfl
        · exact k3
        · exact hgn
        · exact op_good o1 o2
        · exact hnm _ ha.1 ha.2
        · exact hnm _ hb.1 hb.2
      · rw [if_neg (by omega), if_neg (by omega), if_neg (by omega)]
        refine ⟨fun w hw => ?_, by simp⟩
        simp only [List.mem_cons, List.not_mem_nil, or_false] at hw
        rcases hw with rfl | rfl | rfl | rfl
        · exact k5
        · exact hgn
        · split
          · exact k9
          · exact k8
        · exact hnm _ ha.1 ha.2
      · rw [if_neg (by omega), if_neg (by omega), if_pos hk]
        refine ⟨fun w hw => ?_, by simp⟩
        simp only [List.mem_cons, List.not_mem_nil, or_false] at hw
        rcases hw with rfl | rfl | rfl | rfl | rfl
        · exact k4
        · exact hgn
        · exact hnm _ ha.1 ha.2
        · exact hnm _ hb.1 hb.2
        · exact hnm _ hc.1 hc.2
    · rcases List.mem_append.1 hws with hws | hws
      · obtain ⟨p, hp, rfl⟩ := List.mem_map.1 hws
        refine ⟨fun w hw => ?_, by simp⟩
        simp only [List.mem_cons, List.not_mem_nil, or_false] at hw
        rcases hw with rfl | rfl
        · exact k6
        · exact hnm _ (hN.outs p hp).1 (hN.outs p hp).2
      · simp only [List.mem_cons, List.not_mem_nil, or_false] at hws
        subst hws
        refine ⟨fun w hw => ?_, by simp⟩
        simp only [List.mem_cons, List.not_mem_nil, or_false] at hw
        subst hw
        exact k7
/-- A circuit's text is its lines, one behind the other. -/
theorem textL_doc (c : Ct) : textL c = (docL c).flatMap lineL := by
  unfold textL docL gatesL otL
  rw [List.take_length, List.take_length]
  simp [List.flatMap_map]
/-- What may stand ahead of a byte. -/
def noteL : List UInt8 := [32, 35, 32, 103, 97, 116, 101, 32, 101, 110, 100, 32, 105, 110, 112, 117, 116, 10, 13]
def PreOk (c : UInt8) (pre : List UInt8) : Prop := pre = [] ∨ ((c = 32 ∨ c = 10) ∧ (pre = [32, 9] ∨ pre = [13] ∨ (c = 10 ∧ (pre = noteL ∨ pre = [10, 10, 32]))))
/-- A text that has been filled with blanks and notes. -/
inductive FillT : List UInt8 → List UInt8 → Prop
  | nil : FillT [] []
  | cons {c : UInt8} {pre l m : List UInt8} (h : PreOk c pre) (t : FillT l m) : FillT (c :: l) (pre ++ c :: m)
theorem fill_refl : ∀ l : List UInt8, FillT l l
  | [] => .nil
  | c :: l => .cons (pre := []) (.inl rfl) (fill_refl l)
theorem fill_word : ∀ {w rest m : List UInt8}, (∀ c ∈ w, stopC c = false ∧ c ≠ 10) → FillT (w ++ rest) m → ∃ m', m = w ++ m' ∧ FillT rest m'
  | [], rest, m, _, h => ⟨m, rfl, h⟩
  | c :: w, rest, m, hw, h => by
    rw [List.cons_append] at h
    cases h with
    | cons hp t =>
      obtain ⟨m', rfl, h'⟩ := fill_word (fun x hx => hw x (List.mem_cons_of_mem _ hx)) t
      have hc := hw c (by simp)
      rcases hp with rfl | ⟨hc2 | hc2, _⟩
      · exact ⟨m', rfl, h'⟩
      · rw [hc2] at hc; exact absurd hc.1 (by decide)
      · exact absurd hc2 hc.2
theorem fill_space {rest m : List UInt8} (h : FillT (32 :: rest) m) : ∃ bl m', m = bl ++ m' ∧ bl ≠ [] ∧ (∀ c ∈ bl, blankC c = true) ∧ FillT rest m' := by
  cases h with
  | cons hp t =>
    rcases hp with rfl | ⟨_, rfl | rfl | ⟨h, _⟩⟩
    · exact ⟨[32], _, rfl, by simp, by decide, t⟩
    · exact ⟨[32, 9, 32], _, rfl, by simp, by decide, t⟩
    · exact ⟨[13, 32], _, rfl, by simp, by decide, t⟩
    · cases h
theorem fill_nl {rest m : List UInt8} (h : FillT (10 :: rest) m) : ∃ X Ls m', (Txt X [] ∧ 10 ∉ X ∧ (X = [] ∨ ∃ c u, X = c :: u ∧ stopC c = true)) ∧ (∀ l ∈ Ls, Txt l []) ∧ (∀ a, 10 ∉ a → linesL (a ++ m) = (a ++ X) :: (Ls ++ linesL m')) ∧ FillT rest m' := by
  cases h with
  | cons hp t =>
    rename_i m'
    rcases hp with rfl | ⟨_, rfl | rfl | ⟨_, rfl | rfl⟩⟩
    · exact ⟨[], [], m', ⟨Txt.nil, by simp, .inl rfl⟩, by simp, fun a ha => by rw [List.nil_append, linesL_append ha]; simp, t⟩
    · refine ⟨[32, 9], [], m', ⟨Txt.blank rfl (Txt.blank rfl Txt.nil), by decide, .inr ⟨_, _, rfl, rfl⟩⟩, by simp, fun a ha => ?_, t⟩
      rw [← List.append_assoc, linesL_append (by rw [List.mem_append]; rintro (h | h); exact ha h; revert h; decide)]
      rfl
    · refine ⟨[13], [], m', ⟨Txt.blank rfl Txt.nil, by decide, .inr ⟨_, _, rfl, rfl⟩⟩, by simp, fun a ha => ?_, t⟩
      rw [← List.append_assoc, linesL_append (by rw [List.mem_append]; rintro (h | h); exact ha h; revert h; decide)]
      rfl
    · refine ⟨[32, 35, 32, 103, 97, 116, 101, 32, 101, 110, 100, 32, 105, 110, 112, 117, 116], [[13]], m', ⟨Txt.blank rfl (Txt.hash _), by decide, .inr ⟨_, _, rfl, rfl⟩⟩, fun l hl => ?_, fun a ha => ?_, t⟩
      · rw [List.mem_singleton.1 hl]; exact Txt.blank rfl Txt.nil
      · have e : a ++ (noteL ++ 10 :: m') = (a ++ [32, 35, 32, 103, 97, 116, 101, 32, 101, 110, 100, 32, 105, 110, 112, 117, 116]) ++ 10 :: ([13] ++ 10 :: m') := by simp [noteL]
        rw [e, linesL_append (by rw [List.mem_append]; rintro (h | h); exact ha h; revert h; decide), linesL_append (by decide)]
        rfl
    · refine ⟨[], [[], [32]], m', ⟨Txt.nil, by simp, .inl rfl⟩, fun l hl => ?_, fun a ha => ?_, t⟩
      · simp only [List.mem_cons, List.not_mem_nil, or_false] at hl
        rcases hl with rfl | rfl
        · exact Txt.nil
        · exact Txt.blank rfl Txt.nil
      · have e : a ++ ([10, 10, 32] ++ 10 :: m') = a ++ 10 :: ([] ++ 10 :: ([32] ++ 10 :: m')) := by simp
        rw [e, linesL_append ha, linesL_append (by simp), linesL_append (by decide), List.append_nil]
        rfl
theorem joinL_cons (w x : ByteArray) (ws : List ByteArray) : joinL (w :: x :: ws) = w.data.toList ++ 32 :: joinL (x :: ws) := by
  unfold joinL
  simp [Lib.join]
theorem joinL_one (w : ByteArray) : joinL [w] = w.data.toList := by
  unfold joinL
  simp [Lib.join]
theorem txt_blanks : ∀ {bl : List UInt8} {t : List UInt8} {ws : List ByteArray}, (∀ c ∈ bl, blankC c = true) → Txt t ws → Txt (bl ++ t) ws
  | [], _, _, _, h => h
  | c :: bl, t, ws, hb, h => Txt.blank (hb c (by simp)) (txt_blanks (fun x hx => hb x (List.mem_cons_of_mem _ hx)) h)
theorem word_data (w : ByteArray) : (⟨w.data.toList.toArray⟩ : ByteArray) = w := by
  apply ByteArray.ext
  exact Array.toArray_toList
/-- A line that has been filled: its body, and what is behind it. -/
theorem fill_line : ∀ {ws : List ByteArray} {rest m : List UInt8}, ws ≠ [] → (∀ w ∈ ws, GoodW w) → FillT (joinL ws ++ 10 :: rest) m → ∃ body m1, m = body ++ m1 ∧ FillT (10 :: rest) m1 ∧ 10 ∉ body ∧ ∀ X, (X = [] ∨ ∃ c u, X = c :: u ∧ stopC c = true) → Txt X [] → Txt (body ++ X) ws
  | [], _, _, h, _, _ => absurd rfl h
  | [w], rest, m, _, hg, h => by
    obtain ⟨h0, hw⟩ := hg w (by simp)
    rw [joinL_one] at h
    obtain ⟨m1, rfl, h1⟩ := fill_word hw h
    refine ⟨w.data.toList, m1, rfl, h1, fun t => (hw 10 t).2 rfl, fun X hX hT => ?_⟩
    have := Txt.word h0 (fun c hc => (hw c hc).1) hX hT
    rw [word_data] at this
    exact this
  | w :: x :: ws, rest, m, _, hg, h => by
    obtain ⟨h0, hw⟩ := hg w (by simp)
    rw [joinL_cons, List.append_assoc] at h
    obtain ⟨m1, rfl, h1⟩ := fill_word hw h
    obtain ⟨bl, m2, rfl, hb0, hb, h2⟩ := fill_space h1
    obtain ⟨body, m3, rfl, h3, hn, hT⟩ := fill_line (by simp) (fun y hy => hg y (List.mem_cons_of_mem _ hy)) h2
    refine ⟨w.data.toList ++ (bl ++ body), m3, by simp, h3, ?_, fun X hX hX2 => ?_⟩
    · rw [List.mem_append, List.mem_append]
      rintro (t | t | t)
      · exact (hw 10 t).2 rfl
      · have := hb 10 t; revert this; decide
      · exact hn t
    · have h5 := txt_blanks hb (hT X hX hX2)
      have h6 : Txt (w.data.toList ++ (bl ++ (body ++ X))) (⟨w.data.toList.toArray⟩ :: x :: ws) := Txt.word h0 (fun c hc => (hw c hc).1) (by
        match bl, hb0 with
        | c :: bl, _ => exact .inr ⟨c, _, rfl, by unfold stopC; rw [hb c (by simp)]; rfl⟩) h5
      rw [word_data] at h6
      simpa using h6
/-- The words of a line. -/
def wordsT (l : List UInt8) : List ByteArray := (splitL (l.length + 1) 0 1 l).1.map Wd.text
theorem Txt.words {l : List UInt8} {ws : List ByteArray} (h : Txt l ws) : wordsT l = ws := h _ 0 1 (Nat.le_refl _)
theorem fill_doc : ∀ {docs : List (List ByteArray)} {m : List UInt8}, (∀ ws ∈ docs, (∀ w ∈ ws, GoodW w) ∧ ws ≠ []) → FillT (docs.flatMap lineL) m → ((linesL m).map wordsT).filter (fun ws => !ws.isEmpty) = docs
  | [], m, _, h => by
    cases h
    have : wordsT [] = [] := Txt.nil.words
    simp [linesL, this]
  | ws :: docs, m, hg, h => by
    obtain ⟨h1, h2⟩ := hg ws (by simp)
    have e : ((ws :: docs).flatMap lineL) = joinL ws ++ 10 :: docs.flatMap lineL := by simp [lineL]
    rw [e] at h
    obtain ⟨body, m1, rfl, h3, hn, hT⟩ := fill_line h2 h1 h
    obtain ⟨X, Ls, m', ⟨hX1, _, hX3⟩, hLs, hl, h4⟩ := fill_nl h3
    rw [hl body hn, List.map_cons, (hT X hX3 hX1).words, List.map_append, List.filter_cons]
    have hne : (!ws.isEmpty) = true := by
      match ws, h2 with
      | w :: ws, _ => rfl
    rw [if_pos hne, List.filter_append, fill_doc (fun x hx => hg x (List.mem_cons_of_mem _ hx)) h4]
    have : (Ls.map wordsT).filter (fun ws => !ws.isEmpty) = [] := by
      rw [List.filter_eq_nil_iff]
      intro x hx
      obtain ⟨l, hl2, rfl⟩ := List.mem_map.1 hx
      rw [(hLs l hl2).words]
      decide
    rw [this, List.nil_append]
/-- A text that is a circuit's, filled with blanks and notes, is read as that circuit. -/
theorem fill_texts {text : ByteArray} {c : Ct} (hN : NetP c) (hf : FillT (textL c) text.data.toList) : (dlines (linesOf text) 0).map DL.texts = docL c := by
  rw [dlines_texts]
  have h1 : ((linesOf text).map fun l => (splitW l).1.map Wd.text) = (linesL text.data.toList).map wordsT := by
    rw [← linesOf_data, List.map_map]
    refine List.map_congr_left fun l _ => ?_
    show (splitL (l.size + 1) 0 1 l.data.toList).1.map Wd.text = wordsT l.data.toList
    unfold wordsT
    rw [Array.length_toList]
    rfl
  rw [h1]
  rw [textL_doc] at hf
  exact fill_doc (words_good hN) hf
theorem fill_back {text : ByteArray} {c : Ct} (hs : text.size ≤ 1048576) (hF : FormedP c) (hf : FillT (textL c) text.data.toList) : parseOut text = ⟨(0, 0, 0), c.name, c.gs, c.outs⟩ := by
  rw [read_back hs hF.net rfl (fill_texts hF.net hf)]
  have : circOf c.gs = -1 := circOf_eq (.inl ⟨rfl, hF.free⟩)
  rw [this, if_neg (by decide)]
end Go.Proofs.YtjkmoahnociaiaaDoor
