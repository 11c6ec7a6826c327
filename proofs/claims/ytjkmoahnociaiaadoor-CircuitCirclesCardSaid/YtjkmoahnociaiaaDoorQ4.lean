/- The reader: used. -/
import Derived.Test.YtjkmoahnociaiaaDoorQ3
namespace Go.Proofs.YtjkmoahnociaiaaDoor
open Go.RowKit Go.WideMaps Go.Maps

theorem info_use : (Tryd.prog.info? 118).map (fun i => (i.zero, i.size, i.bytes)) = some (some (.agg #[.string ⟨#[]⟩, .int .i64 0, .int .i64 0]), 3, 32) := by kernel_rfl
theorem info_uses : (Tryd.prog.info? 115).map (fun i => (i.zero, i.size, i.bytes)) = some (some (.slice none 0 0), 1, 24) := by kernel_rfl
theorem StOk.take {st : St} (h : StOk st) (r : ByteArray → Bool) : StOk (st.take r).2 := by
  have hs := St.take_same st r
  have hn : 0 ≤ (st.take r).2.next ∧ (st.take r).2.next ≤ 4000000 := by
    have h0 := h.nx0
    have h1 := h.nx1
    have h2 := h.wl
    unfold St.take
    split
    · split
      · unfold St.fail
        split <;> exact ⟨h0, h1⟩
      · rename_i y hy
        have hlt := (List.getElem?_eq_some_iff.1 hy).1
        dsimp only
        split
        · dsimp only; omega
        · unfold St.fail
          split <;> (dsimp only; omega)
    · exact ⟨h0, h1⟩
  exact ⟨hn.1, hn.2, by rw [hs.2.2.1]; exact h.wl, by rw [hs.2.2.1]; exact h.ws⟩
/-- The names of so many lines that are used. -/
noncomputable def usedL : Nat → St → List Us × St
  | 0, st => ([], st)
  | k + 1, st => ((usedL k st).1 ++ [⟨((usedL k st).2.take nameB).1.text, ((usedL k st).2.take nameB).2.line, ((usedL k st).2.take nameB).1.col⟩], ((usedL k st).2.take nameB).2)
noncomputable def St.used (st : St) (place : Int) (n : Nat) : St := { (usedL n st).2 with uses := (usedL n st).2.uses ++ [(usedL n st).1], places := (usedL n st).2.places ++ [place] }
theorem usedL_ok {st : St} (h : StOk st) : ∀ k, StOk (usedL k st).2
  | 0 => h
  | k + 1 => (usedL_ok h k).take nameB
theorem usedL_len (st : St) : ∀ k, (usedL k st).1.length = k
  | 0 => rfl
  | k + 1 => by
    show ((usedL k st).1 ++ [_]).length = k + 1
    rw [List.length_append, usedL_len st k]
    rfl
theorem usedL_same (st : St) : ∀ k, (usedL k st).2.gs = st.gs ∧ (usedL k st).2.outs = st.outs ∧ (usedL k st).2.words = st.words ∧ (usedL k st).2.wA = st.wA ∧ (usedL k st).2.f = st.f ∧ (usedL k st).2.spots = st.spots ∧ (usedL k st).2.uses = st.uses ∧ (usedL k st).2.places = st.places ∧ (usedL k st).2.line = st.line
  | 0 => ⟨rfl, rfl, rfl, rfl, rfl, rfl, rfl, rfl, rfl⟩
  | k + 1 => by
    have h1 := usedL_same st k
    have h2 := St.take_same (usedL k st).2 nameB
    exact ⟨h2.1.trans h1.1, h2.2.1.trans h1.2.1, h2.2.2.1.trans h1.2.2.1, h2.2.2.2.1.trans h1.2.2.2.1, h2.2.2.2.2.1.trans h1.2.2.2.2.1, h2.2.2.2.2.2.1.trans h1.2.2.2.2.2.1, h2.2.2.2.2.2.2.1.trans h1.2.2.2.2.2.2.1, h2.2.2.2.2.2.2.2.1.trans h1.2.2.2.2.2.2.2.1, h2.2.2.2.2.2.2.2.2.trans h1.2.2.2.2.2.2.2.2⟩
section
variable {w w6 w7 : World} {base b : Nat} {st st0 : St} {x : Ex}
theorem rows_old {B bs size n : Nat} {e : TypeId} {v : Value} {xs : List Value} (h : w6.ownsRow bs e size v n xs) (hb : Below B w6 w7) (hv : ∀ g, v.ownBlock = some g → g < B) : w7.ownsRow bs e size v n xs := by
  refine ⟨h.1, ?_⟩
  rcases h.2 with hn | ⟨g, cap, cur, e1, e2, hh, rest⟩
  · exact .inl hn
  · exact .inr ⟨g, cap, cur, e1, e2, (hb.block g (hv g (by rw [e1]; rfl))).trans hh, rest⟩
/-- The same rows, in a world that differs only in what is new. -/
theorem PS.old (h0 : PS w base b st0 x) (h : PS w6 base b st x) (hr : rowsS st x = rowsS st0 x) (hw : st.words = st0.words) (ha : st.wA = st0.wA) (hb : Below w.heap.size w6 w7) : PS w7 base b st x := by
  have hlt := h0.size.2
  refine ⟨Lib.hid ((hb.block b hlt).trans h.1.out), Lib.hid ⟨⟨fun i r hi => ?_, h.2.out.hold.2⟩, ?_, h.2.out.mb, h.2.out.bb, h.2.out.ne, h.2.out.nm, h.2.out.uses, fun hl => ?_⟩⟩
  · rw [hr] at hi
    have h1 := h0.2.out.hold.1 i r hi
    rw [← hr] at hi
    exact rows_old (h.2.out.hold.1 i r hi) hb (fun g e => (World.ownsRow.lt h1 g e).2)
  · obtain ⟨D, ⟨es, clock, hh, rest⟩, h2, h3⟩ := h.2.out.map
    exact ⟨D, ⟨es, clock, (hb.block _ h0.2.out.map.lt).trans hh, rest⟩, h2, h3⟩
  · obtain ⟨g, cur, hA, hB, hc⟩ := h.2.out.words hl
    have := h0.wa (a := ⟨g, 0, none⟩) (by rw [← ha]; exact hA) (by rw [← hw]; exact hl)
    exact ⟨g, cur, hA, (hb.block g this).trans hB, hc⟩
theorem Did.local_ (h0 : PS w base b st0 x) (h : Did w base b st x w6) {v : Value} (hg : w6.grownBy w7 v.ownBlock) (hv : ∀ z, v.ownBlock = some z → w.heap.size ≤ z) (hr : rowsS st x = rowsS st0 x) (hw : st.words = st0.words) (ha : st.wA = st0.wA) : Did w base b st x w7 := by
  have hs : w.heap.size ≤ w6.heap.size := h.2.1.size
  have hb : Below w.heap.size w6 w7 := (Below.refl _ w6).grown hg hs hv
  refine ⟨h0.old h.1 hr hw ha hb, h.2.1.trans (hb.mono (Nat.le_trans h0.size.1 (Nat.le_of_lt h0.size.2))), fun g t l hB ht => ?_⟩
  exact (hb.block g hB.lt).trans (h.2.2 g t l hB ht)
/-- A list of uses joins the rest. -/
theorem PR.addUse (h0 : PS w base b st0 x) (hr0 : rowsS st x = rowsS st0 x) (h : PR w6 base b st x) (u : UR) (hu : w6.ownsRow w.heap.size 118 3 u.v u.xs.length (ucells u.xs)) {v' : Value} (ho : w7.ownsRow base 115 1 v' (x.R.map UR.v ++ [u.v]).length (x.R.map UR.v ++ [u.v])) (hg : w6.grownBy w7 x.vU.ownBlock) (hn : v'.ownBlock = x.vU.ownBlock ∨ v'.ownBlock = some w6.heap.size) :
    PR w7 base b { st with uses := st.uses ++ [u.xs] } { x with vU := v', R := x.R ++ [u] } := by
  have hbw : base ≤ w.heap.size := Nat.le_trans h0.size.1 (Nat.le_of_lt h0.size.2)
  have hsn : Hold w6 base (rowsS st x ++ [u.row]) := h.hold.snoc (rows_more hu hbw) fun i s hs => by
    rw [hr0] at hs
    rcases hv : s.v.ownBlock with _ | g
    · exact .inl hv
    · refine .inr fun e => ?_
      have h1 := (World.ownsRow.lt (h0.2.out.hold.1 i s hs) g hv).2
      have h2 := (World.ownsRow.lt hu g (e.symm.trans hv)).1
      omega
  have hi : (rowsS st x ++ [u.row])[3]? = some (row1 115 x.vU (x.R.map UR.v)) := by unfold rowsS; rfl
  have hty : ∀ g, x.vU.ownBlock = some g → Typed w6 g 115 := fun g e => rows_typed (h.hold.1 3 _ rfl) e
  have ht := hsn.turn hi hg (r' := row1 115 v' (x.R.map UR.v ++ [u.v])) ho (hn.imp id fun e => ⟨_, e, Nat.le_refl _⟩)
  refine ⟨?_, h.map.kept hg (fun e => h.map.not_typed (hty _ e.symm)), h.mb, h.bb, h.ne, h.nm, ?_, (KeepT.of_row hg (show 115 ∈ [79, 46, 3, 33, 115] by decide) hty).words h.words⟩
  · have e : rowsS { st with uses := st.uses ++ [u.xs] } { x with vU := v', R := x.R ++ [u] } = (rowsS st x ++ [u.row]).set 3 (row1 115 v' (x.R.map UR.v ++ [u.v])) := by
      unfold rowsS
      simp
    rw [e]
    exact ht
  · show (x.R ++ [u]).map UR.xs = st.uses ++ [u.xs]
    rw [List.map_append, h.uses]
    rfl
end
set_option maxRecDepth 100000 in
set_option maxHeartbeats 8000000 in
theorem used_any (base b : Nat) (st : St) (x : Ex) (place : Int) (n : Nat) (w : World) (h : PS w base b st x) (hk : StOk st) (hn1 : 1 ≤ n) (hn : n ≤ 3) (hul : st.uses.length ≤ 300000) (hpl : st.places.length ≤ 300000) :
    Calls Tryd.prog 91 #[.pointer (some ⟨b, 0, none⟩), .int .i64 place, .int .i64 n] w fun e w' => e = .returned (.tuple #[]) ∧ ∃ x', (x'.vG = x.vG ∧ x'.vO = x.vO ∧ x'.vS = x.vS ∧ x'.bm = x.bm ∧ x'.nm = x.nm) ∧ Did w base b (st.used place n) x' w' := by
  have HP0 := Lib.hid h
  have HK := Lib.hid hk
  have HSZ : Hid (w.heap.size ≤ w.heap.size) := Lib.hid (Nat.le_refl _)
  have HD0 : Hid (Did w base b (usedL 0 st).2 x w) := Lib.hid (Did.refl h)
  have HR0 : Hid (w.ownsRow w.heap.size 118 3 (.slice none 0 0) 0 (ucells (usedL 0 st).1)) := Lib.hid (World.ownsRow_nil _ _ _ _)
  clear h hk
  go_enter Tryd.func91, Tryd.ntmps91
  go_upto_region 2 with (fail)
  go_loopw [6, 9] (fun s6 s9 wr => ∃ k : Nat, k ≤ n ∧ s9 = .int .i64 k ∧ Hid (Did w base b (usedL k st).2 x wr) ∧ Hid (wr.ownsRow w.heap.size 118 3 s6 k (ucells (usedL k st).1))) (fun _ s9 _ => n - (intOf s9).toNat)
  case atStart => exact ⟨0, by omega, rfl, HD0, HR0⟩
  case round =>
    clear HD0 HR0
    obtain ⟨k, hk, rfl, HD, HR⟩ := hrel
    by_cases hlt : k < n
    · have hok := usedL_ok HK.out k
      have hsame := usedL_same st (k + 1)
      have hstep : usedL (k + 1) st = ((usedL k st).1 ++ [⟨((usedL k st).2.take nameB).1.text, ((usedL k st).2.take nameB).2.line, ((usedL k st).2.take nameB).1.col⟩], ((usedL k st).2.take nameB).2) := rfl
      obtain ⟨l, hl⟩ : ∃ l, (usedL k st).1 = l := ⟨_, rfl⟩
      obtain ⟨s1, hs1⟩ : ∃ s, (usedL k st).2 = s := ⟨_, rfl⟩
      rw [hl] at HR hstep
      rw [hs1] at HD hok hstep
      have hct := take_name base b s1 x wr HD.out.1 hok
      have hts := take_size hok nameB
      obtain ⟨t, ht⟩ : ∃ t, s1.take nameB = t := ⟨_, rfl⟩
      rw [ht] at hct hts hstep
      obtain ⟨⟨tx, tc⟩, s2⟩ := t
      dsimp only at *
      rw [hstep] at hsame
      dsimp only at hsame
      have HRS : Hid (rowsS s2 x = rowsS st x ∧ s2.words = st.words ∧ s2.wA = st.wA) := Lib.hid ⟨by unfold rowsS; rw [hsame.1, hsame.2.1, hsame.2.2.2.2.2.1, hsame.2.2.2.2.2.2.2.1], hsame.2.2.1, hsame.2.2.2.1⟩
      have HST := Lib.hid hstep
      have hkn0 : (0 : Int) ≤ (k : Int) := by omega
      have hkn : (k : Int) < (n : Int) := by omega
      clear hl hs1 ht hstep hok hsame
      go_upto_region 4 with (go_at_call 61; with_reducible refine hct.mono ?_; rintro e w2 ⟨rfl, hd2⟩)
      change Code.wp _ _ _ _ (w2.alloc (.cells #[.string tx, .int .i64 tc] 109))
      have D4 := Lib.hid ((HD.out.trans hd2).alloc (.cells #[.string tx, .int .i64 tc] 109))
      have HW4 := Lib.hid (Blk.new w2 109 [.string tx, .int .i64 tc])
      have HR4 := Lib.hid (rows_below (hd2.2.2.rows HR.out (show 118 ∉ [79, 46, 3, 33, 115] by decide)) (below1 w2 (.cells #[.string tx, .int .i64 tc] 109)))
      clear hct hd2 HD HR
      generalize w2.alloc (.cells #[.string tx, .int .i64 tc] 109) = W4 at *
      obtain ⟨bW, hbW⟩ : ∃ bW, w2.heap.size = bW := ⟨_, rfl⟩
      rw [hbW] at HW4 ⊢
      clear hbW
      refine regionL 13 (fun W => W.cell? ⟨b, 5, none⟩ = some (.int .i64 s2.line) ∧ W.cell? ⟨bW, 0, none⟩ = some (.string tx) ∧ W.cell? ⟨bW, 1, none⟩ = some (.int .i64 tc)) (by kernel_rfl) ?_
      have D5 := Lib.hid D4.out.drew
      have HW5 : Hid (Blk W4.drew bW 109 [.string tx, .int .i64 tc]) := Lib.hid (HW4.out.self (below_drew0 (Below.refl _ _)))
      have HR5 := Lib.hid (rows_below HR4.out (below_drew0 (Below.refl W4.heap.size W4)))
      clear D4 HW4 HR4
      generalize W4.drew = W5 at *
      have HFX : Hid (∀ W, Blk W b 79 (cellsS s2 x) → Blk W bW 109 [.string tx, .int .i64 tc] → W.cell? ⟨b, 5, none⟩ = some (.int .i64 s2.line) ∧ W.cell? ⟨bW, 0, none⟩ = some (.string tx) ∧ W.cell? ⟨bW, 1, none⟩ = some (.int .i64 tc)) := Lib.hid fun W h1 h2 => ⟨(h1.cell 5).trans rfl, (h2.cell 0).trans rfl, (h2.cell 1).trans rfl⟩
      have HF0 := Lib.hid (HFX.out W5 D5.out.1.1.out HW5.out)
      have hbl := below1 W5 (.cells #[.string tx, .int .i64 s2.line, .int .i64 tc] 118)
      have D6 := Lib.hid (D5.out.alloc (.cells #[.string tx, .int .i64 s2.line, .int .i64 tc] 118))
      have HW6 := Lib.hid (HW5.out.self hbl)
      have HR6 := Lib.hid (rows_below HR5.out hbl)
      have HF6 := Lib.hid (HFX.out _ D6.out.1.1.out HW6.out)
      have HC6 : Hid (CReads (W5.alloc (.cells #[.string tx, .int .i64 s2.line, .int .i64 tc] 118)) (some ⟨W5.heap.size, 0, none⟩) (ucells [⟨tx, s2.line, tc⟩])) := Lib.hid (CReads.of_blk (Blk.new W5 118 (ucells [⟨tx, s2.line, tc⟩])))
      clear hbl
      refine takeL (i := 0) (v := ?v0u) rfl (by kernel_rfl) (by kernel_rfl) (by kernel_rfl) (by kernel_rfl) (by kernel_rfl) (by decide) (fun _ _ _ h => h) (by rfl) ?y0u HF0.out ?r0u
      case y0u => (intro w hSw; (try dsimp only at hSw); obtain ⟨q0, q1, q2⟩ := hSw; go_simp; (try with_reducible rfl))
      try simp only [Act.put, List.setIfInBounds_toArray, List.set_cons_zero, List.set_cons_succ]
      refine takeL (i := 1) (v := ?v1u) rfl (by kernel_rfl) (by kernel_rfl) (by kernel_rfl) (by kernel_rfl) (by kernel_rfl) (by decide) (fun _ _ _ h => h) (by rfl) ?y1u HF0.out ?r1u
      case y1u => (intro w hSw; (try dsimp only at hSw); obtain ⟨q0, q1, q2⟩ := hSw; go_simp; (try with_reducible rfl))
      try simp only [Act.put, List.setIfInBounds_toArray, List.set_cons_zero, List.set_cons_succ]
      refine takeL (i := 2) (v := ?v2u) rfl (by kernel_rfl) (by kernel_rfl) (by kernel_rfl) (by kernel_rfl) (by kernel_rfl) (by decide) (fun _ _ _ h => h) (by rfl) ?y2u HF0.out ?r2u
      case y2u => (intro w hSw; (try dsimp only at hSw); obtain ⟨q0, q1, q2⟩ := hSw; go_simp; (try with_reducible rfl))
      try simp only [Act.put, List.setIfInBounds_toArray, List.set_cons_zero, List.set_cons_succ]
      refine takeL (i := 3) (v := ?v3u) rfl (by kernel_rfl) (by kernel_rfl) (by kernel_rfl) (by kernel_rfl) (by kernel_rfl) (by decide) (fun _ _ _ h => h) (by rfl) ?y3u HF0.out ?r3u
      case y3u => (intro w hSw; (try dsimp only at hSw); obtain ⟨q0, q1, q2⟩ := hSw; go_simp; (try with_reducible rfl))
      try simp only [Act.put, List.setIfInBounds_toArray, List.set_cons_zero, List.set_cons_succ]
      refine takeL (i := 4) (v := ?v4u) rfl (by kernel_rfl) (by kernel_rfl) (by kernel_rfl) (by kernel_rfl) (by kernel_rfl) (by decide) (fun _ _ _ h => h) (by rfl) ?y4u HF0.out ?r4u
      case y4u => (intro w hSw; (try dsimp only at hSw); obtain ⟨q0, q1, q2⟩ := hSw; go_simp; (try with_reducible rfl))
      try simp only [Act.put, List.setIfInBounds_toArray, List.set_cons_zero, List.set_cons_succ]
      refine takeL (i := 5) (v := ?v5u) rfl (by kernel_rfl) (by kernel_rfl) (by kernel_rfl) (by kernel_rfl) (by kernel_rfl) (by decide) (fun _ _ _ h => h) (by rfl) ?y5u HF0.out ?r5u
      case y5u => (intro w hSw; (try dsimp only at hSw); obtain ⟨q0, q1, q2⟩ := hSw; go_simp; (try with_reducible rfl))
      try simp only [Act.put, List.setIfInBounds_toArray, List.set_cons_zero, List.set_cons_succ]
      refine takeL (i := 6) (v := ?v6u) rfl (by kernel_rfl) (by kernel_rfl) (by kernel_rfl) (by kernel_rfl) (by kernel_rfl) (by decide) (fun _ _ _ h => h) (by rfl) ?y6u HF0.out ?r6u
      case y6u => (intro w hSw; (try dsimp only at hSw); obtain ⟨q0, q1, q2⟩ := hSw; go_simp; (try with_reducible rfl))
      try simp only [Act.put, List.setIfInBounds_toArray, List.set_cons_zero, List.set_cons_succ]
      refine takeL (i := 7) (v := ?v7u) rfl (by kernel_rfl) (by kernel_rfl) (by kernel_rfl) (by kernel_rfl) (by kernel_rfl) (by decide) (fun _ _ _ h => h) (by rfl) ?y7u HF0.out ?r7u
      case y7u => (intro w hSw; (try dsimp only at hSw); obtain ⟨q0, q1, q2⟩ := hSw; go_simp; (try with_reducible rfl))
      try simp only [Act.put, List.setIfInBounds_toArray, List.set_cons_zero, List.set_cons_succ]
      refine takeL (i := 8) (v := ?v8u) rfl (by kernel_rfl) (by kernel_rfl) (by kernel_rfl) (by kernel_rfl) (by kernel_rfl) (by decide) (fun _ _ _ h => h) (by rfl) ?y8u HF0.out ?r8u
      case y8u => (intro w hSw; (try dsimp only at hSw); obtain ⟨q0, q1, q2⟩ := hSw; go_simp; (try with_reducible rfl))
      try simp only [Act.put, List.setIfInBounds_toArray, List.set_cons_zero, List.set_cons_succ]
      refine takeL (i := 9) (v := ?v9u) rfl (by kernel_rfl) (by kernel_rfl) (by kernel_rfl) (by kernel_rfl) (by kernel_rfl) (by decide) (fun _ _ _ h => h) (by rfl) ?y9u HF0.out ?r9u
      case y9u => (intro w hSw; (try dsimp only at hSw); obtain ⟨q0, q1, q2⟩ := hSw; go_simp; (try with_reducible rfl))
      try simp only [Act.put, List.setIfInBounds_toArray, List.set_cons_zero, List.set_cons_succ]
      refine takeL (i := 10) (v := ?v10u) rfl (by kernel_rfl) (by kernel_rfl) (by kernel_rfl) (by kernel_rfl) (by kernel_rfl) (by decide) (fun _ _ _ h => h) (by rfl) ?y10u HF0.out ?r10u
      case y10u => (intro w hSw; (try dsimp only at hSw); obtain ⟨q0, q1, q2⟩ := hSw; go_simp; (try with_reducible rfl))
      try simp only [Act.put, List.setIfInBounds_toArray, List.set_cons_zero, List.set_cons_succ]
      refine callL (i := 11) rfl (by kernel_rfl) (by rfl) ?_
      intro K hK
      go_simp
      refine hK.out _ _ (Or.inr HF6.out) (fun _ => ?_)
      clear hK K
      try simp only [Act.put, List.setIfInBounds_toArray, List.set_cons_zero, List.set_cons_succ]
      refine callL (i := 12) rfl (by kernel_rfl) (by rfl) ?_
      intro K hK
      refine oper_cells (.tmp 13) (.tmp 24) 115 rfl w.heap.size 118 _ 3 32 Tryd.underlying115 info_use rfl (by decide) u6 k (ucells l) (by simp [Act.eval, Act.put]) HR6.out (some ⟨W5.heap.size, 0, none⟩) 1 1 (ucells [⟨tx, s2.line, tc⟩]) (by simp [Act.eval, Act.put]) HC6.out rfl (fun u hu => by simp [ucells, Us.cells] at hu; rcases hu with rfl | rfl | rfl <;> rfl) (by unfold maxLen; omega) (by omega) (Nat.le_trans HSZ.out D6.out.2.1.size) ?_
      intro v7 w7 hr7 hg7 hn7
      have DE := Lib.hid (Did.local_ HP0.out D6.out hg7 (fun z e => (World.ownsRow.lt HR6.out z e).1) HRS.out.1 HRS.out.2.1 HRS.out.2.2)
      have HW7 : Hid (Blk w7 bW 109 [.string tx, .int .i64 tc]) := Lib.hid (HW6.out.grown hg7 (fun e => (HW6.out.typed.ne (rows_typed HR6.out e.symm) (show 109 ≠ 118 by decide)) rfl))
      have HF7 := Lib.hid (HFX.out w7 DE.out.1.1.out HW7.out)
      have HRE : Hid (w7.ownsRow w.heap.size 118 3 v7 (k + 1) (ucells (l ++ [⟨tx, s2.line, tc⟩]))) := Lib.hid (by rw [ucells_append]; exact hr7)
      clear hr7 hg7 hn7
      refine hK.out _ _ (Or.inr HF7.out) (fun _ => ?_)
      clear hK K
      try simp only [Act.put, List.setIfInBounds_toArray, List.set_cons_zero, List.set_cons_succ]
      refine callL (i := 13) rfl (by kernel_rfl) (by rfl) ?_
      intro K hK
      go_simp
      refine hK.out _ _ (Or.inl (by kernel_rfl)) (fun _ => ?_)
      clear hK K
      try simp only [Act.put, List.setIfInBounds_toArray, List.set_cons_zero, List.set_cons_succ]
      refine doneL (by kernel_rfl) ?_ _
      have HDn : Hid (Did w base b (usedL (k + 1) st).2 x w7) := Lib.hid (by rw [HST.out]; exact DE.out)
      have HRn : Hid (w7.ownsRow w.heap.size 118 3 v7 (k + 1) (ucells (usedL (k + 1) st).1)) := Lib.hid (by rw [HST.out]; exact HRE.out)
      clear HFX HF0 HF6 HF7 HC6 HW5 HW6 HW7 D5 D6 HR5 HR6 DE HRE HST
      go_wp2
      go_roundw
      case rel => exact ⟨k + 1, by omega, by go_num, HDn, HRn⟩
      case measure => simp [intOf]; omega
    · obtain rfl : k = n := by omega
      have hsame := usedL_same st k
      have hlen := usedL_len st k
      have hus : st.used place k = { (usedL k st).2 with uses := (usedL k st).2.uses ++ [(usedL k st).1], places := (usedL k st).2.places ++ [place] } := rfl
      obtain ⟨l, hl⟩ : ∃ l, (usedL k st).1 = l := ⟨_, rfl⟩
      obtain ⟨s1, hs1⟩ : ∃ s, (usedL k st).2 = s := ⟨_, rfl⟩
      rw [hl] at HR hus hlen
      rw [hs1] at HD hsame hus
      have HRS : Hid (rowsS s1 x = rowsS st x) := Lib.hid (by unfold rowsS; rw [hsame.1, hsame.2.1, hsame.2.2.2.2.2.1, hsame.2.2.2.2.2.2.2.1])
      have HUS := Lib.hid hus
      have HLL := Lib.hid hlen
      have HUL : Hid ((x.R.map UR.v).length ≤ 300000) := Lib.hid (by
        have h1 := congrArg List.length HP0.out.2.out.uses
        rw [List.length_map] at h1 ⊢
        omega)
      have HPL : Hid (s1.places.length ≤ 300000) := Lib.hid (by rw [hsame.2.2.2.2.2.2.2.1]; exact hpl)
      clear hl hs1 hsame hlen hus hlt
      obtain ⟨AL, cL, eL, _⟩ := rows_cells HR.out (by decide)
      subst eL
      go_upto_region 6 with (fail)
      refine regionL 18 (fun W => W.cell? ⟨b, 14, none⟩ = some x.vU ∧ W.cell? ⟨b, 15, none⟩ = some x.vP) (by kernel_rfl) ?_
      have DD := Lib.hid HD.out.drew
      have HRW5 := Lib.hid (rows_below HR.out (below_drew0 (Below.refl wr.heap.size wr)))
      clear HD HR
      generalize wr.drew = W5 at *
      have HFX : Hid (∀ W, Blk W b 79 (cellsS s1 x) → W.cell? ⟨b, 14, none⟩ = some x.vU ∧ W.cell? ⟨b, 15, none⟩ = some x.vP) := Lib.hid fun W h1 => ⟨(h1.cell 14).trans rfl, (h1.cell 15).trans rfl⟩
      have HBW5 := DD.out.1.1
      have HPW5 := DD.out.1.2
      have HLW5 := Lib.hid DD.out.2.1
      have HKW5 := Lib.hid DD.out.2.2
      have HFW5 := Lib.hid (HFX.out _ HBW5.out)
      clear DD
      refine takeL0 (i := 0) (v := ?v0z) rfl (by kernel_rfl) (by kernel_rfl) (by kernel_rfl) (by kernel_rfl) (by decide) (fun _ _ _ h => h) (by rfl) ?y0z (Or.inr HFW5.out) ?r0z
      case y0z => (intro w; go_simp; (try with_reducible rfl))
      try simp only [Act.put, List.setIfInBounds_toArray, List.set_cons_zero, List.set_cons_succ]
      refine takeL0 (i := 1) (v := ?v1z) rfl (by kernel_rfl) (by kernel_rfl) (by kernel_rfl) (by kernel_rfl) (by decide) (fun _ _ _ h => h) (by rfl) ?y1z (Or.inr HFW5.out) ?r1z
      case y1z => (intro w; go_simp; (try with_reducible rfl))
      try simp only [Act.put, List.setIfInBounds_toArray, List.set_cons_zero, List.set_cons_succ]
      refine takeL0 (i := 2) (v := ?v2z) rfl (by kernel_rfl) (by kernel_rfl) (by kernel_rfl) (by kernel_rfl) (by decide) (fun _ _ _ h => h) (by rfl) ?y2z (Or.inr HFW5.out) ?r2z
      case y2z => (intro w; go_simp; (try with_reducible rfl))
      try simp only [Act.put, List.setIfInBounds_toArray, List.set_cons_zero, List.set_cons_succ]
      refine takeL0 (i := 3) (v := ?v3z) rfl (by kernel_rfl) (by kernel_rfl) (by kernel_rfl) (by kernel_rfl) (by decide) (fun _ _ _ h => h) (by rfl) ?y3z (Or.inr HFW5.out) ?r3z
      case y3z => (intro w; go_simp; (try with_reducible rfl))
      try simp only [Act.put, List.setIfInBounds_toArray, List.set_cons_zero, List.set_cons_succ]
      refine takeL0 (i := 4) (v := ?v4z) rfl (by kernel_rfl) (by kernel_rfl) (by kernel_rfl) (by kernel_rfl) (by decide) (fun _ _ _ h => h) (by rfl) ?y4z (Or.inr HFW5.out) ?r4z
      case y4z => (intro w; go_simp; (try with_reducible rfl))
      try simp only [Act.put, List.setIfInBounds_toArray, List.set_cons_zero, List.set_cons_succ]
      refine takeL (i := 5) (v := ?v5z) rfl (by kernel_rfl) (by kernel_rfl) (by kernel_rfl) (by kernel_rfl) (by kernel_rfl) (by decide) (fun _ _ _ h => h) (by rfl) ?y5z HFW5.out ?r5z
      case y5z => (intro w hSw; (try dsimp only at hSw); obtain ⟨q0, q1⟩ := hSw; go_simp; (try with_reducible rfl))
      try simp only [Act.put, List.setIfInBounds_toArray, List.set_cons_zero, List.set_cons_succ]
      refine takeL0 (i := 6) (v := ?v6z) rfl (by kernel_rfl) (by kernel_rfl) (by kernel_rfl) (by kernel_rfl) (by decide) (fun _ _ _ h => h) (by rfl) ?y6z (Or.inr HFW5.out) ?r6z
      case y6z => (intro w; go_simp; (try with_reducible rfl))
      try simp only [Act.put, List.setIfInBounds_toArray, List.set_cons_zero, List.set_cons_succ]
      refine takeL0 (i := 9) (v := ?v9z) rfl (by kernel_rfl) (by kernel_rfl) (by kernel_rfl) (by kernel_rfl) (by decide) (fun _ _ _ h => h) (by rfl) ?y9z (Or.inr HFW5.out) ?r9z
      case y9z => (intro w; go_simp; (try with_reducible rfl))
      try simp only [Act.put, List.setIfInBounds_toArray, List.set_cons_zero, List.set_cons_succ]
      refine takeL0 (i := 10) (v := ?v10z) rfl (by kernel_rfl) (by kernel_rfl) (by kernel_rfl) (by kernel_rfl) (by decide) (fun _ _ _ h => h) (by rfl) ?y10z (Or.inr HFW5.out) ?r10z
      case y10z => (intro w; go_simp; (try with_reducible rfl))
      try simp only [Act.put, List.setIfInBounds_toArray, List.set_cons_zero, List.set_cons_succ]
      refine takeL0 (i := 11) (v := ?v11z) rfl (by kernel_rfl) (by kernel_rfl) (by kernel_rfl) (by kernel_rfl) (by decide) (fun _ _ _ h => h) (by rfl) ?y11z (Or.inr HFW5.out) ?r11z
      case y11z => (intro w; go_simp; (try with_reducible rfl))
      try simp only [Act.put, List.setIfInBounds_toArray, List.set_cons_zero, List.set_cons_succ]
      refine takeL (i := 12) (v := ?v12z) rfl (by kernel_rfl) (by kernel_rfl) (by kernel_rfl) (by kernel_rfl) (by kernel_rfl) (by decide) (fun _ _ _ h => h) (by rfl) ?y12z HFW5.out ?r12z
      case y12z => (intro w hSw; (try dsimp only at hSw); obtain ⟨q0, q1⟩ := hSw; go_simp; (try with_reducible rfl))
      try simp only [Act.put, List.setIfInBounds_toArray, List.set_cons_zero, List.set_cons_succ]
      refine takeL0 (i := 13) (v := ?v13z) rfl (by kernel_rfl) (by kernel_rfl) (by kernel_rfl) (by kernel_rfl) (by decide) (fun _ _ _ h => h) (by rfl) ?y13z (Or.inr HFW5.out) ?r13z
      case y13z => (intro w; go_simp; (try with_reducible rfl))
      try simp only [Act.put, List.setIfInBounds_toArray, List.set_cons_zero, List.set_cons_succ]
      refine readyL (rs := [7, 14]) (by kernel_rfl) (by simp) (AllL.cons rfl (fun K hK => ?b7) (AllL.cons rfl (fun K hK => ?b14) AllL.nil))
      case b7 =>
        rw [if_pos (by rfl)]
        have hbl := below1 W5 (.cells #[.slice AL k cL] 115)
        have HBW6 := Lib.hid (HBW5.out.self hbl)
        have HPW6 := Lib.hid (HPW5.out.below hbl)
        have HLW6 := Lib.hid (HLW5.out.trans (hbl.mono (Nat.le_trans HPW5.out.bb (Nat.le_of_lt HBW5.out.lt))))
        have HKW6 := Lib.hid (HKW5.out.trans (KeepT.of_below hbl))
        have HS7W6 : Hid (Blk (W5.alloc (.cells #[.slice AL k cL] 115)) W5.heap.size 115 [.slice AL k cL]) := Lib.hid (Blk.new W5 115 [.slice AL k cL])
        have HFW6 := Lib.hid (HFX.out _ HBW6.out)
        have HRW6 := Lib.hid (rows_below HRW5.out hbl)
        go_simp
        refine hK.out _ _ (Or.inr HFW6.out) (fun _ => ?_)
        clear hK K
        try simp only [Act.put, List.setIfInBounds_toArray, List.set_cons_zero, List.set_cons_succ]
        clear hbl
        generalize W5.alloc (.cells #[.slice AL k cL] 115) = W6 at *
        obtain ⟨a7, ha7⟩ : ∃ a, W5.heap.size = a := ⟨_, rfl⟩
        rw [ha7] at HS7W6 ⊢
        clear ha7
        refine readyL (rs := [8, 14]) (by kernel_rfl) (by simp) (AllL.cons rfl (fun K hK => ?b78) (AllL.cons rfl (fun K hK => ?b714) AllL.nil))
        case b78 =>
          rw [if_pos (by rfl)]
          refine oper_cells (.tmp 32) (.tmp 34) 77 rfl base 115 _ 1 24 Tryd.underlying77 info_uses rfl (by decide) x.vU (x.R.map UR.v).length (x.R.map UR.v) (by simp [Act.eval, Act.put]) (HPW6.out.hold.1 3 _ rfl) (some ⟨a7, 0, none⟩) 1 1 [.slice AL k cL] (by simp [Act.eval, Act.put]) (CReads.of_blk HS7W6.out) rfl (fun u hu => by simp at hu; subst hu; rfl) (by have := HUL.out; unfold maxLen; omega) (by have := HUL.out; omega) (Nat.le_trans HPW6.out.bb (Nat.le_of_lt HBW6.out.lt)) ?_
          intro v8 W7 hr8 hg8 hn8
          obtain ⟨A8, c8, e8, _⟩ := rows_cells hr8 (by decide)
          subst e8
          obtain ⟨m8, hm8⟩ : ∃ m, (x.R.map UR.v).length + 1 = m := ⟨_, rfl⟩
          replace hr8 : W7.ownsRow base 115 1 (.slice A8 m8 c8) m8 (x.R.map UR.v ++ [.slice AL k cL]) := hm8 ▸ hr8
          rw [hm8] at hn8 ⊢
          have hty8 : ∀ g, x.vU.ownBlock = some g → Typed W6 g 115 := fun g e => rows_typed (HPW6.out.hold.1 3 _ rfl) e
          have HPW7 := Lib.hid (PR.addUse HP0.out HRS.out HPW6.out ⟨AL, cL, l⟩ (by have := HRW6.out; rw [← HLL.out] at this; unfold UR.v; exact this) (v' := .slice A8 m8 c8) (by rw [List.length_append]; unfold UR.v; dsimp only; rw [HLL.out]; exact hm8.symm ▸ hr8) hg8 hn8)
          have HBW7 : Hid (Blk W7 b 79 (cellsS s1 x)) := Lib.hid (HBW6.out.grown hg8 (fun e => (HBW6.out.typed.ne (hty8 _ e.symm) (show 79 ≠ 115 by decide)) rfl))
          have HLW7 := Lib.hid (HLW6.out.grown hg8 (Nat.le_trans HPW6.out.bb (Nat.le_of_lt HBW6.out.lt)) (fun g e => (World.ownsRow.lt (HPW6.out.hold.1 3 _ rfl) g e).1))
          have HKW7 := Lib.hid (HKW6.out.trans (KeepT.of_row hg8 (show 115 ∈ [79, 46, 3, 33, 115] by decide) hty8))
          have HFW7 := Lib.hid (HFX.out _ HBW7.out)
          clear hr8 hg8 hn8 hty8
          refine hK.out _ _ (Or.inr HFW7.out) (fun _ => ?_)
          clear hK K
          try simp only [Act.put, List.setIfInBounds_toArray, List.set_cons_zero, List.set_cons_succ]
          refine readyL (rs := [14]) (by kernel_rfl) (by simp) (AllL.cons rfl (fun K hK => ?_) AllL.nil)
          rw [if_pos (by rfl)]
          have hbl := below1 W7 (.cells #[.int .i64 place] 3)
          have HBW8 := Lib.hid (HBW7.out.self hbl)
          have HPW8 := Lib.hid (HPW7.out.below hbl)
          have HLW8 := Lib.hid (HLW7.out.trans (hbl.mono (Nat.le_trans HPW7.out.bb (Nat.le_of_lt HBW7.out.lt))))
          have HKW8 := Lib.hid (HKW7.out.trans (KeepT.of_below hbl))
          have HS14W8 : Hid (Blk (W7.alloc (.cells #[.int .i64 place] 3)) W7.heap.size 3 [.int .i64 place]) := Lib.hid (Blk.new W7 3 [.int .i64 place])
          have HFW8 := Lib.hid (HFX.out _ HBW8.out)
          go_simp
          refine hK.out _ _ (Or.inr HFW8.out) (fun _ => ?_)
          clear hK K
          try simp only [Act.put, List.setIfInBounds_toArray, List.set_cons_zero, List.set_cons_succ]
          clear hbl
          generalize W7.alloc (.cells #[.int .i64 place] 3) = W8 at *
          obtain ⟨a14, ha14⟩ : ∃ a, W7.heap.size = a := ⟨_, rfl⟩
          rw [ha14] at HS14W8 ⊢
          clear ha14
          refine readyL (rs := [15]) (by kernel_rfl) (by simp) (AllL.cons rfl (fun K hK => ?_) AllL.nil)
          rw [if_pos (by rfl)]
          refine oper_cells (.tmp 39) (.tmp 41) 23 rfl base 3 _ 1 8 Tryd.underlying23 info_int rfl (by decide) x.vP (nums .i64 s1.places).length (nums .i64 s1.places) (by simp [Act.eval, Act.put]) (HPW8.out.hold.1 4 _ rfl) (some ⟨a14, 0, none⟩) 1 1 [.int .i64 place] (by simp [Act.eval, Act.put]) (CReads.of_blk HS14W8.out) rfl (fun u hu => by simp at hu; subst hu; rfl) (by have := HPL.out; rw [nums_length]; unfold maxLen; omega) (by have := HPL.out; rw [nums_length]; omega) (Nat.le_trans HPW8.out.bb (Nat.le_of_lt HBW8.out.lt)) ?_
          intro v15 W9 hr15 hg15 hn15
          obtain ⟨A15, c15, e15, _⟩ := rows_cells hr15 (by decide)
          subst e15
          have hty15 : ∀ g, x.vP.ownBlock = some g → Typed W8 g 3 := fun g e => rows_typed (HPW8.out.hold.1 4 _ rfl) e
          have HPW9 := Lib.hid (HPW8.out.grow (st' := { s1 with uses := s1.uses ++ [l], places := s1.places ++ [place] }) (x' := { x with vU := .slice A8 m8 c8, R := x.R ++ [⟨AL, cL, l⟩], vP := .slice A15 ((nums .i64 s1.places).length + 1) c15 }) (i := 4) (r := row1 3 x.vP (nums .i64 s1.places)) (r' := row1 3 (.slice A15 ((nums .i64 s1.places).length + 1) c15) (nums .i64 (s1.places ++ [place]))) rfl hg15 (by show W9.ownsRow base 3 1 (.slice A15 ((nums .i64 s1.places).length + 1) c15) (nums .i64 (s1.places ++ [place])).length (nums .i64 (s1.places ++ [place])); rw [nums_append, List.length_append]; exact hr15) hn15 rfl rfl rfl rfl rfl rfl HPW8.out.uses (Nat.le_refl _) (show 3 ∈ [79, 46, 3, 33, 115] by decide))
          have HBW9 : Hid (Blk W9 b 79 (cellsS s1 x)) := Lib.hid (HBW8.out.grown hg15 (fun e => (HBW8.out.typed.ne (hty15 _ e.symm) (show 79 ≠ 3 by decide)) rfl))
          have HLW9 := Lib.hid (HLW8.out.grown hg15 (Nat.le_trans HPW8.out.bb (Nat.le_of_lt HBW8.out.lt)) (fun g e => (World.ownsRow.lt (HPW8.out.hold.1 4 _ rfl) g e).1))
          have HKW9 := Lib.hid (HKW8.out.trans (KeepT.of_row hg15 (show 3 ∈ [79, 46, 3, 33, 115] by decide) hty15))
          have HFW9 := Lib.hid (HFX.out _ HBW9.out)
          clear hr15 hg15 hn15 hty15
          refine hK.out _ _ (Or.inr HFW9.out) (fun _ => ?_)
          clear hK K
          try simp only [Act.put, List.setIfInBounds_toArray, List.set_cons_zero, List.set_cons_succ]
          refine takeL0 (i := 16) (v := ?v16za) rfl (by kernel_rfl) (by kernel_rfl) (by kernel_rfl) (by kernel_rfl) (by decide) (fun _ _ _ h => h) (by rfl) ?y16za (Or.inr HFW9.out) ?r16za
          case y16za => (intro w; go_simp; (try with_reducible rfl))
          try simp only [Act.put, List.setIfInBounds_toArray, List.set_cons_zero, List.set_cons_succ]
          refine takeL0 (i := 17) (v := ?v17za) rfl (by kernel_rfl) (by kernel_rfl) (by kernel_rfl) (by kernel_rfl) (by decide) (fun _ _ _ h => h) (by rfl) ?y17za (Or.inr HFW9.out) ?r17za
          case y17za => (intro w; go_simp; (try with_reducible rfl))
          try simp only [Act.put, List.setIfInBounds_toArray, List.set_cons_zero, List.set_cons_succ]
          have z14 : W9.cell? ⟨b, 14, none⟩ = some x.vU := (HBW9.out.cell 14).trans rfl
          have f14 := HBW9.out.frozen 14
          have hs14 := HBW9.out.set_ 14 (.slice A8 m8 c8)
          have z15 : W9.cell? ⟨b, 15, none⟩ = some x.vP := (HBW9.out.cell 15).trans rfl
          have f15 := HBW9.out.frozen 15
          have hon := only_setCell (only_setCell (only_refl W9 (some b)) (p := ⟨b, 14, none⟩) (.inl rfl) (.slice A8 m8 c8)) (p := ⟨b, 15, none⟩) (.inl rfl) (.slice A15 ((nums .i64 s1.places).length + 1) c15)
          have HE := Lib.hid (hs14.set_ 15 (.slice A15 ((nums .i64 s1.places).length + 1) c15))
          have HQ := Lib.hid (HPW9.out.own HBW9.out hon)
          have HLE := Lib.hid (HLW9.out.grown hon (Nat.le_trans HPW9.out.bb (Nat.le_of_lt HBW9.out.lt)) (fun z e => by cases e; exact HPW9.out.bb))
          have HKE := Lib.hid (HKW9.out.trans (KeepT.own HBW9.out hon))
          clear hs14 hon
          refine callL (i := 18) rfl (by kernel_rfl) (by rfl) ?_
          intro K hK
          go_simp
          refine hK.out _ _ (Or.inl (by kernel_rfl)) (fun _ => ?_)
          clear hK K
          try simp only [Act.put, List.setIfInBounds_toArray, List.set_cons_zero, List.set_cons_succ]
          refine takeL0 (i := 19) (v := ?v19za) rfl (by kernel_rfl) (by kernel_rfl) (by kernel_rfl) (by kernel_rfl) (by decide) (fun _ _ _ h => h) (by rfl) ?y19za (Or.inl (by kernel_rfl)) ?r19za
          case y19za => (intro w; go_simp; (try with_reducible rfl))
          try simp only [Act.put, List.setIfInBounds_toArray, List.set_cons_zero, List.set_cons_succ]
          refine takeL0 (i := 20) (v := ?v20za) rfl (by kernel_rfl) (by kernel_rfl) (by kernel_rfl) (by kernel_rfl) (by decide) (fun _ _ _ h => h) (by rfl) ?y20za (Or.inl (by kernel_rfl)) ?r20za
          case y20za => (intro w; go_simp; (try with_reducible rfl))
          try simp only [Act.put, List.setIfInBounds_toArray, List.set_cons_zero, List.set_cons_succ]
          refine callL (i := 21) rfl (by kernel_rfl) (by rfl) ?_
          intro K hK
          go_simp
          refine hK.out _ _ (Or.inl (by kernel_rfl)) (fun _ => ?_)
          clear hK K
          try simp only [Act.put, List.setIfInBounds_toArray, List.set_cons_zero, List.set_cons_succ]
          refine doneL (by kernel_rfl) ?_ _
          clear z14 f14 z15 f15
          go_wp2
          go_end0
          exact ⟨rfl, { x with vU := .slice A8 m8 c8, R := x.R ++ [⟨AL, cL, l⟩], vP := .slice A15 ((nums .i64 s1.places).length + 1) c15 }, ⟨rfl, rfl, rfl, rfl, rfl⟩, by rw [HUS.out]; exact ⟨⟨HE, HQ⟩, HLE.out, HKE.out⟩⟩
        case b714 =>
          rw [if_pos (by rfl)]
          have hbl := below1 W6 (.cells #[.int .i64 place] 3)
          have HBW7 := Lib.hid (HBW6.out.self hbl)
          have HPW7 := Lib.hid (HPW6.out.below hbl)
          have HLW7 := Lib.hid (HLW6.out.trans (hbl.mono (Nat.le_trans HPW6.out.bb (Nat.le_of_lt HBW6.out.lt))))
          have HKW7 := Lib.hid (HKW6.out.trans (KeepT.of_below hbl))
          have HS14W7 : Hid (Blk (W6.alloc (.cells #[.int .i64 place] 3)) W6.heap.size 3 [.int .i64 place]) := Lib.hid (Blk.new W6 3 [.int .i64 place])
          have HFW7 := Lib.hid (HFX.out _ HBW7.out)
          have HRW7 := Lib.hid (rows_below HRW6.out hbl)
          have HS7W7 := Lib.hid (HS7W6.out.self hbl)
          go_simp
          refine hK.out _ _ (Or.inr HFW7.out) (fun _ => ?_)
          clear hK K
          try simp only [Act.put, List.setIfInBounds_toArray, List.set_cons_zero, List.set_cons_succ]
          clear hbl
          generalize W6.alloc (.cells #[.int .i64 place] 3) = W7 at *
          obtain ⟨a14, ha14⟩ : ∃ a, W6.heap.size = a := ⟨_, rfl⟩
          rw [ha14] at HS14W7 ⊢
          clear ha14
          refine readyL (rs := [8]) (by kernel_rfl) (by simp) (AllL.cons rfl (fun K hK => ?_) AllL.nil)
          rw [if_pos (by rfl)]
          refine oper_cells (.tmp 32) (.tmp 34) 77 rfl base 115 _ 1 24 Tryd.underlying77 info_uses rfl (by decide) x.vU (x.R.map UR.v).length (x.R.map UR.v) (by simp [Act.eval, Act.put]) (HPW7.out.hold.1 3 _ rfl) (some ⟨a7, 0, none⟩) 1 1 [.slice AL k cL] (by simp [Act.eval, Act.put]) (CReads.of_blk HS7W7.out) rfl (fun u hu => by simp at hu; subst hu; rfl) (by have := HUL.out; unfold maxLen; omega) (by have := HUL.out; omega) (Nat.le_trans HPW7.out.bb (Nat.le_of_lt HBW7.out.lt)) ?_
          intro v8 W8 hr8 hg8 hn8
          obtain ⟨A8, c8, e8, _⟩ := rows_cells hr8 (by decide)
          subst e8
          obtain ⟨m8, hm8⟩ : ∃ m, (x.R.map UR.v).length + 1 = m := ⟨_, rfl⟩
          replace hr8 : W8.ownsRow base 115 1 (.slice A8 m8 c8) m8 (x.R.map UR.v ++ [.slice AL k cL]) := hm8 ▸ hr8
          rw [hm8] at hn8 ⊢
          have hty8 : ∀ g, x.vU.ownBlock = some g → Typed W7 g 115 := fun g e => rows_typed (HPW7.out.hold.1 3 _ rfl) e
          have HPW8 := Lib.hid (PR.addUse HP0.out HRS.out HPW7.out ⟨AL, cL, l⟩ (by have := HRW7.out; rw [← HLL.out] at this; unfold UR.v; exact this) (v' := .slice A8 m8 c8) (by rw [List.length_append]; unfold UR.v; dsimp only; rw [HLL.out]; exact hm8.symm ▸ hr8) hg8 hn8)
          have HBW8 : Hid (Blk W8 b 79 (cellsS s1 x)) := Lib.hid (HBW7.out.grown hg8 (fun e => (HBW7.out.typed.ne (hty8 _ e.symm) (show 79 ≠ 115 by decide)) rfl))
          have HLW8 := Lib.hid (HLW7.out.grown hg8 (Nat.le_trans HPW7.out.bb (Nat.le_of_lt HBW7.out.lt)) (fun g e => (World.ownsRow.lt (HPW7.out.hold.1 3 _ rfl) g e).1))
          have HKW8 := Lib.hid (HKW7.out.trans (KeepT.of_row hg8 (show 115 ∈ [79, 46, 3, 33, 115] by decide) hty8))
          have HFW8 := Lib.hid (HFX.out _ HBW8.out)
          have HS14W8 : Hid (Blk W8 a14 3 [.int .i64 place]) := Lib.hid (HS14W7.out.grown hg8 (fun e => (HS14W7.out.typed.ne (hty8 _ e.symm) (show 3 ≠ 115 by decide)) rfl))
          clear hr8 hg8 hn8 hty8
          refine hK.out _ _ (Or.inr HFW8.out) (fun _ => ?_)
          clear hK K
          try simp only [Act.put, List.setIfInBounds_toArray, List.set_cons_zero, List.set_cons_succ]
          refine readyL (rs := [15]) (by kernel_rfl) (by simp) (AllL.cons rfl (fun K hK => ?_) AllL.nil)
          rw [if_pos (by rfl)]
          refine oper_cells (.tmp 39) (.tmp 41) 23 rfl base 3 _ 1 8 Tryd.underlying23 info_int rfl (by decide) x.vP (nums .i64 s1.places).length (nums .i64 s1.places) (by simp [Act.eval, Act.put]) (HPW8.out.hold.1 4 _ rfl) (some ⟨a14, 0, none⟩) 1 1 [.int .i64 place] (by simp [Act.eval, Act.put]) (CReads.of_blk HS14W8.out) rfl (fun u hu => by simp at hu; subst hu; rfl) (by have := HPL.out; rw [nums_length]; unfold maxLen; omega) (by have := HPL.out; rw [nums_length]; omega) (Nat.le_trans HPW8.out.bb (Nat.le_of_lt HBW8.out.lt)) ?_
          intro v15 W9 hr15 hg15 hn15
          obtain ⟨A15, c15, e15, _⟩ := rows_cells hr15 (by decide)
          subst e15
          have hty15 : ∀ g, x.vP.ownBlock = some g → Typed W8 g 3 := fun g e => rows_typed (HPW8.out.hold.1 4 _ rfl) e
          have HPW9 := Lib.hid (HPW8.out.grow (st' := { s1 with uses := s1.uses ++ [l], places := s1.places ++ [place] }) (x' := { x with vU := .slice A8 m8 c8, R := x.R ++ [⟨AL, cL, l⟩], vP := .slice A15 ((nums .i64 s1.places).length + 1) c15 }) (i := 4) (r := row1 3 x.vP (nums .i64 s1.places)) (r' := row1 3 (.slice A15 ((nums .i64 s1.places).length + 1) c15) (nums .i64 (s1.places ++ [place]))) rfl hg15 (by show W9.ownsRow base 3 1 (.slice A15 ((nums .i64 s1.places).length + 1) c15) (nums .i64 (s1.places ++ [place])).length (nums .i64 (s1.places ++ [place])); rw [nums_append, List.length_append]; exact hr15) hn15 rfl rfl rfl rfl rfl rfl HPW8.out.uses (Nat.le_refl _) (show 3 ∈ [79, 46, 3, 33, 115] by decide))
          have HBW9 : Hid (Blk W9 b 79 (cellsS s1 x)) := Lib.hid (HBW8.out.grown hg15 (fun e => (HBW8.out.typed.ne (hty15 _ e.symm) (show 79 ≠ 3 by decide)) rfl))
          have HLW9 := Lib.hid (HLW8.out.grown hg15 (Nat.le_trans HPW8.out.bb (Nat.le_of_lt HBW8.out.lt)) (fun g e => (World.ownsRow.lt (HPW8.out.hold.1 4 _ rfl) g e).1))
          have HKW9 := Lib.hid (HKW8.out.trans (KeepT.of_row hg15 (show 3 ∈ [79, 46, 3, 33, 115] by decide) hty15))
          have HFW9 := Lib.hid (HFX.out _ HBW9.out)
          clear hr15 hg15 hn15 hty15
          refine hK.out _ _ (Or.inr HFW9.out) (fun _ => ?_)
          clear hK K
          try simp only [Act.put, List.setIfInBounds_toArray, List.set_cons_zero, List.set_cons_succ]
          refine takeL0 (i := 16) (v := ?v16zb) rfl (by kernel_rfl) (by kernel_rfl) (by kernel_rfl) (by kernel_rfl) (by decide) (fun _ _ _ h => h) (by rfl) ?y16zb (Or.inr HFW9.out) ?r16zb
          case y16zb => (intro w; go_simp; (try with_reducible rfl))
          try simp only [Act.put, List.setIfInBounds_toArray, List.set_cons_zero, List.set_cons_succ]
          refine takeL0 (i := 17) (v := ?v17zb) rfl (by kernel_rfl) (by kernel_rfl) (by kernel_rfl) (by kernel_rfl) (by decide) (fun _ _ _ h => h) (by rfl) ?y17zb (Or.inr HFW9.out) ?r17zb
          case y17zb => (intro w; go_simp; (try with_reducible rfl))
          try simp only [Act.put, List.setIfInBounds_toArray, List.set_cons_zero, List.set_cons_succ]
          have z14 : W9.cell? ⟨b, 14, none⟩ = some x.vU := (HBW9.out.cell 14).trans rfl
          have f14 := HBW9.out.frozen 14
          have hs14 := HBW9.out.set_ 14 (.slice A8 m8 c8)
          have z15 : W9.cell? ⟨b, 15, none⟩ = some x.vP := (HBW9.out.cell 15).trans rfl
          have f15 := HBW9.out.frozen 15
          have hon := only_setCell (only_setCell (only_refl W9 (some b)) (p := ⟨b, 14, none⟩) (.inl rfl) (.slice A8 m8 c8)) (p := ⟨b, 15, none⟩) (.inl rfl) (.slice A15 ((nums .i64 s1.places).length + 1) c15)
          have HE := Lib.hid (hs14.set_ 15 (.slice A15 ((nums .i64 s1.places).length + 1) c15))
          have HQ := Lib.hid (HPW9.out.own HBW9.out hon)
          have HLE := Lib.hid (HLW9.out.grown hon (Nat.le_trans HPW9.out.bb (Nat.le_of_lt HBW9.out.lt)) (fun z e => by cases e; exact HPW9.out.bb))
          have HKE := Lib.hid (HKW9.out.trans (KeepT.own HBW9.out hon))
          clear hs14 hon
          refine callL (i := 18) rfl (by kernel_rfl) (by rfl) ?_
          intro K hK
          go_simp
          refine hK.out _ _ (Or.inl (by kernel_rfl)) (fun _ => ?_)
          clear hK K
          try simp only [Act.put, List.setIfInBounds_toArray, List.set_cons_zero, List.set_cons_succ]
          refine takeL0 (i := 19) (v := ?v19zb) rfl (by kernel_rfl) (by kernel_rfl) (by kernel_rfl) (by kernel_rfl) (by decide) (fun _ _ _ h => h) (by rfl) ?y19zb (Or.inl (by kernel_rfl)) ?r19zb
          case y19zb => (intro w; go_simp; (try with_reducible rfl))
          try simp only [Act.put, List.setIfInBounds_toArray, List.set_cons_zero, List.set_cons_succ]
          refine takeL0 (i := 20) (v := ?v20zb) rfl (by kernel_rfl) (by kernel_rfl) (by kernel_rfl) (by kernel_rfl) (by decide) (fun _ _ _ h => h) (by rfl) ?y20zb (Or.inl (by kernel_rfl)) ?r20zb
          case y20zb => (intro w; go_simp; (try with_reducible rfl))
          try simp only [Act.put, List.setIfInBounds_toArray, List.set_cons_zero, List.set_cons_succ]
          refine callL (i := 21) rfl (by kernel_rfl) (by rfl) ?_
          intro K hK
          go_simp
          refine hK.out _ _ (Or.inl (by kernel_rfl)) (fun _ => ?_)
          clear hK K
          try simp only [Act.put, List.setIfInBounds_toArray, List.set_cons_zero, List.set_cons_succ]
          refine doneL (by kernel_rfl) ?_ _
          clear z14 f14 z15 f15
          go_wp2
          go_end0
          exact ⟨rfl, { x with vU := .slice A8 m8 c8, R := x.R ++ [⟨AL, cL, l⟩], vP := .slice A15 ((nums .i64 s1.places).length + 1) c15 }, ⟨rfl, rfl, rfl, rfl, rfl⟩, by rw [HUS.out]; exact ⟨⟨HE, HQ⟩, HLE.out, HKE.out⟩⟩
      case b14 =>
        rw [if_pos (by rfl)]
        have hbl := below1 W5 (.cells #[.int .i64 place] 3)
        have HBW6 := Lib.hid (HBW5.out.self hbl)
        have HPW6 := Lib.hid (HPW5.out.below hbl)
        have HLW6 := Lib.hid (HLW5.out.trans (hbl.mono (Nat.le_trans HPW5.out.bb (Nat.le_of_lt HBW5.out.lt))))
        have HKW6 := Lib.hid (HKW5.out.trans (KeepT.of_below hbl))
        have HS14W6 : Hid (Blk (W5.alloc (.cells #[.int .i64 place] 3)) W5.heap.size 3 [.int .i64 place]) := Lib.hid (Blk.new W5 3 [.int .i64 place])
        have HFW6 := Lib.hid (HFX.out _ HBW6.out)
        have HRW6 := Lib.hid (rows_below HRW5.out hbl)
        go_simp
        refine hK.out _ _ (Or.inr HFW6.out) (fun _ => ?_)
        clear hK K
        try simp only [Act.put, List.setIfInBounds_toArray, List.set_cons_zero, List.set_cons_succ]
        clear hbl
        generalize W5.alloc (.cells #[.int .i64 place] 3) = W6 at *
        obtain ⟨a14, ha14⟩ : ∃ a, W5.heap.size = a := ⟨_, rfl⟩
        rw [ha14] at HS14W6 ⊢
        clear ha14
        refine readyL (rs := [7]) (by kernel_rfl) (by simp) (AllL.cons rfl (fun K hK => ?_) AllL.nil)
        rw [if_pos (by rfl)]
        have hbl := below1 W6 (.cells #[.slice AL k cL] 115)
        have HBW7 := Lib.hid (HBW6.out.self hbl)
        have HPW7 := Lib.hid (HPW6.out.below hbl)
        have HLW7 := Lib.hid (HLW6.out.trans (hbl.mono (Nat.le_trans HPW6.out.bb (Nat.le_of_lt HBW6.out.lt))))
        have HKW7 := Lib.hid (HKW6.out.trans (KeepT.of_below hbl))
        have HS7W7 : Hid (Blk (W6.alloc (.cells #[.slice AL k cL] 115)) W6.heap.size 115 [.slice AL k cL]) := Lib.hid (Blk.new W6 115 [.slice AL k cL])
        have HFW7 := Lib.hid (HFX.out _ HBW7.out)
        have HRW7 := Lib.hid (rows_below HRW6.out hbl)
        have HS14W7 := Lib.hid (HS14W6.out.self hbl)
        go_simp
        refine hK.out _ _ (Or.inr HFW7.out) (fun _ => ?_)
        clear hK K
        try simp only [Act.put, List.setIfInBounds_toArray, List.set_cons_zero, List.set_cons_succ]
        clear hbl
        generalize W6.alloc (.cells #[.slice AL k cL] 115) = W7 at *
        obtain ⟨a7, ha7⟩ : ∃ a, W6.heap.size = a := ⟨_, rfl⟩
        rw [ha7] at HS7W7 ⊢
        clear ha7
        refine readyL (rs := [8]) (by kernel_rfl) (by simp) (AllL.cons rfl (fun K hK => ?_) AllL.nil)
        rw [if_pos (by rfl)]
        refine oper_cells (.tmp 32) (.tmp 34) 77 rfl base 115 _ 1 24 Tryd.underlying77 info_uses rfl (by decide) x.vU (x.R.map UR.v).length (x.R.map UR.v) (by simp [Act.eval, Act.put]) (HPW7.out.hold.1 3 _ rfl) (some ⟨a7, 0, none⟩) 1 1 [.slice AL k cL] (by simp [Act.eval, Act.put]) (CReads.of_blk HS7W7.out) rfl (fun u hu => by simp at hu; subst hu; rfl) (by have := HUL.out; unfold maxLen; omega) (by have := HUL.out; omega) (Nat.le_trans HPW7.out.bb (Nat.le_of_lt HBW7.out.lt)) ?_
        intro v8 W8 hr8 hg8 hn8
        obtain ⟨A8, c8, e8, _⟩ := rows_cells hr8 (by decide)
        subst e8
        obtain ⟨m8, hm8⟩ : ∃ m, (x.R.map UR.v).length + 1 = m := ⟨_, rfl⟩
        replace hr8 : W8.ownsRow base 115 1 (.slice A8 m8 c8) m8 (x.R.map UR.v ++ [.slice AL k cL]) := hm8 ▸ hr8
        rw [hm8] at hn8 ⊢
        have hty8 : ∀ g, x.vU.ownBlock = some g → Typed W7 g 115 := fun g e => rows_typed (HPW7.out.hold.1 3 _ rfl) e
        have HPW8 := Lib.hid (PR.addUse HP0.out HRS.out HPW7.out ⟨AL, cL, l⟩ (by have := HRW7.out; rw [← HLL.out] at this; unfold UR.v; exact this) (v' := .slice A8 m8 c8) (by rw [List.length_append]; unfold UR.v; dsimp only; rw [HLL.out]; exact hm8.symm ▸ hr8) hg8 hn8)
        have HBW8 : Hid (Blk W8 b 79 (cellsS s1 x)) := Lib.hid (HBW7.out.grown hg8 (fun e => (HBW7.out.typed.ne (hty8 _ e.symm) (show 79 ≠ 115 by decide)) rfl))
        have HLW8 := Lib.hid (HLW7.out.grown hg8 (Nat.le_trans HPW7.out.bb (Nat.le_of_lt HBW7.out.lt)) (fun g e => (World.ownsRow.lt (HPW7.out.hold.1 3 _ rfl) g e).1))
        have HKW8 := Lib.hid (HKW7.out.trans (KeepT.of_row hg8 (show 115 ∈ [79, 46, 3, 33, 115] by decide) hty8))
        have HFW8 := Lib.hid (HFX.out _ HBW8.out)
        have HS14W8 : Hid (Blk W8 a14 3 [.int .i64 place]) := Lib.hid (HS14W7.out.grown hg8 (fun e => (HS14W7.out.typed.ne (hty8 _ e.symm) (show 3 ≠ 115 by decide)) rfl))
        clear hr8 hg8 hn8 hty8
        refine hK.out _ _ (Or.inr HFW8.out) (fun _ => ?_)
        clear hK K
        try simp only [Act.put, List.setIfInBounds_toArray, List.set_cons_zero, List.set_cons_succ]
        refine readyL (rs := [15]) (by kernel_rfl) (by simp) (AllL.cons rfl (fun K hK => ?_) AllL.nil)
        rw [if_pos (by rfl)]
        refine oper_cells (.tmp 39) (.tmp 41) 23 rfl base 3 _ 1 8 Tryd.underlying23 info_int rfl (by decide) x.vP (nums .i64 s1.places).length (nums .i64 s1.places) (by simp [Act.eval, Act.put]) (HPW8.out.hold.1 4 _ rfl) (some ⟨a14, 0, none⟩) 1 1 [.int .i64 place] (by simp [Act.eval, Act.put]) (CReads.of_blk HS14W8.out) rfl (fun u hu => by simp at hu; subst hu; rfl) (by have := HPL.out; rw [nums_length]; unfold maxLen; omega) (by have := HPL.out; rw [nums_length]; omega) (Nat.le_trans HPW8.out.bb (Nat.le_of_lt HBW8.out.lt)) ?_
        intro v15 W9 hr15 hg15 hn15
        obtain ⟨A15, c15, e15, _⟩ := rows_cells hr15 (by decide)
        subst e15
        have hty15 : ∀ g, x.vP.ownBlock = some g → Typed W8 g 3 := fun g e => rows_typed (HPW8.out.hold.1 4 _ rfl) e
        have HPW9 := Lib.hid (HPW8.out.grow (st' := { s1 with uses := s1.uses ++ [l], places := s1.places ++ [place] }) (x' := { x with vU := .slice A8 m8 c8, R := x.R ++ [⟨AL, cL, l⟩], vP := .slice A15 ((nums .i64 s1.places).length + 1) c15 }) (i := 4) (r := row1 3 x.vP (nums .i64 s1.places)) (r' := row1 3 (.slice A15 ((nums .i64 s1.places).length + 1) c15) (nums .i64 (s1.places ++ [place]))) rfl hg15 (by show W9.ownsRow base 3 1 (.slice A15 ((nums .i64 s1.places).length + 1) c15) (nums .i64 (s1.places ++ [place])).length (nums .i64 (s1.places ++ [place])); rw [nums_append, List.length_append]; exact hr15) hn15 rfl rfl rfl rfl rfl rfl HPW8.out.uses (Nat.le_refl _) (show 3 ∈ [79, 46, 3, 33, 115] by decide))
        have HBW9 : Hid (Blk W9 b 79 (cellsS s1 x)) := Lib.hid (HBW8.out.grown hg15 (fun e => (HBW8.out.typed.ne (hty15 _ e.symm) (show 79 ≠ 3 by decide)) rfl))
        have HLW9 := Lib.hid (HLW8.out.grown hg15 (Nat.le_trans HPW8.out.bb (Nat.le_of_lt HBW8.out.lt)) (fun g e => (World.ownsRow.lt (HPW8.out.hold.1 4 _ rfl) g e).1))
        have HKW9 := Lib.hid (HKW8.out.trans (KeepT.of_row hg15 (show 3 ∈ [79, 46, 3, 33, 115] by decide) hty15))
        have HFW9 := Lib.hid (HFX.out _ HBW9.out)
        clear hr15 hg15 hn15 hty15
        refine hK.out _ _ (Or.inr HFW9.out) (fun _ => ?_)
        clear hK K
        try simp only [Act.put, List.setIfInBounds_toArray, List.set_cons_zero, List.set_cons_succ]
        refine takeL0 (i := 16) (v := ?v16zc) rfl (by kernel_rfl) (by kernel_rfl) (by kernel_rfl) (by kernel_rfl) (by decide) (fun _ _ _ h => h) (by rfl) ?y16zc (Or.inr HFW9.out) ?r16zc
        case y16zc => (intro w; go_simp; (try with_reducible rfl))
        try simp only [Act.put, List.setIfInBounds_toArray, List.set_cons_zero, List.set_cons_succ]
        refine takeL0 (i := 17) (v := ?v17zc) rfl (by kernel_rfl) (by kernel_rfl) (by kernel_rfl) (by kernel_rfl) (by decide) (fun _ _ _ h => h) (by rfl) ?y17zc (Or.inr HFW9.out) ?r17zc
        case y17zc => (intro w; go_simp; (try with_reducible rfl))
        try simp only [Act.put, List.setIfInBounds_toArray, List.set_cons_zero, List.set_cons_succ]
        have z14 : W9.cell? ⟨b, 14, none⟩ = some x.vU := (HBW9.out.cell 14).trans rfl
        have f14 := HBW9.out.frozen 14
        have hs14 := HBW9.out.set_ 14 (.slice A8 m8 c8)
        have z15 : W9.cell? ⟨b, 15, none⟩ = some x.vP := (HBW9.out.cell 15).trans rfl
        have f15 := HBW9.out.frozen 15
        have hon := only_setCell (only_setCell (only_refl W9 (some b)) (p := ⟨b, 14, none⟩) (.inl rfl) (.slice A8 m8 c8)) (p := ⟨b, 15, none⟩) (.inl rfl) (.slice A15 ((nums .i64 s1.places).length + 1) c15)
        have HE := Lib.hid (hs14.set_ 15 (.slice A15 ((nums .i64 s1.places).length + 1) c15))
        have HQ := Lib.hid (HPW9.out.own HBW9.out hon)
        have HLE := Lib.hid (HLW9.out.grown hon (Nat.le_trans HPW9.out.bb (Nat.le_of_lt HBW9.out.lt)) (fun z e => by cases e; exact HPW9.out.bb))
        have HKE := Lib.hid (HKW9.out.trans (KeepT.own HBW9.out hon))
        clear hs14 hon
        refine callL (i := 18) rfl (by kernel_rfl) (by rfl) ?_
        intro K hK
        go_simp
        refine hK.out _ _ (Or.inl (by kernel_rfl)) (fun _ => ?_)
        clear hK K
        try simp only [Act.put, List.setIfInBounds_toArray, List.set_cons_zero, List.set_cons_succ]
        refine takeL0 (i := 19) (v := ?v19zc) rfl (by kernel_rfl) (by kernel_rfl) (by kernel_rfl) (by kernel_rfl) (by decide) (fun _ _ _ h => h) (by rfl) ?y19zc (Or.inl (by kernel_rfl)) ?r19zc
        case y19zc => (intro w; go_simp; (try with_reducible rfl))
        try simp only [Act.put, List.setIfInBounds_toArray, List.set_cons_zero, List.set_cons_succ]
        refine takeL0 (i := 20) (v := ?v20zc) rfl (by kernel_rfl) (by kernel_rfl) (by kernel_rfl) (by kernel_rfl) (by decide) (fun _ _ _ h => h) (by rfl) ?y20zc (Or.inl (by kernel_rfl)) ?r20zc
        case y20zc => (intro w; go_simp; (try with_reducible rfl))
        try simp only [Act.put, List.setIfInBounds_toArray, List.set_cons_zero, List.set_cons_succ]
        refine callL (i := 21) rfl (by kernel_rfl) (by rfl) ?_
        intro K hK
        go_simp
        refine hK.out _ _ (Or.inl (by kernel_rfl)) (fun _ => ?_)
        clear hK K
        try simp only [Act.put, List.setIfInBounds_toArray, List.set_cons_zero, List.set_cons_succ]
        refine doneL (by kernel_rfl) ?_ _
        clear z14 f14 z15 f15
        go_wp2
        go_end0
        exact ⟨rfl, { x with vU := .slice A8 m8 c8, R := x.R ++ [⟨AL, cL, l⟩], vP := .slice A15 ((nums .i64 s1.places).length + 1) c15 }, ⟨rfl, rfl, rfl, rfl, rfl⟩, by rw [HUS.out]; exact ⟨⟨HE, HQ⟩, HLE.out, HKE.out⟩⟩
end Go.Proofs.YtjkmoahnociaiaaDoor
