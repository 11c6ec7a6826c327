/- The reader: what reads a line. -/
import Derived.Test.YtjkmoahnociaiaaDoorQ4
namespace Go.Proofs.YtjkmoahnociaiaaDoor
open Go.RowKit Go.WideMaps Go.Maps

theorem St.fail_same2 (st : St) (e c : Int) : (st.fail e c).next = st.next ∧ (st.fail e c).begun = st.begun ∧ (st.fail e c).ended = st.ended ∧ (st.fail e c).name = st.name ∧ (st.fail e c).end_ = st.end_ ∧ (st.fail e c).wC = st.wC := by
  unfold St.fail
  split <;> exact ⟨rfl, rfl, rfl, rfl, rfl, rfl⟩
theorem StOk.fail {st : St} (h : StOk st) (e c : Int) : StOk (st.fail e c) := by
  have h1 := St.fail_same st e c
  have h2 := St.fail_same2 st e c
  exact ⟨by rw [h2.1]; exact h.nx0, by rw [h2.1]; exact h.nx1, by rw [h1.2.2.1]; exact h.wl, by rw [h1.2.2.1]; exact h.ws⟩
theorem own_size {st : St} (h : StOk st) : st.own.1.size ≤ 4000000 := take_size h nameB
theorem own_ok {st : St} (h : StOk st) : StOk st.own.2 := by
  unfold St.own
  dsimp only
  split
  · have h1 := (h.take nameB).fail 141 (st.take nameB).1.col
    exact ⟨h1.nx0, h1.nx1, h1.wl, h1.ws⟩
  · have h1 := h.take nameB
    exact ⟨h1.nx0, h1.nx1, h1.wl, h1.ws⟩
theorem own_same (st : St) : st.own.2.gs = st.gs ∧ st.own.2.outs = st.outs ∧ st.own.2.words = st.words ∧ st.own.2.wA = st.wA ∧ st.own.2.f = st.f ∧ st.own.2.spots.length = st.spots.length + 1 ∧ st.own.2.uses = st.uses ∧ st.own.2.places = st.places ∧ st.own.2.line = st.line := by
  have h1 := St.take_same st nameB
  unfold St.own
  dsimp only
  split
  · have h2 := St.fail_same (st.take nameB).2 141 (st.take nameB).1.col
    refine ⟨h2.1.trans h1.1, h2.2.1.trans h1.2.1, h2.2.2.1.trans h1.2.2.1, h2.2.2.2.1.trans h1.2.2.2.1, h2.2.2.2.2.1.trans h1.2.2.2.2.1, ?_, h2.2.2.2.2.2.2.1.trans h1.2.2.2.2.2.2.1, h2.2.2.2.2.2.2.2.1.trans h1.2.2.2.2.2.2.2.1, h2.2.2.2.2.2.2.2.2.trans h1.2.2.2.2.2.2.2.2⟩
    rw [List.length_append, h2.2.2.2.2.2.1, h1.2.2.2.2.2.1]; rfl
  · refine ⟨h1.1, h1.2.1, h1.2.2.1, h1.2.2.2.1, h1.2.2.2.2.1, ?_, h1.2.2.2.2.2.2.1, h1.2.2.2.2.2.2.2.1, h1.2.2.2.2.2.2.2.2⟩
    rw [List.length_append, h1.2.2.2.2.2.1]; rfl
theorem used_ok {st : St} (h : StOk st) (p : Int) (n : Nat) : StOk (st.used p n) := by
  have h1 := usedL_ok h n
  exact ⟨h1.nx0, h1.nx1, h1.wl, h1.ws⟩
theorem used_same (st : St) (p : Int) (n : Nat) : (st.used p n).gs = st.gs ∧ (st.used p n).outs = st.outs ∧ (st.used p n).words = st.words ∧ (st.used p n).wA = st.wA ∧ (st.used p n).f = st.f ∧ (st.used p n).spots = st.spots ∧ (st.used p n).uses.length = st.uses.length + 1 ∧ (st.used p n).places.length = st.places.length + 1 ∧ (st.used p n).line = st.line := by
  have h1 := usedL_same st n
  refine ⟨h1.1, h1.2.1, h1.2.2.1, h1.2.2.2.1, h1.2.2.2.2.1, h1.2.2.2.2.2.1, ?_, ?_, h1.2.2.2.2.2.2.2.2⟩
  · show ((usedL n st).2.uses ++ [_]).length = _
    rw [List.length_append, h1.2.2.2.2.2.2.1]; rfl
  · show ((usedL n st).2.places ++ [_]).length = _
    rw [List.length_append, h1.2.2.2.2.2.2.2.1]; rfl
theorem Did.ps {w w' : World} {base b : Nat} {st : St} {x : Ex} (h : Did w base b st x w') : PS w' base b st x := h.1
/-- What bounds the reader's lists. -/
structure StB (st : St) : Prop where
  sp : st.spots.length = st.gs.length
  pl : st.places.length = st.uses.length
  us : st.uses.length ≤ st.gs.length + st.outs.length
  gl : st.gs.length ≤ 65536
  ol : st.outs.length ≤ 65536
noncomputable def St.input (st : St) : St := st.own.2.add ⟨1, st.own.1, 0, 0, 0, 0⟩
noncomputable def St.gate (st : St) : St := (((st.own.2.take opB).2.used st.gs.length 2).add ⟨2, st.own.1, Lib.idxOfS opWords (st.own.2.take opB).1.text, 0, 0, 0⟩)
noncomputable def St.mux (st : St) : St := (st.own.2.used st.gs.length 3).add ⟨4, st.own.1, 0, 0, 0, 0⟩
noncomputable def St.latch (st : St) : St := (((st.own.2.take bitB).2.used st.gs.length 1).add ⟨3, st.own.1, if (st.own.2.take bitB).1.text.toList = [49] then 1 else 0, 0, 0, 0⟩)
noncomputable def St.output (st : St) : St := ({ st with outs := st.outs ++ [0] } : St).used (-1) 1
set_option maxRecDepth 100000 in
set_option maxHeartbeats 8000000 in
theorem input_any (base b : Nat) (st : St) (x : Ex) (w : World) (h : PS w base b st x) (hk : StOk st) (hb : StB st) (hg : st.gs.length < 65536) :
    Calls Tryd.prog 74 #[.pointer (some ⟨b, 0, none⟩)] w fun e w' => e = .returned (.tuple #[]) ∧ ∃ x', Did w base b st.input x' w' := by
  have hc1 := own_any base b st x w h hk (by have := hb.sp; omega)
  have hos := own_same st
  have hsz := own_size hk
  have hdef : st.input = st.own.2.add ⟨1, st.own.1, 0, 0, 0, 0⟩ := rfl
  obtain ⟨o, ho⟩ : ∃ o, st.own = o := ⟨_, rfl⟩
  rw [ho] at hc1 hos hsz hdef
  obtain ⟨nm, s1⟩ := o
  dsimp only at *
  have HD := Lib.hid hdef
  clear hdef ho
  go_enter Tryd.func74, Tryd.ntmps74
  go_wp2_with (first | (go_at_call 88; with_reducible refine hc1.mono ?_; rintro e w1 ⟨rfl, vS, hd1⟩; have hc2 := padd_any base b s1 _ ⟨1, nm, 0, 0, 0, 0⟩ w1 hd1.ps (by rw [hos.1]; omega) (by unfold maxLen; dsimp only; omega); dsimp only at hc2) | (go_at_call 87; with_reducible refine hc2.mono ?_; rintro e w2 ⟨rfl, vG, hd2⟩))
  go_end0
  exact ⟨rfl, _, by rw [HD.out]; exact hd1.trans hd2⟩
set_option maxRecDepth 100000 in
set_option maxHeartbeats 8000000 in
theorem mux_any (base b : Nat) (st : St) (x : Ex) (w : World) (h : PS w base b st x) (hk : StOk st) (hb : StB st) (hg : st.gs.length < 65536) :
    Calls Tryd.prog 76 #[.pointer (some ⟨b, 0, none⟩)] w fun e w' => e = .returned (.tuple #[]) ∧ ∃ x', Did w base b st.mux x' w' := by
  have hc1 := own_any base b st x w h hk (by have := hb.sp; omega)
  have hos := own_same st
  have hsz := own_size hk
  have hk1 := own_ok hk
  have hul := hb.us
  have hpl := hb.pl
  have hol := hb.ol
  have hdef : st.mux = (st.own.2.used st.gs.length 3).add ⟨4, st.own.1, 0, 0, 0, 0⟩ := rfl
  obtain ⟨o, ho⟩ : ∃ o, st.own = o := ⟨_, rfl⟩
  rw [ho] at hc1 hos hsz hdef hk1
  obtain ⟨nm, s1⟩ := o
  dsimp only at *
  have HD := Lib.hid hdef
  clear hdef ho
  go_enter Tryd.func76, Tryd.ntmps76
  go_upto_region 1 with (go_at_call 88; with_reducible refine hc1.mono ?_; rintro e w1 ⟨rfl, vS, hd1⟩)
  obtain ⟨G, c, hG⟩ := PS.gform hd1.1
  have c1 : w1.cell? ⟨b, 1, none⟩ = some (.slice G s1.gs.length c) := by rw [← hG]; exact (hd1.1.1.out.cell 1).trans rfl
  rw [hos.1] at c1
  have hc2 := used_any base b s1 _ st.gs.length 3 w1 hd1.1 hk1 (by omega) (by omega) (by rw [hos.2.2.2.2.2.2.1]; omega) (by rw [hos.2.2.2.2.2.2.2.1]; omega)
  have hus := used_same s1 st.gs.length 3
  obtain ⟨s2, hs2⟩ : ∃ s, s1.used st.gs.length 3 = s := ⟨_, rfl⟩
  rw [hs2] at hc2 hus HD
  clear hs2
  rw [show ((3 : Nat) : Int) = 3 from rfl] at hc2
  go_upto_region 2 with (go_at_call 91; with_reducible refine hc2.mono ?_; rintro e w2 ⟨rfl, x2, hx2, hd2⟩)
  have hc3 := padd_any base b s2 x2 ⟨4, nm, 0, 0, 0, 0⟩ w2 hd2.1 (by rw [hus.1, hos.1]; omega) (by unfold maxLen; dsimp only; omega)
  dsimp only at hc3
  go_wp2_with (go_at_call 87; with_reducible refine hc3.mono ?_; rintro e w3 ⟨rfl, vG, hd3⟩)
  go_end0
  exact ⟨rfl, _, by rw [HD.out]; exact (hd1.trans hd2).trans hd3⟩
set_option maxRecDepth 100000 in
set_option maxHeartbeats 8000000 in
theorem gate_any (base b : Nat) (st : St) (x : Ex) (w : World) (h : PS w base b st x) (hk : StOk st) (hb : StB st) (hg : st.gs.length < 65536) (ho : ∀ W, Below base w W → OpsAt W 0) :
    Calls Tryd.prog 75 #[.pointer (some ⟨b, 0, none⟩)] w fun e w' => e = .returned (.tuple #[]) ∧ ∃ x', Did w base b st.gate x' w' := by
  have hc1 := own_any base b st x w h hk (by have := hb.sp; omega)
  have hos := own_same st
  have hsz := own_size hk
  have hk1 := own_ok hk
  have hul := hb.us
  have hpl := hb.pl
  have hol := hb.ol
  have hlast : st.gate = (((st.own.2.take opB).2.used st.gs.length 2).add ⟨2, st.own.1, Lib.idxOfS opWords (st.own.2.take opB).1.text, 0, 0, 0⟩) := rfl
  obtain ⟨o, ho1⟩ : ∃ o, st.own = o := ⟨_, rfl⟩
  rw [ho1] at hc1 hos hsz hlast hk1
  obtain ⟨nm, s1⟩ := o
  dsimp only at *
  have htk := St.take_same s1 opB
  have hk2 := hk1.take opB
  have hts := take_size hk1 opB
  have hc2 := fun (x1 : Ex) (w1 : World) (h1 : PS w1 base b s1 x1) (h2 : ∀ W, Below base w1 W → OpsAt W 0) => take_op base b s1 x1 w1 h1 hk1 h2
  obtain ⟨t, ht⟩ : ∃ t, s1.take opB = t := ⟨_, rfl⟩
  rw [ht] at hlast htk hk2 hc2 hts
  obtain ⟨⟨tx, tc⟩, s2⟩ := t
  dsimp only at *
  have HD := Lib.hid hlast
  clear hlast ho1 ht
  go_enter Tryd.func75, Tryd.ntmps75
  go_upto_region 1 with (go_at_call 88; with_reducible refine hc1.mono ?_; rintro e w1 ⟨rfl, vS, hd1⟩)
  have hc2' := hc2 _ w1 hd1.1 (fun W hW => ho W (hd1.2.1.trans hW))
  clear hc2 hc1
  go_upto_region 2 with (go_at_call 61; with_reducible refine hc2'.mono ?_; rintro e w2 ⟨rfl, hd2⟩)
  change Code.wp _ _ _ _ (w2.alloc (.cells #[.string tx, .int .i64 tc] 109))
  have D3 := (hd1.trans hd2).alloc (.cells #[.string tx, .int .i64 tc] 109)
  have HW := Lib.hid (Blk.new w2 109 [.string tx, .int .i64 tc])
  clear hc2' hd2 hd1
  generalize w2.alloc (.cells #[.string tx, .int .i64 tc] 109) = W3 at *
  obtain ⟨bW, hbW⟩ : ∃ bW, w2.heap.size = bW := ⟨_, rfl⟩
  rw [hbW] at HW ⊢
  clear hbW
  obtain ⟨G, c, hG⟩ := PS.gform D3.1
  have c1 : W3.cell? ⟨b, 1, none⟩ = some (.slice G s2.gs.length c) := by rw [← hG]; exact (D3.1.1.out.cell 1).trans rfl
  rw [htk.1, hos.1] at c1
  have hc2 := used_any base b s2 _ st.gs.length 2 W3 D3.1 hk2 (by omega) (by omega) (by rw [htk.2.2.2.2.2.2.1, hos.2.2.2.2.2.2.1]; omega) (by rw [htk.2.2.2.2.2.2.2.1, hos.2.2.2.2.2.2.2.1]; omega)
  have hus := used_same s2 st.gs.length 2
  obtain ⟨s3, hs3⟩ : ∃ s, s2.used st.gs.length 2 = s := ⟨_, rfl⟩
  rw [hs3] at hc2 hus HD
  clear hs3
  rw [show ((2 : Nat) : Int) = 2 from rfl] at hc2
  go_upto_region 3 with (go_at_call 91; with_reducible refine hc2.mono ?_; rintro e w4 ⟨rfl, x4, hx4, hd4⟩)
  have HW4 : Hid (Blk w4 bW 109 [.string tx, .int .i64 tc]) := Lib.hid (hd4.2.2 _ _ _ HW.out (by decide))
  have D4 := Lib.hid (D3.trans hd4)
  clear HW D3 hd4 hc2 c1 hG
  refine regionL 5 (fun W => W.cell? ⟨bW, 0, none⟩ = some (.string tx)) (by kernel_rfl) ?_
  have D5 := Lib.hid D4.out.drew
  have HF0 : Hid (w4.drew.cell? ⟨bW, 0, none⟩ = some (.string tx)) := Lib.hid ((HW4.out.cell 0).trans rfl)
  clear D4 HW4
  generalize w4.drew = W5 at *
  have hci := index_words 0 opWords 16 16 tx W5 rfl (by omega) (ho W5 D5.out.2.1)
  have hc3 := padd_any base b s3 x4 ⟨2, nm, Lib.idxOfS opWords tx, 0, 0, 0⟩ W5 D5.out.1 (by rw [hus.1, htk.1, hos.1]; omega) (by unfold maxLen; dsimp only; omega)
  dsimp only at hc3
  refine takeL0 (i := 0) (v := ?v0g) rfl (by kernel_rfl) (by kernel_rfl) (by kernel_rfl) (by kernel_rfl) (by decide) (fun _ _ _ h => h) (by rfl) ?y0g (Or.inr HF0.out) ?r0g
  case y0g => (intro w; go_simp; (try with_reducible rfl))
  try simp only [Act.put, List.setIfInBounds_toArray, List.set_cons_zero, List.set_cons_succ]
  refine takeL0 (i := 1) (v := ?v1g) rfl (by kernel_rfl) (by kernel_rfl) (by kernel_rfl) (by kernel_rfl) (by decide) (fun _ _ _ h => h) (by rfl) ?y1g (Or.inr HF0.out) ?r1g
  case y1g => (intro w; go_simp; (try with_reducible rfl))
  try simp only [Act.put, List.setIfInBounds_toArray, List.set_cons_zero, List.set_cons_succ]
  refine takeL0 (i := 2) (v := ?v2g) rfl (by kernel_rfl) (by kernel_rfl) (by kernel_rfl) (by kernel_rfl) (by decide) (fun _ _ _ h => h) (by rfl) ?y2g (Or.inr HF0.out) ?r2g
  case y2g => (intro w; go_simp; (try with_reducible rfl))
  try simp only [Act.put, List.setIfInBounds_toArray, List.set_cons_zero, List.set_cons_succ]
  refine takeL0 (i := 3) (v := ?v3g) rfl (by kernel_rfl) (by kernel_rfl) (by kernel_rfl) (by kernel_rfl) (by decide) (fun _ _ _ h => h) (by rfl) ?y3g (Or.inr HF0.out) ?r3g
  case y3g => (intro w; go_simp; (try with_reducible rfl))
  try simp only [Act.put, List.setIfInBounds_toArray, List.set_cons_zero, List.set_cons_succ]
  refine takeL (i := 4) (v := ?v4g) rfl (by kernel_rfl) (by kernel_rfl) (by kernel_rfl) (by kernel_rfl) (by kernel_rfl) (by decide) (fun _ _ _ h => h) (by rfl) ?y4g HF0.out ?r4g
  case y4g => (intro w hSw; (try dsimp only at hSw); obtain q0 := hSw; go_simp; (try with_reducible rfl))
  try simp only [Act.put, List.setIfInBounds_toArray, List.set_cons_zero, List.set_cons_succ]
  refine callL (i := 5) rfl (by kernel_rfl) (by rfl) ?_
  intro K hK
  go_simp
  go_at_call 92
  with_reducible refine hci.mono ?_
  rintro e w6 ⟨rfl, rfl⟩
  refine hK.out _ _ (Or.inl (by kernel_rfl)) (fun _ => ?_)
  clear hK K
  try simp only [Act.put, List.setIfInBounds_toArray, List.set_cons_zero, List.set_cons_succ]
  refine takeL0 (i := 6) (v := ?v6g) rfl (by kernel_rfl) (by kernel_rfl) (by kernel_rfl) (by kernel_rfl) (by decide) (fun _ _ _ h => h) (by rfl) ?y6g (Or.inl (by kernel_rfl)) ?r6g
  case y6g => (intro w; go_simp; (try with_reducible rfl))
  try simp only [Act.put, List.setIfInBounds_toArray, List.set_cons_zero, List.set_cons_succ]
  refine callL (i := 7) rfl (by kernel_rfl) (by rfl) ?_
  intro K hK
  go_simp
  go_at_call 87
  with_reducible refine hc3.mono ?_
  rintro e w7 ⟨rfl, vG, hd7⟩
  refine hK.out _ _ (Or.inl (by kernel_rfl)) (fun _ => ?_)
  clear hK K
  try simp only [Act.put, List.setIfInBounds_toArray, List.set_cons_zero, List.set_cons_succ]
  refine doneL (by kernel_rfl) ?_ _
  go_wp2
  go_end0
  exact ⟨rfl, _, by rw [HD.out]; exact D5.out.trans hd7⟩
set_option maxRecDepth 100000 in
set_option maxHeartbeats 8000000 in
theorem latch_any (base b : Nat) (st : St) (x : Ex) (w : World) (h : PS w base b st x) (hk : StOk st) (hb : StB st) (hg : st.gs.length < 65536) :
    Calls Tryd.prog 77 #[.pointer (some ⟨b, 0, none⟩)] w fun e w' => e = .returned (.tuple #[]) ∧ ∃ x', Did w base b st.latch x' w' := by
  have hc1 := own_any base b st x w h hk (by have := hb.sp; omega)
  have hos := own_same st
  have hsz := own_size hk
  have hk1 := own_ok hk
  have hul := hb.us
  have hpl := hb.pl
  have hol := hb.ol
  have hlast : st.latch = (((st.own.2.take bitB).2.used st.gs.length 1).add ⟨3, st.own.1, if (st.own.2.take bitB).1.text.toList = [49] then 1 else 0, 0, 0, 0⟩) := rfl
  obtain ⟨o, ho1⟩ : ∃ o, st.own = o := ⟨_, rfl⟩
  rw [ho1] at hc1 hos hsz hlast hk1
  obtain ⟨nm, s1⟩ := o
  dsimp only at *
  have htk := St.take_same s1 bitB
  have hk2 := hk1.take bitB
  have hts := take_size hk1 bitB
  have hc2 := fun (x1 : Ex) (w1 : World) (h1 : PS w1 base b s1 x1) => take_bit base b s1 x1 w1 h1 hk1
  obtain ⟨t, ht⟩ : ∃ t, s1.take bitB = t := ⟨_, rfl⟩
  rw [ht] at hlast htk hk2 hc2 hts
  obtain ⟨⟨tx, tc⟩, s2⟩ := t
  dsimp only at *
  have HD := Lib.hid hlast
  clear hlast ho1 ht
  go_enter Tryd.func77, Tryd.ntmps77
  go_upto_region 1 with (go_at_call 88; with_reducible refine hc1.mono ?_; rintro e w1 ⟨rfl, vS, hd1⟩)
  have hc2' := hc2 _ w1 hd1.1
  clear hc2 hc1
  go_upto_region 2 with (go_at_call 61; with_reducible refine hc2'.mono ?_; rintro e w2 ⟨rfl, hd2⟩)
  change Code.wp _ _ _ _ (w2.alloc (.cells #[.string tx, .int .i64 tc] 109))
  have D3 := (hd1.trans hd2).alloc (.cells #[.string tx, .int .i64 tc] 109)
  have HW := Lib.hid (Blk.new w2 109 [.string tx, .int .i64 tc])
  clear hc2' hd2 hd1
  generalize w2.alloc (.cells #[.string tx, .int .i64 tc] 109) = W3 at *
  obtain ⟨bW, hbW⟩ : ∃ bW, w2.heap.size = bW := ⟨_, rfl⟩
  rw [hbW] at HW ⊢
  clear hbW
  obtain ⟨G, c, hG⟩ := PS.gform D3.1
  have c1 : W3.cell? ⟨b, 1, none⟩ = some (.slice G s2.gs.length c) := by rw [← hG]; exact (D3.1.1.out.cell 1).trans rfl
  rw [htk.1, hos.1] at c1
  have hc2 := used_any base b s2 _ st.gs.length 1 W3 D3.1 hk2 (by omega) (by omega) (by rw [htk.2.2.2.2.2.2.1, hos.2.2.2.2.2.2.1]; omega) (by rw [htk.2.2.2.2.2.2.2.1, hos.2.2.2.2.2.2.2.1]; omega)
  have hus := used_same s2 st.gs.length 1
  obtain ⟨s3, hs3⟩ : ∃ s, s2.used st.gs.length 1 = s := ⟨_, rfl⟩
  rw [hs3] at hc2 hus HD
  clear hs3
  rw [show ((1 : Nat) : Int) = 1 from rfl] at hc2
  go_upto_region 3 with (go_at_call 91; with_reducible refine hc2.mono ?_; rintro e w4 ⟨rfl, x4, hx4, hd4⟩)
  have HW4 : Hid (Blk w4 bW 109 [.string tx, .int .i64 tc]) := Lib.hid (hd4.2.2 _ _ _ HW.out (by decide))
  have D4 := Lib.hid (D3.trans hd4)
  clear HW D3 hd4 hc2 c1 hG
  have DR : Hid (Did w4 base b s3 x4 w4) := Lib.hid (Did.refl D4.out.1)
  go_upto_region 4 with (fail)
  change Code.wp _ _ _ _ (w4.alloc (.cells #[.int .i64 3, .string nm, .int .i64 0, .int .i64 0, .int .i64 0, .int .i64 0] 46))
  have hbl := below1 w4 (.cells #[.int .i64 3, .string nm, .int .i64 0, .int .i64 0, .int .i64 0, .int .i64 0] 46)
  have D5 := Lib.hid (DR.out.alloc (.cells #[.int .i64 3, .string nm, .int .i64 0, .int .i64 0, .int .i64 0, .int .i64 0] 46))
  have HW5 := Lib.hid (HW4.out.self hbl)
  have HG5 := Lib.hid (Blk.new w4 46 [.int .i64 3, .string nm, .int .i64 0, .int .i64 0, .int .i64 0, .int .i64 0])
  have HP4 := Lib.hid D4.out.1
  have HZ : Hid (w4.heap.size ≤ w4.heap.size) := Lib.hid (Nat.le_refl _)
  clear hbl HW4 DR
  generalize w4.alloc (.cells #[.int .i64 3, .string nm, .int .i64 0, .int .i64 0, .int .i64 0, .int .i64 0] 46) = W5 at *
  obtain ⟨bG, hbG⟩ : ∃ bG, w4.heap.size = bG := ⟨_, rfl⟩
  have HZ2 : Hid (w4.heap.size ≤ bG) := Lib.hid (by omega)
  rw [hbG] at HG5 ⊢
  clear hbG HZ
  have y0 : W5.cell? ⟨bW, 0, none⟩ = some (.string tx) := (HW5.out.cell 0).trans rfl
  by_cases h1 : tx.toList = [49]
  · have h2 : (tx.toList == [49]) = true := by rw [h1]; rfl
    rw [if_pos h1] at HD
    have z2 : W5.cell? ⟨bG, 2, none⟩ = some (.int .i64 0) := (HG5.out.cell 2).trans rfl
    have f2 := HG5.out.frozen 2
    have hon := only_setCell (only_refl W5 (some bG)) (p := ⟨bG, 2, none⟩) (.inl rfl) (.int .i64 1)
    have HG6 : Hid (Blk (W5.setCell ⟨bG, 2, none⟩ (.int .i64 1)) bG 46 [.int .i64 3, .string nm, .int .i64 1, .int .i64 0, .int .i64 0, .int .i64 0]) := Lib.hid (HG5.out.set_ 2 (.int .i64 1))
    have D6 := Lib.hid (Did.local_ (v := .slice (some ⟨bG, 0, none⟩) 0 0) HP4.out D5.out hon (fun z e => by cases e; exact HZ2.out) rfl rfl rfl)
    clear hon
    go_upto_region 6 with (fail)
    clear z2 f2 y0
    change Code.wp _ _ _ _ (W5.setCell ⟨bG, 2, none⟩ (.int .i64 1))
    generalize W5.setCell ⟨bG, 2, none⟩ (.int .i64 1) = W6 at *
    have hc3 := padd_any base b s3 x4 ⟨3, nm, 1, 0, 0, 0⟩ W6 D6.out.1 (by rw [hus.1, htk.1, hos.1]; omega) (by unfold maxLen; dsimp only; omega)
    dsimp only at hc3
    have z0 : W6.cell? ⟨bG, 0, none⟩ = some (.int .i64 3) := (HG6.out.cell 0).trans rfl
    have z1 : W6.cell? ⟨bG, 1, none⟩ = some (.string nm) := (HG6.out.cell 1).trans rfl
    have z2 : W6.cell? ⟨bG, 2, none⟩ = some (.int .i64 1) := (HG6.out.cell 2).trans rfl
    have z3 : W6.cell? ⟨bG, 3, none⟩ = some (.int .i64 0) := (HG6.out.cell 3).trans rfl
    have z4 : W6.cell? ⟨bG, 4, none⟩ = some (.int .i64 0) := (HG6.out.cell 4).trans rfl
    have z5 : W6.cell? ⟨bG, 5, none⟩ = some (.int .i64 0) := (HG6.out.cell 5).trans rfl
  
    go_wp2_with (go_at_call 87; with_reducible refine hc3.mono ?_; rintro e w7 ⟨rfl, vG, hd7⟩)
    go_end0
    exact ⟨rfl, _, by rw [HD.out]; exact (D4.out.trans D6.out).trans hd7⟩
  · have h2 : (tx.toList == [49]) = false := by simpa using h1
    rw [if_neg h1] at HD
    go_upto_region 6 with (fail)
    have hc3 := padd_any base b s3 x4 ⟨3, nm, 0, 0, 0, 0⟩ W5 D5.out.1 (by rw [hus.1, htk.1, hos.1]; omega) (by unfold maxLen; dsimp only; omega)
    dsimp only at hc3
    have z0 : W5.cell? ⟨bG, 0, none⟩ = some (.int .i64 3) := (HG5.out.cell 0).trans rfl
    have z1 : W5.cell? ⟨bG, 1, none⟩ = some (.string nm) := (HG5.out.cell 1).trans rfl
    have z2 : W5.cell? ⟨bG, 2, none⟩ = some (.int .i64 0) := (HG5.out.cell 2).trans rfl
    have z3 : W5.cell? ⟨bG, 3, none⟩ = some (.int .i64 0) := (HG5.out.cell 3).trans rfl
    have z4 : W5.cell? ⟨bG, 4, none⟩ = some (.int .i64 0) := (HG5.out.cell 4).trans rfl
    have z5 : W5.cell? ⟨bG, 5, none⟩ = some (.int .i64 0) := (HG5.out.cell 5).trans rfl
  
    go_wp2_with (go_at_call 87; with_reducible refine hc3.mono ?_; rintro e w7 ⟨rfl, vG, hd7⟩)
    go_end0
    exact ⟨rfl, _, by rw [HD.out]; exact (D4.out.trans D5.out).trans hd7⟩
set_option maxRecDepth 100000 in
set_option maxHeartbeats 8000000 in
theorem output_any (base b : Nat) (st : St) (x : Ex) (w : World) (h : PS w base b st x) (hk : StOk st) (hb : StB st) (hg : st.outs.length < 65536) :
    Calls Tryd.prog 78 #[.pointer (some ⟨b, 0, none⟩)] w fun e w' => e = .returned (.tuple #[]) ∧ ∃ x', Did w base b st.output x' w' := by
  have hdef : st.output = ({ st with outs := st.outs ++ [0] } : St).used (-1) 1 := rfl
  have HD := Lib.hid hdef
  have hul := hb.us
  have hpl := hb.pl
  have hgl := hb.gl
  have HK := Lib.hid hk
  clear hdef hk hb
  have DA := (Did.refl h).alloc (.cells #[.int .i64 0] 3)
  have HB1 := DA.1.1
  have HP1 := DA.1.2
  have HDA := Lib.hid DA
  have HS := Blk.new w 3 [.int .i64 0]
  have hO1 : Owns (w.alloc (.cells #[.int .i64 0] 3)) base 3 x.vO (nums .i64 st.outs) := HP1.out.hold.1 1 _ rfl
  have hb1 : base ≤ (w.alloc (.cells #[.int .i64 0] 3)).heap.size := Nat.le_trans HP1.out.bb (Nat.le_of_lt HB1.out.lt)
  have c2 : w.cell? ⟨b, 2, none⟩ = some x.vO := (h.1.out.cell 2).trans rfl
  have hnl : (nums .i64 st.outs).length = st.outs.length := nums_length _ _
  clear DA
  have hfin : ∀ (v2 : Value) (w2 : World), Owns w2 base 3 v2 (nums .i64 st.outs ++ [.int .i64 0]) → (w.alloc (.cells #[.int .i64 0] 3)).grownBy w2 x.vO.ownBlock → (v2.ownBlock = x.vO.ownBlock ∨ v2.ownBlock = some (w.alloc (.cells #[.int .i64 0] 3)).heap.size) → ∃ A n k, v2 = .slice A n k ∧ w2.cell? ⟨b, 2, none⟩ = some x.vO ∧ w2.frozen? ⟨b, 2, none⟩ = false ∧ Did (w.alloc (.cells #[.int .i64 0] 3)) base b { st with outs := st.outs ++ [0] } { x with vO := v2 } (w2.setCell ⟨b, 2, none⟩ v2) := fun v2 w2 hO hg2 hn2 => by
    obtain ⟨A2, k2, e2, _⟩ := rows_cells hO (by decide)
    have G := PS.grow (st' := { st with outs := st.outs ++ [0] }) (x' := { x with vO := v2 }) (i := 1) (c := 2) (r' := row1 3 v2 (nums .i64 (st.outs ++ [0]))) HB1.out HP1.out rfl hg2 (by rw [nums_append]; exact hO) hn2 rfl rfl rfl rfl rfl rfl HP1.out.uses (Nat.le_refl _) (show 3 ∈ [46, 3, 33, 115] by decide) rfl
    exact ⟨A2, _, k2, e2, (G.1.cell 2).trans rfl, G.1.frozen 2, G.2⟩
  have hc2 := fun (x2 : Ex) (w2 : World) (h2 : PS w2 base b { st with outs := st.outs ++ [0] } x2) => used_any base b { st with outs := st.outs ++ [0] } x2 (-1) 1 w2 h2 ⟨HK.out.nx0, HK.out.nx1, HK.out.wl, HK.out.ws⟩ (by omega) (by omega) (by show st.uses.length ≤ 300000; omega) (by show st.places.length ≤ 300000; omega)
  rw [show ((1 : Nat) : Int) = 1 from rfl] at hc2
  go_enter Tryd.func78, Tryd.ntmps78
  go_upto_region 1 with (at_builtin; refine wpList_push rfl _ _ 23 rfl base 3 _ 8 Tryd.underlying23 info_int rfl x.vO _ rfl hO1 ⟨w.heap.size, 0, none⟩ (.int .i64 0) rfl (HS.cell 0) rfl (by rw [hnl]; omega) hb1 ?_; intro v2 w2 hO hg2 hn2; obtain ⟨A2, n2, k2, e2, z2, f2, G⟩ := hfin v2 w2 hO hg2 hn2; subst e2)
  clear hfin c2 z2 f2 hO hg2 hn2 hO1
  have hc3 := hc2 _ _ G.1
  have HG := Lib.hid G
  clear hc2 G
  go_wp2_with (go_at_call 91; with_reducible refine hc3.mono ?_; rintro e w3 ⟨rfl, x3, hx3, hd3⟩)
  go_end0
  exact ⟨rfl, x3, by rw [HD.out]; exact (HDA.out.trans HG.out).trans hd3⟩
end Go.Proofs.YtjkmoahnociaiaaDoor
