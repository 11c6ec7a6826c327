/- The reader: what holds between lines (plain). -/
import Derived.Test.YtjkmoahnociaiaaDoorQ8
namespace Go.Proofs.YtjkmoahnociaiaaDoor
open Go.RowKit Go.WideMaps Go.Maps

/-- All that holds between lines. -/
structure Inv (st : St) : Prop where
  ok : StOk st
  b : StB st
  j : StJ st
/-- The lists are as they were. -/
def SameL (s st : St) : Prop := s.gs = st.gs ∧ s.outs = st.outs ∧ s.f = st.f ∧ s.spots = st.spots ∧ s.uses = st.uses ∧ s.places = st.places
theorem SameL.refl (st : St) : SameL st st := ⟨rfl, rfl, rfl, rfl, rfl, rfl⟩
theorem SameL.trans {a b c : St} (h : SameL a b) (k : SameL b c) : SameL a c := ⟨h.1.trans k.1, h.2.1.trans k.2.1, h.2.2.1.trans k.2.2.1, h.2.2.2.1.trans k.2.2.2.1, h.2.2.2.2.1.trans k.2.2.2.2.1, h.2.2.2.2.2.trans k.2.2.2.2.2⟩
theorem SameL.b {s st : St} (h : SameL s st) (k : StB st) : StB s := by
  obtain ⟨h1, h2, h3, h4, h5, h6⟩ := h
  exact ⟨by rw [h4, h1]; exact k.sp, by rw [h6, h5]; exact k.pl, by rw [h5, h1, h2]; exact k.us, by rw [h1]; exact k.gl, by rw [h2]; exact k.ol⟩
theorem SameL.j {s st : St} (h : SameL s st) (k : StJ st) : StJ s := by
  obtain ⟨h1, h2, h3, h4, h5, h6⟩ := h
  exact ⟨by rw [h5]; exact k.us, by rw [h5]; exact k.nm, by rw [h6, h1]; exact k.pl, by rw [h6, h2]; exact k.ct, by rw [h3, h1]; exact k.fz⟩
theorem sameL_fail (st : St) (e c : Int) : SameL (st.fail e c) st := by
  have h := St.fail_same st e c
  exact ⟨h.1, h.2.1, h.2.2.2.2.1, h.2.2.2.2.2.1, h.2.2.2.2.2.2.1, h.2.2.2.2.2.2.2.1⟩
theorem sameL_take (st : St) (r : ByteArray → Bool) : SameL (st.take r).2 st := by
  have h := St.take_same st r
  exact ⟨h.1, h.2.1, h.2.2.2.2.1, h.2.2.2.2.2.1, h.2.2.2.2.2.2.1, h.2.2.2.2.2.2.2.1⟩
theorem sameL_tail (st : St) : SameL st.tail st := by
  unfold St.tail
  split
  · exact SameL.refl _
  · exact sameL_fail _ _ _
theorem tail_ok {st : St} (h : StOk st) : StOk st.tail := by
  unfold St.tail
  split
  · exact h
  · exact h.fail _ _
theorem usedL_us {st : St} (h : StOk st) : ∀ n, ∀ u ∈ (usedL n st).1, u.name.size ≤ 4000000
  | 0 => fun u hu => by cases hu
  | n + 1 => fun u hu => by
    have e : (usedL (n + 1) st).1 = (usedL n st).1 ++ [⟨((usedL n st).2.take nameB).1.text, ((usedL n st).2.take nameB).2.line, ((usedL n st).2.take nameB).1.col⟩] := rfl
    rw [e] at hu
    rcases List.mem_append.1 hu with hu | hu
    · exact usedL_us h n u hu
    · simp only [List.mem_singleton] at hu
      subst hu
      exact take_size (usedL_ok h n) nameB
theorem used_uses (st : St) (p : Int) (n : Nat) : (st.used p n).uses = st.uses ++ [(usedL n st).1] ∧ (st.used p n).places = st.places ++ [p] := by
  have h := usedL_same st n
  unfold St.used
  dsimp only
  rw [h.2.2.2.2.2.2.1, h.2.2.2.2.2.2.2.1]
  exact ⟨rfl, rfl⟩
/-- A line is added, with what it uses. -/
theorem inv_line {st s : St} (hb : StB st) (hj : StJ st) (hg : st.gs.length < 65536) (h1 : s.gs.length = st.gs.length + 1) (h2 : s.outs = st.outs) (h3 : s.spots.length = st.spots.length + 1) (h4 : ∀ t, 0 ≤ s.f t ∧ s.f t ≤ s.gs.length)
    (h5 : (s.uses = st.uses ∧ s.places = st.places) ∨ ∃ l : List Us, l.length ≤ 3 ∧ (∀ u ∈ l, u.name.size ≤ 4000000) ∧ s.uses = st.uses ++ [l] ∧ s.places = st.places ++ [(st.gs.length : Int)]) : StB s ∧ StJ s := by
  have e1 := hb.sp
  have e2 := hb.pl
  have e3 := hb.us
  have e4 := hb.ol
  rcases h5 with ⟨hu, hp⟩ | ⟨l, hl, hn, hu, hp⟩
  · refine ⟨⟨by omega, by rw [hu, hp]; exact e2, by rw [hu, h2]; omega, by omega, by rw [h2]; exact e4⟩, ⟨by rw [hu]; exact hj.us, by rw [hu]; exact hj.nm, fun p hpm => ?_, by rw [hp, h2]; exact hj.ct, h4⟩⟩
    rw [hp] at hpm
    rcases hj.pl p hpm with h | h
    · exact .inl h
    · exact .inr ⟨h.1, by omega⟩
  · refine ⟨⟨by omega, by rw [hu, hp, List.length_append, List.length_append]; simp only [List.length_singleton]; omega, by rw [hu, h2]; simp; omega, by omega, by rw [h2]; exact e4⟩, ⟨fun m hm => ?_, fun m hm => ?_, fun p hpm => ?_, ?_, h4⟩⟩
    · rw [hu] at hm
      rcases List.mem_append.1 hm with hm | hm
      · exact hj.us m hm
      · simp only [List.mem_singleton] at hm
        rw [hm]
        exact hl
    · rw [hu] at hm
      rcases List.mem_append.1 hm with hm | hm
      · exact hj.nm m hm
      · simp only [List.mem_singleton] at hm
        rw [hm]
        exact hn
    · rw [hp] at hpm
      rcases List.mem_append.1 hpm with hpm | hpm
      · rcases hj.pl p hpm with h | h
        · exact .inl h
        · exact .inr ⟨h.1, by omega⟩
      · simp only [List.mem_singleton] at hpm
        exact .inr ⟨by omega, by omega⟩
    · rw [hp, h2, List.count_append, hj.ct, List.count_singleton]
      have : ((st.gs.length : Int) == -1) = false := by simp
      rw [this]
      simp
theorem add_f {st : St} (hf : ∀ t, 0 ≤ st.f t ∧ st.f t ≤ st.gs.length) (g : Gt) : ∀ t, 0 ≤ (st.add g).f t ∧ (st.add g).f t ≤ (st.add g).gs.length := fun t => by
  unfold St.add
  dsimp only
  have := hf t
  split
  · rw [List.length_append]; simp only [List.length_singleton]; omega
  · rw [List.length_append]; simp only [List.length_singleton]; omega
theorem own_f (st : St) : st.own.2.f = st.f ∧ st.own.2.gs = st.gs := ⟨(own_same st).2.2.2.2.1, (own_same st).1⟩
theorem input_inv {st : St} (hb : StB st) (hj : StJ st) (hg : st.gs.length < 65536) : StB st.input ∧ StJ st.input := by
  have h := own_same st
  refine inv_line hb hj hg ?_ ?_ ?_ ?_ (.inl ⟨?_, ?_⟩)
  · show (st.own.2.gs ++ [_]).length = _
    rw [h.1]; simp
  · exact h.2.1
  · exact h.2.2.2.2.2.1
  · refine add_f (fun t => ?_) _
    rw [h.2.2.2.2.1, h.1]
    exact hj.fz t
  · exact h.2.2.2.2.2.2.1
  · exact h.2.2.2.2.2.2.2.1
theorem lines_inv {st s0 : St} {n : Nat} {g : Gt} (hb : StB st) (hj : StJ st) (hg : st.gs.length < 65536) (hn : n ≤ 3) (hk : StOk s0) (h : s0.gs = st.gs ∧ s0.outs = st.outs ∧ s0.f = st.f ∧ s0.spots.length = st.spots.length + 1 ∧ s0.uses = st.uses ∧ s0.places = st.places) :
    StB ((s0.used st.gs.length n).add g) ∧ StJ ((s0.used st.gs.length n).add g) := by
  have hs := used_same s0 st.gs.length n
  have hu := used_uses s0 st.gs.length n
  refine inv_line hb hj hg ?_ ?_ ?_ ?_ (.inr ⟨(usedL n s0).1, by rw [usedL_len]; exact hn, usedL_us hk n, ?_, ?_⟩)
  · show ((s0.used st.gs.length n).gs ++ [_]).length = _
    rw [hs.1, h.1]; simp
  · exact hs.2.1.trans h.2.1
  · show (s0.used st.gs.length n).spots.length = _
    rw [hs.2.2.2.2.2.1]; exact h.2.2.2.1
  · refine add_f (fun t => ?_) _
    rw [hs.2.2.2.2.1, h.2.2.1, hs.1, h.1]
    exact hj.fz t
  · show (s0.used st.gs.length n).uses = _
    rw [hu.1, h.2.2.2.2.1]
  · show (s0.used st.gs.length n).places = _
    rw [hu.2, h.2.2.2.2.2]
theorem own_six (st : St) : st.own.2.gs = st.gs ∧ st.own.2.outs = st.outs ∧ st.own.2.f = st.f ∧ st.own.2.spots.length = st.spots.length + 1 ∧ st.own.2.uses = st.uses ∧ st.own.2.places = st.places := by
  have h := own_same st
  exact ⟨h.1, h.2.1, h.2.2.2.2.1, h.2.2.2.2.2.1, h.2.2.2.2.2.2.1, h.2.2.2.2.2.2.2.1⟩
theorem own_take_six (st : St) (r : ByteArray → Bool) : (st.own.2.take r).2.gs = st.gs ∧ (st.own.2.take r).2.outs = st.outs ∧ (st.own.2.take r).2.f = st.f ∧ (st.own.2.take r).2.spots.length = st.spots.length + 1 ∧ (st.own.2.take r).2.uses = st.uses ∧ (st.own.2.take r).2.places = st.places := by
  have h := own_six st
  have k := sameL_take st.own.2 r
  exact ⟨k.1.trans h.1, k.2.1.trans h.2.1, k.2.2.1.trans h.2.2.1, by rw [k.2.2.2.1]; exact h.2.2.2.1, k.2.2.2.2.1.trans h.2.2.2.2.1, k.2.2.2.2.2.trans h.2.2.2.2.2⟩
theorem mux_inv {st : St} (hk : StOk st) (hb : StB st) (hj : StJ st) (hg : st.gs.length < 65536) : StB st.mux ∧ StJ st.mux := lines_inv hb hj hg (by omega) (own_ok hk) (own_six st)
theorem gate_inv {st : St} (hk : StOk st) (hb : StB st) (hj : StJ st) (hg : st.gs.length < 65536) : StB st.gate ∧ StJ st.gate := lines_inv hb hj hg (by omega) ((own_ok hk).take opB) (own_take_six st opB)
theorem latch_inv {st : St} (hk : StOk st) (hb : StB st) (hj : StJ st) (hg : st.gs.length < 65536) : StB st.latch ∧ StJ st.latch := lines_inv hb hj hg (by omega) ((own_ok hk).take bitB) (own_take_six st bitB)
theorem output_inv {st : St} (hk : StOk st) (hb : StB st) (hj : StJ st) (hg : st.outs.length < 65536) : StB st.output ∧ StJ st.output := by
  obtain ⟨s0, hs0⟩ : ∃ s, ({ st with outs := st.outs ++ [0] } : St) = s := ⟨_, rfl⟩
  have hk0 : StOk s0 := by rw [← hs0]; exact ⟨hk.nx0, hk.nx1, hk.wl, hk.ws⟩
  have hs := used_same s0 (-1) 1
  have hu := used_uses s0 (-1) 1
  have e1 := hb.sp
  have e2 := hb.pl
  have e3 := hb.us
  have e4 := hb.gl
  have g1 : s0.gs = st.gs := by rw [← hs0]
  have g2 : s0.outs = st.outs ++ [0] := by rw [← hs0]
  have g3 : s0.f = st.f := by rw [← hs0]
  have g4 : s0.spots = st.spots := by rw [← hs0]
  have g5 : s0.uses = st.uses := by rw [← hs0]
  have g6 : s0.places = st.places := by rw [← hs0]
  have hout : st.output = s0.used (-1) 1 := by rw [← hs0]; rfl
  have hol : (st.outs ++ [0]).length = st.outs.length + 1 := by simp
  rw [hout]
  refine ⟨⟨?_, ?_, ?_, ?_, ?_⟩, ⟨fun m hm => ?_, fun m hm => ?_, fun p hpm => ?_, ?_, ?_⟩⟩
  · rw [hs.2.2.2.2.2.1, hs.1, g1, g4]; exact e1
  · rw [hs.2.2.2.2.2.2.1, hs.2.2.2.2.2.2.2.1, g5, g6]; omega
  · rw [hs.2.2.2.2.2.2.1, hs.1, hs.2.1, g1, g2, g5, hol]; omega
  · rw [hs.1, g1]; exact e4
  · rw [hs.2.1, g2, hol]; omega
  · rw [hu.1, g5] at hm
    rcases List.mem_append.1 hm with hm | hm
    · exact hj.us m hm
    · simp only [List.mem_singleton] at hm
      rw [hm, usedL_len]
      omega
  · rw [hu.1, g5] at hm
    rcases List.mem_append.1 hm with hm | hm
    · exact hj.nm m hm
    · simp only [List.mem_singleton] at hm
      rw [hm]
      exact usedL_us hk0 1
  · rw [hu.2, g6] at hpm
    rw [hs.1, g1]
    rcases List.mem_append.1 hpm with hpm | hpm
    · exact hj.pl p hpm
    · simp only [List.mem_singleton] at hpm
      exact .inl hpm
  · rw [hu.2, hs.2.1, g2, g6, List.count_append, hj.ct, hol]
    rfl
  · rw [hs.2.2.2.2.1, hs.1, g1, g3]
    exact hj.fz
theorem full_gs {st : St} {s : ByteArray} (hf : st.full s = false) (h : s.toList ≠ [111, 117, 116, 112, 117, 116]) : st.gs.length < 65536 := by
  unfold St.full at hf
  rw [if_neg h] at hf
  simpa using hf
theorem readW_inv {st : St} (h : Inv st) (y : Wd) : Inv (st.readW y) := by
  unfold St.readW
  split
  · exact ⟨h.ok.fail _ _, (sameL_fail _ _ _).b h.b, (sameL_fail _ _ _).j h.j⟩
  · rename_i hbad
    split
    · exact ⟨h.ok.fail _ _, (sameL_fail _ _ _).b h.b, (sameL_fail _ _ _).j h.j⟩
    · rename_i hfull
      have hbody : StB (st.body y.text) ∧ StJ (st.body y.text) := by
        unfold St.body
        split
        · have k : SameL ({ (({ st with begun := true } : St).take nameB).2 with name := (({ st with begun := true } : St).take nameB).1.text } : St) st :=
            SameL.trans (b := ({ st with begun := true } : St)) (sameL_take ({ st with begun := true } : St) nameB) ⟨rfl, rfl, rfl, rfl, rfl, rfl⟩
          exact ⟨k.b h.b, k.j h.j⟩
        · rename_i hbg
          have hbg' : st.begun = true := by simpa using hbg
          split
          · have k : SameL ({ st with ended := true } : St) st := ⟨rfl, rfl, rfl, rfl, rfl, rfl⟩
            exact ⟨k.b h.b, k.j h.j⟩
          · rename_i hend
            have hff : st.full y.text = false := by
              cases hf : st.full y.text
              · rfl
              · exact absurd ⟨hbg', hend, hf⟩ hfull
            split
            · rename_i hw
              exact input_inv h.b h.j (full_gs hff (by rw [hw]; decide))
            · split
              · rename_i hw
                exact gate_inv h.ok h.b h.j (full_gs hff (by rw [hw]; decide))
              · split
                · rename_i hw
                  exact mux_inv h.ok h.b h.j (full_gs hff (by rw [hw]; decide))
                · split
                  · rename_i hw
                    exact latch_inv h.ok h.b h.j (full_gs hff (by rw [hw]; decide))
                  · rename_i w1 w2 w3 w4
                    have hout : y.text.toList = [111, 117, 116, 112, 117, 116] := by
                      unfold St.bad rwB at hbad
                      simp only [hbg', w1, w2, w3, w4, hend, Bool.not_true, Bool.false_and, Bool.or_false, Bool.true_and, decide_false, Bool.false_or, Bool.not_false, Bool.and_true, Bool.or_eq_true, not_or, Bool.not_eq_true, Bool.not_eq_false'] at hbad
                      simpa using hbad.2
                    refine output_inv h.ok h.b h.j ?_
                    unfold St.full at hff
                    rw [if_pos hout] at hff
                    simpa using hff
      exact ⟨tail_ok (body_ok h.ok _), (sameL_tail _).b hbody.1, (sameL_tail _).j hbody.2⟩
theorem splitL_len : ∀ (n i : Nat) (e : Int) (l : List UInt8), (splitL n i e l).1.length ≤ l.length ∧ ∀ x ∈ (splitL n i e l).1, x.text.size ≤ l.length
  | 0, _, _, _ => ⟨Nat.zero_le _, fun x hx => by cases hx⟩
  | _ + 1, _, _, [] => ⟨Nat.zero_le _, fun x hx => by cases hx⟩
  | n + 1, i, e, c :: t => by
    unfold splitL
    split
    · exact ⟨Nat.zero_le _, fun x hx => by cases hx⟩
    · rename_i h35
      split
      · have h := splitL_len n (i + 1) e t
        exact ⟨Nat.le_succ_of_le h.1, fun x hx => Nat.le_succ_of_le (h.2 x hx)⟩
      · rename_i hb
        have hs : stopC c = false := by
          unfold stopC
          simp only [Bool.not_eq_true] at hb h35
          rw [hb, h35]
          rfl
        have hu := headW_le (c :: t)
        have hu1 : 1 ≤ (headW (c :: t)).length := by rw [headW_cons hs]; simp
        have h := splitL_len n (i + (headW (c :: t)).length) ((i + (headW (c :: t)).length + 1 : Nat) : Int) ((c :: t).drop (headW (c :: t)).length)
        rw [List.length_drop] at h
        refine ⟨?_, fun x hx => ?_⟩
        · simp only [List.length_cons] at h ⊢
          omega
        · rcases List.mem_cons.1 hx with hx | hx
          · rw [hx]
            show (headW (c :: t)).toArray.size ≤ _
            simpa using hu
          · have := h.2 x hx
            omega
theorem splitW_len (s : ByteArray) : (splitW s).1.length ≤ s.size ∧ ∀ x ∈ (splitW s).1, x.text.size ≤ s.size := by
  have h := splitL_len (s.size + 1) 0 1 s.data.toList
  rw [Array.length_toList] at h
  exact h
theorem splitB_size (sep : ByteArray) : ∀ (k : Nat) (s : ByteArray), ∀ l ∈ Lib.splitB sep 0 k s, l.size ≤ s.size
  | 0, s => fun l hl => by simp [Lib.splitB] at hl; rw [hl]; exact Nat.le_refl _
  | k + 1, s => fun l hl => by
    unfold Lib.splitB at hl
    split at hl
    · simp at hl; rw [hl]; exact Nat.le_refl _
    · rcases List.mem_cons.1 hl with hl | hl
      · rw [hl, ByteArray.size_extract]; omega
      · have := splitB_size sep k _ l hl
        rw [ByteArray.size_extract] at this
        omega
theorem linesOf_size (s : ByteArray) : ∀ l ∈ linesOf s, l.size ≤ s.size := splitB_size nl _ s
/-- A line is read. -/
noncomputable def stepL (st : St) (k : Int) (l : ByteArray) (A : Option Addr) (c : Nat) : St :=
  if 0 < (splitW l).1.length then ({ st with line := k, words := (splitW l).1, end_ := (splitW l).2, wA := A, wC := c } : St).read else { st with line := k, words := (splitW l).1, end_ := (splitW l).2, wA := A, wC := c }
theorem at_inv {st : St} (h : Inv st) (k : Int) (l : ByteArray) (A : Option Addr) (c : Nat) (hl : l.size ≤ 4000000) : Inv ({ st with line := k, words := (splitW l).1, end_ := (splitW l).2, wA := A, wC := c } : St) := by
  have hs := splitW_len l
  have k : SameL ({ st with line := k, words := (splitW l).1, end_ := (splitW l).2, wA := A, wC := c } : St) st := ⟨rfl, rfl, rfl, rfl, rfl, rfl⟩
  exact ⟨⟨h.ok.nx0, h.ok.nx1, Nat.le_trans hs.1 hl, fun x hx => Nat.le_trans (hs.2 x hx) hl⟩, k.b h.b, k.j h.j⟩
theorem read_inv {st : St} (h : Inv st) : Inv st.read := by
  unfold St.read
  split
  · exact h
  · have k : SameL ({ st with next := 1 } : St) st := ⟨rfl, rfl, rfl, rfl, rfl, rfl⟩
    exact readW_inv (st := { st with next := 1 }) ⟨⟨by show (0 : Int) ≤ 1; omega, by show (1 : Int) ≤ 4000000; omega, h.ok.wl, h.ok.ws⟩, k.b h.b, k.j h.j⟩ _
theorem stepL_inv {st : St} (h : Inv st) (k : Int) (l : ByteArray) (A : Option Addr) (c : Nat) (hl : l.size ≤ 4000000) : Inv (stepL st k l A c) := by
  unfold stepL
  split
  · exact read_inv (at_inv h k l A c hl)
  · exact at_inv h k l A c hl
def St.zero : St := ⟨⟨#[]⟩, [], [], false, false, 0, [], none, 0, 0, 0, 0, 0, 0, fun _ => 0, [], [], []⟩
theorem zero_inv : Inv St.zero := ⟨⟨Int.le_refl _, by decide, Nat.zero_le _, fun x hx => (by cases hx)⟩, ⟨rfl, rfl, Nat.zero_le _, Nat.zero_le _, Nat.zero_le _⟩, ⟨fun l hl => (by cases hl), fun l hl => (by cases hl), fun p hp => (by cases hp), rfl, fun t => ⟨Int.le_refl _, Int.le_refl _⟩⟩⟩
/-- The lines are read, as far as a fault. -/
def Ran : St → Nat → List ByteArray → St → Prop
  | st, _, [], st' => st' = st
  | st, i, l :: ls, st' => ∃ A c, if (stepL st ((i + 1 : Nat) : Int) l A c).fc = 0 then Ran (stepL st ((i + 1 : Nat) : Int) l A c) (i + 1) ls st' else st' = stepL st ((i + 1 : Nat) : Int) l A c
end Go.Proofs.YtjkmoahnociaiaaDoor
/- The document's reading of a text, plainly; and that a line of it is read as the reader reads it. No program in sight. -/
namespace Go.Proofs.YtjkmoahnociaiaaDoor

/-- A name that is used: where, and by which line's operand. -/
structure Du where
  name : ByteArray
  line : Int
  col : Int
  gate : Int
  op : Int
/-- What the document's reading holds. -/
structure Rd where
  name : ByteArray
  gs : List Gt
  outs : List Int
  f : ByteArray → Int
  spots : List (Int × Int)
  us : List Du
  done : Bool
abbrev Fl := Int × Int × Int
/-- What a line has told so far. -/
structure Ac where
  nm : ByteArray
  op : Int
  np : Int × Int
  us : List Du
def wnt (s : ByteArray) : List UInt8 :=
  if s.toList = [105, 110, 112, 117, 116] then [110] else if s.toList = [103, 97, 116, 101] then [110, 111, 117, 117] else if s.toList = [109, 117, 120] then [110, 117, 117, 117] else if s.toList = [108, 97, 116, 99, 104] then [110, 102, 117] else if s.toList = [111, 117, 116, 112, 117, 116] then [117] else []
def isOut (s : ByteArray) : Bool := decide (s.toList = [111, 117, 116, 112, 117, 116])
noncomputable def opIx (s : ByteArray) : Int := Lib.idxOfS opWords s
/-- A word of a line, by what is wanted there. -/
noncomputable def dstep (f : ByteArray → Int) (no gate : Int) (k : UInt8) (w : Wd) (a : Ac) : Ac × Fl :=
  if k = 110 then ({ a with nm := w.text, np := (no, w.col) }, if nameB w.text = true ∧ f w.text ≠ 0 then (141, no, w.col) else if nameB w.text = true then (0, 0, 0) else (140, no, w.col))
  else if k = 111 then ({ a with op := opIx w.text }, if 0 ≤ opIx w.text then (0, 0, 0) else (140, no, w.col))
  else if k = 102 then ({ a with op := if w.text.toList = [49] then 1 else a.op }, if bitB w.text = true then (0, 0, 0) else (140, no, w.col))
  else ({ a with us := a.us ++ [⟨w.text, no, w.col, gate, (a.us.length : Int)⟩] }, if nameB w.text = true then (0, 0, 0) else (140, no, w.col))
noncomputable def dgo (f : ByteArray → Int) (no e gate : Int) (ws : List Wd) : List UInt8 → Nat → Ac → Ac × Fl
  | [], _, a => (a, (0, 0, 0))
  | k :: ks, i, a =>
    match ws[i + 1]? with
    | none => (a, (140, no, e))
    | some w => if (dstep f no gate k w a).2.1 = 0 then dgo f no e gate ws ks (i + 1) (dstep f no gate k w a).1 else dstep f no gate k w a
def knd (s : ByteArray) : Int := if s.toList = [105, 110, 112, 117, 116] then 1 else if s.toList = [103, 97, 116, 101] then 2 else if s.toList = [109, 117, 120] then 4 else 3
def ac0 : Ac := ⟨⟨#[]⟩, 0, (0, 0), []⟩
def Rd.put (r : Rd) (y : ByteArray) (a : Ac) : Rd :=
  if isOut y = true then { r with outs := r.outs ++ [0], us := r.us ++ a.us }
  else { r with us := r.us ++ a.us, f := fun t => if t = a.nm then ((r.gs.length + 1 : Nat) : Int) else r.f t, gs := r.gs ++ [⟨knd y, a.nm, a.op, 0, 0, 0⟩], spots := r.spots ++ [a.np] }
noncomputable def Rd.item (r : Rd) (ws : List Wd) (no e : Int) (y : Wd) : Rd × Fl :=
  if wnt y.text = [] then (r, (140, no, y.col))
  else if (isOut y.text = true ∧ r.outs.length = 65536) ∨ (isOut y.text = false ∧ r.gs.length = 65536) then (r, (8, no, y.col))
  else
    let g := dgo r.f no e (if isOut y.text = true then -1 else (r.gs.length : Int)) ws (wnt y.text) 0 ac0
    if g.2.1 ≠ 0 then (r, g.2)
    else match ws[(wnt y.text).length + 1]? with
      | some w => (r, (140, no, w.col))
      | none => (r.put y.text g.1, (0, 0, 0))
noncomputable def Rd.line (r : Rd) (ws : List Wd) (no e : Int) (y : Wd) (first : Bool) : Rd × Fl :=
  if (first = true ∧ y.text.toList ≠ [99, 105, 114, 99, 117, 105, 116]) ∨ r.done = true then (r, (140, no, y.col))
  else if first = true then
    match ws[1]? with
    | none => (r, (140, no, e))
    | some w => if nameB w.text = true then (match ws[2]? with | some v => (r, (140, no, v.col)) | none => ({ r with name := w.text }, (0, 0, 0))) else (r, (140, no, w.col))
  else if y.text.toList = [101, 110, 100] then (match ws[1]? with | some w => (r, (140, no, w.col)) | none => ({ r with done := true }, (0, 0, 0)))
  else r.item ws no e y
/-- A list of names that a line uses, one by one. -/
def uflat (p : Int) : List Us → Nat → List Du
  | [], _ => []
  | u :: l, j => ⟨u.name, u.line, u.col, p, (j : Int)⟩ :: uflat p l (j + 1)
def uall (l : List (List Us × Int)) : List Du := l.flatMap fun p => uflat p.2 p.1 0
/-- What lines use: lists whose places are lines' own, each once, or an output's. -/
structure JI (gs : List Gt) (us : List (List Us)) (ps : List Int) : Prop where
  ln : us.length = ps.length
  zr : ∀ g ∈ gs, g.a = 0 ∧ g.b = 0 ∧ g.c = 0
  gr : ∀ x ∈ us.zip ps, (x.2 = -1 ∧ x.1.length = 1) ∨ ∃ p : Nat, x.2 = (p : Int) ∧ p < gs.length ∧ x.1.length ≤ 3
  nd : ((us.zip ps).filter fun x => decide (0 ≤ x.2)).Pairwise fun x y => x.2 ≠ y.2
theorem JI.zero : JI [] [] [] := ⟨rfl, fun g h => (by cases h), fun x h => (by cases h), .nil⟩
theorem JI.add {gs : List Gt} {us : List (List Us)} {ps : List Int} (h : JI gs us ps) {g : Gt} (hg : g.a = 0 ∧ g.b = 0 ∧ g.c = 0) : JI (gs ++ [g]) us ps := by
  refine ⟨h.ln, fun x hx => ?_, fun x hx => ?_, h.nd⟩
  · rcases List.mem_append.1 hx with t | t
    · exact h.zr x t
    · rw [List.mem_singleton.1 t]; exact hg
  · rcases h.gr x hx with t | ⟨p, a, b, c⟩
    · exact .inl t
    · exact .inr ⟨p, a, by rw [List.length_append]; exact Nat.lt_of_lt_of_le b (Nat.le_add_right _ _), c⟩
theorem JI.line {gs : List Gt} {us : List (List Us)} {ps : List Int} (h : JI gs us ps) {g : Gt} (hg : g.a = 0 ∧ g.b = 0 ∧ g.c = 0) {l : List Us} (hl : l.length ≤ 3) : JI (gs ++ [g]) (us ++ [l]) (ps ++ [(gs.length : Int)]) := by
  have h1 := h.add hg
  refine ⟨by rw [List.length_append, List.length_append, h.ln]; rfl, h1.zr, fun x hx => ?_, ?_⟩
  · rw [List.zip_append h.ln] at hx
    rcases List.mem_append.1 hx with t | t
    · exact h1.gr x t
    · simp at t
      rw [t]
      exact .inr ⟨gs.length, rfl, by simp, hl⟩
  · rw [List.zip_append h.ln, List.filter_append, List.pairwise_append]
    refine ⟨h.nd, ?_, fun x hx y hy => ?_⟩
    · simp
    · simp at hy
      rw [hy]
      have hx2 := (List.mem_filter.1 hx)
      rcases h.gr x hx2.1 with t | ⟨p, a, b, c⟩
      · have := hx2.2
        rw [t.1] at this
        simp at this
      · rw [a]
        show (p : Int) ≠ (gs.length : Int)
        omega
theorem JI.out {gs : List Gt} {us : List (List Us)} {ps : List Int} (h : JI gs us ps) {l : List Us} (hl : l.length = 1) : JI gs (us ++ [l]) (ps ++ [-1]) := by
  refine ⟨by rw [List.length_append, List.length_append, h.ln]; rfl, h.zr, fun x hx => ?_, ?_⟩
  · rw [List.zip_append h.ln] at hx
    rcases List.mem_append.1 hx with t | t
    · exact h.gr x t
    · simp at t
      rw [t]
      exact .inl ⟨rfl, hl⟩
  · rw [List.zip_append h.ln, List.filter_append, List.pairwise_append]
    refine ⟨h.nd, by simp, fun x hx y hy => ?_⟩
    simp at hy
/-- The reader and the document's reading hold the same. -/
structure Alike (st : St) (r : Rd) : Prop where
  nm : st.name = r.name
  gs : st.gs = r.gs
  os : st.outs = r.outs
  f : st.f = r.f
  sp : st.spots = r.spots
  us : uall (st.uses.zip st.places) = r.us
  dn : st.ended = r.done
  pl : st.uses.length = st.places.length
  ji : JI st.gs st.uses st.places
/-- The reader has met this fault. -/
def Flt (st : St) (F : Fl) : Prop := st.fc ≠ 0 ∧ st.fc = F.1 ∧ st.fl = F.2.1 ∧ st.fcol = F.2.2
section
variable {st : St} {F : Fl}
theorem Flt.ln {e a b c : Int} (h : Flt st (e, a, c)) (hab : a = b) : Flt st (e, b, c) := hab ▸ h
theorem Flt.fail (h : Flt st F) (e c : Int) : Flt (st.fail e c) F := by
  unfold St.fail
  rw [if_neg h.1]
  exact h
theorem flt_new (h0 : st.fc = 0) (e c : Int) (he : e ≠ 0) : Flt (st.fail e c) (e, st.line, c) := by
  unfold St.fail
  rw [if_pos h0]
  exact ⟨he, rfl, rfl, rfl⟩
theorem Flt.take (h : Flt st F) (r : ByteArray → Bool) : Flt (st.take r).2 F := by
  unfold St.take
  rw [if_neg h.1]
  exact h
theorem Flt.own (h : Flt st F) : Flt st.own.2 F := by
  have h1 := h.take nameB
  unfold St.own
  dsimp only
  rw [if_neg (fun t => h1.1 t.1)]
  exact h1
theorem Flt.usedL (h : Flt st F) : ∀ n, Flt (usedL n st).2 F
  | 0 => h
  | n + 1 => (h.usedL n).take nameB
theorem Flt.used (h : Flt st F) (p : Int) (n : Nat) : Flt (st.used p n) F := h.usedL n
theorem Flt.add (h : Flt st F) (g : Gt) : Flt (st.add g) F := h
theorem Flt.tail (h : Flt st F) : Flt st.tail F := by
  unfold St.tail
  split
  · exact h
  · exact h.fail _ _
theorem take_none (h0 : st.fc = 0) {i : Nat} (hi : st.next = (i : Int)) (hw : st.words[i]? = none) (r : ByteArray → Bool) : Flt (st.take r).2 (140, st.line, st.end_) := by
  unfold St.take
  rw [if_pos h0, hi, Int.toNat_natCast, hw]
  exact flt_new h0 140 _ (by decide)
theorem take_bad (h0 : st.fc = 0) {i : Nat} (hi : st.next = (i : Int)) {w : Wd} (hw : st.words[i]? = some w) {r : ByteArray → Bool} (hr : r w.text = false) : Flt (st.take r).2 (140, st.line, w.col) := by
  unfold St.take
  rw [if_pos h0, hi, Int.toNat_natCast, hw]
  dsimp only
  rw [if_neg (by rw [hr]; decide)]
  exact flt_new (st := { st with next := (i : Int) + 1 }) h0 140 w.col (by decide)
theorem take_good (h0 : st.fc = 0) {i : Nat} (hi : st.next = (i : Int)) {w : Wd} (hw : st.words[i]? = some w) {r : ByteArray → Bool} (hr : r w.text = true) : st.take r = (w, { st with next := ((i + 1 : Nat) : Int) }) := by
  unfold St.take
  rw [if_pos h0, hi, Int.toNat_natCast, hw]
  dsimp only
  rw [if_pos hr]
  rfl
theorem own_none (h0 : st.fc = 0) {i : Nat} (hi : st.next = (i : Int)) (hw : st.words[i]? = none) : Flt st.own.2 (140, st.line, st.end_) := by
  have h1 := take_none h0 hi hw nameB
  unfold St.own
  dsimp only
  rw [if_neg (fun t => h1.1 t.1)]
  exact h1
theorem own_bad (h0 : st.fc = 0) {i : Nat} (hi : st.next = (i : Int)) {w : Wd} (hw : st.words[i]? = some w) (hr : nameB w.text = false) : Flt st.own.2 (140, st.line, w.col) := by
  have h1 := take_bad h0 hi hw hr
  unfold St.own
  dsimp only
  rw [if_neg (fun t => h1.1 t.1)]
  exact h1
theorem own_twice (h0 : st.fc = 0) {i : Nat} (hi : st.next = (i : Int)) {w : Wd} (hw : st.words[i]? = some w) (hr : nameB w.text = true) (hf : 0 < st.f w.text) : Flt st.own.2 (141, st.line, w.col) := by
  unfold St.own
  rw [take_good h0 hi hw hr]
  dsimp only
  rw [if_pos ⟨h0, hf⟩]
  exact flt_new (st := { st with next := ((i + 1 : Nat) : Int) }) h0 141 w.col (by decide)
theorem own_good (h0 : st.fc = 0) {i : Nat} (hi : st.next = (i : Int)) {w : Wd} (hw : st.words[i]? = some w) (hr : nameB w.text = true) (hf : ¬ 0 < st.f w.text) : st.own = (w.text, { st with next := ((i + 1 : Nat) : Int), spots := st.spots ++ [(st.line, w.col)] }) := by
  unfold St.own
  rw [take_good h0 hi hw hr]
  dsimp only
  rw [if_neg (fun t => hf t.2)]
theorem tail_some (h0 : st.fc = 0) {i : Nat} (hi : st.next = (i : Int)) {w : Wd} (hw : st.words[i]? = some w) : Flt st.tail (140, st.line, w.col) := by
  unfold St.tail
  rw [hi, Int.toNat_natCast, hw]
  exact flt_new h0 140 _ (by decide)
theorem tail_none {i : Nat} (hi : st.next = (i : Int)) (hw : st.words[i]? = none) : st.tail = st := by
  unfold St.tail
  rw [hi, Int.toNat_natCast, hw]
end
theorem opB_ix (s : ByteArray) : opB s = true ↔ 0 ≤ opIx s := by
  unfold opB opIx Lib.containsS
  simp
/-- What was told of a line: a fault, or what the reader holds then. -/
def Told (s : St) (F : Fl) (good : Prop) : Prop := (F.1 ≠ 0 ∧ Flt s F) ∨ (F.1 = 0 ∧ s.fc = 0 ∧ good)
theorem uflat_append (p : Int) : ∀ (l m : List Us) (j : Nat), uflat p (l ++ m) j = uflat p l j ++ uflat p m (j + l.length)
  | [], m, j => by simp [uflat]
  | u :: l, m, j => by
    have h := uflat_append p l m (j + 1)
    simp only [List.cons_append, uflat, List.length_cons]
    rw [h, show j + 1 + l.length = j + (l.length + 1) by omega]
theorem uflat_length (p : Int) : ∀ (l : List Us) (j : Nat), (uflat p l j).length = l.length
  | [], _ => rfl
  | u :: l, j => by simp [uflat, uflat_length p l (j + 1)]
/-- The names that a line uses, to the end. -/
theorem uses_alike {st : St} {r : Rd} (h : Alike st r) (l : List Us) (p : Int) : uall ((st.uses ++ [l]).zip (st.places ++ [p])) = r.us ++ uflat p l 0 := by
  rw [List.zip_append h.pl]
  unfold uall
  rw [List.flatMap_append]
  have := h.us
  unfold uall at this
  rw [this]
  simp
section
variable {f : ByteArray → Int} {no e gate : Int} {ws : List Wd}
theorem dgo_none {k : UInt8} {ks : List UInt8} {i : Nat} {a : Ac} (hw : ws[i + 1]? = none) : dgo f no e gate ws (k :: ks) i a = (a, (140, no, e)) := by
  simp only [dgo]
  rw [hw]
theorem dgo_some {k : UInt8} {ks : List UInt8} {i : Nat} {a : Ac} {w : Wd} (hw : ws[i + 1]? = some w) : dgo f no e gate ws (k :: ks) i a = if (dstep f no gate k w a).2.1 = 0 then dgo f no e gate ws ks (i + 1) (dstep f no gate k w a).1 else dstep f no gate k w a := by
  simp only [dgo]
  rw [hw]
theorem dgo_append : ∀ (ks kt : List UInt8) (i : Nat) (a : Ac), dgo f no e gate ws (ks ++ kt) i a = if (dgo f no e gate ws ks i a).2.1 = 0 then dgo f no e gate ws kt (i + ks.length) (dgo f no e gate ws ks i a).1 else dgo f no e gate ws ks i a
  | [], kt, i, a => by simp [dgo]
  | k :: ks, kt, i, a => by
    have ih := fun b => dgo_append ks kt (i + 1) b
    cases hw : ws[i + 1]? with
    | none => rw [List.cons_append, dgo_none hw, dgo_none hw, if_neg (by show ¬ (140 : Int) = 0; decide)]
    | some w =>
      rw [List.cons_append, dgo_some hw, dgo_some hw]
      by_cases h0 : (dstep f no gate k w a).2.1 = 0
      · rw [if_pos h0, if_pos h0, ih, List.length_cons, show i + 1 + ks.length = i + (ks.length + 1) by omega]
      · rw [if_neg h0, if_neg h0, if_neg h0]
theorem dgo_one (k : UInt8) (i : Nat) (a : Ac) : dgo f no e gate ws [k] i a = match ws[i + 1]? with | none => (a, (140, no, e)) | some w => dstep f no gate k w a := by
  simp only [dgo]
  cases ws[i + 1]? with
  | none => rfl
  | some w =>
    dsimp only
    by_cases h0 : (dstep f no gate k w a).2.1 = 0
    · rw [if_pos h0]
      have : (dstep f no gate k w a).2 = (0, 0, 0) := by
        unfold dstep at h0 ⊢
        split
        · rename_i hk
          rw [if_pos hk] at h0
          dsimp only at h0 ⊢
          split
          · rename_i h1; rw [if_pos h1] at h0; cases h0
          · rename_i h1
            rw [if_neg h1] at h0
            split
            · rfl
            · rename_i h2; rw [if_neg h2] at h0; cases h0
        · rename_i hk
          rw [if_neg hk] at h0
          split
          · rename_i hk
            rw [if_pos hk] at h0
            dsimp only at h0 ⊢
            split
            · rfl
            · rename_i h2; rw [if_neg h2] at h0; cases h0
          · rename_i hk
            rw [if_neg hk] at h0
            split
            · rename_i hk
              rw [if_pos hk] at h0
              dsimp only at h0 ⊢
              split
              · rfl
              · rename_i h2; rw [if_neg h2] at h0; cases h0
            · rename_i hk
              rw [if_neg hk] at h0
              dsimp only at h0 ⊢
              split
              · rfl
              · rename_i h2; rw [if_neg h2] at h0; cases h0
      rw [← this]
    · rw [if_neg h0]
/-- Where the reader stands in a line. -/
structure At (st : St) (i : Nat) (ws : List Wd) (no e : Int) : Prop where
  fc : st.fc = 0
  nx : st.next = ((i + 1 : Nat) : Int)
  ws : st.words = ws
  ln : st.line = no
  en : st.end_ = e
theorem At.take_ {st : St} {i : Nat} (h : At st i ws no e) (r : ByteArray → Bool) : (ws[i + 1]? = none ∧ Flt (st.take r).2 (140, no, e)) ∨ ∃ w, ws[i + 1]? = some w ∧ ((r w.text = false ∧ Flt (st.take r).2 (140, no, w.col)) ∨ (r w.text = true ∧ st.take r = (w, { st with next := ((i + 1 + 1 : Nat) : Int) }))) := by
  cases hw : ws[i + 1]? with
  | none =>
    left
    refine ⟨rfl, ?_⟩
    have := take_none h.fc h.nx (by rw [h.ws]; exact hw) r
    rw [h.ln, h.en] at this
    exact this
  | some w =>
    right
    refine ⟨w, rfl, ?_⟩
    cases hr : r w.text with
    | false =>
      left
      have := take_bad h.fc h.nx (by rw [h.ws]; exact hw) hr
      rw [h.ln] at this
      exact ⟨rfl, this⟩
    | true => exact .inr ⟨rfl, take_good h.fc h.nx (by rw [h.ws]; exact hw) hr⟩
theorem At.next {st : St} {i : Nat} (h : At st i ws no e) : At { st with next := ((i + 1 + 1 : Nat) : Int) } (i + 1) ws no e := ⟨h.fc, rfl, h.ws, h.ln, h.en⟩
/-- Names used, one by one: the reader's list and the document's. -/
theorem used_go : ∀ (n : Nat) (st : St) (i : Nat) (a : Ac), At st i ws no e →
    Told (usedL n st).2 (dgo f no e gate ws (List.replicate n 117) i a).2 ((usedL n st).2 = { st with next := ((i + 1 + n : Nat) : Int) } ∧ (dgo f no e gate ws (List.replicate n 117) i a).1 = { a with us := a.us ++ uflat gate (usedL n st).1 a.us.length })
  | 0, st, i, a, h => by
    refine .inr ⟨rfl, h.fc, ?_, ?_⟩
    · show st = _
      have := h.nx
      cases st
      simp_all
    · show a = _
      simp [usedL, uflat]
  | n + 1, st, i, a, h => by
    have ih := used_go n st i a h
    rw [List.replicate_succ', dgo_append]
    rcases ih with ⟨h0, hf⟩ | ⟨h0, hfc, hs, ha⟩
    · rw [if_neg h0]
      exact .inl ⟨h0, hf.take nameB⟩
    · rw [if_pos h0, List.length_replicate, dgo_one]
      have hat : At (usedL n st).2 (i + n) ws no e := by
        rw [hs]
        exact ⟨h.fc, by show ((i + 1 + n : Nat) : Int) = _; congr 1; omega, h.ws, h.ln, h.en⟩
      have hline : (usedL n st).2.line = no := hat.ln
      rcases hat.take_ nameB with ⟨hw, hf⟩ | ⟨w, hw, hc⟩
      · rw [hw]
        exact .inl ⟨by show (140 : Int) ≠ 0; decide, hf⟩
      · rw [hw]
        dsimp only
        rcases hc with ⟨hr, hf⟩ | ⟨hr, ht⟩
        · left
          have hd : (dstep f no gate 117 w (dgo f no e gate ws (List.replicate n 117) i a).1).2 = (140, no, w.col) := by
            unfold dstep
            rw [if_neg (by decide), if_neg (by decide), if_neg (by decide)]
            dsimp only
            rw [if_neg (by rw [hr]; decide)]
          rw [hd]
          exact ⟨by show (140 : Int) ≠ 0; decide, hf⟩
        · right
          have hd : dstep f no gate 117 w (dgo f no e gate ws (List.replicate n 117) i a).1 = ({ (dgo f no e gate ws (List.replicate n 117) i a).1 with us := (dgo f no e gate ws (List.replicate n 117) i a).1.us ++ [⟨w.text, no, w.col, gate, ((dgo f no e gate ws (List.replicate n 117) i a).1.us.length : Int)⟩] }, (0, 0, 0)) := by
            unfold dstep
            rw [if_neg (by decide), if_neg (by decide), if_neg (by decide)]
            dsimp only
            rw [if_pos hr]
          rw [hd]
          refine ⟨rfl, ?_, ?_, ?_⟩
          · show ((usedL n st).2.take nameB).2.fc = 0
            rw [ht]
            exact hat.fc
          · show ((usedL n st).2.take nameB).2 = _
            rw [ht, hs]
            simp
            omega
          · show _ = ({ a with us := a.us ++ uflat gate ((usedL n st).1 ++ [⟨((usedL n st).2.take nameB).1.text, ((usedL n st).2.take nameB).2.line, ((usedL n st).2.take nameB).1.col⟩]) a.us.length } : Ac)
            rw [ht, ha]
            dsimp only
            rw [hline, uflat_append, ← List.append_assoc]
            simp [uflat, uflat_length]
theorem own_go {st : St} {i : Nat} (h : At st i ws no e) (hf : st.f = f) (hz : ∀ t, 0 ≤ st.f t) (a : Ac) :
    (∃ F : Fl, F.1 ≠ 0 ∧ Flt st.own.2 F ∧ ∀ ks, (dgo f no e gate ws (110 :: ks) i a).2 = F) ∨
    (∃ w : Wd, st.own = (w.text, { st with next := ((i + 1 + 1 : Nat) : Int), spots := st.spots ++ [(no, w.col)] }) ∧ ∀ ks, dgo f no e gate ws (110 :: ks) i a = dgo f no e gate ws ks (i + 1) { a with nm := w.text, np := (no, w.col) }) := by
  cases hw : ws[i + 1]? with
  | none =>
    left
    have h1 := own_none h.fc h.nx (by rw [h.ws]; exact hw)
    rw [h.ln, h.en] at h1
    exact ⟨_, by show (140 : Int) ≠ 0; decide, h1, fun ks => by rw [dgo_none hw]⟩
  | some w =>
    have hw' : st.words[i + 1]? = some w := by rw [h.ws]; exact hw
    cases hr : nameB w.text with
    | false =>
      left
      have h1 := own_bad h.fc h.nx hw' hr
      rw [h.ln] at h1
      have hd : dstep f no gate 110 w a = ({ a with nm := w.text, np := (no, w.col) }, (140, no, w.col)) := by
        unfold dstep
        rw [if_pos rfl, if_neg (fun t => by rw [hr] at t; cases t.1), if_neg (by rw [hr]; decide)]
      exact ⟨_, by show (140 : Int) ≠ 0; decide, h1, fun ks => by rw [dgo_some hw, hd, if_neg (by show ¬ (140 : Int) = 0; decide)]⟩
    | true =>
      by_cases h0 : f w.text = 0
      · right
        have h1 := own_good h.fc h.nx hw' hr (by rw [hf, h0]; decide)
        have hd : dstep f no gate 110 w a = ({ a with nm := w.text, np := (no, w.col) }, (0, 0, 0)) := by
          unfold dstep
          rw [if_pos rfl, if_neg (fun t => t.2 h0), if_pos hr]
        exact ⟨w, h1.trans (by rw [h.ln]), fun ks => by rw [dgo_some hw, hd, if_pos rfl]⟩
      · left
        have hp : 0 < st.f w.text := by
          have := hz w.text
          rw [← hf] at h0
          omega
        have h1 := own_twice h.fc h.nx hw' hr hp
        rw [h.ln] at h1
        have hd : dstep f no gate 110 w a = ({ a with nm := w.text, np := (no, w.col) }, (141, no, w.col)) := by
          unfold dstep
          rw [if_pos rfl, if_pos ⟨hr, h0⟩]
        exact ⟨_, by show (141 : Int) ≠ 0; decide, h1, fun ks => by rw [dgo_some hw, hd, if_neg (by show ¬ (141 : Int) = 0; decide)]⟩
theorem op_go {st : St} {i : Nat} (h : At st i ws no e) (a : Ac) :
    (∃ F : Fl, F.1 ≠ 0 ∧ Flt (st.take opB).2 F ∧ ∀ ks, (dgo f no e gate ws (111 :: ks) i a).2 = F) ∨
    (∃ w : Wd, st.take opB = (w, { st with next := ((i + 1 + 1 : Nat) : Int) }) ∧ ∀ ks, dgo f no e gate ws (111 :: ks) i a = dgo f no e gate ws ks (i + 1) { a with op := opIx w.text }) := by
  rcases h.take_ opB with ⟨hw, hf⟩ | ⟨w, hw, ⟨hr, hf⟩ | ⟨hr, ht⟩⟩
  · exact .inl ⟨_, by show (140 : Int) ≠ 0; decide, hf, fun ks => by rw [dgo_none hw]⟩
  · have hd : dstep f no gate 111 w a = ({ a with op := opIx w.text }, (140, no, w.col)) := by
      unfold dstep
      rw [if_neg (by decide), if_pos rfl, if_neg (fun t => by rw [(opB_ix _).2 t] at hr; cases hr)]
    exact .inl ⟨_, by show (140 : Int) ≠ 0; decide, hf, fun ks => by rw [dgo_some hw, hd, if_neg (by show ¬ (140 : Int) = 0; decide)]⟩
  · have hd : dstep f no gate 111 w a = ({ a with op := opIx w.text }, (0, 0, 0)) := by
      unfold dstep
      rw [if_neg (by decide), if_pos rfl, if_pos ((opB_ix _).1 hr)]
    exact .inr ⟨w, ht, fun ks => by rw [dgo_some hw, hd, if_pos rfl]⟩
theorem bit_go {st : St} {i : Nat} (h : At st i ws no e) (a : Ac) :
    (∃ F : Fl, F.1 ≠ 0 ∧ Flt (st.take bitB).2 F ∧ ∀ ks, (dgo f no e gate ws (102 :: ks) i a).2 = F) ∨
    (∃ w : Wd, st.take bitB = (w, { st with next := ((i + 1 + 1 : Nat) : Int) }) ∧ ∀ ks, dgo f no e gate ws (102 :: ks) i a = dgo f no e gate ws ks (i + 1) { a with op := if w.text.toList = [49] then 1 else a.op }) := by
  rcases h.take_ bitB with ⟨hw, hf⟩ | ⟨w, hw, ⟨hr, hf⟩ | ⟨hr, ht⟩⟩
  · exact .inl ⟨_, by show (140 : Int) ≠ 0; decide, hf, fun ks => by rw [dgo_none hw]⟩
  · have hd : dstep f no gate 102 w a = ({ a with op := if w.text.toList = [49] then 1 else a.op }, (140, no, w.col)) := by
      unfold dstep
      rw [if_neg (by decide), if_neg (by decide), if_pos rfl, if_neg (c := bitB w.text = true) (by rw [hr]; decide)]
    exact .inl ⟨_, by show (140 : Int) ≠ 0; decide, hf, fun ks => by rw [dgo_some hw, hd, if_neg (by show ¬ (140 : Int) = 0; decide)]⟩
  · have hd : dstep f no gate 102 w a = ({ a with op := if w.text.toList = [49] then 1 else a.op }, (0, 0, 0)) := by
      unfold dstep
      rw [if_neg (by decide), if_neg (by decide), if_pos rfl, if_pos (c := bitB w.text = true) hr]
    exact .inr ⟨w, ht, fun ks => by rw [dgo_some hw, hd, if_pos rfl]⟩
end
/-- What a line of the table leaves: a fault, or the reader at the word behind, and like the document's reading. -/
def Left (x : St) (r : Rd) (y : ByteArray) (g : Ac × Fl) (ws : List Wd) (no : Int) : Prop :=
  Told x g.2 (x.next = (((wnt y).length + 1 : Nat) : Int) ∧ x.words = ws ∧ x.line = no ∧ x.begun = true ∧ Alike x (r.put y g.1))
section
variable {st : St} {r : Rd} {ws : List Wd} {no e : Int}
theorem used_left {s1 : St} {i n : Nat} {a : Ac} {y : ByteArray} {gt : Gt} (h : Alike st r) (hA : At s1 i ws no e) (hs : s1.name = st.name ∧ s1.gs = st.gs ∧ s1.outs = st.outs ∧ s1.f = st.f ∧ s1.spots = st.spots ++ [a.np] ∧ s1.uses = st.uses ∧ s1.places = st.places ∧ s1.ended = st.ended ∧ s1.begun = true)
    (hy : isOut y = false) (hw : (wnt y).length = i + n) (ha : a.us = []) (hg : gt = ⟨knd y, a.nm, a.op, 0, 0, 0⟩) (hn3 : n ≤ 3) :
    Left ((s1.used (st.gs.length : Int) n).add gt) r y (dgo st.f no e (st.gs.length : Int) ws (List.replicate n 117) i a) ws no := by
  rcases used_go (f := st.f) (gate := (st.gs.length : Int)) n s1 i a hA with ⟨h0, hf⟩ | ⟨h0, hfc, h2, h3⟩
  · exact .inl ⟨h0, hf⟩
  · refine .inr ⟨h0, hfc, ?_, ?_, ?_, ?_, ?_⟩
    · show (usedL n s1).2.next = _
      rw [h2, hw]
      show ((i + 1 + n : Nat) : Int) = _
      congr 1
      omega
    · show (usedL n s1).2.words = _
      rw [h2]; exact hA.ws
    · show (usedL n s1).2.line = _
      rw [h2]; exact hA.ln
    · show (usedL n s1).2.begun = _
      rw [h2]; exact hs.2.2.2.2.2.2.2.2
    · have hp : r.put y (dgo st.f no e (st.gs.length : Int) ws (List.replicate n 117) i a).1 = { r with us := r.us ++ uflat (st.gs.length : Int) (usedL n s1).1 0, f := fun t => if t = a.nm then ((r.gs.length + 1 : Nat) : Int) else r.f t, gs := r.gs ++ [gt], spots := r.spots ++ [a.np] } := by
        unfold Rd.put
        rw [if_neg (by rw [hy]; decide), h3]
        dsimp only
        rw [ha, hg]
        simp
      rw [hp]
      have hus := uses_alike h (usedL n s1).1 (st.gs.length : Int)
      obtain ⟨e1, e2, e3, e4, e5, e6, e7, e8, e9⟩ := hs
      refine ⟨?_, ?_, ?_, ?_, ?_, ?_, ?_, ?_, ?_⟩
      · show (usedL n s1).2.name = _
        rw [h2]; exact e1.trans h.nm
      · show (usedL n s1).2.gs ++ [gt] = r.gs ++ [gt]
        rw [h2, ← h.gs]
        exact congrArg (· ++ [gt]) e2
      · show (usedL n s1).2.outs = _
        rw [h2]; exact e3.trans h.os
      · show (fun t => if t = gt.name then (((usedL n s1).2.gs.length + 1 : Nat) : Int) else (usedL n s1).2.f t) = fun t => if t = a.nm then ((r.gs.length + 1 : Nat) : Int) else r.f t
        rw [h2, hg, ← h.gs, ← h.f]
        funext t
        show (if t = a.nm then ((s1.gs.length + 1 : Nat) : Int) else s1.f t) = _
        rw [e2, e4]
      · show (usedL n s1).2.spots = r.spots ++ [a.np]
        rw [h2, ← h.sp]
        exact e5
      · show uall (((usedL n s1).2.uses ++ [(usedL n s1).1]).zip ((usedL n s1).2.places ++ [(st.gs.length : Int)])) = r.us ++ uflat (st.gs.length : Int) (usedL n s1).1 0
        have e10 : (usedL n s1).2.uses = st.uses := by rw [h2]; exact e6
        have e11 : (usedL n s1).2.places = st.places := by rw [h2]; exact e7
        rw [e10, e11]
        exact hus
      · show (usedL n s1).2.ended = _
        rw [h2]; exact e8.trans h.dn
      · show ((usedL n s1).2.uses ++ [(usedL n s1).1]).length = ((usedL n s1).2.places ++ [(st.gs.length : Int)]).length
        have e10 : (usedL n s1).2.uses = st.uses := by rw [h2]; exact e6
        have e11 : (usedL n s1).2.places = st.places := by rw [h2]; exact e7
        rw [e10, e11, List.length_append, List.length_append, h.pl]
        rfl
      · show JI ((usedL n s1).2.gs ++ [gt]) ((usedL n s1).2.uses ++ [(usedL n s1).1]) ((usedL n s1).2.places ++ [(st.gs.length : Int)])
        have e10 : (usedL n s1).2.uses = st.uses := by rw [h2]; exact e6
        have e11 : (usedL n s1).2.places = st.places := by rw [h2]; exact e7
        have e12 : (usedL n s1).2.gs = st.gs := by rw [h2]; exact e2
        rw [e10, e11, e12]
        exact h.ji.line (by rw [hg]; exact ⟨rfl, rfl, rfl⟩) (by rw [usedL_len]; exact hn3)
theorem kinds {y : ByteArray} (hy : wnt y ≠ []) : y.toList = [105, 110, 112, 117, 116] ∨ y.toList = [103, 97, 116, 101] ∨ y.toList = [109, 117, 120] ∨ y.toList = [108, 97, 116, 99, 104] ∨ y.toList = [111, 117, 116, 112, 117, 116] := by
  unfold wnt at hy
  by_cases h1 : y.toList = [105, 110, 112, 117, 116]
  · exact .inl h1
  · by_cases h2 : y.toList = [103, 97, 116, 101]
    · exact .inr (.inl h2)
    · by_cases h3 : y.toList = [109, 117, 120]
      · exact .inr (.inr (.inl h3))
      · by_cases h4 : y.toList = [108, 97, 116, 99, 104]
        · exact .inr (.inr (.inr (.inl h4)))
        · by_cases h5 : y.toList = [111, 117, 116, 112, 117, 116]
          · exact .inr (.inr (.inr (.inr h5)))
          · rw [if_neg h1, if_neg h2, if_neg h3, if_neg h4, if_neg h5] at hy
            exact absurd rfl hy
theorem input_left {y : ByteArray} (hz : ∀ t, 0 ≤ st.f t) (h : Alike st r) (hA : At st 0 ws no e) (hb : st.begun = true) (hy : y.toList = [105, 110, 112, 117, 116]) : Left st.input r y (dgo st.f no e (st.gs.length : Int) ws (wnt y) 0 ac0) ws no := by
  have hw : wnt y = [110] := by unfold wnt; rw [if_pos hy]
  have ho : isOut y = false := by unfold isOut; rw [hy]; decide
  have hk : knd y = 1 := by unfold knd; rw [if_pos hy]
  unfold Left
  rw [hw]
  rcases own_go (gate := (st.gs.length : Int)) hA rfl hz ac0 with ⟨F, h0, hf, hd⟩ | ⟨w, hown, hd⟩
  · rw [hd]
    exact .inl ⟨h0, hf⟩
  · rw [hd]
    unfold St.input
    rw [hown]
    refine .inr ⟨rfl, hA.fc, rfl, hA.ws, hA.ln, hb, ?_⟩
    unfold Rd.put
    rw [if_neg (by rw [ho]; decide)]
    refine ⟨h.nm, ?_, h.os, ?_, ?_, ?_, h.dn, h.pl, h.ji.add ⟨rfl, rfl, rfl⟩⟩
    · show st.gs ++ [(⟨1, w.text, 0, 0, 0, 0⟩ : Gt)] = r.gs ++ [⟨knd y, w.text, 0, 0, 0, 0⟩]
      rw [h.gs, hk]
    · show (fun t => if t = w.text then ((st.gs.length + 1 : Nat) : Int) else st.f t) = fun t => if t = w.text then ((r.gs.length + 1 : Nat) : Int) else r.f t
      rw [h.gs, h.f]
    · show st.spots ++ [(no, w.col)] = r.spots ++ [(no, w.col)]
      rw [h.sp]
    · show uall (st.uses.zip st.places) = r.us ++ []
      rw [h.us, List.append_nil]
theorem gate_left {y : ByteArray} (hz : ∀ t, 0 ≤ st.f t) (h : Alike st r) (hA : At st 0 ws no e) (hb : st.begun = true) (hy : y.toList = [103, 97, 116, 101]) : Left st.gate r y (dgo st.f no e (st.gs.length : Int) ws (wnt y) 0 ac0) ws no := by
  have hw : wnt y = [110, 111, 117, 117] := by unfold wnt; rw [if_neg (by rw [hy]; decide), if_pos hy]
  have ho : isOut y = false := by unfold isOut; rw [hy]; decide
  have hk : knd y = 2 := by unfold knd; rw [if_neg (by rw [hy]; decide), if_pos hy]
  rcases own_go (gate := (st.gs.length : Int)) hA rfl hz ac0 with ⟨F, h0, hf, hd⟩ | ⟨w, hown, hd⟩
  · refine .inl ⟨by rw [hw, hd]; exact h0, ?_⟩
    rw [hw, hd]
    exact ((hf.take opB).used _ _).add _
  · have hA1 : At st.own.2 1 ws no e := by rw [hown]; exact ⟨hA.fc, rfl, hA.ws, hA.ln, hA.en⟩
    rcases op_go (f := st.f) (gate := (st.gs.length : Int)) hA1 { ac0 with nm := w.text, np := (no, w.col) } with ⟨F, h0, hf, hd2⟩ | ⟨w2, ht, hd2⟩
    · refine .inl ⟨by rw [hw, hd, hd2]; exact h0, ?_⟩
      rw [hw, hd, hd2]
      exact (hf.used _ _).add _
    · have hA2 : At (st.own.2.take opB).2 2 ws no e := by rw [ht]; exact ⟨hA1.fc, rfl, hA1.ws, hA1.ln, hA1.en⟩
      have hfin := used_left (n := 2) (a := { ac0 with nm := w.text, np := (no, w.col), op := opIx w2.text }) (y := y) (gt := ⟨2, st.own.1, Lib.idxOfS opWords (st.own.2.take opB).1.text, 0, 0, 0⟩) h hA2 (by rw [ht, hown]; exact ⟨rfl, rfl, rfl, rfl, rfl, rfl, rfl, rfl, hb⟩) ho (by rw [hw]; rfl) rfl (by rw [ht, hown, hk]; rfl) (by decide)
      rw [hw, hd, hd2]
      exact hfin
theorem mux_left {y : ByteArray} (hz : ∀ t, 0 ≤ st.f t) (h : Alike st r) (hA : At st 0 ws no e) (hb : st.begun = true) (hy : y.toList = [109, 117, 120]) : Left st.mux r y (dgo st.f no e (st.gs.length : Int) ws (wnt y) 0 ac0) ws no := by
  have hw : wnt y = [110, 117, 117, 117] := by unfold wnt; rw [if_neg (by rw [hy]; decide), if_neg (by rw [hy]; decide), if_pos hy]
  have ho : isOut y = false := by unfold isOut; rw [hy]; decide
  have hk : knd y = 4 := by unfold knd; rw [if_neg (by rw [hy]; decide), if_neg (by rw [hy]; decide), if_pos hy]
  rcases own_go (gate := (st.gs.length : Int)) hA rfl hz ac0 with ⟨F, h0, hf, hd⟩ | ⟨w, hown, hd⟩
  · refine .inl ⟨by rw [hw, hd]; exact h0, ?_⟩
    rw [hw, hd]
    exact (hf.used _ _).add _
  · have hA1 : At st.own.2 1 ws no e := by rw [hown]; exact ⟨hA.fc, rfl, hA.ws, hA.ln, hA.en⟩
    have hfin := used_left (n := 3) (a := { ac0 with nm := w.text, np := (no, w.col) }) (y := y) (gt := ⟨4, st.own.1, 0, 0, 0, 0⟩) h hA1 (by rw [hown]; exact ⟨rfl, rfl, rfl, rfl, rfl, rfl, rfl, rfl, hb⟩) ho (by rw [hw]; rfl) rfl (by rw [hown, hk]; rfl) (by decide)
    rw [hw, hd]
    exact hfin
theorem latch_left {y : ByteArray} (hz : ∀ t, 0 ≤ st.f t) (h : Alike st r) (hA : At st 0 ws no e) (hb : st.begun = true) (hy : y.toList = [108, 97, 116, 99, 104]) : Left st.latch r y (dgo st.f no e (st.gs.length : Int) ws (wnt y) 0 ac0) ws no := by
  have hw : wnt y = [110, 102, 117] := by unfold wnt; rw [if_neg (by rw [hy]; decide), if_neg (by rw [hy]; decide), if_neg (by rw [hy]; decide), if_pos hy]
  have ho : isOut y = false := by unfold isOut; rw [hy]; decide
  have hk : knd y = 3 := by unfold knd; rw [if_neg (by rw [hy]; decide), if_neg (by rw [hy]; decide), if_neg (by rw [hy]; decide)]
  rcases own_go (gate := (st.gs.length : Int)) hA rfl hz ac0 with ⟨F, h0, hf, hd⟩ | ⟨w, hown, hd⟩
  · refine .inl ⟨by rw [hw, hd]; exact h0, ?_⟩
    rw [hw, hd]
    exact ((hf.take bitB).used _ _).add _
  · have hA1 : At st.own.2 1 ws no e := by rw [hown]; exact ⟨hA.fc, rfl, hA.ws, hA.ln, hA.en⟩
    rcases bit_go (f := st.f) (gate := (st.gs.length : Int)) hA1 { ac0 with nm := w.text, np := (no, w.col) } with ⟨F, h0, hf, hd2⟩ | ⟨w2, ht, hd2⟩
    · refine .inl ⟨by rw [hw, hd, hd2]; exact h0, ?_⟩
      rw [hw, hd, hd2]
      exact (hf.used _ _).add _
    · have hA2 : At (st.own.2.take bitB).2 2 ws no e := by rw [ht]; exact ⟨hA1.fc, rfl, hA1.ws, hA1.ln, hA1.en⟩
      have hfin := used_left (n := 1) (a := { ac0 with nm := w.text, np := (no, w.col), op := if w2.text.toList = [49] then 1 else 0 }) (y := y) (gt := ⟨3, st.own.1, if (st.own.2.take bitB).1.text.toList = [49] then 1 else 0, 0, 0, 0⟩) h hA2 (by rw [ht, hown]; exact ⟨rfl, rfl, rfl, rfl, rfl, rfl, rfl, rfl, hb⟩) ho (by rw [hw]; rfl) rfl (by rw [ht, hown, hk]) (by decide)
      rw [hw, hd, hd2]
      exact hfin
theorem output_left {y : ByteArray} (h : Alike st r) (hA : At st 0 ws no e) (hb : st.begun = true) (hy : y.toList = [111, 117, 116, 112, 117, 116]) : Left st.output r y (dgo st.f no e (-1) ws (wnt y) 0 ac0) ws no := by
  have hw : wnt y = List.replicate 1 117 := by unfold wnt; rw [if_neg (by rw [hy]; decide), if_neg (by rw [hy]; decide), if_neg (by rw [hy]; decide), if_neg (by rw [hy]; decide), if_pos hy]; rfl
  have ho : isOut y = true := by unfold isOut; rw [hy]; decide
  have hA1 : At { st with outs := st.outs ++ [0] } 0 ws no e := ⟨hA.fc, hA.nx, hA.ws, hA.ln, hA.en⟩
  unfold Left
  rw [hw]
  rcases used_go (f := st.f) (gate := -1) 1 _ 0 ac0 hA1 with ⟨h0, hf⟩ | ⟨h0, hfc, h2, h3⟩
  · exact .inl ⟨h0, hf⟩
  · refine .inr ⟨h0, hfc, ?_, ?_, ?_, ?_, ?_⟩
    · show (usedL 1 { st with outs := st.outs ++ [0] }).2.next = _
      rw [h2]; rfl
    · show (usedL 1 { st with outs := st.outs ++ [0] }).2.words = _
      rw [h2]; exact hA.ws
    · show (usedL 1 { st with outs := st.outs ++ [0] }).2.line = _
      rw [h2]; exact hA.ln
    · show (usedL 1 { st with outs := st.outs ++ [0] }).2.begun = _
      rw [h2]; exact hb
    · unfold Rd.put
      rw [if_pos ho, h3]
      have hus := uses_alike h (usedL 1 { st with outs := st.outs ++ [0] }).1 (-1)
      have e10 : (usedL 1 { st with outs := st.outs ++ [0] }).2.uses = st.uses := by rw [h2]
      have e11 : (usedL 1 { st with outs := st.outs ++ [0] }).2.places = st.places := by rw [h2]
      refine ⟨?_, ?_, ?_, ?_, ?_, ?_, ?_, ?_, ?_⟩
      · show (usedL 1 { st with outs := st.outs ++ [0] }).2.name = _
        rw [h2]; exact h.nm
      · show (usedL 1 { st with outs := st.outs ++ [0] }).2.gs = _
        rw [h2]; exact h.gs
      · show (usedL 1 { st with outs := st.outs ++ [0] }).2.outs = r.outs ++ [0]
        rw [h2, ← h.os]
      · show (usedL 1 { st with outs := st.outs ++ [0] }).2.f = _
        rw [h2]; exact h.f
      · show (usedL 1 { st with outs := st.outs ++ [0] }).2.spots = _
        rw [h2]; exact h.sp
      · show uall (((usedL 1 { st with outs := st.outs ++ [0] }).2.uses ++ [(usedL 1 { st with outs := st.outs ++ [0] }).1]).zip ((usedL 1 { st with outs := st.outs ++ [0] }).2.places ++ [-1])) = r.us ++ (ac0.us ++ uflat (-1) (usedL 1 { st with outs := st.outs ++ [0] }).1 ac0.us.length)
        rw [e10, e11, hus]
        rfl
      · show (usedL 1 { st with outs := st.outs ++ [0] }).2.ended = _
        rw [h2]; exact h.dn
      · show ((usedL 1 { st with outs := st.outs ++ [0] }).2.uses ++ [(usedL 1 { st with outs := st.outs ++ [0] }).1]).length = ((usedL 1 { st with outs := st.outs ++ [0] }).2.places ++ [-1]).length
        rw [e10, e11, List.length_append, List.length_append, h.pl]
        rfl
      · show JI (usedL 1 { st with outs := st.outs ++ [0] }).2.gs ((usedL 1 { st with outs := st.outs ++ [0] }).2.uses ++ [(usedL 1 { st with outs := st.outs ++ [0] }).1]) ((usedL 1 { st with outs := st.outs ++ [0] }).2.places ++ [-1])
        have e12 : (usedL 1 { st with outs := st.outs ++ [0] }).2.gs = st.gs := by rw [h2]
        rw [e10, e11, e12]
        exact h.ji.out (usedL_len _ 1)
/-- What a whole line leaves. -/
def LineR (s : St) (L : Rd × Fl) : Prop := (L.2.1 ≠ 0 ∧ Flt s L.2) ∨ (L.2.1 = 0 ∧ s.fc = 0 ∧ Alike s L.1 ∧ s.begun = true)
theorem Left.line_ {x : St} {y : ByteArray} {g : Ac × Fl} (h : Left x r y g ws no) : LineR x.tail (if g.2.1 ≠ 0 then (r, g.2) else match ws[(wnt y).length + 1]? with | some w => (r, (140, no, w.col)) | none => (r.put y g.1, (0, 0, 0))) := by
  rcases h with ⟨h0, hf⟩ | ⟨h0, hfc, hn, hw, hl, hb, ha⟩
  · rw [if_pos h0]
    exact .inl ⟨h0, hf.tail⟩
  · rw [if_neg (fun t => t h0)]
    cases hv : ws[(wnt y).length + 1]? with
    | some w =>
      have ht := tail_some hfc hn (by rw [hw]; exact hv)
      rw [hl] at ht
      exact .inl ⟨by show (140 : Int) ≠ 0; decide, ht⟩
    | none =>
      have ht := tail_none hn (by rw [hw]; exact hv)
      rw [ht]
      exact .inr ⟨rfl, hfc, ha, hb⟩
theorem rw_wnt {y : ByteArray} : rwB y = true ↔ wnt y ≠ [] := by
  constructor
  · intro h hn
    unfold rwB at h
    simp only [Bool.or_eq_true, decide_eq_true_eq] at h
    unfold wnt at hn
    by_cases h1 : y.toList = [105, 110, 112, 117, 116]
    · rw [if_pos h1] at hn; cases hn
    · rw [if_neg h1] at hn
      by_cases h2 : y.toList = [103, 97, 116, 101]
      · rw [if_pos h2] at hn; cases hn
      · rw [if_neg h2] at hn
        by_cases h3 : y.toList = [109, 117, 120]
        · rw [if_pos h3] at hn; cases hn
        · rw [if_neg h3] at hn
          by_cases h4 : y.toList = [108, 97, 116, 99, 104]
          · rw [if_pos h4] at hn; cases hn
          · rw [if_neg h4] at hn
            by_cases h5 : y.toList = [111, 117, 116, 112, 117, 116]
            · rw [if_pos h5] at hn; cases hn
            · rcases h with (((h | h) | h) | h) | h <;> contradiction
  · intro h
    rcases kinds h with h | h | h | h | h <;> (unfold rwB; rw [h]; decide)
theorem body_left {y : ByteArray} (hz : ∀ t, 0 ≤ st.f t) (h : Alike st r) (hA : At st 0 ws no e) (hb : st.begun = true) (hy : wnt y ≠ []) : Left (st.body y) r y (dgo r.f no e (if isOut y = true then -1 else (r.gs.length : Int)) ws (wnt y) 0 ac0) ws no := by
  have hbody : st.body y = if y.toList = [101, 110, 100] then { st with ended := true } else if y.toList = [105, 110, 112, 117, 116] then st.input else if y.toList = [103, 97, 116, 101] then st.gate else if y.toList = [109, 117, 120] then st.mux else if y.toList = [108, 97, 116, 99, 104] then st.latch else st.output := by
    unfold St.body
    rw [if_neg (by rw [hb]; decide)]
  rw [hbody, ← h.f, ← h.gs]
  rcases kinds hy with hk | hk | hk | hk | hk
  · rw [if_neg (by rw [hk]; decide), if_pos hk, if_neg (by unfold isOut; rw [hk]; decide)]
    exact input_left hz h hA hb hk
  · rw [if_neg (by rw [hk]; decide), if_neg (by rw [hk]; decide), if_pos hk, if_neg (by unfold isOut; rw [hk]; decide)]
    exact gate_left hz h hA hb hk
  · rw [if_neg (by rw [hk]; decide), if_neg (by rw [hk]; decide), if_neg (by rw [hk]; decide), if_pos hk, if_neg (by unfold isOut; rw [hk]; decide)]
    exact mux_left hz h hA hb hk
  · rw [if_neg (by rw [hk]; decide), if_neg (by rw [hk]; decide), if_neg (by rw [hk]; decide), if_neg (by rw [hk]; decide), if_pos hk, if_neg (by unfold isOut; rw [hk]; decide)]
    exact latch_left hz h hA hb hk
  · rw [if_neg (by rw [hk]; decide), if_neg (by rw [hk]; decide), if_neg (by rw [hk]; decide), if_neg (by rw [hk]; decide), if_neg (by rw [hk]; decide), if_pos (by unfold isOut; rw [hk]; decide)]
    exact output_left h hA hb hk
theorem line_alike {y : Wd} {rest : List Wd} {first : Bool} (hfc : st.fc = 0) (h : Alike st r) (hI : Inv st) (hw : st.words = y :: rest) (hl : st.line = no) (he : st.end_ = e) (hb : st.begun = !first) : LineR st.read (r.line (y :: rest) no e y first) := by
  have hread : st.read = ({ st with next := 1 } : St).readW y := by
    unfold St.read
    rw [hw]
  rw [hread]
  have hA : At { st with next := 1 } 0 (y :: rest) no e := ⟨hfc, rfl, hw, hl, he⟩
  have h1 : Alike { st with next := 1 } r := ⟨h.nm, h.gs, h.os, h.f, h.sp, h.us, h.dn, h.pl, h.ji⟩
  have hz : ∀ t, 0 ≤ st.f t := fun t => (hI.j.fz t).1
  have hfail : Flt (({ st with next := 1 } : St).fail 140 y.col) (140, no, y.col) := by
    have := flt_new (st := { st with next := 1 }) hfc 140 y.col (by decide)
    exact this.ln hl
  unfold St.readW Rd.line
  by_cases hd : st.ended = true
  · rw [if_pos (by unfold St.bad; simp [hd]), if_pos (.inr (by rw [← h.dn]; exact hd))]
    exact .inl ⟨by show (140 : Int) ≠ 0; decide, hfail⟩
  · have hd2 : st.ended = false := by
      cases hx : st.ended
      · rfl
      · exact absurd hx hd
    have hrd : ¬ r.done = true := by rw [← h.dn]; exact hd
    cases first
    · have hb1 : st.begun = true := hb
      by_cases hend : y.text.toList = [101, 110, 100]
      · rw [if_neg (by unfold St.bad; simp [hd2, hb1, hend]), if_neg (fun t => t.2.1 hend), if_neg (by rintro (t | t); exact absurd t.1 (by decide); exact hrd t), if_neg (by decide), if_pos hend]
        have hbody : ({ st with next := 1 } : St).body y.text = { st with next := 1, ended := true } := by
          unfold St.body
          rw [if_neg (by show ¬ st.begun = false; rw [hb1]; decide), if_pos hend]
        rw [hbody]
        have hA2 : At { st with next := 1, ended := true } 0 (y :: rest) no e := ⟨hfc, rfl, hw, hl, he⟩
        cases hv : (y :: rest)[1]? with
        | some w =>
          have ht := tail_some hA2.fc hA2.nx (by rw [hA2.ws]; exact hv)
          exact .inl ⟨by show (140 : Int) ≠ 0; decide, ht.ln hl⟩
        | none =>
          rw [tail_none hA2.nx (by rw [hA2.ws]; exact hv)]
          exact .inr ⟨rfl, hfc, ⟨h.nm, h.gs, h.os, h.f, h.sp, h.us, rfl, h.pl, h.ji⟩, hb1⟩
      · rw [if_neg (c := (false = true ∧ y.text.toList ≠ [99, 105, 114, 99, 117, 105, 116]) ∨ r.done = true) (by rintro (t | t); exact absurd t.1 (by decide); exact hrd t), if_neg (c := false = true) (by decide), if_neg (c := y.text.toList = [101, 110, 100]) hend]
        unfold Rd.item
        by_cases hwn : wnt y.text = []
        · have hrw : rwB y.text = false := by
            cases hx : rwB y.text
            · rfl
            · exact absurd hwn (rw_wnt.1 hx)
          rw [if_pos (by unfold St.bad; simp [hd2, hb1, hend, hrw]), if_pos hwn]
          exact .inl ⟨by show (140 : Int) ≠ 0; decide, hfail⟩
        · have hrw : rwB y.text = true := rw_wnt.2 hwn
          rw [if_neg (by unfold St.bad; simp [hd2, hb1, hrw]), if_neg (c := wnt y.text = []) hwn]
          have hfull : ((true = true ∧ y.text.toList ≠ [101, 110, 100] ∧ st.full y.text = true)) ↔ ((isOut y.text = true ∧ r.outs.length = 65536) ∨ (isOut y.text = false ∧ r.gs.length = 65536)) := by
            have g1 := hI.b.gl
            have g2 := hI.b.ol
            rw [← h.os, ← h.gs]
            unfold St.full isOut
            by_cases hk : y.text.toList = [111, 117, 116, 112, 117, 116]
            · simp [hk]
              omega
            · simp [hk, hend]
              omega
          by_cases hf : (isOut y.text = true ∧ r.outs.length = 65536) ∨ (isOut y.text = false ∧ r.gs.length = 65536)
          · rw [if_pos (c := ({ st with next := 1 } : St).begun = true ∧ _) (by show st.begun = true ∧ _; rw [hb1]; exact hfull.2 hf), if_pos hf]
            have := flt_new (st := { st with next := 1 }) hfc 8 y.col (by decide)
            exact .inl ⟨by show (8 : Int) ≠ 0; decide, this.ln hl⟩
          · rw [if_neg (c := ({ st with next := 1 } : St).begun = true ∧ _) (by show ¬ (st.begun = true ∧ _); rw [hb1]; exact fun t => hf (hfull.1 t)), if_neg hf]
            exact Left.line_ (body_left hz h1 hA hb1 hwn)
    · have hb1 : st.begun = false := hb
      by_cases hc : y.text.toList = [99, 105, 114, 99, 117, 105, 116]
      · rw [if_neg (by unfold St.bad; simp [hd2, hb1, hc]), if_neg (by rintro ⟨t, _⟩; have t2 : st.begun = true := t; rw [hb1] at t2; cases t2), if_neg (by rintro (t | t); exact t.2 hc; exact hrd t), if_pos rfl]
        have hbody : ({ st with next := 1 } : St).body y.text = { (({ st with next := 1, begun := true } : St).take nameB).2 with name := (({ st with next := 1, begun := true } : St).take nameB).1.text } := by
          unfold St.body
          rw [if_pos (by show st.begun = false; exact hb1)]
        rw [hbody]
        have hA2 : At { st with next := 1, begun := true } 0 (y :: rest) no e := ⟨hfc, rfl, hw, hl, he⟩
        rcases hA2.take_ nameB with ⟨hv, hf⟩ | ⟨w, hv, ⟨hr, hf⟩ | ⟨hr, ht⟩⟩
        · rw [show (0 + 1 : Nat) = 1 from rfl] at hv
          rw [hv]
          exact .inl ⟨by show (140 : Int) ≠ 0; decide, Flt.tail (F := (140, no, e)) hf⟩
        · rw [show (0 + 1 : Nat) = 1 from rfl] at hv
          rw [hv]
          dsimp only
          rw [if_neg (by rw [hr]; decide)]
          exact .inl ⟨by show (140 : Int) ≠ 0; decide, Flt.tail (F := (140, no, w.col)) hf⟩
        · rw [show (0 + 1 : Nat) = 1 from rfl] at hv
          rw [hv, ht]
          dsimp only
          rw [if_pos hr]
          cases hv2 : (y :: rest)[2]? with
          | some v =>
            have ht2 := tail_some (st := { st with next := ((0 + 1 + 1 : Nat) : Int), begun := true, name := w.text }) hfc rfl (by show st.words[_]? = _; rw [hw]; exact hv2)
            exact .inl ⟨by show (140 : Int) ≠ 0; decide, ht2.ln hl⟩
          | none =>
            rw [tail_none (st := { st with next := ((0 + 1 + 1 : Nat) : Int), begun := true, name := w.text }) rfl (by show st.words[_]? = _; rw [hw]; exact hv2)]
            exact .inr ⟨rfl, hfc, ⟨rfl, h.gs, h.os, h.f, h.sp, h.us, h.dn, h.pl, h.ji⟩, rfl⟩
      · rw [if_pos (by unfold St.bad; simp [hd2, hb1, hc]), if_pos (.inl ⟨rfl, hc⟩)]
        exact .inl ⟨by show (140 : Int) ≠ 0; decide, hfail⟩
end
end Go.Proofs.YtjkmoahnociaiaaDoor
