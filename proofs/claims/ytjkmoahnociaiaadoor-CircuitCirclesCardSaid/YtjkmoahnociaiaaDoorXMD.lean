/- twin: a circuit in memory of its own. -/
import Derived.Test.YtjkmoahnociaiaaDoorXJD
namespace Go.Proofs.YtjkmoahnociaiaaDoor
open Go.RowKit

def room : Gt := ⟨0, ⟨#[114, 111, 111, 109]⟩, 0, 0, 0, 0⟩
/-- The two rows of a twin. -/
structure TwinAt (w : World) (base : Nat) (A B : Option Addr) (n m ca cb : Nat) (gs : List Gt) (outs : List Int) : Prop where
  g : w.ownsRow base 46 6 (.slice A (n + 2) ca) (n + 2) (gcells (gs ++ [room, room]))
  o : Owns w base 3 (.slice B (m + 2) cb) (nums .i64 (outs ++ [77, 78]))
  gl : gs.length = n
  ol : outs.length = m
/-- What twin leaves. -/
def TwinR (w : World) (name : ByteArray) (n m : Nat) (gs : List Gt) (outs : List Int) (e : Ending) (w' : World) : Prop :=
  ∃ A B ca cb, e = .returned (.agg #[.string name, .slice A n ca, .slice B m cb]) ∧ Hid (TwinAt w' w.heap.size A B n m ca cb gs outs) ∧ Below w.heap.size w w'
set_option maxRecDepth 100000 in
set_option maxHeartbeats 4000000 in
theorem twin_any (A B : Option Addr) (n m ca cb : Nat) (name : ByteArray) (gs : List Gt) (outs : List Int) (w : World) (hA : CReads w A (gcells gs)) (hB : Reads w .i64 B outs) (hn : gs.length = n) (hm : outs.length = m) (hn1 : (n + 2) * 56 ≤ 140737488355328) (hm1 : (m + 2) * 8 ≤ 140737488355328) :
    Calls Tryd.prog 7 #[.agg #[.string name, .slice A n ca, .slice B m cb]] w (TwinR w name n m gs outs) := by
  have hbl := below2 w (.cells #[.string name, .slice A n ca, .slice B m cb] 25) (.cells #[.string ByteArray.empty, .slice none 0 0, .slice none 0 0] 25)
  have HA := Lib.hid (hA.below hbl); have HB := Lib.hid (hB.below hbl); have HN := Lib.hid hn; have HM := Lib.hid hm
  have HB0 := Lib.hid hbl
  have HX := Lib.hid ((Blk.new w 25 [.string name, .slice A n ca, .slice B m cb]).alloc (.cells #[.string ByteArray.empty, .slice none 0 0, .slice none 0 0] 25))
  have HX' := Lib.hid (blk_new2 w (.cells #[.string name, .slice A n ca, .slice B m cb] 25) 25 [.string ByteArray.empty, .slice none 0 0, .slice none 0 0])
  clear hA hB hn hm hbl
  go_enter Tryd.func7, Tryd.ntmps7
  go_upto_region 1 with (fail)
  change Code.wp _ _ _ _ ((w.alloc (.cells #[.string name, .slice A n ca, .slice B m cb] 25)).alloc (.cells #[.string ByteArray.empty, .slice none 0 0, .slice none 0 0] 25))
  generalize (w.alloc (.cells #[.string name, .slice A n ca, .slice B m cb] 25)).alloc (.cells #[.string ByteArray.empty, .slice none 0 0, .slice none 0 0] 25) = W1 at *
  obtain ⟨bx, hbx⟩ : ∃ bx, w.heap.size = bx := ⟨_, rfl⟩
  rw [hbx] at HX HX' ⊢
  have HBS := Lib.hid hbx
  clear hbx
  have x1 : W1.cell? ⟨bx, 1, none⟩ = some (.slice A n ca) := (HX.out.cell 1).trans rfl
  go_upto_region 2 with (at_builtin; refine wpList_cells rfl _ _ 22 rfl w.heap.size 46 _ 6 56 Tryd.underlying22 info_gate rfl (by decide) (.slice none 0 0) 0 [] rfl (World.ownsRow_nil _ _ _ _) A n ca (gcells gs) rfl HA.out (by rw [gcells_length, HN.out]) (fun u hu => gcells_one hu) (by unfold maxLen; omega) (by omega) HB0.out.size ?_; intro v2 w2 hown2 hg2 hb2)
  have hgn2 : W1.grownBy w2 none := hg2
  have HX2 := Lib.hid (HX.out.grown hgn2 (by simp))
  have HX2' := Lib.hid (HX'.out.grown hgn2 (by simp))
  have HB2 := Lib.hid (HB.out.grown hgn2 (fun _ _ _ => by simp))
  have HBW2 := Lib.hid (HB0.out.grown hgn2 HB0.out.size (by simp))
  have HG2 : Hid (w2.ownsRow w.heap.size 46 6 v2 n (gcells gs)) := Lib.hid (by simpa using hown2)
  have x2 : w2.cell? ⟨bx, 2, none⟩ = some (.slice B m cb) := (HX2.out.cell 2).trans rfl
  clear hg2 hgn2 hb2 hown2 HX HX' HB HA HB0 x1
  go_upto_region 3 with (at_builtin; refine wpList_cells rfl _ _ 23 rfl w.heap.size 3 _ 1 8 Tryd.underlying23 info_int rfl (by decide) (.slice none 0 0) 0 [] rfl (World.ownsRow_nil _ _ _ _) B m cb (nums .i64 outs) rfl (CReads.of_reads HB2.out) (by rw [nums_length, HM.out, Nat.mul_one]) (fun u hu => by simp [nums] at hu; obtain ⟨x, _, rfl⟩ := hu; rfl) (by unfold maxLen; omega) (by omega) HBW2.out.size ?_; intro v3 w3 hown3 hg3 hb3)
  have hgn3 : w2.grownBy w3 none := hg3
  have HX3 := Lib.hid (HX2.out.grown hgn3 (by simp))
  have HX3' := Lib.hid (HX2'.out.grown hgn3 (by simp))
  have HBW3 := Lib.hid (HBW2.out.grown hgn3 HBW2.out.size (by simp))
  have HG3 : Hid (w3.ownsRow w.heap.size 46 6 v2 n (gcells gs)) := Lib.hid (World.ownsRow.kept HG2.out hgn3 (by cases v2.ownBlock <;> simp))
  have HO3 : Hid (Owns w3 w.heap.size 3 v3 (nums .i64 outs)) := Lib.hid (by
    unfold Owns
    rw [nums_length, HM.out]
    simpa using hown3)
  clear hg3 hgn3 hb3 hown3 HX2 HX2' HB2 HBW2 HG2 x2
  have HR4 : Hid (CReads (w3.alloc (.cells #[.int .i64 0, .string ⟨#[114, 111, 111, 109]⟩, .int .i64 0, .int .i64 0, .int .i64 0, .int .i64 0, .int .i64 0, .string ⟨#[114, 111, 111, 109]⟩, .int .i64 0, .int .i64 0, .int .i64 0, .int .i64 0] 46)) (some ⟨w3.heap.size, 0, none⟩) (gcells [room, room])) := Lib.hid (CReads.of_blk (Blk.new w3 46 (gcells [room, room])))
  have hbl4 := below1 w3 (.cells #[.int .i64 0, .string ⟨#[114, 111, 111, 109]⟩, .int .i64 0, .int .i64 0, .int .i64 0, .int .i64 0, .int .i64 0, .string ⟨#[114, 111, 111, 109]⟩, .int .i64 0, .int .i64 0, .int .i64 0, .int .i64 0] 46)
  have HX4 := Lib.hid (HX3.out.self hbl4)
  have HX4' := Lib.hid (HX3'.out.self hbl4)
  have HBW4 := Lib.hid (below_then HBW3.out HBW3.out.size hbl4)
  have HG4 := Lib.hid (rows_below HG3.out hbl4)
  have HO4 := Lib.hid (HO3.out.below hbl4)
  clear hbl4
  go_upto_region 4 with (at_builtin; refine wpList_cells rfl _ _ 22 rfl w.heap.size 46 _ 6 56 Tryd.underlying22 info_gate rfl (by decide) v2 n (gcells gs) rfl HG4.out (some ⟨w3.heap.size, 0, none⟩) 2 2 (gcells [room, room]) rfl HR4.out (by rw [gcells_length]; rfl) (fun u hu => gcells_one hu) (by unfold maxLen; omega) (by omega) HBW4.out.size ?_; intro v5 w5 hown5 hg5 hb5)
  obtain ⟨A5, c5, rfl, _⟩ := rows_cells hown5 (by decide)
  have HG5 : Hid (w5.ownsRow w.heap.size 46 6 (.slice A5 (n + 2) c5) (n + 2) (gcells (gs ++ [room, room]))) := Lib.hid (by rw [gcells_append]; exact hown5)
  have hty : ∀ (b : Nat) (t : TypeId), Typed (w3.alloc (.cells #[.int .i64 0, .string ⟨#[114, 111, 111, 109]⟩, .int .i64 0, .int .i64 0, .int .i64 0, .int .i64 0, .int .i64 0, .string ⟨#[114, 111, 111, 109]⟩, .int .i64 0, .int .i64 0, .int .i64 0, .int .i64 0] 46)) b t → t ≠ 46 → some b ≠ v2.ownBlock := fun b t hb hne e => hb.ne (rows_typed HG4.out e.symm) hne rfl
  have HX5 := Lib.hid (HX4.out.grown hg5 (hty _ _ HX4.out.typed (by decide)))
  have HX5' := Lib.hid (HX4'.out.grown hg5 (hty _ _ HX4'.out.typed (by decide)))
  have HO5 := Lib.hid (HO4.out.kept hg5 (by
    rcases hv : v3.ownBlock with _ | g
    · exact .inl rfl
    · exact .inr (hty g _ (HO4.out.typed hv) (by decide))))
  have HBW5 := Lib.hid (HBW4.out.grown hg5 HBW4.out.size (fun g hv => (World.ownsRow.lt HG4.out g hv).1))
  clear hown5 hg5 hb5 hty HR4 HX4 HX4' HBW4 HG4 HO4 HX3 HX3' HBW3 HG3 HO3
  have hbl6 := below1 w5 (.cells [Value.int .i64 77, Value.int .i64 78].toArray 3)
  have HR6 : Hid (CReads (w5.alloc (.cells [Value.int .i64 77, Value.int .i64 78].toArray 3)) (some ⟨w5.heap.size, 0, none⟩) (nums .i64 [77, 78])) := Lib.hid (CReads.of_blk (Blk.new w5 3 (nums .i64 [77, 78])))
  have HX6 := Lib.hid (HX5.out.self hbl6)
  have HX6' := Lib.hid (HX5'.out.self hbl6)
  have HBW6 := Lib.hid (below_then HBW5.out HBW5.out.size hbl6)
  have HG6 := Lib.hid (rows_below HG5.out hbl6)
  have HO6 : Hid ((w5.alloc (.cells [Value.int .i64 77, Value.int .i64 78].toArray 3)).ownsRow w.heap.size 3 1 v3 m (nums .i64 outs)) := Lib.hid (by
    have := HO5.out.below hbl6
    unfold Owns at this
    rwa [nums_length, HM.out] at this)
  clear hbl6 HX5 HX5' HBW5 HG5 HO5
  go_upto_region 5 with (at_builtin; refine wpList_cells rfl _ _ 23 rfl w.heap.size 3 _ 1 8 Tryd.underlying23 info_int rfl (by decide) v3 m (nums .i64 outs) rfl HO6.out (some ⟨w5.heap.size, 0, none⟩) 2 2 (nums .i64 [77, 78]) rfl HR6.out rfl (fun u hu => nums_one u hu) (by unfold maxLen; omega) (by omega) HBW6.out.size ?_; intro v7 w7 hown7 hg7 hb7)
  obtain ⟨A7, c7, rfl, _⟩ := rows_cells hown7 (by decide)
  have HO7 : Hid (Owns w7 w.heap.size 3 (.slice A7 (m + 2) c7) (nums .i64 (outs ++ [77, 78]))) := Lib.hid (by
    unfold Owns
    rw [nums_append, List.length_append, nums_length, HM.out]
    exact hown7)
  have hty : ∀ (b : Nat) (t : TypeId), Typed (w5.alloc (.cells [Value.int .i64 77, Value.int .i64 78].toArray 3)) b t → t ≠ 3 → some b ≠ v3.ownBlock := fun b t hb hne e => hb.ne (rows_typed HO6.out e.symm) hne rfl
  have HX7 := Lib.hid (HX6.out.grown hg7 (hty _ _ HX6.out.typed (by decide)))
  have HX7' := Lib.hid (HX6'.out.grown hg7 (hty _ _ HX6'.out.typed (by decide)))
  have HG7 := Lib.hid (World.ownsRow.kept HG6.out hg7 (by
    rcases hv : (Value.slice A5 (n + 2) c5).ownBlock with _ | g
    · exact .inl rfl
    · exact .inr (hty g _ (rows_typed HG6.out hv) (by decide))))
  have HBW7 := Lib.hid (HBW6.out.grown hg7 HBW6.out.size (fun g hv => (World.ownsRow.lt HO6.out g hv).1))
  clear hown7 hg7 hb7 hty HR6 HX6 HX6' HBW6 HG6 HO6
  have x0 : w7.cell? ⟨bx, 0, none⟩ = some (.string name) := (HX7.out.cell 0).trans rfl
  have x1 : w7.cell? ⟨bx, 1, none⟩ = some (.slice A n ca) := (HX7.out.cell 1).trans rfl
  have x2 : w7.cell? ⟨bx, 2, none⟩ = some (.slice B m cb) := (HX7.out.cell 2).trans rfl
  have y0 : w7.cell? ⟨bx + 1, 0, none⟩ = some (.string ByteArray.empty) := (HX7'.out.cell 0).trans rfl
  have y1 : w7.cell? ⟨bx + 1, 1, none⟩ = some (.slice none 0 0) := (HX7'.out.cell 1).trans rfl
  have y2 : w7.cell? ⟨bx + 1, 2, none⟩ = some (.slice none 0 0) := (HX7'.out.cell 2).trans rfl
  have z0 := HX7'.out.frozen 0
  have z1 := HX7'.out.frozen 1
  have z2 := HX7'.out.frozen 2
  have hcap5 : (n : Int) ≤ (c5 : Int) := by
    rcases HG7.out.2 with ⟨hv, h0⟩ | ⟨g, cap, cur, hv, _, _, hnc, _⟩
    · omega
    · cases hv; omega
  have hcap7 : (m : Int) ≤ (c7 : Int) := by
    have := HO7.out.cap
    omega
  have hn0 : (0 : Int) ≤ (n : Int) := by omega
  have hm0 : (0 : Int) ≤ (m : Int) := by omega
  have hB8 : Blk ((((w7.setCell ⟨bx + 1, 0, none⟩ (.string name)).setCell ⟨bx + 1, 1, none⟩ (.slice A5 n c5)).setCell ⟨bx + 1, 2, none⟩ (.slice A7 m c7)).drew) (bx + 1) 25 [.string name, .slice A5 n c5, .slice A7 m c7] := ((HX7'.out.set_ 0 _).set_ 1 _).set_ 2 _
  have hg8 : w7.grownBy ((((w7.setCell ⟨bx + 1, 0, none⟩ (.string name)).setCell ⟨bx + 1, 1, none⟩ (.slice A5 n c5)).setCell ⟨bx + 1, 2, none⟩ (.slice A7 m c7)).drew) (some (bx + 1)) := by
    have := only_setCell (only_setCell (only_setCell (only_refl w7 (some (bx + 1))) (p := ⟨bx + 1, 0, none⟩) (.inl rfl) (.string name)) (p := ⟨bx + 1, 1, none⟩) (.inl rfl) (.slice A5 n c5)) (p := ⟨bx + 1, 2, none⟩) (.inl rfl) (.slice A7 m c7)
    exact ⟨this.os, this.tape, this.output, this.size, this.block⟩
  have r0 := Lib.hid ((hB8.cell 0).trans rfl)
  have r1 := Lib.hid ((hB8.cell 1).trans rfl)
  have r2 := Lib.hid ((hB8.cell 2).trans rfl)
  have HTW : Hid (TwinAt ((((w7.setCell ⟨bx + 1, 0, none⟩ (.string name)).setCell ⟨bx + 1, 1, none⟩ (.slice A5 n c5)).setCell ⟨bx + 1, 2, none⟩ (.slice A7 m c7)).drew) w.heap.size A5 A7 n m c5 c7 gs outs) := Lib.hid
    ⟨World.ownsRow.kept HG7.out hg8 (by
      rcases hv : (Value.slice A5 (n + 2) c5).ownBlock with _ | g
      · exact .inl rfl
      · refine .inr (fun e => ?_)
        exact (rows_typed HG7.out hv).ne HX7'.out.typed (by decide) (Option.some.inj e)), HO7.out.aside HX7'.out.typed (by decide) hg8, HN.out, HM.out⟩
  have HBF : Hid (Below w.heap.size w ((((w7.setCell ⟨bx + 1, 0, none⟩ (.string name)).setCell ⟨bx + 1, 1, none⟩ (.slice A5 n c5)).setCell ⟨bx + 1, 2, none⟩ (.slice A7 m c7)).drew)) := Lib.hid (HBW7.out.grown hg8 HBW7.out.size (fun g e => by have := Option.some.inj e; have := HBS.out; omega))
  clear hB8 hg8
  go_upto_region 5 with (fail)
  go_region_with (fail)
  all_goals
    go_wp2
    exact bodyPost_ret (v := .agg #[.string name, .slice A5 n c5, .slice A7 m c7]) (by simp [results, Tryd.results7, go_sem, r0.out, r1.out, r2.out]) rfl ⟨A5, A7, c5, c7, rfl, HTW, HBF.out⟩
end Go.Proofs.YtjkmoahnociaiaaDoor
/- kept: a twin is as it was. -/
namespace Go.Proofs.YtjkmoahnociaiaaDoor
open Go.RowKit

section
variable {w w' : World} {base n m ca cb g b : Nat} {A B : Option Addr} {gs : List Gt} {outs : List Int}
theorem TwinAt.below (h : TwinAt w base A B n m ca cb gs outs) (hb : Below w.heap.size w w') : TwinAt w' base A B n m ca cb gs outs := ⟨rows_below h.g hb, h.o.below hb, h.gl, h.ol⟩
theorem TwinAt.form (h : TwinAt w base A B n m ca cb gs outs) : ∃ g b, A = some ⟨g, 0, none⟩ ∧ B = some ⟨b, 0, none⟩ ∧ base ≤ g ∧ g < w.heap.size ∧ base ≤ b ∧ b < w.heap.size ∧ n + 2 ≤ ca ∧ m + 2 ≤ cb := by
  rcases h.g.2 with ⟨hv, h0⟩ | ⟨g, cap, cur, hv, hb, hh, hnc, _⟩
  · omega
  · cases hv
    obtain ⟨b, rfl, h1, h2, h3⟩ := h.o.some_ (by omega)
    have := World.ownsRow.lt h.g g rfl
    exact ⟨g, b, rfl, rfl, hb, this.2, h1, h2, hnc, h3⟩
theorem TwinAt.gates (h : TwinAt w base A B n m ca cb gs outs) : CReads w A (gcells (gs ++ [room, room])) := by
  obtain ⟨A', c', e, hr, _⟩ := rows_cells h.g (by decide)
  cases e
  exact hr
theorem TwinAt.gread (h : TwinAt w base A B n m ca cb gs outs) : CReads w A (gcells gs) := by
  have := h.gates
  rw [gcells_append] at this
  exact this.front
theorem TwinAt.oread (h : TwinAt w base A B n m ca cb gs outs) : Reads w .i64 B outs := by
  obtain ⟨A', c', e, hr, _⟩ := rows_cells h.o (by decide)
  simp only [Value.slice.injEq] at e
  rw [← e.1, nums_append] at hr
  exact hr.front.reads
theorem TwinAt.rooms (h : TwinAt w base (some ⟨g, 0, none⟩) (some ⟨b, 0, none⟩) n m ca cb gs outs) : w.cell? ⟨g, n * 6 + 1, none⟩ = some (.string ⟨#[114, 111, 111, 109]⟩) ∧ w.cell? ⟨g, (n + 1) * 6 + 1, none⟩ = some (.string ⟨#[114, 111, 111, 109]⟩) ∧ w.cell? ⟨b, m, none⟩ = some (.int .i64 77) ∧ w.cell? ⟨b, m + 1, none⟩ = some (.int .i64 78) := by
  have h1 := h.gl
  have h2 := h.ol
  obtain ⟨_, _, e, c1⟩ := greads_at h.gates (i := n) (g := room) (by rw [List.getElem?_append_right (by omega), h1, Nat.sub_self]; rfl)
  cases e
  obtain ⟨_, _, e, c2⟩ := greads_at h.gates (i := n + 1) (g := room) (by rw [List.getElem?_append_right (by omega), h1, show n + 1 - n = 1 by omega]; rfl)
  cases e
  obtain ⟨_, e, c3⟩ := h.o.first (i := m) (u := .int .i64 77) (by rw [nums_get, List.getElem?_append_right (by omega), h2, Nat.sub_self]; rfl)
  cases e
  obtain ⟨_, e, c4⟩ := h.o.first (i := m + 1) (u := .int .i64 78) (by rw [nums_get, List.getElem?_append_right (by omega), h2, show m + 1 - m = 1 by omega]; rfl)
  cases e
  have d1 := c1.c1
  have d2 := c2.c1
  simp only [Nat.zero_add] at d1 d2
  exact ⟨d1, d2, c3, c4⟩
end
set_option maxRecDepth 100000 in
set_option maxHeartbeats 4000000 in
theorem kept_any (base : Nat) (A B A' B' : Option Addr) (n m ca cb ca' cb' : Nat) (name : ByteArray) (gs : List Gt) (outs : List Int) (w : World) (hT : TwinAt w base A B n m ca cb gs outs) (hA' : CReads w A' (gcells gs)) (hB' : Reads w .i64 B' outs) (hn1 : n ≤ 140737488355328) (hm1 : m ≤ 140737488355328) :
    Calls Tryd.prog 12 #[.agg #[.string name, .slice A n ca, .slice B m cb], .agg #[.string name, .slice A' n ca', .slice B' m cb']] w fun e w' => e = .returned (.bool true) ∧ Below w.heap.size w w' := by
  have hbl := below2 w (.cells #[.string name, .slice A n ca, .slice B m cb] 25) (.cells #[.string name, .slice A' n ca', .slice B' m cb'] 25)
  have HT := Lib.hid (hT.below hbl)
  have HB0 := Lib.hid hbl
  have hs : Calls Tryd.prog 16 #[.agg #[.string name, .slice A n ca, .slice B m cb], .agg #[.string name, .slice A' n ca', .slice B' m cb']] ((w.alloc (.cells #[.string name, .slice A n ca, .slice B m cb] 25)).alloc (.cells #[.string name, .slice A' n ca', .slice B' m cb'] 25)) fun e w' => e = .returned (.bool true) ∧ Below ((w.alloc (.cells #[.string name, .slice A n ca, .slice B m cb] 25)).alloc (.cells #[.string name, .slice A' n ca', .slice B' m cb'] 25)).heap.size ((w.alloc (.cells #[.string name, .slice A n ca, .slice B m cb] 25)).alloc (.cells #[.string name, .slice A' n ca', .slice B' m cb'] 25)) w' :=
    same_any A B A' B' n m ca cb ca' cb' name gs outs _ HT.out.gread HT.out.oread (hA'.below hbl) (hB'.below hbl) hT.gl hT.ol (by omega) (by omega)
  have HX := Lib.hid ((Blk.new w 25 [.string name, .slice A n ca, .slice B m cb]).alloc (.cells #[.string name, .slice A' n ca', .slice B' m cb'] 25))
  have HX' := Lib.hid (blk_new2 w (.cells #[.string name, .slice A n ca, .slice B m cb] 25) 25 [.string name, .slice A' n ca', .slice B' m cb'])
  obtain ⟨g, b, rfl, rfl, _, _, _, _, hcg, hcb⟩ := hT.form
  clear hA' hB' hT hbl
  go_enter Tryd.func12, Tryd.ntmps12
  go_upto_region 1 with (fail)
  change Code.wp _ _ _ _ ((w.alloc (.cells #[.string name, .slice (some ⟨g, 0, none⟩) n ca, .slice (some ⟨b, 0, none⟩) m cb] 25)).alloc (.cells #[.string name, .slice A' n ca', .slice B' m cb'] 25))
  generalize (w.alloc (.cells #[.string name, .slice (some ⟨g, 0, none⟩) n ca, .slice (some ⟨b, 0, none⟩) m cb] 25)).alloc (.cells #[.string name, .slice A' n ca', .slice B' m cb'] 25) = W1 at *
  obtain ⟨bx, hbx⟩ : ∃ bx, w.heap.size = bx := ⟨_, rfl⟩
  rw [hbx] at HX HX' ⊢
  have HBS := Lib.hid hbx
  clear hbx
  have x0 : W1.cell? ⟨bx, 0, none⟩ = some (.string name) := (HX.out.cell 0).trans rfl
  have x1 : W1.cell? ⟨bx, 1, none⟩ = some (.slice (some ⟨g, 0, none⟩) n ca) := (HX.out.cell 1).trans rfl
  have x2 : W1.cell? ⟨bx, 2, none⟩ = some (.slice (some ⟨b, 0, none⟩) m cb) := (HX.out.cell 2).trans rfl
  have y0 : W1.cell? ⟨bx + 1, 0, none⟩ = some (.string name) := (HX'.out.cell 0).trans rfl
  have y1 : W1.cell? ⟨bx + 1, 1, none⟩ = some (.slice A' n ca') := (HX'.out.cell 1).trans rfl
  have y2 : W1.cell? ⟨bx + 1, 2, none⟩ = some (.slice B' m cb') := (HX'.out.cell 2).trans rfl
  have hn0 : (0 : Int) ≤ (n : Int) := by omega
  have hm0 : (0 : Int) ≤ (m : Int) := by omega
  have hn2 : (n : Int) + 2 ≤ (ca : Int) := by omega
  have hm2 : (m : Int) + 2 ≤ (cb : Int) := by omega
  have hn3 : (0 : Int) ≤ (n : Int) + 2 := by omega
  have hm3 : (0 : Int) ≤ (m : Int) + 2 := by omega
  have HTR := Lib.hid (fun W (hb : Below W1.heap.size W1 W) => (HT.out.below hb).rooms)
  have er : ((⟨#[114, 111, 111, 109]⟩ : ByteArray).toList == (⟨#[114, 111, 111, 109]⟩ : ByteArray).toList) = true := by simp
  have hn4 : (n : Int) < (n : Int) + 2 := by omega
  have hm4 : (m : Int) < (m : Int) + 2 := by omega
  have hn5 : (n : Int) + 1 < (n : Int) + 2 := by omega
  have hm5 : (m : Int) + 1 < (m : Int) + 2 := by omega
  have hn6 : (0 : Int) ≤ (n : Int) + 1 := by omega
  have hm6 : (0 : Int) ≤ (m : Int) + 1 := by omega
  go_wp2_with (go_at_call 16; with_reducible refine hs.mono ?_; rintro e w2 ⟨rfl, hb2⟩; obtain ⟨r1, r2, r3, r4⟩ := HTR.out w2 hb2)
  go_ret
  exact ⟨rfl, below_then HB0.out HB0.out.size hb2⟩
end Go.Proofs.YtjkmoahnociaiaaDoor
/- Rows beside writes; copies. -/
namespace Go.Proofs.YtjkmoahnociaiaaDoor
open Go.RowKit

/-- A line's first operand set to its second. -/
def turnA (g : Gt) : Gt := if g.kind = 2 ∨ g.kind = 4 then { g with a := g.b } else g
theorem rep_set {u : Value} {l : List Value} {i : Nat} (hi : i < l.length) : (List.replicate i u ++ l.drop i).set i u = List.replicate (i + 1) u ++ l.drop (i + 1) := by
  rw [List.set_append_right _ _ (by simp), List.length_replicate, Nat.sub_self, List.drop_eq_getElem_cons hi, List.set_cons_zero, List.replicate_succ', List.append_assoc]
  rfl
theorem rep_at {u x : Value} {l : List Value} {i : Nat} (hx : l[i]? = some x) : (List.replicate i u ++ l.drop i)[i]? = some x := by
  rw [List.getElem?_append_right (by simp), List.length_replicate, Nat.sub_self, List.getElem?_drop, Nat.add_zero]
  exact hx
theorem rep_snoc (l : List Value) (u : Value) (j : Nat) : l ++ List.replicate j u ++ [u] = l ++ List.replicate (j + 1) u := by
  rw [List.append_assoc, List.replicate_succ']
/-- 'append(nil, x...)' as one step of a region that draws: a copy in memory of its own. -/
theorem step_copyOf {P : Program} {ops : Array Oper} {o : Oper} {a : Act} {w : World} {K : Act → World → Prop} {Q : Exit → Act → World → Prop} {E : Prop} (hgd : o.guard = none) (x : Operand) (T : TypeId)
    (ho : o.op = .call { callee := .builtin .append, args := #[.const (.slice none 0 0), x], argTypes := #[T, T] }) (e : TypeId) (z : Value) (size bytes : Nat) (hu : P.underlying T = some (.slice e))
    (hi : (P.info? e).map (fun i => (i.zero, i.size, i.bytes)) = some (some z, size, bytes)) (hzs : z.cells.size = size) (hsz : 0 < size)
    (A : Option Addr) (m c : Nat) (ys : List Value) (hx : a.eval x = .slice A m c) (hr : CReads w A ys) (hl : ys.length = m * size) (h1 : ∀ u ∈ ys, u.oneCell' = true) (h63 : m ≤ maxLen) (hbytes : m * bytes ≤ 140737488355328)
    (h : ∀ A' c' w', Hid (w'.ownsRow w.heap.size e size (.slice A' m c') m ys) → Below w.heap.size w w' → K (a.put o.dst (.slice A' m c')) w') :
    if Region.wanted o (yielded ops a.tmps) = true then Oper.wp P o a w K Q else E := by
  have hw : Region.wanted o (yielded ops a.tmps) = true := by simp [Region.wanted, hgd]
  rw [if_pos hw]
  obtain ⟨v', w', hrun, hown, hg, _⟩ := run_cells (P := P) (ty := o.type) hu hi hzs hsz (World.ownsRow_nil w w.heap.size e size) A m c ys hr hl h1 (by rw [Nat.zero_add]; exact h63) (by rw [Nat.zero_add]; exact hbytes) (Nat.le_refl _)
  rw [Nat.zero_add, List.nil_append] at hown
  obtain ⟨A', c', rfl, _, _⟩ := rows_cells hown hsz
  have hb : Below w.heap.size w w' := ⟨hg.os, hg.tape, hg.output, hg.size, fun i hi => hg.block i hi (by simp [Value.ownBlock])⟩
  have hfin := h A' c' w' (Lib.hid hown) hb
  unfold Oper.wp
  simp only [execOp, ho, resolve, invoke, builtin, Sem.run_bind, Sem.run_pure, Result.andThen_ok, List.map_toArray, List.map_cons, List.map_nil, Act.eval, hrun]
  have hx' := hx
  unfold Act.eval at hx'
  simp only [hx', hrun]
  exact hfin
theorem only_set3 (w : World) (g : Nat) (u v x : Value) : w.grownBy (((w.setCell ⟨g, 0, none⟩ u).setCell ⟨g, 1, none⟩ v).setCell ⟨g, 2, none⟩ x) (some g) :=
  only_setCell (only_setCell (only_setCell (only_refl w (some g)) (p := ⟨g, 0, none⟩) (.inl rfl) u) (p := ⟨g, 1, none⟩) (.inl rfl) v) (p := ⟨g, 2, none⟩) (.inl rfl) x
theorem below_set3 {B : Nat} {a w : World} (h : Below B a w) {g : Nat} (hg : B ≤ g) (hB : B ≤ w.heap.size) (u v x : Value) : Below B a (((w.setCell ⟨g, 0, none⟩ u).setCell ⟨g, 1, none⟩ v).setCell ⟨g, 2, none⟩ x) :=
  h.grown (only_set3 w g u v x) hB (fun g' e => by cases e; exact hg)
theorem rows_set3 {w : World} {base : Nat} {e : TypeId} {size n : Nat} {v : Value} {xs : List Value} (h : w.ownsRow base e size v n xs) {g : Nat} (hg : g < base ∨ w.heap.size ≤ g ∨ ∀ b, v.ownBlock = some b → b < g) (u1 u2 u3 : Value) :
    (((w.setCell ⟨g, 0, none⟩ u1).setCell ⟨g, 1, none⟩ u2).setCell ⟨g, 2, none⟩ u3).ownsRow base e size v n xs :=
  World.ownsRow.kept h (only_set3 w g u1 u2 u3) (by
    rcases hv : v.ownBlock with _ | b
    · exact .inl rfl
    · refine .inr fun e2 => ?_
      have e3 := Option.some.inj e2
      have h1 := World.ownsRow.lt h b hv
      rcases hg with hg | hg | hg
      · omega
      · omega
      · have := hg b hv; omega)
theorem rows_read {w : World} {base : Nat} {e : TypeId} {size n c : Nat} {A : Option Addr} {xs : List Value} (h : w.ownsRow base e size (.slice A n c) n xs) (hs : 0 < size) : CReads w A xs := by
  obtain ⟨A', c', e1, hr, _⟩ := rows_cells h hs
  cases e1
  exact hr
theorem gcells_set {v : Value} : ∀ {gs : List Gt} {i : Nat} {g g' : Gt}, gs[i]? = some g → g'.cells = g.cells.set 3 v → (gcells gs).set (i * 6 + 3) v = gcells (gs.set i g')
  | [], i, g, g', h, _ => by simp at h
  | x :: l, 0, g, g', h, hc => by
    simp at h
    subst h
    rw [gcells_cons, List.set_append_left _ _ (by simp [Gt.cells]), List.set_cons_zero, gcells_cons, hc, Nat.zero_mul, Nat.zero_add]
  | x :: l, i + 1, g, g', h, hc => by
    rw [gcells_cons, List.set_append_right _ _ (by simp [Gt.cells]; omega), List.set_cons_succ, gcells_cons]
    congr 1
    rw [← gcells_set (gs := l) (i := i) (g := g) (by simpa using h) hc]
    congr 1
    simp [Gt.cells]
    omega
/-- The lines below k turned. -/
def turnK (gs : List Gt) (k : Nat) : List Gt := (gs.take k).map turnA ++ gs.drop k
theorem turnK_length (gs : List Gt) (k : Nat) : (turnK gs k).length = gs.length := by simp [turnK]; omega
theorem turnK_get {gs : List Gt} {k : Nat} {g : Gt} (hg : gs[k]? = some g) : (turnK gs k)[k]? = some g := by
  have hk := (List.getElem?_eq_some_iff.1 hg).1
  unfold turnK
  rw [List.getElem?_append_right (by simp; omega), List.length_map, List.length_take, Nat.min_eq_left (by omega), Nat.sub_self, List.getElem?_drop, Nat.add_zero]
  exact hg
theorem turnK_succ {gs : List Gt} {k : Nat} {g : Gt} (hg : gs[k]? = some g) : turnK gs (k + 1) = (turnK gs k).set k (turnA g) := by
  have hk := (List.getElem?_eq_some_iff.1 hg).1
  have hg2 : gs[k] = g := (List.getElem?_eq_some_iff.1 hg).2
  unfold turnK
  rw [List.set_append_right _ _ (by simp; omega), List.length_map, List.length_take, Nat.min_eq_left (by omega), Nat.sub_self, List.drop_eq_getElem_cons hk, List.set_cons_zero, List.take_add_one, hg, List.map_append]
  simp
theorem turnK_same {gs : List Gt} {k : Nat} {g : Gt} (hg : gs[k]? = some g) (h2 : ¬ g.kind = 2) (h4 : ¬ g.kind = 4) : turnK gs (k + 1) = turnK gs k := by
  rw [turnK_succ hg]
  have : turnA g = g := by unfold turnA; rw [if_neg (by omega)]
  rw [this]
  apply List.ext_getElem?
  intro j
  rw [List.getElem?_set]
  split
  · rename_i e
    subst e
    rw [if_pos (List.getElem?_eq_some_iff.1 (turnK_get hg)).1, turnK_get hg]
  · rfl
theorem turnK_zero (gs : List Gt) : turnK gs 0 = gs := by simp [turnK]
theorem turnK_all {gs : List Gt} {n : Nat} (h : gs.length = n) : turnK gs n = gs.map turnA := by subst h; simp [turnK]
theorem turnA_cells {g : Gt} (h : g.kind = 2 ∨ g.kind = 4) : (turnA g).cells = g.cells.set 3 (.int .i64 g.b) := by
  unfold turnA
  rw [if_pos h]
  rfl
end Go.Proofs.YtjkmoahnociaiaaDoor
