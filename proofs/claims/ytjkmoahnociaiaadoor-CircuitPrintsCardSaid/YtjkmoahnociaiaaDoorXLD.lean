/- kept: a twin is as it was. -/
import Derived.Test.YtjkmoahnociaiaaDoorXKD
namespace Go.Proofs.YtjkmoahnociaiaaDoor
open Go.RowKit

section
variable {w w' : World} {base n m ca cb g b : Nat} {A B : Option Addr} {gs : List Gt} {outs : List Int}
theorem TwinAt.below (h : TwinAt w base A B n m ca cb gs outs) (hb : Below w.heap.size w w') : TwinAt w' base A B n m ca cb gs outs := ⟨rows_below h.g hb, h.o.below hb, h.gl, h.ol⟩
theorem TwinAt.form (h : TwinAt w base A B n m ca cb gs outs) : ∃ g b, A = some ⟨g, 0, none⟩ ∧ B = some ⟨b, 0, none⟩ ∧ base ≤ g ∧ g < w.heap.size ∧ base ≤ b ∧ b < w.heap.size ∧ n + 2 ≤ ca ∧ m + 2 ≤ cb := by
  rcases h.g.2 with ⟨hv, h0⟩ | ⟨g, cap, cur, hv, hb, hh, hnc, _⟩
  · omega
  · cases hv
    obtain ⟨b, rfl, h1, h2, h3⟩ := h.o.some_ (by omega)
    have := World.ownsRow.lt h.g g rfl
    exact ⟨g, b, rfl, rfl, hb, this.2, h1, h2, hnc, h3⟩
theorem TwinAt.gates (h : TwinAt w base A B n m ca cb gs outs) : CReads w A (gcells (gs ++ [room, room])) := by
  obtain ⟨A', c', e, hr, _⟩ := rows_cells h.g (by decide)
  cases e
  exact hr
theorem TwinAt.gread (h : TwinAt w base A B n m ca cb gs outs) : CReads w A (gcells gs) := by
  have := h.gates
  rw [gcells_append] at this
  exact this.front
theorem TwinAt.oread (h : TwinAt w base A B n m ca cb gs outs) : Reads w .i64 B outs := by
  obtain ⟨A', c', e, hr, _⟩ := rows_cells h.o (by decide)
  simp only [Value.slice.injEq] at e
  rw [← e.1, nums_append] at hr
  exact hr.front.reads
theorem TwinAt.rooms (h : TwinAt w base (some ⟨g, 0, none⟩) (some ⟨b, 0, none⟩) n m ca cb gs outs) : w.cell? ⟨g, n * 6 + 1, none⟩ = some (.string ⟨#[114, 111, 111, 109]⟩) ∧ w.cell? ⟨g, (n + 1) * 6 + 1, none⟩ = some (.string ⟨#[114, 111, 111, 109]⟩) ∧ w.cell? ⟨b, m, none⟩ = some (.int .i64 77) ∧ w.cell? ⟨b, m + 1, none⟩ = some (.int .i64 78) := by
  have h1 := h.gl
  have h2 := h.ol
  obtain ⟨_, _, e, c1⟩ := greads_at h.gates (i := n) (g := room) (by rw [List.getElem?_append_right (by omega), h1, Nat.sub_self]; rfl)
  cases e
  obtain ⟨_, _, e, c2⟩ := greads_at h.gates (i := n + 1) (g := room) (by rw [List.getElem?_append_right (by omega), h1, show n + 1 - n = 1 by omega]; rfl)
  cases e
  obtain ⟨_, e, c3⟩ := h.o.first (i := m) (u := .int .i64 77) (by rw [nums_get, List.getElem?_append_right (by omega), h2, Nat.sub_self]; rfl)
  cases e
  obtain ⟨_, e, c4⟩ := h.o.first (i := m + 1) (u := .int .i64 78) (by rw [nums_get, List.getElem?_append_right (by omega), h2, show m + 1 - m = 1 by omega]; rfl)
  cases e
  have d1 := c1.c1
  have d2 := c2.c1
  simp only [Nat.zero_add] at d1 d2
  exact ⟨d1, d2, c3, c4⟩
end
set_option maxRecDepth 100000 in
set_option maxHeartbeats 4000000 in
theorem kept_any (base : Nat) (A B A' B' : Option Addr) (n m ca cb ca' cb' : Nat) (name : ByteArray) (gs : List Gt) (outs : List Int) (w : World) (hT : TwinAt w base A B n m ca cb gs outs) (hA' : CReads w A' (gcells gs)) (hB' : Reads w .i64 B' outs) (hn1 : n ≤ 140737488355328) (hm1 : m ≤ 140737488355328) :
    Calls Tryd.prog 12 #[.agg #[.string name, .slice A n ca, .slice B m cb], .agg #[.string name, .slice A' n ca', .slice B' m cb']] w fun e w' => e = .returned (.bool true) ∧ Below w.heap.size w w' := by
  have hbl := below2 w (.cells #[.string name, .slice A n ca, .slice B m cb] 25) (.cells #[.string name, .slice A' n ca', .slice B' m cb'] 25)
  have HT := Lib.hid (hT.below hbl)
  have HB0 := Lib.hid hbl
  have hs : Calls Tryd.prog 16 #[.agg #[.string name, .slice A n ca, .slice B m cb], .agg #[.string name, .slice A' n ca', .slice B' m cb']] ((w.alloc (.cells #[.string name, .slice A n ca, .slice B m cb] 25)).alloc (.cells #[.string name, .slice A' n ca', .slice B' m cb'] 25)) fun e w' => e = .returned (.bool true) ∧ Below ((w.alloc (.cells #[.string name, .slice A n ca, .slice B m cb] 25)).alloc (.cells #[.string name, .slice A' n ca', .slice B' m cb'] 25)).heap.size ((w.alloc (.cells #[.string name, .slice A n ca, .slice B m cb] 25)).alloc (.cells #[.string name, .slice A' n ca', .slice B' m cb'] 25)) w' :=
    same_any A B A' B' n m ca cb ca' cb' name gs outs _ HT.out.gread HT.out.oread (hA'.below hbl) (hB'.below hbl) hT.gl hT.ol (by omega) (by omega)
  have HX := Lib.hid ((Blk.new w 25 [.string name, .slice A n ca, .slice B m cb]).alloc (.cells #[.string name, .slice A' n ca', .slice B' m cb'] 25))
  have HX' := Lib.hid (blk_new2 w (.cells #[.string name, .slice A n ca, .slice B m cb] 25) 25 [.string name, .slice A' n ca', .slice B' m cb'])
  obtain ⟨g, b, rfl, rfl, _, _, _, _, hcg, hcb⟩ := hT.form
  clear hA' hB' hT hbl
  go_enter Tryd.func12, Tryd.ntmps12
  go_upto_region 1 with (fail)
  change Code.wp _ _ _ _ ((w.alloc (.cells #[.string name, .slice (some ⟨g, 0, none⟩) n ca, .slice (some ⟨b, 0, none⟩) m cb] 25)).alloc (.cells #[.string name, .slice A' n ca', .slice B' m cb'] 25))
  generalize (w.alloc (.cells #[.string name, .slice (some ⟨g, 0, none⟩) n ca, .slice (some ⟨b, 0, none⟩) m cb] 25)).alloc (.cells #[.string name, .slice A' n ca', .slice B' m cb'] 25) = W1 at *
  obtain ⟨bx, hbx⟩ : ∃ bx, w.heap.size = bx := ⟨_, rfl⟩
  rw [hbx] at HX HX' ⊢
  have HBS := Lib.hid hbx
  clear hbx
  have x0 : W1.cell? ⟨bx, 0, none⟩ = some (.string name) := (HX.out.cell 0).trans rfl
  have x1 : W1.cell? ⟨bx, 1, none⟩ = some (.slice (some ⟨g, 0, none⟩) n ca) := (HX.out.cell 1).trans rfl
  have x2 : W1.cell? ⟨bx, 2, none⟩ = some (.slice (some ⟨b, 0, none⟩) m cb) := (HX.out.cell 2).trans rfl
  have y0 : W1.cell? ⟨bx + 1, 0, none⟩ = some (.string name) := (HX'.out.cell 0).trans rfl
  have y1 : W1.cell? ⟨bx + 1, 1, none⟩ = some (.slice A' n ca') := (HX'.out.cell 1).trans rfl
  have y2 : W1.cell? ⟨bx + 1, 2, none⟩ = some (.slice B' m cb') := (HX'.out.cell 2).trans rfl
  have hn0 : (0 : Int) ≤ (n : Int) := by omega
  have hm0 : (0 : Int) ≤ (m : Int) := by omega
  have hn2 : (n : Int) + 2 ≤ (ca : Int) := by omega
  have hm2 : (m : Int) + 2 ≤ (cb : Int) := by omega
  have hn3 : (0 : Int) ≤ (n : Int) + 2 := by omega
  have hm3 : (0 : Int) ≤ (m : Int) + 2 := by omega
  have HTR := Lib.hid (fun W (hb : Below W1.heap.size W1 W) => (HT.out.below hb).rooms)
  have er : ((⟨#[114, 111, 111, 109]⟩ : ByteArray).toList == (⟨#[114, 111, 111, 109]⟩ : ByteArray).toList) = true := by simp
  have hn4 : (n : Int) < (n : Int) + 2 := by omega
  have hm4 : (m : Int) < (m : Int) + 2 := by omega
  have hn5 : (n : Int) + 1 < (n : Int) + 2 := by omega
  have hm5 : (m : Int) + 1 < (m : Int) + 2 := by omega
  have hn6 : (0 : Int) ≤ (n : Int) + 1 := by omega
  have hm6 : (0 : Int) ≤ (m : Int) + 1 := by omega
  go_wp2_with (go_at_call 16; with_reducible refine hs.mono ?_; rintro e w2 ⟨rfl, hb2⟩; obtain ⟨r1, r2, r3, r4⟩ := HTR.out w2 hb2)
  go_ret
  exact ⟨rfl, below_then HB0.out HB0.out.size hb2⟩
end Go.Proofs.YtjkmoahnociaiaaDoor
