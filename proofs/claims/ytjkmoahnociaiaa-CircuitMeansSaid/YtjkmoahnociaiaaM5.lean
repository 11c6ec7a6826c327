/- made; CircuitMeans: the law's text answers true. -/
import Derived.Test.YtjkmoahnociaiaaM4
import Derived.Deep.CutRange
import Derived.Deep.CutBlock
namespace Go.Proofs.Ytjkmoahnociaiaa
open Go.RowKit

/-- What made leaves. -/
def MadeR (w : World) (e : Ending) (w' : World) : Prop :=
  ∃ gs outs A B n m ca cb, e = .returned (.agg #[.string mname, .slice A n ca, .slice B m cb]) ∧ MadeC ⟨mname, gs, outs⟩ ∧ gs.length = n ∧ outs.length = m ∧ Hid (CReads w' A (gcells gs)) ∧ Hid (Reads w' .i64 B outs) ∧ Below w.heap.size w w'
theorem alloc_size (w : World) (o : Obj) : (w.alloc o).heap.size = w.heap.size + 1 := by simp
/-- What the loop of made keeps. -/
structure MadeS (w wr : World) (gs : List Gt) (outs : List Int) (A B : Option Addr) (n m ca cb : Nat) : Prop where
  z : Blk wr w.heap.size 25 [.string ⟨#[]⟩, .slice none 0 0, .slice none 0 0]
  x : Blk wr (w.heap.size + 2) 25 [.string mname, .slice A n ca, .slice B m cb]
  g : wr.ownsRow w.heap.size 33 6 (.slice A n ca) n (gcells gs)
  o : Owns wr w.heap.size 3 (.slice B m cb) (nums .i64 outs)
  p : MadeP gs outs
  gl : gs.length = n
  ol : outs.length = m
  b : Below w.heap.size w wr
section
variable {w w1 w5 : World} {gs : List Gt} {outs : List Int} {A B A5 B5 : Option Addr} {n m ca cb c5 : Nat} {g : Gt}
theorem MadeS.below (h : MadeS w w1 gs outs A B n m ca cb) (hb : Below w1.heap.size w1 w5) : MadeS w w5 gs outs A B n m ca cb :=
  ⟨h.z.self hb, h.x.self hb, rows_below h.g hb, h.o.below hb, h.p, h.gl, h.ol, below_self h.b hb⟩
theorem MadeS.gate (h : MadeS w w1 gs outs A B n m ca cb) (hn : n < 200) (hgn : g.name = gname n) (hgf : FieldsK g n) (ho : w5.ownsRow w.heap.size 33 6 (.slice A5 (n + 1) c5) (n + 1) (gcells gs ++ gcells [g])) (hg : w1.grownBy w5 (Value.slice A n ca).ownBlock) :
    MadeS w (w5.setCell ⟨w.heap.size + 2, 1, none⟩ (.slice A5 (n + 1) c5)) (gs ++ [g]) outs A5 B (n + 1) m c5 cb := by
  have hty : ∀ b, (Value.slice A n ca).ownBlock = some b → Typed w1 b 33 := fun b e => rows_typed h.g e
  have hz := h.z.grown hg fun e => h.z.typed.ne (hty _ e.symm) (by decide) rfl
  have hx := h.x.grown hg fun e => h.x.typed.ne (hty _ e.symm) (by decide) rfl
  have hon := only_setCell (only_refl w5 (some (w.heap.size + 2))) (p := ⟨w.heap.size + 2, 1, none⟩) (.inl rfl) (.slice A5 (n + 1) c5)
  have hty2 : ∀ b, some (w.heap.size + 2) = some b → Typed w5 b 25 := fun b e => by cases e; exact hx.typed
  refine ⟨hz.far (by intro e; have : w.heap.size = w.heap.size + 2 := e; omega) _, hx.set_ 1 _, by rw [gcells_append]; exact rows_aside ho hon hty2 (by decide), rows_aside (rows_aside h.o hg hty (by decide)) hon hty2 (by decide), h.p.add (by rw [h.gl]; exact hn) (by rw [h.gl]; exact hgn) (by rw [h.gl]; exact hgf), by rw [List.length_append, h.gl]; rfl, h.ol, ?_⟩
  have h1 := h.b.grown hg h.b.size fun b e => (World.ownsRow.lt h.g b e).1
  exact h1.grown hon h1.size fun b e => by cases e; omega
theorem MadeS.put (h : MadeS w w1 (gs ++ [g]) outs A B (n + 1) m ca cb) (h0 : MadeP gs outs) (hgl : gs.length = n) (ho : Owns w5 w.heap.size 3 (.slice B5 (m + 1) c5) (nums .i64 outs ++ [.int .i64 n])) (hg : w1.grownBy w5 (Value.slice B m cb).ownBlock) :
    MadeS w (w5.setCell ⟨w.heap.size + 2, 2, none⟩ (.slice B5 (m + 1) c5)) (gs ++ [g]) (outs ++ [(n : Int)]) A B5 (n + 1) (m + 1) ca c5 := by
  have hty : ∀ b, (Value.slice B m cb).ownBlock = some b → Typed w1 b 3 := fun b e => h.o.typed e
  have hz := h.z.grown hg fun e => h.z.typed.ne (hty _ e.symm) (by decide) rfl
  have hx := h.x.grown hg fun e => h.x.typed.ne (hty _ e.symm) (by decide) rfl
  have hon := only_setCell (only_refl w5 (some (w.heap.size + 2))) (p := ⟨w.heap.size + 2, 2, none⟩) (.inl rfl) (.slice B5 (m + 1) c5)
  have hty2 : ∀ b, some (w.heap.size + 2) = some b → Typed w5 b 25 := fun b e => by cases e; exact hx.typed
  refine ⟨hz.far (by intro e; have : w.heap.size = w.heap.size + 2 := e; omega) _, hx.set_ 2 _, rows_aside (rows_aside h.g hg hty (by decide)) hon hty2 (by decide), by rw [nums_append]; exact rows_aside ho hon hty2 (by decide), h0.out hgl h.p, h.gl, by rw [List.length_append, h.ol]; rfl, ?_⟩
  have h1 := h.b.grown hg h.b.size fun b e => (World.ownsRow.lt h.o b e).1
  exact h1.grown hon h1.size fun b e => by cases e; omega
end
section
variable {w w1 : World} {gs : List Gt} {outs : List Int} {A B : Option Addr} {n m ca cb : Nat}
theorem made_fin {zc : List Value} {b : Nat} (hz : Blk w1 w.heap.size 25 zc) (hg : w1.ownsRow b 33 6 (.slice A n ca) n (gcells gs)) (ho : Owns w1 b 3 (.slice B m cb) (nums .i64 outs)) (hol : outs.length = m) (hb : Below w.heap.size w w1) (u v x : Value) :
    Hid (CReads (((w1.setCell ⟨w.heap.size, 0, none⟩ u).setCell ⟨w.heap.size, 1, none⟩ v).setCell ⟨w.heap.size, 2, none⟩ x) A (gcells gs)) ∧ Hid (Reads (((w1.setCell ⟨w.heap.size, 0, none⟩ u).setCell ⟨w.heap.size, 1, none⟩ v).setCell ⟨w.heap.size, 2, none⟩ x) .i64 B outs) ∧ Below w.heap.size w (((w1.setCell ⟨w.heap.size, 0, none⟩ u).setCell ⟨w.heap.size, 1, none⟩ v).setCell ⟨w.heap.size, 2, none⟩ x) := by
  have hon := only_set3 w1 w.heap.size u v x
  have hty : ∀ b, some w.heap.size = some b → Typed w1 b 25 := fun b e => by cases e; exact hz.typed
  refine ⟨Lib.hid (rows_read (rows_aside hg hon hty (by decide)) (by decide)), Lib.hid ?_, hb.grown hon hb.size fun b e => by cases e; exact Nat.le_refl _⟩
  have ho' := rows_aside ho hon hty (by decide)
  have hl : (nums .i64 outs).length = m := by rw [nums_length]; exact hol
  rw [hl] at ho'
  exact (rows_read ho' (by decide)).reads
/-- The one line that is told where none is. -/
theorem MadeS.only (h : MadeS w w1 gs outs A B n m ca cb) (z : Int) :
    Blk ((w1.alloc (.cells [Value.int .i64 z].toArray 3)).setCell ⟨w.heap.size + 2, 2, none⟩ (.slice (some ⟨w1.heap.size, 0, none⟩) 1 1)) w.heap.size 25 [.string ⟨#[]⟩, .slice none 0 0, .slice none 0 0] ∧
    Blk ((w1.alloc (.cells [Value.int .i64 z].toArray 3)).setCell ⟨w.heap.size + 2, 2, none⟩ (.slice (some ⟨w1.heap.size, 0, none⟩) 1 1)) (w.heap.size + 2) 25 [.string mname, .slice A n ca, .slice (some ⟨w1.heap.size, 0, none⟩) 1 1] ∧
    World.ownsRow ((w1.alloc (.cells [Value.int .i64 z].toArray 3)).setCell ⟨w.heap.size + 2, 2, none⟩ (.slice (some ⟨w1.heap.size, 0, none⟩) 1 1)) w.heap.size 33 6 (.slice A n ca) n (gcells gs) ∧
    Owns ((w1.alloc (.cells [Value.int .i64 z].toArray 3)).setCell ⟨w.heap.size + 2, 2, none⟩ (.slice (some ⟨w1.heap.size, 0, none⟩) 1 1)) w.heap.size 3 (.slice (some ⟨w1.heap.size, 0, none⟩) 1 1) (nums .i64 [z]) ∧
    Below w.heap.size w ((w1.alloc (.cells [Value.int .i64 z].toArray 3)).setCell ⟨w.heap.size + 2, 2, none⟩ (.slice (some ⟨w1.heap.size, 0, none⟩) 1 1)) := by
  have h2 := h.below (below1 w1 (.cells [Value.int .i64 z].toArray 3))
  have hon := only_setCell (only_refl (w1.alloc (.cells [Value.int .i64 z].toArray 3)) (some (w.heap.size + 2))) (p := ⟨w.heap.size + 2, 2, none⟩) (.inl rfl) (.slice (some ⟨w1.heap.size, 0, none⟩) 1 1)
  have hty : ∀ b, some (w.heap.size + 2) = some b → Typed (w1.alloc (.cells [Value.int .i64 z].toArray 3)) b 25 := fun b e => by cases e; exact h2.x.typed
  have ho : Owns (w1.alloc (.cells [Value.int .i64 z].toArray 3)) w.heap.size 3 (.slice (some ⟨w1.heap.size, 0, none⟩) 1 1) (nums .i64 [z]) := World.ownsRow_lit w1 (base := w.heap.size) (e := 3) (size := 1) (nums .i64 [z]).toArray 1 h.b.size (by decide) rfl
  exact ⟨h2.z.far (by intro e; have : w.heap.size = w.heap.size + 2 := e; omega) _, h2.x.set_ 2 _, rows_aside h2.g hon hty (by decide), rows_aside ho hon hty (by decide), h2.b.grown hon h2.b.size fun b e => by cases e; omega⟩
end
theorem made_start (w : World) : MadeS w (((w.alloc (.cells #[.string ⟨#[]⟩, .slice none 0 0, .slice none 0 0] 25)).alloc (.cells #[.int .i64 1, .string ⟨#[105, 48]⟩, .int .i64 0, .int .i64 0, .int .i64 0, .int .i64 0] 33)).alloc (.cells #[.string ⟨#[109, 97, 100, 101]⟩, .slice (some ⟨w.heap.size + 1, 0, none⟩) 1 1, .slice none 0 0] 25)) [⟨1, iname, 0, 0, 0, 0⟩] [] (some ⟨w.heap.size + 1, 0, none⟩) none 1 0 1 0 := by
  have e1 := alloc_size w (.cells #[.string ⟨#[]⟩, .slice none 0 0, .slice none 0 0] 25)
  have e2 := alloc_size (w.alloc (.cells #[.string ⟨#[]⟩, .slice none 0 0, .slice none 0 0] 25)) (.cells #[.int .i64 1, .string ⟨#[105, 48]⟩, .int .i64 0, .int .i64 0, .int .i64 0, .int .i64 0] 33)
  have hb1 := below2 w (.cells #[.string ⟨#[]⟩, .slice none 0 0, .slice none 0 0] 25) (.cells #[.int .i64 1, .string ⟨#[105, 48]⟩, .int .i64 0, .int .i64 0, .int .i64 0, .int .i64 0] 33)
  have hb2 := below1 ((w.alloc (.cells #[.string ⟨#[]⟩, .slice none 0 0, .slice none 0 0] 25)).alloc (.cells #[.int .i64 1, .string ⟨#[105, 48]⟩, .int .i64 0, .int .i64 0, .int .i64 0, .int .i64 0] 33)) (.cells #[.string ⟨#[109, 97, 100, 101]⟩, .slice (some ⟨w.heap.size + 1, 0, none⟩) 1 1, .slice none 0 0] 25)
  refine ⟨((Blk.new w 25 [.string ⟨#[]⟩, .slice none 0 0, .slice none 0 0]).alloc _).self hb2, ?_, rows_below ?_ hb2, owns_nil _ _ _, MadeP.start, rfl, rfl, below_self hb1 hb2⟩
  · have := Blk.new ((w.alloc (.cells #[.string ⟨#[]⟩, .slice none 0 0, .slice none 0 0] 25)).alloc (.cells #[.int .i64 1, .string ⟨#[105, 48]⟩, .int .i64 0, .int .i64 0, .int .i64 0, .int .i64 0] 33)) 25 [.string ⟨#[109, 97, 100, 101]⟩, .slice (some ⟨w.heap.size + 1, 0, none⟩) 1 1, .slice none 0 0]
    rw [e2, e1] at this
    exact this
  · have := World.ownsRow_lit (w.alloc (.cells #[.string ⟨#[]⟩, .slice none 0 0, .slice none 0 0] 25)) (base := w.heap.size) (e := 33) (size := 6) (gcells [⟨1, iname, 0, 0, 0, 0⟩]).toArray 1 (by rw [e1]; omega) (by decide) rfl
    rw [e1] at this
    exact this
set_option maxRecDepth 100000 in
set_option maxHeartbeats 8000000 in
theorem made_any (AC : Option Addr) (L c : Nat) (xs : List Int) (w : World) (hC : Reads w .i64 AC xs) (hL : xs.length = L) (hx : ∀ x ∈ xs, Big x) (hm : L ≤ 1000000000000000) :
    Calls Try.prog 26 #[.slice AC L c] w (fun e w' => MadeR w e w') := by
  have HC := Lib.hid hC; have HL := Lib.hid hL; have HX := Lib.hid hx
  clear hC hL hx
  go_enter Try.func26, Try.ntmps26
  go_upto_region 3 with (fail)
  have HM1 := Lib.hid (made_start w)
  generalize (((w.alloc (.cells #[.string ⟨#[]⟩, .slice none 0 0, .slice none 0 0] 25)).alloc (.cells #[.int .i64 1, .string ⟨#[105, 48]⟩, .int .i64 0, .int .i64 0, .int .i64 0, .int .i64 0] 33)).alloc (.cells #[.string ⟨#[109, 97, 100, 101]⟩, .slice (some ⟨w.heap.size + 1, 0, none⟩) 1 1, .slice none 0 0] 25)) = W1 at *
  obtain ⟨bx, hbx⟩ : ∃ bx, w.heap.size = bx := ⟨_, rfl⟩
  have HBX := Lib.hid hbx
  rw [hbx] at HM1 ⊢
  clear hbx
  go_loopw [4] (fun s4 wr => ∃ (i : Nat) (gs : List Gt) (outs : List Int) (A B : Option Addr) (n m ca cb : Nat), i ≤ L + 2 ∧ s4 = .int .i64 i ∧ Hid (MadeS w wr gs outs A B n m ca cb)) (fun s4 _ => L + 2 - (intOf s4).toNat)
  case atStart => exact ⟨0, _, _, _, _, _, _, _, _, by omega, rfl, HM1⟩
  case round =>
    clear HM1
    obtain ⟨i, gs, outs, A, B, n, m, ca, cb, hi, rfl, HM⟩ := hrel
    have ew : IntKind.i64.wrap ((i : Int) + 2) = (i : Int) + 2 := by rw [IntKind.wrap_i64]; omega
    have x1 : wr.cell? ⟨bx + 2, 1, none⟩ = some (.slice A n ca) := by rw [← HBX.out]; exact (HM.out.x.cell 1).trans rfl
    by_cases h12 : i + 2 < L ∧ n < 200
    · obtain ⟨h1, h2⟩ := h12
      have h1' : (i : Int) + 2 < (L : Int) := by omega
      have h2' : (n : Int) < 200 := by omega
      obtain ⟨sN, hsN⟩ : ∃ sN, strOfNums (digs n) = sN := ⟨_, rfl⟩
      have hN : Calls Try.prog 45 #[.int .i64 n] wr fun e w' => e = .returned (.string sN) ∧ Below wr.heap.size wr w' := by
        rw [← hsN]; exact number_any n wr (by omega)
      have HSN : Hid ((⟨#[110]⟩ : ByteArray) ++ sN = gname n) := Lib.hid (by rw [← hsN]; rfl)
      have hsz : (⟨#[110]⟩ : ByteArray).size + sN.size ≤ 9223372036854775807 := by
        have := digs_len n
        rw [← hsN, strOfNums_size]
        show 1 + _ ≤ _
        omega
      have hadd := fun W => run_string_add_sum (P := Try.prog) W (⟨#[110]⟩ : ByteArray) sN hsz
      have hsz2 : ¬ (9223372036854775807 < 1 + sN.size) := by
        have h3 : (⟨#[110]⟩ : ByteArray).size = 1 := rfl
        omega
      clear hsN hsz
      go_upto_region 7 with (go_at_call 45; with_reducible refine hN.mono ?_; rintro e w6 ⟨rfl, hb6⟩)
      rw [HSN.out]
      have hbl := below1 w6 (.cells #[.int .i64 0, .string (gname n), .int .i64 0, .int .i64 0, .int .i64 0, .int .i64 0] 33)
      have HBG : Hid (Blk (w6.alloc (.cells #[.int .i64 0, .string (gname n), .int .i64 0, .int .i64 0, .int .i64 0, .int .i64 0] 33)) w6.heap.size 33 [.int .i64 0, .string (gname n), .int .i64 0, .int .i64 0, .int .i64 0, .int .i64 0]) := Lib.hid (Blk.new w6 33 [.int .i64 0, .string (gname n), .int .i64 0, .int .i64 0, .int .i64 0, .int .i64 0])
      have HB7 := Lib.hid (below_then hb6 hb6.size hbl)
      have HBN : Hid (wr.heap.size ≤ w6.heap.size) := Lib.hid hb6.size
      clear hN hadd hsz2 hb6 hbl HSN
      generalize w6.alloc (.cells #[.int .i64 0, .string (gname n), .int .i64 0, .int .i64 0, .int .i64 0, .int .i64 0] 33) = W7 at *
      obtain ⟨bg, hbg⟩ : ∃ bg, w6.heap.size = bg := ⟨_, rfl⟩
      rw [hbg] at HBG HBN ⊢
      clear hbg
      obtain ⟨y0, hy0⟩ : ∃ y, xs[i]? = some y := ⟨_, List.getElem?_eq_getElem (by rw [HL.out]; omega)⟩
      obtain ⟨y1, hy1⟩ : ∃ y, xs[i + 1]? = some y := ⟨_, List.getElem?_eq_getElem (by rw [HL.out]; omega)⟩
      obtain ⟨y2, hy2⟩ : ∃ y, xs[i + 2]? = some y := ⟨_, List.getElem?_eq_getElem (by rw [HL.out]; omega)⟩
      have hRC := (HC.out.below HM.out.b).below HB7.out
      obtain ⟨kb, ko, rfl, c0⟩ := hRC.at_ hy0
      obtain ⟨_, _, e1, c1⟩ := hRC.at_ hy1
      cases e1
      obtain ⟨_, _, e1, c2⟩ := hRC.at_ hy2
      cases e1
      have g0 := HX.out y0 (List.mem_of_getElem? hy0)
      have g1 := HX.out y1 (List.mem_of_getElem? hy1)
      have g2 := HX.out y2 (List.mem_of_getElem? hy2)
      have hn1 : 1 ≤ n := by rw [← HM.out.gl]; exact HM.out.p.pos
      have hw1 := within_any y1 n W7 g1 hn1 (by omega)
      have hw2 := within_any y2 n W7 g2 hn1 (by omega)
      have hw0 : Calls Try.prog 46 #[.int .i64 y0, .int .i64 24] W7 fun e w' => (∃ x : Nat, e = .returned (.int .i64 x) ∧ x < 24) ∧ w' = W7 := within_any y0 24 W7 g0 (by omega) (by omega)
      have ew1 : IntKind.i64.wrap ((i : Int) + 1) = (i : Int) + 1 := by rw [IntKind.wrap_i64]; omega
      have i0 : (0 : Int) ≤ (i : Int) := by omega
      have i1 : (0 : Int) ≤ (i : Int) + 1 := by omega
      have i2 : (0 : Int) ≤ (i : Int) + 2 := by omega
      have i3 : (i : Int) < (L : Int) := by omega
      have i4 : (i : Int) + 1 < (L : Int) := by omega
      have t1 : ((i : Int) + 1).toNat = i + 1 := by omega
      have t2 : ((i : Int) + 2).toNat = i + 2 := by omega
      have hkb : kb < wr.heap.size := by
        obtain ⟨_, _, e, hc⟩ := (HC.out.below HM.out.b).at_ hy0
        cases e
        exact World.block_lt_of_cell? _ _ hc
      have HCC := Lib.hid (And.intro c0 (And.intro c1 c2))
      have HY := Lib.hid (And.intro g0 (And.intro g1 g2))
      have HKC : Hid (∀ W, Below w.heap.size w W → W.cell? ⟨kb, ko + (i + 1), none⟩ = some (.int .i64 y1) ∧ W.cell? ⟨kb, ko + (i + 2), none⟩ = some (.int .i64 y2)) := Lib.hid fun W hW => by
        obtain ⟨_, _, e1, k1⟩ := (HC.out.below hW).at_ hy1
        cases e1
        obtain ⟨_, _, e1, k2⟩ := (HC.out.below hW).at_ hy2
        cases e1
        exact ⟨k1, k2⟩
      clear hRC hy0 hy1 hy2 g0 g1 g2
      go_upto_block 2 with (first
        | ((go_at_call 46; with_reducible refine hw1.mono ?_; rintro e w' ⟨⟨a1, rfl, ha1⟩, rfl⟩))
        | ((go_at_call 46; with_reducible refine hw2.mono ?_; rintro e w' ⟨⟨a2, rfl, ha2⟩, rfl⟩))
        | ((go_at_call 46; with_reducible refine hw0.mono ?_; rintro e w' ⟨⟨a0, rfl, ha0⟩, rfl⟩)))
      rename World => W8
      clear hw0 hw1 hw2
      go_cut [] from 51 to 108 (fun wx => ∃ g : Gt, Hid (Blk wx bg 33 g.cells) ∧ Hid (g.name = gname n) ∧ Hid (FieldsK g n) ∧ Hid (W8.grownBy wx (some bg)))
      case first =>
        obtain ⟨g0, g1, g2⟩ := HY.out
        have s0 : W8.cell? ⟨bg, 0, none⟩ = some (.int .i64 0) := (HBG.out.cell 0).trans rfl
        have s2 : W8.cell? ⟨bg, 2, none⟩ = some (.int .i64 0) := (HBG.out.cell 2).trans rfl
        have s3 : W8.cell? ⟨bg, 3, none⟩ = some (.int .i64 0) := (HBG.out.cell 3).trans rfl
        have s4 : W8.cell? ⟨bg, 4, none⟩ = some (.int .i64 0) := (HBG.out.cell 4).trans rfl
        have s5 : W8.cell? ⟨bg, 5, none⟩ = some (.int .i64 0) := (HBG.out.cell 5).trans rfl
        have f0 := HBG.out.frozen 0
        have f2 := HBG.out.frozen 2
        have f3 := HBG.out.frozen 3
        have f4 := HBG.out.frozen 4
        have f5 := HBG.out.frozen 5
        have hne : ¬ kb = bg := by have := HBN.out; omega
        have hne2 : ¬ bg = kb := by omega
        have hw2 : ∀ W, Calls Try.prog 46 #[.int .i64 y2, .int .i64 2] W fun e w' => (∃ x : Nat, e = .returned (.int .i64 x) ∧ x < 2) ∧ w' = W := fun W => within_any y2 2 W g2 (by omega) (by omega)
        have hw3 : ∀ W, Calls Try.prog 46 #[.int .i64 y1, .int .i64 ((n : Int) + 1)] W fun e w' => (∃ x : Nat, e = .returned (.int .i64 x) ∧ x < n + 1) ∧ w' = W := fun W => by
          have := within_any y1 (n + 1) W g1 (by omega) (by omega)
          rwa [show ((n + 1 : Nat) : Int) = (n : Int) + 1 by omega] at this
        have hw16 : ∀ W, Calls Try.prog 46 #[.int .i64 y0, .int .i64 16] W fun e w' => (∃ x : Nat, e = .returned (.int .i64 x) ∧ x < 16) ∧ w' = W := fun W => within_any y0 16 W g0 (by omega) (by omega)
        obtain ⟨z12, hz12⟩ : ∃ z, IntKind.i64.wrap (y1 + y2) = z := ⟨_, rfl⟩
        have gz : Big z12 := by rw [← hz12, IntKind.wrap_i64]; unfold Big; omega
        have hwz : ∀ W, Calls Try.prog 46 #[.int .i64 z12, .int .i64 n] W fun e w' => (∃ x : Nat, e = .returned (.int .i64 x) ∧ x < n) ∧ w' = W := fun W => within_any z12 n W gz hn1 (by omega)
        have HW2 := Lib.hid hw2; have HW3 := Lib.hid hw3; have HW16 := Lib.hid hw16; have HWZ := Lib.hid hwz
        have enw : IntKind.i64.wrap ((n : Int) + 1) = (n : Int) + 1 := by rw [IntKind.wrap_i64]; omega
        clear hw2 hw3 hw16 hwz g0 g1 g2 gz
        by_cases q1 : a0 = 0 ∨ a0 = 1
        · rcases q1 with rfl | rfl
          all_goals
            go_wp2_with fail
            go_meet
            exact ⟨⟨1, gname n, 0, 0, 0, 0⟩, Lib.hid (HBG.out.set_ 0 (.int .i64 1)), Lib.hid rfl, Lib.hid (.inl ⟨rfl, rfl, rfl, rfl, rfl⟩), Lib.hid (only_setCell (only_refl W8 (some bg)) (p := ⟨bg, 0, none⟩) (.inl rfl) _)⟩
        · by_cases q2 : a0 = 2 ∨ a0 = 3
          · rcases q2 with rfl | rfl
            all_goals
              go_wp2_with (first
                | ((go_at_call 46; with_reducible refine (HW2.out _).mono ?_; rintro e w' ⟨⟨b2, rfl, hb2⟩, rfl⟩))
                | ((go_at_call 46; with_reducible refine (HW3.out _).mono ?_; rintro e w' ⟨⟨b3, rfl, hb3⟩, rfl⟩)))
              go_meet
              exact ⟨⟨3, gname n, b2, b3, 0, 0⟩, Lib.hid (((HBG.out.set_ 0 (.int .i64 3)).set_ 2 (.int .i64 b2)).set_ 3 (.int .i64 b3)), Lib.hid rfl, Lib.hid (.inr (.inr (.inl ⟨rfl, by dsimp only; omega, by dsimp only; omega, by unfold PlaceP; dsimp only; omega, rfl, rfl⟩))), Lib.hid (only_setCell (only_setCell (only_setCell (only_refl W8 (some bg)) (p := ⟨bg, 0, none⟩) (.inl rfl) _) (p := ⟨bg, 2, none⟩) (.inl rfl) _) (p := ⟨bg, 3, none⟩) (.inl rfl) _)⟩
          · by_cases q3 : a0 = 4 ∨ a0 = 5 ∨ a0 = 6
            · rcases q3 with rfl | rfl | rfl
              all_goals
                go_upto_region 28 with (fail)
                go_region_held3 (fun W => W.cell? ⟨kb, ko + (i + 1), none⟩ = some (.int .i64 y1) ∧ W.cell? ⟨kb, ko + (i + 2), none⟩ = some (.int .i64 y2))
                  (go_keep)
                  (first
                    | ((go_at_call 46; with_reducible refine (HWZ.out _).mono ?_; rintro e w' ⟨⟨b5, rfl, hb5⟩, rfl⟩)))
                all_goals
                  go_wp2_with fail
                  go_meet
                  have hB := (((HBG.out.set_ 0 (.int .i64 4)).set_ 3 (.int .i64 a1)).set_ 4 (.int .i64 a2)).set_ 5 (.int .i64 b5)
                  have hG := only_setCell (only_setCell (only_setCell (only_setCell (only_refl W8 (some bg)) (p := ⟨bg, 0, none⟩) (.inl rfl) (.int .i64 4)) (p := ⟨bg, 3, none⟩) (.inl rfl) (.int .i64 a1)) (p := ⟨bg, 4, none⟩) (.inl rfl) (.int .i64 a2)) (p := ⟨bg, 5, none⟩) (.inl rfl) (.int .i64 b5)
                  exact ⟨⟨4, gname n, 0, a1, a2, b5⟩, Lib.hid hB, Lib.hid rfl, Lib.hid (.inr (.inr (.inr ⟨rfl, rfl, by unfold PlaceP; dsimp only; omega, by unfold PlaceP; dsimp only; omega, by unfold PlaceP; dsimp only; omega⟩))), Lib.hid ⟨hG.os, hG.tape, hG.output, hG.size, hG.block⟩⟩
            · have e0 : (a0 == 0) = false := by simp; omega
              go_wp2_with (first
                | ((go_at_call 46; with_reducible refine (HW16.out _).mono ?_; rintro e w' ⟨⟨b2, rfl, hb2⟩, rfl⟩)))
              go_meet
              exact ⟨⟨2, gname n, b2, a1, a2, 0⟩, Lib.hid ((((HBG.out.set_ 0 (.int .i64 2)).set_ 2 (.int .i64 b2)).set_ 3 (.int .i64 a1)).set_ 4 (.int .i64 a2)), Lib.hid rfl, Lib.hid (.inr (.inl ⟨rfl, by dsimp only; omega, by dsimp only; omega, by unfold PlaceP; dsimp only; omega, by unfold PlaceP; dsimp only; omega, rfl⟩)), Lib.hid (only_setCell (only_setCell (only_setCell (only_setCell (only_refl W8 (some bg)) (p := ⟨bg, 0, none⟩) (.inl rfl) _) (p := ⟨bg, 2, none⟩) (.inl rfl) _) (p := ⟨bg, 3, none⟩) (.inl rfl) _) (p := ⟨bg, 4, none⟩) (.inl rfl) _)⟩
      case rest =>
        obtain ⟨g, HBG9, HGN, HGF, HG9⟩ := hcut
        have hb9 : Below wr.heap.size wr wc := HB7.out.grown HG9.out HB7.out.size (fun b e => by cases e; exact HBN.out)
        have HM9 := Lib.hid (HM.out.below hb9)
        obtain ⟨z0, z1, z2, z3, z4, z5⟩ := gblk HBG9.out
        obtain ⟨kd, nm, op, a, b, cc⟩ := g
        dsimp only at z0 z1 z2 z3 z4 z5
        have x1 : wc.cell? ⟨bx + 2, 1, none⟩ = some (.slice A n ca) := by rw [← HBX.out]; exact (HM9.out.x.cell 1).trans rfl
        have hbl := below1 wc (.cells #[.int .i64 kd, .string nm, .int .i64 op, .int .i64 a, .int .i64 b, .int .i64 cc] 33)
        have HM10 := Lib.hid (HM9.out.below hbl)
        have HR10 : Hid (CReads (wc.alloc (.cells #[.int .i64 kd, .string nm, .int .i64 op, .int .i64 a, .int .i64 b, .int .i64 cc] 33)) (some ⟨wc.heap.size, 0, none⟩) (gcells [⟨kd, nm, op, a, b, cc⟩])) := Lib.hid (CReads.of_blk (Blk.new wc 33 (gcells [⟨kd, nm, op, a, b, cc⟩])))
        clear hbl hb9 HB7 HBG HG9 HCC c0 c1 c2
        go_upto_region 30 with (at_builtin; refine wpList_cells rfl _ _ 22 rfl w.heap.size 33 _ 6 56 Try.underlying22 info_gate rfl (by decide) (.slice A n ca) n (gcells gs) rfl HM10.out.g (some ⟨wc.heap.size, 0, none⟩) 1 1 (gcells [⟨kd, nm, op, a, b, cc⟩]) rfl HR10.out rfl (fun u hu => gcells_one hu) (by unfold maxLen; omega) (by omega) (by exact HM10.out.b.size) ?_; intro v5 w5 hown5 hg5 hb5; obtain ⟨A5, c5, rfl, _⟩ := rows_cells hown5 (by decide); have hms := HM10.out.gate h2 HGN.out HGF.out hown5 hg5; rw [HBX.out] at hms; have hxx := HM10.out.x.grown hg5 (fun e => HM10.out.x.typed.ne (rows_typed HM10.out.g e.symm) (by decide) rfl); rw [HBX.out] at hxx; have xc := (hxx.cell 1).trans rfl; have xf := hxx.frozen 1; have HMS := Lib.hid hms; clear hms hxx)
        clear HM10 HR10 HM9 HGN HGF z0 z1 z2 z3 z4 z5 x1 hown5 hg5 hb5 xc xf HBG9
        generalize w5.setCell ⟨bx + 2, 1, none⟩ (.slice A5 (n + 1) c5) = W11 at *
        generalize hgg : (⟨kd, nm, op, a, b, cc⟩ : Gt) = g at HMS
        obtain ⟨zs, hzs⟩ : ∃ z, IntKind.i64.wrap (y1 - y2) = z := ⟨_, rfl⟩
        have gz : Big zs := by rw [← hzs, IntKind.wrap_i64]; unfold Big; omega
        have hw3 : ∀ W, Calls Try.prog 46 #[.int .i64 zs, .int .i64 3] W fun e w' => (∃ x : Nat, e = .returned (.int .i64 x) ∧ x < 3) ∧ w' = W := fun W => within_any zs 3 W gz (by omega) (by omega)
        have HW3 := Lib.hid hw3
        have HD := Lib.hid (below_drew0 HMS.out.b)
        have ew3 : IntKind.i64.wrap ((i : Int) + 3) = (i : Int) + 3 := by rw [IntKind.wrap_i64]; omega
        clear hw3 gz hgg
        go_region_held3 (fun W => W.cell? ⟨kb, ko + (i + 1), none⟩ = some (.int .i64 y1) ∧ W.cell? ⟨kb, ko + (i + 2), none⟩ = some (.int .i64 y2))
          (exact HKC.out _ HD.out)
          (first
            | ((go_at_call 46; with_reducible refine (HW3.out _).mono ?_; rintro e w' ⟨⟨b6, rfl, hb6⟩, rfl⟩)))
        have HM11 := Lib.hid (HMS.out.below (w5 := W11.drew) (below_drew0 (Below.refl _ _)))
        clear HMS HD HKC HW3
        generalize W11.drew = W12 at *
        have x2 : W12.cell? ⟨bx + 2, 2, none⟩ = some (.slice B m cb) := by rw [← HBX.out]; exact (HM11.out.x.cell 2).trans rfl
        by_cases hb : b6 = 0
        · subst hb
          have hbl := below1 W12 (.cells [Value.int .i64 (n : Int)].toArray 3)
          have HM12 := Lib.hid (HM11.out.below hbl)
          have hnl : (nums .i64 outs).length = m := by rw [nums_length]; exact HM11.out.ol
          have hm2 : m ≤ 200 := by have := HM.out.p.ol; have := HM.out.p.le; have := HM.out.ol; omega
          have HMP := Lib.hid HM.out.p
          have HGL := Lib.hid HM.out.gl
          clear hbl HM11 HM
          go_upto_region 4 with (at_builtin; refine wpList_push2 rfl _ _ 23 rfl w.heap.size 3 _ 8 Try.underlying23 info_int rfl (.slice B m cb) _ rfl HM12.out.o ⟨W12.heap.size, 0, none⟩ (.int .i64 (n : Int)) rfl (by simp [go_sem]) rfl (by rw [hnl]; unfold maxLen; omega) (by rw [hnl]; omega) (by exact HM12.out.b.size) ?_; intro v6 w6' hown6 hg6 hb6'; obtain ⟨B6, c6, rfl⟩ := hown6.form; have hl6 : (nums .i64 outs ++ [Value.int .i64 (n : Int)]).length = m + 1 := (List.length_append ..).trans (by rw [hnl]; rfl); rw [hl6] at hown6 ⊢; have hms := HM12.out.put HMP.out HGL.out hown6 hg6; rw [HBX.out] at hms; have hxx := HM12.out.x.grown hg6 (fun e => HM12.out.x.typed.ne (HM12.out.o.typed e.symm) (by decide) rfl); rw [HBX.out] at hxx; have xc := (hxx.cell 2).trans rfl; have xf := hxx.frozen 2; have HMS := Lib.hid hms; clear hms hxx)
          clear HM12 HMP HGL x2 hown6 hg6 hb6' xc xf
          go_wp2
          go_roundw
          case rel => exact ⟨i + 3, _, _, _, _, _, _, _, _, by omega, by go_num, HMS⟩
          case measure => simp [intOf]; omega
        · have hb1 : ¬ (b6 : Int) = 0 := by omega
          have hb2 : ((b6 : Int) == 0) = false := by simp; omega
          clear HM x2
          go_wp2
          go_roundw
          case rel => exact ⟨i + 3, _, _, _, _, _, _, _, _, by omega, by go_num, HM11⟩
          case measure => simp [intOf]; omega
    · have hfork : ((i : Int) + 2 < (L : Int) ∧ ¬ (n : Int) < 200) ∨ ¬ (i : Int) + 2 < (L : Int) := by omega
      have HX2 : Hid (Blk wr (bx + 2) 25 [.string mname, .slice A n ca, .slice B m cb]) := Lib.hid (by have := HM.out.x; rwa [HBX.out] at this)
      have hn1 : 1 ≤ n := by rw [← HM.out.gl]; exact HM.out.p.pos
      have hn2 : n ≤ 200 := by rw [← HM.out.gl]; exact HM.out.p.le
      have x2 : wr.cell? ⟨bx + 2, 2, none⟩ = some (.slice B m cb) := (HX2.out.cell 2).trans rfl
      have x0 : wr.cell? ⟨bx + 2, 0, none⟩ = some (.string mname) := (HX2.out.cell 0).trans rfl
      by_cases hm0 : m = 0
      · subst hm0
        have e1 : IntKind.i64.wrap ((n : Int) - 1) = (n : Int) - 1 := by rw [IntKind.wrap_i64]; omega
        have hon := HM.out.only ((n : Int) - 1)
        have hfi := made_fin hon.1 hon.2.2.1 hon.2.2.2.1 rfl hon.2.2.2.2 (.string mname) (.slice A n ca) (.slice (some ⟨wr.heap.size, 0, none⟩) 1 1)
        rw [HBX.out] at hon hfi
        obtain ⟨k0, k1, k2, k3, k4⟩ := hon
        have f2 : (wr.alloc (.cells [Value.int .i64 ((n : Int) - 1)].toArray 3)).frozen? ⟨bx + 2, 2, none⟩ = false := (HX2.out.alloc _).frozen 2
        have y2 := ((HX2.out.alloc (.cells [Value.int .i64 ((n : Int) - 1)].toArray 3)).cell 2).trans rfl
        have z0 := (k0.cell 0).trans rfl
        have z1 := (k0.cell 1).trans rfl
        have z2 := (k0.cell 2).trans rfl
        have q0 := k0.frozen 0
        have q1 := k0.frozen 1
        have q2 := k0.frozen 2
        have p0 := (k1.cell 0).trans rfl
        have p1 := (k1.cell 1).trans rfl
        have p2 := (k1.cell 2).trans rfl
        have hk3 := Lib.hid k3
        have r0 := Lib.hid (((((k0.set_ 0 (.string mname)).set_ 1 (.slice A n ca)).set_ 2 (.slice (some ⟨wr.heap.size, 0, none⟩) 1 1)).cell 0).trans rfl)
        have r1 := Lib.hid (((((k0.set_ 0 (.string mname)).set_ 1 (.slice A n ca)).set_ 2 (.slice (some ⟨wr.heap.size, 0, none⟩) 1 1)).cell 1).trans rfl)
        have r2 := Lib.hid (((((k0.set_ 0 (.string mname)).set_ 1 (.slice A n ca)).set_ 2 (.slice (some ⟨wr.heap.size, 0, none⟩) 1 1)).cell 2).trans rfl)
        have HFI := Lib.hid hfi
        clear hfi k0 k1 k2 k3 k4
        rcases hfork with ⟨h1, h2⟩ | h1
        all_goals
          go_wp2
          exact bodyPost_ret (v := .agg #[.string mname, .slice A n ca, .slice (some ⟨wr.heap.size, 0, none⟩) 1 1]) (by simp [results, Try.results26, go_sem, r0.out, r1.out, r2.out]) rfl ⟨gs, [(n : Int) - 1], A, some ⟨wr.heap.size, 0, none⟩, n, 1, ca, 1, rfl, HM.out.p.last (by rw [HM.out.gl]), HM.out.gl, rfl, HFI.out.1, HFI.out.2.1, by rw [HBX.out]; exact HFI.out.2.2⟩
      · have hm1 : ¬ (m : Int) = 0 := by omega
        have hm2 : ((m : Int) == 0) = false := by simp; omega
        have k0 : Blk wr bx 25 [.string ⟨#[]⟩, .slice none 0 0, .slice none 0 0] := by have := HM.out.z; rwa [HBX.out] at this
        have hfi := made_fin HM.out.z HM.out.g (by
          have := HM.out.o
          exact this) HM.out.ol HM.out.b (.string mname) (.slice A n ca) (.slice B m cb)
        rw [HBX.out] at hfi
        have x1 : wr.cell? ⟨bx + 2, 1, none⟩ = some (.slice A n ca) := (HX2.out.cell 1).trans rfl
        have z0 := (k0.cell 0).trans rfl
        have z1 := (k0.cell 1).trans rfl
        have z2 := (k0.cell 2).trans rfl
        have q0 := k0.frozen 0
        have q1 := k0.frozen 1
        have q2 := k0.frozen 2
        have r0 := Lib.hid (((((k0.set_ 0 (.string mname)).set_ 1 (.slice A n ca)).set_ 2 (.slice B m cb)).cell 0).trans rfl)
        have r1 := Lib.hid (((((k0.set_ 0 (.string mname)).set_ 1 (.slice A n ca)).set_ 2 (.slice B m cb)).cell 1).trans rfl)
        have r2 := Lib.hid (((((k0.set_ 0 (.string mname)).set_ 1 (.slice A n ca)).set_ 2 (.slice B m cb)).cell 2).trans rfl)
        have HFI := Lib.hid hfi
        clear hfi k0
        rcases hfork with ⟨h1, h2⟩ | h1
        all_goals
          go_wp2
          exact bodyPost_ret (v := .agg #[.string mname, .slice A n ca, .slice B m cb]) (by simp [results, Try.results26, go_sem, r0.out, r1.out, r2.out]) rfl ⟨gs, outs, A, B, n, m, ca, cb, rfl, HM.out.p.done, HM.out.gl, HM.out.ol, HFI.out.1, HFI.out.2.1, by rw [HBX.out]; exact HFI.out.2.2⟩

theorem outsP_made {c : Ct} (h : MadeC c) : OutsP c.gs.length c.outs := h.outs
/-- A list of truths, told by a step. -/
theorem row_lr {A : Option Addr} {c q : Nat} {xs : List Bool} (h : xs.length = q) : row1 4 (.slice A q c) (bools xs) = LR.row ⟨A, c, xs⟩ := by unfold LR.row LR.v; rw [h]
set_option maxRecDepth 100000 in
set_option maxHeartbeats 8000000 in
theorem means_any (I : List LR) (xs : List Int) (AC AS : Option Addr) (L N lc sc : Nat) (w : World) (hC : Reads w .i64 AC xs) (hL : xs.length = L) (hx : ∀ x ∈ xs, Big x) (hm : L ≤ 1000000000000000) (hI : CReads w AS (I.map LR.v)) (hr : ∀ r ∈ I, CReads w r.A (bools r.xs)) (hN : I.length = N) (hN1 : N * 24 ≤ 140737488355328) :
    Calls Try.prog 6 #[.slice AC L lc, .slice AS N sc] w fun e w' => e = .returned (.bool true) ∧ Below w.heap.size w w' := by
  have hmade := made_any AC L lc xs w hC hL hx hm
  unfold MadeR at hmade
  have HI := Lib.hid hI; have HR := Lib.hid hr; have HIN := Lib.hid hN
  clear hC hx hI hr hN hL
  go_enter Try.func6, Try.ntmps6
  go_upto_region 2 with (go_at_call 26; with_reducible refine hmade.mono ?_; rintro e w1 ⟨gs, outs, A, B, n, m, ca, cb, rfl, hM, hgl, hol, HA1, HO1, hb1⟩)
  change Code.wp _ _ _ _ (w1.alloc (.cells #[.string mname, .slice A n ca, .slice B m cb] 25))
  have hbl := below1 w1 (.cells #[.string mname, .slice A n ca, .slice B m cb] 25)
  have HX2 := Lib.hid (Blk.new w1 25 [.string mname, .slice A n ca, .slice B m cb])
  have HA2 := Lib.hid (HA1.out.below hbl)
  have HO2 := Lib.hid (HO1.out.below hbl)
  have HB2 := Lib.hid (below_then hb1 hb1.size hbl)
  have HMC := Lib.hid hM; have HGL := Lib.hid hgl; have HOL := Lib.hid hol
  have hn200 : n ≤ 200 := by rw [← hgl]; exact hM.le
  have hm200 : m ≤ 200 := by rw [← hol]; exact hM.ol
  clear hmade hbl HA1 HO1 hb1 hM hgl hol
  generalize w1.alloc (.cells #[.string mname, .slice A n ca, .slice B m cb] 25) = W2 at *
  obtain ⟨bc, hbc⟩ : ∃ bc, w1.heap.size = bc := ⟨_, rfl⟩
  rw [hbc] at HX2 ⊢
  clear hbc
  have HSZ : Hid (SizeP ⟨mname, gs, outs⟩) := Lib.hid ⟨by show (4 : Nat) ≤ maxLen; decide, fun g hg => by
    obtain ⟨k, hk⟩ := List.getElem?_of_mem hg
    rw [(HMC.out.lines k g hk).1]
    have h1 := (nameAt_ok (k := k) (by have := (List.getElem?_eq_some_iff.1 hk).1; have := HMC.out.le; dsimp only at *; omega)).2.1
    unfold maxLen
    omega, by have := HMC.out.le; dsimp only at *; unfold maxLen; omega, by have := HMC.out.ol; dsimp only at *; unfold maxLen; omega⟩
  have HFP := Lib.hid HMC.out.formed
  obtain ⟨q1, hq1⟩ : ∃ q, cntK gs 1 n = q := ⟨_, rfl⟩
  obtain ⟨q3, hq3⟩ : ∃ q, cntK gs 3 n = q := ⟨_, rfl⟩
  have hq3n : q3 ≤ 200 := by rw [← hq3]; exact Nat.le_trans (cntK_le _ _ _) hn200
  have hq1n : q1 ≤ 200 := by rw [← hq1]; exact Nat.le_trans (cntK_le _ _ _) hn200
  have hc1 : Calls Try.prog 27 #[.agg #[.string mname, .slice A n ca, .slice B m cb], .int .i64 1] W2 fun e w' => e = .returned (.int .i64 q1) ∧ Below W2.heap.size W2 w' := by
    have := lcount_any gs 1 mname A B n m ca cb W2 HA2.out HGL.out (by omega)
    rwa [hq1] at this
  have hc3 : ∀ W, Below W2.heap.size W2 W → Calls Try.prog 27 #[.agg #[.string mname, .slice A n ca, .slice B m cb], .int .i64 3] W fun e w' => e = .returned (.int .i64 q3) ∧ Below W.heap.size W w' := fun W hW => by
    have := lcount_any gs 3 mname A B n m ca cb W (HA2.out.below hW) HGL.out (by omega)
    rwa [hq3] at this
  have HC3 := Lib.hid hc3
  have HKT : Hid (∀ W, Below W2.heap.size W2 W → W.cell? ⟨bc, 0, none⟩ = some (.string mname) ∧ W.cell? ⟨bc, 1, none⟩ = some (.slice A n ca) ∧ W.cell? ⟨bc, 2, none⟩ = some (.slice B m cb)) := Lib.hid fun W hW => ⟨((HX2.out.self hW).cell 0).trans rfl, ((HX2.out.self hW).cell 1).trans rfl, ((HX2.out.self hW).cell 2).trans rfl⟩
  have HQ1 := Lib.hid hq1; have HQ3 := Lib.hid hq3
  clear hc3 hq1 hq3
  obtain ⟨x0, x1, x2⟩ := HKT.out W2 (Below.refl _ _)
  go_upto_region 3 with (go_at_call 27; with_reducible refine hc1.mono ?_; rintro e w3 ⟨rfl, hb3⟩)
  have HB3 := Lib.hid hb3
  have hc3 := HC3.out w3 hb3
  clear hc1 hb3 x0 x1 x2
  obtain ⟨x0, x1, x2⟩ := HKT.out w3 HB3.out
  go_upto_region 4 with (go_at_call 27; with_reducible refine hc3.mono ?_; rintro e w4 ⟨rfl, hb4⟩)
  have HB4 := Lib.hid (below_self HB3.out hb4)
  clear hc3 hb4 x0 x1 x2 HB3 HC3
  have hf : Calls Try.prog 16 #[.agg #[.string mname, .slice A n ca, .slice B m cb]] w4 fun e w' => ∃ A1 c1, e = .returned (.tuple #[.slice A1 q3 c1, .int .i64 0]) ∧ Hid (CReads w' A1 (bools (firstL ⟨mname, gs, outs⟩))) ∧ Below w4.heap.size w4 w' := by
    refine (first_any ⟨mname, gs, outs⟩ A B n m ca cb w4 (HA2.out.below HB4.out) (HO2.out.below HB4.out) HSZ.out HGL.out HOL.out).mono ?_
    rintro e w' ⟨A1, c1, rfl, ho, hb⟩
    have e1 : firstO ⟨mname, gs, outs⟩ = firstL ⟨mname, gs, outs⟩ := by unfold firstO; rw [if_pos HFP.out]
    have e2 : firstCode ⟨mname, gs, outs⟩ = 0 := by unfold firstCode; rw [if_pos HFP.out]
    have e3 : (firstL ⟨mname, gs, outs⟩).length = q3 := by
      have := latAt_len ⟨mname, gs, outs⟩ [] 0
      rw [show latAt ⟨mname, gs, outs⟩ [] 0 = firstL ⟨mname, gs, outs⟩ from rfl] at this
      rw [this]
      dsimp only
      rw [HGL.out]; exact HQ3.out
    rw [e1, e3] at ho ⊢
    rw [e2]
    exact ⟨A1, c1, rfl, Lib.hid (owns_read ho.out e3), hb⟩
  obtain ⟨x0, x1, x2⟩ := HKT.out w4 HB4.out
  go_upto_region 9 with (go_at_call 16; with_reducible refine hf.mono ?_; rintro e w5 ⟨Al, cl, rfl, HL5, hb5⟩)
  have HB5 := Lib.hid (below_self HB4.out hb5)
  clear hf hb5 x0 x1 x2 HB4
  have HBW5 := Lib.hid (below_self HB2.out HB5.out)
  have HV0 : Hid (VH w5 w5.heap.size (.slice none 0 0) []) := Lib.hid (VH.start _ _)
  have HG0 : Hid (∀ r ∈ ([] : List LR), r.xs.length = q1) := Lib.hid (fun r h => by simp at h)
  have HW0 := Lib.hid (Below.refl w5.heap.size w5)
  go_loopw [10, 11] (fun s10 s11 wr => ∃ (k : Nat) (G : List LR), k ≤ N ∧ s11 = .int .i64 k ∧ G.length = k ∧ Hid (∀ r ∈ G, r.xs.length = q1) ∧ Hid (VH wr w5.heap.size s10 G) ∧ Hid (Below w5.heap.size w5 wr)) (fun _ s11 _ => N - (intOf s11).toNat)
  case atStart => exact ⟨0, [], by omega, rfl, rfl, HG0, HV0, HW0⟩
  case round =>
    clear HV0 HG0 HW0
    obtain ⟨k, G, hk, rfl, hGk, HG, HV, HB⟩ := hrel
    by_cases hlt : k < N
    · obtain ⟨r, hr⟩ : ∃ r, I[k]? = some r := ⟨_, List.getElem?_eq_getElem (by rw [HIN.out]; exact hlt)⟩
      have HBX := below_self HBW5.out HB.out
      obtain ⟨ib, io, rfl, l1⟩ := (HI.out.below HBX).at_ (x := r.v) (by rw [List.getElem?_map, hr]; rfl)
      unfold LR.v at l1
      obtain ⟨q, hq⟩ : ∃ q, r.xs.length = q := ⟨_, rfl⟩
      rw [hq] at l1
      have hc := fit_any r.A q r.c r.xs q1 wr ((HR.out r (List.mem_of_getElem? hr)).below HBX) hq (by omega)
      have hGl : (G.map LR.v).length = k := by rw [List.length_map]; exact hGk
      have hk0 : (0 : Int) ≤ (k : Int) := by omega
      have hkN : (k : Int) < (N : Int) := by omega
      clear hr hq HBX
      go_upto_region 10 with (first
        | ((go_at_call 28; with_reducible refine hc.mono ?_; rintro e w6 ⟨g6, rfl, ys, HYL, HO6, hb6⟩; have hgs := given_step HV.out hb6 HB.out.size HYL.out HO6.out; have HGS := Lib.hid hgs; have HVO := Lib.hid hgs.2.1; have HB6 := Lib.hid (below_self HB.out hb6); have HB7 := Lib.hid (HB6.out.alloc HB6.out.size (.cells [Value.slice (some ⟨g6, 0, none⟩) q1 q1].toArray 35)); clear hgs hc hb6 l1))
        | ((at_builtin; refine wpList_push2 rfl _ _ 43 rfl w5.heap.size 35 _ 24 Try.underlying43 info_bools rfl u10 _ rfl HVO.out ⟨w6.heap.size, 0, none⟩ (.slice (some ⟨g6, 0, none⟩) q1 q1) rfl (by simp [go_sem]) rfl (by rw [hGl]; unfold maxLen; omega) (by rw [hGl]; omega) (by exact HB7.out.size) ?_; intro v8 w8 hown8 hg8 hb8)))
      rw [← HGS.out.2.2.2] at hown8
      have HV8 := Lib.hid (VH.push HGS.out.1 hown8 hg8 hb8)
      have HB8 := Lib.hid (HB7.out.grown hg8 HB7.out.size (fun g e => (HVO.out.lt e).1))
      have HG8 : Hid (∀ r ∈ G ++ [(⟨some ⟨g6, 0, none⟩, q1, ys⟩ : LR)], r.xs.length = q1) := Lib.hid (fun r hr => by
        rcases List.mem_append.1 hr with hr | hr
        · exact HG.out r hr
        · simp at hr; subst hr; exact HYL.out)
      have hGk8 : (G ++ [(⟨some ⟨g6, 0, none⟩, q1, ys⟩ : LR)]).length = k + 1 := by rw [List.length_append, hGk]; rfl
      clear hown8 hg8 hb8 HGS HVO HB6 HB7 HO6 HYL hGl HG HV HB
      go_wp2
      go_roundw
      case rel => exact ⟨k + 1, _, by omega, by go_num, hGk8, HG8, HV8, HB8⟩
      case measure => simp [intOf]; omega
    · obtain rfl : k = N := by omega
      obtain ⟨Ag, cg, hvg⟩ := HV.out.vec.form
      rw [List.length_map, hGk] at hvg
      subst hvg
      obtain ⟨inss, hinss⟩ : ∃ inss, G.map LR.xs = inss := ⟨_, rfl⟩
      have hil : inss.length = k := by rw [← hinss, List.length_map]; exact hGk
      have hrc : runCode ⟨mname, gs, outs⟩ inss = 0 := runCode_ok HFP.out fun x hx => by
        rw [← hinss] at hx
        obtain ⟨r, hr, rfl⟩ := List.mem_map.1 hx
        rw [HG.out r hr]
        dsimp only
        rw [HGL.out]; exact HQ1.out.symm
      have hro : runO ⟨mname, gs, outs⟩ inss = runK ⟨mname, gs, outs⟩ inss k := by unfold runO; rw [hrc, if_pos rfl, hil]
      have hb2 := below_self HB5.out HB.out
      have hrun : Calls Try.prog 23 #[.agg #[.string mname, .slice A n ca, .slice B m cb], .slice Ag k cg] wr fun e w' => ∃ (R : List LR) (A5 : Option Addr) (c5 : Nat), e = .returned (.tuple #[.slice A5 k c5, .int .i64 0]) ∧ Hid (R.map LR.xs = runK ⟨mname, gs, outs⟩ inss k) ∧ Hid (VH w' wr.heap.size (.slice A5 k c5) R) ∧ Below wr.heap.size wr w' := by
        refine (Run_any ⟨mname, gs, outs⟩ G A B Ag n m k ca cb cg wr (HA2.out.below hb2) (HO2.out.below hb2) (HV.out.list hGk) HV.out.rows HSZ.out HGL.out HOL.out hGk hN1).mono ?_
        intro e w' h
        rw [hinss] at h
        obtain ⟨R, A5, c5, he, hx, hh, hb⟩ := h.n hro hrc (runK_length _ _ _)
        exact ⟨R, A5, c5, he, hx, hh, hb⟩
      have HBk := Lib.hid hb2
      have HIN2 := Lib.hid hinss
      have HGK := Lib.hid hGk
      obtain ⟨x0, x1, x2⟩ := HKT.out wr hb2
      clear hb2 hrc hro hil hinss hGk hlt hk
      rename World => w6
      go_upto_region 16 with (go_at_call 23; with_reducible refine hrun.mono ?_; rintro e w7 ⟨R, A5, c5, rfl, HX7, HV7, hb7⟩)
      have HG7 := Lib.hid (HV.out.below hb7)
      have HB67 := Lib.hid (below_self HB.out hb7)
      have HB27 := Lib.hid (below_self HBk.out hb7)
      have HL7 := Lib.hid (HL5.out.below HB67.out)
      have HA7 := Lib.hid (HA2.out.below HB27.out)
      have HO7 := Lib.hid (HO2.out.below HB27.out)
      have HBW7 := Lib.hid (below_self HBW5.out HB67.out)
      have HKT7 : Hid (∀ W, Below w7.heap.size w7 W → W.cell? ⟨bc, 0, none⟩ = some (.string mname) ∧ W.cell? ⟨bc, 1, none⟩ = some (.slice A n ca) ∧ W.cell? ⟨bc, 2, none⟩ = some (.slice B m cb)) := Lib.hid fun W hW => HKT.out W (below_self HB27.out hW)
      have HW0 := Lib.hid (Below.refl w7.heap.size w7)
      have HL0 : Hid (CReads w7 Al (bools (latAt ⟨mname, gs, outs⟩ inss 0))) := HL7
      clear hrun hb7 x0 x1 x2 HV HB HB5 HBW5 HBk HB67 HL7 HL5 HA2 HO2 HX2 HB2 HB27
      go_loopw [8, 13] (fun s8 s13 wr => ∃ (j : Nat) (Aj : Option Addr) (cj : Nat), j ≤ k ∧ s13 = .int .i64 j ∧ s8 = .slice Aj q3 cj ∧ Hid (CReads wr Aj (bools (latAt ⟨mname, gs, outs⟩ inss j))) ∧ Hid (Below w7.heap.size w7 wr)) (fun _ s13 _ => k - (intOf s13).toNat)
      case atStart => exact ⟨0, Al, cl, by omega, rfl, rfl, HL0, HW0⟩
      case round =>
        clear HL0 HW0
        obtain ⟨j, Aj, cj, hj, rfl, rfl, HLJ, HB⟩ := hrel
        by_cases hlt : j < k
        · obtain ⟨r, hr⟩ : ∃ r, G[j]? = some r := ⟨_, List.getElem?_eq_getElem (by rw [HGK.out]; exact hlt)⟩
          have hRl : R.length = k := by have := congrArg List.length HX7.out; rwa [List.length_map, runK_length] at this
          obtain ⟨rr, hrr⟩ : ∃ r, R[j]? = some r := ⟨_, List.getElem?_eq_getElem (by rw [hRl]; exact hlt)⟩
          have hxl := HG.out r (List.mem_of_getElem? hr)
          have hg : inss.getD j [] = r.xs := by rw [← HIN2.out, List.getD_eq_getElem?_getD, List.getElem?_map, hr]; rfl
          have hrx : rr.xs = outAt ⟨mname, gs, outs⟩ inss j := by
            have h1 := congrArg (fun (l : List (List Bool)) => l[j]?) HX7.out
            simp only [List.getElem?_map, hrr, runK, Option.map_some] at h1
            rw [List.getElem?_range hlt] at h1
            simpa using h1
          have hol : (outAt ⟨mname, gs, outs⟩ inss j).length = m := (outAt_len _ _ _).trans HOL.out
          have hll : ∀ i, (latAt ⟨mname, gs, outs⟩ inss i).length = q3 := fun i => by rw [latAt_len]; dsimp only; rw [HGL.out]; exact HQ3.out
          obtain ⟨gb, go', hvA, l1⟩ := (HG7.out.list HGK.out).at_ (x := r.v) (by rw [List.getElem?_map, hr]; rfl)
          subst hvA
          obtain ⟨rb, ro, hvA, l2⟩ := (HV7.out.list hRl).at_ (x := rr.v) (by rw [List.getElem?_map, hrr]; rfl)
          subst hvA
          have hvr : r.v = .slice r.A q1 r.c := by unfold LR.v; rw [hxl]
          have hvrr : rr.v = .slice rr.A m rr.c := by unfold LR.v; rw [hrx, hol]
          rw [hvr] at l1
          rw [hvrr] at l2
          have HKI : Hid (∀ W, Below w7.heap.size w7 W → W.cell? ⟨gb, go' + j, none⟩ = some (.slice r.A q1 r.c) ∧ W.cell? ⟨rb, ro + j, none⟩ = some (.slice rr.A m rr.c)) := Lib.hid fun W hW => ⟨cell_kept hW l1, cell_kept hW l2⟩
          have HRR : Hid (CReads w7 rr.A (bools (outAt ⟨mname, gs, outs⟩ inss j))) := Lib.hid (by rw [← hrx]; exact HV7.out.rows rr (List.mem_of_getElem? hrr))
          have hrd := HG7.out.rows r (List.mem_of_getElem? hr)
          obtain ⟨las, hlas⟩ : ∃ l, latAt ⟨mname, gs, outs⟩ inss j = l := ⟨_, rfl⟩
          have hlq : las.length = q3 := by rw [← hlas]; exact hll j
          obtain ⟨v, hv⟩ : ∃ v, theV gs r.xs las = v := ⟨_, rfl⟩
          have hvl : v.length = n := by
            have := vL_the (ins := r.xs) (las := las) HMC.out
            dsimp only at this
            rw [← hv, ← this, vL_len]; exact HGL.out
          have hvals : Calls Try.prog 29 #[.agg #[.string mname, .slice A n ca, .slice B m cb], .slice r.A q1 r.c, .slice Aj q3 cj] wr.drew fun e w' => ∃ A' c', e = .returned (.slice A' n c') ∧ Hid (CReads w' A' (bools v)) ∧ Below wr.drew.heap.size wr.drew w' := by
            have hD := below_drew0 HB.out
            refine (lvalues_any ⟨mname, gs, outs⟩ HMC.out r.xs las A B r.A Aj n m q1 q3 ca cb r.c cj wr.drew (HA7.out.below hD) (hrd.below hD) (by rw [← hlas]; exact HLJ.out) HGL.out hxl hlq HQ1.out.symm HQ3.out.symm).mono ?_
            rintro e w' ⟨A', c', rfl, ho, hb⟩
            dsimp only at ho
            rw [hv] at ho
            exact ⟨A', c', rfl, Lib.hid (owns_read ho.out hvl), hb⟩
          have hok : outK v outs m = outAt ⟨mname, gs, outs⟩ inss j := by
            have := outK_eq (c := ⟨mname, gs, outs⟩) (ins := r.xs) (las := las) (m := m) HOL.out
            dsimp only at this
            rw [hv] at this
            rw [this]; unfold outAt; rw [hg, hlas]
          have hlk : latK (fun g => v.getD g.a.toNat false) gs n = latAt ⟨mname, gs, outs⟩ inss (j + 1) := by
            have := latK_eq (c := ⟨mname, gs, outs⟩) (ins := r.xs) (las := las) (n := n) HGL.out
            dsimp only at this
            rw [hv] at this
            rw [this]
            show _ = nextL _ (inss.getD j []) (latAt ⟨mname, gs, outs⟩ inss j)
            rw [hg, hlas]
          have hsc : stepCode ⟨mname, gs, outs⟩ r.xs.length las.length = 0 := by
            unfold stepCode
            rw [if_pos HFP.out, if_pos ⟨by dsimp only; rw [HGL.out, HQ1.out]; exact hxl, by dsimp only; rw [HGL.out, HQ3.out]; exact hlq⟩]
          have hso : stepO ⟨mname, gs, outs⟩ r.xs las = outAt ⟨mname, gs, outs⟩ inss j := by unfold stepO; rw [hsc, if_pos rfl]; unfold outAt; rw [hg, hlas]
          have hsn : stepN ⟨mname, gs, outs⟩ r.xs las = latAt ⟨mname, gs, outs⟩ inss (j + 1) := by
            unfold stepN; rw [hsc, if_pos rfl]
            show _ = nextL _ (inss.getD j []) (latAt ⟨mname, gs, outs⟩ inss j)
            rw [hg, hlas]
          have hstep : ∀ W, Below wr.heap.size wr W → Calls Try.prog 14 #[.agg #[.string mname, .slice A n ca, .slice B m cb], .slice r.A q1 r.c, .slice Aj q3 cj] W fun e w' => ∃ A1 c1 A2 c2, e = .returned (.tuple #[.slice A1 m c1, .slice A2 q3 c2, .int .i64 0]) ∧ Hid (CReads w' A1 (bools (outAt ⟨mname, gs, outs⟩ inss j))) ∧ Hid (CReads w' A2 (bools (latAt ⟨mname, gs, outs⟩ inss (j + 1)))) ∧ Below W.heap.size W w' := by
            intro W hW
            have hD := below_self HB.out hW
            refine (Step_any ⟨mname, gs, outs⟩ r.xs las A B r.A Aj n m q1 q3 ca cb r.c cj W (HA7.out.below hD) (HO7.out.below hD) (hrd.below hD) (by rw [← hlas]; exact HLJ.out.below hW) HSZ.out HGL.out HOL.out hxl hlq).mono ?_
            intro e w' h
            obtain ⟨A1, c1, A2, c2, he, hh, hb⟩ := h.n hso hsn hsc hol (hll (j + 1))
            exact ⟨A1, c1, A2, c2, he, Lib.hid (owns_read (hh.out.owns (i := 0) rfl) hol), Lib.hid (owns_read (hh.out.owns (i := 1) rfl) (hll (j + 1))), hb⟩
          have HSTEP := Lib.hid hstep
          have HOK := Lib.hid hok; have HLK := Lib.hid hlk; have HVL := Lib.hid hvl; have HOLJ := Lib.hid hol; have HLLJ := Lib.hid (hll (j + 1))
          have hj0 : (0 : Int) ≤ (j : Int) := by omega
          have hjk : (j : Int) < (k : Int) := by omega
          have HD := Lib.hid (below_drew0 HB.out)
          have HD2 := Lib.hid (below_drew0 (Below.refl wr.heap.size wr))
          clear hstep hok hlk hvl hol hll hsc hso hsn hv hlas hlq hrd hrx hg hxl hvr hvrr hr hrr hRl l1 l2
          go_upto_region 18 with (fail)
          go_region_held3 (fun w' => w'.cell? ⟨bc, 0, none⟩ = some (.string mname) ∧ w'.cell? ⟨bc, 1, none⟩ = some (.slice A n ca) ∧ w'.cell? ⟨bc, 2, none⟩ = some (.slice B m cb) ∧ w'.cell? ⟨gb, go' + j, none⟩ = some (.slice r.A q1 r.c))
            (first | exact ⟨(HKT7.out _ HD.out).1, (HKT7.out _ HD.out).2.1, (HKT7.out _ HD.out).2.2, (HKI.out _ HD.out).1⟩ | exact ⟨(HKT7.out _ HB8.out).1, (HKT7.out _ HB8.out).2.1, (HKT7.out _ HB8.out).2.2, (HKI.out _ HB8.out).1⟩)
            (first
              | ((go_at_call 29; with_reducible refine hvals.mono ?_; rintro e w8 ⟨Av, cv, rfl, HV8, hb8⟩; have HB8 := Lib.hid (below_self HD.out hb8); have HB28 := Lib.hid (below_self HD2.out hb8))))
          clear hvals hb8 HD HD2
          have HO0 : Hid (Owns w8 w8.heap.size 4 (.slice none 0 0) (bools (outK v outs 0))) := Lib.hid (by
            have : outK v outs 0 = [] := by simp [outK]
            rw [this]; exact owns_nil _ _ _)
          have HW8 := Lib.hid (Below.refl w8.heap.size w8)
          go_upto_region 22 with (fail)
          go_loopw [15, 17] (fun s15 s17 wq => ∃ t : Nat, t ≤ m ∧ s17 = .int .i64 t ∧ Hid (Owns wq w8.heap.size 4 s15 (bools (outK v outs t))) ∧ Hid (Below w8.heap.size w8 wq)) (fun _ s17 _ => m - (intOf s17).toNat)
          case atStart => exact ⟨0, by omega, rfl, HO0, HW8⟩
          case round =>
            clear HO0 HW8
            obtain ⟨t, ht, rfl, HO, HBI⟩ := hrel
            have hb7 := below_self HB8.out HBI.out
            have x2 : wr.cell? ⟨bc, 2, none⟩ = some (.slice B m cb) := (HKT7.out _ hb7).2.2
            by_cases hlt2 : t < m
            · obtain ⟨p, hp⟩ : ∃ p, outs[t]? = some p := ⟨_, List.getElem?_eq_getElem (by rw [HOL.out]; exact hlt2)⟩
              obtain ⟨hp0, hpn⟩ := HMC.out.outs p (List.mem_of_getElem? hp)
              dsimp only at hpn
              rw [HGL.out] at hpn
              obtain ⟨pn, rfl⟩ : ∃ pn : Nat, p = (pn : Int) := ⟨p.toNat, by omega⟩
              obtain ⟨x, hx⟩ : ∃ x, v[pn]? = some x := ⟨_, List.getElem?_eq_getElem (by rw [HVL.out]; omega)⟩
              have hF : outK v outs (t + 1) = outK v outs t ++ [x] := by
                rw [outK_succ hp]
                simp only [Int.toNat_natCast, List.getD_eq_getElem?_getD, hx]
                rfl
              obtain ⟨ob, oo, hbe, q1'⟩ := (HO7.out.below hb7).at_ hp
              subst hbe
              obtain ⟨vb, vo, hve, q2'⟩ := bat (HV8.out.below HBI.out) hx
              subst hve
              have ht0 : (0 : Int) ≤ (t : Int) := by omega
              have htm : (t : Int) < (m : Int) := by omega
              have hbl := below1 wr (.cells [Value.bool x].toArray 4)
              have HO1 := Lib.hid (HO.out.below hbl)
              have HB1 := Lib.hid (HBI.out.alloc HBI.out.size (.cells [Value.bool x].toArray 4))
              have hlen := outK_len v outs t
              have hull : (bools (outK v outs t)).length + 1 ≤ 65537 := by rw [bools_length]; omega
              have HFF := Lib.hid hF
              clear hp hx hF hlen hbl hb7
              go_upto_region 23 with (at_builtin; refine wpList_push2 rfl _ _ 35 rfl w8.heap.size 4 _ 1 Try.underlying35 info_bool rfl u15 _ rfl HO1.out ⟨wr.heap.size, 0, none⟩ (.bool x) rfl (by simp [go_sem]) rfl (by unfold maxLen; omega) (by omega) (by exact HB1.out.size) ?_; intro v5 w9 hown5 hg5 hb5)
              rw [bools_snoc, ← HFF.out] at hown5
              have HO5 := Lib.hid hown5
              have HB5 := Lib.hid (HB1.out.grown hg5 HB1.out.size (fun g e => (HO1.out.lt e).1))
              clear HO HBI HO1 HB1 hull q1' q2' x2 hown5 hg5 hb5 HFF
              go_wp2
              go_roundw
              case rel => exact ⟨t + 1, by omega, by go_num, HO5, HB5⟩
              case measure => simp [intOf]; omega
            · obtain rfl : t = m := by omega
              obtain ⟨Ao, co, hvo⟩ := HO.out.form
              rw [bools_length, HOK.out, HOLJ.out] at hvo
              subst hvo
              have HOR : Hid (CReads wr Ao (bools (outAt ⟨mname, gs, outs⟩ inss j))) := Lib.hid (by
                have := HO.out
                rw [HOK.out] at this
                exact owns_read this HOLJ.out)
              have HB9 := Lib.hid hb7
              have HB29 := Lib.hid (below_self HB28.out HBI.out)
              have HV9 := Lib.hid (HV8.out.below HBI.out)
              go_upto_region 26 with (fail)
              clear HO HBI hb7 x2 HB8 HB28 HV8 ht hlt2
              rename World => w9
              have HN0 : Hid (Owns w9 w9.heap.size 4 (.slice none 0 0) (bools (latK (fun g => v.getD g.a.toNat false) gs 0))) := Lib.hid (by
                have : latK (fun g => v.getD g.a.toNat false) gs 0 = [] := by simp [latK]
                rw [this]; exact owns_nil _ _ _)
              have HW9 := Lib.hid (Below.refl w9.heap.size w9)
              go_loopw [16, 18] (fun s16 s18 wq => ∃ y : Nat, y ≤ n ∧ s18 = .int .i64 y ∧ Hid (Owns wq w9.heap.size 4 s16 (bools (latK (fun g => v.getD g.a.toNat false) gs y))) ∧ Hid (Below w9.heap.size w9 wq)) (fun _ s18 _ => n - (intOf s18).toNat)
              case atStart => exact ⟨0, by omega, rfl, HN0, HW9⟩
              case round =>
                clear HN0 HW9
                obtain ⟨y, hy, rfl, HN1', HBI⟩ := hrel
                have hb7 := below_self HB9.out HBI.out
                have x1 : wr.cell? ⟨bc, 1, none⟩ = some (.slice A n ca) := (HKT7.out _ hb7).2.1
                by_cases hlt2 : y < n
                · obtain ⟨g, hg⟩ : ∃ g, gs[y]? = some g := ⟨_, List.getElem?_eq_getElem (by rw [HGL.out]; exact hlt2)⟩
                  obtain ⟨ab, ao, hae, hc⟩ := greads_at (HA7.out.below hb7) hg
                  subst hae
                  obtain ⟨c0, c1, c2, c3, c4, c5'⟩ := hc
                  have HGG := Lib.hid hg
                  have hfl := (HMC.out.lines y g hg).2.p (n := n) (by omega)
                  obtain ⟨kd, nm, op, a, b, cx⟩ := g
                  dsimp only at *
                  have hy0 : (0 : Int) ≤ (y : Int) := by omega
                  have hyn : (y : Int) < (n : Int) := by omega
                  clear hg c1 c2 c4 c5' hb7
                  by_cases he : kd = 3
                  · have hF := latK_yes (f := fun g => v.getD g.a.toNat false) HGG.out he
                    have hfa : 0 ≤ a ∧ a < (n : Int) := by
                      unfold FieldsP PlaceP at hfl
                      dsimp only at hfl
                      omega
                    obtain ⟨ha0, han⟩ := hfa
                    obtain ⟨pn, rfl⟩ : ∃ pn : Nat, a = (pn : Int) := ⟨a.toNat, by omega⟩
                    obtain ⟨x, hx⟩ : ∃ x, v[pn]? = some x := ⟨_, List.getElem?_eq_getElem (by rw [HVL.out]; omega)⟩
                    have hfx : v.getD (⟨kd, nm, op, (pn : Int), b, cx⟩ : Gt).a.toNat false = x := by
                      simp only [Int.toNat_natCast, List.getD_eq_getElem?_getD, hx]
                      rfl
                    rw [hfx] at hF
                    obtain ⟨vb, vf, hve, q2'⟩ := bat (HV9.out.below HBI.out) hx
                    subst hve
                    subst he
                    have HF2 := Lib.hid hF
                    have hbl := below1 wr (.cells [Value.bool x].toArray 4)
                    have HN2 := Lib.hid (HN1'.out.below hbl)
                    have HB1 := Lib.hid (HBI.out.alloc HBI.out.size (.cells [Value.bool x].toArray 4))
                    have hlen := latK_len (fun g => v.getD g.a.toNat false) gs y
                    have hull : (bools (latK (fun g => v.getD g.a.toNat false) gs y)).length + 1 ≤ 65537 := by rw [bools_length]; omega
                    clear hF hlen hx hfx hfl hbl
                    go_upto_region 27 with (at_builtin; refine wpList_push2 rfl _ _ 35 rfl w9.heap.size 4 _ 1 Try.underlying35 info_bool rfl u16 _ rfl HN2.out ⟨wr.heap.size, 0, none⟩ (.bool x) rfl (by simp [go_sem]) rfl (by unfold maxLen; omega) (by omega) (by exact HB1.out.size) ?_; intro v5 w10 hown5 hg5 hb5)
                    rw [bools_snoc, ← HF2.out] at hown5
                    have HN5 := Lib.hid hown5
                    have HB5 := Lib.hid (HB1.out.grown hg5 HB1.out.size (fun g e => (HN2.out.lt e).1))
                    clear HN1' HBI HN2 HB1 hull c0 c3 q2' x1 hown5 hg5 hb5
                    go_wp2
                    go_roundw
                    case rel => exact ⟨y + 1, by omega, by go_num, HN5, HB5⟩
                    case measure => simp [intOf]; omega
                  · have HNn : Hid (Owns wr w9.heap.size 4 u16 (bools (latK (fun g => v.getD g.a.toNat false) gs (y + 1)))) := Lib.hid (by rw [latK_no HGG.out he]; exact HN1'.out)
                    have he2 : (kd == 3) = false := by simp; omega
                    clear HN1' hfl c3
                    go_wp2
                    go_roundw
                    case rel => exact ⟨y + 1, by omega, by go_num, HNn, HBI⟩
                    case measure => simp [intOf]; omega
                · obtain rfl : y = n := by omega
                  obtain ⟨An, cn, hvn⟩ := HN1'.out.form
                  rw [bools_length, HLK.out, HLLJ.out] at hvn
                  subst hvn
                  have HNR : Hid (CReads wr An (bools (latAt ⟨mname, gs, outs⟩ inss (j + 1)))) := Lib.hid (by
                    have := HN1'.out
                    rw [HLK.out] at this
                    exact owns_read this HLLJ.out)
                  have HB10 := Lib.hid hb7
                  have HOR10 := Lib.hid (HOR.out.below HBI.out)
                  have hst := HSTEP.out wr.drew (below_drew0 (below_self HB29.out HBI.out))
                  have HD := Lib.hid (below_drew0 hb7)
                  have HD2 := Lib.hid (below_drew0 (Below.refl wr.heap.size wr))
                  go_upto_region 30 with (fail)
                  clear HN1' HBI hb7 x1 HB9 HB29 HV9 HOR HSTEP hlt2 hy
                  go_region_held3 (fun w' => w'.cell? ⟨bc, 0, none⟩ = some (.string mname) ∧ w'.cell? ⟨bc, 1, none⟩ = some (.slice A y ca) ∧ w'.cell? ⟨bc, 2, none⟩ = some (.slice B t cb) ∧ w'.cell? ⟨gb, go' + j, none⟩ = some (.slice r.A q1 r.c))
                    (first | exact ⟨(HKT7.out _ HD.out).1, (HKT7.out _ HD.out).2.1, (HKT7.out _ HD.out).2.2, (HKI.out _ HD.out).1⟩ | exact ⟨(HKT7.out _ HB11.out).1, (HKT7.out _ HB11.out).2.1, (HKT7.out _ HB11.out).2.2, (HKI.out _ HB11.out).1⟩)
                    (first
                      | ((go_at_call 14; with_reducible refine hst.mono ?_; rintro e w11 ⟨A1, c1, A2, c2, rfl, HR1, HR2, hb11⟩; have HB11 := Lib.hid (below_self HD.out hb11); have HB12 := Lib.hid (below_self HD2.out hb11))))
                  have HOR11 := Lib.hid (HOR10.out.below HB12.out)
                  have HNR11 := Lib.hid (HNR.out.below HB12.out)
                  have HRR11 := Lib.hid (HRR.out.below HB11.out)
                  have hol2 := HOLJ.out
                  have hll2 := HLLJ.out
                  have t1 : Calls Try.prog 18 #[.slice A1 t c1, .slice Ao t co] w11 fun e w' => e = .returned (.bool true) ∧ Below w11.heap.size w11 w' := truths_same A1 Ao t c1 co _ w11 HR1.out HOR11.out hol2 (by omega)
                  have t2 : Hid (∀ W, Below w11.heap.size w11 W → Calls Try.prog 18 #[.slice A2 q3 c2, .slice An q3 cn] W fun e w' => e = .returned (.bool true) ∧ Below W.heap.size W w') := Lib.hid fun W hW => truths_same A2 An q3 c2 cn _ W (HR2.out.below hW) (HNR11.out.below hW) hll2 (by omega)
                  have t3 : Hid (∀ W, Below w11.heap.size w11 W → Calls Try.prog 18 #[.slice rr.A t rr.c, .slice Ao t co] W fun e w' => e = .returned (.bool true) ∧ Below W.heap.size W w') := Lib.hid fun W hW => truths_same rr.A Ao t rr.c co _ W (HRR11.out.below hW) (HOR11.out.below hW) hol2 (by omega)
                  clear hst hb11 HD HD2 HOR10 HB12 hol2 hll2
                  go_upto_region 17 with (first
                    | ((go_at_call 18; with_reducible refine t1.mono ?_; rintro e w12 ⟨rfl, hb12⟩; have Z1 := Lib.hid hb12; clear hb12))
                    | ((go_at_call 18; with_reducible refine (t2.out _ Z1.out).mono ?_; rintro e w13 ⟨rfl, hb13⟩; have Z2 := Lib.hid (below_self Z1.out hb13); clear hb13; have l3 := (HKI.out _ (below_self HB11.out Z2.out)).2))
                    | ((go_at_call 18; with_reducible refine (t3.out _ Z2.out).mono ?_; rintro e w14 ⟨rfl, hb14⟩; have Z3 := Lib.hid (below_self Z2.out hb14); clear hb14 l3)))
                  have HB14 := Lib.hid (below_self HB11.out Z3.out)
                  have HN14 := Lib.hid (HNR11.out.below Z3.out)
                  clear t1 t2 t3 Z1 Z2 Z3 HRR11 HNR11 HOR11 HR1 HR2 HB11 HB10 HNR
                  go_wp2
                  go_roundw
                  case rel => exact ⟨j + 1, An, cn, by omega, by go_num, rfl, HN14, HB14⟩
                  case measure => simp [intOf]; omega
        · obtain rfl : j = k := by omega
          go_wp2
          go_ret
          exact ⟨rfl, below_self HBW7.out HB.out⟩
end Go.Proofs.Ytjkmoahnociaiaa
