/- CircuitPrints: the law's text answers true. -/
import Derived.Test.YtjkmoahnociaiaaDoorP5
import Derived.Test.YtjkmoahnociaiaaDoorSED
namespace Go.Proofs.YtjkmoahnociaiaaDoor
open Go.RowKit

set_option maxRecDepth 100000 in
set_option maxHeartbeats 8000000 in
theorem prints_any (cc : Ct) (A B : Option Addr) (n m ca cb : Nat) (w : World) (hA : CReads w A (gcells cc.gs)) (hB : Reads w .i64 B cc.outs) (hs : SizeP cc) (hn : cc.gs.length = n) (hm : cc.outs.length = m) (hn1 : (n + 2) * 56 ≤ 140737488355328) (hm1 : (m + 2) * 8 ≤ 140737488355328) (ho0 : OpsAt w 0) (ho1 : OpsAt w 1) :
    Calls Tryd.prog 3 #[.agg #[.string cc.name, .slice A n ca, .slice B m cb]] w fun e w' => e = .returned (.bool true) ∧ Below w.heap.size w w' := by
  have hbl := below1 w (.cells #[.string cc.name, .slice A n ca, .slice B m cb] 25)
  have HX := Lib.hid (Blk.new w 25 [.string cc.name, .slice A n ca, .slice B m cb])
  have HA := Lib.hid (hA.below hbl); have HB := Lib.hid (hB.below hbl); have HS := Lib.hid hs; have HN := Lib.hid hn; have HM := Lib.hid hm; have HB0 := Lib.hid hbl
  have HO0 := Lib.hid ho0; have HO1 := Lib.hid ho1
  have CT : Calls Tryd.prog 7 #[.agg #[.string cc.name, .slice A n ca, .slice B m cb]] (w.alloc (.cells #[.string cc.name, .slice A n ca, .slice B m cb] 25)) fun e w' => ∃ A' B' ca' cb', e = .returned (.agg #[.string cc.name, .slice A' n ca', .slice B' m cb']) ∧ Hid (TwinAt w' (w.alloc (.cells #[.string cc.name, .slice A n ca, .slice B m cb] 25)).heap.size A' B' n m ca' cb' cc.gs cc.outs) ∧ Below (w.alloc (.cells #[.string cc.name, .slice A n ca, .slice B m cb] 25)).heap.size (w.alloc (.cells #[.string cc.name, .slice A n ca, .slice B m cb] 25)) w' := twin_any A B n m ca cb cc.name cc.gs cc.outs _ (hA.below hbl) (hB.below hbl) hn hm hn1 hm1
  clear hA hB hs hn hm hbl ho0 ho1
  obtain ⟨name, gs, outs⟩ := cc
  dsimp only at *
  go_enter Tryd.func3, Tryd.ntmps3
  go_upto_region 2 with (go_at_call 7; with_reducible refine CT.mono ?_; rintro e w1 ⟨A', B', ca', cb', rfl, HT1, hb1⟩)
  have HX1 := Lib.hid (HX.out.self hb1)
  have HA1 := Lib.hid (HA.out.below hb1)
  have HBB1 := Lib.hid (HB.out.below hb1)
  have HBW1 := Lib.hid (below_self HB0.out hb1)
  obtain ⟨gA, gB, rfl, rfl, hgA, hgA2, hgB, hgB2, hcA, hcB⟩ := HT1.out.form
  have hgw : w.heap.size ≤ gA := by have := HB0.out.size; omega
  obtain ⟨base, hbase⟩ : ∃ b, (w.alloc (.cells #[.string name, .slice A n ca, .slice B m cb] 25)).heap.size = b := ⟨_, rfl⟩
  rw [hbase] at HT1
  have hbl2 := below1 w1 (.cells #[.string name, .slice (some ⟨gA, 0, none⟩) n ca', .slice (some ⟨gB, 0, none⟩) m cb'] 25)
  have HXT := Lib.hid (Blk.new w1 25 [.string name, .slice (some ⟨gA, 0, none⟩) n ca', .slice (some ⟨gB, 0, none⟩) m cb'])
  have HX2 := Lib.hid (HX1.out.self hbl2)
  have HA2 := Lib.hid (HA1.out.below hbl2)
  have HBB2 := Lib.hid (HBB1.out.below hbl2)
  have HT2 := Lib.hid (HT1.out.below hbl2)
  have HBW2 := Lib.hid (below_then HBW1.out HBW1.out.size hbl2)
  clear CT HX HA HB HB0 hb1 HX1 HA1 HBB1 HT1 HBW1 hbl2 hgA hgA2 hgB hgB2 hcA hcB hbase
  change Code.wp _ _ _ _ (w1.alloc (.cells #[.string name, .slice (some ⟨gA, 0, none⟩) n ca', .slice (some ⟨gB, 0, none⟩) m cb'] 25))
  generalize w1.alloc (.cells #[.string name, .slice (some ⟨gA, 0, none⟩) n ca', .slice (some ⟨gB, 0, none⟩) m cb'] 25) = W2 at *
  obtain ⟨bt, hbt⟩ : ∃ bt, w1.heap.size = bt := ⟨_, rfl⟩
  obtain ⟨bx, hbx⟩ : ∃ bx, w.heap.size = bx := ⟨_, rfl⟩
  rw [hbt] at HXT ⊢
  rw [hbx] at HX2 ⊢
  clear hbt hbx
  have HTW : Hid (∀ W, Below W2.heap.size W2 W → (W.cell? ⟨bt, 0, none⟩ = some (.string name) ∧ W.cell? ⟨bt, 1, none⟩ = some (.slice (some ⟨gA, 0, none⟩) n ca') ∧ W.cell? ⟨bt, 2, none⟩ = some (.slice (some ⟨gB, 0, none⟩) m cb')) ∧ W.cell? ⟨bx, 0, none⟩ = some (.string name) ∧ W.cell? ⟨bx, 1, none⟩ = some (.slice A n ca) ∧ W.cell? ⟨bx, 2, none⟩ = some (.slice B m cb)) := Lib.hid fun W hW => by
    have h1 := HXT.out.self hW
    have h2 := HX2.out.self hW
    exact ⟨⟨(h1.cell 0).trans rfl, (h1.cell 1).trans rfl, (h1.cell 2).trans rfl⟩, (h2.cell 0).trans rfl, (h2.cell 1).trans rfl, (h2.cell 2).trans rfl⟩
  obtain ⟨sP, hsP⟩ : ∃ s, printS ⟨name, gs, outs⟩ = s := ⟨_, rfl⟩
  obtain ⟨eP, heP⟩ : ∃ s, printE ⟨name, gs, outs⟩ = s := ⟨_, rfl⟩
  obtain ⟨fb, hfb⟩ : ∃ s, formedB ⟨name, gs, outs⟩ = s := ⟨_, rfl⟩
  have HC1 : Hid (∀ W, Below W2.heap.size W2 W → Calls Tryd.prog 8 #[.agg #[.string name, .slice (some ⟨gA, 0, none⟩) n ca', .slice (some ⟨gB, 0, none⟩) m cb']] W fun e w' => e = .returned (.tuple #[.string sP, .int .i64 eP]) ∧ Below W.heap.size W w') := Lib.hid fun W hW => by
    have hT := HT2.out.below hW
    have := print_any ⟨name, gs, outs⟩ (some ⟨gA, 0, none⟩) (some ⟨gB, 0, none⟩) n m ca' cb' W hT.gread hT.oread HS.out HN.out HM.out (HO0.out.below (below_self HBW2.out hW))
    rwa [hsP, heP] at this
  have HC2 : Hid (∀ W, Below W2.heap.size W2 W → Calls Tryd.prog 9 #[.agg #[.string name, .slice (some ⟨gA, 0, none⟩) n ca', .slice (some ⟨gB, 0, none⟩) m cb']] W fun e w' => e = .returned (.bool fb) ∧ Below W.heap.size W w') := Lib.hid fun W hW => by
    have hT := HT2.out.below hW
    have := formed_any ⟨name, gs, outs⟩ (some ⟨gA, 0, none⟩) (some ⟨gB, 0, none⟩) n m ca' cb' W hT.gread hT.oread HS.out HN.out HM.out
    rwa [hfb] at this
  have HC3 : Hid (∀ W, Below W2.heap.size W2 W → Calls Tryd.prog 10 #[.agg #[.string name, .slice A n ca, .slice B m cb]] W fun e w' => e = .returned (.tuple #[.string sP, .int .i64 eP]) ∧ Below W.heap.size W w') := Lib.hid fun W hW => by
    have := print_ref ⟨name, gs, outs⟩ A B n m ca cb W (HA2.out.below hW) (HBB2.out.below hW) HS.out HN.out HM.out (HO1.out.below (below_self HBW2.out hW))
    rwa [hsP, heP] at this
  have HC4 : Hid (∀ W, Below W2.heap.size W2 W → Calls Tryd.prog 11 #[.agg #[.string name, .slice A n ca, .slice B m cb]] W fun e w' => e = .returned (.bool fb) ∧ Below W.heap.size W w') := Lib.hid fun W hW => by
    have := formed_ref ⟨name, gs, outs⟩ A B n m ca cb W (HA2.out.below hW) (HBB2.out.below hW) HS.out HN.out HM.out
    rwa [hfb] at this
  have HC5 : Hid (∀ W, Below W2.heap.size W2 W → Calls Tryd.prog 12 #[.agg #[.string name, .slice (some ⟨gA, 0, none⟩) n ca', .slice (some ⟨gB, 0, none⟩) m cb'], .agg #[.string name, .slice A n ca, .slice B m cb]] W fun e w' => e = .returned (.bool true) ∧ Below W.heap.size W w') := Lib.hid fun W hW =>
    kept_any base (some ⟨gA, 0, none⟩) (some ⟨gB, 0, none⟩) A B n m ca' cb' ca cb name gs outs W (HT2.out.below hW) (HA2.out.below hW) (HBB2.out.below hW) (by omega) (by omega)
  clear hsP heP hfb
  have hcall := HC1.out W2 (Below.refl _ _)
  obtain ⟨⟨x0, x1, x2⟩, _⟩ := HTW.out W2 (Below.refl _ _)
  go_upto_region 3 with (go_at_call 8; with_reducible refine hcall.mono ?_; rintro e w3 ⟨rfl, hb3⟩)
  have HB3 := Lib.hid hb3
  clear hcall x0 x1 x2 hb3 HC1
  have hcall := HC2.out w3 HB3.out
  obtain ⟨⟨x0, x1, x2⟩, _⟩ := HTW.out w3 HB3.out
  go_upto_region 4 with (go_at_call 9; with_reducible refine hcall.mono ?_; rintro e w4 ⟨rfl, hb4⟩)
  have HB4 := Lib.hid (below_self HB3.out hb4)
  clear hcall x0 x1 x2 hb4 HC2 HB3
  have hcall := HC3.out w4 HB4.out
  obtain ⟨_, x0, x1, x2⟩ := HTW.out w4 HB4.out
  go_upto_region 5 with (go_at_call 10; with_reducible refine hcall.mono ?_; rintro e w5 ⟨rfl, hb5⟩)
  have HB5 := Lib.hid (below_self HB4.out hb5)
  clear hcall x0 x1 x2 hb5 HC3 HB4
  have hcall := HC4.out w5 HB5.out
  obtain ⟨⟨y0, y1, y2⟩, x0, x1, x2⟩ := HTW.out w5 HB5.out
  go_upto_region 7 with (first
    | ((go_at_call 11; with_reducible refine hcall.mono ?_; rintro e w6 ⟨rfl, hb6⟩; have HB6 := Lib.hid (below_self HB5.out hb6); have hcall2 := HC5.out w6 HB6.out; clear x0 x1 x2 y0 y1 y2; obtain ⟨⟨y0, y1, y2⟩, x0, x1, x2⟩ := HTW.out w6 HB6.out))
    | ((go_at_call 12; with_reducible refine hcall2.mono ?_; rintro e w7 ⟨rfl, hb7⟩)))
  have HB7 := Lib.hid (below_self HB6.out hb7)
  have HT7 := Lib.hid (HT2.out.below HB7.out)
  have HXT7 := Lib.hid (HXT.out.self HB7.out)
  have HBW7 := Lib.hid (below_self HBW2.out HB7.out)
  clear hcall hcall2 x0 x1 x2 y0 y1 y2 hb6 hb7 HB5 HB6 HC4 HC5 HTW HXT HX2 HA2 HBB2 HT2 HBW2 HB7
  have htu := turned_any base (some ⟨gA, 0, none⟩) (some ⟨gB, 0, none⟩) n m ca' cb' name gs outs w7 HT7.out hn1 hm1
  unfold TurnedR at htu
  have x0 : w7.cell? ⟨bt, 0, none⟩ = some (.string name) := (HXT7.out.cell 0).trans rfl
  have x1 : w7.cell? ⟨bt, 1, none⟩ = some (.slice (some ⟨gA, 0, none⟩) n ca') := (HXT7.out.cell 1).trans rfl
  have x2 : w7.cell? ⟨bt, 2, none⟩ = some (.slice (some ⟨gB, 0, none⟩) m cb') := (HXT7.out.cell 2).trans rfl
  have HTY : Hid (Typed w7 gA 46) := Lib.hid (rows_typed HT7.out.g (g := gA) rfl)
  go_upto_region 8 with (go_at_call 13; with_reducible refine htu.mono ?_; rintro e w8 ⟨A20, A21, c20, c21, rfl, HT8, HG8, HO8, hg8⟩)
  change Code.wp _ _ _ _ (w8.alloc (.cells #[.string name, .slice A20 n c20, .slice A21 m c21] 25))
  have hg8' : w7.grownBy w8 (some gA) := hg8
  have HXT8 := Lib.hid (HXT7.out.aside HTY.out (by decide) hg8')
  have HBW8 := Lib.hid (HBW7.out.grown hg8' HBW7.out.size (fun z e => by cases e; exact hgw))
  have hbl := below1 w8 (.cells #[.string name, .slice A20 n c20, .slice A21 m c21] 25)
  have HXD := Lib.hid (Blk.new w8 25 [.string name, .slice A20 n c20, .slice A21 m c21])
  have HXT9 := Lib.hid (HXT8.out.self hbl)
  have HT9 := Lib.hid (HT8.out.below hbl)
  have HD9 : Hid (CReads (w8.alloc (.cells #[.string name, .slice A20 n c20, .slice A21 m c21] 25)) A20 (gcells (gs.map turnO))) := Lib.hid (rows_read (rows_below HG8.out hbl) (by decide))
  have HE9 : Hid (Reads (w8.alloc (.cells #[.string name, .slice A20 n c20, .slice A21 m c21] 25)) .i64 A21 outs) := Lib.hid (rows_read (rows_below HO8.out hbl) (by decide)).reads
  have HBW9 := Lib.hid (below_self HBW8.out hbl)
  clear htu x0 x1 x2 hg8 hg8' HXT7 HT7 HT8 HG8 HO8 HXT8 HBW7 HBW8 hbl HTY
  generalize w8.alloc (.cells #[.string name, .slice A20 n c20, .slice A21 m c21] 25) = W9 at *
  obtain ⟨bd, hbd⟩ : ∃ bd, w8.heap.size = bd := ⟨_, rfl⟩
  rw [hbd] at HXD ⊢
  clear hbd
  have HS9 := Lib.hid (turnO_size HS.out)
  have HN9 : Hid ((gs.map turnO).length = n) := Lib.hid (by rw [List.length_map]; exact HN.out)
  dsimp only at HS9
  obtain ⟨ts, hts⟩ : ∃ ts, gs.map turnO = ts := ⟨_, rfl⟩
  rw [hts] at HT9 HD9 HS9 HN9
  clear hts
  have HTW : Hid (∀ W, Below W9.heap.size W9 W → (W.cell? ⟨bt, 0, none⟩ = some (.string name) ∧ W.cell? ⟨bt, 1, none⟩ = some (.slice (some ⟨gA, 0, none⟩) n ca') ∧ W.cell? ⟨bt, 2, none⟩ = some (.slice (some ⟨gB, 0, none⟩) m cb')) ∧ W.cell? ⟨bd, 0, none⟩ = some (.string name) ∧ W.cell? ⟨bd, 1, none⟩ = some (.slice A20 n c20) ∧ W.cell? ⟨bd, 2, none⟩ = some (.slice A21 m c21)) := Lib.hid fun W hW => by
    have h1 := HXT9.out.self hW
    have h2 := HXD.out.self hW
    exact ⟨⟨(h1.cell 0).trans rfl, (h1.cell 1).trans rfl, (h1.cell 2).trans rfl⟩, (h2.cell 0).trans rfl, (h2.cell 1).trans rfl, (h2.cell 2).trans rfl⟩
  obtain ⟨sQ, hsQ⟩ : ∃ s, printS ⟨name, ts, outs⟩ = s := ⟨_, rfl⟩
  obtain ⟨eQ, heQ⟩ : ∃ s, printE ⟨name, ts, outs⟩ = s := ⟨_, rfl⟩
  obtain ⟨fq, hfq⟩ : ∃ s, formedB ⟨name, ts, outs⟩ = s := ⟨_, rfl⟩
  have HC1 : Hid (∀ W, Below W9.heap.size W9 W → Calls Tryd.prog 8 #[.agg #[.string name, .slice (some ⟨gA, 0, none⟩) n ca', .slice (some ⟨gB, 0, none⟩) m cb']] W fun e w' => e = .returned (.tuple #[.string sQ, .int .i64 eQ]) ∧ Below W.heap.size W w') := Lib.hid fun W hW => by
    have hT := HT9.out.below hW
    have := print_any ⟨name, ts, outs⟩ (some ⟨gA, 0, none⟩) (some ⟨gB, 0, none⟩) n m ca' cb' W hT.gread hT.oread HS9.out HN9.out HM.out (HO0.out.below (below_self HBW9.out hW))
    rwa [hsQ, heQ] at this
  have HC2 : Hid (∀ W, Below W9.heap.size W9 W → Calls Tryd.prog 9 #[.agg #[.string name, .slice (some ⟨gA, 0, none⟩) n ca', .slice (some ⟨gB, 0, none⟩) m cb']] W fun e w' => e = .returned (.bool fq) ∧ Below W.heap.size W w') := Lib.hid fun W hW => by
    have hT := HT9.out.below hW
    have := formed_any ⟨name, ts, outs⟩ (some ⟨gA, 0, none⟩) (some ⟨gB, 0, none⟩) n m ca' cb' W hT.gread hT.oread HS9.out HN9.out HM.out
    rwa [hfq] at this
  have HC3 : Hid (∀ W, Below W9.heap.size W9 W → Calls Tryd.prog 10 #[.agg #[.string name, .slice A20 n c20, .slice A21 m c21]] W fun e w' => e = .returned (.tuple #[.string sQ, .int .i64 eQ]) ∧ Below W.heap.size W w') := Lib.hid fun W hW => by
    have := print_ref ⟨name, ts, outs⟩ A20 A21 n m c20 c21 W (HD9.out.below hW) (HE9.out.below hW) HS9.out HN9.out HM.out (HO1.out.below (below_self HBW9.out hW))
    rwa [hsQ, heQ] at this
  have HC4 : Hid (∀ W, Below W9.heap.size W9 W → Calls Tryd.prog 11 #[.agg #[.string name, .slice A20 n c20, .slice A21 m c21]] W fun e w' => e = .returned (.bool fq) ∧ Below W.heap.size W w') := Lib.hid fun W hW => by
    have := formed_ref ⟨name, ts, outs⟩ A20 A21 n m c20 c21 W (HD9.out.below hW) (HE9.out.below hW) HS9.out HN9.out HM.out
    rwa [hfq] at this
  clear hsQ heQ hfq
  have hcall := HC1.out W9 (Below.refl _ _)
  obtain ⟨⟨x0, x1, x2⟩, _⟩ := HTW.out W9 (Below.refl _ _)
  go_upto_region 9 with (go_at_call 8; with_reducible refine hcall.mono ?_; rintro e w10 ⟨rfl, hb10⟩)
  have HB3 := Lib.hid hb10
  clear hcall x0 x1 x2 hb10 HC1
  have hcall := HC2.out w10 HB3.out
  obtain ⟨⟨x0, x1, x2⟩, _⟩ := HTW.out w10 HB3.out
  go_upto_region 10 with (go_at_call 9; with_reducible refine hcall.mono ?_; rintro e w11 ⟨rfl, hb11⟩)
  have HB4 := Lib.hid (below_self HB3.out hb11)
  clear hcall x0 x1 x2 hb11 HC2 HB3
  have hcall := HC3.out w11 HB4.out
  obtain ⟨_, x0, x1, x2⟩ := HTW.out w11 HB4.out
  go_upto_region 11 with (go_at_call 10; with_reducible refine hcall.mono ?_; rintro e w12 ⟨rfl, hb12⟩)
  have HB5 := Lib.hid (below_self HB4.out hb12)
  clear hcall x0 x1 x2 hb12 HC3 HB4
  have hcall := HC4.out w12 HB5.out
  obtain ⟨_, x0, x1, x2⟩ := HTW.out w12 HB5.out
  have HBE := Lib.hid (below_self HBW9.out HB5.out)
  go_wp2_with (go_at_call 11; with_reducible refine hcall.mono ?_; rintro e w13 ⟨rfl, hb13⟩)
  go_ret
  exact ⟨by first | rfl | simp, below_self HBE.out hb13⟩
end Go.Proofs.YtjkmoahnociaiaaDoor
