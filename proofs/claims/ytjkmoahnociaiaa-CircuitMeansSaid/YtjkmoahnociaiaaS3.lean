/- First, by both texts. -/
import Derived.Test.YtjkmoahnociaiaaS2
namespace Go.Proofs.Ytjkmoahnociaiaa
open Go.RowKit

/-- What First answers. -/
def FirstR (w : World) (c : Ct) (e : Ending) (w' : World) : Prop :=
  ∃ A k, e = .returned (.tuple #[.slice A (firstO c).length k, .int .i64 (firstCode c)]) ∧ Hid (Owns w' w.heap.size 4 (.slice A (firstO c).length k) (bools (firstO c))) ∧ Below w.heap.size w w'
theorem FirstR.of {w w' : World} {c : Ct} {v : Value} {e : Ending} (he : e = .returned (.tuple #[v, .int .i64 (firstCode c)])) (ho : Owns w' w.heap.size 4 v (bools (firstO c))) (hb : Below w.heap.size w w') : FirstR w c e w' := by
  obtain ⟨A, k, rfl⟩ := ho.form
  rw [bools_length] at he ho
  exact ⟨A, k, he, Lib.hid ho, hb⟩
set_option maxRecDepth 100000 in
set_option maxHeartbeats 4000000 in
theorem first_any (cc : Ct) (A B : Option Addr) (n m ca cb : Nat) (w : World) (hA : CReads w A (gcells cc.gs)) (hB : Reads w .i64 B cc.outs) (hs : SizeP cc) (hn : cc.gs.length = n) (hm : cc.outs.length = m) :
    Calls Try.prog 16 #[.agg #[.string cc.name, .slice A n ca, .slice B m cb]] w (FirstR w cc) := by
  have hbl := below1 w (.cells #[.string cc.name, .slice A n ca, .slice B m cb] 25)
  have C1 : Calls Try.prog 32 #[.agg #[.string cc.name, .slice A n ca, .slice B m cb]] (w.alloc (.cells #[.string cc.name, .slice A n ca, .slice B m cb] 25)) fun e w' => e = .returned (.bool (formedB cc)) ∧ Below (w.alloc (.cells #[.string cc.name, .slice A n ca, .slice B m cb] 25)).heap.size (w.alloc (.cells #[.string cc.name, .slice A n ca, .slice B m cb] 25)) w' := formed_any cc A B n m ca cb _ (hA.below hbl) (hB.below hbl) hs hn hm
  have HX := Lib.hid (Blk.new w 25 [.string cc.name, .slice A n ca, .slice B m cb])
  have HA := Lib.hid (hA.below hbl); have HS := Lib.hid hs; have HN := Lib.hid hn; have HB0 := Lib.hid hbl
  clear hA hB hs hn hm hbl
  obtain ⟨fb, hfb⟩ : ∃ fb, formedB cc = fb := ⟨_, rfl⟩
  rw [hfb] at C1
  cases fb
  · have HNF : Hid (¬ FormedP cc) := Lib.hid (fun h => by rw [formedB_true h] at hfb; cases hfb)
    clear hfb
    have HC : Hid (firstCode cc = 144) := Lib.hid (by unfold firstCode; rw [if_neg HNF.out])
    have HLL : Hid (firstO cc = []) := Lib.hid (by unfold firstO; rw [if_neg HNF.out])
    go_enter Try.func16, Try.ntmps16
    go_wp2_with (go_at_call 32; with_reducible refine C1.mono ?_; rintro e w1 ⟨rfl, hb1⟩)
    go_ret2
    exact FirstR.of (by rw [HC.out]; rfl) (by rw [HLL.out]; exact owns_nil _ _ _) (below_self HB0.out hb1)
  · have HFP : Hid (FormedP cc) := Lib.hid (Classical.byContradiction fun h => by rw [formedB_false h] at hfb; cases hfb)
    clear hfb
    have HC : Hid (firstCode cc = 0) := Lib.hid (by unfold firstCode; rw [if_pos HFP.out])
    have HLL : Hid (firstO cc = firstK cc.gs n) := Lib.hid (by unfold firstO; rw [if_pos HFP.out, firstK_all HN.out])
    go_enter Try.func16, Try.ntmps16
    go_upto_region 3 with (go_at_call 32; with_reducible refine C1.mono ?_; rintro e w1 ⟨rfl, hb1⟩)
    have HX1 := Lib.hid (HX.out.self hb1)
    have HA1 := Lib.hid (HA.out.below hb1)
    have HB1 := Lib.hid (below_self HB0.out hb1)
    obtain ⟨bx, hbx⟩ : ∃ bx, w.heap.size = bx := ⟨_, rfl⟩
    rw [hbx] at HX1 ⊢
    have x0 : w1.cell? ⟨bx, 0, none⟩ = some (.string cc.name) := (HX1.out.cell 0).trans rfl
    have x1 : w1.cell? ⟨bx, 1, none⟩ = some (.slice A n ca) := (HX1.out.cell 1).trans rfl
    have x2 : w1.cell? ⟨bx, 2, none⟩ = some (.slice B m cb) := (HX1.out.cell 2).trans rfl
    have hcall : Calls Try.prog 42 #[.agg #[.string cc.name, .slice A n ca, .slice B m cb]] w1 fun e w' => ∃ A c, e = .returned (.slice A (firstK cc.gs n).length c) ∧ Hid (Owns w' w1.heap.size 4 (.slice A (firstK cc.gs n).length c) (bools (firstK cc.gs n))) ∧ Below w1.heap.size w1 w' := firsts_any cc.gs cc.name A B n m ca cb w1 HA1.out HN.out (by have := HFP.out.gl; rw [HN.out] at this; exact this)
    clear C1 HX HA HB0 hb1 hbx
    go_wp2_with (go_at_call 42; with_reducible refine hcall.mono ?_; rintro e w2 ⟨A2, c2, rfl, hO2, hb2⟩)
    go_ret2
    exact FirstR.of (by rw [HC.out]; rfl) (by rw [HLL.out]; exact hO2.out.more HB1.out.size) (below_self HB1.out hb2)
set_option maxRecDepth 100000 in
set_option maxHeartbeats 4000000 in
theorem first_ref (cc : Ct) (A B : Option Addr) (n m ca cb : Nat) (w : World) (hA : CReads w A (gcells cc.gs)) (hB : Reads w .i64 B cc.outs) (hs : SizeP cc) (hn : cc.gs.length = n) (hm : cc.outs.length = m) :
    Calls Try.prog 17 #[.agg #[.string cc.name, .slice A n ca, .slice B m cb]] w (FirstR w cc) := by
  have hbl := below1 w (.cells #[.string cc.name, .slice A n ca, .slice B m cb] 25)
  have C1 : Calls Try.prog 34 #[.agg #[.string cc.name, .slice A n ca, .slice B m cb]] (w.alloc (.cells #[.string cc.name, .slice A n ca, .slice B m cb] 25)) fun e w' => e = .returned (.bool (formedB cc)) ∧ Below (w.alloc (.cells #[.string cc.name, .slice A n ca, .slice B m cb] 25)).heap.size (w.alloc (.cells #[.string cc.name, .slice A n ca, .slice B m cb] 25)) w' := formed_ref cc A B n m ca cb _ (hA.below hbl) (hB.below hbl) hs hn hm
  have HX := Lib.hid (Blk.new w 25 [.string cc.name, .slice A n ca, .slice B m cb])
  have HA := Lib.hid (hA.below hbl); have HS := Lib.hid hs; have HN := Lib.hid hn; have HB0 := Lib.hid hbl
  clear hA hB hs hn hm hbl
  obtain ⟨fb, hfb⟩ : ∃ fb, formedB cc = fb := ⟨_, rfl⟩
  rw [hfb] at C1
  cases fb
  · have HNF : Hid (¬ FormedP cc) := Lib.hid (fun h => by rw [formedB_true h] at hfb; cases hfb)
    clear hfb
    have HC : Hid (firstCode cc = 144) := Lib.hid (by unfold firstCode; rw [if_neg HNF.out])
    have HLL : Hid (firstO cc = []) := Lib.hid (by unfold firstO; rw [if_neg HNF.out])
    go_enter Try.func17, Try.ntmps17
    go_wp2_with (go_at_call 34; with_reducible refine C1.mono ?_; rintro e w1 ⟨rfl, hb1⟩)
    go_ret2
    exact FirstR.of (by rw [HC.out]; rfl) (by rw [HLL.out]; exact owns_nil _ _ _) (below_self HB0.out hb1)
  · have HFP : Hid (FormedP cc) := Lib.hid (Classical.byContradiction fun h => by rw [formedB_false h] at hfb; cases hfb)
    clear hfb
    have HC : Hid (firstCode cc = 0) := Lib.hid (by unfold firstCode; rw [if_pos HFP.out])
    have HLL : Hid (firstO cc = firstK cc.gs n) := Lib.hid (by unfold firstO; rw [if_pos HFP.out, firstK_all HN.out])
    go_enter Try.func17, Try.ntmps17
    go_upto_region 4 with (go_at_call 34; with_reducible refine C1.mono ?_; rintro e w1 ⟨rfl, hb1⟩)
    have HX1 := Lib.hid (HX.out.self hb1)
    have HA1 := Lib.hid (HA.out.below hb1)
    have HB1 := Lib.hid (below_self HB0.out hb1)
    obtain ⟨bx, hbx⟩ : ∃ bx, w.heap.size = bx := ⟨_, rfl⟩
    rw [hbx] at HX1 ⊢
    have x0 : w1.cell? ⟨bx, 0, none⟩ = some (.string cc.name) := (HX1.out.cell 0).trans rfl
    have x1 : w1.cell? ⟨bx, 1, none⟩ = some (.slice A n ca) := (HX1.out.cell 1).trans rfl
    have x2 : w1.cell? ⟨bx, 2, none⟩ = some (.slice B m cb) := (HX1.out.cell 2).trans rfl
    have hcall : Calls Try.prog 43 #[.agg #[.string cc.name, .slice A n ca, .slice B m cb]] w1 fun e w' => ∃ A c, e = .returned (.slice A (firstK cc.gs n).length c) ∧ Hid (Owns w' w1.heap.size 4 (.slice A (firstK cc.gs n).length c) (bools (firstK cc.gs n))) ∧ Below w1.heap.size w1 w' := firsts_ref cc.gs cc.name A B n m ca cb w1 HA1.out HN.out (by have := HFP.out.gl; rw [HN.out] at this; exact this)
    clear C1 HX HA HB0 hb1 hbx
    go_wp2_with (go_at_call 43; with_reducible refine hcall.mono ?_; rintro e w2 ⟨A2, c2, rfl, hO2, hb2⟩)
    go_ret2
    exact FirstR.of (by rw [HC.out]; rfl) (by rw [HLL.out]; exact hO2.out.more HB1.out.size) (below_self HB1.out hb2)
end Go.Proofs.Ytjkmoahnociaiaa
