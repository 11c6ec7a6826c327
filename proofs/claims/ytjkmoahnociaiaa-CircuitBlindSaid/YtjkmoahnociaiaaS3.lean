/- firsts, by both texts; First. -/
import Derived.Test.YtjkmoahnociaiaaS1
import Derived.Test.YtjkmoahnociaiaaXF
namespace Go.Proofs.Ytjkmoahnociaiaa
open Go.RowKit

/-- A new row of truths. -/
def NewB (w : World) (l : List Bool) (e : Ending) (w' : World) : Prop :=
  ∃ A c, e = .returned (.slice A l.length c) ∧ Hid (Owns w' w.heap.size 4 (.slice A l.length c) (bools l)) ∧ Below w.heap.size w w'
theorem NewB.of {w w' : World} {l : List Bool} {v : Value} {e : Ending} (he : e = .returned v) (ho : Owns w' w.heap.size 4 v (bools l)) (hb : Below w.heap.size w w') : NewB w l e w' := by
  obtain ⟨A, c, rfl⟩ := ho.form
  rw [bools_length] at he ho
  exact ⟨A, c, he, Lib.hid ho, hb⟩
/-- The first values of the latches among the first k lines. -/
def firstK (gs : List Gt) (k : Nat) : List Bool := ((gs.take k).filter fun g => decide (g.kind = 3)).map fun g => decide (g.op = 1)
theorem firstK_zero (gs : List Gt) : firstK gs 0 = [] := by simp [firstK]
theorem firstK_yes {gs : List Gt} {k : Nat} {g : Gt} (hg : gs[k]? = some g) (h : g.kind = 3) : firstK gs (k + 1) = firstK gs k ++ [decide (g.op = 1)] := by
  unfold firstK
  rw [List.take_add_one, hg]
  simp [h]
theorem firstK_no {gs : List Gt} {k : Nat} {g : Gt} (hg : gs[k]? = some g) (h : ¬ g.kind = 3) : firstK gs (k + 1) = firstK gs k := by
  unfold firstK
  rw [List.take_add_one, hg]
  simp [h]
theorem firstK_len (gs : List Gt) (k : Nat) : (firstK gs k).length ≤ k := by
  unfold firstK
  rw [List.length_map]
  exact Nat.le_trans (List.length_filter_le _ _) (by rw [List.length_take]; omega)
theorem firstK_all {c : Ct} {n : Nat} (h : c.gs.length = n) : firstK c.gs n = firstL c := by
  subst h
  simp [firstK, firstL]
set_option maxRecDepth 100000 in
set_option maxHeartbeats 4000000 in
theorem firsts_any (gs : List Gt) (name : ByteArray) (A B : Option Addr) (n m ca cb : Nat) (w : World) (hA : CReads w A (gcells gs)) (hn : gs.length = n) (hn1 : n ≤ 65536) :
    Calls Try.prog 42 #[.agg #[.string name, .slice A n ca, .slice B m cb]] w (NewB w (firstK gs n)) := by
  have hbl := below1 w (.cells #[.string name, .slice A n ca, .slice B m cb] 25)
  have HA := Lib.hid (hA.below hbl); have HN := Lib.hid hn; have HB0 := Lib.hid hbl
  clear hA hn hbl
  go_enter Try.func42, Try.ntmps42
  go_upto_region 3 with (fail)
  change Code.wp _ _ _ _ (w.alloc (.cells #[.string name, .slice A n ca, .slice B m cb] 25))
  generalize w.alloc (.cells #[.string name, .slice A n ca, .slice B m cb] 25) = W1 at *
  have HBW := Lib.hid (Below.refl W1.heap.size W1)
  have HO0 : Hid (Owns W1 W1.heap.size 4 (.slice none 0 0) (bools (firstK gs 0))) := Lib.hid (by rw [firstK_zero]; exact owns_nil _ _ _)
  obtain ⟨bx, hbx⟩ : ∃ bx, w.heap.size = bx := ⟨_, rfl⟩
  rw [hbx]
  clear hbx
  go_loopw [3, 9] (fun s3 s9 wr => ∃ k : Nat, k ≤ n ∧ s9 = .int .i64 k ∧ Hid (Owns wr W1.heap.size 4 s3 (bools (firstK gs k))) ∧ Hid (Below W1.heap.size W1 wr)) (fun _ i _ => n - (intOf i).toNat)
  case atStart => exact ⟨0, by omega, rfl, HO0, HBW⟩
  case round =>
    clear HBW HO0
    obtain ⟨k, hk, rfl, HO, HB⟩ := hrel
    by_cases hlt : k < n
    · obtain ⟨g, hg⟩ : ∃ g, gs[k]? = some g := ⟨_, List.getElem?_eq_getElem (by rw [HN.out]; exact hlt)⟩
      obtain ⟨ab, ao, rfl, hc⟩ := greads_at HA.out hg
      obtain ⟨c0, c1, c2, c3, c4, c5⟩ := hc.below HB.out
      have HGG := Lib.hid hg
      obtain ⟨kd, nm, op, a, b, cx⟩ := g
      dsimp only at *
      have hk0 : (0 : Int) ≤ (k : Int) := by omega
      have hkn : (k : Int) < (n : Int) := by omega
      clear hg hc
      have hbl := below1 wr (.cells #[.int .i64 kd, .string nm, .int .i64 op, .int .i64 a, .int .i64 b, .int .i64 cx] 33)
      have HO1 := Lib.hid (HO.out.below hbl)
      have HB1 := Lib.hid (below_then HB.out HB.out.size hbl)
      have hG := Blk.new wr 33 [.int .i64 kd, .string nm, .int .i64 op, .int .i64 a, .int .i64 b, .int .i64 cx]
      clear HO HB hbl
      go_upto_region 5 with (fail)
      change Code.wp _ _ _ _ (wr.alloc (.cells #[.int .i64 kd, .string nm, .int .i64 op, .int .i64 a, .int .i64 b, .int .i64 cx] 33))
      have hG1 : Blk (wr.alloc (.cells #[.int .i64 kd, .string nm, .int .i64 op, .int .i64 a, .int .i64 b, .int .i64 cx] 33)) wr.heap.size 33 [.int .i64 kd, .string nm, .int .i64 op, .int .i64 a, .int .i64 b, .int .i64 cx] := hG
      clear hG c0 c1 c2 c3 c4 c5
      generalize wr.alloc (.cells #[.int .i64 kd, .string nm, .int .i64 op, .int .i64 a, .int .i64 b, .int .i64 cx] 33) = W4 at *
      obtain ⟨ob, hob⟩ : ∃ ob, wr.heap.size = ob := ⟨_, rfl⟩
      rw [hob] at hG1 ⊢
      have c0 : W4.cell? ⟨ob, 0, none⟩ = some (.int .i64 kd) := (hG1.cell 0).trans rfl
      have c2 : W4.cell? ⟨ob, 2, none⟩ = some (.int .i64 op) := (hG1.cell 2).trans rfl
      clear hob hG1
      by_cases he : kd = 3
      · have hF := firstK_yes HGG.out he
        subst he
        have hlen := firstK_len gs k
        obtain ⟨xb, hxb⟩ : ∃ xb, decide (op = 1) = xb := ⟨_, rfl⟩
        have hxb2 : (op == 1) = xb := hxb
        dsimp only at hF
        rw [hxb] at hF
        have HF := Lib.hid hF
        have HO2 := Lib.hid (HO1.out.below (below1 W4 (.cells [Value.bool xb].toArray 4)))
        have HB2 := Lib.hid (HB1.out.alloc HB1.out.size (.cells [Value.bool xb].toArray 4))
        have hull : (bools (firstK gs k)).length + 1 ≤ 65537 := by rw [bools_length]; omega
        clear hF hlen
        go_upto_region 7 with (at_builtin; refine wpList_push2 rfl _ _ 35 rfl W1.heap.size 4 _ 1 Try.underlying35 info_bool rfl u3 _ rfl HO2.out ⟨W4.heap.size, 0, none⟩ (.bool xb) rfl (by simp [go_sem]) rfl (by unfold maxLen; omega) (by omega) (by simp; have := HB1.out.size; omega) ?_; intro v5 w5 hown5 hg5 hb5; have HO5 := hown5; rw [bools_snoc, ← HF.out] at HO5; have HO5 := Lib.hid HO5; have HB5 := Lib.hid (HB2.out.grown hg5 HB2.out.size (fun g hv => (HO2.out.lt hv).1)); clear hown5 hg5 hb5)
        clear HO1 HB1 HO2 HB2 hull
        go_wp2
        go_roundw
        case rel => exact ⟨k + 1, by omega, by go_num, HO5, HB5⟩
        case measure => simp [intOf]; omega
      · have HO5 : Hid (Owns W4 W1.heap.size 4 u3 (bools (firstK gs (k + 1)))) := Lib.hid (by rw [firstK_no HGG.out he]; exact HO1.out)
        go_wp2
        go_roundw
        case rel => exact ⟨k + 1, by omega, by go_num, HO5, HB1⟩
        case measure => simp [intOf]; omega
    · obtain rfl : k = n := by omega
      have HOf := Lib.hid (HO.out.more HB0.out.size)
      have HBf := Lib.hid (below_then HB0.out HB0.out.size HB.out)
      go_wp2
      go_ret
      exact NewB.of rfl HOf.out HBf.out
set_option maxRecDepth 100000 in
set_option maxHeartbeats 4000000 in
theorem firsts_ref (gs : List Gt) (name : ByteArray) (A B : Option Addr) (n m ca cb : Nat) (w : World) (hA : CReads w A (gcells gs)) (hn : gs.length = n) (hn1 : n ≤ 65536) :
    Calls Try.prog 43 #[.agg #[.string name, .slice A n ca, .slice B m cb]] w (NewB w (firstK gs n)) := by
  have hbl := below1 w (.cells #[.string name, .slice A n ca, .slice B m cb] 25)
  have HX := Lib.hid (Blk.new w 25 [.string name, .slice A n ca, .slice B m cb])
  have HA := Lib.hid (hA.below hbl); have HN := Lib.hid hn; have HB0 := Lib.hid hbl
  clear hA hn hbl
  go_enter Try.func43, Try.ntmps43
  go_upto_region 3 with (fail)
  change Code.wp _ _ _ _ (w.alloc (.cells #[.string name, .slice A n ca, .slice B m cb] 25))
  generalize w.alloc (.cells #[.string name, .slice A n ca, .slice B m cb] 25) = W1 at *
  have HBW := Lib.hid (Below.refl W1.heap.size W1)
  have HO0 : Hid (Owns W1 W1.heap.size 4 (.slice none 0 0) (bools (firstK gs 0))) := Lib.hid (by rw [firstK_zero]; exact owns_nil _ _ _)
  obtain ⟨bx, hbx⟩ : ∃ bx, w.heap.size = bx := ⟨_, rfl⟩
  rw [hbx] at HX ⊢
  clear hbx
  go_loopw [3, 4] (fun s3 s4 wr => ∃ k : Nat, k ≤ n ∧ s4 = .int .i64 k ∧ Hid (Owns wr W1.heap.size 4 s3 (bools (firstK gs k))) ∧ Hid (Below W1.heap.size W1 wr)) (fun _ i _ => n - (intOf i).toNat)
  case atStart => exact ⟨0, by omega, rfl, HO0, HBW⟩
  case round =>
    clear HBW HO0
    obtain ⟨k, hk, rfl, HO, HB⟩ := hrel
    have x1 : wr.cell? ⟨bx, 1, none⟩ = some (.slice A n ca) := ((HX.out.self HB.out).cell 1).trans rfl
    by_cases hlt : k < n
    · obtain ⟨g, hg⟩ : ∃ g, gs[k]? = some g := ⟨_, List.getElem?_eq_getElem (by rw [HN.out]; exact hlt)⟩
      obtain ⟨ab, ao, rfl, hc⟩ := greads_at HA.out hg
      obtain ⟨c0, c1, c2, c3, c4, c5⟩ := hc.below HB.out
      have HGG := Lib.hid hg
      obtain ⟨kd, nm, op, a, b, cx⟩ := g
      dsimp only at *
      have hk0 : (0 : Int) ≤ (k : Int) := by omega
      have hkn : (k : Int) < (n : Int) := by omega
      clear hg hc c1 c3 c4 c5
      by_cases he : kd = 3
      · have hF := firstK_yes HGG.out he
        subst he
        have hlen := firstK_len gs k
        obtain ⟨xb, hxb⟩ : ∃ xb, decide (op = 1) = xb := ⟨_, rfl⟩
        have hxb2 : (op == 1) = xb := hxb
        dsimp only at hF
        rw [hxb] at hF
        have HF := Lib.hid hF
        have HO2 := Lib.hid (HO.out.below (below1 wr (.cells [Value.bool xb].toArray 4)))
        have HB2 := Lib.hid (HB.out.alloc HB.out.size (.cells [Value.bool xb].toArray 4))
        have hull : (bools (firstK gs k)).length + 1 ≤ 65537 := by rw [bools_length]; omega
        clear hF hlen
        go_upto_region 4 with (at_builtin; refine wpList_push2 rfl _ _ 35 rfl W1.heap.size 4 _ 1 Try.underlying35 info_bool rfl u3 _ rfl HO2.out ⟨wr.heap.size, 0, none⟩ (.bool xb) rfl (by simp [go_sem]) rfl (by unfold maxLen; omega) (by omega) (by simp; have := HB.out.size; omega) ?_; intro v5 w5 hown5 hg5 hb5; have HO5 := hown5; rw [bools_snoc, ← HF.out] at HO5; have HO5 := Lib.hid HO5; have HB5 := Lib.hid (HB2.out.grown hg5 HB2.out.size (fun g hv => (HO2.out.lt hv).1)); clear hown5 hg5 hb5)
        clear HO HB HO2 HB2 hull c0 c2 x1
        go_wp2
        go_roundw
        case rel => exact ⟨k + 1, by omega, by go_num, HO5, HB5⟩
        case measure => simp [intOf]; omega
      · have HO5 : Hid (Owns wr W1.heap.size 4 u3 (bools (firstK gs (k + 1)))) := Lib.hid (by rw [firstK_no HGG.out he]; exact HO.out)
        go_wp2
        go_roundw
        case rel => exact ⟨k + 1, by omega, by go_num, HO5, HB⟩
        case measure => simp [intOf]; omega
    · obtain rfl : k = n := by omega
      have HOf := Lib.hid (HO.out.more HB0.out.size)
      have HBf := Lib.hid (below_then HB0.out HB0.out.size HB.out)
      go_wp2
      go_ret
      exact NewB.of rfl HOf.out HBf.out
end Go.Proofs.Ytjkmoahnociaiaa
/- First, by both texts. -/
namespace Go.Proofs.Ytjkmoahnociaiaa
open Go.RowKit

/-- What First answers. -/
def FirstR (w : World) (c : Ct) (e : Ending) (w' : World) : Prop :=
  ∃ A k, e = .returned (.tuple #[.slice A (firstO c).length k, .int .i64 (firstCode c)]) ∧ Hid (Owns w' w.heap.size 4 (.slice A (firstO c).length k) (bools (firstO c))) ∧ Below w.heap.size w w'
theorem FirstR.of {w w' : World} {c : Ct} {v : Value} {e : Ending} (he : e = .returned (.tuple #[v, .int .i64 (firstCode c)])) (ho : Owns w' w.heap.size 4 v (bools (firstO c))) (hb : Below w.heap.size w w') : FirstR w c e w' := by
  obtain ⟨A, k, rfl⟩ := ho.form
  rw [bools_length] at he ho
  exact ⟨A, k, he, Lib.hid ho, hb⟩
set_option maxRecDepth 100000 in
set_option maxHeartbeats 4000000 in
theorem first_any (cc : Ct) (A B : Option Addr) (n m ca cb : Nat) (w : World) (hA : CReads w A (gcells cc.gs)) (hB : Reads w .i64 B cc.outs) (hs : SizeP cc) (hn : cc.gs.length = n) (hm : cc.outs.length = m) :
    Calls Try.prog 16 #[.agg #[.string cc.name, .slice A n ca, .slice B m cb]] w (FirstR w cc) := by
  have hbl := below1 w (.cells #[.string cc.name, .slice A n ca, .slice B m cb] 25)
  have C1 : Calls Try.prog 32 #[.agg #[.string cc.name, .slice A n ca, .slice B m cb]] (w.alloc (.cells #[.string cc.name, .slice A n ca, .slice B m cb] 25)) fun e w' => e = .returned (.bool (formedB cc)) ∧ Below (w.alloc (.cells #[.string cc.name, .slice A n ca, .slice B m cb] 25)).heap.size (w.alloc (.cells #[.string cc.name, .slice A n ca, .slice B m cb] 25)) w' := formed_any cc A B n m ca cb _ (hA.below hbl) (hB.below hbl) hs hn hm
  have HX := Lib.hid (Blk.new w 25 [.string cc.name, .slice A n ca, .slice B m cb])
  have HA := Lib.hid (hA.below hbl); have HS := Lib.hid hs; have HN := Lib.hid hn; have HB0 := Lib.hid hbl
  clear hA hB hs hn hm hbl
  obtain ⟨fb, hfb⟩ : ∃ fb, formedB cc = fb := ⟨_, rfl⟩
  rw [hfb] at C1
  cases fb
  · have HNF : Hid (¬ FormedP cc) := Lib.hid (fun h => by rw [formedB_true h] at hfb; cases hfb)
    clear hfb
    have HC : Hid (firstCode cc = 144) := Lib.hid (by unfold firstCode; rw [if_neg HNF.out])
    have HLL : Hid (firstO cc = []) := Lib.hid (by unfold firstO; rw [if_neg HNF.out])
    go_enter Try.func16, Try.ntmps16
    go_wp2_with (go_at_call 32; with_reducible refine C1.mono ?_; rintro e w1 ⟨rfl, hb1⟩)
    go_ret2
    exact FirstR.of (by rw [HC.out]; rfl) (by rw [HLL.out]; exact owns_nil _ _ _) (below_self HB0.out hb1)
  · have HFP : Hid (FormedP cc) := Lib.hid (Classical.byContradiction fun h => by rw [formedB_false h] at hfb; cases hfb)
    clear hfb
    have HC : Hid (firstCode cc = 0) := Lib.hid (by unfold firstCode; rw [if_pos HFP.out])
    have HLL : Hid (firstO cc = firstK cc.gs n) := Lib.hid (by unfold firstO; rw [if_pos HFP.out, firstK_all HN.out])
    go_enter Try.func16, Try.ntmps16
    go_upto_region 3 with (go_at_call 32; with_reducible refine C1.mono ?_; rintro e w1 ⟨rfl, hb1⟩)
    have HX1 := Lib.hid (HX.out.self hb1)
    have HA1 := Lib.hid (HA.out.below hb1)
    have HB1 := Lib.hid (below_self HB0.out hb1)
    obtain ⟨bx, hbx⟩ : ∃ bx, w.heap.size = bx := ⟨_, rfl⟩
    rw [hbx] at HX1 ⊢
    have x0 : w1.cell? ⟨bx, 0, none⟩ = some (.string cc.name) := (HX1.out.cell 0).trans rfl
    have x1 : w1.cell? ⟨bx, 1, none⟩ = some (.slice A n ca) := (HX1.out.cell 1).trans rfl
    have x2 : w1.cell? ⟨bx, 2, none⟩ = some (.slice B m cb) := (HX1.out.cell 2).trans rfl
    have hcall : Calls Try.prog 42 #[.agg #[.string cc.name, .slice A n ca, .slice B m cb]] w1 fun e w' => ∃ A c, e = .returned (.slice A (firstK cc.gs n).length c) ∧ Hid (Owns w' w1.heap.size 4 (.slice A (firstK cc.gs n).length c) (bools (firstK cc.gs n))) ∧ Below w1.heap.size w1 w' := firsts_any cc.gs cc.name A B n m ca cb w1 HA1.out HN.out (by have := HFP.out.gl; rw [HN.out] at this; exact this)
    clear C1 HX HA HB0 hb1 hbx
    go_wp2_with (go_at_call 42; with_reducible refine hcall.mono ?_; rintro e w2 ⟨A2, c2, rfl, hO2, hb2⟩)
    go_ret2
    exact FirstR.of (by rw [HC.out]; rfl) (by rw [HLL.out]; exact hO2.out.more HB1.out.size) (below_self HB1.out hb2)
set_option maxRecDepth 100000 in
set_option maxHeartbeats 4000000 in
theorem first_ref (cc : Ct) (A B : Option Addr) (n m ca cb : Nat) (w : World) (hA : CReads w A (gcells cc.gs)) (hB : Reads w .i64 B cc.outs) (hs : SizeP cc) (hn : cc.gs.length = n) (hm : cc.outs.length = m) :
    Calls Try.prog 17 #[.agg #[.string cc.name, .slice A n ca, .slice B m cb]] w (FirstR w cc) := by
  have hbl := below1 w (.cells #[.string cc.name, .slice A n ca, .slice B m cb] 25)
  have C1 : Calls Try.prog 34 #[.agg #[.string cc.name, .slice A n ca, .slice B m cb]] (w.alloc (.cells #[.string cc.name, .slice A n ca, .slice B m cb] 25)) fun e w' => e = .returned (.bool (formedB cc)) ∧ Below (w.alloc (.cells #[.string cc.name, .slice A n ca, .slice B m cb] 25)).heap.size (w.alloc (.cells #[.string cc.name, .slice A n ca, .slice B m cb] 25)) w' := formed_ref cc A B n m ca cb _ (hA.below hbl) (hB.below hbl) hs hn hm
  have HX := Lib.hid (Blk.new w 25 [.string cc.name, .slice A n ca, .slice B m cb])
  have HA := Lib.hid (hA.below hbl); have HS := Lib.hid hs; have HN := Lib.hid hn; have HB0 := Lib.hid hbl
  clear hA hB hs hn hm hbl
  obtain ⟨fb, hfb⟩ : ∃ fb, formedB cc = fb := ⟨_, rfl⟩
  rw [hfb] at C1
  cases fb
  · have HNF : Hid (¬ FormedP cc) := Lib.hid (fun h => by rw [formedB_true h] at hfb; cases hfb)
    clear hfb
    have HC : Hid (firstCode cc = 144) := Lib.hid (by unfold firstCode; rw [if_neg HNF.out])
    have HLL : Hid (firstO cc = []) := Lib.hid (by unfold firstO; rw [if_neg HNF.out])
    go_enter Try.func17, Try.ntmps17
    go_wp2_with (go_at_call 34; with_reducible refine C1.mono ?_; rintro e w1 ⟨rfl, hb1⟩)
    go_ret2
    exact FirstR.of (by rw [HC.out]; rfl) (by rw [HLL.out]; exact owns_nil _ _ _) (below_self HB0.out hb1)
  · have HFP : Hid (FormedP cc) := Lib.hid (Classical.byContradiction fun h => by rw [formedB_false h] at hfb; cases hfb)
    clear hfb
    have HC : Hid (firstCode cc = 0) := Lib.hid (by unfold firstCode; rw [if_pos HFP.out])
    have HLL : Hid (firstO cc = firstK cc.gs n) := Lib.hid (by unfold firstO; rw [if_pos HFP.out, firstK_all HN.out])
    go_enter Try.func17, Try.ntmps17
    go_upto_region 4 with (go_at_call 34; with_reducible refine C1.mono ?_; rintro e w1 ⟨rfl, hb1⟩)
    have HX1 := Lib.hid (HX.out.self hb1)
    have HA1 := Lib.hid (HA.out.below hb1)
    have HB1 := Lib.hid (below_self HB0.out hb1)
    obtain ⟨bx, hbx⟩ : ∃ bx, w.heap.size = bx := ⟨_, rfl⟩
    rw [hbx] at HX1 ⊢
    have x0 : w1.cell? ⟨bx, 0, none⟩ = some (.string cc.name) := (HX1.out.cell 0).trans rfl
    have x1 : w1.cell? ⟨bx, 1, none⟩ = some (.slice A n ca) := (HX1.out.cell 1).trans rfl
    have x2 : w1.cell? ⟨bx, 2, none⟩ = some (.slice B m cb) := (HX1.out.cell 2).trans rfl
    have hcall : Calls Try.prog 43 #[.agg #[.string cc.name, .slice A n ca, .slice B m cb]] w1 fun e w' => ∃ A c, e = .returned (.slice A (firstK cc.gs n).length c) ∧ Hid (Owns w' w1.heap.size 4 (.slice A (firstK cc.gs n).length c) (bools (firstK cc.gs n))) ∧ Below w1.heap.size w1 w' := firsts_ref cc.gs cc.name A B n m ca cb w1 HA1.out HN.out (by have := HFP.out.gl; rw [HN.out] at this; exact this)
    clear C1 HX HA HB0 hb1 hbx
    go_wp2_with (go_at_call 43; with_reducible refine hcall.mono ?_; rintro e w2 ⟨A2, c2, rfl, hO2, hb2⟩)
    go_ret2
    exact FirstR.of (by rw [HC.out]; rfl) (by rw [HLL.out]; exact hO2.out.more HB1.out.size) (below_self HB1.out hb2)
end Go.Proofs.Ytjkmoahnociaiaa
