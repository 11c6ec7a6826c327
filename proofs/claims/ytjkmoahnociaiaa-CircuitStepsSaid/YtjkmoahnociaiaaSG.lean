/- CircuitSteps: the law's text answers true. -/
import Derived.Test.YtjkmoahnociaiaaSF
namespace Go.Proofs.Ytjkmoahnociaiaa
open Go.RowKit

theorem owns_some {w : World} {base n c : Nat} {e : TypeId} {A : Option Addr} {xs : List Value} (h : Owns w base e (.slice A n c) xs) (h0 : 0 < n) : ∃ g, A = some ⟨g, 0, none⟩ ∧ n ≤ c ∧ base ≤ g := by
  rcases h.2 with ⟨hv, _⟩ | ⟨g, cap, cur, hv, hb, hh, hnc, _⟩
  · cases hv; omega
  · cases hv; exact ⟨g, rfl, hnc, hb⟩
set_option maxRecDepth 100000 in
set_option maxHeartbeats 8000000 in
theorem steps_any (cc : Ct) (ins las : List Bool) (A B AI AL : Option Addr) (n m ni nl ca cb ci cl : Nat) (w : World) (hA : CReads w A (gcells cc.gs)) (hB : Reads w .i64 B cc.outs) (hI : CReads w AI (bools ins)) (hL : CReads w AL (bools las)) (hs : SizeP cc) (hn : cc.gs.length = n) (hm : cc.outs.length = m) (hni : ins.length = ni) (hnl : las.length = nl)
    (hn1 : (n + 2) * 56 ≤ 140737488355328) (hm1 : (m + 2) * 8 ≤ 140737488355328) (hni1 : ni + 2 ≤ 140737488355328) (hnl1 : nl + 2 ≤ 140737488355328) :
    Calls Try.prog 4 #[.agg #[.string cc.name, .slice A n ca, .slice B m cb], .slice AI ni ci, .slice AL nl cl] w fun e w' => e = .returned (.bool true) ∧ Below w.heap.size w w' := by
  have hbl := below1 w (.cells #[.string cc.name, .slice A n ca, .slice B m cb] 25)
  have HX := Lib.hid (Blk.new w 25 [.string cc.name, .slice A n ca, .slice B m cb])
  have HA := Lib.hid (hA.below hbl); have HB := Lib.hid (hB.below hbl); have HI := Lib.hid (hI.below hbl); have HL := Lib.hid (hL.below hbl); have HS := Lib.hid hs; have HN := Lib.hid hn; have HM := Lib.hid hm; have HNI := Lib.hid hni; have HNL := Lib.hid hnl; have HB0 := Lib.hid hbl
  have CT : Calls Try.prog 8 #[.agg #[.string cc.name, .slice A n ca, .slice B m cb]] (w.alloc (.cells #[.string cc.name, .slice A n ca, .slice B m cb] 25)) fun e w' => ∃ A' B' ca' cb', e = .returned (.agg #[.string cc.name, .slice A' n ca', .slice B' m cb']) ∧ Hid (TwinAt w' (w.alloc (.cells #[.string cc.name, .slice A n ca, .slice B m cb] 25)).heap.size A' B' n m ca' cb' cc.gs cc.outs) ∧ Below (w.alloc (.cells #[.string cc.name, .slice A n ca, .slice B m cb] 25)).heap.size (w.alloc (.cells #[.string cc.name, .slice A n ca, .slice B m cb] 25)) w' := twin_any A B n m ca cb cc.name cc.gs cc.outs _ HA.out HB.out hn hm hn1 hm1
  have HI0 := Lib.hid hI; have HL0 := Lib.hid hL
  clear hA hB hI hL hs hn hm hni hnl hbl
  obtain ⟨name, gs, outs⟩ := cc
  dsimp only at *
  go_enter Try.func4, Try.ntmps4
  go_upto_region 2 with (go_at_call 8; with_reducible refine CT.mono ?_; rintro e w1 ⟨A', B', ca', cb', rfl, HT1, hb1⟩)
  have HX1 := Lib.hid (HX.out.self hb1)
  have HA1 := Lib.hid (HA.out.below hb1)
  have HBB1 := Lib.hid (HB.out.below hb1)
  have HI1 := Lib.hid (HI.out.below hb1)
  have HL1 := Lib.hid (HL.out.below hb1)
  have HBW1 := Lib.hid (below_self HB0.out hb1)
  obtain ⟨gA, gB, rfl, rfl, hgA, hgA2, hgB, hgB2, hcA, hcB⟩ := HT1.out.form
  have hbl2 := below1 w1 (.cells #[.string name, .slice (some ⟨gA, 0, none⟩) n ca', .slice (some ⟨gB, 0, none⟩) m cb'] 25)
  have HXT := Lib.hid (Blk.new w1 25 [.string name, .slice (some ⟨gA, 0, none⟩) n ca', .slice (some ⟨gB, 0, none⟩) m cb'])
  have HX2 := Lib.hid (HX1.out.self hbl2)
  have HA2 := Lib.hid (HA1.out.below hbl2)
  have HBB2 := Lib.hid (HBB1.out.below hbl2)
  have HI2 := Lib.hid (HI1.out.below hbl2)
  have HL2 := Lib.hid (HL1.out.below hbl2)
  have HT2 := Lib.hid (HT1.out.below hbl2)
  have HBW2 := Lib.hid (below_then HBW1.out HBW1.out.size hbl2)
  clear CT HX HA HB HI HL HB0 hb1 HX1 HA1 HBB1 HI1 HL1 HT1 HBW1 hbl2
  change Code.wp _ _ _ _ (w1.alloc (.cells #[.string name, .slice (some ⟨gA, 0, none⟩) n ca', .slice (some ⟨gB, 0, none⟩) m cb'] 25))
  generalize w1.alloc (.cells #[.string name, .slice (some ⟨gA, 0, none⟩) n ca', .slice (some ⟨gB, 0, none⟩) m cb'] 25) = W2 at *
  obtain ⟨bt, hbt⟩ : ∃ bt, w1.heap.size = bt := ⟨_, rfl⟩
  obtain ⟨bx, hbx⟩ : ∃ bx, w.heap.size = bx := ⟨_, rfl⟩
  rw [hbt] at HXT ⊢
  rw [hbx] at HX2 ⊢
  have HBS := Lib.hid hbx
  clear hbt hbx
  have hr1 : Calls Try.prog 13 #[.slice AI ni ci] W2 fun e w' => ∃ A3 c3, e = .returned (.slice A3 (ni + 2) c3) ∧ Hid (Owns w' W2.heap.size 4 (.slice A3 (ni + 2) c3) (bools (ins ++ [true, false]))) ∧ Below W2.heap.size W2 w' := by
    refine (roomy_any AI ni ci ins W2 HI2.out HNI.out hni1).mono ?_
    rintro e w' ⟨A3, c3, rfl, ho, hb⟩
    rw [List.length_append, HNI.out] at ho ⊢
    exact ⟨A3, c3, rfl, ho, hb⟩
  go_upto_region 3 with (go_at_call 13; with_reducible refine hr1.mono ?_; rintro e w3 ⟨A3, c3, rfl, HO3, hb3⟩)
  have HL3 := Lib.hid (HL2.out.below hb3)
  have hr2 : Calls Try.prog 13 #[.slice AL nl cl] w3 fun e w' => ∃ A3 c3, e = .returned (.slice A3 (nl + 2) c3) ∧ Hid (Owns w' w3.heap.size 4 (.slice A3 (nl + 2) c3) (bools (las ++ [true, false]))) ∧ Below w3.heap.size w3 w' := by
    refine (roomy_any AL nl cl las w3 HL3.out HNL.out hnl1).mono ?_
    rintro e w' ⟨A3, c3, rfl, ho, hb⟩
    rw [List.length_append, HNL.out] at ho ⊢
    exact ⟨A3, c3, rfl, ho, hb⟩
  have HB3 := Lib.hid hb3
  clear hr1 hb3
  go_upto_region 4 with (go_at_call 13; with_reducible refine hr2.mono ?_; rintro e w4 ⟨A4, c4, rfl, HO4, hb4⟩)
  obtain ⟨ga, rfl, hca3, hga⟩ := owns_some HO3.out (by omega)
  obtain ⟨gb, rfl, hcb4, hgb⟩ := owns_some HO4.out (by omega)
  have hga3 : ga < w3.heap.size := (HO3.out.lt (g := ga) rfl).2
  have HWW : Hid (w.heap.size ≤ W2.heap.size) := Lib.hid HBW2.out.size
  have hb24 := below_self HB3.out hb4
  have HX4 := Lib.hid (HX2.out.self hb24)
  have HXT4 := Lib.hid (HXT.out.self hb24)
  have HA4 := Lib.hid (HA2.out.below hb24)
  have HBB4 := Lib.hid (HBB2.out.below hb24)
  have HI4 := Lib.hid (HI2.out.below hb24)
  have HL4 := Lib.hid (HL2.out.below hb24)
  have HT4 := Lib.hid (HT2.out.below hb24)
  have HBW4 := Lib.hid (below_self HBW2.out hb24)
  have HOa := Lib.hid (HO3.out.below hb4)
  have HOb := HO4
  clear hr2 hb24 HB3 hb4 HX2 HXT HA2 HBB2 HI2 HL2 HT2 HBW2 HO3 HO4 HL3
  obtain ⟨xo, hxo⟩ : ∃ xo, stepO ⟨name, gs, outs⟩ ins las = xo := ⟨_, rfl⟩
  obtain ⟨xn, hxn⟩ : ∃ xn, stepN ⟨name, gs, outs⟩ ins las = xn := ⟨_, rfl⟩
  obtain ⟨xf, hxf⟩ : ∃ xf, firstO ⟨name, gs, outs⟩ = xf := ⟨_, rfl⟩
  obtain ⟨cs, hcs⟩ : ∃ cs, stepCode ⟨name, gs, outs⟩ ins.length las.length = cs := ⟨_, rfl⟩
  obtain ⟨cf, hcf⟩ : ∃ cf, firstCode ⟨name, gs, outs⟩ = cf := ⟨_, rfl⟩
  obtain ⟨lo, hlo⟩ : ∃ lo, xo.length = lo := ⟨_, rfl⟩
  obtain ⟨ln, hln⟩ : ∃ ln, xn.length = ln := ⟨_, rfl⟩
  obtain ⟨lf, hlf⟩ : ∃ lf, xf.length = lf := ⟨_, rfl⟩
  have hlo1 : lo ≤ 65536 := by rw [← hlo, ← hxo]; exact stepO_len _ _ _
  have hln1 : ln ≤ 65536 := by rw [← hln, ← hxn]; exact stepN_len _ _ _
  have hlf1 : lf ≤ 65536 := by rw [← hlf, ← hxf]; exact firstO_len _
  have HIa : Hid (CReads w4 (some ⟨ga, 0, none⟩) (bools ins)) := Lib.hid (by
    have := owns_read HOa.out (by rw [List.length_append, HNI.out]; rfl)
    rw [bools_append] at this
    exact this.front)
  have HLb : Hid (CReads w4 (some ⟨gb, 0, none⟩) (bools las)) := Lib.hid (by
    have := owns_read HOb.out (by rw [List.length_append, HNL.out]; rfl)
    rw [bools_append] at this
    exact this.front)
  have hS1 : Hid (∀ W, Below w4.heap.size w4 W → Calls Try.prog 14 #[.agg #[.string name, .slice (some ⟨gA, 0, none⟩) n ca', .slice (some ⟨gB, 0, none⟩) m cb'], .slice (some ⟨ga, 0, none⟩) ni c3, .slice (some ⟨gb, 0, none⟩) nl c4] W (fun e w' => StepN W xo xn lo ln cs e w')) := Lib.hid fun W hW =>
    (Step_any ⟨name, gs, outs⟩ ins las (some ⟨gA, 0, none⟩) (some ⟨gB, 0, none⟩) (some ⟨ga, 0, none⟩) (some ⟨gb, 0, none⟩) n m ni nl ca' cb' c3 c4 W (HT4.out.gread.below hW) (HT4.out.oread.below hW) (HIa.out.below hW) (HLb.out.below hW) HS.out HN.out HM.out HNI.out HNL.out).mono fun e w' h => h.n hxo hxn hcs hlo hln
  have hS2 : Hid (∀ W, Below w4.heap.size w4 W → Calls Try.prog 15 #[.agg #[.string name, .slice A n ca, .slice B m cb], .slice AI ni ci, .slice AL nl cl] W (fun e w' => StepN W xo xn lo ln cs e w')) := Lib.hid fun W hW =>
    (Step_ref ⟨name, gs, outs⟩ ins las A B AI AL n m ni nl ca cb ci cl W (HA4.out.below hW) (HBB4.out.below hW) (HI4.out.below hW) (HL4.out.below hW) HS.out HN.out HM.out HNI.out HNL.out).mono fun e w' h => h.n hxo hxn hcs hlo hln
  have hF1 : Hid (∀ W, Below w4.heap.size w4 W → Calls Try.prog 16 #[.agg #[.string name, .slice (some ⟨gA, 0, none⟩) n ca', .slice (some ⟨gB, 0, none⟩) m cb']] W (fun e w' => FirstN W xf lf cf e w')) := Lib.hid fun W hW =>
    (first_any ⟨name, gs, outs⟩ (some ⟨gA, 0, none⟩) (some ⟨gB, 0, none⟩) n m ca' cb' W (HT4.out.gread.below hW) (HT4.out.oread.below hW) HS.out HN.out HM.out).mono fun e w' h => h.n hxf hcf hlf
  have hF2 : Hid (∀ W, Below w4.heap.size w4 W → Calls Try.prog 17 #[.agg #[.string name, .slice A n ca, .slice B m cb]] W (fun e w' => FirstN W xf lf cf e w')) := Lib.hid fun W hW =>
    (first_ref ⟨name, gs, outs⟩ A B n m ca cb W (HA4.out.below hW) (HBB4.out.below hW) HS.out HN.out HM.out).mono fun e w' h => h.n hxf hcf hlf
  have HKT : Hid (∀ W, Below w4.heap.size w4 W → W.cell? ⟨bt, 0, none⟩ = some (.string name) ∧ W.cell? ⟨bt, 1, none⟩ = some (.slice (some ⟨gA, 0, none⟩) n ca') ∧ W.cell? ⟨bt, 2, none⟩ = some (.slice (some ⟨gB, 0, none⟩) m cb')) := Lib.hid fun W hW => ⟨((HXT4.out.self hW).cell 0).trans rfl, ((HXT4.out.self hW).cell 1).trans rfl, ((HXT4.out.self hW).cell 2).trans rfl⟩
  have HKX : Hid (∀ W, Below w4.heap.size w4 W → W.cell? ⟨bx, 0, none⟩ = some (.string name) ∧ W.cell? ⟨bx, 1, none⟩ = some (.slice A n ca) ∧ W.cell? ⟨bx, 2, none⟩ = some (.slice B m cb)) := Lib.hid fun W hW => ⟨((HX4.out.self hW).cell 0).trans rfl, ((HX4.out.self hW).cell 1).trans rfl, ((HX4.out.self hW).cell 2).trans rfl⟩
  have HLO := Lib.hid hlo; have HLN := Lib.hid hln; have HLF := Lib.hid hlf
  clear hxo hxn hxf hcs hcf hlo hln hlf
  have q1 : (0 : Int) ≤ (ni : Int) := by omega
  have q2 : (0 : Int) ≤ (nl : Int) := by omega
  have q3 : (ni : Int) ≤ (c3 : Int) := by omega
  have q4 : (nl : Int) ≤ (c4 : Int) := by omega
  have HD := Lib.hid (below_drew0 (Below.refl w4.heap.size w4))
  have hc := hS1.out _ HD.out
  unfold StepN at hc
  go_region_held3 (fun w' => w'.cell? ⟨bt, 0, none⟩ = some (.string name) ∧ w'.cell? ⟨bt, 1, none⟩ = some (.slice (some ⟨gA, 0, none⟩) n ca') ∧ w'.cell? ⟨bt, 2, none⟩ = some (.slice (some ⟨gB, 0, none⟩) m cb'))
    (first | exact HKT.out _ HD.out | exact HKT.out _ HB5.out)
    (first
      | ((go_at_call 14; with_reducible refine hc.mono ?_; rintro e w5 ⟨Ao, co, An, cn, rfl, HH5, hb5⟩; have HB5 := Lib.hid (below_self HD.out hb5))))
  have HH5' : Hid (Hold w5 w4.heap.size [row1 4 (.slice Ao lo co) (bools xo), row1 4 (.slice An ln cn) (bools xn)]) := HH5
  have HD5 := Lib.hid (below_drew0 HB5.out)
  have hc5 := hS1.out _ HD5.out
  unfold StepN at hc5
  clear hc hb5 HH5 HD
  go_upto_region 5 with (fail)
  go_region_held3 (fun w' => w'.cell? ⟨bt, 0, none⟩ = some (.string name) ∧ w'.cell? ⟨bt, 1, none⟩ = some (.slice (some ⟨gA, 0, none⟩) n ca') ∧ w'.cell? ⟨bt, 2, none⟩ = some (.slice (some ⟨gB, 0, none⟩) m cb'))
    (first | exact HKT.out _ HD5.out | exact HKT.out _ HB6.out)
    (first
      | ((go_at_call 14; with_reducible refine hc5.mono ?_; rintro e w6 ⟨Aq, cq, Ak, ck, rfl, HH6, hb6⟩; have HB6 := Lib.hid (below_self HD5.out hb6))))
  have H6 := Lib.hid (Hold.append (w := w5.drew) HH5'.out hb6 HB5.out.size HH6.out)
  clear hc5 hb6 HH6 HH5' HD5 HB5 q1 q2 q3 q4
  have hc6 := hS2.out _ HB6.out
  unfold StepN at hc6
  obtain ⟨x0, x1, x2⟩ := HKX.out _ HB6.out
  go_upto_region 7 with (go_at_call 15; with_reducible refine hc6.mono ?_; rintro e w7 ⟨Ap, cp, Am, cm, rfl, HH7, hb7⟩)
  have HB7 := Lib.hid (below_self HB6.out hb7)
  have H7 := Lib.hid (Hold.append H6.out hb7 HB6.out.size HH7.out)
  clear hc6 hb7 HH7 H6 HB6 x0 x1 x2
  have hc7 := hF1.out _ HB7.out
  unfold FirstN at hc7
  obtain ⟨x0, x1, x2⟩ := HKT.out _ HB7.out
  go_upto_region 8 with (go_at_call 16; with_reducible refine hc7.mono ?_; rintro e w8 ⟨Ax, cx, rfl, HH8, hb8⟩)
  have HB8 := Lib.hid (below_self HB7.out hb8)
  have H8 := Lib.hid (Hold.append H7.out hb8 HB7.out.size HH8.out)
  clear hc7 hb8 HH8 H7 HB7 x0 x1 x2
  have hc8 := hF1.out _ HB8.out
  unfold FirstN at hc8
  obtain ⟨x0, x1, x2⟩ := HKT.out _ HB8.out
  go_upto_region 9 with (go_at_call 16; with_reducible refine hc8.mono ?_; rintro e w9 ⟨Az, cz, rfl, HH9, hb9⟩)
  have HB9 := Lib.hid (below_self HB8.out hb9)
  have H9 := Lib.hid (Hold.append H8.out hb9 HB8.out.size HH9.out)
  clear hc8 hb9 HH9 H8 HB8 x0 x1 x2
  have hc9 := hF2.out _ HB9.out
  unfold FirstN at hc9
  obtain ⟨x0, x1, x2⟩ := HKX.out _ HB9.out
  go_upto_region 10 with (go_at_call 17; with_reducible refine hc9.mono ?_; rintro e w10 ⟨Ay, cy, rfl, HH10, hb10⟩)
  have HB10 := Lib.hid (below_self HB9.out hb10)
  have H10 := Lib.hid (Hold.append H9.out hb10 HB9.out.size HH10.out)
  clear hc9 hb10 HH10 H9 HB9 x0 x1 x2 hS1 hS2 hF1 hF2
  have htr : ∀ (A1 A2 : Option Addr) (c1 c2 q : Nat) (xs : List Bool), Owns w10 w4.heap.size 4 (.slice A1 q c1) (bools xs) → Owns w10 w4.heap.size 4 (.slice A2 q c2) (bools xs) → xs.length = q → q ≤ 65536 → Hid (∀ W, Below w10.heap.size w10 W → Calls Try.prog 18 #[.slice A1 q c1, .slice A2 q c2] W fun e w' => e = .returned (.bool true) ∧ Below W.heap.size W w') := fun A1 A2 c1 c2 q xs h1 h2 hl hq => Lib.hid fun W hW =>
    truths_same A1 A2 q c1 c2 xs W ((owns_read h1 hl).below hW) ((owns_read h2 hl).below hW) hl (by omega)
  have t1 := htr Ao Ap co cp lo xo (H10.out.owns (i := 0) rfl) (H10.out.owns (i := 4) rfl) HLO.out hlo1
  have t2 := htr An Am cn cm ln xn (H10.out.owns (i := 1) rfl) (H10.out.owns (i := 5) rfl) HLN.out hln1
  have t3 := htr Aq Ap cq cp lo xo (H10.out.owns (i := 2) rfl) (H10.out.owns (i := 4) rfl) HLO.out hlo1
  have t4 := htr Ak Am ck cm ln xn (H10.out.owns (i := 3) rfl) (H10.out.owns (i := 5) rfl) HLN.out hln1
  have t5 := htr Ax Ay cx cy lf xf (H10.out.owns (i := 6) rfl) (H10.out.owns (i := 8) rfl) HLF.out hlf1
  have t6 := htr Az Ay cz cy lf xf (H10.out.owns (i := 7) rfl) (H10.out.owns (i := 8) rfl) HLF.out hlf1
  have HZ := Lib.hid (Below.refl w10.heap.size w10)
  clear htr
  go_upto_region 12 with (first
    | ((go_at_call 18; with_reducible refine (t1.out _ HZ.out).mono ?_; rintro e w11 ⟨rfl, hb11⟩; have Z1 := Lib.hid (below_self HZ.out hb11); clear hb11))
    | ((go_at_call 18; with_reducible refine (t2.out _ Z1.out).mono ?_; rintro e w12 ⟨rfl, hb12⟩; have Z2 := Lib.hid (below_self Z1.out hb12); clear hb12))
    | ((go_at_call 18; with_reducible refine (t3.out _ Z2.out).mono ?_; rintro e w13 ⟨rfl, hb13⟩; have Z3 := Lib.hid (below_self Z2.out hb13); clear hb13))
    | ((go_at_call 18; with_reducible refine (t4.out _ Z3.out).mono ?_; rintro e w14 ⟨rfl, hb14⟩; have Z4 := Lib.hid (below_self Z3.out hb14); clear hb14))
    | ((go_at_call 18; with_reducible refine (t5.out _ Z4.out).mono ?_; rintro e w15 ⟨rfl, hb15⟩; have Z5 := Lib.hid (below_self Z4.out hb15); clear hb15))
    | ((go_at_call 18; with_reducible refine (t6.out _ Z5.out).mono ?_; rintro e w16 ⟨rfl, hb16⟩; have Z6 := Lib.hid (below_self Z5.out hb16); clear hb16)))
  have HH16 := Lib.hid (Hold.nine (H10.out.below Z6.out))
  have HB16 := Lib.hid (below_self HB10.out Z6.out)
  clear t1 t2 t3 t4 t5 t6 HZ Z1 Z2 Z3 Z4 Z5 H10 HB10
  have hbl6 := below2 w16 (.cells #[.slice Ao lo co, .slice An ln cn, .slice Aq lo cq, .slice Ak ln ck, .slice Ax lf cx, .slice Az lf cz] 35) (.cells #[.slice Ap lo cp, .slice Am ln cm, .slice Ap lo cp, .slice Am ln cm, .slice Ay lf cy, .slice Ay lf cy] 35)
  have hal : Calls Try.prog 19 #[.slice (some ⟨w16.heap.size, 0, none⟩) 6 6, .slice (some ⟨w16.heap.size + 1, 0, none⟩) 6 6] ((w16.alloc (.cells #[.slice Ao lo co, .slice An ln cn, .slice Aq lo cq, .slice Ak ln ck, .slice Ax lf cx, .slice Az lf cz] 35)).alloc (.cells #[.slice Ap lo cp, .slice Am ln cm, .slice Ap lo cp, .slice Am ln cm, .slice Ay lf cy, .slice Ay lf cy] 35)) fun e w' => e = .returned (.bool true) ∧ Below w4.heap.size ((w16.alloc (.cells #[.slice Ao lo co, .slice An ln cn, .slice Aq lo cq, .slice Ak ln ck, .slice Ax lf cx, .slice Az lf cz] 35)).alloc (.cells #[.slice Ap lo cp, .slice Am ln cm, .slice Ap lo cp, .slice Am ln cm, .slice Ay lf cy, .slice Ay lf cy] 35)) w' := by
    have e1 := HLO.out; have e2 := HLN.out; have e3 := HLF.out
    subst e1 e2 e3
    refine alone_any w4.heap.size (some ⟨w16.heap.size, 0, none⟩) (some ⟨w16.heap.size + 1, 0, none⟩) 6 6 6 [⟨Ao, co, xo⟩, ⟨An, cn, xn⟩, ⟨Aq, cq, xo⟩, ⟨Ak, ck, xn⟩, ⟨Ax, cx, xf⟩, ⟨Az, cz, xf⟩] [LR.row ⟨Ap, cp, xo⟩, LR.row ⟨Am, cm, xn⟩, LR.row ⟨Ay, cy, xf⟩] [LR.v ⟨Ap, cp, xo⟩, LR.v ⟨Am, cm, xn⟩, LR.v ⟨Ap, cp, xo⟩, LR.v ⟨Am, cm, xn⟩, LR.v ⟨Ay, cy, xf⟩, LR.v ⟨Ay, cy, xf⟩] _ (HH16.out.below hbl6) ?_ ?_ (wants6 rfl rfl rfl rfl rfl rfl) rfl ?_ (by decide) (Nat.le_trans HB16.out.size hbl6.size)
    · exact RdT.of_blk ((Blk.new w16 35 [.slice Ao xo.length co, .slice An xn.length cn, .slice Aq xo.length cq, .slice Ak xn.length ck, .slice Ax xf.length cx, .slice Az xf.length cz]).alloc _)
    · exact RdT.of_blk (blk_new2 w16 _ 35 [.slice Ap xo.length cp, .slice Am xn.length cm, .slice Ap xo.length cp, .slice Am xn.length cm, .slice Ay xf.length cy, .slice Ay xf.length cy])
    · intro r hr
      simp only [List.mem_cons, List.not_mem_nil, or_false] at hr
      rcases hr with rfl | rfl | rfl | rfl | rfl | rfl <;> assumption
  have HB6' := Lib.hid (below_then HB16.out HB16.out.size hbl6)
  clear hbl6 HH16 HB16 Z6
  go_upto_region 13 with (go_at_call 19; with_reducible refine hal.mono ?_; rintro e w17 ⟨rfl, hb17⟩)
  have HB17 := Lib.hid (HB6'.out.trans hb17)
  clear hal hb17 HB6' HLO HLN HLF hlo1 hln1 hlf1
  have hra : Hid (∀ W, Below w4.heap.size w4 W → Calls Try.prog 13 #[.slice AI ni ci] W fun e w' => ∃ A3 c, e = .returned (.slice A3 (ni + 2) c) ∧ CReads w' A3 (bools (ins ++ [true, false])) ∧ Below W.heap.size W w') := Lib.hid fun W hW => by
    refine (roomy_any AI ni ci ins W (HI4.out.below hW) HNI.out hni1).mono ?_
    rintro e w' ⟨A3, c, rfl, ho, hb⟩
    rw [List.length_append, HNI.out] at ho ⊢
    exact ⟨A3, c, rfl, owns_read ho.out (by rw [List.length_append, HNI.out]), hb⟩
  have hrb : Hid (∀ W, Below w4.heap.size w4 W → Calls Try.prog 13 #[.slice AL nl cl] W fun e w' => ∃ A3 c, e = .returned (.slice A3 (nl + 2) c) ∧ CReads w' A3 (bools (las ++ [true, false])) ∧ Below W.heap.size W w') := Lib.hid fun W hW => by
    refine (roomy_any AL nl cl las W (HL4.out.below hW) HNL.out hnl1).mono ?_
    rintro e w' ⟨A3, c, rfl, ho, hb⟩
    rw [List.length_append, HNL.out] at ho ⊢
    exact ⟨A3, c, rfl, owns_read ho.out (by rw [List.length_append, HNL.out]), hb⟩
  have hta : Hid (∀ W A3 c, Below w4.heap.size w4 W → CReads W A3 (bools (ins ++ [true, false])) → Calls Try.prog 18 #[.slice (some ⟨ga, 0, none⟩) (ni + 2) c3, .slice A3 (ni + 2) c] W fun e w' => e = .returned (.bool true) ∧ Below W.heap.size W w') := Lib.hid fun W A3 c hW hR =>
    truths_same (some ⟨ga, 0, none⟩) A3 (ni + 2) c3 c (ins ++ [true, false]) W ((owns_read HOa.out (by rw [List.length_append, HNI.out]; rfl)).below hW) hR (by rw [List.length_append, HNI.out]; rfl) (by omega)
  have htb : Hid (∀ W A3 c, Below w4.heap.size w4 W → CReads W A3 (bools (las ++ [true, false])) → Calls Try.prog 18 #[.slice (some ⟨gb, 0, none⟩) (nl + 2) c4, .slice A3 (nl + 2) c] W fun e w' => e = .returned (.bool true) ∧ Below W.heap.size W w') := Lib.hid fun W A3 c hW hR =>
    truths_same (some ⟨gb, 0, none⟩) A3 (nl + 2) c4 c (las ++ [true, false]) W ((owns_read HOb.out (by rw [List.length_append, HNL.out]; rfl)).below hW) hR (by rw [List.length_append, HNL.out]; rfl) (by omega)
  have hkp : Hid (∀ W, Below w4.heap.size w4 W → Calls Try.prog 12 #[.agg #[.string name, .slice (some ⟨gA, 0, none⟩) n ca', .slice (some ⟨gB, 0, none⟩) m cb'], .agg #[.string name, .slice A n ca, .slice B m cb]] W fun e w' => e = .returned (.bool true) ∧ Below W.heap.size W w') := Lib.hid fun W hW =>
    kept_any _ (some ⟨gA, 0, none⟩) (some ⟨gB, 0, none⟩) A B n m ca' cb' ca cb name gs outs W (HT4.out.below hW) (HA4.out.below hW) (HBB4.out.below hW) (by omega) (by omega)
  go_upto_region 15 with (first
    | ((go_at_call 13; with_reducible refine (hra.out _ HB17.out).mono ?_; rintro e w18 ⟨A18, c18, rfl, hR18, hb18⟩; have Z1 := Lib.hid (below_self HB17.out hb18); have HR18 := Lib.hid hR18; clear hb18 hR18))
    | ((go_at_call 18; with_reducible refine (hta.out _ A18 c18 Z1.out HR18.out).mono ?_; rintro e w19 ⟨rfl, hb19⟩; have Z2 := Lib.hid (below_self Z1.out hb19); clear hb19))
    | ((go_at_call 13; with_reducible refine (hrb.out _ Z2.out).mono ?_; rintro e w20 ⟨A20, c20, rfl, hR20, hb20⟩; have Z3 := Lib.hid (below_self Z2.out hb20); have HR20 := Lib.hid hR20; clear hb20 hR20))
    | ((go_at_call 18; with_reducible refine (htb.out _ A20 c20 Z3.out HR20.out).mono ?_; rintro e w21 ⟨rfl, hb21⟩; have Z4 := Lib.hid (below_self Z3.out hb21); clear hb21; have hkk := And.intro (HKT.out _ Z4.out) (HKX.out _ Z4.out); obtain ⟨⟨x0, x1, x2⟩, ⟨y0, y1, y2⟩⟩ := hkk))
    | ((go_at_call 12; with_reducible refine (hkp.out _ Z4.out).mono ?_; rintro e w22 ⟨rfl, hb22⟩; have Z5 := Lib.hid (below_self Z4.out hb22); clear hb22 x0 x1 x2 y0 y1 y2)))
  clear hra hrb hta htb hkp Z1 Z2 Z3 Z4 HR18 HR20 HB17
  have hct : Calls Try.prog 20 #[.agg #[.string name, .slice (some ⟨gA, 0, none⟩) n ca', .slice (some ⟨gB, 0, none⟩) m cb']] w22 fun e w' => TurnedR w22 (w.alloc (.cells #[.string name, .slice A n ca, .slice B m cb] 25)).heap.size (some ⟨gA, 0, none⟩) (some ⟨gB, 0, none⟩) n m ca' cb' name gs outs e w' := turned_any _ (some ⟨gA, 0, none⟩) (some ⟨gB, 0, none⟩) n m ca' cb' name gs outs w22 (HT4.out.below Z5.out) hn1 hm1
  unfold TurnedR at hct
  obtain ⟨x0, x1, x2⟩ := HKT.out _ Z5.out
  go_upto_region 16 with (go_at_call 20; with_reducible refine hct.mono ?_; rintro e w23 ⟨A20, A21, c20, c21, rfl, HT23, HG23, HO23, hg23⟩)
  change Code.wp _ _ _ _ (w23.alloc (.cells #[.string name, .slice A20 n c20, .slice A21 m c21] 25))
  have hbl9 := below1 w23 (.cells #[.string name, .slice A20 n c20, .slice A21 m c21] 25)
  have htg : Typed w22 gA 33 := rows_typed (rows_below HT4.out.g Z5.out) rfl
  have HXD := Lib.hid (Blk.new w23 25 [.string name, .slice A20 n c20, .slice A21 m c21])
  have HXT9 := Lib.hid (((HXT4.out.self Z5.out).aside htg (by decide) hg23).self hbl9)
  have HOa9 := Lib.hid (((HOa.out.below Z5.out).aside htg (by decide) hg23).below hbl9)
  have HOb9 := Lib.hid (((HOb.out.below Z5.out).aside htg (by decide) hg23).below hbl9)
  have HT9 := Lib.hid (HT23.out.below hbl9)
  have HG9 := Lib.hid (rows_below HG23.out hbl9)
  have HO9 := Lib.hid (rows_below HO23.out hbl9)
  have hwz : w4.heap.size ≤ w22.heap.size := Z5.out.size
  have HBW9 : Hid (Below w.heap.size w (w23.alloc (.cells #[.string name, .slice A20 n c20, .slice A21 m c21] 25))) := Lib.hid (by
    have h1 := below_self HBW4.out Z5.out
    have h2 := h1.grown hg23 h1.size (fun g e => by
      have h3 : gA = g := Option.some.inj e
      have h4 : w.heap.size ≤ gA := Nat.le_trans (below1 w _).size hgA
      omega)
    exact below_then h2 h2.size hbl9)
  have hga9 : ga < w22.heap.size := ((HOa.out.below Z5.out).lt (g := ga) rfl).2
  clear hct x0 x1 x2 hbl9 htg HT23 HG23 HO23 hg23 Z5 HXT4 HOa HOb HT4 HX4 HA4 HBB4 HI4 HL4 HBW4 HIa HLb HKT HKX
  generalize w23.alloc (.cells #[.string name, .slice A20 n c20, .slice A21 m c21] 25) = W9 at *
  obtain ⟨bd, hbd⟩ : ∃ bd, w23.heap.size = bd := ⟨_, rfl⟩
  rw [hbd] at HXD ⊢
  clear hbd
  have hcf : Calls Try.prog 21 #[.slice (some ⟨ga, 0, none⟩) (ni + 2) c3] W9 fun e w' => e = .returned (.tuple #[]) ∧ Hid (Owns w' W2.heap.size 4 (.slice (some ⟨ga, 0, none⟩) (ni + 2) c3) (bools ((ins ++ [true, false]).map (!·)))) ∧ W9.grownBy w' ((some (⟨ga, 0, none⟩ : Addr)).map (·.block)) := flip_any W2.heap.size (some ⟨ga, 0, none⟩) (ni + 2) c3 (ins ++ [true, false]) W9 HOa9.out (by rw [List.length_append, HNI.out]; rfl) (by omega)
  go_upto_region 17 with (go_at_call 21; with_reducible refine hcf.mono ?_; rintro e w24 ⟨rfl, HOaF, hg24⟩)
  have hg24' : W9.grownBy w24 (some ga) := hg24
  have htb : Typed W9 ga 4 := HOa9.out.typed rfl
  have HXD24 := Lib.hid (HXD.out.aside htb (by decide) hg24')
  have HXT24 := Lib.hid (HXT9.out.aside htb (by decide) hg24')
  have HOb24 : Hid (Owns w24 w3.heap.size 4 (.slice (some ⟨gb, 0, none⟩) (nl + 2) c4) (bools (las ++ [true, false]))) := Lib.hid (HOb9.out.kept hg24' (.inr (fun e => by have : gb = ga := Option.some.inj e; omega)))
  have HT24 : Hid (TwinAt w24 (w.alloc (.cells #[.string name, .slice A n ca, .slice B m cb] 25)).heap.size (some ⟨gA, 0, none⟩) (some ⟨gB, 0, none⟩) n m ca' cb' (gs.map turnO) outs) := Lib.hid
    ⟨World.ownsRow.kept HT9.out.g hg24' (.inr fun e => (rows_typed HT9.out.g (g := gA) rfl).ne htb (by decide) (Option.some.inj e)), HT9.out.o.aside htb (by decide) hg24', HT9.out.gl, HT9.out.ol⟩
  have HG24 : Hid (CReads w24 A20 (gcells (gs.map turnO))) := Lib.hid (rows_read (World.ownsRow.kept HG9.out hg24' (by
    rcases hv : (Value.slice A20 n c20).ownBlock with _ | g
    · exact .inl rfl
    · exact .inr fun e => (rows_typed HG9.out hv).ne htb (by decide) (Option.some.inj e))) (by decide))
  have HO24 : Hid (CReads w24 A21 (nums .i64 outs)) := Lib.hid (rows_read (World.ownsRow.kept HO9.out hg24' (by
    rcases hv : (Value.slice A21 m c21).ownBlock with _ | g
    · exact .inl rfl
    · exact .inr fun e => (rows_typed HO9.out hv).ne htb (by decide) (Option.some.inj e))) (by decide))
  have HBW24 : Hid (Below w.heap.size w w24) := Lib.hid (HBW9.out.grown hg24' HBW9.out.size (fun g e => by
    have h3 : ga = g := Option.some.inj e
    have := HWW.out
    omega))
  have HI24 := Lib.hid (HI0.out.below HBW24.out)
  have HL24 := Lib.hid (HL0.out.below HBW24.out)
  have HIa24 : Hid (CReads w24 (some ⟨ga, 0, none⟩) (bools (ins.map (!·)))) := Lib.hid (by
    have := owns_read HOaF.out (by rw [List.length_map, List.length_append, HNI.out]; rfl)
    rw [List.map_append, bools_append] at this
    exact this.front)
  have HLb24 : Hid (CReads w24 (some ⟨gb, 0, none⟩) (bools las)) := Lib.hid (by
    have := owns_read HOb24.out (by rw [List.length_append, HNL.out]; rfl)
    rw [bools_append] at this
    exact this.front)
  have HSZ : Hid (SizeP ⟨name, gs.map turnO, outs⟩) := Lib.hid (turnO_size HS.out)
  have HKL : Hid ((gs.map turnO).length = n) := Lib.hid (by rw [List.length_map]; exact HN.out)
  have HNI' : Hid ((ins.map (!·)).length = ni) := Lib.hid (by rw [List.length_map]; exact HNI.out)
  clear hcf hg24 hg24' htb HXD HXT9 HOb9 HT9 HG9 HO9 HBW9 HOaF HOa9 HS HN hwz hga9 HI0 HL0
  generalize gs.map turnO = ts at *
  obtain ⟨is, his⟩ : ∃ is, is = ins.map (!·) := ⟨_, rfl⟩
  rw [← his] at HIa24 HNI'
  obtain ⟨xo', hxo⟩ : ∃ xo, stepO ⟨name, ts, outs⟩ is las = xo := ⟨_, rfl⟩
  obtain ⟨xn', hxn⟩ : ∃ xn, stepN ⟨name, ts, outs⟩ is las = xn := ⟨_, rfl⟩
  obtain ⟨xf', hxf⟩ : ∃ xf, firstO ⟨name, ts, outs⟩ = xf := ⟨_, rfl⟩
  obtain ⟨cs', hcs⟩ : ∃ cs, stepCode ⟨name, ts, outs⟩ is.length las.length = cs := ⟨_, rfl⟩
  obtain ⟨cf', hcf⟩ : ∃ cf, firstCode ⟨name, ts, outs⟩ = cf := ⟨_, rfl⟩
  obtain ⟨lo', hlo⟩ : ∃ lo, xo'.length = lo := ⟨_, rfl⟩
  obtain ⟨ln', hln⟩ : ∃ ln, xn'.length = ln := ⟨_, rfl⟩
  obtain ⟨lf', hlf⟩ : ∃ lf, xf'.length = lf := ⟨_, rfl⟩
  have hlo1 : lo' ≤ 65536 := by rw [← hlo, ← hxo]; exact stepO_len _ _ _
  have hln1 : ln' ≤ 65536 := by rw [← hln, ← hxn]; exact stepN_len _ _ _
  have hlf1 : lf' ≤ 65536 := by rw [← hlf, ← hxf]; exact firstO_len _
  have hS1 : Hid (∀ W, Below w24.heap.size w24 W → Calls Try.prog 14 #[.agg #[.string name, .slice (some ⟨gA, 0, none⟩) n ca', .slice (some ⟨gB, 0, none⟩) m cb'], .slice (some ⟨ga, 0, none⟩) ni c3, .slice (some ⟨gb, 0, none⟩) nl c4] W (fun e w' => StepN W xo' xn' lo' ln' cs' e w')) := Lib.hid fun W hW =>
    (Step_any ⟨name, ts, outs⟩ is las (some ⟨gA, 0, none⟩) (some ⟨gB, 0, none⟩) (some ⟨ga, 0, none⟩) (some ⟨gb, 0, none⟩) n m ni nl ca' cb' c3 c4 W (HT24.out.gread.below hW) (HT24.out.oread.below hW) (HIa24.out.below hW) (HLb24.out.below hW) HSZ.out HKL.out HM.out HNI'.out HNL.out).mono fun e w' h => h.n hxo hxn hcs hlo hln
  have hS2 : Hid (∀ W A3 c, Below w24.heap.size w24 W → CReads W A3 (bools is) → Calls Try.prog 15 #[.agg #[.string name, .slice A20 n c20, .slice A21 m c21], .slice A3 ni c, .slice AL nl cl] W (fun e w' => StepN W xo' xn' lo' ln' cs' e w')) := Lib.hid fun W A3 c hW hR =>
    (Step_ref ⟨name, ts, outs⟩ is las A20 A21 A3 AL n m ni nl c20 c21 c cl W (HG24.out.below hW) (CReads.reads (HO24.out.below hW)) hR (HL24.out.below hW) HSZ.out HKL.out HM.out HNI'.out HNL.out).mono fun e w' h => h.n hxo hxn hcs hlo hln
  have hF1 : Hid (∀ W, Below w24.heap.size w24 W → Calls Try.prog 16 #[.agg #[.string name, .slice (some ⟨gA, 0, none⟩) n ca', .slice (some ⟨gB, 0, none⟩) m cb']] W (fun e w' => FirstN W xf' lf' cf' e w')) := Lib.hid fun W hW =>
    (first_any ⟨name, ts, outs⟩ (some ⟨gA, 0, none⟩) (some ⟨gB, 0, none⟩) n m ca' cb' W (HT24.out.gread.below hW) (HT24.out.oread.below hW) HSZ.out HKL.out HM.out).mono fun e w' h => h.n hxf hcf hlf
  have hF2 : Hid (∀ W, Below w24.heap.size w24 W → Calls Try.prog 17 #[.agg #[.string name, .slice A20 n c20, .slice A21 m c21]] W (fun e w' => FirstN W xf' lf' cf' e w')) := Lib.hid fun W hW =>
    (first_ref ⟨name, ts, outs⟩ A20 A21 n m c20 c21 W (HG24.out.below hW) (CReads.reads (HO24.out.below hW)) HSZ.out HKL.out HM.out).mono fun e w' h => h.n hxf hcf hlf
  have hfl : Hid (∀ W, Below w24.heap.size w24 W → Calls Try.prog 22 #[.slice AI ni ci] W fun e w' => ∃ A3 c, e = .returned (.slice A3 ni c) ∧ CReads w' A3 (bools is) ∧ Below W.heap.size W w') := Lib.hid fun W hW => by
    refine (flipped_any AI ni ci ins W (HI24.out.below hW) HNI.out (by omega)).mono ?_
    rintro e w' ⟨A3, c, rfl, ho, hb⟩
    rw [← his, HNI'.out] at ho ⊢
    exact ⟨A3, c, rfl, owns_read ho.out HNI'.out, hb⟩
  have HKT : Hid (∀ W, Below w24.heap.size w24 W → W.cell? ⟨bt, 0, none⟩ = some (.string name) ∧ W.cell? ⟨bt, 1, none⟩ = some (.slice (some ⟨gA, 0, none⟩) n ca') ∧ W.cell? ⟨bt, 2, none⟩ = some (.slice (some ⟨gB, 0, none⟩) m cb')) := Lib.hid fun W hW => ⟨((HXT24.out.self hW).cell 0).trans rfl, ((HXT24.out.self hW).cell 1).trans rfl, ((HXT24.out.self hW).cell 2).trans rfl⟩
  have HKX : Hid (∀ W, Below w24.heap.size w24 W → W.cell? ⟨bd, 0, none⟩ = some (.string name) ∧ W.cell? ⟨bd, 1, none⟩ = some (.slice A20 n c20) ∧ W.cell? ⟨bd, 2, none⟩ = some (.slice A21 m c21)) := Lib.hid fun W hW => ⟨((HXD24.out.self hW).cell 0).trans rfl, ((HXD24.out.self hW).cell 1).trans rfl, ((HXD24.out.self hW).cell 2).trans rfl⟩
  have HLO := Lib.hid hlo; have HLN := Lib.hid hln; have HLF := Lib.hid hlf
  clear hxo hxn hxf hcs hcf hlo hln hlf his HXT24 HXD24 HOb24 HT24 HG24 HO24 HI24 HL24 HIa24 HLb24 HSZ HKL
  have q1 : (0 : Int) ≤ (ni : Int) := by omega
  have q2 : (0 : Int) ≤ (nl : Int) := by omega
  have q3 : (ni : Int) ≤ (c3 : Int) := by omega
  have q4 : (nl : Int) ≤ (c4 : Int) := by omega
  have HD := Lib.hid (below_drew0 (Below.refl w24.heap.size w24))
  have hc := hS1.out _ HD.out
  unfold StepN at hc
  go_region_held3 (fun w' => w'.cell? ⟨bt, 0, none⟩ = some (.string name) ∧ w'.cell? ⟨bt, 1, none⟩ = some (.slice (some ⟨gA, 0, none⟩) n ca') ∧ w'.cell? ⟨bt, 2, none⟩ = some (.slice (some ⟨gB, 0, none⟩) m cb'))
    (first | exact HKT.out _ HD.out | exact HKT.out _ HB25.out)
    (first
      | ((go_at_call 14; with_reducible refine hc.mono ?_; rintro e w25 ⟨A25, c25, A26, c26, rfl, HH25, hb25⟩; have HB25 := Lib.hid (below_self HD.out hb25))))
  have HH25' : Hid (Hold w25 w24.heap.size [row1 4 (.slice A25 lo' c25) (bools xo'), row1 4 (.slice A26 ln' c26) (bools xn')]) := HH25
  have HD2 := Lib.hid (below_drew0 HB25.out)
  have hc2 := hfl.out _ HD2.out
  clear hc hb25 HH25 HD q1 q2 q3 q4
  go_upto_region 18 with (fail)
  go_region_held3 (fun w' => w'.cell? ⟨bd, 0, none⟩ = some (.string name) ∧ w'.cell? ⟨bd, 1, none⟩ = some (.slice A20 n c20) ∧ w'.cell? ⟨bd, 2, none⟩ = some (.slice A21 m c21))
    (first | exact HKX.out _ HD2.out | exact HKX.out _ HB26.out | exact HKX.out _ HB27.out)
    (first
      | ((go_at_call 22; with_reducible refine hc2.mono ?_; rintro e w26 ⟨A27, c27, rfl, hR26, hb26⟩; have HB26 := Lib.hid (below_self HD2.out hb26); have hc3 := hS2.out _ A27 c27 HB26.out hR26; unfold StepN at hc3))
      | ((go_at_call 15; with_reducible refine hc3.mono ?_; rintro e w27 ⟨A28, c28, A29, c29, rfl, HH27, hb27⟩; have HB27 := Lib.hid (below_self HB26.out hb27))))
  have H27 := Lib.hid (Hold.append (w := w26) (HH25'.out.below (w' := w26) (below_self (below_drew0 (Below.refl w25.heap.size w25)) hb26)) hb27 HB26.out.size HH27.out)
  clear hc2 hc3 hb26 hb27 hR26 HH27 HH25' HD2 HB25 HB26
  have hc7 := hF1.out _ HB27.out
  unfold FirstN at hc7
  obtain ⟨x0, x1, x2⟩ := HKT.out _ HB27.out
  go_upto_region 20 with (go_at_call 16; with_reducible refine hc7.mono ?_; rintro e w28 ⟨A30, c30, rfl, HH28, hb28⟩)
  have HB28 := Lib.hid (below_self HB27.out hb28)
  have H28 := Lib.hid (Hold.append H27.out hb28 HB27.out.size HH28.out)
  clear hc7 hb28 HH28 H27 HB27 x0 x1 x2
  have hc8 := hF2.out _ HB28.out
  unfold FirstN at hc8
  obtain ⟨x0, x1, x2⟩ := HKX.out _ HB28.out
  go_upto_region 21 with (go_at_call 17; with_reducible refine hc8.mono ?_; rintro e w29 ⟨A31, c31, rfl, HH29, hb29⟩)
  have HB29 := Lib.hid (below_self HB28.out hb29)
  have H29 := Lib.hid (Hold.append H28.out hb29 HB28.out.size HH29.out)
  clear hc8 hb29 HH29 H28 HB28 x0 x1 x2 hS1 hS2 hF1 hF2 hfl HKT HKX
  have htr : ∀ (A1 A2 : Option Addr) (c1 c2 q : Nat) (xs : List Bool), Owns w29 w24.heap.size 4 (.slice A1 q c1) (bools xs) → Owns w29 w24.heap.size 4 (.slice A2 q c2) (bools xs) → xs.length = q → q ≤ 65536 → Hid (∀ W, Below w29.heap.size w29 W → Calls Try.prog 18 #[.slice A1 q c1, .slice A2 q c2] W fun e w' => e = .returned (.bool true) ∧ Below W.heap.size W w') := fun A1 A2 c1 c2 q xs h1 h2 hl hq => Lib.hid fun W hW =>
    truths_same A1 A2 q c1 c2 xs W ((owns_read h1 hl).below hW) ((owns_read h2 hl).below hW) hl (by omega)
  have t1 := htr A25 A28 c25 c28 lo' xo' (H29.out.owns (i := 0) rfl) (H29.out.owns (i := 2) rfl) HLO.out hlo1
  have t2 := htr A26 A29 c26 c29 ln' xn' (H29.out.owns (i := 1) rfl) (H29.out.owns (i := 3) rfl) HLN.out hln1
  have t3 := htr A30 A31 c30 c31 lf' xf' (H29.out.owns (i := 4) rfl) (H29.out.owns (i := 5) rfl) HLF.out hlf1
  have HZ := Lib.hid (Below.refl w29.heap.size w29)
  clear htr
  go_wp2_with (first
    | ((go_at_call 18; with_reducible refine (t1.out _ HZ.out).mono ?_; rintro e w30 ⟨rfl, hb30⟩; have Z1 := Lib.hid (below_self HZ.out hb30); clear hb30))
    | ((go_at_call 18; with_reducible refine (t2.out _ Z1.out).mono ?_; rintro e w31 ⟨rfl, hb31⟩; have Z2 := Lib.hid (below_self Z1.out hb31); clear hb31))
    | ((go_at_call 18; with_reducible refine (t3.out _ Z2.out).mono ?_; rintro e w32 ⟨rfl, hb32⟩; have Z3 := Lib.hid (below_self Z2.out hb32); clear hb32)))
  go_ret
  exact ⟨rfl, below_self HBW24.out (below_self HB29.out Z3.out)⟩
end Go.Proofs.Ytjkmoahnociaiaa
