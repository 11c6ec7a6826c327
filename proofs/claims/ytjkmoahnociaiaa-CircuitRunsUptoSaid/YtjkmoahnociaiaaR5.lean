/- CircuitRuns: the law's text answers true. -/
import Derived.Test.YtjkmoahnociaiaaR4
namespace Go.Proofs.Ytjkmoahnociaiaa
open Go.RowKit

set_option maxRecDepth 100000 in
set_option maxHeartbeats 8000000 in
theorem runs_any (cc : Ct) (I : List LR) (A B AI : Option Addr) (n m N ca cb ci : Nat) (w : World) (hA : CReads w A (gcells cc.gs)) (hB : Reads w .i64 B cc.outs) (hI : CReads w AI (I.map LR.v)) (hr : ∀ r ∈ I, CReads w r.A (bools r.xs)) (hs : SizeP cc) (hn : cc.gs.length = n) (hm : cc.outs.length = m) (hN : I.length = N)
    (hn1 : (n + 2) * 56 ≤ 140737488355328) (hm1 : (m + 2) * 8 ≤ 140737488355328) (hN1 : N * 24 ≤ 140737488355328) (hq1 : ∀ r ∈ I, r.xs.length + 2 ≤ 140737488355328) :
    Calls Try.prog 5 #[.agg #[.string cc.name, .slice A n ca, .slice B m cb], .slice AI N ci] w fun e w' => e = .returned (.bool true) ∧ Below w.heap.size w w' := by
  have hbl := below1 w (.cells #[.string cc.name, .slice A n ca, .slice B m cb] 25)
  have HX := Lib.hid (Blk.new w 25 [.string cc.name, .slice A n ca, .slice B m cb])
  have HA := Lib.hid (hA.below hbl); have HB := Lib.hid (hB.below hbl); have HS := Lib.hid hs; have HN := Lib.hid hn; have HM := Lib.hid hm; have HIN := Lib.hid hN; have HQ1 := Lib.hid hq1; have HB0 := Lib.hid hbl
  have HI0 := Lib.hid hI; have HR0 := Lib.hid hr
  have CT : Calls Try.prog 8 #[.agg #[.string cc.name, .slice A n ca, .slice B m cb]] (w.alloc (.cells #[.string cc.name, .slice A n ca, .slice B m cb] 25)) fun e w' => ∃ A' B' ca' cb', e = .returned (.agg #[.string cc.name, .slice A' n ca', .slice B' m cb']) ∧ Hid (TwinAt w' (w.alloc (.cells #[.string cc.name, .slice A n ca, .slice B m cb] 25)).heap.size A' B' n m ca' cb' cc.gs cc.outs) ∧ Below (w.alloc (.cells #[.string cc.name, .slice A n ca, .slice B m cb] 25)).heap.size (w.alloc (.cells #[.string cc.name, .slice A n ca, .slice B m cb] 25)) w' := twin_any A B n m ca cb cc.name cc.gs cc.outs _ HA.out HB.out hn hm hn1 hm1
  clear hA hB hI hr hs hn hm hN hq1 hbl
  obtain ⟨name, gs, outs⟩ := cc
  dsimp only at *
  go_enter Try.func5, Try.ntmps5
  go_upto_region 2 with (go_at_call 8; with_reducible refine CT.mono ?_; rintro e w1 ⟨A', B', ca', cb', rfl, HT1, hb1⟩)
  have HX1 := Lib.hid (HX.out.self hb1)
  have HA1 := Lib.hid (HA.out.below hb1)
  have HBB1 := Lib.hid (HB.out.below hb1)
  have HBW1 := Lib.hid (below_self HB0.out hb1)
  obtain ⟨gA, gB, rfl, rfl, hgA, hgA2, hgB, hgB2, hcA, hcB⟩ := HT1.out.form
  have hbl2 := below1 w1 (.cells #[.string name, .slice (some ⟨gA, 0, none⟩) n ca', .slice (some ⟨gB, 0, none⟩) m cb'] 25)
  have HXT := Lib.hid (Blk.new w1 25 [.string name, .slice (some ⟨gA, 0, none⟩) n ca', .slice (some ⟨gB, 0, none⟩) m cb'])
  have HX2 := Lib.hid (HX1.out.self hbl2)
  have HA2 := Lib.hid (HA1.out.below hbl2)
  have HBB2 := Lib.hid (HBB1.out.below hbl2)
  have HT2 := Lib.hid (HT1.out.below hbl2)
  have HBW2 := Lib.hid (below_then HBW1.out HBW1.out.size hbl2)
  clear CT HX HA HB HB0 hb1 HX1 HA1 HBB1 HT1 HBW1 hbl2
  change Code.wp _ _ _ _ (w1.alloc (.cells #[.string name, .slice (some ⟨gA, 0, none⟩) n ca', .slice (some ⟨gB, 0, none⟩) m cb'] 25))
  generalize w1.alloc (.cells #[.string name, .slice (some ⟨gA, 0, none⟩) n ca', .slice (some ⟨gB, 0, none⟩) m cb'] 25) = W2 at *
  obtain ⟨bt, hbt⟩ : ∃ bt, w1.heap.size = bt := ⟨_, rfl⟩
  obtain ⟨bx, hbx⟩ : ∃ bx, w.heap.size = bx := ⟨_, rfl⟩
  rw [hbt] at HXT ⊢
  rw [hbx] at HX2 ⊢
  have HBS := Lib.hid hbx
  clear hbt hbx
  have HI2 := Lib.hid (HI0.out.below HBW2.out)
  have HR2 : Hid (∀ r ∈ I, CReads W2 r.A (bools r.xs)) := Lib.hid fun r h => (HR0.out r h).below HBW2.out
  have HV0 : Hid (VH W2 W2.heap.size (.slice none 0 0) []) := Lib.hid (VH.start _ _)
  have HG0 : Hid (([] : List LR).map LR.xs = (I.map LR.xs).take 0) := Lib.hid (by simp)
  have HW0 := Lib.hid (Below.refl W2.heap.size W2)
  go_upto_region 4 with (fail)
  go_loopw [6, 7] (fun s6 s7 wr => ∃ (k : Nat) (G : List LR), k ≤ N ∧ s7 = .int .i64 k ∧ Hid (G.map LR.xs = (I.map LR.xs).take k) ∧ Hid (VH wr W2.heap.size s6 G) ∧ Hid (Below W2.heap.size W2 wr)) (fun _ s7 _ => N - (intOf s7).toNat)
  case atStart => exact ⟨0, [], by omega, rfl, HG0, HV0, HW0⟩
  case round =>
    clear HV0 HG0 HW0
    obtain ⟨k, G, hk, rfl, HG, HV, HB⟩ := hrel
    by_cases hlt : k < N
    · obtain ⟨r, hr⟩ : ∃ r, I[k]? = some r := ⟨_, List.getElem?_eq_getElem (by rw [HIN.out]; exact hlt)⟩
      obtain ⟨ib, io, rfl, l1⟩ := HI2.out.at_ (x := r.v) (by rw [List.getElem?_map, hr]; rfl)
      obtain ⟨q, hq⟩ : ∃ q, r.xs.length = q := ⟨_, rfl⟩
      unfold LR.v at l1
      have hql := HQ1.out r (List.mem_of_getElem? hr)
      rw [hq] at l1 hql
      have HKI : Hid (∀ W, Below W2.heap.size W2 W → W.cell? ⟨ib, io + k, none⟩ = some (.slice r.A q r.c)) := Lib.hid fun W hW => cell_kept hW l1
      have HD := Lib.hid (below_drew0 HB.out)
      have hc := roomy_cut r.A q r.c r.xs wr.drew ((HR2.out r (List.mem_of_getElem? hr)).below HD.out) hq hql
      have hGl : (G.map LR.v).length = k := by
        have := congrArg List.length HG.out
        rw [List.length_map, List.length_take, List.length_map, HIN.out] at this
        rw [List.length_map]; omega
      have HGN : Hid ((I.map LR.xs).take (k + 1) = (I.map LR.xs).take k ++ [r.xs]) := Lib.hid (by rw [List.take_add_one, List.getElem?_map, hr]; rfl)
      have HQL := Lib.hid hq
      have hk0 : (0 : Int) ≤ (k : Int) := by omega
      have hkN : (k : Int) < (N : Int) := by omega
      have hq0 : (0 : Int) ≤ (q : Int) := by omega
      clear hr hq l1
      have HVD := Lib.hid HV.out.drew
      have hds : W2.heap.size ≤ wr.drew.heap.size := HD.out.size
      go_upto_region 6 with (fail)
      go_region_held3 (fun w' => w'.cell? ⟨ib, io + k, none⟩ = some (.slice r.A q r.c))
        (first | exact HKI.out _ HD.out | exact HKI.out _ HB3.out | exact HKI.out _ (HB3.out.alloc HB3.out.size _) | exact HKI.out _ HB5.out)
        (first
          | ((go_at_call 13; with_reducible refine hc.mono ?_; rintro e w3 ⟨g3, c3, rfl, hqc, HO3, hb3⟩; have HB3 := Lib.hid (below_self HD.out hb3); have hgs := given_step HVD.out hb3 hds HQL.out HO3.out; have HGS := Lib.hid hgs; have HVO := Lib.hid hgs.2.1; have HC4 := Lib.hid hgs.2.2.1; have HB4 := Lib.hid (HB3.out.alloc HB3.out.size (.cells [Value.slice (some ⟨g3, 0, none⟩) q c3].toArray 35)); clear hgs))
          | (((try go_split_ands); refine step_cells rfl (.tmp 28) (.tmp 40) 43 ?ho W2.heap.size 35 _ 24 Try.underlying43 info_bools rfl u6 (G.map LR.v) ?hs HVO.out (some ⟨w3.heap.size, 0, none⟩) 1 1 [.slice (some ⟨g3, 0, none⟩) q c3] ?hx HC4.out rfl ?h1 ?h2 ?h3 ?h4 ?_; (case ho => rfl); (case hs => simp [Act.eval, Act.put]); (case hx => simp [Act.eval, Act.put]); (case h1 => intro u hu; simp at hu; subst hu; rfl); (case h2 => rw [hGl]; unfold maxLen; omega); (case h3 => rw [hGl]; omega); (case h4 => exact HB4.out.size); intro v5 w5 hown5 hg5 hb5; have HB5 := Lib.hid (HB4.out.grown hg5 HB4.out.size (fun g e => (HVO.out.lt e).1)))))
      rw [← HGS.out.2.2.2] at hown5
      have HV5 := Lib.hid (VH.push HGS.out.1 hown5 hg5 hb5)
      have HG5 : Hid ((G ++ [(⟨some ⟨g3, 0, none⟩, c3, r.xs⟩ : LR)]).map LR.xs = (I.map LR.xs).take (k + 1)) := Lib.hid (by rw [List.map_append, HG.out, HGN.out]; rfl)
      clear hc hGl HGN HQL HVD hds hqc HO3 hb3 HB3 HGS HVO HC4 HB4 hown5 hg5 hb5 HG HV HB HD HKI
      go_wp2
      go_roundw
      case rel => exact ⟨k + 1, _, by omega, by go_num, HG5, HV5, HB5⟩
      case measure => simp [intOf]; omega
    · obtain rfl : k = N := by omega
      have hGx : G.map LR.xs = I.map LR.xs := by
        have := HG.out
        rwa [List.take_of_length_le (by rw [List.length_map, HIN.out]; exact Nat.le_refl _)] at this
      have hGl : G.length = k := by
        have := congrArg List.length hGx
        rw [List.length_map, List.length_map, HIN.out] at this
        exact this
      obtain ⟨Ag, cg, hvg⟩ := HV.out.vec.form
      rw [List.length_map, hGl] at hvg
      subst hvg
      have HGX := Lib.hid hGx; have HGL := Lib.hid hGl
      have HX3 := Lib.hid (HX2.out.self HB.out)
      have HXT3 := Lib.hid (HXT.out.self HB.out)
      have HA3 := Lib.hid (HA2.out.below HB.out)
      have HBB3 := Lib.hid (HBB2.out.below HB.out)
      have HT3 := Lib.hid (HT2.out.below HB.out)
      have HI3 := Lib.hid (HI2.out.below HB.out)
      have HR3 : Hid (∀ r ∈ I, CReads wr r.A (bools r.xs)) := Lib.hid fun r h => (HR2.out r h).below HB.out
      have HBW3 := Lib.hid (below_self HBW2.out HB.out)
      have HWW : Hid (w.heap.size ≤ W2.heap.size) := Lib.hid HBW2.out.size
      have HWB : Hid (W2.heap.size ≤ wr.heap.size) := Lib.hid HB.out.size
      obtain ⟨inss, hinss⟩ : ∃ inss, I.map LR.xs = inss := ⟨_, rfl⟩
      have HIS : Hid (inss.length = k) := Lib.hid (by rw [← hinss, List.length_map]; exact HIN.out)
      obtain ⟨xr, hxr⟩ : ∃ xr, runO ⟨name, gs, outs⟩ inss = xr := ⟨_, rfl⟩
      obtain ⟨cr, hcr⟩ : ∃ cr, runCode ⟨name, gs, outs⟩ inss = cr := ⟨_, rfl⟩
      obtain ⟨lr, hlr⟩ : ∃ lr, xr.length = lr := ⟨_, rfl⟩
      have hlr1 : lr ≤ k := by rw [← hlr, ← hxr, ← HIS.out]; exact runO_length_le _ _
      have HXL : Hid (∀ x ∈ xr, x.length ≤ 65536) := Lib.hid fun x hx => runO_len (by rw [hxr]; exact hx)
      have hR1 : Hid (∀ W, Below wr.heap.size wr W → Calls Try.prog 23 #[.agg #[.string name, .slice (some ⟨gA, 0, none⟩) n ca', .slice (some ⟨gB, 0, none⟩) m cb'], .slice Ag k cg] W (fun e w' => RunN W xr lr cr e w')) := Lib.hid fun W hW =>
        (Run_any ⟨name, gs, outs⟩ G (some ⟨gA, 0, none⟩) (some ⟨gB, 0, none⟩) Ag n m k ca' cb' cg W (HT3.out.gread.below hW) (HT3.out.oread.below hW) ((HV.out.list HGL.out).below hW) (fun r h => (HV.out.rows r h).below hW) HS.out HN.out HM.out HGL.out (by omega)).mono fun e w' h => RunR.n h (by rw [HGX.out, hinss]; exact hxr) (by rw [HGX.out, hinss]; exact hcr) hlr
      have hR2 : Hid (∀ W, Below wr.heap.size wr W → Calls Try.prog 24 #[.agg #[.string name, .slice A n ca, .slice B m cb], .slice AI k ci] W (fun e w' => RunN W xr lr cr e w')) := Lib.hid fun W hW =>
        (Run_ref ⟨name, gs, outs⟩ I A B AI n m k ca cb ci W (HA3.out.below hW) (HBB3.out.below hW) (HI3.out.below hW) (fun r h => (HR3.out r h).below hW) HS.out HN.out HM.out HIN.out (by omega)).mono fun e w' h => RunR.n h (by rw [hinss]; exact hxr) (by rw [hinss]; exact hcr) hlr
      have HKT : Hid (∀ W, Below wr.heap.size wr W → W.cell? ⟨bt, 0, none⟩ = some (.string name) ∧ W.cell? ⟨bt, 1, none⟩ = some (.slice (some ⟨gA, 0, none⟩) n ca') ∧ W.cell? ⟨bt, 2, none⟩ = some (.slice (some ⟨gB, 0, none⟩) m cb')) := Lib.hid fun W hW => ⟨((HXT3.out.self hW).cell 0).trans rfl, ((HXT3.out.self hW).cell 1).trans rfl, ((HXT3.out.self hW).cell 2).trans rfl⟩
      have HKX : Hid (∀ W, Below wr.heap.size wr W → W.cell? ⟨bx, 0, none⟩ = some (.string name) ∧ W.cell? ⟨bx, 1, none⟩ = some (.slice A n ca) ∧ W.cell? ⟨bx, 2, none⟩ = some (.slice B m cb)) := Lib.hid fun W hW => ⟨((HX3.out.self hW).cell 0).trans rfl, ((HX3.out.self hW).cell 1).trans rfl, ((HX3.out.self hW).cell 2).trans rfl⟩
      have HII := Lib.hid hinss
      have HLR := Lib.hid hlr
      clear hGx hGl hinss hxr hcr hlr HG hk hlt HB HX2 HXT HA2 HBB2 HT2 HI2 HR2 HBW2
      rename World => w3
      have hc3 := hR1.out w3 (Below.refl _ _)
      unfold RunN at hc3
      obtain ⟨x0, x1, x2⟩ := HKT.out w3 (Below.refl _ _)
      go_upto_region 8 with (go_at_call 23; with_reducible refine hc3.mono ?_; rintro e w4 ⟨R1, A1, c1, rfl, HX4, HV4, hb4⟩)
      have HB4 := Lib.hid hb4
      clear hc3 hb4 x0 x1 x2
      have hc4 := hR1.out w4 HB4.out
      unfold RunN at hc4
      obtain ⟨x0, x1, x2⟩ := HKT.out w4 HB4.out
      go_upto_region 9 with (go_at_call 23; with_reducible refine hc4.mono ?_; rintro e w5 ⟨R2, A2, c2, rfl, HX5, HV5, hb5⟩)
      have HB5 := Lib.hid (below_self HB4.out hb5)
      have H5 := Lib.hid (Hold.append HV4.out hb5 HB4.out.size HV5.out)
      have HV45 := Lib.hid (HV4.out.below hb5)
      clear hc4 hb5 x0 x1 x2 HV4 HB4
      have hc5 := hR2.out w5 HB5.out
      unfold RunN at hc5
      obtain ⟨x0, x1, x2⟩ := HKX.out w5 HB5.out
      go_upto_region 10 with (go_at_call 24; with_reducible refine hc5.mono ?_; rintro e w6 ⟨R3, A3, c3, rfl, HX6, HV6, hb6⟩)
      have HB6 := Lib.hid (below_self HB5.out hb6)
      have H6 := Lib.hid (Hold.append H5.out hb6 HB5.out.size HV6.out)
      have HV16 := Lib.hid (HV45.out.below hb6)
      have HV26 := Lib.hid (HV5.out.below hb6)
      clear hc5 hb6 x0 x1 x2 HV45 HV5 H5 HB5
      have hlen : ∀ R : List LR, R.map LR.xs = xr → R.length = lr ∧ ∀ r ∈ R, r.xs.length ≤ 65536 := fun R h =>
        ⟨by have := congrArg List.length h; rw [List.length_map, HLR.out] at this; exact this, fun r hr => HXL.out _ (by rw [← h]; exact List.mem_map.2 ⟨r, hr, rfl⟩)⟩
      have HL1 := Lib.hid (hlen R1 HX4.out); have HL2 := Lib.hid (hlen R2 HX5.out); have HL3 := Lib.hid (hlen R3 HX6.out)
      have t1 : Hid (∀ W, Below w6.heap.size w6 W → Calls Try.prog 25 #[.slice A1 lr c1, .slice A3 lr c3] W fun e w' => e = .returned (.bool true) ∧ Below W.heap.size W w') := Lib.hid fun W hW =>
        lists_same A1 A3 lr c1 c3 R1 R3 W ((HV16.out.list HL1.out.1).below hW) ((HV6.out.list HL3.out.1).below hW) (fun r h => (HV16.out.rows r h).below hW) (fun r h => (HV6.out.rows r h).below hW) (HX4.out.trans HX6.out.symm) HL1.out.1 (by omega) (fun r h => by have := HL1.out.2 r h; omega)
      have t2 : Hid (∀ W, Below w6.heap.size w6 W → Calls Try.prog 25 #[.slice A2 lr c2, .slice A3 lr c3] W fun e w' => e = .returned (.bool true) ∧ Below W.heap.size W w') := Lib.hid fun W hW =>
        lists_same A2 A3 lr c2 c3 R2 R3 W ((HV26.out.list HL2.out.1).below hW) ((HV6.out.list HL3.out.1).below hW) (fun r h => (HV26.out.rows r h).below hW) (fun r h => (HV6.out.rows r h).below hW) (HX5.out.trans HX6.out.symm) HL2.out.1 (by omega) (fun r h => by have := HL2.out.2 r h; omega)
      have t3 : Hid (∀ W, Below w3.heap.size w3 W → Calls Try.prog 25 #[.slice Ag k cg, .slice AI k ci] W fun e w' => e = .returned (.bool true) ∧ Below W.heap.size W w') := Lib.hid fun W hW =>
        lists_same Ag AI k cg ci G I W ((HV.out.list HGL.out).below hW) (HI3.out.below hW) (fun r h => (HV.out.rows r h).below hW) (fun r h => (HR3.out r h).below hW) HGX.out HGL.out (by omega) (fun r h => by
          have h1 : r.xs ∈ I.map LR.xs := by rw [← HGX.out]; exact List.mem_map.2 ⟨r, h, rfl⟩
          obtain ⟨s, hs, e⟩ := List.mem_map.1 h1
          have := HQ1.out s hs
          rw [← e]; omega)
      have t4 : Hid (∀ W, Below w3.heap.size w3 W → Calls Try.prog 12 #[.agg #[.string name, .slice (some ⟨gA, 0, none⟩) n ca', .slice (some ⟨gB, 0, none⟩) m cb'], .agg #[.string name, .slice A n ca, .slice B m cb]] W fun e w' => e = .returned (.bool true) ∧ Below W.heap.size W w') := Lib.hid fun W hW =>
        kept_any _ (some ⟨gA, 0, none⟩) (some ⟨gB, 0, none⟩) A B n m ca' cb' ca cb name gs outs W (HT3.out.below hW) (HA3.out.below hW) (HBB3.out.below hW) (by omega) (by omega)
      have HZ := Lib.hid (Below.refl w6.heap.size w6)
      clear hlen
      go_upto_region 12 with (first
        | ((go_at_call 25; with_reducible refine (t1.out _ HZ.out).mono ?_; rintro e w7 ⟨rfl, hb7⟩; have Z1 := Lib.hid (below_self HZ.out hb7); clear hb7))
        | ((go_at_call 25; with_reducible refine (t2.out _ Z1.out).mono ?_; rintro e w8 ⟨rfl, hb8⟩; have Z2 := Lib.hid (below_self Z1.out hb8); clear hb8; have Y2 := Lib.hid (below_self HB6.out Z2.out)))
        | ((go_at_call 25; with_reducible refine (t3.out _ Y2.out).mono ?_; rintro e w9 ⟨rfl, hb9⟩; have Z3 := Lib.hid (below_self Z2.out hb9); have Y3 := Lib.hid (below_self Y2.out hb9); clear hb9; have hkk := And.intro (HKT.out _ Y3.out) (HKX.out _ Y3.out); obtain ⟨⟨x0, x1, x2⟩, ⟨y0, y1, y2⟩⟩ := hkk))
        | ((go_at_call 12; with_reducible refine (t4.out _ Y3.out).mono ?_; rintro e w10 ⟨rfl, hb10⟩; have Z4 := Lib.hid (below_self Z3.out hb10); have Y4 := Lib.hid (below_self Y3.out hb10); clear hb10 x0 x1 x2 y0 y1 y2)))
      have H10 := Lib.hid (H6.out.below Z4.out)
      have HV1 := Lib.hid (HV16.out.below Z4.out); have HV2 := Lib.hid (HV26.out.below Z4.out); have HV3 := Lib.hid (HV6.out.below Z4.out)
      clear t1 t2 t3 t4 HZ Z1 Z2 Z3 Z4 Y2 Y3 H6 HV16 HV26 HV6 HB6
      obtain ⟨T, hT⟩ : ∃ T, min lr 200 = T := ⟨_, rfl⟩
      have hT1 : T ≤ lr := by omega
      have hT2 : T ≤ 200 := by omega
      have hT3 : T = lr ∨ T = 200 := by omega
      have HH0 : Hid (Hold w10 w10.heap.size [row1 35 (.slice none 0 0) ((inter R1 R2 0).map LR.v), row1 35 (.slice none 0 0) ((inter R3 R3 0).map LR.v)]) := Lib.hid (by rw [inter_zero, inter_zero]; exact (Hold.nil w10 w10.heap.size).nilRow.nilRow)
      have HW0 := Lib.hid (Below.refl w10.heap.size w10)
      clear hT
      go_upto_region 15 with (fail)
      go_loopw [14, 15, 16] (fun s14 s15 s16 wq => ∃ j : Nat, j ≤ T ∧ s16 = .int .i64 j ∧ Hid (Hold wq w10.heap.size [row1 35 s14 ((inter R1 R2 j).map LR.v), row1 35 s15 ((inter R3 R3 j).map LR.v)]) ∧ Hid (Below w10.heap.size w10 wq)) (fun _ _ s16 _ => T - (intOf s16).toNat)
      case atStart => exact ⟨0, by omega, rfl, HH0, HW0⟩
      case round =>
        clear HH0 HW0
        obtain ⟨j, hj, rfl, HH, HB⟩ := hrel
        by_cases hlt : j < T
        · obtain ⟨r1, hr1⟩ : ∃ r, R1[j]? = some r := ⟨_, List.getElem?_eq_getElem (by rw [HL1.out.1]; omega)⟩
          obtain ⟨r2, hr2⟩ : ∃ r, R2[j]? = some r := ⟨_, List.getElem?_eq_getElem (by rw [HL2.out.1]; omega)⟩
          obtain ⟨r3, hr3⟩ : ∃ r, R3[j]? = some r := ⟨_, List.getElem?_eq_getElem (by rw [HL3.out.1]; omega)⟩
          have hx1 : r1.xs = r3.xs := by
            have h1 := congrArg (fun (l : List (List Bool)) => l[j]?) (HX4.out.trans HX6.out.symm)
            simp only [List.getElem?_map, hr1, hr3, Option.map_some, Option.some.injEq] at h1
            exact h1
          have hx2 : r2.xs = r3.xs := by
            have h1 := congrArg (fun (l : List (List Bool)) => l[j]?) (HX5.out.trans HX6.out.symm)
            simp only [List.getElem?_map, hr2, hr3, Option.map_some, Option.some.injEq] at h1
            exact h1
          obtain ⟨q, hq⟩ : ∃ q, r3.xs.length = q := ⟨_, rfl⟩
          have hv1 : r1.v = .slice r1.A q r1.c := by unfold LR.v; rw [hx1, hq]
          have hv2 : r2.v = .slice r2.A q r2.c := by unfold LR.v; rw [hx2, hq]
          have hv3 : r3.v = .slice r3.A q r3.c := by unfold LR.v; rw [hq]
          obtain ⟨b1, o1, rfl, l1⟩ := (HV1.out.list HL1.out.1).at_ (x := r1.v) (by rw [List.getElem?_map, hr1]; rfl)
          obtain ⟨b2, o2, rfl, l2⟩ := (HV2.out.list HL2.out.1).at_ (x := r2.v) (by rw [List.getElem?_map, hr2]; rfl)
          obtain ⟨b3, o3, rfl, l3⟩ := (HV3.out.list HL3.out.1).at_ (x := r3.v) (by rw [List.getElem?_map, hr3]; rfl)
          rw [hv1] at l1
          rw [hv2] at l2
          rw [hv3] at l3
          have HKI : Hid (∀ W, Below w10.heap.size w10 W → W.cell? ⟨b1, o1 + j, none⟩ = some (.slice r1.A q r1.c) ∧ W.cell? ⟨b2, o2 + j, none⟩ = some (.slice r2.A q r2.c) ∧ W.cell? ⟨b3, o3 + j, none⟩ = some (.slice r3.A q r3.c)) := Lib.hid fun W hW => ⟨cell_kept hW l1, cell_kept hW l2, cell_kept hW l3⟩
          have HF1 : Hid ((inter R1 R2 (j + 1)).map LR.v = (inter R1 R2 j).map LR.v ++ [.slice r1.A q r1.c, .slice r2.A q r2.c]) := Lib.hid (by rw [inter_succ hr1 hr2, List.map_append, ← hv1, ← hv2]; rfl)
          have HF2 : Hid ((inter R3 R3 (j + 1)).map LR.v = (inter R3 R3 j).map LR.v ++ [.slice r3.A q r3.c, .slice r3.A q r3.c]) := Lib.hid (by rw [inter_succ hr3 hr3, List.map_append, ← hv3]; rfl)
          have hil1 : ((inter R1 R2 j).map LR.v).length = 2 * j := by rw [List.length_map]; exact inter_length (by rw [HL1.out.1]; omega) (by rw [HL2.out.1]; omega)
          have hil2 : ((inter R3 R3 j).map LR.v).length = 2 * j := by rw [List.length_map]; exact inter_length (by rw [HL3.out.1]; omega) (by rw [HL3.out.1]; omega)
          have HD := Lib.hid (below_drew0 HB.out)
          have hbl := below1 wr.drew (.cells [Value.slice r1.A q r1.c, Value.slice r2.A q r2.c].toArray 35)
          have HH1 := Lib.hid (Hold.below (w := wr.drew) HH.out hbl)
          have HO1 := Lib.hid (HH1.out.owns (i := 0) rfl)
          have HC1 : Hid (CReads (wr.drew.alloc (.cells [Value.slice r1.A q r1.c, Value.slice r2.A q r2.c].toArray 35)) (some ⟨wr.heap.size, 0, none⟩) [Value.slice r1.A q r1.c, Value.slice r2.A q r2.c]) := Lib.hid (CReads.of_blk (Blk.new wr.drew 35 [Value.slice r1.A q r1.c, Value.slice r2.A q r2.c]))
          have HB1 := Lib.hid (HD.out.alloc HD.out.size (.cells [Value.slice r1.A q r1.c, Value.slice r2.A q r2.c].toArray 35))
          have hj0 : (0 : Int) ≤ (j : Int) := by omega
          have hjl : (j : Int) < (lr : Int) := by omega
          have hj2 : (j : Int) < 200 := by omega
          clear hr1 hr2 hr3 hx1 hx2 hq hv1 hv2 hv3 l1 l2 l3 hbl
          go_upto_region 17 with (fail)
          go_region_held3 (fun w' => w'.cell? ⟨b1, o1 + j, none⟩ = some (.slice r1.A q r1.c) ∧ w'.cell? ⟨b2, o2 + j, none⟩ = some (.slice r2.A q r2.c))
            (first | exact ⟨(HKI.out _ HD.out).1, (HKI.out _ HD.out).2.1⟩ | exact ⟨(HKI.out _ HB1.out).1, (HKI.out _ HB1.out).2.1⟩ | exact ⟨(HKI.out _ HB17.out).1, (HKI.out _ HB17.out).2.1⟩)
            (first
              | (((try go_split_ands); refine step_cells rfl (.tmp 102) (.tmp 111) 43 ?ho7 w10.heap.size 35 _ 24 Try.underlying43 info_bools rfl u14 ((inter R1 R2 j).map LR.v) ?hs7 HO1.out (some ⟨wr.heap.size, 0, none⟩) 2 2 [Value.slice r1.A q r1.c, Value.slice r2.A q r2.c] ?hx7 HC1.out rfl ?h17 ?h27 ?h37 ?h47 ?_; (case ho7 => rfl); (case hs7 => simp [Act.eval, Act.put]); (case hx7 => simp [Act.eval, Act.put]); (case h17 => intro u hu; simp at hu; rcases hu with rfl | rfl <;> rfl); (case h27 => rw [hil1]; unfold maxLen; omega); (case h37 => rw [hil1]; omega); (case h47 => exact HB1.out.size); intro v17 w17 hown17 hg17 hb17; have HB17 := Lib.hid (HB1.out.grown hg17 HB1.out.size (fun g e => (HO1.out.lt e).1)))))
          have HH17 := HH1.out.push (i := 0) rfl hown17 hg17 hb17
          rw [← HF1.out] at HH17
          have HH17 := Lib.hid HH17
          clear hown17 hg17 hb17 HH1 HO1 HC1 HB1 HD HH HB hil1 HF1
          have HD := Lib.hid (below_drew0 HB17.out)
          have hbl := below1 w17.drew (.cells [Value.slice r3.A q r3.c, Value.slice r3.A q r3.c].toArray 35)
          have HH1 := Lib.hid (Hold.below (w := w17.drew) HH17.out hbl)
          have HO1 := Lib.hid (HH1.out.owns (i := 1) rfl)
          have HC1 : Hid (CReads (w17.drew.alloc (.cells [Value.slice r3.A q r3.c, Value.slice r3.A q r3.c].toArray 35)) (some ⟨w17.heap.size, 0, none⟩) [Value.slice r3.A q r3.c, Value.slice r3.A q r3.c]) := Lib.hid (CReads.of_blk (Blk.new w17.drew 35 [Value.slice r3.A q r3.c, Value.slice r3.A q r3.c]))
          have HB1 := Lib.hid (HD.out.alloc HD.out.size (.cells [Value.slice r3.A q r3.c, Value.slice r3.A q r3.c].toArray 35))
          clear hbl
          go_upto_region 18 with (fail)
          go_region_held3 (fun w' => w'.cell? ⟨b3, o3 + j, none⟩ = some (.slice r3.A q r3.c))
            (first | exact (HKI.out _ HD.out).2.2 | exact (HKI.out _ HB1.out).2.2 | exact (HKI.out _ HB18.out).2.2)
            (first
              | (((try go_split_ands); refine step_cells rfl (.tmp 113) (.tmp 122) 43 ?ho8 w10.heap.size 35 _ 24 Try.underlying43 info_bools rfl u15 ((inter R3 R3 j).map LR.v) ?hs8 HO1.out (some ⟨w17.heap.size, 0, none⟩) 2 2 [Value.slice r3.A q r3.c, Value.slice r3.A q r3.c] ?hx8 HC1.out rfl ?h18 ?h28 ?h38 ?h48 ?_; (case ho8 => rfl); (case hs8 => simp [Act.eval, Act.put]); (case hx8 => simp [Act.eval, Act.put]); (case h18 => intro u hu; simp at hu; subst hu; rfl); (case h28 => rw [hil2]; unfold maxLen; omega); (case h38 => rw [hil2]; omega); (case h48 => exact HB1.out.size); intro v18 w18 hown18 hg18 hb18; have HB18 := Lib.hid (HB1.out.grown hg18 HB1.out.size (fun g e => (HO1.out.lt e).1)))))
          have HH18 := HH1.out.push (i := 1) rfl hown18 hg18 hb18
          rw [← HF2.out] at HH18
          have HH18 := Lib.hid HH18
          clear hown18 hg18 hb18 HH1 HO1 HC1 HB1 HD HH17 HB17 hil2 HF2 HKI
          go_wp2
          go_roundw
          case rel => exact ⟨j + 1, by omega, by go_num, HH18, HB18⟩
          case measure => simp [intOf]; omega
        · obtain ⟨Aa, ca2, hva⟩ := (HH.out.owns (i := 0) rfl).form
          obtain ⟨Ab, cb2, hvb⟩ := (HH.out.owns (i := 1) rfl).form
          obtain rfl : j = T := by omega
          have hil1 : (inter R1 R2 j).length = 2 * j := inter_length (by rw [HL1.out.1]; omega) (by rw [HL2.out.1]; omega)
          have hil2 : (inter R3 R3 j).length = 2 * j := inter_length (by rw [HL3.out.1]; omega) (by rw [HL3.out.1]; omega)
          obtain ⟨d, hd⟩ : ∃ d, 2 * j = d := ⟨_, rfl⟩
          rw [List.length_map, hil1, hd] at hva
          rw [List.length_map, hil2, hd] at hvb
          subst hva hvb
          have hbw := below_self Y4.out HB.out
          have hal : Calls Try.prog 19 #[.slice Aa d ca2, .slice Ab d cb2] wr fun e w' => e = .returned (.bool true) ∧ Below w3.heap.size wr w' ∧ Hold w' w3.heap.size (row1 35 (.slice A3 lr c3) (R3.map LR.v) :: R3.map LR.row) :=
            alone_keep w3.heap.size Aa Ab d ca2 cb2 (inter R1 R2 j) (row1 35 (.slice A3 lr c3) (R3.map LR.v) :: R3.map LR.row) ((inter R3 R3 j).map LR.v) wr
              (runs_rows (by rw [HL1.out.1]; omega) (by rw [HL2.out.1]; omega) (H10.out.below HB.out)) (RdT.of_owns (HH.out.owns (i := 0) rfl) (by rw [List.length_map, hil1]; exact hd)) (RdT.of_owns (HH.out.owns (i := 1) rfl) (by rw [List.length_map, hil2]; exact hd))
              (runs_wants (HX4.out.trans HX6.out.symm) (HX5.out.trans HX6.out.symm) (by rw [HL3.out.1]; omega)) (hil1.trans hd) (fun r hr => by
                obtain ⟨i, hi⟩ := List.getElem?_of_mem hr
                obtain ⟨_, h3 | h3⟩ := inter_get hi
                · exact HL1.out.2 r (List.mem_of_getElem? h3.2)
                · exact HL2.out.2 r (List.mem_of_getElem? h3.2)) (by omega) hbw.size
          have HBW := Lib.hid hbw
          have hfork : ((j : Int) < (lr : Int) ∧ ¬ (j : Int) < 200) ∨ ¬ (j : Int) < (lr : Int) := by omega
          clear hbw hil1 hil2 hd hT1 hT2 hT3 hj hlt HH H10 HV1 HV2 HV3 HL1 HL2 Y4 HX4 HX5
          rename World => w11
          rcases hfork with ⟨h1, h2⟩ | h1
          all_goals
            go_upto_region 21 with (go_at_call 19; with_reducible refine hal.mono ?_; rintro e w12 ⟨rfl, hb12, hK12⟩)
            have HB12 := Lib.hid (HBW.out.trans hb12)
            have HVK : Hid (VH w12 w3.heap.size (.slice A3 lr c3) R3) := Lib.hid hK12
            clear hal hb12 hK12 HBW
            have hc12 := hR1.out w12 HB12.out
            unfold RunN at hc12
            obtain ⟨x0, x1, x2⟩ := HKT.out w12 HB12.out
            go_upto_region 22 with (go_at_call 23; with_reducible refine hc12.mono ?_; rintro e w13 ⟨R4, A4, c4, rfl, HX13, HV13, hb13⟩)
            have HB13 := Lib.hid (below_self HB12.out hb13)
            have hl4 : R4.length = lr := by have := congrArg List.length HX13.out; rw [List.length_map, HLR.out] at this; exact this
            have t5 : Calls Try.prog 25 #[.slice A4 lr c4, .slice A3 lr c3] w13 fun e w' => e = .returned (.bool true) ∧ Below w13.heap.size w13 w' :=
              lists_same A4 A3 lr c4 c3 R4 R3 w13 (HV13.out.list hl4) ((HVK.out.below hb13).list HL3.out.1) HV13.out.rows (HVK.out.below hb13).rows (HX13.out.trans HX6.out.symm) hl4 (by omega) (fun r hr => by have := HXL.out r.xs (by rw [← HX13.out]; exact List.mem_map.2 ⟨r, hr, rfl⟩); omega)
            clear hc12 x0 x1 x2 hb13 hl4
            go_upto_region 24 with (go_at_call 25; with_reducible refine t5.mono ?_; rintro e w15 ⟨rfl, hb15⟩)
            have HB15 := Lib.hid (below_self HB13.out hb15)
            clear t5 hb15 HX13 HV13 HVK HB13 HB12 HX6 HL3
            have hct : Calls Try.prog 20 #[.agg #[.string name, .slice (some ⟨gA, 0, none⟩) n ca', .slice (some ⟨gB, 0, none⟩) m cb']] w15 fun e w' => TurnedR w15 (w.alloc (.cells #[.string name, .slice A n ca, .slice B m cb] 25)).heap.size (some ⟨gA, 0, none⟩) (some ⟨gB, 0, none⟩) n m ca' cb' name gs outs e w' := turned_any _ (some ⟨gA, 0, none⟩) (some ⟨gB, 0, none⟩) n m ca' cb' name gs outs w15 (HT3.out.below HB15.out) hn1 hm1
            unfold TurnedR at hct
            obtain ⟨x0, x1, x2⟩ := HKT.out _ HB15.out
            go_upto_region 25 with (go_at_call 20; with_reducible refine hct.mono ?_; rintro e w14 ⟨A20, A21, c20, c21, rfl, HT14, HG14, HO14, hg14⟩)
            change Code.wp _ _ _ _ (w14.alloc (.cells #[.string name, .slice A20 n c20, .slice A21 m c21] 25))
            have hbl9 := below1 w14 (.cells #[.string name, .slice A20 n c20, .slice A21 m c21] 25)
            have htg : ∀ g, (some (⟨gA, 0, none⟩ : Addr)).map (·.block) = some g → Typed w15 g 33 := fun g e => by
              cases e
              exact rows_typed (rows_below HT3.out.g HB15.out) rfl
            have HSET : Hid (Set9 (w14.alloc (.cells #[.string name, .slice A20 n c20, .slice A21 m c21] 25)) bt w14.heap.size (w.alloc (.cells #[.string name, .slice A n ca, .slice B m cb] 25)).heap.size w15.heap.size name (some ⟨gA, 0, none⟩) (some ⟨gB, 0, none⟩) A20 A21 n m ca' cb' c20 c21 (gs.map turnO) outs) := Lib.hid
              ⟨((HXT3.out.self HB15.out).aside (htg gA rfl) (by decide) hg14).self hbl9, Blk.new w14 25 [.string name, .slice A20 n c20, .slice A21 m c21], HT14.out.below hbl9, rows_below HG14.out hbl9, rows_below HO14.out hbl9⟩
            have HV9 : Hid (TwoV (w14.alloc (.cells #[.string name, .slice A20 n c20, .slice A21 m c21] 25)) W2.heap.size (.slice Ag k cg) (flipK G 0) (.slice none 0 0) []) := Lib.hid (by
              rw [flipK_zero]
              exact ((Hold.aside (Hold.below HV.out HB15.out) hg14 htg (vh_types (by decide) (by decide))).below hbl9).nilRow)
            have HBW9 : Hid (Below w.heap.size w (w14.alloc (.cells #[.string name, .slice A20 n c20, .slice A21 m c21] 25))) := Lib.hid (by
              have h1 := below_self HBW3.out HB15.out
              have h2 := h1.grown hg14 h1.size (fun g e => by
                have h3 : gA = g := Option.some.inj e
                have h4 : w.heap.size ≤ gA := Nat.le_trans (below1 w _).size hgA
                omega)
              exact below_then h2 h2.size hbl9)
            have hb29 : W2.heap.size ≤ (w14.alloc (.cells #[.string name, .slice A20 n c20, .slice A21 m c21] 25)).heap.size := Nat.le_trans HWB.out (Nat.le_trans HB15.out.size (Nat.le_trans hg14.size hbl9.size))
            have HSZ : Hid (SizeP ⟨name, gs.map turnO, outs⟩) := Lib.hid (turnO_size HS.out)
            have HKL : Hid ((gs.map turnO).length = n) := Lib.hid (by rw [List.length_map]; exact HN.out)
            have HB29 := Lib.hid hb29
            obtain ⟨b9, hb9⟩ : ∃ b9, w15.heap.size = b9 := ⟨_, rfl⟩
            obtain ⟨bd, hbd⟩ : ∃ bd, w14.heap.size = bd := ⟨_, rfl⟩
            rw [hb9, hbd] at HSET
            clear hct x0 x1 x2 hbl9 htg HT14 HG14 HO14 hg14 hb29 hb9 HB15 HV HXT3 HX3 HT3 HA3 HBB3 HI3 HR3 HBW3 HKT HKX hR1 hR2 HS HN HXL HLR hlr1
            generalize w14.alloc (.cells #[.string name, .slice A20 n c20, .slice A21 m c21] 25) = W9 at *
            rw [hbd]
            clear hbd
            generalize gs.map turnO = ts at *
            obtain ⟨iss, hiss⟩ : ∃ iss, inss.map (fun x => x.map (!·)) = iss := ⟨_, rfl⟩
            have HISS := Lib.hid hiss
            have HO0 : Hid (([] : List LR).map LR.xs = iss.take 0) := Lib.hid (by simp)
            clear hiss
            go_upto_region 27 with (fail)
            go_loopw [18, 19] (fun s18 s19 wq => ∃ (i : Nat) (O : List LR), i ≤ k ∧ s19 = .int .i64 i ∧ Hid (O.map LR.xs = iss.take i) ∧ Hid (TwoV wq W2.heap.size (.slice Ag k cg) (flipK G i) s18 O) ∧ Hid (Set9 wq bt bd (w.alloc (.cells #[.string name, .slice A n ca, .slice B m cb] 25)).heap.size b9 name (some ⟨gA, 0, none⟩) (some ⟨gB, 0, none⟩) A20 A21 n m ca' cb' c20 c21 ts outs) ∧ Hid (Below w.heap.size w wq) ∧ Hid (W2.heap.size ≤ wq.heap.size)) (fun _ s19 _ => k - (intOf s19).toNat)
            case atStart => exact ⟨0, [], by omega, rfl, HO0, HV9, HSET, HBW9, HB29⟩
            case round =>
              clear HO0 HV9 HSET HBW9 HB29
              obtain ⟨i, O, hi, rfl, HOX, HTV, HSET, HBW, HSW⟩ := hrel
              by_cases hlt : i < k
              · obtain ⟨r, hr⟩ : ∃ r, G[i]? = some r := ⟨_, List.getElem?_eq_getElem (by rw [HGL.out]; exact hlt)⟩
                obtain ⟨s, hs⟩ : ∃ s, I[i]? = some s := ⟨_, List.getElem?_eq_getElem (by rw [HIN.out]; exact hlt)⟩
                have hxs : r.xs = s.xs := by
                  have h1 := congrArg (fun (l : List (List Bool)) => l[i]?) HGX.out
                  simp only [List.getElem?_map, hr, hs, Option.map_some, Option.some.injEq] at h1
                  exact h1
                obtain ⟨q, hq⟩ : ∃ q, r.xs.length = q := ⟨_, rfl⟩
                have hqs : s.xs.length = q := by rw [← hxs]; exact hq
                have hvr : r.v = .slice r.A q r.c := by unfold LR.v; rw [hq]
                have hvs : s.v = .slice s.A q s.c := by unfold LR.v; rw [hqs]
                have hql := HQ1.out s (List.mem_of_getElem? hs)
                rw [hqs] at hql
                have hfl : (flipK G i).length = k := by rw [flipK_length]; exact HGL.out
                have hcl := HTV.out.first.list hfl
                rw [flipK_v] at hcl
                obtain ⟨gb', go', rfl, l1⟩ := hcl.at_ (x := r.v) (by rw [List.getElem?_map, hr]; rfl)
                obtain ⟨ib, io, rfl, l2⟩ := HI0.out.at_ (x := s.v) (by rw [List.getElem?_map, hs]; rfl)
                rw [hvr] at l1
                rw [hvs] at l2
                have hro := HTV.out.first.row (flipK_ge hr (Nat.le_refl i))
                have hro' := hro
                rw [hq] at hro'
                have hcf : Calls Try.prog 21 #[.slice r.A q r.c] wr fun e w' => e = .returned (.tuple #[]) ∧ Hid (Owns w' W2.heap.size 4 (.slice r.A q r.c) (bools (r.xs.map (!·)))) ∧ wr.grownBy w' (r.A.map (·.block)) := flip_any W2.heap.size r.A q r.c r.xs wr hro' hq (by omega)
                have hpost : ∀ w20, Owns w20 W2.heap.size 4 (.slice r.A q r.c) (bools (r.xs.map (!·))) → wr.grownBy w20 (r.A.map (·.block)) → Hid (TwoV w20 W2.heap.size (.slice (some ⟨gb', go', none⟩) k cg) (flipK G (i + 1)) u18 O) ∧ Hid (Set9 w20 bt bd (w.alloc (.cells #[.string name, .slice A n ca, .slice B m cb] 25)).heap.size b9 name (some ⟨gA, 0, none⟩) (some ⟨gB, 0, none⟩) A20 A21 n m ca' cb' c20 c21 ts outs) ∧ Hid (Below w.heap.size w w20) ∧ Hid (W2.heap.size ≤ w20.heap.size) ∧ w20.cell? ⟨ib, io + i, none⟩ = some (.slice s.A q s.c) ∧ Calls Try.prog 22 #[.slice s.A q s.c] w20 (fun e w' => ∃ A3 c3, e = .returned (.slice A3 q c3) ∧ Hid (Owns w' w20.heap.size 4 (.slice A3 q c3) (bools (r.xs.map (!·)))) ∧ Below w20.heap.size w20 w') := by
                  intro w20 ho hg
                  have hbk : ∀ g, r.A.map (·.block) = some g → (Value.slice r.A r.xs.length r.c).ownBlock = some g := fun g e => by
                    rcases hA : r.A with _ | a
                    · rw [hA] at e; cases e
                    · rw [hA] at e; exact e
                  have hB20 := HBW.out.grown hg HBW.out.size (fun g e => Nat.le_trans HWW.out (hro.lt (hbk g e)).1)
                  refine ⟨Lib.hid (HTV.out.flip hr (by rw [hq]; exact ho) hg), Lib.hid (HSET.out.aside hg (fun g e => hro.typed (hbk g e)) (by decide) (by decide) (by decide)), Lib.hid hB20, Lib.hid (Nat.le_trans HSW.out hg.size), cell_kept hB20 l2, ?_⟩
                  refine (flipped_any s.A q s.c s.xs w20 ((HR0.out s (List.mem_of_getElem? hs)).below hB20) hqs (by omega)).mono ?_
                  rintro e w' ⟨A3, c3, rfl, ho3, hb3⟩
                  rw [List.length_map, hqs, ← hxs] at ho3
                  rw [List.length_map, hqs]
                  exact ⟨A3, c3, rfl, ho3, hb3⟩
                have HPO := Lib.hid hpost
                have hOl : (O.map LR.v).length = i := by
                  have := congrArg List.length HOX.out
                  rw [List.length_map, List.length_take, ← HISS.out, List.length_map, HIS.out] at this
                  rw [List.length_map]; omega
                have HON : Hid (iss.take (i + 1) = iss.take i ++ [r.xs.map (!·)]) := Lib.hid (by
                  have hg : iss[i]? = some (r.xs.map (!·)) := by
                    rw [← HISS.out, List.getElem?_map, ← HII.out, List.getElem?_map, hs, hxs]; rfl
                  rw [List.take_add_one, hg]; rfl)
                have HQL : Hid ((r.xs.map (!·)).length = q) := Lib.hid (by rw [List.length_map]; exact hq)
                have hi0 : (0 : Int) ≤ (i : Int) := by omega
                have hik : (i : Int) < (k : Int) := by omega
                clear hpost hr hs hxs hq hqs hvr hvs hfl hcl l2 hro hro' hql
                obtain ⟨ys, hys⟩ : ∃ ys, r.xs.map (!·) = ys := ⟨_, rfl⟩
                rw [hys] at HPO hcf HON HQL
                clear hys
                go_upto_region 28 with (first
                  | ((go_at_call 21; with_reducible refine hcf.mono ?_; rintro e w20 ⟨rfl, hO20, hg20⟩; obtain ⟨HT20, HS20, HB20, HW20, l2, hcp⟩ := HPO.out w20 hO20.out hg20; clear hcf hO20 hg20 l1))
                  | ((go_at_call 22; with_reducible refine hcp.mono ?_; rintro e w21 ⟨A5, c5, rfl, hO21, hb21⟩; have hst := HT20.out.step hb21 HW20.out HQL.out hO21.out; have HST := Lib.hid hst; have HVO := Lib.hid hst.2.1; have hbl := below1 w21 (.cells [Value.slice A5 q c5].toArray 35); have HS21 := Lib.hid ((HS20.out.below hb21).below hbl); have hb22 := below_then hb21 hb21.size hbl; have HB21 := Lib.hid (below_then HB20.out HB20.out.size hb22); have HW21 := Lib.hid (Nat.le_trans HW20.out hb22.size); clear hst hbl hb22 hb21 hcp l2))
                  | ((at_builtin; refine wpList_push2 rfl _ _ 43 rfl W2.heap.size 35 _ 24 Try.underlying43 info_bools rfl u18 _ rfl HVO.out ⟨w21.heap.size, 0, none⟩ (.slice A5 q c5) rfl (by simp [go_sem]) rfl (by rw [hOl]; unfold maxLen; omega) (by rw [hOl]; omega) (by exact HW21.out) ?_; intro v5 w22 hown5 hg5 hb5)))
                rw [← HST.out.2.2] at hown5
                have HT22 := Lib.hid (TwoV.push HST.out.1 hown5 hg5 hb5)
                have HS22 := Lib.hid (HS21.out.aside hg5 (fun g e => HVO.out.typed e) (by decide) (by decide) (by decide))
                have HB22 := Lib.hid (HB21.out.grown hg5 HB21.out.size (fun g e => Nat.le_trans HWW.out (HVO.out.lt e).1))
                have HW22 := Lib.hid (Nat.le_trans HW21.out hg5.size)
                have HO22 : Hid ((O ++ [(⟨A5, c5, ys⟩ : LR)]).map LR.xs = iss.take (i + 1)) := Lib.hid (by rw [List.map_append, HOX.out, HON.out]; rfl)
                clear hown5 hg5 hb5 HST HVO HS21 HB21 HW21 HT20 HS20 HB20 HW20 HPO HON HQL hOl HOX HTV HSET HBW HSW hO21
                go_wp2
                go_roundw
                case rel => exact ⟨i + 1, _, by omega, by go_num, HO22, HT22, HS22, HB22, HW22⟩
                case measure => simp [intOf]; omega
              · obtain rfl : i = k := by omega
                have hIL : iss.length = i := by rw [← HISS.out, List.length_map, HIS.out]
                have hOx : O.map LR.xs = iss := by
                  have := HOX.out
                  rwa [List.take_of_length_le (by rw [hIL]; exact Nat.le_refl _)] at this
                have hOl : O.length = i := by have := congrArg List.length hOx; rw [List.length_map, hIL] at this; exact this
                have hFl : (flipK G i).length = i := by rw [flipK_length]; exact HGL.out
                have hFx : (flipK G i).map LR.xs = iss := by rw [flipK_xs HGL.out, HGX.out, HII.out]; exact HISS.out
                obtain ⟨Ao, co, hvo⟩ := HTV.out.second.vec.form
                rw [List.length_map, hOl] at hvo
                subst hvo
                obtain ⟨xr', hxr⟩ : ∃ xr, runO ⟨name, ts, outs⟩ iss = xr := ⟨_, rfl⟩
                obtain ⟨cr', hcr⟩ : ∃ cr, runCode ⟨name, ts, outs⟩ iss = cr := ⟨_, rfl⟩
                obtain ⟨lr', hlr⟩ : ∃ lr, xr'.length = lr := ⟨_, rfl⟩
                have hlr1 : lr' ≤ i := by rw [← hlr, ← hxr, ← hIL]; exact runO_length_le _ _
                have HXL' : Hid (∀ x ∈ xr', x.length ≤ 65536) := Lib.hid fun x hx => runO_len (by rw [hxr]; exact hx)
                have HV1 := HTV.out.first
                have HV2 := HTV.out.second
                have hR1 : Hid (∀ W, Below wr.heap.size wr W → Calls Try.prog 23 #[.agg #[.string name, .slice (some ⟨gA, 0, none⟩) n ca', .slice (some ⟨gB, 0, none⟩) m cb'], .slice Ag i cg] W (fun e w' => RunN W xr' lr' cr' e w')) := Lib.hid fun W hW =>
                  (Run_any ⟨name, ts, outs⟩ (flipK G i) (some ⟨gA, 0, none⟩) (some ⟨gB, 0, none⟩) Ag n m i ca' cb' cg W (HSET.out.tw.gread.below hW) (HSET.out.tw.oread.below hW) ((HV1.list hFl).below hW) (fun r h => (HV1.rows r h).below hW) HSZ.out HKL.out HM.out hFl (by omega)).mono fun e w' h => RunR.n h (by rw [hFx]; exact hxr) (by rw [hFx]; exact hcr) hlr
                have hR2 : Hid (∀ W, Below wr.heap.size wr W → Calls Try.prog 24 #[.agg #[.string name, .slice A20 n c20, .slice A21 m c21], .slice Ao i co] W (fun e w' => RunN W xr' lr' cr' e w')) := Lib.hid fun W hW =>
                  (Run_ref ⟨name, ts, outs⟩ O A20 A21 Ao n m i c20 c21 co W (rows_read (rows_below HSET.out.g hW) (by decide)) (CReads.reads (rows_read (rows_below HSET.out.o hW) (by decide))) ((HV2.list hOl).below hW) (fun r h => (HV2.rows r h).below hW) HSZ.out HKL.out HM.out hOl (by omega)).mono fun e w' h => RunR.n h (by rw [hOx]; exact hxr) (by rw [hOx]; exact hcr) hlr
                have HKT : Hid (∀ W, Below wr.heap.size wr W → W.cell? ⟨bt, 0, none⟩ = some (.string name) ∧ W.cell? ⟨bt, 1, none⟩ = some (.slice (some ⟨gA, 0, none⟩) n ca') ∧ W.cell? ⟨bt, 2, none⟩ = some (.slice (some ⟨gB, 0, none⟩) m cb')) := Lib.hid fun W hW => ⟨((HSET.out.xt.self hW).cell 0).trans rfl, ((HSET.out.xt.self hW).cell 1).trans rfl, ((HSET.out.xt.self hW).cell 2).trans rfl⟩
                have HKX : Hid (∀ W, Below wr.heap.size wr W → W.cell? ⟨bd, 0, none⟩ = some (.string name) ∧ W.cell? ⟨bd, 1, none⟩ = some (.slice A20 n c20) ∧ W.cell? ⟨bd, 2, none⟩ = some (.slice A21 m c21)) := Lib.hid fun W hW => ⟨((HSET.out.xd.self hW).cell 0).trans rfl, ((HSET.out.xd.self hW).cell 1).trans rfl, ((HSET.out.xd.self hW).cell 2).trans rfl⟩
                have HLR' := Lib.hid hlr
                clear hIL hOx hOl hFl hFx hxr hcr hlr HV1 HV2 HSET HTV HSW HOX hlt hi
                have hc1 := hR1.out wr (Below.refl _ _)
                unfold RunN at hc1
                obtain ⟨x0, x1, x2⟩ := HKT.out wr (Below.refl _ _)
                go_upto_region 32 with (go_at_call 23; with_reducible refine hc1.mono ?_; rintro e w31 ⟨R5, A5, c5, rfl, HX31, HV31, hb31⟩)
                have HB31 := Lib.hid hb31
                clear hc1 hb31 x0 x1 x2
                have hc2 := hR2.out w31 HB31.out
                unfold RunN at hc2
                obtain ⟨x0, x1, x2⟩ := HKX.out w31 HB31.out
                go_upto_region 33 with (go_at_call 24; with_reducible refine hc2.mono ?_; rintro e w32 ⟨R6, A6, c6, rfl, HX32, HV32, hb32⟩)
                have HB32 := Lib.hid (below_self HB31.out hb32)
                have hl5 : R5.length = lr' := by have := congrArg List.length HX31.out; rw [List.length_map, HLR'.out] at this; exact this
                have hl6 : R6.length = lr' := by have := congrArg List.length HX32.out; rw [List.length_map, HLR'.out] at this; exact this
                have t6 : Calls Try.prog 25 #[.slice A5 lr' c5, .slice A6 lr' c6] w32 fun e w' => e = .returned (.bool true) ∧ Below w32.heap.size w32 w' :=
                  lists_same A5 A6 lr' c5 c6 R5 R6 w32 ((HV31.out.below hb32).list hl5) (HV32.out.list hl6) (HV31.out.below hb32).rows HV32.out.rows (HX31.out.trans HX32.out.symm) hl5 (by omega) (fun r hr => by have := HXL'.out r.xs (by rw [← HX31.out]; exact List.mem_map.2 ⟨r, hr, rfl⟩); omega)
                clear hc2 hb32 x0 x1 x2 hl5 hl6 HV31 HV32
                go_wp2_with (go_at_call 25; with_reducible refine t6.mono ?_; rintro e w33 ⟨rfl, hb33⟩)
                go_ret
                exact ⟨rfl, below_self HBW.out (below_self HB32.out hb33)⟩
end Go.Proofs.Ytjkmoahnociaiaa
