/- Step: the document's text. -/
import Derived.Test.YtjkmoahnociaiaaS7
namespace Go.Proofs.Ytjkmoahnociaiaa
open Go.RowKit

set_option maxRecDepth 100000 in
set_option maxHeartbeats 8000000 in
theorem Step_ref (cc : Ct) (ins las : List Bool) (A B AI AL : Option Addr) (n m ni nl ca cb ci cl : Nat) (w : World) (hA : CReads w A (gcells cc.gs)) (hB : Reads w .i64 B cc.outs) (hI : CReads w AI (bools ins)) (hL : CReads w AL (bools las)) (hs : SizeP cc) (hn : cc.gs.length = n) (hm : cc.outs.length = m) (hni : ins.length = ni) (hnl : las.length = nl) :
    Calls Try.prog 15 #[.agg #[.string cc.name, .slice A n ca, .slice B m cb], .slice AI ni ci, .slice AL nl cl] w (StepR w cc ins las) := by
  have hbl := below1 w (.cells #[.string cc.name, .slice A n ca, .slice B m cb] 25)
  have C1 : Calls Try.prog 34 #[.agg #[.string cc.name, .slice A n ca, .slice B m cb]] (w.alloc (.cells #[.string cc.name, .slice A n ca, .slice B m cb] 25)) fun e w' => e = .returned (.bool (formedB cc)) ∧ Below (w.alloc (.cells #[.string cc.name, .slice A n ca, .slice B m cb] 25)).heap.size (w.alloc (.cells #[.string cc.name, .slice A n ca, .slice B m cb] 25)) w' := formed_ref cc A B n m ca cb _ (hA.below hbl) (hB.below hbl) hs hn hm
  have HX := Lib.hid (Blk.new w 25 [.string cc.name, .slice A n ca, .slice B m cb])
  have HA := Lib.hid (hA.below hbl); have HBr := Lib.hid (hB.below hbl); have HI := Lib.hid (hI.below hbl); have HL := Lib.hid (hL.below hbl)
  have HS := Lib.hid hs; have HN := Lib.hid hn; have HM := Lib.hid hm; have HB0 := Lib.hid hbl; have HNI := Lib.hid hni; have HNL := Lib.hid hnl
  clear hA hB hs hn hm hbl hI hL hni hnl
  obtain ⟨fb, hfb⟩ : ∃ fb, formedB cc = fb := ⟨_, rfl⟩
  rw [hfb] at C1
  cases fb
  · have HNF : Hid (¬ FormedP cc) := Lib.hid (fun h => by rw [formedB_true h] at hfb; cases hfb)
    clear hfb
    have HC : Hid (stepCode cc ins.length las.length = 144) := Lib.hid (by unfold stepCode; rw [if_neg HNF.out])
    go_enter Try.func15, Try.ntmps15
    go_wp2_with (go_at_call 34; with_reducible refine C1.mono ?_; rintro e w1 ⟨rfl, hb1⟩)
    go_ret3
    exact StepR.no HC.out (by decide) rfl (below_self HB0.out hb1)
  · have HFP : Hid (FormedP cc) := Lib.hid (Classical.byContradiction fun h => by rw [formedB_false h] at hfb; cases hfb)
    clear hfb
    have hn2 : n ≤ 65536 := by have := HFP.out.gl; rw [HN.out] at this; exact this
    obtain ⟨c1, hc1⟩ : ∃ c1, cntK cc.gs 1 n = c1 := ⟨_, rfl⟩
    obtain ⟨c3, hc3⟩ : ∃ c3, cntK cc.gs 3 n = c3 := ⟨_, rfl⟩
    have HSC : Hid (stepCode cc ins.length las.length = if ni = c1 ∧ nl = c3 then 0 else 1) := Lib.hid (by unfold stepCode; rw [if_pos HFP.out, HN.out, hc1, hc3, HNI.out, HNL.out])
    have hmany : ∀ (W : World) (kind : Int) (c : Nat), cntK cc.gs kind n = c → CReads W A (gcells cc.gs) → Calls Try.prog 40 #[.agg #[.string cc.name, .slice A n ca, .slice B m cb], .int .i64 kind] W fun e w' => e = .returned (.int .i64 c) ∧ Below W.heap.size W w' := by
      intro W kind c hc hA
      subst hc
      exact count_ref cc.gs kind cc.name A B n m ca cb W hA HN.out (by omega)
    have HMany := Lib.hid hmany
    have HC1 := Lib.hid hc1
    have HC3 := Lib.hid hc3
    clear hmany hc1 hc3
    go_enter Try.func15, Try.ntmps15
    go_upto_region 4 with (go_at_call 34; with_reducible refine C1.mono ?_; rintro e w1 ⟨rfl, hb1⟩)
    have HX1 := Lib.hid (HX.out.self hb1)
    have HA1 := Lib.hid (HA.out.below hb1)
    have HBr1 := Lib.hid (HBr.out.below hb1)
    have HI1 := Lib.hid (HI.out.below hb1)
    have HL1 := Lib.hid (HL.out.below hb1)
    have HB1 := Lib.hid (below_self HB0.out hb1)
    obtain ⟨bx, hbx⟩ : ∃ bx, w.heap.size = bx := ⟨_, rfl⟩
    rw [hbx] at HX1 ⊢
    have x0 : w1.cell? ⟨bx, 0, none⟩ = some (.string cc.name) := (HX1.out.cell 0).trans rfl
    have x1 : w1.cell? ⟨bx, 1, none⟩ = some (.slice A n ca) := (HX1.out.cell 1).trans rfl
    have x2 : w1.cell? ⟨bx, 2, none⟩ = some (.slice B m cb) := (HX1.out.cell 2).trans rfl
    have m1 := HMany.out w1 1 c1 HC1.out HA1.out
    clear C1 HX HA HBr HI HL HB0 hb1 hbx
    by_cases e1 : ni = c1
    · subst e1
      have HT := Lib.hid (fun W (hW : Below w1.heap.size w1 W) => HX1.out.self hW)
      by_cases e3 : nl = c3
      · subst e3
        have HC : Hid (stepCode cc ins.length las.length = 0) := Lib.hid (by rw [HSC.out, if_pos ⟨rfl, rfl⟩])
        go_upto_region 6 with (first
          | (go_at_call 40; with_reducible refine m1.mono ?_; rintro e w2 ⟨rfl, hb2⟩; have HB2 := Lib.hid hb2; clear m1 hb2 x0 x1 x2
             have x0 : w2.cell? ⟨bx, 0, none⟩ = some (.string cc.name) := ((HT.out w2 HB2.out).cell 0).trans rfl
             have x1 : w2.cell? ⟨bx, 1, none⟩ = some (.slice A n ca) := ((HT.out w2 HB2.out).cell 1).trans rfl
             have x2 : w2.cell? ⟨bx, 2, none⟩ = some (.slice B m cb) := ((HT.out w2 HB2.out).cell 2).trans rfl
             have m2 := HMany.out w2 3 nl HC3.out (HA1.out.below HB2.out))
          | (go_at_call 40; with_reducible refine m2.mono ?_; rintro e w3 ⟨rfl, hb3⟩; have HB3 := Lib.hid (below_self HB2.out hb3); clear m2 hb3 x0 x1 x2))
        have hf := HFP.out
        have hF : Fits cc.gs ins las n := ⟨HN.out, by rw [← HN.out]; exact hf.lines, hf.free, by rw [HC1.out]; exact HNI.out, by rw [HC3.out]; exact HNL.out, hn2⟩
        have hmm : m ≤ 65536 := by have := hf.ol; rw [HM.out] at this; exact this
        have HP : Hid (OutsP n cc.outs) := Lib.hid (by rw [← HN.out]; exact hf.outs)
        obtain ⟨q1, q2⟩ := stepO_eq HC.out HM.out HN.out
        have HQ := Lib.hid (And.intro q1 q2)
        have HLP : Hid (LinesP n cc.gs) := Lib.hid (by rw [← HN.out]; exact hf.lines)
        obtain ⟨v, hv⟩ : ∃ v, theV cc.gs ins las = v := ⟨_, rfl⟩
        have hcall : Calls Try.prog 41 #[.agg #[.string cc.name, .slice A n ca, .slice B m cb], .slice AI ni ci, .slice AL nl cl] w3 fun e w' => ∃ A' c', e = .returned (.slice A' n c') ∧ Hid (CReads w' A' (bools v)) ∧ Hid (v.length = n) ∧ Below w3.heap.size w3 w' := by
          refine (values_ref cc.gs ins las cc.name A B AI AL n m ni nl ca cb ci cl w3 (HA1.out.below HB3.out) (HI1.out.below HB3.out) (HL1.out.below HB3.out) hF HNI.out HNL.out).mono ?_
          rintro e w' ⟨⟨A', c', rfl, ho, hb⟩, hvv⟩
          have hl : (theV cc.gs ins las).length = n := hvv.len.trans HN.out
          rw [hv] at ho hl ⊢
          rw [hl] at ho ⊢
          exact ⟨A', c', rfl, Lib.hid (rows_read (by have := ho.out; unfold Owns at this; rw [bools_length, hl] at this; exact this) (by decide)), Lib.hid rfl, hb⟩
        rw [hv] at HQ
        clear hf hF q1 q2 hv
        have x0 : w3.cell? ⟨bx, 0, none⟩ = some (.string cc.name) := ((HT.out w3 HB3.out).cell 0).trans rfl
        have x1 : w3.cell? ⟨bx, 1, none⟩ = some (.slice A n ca) := ((HT.out w3 HB3.out).cell 1).trans rfl
        have x2 : w3.cell? ⟨bx, 2, none⟩ = some (.slice B m cb) := ((HT.out w3 HB3.out).cell 2).trans rfl
        go_upto_region 7 with (go_at_call 41; with_reducible refine hcall.mono ?_; rintro e w4 ⟨AV, cv, rfl, HVR, HVL, hb4⟩)
        have HB4 := Lib.hid (below_self HB3.out hb4)
        have HX4 := Lib.hid (HT.out w4 HB4.out)
        have HA4 := Lib.hid (HA1.out.below HB4.out)
        have HBr4 := Lib.hid (HBr1.out.below HB4.out)
        clear hcall x0 x1 x2 hb4 HB3 HT HX1 HA1 HBr1
        have HB5 := Lib.hid (below_self HB1.out HB4.out)
        clear HB4 HB1
        obtain ⟨name, gs, outs⟩ := cc
        dsimp only at *
        have HH0 : Hid (Hold w4 w4.heap.size [row1 4 (.slice none 0 0) (bools (outK v outs 0)), row1 4 (.slice none 0 0) (bools (latK (fun g => v.getD g.a.toNat false) gs 0))]) := Lib.hid (by
          rw [outK_zero, latK_zero]
          exact (Hold.nil w4 w4.heap.size).nilRow.nilRow)
        have HW0 := Lib.hid (Below.refl w4.heap.size w4)
        go_upto_region 8 with (fail)
        go_loopw [6, 11] (fun vo s11 wr => ∃ k : Nat, k ≤ m ∧ s11 = .int .i64 k ∧ Hid (Hold wr w4.heap.size [row1 4 vo (bools (outK v outs k)), row1 4 (.slice none 0 0) (bools (latK (fun g => v.getD g.a.toNat false) gs 0))]) ∧ Hid (Below w4.heap.size w4 wr)) (fun _ i _ => m - (intOf i).toNat)
        case atStart => exact ⟨0, by omega, rfl, HH0, HW0⟩
        case round =>
          clear HH0 HW0
          obtain ⟨k, hk, rfl, HH, HB⟩ := hrel
          have x2 : wr.cell? ⟨bx, 2, none⟩ = some (.slice B m cb) := ((HX4.out.self HB.out).cell 2).trans rfl
          by_cases hlt : k < m
          · obtain ⟨p, hp⟩ : ∃ p, outs[k]? = some p := ⟨_, List.getElem?_eq_getElem (by rw [HM.out]; exact hlt)⟩
            obtain ⟨hp0, hpn⟩ := HP.out p (List.mem_of_getElem? hp)
            obtain ⟨pn, rfl⟩ : ∃ pn : Nat, p = (pn : Int) := ⟨p.toNat, by omega⟩
            obtain ⟨x, hx⟩ : ∃ x, v[pn]? = some x := ⟨_, List.getElem?_eq_getElem (by rw [HVL.out]; omega)⟩
            have hF : outK v outs (k + 1) = outK v outs k ++ [x] := by
              rw [outK_succ hp]
              simp only [Int.toNat_natCast, List.getD_eq_getElem?_getD, hx]
              rfl
            obtain ⟨ob, oo, rfl, q1⟩ := HBr4.out.at_ hp
            obtain ⟨vb, vo, rfl, q2⟩ := bat (HVR.out.below HB.out) hx
            have q1 := cell_kept HB.out q1
            have hk0 : (0 : Int) ≤ (k : Int) := by omega
            have hkn : (k : Int) < (m : Int) := by omega
            have HH1 := Lib.hid (HH.out.below (below1 wr (.cells [Value.bool x].toArray 4)))
            have HB1 := Lib.hid (HB.out.alloc HB.out.size (.cells [Value.bool x].toArray 4))
            have HO1 := Lib.hid (HH1.out.owns (i := 0) rfl)
            have hlen := outK_len v outs k
            have hull : (bools (outK v outs k)).length + 1 ≤ 65537 := by rw [bools_length]; omega
            have HFF := Lib.hid hF
            clear hp hx hF hlen
            go_upto_region 9 with (at_builtin; refine wpList_push2 rfl _ _ 35 rfl w4.heap.size 4 _ 1 Try.underlying35 info_bool rfl u6 _ rfl HO1.out ⟨wr.heap.size, 0, none⟩ (.bool x) rfl (by simp [go_sem]) rfl (by unfold maxLen; omega) (by omega) (by simp; have := HB.out.size; omega) ?_; intro v5 w5 hown5 hg5 hb5; have HH5 := HH1.out.push (i := 0) rfl hown5 hg5 hb5; have HB5' := Lib.hid (HB1.out.grown hg5 HB1.out.size (fun g hv => (HO1.out.lt hv).1)); clear hown5 hg5 hb5)
            rw [bools_snoc, ← HFF.out] at HH5
            have HH5 := Lib.hid HH5
            clear HH HB HH1 HB1 HO1 hull q1 q2 x2
            go_wp2
            go_roundw
            case rel => exact ⟨k + 1, by omega, by go_num, HH5, HB5'⟩
            case measure => simp [intOf]; omega
          · obtain rfl : k = m := by omega
            clear hlt hk
            obtain ⟨vo, hvo⟩ : ∃ vo, u6 = vo := ⟨_, rfl⟩
            rw [hvo] at HH ⊢
            clear hvo
            go_upto_region 12 with (fail)
            clear x2
            go_loopw [7, 12] (fun vn s12 wr => ∃ j : Nat, j ≤ n ∧ s12 = .int .i64 j ∧ Hid (Hold wr w4.heap.size [row1 4 vo (bools (outK v outs k)), row1 4 vn (bools (latK (fun g => v.getD g.a.toNat false) gs j))]) ∧ Hid (Below w4.heap.size w4 wr)) (fun _ i _ => n - (intOf i).toNat)
            case atStart => exact ⟨0, by omega, rfl, HH, HB⟩
            case round =>
              clear HH HB
              obtain ⟨j, hj, rfl, HH, HB⟩ := hrel
              have x1 : wr.cell? ⟨bx, 1, none⟩ = some (.slice A n ca) := ((HX4.out.self HB.out).cell 1).trans rfl
              by_cases hlt : j < n
              · obtain ⟨g, hg⟩ : ∃ g, gs[j]? = some g := ⟨_, List.getElem?_eq_getElem (by rw [HN.out]; exact hlt)⟩
                obtain ⟨ab, ao, rfl, hc⟩ := greads_at HA4.out hg
                obtain ⟨c0, c1, c2, c3', c4, c5⟩ := hc.below HB.out
                have HGG := Lib.hid hg
                have hfl := (HLP.out g (List.mem_of_getElem? hg)).2
                obtain ⟨kd, nm, op, a, b, cx⟩ := g
                dsimp only at *
                have hj0 : (0 : Int) ≤ (j : Int) := by omega
                have hjn : (j : Int) < (n : Int) := by omega
                clear hg hc c1 c2 c4 c5
                by_cases he : kd = 3
                · have hF := latK_yes (f := fun g => v.getD g.a.toNat false) HGG.out he
                  have hfa : 0 ≤ a ∧ a < (n : Int) := by
                    unfold FieldsP PlaceP at hfl
                    dsimp only at hfl
                    omega
                  obtain ⟨ha0, han⟩ := hfa
                  obtain ⟨pn, rfl⟩ : ∃ pn : Nat, a = (pn : Int) := ⟨a.toNat, by omega⟩
                  obtain ⟨x, hx⟩ : ∃ x, v[pn]? = some x := ⟨_, List.getElem?_eq_getElem (by rw [HVL.out]; omega)⟩
                  have hfx : v.getD (⟨kd, nm, op, (pn : Int), b, cx⟩ : Gt).a.toNat false = x := by
                    simp only [Int.toNat_natCast, List.getD_eq_getElem?_getD, hx]
                    rfl
                  rw [hfx] at hF
                  obtain ⟨vb, vf, rfl, q2⟩ := bat (HVR.out.below HB.out) hx
                  subst he
                  have HF2 := Lib.hid hF
                  have HH2 := Lib.hid (HH.out.below (below1 wr (.cells [Value.bool x].toArray 4)))
                  have HB2 := Lib.hid (HB.out.alloc HB.out.size (.cells [Value.bool x].toArray 4))
                  have HO2 := Lib.hid (HH2.out.owns (i := 1) rfl)
                  have hlen := latK_len (fun g => v.getD g.a.toNat false) gs j
                  have hull : (bools (latK (fun g => v.getD g.a.toNat false) gs j)).length + 1 ≤ 65537 := by rw [bools_length]; omega
                  clear hF hlen hx hfx hfl
                  go_upto_region 13 with (at_builtin; refine wpList_push2 rfl _ _ 35 rfl w4.heap.size 4 _ 1 Try.underlying35 info_bool rfl u7 _ rfl HO2.out ⟨wr.heap.size, 0, none⟩ (.bool x) rfl (by simp [go_sem]) rfl (by unfold maxLen; omega) (by omega) (by simp; have := HB.out.size; omega) ?_; intro v5 w5 hown5 hg5 hb5; have HH5 := HH2.out.push (i := 1) rfl hown5 hg5 hb5; have HB5' := Lib.hid (HB2.out.grown hg5 HB2.out.size (fun g hv => (HO2.out.lt hv).1)); clear hown5 hg5 hb5)
                  rw [bools_snoc, ← HF2.out] at HH5
                  have HH5 := Lib.hid HH5
                  clear HH HB HH2 HB2 HO2 hull c0 c3' q2 x1
                  go_wp2
                  go_roundw
                  case rel => exact ⟨j + 1, by omega, by go_num, HH5, HB5'⟩
                  case measure => simp [intOf]; omega
                · have HH5 : Hid (Hold wr w4.heap.size [row1 4 vo (bools (outK v outs k)), row1 4 u7 (bools (latK (fun g => v.getD g.a.toNat false) gs (j + 1)))]) := Lib.hid (by rw [latK_no HGG.out he]; exact HH.out)
                  clear hfl HH
                  go_wp2
                  go_roundw
                  case rel => exact ⟨j + 1, by omega, by go_num, HH5, HB⟩
                  case measure => simp [intOf]; omega
              · obtain rfl : j = n := by omega
                have HHf : Hid (Hold wr w.heap.size [row1 4 vo (bools (stepO ⟨name, gs, outs⟩ ins las)), row1 4 u7 (bools (stepN ⟨name, gs, outs⟩ ins las))]) := Lib.hid (by rw [HQ.out.1, HQ.out.2]; exact HH.out.base_ HB5.out.size)
                have HBf := Lib.hid (below_then HB5.out HB5.out.size HB.out)
                clear HH HB
                go_wp2
                go_ret3
                exact ⟨_, _, by rw [HC.out]; rfl, HHf.out, HBf.out⟩
      · have hne : ¬ (nl : Int) = (c3 : Int) := by omega
        have hne2 : ((nl : Int) == (c3 : Int)) = false := by simp; omega
        have HC : Hid (stepCode cc ins.length las.length = 1) := Lib.hid (by rw [HSC.out, if_neg (fun h => e3 h.2)])
        go_wp2_with (first
          | (go_at_call 40; with_reducible refine m1.mono ?_; rintro e w2 ⟨rfl, hb2⟩; have HB2 := Lib.hid hb2; clear m1 hb2 x0 x1 x2
             have x0 : w2.cell? ⟨bx, 0, none⟩ = some (.string cc.name) := ((HT.out w2 HB2.out).cell 0).trans rfl
             have x1 : w2.cell? ⟨bx, 1, none⟩ = some (.slice A n ca) := ((HT.out w2 HB2.out).cell 1).trans rfl
             have x2 : w2.cell? ⟨bx, 2, none⟩ = some (.slice B m cb) := ((HT.out w2 HB2.out).cell 2).trans rfl
             have m2 := HMany.out w2 3 c3 HC3.out (HA1.out.below HB2.out))
          | (go_at_call 40; with_reducible refine m2.mono ?_; rintro e w3 ⟨rfl, hb3⟩; have HB3 := Lib.hid (below_self HB2.out hb3); clear m2 hb3 x0 x1 x2))
        go_ret3
        exact StepR.no HC.out (by decide) rfl (below_self HB1.out HB3.out)
    · have hne : ¬ (ni : Int) = (c1 : Int) := by omega
      have hne2 : ((ni : Int) == (c1 : Int)) = false := by simp; omega
      have HC : Hid (stepCode cc ins.length las.length = 1) := Lib.hid (by rw [HSC.out, if_neg (fun h => e1 h.1)])
      go_wp2_with (go_at_call 40; with_reducible refine m1.mono ?_; rintro e w2 ⟨rfl, hb2⟩)
      go_ret3
      exact StepR.no HC.out (by decide) rfl (below_self HB1.out hb2)
end Go.Proofs.Ytjkmoahnociaiaa
