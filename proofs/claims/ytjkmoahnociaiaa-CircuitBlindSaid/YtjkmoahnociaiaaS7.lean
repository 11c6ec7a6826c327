/- Step: the program's text. -/
import Derived.Test.YtjkmoahnociaiaaS6
namespace Go.Proofs.Ytjkmoahnociaiaa
open Go.RowKit

/-- What Step answers. -/
def StepR (w : World) (c : Ct) (ins las : List Bool) (e : Ending) (w' : World) : Prop :=
  ∃ v v', e = .returned (.tuple #[v, v', .int .i64 (stepCode c ins.length las.length)]) ∧ Hold w' w.heap.size [row1 4 v (bools (stepO c ins las)), row1 4 v' (bools (stepN c ins las))] ∧ Below w.heap.size w w'
theorem StepR.no {w w' : World} {c : Ct} {ins las : List Bool} {e : Ending} {z : Int} (hc : stepCode c ins.length las.length = z) (hz : z ≠ 0) (he : e = .returned (.tuple #[.slice none 0 0, .slice none 0 0, .int .i64 z])) (hb : Below w.heap.size w w') : StepR w c ins las e w' := by
  refine ⟨.slice none 0 0, .slice none 0 0, by rw [hc]; exact he, ?_, hb⟩
  unfold stepO stepN
  rw [hc, if_neg hz, if_neg hz]
  exact (Hold.nil w' w.heap.size).nilRow.nilRow
theorem stepO_eq {c : Ct} {ins las : List Bool} {m n : Nat} (hc : stepCode c ins.length las.length = 0) (hm : c.outs.length = m) (hn : c.gs.length = n) : stepO c ins las = outK (theV c.gs ins las) c.outs m ∧ stepN c ins las = latK (fun g => (theV c.gs ins las).getD g.a.toNat false) c.gs n := by
  subst hm hn
  unfold stepO stepN outsL nextL outK latK
  rw [hc, if_pos rfl, if_pos rfl, List.take_length, List.take_length]
  exact ⟨rfl, rfl⟩
set_option maxRecDepth 100000 in
set_option maxHeartbeats 8000000 in
theorem Step_any (cc : Ct) (ins las : List Bool) (A B AI AL : Option Addr) (n m ni nl ca cb ci cl : Nat) (w : World) (hA : CReads w A (gcells cc.gs)) (hB : Reads w .i64 B cc.outs) (hI : CReads w AI (bools ins)) (hL : CReads w AL (bools las)) (hs : SizeP cc) (hn : cc.gs.length = n) (hm : cc.outs.length = m) (hni : ins.length = ni) (hnl : las.length = nl) :
    Calls Try.prog 14 #[.agg #[.string cc.name, .slice A n ca, .slice B m cb], .slice AI ni ci, .slice AL nl cl] w (StepR w cc ins las) := by
  have hbl := below1 w (.cells #[.string cc.name, .slice A n ca, .slice B m cb] 25)
  have C1 : Calls Try.prog 32 #[.agg #[.string cc.name, .slice A n ca, .slice B m cb]] (w.alloc (.cells #[.string cc.name, .slice A n ca, .slice B m cb] 25)) fun e w' => e = .returned (.bool (formedB cc)) ∧ Below (w.alloc (.cells #[.string cc.name, .slice A n ca, .slice B m cb] 25)).heap.size (w.alloc (.cells #[.string cc.name, .slice A n ca, .slice B m cb] 25)) w' := formed_any cc A B n m ca cb _ (hA.below hbl) (hB.below hbl) hs hn hm
  have HX := Lib.hid (Blk.new w 25 [.string cc.name, .slice A n ca, .slice B m cb])
  have HA := Lib.hid (hA.below hbl); have HBr := Lib.hid (hB.below hbl); have HI := Lib.hid (hI.below hbl); have HL := Lib.hid (hL.below hbl)
  have HS := Lib.hid hs; have HN := Lib.hid hn; have HM := Lib.hid hm; have HB0 := Lib.hid hbl; have HNI := Lib.hid hni; have HNL := Lib.hid hnl
  clear hA hB hs hn hm hbl hI hL hni hnl
  obtain ⟨fb, hfb⟩ : ∃ fb, formedB cc = fb := ⟨_, rfl⟩
  rw [hfb] at C1
  cases fb
  · have HNF : Hid (¬ FormedP cc) := Lib.hid (fun h => by rw [formedB_true h] at hfb; cases hfb)
    clear hfb
    have HC : Hid (stepCode cc ins.length las.length = 144) := Lib.hid (by unfold stepCode; rw [if_neg HNF.out])
    go_enter Try.func14, Try.ntmps14
    go_wp2_with (go_at_call 32; with_reducible refine C1.mono ?_; rintro e w1 ⟨rfl, hb1⟩)
    go_ret3
    exact StepR.no HC.out (by decide) rfl (below_self HB0.out hb1)
  · have HFP : Hid (FormedP cc) := Lib.hid (Classical.byContradiction fun h => by rw [formedB_false h] at hfb; cases hfb)
    clear hfb
    have hn2 : n ≤ 65536 := by have := HFP.out.gl; rw [HN.out] at this; exact this
    obtain ⟨c1, hc1⟩ : ∃ c1, cntK cc.gs 1 n = c1 := ⟨_, rfl⟩
    obtain ⟨c3, hc3⟩ : ∃ c3, cntK cc.gs 3 n = c3 := ⟨_, rfl⟩
    have HSC : Hid (stepCode cc ins.length las.length = if ni = c1 ∧ nl = c3 then 0 else 1) := Lib.hid (by unfold stepCode; rw [if_pos HFP.out, HN.out, hc1, hc3, HNI.out, HNL.out])
    have hmany : ∀ (W : World) (kind : Int) (c : Nat), cntK cc.gs kind n = c → CReads W A (gcells cc.gs) → Calls Try.prog 37 #[.agg #[.string cc.name, .slice A n ca, .slice B m cb], .int .i64 kind] W fun e w' => e = .returned (.int .i64 c) ∧ Below W.heap.size W w' := by
      intro W kind c hc hA
      subst hc
      exact many_any cc.gs kind cc.name A B n m ca cb W hA HN.out (by omega)
    have HMany := Lib.hid hmany
    have HC1 := Lib.hid hc1
    have HC3 := Lib.hid hc3
    clear hmany hc1 hc3
    go_enter Try.func14, Try.ntmps14
    go_upto_region 3 with (go_at_call 32; with_reducible refine C1.mono ?_; rintro e w1 ⟨rfl, hb1⟩)
    have HX1 := Lib.hid (HX.out.self hb1)
    have HA1 := Lib.hid (HA.out.below hb1)
    have HBr1 := Lib.hid (HBr.out.below hb1)
    have HI1 := Lib.hid (HI.out.below hb1)
    have HL1 := Lib.hid (HL.out.below hb1)
    have HB1 := Lib.hid (below_self HB0.out hb1)
    obtain ⟨bx, hbx⟩ : ∃ bx, w.heap.size = bx := ⟨_, rfl⟩
    rw [hbx] at HX1 ⊢
    have x0 : w1.cell? ⟨bx, 0, none⟩ = some (.string cc.name) := (HX1.out.cell 0).trans rfl
    have x1 : w1.cell? ⟨bx, 1, none⟩ = some (.slice A n ca) := (HX1.out.cell 1).trans rfl
    have x2 : w1.cell? ⟨bx, 2, none⟩ = some (.slice B m cb) := (HX1.out.cell 2).trans rfl
    have m1 := HMany.out w1 1 c1 HC1.out HA1.out
    clear C1 HX HA HBr HI HL HB0 hb1 hbx
    by_cases e1 : ni = c1
    · subst e1
      have HT := Lib.hid (fun W (hW : Below w1.heap.size w1 W) => HX1.out.self hW)
      by_cases e3 : nl = c3
      · subst e3
        have HC : Hid (stepCode cc ins.length las.length = 0) := Lib.hid (by rw [HSC.out, if_pos ⟨rfl, rfl⟩])
        go_upto_region 5 with (first
          | (go_at_call 37; with_reducible refine m1.mono ?_; rintro e w2 ⟨rfl, hb2⟩; have HB2 := Lib.hid hb2; clear m1 hb2 x0 x1 x2
             have x0 : w2.cell? ⟨bx, 0, none⟩ = some (.string cc.name) := ((HT.out w2 HB2.out).cell 0).trans rfl
             have x1 : w2.cell? ⟨bx, 1, none⟩ = some (.slice A n ca) := ((HT.out w2 HB2.out).cell 1).trans rfl
             have x2 : w2.cell? ⟨bx, 2, none⟩ = some (.slice B m cb) := ((HT.out w2 HB2.out).cell 2).trans rfl
             have m2 := HMany.out w2 3 nl HC3.out (HA1.out.below HB2.out))
          | (go_at_call 37; with_reducible refine m2.mono ?_; rintro e w3 ⟨rfl, hb3⟩; have HB3 := Lib.hid (below_self HB2.out hb3); clear m2 hb3 x0 x1 x2))
        have hf := HFP.out
        have HF : Hid (Fits cc.gs ins las n) := Lib.hid ⟨HN.out, by rw [← HN.out]; exact hf.lines, hf.free, by rw [HC1.out]; exact HNI.out, by rw [HC3.out]; exact HNL.out, hn2⟩
        have hmm : m ≤ 65536 := by have := hf.ol; rw [HM.out] at this; exact this
        have HP : Hid (OutsP n cc.outs) := Lib.hid (by rw [← HN.out]; exact hf.outs)
        have HIR : Hid (InR cc.gs) := Lib.hid hf.lines.inR
        have hd : Below w1.heap.size w1 w3.drew := below_drew0 HB3.out
        have hcall : Calls Try.prog 39 #[.slice A n ca] w3.drew fun e w' => ∃ AO co L, e = .returned (.slice AO n co) ∧ Hid (CReads w' AO (ints L)) ∧ Hid (IsOrder n (lnsOf cc.gs) L) ∧ Hid (L.length = n) ∧ Below w3.drew.heap.size w3.drew w' := by
          refine (order_any A n ca cc.gs w3.drew (HA1.out.below hd) HN.out HIR.out hn2).mono ?_
          rintro e w' ⟨v, L, rfl, ho, hi, hb⟩
          have hll : L.length = n := ((order_all hi HIR.out.lt).2 hf.free).trans HN.out
          obtain ⟨AO, co, rfl⟩ := ho.form
          rw [ints_length, hll] at ho ⊢
          exact ⟨AO, co, L, rfl, Lib.hid (rows_read (by have := ho; unfold Owns at this; rw [ints_length, hll] at this; exact this) (by decide)), Lib.hid (by rw [← HN.out]; exact hi), Lib.hid hll, hb⟩
        have hstep : ∀ (W : World) (AO : Option Addr) (co : Nat) (L : List Nat), Below w1.heap.size w1 W → CReads W AO (ints L) → IsOrder n (lnsOf cc.gs) L → L.length = n → Calls Try.prog 38 #[.agg #[.string cc.name, .slice A n ca, .slice B m cb], .slice AO n co, .slice AI ni ci, .slice AL nl cl] W fun e w' => ∃ v v', e = .returned (.tuple #[v, v']) ∧ Hid (Hold w' W.heap.size [row1 4 v (bools (stepO cc ins las)), row1 4 v' (bools (stepN cc ins las))]) ∧ Below W.heap.size W w' := by
          intro W AO co L hW hO hi hl
          obtain ⟨q1, q2⟩ := stepO_eq HC.out HM.out HN.out
          rw [q1, q2]
          refine (step_any cc.gs cc.outs ins las L cc.name A B AO AI AL n m ni nl ca cb co ci cl W (HA1.out.below hW) (HBr1.out.below hW) hO (HI1.out.below hW) (HL1.out.below hW) HF.out HP.out hi HNI.out HNL.out hl HM.out hmm).mono ?_
          rintro e w' ⟨v, v', rfl, hh, hb⟩
          exact ⟨v, v', rfl, Lib.hid hh, hb⟩
        have HST := Lib.hid hstep
        have x0 : w3.cell? ⟨bx, 0, none⟩ = some (.string cc.name) := ((HT.out w3 HB3.out).cell 0).trans rfl
        have x1 : w3.cell? ⟨bx, 1, none⟩ = some (.slice A n ca) := ((HT.out w3 HB3.out).cell 1).trans rfl
        have x2 : w3.cell? ⟨bx, 2, none⟩ = some (.slice B m cb) := ((HT.out w3 HB3.out).cell 2).trans rfl
        have HD := Lib.hid hd
        have HTK : Hid (∀ W, Below w1.heap.size w1 W → W.cell? ⟨bx, 0, none⟩ = some (.string cc.name) ∧ W.cell? ⟨bx, 1, none⟩ = some (.slice A n ca) ∧ W.cell? ⟨bx, 2, none⟩ = some (.slice B m cb)) := Lib.hid (fun W hW => ⟨((HT.out W hW).cell 0).trans rfl, ((HT.out W hW).cell 1).trans rfl, ((HT.out W hW).cell 2).trans rfl⟩)
        clear hstep hf hd
        go_region_held3 (fun w' => w'.cell? ⟨bx, 0, none⟩ = some (.string cc.name) ∧ w'.cell? ⟨bx, 1, none⟩ = some (.slice A n ca) ∧ w'.cell? ⟨bx, 2, none⟩ = some (.slice B m cb))
          (first | exact ⟨x0, x1, x2⟩ | exact HTK.out _ HD.out | exact HTK.out _ HB4.out | exact HTK.out _ HB5.out)
          (first
            | ((go_at_call 39; with_reducible refine hcall.mono ?_; rintro e w4 ⟨AO, co, L, rfl, HO4, HI4, HL4, hb4⟩; have HB4 := Lib.hid (below_self HD.out hb4); have st := HST.out w4 AO co L HB4.out HO4.out HI4.out HL4.out))
            | ((go_at_call 38; with_reducible refine st.mono ?_; rintro e w5 ⟨v, v', rfl, HH5, hb5⟩; have HB5 := Lib.hid (below_self HB4.out hb5))))
        all_goals
          have HHf := Lib.hid (HH5.out.base_ (Nat.le_trans HB1.out.size HB4.out.size))
          have HBf := Lib.hid (below_self HB1.out HB5.out)
          clear HB4 HB5 st HO4 hb4 hb5 HH5 HST HTK HD HT
          go_wp2
          go_ret3
          exact ⟨v, v', by rw [HC.out]; rfl, HHf.out, HBf.out⟩
      · have hne : ¬ (nl : Int) = (c3 : Int) := by omega
        have hne2 : ((nl : Int) == (c3 : Int)) = false := by simp; omega
        have HC : Hid (stepCode cc ins.length las.length = 1) := Lib.hid (by rw [HSC.out, if_neg (fun h => e3 h.2)])
        go_wp2_with (first
          | (go_at_call 37; with_reducible refine m1.mono ?_; rintro e w2 ⟨rfl, hb2⟩; have HB2 := Lib.hid hb2; clear m1 hb2 x0 x1 x2
             have x0 : w2.cell? ⟨bx, 0, none⟩ = some (.string cc.name) := ((HT.out w2 HB2.out).cell 0).trans rfl
             have x1 : w2.cell? ⟨bx, 1, none⟩ = some (.slice A n ca) := ((HT.out w2 HB2.out).cell 1).trans rfl
             have x2 : w2.cell? ⟨bx, 2, none⟩ = some (.slice B m cb) := ((HT.out w2 HB2.out).cell 2).trans rfl
             have m2 := HMany.out w2 3 c3 HC3.out (HA1.out.below HB2.out))
          | (go_at_call 37; with_reducible refine m2.mono ?_; rintro e w3 ⟨rfl, hb3⟩; have HB3 := Lib.hid (below_self HB2.out hb3); clear m2 hb3 x0 x1 x2))
        go_ret3
        exact StepR.no HC.out (by decide) rfl (below_self HB1.out HB3.out)
    · have hne : ¬ (ni : Int) = (c1 : Int) := by omega
      have hne2 : ((ni : Int) == (c1 : Int)) = false := by simp; omega
      have HC : Hid (stepCode cc ins.length las.length = 1) := Lib.hid (by rw [HSC.out, if_neg (fun h => e1 h.1)])
      go_wp2_with (go_at_call 37; with_reducible refine m1.mono ?_; rintro e w2 ⟨rfl, hb2⟩)
      go_ret3
      exact StepR.no HC.out (by decide) rfl (below_self HB1.out hb2)
end Go.Proofs.Ytjkmoahnociaiaa
