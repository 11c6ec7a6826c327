/- Run, both; lists of lists; the rows of CircuitRuns. -/
import Derived.Test.YtjkmoahnociaiaaSE
import Derived.Test.YtjkmoahnociaiaaSF
import Derived.Test.YtjkmoahnociaiaaRX
namespace Go.Proofs.Ytjkmoahnociaiaa
open Go.RowKit

/-- The latches at the k-th step, and what goes out there. -/
noncomputable def latAt (c : Ct) (inss : List (List Bool)) : Nat → List Bool
  | 0 => firstL c
  | k + 1 => nextL c (inss.getD k []) (latAt c inss k)
noncomputable def outAt (c : Ct) (inss : List (List Bool)) (k : Nat) : List Bool := outsL c (inss.getD k []) (latAt c inss k)
noncomputable def runK (c : Ct) (inss : List (List Bool)) (k : Nat) : List (List Bool) := (List.range k).map (outAt c inss)
theorem runK_zero (c : Ct) (inss : List (List Bool)) : runK c inss 0 = [] := by simp [runK]
theorem runK_succ (c : Ct) (inss : List (List Bool)) (k : Nat) : runK c inss (k + 1) = runK c inss k ++ [outAt c inss k] := by simp [runK, List.range_succ]
theorem runK_length (c : Ct) (inss : List (List Bool)) (k : Nat) : (runK c inss k).length = k := by simp [runK]
open Classical in
noncomputable def runCode (c : Ct) (inss : List (List Bool)) : Int := if FormedP c then if ∀ x ∈ inss, x.length = cntK c.gs 1 c.gs.length then 0 else 1 else 144
noncomputable def runO (c : Ct) (inss : List (List Bool)) : List (List Bool) := if runCode c inss = 0 then runK c inss inss.length else []
theorem runCode_no {c : Ct} (h : ¬ FormedP c) (inss : List (List Bool)) : runCode c inss = 144 := by unfold runCode; rw [if_neg h]
theorem runCode_arg {c : Ct} (h : FormedP c) {inss : List (List Bool)} {x : List Bool} (hx : x ∈ inss) (hl : x.length ≠ cntK c.gs 1 c.gs.length) : runCode c inss = 1 := by
  unfold runCode
  rw [if_pos h, if_neg fun h2 => hl (h2 x hx)]
theorem runCode_ok {c : Ct} (h : FormedP c) {inss : List (List Bool)} (hl : ∀ x ∈ inss, x.length = cntK c.gs 1 c.gs.length) : runCode c inss = 0 := by
  unfold runCode
  rw [if_pos h, if_pos hl]
theorem latAt_len (c : Ct) (inss : List (List Bool)) (k : Nat) : (latAt c inss k).length = cntK c.gs 3 c.gs.length := by
  have e : (c.gs.filter fun g => decide (g.kind = 3)).length = cntK c.gs 3 c.gs.length := by
    unfold cntK
    rw [List.take_length, List.countP_eq_length_filter]
  cases k with
  | zero => unfold latAt firstL; rw [List.length_map]; exact e
  | succ k => unfold latAt nextL; rw [List.length_map]; exact e
theorem outAt_len (c : Ct) (inss : List (List Bool)) (k : Nat) : (outAt c inss k).length = c.outs.length := by unfold outAt outsL; rw [List.length_map]
theorem runO_len {c : Ct} {inss : List (List Bool)} {x : List Bool} (h : x ∈ runO c inss) : x.length ≤ 65536 := by
  unfold runO at h
  split at h
  · rename_i h0
    unfold runK at h
    obtain ⟨k, _, rfl⟩ := List.mem_map.1 h
    rw [outAt_len]
    unfold runCode at h0
    split at h0
    · rename_i hf
      exact hf.ol
    · cases h0
  · cases h
theorem runO_length_le (c : Ct) (inss : List (List Bool)) : (runO c inss).length ≤ inss.length := by
  unfold runO
  split
  · rw [runK_length]; exact Nat.le_refl _
  · simp
theorem outK_eq {c : Ct} {ins las : List Bool} {m : Nat} (hm : c.outs.length = m) : outK (theV c.gs ins las) c.outs m = outsL c ins las := by
  subst hm
  unfold outsL outK
  rw [List.take_length]
theorem latK_eq {c : Ct} {ins las : List Bool} {n : Nat} (hn : c.gs.length = n) : latK (fun g => (theV c.gs ins las).getD g.a.toNat false) c.gs n = nextL c ins las := by
  subst hn
  unfold nextL latK
  rw [List.take_length]
theorem firstK_eq {c : Ct} {n : Nat} (hn : c.gs.length = n) : firstK c.gs n = firstL c := by
  subst hn
  unfold firstK firstL
  rw [List.take_length]
section
variable {w w' w1 w2 : World} {base : Nat} {l l2 : List RW} {x : RW} {R : List LR} {v v' lv lv' : Value} {las las' : List Bool} {r : LR}
theorem Hold.skip (h : Hold w base (l ++ x :: l2)) : Hold w base (l ++ l2) := by
  refine h.pick (fun i => if i < l.length then i else i + 1) (fun i r hr => ?_) (fun i j _ _ hne => ?_)
  · split
    · rename_i hi
      rw [List.getElem?_append_left hi] at hr ⊢
      exact hr
    · rename_i hi
      rw [List.getElem?_append_right (by omega)] at hr ⊢
      rw [show i + 1 - l.length = (i - l.length) + 1 by omega, List.getElem?_cons_succ]
      exact hr
  · split <;> split <;> omega
/-- The list that grows, its rows, and the latches. -/
def RunsL (w : World) (base : Nat) (v : Value) (R : List LR) (lv : Value) (las : List Bool) : Prop := Hold w base (row1 35 v (R.map LR.v) :: R.map LR.row ++ [row1 4 lv (bools las)])
theorem RunsL.below (h : RunsL w base v R lv las) (hb : Below w.heap.size w w') : RunsL w' base v R lv las := Hold.below h hb
theorem RunsL.lat (h : RunsL w base v R lv las) : Owns w base 4 lv (bools las) :=
  Hold.owns h (i := (R.map LR.row).length + 1) (by rw [List.getElem?_append_right (by simp), List.length_cons, Nat.sub_self]; rfl)
theorem RunsL.vec (h : RunsL w base v R lv las) : Owns w base 35 v (R.map LR.v) := Hold.owns h (i := 0) rfl
theorem RunsL.start {w0 : World} (hB : base ≤ w0.heap.size) (hb : Below w0.heap.size w0 w) (ho : Owns w w0.heap.size 4 lv (bools las)) : RunsL w base (.slice none 0 0) [] lv las := by
  have h1 : Hold w base [row1 4 lv (bools las)] := (Hold.nil w0 base).new hb hB (r := row1 4 lv (bools las)) ho
  have h2 := h1.nilRow (e := 35)
  exact h2.pick (fun i => 1 - i) (fun i r hr => by
    match i, hr with
    | 0, hr => exact hr
    | 1, hr => exact hr
    | i + 2, hr => simp at hr) (fun i j hi hj hne => by simp at hi hj; omega)
/-- A step's two rows. -/
theorem RunsL.step (h : RunsL w1 base v R lv las) (hb : Below w1.heap.size w1 w2) (hB : base ≤ w1.heap.size) (h2 : Hold w2 w1.heap.size [r.row, row1 4 lv' (bools las')]) :
    Hold w2 base (row1 35 v (R.map LR.v) :: (R ++ [r]).map LR.row ++ [row1 4 lv' (bools las')]) := by
  have h3 := Hold.append h hb hB h2
  rw [List.append_assoc, List.singleton_append] at h3
  have h4 := h3.skip
  simpa using h4
theorem RunsL.push (h : Hold w1 base (row1 35 v (R.map LR.v) :: (R ++ [r]).map LR.row ++ [row1 4 lv (bools las)])) (ho : Owns w2 base 35 v' (R.map LR.v ++ [r.v])) (hg : w1.grownBy w2 v.ownBlock) (hn : v'.ownBlock = v.ownBlock ∨ v'.ownBlock = some w1.heap.size) : RunsL w2 base v' (R ++ [r]) lv las := by
  have := h.push (i := 0) rfl ho hg hn
  unfold RunsL
  simpa using this
end
/-- What Run leaves. -/
def RunR (w : World) (c : Ct) (inss : List (List Bool)) (e : Ending) (w' : World) : Prop :=
  ∃ (R : List LR) (A : Option Addr) (c' : Nat), e = .returned (.tuple #[.slice A (runO c inss).length c', .int .i64 (runCode c inss)]) ∧ Hid (R.map LR.xs = runO c inss) ∧ Hid (Hold w' w.heap.size (row1 35 (.slice A (runO c inss).length c') (R.map LR.v) :: R.map LR.row)) ∧ Below w.heap.size w w'
theorem RunR.no {w w' : World} {c : Ct} {inss : List (List Bool)} {e : Ending} {z : Int} (hc : runCode c inss = z) (hz : z ≠ 0) (he : e = .returned (.tuple #[.slice none 0 0, .int .i64 z])) (hb : Below w.heap.size w w') : RunR w c inss e w' := by
  have h0 : runO c inss = [] := by unfold runO; rw [hc, if_neg hz]
  refine ⟨[], none, 0, by rw [hc, h0]; exact he, Lib.hid (by rw [h0]; rfl), Lib.hid ?_, hb⟩
  rw [h0]
  exact (Hold.nil w' w.heap.size).nilRow
theorem RunR.yes {w w' : World} {c : Ct} {inss : List (List Bool)} {e : Ending} {N : Nat} {v lv : Value} {las : List Bool} {R : List LR} (hc : runCode c inss = 0) (hN : inss.length = N) (he : e = .returned (.tuple #[v, .int .i64 0])) (hr : R.map LR.xs = runK c inss N) (h : RunsL w' w.heap.size v R lv las) (hb : Below w.heap.size w w') : RunR w c inss e w' := by
  have h0 : runO c inss = runK c inss N := by unfold runO; rw [hc, if_pos rfl, hN]
  obtain ⟨A, c', hv⟩ := h.vec.form
  have hl : (R.map LR.v).length = (runO c inss).length := by rw [h0, ← hr, List.length_map, List.length_map]
  rw [hl] at hv
  subst hv
  refine ⟨R, A, c', by rw [hc]; exact he, Lib.hid (by rw [h0]; exact hr), Lib.hid (Hold.front h), hb⟩

set_option maxRecDepth 100000 in
set_option maxHeartbeats 8000000 in
theorem Run_any (cc : Ct) (I : List LR) (A B AI : Option Addr) (n m N ca cb ci : Nat) (w : World) (hA : CReads w A (gcells cc.gs)) (hB : Reads w .i64 B cc.outs) (hI : CReads w AI (I.map LR.v)) (hr : ∀ r ∈ I, CReads w r.A (bools r.xs)) (hs : SizeP cc) (hn : cc.gs.length = n) (hm : cc.outs.length = m) (hN : I.length = N) (hN1 : N * 24 ≤ 140737488355328) :
    Calls Try.prog 23 #[.agg #[.string cc.name, .slice A n ca, .slice B m cb], .slice AI N ci] w (RunR w cc (I.map LR.xs)) := by
  have hbl := below1 w (.cells #[.string cc.name, .slice A n ca, .slice B m cb] 25)
  have C1 : Calls Try.prog 32 #[.agg #[.string cc.name, .slice A n ca, .slice B m cb]] (w.alloc (.cells #[.string cc.name, .slice A n ca, .slice B m cb] 25)) fun e w' => e = .returned (.bool (formedB cc)) ∧ Below (w.alloc (.cells #[.string cc.name, .slice A n ca, .slice B m cb] 25)).heap.size (w.alloc (.cells #[.string cc.name, .slice A n ca, .slice B m cb] 25)) w' := formed_any cc A B n m ca cb _ (hA.below hbl) (hB.below hbl) hs hn hm
  have HX := Lib.hid (Blk.new w 25 [.string cc.name, .slice A n ca, .slice B m cb])
  have HA := Lib.hid (hA.below hbl); have HBr := Lib.hid (hB.below hbl); have HI := Lib.hid (hI.below hbl); have HR : Hid (∀ r ∈ I, CReads (w.alloc (.cells #[.string cc.name, .slice A n ca, .slice B m cb] 25)) r.A (bools r.xs)) := Lib.hid (fun r h => (hr r h).below hbl)
  have HN := Lib.hid hn; have HM := Lib.hid hm; have HB0 := Lib.hid hbl; have HIN := Lib.hid hN
  clear hA hB hs hn hm hbl hI hr hN
  obtain ⟨fb, hfb⟩ : ∃ fb, formedB cc = fb := ⟨_, rfl⟩
  rw [hfb] at C1
  cases fb
  · have HNF : Hid (¬ FormedP cc) := Lib.hid (fun h => by rw [formedB_true h] at hfb; cases hfb)
    clear hfb
    go_enter Try.func23, Try.ntmps23
    go_wp2_with (go_at_call 32; with_reducible refine C1.mono ?_; rintro e w1 ⟨rfl, hb1⟩)
    go_ret2
    exact RunR.no (runCode_no HNF.out _) (by decide) rfl (below_self HB0.out hb1)
  · have HFP : Hid (FormedP cc) := Lib.hid (Classical.byContradiction fun h => by rw [formedB_false h] at hfb; cases hfb)
    clear hfb
    have hn2 : n ≤ 65536 := by have := HFP.out.gl; rw [HN.out] at this; exact this
    obtain ⟨q, hq⟩ : ∃ q, cntK cc.gs 1 n = q := ⟨_, rfl⟩
    have HQ := Lib.hid hq
    go_enter Try.func23, Try.ntmps23
    go_upto_region 3 with (go_at_call 32; with_reducible refine C1.mono ?_; rintro e w1 ⟨rfl, hb1⟩)
    have HX1 := Lib.hid (HX.out.self hb1)
    have HA1 := Lib.hid (HA.out.below hb1)
    have HBr1 := Lib.hid (HBr.out.below hb1)
    have HI1 := Lib.hid (HI.out.below hb1)
    have HR1 : Hid (∀ r ∈ I, CReads w1 r.A (bools r.xs)) := Lib.hid fun r h => (HR.out r h).below hb1
    have HB1 := Lib.hid (below_self HB0.out hb1)
    obtain ⟨bx, hbx⟩ : ∃ bx, w.heap.size = bx := ⟨_, rfl⟩
    rw [hbx] at HX1 ⊢
    obtain ⟨x0, x1, x2⟩ : w1.cell? ⟨bx, 0, none⟩ = some (.string cc.name) ∧ w1.cell? ⟨bx, 1, none⟩ = some (.slice A n ca) ∧ w1.cell? ⟨bx, 2, none⟩ = some (.slice B m cb) := ⟨(HX1.out.cell 0).trans rfl, (HX1.out.cell 1).trans rfl, (HX1.out.cell 2).trans rfl⟩
    have m1 : Calls Try.prog 37 #[.agg #[.string cc.name, .slice A n ca, .slice B m cb], .int .i64 1] w1 fun e w' => e = .returned (.int .i64 q) ∧ Below w1.heap.size w1 w' := by
      have := many_any cc.gs 1 cc.name A B n m ca cb w1 HA1.out HN.out (by omega)
      rwa [HQ.out] at this
    clear C1 HX HA HBr HI HR HB0 hb1 hbx hq
    go_upto_region 4 with (go_at_call 37; with_reducible refine m1.mono ?_; rintro e w2 ⟨rfl, hb2⟩)
    have HX2 := Lib.hid (HX1.out.self hb2)
    have HA2 := Lib.hid (HA1.out.below hb2)
    have HBr2 := Lib.hid (HBr1.out.below hb2)
    have HI2 := Lib.hid (HI1.out.below hb2)
    have HR2 : Hid (∀ r ∈ I, CReads w2 r.A (bools r.xs)) := Lib.hid fun r h => (HR1.out r h).below hb2
    have HB2 := Lib.hid (below_self HB1.out hb2)
    clear m1 hb2 x0 x1 x2 HX1 HA1 HBr1 HI1 HR1 HB1
    go_upto_region 5 with (fail)
    go_loopw [23] (fun s23 wr => ∃ i : Nat, i ≤ N ∧ s23 = .int .i64 i ∧ Hid (∀ (j : Nat) (r : LR), j < i → I[j]? = some r → r.xs.length = q) ∧ wr = w2) (fun s23 _ => N - (intOf s23).toNat)
    case atStart => exact ⟨0, by omega, rfl, Lib.hid (fun j r h => by omega), rfl⟩
    case round =>
      obtain ⟨i, hi, rfl, HJ, rfl⟩ := hrel
      by_cases hlt : i < N
      · obtain ⟨r, hr⟩ : ∃ r, I[i]? = some r := ⟨_, List.getElem?_eq_getElem (by rw [HIN.out]; exact hlt)⟩
        obtain ⟨ib, io, rfl, l1⟩ := HI2.out.at_ (x := r.v) (by rw [List.getElem?_map, hr]; rfl)
        unfold LR.v at l1
        have hi0 : (0 : Int) ≤ (i : Int) := by omega
        have hiN : (i : Int) < (N : Int) := by omega
        have HG := Lib.hid hr
        obtain ⟨ln, hln⟩ : ∃ ln, r.xs.length = ln := ⟨_, rfl⟩
        rw [hln] at l1
        have HLN := Lib.hid hln
        clear hr hln
        by_cases he : ln = q
        · subst he
          have HJ2 : Hid (∀ (j : Nat) (r : LR), j < i + 1 → I[j]? = some r → r.xs.length = ln) := Lib.hid fun j r' hj hr' => by
            by_cases e : j = i
            · subst e
              cases HG.out.symm.trans hr'
              exact HLN.out
            · exact HJ.out j r' (by omega) hr'
          clear HG HLN HJ
          go_wp2
          go_roundw
          case rel => exact ⟨i + 1, by omega, by go_num, HJ2, trivial⟩
          case measure => simp [intOf]; omega
        · have he1 : ¬ (ln : Int) = (q : Int) := by omega
          have he2 : ((ln : Int) == (q : Int)) = false := by simp; omega
          go_wp2
          go_ret2
          exact RunR.no (runCode_arg HFP.out (x := r.xs) (List.mem_map.2 ⟨r, List.mem_of_getElem? HG.out, rfl⟩) (by rw [HLN.out, HN.out, HQ.out]; exact he)) (by decide) rfl HB2.out
      · obtain rfl : i = N := by omega
        have HRC : Hid (runCode cc (I.map LR.xs) = 0) := Lib.hid (runCode_ok HFP.out fun x hx => by
          obtain ⟨r, hr, rfl⟩ := List.mem_map.1 hx
          obtain ⟨j, hj⟩ := List.getElem?_of_mem hr
          rw [HN.out, HQ.out]
          exact HJ.out j r (by have := (List.getElem?_eq_some_iff.1 hj).1; rw [HIN.out] at this; exact this) hj)
        have hmm : m ≤ 65536 := by have := HFP.out.ol; rw [HM.out] at this; exact this
        obtain ⟨inss, hinss⟩ : ∃ inss, I.map LR.xs = inss := ⟨_, rfl⟩
        rw [hinss] at HRC
        have HII := Lib.hid hinss
        have HIS : Hid (inss.length = i) := Lib.hid (by rw [← hinss, List.length_map]; exact HIN.out)
        have HGD : Hid (∀ (k : Nat) (r : LR), I[k]? = some r → inss.getD k [] = r.xs) := Lib.hid fun k r hr => by rw [← hinss, List.getD_eq_getElem?_getD, List.getElem?_map, hr]; rfl
        obtain ⟨q3, hq3⟩ : ∃ q3, cntK cc.gs 3 n = q3 := ⟨_, rfl⟩
        have HLL : Hid (∀ k, (latAt cc inss k).length = q3) := Lib.hid fun k => by rw [latAt_len, HN.out]; exact hq3
        have HIR : Hid (InR cc.gs) := Lib.hid HFP.out.lines.inR
        have hcall : Calls Try.prog 39 #[.slice A n ca] wr.drew fun e w' => ∃ AO co L, e = .returned (.slice AO n co) ∧ Hid (CReads w' AO (ints L)) ∧ Hid (IsOrder n (lnsOf cc.gs) L) ∧ Hid (L.length = n) ∧ Below wr.drew.heap.size wr.drew w' := by
          refine (order_any A n ca cc.gs wr.drew (HA2.out.below (below_drew0 (Below.refl _ _))) HN.out HIR.out hn2).mono ?_
          rintro e w' ⟨v, L, rfl, ho, hi, hb⟩
          have hll : L.length = n := ((order_all hi HIR.out.lt).2 HFP.out.free).trans HN.out
          obtain ⟨AO, co, rfl⟩ := ho.form
          rw [ints_length, hll] at ho ⊢
          exact ⟨AO, co, L, rfl, Lib.hid (rows_read (by have := ho; unfold Owns at this; rw [ints_length, hll] at this; exact this) (by decide)), Lib.hid (by rw [← HN.out]; exact hi), Lib.hid hll, hb⟩
        have hfirst : ∀ W, Below wr.heap.size wr W → Calls Try.prog 42 #[.agg #[.string cc.name, .slice A n ca, .slice B m cb]] W fun e w' => ∃ AF cf, e = .returned (.slice AF q3 cf) ∧ Hid (Owns w' W.heap.size 4 (.slice AF q3 cf) (bools (latAt cc inss 0))) ∧ Below W.heap.size W w' := by
          intro W hW
          refine (firsts_any cc.gs cc.name A B n m ca cb W (HA2.out.below hW) HN.out hn2).mono ?_
          rintro e w' ⟨AF, cf, rfl, ho, hb⟩
          have e0 : firstK cc.gs n = latAt cc inss 0 := firstK_eq HN.out
          rw [e0, HLL.out] at ho ⊢
          exact ⟨AF, cf, rfl, ho, hb⟩
        have HFI := Lib.hid hfirst
        have HKT : Hid (∀ W, Below wr.heap.size wr W → W.cell? ⟨bx, 0, none⟩ = some (.string cc.name) ∧ W.cell? ⟨bx, 1, none⟩ = some (.slice A n ca) ∧ W.cell? ⟨bx, 2, none⟩ = some (.slice B m cb)) := Lib.hid (fun W hW => ⟨((HX2.out.self hW).cell 0).trans rfl, ((HX2.out.self hW).cell 1).trans rfl, ((HX2.out.self hW).cell 2).trans rfl⟩)
        have HD := Lib.hid (below_drew0 (Below.refl wr.heap.size wr))
        clear hfirst hq3 hlt hi
        rename World => w2
        go_upto_region 10 with (fail)
        go_region_held3 (fun w' => w'.cell? ⟨bx, 0, none⟩ = some (.string cc.name) ∧ w'.cell? ⟨bx, 1, none⟩ = some (.slice A n ca) ∧ w'.cell? ⟨bx, 2, none⟩ = some (.slice B m cb))
          (first | exact HKT.out _ HD.out | exact HKT.out _ HB4.out | exact HKT.out _ HB5.out)
          (first
            | ((go_at_call 39; with_reducible refine hcall.mono ?_; rintro e w4 ⟨AO, co, L, rfl, HO4, HI4, HL4, hb4⟩; have HB4 := Lib.hid (below_self HD.out hb4); have st := HFI.out w4 HB4.out))
            | ((go_at_call 42; with_reducible refine st.mono ?_; rintro e w5 ⟨AF, cf, rfl, HF5, hb5⟩; have HB5 := Lib.hid (below_self HB4.out hb5))))
        have HFB := Lib.hid hb5
        have HRL0 : Hid (RunsL w5 w4.heap.size (.slice none 0 0) [] (.slice AF q3 cf) (latAt cc inss 0)) := Lib.hid (RunsL.start (Nat.le_refl _) hb5 HF5.out)
        have HBW4 := Lib.hid (below_self HB2.out HB4.out)
        have HRX0 : Hid (([] : List LR).map LR.xs = runK cc inss 0) := Lib.hid (by rw [runK_zero]; rfl)
        have HKT4 : Hid (∀ W, Below w4.heap.size w4 W → W.cell? ⟨bx, 0, none⟩ = some (.string cc.name) ∧ W.cell? ⟨bx, 1, none⟩ = some (.slice A n ca) ∧ W.cell? ⟨bx, 2, none⟩ = some (.slice B m cb)) := Lib.hid (fun W hW => HKT.out W (below_self HB4.out hW))
        have HI4' := Lib.hid (HI2.out.below HB4.out)
        have hstep : ∀ (W : World) (k : Nat) (r : LR) (Av : Option Addr) (cv : Nat), I[k]? = some r → Below w4.heap.size w4 W → CReads W Av (bools (latAt cc inss k)) → Calls Try.prog 38 #[.agg #[.string cc.name, .slice A n ca, .slice B m cb], .slice AO n co, .slice r.A q r.c, .slice Av q3 cv] W fun e w' => ∃ A1 c1 A2 c2, e = .returned (.tuple #[.slice A1 m c1, .slice A2 q3 c2]) ∧ Hid (Hold w' W.heap.size [LR.row ⟨A1, c1, outAt cc inss k⟩, row1 4 (.slice A2 q3 c2) (bools (latAt cc inss (k + 1)))]) ∧ Below W.heap.size W w' := by
          intro W k r Av cv hr hW hv
          have hg := HGD.out k r hr
          have hb2 := below_self HB4.out hW
          have hxl : r.xs.length = q := HJ.out k r (by have := (List.getElem?_eq_some_iff.1 hr).1; rw [HIN.out] at this; exact this) hr
          have hF : Fits cc.gs r.xs (latAt cc inss k) n := ⟨HN.out, by rw [← HN.out]; exact HFP.out.lines, HFP.out.free, by rw [HQ.out]; exact hxl, by rw [latAt_len, HN.out], hn2⟩
          refine (step_any cc.gs cc.outs r.xs (latAt cc inss k) L cc.name A B AO r.A Av n m q q3 ca cb co r.c cv W (HA2.out.below hb2) (HBr2.out.below hb2) (HO4.out.below hW) ((HR2.out r (List.mem_of_getElem? hr)).below hb2) hv hF (by rw [← HN.out]; exact HFP.out.outs) HI4.out hxl (HLL.out k) HL4.out HM.out hmm).mono ?_
          rintro e w' ⟨v, v', rfl, hh, hb⟩
          rw [outK_eq HM.out, latK_eq HN.out] at hh
          have e1 : outAt cc inss k = outsL cc r.xs (latAt cc inss k) := by unfold outAt; rw [hg]
          have e2 : latAt cc inss (k + 1) = nextL cc r.xs (latAt cc inss k) := by rw [← hg]; rfl
          have l1 : (outAt cc inss k).length = m := (outAt_len _ _ _).trans HM.out
          rw [← e1, ← e2] at hh
          obtain ⟨A1, c1, rfl⟩ := (hh.owns (i := 0) rfl).form
          obtain ⟨A2, c2, rfl⟩ := (hh.owns (i := 1) rfl).form
          rw [bools_length] at hh
          rw [bools_length, HLL.out] at hh
          refine ⟨A1, c1, A2, c2, by rw [bools_length, bools_length, l1, HLL.out], Lib.hid hh, hb⟩
        have HST := Lib.hid hstep
        have HXL : Hid (∀ (k : Nat) (r : LR), I[k]? = some r → r.xs.length = q) := Lib.hid fun k r hr => HJ.out k r (by have := (List.getElem?_eq_some_iff.1 hr).1; rw [HIN.out] at this; exact this) hr
        clear hstep hcall st HFI HKT HX2 HA2 HBr2 HI2 HR2 HB2 HJ HD HB4 HB5 HF5 hb4 hb5 HO4 HI4 HL4 HIR HGD HFP
        go_upto_region 13 with (fail)
        go_loopw [10, 11, 39] (fun s10 s11 s39 wr => ∃ (k : Nat) (R : List LR) (Av : Option Addr) (cv : Nat), k ≤ i ∧ s39 = .int .i64 k ∧ s10 = .slice Av q3 cv ∧ Hid (R.map LR.xs = runK cc inss k) ∧ Hid (RunsL wr w4.heap.size s11 R (.slice Av q3 cv) (latAt cc inss k)) ∧ Hid (Below w4.heap.size w4 wr)) (fun _ _ s39 _ => i - (intOf s39).toNat)
        case atStart => exact ⟨0, [], AF, cf, by omega, rfl, rfl, HRX0, HRL0, HFB⟩
        case round =>
          clear HRX0 HRL0 HFB
          obtain ⟨k, R, Av, cv, hk, rfl, rfl, HRX, HRL, HB⟩ := hrel
          by_cases hlt : k < i
          · obtain ⟨r, hr⟩ : ∃ r, I[k]? = some r := ⟨_, List.getElem?_eq_getElem (by rw [HIN.out]; exact hlt)⟩
            obtain ⟨ib, io, rfl, l1⟩ := (HI4'.out.below HB.out).at_ (x := r.v) (by rw [List.getElem?_map, hr]; rfl)
            have hxl : r.xs.length = q := HXL.out k r hr
            unfold LR.v at l1
            rw [hxl] at l1
            obtain ⟨x0, x1, x2⟩ := HKT4.out wr HB.out
            have st := HST.out wr k r Av cv hr HB.out (owns_read HRL.out.lat (HLL.out k))
            have hRk : R.length = k := by have := congrArg List.length HRX.out; rwa [List.length_map, runK_length] at this
            have hlen : (R.map LR.v).length = k := (List.length_map ..).trans hRk
            have hk0 : (0 : Int) ≤ (k : Int) := by omega
            have hki : (k : Int) < (i : Int) := by omega
            clear hr hxl hRk
            go_upto_region 17 with (first
              | ((go_at_call 38; with_reducible refine st.mono ?_; rintro e w6 ⟨A1, c1, A2, c2, rfl, HH6, hb6⟩; have hR6 := HRL.out.step hb6 HB.out.size HH6.out; have hbl := below1 w6 (.cells [Value.slice A1 m c1].toArray 35); have HR6 := Lib.hid (hR6.below hbl); have HV := Lib.hid (Hold.owns (i := 0) (hR6.below hbl) rfl); have HB6 := Lib.hid (below_then (below_self HB.out hb6) (below_self HB.out hb6).size hbl); clear hR6 hbl st hb6))
              | ((at_builtin; refine wpList_push2 rfl _ _ 43 rfl w4.heap.size 35 _ 24 Try.underlying43 info_bools rfl u11 _ rfl HV.out ⟨w6.heap.size, 0, none⟩ (.slice A1 m c1) rfl (by simp [go_sem]) rfl (by rw [hlen]; unfold maxLen; omega) (by rw [hlen]; omega) (by exact HB6.out.size) ?_; intro v5 w7 hown5 hg5 hb5)))
            have hrv : LR.v ⟨A1, c1, outAt cc inss k⟩ = .slice A1 m c1 := by unfold LR.v; rw [outAt_len, HM.out]
            rw [← hrv] at hown5
            have HRL7 := Lib.hid (RunsL.push HR6.out hown5 hg5 hb5)
            have HRX7 : Hid ((R ++ [(⟨A1, c1, outAt cc inss k⟩ : LR)]).map LR.xs = runK cc inss (k + 1)) := Lib.hid (by rw [List.map_append, HRX.out, runK_succ]; rfl)
            have HB7 := Lib.hid (HB6.out.grown hg5 HB6.out.size (fun g e => (HV.out.lt e).1))
            clear hrv hown5 hg5 hb5 HR6 HV HB6 HRL HRX HB HH6 l1 x0 x1 x2 hlen
            go_wp2
            go_roundw
            case rel => exact ⟨k + 1, _, A2, c2, by omega, by go_num, rfl, HRX7, HRL7, HB7⟩
            case measure => simp [intOf]; omega
          · obtain rfl : k = i := by omega
            go_wp2
            go_ret2
            rw [HII.out]
            exact RunR.yes HRC.out HIS.out rfl HRX.out (Hold.base_ HRL.out HBW4.out.size) (below_self HBW4.out HB.out)

set_option maxRecDepth 100000 in
set_option maxHeartbeats 8000000 in
theorem Run_ref (cc : Ct) (I : List LR) (A B AI : Option Addr) (n m N ca cb ci : Nat) (w : World) (hA : CReads w A (gcells cc.gs)) (hB : Reads w .i64 B cc.outs) (hI : CReads w AI (I.map LR.v)) (hr : ∀ r ∈ I, CReads w r.A (bools r.xs)) (hs : SizeP cc) (hn : cc.gs.length = n) (hm : cc.outs.length = m) (hN : I.length = N) (hN1 : N * 24 ≤ 140737488355328) :
    Calls Try.prog 24 #[.agg #[.string cc.name, .slice A n ca, .slice B m cb], .slice AI N ci] w (RunR w cc (I.map LR.xs)) := by
  have hbl := below1 w (.cells #[.string cc.name, .slice A n ca, .slice B m cb] 25)
  have C1 : Calls Try.prog 34 #[.agg #[.string cc.name, .slice A n ca, .slice B m cb]] (w.alloc (.cells #[.string cc.name, .slice A n ca, .slice B m cb] 25)) fun e w' => e = .returned (.bool (formedB cc)) ∧ Below (w.alloc (.cells #[.string cc.name, .slice A n ca, .slice B m cb] 25)).heap.size (w.alloc (.cells #[.string cc.name, .slice A n ca, .slice B m cb] 25)) w' := formed_ref cc A B n m ca cb _ (hA.below hbl) (hB.below hbl) hs hn hm
  have HX := Lib.hid (Blk.new w 25 [.string cc.name, .slice A n ca, .slice B m cb])
  have HA := Lib.hid (hA.below hbl); have HBr := Lib.hid (hB.below hbl); have HI := Lib.hid (hI.below hbl); have HR : Hid (∀ r ∈ I, CReads (w.alloc (.cells #[.string cc.name, .slice A n ca, .slice B m cb] 25)) r.A (bools r.xs)) := Lib.hid (fun r h => (hr r h).below hbl)
  have HSZ := Lib.hid hs; have HN := Lib.hid hn; have HM := Lib.hid hm; have HB0 := Lib.hid hbl; have HIN := Lib.hid hN
  clear hA hB hs hn hm hbl hI hr hN
  obtain ⟨fb, hfb⟩ : ∃ fb, formedB cc = fb := ⟨_, rfl⟩
  rw [hfb] at C1
  cases fb
  · have HNF : Hid (¬ FormedP cc) := Lib.hid (fun h => by rw [formedB_true h] at hfb; cases hfb)
    clear hfb
    go_enter Try.func24, Try.ntmps24
    go_wp2_with (go_at_call 34; with_reducible refine C1.mono ?_; rintro e w1 ⟨rfl, hb1⟩)
    go_ret2
    exact RunR.no (runCode_no HNF.out _) (by decide) rfl (below_self HB0.out hb1)
  · have HFP : Hid (FormedP cc) := Lib.hid (Classical.byContradiction fun h => by rw [formedB_false h] at hfb; cases hfb)
    clear hfb
    have hn2 : n ≤ 65536 := by have := HFP.out.gl; rw [HN.out] at this; exact this
    obtain ⟨q, hq⟩ : ∃ q, cntK cc.gs 1 n = q := ⟨_, rfl⟩
    have HQ := Lib.hid hq
    go_enter Try.func24, Try.ntmps24
    go_upto_region 4 with (go_at_call 34; with_reducible refine C1.mono ?_; rintro e w1 ⟨rfl, hb1⟩)
    have HX1 := Lib.hid (HX.out.self hb1)
    have HA1 := Lib.hid (HA.out.below hb1)
    have HBr1 := Lib.hid (HBr.out.below hb1)
    have HI1 := Lib.hid (HI.out.below hb1)
    have HR1 : Hid (∀ r ∈ I, CReads w1 r.A (bools r.xs)) := Lib.hid fun r h => (HR.out r h).below hb1
    have HB1 := Lib.hid (below_self HB0.out hb1)
    obtain ⟨bx, hbx⟩ : ∃ bx, w.heap.size = bx := ⟨_, rfl⟩
    rw [hbx] at HX1 ⊢
    obtain ⟨x0, x1, x2⟩ : w1.cell? ⟨bx, 0, none⟩ = some (.string cc.name) ∧ w1.cell? ⟨bx, 1, none⟩ = some (.slice A n ca) ∧ w1.cell? ⟨bx, 2, none⟩ = some (.slice B m cb) := ⟨(HX1.out.cell 0).trans rfl, (HX1.out.cell 1).trans rfl, (HX1.out.cell 2).trans rfl⟩
    have m1 : Calls Try.prog 40 #[.agg #[.string cc.name, .slice A n ca, .slice B m cb], .int .i64 1] w1 fun e w' => e = .returned (.int .i64 q) ∧ Below w1.heap.size w1 w' := by
      have := count_ref cc.gs 1 cc.name A B n m ca cb w1 HA1.out HN.out (by omega)
      rwa [HQ.out] at this
    clear C1 HX HA HBr HI HR HB0 hb1 hbx hq
    go_upto_region 5 with (go_at_call 40; with_reducible refine m1.mono ?_; rintro e w2 ⟨rfl, hb2⟩)
    have HX2 := Lib.hid (HX1.out.self hb2)
    have HA2 := Lib.hid (HA1.out.below hb2)
    have HBr2 := Lib.hid (HBr1.out.below hb2)
    have HI2 := Lib.hid (HI1.out.below hb2)
    have HR2 : Hid (∀ r ∈ I, CReads w2 r.A (bools r.xs)) := Lib.hid fun r h => (HR1.out r h).below hb2
    have HB2 := Lib.hid (below_self HB1.out hb2)
    clear m1 hb2 x0 x1 x2 HX1 HA1 HBr1 HI1 HR1 HB1
    go_upto_region 6 with (fail)
    go_loopw [8] (fun s23 wr => ∃ i : Nat, i ≤ N ∧ s23 = .int .i64 i ∧ Hid (∀ (j : Nat) (r : LR), j < i → I[j]? = some r → r.xs.length = q) ∧ wr = w2) (fun s23 _ => N - (intOf s23).toNat)
    case atStart => exact ⟨0, by omega, rfl, Lib.hid (fun j r h => by omega), rfl⟩
    case round =>
      obtain ⟨i, hi, rfl, HJ, rfl⟩ := hrel
      by_cases hlt : i < N
      · obtain ⟨r, hr⟩ : ∃ r, I[i]? = some r := ⟨_, List.getElem?_eq_getElem (by rw [HIN.out]; exact hlt)⟩
        obtain ⟨ib, io, rfl, l1⟩ := HI2.out.at_ (x := r.v) (by rw [List.getElem?_map, hr]; rfl)
        unfold LR.v at l1
        have hi0 : (0 : Int) ≤ (i : Int) := by omega
        have hiN : (i : Int) < (N : Int) := by omega
        have HG := Lib.hid hr
        obtain ⟨ln, hln⟩ : ∃ ln, r.xs.length = ln := ⟨_, rfl⟩
        rw [hln] at l1
        have HLN := Lib.hid hln
        clear hr hln
        by_cases he : ln = q
        · subst he
          have HJ2 : Hid (∀ (j : Nat) (r : LR), j < i + 1 → I[j]? = some r → r.xs.length = ln) := Lib.hid fun j r' hj hr' => by
            by_cases e : j = i
            · subst e
              cases HG.out.symm.trans hr'
              exact HLN.out
            · exact HJ.out j r' (by omega) hr'
          clear HG HLN HJ
          go_wp2
          go_roundw
          case rel => exact ⟨i + 1, by omega, by go_num, HJ2, trivial⟩
          case measure => simp [intOf]; omega
        · have he1 : ¬ (ln : Int) = (q : Int) := by omega
          have he2 : ((ln : Int) == (q : Int)) = false := by simp; omega
          go_wp2
          go_ret2
          exact RunR.no (runCode_arg HFP.out (x := r.xs) (List.mem_map.2 ⟨r, List.mem_of_getElem? HG.out, rfl⟩) (by rw [HLN.out, HN.out, HQ.out]; exact he)) (by decide) rfl HB2.out
      · obtain rfl : i = N := by omega
        have HRC : Hid (runCode cc (I.map LR.xs) = 0) := Lib.hid (runCode_ok HFP.out fun x hx => by
          obtain ⟨r, hr, rfl⟩ := List.mem_map.1 hx
          obtain ⟨j, hj⟩ := List.getElem?_of_mem hr
          rw [HN.out, HQ.out]
          exact HJ.out j r (by have := (List.getElem?_eq_some_iff.1 hj).1; rw [HIN.out] at this; exact this) hj)
        have hmm : m ≤ 65536 := by have := HFP.out.ol; rw [HM.out] at this; exact this
        obtain ⟨inss, hinss⟩ : ∃ inss, I.map LR.xs = inss := ⟨_, rfl⟩
        rw [hinss] at HRC
        have HII := Lib.hid hinss
        have HIS : Hid (inss.length = i) := Lib.hid (by rw [← hinss, List.length_map]; exact HIN.out)
        have HGD : Hid (∀ (k : Nat) (r : LR), I[k]? = some r → inss.getD k [] = r.xs) := Lib.hid fun k r hr => by rw [← hinss, List.getD_eq_getElem?_getD, List.getElem?_map, hr]; rfl
        obtain ⟨q3, hq3⟩ : ∃ q3, cntK cc.gs 3 n = q3 := ⟨_, rfl⟩
        have HLL : Hid (∀ k, (latAt cc inss k).length = q3) := Lib.hid fun k => by rw [latAt_len, HN.out]; exact hq3
        have HIR : Hid (InR cc.gs) := Lib.hid HFP.out.lines.inR
        have hfirst : ∀ W, Below wr.heap.size wr W → Calls Try.prog 43 #[.agg #[.string cc.name, .slice A n ca, .slice B m cb]] W fun e w' => ∃ AF cf, e = .returned (.slice AF q3 cf) ∧ Hid (Owns w' W.heap.size 4 (.slice AF q3 cf) (bools (latAt cc inss 0))) ∧ Below W.heap.size W w' := by
          intro W hW
          refine (firsts_ref cc.gs cc.name A B n m ca cb W (HA2.out.below hW) HN.out hn2).mono ?_
          rintro e w' ⟨AF, cf, rfl, ho, hb⟩
          have e0 : firstK cc.gs n = latAt cc inss 0 := firstK_eq HN.out
          rw [e0, HLL.out] at ho ⊢
          exact ⟨AF, cf, rfl, ho, hb⟩
        have st := hfirst wr (Below.refl _ _)
        have HKT4 : Hid (∀ W, Below wr.heap.size wr W → W.cell? ⟨bx, 0, none⟩ = some (.string cc.name) ∧ W.cell? ⟨bx, 1, none⟩ = some (.slice A n ca) ∧ W.cell? ⟨bx, 2, none⟩ = some (.slice B m cb)) := Lib.hid (fun W hW => ⟨((HX2.out.self hW).cell 0).trans rfl, ((HX2.out.self hW).cell 1).trans rfl, ((HX2.out.self hW).cell 2).trans rfl⟩)
        obtain ⟨x0, x1, x2⟩ := HKT4.out wr (Below.refl _ _)
        clear hfirst hlt hi
        rename World => w4
        go_upto_region 12 with (go_at_call 43; with_reducible refine st.mono ?_; rintro e w5 ⟨AF, cf, rfl, HF5, hb5⟩)
        have HFB := Lib.hid hb5
        have HRL0 : Hid (RunsL w5 w4.heap.size (.slice none 0 0) [] (.slice AF q3 cf) (latAt cc inss 0)) := Lib.hid (RunsL.start (Nat.le_refl _) hb5 HF5.out)
        have HBW4 := HB2
        have HI4' := HI2
        have HRX0 : Hid (([] : List LR).map LR.xs = runK cc inss 0) := Lib.hid (by rw [runK_zero]; rfl)
        have hstep : ∀ (W : World) (k : Nat) (r : LR) (Av : Option Addr) (cv : Nat), I[k]? = some r → Below w4.heap.size w4 W → CReads W Av (bools (latAt cc inss k)) → Calls Try.prog 15 #[.agg #[.string cc.name, .slice A n ca, .slice B m cb], .slice r.A q r.c, .slice Av q3 cv] W fun e w' => ∃ A1 c1 A2 c2, e = .returned (.tuple #[.slice A1 m c1, .slice A2 q3 c2, .int .i64 0]) ∧ Hid (Hold w' W.heap.size [LR.row ⟨A1, c1, outAt cc inss k⟩, row1 4 (.slice A2 q3 c2) (bools (latAt cc inss (k + 1)))]) ∧ Below W.heap.size W w' := by
          intro W k r Av cv hr hW hv
          have hg := HGD.out k r hr
          have hxl : r.xs.length = q := HJ.out k r (by have := (List.getElem?_eq_some_iff.1 hr).1; rw [HIN.out] at this; exact this) hr
          have e1 : outAt cc inss k = outsL cc r.xs (latAt cc inss k) := by unfold outAt; rw [hg]
          have e2 : latAt cc inss (k + 1) = nextL cc r.xs (latAt cc inss k) := by rw [← hg]; rfl
          have l1 : (outAt cc inss k).length = m := (outAt_len _ _ _).trans HM.out
          have hsc : stepCode cc r.xs.length (latAt cc inss k).length = 0 := by unfold stepCode; rw [if_pos HFP.out, if_pos ⟨by rw [HN.out, HQ.out]; exact hxl, latAt_len _ _ _⟩]
          have ho : stepO cc r.xs (latAt cc inss k) = outAt cc inss k := by unfold stepO; rw [hsc, if_pos rfl, e1]
          have hn' : stepN cc r.xs (latAt cc inss k) = latAt cc inss (k + 1) := by unfold stepN; rw [hsc, if_pos rfl, e2]
          refine (Step_ref cc r.xs (latAt cc inss k) A B r.A Av n m q q3 ca cb r.c cv W (HA2.out.below hW) (HBr2.out.below hW) ((HR2.out r (List.mem_of_getElem? hr)).below hW) hv HSZ.out HN.out HM.out hxl (HLL.out k)).mono ?_
          intro e w' h
          obtain ⟨A1, c1, A2, c2, he, hh, hb⟩ := h.n ho hn' hsc l1 (HLL.out (k + 1))
          have hrv : row1 4 (.slice A1 m c1) (bools (outAt cc inss k)) = LR.row ⟨A1, c1, outAt cc inss k⟩ := by unfold LR.row LR.v; rw [l1]
          rw [hrv] at hh
          exact ⟨A1, c1, A2, c2, he, hh, hb⟩
        have HST := Lib.hid hstep
        have HXL : Hid (∀ (k : Nat) (r : LR), I[k]? = some r → r.xs.length = q) := Lib.hid fun k r hr => HJ.out k r (by have := (List.getElem?_eq_some_iff.1 hr).1; rw [HIN.out] at this; exact this) hr
        clear hstep st HX2 HA2 HBr2 HI2 HR2 HB2 HJ HF5 hb5 HIR HGD HFP x0 x1 x2
        go_upto_region 13 with (fail)
        go_loopw [9, 10, 11] (fun s11 s10 s39 wr => ∃ (k : Nat) (R : List LR) (Av : Option Addr) (cv : Nat), k ≤ i ∧ s39 = .int .i64 k ∧ s10 = .slice Av q3 cv ∧ Hid (R.map LR.xs = runK cc inss k) ∧ Hid (RunsL wr w4.heap.size s11 R (.slice Av q3 cv) (latAt cc inss k)) ∧ Hid (Below w4.heap.size w4 wr)) (fun _ _ s39 _ => i - (intOf s39).toNat)
        case atStart => exact ⟨0, [], AF, cf, by omega, rfl, rfl, HRX0, HRL0, HFB⟩
        case round =>
          clear HRX0 HRL0 HFB
          obtain ⟨k, R, Av, cv, hk, rfl, rfl, HRX, HRL, HB⟩ := hrel
          by_cases hlt : k < i
          · obtain ⟨r, hr⟩ : ∃ r, I[k]? = some r := ⟨_, List.getElem?_eq_getElem (by rw [HIN.out]; exact hlt)⟩
            obtain ⟨ib, io, rfl, l1⟩ := (HI4'.out.below HB.out).at_ (x := r.v) (by rw [List.getElem?_map, hr]; rfl)
            have hxl : r.xs.length = q := HXL.out k r hr
            unfold LR.v at l1
            rw [hxl] at l1
            obtain ⟨x0, x1, x2⟩ := HKT4.out wr HB.out
            have st := HST.out wr k r Av cv hr HB.out (owns_read HRL.out.lat (HLL.out k))
            have hRk : R.length = k := by have := congrArg List.length HRX.out; rwa [List.length_map, runK_length] at this
            have hlen : (R.map LR.v).length = k := (List.length_map ..).trans hRk
            have hk0 : (0 : Int) ≤ (k : Int) := by omega
            have hki : (k : Int) < (i : Int) := by omega
            have HG := Lib.hid hr
            clear hr hxl hRk
            have HD := Lib.hid (below_drew0 HB.out)
            have HKI : Hid (∀ W, Below w4.heap.size w4 W → W.cell? ⟨ib, io + k, none⟩ = some (.slice r.A q r.c)) := Lib.hid fun W hW => by
              obtain ⟨_, _, e1, k1⟩ := (HI4'.out.below hW).at_ (x := r.v) (by rw [List.getElem?_map, HG.out]; rfl)
              cases e1
              unfold LR.v at k1
              rwa [HXL.out k r HG.out] at k1
            have hst := HST.out wr.drew k r Av cv HG.out HD.out (owns_read HRL.out.lat (HLL.out k))
            clear x0 x1 x2 l1 st
            go_upto_region 15 with (fail)
            go_region_held3 (fun w' => w'.cell? ⟨bx, 0, none⟩ = some (.string cc.name) ∧ w'.cell? ⟨bx, 1, none⟩ = some (.slice A n ca) ∧ w'.cell? ⟨bx, 2, none⟩ = some (.slice B m cb) ∧ w'.cell? ⟨ib, io + k, none⟩ = some (.slice r.A q r.c))
              (first | exact ⟨(HKT4.out _ HD.out).1, (HKT4.out _ HD.out).2.1, (HKT4.out _ HD.out).2.2, HKI.out _ HD.out⟩ | exact ⟨(HKT4.out _ HB66.out).1, (HKT4.out _ HB66.out).2.1, (HKT4.out _ HB66.out).2.2, HKI.out _ HB66.out⟩)
              (first
                | ((go_at_call 15; with_reducible refine hst.mono ?_; rintro e w6 ⟨A1, c1, A2, c2, rfl, HH6, hb6⟩; have HB66 := Lib.hid (below_self HD.out hb6))))
            have hR6 := RunsL.step (w1 := wr.drew) HRL.out hb6 HD.out.size HH6.out
            have hbl := below1 w6 (.cells [Value.slice A1 m c1].toArray 35)
            have HR6 := Lib.hid (hR6.below hbl)
            have HV := Lib.hid (Hold.owns (i := 0) (hR6.below hbl) rfl)
            have HB6 := Lib.hid (below_then HB66.out HB66.out.size hbl)
            clear hR6 hbl hst hb6 HKI HD
            go_upto_region 17 with (at_builtin; refine wpList_push2 rfl _ _ 43 rfl w4.heap.size 35 _ 24 Try.underlying43 info_bools rfl u9 _ rfl HV.out ⟨w6.heap.size, 0, none⟩ (.slice A1 m c1) rfl (by simp [go_sem]) rfl (by rw [hlen]; unfold maxLen; omega) (by rw [hlen]; omega) (by exact HB6.out.size) ?_; intro v5 w7 hown5 hg5 hb5)
            have hrv : LR.v ⟨A1, c1, outAt cc inss k⟩ = .slice A1 m c1 := by unfold LR.v; rw [outAt_len, HM.out]
            rw [← hrv] at hown5
            have HRL7 := Lib.hid (RunsL.push HR6.out hown5 hg5 hb5)
            have HRX7 : Hid ((R ++ [(⟨A1, c1, outAt cc inss k⟩ : LR)]).map LR.xs = runK cc inss (k + 1)) := Lib.hid (by rw [List.map_append, HRX.out, runK_succ]; rfl)
            have HB7 := Lib.hid (HB6.out.grown hg5 HB6.out.size (fun g e => (HV.out.lt e).1))
            clear hrv hown5 hg5 hb5 HR6 HV HB6 HB66 HRL HRX HB HH6 hlen HG
            go_wp2
            go_roundw
            case rel => exact ⟨k + 1, _, A2, c2, by omega, by go_num, rfl, HRX7, HRL7, HB7⟩
            case measure => simp [intOf]; omega
          · obtain rfl : k = i := by omega
            go_wp2
            go_ret2
            rw [HII.out]
            exact RunR.yes HRC.out HIS.out rfl HRX.out (Hold.base_ HRL.out HBW4.out.size) (below_self HBW4.out HB.out)

theorem owns_some {w : World} {base n c : Nat} {e : TypeId} {A : Option Addr} {xs : List Value} (h : Owns w base e (.slice A n c) xs) (h0 : 0 < n) : ∃ g, A = some ⟨g, 0, none⟩ ∧ n ≤ c ∧ base ≤ g := by
  rcases h.2 with ⟨hv, _⟩ | ⟨g, cap, cur, hv, hb, hh, hnc, _⟩
  · cases hv; omega
  · cases hv; exact ⟨g, rfl, hnc, hb⟩
/-- 'append(s, x...)' onto a row of the call's own, as one step of a region that draws. -/
theorem step_cells {P : Program} {ops : Array Oper} {o : Oper} {a : Act} {w : World} {K : Act → World → Prop} {Q : Exit → Act → World → Prop} {E : Prop} (hgd : o.guard = none) (s x : Operand) (T : TypeId)
    (ho : o.op = .call { callee := .builtin .append, args := #[s, x], argTypes := #[T, T] }) (base : Nat) (e : TypeId) (z : Value) (bytes : Nat) (hu : P.underlying T = some (.slice e))
    (hi : (P.info? e).map (fun i => (i.zero, i.size, i.bytes)) = some (some z, 1, bytes)) (hzs : z.cells.size = 1)
    (v : Value) (xs : List Value) (hs : a.eval s = v) (hown : Owns w base e v xs)
    (A : Option Addr) (m c : Nat) (ys : List Value) (hx : a.eval x = .slice A m c) (hr : CReads w A ys) (hl : ys.length = m) (h1 : ∀ u ∈ ys, u.oneCell' = true) (h63 : xs.length + m ≤ maxLen) (hbytes : (xs.length + m) * bytes ≤ 140737488355328) (hbase : base ≤ w.heap.size)
    (h : ∀ v' w', Owns w' base e v' (xs ++ ys) → w.grownBy w' v.ownBlock → (v'.ownBlock = v.ownBlock ∨ v'.ownBlock = some w.heap.size) → K (a.put o.dst v') w') :
    if Region.wanted o (yielded ops a.tmps) = true then Oper.wp P o a w K Q else E := by
  have hw : Region.wanted o (yielded ops a.tmps) = true := by simp [Region.wanted, hgd]
  rw [if_pos hw]
  obtain ⟨v', w', hrun, hown', hg, hb⟩ := run_cells (P := P) (ty := o.type) hu hi hzs (by decide) hown A m c ys hr (by rw [hl, Nat.mul_one]) h1 h63 hbytes hbase
  have hfin := h v' w' (by unfold Owns; rw [List.length_append, hl]; exact hown') hg hb
  unfold Oper.wp
  simp only [execOp, ho, resolve, invoke, builtin, Sem.run_bind, Sem.run_pure, Result.andThen_ok, List.map_toArray, List.map_cons, List.map_nil, hs, hx, hrun]
  exact hfin
section
variable {w : World}
theorem LR.read_len {r s : LR} (h : r.xs = s.xs) : s.v = .slice s.A r.xs.length s.c := by unfold LR.v; rw [h]
end
set_option maxHeartbeats 4000000 in
/-- Two lists of lists that read alike. -/
theorem lists_same (A B : Option Addr) (N ca cb : Nat) (R S : List LR) (w : World) (hA : CReads w A (R.map LR.v)) (hB : CReads w B (S.map LR.v)) (hR : ∀ r ∈ R, CReads w r.A (bools r.xs)) (hS : ∀ r ∈ S, CReads w r.A (bools r.xs)) (hx : R.map LR.xs = S.map LR.xs) (hN : R.length = N) (hN1 : N ≤ 9223372036854775806) (hl : ∀ r ∈ R, r.xs.length ≤ 9223372036854775806) :
    Calls Try.prog 25 #[.slice A N ca, .slice B N cb] w fun e w' => e = .returned (.bool true) ∧ Below w.heap.size w w' := by
  have HA := Lib.hid hA; have HB := Lib.hid hB; have HN := Lib.hid hN; have HR := Lib.hid hR; have HS := Lib.hid hS; have HX := Lib.hid hx; have HL := Lib.hid hl
  have HSN : Hid (S.length = N) := Lib.hid (by have := congrArg List.length hx; rw [List.length_map, List.length_map] at this; omega)
  clear hA hB hN hR hS hx hl
  go_enter Try.func25, Try.ntmps25
  go_upto_region 4 with (fail)
  go_loopw [5] (fun s5 wr => ∃ i : Nat, i ≤ N ∧ s5 = .int .i64 i ∧ Hid (Below w.heap.size w wr)) (fun s5 _ => N - (intOf s5).toNat)
  case atStart => exact ⟨0, by omega, rfl, Lib.hid (Below.refl _ _)⟩
  case round =>
    obtain ⟨i, hi, rfl, HBW⟩ := hrel
    by_cases hlt : i < N
    · obtain ⟨r, hr⟩ : ∃ r, R[i]? = some r := ⟨_, List.getElem?_eq_getElem (by rw [HN.out]; exact hlt)⟩
      obtain ⟨s, hs⟩ : ∃ s, S[i]? = some s := ⟨_, List.getElem?_eq_getElem (by rw [HSN.out]; exact hlt)⟩
      have hxs : r.xs = s.xs := by
        have h1 := congrArg (fun (l : List (List Bool)) => l[i]?) HX.out
        simp only [List.getElem?_map, hr, hs, Option.map_some, Option.some.injEq] at h1
        exact h1
      obtain ⟨ab, ao, rfl, h1⟩ := HA.out.at_ (x := r.v) (by rw [List.getElem?_map, hr]; rfl)
      obtain ⟨bb, bo, rfl, h2⟩ := HB.out.at_ (x := s.v) (by rw [List.getElem?_map, hs]; rfl)
      rw [LR.read_len hxs] at h2
      unfold LR.v at h1
      have hlr := HL.out r (List.mem_of_getElem? hr)
      obtain ⟨q, hq⟩ : ∃ q, r.xs.length = q := ⟨_, rfl⟩
      rw [hq] at h1 h2
      have hc : Calls Try.prog 18 #[.slice r.A q r.c, .slice s.A q s.c] wr.drew fun e w' => e = .returned (.bool true) ∧ Below wr.drew.heap.size wr.drew w' := truths_same r.A s.A q r.c s.c r.xs wr.drew ((HR.out r (List.mem_of_getElem? hr)).below (below_drew0 HBW.out)) (by rw [hxs]; exact (HS.out s (List.mem_of_getElem? hs)).below (below_drew0 HBW.out)) hq (by omega)
      have HKP : Hid (∀ W, Below w.heap.size w W → W.cell? ⟨ab, ao + i, none⟩ = some (.slice r.A q r.c) ∧ W.cell? ⟨bb, bo + i, none⟩ = some (.slice s.A q s.c)) := Lib.hid fun W hW => ⟨cell_kept hW h1, cell_kept hW h2⟩
      have hi0 : (0 : Int) ≤ (i : Int) := by omega
      have hin : (i : Int) < (N : Int) := by omega
      have HD := Lib.hid (below_drew0 HBW.out)
      clear hr hs h1 h2 hxs hq hlr
      go_upto_region 6 with (fail)
      go_region_held3 (fun w' => w'.cell? ⟨ab, ao + i, none⟩ = some (.slice r.A q r.c) ∧ w'.cell? ⟨bb, bo + i, none⟩ = some (.slice s.A q s.c))
        (first | exact HKP.out _ HD.out | exact HKP.out _ HB3.out)
        (first
          | ((go_at_call 18; with_reducible refine hc.mono ?_; rintro e w3 ⟨rfl, hb3⟩; have HB3 := Lib.hid (below_self HD.out hb3))))
      clear hc HKP hb3 HD
      go_wp2
      go_roundw
      case rel => exact ⟨i + 1, by omega, by go_num, HB3⟩
      case measure => simp [intOf]; omega
    · obtain rfl : i = N := by omega
      go_wp2
      go_ret
      exact ⟨rfl, HBW.out⟩
/-- Two lists in turns, the first k of each. -/
def inter (R S : List LR) (k : Nat) : List LR := ((R.zip S).take k).flatMap fun p => [p.1, p.2]
theorem inter_zero (R S : List LR) : inter R S 0 = [] := by simp [inter]
theorem inter_succ {R S : List LR} {k : Nat} {r s : LR} (hr : R[k]? = some r) (hs : S[k]? = some s) : inter R S (k + 1) = inter R S k ++ [r, s] := by
  have hz : (R.zip S)[k]? = some (r, s) := by rw [List.getElem?_zip_eq_some]; exact ⟨hr, hs⟩
  unfold inter
  rw [List.take_add_one, hz]
  simp
theorem pairs_get (l : List (LR × LR)) (i : Nat) : (l.flatMap fun p => [p.1, p.2])[i]? = (l[i / 2]?).map fun p => if i % 2 = 0 then p.1 else p.2 := by
  induction l generalizing i with
  | nil => simp
  | cons p l ih =>
    match i with
    | 0 => simp
    | 1 => simp
    | i + 2 =>
      have h1 : (i + 2) / 2 = i / 2 + 1 := by omega
      have h2 : (i + 2) % 2 = i % 2 := by omega
      rw [h1, h2, List.getElem?_cons_succ, ← ih i]
      simp
theorem inter_length {R S : List LR} {k : Nat} (hR : k ≤ R.length) (hS : k ≤ S.length) : (inter R S k).length = 2 * k := by
  induction k with
  | zero => simp [inter]
  | succ k ih =>
    rw [inter_succ (List.getElem?_eq_getElem (by omega : k < R.length)) (List.getElem?_eq_getElem (by omega : k < S.length)), List.length_append, ih (by omega) (by omega)]
    simp
    omega
theorem inter_get {R S : List LR} {k i : Nat} {r : LR} (h : (inter R S k)[i]? = some r) : i / 2 < k ∧ ((i % 2 = 0 ∧ R[i / 2]? = some r) ∨ (i % 2 = 1 ∧ S[i / 2]? = some r)) := by
  unfold inter at h
  rw [pairs_get, List.getElem?_take] at h
  by_cases hk : i / 2 < k
  · rw [if_pos hk] at h
    refine ⟨hk, ?_⟩
    rcases hz : (R.zip S)[i / 2]? with _ | p
    · rw [hz] at h; cases h
    · rw [hz] at h
      rw [List.getElem?_zip_eq_some] at hz
      simp only [Option.map_some, Option.some.injEq] at h
      by_cases h0 : i % 2 = 0
      · rw [if_pos h0] at h
        exact .inl ⟨h0, by rw [hz.1, h]⟩
      · rw [if_neg h0] at h
        exact .inr ⟨by omega, by rw [hz.2, h]⟩
  · rw [if_neg hk] at h
    cases h

/-- A list of lists, and the lists, in rows of the call's own. -/
def VH (w : World) (base : Nat) (v : Value) (R : List LR) : Prop := Hold w base (row1 35 v (R.map LR.v) :: R.map LR.row)
section
variable {w w' w1 w2 : World} {base N c : Nat} {v v' : Value} {A : Option Addr} {R : List LR} {r : LR}
theorem VH.below (h : VH w base v R) (hb : Below w.heap.size w w') : VH w' base v R := Hold.below h hb
theorem VH.drew (h : VH w base v R) : VH w.drew base v R := h
theorem VH.vec (h : VH w base v R) : Owns w base 35 v (R.map LR.v) := Hold.owns h (i := 0) rfl
theorem VH.row (h : VH w base v R) {i : Nat} (hr : R[i]? = some r) : Owns w base 4 (.slice r.A r.xs.length r.c) (bools r.xs) :=
  Hold.owns h (i := i + 1) (by rw [List.getElem?_cons_succ, List.getElem?_map, hr]; rfl)
theorem VH.rows (h : VH w base v R) : ∀ r ∈ R, CReads w r.A (bools r.xs) := fun r hr => by
  obtain ⟨i, hi⟩ := List.getElem?_of_mem hr
  exact owns_read (h.row hi) rfl
theorem VH.list (h : VH w base (.slice A N c) R) (hl : R.length = N) : CReads w A (R.map LR.v) := by
  have := h.vec
  unfold Owns at this
  rw [List.length_map, hl] at this
  exact rows_read this (by decide)
theorem VH.start (w : World) (base : Nat) : VH w base (.slice none 0 0) [] := (Hold.nil w base).nilRow
theorem VH.add (h : VH w1 base v R) (hb : Below w1.heap.size w1 w2) (hB : base ≤ w1.heap.size) (ho : Owns w2 w1.heap.size 4 (.slice r.A r.xs.length r.c) (bools r.xs)) :
    Hold w2 base (row1 35 v (R.map LR.v) :: (R ++ [r]).map LR.row) := by
  have := Hold.new h hb hB (r := r.row) ho
  simpa using this
theorem VH.push (h : Hold w1 base (row1 35 v (R.map LR.v) :: (R ++ [r]).map LR.row)) (ho : Owns w2 base 35 v' (R.map LR.v ++ [r.v])) (hg : w1.grownBy w2 v.ownBlock) (hn : v'.ownBlock = v.ownBlock ∨ v'.ownBlock = some w1.heap.size) : VH w2 base v' (R ++ [r]) := by
  have := h.push (i := 0) rfl ho hg hn
  unfold VH
  simpa using this
end
theorem given_step {w1 w3 : World} {b q c3 : Nat} {v : Value} {G : List LR} {A3 : Option Addr} {xs : List Bool} (hV : VH w1 b v G) (hb : Below w1.heap.size w1 w3) (hB : b ≤ w1.heap.size) (hq : xs.length = q) (ho : Owns w3 w1.heap.size 4 (.slice A3 q c3) (bools xs)) :
    Hold (w3.alloc (.cells [Value.slice A3 q c3].toArray 35)) b (row1 35 v (G.map LR.v) :: (G ++ [(⟨A3, c3, xs⟩ : LR)]).map LR.row) ∧ Owns (w3.alloc (.cells [Value.slice A3 q c3].toArray 35)) b 35 v (G.map LR.v) ∧ CReads (w3.alloc (.cells [Value.slice A3 q c3].toArray 35)) (some ⟨w3.heap.size, 0, none⟩) [Value.slice A3 q c3] ∧ (⟨A3, c3, xs⟩ : LR).v = .slice A3 q c3 := by
  subst hq
  have hbl := below1 w3 (.cells [Value.slice A3 xs.length c3].toArray 35)
  have h1 := (VH.add (r := ⟨A3, c3, xs⟩) hV hb hB ho).below hbl
  exact ⟨h1, h1.owns (i := 0) rfl, CReads.of_blk (Blk.new w3 35 [Value.slice A3 xs.length c3]), rfl⟩
/-- Run's answer, its list under letters. -/
def RunN (w : World) (xr : List (List Bool)) (lr : Nat) (cr : Int) (e : Ending) (w' : World) : Prop :=
  ∃ (R : List LR) (A : Option Addr) (c' : Nat), e = .returned (.tuple #[.slice A lr c', .int .i64 cr]) ∧ Hid (R.map LR.xs = xr) ∧ Hid (VH w' w.heap.size (.slice A lr c') R) ∧ Below w.heap.size w w'
theorem RunR.n {w w' : World} {c : Ct} {inss xr : List (List Bool)} {e : Ending} {lr : Nat} {cr : Int} (h : RunR w c inss e w') (h1 : runO c inss = xr) (h2 : runCode c inss = cr) (h3 : xr.length = lr) : RunN w xr lr cr e w' := by
  obtain ⟨R, A, c', he, hx, hh, hb⟩ := h
  rw [h1, h3] at he hh
  rw [h2] at he
  rw [h1] at hx
  exact ⟨R, A, c', he, hx, hh, hb⟩
/-- The row of a roomy list, cut. -/
theorem roomy_cut (A : Option Addr) (n c : Nat) (xs : List Bool) (w : World) (hA : CReads w A (bools xs)) (hn : xs.length = n) (hm : n + 2 ≤ 140737488355328) :
    Calls Try.prog 13 #[.slice A n c] w fun e w' => ∃ g c', e = .returned (.slice (some ⟨g, 0, none⟩) (n + 2) c') ∧ (n : Int) ≤ (c' : Int) ∧ Hid (Owns w' w.heap.size 4 (.slice (some ⟨g, 0, none⟩) n c') (bools xs)) ∧ Below w.heap.size w w' := by
  refine (roomy_any A n c xs w hA hn hm).mono ?_
  rintro e w' ⟨A', c', rfl, ho, hb⟩
  rw [List.length_append, hn] at ho ⊢
  obtain ⟨g, rfl, hc, _⟩ := owns_some ho.out (by simp)
  refine ⟨g, c', rfl, by simp at hc; omega, Lib.hid ?_, hb⟩
  have h2 := Owns.short ho.out (m := n) (by simp) (by simp)
  rw [bools_append, List.take_left' (by rw [bools_length]; exact hn)] at h2
  exact h2
theorem RdT.of_owns {w : World} {base n c : Nat} {e : TypeId} {A : Option Addr} {xs : List Value} (h : Owns w base e (.slice A n c) xs) (hn : xs.length = n) : RdT w A e xs := fun h0 => by
  have hr : CReads w A xs := by
    have := h
    unfold Owns at this
    rw [hn] at this
    exact rows_read this (by decide)
  obtain ⟨b, o, rfl, hc⟩ := hr h0
  exact ⟨b, o, rfl, h.typed rfl, hc⟩
/-- Where alone finds its rows. -/
theorem runs_rows {w : World} {base : Nat} {R S K : List LR} {vr vs vk : RW} {T : Nat} (hR : T ≤ R.length) (hS : T ≤ S.length)
    (h : Hold w base ((vr :: R.map LR.row) ++ (vs :: S.map LR.row) ++ (vk :: K.map LR.row))) : Hold w base ((inter R S T).map LR.row ++ (vk :: K.map LR.row)) := by
  have hil := inter_length hR hS
  refine h.pick (fun i => if i < 2 * T then (if i % 2 = 0 then 1 + i / 2 else R.length + 2 + i / 2) else R.length + S.length + 2 + (i - 2 * T)) (fun i r hr => ?_) (fun i j hi hj hne => ?_)
  · by_cases h1 : i < 2 * T
    · rw [List.getElem?_append_left (by rw [List.length_map, hil]; exact h1), List.getElem?_map] at hr
      obtain ⟨x, hx, rfl⟩ : ∃ x, (inter R S T)[i]? = some x ∧ x.row = r := by
        rcases hz : (inter R S T)[i]? with _ | x
        · rw [hz] at hr; cases hr
        · rw [hz] at hr; exact ⟨x, rfl, Option.some.inj hr⟩
      rw [if_pos h1]
      obtain ⟨h2, h3 | h3⟩ := inter_get hx
      · rw [if_pos h3.1, List.append_assoc, List.getElem?_append_left (by simp; omega), Nat.add_comm, List.getElem?_cons_succ, List.getElem?_map, h3.2]
        rfl
      · rw [if_neg (by omega), List.append_assoc, List.getElem?_append_right (by simp; omega), List.getElem?_append_left (by simp; omega), List.length_cons, List.length_map, show R.length + 2 + i / 2 - (R.length + 1) = i / 2 + 1 by omega, List.getElem?_cons_succ, List.getElem?_map, h3.2]
        rfl
    · rw [List.getElem?_append_right (by rw [List.length_map, hil]; omega), List.length_map, hil] at hr
      rw [if_neg h1, List.getElem?_append_right (by simp; omega)]
      rw [show R.length + S.length + 2 + (i - 2 * T) - (vr :: List.map LR.row R ++ vs :: List.map LR.row S).length = i - 2 * T by simp; omega]
      exact hr
  · have : (inter R S T).length = 2 * T := hil
    split <;> split <;> (try split) <;> (try split) <;> omega
/-- What alone wants: each list of K twice. -/
theorem runs_wants {R S K : List LR} {vk : RW} {T : Nat} (hR : R.map LR.xs = K.map LR.xs) (hS : S.map LR.xs = K.map LR.xs) (hT : T ≤ K.length) : Wants (inter R S T) (vk :: K.map LR.row) ((inter K K T).map LR.v) := by
  intro i r hr
  obtain ⟨h2, h3⟩ := inter_get hr
  obtain ⟨y, hy⟩ : ∃ y, K[i / 2]? = some y := ⟨_, List.getElem?_eq_getElem (by omega)⟩
  have hxs : y.xs = r.xs := by
    rcases h3 with h3 | h3
    · have h1 := congrArg (fun (l : List (List Bool)) => l[i / 2]?) hR
      simp only [List.getElem?_map, h3.2, hy, Option.map_some, Option.some.injEq] at h1
      exact h1.symm
    · have h1 := congrArg (fun (l : List (List Bool)) => l[i / 2]?) hS
      simp only [List.getElem?_map, h3.2, hy, Option.map_some, Option.some.injEq] at h1
      exact h1.symm
  have hk : (inter K K T)[i]? = some y := by
    unfold inter
    rw [pairs_get, List.getElem?_take, if_pos h2, show (K.zip K)[i / 2]? = some (y, y) by rw [List.getElem?_zip_eq_some]; exact ⟨hy, hy⟩]
    simp
  refine ⟨y.A, y.c, i / 2 + 1, ?_, ?_⟩
  · rw [List.getElem?_map, hk, ← hxs]
    rfl
  · rw [List.getElem?_cons_succ, List.getElem?_map, hy, ← hxs]
    rfl
/-- What the third loop leaves: the twin, its box, the turned document's box and rows. -/
structure Set9 (w : World) (bt bd b0 b9 : Nat) (name : ByteArray) (A B A20 A21 : Option Addr) (n m ca cb c20 c21 : Nat) (ts : List Gt) (outs : List Int) : Prop where
  xt : Blk w bt 25 [.string name, .slice A n ca, .slice B m cb]
  xd : Blk w bd 25 [.string name, .slice A20 n c20, .slice A21 m c21]
  tw : TwinAt w b0 A B n m ca cb ts outs
  g : w.ownsRow b9 33 6 (.slice A20 n c20) n (gcells ts)
  o : w.ownsRow b9 3 1 (.slice A21 m c21) m (nums .i64 outs)
section
variable {w w' : World} {bt bd b0 b9 : Nat} {name : ByteArray} {A B A20 A21 : Option Addr} {n m ca cb c20 c21 : Nat} {ts : List Gt} {outs : List Int}
theorem Set9.below (h : Set9 w bt bd b0 b9 name A B A20 A21 n m ca cb c20 c21 ts outs) (hb : Below w.heap.size w w') : Set9 w' bt bd b0 b9 name A B A20 A21 n m ca cb c20 c21 ts outs :=
  ⟨h.xt.self hb, h.xd.self hb, h.tw.below hb, rows_below h.g hb, rows_below h.o hb⟩
theorem rows_aside {w w' : World} {base size n : Nat} {e t : TypeId} {v : Value} {xs : List Value} {row : Option Nat} (h : w.ownsRow base e size v n xs) (hg : w.grownBy w' row) (hr : ∀ g, row = some g → Typed w g t) (he : e ≠ t) : w'.ownsRow base e size v n xs :=
  World.ownsRow.kept h hg (by
    rcases hv : v.ownBlock with _ | g
    · exact .inl rfl
    · exact .inr fun e2 => (rows_typed h hv).ne (hr g e2.symm) he rfl)
theorem Set9.aside (h : Set9 w bt bd b0 b9 name A B A20 A21 n m ca cb c20 c21 ts outs) {t : TypeId} {row : Option Nat} (hg : w.grownBy w' row) (hr : ∀ g, row = some g → Typed w g t) (h1 : 25 ≠ t) (h2 : 33 ≠ t) (h3 : 3 ≠ t) : Set9 w' bt bd b0 b9 name A B A20 A21 n m ca cb c20 c21 ts outs :=
  ⟨h.xt.grown hg fun e => h.xt.typed.ne (hr bt e.symm) h1 rfl, h.xd.grown hg fun e => h.xd.typed.ne (hr bd e.symm) h1 rfl,
    ⟨rows_aside h.tw.g hg hr h2, rows_aside h.tw.o hg hr h3, h.tw.gl, h.tw.ol⟩, rows_aside h.g hg hr h2, rows_aside h.o hg hr h3⟩
end
theorem Hold.aside {w w' : World} {base : Nat} {l : List RW} (h : Hold w base l) {t : TypeId} {row : Option Nat} (hg : w.grownBy w' row) (hr : ∀ g, row = some g → Typed w g t) (he : ∀ r ∈ l, r.e ≠ t) : Hold w' base l :=
  ⟨fun i r hi => rows_aside (h.1 i r hi) hg hr (he r (List.mem_of_getElem? hi)), h.2⟩
theorem vh_types {v : Value} {R : List LR} {t : TypeId} (h1 : 35 ≠ t) (h2 : 4 ≠ t) : ∀ r ∈ (row1 35 v (R.map LR.v) :: R.map LR.row), r.e ≠ t := fun r hr => by
  rcases List.mem_cons.1 hr with rfl | hr
  · exact h1
  · obtain ⟨x, _, rfl⟩ := List.mem_map.1 hr
    exact h2
theorem no_v (r : LR) : r.no.v = r.v := by simp [LR.no, LR.v]
theorem flipK_v (R : List LR) (i : Nat) : (flipK R i).map LR.v = R.map LR.v := by
  unfold flipK
  rw [List.map_append, List.map_map, show (LR.v ∘ LR.no) = LR.v from funext no_v, ← List.map_append, List.take_append_drop]
theorem flipK_xs {R : List LR} {n : Nat} (h : R.length = n) : (flipK R n).map LR.xs = (R.map LR.xs).map (fun x => x.map (!·)) := by
  rw [flipK_all h, List.map_map, List.map_map]
  rfl
section
variable {w w' : World} {base i : Nat} {gv ov : Value} {G O : List LR} {r : LR}
/-- The lists that are flipped in turn, and those that are made. -/
def TwoV (w : World) (base : Nat) (gv : Value) (G : List LR) (ov : Value) (O : List LR) : Prop := Hold w base ((row1 35 gv (G.map LR.v) :: G.map LR.row) ++ (row1 35 ov (O.map LR.v) :: O.map LR.row))
theorem TwoV.drew (h : TwoV w base gv G ov O) : TwoV w.drew base gv G ov O := h
theorem TwoV.first (h : TwoV w base gv G ov O) : VH w base gv G := Hold.front h
theorem TwoV.second (h : TwoV w base gv G ov O) : VH w base ov O := Hold.back h
theorem TwoV.flip (h : TwoV w base gv (flipK G i) ov O) (hr : G[i]? = some r) (ho : Owns w' base 4 (.slice r.A r.xs.length r.c) (bools (r.xs.map (!·)))) (hg : w.grownBy w' (r.A.map (·.block))) : TwoV w' base gv (flipK G (i + 1)) ov O := by
  have hi := (List.getElem?_eq_some_iff.1 hr).1
  have hk := flipK_ge hr (Nat.le_refl i)
  have hkl := (List.getElem?_eq_some_iff.1 hk).1
  have hv : (LR.row r).v.ownBlock = r.A.map (·.block) := by
    unfold LR.row LR.v row1
    cases r.A <;> rfl
  have hro : r.no.row = row1 4 (.slice r.A r.xs.length r.c) (bools (r.xs.map (!·))) := by simp [LR.row, LR.no, LR.v]
  have h2 := Hold.turn h (i := i + 1) (r := r.row) (by rw [List.getElem?_append_left (by simp; omega), List.getElem?_cons_succ, List.getElem?_map, hk]; rfl) (w' := w') (by rw [hv]; exact hg) (r' := r.no.row) (by rw [hro]; exact ho) (.inl (by rw [hro]; unfold LR.row LR.v row1; rfl))
  rw [List.set_append_left _ _ (by simp; omega), List.set_cons_succ, ← List.map_set, ← flipK_succ hr] at h2
  unfold TwoV
  rw [flipK_v] at h2 ⊢
  exact h2
/-- A new list, about to be told. -/
theorem TwoV.step {w1 w3 : World} {q c3 : Nat} {A3 : Option Addr} {xs : List Bool} (hV : TwoV w1 base gv G ov O) (hb : Below w1.heap.size w1 w3) (hB : base ≤ w1.heap.size) (hq : xs.length = q) (ho : Owns w3 w1.heap.size 4 (.slice A3 q c3) (bools xs)) :
    Hold (w3.alloc (.cells [Value.slice A3 q c3].toArray 35)) base ((row1 35 gv (G.map LR.v) :: G.map LR.row) ++ (row1 35 ov (O.map LR.v) :: (O ++ [(⟨A3, c3, xs⟩ : LR)]).map LR.row)) ∧ Owns (w3.alloc (.cells [Value.slice A3 q c3].toArray 35)) base 35 ov (O.map LR.v) ∧ (⟨A3, c3, xs⟩ : LR).v = .slice A3 q c3 := by
  subst hq
  have hbl := below1 w3 (.cells [Value.slice A3 xs.length c3].toArray 35)
  have h1 := (Hold.new hV hb hB (r := LR.row ⟨A3, c3, xs⟩) ho).below hbl
  refine ⟨by simpa using h1, (Hold.owns (i := (G.map LR.row).length + 1) h1 (by
    rw [List.append_assoc, List.getElem?_append_right (by simp), List.length_cons, Nat.sub_self]; rfl)), rfl⟩
theorem TwoV.push {w1 w2 : World} {ov' : Value} (h : Hold w1 base ((row1 35 gv (G.map LR.v) :: G.map LR.row) ++ (row1 35 ov (O.map LR.v) :: (O ++ [r]).map LR.row))) (ho : Owns w2 base 35 ov' (O.map LR.v ++ [r.v])) (hg : w1.grownBy w2 ov.ownBlock) (hn : ov'.ownBlock = ov.ownBlock ∨ ov'.ownBlock = some w1.heap.size) : TwoV w2 base gv G ov' (O ++ [r]) := by
  have := h.push (i := (G.map LR.row).length + 1) (by rw [List.getElem?_append_right (by simp), List.length_cons, Nat.sub_self]; rfl) ho hg hn
  rw [List.set_append_right _ _ (by simp), List.length_cons, Nat.sub_self, List.set_cons_zero] at this
  unfold TwoV
  simpa using this
end
end Go.Proofs.Ytjkmoahnociaiaa
