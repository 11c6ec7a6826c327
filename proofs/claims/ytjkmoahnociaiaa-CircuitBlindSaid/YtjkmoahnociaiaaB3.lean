/- shuffled: the walk. -/
import Derived.Test.YtjkmoahnociaiaaBP
import Derived.Test.YtjkmoahnociaiaaR4
import Derived.Deep.CutRange
namespace Go.Proofs.Ytjkmoahnociaiaa
open Go.RowKit

set_option maxRecDepth 100000 in
set_option maxHeartbeats 8000000 in
theorem shuffled_any (cc : Ct) (hM : MadeC cc) (hs : List Int) (A B AH : Option Addr) (n m nh ca cb ch : Nat) (w : World) (hA : CReads w A (gcells cc.gs)) (hB : Reads w .i64 B cc.outs) (hH : Reads w .i64 AH hs) (hn : cc.gs.length = n) (hm : cc.outs.length = m) (hnh : hs.length = nh) (hb : ∀ x ∈ hs, Big x) (hh : nh ≤ 1000000000000000) :
    Calls Try.prog 30 #[.agg #[.string cc.name, .slice A n ca, .slice B m cb], .slice AH nh ch] w fun e w' => ∃ at_ inv D A' B' ca' cb', e = .returned (.agg #[.string cc.name, .slice A' n ca', .slice B' m cb']) ∧ Shuf cc at_ inv D ∧ Hid (CReads w' A' (gcells D.gs)) ∧ Hid (Reads w' .i64 B' D.outs) ∧ Below w.heap.size w w' := by
  have hbl := below2 w (.cells #[.string cc.name, .slice A n ca, .slice B m cb] 25) (.cells #[.string ByteArray.empty, .slice none 0 0, .slice none 0 0] 25)
  have HA := Lib.hid (hA.below hbl); have HB := Lib.hid (hB.below hbl); have HH := Lib.hid (hH.below hbl); have HN := Lib.hid hn; have HM := Lib.hid hm; have HNH := Lib.hid hnh; have HBG := Lib.hid hb
  have HB0 := Lib.hid hbl
  have HMC := Lib.hid hM
  have hn200 : n ≤ 200 := by rw [← hn]; exact hM.le
  have hm200 : m ≤ 200 := by rw [← hm]; exact hM.ol
  have HX := Lib.hid ((Blk.new w 25 [.string cc.name, .slice A n ca, .slice B m cb]).alloc (.cells #[.string ByteArray.empty, .slice none 0 0, .slice none 0 0] 25))
  have HX' := Lib.hid (blk_new2 w (.cells #[.string cc.name, .slice A n ca, .slice B m cb] 25) 25 [.string ByteArray.empty, .slice none 0 0, .slice none 0 0])
  have hm1 := run_makeRep (P := Try.prog) Try.underlying23 info_int rfl n (by omega) (by omega)
  clear hA hB hH hn hm hnh hb hbl hM
  go_enter Try.func30, Try.ntmps30
  go_upto_region 1 with (fail)
  change Code.wp _ _ _ _ ((w.alloc (.cells #[.string cc.name, .slice A n ca, .slice B m cb] 25)).alloc (.cells #[.string ByteArray.empty, .slice none 0 0, .slice none 0 0] 25))
  generalize (w.alloc (.cells #[.string cc.name, .slice A n ca, .slice B m cb] 25)).alloc (.cells #[.string ByteArray.empty, .slice none 0 0, .slice none 0 0] 25) = W1 at *
  obtain ⟨bx, hbx⟩ : ∃ bx, w.heap.size = bx := ⟨_, rfl⟩
  rw [hbx] at HX HX' ⊢
  have HBS := Lib.hid hbx
  clear hbx
  have x1 : W1.cell? ⟨bx, 1, none⟩ = some (.slice A n ca) := (HX.out.cell 1).trans rfl
  have hbl := below1 W1 (.cells (List.replicate n (Value.int .i64 0)).toArray 3)
  have HH0 : Hid (Hold (W1.alloc (.cells (List.replicate n (Value.int .i64 0)).toArray 3)) W1.heap.size [row1 3 (.slice (some ⟨W1.heap.size, 0, none⟩) n n) (ints (tell n fun k => if k < 0 then k else 0)), row1 3 (.slice none 0 0) (ints (freeL cc.gs 0))]) := Lib.hid (by
    have h1 := ((Hold.nil W1 W1.heap.size).made (z := .int .i64 0) (e := 3) (Nat.le_refl _) (n := n) (by unfold maxLen; omega)).nilRow (e := 3)
    have e1 : ints (tell n fun k => if k < 0 then k else 0) = List.replicate n (Value.int .i64 0) := by
      rw [show (tell n fun k => if k < 0 then k else 0) = List.replicate n 0 from ?_, ints_rep]
      · rfl
      · apply List.ext_getElem (by simp [tell])
        intro i h2 h3
        simp [tell]
    rw [e1]
    exact h1)
  have HB1 := Lib.hid hbl
  go_upto_region 5 with (fail)
  change Code.wp _ _ _ _ (W1.alloc (.cells (List.replicate n (Value.int .i64 0)).toArray 3))
  generalize W1.alloc (.cells (List.replicate n (Value.int .i64 0)).toArray 3) = W2 at *
  clear hbl hm1 x1
  obtain ⟨bt, hbt⟩ : ∃ bt, W1.heap.size = bt := ⟨_, rfl⟩
  rw [hbt] at HH0 ⊢
  have HBT := Lib.hid hbt
  clear hbt
  go_loopw [6, 8] (fun s6 s8 wr => ∃ i : Nat, i ≤ n ∧ s8 = .int .i64 i ∧ Hid (Hold wr bt [row1 3 (.slice (some ⟨bt, 0, none⟩) n n) (ints (tell n fun k => if k < i then k else 0)), row1 3 s6 (ints (freeL cc.gs i))]) ∧ Hid (Below W1.heap.size W1 wr)) (fun _ s8 _ => n - (intOf s8).toNat)
  case atStart => exact ⟨0, by omega, rfl, HH0, HB1⟩
  case round =>
    clear HH0 HB1
    obtain ⟨i, hi, rfl, HR, HBB⟩ := hrel
    by_cases hlt : i < n
    · obtain ⟨g, hg⟩ : ∃ g, cc.gs[i]? = some g := ⟨_, List.getElem?_eq_getElem (by rw [HN.out]; exact hlt)⟩
      obtain ⟨gt, e1, _, hgt, k1, k2, k3⟩ := HR.out.cell (i := 0) rfl (j := i) (ints_get (tell_get hlt))
      cases e1
      have HR1 := k3 (.int .i64 (i : Int))
      have hset : (ints (tell n fun k => if k < i then k else 0)).set i (.int .i64 (i : Int)) = ints (tell n fun k => if k < i + 1 then k else 0) := by
        rw [ints_set, tell_set]
        congr 1
        refine tell_congr fun k _ => ?_
        by_cases e : k = i
        · subst e; simp
        · rw [if_neg e]
          by_cases e2 : k < i
          · rw [if_pos e2, if_pos (by omega)]
          · rw [if_neg e2, if_neg (by omega)]
      rw [hset] at HR1
      have HR1 : Hid (Hold (wr.setCell ⟨bt, i, none⟩ (.int .i64 (i : Int))) bt [row1 3 (.slice (some ⟨bt, 0, none⟩) n n) (ints (tell n fun k => if k < i + 1 then k else 0)), row1 3 u6 (ints (freeL cc.gs i))]) := Lib.hid HR1
      have hon := only_setCell (only_refl wr (some bt)) (p := ⟨bt, i, none⟩) (.inl rfl) (.int .i64 (i : Int))
      have HBB1 := Lib.hid (HBB.out.grown hon HBB.out.size (fun g e => by cases e; rw [HBT.out]; exact Nat.le_refl _))
      have hi0 : (0 : Int) ≤ (i : Int) := by omega
      have hin : (i : Int) < (n : Int) := by omega
      clear k3 hset hon HR HBB
      go_upto_region 8 with (fail)
      generalize wr.setCell ⟨bt, i, none⟩ (.int .i64 (i : Int)) = W3 at *
      have x1 : W3.cell? ⟨bx, 1, none⟩ = some (.slice A n ca) := ((HX.out.self HBB1.out).cell 1).trans rfl
      obtain ⟨ab, ao, rfl, hc⟩ := greads_at (HA.out.below HBB1.out) hg
      obtain ⟨c0, _⟩ := hc
      clear k1 k2 hgt
      by_cases h2 : g.kind = 2 ∨ g.kind = 4
      · have HF : Hid (freeL cc.gs (i + 1) = freeL cc.gs i ++ [i]) := Lib.hid (freeL_yes hg h2)
        have hbl := below1 W3 (.cells [Value.int .i64 (i : Int)].toArray 3)
        have HR2 := Lib.hid (HR1.out.below hbl)
        have HO2 := Lib.hid (HR2.out.owns (i := 1) rfl)
        have HB2 := Lib.hid (HBB1.out.alloc HBB1.out.size (.cells [Value.int .i64 (i : Int)].toArray 3))
        have hfl : (ints (freeL cc.gs i)).length ≤ i := by rw [ints_length]; exact freeL_len _ _
        have hbt2 : bt ≤ (W3.alloc (.cells [Value.int .i64 (i : Int)].toArray 3)).heap.size := by rw [← HBT.out]; exact HB2.out.size
        clear hbl HR1 HBB1 hg
        rcases h2 with e | e
        all_goals
          rw [e] at c0
          go_upto_region 6 with (at_builtin; refine wpList_push2 rfl _ _ 23 rfl bt 3 _ 8 Try.underlying23 info_int rfl u6 _ rfl HO2.out ⟨W3.heap.size, 0, none⟩ (.int .i64 (i : Int)) rfl (by simp [go_sem]) rfl (by unfold maxLen; omega) (by omega) hbt2 ?_; intro v5 w5 hown5 hg5 hb5)
          have HH5 := HR2.out.push (i := 1) rfl hown5 hg5 hb5
          rw [ints_snoc, ← HF.out] at HH5
          have HH5 := Lib.hid HH5
          have HB5 := Lib.hid (HB2.out.grown hg5 HB2.out.size (fun g e => by rw [HBT.out]; exact (HO2.out.lt e).1))
          clear hown5 hg5 hb5 x1 c0
          go_wp2
          go_roundw
          case rel => exact ⟨i + 1, by omega, by go_num, HH5, HB5⟩
          case measure => simp [intOf]; omega
      · have h3 : (g.kind == 2) = false := by simp; omega
        have h4 : (g.kind == 4) = false := by simp; omega
        have h5 : ¬ g.kind = 2 := by omega
        have h6 : ¬ g.kind = 4 := by omega
        have HR2 : Hid (Hold W3 bt [row1 3 (.slice (some ⟨bt, 0, none⟩) n n) (ints (tell n fun k => if k < i + 1 then k else 0)), row1 3 u6 (ints (freeL cc.gs (i + 1)))]) := Lib.hid (by rw [freeL_no hg h5 h6]; exact HR1.out)
        clear hg h2 HR1
        go_wp2
        go_roundw
        case rel => exact ⟨i + 1, by omega, by go_num, HR2, HBB1⟩
        case measure => simp [intOf]; omega
    · obtain rfl : i = n := by omega
      have HR0 : Hid (Hold wr bt [row1 3 (.slice (some ⟨bt, 0, none⟩) i i) (ints (tell i id)), row1 3 u6 (ints (freeL cc.gs i))]) := Lib.hid (by
        have e : (tell i fun k => if k < i then k else 0) = tell i id := tell_congr fun k hk => by rw [if_pos hk]; rfl
        have := HR.out
        rwa [e] at this)
      obtain ⟨fl, hfl⟩ : ∃ fl, (freeL cc.gs i).length = fl := ⟨_, rfl⟩
      have hfli : fl ≤ i := by rw [← hfl]; exact freeL_len _ _
      obtain ⟨AF, cF, hvF⟩ := (HR0.out.owns (i := 1) rfl).form
      rw [ints_length, hfl] at hvF
      subst hvF
      have HFL := Lib.hid hfl
      have HB10 := HBB
      clear HR hfl hlt hi
      go_upto_region 11 with (fail)
      clear HBB
      go_loopw [9] (fun s9 wr => ∃ (j : Nat) (at_ inv : Nat → Nat), j ≤ fl ∧ s9 = .int .i64 j ∧ AtF cc at_ inv ∧ Hid (Hold wr bt [row1 3 (.slice (some ⟨bt, 0, none⟩) i i) (ints (tell i at_)), row1 3 (.slice AF fl cF) (ints (freeL cc.gs i))]) ∧ Hid (Below W1.heap.size W1 wr)) (fun s9 _ => fl - (intOf s9).toNat)
      case atStart => exact ⟨0, id, id, by omega, rfl, AtF.id_ cc, HR0, HB10⟩
      case round =>
        clear HR0 HB10
        obtain ⟨j, at_, inv, hj, rfl, hat, HR, HBB⟩ := hrel
        have HAT := Lib.hid hat
        clear hat
        by_cases hlt : j < fl
        · obtain ⟨pp, hFp⟩ : ∃ p, (freeL cc.gs i)[j]? = some p := ⟨_, List.getElem?_eq_getElem (by rw [HFL.out]; exact hlt)⟩
          have hpm := freeL_mem (List.mem_of_getElem? hFp)
          obtain ⟨gF, hgF, _⟩ := HR.out.cell (i := 1) rfl (j := j) (ints_get hFp)
          subst hgF
          have hj0 : (0 : Int) ≤ (j : Int) := by omega
          have hjf : (j : Int) < (fl : Int) := by omega
          by_cases hh2 : j < nh
          · obtain ⟨y, hy⟩ : ∃ y, hs[j]? = some y := ⟨_, List.getElem?_eq_getElem (by rw [HNH.out]; exact hh2)⟩
            obtain ⟨hb, ho, hae, k1⟩ := (HH.out.below HBB.out).at_ hy
            subst hae
            have hjn : (j : Int) < (nh : Int) := by omega
            have hw : Calls Try.prog 46 #[.int .i64 y, .int .i64 ((j : Int) + 1)] wr fun e w' => (∃ x : Nat, e = .returned (.int .i64 x) ∧ x < j + 1) ∧ w' = wr := by
              have := within_any y (j + 1) wr (HBG.out y (List.mem_of_getElem? hy)) (by omega) (by omega)
              rwa [show ((j + 1 : Nat) : Int) = (j : Int) + 1 by omega] at this
            have ejw : IntKind.i64.wrap ((j : Int) + 1) = (j : Int) + 1 := by rw [IntKind.wrap_i64]; omega
            clear hy
            go_upto_region 16 with (go_at_call 46; with_reducible refine hw.mono ?_; rintro e w' ⟨⟨kk, rfl, hkk⟩, rfl⟩)
            clear hw k1
            rename World => wr
            have hFq := List.getElem?_eq_getElem (l := freeL cc.gs i) (i := kk) (by rw [HFL.out]; omega)
            obtain ⟨qp, hqp⟩ : ∃ q, (freeL cc.gs i)[kk]? = some q := ⟨_, hFq⟩
            have hqm := freeL_mem (List.mem_of_getElem? hqp)
            obtain ⟨_, e2, _, _, f1, f2, _⟩ := HR.out.cell (i := 1) rfl (j := j) (ints_get hFp)
            obtain ⟨_, e3, _, _, f3, f4, _⟩ := HR.out.cell (i := 1) rfl (j := kk) (ints_get hqp)
            cases e2
            cases e3
            obtain ⟨_, e4, _, _, t1, t2, t3⟩ := HR.out.cell (i := 0) rfl (j := pp) (ints_get (tell_get hpm.1))
            cases e4
            obtain ⟨_, e5, _, _, t4, t5, _⟩ := HR.out.cell (i := 0) rfl (j := qp) (ints_get (tell_get hqm.1))
            cases e5
            have hne : ¬ bt = gF := fun e => by
              rcases HR.out.2 0 1 _ _ (by decide) rfl rfl with h | h
              · cases h
              · exact h (by show some bt = some gF; rw [e])
            have hne2 : ¬ gF = bt := fun e => hne e.symm
            have H1 := t3 (.int .i64 (at_ qp : Int))
            rw [ints_set] at H1
            have H1 : Hold (wr.setCell ⟨bt, pp, none⟩ (.int .i64 (at_ qp : Int))) bt [row1 3 (.slice (some ⟨bt, 0, none⟩) i i) (ints ((tell i at_).set pp (at_ qp))), row1 3 (.slice (some ⟨gF, 0, none⟩) fl cF) (ints (freeL cc.gs i))] := H1
            obtain ⟨uu, huu⟩ : ∃ u, ((tell i at_).set pp (at_ qp))[qp]? = some u := ⟨_, List.getElem?_eq_getElem (by rw [List.length_set, tell_len]; exact hqm.1)⟩
            obtain ⟨_, e6, _, _, t6, t7, t8⟩ := H1.cell (i := 0) rfl (j := qp) (ints_get huu)
            cases e6
            have H2 := t8 (.int .i64 (at_ pp : Int))
            rw [ints_set, tell_swap] at H2
            have H2 : Hid (Hold ((wr.setCell ⟨bt, pp, none⟩ (.int .i64 (at_ qp : Int))).setCell ⟨bt, qp, none⟩ (.int .i64 (at_ pp : Int))) bt [row1 3 (.slice (some ⟨bt, 0, none⟩) i i) (ints (tell i (swapF at_ pp qp))), row1 3 (.slice (some ⟨gF, 0, none⟩) fl cF) (ints (freeL cc.gs i))]) := Lib.hid H2
            have HAT2 := Lib.hid (HAT.out.swap (p := pp) (q := qp) (by rw [HN.out]; exact hpm.1) (by rw [HN.out]; exact hqm.1) hpm.2 hqm.2)
            have hon := only_setCell (only_setCell (only_refl wr (some bt)) (p := ⟨bt, pp, none⟩) (.inl rfl) (.int .i64 (at_ qp : Int))) (p := ⟨bt, qp, none⟩) (.inl rfl) (.int .i64 (at_ pp : Int))
            have HB2 := Lib.hid (HBB.out.grown hon HBB.out.size (fun g e => by cases e; rw [HBT.out]; exact Nat.le_refl _))
            have hk0 : (0 : Int) ≤ (kk : Int) := by omega
            have hkf : (kk : Int) < (fl : Int) := by omega
            have hp0 : (0 : Int) ≤ (pp : Int) := by omega
            have hpi : (pp : Int) < (i : Int) := by have := hpm.1; omega
            have hq0 : (0 : Int) ≤ (qp : Int) := by omega
            have hqi : (qp : Int) < (i : Int) := by have := hqm.1; omega
            obtain ⟨ap, hap⟩ : ∃ a, (at_ pp : Int) = a := ⟨_, rfl⟩
            obtain ⟨aq, haq⟩ : ∃ a, (at_ qp : Int) = a := ⟨_, rfl⟩
            rw [hap] at t1 H2 HB2
            rw [haq] at t4 H2 HB2 t6 t7
            have t6' : (wr.setCell ⟨bt, pp, none⟩ (.int .i64 aq)).drew.cell? ⟨bt, qp, none⟩ = some (.int .i64 (uu : Int)) := t6
            have t7' : (wr.setCell ⟨bt, pp, none⟩ (.int .i64 aq)).drew.frozen? ⟨bt, qp, none⟩ = false := t7
            clear H1 t3 t8 hon huu hFq hqp hqm hap haq HAT
            go_upto_region 17 with (fail)
            go_region_with (fail)
            all_goals
              go_wp2
              go_roundw
              case rel => exact ⟨j + 1, _, _, by omega, by go_num, HAT2.out, H2, Lib.hid (below_drewN HB2.out _)⟩
              case measure => simp [intOf]; omega
          · have hjn : ¬ (j : Int) < (nh : Int) := by omega
            go_upto_region 16 with (fail)
            have hFq := List.getElem?_eq_getElem (l := freeL cc.gs i) (i := 0) (by rw [HFL.out]; omega)
            obtain ⟨qp, hqp⟩ : ∃ q, (freeL cc.gs i)[0]? = some q := ⟨_, hFq⟩
            have hqm := freeL_mem (List.mem_of_getElem? hqp)
            obtain ⟨_, e2, _, _, f1, f2, _⟩ := HR.out.cell (i := 1) rfl (j := j) (ints_get hFp)
            obtain ⟨_, e3, _, _, f3, f4, _⟩ := HR.out.cell (i := 1) rfl (j := 0) (ints_get hqp)
            cases e2
            cases e3
            obtain ⟨_, e4, _, _, t1, t2, t3⟩ := HR.out.cell (i := 0) rfl (j := pp) (ints_get (tell_get hpm.1))
            cases e4
            obtain ⟨_, e5, _, _, t4, t5, _⟩ := HR.out.cell (i := 0) rfl (j := qp) (ints_get (tell_get hqm.1))
            cases e5
            have hne : ¬ bt = gF := fun e => by
              rcases HR.out.2 0 1 _ _ (by decide) rfl rfl with h | h
              · cases h
              · exact h (by show some bt = some gF; rw [e])
            have hne2 : ¬ gF = bt := fun e => hne e.symm
            have H1 := t3 (.int .i64 (at_ qp : Int))
            rw [ints_set] at H1
            have H1 : Hold (wr.setCell ⟨bt, pp, none⟩ (.int .i64 (at_ qp : Int))) bt [row1 3 (.slice (some ⟨bt, 0, none⟩) i i) (ints ((tell i at_).set pp (at_ qp))), row1 3 (.slice (some ⟨gF, 0, none⟩) fl cF) (ints (freeL cc.gs i))] := H1
            obtain ⟨uu, huu⟩ : ∃ u, ((tell i at_).set pp (at_ qp))[qp]? = some u := ⟨_, List.getElem?_eq_getElem (by rw [List.length_set, tell_len]; exact hqm.1)⟩
            obtain ⟨_, e6, _, _, t6, t7, t8⟩ := H1.cell (i := 0) rfl (j := qp) (ints_get huu)
            cases e6
            have H2 := t8 (.int .i64 (at_ pp : Int))
            rw [ints_set, tell_swap] at H2
            have H2 : Hid (Hold ((wr.setCell ⟨bt, pp, none⟩ (.int .i64 (at_ qp : Int))).setCell ⟨bt, qp, none⟩ (.int .i64 (at_ pp : Int))) bt [row1 3 (.slice (some ⟨bt, 0, none⟩) i i) (ints (tell i (swapF at_ pp qp))), row1 3 (.slice (some ⟨gF, 0, none⟩) fl cF) (ints (freeL cc.gs i))]) := Lib.hid H2
            have HAT2 := Lib.hid (HAT.out.swap (p := pp) (q := qp) (by rw [HN.out]; exact hpm.1) (by rw [HN.out]; exact hqm.1) hpm.2 hqm.2)
            have hon := only_setCell (only_setCell (only_refl wr (some bt)) (p := ⟨bt, pp, none⟩) (.inl rfl) (.int .i64 (at_ qp : Int))) (p := ⟨bt, qp, none⟩) (.inl rfl) (.int .i64 (at_ pp : Int))
            have HB2 := Lib.hid (HBB.out.grown hon HBB.out.size (fun g e => by cases e; rw [HBT.out]; exact Nat.le_refl _))
            have hk0 : (0 : Int) ≤ (0 : Int) := by omega
            have hkf : (0 : Int) < (fl : Int) := by omega
            have hp0 : (0 : Int) ≤ (pp : Int) := by omega
            have hpi : (pp : Int) < (i : Int) := by have := hpm.1; omega
            have hq0 : (0 : Int) ≤ (qp : Int) := by omega
            have hqi : (qp : Int) < (i : Int) := by have := hqm.1; omega
            obtain ⟨ap, hap⟩ : ∃ a, (at_ pp : Int) = a := ⟨_, rfl⟩
            obtain ⟨aq, haq⟩ : ∃ a, (at_ qp : Int) = a := ⟨_, rfl⟩
            rw [hap] at t1 H2 HB2
            rw [haq] at t4 H2 HB2 t6 t7
            have t6' : (wr.setCell ⟨bt, pp, none⟩ (.int .i64 aq)).drew.cell? ⟨bt, qp, none⟩ = some (.int .i64 (uu : Int)) := t6
            have t7' : (wr.setCell ⟨bt, pp, none⟩ (.int .i64 aq)).drew.frozen? ⟨bt, qp, none⟩ = false := t7
            clear H1 t3 t8 hon huu hFq hqp hqm hap haq HAT
            go_upto_region 17 with (fail)
            go_region_with (fail)
            all_goals
              go_wp2
              go_roundw
              case rel => exact ⟨j + 1, _, _, by omega, by go_num, HAT2.out, H2, Lib.hid (below_drewN HB2.out _)⟩
              case measure => simp [intOf]; omega
        · obtain rfl : j = fl := by omega
          have hmg := run_makeGates i (by omega)
          have HB1 := HBB
          have HRA := Lib.hid (And.intro HAT.out HR.out)
          have x0 : wr.cell? ⟨bx, 0, none⟩ = some (.string cc.name) := ((HX.out.self HBB.out).cell 0).trans rfl
          have HKX : Hid (∀ W, Below wr.heap.size wr W → W.cell? ⟨bx, 0, none⟩ = some (.string cc.name) ∧ Below wr.heap.size wr W) := Lib.hid fun W hW => ⟨cell_kept hW x0, hW⟩
          have hk0 := HKX.out wr (Below.refl _ _)
          have hb0 := below_drew0 (Below.refl wr.heap.size wr)
          clear HR HBB HAT hlt hj x0
          go_upto_region 19 with (fail)
          go_cut [12] (fun s12 wx => ∃ bo bG : Nat, s12 = .pointer (some ⟨bo, 0, none⟩) ∧ Hid (Blk wx bo 25 [.string cc.name, .slice (some ⟨bG, 0, none⟩) i i, .slice none 0 0]) ∧ Hid (wx.ownsRow wr.heap.size 33 6 (.slice (some ⟨bG, 0, none⟩) i i) i (gcells (List.replicate i noGt))) ∧ Hid (Below wr.heap.size wr wx) ∧ Hid (wr.heap.size ≤ bo))
          case first =>
            go_region_held3 (fun W => W.cell? ⟨bx, 0, none⟩ = some (.string cc.name) ∧ Below wr.heap.size wr W)
              (first | exact HKX.out _ hb0 | exact HKX.out _ (below_drew0 (Below.alloc (Below.alloc (Below.refl wr.heap.size wr) (Nat.le_refl _) _) (by simp) _)) | (go_split_ands; exact HKX.out _ (by first | assumption | (refine Below.alloc (by assumption) (Below.size (by assumption)) _))) | (go_split_ands; exact HKX.out _ (below_set3 (by assumption) (by simp) (Below.size (by assumption)) _ _ _)))
              (first | fail)
            all_goals
              go_wp2_with fail
              go_meet
              first
                | exact ⟨wr.heap.size + 1, wr.heap.size, rfl, Lib.hid (by
                    have := Blk.new (wr.alloc (.cells (gcells (List.replicate i noGt)).toArray 33)) 25 [.string cc.name, .slice (some ⟨wr.heap.size, 0, none⟩) i i, .slice none 0 0]
                    rw [alloc_size] at this
                    exact this), Lib.hid (rows_below (World.ownsRow_lit wr (base := wr.heap.size) (e := 33) (size := 6) (gcells (List.replicate i noGt)).toArray i (Nat.le_refl _) (by unfold maxLen; omega) (by simp [gcells_length])) (below_drew0 (below1 _ _))), Lib.hid (below_drew0 (below2 wr _ _)), Lib.hid (by omega)⟩
                | exact ⟨wr.heap.size, wr.heap.size + 1, rfl, Lib.hid ((Blk.new wr 25 [.string cc.name, .slice (some ⟨wr.heap.size + 1, 0, none⟩) i i, .slice none 0 0]).alloc _), Lib.hid (by
                    have := World.ownsRow_lit (wr.alloc (.cells #[.string cc.name, .slice (some ⟨wr.heap.size + 1, 0, none⟩) i i, .slice none 0 0] 25)) (base := wr.heap.size) (e := 33) (size := 6) (gcells (List.replicate i noGt)).toArray i (by rw [alloc_size]; omega) (by unfold maxLen; omega) (by simp [gcells_length])
                    rw [alloc_size] at this
                    exact this), Lib.hid (below_drew0 (below2 wr _ _)), Lib.hid (Nat.le_refl _)⟩
          obtain ⟨bo, bG, rfl, HBO, HGR, HBW, HBOL⟩ := hcut
          obtain ⟨at_, inv, HAT0, HRR⟩ : ∃ (at' inv' : Nat → Nat), AtF cc at' inv' ∧ Hid (Hold wr bt [row1 3 (.slice (some ⟨bt, 0, none⟩) i i) (ints (tell i at')), row1 3 (.slice AF j cF) (ints (freeL cc.gs i))]) := ⟨_, _, HRA.out.1, Lib.hid HRA.out.2⟩
          have HAT := Lib.hid HAT0
          clear HAT0 HRA hk0 hb0 HKX hmg
          have HG0 : Hid (wc.ownsRow wr.heap.size 33 6 (.slice (some ⟨bG, 0, none⟩) i i) i (gcells (outG cc.gs at_ inv 0))) := Lib.hid (by
            rw [outG_zero, HN.out]; exact HGR.out)
          have HATR : Hid (CReads wr (some ⟨bt, 0, none⟩) (ints (tell i at_))) := Lib.hid (by
            have := HRR.out.owns (i := 0) rfl
            unfold Owns at this
            rw [ints_length, tell_len] at this
            exact rows_read this (by decide))
          have HA6 := Lib.hid (HA.out.below HB1.out)
          have HB6 := Lib.hid (HB.out.below HB1.out)
          have HX6 := Lib.hid (HX.out.self HB1.out)
          have HX6' := Lib.hid (HX'.out.self HB1.out)
          have HBW6 : Hid (Below w.heap.size w wr) := Lib.hid (below_self HB0.out HB1.out)
          clear HGR HRR HA HB HX HX' HB1 HB0 HH
          generalize wr = W6 at *
          go_upto_region 21 with (fail)
          go_loopw [13] (fun s13 wq => ∃ v : Nat, v ≤ i ∧ s13 = .int .i64 v ∧ Hid (wq.ownsRow W6.heap.size 33 6 (.slice (some ⟨bG, 0, none⟩) i i) i (gcells (outG cc.gs at_ inv v))) ∧ Hid (Blk wq bo 25 [.string cc.name, .slice (some ⟨bG, 0, none⟩) i i, .slice none 0 0]) ∧ Hid (Below W6.heap.size W6 wq)) (fun s13 _ => i - (intOf s13).toNat)
          case atStart => exact ⟨0, by omega, rfl, HG0, HBO, HBW⟩
          case round =>
            clear HG0 HBO HBW
            obtain ⟨v, hv, rfl, HGQ, HBOQ, HBQ⟩ := hrel
            by_cases hlt : v < i
            · obtain ⟨g, hg⟩ : ∃ g, cc.gs[v]? = some g := ⟨_, List.getElem?_eq_getElem (by rw [HN.out]; exact hlt)⟩
              have x1 : wr.cell? ⟨bx, 1, none⟩ = some (.slice A i ca) := ((HX6.out.self HBQ.out).cell 1).trans rfl
              obtain ⟨ab, ao, hae, hc⟩ := greads_at (HA6.out.below HBQ.out) hg
              subst hae
              obtain ⟨c0, c1, c2, c3, c4, c5⟩ := hc
              have HOS := Lib.hid (outG_succ HAT.out hg)
              have hf := (HMC.out.lines v g hg).2.p (n := i) hlt
              obtain ⟨jv, hje⟩ : ∃ jv, at_ v = jv := ⟨_, rfl⟩
              have hjv : jv < i := by rw [← hje, ← HN.out]; exact HAT.out.lt v (by rw [HN.out]; exact hlt)
              rw [hje] at HOS
              obtain ⟨kd, nm, op, a, b, cx⟩ := g
              dsimp only at *
              have hv0 : (0 : Int) ≤ (v : Int) := by omega
              have hvi : (v : Int) < (i : Int) := by omega
              have hgl := (World.ownsRow.lt HGQ.out bG rfl)
              have hbl := below1 wr (.cells #[.int .i64 kd, .string nm, .int .i64 op, .int .i64 a, .int .i64 b, .int .i64 cx] 33)
              have HL3 : Hid (Blk (wr.alloc (.cells #[.int .i64 kd, .string nm, .int .i64 op, .int .i64 a, .int .i64 b, .int .i64 cx] 33)) wr.heap.size 33 [.int .i64 kd, .string nm, .int .i64 op, .int .i64 a, .int .i64 b, .int .i64 cx]) := Lib.hid (Blk.new wr 33 [.int .i64 kd, .string nm, .int .i64 op, .int .i64 a, .int .i64 b, .int .i64 cx])
              have HG3 := Lib.hid (rows_below HGQ.out hbl)
              have HBO3 := Lib.hid (HBOQ.out.self hbl)
              have HB3 := Lib.hid (below_then HBQ.out HBQ.out.size hbl)
              have HBL : Hid (W6.heap.size ≤ wr.heap.size) := Lib.hid HBQ.out.size
              have HGB : Hid (W6.heap.size ≤ bG) := Lib.hid hgl.1
              have hbGl : bG ≠ wr.heap.size := Nat.ne_of_lt hgl.2
              have hbol : bo ≠ wr.heap.size := Nat.ne_of_lt HBOQ.out.lt
              have hboG : bo ≠ bG := fun e => HBOQ.out.typed.ne (rows_typed HGQ.out (g := bG) rfl) (by decide) e
              go_upto_region 24 with (fail)
              change Code.wp _ _ _ _ (wr.alloc (.cells #[.int .i64 kd, .string nm, .int .i64 op, .int .i64 a, .int .i64 b, .int .i64 cx] 33))
              clear hg hbl HGQ HBOQ HBQ x1 c0 c1 c2 c3 c4 c5 hgl
              generalize wr.alloc (.cells #[.int .i64 kd, .string nm, .int .i64 op, .int .i64 a, .int .i64 b, .int .i64 cx] 33) = W3 at *
              obtain ⟨bl, hble⟩ : ∃ bl, wr.heap.size = bl := ⟨_, rfl⟩
              rw [hble] at HL3 HBL hbGl hbol ⊢
              clear hble
              have HAT3 := Lib.hid (HATR.out.below HB3.out)
              have y1 : W3.cell? ⟨bo, 1, none⟩ = some (.slice (some ⟨bG, 0, none⟩) i i) := (HBO3.out.cell 1).trans rfl
              have hbtl : bt < W6.heap.size := by
                obtain ⟨_, _, e, t⟩ := HATR.out.at_ (ints_get (tell_get hlt))
                cases e
                exact World.block_lt_of_cell? _ _ t
              have hbtG : ¬ bt = bG := by have := HGB.out; omega
              have hbtl2 : ¬ bt = bl := by have := HBL.out; omega
              have hblt : ¬ bl = bt := fun e => hbtl2 e.symm
              have j0 : (0 : Int) ≤ (jv : Int) := by omega
              have j1 : (jv : Int) < (i : Int) := by omega
              have hfa : kd ≠ 1 → 0 ≤ a ∧ a < (i : Int) := fun h => by
                rcases hf with ⟨e, _⟩ | ⟨e, _, _, ha, hb, _⟩ | ⟨e, _, _, ha, _⟩ | ⟨e, _, ha, hb, hcx⟩
                · exact absurd e h
                · exact ha
                · exact ha
                · exact ha
              have hfb : kd = 2 ∨ kd = 4 → 0 ≤ b ∧ b < (i : Int) := fun h => by
                rcases hf with ⟨e, _⟩ | ⟨e, _, _, ha, hb, _⟩ | ⟨e, _, _, ha, _⟩ | ⟨e, _, ha, hb, hcx⟩
                · dsimp only at e; omega
                · exact hb
                · dsimp only at e; omega
                · exact hb
              have hfc : kd = 4 → 0 ≤ cx ∧ cx < (i : Int) := fun h => by
                rcases hf with ⟨e, _⟩ | ⟨e, _, _, ha, hb, _⟩ | ⟨e, _, _, ha, _⟩ | ⟨e, _, ha, hb, hcx⟩
                · dsimp only at e; omega
                · dsimp only at e; omega
                · dsimp only at e; omega
                · exact hcx
              have HFA := Lib.hid hfa; have HFB := Lib.hid hfb; have HFC := Lib.hid hfc
              have HATW : Hid (∀ W, W3.grownBy W (some bl) → CReads W (some ⟨bt, 0, none⟩) (ints (tell i at_))) := Lib.hid fun W hW => HAT3.out.grown hW (fun b o e => by cases e; exact fun e2 => hbtl2 (Option.some.inj e2))
              obtain ⟨z1, ha1⟩ : ∃ z, (if kd = 1 then a else (at_ a.toNat : Int)) = z := ⟨_, rfl⟩
              obtain ⟨z2, hb1⟩ : ∃ z, (if kd = 2 ∨ kd = 4 then (at_ b.toNat : Int) else b) = z := ⟨_, rfl⟩
              obtain ⟨z3, hc1⟩ : ∃ z, (if kd = 4 then (at_ cx.toNat : Int) else cx) = z := ⟨_, rfl⟩
              have HMV : Hid (moved at_ ⟨kd, nm, op, a, b, cx⟩ = ⟨kd, nm, op, z1, z2, z3⟩) := Lib.hid (by
                unfold moved
                dsimp only
                rw [ha1, hb1, hc1])
              have HA1 := Lib.hid ha1; have HB1 := Lib.hid hb1; have HC1 := Lib.hid hc1
              clear hfa hfb hfc ha1 hb1 hc1 hf
              have c0 : W3.cell? ⟨bl, 0, none⟩ = some (.int .i64 kd) := (HL3.out.cell 0).trans rfl
              have c1 : W3.cell? ⟨bl, 3, none⟩ = some (.int .i64 a) := (HL3.out.cell 3).trans rfl
              have c2 := HL3.out.frozen 3
              have HE1 := Lib.hid c1; have HE2 := Lib.hid c2
              clear c1 c2
              skip
              go_upto_if 111 with (fail)
              go_cut [] (fun wx => Hid (Blk wx bl 33 [.int .i64 kd, .string nm, .int .i64 op, .int .i64 z1, .int .i64 b, .int .i64 cx]) ∧ Hid (W3.grownBy wx (some bl)))
              case first =>
                by_cases hk : kd ≠ 1
                · obtain ⟨qa, hqa⟩ : ∃ q : Nat, a = (q : Int) := ⟨a.toNat, by have := HFA.out hk; omega⟩
                  have hlq : qa < i := by have := HFA.out hk; omega
                  subst hqa
                  obtain ⟨_, _, e, tq⟩ := (HATW.out W3 (only_refl W3 (some bl))).at_ (ints_get (tell_get hlq))
                  cases e
                  rw [Nat.zero_add] at tq
                  have hv : (at_ qa : Int) = z1 := by
                    have := HA1.out
                    rw [if_neg hk] at this
                    exact this
                  rw [hv] at tq
                  have n0 : (0 : Int) ≤ (qa : Int) := by omega
                  have n1 : (qa : Int) < (i : Int) := by omega
                  have c1 := HE1.out; have c2 := HE2.out
                  clear hv
                  have d1 : (kd == 1) = false := by simpa using hk
                  all_goals
                    go_wp2_with fail
                    go_meet
                    exact ⟨Lib.hid (HL3.out.set_ 3 (.int .i64 z1)), Lib.hid (only_setCell (only_refl W3 (some bl)) (p := ⟨bl, 3, none⟩) (.inl rfl) _)⟩
                · have hv : a = z1 := by
                    have := HA1.out
                    rw [if_pos (Decidable.not_not.1 hk)] at this
                    exact this
                  have d1 : (kd == 1) = true := by simpa using hk
                  all_goals
                    go_wp2_with fail
                    go_meet
                    exact ⟨by rw [← hv]; exact HL3, Lib.hid (only_refl W3 (some bl))⟩
              obtain ⟨HLA, HGA⟩ := hcut
              clear c0 HE1 HE2
              generalize wc = WA at *
              have c0 : WA.cell? ⟨bl, 0, none⟩ = some (.int .i64 kd) := (HLA.out.cell 0).trans rfl
              have c1 : WA.cell? ⟨bl, 4, none⟩ = some (.int .i64 b) := (HLA.out.cell 4).trans rfl
              have c2 := HLA.out.frozen 4
              have HE1 := Lib.hid c1; have HE2 := Lib.hid c2
              clear c1 c2
              go_upto_region 26 with (fail)
              go_cut [125] (fun s125 wx => s125 = .bool (decide (kd = 2 ∨ kd = 4)) ∧ wx = WA)
              case first =>
                by_cases hk2 : kd = 2
                · subst hk2
                  go_wp2_with fail
                  go_meet
                  exact ⟨rfl, rfl⟩
                · by_cases hk4 : kd = 4
                  · subst hk4
                    go_wp2_with fail
                    go_meet
                    exact ⟨rfl, rfl⟩
                  · have d1 : (kd == 2) = false := by simpa using hk2
                    have d2 : (kd == 4) = false := by simpa using hk4
                    have d3 : decide (kd = 2 ∨ kd = 4) = false := by simp [hk2, hk4]
                    go_wp2_with fail
                    go_meet
                    exact ⟨by rw [d3], rfl⟩
              obtain ⟨rfl, rfl⟩ := hcut
              generalize wc = WA at *
              go_upto_if 125 with (fail)
              go_cut [] (fun wx => Hid (Blk wx bl 33 [.int .i64 kd, .string nm, .int .i64 op, .int .i64 z1, .int .i64 z2, .int .i64 cx]) ∧ Hid (W3.grownBy wx (some bl)))
              case first =>
                by_cases hk : kd = 2 ∨ kd = 4
                · obtain ⟨qa, hqa⟩ : ∃ q : Nat, b = (q : Int) := ⟨b.toNat, by have := HFB.out hk; omega⟩
                  have hlq : qa < i := by have := HFB.out hk; omega
                  subst hqa
                  obtain ⟨_, _, e, tq⟩ := (HATW.out WA HGA.out).at_ (ints_get (tell_get hlq))
                  cases e
                  rw [Nat.zero_add] at tq
                  have hv : (at_ qa : Int) = z2 := by
                    have := HB1.out
                    rw [if_pos hk] at this
                    exact this
                  rw [hv] at tq
                  have n0 : (0 : Int) ≤ (qa : Int) := by omega
                  have n1 : (qa : Int) < (i : Int) := by omega
                  have c1 := HE1.out; have c2 := HE2.out
                  clear hv
                  have d1 : decide (kd = 2 ∨ kd = 4) = true := by simpa using hk
                  all_goals
                    go_wp2_with fail
                    go_meet
                    exact ⟨Lib.hid (HLA.out.set_ 4 (.int .i64 z2)), Lib.hid (only_setCell HGA.out (p := ⟨bl, 4, none⟩) (.inl rfl) _)⟩
                · have hv : b = z2 := by
                    have := HB1.out
                    rw [if_neg hk] at this
                    exact this
                  have d1 : decide (kd = 2 ∨ kd = 4) = false := by simpa using hk
                  all_goals
                    go_wp2_with fail
                    go_meet
                    exact ⟨by rw [← hv]; exact HLA, Lib.hid HGA.out⟩
              obtain ⟨HLB, HGB2⟩ := hcut
              clear c0 HE1 HE2
              generalize wc = WB at *
              have c0 : WB.cell? ⟨bl, 0, none⟩ = some (.int .i64 kd) := (HLB.out.cell 0).trans rfl
              have c1 : WB.cell? ⟨bl, 5, none⟩ = some (.int .i64 cx) := (HLB.out.cell 5).trans rfl
              have c2 := HLB.out.frozen 5
              have HE1 := Lib.hid c1; have HE2 := Lib.hid c2
              clear c1 c2
              skip
              go_upto_if 134 with (fail)
              go_cut [] (fun wx => Hid (Blk wx bl 33 [.int .i64 kd, .string nm, .int .i64 op, .int .i64 z1, .int .i64 z2, .int .i64 z3]) ∧ Hid (W3.grownBy wx (some bl)))
              case first =>
                by_cases hk : kd = 4
                · obtain ⟨qa, hqa⟩ : ∃ q : Nat, cx = (q : Int) := ⟨cx.toNat, by have := HFC.out hk; omega⟩
                  have hlq : qa < i := by have := HFC.out hk; omega
                  subst hqa
                  obtain ⟨_, _, e, tq⟩ := (HATW.out WB HGB2.out).at_ (ints_get (tell_get hlq))
                  cases e
                  rw [Nat.zero_add] at tq
                  have hv : (at_ qa : Int) = z3 := by
                    have := HC1.out
                    rw [if_pos hk] at this
                    exact this
                  rw [hv] at tq
                  have n0 : (0 : Int) ≤ (qa : Int) := by omega
                  have n1 : (qa : Int) < (i : Int) := by omega
                  have c1 := HE1.out; have c2 := HE2.out
                  clear hv
                  have d1 : (kd == 4) = true := by simpa using hk
                  all_goals
                    go_wp2_with fail
                    go_meet
                    exact ⟨Lib.hid (HLB.out.set_ 5 (.int .i64 z3)), Lib.hid (only_setCell HGB2.out (p := ⟨bl, 5, none⟩) (.inl rfl) _)⟩
                · have hv : cx = z3 := by
                    have := HC1.out
                    rw [if_neg hk] at this
                    exact this
                  have d1 : (kd == 4) = false := by simpa using hk
                  all_goals
                    go_wp2_with fail
                    go_meet
                    exact ⟨by rw [← hv]; exact HLB, Lib.hid HGB2.out⟩
              obtain ⟨HLC, HGC⟩ := hcut
              clear c0 HE1 HE2
              generalize wc = W5 at *
              have hbr : ∀ z, some bl = some z → W6.heap.size ≤ z := fun z e => by cases e; exact HBL.out
              have HBQ5 := HB3.out.grown HGC.out HB3.out.size hbr
              have hd7 := below_drew0 (Below.refl W5.heap.size W5)
              have HB7 := Lib.hid (below_drewN HBQ5 1)
              have HBO7 := Lib.hid (((HBO3.out.grown HGC.out (fun e => hbol (Option.some.inj e))).self hd7))
              have HL7 := Lib.hid (HLC.out.self hd7)
              have HG7 := Lib.hid (rows_below (World.ownsRow.kept HG3.out HGC.out (.inr fun e => hbGl (Option.some.inj e))) hd7)
              have HAT7 := Lib.hid ((HATW.out W5 HGC.out).below hd7)
              change Hid (Below _ _ W5.drew) at HB7
              have HS7 : Hid ((W5.drew.cell? ⟨bo, 1, none⟩ = some (.slice (some ⟨bG, 0, none⟩) i i) ∧ W5.drew.cell? ⟨bt, v, none⟩ = some (.int .i64 (jv : Int))) ∧ W5.drew.cell? ⟨bl, 0, none⟩ = some (.int .i64 kd) ∧ W5.drew.cell? ⟨bl, 1, none⟩ = some (.string nm) ∧ W5.drew.cell? ⟨bl, 2, none⟩ = some (.int .i64 op) ∧ W5.drew.cell? ⟨bl, 3, none⟩ = some (.int .i64 z1) ∧ W5.drew.cell? ⟨bl, 4, none⟩ = some (.int .i64 z2) ∧ W5.drew.cell? ⟨bl, 5, none⟩ = some (.int .i64 z3)) := Lib.hid ⟨⟨(HBO7.out.cell 1).trans rfl, by
                obtain ⟨_, _, e, t⟩ := HAT7.out.at_ (ints_get (tell_get hlt))
                cases e
                rw [Nat.zero_add, hje] at t
                exact t⟩, (HL7.out.cell 0).trans rfl, (HL7.out.cell 1).trans rfl, (HL7.out.cell 2).trans rfl, (HL7.out.cell 3).trans rfl, (HL7.out.cell 4).trans rfl, (HL7.out.cell 5).trans rfl⟩
              have HKS8 : Hid (∀ W, W5.drew.grownBy W (some bG) → (W.cell? ⟨bo, 1, none⟩ = some (.slice (some ⟨bG, 0, none⟩) i i) ∧ W.cell? ⟨bt, v, none⟩ = some (.int .i64 (jv : Int))) ∧ W.cell? ⟨bl, 0, none⟩ = some (.int .i64 kd) ∧ W.cell? ⟨bl, 1, none⟩ = some (.string nm) ∧ W.cell? ⟨bl, 2, none⟩ = some (.int .i64 op) ∧ W.cell? ⟨bl, 3, none⟩ = some (.int .i64 z1) ∧ W.cell? ⟨bl, 4, none⟩ = some (.int .i64 z2) ∧ W.cell? ⟨bl, 5, none⟩ = some (.int .i64 z3)) := Lib.hid fun W hW => by
                have h1 := HBO7.out.grown hW (fun e => hboG (Option.some.inj e))
                have h2 := HL7.out.grown hW (fun e => hbGl (Option.some.inj e).symm)
                have h3 := HAT7.out.grown hW (fun b o e => by cases e; exact fun e2 => hbtG (Option.some.inj e2))
                obtain ⟨_, _, e, t⟩ := h3.at_ (ints_get (tell_get hlt))
                cases e
                rw [Nat.zero_add, hje] at t
                exact ⟨⟨(h1.cell 1).trans rfl, t⟩, (h2.cell 0).trans rfl, (h2.cell 1).trans rfl, (h2.cell 2).trans rfl, (h2.cell 3).trans rfl, (h2.cell 4).trans rfl, (h2.cell 5).trans rfl⟩
              clear hbr HBQ5 hd7 HB3 HBO3 HL3 HG3 HAT3 HATW HLA HGA HLB HGB2 HLC HGC y1 HFA HFB HFC HA1 HB1 HC1
              go_upto_region 30 with (fail)
              refine wp_region_held_drew (S := (fun w' => (w'.cell? ⟨bo, 1, none⟩ = some (.slice (some ⟨bG, 0, none⟩) i i) ∧ w'.cell? ⟨bt, v, none⟩ = some (.int .i64 (jv : Int))) ∧ w'.cell? ⟨bl, 0, none⟩ = some (.int .i64 kd) ∧ w'.cell? ⟨bl, 1, none⟩ = some (.string nm) ∧ w'.cell? ⟨bl, 2, none⟩ = some (.int .i64 op) ∧ w'.cell? ⟨bl, 3, none⟩ = some (.int .i64 z1) ∧ w'.cell? ⟨bl, 4, none⟩ = some (.int .i64 z2) ∧ w'.cell? ⟨bl, 5, none⟩ = some (.int .i64 z3))) (by kernel_rfl) ?hS0 (fun hHeld => ?hR0)
              case hS0 => exact HS7.out
              generalize W5.drew = W7 at *
              refine takeOn (i := 0) (v := ?v0) rfl (by kernel_rfl) (by kernel_rfl) (by kernel_rfl) (fun _ _ _ h => h) (by rfl) ?y0 (by assumption) ?r0
              case y0 => (intro w hSw; (try dsimp only at hSw); obtain ⟨⟨q1, q2⟩, q3, q4, q5, q6, q7, q8⟩ := hSw; go_simp; (try with_reducible rfl))
              try simp only [Act.put, List.setIfInBounds_toArray, List.set_cons_zero, List.set_cons_succ]
              refine takeOn (i := 1) (v := ?v1) rfl (by kernel_rfl) (by kernel_rfl) (by kernel_rfl) (fun _ _ _ h => h) (by rfl) ?y1 (by assumption) ?r1
              case y1 => (intro w hSw; (try dsimp only at hSw); obtain ⟨⟨q1, q2⟩, q3, q4, q5, q6, q7, q8⟩ := hSw; go_simp; (try with_reducible rfl))
              try simp only [Act.put, List.setIfInBounds_toArray, List.set_cons_zero, List.set_cons_succ]
              refine takeOn (i := 2) (v := ?v2) rfl (by kernel_rfl) (by kernel_rfl) (by kernel_rfl) (fun _ _ _ h => h) (by rfl) ?y2 (by assumption) ?r2
              case y2 => (intro w hSw; (try dsimp only at hSw); obtain ⟨⟨q1, q2⟩, q3, q4, q5, q6, q7, q8⟩ := hSw; go_simp; (try with_reducible rfl))
              try simp only [Act.put, List.setIfInBounds_toArray, List.set_cons_zero, List.set_cons_succ]
              refine takeOn (i := 3) (v := ?v3) rfl (by kernel_rfl) (by kernel_rfl) (by kernel_rfl) (fun _ _ _ h => h) (by rfl) ?y3 (by assumption) ?r3
              case y3 => (intro w hSw; (try dsimp only at hSw); obtain ⟨⟨q1, q2⟩, q3, q4, q5, q6, q7, q8⟩ := hSw; go_simp; (try with_reducible rfl))
              try simp only [Act.put, List.setIfInBounds_toArray, List.set_cons_zero, List.set_cons_succ]
              refine takeOn (i := 4) (v := ?v4) rfl (by kernel_rfl) (by kernel_rfl) (by kernel_rfl) (fun _ _ _ h => h) (by rfl) ?y4 (by assumption) ?r4
              case y4 => (intro w hSw; (try dsimp only at hSw); obtain ⟨⟨q1, q2⟩, q3, q4, q5, q6, q7, q8⟩ := hSw; go_simp; (try with_reducible rfl))
              try simp only [Act.put, List.setIfInBounds_toArray, List.set_cons_zero, List.set_cons_succ]
              refine takeOn (i := 5) (v := ?v5) rfl (by kernel_rfl) (by kernel_rfl) (by kernel_rfl) (fun _ _ _ h => h) (by rfl) ?y5 (by assumption) ?r5
              case y5 => (intro w hSw; (try dsimp only at hSw); obtain ⟨⟨q1, q2⟩, q3, q4, q5, q6, q7, q8⟩ := hSw; go_simp; (try with_reducible rfl))
              try simp only [Act.put, List.setIfInBounds_toArray, List.set_cons_zero, List.set_cons_succ]
              refine takeOn (i := 6) (v := ?v6) rfl (by kernel_rfl) (by kernel_rfl) (by kernel_rfl) (fun _ _ _ h => h) (by rfl) ?y6 (by assumption) ?r6
              case y6 => (intro w hSw; (try dsimp only at hSw); obtain ⟨⟨q1, q2⟩, q3, q4, q5, q6, q7, q8⟩ := hSw; go_simp; (try with_reducible rfl))
              try simp only [Act.put, List.setIfInBounds_toArray, List.set_cons_zero, List.set_cons_succ]
              refine takeOn (i := 7) (v := ?v7) rfl (by kernel_rfl) (by kernel_rfl) (by kernel_rfl) (fun _ _ _ h => h) (by rfl) ?y7 (by assumption) ?r7
              case y7 => (intro w hSw; (try dsimp only at hSw); obtain ⟨⟨q1, q2⟩, q3, q4, q5, q6, q7, q8⟩ := hSw; go_simp; (try with_reducible rfl))
              try simp only [Act.put, List.setIfInBounds_toArray, List.set_cons_zero, List.set_cons_succ]
              refine callOn (i := 8) rfl (by kernel_rfl) (by rfl) ?_
              intro K hK
              go_simp
              obtain ⟨⟨u6, r0, r1, r2, r3, r4, r5⟩, g0, g1, g2, g3, g4, g5, hput⟩ := rows_put HG7.out (by rw [outG_len, HN.out]) hjv kd nm op z1 z2 z3
              rw [← HMV.out, ← HOS.out] at hput
              have HGn := Lib.hid hput
              have hon2 := only_setCell (only_setCell (only_setCell (only_setCell (only_setCell (only_setCell (only_refl W7 (some bG)) (p := ⟨bG, jv * 6, none⟩) (.inl rfl) (.int .i64 kd)) (p := ⟨bG, jv * 6 + 1, none⟩) (.inl rfl) (.string nm)) (p := ⟨bG, jv * 6 + 2, none⟩) (.inl rfl) (.int .i64 op)) (p := ⟨bG, jv * 6 + 3, none⟩) (.inl rfl) (.int .i64 z1)) (p := ⟨bG, jv * 6 + 4, none⟩) (.inl rfl) (.int .i64 z2)) (p := ⟨bG, jv * 6 + 5, none⟩) (.inl rfl) (.int .i64 z3)
              have HBn := Lib.hid (HB7.out.grown hon2 HB7.out.size (fun z e => by cases e; exact HGB.out))
              have HBOn := Lib.hid (HBO7.out.grown hon2 (fun e => hboG (Option.some.inj e)))
              have HON2 := Lib.hid hon2
              clear hput hon2
              go_simp
              refine hK.out _ _ ?hS9 (fun hHeld9 => ?hR9)
              case hS9 => exact HKS8.out _ HON2.out
              clear hK K
              try simp only [Act.put, List.setIfInBounds_toArray, List.set_cons_zero, List.set_cons_succ]
              refine wpAnyH_done (by kernel_rfl) ?_ _
              go_wp2
              go_roundw
              case rel => exact ⟨v + 1, by omega, by go_num, HGn, HBOn, HBn⟩
              case measure => simp [intOf]; omega
            · obtain rfl : v = i := by omega
              obtain ⟨W8, hW8⟩ : ∃ W, wr = W := ⟨_, rfl⟩
              have HOO0 : Hid (Owns wr W6.heap.size 3 (.slice none 0 0) (nums .i64 ((cc.outs.take 0).map fun p => (at_ p.toNat : Int)))) := Lib.hid (owns_nil _ _ _)
              have HGQ0 := HGQ; have HBOQ0 := HBOQ; have HBQ0 := HBQ
              clear hW8 W8 hv hlt
              go_upto_region 32 with (fail)
              clear HGQ HBOQ HBQ
              go_loopw [15] (fun s15 wq => ∃ (k : Nat) (vO : Value), k ≤ m ∧ s15 = .int .i64 k ∧ Hid (wq.ownsRow W6.heap.size 33 6 (.slice (some ⟨bG, 0, none⟩) v v) v (gcells (outG cc.gs at_ inv v))) ∧ Hid (Blk wq bo 25 [.string cc.name, .slice (some ⟨bG, 0, none⟩) v v, vO]) ∧ Hid (Owns wq W6.heap.size 3 vO (nums .i64 ((cc.outs.take k).map fun p => (at_ p.toNat : Int)))) ∧ Hid (Below W6.heap.size W6 wq)) (fun s15 _ => m - (intOf s15).toNat)
              case atStart => exact ⟨0, _, by omega, rfl, HGQ0, HBOQ0, HOO0, HBQ0⟩
              case round =>
                clear HGQ0 HBOQ0 HOO0 HBQ0
                obtain ⟨k, vO, hk, rfl, HGQ, HBOQ, HOO, HBQ⟩ := hrel
                have x2 : wr.cell? ⟨bx, 2, none⟩ = some (.slice B m cb) := ((HX6.out.self HBQ.out).cell 2).trans rfl
                by_cases hlt : k < m
                · obtain ⟨pk, hpk⟩ : ∃ p, cc.outs[k]? = some p := ⟨_, List.getElem?_eq_getElem (by rw [HM.out]; exact hlt)⟩
                  have hpr := HMC.out.outs pk (List.mem_of_getElem? hpk)
                  rw [HN.out] at hpr
                  obtain ⟨pt, hpt⟩ : ∃ q : Nat, pk = (q : Int) := ⟨pk.toNat, by omega⟩
                  subst hpt
                  have hpv : pt < v := by omega
                  obtain ⟨gB, oB, e, hc1⟩ := (HB6.out.below HBQ.out).at_ hpk
                  subst e
                  obtain ⟨_, _, e, hc2⟩ := (HATR.out.below HBQ.out).at_ (ints_get (tell_get hpv))
                  cases e
                  rw [Nat.zero_add] at hc2
                  obtain ⟨jz, hjz⟩ : ∃ z, (at_ pt : Int) = z := ⟨_, rfl⟩
                  rw [hjz] at hc2
                  have HOL : Hid ((cc.outs.take (k + 1)).map (fun p => (at_ p.toNat : Int)) = (cc.outs.take k).map (fun p => (at_ p.toNat : Int)) ++ [jz]) := Lib.hid (by
                    rw [List.take_add_one, hpk, List.map_append]
                    simp [← hjz])
                  have hnl : (nums .i64 ((cc.outs.take k).map fun p => (at_ p.toNat : Int))).length = k := by
                    rw [nums_length, List.length_map, List.length_take]
                    have := HM.out
                    omega
                  obtain ⟨lk, hlk⟩ : ∃ l, (cc.outs.take k).map (fun p => (at_ p.toNat : Int)) = l := ⟨_, rfl⟩
                  rw [hlk] at hnl HOL HOO
                  have HKS : Hid (∀ W, Below W6.heap.size W6 W → W.cell? ⟨bx, 2, none⟩ = some (.slice (some ⟨gB, oB, none⟩) m cb) ∧ W.cell? ⟨gB, oB + k, none⟩ = some (.int .i64 (pt : Int)) ∧ W.cell? ⟨bt, pt, none⟩ = some (.int .i64 jz)) := Lib.hid fun W hW => by
                    refine ⟨((HX6.out.self hW).cell 2).trans rfl, ?_, ?_⟩
                    · obtain ⟨_, _, e, t⟩ := (HB6.out.below hW).at_ hpk
                      cases e
                      exact t
                    · obtain ⟨_, _, e, t⟩ := (HATR.out.below hW).at_ (ints_get (tell_get hpv))
                      cases e
                      rw [Nat.zero_add, hjz] at t
                      exact t
                  have hbd := below_drew0 (Below.refl wr.heap.size wr)
                  have HG7 := Lib.hid (rows_below HGQ.out hbd)
                  have HBO7 := Lib.hid (HBOQ.out.self hbd)
                  have HOO7 := Lib.hid (HOO.out.below hbd)
                  have HB7 := Lib.hid (below_drew0 HBQ.out)
                  have hk0 : (0 : Int) ≤ (k : Int) := by omega
                  have hkm : (k : Int) < (m : Int) := by omega
                  have hp0 : (0 : Int) ≤ (pt : Int) := by omega
                  have hp1 : (pt : Int) < (v : Int) := by omega
                  clear hpk hpr hjz hbd HGQ HBOQ HOO HBQ hlk hc1 hc2
                  go_upto_region 34 with (fail)
                  refine wp_region_held_drew (S := (fun w' => w'.cell? ⟨bx, 2, none⟩ = some (.slice (some ⟨gB, oB, none⟩) m cb) ∧ w'.cell? ⟨gB, oB + k, none⟩ = some (.int .i64 (pt : Int)) ∧ w'.cell? ⟨bt, pt, none⟩ = some (.int .i64 jz))) (by kernel_rfl) ?hSq (fun hHeld => ?hRq)
                  case hSq => exact HKS.out _ HB7.out
                  generalize wr.drew = W7 at *
                  have hbl := below1 W7 (.cells #[Value.int .i64 jz] 3)
                  have HBA := Lib.hid (below_self HB7.out hbl)
                  have HOA := Lib.hid (HOO7.out.below hbl)
                  have HGA := Lib.hid (rows_below HG7.out hbl)
                  have HBOA := Lib.hid (HBO7.out.self hbl)
                  have HCA : Hid (CReads (W7.alloc (.cells #[Value.int .i64 jz] 3)) (some ⟨W7.heap.size, 0, none⟩) [.int .i64 jz]) := Lib.hid (CReads.of_blk (Blk.new W7 3 [.int .i64 jz]))
                  have HC1 := Lib.hid ((HBO7.out.cell 2).trans rfl)
                  have HC2 := Lib.hid ((HBOA.out.cell 2).trans rfl)
                  clear hbl x2 HG7 HBO7 HOO7
                  refine takeOn (i := 0) (v := ?vq0) rfl (by kernel_rfl) (by kernel_rfl) (by kernel_rfl) (fun _ _ _ h => h) (by rfl) ?yq0 (by assumption) ?rq0
                  case yq0 => (intro w hSw; (try dsimp only at hSw); obtain ⟨q1, q2, q3⟩ := hSw; go_simp; (try with_reducible rfl))
                  try simp only [Act.put, List.setIfInBounds_toArray, List.set_cons_zero, List.set_cons_succ]
                  refine takeOn (i := 2) (v := ?vq2) rfl (by kernel_rfl) (by kernel_rfl) (by kernel_rfl) (fun _ _ _ h => h) (by rfl) ?yq2 (by assumption) ?rq2
                  case yq2 => (intro w hSw; (try dsimp only at hSw); obtain ⟨q1, q2, q3⟩ := hSw; go_simp; (try with_reducible rfl))
                  try simp only [Act.put, List.setIfInBounds_toArray, List.set_cons_zero, List.set_cons_succ]
                  refine takeOn (i := 3) (v := ?vq3) rfl (by kernel_rfl) (by kernel_rfl) (by kernel_rfl) (fun _ _ _ h => h) (by rfl) ?yq3 (by assumption) ?rq3
                  case yq3 => (intro w hSw; (try dsimp only at hSw); obtain ⟨q1, q2, q3⟩ := hSw; go_simp; (try with_reducible rfl))
                  try simp only [Act.put, List.setIfInBounds_toArray, List.set_cons_zero, List.set_cons_succ]
                  refine takeOn (i := 4) (v := ?vq4) rfl (by kernel_rfl) (by kernel_rfl) (by kernel_rfl) (fun _ _ _ h => h) (by rfl) ?yq4 (by assumption) ?rq4
                  case yq4 => (intro w hSw; (try dsimp only at hSw); obtain ⟨q1, q2, q3⟩ := hSw; go_simp; (try with_reducible rfl))
                  try simp only [Act.put, List.setIfInBounds_toArray, List.set_cons_zero, List.set_cons_succ]
                  refine takeOn (i := 5) (v := ?vq5) rfl (by kernel_rfl) (by kernel_rfl) (by kernel_rfl) (fun _ _ _ h => h) (by rfl) ?yq5 (by assumption) ?rq5
                  case yq5 => (intro w hSw; (try dsimp only at hSw); obtain ⟨q1, q2, q3⟩ := hSw; go_simp; (try with_reducible rfl))
                  try simp only [Act.put, List.setIfInBounds_toArray, List.set_cons_zero, List.set_cons_succ]
                  refine takeOn (i := 6) (v := ?vq6) rfl (by kernel_rfl) (by kernel_rfl) (by kernel_rfl) (fun _ _ _ h => h) (by rfl) ?yq6 (by assumption) ?rq6
                  case yq6 => (intro w hSw; (try dsimp only at hSw); obtain ⟨q1, q2, q3⟩ := hSw; go_simp; (try with_reducible rfl))
                  try simp only [Act.put, List.setIfInBounds_toArray, List.set_cons_zero, List.set_cons_succ]
                  refine takeOn (i := 7) (v := ?vq7) rfl (by kernel_rfl) (by kernel_rfl) (by kernel_rfl) (fun _ _ _ h => h) (by rfl) ?yq7 (by assumption) ?rq7
                  case yq7 => (intro w hSw; (try dsimp only at hSw); obtain ⟨q1, q2, q3⟩ := hSw; go_simp; (try with_reducible rfl))
                  try simp only [Act.put, List.setIfInBounds_toArray, List.set_cons_zero, List.set_cons_succ]
                  refine takeOn (i := 8) (v := ?vq8) rfl (by kernel_rfl) (by kernel_rfl) (by kernel_rfl) (fun _ _ _ h => h) (by rfl) ?yq8 (by assumption) ?rq8
                  case yq8 => (intro w hSw; (try dsimp only at hSw); obtain ⟨q1, q2, q3⟩ := hSw; go_simp; (try with_reducible rfl))
                  try simp only [Act.put, List.setIfInBounds_toArray, List.set_cons_zero, List.set_cons_succ]
                  refine takeOn (i := 9) (v := ?vq9) rfl (by kernel_rfl) (by kernel_rfl) (by kernel_rfl) (fun _ _ _ h => h) (by rfl) ?yq9 (by assumption) ?rq9
                  case yq9 => (intro w hSw; (try dsimp only at hSw); obtain ⟨q1, q2, q3⟩ := hSw; go_simp; (try with_reducible rfl))
                  try simp only [Act.put, List.setIfInBounds_toArray, List.set_cons_zero, List.set_cons_succ]
                  refine wpAnyH_ready (rs := [1, 10]) (by kernel_rfl) (by simp) (AllReadyH.cons (drop_at rfl) (fun K hK => ?k1) (AllReadyH.cons (drop_at rfl) (fun K hK => ?k10) AllReadyH.nil))
                  case k1 =>
                    have b1 := HC1.out
                    rw [if_pos (by rfl)]
                    go_simp
                    refine hK.out _ _ ?_ (fun _ => ?_)
                    · exact HKS.out _ HB7.out
                    clear hK K
                    try simp only [Act.put, List.setIfInBounds_toArray, List.set_cons_zero, List.set_cons_succ]
                    clear b1
                    refine callOn (i := 10) rfl (by kernel_rfl) (by rfl) ?_
                    intro K hK
                    go_simp
                    refine hK.out _ _ ?_ (fun _ => ?_)
                    · exact HKS.out _ HBA.out
                    clear hK K
                    try simp only [Act.put, List.setIfInBounds_toArray, List.set_cons_zero, List.set_cons_succ]
                    refine wpAnyH_ready (rs := [11]) (by kernel_rfl) (by simp) (AllReadyH.cons (drop_at rfl) (fun K hK => ?_) AllReadyH.nil)
                    refine step_cells rfl (.tmp 157) (.tmp 166) 23 ?hao W6.heap.size 3 _ 8 Try.underlying23 info_int rfl vO (nums .i64 lk) ?has HOA.out (some ⟨W7.heap.size, 0, none⟩) 1 1 [.int .i64 jz] ?hax HCA.out rfl ?ha1 ?ha2 ?ha3 ?ha4 ?_
                    case hao => rfl
                    case has => simp [Act.eval, Act.put]
                    case hax => simp [Act.eval, Act.put]
                    case ha1 => intro u hu; simp at hu; subst hu; rfl
                    case ha2 => unfold maxLen; omega
                    case ha3 => omega
                    case ha4 => exact HBA.out.size
                    intro v5 w5 hown5 hg5 hb5
                    have hl5 : (nums .i64 lk ++ [Value.int .i64 jz]).length = k + 1 := by rw [List.length_append, hnl]; rfl
                    obtain ⟨B5, c5, e5⟩ := hown5.form
                    rw [hl5] at e5
                    subst e5
                    have HB5 := Lib.hid (HBA.out.grown hg5 HBA.out.size (fun g e => (HOA.out.lt e).1))
                    have HBO5 := Lib.hid (HBOA.out.grown hg5 (fun e => HBOA.out.typed.ne (HOA.out.typed e.symm) (by decide) rfl))
                    have HG5 := Lib.hid (rows_aside HGA.out hg5 (fun g e => HOA.out.typed e) (by decide))
                    have HO5 := Lib.hid hown5
                    clear hown5 hg5 hb5 HBA HOA HGA HBOA HCA HC1 HC2
                    refine hK.out _ _ ?_ (fun _ => ?_)
                    · exact HKS.out _ HB5.out
                    clear hK K
                    try simp only [Act.put, List.setIfInBounds_toArray, List.set_cons_zero, List.set_cons_succ]
                    have s2 := (HBO5.out.cell 2).trans rfl
                    have f2 := HBO5.out.frozen 2
                    have hon5 := only_setCell (only_refl w5 (some bo)) (p := ⟨bo, 2, none⟩) (.inl rfl) (.slice B5 (k + 1) c5)
                    have HGn := Lib.hid (rows_aside HG5.out hon5 (fun g e => by cases e; exact HBO5.out.typed) (by decide))
                    have HBOn := Lib.hid (HBO5.out.set_ 2 (.slice B5 (k + 1) c5))
                    have HOn : Hid (Owns (w5.setCell ⟨bo, 2, none⟩ (.slice B5 (k + 1) c5)) W6.heap.size 3 (.slice B5 (k + 1) c5) (nums .i64 ((cc.outs.take (k + 1)).map fun p => (at_ p.toNat : Int)))) := Lib.hid (by
                      rw [HOL.out, nums_append]
                      exact HO5.out.aside HBO5.out.typed (by decide) hon5)
                    clear hon5
                    have HB9 := Lib.hid (HB5.out.grown (only_setCell (only_refl w5 (some bo)) (p := ⟨bo, 2, none⟩) (.inl rfl) (.slice B5 (k + 1) c5)) HB5.out.size (fun g e => by cases e; exact HBOL.out))
                    refine takeOn (i := 12) (v := ?vqa) rfl (by kernel_rfl) (by kernel_rfl) (by kernel_rfl) (fun _ _ _ h => h) (by rfl) ?yqa (by assumption) ?rqa
                    case yqa => (intro w hSw; (try dsimp only at hSw); obtain ⟨q1, q2, q3⟩ := hSw; go_simp; (try with_reducible rfl))
                    try simp only [Act.put, List.setIfInBounds_toArray, List.set_cons_zero, List.set_cons_succ]
                    refine callOn (i := 13) rfl (by kernel_rfl) (by rfl) ?_
                    intro K hK
                    go_simp
                    refine hK.out _ _ ?_ (fun _ => ?_)
                    · exact HKS.out _ HB9.out
                    clear hK K
                    try simp only [Act.put, List.setIfInBounds_toArray, List.set_cons_zero, List.set_cons_succ]
                    refine wpAnyH_done (by kernel_rfl) ?_ _
                    go_wp2
                    go_roundw
                    case rel => exact ⟨k + 1, .slice B5 (k + 1) c5, by omega, by go_num, HGn, HBOn, HOn, HB9⟩
                    case measure => simp [intOf]; omega
                  case k10 =>
                    rw [if_pos (by rfl)]
                    go_simp
                    refine hK.out _ _ ?_ (fun _ => ?_)
                    · exact HKS.out _ HBA.out
                    clear hK K
                    try simp only [Act.put, List.setIfInBounds_toArray, List.set_cons_zero, List.set_cons_succ]
                    have b2 := HC2.out
                    refine callOn (i := 1) rfl (by kernel_rfl) (by rfl) ?_
                    intro K hK
                    go_simp
                    refine hK.out _ _ ?_ (fun _ => ?_)
                    · exact HKS.out _ HBA.out
                    clear hK K
                    try simp only [Act.put, List.setIfInBounds_toArray, List.set_cons_zero, List.set_cons_succ]
                    clear b2
                    refine wpAnyH_ready (rs := [11]) (by kernel_rfl) (by simp) (AllReadyH.cons (drop_at rfl) (fun K hK => ?_) AllReadyH.nil)
                    refine step_cells rfl (.tmp 157) (.tmp 166) 23 ?ho W6.heap.size 3 _ 8 Try.underlying23 info_int rfl vO (nums .i64 lk) ?hs HOA.out (some ⟨W7.heap.size, 0, none⟩) 1 1 [.int .i64 jz] ?hx HCA.out rfl ?h1 ?h2 ?h3 ?h4 ?_
                    case ho => rfl
                    case hs => simp [Act.eval, Act.put]
                    case hx => simp [Act.eval, Act.put]
                    case h1 => intro u hu; simp at hu; subst hu; rfl
                    case h2 => unfold maxLen; omega
                    case h3 => omega
                    case h4 => exact HBA.out.size
                    intro v5 w5 hown5 hg5 hb5
                    have hl5 : (nums .i64 lk ++ [Value.int .i64 jz]).length = k + 1 := by rw [List.length_append, hnl]; rfl
                    obtain ⟨B5, c5, e5⟩ := hown5.form
                    rw [hl5] at e5
                    subst e5
                    have HB5 := Lib.hid (HBA.out.grown hg5 HBA.out.size (fun g e => (HOA.out.lt e).1))
                    have HBO5 := Lib.hid (HBOA.out.grown hg5 (fun e => HBOA.out.typed.ne (HOA.out.typed e.symm) (by decide) rfl))
                    have HG5 := Lib.hid (rows_aside HGA.out hg5 (fun g e => HOA.out.typed e) (by decide))
                    have HO5 := Lib.hid hown5
                    clear hown5 hg5 hb5 HBA HOA HGA HBOA HCA HC1 HC2
                    refine hK.out _ _ ?_ (fun _ => ?_)
                    · exact HKS.out _ HB5.out
                    clear hK K
                    try simp only [Act.put, List.setIfInBounds_toArray, List.set_cons_zero, List.set_cons_succ]
                    have s2 := (HBO5.out.cell 2).trans rfl
                    have f2 := HBO5.out.frozen 2
                    have hon5 := only_setCell (only_refl w5 (some bo)) (p := ⟨bo, 2, none⟩) (.inl rfl) (.slice B5 (k + 1) c5)
                    have HGn := Lib.hid (rows_aside HG5.out hon5 (fun g e => by cases e; exact HBO5.out.typed) (by decide))
                    have HBOn := Lib.hid (HBO5.out.set_ 2 (.slice B5 (k + 1) c5))
                    have HOn : Hid (Owns (w5.setCell ⟨bo, 2, none⟩ (.slice B5 (k + 1) c5)) W6.heap.size 3 (.slice B5 (k + 1) c5) (nums .i64 ((cc.outs.take (k + 1)).map fun p => (at_ p.toNat : Int)))) := Lib.hid (by
                      rw [HOL.out, nums_append]
                      exact HO5.out.aside HBO5.out.typed (by decide) hon5)
                    clear hon5
                    have HB9 := Lib.hid (HB5.out.grown (only_setCell (only_refl w5 (some bo)) (p := ⟨bo, 2, none⟩) (.inl rfl) (.slice B5 (k + 1) c5)) HB5.out.size (fun g e => by cases e; exact HBOL.out))
                    refine takeOn (i := 12) (v := ?vq12) rfl (by kernel_rfl) (by kernel_rfl) (by kernel_rfl) (fun _ _ _ h => h) (by rfl) ?yq12 (by assumption) ?rq12
                    case yq12 => (intro w hSw; (try dsimp only at hSw); obtain ⟨q1, q2, q3⟩ := hSw; go_simp; (try with_reducible rfl))
                    try simp only [Act.put, List.setIfInBounds_toArray, List.set_cons_zero, List.set_cons_succ]
                    refine callOn (i := 13) rfl (by kernel_rfl) (by rfl) ?_
                    intro K hK
                    go_simp
                    refine hK.out _ _ ?_ (fun _ => ?_)
                    · exact HKS.out _ HB9.out
                    clear hK K
                    try simp only [Act.put, List.setIfInBounds_toArray, List.set_cons_zero, List.set_cons_succ]
                    refine wpAnyH_done (by kernel_rfl) ?_ _
                    go_wp2
                    go_roundw
                    case rel => exact ⟨k + 1, .slice B5 (k + 1) c5, by omega, by go_num, HGn, HBOn, HOn, HB9⟩
                    case measure => simp [intOf]; omega
                · obtain rfl : k = m := by omega
                  obtain ⟨B5, c5, e5⟩ := HOO.out.form
                  have htk : cc.outs.take k = cc.outs := List.take_of_length_le (by rw [HM.out]; exact Nat.le_refl _)
                  rw [htk] at HOO e5
                  have hl5 : (nums .i64 (cc.outs.map fun p => (at_ p.toNat : Int))).length = k := by rw [nums_length, List.length_map]; exact HM.out
                  rw [hl5] at e5
                  subst e5
                  have k0 := HX6'.out.self HBQ.out
                  have z0 := (k0.cell 0).trans rfl
                  have z1 := (k0.cell 1).trans rfl
                  have z2 := (k0.cell 2).trans rfl
                  have q0 := k0.frozen 0
                  have q1 := k0.frozen 1
                  have q2 := k0.frozen 2
                  have p0 := (HBOQ.out.cell 0).trans rfl
                  have p1 := (HBOQ.out.cell 1).trans rfl
                  have p2 := (HBOQ.out.cell 2).trans rfl
                  have r0 := Lib.hid (((((k0.set_ 0 (.string cc.name)).set_ 1 (.slice (some ⟨bG, 0, none⟩) v v)).set_ 2 (.slice B5 k c5)).cell 0).trans rfl)
                  have r1 := Lib.hid (((((k0.set_ 0 (.string cc.name)).set_ 1 (.slice (some ⟨bG, 0, none⟩) v v)).set_ 2 (.slice B5 k c5)).cell 1).trans rfl)
                  have r2 := Lib.hid (((((k0.set_ 0 (.string cc.name)).set_ 1 (.slice (some ⟨bG, 0, none⟩) v v)).set_ 2 (.slice B5 k c5)).cell 2).trans rfl)
                  have hon := only_set3 wr (bx + 1) (.string cc.name) (.slice (some ⟨bG, 0, none⟩) v v) (.slice B5 k c5)
                  have hty : ∀ b, some (bx + 1) = some b → Typed wr b 25 := fun b e => by cases e; exact k0.typed
                  have HCG := Lib.hid (rows_read (rows_aside HGQ.out hon hty (by decide)) (by decide))
                  have HCB := Lib.hid (by
                    have ho' := rows_aside HOO.out hon hty (by decide)
                    rw [hl5] at ho'
                    exact (rows_read ho' (by decide)).reads)
                  have HBE := Lib.hid ((below_self HBW6.out HBQ.out).grown hon (below_self HBW6.out HBQ.out).size (fun b e => by cases e; have := HBS.out; omega))
                  have HSF : Hid (Shuf cc at_ inv ⟨cc.name, outG cc.gs at_ inv v, cc.outs.map fun p => (at_ p.toNat : Int)⟩) := Lib.hid (by
                    have := outG_shuf HAT.out
                    rwa [HN.out] at this)
                  clear k0 hon hty hl5 htk HOO HGQ HBOQ HBQ HX6 HX6' HA6 HB6 HATR hlt hk
                  go_wp2
                  exact bodyPost_ret (v := .agg #[.string cc.name, .slice (some ⟨bG, 0, none⟩) v v, .slice B5 k c5]) (by simp [results, Try.results30, go_sem, r0.out, r1.out, r2.out]) rfl ⟨at_, inv, _, some ⟨bG, 0, none⟩, B5, v, c5, rfl, HSF.out, HCG, HCB, HBE.out⟩
end Go.Proofs.Ytjkmoahnociaiaa
