/- Cone of circuit: the walk. -/
import Derived.Test.YtjkmoahnociaiaaDoorXG
namespace Go.Proofs.YtjkmoahnociaiaaDoor
open Go.RowKit

set_option maxRecDepth 100000 in
set_option maxHeartbeats 4000000 in
theorem cone_any (cc : Ct) (place : Int) (A B : Option Addr) (n m ca cb : Nat) (w : World) (hA : CReads w A (gcells cc.gs)) (hB : Reads w .i64 B cc.outs) (hs : SizeP cc) (hn : cc.gs.length = n) (hm : cc.outs.length = m) :
    Calls Tryd.prog 21 #[.agg #[.string cc.name, .slice A n ca, .slice B m cb], .int .i64 place] w (ConeR w cc place) := by
  have hbl := below1 w (.cells #[.string cc.name, .slice A n ca, .slice B m cb] 25)
  have C1 : Calls Tryd.prog 9 #[.agg #[.string cc.name, .slice A n ca, .slice B m cb]] (w.alloc (.cells #[.string cc.name, .slice A n ca, .slice B m cb] 25)) fun e w' => e = .returned (.bool (formedB cc)) ∧ Below (w.alloc (.cells #[.string cc.name, .slice A n ca, .slice B m cb] 25)).heap.size (w.alloc (.cells #[.string cc.name, .slice A n ca, .slice B m cb] 25)) w' := formed_any cc A B n m ca cb _ (hA.below hbl) (hB.below hbl) hs hn hm
  have HX := Lib.hid (Blk.new w 25 [.string cc.name, .slice A n ca, .slice B m cb])
  have HA := Lib.hid (hA.below hbl); have HS := Lib.hid hs; have HN := Lib.hid hn; have HB0 := Lib.hid hbl
  have hn1 : n ≤ 9223372036854775807 := by have := hs.gl; simp only [maxLen] at this; omega
  clear hA hB hs hn hm hbl
  obtain ⟨fb, hfb⟩ : ∃ fb, formedB cc = fb := ⟨_, rfl⟩
  rw [hfb] at C1
  cases fb
  · have HNF : Hid (¬ FormedP cc) := Lib.hid (fun h => by rw [formedB_true h] at hfb; cases hfb)
    clear hfb
    have HC : Hid (coneCode cc place = 144) := Lib.hid (by unfold coneCode; rw [if_neg HNF.out])
    have HLL : Hid (coneList cc place = []) := Lib.hid (by unfold coneList; rw [HC.out]; rfl)
    go_enter Tryd.func21, Tryd.ntmps21
    go_wp2_with (go_at_call 9; with_reducible refine C1.mono ?_; rintro e w1 ⟨rfl, hb1⟩)
    go_ret2
    exact ⟨_, by rw [HC.out]; rfl, by rw [HLL.out]; exact owns_nil _ _ _, below_self HB0.out hb1⟩
  · have HFP : Hid (FormedP cc) := Lib.hid (Classical.byContradiction fun h => by rw [formedB_false h] at hfb; cases hfb)
    clear hfb
    go_enter Tryd.func21, Tryd.ntmps21
    go_upto_region 3 with (go_at_call 9; with_reducible refine C1.mono ?_; rintro e w1 ⟨rfl, hb1⟩)
    have HX1 := Lib.hid (HX.out.self hb1)
    have HA1 := Lib.hid (HA.out.below hb1)
    have HB1 := Lib.hid (below_self HB0.out hb1)
    have hn2 : n ≤ 65536 := by have := HFP.out.gl; have := HN.out; omega
    have x1 : w1.cell? ⟨w.heap.size, 1, none⟩ = some (.slice A n ca) := (HX1.out.cell 1).trans rfl
    obtain ⟨bx, hbx⟩ : ∃ bx, w.heap.size = bx := ⟨_, rfl⟩
    rw [hbx] at x1 HX1 ⊢
    have HBS := Lib.hid hbx
    clear C1 HX HA HB0 hb1 hbx
    by_cases hout : place < 0 ∨ (n : Int) ≤ place
    · have HC : Hid (coneCode cc place = 1) := Lib.hid (by unfold coneCode; rw [if_pos HFP.out, if_neg (by rw [HN.out]; omega)])
      have HLL : Hid (coneList cc place = []) := Lib.hid (by unfold coneList; rw [HC.out]; rfl)
      by_cases h0 : place < 0
      · clear hout
        go_wp2
        go_ret2
        exact ⟨_, by rw [HC.out]; rfl, by rw [HLL.out]; exact owns_nil _ _ _, HB1.out⟩
      · have h1 : (n : Int) ≤ place := by omega
        have h2 : 0 ≤ place := by omega
        clear hout h0
        go_wp2
        go_ret2
        exact ⟨_, by rw [HC.out]; rfl, by rw [HLL.out]; exact owns_nil _ _ _, HB1.out⟩
    · obtain ⟨pl, rfl⟩ : ∃ pl : Nat, place = (pl : Int) := ⟨place.toNat, by omega⟩
      have hp : pl < n := by omega
      have hp0 : (0 : Int) ≤ (pl : Int) := by omega
      have hpn : (pl : Int) < (n : Int) := by omega
      have HC : Hid (coneCode cc (pl : Int) = 0) := Lib.hid (by unfold coneCode; rw [if_pos HFP.out, if_pos (by rw [HN.out]; omega)])
      have HLL : Hid (coneList cc (pl : Int) = coneL cc.gs pl) := Lib.hid (by unfold coneList; rw [HC.out, if_pos rfl]; rfl)
      have HI := Lib.hid HFP.out.lines.inR
      have HInL : Hid (∀ i, i < n → ∀ p ∈ lnsOf cc.gs i, p < n) := Lib.hid (by have := HI.out.lt; rwa [HN.out] at this)
      obtain ⟨name, gs, outs⟩ := cc
      dsimp only at *
      have hm1 := run_makeRep (P := Tryd.prog) Tryd.underlying96 info_bool rfl n (by omega) (by omega)
      obtain ⟨_, d0, z0, hdm⟩ := dmem_cone w1 n (by unfold maxLen; omega) pl hp
      have HM0 := Lib.hid hdm
      have HBW0 : Hid (Below w1.heap.size w1 (((w1.alloc (.cells (List.replicate n (Value.bool false)).toArray 4)).setCell ⟨w1.heap.size, pl, none⟩ (.bool true)).alloc (.cells [Value.int .i64 (pl : Int)].toArray 3))) := Lib.hid (((below1 w1 _).setCell (p := ⟨w1.heap.size, pl, none⟩) (Nat.le_refl _) _).alloc (by simp [World.setCell]) _)
      have HC0 := Lib.hid (Dfs.start (n := n) (f := lnsOf gs) hp)
      have HU0 : Hid (2 * unmet ((List.replicate n false).set pl true) + [pl].length ≤ 2 * n + 1) := Lib.hid (by
        have := unmet_set (met := List.replicate n false) (q := pl) (by rw [List.getElem?_replicate, if_pos hp])
        rw [unmet_rep] at this
        simp
        omega)
      have hb1 : decide ((pl : Int) < 0) = false := by simp
      have hb2 : decide (n ≤ pl) = false := by simp; omega
      have hb3 : decide ((n : Int) ≤ (pl : Int)) = false := by simp; omega
      clear hout hdm
      go_upto_region 6 with (fail)
      change Code.wp _ _ _ _ (w1.alloc (.cells (List.replicate n (Value.bool false)).toArray 4))
      have hWs : (w1.alloc (.cells (List.replicate n (Value.bool false)).toArray 4)).heap.size = w1.heap.size + 1 := by simp
      rw [← hWs] at HM0
      clear hWs
      generalize w1.alloc (.cells (List.replicate n (Value.bool false)).toArray 4) = Wa at *
      go_upto_region 8 with (fail)
      change Code.wp _ _ _ _ ((Wa.setCell ⟨w1.heap.size, pl, none⟩ (.bool true)).alloc (.cells [Value.int .i64 (pl : Int)].toArray 3))
      generalize (Wa.setCell ⟨w1.heap.size, pl, none⟩ (.bool true)).alloc (.cells [Value.int .i64 (pl : Int)].toArray 3) = W2 at *
      clear d0 z0 hm1
      go_loopg [7] (2 * n + 1) (fun r vk wr => ∃ (met : List Bool) (work : List Nat), r ≤ 2 * n + 1 ∧ Hid (2 * unmet met + work.length ≤ r) ∧ Hid (DMem wr w1.heap.size n vk met work []) ∧ Hid (Dfs n (lnsOf gs) pl met work n 0) ∧ Hid (Below w1.heap.size w1 wr))
      case atStart => exact ⟨_, _, by omega, HU0, HM0, HC0, HBW0⟩
      case round =>
        clear HM0 HC0 HBW0 HU0
        obtain ⟨met, work, hgk, HG, HM, HCC, HB⟩ := hrel
        rcases List.eq_nil_or_concat work with rfl | ⟨work, p, rfl⟩
        · obtain ⟨A8, c8, hv8⟩ := HM.out.owns.form
          simp only [ints, List.map_nil, List.length_nil] at hv8
          subst hv8
          have HFIN := Lib.hid (fun i => HCC.out.fin (i := i))
          have HML := Lib.hid HCC.out.ml
          clear HCC HG
          have HMX := Lib.hid HM.out.addNil
          clear HM
          go_upto_region 20 with (fail)
          go_loopw [11, 75] (fun vl si wr => ∃ i : Nat, i ≤ n ∧ si = .int .i64 i ∧ Hid (DMem wr w1.heap.size n (.slice A8 0 c8) met [] [row1 3 vl (ints ((List.range i).filter (coneB gs pl)))]) ∧ Hid (Below w1.heap.size w1 wr)) (fun _ si _ => n - (intOf si).toNat)
          case atStart => exact ⟨0, by omega, rfl, HMX, HB⟩
          case round =>
            clear HMX HB
            obtain ⟨i, hi, rfl, HM, HB⟩ := hrel
            by_cases hlt : i < n
            · obtain ⟨x, hx⟩ : ∃ x, met[i]? = some x := ⟨_, List.getElem?_eq_getElem (by rw [HML.out]; exact hlt)⟩
              obtain ⟨m0, _, _⟩ := HM.out.metP hx
              have HT := Lib.hid (cone_take (fun i => HFIN.out i) hx)
              have hi0 : (0 : Int) ≤ (i : Int) := by omega
              have hin : (i : Int) < (n : Int) := by omega
              clear hx
              obtain ⟨L, hL⟩ : ∃ L, (List.range i).filter (coneB gs pl) = L := ⟨_, rfl⟩
              have hLl : L.length ≤ i := by
                rw [← hL]
                have := List.length_filter_le (coneB gs pl) (List.range i)
                simpa using this
              rw [hL] at HT HM
              clear hL
              cases x
              · have HTn : Hid (L = (List.range (i + 1)).filter (coneB gs pl)) := Lib.hid (by rw [HT.out]; simp)
                go_wp2
                go_roundw
                case rel => exact ⟨i + 1, by omega, by go_num, by rw [← HTn.out]; exact HM, HB⟩
                case measure => simp [intOf]; omega
              · have HTn : Hid (L ++ [i] = (List.range (i + 1)).filter (coneB gs pl)) := Lib.hid (by rw [HT.out]; simp)
                have HM2 := Lib.hid (HM.out.below (below1 wr (.cells [Value.int .i64 (i : Int)].toArray 3)))
                have HB2 := Lib.hid (HB.out.alloc HB.out.size (.cells [Value.int .i64 (i : Int)].toArray 3))
                have hO2 := Lib.hid HM2.out.listO
                have hull : (ints L).length + 1 ≤ 400000 := by rw [ints_length]; omega
                go_upto_region 24 with (at_builtin; refine wpList_push2 rfl _ _ 23 rfl w1.heap.size 3 _ 8 Tryd.underlying23 info_int rfl u11 (ints L) rfl hO2.out ⟨wr.heap.size, 0, none⟩ (.int .i64 (i : Int)) rfl (by simp [go_sem]) rfl (by unfold maxLen; omega) (by omega) (by simp; have := HB.out.size; omega) ?_; intro v5 w5 hown5 hg5 hb5; have HM5 := Lib.hid (HM2.out.listP hown5 hg5 hb5); have HB5 := Lib.hid (HB2.out.grown hg5 HB2.out.size (fun g hv => (hO2.out.lt hv).1)); clear hown5 hg5 hb5)
                clear HM HB HM2 HB2 hO2 m0
                go_wp2
                go_roundw
                case rel => exact ⟨i + 1, by omega, by go_num, by rw [← HTn.out]; exact HM5, HB5⟩
                case measure => simp [intOf]; omega
            · obtain rfl : i = n := by omega
              have HO := Lib.hid HM.out.listO
              clear HM
              go_wp2
              go_ret2
              refine ⟨_, by rw [HC.out]; rfl, ?_, HB1.out.trans (HB.out.mono HB1.out.size)⟩
              rw [HLL.out]
              unfold coneL
              rw [HN.out]
              exact HO.out.more HB1.out.size
        · rw [List.concat_eq_append] at HG HM HCC
          obtain ⟨A8, c8, hv8⟩ := HM.out.owns.form
          rw [ints_length, List.length_append, List.length_singleton] at hv8
          subst hv8
          obtain ⟨q, hq⟩ : ∃ q, work.length = q := ⟨_, rfl⟩
          rw [hq] at HM ⊢
          have HQ := Lib.hid hq
          have hcap := HM.out.owns.cap
          obtain ⟨g8, rfl, d8⟩ := HM.out.at_ (j := q) (x := p) (by rw [List.getElem?_append_right (by omega), hq]; simp)
          have hpm := HCC.out.wm p (by simp)
          have hpln : p < n := by rw [← HCC.out.ml]; exact (List.getElem?_eq_some_iff.1 hpm).1
          have HPM := Lib.hid hpm
          have HMp := Lib.hid (HM.out.pop hq)
          have HCp := Lib.hid (HCC.out.pop hpln)
          have HGp : Hid (2 * unmet met + work.length < gk) := Lib.hid (by have := HG.out; simp at this; omega)
          have hp0' : (0 : Int) ≤ (p : Int) := by omega
          have hpn' : (p : Int) < (n : Int) := by omega
          have hq0 : (0 : Int) ≤ (q : Int) := by omega
          have hqc : (q : Int) ≤ (c8 : Int) := by have := hcap.1; omega
          have hqb : q ≤ 200000 := by have := HGp.out; omega
          have x1 : wr.cell? ⟨bx, 1, none⟩ = some (.slice A n ca) := cell_kept HB.out x1
          obtain ⟨g, hg⟩ : ∃ g, gs[p]? = some g := ⟨_, List.getElem?_eq_getElem (by rw [HN.out]; exact hpln)⟩
          obtain ⟨ab, ao, rfl, hc⟩ := greads_at HA1.out hg
          obtain ⟨c0, c1, c2, c3, c4, c5⟩ := hc.below HB.out
          have HGG := Lib.hid hg
          have hm3 := leans_le g
          have hcall : ∀ W, Calls Tryd.prog 47 #[.agg #[.int .i64 g.kind, .string g.name, .int .i64 g.op, .int .i64 g.a, .int .i64 g.b, .int .i64 g.c]] W fun e w' => ∃ A c, e = .returned (.slice A g.leans.length c) ∧ Hid (Owns w' W.heap.size 3 (.slice A g.leans.length c) (nums .i64 g.leans)) ∧ Below W.heap.size W w' := fun W => leans_any g W
          clear hg hc hq hcap hpm HM HCC HG
          go_upto_region 12 with (go_at_call 47; with_reducible refine (hcall _).mono ?_; rintro e W3 ⟨A3, q3, rfl, hO3, hB3⟩)
          have HM3 := Lib.hid (HMp.out.new hB3 HB.out.size hO3.out)
          have HB3 := Lib.hid (below_then HB.out HB.out.size hB3)
          obtain ⟨m', hm'⟩ : ∃ m', g.leans.length = m' := ⟨_, rfl⟩
          rw [hm'] at HM3 hm3 ⊢
          have HMM := Lib.hid hm'
          clear hm' hcall HMp HB hO3 hB3 c0 c1 c2 c3 c4 c5 d8 HQ
          go_loopw [7, 56] (fun vk s12 wr => ∃ (j : Nat) (met : List Bool) (work : List Nat), j ≤ m' ∧ s12 = .int .i64 j ∧ Hid (2 * unmet met + work.length < gk) ∧ Hid (DMem wr w1.heap.size n vk met work [row1 3 (.slice A3 m' q3) (nums .i64 g.leans)]) ∧ Hid (Dfs n (lnsOf gs) pl met work p j) ∧ Hid (met[p]? = some true) ∧ Hid (Below w1.heap.size w1 wr)) (fun _ s12 _ => m' - (intOf s12).toNat)
          case atStart => exact ⟨0, met, work, by omega, rfl, HGp, HM3, HCp, HPM, HB3⟩
          case round =>
            clear HGp HM3 HCp HPM HB3 hqb hqc hq0
            obtain ⟨j, met, work, hj, rfl, HGp, HM, HCC, HPM, HB⟩ := hrel
            by_cases hjm : j < m'
            · obtain ⟨v, hv1, hv2, hv3⟩ := HI.out.at_ HGG.out (j := j) (by rw [HMM.out]; exact hjm)
              have hvn : v < n := by have := HN.out; omega
              obtain ⟨g3, rfl, e0⟩ := HM.out.beside hv1
              have HV := Lib.hid hv2
              have HV1 := Lib.hid hv1
              have hj0 : (0 : Int) ≤ (j : Int) := by omega
              have hjm' : (j : Int) < (m' : Int) := by omega
              have hv0 : (0 : Int) ≤ (v : Int) := by omega
              have hvn' : (v : Int) < (n : Int) := by omega
              clear hv1 hv2 hv3
              obtain ⟨mb, hmb⟩ : ∃ mb, met[v]? = some mb := ⟨_, List.getElem?_eq_getElem (by rw [HCC.out.ml]; exact hvn)⟩
              obtain ⟨m0, z0, hset⟩ := HM.out.metP hmb
              have HMB := Lib.hid hmb
              have HSET := Lib.hid hset
              clear hmb hset
              cases mb
              · have HS := Lib.hid (HSET.out true)
                have HCn := Lib.hid (HCC.out.new HPM.out HV.out HMB.out)
                have HGn : Hid (2 * unmet (met.set v true) + (work ++ [v]).length < gk) := Lib.hid (by
                  have h1 := unmet_set HMB.out
                  have h2 := HGp.out
                  simp
                  omega)
                have hwl : work.length ≤ 200000 := by have := HGp.out; omega
                have HPn : Hid ((met.set v true)[p]? = some true) := Lib.hid ((met_set (List.getElem?_eq_some_iff.1 HMB.out).1).2 (.inr HPM.out))
                have HBs := Lib.hid (HB.out.setCell (p := ⟨w1.heap.size, v, none⟩) (Nat.le_refl _) (.bool true))
                clear HSET HM HCC HGp HPM HB 
                go_upto_region 16 with (fail)
                generalize wr.setCell ⟨w1.heap.size, v, none⟩ (.bool true) = W5 at *
                clear m0 z0 e0
                have HS2 := Lib.hid (HS.out.below (below1 W5 (.cells [Value.int .i64 (v : Int)].toArray 3)))
                have HBs2 := Lib.hid (HBs.out.alloc HBs.out.size (.cells [Value.int .i64 (v : Int)].toArray 3))
                have hO2 := Lib.hid HS2.out.owns
                have hull : (ints work).length + 1 ≤ 400000 := by rw [ints_length]; omega
                go_upto_region 17 with (at_builtin; refine wpList_push2 rfl _ _ 23 rfl w1.heap.size 3 _ 8 Tryd.underlying23 info_int rfl u7 (ints work) rfl hO2.out ⟨W5.heap.size, 0, none⟩ (.int .i64 (v : Int)) rfl (by simp [go_sem]) rfl (by unfold maxLen; omega) (by omega) (by simp; have := HBs.out.size; omega) ?_; intro v5 w5 hown5 hg5 hb5; have HM5 := Lib.hid (HS2.out.push hown5 hg5 hb5); have HB5 := Lib.hid (HBs2.out.grown hg5 HBs2.out.size (fun g hv => (hO2.out.lt hv).1)); clear hown5 hg5 hb5)
                clear HS HBs HS2 HBs2 hO2 
                go_wp2
                go_roundw
                case rel => exact ⟨j + 1, _, _, by omega, by go_num, HGn, HM5, HCn, HPn, HB5⟩
                case measure => simp [intOf]; omega
              · have HCn := Lib.hid (HCC.out.old HV.out HMB.out)
                clear HSET HCC
                go_wp2
                go_roundw
                case rel => exact ⟨j + 1, _, _, by omega, by go_num, HGp, HM, HCn, HPM, HB⟩
                case measure => simp [intOf]; omega
            · obtain rfl : j = m' := by omega
              have HCn := Lib.hid (HCC.out.done (by rw [lns_length HGG.out, HMM.out]; exact Nat.le_refl _) 0)
              have HMd := Lib.hid HM.out.drop
              clear HCC HM 
              go_wp2
              go_roundg (2 * unmet met + work.length)
              case measure => exact HGp.out
              case rel => exact ⟨met, work, by have := HGp.out; omega, Lib.hid (Nat.le_refl _), HMd, HCn, HB⟩
end Go.Proofs.YtjkmoahnociaiaaDoor
