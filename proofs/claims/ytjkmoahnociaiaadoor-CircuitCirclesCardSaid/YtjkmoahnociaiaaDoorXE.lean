/- Formed of circuit: the walk. -/
import Derived.Test.YtjkmoahnociaiaaDoorXD
namespace Go.Proofs.YtjkmoahnociaiaaDoor
open Go.RowKit Go.WideMaps Go.Maps

theorem FormedP.lines_at {c : Ct} (h : FormedP c) {g : Gt} {k : Nat} (hg : c.gs[k]? = some g) : NameP g.name ∧ FieldsP g (c.gs.length : Int) := h.lines g (List.mem_of_getElem? hg)
theorem nodup_take {gs : List Gt} (h : (gs.map Gt.name).Nodup) (k : Nat) : ((gs.take k).map Gt.name).Nodup := by
  rw [List.map_take]
  exact h.sublist (List.take_sublist _ _)
set_option maxRecDepth 100000 in
set_option maxHeartbeats 4000000 in
theorem formed_any (cc : Ct) (A B : Option Addr) (n m ca cb : Nat) (w : World) (hA : CReads w A (gcells cc.gs)) (hB : Reads w .i64 B cc.outs) (hs : SizeP cc) (hn : cc.gs.length = n) (hm : cc.outs.length = m) :
    Calls Tryd.prog 9 #[.agg #[.string cc.name, .slice A n ca, .slice B m cb]] w fun e w' => e = .returned (.bool (formedB cc)) ∧ Below w.heap.size w w' := by
  have hn1 : n ≤ 9223372036854775807 := by have := hs.gl; simp only [maxLen] at this; omega
  have hm1 : m ≤ 9223372036854775807 := by have := hs.ol; simp only [maxLen] at this; omega
  have HA := Lib.hid hA; have HBR := Lib.hid hB; have HS := Lib.hid hs; have HN := Lib.hid hn; have HM := Lib.hid hm
  have CN : Hid (∀ (s : ByteArray) (w : World), s.size ≤ maxLen → Calls Tryd.prog 29 #[.string s] w fun e w' => e = .returned (.bool (nameB s)) ∧ w' = w) := Lib.hid (fun s w h => isName_any s w h)
  have hmm := fun n w => run_makeMapN (P := Tryd.prog) Tryd.underlying65 .i64 n w
  clear hA hB hs hn hm
  obtain ⟨name, gs, outs⟩ := cc
  dsimp only at *
  have C0 := CN.out name (w.alloc (.cells #[.string name, .slice A n ca, .slice B m cb] 25)) HS.out.name
  by_cases hbig : nameB name = false ∨ 65536 < n ∨ 65536 < m
  · have HF : Hid (formedB ⟨name, gs, outs⟩ = false) := Lib.hid (formedB_false fun h => by
      rcases hbig with h1 | h1 | h1
      · have := nameB_true h.name; dsimp only at this; rw [this] at h1; cases h1
      · have := h.gl; dsimp only at this; have := HN.out; omega
      · have := h.ol; dsimp only at this; have := HM.out; omega)
    obtain ⟨nb, hnb⟩ : ∃ nb, nameB name = nb := ⟨_, rfl⟩
    rw [hnb] at C0 hbig
    clear hnb
    cases nb
    · clear hbig
      go_enter Tryd.func9, Tryd.ntmps9
      go_wp2_with (go_at_call 29; with_reducible refine C0.mono ?_; rintro e w' ⟨rfl, rfl⟩)
      go_ret
      exact ⟨ret_bool HF.out.symm, below1 _ _⟩
    · by_cases h1 : 65536 < n
      · have h1' : (65536 : Int) < (n : Int) := by omega
        clear hbig
        go_enter Tryd.func9, Tryd.ntmps9
        go_wp2_with (go_at_call 29; with_reducible refine C0.mono ?_; rintro e w' ⟨rfl, rfl⟩)
        go_ret
        exact ⟨ret_bool HF.out.symm, below1 _ _⟩
      · have h2 : 65536 < m := by simp at hbig; omega
        have h2' : (65536 : Int) < (m : Int) := by omega
        have h1' : (n : Int) ≤ 65536 := by omega
        clear hbig
        go_enter Tryd.func9, Tryd.ntmps9
        go_wp2_with (go_at_call 29; with_reducible refine C0.mono ?_; rintro e w' ⟨rfl, rfl⟩)
        go_ret
        exact ⟨ret_bool HF.out.symm, below1 _ _⟩
  · have hnb : nameB name = true := by
      cases h : nameB name
      · exact absurd (.inl h) hbig
      · rfl
    have hn2 : n ≤ 65536 := by omega
    have hm2 : m ≤ 65536 := by omega
    have HNP : Hid (NameP name) := Lib.hid (Classical.byContradiction fun h => by have := nameB_false h; rw [hnb] at this; cases this)
    rw [hnb] at C0
    clear hbig hnb
    have HBX := Lib.hid (Blk.new w 25 [.string name, .slice A n ca, .slice B m cb])
    go_enter Tryd.func9, Tryd.ntmps9
    go_upto_region 5 with (go_at_call 29; with_reducible refine C0.mono ?_; rintro e w' ⟨rfl, rfl⟩)
    clear hmm C0
    have HB1 := Lib.hid (below2 w (.cells #[.string name, .slice A n ca, .slice B m cb] 25) (.map #[] 0))
    have HX1 := Lib.hid (HBX.out.alloc (.map #[] 0))
    have HM1 : Hid (MapIs ((w.alloc (.cells #[.string name, .slice A n ca, .slice B m cb] 25)).alloc (.map #[] 0)) (w.heap.size + 1) 0 (cntN gs 0)) := Lib.hid (by
      have := MapIs.made (w.alloc (.cells #[.string name, .slice A n ca, .slice B m cb] 25))
      have e : cntN gs 0 = fun _ => 0 := by funext s; simp [cntN]
      rw [e]
      simpa using this)
    change Code.wp _ _ _ _ ((w.alloc (.cells #[.string name, .slice A n ca, .slice B m cb] 25)).alloc (.map #[] 0))
    generalize (w.alloc (.cells #[.string name, .slice A n ca, .slice B m cb] 25)).alloc (.map #[] 0) = W2 at *
    clear HBX
    obtain ⟨bx, hbx⟩ : ∃ bx, w.heap.size = bx := ⟨_, rfl⟩
    rw [hbx] at HX1 HM1 ⊢
    have HBS := Lib.hid hbx
    clear hbx
    go_loopw [31] (fun s31 wr => ∃ k : Nat, k ≤ n ∧ s31 = .int .i64 k ∧ Hid (MapIs wr (bx + 1) k (cntN gs k)) ∧ Hid (((gs.take k).map Gt.name).Nodup ∧ LinesP n (gs.take k)) ∧ Hid (Blk wr bx 25 [.string name, .slice A n ca, .slice B m cb]) ∧ Hid (Below w.heap.size w wr)) (fun i _ => n - (intOf i).toNat)
    case atStart => exact ⟨0, by omega, rfl, HM1, Lib.hid ⟨by simp, fun g hg => by simp at hg⟩, HX1, HB1⟩
    case round =>
      clear HM1 HX1 HB1
      obtain ⟨k, hk, rfl, HMP, HG, HX, HB⟩ := hrel
      by_cases hlt : k < n
      · obtain ⟨g, hg⟩ : ∃ g, gs[k]? = some g := ⟨_, List.getElem?_eq_getElem (by rw [HN.out]; exact hlt)⟩
        obtain ⟨ab, ao, rfl, hc⟩ := greads_at HA.out hg
        obtain ⟨c0, c1, c2, c3, c4, c5⟩ := hc.below HB.out
        have HGG := Lib.hid hg
        have hsz := HS.out.names g (List.mem_of_getElem? hg)
        have HSZ := Lib.hid hsz
        obtain ⟨kd, nm, op, a, b, cx⟩ := g
        dsimp only at *
        have hbl1 := below1 wr (.cells #[.int .i64 kd, .string nm, .int .i64 op, .int .i64 a, .int .i64 b, .int .i64 cx] 46)
        have HGB := Lib.hid (Blk.new wr 46 [.int .i64 kd, .string nm, .int .i64 op, .int .i64 a, .int .i64 b, .int .i64 cx])
        have hM1 := HMP.out.below hbl1
        have hlook := hM1.look hsz
        have HX1 := Lib.hid (HX.out.self hbl1)
        have HB1 := Lib.hid (HB.out.alloc HB.out.size (.cells #[.int .i64 kd, .string nm, .int .i64 op, .int .i64 a, .int .i64 b, .int .i64 cx] 46))
        obtain ⟨D, hD1, hD2, hD3⟩ := hM1
        have HD1 := Lib.hid hD1; have HD2 := Lib.hid hD2; have HD3 := Lib.hid hD3
        have hx0 := cntN_nn gs k nm
        have hx1 := cntN_le gs k nm
        have hmlt := HMP.out.lt
        obtain ⟨x, hx⟩ : ∃ x, cntN gs k nm = x := ⟨_, rfl⟩
        rw [hx] at hlook hx0 hx1
        have HXX := Lib.hid hx
        have hkey := keyOf_string_mk (P := Tryd.prog) Tryd.underlying9 hsz
        have HKEY := Lib.hid hkey
        clear hg hc hx hD1 hD2 hD3 hkey hsz hbl1
        go_upto_region 7 with (fail)
        go_upto_region 8 with (at_mapUpdate; refine wpList_mapUpdate_own _ rfl _ _ _ 65 rfl 9 3 slaw Tryd.underlying65 _ (bx + 1) k D rfl HD1.out (by unfold maxLen; omega) _ _ _ rfl rfl HKEY.out _ [] (plainElem_int Tryd.underlying3 (WalkArith.wf_i64 (by omega))) ?_; intro w2 hown2 hgrow2)
        have hM2 : MapIs w2 (bx + 1) (k + 1) (cntN gs (k + 1)) := by
          have := MapIs.put HD2.out HD3.out hown2
          rw [← HXX.out] at this
          rw [cntN_step HGG.out]
          exact this
        have hx2 : cntN gs (k + 1) nm = x + 1 := by rw [cntN_step HGG.out, ← HXX.out]; simp
        have hlook2 := hM2.look HSZ.out
        rw [hx2] at hlook2
        have HND := Lib.hid (cntN_nodup HGG.out HG.out.1)
        have HX22 := Lib.hid hx2
        have HM2 := Lib.hid hM2
        have HX2 := Lib.hid (HX1.out.grown hgrow2 (fun e => by have := Option.some.inj e; omega))
        have hg2 := HGB.out.grown hgrow2 (fun e => by have := Option.some.inj e; omega)
        have HB2 := Lib.hid (HB1.out.grown hgrow2 HB1.out.size (fun g e => by have := Option.some.inj e; have := HBS.out; omega))
        obtain ⟨c0, c1, c2, c3, c4, c5⟩ := gblk (g := ⟨kd, nm, op, a, b, cx⟩) hg2
        have x1 : w2.cell? ⟨bx, 1, none⟩ = some (.slice (some ⟨ab, ao, none⟩) n ca) := (HX2.out.cell 1).trans rfl
        have C1 := CN.out nm w2 HSZ.out
        have C2 : Calls Tryd.prog 30 #[.agg #[.int .i64 kd, .string nm, .int .i64 op, .int .i64 a, .int .i64 b, .int .i64 cx], .int .i64 n] w2 fun e w' => e = .returned (.bool (fieldsB ⟨kd, nm, op, a, b, cx⟩ (n : Int))) ∧ Below w2.heap.size w2 w' := fields_any ⟨kd, nm, op, a, b, cx⟩ n w2
        obtain ⟨ob, hob⟩ : ∃ ob, wr.heap.size = ob := ⟨_, rfl⟩
        dsimp only at c0 c1 c2 c3 c4 c5
        rw [hob] at c0 c1 c2 c3 c4 c5 ⊢
        obtain ⟨nb, hnb⟩ : ∃ nb, nameB nm = nb := ⟨_, rfl⟩
        obtain ⟨fb, hfb⟩ : ∃ fb, fieldsB ⟨kd, nm, op, a, b, cx⟩ (n : Int) = fb := ⟨_, rfl⟩
        rw [hnb] at C1
        rw [hfb] at C2
        have HNB := Lib.hid hnb
        have HFB := Lib.hid hfb
        clear hM2 hx2 hg2 hown2 hgrow2 hlook HMP HX HB HGB HX1 HB1 HD1 HD2 HD3 HKEY hob hnb hfb hmlt
        by_cases hbad : nb = false ∨ 1 < x + 1 ∨ fb = false
        · have HF : Hid (formedB ⟨name, gs, outs⟩ = false) := Lib.hid (formedB_false fun h => by
            rcases hbad with h1 | h1 | h1
            · have := nameB_true (h.lines_at HGG.out).1
              dsimp only at this
              rw [HNB.out, h1] at this
              cases this
            · have := HND.out.1 (nodup_take h.nd (k + 1))
              dsimp only at this
              rw [HX22.out] at this
              omega
            · have h2 := (h.lines_at HGG.out).2
              dsimp only at h2
              rw [HN.out] at h2
              have : fieldsB ⟨kd, nm, op, a, b, cx⟩ (n : Int) = true := by simp [fieldsB, h2]
              rw [HFB.out, h1] at this
              cases this)
          cases nb
          · clear hbad
            go_wp2_with (first | (go_at_call 29; with_reducible refine C1.mono ?_; rintro e w' ⟨rfl, rfl⟩))
            go_ret
            exact ⟨ret_bool HF.out.symm, HB2.out⟩
          · by_cases h1 : 1 < x + 1
            · clear hbad
              go_wp2_with (first | (go_at_call 29; with_reducible refine C1.mono ?_; rintro e w' ⟨rfl, rfl⟩))
              go_ret
              exact ⟨ret_bool HF.out.symm, HB2.out⟩
            · cases fb
              · clear hbad
                have h1' : x + 1 ≤ 1 := by omega
                clear h1
                go_wp2_with (first | (go_at_call 29; with_reducible refine C1.mono ?_; rintro e w' ⟨rfl, rfl⟩) | (go_at_call 30; with_reducible refine C2.mono ?_; rintro e w5 ⟨rfl, hb5⟩))
                go_ret
                exact ⟨ret_bool HF.out.symm, below_then HB2.out HB2.out.size hb5⟩
              · exfalso
                simp at hbad
                omega
        · have h1 : x + 1 ≤ 1 := by omega
          have hnb : nb = true := by
            cases nb
            · exact absurd (.inl rfl) hbad
            · rfl
          have hfb : fb = true := by
            cases fb
            · exact absurd (.inr (.inr rfl)) hbad
            · rfl
          subst hnb hfb
          have HGn : Hid (((gs.take (k + 1)).map Gt.name).Nodup ∧ LinesP n (gs.take (k + 1))) := Lib.hid (by
            refine ⟨HND.out.2 (by rw [HX22.out]; exact h1), fun g hg => ?_⟩
            rw [List.take_add_one, HGG.out, List.mem_append] at hg
            rcases hg with hg | hg
            · exact HG.out.2 g hg
            · simp at hg
              subst hg
              refine ⟨Classical.byContradiction fun h => ?_, Classical.byContradiction fun h => ?_⟩
              · have := nameB_false h
                dsimp only at this
                rw [HNB.out] at this
                cases this
              · have : fieldsB ⟨kd, nm, op, a, b, cx⟩ (n : Int) = false := by simp [fieldsB, h]
                rw [HFB.out] at this
                cases this)
          clear hbad HG
          go_wp2_with (first | (go_at_call 29; with_reducible refine C1.mono ?_; rintro e w' ⟨rfl, rfl⟩) | (go_at_call 30; with_reducible refine C2.mono ?_; rintro e w5 ⟨rfl, hb5⟩))
          go_roundw
          case rel => exact ⟨k + 1, by omega, by go_num, Lib.hid (HM2.out.below hb5), HGn, Lib.hid (HX2.out.self hb5), Lib.hid (below_then HB2.out HB2.out.size hb5)⟩
          case measure => simp [intOf]; omega
      · obtain rfl : k = n := by omega
        have HL : Hid ((gs.map Gt.name).Nodup ∧ LinesP k gs) := Lib.hid (by
          have := HG.out
          rw [List.take_of_length_le (by rw [HN.out]; exact Nat.le_refl _)] at this
          exact this)
        have x1 : wr.cell? ⟨bx, 1, none⟩ = some (.slice A k ca) := (HX.out.cell 1).trans rfl
        have x2 : wr.cell? ⟨bx, 2, none⟩ = some (.slice B m cb) := (HX.out.cell 2).trans rfl
        clear HG HMP hlt hk
        go_upto_region 12 with (fail)
        go_loop [63] (fun s63 => ∃ i : Nat, i ≤ m ∧ s63 = .int .i64 i ∧ Hid (∀ (j : Nat) (p : Int), j < i → outs[j]? = some p → 0 ≤ p ∧ p < (k : Int))) (fun s63 => m - (intOf s63).toNat)
        case atStart => exact ⟨0, by omega, rfl, Lib.hid (fun j p hj => by omega)⟩
        case round =>
          obtain ⟨i, hi, rfl, HO⟩ := hrel
          by_cases hlt : i < m
          · obtain ⟨p, hp⟩ : ∃ p, outs[i]? = some p := ⟨_, List.getElem?_eq_getElem (by rw [HM.out]; exact hlt)⟩
            obtain ⟨ob, oo, rfl, hc⟩ := HBR.out.at_ hp
            have d0 := cell_kept HB.out hc
            have hi0 : (0 : Int) ≤ (i : Int) := by omega
            have him : (i : Int) < (m : Int) := by omega
            have HPP := Lib.hid hp
            clear hp hc
            by_cases hbad : p < 0 ∨ (k : Int) ≤ p
            · have HF : Hid (formedB ⟨name, gs, outs⟩ = false) := Lib.hid (formedB_false fun h => by
                have := h.outs p (List.mem_of_getElem? HPP.out)
                dsimp only at this
                rw [HN.out] at this
                omega)
              by_cases hp0 : p < 0
              · clear hbad
                go_wp2
                go_ret
                exact ⟨ret_bool HF.out.symm, HB.out⟩
              · have hp1 : (k : Int) ≤ p := by omega
                have hp2 : 0 ≤ p := by omega
                clear hbad hp0
                go_wp2
                go_ret
                exact ⟨ret_bool HF.out.symm, HB.out⟩
            · have hp1 : p < (k : Int) := by omega
              have hp2 : 0 ≤ p := by omega
              have HOn : Hid (∀ (j : Nat) (q : Int), j < i + 1 → outs[j]? = some q → 0 ≤ q ∧ q < (k : Int)) := Lib.hid (fun j q hj hq => by
                rcases Nat.lt_or_ge j i with h1 | h1
                · exact HO.out j q h1 hq
                · rw [show j = i by omega, HPP.out] at hq
                  cases hq
                  exact ⟨hp2, hp1⟩)
              clear hbad HO
              go_wp2
              go_round
              case rel => exact ⟨i + 1, by omega, by go_num, HOn⟩
              case measure => simp [intOf]; omega
          · obtain rfl : i = m := by omega
            have HOP : Hid (OutsP k outs) := Lib.hid (fun p hp => by
              obtain ⟨j, hj⟩ := List.getElem?_of_mem hp
              exact HO.out j p (by rw [← HM.out]; exact (List.getElem?_eq_some_iff.1 hj).1) hj)
            have hin : InR gs := LinesP.inR (by rw [HN.out]; exact HL.out.2)
            have hcall : Calls Tryd.prog 31 #[.slice A k ca] wr.drew fun e w' => ∃ v L, e = .returned v ∧ Owns w' wr.drew.heap.size 3 v (ints L) ∧ IsOrder gs.length (lnsOf gs) L ∧ Below wr.drew.heap.size wr.drew w' := order_any A k ca gs wr.drew ((HA.out.below HB.out).drew) HN.out hin hn2
            have HKP : Hid (∀ W, Below wr.drew.heap.size wr.drew W → W.cell? ⟨bx, 1, none⟩ = some (.slice A k ca)) := Lib.hid (fun W hb => cell_kept hb (show wr.drew.cell? ⟨bx, 1, none⟩ = _ from x1))
            have HBd := Lib.hid (below_drew0 HB.out)
            have HIN := Lib.hid hin
            clear HO hin hlt hi
            go_upto_region 17 with (fail)
            go_cut [2] (fun s2 wx => ∃ L : List Nat, s2 = .bool (decide (L.length = k)) ∧ Hid (IsOrder k (lnsOf gs) L) ∧ Hid (Below w.heap.size w wx))
            case first =>
              go_region_held3 (fun w' => w'.cell? ⟨bx, 1, none⟩ = some (.slice A k ca)) (first | exact x1 | exact q8) (first | ((go_at_call 31; with_reducible refine hcall.mono ?_; rintro e W8 ⟨v8, L, rfl, hO8, hI8, hB8⟩; have q8 := HKP.out W8 hB8; obtain ⟨A8, c8, hv8⟩ := hO8.form; rw [ints_length] at hv8; subst hv8; have HI8 := Lib.hid hI8; have HB8 := Lib.hid (below_then HBd.out HBd.out.size hB8); clear hO8 hI8 hB8)))
              all_goals
                go_wp2_with fail
                go_meet
                refine ⟨L, ?_, Lib.hid (by rw [← HN.out]; exact HI8.out), HB8⟩
                congr 1
                rw [Bool.eq_iff_iff]
                simp
                try omega
            obtain ⟨L, rfl, HIS, HBX⟩ := hcut
            go_wp2
            go_ret
            refine ⟨ret_bool ?_, HBX.out⟩
            have hall := order_all HIS.out (by have := HIN.out.lt; rwa [HN.out] at this)
            rw [Bool.eq_iff_iff]
            simp only [decide_eq_true_eq, formedB]
            rw [hall]
            constructor
            · intro hf
              exact ⟨HNP.out, by dsimp only; rw [HN.out]; exact hn2, by dsimp only; rw [HM.out]; exact hm2, by dsimp only; rw [HN.out]; exact HL.out.2, HL.out.1, by dsimp only; rw [HN.out]; exact HOP.out, by unfold AllFree; dsimp only; rw [HN.out]; exact hf⟩
            · intro h
              have := h.free
              unfold AllFree at this
              dsimp only at this
              rwa [HN.out] at this
end Go.Proofs.YtjkmoahnociaiaaDoor
