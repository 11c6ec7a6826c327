/- comes of the document: does one come back to a line? -/
import Derived.Test.YtjkmoahnociaiaaDoorX8
namespace Go.Proofs.YtjkmoahnociaiaaDoor
open Go.RowKit

/-- What comes answers. -/
def ComesR (w : World) (f : Nat → List Nat) (place : Nat) (e : Ending) (w' : World) : Prop := ∃ b : Bool, e = .returned (.bool b) ∧ (b = true ↔ Way f place place) ∧ Below w.heap.size w w'
theorem unmet_rep (n : Nat) : unmet (List.replicate n false) = n := by simp [unmet]
set_option maxRecDepth 100000 in
set_option maxHeartbeats 4000000 in
theorem comes_any (A : Option Addr) (n c : Nat) (gs : List Gt) (B : Option Addr) (cb : Nat) (left : List Bool) (place : Nat) (w : World) (hr : CReads w A (gcells gs)) (hl : gs.length = n) (hin : InR gs) (hmax : n ≤ 65536) (hb : CReads w B (bools left)) (hbl : left.length = n) (hp : place < n)
    (hleft : ∀ i, i < n → ¬ Free (lnsOf gs) i → left[i]? = some true) :
    Calls Tryd.prog 56 #[.slice A n c, .slice B n cb, .int .i64 place] w (ComesR w (lnsOf gs) place) := by
  have HR := Lib.hid hr; have HL := Lib.hid hl; have HI := Lib.hid hin; have HBR := Lib.hid hb; have HBL := Lib.hid hbl; have HLF := Lib.hid hleft
  have hm1 := run_makeRep (P := Tryd.prog) Tryd.underlying96 info_bool rfl n (by omega) (by omega)
  have HM0 := Lib.hid (dmem_start w n (by unfold maxLen; omega) place)
  have HB0 := Lib.hid (below2 w (.cells (List.replicate n (Value.bool false)).toArray 4) (.cells [Value.int .i64 (place : Int)].toArray 3))
  have HC0 := Lib.hid (Comes.start (n := n) (f := lnsOf gs) (left := left) (place := place))
  have HInL : Hid (∀ i, i < n → ∀ p ∈ lnsOf gs i, p < n) := Lib.hid (by have := hin.lt; rwa [hl] at this)
  clear hr hl hin hb hbl hleft
  go_enter Tryd.func56, Tryd.ntmps56
  go_upto_region 3 with (fail)
  change Code.wp _ _ _ _ ((w.alloc (.cells (List.replicate n (Value.bool false)).toArray 4)).alloc (.cells [Value.int .i64 (place : Int)].toArray 3))
  generalize (w.alloc (.cells (List.replicate n (Value.bool false)).toArray 4)).alloc (.cells [Value.int .i64 (place : Int)].toArray 3) = W2 at *
  clear hm1
  go_loopg [8] (2 * n + 1) (fun r vk wr => ∃ (met : List Bool) (work : List Nat), r ≤ 2 * n + 1 ∧ Hid (2 * unmet met + work.length ≤ r) ∧ Hid (DMem wr w.heap.size n vk met work []) ∧ Hid (Comes n (lnsOf gs) left place met work n 0) ∧ Hid (Below w.heap.size w wr))
  case atStart => exact ⟨_, _, by omega, Lib.hid (by rw [unmet_rep]; simp), HM0, HC0, HB0⟩
  case round =>
    clear HM0 HC0 HB0
    obtain ⟨met, work, hgk, HG, HM, HC, HB⟩ := hrel
    rcases List.eq_nil_or_concat work with rfl | ⟨work, p, rfl⟩
    · obtain ⟨A8, c8, hv8⟩ := HM.out.owns.form
      simp only [ints, List.map_nil, List.length_nil] at hv8
      subst hv8
      have HN := Lib.hid (HC.out.fin hp HInL.out HLF.out)
      go_wp2
      go_ret
      exact ⟨false, rfl, by simp [HN.out], HB.out⟩
    · rw [List.concat_eq_append] at HG HM HC
      obtain ⟨A8, c8, hv8⟩ := HM.out.owns.form
      rw [ints_length, List.length_append, List.length_singleton] at hv8
      subst hv8
      obtain ⟨q, hq⟩ : ∃ q, work.length = q := ⟨_, rfl⟩
      rw [hq] at HM ⊢
      have HQ := Lib.hid hq
      have hcap := HM.out.owns.cap
      obtain ⟨g8, rfl, d8⟩ := HM.out.at_ (j := q) (x := p) (by rw [List.getElem?_append_right (by omega), hq]; simp)
      have hpm := HC.out.wm p (by simp)
      have hpn : p < n := by
        rcases hpm with h | h
        · omega
        · rw [← HC.out.ml]; exact (List.getElem?_eq_some_iff.1 h).1
      have HPM := Lib.hid hpm
      have HMp := Lib.hid (HM.out.pop hq)
      have HCp := Lib.hid (HC.out.pop hp)
      have HGp : Hid (2 * unmet met + work.length < gk) := Lib.hid (by have := HG.out; simp at this; omega)
      have hp0 : (0 : Int) ≤ (p : Int) := by omega
      have hpn' : (p : Int) < (n : Int) := by omega
      have hq0 : (0 : Int) ≤ (q : Int) := by omega
      have hqc : (q : Int) ≤ (c8 : Int) := by have := hcap.1; omega
      have hqb : q ≤ 200000 := by have := HGp.out; omega
      obtain ⟨g, hg⟩ : ∃ g, gs[p]? = some g := ⟨_, List.getElem?_eq_getElem (by rw [HL.out]; exact hpn)⟩
      obtain ⟨ab, ao, rfl, hc⟩ := greads_at HR.out hg
      obtain ⟨c0, c1, c2, c3, c4, c5⟩ := hc.below HB.out
      have HGG := Lib.hid hg
      have hcall : ∀ W, Calls Tryd.prog 69 #[.agg #[.int .i64 g.kind, .string g.name, .int .i64 g.op, .int .i64 g.a, .int .i64 g.b, .int .i64 g.c]] W fun e w' => e = .returned (.tuple #[.int .i64 g.leans.length, .agg (nums .i64 g.arr).toArray]) ∧ Below W.heap.size W w' := fun W => leans_ref g W
      obtain ⟨x0, x1, x2, harr⟩ : ∃ x0 x1 x2, g.arr = [x0, x1, x2] := by unfold Gt.arr; split; exact ⟨_, _, _, rfl⟩; split <;> exact ⟨_, _, _, rfl⟩
      rw [harr] at hcall
      have hm3 := leans_le g
      obtain ⟨m, hm⟩ : ∃ m, g.leans.length = m := ⟨_, rfl⟩
      rw [hm] at hcall hm3
      have HMM := Lib.hid hm
      have HARR := Lib.hid harr
      clear hg hc hm harr hq hcap hpm HM HC HG
      change ∀ W, Calls Tryd.prog 69 #[.agg #[.int .i64 g.kind, .string g.name, .int .i64 g.op, .int .i64 g.a, .int .i64 g.b, .int .i64 g.c]] W fun e w' => e = .returned (.tuple #[.int .i64 m, .agg #[.int .i64 x0, .int .i64 x1, .int .i64 x2]]) ∧ Below W.heap.size W w' at hcall
      go_upto_region 7 with (go_at_call 69; with_reducible refine (hcall _).mono ?_; rintro e W3 ⟨rfl, hB3⟩)
      have HO3 : Hid (Blk (W3.alloc (.cells #[.int .i64 x0, .int .i64 x1, .int .i64 x2] 116)) W3.heap.size 116 (nums .i64 g.arr)) := Lib.hid (by rw [HARR.out]; exact Blk.new W3 116 [.int .i64 x0, .int .i64 x1, .int .i64 x2])
      have HM3 := Lib.hid ((HMp.out.below hB3).below (below1 W3 (.cells #[.int .i64 x0, .int .i64 x1, .int .i64 x2] 116)))
      have hb3 := below_then HB.out HB.out.size hB3
      have HB3 := Lib.hid (hb3.alloc hb3.size (.cells #[.int .i64 x0, .int .i64 x1, .int .i64 x2] 116))
      change Code.wp _ _ _ _ (W3.alloc (.cells #[.int .i64 x0, .int .i64 x1, .int .i64 x2] 116))
      generalize W3.alloc (.cells #[.int .i64 x0, .int .i64 x1, .int .i64 x2] 116) = W4 at *
      generalize W3.heap.size = ob at *
      clear hcall HMp HB hB3 hb3 c0 c1 c2 c3 c4 c5 HARR d8 HQ
      go_upto_region 8 with (fail)
      go_loopw [8, 12] (fun vk s12 wr => ∃ (j : Nat) (met : List Bool) (work : List Nat), j ≤ m ∧ s12 = .int .i64 j ∧ Hid (2 * unmet met + work.length < gk) ∧ Hid (DMem wr w.heap.size n vk met work []) ∧ Hid (Comes n (lnsOf gs) left place met work p j) ∧ Hid (p = place ∨ met[p]? = some true) ∧ Hid (Blk wr ob 116 (nums .i64 g.arr)) ∧ Hid (Below w.heap.size w wr)) (fun _ s12 _ => m - (intOf s12).toNat)
      case atStart => exact ⟨0, met, work, by omega, rfl, HGp, HM3, HCp, HPM, HO3, HB3⟩
      case round =>
        clear HGp HM3 HCp HPM HO3 HB3 hqb hqc hq0
        obtain ⟨j, met, work, hj, rfl, HGp, HM, HC, HPM, HO, HB⟩ := hrel
        by_cases hjm : j < m
        · obtain ⟨v, hv1, hv2, hv3⟩ := HI.out.at_ HGG.out (j := j) (by rw [HMM.out]; exact hjm)
          have hvn : v < n := by have := HL.out; omega
          have e0 : wr.cell? ⟨ob, j, none⟩ = some (.int .i64 (v : Int)) := (HO.out.cell j).trans (by rw [nums_get, arr_at hv1]; rfl)
          have HV := Lib.hid hv2
          have HV1 := Lib.hid hv1
          have hj0 : (0 : Int) ≤ (j : Int) := by omega
          have hj3 : (j : Int) < 3 := by omega
          have hjm' : (j : Int) < (m : Int) := by omega
          have hv0 : (0 : Int) ≤ (v : Int) := by omega
          have hvn' : (v : Int) < (n : Int) := by omega
          clear hv1 hv2 hv3
          by_cases hvp : v = place
          · have e1 : ((v : Int) == (place : Int)) = true := by simp [hvp]
            have e2 : (v == place) = true := by simp [hvp]
            have HW : Hid (Way (lnsOf gs) place place) := Lib.hid (by have := HC.out.way HPM.out HV.out; rwa [hvp] at this)
            clear hvp
            go_wp2
            go_ret
            exact ⟨true, rfl, by simp [HW.out], HB.out⟩
          · have e1 : ((v : Int) == (place : Int)) = false := by simp; omega
            have e2 : (v == place) = false := by simp [hvp]
            have HNE := Lib.hid hvp
            obtain ⟨lb, hlb⟩ : ∃ lb, left[v]? = some lb := ⟨_, List.getElem?_eq_getElem (by rw [HBL.out]; exact hvn)⟩
            obtain ⟨mb, hmb⟩ : ∃ mb, met[v]? = some mb := ⟨_, List.getElem?_eq_getElem (by rw [HC.out.ml]; exact hvn)⟩
            obtain ⟨bb, bo, rfl, hbc⟩ := HBR.out.at_ (bools_get hlb)
            have l0 := cell_kept HB.out hbc
            obtain ⟨m0, z0, hset⟩ := HM.out.metP hmb
            have HLB := Lib.hid hlb
            have HMB := Lib.hid hmb
            have HSET := Lib.hid hset
            clear hvp hlb hmb hbc hset
            by_cases hsk : lb = true ∧ mb = false
            · obtain ⟨rfl, rfl⟩ := hsk
              have HS := Lib.hid (HSET.out true)
              have HCn := Lib.hid (HC.out.new HPM.out HV.out HNE.out HLB.out HMB.out)
              have HGn : Hid (2 * unmet (met.set v true) + (work ++ [v]).length < gk) := Lib.hid (by
                have h1 := unmet_set HMB.out
                have h2 := HGp.out
                simp
                omega)
              have hwl : work.length ≤ 200000 := by have := HGp.out; omega
              have HPn : Hid (p = place ∨ (met.set v true)[p]? = some true) := Lib.hid (by
                rcases HPM.out with h | h
                · exact .inl h
                · exact .inr ((met_set (List.getElem?_eq_some_iff.1 HMB.out).1).2 (.inr h)))
              have hfar := HM.out.far HO.out.typed (by decide) (by decide)
              have HOn := Lib.hid (HO.out.far (p := ⟨w.heap.size, v, none⟩) hfar.1 (.bool true))
              have HBs := Lib.hid (HB.out.setCell (p := ⟨w.heap.size, v, none⟩) (Nat.le_refl _) (.bool true))
              clear HSET HM HC HGp HPM HB HO hfar
              go_upto_region 14 with (fail)
              generalize wr.setCell ⟨w.heap.size, v, none⟩ (.bool true) = W5 at *
              clear m0 z0 l0 e0
              have e0 : W5.cell? ⟨ob, j, none⟩ = some (.int .i64 (v : Int)) := (HOn.out.cell j).trans (by rw [nums_get, arr_at HV1.out]; rfl)
              have HS2 := Lib.hid (HS.out.below (below1 W5 (.cells [Value.int .i64 (v : Int)].toArray 3)))
              have HBs2 := Lib.hid (HBs.out.alloc HBs.out.size (.cells [Value.int .i64 (v : Int)].toArray 3))
              have HOn2 := Lib.hid (HOn.out.alloc (.cells [Value.int .i64 (v : Int)].toArray 3))
              have hO2 := Lib.hid HS2.out.owns
              have hull : (ints work).length + 1 ≤ 400000 := by rw [ints_length]; omega
              go_upto_region 9 with (at_builtin; refine wpList_push2 rfl _ _ 23 rfl w.heap.size 3 _ 8 Tryd.underlying23 info_int rfl u8 (ints work) rfl hO2.out ⟨W5.heap.size, 0, none⟩ (.int .i64 (v : Int)) rfl (by simp [go_sem]) rfl (by unfold maxLen; omega) (by omega) (by simp; have := HBs.out.size; omega) ?_; intro v5 w5 hown5 hg5 hb5; have HM5 := Lib.hid (HS2.out.push hown5 hg5 hb5); have HB5 := Lib.hid (HBs2.out.grown hg5 HBs2.out.size (fun g hv => (hO2.out.lt hv).1)); have HO5 := Lib.hid (HOn2.out.grown hg5 (HS2.out.far HOn2.out.typed (by decide) (by decide)).2); clear hown5 hg5 hb5)
              clear HS HBs HOn HS2 HBs2 HOn2 hO2 e0
              go_wp2
              go_roundw
              case rel => exact ⟨j + 1, _, _, by omega, by go_num, HGn, HM5, HCn, HPn, HO5, HB5⟩
              case measure => simp [intOf]; omega
            · have HCn := Lib.hid (HC.out.old HV.out HNE.out (fun h => by
                rw [HLB.out] at h
                cases h
                rw [HMB.out]
                cases mb
                · exact absurd ⟨rfl, rfl⟩ hsk
                · rfl))
              cases lb
              · clear hsk HSET HC
                go_wp2
                go_roundw
                case rel => exact ⟨j + 1, _, _, by omega, by go_num, HGp, HM, HCn, HPM, HO, HB⟩
                case measure => simp [intOf]; omega
              · cases mb
                · exact absurd ⟨rfl, rfl⟩ hsk
                · clear hsk HSET HC
                  go_wp2
                  go_roundw
                  case rel => exact ⟨j + 1, _, _, by omega, by go_num, HGp, HM, HCn, HPM, HO, HB⟩
                  case measure => simp [intOf]; omega
        · obtain rfl : j = m := by omega
          have HCn := Lib.hid (HC.out.done (by rw [lns_length HGG.out, HMM.out]; exact Nat.le_refl _) 0)
          clear HC HO
          go_wp2
          go_roundg (2 * unmet met + work.length)
          case measure => exact HGp.out
          case rel => exact ⟨met, work, by have := HGp.out; omega, Lib.hid (Nat.le_refl _), HM, HCn, HB⟩
end Go.Proofs.YtjkmoahnociaiaaDoor
