/- CircuitBlind: the law's text answers true. -/
import Derived.Test.YtjkmoahnociaiaaB3
import Derived.Test.YtjkmoahnociaiaaBP
namespace Go.Proofs.Ytjkmoahnociaiaa
open Go.RowKit

theorem Shuf.size {c D : Ct} {at_ inv : Nat → Nat} (h : Shuf c at_ inv D) (hM : MadeC c) : SizeP D :=
  ⟨by rw [h.name]; exact hM.size.name, fun d hd => by
    obtain ⟨j, hj⟩ := List.getElem?_of_mem hd
    obtain ⟨g, hg, rfl, _⟩ := h.back hj
    exact hM.size.names g (List.mem_of_getElem? hg), by rw [h.len]; exact hM.size.gl, by rw [h.outs, List.length_map]; exact hM.size.ol⟩
/-- A list's rows are as they were beside a write into a line of a circuit. -/
theorem VH.gate {w w' : World} {base g : Nat} {v : Value} {R : List LR} (h : VH w base v R) (hg : Typed w g 33) (hb : w.grownBy w' (some g)) : VH w' base v R :=
  Hold.aside h hb (fun z e => by cases e; exact hg) (vh_types (by decide) (by decide))
set_option maxRecDepth 100000 in
set_option maxHeartbeats 8000000 in
theorem blind_any (I : List LR) (xs hs : List Int) (AC AH AS : Option Addr) (L nh N lc ch sc : Nat) (w : World) (hC : Reads w .i64 AC xs) (hL : xs.length = L) (hx : ∀ x ∈ xs, Big x) (hm : L ≤ 1000000000000000) (hH : Reads w .i64 AH hs) (hnh : hs.length = nh) (hhb : ∀ x ∈ hs, Big x) (hh : nh ≤ 1000000000000000) (hI : CReads w AS (I.map LR.v)) (hr : ∀ r ∈ I, CReads w r.A (bools r.xs)) (hN : I.length = N) (hN1 : N * 24 ≤ 140737488355328) :
    Calls Try.prog 7 #[.slice AC L lc, .slice AH nh ch, .slice AS N sc] w fun e w' => e = .returned (.bool true) ∧ Below w.heap.size w w' := by
  have hmade := made_any AC L lc xs w hC hL hx hm
  unfold MadeR at hmade
  have HI := Lib.hid hI; have HR := Lib.hid hr; have HIN := Lib.hid hN
  have HH := Lib.hid hH; have HNH := Lib.hid hnh; have HHB := Lib.hid hhb
  clear hC hx hI hr hN hL hH hnh hhb
  go_enter Try.func7, Try.ntmps7
  go_upto_region 2 with (go_at_call 26; with_reducible refine hmade.mono ?_; rintro e w1 ⟨gs, outs, A, B, n, m, ca, cb, rfl, hM, hgl, hol, HA1, HO1, hb1, HGR1, HOR1⟩)
  change Code.wp _ _ _ _ (w1.alloc (.cells #[.string mname, .slice A n ca, .slice B m cb] 25))
  have hbl := below1 w1 (.cells #[.string mname, .slice A n ca, .slice B m cb] 25)
  have HX2 := Lib.hid (Blk.new w1 25 [.string mname, .slice A n ca, .slice B m cb])
  have HA2 := Lib.hid (HA1.out.below hbl)
  have HO2 := Lib.hid (HO1.out.below hbl)
  have HGR2 := Lib.hid (rows_below HGR1.out hbl)
  have HOR2 := Lib.hid (HOR1.out.below hbl)
  have HB2 := Lib.hid (below_then hb1 hb1.size hbl)
  have HMC := Lib.hid hM; have HGL := Lib.hid hgl; have HOL := Lib.hid hol
  have hn200 : n ≤ 200 := by rw [← hgl]; exact hM.le
  have hm200 : m ≤ 200 := by rw [← hol]; exact hM.ol
  clear hmade hbl HA1 HO1 HGR1 HOR1 hb1 hM hgl hol
  generalize w1.alloc (.cells #[.string mname, .slice A n ca, .slice B m cb] 25) = W2 at *
  obtain ⟨bc, hbc⟩ : ∃ bc, w1.heap.size = bc := ⟨_, rfl⟩
  rw [hbc] at HX2 ⊢
  clear hbc
  have HSZ := Lib.hid HMC.out.size
  have HFP := Lib.hid HMC.out.formed
  have hsh : Calls Try.prog 30 #[.agg #[.string mname, .slice A n ca, .slice B m cb], .slice AH nh ch] W2 fun e w' => ∃ at_ inv D A' B' ca' cb', e = .returned (.agg #[.string mname, .slice A' n ca', .slice B' m cb']) ∧ Shuf ⟨mname, gs, outs⟩ at_ inv D ∧ Hid (CReads w' A' (gcells D.gs)) ∧ Hid (Reads w' .i64 B' D.outs) ∧ Below W2.heap.size W2 w' :=
    shuffled_any ⟨mname, gs, outs⟩ HMC.out hs A B AH n m nh ca cb ch W2 HA2.out HO2.out (HH.out.below HB2.out) HGL.out HOL.out HNH.out HHB.out hh
  obtain ⟨q1, hq1⟩ : ∃ q, cntK gs 1 n = q := ⟨_, rfl⟩
  have hq1n : q1 ≤ 200 := by rw [← hq1]; exact Nat.le_trans (cntK_le _ _ _) hn200
  have HC1 : Hid (∀ W, Below W2.heap.size W2 W → Calls Try.prog 27 #[.agg #[.string mname, .slice A n ca, .slice B m cb], .int .i64 1] W fun e w' => e = .returned (.int .i64 q1) ∧ Below W.heap.size W w') := Lib.hid fun W hW => by
    have := lcount_any gs 1 mname A B n m ca cb W (HA2.out.below hW) HGL.out (by omega)
    rwa [hq1] at this
  have HKT : Hid (∀ W, Below W2.heap.size W2 W → W.cell? ⟨bc, 0, none⟩ = some (.string mname) ∧ W.cell? ⟨bc, 1, none⟩ = some (.slice A n ca) ∧ W.cell? ⟨bc, 2, none⟩ = some (.slice B m cb)) := Lib.hid fun W hW => ⟨((HX2.out.self hW).cell 0).trans rfl, ((HX2.out.self hW).cell 1).trans rfl, ((HX2.out.self hW).cell 2).trans rfl⟩
  have HQ1 := Lib.hid hq1
  clear hq1
  obtain ⟨x0, x1, x2⟩ := HKT.out W2 (Below.refl _ _)
  go_upto_region 3 with (go_at_call 30; with_reducible refine hsh.mono ?_; rintro e w3 ⟨at_, inv, D, A', B', ca', cb', rfl, hS, HA3, HO3, hb3⟩)
  change Code.wp _ _ _ _ (w3.alloc (.cells #[.string mname, .slice A' n ca', .slice B' m cb'] 25))
  have hbl := below1 w3 (.cells #[.string mname, .slice A' n ca', .slice B' m cb'] 25)
  have HXD := Lib.hid (Blk.new w3 25 [.string mname, .slice A' n ca', .slice B' m cb'])
  have HAD := Lib.hid (HA3.out.below hbl)
  have HOD := Lib.hid (HO3.out.below hbl)
  have HB3 := Lib.hid (below_self hb3 hbl)
  have HSH := Lib.hid hS
  clear hsh x0 x1 x2 hbl HA3 HO3 hb3 hS
  generalize w3.alloc (.cells #[.string mname, .slice A' n ca', .slice B' m cb'] 25) = W3 at *
  obtain ⟨bd, hbd⟩ : ∃ bd, w3.heap.size = bd := ⟨_, rfl⟩
  rw [hbd] at HXD ⊢
  clear hbd
  obtain ⟨x0, x1, x2⟩ := HKT.out W3 HB3.out
  have hc1 := HC1.out W3 HB3.out
  go_upto_region 6 with (go_at_call 27; with_reducible refine hc1.mono ?_; rintro e w5 ⟨rfl, hb4⟩)
  have HB35 := Lib.hid hb4
  have HB5 := Lib.hid (below_self HB3.out hb4)
  clear hc1 HC1 hb4 x0 x1 x2
  have HBW5 := Lib.hid (below_self HB2.out HB5.out)
  have HV0 : Hid (VH w5 w5.heap.size (.slice none 0 0) []) := Lib.hid (VH.start _ _)
  have HG0 : Hid (∀ r ∈ ([] : List LR), r.xs.length = q1) := Lib.hid (fun r h => by simp at h)
  have HW0 := Lib.hid (Below.refl w5.heap.size w5)
  go_loopw [10, 11] (fun s10 s11 wr => ∃ (k : Nat) (G : List LR), k ≤ N ∧ s11 = .int .i64 k ∧ G.length = k ∧ Hid (∀ r ∈ G, r.xs.length = q1) ∧ Hid (VH wr w5.heap.size s10 G) ∧ Hid (Below w5.heap.size w5 wr)) (fun _ s11 _ => N - (intOf s11).toNat)
  case atStart => exact ⟨0, [], by omega, rfl, rfl, HG0, HV0, HW0⟩
  case round =>
    clear HV0 HG0 HW0
    obtain ⟨k, G, hk, rfl, hGk, HG, HV, HB⟩ := hrel
    by_cases hlt : k < N
    · obtain ⟨r, hr⟩ : ∃ r, I[k]? = some r := ⟨_, List.getElem?_eq_getElem (by rw [HIN.out]; exact hlt)⟩
      have HBX := below_self HBW5.out HB.out
      obtain ⟨ib, io, rfl, l1⟩ := (HI.out.below HBX).at_ (x := r.v) (by rw [List.getElem?_map, hr]; rfl)
      unfold LR.v at l1
      obtain ⟨q, hq⟩ : ∃ q, r.xs.length = q := ⟨_, rfl⟩
      rw [hq] at l1
      have hc := fit_any r.A q r.c r.xs q1 wr ((HR.out r (List.mem_of_getElem? hr)).below HBX) hq (by omega)
      have hGl : (G.map LR.v).length = k := by rw [List.length_map]; exact hGk
      have hk0 : (0 : Int) ≤ (k : Int) := by omega
      have hkN : (k : Int) < (N : Int) := by omega
      clear hr hq HBX
      go_upto_region 7 with (first
        | ((go_at_call 28; with_reducible refine hc.mono ?_; rintro e w6 ⟨g6, rfl, ys, HYL, HO6, hb6⟩; have hgs := given_step HV.out hb6 HB.out.size HYL.out HO6.out; have HGS := Lib.hid hgs; have HVO := Lib.hid hgs.2.1; have HB6 := Lib.hid (below_self HB.out hb6); have HB7 := Lib.hid (HB6.out.alloc HB6.out.size (.cells [Value.slice (some ⟨g6, 0, none⟩) q1 q1].toArray 35)); clear hgs hc hb6 l1))
        | ((at_builtin; refine wpList_push2 rfl _ _ 43 rfl w5.heap.size 35 _ 24 Try.underlying43 info_bools rfl u10 _ rfl HVO.out ⟨w6.heap.size, 0, none⟩ (.slice (some ⟨g6, 0, none⟩) q1 q1) rfl (by simp [go_sem]) rfl (by rw [hGl]; unfold maxLen; omega) (by rw [hGl]; omega) (by exact HB7.out.size) ?_; intro v8 w8 hown8 hg8 hb8)))
      rw [← HGS.out.2.2.2] at hown8
      have HV8 := Lib.hid (VH.push HGS.out.1 hown8 hg8 hb8)
      have HB8 := Lib.hid (HB7.out.grown hg8 HB7.out.size (fun g e => (HVO.out.lt e).1))
      have HG8 : Hid (∀ r ∈ G ++ [(⟨some ⟨g6, 0, none⟩, q1, ys⟩ : LR)], r.xs.length = q1) := Lib.hid (fun r hr => by
        rcases List.mem_append.1 hr with hr | hr
        · exact HG.out r hr
        · simp at hr; subst hr; exact HYL.out)
      have hGk8 : (G ++ [(⟨some ⟨g6, 0, none⟩, q1, ys⟩ : LR)]).length = k + 1 := by rw [List.length_append, hGk]; rfl
      clear hown8 hg8 hb8 HGS HVO HB6 HB7 HO6 HYL hGl HG HV HB
      go_wp2
      go_roundw
      case rel => exact ⟨k + 1, _, by omega, by go_num, hGk8, HG8, HV8, HB8⟩
      case measure => simp [intOf]; omega
    · obtain rfl : k = N := by omega
      obtain ⟨Ag, cg, hvg⟩ := HV.out.vec.form
      rw [List.length_map, hGk] at hvg
      subst hvg
      obtain ⟨inss, hinss⟩ : ∃ inss, G.map LR.xs = inss := ⟨_, rfl⟩
      have hil : inss.length = k := by rw [← hinss, List.length_map]; exact hGk
      have hrc : runCode ⟨mname, gs, outs⟩ inss = 0 := runCode_ok HFP.out fun x hx => by
        rw [← hinss] at hx
        obtain ⟨r, hr, rfl⟩ := List.mem_map.1 hx
        rw [HG.out r hr]
        dsimp only
        rw [HGL.out]; exact HQ1.out.symm
      obtain ⟨xr, hxr⟩ : ∃ xr, runK ⟨mname, gs, outs⟩ inss k = xr := ⟨_, rfl⟩
      have hxl : xr.length = k := by rw [← hxr]; exact runK_length _ _ _
      have hb2 := below_self HB5.out HB.out
      have HVk := Lib.hid HV.out
      have HRUN : Hid (∀ (cc : Ct) (Ac Bc : Option Addr) (c1 c2 : Nat) (W : World), cc.name = mname → SizeP cc → cc.gs.length = n → cc.outs.length = m → runCode cc inss = 0 → runK cc inss k = xr → CReads W Ac (gcells cc.gs) → Reads W .i64 Bc cc.outs → VH W w5.heap.size (.slice Ag k cg) G → Calls Try.prog 23 #[.agg #[.string mname, .slice Ac n c1, .slice Bc m c2], .slice Ag k cg] W fun e w' => ∃ (R : List LR) (A5 : Option Addr) (c5 : Nat), e = .returned (.tuple #[.slice A5 k c5, .int .i64 0]) ∧ Hid (R.map LR.xs = xr) ∧ Hid (VH w' W.heap.size (.slice A5 k c5) R) ∧ Below W.heap.size W w') := Lib.hid fun cc Ac Bc c1 c2 W hname hs hgl hol hco hrk hA hB hv => by
        have hro : runO cc inss = xr := by unfold runO; rw [hco, if_pos rfl, hil, hrk]
        have h1 := Run_any cc G Ac Bc Ag n m k c1 c2 cg W hA hB (hv.list hGk) hv.rows hs hgl hol hGk hN1
        rw [hname] at h1
        refine h1.mono ?_
        intro e w' h
        rw [hinss] at h
        obtain ⟨R, A5, c5, he, hx, hh, hb⟩ := h.n hro hco hxl
        exact ⟨R, A5, c5, he, hx, hh, hb⟩
      have HXR := Lib.hid hxr
      have HIL := Lib.hid hil
      have HRC := Lib.hid hrc
      have hrun1 := HRUN.out ⟨mname, gs, outs⟩ A B ca cb wr rfl HSZ.out HGL.out HOL.out hrc hxr (HA2.out.below hb2) (HO2.out.below hb2) HVk.out
      have HBk := Lib.hid hb2
      have HBk3 := Lib.hid (below_self HB35.out HB.out)
      obtain ⟨x0, x1, x2⟩ := HKT.out wr HBk.out
      clear HV HB HG hinss hil hrc hxr hb2 hlt hk
      go_upto_region 10 with (go_at_call 23; with_reducible refine hrun1.mono ?_; rintro e w6 ⟨R1, A5, c5, rfl, HX5, HV5, hb6⟩)
      have HB6 := Lib.hid hb6
      have HBk6 := Lib.hid (below_self HBk.out hb6)
      have HBk36 := Lib.hid (below_self HBk3.out hb6)
      have hrun2 := HRUN.out D A' B' ca' cb' w6 HSH.out.name (HSH.out.size HMC.out) (HSH.out.len.trans HGL.out) (by rw [HSH.out.outs, List.length_map]; exact HOL.out) (by rw [HSH.out.code HMC.out]; exact HRC.out) (by rw [HSH.out.run HMC.out]; exact HXR.out) (HAD.out.below HBk36.out) (HOD.out.below HBk36.out) (HVk.out.below hb6)
      have y0 : w6.cell? ⟨bd, 0, none⟩ = some (.string mname) := ((HXD.out.self HBk36.out).cell 0).trans rfl
      have y1 : w6.cell? ⟨bd, 1, none⟩ = some (.slice A' n ca') := ((HXD.out.self HBk36.out).cell 1).trans rfl
      have y2 : w6.cell? ⟨bd, 2, none⟩ = some (.slice B' m cb') := ((HXD.out.self HBk36.out).cell 2).trans rfl
      clear hrun1 hb6 x0 x1 x2
      go_upto_region 11 with (go_at_call 23; with_reducible refine hrun2.mono ?_; rintro e w7 ⟨R2, A6, c6, rfl, HX6, HV6, hb7⟩)
      have HBk7 := Lib.hid (below_self HBk6.out hb7)
      have HV57 := Lib.hid (HV5.out.below hb7)
      have HVk7 := Lib.hid (HVk.out.below (below_self HB6.out hb7))
      have hR1 : R1.length = k := by have := congrArg List.length HX5.out; rw [List.length_map, hxl] at this; exact this
      have hR2 : R2.length = k := by have := congrArg List.length HX6.out; rw [List.length_map, hxl] at this; exact this
      have HRL : Hid (∀ r ∈ R1, r.xs.length ≤ 9223372036854775806) := Lib.hid fun r hr => by
        have h1 : r.xs ∈ xr := by rw [← HX5.out]; exact List.mem_map.2 ⟨r, hr, rfl⟩
        have h2 := runO_len (c := ⟨mname, gs, outs⟩) (inss := inss) (x := r.xs) (by unfold runO; rw [HRC.out, if_pos rfl, HIL.out, HXR.out]; exact h1)
        omega
      have hls := lists_same A5 A6 k c5 c6 R1 R2 w7 (HV57.out.list hR1) (HV6.out.list hR2) HV57.out.rows HV6.out.rows (HX5.out.trans HX6.out.symm) hR1 (by omega) HRL.out
      have HRLL := HRL
      have hm1 := run_makeRep (P := Try.prog) Try.underlying35 info_bool rfl n (by omega) (by omega)
      have HKK : Hid (∀ W, Below w7.heap.size w7 W → W.cell? ⟨bc, 1, none⟩ = some (.slice A n ca)) := Lib.hid fun W hW => (HKT.out W (below_self HBk7.out hW)).2.1
      clear hrun2 hb7 y0 y1 y2 HBk36 HBk3 HBk HBk6 HVk HV5 HV6 HX6 HXD HAD HOD HB6
      go_upto_region 16 with (go_at_call 25; with_reducible refine hls.mono ?_; rintro e w8 ⟨rfl, hb8⟩; have HB78 := Lib.hid hb8; have z1 := HKK.out w8 hb8; clear hb8)
      change Code.wp _ _ _ _ (w8.alloc (.cells (List.replicate n (Value.bool false)).toArray 4))
      have hbl := below1 w8 (.cells (List.replicate n (Value.bool false)).toArray 4)
      have HL0 : Hid (Owns (w8.alloc (.cells (List.replicate n (Value.bool false)).toArray 4)) w8.heap.size 4 (.slice (some ⟨w8.heap.size, 0, none⟩) n n) (bools (liveK gs n []))) := Lib.hid (by
        rw [liveK_nil]
        refine owns_blk ?_ (Nat.le_refl _) (by simp) (by unfold maxLen; omega)
        rw [show bools (List.replicate n false) = List.replicate n (Value.bool false) by simp [bools]]
        exact heap_alloc_new w8 _)
      have HB80 := Lib.hid hbl
      have HB28 := Lib.hid (below_self HBk7.out HB78.out)
      have HVk8 := Lib.hid (HVk7.out.below HB78.out)
      have HV58 := Lib.hid (HV57.out.below HB78.out)
      have HPS0 : Hid (∀ q ∈ outs.take 0, q.toNat ∈ ([] : List Nat)) := Lib.hid (fun q h => by simp at h)
      have HKT8 : Hid (∀ W, Below w8.heap.size w8 W → W.cell? ⟨bc, 0, none⟩ = some (.string mname) ∧ W.cell? ⟨bc, 1, none⟩ = some (.slice A n ca) ∧ W.cell? ⟨bc, 2, none⟩ = some (.slice B m cb)) := Lib.hid fun W hW => HKT.out W (below_self HB28.out hW)
      have HA8 := Lib.hid (HA2.out.below HB28.out)
      have HO8 := Lib.hid (HO2.out.below HB28.out)
      generalize w8.alloc (.cells (List.replicate n (Value.bool false)).toArray 4) = W9 at *
      obtain ⟨bv, hbv⟩ : ∃ bv, w8.heap.size = bv := ⟨_, rfl⟩
      rw [hbv] at HL0 ⊢
      have HBV := Lib.hid hbv
      clear hls hm1 hbl HKK HVk7 HV57 HBk7 HB78 z1 hbv HRL HKT HB5 HBW5 HB3 HB35 HSH HH HI HR
      go_loopw [17, 18] (fun s17 s18 wr => ∃ (j : Nat) (ps : List Nat), j ≤ m ∧ s17 = .bool true ∧ s18 = .int .i64 j ∧ Hid (∀ q ∈ outs.take j, q.toNat ∈ ps) ∧ Hid (Owns wr bv 4 (.slice (some ⟨bv, 0, none⟩) n n) (bools (liveK gs n ps))) ∧ Hid (Below w8.heap.size w8 wr)) (fun _ s18 _ => m - (intOf s18).toNat)
      case atStart => exact ⟨0, [], by omega, rfl, rfl, HPS0, HL0, HB80⟩
      case round =>
        clear HPS0 HL0 HB80
        obtain ⟨j, ps, hj, rfl, rfl, HPS, HLV, HB⟩ := hrel
        obtain ⟨x0, x1, x2⟩ := HKT8.out wr HB.out
        by_cases hlt : j < m
        · obtain ⟨pk, hpk⟩ : ∃ p, outs[j]? = some p := ⟨_, List.getElem?_eq_getElem (by have := HOL.out; omega)⟩
          have hpr := HMC.out.outs pk (List.mem_of_getElem? hpk)
          dsimp only at hpr
          rw [HGL.out] at hpr
          obtain ⟨pt, hpt⟩ : ∃ q : Nat, pk = (q : Int) := ⟨pk.toNat, by omega⟩
          subst hpt
          obtain ⟨gB, oB, e, hc1⟩ := (HO8.out.below HB.out).at_ hpk
          subst e
          have HKS : Hid (∀ W, Below w8.heap.size w8 W → W.cell? ⟨bc, 0, none⟩ = some (.string mname) ∧ W.cell? ⟨bc, 1, none⟩ = some (.slice A n ca) ∧ W.cell? ⟨bc, 2, none⟩ = some (.slice (some ⟨gB, oB, none⟩) m cb) ∧ W.cell? ⟨gB, oB + j, none⟩ = some (.int .i64 (pt : Int))) := Lib.hid fun W hW => by
            obtain ⟨a0, a1, a2⟩ := HKT8.out W hW
            obtain ⟨_, _, e, t⟩ := (HO8.out.below hW).at_ hpk
            cases e
            exact ⟨a0, a1, a2, t⟩
          have HBD := Lib.hid (below_drew0 HB.out)
          have hmk : Calls Try.prog 31 #[.agg #[.string mname, .slice A n ca, .slice (some ⟨gB, oB, none⟩) m cb], .int .i64 (pt : Int), .slice (some ⟨bv, 0, none⟩) n n] wr.drew fun e w' => e = .returned (.bool true) ∧ Hid (Owns w' bv 4 (.slice (some ⟨bv, 0, none⟩) n n) (bools (liveK gs n (ps ++ [pt])))) ∧ wr.drew.grownBy w' (some bv) := by
            have := mark_any ⟨mname, gs, outs⟩ HMC.out pt (liveK gs n ps) A (some ⟨gB, oB, none⟩) n m ca cb bv bv wr.drew (HA8.out.below HBD.out) (HO8.out.below HBD.out) HGL.out HOL.out (by omega) (liveK_len _ _ _) (HLV.out.below (below_drew0 (Below.refl _ _)))
            dsimp only at this
            rwa [liveK_mark HGL.out] at this
          have HPSn : Hid (∀ q ∈ outs.take (j + 1), q.toNat ∈ ps ++ [pt]) := Lib.hid fun q hq => by
            rw [List.take_add_one, hpk] at hq
            rcases List.mem_append.1 hq with h | h
            · exact List.mem_append_left _ (HPS.out q h)
            · simp at h
              subst h
              simp
          have hk0 : (0 : Int) ≤ (j : Int) := by omega
          have hkm : (j : Int) < (m : Int) := by omega
          clear hpk hpr hc1 HPS HLV HB
          go_upto_region 18 with (fail)
          clear x0 x1 x2
          go_region_held3 (fun W => W.cell? ⟨bc, 0, none⟩ = some (.string mname) ∧ W.cell? ⟨bc, 1, none⟩ = some (.slice A n ca) ∧ W.cell? ⟨bc, 2, none⟩ = some (.slice (some ⟨gB, oB, none⟩) m cb) ∧ W.cell? ⟨gB, oB + j, none⟩ = some (.int .i64 (pt : Int)))
            (first | exact HKS.out _ HBD.out | exact HKS.out _ HBM.out)
            (first
              | ((go_at_call 31; with_reducible refine hmk.mono ?_; rintro e w9 ⟨rfl, HLn, hg9⟩; have HBM := Lib.hid (HBD.out.grown hg9 HBD.out.size (fun g e => by cases e; exact Nat.le_of_eq HBV.out)); clear hg9)))
          clear hmk HKS HBD
          go_wp2
          go_roundw
          case rel => exact ⟨j + 1, ps ++ [pt], by omega, rfl, by go_num, HPSn, HLn, HBM⟩
          case measure => simp [intOf]; omega
        · obtain rfl : j = m := by omega
          have HPO : Hid (∀ q ∈ outs, q.toNat ∈ ps) := Lib.hid (by
            have := HPS.out
            rwa [List.take_of_length_le (by rw [HOL.out]; exact Nat.le_refl _)] at this)
          have HPL0 : Hid (∀ (i : Nat) (g : Gt), i < 0 → gs[i]? = some g → g.kind = 3 → g.a.toNat ∈ ps) := Lib.hid (fun i g h => absurd h (Nat.not_lt_zero _))
          have HLV0 := HLV; have HB0 := HB
          clear HPS hlt hj
          go_upto_region 20 with (fail)
          clear HLV HB
          go_loopw [17, 19] (fun s17 s19 wr => ∃ (i : Nat) (ps : List Nat), i ≤ n ∧ s17 = .bool true ∧ s19 = .int .i64 i ∧ Hid (∀ q ∈ outs, q.toNat ∈ ps) ∧ Hid (∀ (t : Nat) (g : Gt), t < i → gs[t]? = some g → g.kind = 3 → g.a.toNat ∈ ps) ∧ Hid (Owns wr bv 4 (.slice (some ⟨bv, 0, none⟩) n n) (bools (liveK gs n ps))) ∧ Hid (Below w8.heap.size w8 wr)) (fun _ s19 _ => n - (intOf s19).toNat)
          case atStart => exact ⟨0, ps, by omega, rfl, rfl, HPO, HPL0, HLV0, HB0⟩
          case round =>
            clear HPO HPL0 HLV0 HB0 x0 x1 x2
            obtain ⟨i, ps, hi, rfl, rfl, HPO, HPL, HLV, HB⟩ := hrel
            obtain ⟨x0, x1, x2⟩ := HKT8.out wr HB.out
            by_cases hlt : i < n
            · obtain ⟨g, hg⟩ : ∃ g, gs[i]? = some g := ⟨_, List.getElem?_eq_getElem (by have := HGL.out; omega)⟩
              obtain ⟨gA, oA, e, hc1⟩ := greads_at (HA8.out.below HB.out) hg
              subst e
              obtain ⟨c0, _⟩ := hc1
              have hk0 : (0 : Int) ≤ (i : Int) := by omega
              have hkm : (i : Int) < (n : Int) := by omega
              by_cases h3 : g.kind = 3
              · have hf := (HMC.out.lines i g hg).2
                unfold FieldsK PlaceP at hf
                obtain ⟨pt, hpt⟩ : ∃ q : Nat, g.a = (q : Int) := ⟨g.a.toNat, by omega⟩
                have hpn : pt < n := by omega
                have HKS : Hid (∀ W, Below w8.heap.size w8 W → W.cell? ⟨bc, 0, none⟩ = some (.string mname) ∧ W.cell? ⟨bc, 1, none⟩ = some (.slice (some ⟨gA, oA, none⟩) n ca) ∧ W.cell? ⟨bc, 2, none⟩ = some (.slice B j cb) ∧ W.cell? ⟨gA, oA + i * 6 + 3, none⟩ = some (.int .i64 (pt : Int))) := Lib.hid fun W hW => by
                  obtain ⟨a0, a1, a2⟩ := HKT8.out W hW
                  obtain ⟨_, _, e, t⟩ := greads_at (HA8.out.below hW) hg
                  cases e
                  obtain ⟨_, _, _, t3, _⟩ := t
                  rw [hpt] at t3
                  exact ⟨a0, a1, a2, t3⟩
                have HBD := Lib.hid (below_drew0 HB.out)
                have hmk : Calls Try.prog 31 #[.agg #[.string mname, .slice (some ⟨gA, oA, none⟩) n ca, .slice B j cb], .int .i64 (pt : Int), .slice (some ⟨bv, 0, none⟩) n n] wr.drew fun e w' => e = .returned (.bool true) ∧ Hid (Owns w' bv 4 (.slice (some ⟨bv, 0, none⟩) n n) (bools (liveK gs n (ps ++ [pt])))) ∧ wr.drew.grownBy w' (some bv) := by
                  have := mark_any ⟨mname, gs, outs⟩ HMC.out pt (liveK gs n ps) (some ⟨gA, oA, none⟩) B n j ca cb bv bv wr.drew (HA8.out.below HBD.out) (HO8.out.below HBD.out) HGL.out HOL.out hpn (liveK_len _ _ _) (HLV.out.below (below_drew0 (Below.refl _ _)))
                  dsimp only at this
                  rwa [liveK_mark HGL.out] at this
                have HPOn : Hid (∀ q ∈ outs, q.toNat ∈ ps ++ [pt]) := Lib.hid fun q hq => List.mem_append_left _ (HPO.out q hq)
                have HPLn : Hid (∀ (t : Nat) (g : Gt), t < i + 1 → gs[t]? = some g → g.kind = 3 → g.a.toNat ∈ ps ++ [pt]) := Lib.hid fun t g' ht hg' hk' => by
                  by_cases e : t = i
                  · subst e
                    rw [hg] at hg'
                    cases hg'
                    rw [hpt]
                    simp
                  · exact List.mem_append_left _ (HPL.out t g' (by omega) hg' hk')
                rw [h3] at c0
                clear hg hf HPO HPL HLV HB h3 hpt
                go_upto_region 23 with (fail)
                clear x0 x1 x2 c0
                go_region_held3 (fun W => W.cell? ⟨bc, 0, none⟩ = some (.string mname) ∧ W.cell? ⟨bc, 1, none⟩ = some (.slice (some ⟨gA, oA, none⟩) n ca) ∧ W.cell? ⟨bc, 2, none⟩ = some (.slice B j cb) ∧ W.cell? ⟨gA, oA + i * 6 + 3, none⟩ = some (.int .i64 (pt : Int)))
                  (first | exact HKS.out _ HBD.out | exact HKS.out _ HBM.out)
                  (first
                    | ((go_at_call 31; with_reducible refine hmk.mono ?_; rintro e w9 ⟨rfl, HLn, hg9⟩; have HBM := Lib.hid (HBD.out.grown hg9 HBD.out.size (fun g e => by cases e; exact Nat.le_of_eq HBV.out)); clear hg9)))
                clear hmk HKS HBD
                go_wp2
                go_roundw
                case rel => exact ⟨i + 1, ps ++ [pt], by omega, rfl, by go_num, HPOn, HPLn, HLn, HBM⟩
                case measure => simp [intOf]; omega
              · have h4 : (g.kind == 3) = false := by simpa using h3
                have HPLn : Hid (∀ (t : Nat) (g : Gt), t < i + 1 → gs[t]? = some g → g.kind = 3 → g.a.toNat ∈ ps) := Lib.hid fun t g' ht hg' hk' => by
                  by_cases e : t = i
                  · subst e
                    rw [hg] at hg'
                    cases hg'
                    exact absurd hk' h3
                  · exact HPL.out t g' (by omega) hg' hk'
                clear hg HPL
                go_wp2
                go_roundw
                case rel => exact ⟨i + 1, ps, by omega, rfl, by go_num, HPO, HPLn, HLV, HB⟩
                case measure => simp [intOf]; omega
            · obtain rfl : i = n := by omega
              obtain ⟨S, hS⟩ : ∃ S : Nat → Bool, (fun i' => (liveK gs i ps).getD i' false) = S := ⟨_, rfl⟩
              have HCL : Hid (Closed ⟨mname, gs, outs⟩ (fun t => S t = true)) := Lib.hid (by
                rw [← hS]
                exact live_closed HMC.out HGL.out HPO.out (fun t g hg hk => HPL.out t g (by have := (List.getElem?_eq_some_iff.1 hg).1; have := HGL.out; dsimp only at *; omega) hg hk))
              have HLS : Hid (∀ t, t < i → (liveK gs i ps)[t]? = some (S t)) := Lib.hid (fun t ht => by
                rw [← hS]
                show (liveK gs i ps)[t]? = some ((liveK gs i ps).getD t false)
                rw [List.getD_eq_getElem?_getD, List.getElem?_eq_getElem (by rw [liveK_len]; exact ht)]
                rfl)
              have HDD : Hid (Dead ⟨mname, gs, outs⟩ (fun t => S t = true) ⟨mname, deadG gs S i, outs⟩) := Lib.hid (deadG_dead mname gs outs S HGL.out)
              obtain ⟨lv, hlv⟩ : ∃ lv, liveK gs i ps = lv := ⟨_, rfl⟩
              rw [hlv] at HLV HLS
              have HGQ0 : Hid (wr.ownsRow w.heap.size 33 6 (.slice A i ca) i (gcells (deadG gs S 0))) := Lib.hid (by
                rw [deadG_zero]
                exact rows_below (rows_below HGR2.out HB28.out) HB.out)
              have HOR9 := Lib.hid ((HOR2.out.below HB28.out).below HB.out)
              have HVk9 := Lib.hid (HVk8.out.below HB.out)
              have HV59 := Lib.hid (HV58.out.below HB.out)
              have HXc9 := Lib.hid ((HX2.out.self HB28.out).self HB.out)
              have HB29 := Lib.hid (below_self HB2.out (below_self HB28.out HB.out))
              obtain ⟨gA, oA, eA, _⟩ := greads_at (HA8.out.below HB.out) (List.getElem?_eq_getElem (l := gs) (i := 0) HMC.out.pos)
              subst eA
              obtain ⟨_, eA, _⟩ := rows_store HGQ0.out (i := 0) (by rw [gcells_length, deadG_len]; have := HMC.out.pos; dsimp only at *; omega) (.int .i64 0)
              cases eA
              have HTY : Hid (Typed wr gA 33) := Lib.hid (rows_typed HGQ0.out (g := gA) rfl)
              have HGE : Hid (w.heap.size ≤ gA) := Lib.hid (World.ownsRow.lt HGQ0.out gA rfl).1
              have HGB0 := Lib.hid (only_refl wr (some gA))
              clear HPO HPL hS hlv HB HA8 HO8 HKT8 HVk8 HV58 HB28 HGR2 HOR2 HX2 HB2 HA2 HO2 hlt hi x0 x2
              clear ps
              go_upto_region 27 with (fail)
              clear x1
              generalize wr = W20 at *
              go_loopw [20] (fun s20 wq => ∃ t : Nat, t ≤ i ∧ s20 = .int .i64 t ∧ Hid (wq.ownsRow w.heap.size 33 6 (.slice (some ⟨gA, 0, none⟩) i ca) i (gcells (deadG gs S t))) ∧ Hid (W20.grownBy wq (some gA))) (fun s20 _ => i - (intOf s20).toNat)
              case atStart => exact ⟨0, by omega, rfl, HGQ0, HGB0⟩
              case round =>
                clear HGQ0 HGB0
                obtain ⟨t, ht, rfl, HGQ, HGB⟩ := hrel
                have HXr := Lib.hid (HXc9.out.aside HTY.out (by decide) HGB.out)
                have x1 : wr.cell? ⟨bc, 1, none⟩ = some (.slice (some ⟨gA, 0, none⟩) i ca) := (HXr.out.cell 1).trans rfl
                by_cases hlt : t < i
                · obtain ⟨g, hg⟩ : ∃ g, gs[t]? = some g := ⟨_, List.getElem?_eq_getElem (by have := HGL.out; omega)⟩
                  obtain ⟨lb, hlb⟩ : ∃ lb, S t = lb := ⟨_, rfl⟩
                  have hlg := HLS.out t hlt
                  rw [hlb] at hlg
                  obtain ⟨b1, _, _⟩ := (HLV.out.aside HTY.out (by decide) HGB.out).own (bools_get hlg)
                  obtain ⟨_, _, e7, hr7, _⟩ := rows_cells HGQ.out (by decide)
                  cases e7
                  obtain ⟨_, _, e8, hc8⟩ := greads_at hr7 (deadG_here hg)
                  cases e8
                  obtain ⟨c0, _, c2, _⟩ := hc8
                  rw [Nat.zero_add] at c0 c2
                  have hk0 : (0 : Int) ≤ (t : Int) := by omega
                  have hkn : (t : Int) < (i : Int) := by omega
                  clear hr7 hlg
                  by_cases h2 : lb = false ∧ g.kind = 2
                  · obtain ⟨rfl, h2⟩ := h2
                    have hop : 0 ≤ g.op ∧ g.op ≤ 15 := by
                      have hf := (HMC.out.lines t g hg).2
                      unfold FieldsK at hf
                      omega
                    have hw : IntKind.i64.wrap (15 - g.op) = 15 - g.op := by rw [IntKind.wrap_i64]; omega
                    obtain ⟨_, e, hcl, hz, hrow⟩ := rows_store HGQ.out (i := t * 6 + 2) (by rw [gcells_length, deadG_len]; have := HGL.out; omega) (.int .i64 (15 - g.op))
                    cases e
                    clear hcl
                    rw [gcells_setq (g' := { g with op := 15 - g.op }) (by decide) (deadG_here hg) rfl, ← deadG_yes hg hlb h2] at hrow
                    have HRn := Lib.hid hrow
                    have HGn := Lib.hid (only_trans HGB.out (only_setCell (only_refl wr (some gA)) (p := ⟨gA, t * 6 + 2, none⟩) (.inl rfl) (.int .i64 (15 - g.op))))
                    rw [h2] at c0
                    obtain ⟨op, hope⟩ : ∃ op, g.op = op := ⟨_, rfl⟩
                    rw [hope] at c2 hw HRn HGn
                    clear hrow hg hop hope
                    go_upto_region 30 with (fail)
                    go_region_with (fail)
                    all_goals
                      go_wp2
                      go_roundw
                      case rel => exact ⟨t + 1, by omega, by go_num, HRn, Lib.hid (only_drewN HGn.out _)⟩
                      case measure => simp [intOf]; omega
                  · have HRn : Hid (wr.ownsRow w.heap.size 33 6 (.slice (some ⟨gA, 0, none⟩) i ca) i (gcells (deadG gs S (t + 1)))) := Lib.hid (by
                      rw [deadG_no hg (by rw [hlb]; exact h2)]
                      exact HGQ.out)
                    clear hg HGQ
                    cases lb
                    · have h3 : ¬ g.kind = 2 := fun h => h2 ⟨rfl, h⟩
                      have h4 : (g.kind == 2) = false := by simpa using h3
                      clear h2
                      go_wp2
                      go_roundw
                      case rel => exact ⟨t + 1, by omega, by go_num, HRn, HGB⟩
                      case measure => simp [intOf]; omega
                    · clear h2
                      go_wp2
                      go_roundw
                      case rel => exact ⟨t + 1, by omega, by go_num, HRn, HGB⟩
                      case measure => simp [intOf]; omega
                · obtain rfl : t = i := by omega
                  obtain ⟨_, _, e7, hr7, _⟩ := rows_cells HGQ.out (by decide)
                  cases e7
                  have HVkr := Lib.hid (HVk9.out.gate HTY.out HGB.out)
                  have HV5r := Lib.hid (HV59.out.gate HTY.out HGB.out)
                  have hOr : Reads wr .i64 B outs := by
                    have h1 := HOR9.out.aside HTY.out (by decide) HGB.out
                    have hl : (nums .i64 outs).length = j := by rw [nums_length]; exact HOL.out
                    unfold Owns at h1
                    rw [hl] at h1
                    exact (rows_read h1 (by decide)).reads
                  have hDM := HDD.out.made HMC.out
                  have hrun3 := HRUN.out ⟨mname, deadG gs S t, outs⟩ (some ⟨gA, 0, none⟩) B ca cb wr rfl hDM.size ((deadG_len _ _ _).trans HGL.out) HOL.out (by rw [HDD.out.code HMC.out]; exact HRC.out) (by rw [HDD.out.run HMC.out HCL.out]; exact HXR.out) hr7 hOr HVkr.out
                  have x0 : wr.cell? ⟨bc, 0, none⟩ = some (.string mname) := (HXr.out.cell 0).trans rfl
                  have x2 : wr.cell? ⟨bc, 2, none⟩ = some (.slice B j cb) := (HXr.out.cell 2).trans rfl
                  have HBw : Hid (Below w.heap.size w wr) := Lib.hid (HB29.out.grown HGB.out HB29.out.size (fun z e => by cases e; exact HGE.out))
                  clear hr7 hOr hDM hlt ht
                  go_upto_region 32 with (go_at_call 23; with_reducible refine hrun3.mono ?_; rintro e w10 ⟨R3, A7, c7, rfl, HX7, HV7, hb10⟩)
                  have hR3 : R3.length = k := by have := congrArg List.length HX7.out; rw [List.length_map, hxl] at this; exact this
                  have hV5f := HV5r.out.below hb10
                  have hls3 := lists_same A5 A7 k c5 c7 R1 R3 w10 (hV5f.list hR1) (HV7.out.list hR3) hV5f.rows HV7.out.rows (HX5.out.trans HX7.out.symm) hR1 (by omega) HRLL.out
                  have HBf := Lib.hid (below_self HBw.out hb10)
                  clear hrun3 x0 x1 x2 hb10 hV5f
                  go_wp2_with (go_at_call 25; with_reducible refine hls3.mono ?_; rintro e w11 ⟨rfl, hb11⟩)
                  go_ret
                  exact ⟨rfl, below_self HBf.out hb11⟩
end Go.Proofs.Ytjkmoahnociaiaa
