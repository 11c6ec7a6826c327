/- CircuitCircles: the law's text answers true. -/
import Derived.Test.YtjkmoahnociaiaaDoorCI
import Derived.Test.YtjkmoahnociaiaaDoorMDD
import Derived.Test.YtjkmoahnociaiaaDoorXH
namespace Go.Proofs.YtjkmoahnociaiaaDoor
open Go.RowKit

/-- The places of the gates among the first k lines. -/
def gatesAt (gs : List Gt) (k : Nat) : List Nat := (List.range k).filter fun i => decide ((gs[i]?).map Gt.kind = some 2)
theorem gatesAt_zero (gs : List Gt) : gatesAt gs 0 = [] := by simp [gatesAt]
theorem gatesAt_yes {gs : List Gt} {k : Nat} {g : Gt} (hg : gs[k]? = some g) (h : g.kind = 2) : gatesAt gs (k + 1) = gatesAt gs k ++ [k] := by
  unfold gatesAt
  rw [List.range_succ, List.filter_append]
  simp [hg, h]
theorem gatesAt_no {gs : List Gt} {k : Nat} {g : Gt} (hg : gs[k]? = some g) (h : ¬ g.kind = 2) : gatesAt gs (k + 1) = gatesAt gs k := by
  unfold gatesAt
  rw [List.range_succ, List.filter_append]
  simp [hg, h]
theorem gatesAt_len (gs : List Gt) (k : Nat) : (gatesAt gs k).length ≤ k := by
  have := List.length_filter_le (fun i => decide ((gs[i]?).map Gt.kind = some 2)) (List.range k)
  rw [List.length_range] at this
  exact this
theorem gatesAt_mem {gs : List Gt} {k x : Nat} (h : x ∈ gatesAt gs k) : x < k ∧ ∃ g, gs[x]? = some g ∧ g.kind = 2 := by
  unfold gatesAt at h
  rw [List.mem_filter, List.mem_range] at h
  refine ⟨h.1, ?_⟩
  cases hg : gs[x]? with
  | none => rw [hg] at h; simp at h
  | some g => rw [hg] at h; exact ⟨g, rfl, by simpa using h.2⟩
theorem leanOn_text {c : Ct} {x y : Nat} {g : Gt} (h : MadeC c) (hN : NetP (c.leanOn x y g)) : (textL (c.leanOn x y g)).length ≤ 300000 := by
  have hl : (c.leanOn x y g).gs.length = c.gs.length := List.length_set
  have h1 := gatesL_len hN (c.leanOn x y g).gs.length (Nat.le_refl _)
  have h2 := otL_len hN (c.leanOn x y g).outs.length (Nat.le_refl _)
  have h3 := lineL_len (headW_size hN) (by simp)
  have h4 := lineL_len endW_size (by simp)
  have h5 := h.le
  have h6 : (c.leanOn x y g).outs.length ≤ 200 := h.ol
  unfold textL
  simp only [List.length_append]
  omega
theorem made_size {c : Ct} (h : MadeC c) : SizeP c := by
  have hF := h.formed
  refine ⟨?_, fun g hg => ?_, ?_, ?_⟩
  · have := hF.name.2.1; unfold maxLen; omega
  · have := (hF.lines g hg).1.2.1; unfold maxLen; omega
  · have := h.le; unfold maxLen; omega
  · have := h.ol; unfold maxLen; omega
theorem net_size {c : Ct} (h : NetP c) : SizeP c := by
  refine ⟨?_, fun g hg => ?_, ?_, ?_⟩
  · have := h.name.2.1; unfold maxLen; omega
  · have := (h.lines g hg).1.2.1; unfold maxLen; omega
  · have := h.gl; unfold maxLen; omega
  · have := h.ol; unfold maxLen; omega
set_option maxRecDepth 100000 in
set_option maxHeartbeats 8000000 in
theorem circlesLaw_any (AC : Option Addr) (L c : Nat) (xs : List Int) (from_ to_ : Int) (w : World) (hC : Reads w .i64 AC xs) (hL : xs.length = L) (hx : ∀ x ∈ xs, Big x) (hl : L ≤ 1000000000000000) (hf : Big from_) (ht : Big to_) (hop0 : OpsAt w 0) (hop1 : OpsAt w 1) :
    Calls Tryd.prog 6 #[.slice AC L c, .int .i64 from_, .int .i64 to_] w fun e w' => e = .returned (.bool true) ∧ Below w.heap.size w w' := by
  have CM := made_any AC L c xs w hC hL hx hl
  unfold MadeR at CM
  have HFR := Lib.hid hf; have HTO := Lib.hid ht; have HOP0 := Lib.hid hop0; have HOP1 := Lib.hid hop1
  clear hC hL hx hf ht hop0 hop1
  go_enter Tryd.func6, Tryd.ntmps6
  go_upto_region 2 with (go_at_call 19; with_reducible refine CM.mono ?_; rintro e w1 ⟨gs, outs, A, B, n, m, ca, cb, rfl, hmade, hgl, hol, HA1, HO1, hb1, HGR1, HOR1⟩)
  change Code.wp _ _ _ _ (w1.alloc (.cells #[.string mname, .slice A n ca, .slice B m cb] 25))
  obtain ⟨cc, hcc⟩ : ∃ cc : Ct, (⟨mname, gs, outs⟩ : Ct) = cc := ⟨_, rfl⟩
  have hcn : cc.name = mname := by rw [← hcc]
  have hcg : cc.gs = gs := by rw [← hcc]
  have hco : cc.outs = outs := by rw [← hcc]
  rw [hcc] at hmade
  subst hcg hco
  rw [← hcn]
  have HMD := Lib.hid hmade
  have HBL := Lib.hid (below1 w1 (.cells #[.string cc.name, .slice A n ca, .slice B m cb] 25))
  have HX2 := Lib.hid (Blk.new w1 25 [.string cc.name, .slice A n ca, .slice B m cb])
  have HA2 := Lib.hid (HA1.out.below HBL.out)
  have HO2 := Lib.hid (HO1.out.below HBL.out)
  have HR2 := Lib.hid (rows_below HGR1.out HBL.out)
  have HOR2 : Hid (Owns (w1.alloc (.cells #[.string cc.name, .slice A n ca, .slice B m cb] 25)) w.heap.size 3 (.slice B m cb) (nums .i64 cc.outs)) := Lib.hid (rows_below HOR1.out HBL.out)
  have HBW2 := Lib.hid (below_self hb1 HBL.out)
  have HGL := Lib.hid hgl; have HOL := Lib.hid hol
  have hn200 : n ≤ 200 := by rw [← hgl]; exact hmade.le
  have hm200 : m ≤ 200 := by rw [← hol]; exact hmade.ol
  clear CM hcc hcn hmade HA1 HO1 HGR1 HOR1
  obtain ⟨bx, hbx⟩ : ∃ b, w1.heap.size = b := ⟨_, rfl⟩
  have HBX : Hid (w.heap.size ≤ bx) := Lib.hid (by rw [← hbx]; exact hb1.size)
  rw [hbx] at HX2 ⊢
  clear hbx hb1 hgl hol HBL
  generalize w1.alloc (.cells #[.string cc.name, .slice A n ca, .slice B m cb] 25) = w2 at *
  have HSZ := Lib.hid (made_size HMD.out)
  have HW0 : Hid (Owns w2 w2.heap.size 3 (.slice none 0 0) (ints (gatesAt cc.gs 0))) := Lib.hid (by rw [gatesAt_zero]; exact owns_nil _ _ _)
  have HB0 : Hid (Below w2.heap.size w2 w2) := Lib.hid (Below.refl _ _)
  go_upto_region 4 with (fail)
  go_loopw [8, 9] (fun s8 s9 wr => ∃ k : Nat, k ≤ n ∧ s9 = .int .i64 k ∧ Hid (Owns wr w2.heap.size 3 s8 (ints (gatesAt cc.gs k))) ∧ Hid (Below w2.heap.size w2 wr)) (fun _ s9 _ => n - (intOf s9).toNat)
  case atStart => exact ⟨0, by omega, rfl, HW0, HB0⟩
  case round =>
    clear HW0 HB0
    obtain ⟨k, hk, rfl, HW, HB⟩ := hrel
    have HX3 := Lib.hid (HX2.out.self HB.out)
    have x1 : wr.cell? ⟨bx, 1, none⟩ = some (.slice A n ca) := (HX3.out.cell 1).trans rfl
    by_cases hlt : k < n
    ·
      have hk0 : (0 : Int) ≤ (k : Int) := by omega
      have hk1 : (k : Int) < (n : Int) := by omega
      obtain ⟨g, hg⟩ : ∃ g, cc.gs[k]? = some g := ⟨_, List.getElem?_eq_getElem (by rw [HGL.out]; exact hlt)⟩
      obtain ⟨ab, ao, eab, hcc⟩ := greads_at (HA2.out.below HB.out) hg
      have d0 := hcc.c0
      subst eab
      obtain ⟨kd, hkd⟩ : ∃ kd, g.kind = kd := ⟨_, rfl⟩
      rw [hkd] at d0
      have HG := Lib.hid hg; have HKD := Lib.hid hkd
      clear hcc hg hkd
      by_cases h2 : kd = 2
      · have e2 : (kd == 2) = true := by simp [h2]
        have HN : Hid (gatesAt cc.gs (k + 1) = gatesAt cc.gs k ++ [k]) := Lib.hid (gatesAt_yes HG.out (by rw [HKD.out, h2]))
        have hgk := gatesAt_len cc.gs k
        have hil : (ints (gatesAt cc.gs k)).length = (gatesAt cc.gs k).length := ints_length _
        have hbl := below1 wr (.cells [Value.int .i64 (k : Int)].toArray 3)
        have HW2 := Lib.hid (rows_below HW.out hbl)
        have HB2 := Lib.hid (HB.out.trans (hbl.mono HB.out.size))
        clear h2 hbl
        go_wp2_with (at_builtin; refine wpList_push2 rfl _ _ 23 rfl w2.heap.size 3 _ 8 Tryd.underlying23 info_int rfl _ _ rfl HW2.out ⟨wr.heap.size, 0, none⟩ (.int .i64 (k : Int)) rfl (by simp [go_sem]) rfl (by rw [hil]; unfold maxLen; omega) (by rw [hil]; omega) (by exact HB2.out.size) ?_; intro v6 w6 hown6 hg6 hb6)
        have HB3 := Lib.hid (HB2.out.grown hg6 HB2.out.size (fun g e => (World.ownsRow.lt HW2.out g e).1))
        have HW3 : Hid (Owns w6 w2.heap.size 3 v6 (ints (gatesAt cc.gs (k + 1)))) := Lib.hid (by rw [HN.out, ← ints_snoc]; exact hown6)
        go_roundw
        case rel => exact ⟨k + 1, by omega, by go_num, HW3, HB3⟩
        case measure => simp [intOf]; omega
      · have e2 : (kd == 2) = false := by simpa using h2
        have HN : Hid (gatesAt cc.gs (k + 1) = gatesAt cc.gs k) := Lib.hid (gatesAt_no HG.out (by rw [HKD.out]; exact h2))
        have HW3 : Hid (Owns wr w2.heap.size 3 u8 (ints (gatesAt cc.gs (k + 1)))) := Lib.hid (by rw [HN.out]; exact HW.out)
        go_wp2
        go_roundw
        case rel => exact ⟨k + 1, by omega, by go_num, HW3, HB⟩
        case measure => simp [intOf]; omega
    · obtain rfl : k = n := by omega
      have hfl := gatesAt_len cc.gs k
      have HMEM : Hid (∀ x ∈ gatesAt cc.gs k, x < k ∧ ∃ g, cc.gs[x]? = some g ∧ g.kind = 2) := Lib.hid (fun x hx => gatesAt_mem hx)
      generalize gatesAt cc.gs k = fr at *
      obtain ⟨A8, c8, hv8⟩ := HW.out.form
      rw [ints_length] at hv8
      subst hv8
      have HA3 := Lib.hid (HA2.out.below HB.out)
      have HO3 := Lib.hid (HO2.out.below HB.out)
      have HR3 := Lib.hid (rows_below HR2.out HB.out)
      have HOR3 : Hid (Owns wr w.heap.size 3 (.slice B m cb) (nums .i64 cc.outs)) := Lib.hid (rows_below HOR2.out HB.out)
      have HB3 := Lib.hid (HBW2.out.trans (HB.out.mono HBW2.out.size))
      have HGF := HMD.out.formed
      clear HX2 HA2 HO2 HR2 HOR2 x1
      have x0 : wr.cell? ⟨bx, 0, none⟩ = some (.string cc.name) := (HX3.out.cell 0).trans rfl
      have x1 : wr.cell? ⟨bx, 1, none⟩ = some (.slice A k ca) := (HX3.out.cell 1).trans rfl
      have x2 : wr.cell? ⟨bx, 2, none⟩ = some (.slice B m cb) := (HX3.out.cell 2).trans rfl
      rcases Nat.eq_zero_or_pos fr.length with h0 | h0
      ·
        have hC := formed_any cc A B k m ca cb wr HA3.out HO3.out HSZ.out HGL.out HOL.out
        rw [formedB_true HGF] at hC
        have hl0 : ((fr.length : Int) == 0) = true := by simp [h0]
        have hl1 : (fr.length : Int) = 0 := by omega
        go_wp2_with (go_at_call 9; with_reducible refine hC.mono ?_; rintro e w4 ⟨rfl, hb4⟩)
        go_ret
        exact ⟨rfl, below_self HB3.out hb4⟩
      · have hp0 : (0 : Int) < (fr.length : Int) := by omega
        have hl0 : ((fr.length : Int) == 0) = false := by rw [beq_eq_false_iff_ne]; omega
        have hwx : Calls Tryd.prog 20 #[.int .i64 from_, .int .i64 fr.length] wr fun e w' => (∃ x : Nat, e = .returned (.int .i64 x) ∧ x < fr.length) ∧ w' = wr := within_any from_ fr.length wr HFR.out (by omega) (by omega)
        have hwy : Calls Tryd.prog 20 #[.int .i64 to_, .int .i64 fr.length] wr fun e w' => (∃ x : Nat, e = .returned (.int .i64 x) ∧ x < fr.length) ∧ w' = wr := within_any to_ fr.length wr HTO.out (by omega) (by omega)
        obtain ⟨g8, eg8, _⟩ : ∃ g8, A8 = some ⟨g8, 0, none⟩ ∧ True := by
          obtain ⟨x, hx⟩ : ∃ x, fr[0]? = some x := ⟨_, List.getElem?_eq_getElem h0⟩
          obtain ⟨g, e, _⟩ := HW.out.first (ints_get hx)
          exact ⟨g, e, trivial⟩
        subst eg8
        have HC8 : Hid (∀ (j x : Nat), fr[j]? = some x → wr.cell? ⟨g8, j, none⟩ = some (.int .i64 (x : Int))) := Lib.hid (fun j x hx => by
          obtain ⟨g, e, h1⟩ := HW.out.first (ints_get hx)
          cases e
          exact h1)
        have HEX : Hid (∀ j, j < fr.length → ∃ x, fr[j]? = some x) := Lib.hid (fun j hj => ⟨_, List.getElem?_eq_getElem hj⟩)
        go_upto_region 11 with (go_at_call 20; ((with_reducible refine hwx.mono ?_); rintro e w' ⟨⟨xi, rfl, hxi⟩, rfl⟩; obtain ⟨x, hx⟩ := HEX.out xi hxi; have hcx := HC8.out xi x hx; have HX := Lib.hid hx; have hxi0 : (0 : Int) ≤ (xi : Int) := (by omega); have hxi1 : (xi : Int) < (fr.length : Int) := (by omega); clear hx))
        clear hwx hcx hxi0 hxi1
        go_upto_region 12 with (go_at_call 20; (with_reducible refine hwy.mono ?_); rintro e w' ⟨⟨yi, rfl, hyi⟩, rfl⟩; obtain ⟨y, hy⟩ := HEX.out yi hyi; have hcy := HC8.out yi y hy; have HY := Lib.hid hy; have hyi0 : (0 : Int) ≤ (yi : Int) := (by omega); have hyi1 : (yi : Int) < (fr.length : Int) := (by omega); clear hy)
        clear hwy hcy hyi0 hyi1
        have hmx := HMEM.out x (List.mem_of_getElem? HX.out)
        have hmy := HMEM.out y (List.mem_of_getElem? HY.out)
        obtain ⟨hxk, gx, hgx, hkx⟩ := hmx
        obtain ⟨hyk, _⟩ := hmy
        have HGX := Lib.hid hgx; have HKX := Lib.hid hkx
        clear hgx hkx
        have hC := cone_any cc (y : Int) A B k m ca cb w' HA3.out HO3.out HSZ.out HGL.out HOL.out
        unfold ConeR at hC
        have hcode : coneCode cc (y : Int) = 0 := by unfold coneCode; rw [if_pos HGF, if_pos (by rw [HGL.out]; omega)]
        have hclist : coneList cc (y : Int) = coneL cc.gs y := by unfold coneList; rw [hcode, if_pos rfl]; rfl
        rw [hcode, hclist] at hC
        clear hcode hclist
        obtain ⟨gA, oA, eA, _⟩ := greads_at HA3.out HGX.out
        subst eA
        have hcll : (coneL cc.gs y).length ≤ k := by
          have := List.length_filter_le (coneB cc.gs y) (List.range cc.gs.length)
          rw [List.length_range] at this
          have h2 := HGL.out
          unfold coneL
          omega
        obtain ⟨cl, hcl⟩ : ∃ cl, coneL cc.gs y = cl := ⟨_, rfl⟩
        rw [hcl] at hC hcll
        have HCL := Lib.hid hcl
        clear hcl
        go_upto_region 15 with (go_at_call 21; (with_reducible refine hC.mono ?_); rintro e w4 ⟨v4, rfl, hO4, hb4⟩; have hf4 := hO4.form; rw [ints_length] at hf4; obtain ⟨A9, c9, rfl⟩ := hf4)
        have HO9 := Lib.hid hO4
        have HX4 := Lib.hid (HX3.out.self hb4)
        have HA4 := Lib.hid (HA3.out.below hb4)
        have HO4 := Lib.hid (HO3.out.below hb4)
        have HR4 := Lib.hid (rows_below HR3.out hb4)
        have HOR4 : Hid (Owns w4 w.heap.size 3 (.slice B m cb) (nums .i64 cc.outs)) := Lib.hid (rows_below HOR3.out hb4)
        have HB4 := Lib.hid (below_self HB3.out hb4)
        clear hC x0 x1 x2 HX3 HA3 HO3 HR3 HOR3 HB3 hO4 hb4 HC8 HW HB
        have HC9 : Hid (∀ (j u : Nat), cl[j]? = some u → ∃ g9, A9 = some ⟨g9, 0, none⟩ ∧ w4.cell? ⟨g9, j, none⟩ = some (.int .i64 (u : Int))) := Lib.hid (fun j u hu => HO9.out.first (ints_get hu))
        have HT0 : Hid (false = true ↔ x ∈ cl.take 0) := Lib.hid (by simp)
        go_loop [14, 15] (fun s14 s15 => ∃ (j : Nat) (b : Bool), j ≤ cl.length ∧ s15 = .int .i64 j ∧ s14 = .bool b ∧ Hid (b = true ↔ x ∈ cl.take j)) (fun _ s15 => cl.length - (intOf s15).toNat)
        case atStart => exact ⟨0, false, by omega, rfl, rfl, HT0⟩
        case round =>
          clear HT0
          obtain ⟨j, b, hj, rfl, rfl, HT⟩ := hrel
          by_cases hjl : j < cl.length
          ·
            obtain ⟨u, hu⟩ : ∃ u, cl[j]? = some u := ⟨_, List.getElem?_eq_getElem hjl⟩
            obtain ⟨g9, e9, hcu⟩ := HC9.out j u hu
            subst e9
            have hj0 : (0 : Int) ≤ (j : Int) := by omega
            have hj1 : (j : Int) < (cl.length : Int) := by omega
            have HTS : Hid (cl.take (j + 1) = cl.take j ++ [u]) := Lib.hid (by rw [List.take_add_one, hu]; rfl)
            clear hu
            cases b
            · by_cases hux : u = x
              · have eb : ((u : Int) == (x : Int)) = true := by simp [hux]
                have HT2 : Hid (true = true ↔ x ∈ cl.take (j + 1)) := Lib.hid (by rw [HTS.out]; simp [hux])
                clear hux
                go_wp2
                go_round
                case rel => exact ⟨j + 1, true, by omega, by go_num, rfl, HT2⟩
                case measure => simp [intOf]; omega
              · have eb : ((u : Int) == (x : Int)) = false := by rw [beq_eq_false_iff_ne]; omega
                have HT2 : Hid (false = true ↔ x ∈ cl.take (j + 1)) := Lib.hid (by
                  rw [HTS.out, List.mem_append, ← HT.out]
                  simp
                  exact fun e => hux e.symm)
                clear hux
                go_wp2
                go_round
                case rel => exact ⟨j + 1, false, by omega, by go_num, rfl, HT2⟩
                case measure => simp [intOf]; omega
            · have HT2 : Hid (true = true ↔ x ∈ cl.take (j + 1)) := Lib.hid (by
                rw [HTS.out, List.mem_append, ← HT.out]
                simp)
              go_wp2
              go_round
              case rel => exact ⟨j + 1, true, by omega, by go_num, rfl, HT2⟩
              case measure => simp [intOf]; omega
          · obtain rfl : j = cl.length := by omega
            have HLN : Hid (b = true ↔ x ∈ coneL cc.gs y) := Lib.hid (by rw [HCL.out]; have := HT.out; rwa [List.take_of_length_le (Nat.le_refl _)] at this)
            have hC2 := formed_any cc (some ⟨gA, oA, none⟩) B k m ca cb w4 HA4.out HO4.out HSZ.out HGL.out HOL.out
            rw [formedB_true HGF] at hC2
            have x0 : w4.cell? ⟨bx, 0, none⟩ = some (.string cc.name) := (HX4.out.cell 0).trans rfl
            have x1 : w4.cell? ⟨bx, 1, none⟩ = some (.slice (some ⟨gA, oA, none⟩) k ca) := (HX4.out.cell 1).trans rfl
            have x2 : w4.cell? ⟨bx, 2, none⟩ = some (.slice B m cb) := (HX4.out.cell 2).trans rfl
            clear HT HC9 HO9 HCL
            go_upto_region 20 with (go_at_call 9; (with_reducible refine hC2.mono ?_); rintro e w5 ⟨rfl, hb5⟩)
            have hX5 := HX4.out.self hb5
            have hR5 := rows_below HR4.out hb5
            have hO5 : Owns w5 w.heap.size 3 (.slice B m cb) (nums .i64 cc.outs) := rows_below HOR4.out hb5
            have hB5 := below_self HB4.out hb5
            clear hC2 x0 x1 x2 HX4 HA4 HO4 HR4 HOR4 HB4 hb5
            obtain ⟨gA', eA, hc3, hf3, hrow⟩ := rows_store hR5 (i := x * 6 + 3) (by rw [gcells_length, HGL.out]; omega) (.int .i64 (y : Int))
            cases eA
            have hc3' : (gcells cc.gs)[x * 6 + 3]? = some (.int .i64 gx.a) := by rw [gcells_get HGX.out 3 (by decide)]; rfl
            rw [hc3'] at hc3
            rw [gcells_setq (q := 3) (by decide) HGX.out (show (gx.leanOn y).cells = gx.cells.set 3 (.int .i64 (y : Int)) from rfl)] at hrow
            have hgA := World.ownsRow.lt hR5 gA rfl
            have htA : Typed w5 gA 46 := rows_typed hR5 rfl
            have hne : bx ≠ gA := hX5.typed.ne htA (by decide)
            have hon := only_setCell (only_refl w5 (some gA)) (p := ⟨gA, x * 6 + 3, none⟩) (.inl rfl) (.int .i64 (y : Int))
            have hO6 := hO5.aside htA (by decide) hon
            have HX6 := Lib.hid (hX5.far (p := ⟨gA, x * 6 + 3, none⟩) hne (.int .i64 (y : Int)))
            have HB6 := Lib.hid (hB5.setCell (p := ⟨gA, x * 6 + 3, none⟩) hgA.1 (.int .i64 (y : Int)))
            have x1 : w5.cell? ⟨bx, 1, none⟩ = some (.slice (some ⟨gA, 0, none⟩) k ca) := (hX5.cell 1).trans rfl
            have HR6 := Lib.hid hrow
            have HO6 := Lib.hid hO6
            have hx0 : (0 : Int) ≤ (x : Int) := by omega
            have hx1 : (x : Int) < (k : Int) := by omega
            clear hX5 hR5 hO5 hB5 hc3' hrow hgA htA hne hon hO6
            go_upto_region 21 with (fail)
            change Code.wp _ _ _ _ (w5.setCell ⟨gA, x * 6 + 3, none⟩ (.int .i64 (y : Int)))
            clear hc3 hf3 x1
            generalize w5.setCell ⟨gA, x * 6 + 3, none⟩ (.int .i64 (y : Int)) = w6 at *
            have hyl : y < cc.gs.length := by rw [HGL.out]; exact hyk
            have hN2 := leanOn_net HMD.out HGX.out HKX.out hyl
            have hA6 : CReads w6 (some ⟨gA, 0, none⟩) (gcells (cc.leanOn x y gx).gs) := rows_read HR6.out (by decide)
            have hO6' : Reads w6 .i64 B (cc.leanOn x y gx).outs := by
              obtain ⟨A', c', e, h⟩ := HO6.out.reads
              cases e
              exact h
            have hgl2 : (cc.leanOn x y gx).gs.length = k := by
              have := HGL.out
              show (cc.gs.set x _).length = k
              rw [List.length_set]
              exact this
            have hol2 : (cc.leanOn x y gx).outs.length = m := HOL.out
            have hnm2 : (cc.leanOn x y gx).name = cc.name := rfl
            have htl := leanOn_text HMD.out hN2
            have HLF : Hid (b = false → FormedP (cc.leanOn x y gx)) := Lib.hid (fun hb => lean_not HMD.out HGX.out HKX.out hyl (fun t => by have := HLN.out.2 t; rw [hb] at this; cases this))
            have HLT : Hid (b = true → ¬ FormedP (cc.leanOn x y gx)) := Lib.hid (fun hb => (lean_is HMD.out HGX.out HKX.out (HLN.out.1 hb)).2)
            have HPF : Hid (∀ t : ByteArray, t.data.toList = textL (cc.leanOn x y gx) → t.size ≤ 1048576 → b = false → (parseOut t).F = (0, 0, 0)) := Lib.hid (fun t ht hs hb => by
              rw [lean_read HMD.out HGX.out HKX.out hyl hs ht (fun t => by have := HLN.out.2 t; rw [hb] at this; cases this)])
            have HPT : Hid (∀ t : ByteArray, t.data.toList = textL (cc.leanOn x y gx) → t.size ≤ 1048576 → b = true → (parseOut t).F = (143, ((x + 2 : Nat) : Int), 6)) := Lib.hid (fun t ht hs hb => by
              rw [lean_told HMD.out HGX.out HKX.out hyl hs ht (HLN.out.1 hb)]
              rfl)
            obtain ⟨c2, hc2⟩ : ∃ c2, cc.leanOn x y gx = c2 := ⟨_, rfl⟩
            rw [hc2] at hN2 hA6 hO6' hgl2 hol2 hnm2 htl HLF HLT HPF HPT
            have HN2 := Lib.hid hN2; have HA6 := Lib.hid hA6; have HO6 := Lib.hid hO6'; have HGL2 := Lib.hid hgl2; have HOL2 := Lib.hid hol2
            have htext := text_ref c2 hN2 (some ⟨gA, 0, none⟩) B k m ca cb w6 hA6 hO6' hgl2 hol2 (HOP1.out.below HB6.out)
            rw [hnm2] at htext
            have HNM2 := Lib.hid hnm2
            obtain ⟨t, htt⟩ : ∃ t : ByteArray, (⟨(textL c2).toArray⟩ : ByteArray) = t := ⟨_, rfl⟩
            rw [htt] at htext
            have htd : t.data.toList = textL c2 := by rw [← htt]
            have hts : t.size ≤ 300000 := by
              rw [← htt]
              show (textL c2).toArray.size ≤ 300000
              simpa using htl
            have HTD := Lib.hid htd
            clear hc2 htl htt hN2 hA6 hO6' hgl2 hol2 hnm2 HGX HKX HMEM HEX hyl htd HR6
            have x0 : w6.cell? ⟨bx, 0, none⟩ = some (.string cc.name) := (HX6.out.cell 0).trans rfl
            have x1 : w6.cell? ⟨bx, 1, none⟩ = some (.slice (some ⟨gA, 0, none⟩) k ca) := (HX6.out.cell 1).trans rfl
            have x2 : w6.cell? ⟨bx, 2, none⟩ = some (.slice B m cb) := (HX6.out.cell 2).trans rfl
            go_upto_region 22 with (go_at_call 22; (with_reducible refine htext.mono ?_); rintro e w7 ⟨rfl, hb7⟩)
            have HX7 := Lib.hid (HX6.out.self hb7)
            have HA7 := Lib.hid (HA6.out.below hb7)
            have HO7 := Lib.hid (HO6.out.below hb7)
            have HB7 := Lib.hid (below_self HB6.out hb7)
            clear x0 x1 x2 htext HX6 HA6 HO6 HB6 hb7
            have hP := parse_all t w7 (HOP0.out.below HB7.out)
            unfold OutR faultV at hP
            have hpf := HPF.out t HTD.out (by omega)
            have hpt := HPT.out t HTD.out (by omega)
            generalize parseOut t = O at *
            obtain ⟨⟨F1, F2, F3⟩, onm, ogs, oos⟩ := O
            dsimp only at hP hpf hpt
            have HPF2 := Lib.hid hpf; have HPT2 := Lib.hid hpt
            clear hpf hpt HPF HPT
            obtain ⟨ol1, hol1⟩ : ∃ q, ogs.length = q := ⟨_, rfl⟩
            obtain ⟨ol2, hol2⟩ : ∃ q, oos.length = q := ⟨_, rfl⟩
            rw [hol1, hol2] at hP
            clear hol1 hol2
            go_upto_region 23 with (go_at_call 14; (with_reducible refine hP.mono ?_); rintro e w8 ⟨hb8, A6, ca6, B6, cb6, rfl, _, _⟩)
            change Code.wp _ _ _ _ ((w8.alloc (.cells #[.string onm, .slice A6 ol1 ca6, .slice B6 ol2 cb6] 25)).alloc (.cells #[.int .i64 F1, .int .i64 F2, .int .i64 F3] 35))
            have hbl := below2 w8 (.cells #[.string onm, .slice A6 ol1 ca6, .slice B6 ol2 cb6] 25) (.cells #[.int .i64 F1, .int .i64 F2, .int .i64 F3] 35)
            have HFX := Lib.hid (blk_new2 w8 (.cells #[.string onm, .slice A6 ol1 ca6, .slice B6 ol2 cb6] 25) 35 [.int .i64 F1, .int .i64 F2, .int .i64 F3])
            have hbb := below_self hb8 hbl
            have HX9 := Lib.hid (HX7.out.self hbb)
            have HA9 := Lib.hid (HA7.out.below hbb)
            have HO9 := Lib.hid (HO7.out.below hbb)
            have HB9 := Lib.hid (below_self HB7.out hbb)
            clear hP hb8 hbl hbb HX7 HA7 HO7 HB7
            generalize (w8.alloc (.cells #[.string onm, .slice A6 ol1 ca6, .slice B6 ol2 cb6] 25)).alloc (.cells #[.int .i64 F1, .int .i64 F2, .int .i64 F3] 35) = w9 at *
            obtain ⟨d9, hd9⟩ : ∃ d, w8.heap.size = d := ⟨_, rfl⟩
            rw [hd9] at HFX
            try rw [hd9]
            try simp only [size_alloc, hd9]
            clear hd9
            have HSZ2 := Lib.hid (net_size HN2.out)
            have x0 : w9.cell? ⟨bx, 0, none⟩ = some (.string cc.name) := (HX9.out.cell 0).trans rfl
            have x1 : w9.cell? ⟨bx, 1, none⟩ = some (.slice (some ⟨gA, 0, none⟩) k ca) := (HX9.out.cell 1).trans rfl
            have x2 : w9.cell? ⟨bx, 2, none⟩ = some (.slice B m cb) := (HX9.out.cell 2).trans rfl
            cases b
            ·
              have hF := HPF2.out rfl
              have e1 : F1 = 0 := congrArg Prod.fst hF
              have e2 : F2 = 0 := congrArg (fun p => p.2.1) hF
              have e3 : F3 = 0 := congrArg (fun p => p.2.2) hF
              subst e1 e2 e3
              have hC3 := formed_any c2 (some ⟨gA, 0, none⟩) B k m ca cb w9 HA9.out HO9.out HSZ2.out HGL2.out HOL2.out
              rw [formedB_true (HLF.out rfl), HNM2.out] at hC3
              have HF9 : Hid (∀ W, Below w9.heap.size w9 W → W.cell? ⟨d9 + 1, 0, none⟩ = some (.int .i64 0) ∧ W.cell? ⟨d9 + 1, 1, none⟩ = some (.int .i64 0) ∧ W.cell? ⟨d9 + 1, 2, none⟩ = some (.int .i64 0)) := Lib.hid (fun W hW => ⟨((HFX.out.self hW).cell 0).trans rfl, ((HFX.out.self hW).cell 1).trans rfl, ((HFX.out.self hW).cell 2).trans rfl⟩)
              clear hF
              go_wp2_with (go_at_call 9; (with_reducible refine hC3.mono ?_); rintro e w10 ⟨rfl, hb10⟩; obtain ⟨z0, z1, z2⟩ := HF9.out w10 hb10; have HB10 := Lib.hid hb10; clear hb10)
              go_ret
              exact ⟨rfl, below_self HB9.out HB10.out⟩
            ·
              have hF := HPT2.out rfl
              have e1 : F1 = 143 := congrArg Prod.fst hF
              have e2 : F2 = (x : Int) + 2 := (congrArg (fun p => p.2.1) hF).trans (by show ((x + 2 : Nat) : Int) = _; omega)
              have e3 : F3 = 6 := congrArg (fun p => p.2.2) hF
              subst e1 e2 e3
              have hNF := HLT.out rfl
              have hpr : printE c2 = 144 := by unfold printE; rw [formedB_false hNF, if_neg (by decide)]
              have hC3 := print_any c2 (some ⟨gA, 0, none⟩) B k m ca cb w9 HA9.out HO9.out HSZ2.out HGL2.out HOL2.out (HOP0.out.below HB9.out)
              rw [hpr, HNM2.out] at hC3
              obtain ⟨ps, hps⟩ : ∃ ps, printS c2 = ps := ⟨_, rfl⟩
              rw [hps] at hC3
              clear hF hpr hps
              go_upto_region 26 with (go_at_call 8; (with_reducible refine hC3.mono ?_); rintro e w10 ⟨rfl, hb10⟩)
              have HX10 := Lib.hid (HX9.out.self hb10)
              have HB10 := Lib.hid (below_self HB9.out hb10)
              have hC4 := formed_any c2 (some ⟨gA, 0, none⟩) B k m ca cb w10 (HA9.out.below hb10) (HO9.out.below hb10) HSZ2.out HGL2.out HOL2.out
              rw [formedB_false hNF, HNM2.out] at hC4
              have HF10 := Lib.hid (HFX.out.self hb10)
              have HF9 : Hid (∀ W, Below w10.heap.size w10 W → W.cell? ⟨d9 + 1, 0, none⟩ = some (.int .i64 143) ∧ W.cell? ⟨d9 + 1, 1, none⟩ = some (.int .i64 ((x : Int) + 2)) ∧ W.cell? ⟨d9 + 1, 2, none⟩ = some (.int .i64 6)) := Lib.hid (fun W hW => ⟨((HF10.out.self hW).cell 0).trans rfl, ((HF10.out.self hW).cell 1).trans rfl, ((HF10.out.self hW).cell 2).trans rfl⟩)
              clear x0 x1 x2 hC3 hNF hb10
              have x0 : w10.cell? ⟨bx, 0, none⟩ = some (.string cc.name) := (HX10.out.cell 0).trans rfl
              have x1 : w10.cell? ⟨bx, 1, none⟩ = some (.slice (some ⟨gA, 0, none⟩) k ca) := (HX10.out.cell 1).trans rfl
              have x2 : w10.cell? ⟨bx, 2, none⟩ = some (.slice B m cb) := (HX10.out.cell 2).trans rfl
              have g2 : (2 : Int) ≤ (x : Int) + 2 := by omega
              have g3 : IntKind.i64.wrap ((x : Int) + 2) = (x : Int) + 2 := by rw [IntKind.wrap_i64]; omega
              go_wp2_with (go_at_call 9; (with_reducible refine hC4.mono ?_); rintro e w11 ⟨rfl, hb11⟩; obtain ⟨z0, z1, z2⟩ := HF9.out w11 hb11; have HB11 := Lib.hid hb11; clear hb11)
              go_ret
              exact ⟨rfl, below_self HB10.out HB11.out⟩
end Go.Proofs.YtjkmoahnociaiaaDoor
