/- Values: the document's text. -/
import Derived.Test.YtjkmoahnociaiaaS4
import Derived.Test.YtjkmoahnociaiaaX7
import Derived.Deep.RegionHeld3
namespace Go.Proofs.Ytjkmoahnociaiaa
open Go.RowKit

/-- A row of truths set beside a row of numbers. -/
theorem stored {W1 W4 : World} {bv oi p k co : Nat} {L : List Nat} {v : List Bool} {u : Bool} (hO : Owns W4 W1.heap.size 3 (.slice (some ⟨oi, 0, none⟩) k co) (ints L)) (hV : Owns W4 bv 4 (.slice (some ⟨bv, 0, none⟩) k k) (bools v)) (hu : v[p]? = some u)
    (hB : Below W1.heap.size W1 W4) (hbv : W1.heap.size ≤ bv) (nn : Nat) (xb : Bool) :
    Hid (Owns ((W4.drewN nn).setCell ⟨bv, p, none⟩ (.bool xb)) W1.heap.size 3 (.slice (some ⟨oi, 0, none⟩) k co) (ints L)) ∧ Hid (Owns ((W4.drewN nn).setCell ⟨bv, p, none⟩ (.bool xb)) bv 4 (.slice (some ⟨bv, 0, none⟩) k k) (bools (v.set p xb))) ∧ Hid (Below W1.heap.size W1 ((W4.drewN nn).setCell ⟨bv, p, none⟩ (.bool xb))) := by
  have hb : Below W4.heap.size W4 (W4.drewN nn) := below_drewN (Below.refl _ _) nn
  have hV2 := hV.below hb
  have hO2 := hO.below hb
  obtain ⟨_, _, h3⟩ := hV2.own (bools_get hu)
  refine ⟨Lib.hid (hO2.aside (hV2.typed rfl) (by decide) (only_setCell (only_refl _ (some bv)) (p := ⟨bv, p, none⟩) (.inl rfl) (.bool xb))), Lib.hid (by rw [← bools_set]; exact h3 _), Lib.hid (below_set (below_then hB hB.size hb) hbv (below_then hB hB.size hb).size p _)⟩
theorem bit_same (x : Bool) (w : World) : Calls Try.prog 56 #[.bool x] w fun e w' => e = .returned (.int .i64 (if x = true then 1 else 0)) ∧ w' = w := by
  go_enter Try.func56, Try.ntmps56
  cases x
  · go_wp2
    go_ret
    exact ⟨rfl, rfl⟩
  · go_wp2
    go_ret
    exact ⟨rfl, rfl⟩

set_option maxRecDepth 100000 in
set_option maxHeartbeats 8000000 in
theorem values_ref (gs : List Gt) (ins las : List Bool) (name : ByteArray) (A B AI AL : Option Addr) (n m ni nl ca cb ci cl : Nat) (w : World) (hA : CReads w A (gcells gs)) (hI : CReads w AI (bools ins)) (hL : CReads w AL (bools las))
    (hF : Fits gs ins las n) (hni : ins.length = ni) (hnl : las.length = nl) :
    Calls Try.prog 41 #[.agg #[.string name, .slice A n ca, .slice B m cb], .slice AI ni ci, .slice AL nl cl] w (fun e w' => NewB w (theV gs ins las) e w' ∧ Val gs ins las (theV gs ins las)) := by
  have hbl := below1 w (.cells #[.string name, .slice A n ca, .slice B m cb] 25)
  have HX := Lib.hid (Blk.new w 25 [.string name, .slice A n ca, .slice B m cb])
  have HA := Lib.hid (hA.below hbl); have HI := Lib.hid (hI.below hbl); have HL := Lib.hid (hL.below hbl); have HB0 := Lib.hid hbl
  have HF := Lib.hid hF; have HNI := Lib.hid hni; have HNL := Lib.hid hnl; have HN := Lib.hid hF.gl
  have hn1 := hF.le
  have hm1 := run_makeRep (P := Try.prog) Try.underlying35 info_bool rfl n (by omega) (by omega)
  clear hA hI hL hF hni hnl hbl
  go_enter Try.func41, Try.ntmps41
  go_upto_region 1 with (fail)
  change Code.wp _ _ _ _ (w.alloc (.cells #[.string name, .slice A n ca, .slice B m cb] 25))
  generalize w.alloc (.cells #[.string name, .slice A n ca, .slice B m cb] 25) = W1 at *
  obtain ⟨bx, hbx⟩ : ∃ bx, w.heap.size = bx := ⟨_, rfl⟩
  rw [hbx] at HX ⊢
  clear hbx
  have x1 : W1.cell? ⟨bx, 1, none⟩ = some (.slice A n ca) := (HX.out.cell 1).trans rfl
  have HV0 : Hid (Owns (W1.alloc (.cells (List.replicate n (Value.bool false)).toArray 4)) W1.heap.size 4 (.slice (some ⟨W1.heap.size, 0, none⟩) n n) (bools (base0 gs ins las 0))) := Lib.hid (by
    rw [base0_zero, bools_rep, HN.out]
    exact Owns.made (by unfold maxLen; omega))
  have HBW := Lib.hid (below1 W1 (.cells (List.replicate n (Value.bool false)).toArray 4))
  go_upto_region 2 with (fail)
  change Code.wp _ _ _ _ (W1.alloc (.cells (List.replicate n (Value.bool false)).toArray 4))
  generalize W1.alloc (.cells (List.replicate n (Value.bool false)).toArray 4) = W2 at *
  clear x1 hm1
  have x1 : W2.cell? ⟨bx, 1, none⟩ = some (.slice A n ca) := ((HX.out.self HBW.out).cell 1).trans rfl
  obtain ⟨bv, hbv⟩ : ∃ bv, W1.heap.size = bv := ⟨_, rfl⟩
  rw [hbv] at HV0 ⊢
  have HBV := Lib.hid hbv
  clear hbv
  go_upto_region 5 with (fail)
  clear x1
  go_loopw [8, 9, 10] (fun s10 s11 s25 wr => ∃ k i l : Nat, k ≤ n ∧ i ≤ k ∧ l ≤ k ∧ s10 = .int .i64 i ∧ s11 = .int .i64 l ∧ s25 = .int .i64 k ∧ Hid (cntK gs 1 k = i) ∧ Hid (cntK gs 3 k = l) ∧ Hid (Owns wr bv 4 (.slice (some ⟨bv, 0, none⟩) n n) (bools (base0 gs ins las k))) ∧ Hid (Below W1.heap.size W1 wr)) (fun _ _ k _ => n - (intOf k).toNat)
  case atStart => exact ⟨0, 0, 0, by omega, by omega, by omega, rfl, rfl, rfl, Lib.hid (cntK_zero _ _), Lib.hid (cntK_zero _ _), HV0, HBW⟩
  case round =>
    clear HV0 HBW
    obtain ⟨k, i, l, hk, hik, hlk, rfl, rfl, rfl, HCi, HCl, HV, HB⟩ := hrel
    by_cases hlt : k < n
    · obtain ⟨g, hg⟩ : ∃ g, gs[k]? = some g := ⟨_, List.getElem?_eq_getElem (by rw [HN.out]; exact hlt)⟩
      obtain ⟨ab, ao, rfl, hc⟩ := greads_at HA.out hg
      obtain ⟨c0, c1, c2, c3, c4, c5⟩ := hc.below HB.out
      have HGG := Lib.hid hg
      obtain ⟨kd, nm, op, a, b, cx⟩ := g
      dsimp only at *
      have hk0 : (0 : Int) ≤ (k : Int) := by omega
      have hkn : (k : Int) < (n : Int) := by omega
      clear hg hc
      have HV1 := HV
      have HB1 := HB
      have x1 : wr.cell? ⟨bx, 1, none⟩ = some (.slice (some ⟨ab, ao, none⟩) n ca) := ((HX.out.self HB.out).cell 1).trans rfl
      clear HV HB c1 c2 c3 c4 c5
      obtain ⟨u, hu⟩ : ∃ u, (base0 gs ins las k)[k]? = some u := ⟨_, List.getElem?_eq_getElem (by rw [base0_length, HN.out]; exact hlt)⟩
      obtain ⟨v1, v2, v3⟩ := HV1.out.own (bools_get hu)
      by_cases h1 : kd = 1
      · have hci := cntK_lt HGG.out h1 HN.out
        rw [HCi.out, ← HF.out.ni] at hci
        obtain ⟨x, hx⟩ : ∃ x, ins[i]? = some x := ⟨_, List.getElem?_eq_getElem hci⟩
        have hbs : baseV gs ins las k ⟨kd, nm, op, a, b, cx⟩ = x := by
          unfold baseV
          rw [if_pos h1, HCi.out, List.getD_eq_getElem?_getD, hx]
          rfl
        have HVn : Hid (Owns (wr.setCell ⟨bv, k, none⟩ (.bool x)) bv 4 (.slice (some ⟨bv, 0, none⟩) n n) (bools (base0 gs ins las (k + 1)))) := Lib.hid (by
          rw [base0_step HGG.out, hbs, ← bools_set]
          exact v3 _)
        have HBn : Hid (Below W1.heap.size W1 (wr.setCell ⟨bv, k, none⟩ (.bool x))) := Lib.hid (below_set HB1.out (by rw [HBV.out]; exact Nat.le_refl _) HB1.out.size k _)
        obtain ⟨ib, io, rfl, hi1⟩ := bat (HI.out.below HB1.out) hx
        have hCin : Hid (cntK gs 1 (k + 1) = i + 1) := Lib.hid (by rw [cntK_yes HGG.out h1, HCi.out])
        have hCln : Hid (cntK gs 3 (k + 1) = l) := Lib.hid (by rw [cntK_no HGG.out (by dsimp only; omega), HCl.out])
        have hini : (i : Int) < (ni : Int) := by have := HNI.out; omega
        have hi0 : (0 : Int) ≤ (i : Int) := by omega
        subst h1
        clear hci hx hbs v3 HV1 HB1 hu
        go_wp2
        go_roundw
        case rel => exact ⟨k + 1, i + 1, l, by omega, by omega, by omega, by go_num, rfl, by go_num, hCin, hCln, HVn, HBn⟩
        case measure => simp [intOf]; omega
      · by_cases h3 : kd = 3
        · have hci := cntK_lt HGG.out h3 HN.out
          rw [HCl.out, ← HF.out.nl] at hci
          obtain ⟨x, hx⟩ : ∃ x, las[l]? = some x := ⟨_, List.getElem?_eq_getElem hci⟩
          have hbs : baseV gs ins las k ⟨kd, nm, op, a, b, cx⟩ = x := by
            unfold baseV
            rw [if_neg h1, if_pos h3, HCl.out, List.getD_eq_getElem?_getD, hx]
            rfl
          have HVn : Hid (Owns (wr.setCell ⟨bv, k, none⟩ (.bool x)) bv 4 (.slice (some ⟨bv, 0, none⟩) n n) (bools (base0 gs ins las (k + 1)))) := Lib.hid (by
            rw [base0_step HGG.out, hbs, ← bools_set]
            exact v3 _)
          have HBn : Hid (Below W1.heap.size W1 (wr.setCell ⟨bv, k, none⟩ (.bool x))) := Lib.hid (below_set HB1.out (by rw [HBV.out]; exact Nat.le_refl _) HB1.out.size k _)
          obtain ⟨ib, io, rfl, hi1⟩ := bat (HL.out.below HB1.out) hx
          have hCin : Hid (cntK gs 1 (k + 1) = i) := Lib.hid (by rw [cntK_no HGG.out h1, HCi.out])
          have hCln : Hid (cntK gs 3 (k + 1) = l + 1) := Lib.hid (by rw [cntK_yes HGG.out h3, HCl.out])
          have hini : (l : Int) < (nl : Int) := by have := HNL.out; omega
          have hi0 : (0 : Int) ≤ (l : Int) := by omega
          subst h3
          clear hci hx hbs v3 HV1 HB1 hu
          go_wp2
          go_roundw
          case rel => exact ⟨k + 1, i, l + 1, by omega, by omega, by omega, rfl, by go_num, by go_num, hCin, hCln, HVn, HBn⟩
          case measure => simp [intOf]; omega
        · have HVn : Hid (Owns wr bv 4 (.slice (some ⟨bv, 0, none⟩) n n) (bools (base0 gs ins las (k + 1)))) := Lib.hid (by rw [base0_none HGG.out h1 h3]; exact HV1.out)
          have hCin : Hid (cntK gs 1 (k + 1) = i) := Lib.hid (by rw [cntK_no HGG.out h1, HCi.out])
          have hCln : Hid (cntK gs 3 (k + 1) = l) := Lib.hid (by rw [cntK_no HGG.out h3, HCl.out])
          clear v1 v2 v3 HV1 hu
          go_wp2
          go_roundw
          case rel => exact ⟨k + 1, i, l, by omega, by omega, by omega, rfl, rfl, by go_num, hCin, hCln, HVn, HB1⟩
          case measure => simp [intOf]; omega
    · obtain rfl : k = n := by omega
      have hf := HF.out
      have hir : InR gs := LinesP.inR (by rw [HN.out]; exact hf.lines)
      have hcall : Calls Try.prog 55 #[.slice A k ca] wr fun e w' => ∃ AO co L, e = .returned (.slice AO k co) ∧ Hid (Owns w' wr.heap.size 3 (.slice AO k co) (ints L)) ∧ Hid (IsOrder k (lnsOf gs) L) ∧ Hid (L.length = k) ∧ Hid (∀ i, i < gs.length → i ∈ L) ∧ Below wr.heap.size wr w' := by
        refine (layers_any A k ca gs wr (HA.out.below HB.out) HN.out hir (by omega)).mono ?_
        rintro e w' ⟨v, L, rfl, ho, hi, hb⟩
        have hll : L.length = k := ((order_all hi hir.lt).2 hf.free).trans HN.out
        obtain ⟨AO, co, rfl⟩ := ho.form
        rw [ints_length, hll] at ho ⊢
        exact ⟨AO, co, L, rfl, Lib.hid ho, Lib.hid (by rw [← HN.out]; exact hi), Lib.hid hll, Lib.hid (order_mem hi hf.free hir), hb⟩
      have x1 : wr.cell? ⟨bx, 1, none⟩ = some (.slice A k ca) := ((HX.out.self HB.out).cell 1).trans rfl
      clear HCi HCl hf hir
      go_upto_region 15 with (go_at_call 55; with_reducible refine hcall.mono ?_; rintro e w3 ⟨AO, co, L, rfl, hO3, HOr, HOL, HMem, hb3⟩)
      have HK : Hid (ValK gs ins las (base0 gs ins las k) L 0) := Lib.hid (by
        have := ValK.start (gs := gs) (ins := ins) (las := las) (L := L)
        rwa [HN.out] at this)
      have HO3 := Lib.hid (hO3.out.more HB.out.size)
      have HV3 := Lib.hid (HV.out.below hb3)
      have HB3 := Lib.hid (below_then HB.out HB.out.size hb3)
      clear hcall x1 hO3 hb3 HV HB
      go_upto_region 16 with (fail)
      go_loopw [12] (fun s12 wr => ∃ (j : Nat) (v : List Bool), j ≤ k ∧ s12 = .int .i64 j ∧ Hid (ValK gs ins las v L j) ∧ Hid (Owns wr W1.heap.size 3 (.slice AO k co) (ints L)) ∧ Hid (Owns wr bv 4 (.slice (some ⟨bv, 0, none⟩) k k) (bools v)) ∧ Hid (Below W1.heap.size W1 wr)) (fun s12 _ => k - (intOf s12).toNat)
      case atStart => exact ⟨0, _, by omega, rfl, HK, HO3, HV3, HB3⟩
      case round =>
        clear HK HV3 HB3 HO3
        obtain ⟨j, v, hj, rfl, HK, HO, HV, HB⟩ := hrel
        have x1 : wr.cell? ⟨bx, 1, none⟩ = some (.slice A k ca) := ((HX.out.self HB.out).cell 1).trans rfl
        by_cases hlt2 : j < k
        · obtain ⟨p, hp⟩ : ∃ p, L[j]? = some p := ⟨_, List.getElem?_eq_getElem (by rw [HOL.out]; exact hlt2)⟩
          have hpn : p < k := HOr.out.lt p (List.mem_of_getElem? hp)
          obtain ⟨g, hg⟩ : ∃ g, gs[p]? = some g := ⟨_, List.getElem?_eq_getElem (by rw [HN.out]; exact hpn)⟩
          obtain ⟨oi, rfl, ho1⟩ := HO.out.first (ints_get hp)
          obtain ⟨ab, ao, rfl, hc⟩ := greads_at HA.out hg
          obtain ⟨c0, c1, c2, c3, c4, c5⟩ := hc.below HB.out
          have HGG := Lib.hid hg
          have HP := Lib.hid hp
          have hfl := (HF.out.lines g (List.mem_of_getElem? hg)).2
          have HLn := HN.out
          have HKn := HK.out.next (by rw [HN.out]; exact HOr.out) hp hg
          have HKs := Lib.hid (fun h2 h4 => HK.out.skip (by rw [HN.out]; exact HOr.out) hp hg h2 h4)
          obtain ⟨kd, nm, op, a, b, cx⟩ := g
          dsimp only at *
          have hj0 : (0 : Int) ≤ (j : Int) := by omega
          have hjk : (j : Int) < (k : Int) := by omega
          have hp0 : (0 : Int) ≤ (p : Int) := by omega
          have hpk : (p : Int) < (k : Int) := by omega
          clear hg hc hp
          have hbl := below_drew0 (below1 wr (.cells #[.int .i64 kd, .string nm, .int .i64 op, .int .i64 a, .int .i64 b, .int .i64 cx] 33))
          have HV1 := Lib.hid (HV.out.below hbl)
          have HO1 := Lib.hid (HO.out.below hbl)
          have HB1 := Lib.hid (below_then HB.out HB.out.size hbl)
          have hG1 : Blk (wr.alloc (.cells #[.int .i64 kd, .string nm, .int .i64 op, .int .i64 a, .int .i64 b, .int .i64 cx] 33)).drew wr.heap.size 33 [.int .i64 kd, .string nm, .int .i64 op, .int .i64 a, .int .i64 b, .int .i64 cx] := Blk.new wr 33 [.int .i64 kd, .string nm, .int .i64 op, .int .i64 a, .int .i64 b, .int .i64 cx]
          have hbo : bv < wr.heap.size := (HV.out.lt rfl).2
          clear HV HB hbl HO
          go_upto_region 18 with (fail)
          go_region_held3 (fun w' => w'.cell? ⟨bx, 1, none⟩ = some (.slice (some ⟨ab, ao, none⟩) k ca) ∧ w'.cell? ⟨oi, j, none⟩ = some (.int .i64 p) ∧ w'.cell? ⟨ab, ao + p * 6, none⟩ = some (.int .i64 kd) ∧ w'.cell? ⟨ab, ao + p * 6 + 1, none⟩ = some (.string nm) ∧ w'.cell? ⟨ab, ao + p * 6 + 2, none⟩ = some (.int .i64 op) ∧ w'.cell? ⟨ab, ao + p * 6 + 3, none⟩ = some (.int .i64 a) ∧ w'.cell? ⟨ab, ao + p * 6 + 4, none⟩ = some (.int .i64 b) ∧ w'.cell? ⟨ab, ao + p * 6 + 5, none⟩ = some (.int .i64 cx))
            (first | go_keep | exact ⟨x1, ho1, c0, c1, c2, c3, c4, c5⟩) (first | ((fail)))
          go_upto_region 19 with (fail)
          clear c0 c1 c2 c3 c4 c5 x1 ho1
          change Code.wp _ _ _ _ (wr.alloc (.cells #[.int .i64 kd, .string nm, .int .i64 op, .int .i64 a, .int .i64 b, .int .i64 cx] 33)).drew
          generalize (wr.alloc (.cells #[.int .i64 kd, .string nm, .int .i64 op, .int .i64 a, .int .i64 b, .int .i64 cx] 33)).drew = W4 at *
          obtain ⟨ob, hob⟩ : ∃ ob, wr.heap.size = ob := ⟨_, rfl⟩
          rw [hob] at hG1 hbo ⊢
          have HG1 := Lib.hid hG1
          have c0 : W4.cell? ⟨ob, 0, none⟩ = some (.int .i64 kd) := (hG1.cell 0).trans rfl
          obtain ⟨_, e, ho1⟩ := HO1.out.first (ints_get HP.out)
          cases e
          clear hob hG1
          have hvl : v.length = k := HK.out.len.trans HN.out
          have HVL := Lib.hid hvl
          have at_ : ∀ q : Nat, q < k → ∃ x, v[q]? = some x := fun q hq => ⟨_, List.getElem?_eq_getElem (by rw [HVL.out]; exact hq)⟩
          obtain ⟨u, hu⟩ := at_ p hpn
          obtain ⟨v1, v2, v3⟩ := HV1.out.own (bools_get hu)
          by_cases h2 : kd = 2
          · have hf2 : 0 ≤ op ∧ op ≤ 15 ∧ PlaceP a k ∧ PlaceP b k := by
              unfold FieldsP PlaceP at hfl
              unfold PlaceP
              dsimp only at hfl
              omega
            obtain ⟨ho0, ho15, ⟨ha0, hak⟩, hb0, hbk⟩ := hf2
            obtain ⟨pa, rfl⟩ : ∃ pa : Nat, a = (pa : Int) := ⟨a.toNat, by omega⟩
            obtain ⟨pb, rfl⟩ : ∃ pb : Nat, b = (pb : Int) := ⟨b.toNat, by omega⟩
            obtain ⟨va, hva⟩ := at_ pa (by omega)
            obtain ⟨vb, hvb⟩ := at_ pb (by omega)
            obtain ⟨y1, _, _⟩ := HV1.out.own (bools_get hva)
            obtain ⟨y2, _, _⟩ := HV1.out.own (bools_get hvb)
            have hr : ruleV gs ins las v p ⟨kd, nm, op, (pa : Int), (pb : Int), cx⟩ = opBit op (2 * bitI va + bitI vb) := by
              unfold ruleV
              rw [if_pos h2]
              simp only [Int.toNat_natCast, List.getD_eq_getElem?_getD, hva, hvb]
              rfl
            have c2 : W4.cell? ⟨ob, 2, none⟩ = some (.int .i64 op) := (HG1.out.cell 2).trans rfl
            have c3 : W4.cell? ⟨ob, 3, none⟩ = some (.int .i64 pa) := (HG1.out.cell 3).trans rfl
            have c4 : W4.cell? ⟨ob, 4, none⟩ = some (.int .i64 pb) := (HG1.out.cell 4).trans rfl
            subst h2
            obtain ⟨b0, b1, b2, b3⟩ := opBit_bits ho0 ho15
            have hst : ∀ nn xb, Hid (Owns ((W4.drewN nn).setCell ⟨bv, p, none⟩ (.bool xb)) W1.heap.size 3 (.slice (some ⟨oi, 0, none⟩) k co) (ints L)) ∧ Hid (Owns ((W4.drewN nn).setCell ⟨bv, p, none⟩ (.bool xb)) bv 4 (.slice (some ⟨bv, 0, none⟩) k k) (bools (v.set p xb))) ∧ Hid (Below W1.heap.size W1 ((W4.drewN nn).setCell ⟨bv, p, none⟩ (.bool xb))) := fun nn xb => stored HO1.out HV1.out hu HB1.out (by rw [HBV.out]; exact Nat.le_refl _) nn xb
            have HST := Lib.hid hst
            have HRU := Lib.hid hr
            clear v3 HV1 HB1 hu hva hvb hr HO1 hst
            cases va <;> cases vb
            · obtain ⟨xb, hxb⟩ : ∃ xb, opBit op 0 = xb := ⟨_, rfl⟩
              rw [hxb] at b0
              have HKf : Hid (ValK gs ins las (v.set p xb) L (j + 1)) := Lib.hid (by have := HKn; rw [HRU.out] at this; rw [← hxb]; exact this)
              have e : (bits BinOp.and IntKind.i64 (op / 2 ^ min 0 64) 1 == 1) = xb := by rw [← b0]; simp
              clear HKn b0 b1 b2 b3 hxb HRU
              go_upto_region 21 with (fail)
              go_quiet ((go_at_call 56; exact Calls.quiet_of_same (bit_same _ _)))
              go_upto_region 22 with (fail)
              go_region_with (fail)
              all_goals
                go_wp2
                go_roundw
                case rel =>
                  rw [e]
                  exact ⟨j + 1, _, by omega, by go_num, HKf, HST.out _ xb⟩
                case measure => simp [intOf]; omega
            · obtain ⟨xb, hxb⟩ : ∃ xb, opBit op 1 = xb := ⟨_, rfl⟩
              rw [hxb] at b1
              have HKf : Hid (ValK gs ins las (v.set p xb) L (j + 1)) := Lib.hid (by have := HKn; rw [HRU.out] at this; rw [← hxb]; exact this)
              have e : (bits BinOp.and IntKind.i64 (op / 2 ^ min 1 64) 1 == 1) = xb := b1
              clear HKn b0 b1 b2 b3 hxb HRU
              go_upto_region 21 with (fail)
              go_quiet ((go_at_call 56; exact Calls.quiet_of_same (bit_same _ _)))
              go_upto_region 22 with (fail)
              go_region_with (fail)
              all_goals
                go_wp2
                go_roundw
                case rel =>
                  rw [e]
                  exact ⟨j + 1, _, by omega, by go_num, HKf, HST.out _ xb⟩
                case measure => simp [intOf]; omega
            · obtain ⟨xb, hxb⟩ : ∃ xb, opBit op 2 = xb := ⟨_, rfl⟩
              rw [hxb] at b2
              have HKf : Hid (ValK gs ins las (v.set p xb) L (j + 1)) := Lib.hid (by have := HKn; rw [HRU.out] at this; rw [← hxb]; exact this)
              have e : (bits BinOp.and IntKind.i64 (op / 2 ^ min 2 64) 1 == 1) = xb := b2
              clear HKn b0 b1 b2 b3 hxb HRU
              go_upto_region 21 with (fail)
              go_quiet ((go_at_call 56; exact Calls.quiet_of_same (bit_same _ _)))
              go_upto_region 22 with (fail)
              go_region_with (fail)
              all_goals
                go_wp2
                go_roundw
                case rel =>
                  rw [e]
                  exact ⟨j + 1, _, by omega, by go_num, HKf, HST.out _ xb⟩
                case measure => simp [intOf]; omega
            · obtain ⟨xb, hxb⟩ : ∃ xb, opBit op 3 = xb := ⟨_, rfl⟩
              rw [hxb] at b3
              have HKf : Hid (ValK gs ins las (v.set p xb) L (j + 1)) := Lib.hid (by have := HKn; rw [HRU.out] at this; rw [← hxb]; exact this)
              have e : (bits BinOp.and IntKind.i64 (op / 2 ^ min 3 64) 1 == 1) = xb := b3
              clear HKn b0 b1 b2 b3 hxb HRU
              go_upto_region 21 with (fail)
              go_quiet ((go_at_call 56; exact Calls.quiet_of_same (bit_same _ _)))
              go_upto_region 22 with (fail)
              go_region_with (fail)
              all_goals
                go_wp2
                go_roundw
                case rel =>
                  rw [e]
                  exact ⟨j + 1, _, by omega, by go_num, HKf, HST.out _ xb⟩
                case measure => simp [intOf]; omega
          · by_cases h4 : kd = 4
            · have hf4 : PlaceP a k ∧ PlaceP b k ∧ PlaceP cx k := by
                unfold FieldsP PlaceP at hfl
                unfold PlaceP
                dsimp only at hfl
                omega
              obtain ⟨⟨ha0, hak⟩, ⟨hb0, hbk⟩, hx0, hxk⟩ := hf4
              obtain ⟨pa, rfl⟩ : ∃ pa : Nat, a = (pa : Int) := ⟨a.toNat, by omega⟩
              obtain ⟨pb, rfl⟩ : ∃ pb : Nat, b = (pb : Int) := ⟨b.toNat, by omega⟩
              obtain ⟨pc, rfl⟩ : ∃ pc : Nat, cx = (pc : Int) := ⟨cx.toNat, by omega⟩
              obtain ⟨va, hva⟩ := at_ pa (by omega)
              obtain ⟨vb, hvb⟩ := at_ pb (by omega)
              obtain ⟨vc, hvc⟩ := at_ pc (by omega)
              have hne := order_ne HOr.out HP.out
              rw [lnsOf_at HGG.out] at hne
              unfold Gt.lns Gt.leans at hne
              rw [if_neg h2, if_pos h4] at hne
              have hnea : pa ≠ p := hne pa (by simp)
              have hneb : pb ≠ p := hne pb (by simp)
              have hr : ruleV gs ins las v p ⟨kd, nm, op, (pa : Int), (pb : Int), (pc : Int)⟩ = if va then vb else vc := by
                unfold ruleV
                rw [if_neg h2, if_pos h4]
                simp only [Int.toNat_natCast, List.getD_eq_getElem?_getD, hva, hvb, hvc]
                rfl
              obtain ⟨y1, _, _⟩ := HV1.out.own (bools_get hvc)
              have c5 : W4.cell? ⟨ob, 5, none⟩ = some (.int .i64 pc) := (HG1.out.cell 5).trans rfl
              have HST := Lib.hid (fun nn => stored HO1.out HV1.out hu HB1.out (by rw [HBV.out]; exact Nat.le_refl _) nn vc)
              have HG5 : Hid (∀ nn, Blk ((W4.drewN nn).setCell ⟨bv, p, none⟩ (.bool vc)) ob 33 [.int .i64 kd, .string nm, .int .i64 op, .int .i64 pa, .int .i64 pb, .int .i64 pc]) := Lib.hid (fun nn => Blk.grown (HG1.out.self (below_drewN (Below.refl _ _) nn)) (only_setCell (only_refl _ (some bv)) (p := ⟨bv, p, none⟩) (.inl rfl) (.bool vc)) (by intro e; have := Option.some.inj e; omega))
              have hva5 : (v.set p vc)[pa]? = some va := by rw [List.getElem?_set_ne (Ne.symm hnea)]; exact hva
              have hvb5 : (v.set p vc)[pb]? = some vb := by rw [List.getElem?_set_ne (Ne.symm hneb)]; exact hvb
              have hvp5 : (v.set p vc)[p]? = some vc := by rw [List.getElem?_set_self (by rw [HVL.out]; exact hpn)]
              have HRU := Lib.hid hr
              subst h4
              clear v3 HV1 HB1 HG1 HO1 hu hva hvb hvc hr hne hnea hneb
              go_upto_region 24 with (fail)
              go_cut [] (fun wx => Hid (Owns wx W1.heap.size 3 (.slice (some ⟨oi, 0, none⟩) k co) (ints L)) ∧ Hid (Owns wx bv 4 (.slice (some ⟨bv, 0, none⟩) k k) (bools (v.set p vc))) ∧ Hid (Below W1.heap.size W1 wx) ∧ Hid (Blk wx ob 33 [.int .i64 4, .string nm, .int .i64 op, .int .i64 pa, .int .i64 pb, .int .i64 pc]))
              case first =>
                go_region_with (fail)
                all_goals
                  go_wp2_with fail
                  go_meet
                  have hs := HST.out 1
                  exact ⟨hs.1, hs.2.1, hs.2.2, Lib.hid (HG5.out 1)⟩
              obtain ⟨HO5, HV5, HB5, HG6⟩ := hcut
              clear c0 v1 v2 y1 c5 HST HG5 ho1
              generalize wc = W5 at *
              have c3 : W5.cell? ⟨ob, 3, none⟩ = some (.int .i64 pa) := (HG6.out.cell 3).trans rfl
              have c4 : W5.cell? ⟨ob, 4, none⟩ = some (.int .i64 pb) := (HG6.out.cell 4).trans rfl
              obtain ⟨_, e, ho1⟩ := HO5.out.first (ints_get HP.out)
              cases e
              obtain ⟨y1, _, _⟩ := HV5.out.own (bools_get hva5)
              obtain ⟨y2, _, _⟩ := HV5.out.own (bools_get hvb5)
              obtain ⟨v1, v2, v3⟩ := HV5.out.own (bools_get hvp5)
              cases va
              · have HKf : Hid (ValK gs ins las (v.set p vc) L (j + 1)) := Lib.hid (by have := HKn; rw [HRU.out] at this; exact this)
                clear v3 hva5 hvb5 hvp5
                go_wp2
                go_roundw
                case rel => exact ⟨j + 1, _, by omega, by go_num, HKf, HO5, HV5, HB5⟩
                case measure => simp [intOf]; omega
              · have HKf : Hid (ValK gs ins las ((v.set p vc).set p vb) L (j + 1)) := Lib.hid (by have := HKn; rw [HRU.out] at this; rw [List.set_set]; exact this)
                have HST := Lib.hid (fun nn => stored HO5.out HV5.out hvp5 HB5.out (by rw [HBV.out]; exact Nat.le_refl _) nn vb)
                clear v3 hva5 hvb5 hvp5
                go_upto_region 26 with (fail)
                go_region_with (fail)
                all_goals
                  go_wp2
                  go_roundw
                  case rel => exact ⟨j + 1, _, by omega, by go_num, HKf, HST.out 1⟩
                  case measure => simp [intOf]; omega
            · have HKf := Lib.hid (HKs.out h2 h4)
              clear v1 v2 v3 hu HKn HKs
              go_wp2
              go_roundw
              case rel => exact ⟨j + 1, _, by omega, by go_num, HKf, HO1, HV1, HB1⟩
              case measure => simp [intOf]; omega
        · obtain rfl : j = k := by omega
          have hf := HF.out
          have hr : InR gs := LinesP.inR (by rw [HN.out]; exact hf.lines)
          have hvv : Val gs ins las v := by
            have h1 := HK.out
            rw [← HOL.out] at h1
            exact h1.fin HMem.out
          have hv := hvv.the hf.free hr
          have HVV : Hid (Val gs ins las (theV gs ins las)) := Lib.hid (hv ▸ hvv)
          have HOf := Lib.hid (HV.out.more (base' := w.heap.size) (by rw [← HBV.out]; exact HB0.out.size))
          have HBf := Lib.hid (below_then HB0.out HB0.out.size HB.out)
          rw [hv] at HOf
          clear HV HB HK hv HO hvv hf hr
          go_wp2
          go_ret
          exact ⟨NewB.of rfl HOf.out HBf.out, HVV.out⟩
end Go.Proofs.Ytjkmoahnociaiaa
