/- values: the program's text. -/
import Derived.Test.YtjkmoahnociaiaaS3
namespace Go.Proofs.Ytjkmoahnociaiaa
open Go.RowKit

theorem bat {w : World} {A : Option Addr} {l : List Bool} (h : CReads w A (bools l)) {i : Nat} {x : Bool} (hx : l[i]? = some x) : ∃ b o, A = some ⟨b, o, none⟩ ∧ w.cell? ⟨b, o + i, none⟩ = some (.bool x) := h.at_ (bools_get hx)
theorem Owns.made {w : World} {e : TypeId} {n : Nat} {z : Value} (hn : n ≤ maxLen) : Owns (w.alloc (.cells (List.replicate n z).toArray e)) w.heap.size e (.slice (some ⟨w.heap.size, 0, none⟩) n n) (List.replicate n z) :=
  ((Hold.nil w w.heap.size).made (Nat.le_refl _) hn).owns (i := 0) rfl
theorem Owns.own {w : World} {base n c g : Nat} {e : TypeId} {xs : List Value} (h : Owns w base e (.slice (some ⟨g, 0, none⟩) n c) xs) {u : Value} {j : Nat} (hj : xs[j]? = some u) : w.cell? ⟨g, j, none⟩ = some u ∧ w.frozen? ⟨g, j, none⟩ = false ∧ ∀ u', Owns (w.setCell ⟨g, j, none⟩ u') base e (.slice (some ⟨g, 0, none⟩) n c) (xs.set j u') := by
  obtain ⟨g', e, h1, h2, h3⟩ := h.set1 hj
  cases e
  exact ⟨h1, h2, h3⟩
theorem below_set {B : Nat} {a w : World} (h : Below B a w) {g : Nat} (hg : B ≤ g) (hB : B ≤ w.heap.size) (j : Nat) (u : Value) : Below B a (w.setCell ⟨g, j, none⟩ u) :=
  h.grown (only_setCell (only_refl w (some g)) (p := ⟨g, j, none⟩) (.inl rfl) u) hB (fun g' e => by cases e; exact hg)
theorem bits_one {x : Int} (h0 : 0 ≤ x) (h1 : x ≤ 15) : (bits BinOp.and IntKind.i64 x 1 == 1) = decide (x % 2 = 1) := by
  have : x = 0 ∨ x = 1 ∨ x = 2 ∨ x = 3 ∨ x = 4 ∨ x = 5 ∨ x = 6 ∨ x = 7 ∨ x = 8 ∨ x = 9 ∨ x = 10 ∨ x = 11 ∨ x = 12 ∨ x = 13 ∨ x = 14 ∨ x = 15 := by omega
  rcases this with rfl | rfl | rfl | rfl | rfl | rfl | rfl | rfl | rfl | rfl | rfl | rfl | rfl | rfl | rfl | rfl <;> decide
theorem opBit_bits {op : Int} (h0 : 0 ≤ op) (h1 : op ≤ 15) : (bits BinOp.and IntKind.i64 op 1 == 1) = opBit op 0 ∧ (bits BinOp.and IntKind.i64 (op / 2) 1 == 1) = opBit op 1 ∧ (bits BinOp.and IntKind.i64 (op / 4) 1 == 1) = opBit op 2 ∧ (bits BinOp.and IntKind.i64 (op / 8) 1 == 1) = opBit op 3 := by
  unfold opBit
  refine ⟨?_, ?_, ?_, ?_⟩
  · rw [bits_one h0 h1]; simp
  · rw [bits_one (by omega) (by omega)]; simp
  · rw [bits_one (by omega) (by omega)]; rfl
  · rw [bits_one (by omega) (by omega)]; rfl
theorem order_ne {n : Nat} {f : Nat → List Nat} {L : List Nat} (h : IsOrder n f L) {j p : Nat} (hp : L[j]? = some p) : ∀ q ∈ f p, q ≠ p := by
  intro q hq e
  subst e
  have h1 := h.topo j q hp q hq
  obtain ⟨i, hi⟩ := List.mem_iff_getElem?.1 h1
  rw [List.getElem?_take] at hi
  split at hi
  · rename_i hij
    have k1 := List.getElem?_eq_some_iff.1 hi
    have k2 := List.getElem?_eq_some_iff.1 hp
    have := (List.getElem_inj (i := i) (j := j) (h₀ := k1.1) (h₁ := k2.1) h.nd).1 (by rw [k1.2, k2.2])
    omega
  · cases hi
/-- What values asks for. -/
structure Fits (gs : List Gt) (ins las : List Bool) (n : Nat) : Prop where
  gl : gs.length = n
  lines : LinesP n gs
  free : AllFree gs
  ni : ins.length = cntK gs 1 n
  nl : las.length = cntK gs 3 n
  le : n ≤ 65536
set_option maxRecDepth 100000 in
set_option maxHeartbeats 8000000 in
theorem values_any (gs : List Gt) (ins las : List Bool) (L : List Nat) (name : ByteArray) (A B AO AI AL : Option Addr) (n m ni nl ca cb co ci cl : Nat) (w : World) (hA : CReads w A (gcells gs)) (hO : CReads w AO (ints L)) (hI : CReads w AI (bools ins)) (hL : CReads w AL (bools las))
    (hF : Fits gs ins las n) (hOr : IsOrder n (lnsOf gs) L) (hni : ins.length = ni) (hnl : las.length = nl) (hol : L.length = n) :
    Calls Try.prog 54 #[.agg #[.string name, .slice A n ca, .slice B m cb], .slice AO n co, .slice AI ni ci, .slice AL nl cl] w (fun e w' => NewB w (theV gs ins las) e w' ∧ Val gs ins las (theV gs ins las)) := by
  have hbl := below1 w (.cells #[.string name, .slice A n ca, .slice B m cb] 25)
  have HX := Lib.hid (Blk.new w 25 [.string name, .slice A n ca, .slice B m cb])
  have HA := Lib.hid (hA.below hbl); have HO := Lib.hid (hO.below hbl); have HI := Lib.hid (hI.below hbl); have HL := Lib.hid (hL.below hbl); have HB0 := Lib.hid hbl
  have HF := Lib.hid hF; have HOr := Lib.hid hOr; have HNI := Lib.hid hni; have HNL := Lib.hid hnl; have HOL := Lib.hid hol; have HN := Lib.hid hF.gl
  have hn1 := hF.le
  have hm1 := run_makeRep (P := Try.prog) Try.underlying35 info_bool rfl n (by omega) (by omega)
  clear hA hO hI hL hF hOr hni hnl hol hbl
  go_enter Try.func54, Try.ntmps54
  go_upto_region 1 with (fail)
  change Code.wp _ _ _ _ (w.alloc (.cells #[.string name, .slice A n ca, .slice B m cb] 25))
  generalize w.alloc (.cells #[.string name, .slice A n ca, .slice B m cb] 25) = W1 at *
  obtain ⟨bx, hbx⟩ : ∃ bx, w.heap.size = bx := ⟨_, rfl⟩
  rw [hbx] at HX ⊢
  clear hbx
  have x1 : W1.cell? ⟨bx, 1, none⟩ = some (.slice A n ca) := (HX.out.cell 1).trans rfl
  have HV0 : Hid (Owns (W1.alloc (.cells (List.replicate n (Value.bool false)).toArray 4)) W1.heap.size 4 (.slice (some ⟨W1.heap.size, 0, none⟩) n n) (bools (base0 gs ins las 0))) := Lib.hid (by
    rw [base0_zero, bools_rep, HN.out]
    exact Owns.made (by unfold maxLen; omega))
  have HBW := Lib.hid (below1 W1 (.cells (List.replicate n (Value.bool false)).toArray 4))
  go_upto_region 3 with (fail)
  change Code.wp _ _ _ _ (W1.alloc (.cells (List.replicate n (Value.bool false)).toArray 4))
  generalize W1.alloc (.cells (List.replicate n (Value.bool false)).toArray 4) = W2 at *
  clear x1 hm1
  have x1 : W2.cell? ⟨bx, 1, none⟩ = some (.slice A n ca) := ((HX.out.self HBW.out).cell 1).trans rfl
  obtain ⟨bv, hbv⟩ : ∃ bv, W1.heap.size = bv := ⟨_, rfl⟩
  rw [hbv] at HV0 ⊢
  have HBV := Lib.hid hbv
  clear hbv
  go_upto_region 4 with (fail)
  clear x1
  go_loopw [10, 11, 25] (fun s10 s11 s25 wr => ∃ k i l : Nat, k ≤ n ∧ i ≤ k ∧ l ≤ k ∧ s10 = .int .i64 i ∧ s11 = .int .i64 l ∧ s25 = .int .i64 k ∧ Hid (cntK gs 1 k = i) ∧ Hid (cntK gs 3 k = l) ∧ Hid (Owns wr bv 4 (.slice (some ⟨bv, 0, none⟩) n n) (bools (base0 gs ins las k))) ∧ Hid (Below W1.heap.size W1 wr)) (fun _ _ k _ => n - (intOf k).toNat)
  case atStart => exact ⟨0, 0, 0, by omega, by omega, by omega, rfl, rfl, rfl, Lib.hid (cntK_zero _ _), Lib.hid (cntK_zero _ _), HV0, HBW⟩
  case round =>
    clear HV0 HBW
    obtain ⟨k, i, l, hk, hik, hlk, rfl, rfl, rfl, HCi, HCl, HV, HB⟩ := hrel
    by_cases hlt : k < n
    · obtain ⟨g, hg⟩ : ∃ g, gs[k]? = some g := ⟨_, List.getElem?_eq_getElem (by rw [HN.out]; exact hlt)⟩
      obtain ⟨ab, ao, rfl, hc⟩ := greads_at HA.out hg
      obtain ⟨c0, c1, c2, c3, c4, c5⟩ := hc.below HB.out
      have HGG := Lib.hid hg
      obtain ⟨kd, nm, op, a, b, cx⟩ := g
      dsimp only at *
      have hk0 : (0 : Int) ≤ (k : Int) := by omega
      have hkn : (k : Int) < (n : Int) := by omega
      clear hg hc
      have hbl := below1 wr (.cells #[.int .i64 kd, .string nm, .int .i64 op, .int .i64 a, .int .i64 b, .int .i64 cx] 33)
      have HV1 := Lib.hid (HV.out.below hbl)
      have HB1 := Lib.hid (below_then HB.out HB.out.size hbl)
      have hG := Blk.new wr 33 [.int .i64 kd, .string nm, .int .i64 op, .int .i64 a, .int .i64 b, .int .i64 cx]
      clear HV HB hbl
      go_upto_region 6 with (fail)
      change Code.wp _ _ _ _ (wr.alloc (.cells #[.int .i64 kd, .string nm, .int .i64 op, .int .i64 a, .int .i64 b, .int .i64 cx] 33))
      have hG1 : Blk (wr.alloc (.cells #[.int .i64 kd, .string nm, .int .i64 op, .int .i64 a, .int .i64 b, .int .i64 cx] 33)) wr.heap.size 33 [.int .i64 kd, .string nm, .int .i64 op, .int .i64 a, .int .i64 b, .int .i64 cx] := hG
      clear hG c0 c1 c2 c3 c4 c5
      generalize wr.alloc (.cells #[.int .i64 kd, .string nm, .int .i64 op, .int .i64 a, .int .i64 b, .int .i64 cx] 33) = W4 at *
      obtain ⟨ob, hob⟩ : ∃ ob, wr.heap.size = ob := ⟨_, rfl⟩
      rw [hob] at hG1 ⊢
      have c0 : W4.cell? ⟨ob, 0, none⟩ = some (.int .i64 kd) := (hG1.cell 0).trans rfl
      clear hob hG1
      obtain ⟨u, hu⟩ : ∃ u, (base0 gs ins las k)[k]? = some u := ⟨_, List.getElem?_eq_getElem (by rw [base0_length, HN.out]; exact hlt)⟩
      obtain ⟨v1, v2, v3⟩ := HV1.out.own (bools_get hu)
      by_cases h1 : kd = 1
      · have hci := cntK_lt HGG.out h1 HN.out
        rw [HCi.out, ← HF.out.ni] at hci
        obtain ⟨x, hx⟩ : ∃ x, ins[i]? = some x := ⟨_, List.getElem?_eq_getElem hci⟩
        have hbs : baseV gs ins las k ⟨kd, nm, op, a, b, cx⟩ = x := by
          unfold baseV
          rw [if_pos h1, HCi.out, List.getD_eq_getElem?_getD, hx]
          rfl
        have HVn : Hid (Owns (W4.setCell ⟨bv, k, none⟩ (.bool x)) bv 4 (.slice (some ⟨bv, 0, none⟩) n n) (bools (base0 gs ins las (k + 1)))) := Lib.hid (by
          rw [base0_step HGG.out, hbs, ← bools_set]
          exact v3 _)
        have HBn : Hid (Below W1.heap.size W1 (W4.setCell ⟨bv, k, none⟩ (.bool x))) := Lib.hid (below_set HB1.out (by rw [HBV.out]; exact Nat.le_refl _) HB1.out.size k _)
        obtain ⟨ib, io, rfl, hi1⟩ := bat (HI.out.below HB1.out) hx
        have hCin : Hid (cntK gs 1 (k + 1) = i + 1) := Lib.hid (by rw [cntK_yes HGG.out h1, HCi.out])
        have hCln : Hid (cntK gs 3 (k + 1) = l) := Lib.hid (by rw [cntK_no HGG.out (by dsimp only; omega), HCl.out])
        have hini : (i : Int) < (ni : Int) := by have := HNI.out; omega
        have hi0 : (0 : Int) ≤ (i : Int) := by omega
        subst h1
        clear hci hx hbs v3 HV1 HB1 hu
        go_wp2
        go_roundw
        case rel => exact ⟨k + 1, i + 1, l, by omega, by omega, by omega, by go_num, rfl, by go_num, hCin, hCln, HVn, HBn⟩
        case measure => simp [intOf]; omega
      · by_cases h3 : kd = 3
        · have hci := cntK_lt HGG.out h3 HN.out
          rw [HCl.out, ← HF.out.nl] at hci
          obtain ⟨x, hx⟩ : ∃ x, las[l]? = some x := ⟨_, List.getElem?_eq_getElem hci⟩
          have hbs : baseV gs ins las k ⟨kd, nm, op, a, b, cx⟩ = x := by
            unfold baseV
            rw [if_neg h1, if_pos h3, HCl.out, List.getD_eq_getElem?_getD, hx]
            rfl
          have HVn : Hid (Owns (W4.setCell ⟨bv, k, none⟩ (.bool x)) bv 4 (.slice (some ⟨bv, 0, none⟩) n n) (bools (base0 gs ins las (k + 1)))) := Lib.hid (by
            rw [base0_step HGG.out, hbs, ← bools_set]
            exact v3 _)
          have HBn : Hid (Below W1.heap.size W1 (W4.setCell ⟨bv, k, none⟩ (.bool x))) := Lib.hid (below_set HB1.out (by rw [HBV.out]; exact Nat.le_refl _) HB1.out.size k _)
          obtain ⟨ib, io, rfl, hi1⟩ := bat (HL.out.below HB1.out) hx
          have hCin : Hid (cntK gs 1 (k + 1) = i) := Lib.hid (by rw [cntK_no HGG.out h1, HCi.out])
          have hCln : Hid (cntK gs 3 (k + 1) = l + 1) := Lib.hid (by rw [cntK_yes HGG.out h3, HCl.out])
          have hini : (l : Int) < (nl : Int) := by have := HNL.out; omega
          have hi0 : (0 : Int) ≤ (l : Int) := by omega
          subst h3
          clear hci hx hbs v3 HV1 HB1 hu
          go_wp2
          go_roundw
          case rel => exact ⟨k + 1, i, l + 1, by omega, by omega, by omega, rfl, by go_num, by go_num, hCin, hCln, HVn, HBn⟩
          case measure => simp [intOf]; omega
        · have HVn : Hid (Owns W4 bv 4 (.slice (some ⟨bv, 0, none⟩) n n) (bools (base0 gs ins las (k + 1)))) := Lib.hid (by rw [base0_none HGG.out h1 h3]; exact HV1.out)
          have hCin : Hid (cntK gs 1 (k + 1) = i) := Lib.hid (by rw [cntK_no HGG.out h1, HCi.out])
          have hCln : Hid (cntK gs 3 (k + 1) = l) := Lib.hid (by rw [cntK_no HGG.out h3, HCl.out])
          clear v1 v2 v3 HV1 hu
          go_wp2
          go_roundw
          case rel => exact ⟨k + 1, i, l, by omega, by omega, by omega, rfl, rfl, by go_num, hCin, hCln, HVn, HB1⟩
          case measure => simp [intOf]; omega
    · obtain rfl : k = n := by omega
      have HK : Hid (ValK gs ins las (base0 gs ins las k) L 0) := Lib.hid (by
        have := ValK.start (gs := gs) (ins := ins) (las := las) (L := L)
        rwa [HN.out] at this)
      clear HCi HCl
      go_upto_region 15 with (fail)
      go_loopw [57] (fun s57 wr => ∃ (j : Nat) (v : List Bool), j ≤ k ∧ s57 = .int .i64 j ∧ Hid (ValK gs ins las v L j) ∧ Hid (Owns wr bv 4 (.slice (some ⟨bv, 0, none⟩) k k) (bools v)) ∧ Hid (Below W1.heap.size W1 wr)) (fun s57 _ => k - (intOf s57).toNat)
      case atStart => exact ⟨0, _, by omega, rfl, HK, HV, HB⟩
      case round =>
        clear HK HV HB
        obtain ⟨j, v, hj, rfl, HK, HV, HB⟩ := hrel
        have x1 : wr.cell? ⟨bx, 1, none⟩ = some (.slice A k ca) := ((HX.out.self HB.out).cell 1).trans rfl
        by_cases hlt2 : j < k
        · obtain ⟨p, hp⟩ : ∃ p, L[j]? = some p := ⟨_, List.getElem?_eq_getElem (by rw [HOL.out]; exact hlt2)⟩
          have hpn : p < k := HOr.out.lt p (List.mem_of_getElem? hp)
          obtain ⟨g, hg⟩ : ∃ g, gs[p]? = some g := ⟨_, List.getElem?_eq_getElem (by rw [HN.out]; exact hpn)⟩
          obtain ⟨oi, oo, rfl, ho1⟩ := (HO.out.below HB.out).at_ (ints_get hp)
          obtain ⟨ab, ao, rfl, hc⟩ := greads_at HA.out hg
          obtain ⟨c0, c1, c2, c3, c4, c5⟩ := hc.below HB.out
          have HGG := Lib.hid hg
          have HP := Lib.hid hp
          have hfl := (HF.out.lines g (List.mem_of_getElem? hg)).2
          have HLn := HN.out
          have HKn := HK.out.next (by rw [HN.out]; exact HOr.out) hp hg
          have HKs := Lib.hid (fun h2 h4 => HK.out.skip (by rw [HN.out]; exact HOr.out) hp hg h2 h4)
          obtain ⟨kd, nm, op, a, b, cx⟩ := g
          dsimp only at *
          have hj0 : (0 : Int) ≤ (j : Int) := by omega
          have hjk : (j : Int) < (k : Int) := by omega
          have hp0 : (0 : Int) ≤ (p : Int) := by omega
          have hpk : (p : Int) < (k : Int) := by omega
          clear hg hc hp
          have hbl := below1 wr (.cells #[.int .i64 kd, .string nm, .int .i64 op, .int .i64 a, .int .i64 b, .int .i64 cx] 33)
          have HV1 := Lib.hid (HV.out.below hbl)
          have HB1 := Lib.hid (below_then HB.out HB.out.size hbl)
          have hG := Blk.new wr 33 [.int .i64 kd, .string nm, .int .i64 op, .int .i64 a, .int .i64 b, .int .i64 cx]
          have hbo : bv < wr.heap.size := (HV.out.lt rfl).2
          clear HV HB hbl
          go_upto_region 18 with (fail)
          change Code.wp _ _ _ _ (wr.alloc (.cells #[.int .i64 kd, .string nm, .int .i64 op, .int .i64 a, .int .i64 b, .int .i64 cx] 33))
          have hG1 : Blk (wr.alloc (.cells #[.int .i64 kd, .string nm, .int .i64 op, .int .i64 a, .int .i64 b, .int .i64 cx] 33)) wr.heap.size 33 [.int .i64 kd, .string nm, .int .i64 op, .int .i64 a, .int .i64 b, .int .i64 cx] := hG
          clear hG c0 c1 c2 c3 c4 c5 x1 ho1
          generalize wr.alloc (.cells #[.int .i64 kd, .string nm, .int .i64 op, .int .i64 a, .int .i64 b, .int .i64 cx] 33) = W4 at *
          obtain ⟨ob, hob⟩ : ∃ ob, wr.heap.size = ob := ⟨_, rfl⟩
          rw [hob] at hG1 hbo ⊢
          have HG1 := Lib.hid hG1
          have c0 : W4.cell? ⟨ob, 0, none⟩ = some (.int .i64 kd) := (hG1.cell 0).trans rfl
          clear hob hG1
          have hvl : v.length = k := HK.out.len.trans HN.out
          have HVL := Lib.hid hvl
          have at_ : ∀ q : Nat, q < k → ∃ x, v[q]? = some x := fun q hq => ⟨_, List.getElem?_eq_getElem (by rw [HVL.out]; exact hq)⟩
          obtain ⟨u, hu⟩ := at_ p hpn
          obtain ⟨v1, v2, v3⟩ := HV1.out.own (bools_get hu)
          by_cases h2 : kd = 2
          · have hf2 : 0 ≤ op ∧ op ≤ 15 ∧ PlaceP a k ∧ PlaceP b k := by
              unfold FieldsP PlaceP at hfl
              unfold PlaceP
              dsimp only at hfl
              omega
            obtain ⟨ho0, ho15, ⟨ha0, hak⟩, hb0, hbk⟩ := hf2
            obtain ⟨pa, rfl⟩ : ∃ pa : Nat, a = (pa : Int) := ⟨a.toNat, by omega⟩
            obtain ⟨pb, rfl⟩ : ∃ pb : Nat, b = (pb : Int) := ⟨b.toNat, by omega⟩
            obtain ⟨va, hva⟩ := at_ pa (by omega)
            obtain ⟨vb, hvb⟩ := at_ pb (by omega)
            obtain ⟨y1, _, _⟩ := HV1.out.own (bools_get hva)
            obtain ⟨y2, _, _⟩ := HV1.out.own (bools_get hvb)
            have hr : ruleV gs ins las v p ⟨kd, nm, op, (pa : Int), (pb : Int), cx⟩ = opBit op (2 * bitI va + bitI vb) := by
              unfold ruleV
              rw [if_pos h2]
              simp only [Int.toNat_natCast, List.getD_eq_getElem?_getD, hva, hvb]
              rfl
            have c2 : W4.cell? ⟨ob, 2, none⟩ = some (.int .i64 op) := (HG1.out.cell 2).trans rfl
            have c3 : W4.cell? ⟨ob, 3, none⟩ = some (.int .i64 pa) := (HG1.out.cell 3).trans rfl
            have c4 : W4.cell? ⟨ob, 4, none⟩ = some (.int .i64 pb) := (HG1.out.cell 4).trans rfl
            subst h2
            obtain ⟨b0, b1, b2, b3⟩ := opBit_bits ho0 ho15
            have hBn : ∀ xb, Hid (Below W1.heap.size W1 (W4.setCell ⟨bv, p, none⟩ (.bool xb))) := fun xb => Lib.hid (below_set HB1.out (by rw [HBV.out]; exact Nat.le_refl _) HB1.out.size p _)
            have hVn : ∀ xb, Hid (Owns (W4.setCell ⟨bv, p, none⟩ (.bool xb)) bv 4 (.slice (some ⟨bv, 0, none⟩) k k) (bools (v.set p xb))) := fun xb => Lib.hid (by rw [← bools_set]; exact v3 _)
            have hBn := Lib.hid hBn
            have hVn := Lib.hid hVn
            have HRU := Lib.hid hr
            clear v3 HV1 HB1 hu hva hvb hr
            cases va <;> cases vb
            · obtain ⟨xb, hxb⟩ : ∃ xb, opBit op 0 = xb := ⟨_, rfl⟩
              rw [hxb] at b0
              have HKf : Hid (ValK gs ins las (v.set p xb) L (j + 1)) := Lib.hid (by have := HKn; rw [HRU.out] at this; rw [← hxb]; exact this)
              have HVf := hVn.out xb
              have HBf := hBn.out xb
              clear hVn hBn HKn b1 b2 b3 hxb HRU
              go_wp2
              go_roundw
              case rel => exact ⟨j + 1, _, by omega, by go_num, HKf, HVf, HBf⟩
              case measure => simp [intOf]; omega
            · obtain ⟨xb, hxb⟩ : ∃ xb, opBit op 1 = xb := ⟨_, rfl⟩
              rw [hxb] at b1
              have HKf : Hid (ValK gs ins las (v.set p xb) L (j + 1)) := Lib.hid (by have := HKn; rw [HRU.out] at this; rw [← hxb]; exact this)
              have HVf := hVn.out xb
              have HBf := hBn.out xb
              clear hVn hBn HKn b0 b2 b3 hxb HRU
              go_wp2
              go_roundw
              case rel => exact ⟨j + 1, _, by omega, by go_num, HKf, HVf, HBf⟩
              case measure => simp [intOf]; omega
            · obtain ⟨xb, hxb⟩ : ∃ xb, opBit op 2 = xb := ⟨_, rfl⟩
              rw [hxb] at b2
              have HKf : Hid (ValK gs ins las (v.set p xb) L (j + 1)) := Lib.hid (by have := HKn; rw [HRU.out] at this; rw [← hxb]; exact this)
              have HVf := hVn.out xb
              have HBf := hBn.out xb
              clear hVn hBn HKn b0 b1 b3 hxb HRU
              go_wp2
              go_roundw
              case rel => exact ⟨j + 1, _, by omega, by go_num, HKf, HVf, HBf⟩
              case measure => simp [intOf]; omega
            · obtain ⟨xb, hxb⟩ : ∃ xb, opBit op 3 = xb := ⟨_, rfl⟩
              rw [hxb] at b3
              have HKf : Hid (ValK gs ins las (v.set p xb) L (j + 1)) := Lib.hid (by have := HKn; rw [HRU.out] at this; rw [← hxb]; exact this)
              have HVf := hVn.out xb
              have HBf := hBn.out xb
              clear hVn hBn HKn b0 b1 b2 hxb HRU
              go_wp2
              go_roundw
              case rel => exact ⟨j + 1, _, by omega, by go_num, HKf, HVf, HBf⟩
              case measure => simp [intOf]; omega
          · by_cases h4 : kd = 4
            · have hf4 : PlaceP a k ∧ PlaceP b k ∧ PlaceP cx k := by
                unfold FieldsP PlaceP at hfl
                unfold PlaceP
                dsimp only at hfl
                omega
              obtain ⟨⟨ha0, hak⟩, ⟨hb0, hbk⟩, hx0, hxk⟩ := hf4
              obtain ⟨pa, rfl⟩ : ∃ pa : Nat, a = (pa : Int) := ⟨a.toNat, by omega⟩
              obtain ⟨pb, rfl⟩ : ∃ pb : Nat, b = (pb : Int) := ⟨b.toNat, by omega⟩
              obtain ⟨pc, rfl⟩ : ∃ pc : Nat, cx = (pc : Int) := ⟨cx.toNat, by omega⟩
              obtain ⟨va, hva⟩ := at_ pa (by omega)
              obtain ⟨vb, hvb⟩ := at_ pb (by omega)
              obtain ⟨vc, hvc⟩ := at_ pc (by omega)
              have hne := order_ne HOr.out HP.out
              rw [lnsOf_at HGG.out] at hne
              unfold Gt.lns Gt.leans at hne
              rw [if_neg h2, if_pos h4] at hne
              have hnea : pa ≠ p := hne pa (by simp)
              have hneb : pb ≠ p := hne pb (by simp)
              have hr : ruleV gs ins las v p ⟨kd, nm, op, (pa : Int), (pb : Int), (pc : Int)⟩ = if va then vb else vc := by
                unfold ruleV
                rw [if_neg h2, if_pos h4]
                simp only [Int.toNat_natCast, List.getD_eq_getElem?_getD, hva, hvb, hvc]
                rfl
              obtain ⟨y1, _, _⟩ := HV1.out.own (bools_get hvc)
              have c5 : W4.cell? ⟨ob, 5, none⟩ = some (.int .i64 pc) := (HG1.out.cell 5).trans rfl
              have hon := only_setCell (only_refl W4 (some bv)) (p := ⟨bv, p, none⟩) (.inl rfl) (.bool vc)
              have HG5 := Lib.hid (HG1.out.grown hon (by intro e; have := Option.some.inj e; omega))
              have HV5 : Hid (Owns (W4.setCell ⟨bv, p, none⟩ (.bool vc)) bv 4 (.slice (some ⟨bv, 0, none⟩) k k) (bools (v.set p vc))) := Lib.hid (by rw [← bools_set]; exact v3 _)
              have HB5 : Hid (Below W1.heap.size W1 (W4.setCell ⟨bv, p, none⟩ (.bool vc))) := Lib.hid (below_set HB1.out (by rw [HBV.out]; exact Nat.le_refl _) HB1.out.size p _)
              have hva5 : (v.set p vc)[pa]? = some va := by rw [List.getElem?_set_ne (Ne.symm hnea)]; exact hva
              have hvb5 : (v.set p vc)[pb]? = some vb := by rw [List.getElem?_set_ne (Ne.symm hneb)]; exact hvb
              have hvp5 : (v.set p vc)[p]? = some vc := by rw [List.getElem?_set_self (by rw [HVL.out]; exact hpn)]
              have HRU := Lib.hid hr
              subst h4
              clear v3 HV1 HB1 HG1 hon hu hva hvb hvc hr hne hnea hneb
              go_upto_region 28 with (fail)
              clear c0 v1 v2 y1 c5
              generalize W4.setCell ⟨bv, p, none⟩ (.bool vc) = W5 at *
              have c3 : W5.cell? ⟨ob, 3, none⟩ = some (.int .i64 pa) := (HG5.out.cell 3).trans rfl
              have c4 : W5.cell? ⟨ob, 4, none⟩ = some (.int .i64 pb) := (HG5.out.cell 4).trans rfl
              obtain ⟨y1, _, _⟩ := HV5.out.own (bools_get hva5)
              obtain ⟨y2, _, _⟩ := HV5.out.own (bools_get hvb5)
              obtain ⟨v1, v2, v3⟩ := HV5.out.own (bools_get hvp5)
              cases va
              · have HKf : Hid (ValK gs ins las (v.set p vc) L (j + 1)) := Lib.hid (by have := HKn; rw [HRU.out] at this; exact this)
                clear v3 hva5 hvb5 hvp5
                go_wp2
                go_roundw
                case rel => exact ⟨j + 1, _, by omega, by go_num, HKf, HV5, HB5⟩
                case measure => simp [intOf]; omega
              · have HKf : Hid (ValK gs ins las ((v.set p vc).set p vb) L (j + 1)) := Lib.hid (by have := HKn; rw [HRU.out] at this; rw [List.set_set]; exact this)
                have HVf : Hid (Owns (W5.setCell ⟨bv, p, none⟩ (.bool vb)) bv 4 (.slice (some ⟨bv, 0, none⟩) k k) (bools ((v.set p vc).set p vb))) := Lib.hid (by rw [← bools_set]; exact v3 _)
                have HBf : Hid (Below W1.heap.size W1 (W5.setCell ⟨bv, p, none⟩ (.bool vb))) := Lib.hid (below_set HB5.out (by rw [HBV.out]; exact Nat.le_refl _) HB5.out.size p _)
                clear v3 hva5 hvb5 hvp5
                go_wp2
                go_roundw
                case rel => exact ⟨j + 1, _, by omega, by go_num, HKf, HVf, HBf⟩
                case measure => simp [intOf]; omega
            · have HKf := Lib.hid (HKs.out h2 h4)
              clear v1 v2 v3 hu HKn HKs
              go_wp2
              go_roundw
              case rel => exact ⟨j + 1, _, by omega, by go_num, HKf, HV1, HB1⟩
              case measure => simp [intOf]; omega
        · obtain rfl : j = k := by omega
          have hf := HF.out
          have hr : InR gs := LinesP.inR (by rw [HN.out]; exact hf.lines)
          have hvv : Val gs ins las v := by
            have h1 := HK.out
            rw [← HOL.out] at h1
            exact h1.fin (order_mem (by rw [HN.out]; exact HOr.out) hf.free hr)
          have hv := hvv.the hf.free hr
          have HVV : Hid (Val gs ins las (theV gs ins las)) := Lib.hid (hv ▸ hvv)
          have HOf := Lib.hid (HV.out.more (base' := w.heap.size) (by rw [← HBV.out]; exact HB0.out.size))
          have HBf := Lib.hid (below_then HB0.out HB0.out.size HB.out)
          rw [hv] at HOf
          clear HV HB HK hv hvv hf hr
          go_wp2
          go_ret
          exact ⟨NewB.of rfl HOf.out HBf.out, HVV.out⟩
end Go.Proofs.Ytjkmoahnociaiaa
