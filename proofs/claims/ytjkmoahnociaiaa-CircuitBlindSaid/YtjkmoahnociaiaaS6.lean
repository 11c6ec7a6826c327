/- step: the program's text. -/
import Derived.Test.YtjkmoahnociaiaaS5
import Derived.Test.YtjkmoahnociaiaaXM
namespace Go.Proofs.Ytjkmoahnociaiaa
open Go.RowKit

def latK (f : Gt → Bool) (gs : List Gt) (k : Nat) : List Bool := ((gs.take k).filter fun g => decide (g.kind = 3)).map f
theorem latK_zero (f : Gt → Bool) (gs : List Gt) : latK f gs 0 = [] := by simp [latK]
theorem latK_yes {f : Gt → Bool} {gs : List Gt} {k : Nat} {g : Gt} (hg : gs[k]? = some g) (h : g.kind = 3) : latK f gs (k + 1) = latK f gs k ++ [f g] := by
  unfold latK
  rw [List.take_add_one, hg]
  simp [h]
theorem latK_no {f : Gt → Bool} {gs : List Gt} {k : Nat} {g : Gt} (hg : gs[k]? = some g) (h : ¬ g.kind = 3) : latK f gs (k + 1) = latK f gs k := by
  unfold latK
  rw [List.take_add_one, hg]
  simp [h]
theorem latK_len (f : Gt → Bool) (gs : List Gt) (k : Nat) : (latK f gs k).length ≤ k := by
  unfold latK
  rw [List.length_map]
  exact Nat.le_trans (List.length_filter_le _ _) (by rw [List.length_take]; omega)
def outK (v : List Bool) (outs : List Int) (k : Nat) : List Bool := (outs.take k).map fun p => v.getD p.toNat false
theorem outK_zero (v : List Bool) (outs : List Int) : outK v outs 0 = [] := by simp [outK]
theorem outK_succ {v : List Bool} {outs : List Int} {k : Nat} {p : Int} (hp : outs[k]? = some p) : outK v outs (k + 1) = outK v outs k ++ [v.getD p.toNat false] := by
  unfold outK
  rw [List.take_add_one, hp]
  simp
theorem outK_len (v : List Bool) (outs : List Int) (k : Nat) : (outK v outs k).length ≤ k := by
  unfold outK
  rw [List.length_map, List.length_take]
  omega
/-- Two new rows of truths. -/
def New2 (w : World) (l l' : List Bool) (e : Ending) (w' : World) : Prop :=
  ∃ v v', e = .returned (.tuple #[v, v']) ∧ Hold w' w.heap.size [row1 4 v (bools l), row1 4 v' (bools l')] ∧ Below w.heap.size w w'
set_option maxRecDepth 100000 in
set_option maxHeartbeats 8000000 in
theorem step_any (gs : List Gt) (outs : List Int) (ins las : List Bool) (L : List Nat) (name : ByteArray) (A B AO AI AL : Option Addr) (n m ni nl ca cb co ci cl : Nat) (w : World) (hA : CReads w A (gcells gs)) (hB : Reads w .i64 B outs) (hO : CReads w AO (ints L)) (hI : CReads w AI (bools ins)) (hL : CReads w AL (bools las))
    (hF : Fits gs ins las n) (hp : OutsP n outs) (hOr : IsOrder n (lnsOf gs) L) (hni : ins.length = ni) (hnl : las.length = nl) (hol : L.length = n) (hm : outs.length = m) (hmm : m ≤ 65536) :
    Calls Try.prog 38 #[.agg #[.string name, .slice A n ca, .slice B m cb], .slice AO n co, .slice AI ni ci, .slice AL nl cl] w (New2 w (outK (theV gs ins las) outs m) (latK (fun g => (theV gs ins las).getD g.a.toNat false) gs n)) := by
  have hbl := below1 w (.cells #[.string name, .slice A n ca, .slice B m cb] 25)
  have HX := Lib.hid (Blk.new w 25 [.string name, .slice A n ca, .slice B m cb])
  have hcall : Calls Try.prog 54 #[.agg #[.string name, .slice A n ca, .slice B m cb], .slice AO n co, .slice AI ni ci, .slice AL nl cl] (w.alloc (.cells #[.string name, .slice A n ca, .slice B m cb] 25)) fun e w' => ∃ A' c', e = .returned (.slice A' n c') ∧ Hid (Owns w' (w.alloc (.cells #[.string name, .slice A n ca, .slice B m cb] 25)).heap.size 4 (.slice A' n c') (bools (theV gs ins las))) ∧ Hid ((theV gs ins las).length = n) ∧ Below (w.alloc (.cells #[.string name, .slice A n ca, .slice B m cb] 25)).heap.size (w.alloc (.cells #[.string name, .slice A n ca, .slice B m cb] 25)) w' := by
    refine (values_any gs ins las L name A B AO AI AL n m ni nl ca cb co ci cl _ (hA.below hbl) (hO.below hbl) (hI.below hbl) (hL.below hbl) hF hOr hni hnl hol).mono ?_
    rintro e w' ⟨⟨A', c', rfl, ho, hb⟩, hv⟩
    have hl : (theV gs ins las).length = n := hv.len.trans hF.gl
    rw [hl] at ho ⊢
    exact ⟨A', c', rfl, ho, Lib.hid rfl, hb⟩
  have HA := Lib.hid (hA.below hbl); have HBr := Lib.hid (hB.below hbl); have HB0 := Lib.hid hbl
  have HF := Lib.hid hF; have HN := Lib.hid hF.gl; have HM := Lib.hid hm; have HP := Lib.hid hp
  have hn1 := hF.le
  clear hA hB hO hI hL hF hp hOr hni hnl hol hm hbl
  generalize theV gs ins las = v at *
  go_enter Try.func38, Try.ntmps38
  go_upto_region 2 with (go_at_call 54; with_reducible refine hcall.mono ?_; rintro e w2 ⟨AV, cv, rfl, HV2, HVL, hb2⟩)
  have HX2 := Lib.hid (HX.out.self hb2)
  have HA2 := Lib.hid (HA.out.below hb2)
  have HBr2 := Lib.hid (HBr.out.below hb2)
  have HB2 := Lib.hid (below_self HB0.out hb2)
  have HVR : Hid (CReads w2 AV (bools v)) := Lib.hid (rows_read (by have := HV2.out; unfold Owns at this; rw [bools_length, HVL.out] at this; exact this) (by decide))
  obtain ⟨bx, hbx⟩ : ∃ bx, w.heap.size = bx := ⟨_, rfl⟩
  rw [hbx] at HX2 ⊢
  have x2 : w2.cell? ⟨bx, 2, none⟩ = some (.slice B m cb) := (HX2.out.cell 2).trans rfl
  have HH0 : Hid (Hold w2 w2.heap.size [row1 4 (.slice none 0 0) (bools (outK v outs 0)), row1 4 (.slice none 0 0) (bools (latK (fun g => v.getD g.a.toNat false) gs 0))]) := Lib.hid (by
    rw [outK_zero, latK_zero]
    exact (Hold.nil w2 w2.heap.size).nilRow.nilRow)
  have HW0 := Lib.hid (Below.refl w2.heap.size w2)
  clear hcall hb2 HX HA HBr HB0 HV2 hbx
  go_upto_region 3 with (fail)
  clear x2
  go_loopw [8, 23] (fun vo s23 wr => ∃ k : Nat, k ≤ m ∧ s23 = .int .i64 k ∧ Hid (Hold wr w2.heap.size [row1 4 vo (bools (outK v outs k)), row1 4 (.slice none 0 0) (bools (latK (fun g => v.getD g.a.toNat false) gs 0))]) ∧ Hid (Below w2.heap.size w2 wr)) (fun _ i _ => m - (intOf i).toNat)
  case atStart => exact ⟨0, by omega, rfl, HH0, HW0⟩
  case round =>
    clear HH0 HW0
    obtain ⟨k, hk, rfl, HH, HB⟩ := hrel
    by_cases hlt : k < m
    · obtain ⟨p, hp⟩ : ∃ p, outs[k]? = some p := ⟨_, List.getElem?_eq_getElem (by rw [HM.out]; exact hlt)⟩
      obtain ⟨hp0, hpn⟩ := HP.out p (List.mem_of_getElem? hp)
      obtain ⟨pn, rfl⟩ : ∃ pn : Nat, p = (pn : Int) := ⟨p.toNat, by omega⟩
      obtain ⟨x, hx⟩ : ∃ x, v[pn]? = some x := ⟨_, List.getElem?_eq_getElem (by rw [HVL.out]; omega)⟩
      have hF : outK v outs (k + 1) = outK v outs k ++ [x] := by
        rw [outK_succ hp]
        simp only [Int.toNat_natCast, List.getD_eq_getElem?_getD, hx]
        rfl
      obtain ⟨ob, oo, rfl, q1⟩ := HBr2.out.at_ hp
      obtain ⟨vb, vo, rfl, q2⟩ := bat (HVR.out.below HB.out) hx
      have q1 := cell_kept HB.out q1
      have hk0 : (0 : Int) ≤ (k : Int) := by omega
      have hkn : (k : Int) < (m : Int) := by omega
      have HH1 := Lib.hid (HH.out.below (below1 wr (.cells [Value.bool x].toArray 4)))
      have HB1 := Lib.hid (HB.out.alloc HB.out.size (.cells [Value.bool x].toArray 4))
      have HO1 := Lib.hid (HH1.out.owns (i := 0) rfl)
      have hlen := outK_len v outs k
      have hull : (bools (outK v outs k)).length + 1 ≤ 65537 := by rw [bools_length]; omega
      have HFF := Lib.hid hF
      clear hp hx hF hlen
      go_upto_region 6 with (at_builtin; refine wpList_push2 rfl _ _ 35 rfl w2.heap.size 4 _ 1 Try.underlying35 info_bool rfl u8 _ rfl HO1.out ⟨wr.heap.size, 0, none⟩ (.bool x) rfl (by simp [go_sem]) rfl (by unfold maxLen; omega) (by omega) (by simp; have := HB.out.size; omega) ?_; intro v5 w5 hown5 hg5 hb5; have HH5 := HH1.out.push (i := 0) rfl hown5 hg5 hb5; have HB5 := Lib.hid (HB1.out.grown hg5 HB1.out.size (fun g hv => (HO1.out.lt hv).1)); clear hown5 hg5 hb5)
      rw [bools_snoc, ← HFF.out] at HH5
      have HH5 := Lib.hid HH5
      clear HH HB HH1 HB1 HO1 hull q1 q2
      go_wp2
      go_roundw
      case rel => exact ⟨k + 1, by omega, by go_num, HH5, HB5⟩
      case measure => simp [intOf]; omega
    · obtain rfl : k = m := by omega
      have x1 : wr.cell? ⟨bx, 1, none⟩ = some (.slice A n ca) := ((HX2.out.self HB.out).cell 1).trans rfl
      clear hlt hk
      go_upto_region 8 with (fail)
      clear x1
      obtain ⟨vo, hvo⟩ : ∃ vo, u8 = vo := ⟨_, rfl⟩
      rw [hvo] at HH ⊢
      clear hvo
      go_loopw [9, 38] (fun vn s38 wr => ∃ j : Nat, j ≤ n ∧ s38 = .int .i64 j ∧ Hid (Hold wr w2.heap.size [row1 4 vo (bools (outK v outs k)), row1 4 vn (bools (latK (fun g => v.getD g.a.toNat false) gs j))]) ∧ Hid (Below w2.heap.size w2 wr)) (fun _ i _ => n - (intOf i).toNat)
      case atStart => exact ⟨0, by omega, rfl, HH, HB⟩
      case round =>
        clear HH HB
        obtain ⟨j, hj, rfl, HH, HB⟩ := hrel
        by_cases hlt : j < n
        · obtain ⟨g, hg⟩ : ∃ g, gs[j]? = some g := ⟨_, List.getElem?_eq_getElem (by rw [HN.out]; exact hlt)⟩
          obtain ⟨ab, ao, rfl, hc⟩ := greads_at HA2.out hg
          obtain ⟨c0, c1, c2, c3, c4, c5⟩ := hc.below HB.out
          have HGG := Lib.hid hg
          have hfl := (HF.out.lines g (List.mem_of_getElem? hg)).2
          obtain ⟨kd, nm, op, a, b, cx⟩ := g
          dsimp only at *
          have hj0 : (0 : Int) ≤ (j : Int) := by omega
          have hjn : (j : Int) < (n : Int) := by omega
          clear hg hc
          have hbl := below1 wr (.cells #[.int .i64 kd, .string nm, .int .i64 op, .int .i64 a, .int .i64 b, .int .i64 cx] 33)
          have HH1 := Lib.hid (HH.out.below hbl)
          have HB1 := Lib.hid (below_then HB.out HB.out.size hbl)
          have hG := Blk.new wr 33 [.int .i64 kd, .string nm, .int .i64 op, .int .i64 a, .int .i64 b, .int .i64 cx]
          clear HH HB hbl
          go_upto_region 10 with (fail)
          change Code.wp _ _ _ _ (wr.alloc (.cells #[.int .i64 kd, .string nm, .int .i64 op, .int .i64 a, .int .i64 b, .int .i64 cx] 33))
          have hG1 : Blk (wr.alloc (.cells #[.int .i64 kd, .string nm, .int .i64 op, .int .i64 a, .int .i64 b, .int .i64 cx] 33)) wr.heap.size 33 [.int .i64 kd, .string nm, .int .i64 op, .int .i64 a, .int .i64 b, .int .i64 cx] := hG
          clear hG c0 c1 c2 c3 c4 c5
          generalize wr.alloc (.cells #[.int .i64 kd, .string nm, .int .i64 op, .int .i64 a, .int .i64 b, .int .i64 cx] 33) = W4 at *
          obtain ⟨ob, hob⟩ : ∃ ob, wr.heap.size = ob := ⟨_, rfl⟩
          rw [hob] at hG1 ⊢
          have c0 : W4.cell? ⟨ob, 0, none⟩ = some (.int .i64 kd) := (hG1.cell 0).trans rfl
          by_cases he : kd = 3
          · have hF := latK_yes (f := fun g => v.getD g.a.toNat false) HGG.out he
            have hfa : 0 ≤ a ∧ a < (n : Int) := by
              unfold FieldsP PlaceP at hfl
              dsimp only at hfl
              omega
            obtain ⟨ha0, han⟩ := hfa
            obtain ⟨pn, rfl⟩ : ∃ pn : Nat, a = (pn : Int) := ⟨a.toNat, by omega⟩
            obtain ⟨x, hx⟩ : ∃ x, v[pn]? = some x := ⟨_, List.getElem?_eq_getElem (by rw [HVL.out]; omega)⟩
            have hfx : v.getD (⟨kd, nm, op, (pn : Int), b, cx⟩ : Gt).a.toNat false = x := by
              simp only [Int.toNat_natCast, List.getD_eq_getElem?_getD, hx]
              rfl
            rw [hfx] at hF
            have c3 : W4.cell? ⟨ob, 3, none⟩ = some (.int .i64 pn) := (hG1.cell 3).trans rfl
            obtain ⟨vb, vf, rfl, q2⟩ := bat (HVR.out.below HB1.out) hx
            subst he
            have HF2 := Lib.hid hF
            have HH2 := Lib.hid (HH1.out.below (below1 W4 (.cells [Value.bool x].toArray 4)))
            have HB2 := Lib.hid (HB1.out.alloc HB1.out.size (.cells [Value.bool x].toArray 4))
            have HO2 := Lib.hid (HH2.out.owns (i := 1) rfl)
            have hlen := latK_len (fun g => v.getD g.a.toNat false) gs j
            have hull : (bools (latK (fun g => v.getD g.a.toNat false) gs j)).length + 1 ≤ 65537 := by rw [bools_length]; omega
            clear hF hlen hG1 hob hx hfx hfl
            go_upto_region 12 with (at_builtin; refine wpList_push2 rfl _ _ 35 rfl w2.heap.size 4 _ 1 Try.underlying35 info_bool rfl u9 _ rfl HO2.out ⟨W4.heap.size, 0, none⟩ (.bool x) rfl (by simp [go_sem]) rfl (by unfold maxLen; omega) (by omega) (by simp; have := HB1.out.size; omega) ?_; intro v5 w5 hown5 hg5 hb5; have HH5 := HH2.out.push (i := 1) rfl hown5 hg5 hb5; have HB5 := Lib.hid (HB2.out.grown hg5 HB2.out.size (fun g hv => (HO2.out.lt hv).1)); clear hown5 hg5 hb5)
            rw [bools_snoc, ← HF2.out] at HH5
            have HH5 := Lib.hid HH5
            clear HH1 HB1 HH2 HB2 HO2 hull c0 c3 q2
            go_wp2
            go_roundw
            case rel => exact ⟨j + 1, by omega, by go_num, HH5, HB5⟩
            case measure => simp [intOf]; omega
          · have HH5 : Hid (Hold W4 w2.heap.size [row1 4 vo (bools (outK v outs k)), row1 4 u9 (bools (latK (fun g => v.getD g.a.toNat false) gs (j + 1)))]) := Lib.hid (by rw [latK_no HGG.out he]; exact HH1.out)
            clear hG1 hob hfl HH1
            go_wp2
            go_roundw
            case rel => exact ⟨j + 1, by omega, by go_num, HH5, HB1⟩
            case measure => simp [intOf]; omega
        · obtain rfl : j = n := by omega
          have HHf := Lib.hid (HH.out.base_ HB2.out.size)
          have HBf := Lib.hid (below_then HB2.out HB2.out.size HB.out)
          clear HH HB
          go_wp2
          go_ret2
          exact ⟨_, _, rfl, HHf.out, HBf.out⟩
end Go.Proofs.Ytjkmoahnociaiaa
