/- Formed of the document: the walk. -/
import Derived.Test.YtjkmoahnociaiaaDoorXE
namespace Go.Proofs.YtjkmoahnociaiaaDoor
open Go.RowKit

/-- What is known behind the first lines. -/
def KnownAt (gs : List Gt) (k : Nat) (l : List (ByteArray × Int)) : Prop :=
  l.length = k ∧ (∀ a ∈ l, 0 ≤ a.2) ∧ ∀ s, (∃ a ∈ l, a.1 = s) ↔ s ∈ (gs.take k).map Gt.name
theorem KnownAt.start (gs : List Gt) : KnownAt gs 0 [] := ⟨rfl, by simp, fun s => by simp⟩
theorem KnownAt.step {gs : List Gt} {k : Nat} {l l' : List (ByteArray × Int)} {g : Gt} (h : KnownAt gs k l) (hg : gs[k]? = some g) (hl : l'.length = l.length + 1) (hm : ∀ a, a ∈ l' ↔ a = (g.name, (k : Int)) ∨ a ∈ l) : KnownAt gs (k + 1) l' := by
  refine ⟨by rw [hl, h.1], fun a ha => ?_, fun s => ?_⟩
  · rcases (hm a).1 ha with rfl | ha
    · simp
    · exact h.2.1 a ha
  · rw [List.take_add_one, hg]
    simp only [Option.toList, List.map_append, List.map_cons, List.map_nil, List.mem_append, List.mem_singleton]
    rw [← h.2.2 s]
    constructor
    · rintro ⟨a, ha, rfl⟩
      rcases (hm a).1 ha with rfl | ha
      · exact .inr rfl
      · exact .inl ⟨a, ha, rfl⟩
    · rintro (⟨a, ha, rfl⟩ | rfl)
      · exact ⟨a, (hm a).2 (.inr ha), rfl⟩
      · exact ⟨_, (hm _).2 (.inl rfl), rfl⟩
set_option maxRecDepth 100000 in
set_option maxHeartbeats 4000000 in
theorem formed_ref (cc : Ct) (A B : Option Addr) (n m ca cb : Nat) (w : World) (hA : CReads w A (gcells cc.gs)) (hB : Reads w .i64 B cc.outs) (hs : SizeP cc) (hn : cc.gs.length = n) (hm : cc.outs.length = m) :
    Calls Tryd.prog 11 #[.agg #[.string cc.name, .slice A n ca, .slice B m cb]] w fun e w' => e = .returned (.bool (formedB cc)) ∧ Below w.heap.size w w' := by
  have hn1 : n ≤ 9223372036854775807 := by have := hs.gl; simp only [maxLen] at this; omega
  have hm1 : m ≤ 9223372036854775807 := by have := hs.ol; simp only [maxLen] at this; omega
  have HA := Lib.hid hA; have HBR := Lib.hid hB; have HS := Lib.hid hs; have HN := Lib.hid hn; have HM := Lib.hid hm
  have CN : Hid (∀ (s : ByteArray) (w : World), s.size ≤ maxLen → Calls Tryd.prog 32 #[.string s] w fun e w' => e = .returned (.bool (nameB s)) ∧ w' = w) := Lib.hid (fun s w h => name_ref s w h)
  clear hA hB hs hn hm
  obtain ⟨name, gs, outs⟩ := cc
  dsimp only at *
  have C0 := CN.out name (w.alloc (.cells #[.string name, .slice A n ca, .slice B m cb] 25)) HS.out.name
  by_cases hbig : nameB name = false ∨ 65536 < n ∨ 65536 < m
  · have HF : Hid (formedB ⟨name, gs, outs⟩ = false) := Lib.hid (formedB_false fun h => by
      rcases hbig with h1 | h1 | h1
      · have := nameB_true h.name; dsimp only at this; rw [this] at h1; cases h1
      · have := h.gl; dsimp only at this; have := HN.out; omega
      · have := h.ol; dsimp only at this; have := HM.out; omega)
    obtain ⟨nb, hnb⟩ : ∃ nb, nameB name = nb := ⟨_, rfl⟩
    rw [hnb] at C0 hbig
    clear hnb
    cases nb
    · clear hbig
      go_enter Tryd.func11, Tryd.ntmps11
      go_wp2_with (go_at_call 32; with_reducible refine C0.mono ?_; rintro e w' ⟨rfl, rfl⟩)
      go_ret
      exact ⟨ret_bool HF.out.symm, below1 _ _⟩
    · by_cases h1 : 65536 < n
      · have h1' : (65536 : Int) < (n : Int) := by omega
        clear hbig
        go_enter Tryd.func11, Tryd.ntmps11
        go_wp2_with (go_at_call 32; with_reducible refine C0.mono ?_; rintro e w' ⟨rfl, rfl⟩)
        go_ret
        exact ⟨ret_bool HF.out.symm, below1 _ _⟩
      · have h2 : 65536 < m := by simp at hbig; omega
        have h2' : (65536 : Int) < (m : Int) := by omega
        have h1' : (n : Int) ≤ 65536 := by omega
        clear hbig
        go_enter Tryd.func11, Tryd.ntmps11
        go_wp2_with (go_at_call 32; with_reducible refine C0.mono ?_; rintro e w' ⟨rfl, rfl⟩)
        go_ret
        exact ⟨ret_bool HF.out.symm, below1 _ _⟩
  · have hnb : nameB name = true := by
      cases h : nameB name
      · exact absurd (.inl h) hbig
      · rfl
    have hn2 : n ≤ 65536 := by omega
    have hm2 : m ≤ 65536 := by omega
    have HNP : Hid (NameP name) := Lib.hid (Classical.byContradiction fun h => by have := nameB_false h; rw [hnb] at this; cases this)
    rw [hnb] at C0
    clear hbig hnb
    have HBX := Lib.hid (Blk.new w 25 [.string name, .slice A n ca, .slice B m cb])
    go_enter Tryd.func11, Tryd.ntmps11
    go_upto_region 7 with (go_at_call 32; with_reducible refine C0.mono ?_; rintro e w' ⟨rfl, rfl⟩)
    clear C0
    have HB1 := Lib.hid (below2 w (.cells #[.string name, .slice A n ca, .slice B m cb] 25) (.cells #[.slice none 0 0, .slice none 0 0] 70))
    have HX1 := Lib.hid (HBX.out.alloc (.cells #[.slice none 0 0, .slice none 0 0] 70))
    have HM1 : Hid (KMem ((w.alloc (.cells #[.string name, .slice A n ca, .slice B m cb] 25)).alloc (.cells #[.slice none 0 0, .slice none 0 0] 70)) (w.heap.size + 1) (w.heap.size + 1) (.slice none 0 0) (.slice none 0 0) []) := Lib.hid
      ⟨blk_new2 _ _ _ [.slice none 0 0, .slice none 0 0], Nat.le_refl _, owns_nil _ _ _, owns_nil _ _ _, fun i j a b _ h => by simp at h⟩
    change Code.wp _ _ _ _ ((w.alloc (.cells #[.string name, .slice A n ca, .slice B m cb] 25)).alloc (.cells #[.slice none 0 0, .slice none 0 0] 70))
    have HSZ1 : Hid (w.heap.size + 2 ≤ ((w.alloc (.cells #[.string name, .slice A n ca, .slice B m cb] 25)).alloc (.cells #[.slice none 0 0, .slice none 0 0] 70)).heap.size) := Lib.hid (by simp)
    generalize (w.alloc (.cells #[.string name, .slice A n ca, .slice B m cb] 25)).alloc (.cells #[.slice none 0 0, .slice none 0 0] 70) = W2 at *
    clear HBX
    obtain ⟨bx, hbx⟩ : ∃ bx, w.heap.size = bx := ⟨_, rfl⟩
    rw [hbx] at HX1 HM1 HSZ1 ⊢
    have HBS := Lib.hid hbx
    clear hbx
    go_loopw [6] (fun s6 wr => ∃ (k : Nat) (vN vP : Value) (l : List (ByteArray × Int)), k ≤ n ∧ s6 = .int .i64 k ∧ Hid (KMem wr (bx + 1) (bx + 1) vN vP l) ∧ Hid (KnownAt gs k l) ∧ Hid (((gs.take k).map Gt.name).Nodup ∧ LinesP n (gs.take k)) ∧ Hid (Blk wr bx 25 [.string name, .slice A n ca, .slice B m cb]) ∧ Hid (Below w.heap.size w wr)) (fun i _ => n - (intOf i).toNat)
    case atStart => exact ⟨0, _, _, _, by omega, rfl, HM1, Lib.hid (KnownAt.start gs), Lib.hid ⟨by simp, fun g hg => by simp at hg⟩, HX1, HB1⟩
    case round =>
      clear HM1 HX1 HB1 HSZ1
      obtain ⟨k, vN, vP, l, hk, rfl, HMP, HKA, HG, HX, HB⟩ := hrel
      have x1 : wr.cell? ⟨bx, 1, none⟩ = some (.slice A n ca) := (HX.out.cell 1).trans rfl
      by_cases hlt : k < n
      · obtain ⟨g, hg⟩ : ∃ g, gs[k]? = some g := ⟨_, List.getElem?_eq_getElem (by rw [HN.out]; exact hlt)⟩
        obtain ⟨ab, ao, rfl, hc⟩ := greads_at HA.out hg
        obtain ⟨c0, c1, c2, c3, c4, c5⟩ := hc.below HB.out
        have HGG := Lib.hid hg
        have hsz := HS.out.names g (List.mem_of_getElem? hg)
        have HSZ := Lib.hid hsz
        obtain ⟨kd, nm, op, a, b, cx⟩ := g
        dsimp only at *
        have hk0 : (0 : Int) ≤ (k : Int) := by omega
        have hkn : (k : Int) < (n : Int) := by omega
        have hbl1 := below1 wr (.cells #[.int .i64 kd, .string nm, .int .i64 op, .int .i64 a, .int .i64 b, .int .i64 cx] 46)
        have HGB := Lib.hid (Blk.new wr 46 [.int .i64 kd, .string nm, .int .i64 op, .int .i64 a, .int .i64 b, .int .i64 cx])
        have HM1 := Lib.hid (HMP.out.below hbl1)
        have HX1 := Lib.hid (HX.out.self hbl1)
        have HB1 := Lib.hid (HB.out.alloc HB.out.size (.cells #[.int .i64 kd, .string nm, .int .i64 op, .int .i64 a, .int .i64 b, .int .i64 cx] 46))
        have HBL1 := Lib.hid hbl1.size
        have hmlt := HMP.out.b.lt
        have hll : l.length ≤ 65536 := by have := HKA.out.1; omega
        clear hg hc hsz hbl1
        go_upto_region 10 with (fail)
        change Code.wp _ _ _ _ (wr.alloc (.cells #[.int .i64 kd, .string nm, .int .i64 op, .int .i64 a, .int .i64 b, .int .i64 cx] 46))
        obtain ⟨ob, hob⟩ : ∃ ob, wr.heap.size = ob := ⟨_, rfl⟩
        rw [hob] at HGB ⊢
        have HOB := Lib.hid hob
        clear hob c0 c1 c2 c3 c4 c5
        generalize wr.alloc (.cells #[.int .i64 kd, .string nm, .int .i64 op, .int .i64 a, .int .i64 b, .int .i64 cx] 46) = W3 at *
        obtain ⟨c0, c1, c2, c3, c4, c5⟩ := gblk (g := ⟨kd, nm, op, a, b, cx⟩) HGB.out
        dsimp only at c0 c1 c2 c3 c4 c5
        have C1 := CN.out nm W3 HSZ.out
        have C2 : Calls Tryd.prog 33 #[.agg #[.int .i64 kd, .string nm, .int .i64 op, .int .i64 a, .int .i64 b, .int .i64 cx], .int .i64 n] W3 fun e w' => e = .returned (.bool (fieldsB ⟨kd, nm, op, a, b, cx⟩ (n : Int))) ∧ Below W3.heap.size W3 w' := formedLine_any ⟨kd, nm, op, a, b, cx⟩ n W3
        go_upto_region 12 with (first | (go_at_call 32; with_reducible refine C1.mono ?_; rintro e w' ⟨rfl, rfl⟩) | (go_at_call 33; with_reducible refine C2.mono ?_; rintro e w5 ⟨rfl, hb5⟩))
        have HM5 := Lib.hid (HM1.out.below hb5)
        have HX5 := Lib.hid (HX1.out.self hb5)
        have HB5 := Lib.hid (below_then HB1.out HB1.out.size hb5)
        have HG5 := Lib.hid (HGB.out.self hb5)
        have hsz5 : bx + 1 ≤ w5.heap.size := by have := hb5.size; have := HBL1.out; omega
        have n1 : w5.cell? ⟨ob, 1, none⟩ = some (.string nm) := (HG5.out.cell 1).trans rfl
        have C3 : Calls Tryd.prog 34 #[.pointer (some ⟨bx + 1, 0, none⟩), .string nm] w5 fun e w' => ∃ x : Int, e = .returned (.int .i64 x) ∧ ((x = -1 ∧ ∀ a ∈ l, a.1 ≠ nm) ∨ ∃ a ∈ l, a.1 = nm ∧ a.2 = x) ∧ w5 = w' := place_any nm HM5.out (by omega)
        obtain ⟨nb, hnb⟩ : ∃ nb, nameB nm = nb := ⟨_, rfl⟩
        obtain ⟨fb, hfb⟩ : ∃ fb, fieldsB ⟨kd, nm, op, a, b, cx⟩ (n : Int) = fb := ⟨_, rfl⟩
        rw [hnb, hfb]
        have HNB := Lib.hid hnb
        have HFB := Lib.hid hfb
        clear hnb hfb C1 C2 hb5 HM1 HX1 HB1 HGB HMP HX HB c0 c1 c2 c3 c4 c5 hmlt
        by_cases hbad : nb = false ∨ fb = false
        · have HF : Hid (formedB ⟨name, gs, outs⟩ = false) := Lib.hid (formedB_false fun h => by
            rcases hbad with h1 | h1
            · have := nameB_true (h.lines_at HGG.out).1
              dsimp only at this
              rw [HNB.out, h1] at this
              cases this
            · have h2 := (h.lines_at HGG.out).2
              dsimp only at h2
              rw [HN.out] at h2
              have : fieldsB ⟨kd, nm, op, a, b, cx⟩ (n : Int) = true := by simp [fieldsB, h2]
              rw [HFB.out, h1] at this
              cases this)
          cases nb
          · clear hbad
            go_wp2_with fail
            go_ret
            exact ⟨ret_bool HF.out.symm, HB5.out⟩
          · cases fb
            · clear hbad
              go_wp2_with fail
              go_ret
              exact ⟨ret_bool HF.out.symm, HB5.out⟩
            · exfalso
              simp at hbad
        · have hnb : nb = true := by
            cases nb
            · exact absurd (.inl rfl) hbad
            · rfl
          have hfb : fb = true := by
            cases fb
            · exact absurd (.inr rfl) hbad
            · rfl
          subst hnb hfb
          clear hbad
          go_upto_region 12 with (fail)
          go_cut [59] (fun s59 wx => ∃ bad : Bool, s59 = .bool bad ∧ Hid (bad = true ↔ nm ∈ (gs.take k).map Gt.name) ∧ Hid (∀ a ∈ l, bad = false → a.1 ≠ nm) ∧ wx = w5)
          case first =>
            go_wp2_with (go_at_call 34; with_reducible refine C3.mono ?_; rintro e w' ⟨x, rfl, hx, rfl⟩)
            go_meet
            refine ⟨_, rfl, Lib.hid ?_, Lib.hid ?_, rfl⟩
            · rw [← HKA.out.2.2 nm]
              simp only [decide_eq_true_eq]
              rcases hx with ⟨rfl, h1⟩ | ⟨a, ha, h1, rfl⟩
              · constructor
                · intro h; omega
                · rintro ⟨a, ha, h2⟩; exact absurd h2 (h1 a ha)
              · exact ⟨fun _ => ⟨a, ha, h1⟩, fun _ => HKA.out.2.1 a ha⟩
            · intro a' ha' hbad
              rcases hx with ⟨rfl, h1⟩ | ⟨a, ha, h1, rfl⟩
              · exact h1 a' ha'
              · have := HKA.out.2.1 a ha
                simp at hbad
                omega
          obtain ⟨bad, rfl, HBD, HNL, rfl⟩ := hcut
          cases bad
          · have hnn : nm ∉ (gs.take k).map Gt.name := fun h => by have := HBD.out.2 h; cases this
            have HGn : Hid (((gs.take (k + 1)).map Gt.name).Nodup ∧ LinesP n (gs.take (k + 1))) := Lib.hid (by
              refine ⟨?_, fun g hg => ?_⟩
              · rw [List.take_add_one, HGG.out]
                simp only [Option.toList, List.map_append, List.map_cons, List.map_nil]
                exact nd_snoc' HG.out.1 hnn
              rw [List.take_add_one, HGG.out, List.mem_append] at hg
              rcases hg with hg | hg
              · exact HG.out.2 g hg
              · simp at hg
                subst hg
                refine ⟨Classical.byContradiction fun h => ?_, Classical.byContradiction fun h => ?_⟩
                · have := nameB_false h
                  dsimp only at this
                  rw [HNB.out] at this
                  cases this
                · have : fieldsB ⟨kd, nm, op, a, b, cx⟩ (n : Int) = false := by simp [fieldsB, h]
                  rw [HFB.out] at this
                  cases this)
            have C4 : Calls Tryd.prog 35 #[.pointer (some ⟨bx + 1, 0, none⟩), .string nm, .int .i64 (k : Int)] wc fun e w' => e = .returned (.tuple #[]) ∧ ∃ vN' vP' l', KMem w' (bx + 1) (bx + 1) vN' vP' l' ∧ (∀ a, a ∈ l' ↔ a = (nm, (k : Int)) ∨ a ∈ l) ∧ l'.length = l.length + 1 ∧ Tur wc w' ((bx + 1) :: (vN.ownBlock.toList ++ vP.ownBlock.toList)) :=
              add_any nm k HM5.out (by omega) hsz5 (fun a ha => HNL.out a ha rfl)
            have HFAR : Hid (∀ g ∈ (bx + 1) :: (vN.ownBlock.toList ++ vP.ownBlock.toList), bx + 1 ≤ g) := Lib.hid (fun g hg => by
              simp at hg
              rcases hg with rfl | hg | hg
              · exact Nat.le_refl _
              · exact (HM5.out.n.lt hg).1
              · exact (HM5.out.p.lt hg).1)
            clear hnn HBD HNL HG C3
            go_wp2_with (go_at_call 35; with_reducible refine C4.mono ?_; rintro e w6 ⟨rfl, vN', vP', l', hK6, hm6, hl6, hT6⟩)
            have HK6 := Lib.hid hK6
            have HKn := Lib.hid (HKA.out.step HGG.out hl6 hm6)
            have HX6 := Lib.hid (hT6.blk HX5.out (fun hm => by have := HFAR.out _ hm; omega))
            have HB6 := Lib.hid (hT6.below HB5.out HB5.out.size (fun g hg => by have := HFAR.out g hg; have := HBS.out; omega))
            clear hK6 hm6 hl6 hT6 C4 HM5 HX5 HB5 HG5 n1
            go_wp2_with fail
            go_roundw
            case rel => exact ⟨k + 1, vN', vP', l', by omega, by go_num, HK6, HKn, HGn, HX6, HB6⟩
            case measure => simp [intOf]; omega
          · have HF : Hid (formedB ⟨name, gs, outs⟩ = false) := Lib.hid (formedB_false fun h => by
              have h1 := nodup_take h.nd (k + 1)
              dsimp only at h1
              rw [List.take_add_one, HGG.out] at h1
              simp only [Option.toList, List.map_append, List.map_cons, List.map_nil] at h1
              rw [List.nodup_append] at h1
              exact h1.2.2 nm (HBD.out.1 rfl) nm (by simp) rfl)
            go_wp2_with fail
            go_ret
            exact ⟨ret_bool HF.out.symm, HB5.out⟩
      · obtain rfl : k = n := by omega
        have HL : Hid ((gs.map Gt.name).Nodup ∧ LinesP k gs) := Lib.hid (by
          have := HG.out
          rw [List.take_of_length_le (by rw [HN.out]; exact Nat.le_refl _)] at this
          exact this)
        have x2 : wr.cell? ⟨bx, 2, none⟩ = some (.slice B m cb) := (HX.out.cell 2).trans rfl
        clear HG HMP HKA hlt hk
        go_upto_region 16 with (fail)
        go_loop [10] (fun s10 => ∃ i : Nat, i ≤ m ∧ s10 = .int .i64 i ∧ Hid (∀ (j : Nat) (p : Int), j < i → outs[j]? = some p → 0 ≤ p ∧ p < (k : Int))) (fun s10 => m - (intOf s10).toNat)
        case atStart => exact ⟨0, by omega, rfl, Lib.hid (fun j p hj => by omega)⟩
        case round =>
          obtain ⟨i, hi, rfl, HO⟩ := hrel
          by_cases hlt : i < m
          · obtain ⟨p, hp⟩ : ∃ p, outs[i]? = some p := ⟨_, List.getElem?_eq_getElem (by rw [HM.out]; exact hlt)⟩
            obtain ⟨ob, oo, rfl, hc⟩ := HBR.out.at_ hp
            have d0 := cell_kept HB.out hc
            have hi0 : (0 : Int) ≤ (i : Int) := by omega
            have him : (i : Int) < (m : Int) := by omega
            have HPP := Lib.hid hp
            clear hp hc
            by_cases hbad : p < 0 ∨ (k : Int) ≤ p
            · have HF : Hid (formedB ⟨name, gs, outs⟩ = false) := Lib.hid (formedB_false fun h => by
                have := h.outs p (List.mem_of_getElem? HPP.out)
                dsimp only at this
                rw [HN.out] at this
                omega)
              by_cases hp0 : p < 0
              · clear hbad
                go_wp2
                go_ret
                exact ⟨ret_bool HF.out.symm, HB.out⟩
              · have hp1 : (k : Int) ≤ p := by omega
                have hp2 : 0 ≤ p := by omega
                clear hbad hp0
                go_wp2
                go_ret
                exact ⟨ret_bool HF.out.symm, HB.out⟩
            · have hp1 : p < (k : Int) := by omega
              have hp2 : 0 ≤ p := by omega
              have HOn : Hid (∀ (j : Nat) (q : Int), j < i + 1 → outs[j]? = some q → 0 ≤ q ∧ q < (k : Int)) := Lib.hid (fun j q hj hq => by
                rcases Nat.lt_or_ge j i with h1 | h1
                · exact HO.out j q h1 hq
                · rw [show j = i by omega, HPP.out] at hq
                  cases hq
                  exact ⟨hp2, hp1⟩)
              clear hbad HO
              go_wp2
              go_round
              case rel => exact ⟨i + 1, by omega, by go_num, HOn⟩
              case measure => simp [intOf]; omega
          · obtain rfl : i = m := by omega
            have HOP : Hid (OutsP k outs) := Lib.hid (fun p hp => by
              obtain ⟨j, hj⟩ := List.getElem?_of_mem hp
              exact HO.out j p (by rw [← HM.out]; exact (List.getElem?_eq_some_iff.1 hj).1) hj)
            have hin : InR gs := LinesP.inR (by rw [HN.out]; exact HL.out.2)
            have hcall : Calls Tryd.prog 36 #[.slice A k ca] wr fun e w' => ∃ x : Int, e = .returned (.int .i64 x) ∧ ((x = -1 ∧ ∀ i, i < k → Free (lnsOf gs) i) ∨ ∃ i : Nat, i < k ∧ x = (i : Int) ∧ Way (lnsOf gs) i i ∧ ∀ j, j < i → ¬ Way (lnsOf gs) j j) ∧ Below wr.heap.size wr w' := circles_any A k ca gs wr (HA.out.below HB.out) HN.out hin hn2
            have HIN := Lib.hid hin
            clear HO hin hlt hi
            go_wp2_with (go_at_call 36; with_reducible refine hcall.mono ?_; rintro e w8 ⟨x, rfl, hx, hB8⟩)
            go_ret
            refine ⟨ret_bool ?_, below_then HB.out HB.out.size hB8⟩
            rw [Bool.eq_iff_iff]
            simp only [decide_eq_true_eq, formedB]
            constructor
            · intro hx0
              rcases hx with ⟨_, hf⟩ | ⟨i, _, rfl, _⟩
              · exact ⟨HNP.out, by dsimp only; rw [HN.out]; exact hn2, by dsimp only; rw [HM.out]; exact hm2, by dsimp only; rw [HN.out]; exact HL.out.2, HL.out.1, by dsimp only; rw [HN.out]; exact HOP.out, by unfold AllFree; dsimp only; rw [HN.out]; exact hf⟩
              · omega
            · intro h
              rcases hx with ⟨rfl, _⟩ | ⟨i, hi, rfl, hw, _⟩
              · omega
              · have := h.free i (by dsimp only; rw [HN.out]; exact hi)
                exact absurd this (circ_not_free hw)
end Go.Proofs.YtjkmoahnociaiaaDoor
