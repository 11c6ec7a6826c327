/- The reader: its tests of a word; take; full. -/
import Derived.Test.YtjkmoahnociaiaaDoorQ0
import Derived.Test.YtjkmoahnociaiaaDoorRWD
import Derived.Lib.Strings
import Derived.Lib.Slices
import Derived.Lib.SlicesS
import Derived.Lib.Walk
import Derived.BigQuiet
namespace Go.Proofs.YtjkmoahnociaiaaDoor
open Go.RowKit Go.WideMaps Go.Maps

set_option maxHeartbeats 1000000 in
theorem index_words (b : Nat) (zs : List ByteArray) (n c : Nat) (x : ByteArray) (w : World) (hz : zs.length = n) (hbig : n ≤ 9223372036854775807) (hc : ∀ (j : Nat) y, zs[j]? = some y → w.cell? ⟨b, j, none⟩ = some (.string y)) :
    Calls Tryd.prog 92 #[.slice (some ⟨b, 0, none⟩) n c, .string x] w fun e w' => e = .returned (.int .i64 (Lib.idxOfS zs x)) ∧ w' = w := by
  go_enter Tryd.func92, Tryd.ntmps92
  go_wp2
  go_loop [5, 8] (fun _ i => ∃ k : Nat, k ≤ n ∧ i = .int .i64 k ∧ ∀ j, j < k → zs.getD j ByteArray.empty ≠ x) (fun _ i => n - (intOf i).toNat)
  case atStart => exact ⟨0, Nat.zero_le _, rfl, fun j hj => absurd hj (Nat.not_lt_zero _)⟩
  case round =>
    obtain ⟨k, hk, rfl, hne⟩ := hrel
    by_cases hlt : k < n
    · obtain ⟨y, hy⟩ : ∃ y, zs[k]? = some y := ⟨_, List.getElem?_eq_getElem (by omega)⟩
      have hcell := hc k y hy
      have hyd : zs.getD k ByteArray.empty = y := by rw [List.getD_eq_getElem?_getD, hy]; rfl
      have h0 : (0 : Int) ≤ (k : Int) := by omega
      have h1 : (k : Int) < (n : Int) := by omega
      by_cases he : x = y
      · have heq : (x.toList == y.toList) = true := (Lib.bytes_beq_iff _ _).2 he
        have hidx : Lib.idxOfS zs x = (k : Int) := by
          have := Lib.idxOfS_hit zs n k x hlt (by omega) (by rw [hyd, he]) hne
          rwa [List.take_of_length_le (by omega)] at this
        clear hc hy hne hyd
        subst he
        go_wp2
        go_ret
        exact ⟨by first | rfl | (rw [hidx]; rfl), rfl⟩
      · have heq : (x.toList == y.toList) = false := (Lib.bytes_beq_false_iff _ _).2 he
        have hne2 : ∀ j, j < k + 1 → zs.getD j ByteArray.empty ≠ x := fun j hj => by
          by_cases e : j = k
          · subst e
            rw [hyd]
            exact fun e2 => he e2.symm
          · exact hne j (by omega)
        clear hc hy hne hyd
        go_wp2
        go_round
        case rel => exact ⟨k + 1, by omega, by go_num, hne2⟩
        case measure => simp [intOf]; omega
    · obtain rfl : k = n := by omega
      have hidx : Lib.idxOfS zs x = -1 := by
        have := Lib.idxOfS_miss zs k x hne
        rwa [List.take_of_length_le (by omega)] at this
      clear hc hne
      go_wp2
      go_ret
      exact ⟨by first | rfl | (rw [hidx]; rfl), rfl⟩

theorem contains_words (b : Nat) (zs : List ByteArray) (n c : Nat) (x : ByteArray) (w : World) (hz : zs.length = n) (hbig : n ≤ 9223372036854775807) (hc : ∀ (j : Nat) y, zs[j]? = some y → w.cell? ⟨b, j, none⟩ = some (.string y)) :
    Calls Tryd.prog 90 #[.slice (some ⟨b, 0, none⟩) n c, .string x] w fun e w' => e = .returned (.bool (Lib.containsS zs x)) ∧ w' = w := by
  have hi := index_words b zs n c x w hz hbig hc
  unfold Lib.containsS
  go_enter Tryd.func90, Tryd.ntmps90
  go_wp2_with (go_at_call 92; with_reducible refine hi.mono ?_; rintro e w' ⟨rfl, rfl⟩)
  go_ret
  exact ⟨rfl, rfl⟩
/-- Is it an operator's word? -/
def opB (s : ByteArray) : Bool := Lib.containsS opWords s
theorem isOp_any (s : ByteArray) (w : World) (ho : OpsAt w 0) :
    Calls Tryd.prog 89 #[.string s] w fun e w' => e = .returned (.bool (opB s)) ∧ w' = w := by
  have hi := contains_words 0 opWords 16 16 s w rfl (by omega) ho
  unfold opB
  go_enter Tryd.func89, Tryd.ntmps89
  go_wp2_with (go_at_call 90; with_reducible refine hi.mono ?_; rintro e w' ⟨rfl, rfl⟩)
  go_ret
  exact ⟨rfl, rfl⟩
/-- Is it a latch's first value? -/
def bitB (s : ByteArray) : Bool := decide (s.toList = [48]) || decide (s.toList = [49])
theorem isBit_any (s : ByteArray) (w : World) :
    Calls Tryd.prog 93 #[.string s] w fun e w' => e = .returned (.bool (bitB s)) ∧ w' = w := by
  by_cases h0 : s.toList = [48]
  · have hb : bitB s = true := by unfold bitB; rw [h0]; rfl
    go_enter Tryd.func93, Tryd.ntmps93
    go_wp2
    go_ret
    exact ⟨by rw [hb]; rfl, rfl⟩
  · by_cases h1 : s.toList = [49]
    · have hb : bitB s = true := by unfold bitB; rw [h1]; rfl
      go_enter Tryd.func93, Tryd.ntmps93
      go_wp2
      go_ret
      exact ⟨by rw [hb]; rfl, rfl⟩
    · have hb : bitB s = false := by unfold bitB; simp [h0, h1]
      have h2 : (s.toList == [49]) = false := by simpa using h1
      go_enter Tryd.func93, Tryd.ntmps93
      go_wp2
      go_ret
      exact ⟨by rw [hb]; simp [h0, h1], rfl⟩

/-- What bounds the reader's numbers. -/
structure StOk (st : St) : Prop where
  nx0 : 0 ≤ st.next
  nx1 : st.next ≤ 4000000
  wl : st.words.length ≤ 4000000
  ws : ∀ x ∈ st.words, x.text.size ≤ 4000000
/-- The next word, and what the reader holds behind it. -/
def St.take (st : St) (right : ByteArray → Bool) : Wd × St :=
  if st.fc = 0 then
    match st.words[st.next.toNat]? with
    | none => (⟨⟨#[]⟩, 0⟩, st.fail 140 st.end_)
    | some x => (x, if right x.text = true then { st with next := st.next + 1 } else ({ st with next := st.next + 1 } : St).fail 140 x.col)
  else (⟨⟨#[]⟩, 0⟩, st)
/-- The place of the next word is written. -/
theorem PS.next {w : World} {base b : Nat} {st : St} {x : Ex} (h : PS w base b st x) (v : Int) : Did w base b { st with next := v } x (w.setCell ⟨b, 7, none⟩ (.int .i64 v)) := by
  obtain ⟨hB, hP⟩ := h
  have hon := only_setCell (only_refl w (some b)) (p := ⟨b, 7, none⟩) (.inl rfl) (.int .i64 v)
  exact ⟨⟨Lib.hid (hB.out.set_ 7 _), Lib.hid ((hP.out.own hB.out hon).as rfl rfl rfl rfl rfl rfl rfl rfl)⟩, (Below.refl base w).grown hon (Nat.le_trans hP.out.bb (Nat.le_of_lt hB.out.lt)) (fun z e => by cases e; exact hP.out.bb), KeepT.own hB.out hon⟩
theorem only_set2 (w : World) (g : Nat) (u v : Value) : w.grownBy ((w.setCell ⟨g, 0, none⟩ u).setCell ⟨g, 1, none⟩ v) (some g) :=
  only_setCell (only_setCell (only_refl w (some g)) (p := ⟨g, 0, none⟩) (.inl rfl) u) (p := ⟨g, 1, none⟩) (.inl rfl) v

set_option maxRecDepth 100000 in
set_option maxHeartbeats 8000000 in
theorem take_name (base b : Nat) (st : St) (x : Ex) (w : World) (h : PS w base b st x) (hk : StOk st) :
    Calls Tryd.prog 61 #[.pointer (some ⟨b, 0, none⟩), .func (Fn.func 29) #[] #[]] w fun e w' => e = .returned (.agg #[.string (st.take nameB).1.text, .int .i64 (st.take nameB).1.col]) ∧ Did w base b (st.take nameB).2 x w' := by
  have D1 := Lib.hid ((Did.refl h).alloc (.cells #[.string ⟨#[]⟩, .int .i64 0] 109))
  have HR := Lib.hid (Blk.new w 109 [.string ⟨#[]⟩, .int .i64 0])
  have HP := Lib.hid h
  have HW1 := Lib.hid (below1 w (.cells #[.string ⟨#[]⟩, .int .i64 0] 109))
  have hb0 := h.size.2
  clear h
  go_enter Tryd.func61, Tryd.ntmps61
  go_upto_region 1 with (fail)
  change Code.wp _ _ _ _ (w.alloc (.cells #[.string ⟨#[]⟩, .int .i64 0] 109))
  generalize w.alloc (.cells #[.string ⟨#[]⟩, .int .i64 0] 109) = W1 at *
  obtain ⟨bR, hbR⟩ : ∃ bR, w.heap.size = bR := ⟨_, rfl⟩
  rw [hbR] at HR hb0 ⊢
  have HBR := Lib.hid hbR
  clear hbR
  obtain ⟨hB, hPR⟩ := D1.out.1
  have hb1 := D1.out.1.size.2
  have c9 : W1.cell? ⟨b, 9, none⟩ = some (.int .i64 st.fc) := (hB.out.cell 9).trans rfl
  by_cases hf : st.fc = 0
  · rw [hf] at c9
    have c6 : W1.cell? ⟨b, 6, none⟩ = some (.slice st.wA st.words.length st.wC) := (hB.out.cell 6).trans rfl
    have c7 : W1.cell? ⟨b, 7, none⟩ = some (.int .i64 st.next) := (hB.out.cell 7).trans rfl
    have c8 : W1.cell? ⟨b, 8, none⟩ = some (.int .i64 st.end_) := (hB.out.cell 8).trans rfl
    obtain ⟨q, hq⟩ : ∃ q : Nat, st.next = (q : Int) := ⟨st.next.toNat, by have := hk.nx0; omega⟩
    rw [hq] at c7
    have hqm : q ≤ 4000000 := by have := hk.nx1; omega
    obtain ⟨L, hL⟩ : ∃ L, st.words.length = L := ⟨_, rfl⟩
    rw [hL] at c6
    by_cases hlt : q < L
    · obtain ⟨y, hy⟩ : ∃ y, st.words[q]? = some y := ⟨_, List.getElem?_eq_getElem (by omega)⟩
      have htk : st.take nameB = (y, if nameB y.text = true then { st with next := st.next + 1 } else ({ st with next := st.next + 1 } : St).fail 140 y.col) := by
        unfold St.take
        rw [if_pos hf, hq, Int.toNat_natCast, hy]
      have hys := hk.ws y (List.mem_of_getElem? hy)
      have hh : (if nameB y.text = true then { st with next := st.next + 1 } else ({ st with next := st.next + 1 } : St).fail 140 y.col) = (st.take nameB).2 := by rw [htk]
      have HTT : Hid ((st.take nameB).1 = y) := Lib.hid (by rw [htk])
      have HTS := Lib.hid hh
      obtain ⟨gW, hgW, k0, k1⟩ := hPR.out.words.at_ hy
      rw [hgW] at c6
      have h0 : (0 : Int) ≤ (q : Int) := by omega
      have h1 : (q : Int) < (L : Int) := by omega
      have hge : ¬ (L : Int) ≤ (q : Int) := by omega
      have hge2 : ¬ L ≤ q := by omega
      obtain ⟨tx, tc⟩ := y
      dsimp only at *
      have HKS : Hid (∀ W, Below W1.heap.size W1 W → W.cell? ⟨b, 6, none⟩ = some (.slice (some ⟨gW, 0, none⟩) L st.wC) ∧ W.cell? ⟨b, 7, none⟩ = some (.int .i64 (q : Int)) ∧ W.cell? ⟨gW, q * 2, none⟩ = some (.string tx) ∧ W.cell? ⟨gW, q * 2 + 1, none⟩ = some (.int .i64 tc)) := Lib.hid fun W hW => ⟨cell_kept hW c6, cell_kept hW c7, cell_kept hW k0, cell_kept hW k1⟩
      clear htk hh hy
      go_upto_region 3 with (fail)
      go_quiet (fail)
      have D2 := Lib.hid (D1.out.drewN nq)
      have HRd : Hid (Blk (W1.drewN nq) bR 109 [.string ⟨#[]⟩, .int .i64 0]) := Lib.hid (HR.out.self (below_drewN (Below.refl _ _) nq))
      have HKS2 : Hid (∀ W, Below (W1.drewN nq).heap.size (W1.drewN nq) W → W.cell? ⟨b, 6, none⟩ = some (.slice (some ⟨gW, 0, none⟩) L st.wC) ∧ W.cell? ⟨b, 7, none⟩ = some (.int .i64 (q : Int)) ∧ W.cell? ⟨gW, q * 2, none⟩ = some (.string tx) ∧ W.cell? ⟨gW, q * 2 + 1, none⟩ = some (.int .i64 tc)) := Lib.hid fun W hW => HKS.out W (below_self (below_drewN (Below.refl _ _) nq) hW)
      clear HKS c6 c7 c8 c9 k0 k1 hB hPR D1 HR
      generalize W1.drewN nq = W2 at *
      go_upto_region 6 with (fail)
      go_region_held3 (fun W => W.cell? ⟨b, 6, none⟩ = some (.slice (some ⟨gW, 0, none⟩) L st.wC) ∧ W.cell? ⟨b, 7, none⟩ = some (.int .i64 (q : Int)) ∧ W.cell? ⟨gW, q * 2, none⟩ = some (.string tx) ∧ W.cell? ⟨gW, q * 2 + 1, none⟩ = some (.int .i64 tc))
        (first | exact HKS2.out _ (below_drew0 (Below.refl _ _)) | exact HKS2.out _ (below_drew0 (below1 _ _)))
        (fail)
      have D3 := Lib.hid ((D2.out.alloc (.cells #[.string tx, .int .i64 tc] 109)).drew)
      have HWd : Hid (Blk ((W2.alloc (.cells #[.string tx, .int .i64 tc] 109)).drew) W2.heap.size 109 [.string tx, .int .i64 tc]) := Lib.hid (Blk.new W2 109 [.string tx, .int .i64 tc])
      have HR3 : Hid (Blk ((W2.alloc (.cells #[.string tx, .int .i64 tc] 109)).drew) bR 109 [.string ⟨#[]⟩, .int .i64 0]) := Lib.hid (HRd.out.self (below_drew0 (below1 W2 _)))
      have c7 := (HKS2.out _ (below_drew0 (below1 W2 (.cells #[.string tx, .int .i64 tc] 109)))).2.1
      clear HKS2 D2 HRd
      generalize (W2.alloc (.cells #[.string tx, .int .i64 tc] 109)).drew = W3 at *
      obtain ⟨bW, hbW⟩ : ∃ bW, W2.heap.size = bW := ⟨_, rfl⟩
      rw [hbW] at HWd ⊢
      clear hbW
      have hnx := Lib.hid (PS.next D3.out.1 ((q : Int) + 1))
      have D4 := Lib.hid (D3.out.trans hnx.out)
      have HWd4 := Lib.hid (hnx.out.2.2 _ _ _ HWd.out (by decide))
      have HR4 := Lib.hid (hnx.out.2.2 _ _ _ HR3.out (by decide))
      obtain ⟨hB3, _⟩ := D3.out.1
      have f7 := hB3.out.frozen 7
      have hwr : IntKind.i64.wrap ((q : Int) + 1) = (q : Int) + 1 := by rw [IntKind.wrap_i64]; omega
      clear hnx D3 HWd HR3 hB3
      go_upto_region 8 with (fail)
      clear c7 f7
      generalize W3.setCell ⟨b, 7, none⟩ (.int .i64 ((q : Int) + 1)) = W4 at *
      obtain ⟨st1, hst1⟩ : ∃ s : St, ({ st with next := (q : Int) + 1 } : St) = s := ⟨_, rfl⟩
      have hwa1 : st1.wA = st.wA := by rw [← hst1]
      have hww1 : st1.words = st.words := by rw [← hst1]
      rw [hst1] at D4
      have HTS1 : Hid ((if nameB tx = true then st1 else st1.fail 140 tc) = (st.take nameB).2) := Lib.hid (by
        rw [← HTS.out, hq, hst1])
      clear hst1 HTS
      have z0 : W4.cell? ⟨bR, 0, none⟩ = some (.string ⟨#[]⟩) := (HR4.out.cell 0).trans rfl
      have z1 : W4.cell? ⟨bR, 1, none⟩ = some (.int .i64 0) := (HR4.out.cell 1).trans rfl
      have q0 := HR4.out.frozen 0
      have q1 := HR4.out.frozen 1
      have y0 : W4.cell? ⟨bW, 0, none⟩ = some (.string tx) := (HWd4.out.cell 0).trans rfl
      have y1 : W4.cell? ⟨bW, 1, none⟩ = some (.int .i64 tc) := (HWd4.out.cell 1).trans rfl
      have hct : Calls Tryd.prog 29 #[.string tx] W4 fun e w' => e = .returned (.bool (nameB tx)) ∧ w' = W4 := isName_any tx _ (by unfold maxLen; omega)
      obtain ⟨rb, hrb⟩ : ∃ rb, nameB tx = rb := ⟨_, rfl⟩
      rw [hrb] at hct HTS1
      clear hrb
      cases rb
      · rw [if_neg (by decide)] at HTS1
        go_upto_region 9 with (go_at_call 29; with_reducible refine hct.mono ?_; rintro e w' ⟨rfl, rfl⟩)
        have HF := Lib.hid (fail_any base b st1 x 140 tc _ D4.out.1)
        clear z0 z1 q0 q1
        go_upto_region 10 with (go_at_call 60; with_reducible refine HF.out.mono ?_; rintro e w5 ⟨rfl, hd5⟩)
        have HR5 := Lib.hid (hd5.2.2 _ _ _ HR4.out (by decide))
        have HWd5 := Lib.hid (hd5.2.2 _ _ _ HWd4.out (by decide))
        have D5 := Lib.hid (D4.out.trans hd5)
        clear y0 y1 HF hct
        have z0 : w5.cell? ⟨bR, 0, none⟩ = some (.string ⟨#[]⟩) := (HR5.out.cell 0).trans rfl
        have z1 : w5.cell? ⟨bR, 1, none⟩ = some (.int .i64 0) := (HR5.out.cell 1).trans rfl
        have q0 := HR5.out.frozen 0
        have q1 := HR5.out.frozen 1
        have y0 : w5.cell? ⟨bW, 0, none⟩ = some (.string tx) := (HWd5.out.cell 0).trans rfl
        have y1 : w5.cell? ⟨bW, 1, none⟩ = some (.int .i64 tc) := (HWd5.out.cell 1).trans rfl
        have hs := (HR5.out.set_ 0 (.string tx)).set_ 1 (.int .i64 tc)
        have r0 := Lib.hid ((hs.cell 0).trans rfl)
        have r1 := Lib.hid ((hs.cell 1).trans rfl)
        have hdid : Hid (Did w base b (st1.fail 140 tc) x ((w5.setCell ⟨bR, 0, none⟩ (.string tx)).setCell ⟨bR, 1, none⟩ (.int .i64 tc))) := Lib.hid (Did.word HP.out (by unfold St.fail; split <;> exact hwa1) (by unfold St.fail; split <;> exact hww1) D5.out HR5.out.typed (only_set2 w5 bR _ _) (by rw [HBR.out]; exact Nat.le_refl _))
        rw [HTS1.out] at hdid
        clear hs hd5 D5 HR5 HWd5
        go_wp2
        exact bodyPost_ret (v := .agg #[.string tx, .int .i64 tc]) (by simp [results, Tryd.results61, go_sem, r0.out, r1.out]) rfl ⟨by rw [HTT.out], hdid.out⟩
      · rw [if_pos rfl] at HTS1
        have hs := (HR4.out.set_ 0 (.string tx)).set_ 1 (.int .i64 tc)
        have r0 := Lib.hid ((hs.cell 0).trans rfl)
        have r1 := Lib.hid ((hs.cell 1).trans rfl)
        have hdid : Hid (Did w base b st1 x ((W4.setCell ⟨bR, 0, none⟩ (.string tx)).setCell ⟨bR, 1, none⟩ (.int .i64 tc))) := Lib.hid (Did.word HP.out hwa1 hww1 D4.out HR4.out.typed (only_set2 W4 bR _ _) (by rw [HBR.out]; exact Nat.le_refl _))
        rw [HTS1.out] at hdid
        clear hs
        go_wp2_with (go_at_call 29; with_reducible refine hct.mono ?_; rintro e w' ⟨rfl, rfl⟩)
        exact bodyPost_ret (v := .agg #[.string tx, .int .i64 tc]) (by simp [results, Tryd.results61, go_sem, r0.out, r1.out]) rfl ⟨by rw [HTT.out], hdid.out⟩
    · have hnone : st.words[q]? = none := List.getElem?_eq_none (by omega)
      have htk : st.take nameB = (⟨⟨#[]⟩, 0⟩, st.fail 140 st.end_) := by
        unfold St.take
        rw [if_pos hf, hq, Int.toNat_natCast, hnone]
      have HTK := Lib.hid htk
      have h0 : (L : Int) ≤ (q : Int) := by omega
      have h1 : L ≤ q := by omega
      clear htk hnone
      go_upto_region 3 with (fail)
      go_quiet (fail)
      have HF := Lib.hid (fail_any base b st x 140 st.end_ (W1.drewN nq) (D1.out.drewN nq).1)
      have c6' : (W1.drewN nq).cell? ⟨b, 6, none⟩ = some (.slice st.wA L st.wC) := c6
      have c8' : (W1.drewN nq).cell? ⟨b, 8, none⟩ = some (.int .i64 st.end_) := c8
      have HRd : Hid (Blk (W1.drewN nq) bR 109 [.string ⟨#[]⟩, .int .i64 0]) := Lib.hid (HR.out.self (below_drewN (Below.refl _ _) nq))
      have D2 := Lib.hid (D1.out.drewN nq)
      generalize W1.drewN nq = W2 at *
      go_upto_region 5 with (go_at_call 60; with_reducible refine HF.out.mono ?_; rintro e w3 ⟨rfl, hd3⟩)
      have HR3 := Lib.hid (hd3.2.2 _ _ _ HRd.out (by decide))
      have D3 := Lib.hid (D2.out.trans hd3)
      have z0 : w3.cell? ⟨bR, 0, none⟩ = some (.string ⟨#[]⟩) := (HR3.out.cell 0).trans rfl
      have z1 : w3.cell? ⟨bR, 1, none⟩ = some (.int .i64 0) := (HR3.out.cell 1).trans rfl
      have q0 := HR3.out.frozen 0
      have q1 := HR3.out.frozen 1
      have hs := (HR3.out.set_ 0 (.string ⟨#[]⟩)).set_ 1 (.int .i64 0)
      have r0 := Lib.hid ((hs.cell 0).trans rfl)
      have r1 := Lib.hid ((hs.cell 1).trans rfl)
      have hdid : Hid (Did w base b (st.fail 140 st.end_) x ((w3.setCell ⟨bR, 0, none⟩ (.string ⟨#[]⟩)).setCell ⟨bR, 1, none⟩ (.int .i64 0))) := Lib.hid (Did.word HP.out (by unfold St.fail; split <;> rfl) (by unfold St.fail; split <;> rfl) D3.out HR3.out.typed (only_set2 w3 bR _ _) (by rw [HBR.out]; exact Nat.le_refl _))
      clear hs hd3 HF c6' c8' c6 c7 c8 c9
      go_wp2
      exact bodyPost_ret (v := .agg #[.string ⟨#[]⟩, .int .i64 0]) (by simp [results, Tryd.results61, go_sem, r0.out, r1.out]) rfl ⟨by rw [HTK.out], by rw [HTK.out]; exact hdid.out⟩
  · have htk : st.take nameB = (⟨⟨#[]⟩, 0⟩, st) := by unfold St.take; rw [if_neg hf]
    have hfb : (st.fc == 0) = false := by simpa using hf
    have HTK := Lib.hid htk
    have z0 : W1.cell? ⟨bR, 0, none⟩ = some (.string ⟨#[]⟩) := (HR.out.cell 0).trans rfl
    have z1 : W1.cell? ⟨bR, 1, none⟩ = some (.int .i64 0) := (HR.out.cell 1).trans rfl
    have q0 := HR.out.frozen 0
    have q1 := HR.out.frozen 1
    have hs := (HR.out.set_ 0 (.string ⟨#[]⟩)).set_ 1 (.int .i64 0)
    have r0 := Lib.hid ((hs.cell 0).trans rfl)
    have r1 := Lib.hid ((hs.cell 1).trans rfl)
    have hdid : Hid (Did w base b st x ((W1.setCell ⟨bR, 0, none⟩ (.string ⟨#[]⟩)).setCell ⟨bR, 1, none⟩ (.int .i64 0))) := Lib.hid (Did.word HP.out rfl rfl D1.out HR.out.typed (only_set2 W1 bR _ _) (by rw [HBR.out]; exact Nat.le_refl _))
    clear hs htk hB hPR
    go_wp2
    exact bodyPost_ret (v := .agg #[.string ⟨#[]⟩, .int .i64 0]) (by simp [results, Tryd.results61, go_sem, r0.out, r1.out]) rfl ⟨by rw [HTK.out], by rw [HTK.out]; exact hdid.out⟩

set_option maxRecDepth 100000 in
set_option maxHeartbeats 8000000 in
theorem take_op (base b : Nat) (st : St) (x : Ex) (w : World) (h : PS w base b st x) (hk : StOk st) (ho : ∀ W, Below base w W → OpsAt W 0) :
    Calls Tryd.prog 61 #[.pointer (some ⟨b, 0, none⟩), .func (Fn.func 89) #[] #[]] w fun e w' => e = .returned (.agg #[.string (st.take opB).1.text, .int .i64 (st.take opB).1.col]) ∧ Did w base b (st.take opB).2 x w' := by
  have D1 := Lib.hid ((Did.refl h).alloc (.cells #[.string ⟨#[]⟩, .int .i64 0] 109))
  have HR := Lib.hid (Blk.new w 109 [.string ⟨#[]⟩, .int .i64 0])
  have HP := Lib.hid h
  have HW1 := Lib.hid (below1 w (.cells #[.string ⟨#[]⟩, .int .i64 0] 109))
  have hb0 := h.size.2
  clear h
  go_enter Tryd.func61, Tryd.ntmps61
  go_upto_region 1 with (fail)
  change Code.wp _ _ _ _ (w.alloc (.cells #[.string ⟨#[]⟩, .int .i64 0] 109))
  generalize w.alloc (.cells #[.string ⟨#[]⟩, .int .i64 0] 109) = W1 at *
  obtain ⟨bR, hbR⟩ : ∃ bR, w.heap.size = bR := ⟨_, rfl⟩
  rw [hbR] at HR hb0 ⊢
  have HBR := Lib.hid hbR
  clear hbR
  obtain ⟨hB, hPR⟩ := D1.out.1
  have hb1 := D1.out.1.size.2
  have c9 : W1.cell? ⟨b, 9, none⟩ = some (.int .i64 st.fc) := (hB.out.cell 9).trans rfl
  by_cases hf : st.fc = 0
  · rw [hf] at c9
    have c6 : W1.cell? ⟨b, 6, none⟩ = some (.slice st.wA st.words.length st.wC) := (hB.out.cell 6).trans rfl
    have c7 : W1.cell? ⟨b, 7, none⟩ = some (.int .i64 st.next) := (hB.out.cell 7).trans rfl
    have c8 : W1.cell? ⟨b, 8, none⟩ = some (.int .i64 st.end_) := (hB.out.cell 8).trans rfl
    obtain ⟨q, hq⟩ : ∃ q : Nat, st.next = (q : Int) := ⟨st.next.toNat, by have := hk.nx0; omega⟩
    rw [hq] at c7
    have hqm : q ≤ 4000000 := by have := hk.nx1; omega
    obtain ⟨L, hL⟩ : ∃ L, st.words.length = L := ⟨_, rfl⟩
    rw [hL] at c6
    by_cases hlt : q < L
    · obtain ⟨y, hy⟩ : ∃ y, st.words[q]? = some y := ⟨_, List.getElem?_eq_getElem (by omega)⟩
      have htk : st.take opB = (y, if opB y.text = true then { st with next := st.next + 1 } else ({ st with next := st.next + 1 } : St).fail 140 y.col) := by
        unfold St.take
        rw [if_pos hf, hq, Int.toNat_natCast, hy]
      have hys := hk.ws y (List.mem_of_getElem? hy)
      have hh : (if opB y.text = true then { st with next := st.next + 1 } else ({ st with next := st.next + 1 } : St).fail 140 y.col) = (st.take opB).2 := by rw [htk]
      have HTT : Hid ((st.take opB).1 = y) := Lib.hid (by rw [htk])
      have HTS := Lib.hid hh
      obtain ⟨gW, hgW, k0, k1⟩ := hPR.out.words.at_ hy
      rw [hgW] at c6
      have h0 : (0 : Int) ≤ (q : Int) := by omega
      have h1 : (q : Int) < (L : Int) := by omega
      have hge : ¬ (L : Int) ≤ (q : Int) := by omega
      have hge2 : ¬ L ≤ q := by omega
      obtain ⟨tx, tc⟩ := y
      dsimp only at *
      have HKS : Hid (∀ W, Below W1.heap.size W1 W → W.cell? ⟨b, 6, none⟩ = some (.slice (some ⟨gW, 0, none⟩) L st.wC) ∧ W.cell? ⟨b, 7, none⟩ = some (.int .i64 (q : Int)) ∧ W.cell? ⟨gW, q * 2, none⟩ = some (.string tx) ∧ W.cell? ⟨gW, q * 2 + 1, none⟩ = some (.int .i64 tc)) := Lib.hid fun W hW => ⟨cell_kept hW c6, cell_kept hW c7, cell_kept hW k0, cell_kept hW k1⟩
      clear htk hh hy
      go_upto_region 3 with (fail)
      go_quiet (fail)
      have D2 := Lib.hid (D1.out.drewN nq)
      have HRd : Hid (Blk (W1.drewN nq) bR 109 [.string ⟨#[]⟩, .int .i64 0]) := Lib.hid (HR.out.self (below_drewN (Below.refl _ _) nq))
      have HKS2 : Hid (∀ W, Below (W1.drewN nq).heap.size (W1.drewN nq) W → W.cell? ⟨b, 6, none⟩ = some (.slice (some ⟨gW, 0, none⟩) L st.wC) ∧ W.cell? ⟨b, 7, none⟩ = some (.int .i64 (q : Int)) ∧ W.cell? ⟨gW, q * 2, none⟩ = some (.string tx) ∧ W.cell? ⟨gW, q * 2 + 1, none⟩ = some (.int .i64 tc)) := Lib.hid fun W hW => HKS.out W (below_self (below_drewN (Below.refl _ _) nq) hW)
      clear HKS c6 c7 c8 c9 k0 k1 hB hPR D1 HR
      generalize W1.drewN nq = W2 at *
      go_upto_region 6 with (fail)
      go_region_held3 (fun W => W.cell? ⟨b, 6, none⟩ = some (.slice (some ⟨gW, 0, none⟩) L st.wC) ∧ W.cell? ⟨b, 7, none⟩ = some (.int .i64 (q : Int)) ∧ W.cell? ⟨gW, q * 2, none⟩ = some (.string tx) ∧ W.cell? ⟨gW, q * 2 + 1, none⟩ = some (.int .i64 tc))
        (first | exact HKS2.out _ (below_drew0 (Below.refl _ _)) | exact HKS2.out _ (below_drew0 (below1 _ _)))
        (fail)
      have D3 := Lib.hid ((D2.out.alloc (.cells #[.string tx, .int .i64 tc] 109)).drew)
      have HWd : Hid (Blk ((W2.alloc (.cells #[.string tx, .int .i64 tc] 109)).drew) W2.heap.size 109 [.string tx, .int .i64 tc]) := Lib.hid (Blk.new W2 109 [.string tx, .int .i64 tc])
      have HR3 : Hid (Blk ((W2.alloc (.cells #[.string tx, .int .i64 tc] 109)).drew) bR 109 [.string ⟨#[]⟩, .int .i64 0]) := Lib.hid (HRd.out.self (below_drew0 (below1 W2 _)))
      have c7 := (HKS2.out _ (below_drew0 (below1 W2 (.cells #[.string tx, .int .i64 tc] 109)))).2.1
      clear HKS2 D2 HRd
      generalize (W2.alloc (.cells #[.string tx, .int .i64 tc] 109)).drew = W3 at *
      obtain ⟨bW, hbW⟩ : ∃ bW, W2.heap.size = bW := ⟨_, rfl⟩
      rw [hbW] at HWd ⊢
      clear hbW
      have hnx := Lib.hid (PS.next D3.out.1 ((q : Int) + 1))
      have D4 := Lib.hid (D3.out.trans hnx.out)
      have HWd4 := Lib.hid (hnx.out.2.2 _ _ _ HWd.out (by decide))
      have HR4 := Lib.hid (hnx.out.2.2 _ _ _ HR3.out (by decide))
      obtain ⟨hB3, _⟩ := D3.out.1
      have f7 := hB3.out.frozen 7
      have hwr : IntKind.i64.wrap ((q : Int) + 1) = (q : Int) + 1 := by rw [IntKind.wrap_i64]; omega
      clear hnx D3 HWd HR3 hB3
      go_upto_region 8 with (fail)
      clear c7 f7
      generalize W3.setCell ⟨b, 7, none⟩ (.int .i64 ((q : Int) + 1)) = W4 at *
      obtain ⟨st1, hst1⟩ : ∃ s : St, ({ st with next := (q : Int) + 1 } : St) = s := ⟨_, rfl⟩
      have hwa1 : st1.wA = st.wA := by rw [← hst1]
      have hww1 : st1.words = st.words := by rw [← hst1]
      rw [hst1] at D4
      have HTS1 : Hid ((if opB tx = true then st1 else st1.fail 140 tc) = (st.take opB).2) := Lib.hid (by
        rw [← HTS.out, hq, hst1])
      clear hst1 HTS
      have z0 : W4.cell? ⟨bR, 0, none⟩ = some (.string ⟨#[]⟩) := (HR4.out.cell 0).trans rfl
      have z1 : W4.cell? ⟨bR, 1, none⟩ = some (.int .i64 0) := (HR4.out.cell 1).trans rfl
      have q0 := HR4.out.frozen 0
      have q1 := HR4.out.frozen 1
      have y0 : W4.cell? ⟨bW, 0, none⟩ = some (.string tx) := (HWd4.out.cell 0).trans rfl
      have y1 : W4.cell? ⟨bW, 1, none⟩ = some (.int .i64 tc) := (HWd4.out.cell 1).trans rfl
      have hct : Calls Tryd.prog 89 #[.string tx] W4 fun e w' => e = .returned (.bool (opB tx)) ∧ w' = W4 := isOp_any tx _ (ho _ D4.out.2.1)
      obtain ⟨rb, hrb⟩ : ∃ rb, opB tx = rb := ⟨_, rfl⟩
      rw [hrb] at hct HTS1
      clear hrb
      cases rb
      · rw [if_neg (by decide)] at HTS1
        go_upto_region 9 with (go_at_call 89; with_reducible refine hct.mono ?_; rintro e w' ⟨rfl, rfl⟩)
        have HF := Lib.hid (fail_any base b st1 x 140 tc _ D4.out.1)
        clear z0 z1 q0 q1
        go_upto_region 10 with (go_at_call 60; with_reducible refine HF.out.mono ?_; rintro e w5 ⟨rfl, hd5⟩)
        have HR5 := Lib.hid (hd5.2.2 _ _ _ HR4.out (by decide))
        have HWd5 := Lib.hid (hd5.2.2 _ _ _ HWd4.out (by decide))
        have D5 := Lib.hid (D4.out.trans hd5)
        clear y0 y1 HF hct
        have z0 : w5.cell? ⟨bR, 0, none⟩ = some (.string ⟨#[]⟩) := (HR5.out.cell 0).trans rfl
        have z1 : w5.cell? ⟨bR, 1, none⟩ = some (.int .i64 0) := (HR5.out.cell 1).trans rfl
        have q0 := HR5.out.frozen 0
        have q1 := HR5.out.frozen 1
        have y0 : w5.cell? ⟨bW, 0, none⟩ = some (.string tx) := (HWd5.out.cell 0).trans rfl
        have y1 : w5.cell? ⟨bW, 1, none⟩ = some (.int .i64 tc) := (HWd5.out.cell 1).trans rfl
        have hs := (HR5.out.set_ 0 (.string tx)).set_ 1 (.int .i64 tc)
        have r0 := Lib.hid ((hs.cell 0).trans rfl)
        have r1 := Lib.hid ((hs.cell 1).trans rfl)
        have hdid : Hid (Did w base b (st1.fail 140 tc) x ((w5.setCell ⟨bR, 0, none⟩ (.string tx)).setCell ⟨bR, 1, none⟩ (.int .i64 tc))) := Lib.hid (Did.word HP.out (by unfold St.fail; split <;> exact hwa1) (by unfold St.fail; split <;> exact hww1) D5.out HR5.out.typed (only_set2 w5 bR _ _) (by rw [HBR.out]; exact Nat.le_refl _))
        rw [HTS1.out] at hdid
        clear hs hd5 D5 HR5 HWd5
        go_wp2
        exact bodyPost_ret (v := .agg #[.string tx, .int .i64 tc]) (by simp [results, Tryd.results61, go_sem, r0.out, r1.out]) rfl ⟨by rw [HTT.out], hdid.out⟩
      · rw [if_pos rfl] at HTS1
        have hs := (HR4.out.set_ 0 (.string tx)).set_ 1 (.int .i64 tc)
        have r0 := Lib.hid ((hs.cell 0).trans rfl)
        have r1 := Lib.hid ((hs.cell 1).trans rfl)
        have hdid : Hid (Did w base b st1 x ((W4.setCell ⟨bR, 0, none⟩ (.string tx)).setCell ⟨bR, 1, none⟩ (.int .i64 tc))) := Lib.hid (Did.word HP.out hwa1 hww1 D4.out HR4.out.typed (only_set2 W4 bR _ _) (by rw [HBR.out]; exact Nat.le_refl _))
        rw [HTS1.out] at hdid
        clear hs
        go_wp2_with (go_at_call 89; with_reducible refine hct.mono ?_; rintro e w' ⟨rfl, rfl⟩)
        exact bodyPost_ret (v := .agg #[.string tx, .int .i64 tc]) (by simp [results, Tryd.results61, go_sem, r0.out, r1.out]) rfl ⟨by rw [HTT.out], hdid.out⟩
    · have hnone : st.words[q]? = none := List.getElem?_eq_none (by omega)
      have htk : st.take opB = (⟨⟨#[]⟩, 0⟩, st.fail 140 st.end_) := by
        unfold St.take
        rw [if_pos hf, hq, Int.toNat_natCast, hnone]
      have HTK := Lib.hid htk
      have h0 : (L : Int) ≤ (q : Int) := by omega
      have h1 : L ≤ q := by omega
      clear htk hnone
      go_upto_region 3 with (fail)
      go_quiet (fail)
      have HF := Lib.hid (fail_any base b st x 140 st.end_ (W1.drewN nq) (D1.out.drewN nq).1)
      have c6' : (W1.drewN nq).cell? ⟨b, 6, none⟩ = some (.slice st.wA L st.wC) := c6
      have c8' : (W1.drewN nq).cell? ⟨b, 8, none⟩ = some (.int .i64 st.end_) := c8
      have HRd : Hid (Blk (W1.drewN nq) bR 109 [.string ⟨#[]⟩, .int .i64 0]) := Lib.hid (HR.out.self (below_drewN (Below.refl _ _) nq))
      have D2 := Lib.hid (D1.out.drewN nq)
      generalize W1.drewN nq = W2 at *
      go_upto_region 5 with (go_at_call 60; with_reducible refine HF.out.mono ?_; rintro e w3 ⟨rfl, hd3⟩)
      have HR3 := Lib.hid (hd3.2.2 _ _ _ HRd.out (by decide))
      have D3 := Lib.hid (D2.out.trans hd3)
      have z0 : w3.cell? ⟨bR, 0, none⟩ = some (.string ⟨#[]⟩) := (HR3.out.cell 0).trans rfl
      have z1 : w3.cell? ⟨bR, 1, none⟩ = some (.int .i64 0) := (HR3.out.cell 1).trans rfl
      have q0 := HR3.out.frozen 0
      have q1 := HR3.out.frozen 1
      have hs := (HR3.out.set_ 0 (.string ⟨#[]⟩)).set_ 1 (.int .i64 0)
      have r0 := Lib.hid ((hs.cell 0).trans rfl)
      have r1 := Lib.hid ((hs.cell 1).trans rfl)
      have hdid : Hid (Did w base b (st.fail 140 st.end_) x ((w3.setCell ⟨bR, 0, none⟩ (.string ⟨#[]⟩)).setCell ⟨bR, 1, none⟩ (.int .i64 0))) := Lib.hid (Did.word HP.out (by unfold St.fail; split <;> rfl) (by unfold St.fail; split <;> rfl) D3.out HR3.out.typed (only_set2 w3 bR _ _) (by rw [HBR.out]; exact Nat.le_refl _))
      clear hs hd3 HF c6' c8' c6 c7 c8 c9
      go_wp2
      exact bodyPost_ret (v := .agg #[.string ⟨#[]⟩, .int .i64 0]) (by simp [results, Tryd.results61, go_sem, r0.out, r1.out]) rfl ⟨by rw [HTK.out], by rw [HTK.out]; exact hdid.out⟩
  · have htk : st.take opB = (⟨⟨#[]⟩, 0⟩, st) := by unfold St.take; rw [if_neg hf]
    have hfb : (st.fc == 0) = false := by simpa using hf
    have HTK := Lib.hid htk
    have z0 : W1.cell? ⟨bR, 0, none⟩ = some (.string ⟨#[]⟩) := (HR.out.cell 0).trans rfl
    have z1 : W1.cell? ⟨bR, 1, none⟩ = some (.int .i64 0) := (HR.out.cell 1).trans rfl
    have q0 := HR.out.frozen 0
    have q1 := HR.out.frozen 1
    have hs := (HR.out.set_ 0 (.string ⟨#[]⟩)).set_ 1 (.int .i64 0)
    have r0 := Lib.hid ((hs.cell 0).trans rfl)
    have r1 := Lib.hid ((hs.cell 1).trans rfl)
    have hdid : Hid (Did w base b st x ((W1.setCell ⟨bR, 0, none⟩ (.string ⟨#[]⟩)).setCell ⟨bR, 1, none⟩ (.int .i64 0))) := Lib.hid (Did.word HP.out rfl rfl D1.out HR.out.typed (only_set2 W1 bR _ _) (by rw [HBR.out]; exact Nat.le_refl _))
    clear hs htk hB hPR
    go_wp2
    exact bodyPost_ret (v := .agg #[.string ⟨#[]⟩, .int .i64 0]) (by simp [results, Tryd.results61, go_sem, r0.out, r1.out]) rfl ⟨by rw [HTK.out], by rw [HTK.out]; exact hdid.out⟩

set_option maxRecDepth 100000 in
set_option maxHeartbeats 8000000 in
theorem take_bit (base b : Nat) (st : St) (x : Ex) (w : World) (h : PS w base b st x) (hk : StOk st) :
    Calls Tryd.prog 61 #[.pointer (some ⟨b, 0, none⟩), .func (Fn.func 93) #[] #[]] w fun e w' => e = .returned (.agg #[.string (st.take bitB).1.text, .int .i64 (st.take bitB).1.col]) ∧ Did w base b (st.take bitB).2 x w' := by
  have D1 := Lib.hid ((Did.refl h).alloc (.cells #[.string ⟨#[]⟩, .int .i64 0] 109))
  have HR := Lib.hid (Blk.new w 109 [.string ⟨#[]⟩, .int .i64 0])
  have HP := Lib.hid h
  have HW1 := Lib.hid (below1 w (.cells #[.string ⟨#[]⟩, .int .i64 0] 109))
  have hb0 := h.size.2
  clear h
  go_enter Tryd.func61, Tryd.ntmps61
  go_upto_region 1 with (fail)
  change Code.wp _ _ _ _ (w.alloc (.cells #[.string ⟨#[]⟩, .int .i64 0] 109))
  generalize w.alloc (.cells #[.string ⟨#[]⟩, .int .i64 0] 109) = W1 at *
  obtain ⟨bR, hbR⟩ : ∃ bR, w.heap.size = bR := ⟨_, rfl⟩
  rw [hbR] at HR hb0 ⊢
  have HBR := Lib.hid hbR
  clear hbR
  obtain ⟨hB, hPR⟩ := D1.out.1
  have hb1 := D1.out.1.size.2
  have c9 : W1.cell? ⟨b, 9, none⟩ = some (.int .i64 st.fc) := (hB.out.cell 9).trans rfl
  by_cases hf : st.fc = 0
  · rw [hf] at c9
    have c6 : W1.cell? ⟨b, 6, none⟩ = some (.slice st.wA st.words.length st.wC) := (hB.out.cell 6).trans rfl
    have c7 : W1.cell? ⟨b, 7, none⟩ = some (.int .i64 st.next) := (hB.out.cell 7).trans rfl
    have c8 : W1.cell? ⟨b, 8, none⟩ = some (.int .i64 st.end_) := (hB.out.cell 8).trans rfl
    obtain ⟨q, hq⟩ : ∃ q : Nat, st.next = (q : Int) := ⟨st.next.toNat, by have := hk.nx0; omega⟩
    rw [hq] at c7
    have hqm : q ≤ 4000000 := by have := hk.nx1; omega
    obtain ⟨L, hL⟩ : ∃ L, st.words.length = L := ⟨_, rfl⟩
    rw [hL] at c6
    by_cases hlt : q < L
    · obtain ⟨y, hy⟩ : ∃ y, st.words[q]? = some y := ⟨_, List.getElem?_eq_getElem (by omega)⟩
      have htk : st.take bitB = (y, if bitB y.text = true then { st with next := st.next + 1 } else ({ st with next := st.next + 1 } : St).fail 140 y.col) := by
        unfold St.take
        rw [if_pos hf, hq, Int.toNat_natCast, hy]
      have hys := hk.ws y (List.mem_of_getElem? hy)
      have hh : (if bitB y.text = true then { st with next := st.next + 1 } else ({ st with next := st.next + 1 } : St).fail 140 y.col) = (st.take bitB).2 := by rw [htk]
      have HTT : Hid ((st.take bitB).1 = y) := Lib.hid (by rw [htk])
      have HTS := Lib.hid hh
      obtain ⟨gW, hgW, k0, k1⟩ := hPR.out.words.at_ hy
      rw [hgW] at c6
      have h0 : (0 : Int) ≤ (q : Int) := by omega
      have h1 : (q : Int) < (L : Int) := by omega
      have hge : ¬ (L : Int) ≤ (q : Int) := by omega
      have hge2 : ¬ L ≤ q := by omega
      obtain ⟨tx, tc⟩ := y
      dsimp only at *
      have HKS : Hid (∀ W, Below W1.heap.size W1 W → W.cell? ⟨b, 6, none⟩ = some (.slice (some ⟨gW, 0, none⟩) L st.wC) ∧ W.cell? ⟨b, 7, none⟩ = some (.int .i64 (q : Int)) ∧ W.cell? ⟨gW, q * 2, none⟩ = some (.string tx) ∧ W.cell? ⟨gW, q * 2 + 1, none⟩ = some (.int .i64 tc)) := Lib.hid fun W hW => ⟨cell_kept hW c6, cell_kept hW c7, cell_kept hW k0, cell_kept hW k1⟩
      clear htk hh hy
      go_upto_region 3 with (fail)
      go_quiet (fail)
      have D2 := Lib.hid (D1.out.drewN nq)
      have HRd : Hid (Blk (W1.drewN nq) bR 109 [.string ⟨#[]⟩, .int .i64 0]) := Lib.hid (HR.out.self (below_drewN (Below.refl _ _) nq))
      have HKS2 : Hid (∀ W, Below (W1.drewN nq).heap.size (W1.drewN nq) W → W.cell? ⟨b, 6, none⟩ = some (.slice (some ⟨gW, 0, none⟩) L st.wC) ∧ W.cell? ⟨b, 7, none⟩ = some (.int .i64 (q : Int)) ∧ W.cell? ⟨gW, q * 2, none⟩ = some (.string tx) ∧ W.cell? ⟨gW, q * 2 + 1, none⟩ = some (.int .i64 tc)) := Lib.hid fun W hW => HKS.out W (below_self (below_drewN (Below.refl _ _) nq) hW)
      clear HKS c6 c7 c8 c9 k0 k1 hB hPR D1 HR
      generalize W1.drewN nq = W2 at *
      go_upto_region 6 with (fail)
      go_region_held3 (fun W => W.cell? ⟨b, 6, none⟩ = some (.slice (some ⟨gW, 0, none⟩) L st.wC) ∧ W.cell? ⟨b, 7, none⟩ = some (.int .i64 (q : Int)) ∧ W.cell? ⟨gW, q * 2, none⟩ = some (.string tx) ∧ W.cell? ⟨gW, q * 2 + 1, none⟩ = some (.int .i64 tc))
        (first | exact HKS2.out _ (below_drew0 (Below.refl _ _)) | exact HKS2.out _ (below_drew0 (below1 _ _)))
        (fail)
      have D3 := Lib.hid ((D2.out.alloc (.cells #[.string tx, .int .i64 tc] 109)).drew)
      have HWd : Hid (Blk ((W2.alloc (.cells #[.string tx, .int .i64 tc] 109)).drew) W2.heap.size 109 [.string tx, .int .i64 tc]) := Lib.hid (Blk.new W2 109 [.string tx, .int .i64 tc])
      have HR3 : Hid (Blk ((W2.alloc (.cells #[.string tx, .int .i64 tc] 109)).drew) bR 109 [.string ⟨#[]⟩, .int .i64 0]) := Lib.hid (HRd.out.self (below_drew0 (below1 W2 _)))
      have c7 := (HKS2.out _ (below_drew0 (below1 W2 (.cells #[.string tx, .int .i64 tc] 109)))).2.1
      clear HKS2 D2 HRd
      generalize (W2.alloc (.cells #[.string tx, .int .i64 tc] 109)).drew = W3 at *
      obtain ⟨bW, hbW⟩ : ∃ bW, W2.heap.size = bW := ⟨_, rfl⟩
      rw [hbW] at HWd ⊢
      clear hbW
      have hnx := Lib.hid (PS.next D3.out.1 ((q : Int) + 1))
      have D4 := Lib.hid (D3.out.trans hnx.out)
      have HWd4 := Lib.hid (hnx.out.2.2 _ _ _ HWd.out (by decide))
      have HR4 := Lib.hid (hnx.out.2.2 _ _ _ HR3.out (by decide))
      obtain ⟨hB3, _⟩ := D3.out.1
      have f7 := hB3.out.frozen 7
      have hwr : IntKind.i64.wrap ((q : Int) + 1) = (q : Int) + 1 := by rw [IntKind.wrap_i64]; omega
      clear hnx D3 HWd HR3 hB3
      go_upto_region 8 with (fail)
      clear c7 f7
      generalize W3.setCell ⟨b, 7, none⟩ (.int .i64 ((q : Int) + 1)) = W4 at *
      obtain ⟨st1, hst1⟩ : ∃ s : St, ({ st with next := (q : Int) + 1 } : St) = s := ⟨_, rfl⟩
      have hwa1 : st1.wA = st.wA := by rw [← hst1]
      have hww1 : st1.words = st.words := by rw [← hst1]
      rw [hst1] at D4
      have HTS1 : Hid ((if bitB tx = true then st1 else st1.fail 140 tc) = (st.take bitB).2) := Lib.hid (by
        rw [← HTS.out, hq, hst1])
      clear hst1 HTS
      have z0 : W4.cell? ⟨bR, 0, none⟩ = some (.string ⟨#[]⟩) := (HR4.out.cell 0).trans rfl
      have z1 : W4.cell? ⟨bR, 1, none⟩ = some (.int .i64 0) := (HR4.out.cell 1).trans rfl
      have q0 := HR4.out.frozen 0
      have q1 := HR4.out.frozen 1
      have y0 : W4.cell? ⟨bW, 0, none⟩ = some (.string tx) := (HWd4.out.cell 0).trans rfl
      have y1 : W4.cell? ⟨bW, 1, none⟩ = some (.int .i64 tc) := (HWd4.out.cell 1).trans rfl
      have hct : Calls Tryd.prog 93 #[.string tx] W4 fun e w' => e = .returned (.bool (bitB tx)) ∧ w' = W4 := isBit_any tx _
      obtain ⟨rb, hrb⟩ : ∃ rb, bitB tx = rb := ⟨_, rfl⟩
      rw [hrb] at hct HTS1
      clear hrb
      cases rb
      · rw [if_neg (by decide)] at HTS1
        go_upto_region 9 with (go_at_call 93; with_reducible refine hct.mono ?_; rintro e w' ⟨rfl, rfl⟩)
        have HF := Lib.hid (fail_any base b st1 x 140 tc _ D4.out.1)
        clear z0 z1 q0 q1
        go_upto_region 10 with (go_at_call 60; with_reducible refine HF.out.mono ?_; rintro e w5 ⟨rfl, hd5⟩)
        have HR5 := Lib.hid (hd5.2.2 _ _ _ HR4.out (by decide))
        have HWd5 := Lib.hid (hd5.2.2 _ _ _ HWd4.out (by decide))
        have D5 := Lib.hid (D4.out.trans hd5)
        clear y0 y1 HF hct
        have z0 : w5.cell? ⟨bR, 0, none⟩ = some (.string ⟨#[]⟩) := (HR5.out.cell 0).trans rfl
        have z1 : w5.cell? ⟨bR, 1, none⟩ = some (.int .i64 0) := (HR5.out.cell 1).trans rfl
        have q0 := HR5.out.frozen 0
        have q1 := HR5.out.frozen 1
        have y0 : w5.cell? ⟨bW, 0, none⟩ = some (.string tx) := (HWd5.out.cell 0).trans rfl
        have y1 : w5.cell? ⟨bW, 1, none⟩ = some (.int .i64 tc) := (HWd5.out.cell 1).trans rfl
        have hs := (HR5.out.set_ 0 (.string tx)).set_ 1 (.int .i64 tc)
        have r0 := Lib.hid ((hs.cell 0).trans rfl)
        have r1 := Lib.hid ((hs.cell 1).trans rfl)
        have hdid : Hid (Did w base b (st1.fail 140 tc) x ((w5.setCell ⟨bR, 0, none⟩ (.string tx)).setCell ⟨bR, 1, none⟩ (.int .i64 tc))) := Lib.hid (Did.word HP.out (by unfold St.fail; split <;> exact hwa1) (by unfold St.fail; split <;> exact hww1) D5.out HR5.out.typed (only_set2 w5 bR _ _) (by rw [HBR.out]; exact Nat.le_refl _))
        rw [HTS1.out] at hdid
        clear hs hd5 D5 HR5 HWd5
        go_wp2
        exact bodyPost_ret (v := .agg #[.string tx, .int .i64 tc]) (by simp [results, Tryd.results61, go_sem, r0.out, r1.out]) rfl ⟨by rw [HTT.out], hdid.out⟩
      · rw [if_pos rfl] at HTS1
        have hs := (HR4.out.set_ 0 (.string tx)).set_ 1 (.int .i64 tc)
        have r0 := Lib.hid ((hs.cell 0).trans rfl)
        have r1 := Lib.hid ((hs.cell 1).trans rfl)
        have hdid : Hid (Did w base b st1 x ((W4.setCell ⟨bR, 0, none⟩ (.string tx)).setCell ⟨bR, 1, none⟩ (.int .i64 tc))) := Lib.hid (Did.word HP.out hwa1 hww1 D4.out HR4.out.typed (only_set2 W4 bR _ _) (by rw [HBR.out]; exact Nat.le_refl _))
        rw [HTS1.out] at hdid
        clear hs
        go_wp2_with (go_at_call 93; with_reducible refine hct.mono ?_; rintro e w' ⟨rfl, rfl⟩)
        exact bodyPost_ret (v := .agg #[.string tx, .int .i64 tc]) (by simp [results, Tryd.results61, go_sem, r0.out, r1.out]) rfl ⟨by rw [HTT.out], hdid.out⟩
    · have hnone : st.words[q]? = none := List.getElem?_eq_none (by omega)
      have htk : st.take bitB = (⟨⟨#[]⟩, 0⟩, st.fail 140 st.end_) := by
        unfold St.take
        rw [if_pos hf, hq, Int.toNat_natCast, hnone]
      have HTK := Lib.hid htk
      have h0 : (L : Int) ≤ (q : Int) := by omega
      have h1 : L ≤ q := by omega
      clear htk hnone
      go_upto_region 3 with (fail)
      go_quiet (fail)
      have HF := Lib.hid (fail_any base b st x 140 st.end_ (W1.drewN nq) (D1.out.drewN nq).1)
      have c6' : (W1.drewN nq).cell? ⟨b, 6, none⟩ = some (.slice st.wA L st.wC) := c6
      have c8' : (W1.drewN nq).cell? ⟨b, 8, none⟩ = some (.int .i64 st.end_) := c8
      have HRd : Hid (Blk (W1.drewN nq) bR 109 [.string ⟨#[]⟩, .int .i64 0]) := Lib.hid (HR.out.self (below_drewN (Below.refl _ _) nq))
      have D2 := Lib.hid (D1.out.drewN nq)
      generalize W1.drewN nq = W2 at *
      go_upto_region 5 with (go_at_call 60; with_reducible refine HF.out.mono ?_; rintro e w3 ⟨rfl, hd3⟩)
      have HR3 := Lib.hid (hd3.2.2 _ _ _ HRd.out (by decide))
      have D3 := Lib.hid (D2.out.trans hd3)
      have z0 : w3.cell? ⟨bR, 0, none⟩ = some (.string ⟨#[]⟩) := (HR3.out.cell 0).trans rfl
      have z1 : w3.cell? ⟨bR, 1, none⟩ = some (.int .i64 0) := (HR3.out.cell 1).trans rfl
      have q0 := HR3.out.frozen 0
      have q1 := HR3.out.frozen 1
      have hs := (HR3.out.set_ 0 (.string ⟨#[]⟩)).set_ 1 (.int .i64 0)
      have r0 := Lib.hid ((hs.cell 0).trans rfl)
      have r1 := Lib.hid ((hs.cell 1).trans rfl)
      have hdid : Hid (Did w base b (st.fail 140 st.end_) x ((w3.setCell ⟨bR, 0, none⟩ (.string ⟨#[]⟩)).setCell ⟨bR, 1, none⟩ (.int .i64 0))) := Lib.hid (Did.word HP.out (by unfold St.fail; split <;> rfl) (by unfold St.fail; split <;> rfl) D3.out HR3.out.typed (only_set2 w3 bR _ _) (by rw [HBR.out]; exact Nat.le_refl _))
      clear hs hd3 HF c6' c8' c6 c7 c8 c9
      go_wp2
      exact bodyPost_ret (v := .agg #[.string ⟨#[]⟩, .int .i64 0]) (by simp [results, Tryd.results61, go_sem, r0.out, r1.out]) rfl ⟨by rw [HTK.out], by rw [HTK.out]; exact hdid.out⟩
  · have htk : st.take bitB = (⟨⟨#[]⟩, 0⟩, st) := by unfold St.take; rw [if_neg hf]
    have hfb : (st.fc == 0) = false := by simpa using hf
    have HTK := Lib.hid htk
    have z0 : W1.cell? ⟨bR, 0, none⟩ = some (.string ⟨#[]⟩) := (HR.out.cell 0).trans rfl
    have z1 : W1.cell? ⟨bR, 1, none⟩ = some (.int .i64 0) := (HR.out.cell 1).trans rfl
    have q0 := HR.out.frozen 0
    have q1 := HR.out.frozen 1
    have hs := (HR.out.set_ 0 (.string ⟨#[]⟩)).set_ 1 (.int .i64 0)
    have r0 := Lib.hid ((hs.cell 0).trans rfl)
    have r1 := Lib.hid ((hs.cell 1).trans rfl)
    have hdid : Hid (Did w base b st x ((W1.setCell ⟨bR, 0, none⟩ (.string ⟨#[]⟩)).setCell ⟨bR, 1, none⟩ (.int .i64 0))) := Lib.hid (Did.word HP.out rfl rfl D1.out HR.out.typed (only_set2 W1 bR _ _) (by rw [HBR.out]; exact Nat.le_refl _))
    clear hs htk hB hPR
    go_wp2
    exact bodyPost_ret (v := .agg #[.string ⟨#[]⟩, .int .i64 0]) (by simp [results, Tryd.results61, go_sem, r0.out, r1.out]) rfl ⟨by rw [HTK.out], by rw [HTK.out]; exact hdid.out⟩
end Go.Proofs.YtjkmoahnociaiaaDoor
