/- Text and Print of the document: the walks. -/
import Derived.Test.YtjkmoahnociaiaaDoorP4
import Derived.Test.YtjkmoahnociaiaaDoorRWD
namespace Go.Proofs.YtjkmoahnociaiaaDoor
open Go.RowKit

theorem lineL_words (s : ByteArray) (ws : List ByteArray) (h : s = wordB ws) : s.data.toList ++ [10] = lineL ws := by
  subst h
  rfl
set_option maxRecDepth 100000 in
set_option maxHeartbeats 8000000 in
theorem text_ref (cc : Ct) (hF : NetP cc) (A B : Option Addr) (n m ca cb : Nat) (w : World) (hA : CReads w A (gcells cc.gs)) (hB : Reads w .i64 B cc.outs) (hn : cc.gs.length = n) (hm : cc.outs.length = m) (hops : OpsAt w 1) :
    Calls Tryd.prog 22 #[.agg #[.string cc.name, .slice A n ca, .slice B m cb]] w fun e w' => e = .returned (.string ⟨(textL cc).toArray⟩) ∧ Below w.heap.size w w' := by
  have hbl := below1 w (.cells #[.string cc.name, .slice A n ca, .slice B m cb] 25)
  have HX := Lib.hid (Blk.new w 25 [.string cc.name, .slice A n ca, .slice B m cb])
  have HA := Lib.hid (hA.below hbl); have HBR := Lib.hid (hB.below hbl); have HN := Lib.hid hn; have HM := Lib.hid hm; have HB0 := Lib.hid hbl
  have HOP := Lib.hid (hops.below hbl)
  have HF := Lib.hid hF
  have hn1 : n ≤ 65536 := by rw [← hn]; exact hF.gl
  have hm1 : m ≤ 65536 := by rw [← hm]; exact hF.ol
  have hns : cc.name.size ≤ 63 := by have := hF.name.2.1; omega
  obtain ⟨s1, hs1⟩ : ∃ s : ByteArray, (⟨#[99, 105, 114, 99, 117, 105, 116, 32]⟩ : ByteArray) ++ cc.name = s := ⟨_, rfl⟩
  obtain ⟨s2, hs2⟩ : ∃ s : ByteArray, s1 ++ (⟨#[10]⟩ : ByteArray) = s := ⟨_, rfl⟩
  have hz1 : ¬ 9223372036854775807 < 8 + cc.name.size := by omega
  have hss1 : s1.size = 8 + cc.name.size := by rw [← hs1, ByteArray.size_append]; rfl
  have hz2 : ¬ 9223372036854775807 < s1.size + 1 := by omega
  have hss2 : s2.size = s1.size + 1 := by rw [← hs2, ByteArray.size_append]; rfl
  have hhead : s2.data.toList = lineL [wCircuit, cc.name] := by
    rw [← hs2, ← hs1]
    simp [lineL, joinL, Lib.join_cons, Lib.joinTail, cat_list, wCircuit]
  have hl0 := lineL_len (headW_size hF) (by simp)
  obtain ⟨hd, hhd⟩ : ∃ hd, lineL [wCircuit, cc.name] = hd := ⟨_, rfl⟩
  rw [hhd] at hhead hl0
  have HHD := Lib.hid hhd
  clear hA hB hn hm hbl hops hF hhd
  go_enter Tryd.func22, Tryd.ntmps22
  go_upto_region 1 with (fail)
  change Code.wp _ _ _ _ (w.alloc (.cells #[.string cc.name, .slice A n ca, .slice B m cb] 25))
  generalize w.alloc (.cells #[.string cc.name, .slice A n ca, .slice B m cb] 25) = W1 at *
  obtain ⟨bx, hbx⟩ : ∃ bx, w.heap.size = bx := ⟨_, rfl⟩
  rw [hbx] at HX ⊢
  clear hbx
  have HXW : Hid (∀ W, Below W1.heap.size W1 W → Blk W bx 25 [.string cc.name, .slice A n ca, .slice B m cb] ∧ CReads W A (gcells cc.gs) ∧ Reads W .i64 B cc.outs ∧ OpsAt W 1) := Lib.hid fun W hW => ⟨HX.out.self hW, HA.out.below hW, HBR.out.below hW, HOP.out.below hW⟩
  have x0 : W1.cell? ⟨bx, 0, none⟩ = some (.string cc.name) := (HX.out.cell 0).trans rfl
  have hconv := Lib.run_convert_string_bytes (P := Tryd.prog) W1 9 42 5 s2 Tryd.underlying9 Tryd.underlying42 Tryd.underlying5
  have HBR0 := Lib.hid (brow_conv W1 W1.heap.size s2 (by omega) (Nat.le_refl _))
  have HBC := Lib.hid (below_conv W1 5 s2)
  rw [hhead] at HBR0
  generalize Lib.bytesWorld W1 5 s2 = W2 at *
  obtain ⟨v2, hv2⟩ : ∃ v, Value.slice (some ⟨W1.heap.size, 0, none⟩) s2.size (grownCap W1 s2.size 0 5) = v := ⟨_, rfl⟩
  rw [hv2] at hconv HBR0
  have HBR00 : Hid (BRow W2 W1.heap.size v2 (hd ++ gatesL cc.gs 0)) := Lib.hid (by rw [gatesL_zero, List.append_nil]; exact HBR0.out)
  clear hss1 hss2 hv2 HX HA HBR HOP HBR0 hhead
  go_upto_region 3 with (fail)
  clear hconv x0 hs1 hs2 hz1 hz2
  go_loopw [3, 4] (fun s3 s4 wr => ∃ k : Nat, k ≤ n ∧ s4 = .int .i64 k ∧ Hid (BRow wr W1.heap.size s3 (hd ++ gatesL cc.gs k)) ∧ Hid (Below W1.heap.size W1 wr)) (fun _ s4 _ => n - (intOf s4).toNat)
  case atStart => exact ⟨0, by omega, rfl, HBR00, HBC⟩
  case round =>
    clear HBR00 HBC
    obtain ⟨k, hk, rfl, HR, HB⟩ := hrel
    have x1 : wr.cell? ⟨bx, 1, none⟩ = some (.slice A n ca) := ((HXW.out wr HB.out).1.cell 1).trans rfl
    by_cases hlt : k < n
    · obtain ⟨g, hg⟩ : ∃ g, cc.gs[k]? = some g := ⟨_, List.getElem?_eq_getElem (by rw [HN.out]; exact hlt)⟩
      have hgm := List.mem_of_getElem? hg
      obtain ⟨ab, ao, e, _⟩ := greads_at (HXW.out wr HB.out).2.1 hg
      subst e
      have hws := words_size HF.out hgm
      have hwl := words_len cc.gs g
      have hlen : (hd ++ gatesL cc.gs k).length ≤ 100000000 := by
        have := gatesL_len HF.out k (by rw [HN.out]; omega)
        rw [List.length_append]
        omega
      have HKS : Hid (∀ W, Below W1.heap.size W1 W → (W.cell? ⟨bx, 0, none⟩ = some (.string cc.name) ∧ W.cell? ⟨bx, 1, none⟩ = some (.slice (some ⟨ab, ao, none⟩) n ca) ∧ W.cell? ⟨bx, 2, none⟩ = some (.slice B m cb)) ∧ W.cell? ⟨ab, ao + k * 6, none⟩ = some (.int .i64 g.kind) ∧ W.cell? ⟨ab, ao + k * 6 + 1, none⟩ = some (.string g.name) ∧ W.cell? ⟨ab, ao + k * 6 + 2, none⟩ = some (.int .i64 g.op) ∧ W.cell? ⟨ab, ao + k * 6 + 3, none⟩ = some (.int .i64 g.a) ∧ W.cell? ⟨ab, ao + k * 6 + 4, none⟩ = some (.int .i64 g.b) ∧ W.cell? ⟨ab, ao + k * 6 + 5, none⟩ = some (.int .i64 g.c)) := Lib.hid fun W hW => by
        have h1 := HXW.out W hW
        obtain ⟨_, _, e, hc⟩ := greads_at h1.2.1 hg
        cases e
        obtain ⟨c0, c1, c2, c3, c4, c5⟩ := hc
        exact ⟨⟨(h1.1.cell 0).trans rfl, (h1.1.cell 1).trans rfl, (h1.1.cell 2).trans rfl⟩, c0, c1, c2, c3, c4, c5⟩
      have HBD := Lib.hid (below_drew0 HB.out)
      obtain ⟨sW, hsW⟩ : ∃ s, wordB (wordsG cc.gs g) = s := ⟨_, rfl⟩
      have hwd : Calls Tryd.prog 48 #[.agg #[.string cc.name, .slice (some ⟨ab, ao, none⟩) n ca, .slice B m cb], .agg #[.int .i64 g.kind, .string g.name, .int .i64 g.op, .int .i64 g.a, .int .i64 g.b, .int .i64 g.c]] wr.drew fun e w' => e = .returned (.string sW) ∧ Below wr.drew.heap.size wr.drew w' := by
        have h1 := HXW.out wr.drew HBD.out
        rw [← hsW]
        exact words_any cc HF.out g hgm _ B n m ca cb wr.drew h1.2.1 HN.out h1.2.2.2
      have hsz : sW.size ≤ 320 := by
        have h1 := lineL_len hws hwl
        have h2 := lineL_words sW _ hsW.symm
        have h3 : sW.data.toList.length = sW.size := rfl
        rw [← h2, List.length_append] at h1
        simp at h1
        omega
      have HLN : Hid (hd ++ gatesL cc.gs (k + 1) = hd ++ gatesL cc.gs k ++ sW.data.toList ++ [10]) := Lib.hid (by rw [gatesL_succ hg, ← lineL_words sW _ hsW.symm]; simp)
      obtain ⟨bs, hbs⟩ : ∃ l, hd ++ gatesL cc.gs k = l := ⟨_, rfl⟩
      rw [hbs] at HR hlen HLN
      have HRD := Lib.hid (HR.out.below (below_drew0 (Below.refl _ _)))
      have hlen2 : (bs ++ sW.data.toList).length ≤ 100000400 := by
        have h3 : sW.data.toList.length = sW.size := rfl
        rw [List.length_append]
        omega
      have hk0 : (0 : Int) ≤ (k : Int) := by omega
      have hkn : (k : Int) < (n : Int) := by omega
      clear hg hgm hws hwl hsW hbs HR HB
      go_upto_region 5 with (fail)
      clear x1
      obtain ⟨kd, nm, op, a, b, cx⟩ := g
      dsimp only at *
      go_region_held3 (fun W => (W.cell? ⟨bx, 0, none⟩ = some (.string cc.name) ∧ W.cell? ⟨bx, 1, none⟩ = some (.slice (some ⟨ab, ao, none⟩) n ca) ∧ W.cell? ⟨bx, 2, none⟩ = some (.slice B m cb)) ∧ W.cell? ⟨ab, ao + k * 6, none⟩ = some (.int .i64 kd) ∧ W.cell? ⟨ab, ao + k * 6 + 1, none⟩ = some (.string nm) ∧ W.cell? ⟨ab, ao + k * 6 + 2, none⟩ = some (.int .i64 op) ∧ W.cell? ⟨ab, ao + k * 6 + 3, none⟩ = some (.int .i64 a) ∧ W.cell? ⟨ab, ao + k * 6 + 4, none⟩ = some (.int .i64 b) ∧ W.cell? ⟨ab, ao + k * 6 + 5, none⟩ = some (.int .i64 cx))
        (first | exact HKS.out _ HBD.out | exact HKS.out _ HB5.out | exact HKS.out _ HB6.out)
        (first
          | ((go_at_call 48; with_reducible refine hwd.mono ?_; rintro e w5 ⟨rfl, hb5⟩; have HB5 := Lib.hid (below_self HBD.out hb5); have HR5 := Lib.hid (HRD.out.below hb5)))
          | (((try go_split_ands); refine step_bstr rfl (.tmp 18) (.tmp 25) ?ho (v := u3) ?hs HR5.out sW ?hx ?h1 ?h2 ?_; (case ho => rfl); (case hs => simp [Act.eval, Act.put]); (case hx => simp [Act.eval, Act.put]); (case h1 => omega); (case h2 => exact HB5.out.size); intro v6 w6 hr6 hg6; have HB6 := Lib.hid (HB5.out.grown hg6 HB5.out.size (fun z e => (HR5.out.lt e).1)); have HR6 := Lib.hid hr6; clear hr6 hg6)))
      have hbl6 := below1 w6 (.cells [Value.int .u8 10].toArray 5)
      have HR7 := Lib.hid (HR6.out.below hbl6)
      have HB7 := Lib.hid (below_self HB6.out hbl6)
      clear hbl6 hwd HKS HBD HRD HR5 HB5 hb5
      go_upto_region 4 with (at_builtin; refine wpList_bbyte rfl _ _ rfl (v := v6) rfl HR7.out 10 ⟨w6.heap.size, 0, none⟩ rfl (by simp [go_sem]) (by omega) (by exact HB7.out.size) ?_; intro v8 w8 hr8 hg8)
      have HR8 : Hid (BRow w8 W1.heap.size v8 (hd ++ gatesL cc.gs (k + 1))) := Lib.hid (by rw [HLN.out]; exact hr8)
      have HB8 := Lib.hid (HB7.out.grown hg8 HB7.out.size (fun z e => (HR7.out.lt e).1))
      clear hr8 hg8 HR6 HR7 HB6 HB7 HLN
      go_wp2
      go_roundw
      case rel => exact ⟨k + 1, by omega, by go_num, HR8, HB8⟩
      case measure => simp [intOf]; omega
    · obtain rfl : k = n := by omega
      obtain ⟨hd2, hhd2⟩ : ∃ l, hd ++ gatesL cc.gs k = l := ⟨_, rfl⟩
      have hl2 : hd2.length ≤ 30000000 := by
        have := gatesL_len HF.out k (by rw [HN.out]; exact Nat.le_refl _)
        rw [← hhd2, List.length_append]
        omega
      rw [hhd2] at HR
      have HH2 := Lib.hid hhd2
      have HR0 : Hid (BRow wr W1.heap.size u3 (hd2 ++ otL cc.gs cc.outs 0)) := Lib.hid (by rw [otL_zero, List.append_nil]; exact HR.out)
      have HB6 := HB
      clear hhd2 hlt hk
      go_upto_region 8 with (fail)
      clear x1 HR HB
      go_loopw [3, 5] (fun s3 s5 wr => ∃ j : Nat, j ≤ m ∧ s5 = .int .i64 j ∧ Hid (BRow wr W1.heap.size s3 (hd2 ++ otL cc.gs cc.outs j)) ∧ Hid (Below W1.heap.size W1 wr)) (fun _ s5 _ => m - (intOf s5).toNat)
      case atStart => exact ⟨0, by omega, rfl, HR0, HB6⟩
      case round =>
        clear HR0 HB6
        obtain ⟨j, hj, rfl, HR, HB⟩ := hrel
        have x2 : wr.cell? ⟨bx, 2, none⟩ = some (.slice B m cb) := ((HXW.out wr HB.out).1.cell 2).trans rfl
        have hlen : (hd2 ++ otL cc.gs cc.outs j).length ≤ 100000000 := by
          have := otL_len HF.out j (by rw [HM.out]; omega)
          rw [List.length_append]
          omega
        by_cases hlt : j < m
        · obtain ⟨p, hp⟩ : ∃ p, cc.outs[j]? = some p := ⟨_, List.getElem?_eq_getElem (by rw [HM.out]; exact hlt)⟩
          have hpp := HF.out.outs p (List.mem_of_getElem? hp)
          rw [HN.out] at hpp
          obtain ⟨pt, hpt⟩ : ∃ q : Nat, p = (q : Int) := ⟨p.toNat, by omega⟩
          subst hpt
          obtain ⟨g, hg⟩ : ∃ g, cc.gs[pt]? = some g := ⟨_, List.getElem?_eq_getElem (by rw [HN.out]; omega)⟩
          obtain ⟨np, hnp⟩ : ∃ x, g.name = x := ⟨_, rfl⟩
          have hnps : np.size ≤ 63 := by
            have := (HF.out.lines g (List.mem_of_getElem? hg)).1.2.1
            rw [← hnp]; omega
          obtain ⟨gB, oB, e, _⟩ := (HXW.out wr HB.out).2.2.1.at_ hp
          subst e
          obtain ⟨ab, ao, e, _⟩ := greads_at (HXW.out wr HB.out).2.1 hg
          subst e
          have HKS : Hid (∀ W, Below W1.heap.size W1 W → W.cell? ⟨bx, 1, none⟩ = some (.slice (some ⟨ab, ao, none⟩) k ca) ∧ W.cell? ⟨bx, 2, none⟩ = some (.slice (some ⟨gB, oB, none⟩) m cb) ∧ W.cell? ⟨gB, oB + j, none⟩ = some (.int .i64 (pt : Int)) ∧ W.cell? ⟨ab, ao + pt * 6 + 1, none⟩ = some (.string np)) := Lib.hid fun W hW => by
            have h1 := HXW.out W hW
            obtain ⟨_, _, e, hc⟩ := greads_at h1.2.1 hg
            cases e
            obtain ⟨_, c1, _⟩ := hc
            rw [hnp] at c1
            obtain ⟨_, _, e, t⟩ := h1.2.2.1.at_ hp
            cases e
            exact ⟨(h1.1.cell 1).trans rfl, (h1.1.cell 2).trans rfl, t, c1⟩
          have HLN : Hid (hd2 ++ otL cc.gs cc.outs (j + 1) = hd2 ++ otL cc.gs cc.outs j ++ [111, 117, 116, 112, 117, 116, 32] ++ np.data.toList ++ [10]) := Lib.hid (by
            rw [otL_succ hp, nmOf_at hg, hnp]
            simp [lineL, joinL, Lib.join_cons, Lib.joinTail, wOutput])
          obtain ⟨bs, hbs⟩ : ∃ l, hd2 ++ otL cc.gs cc.outs j = l := ⟨_, rfl⟩
          rw [hbs] at HR hlen HLN
          have hk0 : (0 : Int) ≤ (j : Int) := by omega
          have hkm : (j : Int) < (m : Int) := by omega
          have hp0 : (0 : Int) ≤ (pt : Int) := by omega
          have hp1 : (pt : Int) < (k : Int) := by omega
          clear hp hpp hg hnp hbs
          go_upto_region 11 with (at_builtin; refine wpList_bstr rfl _ _ rfl (v := u3) rfl HR.out ⟨#[111, 117, 116, 112, 117, 116, 32]⟩ rfl (by show bs.length + 7 ≤ _; omega) (by exact HB.out.size) ?_; intro v5 w5 hr5 hg5)
          have HB5 := Lib.hid (HB.out.grown hg5 HB.out.size (fun z e => (HR.out.lt e).1))
          have HR5 : Hid (BRow w5 W1.heap.size v5 (bs ++ [111, 117, 116, 112, 117, 116, 32])) := Lib.hid hr5
          have HBD := Lib.hid (below_drew0 HB5.out)
          have HRD := Lib.hid (HR5.out.below (below_drew0 (Below.refl _ _)))
          have hl5 : (bs ++ [111, 117, 116, 112, 117, 116, 32]).length ≤ 100000007 := by rw [List.length_append]; simp; omega
          have hl6 : (bs ++ [111, 117, 116, 112, 117, 116, 32] ++ np.data.toList).length ≤ 100000070 := by
            have h3 : np.data.toList.length = np.size := rfl
            rw [List.length_append]
            omega
          clear hr5 hg5 x2 HR HB HR5 HB5
          go_region_held3 (fun W => W.cell? ⟨bx, 1, none⟩ = some (.slice (some ⟨ab, ao, none⟩) k ca) ∧ W.cell? ⟨bx, 2, none⟩ = some (.slice (some ⟨gB, oB, none⟩) m cb) ∧ W.cell? ⟨gB, oB + j, none⟩ = some (.int .i64 (pt : Int)) ∧ W.cell? ⟨ab, ao + pt * 6 + 1, none⟩ = some (.string np))
            (first | exact HKS.out _ HBD.out | exact HKS.out _ HB6.out)
            (first
              | (((try go_split_ands); refine step_bstr rfl (.tmp 39) (.tmp 49) ?ho2 (v := v5) ?hs2 HRD.out np ?hx2 ?h12 ?h22 ?_; (case ho2 => rfl); (case hs2 => simp [Act.eval, Act.put]); (case hx2 => simp [Act.eval, Act.put]); (case h12 => omega); (case h22 => exact HBD.out.size); intro v6 w6 hr6 hg6; have HB6 := Lib.hid (HBD.out.grown hg6 HBD.out.size (fun z e => (HRD.out.lt e).1)); have HR6 := Lib.hid hr6; clear hr6 hg6)))
          have hbl6 := below1 w6 (.cells [Value.int .u8 10].toArray 5)
          have HR7 := Lib.hid (HR6.out.below hbl6)
          have HB7 := Lib.hid (below_self HB6.out hbl6)
          clear hbl6 HKS HBD HRD
          go_upto_region 9 with (at_builtin; refine wpList_bbyte rfl _ _ rfl (v := v6) rfl HR7.out 10 ⟨w6.heap.size, 0, none⟩ rfl (by simp [go_sem]) (by omega) (by exact HB7.out.size) ?_; intro v8 w8 hr8 hg8)
          have HR8 : Hid (BRow w8 W1.heap.size v8 (hd2 ++ otL cc.gs cc.outs (j + 1))) := Lib.hid (by rw [HLN.out]; exact hr8)
          have HB8 := Lib.hid (HB7.out.grown hg8 HB7.out.size (fun z e => (HR7.out.lt e).1))
          clear hr8 hg8 HR6 HR7 HB6 HB7 HLN
          go_wp2
          go_roundw
          case rel => exact ⟨j + 1, by omega, by go_num, HR8, HB8⟩
          case measure => simp [intOf]; omega
        · obtain rfl : j = m := by omega
          have hcv := brow_text HR.out
          obtain ⟨bs, hbs⟩ : ∃ l, hd2 ++ otL cc.gs cc.outs j = l := ⟨_, rfl⟩
          rw [hbs] at hcv hlen
          obtain ⟨sT, hsT⟩ : ∃ s : ByteArray, ⟨bs.toArray⟩ = s := ⟨_, rfl⟩
          rw [hsT] at hcv
          have hsz : sT.size ≤ 100000000 := by
            rw [← hsT]
            show bs.toArray.size ≤ _
            simpa using hlen
          have hz : ¬ 9223372036854775807 < sT.size + 4 := by omega
          obtain ⟨sE, hsE⟩ : ∃ s : ByteArray, sT ++ (⟨#[101, 110, 100, 10]⟩ : ByteArray) = s := ⟨_, rfl⟩
          have HE : Hid (sE = ⟨(textL cc).toArray⟩) := Lib.hid (by
            apply ByteArray.ext
            apply Array.toList_inj.1
            rw [← hsE, cat_list, ← hsT]
            unfold textL
            rw [HN.out, HM.out, HHD.out, HH2.out, hbs]
            simp [lineL, joinL, Lib.join_one, wEnd])
          clear hlen hbs hsT hsz HR
          go_wp2
          go_ret
          exact ⟨by rw [← HE.out]; rfl, below_self HB0.out HB.out⟩

set_option maxRecDepth 100000 in
set_option maxHeartbeats 4000000 in
theorem print_ref (cc : Ct) (A B : Option Addr) (n m ca cb : Nat) (w : World) (hA : CReads w A (gcells cc.gs)) (hB : Reads w .i64 B cc.outs) (hs : SizeP cc) (hn : cc.gs.length = n) (hm : cc.outs.length = m) (hops : OpsAt w 1) :
    Calls Tryd.prog 10 #[.agg #[.string cc.name, .slice A n ca, .slice B m cb]] w fun e w' => e = .returned (.tuple #[.string (printS cc), .int .i64 (printE cc)]) ∧ Below w.heap.size w w' := by
  have hbl := below1 w (.cells #[.string cc.name, .slice A n ca, .slice B m cb] 25)
  have C1 : Calls Tryd.prog 11 #[.agg #[.string cc.name, .slice A n ca, .slice B m cb]] (w.alloc (.cells #[.string cc.name, .slice A n ca, .slice B m cb] 25)) fun e w' => e = .returned (.bool (formedB cc)) ∧ Below (w.alloc (.cells #[.string cc.name, .slice A n ca, .slice B m cb] 25)).heap.size (w.alloc (.cells #[.string cc.name, .slice A n ca, .slice B m cb] 25)) w' := formed_ref cc A B n m ca cb _ (hA.below hbl) (hB.below hbl) hs hn hm
  have HX := Lib.hid (Blk.new w 25 [.string cc.name, .slice A n ca, .slice B m cb])
  have HA := Lib.hid (hA.below hbl); have HBR := Lib.hid (hB.below hbl); have HB0 := Lib.hid hbl
  have HOP := Lib.hid (hops.below hbl)
  obtain ⟨fb, hfb⟩ : ∃ fb, formedB cc = fb := ⟨_, rfl⟩
  have HES : Hid (printE cc = if fb = true then (if (textL cc).length ≤ 1048576 then 0 else 5) else 144) := Lib.hid (by unfold printE; rw [hfb])
  have HPS : Hid (printS cc = if printE cc = 0 then ⟨(textL cc).toArray⟩ else ⟨#[]⟩) := Lib.hid rfl
  have HT : Hid (∀ W, Below (w.alloc (.cells #[.string cc.name, .slice A n ca, .slice B m cb] 25)).heap.size (w.alloc (.cells #[.string cc.name, .slice A n ca, .slice B m cb] 25)) W → fb = true → Calls Tryd.prog 22 #[.agg #[.string cc.name, .slice A n ca, .slice B m cb]] W fun e w' => e = .returned (.string ⟨(textL cc).toArray⟩) ∧ Below W.heap.size W w') := Lib.hid fun W hW h => by
    have hF : FormedP cc := by
      rw [h] at hfb
      unfold formedB at hfb
      simpa using hfb
    exact text_ref cc hF.net A B n m ca cb W (HA.out.below hW) (HBR.out.below hW) hn hm (HOP.out.below hW)
  rw [hfb] at C1
  clear hA hB hs hn hm hbl hops HA HBR HOP hfb
  go_enter Tryd.func10, Tryd.ntmps10
  go_upto_region 1 with (fail)
  change Code.wp _ _ _ _ (w.alloc (.cells #[.string cc.name, .slice A n ca, .slice B m cb] 25))
  generalize w.alloc (.cells #[.string cc.name, .slice A n ca, .slice B m cb] 25) = W1 at *
  obtain ⟨bx, hbx⟩ : ∃ bx, w.heap.size = bx := ⟨_, rfl⟩
  rw [hbx] at HX ⊢
  clear hbx
  have x0 : W1.cell? ⟨bx, 0, none⟩ = some (.string cc.name) := (HX.out.cell 0).trans rfl
  have x1 : W1.cell? ⟨bx, 1, none⟩ = some (.slice A n ca) := (HX.out.cell 1).trans rfl
  have x2 : W1.cell? ⟨bx, 2, none⟩ = some (.slice B m cb) := (HX.out.cell 2).trans rfl
  cases fb
  · rw [if_neg (by decide)] at HES
    rw [HES.out, if_neg (by decide)] at HPS
    go_wp2_with (go_at_call 11; with_reducible refine C1.mono ?_; rintro e w2 ⟨rfl, hb2⟩)
    go_ret2
    exact ⟨by rw [HPS.out, HES.out]; rfl, below_self HB0.out hb2⟩
  · rw [if_pos rfl] at HES
    go_upto_region 4 with (go_at_call 11; with_reducible refine C1.mono ?_; rintro e w2 ⟨rfl, hb2⟩)
    have HX2 := Lib.hid (HX.out.self hb2)
    have hT := HT.out w2 hb2 (by first | rfl | trivial)
    have HB2 := Lib.hid (below_self HB0.out hb2)
    obtain ⟨sT, hsT⟩ : ∃ s : ByteArray, ⟨(textL cc).toArray⟩ = s := ⟨_, rfl⟩
    have hln : (textL cc).length = sT.size := by rw [← hsT]; simp [ByteArray.size]
    rw [hsT] at hT HPS
    rw [hln] at HES
    clear HT C1 hb2 x0 x1 x2 hsT hln
    have x0 : w2.cell? ⟨bx, 0, none⟩ = some (.string cc.name) := (HX2.out.cell 0).trans rfl
    have x1 : w2.cell? ⟨bx, 1, none⟩ = some (.slice A n ca) := (HX2.out.cell 1).trans rfl
    have x2 : w2.cell? ⟨bx, 2, none⟩ = some (.slice B m cb) := (HX2.out.cell 2).trans rfl
    by_cases hle : sT.size ≤ 1048576
    · rw [if_pos hle] at HES
      rw [HES.out, if_pos rfl] at HPS
      have h1 : ¬ (1048576 : Int) < (sT.size : Int) := by omega
      have h2 : ¬ 1048576 < sT.size := by omega
      go_wp2_with (go_at_call 22; with_reducible refine hT.mono ?_; rintro e w3 ⟨rfl, hb3⟩)
      go_ret2
      exact ⟨by rw [HPS.out, HES.out]; rfl, below_self HB2.out hb3⟩
    · rw [if_neg hle] at HES
      rw [HES.out, if_neg (by decide)] at HPS
      have h1 : (1048576 : Int) < (sT.size : Int) := by omega
      have h2 : 1048576 < sT.size := by omega
      go_wp2_with (go_at_call 22; with_reducible refine hT.mono ?_; rintro e w3 ⟨rfl, hb3⟩)
      go_ret2
      exact ⟨by rw [HPS.out, HES.out]; rfl, below_self HB2.out hb3⟩
end Go.Proofs.YtjkmoahnociaiaaDoor
