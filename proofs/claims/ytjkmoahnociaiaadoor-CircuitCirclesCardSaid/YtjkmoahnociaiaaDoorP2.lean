/- Words: a line's words, by the document's text. -/
import Derived.Test.YtjkmoahnociaiaaDoorP1
import Derived.BigQuiet
namespace Go.Proofs.YtjkmoahnociaiaaDoor
open Go.RowKit

/-- Words of a line as a text. -/
def wordB (ws : List ByteArray) : ByteArray := ⟨(joinL ws).toArray⟩
theorem wordB_eq {ws : List ByteArray} {s : ByteArray} (h : s.data.toList = joinL ws) : s = wordB ws := by
  unfold wordB
  apply ByteArray.ext
  apply Array.toList_inj.1
  rw [h]
theorem cat_list (a b : ByteArray) : (a ++ b).data.toList = a.data.toList ++ b.data.toList := by rw [ByteArray.data_append, Array.toList_append]
set_option maxRecDepth 100000 in
set_option maxHeartbeats 8000000 in
theorem words_any (cc : Ct) (hF : NetP cc) (g : Gt) (hg : g ∈ cc.gs) (A B : Option Addr) (n m ca cb : Nat) (w : World) (hA : CReads w A (gcells cc.gs)) (hn : cc.gs.length = n) (hops : OpsAt w 1) :
    Calls Tryd.prog 48 #[.agg #[.string cc.name, .slice A n ca, .slice B m cb], .agg #[.int .i64 g.kind, .string g.name, .int .i64 g.op, .int .i64 g.a, .int .i64 g.b, .int .i64 g.c]] w fun e w' => e = .returned (.string (wordB (wordsG cc.gs g))) ∧ Below w.heap.size w w' := by
  have hbl := below2 w (.cells #[.string cc.name, .slice A n ca, .slice B m cb] 25) (.cells #[.int .i64 g.kind, .string g.name, .int .i64 g.op, .int .i64 g.a, .int .i64 g.b, .int .i64 g.c] 46)
  have HX := Lib.hid ((Blk.new w 25 [.string cc.name, .slice A n ca, .slice B m cb]).alloc (.cells #[.int .i64 g.kind, .string g.name, .int .i64 g.op, .int .i64 g.a, .int .i64 g.b, .int .i64 g.c] 46))
  have HG := Lib.hid (blk_new2 w (.cells #[.string cc.name, .slice A n ca, .slice B m cb] 25) 46 [.int .i64 g.kind, .string g.name, .int .i64 g.op, .int .i64 g.a, .int .i64 g.b, .int .i64 g.c])
  have HA := Lib.hid (hA.below hbl); have HB := Lib.hid hbl; have HOP := Lib.hid (hops.below hbl); have HN := Lib.hid hn
  have hnn : n ≤ 65536 := by rw [← hn]; exact hF.gl
  have hfp := (hF.lines g hg).2
  rw [hn] at hfp
  have hsn : g.name.size ≤ 63 := by have := (hF.lines g hg).1.2.1; omega
  have HNS : Hid (∀ p, (nmOf cc.gs p).size ≤ 63) := Lib.hid (nmOf_size hF)
  clear hA hn hops hbl
  obtain ⟨kd, nm, op, a, b, cx⟩ := g
  dsimp only at *
  go_enter Tryd.func48, Tryd.ntmps48
  go_upto_region 1 with (fail)
  change Code.wp _ _ _ _ ((w.alloc (.cells #[.string cc.name, .slice A n ca, .slice B m cb] 25)).alloc (.cells #[.int .i64 kd, .string nm, .int .i64 op, .int .i64 a, .int .i64 b, .int .i64 cx] 46))
  generalize (w.alloc (.cells #[.string cc.name, .slice A n ca, .slice B m cb] 25)).alloc (.cells #[.int .i64 kd, .string nm, .int .i64 op, .int .i64 a, .int .i64 b, .int .i64 cx] 46) = W1 at *
  obtain ⟨bx, hbx⟩ : ∃ bx, w.heap.size = bx := ⟨_, rfl⟩
  rw [hbx] at HX HG ⊢
  have HBX := Lib.hid hbx
  clear hbx
  have x1 : W1.cell? ⟨bx, 1, none⟩ = some (.slice A n ca) := (HX.out.cell 1).trans rfl
  have c0 : W1.cell? ⟨bx + 1, 0, none⟩ = some (.int .i64 kd) := (HG.out.cell 0).trans rfl
  have c1 : W1.cell? ⟨bx + 1, 1, none⟩ = some (.string nm) := (HG.out.cell 1).trans rfl
  have c2 : W1.cell? ⟨bx + 1, 2, none⟩ = some (.int .i64 op) := (HG.out.cell 2).trans rfl
  have c3 : W1.cell? ⟨bx + 1, 3, none⟩ = some (.int .i64 a) := (HG.out.cell 3).trans rfl
  have c4 : W1.cell? ⟨bx + 1, 4, none⟩ = some (.int .i64 b) := (HG.out.cell 4).trans rfl
  have c5 : W1.cell? ⟨bx + 1, 5, none⟩ = some (.int .i64 cx) := (HG.out.cell 5).trans rfl
  by_cases k2 : kd = 2
  · subst k2
    unfold FieldsP PlaceP at hfp
    dsimp only at hfp
    obtain ⟨qa, eqa⟩ : ∃ q : Nat, a = (q : Int) := ⟨a.toNat, by omega⟩
    subst eqa
    have hqa : qa < n := by omega
    obtain ⟨na, hna⟩ : ∃ x, nmOf cc.gs (qa : Int) = x := ⟨_, rfl⟩
    have hsna : na.size ≤ 63 := by rw [← hna]; exact HNS.out _
    obtain ⟨gqa, hgqa⟩ : ∃ g, cc.gs[qa]? = some g := ⟨_, List.getElem?_eq_getElem (by rw [HN.out]; exact hqa)⟩
    obtain ⟨ab, ao, eab, hcc⟩ := greads_at HA.out hgqa
    obtain ⟨_, dqa, _⟩ := hcc
    rw [← nmOf_at hgqa, hna] at dqa
    subst eab
    have iqa0 : (0 : Int) ≤ (qa : Int) := by omega
    have iqa1 : (qa : Int) < (n : Int) := by omega
    clear hgqa
    obtain ⟨qb, eqb⟩ : ∃ q : Nat, b = (q : Int) := ⟨b.toNat, by omega⟩
    subst eqb
    have hqb : qb < n := by omega
    obtain ⟨nb, hnb⟩ : ∃ x, nmOf cc.gs (qb : Int) = x := ⟨_, rfl⟩
    have hsnb : nb.size ≤ 63 := by rw [← hnb]; exact HNS.out _
    obtain ⟨gqb, hgqb⟩ : ∃ g, cc.gs[qb]? = some g := ⟨_, List.getElem?_eq_getElem (by rw [HN.out]; exact hqb)⟩
    obtain ⟨_, _, eab, hcc⟩ := greads_at HA.out hgqb
    obtain ⟨_, dqb, _⟩ := hcc
    rw [← nmOf_at hgqb, hnb] at dqb
    cases eab
    have iqb0 : (0 : Int) ≤ (qb : Int) := by omega
    have iqb1 : (qb : Int) < (n : Int) := by omega
    clear hgqb
    obtain ⟨oq, eoq⟩ : ∃ q : Nat, op = (q : Int) := ⟨op.toNat, by omega⟩
    subst eoq
    obtain ⟨ow, how⟩ : ∃ x, opW (oq : Int) = x := ⟨_, rfl⟩
    have hsow : ow.size ≤ 63 := by rw [← how]; exact opW_size _
    have hoq0 : (0 : Int) ≤ (oq : Int) := by omega
    have hoq1 : (oq : Int) < 16 := by omega
    have howc : W1.cell? ⟨1, oq, none⟩ = some (.string ow) := by
      have := opW_at (op := (oq : Int)) (by omega) (by omega)
      rw [how] at this
      exact HOP.out oq ow this
    have hz1 : ¬ 9223372036854775807 < 5 + nm.size := by omega
    obtain ⟨s1, hs1⟩ : ∃ s : ByteArray, (⟨#[103, 97, 116, 101, 32]⟩ : ByteArray) ++ nm = s := ⟨_, rfl⟩
    have hss1 : s1.size = 5 + nm.size := by rw [← hs1, ByteArray.size_append]; rfl
    have hz2 : ¬ 9223372036854775807 < s1.size + 1 := by omega
    obtain ⟨s2, hs2⟩ : ∃ s : ByteArray, s1 ++ (⟨#[32]⟩ : ByteArray) = s := ⟨_, rfl⟩
    have hss2 : s2.size = s1.size + 1 := by rw [← hs2, ByteArray.size_append]; rfl
    have hz3 : ¬ 9223372036854775807 < s2.size + ow.size := by omega
    obtain ⟨s3, hs3⟩ : ∃ s : ByteArray, s2 ++ ow = s := ⟨_, rfl⟩
    have hss3 : s3.size = s2.size + ow.size := by rw [← hs3, ByteArray.size_append]
    have hz4 : ¬ 9223372036854775807 < s3.size + 1 := by omega
    obtain ⟨s4, hs4⟩ : ∃ s : ByteArray, s3 ++ (⟨#[32]⟩ : ByteArray) = s := ⟨_, rfl⟩
    have hss4 : s4.size = s3.size + 1 := by rw [← hs4, ByteArray.size_append]; rfl
    have hz5 : ¬ 9223372036854775807 < s4.size + na.size := by omega
    obtain ⟨s5, hs5⟩ : ∃ s : ByteArray, s4 ++ na = s := ⟨_, rfl⟩
    have hss5 : s5.size = s4.size + na.size := by rw [← hs5, ByteArray.size_append]
    have hz6 : ¬ 9223372036854775807 < s5.size + 1 := by omega
    obtain ⟨s6, hs6⟩ : ∃ s : ByteArray, s5 ++ (⟨#[32]⟩ : ByteArray) = s := ⟨_, rfl⟩
    have hss6 : s6.size = s5.size + 1 := by rw [← hs6, ByteArray.size_append]; rfl
    have hz7 : ¬ 9223372036854775807 < s6.size + nb.size := by omega
    obtain ⟨s7, hs7⟩ : ∃ s : ByteArray, s6 ++ nb = s := ⟨_, rfl⟩
    have hss7 : s7.size = s6.size + nb.size := by rw [← hs7, ByteArray.size_append]
    have HW : Hid (s7 = wordB (wordsG cc.gs ⟨2, nm, (oq : Int), (qa : Int), (qb : Int), cx⟩)) := Lib.hid (wordB_eq (by
      unfold wordsG
      simp only [← hs7, ← hs6, ← hs5, ← hs4, ← hs3, ← hs2, ← hs1]
      simp [joinL, Lib.join_cons, Lib.joinTail, cat_list, wGate, wLatch, wMux, wInput, w0, w1, hna, hnb, how]))
    clear hss1 hss2 hss3 hss4 hss5 hss6 hss7 hfp
    go_upto_region 3 with (fail)
    go_quiet (fail)
    go_wp2
    go_ret
    exact ⟨by rw [← HW.out]; rfl, by first | exact below_drewN HB.out _ | exact HB.out⟩
  by_cases k3 : kd = 3
  · subst k3
    by_cases ko : op = 1
    · subst ko
      unfold FieldsP PlaceP at hfp
      dsimp only at hfp
      obtain ⟨qa, eqa⟩ : ∃ q : Nat, a = (q : Int) := ⟨a.toNat, by omega⟩
      subst eqa
      have hqa : qa < n := by omega
      obtain ⟨na, hna⟩ : ∃ x, nmOf cc.gs (qa : Int) = x := ⟨_, rfl⟩
      have hsna : na.size ≤ 63 := by rw [← hna]; exact HNS.out _
      obtain ⟨gqa, hgqa⟩ : ∃ g, cc.gs[qa]? = some g := ⟨_, List.getElem?_eq_getElem (by rw [HN.out]; exact hqa)⟩
      obtain ⟨ab, ao, eab, hcc⟩ := greads_at HA.out hgqa
      obtain ⟨_, dqa, _⟩ := hcc
      rw [← nmOf_at hgqa, hna] at dqa
      subst eab
      have iqa0 : (0 : Int) ≤ (qa : Int) := by omega
      have iqa1 : (qa : Int) < (n : Int) := by omega
      clear hgqa
      have hz1 : ¬ 9223372036854775807 < 6 + nm.size := by omega
      obtain ⟨s1, hs1⟩ : ∃ s : ByteArray, (⟨#[108, 97, 116, 99, 104, 32]⟩ : ByteArray) ++ nm = s := ⟨_, rfl⟩
      have hss1 : s1.size = 6 + nm.size := by rw [← hs1, ByteArray.size_append]; rfl
      have hz2 : ¬ 9223372036854775807 < s1.size + 3 := by omega
      obtain ⟨s2, hs2⟩ : ∃ s : ByteArray, s1 ++ (⟨#[32, 49, 32]⟩ : ByteArray) = s := ⟨_, rfl⟩
      have hss2 : s2.size = s1.size + 3 := by rw [← hs2, ByteArray.size_append]; rfl
      have hz3 : ¬ 9223372036854775807 < s2.size + na.size := by omega
      obtain ⟨s3, hs3⟩ : ∃ s : ByteArray, s2 ++ na = s := ⟨_, rfl⟩
      have hss3 : s3.size = s2.size + na.size := by rw [← hs3, ByteArray.size_append]
      have HW : Hid (s3 = wordB (wordsG cc.gs ⟨3, nm, 1, (qa : Int), b, cx⟩)) := Lib.hid (wordB_eq (by
        unfold wordsG
        simp only [← hs3, ← hs2, ← hs1]
        simp [joinL, Lib.join_cons, Lib.joinTail, cat_list, wGate, wLatch, wMux, wInput, w0, w1, hna]))
      clear hss1 hss2 hss3 hfp
      go_upto_region 6 with (fail)
      go_quiet (fail)
      go_wp2
      go_ret
      exact ⟨by rw [← HW.out]; rfl, by first | exact below_drewN HB.out _ | exact HB.out⟩
    have ko0 : op = 0 := by unfold FieldsP at hfp; dsimp only at hfp; omega
    · subst ko0
      unfold FieldsP PlaceP at hfp
      dsimp only at hfp
      obtain ⟨qa, eqa⟩ : ∃ q : Nat, a = (q : Int) := ⟨a.toNat, by omega⟩
      subst eqa
      have hqa : qa < n := by omega
      obtain ⟨na, hna⟩ : ∃ x, nmOf cc.gs (qa : Int) = x := ⟨_, rfl⟩
      have hsna : na.size ≤ 63 := by rw [← hna]; exact HNS.out _
      obtain ⟨gqa, hgqa⟩ : ∃ g, cc.gs[qa]? = some g := ⟨_, List.getElem?_eq_getElem (by rw [HN.out]; exact hqa)⟩
      obtain ⟨ab, ao, eab, hcc⟩ := greads_at HA.out hgqa
      obtain ⟨_, dqa, _⟩ := hcc
      rw [← nmOf_at hgqa, hna] at dqa
      subst eab
      have iqa0 : (0 : Int) ≤ (qa : Int) := by omega
      have iqa1 : (qa : Int) < (n : Int) := by omega
      clear hgqa
      have hz1 : ¬ 9223372036854775807 < 6 + nm.size := by omega
      obtain ⟨s1, hs1⟩ : ∃ s : ByteArray, (⟨#[108, 97, 116, 99, 104, 32]⟩ : ByteArray) ++ nm = s := ⟨_, rfl⟩
      have hss1 : s1.size = 6 + nm.size := by rw [← hs1, ByteArray.size_append]; rfl
      have hz2 : ¬ 9223372036854775807 < s1.size + 3 := by omega
      obtain ⟨s2, hs2⟩ : ∃ s : ByteArray, s1 ++ (⟨#[32, 48, 32]⟩ : ByteArray) = s := ⟨_, rfl⟩
      have hss2 : s2.size = s1.size + 3 := by rw [← hs2, ByteArray.size_append]; rfl
      have hz3 : ¬ 9223372036854775807 < s2.size + na.size := by omega
      obtain ⟨s3, hs3⟩ : ∃ s : ByteArray, s2 ++ na = s := ⟨_, rfl⟩
      have hss3 : s3.size = s2.size + na.size := by rw [← hs3, ByteArray.size_append]
      have HW : Hid (s3 = wordB (wordsG cc.gs ⟨3, nm, 0, (qa : Int), b, cx⟩)) := Lib.hid (wordB_eq (by
        unfold wordsG
        simp only [← hs3, ← hs2, ← hs1]
        simp [joinL, Lib.join_cons, Lib.joinTail, cat_list, wGate, wLatch, wMux, wInput, w0, w1, hna]))
      clear hss1 hss2 hss3 hfp
      go_upto_region 7 with (fail)
      go_quiet (fail)
      go_wp2
      go_ret
      exact ⟨by rw [← HW.out]; rfl, by first | exact below_drewN HB.out _ | exact HB.out⟩
  by_cases k4 : kd = 4
  · subst k4
    unfold FieldsP PlaceP at hfp
    dsimp only at hfp
    obtain ⟨qa, eqa⟩ : ∃ q : Nat, a = (q : Int) := ⟨a.toNat, by omega⟩
    subst eqa
    have hqa : qa < n := by omega
    obtain ⟨na, hna⟩ : ∃ x, nmOf cc.gs (qa : Int) = x := ⟨_, rfl⟩
    have hsna : na.size ≤ 63 := by rw [← hna]; exact HNS.out _
    obtain ⟨gqa, hgqa⟩ : ∃ g, cc.gs[qa]? = some g := ⟨_, List.getElem?_eq_getElem (by rw [HN.out]; exact hqa)⟩
    obtain ⟨ab, ao, eab, hcc⟩ := greads_at HA.out hgqa
    obtain ⟨_, dqa, _⟩ := hcc
    rw [← nmOf_at hgqa, hna] at dqa
    subst eab
    have iqa0 : (0 : Int) ≤ (qa : Int) := by omega
    have iqa1 : (qa : Int) < (n : Int) := by omega
    clear hgqa
    obtain ⟨qb, eqb⟩ : ∃ q : Nat, b = (q : Int) := ⟨b.toNat, by omega⟩
    subst eqb
    have hqb : qb < n := by omega
    obtain ⟨nb, hnb⟩ : ∃ x, nmOf cc.gs (qb : Int) = x := ⟨_, rfl⟩
    have hsnb : nb.size ≤ 63 := by rw [← hnb]; exact HNS.out _
    obtain ⟨gqb, hgqb⟩ : ∃ g, cc.gs[qb]? = some g := ⟨_, List.getElem?_eq_getElem (by rw [HN.out]; exact hqb)⟩
    obtain ⟨_, _, eab, hcc⟩ := greads_at HA.out hgqb
    obtain ⟨_, dqb, _⟩ := hcc
    rw [← nmOf_at hgqb, hnb] at dqb
    cases eab
    have iqb0 : (0 : Int) ≤ (qb : Int) := by omega
    have iqb1 : (qb : Int) < (n : Int) := by omega
    clear hgqb
    obtain ⟨qc, eqc⟩ : ∃ q : Nat, cx = (q : Int) := ⟨cx.toNat, by omega⟩
    subst eqc
    have hqc : qc < n := by omega
    obtain ⟨nc, hnc⟩ : ∃ x, nmOf cc.gs (qc : Int) = x := ⟨_, rfl⟩
    have hsnc : nc.size ≤ 63 := by rw [← hnc]; exact HNS.out _
    obtain ⟨gqc, hgqc⟩ : ∃ g, cc.gs[qc]? = some g := ⟨_, List.getElem?_eq_getElem (by rw [HN.out]; exact hqc)⟩
    obtain ⟨_, _, eab, hcc⟩ := greads_at HA.out hgqc
    obtain ⟨_, dqc, _⟩ := hcc
    rw [← nmOf_at hgqc, hnc] at dqc
    cases eab
    have iqc0 : (0 : Int) ≤ (qc : Int) := by omega
    have iqc1 : (qc : Int) < (n : Int) := by omega
    clear hgqc
    have hz1 : ¬ 9223372036854775807 < 4 + nm.size := by omega
    obtain ⟨s1, hs1⟩ : ∃ s : ByteArray, (⟨#[109, 117, 120, 32]⟩ : ByteArray) ++ nm = s := ⟨_, rfl⟩
    have hss1 : s1.size = 4 + nm.size := by rw [← hs1, ByteArray.size_append]; rfl
    have hz2 : ¬ 9223372036854775807 < s1.size + 1 := by omega
    obtain ⟨s2, hs2⟩ : ∃ s : ByteArray, s1 ++ (⟨#[32]⟩ : ByteArray) = s := ⟨_, rfl⟩
    have hss2 : s2.size = s1.size + 1 := by rw [← hs2, ByteArray.size_append]; rfl
    have hz3 : ¬ 9223372036854775807 < s2.size + na.size := by omega
    obtain ⟨s3, hs3⟩ : ∃ s : ByteArray, s2 ++ na = s := ⟨_, rfl⟩
    have hss3 : s3.size = s2.size + na.size := by rw [← hs3, ByteArray.size_append]
    have hz4 : ¬ 9223372036854775807 < s3.size + 1 := by omega
    obtain ⟨s4, hs4⟩ : ∃ s : ByteArray, s3 ++ (⟨#[32]⟩ : ByteArray) = s := ⟨_, rfl⟩
    have hss4 : s4.size = s3.size + 1 := by rw [← hs4, ByteArray.size_append]; rfl
    have hz5 : ¬ 9223372036854775807 < s4.size + nb.size := by omega
    obtain ⟨s5, hs5⟩ : ∃ s : ByteArray, s4 ++ nb = s := ⟨_, rfl⟩
    have hss5 : s5.size = s4.size + nb.size := by rw [← hs5, ByteArray.size_append]
    have hz6 : ¬ 9223372036854775807 < s5.size + 1 := by omega
    obtain ⟨s6, hs6⟩ : ∃ s : ByteArray, s5 ++ (⟨#[32]⟩ : ByteArray) = s := ⟨_, rfl⟩
    have hss6 : s6.size = s5.size + 1 := by rw [← hs6, ByteArray.size_append]; rfl
    have hz7 : ¬ 9223372036854775807 < s6.size + nc.size := by omega
    obtain ⟨s7, hs7⟩ : ∃ s : ByteArray, s6 ++ nc = s := ⟨_, rfl⟩
    have hss7 : s7.size = s6.size + nc.size := by rw [← hs7, ByteArray.size_append]
    have HW : Hid (s7 = wordB (wordsG cc.gs ⟨4, nm, op, (qa : Int), (qb : Int), (qc : Int)⟩)) := Lib.hid (wordB_eq (by
      unfold wordsG
      simp only [← hs7, ← hs6, ← hs5, ← hs4, ← hs3, ← hs2, ← hs1]
      simp [joinL, Lib.join_cons, Lib.joinTail, cat_list, wGate, wLatch, wMux, wInput, w0, w1, hna, hnb, hnc]))
    clear hss1 hss2 hss3 hss4 hss5 hss6 hss7 hfp
    go_upto_region 9 with (fail)
    go_quiet (fail)
    go_wp2
    go_ret
    exact ⟨by rw [← HW.out]; rfl, by first | exact below_drewN HB.out _ | exact HB.out⟩
  have k1 : kd = 1 := by unfold FieldsP at hfp; dsimp only at hfp; omega
  · subst k1
    unfold FieldsP PlaceP at hfp
    dsimp only at hfp
    have hz1 : ¬ 9223372036854775807 < 6 + nm.size := by omega
    obtain ⟨s1, hs1⟩ : ∃ s : ByteArray, (⟨#[105, 110, 112, 117, 116, 32]⟩ : ByteArray) ++ nm = s := ⟨_, rfl⟩
    have hss1 : s1.size = 6 + nm.size := by rw [← hs1, ByteArray.size_append]; rfl
    have HW : Hid (s1 = wordB (wordsG cc.gs ⟨1, nm, op, a, b, cx⟩)) := Lib.hid (wordB_eq (by
      unfold wordsG
      simp only [← hs1]
      simp [joinL, Lib.join_cons, Lib.joinTail, cat_list, wGate, wLatch, wMux, wInput, w0, w1]))
    clear hss1 hfp
    go_upto_region 10 with (fail)
    skip
    go_wp2
    go_ret
    exact ⟨by rw [← HW.out]; rfl, by first | exact below_drewN HB.out _ | exact HB.out⟩
end Go.Proofs.YtjkmoahnociaiaaDoor
