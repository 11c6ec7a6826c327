/- CircuitBack: the law's text answers true. -/
import Derived.Test.YtjkmoahnociaiaaDoorPL
import Derived.Test.YtjkmoahnociaiaaDoorMDD
import Derived.Lib.AppendStr
namespace Go.Proofs.YtjkmoahnociaiaaDoor
open Go.RowKit

theorem MadeC.size {c : Ct} (h : MadeC c) : SizeP c := by
  have hF := h.formed
  refine ⟨?_, fun g hg => ?_, ?_, ?_⟩
  · have := hF.name.2.1; unfold maxLen; omega
  · have := (hF.lines g hg).1.2.1; unfold maxLen; omega
  · have := h.le; unfold maxLen; omega
  · have := h.ol; unfold maxLen; omega
/-- A made circuit's text is short enough. -/
theorem made_text {c : Ct} (h : MadeC c) : (textL c).length ≤ 300000 := by
  have hF := h.formed
  have h1 := gatesL_len hF.net c.gs.length (Nat.le_refl _)
  have h2 := otL_len hF.net c.outs.length (Nat.le_refl _)
  have h3 := lineL_len (headW_size hF.net) (by simp)
  have h4 := lineL_len endW_size (by simp)
  have h5 := h.le
  have h6 := h.ol
  unfold textL
  simp only [List.length_append]
  omega
theorem made_print {c : Ct} (h : MadeC c) : printE c = 0 ∧ printS c = ⟨(textL c).toArray⟩ := by
  have h1 : printE c = 0 := by
    unfold printE
    rw [if_pos (formedB_true h.formed), if_pos (by have := made_text h; omega)]
  exact ⟨h1, by unfold printS; rw [if_pos h1]⟩
theorem u8_ne {c k : UInt8} (h : c ≠ k) : ((c.toNat : Int) == (k.toNat : Int)) = false ∧ ¬ (c.toNat : Int) = (k.toNat : Int) := by
  have h1 : ¬ (c.toNat : Int) = (k.toNat : Int) := fun e => h (UInt8.toNat_inj.1 (by omega))
  exact ⟨by simpa using h1, h1⟩
theorem bcells_one {l : List UInt8} : ∀ u ∈ Lib.byteCells l, u.oneCell' = true := fun u hu => by
  unfold Lib.byteCells at hu
  obtain ⟨x, _, rfl⟩ := List.mem_map.1 hu
  rfl
/-- A row of bytes grown. -/
theorem bowns {w : World} {base n : Nat} {v : Value} {l k : List UInt8} (h : w.ownsRow base 5 1 v n (Lib.byteCells l ++ Lib.byteCells k)) (hn : n = l.length + k.length) : Owns w base 5 v (Lib.byteCells (l ++ k)) := by
  unfold Owns
  rw [Lib.byteCells_length, List.length_append, Lib.byteCells_append, ← hn]
  exact h
/-- 'append(b, s...)' of a text onto an owned row of bytes. -/
theorem wpList_str {ops : Array Oper} {rest : List Oper} {o : Oper} {a : Act} {Q : Exit → Act → World → Prop} {w : World} (hgd : o.guard = none) (sl x : Operand)
    (ho : o.op = .call { callee := .builtin .append, args := #[sl, x], argTypes := #[42, 9] })
    (base : Nat) (v : Value) (n : Nat) (xs : List Value) (hs : a.eval sl = v) (hown : w.ownsRow base 5 1 v n xs) (s : ByteArray) (hx : a.eval x = .string s)
    (h63 : n + s.size ≤ maxLen) (hbytes : n + s.size ≤ 140737488355328) (hbase : base ≤ w.heap.size)
    (h : ∀ v' w', w'.ownsRow base 5 1 v' (n + s.size) (xs ++ Lib.strCells s) → w.grownBy w' v.ownBlock → wpList Tryd.prog ops Q rest (a.put o.dst v') w') : wpList Tryd.prog ops Q (o :: rest) a w := by
  obtain ⟨i, hi', hz, hsz, hb⟩ := info_parts (P := Tryd.prog) extraD.infoByte
  exact Lib.wpList_append_own_string w hgd sl x 42 9 ho base 5 i Tryd.underlying42 Tryd.underlying9 hi' hz hsz hb v n xs hs hown s hx h63 hbytes hbase (fun v' w' h1 h2 _ => h v' w' h1 h2)
def noteB : ByteArray := ⟨#[32, 35, 32, 103, 97, 116, 101, 32, 101, 110, 100, 32, 105, 110, 112, 117, 116, 10, 13]⟩
theorem noteB_size : noteB.size = 19 := rfl
theorem noteB_cells : Lib.strCells noteB = Lib.byteCells noteL := rfl
theorem bytes_text {w : World} {A : Option Addr} {c : Nat} {m : List UInt8} (h : CReads w A (Lib.byteCells m)) : (convert 42 9 (.slice A m.length c)).run Tryd.prog w = .ok (.string ⟨m.toArray⟩) w := by
  have e : Lib.byteCells m = nums .u8 (m.map fun b => (b.toNat : Int)) := by
    unfold Lib.byteCells nums
    rw [List.map_map]
    rfl
  rw [e] at h
  have h1 := run_text Tryd.underlying42 Tryd.underlying5 Tryd.underlying9 (c := c) (CReads.reads h) (n := m.length) (by simp)
  have e2 : strOfNums (m.map fun b => (b.toNat : Int)) = ⟨m.toArray⟩ := by
    apply ByteArray.ext
    unfold strOfNums
    simp
    refine (List.map_congr_left fun b _ => ?_).trans (List.map_id m)
    simp
  rw [e2] at h1
  exact h1
/-- The beginning of a filled text. -/
def FillP (l m : List UInt8) : Prop := ∀ l2 m2, FillT l2 m2 → FillT (l ++ l2) (m ++ m2)
theorem FillP.nil : FillP [] [] := fun _ _ h => h
theorem FillP.step {l m pre : List UInt8} {c : UInt8} (h : FillP l m) (hp : PreOk c pre) : FillP (l ++ [c]) ((m ++ pre) ++ [c]) := fun l2 m2 t => by
  have := h (c :: l2) (pre ++ c :: m2) (.cons hp t)
  simpa using this
theorem FillP.all {l m : List UInt8} (h : FillP l m) : FillT l m := by
  have := h [] [] .nil
  simpa using this
set_option maxRecDepth 100000 in
set_option maxHeartbeats 8000000 in
theorem back_any (AC AF : Option Addr) (L M c d : Nat) (xs ys : List Int) (w : World) (hC : Reads w .i64 AC xs) (hF : Reads w .i64 AF ys) (hL : xs.length = L) (hM : ys.length = M) (hx : ∀ x ∈ xs, Big x) (hy : ∀ y ∈ ys, Big y) (hl : L ≤ 1000000000000000) (hm : M ≤ 1000000000000000) (hop : OpsAt w 0) :
    Calls Tryd.prog 5 #[.slice AC L c, .slice AF M d] w fun e w' => e = .returned (.bool true) ∧ Below w.heap.size w w' := by
  have CM := made_any AC L c xs w hC hL hx hl
  unfold MadeR at CM
  have HF := Lib.hid hF; have HM := Lib.hid hM; have HY := Lib.hid hy; have HOP := Lib.hid hop
  clear hC hF hL hM hx hy hop
  go_enter Tryd.func5, Tryd.ntmps5
  go_upto_region 2 with (go_at_call 19; with_reducible refine CM.mono ?_; rintro e w1 ⟨gs, outs, A, B, n, m, ca, cb, rfl, hmade, hgl, hol, HA1, HO1, hb1, HGR1, HOR1⟩)
  change Code.wp _ _ _ _ (w1.alloc (.cells #[.string mname, .slice A n ca, .slice B m cb] 25))
  obtain ⟨cc, hcc⟩ : ∃ cc : Ct, (⟨mname, gs, outs⟩ : Ct) = cc := ⟨_, rfl⟩
  have hcn : cc.name = mname := by rw [← hcc]
  have hcg : cc.gs = gs := by rw [← hcc]
  have hco : cc.outs = outs := by rw [← hcc]
  rw [hcc] at hmade
  subst hcg hco
  rw [← hcn]
  have HMD := Lib.hid hmade
  have HBL := Lib.hid (below1 w1 (.cells #[.string cc.name, .slice A n ca, .slice B m cb] 25))
  have HX2 := Lib.hid (Blk.new w1 25 [.string cc.name, .slice A n ca, .slice B m cb])
  have HA2 := Lib.hid (HA1.out.below HBL.out)
  have HO2 := Lib.hid (HO1.out.below HBL.out)
  have HBW2 := Lib.hid (below_self hb1 HBL.out)
  have HGL := Lib.hid hgl; have HOL := Lib.hid hol
  clear CM hcc hcn hmade HA1 HO1 HGR1 HOR1
  generalize w1.alloc (.cells #[.string cc.name, .slice A n ca, .slice B m cb] 25) = w2 at *
  obtain ⟨bx, hbx⟩ : ∃ b, w1.heap.size = b := ⟨_, rfl⟩
  rw [hbx] at HX2 ⊢
  have HBX : Hid (w.heap.size ≤ bx) := Lib.hid (by rw [← hbx]; exact hb1.size)
  clear hbx hb1 hgl hol HBL
  have HSZ := Lib.hid HMD.out.size
  have HFP := Lib.hid HMD.out.formed
  have hpr := made_print HMD.out
  have hop2 := HOP.out.below HBW2.out
  have hC1 := print_any cc A B n m ca cb w2 HA2.out HO2.out HSZ.out HGL.out HOL.out hop2
  rw [hpr.1, hpr.2] at hC1
  have x0 : w2.cell? ⟨bx, 0, none⟩ = some (.string cc.name) := (HX2.out.cell 0).trans rfl
  have x1 : w2.cell? ⟨bx, 1, none⟩ = some (.slice A n ca) := (HX2.out.cell 1).trans rfl
  have x2 : w2.cell? ⟨bx, 2, none⟩ = some (.slice B m cb) := (HX2.out.cell 2).trans rfl
  clear hpr hop2
  obtain ⟨txt, htxt⟩ : ∃ t : ByteArray, (⟨(textL cc).toArray⟩ : ByteArray) = t := ⟨_, rfl⟩
  rw [htxt] at hC1
  have HTX : Hid (txt.data.toList = textL cc ∧ txt.size ≤ 300000) := Lib.hid (by
    rw [← htxt]
    refine ⟨by simp, ?_⟩
    have := made_text HMD.out
    show (textL cc).toArray.size ≤ 300000
    simpa using this)
  clear htxt
  go_upto_region 3 with (go_at_call 8; with_reducible refine hC1.mono ?_; rintro e w3 ⟨rfl, hb3⟩)
  have HB3 := Lib.hid (below_self HBW2.out hb3)
  have HX3 := Lib.hid (HX2.out.self hb3)
  have HA3 := Lib.hid (HA2.out.below hb3)
  have HO3 := Lib.hid (HO2.out.below hb3)
  clear hC1 x0 x1 x2 HA2 HO2 HX2 hb3 HBW2
  have hC2 := formed_any cc A B n m ca cb w3 HA3.out HO3.out HSZ.out HGL.out HOL.out
  rw [formedB_true HFP.out] at hC2
  have x0 : w3.cell? ⟨bx, 0, none⟩ = some (.string cc.name) := (HX3.out.cell 0).trans rfl
  have x1 : w3.cell? ⟨bx, 1, none⟩ = some (.slice A n ca) := (HX3.out.cell 1).trans rfl
  have x2 : w3.cell? ⟨bx, 2, none⟩ = some (.slice B m cb) := (HX3.out.cell 2).trans rfl
  go_upto_if 27 with (go_at_call 9; with_reducible refine hC2.mono ?_; rintro e w4 ⟨rfl, hb4⟩)
  have HB4 := Lib.hid (below_self HB3.out hb4)
  have HX4 := Lib.hid (HX3.out.self hb4)
  have HA4 := Lib.hid (HA3.out.below hb4)
  have HO4 := Lib.hid (HO3.out.below hb4)
  clear hC2 x0 x1 x2 HA3 HO3 HX3 hb4 HB3
  have hC3 := parse_all txt w4 (HOP.out.below HB4.out)
  have hpo : parseOut txt = ⟨(0, 0, 0), cc.name, cc.gs, cc.outs⟩ := fill_back (by have := HTX.out.2; omega) HFP.out (by rw [HTX.out.1]; exact fill_refl _)
  rw [hpo] at hC3
  unfold OutR faultV at hC3
  dsimp only at hC3
  clear hpo
  go_upto_region 6 with (go_at_call 14; with_reducible refine hC3.mono ?_; rintro e w5 ⟨hb5, A5, ca5, B5, cb5, rfl, HG5, HO5⟩)
  rw [HGL.out] at HG5
  rw [HOL.out] at HO5
  rw [HGL.out, HOL.out]
  have HB5a := Lib.hid (below_self HB4.out hb5)
  have HX5 := Lib.hid (HX4.out.self hb5)
  have HA5 := Lib.hid (HA4.out.below hb5)
  have HOO5 := Lib.hid (HO4.out.below hb5)
  clear hC3 HA4 HO4 HX4 hb5 HB4
  change Code.wp _ _ _ _ ((w5.alloc (.cells #[.string cc.name, .slice A5 n ca5, .slice B5 m cb5] 25)).alloc (.cells #[.int .i64 0, .int .i64 0, .int .i64 0] 35))
  have hbl5 := below2 w5 (.cells #[.string cc.name, .slice A5 n ca5, .slice B5 m cb5] 25) (.cells #[.int .i64 0, .int .i64 0, .int .i64 0] 35)
  have HD6 := Lib.hid ((Blk.new w5 25 [.string cc.name, .slice A5 n ca5, .slice B5 m cb5]).self (below1 _ (.cells #[.int .i64 0, .int .i64 0, .int .i64 0] 35)))
  have HF6 := Lib.hid (blk_new2 w5 (.cells #[.string cc.name, .slice A5 n ca5, .slice B5 m cb5] 25) 35 [.int .i64 0, .int .i64 0, .int .i64 0])
  have HG6 : Hid (CReads ((w5.alloc (.cells #[.string cc.name, .slice A5 n ca5, .slice B5 m cb5] 25)).alloc (.cells #[.int .i64 0, .int .i64 0, .int .i64 0] 35)) A5 (gcells cc.gs)) := Lib.hid (by
    obtain ⟨A', c', e, h, _⟩ := rows_cells HG5 (by decide)
    cases e
    exact h.below hbl5)
  have HP6 : Hid (Reads ((w5.alloc (.cells #[.string cc.name, .slice A5 n ca5, .slice B5 m cb5] 25)).alloc (.cells #[.int .i64 0, .int .i64 0, .int .i64 0] 35)) .i64 B5 cc.outs) := Lib.hid (by
    obtain ⟨A', c', e, h, _⟩ := rows_reads HO5
    cases e
    exact h.below hbl5)
  have HX6 := Lib.hid (HX5.out.self hbl5)
  have HA6 := Lib.hid (HA5.out.below hbl5)
  have HO6 := Lib.hid (HOO5.out.below hbl5)
  have HB6 := Lib.hid (below_self HB5a.out hbl5)
  have hs5 : (w5.alloc (.cells #[.string cc.name, .slice A5 n ca5, .slice B5 m cb5] 25)).heap.size = w5.heap.size + 1 := size_alloc _ _
  try simp only [hs5]
  have H5W := Lib.hid hbl5
  have HXD : Hid (bx < w5.heap.size) := Lib.hid HX5.out.lt
  clear hbl5 HG5 HO5 hs5
  generalize (w5.alloc (.cells #[.string cc.name, .slice A5 n ca5, .slice B5 m cb5] 25)).alloc (.cells #[.int .i64 0, .int .i64 0, .int .i64 0] 35) = w6 at *
  have HDW : Hid (w.heap.size ≤ w5.heap.size) := Lib.hid HB5a.out.size
  obtain ⟨d8, hd8⟩ : ∃ d, w5.heap.size = d := ⟨_, rfl⟩
  rw [hd8] at HD6 HF6 HDW HXD H5W ⊢
  have HD8' : Hid (w5.heap.size = d8) := Lib.hid hd8
  have HBW5 := HB5a
  clear hd8 HB5a
  have hsame := same_any A B A5 B5 n m ca cb ca5 cb5 cc.name cc.gs cc.outs w6 HA6.out HO6.out HG6.out HP6.out HGL.out HOL.out (by have := HMD.out.le; have := HGL.out; omega) (by have := HMD.out.ol; have := HOL.out; omega)
  have x0 : w6.cell? ⟨bx, 0, none⟩ = some (.string cc.name) := (HX6.out.cell 0).trans rfl
  have x1 : w6.cell? ⟨bx, 1, none⟩ = some (.slice A n ca) := (HX6.out.cell 1).trans rfl
  have x2 : w6.cell? ⟨bx, 2, none⟩ = some (.slice B m cb) := (HX6.out.cell 2).trans rfl
  have y0 : w6.cell? ⟨d8, 0, none⟩ = some (.string cc.name) := (HD6.out.cell 0).trans rfl
  have y1 : w6.cell? ⟨d8, 1, none⟩ = some (.slice A5 n ca5) := (HD6.out.cell 1).trans rfl
  have y2 : w6.cell? ⟨d8, 2, none⟩ = some (.slice B5 m cb5) := (HD6.out.cell 2).trans rfl
  have z0 : w6.cell? ⟨d8 + 1, 0, none⟩ = some (.int .i64 0) := (HF6.out.cell 0).trans rfl
  have z1 : w6.cell? ⟨d8 + 1, 1, none⟩ = some (.int .i64 0) := (HF6.out.cell 1).trans rfl
  have z2 : w6.cell? ⟨d8 + 1, 2, none⟩ = some (.int .i64 0) := (HF6.out.cell 2).trans rfl
  go_upto_region 11 with (go_at_call 16; with_reducible refine hsame.mono ?_; rintro e w7 ⟨rfl, hb7⟩)
  have HX7 := Lib.hid (HX6.out.self hb7)
  have HD7 := Lib.hid (HD6.out.self hb7)
  have HF7 := Lib.hid (HF6.out.self hb7)
  have HA7 := Lib.hid (HA6.out.below hb7)
  have HO7 := Lib.hid (HO6.out.below hb7)
  have HB7 := Lib.hid (below_self HB6.out hb7)
  have H5W7 : Hid (Below d8 w5 w7) := Lib.hid (H5W.out.trans (hb7.mono (by have := HD6.out.lt; omega)))
  clear x0 x1 x2 y0 y1 y2 z0 z1 z2 hsame hb7 HX6 HD6 HF6 HA6 HO6 HG6 HP6 HB6
  have HFP0 := Lib.hid FillP.nil
  have HW0 : Hid (Owns w7 w7.heap.size 5 (.slice none 0 0) (Lib.byteCells [])) := Lib.hid (owns_nil _ _ _)
  have HBW7 := Lib.hid (Below.refl w7.heap.size w7)
  have hts2 : txt.size ≤ 300000 := HTX.out.2
  go_loopw [10, 11, 12] (fun vB s11 s12 wr => ∃ (i k : Nat) (m' : List UInt8), i ≤ txt.size ∧ k ≤ M ∧ s11 = .int .i64 k ∧ s12 = .int .i64 i ∧ Hid (Owns wr w7.heap.size 5 vB (Lib.byteCells m')) ∧ Hid (FillP (txt.data.toList.take i) m') ∧ Hid (m'.length ≤ 40 * i) ∧ Hid (Below w7.heap.size w7 wr)) (fun _ _ s12 _ => txt.size - (intOf s12).toNat)
  case atStart => exact ⟨0, 0, [], by omega, by omega, rfl, rfl, HW0, HFP0, Lib.hid (Nat.le_refl _), HBW7⟩
  case round =>
    clear HFP0 HW0 HBW7
    obtain ⟨i, k, m', hi, hk, rfl, rfl, HW, HP, HLE, HB⟩ := hrel
    by_cases hlt : i < txt.size
    · obtain ⟨ci, hci⟩ : ∃ c, txt[i] = c := ⟨_, rfl⟩
      have hi0 : (0 : Int) ≤ (i : Int) := by omega
      have hi1 : (i : Int) < (txt.size : Int) := by omega
      have HCI : Hid (txt.data.toList.take i ++ [ci] = txt.data.toList.take (i + 1)) := Lib.hid (by
        have h1 : txt.data.toList[i]? = some ci := by
          rw [List.getElem?_eq_getElem (by rw [Array.length_toList]; exact hlt), ← hci]
          rfl
        rw [List.take_add_one, h1]
        rfl)
      go_upto_region 14 with (fail)
      go_cut [63] (fun s wx => s = .bool ((ci == 32 || ci == 10) && decide (k < M)) ∧ wx = wr)
      case first =>
        by_cases hkM : k < M
        · have hkM2 : (k : Int) < (M : Int) := by omega
          by_cases h32 : ci = 32
          · have hn32 : (ci.toNat : Int) = 32 := by rw [h32]; rfl
            go_wp2
            go_meet
            exact ⟨by simp [h32, hkM], rfl⟩
          · obtain ⟨e32, n32⟩ := u8_ne h32
            by_cases h10 : ci = 10
            · have hn10 : (ci.toNat : Int) = 10 := by rw [h10]; rfl
              go_wp2
              go_meet
              exact ⟨by simp [h10, hkM], rfl⟩
            · obtain ⟨e10, n10⟩ := u8_ne h10
              go_wp2
              go_meet
              exact ⟨by simp [h10, h32], rfl⟩
        · have hkM2 : ¬ (k : Int) < (M : Int) := by omega
          by_cases h32 : ci = 32
          · have hn32 : (ci.toNat : Int) = 32 := by rw [h32]; rfl
            go_wp2
            go_meet
            exact ⟨by simp [hkM], rfl⟩
          · obtain ⟨e32, n32⟩ := u8_ne h32
            by_cases h10 : ci = 10
            · have hn10 : (ci.toNat : Int) = 10 := by rw [h10]; rfl
              go_wp2
              go_meet
              exact ⟨by simp [hkM], rfl⟩
            · obtain ⟨e10, n10⟩ := u8_ne h10
              go_wp2
              go_meet
              exact ⟨by simp [hkM], rfl⟩
      case rest =>
        obtain ⟨rfl, hwx⟩ := hcut
        subst hwx
        obtain ⟨bz, hbz⟩ : ∃ b, ((ci == 32 || ci == 10) && decide (k < M)) = b := ⟨_, rfl⟩
        rw [hbz]
        have HBZ := Lib.hid hbz
        clear hbz
        go_upto_if 63 with (fail)
        go_cut [11, 13] (fun s11 s13 wx => ∃ k' x : Nat, s11 = .int .i64 k' ∧ s13 = .int .i64 x ∧ k' ≤ M ∧ x ≤ 9 ∧ Hid (x = 9 ∨ (x < 6 ∧ (ci = 32 ∨ ci = 10))) ∧ wx = wc)
        case first =>
          cases bz
          · go_wp2
            go_meet
            exact ⟨k, 9, rfl, rfl, hk, by omega, Lib.hid (.inl rfl), rfl⟩
          · have hb := HBZ.out
            simp only [Bool.and_eq_true, Bool.or_eq_true, beq_iff_eq, decide_eq_true_eq] at hb
            obtain ⟨hsep, hkM⟩ := hb
            obtain ⟨y, hyk⟩ : ∃ y, ys[k]? = some y := ⟨_, List.getElem?_eq_getElem (by rw [HM.out]; exact hkM)⟩
            obtain ⟨gf, of_, hAF, hcell⟩ := (HF.out.below (HB7.out.trans (HB.out.mono HB7.out.size))).at_ hyk
            subst hAF
            have hwi : Calls Tryd.prog 20 #[.int .i64 y, .int .i64 6] wc fun e w' => (∃ x : Nat, e = .returned (.int .i64 x) ∧ x < 6) ∧ w' = wc := within_any y 6 wc (HY.out y (List.mem_of_getElem? hyk)) (by decide) (by decide)
            have hk0 : (0 : Int) ≤ (k : Int) := by omega
            have hkM2 : (k : Int) < (M : Int) := by omega
            have HSEP := Lib.hid hsep
            clear hyk hsep
            go_wp2_with (go_at_call 20; with_reducible refine hwi.mono ?_; rintro e w8 ⟨⟨x, rfl, hx6⟩, rfl⟩)
            go_meet
            exact ⟨k + 1, x, by go_num, rfl, by omega, by omega, Lib.hid (.inr ⟨hx6, HSEP.out⟩), rfl⟩
        case rest =>
          obtain ⟨k', x, rfl, rfl, hk', hx9, HX9, hwx⟩ := hcut
          subst hwx
          have hmb : m'.length ≤ 12000000 := by have := HLE.out; omega
          have HWn := HW.out
          unfold Owns at HWn
          rw [Lib.byteCells_length] at HWn
          have HWN := Lib.hid HWn
          clear HWn
          go_upto_block 2 with (fail)
          go_cut [10] from 71 to 105 (fun vC wx => ∃ pre : List UInt8, Hid (PreOk ci pre) ∧ pre.length ≤ 19 ∧ Hid (wx.ownsRow w7.heap.size 5 1 vC (m'.length + pre.length) (Lib.byteCells (m' ++ pre))) ∧ Hid (Below w7.heap.size w7 wx))
          case first =>
            by_cases hx4 : 4 ≤ x
            · as_aux_lemma =>
                have e0 : ((x : Int) == 0) = false := by simp; omega
                have e1 : ((x : Int) == 1) = false := by simp; omega
                have e2 : ((x : Int) == 2) = false := by simp; omega
                have e3 : ((x : Int) == 3) = false := by simp; omega
                have f0 : (x == 0) = false := by simp; omega
                have f1 : (x == 1) = false := by simp; omega
                have f2 : (x == 2) = false := by simp; omega
                have f3 : (x == 3) = false := by simp; omega
                go_wp2
                go_meet
                exact ⟨[], Lib.hid (.inl rfl), by simp, Lib.hid (by rw [List.append_nil]; exact HWN.out), HB⟩
            · have HSP : Hid (ci = 32 ∨ ci = 10) := Lib.hid (by rcases HX9.out with h | h; omega; exact h.2)
              by_cases hx0 : x = 0
              · as_aux_lemma =>
                  subst hx0
                  have hbla := below1 wc (.cells #[.int .u8 32, .int .u8 9] 5)
                  have HRa := Lib.hid (CReads.of_blk (Blk.new wc 5 (Lib.byteCells [32, 9])))
                  have HWa := Lib.hid (rows_below HWN.out hbla)
                  have HBa := Lib.hid (HB.out.trans (hbla.mono HB.out.size))
                  have hsza : w7.heap.size ≤ (wc.alloc (.cells #[.int .u8 32, .int .u8 9] 5)).heap.size := HBa.out.size
                  clear hbla
                  go_wp2_with (at_builtin; refine wpList_cells rfl _ _ 42 rfl w7.heap.size 5 _ 1 1 Tryd.underlying42 extraD.infoByte rfl (by decide) u10 m'.length (Lib.byteCells m') rfl HWa.out (some ⟨wc.heap.size, 0, none⟩) 2 2 (Lib.byteCells [32, 9]) rfl HRa.out rfl bcells_one (by unfold maxLen; omega) (by omega) hsza ?_; intro va w8a howna hga hna)
                  go_meet
                  exact ⟨[32, 9], Lib.hid (.inr ⟨HSP.out, .inl rfl⟩), by decide, Lib.hid (by rw [Lib.byteCells_append]; exact howna), Lib.hid (HBa.out.grown hga HBa.out.size (fun g e => (World.ownsRow.lt HWa.out g e).1))⟩
              · by_cases hx3 : x = 3
                · as_aux_lemma =>
                    subst hx3
                    have hbla := below1 wc (.cells #[.int .u8 13] 5)
                    have HRa := Lib.hid (CReads.of_blk (Blk.new wc 5 (Lib.byteCells [13])))
                    have HWa := Lib.hid (rows_below HWN.out hbla)
                    have HBa := Lib.hid (HB.out.trans (hbla.mono HB.out.size))
                    have hsza : w7.heap.size ≤ (wc.alloc (.cells #[.int .u8 13] 5)).heap.size := HBa.out.size
                    clear hbla
                    go_wp2_with (at_builtin; refine wpList_cells rfl _ _ 42 rfl w7.heap.size 5 _ 1 1 Tryd.underlying42 extraD.infoByte rfl (by decide) u10 m'.length (Lib.byteCells m') rfl HWa.out (some ⟨wc.heap.size, 0, none⟩) 1 1 (Lib.byteCells [13]) rfl HRa.out rfl bcells_one (by unfold maxLen; omega) (by omega) hsza ?_; intro va w8a howna hga hna)
                    go_meet
                    exact ⟨[13], Lib.hid (.inr ⟨HSP.out, .inr (.inl rfl)⟩), by decide, Lib.hid (by rw [Lib.byteCells_append]; exact howna), Lib.hid (HBa.out.grown hga HBa.out.size (fun g e => (World.ownsRow.lt HWa.out g e).1))⟩
                · by_cases h10 : ci = 10
                  · have hn10 : (ci.toNat : Int) = 10 := by rw [h10]; rfl
                    have hb10 : ((ci.toNat : Int) == 10) = true := by rw [hn10]; rfl
                    have HTEN := Lib.hid h10
                    clear h10
                    by_cases hx2 : x = 2
                    · as_aux_lemma =>
                        subst hx2
                        have hbla := below1 wc (.cells #[.int .u8 10, .int .u8 10, .int .u8 32] 5)
                        have HRa := Lib.hid (CReads.of_blk (Blk.new wc 5 (Lib.byteCells [10, 10, 32])))
                        have HWa := Lib.hid (rows_below HWN.out hbla)
                        have HBa := Lib.hid (HB.out.trans (hbla.mono HB.out.size))
                        have hsza : w7.heap.size ≤ (wc.alloc (.cells #[.int .u8 10, .int .u8 10, .int .u8 32] 5)).heap.size := HBa.out.size
                        clear hbla
                        go_wp2_with (at_builtin; refine wpList_cells rfl _ _ 42 rfl w7.heap.size 5 _ 1 1 Tryd.underlying42 extraD.infoByte rfl (by decide) u10 m'.length (Lib.byteCells m') rfl HWa.out (some ⟨wc.heap.size, 0, none⟩) 3 3 (Lib.byteCells [10, 10, 32]) rfl HRa.out rfl bcells_one (by unfold maxLen; omega) (by omega) hsza ?_; intro va w8a howna hga hna)
                        go_meet
                        exact ⟨[10, 10, 32], Lib.hid (.inr ⟨HSP.out, .inr (.inr ⟨HTEN.out, .inr rfl⟩)⟩), by decide, Lib.hid (by rw [Lib.byteCells_append]; exact howna), Lib.hid (HBa.out.grown hga HBa.out.size (fun g e => (World.ownsRow.lt HWa.out g e).1))⟩
                    · as_aux_lemma =>
                        obtain rfl : x = 1 := by omega
                        go_wp2_with (at_builtin; refine wpList_str rfl _ _ rfl w7.heap.size u10 m'.length (Lib.byteCells m') rfl HWN.out noteB rfl (by rw [noteB_size]; unfold maxLen; omega) (by rw [noteB_size]; omega) HB.out.size ?_; intro va w8a howna hga)
                        go_meet
                        exact ⟨noteL, Lib.hid (.inr ⟨HSP.out, .inr (.inr ⟨HTEN.out, .inl rfl⟩)⟩), by decide, Lib.hid (by rw [noteB_size, noteB_cells, ← Lib.byteCells_append] at howna; exact howna), Lib.hid (HB.out.grown hga HB.out.size (fun g e => (World.ownsRow.lt HWN.out g e).1))⟩
                  · as_aux_lemma =>
                      have e10 : ((ci.toNat : Int) == 10) = false := (u8_ne h10).1
                      have n10 : ¬ (ci.toNat : Int) = 10 := (u8_ne h10).2
                      clear h10
                      have h12 : x = 1 ∨ x = 2 := by omega
                      rcases h12 with rfl | rfl
                      all_goals
                        go_wp2
                        go_meet
                        exact ⟨[], Lib.hid (.inl rfl), by simp, Lib.hid (by rw [List.append_nil]; exact HWN.out), HB⟩
          case rest =>
            obtain ⟨pre, HPRE, hpl, HWP, HBP⟩ := hcut
            as_aux_lemma =>
              have HPn := Lib.hid (HP.out.step (c := ci) HPRE.out)
              have hblb := below1 wc (.cells #[.int .u8 ci.toNat] 5)
              have HRb := Lib.hid (CReads.of_blk (Blk.new wc 5 (Lib.byteCells [ci])))
              have HWb := Lib.hid (rows_below HWP.out hblb)
              have HBb := Lib.hid (HBP.out.trans (hblb.mono HBP.out.size))
              have hszb : w7.heap.size ≤ (wc.alloc (.cells #[.int .u8 ci.toNat] 5)).heap.size := HBb.out.size
              clear hblb
              go_wp2_with (at_builtin; refine wpList_cells rfl _ _ 42 rfl w7.heap.size 5 _ 1 1 Tryd.underlying42 extraD.infoByte rfl (by decide) _ (m'.length + pre.length) (Lib.byteCells (m' ++ pre)) rfl HWb.out (some ⟨wc.heap.size, 0, none⟩) 1 1 (Lib.byteCells [ci]) rfl HRb.out rfl bcells_one (by unfold maxLen; omega) (by omega) hszb ?_; intro vb w8b hownb hgb hnb)
              have HW9 : Hid (Owns w8b w7.heap.size 5 vb (Lib.byteCells ((m' ++ pre) ++ [ci]))) := Lib.hid (bowns hownb (by simp))
              have HB9 := Lib.hid (HBb.out.grown hgb HBb.out.size (fun g e => (World.ownsRow.lt HWb.out g e).1))
              have HL9 : Hid (((m' ++ pre) ++ [ci]).length ≤ 40 * (i + 1)) := Lib.hid (by have := HLE.out; simp; omega)
              have HP9 : Hid (FillP (txt.data.toList.take (i + 1)) ((m' ++ pre) ++ [ci])) := Lib.hid (by rw [← HCI.out]; exact HPn.out)
              go_roundw
              case rel => exact ⟨i + 1, k', (m' ++ pre) ++ [ci], by omega, hk', rfl, by go_num, HW9, HP9, HL9, HB9⟩
              case measure => simp [intOf]; omega
    · obtain rfl : i = txt.size := by omega
      obtain ⟨A8, c8, rfl⟩ := HW.out.form
      rw [Lib.byteCells_length] at HW ⊢
      have hmb : m'.length ≤ 12000000 := by have := HLE.out; omega
      by_cases hlong : 1048576 < m'.length
      · 
        have hlong2 : (1048576 : Int) < (m'.length : Int) := by omega
        go_wp2
        go_ret
        exact ⟨rfl, HB7.out.trans (HB.out.mono HB7.out.size)⟩
      · have hlong2 : ¬ (1048576 : Int) < (m'.length : Int) := by omega
        have HFT : Hid (FillT (textL cc) m') := Lib.hid (by
          have h1 := HP.out.all
          rwa [List.take_of_length_le (by rw [Array.length_toList]; exact Nat.le_refl _), HTX.out.1] at h1)
        obtain ⟨A9, c9, e9, HR9, _⟩ := rows_cells HW.out (by decide)
        rw [Lib.byteCells_length] at e9
        cases e9
        have hconv := bytes_text (c := c8) HR9
        obtain ⟨t2, ht2⟩ : ∃ t : ByteArray, (⟨m'.toArray⟩ : ByteArray) = t := ⟨_, rfl⟩
        rw [ht2] at hconv
        have HT2 : Hid (t2.data.toList = m' ∧ t2.size = m'.length) := Lib.hid (by rw [← ht2]; exact ⟨rfl, rfl⟩)
        clear ht2
        have hB8 := HB7.out.trans (HB.out.mono HB7.out.size)
        have hC4 := parse_all t2 wr (HOP.out.below hB8)
        have hpo2 : parseOut t2 = ⟨(0, 0, 0), cc.name, cc.gs, cc.outs⟩ := fill_back (by have := HT2.out.2; omega) HFP.out (by rw [HT2.out.1]; exact HFT.out)
        rw [hpo2] at hC4
        unfold OutR faultV at hC4
        dsimp only at hC4
        have HB8 := Lib.hid hB8
        clear hpo2 hB8
        have H5Wr : Hid (Below d8 w5 wr) := Lib.hid (H5W7.out.trans (HB.out.mono (by have := HD7.out.lt; omega)))
        have HX8 := Lib.hid (HX7.out.below HB.out HX7.out.lt)
        have HD8 := Lib.hid (HD7.out.below HB.out HD7.out.lt)
        have HF8 := Lib.hid (HF7.out.below HB.out HF7.out.lt)
        have HA8 := Lib.hid (HA7.out.below HB.out)
        have HO8 := Lib.hid (HO7.out.below HB.out)
        clear HX7 HD7 HF7 HA7 HO7 HW HR9 HP HLE
        go_upto_region 28 with (fail)
        go_wp2_with fail
        with_reducible refine hC4.mono ?_
        rintro e w9 ⟨hb9, A6, ca6, B6, cb6, rfl, HG9, HO9⟩
        have HD9 := HD8.out.self hb9
        have HF9 := HF8.out.self hb9
        have HX9 := HX8.out.self hb9
        have HA9 := HA8.out.below hb9
        have HOO9 := HO8.out.below hb9
        have HB9 := Lib.hid (below_self HB8.out hb9)
        have hd1 : d8 + 1 < wr.heap.size := HF8.out.lt
        have HWR : Hid (d8 < wr.heap.size ∧ d8 + 1 < wr.heap.size) := Lib.hid ⟨by omega, hd1⟩
        have H5W9 : Hid (Below d8 w5 w9) := Lib.hid ((H5Wr.out).trans (hb9.mono (by omega)))
        have p0 := (HD9.cell 0).trans rfl
        have p1 := (HD9.cell 1).trans rfl
        have p2 := (HD9.cell 2).trans rfl
        have q0 := HD9.frozen 0
        have q1 := HD9.frozen 1
        have q2 := HD9.frozen 2
        have z0 := (HF9.cell 0).trans rfl
        have z1 := (HF9.cell 1).trans rfl
        have z2 := (HF9.cell 2).trans rfl
        have o0 := HF9.frozen 0
        have o1 := HF9.frozen 1
        have o2 := HF9.frozen 2
        have HD9' := Lib.hid HD9; have HF9' := Lib.hid HF9; have HX9' := Lib.hid HX9; have HA9' := Lib.hid HA9; have HO9' := Lib.hid HOO9; have HG9' := Lib.hid HG9; have HP9' := Lib.hid HO9
        clear HD9 HF9 HX9 HA9 HOO9 HG9 HO9 hC4 hconv HD8 HF8 HX8 HA8 HO8 hb9
        go_upto_region 29 with (fail)
        change Code.wp _ _ _ _ ((((((w9.setCell ⟨d8, 0, none⟩ (.string cc.name)).setCell ⟨d8, 1, none⟩ (.slice A6 cc.gs.length ca6)).setCell ⟨d8, 2, none⟩ (.slice B6 cc.outs.length cb6)).setCell ⟨d8 + 1, 0, none⟩ (.int .i64 0)).setCell ⟨d8 + 1, 1, none⟩ (.int .i64 0)).setCell ⟨d8 + 1, 2, none⟩ (.int .i64 0))
        have HB10 : Hid (Below d8 w5 ((((((w9.setCell ⟨d8, 0, none⟩ (.string cc.name)).setCell ⟨d8, 1, none⟩ (.slice A6 cc.gs.length ca6)).setCell ⟨d8, 2, none⟩ (.slice B6 cc.outs.length cb6)).setCell ⟨d8 + 1, 0, none⟩ (.int .i64 0)).setCell ⟨d8 + 1, 1, none⟩ (.int .i64 0)).setCell ⟨d8 + 1, 2, none⟩ (.int .i64 0))) := Lib.hid
          ((((((H5W9.out.setCell (p := ⟨d8, 0, none⟩) (Nat.le_refl _) _).setCell (p := ⟨d8, 1, none⟩) (Nat.le_refl _) _).setCell (p := ⟨d8, 2, none⟩) (Nat.le_refl _) _).setCell (p := ⟨d8 + 1, 0, none⟩) (Nat.le_succ _) _).setCell (p := ⟨d8 + 1, 1, none⟩) (Nat.le_succ _) _).setCell (p := ⟨d8 + 1, 2, none⟩) (Nat.le_succ _) _)
        have hds : d8 ≠ d8 + 1 := by omega
        have HDX := Lib.hid ((((((HD9'.out.set_ 0 (.string cc.name)).set_ 1 (.slice A6 cc.gs.length ca6)).set_ 2 (.slice B6 cc.outs.length cb6)).far (p := ⟨d8 + 1, 0, none⟩) hds (.int .i64 0)).far (p := ⟨d8 + 1, 1, none⟩) hds (.int .i64 0)).far (p := ⟨d8 + 1, 2, none⟩) hds (.int .i64 0))
        have HFX := Lib.hid ((((((HF9'.out.far (p := ⟨d8, 0, none⟩) hds.symm (.string cc.name)).far (p := ⟨d8, 1, none⟩) hds.symm (.slice A6 cc.gs.length ca6)).far (p := ⟨d8, 2, none⟩) hds.symm (.slice B6 cc.outs.length cb6)).set_ 0 (.int .i64 0)).set_ 1 (.int .i64 0)).set_ 2 (.int .i64 0))
        have HGX := Lib.hid (rows_set3 (rows_set3 HG9'.out (.inl HWR.out.1) (.string cc.name) (.slice A6 cc.gs.length ca6) (.slice B6 cc.outs.length cb6)) (.inl HWR.out.2) (.int .i64 0) (.int .i64 0) (.int .i64 0))
        have HPX := Lib.hid (rows_set3 (rows_set3 HP9'.out (.inl HWR.out.1) (.string cc.name) (.slice A6 cc.gs.length ca6) (.slice B6 cc.outs.length cb6)) (.inl HWR.out.2) (.int .i64 0) (.int .i64 0) (.int .i64 0))
        clear p0 p1 p2 q0 q1 q2 z0 z1 z2 o0 o1 o2 hds
        generalize (((((w9.setCell ⟨d8, 0, none⟩ (.string cc.name)).setCell ⟨d8, 1, none⟩ (.slice A6 cc.gs.length ca6)).setCell ⟨d8, 2, none⟩ (.slice B6 cc.outs.length cb6)).setCell ⟨d8 + 1, 0, none⟩ (.int .i64 0)).setCell ⟨d8 + 1, 1, none⟩ (.int .i64 0)).setCell ⟨d8 + 1, 2, none⟩ (.int .i64 0) = w10 at *
        have hB510 : Below w5.heap.size w5 w10 := by rw [HD8'.out]; exact HB10.out
        have HXX := Lib.hid (HX5.out.self hB510)
        have hA10 := HA5.out.below hB510
        have hO10 := HOO5.out.below hB510
        have HBF := Lib.hid (HBW5.out.trans (hB510.mono HBW5.out.size))
        have hG10 := rows_read HGX.out (by decide)
        have hP10 : Reads w10 .i64 B6 cc.outs := CReads.reads (rows_read HPX.out (by decide))
        have hsame2 := same_any A B A6 B6 cc.gs.length cc.outs.length ca cb ca6 cb6 cc.name cc.gs cc.outs w10 hA10 hO10 hG10 hP10 rfl rfl (by have := HMD.out.le; omega) (by have := HMD.out.ol; omega)
        rw [HGL.out, HOL.out] at hsame2 HDX
        clear hB510 hA10 hO10 hG10 hP10
        have x0 : w10.cell? ⟨bx, 0, none⟩ = some (.string cc.name) := (HXX.out.cell 0).trans rfl
        have x1 : w10.cell? ⟨bx, 1, none⟩ = some (.slice A n ca) := (HXX.out.cell 1).trans rfl
        have x2 : w10.cell? ⟨bx, 2, none⟩ = some (.slice B m cb) := (HXX.out.cell 2).trans rfl
        have y0 : w10.cell? ⟨d8, 0, none⟩ = some (.string cc.name) := (HDX.out.cell 0).trans rfl
        have y1 : w10.cell? ⟨d8, 1, none⟩ = some (.slice A6 n ca6) := (HDX.out.cell 1).trans rfl
        have y2 : w10.cell? ⟨d8, 2, none⟩ = some (.slice B6 m cb6) := (HDX.out.cell 2).trans rfl
        have z0 : w10.cell? ⟨d8 + 1, 0, none⟩ = some (.int .i64 0) := (HFX.out.cell 0).trans rfl
        have z1 : w10.cell? ⟨d8 + 1, 1, none⟩ = some (.int .i64 0) := (HFX.out.cell 1).trans rfl
        have z2 : w10.cell? ⟨d8 + 1, 2, none⟩ = some (.int .i64 0) := (HFX.out.cell 2).trans rfl
        go_wp2_with (go_at_call 16; with_reducible refine hsame2.mono ?_; rintro e w11 ⟨rfl, hb11⟩)
        go_ret
        exact ⟨rfl, below_self HBF.out hb11⟩
end Go.Proofs.YtjkmoahnociaiaaDoor
