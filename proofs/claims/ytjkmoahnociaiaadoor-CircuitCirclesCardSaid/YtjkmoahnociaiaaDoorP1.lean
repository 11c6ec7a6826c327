/- circuit.Print: the program's text. -/
import Derived.Test.YtjkmoahnociaiaaDoorRWD
namespace Go.Proofs.YtjkmoahnociaiaaDoor
open Go.RowKit

/-- The operators' words, where the variable lies. -/
def OpsAt (w : World) (b : Nat) : Prop := ∀ (j : Nat) (x : ByteArray), opWords[j]? = some x → w.cell? ⟨b, j, none⟩ = some (.string x)
theorem OpsAt.below {w w' : World} {b : Nat} (h : OpsAt w b) (hb : Below w.heap.size w w') : OpsAt w' b := fun j x hx => cell_kept hb (h j x hx)
noncomputable def printE (c : Ct) : Int := if formedB c = true then (if (textL c).length ≤ 1048576 then 0 else 5) else 144
noncomputable def printS (c : Ct) : ByteArray := if printE c = 0 then ⟨(textL c).toArray⟩ else ⟨#[]⟩
theorem opW_at {op : Int} (h0 : 0 ≤ op) (h1 : op ≤ 15) : opWords[op.toNat]? = some (opW op) := by
  have hl : op.toNat < opWords.length := by
    have : opWords.length = 16 := rfl
    omega
  unfold opW
  rw [List.getD_eq_getElem?_getD, List.getElem?_eq_getElem hl]
  rfl
theorem opW_size (op : Int) : (opW op).size ≤ 63 := by
  have key : ∀ x ∈ opWords, x.size ≤ 63 := by decide
  unfold opW
  rw [List.getD_eq_getElem?_getD]
  cases h : opWords[op.toNat]? with
  | none => exact Nat.zero_le _
  | some x => exact key x (List.mem_of_getElem? h)
section
variable {c : Ct}
theorem nmOf_size (hF : NetP c) (p : Int) : (nmOf c.gs p).size ≤ 63 := by
  unfold nmOf
  cases h : c.gs[p.toNat]? with
  | none => exact Nat.zero_le _
  | some g =>
    have := (hF.lines g (List.mem_of_getElem? h)).1.2.1
    show g.name.size ≤ 63
    omega
theorem words_size (hF : NetP c) {g : Gt} (hg : g ∈ c.gs) : ∀ x ∈ wordsG c.gs g, x.size ≤ 63 := by
  have hn : g.name.size ≤ 63 := by
    have := (hF.lines g hg).1.2.1
    omega
  have hi : wInput.size ≤ 63 := by decide
  have hgt : wGate.size ≤ 63 := by decide
  have hmx : wMux.size ≤ 63 := by decide
  have hlt : wLatch.size ≤ 63 := by decide
  have h0 : w0.size ≤ 63 := by decide
  have h1 : w1.size ≤ 63 := by decide
  have hp := nmOf_size hF
  intro x hx
  unfold wordsG at hx
  split at hx
  · simp only [List.mem_cons, List.not_mem_nil, or_false] at hx
    rcases hx with rfl | rfl <;> assumption
  · split at hx
    · simp only [List.mem_cons, List.not_mem_nil, or_false] at hx
      rcases hx with rfl | rfl | rfl | rfl | rfl <;> first | assumption | exact opW_size _ | exact hp _
    · split at hx
      · simp only [List.mem_cons, List.not_mem_nil, or_false] at hx
        rcases hx with rfl | rfl | rfl | rfl | rfl <;> first | assumption | exact hp _
      · simp only [List.mem_cons, List.not_mem_nil, or_false] at hx
        rcases hx with rfl | rfl | rfl | rfl
        · assumption
        · assumption
        · split <;> assumption
        · exact hp _
theorem words_len (gs : List Gt) (g : Gt) : (wordsG gs g).length ≤ 5 := by
  unfold wordsG
  split
  · simp
  · split
    · simp
    · split <;> simp
theorem gatesL_len (hF : NetP c) : ∀ k, k ≤ c.gs.length → (gatesL c.gs k).length ≤ 321 * k
  | 0, _ => by simp [gatesL_zero]
  | k + 1, h => by
    have hg := List.getElem?_eq_getElem (l := c.gs) (i := k) (by omega)
    have h1 := lineL_len (words_size hF (List.mem_of_getElem? hg)) (words_len _ _)
    have h2 := gatesL_len hF k (by omega)
    rw [gatesL_succ hg, List.length_append]
    omega
theorem outW_size (hF : NetP c) (p : Int) : ∀ x ∈ [wOutput, nmOf c.gs p], x.size ≤ 63 := by
  have ho : wOutput.size ≤ 63 := by decide
  intro x hx
  simp only [List.mem_cons, List.not_mem_nil, or_false] at hx
  rcases hx with rfl | rfl
  · assumption
  · exact nmOf_size hF p
theorem otL_len (hF : NetP c) : ∀ k, k ≤ c.outs.length → (otL c.gs c.outs k).length ≤ 321 * k
  | 0, _ => by simp [otL_zero]
  | k + 1, h => by
    have hp := List.getElem?_eq_getElem (l := c.outs) (i := k) (by omega)
    have h1 := lineL_len (outW_size hF c.outs[k]) (by simp)
    have h2 := otL_len hF k (by omega)
    rw [otL_succ hp, List.length_append]
    omega
theorem headW_size (hF : NetP c) : ∀ x ∈ [wCircuit, c.name], x.size ≤ 63 := by
  have ho : wCircuit.size ≤ 63 := by decide
  have := hF.name.2.1
  intro x hx
  simp only [List.mem_cons, List.not_mem_nil, or_false] at hx
  rcases hx with rfl | rfl
  · assumption
  · omega
theorem endW_size : ∀ x ∈ [wEnd], x.size ≤ 63 := by
  have ho : wEnd.size ≤ 63 := by decide
  intro x hx
  simp only [List.mem_cons, List.not_mem_nil, or_false] at hx
  subst hx
  assumption
end

set_option maxRecDepth 100000 in
set_option maxHeartbeats 8000000 in
theorem print_any (cc : Ct) (A B : Option Addr) (n m ca cb : Nat) (w : World) (hA : CReads w A (gcells cc.gs)) (hB : Reads w .i64 B cc.outs) (hs : SizeP cc) (hn : cc.gs.length = n) (hm : cc.outs.length = m) (hops : OpsAt w 0) :
    Calls Tryd.prog 8 #[.agg #[.string cc.name, .slice A n ca, .slice B m cb]] w fun e w' => e = .returned (.tuple #[.string (printS cc), .int .i64 (printE cc)]) ∧ Below w.heap.size w w' := by
  have hbl := below1 w (.cells #[.string cc.name, .slice A n ca, .slice B m cb] 25)
  have C1 : Calls Tryd.prog 9 #[.agg #[.string cc.name, .slice A n ca, .slice B m cb]] (w.alloc (.cells #[.string cc.name, .slice A n ca, .slice B m cb] 25)) fun e w' => e = .returned (.bool (formedB cc)) ∧ Below (w.alloc (.cells #[.string cc.name, .slice A n ca, .slice B m cb] 25)).heap.size (w.alloc (.cells #[.string cc.name, .slice A n ca, .slice B m cb] 25)) w' := formed_any cc A B n m ca cb _ (hA.below hbl) (hB.below hbl) hs hn hm
  have HX := Lib.hid (Blk.new w 25 [.string cc.name, .slice A n ca, .slice B m cb])
  have HA := Lib.hid (hA.below hbl); have HBR := Lib.hid (hB.below hbl); have HN := Lib.hid hn; have HM := Lib.hid hm; have HB0 := Lib.hid hbl
  have HOP := Lib.hid (hops.below hbl)
  clear hA hB hs hn hm hbl hops
  obtain ⟨fb, hfb⟩ : ∃ fb, formedB cc = fb := ⟨_, rfl⟩
  rw [hfb] at C1
  cases fb
  · have HE : Hid (printE cc = 144) := Lib.hid (by unfold printE; rw [hfb]; rfl)
    have HS : Hid (printS cc = ⟨#[]⟩) := Lib.hid (by unfold printS; rw [HE.out]; rfl)
    rw [HE.out, HS.out]
    clear hfb HE HS HBR HN HM HA HOP
    go_enter Tryd.func8, Tryd.ntmps8
    go_upto_region 1 with (fail)
    change Code.wp _ _ _ _ (w.alloc (.cells #[.string cc.name, .slice A n ca, .slice B m cb] 25))
    generalize w.alloc (.cells #[.string cc.name, .slice A n ca, .slice B m cb] 25) = W1 at *
    obtain ⟨bx, hbx⟩ : ∃ bx, w.heap.size = bx := ⟨_, rfl⟩
    rw [hbx] at HX ⊢
    have x0 : W1.cell? ⟨bx, 0, none⟩ = some (.string cc.name) := (HX.out.cell 0).trans rfl
    have x1 : W1.cell? ⟨bx, 1, none⟩ = some (.slice A n ca) := (HX.out.cell 1).trans rfl
    have x2 : W1.cell? ⟨bx, 2, none⟩ = some (.slice B m cb) := (HX.out.cell 2).trans rfl
    go_wp2_with (go_at_call 9; with_reducible refine C1.mono ?_; rintro e w2 ⟨rfl, hb2⟩)
    go_ret2
    exact ⟨rfl, below_self HB0.out hb2⟩
  · have HF : Hid (FormedP cc) := Lib.hid (by
      unfold formedB at hfb
      simpa using hfb)
    have HFB := Lib.hid hfb
    have hn1 : n ≤ 65536 := by rw [← HN.out]; exact HF.out.gl
    have hm1 : m ≤ 65536 := by rw [← HM.out]; exact HF.out.ol
    clear hfb
    go_enter Tryd.func8, Tryd.ntmps8
    go_upto_region 1 with (fail)
    change Code.wp _ _ _ _ (w.alloc (.cells #[.string cc.name, .slice A n ca, .slice B m cb] 25))
    generalize w.alloc (.cells #[.string cc.name, .slice A n ca, .slice B m cb] 25) = W1 at *
    obtain ⟨bx, hbx⟩ : ∃ bx, w.heap.size = bx := ⟨_, rfl⟩
    rw [hbx] at HX ⊢
    have HBX := Lib.hid hbx
    clear hbx
    have x0 : W1.cell? ⟨bx, 0, none⟩ = some (.string cc.name) := (HX.out.cell 0).trans rfl
    have x1 : W1.cell? ⟨bx, 1, none⟩ = some (.slice A n ca) := (HX.out.cell 1).trans rfl
    have x2 : W1.cell? ⟨bx, 2, none⟩ = some (.slice B m cb) := (HX.out.cell 2).trans rfl
    go_upto_region 3 with (go_at_call 9; with_reducible refine C1.mono ?_; rintro e w2 ⟨rfl, hb2⟩)
    have HB2 := Lib.hid (below_self HB0.out hb2)
    have HX2 := Lib.hid (HX.out.self hb2)
    have HA2 := Lib.hid (HA.out.below hb2); have HBR2 := Lib.hid (HBR.out.below hb2); have HOP2 := Lib.hid (HOP.out.below hb2)
    clear C1 hb2 HX HA HBR HOP HB0 x0 x1 x2
    have HBL0 := Lib.hid (BldAt.new w2)
    have HD0 := Lib.hid (below1 w2 (.cells #[.pointer none, .slice none 0 0] 53))
    go_upto_region 6 with (fail)
    change Code.wp _ _ _ _ (w2.alloc (.cells #[.pointer none, .slice none 0 0] 53))
    generalize w2.alloc (.cells #[.pointer none, .slice none 0 0] 53) = W3 at *
    obtain ⟨bb, hbb⟩ : ∃ bb, w2.heap.size = bb := ⟨_, rfl⟩
    rw [hbb] at HBL0 ⊢
    have HBB := Lib.hid hbb
    clear hbb
    have HXW : Hid (∀ W, Below w2.heap.size w2 W → Blk W bx 25 [.string cc.name, .slice A n ca, .slice B m cb] ∧ CReads W A (gcells cc.gs) ∧ Reads W .i64 B cc.outs ∧ OpsAt W 0) := Lib.hid fun W hW => ⟨HX2.out.self hW, HA2.out.below hW, HBR2.out.below hW, HOP2.out.below hW⟩
    clear HX2 HA2 HBR2 HOP2
    have x0 : W3.cell? ⟨bx, 0, none⟩ = some (.string cc.name) := ((HXW.out W3 HD0.out).1.cell 0).trans rfl
    have hcall : Calls Tryd.prog 23 #[.slice (some ⟨W3.heap.size, 0, none⟩) 2 2, .pointer (some ⟨bb, 0, none⟩)] (W3.alloc (.cells #[.string ⟨#[99, 105, 114, 99, 117, 105, 116]⟩, .string cc.name] 9)) fun e w' => e = .returned (.tuple #[]) ∧ BldAt bb bb (Lib.byteCells (lineL [wCircuit, cc.name])) w' ∧ Below bb W3 w' ∧ Beside bb W3 w' :=
      line_lit bb bb 2 [wCircuit, cc.name] [] W3 HBL0.out rfl (by omega) (headW_size HF.out.net) (by simp) (by rw [← HBB.out]; exact HD0.out.size)
    go_upto_region 7 with (go_at_call 23; with_reducible refine hcall.mono ?_; rintro e w4 ⟨rfl, hbl4, hb4, _⟩)
    have HD4 := Lib.hid (by rw [← HBB.out] at hb4; exact HD0.out.trans hb4 : Below w2.heap.size w2 w4)
    have HBL4 : Hid (BldAt bb bb (Lib.byteCells (lineL [wCircuit, cc.name] ++ gatesL cc.gs 0)) w4) := Lib.hid (by rw [gatesL_zero, List.append_nil]; exact hbl4)
    clear hcall hbl4 hb4 HBL0 HD0 x0
    have x1 : w4.cell? ⟨bx, 1, none⟩ = some (.slice A n ca) := ((HXW.out w4 HD4.out).1.cell 1).trans rfl
    have hhead := lineL_len (headW_size HF.out.net) (by simp)
    obtain ⟨hd, hhd⟩ : ∃ hd, lineL [wCircuit, cc.name] = hd := ⟨_, rfl⟩
    rw [hhd] at HBL4 hhead
    have HHD := Lib.hid hhd
    clear hhd
    go_upto_region 8 with (fail)
    clear x1
    go_loopw [24] (fun s24 wr => ∃ k : Nat, k ≤ n ∧ s24 = .int .i64 k ∧ Hid (BldAt bb bb (Lib.byteCells (hd ++ gatesL cc.gs k)) wr) ∧ Hid (Below w2.heap.size w2 wr)) (fun s24 _ => n - (intOf s24).toNat)
    case atStart => exact ⟨0, by omega, rfl, HBL4, HD4⟩
    case round =>
      clear HBL4 HD4
      obtain ⟨k, hk, rfl, HBL, HD⟩ := hrel
      by_cases hlt : k < n
      · obtain ⟨g, hg⟩ : ∃ g, cc.gs[k]? = some g := ⟨_, List.getElem?_eq_getElem (by rw [HN.out]; exact hlt)⟩
        have hgm := List.mem_of_getElem? hg
        obtain ⟨ab, ao, e, hc⟩ := greads_at (HXW.out wr HD.out).2.1 hg
        subst e
        obtain ⟨c0, c1, c2, c3, c4, c5⟩ := hc
        have HSU := Lib.hid (gatesL_succ hg)
        have hws := words_size HF.out.net hgm
        have hwl := words_len cc.gs g
        have hlen : (hd ++ gatesL cc.gs k).length ≤ 100000000 := by
          have := gatesL_len HF.out.net k (by rw [HN.out]; omega)
          rw [List.length_append]
          omega
        have hfp := (HF.out.lines g hgm).2
        rw [HN.out] at hfp
        obtain ⟨bs, hbs⟩ : ∃ bs, hd ++ gatesL cc.gs k = bs := ⟨_, rfl⟩
        rw [hbs] at HBL hlen
        have HBS : Hid (hd ++ gatesL cc.gs (k + 1) = bs ++ lineL (wordsG cc.gs g)) := Lib.hid (by rw [HSU.out, ← List.append_assoc, hbs])
        obtain ⟨kd, nm, op, a, b, cx⟩ := g
        dsimp only at *
        have hk0 : (0 : Int) ≤ (k : Int) := by omega
        have hkn : (k : Int) < (n : Int) := by omega
        have hbl := below1 wr (.cells #[.int .i64 kd, .string nm, .int .i64 op, .int .i64 a, .int .i64 b, .int .i64 cx] 46)
        have HBL1 := Lib.hid (HBL.out.below hbl)
        have HD1 := Lib.hid (below_self HD.out hbl)
        have HBK := Lib.hid (Beside.of_below (b := bb) hbl)
        have HG1 := Lib.hid (Blk.new wr 46 [.int .i64 kd, .string nm, .int .i64 op, .int .i64 a, .int .i64 b, .int .i64 cx])
        have HOB : Hid (wr.heap.size ≠ bb) := Lib.hid (by have := HBL.out.lt; omega)
        have HBW : Hid (bb ≤ wr.heap.size) := Lib.hid (Nat.le_of_lt HBL.out.lt)
        clear HBL HD hg hgm HSU hbs
        go_upto_region 10 with (fail)
        change Code.wp _ _ _ _ (wr.alloc (.cells #[.int .i64 kd, .string nm, .int .i64 op, .int .i64 a, .int .i64 b, .int .i64 cx] 46))
        clear hbl c0 c1 c2 c3 c4 c5
        have hsz4 : bb ≤ (wr.alloc (.cells #[.int .i64 kd, .string nm, .int .i64 op, .int .i64 a, .int .i64 b, .int .i64 cx] 46)).heap.size := Nat.le_of_lt HBL1.out.lt
        generalize wr.alloc (.cells #[.int .i64 kd, .string nm, .int .i64 op, .int .i64 a, .int .i64 b, .int .i64 cx] 46) = W4 at *
        obtain ⟨ob, hob⟩ : ∃ ob, wr.heap.size = ob := ⟨_, rfl⟩
        rw [hob] at HG1 HOB ⊢
        clear hob HBK
        have c0 : W4.cell? ⟨ob, 0, none⟩ = some (.int .i64 kd) := (HG1.out.cell 0).trans rfl
        have HW4 := Lib.hid (And.intro hws hwl)
        clear hws hwl
        by_cases k1 : kd = 1
        · subst k1
          have hcall : Calls Tryd.prog 23 #[.slice (some ⟨W4.heap.size, 0, none⟩) 2 2, .pointer (some ⟨bb, 0, none⟩)] (W4.alloc (.cells #[.string ⟨#[105, 110, 112, 117, 116]⟩, .string nm] 9)) fun e w' => e = .returned (.tuple #[]) ∧ BldAt bb bb (Lib.byteCells (hd ++ gatesL cc.gs (k + 1))) w' ∧ Below bb W4 w' ∧ Beside bb W4 w' := by
            rw [HBS.out]
            exact line_lit bb bb 2 [wInput, nm] bs W4 HBL1.out rfl (by omega) HW4.out.1 (by omega) hsz4
          have c1 : W4.cell? ⟨ob, 1, none⟩ = some (.string nm) := (HG1.out.cell 1).trans rfl
          go_upto_region 19 with (go_at_call 23; with_reducible refine hcall.mono ?_; rintro e w5 ⟨rfl, hbl5, hb5, _⟩)
          have HBN := Lib.hid hbl5
          have HDN := Lib.hid (by rw [← HBB.out] at hb5; exact HD1.out.trans hb5 : Below w2.heap.size w2 w5)
          clear hcall hbl5 hb5 HBL1 HD1 HG1
          go_wp2
          go_roundw
          case rel => exact ⟨k + 1, by omega, by go_num, HBN, HDN⟩
          case measure => simp [intOf]; omega
        by_cases k2 : kd = 2
        · subst k2
          unfold FieldsP PlaceP at hfp
          dsimp only at hfp
          obtain ⟨qa, eqa⟩ : ∃ q : Nat, a = (q : Int) := ⟨a.toNat, by omega⟩
          subst eqa
          have hqa : qa < n := by omega
          obtain ⟨na, hna⟩ : ∃ x, nmOf cc.gs (qa : Int) = x := ⟨_, rfl⟩
          have hcqa : Calls Tryd.prog 26 #[.int .i64 (qa : Int), .pointer (some ⟨bx, 0, none⟩)] W4.drew fun e w' => e = .returned (.string na) ∧ w' = W4.drew := by
            have hx := HXW.out W4.drew (below_drew0 HD1.out)
            rw [← hna]
            exact name_any bx qa n m ca cb cc.name cc.gs _ B W4.drew hx.1 hx.2.1 HN.out hqa
          obtain ⟨qb, eqb⟩ : ∃ q : Nat, b = (q : Int) := ⟨b.toNat, by omega⟩
          subst eqb
          have hqb : qb < n := by omega
          obtain ⟨nb, hnb⟩ : ∃ x, nmOf cc.gs (qb : Int) = x := ⟨_, rfl⟩
          have hcqb : Calls Tryd.prog 26 #[.int .i64 (qb : Int), .pointer (some ⟨bx, 0, none⟩)] W4.drew fun e w' => e = .returned (.string nb) ∧ w' = W4.drew := by
            have hx := HXW.out W4.drew (below_drew0 HD1.out)
            rw [← hnb]
            exact name_any bx qb n m ca cb cc.name cc.gs _ B W4.drew hx.1 hx.2.1 HN.out hqb
          obtain ⟨oq, eoq⟩ : ∃ q : Nat, op = (q : Int) := ⟨op.toNat, by omega⟩
          subst eoq
          obtain ⟨ow, how⟩ : ∃ x, opW (oq : Int) = x := ⟨_, rfl⟩
          have hoq0 : (0 : Int) ≤ (oq : Int) := by omega
          have hoq1 : (oq : Int) < 16 := by omega
          have howc : opWords[oq]? = some ow := by
            have := opW_at (op := (oq : Int)) (by omega) (by omega)
            rw [how] at this
            exact this
          have hwd : wordsG cc.gs ⟨2, nm, (oq : Int), (qa : Int), (qb : Int), cx⟩ = [⟨#[103, 97, 116, 101]⟩, nm, ow, na, nb] := by
            unfold wordsG
            simp [hna, hnb, how]
            first | rfl | exact ⟨rfl, rfl⟩
          have hcall : Calls Tryd.prog 23 #[.slice (some ⟨W4.heap.size, 0, none⟩) 5 5, .pointer (some ⟨bb, 0, none⟩)] (W4.alloc (.cells #[.string ⟨#[103, 97, 116, 101]⟩, .string nm, .string ow, .string na, .string nb] 9)).drew fun e w' => e = .returned (.tuple #[]) ∧ BldAt bb bb (Lib.byteCells (hd ++ gatesL cc.gs (k + 1))) w' ∧ Below bb W4 w' ∧ Beside bb W4 w' := by
            rw [HBS.out]
            have hws := HW4.out.1
            rw [hwd] at hws ⊢
            exact (line_lit bb bb 5 [⟨#[103, 97, 116, 101]⟩, nm, ow, na, nb] bs W4.drew HBL1.out rfl (by omega) hws (by omega) hsz4).mono fun e w' ⟨h1, h2, h3, h4⟩ => ⟨h1, h2, (below_drew0 (Below.refl bb W4)).trans h3, (Beside.of_below (below_drew0 (Below.refl _ _))).trans h4⟩
          have HKS : Hid (∀ W, Below bb W4 W → Beside bb W4 W → W.cell? ⟨ob, 1, none⟩ = some (.string nm) ∧ W.cell? ⟨ob, 2, none⟩ = some (.int .i64 (oq : Int)) ∧ W.cell? ⟨ob, 3, none⟩ = some (.int .i64 (qa : Int)) ∧ W.cell? ⟨ob, 4, none⟩ = some (.int .i64 (qb : Int)) ∧ W.cell? ⟨0, oq, none⟩ = some (.string ow)) := Lib.hid fun W hW hK => by
            have h1 := hK.blk HG1.out HOB.out (by decide)
            have h2 : Below w2.heap.size w2 W := HD1.out.trans (by rw [HBB.out]; exact hW)
            exact ⟨(h1.cell 1).trans rfl, (h1.cell 2).trans rfl, (h1.cell 3).trans rfl, (h1.cell 4).trans rfl, (HXW.out W h2).2.2.2 oq ow howc⟩
          have HE0 : Hid (Below bb W4 W4.drew ∧ Beside bb W4 W4.drew) := Lib.hid ⟨below_drew0 (Below.refl _ _), Beside.of_below (below_drew0 (Below.refl _ _))⟩
          have HE1 : Hid (Below bb W4 (W4.alloc (.cells #[.string ⟨#[103, 97, 116, 101]⟩, .string nm, .string ow, .string na, .string nb] 9)).drew ∧ Beside bb W4 (W4.alloc (.cells #[.string ⟨#[103, 97, 116, 101]⟩, .string nm, .string ow, .string na, .string nb] 9)).drew) := Lib.hid ⟨(below_drew0 (below1 W4 _)).mono hsz4, Beside.of_below (below_drew0 (below1 W4 _))⟩
          clear hwd hfp
          have hs2 : (⟨#[48, 49]⟩ : ByteArray).size = 2 := rfl
          have hwr1 : IntKind.i64.wrap 1 = 1 := by decide
          have hwr2 : IntKind.i64.wrap 2 = 2 := by decide
          go_upto_region 14 with (fail)
          clear c0
          go_region_held3 (fun w' => w'.cell? ⟨ob, 1, none⟩ = some (.string nm) ∧ w'.cell? ⟨ob, 2, none⟩ = some (.int .i64 (oq : Int)) ∧ w'.cell? ⟨ob, 3, none⟩ = some (.int .i64 (qa : Int)) ∧ w'.cell? ⟨ob, 4, none⟩ = some (.int .i64 (qb : Int)) ∧ w'.cell? ⟨0, oq, none⟩ = some (.string ow))
            (first | exact HKS.out _ HE0.out.1 HE0.out.2 | exact HKS.out _ HE1.out.1 HE1.out.2 | exact HKS.out _ HE2.out.1 HE2.out.2)
            (first
              | ((go_at_call 26; with_reducible refine hcqa.mono ?_; rintro e w5 ⟨rfl, rfl⟩))
              | ((go_at_call 26; with_reducible refine hcqb.mono ?_; rintro e w5 ⟨rfl, rfl⟩))
              | ((go_at_call 23; with_reducible refine hcall.mono ?_; rintro e w5 ⟨rfl, hbl5, hb5, hk5⟩; have HE2 := Lib.hid (And.intro hb5 hk5); have HBN := Lib.hid hbl5; clear hbl5 hk5)))
          all_goals
            have HDN := Lib.hid (by rw [← HBB.out] at hb5; exact HD1.out.trans hb5 : Below w2.heap.size w2 w5)
            clear hb5
            go_wp2
            go_roundw
            case rel => exact ⟨k + 1, by omega, by go_num, HBN, HDN⟩
            case measure => simp [intOf]; omega
        by_cases k4 : kd = 4
        · subst k4
          unfold FieldsP PlaceP at hfp
          dsimp only at hfp
          obtain ⟨qa, eqa⟩ : ∃ q : Nat, a = (q : Int) := ⟨a.toNat, by omega⟩
          subst eqa
          have hqa : qa < n := by omega
          obtain ⟨na, hna⟩ : ∃ x, nmOf cc.gs (qa : Int) = x := ⟨_, rfl⟩
          have hcqa : Calls Tryd.prog 26 #[.int .i64 (qa : Int), .pointer (some ⟨bx, 0, none⟩)] W4.drew fun e w' => e = .returned (.string na) ∧ w' = W4.drew := by
            have hx := HXW.out W4.drew (below_drew0 HD1.out)
            rw [← hna]
            exact name_any bx qa n m ca cb cc.name cc.gs _ B W4.drew hx.1 hx.2.1 HN.out hqa
          obtain ⟨qb, eqb⟩ : ∃ q : Nat, b = (q : Int) := ⟨b.toNat, by omega⟩
          subst eqb
          have hqb : qb < n := by omega
          obtain ⟨nb, hnb⟩ : ∃ x, nmOf cc.gs (qb : Int) = x := ⟨_, rfl⟩
          have hcqb : Calls Tryd.prog 26 #[.int .i64 (qb : Int), .pointer (some ⟨bx, 0, none⟩)] W4.drew fun e w' => e = .returned (.string nb) ∧ w' = W4.drew := by
            have hx := HXW.out W4.drew (below_drew0 HD1.out)
            rw [← hnb]
            exact name_any bx qb n m ca cb cc.name cc.gs _ B W4.drew hx.1 hx.2.1 HN.out hqb
          obtain ⟨qc, eqc⟩ : ∃ q : Nat, cx = (q : Int) := ⟨cx.toNat, by omega⟩
          subst eqc
          have hqc : qc < n := by omega
          obtain ⟨nc, hnc⟩ : ∃ x, nmOf cc.gs (qc : Int) = x := ⟨_, rfl⟩
          have hcqc : Calls Tryd.prog 26 #[.int .i64 (qc : Int), .pointer (some ⟨bx, 0, none⟩)] W4.drew fun e w' => e = .returned (.string nc) ∧ w' = W4.drew := by
            have hx := HXW.out W4.drew (below_drew0 HD1.out)
            rw [← hnc]
            exact name_any bx qc n m ca cb cc.name cc.gs _ B W4.drew hx.1 hx.2.1 HN.out hqc
          have hwd : wordsG cc.gs ⟨4, nm, op, (qa : Int), (qb : Int), (qc : Int)⟩ = [⟨#[109, 117, 120]⟩, nm, na, nb, nc] := by
            unfold wordsG
            simp [hna, hnb, hnc]
            first | rfl | exact ⟨rfl, rfl⟩
          have hcall : Calls Tryd.prog 23 #[.slice (some ⟨W4.heap.size, 0, none⟩) 5 5, .pointer (some ⟨bb, 0, none⟩)] (W4.alloc (.cells #[.string ⟨#[109, 117, 120]⟩, .string nm, .string na, .string nb, .string nc] 9)).drew fun e w' => e = .returned (.tuple #[]) ∧ BldAt bb bb (Lib.byteCells (hd ++ gatesL cc.gs (k + 1))) w' ∧ Below bb W4 w' ∧ Beside bb W4 w' := by
            rw [HBS.out]
            have hws := HW4.out.1
            rw [hwd] at hws ⊢
            exact (line_lit bb bb 5 [⟨#[109, 117, 120]⟩, nm, na, nb, nc] bs W4.drew HBL1.out rfl (by omega) hws (by omega) hsz4).mono fun e w' ⟨h1, h2, h3, h4⟩ => ⟨h1, h2, (below_drew0 (Below.refl bb W4)).trans h3, (Beside.of_below (below_drew0 (Below.refl _ _))).trans h4⟩
          have HKS : Hid (∀ W, Below bb W4 W → Beside bb W4 W → W.cell? ⟨ob, 1, none⟩ = some (.string nm) ∧ W.cell? ⟨ob, 3, none⟩ = some (.int .i64 (qa : Int)) ∧ W.cell? ⟨ob, 4, none⟩ = some (.int .i64 (qb : Int)) ∧ W.cell? ⟨ob, 5, none⟩ = some (.int .i64 (qc : Int))) := Lib.hid fun W hW hK => by
            have h1 := hK.blk HG1.out HOB.out (by decide)
            exact ⟨(h1.cell 1).trans rfl, (h1.cell 3).trans rfl, (h1.cell 4).trans rfl, (h1.cell 5).trans rfl⟩
          have HE0 : Hid (Below bb W4 W4.drew ∧ Beside bb W4 W4.drew) := Lib.hid ⟨below_drew0 (Below.refl _ _), Beside.of_below (below_drew0 (Below.refl _ _))⟩
          have HE1 : Hid (Below bb W4 (W4.alloc (.cells #[.string ⟨#[109, 117, 120]⟩, .string nm, .string na, .string nb, .string nc] 9)).drew ∧ Beside bb W4 (W4.alloc (.cells #[.string ⟨#[109, 117, 120]⟩, .string nm, .string na, .string nb, .string nc] 9)).drew) := Lib.hid ⟨(below_drew0 (below1 W4 _)).mono hsz4, Beside.of_below (below_drew0 (below1 W4 _))⟩
          clear hwd hfp
          have hs2 : (⟨#[48, 49]⟩ : ByteArray).size = 2 := rfl
          have hwr1 : IntKind.i64.wrap 1 = 1 := by decide
          have hwr2 : IntKind.i64.wrap 2 = 2 := by decide
          go_upto_region 16 with (fail)
          clear c0
          go_region_held3 (fun w' => w'.cell? ⟨ob, 1, none⟩ = some (.string nm) ∧ w'.cell? ⟨ob, 3, none⟩ = some (.int .i64 (qa : Int)) ∧ w'.cell? ⟨ob, 4, none⟩ = some (.int .i64 (qb : Int)) ∧ w'.cell? ⟨ob, 5, none⟩ = some (.int .i64 (qc : Int)))
            (first | exact HKS.out _ HE0.out.1 HE0.out.2 | exact HKS.out _ HE1.out.1 HE1.out.2 | exact HKS.out _ HE2.out.1 HE2.out.2)
            (first
              | ((go_at_call 26; with_reducible refine hcqa.mono ?_; rintro e w5 ⟨rfl, rfl⟩))
              | ((go_at_call 26; with_reducible refine hcqb.mono ?_; rintro e w5 ⟨rfl, rfl⟩))
              | ((go_at_call 26; with_reducible refine hcqc.mono ?_; rintro e w5 ⟨rfl, rfl⟩))
              | ((go_at_call 23; with_reducible refine hcall.mono ?_; rintro e w5 ⟨rfl, hbl5, hb5, hk5⟩; have HE2 := Lib.hid (And.intro hb5 hk5); have HBN := Lib.hid hbl5; clear hbl5 hk5)))
          all_goals
            have HDN := Lib.hid (by rw [← HBB.out] at hb5; exact HD1.out.trans hb5 : Below w2.heap.size w2 w5)
            clear hb5
            go_wp2
            go_roundw
            case rel => exact ⟨k + 1, by omega, by go_num, HBN, HDN⟩
            case measure => simp [intOf]; omega
        have k3 : kd = 3 := by unfold FieldsP at hfp; dsimp only at hfp; omega
        by_cases ko : op = 0
        · subst k3 ko
          unfold FieldsP PlaceP at hfp
          dsimp only at hfp
          obtain ⟨qa, eqa⟩ : ∃ q : Nat, a = (q : Int) := ⟨a.toNat, by omega⟩
          subst eqa
          have hqa : qa < n := by omega
          obtain ⟨na, hna⟩ : ∃ x, nmOf cc.gs (qa : Int) = x := ⟨_, rfl⟩
          have hcqa : Calls Tryd.prog 26 #[.int .i64 (qa : Int), .pointer (some ⟨bx, 0, none⟩)] W4.drew fun e w' => e = .returned (.string na) ∧ w' = W4.drew := by
            have hx := HXW.out W4.drew (below_drew0 HD1.out)
            rw [← hna]
            exact name_any bx qa n m ca cb cc.name cc.gs _ B W4.drew hx.1 hx.2.1 HN.out hqa
          have hwd : wordsG cc.gs ⟨3, nm, 0, (qa : Int), b, cx⟩ = [⟨#[108, 97, 116, 99, 104]⟩, nm, ⟨#[48]⟩, na] := by
            unfold wordsG
            simp [hna]
            first | rfl | exact ⟨rfl, rfl⟩
          have hcall : Calls Tryd.prog 23 #[.slice (some ⟨W4.heap.size, 0, none⟩) 4 4, .pointer (some ⟨bb, 0, none⟩)] (W4.alloc (.cells #[.string ⟨#[108, 97, 116, 99, 104]⟩, .string nm, .string ((⟨#[48, 49]⟩ : ByteArray).extract 0 1), .string na] 9)).drew fun e w' => e = .returned (.tuple #[]) ∧ BldAt bb bb (Lib.byteCells (hd ++ gatesL cc.gs (k + 1))) w' ∧ Below bb W4 w' ∧ Beside bb W4 w' := by
            rw [HBS.out]
            have hws := HW4.out.1
            rw [hwd] at hws ⊢
            exact (line_lit bb bb 4 [⟨#[108, 97, 116, 99, 104]⟩, nm, ⟨#[48]⟩, na] bs W4.drew HBL1.out rfl (by omega) hws (by omega) hsz4).mono fun e w' ⟨h1, h2, h3, h4⟩ => ⟨h1, h2, (below_drew0 (Below.refl bb W4)).trans h3, (Beside.of_below (below_drew0 (Below.refl _ _))).trans h4⟩
          have HKS : Hid (∀ W, Below bb W4 W → Beside bb W4 W → W.cell? ⟨ob, 1, none⟩ = some (.string nm) ∧ W.cell? ⟨ob, 2, none⟩ = some (.int .i64 0) ∧ W.cell? ⟨ob, 3, none⟩ = some (.int .i64 (qa : Int))) := Lib.hid fun W hW hK => by
            have h1 := hK.blk HG1.out HOB.out (by decide)
            exact ⟨(h1.cell 1).trans rfl, (h1.cell 2).trans rfl, (h1.cell 3).trans rfl⟩
          have HE0 : Hid (Below bb W4 W4.drew ∧ Beside bb W4 W4.drew) := Lib.hid ⟨below_drew0 (Below.refl _ _), Beside.of_below (below_drew0 (Below.refl _ _))⟩
          have HE1 : Hid (Below bb W4 (W4.alloc (.cells #[.string ⟨#[108, 97, 116, 99, 104]⟩, .string nm, .string ((⟨#[48, 49]⟩ : ByteArray).extract 0 1), .string na] 9)).drew ∧ Beside bb W4 (W4.alloc (.cells #[.string ⟨#[108, 97, 116, 99, 104]⟩, .string nm, .string ((⟨#[48, 49]⟩ : ByteArray).extract 0 1), .string na] 9)).drew) := Lib.hid ⟨(below_drew0 (below1 W4 _)).mono hsz4, Beside.of_below (below_drew0 (below1 W4 _))⟩
          clear hwd hfp
          have hs2 : (⟨#[48, 49]⟩ : ByteArray).size = 2 := rfl
          have hwr1 : IntKind.i64.wrap 1 = 1 := by decide
          have hwr2 : IntKind.i64.wrap 2 = 2 := by decide
          go_upto_region 18 with (fail)
          clear c0
          go_region_held3 (fun w' => w'.cell? ⟨ob, 1, none⟩ = some (.string nm) ∧ w'.cell? ⟨ob, 2, none⟩ = some (.int .i64 0) ∧ w'.cell? ⟨ob, 3, none⟩ = some (.int .i64 (qa : Int)))
            (first | exact HKS.out _ HE0.out.1 HE0.out.2 | exact HKS.out _ HE1.out.1 HE1.out.2 | exact HKS.out _ HE2.out.1 HE2.out.2)
            (first
              | ((go_at_call 26; with_reducible refine hcqa.mono ?_; rintro e w5 ⟨rfl, rfl⟩))
              | ((go_at_call 23; with_reducible refine hcall.mono ?_; rintro e w5 ⟨rfl, hbl5, hb5, hk5⟩; have HE2 := Lib.hid (And.intro hb5 hk5); have HBN := Lib.hid hbl5; clear hbl5 hk5)))
          all_goals
            have HDN := Lib.hid (by rw [← HBB.out] at hb5; exact HD1.out.trans hb5 : Below w2.heap.size w2 w5)
            clear hb5
            go_wp2
            go_roundw
            case rel => exact ⟨k + 1, by omega, by go_num, HBN, HDN⟩
            case measure => simp [intOf]; omega
        have ko1 : op = 1 := by unfold FieldsP at hfp; dsimp only at hfp; omega
        · subst k3 ko1
          unfold FieldsP PlaceP at hfp
          dsimp only at hfp
          obtain ⟨qa, eqa⟩ : ∃ q : Nat, a = (q : Int) := ⟨a.toNat, by omega⟩
          subst eqa
          have hqa : qa < n := by omega
          obtain ⟨na, hna⟩ : ∃ x, nmOf cc.gs (qa : Int) = x := ⟨_, rfl⟩
          have hcqa : Calls Tryd.prog 26 #[.int .i64 (qa : Int), .pointer (some ⟨bx, 0, none⟩)] W4.drew fun e w' => e = .returned (.string na) ∧ w' = W4.drew := by
            have hx := HXW.out W4.drew (below_drew0 HD1.out)
            rw [← hna]
            exact name_any bx qa n m ca cb cc.name cc.gs _ B W4.drew hx.1 hx.2.1 HN.out hqa
          have hwd : wordsG cc.gs ⟨3, nm, 1, (qa : Int), b, cx⟩ = [⟨#[108, 97, 116, 99, 104]⟩, nm, ⟨#[49]⟩, na] := by
            unfold wordsG
            simp [hna]
            first | rfl | exact ⟨rfl, rfl⟩
          have hcall : Calls Tryd.prog 23 #[.slice (some ⟨W4.heap.size, 0, none⟩) 4 4, .pointer (some ⟨bb, 0, none⟩)] (W4.alloc (.cells #[.string ⟨#[108, 97, 116, 99, 104]⟩, .string nm, .string ((⟨#[48, 49]⟩ : ByteArray).extract 1 2), .string na] 9)).drew fun e w' => e = .returned (.tuple #[]) ∧ BldAt bb bb (Lib.byteCells (hd ++ gatesL cc.gs (k + 1))) w' ∧ Below bb W4 w' ∧ Beside bb W4 w' := by
            rw [HBS.out]
            have hws := HW4.out.1
            rw [hwd] at hws ⊢
            exact (line_lit bb bb 4 [⟨#[108, 97, 116, 99, 104]⟩, nm, ⟨#[49]⟩, na] bs W4.drew HBL1.out rfl (by omega) hws (by omega) hsz4).mono fun e w' ⟨h1, h2, h3, h4⟩ => ⟨h1, h2, (below_drew0 (Below.refl bb W4)).trans h3, (Beside.of_below (below_drew0 (Below.refl _ _))).trans h4⟩
          have HKS : Hid (∀ W, Below bb W4 W → Beside bb W4 W → W.cell? ⟨ob, 1, none⟩ = some (.string nm) ∧ W.cell? ⟨ob, 2, none⟩ = some (.int .i64 1) ∧ W.cell? ⟨ob, 3, none⟩ = some (.int .i64 (qa : Int))) := Lib.hid fun W hW hK => by
            have h1 := hK.blk HG1.out HOB.out (by decide)
            exact ⟨(h1.cell 1).trans rfl, (h1.cell 2).trans rfl, (h1.cell 3).trans rfl⟩
          have HE0 : Hid (Below bb W4 W4.drew ∧ Beside bb W4 W4.drew) := Lib.hid ⟨below_drew0 (Below.refl _ _), Beside.of_below (below_drew0 (Below.refl _ _))⟩
          have HE1 : Hid (Below bb W4 (W4.alloc (.cells #[.string ⟨#[108, 97, 116, 99, 104]⟩, .string nm, .string ((⟨#[48, 49]⟩ : ByteArray).extract 1 2), .string na] 9)).drew ∧ Beside bb W4 (W4.alloc (.cells #[.string ⟨#[108, 97, 116, 99, 104]⟩, .string nm, .string ((⟨#[48, 49]⟩ : ByteArray).extract 1 2), .string na] 9)).drew) := Lib.hid ⟨(below_drew0 (below1 W4 _)).mono hsz4, Beside.of_below (below_drew0 (below1 W4 _))⟩
          clear hwd hfp
          have hs2 : (⟨#[48, 49]⟩ : ByteArray).size = 2 := rfl
          have hwr1 : IntKind.i64.wrap 1 = 1 := by decide
          have hwr2 : IntKind.i64.wrap 2 = 2 := by decide
          go_upto_region 18 with (fail)
          clear c0
          go_region_held3 (fun w' => w'.cell? ⟨ob, 1, none⟩ = some (.string nm) ∧ w'.cell? ⟨ob, 2, none⟩ = some (.int .i64 1) ∧ w'.cell? ⟨ob, 3, none⟩ = some (.int .i64 (qa : Int)))
            (first | exact HKS.out _ HE0.out.1 HE0.out.2 | exact HKS.out _ HE1.out.1 HE1.out.2 | exact HKS.out _ HE2.out.1 HE2.out.2)
            (first
              | ((go_at_call 26; with_reducible refine hcqa.mono ?_; rintro e w5 ⟨rfl, rfl⟩))
              | ((go_at_call 23; with_reducible refine hcall.mono ?_; rintro e w5 ⟨rfl, hbl5, hb5, hk5⟩; have HE2 := Lib.hid (And.intro hb5 hk5); have HBN := Lib.hid hbl5; clear hbl5 hk5)))
          all_goals
            have HDN := Lib.hid (by rw [← HBB.out] at hb5; exact HD1.out.trans hb5 : Below w2.heap.size w2 w5)
            clear hb5
            go_wp2
            go_roundw
            case rel => exact ⟨k + 1, by omega, by go_num, HBN, HDN⟩
            case measure => simp [intOf]; omega
      · obtain rfl : k = n := by omega
        obtain ⟨hd2, hhd2⟩ : ∃ l, hd ++ gatesL cc.gs k = l := ⟨_, rfl⟩
        have hl2 : hd2.length ≤ 30000000 := by
          have := gatesL_len HF.out.net k (by rw [HN.out]; exact Nat.le_refl _)
          rw [← hhd2, List.length_append]
          omega
        rw [hhd2] at HBL
        have HH2 := Lib.hid hhd2
        have HBL6 : Hid (BldAt bb bb (Lib.byteCells (hd2 ++ otL cc.gs cc.outs 0)) wr) := Lib.hid (by rw [otL_zero, List.append_nil]; exact HBL.out)
        have HD6 := HD
        have x2 : wr.cell? ⟨bx, 2, none⟩ = some (.slice B m cb) := ((HXW.out wr HD.out).1.cell 2).trans rfl
        clear hhd2 hlt hk
        go_upto_region 21 with (fail)
        clear x2 HBL HD
        go_loopw [96] (fun s96 wq => ∃ j : Nat, j ≤ m ∧ s96 = .int .i64 j ∧ Hid (BldAt bb bb (Lib.byteCells (hd2 ++ otL cc.gs cc.outs j)) wq) ∧ Hid (Below w2.heap.size w2 wq)) (fun s96 _ => m - (intOf s96).toNat)
        case atStart => exact ⟨0, by omega, rfl, HBL6, HD6⟩
        case round =>
          clear HBL6 HD6
          obtain ⟨j, hj, rfl, HBL, HD⟩ := hrel
          have hl3 : (hd2 ++ otL cc.gs cc.outs j).length ≤ 100000000 := by
            have := otL_len HF.out.net j (by rw [HM.out]; omega)
            rw [List.length_append]
            omega
          have HBW : Hid (bb ≤ wr.heap.size) := Lib.hid (Nat.le_of_lt HBL.out.lt)
          by_cases hlt : j < m
          · obtain ⟨p, hp⟩ : ∃ p, cc.outs[j]? = some p := ⟨_, List.getElem?_eq_getElem (by rw [HM.out]; exact hlt)⟩
            have hpp := HF.out.outs p (List.mem_of_getElem? hp)
            rw [HN.out] at hpp
            obtain ⟨pt, hpt⟩ : ∃ q : Nat, p = (q : Int) := ⟨p.toNat, by omega⟩
            subst hpt
            obtain ⟨gB, oB, e, hc1⟩ := (HXW.out wr HD.out).2.2.1.at_ hp
            subst e
            obtain ⟨np, hnp⟩ : ∃ x, nmOf cc.gs (pt : Int) = x := ⟨_, rfl⟩
            have hcn : Calls Tryd.prog 26 #[.int .i64 (pt : Int), .pointer (some ⟨bx, 0, none⟩)] wr fun e w' => e = .returned (.string np) ∧ w' = wr := by
              have hx := HXW.out wr HD.out
              rw [← hnp]
              exact name_any bx pt k m ca cb cc.name cc.gs A _ wr hx.1 hx.2.1 HN.out (by omega)
            have hcall : Calls Tryd.prog 23 #[.slice (some ⟨wr.heap.size, 0, none⟩) 2 2, .pointer (some ⟨bb, 0, none⟩)] (wr.alloc (.cells #[.string ⟨#[111, 117, 116, 112, 117, 116]⟩, .string np] 9)) fun e w' => e = .returned (.tuple #[]) ∧ BldAt bb bb (Lib.byteCells (hd2 ++ otL cc.gs cc.outs (j + 1))) w' ∧ Below bb wr w' ∧ Beside bb wr w' := by
              have hws := outW_size HF.out.net (pt : Int)
              rw [otL_succ hp, ← List.append_assoc, hnp]
              rw [hnp] at hws
              exact line_lit bb bb 2 [wOutput, np] _ wr HBL.out rfl (by omega) hws (by omega) HBW.out
            have hk0 : (0 : Int) ≤ (j : Int) := by omega
            have hkm : (j : Int) < (m : Int) := by omega
            clear hp hpp hnp hl3
            go_upto_region 24 with (first
              | ((go_at_call 26; with_reducible refine hcn.mono ?_; rintro e w5 ⟨rfl, rfl⟩))
              | ((go_at_call 23; with_reducible refine hcall.mono ?_; rintro e w6 ⟨rfl, hbl5, hb5, _⟩)))
            have HBN := Lib.hid hbl5
            have HDN := Lib.hid (by rw [← HBB.out] at hb5; exact HD.out.trans hb5 : Below w2.heap.size w2 w6)
            clear hcn hcall hbl5 hb5 HBL HD
            go_wp2
            go_roundw
            case rel => exact ⟨j + 1, by omega, by go_num, HBN, HDN⟩
            case measure => simp [intOf]; omega
          · obtain rfl : j = m := by omega
            have HTX : Hid (hd2 ++ otL cc.gs cc.outs j ++ lineL [wEnd] = textL cc) := Lib.hid (by
              unfold textL
              rw [← HH2.out, ← HHD.out, HN.out, HM.out])
            have hcall : Calls Tryd.prog 23 #[.slice (some ⟨wr.heap.size, 0, none⟩) 1 1, .pointer (some ⟨bb, 0, none⟩)] (wr.alloc (.cells #[.string ⟨#[101, 110, 100]⟩] 9)) fun e w' => e = .returned (.tuple #[]) ∧ BldAt bb bb (Lib.byteCells (textL cc)) w' ∧ Below bb wr w' ∧ Beside bb wr w' := by
              rw [← HTX.out]
              exact line_lit bb bb 1 [wEnd] _ wr HBL.out rfl (by omega) endW_size (by omega) HBW.out
            have htn : textL cc ≠ [] := by
              rw [← HTX.out]
              unfold lineL
              simp
            have HLE : Hid (∀ W, BldAt bb bb (Lib.byteCells (textL cc)) W → Calls Tryd.prog 27 #[.pointer (some ⟨bb, 0, none⟩)] W fun e w' => e = .returned (.int .i64 ((textL cc).length : Nat)) ∧ w' = W) := Lib.hid fun W hW => by
              have := bld_len bb bb _ W hW
              rwa [Lib.byteCells_length] at this
            have HST : Hid (∀ W, BldAt bb bb (Lib.byteCells (textL cc)) W → Calls Tryd.prog 28 #[.pointer (some ⟨bb, 0, none⟩)] W fun e w' => e = .returned (.string ⟨(textL cc).toArray⟩) ∧ Below bb W w') := Lib.hid fun W hW => bld_string bb bb _ W hW htn
            have HES : Hid (printE cc = if (textL cc).length ≤ 1048576 then 0 else 5) := Lib.hid (by unfold printE; rw [HFB.out, if_pos rfl])
            have HPS : Hid (printS cc = if printE cc = 0 then ⟨(textL cc).toArray⟩ else ⟨#[]⟩) := Lib.hid rfl
            obtain ⟨tx, htx⟩ : ∃ l, textL cc = l := ⟨_, rfl⟩
            rw [htx] at hcall HLE HST HES HPS
            obtain ⟨ln, hln⟩ : ∃ l, tx.length = l := ⟨_, rfl⟩
            rw [hln] at HLE HES
            clear HTX htn htx hl3 HBL hlt hj hl2
            by_cases hle : ln ≤ 1048576
            · rw [if_pos hle] at HES
              rw [HES.out, if_pos rfl] at HPS
              have hle2 : ¬ (1048576 : Int) < (ln : Int) := by omega
              go_upto_region 26 with (go_at_call 23; with_reducible refine hcall.mono ?_; rintro e w6 ⟨rfl, hbl5, hb5, _⟩)
              have hlen := HLE.out w6 hbl5
              have hstr := HST.out w6 hbl5
              have HDN := Lib.hid (by rw [← HBB.out] at hb5; exact HD.out.trans hb5 : Below w2.heap.size w2 w6)
              clear hcall hbl5 hb5 HLE HST HXW
              go_wp2_with (first
                | ((go_at_call 27; with_reducible refine hlen.mono ?_; rintro e w7 ⟨rfl, rfl⟩))
                | ((go_at_call 28; with_reducible refine hstr.mono ?_; rintro e w8 ⟨rfl, hb8⟩)))
              go_ret2
              refine ⟨by rw [HPS.out, HES.out]; rfl, below_self HB2.out (HDN.out.trans ?_)⟩
              rw [HBB.out]
              exact hb8
            · rw [if_neg hle] at HES
              rw [HES.out, if_neg (by decide)] at HPS
              have hle2 : (1048576 : Int) < (ln : Int) := by omega
              go_upto_region 26 with (go_at_call 23; with_reducible refine hcall.mono ?_; rintro e w6 ⟨rfl, hbl5, hb5, _⟩)
              have hlen := HLE.out w6 hbl5
              have HDN := Lib.hid (by rw [← HBB.out] at hb5; exact HD.out.trans hb5 : Below w2.heap.size w2 w6)
              clear hcall hbl5 hb5 HLE HST HXW
              go_wp2_with (first
                | ((go_at_call 27; with_reducible refine hlen.mono ?_; rintro e w7 ⟨rfl, rfl⟩)))
              go_ret2
              exact ⟨by rw [HPS.out, HES.out]; rfl, below_self HB2.out HDN.out⟩
end Go.Proofs.YtjkmoahnociaiaaDoor
