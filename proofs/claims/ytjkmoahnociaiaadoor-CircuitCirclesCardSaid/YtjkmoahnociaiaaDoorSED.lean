/- turned: each gate gets another operator, each latch another first value, where it stands; a copy of that. -/
import Derived.Test.YtjkmoahnociaiaaDoorXMD
import Derived.Deep.RegionHeld3
namespace Go.Proofs.YtjkmoahnociaiaaDoor
open Go.RowKit

theorem gcells_setq {v : Value} {q : Nat} (hq : q < 6) : ∀ {gs : List Gt} {i : Nat} {g g' : Gt}, gs[i]? = some g → g'.cells = g.cells.set q v → (gcells gs).set (i * 6 + q) v = gcells (gs.set i g')
  | [], i, g, g', h, _ => by simp at h
  | x :: l, 0, g, g', h, hc => by
    simp at h
    subst h
    rw [gcells_cons, List.set_append_left _ _ (by simp [Gt.cells]; omega), List.set_cons_zero, gcells_cons, hc, Nat.zero_mul, Nat.zero_add]
  | x :: l, i + 1, g, g', h, hc => by
    rw [gcells_cons, List.set_append_right _ _ (by simp [Gt.cells]; omega), List.set_cons_succ, gcells_cons]
    congr 1
    rw [← gcells_setq hq (gs := l) (i := i) (g := g) (by simpa using h) hc]
    congr 1
    simp [Gt.cells]
    omega
/-- A line's operator turned. -/
def turnO (g : Gt) : Gt := if g.kind = 2 ∨ g.kind = 3 then { g with op := bits BinOp.xor IntKind.i64 g.op 1 } else g
theorem turnO_cells {g : Gt} (h : g.kind = 2 ∨ g.kind = 3) : (turnO g).cells = g.cells.set 2 (.int .i64 (bits BinOp.xor IntKind.i64 g.op 1)) := by
  unfold turnO
  rw [if_pos h]
  rfl
def turnKO (gs : List Gt) (k : Nat) : List Gt := (gs.take k).map turnO ++ gs.drop k
theorem turnKO_length (gs : List Gt) (k : Nat) : (turnKO gs k).length = gs.length := by simp [turnKO]; omega
theorem turnKO_get {gs : List Gt} {k : Nat} {g : Gt} (hg : gs[k]? = some g) : (turnKO gs k)[k]? = some g := by
  have hk := (List.getElem?_eq_some_iff.1 hg).1
  unfold turnKO
  rw [List.getElem?_append_right (by simp; omega), List.length_map, List.length_take, Nat.min_eq_left (by omega), Nat.sub_self, List.getElem?_drop, Nat.add_zero]
  exact hg
theorem turnKO_succ {gs : List Gt} {k : Nat} {g : Gt} (hg : gs[k]? = some g) : turnKO gs (k + 1) = (turnKO gs k).set k (turnO g) := by
  have hk := (List.getElem?_eq_some_iff.1 hg).1
  have hg2 : gs[k] = g := (List.getElem?_eq_some_iff.1 hg).2
  unfold turnKO
  rw [List.set_append_right _ _ (by simp; omega), List.length_map, List.length_take, Nat.min_eq_left (by omega), Nat.sub_self, List.drop_eq_getElem_cons hk, List.set_cons_zero, List.take_add_one, hg, List.map_append]
  simp
theorem turnKO_same {gs : List Gt} {k : Nat} {g : Gt} (hg : gs[k]? = some g) (h2 : ¬ g.kind = 2) (h4 : ¬ g.kind = 3) : turnKO gs (k + 1) = turnKO gs k := by
  rw [turnKO_succ hg]
  have : turnO g = g := by unfold turnO; rw [if_neg (by omega)]
  rw [this]
  apply List.ext_getElem?
  intro j
  rw [List.getElem?_set]
  split
  · rename_i e
    subst e
    rw [if_pos (List.getElem?_eq_some_iff.1 (turnKO_get hg)).1, turnKO_get hg]
  · rfl
theorem turnKO_zero (gs : List Gt) : turnKO gs 0 = gs := by simp [turnKO]
theorem turnKO_all {gs : List Gt} {n : Nat} (h : gs.length = n) : turnKO gs n = gs.map turnO := by subst h; simp [turnKO]
theorem turnO_size {c : Ct} (h : SizeP c) : SizeP ⟨c.name, c.gs.map turnO, c.outs⟩ :=
  ⟨h.name, fun g hg => by
    obtain ⟨g0, hg0, rfl⟩ := List.mem_map.1 hg
    have := h.names g0 hg0
    unfold turnO
    split <;> exact this, by have := h.gl; simpa using this, h.ol⟩
/-- What turned leaves. -/
def TurnedR (w : World) (base : Nat) (A B : Option Addr) (n m ca cb : Nat) (name : ByteArray) (gs : List Gt) (outs : List Int) (e : Ending) (w' : World) : Prop :=
  ∃ A20 A21 c20 c21, e = .returned (.agg #[.string name, .slice A20 n c20, .slice A21 m c21]) ∧ Hid (TwinAt w' base A B n m ca cb (gs.map turnO) outs) ∧ Hid (w'.ownsRow w.heap.size 46 6 (.slice A20 n c20) n (gcells (gs.map turnO))) ∧ Hid (w'.ownsRow w.heap.size 3 1 (.slice A21 m c21) m (nums .i64 outs)) ∧ w.grownBy w' (A.map (·.block))
set_option maxRecDepth 100000 in
set_option maxHeartbeats 4000000 in
theorem turned_any (base : Nat) (A B : Option Addr) (n m ca cb : Nat) (name : ByteArray) (gs : List Gt) (outs : List Int) (w : World) (hT : TwinAt w base A B n m ca cb gs outs) (hn1 : (n + 2) * 56 ≤ 140737488355328) (hm1 : (m + 2) * 8 ≤ 140737488355328) :
    Calls Tryd.prog 13 #[.agg #[.string name, .slice A n ca, .slice B m cb]] w (TurnedR w base A B n m ca cb name gs outs) := by
  have hbl := below2 w (.cells #[.string name, .slice A n ca, .slice B m cb] 25) (.cells #[.string ByteArray.empty, .slice none 0 0, .slice none 0 0] 25)
  have HT := Lib.hid (hT.below hbl)
  have HB0 := Lib.hid hbl
  have HX := Lib.hid ((Blk.new w 25 [.string name, .slice A n ca, .slice B m cb]).alloc (.cells #[.string ByteArray.empty, .slice none 0 0, .slice none 0 0] 25))
  have HX' := Lib.hid (blk_new2 w (.cells #[.string name, .slice A n ca, .slice B m cb] 25) 25 [.string ByteArray.empty, .slice none 0 0, .slice none 0 0])
  have HN := Lib.hid hT.gl; have HM := Lib.hid hT.ol
  have HWS := Lib.hid hT
  clear hT hbl
  go_enter Tryd.func13, Tryd.ntmps13
  go_upto_region 1 with (fail)
  change Code.wp _ _ _ _ ((w.alloc (.cells #[.string name, .slice A n ca, .slice B m cb] 25)).alloc (.cells #[.string ByteArray.empty, .slice none 0 0, .slice none 0 0] 25))
  generalize (w.alloc (.cells #[.string name, .slice A n ca, .slice B m cb] 25)).alloc (.cells #[.string ByteArray.empty, .slice none 0 0, .slice none 0 0] 25) = W1 at *
  obtain ⟨bx, hbx⟩ : ∃ bx, w.heap.size = bx := ⟨_, rfl⟩
  rw [hbx] at HX HX' ⊢
  have HBS := Lib.hid hbx
  clear hbx
  obtain ⟨gA, gB, rfl, rfl, hgA, hgA2, hgB, hgB2, hcA, hcB⟩ := HT.out.form
  have HLA : Hid (gA < w.heap.size) := Lib.hid (World.ownsRow.lt HWS.out.g gA rfl).2
  have HLB : Hid (gB < w.heap.size) := Lib.hid (World.ownsRow.lt HWS.out.o gB rfl).2
  have HTg : Hid (W1.ownsRow base 46 6 (.slice (some ⟨gA, 0, none⟩) (n + 2) ca) (n + 2) (gcells (turnKO gs 0 ++ [room, room]))) := Lib.hid (by rw [turnKO_zero]; exact HT.out.g)
  have HTo : Hid (Owns W1 base 3 (.slice (some ⟨gB, 0, none⟩) (m + 2) cb) (nums .i64 (outs ++ [77, 78]))) := Lib.hid HT.out.o
  have HG0 : Hid (w.grownBy W1 (some gA)) := Lib.hid (only_of_below HB0.out (some gA))
  clear HT HWS HB0
  go_upto_region 2 with (fail)
  go_loopw [3] (fun s3 wr => ∃ k : Nat, k ≤ n ∧ s3 = .int .i64 k ∧ Hid (wr.ownsRow base 46 6 (.slice (some ⟨gA, 0, none⟩) (n + 2) ca) (n + 2) (gcells (turnKO gs k ++ [room, room]))) ∧ Hid (Owns wr base 3 (.slice (some ⟨gB, 0, none⟩) (m + 2) cb) (nums .i64 (outs ++ [77, 78]))) ∧ Hid (Blk wr bx 25 [.string name, .slice (some ⟨gA, 0, none⟩) n ca, .slice (some ⟨gB, 0, none⟩) m cb]) ∧ Hid (Blk wr (bx + 1) 25 [.string ByteArray.empty, .slice none 0 0, .slice none 0 0]) ∧ Hid (w.grownBy wr (some gA))) (fun s3 _ => n - (intOf s3).toNat)
  case atStart => exact ⟨0, by omega, rfl, HTg, HTo, HX, HX', HG0⟩
  case round =>
    clear HTg HTo HX HX' HG0
    obtain ⟨k, hk, rfl, HTg, HTo, HX, HX', HG⟩ := hrel
    have x1 : wr.cell? ⟨bx, 1, none⟩ = some (.slice (some ⟨gA, 0, none⟩) n ca) := (HX.out.cell 1).trans rfl
    by_cases hlt : k < n
    · obtain ⟨g, hg⟩ : ∃ g, gs[k]? = some g := ⟨_, List.getElem?_eq_getElem (by rw [HN.out]; exact hlt)⟩
      have hG : (turnKO gs k ++ [room, room])[k]? = some g := by
        rw [List.getElem?_append_left (by rw [turnKO_length, HN.out]; exact hlt)]
        exact turnKO_get hg
      obtain ⟨A7, c7, e7, hr7, _⟩ := rows_cells HTg.out (by decide)
      cases e7
      obtain ⟨b8, o8, e8, hc8⟩ := greads_at hr7 hG
      cases e8
      obtain ⟨c0, _, c2, _⟩ := hc8
      rw [Nat.zero_add] at c0 c2
      have hk0 : (0 : Int) ≤ (k : Int) := by omega
      have hkn : (k : Int) < (n : Int) := by omega
      clear hr7
      by_cases h2 : g.kind = 2 ∨ g.kind = 3
      · obtain ⟨xo, hxo⟩ : ∃ xo, bits BinOp.xor IntKind.i64 g.op 1 = xo := ⟨_, rfl⟩
        obtain ⟨_, e, hcl, hz, hrow⟩ := rows_store HTg.out (i := k * 6 + 2) (by rw [gcells_length, List.length_append, turnKO_length, HN.out]; simp; omega) (.int .i64 xo)
        cases e
        clear hcl
        rw [gcells_setq (by decide) hG (by rw [turnO_cells h2, hxo]), List.set_append_left _ _ (by rw [turnKO_length, HN.out]; exact hlt), ← turnKO_succ hg] at hrow
        have HR := Lib.hid hrow
        have hon := only_setCell (only_refl wr (some gA)) (p := ⟨gA, k * 6 + 2, none⟩) (.inl rfl) (.int .i64 xo)
        have HO := Lib.hid (HTo.out.aside (rows_typed HTg.out (g := gA) rfl) (by decide) hon)
        have HXn := Lib.hid (HX.out.aside (rows_typed HTg.out (g := gA) rfl) (by decide) hon)
        have HXn' := Lib.hid (HX'.out.aside (rows_typed HTg.out (g := gA) rfl) (by decide) hon)
        have HB := Lib.hid (only_trans HG.out hon)
        obtain ⟨op, hop⟩ : ∃ op, g.op = op := ⟨_, rfl⟩
        rw [hop] at c2 hxo
        clear hon hrow hG hg hop
        by_cases h3 : g.kind = 2
        · rw [h3] at c0
          go_upto_region 5 with (fail)
          go_region_with (fail)
          all_goals
            go_wp2
            go_roundw
            case rel => exact ⟨k + 1, by omega, by go_num, HR, HO, HXn, HXn', Lib.hid (only_drewN HB.out _)⟩
            case measure => simp [intOf]; omega
        · have h4 : g.kind = 3 := by omega
          rw [h4] at c0
          go_upto_region 5 with (fail)
          go_region_with (fail)
          all_goals
            go_wp2
            go_roundw
            case rel => exact ⟨k + 1, by omega, by go_num, HR, HO, HXn, HXn', Lib.hid (only_drewN HB.out _)⟩
            case measure => simp [intOf]; omega
      · have HR : Hid (wr.ownsRow base 46 6 (.slice (some ⟨gA, 0, none⟩) (n + 2) ca) (n + 2) (gcells (turnKO gs (k + 1) ++ [room, room]))) := Lib.hid (by rw [turnKO_same hg (by omega) (by omega)]; exact HTg.out)
        have h3 : (g.kind == 2) = false := by simp; omega
        have h4 : (g.kind == 3) = false := by simp; omega
        have h5 : ¬ g.kind = 2 := by omega
        have h6 : ¬ g.kind = 3 := by omega
        clear hG hg h2
        go_wp2
        go_roundw
        case rel => exact ⟨k + 1, by omega, by go_num, HR, HTo, HX, HX', HG⟩
        case measure => simp [intOf]; omega
    · obtain rfl : k = n := by omega
      rw [turnKO_all HN.out] at HTg
      have HG2 : Hid (∀ W, Below wr.heap.size wr W → CReads W (some ⟨gA, 0, none⟩) (gcells (gs.map turnO))) := Lib.hid (fun W hW => by
        obtain ⟨A7, c7, e7, hr7, _⟩ := rows_cells (rows_below HTg.out hW) (by decide)
        cases e7
        rw [gcells_append] at hr7
        exact hr7.front)
      have HO2 : Hid (∀ W, Below wr.heap.size wr W → CReads W (some ⟨gB, 0, none⟩) (nums .i64 outs)) := Lib.hid (fun W hW => by
        obtain ⟨A7, c7, e7, hr7, _⟩ := rows_cells (HTo.out.below hW) (by decide)
        simp only [Value.slice.injEq] at e7
        rw [← e7.1, nums_append] at hr7
        exact hr7.front)
      have HK2 : Hid (∀ W, Below wr.heap.size wr W → W.cell? ⟨bx, 0, none⟩ = some (.string name) ∧ W.cell? ⟨bx, 1, none⟩ = some (.slice (some ⟨gA, 0, none⟩) k ca) ∧ W.cell? ⟨bx, 2, none⟩ = some (.slice (some ⟨gB, 0, none⟩) m cb) ∧ Below wr.heap.size wr W) := Lib.hid (fun W hW => ⟨((HX.out.self hW).cell 0).trans rfl, ((HX.out.self hW).cell 1).trans rfl, ((HX.out.self hW).cell 2).trans rfl, hW⟩)
      have hk0 := HK2.out wr (Below.refl _ _)
      have hgl : (gcells (gs.map turnO)).length = k * 6 := by rw [gcells_length, List.length_map, HN.out]
      have hol : (nums .i64 outs).length = m * 1 := by rw [nums_length, HM.out, Nat.mul_one]
      have hHGL := Lib.hid (And.intro hgl hol)
      clear hgl hol x1 hlt hk
      have hne : bx ≠ bx + 1 := by omega
      go_upto_region 6 with (fail)
      go_region_held3 (fun w' => w'.cell? ⟨bx, 0, none⟩ = some (.string name) ∧ w'.cell? ⟨bx, 1, none⟩ = some (.slice (some ⟨gA, 0, none⟩) k ca) ∧ w'.cell? ⟨bx, 2, none⟩ = some (.slice (some ⟨gB, 0, none⟩) m cb))
        (first | exact ⟨hk0.1, hk0.2.1, hk0.2.2.1⟩ | exact ⟨(HK2.out _ hW20).1, (HK2.out _ hW20).2.1, (HK2.out _ hW20).2.2.1⟩ | exact ⟨(HK2.out _ hW21).1, (HK2.out _ hW21).2.1, (HK2.out _ hW21).2.2.1⟩ | exact (fun (h : Blk _ bx 25 [.string name, .slice (some ⟨gA, 0, none⟩) k ca, .slice (some ⟨gB, 0, none⟩) m cb]) => ⟨(h.cell 0).trans rfl, (h.cell 1).trans rfl, (h.cell 2).trans rfl⟩) ((((HX.out.self hW21).far (p := ⟨bx + 1, 0, none⟩) hne _).far (p := ⟨bx + 1, 1, none⟩) hne _).far (p := ⟨bx + 1, 2, none⟩) hne _))
        (first
          | (((try go_split_ands); refine step_copyOf rfl (.tmp 42) 22 ?ho 46 _ 6 56 Tryd.underlying22 info_gate rfl (by decide) (some ⟨gA, 0, none⟩) k ca (gcells (gs.map turnO)) ?hx ?hr hHGL.out.1 (fun u hu => gcells_one hu) ?h1 ?h2 ?_; (case ho => rfl); (case hx => simp [Act.eval, Act.put]); (case hr => exact HG2.out _ (below_drew0 (Below.refl _ _))); (case h1 => unfold maxLen; omega); (case h2 => omega); intro A20 c20 w20 HR20 hb20; have hW20 : Below wr.heap.size wr w20 := below_self (below_drew0 (Below.refl _ _)) hb20))
          | (((try go_split_ands); refine step_copyOf rfl (.tmp 45) 23 ?ko 3 _ 1 8 Tryd.underlying23 info_int rfl (by decide) (some ⟨gB, 0, none⟩) m cb (nums .i64 outs) ?kx ?kr hHGL.out.2 (fun u hu => nums_one u hu) ?k1 ?k2 ?_; (case ko => rfl); (case kx => simp [Act.eval, Act.put]); (case kr => exact HO2.out _ hW20); (case k1 => unfold maxLen; omega); (case k2 => omega); intro A21 c21 w21 HR21 hb21; have hW21 : Below wr.heap.size wr w21 := below_self hW20 hb21; have hB21 := HX'.out.self hW21; have s0 := (hB21.cell 0).trans rfl; have s1 := (hB21.cell 1).trans rfl; have s2 := (hB21.cell 2).trans rfl; have f0 := hB21.frozen 0; have f1 := hB21.frozen 1; have f2 := hB21.frozen 2)))
      all_goals
        have hB8 := ((hB21.set_ 0 (.string name)).set_ 1 (.slice A20 k c20)).set_ 2 (.slice A21 m c21)
        have r0 := Lib.hid ((hB8.cell 0).trans rfl)
        have r1 := Lib.hid ((hB8.cell 1).trans rfl)
        have r2 := Lib.hid ((hB8.cell 2).trans rfl)
        have HTW : Hid (TwinAt (((w21.setCell ⟨bx + 1, 0, none⟩ (.string name)).setCell ⟨bx + 1, 1, none⟩ (.slice A20 k c20)).setCell ⟨bx + 1, 2, none⟩ (.slice A21 m c21)) base (some ⟨gA, 0, none⟩) (some ⟨gB, 0, none⟩) k m ca cb (gs.map turnO) outs) := Lib.hid
          ⟨rows_set3 (rows_below HTg.out hW21) (.inr (.inr (fun b hb => by have h1 := HLA.out; have h2 := HBS.out; have h3 : gA = b := Option.some.inj hb; omega))) _ _ _, rows_set3 (HTo.out.below hW21) (.inr (.inr (fun b hb => by have h1 := HLB.out; have h2 := HBS.out; have h3 : gB = b := Option.some.inj hb; omega))) _ _ _, by rw [List.length_map]; exact HN.out, HM.out⟩
        have hsz1 : w.heap.size ≤ wr.drew.heap.size := HG.out.size
        have hsz2 : w.heap.size ≤ w20.heap.size := Nat.le_trans HG.out.size hW20.size
        have HC20 : Hid ((((w21.setCell ⟨bx + 1, 0, none⟩ (.string name)).setCell ⟨bx + 1, 1, none⟩ (.slice A20 k c20)).setCell ⟨bx + 1, 2, none⟩ (.slice A21 m c21)).ownsRow w.heap.size 46 6 (.slice A20 k c20) k (gcells (gs.map turnO))) := Lib.hid (rows_more (rows_set3 (rows_below HR20.out hb21) (.inl (by exact HX'.out.lt)) _ _ _) hsz1)
        have HC21 : Hid ((((w21.setCell ⟨bx + 1, 0, none⟩ (.string name)).setCell ⟨bx + 1, 1, none⟩ (.slice A20 k c20)).setCell ⟨bx + 1, 2, none⟩ (.slice A21 m c21)).ownsRow w.heap.size 3 1 (.slice A21 m c21) m (nums .i64 outs)) := Lib.hid (rows_more (rows_set3 HR21.out (.inl (by exact (HX'.out.self hW20).lt)) _ _ _) hsz2)
        have HGF : Hid (w.grownBy (((w21.setCell ⟨bx + 1, 0, none⟩ (.string name)).setCell ⟨bx + 1, 1, none⟩ (.slice A20 k c20)).setCell ⟨bx + 1, 2, none⟩ (.slice A21 m c21)) (some gA)) := Lib.hid (by
          have hle : w.heap.size ≤ bx + 1 := by have := HBS.out; omega
          exact only_setCell (only_setCell (only_setCell (only_below HG.out hW21) (p := ⟨bx + 1, 0, none⟩) (.inr hle) _) (p := ⟨bx + 1, 1, none⟩) (.inr hle) _) (p := ⟨bx + 1, 2, none⟩) (.inr hle) _)
        clear hsz1 hsz2 hB8 hB21 s0 s1 s2 f0 f1 f2 HR20 HR21 hb20 hb21 hW20 hW21 HTg HTo HX HX' HG HG2 HO2 HK2 hHGL
        go_wp2
        exact bodyPost_ret (v := .agg #[.string name, .slice A20 k c20, .slice A21 m c21]) (by simp [results, Tryd.results13, go_sem, r0.out, r1.out, r2.out]) rfl ⟨A20, A21, c20, c21, rfl, HTW, HC20, HC21, HGF.out⟩
end Go.Proofs.YtjkmoahnociaiaaDoor
