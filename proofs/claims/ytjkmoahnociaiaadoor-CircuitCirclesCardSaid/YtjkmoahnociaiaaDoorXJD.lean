/- The laws' own comparing of circuits and lists: where both read alike. -/
import Derived.Test.YtjkmoahnociaiaaDoorXF
import Derived.Laws.StructEq
namespace Go.Proofs.YtjkmoahnociaiaaDoor
open Go.RowKit

theorem eqGate (g h : Gt) (w : World) : (Op.equalIn 10000 46 g.agg h.agg).run Tryd.prog w = .ok (g.kind == h.kind && (g.name.toList == h.name.toList && (g.op == h.op && (g.a == h.a && (g.b == h.b && g.c == h.c))))) w := by
  have u3 := Tryd.underlying3
  have u9 := Tryd.underlying9
  have a3 := Tryd.isAgg3
  have a9 := Tryd.isAgg9
  have hS : Tryd.prog.underlying 46 = some (.struct (Tryd.prog.fieldsOf 46)) := by kernel_rfl
  have hp : Tryd.prog.stoodInHeld 46 = false := by kernel_rfl
  rw [show (10000 : Nat) = 9999 + 1 from rfl]
  unfold Gt.agg
  rw [run_equalIn_agg w 9999 46 _ _ hS hp]
  simp only [Program.fieldsOf, Tryd.underlying46]
  go_simp
  by_cases h1 : g.kind = h.kind <;> by_cases h2 : g.name.toList = h.name.toList <;> by_cases h3 : g.op = h.op <;> by_cases h4 : g.a = h.a <;> by_cases h5 : g.b = h.b <;> by_cases h6 : g.c = h.c <;> simp [h1, h2, h3, h4, h5, h6]
theorem eqGate_self (g : Gt) (w : World) : (Op.equalIn 10000 46 (.agg #[.int .i64 g.kind, .string g.name, .int .i64 g.op, .int .i64 g.a, .int .i64 g.b, .int .i64 g.c]) (.agg #[.int .i64 g.kind, .string g.name, .int .i64 g.op, .int .i64 g.a, .int .i64 g.b, .int .i64 g.c])).run Tryd.prog w = .ok true w := by
  have := eqGate g g w
  simpa [Gt.agg] using this
set_option maxRecDepth 100000 in
set_option maxHeartbeats 4000000 in
/-- Two circuits that read alike. -/
theorem same_any (A B A' B' : Option Addr) (n m ca cb ca' cb' : Nat) (name : ByteArray) (gs : List Gt) (outs : List Int) (w : World) (hA : CReads w A (gcells gs)) (hB : Reads w .i64 B outs) (hA' : CReads w A' (gcells gs)) (hB' : Reads w .i64 B' outs) (hn : gs.length = n) (hm : outs.length = m)
    (hn1 : n ≤ 9223372036854775807) (hm1 : m ≤ 9223372036854775807) :
    Calls Tryd.prog 16 #[.agg #[.string name, .slice A n ca, .slice B m cb], .agg #[.string name, .slice A' n ca', .slice B' m cb']] w fun e w' => e = .returned (.bool true) ∧ Below w.heap.size w w' := by
  have hbl := below2 w (.cells #[.string name, .slice A n ca, .slice B m cb] 25) (.cells #[.string name, .slice A' n ca', .slice B' m cb'] 25)
  have HA := Lib.hid (hA.below hbl); have HB := Lib.hid (hB.below hbl); have HN := Lib.hid hn; have HM := Lib.hid hm
  have HA' := Lib.hid (hA'.below hbl); have HB' := Lib.hid (hB'.below hbl)
  have HB0 := Lib.hid hbl
  have HX := Lib.hid ((Blk.new w 25 [.string name, .slice A n ca, .slice B m cb]).alloc (.cells #[.string name, .slice A' n ca', .slice B' m cb'] 25))
  have HX' := Lib.hid (blk_new2 w (.cells #[.string name, .slice A n ca, .slice B m cb] 25) 25 [.string name, .slice A' n ca', .slice B' m cb'])
  have en : (name.toList == name.toList) = true := by simp
  clear hA hB hA' hB' hn hm hbl
  go_enter Tryd.func16, Tryd.ntmps16
  go_upto_region 4 with (fail)
  change Code.wp _ _ _ _ ((w.alloc (.cells #[.string name, .slice A n ca, .slice B m cb] 25)).alloc (.cells #[.string name, .slice A' n ca', .slice B' m cb'] 25))
  generalize (w.alloc (.cells #[.string name, .slice A n ca, .slice B m cb] 25)).alloc (.cells #[.string name, .slice A' n ca', .slice B' m cb'] 25) = W1 at *
  obtain ⟨bx, hbx⟩ : ∃ bx, w.heap.size = bx := ⟨_, rfl⟩
  rw [hbx] at HX HX' ⊢
  clear hbx
  have x1 : W1.cell? ⟨bx, 1, none⟩ = some (.slice A n ca) := (HX.out.cell 1).trans rfl
  have x2 : W1.cell? ⟨bx, 2, none⟩ = some (.slice B m cb) := (HX.out.cell 2).trans rfl
  have y1 : W1.cell? ⟨bx + 1, 1, none⟩ = some (.slice A' n ca') := (HX'.out.cell 1).trans rfl
  have y2 : W1.cell? ⟨bx + 1, 2, none⟩ = some (.slice B' m cb') := (HX'.out.cell 2).trans rfl
  have X := Lib.hid (And.intro (And.intro x1 x2) (And.intro y1 y2))
  go_loopw [5] (fun s5 wr => ∃ i : Nat, i ≤ n ∧ s5 = .int .i64 i ∧ Hid (Below W1.heap.size W1 wr)) (fun s5 _ => n - (intOf s5).toNat)
  case atStart => exact ⟨0, by omega, rfl, Lib.hid (Below.refl _ _)⟩
  case round =>
    clear x1 x2 y1 y2
    obtain ⟨i, hi, rfl, HBW⟩ := hrel
    have x1 := cell_kept HBW.out X.out.1.1
    have y1 := cell_kept HBW.out X.out.2.1
    by_cases hlt : i < n
    · obtain ⟨g, hg⟩ : ∃ g, gs[i]? = some g := ⟨_, List.getElem?_eq_getElem (by rw [HN.out]; exact hlt)⟩
      obtain ⟨ab, ao, rfl, h1⟩ := greads_at HA.out hg
      obtain ⟨bb, bo, rfl, h2⟩ := greads_at HA'.out hg
      obtain ⟨c0, c1, c2, c3, c4, c5⟩ := h1.below HBW.out
      obtain ⟨d0, d1, d2, d3, d4, d5⟩ := h2.below HBW.out
      have heq := eqGate_self g
      have hi0 : (0 : Int) ≤ (i : Int) := by omega
      have hin : (i : Int) < (n : Int) := by omega
      clear hg h1 h2
      go_upto_region 6 with (fail)
      go_quiet (fail)
      all_goals
        go_wp2
        go_roundw
        case rel => exact ⟨i + 1, by omega, by go_num, Lib.hid (below_drewN HBW.out _)⟩
        case measure => simp [intOf]; omega
    · obtain rfl : i = n := by omega
      have HBW2 := HBW
      clear x1 y1 hlt
      have x1 := cell_kept HBW.out X.out.1.1
      have x2 := cell_kept HBW.out X.out.1.2
      have y2 := cell_kept HBW.out X.out.2.2
      go_upto_region 9 with (fail)
      clear x1 x2 y2
      go_loopw [6] (fun s6 wr => ∃ j : Nat, j ≤ m ∧ s6 = .int .i64 j ∧ Hid (Below W1.heap.size W1 wr)) (fun s6 _ => m - (intOf s6).toNat)
      case atStart => exact ⟨0, by omega, rfl, HBW⟩
      case round =>
        clear HBW HBW2
        obtain ⟨j, hj, rfl, HBW⟩ := hrel
        have x2 := cell_kept HBW.out X.out.1.2
        have y2 := cell_kept HBW.out X.out.2.2
        by_cases hlt : j < m
        · obtain ⟨x, hx⟩ : ∃ x, outs[j]? = some x := ⟨_, List.getElem?_eq_getElem (by rw [HM.out]; exact hlt)⟩
          obtain ⟨ab, ao, rfl, h1⟩ := HB.out.at_ hx
          obtain ⟨bb, bo, rfl, h2⟩ := HB'.out.at_ hx
          have c1 := cell_kept HBW.out h1
          have c2 := cell_kept HBW.out h2
          have hj0 : (0 : Int) ≤ (j : Int) := by omega
          have hjm : (j : Int) < (m : Int) := by omega
          clear hx h1 h2
          go_upto_region 11 with (fail)
          go_quiet (fail)
          all_goals
            go_wp2
            go_roundw
            case rel => exact ⟨j + 1, by omega, by go_num, Lib.hid (below_drewN HBW.out _)⟩
            case measure => simp [intOf]; omega
        · obtain rfl : j = m := by omega
          go_wp2
          go_ret
          exact ⟨rfl, below_then HB0.out HB0.out.size HBW.out⟩
end Go.Proofs.YtjkmoahnociaiaaDoor
