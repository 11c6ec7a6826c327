/- makes: Part, of none; refused. -/
import Derived.Test.YtmemdicdehppjaaRD
import Derived.Deep.DeepCutAuto
namespace Go.Proofs.Ytmemdicdehppjaa
open Go.RowKit

theorem on_zero (v : Int) (w : World) : Calls Try.prog 16 #[.int .i64 v, .int .i64 0] w fun e w' => e = .returned (.int .i64 (-1)) ∧ w' = w := by
  go_enter Try.func16, Try.ntmps16
  go_wp2
  go_ret
  exact ⟨rfl, rfl⟩
section
variable {w w' : World} {base : Nat} {N : List ND}
set_option maxHeartbeats 2000000 in
theorem makes_none {va vb : Value} (on k n : Int) (h : Laid w base [] va vb) (hbase : base ≤ w.heap.size) (hk : k ≠ 1) :
    Calls Try.prog 15 #[.agg #[.int .i64 on, .int .i64 k, .int .i64 n], va, vb] w (Made w base []) := by
  have hbl := below1 w (.cells #[.int .i64 on, .int .i64 k, .int .i64 n] 29)
  have HL := Lib.hid (h.below hbl)
  have HB := Lib.hid hbl
  obtain ⟨A, ca, hva⟩ := h.a.form
  obtain ⟨B, cb, hvb⟩ := h.b.form
  rw [List.length_map] at hva hvb
  have C1 := Lib.hid (fun W => on_zero on W)
  have HBB := Lib.hid hbase
  have e1 : (k == 1) = false := by simpa using hk
  subst hva hvb
  simp only [List.length_nil] at HL ⊢
  clear h hbl hbase
  go_enter Try.func15, Try.ntmps15
  go_wp2_with (go_at_call 16; with_reducible refine (C1.out _).mono ?_; rintro e W2 ⟨rfl, rfl⟩)
  go_ret3
  exact ⟨[], _, _, rfl, by omega, HL.out, fun B hB => HB.out.mono (Nat.le_trans hB HBB.out)⟩
end
end Go.Proofs.Ytmemdicdehppjaa
