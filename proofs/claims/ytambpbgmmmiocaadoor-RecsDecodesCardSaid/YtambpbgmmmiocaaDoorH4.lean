/- same of the law's text, at two lists that are the same. -/
import Derived.Test.YtambpbgmmmiocaaDoorH3
namespace Go.Proofs.YtambpbgmmmiocaaDoor
open Go.RowKit

set_option maxHeartbeats 2000000 in
theorem same_any (A B : Option Addr) (n c d : Nat) (ws : List Int) (w : World) (hr : Reads w .u64 A ws) (hs : Reads w .u64 B ws) (hl : ws.length = n * 4) (hn : n ≤ 140737488355328) :
    Calls Tryd.prog 18 #[.slice A n c, .slice B n d] w fun e w' => e = .returned (.bool true) ∧ Below w.heap.size w w' := by
  have HR := Lib.hid hr
  have HS := Lib.hid hs
  have HL := Lib.hid hl
  clear hr hs hl
  go_enter Tryd.func18, Tryd.ntmps18
  go_wp2
  go_loopw [5] (fun i wr => ∃ k : Nat, k ≤ n ∧ i = .int .i64 k ∧ Hid (Below w.heap.size w wr)) (fun i _ => n - (intOf i).toNat)
  case atStart => exact ⟨0, by omega, rfl, Lib.hid (Below.refl _ _)⟩
  case round =>
    obtain ⟨k, hk, rfl, HB⟩ := hrel
    by_cases hlt : k < n
    · obtain ⟨x0, x1, x2, x3, h0, h1, h2, h3, h4⟩ := four_of ws k (by rw [HL.out]; omega)
      obtain ⟨b, o, rfl, hc0⟩ := HR.out.at_ h0
      have at_ : ∀ i x, ws[4 * k + i]? = some x → wr.cell? ⟨b, o + k * 4 + i, none⟩ = some (.int .u64 x) := fun i x hx => by
        obtain ⟨b', o', e, hc⟩ := HR.out.at_ hx
        cases e
        have := cell_kept HB.out hc
        rwa [show o + (4 * k + i) = o + k * 4 + i by omega] at this
      have c0 := at_ 0 x0 h0
      have c1 := at_ 1 x1 h1
      have c2 := at_ 2 x2 h2
      have c3 := at_ 3 x3 h3
      obtain ⟨b', o', rfl, hd0⟩ := HS.out.at_ h0
      have bt_ : ∀ i x, ws[4 * k + i]? = some x → wr.cell? ⟨b', o' + k * 4 + i, none⟩ = some (.int .u64 x) := fun i x hx => by
        obtain ⟨b1, o1, e, hc⟩ := HS.out.at_ hx
        cases e
        have := cell_kept HB.out hc
        rwa [show o' + (4 * k + i) = o' + k * 4 + i by omega] at this
      have d0 := bt_ 0 x0 h0
      have d1 := bt_ 1 x1 h1
      have d2 := bt_ 2 x2 h2
      have d3 := bt_ 3 x3 h3
      simp only [Nat.add_zero] at c0 d0
      have eqs := fun w => eq_recs w .u64 x0 x1 x2 x3 x0 x1 x2 x3
      simp only [beq_self_eq_true, Bool.and_self] at eqs
      have eqg := eqg26
      have hk0 : (0 : Int) ≤ (k : Int) := by omega
      have hkn : (k : Int) < (n : Int) := by omega
      clear at_ bt_ h0 h1 h2 h3 h4 hc0 hd0
      go_wp2
      go_quiet (fail)
      go_wp2
      go_roundw
      case rel => exact ⟨k + 1, by omega, by go_num, Lib.hid (below_drewN HB.out _)⟩
      case measure => simp [intOf]; omega
    · obtain rfl : k = n := by omega
      go_wp2
      go_ret
      exact ⟨rfl, HB.out⟩
end Go.Proofs.YtambpbgmmmiocaaDoor
