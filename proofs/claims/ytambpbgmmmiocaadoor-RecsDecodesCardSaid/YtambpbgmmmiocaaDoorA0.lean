/- Facts of this program: arrays of four are compared word by word. -/
import Derived.Test.YtambpbgmmmiocaaDoorG0
namespace Go.Proofs.YtambpbgmmmiocaaDoor
open Go.RowKit

theorem isAgg3 (w : World) : (isAgg 3).run Tryd.prog w = .ok false w := by kernel_rfl
theorem size3 (w : World) : (sizeOf 3).run Tryd.prog w = .ok 1 w := by kernel_rfl
theorem isAgg4 (w : World) : (isAgg 4).run Tryd.prog w = .ok false w := by kernel_rfl
theorem size4 (w : World) : (sizeOf 4).run Tryd.prog w = .ok 1 w := by kernel_rfl
theorem isAgg24 (w : World) : (isAgg 24).run Tryd.prog w = .ok false w := by kernel_rfl
theorem size24 (w : World) : (sizeOf 24).run Tryd.prog w = .ok 1 w := by kernel_rfl
theorem eqg57 : Tryd.prog.eqGuardType Tryd.prog.depth 57 = false := by kernel_rfl
theorem eqg23 : Tryd.prog.eqGuardType Tryd.prog.depth 23 = false := by kernel_rfl
theorem eqg26 : Tryd.prog.eqGuardType Tryd.prog.depth 26 = false := by kernel_rfl

theorem eq_bools (w : World) (a0 a1 a2 a3 b0 b1 b2 b3 : Bool) : (Op.equalIn 10000 57 (.agg #[.bool a0, .bool a1, .bool a2, .bool a3]) (.agg #[.bool b0, .bool b1, .bool b2, .bool b3])).run Tryd.prog w = .ok ((a0 == b0) && (a1 == b1) && (a2 == b2) && (a3 == b3)) w :=
  run_equalIn_arr4 w 9999 _ _ _ _ _ _ _ _ _ _ _ _ Tryd.underlying57 (size4 w) (isAgg4 w) (run_equalIn_bool' w _ _ _ _ Tryd.underlying4) (run_equalIn_bool' w _ _ _ _ Tryd.underlying4) (run_equalIn_bool' w _ _ _ _ Tryd.underlying4) (run_equalIn_bool' w _ _ _ _ Tryd.underlying4)
theorem eq_ords (w : World) (k : IntKind) (a0 a1 a2 a3 b0 b1 b2 b3 : Int) : (Op.equalIn 10000 23 (.agg #[.int k a0, .int k a1, .int k a2, .int k a3]) (.agg #[.int k b0, .int k b1, .int k b2, .int k b3])).run Tryd.prog w = .ok ((a0 == b0) && (a1 == b1) && (a2 == b2) && (a3 == b3)) w :=
  run_equalIn_arr4 w 9999 _ _ _ _ _ _ _ _ _ _ _ _ Tryd.underlying23 (size3 w) (isAgg3 w) (run_equalIn_int w _ _ _ _ _ _ Tryd.underlying3) (run_equalIn_int w _ _ _ _ _ _ Tryd.underlying3) (run_equalIn_int w _ _ _ _ _ _ Tryd.underlying3) (run_equalIn_int w _ _ _ _ _ _ Tryd.underlying3)
theorem eq_recs (w : World) (k : IntKind) (a0 a1 a2 a3 b0 b1 b2 b3 : Int) : (Op.equalIn 10000 26 (.agg #[.int k a0, .int k a1, .int k a2, .int k a3]) (.agg #[.int k b0, .int k b1, .int k b2, .int k b3])).run Tryd.prog w = .ok ((a0 == b0) && (a1 == b1) && (a2 == b2) && (a3 == b3)) w :=
  run_equalIn_arr4 w 9999 _ _ _ _ _ _ _ _ _ _ _ _ Tryd.underlying26 (size24 w) (isAgg24 w) (run_equalIn_int w _ _ _ _ _ _ Tryd.underlying24) (run_equalIn_int w _ _ _ _ _ _ Tryd.underlying24) (run_equalIn_int w _ _ _ _ _ _ Tryd.underlying24) (run_equalIn_int w _ _ _ _ _ _ Tryd.underlying24)
end Go.Proofs.YtambpbgmmmiocaaDoor
