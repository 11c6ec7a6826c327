/- The library's texts at this program: strings.IndexByte, strings.Split at one byte. -/
import Derived.Shelf.Small.Strs
import Derived.Shelf.Strings.Split
import Derived.Test.YtjkmoahnociaiaaDoorXF
namespace Go.Proofs.YtjkmoahnociaiaaDoor
open Go.RowKit
open Go.Shelf

def renE : Go.Shelf.Ren := ⟨fun | 137 => 58 | 146 => 37 | 221 => 57 | 138 => 71 | 143 => 72 | 195 => 82 | 197 => 83 | 217 => 73 | 218 => 84 | 219 => 85 | 224 => 96 | 225 => 95 | 260 => 94 | 266 => 86 | 267 => 97 | 268 => 70 | 314 => 98 | n => n, fun | 0 => 0 | 3 => 3 | 4 => 4 | 5 => 5 | 9 => 9 | 21 => 21 | 31 => 54 | 46 => 146 | 51 => 151 | 105 => 139 | 119 => 147 | 138 => 149 | 139 => 150 | 146 => 152 | n => n, fun | 1 => 2 | 3 => 3 | 4 => 4 | n => n⟩
theorem laysIB : Lays.n137 Tryd.prog renE := { mixed := by kernel_rfl, f137 := Tryd.func58.trans (congrArg some (by kernel_rfl)), f217 := Tryd.func73.trans (congrArg some (by kernel_rfl)), f266 := Tryd.func86.trans (congrArg some (by kernel_rfl)), t3 := Tryd.underlying3, a3 := Tryd.isAgg3, z3 := Tryd.sizeOf3, v3 := Tryd.zeroValue3, t5 := Tryd.underlying5, a5 := Tryd.isAgg5, z5 := Tryd.sizeOf5, v5 := Tryd.zeroValue5, t9 := Tryd.underlying9, a9 := Tryd.isAgg9, z9 := Tryd.sizeOf9, v9 := Tryd.zeroValue9 }
theorem laysGS : Lays.n221 Tryd.prog renE := { mixed := by kernel_rfl, f138 := Tryd.func71.trans (congrArg some (by kernel_rfl)), f143 := Tryd.func72.trans (congrArg some (by kernel_rfl)), f195 := Tryd.func82.trans (congrArg some (by kernel_rfl)), f197 := Tryd.func83.trans (congrArg some (by kernel_rfl)), f217 := Tryd.func73.trans (congrArg some (by kernel_rfl)), f218 := Tryd.func84.trans (congrArg some (by kernel_rfl)), f219 := Tryd.func85.trans (congrArg some (by kernel_rfl)), f221 := Tryd.func57.trans (congrArg some (by kernel_rfl)), f224 := Tryd.func96.trans (congrArg some (by kernel_rfl)), f225 := Tryd.func95.trans (congrArg some (by kernel_rfl)), f260 := Tryd.func94.trans (congrArg some (by kernel_rfl)), f266 := Tryd.func86.trans (congrArg some (by kernel_rfl)), f267 := Tryd.func97.trans (congrArg some (by kernel_rfl)), f268 := Tryd.func70.trans (congrArg some (by kernel_rfl)), f314 := Tryd.func98.trans (congrArg some (by kernel_rfl)), t0 := Tryd.underlying0, a0 := Tryd.isAgg0, z0 := Tryd.sizeOf0, v0 := Tryd.zeroValue0, t3 := Tryd.underlying3, a3 := Tryd.isAgg3, z3 := Tryd.sizeOf3, v3 := Tryd.zeroValue3, t4 := Tryd.underlying4, a4 := Tryd.isAgg4, z4 := Tryd.sizeOf4, v4 := Tryd.zeroValue4, t5 := Tryd.underlying5, a5 := Tryd.isAgg5, z5 := Tryd.sizeOf5, v5 := Tryd.zeroValue5, t9 := Tryd.underlying9, a9 := Tryd.isAgg9, z9 := Tryd.sizeOf9, v9 := Tryd.zeroValue9, t21 := Tryd.underlying21, a21 := Tryd.isAgg21, z21 := Tryd.sizeOf21, v21 := Tryd.zeroValue21, t31 := Tryd.underlying54, a31 := Tryd.isAgg54, z31 := Tryd.sizeOf54, v31 := Tryd.zeroValue54, t46 := Tryd.underlying146, a46 := Tryd.isAgg146, z46 := Tryd.sizeOf146, v46 := Tryd.zeroValue146, t51 := Tryd.underlying151, a51 := Tryd.isAgg151, z51 := Tryd.sizeOf151, v51 := Tryd.zeroValue151, t105 := Tryd.underlying139, a105 := Tryd.isAgg139, z105 := Tryd.sizeOf139, v105 := Tryd.zeroValue139, t119 := Tryd.underlying147, a119 := Tryd.isAgg147, z119 := Tryd.sizeOf147, t138 := Tryd.underlying149, a138 := Tryd.isAgg149, z138 := Tryd.sizeOf149, v138 := Tryd.zeroValue149, t139 := Tryd.underlying150, a139 := Tryd.isAgg150, z139 := Tryd.sizeOf150, v139 := Tryd.zeroValue150, t146 := Tryd.underlying152, a146 := Tryd.isAgg152, z146 := Tryd.sizeOf152, v146 := Tryd.zeroValue152, g1 := by kernel_rfl, g3 := by kernel_rfl, g4 := by kernel_rfl }
theorem indexByte_any (s : ByteArray) (c : Int) (w : World) :
    Calls Tryd.prog 58 #[.string s, .int .u8 c] w fun e w' => e = .returned (.int .i64 (Lib.indexByte s.data.toList c.toNat.toUInt8)) ∧ w' = w := Any.strings_IndexByte laysIB s c w
/-- A line's end. -/
def nl : ByteArray := ⟨#[10]⟩
/-- The lines of a text. -/
def linesOf (s : ByteArray) : List ByteArray := Lib.splitB nl 0 (Lib.countB s nl) s
theorem linesOf_length (s : ByteArray) : (linesOf s).length = s.data.toList.count 10 + 1 := by
  unfold linesOf
  rw [Lib.splitB_all nl (by decide) 0 _ s rfl]
  show Lib.count s.data.toList [10] + 1 = _
  rw [Lib.count_one]
theorem info_str : (Tryd.prog.info? 9).map (fun i => (i.zero, i.size, i.bytes)) = some (some (.string ByteArray.empty), 1, 16) := by kernel_rfl
set_option maxHeartbeats 1000000 in
theorem split_any (s : ByteArray) (w : World) (hs : s.size < 4294967281) :
    Calls Tryd.prog 37 #[.string s, .string nl] w fun e w' => e = .returned (.slice (some ⟨w.heap.size, 0, none⟩) (linesOf s).length (linesOf s).length) ∧ w' = w.alloc (.cells ((linesOf s).map Value.string).toArray 9) := by
  have hle := Lib.countB_le nl (by decide) s.size s (Nat.le_refl _)
  have hlen := Lib.splitB_all nl (by decide) 0 _ s rfl
  have hlo : (linesOf s).length = Lib.countB s nl + 1 := hlen
  have c := Any.strings_genSplit_core laysGS info_str s nl 0 (-1) (Lib.countB s nl + 1) w hs (by decide) (Nat.zero_le _)
    (fun x c hx => by
      have h := Any.strings_Index_one (P := Tryd.prog) (ρ := renE) { laysGS with } x 10 (w.alloc (.cells c (renE.t 9)))
      have e : Lib.indexB x nl = Lib.indexByte x.data.toList 10 := Lib.index_one _ _
      rw [e]
      exact h)
    (by
      have h := Any.strings_Count_one (P := Tryd.prog) (ρ := renE) { laysGS with } s 10 w
      have e : Lib.countB s nl = Lib.countByte s.data.toList 10 := Lib.count_one _ _
      rw [e]
      exact h)
    (by decide) (by decide) (by rw [if_pos (by decide)]; omega)
  rw [Nat.add_sub_cancel] at c
  have e2 : Lib.cellsOf (linesOf s) (Lib.countB s nl + 1) = ((linesOf s).map Value.string).toArray := by rw [← hlo]; exact Lib.cellsOf_full _
  have e3 : Lib.splitB nl 0 (Lib.countB s nl) s = linesOf s := rfl
  rw [e3, e2] at c
  rw [hlo]
  rw [hlo] at c
  have c' : Calls Tryd.prog 57 #[.string s, .string nl, .int .i64 0, .int .i64 (-1)] w fun e w' => e = .returned (.slice (some ⟨w.heap.size, 0, none⟩) (Lib.countB s nl + 1) (Lib.countB s nl + 1)) ∧ w' = w.alloc (.cells ((linesOf s).map Value.string).toArray 9) := c
  clear c e2 e3 hlo hlen hle
  go_enter Tryd.func37, Tryd.ntmps37
  go_wp2_with (go_at_call 57; refine c'.mono ?_; rintro e w' ⟨rfl, hw⟩; rw [hw])
  go_ret
  exact ⟨rfl, rfl⟩
end Go.Proofs.YtjkmoahnociaiaaDoor
