/- The library's texts at this program: the numbers of strings.Join and strings.Builder. -/
import Derived.Shelf.Strings.BuilderK
import Derived.Shelf.Strings.BuilderF
import Derived.Shelf.Strings.OnBuilder
import Derived.Test.YtjkmoahnociaiaaDoorXF
namespace Go.Proofs.YtjkmoahnociaiaaDoor
open Go.RowKit
open Go.Shelf

def renD : Go.Shelf.Ren := ⟨fun | 156 => 25 | 165 => 50 | 166 => 24 | 169 => 28 | 240 => 49 | 241 => 68 | 276 => 67 | 277 => 81 | 170 => 27 | n => n, fun | 31 => 54 | 9 => 9 | 3 => 3 | 4 => 4 | 0 => 0 | 20 => 20 | 72 => 53 | 76 => 57 | 70 => 51 | 37 => 42 | 75 => 56 | 127 => 100 | 164 => 131 | 5 => 5 | 80 => 64 | n => n, fun n => n⟩
theorem laysD : Lays.n156 Tryd.prog renD := { mixed := by kernel_rfl, f156 := Tryd.func25.trans (congrArg some (by kernel_rfl)), f165 := Tryd.func50.trans (congrArg some (by kernel_rfl)), f166 := Tryd.func24.trans (congrArg some (by kernel_rfl)), f169 := Tryd.func28.trans (congrArg some (by kernel_rfl)), f240 := Tryd.func49.trans (congrArg some (by kernel_rfl)), f241 := Tryd.func68.trans (congrArg some (by kernel_rfl)), f276 := Tryd.func67.trans (congrArg some (by kernel_rfl)), f277 := Tryd.func81.trans (congrArg some (by kernel_rfl)), t0 := Tryd.underlying0, a0 := Tryd.isAgg0, z0 := Tryd.sizeOf0, v0 := Tryd.zeroValue0, t3 := Tryd.underlying3, a3 := Tryd.isAgg3, z3 := Tryd.sizeOf3, v3 := Tryd.zeroValue3, t4 := Tryd.underlying4, a4 := Tryd.isAgg4, z4 := Tryd.sizeOf4, v4 := Tryd.zeroValue4, t9 := Tryd.underlying9, a9 := Tryd.isAgg9, z9 := Tryd.sizeOf9, v9 := Tryd.zeroValue9, t20 := Tryd.underlying20, a20 := Tryd.isAgg20, z20 := Tryd.sizeOf20, v20 := Tryd.zeroValue20, t31 := Tryd.underlying54, a31 := Tryd.isAgg54, z31 := Tryd.sizeOf54, v31 := Tryd.zeroValue54, t37 := Tryd.underlying42, a37 := Tryd.isAgg42, z37 := Tryd.sizeOf42, v37 := Tryd.zeroValue42, t70 := Tryd.underlying51, a70 := Tryd.isAgg51, z70 := Tryd.sizeOf51, v70 := Tryd.zeroValue51, t72 := Tryd.underlying53, a72 := Tryd.isAgg53, z72 := Tryd.sizeOf53, v72 := Tryd.zeroValue53, t75 := Tryd.underlying56, a75 := Tryd.isAgg56, z75 := Tryd.sizeOf56, v75 := Tryd.zeroValue56, t76 := Tryd.underlying57, a76 := Tryd.isAgg57, z76 := Tryd.sizeOf57, v76 := Tryd.zeroValue57, t127 := Tryd.underlying100, a127 := Tryd.isAgg100, z127 := Tryd.sizeOf100, v127 := Tryd.zeroValue100, t164 := Tryd.underlying131, a164 := Tryd.isAgg131, z164 := Tryd.sizeOf131, v164 := Tryd.zeroValue131 }
theorem laysLenD : Lays.n170 Tryd.prog renD := { mixed := by kernel_rfl, f170 := Tryd.func27.trans (congrArg some (by kernel_rfl)), t0 := Tryd.underlying0, a0 := Tryd.isAgg0, z0 := Tryd.sizeOf0, v0 := Tryd.zeroValue0, t3 := Tryd.underlying3, a3 := Tryd.isAgg3, z3 := Tryd.sizeOf3, v3 := Tryd.zeroValue3, t37 := Tryd.underlying42, a37 := Tryd.isAgg42, z37 := Tryd.sizeOf42, v37 := Tryd.zeroValue42, t70 := Tryd.underlying51, a70 := Tryd.isAgg51, z70 := Tryd.sizeOf51, v70 := Tryd.zeroValue51, t72 := Tryd.underlying53, a72 := Tryd.isAgg53, z72 := Tryd.sizeOf53, v72 := Tryd.zeroValue53 }
theorem extraD : Builder.Extra Tryd.prog renD := { sizeBuilder := by kernel_rfl, liesBuilder := by kernel_rfl, t5 := Tryd.underlying5, a5 := Tryd.isAgg5, z5 := Tryd.sizeOf5, v5 := Tryd.zeroValue5, infoByte := by kernel_rfl, cellsByte := by kernel_rfl, sizeByte := by kernel_rfl, neB5 := by decide }
/-- A builder of these bytes. -/
def BldAt (B b : Nat) (bs : List Value) (w : World) : Prop := Lib.IsBuilderF 53 5 B b bs w
/-- All but the builder and its row is as it was. -/
def Beside (b : Nat) (w w' : World) : Prop := Lib.OthersKept 5 (some b) w w'
theorem bld_len (B b : Nat) (bs : List Value) (w : World) (h : BldAt B b bs w) :
    Calls Tryd.prog 27 #[.pointer (some ⟨b, 0, none⟩)] w fun e w' => e = .returned (.int .i64 bs.length) ∧ w' = w := Any.Builder_Len_f laysLenD B b bs w h
theorem bld_write (B b : Nat) (bs : List Value) (s : ByteArray) (w : World) (h : BldAt B b bs w) (hlen : bs.length + s.size ≤ 140737488355328) (hBw : B ≤ w.heap.size) :
    Calls Tryd.prog 24 #[.pointer (some ⟨b, 0, none⟩), .string s] w fun e w' => e = .returned (.tuple #[.int .i64 s.size, .nilIface]) ∧ BldAt B b (bs ++ Lib.strCells s) w' ∧ Below B w w' ∧ Beside b w w' :=
  (Any.Builder_WriteString_k { laysD with } extraD B b bs s w h hlen hBw).mono fun e w' ⟨he, h1, h2, h3⟩ => ⟨he, .inr h1, h2, h3⟩
theorem bld_string (B b : Nat) (l : List UInt8) (w : World) (h : BldAt B b (Lib.byteCells l) w) (h0 : l ≠ []) :
    Calls Tryd.prog 28 #[.pointer (some ⟨b, 0, none⟩)] w fun e w' => e = .returned (.string ⟨l.toArray⟩) ∧ Below B w w' :=
  (Any.Builder_String_k { laysD with } extraD B b l w h h0).mono fun e w' ⟨he, _, h2, _⟩ => ⟨he, h2⟩
theorem join_any (bk o c : Nat) (xs : List ByteArray) (sep : ByteArray) (w : World) (hcells : ∀ (j : Nat) x, xs[j]? = some x → w.cell? ⟨bk, o + j, none⟩ = some (.string x)) (hbk : bk < w.heap.size) (hN : xs.length ≤ 140737488355328) (hcap : xs.length ≤ c) (hlen : (Lib.join (xs.map (·.data.toList)) sep.data.toList).length ≤ 140737488355328) :
    Calls Tryd.prog 25 #[.slice (some ⟨bk, o, none⟩) xs.length c, .string sep] w fun e w' => e = .returned (.string ⟨(Lib.join (xs.map (·.data.toList)) sep.data.toList).toArray⟩) ∧ Below w.heap.size w w' := Any.strings_Join laysD extraD bk o c xs sep w hcells hbk hN hcap hlen
end Go.Proofs.YtjkmoahnociaiaaDoor
