/- The library's texts at this program: the numbers of strings.Join and strings.Builder. -/
import Derived.Shelf.Strings.BuilderK
import Derived.Shelf.Strings.BuilderF
import Derived.Shelf.Strings.OnBuilder
import Derived.Test.YtjkmoahnociaiaaDoorXF
import Derived.Laws.Concat
import Derived.Deep.RegionHeld3
namespace Go.Proofs.YtjkmoahnociaiaaDoor
open Go.RowKit
open Go.Shelf

def renD : Go.Shelf.Ren := ⟨fun | 156 => 25 | 165 => 50 | 166 => 24 | 169 => 28 | 240 => 49 | 241 => 68 | 276 => 67 | 277 => 81 | 170 => 27 | n => n, fun | 31 => 54 | 9 => 9 | 3 => 3 | 4 => 4 | 0 => 0 | 20 => 20 | 72 => 53 | 76 => 57 | 70 => 51 | 37 => 42 | 75 => 56 | 127 => 100 | 164 => 131 | 5 => 5 | 80 => 64 | n => n, fun n => n⟩
theorem laysD : Lays.n156 Tryd.prog renD := { mixed := by kernel_rfl, f156 := Tryd.func25.trans (congrArg some (by kernel_rfl)), f165 := Tryd.func50.trans (congrArg some (by kernel_rfl)), f166 := Tryd.func24.trans (congrArg some (by kernel_rfl)), f169 := Tryd.func28.trans (congrArg some (by kernel_rfl)), f240 := Tryd.func49.trans (congrArg some (by kernel_rfl)), f241 := Tryd.func68.trans (congrArg some (by kernel_rfl)), f276 := Tryd.func67.trans (congrArg some (by kernel_rfl)), f277 := Tryd.func81.trans (congrArg some (by kernel_rfl)), t0 := Tryd.underlying0, a0 := Tryd.isAgg0, z0 := Tryd.sizeOf0, v0 := Tryd.zeroValue0, t3 := Tryd.underlying3, a3 := Tryd.isAgg3, z3 := Tryd.sizeOf3, v3 := Tryd.zeroValue3, t4 := Tryd.underlying4, a4 := Tryd.isAgg4, z4 := Tryd.sizeOf4, v4 := Tryd.zeroValue4, t9 := Tryd.underlying9, a9 := Tryd.isAgg9, z9 := Tryd.sizeOf9, v9 := Tryd.zeroValue9, t20 := Tryd.underlying20, a20 := Tryd.isAgg20, z20 := Tryd.sizeOf20, v20 := Tryd.zeroValue20, t31 := Tryd.underlying54, a31 := Tryd.isAgg54, z31 := Tryd.sizeOf54, v31 := Tryd.zeroValue54, t37 := Tryd.underlying42, a37 := Tryd.isAgg42, z37 := Tryd.sizeOf42, v37 := Tryd.zeroValue42, t70 := Tryd.underlying51, a70 := Tryd.isAgg51, z70 := Tryd.sizeOf51, v70 := Tryd.zeroValue51, t72 := Tryd.underlying53, a72 := Tryd.isAgg53, z72 := Tryd.sizeOf53, v72 := Tryd.zeroValue53, t75 := Tryd.underlying56, a75 := Tryd.isAgg56, z75 := Tryd.sizeOf56, v75 := Tryd.zeroValue56, t76 := Tryd.underlying57, a76 := Tryd.isAgg57, z76 := Tryd.sizeOf57, v76 := Tryd.zeroValue57, t127 := Tryd.underlying100, a127 := Tryd.isAgg100, z127 := Tryd.sizeOf100, v127 := Tryd.zeroValue100, t164 := Tryd.underlying131, a164 := Tryd.isAgg131, z164 := Tryd.sizeOf131, v164 := Tryd.zeroValue131 }
theorem laysLenD : Lays.n170 Tryd.prog renD := { mixed := by kernel_rfl, f170 := Tryd.func27.trans (congrArg some (by kernel_rfl)), t0 := Tryd.underlying0, a0 := Tryd.isAgg0, z0 := Tryd.sizeOf0, v0 := Tryd.zeroValue0, t3 := Tryd.underlying3, a3 := Tryd.isAgg3, z3 := Tryd.sizeOf3, v3 := Tryd.zeroValue3, t37 := Tryd.underlying42, a37 := Tryd.isAgg42, z37 := Tryd.sizeOf42, v37 := Tryd.zeroValue42, t70 := Tryd.underlying51, a70 := Tryd.isAgg51, z70 := Tryd.sizeOf51, v70 := Tryd.zeroValue51, t72 := Tryd.underlying53, a72 := Tryd.isAgg53, z72 := Tryd.sizeOf53, v72 := Tryd.zeroValue53 }
theorem extraD : Builder.Extra Tryd.prog renD := { sizeBuilder := by kernel_rfl, liesBuilder := by kernel_rfl, t5 := Tryd.underlying5, a5 := Tryd.isAgg5, z5 := Tryd.sizeOf5, v5 := Tryd.zeroValue5, infoByte := by kernel_rfl, cellsByte := by kernel_rfl, sizeByte := by kernel_rfl, neB5 := by decide }
/-- A builder of these bytes. -/
def BldAt (B b : Nat) (bs : List Value) (w : World) : Prop := Lib.IsBuilderF 53 5 B b bs w
/-- All but the builder and its row is as it was. -/
def Beside (b : Nat) (w w' : World) : Prop := Lib.OthersKept 5 (some b) w w'
theorem bld_len (B b : Nat) (bs : List Value) (w : World) (h : BldAt B b bs w) :
    Calls Tryd.prog 27 #[.pointer (some ⟨b, 0, none⟩)] w fun e w' => e = .returned (.int .i64 bs.length) ∧ w' = w := Any.Builder_Len_f laysLenD B b bs w h
theorem bld_write (B b : Nat) (bs : List Value) (s : ByteArray) (w : World) (h : BldAt B b bs w) (hlen : bs.length + s.size ≤ 140737488355328) (hBw : B ≤ w.heap.size) :
    Calls Tryd.prog 24 #[.pointer (some ⟨b, 0, none⟩), .string s] w fun e w' => e = .returned (.tuple #[.int .i64 s.size, .nilIface]) ∧ BldAt B b (bs ++ Lib.strCells s) w' ∧ Below B w w' ∧ Beside b w w' :=
  (Any.Builder_WriteString_k { laysD with } extraD B b bs s w h hlen hBw).mono fun e w' ⟨he, h1, h2, h3⟩ => ⟨he, .inr h1, h2, h3⟩
theorem bld_string (B b : Nat) (l : List UInt8) (w : World) (h : BldAt B b (Lib.byteCells l) w) (h0 : l ≠ []) :
    Calls Tryd.prog 28 #[.pointer (some ⟨b, 0, none⟩)] w fun e w' => e = .returned (.string ⟨l.toArray⟩) ∧ Below B w w' :=
  (Any.Builder_String_k { laysD with } extraD B b l w h h0).mono fun e w' ⟨he, _, h2, _⟩ => ⟨he, h2⟩
theorem join_any (bk o c : Nat) (xs : List ByteArray) (sep : ByteArray) (w : World) (hcells : ∀ (j : Nat) x, xs[j]? = some x → w.cell? ⟨bk, o + j, none⟩ = some (.string x)) (hbk : bk < w.heap.size) (hN : xs.length ≤ 140737488355328) (hcap : xs.length ≤ c) (hlen : (Lib.join (xs.map (·.data.toList)) sep.data.toList).length ≤ 140737488355328) :
    Calls Tryd.prog 25 #[.slice (some ⟨bk, o, none⟩) xs.length c, .string sep] w fun e w' => e = .returned (.string ⟨(Lib.join (xs.map (·.data.toList)) sep.data.toList).toArray⟩) ∧ Below w.heap.size w w' := Any.strings_Join laysD extraD bk o c xs sep w hcells hbk hN hcap hlen
end Go.Proofs.YtjkmoahnociaiaaDoor
/- The text of a circuit, plain; a line of it, written into a builder. -/
namespace Go.Proofs.YtjkmoahnociaiaaDoor
open Go.RowKit

/-! A builder beside what is made. -/
theorem BldAt.at_ {B b : Nat} {bs : List Value} {w : World} (h : BldAt B b bs w) : ∃ p, Lib.BuilderAtF 53 5 B b p bs w := by
  rcases h with h | h
  · exact ⟨_, h⟩
  · exact ⟨_, h⟩
theorem BldAt.below {B b : Nat} {bs : List Value} {w w' : World} (h : BldAt B b bs w) (hb : Below w.heap.size w w') : BldAt B b bs w' := by
  have key : ∀ p, Lib.BuilderAtF 53 5 B b p bs w → Lib.BuilderAtF 53 5 B b p bs w' := fun p h => by
    have hlt := h.lt
    obtain ⟨hB, v, hbk, hown, hne⟩ := h
    exact ⟨hB, v, by rw [hb.block b hlt]; exact hbk, hown.kept (only_of_below hb none) (by cases hv : v.ownBlock <;> simp), hne⟩
  rcases h with h | h
  · exact .inl (key _ h)
  · exact .inr (key _ h)
theorem BldAt.new (w : World) : BldAt w.heap.size w.heap.size [] (w.alloc (.cells #[.pointer none, .slice none 0 0] 53)) :=
  Lib.IsBuilderF.of (.inl ⟨Nat.le_refl _, .slice none 0 0, heap_alloc_new w _, World.ownsRow_nil _ _ _ _, by simp [Value.ownBlock]⟩)
theorem BldAt.lt {B b : Nat} {bs : List Value} {w : World} (h : BldAt B b bs w) : b < w.heap.size := by
  obtain ⟨_, h⟩ := h.at_
  exact h.lt
theorem BldAt.typed {B b : Nat} {bs : List Value} {w : World} (h : BldAt B b bs w) : Typed w b 53 := by
  obtain ⟨p, _, v, hbk, _⟩ := h.at_
  exact ⟨_, hbk⟩
theorem Beside.of_below {b : Nat} {w w' : World} (h : Below w.heap.size w w') : Beside b w w' := fun k o hk _ _ => by
  rw [h.block k (Array.getElem?_eq_some_iff.1 hk).1]
  exact hk
theorem Beside.trans {b : Nat} {w w' w'' : World} (h : Beside b w w') (k : Beside b w' w'') : Beside b w w'' := Lib.OthersKept.trans h k
theorem Beside.blk {b : Nat} {w w' : World} (h : Beside b w w') {g : Nat} {t : TypeId} {l : List Value} (hg : Blk w g t l) (hb : g ≠ b) (ht : t ≠ 5) : Blk w' g t l :=
  h g _ hg (fun e => hb (Option.some.inj e)) (fun c fz e => by
    cases e
    exact ht rfl)

/-! The words. -/
def wCircuit : ByteArray := ⟨#[99, 105, 114, 99, 117, 105, 116]⟩
def wInput : ByteArray := ⟨#[105, 110, 112, 117, 116]⟩
def wGate : ByteArray := ⟨#[103, 97, 116, 101]⟩
def wMux : ByteArray := ⟨#[109, 117, 120]⟩
def wLatch : ByteArray := ⟨#[108, 97, 116, 99, 104]⟩
def wOutput : ByteArray := ⟨#[111, 117, 116, 112, 117, 116]⟩
def wEnd : ByteArray := ⟨#[101, 110, 100]⟩
def w0 : ByteArray := ⟨#[48]⟩
def w1 : ByteArray := ⟨#[49]⟩
def opWords : List ByteArray := [⟨#[122, 101, 114, 111]⟩, ⟨#[110, 111, 114]⟩, ⟨#[108, 101, 115, 115]⟩, ⟨#[110, 111, 116, 97]⟩, ⟨#[100, 105, 102, 102]⟩, ⟨#[110, 111, 116, 98]⟩, ⟨#[120, 111, 114]⟩, ⟨#[110, 97, 110, 100]⟩, ⟨#[97, 110, 100]⟩, ⟨#[105, 102, 102]⟩, ⟨#[98]⟩, ⟨#[105, 109, 112]⟩, ⟨#[97]⟩, ⟨#[114, 101, 118]⟩, ⟨#[111, 114]⟩, ⟨#[111, 110, 101]⟩]
def opW (op : Int) : ByteArray := opWords.getD op.toNat ⟨#[]⟩
def nmOf (gs : List Gt) (p : Int) : ByteArray := ((gs[p.toNat]?).map Gt.name).getD ⟨#[]⟩
def wordsG (gs : List Gt) (g : Gt) : List ByteArray :=
  if g.kind = 1 then [wInput, g.name]
  else if g.kind = 2 then [wGate, g.name, opW g.op, nmOf gs g.a, nmOf gs g.b]
  else if g.kind = 4 then [wMux, g.name, nmOf gs g.a, nmOf gs g.b, nmOf gs g.c]
  else [wLatch, g.name, if g.op = 1 then w1 else w0, nmOf gs g.a]
/-- The words of a line, a blank between any two. -/
def joinL (ws : List ByteArray) : List UInt8 := Lib.join (ws.map (·.data.toList)) [32]
def lineL (ws : List ByteArray) : List UInt8 := joinL ws ++ [10]
def gatesL (gs : List Gt) (k : Nat) : List UInt8 := (gs.take k).flatMap fun g => lineL (wordsG gs g)
def otL (gs : List Gt) (outs : List Int) (k : Nat) : List UInt8 := (outs.take k).flatMap fun p => lineL [wOutput, nmOf gs p]
def textL (c : Ct) : List UInt8 := lineL [wCircuit, c.name] ++ gatesL c.gs c.gs.length ++ otL c.gs c.outs c.outs.length ++ lineL [wEnd]
theorem gatesL_zero (gs : List Gt) : gatesL gs 0 = [] := by simp [gatesL]
theorem gatesL_succ {gs : List Gt} {k : Nat} {g : Gt} (hg : gs[k]? = some g) : gatesL gs (k + 1) = gatesL gs k ++ lineL (wordsG gs g) := by
  unfold gatesL
  rw [List.take_add_one, hg, List.flatMap_append]
  simp
theorem otL_zero (gs : List Gt) (outs : List Int) : otL gs outs 0 = [] := by simp [otL]
theorem otL_succ {gs : List Gt} {outs : List Int} {k : Nat} {p : Int} (hp : outs[k]? = some p) : otL gs outs (k + 1) = otL gs outs k ++ lineL [wOutput, nmOf gs p] := by
  unfold otL
  rw [List.take_add_one, hp, List.flatMap_append]
  simp
theorem nmOf_at {gs : List Gt} {q : Nat} {g : Gt} (hg : gs[q]? = some g) : nmOf gs (q : Int) = g.name := by
  unfold nmOf
  rw [Int.toNat_natCast, hg]
  rfl
theorem joinL_len {m : Nat} : ∀ (ws : List ByteArray), (∀ x ∈ ws, x.size ≤ m) → (joinL ws).length ≤ (m + 1) * ws.length
  | [], _ => by simp [joinL, Lib.join_nil]
  | x :: r, h => by
    have hx := h x (by simp)
    unfold joinL
    rw [List.map_cons, Lib.join_cons, List.length_append]
    have key : ∀ (l : List ByteArray), (∀ y ∈ l, y.size ≤ m) → (Lib.joinTail [32] (l.map (·.data.toList))).length ≤ (m + 1) * l.length := fun l => by
      induction l with
      | nil => intro _; simp [Lib.joinTail]
      | cons y t ih =>
        intro hl
        have h1 := ih fun z hz => hl z (List.mem_cons_of_mem _ hz)
        have h2 := hl y (by simp)
        have h3 : y.data.toList.length = y.size := rfl
        unfold Lib.joinTail at h1 ⊢
        simp only [List.map_cons, List.flatten_cons, List.length_append, List.length_cons, List.length_nil, Nat.mul_add, Nat.mul_one] at h1 ⊢
        omega
    have h1 := key r fun y hy => h y (List.mem_cons_of_mem _ hy)
    have h3 : x.data.toList.length = x.size := rfl
    rw [List.length_cons, Nat.mul_add, Nat.mul_one]
    omega
theorem lineL_len {ws : List ByteArray} (h : ∀ x ∈ ws, x.size ≤ 63) (hl : ws.length ≤ 5) : (lineL ws).length ≤ 321 := by
  have h1 := joinL_len ws h
  have h2 : 64 * ws.length ≤ 320 := by omega
  unfold lineL
  rw [List.length_append]
  simp
  omega

set_option maxRecDepth 100000 in
set_option maxHeartbeats 4000000 in
/-- A line, written. -/
theorem line_any (B b bk c k : Nat) (ws : List ByteArray) (bs : List UInt8) (w : World) (h : BldAt B b (Lib.byteCells bs) w) (hc : ∀ (j : Nat) x, ws[j]? = some x → w.cell? ⟨bk, 0 + j, none⟩ = some (.string x)) (hbk : bk < w.heap.size) (hk : ws.length = k) (hws : k ≤ 5) (hsz : ∀ x ∈ ws, x.size ≤ 63) (hcap : k ≤ c) (hl : bs.length ≤ 1000000000) (hB : B ≤ w.heap.size) :
    Calls Tryd.prog 23 #[.slice (some ⟨bk, 0, none⟩) k c, .pointer (some ⟨b, 0, none⟩)] w fun e w' => e = .returned (.tuple #[]) ∧ BldAt B b (Lib.byteCells (bs ++ lineL ws)) w' ∧ Below B w w' ∧ Beside b w w' := by
  have hll := lineL_len hsz (by omega)
  have hjl : (joinL ws).length ≤ 320 := by
    unfold lineL at hll
    rw [List.length_append] at hll
    simp at hll
    omega
  have hj : Calls Tryd.prog 25 #[.slice (some ⟨bk, 0, none⟩) k c, .string ⟨#[32]⟩] w fun e w' => e = .returned (.string ⟨(joinL ws).toArray⟩) ∧ Below w.heap.size w w' := by
    have := join_any bk 0 c ws ⟨#[32]⟩ w hc hbk (by omega) (by omega) (by unfold joinL at hjl; exact Nat.le_trans hjl (by omega))
    rw [hk] at this
    exact this
  have hadd : (⟨(joinL ws).toArray⟩ : ByteArray) ++ ⟨#[10]⟩ = ⟨(lineL ws).toArray⟩ := by
    apply ByteArray.ext
    rw [ByteArray.data_append]
    simp [lineL]
  have hsz1 : (⟨(joinL ws).toArray⟩ : ByteArray).size + (⟨#[10]⟩ : ByteArray).size ≤ 9223372036854775807 := by
    have e1 : (⟨(joinL ws).toArray⟩ : ByteArray).size = (joinL ws).length := by simp [ByteArray.size]
    have e2 : (⟨#[10]⟩ : ByteArray).size = 1 := rfl
    omega
  have hrun := fun W => run_string_add_sum (P := Tryd.prog) (w := W) (⟨(joinL ws).toArray⟩ : ByteArray) ⟨#[10]⟩ hsz1
  obtain ⟨sJ, hsJ⟩ : ∃ s : ByteArray, ⟨(joinL ws).toArray⟩ = s := ⟨_, rfl⟩
  obtain ⟨sL, hsL⟩ : ∃ s : ByteArray, ⟨(lineL ws).toArray⟩ = s := ⟨_, rfl⟩
  rw [hsJ] at hj hadd hrun hsz1
  rw [hsL] at hadd
  rw [hadd] at hrun
  have hcell : Lib.byteCells bs ++ Lib.strCells sL = Lib.byteCells (bs ++ lineL ws) := by
    rw [Lib.byteCells_append, ← hsL]
    rfl
  have hw : ∀ W, Below w.heap.size w W → Calls Tryd.prog 24 #[.pointer (some ⟨b, 0, none⟩), .string sL] W fun e w' => e = .returned (.tuple #[.int .i64 sL.size, .nilIface]) ∧ BldAt B b (Lib.byteCells (bs ++ lineL ws)) w' ∧ Below B W w' ∧ Beside b W w' := fun W hW => by
    rw [← hcell]
    have hs : sL.size = (lineL ws).length := by rw [← hsL]; simp [ByteArray.size]
    exact bld_write B b (Lib.byteCells bs) sL W (h.below hW) (by rw [Lib.byteCells_length]; omega) (Nat.le_trans hB hW.size)
  have HW := Lib.hid hw
  have h63 : ¬ 9223372036854775807 < sJ.size + 1 := by
    have e2 : (⟨#[10]⟩ : ByteArray).size = 1 := rfl
    omega
  clear hw hsz1 hll hjl h hc hsz hsJ hsL hcell
  go_enter Tryd.func23, Tryd.ntmps23
  go_wp2_with (first
    | ((go_at_call 25; with_reducible refine hj.mono ?_; rintro e w1 ⟨rfl, hb1⟩; have HB1 := Lib.hid hb1; have hw1 := HW.out w1 hb1))
    | ((go_at_call 24; with_reducible refine hw1.mono ?_; rintro e w2 ⟨rfl, hbl, hb2, hk2⟩)))
  go_end0
  exact ⟨rfl, hbl, (HB1.out.mono hB).trans hb2, (Beside.of_below HB1.out).trans hk2⟩

/-- A line of words that are laid just ahead of the call. -/
theorem line_lit (B b k : Nat) (ws : List ByteArray) (bs : List UInt8) (w : World) (h : BldAt B b (Lib.byteCells bs) w) (hk : ws.length = k) (hws : k ≤ 5) (hsz : ∀ x ∈ ws, x.size ≤ 63) (hl : bs.length ≤ 1000000000) (hB : B ≤ w.heap.size) :
    Calls Tryd.prog 23 #[.slice (some ⟨w.heap.size, 0, none⟩) k k, .pointer (some ⟨b, 0, none⟩)] (w.alloc (.cells (ws.map Value.string).toArray 9)) fun e w' => e = .returned (.tuple #[]) ∧ BldAt B b (Lib.byteCells (bs ++ lineL ws)) w' ∧ Below B w w' ∧ Beside b w w' := by
  have hbl := below1 w (.cells (ws.map Value.string).toArray 9)
  have hblk := Blk.new w 9 (ws.map Value.string)
  have hs : (w.alloc (.cells (ws.map Value.string).toArray 9)).heap.size = w.heap.size + 1 := by simp
  refine (line_any B b w.heap.size k k ws bs _ (h.below hbl) (fun j x hx => ?_) (by omega) hk hws hsz (Nat.le_refl _) hl (by omega)).mono ?_
  · rw [hblk.cell, Nat.zero_add, List.getElem?_map, hx]
    rfl
  · rintro e w' ⟨rfl, h1, h2, h3⟩
    exact ⟨rfl, h1, (hbl.mono hB).trans h2, (Beside.of_below hbl).trans h3⟩

set_option maxHeartbeats 4000000 in
/-- A line's name. -/
theorem name_any (bx q n m ca cb : Nat) (name : ByteArray) (gs : List Gt) (A B : Option Addr) (w : World) (hX : Blk w bx 25 [.string name, .slice A n ca, .slice B m cb]) (hA : CReads w A (gcells gs)) (hn : gs.length = n) (hq : q < n) :
    Calls Tryd.prog 26 #[.int .i64 (q : Int), .pointer (some ⟨bx, 0, none⟩)] w fun e w' => e = .returned (.string (nmOf gs (q : Int))) ∧ w' = w := by
  obtain ⟨g, hg⟩ : ∃ g, gs[q]? = some g := ⟨_, List.getElem?_eq_getElem (by omega)⟩
  rw [nmOf_at hg]
  obtain ⟨ab, ao, rfl, hc⟩ := greads_at hA hg
  obtain ⟨_, c1, _⟩ := hc
  have x1 : w.cell? ⟨bx, 1, none⟩ = some (.slice (some ⟨ab, ao, none⟩) n ca) := (hX.cell 1).trans rfl
  have h0 : (0 : Int) ≤ (q : Int) := by omega
  have h1 : (q : Int) < (n : Int) := by omega
  clear hX hA hg
  go_enter Tryd.func26, Tryd.ntmps26
  go_wp2
  go_ret
  exact ⟨rfl, rfl⟩
/-- A circuit, but for circles. -/
structure NetP (c : Ct) : Prop where
  name : NameP c.name
  gl : c.gs.length ≤ 65536
  ol : c.outs.length ≤ 65536
  lines : LinesP c.gs.length c.gs
  nd : (c.gs.map Gt.name).Nodup
  outs : OutsP c.gs.length c.outs
theorem FormedP.net {c : Ct} (h : FormedP c) : NetP c := ⟨h.name, h.gl, h.ol, h.lines, h.nd, h.outs⟩
end Go.Proofs.YtjkmoahnociaiaaDoor
/- A drawn region walked by hand: an operation that is taken first, wanted or not, and a call that alone may come up. -/
namespace Go.Proofs.YtjkmoahnociaiaaDoor
open Go.RowKit

section
variable {P : Program} {ops : Array Oper} {Q : Exit → Act → World → Prop} {md : Region.Mode} {S : World → Prop}

theorem drop_at {i : Nat} {oi : Oper} {tl : List Oper} (h : ops.toList.drop i = oi :: tl) : ops[i]? = some oi := by
  rw [← Array.getElem?_toList, ← List.head?_drop, h]; rfl

theorem takeOn {i : Nat} {oi : Oper} {tl : List Oper} {v : Value} {fuel : Nat} {listed : Array Bool} {a : Act} {w : World} (hl : ops.toList.drop i = oi :: tl)
    (hs : Region.noSelect ops = true) (hf : Region.free md ops listed i = true) (hr : (Region.ready md ops listed).contains i = true)
    (hQ : ∀ c a w, Q (.panic c) (a.put oi.dst v) w → Q (.panic c) a w) (hw : Region.wanted oi (yielded ops a.tmps) = true)
    (hy : ∀ w, S w → (execOp a.eval oi).run P w = .ok (.value v) w) (hS : S w)
    (h : wpAnyH P md ops Q S fuel (listed.setIfInBounds i true) (a.put oi.dst v) w) : wpAnyH P md ops Q S (fuel + 1) listed a w :=
  wpAnyH_take (drop_at hl) hs hf hr hQ (Or.inl ⟨hw, hy⟩) hS h

theorem takeOff {i : Nat} {oi : Oper} {tl : List Oper} {fuel : Nat} {listed : Array Bool} {a : Act} {w : World} (hl : ops.toList.drop i = oi :: tl)
    (hs : Region.noSelect ops = true) (hf : Region.free md ops listed i = true) (hr : (Region.ready md ops listed).contains i = true)
    (hQ : ∀ c a w, Q (.panic c) (a.put oi.dst undef) w → Q (.panic c) a w) (hw : Region.wanted oi (yielded ops a.tmps) = false) (hS : S w)
    (h : wpAnyH P md ops Q S fuel (listed.setIfInBounds i true) (a.put oi.dst undef) w) : wpAnyH P md ops Q S (fuel + 1) listed a w :=
  wpAnyH_take (drop_at hl) hs hf hr hQ (Or.inr ⟨hw, rfl⟩) hS h

theorem callOn {i : Nat} {oi : Oper} {tl : List Oper} {fuel : Nat} {listed : Array Bool} {a : Act} {w : World} (hl : ops.toList.drop i = oi :: tl)
    (hr : Region.ready md ops listed = [i]) (hw : Region.wanted oi (yielded ops a.tmps) = true)
    (h : ∀ K' : Act → World → Prop, Shut (∀ a w, S w → (S w → wpAnyH P md ops Q S fuel (listed.setIfInBounds i true) a w) → K' a w) → Oper.wp P oi a w K' Q) :
    wpAnyH P md ops Q S (fuel + 1) listed a w :=
  wpAnyH_ready hr (by simp) (AllReadyH.cons (drop_at hl) (fun K' hK => by rw [if_pos hw]; exact h K' hK) AllReadyH.nil)
end
end Go.Proofs.YtjkmoahnociaiaaDoor
