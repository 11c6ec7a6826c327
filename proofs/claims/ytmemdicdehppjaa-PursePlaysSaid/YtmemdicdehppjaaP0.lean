/- The purse in memory; what its inner functions answer: out, free, asked, risen. -/
import Derived.Test.YtmemdicdehppjaaG1
import Derived.Test.YtmemdicdehppjaaL0
import Derived.Defers
import Derived.Laws.LoneSync
import Derived.Deep.RegionWith
import Derived.Lib.MinMax
namespace Go.Proofs.Ytmemdicdehppjaa
open Go.RowKit Go.MuLone

/-- A purse, or a part: what its cells say. -/
structure PS where
  limit : Int
  hand : Int
  parts : Int
  cnt : Int
  closed : Bool
  peak : Int
  lk : Nat
  up : Option Nat
def PS.cells (p : PS) : List Value := [.pointer (some ⟨p.lk, 0, none⟩), .int .i64 p.limit, .int .i64 p.hand, .int .i64 p.parts, .int .i64 p.cnt, .bool p.closed, .int .i64 p.peak, .pointer (p.up.map fun b => ⟨b, 0, none⟩)]
def PS.out (p : PS) : Int := p.hand + p.parts
/-- Block b is that purse; its lock is free. -/
def IsP (w : World) (b : Nat) (p : PS) : Prop := Blk w b 60 p.cells ∧ Blk w p.lk 54 [.int .i32 0, .int .u32 0]
/-- The numbers of a purse, as they must be. -/
structure PS.Good (p : PS) : Prop where
  l0 : 0 ≤ p.limit
  l1 : p.limit ≤ 9223372036854775807
  h0 : 0 ≤ p.hand
  p0 : 0 ≤ p.parts
  o1 : p.hand + p.parts ≤ p.limit
  c0 : 0 ≤ p.cnt
  k0 : 0 ≤ p.peak
  k1 : p.peak ≤ p.limit

theorem Blk.ne {w : World} {a b : Nat} {t u : TypeId} {l m : List Value} (ha : Blk w a t l) (hb : Blk w b u m) (h : t ≠ u) : a ≠ b := by
  rintro rfl
  unfold Blk at ha hb
  rw [ha] at hb
  cases hb
  exact h rfl
theorem blk_drewN {w : World} {b : Nat} {t : TypeId} {l : List Value} (h : Blk w b t l) (n : Nat) : Blk (w.drewN n) b t l := h

/-- The cells of a purse's block, one by one. -/
structure Cells (w : World) (b : Nat) (p : PS) : Prop where
  c0 : w.cell? ⟨b, 0, none⟩ = some (.pointer (some ⟨p.lk, 0, none⟩))
  c1 : w.cell? ⟨b, 1, none⟩ = some (.int .i64 p.limit)
  c2 : w.cell? ⟨b, 2, none⟩ = some (.int .i64 p.hand)
  c3 : w.cell? ⟨b, 3, none⟩ = some (.int .i64 p.parts)
  c4 : w.cell? ⟨b, 4, none⟩ = some (.int .i64 p.cnt)
  c5 : w.cell? ⟨b, 5, none⟩ = some (.bool p.closed)
  c6 : w.cell? ⟨b, 6, none⟩ = some (.int .i64 p.peak)
  c7 : w.cell? ⟨b, 7, none⟩ = some (.pointer (p.up.map fun b => ⟨b, 0, none⟩))
theorem cells_of {w : World} {b : Nat} {p : PS} (h : Blk w b 60 p.cells) : Cells w b p := by
  constructor <;> rw [h.cell] <;> rfl

set_option maxHeartbeats 1000000 in
theorem out_any (b : Nat) (p : PS) (w : World) (h : Blk w b 60 p.cells) (hg : p.Good) :
    Calls Try.prog 25 #[.pointer (some ⟨b, 0, none⟩)] w fun e w' => e = .returned (.int .i64 (p.hand + p.parts)) ∧ ∃ n, w' = w.drewN n := by
  obtain ⟨li, ha, pa, cn, cl, pk, lk, up⟩ := p
  obtain ⟨c0, c1, c2, c3, c4, c5, c6, c7⟩ := cells_of h
  obtain ⟨l0, l1, h0, p0, o1, k0, m0, m1⟩ := hg
  dsimp only at *
  clear h
  have hw : IntKind.i64.wrap (ha + pa) = ha + pa := by rw [IntKind.wrap_i64]; omega
  go_enter Try.func25, Try.ntmps25
  go_wp2
  go_quiet (fail)
  go_wp2
  go_ret
  exact ⟨rfl, _, rfl⟩
set_option maxHeartbeats 1000000 in
theorem free_any (b : Nat) (p : PS) (w : World) (h : Blk w b 60 p.cells) (hg : p.Good) :
    Calls Try.prog 26 #[.pointer (some ⟨b, 0, none⟩)] w fun e w' => e = .returned (.int .i64 (p.limit - (p.hand + p.parts))) ∧ ∃ n, w' = w.drewN n := by
  have ho : ∀ n, Calls Try.prog 25 #[.pointer (some ⟨b, 0, none⟩)] (w.drewN n) fun e w' => e = .returned (.int .i64 (p.hand + p.parts)) ∧ ∃ m, w' = (w.drewN n).drewN m := fun n => out_any b p _ h hg
  obtain ⟨li, ha, pa, cn, cl, pk, lk, up⟩ := p
  obtain ⟨c0, c1, c2, c3, c4, c5, c6, c7⟩ := cells_of h
  obtain ⟨l0, l1, h0, p0, o1, k0, m0, m1⟩ := hg
  dsimp only at *
  clear h
  have hw : IntKind.i64.wrap (li - (ha + pa)) = li - (ha + pa) := by rw [IntKind.wrap_i64]; omega
  go_enter Try.func26, Try.ntmps26
  go_wp2
  go_quiet ((go_at_call 25; exact Calls.quiet_of (ho _)))
  go_wp2
  go_ret
  exact ⟨rfl, _, rfl⟩
/-- What asked answers. -/
def askE (p : PS) (n : Int) : Int := if p.closed then 6 else if n < 0 then 1 else if p.limit - (p.hand + p.parts) < n then 2 else 0
set_option maxHeartbeats 1000000 in
theorem asked_any (b : Nat) (p : PS) (n : Int) (w : World) (h : Blk w b 60 p.cells) (hg : p.Good) :
    Calls Try.prog 23 #[.pointer (some ⟨b, 0, none⟩), .int .i64 n] w fun e w' => e = .returned (.int .i64 (askE p n)) ∧ ∃ n, w' = w.drewN n := by
  have ho := free_any b p w h hg
  obtain ⟨li, ha, pa, cn, cl, pk, lk, up⟩ := p
  obtain ⟨c0, c1, c2, c3, c4, c5, c6, c7⟩ := cells_of h
  dsimp only at *
  clear h
  cases cl
  · by_cases n0 : n < 0
    · have HE : Hid (askE ⟨li, ha, pa, cn, false, pk, lk, up⟩ n = 1) := Lib.hid (by simp [askE, n0])
      go_enter Try.func23, Try.ntmps23
      go_wp2
      go_ret
      exact ⟨ret_int HE.out.symm, 0, rfl⟩
    · by_cases n1 : li - (ha + pa) < n
      · have HE : Hid (askE ⟨li, ha, pa, cn, false, pk, lk, up⟩ n = 2) := Lib.hid (by simp [askE, n0, n1])
        have e1 : decide (li - (ha + pa) < n) = true := by simpa using n1
        generalize li - (ha + pa) = fr at *
        go_enter Try.func23, Try.ntmps23
        go_wp2_with (go_at_call 26; refine ho.mono ?_; rintro e w' ⟨rfl, k, rfl⟩)
        go_ret
        exact ⟨ret_int HE.out.symm, k, rfl⟩
      · have HE : Hid (askE ⟨li, ha, pa, cn, false, pk, lk, up⟩ n = 0) := Lib.hid (by simp [askE, n0, n1])
        have e1 : decide (li - (ha + pa) < n) = false := by simpa using n1
        generalize li - (ha + pa) = fr at *
        go_enter Try.func23, Try.ntmps23
        go_wp2_with (go_at_call 26; refine ho.mono ?_; rintro e w' ⟨rfl, k, rfl⟩)
        go_ret
        exact ⟨ret_int HE.out.symm, k, rfl⟩
  · have HE : Hid (askE ⟨li, ha, pa, cn, true, pk, lk, up⟩ n = 6) := Lib.hid (by simp [askE])
    go_enter Try.func23, Try.ntmps23
    go_wp2
    go_ret
    exact ⟨ret_int HE.out.symm, 0, rfl⟩
theorem load_any (b : Nat) (x : Int) (w : World) (h : w.cell? ⟨b, 6, none⟩ = some (.int .i64 x)) :
    Calls Try.prog 27 #[.pointer (some ⟨b, 6, none⟩)] w fun e w' => e = .returned (.int .i64 x) ∧ w' = w := by
  have hld := run_call_load (P := Try.prog) Try.func40 (by kernel_rfl) (by kernel_rfl) (by kernel_rfl) .i64 (by kernel_rfl) h
  go_enter Try.func27, Try.ntmps27
  go_wp2
  go_ret
  exact ⟨rfl, rfl⟩
theorem store_any (b : Nat) (u : Value) (y : Int) (w : World) (h : w.cell? ⟨b, 6, none⟩ = some u) (hz : w.frozen? ⟨b, 6, none⟩ = false) :
    Calls Try.prog 39 #[.pointer (some ⟨b, 6, none⟩), .int .i64 y] w fun e w' => e = .returned (.tuple #[]) ∧ w' = w.setCell ⟨b, 6, none⟩ (.int .i64 y) := by
  have hst := run_call_store (P := Try.prog) Try.func51 (by kernel_rfl) (by kernel_rfl) (by kernel_rfl) (by kernel_rfl) (k := .i64) (y := y) h hz
  go_enter Try.func39, Try.ntmps39
  go_wp2
  go_end0
  exact ⟨rfl, rfl⟩
set_option maxHeartbeats 1000000 in
theorem risen_any (b : Nat) (p : PS) (w : World) (h : Blk w b 60 p.cells) (hg : p.Good) :
    Calls Try.prog 24 #[.pointer (some ⟨b, 0, none⟩)] w fun e w' => e = .returned (.tuple #[]) ∧ Blk w' b 60 { p with peak := max p.peak (p.hand + p.parts) }.cells ∧ w.grownBy w' (some b) := by
  have ho := Lib.hid (fun (W : World) (hW : Blk W b 60 p.cells) => out_any b p W hW hg)
  have hz := h.frozen 6
  have HH := Lib.hid h
  obtain ⟨li, ha, pa, cn, cl, pk, lk, up⟩ := p
  obtain ⟨c0, c1, c2, c3, c4, c5, c6, c7⟩ := cells_of h
  obtain ⟨l0, l1, h0, p0, o1, k0, m0, m1⟩ := hg
  dsimp only at *
  obtain ⟨s, hs⟩ : ∃ s, ha + pa = s := ⟨_, rfl⟩
  have HS : Hid (ha + pa = s) := Lib.hid hs
  obtain ⟨m, hm⟩ : ∃ m, max pk s = m := ⟨_, rfl⟩
  have hmx : ∀ (w : World) (ts : Array TypeId) (t : TypeId), (Builtin.max_ ts t #[.int .i64 pk, .int .i64 s]).run Try.prog w = .ok (.int .i64 m) w := fun w ts t => by rw [Lib.run_max_ints, hm]
  have hmax : Hid (∀ W : World, Blk W b 60 (PS.cells ⟨li, ha, pa, cn, cl, pk, lk, up⟩) → Blk (W.setCell ⟨b, 6, none⟩ (.int .i64 m)) b 60 (PS.cells ⟨li, ha, pa, cn, cl, max pk (ha + pa), lk, up⟩)) := Lib.hid (fun W hW => by rw [hs, hm]; exact hW.set_ 6 _)
  clear hm
  clear hs h
  rw [HS.out] at ho
  go_enter Try.func24, Try.ntmps24
  go_wp2
  go_region_held3 (fun w' => True) (trivial) (first | ((go_at_call 27; refine (load_any b pk _ (by exact c6)).mono ?_; rintro e w1 ⟨rfl, rfl⟩)) | ((go_at_call 25; refine (ho.out _ (by exact HH.out)).mono ?_; rintro e w1 ⟨rfl, k, rfl⟩)) | ((go_at_call 39; refine (store_any b _ _ _ (by exact c6) (by exact hz)).mono ?_; rintro e w1 ⟨rfl, rfl⟩)))
  all_goals
    go_end0
    exact ⟨rfl, hmax.out _ HH.out, only_setCell (only_drewN (only_refl _ _) _) (.inl rfl) _⟩
end Go.Proofs.Ytmemdicdehppjaa
