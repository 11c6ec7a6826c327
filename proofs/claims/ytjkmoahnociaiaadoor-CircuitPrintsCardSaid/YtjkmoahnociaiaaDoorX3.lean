/- On what a line leans, by both texts. -/
import Derived.Test.YtjkmoahnociaiaaDoorX2
namespace Go.Proofs.YtjkmoahnociaiaaDoor
open Go.RowKit

def Gt.arr (g : Gt) : List Int := if g.kind = 2 then [g.a, g.b, 0] else if g.kind = 4 then [g.a, g.b, g.c] else [0, 0, 0]
theorem blk_new2 (w : World) (o : Obj) (t : TypeId) (l : List Value) : Blk ((w.alloc o).alloc (.cells l.toArray t)) (w.heap.size + 1) t l := by
  have := Blk.new (w.alloc o) t l
  simpa using this
/-- A list of numbers that the call made. -/
def NewInts (w : World) (l : List Int) (e : Ending) (w' : World) : Prop := ∃ A c, e = .returned (.slice A l.length c) ∧ Hid (Owns w' w.heap.size 3 (.slice A l.length c) (nums .i64 l)) ∧ Below w.heap.size w w'
set_option maxHeartbeats 1000000 in
theorem leans_any (g : Gt) (w : World) : Calls Tryd.prog 47 #[g.agg] w (NewInts w g.leans) := by
  obtain ⟨kind, name, op, a, b, c⟩ := g
  unfold Gt.agg Gt.leans
  dsimp only
  by_cases k2 : kind = 2
  · subst k2
    rw [if_pos rfl]
    go_enter Tryd.func47, Tryd.ntmps47
    go_wp2
    go_ret
    exact ⟨_, _, rfl, Lib.hid (Owns.blk (l := [a, b]) (blk_new2 _ _ _ _) (by omega) rfl (by simp [maxLen])), below2 _ _ _⟩
  by_cases k4 : kind = 4
  · subst k4
    rw [if_neg (by decide), if_pos rfl]
    go_enter Tryd.func47, Tryd.ntmps47
    go_wp2
    go_ret
    exact ⟨_, _, rfl, Lib.hid (Owns.blk (l := [a, b, c]) (blk_new2 _ _ _ _) (by omega) rfl (by simp [maxLen])), below2 _ _ _⟩
  · rw [if_neg k2, if_neg k4]
    have e2 : (kind == 2) = false := by simpa using k2
    have e4 : (kind == 4) = false := by simpa using k4
    clear k2 k4
    go_enter Tryd.func47, Tryd.ntmps47
    go_wp2
    go_ret
    exact ⟨_, _, rfl, Lib.hid (owns_nil _ _ _), below1 _ _⟩
def LeansR (w : World) (g : Gt) (e : Ending) (w' : World) : Prop := e = .returned (.tuple #[.int .i64 g.leans.length, .agg (nums .i64 g.arr).toArray]) ∧ Below w.heap.size w w'
set_option maxHeartbeats 1000000 in
theorem leans_ref (g : Gt) (w : World) : Calls Tryd.prog 69 #[g.agg] w (LeansR w g) := by
  obtain ⟨kind, name, op, a, b, c⟩ := g
  unfold LeansR Gt.agg Gt.leans Gt.arr
  dsimp only
  by_cases k2 : kind = 2
  · subst k2
    rw [if_pos rfl, if_pos rfl]
    go_enter Tryd.func69, Tryd.ntmps69
    go_upto_region 3 with (fail)
    go_region_with (fail)
    all_goals
      go_wp2
      exact bodyPost_ret (v := .tuple #[.int .i64 2, .agg #[.int .i64 a, .int .i64 b, .int .i64 0]]) (by simp [results, Tryd.results69, go_sem]) rfl ⟨rfl, below_drew0 (below2 _ _ _)⟩
  by_cases k4 : kind = 4
  · subst k4
    rw [if_neg (by decide), if_pos rfl, if_neg (by decide), if_pos rfl]
    go_enter Tryd.func69, Tryd.ntmps69
    go_upto_region 5 with (fail)
    go_region_with (fail)
    all_goals
      go_wp2
      exact bodyPost_ret (v := .tuple #[.int .i64 3, .agg #[.int .i64 a, .int .i64 b, .int .i64 c]]) (by simp [results, Tryd.results69, go_sem]) rfl ⟨rfl, below_drew0 (below2 _ _ _)⟩
  · rw [if_neg k2, if_neg k4, if_neg k2, if_neg k4]
    have e2 : (kind == 2) = false := by simpa using k2
    have e4 : (kind == 4) = false := by simpa using k4
    clear k2 k4
    go_enter Tryd.func69, Tryd.ntmps69
    go_wp2
    exact bodyPost_ret (v := .tuple #[.int .i64 0, .agg #[.int .i64 0, .int .i64 0, .int .i64 0]]) (by simp [results, Tryd.results69, go_sem]) rfl ⟨rfl, below2 _ _ _⟩
end Go.Proofs.YtjkmoahnociaiaaDoor
