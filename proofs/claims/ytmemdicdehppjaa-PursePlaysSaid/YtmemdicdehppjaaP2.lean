/- Used, Free, Peak, Limit, begun of the purse's laws. -/
import Derived.Test.YtmemdicdehppjaaP1
namespace Go.Proofs.Ytmemdicdehppjaa
open Go.RowKit Go.MuLone

set_option maxHeartbeats 1000000 in
theorem used_any (b : Nat) (p : PS) (w : World) (h : IsP w b p) (hg : p.Good) :
    Calls Try.prog 11 #[.pointer (some ⟨b, 0, none⟩)] w fun e w' => e = .returned (.int .i64 (p.hand + p.parts)) ∧ w.grownBy w' none := by
  have HH := Lib.hid h
  have HT := Lib.hid h.take
  have hlk := h.ne
  have HN := Lib.hid hlk
  have d0 := (cells_of h.1).c0
  have e0 : w.cell? ⟨p.lk, 0, none⟩ = some (.int .i32 0) := by rw [h.2.cell]; rfl
  have f0 : w.frozen? ⟨p.lk, 0, none⟩ = false := h.2.frozen 0
  have d1 := (cells_of HT.out.1).c0
  have hout := out_any b p _ HT.out.1 hg
  obtain ⟨li, ha, pa, cn, cl, pk, lk, up⟩ := p
  dsimp only at *
  have HW : Hid (∀ w1 w2, (w.setCell ⟨lk, 0, none⟩ (.int .i32 1)).grownBy w1 none → w2 = w1.setCell ⟨lk, 0, none⟩ (.int .i32 0) → w.grownBy w2 none) := Lib.hid (fun w1 w2 h1 h2 => only_lock0 HH.out.2 h1 h2)
  clear h hlk HH
  generalize ha + pa = s at *
  go_enter_defers Try.func11, Try.ntmps11
  go_upto_region 3 with (go_at_call 21; refine (lock_free muLib ⟨lk, 0, none⟩ _ e0 f0).mono ?_; rintro e w' ⟨rfl, rfl⟩)
  generalize w.setCell ⟨lk, 0, none⟩ (.int .i32 1) = W at *
  go_wp2_with (go_at_call 25; refine hout.mono ?_; rintro e w' ⟨rfl, k, rfl⟩)
  refine leaves_cons (f := 22) (args := #[.pointer (some ⟨lk, 0, none⟩)]) (by simp) (by simp [go_sem]) ?_
  refine (unlock_deferred muLib ⟨lk, 0, none⟩ .returning _ (by exact (HT.out.2.1.cell 0).trans rfl) (by exact HT.out.2.1.frozen 0)).mono ?_
  rintro e u' w'' ⟨rfl, rfl, rfl⟩
  exact ⟨_, results_tmp (t := 2) rfl _ _ _, rfl, HW.out _ _ (only_drewN (only_refl _ _) k) rfl⟩
def freeV (p : PS) : Int := if p.closed then 0 else p.limit - (p.hand + p.parts)
set_option maxHeartbeats 1000000 in
theorem freeM_any (b : Nat) (p : PS) (w : World) (h : IsP w b p) (hg : p.Good) :
    Calls Try.prog 12 #[.pointer (some ⟨b, 0, none⟩)] w fun e w' => e = .returned (.int .i64 (freeV p)) ∧ w.grownBy w' none := by
  have HH := Lib.hid h
  have HT := Lib.hid h.take
  have hlk := h.ne
  have HN := Lib.hid hlk
  have d0 := (cells_of h.1).c0
  have e0 : w.cell? ⟨p.lk, 0, none⟩ = some (.int .i32 0) := by rw [h.2.cell]; rfl
  have f0 : w.frozen? ⟨p.lk, 0, none⟩ = false := h.2.frozen 0
  have d1 := (cells_of HT.out.1).c0
  have d5 := (cells_of HT.out.1).c5
  have hout := free_any b p _ HT.out.1 hg
  obtain ⟨li, ha, pa, cn, cl, pk, lk, up⟩ := p
  dsimp only at *
  have HW : Hid (∀ w1 w2, (w.setCell ⟨lk, 0, none⟩ (.int .i32 1)).grownBy w1 none → w2 = w1.setCell ⟨lk, 0, none⟩ (.int .i32 0) → w.grownBy w2 none) := Lib.hid (fun w1 w2 h1 h2 => only_lock0 HH.out.2 h1 h2)
  clear h hlk HH
  obtain ⟨s, hs⟩ : ∃ s, li - (ha + pa) = s := ⟨_, rfl⟩
  have HS := Lib.hid hs
  rw [hs] at hout
  clear hs
  cases cl
  · have HE : Hid (freeV ⟨li, ha, pa, cn, false, pk, lk, up⟩ = s) := Lib.hid (by unfold freeV; simp [HS.out])
    go_enter_defers Try.func12, Try.ntmps12
    go_upto_region 3 with (go_at_call 21; refine (lock_free muLib ⟨lk, 0, none⟩ _ e0 f0).mono ?_; rintro e w' ⟨rfl, rfl⟩)
    generalize w.setCell ⟨lk, 0, none⟩ (.int .i32 1) = W at *
    go_wp2_with (go_at_call 26; refine hout.mono ?_; rintro e w' ⟨rfl, k, rfl⟩)
    refine leaves_cons (f := 22) (args := #[.pointer (some ⟨lk, 0, none⟩)]) (by simp) (by simp [go_sem]) ?_
    refine (unlock_deferred muLib ⟨lk, 0, none⟩ .returning _ (by exact (HT.out.2.1.cell 0).trans rfl) (by exact HT.out.2.1.frozen 0)).mono ?_
    rintro e u' w'' ⟨rfl, rfl, rfl⟩
    exact ⟨_, results_tmp (t := 2) rfl _ _ _, ret_int HE.out.symm, HW.out _ _ (only_drewN (only_refl _ _) k) rfl⟩
  · have HE : Hid (freeV ⟨li, ha, pa, cn, true, pk, lk, up⟩ = 0) := Lib.hid (by unfold freeV; simp)
    go_enter_defers Try.func12, Try.ntmps12
    go_upto_region 3 with (go_at_call 21; refine (lock_free muLib ⟨lk, 0, none⟩ _ e0 f0).mono ?_; rintro e w' ⟨rfl, rfl⟩)
    generalize w.setCell ⟨lk, 0, none⟩ (.int .i32 1) = W at *
    go_wp2_with (fail)
    refine leaves_cons (f := 22) (args := #[.pointer (some ⟨lk, 0, none⟩)]) (by simp) (by simp [go_sem]) ?_
    refine (unlock_deferred muLib ⟨lk, 0, none⟩ .returning _ (by exact (HT.out.2.1.cell 0).trans rfl) (by exact HT.out.2.1.frozen 0)).mono ?_
    rintro e u' w'' ⟨rfl, rfl, rfl⟩
    exact ⟨_, results_tmp (t := 2) rfl _ _ _, ret_int HE.out.symm, HW.out _ _ (only_refl _ _) rfl⟩
theorem peak_any (b : Nat) (p : PS) (w : World) (h : Blk w b 60 p.cells) : Calls Try.prog 13 #[.pointer (some ⟨b, 0, none⟩)] w fun e w' => e = .returned (.int .i64 p.peak) ∧ w' = w := by
  have c6 := (cells_of h).c6
  obtain ⟨li, ha, pa, cn, cl, pk, lk, up⟩ := p
  dsimp only at *
  have hl := load_any b pk w c6
  clear h
  go_enter Try.func13, Try.ntmps13
  go_wp2_with (go_at_call 27; refine hl.mono ?_; rintro e w1 ⟨rfl, rfl⟩)
  go_ret
  exact ⟨rfl, rfl⟩
theorem limit_any (b : Nat) (p : PS) (w : World) (h : Blk w b 60 p.cells) : Calls Try.prog 14 #[.pointer (some ⟨b, 0, none⟩)] w fun e w' => e = .returned (.int .i64 p.limit) ∧ w' = w := by
  have c1 := (cells_of h).c1
  obtain ⟨li, ha, pa, cn, cl, pk, lk, up⟩ := p
  dsimp only at *
  clear h
  go_enter Try.func14, Try.ntmps14
  go_wp2
  go_ret
  exact ⟨rfl, rfl⟩
/-- A purse behind a call that only read. -/
theorem IsP.still {w w' : World} {b : Nat} {p : PS} (h : IsP w b p) (hg : w.grownBy w' none) : IsP w' b p := h.grown hg (by simp) (by simp)
end Go.Proofs.Ytmemdicdehppjaa
