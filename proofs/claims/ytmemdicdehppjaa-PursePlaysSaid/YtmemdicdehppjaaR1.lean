/- The document's purse: Limit, Used, Free, Peak, noted, Give, Take, New. -/
import Derived.Test.YtmemdicdehppjaaR0
namespace Go.Proofs.Ytmemdicdehppjaa
open Go.RowKit

/-- Block r is that purse, with those kids. -/
structure RP (w : World) (r : Nat) (s : RS) (ks : List RK) : Prop where
  h : Blk w r 69 s.cells
  k : KidsAt w s.row ks
structure RGood (s : RS) (ks : List RK) : Prop where
  l1 : s.limit ≤ 9223372036854775807
  h0 : 0 ≤ s.hand
  kl : ∀ k ∈ ks, 0 ≤ k.limit
  o1 : s.hand + kidSum ks ≤ s.limit
  n1 : ks.length ≤ 4611686018427387904
theorem out_rp {w : World} {r : Nat} {s : RS} {ks : List RK} (h : RP w r s ks) (hg : RGood s ks) : Calls Try.prog 41 #[.pointer (some ⟨r, 0, none⟩)] w fun e w' => e = .returned (.int .i64 (s.hand + kidSum ks)) ∧ w' = w :=
  out_ref r s ks w h.h h.k hg.h0 hg.kl (by have := hg.o1; have := hg.l1; omega) hg.n1
theorem limit_ref {w : World} {r : Nat} {s : RS} (h : Blk w r 69 s.cells) : Calls Try.prog 33 #[.pointer (some ⟨r, 0, none⟩)] w fun e w' => e = .returned (.int .i64 s.limit) ∧ w' = w := by
  have c0 := (rcells_of h).c0
  obtain ⟨li, ha, pk, op, pt, row⟩ := s
  dsimp only at *
  clear h
  go_enter Try.func33, Try.ntmps33
  go_wp2
  go_ret
  exact ⟨rfl, rfl⟩
theorem peak_ref {w : World} {r : Nat} {s : RS} (h : Blk w r 69 s.cells) : Calls Try.prog 36 #[.pointer (some ⟨r, 0, none⟩)] w fun e w' => e = .returned (.int .i64 s.peak) ∧ w' = w := by
  have c2 := (rcells_of h).c2
  obtain ⟨li, ha, pk, op, pt, row⟩ := s
  dsimp only at *
  clear h
  go_enter Try.func36, Try.ntmps36
  go_wp2
  go_ret
  exact ⟨rfl, rfl⟩
theorem used_ref {w : World} {r : Nat} {s : RS} {ks : List RK} (h : RP w r s ks) (hg : RGood s ks) : Calls Try.prog 34 #[.pointer (some ⟨r, 0, none⟩)] w fun e w' => e = .returned (.int .i64 (s.hand + kidSum ks)) ∧ w' = w := by
  have ho := out_rp h hg
  obtain ⟨S, hS⟩ : ∃ S, s.hand + kidSum ks = S := ⟨_, rfl⟩
  rw [hS] at ho ⊢
  clear hS h hg
  go_enter Try.func34, Try.ntmps34
  go_wp2_with (go_at_call 41; refine ho.mono ?_; rintro e w1 ⟨rfl, rfl⟩)
  go_ret
  exact ⟨rfl, rfl⟩
theorem RP.drewN {w : World} {r : Nat} {s : RS} {ks : List RK} (h : RP w r s ks) (n : Nat) : RP (w.drewN n) r s ks := ⟨h.h, h.k⟩
def rFree (s : RS) (ks : List RK) : Int := if s.opn then s.limit - (s.hand + kidSum ks) else 0
theorem free_ref {w : World} {r : Nat} {s : RS} {ks : List RK} (h : RP w r s ks) (hg : RGood s ks) : Calls Try.prog 35 #[.pointer (some ⟨r, 0, none⟩)] w fun e w' => e = .returned (.int .i64 (rFree s ks)) ∧ ∃ n, w' = w.drewN n := by
  have ho : ∀ n, Calls Try.prog 41 #[.pointer (some ⟨r, 0, none⟩)] (w.drewN n) fun e w' => e = .returned (.int .i64 (s.hand + kidSum ks)) ∧ w' = w.drewN n := fun n => out_rp (h.drewN n) hg
  have hs0 := kidSum_nonneg ks hg.kl
  have HF : Hid (rFree s ks = if s.opn then s.limit - (s.hand + kidSum ks) else 0) := Lib.hid rfl
  generalize rFree s ks = F at *
  obtain ⟨l1, h0, kl, o1, n1⟩ := hg
  obtain ⟨S, hS⟩ : ∃ S, s.hand + kidSum ks = S := ⟨_, rfl⟩
  rw [hS] at ho HF o1
  have hS0 : 0 ≤ S := by omega
  obtain ⟨c0, c1, c2, c3, c4, c5⟩ := rcells_of h.h
  obtain ⟨li, ha, pk, op, pt, row⟩ := s
  dsimp only at *
  clear hS h kl n1 hs0 h0
  have hw : IntKind.i64.wrap (li - S) = li - S := by rw [IntKind.wrap_i64]; omega
  cases op
  · go_enter Try.func35, Try.ntmps35
    go_wp2
    go_ret
    exact ⟨ret_int (by rw [HF.out]; rfl), 0, rfl⟩
  · go_enter Try.func35, Try.ntmps35
    go_wp2
    go_quiet ((go_at_call 41; exact Calls.quiet_of_same (ho _)))
    go_wp2
    go_ret
    exact ⟨ret_int (by rw [HF.out]; rfl), _, rfl⟩
set_option maxHeartbeats 1000000 in
theorem noted_ref {w : World} {r : Nat} {s : RS} {ks : List RK} (h : RP w r s ks) (hg : RGood s ks) : Calls Try.prog 42 #[.pointer (some ⟨r, 0, none⟩)] w fun e w' => e = .returned (.tuple #[]) ∧ Blk w' r 69 { s with peak := max s.peak (s.hand + kidSum ks) }.cells ∧ w.grownBy w' (some r) := by
  have ho := out_rp h hg
  obtain ⟨S, hS⟩ : ∃ S, s.hand + kidSum ks = S := ⟨_, rfl⟩
  rw [hS] at ho ⊢
  have c2 := (rcells_of h.h).c2
  have z2 := h.h.frozen 2
  have HB := Lib.hid h.h
  obtain ⟨li, ha, pk, op, pt, row⟩ := s
  dsimp only at *
  clear hS h hg
  by_cases hlt : pk < S
  · have hm : max pk S = S := by omega
    have HS : Hid (Blk (w.setCell ⟨r, 2, none⟩ (.int .i64 S)) r 69 (RS.cells ⟨li, ha, S, op, pt, row⟩)) := Lib.hid (HB.out.set_ 2 _)
    rw [hm]
    clear hm
    go_enter Try.func42, Try.ntmps42
    go_wp2_with (go_at_call 41; refine ho.mono ?_; rintro e w1 ⟨rfl, rfl⟩)
    go_end0
    exact ⟨rfl, HS.out, only_setCell (only_refl _ _) (.inl rfl) _⟩
  · have hm : max pk S = pk := by omega
    rw [hm]
    clear hm
    go_enter Try.func42, Try.ntmps42
    go_wp2_with (go_at_call 41; refine ho.mono ?_; rintro e w1 ⟨rfl, rfl⟩)
    go_end0
    exact ⟨rfl, HB.out, only_refl _ _⟩
def rGiveE (s : RS) (n : Int) : Int := if s.opn = false then 6 else if n < 0 then 1 else if s.hand < n then 20 else 0
def rGive (s : RS) (n : Int) : RS := if rGiveE s n = 0 then { s with hand := s.hand - n } else s
set_option maxHeartbeats 1000000 in
theorem give_ref {w : World} {r : Nat} {s : RS} (n : Int) (h : Blk w r 69 s.cells) (hh : 0 ≤ s.hand ∧ s.hand ≤ 9223372036854775807) (hn : -9223372036854775808 ≤ n ∧ n ≤ 9223372036854775807) :
    Calls Try.prog 31 #[.pointer (some ⟨r, 0, none⟩), .int .i64 n] w fun e w' => e = .returned (.int .i64 (rGiveE s n)) ∧ Blk w' r 69 (rGive s n).cells ∧ w.grownBy w' (some r) := by
  obtain ⟨c0, c1, c2, c3, c4, c5⟩ := rcells_of h
  have z1 := h.frozen 1
  have HB := Lib.hid h
  obtain ⟨li, ha, pk, op, pt, row⟩ := s
  dsimp only at *
  clear h
  have same : ∀ E, Hid (rGiveE ⟨li, ha, pk, op, pt, row⟩ n = E ∧ E ≠ 0) → Hid (rGive ⟨li, ha, pk, op, pt, row⟩ n = ⟨li, ha, pk, op, pt, row⟩) := fun E hE => Lib.hid (by unfold rGive; rw [if_neg (by rw [hE.out.1]; exact hE.out.2)])
  have SM := Lib.hid same
  clear same
  cases op
  · have HE : Hid (rGiveE ⟨li, ha, pk, false, pt, row⟩ n = 6 ∧ (6 : Int) ≠ 0) := Lib.hid (by simp [rGiveE])
    go_enter Try.func31, Try.ntmps31
    go_wp2
    go_ret
    exact ⟨ret_int HE.out.1.symm, by rw [(SM.out _ HE).out]; exact HB.out, only_refl _ _⟩
  by_cases n0 : n < 0
  · have HE : Hid (rGiveE ⟨li, ha, pk, true, pt, row⟩ n = 1 ∧ (1 : Int) ≠ 0) := Lib.hid (by simp [rGiveE, n0])
    go_enter Try.func31, Try.ntmps31
    go_wp2
    go_ret
    exact ⟨ret_int HE.out.1.symm, by rw [(SM.out _ HE).out]; exact HB.out, only_refl _ _⟩
  by_cases n1 : ha < n
  · have HE : Hid (rGiveE ⟨li, ha, pk, true, pt, row⟩ n = 20 ∧ (20 : Int) ≠ 0) := Lib.hid (by simp [rGiveE, n0, n1])
    go_enter Try.func31, Try.ntmps31
    go_wp2
    go_ret
    exact ⟨ret_int HE.out.1.symm, by rw [(SM.out _ HE).out]; exact HB.out, only_refl _ _⟩
  · have he : rGiveE ⟨li, ha, pk, true, pt, row⟩ n = 0 := by simp [rGiveE, n0, n1]
    have HE := Lib.hid he
    have HR : Hid (rGive ⟨li, ha, pk, true, pt, row⟩ n = ⟨li, ha - n, pk, true, pt, row⟩) := Lib.hid (by unfold rGive; rw [if_pos he])
    clear he
    have hw : IntKind.i64.wrap (ha - n) = ha - n := by rw [IntKind.wrap_i64]; omega
    have HS : Hid (Blk (w.setCell ⟨r, 1, none⟩ (.int .i64 (ha - n))) r 69 (RS.cells ⟨li, ha - n, pk, true, pt, row⟩)) := Lib.hid (HB.out.set_ 1 _)
    go_enter Try.func31, Try.ntmps31
    go_wp2
    go_ret
    exact ⟨ret_int HE.out.symm, by rw [HR.out]; exact HS.out, only_setCell (only_refl _ _) (.inl rfl) _⟩
def rAskE (s : RS) (ks : List RK) (n : Int) : Int := if s.opn = false then 6 else if n < 0 then 1 else if s.limit - (s.hand + kidSum ks) < n then 2 else 0
def rTake (s : RS) (ks : List RK) (n : Int) : RS := if rAskE s ks n = 0 then { s with hand := s.hand + n, peak := max s.peak (s.hand + n + kidSum ks) } else s
set_option maxHeartbeats 1000000 in
theorem take_ref {w : World} {r : Nat} {s : RS} {ks : List RK} (n : Int) (h : RP w r s ks) (hg : RGood s ks) (hK : ∀ w', w.grownBy w' (some r) → KidsAt w' s.row ks) (hn : -9223372036854775808 ≤ n ∧ n ≤ 9223372036854775807) :
    Calls Try.prog 30 #[.pointer (some ⟨r, 0, none⟩), .int .i64 n] w fun e w' => e = .returned (.int .i64 (rAskE s ks n)) ∧ Blk w' r 69 (rTake s ks n).cells ∧ w.grownBy w' (some r) := by
  have ho := out_rp h hg
  have hs0 := kidSum_nonneg ks hg.kl
  have HG := Lib.hid hg
  have HK := Lib.hid hK
  have z1 := h.h.frozen 1
  have HB := Lib.hid h.h
  obtain ⟨c0, c1, c2, c3, c4, c5⟩ := rcells_of h.h
  obtain ⟨l1, h0, kl, o1, n1⟩ := hg
  obtain ⟨li, ha, pk, op, pt, row⟩ := s
  dsimp only at *
  clear h hK kl n1
  have same : ∀ E, Hid (rAskE ⟨li, ha, pk, op, pt, row⟩ ks n = E ∧ E ≠ 0) → Hid (rTake ⟨li, ha, pk, op, pt, row⟩ ks n = ⟨li, ha, pk, op, pt, row⟩) := fun E hE => Lib.hid (by unfold rTake; rw [if_neg (by rw [hE.out.1]; exact hE.out.2)])
  have SM := Lib.hid same
  clear same
  cases op
  · have HE : Hid (rAskE ⟨li, ha, pk, false, pt, row⟩ ks n = 6 ∧ (6 : Int) ≠ 0) := Lib.hid (by simp [rAskE])
    go_enter Try.func30, Try.ntmps30
    go_wp2
    go_ret
    exact ⟨ret_int HE.out.1.symm, by rw [(SM.out _ HE).out]; exact HB.out, only_refl _ _⟩
  by_cases n0 : n < 0
  · have HE : Hid (rAskE ⟨li, ha, pk, true, pt, row⟩ ks n = 1 ∧ (1 : Int) ≠ 0) := Lib.hid (by simp [rAskE, n0])
    go_enter Try.func30, Try.ntmps30
    go_wp2
    go_ret
    exact ⟨ret_int HE.out.1.symm, by rw [(SM.out _ HE).out]; exact HB.out, only_refl _ _⟩
  obtain ⟨S, hS⟩ : ∃ S, ha + kidSum ks = S := ⟨_, rfl⟩
  have hw1 : IntKind.i64.wrap (li - S) = li - S := by rw [IntKind.wrap_i64]; omega
  by_cases n1 : li - S < n
  · have HE : Hid (rAskE ⟨li, ha, pk, true, pt, row⟩ ks n = 2 ∧ (2 : Int) ≠ 0) := Lib.hid (by simp [rAskE, n0, hS, n1])
    rw [hS] at ho
    clear hS
    go_enter Try.func30, Try.ntmps30
    go_wp2_with (go_at_call 41; refine ho.mono ?_; rintro e w1 ⟨rfl, rfl⟩)
    go_ret
    exact ⟨ret_int HE.out.1.symm, by rw [(SM.out _ HE).out]; exact HB.out, only_refl _ _⟩
  · have he : rAskE ⟨li, ha, pk, true, pt, row⟩ ks n = 0 := by simp [rAskE, n0, hS, n1]
    have HE := Lib.hid he
    have HR : Hid (rTake ⟨li, ha, pk, true, pt, row⟩ ks n = ⟨li, ha + n, max pk (ha + n + kidSum ks), true, pt, row⟩) := Lib.hid (by unfold rTake; rw [if_pos he])
    clear he
    have hw : IntKind.i64.wrap (ha + n) = ha + n := by rw [IntKind.wrap_i64]; omega
    have hG2 : Hid (RGood ⟨li, ha + n, pk, true, pt, row⟩ ks) := Lib.hid ⟨l1, by dsimp only; omega, HG.out.kl, by dsimp only; omega, HG.out.n1⟩
    have hP2 : Hid (RP (w.setCell ⟨r, 1, none⟩ (.int .i64 (ha + n))) r ⟨li, ha + n, pk, true, pt, row⟩ ks) := Lib.hid ⟨HB.out.set_ 1 _, HK.out _ (only_setCell (only_refl _ _) (.inl rfl) _)⟩
    have hnot := noted_ref hP2.out hG2.out
    rw [hS] at ho
    clear hS
    go_enter Try.func30, Try.ntmps30
    go_upto_region 9 with (go_at_call 41; refine ho.mono ?_; rintro e w1 ⟨rfl, rfl⟩)
    go_wp2_with (go_at_call 42; with_reducible refine hnot.mono ?_; rintro e w1 ⟨rfl, hb1, hg1⟩)
    go_ret
    exact ⟨ret_int HE.out.symm, by rw [HR.out]; exact hb1, only_trans (only_setCell (only_refl _ _) (.inl rfl) _) hg1⟩
/-- What the document's New leaves. -/
def RNewed (limit : Int) (w : World) (e : Ending) (w' : World) : Prop :=
  (limit < 0 ∧ e = .returned (.tuple #[.pointer none, .int .i64 1]) ∧ w' = w) ∨
  (0 ≤ limit ∧ ∃ r, e = .returned (.tuple #[.pointer (some ⟨r, 0, none⟩), .int .i64 0]) ∧ Blk w' r 69 (RS.cells ⟨limit, 0, 0, true, false, .slice none 0 0⟩) ∧ w.heap.size ≤ r ∧ Below w.heap.size w w')
theorem new_ref (limit : Int) (w : World) : Calls Try.prog 28 #[.int .i64 limit] w (RNewed limit w) := by
  by_cases h : limit < 0
  · go_enter Try.func28, Try.ntmps28
    go_wp2
    go_ret2
    exact .inl ⟨h, rfl, rfl⟩
  · have h1 : 0 ≤ limit := by omega
    have HB := Lib.hid (below1 w (.cells (RS.cells ⟨limit, 0, 0, true, false, .slice none 0 0⟩).toArray 69))
    have HP := Lib.hid (Blk.new w 69 (RS.cells ⟨limit, 0, 0, true, false, .slice none 0 0⟩))
    go_enter Try.func28, Try.ntmps28
    go_wp2
    go_ret2
    exact .inr ⟨h1, w.heap.size, rfl, HP.out, Nat.le_refl _, HB.out⟩
end Go.Proofs.Ytmemdicdehppjaa
