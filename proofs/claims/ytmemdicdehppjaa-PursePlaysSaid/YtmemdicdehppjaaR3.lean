/- A purse and the document's purse, linked; sees; step's Take and Give. -/
import Derived.Test.YtmemdicdehppjaaR2
namespace Go.Proofs.Ytmemdicdehppjaa
open Go.RowKit

def kidCnt (ks : List RK) : Int := ((ks.filter (·.opn)).length : Int)
theorem kidCnt_nonneg (ks : List RK) : 0 ≤ kidCnt ks := by unfold kidCnt; omega
theorem any_cnt (ks : List RK) : ks.any (·.opn) = decide (0 < kidCnt ks) := by
  unfold kidCnt
  induction ks with
  | nil => rfl
  | cons k l ih =>
    cases ho : k.opn
    · rw [List.any_cons, ho, Bool.false_or, ih, List.filter_cons_of_neg (by simp [ho])]
    · rw [List.any_cons, ho, Bool.true_or, List.filter_cons_of_pos (by simp [ho]), List.length_cons]
      simp
/-- The two say the same. -/
structure Link (p : PS) (s : RS) (ks : List RK) : Prop where
  l : s.limit = p.limit
  h : s.hand = p.hand
  o : kidSum ks = p.parts
  c : kidCnt ks = p.cnt
  d : s.opn = !p.closed
  u : s.part = p.up.isSome
  k : s.peak = p.peak
theorem Link.good {p : PS} {s : RS} {ks : List RK} (h : Link p s ks) (hg : p.Good) (hk : ∀ k ∈ ks, 0 ≤ k.limit) (hn : ks.length ≤ 4611686018427387904) : RGood s ks :=
  ⟨by rw [h.l]; exact hg.l1, by rw [h.h]; exact hg.h0, hk, by rw [h.h, h.o, h.l]; exact hg.o1, hn⟩
theorem Link.ask {p : PS} {s : RS} {ks : List RK} (h : Link p s ks) (n : Int) : rAskE s ks n = askE p n := by
  unfold rAskE askE
  rw [h.d, h.l, h.h, h.o]
  cases p.closed <;> simp
theorem Link.give {p : PS} {s : RS} {ks : List RK} (h : Link p s ks) (n : Int) : rGiveE s n = giveE p n := by
  unfold rGiveE giveE
  rw [h.d, h.h]
  cases p.closed <;> simp
theorem Link.close {p : PS} {s : RS} {ks : List RK} (h : Link p s ks) : rCloseE s ks = closeE p := by
  unfold rCloseE closeE
  rw [h.d, h.h, h.u, any_cnt, h.c]
  cases p.closed <;> cases p.up <;> simp
theorem Link.free {p : PS} {s : RS} {ks : List RK} (h : Link p s ks) : rFree s ks = freeV p := by
  unfold rFree freeV
  rw [h.d, h.h, h.l, h.o]
  cases p.closed <;> simp
theorem Link.take {p : PS} {s : RS} {ks : List RK} (h : Link p s ks) (n : Int) : Link (takeP p n) (rTake s ks n) ks := by
  unfold takeP rTake
  rw [h.ask]
  split
  · exact ⟨h.l, by dsimp only; rw [h.h], h.o, h.c, h.d, h.u, by dsimp only; rw [h.k, h.h, h.o]⟩
  · exact h
theorem Link.gave {p : PS} {s : RS} {ks : List RK} (h : Link p s ks) (n : Int) : Link (giveP p n) (rGive s n) ks := by
  unfold giveP rGive
  rw [h.give]
  split
  · exact ⟨h.l, by dsimp only; rw [h.h], h.o, h.c, h.d, h.u, h.k⟩
  · exact h
theorem KidsAt.still {w w' : World} {v : Value} {ks : List RK} (h : KidsAt w v ks) (hg : w.grownBy w' none) : KidsAt w' v ks := by
  have hb : Below w.heap.size w w' := below_still (Below.refl _ _) (Nat.le_refl _) hg
  obtain ⟨A, c, hv, h2⟩ := h
  refine ⟨A, c, hv, fun j k hj => ?_⟩
  obtain ⟨⟨ab, ao, h3, h4⟩, h5, h6⟩ := h2 j k hj
  exact ⟨⟨ab, ao, h3, cell_kept hb h4⟩, cell_kept hb h5, cell_kept hb h6⟩
theorem RP.still {w w' : World} {r : Nat} {s : RS} {ks : List RK} (h : RP w r s ks) (hg : w.grownBy w' none) : RP w' r s ks := ⟨h.h.grown hg (by simp), h.k.still hg⟩
set_option maxHeartbeats 2000000 in
theorem sees_any {w : World} {b r : Nat} {p : PS} {s : RS} {ks : List RK} (hp : IsP w b p) (hg : p.Good) (hr : RP w r s ks) (hrg : RGood s ks) (hl : Link p s ks) :
    Calls Try.prog 18 #[.pointer (some ⟨b, 0, none⟩), .pointer (some ⟨r, 0, none⟩)] w fun e w' => e = .returned (.bool true) ∧ w.grownBy w' none := by
  have C1 := limit_any b p w hp.1
  have C2 := limit_ref hr.h
  have C3 := used_any b p w hp hg
  have C4 : ∀ w', w.grownBy w' none → _ := fun w' h => used_ref (hr.still h) hrg
  have C5 : ∀ w', w.grownBy w' none → _ := fun w' h => freeM_any b p w' (hp.still h) hg
  have C6 : ∀ w', w.grownBy w' none → _ := fun w' h => free_ref (hr.still h) hrg
  have C7 : ∀ w', w.grownBy w' none → _ := fun w' h => peak_any b p w' (hp.still h).1
  have C8 : ∀ w', w.grownBy w' none → _ := fun w' h => peak_ref (hr.still h).h
  rw [hl.l] at C2
  simp only [hl.h, hl.o] at C4
  simp only [hl.free] at C6
  simp only [hl.k] at C8
  generalize p.limit = v1 at *
  generalize p.hand + p.parts = v2 at *
  generalize freeV p = v3 at *
  generalize p.peak = v4 at *
  clear hp hg hr hrg hl
  have C4 := Lib.hid C4; have C5 := Lib.hid C5; have C6 := Lib.hid C6; have C7 := Lib.hid C7; have C8 := Lib.hid C8
  go_enter Try.func18, Try.ntmps18
  go_wp2_with (first
    | ((go_at_call 14; with_reducible refine C1.mono ?_; rintro e w1 ⟨rfl, rfl⟩))
    | ((go_at_call 33; with_reducible refine C2.mono ?_; rintro e w2 ⟨rfl, rfl⟩))
    | ((go_at_call 11; with_reducible refine C3.mono ?_; rintro e w3 ⟨rfl, g3⟩))
    | ((go_at_call 34; with_reducible refine (C4.out _ g3).mono ?_; rintro e w4 ⟨rfl, rfl⟩))
    | ((go_at_call 12; with_reducible refine (C5.out _ g3).mono ?_; rintro e w5 ⟨rfl, g5⟩; have g6 := only_trans g3 g5))
    | ((go_at_call 35; with_reducible refine (C6.out _ g6).mono ?_; rintro e w6 ⟨rfl, k, rfl⟩; have g7 := only_drewN g6 k))
    | ((go_at_call 13; with_reducible refine (C7.out _ g7).mono ?_; rintro e w7 ⟨rfl, rfl⟩))
    | ((go_at_call 36; with_reducible refine (C8.out _ g7).mono ?_; rintro e w8 ⟨rfl, rfl⟩)))
  go_ret
  exact ⟨rfl, g7⟩
end Go.Proofs.Ytmemdicdehppjaa
