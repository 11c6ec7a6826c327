/- step: Take, Give and what is neither. -/
import Derived.Test.YtmemdicdehppjaaR3
namespace Go.Proofs.Ytmemdicdehppjaa
open Go.RowKit

theorem Tur.below0 {w w' : World} (h : Below w.heap.size w w') (bs : List Nat) : Tur w w' bs := Tur.of0 (only_of_below h none)
theorem IsP.asideB {w w' : World} {b c : Nat} {p : PS} {t : TypeId} {l : List Value} (h : IsP w b p) (hc : Blk w c t l) (ht : 60 ≠ t ∧ 54 ≠ t) (hg : w.grownBy w' (some c)) : IsP w' b p :=
  h.grown hg (fun e => h.1.ne hc ht.1 (Option.some.inj e)) (fun e => h.2.ne hc ht.2 (Option.some.inj e))
set_option maxHeartbeats 2000000 in
theorem step_take {w : World} {b r : Nat} {p : PS} {s : RS} {ks : List RK} (on n : Int) (hp : IsP w b p) (hg : p.Good) (hr : Blk w r 69 s.cells) (hrg : RGood s ks) (hl : Link p s ks) (hK : ∀ W, Tur w W [b, r] → KidsAt W s.row ks)
    (hn : -9223372036854775808 ≤ n ∧ n ≤ 9223372036854775807) :
    Calls Try.prog 17 #[.agg #[.int .i64 on, .int .i64 2, .int .i64 n], .pointer (some ⟨b, 0, none⟩), .pointer (some ⟨r, 0, none⟩)] w fun e w' => e = .returned (.bool true) ∧ IsP w' b (takeP p n) ∧ Blk w' r 69 (rTake s ks n).cells ∧ Tur w w' [b, r] := by
  have hbl := below1 w (.cells #[.int .i64 on, .int .i64 2, .int .i64 n] 29)
  have HT1 := Lib.hid (Tur.below0 hbl [b, r])
  have hbr : b ≠ r := hp.1.ne hr (by decide)
  have HBR := Lib.hid hbr
  have HO := Lib.hid (Blk.new w 29 [.int .i64 on, .int .i64 2, .int .i64 n])
  have HLT : Hid (b < w.heap.size) := Lib.hid hp.1.lt
  have C1 := take_any b p n _ (hp.still (only_of_below hbl none)) hg hn
  have HR1 := Lib.hid (hr.self hbl)
  have C2 : Hid (∀ W2, (w.alloc (.cells #[.int .i64 on, .int .i64 2, .int .i64 n] 29)).grownBy W2 (some b) → Calls Try.prog 30 #[.pointer (some ⟨r, 0, none⟩), .int .i64 n] W2 fun e w' => e = .returned (.int .i64 (askE p n)) ∧ Blk w' r 69 (rTake s ks n).cells ∧ W2.grownBy w' (some r)) := Lib.hid (fun W2 h => by
    have t2 := HT1.out.trans (Tur.of h (bs := [b, r]) (by simp))
    have := take_ref n ⟨HR1.out.grown h (fun e => hbr (Option.some.inj e).symm), hK _ t2⟩ hrg (fun w' h' => hK _ (t2.trans (Tur.of h' (by simp)))) hn
    rw [hl.ask] at this
    exact this)
  generalize askE p n = E at *
  generalize takeP p n = p' at *
  generalize rTake s ks n = s' at *
  clear hbl hbr hp hg hr hrg hl hK
  have cO := (HO.out.cell 2)
  have cK := (HO.out.cell 1)
  go_enter Try.func17, Try.ntmps17
  go_wp2_with (first
    | ((go_at_call 10; with_reducible refine C1.mono ?_; rintro e W2 ⟨rfl, h2, g2⟩; have c22 : W2.cell? ⟨w.heap.size, 2, none⟩ = some (.int .i64 n) := (((HO.out.grown g2 (fun e => by have := Option.some.inj e; have := HLT.out; omega)).cell 2).trans rfl)))
    | ((go_at_call 30; with_reducible refine (C2.out _ g2).mono ?_; rintro e W3 ⟨rfl, h3, g3⟩)))
  go_ret
  have t2 := HT1.out.trans (Tur.of g2 (bs := [b, r]) (by simp))
  refine ⟨rfl, h2.asideB (HR1.out.grown g2 (fun e => HBR.out (Option.some.inj e).symm)) (by decide) g3, h3, t2.trans (Tur.of g3 (by simp))⟩
set_option maxHeartbeats 2000000 in
theorem step_give {w : World} {b r : Nat} {p : PS} {s : RS} {ks : List RK} (on n : Int) (hp : IsP w b p) (hg : p.Good) (hr : Blk w r 69 s.cells) (hrg : RGood s ks) (hl : Link p s ks) (hK : ∀ W, Tur w W [b, r] → KidsAt W s.row ks)
    (hn : -9223372036854775808 ≤ n ∧ n ≤ 9223372036854775807) :
    Calls Try.prog 17 #[.agg #[.int .i64 on, .int .i64 3, .int .i64 n], .pointer (some ⟨b, 0, none⟩), .pointer (some ⟨r, 0, none⟩)] w fun e w' => e = .returned (.bool true) ∧ IsP w' b (giveP p n) ∧ Blk w' r 69 (rGive s n).cells ∧ Tur w w' [b, r] := by
  have hbl := below1 w (.cells #[.int .i64 on, .int .i64 3, .int .i64 n] 29)
  have HT1 := Lib.hid (Tur.below0 hbl [b, r])
  have hbr : b ≠ r := hp.1.ne hr (by decide)
  have HBR := Lib.hid hbr
  have HO := Lib.hid (Blk.new w 29 [.int .i64 on, .int .i64 3, .int .i64 n])
  have HLT : Hid (b < w.heap.size) := Lib.hid hp.1.lt
  have C1 := give_any b p n _ (hp.still (only_of_below hbl none)) hg hn
  have HR1 := Lib.hid (hr.self hbl)
  have C2 : Hid (∀ W2, (w.alloc (.cells #[.int .i64 on, .int .i64 3, .int .i64 n] 29)).grownBy W2 (some b) → Calls Try.prog 31 #[.pointer (some ⟨r, 0, none⟩), .int .i64 n] W2 fun e w' => e = .returned (.int .i64 (giveE p n)) ∧ Blk w' r 69 (rGive s n).cells ∧ W2.grownBy w' (some r)) := Lib.hid (fun W2 h => by
    have t2 := HT1.out.trans (Tur.of h (bs := [b, r]) (by simp))
    have := give_ref n (HR1.out.grown h (fun e => hbr (Option.some.inj e).symm)) ⟨hrg.h0, by have := hrg.o1; have := hrg.l1; have := kidSum_nonneg ks hrg.kl; omega⟩ hn
    rw [hl.give] at this
    exact this)
  generalize giveE p n = E at *
  generalize giveP p n = p' at *
  generalize rGive s n = s' at *
  clear hbl hbr hp hg hr hrg hl hK
  have cO := (HO.out.cell 2)
  have cK := (HO.out.cell 1)
  go_enter Try.func17, Try.ntmps17
  go_wp2_with (first
    | ((go_at_call 9; with_reducible refine C1.mono ?_; rintro e W2 ⟨rfl, h2, g2⟩; have c22 : W2.cell? ⟨w.heap.size, 2, none⟩ = some (.int .i64 n) := (((HO.out.grown g2 (fun e => by have := Option.some.inj e; have := HLT.out; omega)).cell 2).trans rfl)))
    | ((go_at_call 31; with_reducible refine (C2.out _ g2).mono ?_; rintro e W3 ⟨rfl, h3, g3⟩)))
  go_ret
  have t2 := HT1.out.trans (Tur.of g2 (bs := [b, r]) (by simp))
  refine ⟨rfl, h2.asideB (HR1.out.grown g2 (fun e => HBR.out (Option.some.inj e).symm)) (by decide) g3, h3, t2.trans (Tur.of g3 (by simp))⟩
theorem step_none {w : World} {v1 v2 : Value} (on k n : Int) (h2 : k ≠ 2) (h3 : k ≠ 3) (h5 : k ≠ 5) :
    Calls Try.prog 17 #[.agg #[.int .i64 on, .int .i64 k, .int .i64 n], v1, v2] w fun e w' => e = .returned (.bool true) ∧ Below w.heap.size w w' := by
  have HB := Lib.hid (below1 w (.cells #[.int .i64 on, .int .i64 k, .int .i64 n] 29))
  have e2 : (k == 2) = false := by simpa using h2
  have e3 : (k == 3) = false := by simpa using h3
  have e5 : (k == 5) = false := by simpa using h5
  go_enter Try.func17, Try.ntmps17
  go_wp2
  go_ret
  exact ⟨rfl, HB.out⟩
end Go.Proofs.Ytmemdicdehppjaa
