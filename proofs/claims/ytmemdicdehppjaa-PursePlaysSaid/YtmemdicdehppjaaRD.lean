/- makes: New, when it is not refused. -/
import Derived.Test.YtmemdicdehppjaaRC
namespace Go.Proofs.Ytmemdicdehppjaa
open Go.RowKit

section
variable {w w' : World} {base : Nat} {N : List ND}
theorem aPtrs_length (N : List ND) : (aPtrs N).length = N.length := by simp [aPtrs]
theorem bPtrs_length (N : List ND) : (bPtrs N).length = N.length := by simp [bPtrs]
set_option maxHeartbeats 2000000 in
theorem makes_new {va vb : Value} (on n : Int) (h : Laid w base N va vb) (hbase : base ≤ w.heap.size) (hn : 0 ≤ n ∧ n ≤ 9223372036854775807) (hlen : (N.length + 1) * 8 ≤ 140737488351232) :
    Calls Try.prog 15 #[.agg #[.int .i64 on, .int .i64 1, .int .i64 n], va, vb] w (Made w base N) := by
  have hbl := below1 w (.cells #[.int .i64 on, .int .i64 1, .int .i64 n] 29)
  have HL := Lib.hid (h.below hbl)
  have HB := Lib.hid hbl
  have HO := Lib.hid (Blk.new w 29 [.int .i64 on, .int .i64 1, .int .i64 n])
  have HS : Hid (w.heap.size ≤ (w.alloc (.cells #[.int .i64 on, .int .i64 1, .int .i64 n] 29)).heap.size) := Lib.hid hbl.size
  obtain ⟨A, ca, hva⟩ := h.a.form
  obtain ⟨B, cb, hvb⟩ := h.b.form
  rw [List.length_map] at hva hvb
  have C1 : ∀ W, Calls Try.prog 8 #[.int .i64 n] W fun e w' => ∃ q : Nat, e = .returned (.tuple #[.pointer (some ⟨q, 0, none⟩), .int .i64 0]) ∧ Hid (∃ lk, IsP w' q (newP n lk) ∧ W.heap.size ≤ q ∧ W.heap.size ≤ lk ∧ Below W.heap.size W w') := fun W => (new_any n W).mono fun e w' hh => by
    rcases hh with ⟨h0, _⟩ | ⟨_, q, lk, h1, h2, h3, h4, h5⟩
    · omega
    · exact ⟨q, h1, Lib.hid ⟨lk, h2, h3, h4, h5⟩⟩
  have C2 : ∀ W, Calls Try.prog 28 #[.int .i64 n] W fun e w' => ∃ r : Nat, e = .returned (.tuple #[.pointer (some ⟨r, 0, none⟩), .int .i64 0]) ∧ Hid (Blk w' r 69 (RS.cells ⟨n, 0, 0, true, false, .slice none 0 0⟩) ∧ W.heap.size ≤ r ∧ Below W.heap.size W w') := fun W => (new_ref n W).mono fun e w' hh => by
    rcases hh with ⟨h0, _⟩ | ⟨_, r, h1, h2, h3, h4⟩
    · omega
    · exact ⟨r, h1, Lib.hid ⟨h2, h3, h4⟩⟩
  have C1 := Lib.hid C1; have C2 := Lib.hid C2; have HBB := Lib.hid hbase; have HNN := Lib.hid hn
  subst hva hvb
  clear h hbl hbase hn
  go_enter Try.func15, Try.ntmps15
  go_upto_region 7 with (first
    | ((go_at_call 8; with_reducible refine (C1.out _).mono ?_; rintro e W2 ⟨q, rfl, hq⟩; have hB2 : Below _ _ W2 := hq.out.choose_spec.2.2.2; have c22 : W2.cell? ⟨w.heap.size, 2, none⟩ = some (.int .i64 n) := ((HO.out.self hB2).cell 2).trans rfl))
    | ((go_at_call 28; with_reducible refine (C2.out _).mono ?_; rintro e W3 ⟨r, rfl, hr⟩)))
  obtain ⟨lk, hp, hq0, hl0, b2⟩ := hq.out
  obtain ⟨hr1, hr0, b3⟩ := hr.out
  have hb13 : Hid (Below (w.alloc (.cells #[.int .i64 on, .int .i64 1, .int .i64 n] 29)).heap.size (w.alloc (.cells #[.int .i64 on, .int .i64 1, .int .i64 n] 29)) W3) := Lib.hid (b2.trans (b3.mono b2.size))
  have hb03 : Hid (Below w.heap.size w W3) := Lib.hid (HB.out.trans (hb13.out.mono HS.out))
  have hR := HL.out.root hb13.out (hp.still (only_of_below b3 none)) hr1 hq0 (Nat.le_trans b2.size hr0) hl0 (Nat.le_trans HBB.out HS.out) HNN.out.1 HNN.out.2
  have HR := Lib.hid hR
  have hszs : Hid (base ≤ W3.heap.size) := Lib.hid (Nat.le_trans HBB.out hb03.out.size)
  clear hR hp hq0 hl0 b2 hr1 hr0 b3 hB2 c22
  have hA4 := Lib.hid (HR.out.2.1.below (below1 W3 (.cells [Value.pointer (some ⟨q, 0, none⟩)].toArray 24)))
  have hla := aPtrs_length N
  have hlb := bPtrs_length N
  have hsz3 := hszs.out
  go_upto_region 8 with (at_builtin; refine wpList_push2 rfl _ _ 34 rfl base 24 _ 8 Try.underlying34 info24 rfl (.slice A N.length ca) (aPtrs N) rfl hA4.out ⟨W3.heap.size, 0, none⟩ (.pointer (some ⟨q, 0, none⟩)) rfl (by simp [go_sem]) rfl (by simp only [maxLen]; omega) (by omega) (by simp; omega) ?_; intro v5 W5 hown1 hg1 hb1)
  have HA5 := Lib.hid hown1
  have HG5 := Lib.hid hg1
  have hB4 := Lib.hid (HR.out.2.2.1.below (below1 W3 (.cells [Value.pointer (some ⟨q, 0, none⟩)].toArray 24)))
  have hB5 := Lib.hid (hB4.out.asideR hA4.out (by decide) hg1)
  have hB6 := Lib.hid (hB5.out.below (below1 W5 (.cells [Value.pointer (some ⟨r, 0, none⟩)].toArray 40)))
  have hsz5 : base ≤ W5.heap.size := by
    have h1 := hg1.size
    have h2 := (below1 W3 (.cells [Value.pointer (some ⟨q, 0, none⟩)].toArray 24)).size
    omega
  have HSZ5 := Lib.hid hsz5
  clear hown1 hg1 hb1
  go_wp2_with (at_builtin; refine wpList_push2 rfl _ _ 35 rfl base 40 _ 8 Try.underlying35 info40 rfl (.slice B N.length cb) (bPtrs N) rfl hB6.out ⟨W5.heap.size, 0, none⟩ (.pointer (some ⟨r, 0, none⟩)) rfl (by simp [go_sem]) rfl (by simp only [maxLen]; omega) (by omega) (by simp; omega) ?_; intro v7 W7 hown2 hg2 hb2)
  go_ret3
  refine ⟨N ++ [⟨q, r, lk, n, 0, 0, true, none, .slice none 0 0⟩], v5, v7, rfl, by simp, laid_push HR.out.1 HR.out.2.1 HR.out.2.2.1 HR.out.2.2.2 (by simp [aPtrs]) (by simp [bPtrs]) _ HG5.out HA5.out _ hg2 hown2 hb2, fun K hK => ?_⟩
  have k3 : Below K w W3 := hb03.out.mono (Nat.le_trans hK HBB.out)
  have k4 := k3.alloc (Nat.le_trans hK hszs.out) (.cells [Value.pointer (some ⟨q, 0, none⟩)].toArray 24)
  have k5 := below_row k4 (Nat.le_trans hK (Nat.le_trans hszs.out (below1 W3 (.cells [Value.pointer (some ⟨q, 0, none⟩)].toArray 24)).size)) hA4.out hK HG5.out
  have k6 := k5.alloc (Nat.le_trans hK HSZ5.out) (.cells [Value.pointer (some ⟨r, 0, none⟩)].toArray 40)
  exact below_row k6 (Nat.le_trans hK (Nat.le_trans HSZ5.out (below1 W5 (.cells [Value.pointer (some ⟨r, 0, none⟩)].toArray 40)).size)) hB6.out hK hg2
end
end Go.Proofs.Ytmemdicdehppjaa
