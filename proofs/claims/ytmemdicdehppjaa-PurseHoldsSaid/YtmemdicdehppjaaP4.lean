/- PurseHolds: the law's text answers true. -/
import Derived.Test.YtmemdicdehppjaaP3
import Derived.Laws.Cover3
namespace Go.Proofs.Ytmemdicdehppjaa
open Go.RowKit Go.MuLone

/-- The numbers of a purse that is no part and has none. -/
def Ok (l h k : Int) : Prop := 0 ≤ h ∧ h ≤ l ∧ 0 ≤ k ∧ k ≤ l ∧ l ≤ 9223372036854775807
set_option maxRecDepth 100000 in
set_option maxHeartbeats 4000000 in
theorem holds_any (limit : Int) (A : Option Addr) (n c : Nat) (xs : List Int) (w : World) (hl : -9223372036854775808 ≤ limit ∧ limit ≤ 9223372036854775807) (hr : Reads w .i64 A xs) (hlen : xs.length = 3 * n)
    (hx : ∀ x ∈ xs, -9223372036854775808 ≤ x ∧ x ≤ 9223372036854775807) (hn : n ≤ 9223372036854775807) :
    Calls Try.prog 3 #[.int .i64 limit, .slice A n c] w fun e w' => e = .returned (.bool true) ∧ Below w.heap.size w w' := by
  have HR := Lib.hid hr; have HL := Lib.hid hlen; have HX := Lib.hid hx
  clear hr hlen hx
  by_cases h0 : limit < 0
  · have hnew := fun W => new_any limit W
    go_enter Try.func3, Try.ntmps3
    go_upto_region 4 with (go_at_call 7; refine (begun_any _).mono ?_; rintro e w1 ⟨rfl, hb1⟩)
    have HB1 := Lib.hid hb1
    clear hb1
    have hnew1 : Calls Try.prog 8 #[.int .i64 limit] w1 fun e w' => e = .returned (.tuple #[.pointer none, .int .i64 1]) ∧ w' = w1 := (hnew w1).mono fun e w' hh => by
      rcases hh with ⟨_, h1, h2⟩ | ⟨h1, _⟩
      · exact ⟨h1, h2⟩
      · omega
    clear hnew
    go_wp2_with (go_at_call 8; refine hnew1.mono ?_; rintro e w1 ⟨rfl, rfl⟩)
    go_ret
    exact ⟨rfl, HB1.out⟩
  have h1 : 0 ≤ limit := by omega
  go_enter Try.func3, Try.ntmps3
  go_upto_region 4 with (go_at_call 7; refine (begun_any _).mono ?_; rintro e w1 ⟨rfl, hb1⟩)
  have HB1 := Lib.hid hb1
  clear hb1
  have hnew := newF limit w1 h1
  go_upto_region 5 with (go_at_call 8; refine hnew.mono ?_; rintro e w2 ⟨b, lk, rfl, hP, hbb, hlk, hB⟩)
  have HP2 := Lib.hid hP
  have HB2 := Lib.hid (below_self HB1.out hB)
  have hb0 : w.heap.size ≤ b := Nat.le_trans HB1.out.size hbb
  clear hnew hP hbb hlk hB h0
  have HO2 : Hid (Ok limit 0 0 ∧ (0 : Int) ≤ 0) := Lib.hid ⟨⟨by omega, by omega, by omega, by omega, by omega⟩, by omega⟩
  go_upto_region 12 with (fail)
  go_loopw [8, 9, 10] (fun s8 s9 i wr => ∃ (k : Nat) (ha pk : Int), k ≤ n ∧ i = .int .i64 k ∧ s9 = .int .i64 ha ∧ s8 = .int .i64 pk ∧ 0 ≤ ha ∧ ha ≤ limit ∧ ha ≤ pk ∧ pk ≤ limit ∧ Hid (IsP wr b (flat limit ha pk lk)) ∧ Hid (Below w.heap.size w wr)) (fun _ _ i _ => n - (intOf i).toNat)
  case atStart => exact ⟨0, 0, 0, by omega, rfl, rfl, rfl, by omega, by omega, by omega, by omega, HP2, HB2⟩
  case round =>
    obtain ⟨k, ha, pk, hk, rfl, rfl, rfl, a0, a1, a2, a3, HP, HB⟩ := hrel
    have HO : Hid (Ok limit ha pk) := Lib.hid ⟨a0, a1, by omega, a3, hl.2⟩
    by_cases hlt : k < n
    · obtain ⟨y, hy⟩ : ∃ y, xs[3 * k + 1]? = some y := ⟨_, List.getElem?_eq_getElem (by rw [HL.out]; omega)⟩
      obtain ⟨x, hx⟩ : ∃ x, xs[3 * k + 2]? = some x := ⟨_, List.getElem?_eq_getElem (by rw [HL.out]; omega)⟩
      obtain ⟨ab, ao, rfl, hc1⟩ := HR.out.at_ hy
      obtain ⟨_, _, e, hc2⟩ := HR.out.at_ hx
      cases e
      have c1 := cell_kept HB.out hc1
      have c2 := cell_kept HB.out hc2
      rw [show ao + (3 * k + 1) = ao + k * 3 + 1 by omega] at c1
      rw [show ao + (3 * k + 2) = ao + k * 3 + 2 by omega] at c2
      have xr := HX.out x (List.mem_of_getElem? hx)
      clear hy hx hc1 hc2
      by_cases hy3 : y = 3
      · have ey : (y == 3) = true := by simp [hy3]
        clear hy3
        by_cases g : x < 0 ∨ ha < x
        · have hcall := giveF_no HP.out HO.out xr g
          have hmx : ∀ (W : World) (ts : Array TypeId) (t : TypeId), (Builtin.max_ ts t #[.int .i64 pk, .int .i64 ha]).run Try.prog W = .ok (.int .i64 pk) W := fun W ts t => by rw [Lib.run_max_ints, Int.max_eq_left a2]
          clear g
          have H2 : Hid (Ok limit ha pk) := HO
          go_upto_region 21 with (first | (go_at_call 9; refine hcall.mono ?_; rintro e w3 ⟨E, rfl, hE, hE2, hP3, hg3⟩))
          have eE : (E == 0) = false := by simpa using hE
          clear hE hE2
          go_upto_region 26 with (fail)
          have HB3 := Lib.hid (below_only HB.out HB.out.size hg3 hb0)
          have hu := usedF hP3 H2.out
          clear hP3 hg3 hcall hmx c1 c2 ey
          go_wp2_with (first | (go_at_call 11; refine hu.mono ?_; rintro e w4 ⟨rfl, hP4, hg4⟩; have h2 := freeF hP4 H2.out) | (go_at_call 12; refine h2.mono ?_; rintro e w5 ⟨rfl, hP5, hg5⟩; have h3 := peakF hP5; have h4 := limitF hP5) | (go_at_call 13; refine h3.mono ?_; rintro e w5 ⟨rfl, h55⟩; cases h55) | (go_at_call 14; refine h4.mono ?_; rintro e w5 ⟨rfl, h66⟩; cases h66))
          have HB4 := Lib.hid (below_still HB3.out HB3.out.size hg4)
          have HB5 := Lib.hid (below_still HB4.out HB4.out.size hg5)
          go_roundw
          case rel => exact ⟨k + 1, ha, pk, by omega, by go_num, rfl, rfl, by omega, by omega, by omega, by omega, Lib.hid hP5, HB5⟩
          case measure => simp [intOf]; omega
        · have hx0 : 0 ≤ x := by omega
          have hx1 : x ≤ ha := by omega
          have hcall := giveF_ok HP.out HO.out hx0 hx1
          have hmx : ∀ (W : World) (ts : Array TypeId) (t : TypeId), (Builtin.max_ ts t #[.int .i64 pk, .int .i64 (ha - x)]).run Try.prog W = .ok (.int .i64 pk) W := fun W ts t => by rw [Lib.run_max_ints, Int.max_eq_left (by omega)]
          obtain ⟨hb, hhb⟩ : ∃ hb, ha - x = hb := ⟨_, rfl⟩
          rw [hhb] at hcall
          have b0 : 0 ≤ hb := by omega
          have b1 : hb ≤ limit := by omega
          have b2 : hb ≤ pk := by omega
          rw [hhb] at hmx
          clear g
          have H2 : Hid (Ok limit hb pk) := Lib.hid ⟨b0, b1, by omega, a3, hl.2⟩
          go_upto_region 26 with (first | (go_at_call 9; refine hcall.mono ?_; rintro e w3 ⟨rfl, hP3, hg3⟩))
          have HB3 := Lib.hid (below_only HB.out HB.out.size hg3 hb0)
          have hu := usedF hP3 H2.out
          clear hP3 hg3 hcall hmx c1 c2 ey
          go_wp2_with (first | (go_at_call 11; refine hu.mono ?_; rintro e w4 ⟨rfl, hP4, hg4⟩; have h2 := freeF hP4 H2.out) | (go_at_call 12; refine h2.mono ?_; rintro e w5 ⟨rfl, hP5, hg5⟩; have h3 := peakF hP5; have h4 := limitF hP5) | (go_at_call 13; refine h3.mono ?_; rintro e w5 ⟨rfl, h55⟩; cases h55) | (go_at_call 14; refine h4.mono ?_; rintro e w5 ⟨rfl, h66⟩; cases h66))
          have HB4 := Lib.hid (below_still HB3.out HB3.out.size hg4)
          have HB5 := Lib.hid (below_still HB4.out HB4.out.size hg5)
          go_roundw
          case rel => exact ⟨k + 1, hb, pk, by omega, by go_num, rfl, rfl, by omega, by omega, by omega, by omega, Lib.hid hP5, HB5⟩
          case measure => simp [intOf]; omega
      · have ey : (y == 3) = false := by simp [hy3]
        clear hy3
        by_cases g : x < 0 ∨ limit - ha < x
        · have hcall := takeF_no HP.out HO.out xr g
          have hmx : ∀ (W : World) (ts : Array TypeId) (t : TypeId), (Builtin.max_ ts t #[.int .i64 pk, .int .i64 ha]).run Try.prog W = .ok (.int .i64 pk) W := fun W ts t => by rw [Lib.run_max_ints, Int.max_eq_left a2]
          clear g
          have H2 : Hid (Ok limit ha pk) := HO
          go_upto_region 21 with (first | (go_at_call 10; refine hcall.mono ?_; rintro e w3 ⟨E, rfl, hE, hE2, hP3, hg3⟩))
          have eE : (E == 0) = false := by simpa using hE
          clear hE hE2
          go_upto_region 26 with (fail)
          have HB3 := Lib.hid (below_only HB.out HB.out.size hg3 hb0)
          have hu := usedF hP3 H2.out
          clear hP3 hg3 hcall hmx c1 c2 ey
          go_wp2_with (first | (go_at_call 11; refine hu.mono ?_; rintro e w4 ⟨rfl, hP4, hg4⟩; have h2 := freeF hP4 H2.out) | (go_at_call 12; refine h2.mono ?_; rintro e w5 ⟨rfl, hP5, hg5⟩; have h3 := peakF hP5; have h4 := limitF hP5) | (go_at_call 13; refine h3.mono ?_; rintro e w5 ⟨rfl, h55⟩; cases h55) | (go_at_call 14; refine h4.mono ?_; rintro e w5 ⟨rfl, h66⟩; cases h66))
          have HB4 := Lib.hid (below_still HB3.out HB3.out.size hg4)
          have HB5 := Lib.hid (below_still HB4.out HB4.out.size hg5)
          go_roundw
          case rel => exact ⟨k + 1, ha, pk, by omega, by go_num, rfl, rfl, by omega, by omega, by omega, by omega, Lib.hid hP5, HB5⟩
          case measure => simp [intOf]; omega
        · have hx0 : 0 ≤ x := by omega
          have hx1 : x ≤ limit - ha := by omega
          have hcall := takeF_ok HP.out HO.out hx0 hx1
          have hmx : ∀ (W : World) (ts : Array TypeId) (t : TypeId), (Builtin.max_ ts t #[.int .i64 pk, .int .i64 (ha + x)]).run Try.prog W = .ok (.int .i64 (max pk (ha + x))) W := fun W ts t => by rw [Lib.run_max_ints]
          obtain ⟨pb, hpb⟩ : ∃ pb, max pk (ha + x) = pb := ⟨_, rfl⟩
          rw [hpb] at hcall hmx
          have b3 : pb ≤ limit := by omega
          have b4 : 0 ≤ pb := by omega
          obtain ⟨hb, hhb⟩ : ∃ hb, ha + x = hb := ⟨_, rfl⟩
          rw [hhb] at hcall hmx
          have b0 : 0 ≤ hb := by omega
          have b1 : hb ≤ limit := by omega
          have b2 : hb ≤ pb := by omega
          clear g hpb
          have H2 : Hid (Ok limit hb pb) := Lib.hid ⟨b0, b1, b4, b3, hl.2⟩
          go_upto_region 26 with (first | (go_at_call 10; refine hcall.mono ?_; rintro e w3 ⟨rfl, hP3, hg3⟩))
          have HB3 := Lib.hid (below_only HB.out HB.out.size hg3 hb0)
          have hu := usedF hP3 H2.out
          clear hP3 hg3 hcall hmx c1 c2 ey
          go_wp2_with (first | (go_at_call 11; refine hu.mono ?_; rintro e w4 ⟨rfl, hP4, hg4⟩; have h2 := freeF hP4 H2.out) | (go_at_call 12; refine h2.mono ?_; rintro e w5 ⟨rfl, hP5, hg5⟩; have h3 := peakF hP5; have h4 := limitF hP5) | (go_at_call 13; refine h3.mono ?_; rintro e w5 ⟨rfl, h55⟩; cases h55) | (go_at_call 14; refine h4.mono ?_; rintro e w5 ⟨rfl, h66⟩; cases h66))
          have HB4 := Lib.hid (below_still HB3.out HB3.out.size hg4)
          have HB5 := Lib.hid (below_still HB4.out HB4.out.size hg5)
          go_roundw
          case rel => exact ⟨k + 1, hb, pb, by omega, by go_num, rfl, rfl, by omega, by omega, by omega, by omega, Lib.hid hP5, HB5⟩
          case measure => simp [intOf]; omega
    · obtain rfl : k = n := by omega
      have hg1 := giveF_ok HP.out HO.out a0 (Int.le_refl _)
      have HO3 : Hid (Ok limit 0 pk) := Lib.hid ⟨by omega, by omega, by omega, a3, hl.2⟩
      rw [Int.sub_self] at hg1
      go_upto_region 29 with (go_at_call 9; refine hg1.mono ?_; rintro e w3 ⟨rfl, hP3, hg3⟩)
      have HB3 := Lib.hid (below_only HB.out HB.out.size hg3 hb0)
      have ht := takeF_ok (x := limit) hP3 HO3.out h1 (by omega)
      rw [Int.zero_add] at ht
      have HO4 : Hid (Ok limit limit (max pk limit)) := Lib.hid ⟨h1, Int.le_refl _, by omega, by omega, hl.2⟩
      clear hP3 hg3 hg1
      go_upto_region 30 with (go_at_call 10; refine ht.mono ?_; rintro e w4 ⟨rfl, hP4, hg4⟩)
      have HB4 := Lib.hid (below_only HB3.out HB3.out.size hg4 hb0)
      have hu := usedF hP4 HO4.out
      clear hP4 hg4 ht
      go_wp2_with (go_at_call 11; refine hu.mono ?_; rintro e w5 ⟨rfl, _, hg5⟩)
      go_ret
      exact ⟨rfl, below_still HB4.out HB4.out.size hg5⟩
end Go.Proofs.Ytmemdicdehppjaa
