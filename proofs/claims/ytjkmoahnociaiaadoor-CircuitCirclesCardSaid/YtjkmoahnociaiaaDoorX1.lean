/- Names, by both texts. -/
import Derived.Test.YtjkmoahnociaiaaDoorX0
namespace Go.Proofs.YtjkmoahnociaiaaDoor
open Go.RowKit

theorem nameB_iff {s : ByteArray} {b : Bool} (h : b = true ↔ NameP s) : nameB s = b := by
  cases b
  · exact nameB_false (by simpa using h)
  · exact nameB_true (h.1 rfl)
/-- Bytes up to k are as they must be. -/
def Upto (s : ByteArray) (k : Nat) : Prop := ∀ j, j < k → ChP s j
theorem Upto.snoc {s : ByteArray} {k : Nat} (h : Upto s k) (hk : ChP s k) : Upto s (k + 1) := fun j hj => by
  rcases Nat.lt_or_ge j k with h1 | h1
  · exact h j h1
  · rw [show j = k by omega]; exact hk
theorem Upto.all {s : ByteArray} (h : Upto s s.size) : ∀ j, ChP s j := fun j hj => h j hj hj
set_option maxRecDepth 100000 in
set_option maxHeartbeats 1000000 in
theorem isName_any (s : ByteArray) (w : World) (hs : s.size ≤ maxLen) :
    Calls Tryd.prog 29 #[.string s] w fun e w' => e = .returned (.bool (nameB s)) ∧ w' = w := by
  unfold maxLen at hs
  go_enter Tryd.func29, Tryd.ntmps29
  go_upto_region 2 with (fail)
  go_loop [8] (fun i => ∃ k : Nat, k ≤ s.size ∧ i = .int .i64 k ∧ Hid (Upto s k)) (fun i => s.size - (intOf i).toNat)
  case atStart => exact ⟨0, Nat.zero_le _, rfl, Lib.hid (fun j hj => by omega)⟩
  case round =>
    obtain ⟨k, hk, rfl, HU⟩ := hrel
    by_cases hlt : k < s.size
    · have hcb : (s[k].toNat : Int) < 256 := by have := s[k].toNat_lt; omega
      have hc0 : (0 : Int) ≤ (s[k].toNat : Int) := by omega
      have HC : Hid (ChP s k ↔ ((k = 0 ∧ LetP (s[k].toNat : Int)) ∨ (k ≠ 0 ∧ RestP (s[k].toNat : Int)))) := Lib.hid ⟨fun h => h hlt, fun h _ => h⟩
      go_upto_region 5 with (fail)
      go_cut [5] (fun s5 wx => ∃ lb : Bool, s5 = .bool lb ∧ Hid (lb = true ↔ LetP (s[k].toNat : Int)) ∧ wx = w)
      case first =>
        go_wp2_with fail
        all_goals
          go_meet
          refine ⟨_, rfl, Lib.hid ?_, rfl⟩
          unfold LetP
          simp
          try omega
      obtain ⟨lb, rfl, HL, rfl⟩ := hcut
      go_upto_region 6 with (fail)
      go_cut [3, 4, 8, 49] (fun s3 s4 s8 s49 wx => ∃ bad : Bool, s8 = .int .i64 k ∧ s49 = .bool bad ∧ Hid (bad = true ↔ ¬ ChP s k) ∧ wx = wc)
      case first =>
        cases lb
        · have HLN : Hid (¬ LetP (s[k].toNat : Int)) := Lib.hid (by rw [← HL.out]; simp)
          by_cases hk0 : k = 0
          · have hk1 : ((k : Int) == 0) = true := by simp [hk0]
            have HK : Hid (¬ ChP s k) := Lib.hid (by
              rw [HC.out]
              rintro (⟨_, h⟩ | ⟨h, _⟩)
              · exact HLN.out h
              · exact h hk0)
            have HK0 := Lib.hid hk0
            clear hk0
            go_wp2_with fail
            go_meet
            exact ⟨true, by rw [HK0.out], rfl, Lib.hid ⟨fun _ => HK.out, fun _ => rfl⟩, rfl⟩
          · have hk1 : ((k : Int) == 0) = false := by simp; omega
            have HK : Hid (ChP s k ↔ ((s[k].toNat : Int) = 46 ∨ (48 ≤ (s[k].toNat : Int) ∧ (s[k].toNat : Int) ≤ 57))) := Lib.hid (by rw [HC.out]; unfold RestP; simp [HLN.out, hk0])
            go_wp2_with fail
            all_goals
              go_meet
              refine ⟨_, rfl, rfl, Lib.hid ?_, rfl⟩
              rw [HK.out]
              simp
              try omega
        · have HK : Hid (¬ ¬ ChP s k) := Lib.hid (by
            have := HL.out.1 rfl
            rw [HC.out]
            intro h
            apply h
            by_cases e : k = 0
            · exact .inl ⟨e, this⟩
            · exact .inr ⟨e, .inl this⟩)
          go_wp2_with fail
          go_meet
          exact ⟨false, rfl, rfl, Lib.hid ⟨fun e => (by cases e), fun h => absurd h HK.out⟩, rfl⟩
      obtain ⟨bad, rfl, rfl, HB, rfl⟩ := hcut
      cases bad
      · have hch : ChP s k := Classical.byContradiction fun h => by have := HB.out.2 h; cases this
        have HU2 := Lib.hid (HU.out.snoc hch)
        clear hch
        go_wp2_with fail
        go_round
        case rel => exact ⟨k + 1, by omega, by go_num, HU2⟩
        case measure => simp [intOf]; omega
      · have HN : Hid (nameB s = false) := Lib.hid (nameB_false fun h => (HB.out.1 rfl) (h.2.2 k))
        go_wp2_with fail
        go_ret
        exact ⟨ret_bool HN.out.symm, rfl⟩
    · obtain rfl : k = s.size := by omega
      have HA := Lib.hid HU.out.all
      go_wp2_with fail
      all_goals
        go_ret
        refine ⟨ret_bool ?_, rfl⟩
        symm
        first
          | (refine nameB_false fun h => ?_; have h1 := h.1; omega)
          | (refine nameB_iff ?_
             simp only [decide_eq_true_eq]
             constructor
             · intro _; exact ⟨by omega, by omega, HA.out⟩
             · intro h; have h1 := h.1; have h2 := h.2.1; omega)
set_option maxRecDepth 100000 in
set_option maxHeartbeats 1000000 in
theorem name_ref (s : ByteArray) (w : World) (hs : s.size ≤ maxLen) :
    Calls Tryd.prog 32 #[.string s] w fun e w' => e = .returned (.bool (nameB s)) ∧ w' = w := by
  unfold maxLen at hs
  have CL : ∀ (c : UInt8) (w : World), Calls Tryd.prog 52 #[.int .u8 (c.toNat : Int)] w fun e w' => e = .returned (.bool (letB (c.toNat : Int))) ∧ w' = w := fun c w => letter_any c.toNat w c.toNat_lt
  have CL := Lib.hid CL
  by_cases h0 : s.size < 1
  · have HN : Hid (nameB s = false) := Lib.hid (nameB_false fun h => by have := h.1; omega)
    go_enter Tryd.func32, Tryd.ntmps32
    go_wp2
    go_ret
    exact ⟨ret_bool HN.out.symm, rfl⟩
  by_cases h1 : 32 < s.size
  · have HN : Hid (nameB s = false) := Lib.hid (nameB_false fun h => by have := h.2.1; omega)
    go_enter Tryd.func32, Tryd.ntmps32
    go_wp2
    go_ret
    exact ⟨ret_bool HN.out.symm, rfl⟩
  have hlt0 : 0 < s.size := by omega
  have HC0 : Hid (ChP s 0 ↔ LetP (s[0].toNat : Int)) := Lib.hid ⟨fun h => by rcases h hlt0 with ⟨_, h⟩ | ⟨h, _⟩; exact h; exact absurd rfl h, fun h _ => .inl ⟨rfl, h⟩⟩
  have C0 := CL.out s[0] w
  obtain ⟨lb, hlb⟩ : ∃ lb, letB (s[0].toNat : Int) = lb := ⟨_, rfl⟩
  have HLB : Hid (lb = true ↔ LetP (s[0].toNat : Int)) := Lib.hid (by rw [← hlb]; simp [letB])
  rw [hlb] at C0
  clear hlb
  cases lb
  · have HN : Hid (nameB s = false) := Lib.hid (nameB_false fun h => by have := HLB.out.2 (HC0.out.1 (h.2.2 0)); cases this)
    go_enter Tryd.func32, Tryd.ntmps32
    go_wp2_with (go_at_call 52; with_reducible refine C0.mono ?_; rintro e w' ⟨rfl, rfl⟩)
    go_ret
    exact ⟨ret_bool HN.out.symm, rfl⟩
  have HU0 : Hid (Upto s 1) := Lib.hid (fun j hj => by rw [show j = 0 by omega]; exact HC0.out.2 (HLB.out.1 rfl))
  clear HC0 HLB
  go_enter Tryd.func32, Tryd.ntmps32
  go_upto_region 4 with (go_at_call 52; with_reducible refine C0.mono ?_; rintro e w' ⟨rfl, rfl⟩)
  clear C0
  go_loop [3] (fun i => ∃ k : Nat, 1 ≤ k ∧ k ≤ s.size ∧ i = .int .i64 k ∧ Hid (Upto s k)) (fun i => s.size - (intOf i).toNat)
  case atStart => exact ⟨1, by omega, by omega, rfl, HU0⟩
  case round =>
    obtain ⟨k, hk1, hk, rfl, HU⟩ := hrel
    by_cases hlt : k < s.size
    · have hcb : (s[k].toNat : Int) < 256 := by have := s[k].toNat_lt; omega
      have hc0 : (0 : Int) ≤ (s[k].toNat : Int) := by omega
      have HC : Hid (ChP s k ↔ RestP (s[k].toNat : Int)) := Lib.hid ⟨fun h => by rcases h hlt with ⟨h, _⟩ | ⟨_, h⟩; omega; exact h, fun h _ => .inr ⟨by omega, h⟩⟩
      have Ck := CL.out s[k] w'
      obtain ⟨lb, hlb⟩ : ∃ lb, letB (s[k].toNat : Int) = lb := ⟨_, rfl⟩
      have HLB : Hid (lb = true ↔ LetP (s[k].toNat : Int)) := Lib.hid (by rw [← hlb]; simp [letB])
      rw [hlb] at Ck
      clear hlb
      cases lb
      · have HK : Hid (ChP s k ↔ ((s[k].toNat : Int) = 46 ∨ (48 ≤ (s[k].toNat : Int) ∧ (s[k].toNat : Int) ≤ 57))) := Lib.hid (by
          have := HLB.out
          simp at this
          rw [HC.out]; unfold RestP; simp [this])
        go_upto_region 6 with (fail)
        go_cut [47] (fun s47 wx => ∃ bad : Bool, s47 = .bool bad ∧ Hid (bad = true ↔ ¬ ChP s k) ∧ wx = w')
        case first =>
          go_wp2_with (go_at_call 52; with_reducible refine Ck.mono ?_; rintro e w' ⟨rfl, rfl⟩)
          all_goals
            go_meet
            refine ⟨_, rfl, Lib.hid ?_, rfl⟩
            rw [HK.out]
            simp
            try omega
        obtain ⟨bad, rfl, HB, rfl⟩ := hcut
        cases bad
        · have hch : ChP s k := Classical.byContradiction fun h => by have := HB.out.2 h; cases this
          have HU2 := Lib.hid (HU.out.snoc hch)
          clear hch
          go_wp2_with fail
          go_round
          case rel => exact ⟨k + 1, by omega, by omega, by go_num, HU2⟩
          case measure => simp [intOf]; omega
        · have HN : Hid (nameB s = false) := Lib.hid (nameB_false fun h => (HB.out.1 rfl) (h.2.2 k))
          go_wp2_with fail
          go_ret
          exact ⟨ret_bool HN.out.symm, rfl⟩
      · have HU2 := Lib.hid (HU.out.snoc (HC.out.2 (.inl (HLB.out.1 rfl))))
        go_wp2_with (go_at_call 52; with_reducible refine Ck.mono ?_; rintro e w' ⟨rfl, rfl⟩)
        go_round
        case rel => exact ⟨k + 1, by omega, by omega, by go_num, HU2⟩
        case measure => simp [intOf]; omega
    · obtain rfl : k = s.size := by omega
      have HN : Hid (nameB s = true) := Lib.hid (nameB_true ⟨by omega, by omega, HU.out.all⟩)
      go_wp2_with fail
      go_ret
      exact ⟨ret_bool HN.out.symm, rfl⟩
end Go.Proofs.YtjkmoahnociaiaaDoor
