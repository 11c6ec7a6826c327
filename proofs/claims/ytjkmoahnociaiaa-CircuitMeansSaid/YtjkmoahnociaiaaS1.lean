/- many and Count: how many lines are of a kind. -/
import Derived.Test.YtjkmoahnociaiaaS0
import Derived.Test.YtjkmoahnociaiaaXE
namespace Go.Proofs.Ytjkmoahnociaiaa
open Go.RowKit

theorem cntK_no {gs : List Gt} {kind : Int} {k : Nat} {g : Gt} (hg : gs[k]? = some g) (h : ¬ g.kind = kind) : cntK gs kind (k + 1) = cntK gs kind k := by rw [cntK_succ hg, if_neg h]; omega
theorem cntK_yes {gs : List Gt} {kind : Int} {k : Nat} {g : Gt} (hg : gs[k]? = some g) (h : g.kind = kind) : cntK gs kind (k + 1) = cntK gs kind k + 1 := by rw [cntK_succ hg, if_pos h]
set_option maxHeartbeats 4000000 in
theorem many_any (gs : List Gt) (kind : Int) (name : ByteArray) (A B : Option Addr) (n m ca cb : Nat) (w : World) (hA : CReads w A (gcells gs)) (hn : gs.length = n) (hn1 : n ≤ 9223372036854775806) :
    Calls Try.prog 37 #[.agg #[.string name, .slice A n ca, .slice B m cb], .int .i64 kind] w fun e w' => e = .returned (.int .i64 (cntK gs kind n : Nat)) ∧ Below w.heap.size w w' := by
  have hbl := below1 w (.cells #[.string name, .slice A n ca, .slice B m cb] 25)
  have HX := Lib.hid (Blk.new w 25 [.string name, .slice A n ca, .slice B m cb])
  have HA := Lib.hid (hA.below hbl); have HN := Lib.hid hn; have HB0 := Lib.hid hbl
  clear hA hn hbl
  go_enter Try.func37, Try.ntmps37
  go_upto_region 3 with (fail)
  change Code.wp _ _ _ _ (w.alloc (.cells #[.string name, .slice A n ca, .slice B m cb] 25))
  have HBW := Lib.hid (Below.refl (w.alloc (.cells #[.string name, .slice A n ca, .slice B m cb] 25)).heap.size (w.alloc (.cells #[.string name, .slice A n ca, .slice B m cb] 25)))
  generalize w.alloc (.cells #[.string name, .slice A n ca, .slice B m cb] 25) = W1 at *
  obtain ⟨bx, hbx⟩ : ∃ bx, w.heap.size = bx := ⟨_, rfl⟩
  rw [hbx] at HX ⊢
  clear hbx
  go_loopw [5, 11] (fun s5 s11 wr => ∃ k c : Nat, k ≤ n ∧ c ≤ k ∧ s5 = .int .i64 c ∧ s11 = .int .i64 k ∧ Hid (cntK gs kind k = c) ∧ Hid (Below W1.heap.size W1 wr)) (fun _ i _ => n - (intOf i).toNat)
  case atStart => exact ⟨0, 0, by omega, by omega, rfl, rfl, Lib.hid (cntK_zero gs kind), HBW⟩
  case round =>
    clear HBW
    obtain ⟨k, c, hk, hck, rfl, rfl, HC, HB⟩ := hrel
    by_cases hlt : k < n
    · obtain ⟨g, hg⟩ : ∃ g, gs[k]? = some g := ⟨_, List.getElem?_eq_getElem (by rw [HN.out]; exact hlt)⟩
      obtain ⟨ab, ao, rfl, hc⟩ := greads_at HA.out hg
      obtain ⟨c0, c1, c2, c3, c4, c5⟩ := hc.below HB.out
      have HGG := Lib.hid hg
      obtain ⟨kd, nm, op, a, b, cx⟩ := g
      dsimp only at *
      have HB1 := Lib.hid (HB.out.alloc HB.out.size (.cells #[.int .i64 kd, .string nm, .int .i64 op, .int .i64 a, .int .i64 b, .int .i64 cx] 33))
      have hk0 : (0 : Int) ≤ (k : Int) := by omega
      have hkn : (k : Int) < (n : Int) := by omega
      clear hg hc
      by_cases he : kd = kind
      · subst he
        have HCn : Hid (cntK gs kd (k + 1) = c + 1) := Lib.hid (by rw [cntK_yes HGG.out rfl, HC.out])
        go_wp2
        go_roundw
        case rel => exact ⟨k + 1, c + 1, by omega, by omega, by go_num, by go_num, HCn, HB1⟩
        case measure => simp [intOf]; omega
      · have HCn : Hid (cntK gs kind (k + 1) = c) := Lib.hid (by rw [cntK_no HGG.out he, HC.out])
        go_wp2
        go_roundw
        case rel => exact ⟨k + 1, c, by omega, by omega, rfl, by go_num, HCn, HB1⟩
        case measure => simp [intOf]; omega
    · obtain rfl : k = n := by omega
      go_wp2
      go_ret
      exact ⟨by rw [HC.out]; rfl, below_then HB0.out HB0.out.size HB.out⟩
set_option maxHeartbeats 4000000 in
theorem count_ref (gs : List Gt) (kind : Int) (name : ByteArray) (A B : Option Addr) (n m ca cb : Nat) (w : World) (hA : CReads w A (gcells gs)) (hn : gs.length = n) (hn1 : n ≤ 9223372036854775806) :
    Calls Try.prog 40 #[.agg #[.string name, .slice A n ca, .slice B m cb], .int .i64 kind] w fun e w' => e = .returned (.int .i64 (cntK gs kind n : Nat)) ∧ Below w.heap.size w w' := by
  have hbl := below1 w (.cells #[.string name, .slice A n ca, .slice B m cb] 25)
  have HX := Lib.hid (Blk.new w 25 [.string name, .slice A n ca, .slice B m cb])
  have HA := Lib.hid (hA.below hbl); have HN := Lib.hid hn; have HB0 := Lib.hid hbl
  clear hA hn hbl
  go_enter Try.func40, Try.ntmps40
  go_upto_region 3 with (fail)
  change Code.wp _ _ _ _ (w.alloc (.cells #[.string name, .slice A n ca, .slice B m cb] 25))
  have HBW := Lib.hid (Below.refl (w.alloc (.cells #[.string name, .slice A n ca, .slice B m cb] 25)).heap.size (w.alloc (.cells #[.string name, .slice A n ca, .slice B m cb] 25)))
  generalize w.alloc (.cells #[.string name, .slice A n ca, .slice B m cb] 25) = W1 at *
  obtain ⟨bx, hbx⟩ : ∃ bx, w.heap.size = bx := ⟨_, rfl⟩
  rw [hbx] at HX ⊢
  have HBS := Lib.hid hbx
  clear hbx
  go_loopw [5, 6] (fun s5 s6 wr => ∃ k c : Nat, k ≤ n ∧ c ≤ k ∧ s5 = .int .i64 c ∧ s6 = .int .i64 k ∧ Hid (cntK gs kind k = c) ∧ Hid (Below W1.heap.size W1 wr)) (fun _ i _ => n - (intOf i).toNat)
  case atStart => exact ⟨0, 0, by omega, by omega, rfl, rfl, Lib.hid (cntK_zero gs kind), HBW⟩
  case round =>
    clear HBW
    obtain ⟨k, c, hk, hck, rfl, rfl, HC, HB⟩ := hrel
    have x1 : wr.cell? ⟨bx, 1, none⟩ = some (.slice A n ca) := ((HX.out.self HB.out).cell 1).trans rfl
    by_cases hlt : k < n
    · obtain ⟨g, hg⟩ : ∃ g, gs[k]? = some g := ⟨_, List.getElem?_eq_getElem (by rw [HN.out]; exact hlt)⟩
      obtain ⟨ab, ao, rfl, hc⟩ := greads_at HA.out hg
      obtain ⟨c0, c1, c2, c3, c4, c5⟩ := hc.below HB.out
      have HGG := Lib.hid hg
      obtain ⟨kd, nm, op, a, b, cx⟩ := g
      dsimp only at *
      have hk0 : (0 : Int) ≤ (k : Int) := by omega
      have hkn : (k : Int) < (n : Int) := by omega
      clear hg hc
      by_cases he : kd = kind
      · subst he
        have HCn : Hid (cntK gs kd (k + 1) = c + 1) := Lib.hid (by rw [cntK_yes HGG.out rfl, HC.out])
        go_wp2
        go_roundw
        case rel => exact ⟨k + 1, c + 1, by omega, by omega, by go_num, by go_num, HCn, HB⟩
        case measure => simp [intOf]; omega
      · have HCn : Hid (cntK gs kind (k + 1) = c) := Lib.hid (by rw [cntK_no HGG.out he, HC.out])
        go_wp2
        go_roundw
        case rel => exact ⟨k + 1, c, by omega, by omega, rfl, by go_num, HCn, HB⟩
        case measure => simp [intOf]; omega
    · obtain rfl : k = n := by omega
      go_wp2
      go_ret
      exact ⟨by rw [HC.out]; rfl, below_then HB0.out HB0.out.size HB.out⟩
end Go.Proofs.Ytjkmoahnociaiaa
