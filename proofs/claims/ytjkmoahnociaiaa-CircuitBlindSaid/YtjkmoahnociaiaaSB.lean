/- grown: 64 more, one by one; what was handed in stays as it was. -/
import Derived.Test.YtjkmoahnociaiaaSA
namespace Go.Proofs.Ytjkmoahnociaiaa
open Go.RowKit

def gbit (v : Int) (j : Nat) : Bool := bits BinOp.and IntKind.i64 (v / 2 ^ (j % 16)) 1 == 1
def gbits (v : Int) (k : Nat) : List Bool := (List.range k).map (gbit v)
theorem gbits_succ (v : Int) (k : Nat) : gbits v (k + 1) = gbits v k ++ [gbit v k] := by simp [gbits, List.range_succ]
theorem gbits_length (v : Int) (k : Nat) : (gbits v k).length = k := by simp [gbits]
/-- A block that is this one, or new. -/
def OrNew (w : World) (A : Option Addr) (v : Value) : Prop := v.ownBlock = A.map (·.block) ∨ ∃ g, v.ownBlock = some g ∧ w.heap.size ≤ g
theorem grow_step {w wr w5 : World} {base n c : Nat} {A : Option Addr} {xs zs : List Bool} {vl v5 : Value} (h0 : Owns w base 4 (.slice A n c) (bools xs)) (hsz : w.heap.size ≤ wr.heap.size) (hC : CReads wr A (bools xs)) (hv : OrNew w A vl)
    (ho : Owns w5 base 4 v5 (bools (xs ++ zs))) (hg : wr.grownBy w5 vl.ownBlock) (h5 : v5.ownBlock = vl.ownBlock ∨ (v5.ownBlock = some wr.heap.size ∧ wr.grownBy w5 none)) : CReads w5 A (bools xs) ∧ OrNew w A v5 := by
  have hA : A = none ∨ ∃ g, A = some ⟨g, 0, none⟩ ∧ g < w.heap.size := by
    rcases h0.2 with ⟨hv, _⟩ | ⟨g, cap, cur, hv, hb, hh, _⟩
    · cases hv; exact .inl rfl
    · cases hv
      exact .inr ⟨g, rfl, (h0.lt (g := g) rfl).2⟩
  rcases h5 with h5 | ⟨h5, hn⟩
  · have hO : OrNew w A v5 := by unfold OrNew at hv ⊢; rw [h5]; exact hv
    refine ⟨?_, hO⟩
    rcases hv with hv | ⟨g, hv, hgs⟩
    · rcases hA with rfl | ⟨g, rfl, hlt⟩
      · rcases h0.2 with ⟨_, h1⟩ | ⟨g', cap, cur, hv', _⟩
        · have : xs = [] := List.eq_nil_of_length_eq_zero (by simpa [bools_length] using h1)
          subst this
          exact CReads.nil _ _
        · cases hv'
      · have hv5 : v5.ownBlock = some g := h5.trans hv
        rcases ho.2 with ⟨rfl, _⟩ | ⟨g', cap, cur, rfl, _⟩
        · cases hv5
        · have e2 : g' = g := Option.some.inj hv5
          subst e2
          have hrd : CReads w5 (some ⟨g', 0, none⟩) (bools (xs ++ zs)) := by
            have := ho
            unfold Owns at this
            exact rows_read this (by decide)
          rw [bools_append] at hrd
          exact hrd.front
    · rcases hA with rfl | ⟨ga, rfl, hlt⟩
      · exact hC.grown hg (fun b o e => by cases e)
      · exact hC.grown hg (fun b o e => by cases e; rw [hv]; intro e2; have := Option.some.inj e2; omega)
  · exact ⟨hC.grown hn (fun _ _ _ => by simp), .inr ⟨_, h5, hsz⟩⟩
theorem grown_trans {a b c : World} {r r' : Option Nat} (h : a.grownBy b r) (k : b.grownBy c r') (hr : r' = r ∨ ∃ g, r' = some g ∧ a.heap.size ≤ g) : a.grownBy c r := by
  refine ⟨k.os.trans h.os, k.tape.trans h.tape, k.output.trans h.output, Nat.le_trans h.size k.size, fun i hi hne => ?_⟩
  refine (k.block i (Nat.lt_of_lt_of_le hi h.size) ?_).trans (h.block i hi hne)
  rcases hr with rfl | ⟨g, rfl, hg⟩
  · exact hne
  · intro e
    have := Option.some.inj e
    omega
set_option maxHeartbeats 4000000 in
theorem grown_any (base : Nat) (A : Option Addr) (n c : Nat) (xs : List Bool) (v : Int) (w : World) (hA : Owns w base 4 (.slice A n c) (bools xs)) (hb : base ≤ w.heap.size) (hn : xs.length = n) (hm : n ≤ 140737488350000) :
    Calls Try.prog 44 #[.slice A n c, .int .i64 v] w fun e w' => ∃ A' c', e = .returned (.slice A' (n + 64) c') ∧ Hid (Owns w' base 4 (.slice A' (n + 64) c') (bools (xs ++ gbits v 64))) ∧ Hid (CReads w' A (bools xs)) ∧ Hid (w.grownBy w' (A.map (·.block))) ∧ Hid (OrNew w A (.slice A' (n + 64) c')) := by
  have HN := Lib.hid hn; have HA := Lib.hid hA
  have HO0 : Hid (Owns w base 4 (.slice A n c) (bools (xs ++ gbits v 0))) := Lib.hid (by simpa [gbits] using hA)
  have HC0 : Hid (CReads w A (bools xs)) := Lib.hid (by
    have := hA
    unfold Owns at this
    rw [bools_length, hn] at this
    exact rows_read this (by decide))
  have HG0 := Lib.hid (only_refl w (A.map (·.block)))
  have HE0 : Hid (OrNew w A (.slice A n c)) := Lib.hid (.inl (by cases A <;> rfl))
  clear hA hn
  go_enter Try.func44, Try.ntmps44
  go_upto_region 2 with (fail)
  go_loopw [0, 5] (fun vl s5 wr => ∃ j : Nat, j ≤ 64 ∧ s5 = .int .i64 j ∧ Hid (Owns wr base 4 vl (bools (xs ++ gbits v j))) ∧ Hid (CReads wr A (bools xs)) ∧ Hid (w.grownBy wr (A.map (·.block))) ∧ Hid (OrNew w A vl)) (fun _ s5 _ => 64 - (intOf s5).toNat)
  case atStart => exact ⟨0, by omega, rfl, HO0, HC0, HG0, HE0⟩
  case round =>
    clear HO0 HC0 HG0 HE0
    obtain ⟨j, hj, rfl, HO, HC, HG, HE⟩ := hrel
    by_cases hlt : j < 64
    · have hj1 : (j : Int) < 64 := by omega
      have hj0 : (0 : Int) ≤ (j : Int) := by omega
      obtain ⟨jm, hjm⟩ : ∃ jm, j % 16 = jm := ⟨_, rfl⟩
      have hjm1 : jm < 16 := by omega
      have hmod : (j : Int).tmod 16 = (jm : Int) := by rw [Int.tmod_eq_emod_of_nonneg hj0]; omega
      obtain ⟨xb, hxb⟩ : ∃ xb, gbit v j = xb := ⟨_, rfl⟩
      have e : (bits BinOp.and IntKind.i64 (v / 2 ^ jm) 1 == 1) = xb := by rw [← hxb, ← hjm]; rfl
      have hF := gbits_succ v j
      rw [hxb] at hF
      have HF := Lib.hid hF
      have hbl := below1 wr (.cells [Value.bool xb].toArray 4)
      have HO1 := Lib.hid (HO.out.below hbl)
      have HC1 := Lib.hid (HC.out.below hbl)
      have HG1 := Lib.hid (grown_trans HG.out (only_of_below hbl (A.map (·.block))) (.inl rfl))
      have hsz := HG.out.size
      have hlen : (bools (xs ++ gbits v j)).length = n + j := by rw [bools_length, List.length_append, gbits_length, HN.out]
      clear hF hbl hxb HO HC HG
      go_upto_region 3 with (at_builtin; refine wpList_push3 rfl _ _ 35 rfl base 4 _ 1 Try.underlying35 info_bool rfl u0 _ rfl HO1.out ⟨wr.heap.size, 0, none⟩ (.bool xb) rfl (by simp [go_sem]) rfl (by rw [hlen]; unfold maxLen; omega) (by rw [hlen]; omega) (by simp; omega) ?_; intro v5 w5 hown5 hg5 hb5)
      rw [bools_snoc, List.append_assoc, ← HF.out] at hown5
      obtain ⟨hc5, he5⟩ := grow_step HA.out HG1.out.size HC1.out HE.out hown5 hg5 hb5
      have HO5 := Lib.hid hown5
      have HC5 := Lib.hid hc5
      have HE5 := Lib.hid he5
      have HG5 := Lib.hid (grown_trans HG1.out hg5 HE.out)
      clear hown5 hc5 he5 hg5 hb5 HO1 HC1 HG1 HE hlen
      go_wp2
      go_roundw
      case rel => exact ⟨j + 1, by omega, by go_num, HO5, HC5, HG5, HE5⟩
      case measure => simp [intOf]; omega
    · have hj16 : ¬ (j : Int) < 64 := by omega
      have he : j = 64 := by omega
      obtain ⟨A5, c5, hv5⟩ := HO.out.form
      rw [bools_length, List.length_append, gbits_length, HN.out, he] at hv5
      subst hv5
      rw [he] at HO
      clear he
      go_wp2
      go_ret
      exact ⟨A5, c5, rfl, HO, HC, HG, HE⟩
end Go.Proofs.Ytjkmoahnociaiaa
