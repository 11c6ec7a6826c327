/- still and apart of the law's text. -/
import Derived.Test.YtambpbgmmmiocaaDoorH1
namespace Go.Proofs.YtambpbgmmmiocaaDoor
open Go.RowKit

theorem marks_at (n : Nat) (m : Int) (i : Nat) (h : i < n + 64) : (marks n m ++ marks 64 (m + 1))[i]? = some (if i < n then m else m + 1) := by
  by_cases hi : i < n
  · rw [if_pos hi, List.getElem?_append_left (by simpa [marks] using hi)]; simp [marks, hi]
  · rw [if_neg hi, List.getElem?_append_right (by simp [marks]; omega), marks, marks, List.length_replicate, List.getElem?_replicate, if_pos (by omega)]
set_option maxHeartbeats 2000000 in
theorem still_any (A : Option Addr) (c n : Nat) (m : Int) (w : World) (hr : Reads w .u8 A (marks n m ++ marks 64 (m + 1))) (hm : 0 ≤ m) (hm1 : m ≤ 254) (hn : n ≤ 70000000) :
    Calls Tryd.prog 34 #[.slice A (n + 64) c, .int .i64 n, .int .u8 m] w fun e w' => e = .returned (.bool true) ∧ Below w.heap.size w w' := by
  have HR := Lib.hid hr
  clear hr
  have hadd : IntKind.u8.wrap (m + 1) = m + 1 := by rw [IntKind.wrap_u8]; omega
  go_enter Tryd.func34, Tryd.ntmps34
  go_wp2
  go_loop [7] (fun i => ∃ k : Nat, k ≤ n + 64 ∧ i = .int .i64 k) (fun i => n + 64 - (intOf i).toNat)
  case atStart => exact ⟨0, by omega, rfl⟩
  case round =>
    obtain ⟨k, hk, rfl⟩ := hrel
    by_cases hlt : k < n + 64
    · obtain ⟨b, o, rfl, hc⟩ := HR.out.at_ (marks_at n m k hlt)
      by_cases hkn : k < n
      · rw [if_pos hkn] at hc
        have e1 : decide ((k : Int) < (n : Int)) = true := by simp; omega
        have e2 : decide ((n : Int) ≤ (k : Int)) = false := by simp; omega
        go_wp2
        go_round
        case rel => exact ⟨k + 1, by omega, by go_num⟩
        case measure => simp [intOf]; omega
      · rw [if_neg hkn] at hc
        have e1 : decide ((k : Int) < (n : Int)) = false := by simp; omega
        have e2 : decide ((n : Int) ≤ (k : Int)) = true := by simp; omega
        go_wp2
        go_round
        case rel => exact ⟨k + 1, by omega, by go_num⟩
        case measure => simp [intOf]; omega
    · obtain rfl : k = n + 64 := by omega
      go_wp2
      go_ret
      exact ⟨rfl, Below.refl _ _⟩

theorem run_bytes36 {w : World} {A : Option Addr} {n c : Nat} {l : List Int} (hr : Reads w .u8 A l) (hl : l.length = n) : (convert 36 9 (.slice A n c)).run Tryd.prog w = .ok (.string (strOfNums l)) w :=
  run_text Tryd.underlying36 Tryd.underlying5 Tryd.underlying9 hr hl
/-- Two rows of the call's own that share no memory. -/
def Far (a b : Value) : Prop := a.ownBlock = none ∨ a.ownBlock ≠ b.ownBlock
theorem Pushed.form {base : Nat} {e : TypeId} {sv : Value} {xs : List Value} {w : World} {en : Ending} {w' : World} (h : Pushed base e sv xs w en w') : ∃ v, en = .returned v ∧ Owns w' base e v xs ∧ w.grownBy w' sv.ownBlock ∧ (v.ownBlock = sv.ownBlock ∨ ∃ g, v.ownBlock = some g ∧ w.heap.size ≤ g) := h
theorem Far.kept {w w' : World} {base : Nat} {e : TypeId} {a b : Value} {xs : List Value} (h : Far a b) (ho : Owns w base e b xs) (hg : w.grownBy w' a.ownBlock) : Owns w' base e b xs :=
  ho.kept hg (by
    rcases h with h | h
    · rw [h]; cases b.ownBlock <;> simp
    · exact .inr fun e => h e.symm)
theorem Far.symm {a b : Value} (h : Far a b) : Far b a := by
  rcases h with h | h
  · rcases hb : b.ownBlock with _ | g
    · exact .inl hb
    · exact .inr (by rw [h, hb]; simp)
  · exact .inr fun e => h e.symm
theorem Far.next {w : World} {base : Nat} {e : TypeId} {a a' b : Value} {xs : List Value} (h : Far a b) (ho : Owns w base e b xs) (hn : a'.ownBlock = a.ownBlock ∨ ∃ g, a'.ownBlock = some g ∧ w.heap.size ≤ g) : Far a' b := by
  rcases hn with hn | ⟨g, hn, hg⟩
  · unfold Far; rw [hn]; exact h
  · refine .inr fun e => ?_
    rw [hn] at e
    have := (ho.lt e.symm).2
    omega
theorem marked_at (base : Nat) (v : Value) (xs : List Int) (n : Nat) (m : Int) (w : World) (hown : Owns w base 5 v (nums .u8 xs)) (hbase : base ≤ w.heap.size) (hm : 0 ≤ m) (hm1 : m ≤ 254) (hl : xs.length = n) (hlen : n ≤ 70000000) :
    Calls Tryd.prog 33 #[v, .int .u8 m] w fun e w' => ∃ v', e = .returned v' ∧ Owns w' base 5 v' (nums .u8 (marks n m ++ marks 64 (m + 1))) ∧ w.grownBy w' v.ownBlock ∧ (v'.ownBlock = v.ownBlock ∨ ∃ g, v'.ownBlock = some g ∧ w.heap.size ≤ g) := by
  subst hl
  exact (marked_any base v xs m w hown hbase hm hm1 hlen).mono fun e w' h => h
theorem marks_length (n k : Nat) (m : Int) : (marks n m ++ marks k (m + 1)).length = n + k := by simp [marks]
set_option maxHeartbeats 4000000 in
theorem apart_any (base : Nat) (va vb vc : Value) (xa xb xc : List Int) (w : World) (ha : Owns w base 5 va (nums .u8 xa)) (hb : Owns w base 5 vb (nums .u8 xb)) (hc : Owns w base 5 vc (nums .u8 xc)) (hbase : base ≤ w.heap.size)
    (hab : Far va vb) (hac : Far va vc) (hbc : Far vb vc) (la : xa.length ≤ 70000) (lb : xb.length ≤ 70000) (lc : xc.length ≤ 70000) :
    Calls Tryd.prog 21 #[va, vb, vc] w fun e w' => e = .returned (.bool true) ∧ Below base w w' ∧ (∀ g, g < w.heap.size → some g ≠ va.ownBlock → some g ≠ vb.ownBlock → some g ≠ vc.ownBlock → w'.heap[g]? = w.heap[g]?) := by
  obtain ⟨na, hna⟩ : ∃ L, xa.length = L := ⟨_, rfl⟩
  obtain ⟨nb, hnb⟩ : ∃ L, xb.length = L := ⟨_, rfl⟩
  obtain ⟨nc, hnc⟩ : ∃ L, xc.length = L := ⟨_, rfl⟩
  obtain ⟨A, ca, rfl, ra⟩ := ha.reads_at hna
  obtain ⟨B, cb, rfl, rb⟩ := hb.reads_at hnb
  obtain ⟨C, cc, rfl, rc⟩ := hc.reads_at hnc
  have fb := run_bytes36 (c := cb) rb hnb
  have fc := run_bytes36 (c := cc) rc hnc
  have HA := Lib.hid ha; have HB := Lib.hid hb; have HC := Lib.hid hc
  have LA := Lib.hid hna; have LB := Lib.hid hnb; have LC := Lib.hid hnc
  have DAB := Lib.hid hab; have DAC := Lib.hid hac; have DBC := Lib.hid hbc
  rw [hna] at la; rw [hnb] at lb; rw [hnc] at lc
  clear ha hb hc hna hnb hnc ra rb rc hab hac hbc
  go_enter Tryd.func21, Tryd.ntmps21
  go_upto_region 3 with (fail)
  have hm := marked_at base (.slice A na ca) xa na 201 w HA.out hbase (by decide) (by decide) LA.out (by omega)
  go_upto_region 4 with (go_at_call 33; refine hm.mono ?_; rintro e w1 ⟨v1, rfl, o1, g1, e1⟩)
  have b1 := DAB.out.kept HB.out g1
  have c1 := DAC.out.kept HC.out g1
  have FB : Hid (Far v1 (.slice B nb cb)) := Lib.hid (DAB.out.next HB.out e1)
  have FC : Hid (Far v1 (.slice C nc cc)) := Lib.hid (DAC.out.next HC.out e1)
  have kk1 : Hid (∀ g, g < w.heap.size → some g ≠ (Value.slice A na ca).ownBlock → w1.heap[g]? = w.heap[g]?) := Lib.hid fun g hg hn => g1.block g hg hn
  have z1 : Hid (w.heap.size ≤ w1.heap.size) := Lib.hid g1.size
  have hb1 : Hid (Below base w w1) := Lib.hid ((Below.refl _ _).grown g1 hbase (fun j e => (HA.out.lt e).1))
  have hs1 : base ≤ w1.heap.size := Nat.le_trans hbase g1.size
  obtain ⟨_, _, eb, rb⟩ := b1.reads_at LB.out
  cases eb
  obtain ⟨_, _, ec, rc⟩ := c1.reads_at LC.out
  cases ec
  have fb := run_bytes36 (c := cb) rb LB.out
  have fc := run_bytes36 (c := cc) rc LC.out
  have O1 := Lib.hid o1; have B1 := Lib.hid b1; have C1 := Lib.hid c1
  clear HB HC HA g1 e1 o1 b1 c1 rb rc DAB DAC
  clear hm
  go_upto_region 6 with (fail)
  clear fb fc
  have hm := marked_at base (.slice B nb cb) xb nb 203 w1 B1.out hs1 (by decide) (by decide) LB.out (by omega)
  go_upto_region 7 with (go_at_call 33; refine hm.mono ?_; rintro e w2 ⟨v2, rfl, o2, g2, e2⟩)
  have kk2 : Hid (∀ g, g < w1.heap.size → some g ≠ (Value.slice B nb cb).ownBlock → w2.heap[g]? = w1.heap[g]?) := Lib.hid fun g hg hn => g2.block g hg hn
  have z2 : Hid (w1.heap.size ≤ w2.heap.size) := Lib.hid g2.size
  have hb2 : Hid (Below base w w2) := Lib.hid (hb1.out.grown g2 hs1 (fun j e => (B1.out.lt e).1))
  have c2 := DBC.out.kept C1.out g2
  have d2 := FB.out.symm.kept O1.out g2
  have FD : Hid (Far v2 (.slice C nc cc)) := Lib.hid (DBC.out.next C1.out e2)
  have hs2 : base ≤ w2.heap.size := Nat.le_trans hs1 g2.size
  obtain ⟨_, _, ec, rc⟩ := c2.reads_at LC.out
  cases ec
  have fc := run_bytes36 (c := cc) rc LC.out
  have O1 := Lib.hid d2; have O2 := Lib.hid o2; have C2 := Lib.hid c2
  clear hm B1 C1 g2 e2 o2 c2 d2 rc DBC FB
  go_upto_region 9 with (fail)
  clear fc
  have hm := marked_at base (.slice C nc cc) xc nc 205 w2 C2.out hs2 (by decide) (by decide) LC.out (by omega)
  go_upto_region 10 with (go_at_call 33; refine hm.mono ?_; rintro e w3 ⟨v3, rfl, o3, g3, e3⟩)
  clear hm
  have kk3 : Hid (∀ g, g < w2.heap.size → some g ≠ (Value.slice C nc cc).ownBlock → w3.heap[g]? = w2.heap[g]?) := Lib.hid fun g hg hn => g3.block g hg hn
  have z3 : Hid (w2.heap.size ≤ w3.heap.size) := Lib.hid g3.size
  have hb3 : Hid (Below base w w3) := Lib.hid (hb2.out.grown g3 hs2 (fun j e => (C2.out.lt e).1))
  have hs3 : base ≤ w3.heap.size := Nat.le_trans hs2 g3.size
  have d1 := FC.out.symm.kept O1.out g3
  have d2 := FD.out.symm.kept O2.out g3
  obtain ⟨A1, k1, rfl, r1⟩ := d1.reads_at (marks_length ..)
  obtain ⟨A2, k2, rfl, r2⟩ := d2.reads_at (marks_length ..)
  obtain ⟨A3, k3, rfl, r3⟩ := o3.reads_at (marks_length ..)
  have R1 := Lib.hid r1; have R2 := Lib.hid r2; have R3 := Lib.hid r3
  clear O1 O2 C2 FC FD o3 d1 d2 r1 r2 r3 e3
  clear g3
  have st1 := still_any A1 k1 na 201 w3 R1.out (by decide) (by decide) (by omega)
  have st2 := fun W (h : Below w3.heap.size w3 W) => still_any A2 k2 nb 203 W (R2.out.below h) (by decide) (by decide) (by omega)
  have st3 := fun W (h : Below w3.heap.size w3 W) => still_any A3 k3 nc 205 W (R3.out.below h) (by decide) (by decide) (by omega)
  go_wp2_with (first | ((go_at_call 34; with_reducible refine st1.mono ?_; rintro e w4 ⟨rfl, h4⟩)) | ((go_at_call 34; with_reducible refine (st2 _ h4).mono ?_; rintro e w5 ⟨rfl, h5⟩; have h6 := below_self h4 h5)) | (go_at_call 34; with_reducible refine (st3 _ h6).mono ?_; rintro e w6 ⟨rfl, h7⟩))
  go_ret
  refine ⟨rfl, below_then hb3.out hs3 (below_self h6 h7), fun g hg ha hb hc => ?_⟩
  have q1 := z1.out; have q2 := z2.out; have q3 := z3.out
  rw [(below_self h6 h7).block g (by omega), kk3.out g (by omega) hc, kk2.out g (by omega) hb, kk1.out g hg ha]
end Go.Proofs.YtambpbgmmmiocaaDoor
