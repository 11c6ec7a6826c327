/- The document's purse: Close, Part. -/
import Derived.Test.YtmemdicdehppjaaR1
namespace Go.Proofs.Ytmemdicdehppjaa
open Go.RowKit

def rCloseE (s : RS) (ks : List RK) : Int := if s.opn = false then 6 else if s.part = false then 1 else if 0 < s.hand then 20 else if ks.any (·.opn) then 20 else 0
def rClose (s : RS) (ks : List RK) : RS := if rCloseE s ks = 0 then { s with opn := false } else s
theorem any_take {ks : List RK} {j : Nat} {k : RK} (h : ks[j]? = some k) : (ks.take (j + 1)).any (·.opn) = ((ks.take j).any (·.opn) || k.opn) := by
  rw [List.take_add_one, h, List.any_append]
  simp
theorem any_of_at {ks : List RK} {j : Nat} {k : RK} (h : ks[j]? = some k) (ho : k.opn = true) : ks.any (·.opn) = true :=
  List.any_eq_true.2 ⟨k, List.mem_of_getElem? h, ho⟩
set_option maxHeartbeats 1000000 in
theorem close_ref {w : World} {r : Nat} {s : RS} {ks : List RK} (h : RP w r s ks) (hg : RGood s ks) :
    Calls Try.prog 32 #[.pointer (some ⟨r, 0, none⟩)] w fun e w' => e = .returned (.int .i64 (rCloseE s ks)) ∧ Blk w' r 69 (rClose s ks).cells ∧ w.grownBy w' (some r) := by
  have HB := Lib.hid h.h
  have z3 := h.h.frozen 3
  obtain ⟨A, c, hrow, hks⟩ := h.k
  have HK := Lib.hid hks
  obtain ⟨c0, c1, c2, c3, c4, c5⟩ := rcells_of h.h
  obtain ⟨l1, h0, kl, o1, n1⟩ := hg
  obtain ⟨li, ha, pk, op, pt, row⟩ := s
  dsimp only at *
  subst hrow
  clear h hks kl
  have same : ∀ E, Hid (rCloseE ⟨li, ha, pk, op, pt, .slice A ks.length c⟩ ks = E ∧ E ≠ 0) → Hid (rClose ⟨li, ha, pk, op, pt, .slice A ks.length c⟩ ks = ⟨li, ha, pk, op, pt, .slice A ks.length c⟩) := fun E hE => Lib.hid (by unfold rClose; rw [if_neg (by rw [hE.out.1]; exact hE.out.2)])
  have SM := Lib.hid same
  clear same
  cases op
  · have HE : Hid (rCloseE ⟨li, ha, pk, false, pt, .slice A ks.length c⟩ ks = 6 ∧ (6 : Int) ≠ 0) := Lib.hid (by simp [rCloseE])
    go_enter Try.func32, Try.ntmps32
    go_wp2
    go_ret
    exact ⟨ret_int HE.out.1.symm, by rw [(SM.out _ HE).out]; exact HB.out, only_refl _ _⟩
  cases pt
  · have HE : Hid (rCloseE ⟨li, ha, pk, true, false, .slice A ks.length c⟩ ks = 1 ∧ (1 : Int) ≠ 0) := Lib.hid (by simp [rCloseE])
    go_enter Try.func32, Try.ntmps32
    go_wp2
    go_ret
    exact ⟨ret_int HE.out.1.symm, by rw [(SM.out _ HE).out]; exact HB.out, only_refl _ _⟩
  by_cases h1 : 0 < ha
  · have HE : Hid (rCloseE ⟨li, ha, pk, true, true, .slice A ks.length c⟩ ks = 20 ∧ (20 : Int) ≠ 0) := Lib.hid (by simp [rCloseE, h1])
    go_enter Try.func32, Try.ntmps32
    go_wp2
    go_ret
    exact ⟨ret_int HE.out.1.symm, by rw [(SM.out _ HE).out]; exact HB.out, only_refl _ _⟩
  have HA : Hid (ks.any (·.opn) = true → rCloseE ⟨li, ha, pk, true, true, .slice A ks.length c⟩ ks = 20 ∧ rClose ⟨li, ha, pk, true, true, .slice A ks.length c⟩ ks = ⟨li, ha, pk, true, true, .slice A ks.length c⟩) := Lib.hid (fun hb => by
    have h20 : rCloseE ⟨li, ha, pk, true, true, .slice A ks.length c⟩ ks = 20 := by simp [rCloseE, h1, hb]
    exact ⟨h20, (SM.out 20 (Lib.hid ⟨h20, by decide⟩)).out⟩)
  have HZ : Hid (ks.any (·.opn) = false → rCloseE ⟨li, ha, pk, true, true, .slice A ks.length c⟩ ks = 0 ∧ rClose ⟨li, ha, pk, true, true, .slice A ks.length c⟩ ks = ⟨li, ha, pk, false, true, .slice A ks.length c⟩) := Lib.hid (fun hb => by
    have h0 : rCloseE ⟨li, ha, pk, true, true, .slice A ks.length c⟩ ks = 0 := by simp [rCloseE, h1, hb]
    exact ⟨h0, by unfold rClose; rw [if_pos h0]⟩)
  clear SM
  have HS : Hid (Blk (w.setCell ⟨r, 3, none⟩ (.bool false)) r 69 (RS.cells ⟨li, ha, pk, false, true, .slice A ks.length c⟩)) := Lib.hid (HB.out.set_ 3 _)
  generalize rCloseE ⟨li, ha, pk, true, true, .slice A ks.length c⟩ ks = E at *
  generalize rClose ⟨li, ha, pk, true, true, .slice A ks.length c⟩ ks = Z at *
  obtain ⟨n, hnn⟩ : ∃ n, ks.length = n := ⟨_, rfl⟩
  rw [hnn] at c5 n1
  have HN := Lib.hid hnn
  have HCD : Hid (w.cell? ⟨r, 3, none⟩ = some (.bool true) ∧ w.cell? ⟨r, 5, none⟩ = some (.slice A n c)) := Lib.hid ⟨c3, c5⟩
  clear hnn
  go_enter Try.func32, Try.ntmps32
  go_wp2
  clear c0 c1 c2 c3 c4 c5
  go_loopw [3] (fun i wr => ∃ j : Nat, j ≤ n ∧ i = .int .i64 j ∧ Hid (wr = w) ∧ Hid ((ks.take j).any (·.opn) = false)) (fun i _ => n - (intOf i).toNat)
  case atStart => exact ⟨0, by omega, rfl, Lib.hid rfl, Lib.hid (by simp)⟩
  case round =>
    obtain ⟨j, hj, rfl, HW, HJ⟩ := hrel
    have c3 := HCD.out.1
    have c5 := HCD.out.2
    by_cases hlt : j < n
    · obtain ⟨⟨kb, kl, ko⟩, hkj⟩ : ∃ k, ks[j]? = some k := ⟨_, List.getElem?_eq_getElem (by rw [HN.out]; exact hlt)⟩
      obtain ⟨⟨ab, ao, rfl, d0⟩, d1, d2⟩ := HK.out j _ hkj
      have hst := any_take hkj
      dsimp only at d0 d1 d2
      rw [← HW.out] at d0 d1 d2 c3 c5
      have hj0 : (0 : Int) ≤ (j : Int) := by omega
      have hjn : (j : Int) < (n : Int) := by omega
      cases ko with
      | true =>
        have HX := Lib.hid (HA.out (any_of_at hkj rfl))
        clear hst hkj
        go_wp2
        go_ret
        refine ⟨ret_int HX.out.1.symm, ?_, ?_⟩
        · rw [HX.out.2, HW.out]; exact HB.out
        · rw [HW.out]; exact only_refl _ _
      | false =>
        rw [HJ.out, Bool.or_false] at hst
        have HX := Lib.hid hst
        clear hst hkj
        go_wp2
        go_roundw
        case rel => exact ⟨j + 1, by omega, by go_num, HW, HX⟩
        case measure => simp [intOf]; omega
    · have e : j = n := by omega
      subst e
      have e2 : ks.take j = ks := List.take_of_length_le (by rw [HN.out]; exact Nat.le_refl _)
      have hje := HJ.out
      rw [e2] at hje
      have HX := Lib.hid (HZ.out hje)
      clear hje
      have z3' := z3
      rw [← HW.out] at c3 c5 z3'
      go_wp2
      go_ret
      refine ⟨ret_int HX.out.1.symm, ?_, ?_⟩
      · rw [HX.out.2, HW.out]; exact HS.out
      · rw [HW.out]; exact only_setCell (only_refl _ _) (.inl rfl) _

/-- The pointers of a row of kids. -/
def kptrs (ks : List RK) : List Value := ks.map fun k => .pointer (some ⟨k.b, 0, none⟩)
theorem kids_of {w : World} {base : Nat} {v : Value} {ks : List RK} (hO : Owns w base 40 v (kptrs ks)) (hk : ∀ k ∈ ks, w.cell? ⟨k.b, 0, none⟩ = some (.int .i64 k.limit) ∧ w.cell? ⟨k.b, 3, none⟩ = some (.bool k.opn)) : KidsAt w v ks := by
  have hO' := hO
  rcases hO.2 with ⟨rfl, h0⟩ | ⟨g, cap, cur, rfl, _⟩
  · have : ks = [] := by simpa [kptrs] using h0
    subst this
    exact ⟨none, 0, rfl, fun j k hj => by simp at hj⟩
  · refine ⟨some ⟨g, 0, none⟩, cap, by simp [kptrs], fun j k hj => ⟨⟨g, 0, rfl, ?_⟩, hk k (List.mem_of_getElem? hj)⟩⟩
    have := World.ownsRow.cells hO' (g := g) rfl j (.pointer (some ⟨k.b, 0, none⟩)) (by simp [kptrs, hj])
    unfold Addr.add at this
    split at this <;> simp_all
/-- A kid's block. -/
def KidB (w : World) (k : RK) : Prop := ∃ s : RS, Blk w k.b 69 s.cells ∧ s.limit = k.limit ∧ s.opn = k.opn
theorem KidB.cells {w : World} {k : RK} (h : KidB w k) : w.cell? ⟨k.b, 0, none⟩ = some (.int .i64 k.limit) ∧ w.cell? ⟨k.b, 3, none⟩ = some (.bool k.opn) := by
  obtain ⟨s, hs, h1, h2⟩ := h
  have := rcells_of hs
  exact ⟨by rw [this.c0, h1], by rw [this.c3, h2]⟩
theorem info40 : (Try.prog.info? 40).map (fun i => (i.zero, i.size, i.bytes)) = some (some (.pointer none), 1, 8) := by kernel_rfl
/-- What the document's Part leaves. -/
def RParted (base r : Nat) (s : RS) (ks : List RK) (n : Int) (w : World) (e : Ending) (w' : World) : Prop :=
  (rAskE s ks n ≠ 0 ∧ e = .returned (.tuple #[.pointer none, .int .i64 (rAskE s ks n)]) ∧ w' = w) ∨
  (rAskE s ks n = 0 ∧ ∃ q v', e = .returned (.tuple #[.pointer (some ⟨q, 0, none⟩), .int .i64 0]) ∧ Blk w' q 69 (RS.cells ⟨n, 0, 0, true, true, .slice none 0 0⟩) ∧
    Blk w' r 69 (RS.cells { s with peak := max s.peak (s.hand + (kidSum ks + n)), row := v' }) ∧ Owns w' base 40 v' (kptrs (ks ++ [⟨q, n, true⟩])) ∧ w.heap.size ≤ q ∧
    Tur w w' (r :: s.row.ownBlock.toList) ∧ (v'.ownBlock = s.row.ownBlock ∨ ∃ g, v'.ownBlock = some g ∧ w.heap.size ≤ g))
theorem ask_ref_ok {s : RS} {ks : List RK} {n : Int} (h : rAskE s ks n = 0) : s.opn = true ∧ 0 ≤ n ∧ n ≤ s.limit - (s.hand + kidSum ks) := by
  unfold rAskE at h
  split at h
  · cases h
  · split at h
    · cases h
    · split at h
      · cases h
      · rename_i a b c
        exact ⟨by simpa using a, by omega, by omega⟩
set_option maxHeartbeats 2000000 in
theorem part_ref {w : World} {base r : Nat} {s : RS} {ks : List RK} (n : Int) (hb : Blk w r 69 s.cells) (hO : Owns w base 40 s.row (kptrs ks)) (hk : ∀ k ∈ ks, k.b ≠ r ∧ KidB w k) (hg : RGood s ks) (hbase : base ≤ w.heap.size)
    (hlen : (ks.length + 1) * 8 ≤ 140737488351232) (hn : -9223372036854775808 ≤ n ∧ n ≤ 9223372036854775807) :
    Calls Try.prog 29 #[.pointer (some ⟨r, 0, none⟩), .int .i64 n] w (RParted base r s ks n w) := by
  have ho := out_rp ⟨hb, kids_of hO (fun k h => (hk k h).2.cells)⟩ hg
  have hs0 := kidSum_nonneg ks hg.kl
  have HG := Lib.hid hg
  have HK := Lib.hid hk
  have HO := Lib.hid hO
  have HB := Lib.hid hb
  obtain ⟨c0, c1, c2, c3, c4, c5⟩ := rcells_of hb
  obtain ⟨l1, h0, kl, o1, n1⟩ := hg
  obtain ⟨li, ha, pk, op, pt, row⟩ := s
  dsimp only at *
  clear hb hO hk kl n1
  cases op
  · have HE : Hid (rAskE ⟨li, ha, pk, false, pt, row⟩ ks n = 6) := Lib.hid (by simp [rAskE])
    go_enter Try.func29, Try.ntmps29
    go_wp2
    go_ret2
    exact .inl ⟨by rw [HE.out]; decide, by rw [HE.out]; rfl, rfl⟩
  by_cases n0 : n < 0
  · have HE : Hid (rAskE ⟨li, ha, pk, true, pt, row⟩ ks n = 1) := Lib.hid (by simp [rAskE, n0])
    go_enter Try.func29, Try.ntmps29
    go_wp2
    go_ret2
    exact .inl ⟨by rw [HE.out]; decide, by rw [HE.out]; rfl, rfl⟩
  obtain ⟨S, hS⟩ : ∃ S, ha + kidSum ks = S := ⟨_, rfl⟩
  have hw1 : IntKind.i64.wrap (li - S) = li - S := by rw [IntKind.wrap_i64]; omega
  by_cases n1 : li - S < n
  · have HE : Hid (rAskE ⟨li, ha, pk, true, pt, row⟩ ks n = 2) := Lib.hid (by simp [rAskE, n0, hS, n1])
    rw [hS] at ho
    clear hS
    go_enter Try.func29, Try.ntmps29
    go_wp2_with (go_at_call 41; refine ho.mono ?_; rintro e w1 ⟨rfl, rfl⟩)
    go_ret2
    exact .inl ⟨by rw [HE.out]; decide, by rw [HE.out]; rfl, rfl⟩
  · have he : rAskE ⟨li, ha, pk, true, pt, row⟩ ks n = 0 := by simp [rAskE, n0, hS, n1]
    have HE := Lib.hid he
    have hn0 : 0 ≤ n := by omega
    have hn1 : n ≤ li - S := by omega
    have HSS := Lib.hid hS
    rw [hS] at ho
    clear he hS
    have HQ := Lib.hid (Blk.new w 69 (RS.cells ⟨n, 0, 0, true, true, .slice none 0 0⟩))
    have hbl := below1 w (.cells (RS.cells ⟨n, 0, 0, true, true, .slice none 0 0⟩).toArray 69)
    have HBL := Lib.hid hbl
    have HB1 := Lib.hid (HB.out.self hbl)
    have HO1 := Lib.hid (HO.out.below hbl)
    have hsz1 := hbl.size
    clear hbl
    go_enter Try.func29, Try.ntmps29
    go_upto_region 9 with (go_at_call 41; refine ho.mono ?_; rintro e w1 ⟨rfl, rfl⟩)
    show Code.wp _ _ _ _ (w1.alloc (.cells (RS.cells ⟨n, 0, 0, true, true, .slice none 0 0⟩).toArray 69))
    obtain ⟨W1, hW1⟩ : ∃ W, w1.alloc (.cells (RS.cells ⟨n, 0, 0, true, true, .slice none 0 0⟩).toArray 69) = W := ⟨_, rfl⟩
    rw [hW1] at HQ HBL HB1 HO1 hsz1 ⊢
    clear hW1 ho
    have hbl := below1 W1 (.cells [Value.pointer (some ⟨w1.heap.size, 0, none⟩)].toArray 40)
    have HB2 := Lib.hid (HB1.out.self hbl)
    have HO2 := Lib.hid (HO1.out.below hbl)
    have HQ2 := Lib.hid (HQ.out.self hbl)
    have HBL2 := Lib.hid (HBL.out.trans (hbl.mono hsz1))
    clear hbl c0 c1 c2 c3 c4 c5
    have c5 := (rcells_of HB2.out).c5
    have c5' := (rcells_of HB1.out).c5
    have hkl : (kptrs ks).length = ks.length := by simp [kptrs]
    go_upto_region 10 with (at_builtin; refine wpList_push2 rfl _ _ 35 rfl base 40 _ 8 Try.underlying35 info40 rfl row (kptrs ks) rfl HO2.out ⟨W1.heap.size, 0, none⟩ (.pointer (some ⟨w1.heap.size, 0, none⟩)) rfl (by simp [go_sem]) rfl (by simp only [maxLen]; omega) (by omega) (by simp; omega) ?_; intro v3 w3 hown hg3 hb3; obtain ⟨A3, cap3, hv3⟩ := hown.form; subst hv3; have b3 := HB2.out.grown hg3 (fun e => (Owns.typed HO2.out e.symm).ne HB2.out.typed (by decide) rfl); have d5 := (rcells_of b3).c5; have z5 := b3.frozen 5)
    have HO3 := Lib.hid hown
    have HG3 := Lib.hid hg3
    have HB3 := Lib.hid b3
    have HV3 := Lib.hid hb3
    clear hown hg3 b3 hb3 d5 z5 c5 c5'
    have hm3 : (kptrs ks ++ [Value.pointer (some ⟨w1.heap.size, 0, none⟩)]).length = ks.length + 1 := by simp [kptrs]
    obtain ⟨m3, hm4⟩ : ∃ m, ks.length + 1 = m := ⟨_, rfl⟩
    rw [hm4] at hm3
    obtain ⟨q, hq⟩ : ∃ q, w1.heap.size = q := ⟨_, rfl⟩
    have HKS : Hid (kptrs (ks ++ [⟨q, n, true⟩]) = kptrs ks ++ [Value.pointer (some ⟨q, 0, none⟩)]) := Lib.hid (by simp [kptrs])
    have HSZ := Lib.hid hsz1
    have HQS : Hid (kidSum (ks ++ [⟨q, n, true⟩]) = kidSum ks + n) := Lib.hid (by rw [kidSum_app]; simp [kidSum, RK.out])
    have hrq : r < q := by rw [← hq]; exact HB.out.lt
    rw [hq] at HO3 hm3 HQ2 HB2 HO2 HBL2 HG3 HV3 ⊢
    have HQ3 : Hid (Blk w3 q 69 (RS.cells ⟨n, 0, 0, true, true, .slice none 0 0⟩)) := Lib.hid (HQ2.out.grown HG3.out (fun e => (Owns.typed HO2.out e.symm).ne HQ2.out.typed (by decide) rfl))
    have HK3 : Hid (∀ k ∈ ks, k.b ≠ r ∧ KidB w3 k) := Lib.hid (fun k hk => by
      obtain ⟨h1, s', hs', h2, h3⟩ := HK.out k hk
      refine ⟨h1, s', ?_, h2, h3⟩
      have hs2 : Blk (W1.alloc (Obj.cells #[Value.pointer (some ⟨q, 0, none⟩)] 40)) k.b 69 s'.cells := by
        rw [← hq] at HBL2 ⊢
        exact hs'.self HBL2.out
      exact hs2.grown HG3.out (fun e => (Owns.typed HO2.out e.symm).ne hs2.typed (by decide) rfl))
    have g4 := only_setCell (only_refl w3 (some r)) (p := ⟨r, 5, none⟩) (.inl rfl) (.slice A3 m3 cap3)
    rw [hm3] at HO3 HV3
    rw [hm4]
    generalize hv : Value.slice A3 m3 cap3 = v3 at *
    have HB4 : Hid (Blk (w3.setCell ⟨r, 5, none⟩ v3) r 69 (RS.cells ⟨li, ha, pk, true, pt, v3⟩)) := Lib.hid (HB3.out.set_ 5 v3)
    have HQ4 := Lib.hid (HQ3.out.grown g4 (fun e => by have := Option.some.inj e; omega))
    have HO4 := Lib.hid (HO3.out.aside HB3.out.typed (by decide) g4)
    have HK4 : Hid (∀ k ∈ ks, k.b ≠ r ∧ KidB (w3.setCell ⟨r, 5, none⟩ v3) k) := Lib.hid (fun k hk => by
      obtain ⟨h1, s', hs', h2, h3⟩ := HK3.out k hk
      exact ⟨h1, s', hs'.grown g4 (fun e => h1 (Option.some.inj e)), h2, h3⟩)
    have HT4 : Hid (Tur w1 (w3.setCell ⟨r, 5, none⟩ v3) (r :: row.ownBlock.toList)) := Lib.hid (by
      have t2 : Tur w1 (W1.alloc (Obj.cells #[Value.pointer (some ⟨q, 0, none⟩)] 40)) (r :: row.ownBlock.toList) := by
        have := HBL2.out
        exact ⟨this.os, this.tape, this.output, this.size, fun i hi _ => this.block i (by omega)⟩
      have t3 : Tur (W1.alloc (Obj.cells #[Value.pointer (some ⟨q, 0, none⟩)] 40)) w3 (r :: row.ownBlock.toList) := by
        have := HG3.out
        refine ⟨this.os, this.tape, this.output, this.size, fun i hi hn => this.block i hi (fun e => hn ?_)⟩
        rw [← e]
        simp
      exact (t2.trans t3).trans (Tur.of g4 (by simp)))
    have hP4 : RP (w3.setCell ⟨r, 5, none⟩ v3) r ⟨li, ha, pk, true, pt, v3⟩ (ks ++ [⟨q, n, true⟩]) := ⟨HB4.out, kids_of (by rw [HKS.out]; exact HO4.out) (fun k hk => by
      rcases List.mem_append.1 hk with hk | hk
      · exact (HK4.out k hk).2.cells
      · simp at hk
        subst hk
        exact (KidB.cells ⟨_, HQ4.out, rfl, rfl⟩))⟩
    have hG4 : RGood ⟨li, ha, pk, true, pt, v3⟩ (ks ++ [⟨q, n, true⟩]) := ⟨l1, h0, fun k hk => by
      rcases List.mem_append.1 hk with hk | hk
      · exact HG.out.kl k hk
      · simp at hk
        subst hk
        exact hn0, by rw [HQS.out]; have := HSS.out; dsimp only; omega, by simp; omega⟩
    have hnot := noted_ref hP4 hG4
    rw [HQS.out] at hnot
    clear hP4 hG4 g4
    go_wp2_with (go_at_call 42; with_reducible refine hnot.mono ?_; rintro e w5 ⟨rfl, hb5, hg5⟩)
    go_ret2
    refine .inr ⟨HE.out, q, v3, rfl, HQ4.out.grown hg5 (fun e => by have := Option.some.inj e; omega), hb5, ?_, by omega, ?_, ?_⟩
    · rw [HKS.out]; exact HO4.out.aside HB4.out.typed (by decide) hg5
    · exact HT4.out.trans (Tur.of hg5 (by simp))
    · rcases HV3.out with h | h
      · exact .inl h
      · refine .inr ⟨_, h, ?_⟩
        simp only [World.alloc, Array.size_push]
        have := HSZ.out
        omega
end Go.Proofs.Ytmemdicdehppjaa
