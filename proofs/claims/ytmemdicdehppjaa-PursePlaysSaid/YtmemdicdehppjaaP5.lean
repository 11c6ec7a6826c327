/- PurseApart: the law's text answers true. -/
import Derived.Test.YtmemdicdehppjaaP3
import Derived.Deep.DeepCutAuto
namespace Go.Proofs.Ytmemdicdehppjaa
open Go.RowKit Go.MuLone

/-- Purses, each in a block of its own. -/
def Fam (w : World) (l : List (Nat × PS)) : Prop := (∀ (i : Nat) (x : Nat × PS), l[i]? = some x → IsP w x.1 x.2) ∧ ∀ (i j : Nat) (x y : Nat × PS), l[i]? = some x → l[j]? = some y → x.1 = y.1 → i = j
theorem Fam.at_ {w : World} {l : List (Nat × PS)} (h : Fam w l) {i : Nat} {x : Nat × PS} (hi : l[i]? = some x) : IsP w x.1 x.2 := h.1 i x hi
theorem IsP.beside {w w' : World} {b c : Nat} {p : PS} {l : List Value} (h : IsP w b p) (hc : Blk w c 60 l) (hne : b ≠ c) (hg : w.grownBy w' (some c)) : IsP w' b p :=
  h.grown hg (fun e => hne (Option.some.inj e)) (fun e => (hc.ne h.2 (by decide)) (Option.some.inj e).symm)
theorem Fam.set_ {w w' : World} {l : List (Nat × PS)} (h : Fam w l) {i b : Nat} {p p' : PS} (hi : l[i]? = some (b, p)) (hg : w.grownBy w' (some b)) (hp : IsP w' b p') : Fam w' (l.set i (b, p')) := by
  have hlen := (List.getElem?_eq_some_iff.1 hi).1
  have key : ∀ (j : Nat) (x : Nat × PS), (l.set i (b, p'))[j]? = some x → (j = i ∧ x = (b, p')) ∨ (j ≠ i ∧ l[j]? = some x) := fun j x hx => by
    by_cases e : j = i
    · subst e
      rw [List.getElem?_set_self hlen] at hx
      exact .inl ⟨rfl, (Option.some.inj hx).symm⟩
    · rw [List.getElem?_set_ne (fun e2 => e e2.symm)] at hx
      exact .inr ⟨e, hx⟩
  refine ⟨fun j x hx => ?_, fun j k x y hx hy e => ?_⟩
  · rcases key j x hx with ⟨_, rfl⟩ | ⟨hne, hx⟩
    · exact hp
    · exact (h.1 j x hx).beside (h.1 i _ hi).1 (fun e => hne (h.2 j i x _ hx hi e)) hg
  · rcases key j x hx with ⟨e1, e2⟩ | ⟨hj, hx2⟩ <;> rcases key k y hy with ⟨e3, e4⟩ | ⟨hk, hy2⟩
    · rw [e1, e3]
    · subst e1 e2; exact h.2 _ _ _ _ hi hy2 e
    · subst e3 e4; exact h.2 _ _ _ _ hx2 hi e
    · exact h.2 _ _ _ _ hx2 hy2 e
theorem Fam.still {w w' : World} {l : List (Nat × PS)} (h : Fam w l) (hg : w.grownBy w' none) : Fam w' l := ⟨fun i x hx => (h.1 i x hx).still hg, h.2⟩
theorem Fam.below {w w' : World} {l : List (Nat × PS)} (h : Fam w l) (hb : Below w.heap.size w w') : Fam w' l := h.still (only_of_below hb none)
theorem Fam.nil (w : World) : Fam w [] := ⟨fun i x hx => by simp at hx, fun i j x y hx => by simp at hx⟩
theorem Fam.snoc {w : World} {l : List (Nat × PS)} (h : Fam w l) {b : Nat} {p : PS} (hp : IsP w b p) (hb : ∀ (i : Nat) (x : Nat × PS), l[i]? = some x → x.1 ≠ b) : Fam w (l ++ [(b, p)]) := by
  have key : ∀ (j : Nat) (x : Nat × PS), (l ++ [(b, p)])[j]? = some x → (j = l.length ∧ x = (b, p)) ∨ l[j]? = some x := fun j x hx => by
    rcases Nat.lt_trichotomy j l.length with e | e | e
    · rw [List.getElem?_append_left e] at hx; exact .inr hx
    · subst e; simp at hx; exact .inl ⟨rfl, hx.symm⟩
    · rw [List.getElem?_append_right (by omega), List.getElem?_eq_none (by simp; omega)] at hx; cases hx
  refine ⟨fun j x hx => ?_, fun j k x y hx hy e => ?_⟩
  · rcases key j x hx with ⟨_, rfl⟩ | hx
    · exact hp
    · exact h.1 j x hx
  · rcases key j x hx with ⟨e1, e2⟩ | hx2 <;> rcases key k y hy with ⟨e3, e4⟩ | hy2
    · rw [e1, e3]
    · subst e1 e2; exact absurd e.symm (hb _ _ hy2)
    · subst e3 e4; exact absurd e (hb _ _ hx2)
    · exact h.2 _ _ _ _ hx2 hy2 e
theorem Fam.lt {w : World} {l : List (Nat × PS)} (h : Fam w l) {i : Nat} {x : Nat × PS} (hi : l[i]? = some x) : x.1 < w.heap.size := (h.1 i x hi).1.lt

def Fine (l h k : Int) : Prop := 0 ≤ h ∧ h ≤ l ∧ 0 ≤ k ∧ k ≤ l ∧ l ≤ 9223372036854775807
/-- What Give and Take answer and leave of a purse that is no part and has none. -/
def gE (h x : Int) : Int := if x < 0 then 1 else if h < x then 20 else 0
def gH (h x : Int) : Int := if gE h x = 0 then h - x else h
def tE (l h x : Int) : Int := if x < 0 then 1 else if l - h < x then 2 else 0
def tH (l h x : Int) : Int := if tE l h x = 0 then h + x else h
def tK (l h k x : Int) : Int := if tE l h x = 0 then max k (h + x) else k
theorem giveE_flat (l h k x : Int) (lk : Nat) : giveE (flat l h k lk) x = gE h x := by unfold giveE gE flat; simp
theorem askE_flat (l h k x : Int) (lk : Nat) : askE (flat l h k lk) x = tE l h x := by unfold askE tE flat; simp
theorem giveP_flat (l h k x : Int) (lk : Nat) : giveP (flat l h k lk) x = flat l (gH h x) k lk := by
  unfold giveP gH
  rw [giveE_flat]
  split <;> rfl
theorem takeP_flat (l h k x : Int) (lk : Nat) : takeP (flat l h k lk) x = flat l (tH l h x) (tK l h k x) lk := by
  unfold takeP tH tK
  rw [askE_flat]
  split
  · simp [flat]
  · rfl
theorem gH_ok {l h k x : Int} (h0 : Fine l h k) : Fine l (gH h x) k := by
  obtain ⟨a, b, c, d, e⟩ := h0
  unfold gH gE
  by_cases h1 : x < 0
  · rw [if_pos h1, if_neg (by decide)]; exact ⟨a, b, c, d, e⟩
  rw [if_neg h1]
  by_cases h2 : h < x
  · rw [if_pos h2, if_neg (by decide)]; exact ⟨a, b, c, d, e⟩
  rw [if_neg h2, if_pos rfl]
  exact ⟨by omega, by omega, c, d, e⟩
theorem tH_ok {l h k x : Int} (h0 : Fine l h k) : Fine l (tH l h x) (tK l h k x) := by
  obtain ⟨a, b, c, d, e⟩ := h0
  unfold tH tK tE
  by_cases h1 : x < 0
  · rw [if_pos h1, if_neg (by decide), if_neg (by decide)]; exact ⟨a, b, c, d, e⟩
  rw [if_neg h1]
  by_cases h2 : l - h < x
  · rw [if_pos h2, if_neg (by decide), if_neg (by decide)]; exact ⟨a, b, c, d, e⟩
  rw [if_neg h2, if_pos rfl, if_pos rfl]
  exact ⟨by omega, by omega, by omega, by omega, e⟩
section
variable {w : World} {l : List (Nat × PS)} {i b lk : Nat} {L h k x : Int}
theorem famGive (hF : Fam w l) (hi : l[i]? = some (b, flat L h k lk)) (ho : Fine L h k) (hx : -9223372036854775808 ≤ x ∧ x ≤ 9223372036854775807) :
    Calls Try.prog 9 #[.pointer (some ⟨b, 0, none⟩), .int .i64 x] w fun e w' => e = .returned (.int .i64 (gE h x)) ∧ Fam w' (l.set i (b, flat L (gH h x) k lk)) ∧ w.grownBy w' (some b) :=
  (give_any b _ x w (hF.at_ hi) (flat_good ho) hx).mono fun e w' ⟨he, h1, h2⟩ => ⟨by rw [he, giveE_flat], by rw [giveP_flat] at h1; exact hF.set_ hi h2 h1, h2⟩
theorem famTake (hF : Fam w l) (hi : l[i]? = some (b, flat L h k lk)) (ho : Fine L h k) (hx : -9223372036854775808 ≤ x ∧ x ≤ 9223372036854775807) :
    Calls Try.prog 10 #[.pointer (some ⟨b, 0, none⟩), .int .i64 x] w fun e w' => e = .returned (.int .i64 (tE L h x)) ∧ Fam w' (l.set i (b, flat L (tH L h x) (tK L h k x) lk)) ∧ w.grownBy w' (some b) :=
  (take_any b _ x w (hF.at_ hi) (flat_good ho) hx).mono fun e w' ⟨he, h1, h2⟩ => ⟨by rw [he, askE_flat], by rw [takeP_flat] at h1; exact hF.set_ hi h2 h1, h2⟩
theorem famUsed (hF : Fam w l) (hi : l[i]? = some (b, flat L h k lk)) (ho : Fine L h k) :
    Calls Try.prog 11 #[.pointer (some ⟨b, 0, none⟩)] w fun e w' => e = .returned (.int .i64 h) ∧ Fam w' l ∧ w.grownBy w' none :=
  (usedF (hF.at_ hi) ho).mono fun e w' ⟨he, _, h1⟩ => ⟨he, hF.still h1, h1⟩
theorem famPeak (hF : Fam w l) (hi : l[i]? = some (b, flat L h k lk)) :
    Calls Try.prog 13 #[.pointer (some ⟨b, 0, none⟩)] w fun e w' => e = .returned (.int .i64 k) ∧ w' = w := peakF (hF.at_ hi)
end
theorem half_range (z : Int) (h : -9223372036854775808 ≤ z ∧ z ≤ 9223372036854775807) : -9223372036854775808 ≤ z.tdiv 2 ∧ z.tdiv 2 ≤ 9223372036854775807 := by
  rcases Int.lt_or_le z 0 with h0 | h0
  · obtain ⟨m, rfl⟩ : ∃ m : Int, z = -m := ⟨-z, by omega⟩
    rw [Int.neg_tdiv, Int.tdiv_eq_ediv_of_nonneg (by omega)]
    omega
  · rw [Int.tdiv_eq_ediv_of_nonneg h0]
    omega

set_option maxRecDepth 100000 in
set_option maxHeartbeats 4000000 in
theorem apart_any (limit : Int) (A : Option Addr) (n c : Nat) (xs : List Int) (A2 : Option Addr) (n2 c2 : Nat) (ys : List Int) (w : World) (hl : -9223372036854775808 ≤ limit ∧ limit ≤ 9223372036854775807) (hr : Reads w .i64 A xs) (hlen : xs.length = 3 * n)
    (hx : ∀ x ∈ xs, -9223372036854775808 ≤ x ∧ x ≤ 9223372036854775807) (hn : n ≤ 9223372036854775807) (hr2 : Reads w .i64 A2 ys) (hlen2 : ys.length = 3 * n2) (hx2 : ∀ x ∈ ys, -9223372036854775808 ≤ x ∧ x ≤ 9223372036854775807) (hn2 : n2 ≤ 9223372036854775807) :
    Calls Try.prog 4 #[.int .i64 limit, .slice A n c, .slice A2 n2 c2] w fun e w' => e = .returned (.bool true) ∧ Below w.heap.size w w' := by
  have HR := Lib.hid hr; have HL := Lib.hid hlen; have HX := Lib.hid hx
  have HR2 := Lib.hid hr2; have HL2 := Lib.hid hlen2; have HX2 := Lib.hid hx2
  clear hr hlen hx hr2 hlen2 hx2
  obtain ⟨L, hL0, hL1, hgo⟩ : ∃ L : Int, 0 ≤ L ∧ L ≤ 9223372036854775807 ∧ ((limit < 0 ∧ -(limit + 1) = L) ∨ (0 ≤ limit ∧ L = limit)) := by
    rcases Int.lt_or_le limit 0 with h | h
    · exact ⟨-(limit + 1), by omega, by omega, .inl ⟨h, rfl⟩⟩
    · exact ⟨limit, by omega, by omega, .inr ⟨h, rfl⟩⟩
  obtain ⟨L2, hL2⟩ : ∃ L2, L / 2 = L2 := ⟨_, rfl⟩
  have hL20 : 0 ≤ L2 := by omega
  have hL21 : L2 ≤ 9223372036854775807 := by omega
  have HGO := Lib.hid hgo
  clear hgo
  go_enter Try.func4, Try.ntmps4
  go_upto_if 21 with (go_at_call 7; refine (begun_any _).mono ?_; rintro e w1 ⟨rfl, hb1⟩)
  have HB1 := Lib.hid hb1
  clear hb1
  go_cut [0] (fun s0 wx => s0 = .int .i64 L ∧ Hid (Below w.heap.size w wx))
  case first =>
    rcases HGO.out with ⟨hs, hgo⟩ | ⟨hs, rfl⟩
    · go_wp2_with fail
      go_meet
      exact ⟨rfl, HB1⟩
    · go_wp2_with fail
      go_meet
      exact ⟨rfl, HB1⟩
  clear HB1
  obtain ⟨rfl, HB1⟩ := hcut
  have hnew := newF L wc hL0
  go_upto_region 7 with (go_at_call 8; refine hnew.mono ?_; rintro e wa ⟨b1, lk1, rfl, hP1, hb1, _, hB1⟩)
  have HBa := Lib.hid (below_self HB1.out hB1)
  have F1 := Lib.hid ((Fam.nil wa).snoc hP1 (by simp))
  have hb1' := Nat.le_trans HB1.out.size hb1
  clear hnew hP1 hB1 hb1
  have hnew := newF L2 wa hL20
  go_upto_region 8 with (go_at_call 8; refine hnew.mono ?_; rintro e wb ⟨b2, lk2, rfl, hP2, hb2, _, hB2⟩)
  have HBb := Lib.hid (below_self HBa.out hB2)
  have F2 := Lib.hid ((F1.out.below hB2).snoc hP2 (fun i x hx => by have := F1.out.lt hx; omega))
  have hb2' := Nat.le_trans HBa.out.size hb2
  clear hnew hP2 hB2 hb2
  have hnew := newF L wb hL0
  go_upto_region 9 with (go_at_call 8; refine hnew.mono ?_; rintro e wc ⟨b3, lk3, rfl, hP3, hb3, _, hB3⟩)
  have HBc := Lib.hid (below_self HBb.out hB3)
  have F3 := Lib.hid ((F2.out.below hB3).snoc hP3 (fun i x hx => by have := F2.out.lt hx; omega))
  have hb3' := Nat.le_trans HBb.out.size hb3
  clear hnew hP3 hB3 hb3
  go_upto_region 12 with (fail)
  go_loopg [14] n (fun r i wr => ∃ (k : Nat) (ha pk hq kq : Int), k + r = n ∧ i = .int .i64 k ∧ Hid (Fine L ha pk) ∧ Hid (Fine L2 hq kq) ∧ Hid (Fam wr [(b1, flat L ha pk lk1), (b2, flat L2 hq kq lk2), (b3, flat L ha pk lk3)]) ∧ Hid (Below w.heap.size w wr))
  case atStart => exact ⟨0, 0, 0, 0, 0, by omega, rfl, Lib.hid ⟨by omega, hL0, by omega, hL0, hL1⟩, Lib.hid ⟨by omega, hL20, by omega, hL20, hL21⟩, F3, HBc⟩
  case round =>
    obtain ⟨k, ha, pk, hq, kq, hk, rfl, HO, HO2, HF, HB⟩ := hrel
    have HK := Lib.hid hk
    by_cases hlt : k < n
    · obtain ⟨y, hy⟩ : ∃ y, xs[3 * k + 1]? = some y := ⟨_, List.getElem?_eq_getElem (by rw [HL.out]; omega)⟩
      obtain ⟨x, hx⟩ : ∃ x, xs[3 * k + 2]? = some x := ⟨_, List.getElem?_eq_getElem (by rw [HL.out]; omega)⟩
      obtain ⟨ab, ao, rfl, hc1⟩ := HR.out.at_ hy
      obtain ⟨_, _, e, hc2⟩ := HR.out.at_ hx
      cases e
      rw [show ao + (3 * k + 1) = ao + k * 3 + 1 by omega] at hc1
      rw [show ao + (3 * k + 2) = ao + k * 3 + 2 by omega] at hc2
      have H2 := Lib.hid hc2
      have c1 := cell_kept HB.out hc1
      have c2 := cell_kept HB.out hc2
      have xr := HX.out x (List.mem_of_getElem? hx)
      clear hy hx hc1 hc2 hk
      go_upto_if 74 with (fail)
      go_cut [15, 16] (fun s15 s16 wx => ∃ (E h2 k2 : Int), s15 = .int .i64 E ∧ s16 = .int .i64 E ∧ Hid (Fine L h2 k2) ∧ Hid (Fam wx [(b1, flat L h2 k2 lk1), (b2, flat L2 hq kq lk2), (b3, flat L h2 k2 lk3)]) ∧ Hid (Below w.heap.size w wx))
      case first =>
        by_cases hy3 : y = 3
        · have ey : (y == 3) = true := by simp [hy3]
          clear hy3
          have hcall1 : Calls Try.prog 9 #[.pointer (some ⟨b1, 0, none⟩), .int .i64 x] wr fun e w' => e = .returned (.int .i64 (gE ha x)) ∧ Fam w' [(b1, flat L (gH ha x) pk lk1), (b2, flat L2 hq kq lk2), (b3, flat L ha pk lk3)] ∧ wr.grownBy w' (some b1) := famGive HF.out (i := 0) rfl HO.out xr
          have hcall3 : ∀ W, Fam W [(b1, flat L (gH ha x) pk lk1), (b2, flat L2 hq kq lk2), (b3, flat L ha pk lk3)] → Calls Try.prog 9 #[.pointer (some ⟨b3, 0, none⟩), .int .i64 x] W fun e w' => e = .returned (.int .i64 (gE ha x)) ∧ Fam w' [(b1, flat L (gH ha x) pk lk1), (b2, flat L2 hq kq lk2), (b3, flat L (gH ha x) pk lk3)] ∧ W.grownBy w' (some b3) := fun W hW => famGive hW (i := 2) rfl HO.out xr
          have HOa := Lib.hid (gH_ok (x := x) HO.out)
          generalize gH ha x = ha' at *
          generalize gE ha x = E at *
          clear xr
          go_upto_region 18 with (go_at_call 9; refine hcall1.mono ?_; rintro e wd ⟨rfl, hF4, hg4⟩)
          have HB4 := Lib.hid (below_only HB.out HB.out.size hg4 hb1')
          have hcall := hcall3 wd hF4
          have c2 := cell_kept HB4.out H2.out
          clear hcall1 hcall3 hF4 hg4
          go_wp2_with (go_at_call 9; refine hcall.mono ?_; rintro e we ⟨rfl, hF5, hg5⟩)
          go_meet
          exact ⟨E, ha', pk, rfl, rfl, HOa, Lib.hid hF5, Lib.hid (below_only HB4.out HB4.out.size hg5 hb3')⟩
        · have ey : (y == 3) = false := by simp [hy3]
          clear hy3
          have hcall1 : Calls Try.prog 10 #[.pointer (some ⟨b1, 0, none⟩), .int .i64 x] wr fun e w' => e = .returned (.int .i64 (tE L ha x)) ∧ Fam w' [(b1, flat L (tH L ha x) (tK L ha pk x) lk1), (b2, flat L2 hq kq lk2), (b3, flat L ha pk lk3)] ∧ wr.grownBy w' (some b1) := famTake HF.out (i := 0) rfl HO.out xr
          have hcall3 : ∀ W, Fam W [(b1, flat L (tH L ha x) (tK L ha pk x) lk1), (b2, flat L2 hq kq lk2), (b3, flat L ha pk lk3)] → Calls Try.prog 10 #[.pointer (some ⟨b3, 0, none⟩), .int .i64 x] W fun e w' => e = .returned (.int .i64 (tE L ha x)) ∧ Fam w' [(b1, flat L (tH L ha x) (tK L ha pk x) lk1), (b2, flat L2 hq kq lk2), (b3, flat L (tH L ha x) (tK L ha pk x) lk3)] ∧ W.grownBy w' (some b3) := fun W hW => famTake hW (i := 2) rfl HO.out xr
          have HOa := Lib.hid (tH_ok (x := x) HO.out)
          generalize tH L ha x = ha' at *
          generalize tK L ha pk x = pk' at *
          generalize tE L ha x = E at *
          clear xr
          go_upto_region 20 with (go_at_call 10; refine hcall1.mono ?_; rintro e wd ⟨rfl, hF4, hg4⟩)
          have HB4 := Lib.hid (below_only HB.out HB.out.size hg4 hb1')
          have hcall := hcall3 wd hF4
          have c2 := cell_kept HB4.out H2.out
          clear hcall1 hcall3 hF4 hg4
          go_wp2_with (go_at_call 10; refine hcall.mono ?_; rintro e we ⟨rfl, hF5, hg5⟩)
          go_meet
          exact ⟨E, ha', pk', rfl, rfl, HOa, Lib.hid hF5, Lib.hid (below_only HB4.out HB4.out.size hg5 hb3')⟩
      clear HF HB c1 c2 HO xr H2
      obtain ⟨E, ha', pk', rfl, rfl, HOa, HF5, HB5⟩ := hcut
      go_upto_if 106 with (fail)
      go_cut [] (fun wx => ∃ (h2 k2 : Int), Hid (Fine L2 h2 k2) ∧ Hid (Fam wx [(b1, flat L ha' pk' lk1), (b2, flat L2 h2 k2 lk2), (b3, flat L ha' pk' lk3)]) ∧ Hid (Below w.heap.size w wx))
      case first =>
        by_cases hlt2 : k < n2
        · obtain ⟨z, hz⟩ : ∃ z, ys[3 * k + 2]? = some z := ⟨_, List.getElem?_eq_getElem (by rw [HL2.out]; omega)⟩
          obtain ⟨cb, co, rfl, hd2⟩ := HR2.out.at_ hz
          rw [show co + (3 * k + 2) = co + k * 3 + 2 by omega] at hd2
          have zr := HX2.out z (List.mem_of_getElem? hz)
          have zr2 := half_range z zr
          have D2 := Lib.hid hd2
          have d2 := cell_kept HB5.out hd2
          have hcall1 : Calls Try.prog 10 #[.pointer (some ⟨b2, 0, none⟩), .int .i64 z] wc fun e w' => e = .returned (.int .i64 (tE L2 hq z)) ∧ Fam w' [(b1, flat L ha' pk' lk1), (b2, flat L2 (tH L2 hq z) (tK L2 hq kq z) lk2), (b3, flat L ha' pk' lk3)] ∧ wc.grownBy w' (some b2) := famTake HF5.out (i := 1) rfl HO2.out zr
          have HOb := Lib.hid (tH_ok (x := z) HO2.out)
          generalize tH L2 hq z = hq1 at *
          generalize tK L2 hq kq z = kq1 at *
          generalize tE L2 hq z = Eq1 at *
          clear hz hd2
          go_upto_region 23 with (go_at_call 10; refine hcall1.mono ?_; rintro e wf ⟨rfl, hF6, hg6⟩)
          have HB6 := Lib.hid (below_only HB5.out HB5.out.size hg6 hb2')
          have hcall : Calls Try.prog 9 #[.pointer (some ⟨b2, 0, none⟩), .int .i64 (z.tdiv 2)] wf fun e w' => e = .returned (.int .i64 (gE hq1 (z.tdiv 2))) ∧ Fam w' [(b1, flat L ha' pk' lk1), (b2, flat L2 (gH hq1 (z.tdiv 2)) kq1 lk2), (b3, flat L ha' pk' lk3)] ∧ wf.grownBy w' (some b2) := famGive hF6 (i := 1) rfl HOb.out zr2
          have HOc := Lib.hid (gH_ok (x := z.tdiv 2) HOb.out)
          generalize gH hq1 (z.tdiv 2) = hq2 at *
          generalize gE hq1 (z.tdiv 2) = Eq2 at *
          have e2 := cell_kept HB6.out D2.out
          obtain ⟨z2, hz2⟩ : ∃ z2, z.tdiv 2 = z2 := ⟨_, rfl⟩
          rw [hz2] at hcall zr2
          clear hcall1 hF6 hg6 d2
          go_wp2_with (go_at_call 9; with_reducible refine hcall.mono ?_; rintro e wg ⟨rfl, hF7, hg7⟩)
          go_meet
          exact ⟨hq2, kq1, HOc, Lib.hid hF7, Lib.hid (below_only HB6.out HB6.out.size hg7 hb2')⟩
        · have hlt3 : n2 ≤ k := by omega
          clear hlt2
          go_wp2_with fail
          go_meet
          exact ⟨hq, kq, HO2, HF5, HB5⟩
      clear HF5 HB5 HO2
      obtain ⟨h2, k2, HO2, HF5, HB5⟩ := hcut
      have hu := famUsed HF5.out (i := 0) rfl HOa.out
      go_wp2_with (first | ((go_at_call 11; with_reducible refine hu.mono ?_; rintro e wu ⟨rfl, hFu, hgu⟩; have hBu := below_still HB5.out HB5.out.size hgu; have hv := famUsed hFu (i := 2) rfl HOa.out)) | ((go_at_call 11; with_reducible refine hv.mono ?_; rintro e wv ⟨rfl, hFv, hgv⟩; have hBv := below_still hBu hBu.size hgv; have hp1 := famPeak hFv (i := 0) rfl; have hp2 := famPeak hFv (i := 2) rfl)) | ((go_at_call 13; with_reducible refine hp1.mono ?_; rintro e wx ⟨rfl, hx1⟩; cases hx1)) | ((go_at_call 13; with_reducible refine hp2.mono ?_; rintro e wx ⟨rfl, hx1⟩; cases hx1)))
      go_roundg (n - (k + 1))
      case measure => have := HK.out; omega
      case rel => exact ⟨k + 1, ha', pk', h2, k2, by omega, by go_num, HOa, HO2, Lib.hid hFv, Lib.hid hBv⟩
    · obtain rfl : k = n := by omega
      go_wp2
      go_ret
      exact ⟨rfl, HB.out⟩
end Go.Proofs.Ytmemdicdehppjaa
