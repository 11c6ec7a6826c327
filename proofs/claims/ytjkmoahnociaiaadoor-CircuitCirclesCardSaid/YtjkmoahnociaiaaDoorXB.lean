/- Names that are known, sorted: plain; find and place of the document. -/
import Derived.Test.YtjkmoahnociaiaaDoorXA
namespace Go.Proofs.YtjkmoahnociaiaaDoor
open Go.RowKit

theorem bytesLess_lt : ∀ (x y : List UInt8), Op.bytesLess x y = decide (x < y)
  | [], [] => by simp [Op.bytesLess]
  | _ :: _, [] => by simp [Op.bytesLess]
  | [], _ :: _ => by simp [Op.bytesLess]
  | a :: x, b :: y => by
    rw [Op.bytesLess, bytesLess_lt x y]
    simp only [List.cons_lt_cons_iff]
    by_cases h1 : a < b <;> by_cases h2 : a = b <;> by_cases h3 : x < y <;> simp [h1, h2, h3]
/-- One text stands ahead of the other. -/
def Ahead (s t : ByteArray) : Prop := s.toList < t.toList
theorem text_ext {s t : ByteArray} (h : s.toList = t.toList) : s = t := by
  rw [ByteArray.toList_eq, ByteArray.toList_eq] at h
  exact ByteArray.ext (Array.toList_inj.mp h)
theorem Ahead.irrefl (s : ByteArray) : ¬ Ahead s s := List.lt_irrefl _
theorem Ahead.trans {s t u : ByteArray} (h : Ahead s t) (k : Ahead t u) : Ahead s u := List.lt_trans h k
theorem Ahead.tri (s t : ByteArray) : Ahead s t ∨ s = t ∨ Ahead t s := by
  unfold Ahead
  rcases Classical.em (s.toList < t.toList) with h | h
  · exact .inl h
  · rcases Classical.em (t.toList < s.toList) with k | k
    · exact .inr (.inr k)
    · exact .inr (.inl (text_ext (List.le_antisymm (List.not_lt.1 k) (List.not_lt.1 h))))
/-- What is known: texts, rising, each with its number. -/
def Rising (l : List (ByteArray × Int)) : Prop := ∀ (i j : Nat) (a b : ByteArray × Int), i < j → l[i]? = some a → l[j]? = some b → Ahead a.1 b.1
/-- Where a text stands, or would stand. -/
structure Spot (l : List (ByteArray × Int)) (s : ByteArray) (k : Nat) : Prop where
  le : k ≤ l.length
  lo : ∀ (i : Nat) (a : ByteArray × Int), i < k → l[i]? = some a → Ahead a.1 s
  hi : ∀ (i : Nat) (a : ByteArray × Int), k ≤ i → l[i]? = some a → ¬ Ahead a.1 s
section
variable {l : List (ByteArray × Int)} {s : ByteArray} {k : Nat}
theorem Spot.mem (h : Spot l s k) (hr : Rising l) {a : ByteArray × Int} (ha : a ∈ l) (he : a.1 = s) : l[k]? = some a := by
  obtain ⟨j, hj⟩ := List.getElem?_of_mem ha
  rcases Nat.lt_trichotomy j k with h1 | h1 | h1
  · have := h.lo j a h1 hj
    rw [he] at this
    exact absurd this (Ahead.irrefl _)
  · rw [← h1]; exact hj
  · have hlt := (List.getElem?_eq_some_iff.1 hj).1
    obtain ⟨b, hb⟩ : ∃ b, l[k]? = some b := ⟨_, List.getElem?_eq_getElem (by omega)⟩
    have h2 := hr k j b a h1 hb hj
    rw [he] at h2
    exact absurd h2 (h.hi k b (Nat.le_refl _) hb)
theorem Spot.none (h : Spot l s k) (hr : Rising l) (hn : ∀ a, l[k]? = some a → a.1 ≠ s) : ∀ a ∈ l, a.1 ≠ s := fun a ha he => hn a (h.mem hr ha he) he
/-- A text put in. -/
theorem Rising.insert (h : Spot l s k) (hr : Rising l) (hn : ∀ a ∈ l, a.1 ≠ s) (x : Int) : Rising (l.take k ++ (s, x) :: l.drop k) := by
  have key : ∀ (i : Nat) (a : ByteArray × Int), (l.take k ++ (s, x) :: l.drop k)[i]? = some a → (i < k ∧ l[i]? = some a) ∨ (i = k ∧ a = (s, x)) ∨ (k < i ∧ l[i - 1]? = some a) := fun i a hi => by
    have hlen : (l.take k).length = k := by rw [List.length_take]; have := h.le; omega
    rcases Nat.lt_trichotomy i k with h1 | h1 | h1
    · rw [List.getElem?_append_left (by omega), List.getElem?_take, if_pos h1] at hi
      exact .inl ⟨h1, hi⟩
    · subst h1
      rw [List.getElem?_append_right (by omega), hlen, Nat.sub_self] at hi
      simp at hi
      exact .inr (.inl ⟨rfl, hi.symm⟩)
    · rw [List.getElem?_append_right (by omega), hlen] at hi
      rw [show i - k = (i - 1 - k) + 1 by omega, List.getElem?_cons_succ, List.getElem?_drop] at hi
      rw [show k + (i - 1 - k) = i - 1 by omega] at hi
      exact .inr (.inr ⟨h1, hi⟩)
  have up : ∀ (i : Nat) (a : ByteArray × Int), k ≤ i → l[i]? = some a → Ahead s a.1 := fun i a hi ha => by
    rcases Ahead.tri a.1 s with h1 | h1 | h1
    · exact absurd h1 (h.hi i a hi ha)
    · exact absurd h1 (hn a (List.mem_of_getElem? ha))
    · exact h1
  intro i j a b hij hi hj
  rcases key i a hi with ⟨hi1, hi2⟩ | ⟨hi1, rfl⟩ | ⟨hi1, hi2⟩ <;> rcases key j b hj with ⟨hj1, hj2⟩ | ⟨hj1, rfl⟩ | ⟨hj1, hj2⟩
  · exact hr i j a b hij hi2 hj2
  · exact h.lo i a hi1 hi2
  · exact hr i (j - 1) a b (by omega) hi2 hj2
  · omega
  · omega
  · exact up (j - 1) b (by omega) hj2
  · omega
  · omega
  · exact hr (i - 1) (j - 1) a b (by omega) hi2 hj2
theorem insert_mem {x : Int} {a : ByteArray × Int} : a ∈ l.take k ++ (s, x) :: l.drop k ↔ a = (s, x) ∨ a ∈ l := by
  rw [List.mem_append, List.mem_cons]
  constructor
  · rintro (h | h | h)
    · exact .inr (List.mem_of_mem_take h)
    · exact .inl h
    · exact .inr (List.mem_of_mem_drop h)
  · rintro (h | h)
    · exact .inr (.inl h)
    · rw [← List.take_append_drop k l, List.mem_append] at h
      rcases h with h | h
      · exact .inl h
      · exact .inr (.inr h)
end
/-- What is known, in memory. -/
def strs (l : List ByteArray) : List Value := l.map Value.string
structure KMem (w : World) (base kb : Nat) (vN vP : Value) (l : List (ByteArray × Int)) : Prop where
  b : Blk w kb 70 [vN, vP]
  kb : base ≤ kb
  n : Owns w base 9 vN (strs (l.map Prod.fst))
  p : Owns w base 3 vP (nums .i64 (l.map Prod.snd))
  r : Rising l
section
variable {w w' : World} {base kb : Nat} {vN vP : Value} {l : List (ByteArray × Int)}
theorem KMem.below (h : KMem w base kb vN vP l) (hb : Below w.heap.size w w') : KMem w' base kb vN vP l := ⟨h.b.self hb, h.kb, h.n.below hb, h.p.below hb, h.r⟩
theorem KMem.form (h : KMem w base kb vN vP l) : (∃ A c, vN = .slice A l.length c) ∧ ∃ A c, vP = .slice A l.length c := by
  obtain ⟨A, c, hv⟩ := h.n.form
  obtain ⟨B, d, hw⟩ := h.p.form
  refine ⟨⟨A, c, ?_⟩, ⟨B, d, ?_⟩⟩
  · rw [hv]; simp [strs]
  · rw [hw]; simp [nums]
theorem KMem.nameAt {A : Option Addr} {m c : Nat} (h : KMem w base kb (.slice A m c) vP l) {i : Nat} {a : ByteArray × Int} (hi : l[i]? = some a) : ∃ g, A = some ⟨g, 0, none⟩ ∧ w.cell? ⟨g, i, none⟩ = some (.string a.1) :=
  h.n.first (by simp [strs, hi])
theorem KMem.placeAt {A : Option Addr} {m c : Nat} (h : KMem w base kb vN (.slice A m c) l) {i : Nat} {a : ByteArray × Int} (hi : l[i]? = some a) : ∃ g, A = some ⟨g, 0, none⟩ ∧ w.cell? ⟨g, i, none⟩ = some (.int .i64 a.2) :=
  h.p.first (by simp [nums, hi])
def FindR (w : World) (l : List (ByteArray × Int)) (s : ByteArray) (e : Ending) (w' : World) : Prop := ∃ k : Nat, e = .returned (.int .i64 k) ∧ Spot l s k ∧ w = w'
set_option maxRecDepth 100000 in
set_option maxHeartbeats 2000000 in
theorem find_any (s : ByteArray) (h : KMem w base kb vN vP l) (hl : l.length ≤ 4000000000000000000) : Calls Tryd.prog 54 #[.pointer (some ⟨kb, 0, none⟩), .string s] w (FindR w l s) := by
  obtain ⟨⟨A, c, rfl⟩, _⟩ := h.form
  have HK := Lib.hid h
  have b0 : w.cell? ⟨kb, 0, none⟩ = some (.slice A l.length c) := (h.b.cell 0).trans rfl
  clear h
  go_enter Tryd.func54, Tryd.ntmps54
  go_upto_region 3 with (fail)
  go_loop [5, 6] (fun x y => ∃ lo hi : Nat, lo ≤ hi ∧ hi ≤ l.length ∧ x = .int .i64 lo ∧ y = .int .i64 hi ∧ Hid (∀ (i : Nat) (a : ByteArray × Int), i < lo → l[i]? = some a → Ahead a.1 s) ∧ Hid (∀ (i : Nat) (a : ByteArray × Int), hi ≤ i → l[i]? = some a → ¬ Ahead a.1 s)) (fun x y => (intOf y).toNat - (intOf x).toNat)
  case atStart => exact ⟨0, l.length, by omega, by omega, rfl, rfl, Lib.hid (fun i a hi => by omega), Lib.hid (fun i a hi ha => by have := (List.getElem?_eq_some_iff.1 ha).1; omega)⟩
  case round =>
    obtain ⟨lo, hi, hle, hhl, rfl, rfl, HLO, HHI⟩ := hrel
    by_cases hlt : lo < hi
    · obtain ⟨mid, hmid⟩ : ∃ mid, (lo + hi) / 2 = mid := ⟨_, rfl⟩
      have hm1 : lo ≤ mid := by omega
      have hm2 : mid < hi := by omega
      obtain ⟨a, ha⟩ : ∃ a, l[mid]? = some a := ⟨_, List.getElem?_eq_getElem (by omega)⟩
      obtain ⟨g, hg, d0⟩ := HK.out.nameAt ha
      subst hg
      have HA := Lib.hid ha
      have hq : ((lo : Int) + (hi : Int)) / 2 = (mid : Int) := by omega
      have HQ := Lib.hid hq
      have HR := Lib.hid HK.out.r
      have hs0 : (0 : Int) ≤ (lo : Int) + (hi : Int) := by omega
      have hm0 : (0 : Int) ≤ (mid : Int) := by omega
      have hml : (mid : Int) < (l.length : Int) := by omega
      clear ha hmid
      by_cases hb : Ahead a.1 s
      · have e1 : Op.bytesLess a.1.toList s.toList = true := by rw [bytesLess_lt]; exact decide_eq_true hb
        have HL2 : Hid (∀ (i : Nat) (b : ByteArray × Int), i < mid + 1 → l[i]? = some b → Ahead b.1 s) := Lib.hid (fun i b hi hib => by
          rcases Nat.lt_or_ge i mid with h1 | h1
          · exact (HR.out i mid b a h1 hib HA.out).trans hb
          · have : i = mid := by omega
            subst this
            rw [HA.out] at hib
            cases hib
            exact hb)
        clear hb
        go_wp2
        go_round
        case rel => exact ⟨mid + 1, hi, by omega, hhl, by go_num, rfl, HL2, HHI⟩
        case measure => simp [intOf]; omega
      · have e1 : Op.bytesLess a.1.toList s.toList = false := by rw [bytesLess_lt]; exact decide_eq_false hb
        have HH2 : Hid (∀ (i : Nat) (b : ByteArray × Int), mid ≤ i → l[i]? = some b → ¬ Ahead b.1 s) := Lib.hid (fun i b hi hib h => by
          rcases Nat.lt_or_ge mid i with h1 | h1
          · exact hb ((HR.out mid i a b h1 HA.out hib).trans h)
          · have : i = mid := by omega
            subst this
            rw [HA.out] at hib
            cases hib
            exact hb h)
        clear hb
        go_wp2
        go_round
        case rel => exact ⟨lo, mid, by omega, by omega, rfl, by rw [HQ.out], HLO, HH2⟩
        case measure => simp [intOf]; omega
    · obtain rfl : lo = hi := by omega
      go_wp2
      go_ret
      exact ⟨lo, rfl, ⟨hhl, HLO.out, HHI.out⟩, rfl⟩
/-- What place answers. -/
def PlaceR (w : World) (l : List (ByteArray × Int)) (s : ByteArray) (e : Ending) (w' : World) : Prop := ∃ x : Int, e = .returned (.int .i64 x) ∧ ((x = -1 ∧ ∀ a ∈ l, a.1 ≠ s) ∨ ∃ a ∈ l, a.1 = s ∧ a.2 = x) ∧ w = w'
set_option maxHeartbeats 2000000 in
theorem place_any (s : ByteArray) (h : KMem w base kb vN vP l) (hl : l.length ≤ 4000000000000000000) : Calls Tryd.prog 34 #[.pointer (some ⟨kb, 0, none⟩), .string s] w (PlaceR w l s) := by
  have hcall : Calls Tryd.prog 54 #[.pointer (some ⟨kb, 0, none⟩), .string s] w fun e w' => ∃ k : Nat, e = .returned (.int .i64 k) ∧ Spot l s k ∧ w = w' := find_any s h hl
  obtain ⟨⟨A, c, rfl⟩, ⟨B, d, rfl⟩⟩ := h.form
  have HK := Lib.hid h
  have b0 : w.cell? ⟨kb, 0, none⟩ = some (.slice A l.length c) := (h.b.cell 0).trans rfl
  have b1 : w.cell? ⟨kb, 1, none⟩ = some (.slice B l.length d) := (h.b.cell 1).trans rfl
  clear h
  go_enter Tryd.func34, Tryd.ntmps34
  go_upto_region 2 with (go_at_call 54; with_reducible refine hcall.mono ?_; rintro e w2 ⟨k, rfl, hsp, rfl⟩)
  have HSP := Lib.hid hsp
  have hkl := hsp.le
  have hk0 : (0 : Int) ≤ (k : Int) := by omega
  clear hsp hcall
  by_cases hlt : k < l.length
  · obtain ⟨a, ha⟩ : ∃ a, l[k]? = some a := ⟨_, List.getElem?_eq_getElem hlt⟩
    obtain ⟨g, hg, d0⟩ := HK.out.nameAt ha
    subst hg
    obtain ⟨g2, hg2, d1⟩ := HK.out.placeAt ha
    subst hg2
    have HA := Lib.hid ha
    have hkl' : (k : Int) < (l.length : Int) := by omega
    clear ha
    by_cases he : a.1 = s
    · have e1 : (a.1.toList == s.toList) = true := by rw [he]; simp
      have HE := Lib.hid he
      clear he
      go_wp2
      go_ret
      exact ⟨a.2, rfl, .inr ⟨a, List.mem_of_getElem? HA.out, HE.out, rfl⟩, rfl⟩
    · have e1 : (a.1.toList == s.toList) = false := by simp; exact fun h => he (text_ext h)
      have HN := Lib.hid (HSP.out.none HK.out.r (fun b hb => by rw [HA.out] at hb; cases hb; exact he))
      clear he
      go_wp2
      go_ret
      exact ⟨-1, rfl, .inl ⟨rfl, HN.out⟩, rfl⟩
  · have HN := Lib.hid (HSP.out.none HK.out.r (fun b hb => absurd (List.getElem?_eq_some_iff.1 hb).1 hlt))
    have hge : ¬ (k : Int) < (l.length : Int) := by omega
    go_wp2
    go_ret
    exact ⟨-1, rfl, .inl ⟨rfl, HN.out⟩, rfl⟩
end
end Go.Proofs.YtjkmoahnociaiaaDoor
