/- Circles of the document: the first line in a circle, or -1. -/
import Derived.Test.YtjkmoahnociaiaaDoorX9
namespace Go.Proofs.YtjkmoahnociaiaaDoor
open Go.RowKit

/-- What Circles answers. -/
def CirclesR (w : World) (n : Nat) (f : Nat → List Nat) (e : Ending) (w' : World) : Prop :=
  ∃ x : Int, e = .returned (.int .i64 x) ∧ ((x = -1 ∧ ∀ i, i < n → Free f i) ∨ ∃ i : Nat, i < n ∧ x = (i : Int) ∧ Way f i i ∧ ∀ j, j < i → ¬ Way f j j) ∧ Below w.heap.size w w'
theorem DMem.reads {w : World} {base n : Nat} {vk : Value} {met : List Bool} {work : List Nat} {X : List RW} (h : DMem w base n vk met work X) : CReads w (some ⟨base, 0, none⟩) (bools met) ∧ met.length = n := by
  have ho : Owns w base 4 (.slice (some ⟨base, 0, none⟩) n n) (bools met) := Hold.owns h (i := 0) rfl
  obtain ⟨A, c, e, hr, _⟩ := rows_cells ho (by decide)
  cases e
  exact ⟨hr, by simp [bools]⟩
/-- left, with the lines of the first j of the order taken out. -/
def LeftAt (n : Nat) (L : List Nat) (j : Nat) (left : List Bool) : Prop := left.length = n ∧ ∀ (i : Nat) (x : Bool), left[i]? = some x → (x = false ↔ i ∈ L.take j)
theorem LeftAt.start (n : Nat) (L : List Nat) : LeftAt n L 0 (List.replicate n true) := by
  refine ⟨by simp, fun i x hx => ?_⟩
  rw [List.getElem?_replicate] at hx
  split at hx
  · cases hx; simp
  · cases hx
theorem LeftAt.step {n : Nat} {L : List Nat} {j v : Nat} {left : List Bool} (h : LeftAt n L j left) (hv : L[j]? = some v) : LeftAt n L (j + 1) (left.set v false) := by
  refine ⟨by rw [List.length_set]; exact h.1, fun i x hx => ?_⟩
  rw [List.take_add_one, hv]
  simp only [Option.toList, List.mem_append, List.mem_singleton]
  rw [List.getElem?_set] at hx
  split at hx
  · rename_i e
    subst e
    split at hx
    · cases hx; simp
    · cases hx
  · rename_i e
    rw [h.2 i x hx]
    constructor
    · exact .inl
    · rintro (h | h)
      · exact h
      · exact absurd h.symm e
set_option maxRecDepth 100000 in
set_option maxHeartbeats 4000000 in
theorem circles_any (A : Option Addr) (n c : Nat) (gs : List Gt) (w : World) (hr : CReads w A (gcells gs)) (hl : gs.length = n) (hin : InR gs) (hmax : n ≤ 65536) :
    Calls Tryd.prog 36 #[.slice A n c] w (CirclesR w n (lnsOf gs)) := by
  have HR := Lib.hid hr; have HL := Lib.hid hl; have HI := Lib.hid hin
  have hm1 := run_makeRep (P := Tryd.prog) Tryd.underlying96 info_bool rfl n (by omega) (by omega)
  have HH := Lib.hid ((Hold.nil w w.heap.size).made (e := 4) (z := .bool false) (Nat.le_refl _) (n := n) (by unfold maxLen; omega))
  have HB0 := Lib.hid (below1 w (.cells (List.replicate n (Value.bool false)).toArray 4))
  have HInL : Hid (∀ i, i < n → ∀ p ∈ lnsOf gs i, p < n) := Lib.hid (by have := hin.lt; rwa [hl] at this)
  have HA1 := Lib.hid (hr.below HB0.out)
  clear hr hl hin
  go_enter Tryd.func36, Tryd.ntmps36
  go_upto_region 2 with (fail)
  change Code.wp _ _ _ _ (w.alloc (.cells (List.replicate n (Value.bool false)).toArray 4))
  generalize w.alloc (.cells (List.replicate n (Value.bool false)).toArray 4) = W1 at *
  have hlay : Calls Tryd.prog 55 #[.slice A n c] W1 fun e w' => ∃ v L, e = .returned v ∧ Owns w' W1.heap.size 3 v (ints L) ∧ IsOrder gs.length (lnsOf gs) L ∧ Below W1.heap.size W1 w' := layers_any A n c gs _ HA1.out HL.out HI.out hmax
  go_upto_region 3 with (go_at_call 55; with_reducible refine hlay.mono ?_; rintro e W2 ⟨v2, L, rfl, hO, hI, hB⟩)
  have HM2 : Hid (DMem W2 w.heap.size n v2 (List.replicate n false) L []) := Lib.hid (by
    have := HH.out.new hB HB0.out.size (r := row1 3 v2 (ints L)) hO
    unfold DMem
    rw [bools_rep]
    exact this)
  have HB2 := Lib.hid (below_then HB0.out HB0.out.size hB)
  have HO : Hid (IsOrder n (lnsOf gs) L) := Lib.hid (by rw [← HL.out]; exact hI)
  have hLn := order_le HO.out
  obtain ⟨A4, c4, hv4⟩ := hO.form
  rw [ints_length] at hv4
  subst hv4
  clear hlay hO hI hB HH HB0 hm1
  by_cases hall : L.length = n
  · have HF := Lib.hid ((order_all HO.out HInL.out).1 hall)
    have e1 : ((L.length : Int) == (n : Int)) = true := by simp [hall]
    have e2 : (L.length == n) = true := by simp [hall]
    clear hall
    go_wp2
    go_ret
    exact ⟨-1, rfl, .inl ⟨rfl, HF.out⟩, HB2.out⟩
  · have HCirc := Lib.hid (circ_of_not_free HInL.out (fun h => hall ((order_all HO.out HInL.out).2 h)))
    have e1 : ((L.length : Int) == (n : Int)) = false := by simp; omega
    have e2 : (L.length == n) = false := by simp [hall]
    clear hall
    go_upto_region 6 with (fail)
    go_loopw [5] (fun s5 wr => ∃ (k : Nat) (left : List Bool), k ≤ n ∧ s5 = .int .i64 k ∧ Hid (DMem wr w.heap.size n (.slice A4 L.length c4) left L []) ∧ Hid (left = List.replicate k true ++ List.replicate (n - k) false) ∧ Hid (Below w.heap.size w wr)) (fun i _ => n - (intOf i).toNat)
    case atStart => exact ⟨0, _, by omega, rfl, HM2, Lib.hid (by simp), HB2⟩
    case round =>
      clear HM2 HB2
      obtain ⟨k, left, hk, rfl, HM, HF, HB⟩ := hrel
      by_cases hlt : k < n
      · obtain ⟨x, hx⟩ : ∃ x, left[k]? = some x := ⟨_, List.getElem?_eq_getElem (by rw [HF.out]; simp; omega)⟩
        obtain ⟨d1, z1, hset⟩ := HM.out.metP hx
        have HS := Lib.hid (hset true)
        have HFn : Hid (left.set k true = List.replicate (k + 1) true ++ List.replicate (n - (k + 1)) false) := Lib.hid (by
          rw [HF.out, List.set_append_right _ _ (by simp)]
          simp only [List.length_replicate, Nat.sub_self]
          rw [show n - k = (n - (k + 1)) + 1 by omega, List.replicate_succ, List.set_cons_zero, List.replicate_succ']
          simp)
        have HBs := Lib.hid (HB.out.setCell (p := ⟨w.heap.size, k, none⟩) (Nat.le_refl _) (.bool true))
        have hk0 : (0 : Int) ≤ (k : Int) := by omega
        have hkn : (k : Int) < (n : Int) := by omega
        clear hx hset HM HF HB
        go_wp2
        go_roundw
        case rel => exact ⟨k + 1, _, by omega, by go_num, HS, HFn, HBs⟩
        case measure => simp [intOf]; omega
      · obtain rfl : k = n := by omega
        have HLA : Hid (LeftAt k L 0 left) := Lib.hid (by
          have := HF.out
          simp only [Nat.sub_self, List.replicate_zero, List.append_nil] at this
          rw [this]
          exact LeftAt.start k L)
        clear HF hlt hk
        go_upto_region 10 with (fail)
        go_loopw [6] (fun s6 wr => ∃ (j : Nat) (left : List Bool), j ≤ L.length ∧ s6 = .int .i64 j ∧ Hid (DMem wr w.heap.size k (.slice A4 L.length c4) left L []) ∧ Hid (LeftAt k L j left) ∧ Hid (Below w.heap.size w wr)) (fun i _ => L.length - (intOf i).toNat)
        case atStart => exact ⟨0, _, by omega, rfl, HM, HLA, HB⟩
        case round =>
          clear HM HLA HB
          obtain ⟨j, left, hj, rfl, HM, HLA, HB⟩ := hrel
          by_cases hlt : j < L.length
          · obtain ⟨v, hv⟩ : ∃ v, L[j]? = some v := ⟨_, List.getElem?_eq_getElem hlt⟩
            have hvn := HO.out.lt v (List.mem_of_getElem? hv)
            obtain ⟨x, hx⟩ : ∃ x, left[v]? = some x := ⟨_, List.getElem?_eq_getElem (by rw [HLA.out.1]; exact hvn)⟩
            obtain ⟨d1, z1, hset⟩ := HM.out.metP hx
            obtain ⟨g4, hg4, d4⟩ := HM.out.at_ hv
            subst hg4
            have HS := Lib.hid (hset false)
            have HLn := Lib.hid (HLA.out.step hv)
            have HBs := Lib.hid (HB.out.setCell (p := ⟨w.heap.size, v, none⟩) (Nat.le_refl _) (.bool false))
            have hj0 : (0 : Int) ≤ (j : Int) := by omega
            have hjn : (j : Int) < (L.length : Int) := by omega
            have hv0 : (0 : Int) ≤ (v : Int) := by omega
            have hvk : (v : Int) < (k : Int) := by omega
            clear hv hx hset HM HLA HB
            go_wp2
            go_roundw
            case rel => exact ⟨j + 1, _, by omega, by go_num, HS, HLn, HBs⟩
            case measure => simp [intOf]; omega
          · obtain rfl : j = L.length := by omega
            have HLF : Hid (∀ i x, left[i]? = some x → (x = false ↔ i ∈ L)) := Lib.hid (by have := HLA.out.2; rwa [List.take_length] at this)
            have HLL := Lib.hid HLA.out.1
            have HLEFT : Hid (∀ i, i < k → ¬ Free (lnsOf gs) i → left[i]? = some true) := Lib.hid (fun i hi hf => by
              obtain ⟨x, hx⟩ : ∃ x, left[i]? = some x := ⟨_, List.getElem?_eq_getElem (by rw [HLL.out]; exact hi)⟩
              cases x
              · exact absurd ((order_free HO.out HInL.out hi).1 ((HLF.out i _ hx).1 rfl)) hf
              · exact hx)
            have HNW : Hid (∀ i, i < k → left[i]? = some false → ¬ Way (lnsOf gs) i i) := Lib.hid (fun i hi hx hw => circ_not_free hw ((order_free HO.out HInL.out hi).1 ((HLF.out i _ hx).1 rfl)))
            clear HLA hlt hj
            go_upto_region 14 with (fail)
            go_loopw [7] (fun s7 wr => ∃ (i : Nat), i ≤ k ∧ s7 = .int .i64 i ∧ Hid (DMem wr w.heap.size k (.slice A4 L.length c4) left L []) ∧ Hid (∀ t, t < i → ¬ Way (lnsOf gs) t t) ∧ Hid (Below w.heap.size w wr)) (fun i _ => k - (intOf i).toNat)
            case atStart => exact ⟨0, by omega, rfl, HM, Lib.hid (fun t ht => by omega), HB⟩
            case round =>
              clear HM HB
              obtain ⟨i, hi, rfl, HM, HN, HB⟩ := hrel
              by_cases hlt : i < k
              · obtain ⟨x, hx⟩ : ∃ x, left[i]? = some x := ⟨_, List.getElem?_eq_getElem (by rw [HLL.out]; exact hlt)⟩
                obtain ⟨d1, _, _⟩ := HM.out.metP hx
                have HX := Lib.hid hx
                have hi0 : (0 : Int) ≤ (i : Int) := by omega
                have hik : (i : Int) < (k : Int) := by omega
                have hext : ∀ h : ¬ Way (lnsOf gs) i i, ∀ t, t < i + 1 → ¬ Way (lnsOf gs) t t := fun h t ht => by
                  rcases Nat.lt_or_ge t i with h1 | h1
                  · exact HN.out t h1
                  · rw [show t = i by omega]; exact h
                have HE := Lib.hid hext
                clear hx hext
                cases x
                · have HNn := Lib.hid (HE.out (HNW.out i hlt HX.out))
                  clear HE
                  go_wp2
                  go_roundw
                  case rel => exact ⟨i + 1, by omega, by go_num, HM, HNn, HB⟩
                  case measure => simp [intOf]; omega
                · have hcall : Calls Tryd.prog 56 #[.slice A k c, .slice (some ⟨w.heap.size, 0, none⟩) k k, .int .i64 i] wr fun e w' => ∃ b : Bool, e = .returned (.bool b) ∧ (b = true ↔ Way (lnsOf gs) i i) ∧ Below wr.heap.size wr w' := comes_any A k c gs _ k left i wr (HR.out.below HB.out) HL.out HI.out hmax HM.out.reads.1 HLL.out hlt HLEFT.out
                  go_upto_region 18 with (go_at_call 56; with_reducible refine hcall.mono ?_; rintro e W5 ⟨b, rfl, hb, hB5⟩)
                  have HBI := Lib.hid hb
                  have HM5 := Lib.hid (HM.out.below hB5)
                  have HB5 := Lib.hid (below_then HB.out HB.out.size hB5)
                  clear hb hB5 hcall HM HB d1
                  cases b
                  · have HNn := Lib.hid (HE.out (fun h => by have := HBI.out.2 h; cases this))
                    clear HE
                    go_wp2
                    go_roundw
                    case rel => exact ⟨i + 1, by omega, by go_num, HM5, HNn, HB5⟩
                    case measure => simp [intOf]; omega
                  · have HW := Lib.hid (HBI.out.1 rfl)
                    clear HE
                    go_wp2
                    go_ret
                    exact ⟨i, rfl, .inr ⟨i, hlt, rfl, HW.out, HN.out⟩, HB5.out⟩
              · exfalso
                obtain ⟨t, ht, hw⟩ := HCirc.out
                exact HN.out t (by omega) hw
end Go.Proofs.YtjkmoahnociaiaaDoor
