/- bytes, scored and stands of the law's text. -/
import Derived.Test.YtambpbgmmmiocaaDoorD3
import Derived.Test.YtambpbgmmmiocaaDoorD4
import Derived.Deep.MidRow
namespace Go.Proofs.YtambpbgmmmiocaaDoor
open Go.RowKit

def spareB : List Int := [111, 112, 113]
theorem reads_new8 (w : World) (l : List Int) : Reads (w.alloc (.cells (nums .u8 l).toArray 5)) .u8 (some ⟨w.heap.size, 0, none⟩) l := reads_new w 5 .u8 l
set_option maxHeartbeats 2000000 in
theorem bytes_any (A : Option Addr) (m c : Nat) (xs : List Int) (w : World) (hr : Reads w .u8 A xs) (hl : xs.length = m) (hb : m + 3 ≤ 140737488355328) :
    Calls Tryd.prog 22 #[.slice A m c] w fun e w' => ∃ v, e = .returned v ∧ w'.ownsRow w.heap.size 5 1 v (m + 3) (nums .u8 (xs ++ spareB)) ∧ Below w.heap.size w w' := by
  have HR := Lib.hid hr
  have HL : Hid (xs.length = m * 1) := Lib.hid (by omega)
  clear hr hl
  go_enter Tryd.func22, Tryd.ntmps22
  go_upto_region 2 with (at_builtin; refine wpList_more rfl _ _ 36 rfl w.heap.size 5 _ 1 1 Tryd.underlying36 info5 rfl (by decide) (.slice none 0 0) 0 [] rfl (World.ownsRow_nil _ _ _ _) A m c .u8 xs rfl HR.out HL.out (by simp [maxLen]; omega) (by omega) (Nat.le_refl _) ?_; intro v1 w1 o1 g1 a1)
  rw [Nat.zero_add, List.nil_append] at o1
  have hb1 : Hid (Below w.heap.size w w1) := Lib.hid ((Below.refl _ _).grown g1 (Nat.le_refl _) (fun j e => by simp [Value.ownBlock] at e))
  have hs1 := hb1.out.size
  have O1 := Lib.hid o1
  clear o1 g1 a1
  have hB : Hid (Below w.heap.size w (w1.alloc (.cells (nums .u8 spareB).toArray 5))) := Lib.hid (hb1.out.alloc hs1 _)
  have hO := Lib.hid (rows_below O1.out (below1 w1 (.cells (nums .u8 spareB).toArray 5)))
  have hN := Lib.hid (reads_new8 w1 spareB)
  go_wp2_with (at_builtin; refine wpList_more rfl _ _ 36 rfl w.heap.size 5 _ 1 1 Tryd.underlying36 info5 rfl (by decide) v1 m (nums .u8 xs) rfl hO.out (some ⟨w1.heap.size, 0, none⟩) 3 3 .u8 spareB rfl hN.out rfl (by simp [maxLen]; omega) (by omega) (by simp; omega) ?_; intro v2 w2 o2 g2 a2)
  go_ret
  refine ⟨v2, rfl, by rw [nums_append]; exact o2, hB.out.grown g2 hB.out.size (fun j e => ?_)⟩
  exact (World.ownsRow.lt hO.out j e).1

/-- n records of one number. -/
def ms (n : Nat) (m : Int) : List Int := List.replicate (4 * n) m
theorem ms_snoc (n : Nat) (m : Int) : ms (n + 1) m = ms n m ++ [m, m, m, m] := by
  unfold ms
  rw [show 4 * (n + 1) = 4 * n + 1 + 1 + 1 + 1 by omega, List.replicate_succ', List.replicate_succ', List.replicate_succ', List.replicate_succ']
  simp
theorem ms_length (n : Nat) (m : Int) : (ms n m).length = 4 * n := by simp [ms]
/-- What is grown: n records of marks. -/
def gs : Nat → Int → List Int
  | 0, _ => []
  | n + 1, m => gs n m ++ [m + 1, m, m, m]
theorem gs_length : ∀ n m, (gs n m).length = 4 * n
  | 0, _ => rfl
  | n + 1, m => by rw [gs, List.length_append, gs_length n m]; simp; omega
/-- What a function that marks a row leaves. -/
def Scored (base : Nat) (sv : Value) (n : Nat) (xs : List Int) (w : World) (en : Ending) (w' : World) : Prop :=
  ∃ sv', en = .returned sv' ∧ w'.ownsRow base 26 4 sv' n (nums .u64 xs) ∧ w.grownBy w' sv.ownBlock ∧ (sv'.ownBlock = sv.ownBlock ∨ ∃ g, sv'.ownBlock = some g ∧ w.heap.size ≤ g)
theorem set4' (a : List Int) (x0 x1 x2 x3 m : Int) (r : List Int) (i : Nat) (h : a.length = i) :
    ((((a ++ (x0 :: x1 :: x2 :: x3 :: r)).set i m).set (i + 1) m).set (i + 2) m).set (i + 3) m = a ++ (m :: m :: m :: m :: r) := by
  subst h
  have s (l : List Int) (j : Nat) : (a ++ l).set (a.length + j) m = a ++ l.set j m := by
    rw [List.set_append_right _ _ (by omega), show a.length + j - a.length = j by omega]
  have s0 := s (x0 :: x1 :: x2 :: x3 :: r) 0
  rw [Nat.add_zero] at s0
  rw [s0, s, s, s]
  rfl
theorem set4 (ys : List Int) (n : Nat) (m : Int) (h : 4 * n + 4 ≤ (ms n m ++ ys.drop (4 * n)).length) :
    ((((ms n m ++ ys.drop (4 * n)).set (4 * n) m).set (4 * n + 1) m).set (4 * n + 2) m).set (4 * n + 3) m = ms (n + 1) m ++ ys.drop (4 * (n + 1)) := by
  rw [List.length_append, ms_length, List.length_drop] at h
  have e : ys.drop (4 * n) = ys[4 * n]'(by omega) :: ys[4 * n + 1]'(by omega) :: ys[4 * n + 2]'(by omega) :: ys[4 * n + 3]'(by omega) :: ys.drop (4 * (n + 1)) := by
    rw [List.drop_eq_getElem_cons (by omega), List.drop_eq_getElem_cons (by omega), List.drop_eq_getElem_cons (by omega), List.drop_eq_getElem_cons (by omega)]
    rfl
  rw [e, set4' _ _ _ _ _ _ _ _ (ms_length n m), ms_snoc, List.append_assoc]
  rfl
theorem size26 (m : Int) : (Tryd.prog.info? 26).map (·.size) = some (#[Value.int .u64 m, .int .u64 m, .int .u64 m, .int .u64 m] : Array Value).size := by kernel_rfl
set_option maxHeartbeats 2000000 in
theorem scored_any (base : Nat) (v : Value) (n : Nat) (xs : List Int) (m : Int) (w : World) (hown : w.ownsRow base 26 4 v n (nums .u64 xs)) (hbase : base ≤ w.heap.size) (hm : 0 ≤ m) (hm1 : m ≤ 254) (hlen : n ≤ 70000000) :
    Calls Tryd.prog 27 #[v, .int .u64 m] w (Scored base v (n + 8) (ms n m ++ gs 8 m) w) := by
  obtain ⟨A, c, rfl, _⟩ := rows_reads hown
  have HO := Lib.hid hown
  have HL : Hid (xs.length = 4 * n) := Lib.hid (by have := hown.1; rw [nums_length] at this; omega)
  clear hown
  go_enter Tryd.func27, Tryd.ntmps27
  go_wp2
  go_loopw [5] (fun i wr => ∃ k : Nat, k ≤ n ∧ i = .int .i64 k ∧ Hid (wr.ownsRow base 26 4 (.slice A n c) n (nums .u64 (ms k m ++ xs.drop (4 * k)))) ∧ Hid (w.grownBy wr (Value.slice A n c).ownBlock)) (fun i _ => n - (intOf i).toNat)
  case atStart => exact ⟨0, by omega, rfl, Lib.hid (by simpa [ms] using HO.out), Lib.hid (only_refl _ _)⟩
  case round =>
    obtain ⟨k, hk, rfl, HW, HG⟩ := hrel
    by_cases hlt : k < n
    · have hll : (ms k m ++ xs.drop (4 * k)).length = 4 * n := by rw [List.length_append, ms_length, List.length_drop, HL.out]; omega
      rcases A with _ | ad
      · rcases HW.out.2 with ⟨_, h0⟩ | ⟨g, cap, cur, hv, _⟩
        · omega
        · cases hv
      · have get : ∀ j, j < 4 → ∃ y : Int, (ms k m ++ xs.drop (4 * k))[k * 4 + j]? = some y := fun j hj => ⟨_, List.getElem?_eq_getElem (by rw [hll]; omega)⟩
        obtain ⟨y0, e0⟩ := get 0 (by omega)
        obtain ⟨y1, e1⟩ := get 1 (by omega)
        obtain ⟨y2, e2⟩ := get 2 (by omega)
        obtain ⟨y3, e3⟩ := get 3 (by omega)
        rw [Nat.add_zero] at e0
        obtain ⟨g, rfl, c0, f0, S0⟩ := rows_store (c := c) HW.out (i := k * 4) (by rw [nums_length, hll]; omega) (.int .u64 m)
        rw [nums_get, e0] at c0
        rw [nums_set] at S0
        obtain ⟨_, eg, c1, f1, S1⟩ := rows_store (c := c) S0 (i := k * 4 + 1) (by rw [nums_length, List.length_set, hll]; omega) (.int .u64 m)
        cases eg
        rw [nums_get, List.getElem?_set_ne (by omega), e1] at c1
        rw [nums_set] at S1
        obtain ⟨_, eg, c2, f2, S2⟩ := rows_store (c := c) S1 (i := k * 4 + 2) (by rw [nums_length, List.length_set, List.length_set, hll]; omega) (.int .u64 m)
        cases eg
        rw [nums_get, List.getElem?_set_ne (by omega), List.getElem?_set_ne (by omega), e2] at c2
        rw [nums_set] at S2
        obtain ⟨_, eg, c3, f3, S3⟩ := rows_store (c := c) S2 (i := k * 4 + 3) (by rw [nums_length, List.length_set, List.length_set, List.length_set, hll]; omega) (.int .u64 m)
        cases eg
        rw [nums_get, List.getElem?_set_ne (by omega), List.getElem?_set_ne (by omega), List.getElem?_set_ne (by omega), e3] at c3
        simp only [Option.map_some] at c0 c1 c2 c3
        have hs4 := set4 xs k m (by rw [hll]; omega)
        rw [show 4 * k = k * 4 by omega] at hs4
        rw [nums_set, show 4 * k = k * 4 by omega, hs4] at S3
        have HS : Hid ((wr.setCells g (k * 4) [.int .u64 m, .int .u64 m, .int .u64 m, .int .u64 m]).ownsRow base 26 4 (.slice (some ⟨g, 0, none⟩) n c) n (nums .u64 (ms (k + 1) m ++ xs.drop (4 * (k + 1))))) := Lib.hid (by
          rw [show 4 * (k + 1) = (k + 1) * 4 by omega] at S3 ⊢
          exact S3)
        have HG9 : Hid (w.grownBy (wr.setCells g (k * 4) [.int .u64 m, .int .u64 m, .int .u64 m, .int .u64 m]) (Value.slice (some ⟨g, 0, none⟩) n c).ownBlock) := Lib.hid (only_setCell (p := ⟨g, k * 4 + 3, none⟩) (only_setCell (p := ⟨g, k * 4 + 2, none⟩) (only_setCell (p := ⟨g, k * 4 + 1, none⟩) (only_setCell (p := ⟨g, k * 4, none⟩) HG.out (.inl rfl) _) (.inl rfl) _) (.inl rfl) _) (.inl rfl) _)
        clear S0 S1 S2 S3 hs4 e0 e1 e2 e3 get hll
        go_wp2
        go_roundw
        case rel => exact ⟨k + 1, by omega, by go_num, HS, HG9⟩
        case measure => simp [intOf]; omega
    · obtain rfl : k = n := by omega
      have HW0 : Hid (wr.ownsRow base 26 4 (.slice A k c) (k + 0) (nums .u64 (ms k m ++ gs 0 m))) := Lib.hid (by
        have := HW.out
        rw [List.drop_eq_nil_of_le (by rw [HL.out]; omega)] at this
        simpa [gs] using this)
      have hadd : IntKind.u64.wrap (m + 1) = m + 1 := by rw [IntKind.wrap_u64]; omega
      clear HW
      go_wp2
      go_loopw [0, 6] (fun s i w2 => ∃ j : Nat, j ≤ 8 ∧ i = .int .i64 j ∧ Hid (w2.ownsRow base 26 4 s (k + j) (nums .u64 (ms k m ++ gs j m))) ∧ Hid (w.grownBy w2 (Value.slice A k c).ownBlock) ∧ Hid (s.ownBlock = (Value.slice A k c).ownBlock ∨ ∃ g, s.ownBlock = some g ∧ w.heap.size ≤ g)) (fun _ i _ => 8 - (intOf i).toNat)
      case atStart => exact ⟨0, by omega, rfl, HW0, HG, Lib.hid (.inl rfl)⟩
      case round =>
        obtain ⟨j, hj, rfl, HJ, HGJ, HB⟩ := hrel
        by_cases hjt : j < 8
        · have hO := Lib.hid (rows_below HJ.out (below1 wr (.cells (nums .u64 [m + 1, m, m, m]).toArray 26)))
          have hN := Lib.hid (reads_new wr 26 .u64 [m + 1, m, m, m])
          have hsz := HGJ.out.size
          go_wp2_with (at_builtin; refine wpList_more rfl _ _ 32 rfl base 26 _ 4 32 Tryd.underlying32 info26 rfl (by decide) u0 (k + j) (nums .u64 (ms k m ++ gs j m)) rfl hO.out (some ⟨wr.heap.size, 0, none⟩) 1 1 .u64 [m + 1, m, m, m] rfl hN.out rfl (by simp [maxLen]; omega) (by omega) (by simp; omega) ?_; intro v1 w3 hown1 hg1 hb1)
          go_roundw
          case rel =>
            refine ⟨j + 1, by omega, by go_num, Lib.hid ?_, Lib.hid ?_, Lib.hid ?_⟩
            · rw [gs, ← List.append_assoc, nums_append]; exact hown1
            · exact only_step HGJ.out (only_trans (only_of_below (below1 _ _) _) hg1) (by
                rcases HB.out with h | ⟨g, h, hg⟩
                · exact .inl h
                · exact .inr fun g' e => by rw [h] at e; cases e; exact hg)
            · rcases hb1 with h | h
              · rw [h]; exact HB.out
              · exact .inr ⟨_, h, by have := HGJ.out.size; simp; omega⟩
          case measure => simp [intOf]; omega
        · obtain rfl : j = 8 := by omega
          go_wp2
          go_ret
          exact ⟨_, rfl, HJ.out, HGJ.out, HB.out⟩
theorem gs_at (m : Int) : ∀ n i, i < n → (gs n m)[4 * i]? = some (m + 1) ∧ (gs n m)[4 * i + 1]? = some m ∧ (gs n m)[4 * i + 2]? = some m ∧ (gs n m)[4 * i + 3]? = some m
  | 0, i, h => by omega
  | n + 1, i, h => by
    have hl := gs_length n m
    by_cases hi : i < n
    · obtain ⟨a, b, c, d⟩ := gs_at m n i hi
      rw [gs, List.getElem?_append_left (by omega), List.getElem?_append_left (by omega), List.getElem?_append_left (by omega), List.getElem?_append_left (by omega)]
      exact ⟨a, b, c, d⟩
    · obtain rfl : i = n := by omega
      rw [gs, List.getElem?_append_right (by omega), List.getElem?_append_right (by omega), List.getElem?_append_right (by omega), List.getElem?_append_right (by omega), hl]
      simp
theorem scored_at (n : Nat) (m : Int) (k : Nat) (h : k < n + 8) : ∃ x : Int, x = (if k < n then m else m + 1) ∧ (ms n m ++ gs 8 m)[4 * k]? = some x ∧ (ms n m ++ gs 8 m)[4 * k + 1]? = some m ∧ (ms n m ++ gs 8 m)[4 * k + 2]? = some m ∧ (ms n m ++ gs 8 m)[4 * k + 3]? = some m := by
  refine ⟨_, rfl, ?_⟩
  have hl := ms_length n m
  by_cases hk : k < n
  · rw [if_pos hk]
    have e : ∀ j, j < 4 → (ms n m ++ gs 8 m)[4 * k + j]? = some m := fun j hj => by
      rw [List.getElem?_append_left (by omega)]
      unfold ms
      rw [List.getElem?_replicate, if_pos (by omega)]
    exact ⟨e 0 (by omega), e 1 (by omega), e 2 (by omega), e 3 (by omega)⟩
  · rw [if_neg hk]
    obtain ⟨a, b, c, d⟩ := gs_at m 8 (k - n) (by omega)
    rw [List.getElem?_append_right (by omega), List.getElem?_append_right (by omega), List.getElem?_append_right (by omega), List.getElem?_append_right (by omega), hl,
      show 4 * k - 4 * n = 4 * (k - n) by omega, show 4 * k + 1 - 4 * n = 4 * (k - n) + 1 by omega, show 4 * k + 2 - 4 * n = 4 * (k - n) + 2 by omega, show 4 * k + 3 - 4 * n = 4 * (k - n) + 3 by omega]
    exact ⟨a, b, c, d⟩
set_option maxHeartbeats 2000000 in
theorem stands_any (A : Option Addr) (c n : Nat) (m : Int) (w : World) (hr : Reads w .u64 A (ms n m ++ gs 8 m)) (hm : 0 ≤ m) (hm1 : m ≤ 254) (hn : n ≤ 70000000) :
    Calls Tryd.prog 28 #[.slice A (n + 8) c, .int .i64 n, .int .u64 m] w fun e w' => e = .returned (.bool true) ∧ Below w.heap.size w w' := by
  have HR := Lib.hid hr
  clear hr
  have hadd : IntKind.u64.wrap (m + 1) = m + 1 := by rw [IntKind.wrap_u64]; omega
  go_enter Tryd.func28, Tryd.ntmps28
  go_wp2
  go_loop [7] (fun i => ∃ k : Nat, k ≤ n + 8 ∧ i = .int .i64 k) (fun i => n + 8 - (intOf i).toNat)
  case atStart => exact ⟨0, by omega, rfl⟩
  case round =>
    obtain ⟨k, hk, rfl⟩ := hrel
    by_cases hlt : k < n + 8
    · obtain ⟨x, hx, a0, a1, a2, a3⟩ := scored_at n m k hlt
      obtain ⟨b, o, rfl, hc0⟩ := HR.out.at_ a0
      have at_ : ∀ i y, (ms n m ++ gs 8 m)[4 * k + i]? = some y → w.cell? ⟨b, o + k * 4 + i, none⟩ = some (.int .u64 y) := fun i y hy => by
        obtain ⟨b', o', e, hc⟩ := HR.out.at_ hy
        cases e
        rwa [show o + (4 * k + i) = o + k * 4 + i by omega] at hc
      have c0 := at_ 0 x a0
      have c1 := at_ 1 m a1
      have c2 := at_ 2 m a2
      have c3 := at_ 3 m a3
      simp only [Nat.add_zero] at c0
      clear at_ a0 a1 a2 a3 hc0
      have eqg := eqg26
      by_cases hkn : k < n
      · rw [if_pos hkn] at hx
        rw [hx] at c0
        clear hx
        have e1 : decide ((k : Int) < (n : Int)) = true := by simp; omega
        have e2 : decide ((n : Int) ≤ (k : Int)) = false := by simp; omega
        have eqs := fun w => eq_recs w .u64 m m m m m m m m
        simp only [beq_self_eq_true, Bool.and_self] at eqs
        go_wp2
        go_round
        case rel => exact ⟨k + 1, by omega, by go_num⟩
        case measure => simp [intOf]; omega
      · rw [if_neg hkn] at hx
        rw [hx] at c0
        clear hx
        have e1 : decide ((k : Int) < (n : Int)) = false := by simp; omega
        have e2 : decide ((n : Int) ≤ (k : Int)) = true := by simp; omega
        have eqs := fun w => eq_recs w .u64 (m + 1) m m m (m + 1) m m m
        simp only [beq_self_eq_true, Bool.and_self] at eqs
        go_wp2
        go_round
        case rel => exact ⟨k + 1, by omega, by go_num⟩
        case measure => simp [intOf]; omega
    · obtain rfl : k = n + 8 := by omega
      go_wp2
      go_ret
      exact ⟨rfl, Below.refl _ _⟩
end Go.Proofs.YtambpbgmmmiocaaDoor
