/- The document's purse in memory; what it looks at: out, Limit, Used, Free, Peak. -/
import Derived.Test.YtmemdicdehppjaaPA
namespace Go.Proofs.Ytmemdicdehppjaa
open Go.RowKit

/-- A purse of the document: what its cells say. -/
structure RS where
  limit : Int
  hand : Int
  peak : Int
  opn : Bool
  part : Bool
  row : Value
def RS.cells (p : RS) : List Value := [.int .i64 p.limit, .int .i64 p.hand, .int .i64 p.peak, .bool p.opn, .bool p.part, p.row]
structure RCells (w : World) (b : Nat) (p : RS) : Prop where
  c0 : w.cell? ⟨b, 0, none⟩ = some (.int .i64 p.limit)
  c1 : w.cell? ⟨b, 1, none⟩ = some (.int .i64 p.hand)
  c2 : w.cell? ⟨b, 2, none⟩ = some (.int .i64 p.peak)
  c3 : w.cell? ⟨b, 3, none⟩ = some (.bool p.opn)
  c4 : w.cell? ⟨b, 4, none⟩ = some (.bool p.part)
  c5 : w.cell? ⟨b, 5, none⟩ = some p.row
theorem rcells_of {w : World} {b : Nat} {p : RS} (h : Blk w b 69 p.cells) : RCells w b p := by
  constructor <;> rw [h.cell] <;> rfl
/-- A kid: where it lies, its limit, whether it is open. -/
structure RK where
  b : Nat
  limit : Int
  opn : Bool
def RK.out (k : RK) : Int := if k.opn then k.limit else 0
def kidSum : List RK → Int
  | [] => 0
  | k :: l => k.out + kidSum l
theorem kidSum_app : ∀ l m : List RK, kidSum (l ++ m) = kidSum l + kidSum m
  | [], m => by simp [kidSum]
  | k :: l, m => by rw [List.cons_append, kidSum, kidSum, kidSum_app l m]; omega
theorem kidSum_nonneg : ∀ l : List RK, (∀ k ∈ l, 0 ≤ k.limit) → 0 ≤ kidSum l
  | [], _ => by simp [kidSum]
  | k :: l, h => by
    have h1 := kidSum_nonneg l (fun x hx => h x (by simp [hx]))
    have h2 := h k (by simp)
    rw [kidSum, RK.out]
    split <;> omega
theorem kidSum_take {l : List RK} {j : Nat} {k : RK} (h : l[j]? = some k) : kidSum (l.take (j + 1)) = kidSum (l.take j) + k.out := by
  rw [List.take_add_one, h, kidSum_app]
  simp [kidSum]
theorem kidSum_le {l : List RK} (h : ∀ k ∈ l, 0 ≤ k.limit) (j : Nat) : 0 ≤ kidSum (l.take j) ∧ kidSum (l.take j) ≤ kidSum l := by
  refine ⟨kidSum_nonneg _ (fun k hk => h k (List.mem_of_mem_take hk)), ?_⟩
  have h1 : kidSum l = kidSum (l.take j) + kidSum (l.drop j) := by rw [← kidSum_app, List.take_append_drop]
  have h2 := kidSum_nonneg (l.drop j) (fun k hk => h k (List.mem_of_mem_drop hk))
  omega
/-- The kids of a purse, as its row of pointers and their blocks say. -/
def KidsAt (w : World) (v : Value) (ks : List RK) : Prop :=
  ∃ A c, v = .slice A ks.length c ∧ ∀ (j : Nat) (k : RK), ks[j]? = some k → (∃ ab ao, A = some ⟨ab, ao, none⟩ ∧ w.cell? ⟨ab, ao + j, none⟩ = some (.pointer (some ⟨k.b, 0, none⟩))) ∧
    w.cell? ⟨k.b, 0, none⟩ = some (.int .i64 k.limit) ∧ w.cell? ⟨k.b, 3, none⟩ = some (.bool k.opn)

set_option maxHeartbeats 1000000 in
theorem out_ref (r : Nat) (s : RS) (ks : List RK) (w : World) (h : Blk w r 69 s.cells) (hk : KidsAt w s.row ks) (h0 : 0 ≤ s.hand) (hl : ∀ k ∈ ks, 0 ≤ k.limit) (hs : s.hand + kidSum ks ≤ 9223372036854775807) (hn : ks.length ≤ 4611686018427387904) :
    Calls Try.prog 41 #[.pointer (some ⟨r, 0, none⟩)] w fun e w' => e = .returned (.int .i64 (s.hand + kidSum ks)) ∧ w' = w := by
  obtain ⟨li, ha, pk, op, pt, row⟩ := s
  obtain ⟨c0, c1, c2, c3, c4, c5⟩ := rcells_of h
  dsimp only at *
  obtain ⟨A, c, rfl, hks⟩ := hk
  have HK := Lib.hid hks
  have HL := Lib.hid hl
  obtain ⟨n, hnn⟩ : ∃ n, ks.length = n := ⟨_, rfl⟩
  rw [hnn] at c5 hn
  have HN := Lib.hid hnn
  have HS := Lib.hid hs
  clear hks h hl hnn hs
  go_enter Try.func41, Try.ntmps41
  go_wp2
  go_loopw [3, 4] (fun x i wr => ∃ j : Nat, j ≤ n ∧ x = .int .i64 (ha + kidSum (ks.take j)) ∧ i = .int .i64 j ∧ Hid (wr = w)) (fun _ i _ => n - (intOf i).toNat)
  case atStart => exact ⟨0, by omega, by simp [kidSum], rfl, Lib.hid rfl⟩
  case round =>
    obtain ⟨j, hj, rfl, rfl, HW⟩ := hrel
    have hbd := kidSum_le HL.out j
    have hsj := HS.out
    obtain ⟨S, hS⟩ : ∃ S, ha + kidSum (ks.take j) = S := ⟨_, rfl⟩
    rw [hS]
    by_cases hlt : j < n
    · obtain ⟨⟨kb, kl, ko⟩, hkj⟩ : ∃ k, ks[j]? = some k := ⟨_, List.getElem?_eq_getElem (by rw [HN.out]; exact hlt)⟩
      obtain ⟨⟨ab, ao, rfl, d0⟩, d1, d2⟩ := HK.out j _ hkj
      have hst := kidSum_take hkj
      have hbd2 := kidSum_le HL.out (j + 1)
      dsimp only at d0 d1 d2
      rw [← HW.out] at d0 d1 d2 c1 c5
      have hj0 : (0 : Int) ≤ (j : Int) := by omega
      have hjn : (j : Int) < (n : Int) := by omega
      cases ko with
      | true =>
        simp only [RK.out, if_true] at hst
        have hw : IntKind.i64.wrap (S + kl) = S + kl := by rw [IntKind.wrap_i64]; omega
        have hnext : S + kl = ha + kidSum (ks.take (j + 1)) := by omega
        have HX := Lib.hid hnext
        clear hst hbd2 hbd hnext hsj hS hkj
        go_wp2
        go_roundw
        case rel => exact ⟨j + 1, by omega, by rw [HX.out], by go_num, HW⟩
        case measure => simp [intOf]; omega
      | false =>
        simp only [RK.out, Bool.false_eq_true, if_false] at hst
        have hnext : S = ha + kidSum (ks.take (j + 1)) := by omega
        have HX := Lib.hid hnext
        clear hst hbd2 hbd hnext hsj hS hkj
        go_wp2
        go_roundw
        case rel => exact ⟨j + 1, by omega, by rw [HX.out], by go_num, HW⟩
        case measure => simp [intOf]; omega
    · have e : j = n := by omega
      subst e
      have e2 : ks.take j = ks := List.take_of_length_le (by rw [HN.out]; exact Nat.le_refl _)
      rw [e2] at hS
      have HX := Lib.hid hS
      clear hbd hsj hS
      rw [← HW.out] at c1 c5
      go_wp2
      go_ret
      exact ⟨ret_int HX.out.symm, HW.out⟩
end Go.Proofs.Ytmemdicdehppjaa
