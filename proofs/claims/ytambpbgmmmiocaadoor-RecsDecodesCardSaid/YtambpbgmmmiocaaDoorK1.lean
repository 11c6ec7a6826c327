/- Bytes of a text; bytes with their lowest bit turned. -/
import Derived.Test.YtambpbgmmmiocaaDoorK0
import Derived.Lib.ConvBytes
namespace Go.Proofs.YtambpbgmmmiocaaDoor
open Go.RowKit

theorem text_bytes (w : World) (l : List Int) (hl : IsBytes l) : ∃ c w2, (convert 9 36 (.string (strOfNums l))).run Tryd.prog w = .ok (.slice (some ⟨w.heap.size, 0, none⟩) l.length c) w2 ∧ Reads w2 .u8 (some ⟨w.heap.size, 0, none⟩) l ∧ Below w.heap.size w w2 ∧ l.length ≤ c := by
  have hrun := Lib.run_convert_string_bytes (P := Tryd.prog) w 9 36 5 (strOfNums l) Tryd.underlying9 Tryd.underlying36 Tryd.underlying5
  rw [strOfNums_size] at hrun
  refine ⟨_, _, hrun, fun _ => ⟨w.heap.size, 0, rfl, fun j x hx => ?_⟩, ?_, grownCap_ge w l.length 0 5⟩
  · have hj := (List.getElem?_eq_some_iff.1 hx).1
    rw [Nat.zero_add, Lib.bytesWorld_cell w 5 (strOfNums l) j (by rw [strOfNums_size]; exact hj), strOfNums_data, List.getD, List.getElem?_map, hx]
    have hr := hl x (List.mem_of_getElem? hx)
    simp [UInt8.toNat_ofNat']
    omega
  · refine ⟨rfl, rfl, rfl, ?_, fun i hi => Lib.bytesWorld_at_old w 5 (strOfNums l) i hi⟩
    rw [Lib.bytesWorld_size]; omega
def flipL (l : List Int) : List Int := l.map fun x => ((x.toNat ^^^ 1 : Nat) : Int)
theorem flipL_length (l : List Int) : (flipL l).length = l.length := by simp [flipL]
theorem flipL_bytes {l : List Int} (h : IsBytes l) : IsBytes (flipL l) := fun y hy => by
  obtain ⟨x, hx, rfl⟩ := List.mem_map.1 hy
  have := h x hx
  have : x.toNat ^^^ 1 < 2 ^ 8 := Nat.xor_lt_two_pow (by omega) (by decide)
  omega
/-- The first k turned. -/
def flipK (l : List Int) (k : Nat) : List Int := flipL (l.take k) ++ l.drop k
theorem flipK_length (l : List Int) (k : Nat) : (flipK l k).length = l.length := by
  unfold flipK
  rw [List.length_append, flipL_length, List.length_take, List.length_drop]
  omega
theorem flipK_at {l : List Int} {k : Nat} {x : Int} (h : l[k]? = some x) : (flipK l k)[k]? = some x := by
  have hk := (List.getElem?_eq_some_iff.1 h).1
  unfold flipK
  rw [List.getElem?_append_right (by rw [flipL_length, List.length_take]; omega), flipL_length, List.length_take, List.getElem?_drop, Nat.min_eq_left (by omega), show k + (k - k) = k by omega, h]
theorem flipK_set {l : List Int} {k : Nat} {x : Int} (h : l[k]? = some x) : (flipK l k).set k ((x.toNat ^^^ 1 : Nat) : Int) = flipK l (k + 1) := by
  obtain ⟨hk, hx⟩ := List.getElem?_eq_some_iff.1 h
  unfold flipK
  have hlen : (flipL (l.take k)).length = k := by rw [flipL_length, List.length_take]; omega
  rw [List.set_append_right _ _ (by omega), hlen, Nat.sub_self, List.drop_eq_getElem_cons hk, List.set_cons_zero, List.take_add_one, h]
  unfold flipL
  rw [List.map_append, List.append_assoc]
  rfl
theorem flipK_all (l : List Int) : flipK l l.length = flipL l := by unfold flipK; simp
theorem own_addr {w : World} {base n c : Nat} {e : TypeId} {size : Nat} {A : Option Addr} {xs : List Value} (h : w.ownsRow base e size (.slice A n c) n xs) (hn : 0 < n) : ∃ g, A = some ⟨g, 0, none⟩ ∧ base ≤ g := by
  rcases h.2 with ⟨_, h0⟩ | ⟨g, cap, cur, hv, hb, _⟩
  · omega
  · cases hv; exact ⟨g, rfl, hb⟩
end Go.Proofs.YtambpbgmmmiocaaDoor
