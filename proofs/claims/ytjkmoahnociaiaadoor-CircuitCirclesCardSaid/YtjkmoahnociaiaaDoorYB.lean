/- The operators' words, from what the row lays. -/
import Derived.Test.YtjkmoahnociaiaaDoorP1
import Derived.Lib.LaidTab
import Derived.Stop.LaidErr
import Derived.Test.YtjkmoahnociaiaaDoorY0
import Derived.Test.YtjkmoahnociaiaaDoorMDD
namespace Go.Proofs.YtjkmoahnociaiaaDoor
open Go.RowKit

/-- An array of texts that reads as these words holds them, cell for cell. -/
theorem cells_of_words {H : Type} {enc : TypeId × Value → H} {P : Program} {w : World} {base : Nat} {sp : Nat → Bool} {held : Bool} {fuel : Nat} {t e : TypeId} {n : Nat} {cs : List Value} {ws : List ByteArray} {p : List MemPlace} (ht : P.underlying t = some (.array n e)) (he : P.underlying e = some .string) (hce : P.cellsOf e = 1) (hct : P.cellsOf t = n)
    (h : DataW.trod enc P w base sp held fuel t cs = some (.agg (ws.map fun s => .lit (.string s.data.toList)), p)) : ∀ (j : Nat) (x : ByteArray), ws[j]? = some x → cs[j]? = some (.string x) := by
  cases fuel with
  | zero => simp [DataW.trod] at h
  | succ fuel =>
    simp only [DataW.trod, ht, hce, hct, Nat.mul_one] at h
    split at h
    · obtain ⟨xs, hm, hx⟩ := Option.map_eq_some_iff.1 h
      have hxs : xs.map (·.1) = ws.map fun s => (DataW.lit (.string s.data.toList) : DataW H) := by
        have := congrArg Prod.fst hx
        simpa using this
      have hxl : xs.length = n := by simpa using Lib.mapM_length hm
      intro j x hj
      have hjl : j < n := by
        have h1 := (List.getElem?_eq_some_iff.1 hj).1
        have h2 := congrArg List.length hxs
        simp at h2
        omega
      obtain ⟨b, hb, hf⟩ := Lib.mapM_at hm j j (by simp [hjl])
      obtain ⟨s, hc, rfl, _⟩ := DataW.trod_string he hf
      have h1 : cs[j]? = some (.string s) := by
        have := congrArg (·[0]?) hc
        simpa [List.getElem?_take, List.getElem?_drop] using this
      have h2 : (xs.map (·.1))[j]? = some (DataW.lit (.string s.data.toList) : DataW H) := by simp [hb]
      rw [hxs, List.getElem?_map, hj] at h2
      simp only [Option.map_some, Option.some.injEq, DataW.lit.injEq, Lit.string.injEq] at h2
      have : s = x := by
        apply ByteArray.ext
        exact (Array.toList_inj.1 h2).symm
      rw [h1, this]
    · cases h
theorem ops_of_head {P : Program} {W : World} {name : String} {d : DataW Unit} {rest : List (String × DataW Unit)} {g : Nat} {t e : TypeId} {n : Nat} (hd : d = .agg (opWords.map fun s => .lit (.string s.data.toList))) (hg : P.globalNamed name = some g) (hty : (P.globals[g]?).map (·.type) = some t) (ht : P.underlying t = some (.array n e)) (he : P.underlying e = some .string) (hce : P.cellsOf e = 1) (hct : P.cellsOf t = n) (h : laidMet P ((name, d) :: rest) W) : OpsAt W g := by
  subst hd
  obtain ⟨ps, ⟨g', t', cs, fuel, p, q, hg', ht', hvar, hd, _, _⟩, _⟩ := h
  obtain rfl := Option.some.inj (hg.symm.trans hg')
  obtain rfl := Option.some.inj (hty.symm.trans ht')
  intro j x hx
  have h1 := cells_of_words ht he hce hct hd j x hx
  rw [World.var?_cell hg hvar j]
  simpa using h1
end Go.Proofs.YtjkmoahnociaiaaDoor
/- Aids of the rows: weights, numbers. -/
namespace Go.Proofs.YtjkmoahnociaiaaDoor
open Go.ChangeShapes Go.WideShapes Go.ChangeAt Go.RowKit Go.Deep Go.Joins

theorem all_le {H : Type} {ts : List TypeId} {ds : List (DataW H)} (h : (DataW.weightsEach Tryd.prog ts ds).all (· ≤ reachBytes) = true) : ∀ x ∈ DataW.weightsEach Tryd.prog ts ds, x ≤ reachBytes := fun x hx => by
  have := List.all_eq_true.1 h x hx
  simpa using this
theorem big_of {n : Int} (h : (Lit.int .i64 n).wf = true) : Big n := i64_wf h
end Go.Proofs.YtjkmoahnociaiaaDoor
