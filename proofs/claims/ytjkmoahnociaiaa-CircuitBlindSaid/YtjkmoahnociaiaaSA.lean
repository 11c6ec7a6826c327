/- append that leaves what it was given; flip, grown. -/
import Derived.Test.YtjkmoahnociaiaaS9
namespace Go.Proofs.Ytjkmoahnociaiaa
open Go.RowKit

theorem run_push3 {P : Program} {w : World} {t ty e : TypeId} {base bytes : Nat} {z v : Value} {xs : List Value} (ht : P.underlying t = some (.slice e)) (hi : (P.info? e).map (fun i => (i.zero, i.size, i.bytes)) = some (some z, 1, bytes)) (hzs : z.cells.size = 1)
    (hown : Owns w base e v xs) (ad : Addr) (u : Value) (hu : w.cell? ad = some u) (h1 : u.oneCell' = true) (hlen : xs.length + 1 ≤ maxLen) (hby : (xs.length + 1) * bytes ≤ 140737488355328) (hbase : base ≤ w.heap.size) :
    ∃ v' w', (Builtin.append_ #[t, t] ty #[v, .slice (some ad) 1 1]).run P w = .ok v' w' ∧ Owns w' base e v' (xs ++ [u]) ∧ w.grownBy w' v.ownBlock ∧ (v'.ownBlock = v.ownBlock ∨ (v'.ownBlock = some w.heap.size ∧ w.grownBy w' none)) := by
  obtain ⟨i, hi', hz, hsz, hb⟩ := info_parts hi
  have hnews : ∀ (j : Nat) (y : Value), [u][j]? = some y → w.cell? (ad.add j) = some y := by
    intro j y hj
    match j, hj with
    | 0, hj =>
      simp at hj
      subst hj
      simpa [Addr.add] using hu
  have h1' : ∀ y ∈ [u], y.oneCell' = true := by
    intro y hy
    simp at hy
    subst hy
    exact h1
  obtain ⟨v', w', hrun, h2, h3, _, h5⟩ := run_append_own_at (P := P) w base t ty e i z 1 bytes ht hi' hz hsz hb hzs (by decide) v xs.length xs hown ad 1 1 [u] rfl hnews h1' hlen hby hbase
  have h2' : Owns w' base e v' (xs ++ [u]) := by unfold Owns; rw [List.length_append]; exact h2
  refine ⟨v', w', hrun, h2', h3, ?_⟩
  rcases h5 with h5 | h5
  · exact .inl h5
  · refine .inr ⟨h5, ?_⟩
    rcases hown.2 with ⟨rfl, _⟩ | ⟨g, cap, cur, rfl, hbg, hg, hnc, hcm, hcs, htake⟩
    · exact h3
    · by_cases hroom : xs.length + 1 ≤ cap
      · have hr := run_append_room (P := P) w t ty e i ht hi' g xs.length cap cur hg ad 1 1 [u] (by rw [hsz]; rfl) hnews h1' hroom (by rw [hsz, hcs]; simp; omega)
        rw [hrun] at hr
        simp only [Result.ok.injEq] at hr
        rw [hr.1] at h5
        have : g = w.heap.size := Option.some.inj h5
        have := (hown.lt (g := g) rfl).2
        omega
      · have holds : ∀ j y, xs[j]? = some y → w.cell? ((⟨g, 0, none⟩ : Addr).add j) = some y := World.ownsRow.cells hown (g := g) rfl
        have hr := run_append_grow (P := P) w t ty e i z ht hi' hz ⟨g, 0, none⟩ xs.length cap xs (by rw [hsz, Nat.mul_one]) holds ad 1 1 [u] (by rw [hsz]; rfl) hnews (by omega) (by simp only [maxLen] at hlen; omega) (growslice_fits (by omega) (by rw [hb]; exact hby))
        rw [hrun] at hr
        simp only [Result.ok.injEq] at hr
        rw [hr.2]
        exact ⟨rfl, rfl, rfl, by simp, fun _ hk _ => heap_alloc_old w.drew _ hk⟩
theorem wpList_push3 {P : Program} {ops : Array Oper} {rest : List Oper} {o : Oper} {a : Act} {Q : Exit → Act → World → Prop} {w : World} (hgd : o.guard = none) (s x : Operand) (t : TypeId)
    (ho : o.op = .call { callee := .builtin .append, args := #[s, x], argTypes := #[t, t] })
    (base : Nat) (e : TypeId) (z : Value) (bytes : Nat) (ht : P.underlying t = some (.slice e)) (hi : (P.info? e).map (fun i => (i.zero, i.size, i.bytes)) = some (some z, 1, bytes)) (hzs : z.cells.size = 1)
    (v : Value) (xs : List Value) (hs : a.eval s = v) (hown : Owns w base e v xs)
    (ad : Addr) (u : Value) (hx : a.eval x = .slice (some ad) 1 1) (hu : w.cell? ad = some u) (h1 : u.oneCell' = true)
    (hlen : xs.length + 1 ≤ maxLen) (hby : (xs.length + 1) * bytes ≤ 140737488355328) (hbase : base ≤ w.heap.size)
    (h : ∀ v' w', Owns w' base e v' (xs ++ [u]) → w.grownBy w' v.ownBlock → (v'.ownBlock = v.ownBlock ∨ (v'.ownBlock = some w.heap.size ∧ w.grownBy w' none)) → wpList P ops Q rest (a.put o.dst v') w') :
    wpList P ops Q (o :: rest) a w := by
  refine wpList_plain hgd fun K hK => ?_
  obtain ⟨v', w', hr, h2, h3, h4⟩ := run_push3 (P := P) (ty := o.type) ht hi hzs hown ad u hu h1 hlen hby hbase
  unfold Oper.wp execOp
  simp only [ho, resolve, invoke, builtin, Sem.run_bind, Sem.run_pure, Result.andThen_ok, List.map_toArray, List.map_cons, List.map_nil, hs, hx, hr]
  exact hK _ _ (h v' w' h2 h3 h4)
theorem flip_set {xs : List Bool} {i : Nat} {x : Bool} (hx : xs[i]? = some x) : ((xs.take i).map (!·) ++ xs.drop i).set i (!x) = (xs.take (i + 1)).map (!·) ++ xs.drop (i + 1) ∧ ((xs.take i).map (!·) ++ xs.drop i)[i]? = some x := by
  obtain ⟨hi, he⟩ := List.getElem?_eq_some_iff.1 hx
  have hl : ((xs.take i).map (!·)).length = i := by rw [List.length_map, List.length_take]; omega
  constructor
  · rw [List.set_append_right _ _ (by omega), hl, Nat.sub_self, List.drop_eq_getElem_cons hi, List.set_cons_zero, List.take_add_one, hx]
    simp
  · rw [List.getElem?_append_right (by omega), hl, Nat.sub_self, List.getElem?_drop, Nat.add_zero]
    exact hx
set_option maxHeartbeats 4000000 in
/-- A row of the call's own, turned where it stands. -/
theorem flip_any (base : Nat) (A : Option Addr) (n c : Nat) (xs : List Bool) (w : World) (hA : Owns w base 4 (.slice A n c) (bools xs)) (hn : xs.length = n) (hm : n ≤ 9223372036854775806) :
    Calls Try.prog 21 #[.slice A n c] w fun e w' => e = .returned (.tuple #[]) ∧ Hid (Owns w' base 4 (.slice A n c) (bools (xs.map (!·)))) ∧ w.grownBy w' (A.map (·.block)) := by
  have HN := Lib.hid hn
  have HO0 : Hid (Owns w base 4 (.slice A n c) (bools ((xs.take 0).map (!·) ++ xs.drop 0))) := Lib.hid (by simpa using hA)
  have HG0 := Lib.hid (only_refl w (A.map (·.block)))
  clear hA hn
  go_enter Try.func21, Try.ntmps21
  go_upto_region 1 with (fail)
  go_loopw [2] (fun s2 wr => ∃ i : Nat, i ≤ n ∧ s2 = .int .i64 i ∧ Hid (Owns wr base 4 (.slice A n c) (bools ((xs.take i).map (!·) ++ xs.drop i))) ∧ Hid (w.grownBy wr (A.map (·.block)))) (fun s2 _ => n - (intOf s2).toNat)
  case atStart => exact ⟨0, by omega, rfl, HO0, HG0⟩
  case round =>
    clear HO0 HG0
    obtain ⟨i, hi, rfl, HO, HG⟩ := hrel
    by_cases hlt : i < n
    · obtain ⟨x, hx⟩ : ∃ x, xs[i]? = some x := ⟨_, List.getElem?_eq_getElem (by rw [HN.out]; exact hlt)⟩
      obtain ⟨f1, f2⟩ := flip_set hx
      obtain ⟨g, rfl, h1, h2, h3⟩ := HO.out.set1 (bools_get f2)
      obtain ⟨y, hy⟩ : ∃ y, (!x) = y := ⟨_, rfl⟩
      rw [hy] at f1
      have HOn : Hid (Owns (wr.setCell ⟨g, i, none⟩ (.bool y)) base 4 (.slice (some ⟨g, 0, none⟩) n c) (bools ((xs.take (i + 1)).map (!·) ++ xs.drop (i + 1)))) := Lib.hid (by rw [← f1, ← bools_set]; exact h3 _)
      have HGn : Hid (w.grownBy (wr.setCell ⟨g, i, none⟩ (.bool y)) ((some (⟨g, 0, none⟩ : Addr)).map (·.block))) := Lib.hid (only_setCell HG.out (p := ⟨g, i, none⟩) (.inl rfl) _)
      have hi0 : (0 : Int) ≤ (i : Int) := by omega
      have hin : (i : Int) < (n : Int) := by omega
      clear hx f1 f2 h3 HO HG
      go_wp2
      go_roundw
      case rel => exact ⟨i + 1, by omega, by go_num, HOn, HGn⟩
      case measure => simp [intOf]; omega
    · obtain rfl : i = n := by omega
      have HOf : Hid (Owns wr base 4 (.slice A i c) (bools (xs.map (!·)))) := Lib.hid (by
        have := HO.out
        rwa [List.take_of_length_le (by rw [HN.out]; exact Nat.le_refl _), List.drop_eq_nil_of_le (by rw [HN.out]; exact Nat.le_refl _), List.append_nil] at this)
      go_wp2
      go_end0
      exact ⟨rfl, HOf, HG.out⟩
end Go.Proofs.Ytjkmoahnociaiaa
