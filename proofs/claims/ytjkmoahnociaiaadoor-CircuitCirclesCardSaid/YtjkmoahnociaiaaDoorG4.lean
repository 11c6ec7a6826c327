/- Aids of no one program: blocks that turn, as a list; 'copy(v[i+1:], v[i:])' inside a region that draws. -/
import Derived.Test.YtjkmoahnociaiaaDoorK0
import Derived.Deep.RegionLaw
import Derived.Laws.CopyRow
import Derived.Laws.CopyOwn
namespace Go.Proofs.YtjkmoahnociaiaaDoor
open Go.RowKit

theorem Tur.of {w w' : World} {b : Nat} {bs : List Nat} (h : w.grownBy w' (some b)) (hb : b ∈ bs) : Tur w w' bs :=
  ⟨h.os, h.tape, h.output, h.size, fun i hi hn => h.block i hi (fun e => hn (by rw [Option.some.inj e]; exact hb))⟩
theorem Tur.ofRow {w w' : World} {v : Value} {bs : List Nat} (h : w.grownBy w' v.ownBlock) (hb : ∀ g, v.ownBlock = some g → g ∈ bs) : Tur w w' bs :=
  ⟨h.os, h.tape, h.output, h.size, fun i hi hn => h.block i hi (fun e => hn (hb i e.symm))⟩
theorem Tur.of0 {w w' : World} {bs : List Nat} (h : w.grownBy w' none) : Tur w w' bs := ⟨h.os, h.tape, h.output, h.size, fun i hi _ => h.block i hi (by simp)⟩
theorem Tur.trans {a b c : World} {bs : List Nat} (h : Tur a b bs) (k : Tur b c bs) : Tur a c bs :=
  ⟨k.os.trans h.os, k.tape.trans h.tape, k.output.trans h.output, Nat.le_trans h.size k.size, fun i hi hn => (k.block i (Nat.lt_of_lt_of_le hi h.size) hn).trans (h.block i hi hn)⟩
/-- What is new may turn later. -/
theorem Tur.transN {a b c : World} {bs cs : List Nat} (h : Tur a b bs) (k : Tur b c cs) (hc : ∀ g ∈ cs, g ∈ bs ∨ a.heap.size ≤ g) : Tur a c bs :=
  ⟨k.os.trans h.os, k.tape.trans h.tape, k.output.trans h.output, Nat.le_trans h.size k.size, fun i hi hn => (k.block i (Nat.lt_of_lt_of_le hi h.size) (fun hm => by
    rcases hc i hm with h1 | h1
    · exact hn h1
    · omega)).trans (h.block i hi hn)⟩
theorem Tur.set_ {a w : World} {bs : List Nat} (h : Tur a w bs) {p : Addr} (hp : p.block ∈ bs) (u : Value) : Tur a (w.setCell p u) bs :=
  ⟨h.os, h.tape, h.output, by simpa [World.setCell] using h.size, fun i hi hn => (Below.heap_setCell w p u i (fun e => hn (e ▸ hp))).trans (h.block i hi hn)⟩
theorem Tur.drewN {a w : World} {bs : List Nat} (h : Tur a w bs) (n : Nat) : Tur a (w.drewN n) bs := ⟨h.os, h.tape, h.output, h.size, h.block⟩
theorem Tur.alloc {a w : World} {bs : List Nat} (h : Tur a w bs) (o : Obj) : Tur a (w.alloc o) bs := h.trans (Tur.of0 (only_of_below (below1 w o) none))
theorem Tur.refl (w : World) (bs : List Nat) : Tur w w bs := ⟨rfl, rfl, rfl, Nat.le_refl _, fun _ _ _ => rfl⟩
theorem Tur.blk {w w' : World} {bs : List Nat} {g : Nat} {t : TypeId} {l : List Value} (h : Tur w w' bs) (hB : Blk w g t l) (hg : g ∉ bs) : Blk w' g t l := (h.block g hB.lt hg).trans hB
theorem Tur.below {B : Nat} {a w w' : World} {bs : List Nat} (h : Tur w w' bs) (hb : Below B a w) (hB : B ≤ w.heap.size) (hbs : ∀ b ∈ bs, B ≤ b) : Below B a w' :=
  hb.trans ⟨h.os, h.tape, h.output, h.size, fun i hi => h.block i (Nat.lt_of_lt_of_le hi hB) (fun hm => by have := hbs i hm; omega)⟩
theorem Tur.more {w w' : World} {bs cs : List Nat} (h : Tur w w' bs) (hs : ∀ b ∈ bs, b ∈ cs) : Tur w w' cs := ⟨h.os, h.tape, h.output, h.size, fun i hi hn => h.block i hi (fun hm => hn (hs i hm))⟩
theorem Owns.tur {w w' : World} {base : Nat} {e : TypeId} {v : Value} {xs : List Value} {bs : List Nat} (h : Owns w base e v xs) (ht : Tur w w' bs) (hb : ∀ g, v.ownBlock = some g → g ∉ bs) : Owns w' base e v xs := by
  refine ⟨h.1, ?_⟩
  rcases h.2 with hn | ⟨g, cap, cur, hv, hbb, hh, rest⟩
  · exact .inl hn
  · have hg : v.ownBlock = some g := by rw [hv]; rfl
    exact .inr ⟨g, cap, cur, hv, hbb, (ht.block g (h.lt hg).2 (hb g hg)).trans hh, rest⟩
theorem Owns.typed {w : World} {base : Nat} {e : TypeId} {v : Value} {xs : List Value} (h : Owns w base e v xs) {g : Nat} (hg : v.ownBlock = some g) : Typed w g e := rows_typed h hg
/-- A row stays while a block of another type turns. -/
theorem Owns.aside {w w' : World} {base : Nat} {e : TypeId} {v : Value} {xs : List Value} (h : Owns w base e v xs) {g : Nat} {t : TypeId} (hg : Typed w g t) (he : e ≠ t) (hb : w.grownBy w' (some g)) : Owns w' base e v xs :=
  h.kept hb (by
    rcases hv : v.ownBlock with _ | g'
    · exact .inl rfl
    · exact .inr fun e2 => (h.typed hv).ne hg he (Option.some.inj e2))
theorem Owns.asideR {w w' : World} {base : Nat} {e : TypeId} {v : Value} {xs : List Value} (h : Owns w base e v xs) {base2 : Nat} {e2 : TypeId} {v2 : Value} {ys : List Value} (h2 : Owns w base2 e2 v2 ys) (he : e ≠ e2) (hb : w.grownBy w' v2.ownBlock) : Owns w' base e v xs :=
  h.kept hb (by
    rcases hv : v.ownBlock with _ | g'
    · exact .inl rfl
    · refine .inr fun e3 => ?_
      exact (h.typed hv).ne (h2.typed e3.symm) he rfl)
theorem Blk.aside {w w' : World} {g x : Nat} {t u : TypeId} {l : List Value} (h : Blk w g t l) (hx : Typed w x u) (hu : t ≠ u) (hb : w.grownBy w' (some x)) : Blk w' g t l := h.grown hb (fun e => (h.typed.ne hx hu) (Option.some.inj e))
theorem Blk.asideR {w w' : World} {g : Nat} {t : TypeId} {l : List Value} (h : Blk w g t l) {base : Nat} {e : TypeId} {v : Value} {xs : List Value} (h2 : Owns w base e v xs) (hu : t ≠ e) (hb : w.grownBy w' v.ownBlock) : Blk w' g t l := h.grown hb (fun e2 => (h.typed.ne (h2.typed e2.symm) hu) rfl)
/-- A cell of a row, set. -/
theorem Owns.set1 {w : World} {base n c : Nat} {e : TypeId} {A : Option Addr} {xs : List Value} (h : Owns w base e (.slice A n c) xs) {j : Nat} {u : Value} (hj : xs[j]? = some u) : ∃ g, A = some ⟨g, 0, none⟩ ∧ w.cell? ⟨g, j, none⟩ = some u ∧ w.frozen? ⟨g, j, none⟩ = false ∧
    ∀ u', Owns (w.setCell ⟨g, j, none⟩ u') base e (.slice A n c) (xs.set j u') := by
  have hh : Hold w base [row1 e (.slice A n c) xs] := by
    refine ⟨fun i r hi => ?_, fun i k r s hne hi hk => ?_⟩
    · rcases i with _ | i
      · simp at hi; subst hi; exact h
      · simp at hi
    · rcases i with _ | i
      · rcases k with _ | k
        · exact absurd rfl hne
        · simp at hk
      · simp at hi
  obtain ⟨g, hA, _, _, h1, h2, h3⟩ := hh.cell (i := 0) rfl hj
  exact ⟨g, hA, h1, h2, fun u' => (h3 u').owns (i := 0) rfl⟩

/-- 'copy(v[i+1:], v[i:])' as one step of a region that draws. -/
theorem step_shift {P : Program} {ops : Array Oper} {o : Oper} {a : Act} {w : World} {K : Act → World → Prop} {Q : Exit → Act → World → Prop} {E : Prop} (hgd : o.guard = none) (d s : Operand) (T : TypeId)
    (ho : o.op = .call { callee := .builtin .copy, args := #[d, s], argTypes := #[T, T] }) (e : TypeId) (hu : P.underlying T = some (.slice e)) (hsz : (P.info? e).map (·.size) = some 1)
    (base g m c i : Nat) (xs : List Value) (hown : Owns w base e (.slice (some ⟨g, 0, none⟩) (m + 1) c) xs) (hi : i ≤ m) (h1 : ∀ v ∈ xs, v.oneCell' = true)
    (dp sp : Option Addr) (dc sc : Nat) (hd : a.eval d = .slice dp (m - i) dc) (hs : a.eval s = .slice sp (m + 1 - i) sc) (hdp : i < m → dp = some ⟨g, i + 1, none⟩) (hsp : i < m → sp = some ⟨g, i, none⟩)
    (h : ∀ w', Hid (Owns w' base e (.slice (some ⟨g, 0, none⟩) (m + 1) c) (xs.take (i + 1) ++ (xs.drop i).take (m - i))) → w.grownBy w' (some g) → K (a.put o.dst (goInt ((m - i : Nat) : Int))) w') :
    if Region.wanted o (yielded ops a.tmps) = true then Oper.wp P o a w K Q else E := by
  have hw : Region.wanted o (yielded ops a.tmps) = true := by simp [Region.wanted, hgd]
  rw [if_pos hw]
  have hl : xs.length = m + 1 := by
    have := hown.cap
    omega
  by_cases h0 : i = m
  · subst h0
    have hrun := run_copy_none (P := P) w T T o.type e dp sp 0 dc 1 sc hu hsz (by simp)
    unfold Oper.wp
    simp [execOp, ho, resolve, invoke, builtin, hd, hs, hrun, Result.andThen]
    have := h w (Lib.hid (by rw [Nat.sub_self, List.take_zero, List.append_nil, List.take_of_length_le (by omega)]; exact hown)) (only_refl _ _)
    exact (by simpa using this : K (a.put o.dst (goInt 0)) w)
  · have hlt : i < m := by omega
    obtain rfl := hdp hlt
    obtain rfl := hsp hlt
    rcases hown.2 with ⟨hv, _⟩ | ⟨g', cap, cur, hv, hb, hh, hnc, hcm, hcs, htk⟩
    · cases hv
    · rw [hl] at hv
      cases hv
      have hxc : ∀ (j : Nat) (u : Value), xs[j]? = some u → w.cell? ⟨g, j, none⟩ = some u := fun j u hj => by
        obtain ⟨g2, e2, h3⟩ := hown.first hj
        cases e2
        exact h3
      have hclen : ((xs.drop i).take (m - i)).length = m - i := by rw [List.length_take, List.length_drop]; omega
      have hmin : Nat.min (m + 1 - i) (m - i) = m - i := Nat.min_eq_right (by omega)
      have hcsz : cur.size = c := by omega
      have hrun := run_copy_row (P := P) w T T o.type e g (i + 1) (m - i) dc ⟨g, i, none⟩ (m + 1 - i) sc cur e ((xs.drop i).take (m - i)) hu hsz hh (by rw [hclen, hmin])
        (fun j u hj => by
          rw [List.getElem?_take] at hj
          split at hj
          · rw [List.getElem?_drop] at hj
            have := hxc _ _ hj
            rw [show (⟨g, i, none⟩ : Addr).add j = ⟨g, i + j, none⟩ by unfold Addr.add; split <;> simp_all]
            exact this
          · cases hj) (by rw [hclen, hcsz]; omega) (fun u hu => h1 u (List.mem_of_mem_drop (List.mem_of_mem_take hu)))
      have hfin := h _ (Lib.hid (?own : Owns (w.setRow g (cur.toList.take (i + 1) ++ (xs.drop i).take (m - i) ++ cur.toList.drop (i + 1 + ((xs.drop i).take (m - i)).length)).toArray) base e (.slice (some ⟨g, 0, none⟩) (m + 1) c) (xs.take (i + 1) ++ (xs.drop i).take (m - i)))) ⟨rfl, rfl, rfl, by simp [World.setRow], fun k _ hk => setRow_other w g k _ (fun e => hk (by rw [e]))⟩
      · rw [hclen] at hrun hfin
        unfold Oper.wp
        simp only [execOp, ho, resolve, invoke, builtin, Sem.run_bind, Sem.run_pure, Result.andThen_ok, List.map_toArray, List.map_cons, List.map_nil, hd, hs, hrun]
        exact hfin
      refine ⟨by simp, .inr ⟨g, c, _, ?_, hb, setRow_heap w g _ _ e _ hh, ?_, hcm, ?_, ?_⟩⟩
      · rw [List.length_append, hclen, List.length_take]; congr 1; omega
      · rw [List.length_append, hclen, List.length_take]; omega
      · simp; omega
      · rw [List.length_append, hclen, List.length_take, Nat.mul_one, Nat.min_eq_left (by omega), show i + 1 + (m - i) = m + 1 by omega]
        have hxt : cur.toList.take (i + 1) = xs.take (i + 1) := by
          have : (cur.toList.take (m + 1)).take (i + 1) = xs.take (i + 1) := by
            rw [← htk]; congr 2; omega
          rw [List.take_take, Nat.min_eq_left (by omega)] at this
          exact this
        simp only [List.toList_toArray]
        rw [hxt, List.take_append_of_le_length (by rw [List.length_append, hclen, List.length_take]; omega)]
        exact List.take_of_length_le (by rw [List.length_append, hclen, List.length_take]; omega)
end Go.Proofs.YtjkmoahnociaiaaDoor
