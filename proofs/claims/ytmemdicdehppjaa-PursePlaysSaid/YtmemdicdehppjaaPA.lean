/- Rows of the law's own beside purses; on. -/
import Derived.Test.YtmemdicdehppjaaP9
namespace Go.Proofs.Ytmemdicdehppjaa
open Go.RowKit Go.MuLone

/-- Block g holds cells of type t. -/
def Typed (w : World) (g : Nat) (t : TypeId) : Prop := ∃ cs, w.heap[g]? = some (.cells cs t (0, 0))
theorem Typed.ne {w : World} {a b : Nat} {t u : TypeId} (ha : Typed w a t) (hb : Typed w b u) (h : t ≠ u) : a ≠ b := by
  rintro rfl
  obtain ⟨_, ha⟩ := ha
  obtain ⟨_, hb⟩ := hb
  rw [ha] at hb
  cases hb
  exact h rfl
theorem Blk.typed {w : World} {b : Nat} {t : TypeId} {l : List Value} (h : Blk w b t l) : Typed w b t := ⟨_, h⟩
theorem Owns.typed {w : World} {base : Nat} {e : TypeId} {v : Value} {xs : List Value} (h : Owns w base e v xs) {g : Nat} (hg : v.ownBlock = some g) : Typed w g e := by
  rcases h.2 with ⟨rfl, _⟩ | ⟨g', cap, cur, rfl, _, hh, _⟩
  · simp [Value.ownBlock] at hg
  · have e2 : g' = g := Option.some.inj hg
    subst e2
    exact ⟨_, hh⟩
section
variable {w w' : World} {base : Nat} {e : TypeId} {v : Value} {xs : List Value}
/-- A row stays while a block of another type turns. -/
theorem Owns.aside (h : Owns w base e v xs) {g : Nat} {t : TypeId} (hg : Typed w g t) (he : e ≠ t) (hb : w.grownBy w' (some g)) : Owns w' base e v xs :=
  h.kept hb (by
    rcases hv : v.ownBlock with _ | g'
    · exact .inl rfl
    · exact .inr fun e2 => (h.typed hv).ne hg he (Option.some.inj e2))
theorem Owns.asideT (h : Owns w base e v xs) {bs : List Nat} (hg : ∀ g ∈ bs, ∃ t, e ≠ t ∧ Typed w g t) (hb : Tur w w' bs) : Owns w' base e v xs := by
  refine ⟨h.1, ?_⟩
  rcases h.2 with hn | ⟨g, cap, cur, rfl, hbb, hh, rest⟩
  · exact .inl hn
  · refine .inr ⟨g, cap, cur, rfl, hbb, (hb.block g ?_ ?_).trans hh, rest⟩
    · rcases Nat.lt_or_ge g w.heap.size with hlt | hge
      · exact hlt
      · rw [Array.getElem?_eq_none hge] at hh; cases hh
    · intro hm
      obtain ⟨t, ht, hty⟩ := hg g hm
      exact (Typed.ne ⟨_, hh⟩ hty ht) rfl
theorem Owns.asideR (h : Owns w base e v xs) {base2 : Nat} {e2 : TypeId} {v2 : Value} {ys : List Value} (h2 : Owns w base2 e2 v2 ys) (he : e ≠ e2) (hb : w.grownBy w' v2.ownBlock) : Owns w' base e v xs :=
  h.kept hb (by
    rcases hv : v.ownBlock with _ | g'
    · exact .inl rfl
    · refine .inr fun e3 => ?_
      exact (h.typed hv).ne (h2.typed e3.symm) he rfl)
theorem IsP.asideR {b : Nat} {p : PS} (h : IsP w b p) (h2 : Owns w base e v xs) (he : e ≠ 60 ∧ e ≠ 54) (hb : w.grownBy w' v.ownBlock) : IsP w' b p :=
  h.grown hb (fun e3 => (h2.typed e3.symm).ne h.1.typed he.1 rfl) (fun e3 => (h2.typed e3.symm).ne h.2.typed he.2 rfl)
theorem Kept.asideR {b lk : Nat} {L pk : Int} {l : List KD} (h : Kept w b lk L pk l) (h2 : Owns w base e v xs) (he : e ≠ 60 ∧ e ≠ 54) (hb : w.grownBy w' v.ownBlock) : Kept w' b lk L pk l :=
  ⟨⟨fun i x hx => (h.f.1 i x hx).asideR h2 he hb, h.f.2⟩, h.s, h.o, h.L1, h.k0, h.k1, h.n⟩
end
theorem below_row {B : Nat} {a w w' : World} {base : Nat} {e : TypeId} {v : Value} {xs : List Value} (h : Below B a w) (hB : B ≤ w.heap.size) (ho : Owns w base e v xs) (hb : B ≤ base) (hg : w.grownBy w' v.ownBlock) : Below B a w' :=
  h.grown hg hB fun g hv => Nat.le_trans hb (ho.lt hv).1
/-- 'append(out, x)', with the bounds apart. -/
theorem wpList_push2 {P : Program} {ops : Array Oper} {rest : List Oper} {o : Oper} {a : Act} {Q : Exit → Act → World → Prop} {w : World} (hgd : o.guard = none) (s x : Operand) (t : TypeId)
    (ho : o.op = .call { callee := .builtin .append, args := #[s, x], argTypes := #[t, t] })
    (base : Nat) (e : TypeId) (z : Value) (bytes : Nat) (ht : P.underlying t = some (.slice e)) (hi : (P.info? e).map (fun i => (i.zero, i.size, i.bytes)) = some (some z, 1, bytes)) (hzs : z.cells.size = 1)
    (v : Value) (xs : List Value) (hs : a.eval s = v) (hown : Owns w base e v xs)
    (ad : Addr) (u : Value) (hx : a.eval x = .slice (some ad) 1 1) (hu : w.cell? ad = some u) (h1 : u.oneCell' = true)
    (hlen : xs.length + 1 ≤ maxLen) (hby : (xs.length + 1) * bytes ≤ 140737488355328) (hbase : base ≤ w.heap.size)
    (h : ∀ v' w', Owns w' base e v' (xs ++ [u]) → w.grownBy w' v.ownBlock → (v'.ownBlock = v.ownBlock ∨ v'.ownBlock = some w.heap.size) → wpList P ops Q rest (a.put o.dst v') w') :
    wpList P ops Q (o :: rest) a w := by
  obtain ⟨i, hi', hz, hsz, hb⟩ := info_parts hi
  refine wpList_append_own_at w hgd s x t ho base e i z 1 bytes ht hi' hz hsz hb hzs (by decide) v xs.length xs hs hown ad 1 1 [u] hx rfl ?_ ?_ hlen hby hbase ?_
  · intro j y hj
    match j, hj with
    | 0, hj =>
      simp at hj
      subst hj
      simpa [Addr.add] using hu
  · intro y hy
    simp at hy
    subst hy
    exact h1
  · intro v' w' h2 h3 _ h5
    exact h v' w' (by unfold Owns; rw [List.length_append]; exact h2) h3 h5
theorem info24 : (Try.prog.info? 24).map (fun i => (i.zero, i.size, i.bytes)) = some (some (.pointer none), 1, 8) := by kernel_rfl
theorem info3 : (Try.prog.info? 3).map (fun i => (i.zero, i.size, i.bytes)) = some (some (.int .i64 0), 1, 8) := by kernel_rfl
theorem info4 : (Try.prog.info? 4).map (fun i => (i.zero, i.size, i.bytes)) = some (some (.bool false), 1, 1) := by kernel_rfl
theorem on_any (v : Int) (n : Nat) (w : World) (hv : -9223372036854775808 ≤ v ∧ v ≤ 9223372036854775807) (hn : 1 ≤ n ∧ n ≤ 4611686018427387904) :
    Calls Try.prog 16 #[.int .i64 v, .int .i64 (n : Int)] w fun e w' => ∃ r : Nat, e = .returned (.int .i64 (r : Int)) ∧ r < n ∧ w' = w := by
  have e0 : ((n : Int) == 0) = false := by simp; omega
  have hn0 : ¬ (n : Int) = 0 := by omega
  by_cases h : v < 0
  · have h0 : 0 ≤ -(v + 1) := by omega
    have hm := Int.emod_nonneg (-(v + 1)) hn0
    have hl := Int.emod_lt_of_pos (-(v + 1)) (show (0 : Int) < n by omega)
    have HM := Lib.hid (And.intro hm hl)
    clear hm hl
    go_enter Try.func16, Try.ntmps16
    go_wp2
    go_ret
    refine ⟨(-(v + 1) % (n : Int)).toNat, ?_, by have := HM.out; omega, rfl⟩
    rw [Int.toNat_of_nonneg HM.out.1]
    exact ret_int (by rw [← Int.neg_tmod, Int.tmod_eq_emod_of_nonneg h0])
  · have hm := Int.emod_nonneg v hn0
    have hl := Int.emod_lt_of_pos v (show (0 : Int) < n by omega)
    have HM := Lib.hid (And.intro hm hl)
    clear hm hl
    go_enter Try.func16, Try.ntmps16
    go_wp2
    go_ret
    exact ⟨(v % (n : Int)).toNat, by rw [Int.toNat_of_nonneg HM.out.1]; rfl, by have := HM.out; omega, rfl⟩
end Go.Proofs.Ytmemdicdehppjaa
