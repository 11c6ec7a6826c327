/- Aids of no one program: slices that read as cells (elements of more than one cell), their appending; blocks and rows of several types side by side. -/
import Derived.Test.YtjkmoahnociaiaaDoorG2
import Derived.Deep.DeepCutAuto
import Derived.Deep.RegionWith
namespace Go.Proofs.YtjkmoahnociaiaaDoor
open Go.RowKit

/-- A slice value reads as these cells; nil and empty ones too. -/
def CReads (w : World) (A : Option Addr) (xs : List Value) : Prop :=
  0 < xs.length → ∃ b o, A = some ⟨b, o, none⟩ ∧ ∀ (j : Nat) (x : Value), xs[j]? = some x → w.cell? ⟨b, o + j, none⟩ = some x
section
variable {w w' : World} {A : Option Addr} {xs ys : List Value}
theorem CReads.at_ (h : CReads w A xs) {i : Nat} {x : Value} (hx : xs[i]? = some x) : ∃ b o, A = some ⟨b, o, none⟩ ∧ w.cell? ⟨b, o + i, none⟩ = some x := by
  obtain ⟨b, o, e, hc⟩ := h (by have := (List.getElem?_eq_some_iff.1 hx).1; omega)
  exact ⟨b, o, e, hc i x hx⟩
theorem CReads.below (h : CReads w A xs) (hb : Below w.heap.size w w') : CReads w' A xs := fun hn => by
  obtain ⟨b, o, e, hc⟩ := h hn
  exact ⟨b, o, e, fun j x hx => cell_kept hb (hc j x hx)⟩
theorem CReads.grown (h : CReads w A xs) {row : Option Nat} (hb : w.grownBy w' row) (hne : ∀ b o, A = some ⟨b, o, none⟩ → some b ≠ row) : CReads w' A xs := fun hn => by
  obtain ⟨b, o, e, hc⟩ := h hn
  exact ⟨b, o, e, fun j x hx => hb.cell (hc j x hx) (hne b o e)⟩
theorem CReads.drewN (h : CReads w A xs) (n : Nat) : CReads (w.drewN n) A xs := h
theorem CReads.drew (h : CReads w A xs) : CReads w.drew A xs := h
theorem CReads.nil (w : World) (A : Option Addr) : CReads w A [] := fun h => absurd h (by simp)
theorem CReads.front (h : CReads w A (xs ++ ys)) : CReads w A xs := fun hn => by
  obtain ⟨b, o, e, hc⟩ := h (by rw [List.length_append]; omega)
  exact ⟨b, o, e, fun j x hx => hc j x (by rw [List.getElem?_append_left (List.getElem?_eq_some_iff.1 hx).1]; exact hx)⟩
theorem CReads.of_reads {k : IntKind} {l : List Int} (h : Reads w k A l) : CReads w A (nums k l) := fun hn => by
  rw [nums_length] at hn
  obtain ⟨b, o, e, hc⟩ := h hn
  refine ⟨b, o, e, fun j x hx => ?_⟩
  rw [nums_get] at hx
  obtain ⟨y, hy, rfl⟩ := Option.map_eq_some_iff.1 hx
  exact hc j y hy
theorem CReads.reads {k : IntKind} {l : List Int} (h : CReads w A (nums k l)) : Reads w k A l := fun hn => by
  obtain ⟨b, o, e, hc⟩ := h (by rw [nums_length]; exact hn)
  exact ⟨b, o, e, fun j x hx => hc j _ (by rw [nums_get, hx]; rfl)⟩
theorem CReads.of_blk {g : Nat} {t : TypeId} {l : List Value} (h : Blk w g t l) : CReads w (some ⟨g, 0, none⟩) l := fun _ => ⟨g, 0, rfl, fun j x hx => by rw [h.cell, Nat.zero_add]; exact hx⟩
theorem rows_cells {base : Nat} {e : TypeId} {size n : Nat} {v : Value} (h : w.ownsRow base e size v n xs) (hs : 0 < size) : ∃ A c, v = .slice A n c ∧ CReads w A xs ∧ v.ownBlock = A.map (·.block) := by
  rcases h.2 with ⟨rfl, h0⟩ | ⟨g, cap, cur, rfl, _, hh, hle, _, hsz, htk⟩
  · have := h.1
    rw [h0, Nat.zero_mul] at this
    exact ⟨none, 0, by rw [h0], fun hn => by omega, rfl⟩
  · refine ⟨_, cap, rfl, fun _ => ⟨g, 0, rfl, fun j x hx => ?_⟩, rfl⟩
    have := World.ownsRow.cells h (g := g) rfl j x hx
    unfold Addr.add at this
    split at this <;> simp_all
end
theorem run_cells {P : Program} {w : World} {t ty e : TypeId} {base size bytes n : Nat} {z v : Value} {xs : List Value} (ht : P.underlying t = some (.slice e))
    (hi : (P.info? e).map (fun i => (i.zero, i.size, i.bytes)) = some (some z, size, bytes)) (hzs : z.cells.size = size) (hsz : 0 < size) (hown : w.ownsRow base e size v n xs)
    (A : Option Addr) (m c : Nat) (ys : List Value) (hr : CReads w A ys) (hl : ys.length = m * size) (h1 : ∀ u ∈ ys, u.oneCell' = true)
    (h63 : n + m ≤ maxLen) (hbytes : (n + m) * bytes ≤ 140737488355328) (hbase : base ≤ w.heap.size) :
    ∃ v' w', (Builtin.append_ #[t, t] ty #[v, .slice A m c]).run P w = .ok v' w' ∧ w'.ownsRow base e size v' (n + m) (xs ++ ys) ∧ w.grownBy w' v.ownBlock ∧ (v'.ownBlock = v.ownBlock ∨ v'.ownBlock = some w.heap.size) := by
  obtain ⟨i, hi', hz, hs, hby⟩ := info_parts hi
  rcases A with _ | ad
  · have h0 : ys = [] := by
      rcases ys with _ | ⟨y, ys⟩
      · rfl
      · obtain ⟨b, o, e, _⟩ := hr (by simp)
        cases e
    subst h0
    have hm : m = 0 := by
      rcases Nat.eq_zero_or_pos m with h | h
      · exact h
      · have := Nat.mul_pos h hsz
        simp at hl; omega
    subst hm
    exact ⟨v, w, run_append_nothing ht hi' hown c, by simpa using hown, only_refl _ _, .inl rfl⟩
  · obtain ⟨v', w', hrun, h2, h3, _, h5⟩ := run_append_own_at (P := P) w base t ty e i z size bytes ht hi' hz hs hby hzs hsz v n xs hown ad m c ys hl
      (fun j u hj => by
        obtain ⟨b, o, e, hc⟩ := hr.at_ hj
        cases e
        have : (⟨b, o, none⟩ : Addr).add j = ⟨b, o + j, none⟩ := by unfold Addr.add; split <;> simp_all
        rw [this]; exact hc)
      h1 h63 hbytes hbase
    exact ⟨v', w', hrun, h2, h3, h5⟩
/-- 'append(s, t...)' where t reads as cells. -/
theorem wpList_cells {P : Program} {ops : Array Oper} {rest : List Oper} {o : Oper} {a : Act} {Q : Exit → Act → World → Prop} {w : World} (hgd : o.guard = none) (s x : Operand) (t : TypeId)
    (ho : o.op = .call { callee := .builtin .append, args := #[s, x], argTypes := #[t, t] })
    (base : Nat) (e : TypeId) (z : Value) (size bytes : Nat) (ht : P.underlying t = some (.slice e)) (hi : (P.info? e).map (fun i => (i.zero, i.size, i.bytes)) = some (some z, size, bytes)) (hzs : z.cells.size = size) (hsz : 0 < size)
    (v : Value) (n : Nat) (xs : List Value) (hs : a.eval s = v) (hown : w.ownsRow base e size v n xs)
    (A : Option Addr) (m c : Nat) (ys : List Value) (hx : a.eval x = .slice A m c) (hr : CReads w A ys) (hl : ys.length = m * size) (h1 : ∀ u ∈ ys, u.oneCell' = true)
    (h63 : n + m ≤ maxLen) (hbytes : (n + m) * bytes ≤ 140737488355328) (hbase : base ≤ w.heap.size)
    (h : ∀ v' w', w'.ownsRow base e size v' (n + m) (xs ++ ys) → w.grownBy w' v.ownBlock → (v'.ownBlock = v.ownBlock ∨ v'.ownBlock = some w.heap.size) → wpList P ops Q rest (a.put o.dst v') w') :
    wpList P ops Q (o :: rest) a w := by
  refine wpList_plain hgd fun K hK => ?_
  obtain ⟨v', w', hr, h2, h3, h5⟩ := run_cells (P := P) (ty := o.type) ht hi hzs hsz hown A m c ys hr hl h1 h63 hbytes hbase
  unfold Oper.wp execOp
  simp only [ho, resolve, invoke, builtin, Sem.run_bind, Sem.run_pure, Result.andThen_ok, List.map_toArray, List.map_cons, List.map_nil, hs, hx, hr]
  exact hK _ _ (h v' w' h2 h3 h5)
/-- 'append(out, x)', with the bounds apart. -/
theorem wpList_push2 {P : Program} {ops : Array Oper} {rest : List Oper} {o : Oper} {a : Act} {Q : Exit → Act → World → Prop} {w : World} (hgd : o.guard = none) (s x : Operand) (t : TypeId)
    (ho : o.op = .call { callee := .builtin .append, args := #[s, x], argTypes := #[t, t] })
    (base : Nat) (e : TypeId) (z : Value) (bytes : Nat) (ht : P.underlying t = some (.slice e)) (hi : (P.info? e).map (fun i => (i.zero, i.size, i.bytes)) = some (some z, 1, bytes)) (hzs : z.cells.size = 1)
    (v : Value) (xs : List Value) (hs : a.eval s = v) (hown : Owns w base e v xs)
    (ad : Addr) (u : Value) (hx : a.eval x = .slice (some ad) 1 1) (hu : w.cell? ad = some u) (h1 : u.oneCell' = true)
    (hlen : xs.length + 1 ≤ maxLen) (hby : (xs.length + 1) * bytes ≤ 140737488355328) (hbase : base ≤ w.heap.size)
    (h : ∀ v' w', Owns w' base e v' (xs ++ [u]) → w.grownBy w' v.ownBlock → (v'.ownBlock = v.ownBlock ∨ v'.ownBlock = some w.heap.size) → wpList P ops Q rest (a.put o.dst v') w') :
    wpList P ops Q (o :: rest) a w := by
  obtain ⟨i, hi', hz, hsz, hb⟩ := info_parts hi
  refine wpList_append_own_at w hgd s x t ho base e i z 1 bytes ht hi' hz hsz hb hzs (by decide) v xs.length xs hs hown ad 1 1 [u] hx rfl ?_ ?_ hlen hby hbase ?_
  · intro j y hj
    match j, hj with
    | 0, hj =>
      simp at hj
      subst hj
      simpa [Addr.add] using hu
  · intro y hy
    simp at hy
    subst hy
    exact h1
  · intro v' w' h2 h3 _ h5
    exact h v' w' (by unfold Owns; rw [List.length_append]; exact h2) h3 h5
/-- make of n elements of one cell. -/
theorem run_makeRep {P : Program} {t e : TypeId} {z : Value} {bytes : Nat} (ht : P.underlying t = some (.slice e)) (hi : (P.info? e).map (fun i => (i.zero, i.size, i.bytes)) = some (some z, 1, bytes)) (hz1 : z.cells = #[z]) (n : Nat) (h : n ≤ 9223372036854775807) (hb : n * bytes ≤ 140737488355328) :
    ∀ w, (Instr.makeSlice t (.int .i64 (n : Int)) (.int .i64 (n : Int))).run P w = .ok (.slice (some ⟨w.heap.size, 0, none⟩) n n) (w.alloc (.cells (List.replicate n z).toArray e)) := by
  intro w
  obtain ⟨i, hi, hz, hs, hby⟩ := info_parts hi
  have hr := run_make (P := P) w t e i z ht hi hz .i64 .i64 n n (by omega) (by omega) (by
    have h1 : ((n * bytes : Nat) : Int) ≤ 140737488355328 := by omega
    rw [Int.natCast_mul, Int.mul_comm] at h1
    rw [hby]
    omega) (by omega)
  rw [hr, hs]
  simp only [Int.toNat_natCast, Nat.mul_one]
  congr 3
  apply Array.ext
  · simp [size_madeCells]
  · intro k h1 h2
    simp [madeCells, hz1, Nat.mod_one]
theorem Owns.first {w : World} {base n c : Nat} {e : TypeId} {A : Option Addr} {xs : List Value} (h : Owns w base e (.slice A n c) xs) {i : Nat} {u : Value} (hi : xs[i]? = some u) : ∃ g, A = some ⟨g, 0, none⟩ ∧ w.cell? ⟨g, i, none⟩ = some u := by
  rcases h.2 with ⟨hv, h0⟩ | ⟨g, cap, cur, hv, _⟩
  · have := (List.getElem?_eq_some_iff.1 hi).1; omega
  · cases hv
    have := World.ownsRow.cells h (g := g) rfl i u hi
    refine ⟨g, rfl, ?_⟩
    unfold Addr.add at this
    split at this <;> simp_all
/-- Block g holds cells of type t. -/
def Typed (w : World) (g : Nat) (t : TypeId) : Prop := ∃ cs, w.heap[g]? = some (.cells cs t (0, 0))
theorem Typed.ne {w : World} {a b : Nat} {t u : TypeId} (ha : Typed w a t) (hb : Typed w b u) (h : t ≠ u) : a ≠ b := by
  rintro rfl
  obtain ⟨_, ha⟩ := ha
  obtain ⟨_, hb⟩ := hb
  rw [ha] at hb
  cases hb
  exact h rfl
theorem Blk.typed {w : World} {b : Nat} {t : TypeId} {l : List Value} (h : Blk w b t l) : Typed w b t := ⟨_, h⟩
theorem rows_typed {w : World} {base : Nat} {e : TypeId} {size n : Nat} {v : Value} {xs : List Value} (h : w.ownsRow base e size v n xs) {g : Nat} (hg : v.ownBlock = some g) : Typed w g e := by
  rcases h.2 with ⟨rfl, _⟩ | ⟨g', cap, cur, rfl, _, hh, _⟩
  · simp [Value.ownBlock] at hg
  · have e2 : g' = g := Option.some.inj hg
    subst e2
    exact ⟨_, hh⟩
/-- Some blocks, and what is new, have turned. -/
structure Tur (w w' : World) (bs : List Nat) : Prop where
  os : w'.os = w.os
  tape : w'.tape = w.tape
  output : w'.output = w.output
  size : w.heap.size ≤ w'.heap.size
  block : ∀ i, i < w.heap.size → i ∉ bs → w'.heap[i]? = w.heap[i]?
theorem below_drew0 {B : Nat} {w w' : World} (h : Below B w w') : Below B w w'.drew := ⟨h.os, h.tape, h.output, h.size, h.block⟩
/-- Two rows that share no memory. -/
def Far (a b : Value) : Prop := a.ownBlock = none ∨ a.ownBlock ≠ b.ownBlock
theorem Far.symm {a b : Value} (h : Far a b) : Far b a := by
  unfold Far at h ⊢
  rcases h with h | h
  · rcases hb : b.ownBlock with _ | g
    · exact .inl rfl
    · exact .inr (by rw [h]; simp)
  · rcases hb : b.ownBlock with _ | g
    · exact .inl rfl
    · exact .inr (by rw [← hb]; exact fun e => h e.symm)
end Go.Proofs.YtjkmoahnociaiaaDoor
