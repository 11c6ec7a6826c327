/- makes: New. -/
import Derived.Test.YtmemdicdehppjaaRB
namespace Go.Proofs.Ytmemdicdehppjaa
open Go.RowKit

section
variable {w w' : World} {base : Nat} {N : List ND}
/-- A row that is none of theirs grows. -/
theorem Forest.grow (h : Forest w base N) {row : Option Nat} (hg : w.grownBy w' row) (h1 : ∀ g, row = some g → ∃ t, Typed w g t ∧ t ≠ 60 ∧ t ≠ 54 ∧ t ≠ 69)
    (h2 : ∀ (i : Nat) (x : ND), N[i]? = some x → x.row.ownBlock = none ∨ x.row.ownBlock ≠ row) : Forest w' base N := by
  have far : ∀ (b : Nat) (t : TypeId), Typed w b t → t = 60 ∨ t = 54 ∨ t = 69 → some b ≠ row := fun b t hb ht e => by
    obtain ⟨u, hu, n1, n2, n3⟩ := h1 b e.symm
    refine hu.ne hb (fun e2 => ?_) rfl
    rcases ht with rfl | rfl | rfl
    · exact n1 e2
    · exact n2 e2
    · exact n3 e2
  exact ⟨fun i x hi => (h.p i x hi).grown hg (far _ _ (h.p i x hi).1.typed (by simp)) (far _ _ (h.p i x hi).2.typed (by simp)), fun i x hi => (h.r i x hi).grown hg (far _ _ (h.r i x hi).typed (by simp)),
    fun i x hi => (h.o i x hi).kept hg (h2 i x hi), h.g, h.db, h.dr, h.dw, h.u, h.lo⟩
def aPtrs (N : List ND) : List Value := N.map fun x => .pointer (some ⟨x.b, 0, none⟩)
def bPtrs (N : List ND) : List Value := N.map fun x => .pointer (some ⟨x.r, 0, none⟩)
/-- What makes leaves. -/
def Made (w : World) (base : Nat) (N : List ND) (e : Ending) (w' : World) : Prop :=
  ∃ N' va' vb', e = .returned (.tuple #[va', vb', .bool true]) ∧ N'.length ≤ N.length + 1 ∧ Laid w' base N' va' vb' ∧ ∀ B, B ≤ base → Below B w w'
theorem Laid.below {va vb : Value} (h : Laid w base N va vb) (hb : Below w.heap.size w w') : Laid w' base N va vb :=
  ⟨h.f.still (only_of_below hb none), h.a.below hb, h.b.below hb, h.d⟩
set_option maxHeartbeats 2000000 in
theorem makes_no {va vb : Value} (on n : Int) (h : Laid w base N va vb) (hbase : base ≤ w.heap.size) (hn : n < 0) :
    Calls Try.prog 15 #[.agg #[.int .i64 on, .int .i64 1, .int .i64 n], va, vb] w (Made w base N) := by
  have hbl := below1 w (.cells #[.int .i64 on, .int .i64 1, .int .i64 n] 29)
  have HL := Lib.hid (h.below hbl)
  have HB := Lib.hid hbl
  obtain ⟨A, ca, hva⟩ := h.a.form
  obtain ⟨B, cb, hvb⟩ := h.b.form
  rw [List.length_map] at hva hvb
  have C1 : ∀ W, Calls Try.prog 8 #[.int .i64 n] W fun e w' => e = .returned (.tuple #[.pointer none, .int .i64 1]) ∧ w' = W := fun W => (new_any n W).mono fun e w' hh => by
    rcases hh with ⟨_, h1, h2⟩ | ⟨h1, _⟩
    · exact ⟨h1, h2⟩
    · omega
  have C2 : ∀ W, Calls Try.prog 28 #[.int .i64 n] W fun e w' => e = .returned (.tuple #[.pointer none, .int .i64 1]) ∧ w' = W := fun W => (new_ref n W).mono fun e w' hh => by
    rcases hh with ⟨_, h1, h2⟩ | ⟨h1, _⟩
    · exact ⟨h1, h2⟩
    · omega
  have C1 := Lib.hid C1; have C2 := Lib.hid C2; have HBB := Lib.hid hbase
  subst hva hvb
  clear h hbl hbase
  go_enter Try.func15, Try.ntmps15
  go_wp2_with (first
    | ((go_at_call 8; with_reducible refine (C1.out _).mono ?_; rintro e W2 ⟨rfl, rfl⟩))
    | ((go_at_call 28; with_reducible refine (C2.out _).mono ?_; rintro e W3 ⟨rfl, rfl⟩)))
  go_ret3
  exact ⟨N, _, _, rfl, by omega, HL.out, fun B hB => HB.out.mono (Nat.le_trans hB HBB.out)⟩
theorem Laid.root {va vb : Value} (h : Laid w base N va vb) (hb : Below w.heap.size w w') {q r lk : Nat} {limit : Int} (hp : IsP w' q (newP limit lk)) (hr : Blk w' r 69 (RS.cells ⟨limit, 0, 0, true, false, .slice none 0 0⟩)) (hq : w.heap.size ≤ q) (hr0 : w.heap.size ≤ r) (hl : w.heap.size ≤ lk) (hbase : base ≤ w.heap.size)
    (hl0 : 0 ≤ limit) (hl1 : limit ≤ 9223372036854775807) : Forest w' base (N ++ [⟨q, r, lk, limit, 0, 0, true, none, .slice none 0 0⟩]) ∧ Owns w' base 24 va (aPtrs N) ∧ Owns w' base 40 vb (bPtrs N) ∧
      ∀ (i : Nat) (x : ND), (N ++ [⟨q, r, lk, limit, 0, 0, true, none, .slice none 0 0⟩])[i]? = some x → x.row.ownBlock = vb.ownBlock → x.row.ownBlock = none :=
  ⟨h.f.root hb hp hr hq hr0 hl hbase hl0 hl1, h.a.below hb, h.b.below hb, fun i x hi he => by
    rcases app_at hi with ⟨_, hi⟩ | ⟨_, rfl⟩
    · exact h.d i x hi he
    · rfl⟩
/-- Both appends, one behind the other. -/
theorem laid_push {w5 w7 : World} {va vb va' vb' : Value} {M : List ND} {q r : Nat} (hF : Forest w base M) (hA : Owns w base 24 va (aPtrs N)) (hB : Owns w base 40 vb (bPtrs N)) (hd : ∀ (i : Nat) (x : ND), M[i]? = some x → x.row.ownBlock = vb.ownBlock → x.row.ownBlock = none)
    (ha : aPtrs M = aPtrs N ++ [.pointer (some ⟨q, 0, none⟩)]) (hb : bPtrs M = bPtrs N ++ [.pointer (some ⟨r, 0, none⟩)])
    (o1 : Obj) (g1 : (w.alloc o1).grownBy w5 va.ownBlock) (h1 : Owns w5 base 24 va' (aPtrs N ++ [.pointer (some ⟨q, 0, none⟩)])) (o2 : Obj) (g2 : (w5.alloc o2).grownBy w7 vb.ownBlock)
    (h2 : Owns w7 base 40 vb' (bPtrs N ++ [.pointer (some ⟨r, 0, none⟩)])) (hv : vb'.ownBlock = vb.ownBlock ∨ vb'.ownBlock = some (w5.alloc o2).heap.size) : Laid w7 base M va' vb' := by
  have b1 := below1 w o1
  have b2 := below1 w5 o2
  have F5 : Forest w5 base M := (hF.still (only_of_below b1 none)).grow g1 (fun g e => ⟨24, (hA.below b1).typed e, by decide, by decide, by decide⟩) (fun i x hi => by
    rcases hx : x.row.ownBlock with _ | g
    · exact .inl rfl
    · refine .inr fun e => ?_
      exact ((hF.o i x hi).typed hx).ne (hA.typed e.symm) (by decide) rfl)
  have hB5 : Owns w5 base 40 vb (bPtrs N) := (hB.below b1).asideR (hA.below b1) (by decide) g1
  have F6 := F5.still (only_of_below b2 none)
  have F7 : Forest w7 base M := F6.grow g2 (fun g e => ⟨40, (hB5.below b2).typed e, by decide, by decide, by decide⟩) (fun i x hi => by
    rcases hx : x.row.ownBlock with _ | g
    · exact .inl rfl
    · refine .inr fun e => ?_
      have := hd i x hi (by rw [hx, e])
      rw [hx] at this
      cases this)
  refine ⟨F7, ?_, ?_, fun i x hi he => ?_⟩
  · show Owns w7 base 24 va' (aPtrs M)
    rw [ha]
    exact (h1.below b2).asideR (hB5.below b2) (by decide) g2
  · show Owns w7 base 40 vb' (bPtrs M)
    rw [hb]
    exact h2
  · rcases hv with hv | hv
    · exact hd i x hi (by rw [he, hv])
    · have := (F6.lt hi).2.2 _ (he.trans hv)
      omega
end
end Go.Proofs.Ytmemdicdehppjaa
