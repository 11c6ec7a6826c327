/- Part, made on both sides: what is there behind it. -/
import Derived.Test.YtmemdicdehppjaaRF
namespace Go.Proofs.Ytmemdicdehppjaa
open Go.RowKit

section
variable {w w1 w2 : World} {base : Nat} {N : List ND} {va vb : Value}
theorem laid_parted (h : Laid w base N va vb) {i : Nat} {x : ND} (hi : N[i]? = some x) {q r : Nat} {n : Int} {v : Value} (hask : askE (x.ps N i) n = 0) (g1 : w.grownBy w1 (some x.b)) (hp : IsP w1 x.b (partP (x.ps N i) n)) (hq : IsP w1 q (bornP (x.ps N i) x.b n)) (hq0 : w.heap.size ≤ q)
    (hr : Blk w2 r 69 (RS.cells ⟨n, 0, 0, true, true, .slice none 0 0⟩)) (hR : Blk w2 x.r 69 (x.parted N i n v).rs.cells) (hO : Owns w2 base 40 v (kptrs (kids N i ++ [⟨r, n, true⟩]))) (hr0 : w1.heap.size ≤ r) (ht : Tur w1 w2 (x.r :: x.row.ownBlock.toList))
    (hv : v.ownBlock = x.row.ownBlock ∨ ∃ g, v.ownBlock = some g ∧ w1.heap.size ≤ g) (hbase : base ≤ w.heap.size) :
    Forest w2 base (N.set i (x.parted N i n v) ++ [x.born i q r n]) ∧ Owns w2 base 24 va (aPtrs N) ∧ Owns w2 base 40 vb (bPtrs N) ∧
      ∀ (j : Nat) (z : ND), (N.set i (x.parted N i n v) ++ [x.born i q r n])[j]? = some z → z.row.ownBlock = vb.ownBlock → z.row.ownBlock = none := by
  have hxb := (h.f.p i x hi).1.typed
  have hr1 : Blk w1 x.r 69 x.rs.cells := (h.f.r i x hi).grown g1 (fun e => (h.f.r i x hi).ne (h.f.p i x hi).1 (by decide) (Option.some.inj e))
  have ho1 : Owns w1 base 40 x.row (kptrs (kids N i)) := (h.f.o i x hi).aside hxb (by decide) g1
  have hin : ∀ (b : Nat) (t : TypeId), Typed w1 b t → t ≠ 69 → t ≠ 40 → b ∉ x.r :: x.row.ownBlock.toList := fun b t hb n1 n2 => by
    simp only [List.mem_cons, not_or]
    exact ⟨fun e => hb.ne hr1.typed n1 e, fun hm => hb.ne (ho1.typed (by simpa using hm)) n2 rfl⟩
  have t1 : Tur w w1 (x.b :: x.r :: x.row.ownBlock.toList) := Tur.of g1 (by simp)
  have t2 : Tur w1 w2 (x.b :: x.r :: x.row.ownBlock.toList) := ht.more (fun b hb => List.mem_cons_of_mem _ hb)
  have hF := h.f.part hi hask (hp.tur ht (hin _ _ hp.1.typed (by decide) (by decide)) (hin _ _ hp.2.typed (by decide) (by decide))) (hq.tur ht (hin _ _ hq.1.typed (by decide) (by decide)) (hin _ _ hq.2.typed (by decide) (by decide))) hR hr hO (t1.trans t2) hq0 (Nat.le_trans g1.size hr0)
    (hv.imp id fun ⟨g, e1, e2⟩ => ⟨g, e1, Nat.le_trans g1.size e2⟩) hbase
  have ha1 : Owns w1 base 24 va (aPtrs N) := h.a.aside hxb (by decide) g1
  have hb1 : Owns w1 base 40 vb (bPtrs N) := h.b.aside hxb (by decide) g1
  refine ⟨hF, ha1.asideT (fun g hg => ?_) ht, ?_, fun j z hz he => ?_⟩
  · rcases List.mem_cons.1 hg with rfl | hg
    · exact ⟨69, by decide, hr1.typed⟩
    · exact ⟨40, by decide, ho1.typed (by simpa using hg)⟩
  · refine ⟨hb1.1, ?_⟩
    rcases hb1.2 with hnil | ⟨g, cap, cur, hzv, hbb, hh, rest⟩
    · exact .inl hnil
    · have hgo : vb.ownBlock = some g := by rw [hzv]; rfl
      refine .inr ⟨g, cap, cur, hzv, hbb, (ht.block g (hb1.lt hgo).2 ?_).trans hh, rest⟩
      simp only [List.mem_cons, not_or]
      refine ⟨(hb1.typed hgo).ne hr1.typed (by decide), fun hm => ?_⟩
      have e : x.row.ownBlock = some g := by simpa using hm
      have := h.d i x hi (by rw [e, hgo])
      rw [e] at this
      cases this
  · rcases app_at hz with ⟨_, hz⟩ | ⟨_, rfl⟩
    · rcases set_at hz with ⟨_, rfl⟩ | ⟨_, hz⟩
      · rcases hv with hv | ⟨g, e1, e2⟩
        · have := h.d i x hi (by rw [← hv]; exact he)
          show v.ownBlock = none
          rw [hv, this]
        · have h3 : vb.ownBlock = some g := by rw [← he]; exact e1
          have := (hb1.lt h3).2
          omega
      · exact h.d j z hz he
    · rfl
end
end Go.Proofs.Ytmemdicdehppjaa
