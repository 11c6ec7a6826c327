/- step: Close. -/
import Derived.Test.YtmemdicdehppjaaR4
namespace Go.Proofs.Ytmemdicdehppjaa
open Go.RowKit

theorem closed_ret {b pb : Nat} {p pp : PS} {w w' : World} {e : Ending} (h : Closed b p pb pp w e w') : e = .returned (.int .i64 (closeE p)) ∧ Tur w w' [b, pb] := by
  rcases h with ⟨_, he, _, hg⟩ | ⟨h0, _, he, _, _, ht⟩
  · exact ⟨he, Tur.of0 hg⟩
  · exact ⟨by rw [he, h0], ht⟩
theorem Tur.more {w w' : World} {bs cs : List Nat} (h : Tur w w' bs) (hs : ∀ b ∈ bs, b ∈ cs) : Tur w w' cs :=
  ⟨h.os, h.tape, h.output, h.size, fun i hi hn => h.block i hi (fun hm => hn (hs i hm))⟩
/-- What step leaves of a Close. -/
def Shut (b : Nat) (p : PS) (pb : Nat) (pp : PS) (r : Nat) (s : RS) (w : World) (e : Ending) (w' : World) : Prop :=
  e = .returned (.bool true) ∧
  ((closeE p ≠ 0 ∧ IsP w' b p ∧ Blk w' r 69 s.cells ∧ Tur w w' [r]) ∨
   (closeE p = 0 ∧ p.up = some pb ∧ IsP w' b (shutP p) ∧ IsP w' pb (lessP pp p.limit) ∧ Blk w' r 69 (RS.cells { s with opn := false }) ∧ Tur w w' [b, pb, r]))
set_option maxHeartbeats 2000000 in
theorem step_close {w : World} {b r pb : Nat} {p pp : PS} {s : RS} {ks : List RK} (on n : Int) (hp : IsP w b p) (hg : p.Good) (hr : Blk w r 69 s.cells) (hrg : RGood s ks) (hl : Link p s ks) (hpb : pb ≠ r) (hK : ∀ W, Tur w W [b, pb, r] → KidsAt W s.row ks)
    (hpp : ∀ u, p.up = some u → u = pb ∧ IsP w pb pp ∧ pp.lk = p.lk ∧ b ≠ pb) (hgp : p.closed = false → ∀ u, p.up = some u → p.limit ≤ pp.parts ∧ pp.parts ≤ 9223372036854775807 ∧ 1 ≤ pp.cnt ∧ pp.cnt ≤ 4611686018427387904) :
    Calls Try.prog 17 #[.agg #[.int .i64 on, .int .i64 5, .int .i64 n], .pointer (some ⟨b, 0, none⟩), .pointer (some ⟨r, 0, none⟩)] w (Shut b p pb pp r s w) := by
  have hbl := below1 w (.cells #[.int .i64 on, .int .i64 5, .int .i64 n] 29)
  have HT1 := Lib.hid (Tur.below0 hbl [b, pb, r])
  have HT0 := Lib.hid (Tur.below0 hbl [r])
  have hbr : b ≠ r := hp.1.ne hr (by decide)
  have HBR := Lib.hid hbr
  have C1 : Calls Try.prog 20 #[.pointer (some ⟨b, 0, none⟩)] (w.alloc (.cells #[.int .i64 on, .int .i64 5, .int .i64 n] 29)) fun e w' => e = .returned (.int .i64 (closeE p)) ∧ Hid (Closed b p pb pp (w.alloc (.cells #[.int .i64 on, .int .i64 5, .int .i64 n] 29)) e w') :=
    (close_any b p pb pp _ (hp.still (only_of_below hbl none)) hg (fun u hu => ⟨(hpp u hu).1, (hpp u hu).2.1.still (only_of_below hbl none), (hpp u hu).2.2⟩) hgp).mono fun e w' h => ⟨(closed_ret h).1, Lib.hid h⟩
  have HR1 := Lib.hid (hr.self hbl)
  have HR2 : Hid (∀ W2, Tur (w.alloc (.cells #[.int .i64 on, .int .i64 5, .int .i64 n] 29)) W2 [b, pb] → Blk W2 r 69 s.cells) := Lib.hid (fun W2 h => h.blk HR1.out (by simp only [List.mem_cons, List.not_mem_nil, or_false, not_or]; exact ⟨fun e => hbr e.symm, fun e => hpb e.symm⟩))
  have C2 : Hid (∀ W2, Tur (w.alloc (.cells #[.int .i64 on, .int .i64 5, .int .i64 n] 29)) W2 [b, pb] → Calls Try.prog 32 #[.pointer (some ⟨r, 0, none⟩)] W2 fun e w' => e = .returned (.int .i64 (closeE p)) ∧ Blk w' r 69 (rClose s ks).cells ∧ W2.grownBy w' (some r)) := Lib.hid (fun W2 h => by
    have t2 := HT1.out.trans (h.more (cs := [b, pb, r]) (by simp))
    have := close_ref ⟨HR2.out W2 h, hK _ t2⟩ hrg
    rw [hl.close] at this
    exact this)
  have HZ : Hid ((closeE p = 0 → rClose s ks = { s with opn := false }) ∧ (closeE p ≠ 0 → rClose s ks = s)) := Lib.hid (by
    unfold rClose
    rw [hl.close]
    exact ⟨fun h => by rw [if_pos h], fun h => by rw [if_neg h]⟩)
  have HPB := Lib.hid hpb
  obtain ⟨E, hE⟩ : ∃ E, closeE p = E := ⟨_, rfl⟩
  have HE := Lib.hid hE
  rw [hE] at C1 C2
  generalize rClose s ks = s' at *
  clear hbl hbr hp hg hr hrg hl hK hpp hgp hE hpb
  have cK := (HR1.out.cell 0)
  clear cK
  have cK := ((Blk.new w 29 [.int .i64 on, .int .i64 5, .int .i64 n]).cell 1)
  go_enter Try.func17, Try.ntmps17
  go_wp2_with (first
    | ((go_at_call 20; with_reducible refine C1.mono ?_; rintro e W2 ⟨rfl, hC⟩; have t2 := (closed_ret hC.out).2))
    | ((go_at_call 32; with_reducible refine (C2.out _ t2).mono ?_; rintro e W3 ⟨rfl, h3, g3⟩)))
  go_ret
  refine ⟨rfl, ?_⟩
  rcases hC.out with ⟨h0, _, h1, hg⟩ | ⟨h0, hu, _, h1, h2, ht⟩
  · rw [HZ.out.2 h0] at h3
    refine .inl ⟨h0, h1.asideB (HR2.out _ t2) (by decide) g3, h3, (HT0.out.trans (Tur.of0 hg)).trans (Tur.of g3 (by simp))⟩
  · rw [HZ.out.1 h0] at h3
    refine .inr ⟨h0, hu, h1.asideB (HR2.out _ t2) (by decide) g3, h2.asideB (HR2.out _ t2) (by decide) g3, h3, ((HT1.out.trans (ht.more (by simp))).trans (Tur.of g3 (by simp)))⟩
end Go.Proofs.Ytmemdicdehppjaa
