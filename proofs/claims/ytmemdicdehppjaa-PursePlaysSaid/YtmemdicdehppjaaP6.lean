/- Part and Close of package purse. -/
import Derived.Test.YtmemdicdehppjaaP5
import Derived.BigRegion
namespace Go.Proofs.Ytmemdicdehppjaa
open Go.RowKit Go.MuLone

/-- What Part leaves. -/
def partP (p : PS) (n : Int) : PS := { p with parts := p.parts + n, cnt := p.cnt + 1, peak := max p.peak (p.hand + (p.parts + n)) }
def bornP (p : PS) (b : Nat) (n : Int) : PS := ⟨n, 0, 0, 0, false, 0, p.lk, some b⟩
def Parted (b : Nat) (p : PS) (n : Int) (w : World) (e : Ending) (w' : World) : Prop :=
  (askE p n ≠ 0 ∧ e = .returned (.tuple #[.pointer none, .int .i64 (askE p n)]) ∧ IsP w' b p ∧ w.grownBy w' (some b)) ∨
  (askE p n = 0 ∧ ∃ q, e = .returned (.tuple #[.pointer (some ⟨q, 0, none⟩), .int .i64 0]) ∧ IsP w' b (partP p n) ∧ IsP w' q (bornP p b n) ∧ w.heap.size ≤ q ∧ w.grownBy w' (some b))
theorem partP_good {p : PS} (hg : p.Good) {n : Int} (h : askE p n = 0) : (partP p n).Good := by
  obtain ⟨_, h1, h2⟩ := ask_ok h
  obtain ⟨l0, l1, h0, p0, o1, c0, k0, k1⟩ := hg
  constructor <;> simp only [partP] <;> omega
theorem bornP_good {p : PS} (hg : p.Good) {b : Nat} {n : Int} (h : askE p n = 0) : (bornP p b n).Good := by
  obtain ⟨_, h1, h2⟩ := ask_ok h
  obtain ⟨l0, l1, h0, p0, o1, c0, k0, k1⟩ := hg
  constructor <;> simp only [bornP] <;> omega
set_option maxHeartbeats 2000000 in
theorem part_any (b : Nat) (p : PS) (n : Int) (w : World) (h : IsP w b p) (hg : p.Good) (hn : -9223372036854775808 ≤ n ∧ n ≤ 9223372036854775807) (hc : p.cnt ≤ 4611686018427387904) :
    Calls Try.prog 19 #[.pointer (some ⟨b, 0, none⟩), .int .i64 n] w (Parted b p n w) := by
  have HH := Lib.hid h
  have HG := Lib.hid hg
  have HT := Lib.hid h.take
  have hlk := h.ne
  have HN := Lib.hid hlk
  have d0 := (cells_of h.1).c0
  have e0 : w.cell? ⟨p.lk, 0, none⟩ = some (.int .i32 0) := by rw [h.2.cell]; rfl
  have f0 : w.frozen? ⟨p.lk, 0, none⟩ = false := h.2.frozen 0
  have d1 := (cells_of HT.out.1).c0
  obtain ⟨li, ha, pa, cn, cl, pk, lk, up⟩ := p
  dsimp only at *
  clear h hg hlk
  have HW : Hid (∀ w1 w2, (w.setCell ⟨lk, 0, none⟩ (.int .i32 1)).grownBy w1 (some b) → w2 = w1.setCell ⟨lk, 0, none⟩ (.int .i32 0) → w.grownBy w2 (some b)) := Lib.hid (fun w1 w2 h1 h2 => only_lock HH.out.2 h1 HN.out h2)
  have HSZ : Hid (w.heap.size = (w.setCell ⟨lk, 0, none⟩ (.int .i32 1)).heap.size) := Lib.hid (by simp [World.setCell])
  obtain ⟨E, hE⟩ : ∃ E, askE ⟨li, ha, pa, cn, cl, pk, lk, up⟩ n = E := ⟨_, rfl⟩
  have HE := Lib.hid hE
  clear HH
  go_enter_defers Try.func19, Try.ntmps19
  go_upto_region 3 with (go_at_call 21; refine (lock_free muLib ⟨lk, 0, none⟩ _ e0 f0).mono ?_; rintro e w' ⟨rfl, rfl⟩)
  generalize w.setCell ⟨lk, 0, none⟩ (.int .i32 1) = W at *
  have hask := asked_any b ⟨li, ha, pa, cn, cl, pk, lk, up⟩ n W HT.out.1 HG.out
  rw [hE] at hask
  by_cases h0 : E = 0
  · rw [h0] at hask hE
    obtain ⟨hcl, hn0, hn1⟩ := ask_ok hE
    have hl1 := HG.out.l1; have hp0 := HG.out.p0; have hh0 := HG.out.h0; have hc0 := HG.out.c0
    dsimp only at hcl hn1 hl1 hp0 hh0 hc0
    have hsum : pa + n ≤ 9223372036854775807 := by omega
    have hsum0 : -9223372036854775808 ≤ pa + n := by omega
    have d3 := (cells_of HT.out.1).c3
    have z3 := HT.out.1.frozen 3
    have d4 := (cells_of HT.out.1).c4
    have z4 := HT.out.1.frozen 4
    dsimp only at d3 d4
    have HT2 : Hid (∀ k, Blk (((W.drewN k).setCell ⟨b, 3, none⟩ (.int .i64 (pa + n))).setCell ⟨b, 4, none⟩ (.int .i64 (cn + 1))) b 60 (PS.cells ⟨li, ha, pa + n, cn + 1, cl, pk, lk, up⟩)) := Lib.hid (fun k => ((blk_drewN HT.out.1 k).set_ 3 _).set_ 4 _)
    have HG2 : Hid (PS.Good ⟨li, ha, pa + n, cn + 1, cl, pk, lk, up⟩) := Lib.hid (by
      obtain ⟨l0, l1, h0, p0, o1, c0, k0, k1⟩ := HG.out
      dsimp only at *
      constructor <;> dsimp only <;> omega)
    have HE0 := Lib.hid h0
    clear hE hcl hn1 h0 hl1 hp0 hh0
    go_upto_region 8 with (go_at_call 23; refine hask.mono ?_; rintro e w' ⟨rfl, k, rfl⟩)
    have hr := risen_any b _ _ (HT2.out k) HG2.out
    go_upto_region 9 with (go_at_call 24; refine hr.mono ?_; rintro e w3 ⟨rfl, hb3, hg3⟩)
    have hgW : Hid (W.grownBy w3 (some b)) := Lib.hid (only_trans (only_setCell (p := ⟨b, 4, none⟩) (only_setCell (p := ⟨b, 3, none⟩) (only_drewN (only_refl W (some b)) k) (.inl rfl) (.int .i64 (pa + n))) (.inl rfl) (.int .i64 (cn + 1))) hg3)
    have HD : Hid (Held w3 b ⟨li, ha, pa + n, cn + 1, cl, max pk (ha + (pa + n)), lk, up⟩) := Lib.hid ⟨hb3, HT.out.2.1.grown hgW.out (fun e => HN.out (Option.some.inj e).symm), HN.out⟩
    have d9 := (cells_of HD.out.1).c0
    dsimp only at d9
    have HB := Lib.hid (below1 w3 (.cells (bornP ⟨li, ha, pa, cn, cl, pk, lk, up⟩ b n).cells.toArray 60))
    have HQ := Lib.hid (Blk.new w3 60 (bornP ⟨li, ha, pa, cn, cl, pk, lk, up⟩ b n).cells)
    have HSZ3 : Hid (w.heap.size ≤ w3.heap.size) := Lib.hid (by rw [HSZ.out]; exact hgW.out.size)
    clear hr hb3 hg3 hask d0 d1 d3 d4 z3 z4 e0 f0 hc0 hsum hsum0
    go_wp2
    have HD2 : Held (w3.alloc (.cells (bornP ⟨li, ha, pa, cn, cl, pk, lk, up⟩ b n).cells.toArray 60)) b ⟨li, ha, pa + n, cn + 1, cl, max pk (ha + (pa + n)), lk, up⟩ := ⟨HD.out.1.self HB.out, HD.out.2.1.self HB.out, HN.out⟩
    refine leaves_cons (f := 22) (args := #[.pointer (some ⟨lk, 0, none⟩)]) (by simp) (by simp [go_sem]) ?_
    refine (unlock_deferred muLib ⟨lk, 0, none⟩ .returning _ (by exact (HD2.2.1.cell 0).trans rfl) (by exact HD2.2.1.frozen 0)).mono ?_
    rintro e u' w'' ⟨rfl, rfl, rfl⟩
    have hlt : lk < w3.heap.size := HD.out.2.1.lt
    refine ⟨_, results_tmp2 (t := 4) (u := 5) rfl _ _ _, .inr ⟨HE.out.trans HE0.out, w3.heap.size, rfl, HD2.drop, ⟨?_, HD2.drop.2⟩, HSZ3.out, HW.out _ _ (only_below hgW.out HB.out) rfl⟩⟩
    exact HQ.out.far (p := ⟨lk, 0, none⟩) (by simp; omega) _
  · have e1 : (E != 0) = true := by simpa using h0
    have HE0 := Lib.hid h0
    clear hE h0
    go_wp2_with (go_at_call 23; refine hask.mono ?_; rintro e w' ⟨rfl, k, rfl⟩)
    have HD : Held (W.drewN k) b ⟨li, ha, pa, cn, cl, pk, lk, up⟩ := HT.out
    refine leaves_cons (f := 22) (args := #[.pointer (some ⟨lk, 0, none⟩)]) (by simp) (by simp [go_sem]) ?_
    refine (unlock_deferred muLib ⟨lk, 0, none⟩ .returning _ (by exact (HD.2.1.cell 0).trans rfl) (by exact HD.2.1.frozen 0)).mono ?_
    rintro e u' w'' ⟨rfl, rfl, rfl⟩
    exact ⟨_, results_tmp2 (t := 4) (u := 5) rfl _ _ _, .inl ⟨by rw [HE.out]; exact HE0.out, by rw [HE.out]; rfl, HD.drop, HW.out _ _ (only_drewN (only_refl _ _) k) rfl⟩⟩
end Go.Proofs.Ytmemdicdehppjaa
