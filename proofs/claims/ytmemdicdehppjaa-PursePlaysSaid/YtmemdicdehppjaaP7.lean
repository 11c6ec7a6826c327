/- Close of package purse. -/
import Derived.Test.YtmemdicdehppjaaP6
namespace Go.Proofs.Ytmemdicdehppjaa
open Go.RowKit Go.MuLone

/-- Only these blocks, and what is new, have turned. -/
structure Tur (w w' : World) (bs : List Nat) : Prop where
  os : w'.os = w.os
  tape : w'.tape = w.tape
  output : w'.output = w.output
  size : w.heap.size ≤ w'.heap.size
  block : ∀ i, i < w.heap.size → i ∉ bs → w'.heap[i]? = w.heap[i]?
theorem Tur.of {w w' : World} {b : Nat} {bs : List Nat} (h : w.grownBy w' (some b)) (hb : b ∈ bs) : Tur w w' bs :=
  ⟨h.os, h.tape, h.output, h.size, fun i hi hn => h.block i hi (fun e => hn (by rw [Option.some.inj e]; exact hb))⟩
theorem Tur.of0 {w w' : World} {bs : List Nat} (h : w.grownBy w' none) : Tur w w' bs := ⟨h.os, h.tape, h.output, h.size, fun i hi _ => h.block i hi (by simp)⟩
theorem Tur.trans {a b c : World} {bs : List Nat} (h : Tur a b bs) (k : Tur b c bs) : Tur a c bs :=
  ⟨k.os.trans h.os, k.tape.trans h.tape, k.output.trans h.output, Nat.le_trans h.size k.size, fun i hi hn => (k.block i (Nat.lt_of_lt_of_le hi h.size) hn).trans (h.block i hi hn)⟩
theorem Tur.set_ {a w : World} {bs : List Nat} (h : Tur a w bs) {p : Addr} (hp : p.block ∈ bs) (u : Value) : Tur a (w.setCell p u) bs :=
  ⟨h.os, h.tape, h.output, by simpa [World.setCell] using h.size, fun i hi hn => (Below.heap_setCell w p u i (fun e => hn (e ▸ hp))).trans (h.block i hi hn)⟩
theorem Tur.drewN {a w : World} {bs : List Nat} (h : Tur a w bs) (n : Nat) : Tur a (w.drewN n) bs := ⟨h.os, h.tape, h.output, h.size, h.block⟩
theorem Tur.refl (w : World) (bs : List Nat) : Tur w w bs := ⟨rfl, rfl, rfl, Nat.le_refl _, fun _ _ _ => rfl⟩
theorem Tur.blk {w w' : World} {bs : List Nat} {g : Nat} {t : TypeId} {l : List Value} (h : Tur w w' bs) (hB : Blk w g t l) (hg : g ∉ bs) : Blk w' g t l := (h.block g hB.lt hg).trans hB
theorem Tur.below {B : Nat} {a w w' : World} {bs : List Nat} (h : Tur w w' bs) (hb : Below B a w) (hB : B ≤ w.heap.size) (hbs : ∀ b ∈ bs, B ≤ b) : Below B a w' :=
  hb.trans ⟨h.os, h.tape, h.output, h.size, fun i hi => h.block i (Nat.lt_of_lt_of_le hi hB) (fun hm => by have := hbs i hm; omega)⟩
theorem tur_lock {w w1 w2 : World} {lk : Nat} {bs : List Nat} (h : Blk w lk 54 [.int .i32 0, .int .u32 0]) (h1 : Tur (w.setCell ⟨lk, 0, none⟩ (.int .i32 1)) w1 bs) (hb : lk ∉ bs) (h2 : w2 = w1.setCell ⟨lk, 0, none⟩ (.int .i32 0)) : Tur w w2 bs := by
  subst h2
  refine ⟨h1.os, h1.tape, h1.output, ?_, fun i hi hne => ?_⟩
  · have := h1.size
    simpa [World.setCell] using this
  · by_cases e : i = lk
    · subst e
      have k1 : Blk (w.setCell ⟨i, 0, none⟩ (.int .i32 1)) i 54 [.int .i32 1, .int .u32 0] := h.set_ 0 _
      exact ((h1.blk k1 hne).set_ 0 (.int .i32 0)).trans h.symm
    · rw [Below.heap_setCell w1 _ _ i (fun e2 => e e2), h1.block i (by simpa [World.setCell] using hi) hne, Below.heap_setCell w _ _ i (fun e2 => e e2)]

def closeE (p : PS) : Int := if p.closed then 6 else if p.up = none then 1 else if 0 < p.hand then 20 else if 0 < p.cnt then 20 else 0
def shutP (p : PS) : PS := { p with closed := true }
def lessP (p : PS) (n : Int) : PS := { p with parts := p.parts - n, cnt := p.cnt - 1 }
theorem close_ok {p : PS} (hg : p.Good) (h : closeE p = 0) : p.closed = false ∧ (∃ u, p.up = some u) ∧ p.hand = 0 ∧ p.cnt = 0 := by
  unfold closeE at h
  by_cases hc : p.closed = true
  · rw [if_pos hc] at h; cases h
  rw [if_neg hc] at h
  by_cases hu : p.up = none
  · rw [if_pos hu] at h; cases h
  rw [if_neg hu] at h
  by_cases h1 : 0 < p.hand
  · rw [if_pos h1] at h; cases h
  rw [if_neg h1] at h
  by_cases h2 : 0 < p.cnt
  · rw [if_pos h2] at h; cases h
  have := hg.h0; have := hg.c0
  refine ⟨by simpa using hc, ?_, by omega, by omega⟩
  rcases hv : p.up with _ | u
  · exact absurd hv hu
  · exact ⟨u, rfl⟩
def Closed (b : Nat) (p : PS) (pb : Nat) (pp : PS) (w : World) (e : Ending) (w' : World) : Prop :=
  (closeE p ≠ 0 ∧ e = .returned (.int .i64 (closeE p)) ∧ IsP w' b p ∧ w.grownBy w' none) ∨
  (closeE p = 0 ∧ p.up = some pb ∧ e = .returned (.int .i64 0) ∧ IsP w' b (shutP p) ∧ IsP w' pb (lessP pp p.limit) ∧ Tur w w' [b, pb])
set_option maxHeartbeats 4000000 in
theorem close_any (b : Nat) (p : PS) (pb : Nat) (pp : PS) (w : World) (h : IsP w b p) (hg : p.Good) (hp : ∀ u, p.up = some u → u = pb ∧ IsP w pb pp ∧ pp.lk = p.lk ∧ b ≠ pb) (hgp : p.closed = false → ∀ u, p.up = some u → p.limit ≤ pp.parts ∧ pp.parts ≤ 9223372036854775807 ∧ 1 ≤ pp.cnt ∧ pp.cnt ≤ 4611686018427387904) :
    Calls Try.prog 20 #[.pointer (some ⟨b, 0, none⟩)] w (Closed b p pb pp w) := by
  have HH := Lib.hid h
  have HG := Lib.hid hg
  have HT := Lib.hid h.take
  have hlk := h.ne
  have HN := Lib.hid hlk
  have HP := Lib.hid hp
  have HGP := Lib.hid hgp
  have d0 := (cells_of h.1).c0
  have e0 : w.cell? ⟨p.lk, 0, none⟩ = some (.int .i32 0) := by rw [h.2.cell]; rfl
  have f0 : w.frozen? ⟨p.lk, 0, none⟩ = false := h.2.frozen 0
  obtain ⟨d1, _, d2, _, d4, d5, _, d7⟩ := cells_of HT.out.1
  obtain ⟨li, ha, pa, cn, cl, pk, lk, up⟩ := p
  have hc0 := hg.c0; have hh0 := hg.h0
  dsimp only at *
  have HW : Hid (∀ w1 w2, (w.setCell ⟨lk, 0, none⟩ (.int .i32 1)).grownBy w1 none → w2 = w1.setCell ⟨lk, 0, none⟩ (.int .i32 0) → w.grownBy w2 none) := Lib.hid (fun w1 w2 h1 h2 => only_lock0 HH.out.2 h1 h2)
  clear h hg hlk hp hgp
  cases cl
  rotate_left
  · have HE : Hid (closeE ⟨li, ha, pa, cn, true, pk, lk, up⟩ = 6) := Lib.hid (by simp [closeE])
    go_enter_defers Try.func20, Try.ntmps20
    go_upto_region 3 with (go_at_call 21; refine (lock_free muLib ⟨lk, 0, none⟩ _ e0 f0).mono ?_; rintro e w' ⟨rfl, rfl⟩)
    generalize w.setCell ⟨lk, 0, none⟩ (.int .i32 1) = W at *
    go_wp2
    refine leaves_cons (f := 22) (args := #[.pointer (some ⟨lk, 0, none⟩)]) (by simp) (by simp [go_sem]) ?_
    refine (unlock_deferred muLib ⟨lk, 0, none⟩ .returning _ (by exact (HT.out.2.1.cell 0).trans rfl) (by exact HT.out.2.1.frozen 0)).mono ?_
    rintro e u' w'' ⟨rfl, rfl, rfl⟩
    exact ⟨_, results_tmp (t := 2) rfl _ _ _, .inl ⟨by rw [HE.out]; decide, ret_int HE.out.symm, HT.out.drop, HW.out _ _ (only_refl _ _) rfl⟩⟩
  rcases up with _ | u
  · have HE : Hid (closeE ⟨li, ha, pa, cn, false, pk, lk, none⟩ = 1) := Lib.hid (by simp [closeE])
    simp only [Option.map_none] at d7
    go_enter_defers Try.func20, Try.ntmps20
    go_upto_region 3 with (go_at_call 21; refine (lock_free muLib ⟨lk, 0, none⟩ _ e0 f0).mono ?_; rintro e w' ⟨rfl, rfl⟩)
    generalize w.setCell ⟨lk, 0, none⟩ (.int .i32 1) = W at *
    go_wp2
    refine leaves_cons (f := 22) (args := #[.pointer (some ⟨lk, 0, none⟩)]) (by simp) (by simp [go_sem]) ?_
    refine (unlock_deferred muLib ⟨lk, 0, none⟩ .returning _ (by exact (HT.out.2.1.cell 0).trans rfl) (by exact HT.out.2.1.frozen 0)).mono ?_
    rintro e u' w'' ⟨rfl, rfl, rfl⟩
    exact ⟨_, results_tmp (t := 2) rfl _ _ _, .inl ⟨by rw [HE.out]; decide, ret_int HE.out.symm, HT.out.drop, HW.out _ _ (only_refl _ _) rfl⟩⟩
  simp only [Option.map_some] at d7
  by_cases hbusy : 0 < ha ∨ 0 < cn
  · have HE : Hid (closeE ⟨li, ha, pa, cn, false, pk, lk, some u⟩ = 20) := Lib.hid (by
      unfold closeE
      dsimp only
      rw [if_neg (by simp), if_neg (by simp)]
      by_cases h1 : 0 < ha
      · rw [if_pos h1]
      · rw [if_neg h1, if_pos (by omega)])
    by_cases h1 : 0 < ha
    · have e1 : decide (0 < ha) = true := by simpa using h1
      clear hbusy
      go_enter_defers Try.func20, Try.ntmps20
      go_upto_region 3 with (go_at_call 21; refine (lock_free muLib ⟨lk, 0, none⟩ _ e0 f0).mono ?_; rintro e w' ⟨rfl, rfl⟩)
      generalize w.setCell ⟨lk, 0, none⟩ (.int .i32 1) = W at *
      go_wp2
      refine leaves_cons (f := 22) (args := #[.pointer (some ⟨lk, 0, none⟩)]) (by simp) (by simp [go_sem]) ?_
      refine (unlock_deferred muLib ⟨lk, 0, none⟩ .returning _ (by exact (HT.out.2.1.cell 0).trans rfl) (by exact HT.out.2.1.frozen 0)).mono ?_
      rintro e u' w'' ⟨rfl, rfl, rfl⟩
      exact ⟨_, results_tmp (t := 2) rfl _ _ _, .inl ⟨by rw [HE.out]; decide, ret_int HE.out.symm, HT.out.drop, HW.out _ _ (only_refl _ _) rfl⟩⟩
    · have h2 : 0 < cn := by omega
      have e1 : decide (0 < ha) = false := by simpa using h1
      have e2 : decide (0 < cn) = true := by simpa using h2
      clear hbusy
      go_enter_defers Try.func20, Try.ntmps20
      go_upto_region 3 with (go_at_call 21; refine (lock_free muLib ⟨lk, 0, none⟩ _ e0 f0).mono ?_; rintro e w' ⟨rfl, rfl⟩)
      generalize w.setCell ⟨lk, 0, none⟩ (.int .i32 1) = W at *
      go_wp2
      refine leaves_cons (f := 22) (args := #[.pointer (some ⟨lk, 0, none⟩)]) (by simp) (by simp [go_sem]) ?_
      refine (unlock_deferred muLib ⟨lk, 0, none⟩ .returning _ (by exact (HT.out.2.1.cell 0).trans rfl) (by exact HT.out.2.1.frozen 0)).mono ?_
      rintro e u' w'' ⟨rfl, rfl, rfl⟩
      exact ⟨_, results_tmp (t := 2) rfl _ _ _, .inl ⟨by rw [HE.out]; decide, ret_int HE.out.symm, HT.out.drop, HW.out _ _ (only_refl _ _) rfl⟩⟩
  have h1 : ha = 0 := by omega
  have h2 : cn = 0 := by omega
  subst h1 h2
  have HE : Hid (closeE ⟨li, 0, pa, 0, false, pk, lk, some u⟩ = 0) := Lib.hid (by simp [closeE])
  obtain ⟨rfl, hpp, hplk, hbp⟩ := HP.out u rfl
  obtain ⟨g1, g2, g3, g4⟩ := HGP.out rfl u rfl
  have hpl : u ≠ lk := by have := hpp.ne; rw [hplk] at this; exact this
  obtain ⟨pli, pha, ppa, pcn, pcl, ppk, plk, pup⟩ := pp
  dsimp only at *
  subst hplk
  have HPB : Hid (Blk (w.setCell ⟨plk, 0, none⟩ (.int .i32 1)) u 60 (PS.cells ⟨pli, pha, ppa, pcn, pcl, ppk, plk, pup⟩)) := Lib.hid (hpp.1.far (p := ⟨plk, 0, none⟩) hpl _)
  obtain ⟨_, d1l, _⟩ := cells_of HT.out.1
  obtain ⟨_, _, _, k3, k4, _⟩ := cells_of HPB.out
  dsimp only at d1l k3 k4
  have z5 := HT.out.1.frozen 5
  have y3 := HPB.out.frozen 3
  have y4 := HPB.out.frozen 4
  have hl0 := HG.out.l0
  dsimp only at hl0
  have HPL := Lib.hid hpl; have HBP := Lib.hid hbp
  have hbp' : ¬ u = b := fun e => hbp e.symm
  have hw : IntKind.i64.wrap (ppa - li) = ppa - li := by rw [IntKind.wrap_i64]; omega
  clear hpp
  go_enter_defers Try.func20, Try.ntmps20
  go_upto_region 3 with (go_at_call 21; refine (lock_free muLib ⟨plk, 0, none⟩ _ e0 f0).mono ?_; rintro e w' ⟨rfl, rfl⟩)
  have HWT : Hid (∀ w1 w2, Tur (w.setCell ⟨plk, 0, none⟩ (.int .i32 1)) w1 [b, u] → w2 = w1.setCell ⟨plk, 0, none⟩ (.int .i32 0) → Tur w w2 [b, u]) := Lib.hid (fun w1 w2 h1 h2 => tur_lock HH.out.2 h1 (by simp; exact ⟨fun e => HN.out e.symm, fun e => HPL.out e.symm⟩) h2)
  clear HH HW HP HGP
  generalize w.setCell ⟨plk, 0, none⟩ (.int .i32 1) = W at *
  go_upto_region 10 with (fail)
  have H5b : Blk (W.setCell ⟨b, 5, none⟩ (.bool true)) b 60 (PS.cells ⟨li, 0, pa, 0, true, pk, plk, some u⟩) := HT.out.1.set_ 5 _
  have H5l : Blk (W.setCell ⟨b, 5, none⟩ (.bool true)) plk 54 [.int .i32 1, .int .u32 0] := HT.out.2.1.far (p := ⟨b, 5, none⟩) (fun e => HN.out e.symm) _
  have H5u : Blk (W.setCell ⟨b, 5, none⟩ (.bool true)) u 60 (PS.cells ⟨pli, pha, ppa, pcn, pcl, ppk, plk, pup⟩) := HPB.out.far (p := ⟨b, 5, none⟩) (fun e => HBP.out e.symm) _
  have T5 : Hid (Tur W (W.setCell ⟨b, 5, none⟩ (.bool true)) [b, u]) := Lib.hid ((Tur.refl W [b, u]).set_ (p := ⟨b, 5, none⟩) (by simp) _)
  clear d0 d1 d5 d7 d2 d4 d1l k3 k4 z5 y3 y4 e0 f0 HT HPB
  generalize W.setCell ⟨b, 5, none⟩ (.bool true) = W5 at *
  obtain ⟨_, d1l, _, _, _, _, _, d7⟩ := cells_of H5b
  obtain ⟨_, _, _, k3, k4, _⟩ := cells_of H5u
  dsimp only [Option.map_some] at d1l d7 k3 k4
  have y3 := H5u.frozen 3
  have H6u : Blk (W5.setCell ⟨u, 3, none⟩ (.int .i64 (ppa - li))).drew u 60 (PS.cells ⟨pli, pha, ppa - li, pcn, pcl, ppk, plk, pup⟩) := H5u.set_ 3 _
  have H6b : Blk (W5.setCell ⟨u, 3, none⟩ (.int .i64 (ppa - li))).drew b 60 (PS.cells ⟨li, 0, pa, 0, true, pk, plk, some u⟩) := H5b.far (p := ⟨u, 3, none⟩) HBP.out _
  have H6l : Blk (W5.setCell ⟨u, 3, none⟩ (.int .i64 (ppa - li))).drew plk 54 [.int .i32 1, .int .u32 0] := H5l.far (p := ⟨u, 3, none⟩) (fun e => HPL.out e.symm) _
  have T6 : Hid (Tur W (W5.setCell ⟨u, 3, none⟩ (.int .i64 (ppa - li))).drew [b, u]) := Lib.hid ((T5.out.set_ (p := ⟨u, 3, none⟩) (by simp) _).drewN 1)
  have G6u := Lib.hid H6u; have G6b := Lib.hid H6b; have G6l := Lib.hid H6l
  clear H5b H5l H5u H6u H6b H6l T5
  go_region
  generalize (W5.setCell ⟨u, 3, none⟩ (.int .i64 (ppa - li))).drew = W6 at *
  clear d1l d7 k3 k4 y3
  obtain ⟨_, _, _, _, _, _, _, d7⟩ := cells_of G6b.out
  obtain ⟨_, _, _, _, k4, _⟩ := cells_of G6u.out
  dsimp only [Option.map_some] at d7 k4
  have y4 := G6u.out.frozen 4
  have H7u : Blk (W6.setCell ⟨u, 4, none⟩ (.int .i64 (pcn - 1))) u 60 (PS.cells ⟨pli, pha, ppa - li, pcn - 1, pcl, ppk, plk, pup⟩) := G6u.out.set_ 4 _
  have H7b : Blk (W6.setCell ⟨u, 4, none⟩ (.int .i64 (pcn - 1))) b 60 (PS.cells ⟨li, 0, pa, 0, true, pk, plk, some u⟩) := G6b.out.far (p := ⟨u, 4, none⟩) HBP.out _
  have H7l : Blk (W6.setCell ⟨u, 4, none⟩ (.int .i64 (pcn - 1))) plk 54 [.int .i32 1, .int .u32 0] := G6l.out.far (p := ⟨u, 4, none⟩) (fun e => HPL.out e.symm) _
  have T7 : Hid (Tur W (W6.setCell ⟨u, 4, none⟩ (.int .i64 (pcn - 1))) [b, u]) := Lib.hid (T6.out.set_ (p := ⟨u, 4, none⟩) (by simp) _)
  have G7u := Lib.hid H7u; have G7b := Lib.hid H7b; have G7l := Lib.hid H7l
  clear H7u H7b H7l
  go_wp2
  refine leaves_cons (f := 22) (args := #[.pointer (some ⟨plk, 0, none⟩)]) (by simp) (by simp [go_sem]) ?_
  refine (unlock_deferred muLib ⟨plk, 0, none⟩ .returning _ (by exact (G7l.out.cell 0).trans rfl) (by exact G7l.out.frozen 0)).mono ?_
  rintro e u' w'' ⟨rfl, rfl, rfl⟩
  exact ⟨_, results_tmp (t := 2) rfl _ _ _, .inr ⟨HE.out, rfl, rfl, ⟨G7b.out.far (p := ⟨plk, 0, none⟩) HN.out _, G7l.out.set_ 0 _⟩, ⟨G7u.out.far (p := ⟨plk, 0, none⟩) HPL.out _, G7l.out.set_ 0 _⟩, HWT.out _ _ T7.out rfl⟩⟩
end Go.Proofs.Ytmemdicdehppjaa
