/- New, Take, Give, Used, Free, Peak, Limit of package purse. -/
import Derived.Test.YtmemdicdehppjaaP0
namespace Go.Proofs.Ytmemdicdehppjaa
open Go.RowKit Go.MuLone

/-- What lies beside a purse's own block while its lock is held: the lock's block says 1. -/
def Held (w : World) (b : Nat) (p : PS) : Prop := Blk w b 60 p.cells ∧ Blk w p.lk 54 [.int .i32 1, .int .u32 0] ∧ b ≠ p.lk
theorem IsP.ne {w : World} {b : Nat} {p : PS} (h : IsP w b p) : b ≠ p.lk := h.1.ne h.2 (by decide)
theorem IsP.take {w : World} {b : Nat} {p : PS} (h : IsP w b p) : Held (w.setCell ⟨p.lk, 0, none⟩ (.int .i32 1)) b p :=
  ⟨h.1.far (p := ⟨p.lk, 0, none⟩) h.ne _, h.2.set_ 0 _, h.ne⟩
theorem Held.drop {w : World} {b : Nat} {p : PS} (h : Held w b p) : IsP (w.setCell ⟨p.lk, 0, none⟩ (.int .i32 0)) b p :=
  ⟨h.1.far (p := ⟨p.lk, 0, none⟩) h.2.2 _, h.2.1.set_ 0 _⟩
theorem IsP.grown {w w' : World} {b : Nat} {p : PS} (h : IsP w b p) {row : Option Nat} (hg : w.grownBy w' row) (h1 : some b ≠ row) (h2 : some p.lk ≠ row) : IsP w' b p := ⟨h.1.grown hg h1, h.2.grown hg h2⟩
/-- From before the lock was taken to behind its being given back: only block b, and what is new, has turned. -/
theorem only_lock {w w1 w2 : World} {b lk : Nat} (h : Blk w lk 54 [.int .i32 0, .int .u32 0]) (h1 : (w.setCell ⟨lk, 0, none⟩ (.int .i32 1)).grownBy w1 (some b)) (hb : b ≠ lk) (h2 : w2 = w1.setCell ⟨lk, 0, none⟩ (.int .i32 0)) : w.grownBy w2 (some b) := by
  subst h2
  refine ⟨h1.os, h1.tape, h1.output, ?_, fun i hi hne => ?_⟩
  · have := h1.size
    simpa [World.setCell] using this
  · by_cases e : i = lk
    · subst e
      have k1 : Blk (w.setCell ⟨i, 0, none⟩ (.int .i32 1)) i 54 [.int .i32 1, .int .u32 0] := h.set_ 0 _
      have k2 := (k1.grown h1 hne).set_ 0 (.int .i32 0)
      exact k2.trans h.symm
    · rw [Below.heap_setCell w1 _ _ i (fun e2 => e e2), h1.block i (by simpa [World.setCell] using hi) hne, Below.heap_setCell w _ _ i (fun e2 => e e2)]

theorem only_lock0 {w w1 w2 : World} {lk : Nat} (h : Blk w lk 54 [.int .i32 0, .int .u32 0]) (h1 : (w.setCell ⟨lk, 0, none⟩ (.int .i32 1)).grownBy w1 none) (h2 : w2 = w1.setCell ⟨lk, 0, none⟩ (.int .i32 0)) : w.grownBy w2 none := by
  subst h2
  refine ⟨h1.os, h1.tape, h1.output, ?_, fun i hi hne => ?_⟩
  · have := h1.size
    simpa [World.setCell] using this
  · by_cases e : i = lk
    · subst e
      have k1 : Blk (w.setCell ⟨i, 0, none⟩ (.int .i32 1)) i 54 [.int .i32 1, .int .u32 0] := h.set_ 0 _
      have k2 := (k1.grown h1 hne).set_ 0 (.int .i32 0)
      exact k2.trans h.symm
    · rw [Below.heap_setCell w1 _ _ i (fun e2 => e e2), h1.block i (by simpa [World.setCell] using hi) hne, Below.heap_setCell w _ _ i (fun e2 => e e2)]

def newP (limit : Int) (lk : Nat) : PS := ⟨limit, 0, 0, 0, false, 0, lk, none⟩
theorem newP_good {limit : Int} {lk : Nat} (h0 : 0 ≤ limit) (h1 : limit ≤ 9223372036854775807) : (newP limit lk).Good := by
  constructor <;> simp [newP] <;> omega
/-- What New leaves. -/
def Newed (limit : Int) (w : World) (e : Ending) (w' : World) : Prop :=
  (limit < 0 ∧ e = .returned (.tuple #[.pointer none, .int .i64 1]) ∧ w' = w) ∨
  (0 ≤ limit ∧ ∃ b lk, e = .returned (.tuple #[.pointer (some ⟨b, 0, none⟩), .int .i64 0]) ∧ IsP w' b (newP limit lk) ∧ w.heap.size ≤ b ∧ w.heap.size ≤ lk ∧ Below w.heap.size w w')
set_option maxHeartbeats 1000000 in
theorem new_any (limit : Int) (w : World) : Calls Try.prog 8 #[.int .i64 limit] w (Newed limit w) := by
  by_cases h : limit < 0
  · go_enter Try.func8, Try.ntmps8
    go_wp2
    go_ret2
    exact .inl ⟨h, rfl, rfl⟩
  · have h1 : 0 ≤ limit := by omega
    have HL := Blk.new w 54 [.int .i32 0, .int .u32 0]
    have HP := Blk.new (w.alloc (.cells [.int .i32 0, .int .u32 0].toArray 54)) 60 (newP limit w.heap.size).cells
    have HL2 := Lib.hid (HL.alloc (.cells (newP limit w.heap.size).cells.toArray 60))
    have HP2 := Lib.hid HP
    have HB := Lib.hid (below2 w (.cells [.int .i32 0, .int .u32 0].toArray 54) (.cells (newP limit w.heap.size).cells.toArray 60))
    have hsz : (w.alloc (.cells [Value.int .i32 0, .int .u32 0].toArray 54)).heap.size = w.heap.size + 1 := by simp
    rw [hsz] at HP2
    have HS := Lib.hid hsz
    clear HL HP hsz
    go_enter Try.func8, Try.ntmps8
    go_wp2
    go_ret2
    refine .inr ⟨h1, w.heap.size + 1, w.heap.size, rfl, ⟨HP2.out, HL2.out⟩, by omega, by omega, HB.out⟩

/-- What Take leaves of a purse. -/
def takeP (p : PS) (n : Int) : PS := if askE p n = 0 then { p with hand := p.hand + n, peak := max p.peak (p.hand + n + p.parts) } else p
theorem ask_ok {p : PS} {n : Int} (h : askE p n = 0) : p.closed = false ∧ 0 ≤ n ∧ n ≤ p.limit - (p.hand + p.parts) := by
  unfold askE at h
  by_cases hc : p.closed = true
  · rw [if_pos hc] at h; cases h
  rw [if_neg hc] at h
  by_cases h0 : n < 0
  · rw [if_pos h0] at h; cases h
  rw [if_neg h0] at h
  by_cases h1 : p.limit - (p.hand + p.parts) < n
  · rw [if_pos h1] at h; cases h
  exact ⟨by simpa using hc, by omega, by omega⟩
theorem takeP_good {p : PS} (hg : p.Good) (n : Int) : (takeP p n).Good := by
  unfold takeP
  by_cases h : askE p n = 0
  · rw [if_pos h]
    obtain ⟨_, h1, h2⟩ := ask_ok h
    obtain ⟨l0, l1, h0, p0, o1, c0, k0, k1⟩ := hg
    constructor <;> simp only <;> omega
  · rw [if_neg h]; exact hg
set_option maxHeartbeats 2000000 in
theorem take_any (b : Nat) (p : PS) (n : Int) (w : World) (h : IsP w b p) (hg : p.Good) (hn : -9223372036854775808 ≤ n ∧ n ≤ 9223372036854775807) :
    Calls Try.prog 10 #[.pointer (some ⟨b, 0, none⟩), .int .i64 n] w fun e w' => e = .returned (.int .i64 (askE p n)) ∧ IsP w' b (takeP p n) ∧ w.grownBy w' (some b) := by
  have HH := Lib.hid h
  have HG := Lib.hid hg
  have HT := Lib.hid h.take
  have hlk := h.ne
  have HN := Lib.hid hlk
  have d0 := (cells_of h.1).c0
  have e0 : w.cell? ⟨p.lk, 0, none⟩ = some (.int .i32 0) := by rw [h.2.cell]; rfl
  have f0 : w.frozen? ⟨p.lk, 0, none⟩ = false := h.2.frozen 0
  have d1 := (cells_of HT.out.1).c0
  obtain ⟨li, ha, pa, cn, cl, pk, lk, up⟩ := p
  dsimp only at *
  clear h hg hlk
  have HW : Hid (∀ w1 w2, (w.setCell ⟨lk, 0, none⟩ (.int .i32 1)).grownBy w1 (some b) → w2 = w1.setCell ⟨lk, 0, none⟩ (.int .i32 0) → w.grownBy w2 (some b)) := Lib.hid (fun w1 w2 h1 h2 => only_lock HH.out.2 h1 HN.out h2)
  clear HH
  obtain ⟨E, hE⟩ : ∃ E, askE ⟨li, ha, pa, cn, cl, pk, lk, up⟩ n = E := ⟨_, rfl⟩
  have HE := Lib.hid hE
  go_enter_defers Try.func10, Try.ntmps10
  go_upto_region 3 with (go_at_call 21; refine (lock_free muLib ⟨lk, 0, none⟩ _ e0 f0).mono ?_; rintro e w' ⟨rfl, rfl⟩)
  generalize w.setCell ⟨lk, 0, none⟩ (.int .i32 1) = W at *
  have hask := asked_any b ⟨li, ha, pa, cn, cl, pk, lk, up⟩ n W HT.out.1 HG.out
  rw [hE] at hask
  by_cases h0 : E = 0
  · rw [h0] at hask hE
    obtain ⟨hc, hn0, hn1⟩ := ask_ok hE
    have hsum : ha + n ≤ 9223372036854775807 := by have := HG.out.l1; have := HG.out.p0; dsimp only at *; omega
    have hsum0 : -9223372036854775808 ≤ ha + n := by have := HG.out.h0; dsimp only at *; omega
    dsimp only at hc hn1
    have d2 := (cells_of HT.out.1).c2
    have z2 := HT.out.1.frozen 2
    have HT2 : Hid (∀ k, Blk ((W.drewN k).setCell ⟨b, 2, none⟩ (.int .i64 (ha + n))) b 60 (PS.cells ⟨li, ha + n, pa, cn, cl, pk, lk, up⟩)) := Lib.hid (fun k => (blk_drewN HT.out.1 k).set_ 2 _)
    have HG2 : Hid (PS.Good ⟨li, ha + n, pa, cn, cl, pk, lk, up⟩) := Lib.hid (by
      obtain ⟨l0, l1, h0, p0, o1, c0, k0, k1⟩ := HG.out
      dsimp only at *
      constructor <;> dsimp only <;> omega)
    have HTP : Hid (takeP ⟨li, ha, pa, cn, cl, pk, lk, up⟩ n = ⟨li, ha + n, pa, cn, cl, max pk (ha + n + pa), lk, up⟩) := Lib.hid (by unfold takeP; rw [if_pos hE])
    dsimp only at d2
    have HE0 := Lib.hid h0
    clear hE hc hn1 h0
    go_upto_region 7 with (go_at_call 23; refine hask.mono ?_; rintro e w' ⟨rfl, k, rfl⟩)
    have hr := risen_any b _ _ (HT2.out k) HG2.out
    go_wp2_with (go_at_call 24; refine hr.mono ?_; rintro e w3 ⟨rfl, hb3, hg3⟩)
    have hgW := only_trans (only_setCell (p := ⟨b, 2, none⟩) (only_drewN (only_refl W (some b)) k) (.inl rfl) (.int .i64 (ha + n))) hg3
    have HD : Held w3 b ⟨li, ha + n, pa, cn, cl, max pk (ha + n + pa), lk, up⟩ := ⟨hb3, HT.out.2.1.grown hgW (fun e => HN.out (Option.some.inj e).symm), HN.out⟩
    refine leaves_cons (f := 22) (args := #[.pointer (some ⟨lk, 0, none⟩)]) (by simp) (by simp [go_sem]) ?_
    refine (unlock_deferred muLib ⟨lk, 0, none⟩ .returning _ (by rw [HD.2.1.cell]; rfl) (HD.2.1.frozen 0)).mono ?_
    rintro e u' w'' ⟨rfl, rfl, rfl⟩
    exact ⟨_, results_tmp (t := 4) rfl _ _ _, ret_int (HE.out.trans HE0.out).symm, by rw [HTP.out]; exact HD.drop, HW.out _ _ hgW rfl⟩
  · have e1 : (E != 0) = true := by simpa using h0
    have HTP : Hid (takeP ⟨li, ha, pa, cn, cl, pk, lk, up⟩ n = ⟨li, ha, pa, cn, cl, pk, lk, up⟩) := Lib.hid (by unfold takeP; rw [if_neg (by rw [hE]; exact h0)])
    clear hE h0
    go_wp2_with (go_at_call 23; refine hask.mono ?_; rintro e w' ⟨rfl, k, rfl⟩)
    have HD : Held (W.drewN k) b ⟨li, ha, pa, cn, cl, pk, lk, up⟩ := HT.out
    refine leaves_cons (f := 22) (args := #[.pointer (some ⟨lk, 0, none⟩)]) (by simp) (by simp [go_sem]) ?_
    refine (unlock_deferred muLib ⟨lk, 0, none⟩ .returning _ (by rw [HD.2.1.cell]; rfl) (HD.2.1.frozen 0)).mono ?_
    rintro e u' w'' ⟨rfl, rfl, rfl⟩
    exact ⟨_, results_tmp (t := 4) rfl _ _ _, ret_int HE.out.symm, by rw [HTP.out]; exact HD.drop, HW.out _ _ (only_drewN (only_refl _ _) k) rfl⟩

/-- What Give answers, and leaves. -/
def giveE (p : PS) (n : Int) : Int := if p.closed then 6 else if n < 0 then 1 else if p.hand < n then 20 else 0
def giveP (p : PS) (n : Int) : PS := if giveE p n = 0 then { p with hand := p.hand - n } else p
theorem give_ok {p : PS} {n : Int} (h : giveE p n = 0) : p.closed = false ∧ 0 ≤ n ∧ n ≤ p.hand := by
  unfold giveE at h
  by_cases hc : p.closed = true
  · rw [if_pos hc] at h; cases h
  rw [if_neg hc] at h
  by_cases h0 : n < 0
  · rw [if_pos h0] at h; cases h
  rw [if_neg h0] at h
  by_cases h1 : p.hand < n
  · rw [if_pos h1] at h; cases h
  exact ⟨by simpa using hc, by omega, by omega⟩
theorem giveP_good {p : PS} (hg : p.Good) (n : Int) : (giveP p n).Good := by
  unfold giveP
  by_cases h : giveE p n = 0
  · rw [if_pos h]
    obtain ⟨_, h1, h2⟩ := give_ok h
    obtain ⟨l0, l1, h0, p0, o1, c0, k0, k1⟩ := hg
    constructor <;> simp only <;> omega
  · rw [if_neg h]; exact hg
set_option maxHeartbeats 2000000 in
theorem give_any (b : Nat) (p : PS) (n : Int) (w : World) (h : IsP w b p) (hg : p.Good) (hn : -9223372036854775808 ≤ n ∧ n ≤ 9223372036854775807) :
    Calls Try.prog 9 #[.pointer (some ⟨b, 0, none⟩), .int .i64 n] w fun e w' => e = .returned (.int .i64 (giveE p n)) ∧ IsP w' b (giveP p n) ∧ w.grownBy w' (some b) := by
  have HH := Lib.hid h
  have HG := Lib.hid hg
  have HT := Lib.hid h.take
  have hlk := h.ne
  have HN := Lib.hid hlk
  have d0 := (cells_of h.1).c0
  have e0 : w.cell? ⟨p.lk, 0, none⟩ = some (.int .i32 0) := by rw [h.2.cell]; rfl
  have f0 : w.frozen? ⟨p.lk, 0, none⟩ = false := h.2.frozen 0
  have d1 := (cells_of HT.out.1).c0
  have d2 := (cells_of HT.out.1).c2
  have d5 := (cells_of HT.out.1).c5
  have z2 := HT.out.1.frozen 2
  obtain ⟨li, ha, pa, cn, cl, pk, lk, up⟩ := p
  obtain ⟨l0, l1, h0, p0, o1, c0, k0, k1⟩ := hg
  dsimp only at *
  clear h hlk
  have HW : Hid (∀ w1 w2, (w.setCell ⟨lk, 0, none⟩ (.int .i32 1)).grownBy w1 (some b) → w2 = w1.setCell ⟨lk, 0, none⟩ (.int .i32 0) → w.grownBy w2 (some b)) := Lib.hid (fun w1 w2 h1 h2 => only_lock HH.out.2 h1 HN.out h2)
  clear HH
  have same : ∀ E, Hid (giveE ⟨li, ha, pa, cn, cl, pk, lk, up⟩ n = E ∧ E ≠ 0) → Hid (giveP ⟨li, ha, pa, cn, cl, pk, lk, up⟩ n = ⟨li, ha, pa, cn, cl, pk, lk, up⟩) := fun E hE => Lib.hid (by unfold giveP; rw [if_neg (by rw [hE.out.1]; exact hE.out.2)])
  have SM := Lib.hid same
  clear same
  cases cl
  rotate_left
  · have HE : Hid (giveE ⟨li, ha, pa, cn, true, pk, lk, up⟩ n = 6 ∧ (6 : Int) ≠ 0) := Lib.hid (by simp [giveE])
    go_enter_defers Try.func9, Try.ntmps9
    go_upto_region 3 with (go_at_call 21; refine (lock_free muLib ⟨lk, 0, none⟩ _ e0 f0).mono ?_; rintro e w' ⟨rfl, rfl⟩)
    generalize w.setCell ⟨lk, 0, none⟩ (.int .i32 1) = W at *
    go_wp2
    refine leaves_cons (f := 22) (args := #[.pointer (some ⟨lk, 0, none⟩)]) (by simp) (by simp [go_sem]) ?_
    refine (unlock_deferred muLib ⟨lk, 0, none⟩ .returning _ (by rw [HT.out.2.1.cell]; rfl) (HT.out.2.1.frozen 0)).mono ?_
    rintro e u' w'' ⟨rfl, rfl, rfl⟩
    exact ⟨_, results_tmp (t := 4) rfl _ _ _, ret_int HE.out.1.symm, by rw [(SM.out _ HE).out]; exact HT.out.drop, HW.out _ _ (only_refl _ _) rfl⟩
  by_cases n0 : n < 0
  · have HE : Hid (giveE ⟨li, ha, pa, cn, false, pk, lk, up⟩ n = 1 ∧ (1 : Int) ≠ 0) := Lib.hid (by simp [giveE, n0])
    go_enter_defers Try.func9, Try.ntmps9
    go_upto_region 3 with (go_at_call 21; refine (lock_free muLib ⟨lk, 0, none⟩ _ e0 f0).mono ?_; rintro e w' ⟨rfl, rfl⟩)
    generalize w.setCell ⟨lk, 0, none⟩ (.int .i32 1) = W at *
    go_wp2
    refine leaves_cons (f := 22) (args := #[.pointer (some ⟨lk, 0, none⟩)]) (by simp) (by simp [go_sem]) ?_
    refine (unlock_deferred muLib ⟨lk, 0, none⟩ .returning _ (by rw [HT.out.2.1.cell]; rfl) (HT.out.2.1.frozen 0)).mono ?_
    rintro e u' w'' ⟨rfl, rfl, rfl⟩
    exact ⟨_, results_tmp (t := 4) rfl _ _ _, ret_int HE.out.1.symm, by rw [(SM.out _ HE).out]; exact HT.out.drop, HW.out _ _ (only_refl _ _) rfl⟩
  by_cases n1 : ha < n
  · have HE : Hid (giveE ⟨li, ha, pa, cn, false, pk, lk, up⟩ n = 20 ∧ (20 : Int) ≠ 0) := Lib.hid (by simp [giveE, n0, n1])
    go_enter_defers Try.func9, Try.ntmps9
    go_upto_region 3 with (go_at_call 21; refine (lock_free muLib ⟨lk, 0, none⟩ _ e0 f0).mono ?_; rintro e w' ⟨rfl, rfl⟩)
    generalize w.setCell ⟨lk, 0, none⟩ (.int .i32 1) = W at *
    go_wp2
    refine leaves_cons (f := 22) (args := #[.pointer (some ⟨lk, 0, none⟩)]) (by simp) (by simp [go_sem]) ?_
    refine (unlock_deferred muLib ⟨lk, 0, none⟩ .returning _ (by rw [HT.out.2.1.cell]; rfl) (HT.out.2.1.frozen 0)).mono ?_
    rintro e u' w'' ⟨rfl, rfl, rfl⟩
    exact ⟨_, results_tmp (t := 4) rfl _ _ _, ret_int HE.out.1.symm, by rw [(SM.out _ HE).out]; exact HT.out.drop, HW.out _ _ (only_refl _ _) rfl⟩
  have HE : Hid (giveE ⟨li, ha, pa, cn, false, pk, lk, up⟩ n = 0) := Lib.hid (by simp [giveE, n0, n1])
  have HTP : Hid (giveP ⟨li, ha, pa, cn, false, pk, lk, up⟩ n = ⟨li, ha - n, pa, cn, false, pk, lk, up⟩) := Lib.hid (by unfold giveP; rw [if_pos HE.out])
  have HD : Hid (Held ((w.setCell ⟨lk, 0, none⟩ (.int .i32 1)).setCell ⟨b, 2, none⟩ (.int .i64 (ha - n))) b ⟨li, ha - n, pa, cn, false, pk, lk, up⟩) := Lib.hid
    ⟨HT.out.1.set_ 2 _, HT.out.2.1.far (p := ⟨b, 2, none⟩) (fun e => HN.out e.symm) _, HN.out⟩
  go_enter_defers Try.func9, Try.ntmps9
  go_upto_region 3 with (go_at_call 21; refine (lock_free muLib ⟨lk, 0, none⟩ _ e0 f0).mono ?_; rintro e w' ⟨rfl, rfl⟩)
  generalize w.setCell ⟨lk, 0, none⟩ (.int .i32 1) = W at *
  go_wp2
  refine leaves_cons (f := 22) (args := #[.pointer (some ⟨lk, 0, none⟩)]) (by simp) (by simp [go_sem]) ?_
  refine (unlock_deferred muLib ⟨lk, 0, none⟩ .returning _ (by rw [HD.out.2.1.cell]; rfl) (HD.out.2.1.frozen 0)).mono ?_
  rintro e u' w'' ⟨rfl, rfl, rfl⟩
  exact ⟨_, results_tmp (t := 4) rfl _ _ _, ret_int HE.out.symm, by rw [HTP.out]; exact HD.out.drop, HW.out _ _ (only_setCell (only_refl _ _) (.inl rfl) _) rfl⟩
end Go.Proofs.Ytmemdicdehppjaa
