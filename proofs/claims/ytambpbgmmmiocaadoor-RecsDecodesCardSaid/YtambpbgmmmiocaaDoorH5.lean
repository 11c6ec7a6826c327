/- RecsEncodes: the law's text answers true. -/
import Derived.Test.YtambpbgmmmiocaaDoorH2
import Derived.Test.YtambpbgmmmiocaaDoorH4
namespace Go.Proofs.YtambpbgmmmiocaaDoor
open Go.RowKit

theorem Reads.head {w : World} {k : IntKind} {A : Option Addr} {xs ys : List Int} (h : Reads w k A (xs ++ ys)) : Reads w k A xs := fun hn => by
  obtain ⟨b, o, e, hc⟩ := h (by simp; omega)
  exact ⟨b, o, e, fun j x hx => hc j x (by rw [List.getElem?_append_left (List.getElem?_eq_some_iff.1 hx).1]; exact hx)⟩
theorem rows_cap {w : World} {base : Nat} {e : TypeId} {size n c : Nat} {A : Option Addr} {xs : List Value} (h : w.ownsRow base e size (.slice A n c) n xs) : n ≤ c := by
  rcases h.2 with ⟨hv, h0⟩ | ⟨g, cap, cur, hv, _, _, hnc, _⟩
  · cases hv; omega
  · cases hv; exact hnc
/-- Rows of blocks that stay. -/
theorem rows_stay {w w' : World} {base : Nat} {e : TypeId} {size n : Nat} {v : Value} {xs : List Value} (h : w.ownsRow base e size v n xs) (hk : ∀ g, v.ownBlock = some g → w'.heap[g]? = w.heap[g]?) : w'.ownsRow base e size v n xs := by
  refine ⟨h.1, ?_⟩
  rcases h.2 with hn | ⟨g, cap, cur, rfl, hb, hh, rest⟩
  · exact .inl hn
  · exact .inr ⟨g, cap, cur, rfl, hb, (hk g rfl).trans hh, rest⟩
theorem far_older {w1 w2 : World} {b1 b2 : Nat} {e : TypeId} {x y : Value} {xs ys : List Value} (hx : Owns w1 b1 e x xs) (hy : Owns w2 b2 e y ys) (h : w1.heap.size ≤ b2) : Far x y := by
  rcases hv : x.ownBlock with _ | g
  · exact .inl hv
  · refine .inr fun e => ?_
    have h1 := (hx.lt hv).2
    have h2 := (hy.lt (e.symm.trans hv)).1
    omega
theorem Far.ne {a b : Value} {g : Nat} (h : Far a b) (hb : b.ownBlock = some g) : some g ≠ a.ownBlock := by
  rcases h with h | h
  · rw [h]; simp
  · intro e; exact h (by rw [hb, e])
theorem rows_read {w : World} {base : Nat} {e : TypeId} {size n c : Nat} {A : Option Addr} {k : IntKind} {l : List Int} (h : w.ownsRow base e size (.slice A n c) n (nums k l)) : Reads w k A l := by
  obtain ⟨_, _, he, hr, _⟩ := rows_reads h
  cases he
  exact hr
theorem Owns.stay {w w' : World} {base : Nat} {e : TypeId} {v : Value} {xs : List Value} (h : Owns w base e v xs) (hk : ∀ g, v.ownBlock = some g → w'.heap[g]? = w.heap[g]?) : Owns w' base e v xs := rows_stay h hk
theorem enc_ok {kind place : Int} {n : Nat} {block : Int} (h : encE kind place n block = 0) : 1 ≤ kind ∧ kind ≤ 255 ∧ 0 ≤ place ∧ fitV block ≠ 0 ∧ n ≠ 0 ∧ (n : Int) ≤ fitV block := by
  unfold encE at h
  by_cases h1 : kind < 1
  · rw [if_pos h1] at h; cases h
  rw [if_neg h1] at h
  by_cases h2 : 255 < kind
  · rw [if_pos h2] at h; cases h
  rw [if_neg h2] at h
  by_cases h3 : place < 0
  · rw [if_pos h3] at h; cases h
  rw [if_neg h3] at h
  by_cases h4 : fitV block = 0
  · rw [if_pos h4] at h; cases h
  rw [if_neg h4] at h
  by_cases h5 : n = 0
  · rw [if_pos h5] at h; cases h
  rw [if_neg h5] at h
  by_cases h6 : fitV block < n
  · rw [if_pos h6] at h; cases h
  exact ⟨by omega, by omega, by omega, h4, h5, by omega⟩
theorem encV_length {kind place : Int} {ws : List Int} {n : Nat} {block : Int} (h : encE kind place n block = 0) (hl : ws.length = 4 * n) : (encV kind place ws n block.toNat).length = block.toNat := by
  obtain ⟨_, _, _, h4, _, h6⟩ := enc_ok h
  obtain ⟨b0, b1, b2, b3⟩ := fit_pos h4
  unfold encV encPre
  simp only [List.length_append, encHead_length, encWords_length, le_length, hl, zeros, List.length_replicate]
  omega
theorem encL_length_le {kind place : Int} {ws : List Int} {n : Nat} {block : Int} (hl : ws.length = 4 * n) : (encL kind place ws n block).length ≤ 65536 := by
  unfold encL
  by_cases h : encE kind place n block = 0
  · rw [if_pos h, encV_length h hl]
    obtain ⟨_, _, _, h4, _, h6⟩ := enc_ok h
    obtain ⟨b0, b1, b2, b3⟩ := fit_pos h4
    omega
  · rw [if_neg h]; simp
theorem encL_bytes {kind place : Int} {ws : List Int} {n : Nat} {block : Int} : IsBytes (encL kind place ws n block) := by
  unfold encL
  by_cases h : encE kind place n block = 0
  · rw [if_pos h]
    obtain ⟨h1, h2, _⟩ := enc_ok h
    exact (encPre_bytes h1 h2).app (le_bytes _ _)
  · rw [if_neg h]; intro x hx; simp at hx
set_option maxRecDepth 100000 in
set_option maxHeartbeats 4000000 in
theorem recsEncodes_any (kind place : Int) (A : Option Addr) (n c : Nat) (ws : List Int) (block : Int) (w : World) (hM : Magic w) (hT : Halves w) (hk : -9223372036854775808 ≤ kind ∧ kind ≤ 9223372036854775807) (hp : -9223372036854775808 ≤ place ∧ place ≤ 9223372036854775807)
    (hb : -9223372036854775808 ≤ block ∧ block ≤ 9223372036854775807) (hn : (n + 2) * 32 ≤ 140737488355328) (hr : Reads w .u64 A ws) (hl : ws.length = n * 4) (hw : ∀ x ∈ ws, 0 ≤ x ∧ x ≤ 18446744073709551615) :
    Calls Tryd.prog 5 #[.agg #[.int .i64 kind, .int .i64 place, .slice A n c, .int .i64 block]] w fun e w' => e = .returned (.bool true) ∧ Below w.heap.size w w' := by
  have HR := Lib.hid hr
  have HW := Lib.hid hw
  have HL := Lib.hid hl
  have HM := Lib.hid hM
  have HT := Lib.hid hT
  have HKP := Lib.hid (And.intro hk (And.intro hp hb))
  clear hr hw hl hM hT hk hp hb
  go_enter Tryd.func5, Tryd.ntmps5
  go_upto_region 5 with (fail)
  have HB0 := Lib.hid (below1 w (.cells #[.int .i64 kind, .int .i64 place, .slice A n c, .int .i64 block] 34))
  generalize w.alloc (.cells #[.int .i64 kind, .int .i64 place, .slice A n c, .int .i64 block] 34) = W0 at *
  have hcall := roomy_any A n c ws W0 (HR.out.below HB0.out) HL.out hn
  have hn0 : (0 : Int) ≤ (n : Int) := by omega
  have H4 : Hid (ws.length = 4 * n) := Lib.hid (by rw [HL.out]; omega)
  go_upto_region 6 with (go_at_call 14; refine hcall.mono ?_; rintro e W1 ⟨v7, rfl, o7, b1⟩)
  obtain ⟨A7, c7, rfl, r7, e7⟩ := rows_reads o7
  have hc7 : (n : Int) ≤ (c7 : Int) := by have := rows_cap o7; omega
  have HB1 := Lib.hid (below_self HB0.out b1)
  have O7 := Lib.hid (rows_more o7 HB0.out.size)
  have R7 := Lib.hid r7
  clear o7 r7 b1 hcall e7
  have encAt : ∀ W, Hid (Below w.heap.size w W) → ∀ (B : Option Addr) (d : Nat) (l : List Int), Reads W .u64 B l → l.length = 4 * n → (∀ x ∈ l, 0 ≤ x ∧ x ≤ 18446744073709551615) → Calls Tryd.prog 15 #[.int .i64 kind, .int .i64 place, .slice B n d, .int .i64 block] W (Encoded kind place l n block W) :=
    fun W hW B d l h1 h2 h3 => encode_any kind place B n d l block W (HM.out.below hW.out) (HT.out.below hW.out) HKP.out.1 HKP.out.2.1 HKP.out.2.2 (by omega) h1 h2 h3
  have refAt : ∀ W, ∀ (B : Option Addr) (d : Nat) (l : List Int), Reads W .u64 B l → l.length = 4 * n → (∀ x ∈ l, 0 ≤ x ∧ x ≤ 18446744073709551615) → Calls Tryd.prog 17 #[.int .i64 kind, .int .i64 place, .slice B n d, .int .i64 block] W (Encoded kind place l n block W) :=
    fun W B d l h1 h2 h3 => encode_ref kind place B n d l block W HKP.out.1 HKP.out.2.1 HKP.out.2.2 (by omega) h1 h2 h3
  have EA := Lib.hid encAt; have RA := Lib.hid refAt
  clear encAt refAt
  have hcall := EA.out W1 HB1 A7 c7 ws R7.out.head H4.out HW.out
  go_upto_region 7 with (go_at_call 15; refine hcall.mono ?_; rintro e W2 ⟨x, rfl, ox, b2⟩)
  have HB2 := Lib.hid (below_self HB1.out b2)
  have OX := Lib.hid ox; have B2 := Lib.hid b2
  clear hcall ox b2
  have hcall := EA.out W2 HB2 A7 c7 ws (R7.out.below B2.out).head H4.out HW.out
  go_upto_region 8 with (go_at_call 15; refine hcall.mono ?_; rintro e W3 ⟨y, rfl, oy, b3⟩)
  have HB3 := Lib.hid (below_self HB2.out b3)
  have OY := Lib.hid oy; have B3 := Lib.hid b3
  clear hcall oy b3
  have LT : Hid ((backs ws n n).length = 4 * n) := Lib.hid (by rw [backs_length ws n HL.out n (Nat.le_refl _)]; omega)
  have WT : Hid (∀ x ∈ backs ws n n, 0 ≤ x ∧ x ≤ 18446744073709551615) := Lib.hid fun x hx => HW.out x (backs_mem ws n x n hx)
  have hcall := turned_any A n c ws W3 (HR.out.below HB3.out) HL.out hn
  go_upto_region 9 with (first | ((go_at_call 16; refine hcall.mono ?_; rintro e W4 ⟨vt, rfl, ot, b4⟩; obtain ⟨At, ct, rfl, rt, _⟩ := rows_reads ot; have HB4 := Lib.hid (below_self HB3.out b4); have he := EA.out W4 HB4 At ct _ rt LT.out WT.out)) | ((go_at_call 15; refine he.mono ?_; rintro e W5 ⟨z, rfl, oz, b5⟩)))
  have HB5 := Lib.hid (below_self HB4.out b5)
  have OZ := Lib.hid oz; have S4 : Hid (W3.heap.size ≤ W4.heap.size) := Lib.hid b4.size; have B35 := Lib.hid (below_self b4 b5)
  clear hcall oz b5 ot rt he b4
  have hcall := RA.out W5 A c ws (HR.out.below HB5.out) H4.out HW.out
  go_upto_region 10 with (go_at_call 17; refine hcall.mono ?_; rintro e W6 ⟨cv, rfl, oc, b6⟩)
  have HB6 := Lib.hid (below_self HB5.out b6)
  have OC := Lib.hid oc; have B6 := Lib.hid b6
  clear hcall oc b6
  have hcall := turned_any A n c ws W6 (HR.out.below HB6.out) HL.out hn
  go_upto_region 11 with (first | ((go_at_call 16; refine hcall.mono ?_; rintro e W7 ⟨vt, rfl, ot, b7⟩; obtain ⟨At, ct, rfl, rt, _⟩ := rows_reads ot; have HB7 := Lib.hid (below_self HB6.out b7); have he := RA.out W7 At ct _ rt LT.out WT.out)) | ((go_at_call 17; refine he.mono ?_; rintro e W8 ⟨dv, rfl, od, b8⟩)))
  have HB8 := Lib.hid (below_self HB7.out b8)
  have OD := Lib.hid od; have B68 := Lib.hid (below_self b7 b8)
  clear hcall od b8 ot rt he b7
  have B58 := Lib.hid (below_self B6.out B68.out)
  have B38 := Lib.hid (below_self B35.out B58.out)
  have B28 := Lib.hid (below_self B3.out B38.out)
  have B18 := Lib.hid (below_self B2.out B28.out)
  obtain ⟨Lx, hLx⟩ : ∃ L, (encL kind place ws n block).length = L := ⟨_, rfl⟩
  obtain ⟨Lt, hLt⟩ : ∃ L, (encL kind place (backs ws n n) n block).length = L := ⟨_, rfl⟩
  have hx8 := OX.out.below B28.out
  have hy8 := OY.out.below B38.out
  have hz8 := OZ.out.below B58.out
  have hc8 := OC.out.below B68.out
  have hd8 := OD.out
  have FXY := Lib.hid (far_older OX.out OY.out (Nat.le_refl _))
  have FXZ := Lib.hid (far_older OX.out OZ.out (Nat.le_trans B3.out.size S4.out))
  have FYZ := Lib.hid (far_older OY.out OZ.out S4.out)
  have FXC := Lib.hid (far_older OX.out OC.out (Nat.le_trans B3.out.size B35.out.size))
  have FYC := Lib.hid (far_older OY.out OC.out B35.out.size)
  have FZC := Lib.hid (far_older OZ.out OC.out (Nat.le_refl _))
  obtain ⟨Ax, cx, rfl, rx⟩ := hx8.reads_at hLx
  obtain ⟨Ay, cy, rfl, ry⟩ := hy8.reads_at hLx
  obtain ⟨Az, cz, rfl, rz⟩ := hz8.reads_at hLt
  obtain ⟨Ac, cc, rfl, rc⟩ := hc8.reads_at hLx
  obtain ⟨Ad, cd, rfl, rd⟩ := hd8.reads_at hLt
  have fx := run_bytes36 (c := cx) rx hLx
  have fy := run_bytes36 (c := cy) ry hLx
  have fz := run_bytes36 (c := cz) rz hLt
  have fc := run_bytes36 (c := cc) rc hLx
  have fd := run_bytes36 (c := cd) rd hLt
  have HX8 := Lib.hid (hx8.more (base' := w.heap.size) HB1.out.size)
  have HY8 := Lib.hid (hy8.more (base' := w.heap.size) HB2.out.size)
  have HZ8 := Lib.hid (hz8.more (base' := w.heap.size) HB4.out.size)
  have HC8 := Lib.hid (hc8.more (base' := w.heap.size) HB5.out.size)
  have LX := Lib.hid hLx; have LTT := Lib.hid hLt
  have LX' : Hid (Lx ≤ 65536) := Lib.hid (by rw [← hLx]; exact encL_length_le H4.out)
  have LT' : Hid (Lt ≤ 65536) := Lib.hid (by rw [← hLt]; exact encL_length_le LT.out)
  have X1 : Hid (∀ g, (Value.slice Ax Lx cx).ownBlock = some g → W1.heap.size ≤ g) := Lib.hid fun g h => (OX.out.lt h).1
  have Y1 : Hid (∀ g, (Value.slice Ay Lx cy).ownBlock = some g → W1.heap.size ≤ g) := Lib.hid fun g h => Nat.le_trans B2.out.size (OY.out.lt h).1
  have Z1 : Hid (∀ g, (Value.slice Az Lt cz).ownBlock = some g → W1.heap.size ≤ g) := Lib.hid fun g h => Nat.le_trans (Nat.le_trans B2.out.size (Nat.le_trans B3.out.size S4.out)) (OZ.out.lt h).1
  clear hx8 hy8 hz8 hc8 hd8 rx ry rz rc rd hLx hLt OX OY OZ OC OD HB2 HB3 HB4 HB5 HB6 HB7 S4 B35 B38 B2 B3 B6 B28 B58 B68
  obtain ⟨E, hE⟩ : ∃ E, encE kind place n block = E := ⟨_, rfl⟩
  have HE := Lib.hid hE
  rw [hE]
  clear hE
  have hcall := roomy_any A n c ws W8 (HR.out.below HB8.out) HL.out hn
  have R8 := Lib.hid (R7.out.below B18.out)
  have LF : Hid ((ws ++ spareL).length = (n + 2) * 4) := Lib.hid (by rw [List.length_append, HL.out, show spareL.length = 8 from rfl]; omega)
  have FA := Lib.hid (fun (f : FuncId) (hf : f = 19 ∨ f = 20) (W : World) => fit_any f hf block W HKP.out.2.2)
  go_upto_region 13 with (first | ((go_at_call 14; refine hcall.mono ?_; rintro e W9 ⟨vs, rfl, os, b9⟩; obtain ⟨As, cs, rfl, rs, _⟩ := rows_reads os; have he := same_any A7 As (n + 2) c7 cs (ws ++ spareL) W9 (R8.out.below b9) rs LF.out (by omega))) | ((go_at_call 18; refine he.mono ?_; rintro e W10 ⟨rfl, b10⟩; have he2 := FA.out 19 (by simp) W10)) | ((go_at_call 19; refine he2.mono ?_; rintro e W11 ⟨rfl, b11⟩; have he3 := FA.out 20 (by simp) W11)) | (go_at_call 20; refine he3.mono ?_; rintro e W12 ⟨rfl, b12⟩))
  have B812 := Lib.hid (below_self (below_self b9 b10) (below_self b11 b12))
  have HB12 := Lib.hid (below_self HB8.out B812.out)
  clear fx fy fz fc fd hcall he he2 he3 os rs b9 b10 b11 b12
  have hcall := apart_any w.heap.size (.slice Ax Lx cx) (.slice Ay Lx cy) (.slice Az Lt cz) _ _ _ W12 (HX8.out.below B812.out) (HY8.out.below B812.out) (HZ8.out.below B812.out) HB12.out.size FXY.out FXZ.out FYZ.out (by rw [LX.out]; have := LX'.out; omega) (by rw [LX.out]; have := LX'.out; omega) (by rw [LTT.out]; have := LT'.out; omega)
  go_upto_region 15 with (go_at_call 21; refine hcall.mono ?_; rintro e W13 ⟨rfl, ba, ka⟩)
  have HB13 := Lib.hid (HB12.out.trans ba)
  have O13 : Hid (W13.ownsRow w.heap.size 26 4 (Value.slice A7 (n + 2) c7) (n + 2) (nums .u64 (ws ++ spareL))) := Lib.hid (rows_stay (rows_below O7.out (below_self B18.out B812.out)) fun g hg => by
    have hlt := (World.ownsRow.lt O7.out g hg).2
    exact ka g (Nat.lt_of_lt_of_le hlt (below_self B18.out B812.out).size) (fun e => by have := X1.out g e.symm; omega) (fun e => by have := Y1.out g e.symm; omega) (fun e => by have := Z1.out g e.symm; omega))
  have C13 : Hid (Owns W13 w.heap.size 5 (.slice Ac Lx cc) (nums .u8 (encL kind place ws n block))) := Lib.hid ((HC8.out.below B812.out).stay fun g hg => ka g ((HC8.out.below B812.out).lt hg).2 (FXC.out.ne hg) (FYC.out.ne hg) (FZC.out.ne hg))
  clear hcall ba ka HX8 HY8 HZ8 HC8 FXY FXZ FYZ FXC FYC FZC X1 Y1 Z1 R8 R7 B18 B812 HB8 HB12 O7 HB1
  have hcall := EA.out W13 HB13 A7 c7 ws (rows_read O13.out).head H4.out HW.out
  go_upto_region 16 with (go_at_call 15; refine hcall.mono ?_; rintro e W14 ⟨x2, rfl, ox2, b14⟩)
  rw [HE.out]
  have HB14 := Lib.hid (below_self HB13.out b14)
  have O14 := Lib.hid (rows_below O13.out b14)
  obtain ⟨Ax2, cx2, rfl, rx2⟩ := ox2.reads_at LX.out
  have hc14 := C13.out.below b14
  obtain ⟨_, _, ec, rc⟩ := hc14.reads_at LX.out
  cases ec
  have fx := run_bytes36 (c := cx2) rx2 LX.out
  have fc := run_bytes36 (c := cc) rc LX.out
  clear hcall b14 ox2 rx2 hc14 rc C13 O13
  have hcall := roomy_any A n c ws W14 (HR.out.below HB14.out) HL.out hn
  go_upto_region 18 with (first | ((go_at_call 14; refine hcall.mono ?_; rintro e W15 ⟨vs, rfl, os, b15⟩; obtain ⟨As2, cs2, rfl, rs, _⟩ := rows_reads os; have he := same_any A7 As2 (n + 2) c7 cs2 (ws ++ spareL) W15 ((rows_read O14.out).below b15) rs LF.out (by omega))) | ((go_at_call 18; refine he.mono ?_; rintro e W16 ⟨rfl, b16⟩)))
  have HB16 := Lib.hid (below_self HB14.out (below_self b15 b16))
  have O16 := Lib.hid (rows_below O14.out (below_self b15 b16))
  have WF : Hid (∀ x ∈ ws ++ spareL, 0 ≤ x ∧ x ≤ 18446744073709551615) := Lib.hid fun x hx => by
    rcases List.mem_append.1 hx with h | h
    · exact HW.out x h
    · simp [spareL] at h; omega
  clear hcall he os rs b15 b16 fx fc O14 HB14 HB13 HE LX LTT LX' LT'
  go_wp2
  go_loopw [18] (fun i wr => ∃ k : Nat, k ≤ n ∧ i = .int .i64 k ∧ (∃ l : List Int, Hid (wr.ownsRow w.heap.size 26 4 (Value.slice A7 (n + 2) c7) (n + 2) (nums .u64 l)) ∧ Hid (l.length = (n + 2) * 4) ∧ Hid (∀ x ∈ l, 0 ≤ x ∧ x ≤ 18446744073709551615)) ∧ Hid (Below w.heap.size w wr)) (fun i _ => n - (intOf i).toNat)
  case atStart => exact ⟨0, by omega, rfl, ⟨_, O16, LF, WF⟩, HB16⟩
  case round =>
    obtain ⟨k, hk, rfl, ⟨l, HO, HLn, HWl⟩, HB⟩ := hrel
    clear O16 HB16
    by_cases hlt : k < n
    · obtain ⟨r, hr⟩ : ∃ r, k % 4 = r := ⟨_, rfl⟩
      have hr4 : r < 4 := by omega
      have hj : k * 4 + r < l.length := by rw [HLn.out]; omega
      rcases A7 with _ | ad
      · rcases HO.out.2 with ⟨_, h0⟩ | ⟨g, cap, cur, hv, _⟩
        · omega
        · cases hv
      obtain ⟨x, hx⟩ : ∃ x, l[k * 4 + r]? = some x := ⟨_, List.getElem?_eq_getElem hj⟩
      obtain ⟨y, hy⟩ : ∃ y, IntKind.u64.wrap (x + 1) = y := ⟨_, rfl⟩
      have hy2 : 0 ≤ y ∧ y ≤ 18446744073709551615 := by rw [← hy, IntKind.wrap_u64]; omega
      obtain ⟨g, rfl, hc, hf, hS⟩ := rows_store HO.out (i := k * 4 + r) (by rw [nums_length]; exact hj) (.int .u64 y)
      rw [nums_get, hx] at hc
      rw [nums_set] at hS
      have hc : wr.cell? ⟨g, k * 4 + r, none⟩ = some (.int .u64 x) := hc
      have hmod : (k : Int).tmod 4 = (r : Int) := by rw [Int.tmod_eq_emod_of_nonneg (by omega)]; omega
      have hk0 : (0 : Int) ≤ (k : Int) := by omega
      have hkn : (k : Int) < ((n + 2 : Nat) : Int) := by omega
      have hkn2 : (k : Int) < (n : Int) + 2 := by omega
      have hr0 : (0 : Int) ≤ (r : Int) := by omega
      have hr1 : (r : Int) < 4 := by omega
      have HS := Lib.hid hS
      clear hx hS hr
      go_upto_region 21 with (fail)
      go_region_with (fail)
      go_wp2
      go_roundw
      case rel =>
        refine ⟨k + 1, by omega, by go_num, ⟨l.set (k * 4 + r) y, Lib.hid HS.out, Lib.hid (by rw [List.length_set]; exact HLn.out), Lib.hid fun v hv => ?_⟩, Lib.hid (below_drew (HB.out.setCell (p := ⟨g, k * 4 + r, none⟩) (World.ownsRow.lt HO.out g rfl).1 _))⟩
        rcases List.mem_or_eq_of_mem_set hv with h | h
        · exact HWl.out v h
        · rw [h]; exact hy2
      case measure => simp [intOf]; omega
    · obtain rfl : k = n := by omega
      have LH : Hid ((l.take (4 * k)).length = 4 * k) := Lib.hid (by rw [List.length_take, HLn.out]; omega)
      have WH : Hid (∀ x ∈ l.take (4 * k), 0 ≤ x ∧ x ≤ 18446744073709551615) := Lib.hid fun x hx => HWl.out x (List.mem_of_mem_take hx)
      have RH : Hid (Reads wr .u64 A7 (l.take (4 * k))) := Lib.hid (Reads.head (ys := l.drop (4 * k)) (by rw [List.take_append_drop]; exact rows_read HO.out))
      have hnil := World.ownsRow_nil wr w.heap.size 26 4
      go_upto_region 23 with (first | (at_builtin; refine wpList_more rfl _ _ 32 rfl w.heap.size 26 _ 4 32 Tryd.underlying32 info26 rfl (by decide) (.slice none 0 0) 0 [] rfl (World.ownsRow_nil _ _ _ _) A7 k c7 .u64 (l.take (4 * k)) rfl RH.out (by rw [LH.out]; omega) (by simp [maxLen]; omega) (by omega) HB.out.size ?_; intro v17 w17 o17 g17 a17; rw [Nat.zero_add, List.nil_append] at o17; obtain ⟨A17, c17, rfl, r17, _⟩ := rows_reads o17; have he := RA.out w17 A17 c17 _ r17 LH.out WH.out) | ((go_at_call 17; refine he.mono ?_; rintro e w18 ⟨c18, rfl, o18, b18⟩)))
      have HB17 := Lib.hid (HB.out.grown g17 HB.out.size (fun j e => by simp [Value.ownBlock] at e))
      have HB18 := Lib.hid (below_self HB17.out b18)
      have R18 := Lib.hid ((RH.out.grown g17 (fun b o e => by simp [Value.ownBlock])).below b18)
      obtain ⟨L3, hL3⟩ : ∃ L, (encL kind place (l.take (4 * k)) k block).length = L := ⟨_, rfl⟩
      have hcall := EA.out w18 HB18 A7 c7 _ R18.out LH.out WH.out
      obtain ⟨A18, c18, rfl, rc⟩ := o18.reads_at hL3
      have RC := Lib.hid rc; have HL3 := Lib.hid hL3
      clear o17 g17 a17 he o18 b18 rc hnil HO HB RH r17 hL3
      go_upto_region 24 with (go_at_call 15; refine hcall.mono ?_; rintro e W19 ⟨x3, rfl, ox3, b19⟩)
      obtain ⟨Ax3, cx3, rfl, rx3⟩ := ox3.reads_at HL3.out
      have fx := run_bytes36 (c := cx3) rx3 HL3.out
      have fc := run_bytes36 (c := c18) (RC.out.below b19) HL3.out
      have HB19 := Lib.hid (below_self HB18.out b19)
      clear hcall ox3 rx3 b19
      go_wp2
      go_ret
      exact ⟨rfl, HB19.out⟩
end Go.Proofs.YtambpbgmmmiocaaDoor
