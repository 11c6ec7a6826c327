/- RecsDecodes: the law's text answers true. -/
import Derived.Test.YtambpbgmmmiocaaDoorK1
import Derived.Test.YtambpbgmmmiocaaDoorT1
import Derived.Deep.DrawnRows
import Derived.Deep.DeepCutAuto
namespace Go.Proofs.YtambpbgmmmiocaaDoor
open Go.RowKit

attribute [local go_sem ↓] Go.wp_at_zero Go.wp_at_succ
theorem encE_two : encE 3 4 2 96 = 0 := by decide
theorem rows_cap' {w : World} {base : Nat} {e : TypeId} {size n c : Nat} {A : Option Addr} {xs : List Value} (h : w.ownsRow base e size (.slice A n c) n xs) : n ≤ c := rows_cap h
abbrev eight : List Int := [1, 2, 3, 4, 5, 6, 7, 8]
/-- The two conversions between bytes and text: they read memory, so that no walk takes them first. -/
def textOf (x : Operand) : Op := .convert 36 9 x
def backOf (x : Operand) : Op := .convert 9 36 x
theorem textOf_eq (x : Operand) : textOf x = .convert 36 9 x := rfl
theorem backOf_eq (x : Operand) : backOf x = .convert 9 36 x := rfl
attribute [local go_sem] textOf_eq backOf_eq
set_option maxRecDepth 100000 in
set_option maxHeartbeats 16000000 in
theorem recsDecodes_any (kind place : Int) (A : Option Addr) (L c : Nat) (xs : List Int) (w : World) (hM : Magic w) (hT : Halves w) (hk : -9223372036854775808 ≤ kind ∧ kind ≤ 9223372036854775807) (hp : -9223372036854775808 ≤ place ∧ place ≤ 9223372036854775807)
    (hr : Reads w .u8 A xs) (hx : IsBytes xs) (hl : xs.length = L) (hc : L ≤ c) (hm : L ≤ 140737488351232) :
    Calls Tryd.prog 6 #[.int .i64 kind, .int .i64 place, .slice A L c] w fun e w' => e = .returned (.bool true) ∧ Below w.heap.size w w' := by
  have HR := Lib.hid hr; have HX := Lib.hid hx; have HL := Lib.hid hl; have HM := Lib.hid hM; have HT := Lib.hid hT; have HKP := Lib.hid (And.intro hk hp)
  clear hr hx hl hM hT hk hp
  -- what Decode and Sum answer, wherever
  obtain ⟨E, hE⟩ : ∃ E, decE kind place xs = E := ⟨_, rfl⟩
  obtain ⟨N, hN⟩ : ∃ N, decN kind place xs = N := ⟨_, rfl⟩
  obtain ⟨ws, hws⟩ : ∃ ws, decL kind place xs = ws := ⟨_, rfl⟩
  have hwl : ws.length = N * 4 := by rw [← hws, ← hN, decL_length]; omega
  have hNl : N ≤ 65535 := by rw [← hN]; exact decN_le HX.out
  have DA : Hid (∀ W, Hid (Below w.heap.size w W) → ∀ (C : Option Addr) (d : Nat), Reads W .u8 C xs → L ≤ d → Calls Tryd.prog 23 #[.int .i64 kind, .int .i64 place, .slice C L d] W
      (fun e w' => ∃ v, e = .returned (.tuple #[v, .int .i64 E]) ∧ w'.ownsRow W.heap.size 26 4 v N (nums .u64 ws) ∧ Below W.heap.size W w')) := Lib.hid (fun W hW C d hC hd =>
    (decode_any kind place C L d xs W (HM.out.below hW.out) (HT.out.below hW.out) HKP.out.1 HKP.out.2 hC HX.out HL.out hd (by omega)).mono fun e w' ⟨v, he, ho, hb⟩ => ⟨v, by rw [he, hE], by rw [hN, hws] at ho; exact ho, hb⟩)
  have RA : Hid (∀ W, ∀ (C : Option Addr) (d : Nat), Reads W .u8 C xs → L ≤ d → Calls Tryd.prog 24 #[.int .i64 kind, .int .i64 place, .slice C L d] W
      (fun e w' => ∃ v, e = .returned (.tuple #[v, .int .i64 E]) ∧ w'.ownsRow W.heap.size 26 4 v N (nums .u64 ws) ∧ Below W.heap.size W w')) := Lib.hid (fun W C d hC hd =>
    (decode_ref kind place C L d xs W HKP.out.1 HKP.out.2 hC HX.out HL.out hd (by omega)).mono fun e w' ⟨v, he, ho, hb⟩ => ⟨v, by rw [he, hE], by rw [hN, hws] at ho; exact ho, hb⟩)
  have HWL := Lib.hid hwl
  have NL := Lib.hid hNl
  clear hE hN hws hwl hNl
  have hbytes := bytes_any A L c xs w HR.out HL.out (by omega)
  go_enter Tryd.func6, Tryd.ntmps6
  go_upto_region 2 with (go_at_call 22; refine hbytes.mono ?_; rintro e W1 ⟨v7, rfl, o7, b1⟩)
  have HB1 := Lib.hid b1
  obtain ⟨A7, c7, rfl, _⟩ := rows_reads o7
  have hc7 : L + 3 ≤ c7 := rows_cap o7
  have H1 : Hid (Hold W1 w.heap.size [⟨5, 1, .slice A7 (L + 3) c7, L + 3, nums .u8 (xs ++ spareB)⟩]) := Lib.hid ((Hold.nil w w.heap.size).new b1 (Nat.le_refl _) (r := ⟨5, 1, .slice A7 (L + 3) c7, L + 3, nums .u8 (xs ++ spareB)⟩) o7)
  clear o7 b1 hbytes
  -- the fixed block
  have hB0 := below1 W1 (.cells (nums .u64 eight).toArray 26)
  have hcall : Calls Tryd.prog 17 #[.int .i64 3, .int .i64 4, .slice (some ⟨W1.heap.size, 0, none⟩) 2 2, .int .i64 96] (W1.alloc (.cells (nums .u64 eight).toArray 26))
      (fun e w' => ∃ v, e = .returned (.tuple #[v, .int .i64 0]) ∧ w'.ownsRow W1.heap.size 5 1 v 96 (nums .u8 (encV 3 4 eight 2 96)) ∧ Below W1.heap.size W1 w') :=
    (encode_ref 3 4 (some ⟨W1.heap.size, 0, none⟩) 2 2 eight 96 _ (by omega) (by omega) (by omega) (by omega) (reads_new W1 26 .u64 eight) rfl (by simp [eight])).mono
      fun e w' ⟨v, he, ho, hb⟩ => ⟨v, by rw [he, encE_two], by
        have h := ho.more hB0.size
        unfold encL at h
        rw [encE_two, if_pos rfl] at h
        have h2 : w'.ownsRow W1.heap.size 5 1 v (nums .u8 (encV 3 4 eight 2 96)).length (nums .u8 (encV 3 4 eight 2 96)) := h
        rw [nums_length, encV_len rfl (by decide)] at h2
        exact h2, below_self hB0 hb⟩
  obtain ⟨X, hX⟩ : ∃ X, encV 3 4 eight 2 96 = X := ⟨_, rfl⟩
  have h96 : X.length = 96 := by rw [← hX]; exact encV_len rfl (by decide)
  have hXB : IsBytes X := by rw [← hX]; exact encV_bytes (by decide) (by decide)
  obtain ⟨d0, d1, d2⟩ := decL_enc (kind := 3) (place := 4) (ws := eight) (n := 2) (bn := 96) encE_two (by decide) rfl (by simp [eight])
  rw [hX] at d0 d1 d2 hcall
  have HD := Lib.hid (And.intro d0 (And.intro d1 (And.intro d2 (And.intro h96 hXB))))
  clear d0 d1 d2 h96 hXB hX hB0
  go_upto_region 3 with (go_at_call 17; refine hcall.mono ?_; rintro e W2 ⟨v8, rfl, o8, b2⟩)
  have HB2 := Lib.hid (below_self HB1.out b2)
  obtain ⟨A8, c8, rfl, _⟩ := rows_reads o8
  have hc8 : 96 ≤ c8 := rows_cap o8
  have H2 := Lib.hid (H1.out.new b2 HB1.out.size (r := ⟨5, 1, .slice A8 96 c8, 96, nums .u8 X⟩) o8)
  clear o8 b2 hcall H1
  have hL3 : (L : Int) ≤ (L : Int) + 3 := by omega
  have hLc7 : (L : Int) ≤ (c7 : Int) := by omega
  have hcall := DA.out W2 HB2 A7 c7 (rows_read (H2.out.at_ (i := 0) rfl)).head (by omega)
  go_upto_region 4 with (go_at_call 23; refine hcall.mono ?_; rintro e W3 ⟨v, rfl, o, b⟩)
  have HB3 := Lib.hid (below_self HB2.out b)
  obtain ⟨Ax, cx, rfl, _⟩ := rows_reads o
  have H3 := Lib.hid (H2.out.new b HB2.out.size (r := ⟨26, 4, .slice Ax N cx, N, nums .u64 ws⟩) o)
  clear hcall o b H2
  have hcall := DA.out W3 HB3 A7 c7 (rows_read (H3.out.at_ (i := 0) rfl)).head (by omega)
  go_upto_region 5 with (go_at_call 23; refine hcall.mono ?_; rintro e W4 ⟨v, rfl, o, b⟩)
  have HB4 := Lib.hid (below_self HB3.out b)
  obtain ⟨Ay, cy, rfl, _⟩ := rows_reads o
  have H4 := Lib.hid (H3.out.new b HB3.out.size (r := ⟨26, 4, .slice Ay N cy, N, nums .u64 ws⟩) o)
  clear hcall o b H3
  have hcall : Calls Tryd.prog 23 #[.int .i64 3, .int .i64 4, .slice A8 96 c8] W4
      (fun e w' => ∃ v, e = .returned (.tuple #[v, .int .i64 0]) ∧ w'.ownsRow W4.heap.size 26 4 v 2 (nums .u64 eight) ∧ Below W4.heap.size W4 w') :=
    (decode_any 3 4 A8 96 c8 X W4 (HM.out.below HB4.out) (HT.out.below HB4.out) (by omega) (by omega) (rows_read (H4.out.at_ (i := 1) rfl)) HD.out.2.2.2.2 HD.out.2.2.2.1 hc8 (by omega)).mono
      fun e w' ⟨v, he, ho, hb⟩ => ⟨v, by rw [he, HD.out.1], by rw [HD.out.2.1, HD.out.2.2.1] at ho; exact ho, hb⟩
  go_upto_region 6 with (go_at_call 23; refine hcall.mono ?_; rintro e W5 ⟨v, rfl, o, b⟩)
  have HB5 := Lib.hid (below_self HB4.out b)
  obtain ⟨Az, cz, rfl, _⟩ := rows_reads o
  have H5 := Lib.hid (H4.out.new b HB4.out.size (r := ⟨26, 4, .slice Az 2 cz, 2, nums .u64 eight⟩) o)
  clear hcall o b H4
  have hcall := RA.out W5 A c (HR.out.below HB5.out) hc
  go_upto_region 7 with (go_at_call 24; refine hcall.mono ?_; rintro e W6 ⟨v, rfl, o, b⟩)
  have HB6 := Lib.hid (below_self HB5.out b)
  obtain ⟨Ak, ck, rfl, _⟩ := rows_reads o
  have H6 := Lib.hid (H5.out.new b HB5.out.size (r := ⟨26, 4, .slice Ak N ck, N, nums .u64 ws⟩) o)
  clear hcall o b H5
  go_upto_region 8 with (fail)
  have b7 := below1 W6 (.cells (nums .u64 eight).toArray 26)
  have HB7 := Lib.hid (below_self HB6.out b7)
  have H7 := Lib.hid (H6.out.new b7 HB6.out.size (r := ⟨26, 4, .slice (some ⟨W6.heap.size, 0, none⟩) 2 2, 2, nums .u64 eight⟩) (rows_blk (Blk.new W6 26 (nums .u64 eight)) (Nat.le_refl _) rfl (by simp [maxLen, eight]) (by simp [maxLen])))
  clear b7 H6 HB2 HB3 HB4 HB5 HB6
  have H8 : Hid (Hold (W6.alloc (.cells (nums .u64 eight).toArray 26)).drew w.heap.size [⟨5, 1, .slice A7 (L + 3) c7, L + 3, nums .u8 (xs ++ spareB)⟩, ⟨5, 1, .slice A8 96 c8, 96, nums .u8 X⟩, ⟨26, 4, .slice Ax N cx, N, nums .u64 ws⟩, ⟨26, 4, .slice Ay N cy, N, nums .u64 ws⟩, ⟨26, 4, .slice Az 2 cz, 2, nums .u64 eight⟩, ⟨26, 4, .slice Ak N ck, N, nums .u64 ws⟩, ⟨26, 4, .slice (some ⟨W6.heap.size, 0, none⟩) 2 2, 2, nums .u64 eight⟩]) := Lib.hid (show Hold (W6.alloc (.cells (nums .u64 eight).toArray 26)) _ _ from H7.out)
  have HB8 : Hid (Below w.heap.size w (W6.alloc (.cells (nums .u64 eight).toArray 26)).drew) := Lib.hid (below_drew HB7.out)
  clear H7 HB7
  show Code.wp _ _ _ _ (W6.alloc (.cells (nums .u64 eight).toArray 26))
  generalize W6.alloc (.cells (nums .u64 eight).toArray 26) = W at *
  generalize W6.heap.size = g6 at *
  obtain ⟨S, hS⟩ : ∃ S, sumV xs = S := ⟨_, rfl⟩
  have SA : Hid (∀ W, Below w.heap.size w W → ∀ (C : Option Addr) (d : Nat), Reads W .u8 C xs → Calls Tryd.prog 25 #[.slice C L d] W fun e w' => e = .returned (.int .u32 S) ∧ Below W.heap.size W w') := Lib.hid (fun W hW C d hC => by
    have h := sum_any C L d xs W (HT.out.below hW) hC HX.out HL.out (by omega)
    rw [hS] at h; exact h)
  have SR : Hid (∀ W (C : Option Addr) (d : Nat), Reads W .u8 C xs → Calls Tryd.prog 26 #[.slice C L d] W fun e w' => e = .returned (.int .u32 S) ∧ Below W.heap.size W w') := Lib.hid (fun W C d hC => by
    have h := sum_ref C L d xs W hC HX.out HL.out (by omega)
    rw [hS] at h; exact h)
  have LF : Hid ((xs ++ spareB).length = L + 3) := Lib.hid (by rw [List.length_append, HL.out]; rfl)
  have N47 : Hid (N ≤ 140737488355328 ∧ N ≤ 70000000) := Lib.hid (by have := NL.out; omega)
  clear hS
  go_cut [114] (fun s114 wx => s114 = .bool false ∧ Hid (Hold wx w.heap.size [⟨5, 1, .slice A7 (L + 3) c7, L + 3, nums .u8 (xs ++ spareB)⟩, ⟨5, 1, .slice A8 96 c8, 96, nums .u8 X⟩, ⟨26, 4, .slice Ax N cx, N, nums .u64 ws⟩, ⟨26, 4, .slice Ay N cy, N, nums .u64 ws⟩, ⟨26, 4, .slice Az 2 cz, 2, nums .u64 eight⟩, ⟨26, 4, .slice Ak N ck, N, nums .u64 ws⟩, ⟨26, 4, .slice (some ⟨g6, 0, none⟩) 2 2, 2, nums .u64 eight⟩]) ∧ Hid (Below w.heap.size w wx))
  case first =>
    as_aux_lemma =>
      have s1 := hold_same (i := 2) (j := 5) H8.out rfl rfl HWL.out N47.out.1
      rw [← textOf_eq (.tmp 108), ← textOf_eq (.tmp 111)]
      go_region_held3 (fun w' => True) (trivial) (first | ((go_at_call 18; with_reducible refine s1.mono ?_; rintro e y1 ⟨rfl, h1, q1⟩; have z1 := below_self HB8.out q1; have s2 := hold_same (i := 3) (j := 5) h1 rfl rfl HWL.out N47.out.1)) | ((go_at_call 18; with_reducible refine s2.mono ?_; rintro e y2 ⟨rfl, h2, q2⟩; have z2 := below_self z1 q2; have s3 := hold_same (i := 4) (j := 6) h2 rfl rfl rfl (by decide))) | ((go_at_call 18; with_reducible refine s3.mono ?_; rintro e y3 ⟨rfl, h3, q3⟩; have z3 := below_self z2 q3; have t1 := SA.out y3 z3 A7 c7 (rows_read (h3.at_ (i := 0) rfl)).head)) | ((go_at_call 25; with_reducible refine t1.mono ?_; rintro e y4 ⟨rfl, q4⟩; have z4 := below_self z3 q4; have h4 := h3.below q4; have t2 := SR.out y4 A c (HR.out.below z4))) | ((go_at_call 26; with_reducible refine t2.mono ?_; rintro e y5 ⟨rfl, q5⟩; have z5 := below_self z4 q5; have h5 := h4.below q5; have fx5 := run_bytes36 (c := c7) (rows_read (h5.at_ (i := 0) rfl)) LF.out; have t3 := bytes_any A L c xs y5 (HR.out.below z5) HL.out (by omega))) | ((go_at_call 22; with_reducible refine t3.mono ?_; rintro e y6 ⟨v22, rfl, o22, q6⟩; obtain ⟨A22, c22, rfl, r22, _⟩ := rows_reads o22; have z6 := below_self z5 q6; have h6 := h5.below q6; have fx6 := run_bytes36 (c := c7) (rows_read (h6.at_ (i := 0) rfl)) LF.out; have fb6 := run_bytes36 (c := c22) r22 LF.out)))
      all_goals
        go_wp2_with fail
        go_meet
        exact ⟨rfl, Lib.hid h6, Lib.hid z6⟩
  clear H8 HB8
  obtain ⟨rfl, H9, HB9⟩ := hcut
  have hcall := hold_scored H9.out HB9.out 91 (i := 2) rfl (by decide) (by decide) N47.out.2
  go_upto_region 11 with (go_at_call 27; refine hcall.mono ?_; rintro e W10 ⟨Agx, cgx, rfl, hh, bb⟩)
  have H10 : Hid (Hold W10 w.heap.size [⟨5, 1, .slice A7 (L + 3) c7, L + 3, nums .u8 (xs ++ spareB)⟩, ⟨5, 1, .slice A8 96 c8, 96, nums .u8 X⟩, ⟨26, 4, .slice Agx (N + 8) cgx, N + 8, nums .u64 (ms N 91 ++ gs 8 91)⟩, ⟨26, 4, .slice Ay N cy, N, nums .u64 ws⟩, ⟨26, 4, .slice Az 2 cz, 2, nums .u64 eight⟩, ⟨26, 4, .slice Ak N ck, N, nums .u64 ws⟩, ⟨26, 4, .slice (some ⟨g6, 0, none⟩) 2 2, 2, nums .u64 eight⟩]) := Lib.hid hh
  have HB10 := Lib.hid bb
  clear hcall hh bb H9 HB9
  have s1 := hold_same (i := 3) (j := 5) H10.out rfl rfl HWL.out N47.out.1
  go_upto_region 13 with (first | ((go_at_call 18; with_reducible refine s1.mono ?_; rintro e y1 ⟨rfl, h1, q1⟩; have s2 := hold_same (i := 4) (j := 6) h1 rfl rfl rfl (by decide))) | ((go_at_call 18; with_reducible refine s2.mono ?_; rintro e y2 ⟨rfl, h2, q2⟩)))
  have H12 := Lib.hid h2
  have HB12 := Lib.hid (below_self (below_self HB10.out q1) q2)
  clear s1 s2 h1 h2 q1 q2 H10 HB10
  have hcall := hold_scored H12.out HB12.out 93 (i := 3) rfl (by decide) (by decide) N47.out.2
  go_upto_region 14 with (go_at_call 27; refine hcall.mono ?_; rintro e W13 ⟨Agy, cgy, rfl, hh, bb⟩)
  have H13 : Hid (Hold W13 w.heap.size [⟨5, 1, .slice A7 (L + 3) c7, L + 3, nums .u8 (xs ++ spareB)⟩, ⟨5, 1, .slice A8 96 c8, 96, nums .u8 X⟩, ⟨26, 4, .slice Agx (N + 8) cgx, N + 8, nums .u64 (ms N 91 ++ gs 8 91)⟩, ⟨26, 4, .slice Agy (N + 8) cgy, N + 8, nums .u64 (ms N 93 ++ gs 8 93)⟩, ⟨26, 4, .slice Az 2 cz, 2, nums .u64 eight⟩, ⟨26, 4, .slice Ak N ck, N, nums .u64 ws⟩, ⟨26, 4, .slice (some ⟨g6, 0, none⟩) 2 2, 2, nums .u64 eight⟩]) := Lib.hid hh
  have HB13 := Lib.hid bb
  clear hcall hh bb H12 HB12
  have s1 := hold_same (i := 4) (j := 6) H13.out rfl rfl rfl (by decide)
  go_upto_region 16 with (go_at_call 18; with_reducible refine s1.mono ?_; rintro e y1 ⟨rfl, h1, q1⟩)
  have H15 := Lib.hid h1
  have HB15 := Lib.hid (below_self HB13.out q1)
  clear s1 h1 q1 H13 HB13
  have hcall := hold_scored H15.out HB15.out 95 (i := 4) rfl (by decide) (by decide) (by decide)
  go_upto_region 17 with (go_at_call 27; refine hcall.mono ?_; rintro e W16 ⟨Agz, cgz, rfl, hh, bb⟩)
  have H16 : Hid (Hold W16 w.heap.size [⟨5, 1, .slice A7 (L + 3) c7, L + 3, nums .u8 (xs ++ spareB)⟩, ⟨5, 1, .slice A8 96 c8, 96, nums .u8 X⟩, ⟨26, 4, .slice Agx (N + 8) cgx, N + 8, nums .u64 (ms N 91 ++ gs 8 91)⟩, ⟨26, 4, .slice Agy (N + 8) cgy, N + 8, nums .u64 (ms N 93 ++ gs 8 93)⟩, ⟨26, 4, .slice Agz (2 + 8) cgz, 2 + 8, nums .u64 (ms 2 95 ++ gs 8 95)⟩, ⟨26, 4, .slice Ak N ck, N, nums .u64 ws⟩, ⟨26, 4, .slice (some ⟨g6, 0, none⟩) 2 2, 2, nums .u64 eight⟩]) := Lib.hid hh
  have HB16 := Lib.hid bb
  clear hcall hh bb H15 HB15
  have s1 := hold_stands (i := 2) H16.out rfl (by decide) (by decide) N47.out.2
  go_upto_region 19 with (first | ((go_at_call 28; with_reducible refine s1.mono ?_; rintro e y1 ⟨rfl, h1, q1⟩; have s2 := hold_stands (i := 3) h1 rfl (by decide) (by decide) N47.out.2)) | ((go_at_call 28; with_reducible refine s2.mono ?_; rintro e y2 ⟨rfl, h2, q2⟩; have s3 := (show Calls Tryd.prog 28 #[.slice Agz 10 cgz, .int .i64 2, .int .u64 95] y2 _ from hold_stands (i := 4) (n := 2) h2 rfl (by decide) (by decide) (by decide)))) | ((go_at_call 28; with_reducible refine s3.mono ?_; rintro e y3 ⟨rfl, h3, q3⟩)))
  have H18 := Lib.hid h3
  have HB18 := Lib.hid (below_self (below_self (below_self HB16.out q1) q2) q3)
  clear s1 s2 s3 h1 h2 h3 q1 q2 q3 H16 HB16
  have hcall := DA.out _ HB18 A7 c7 (rows_read (H18.out.at_ (i := 0) rfl)).head (by omega)
  go_upto_region 20 with (go_at_call 23; refine hcall.mono ?_; rintro e W19 ⟨v, rfl, o, b⟩)
  have HB19 := Lib.hid (below_self HB18.out b)
  obtain ⟨Ax2, cx2, rfl, _⟩ := rows_reads o
  have H19 : Hid (Hold W19 w.heap.size [⟨5, 1, .slice A7 (L + 3) c7, L + 3, nums .u8 (xs ++ spareB)⟩, ⟨5, 1, .slice A8 96 c8, 96, nums .u8 X⟩, ⟨26, 4, .slice Agx (N + 8) cgx, N + 8, nums .u64 (ms N 91 ++ gs 8 91)⟩, ⟨26, 4, .slice Agy (N + 8) cgy, N + 8, nums .u64 (ms N 93 ++ gs 8 93)⟩, ⟨26, 4, .slice Agz (2 + 8) cgz, 2 + 8, nums .u64 (ms 2 95 ++ gs 8 95)⟩, ⟨26, 4, .slice Ak N ck, N, nums .u64 ws⟩, ⟨26, 4, .slice (some ⟨g6, 0, none⟩) 2 2, 2, nums .u64 eight⟩, ⟨26, 4, .slice Ax2 N cx2, N, nums .u64 ws⟩]) := Lib.hid (H18.out.new b HB18.out.size (r := ⟨26, 4, .slice Ax2 N cx2, N, nums .u64 ws⟩) o)
  clear hcall o b H18 HB18
  go_cut [180] (fun s180 wx => s180 = .bool false ∧ Hid (Hold wx w.heap.size [⟨5, 1, .slice A7 (L + 3) c7, L + 3, nums .u8 (xs ++ spareB)⟩, ⟨5, 1, .slice A8 96 c8, 96, nums .u8 X⟩, ⟨26, 4, .slice Agx (N + 8) cgx, N + 8, nums .u64 (ms N 91 ++ gs 8 91)⟩, ⟨26, 4, .slice Agy (N + 8) cgy, N + 8, nums .u64 (ms N 93 ++ gs 8 93)⟩, ⟨26, 4, .slice Agz (2 + 8) cgz, 2 + 8, nums .u64 (ms 2 95 ++ gs 8 95)⟩, ⟨26, 4, .slice Ak N ck, N, nums .u64 ws⟩, ⟨26, 4, .slice (some ⟨g6, 0, none⟩) 2 2, 2, nums .u64 eight⟩, ⟨26, 4, .slice Ax2 N cx2, N, nums .u64 ws⟩]) ∧ Hid (Below w.heap.size w wx))
  case first =>
    as_aux_lemma =>
      have H19d : Hid (Hold W19.drew w.heap.size [⟨5, 1, .slice A7 (L + 3) c7, L + 3, nums .u8 (xs ++ spareB)⟩, ⟨5, 1, .slice A8 96 c8, 96, nums .u8 X⟩, ⟨26, 4, .slice Agx (N + 8) cgx, N + 8, nums .u64 (ms N 91 ++ gs 8 91)⟩, ⟨26, 4, .slice Agy (N + 8) cgy, N + 8, nums .u64 (ms N 93 ++ gs 8 93)⟩, ⟨26, 4, .slice Agz (2 + 8) cgz, 2 + 8, nums .u64 (ms 2 95 ++ gs 8 95)⟩, ⟨26, 4, .slice Ak N ck, N, nums .u64 ws⟩, ⟨26, 4, .slice (some ⟨g6, 0, none⟩) 2 2, 2, nums .u64 eight⟩, ⟨26, 4, .slice Ax2 N cx2, N, nums .u64 ws⟩]) := Lib.hid (show Hold W19 _ _ from H19.out)
      have HB19d : Hid (Below w.heap.size w W19.drew) := Lib.hid (below_drew HB19.out)
      have s1 := hold_same (i := 7) (j := 5) H19d.out rfl rfl HWL.out N47.out.1
      rw [← textOf_eq (.tmp 174), ← textOf_eq (.tmp 177)]
      go_region_held3 (fun w' => True) (trivial) (first | ((go_at_call 18; with_reducible refine s1.mono ?_; rintro e y5 ⟨rfl, h5, q5⟩; have z5 := below_self HB19d.out q5; have fx5 := run_bytes36 (c := c7) (rows_read (h5.at_ (i := 0) rfl)) LF.out; have t3 := bytes_any A L c xs y5 (HR.out.below z5) HL.out (by omega))) | ((go_at_call 22; with_reducible refine t3.mono ?_; rintro e y6 ⟨v22, rfl, o22, q6⟩; obtain ⟨A22, c22, rfl, r22, _⟩ := rows_reads o22; have z6 := below_self z5 q6; have h6 := h5.below q6; have fx6 := run_bytes36 (c := c7) (rows_read (h6.at_ (i := 0) rfl)) LF.out; have fb6 := run_bytes36 (c := c22) r22 LF.out)))
      all_goals
        go_wp2_with fail
        go_meet
        exact ⟨rfl, Lib.hid h6, Lib.hid z6⟩
  clear H19 HB19
  obtain ⟨rfl, H20, HB20⟩ := hcut
  obtain ⟨g7, rfl, hg7⟩ := own_addr (H20.out.at_ (i := 0) rfl) (by omega)
  have H21 : Hid (Hold wc w.heap.size [⟨5, 1, .slice (some ⟨g7, 0, none⟩) (L + 3) c7, L + 3, nums .u8 (flipK (xs ++ spareB) 0)⟩, ⟨5, 1, .slice A8 96 c8, 96, nums .u8 X⟩, ⟨26, 4, .slice Agx (N + 8) cgx, N + 8, nums .u64 (ms N 91 ++ gs 8 91)⟩, ⟨26, 4, .slice Agy (N + 8) cgy, N + 8, nums .u64 (ms N 93 ++ gs 8 93)⟩, ⟨26, 4, .slice Agz (2 + 8) cgz, 2 + 8, nums .u64 (ms 2 95 ++ gs 8 95)⟩, ⟨26, 4, .slice Ak N ck, N, nums .u64 ws⟩, ⟨26, 4, .slice (some ⟨g6, 0, none⟩) 2 2, 2, nums .u64 eight⟩, ⟨26, 4, .slice Ax2 N cx2, N, nums .u64 ws⟩]) := Lib.hid (by have h := H20.out; simpa [flipK, flipL] using h)
  have HYB : Hid (IsBytes (xs ++ spareB)) := Lib.hid (HX.out.app (fun x hx => by simp [spareB] at hx; omega))
  clear H20
  go_upto_region 23 with (fail)
  go_loopw [22] (fun i wr => ∃ k : Nat, k ≤ L + 3 ∧ i = .int .i64 k ∧ Hid (Hold wr w.heap.size [⟨5, 1, .slice (some ⟨g7, 0, none⟩) (L + 3) c7, L + 3, nums .u8 (flipK (xs ++ spareB) k)⟩, ⟨5, 1, .slice A8 96 c8, 96, nums .u8 X⟩, ⟨26, 4, .slice Agx (N + 8) cgx, N + 8, nums .u64 (ms N 91 ++ gs 8 91)⟩, ⟨26, 4, .slice Agy (N + 8) cgy, N + 8, nums .u64 (ms N 93 ++ gs 8 93)⟩, ⟨26, 4, .slice Agz (2 + 8) cgz, 2 + 8, nums .u64 (ms 2 95 ++ gs 8 95)⟩, ⟨26, 4, .slice Ak N ck, N, nums .u64 ws⟩, ⟨26, 4, .slice (some ⟨g6, 0, none⟩) 2 2, 2, nums .u64 eight⟩, ⟨26, 4, .slice Ax2 N cx2, N, nums .u64 ws⟩]) ∧ Hid (Below w.heap.size w wr)) (fun i _ => L + 3 - (intOf i).toNat)
  case atStart => exact ⟨0, by omega, rfl, H21, HB20⟩
  case round =>
    obtain ⟨k, hk, rfl, HH, HBB⟩ := hrel
    by_cases hlt : k < L + 3
    · obtain ⟨y, hy⟩ : ∃ y, (xs ++ spareB)[k]? = some y := ⟨_, List.getElem?_eq_getElem (by rw [LF.out]; exact hlt)⟩
      have hyr := HYB.out y (List.mem_of_getElem? hy)
      obtain ⟨y0, rfl⟩ : ∃ y0 : Nat, y = y0 := ⟨y.toNat, by omega⟩
      have hxor : bits .xor .u8 (y0 : Int) 1 = ((y0 ^^^ 1 : Nat) : Int) := u8_xor_nat y0 1 (by omega) (by decide)
      have hset := flipK_set hy
      rw [Int.toNat_natCast] at hset
      obtain ⟨z, hz⟩ : ∃ z : Nat, y0 ^^^ 1 = z := ⟨_, rfl⟩
      rw [hz] at hxor hset
      obtain ⟨g', eg, hcell, hfz, hown⟩ := rows_store (HH.out.at_ (i := 0) rfl) (i := k) (by rw [nums_length, flipK_length, LF.out]; exact hlt) (.int .u8 (z : Int))
      cases eg
      rw [nums_get, flipK_at hy] at hcell
      simp only [Option.map_some] at hcell
      rw [nums_set, hset] at hown
      have HN : Hid (Hold (wr.setCell ⟨g7, k, none⟩ (.int .u8 (z : Int))) w.heap.size [⟨5, 1, .slice (some ⟨g7, 0, none⟩) (L + 3) c7, L + 3, nums .u8 (flipK (xs ++ spareB) (k + 1))⟩, ⟨5, 1, .slice A8 96 c8, 96, nums .u8 X⟩, ⟨26, 4, .slice Agx (N + 8) cgx, N + 8, nums .u64 (ms N 91 ++ gs 8 91)⟩, ⟨26, 4, .slice Agy (N + 8) cgy, N + 8, nums .u64 (ms N 93 ++ gs 8 93)⟩, ⟨26, 4, .slice Agz (2 + 8) cgz, 2 + 8, nums .u64 (ms 2 95 ++ gs 8 95)⟩, ⟨26, 4, .slice Ak N ck, N, nums .u64 ws⟩, ⟨26, 4, .slice (some ⟨g6, 0, none⟩) 2 2, 2, nums .u64 eight⟩, ⟨26, 4, .slice Ax2 N cx2, N, nums .u64 ws⟩]) := Lib.hid (HH.out.turn (i := 0) rfl (only_setCell (p := ⟨g7, k, none⟩) (only_refl _ _) (.inl rfl) _) (r' := ⟨5, 1, .slice (some ⟨g7, 0, none⟩) (L + 3) c7, L + 3, nums .u8 (flipK (xs ++ spareB) (k + 1))⟩) hown (.inl rfl))
      have HBN : Hid (Below w.heap.size w (wr.setCell ⟨g7, k, none⟩ (.int .u8 (z : Int)))) := Lib.hid (HBB.out.setCell (p := ⟨g7, k, none⟩) hg7 _)
      clear hset hown hy hz hyr
      go_wp2
      go_roundw
      case rel => exact ⟨k + 1, by omega, by go_num, HN, HBN⟩
      case measure => simp [intOf]; omega
    · obtain rfl : k = L + 3 := by omega
      have hfl : flipK (xs ++ spareB) (L + 3) = flipL xs ++ flipL spareB := by
        have h := flipK_all (xs ++ spareB)
        rw [LF.out] at h
        rw [h]; simp [flipL]
      obtain ⟨fx, hfx⟩ : ∃ fx, flipL xs = fx := ⟨_, rfl⟩
      have FXL : Hid (fx.length = L) := Lib.hid (by rw [← hfx, flipL_length]; exact HL.out)
      have FXB : Hid (IsBytes fx) := Lib.hid (by rw [← hfx]; exact flipL_bytes HX.out)
      have H25 : Hid (Hold wr w.heap.size [⟨5, 1, .slice (some ⟨g7, 0, none⟩) (L + 3) c7, L + 3, nums .u8 (fx ++ flipL spareB)⟩, ⟨5, 1, .slice A8 96 c8, 96, nums .u8 X⟩, ⟨26, 4, .slice Agx (N + 8) cgx, N + 8, nums .u64 (ms N 91 ++ gs 8 91)⟩, ⟨26, 4, .slice Agy (N + 8) cgy, N + 8, nums .u64 (ms N 93 ++ gs 8 93)⟩, ⟨26, 4, .slice Agz (2 + 8) cgz, 2 + 8, nums .u64 (ms 2 95 ++ gs 8 95)⟩, ⟨26, 4, .slice Ak N ck, N, nums .u64 ws⟩, ⟨26, 4, .slice (some ⟨g6, 0, none⟩) 2 2, 2, nums .u64 eight⟩, ⟨26, 4, .slice Ax2 N cx2, N, nums .u64 ws⟩]) := Lib.hid (by rw [← hfx, ← hfl]; exact HH.out)
      clear hfl hfx HH H21 HB20
      have s1 := hold_same (i := 7) (j := 5) H25.out rfl rfl HWL.out N47.out.1
      go_upto_region 28 with (go_at_call 18; with_reducible refine s1.mono ?_; rintro e W26 ⟨rfl, h1, q1⟩)
      have HB26 := Lib.hid (below_self HBB.out q1)
      have H26 := Lib.hid h1
      clear s1 h1 q1 H25 HBB DA RA SA SR
      obtain ⟨E2, hE2⟩ : ∃ E, decE kind place fx = E := ⟨_, rfl⟩
      obtain ⟨N2, hN2⟩ : ∃ N, decN kind place fx = N := ⟨_, rfl⟩
      obtain ⟨ws2, hws2⟩ : ∃ ws, decL kind place fx = ws := ⟨_, rfl⟩
      have HWL2 : Hid (ws2.length = N2 * 4) := Lib.hid (by rw [← hws2, ← hN2, decL_length]; omega)
      have NL2 : Hid (N2 ≤ 140737488355328) := Lib.hid (by have := decN_le (kind := kind) (place := place) FXB.out; omega)
      have f26 := run_bytes36 (c := c7) (rows_read (H26.out.at_ (i := 0) rfl)).head FXL.out
      obtain ⟨c28, W27, hrun, r27, b27, hc28⟩ := text_bytes W26 fx FXB.out
      rw [FXL.out] at hrun hc28
      have HB27 := Lib.hid (below_self HB26.out b27)
      have H27 := Lib.hid (H26.out.below b27)
      have hcall : Calls Tryd.prog 24 #[.int .i64 kind, .int .i64 place, .slice (some ⟨W26.heap.size, 0, none⟩) L c28] W27
          (fun e w' => ∃ v, e = .returned (.tuple #[v, .int .i64 E2]) ∧ w'.ownsRow W27.heap.size 26 4 v N2 (nums .u64 ws2) ∧ Below W27.heap.size W27 w') :=
        (decode_ref kind place _ L c28 fx W27 HKP.out.1 HKP.out.2 r27 FXB.out FXL.out hc28 (by omega)).mono fun e w' ⟨v, he, ho, hb⟩ => ⟨v, by rw [he, hE2], by rw [hN2, hws2] at ho; exact ho, hb⟩
      go_upto_region 29 with (go_at_call 24; refine hcall.mono ?_; rintro e W28 ⟨v, rfl, o, b⟩)
      have HB28 := Lib.hid (below_self HB27.out b)
      obtain ⟨Ak2, ck2, rfl, _⟩ := rows_reads o
      have H28 : Hid (Hold W28 w.heap.size [⟨5, 1, .slice (some ⟨g7, 0, none⟩) (L + 3) c7, L + 3, nums .u8 (fx ++ flipL spareB)⟩, ⟨5, 1, .slice A8 96 c8, 96, nums .u8 X⟩, ⟨26, 4, .slice Agx (N + 8) cgx, N + 8, nums .u64 (ms N 91 ++ gs 8 91)⟩, ⟨26, 4, .slice Agy (N + 8) cgy, N + 8, nums .u64 (ms N 93 ++ gs 8 93)⟩, ⟨26, 4, .slice Agz (2 + 8) cgz, 2 + 8, nums .u64 (ms 2 95 ++ gs 8 95)⟩, ⟨26, 4, .slice Ak N ck, N, nums .u64 ws⟩, ⟨26, 4, .slice (some ⟨g6, 0, none⟩) 2 2, 2, nums .u64 eight⟩, ⟨26, 4, .slice Ax2 N cx2, N, nums .u64 ws⟩, ⟨26, 4, .slice Ak2 N2 ck2, N2, nums .u64 ws2⟩]) := Lib.hid (H27.out.new b HB27.out.size (r := ⟨26, 4, .slice Ak2 N2 ck2, N2, nums .u64 ws2⟩) o)
      clear hcall o b hrun r27 b27 f26 H26 H27 HB26 HB27 hc28
      have hcall : Calls Tryd.prog 23 #[.int .i64 kind, .int .i64 place, .slice (some ⟨g7, 0, none⟩) L c7] W28
          (fun e w' => ∃ v, e = .returned (.tuple #[v, .int .i64 E2]) ∧ w'.ownsRow W28.heap.size 26 4 v N2 (nums .u64 ws2) ∧ Below W28.heap.size W28 w') :=
        (decode_any kind place _ L c7 fx W28 (HM.out.below HB28.out) (HT.out.below HB28.out) HKP.out.1 HKP.out.2 (rows_read (H28.out.at_ (i := 0) rfl)).head FXB.out FXL.out (by omega) (by omega)).mono fun e w' ⟨v, he, ho, hb⟩ => ⟨v, by rw [he, hE2], by rw [hN2, hws2] at ho; exact ho, hb⟩
      clear hE2 hN2 hws2
      go_upto_region 30 with (go_at_call 23; refine hcall.mono ?_; rintro e W29 ⟨v, rfl, o, b⟩)
      have HB29 := Lib.hid (below_self HB28.out b)
      obtain ⟨Ax3, cx3, rfl, _⟩ := rows_reads o
      have H29 : Hid (Hold W29 w.heap.size [⟨5, 1, .slice (some ⟨g7, 0, none⟩) (L + 3) c7, L + 3, nums .u8 (fx ++ flipL spareB)⟩, ⟨5, 1, .slice A8 96 c8, 96, nums .u8 X⟩, ⟨26, 4, .slice Agx (N + 8) cgx, N + 8, nums .u64 (ms N 91 ++ gs 8 91)⟩, ⟨26, 4, .slice Agy (N + 8) cgy, N + 8, nums .u64 (ms N 93 ++ gs 8 93)⟩, ⟨26, 4, .slice Agz (2 + 8) cgz, 2 + 8, nums .u64 (ms 2 95 ++ gs 8 95)⟩, ⟨26, 4, .slice Ak N ck, N, nums .u64 ws⟩, ⟨26, 4, .slice (some ⟨g6, 0, none⟩) 2 2, 2, nums .u64 eight⟩, ⟨26, 4, .slice Ax2 N cx2, N, nums .u64 ws⟩, ⟨26, 4, .slice Ak2 N2 ck2, N2, nums .u64 ws2⟩, ⟨26, 4, .slice Ax3 N2 cx3, N2, nums .u64 ws2⟩]) := Lib.hid (H28.out.new b HB28.out.size (r := ⟨26, 4, .slice Ax3 N2 cx3, N2, nums .u64 ws2⟩) o)
      clear hcall o b H28 HB28
      obtain ⟨S2, hS2⟩ : ∃ S, sumV fx = S := ⟨_, rfl⟩
      have SA : Hid (∀ W, Below w.heap.size w W → ∀ (C : Option Addr) (d : Nat), Reads W .u8 C fx → Calls Tryd.prog 25 #[.slice C L d] W fun e w' => e = .returned (.int .u32 S2) ∧ Below W.heap.size W w') := Lib.hid (fun W hW C d hC => by
        have h := sum_any C L d fx W (HT.out.below hW) hC FXB.out FXL.out (by omega)
        rw [hS2] at h; exact h)
      have SR : Hid (∀ W (C : Option Addr) (d : Nat), Reads W .u8 C fx → Calls Tryd.prog 26 #[.slice C L d] W fun e w' => e = .returned (.int .u32 S2) ∧ Below W.heap.size W w') := Lib.hid (fun W C d hC => by
        have h := sum_ref C L d fx W hC FXB.out FXL.out (by omega)
        rw [hS2] at h; exact h)
      have TB : Hid (∀ W, ∃ c w2, (convert 9 36 (.string (strOfNums fx))).run Tryd.prog W = .ok (.slice (some ⟨W.heap.size, 0, none⟩) L c) w2 ∧ Reads w2 .u8 (some ⟨W.heap.size, 0, none⟩) fx ∧ Below W.heap.size W w2) := Lib.hid (fun W => by
        obtain ⟨c, w2, h1, h2, h3, _⟩ := text_bytes W fx FXB.out
        rw [FXL.out] at h1
        exact ⟨c, w2, h1, h2, h3⟩)
      clear hS2
      go_cut [6] (fun s6 wx => s6 = .bool true ∧ Hid (Below w.heap.size w wx))
      case first =>
        as_aux_lemma =>
          have H29d : Hid (Hold W29.drew w.heap.size [⟨5, 1, .slice (some ⟨g7, 0, none⟩) (L + 3) c7, L + 3, nums .u8 (fx ++ flipL spareB)⟩, ⟨5, 1, .slice A8 96 c8, 96, nums .u8 X⟩, ⟨26, 4, .slice Agx (N + 8) cgx, N + 8, nums .u64 (ms N 91 ++ gs 8 91)⟩, ⟨26, 4, .slice Agy (N + 8) cgy, N + 8, nums .u64 (ms N 93 ++ gs 8 93)⟩, ⟨26, 4, .slice Agz (2 + 8) cgz, 2 + 8, nums .u64 (ms 2 95 ++ gs 8 95)⟩, ⟨26, 4, .slice Ak N ck, N, nums .u64 ws⟩, ⟨26, 4, .slice (some ⟨g6, 0, none⟩) 2 2, 2, nums .u64 eight⟩, ⟨26, 4, .slice Ax2 N cx2, N, nums .u64 ws⟩, ⟨26, 4, .slice Ak2 N2 ck2, N2, nums .u64 ws2⟩, ⟨26, 4, .slice Ax3 N2 cx3, N2, nums .u64 ws2⟩]) := Lib.hid (show Hold W29 _ _ from H29.out)
          have HB29d : Hid (Below w.heap.size w W29.drew) := Lib.hid (below_drew HB29.out)
          have s1 := hold_same (i := 9) (j := 8) H29d.out rfl rfl HWL2.out NL2.out
          rw [← textOf_eq (.tmp 238), ← backOf_eq (.tmp 239)]
          go_region_held3 (fun w' => True) (trivial) (first | ((go_at_call 18; with_reducible refine s1.mono ?_; rintro e y1 ⟨rfl, h1, q1⟩; have z1 := below_self HB29d.out q1; have f1 := run_bytes36 (c := c7) (rows_read (h1.at_ (i := 0) rfl)).head FXL.out; obtain ⟨cA, yA, runA, rA, bA⟩ := TB.out y1; have hA := h1.below bA; have zA := below_self z1 bA; have t1 := SA.out y1 z1 (some ⟨g7, 0, none⟩) c7 (rows_read (h1.at_ (i := 0) rfl)).head; have tA := SA.out yA zA (some ⟨g7, 0, none⟩) c7 (rows_read (hA.at_ (i := 0) rfl)).head)) | ((go_at_call 25; with_reducible refine t1.mono ?_; rintro e y2 ⟨rfl, q2⟩; have h2 := h1.below q2; have f2 := run_bytes36 (c := c7) (rows_read (h2.at_ (i := 0) rfl)).head FXL.out; have z2 := below_self z1 q2; obtain ⟨cB, yB, runB, rB, bB⟩ := TB.out y2; have zB := below_self z2 bB; have uB := SR.out yB _ cB rB)) | ((go_at_call 25; with_reducible refine tA.mono ?_; rintro e y4 ⟨rfl, q4⟩; have z4 := below_self zA q4; have uA := SR.out y4 _ cA (rA.below q4))) | ((go_at_call 26; with_reducible refine uB.mono ?_; rintro e y5 ⟨rfl, q5⟩; have zz := below_self zB q5)) | ((go_at_call 26; with_reducible refine uA.mono ?_; rintro e y5 ⟨rfl, q5⟩; have zz := below_self z4 q5)))
          all_goals
            go_wp2_with fail
            go_meet
            exact ⟨rfl, Lib.hid zz⟩
      obtain ⟨rfl, HBF⟩ := hcut
      go_wp2
      go_ret
      exact ⟨rfl, HBF.out⟩
end Go.Proofs.YtambpbgmmmiocaaDoor
