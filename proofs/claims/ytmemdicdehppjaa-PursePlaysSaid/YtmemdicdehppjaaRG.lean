/- makes: Part. -/
import Derived.Test.YtmemdicdehppjaaRH
namespace Go.Proofs.Ytmemdicdehppjaa
open Go.RowKit

theorem below_drew0 {B : Nat} {w w' : World} (h : Below B w w') : Below B w w'.drew := ⟨h.os, h.tape, h.output, h.size, h.block⟩
theorem Tur.cell {w w' : World} {bs : List Nat} (h : Tur w w' bs) {g i : Nat} {v : Value} (hc : w.cell? ⟨g, i, none⟩ = some v) (hg : g ∉ bs) : w'.cell? ⟨g, i, none⟩ = some v := by
  have hlt : g < w.heap.size := by
    rcases Nat.lt_or_ge g w.heap.size with hlt | hge
    · exact hlt
    · have : w.heap[g]? = none := Array.getElem?_eq_none hge
      simp [World.cell?, this] at hc
  have := h.block g hlt hg
  simp only [World.cell?, this] at hc ⊢
  exact hc
theorem rparted_tur {base r0 r : Nat} {s : RS} {ks : List RK} {n : Int} {w w' : World} (h : RParted base r0 s ks n w (.returned (.tuple #[.pointer (some ⟨r, 0, none⟩), .int .i64 0])) w') : Tur w w' (r0 :: s.row.ownBlock.toList) := by
  rcases h with ⟨_, h1, _⟩ | ⟨_, q, v, _, _, _, _, _, h1, _⟩
  · simp at h1
  · exact h1
theorem map_set_eq0 {α β : Type} (f : α → β) : ∀ {l : List α} {i : Nat} {x y : α}, l[i]? = some x → f y = f x → (l.set i y).map f = l.map f
  | [], i, x, y, h, _ => by simp at h
  | z :: l, 0, x, y, h, e => by
    simp at h
    subst h
    simp [e]
  | z :: l, i + 1, x, y, h, e => by
    simp only [List.set_cons_succ, List.map_cons]
    rw [map_set_eq0 f (by simpa using h) e]
theorem aPtrs_parted {N : List ND} {i : Nat} {x : ND} {n : Int} {v : Value} (hi : N[i]? = some x) (q r : Nat) : aPtrs (N.set i (x.parted N i n v) ++ [x.born i q r n]) = aPtrs N ++ [.pointer (some ⟨q, 0, none⟩)] := by
  unfold aPtrs
  rw [List.map_append, map_set_eq0 _ hi (y := x.parted N i n v) rfl]
  rfl
theorem bPtrs_parted {N : List ND} {i : Nat} {x : ND} {n : Int} {v : Value} (hi : N[i]? = some x) (q r : Nat) : bPtrs (N.set i (x.parted N i n v) ++ [x.born i q r n]) = bPtrs N ++ [.pointer (some ⟨r, 0, none⟩)] := by
  unfold bPtrs
  rw [List.map_append, map_set_eq0 _ hi (y := x.parted N i n v) rfl]
  rfl
section
variable {w w' : World} {base : Nat} {N : List ND}
set_option maxRecDepth 100000 in
set_option maxHeartbeats 4000000 in
theorem makes_part {va vb : Value} (on k n : Int) (h : Laid w base N va vb) (hbase : base ≤ w.heap.size) (hk : k ≠ 1) (hlen0 : 1 ≤ N.length) (hlen : (N.length + 1) * 8 ≤ 140737488351232) (hon : -9223372036854775808 ≤ on ∧ on ≤ 9223372036854775807) (hn : -9223372036854775808 ≤ n ∧ n ≤ 9223372036854775807) :
    Calls Try.prog 15 #[.agg #[.int .i64 on, .int .i64 k, .int .i64 n], va, vb] w (Made w base N) := by
  have hbl := below1 w (.cells #[.int .i64 on, .int .i64 k, .int .i64 n] 29)
  have HL := Lib.hid (h.below hbl)
  have HB := Lib.hid hbl
  have HO := Lib.hid (Blk.new w 29 [.int .i64 on, .int .i64 k, .int .i64 n])
  obtain ⟨A, ca, hva⟩ := h.a.form
  obtain ⟨B, cb, hvb⟩ := h.b.form
  rw [List.length_map] at hva hvb
  have hmax : N.length ≤ 4611686018427387904 := by omega
  have C1 := Lib.hid (fun W => on_any on N.length W hon ⟨hlen0, hmax⟩)
  have HBB := Lib.hid hbase
  have e1 : (k == 1) = false := by simpa using hk
  have HNR := Lib.hid hn
  have HS : Hid (base ≤ (w.alloc (.cells #[.int .i64 on, .int .i64 k, .int .i64 n] 29)).heap.size) := Lib.hid (Nat.le_trans hbase hbl.size)
  subst hva hvb
  clear h hbl hbase hn hon
  go_enter Try.func15, Try.ntmps15
  go_upto_region 13 with (go_at_call 16; with_reducible refine (C1.out _).mono ?_; rintro e W2 ⟨i, rfl, hi, rfl⟩; have hi0 : (0 : Int) ≤ (i : Int) := by omega)
  obtain ⟨x, hx⟩ : ∃ x, N[i]? = some x := ⟨_, List.getElem?_eq_getElem hi⟩
  generalize w.alloc (.cells #[.int .i64 on, .int .i64 k, .int .i64 n] 29) = W1 at *
  obtain ⟨E, hE⟩ : ∃ E, askE (x.ps N i) n = E := ⟨_, rfl⟩
  obtain ⟨ga, hga, ca1⟩ := HL.out.a.first (i := i) (u := .pointer (some ⟨x.b, 0, none⟩)) (by rw [List.getElem?_map, hx]; rfl)
  obtain ⟨gb, hgb, cb1⟩ := HL.out.b.first (i := i) (u := .pointer (some ⟨x.r, 0, none⟩)) (by rw [List.getElem?_map, hx]; rfl)
  subst hga hgb
  have co := (HO.out.cell 2)
  have co1 : W1.cell? ⟨w.heap.size, 2, none⟩ = some (.int .i64 n) := co.trans rfl
  clear co
  have hin : (i : Int) < (N.length : Int) := by omega
  have HX := Lib.hid hx
  by_cases h0 : E = 0
  · subst h0
    have hc : (x.ps N i).cnt ≤ 4611686018427387904 := by
      have h1 := kidCnt_le (kids N i)
      have h2 := kids_length (N := N) i
      show kidCnt (kids N i) ≤ _
      omega
    have HLd : Hid (Laid W1.drew base N (.slice (some ⟨ga, 0, none⟩) N.length ca) (.slice (some ⟨gb, 0, none⟩) N.length cb)) := Lib.hid (HL.out.still ⟨rfl, rfl, rfl, Nat.le_refl _, fun _ _ _ => rfl⟩)
    have D1 : Calls Try.prog 19 #[.pointer (some ⟨x.b, 0, none⟩), .int .i64 n] W1.drew fun e w' => ∃ q : Nat, e = .returned (.tuple #[.pointer (some ⟨q, 0, none⟩), .int .i64 0]) ∧ Hid (IsP w' x.b (partP (x.ps N i) n) ∧ IsP w' q (bornP (x.ps N i) x.b n) ∧ W1.drew.heap.size ≤ q) ∧ W1.drew.grownBy w' (some x.b) :=
      (part_any x.b _ n W1.drew (HLd.out.f.p i x hx) (HLd.out.f.g i x hx) HNR.out hc).mono fun e w' hh => by
        rcases hh with ⟨h1, _⟩ | ⟨_, q, h1, h2, h3, h4, h5⟩
        · exact absurd hE h1
        · exact ⟨q, h1, Lib.hid ⟨h2, h3, h4⟩, h5⟩
    have HOX : Hid (∀ W8, W1.drew.grownBy W8 (some x.b) → W8.cell? ⟨w.heap.size, 2, none⟩ = some (.int .i64 n)) := Lib.hid (fun W8 hg => by
      have hO : Blk W1.drew w.heap.size 29 [.int .i64 on, .int .i64 k, .int .i64 n] := HO.out
      exact ((hO.grown hg (fun e => hO.ne (HLd.out.f.p i x HX.out).1 (by decide) (Option.some.inj e))).cell 2).trans rfl)
    have HAX : Hid (∀ W8, W1.drew.grownBy W8 (some x.b) → W8.cell? ⟨ga, i, none⟩ = some (.pointer (some ⟨x.b, 0, none⟩)) ∧ W8.cell? ⟨gb, i, none⟩ = some (.pointer (some ⟨x.r, 0, none⟩))) := Lib.hid (fun W8 hg => by
      obtain ⟨_, e8, p8⟩ := (HLd.out.a.aside (HLd.out.f.p i x HX.out).1.typed (by decide) hg).first (i := i) (u := .pointer (some ⟨x.b, 0, none⟩)) (by rw [List.getElem?_map, HX.out]; rfl)
      cases e8
      obtain ⟨_, e8, q8⟩ := (HLd.out.b.aside (HLd.out.f.p i x HX.out).1.typed (by decide) hg).first (i := i) (u := .pointer (some ⟨x.r, 0, none⟩)) (by rw [List.getElem?_map, HX.out]; rfl)
      cases e8
      exact ⟨p8, q8⟩)
    have HE := Lib.hid hE
    clear hE hx
    go_cut [14, 15] (fun s14 s15 wx => ∃ q : Nat, s14 = .pointer (some ⟨q, 0, none⟩) ∧ s15 = .int .i64 0 ∧ Hid (IsP wx x.b (partP (x.ps N i) n) ∧ IsP wx q (bornP (x.ps N i) x.b n) ∧ W1.drew.heap.size ≤ q) ∧ Hid (W1.drew.grownBy wx (some x.b)))
    case first =>
      go_region_held3 (fun w' => w'.cell? ⟨ga, i, none⟩ = some (.pointer (some ⟨x.b, 0, none⟩)) ∧ w'.cell? ⟨w.heap.size, 2, none⟩ = some (.int .i64 n)) (first | exact ⟨ca1, co1⟩ | exact ⟨p8, q8⟩) (first | ((go_at_call 19; with_reducible refine D1.mono ?_; rintro e W8 ⟨q, rfl, hL8, hg8⟩; have q8 := HOX.out W8 hg8; have p8 := (HAX.out W8 hg8).1)))
      all_goals
        go_wp2_with fail
        go_meet
        exact ⟨q, rfl, rfl, hL8, Lib.hid hg8⟩
    obtain ⟨q, rfl, rfl, HPc, HGc⟩ := hcut
    have cb2 := (HAX.out wc HGc.out).2
    have co2 := HOX.out wc HGc.out
    have hSc : base ≤ wc.drew.heap.size := Nat.le_trans HS.out HGc.out.size
    have HSc := Lib.hid hSc
    have hgd : W1.drew.grownBy wc.drew (some x.b) := ⟨HGc.out.os, HGc.out.tape, HGc.out.output, HGc.out.size, HGc.out.block⟩
    have hr1 : Blk wc.drew x.r 69 x.rs.cells := (HLd.out.f.r i x HX.out).grown hgd (fun e => (HLd.out.f.r i x HX.out).ne (HLd.out.f.p i x HX.out).1 (by decide) (Option.some.inj e))
    have ho1 : Owns wc.drew base 40 x.row (kptrs (kids N i)) := (HLd.out.f.o i x HX.out).aside (HLd.out.f.p i x HX.out).1.typed (by decide) hgd
    have hb1 : Owns wc.drew base 40 (.slice (some ⟨gb, 0, none⟩) N.length cb) (bPtrs N) := HLd.out.b.aside (HLd.out.f.p i x HX.out).1.typed (by decide) hgd
    have hO1 : Blk wc.drew w.heap.size 29 [.int .i64 on, .int .i64 k, .int .i64 n] := by
      have hO : Blk W1.drew w.heap.size 29 [.int .i64 on, .int .i64 k, .int .i64 n] := HO.out
      exact hO.grown hgd (fun e => hO.ne (HLd.out.f.p i x HX.out).1 (by decide) (Option.some.inj e))
    have hpc : IsP wc.drew x.b (partP (x.ps N i) n) ∧ IsP wc.drew q (bornP (x.ps N i) x.b n) := ⟨⟨HPc.out.1.1, HPc.out.1.2⟩, ⟨HPc.out.2.1.1, HPc.out.2.1.2⟩⟩
    have HTX : Hid (∀ W9, Tur wc.drew W9 (x.r :: x.rs.row.ownBlock.toList) → W9.cell? ⟨gb, i, none⟩ = some (.pointer (some ⟨x.r, 0, none⟩)) ∧ W9.cell? ⟨w.heap.size, 2, none⟩ = some (.int .i64 n)) := Lib.hid (fun W9 hT => by
      refine ⟨hT.cell cb2 ?_, hT.cell co2 ?_⟩
      · simp only [List.mem_cons, not_or]
        refine ⟨(hb1.typed rfl).ne hr1.typed (by decide), fun hm => ?_⟩
        have e : x.row.ownBlock = some gb := by simpa [ND.rs] using hm
        have := HLd.out.d i x HX.out e
        rw [e] at this
        cases this
      · simp only [List.mem_cons, not_or]
        exact ⟨hO1.typed.ne hr1.typed (by decide), fun hm => hO1.typed.ne (ho1.typed (by simpa [ND.rs] using hm)) (by decide) rfl⟩)
    have hk1 : ∀ k ∈ kids N i, k.b ≠ x.r ∧ KidB wc.drew k := fun k hk => by
      obtain ⟨h1, ⟨s', hs', h2, h3⟩, _⟩ := HLd.out.f.kidB HX.out k hk
      exact ⟨h1, s', hs'.grown hgd (fun e => hs'.ne (HLd.out.f.p i x HX.out).1 (by decide) (Option.some.inj e)), h2, h3⟩
    have hkl := kids_length (N := N) i
    have HBc : Hid (∀ K, K ≤ base → Below K w wc.drew) := Lib.hid (fun K hK => by
      have h1 : Below K w W1.drew := below_drew0 (HB.out.mono (Nat.le_trans hK HBB.out))
      exact below_drew0 (h1.grown HGc.out (Nat.le_trans hK HS.out) (fun g e => by
        have := (HL.out.f.lo i x HX.out).1
        have e2 : x.b = g := Option.some.inj e
        omega)))
    have HFin : Hid (∀ r W9, RParted base x.r x.rs (kids N i) n wc.drew (.returned (.tuple #[.pointer (some ⟨r, 0, none⟩), .int .i64 0])) W9 → ∃ v, (Forest W9 base (N.set i (x.parted N i n v) ++ [x.born i q r n]) ∧ Owns W9 base 24 (.slice (some ⟨ga, 0, none⟩) N.length ca) (aPtrs N) ∧ Owns W9 base 40 (.slice (some ⟨gb, 0, none⟩) N.length cb) (bPtrs N) ∧
        ∀ (j : Nat) (z : ND), (N.set i (x.parted N i n v) ++ [x.born i q r n])[j]? = some z → z.row.ownBlock = (Value.slice (some ⟨gb, 0, none⟩) N.length cb).ownBlock → z.row.ownBlock = none) ∧ base ≤ W9.heap.size ∧ ∀ K, K ≤ base → Below K w W9) := Lib.hid (fun r W9 h9 => by
      have hT := rparted_tur h9
      rcases h9 with ⟨_, h1, _⟩ | ⟨_, r', v, h1, h2, h3, h4, h5, h6, h7⟩
      · simp at h1
      · have er : r = r' := by simpa using h1
        subst er
        refine ⟨v, laid_parted HLd.out HX.out HE.out hgd hpc.1 hpc.2 HPc.out.2.2 h2 h3 h4 h5 h6 h7 HS.out, Nat.le_trans hSc hT.size, fun K hK => hT.below (HBc.out K hK) (Nat.le_trans hK hSc) (fun g hg => ?_)⟩
        rcases List.mem_cons.1 hg with rfl | hg
        · exact Nat.le_trans hK (HL.out.f.lo i x HX.out).2.1
        · exact Nat.le_trans hK (ho1.lt (by simpa [ND.rs] using hg)).1)
    have D2 : Calls Try.prog 29 #[.pointer (some ⟨x.r, 0, none⟩), .int .i64 n] wc.drew fun e w' => ∃ r : Nat, e = .returned (.tuple #[.pointer (some ⟨r, 0, none⟩), .int .i64 0]) ∧ Hid (RParted base x.r x.rs (kids N i) n wc.drew (.returned (.tuple #[.pointer (some ⟨r, 0, none⟩), .int .i64 0])) w') :=
      (part_ref (base := base) n hr1 ho1 hk1 (HLd.out.f.rgood hmax HX.out) hSc (by omega) HNR.out).mono fun e w' hh => by
        have hh' := hh
        rcases hh with ⟨h1, _⟩ | ⟨_, r, v', h1, _⟩
        · exact absurd ((HLd.out.f.link HX.out).ask n |>.trans HE.out) h1
        · exact ⟨r, h1, Lib.hid (h1 ▸ hh')⟩
    clear ca1 cb1 co1 hSc hr1 ho1 hk1 hkl hgd hb1 hO1 hpc
    go_upto_region 14 with (fail)
    go_cut [16, 17] (fun s16 s17 wx => ∃ r : Nat, s16 = .pointer (some ⟨r, 0, none⟩) ∧ s17 = .int .i64 0 ∧ Hid (∃ v, (Forest wx base (N.set i (x.parted N i n v) ++ [x.born i q r n]) ∧ Owns wx base 24 (.slice (some ⟨ga, 0, none⟩) N.length ca) (aPtrs N) ∧ Owns wx base 40 (.slice (some ⟨gb, 0, none⟩) N.length cb) (bPtrs N) ∧
        ∀ (j : Nat) (z : ND), (N.set i (x.parted N i n v) ++ [x.born i q r n])[j]? = some z → z.row.ownBlock = (Value.slice (some ⟨gb, 0, none⟩) N.length cb).ownBlock → z.row.ownBlock = none) ∧ base ≤ wx.heap.size ∧ ∀ K, K ≤ base → Below K w wx))
    case first =>
      go_region_held3 (fun w' => w'.cell? ⟨gb, i, none⟩ = some (.pointer (some ⟨x.r, 0, none⟩)) ∧ w'.cell? ⟨w.heap.size, 2, none⟩ = some (.int .i64 n)) (first | exact ⟨cb2, co2⟩ | exact ⟨p9, q9⟩) (first | ((go_at_call 29; with_reducible refine D2.mono ?_; rintro e W9 ⟨r, rfl, h9⟩; have p9 := (HTX.out W9 (rparted_tur h9.out)).1; have q9 := (HTX.out W9 (rparted_tur h9.out)).2)))
      all_goals
        go_wp2_with fail
        go_meet
        exact ⟨r, rfl, rfl, Lib.hid (HFin.out r _ h9.out)⟩
    clear HFin D2 HTX HBc HPc HGc HLd HAX HOX
    obtain ⟨r, rfl, rfl, HR⟩ := hcut
    obtain ⟨v, HR⟩ := HR.out
    have HR := Lib.hid HR
    generalize wc = W3 at *
    have hA4 := Lib.hid (HR.out.1.2.1.below (below1 W3 (.cells [Value.pointer (some ⟨q, 0, none⟩)].toArray 24)))
    have hla := aPtrs_length N
    have hlb := bPtrs_length N
    have hsz3 := HR.out.2.1
    go_upto_region 19 with (at_builtin; refine wpList_push2 rfl _ _ 34 rfl base 24 _ 8 Try.underlying34 info24 rfl (.slice (some ⟨ga, 0, none⟩) N.length ca) (aPtrs N) rfl hA4.out ⟨W3.heap.size, 0, none⟩ (.pointer (some ⟨q, 0, none⟩)) rfl (by simp [go_sem]) rfl (by simp only [maxLen]; omega) (by omega) (by simp; omega) ?_; intro v5 W5 hown1 hg1 hb1)
    have HA5 := Lib.hid hown1
    have HG5 := Lib.hid hg1
    have hB4 := Lib.hid (HR.out.1.2.2.1.below (below1 W3 (.cells [Value.pointer (some ⟨q, 0, none⟩)].toArray 24)))
    have hB5 := Lib.hid (hB4.out.asideR hA4.out (by decide) hg1)
    have hB6 := Lib.hid (hB5.out.below (below1 W5 (.cells [Value.pointer (some ⟨r, 0, none⟩)].toArray 40)))
    have hsz5 : base ≤ W5.heap.size := by
      have h1 := hg1.size
      have h2 := (below1 W3 (.cells [Value.pointer (some ⟨q, 0, none⟩)].toArray 24)).size
      omega
    have HSZ5 := Lib.hid hsz5
    clear hown1 hg1 hb1
    go_wp2_with (at_builtin; refine wpList_push2 rfl _ _ 35 rfl base 40 _ 8 Try.underlying35 info40 rfl (.slice (some ⟨gb, 0, none⟩) N.length cb) (bPtrs N) rfl hB6.out ⟨W5.heap.size, 0, none⟩ (.pointer (some ⟨r, 0, none⟩)) rfl (by simp [go_sem]) rfl (by simp only [maxLen]; omega) (by omega) (by simp; omega) ?_; intro v7 W7 hown2 hg2 hb2)
    go_ret3
    have ea := aPtrs_parted (n := n) (v := v) HX.out q r
    have eb := bPtrs_parted (n := n) (v := v) HX.out q r
    refine ⟨N.set i (x.parted N i n v) ++ [x.born i q r n], v5, v7, rfl, by simp, laid_push HR.out.1.1 HR.out.1.2.1 HR.out.1.2.2.1 HR.out.1.2.2.2 ea eb _ HG5.out HA5.out _ hg2 hown2 hb2, fun K hK => ?_⟩
    have k3 : Below K w W3 := HR.out.2.2 K hK
    have k4 := k3.alloc (Nat.le_trans hK HR.out.2.1) (.cells [Value.pointer (some ⟨q, 0, none⟩)].toArray 24)
    have k5 := below_row k4 (Nat.le_trans hK (Nat.le_trans HR.out.2.1 (below1 W3 (.cells [Value.pointer (some ⟨q, 0, none⟩)].toArray 24)).size)) hA4.out hK HG5.out
    have k6 := k5.alloc (Nat.le_trans hK HSZ5.out) (.cells [Value.pointer (some ⟨r, 0, none⟩)].toArray 40)
    exact below_row k6 (Nat.le_trans hK (Nat.le_trans HSZ5.out (below1 W5 (.cells [Value.pointer (some ⟨r, 0, none⟩)].toArray 40)).size)) hB6.out hK hg2
  · have D1 := Lib.hid (fun W (hW : Laid W base N (.slice (some ⟨ga, 0, none⟩) N.length ca) (.slice (some ⟨gb, 0, none⟩) N.length cb)) => laid_part_no hW hx hmax HNR.out hE h0)
    have D2 := Lib.hid (fun W (hW : Laid W base N (.slice (some ⟨ga, 0, none⟩) N.length ca) (.slice (some ⟨gb, 0, none⟩) N.length cb)) (hb : base ≤ W.heap.size) => laid_ref_no hW hx hlen hb HNR.out hE h0)
    have HE := Lib.hid h0
    have HOT := Lib.hid (HO.out)
    have HLd : Hid (Laid W1.drew base N (.slice (some ⟨ga, 0, none⟩) N.length ca) (.slice (some ⟨gb, 0, none⟩) N.length cb)) := Lib.hid (HL.out.still ⟨rfl, rfl, rfl, Nat.le_refl _, fun _ _ _ => rfl⟩)
    have HOX : Hid (∀ W8, W1.drew.grownBy W8 (some x.b) → W8.cell? ⟨w.heap.size, 2, none⟩ = some (.int .i64 n)) := Lib.hid (fun W8 hg => by
      have hO : Blk W1.drew w.heap.size 29 [.int .i64 on, .int .i64 k, .int .i64 n] := HO.out
      exact ((hO.grown hg (fun e => hO.ne (HLd.out.f.p i x HX.out).1 (by decide) (Option.some.inj e))).cell 2).trans rfl)
    have HAX : Hid (∀ W8, Laid W8 base N (.slice (some ⟨ga, 0, none⟩) N.length ca) (.slice (some ⟨gb, 0, none⟩) N.length cb) → W8.cell? ⟨ga, i, none⟩ = some (.pointer (some ⟨x.b, 0, none⟩)) ∧ W8.cell? ⟨gb, i, none⟩ = some (.pointer (some ⟨x.r, 0, none⟩))) := Lib.hid (fun W8 hL => by
      obtain ⟨_, e8, p8⟩ := hL.a.first (i := i) (u := .pointer (some ⟨x.b, 0, none⟩)) (by rw [List.getElem?_map, HX.out]; rfl)
      cases e8
      obtain ⟨_, e8, q8⟩ := hL.b.first (i := i) (u := .pointer (some ⟨x.r, 0, none⟩)) (by rw [List.getElem?_map, HX.out]; rfl)
      cases e8
      exact ⟨p8, q8⟩)
    clear hE h0 hx
    go_cut [14, 15] (fun s14 s15 wx => s14 = .pointer none ∧ s15 = .int .i64 E ∧ Hid (Laid wx base N (.slice (some ⟨ga, 0, none⟩) N.length ca) (.slice (some ⟨gb, 0, none⟩) N.length cb)) ∧ Hid (W1.drew.grownBy wx (some x.b)))
    case first =>
      have d1 := D1.out W1.drew HLd.out
      go_region_held3 (fun w' => w'.cell? ⟨ga, i, none⟩ = some (.pointer (some ⟨x.b, 0, none⟩)) ∧ w'.cell? ⟨w.heap.size, 2, none⟩ = some (.int .i64 n)) (first | exact ⟨ca1, co1⟩ | exact ⟨p8, q8⟩) (first | ((go_at_call 19; with_reducible refine d1.mono ?_; rintro e W8 ⟨rfl, hL8, hg8⟩; have q8 := HOX.out W8 hg8; have p8 := (HAX.out W8 hL8).1)))
      all_goals
        go_wp2_with fail
        go_meet
        exact ⟨rfl, rfl, Lib.hid hL8, Lib.hid hg8⟩
    obtain ⟨rfl, rfl, HLc, HGc⟩ := hcut
    have cb2 := (HAX.out wc HLc.out).2
    have co2 := HOX.out wc HGc.out
    have HLe : Hid (Laid wc.drew base N (.slice (some ⟨ga, 0, none⟩) N.length ca) (.slice (some ⟨gb, 0, none⟩) N.length cb)) := Lib.hid (HLc.out.still ⟨rfl, rfl, rfl, Nat.le_refl _, fun _ _ _ => rfl⟩)
    have hSc : base ≤ wc.drew.heap.size := Nat.le_trans HS.out HGc.out.size
    have HSc := Lib.hid hSc
    have d2 := D2.out wc.drew HLe.out hSc
    have HBc : Hid (∀ K, K ≤ base → Below K w wc.drew) := Lib.hid (fun K hK => by
      have h1 : Below K w W1.drew := below_drew0 (HB.out.mono (Nat.le_trans hK HBB.out))
      exact below_drew0 (h1.grown HGc.out (Nat.le_trans hK HS.out) (fun g e => by
        have := (HL.out.f.lo i x HX.out).1
        have e2 : x.b = g := Option.some.inj e
        omega)))
    clear ca1 cb1 co1 hSc
    go_upto_region 14 with (fail)
    go_cut [16, 17] (fun s16 s17 wx => s16 = .pointer none ∧ s17 = .int .i64 E ∧ Hid (Laid wx base N (.slice (some ⟨ga, 0, none⟩) N.length ca) (.slice (some ⟨gb, 0, none⟩) N.length cb)) ∧ Hid (∀ K, K ≤ base → Below K w wx))
    case first =>
      go_region_held3 (fun w' => w'.cell? ⟨gb, i, none⟩ = some (.pointer (some ⟨x.r, 0, none⟩)) ∧ w'.cell? ⟨w.heap.size, 2, none⟩ = some (.int .i64 n)) (first | exact ⟨cb2, co2⟩) (first | ((go_at_call 29; with_reducible refine d2.mono ?_; rintro e W9 ⟨rfl, rfl⟩)))
      all_goals
        go_wp2_with fail
        go_meet
        exact ⟨rfl, rfl, HLe, HBc⟩
    obtain ⟨rfl, rfl, HLf, HBf⟩ := hcut
    go_wp2
    go_ret3
    exact ⟨N, _, _, rfl, by omega, HLf.out, HBf.out⟩
end
end Go.Proofs.Ytmemdicdehppjaa
