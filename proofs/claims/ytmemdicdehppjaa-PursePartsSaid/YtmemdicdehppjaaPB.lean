/- PurseParts: the law's text answers true. -/
import Derived.Test.YtmemdicdehppjaaPA
import Derived.Deep.DeepCutAuto
import Derived.Deep.DrawnRows
namespace Go.Proofs.Ytmemdicdehppjaa
open Go.RowKit Go.MuLone

attribute [local go_sem ↓] Go.wp_at_zero Go.wp_at_succ
theorem Owns.still {w w' : World} {base : Nat} {e : TypeId} {v : Value} {xs : List Value} (h : Owns w base e v xs) (hg : w.grownBy w' none) : Owns w' base e v xs :=
  h.kept hg (by rcases hv : v.ownBlock with _ | g; exact .inl rfl; exact .inr (by simp))
theorem below_drew {B : Nat} {a w : World} (h : Below B a w) : Below B a w.drew := ⟨h.os, h.tape, h.output, h.size, h.block⟩
def ptrs (l : List KD) : List Value := l.map fun x => .pointer (some ⟨x.b, 0, none⟩)
def szs (l : List KD) : List Int := l.map (·.s)
theorem ptrs_snoc (l : List KD) (x : KD) : ptrs (l ++ [x]) = ptrs l ++ [.pointer (some ⟨x.b, 0, none⟩)] := by simp [ptrs]
theorem szs_snoc (l : List KD) (x : KD) : szs (l ++ [x]) = szs l ++ [x.s] := by simp [szs]
def goneL (l : List KD) : List Value := l.map fun x => .bool x.gone
theorem ptrs_set (l : List KD) {i : Nat} {x : KD} (h : l[i]? = some x) : ptrs (l.set i { x with gone := true }) = ptrs l := by
  unfold ptrs
  rw [List.map_set]
  exact set_same (by rw [List.getElem?_map, h]; rfl)
theorem szs_set (l : List KD) {i : Nat} {x : KD} (h : l[i]? = some x) : szs (l.set i { x with gone := true }) = szs l := by
  unfold szs
  rw [List.map_set]
  exact set_same (by rw [List.getElem?_map, h]; rfl)
theorem goneL_set (l : List KD) (i : Nat) (x : KD) : goneL (l.set i { x with gone := true }) = (goneL l).set i (.bool true) := by
  unfold goneL
  rw [List.map_set]
theorem make_bools (n : Nat) (h : n ≤ 140737488355328) : ∀ w, (Instr.makeSlice 44 (.int .i64 (n : Int)) (.int .i64 (n : Int))).run Try.prog w = .ok (.slice (some ⟨w.heap.size, 0, none⟩) n n) (w.alloc (.cells (List.replicate n (Value.bool false)).toArray 4)) := by
  intro w
  obtain ⟨i, hi, hz, hs, hb⟩ := info_parts info4
  have hr := run_make (P := Try.prog) w 44 4 i (.bool false) Try.underlying44 hi hz .i64 .i64 n n (by omega) (by omega) (by rw [hb]; omega) (by omega)
  rw [hr, hs]
  simp only [Int.toNat_natCast, Nat.mul_one]
  congr 3
  apply Array.ext
  · simp [size_madeCells]
  · intro k h1 h2
    simp [madeCells, Value.cells, Nat.mod_one]
theorem Kept.asideB {w w' : World} {b lk g : Nat} {t : TypeId} {L pk : Int} {l : List KD} (h : Kept w b lk L pk l) (ht : Typed w g t) (he : t ≠ 60 ∧ t ≠ 54) (hb : w.grownBy w' (some g)) : Kept w' b lk L pk l :=
  ⟨⟨fun i x hx => (h.f.1 i x hx).grown hb (fun e3 => (ht.ne (h.f.1 i x hx).1.typed he.1) (Option.some.inj e3).symm) (fun e3 => (ht.ne (h.f.1 i x hx).2.typed he.2) (Option.some.inj e3).symm), h.f.2⟩, h.s, h.o, h.L1, h.k0, h.k1, h.n⟩
theorem Blk.tur {w w' : World} {g : Nat} {t : TypeId} {l : List Value} (h : Blk w g t l) {bs : List Nat} (hg : ∀ x ∈ bs, ∃ u, t ≠ u ∧ Typed w x u) (hb : Tur w w' bs) : Blk w' g t l :=
  hb.blk h fun hm => by
    obtain ⟨u, hu, hty⟩ := hg g hm
    exact (h.typed.ne hty hu) rfl
theorem Blk.aside {w w' : World} {g x : Nat} {t u : TypeId} {l : List Value} (h : Blk w g t l) (hx : Typed w x u) (hu : t ≠ u) (hb : w.grownBy w' (some x)) : Blk w' g t l := h.grown hb (fun e => (h.typed.ne hx hu) (Option.some.inj e))
/-- A row's first cells. -/
theorem Owns.at_ {w : World} {base n c : Nat} {e : TypeId} {A : Option Addr} {xs : List Value} (h : Owns w base e (.slice A n c) xs) {i : Nat} {u : Value} (hi : xs[i]? = some u) : ∃ g, A = some ⟨g, 0, none⟩ ∧ w.cell? ⟨g, i, none⟩ = some u := by
  rcases h.2 with ⟨hv, h0⟩ | ⟨g, cap, cur, hv, _⟩
  · have := (List.getElem?_eq_some_iff.1 hi).1; omega
  · cases hv
    have := World.ownsRow.cells h (g := g) rfl i u hi
    refine ⟨g, rfl, ?_⟩
    unfold Addr.add at this
    split at this <;> simp_all
set_option maxRecDepth 100000 in
set_option maxHeartbeats 16000000 in
theorem parts_any (limit : Int) (A : Option Addr) (n c : Nat) (xs : List Int) (A2 : Option Addr) (n2 c2 : Nat) (ys : List Int) (w : World) (hl : -9223372036854775808 ≤ limit ∧ limit ≤ 9223372036854775807) (hr : Reads w .i64 A xs) (hlen : xs.length = n)
    (hx : ∀ x ∈ xs, -9223372036854775808 ≤ x ∧ x ≤ 9223372036854775807) (hn : n * 8 ≤ 140737488351232) (hr2 : Reads w .i64 A2 ys) (hlen2 : ys.length = n2) (hx2 : ∀ x ∈ ys, -9223372036854775808 ≤ x ∧ x ≤ 9223372036854775807) (hn2 : n2 ≤ 9223372036854775807) :
    Calls Try.prog 6 #[.int .i64 limit, .slice A n c, .slice A2 n2 c2] w fun e w' => e = .returned (.bool true) ∧ Below w.heap.size w w' := by
  have HR := Lib.hid hr; have HL := Lib.hid hlen; have HX := Lib.hid hx
  have HR2 := Lib.hid hr2; have HL2 := Lib.hid hlen2; have HX2 := Lib.hid hx2
  clear hr hlen hx hr2 hlen2 hx2
  obtain ⟨L, hL0, hL1, hgo⟩ : ∃ L : Int, 0 ≤ L ∧ L ≤ 9223372036854775807 ∧ ((limit < 0 ∧ -(limit + 1) = L) ∨ (0 ≤ limit ∧ L = limit)) := by
    rcases Int.lt_or_le limit 0 with h | h
    · exact ⟨-(limit + 1), by omega, by omega, .inl ⟨h, rfl⟩⟩
    · exact ⟨limit, by omega, by omega, .inr ⟨h, rfl⟩⟩
  have HGO := Lib.hid hgo
  clear hgo
  go_enter Try.func6, Try.ntmps6
  go_upto_if 26 with (go_at_call 7; refine (begun_any _).mono ?_; rintro e w1 ⟨rfl, hb1⟩)
  have HB1 := Lib.hid hb1
  clear hb1
  go_cut [0] (fun s0 wx => s0 = .int .i64 L ∧ Hid (Below w.heap.size w wx))
  case first =>
    rcases HGO.out with ⟨hs, hgo⟩ | ⟨hs, rfl⟩
    · go_wp2_with fail
      go_meet
      exact ⟨rfl, HB1⟩
    · go_wp2_with fail
      go_meet
      exact ⟨rfl, HB1⟩
  clear HB1
  obtain ⟨rfl, HB1⟩ := hcut
  have hnew := newF L wc hL0
  go_upto_region 7 with (go_at_call 8; refine hnew.mono ?_; rintro e wa ⟨b, lk, rfl, hP1, hb1, _, hB1⟩)
  have HBa := Lib.hid (below_self HB1.out hB1)
  have K0 : Hid (Kept wa b lk L 0 []) := Lib.hid ⟨(Fam.nil wa).snoc hP1 (by simp), by simp, by simp [outOf]; exact hL0, hL1, by omega, hL0, by simp⟩
  have hbb := Nat.le_trans HB1.out.size hb1
  clear hnew hP1 hB1 hb1 HB1
  go_upto_region 13 with (fail)
  go_loopg [10, 11, 12, 13] n (fun r s10 s11 s12 i wr => ∃ (k : Nat) (l : List KD) (pk o : Int), k + r = n ∧ i = .int .i64 k ∧ s12 = .int .i64 o ∧ 0 ≤ o ∧ o ≤ L ∧ Hid (o = outOf l) ∧ Hid (l.length ≤ k) ∧ Hid (∀ y ∈ l, y.gone = false ∧ w.heap.size ≤ y.b) ∧ Hid (Kept wr b lk L pk l) ∧ Hid (Owns wr w.heap.size 24 s10 (ptrs l)) ∧ Hid (Owns wr w.heap.size 3 s11 (nums .i64 (szs l))) ∧ Hid (Below w.heap.size w wr))
  case atStart => exact ⟨0, [], 0, 0, by omega, rfl, rfl, by omega, hL0, Lib.hid rfl, Lib.hid (by simp), Lib.hid (by simp), K0, Lib.hid (owns_nil _ _ _), Lib.hid (owns_nil _ _ _), HBa⟩
  case round =>
    obtain ⟨k, l, pk, o, hk, rfl, rfl, ho0, ho1, HO, HLK, HG, HK, HP, HH, HB⟩ := hrel
    have HKK := Lib.hid hk
    by_cases hlt : k < n
    · obtain ⟨x, hx⟩ : ∃ x, xs[k]? = some x := ⟨_, List.getElem?_eq_getElem (by rw [HL.out]; omega)⟩
      obtain ⟨ab, ao, rfl, hc1⟩ := HR.out.at_ hx
      have H1 := Lib.hid hc1
      have c1 := cell_kept HB.out hc1
      have xr := HX.out x (List.mem_of_getElem? hx)
      clear hx hc1 hk
      by_cases hf : 0 ≤ x ∧ x ≤ L - o
      · obtain ⟨hf0, hf1⟩ := hf
        have e1 : decide (0 ≤ x) = true := by simpa using hf0
        have e2 : decide (x ≤ L - o) = true := by simpa using hf1
        have hcall := kept_part_ok HK.out hf0 (by rw [← HO.out]; exact hf1)
        go_upto_region 16 with (go_at_call 19; refine hcall.mono ?_; rintro e wd ⟨q, pk', rfl, p0, p1, hq, hg1, hF⟩)
        have HBd := Lib.hid (below_only HB.out HB.out.size hg1 hbb)
        have hqq : w.heap.size ≤ q := Nat.le_trans HB.out.size hq
        have HPd := Lib.hid (HP.out.aside HK.out.p.1.typed (by decide) hg1)
        have HHd := Lib.hid (HH.out.aside HK.out.p.1.typed (by decide) hg1)
        have htk := kept_take q hF HK.out.s hL1 p0 p1 (by have := HLK.out; omega) hf0 (by rw [← HO.out]; omega) (by rw [← HO.out]; exact ho0)
        have HFq : Hid (Typed wd q 60) := Lib.hid ((hF.at_ (i := l.length + 1) (x := (q, born b lk x)) (by rw [List.getElem?_append_right (by simp)]; simp)).1.typed)
        have c2 := cell_kept HBd.out H1.out
        clear hcall hg1 hF HP HH HB c1
        go_upto_region 22 with (go_at_call 10; refine htk.mono ?_; rintro e we ⟨rfl, hK2, hg2⟩)
        have HBe := Lib.hid (below_only HBd.out HBd.out.size hg2 hqq)
        have HPe := Lib.hid (HPd.out.aside HFq.out (by decide) hg2)
        have HHe := Lib.hid (HHd.out.aside HFq.out (by decide) hg2)
        have hi : (l ++ [⟨q, x, false⟩])[l.length]? = some (⟨q, x, false⟩ : KD) := by simp
        have htk2 := kept_full hK2 hi rfl
        have HI := Lib.hid hi
        have HFe : Hid (Typed we q 60) := Lib.hid (hK2.kid_at hi).1.typed
        clear htk hg2 hK2 hi HPd HHd HBd HFq c2 e1 e2
        go_upto_region 23 with (go_at_call 10; refine htk2.mono ?_; rintro e wf ⟨rfl, hK3, hg3⟩)
        have HBf := Lib.hid (below_only HBe.out HBe.out.size hg3 hqq)
        have HPf := Lib.hid (HPe.out.aside HFe.out (by decide) hg3)
        have HHf := Lib.hid (HHe.out.aside HFe.out (by decide) hg3)
        have HK3 := Lib.hid hK3
        have hox : Hid (outOf (l ++ [⟨q, x, false⟩]) = o + x) := Lib.hid (by rw [outOf_app, HO.out]; simp [outOf])
        have hk0 : (0 : Int) ≤ (k : Int) := by omega
        have hkn : (k : Int) < (n : Int) := by omega
        clear htk2 hg3 hK3 HPe HHe HBe HFe
        go_cut [117] (fun s117 wx => s117 = .bool false ∧ Hid (Kept wx b lk L pk' (l ++ [⟨q, x, false⟩])) ∧ Hid (Owns wx w.heap.size 24 u10 (ptrs l)) ∧ Hid (Owns wx w.heap.size 3 u11 (nums .i64 (szs l))) ∧ Hid (Below w.heap.size w wx))
        case first =>
          have cf := cell_kept HBf.out H1.out
          have HKd : Kept wf.drew b lk L pk' (l ++ [⟨q, x, false⟩]) := HK3.out.still ⟨rfl, rfl, rfl, Nat.le_refl _, fun _ _ _ => rfl⟩
          have gd : wf.grownBy wf.drew none := ⟨rfl, rfl, rfl, Nat.le_refl _, fun _ _ _ => rfl⟩
          have s1 := kept_used HKd
          rw [hox.out] at s1
          go_region_held3 (fun w' => w'.cell? ⟨ab, ao + k, none⟩ = some (.int .i64 x)) (first | exact cf | exact cg | exact ch) (first | ((go_at_call 11; with_reducible refine s1.mono ?_; rintro e wg ⟨rfl, hK4, hg4⟩; have HBg := below_still (below_drew HBf.out) (below_drew HBf.out).size hg4; have cg := cell_kept HBg H1.out; have s2 := kept_used_kid hK4 HI.out rfl)) | ((go_at_call 11; with_reducible refine s2.mono ?_; rintro e wh ⟨rfl, hK5, hg5⟩; have HBh := below_still HBg HBg.size hg5; have ch := cell_kept HBh H1.out)))
          all_goals
            go_wp2_with fail
            go_meet
            exact ⟨rfl, Lib.hid hK5, Lib.hid (((HPf.out.still gd).still hg4).still hg5), Lib.hid (((HHf.out.still gd).still hg4).still hg5), Lib.hid HBh⟩
        clear HPf HHf HBf HK3 hox
        obtain ⟨rfl, HK6, HP6, HH6, HB6⟩ := hcut
        have hO := Lib.hid (HP6.out.below (below1 wc (.cells [Value.pointer (some ⟨q, 0, none⟩)].toArray 24)))
        have hHa := Lib.hid (HH6.out.below (below1 wc (.cells [Value.pointer (some ⟨q, 0, none⟩)].toArray 24)))
        have hKa := Lib.hid (HK6.out.below (below1 wc (.cells [Value.pointer (some ⟨q, 0, none⟩)].toArray 24)))
        have hBa := Lib.hid (HB6.out.alloc HB6.out.size (.cells [Value.pointer (some ⟨q, 0, none⟩)].toArray 24))
        have hpl : (ptrs l).length + 1 ≤ n := by have := HLK.out; simp [ptrs]; omega
        have hsl : (nums .i64 (szs l)).length + 1 ≤ n := by have := HLK.out; rw [nums_length]; simp [szs]; omega
        have hsz6 := HB6.out.size
        go_upto_region 26 with (at_builtin; refine wpList_push2 rfl _ _ 34 rfl w.heap.size 24 _ 8 Try.underlying34 info24 rfl u10 (ptrs l) rfl hO.out ⟨wc.heap.size, 0, none⟩ (.pointer (some ⟨q, 0, none⟩)) rfl (by simp [go_sem]) rfl (by simp only [maxLen]; omega) (by omega) (by simp; omega) ?_; intro v25 w25 hown1 hg1 hb1)
        have HP7 : Hid (Owns w25 w.heap.size 24 v25 (ptrs (l ++ [⟨q, x, false⟩]))) := Lib.hid (by rw [ptrs_snoc]; exact hown1)
        have HH7 := Lib.hid (hHa.out.asideR hO.out (by decide) hg1)
        have HK7 := Lib.hid (hKa.out.asideR hO.out (by decide) hg1)
        have HB7 := Lib.hid (below_row hBa.out hBa.out.size hO.out (Nat.le_refl _) hg1)
        clear hown1 hg1 hb1 hO hHa hKa hBa HK6 HP6 HH6 HB6 hsz6
        have c7 := cell_kept HB7.out H1.out
        have hO := Lib.hid (HH7.out.below (below1 w25 (.cells [Value.int .i64 x].toArray 3)))
        have hPa := Lib.hid (HP7.out.below (below1 w25 (.cells [Value.int .i64 x].toArray 3)))
        have hKa := Lib.hid (HK7.out.below (below1 w25 (.cells [Value.int .i64 x].toArray 3)))
        have hBa := Lib.hid (HB7.out.alloc HB7.out.size (.cells [Value.int .i64 x].toArray 3))
        have hsz7 := HB7.out.size
        go_wp2_with (at_builtin; refine wpList_push2 rfl _ _ 43 rfl w.heap.size 3 _ 8 Try.underlying43 info3 rfl u11 (nums .i64 (szs l)) rfl hO.out ⟨w25.heap.size, 0, none⟩ (.int .i64 x) rfl (by simp [go_sem]) rfl (by simp only [maxLen]; omega) (by omega) (by simp; omega) ?_; intro v26 w26 hown2 hg2 hb2)
        go_roundg (n - (k + 1))
        case measure => have := HKK.out; omega
        case rel =>
          refine ⟨k + 1, l ++ [⟨q, x, false⟩], pk', o + x, by omega, by go_num, by go_num, by omega, by omega, Lib.hid (by rw [outOf_app, HO.out]; simp [outOf]), Lib.hid (by have := HLK.out; simp; omega), Lib.hid (fun y hy => ?_), Lib.hid (hKa.out.asideR hO.out (by decide) hg2), Lib.hid (hPa.out.asideR hO.out (by decide) hg2), Lib.hid (by rw [szs_snoc, nums_append]; exact hown2), Lib.hid (below_row hBa.out hBa.out.size hO.out (Nat.le_refl _) hg2)⟩
          rcases List.mem_append.1 hy with hy | hy
          · exact HG.out y hy
          · simp at hy; subst hy; exact ⟨rfl, hqq⟩
      · have hcall := kept_part_no HK.out xr (by rw [← HO.out]; omega)
        by_cases hx0 : 0 ≤ x
        · have e1 : decide (0 ≤ x) = true := by simpa using hx0
          have e2 : decide (x ≤ L - o) = false := by simp; omega
          clear hf
          go_upto_region 16 with (go_at_call 19; refine hcall.mono ?_; rintro e wd ⟨E, rfl, hE, hK2, hg1⟩)
          have HBd := Lib.hid (below_only HB.out HB.out.size hg1 hbb)
          have HPd := Lib.hid (HP.out.aside HK.out.p.1.typed (by decide) hg1)
          have HHd := Lib.hid (HH.out.aside HK.out.p.1.typed (by decide) hg1)
          have HK2 := Lib.hid hK2
          have eE : (E == 0) = false := by simpa using hE
          have c2 := cell_kept HBd.out H1.out
          clear hcall hE hK2 hg1 HK HP HH HB c1
          go_wp2
          go_roundg (n - (k + 1))
          case measure => have := HKK.out; omega
          case rel => exact ⟨k + 1, l, pk, o, by omega, by go_num, rfl, ho0, ho1, HO, Lib.hid (by have := HLK.out; omega), HG, HK2, HPd, HHd, HBd⟩
        · have e1 : decide (0 ≤ x) = false := by simp; omega
          clear hf
          go_upto_region 16 with (go_at_call 19; refine hcall.mono ?_; rintro e wd ⟨E, rfl, hE, hK2, hg1⟩)
          have HBd := Lib.hid (below_only HB.out HB.out.size hg1 hbb)
          have HPd := Lib.hid (HP.out.aside HK.out.p.1.typed (by decide) hg1)
          have HHd := Lib.hid (HH.out.aside HK.out.p.1.typed (by decide) hg1)
          have HK2 := Lib.hid hK2
          have eE : (E == 0) = false := by simpa using hE
          have c2 := cell_kept HBd.out H1.out
          clear hcall hE hK2 hg1 HK HP HH HB c1
          go_wp2
          go_roundg (n - (k + 1))
          case measure => have := HKK.out; omega
          case rel => exact ⟨k + 1, l, pk, o, by omega, by go_num, rfl, ho0, ho1, HO, Lib.hid (by have := HLK.out; omega), HG, HK2, HPd, HHd, HBd⟩
    · obtain rfl : k = n := by omega
      obtain ⟨m, hm⟩ : ∃ m, l.length = m := ⟨_, rfl⟩
      have hf1 := HP.out.form
      rw [show (ptrs l).length = m by simp [ptrs, hm]] at hf1
      obtain ⟨A10, c10, rfl⟩ := hf1
      have hf2 := HH.out.form
      rw [show (nums .i64 (szs l)).length = m by rw [nums_length]; simp [szs, hm]] at hf2
      obtain ⟨A11, c11, rfl⟩ := hf2
      have hmn : m ≤ k := by have := HLK.out; omega
      have hmk := make_bools m (by omega)
      have HLM := Lib.hid hm
      clear hm hk hlt HKK
      go_upto_region 28 with (fail)
      have hG0 : Blk (wr.alloc (.cells (List.replicate m (Value.bool false)).toArray 4)) wr.heap.size 4 (goneL l) := by
        have e : goneL l = List.replicate m (Value.bool false) := by
          rw [← HLM.out]
          refine List.eq_replicate_iff.2 ⟨by simp [goneL], fun y hy => ?_⟩
          obtain ⟨z, hz, rfl⟩ := List.mem_map.1 hy
          rw [(HG.out z hz).1]
        rw [e]; exact Blk.new wr 4 _
      have G0 := Lib.hid hG0
      have P0 := Lib.hid (HP.out.below (below1 wr (.cells (List.replicate m (Value.bool false)).toArray 4)))
      have H0 := Lib.hid (HH.out.below (below1 wr (.cells (List.replicate m (Value.bool false)).toArray 4)))
      have K0' := Lib.hid (HK.out.below (below1 wr (.cells (List.replicate m (Value.bool false)).toArray 4)))
      have B0 := Lib.hid (HB.out.alloc HB.out.size (.cells (List.replicate m (Value.bool false)).toArray 4))
      have hgg := HB.out.size
      have HGB : Hid (∀ y ∈ l, w.heap.size ≤ y.b) := Lib.hid (fun y hy => (HG.out y hy).2)
      show Code.wp _ _ _ _ (wr.alloc (.cells (List.replicate m (Value.bool false)).toArray 4))
      generalize wr.alloc (.cells (List.replicate m (Value.bool false)).toArray 4) = W0 at *
      generalize wr.heap.size = gg at *
      clear hmk HP HH HK HB hG0 HG HLK K0 HBa
      go_upto_region 29 with (fail)
      go_loopg [12, 19] n2 (fun r s12 i wr => ∃ (k2 : Nat) (l2 : List KD) (pk2 o2 : Int), k2 + r = n2 ∧ i = .int .i64 k2 ∧ s12 = .int .i64 o2 ∧ 0 ≤ o2 ∧ o2 ≤ L ∧ Hid (o2 = outOf l2) ∧ Hid (l2.length = m) ∧ Hid (∀ y ∈ l2, w.heap.size ≤ y.b) ∧ Hid (Kept wr b lk L pk2 l2) ∧ Hid (Owns wr w.heap.size 24 (.slice A10 m c10) (ptrs l2)) ∧ Hid (Owns wr w.heap.size 3 (.slice A11 m c11) (nums .i64 (szs l2))) ∧ Hid (Blk wr gg 4 (goneL l2)) ∧ Hid (Below w.heap.size w wr))
      case atStart => exact ⟨0, l, pk, o, by omega, rfl, rfl, ho0, ho1, HO, HLM, HGB, K0', P0, H0, G0, B0⟩
      case round =>
        clear P0 H0 K0' B0 G0 HGB HLM HO
        obtain ⟨k2, l2, pk2, o2, hk2, rfl, rfl, ho0, ho1, HO, HLM, HGB, HK, HP, HH, HGN, HB⟩ := hrel
        have HKK := Lib.hid hk2
        by_cases hgo : k2 < n2 ∧ 0 < m
        · obtain ⟨hlt, hm0⟩ := hgo
          have hm0' : (0 : Int) < (m : Int) := by omega
          obtain ⟨y, hy⟩ : ∃ y, ys[k2]? = some y := ⟨_, List.getElem?_eq_getElem (by rw [HL2.out]; omega)⟩
          obtain ⟨ab, ao, rfl, hc1⟩ := HR2.out.at_ hy
          have c1 := cell_kept HB.out hc1
          have yr := HX2.out y (List.mem_of_getElem? hy)
          have hon := on_any y m wr yr (by omega)
          clear hy hc1 hk2
          go_upto_region 32 with (go_at_call 16; refine hon.mono ?_; rintro e wr ⟨r, rfl, hrm, rfl⟩)
          obtain ⟨x, hx⟩ : ∃ x, l2[r]? = some x := ⟨_, List.getElem?_eq_getElem (by rw [HLM.out]; exact hrm)⟩
          have hr0 : (0 : Int) ≤ (r : Int) := by omega
          have hrm' : (r : Int) < (m : Int) := by omega
          have hpx : (ptrs l2)[r]? = some (.pointer (some ⟨x.b, 0, none⟩)) := by simp [ptrs, hx]
          have hsx : (nums .i64 (szs l2))[r]? = some (.int .i64 x.s) := by simp [nums, szs, hx]
          have hgx : (goneL l2)[r]? = some (.bool x.gone) := by simp [goneL, hx]
          obtain ⟨g10, rfl, p1⟩ := HP.out.at_ hpx
          obtain ⟨g11, rfl, q1⟩ := HH.out.at_ hsx
          have z1 : wr.cell? ⟨gg, r, none⟩ = some (.bool x.gone) := by rw [HGN.out.cell]; exact hgx
          have HPX := Lib.hid hpx; have HSX := Lib.hid hsx; have HGX := Lib.hid hgx; have HX0 := Lib.hid hx
          have hxs := HK.out.s x (List.mem_of_getElem? hx)
          have HXB : Hid (w.heap.size ≤ x.b) := Lib.hid (HGB.out x (List.mem_of_getElem? hx))
          clear hpx hsx hgx hx hon c1 yr
          obtain ⟨xb, xs0, xg⟩ := x
          dsimp only at *
          cases xg
          rotate_left
          · have hcall : Calls Try.prog 20 #[.pointer (some ⟨xb, 0, none⟩)] wr fun e w' => e = .returned (.int .i64 6) ∧ Kept w' b lk L pk2 l2 ∧ wr.grownBy w' none := kept_close_no HK.out HX0.out (.inl rfl)
            go_upto_region 34 with (go_at_call 20; refine hcall.mono ?_; rintro e W2 ⟨rfl, hK2, hg2⟩)
            have HK2 := Lib.hid hK2
            have HP2 := Lib.hid (HP.out.still hg2)
            have HH2 := Lib.hid (HH.out.still hg2)
            have HG2 := Lib.hid (HGN.out.grown hg2 (by simp))
            have HB2 := Lib.hid (below_still HB.out HB.out.size hg2)
            clear hcall hK2 hg2 p1 q1 z1
            go_wp2
            go_roundg (n2 - (k2 + 1))
            case measure => have := HKK.out; omega
            case rel => exact ⟨k2 + 1, l2, pk2, o2, by omega, by go_num, rfl, ho0, ho1, HO, HLM, HGB, HK2, HP2, HH2, HG2, HB2⟩
          by_cases hx0 : xs0 = 0
          · have hz := kept_zero HK.out HX0.out rfl hx0
            have hcall : Calls Try.prog 20 #[.pointer (some ⟨xb, 0, none⟩)] wr fun e w' => e = .returned (.int .i64 0) ∧ Kept w' b lk L pk2 (l2.set r ⟨xb, xs0, true⟩) ∧ Tur wr w' [xb, b] := fam_close HX0.out rfl hz HK.out.s HK.out.o HK.out.L1 HK.out.k0 HK.out.k1 HK.out.n
            have HTY : Hid (∀ g ∈ [xb, b], Typed wr g 60) := Lib.hid (fun g hg => by
              simp only [List.mem_cons, List.not_mem_nil, or_false] at hg
              rcases hg with rfl | rfl
              · exact (HK.out.kid_at HX0.out).1.typed
              · exact HK.out.p.1.typed)
            have hBS : ∀ g ∈ [xb, b], w.heap.size ≤ g := fun g hg => by
              simp only [List.mem_cons, List.not_mem_nil, or_false] at hg
              rcases hg with rfl | rfl
              · exact HXB.out
              · exact hbb
            have HBS := Lib.hid hBS
            clear hz hBS
            subst hx0
            go_upto_region 37 with (go_at_call 20; refine hcall.mono ?_; rintro e W3 ⟨rfl, hK3, ht⟩)
            have HK3 := Lib.hid hK3
            have HP3 := Lib.hid (HP.out.asideT (fun g hg => ⟨60, by decide, HTY.out g hg⟩) ht)
            have HH3 := Lib.hid (HH.out.asideT (fun g hg => ⟨60, by decide, HTY.out g hg⟩) ht)
            have HG3 := Lib.hid (HGN.out.tur (fun g hg => ⟨60, by decide, HTY.out g hg⟩) ht)
            have HB3 := Lib.hid (ht.below HB.out HB.out.size HBS.out)
            clear hcall hK3 ht p1 q1 z1 HP HH HGN HB
            obtain ⟨_, e11, q3⟩ := HH3.out.at_ HSX.out
            cases e11
            go_upto_region 44 with (fail)
            clear q3
            have hou := outOf_mem l2 r ⟨xb, 0, false⟩ (fun y hy => (HK.out.s y hy).1) HX0.out rfl
            have hoe : Hid (outOf (l2.set r ⟨xb, 0, true⟩) = o2 - 0) := Lib.hid (by rw [outOf_set l2 r _ _ HX0.out, HO.out]; simp)
            rw [← HO.out] at hou
            have P9 := Lib.hid (HP3.out)
            obtain ⟨_, e10, p9⟩ := HP3.out.at_ HPX.out
            cases e10
            obtain ⟨_, e11, q9⟩ := HH3.out.at_ HSX.out
            cases e11
            have z9 : W3.cell? ⟨gg, r, none⟩ = some (.bool false) := by rw [HG3.out.cell]; exact HGX.out
            have y9 := HG3.out.frozen r
            have gs : W3.grownBy (W3.setCell ⟨gg, r, none⟩ (.bool true)) (some gg) := only_setCell (only_refl _ _) (.inl rfl) _
            have HK4 := Lib.hid (HK3.out.asideB HG3.out.typed (by decide) gs)
            have HP4 : Hid (Owns (W3.setCell ⟨gg, r, none⟩ (.bool true)) w.heap.size 24 (.slice (some ⟨g10, 0, none⟩) m c10) (ptrs (l2.set r ⟨xb, 0, true⟩))) := Lib.hid (by rw [ptrs_set l2 HX0.out]; exact HP3.out.aside HG3.out.typed (by decide) gs)
            have HH4 : Hid (Owns (W3.setCell ⟨gg, r, none⟩ (.bool true)) w.heap.size 3 (.slice (some ⟨g11, 0, none⟩) m c11) (nums .i64 (szs (l2.set r ⟨xb, 0, true⟩)))) := Lib.hid (by rw [szs_set l2 HX0.out]; exact HH3.out.aside HG3.out.typed (by decide) gs)
            have HG4 : Hid (Blk (W3.setCell ⟨gg, r, none⟩ (.bool true)) gg 4 (goneL (l2.set r ⟨xb, 0, true⟩))) := Lib.hid (by rw [goneL_set l2 r ⟨xb, 0, false⟩]; exact HG3.out.set_ r _)
            have HB4 := Lib.hid (HB3.out.setCell (p := ⟨gg, r, none⟩) hgg (.bool true))
            have q10 : (W3.setCell ⟨gg, r, none⟩ (.bool true)).cell? ⟨g11, r, none⟩ = some (.int .i64 0) := by
              obtain ⟨_, e12, q⟩ := HH4.out.at_ (i := r) (u := .int .i64 0) (by rw [szs_set l2 HX0.out]; exact HSX.out)
              cases e12
              exact q
            clear gs HP3 HH3 HG3 HK3 HB3 P9
            go_upto_region 45 with (fail)
            generalize W3.setCell ⟨gg, r, none⟩ (.bool true) = W4 at *
            clear z9 y9 p9 q9
            have hu := kept_used HK4.out
            rw [hoe.out] at hu
            go_wp2_with (first | (go_at_call 11; refine hu.mono ?_; rintro e W5 ⟨rfl, hK5, hg5⟩; have hfr := kept_free hK5; rw [hoe.out] at hfr; have HP5 := HP4.out.still hg5; have HH5 := HH4.out.still hg5; have HG5 := HG4.out.grown hg5 (by simp); have HB5 := below_still HB4.out HB4.out.size hg5) | (go_at_call 12; refine hfr.mono ?_; rintro e W6 ⟨rfl, hK6, hg6⟩))
            go_roundg (n2 - (k2 + 1))
            case measure => have := HKK.out; omega
            case rel =>
              refine ⟨k2 + 1, l2.set r ⟨xb, 0, true⟩, pk2, o2 - 0, by omega, by go_num, by go_num, by omega, by omega, Lib.hid hoe.out.symm, Lib.hid (by rw [List.length_set]; exact HLM.out), Lib.hid (fun y hy => ?_), Lib.hid hK6, Lib.hid (HP5.still hg6), Lib.hid (HH5.still hg6), Lib.hid (HG5.grown hg6 (by simp)), Lib.hid (below_still HB5 HB5.size hg6)⟩
              rcases List.mem_or_eq_of_mem_set hy with hy | hy
              · exact HGB.out y hy
              · subst hy; exact HXB.out
          · have hxp : 0 < xs0 := by omega
            have e1 : decide (0 < xs0) = true := by simpa using hxp
            have hcall : Calls Try.prog 20 #[.pointer (some ⟨xb, 0, none⟩)] wr fun e w' => e = .returned (.int .i64 20) ∧ Kept w' b lk L pk2 l2 ∧ wr.grownBy w' none := kept_close_no HK.out HX0.out (.inr hxp)
            clear hx0
            go_upto_region 37 with (go_at_call 20; refine hcall.mono ?_; rintro e W2 ⟨rfl, hK2, hg2⟩)
            have HK2 := Lib.hid hK2
            have HP2 := Lib.hid (HP.out.still hg2)
            have HH2 := Lib.hid (HH.out.still hg2)
            have HG2 := Lib.hid (HGN.out.grown hg2 (by simp))
            have HB2 := Lib.hid (below_still HB.out HB.out.size hg2)
            clear hcall hK2 hg2 p1 q1 z1 HP HH HGN HB
            obtain ⟨_, e10, p2⟩ := HP2.out.at_ HPX.out
            cases e10
            obtain ⟨_, e11, q2⟩ := HH2.out.at_ HSX.out
            cases e11
            have hty1 : Typed W2 xb 60 := (HK2.out.kid_at HX0.out).1.typed
            have HTY1 := Lib.hid hty1
            have htyd : Typed W2.drew xb 60 := by
              obtain ⟨cs, hcs⟩ := hty1
              exact ⟨cs, hcs⟩
            have HTYd := Lib.hid htyd
            clear hty1 htyd
            go_upto_region 40 with (fail)
            go_cut [9] (fun s9 wx => s9 = .int .i64 0 ∧ Hid (Fam wx ((fam b lk L pk2 l2).set (r + 1) (xb, empty b lk xs0))) ∧ Hid (W2.drew.grownBy wx (some xb)))
            case first =>
              have hgv := kept_give (HK2.out.still (w' := W2.drew) ⟨rfl, rfl, rfl, Nat.le_refl _, fun _ _ _ => rfl⟩) HX0.out rfl
              dsimp only at hgv
              have HPd : Owns W2.drew w.heap.size 24 (.slice (some ⟨g10, 0, none⟩) m c10) (ptrs l2) := HP2.out.still ⟨rfl, rfl, rfl, Nat.le_refl _, fun _ _ _ => rfl⟩
              have HHd : Owns W2.drew w.heap.size 3 (.slice (some ⟨g11, 0, none⟩) m c11) (nums .i64 (szs l2)) := HH2.out.still ⟨rfl, rfl, rfl, Nat.le_refl _, fun _ _ _ => rfl⟩
              go_region_held3 (fun w' => w'.cell? ⟨g10, r, none⟩ = some (.pointer (some ⟨xb, 0, none⟩)) ∧ w'.cell? ⟨g11, r, none⟩ = some (.int .i64 xs0)) (first | exact ⟨p2, q2⟩ | exact ⟨p8, q8⟩) (first | ((go_at_call 9; with_reducible refine hgv.mono ?_; rintro e W8 ⟨rfl, hF8, hg8⟩; obtain ⟨_, e8, p8⟩ := (HPd.aside HTYd.out (by decide) hg8).at_ HPX.out; cases e8; obtain ⟨_, e8, q8⟩ := (HHd.aside HTYd.out (by decide) hg8).at_ HSX.out; cases e8)))
              all_goals
                go_wp2_with fail
                go_meet
                exact ⟨rfl, Lib.hid hF8, Lib.hid hg8⟩
            obtain ⟨rfl, HF2, HGW⟩ := hcut
            clear p2 q2
            have HP2' := Lib.hid ((HP2.out.still (w' := W2.drew) ⟨rfl, rfl, rfl, Nat.le_refl _, fun _ _ _ => rfl⟩).aside HTYd.out (by decide) HGW.out)
            have HH2' := Lib.hid ((HH2.out.still (w' := W2.drew) ⟨rfl, rfl, rfl, Nat.le_refl _, fun _ _ _ => rfl⟩).aside HTYd.out (by decide) HGW.out)
            have HG2' := Lib.hid ((show Blk W2.drew gg 4 (goneL l2) from HG2.out).aside HTYd.out (by decide) HGW.out)
            have HB2' := Lib.hid (below_only (below_drew HB2.out) (below_drew HB2.out).size HGW.out HXB.out)
            have hF2 := HF2.out
            have hcall : Calls Try.prog 20 #[.pointer (some ⟨xb, 0, none⟩)] wc fun e w' => e = .returned (.int .i64 0) ∧ Kept w' b lk L pk2 (l2.set r ⟨xb, xs0, true⟩) ∧ Tur wc w' [xb, b] := fam_close HX0.out rfl hF2 HK2.out.s HK2.out.o HK2.out.L1 HK2.out.k0 HK2.out.k1 HK2.out.n
            have HTY : Hid (∀ g ∈ [xb, b], Typed wc g 60) := Lib.hid (fun g hg => by
              simp only [List.mem_cons, List.not_mem_nil, or_false] at hg
              have f1 : ((fam b lk L pk2 l2).set (r + 1) (xb, empty b lk xs0))[r + 1]? = some (xb, empty b lk xs0) := by rw [List.getElem?_set_self (by simp [fam, HLM.out]; exact hrm)]
              have f0 : ((fam b lk L pk2 l2).set (r + 1) (xb, empty b lk xs0))[0]? = some (b, par L pk2 lk l2) := by simp [fam]
              rcases hg with rfl | rfl
              · exact (hF2.at_ f1).1.typed
              · exact (hF2.at_ f0).1.typed)
            have HBS : Hid (∀ g ∈ [xb, b], w.heap.size ≤ g) := Lib.hid (fun g hg => by
              simp only [List.mem_cons, List.not_mem_nil, or_false] at hg
              rcases hg with rfl | rfl
              · exact HXB.out
              · exact hbb)
            obtain ⟨_, e10, p2⟩ := HP2'.out.at_ HPX.out
            cases e10
            clear hF2 HGW HF2 HP2 HH2 HG2 HB2
            go_upto_region 44 with (go_at_call 20; refine hcall.mono ?_; rintro e W3 ⟨rfl, hK3, ht⟩)
            have HK3 := Lib.hid hK3
            have HP3 := Lib.hid (HP2'.out.asideT (fun g hg => ⟨60, by decide, HTY.out g hg⟩) ht)
            have HH3 := Lib.hid (HH2'.out.asideT (fun g hg => ⟨60, by decide, HTY.out g hg⟩) ht)
            have HG3 := Lib.hid (HG2'.out.tur (fun g hg => ⟨60, by decide, HTY.out g hg⟩) ht)
            have HB3 := Lib.hid (ht.below HB2'.out HB2'.out.size HBS.out)
            clear hcall hK3 ht p2
            have hou := outOf_mem l2 r ⟨xb, xs0, false⟩ (fun y hy => (HK.out.s y hy).1) HX0.out rfl
            have hoe : Hid (outOf (l2.set r ⟨xb, xs0, true⟩) = o2 - xs0) := Lib.hid (by rw [outOf_set l2 r _ _ HX0.out, HO.out]; simp)
            rw [← HO.out] at hou
            have P9 := Lib.hid (HP3.out)
            obtain ⟨_, e10, p9⟩ := HP3.out.at_ HPX.out
            cases e10
            obtain ⟨_, e11, q9⟩ := HH3.out.at_ HSX.out
            cases e11
            have z9 : W3.cell? ⟨gg, r, none⟩ = some (.bool false) := by rw [HG3.out.cell]; exact HGX.out
            have y9 := HG3.out.frozen r
            have gs : W3.grownBy (W3.setCell ⟨gg, r, none⟩ (.bool true)) (some gg) := only_setCell (only_refl _ _) (.inl rfl) _
            have HK4 := Lib.hid (HK3.out.asideB HG3.out.typed (by decide) gs)
            have HP4 : Hid (Owns (W3.setCell ⟨gg, r, none⟩ (.bool true)) w.heap.size 24 (.slice (some ⟨g10, 0, none⟩) m c10) (ptrs (l2.set r ⟨xb, xs0, true⟩))) := Lib.hid (by rw [ptrs_set l2 HX0.out]; exact HP3.out.aside HG3.out.typed (by decide) gs)
            have HH4 : Hid (Owns (W3.setCell ⟨gg, r, none⟩ (.bool true)) w.heap.size 3 (.slice (some ⟨g11, 0, none⟩) m c11) (nums .i64 (szs (l2.set r ⟨xb, xs0, true⟩)))) := Lib.hid (by rw [szs_set l2 HX0.out]; exact HH3.out.aside HG3.out.typed (by decide) gs)
            have HG4 : Hid (Blk (W3.setCell ⟨gg, r, none⟩ (.bool true)) gg 4 (goneL (l2.set r ⟨xb, xs0, true⟩))) := Lib.hid (by rw [goneL_set l2 r ⟨xb, xs0, false⟩]; exact HG3.out.set_ r _)
            have HB4 := Lib.hid (HB3.out.setCell (p := ⟨gg, r, none⟩) hgg (.bool true))
            have q10 : (W3.setCell ⟨gg, r, none⟩ (.bool true)).cell? ⟨g11, r, none⟩ = some (.int .i64 xs0) := by
              obtain ⟨_, e12, q⟩ := HH4.out.at_ (i := r) (u := .int .i64 xs0) (by rw [szs_set l2 HX0.out]; exact HSX.out)
              cases e12
              exact q
            clear gs HP3 HH3 HG3 HK3 HB3 P9
            go_upto_region 45 with (fail)
            generalize W3.setCell ⟨gg, r, none⟩ (.bool true) = W4 at *
            clear z9 y9 p9 q9
            have hu := kept_used HK4.out
            rw [hoe.out] at hu
            go_wp2_with (first | (go_at_call 11; refine hu.mono ?_; rintro e W5 ⟨rfl, hK5, hg5⟩; have hfr := kept_free hK5; rw [hoe.out] at hfr; have HP5 := HP4.out.still hg5; have HH5 := HH4.out.still hg5; have HG5 := HG4.out.grown hg5 (by simp); have HB5 := below_still HB4.out HB4.out.size hg5) | (go_at_call 12; refine hfr.mono ?_; rintro e W6 ⟨rfl, hK6, hg6⟩))
            go_roundg (n2 - (k2 + 1))
            case measure => have := HKK.out; omega
            case rel =>
              refine ⟨k2 + 1, l2.set r ⟨xb, xs0, true⟩, pk2, o2 - xs0, by omega, by go_num, by go_num, by omega, by omega, Lib.hid hoe.out.symm, Lib.hid (by rw [List.length_set]; exact HLM.out), Lib.hid (fun y hy => ?_), Lib.hid hK6, Lib.hid (HP5.still hg6), Lib.hid (HH5.still hg6), Lib.hid (HG5.grown hg6 (by simp)), Lib.hid (below_still HB5 HB5.size hg6)⟩
              rcases List.mem_or_eq_of_mem_set hy with hy | hy
              · exact HGB.out y hy
              · subst hy; exact HXB.out
        · by_cases hlt : k2 < n2
          · obtain rfl : m = 0 := by omega
            go_wp2
            go_ret
            exact ⟨rfl, HB.out⟩
          · have hge : n2 ≤ k2 := by omega
            go_wp2
            go_ret
            exact ⟨rfl, HB.out⟩
end Go.Proofs.Ytmemdicdehppjaa
