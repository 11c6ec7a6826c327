/- The reader: the words of a line (split). -/
import Derived.Test.YtjkmoahnociaiaaDoorQ5
import Derived.Test.YtjkmoahnociaiaaDoorL2
namespace Go.Proofs.YtjkmoahnociaiaaDoor
open Go.RowKit Go.WideMaps Go.Maps

def blankC (c : UInt8) : Bool := c == 32 || c == 9 || c == 13
def stopC (c : UInt8) : Bool := blankC c || c == 35
def headW (l : List UInt8) : List UInt8 := l.takeWhile fun c => !stopC c
/-- The words of a line, and the column behind the last. -/
def splitL : Nat → Nat → Int → List UInt8 → List Wd × Int
  | 0, _, e, _ => ([], e)
  | _ + 1, _, e, [] => ([], e)
  | n + 1, i, e, c :: t =>
    if c == 35 then ([], e)
    else if blankC c then splitL n (i + 1) e t
    else
      let r := splitL n (i + (headW (c :: t)).length) ((i + (headW (c :: t)).length + 1 : Nat) : Int) ((c :: t).drop (headW (c :: t)).length)
      (⟨⟨(headW (c :: t)).toArray⟩, ((i + 1 : Nat) : Int)⟩ :: r.1, r.2)
def splitW (s : ByteArray) : List Wd × Int := splitL (s.size + 1) 0 1 s.data.toList
theorem headW_cons {c : UInt8} {t : List UInt8} (h : stopC c = false) : headW (c :: t) = c :: headW t := by simp [headW, h]
theorem headW_stop {c : UInt8} {t : List UInt8} (h : stopC c = true) : headW (c :: t) = [] := by simp [headW, h]
theorem headW_le (l : List UInt8) : (headW l).length ≤ l.length := (List.takeWhile_sublist _).length_le
theorem headW_take (l : List UInt8) : l.take (headW l).length = headW l := by
  induction l with
  | nil => rfl
  | cons c t ih =>
    cases h : stopC c
    · rw [headW_cons h]; simp [ih]
    · rw [headW_stop h]; rfl
theorem drop_bytes {s : ByteArray} {k : Nat} (h : k < s.size) : s.data.toList.drop k = s[k] :: s.data.toList.drop (k + 1) := by
  rw [List.drop_eq_getElem_cons (by rw [Array.length_toList]; exact h)]
  rfl
theorem drop_bytes_end {s : ByteArray} : s.data.toList.drop s.size = [] := List.drop_of_length_le (by rw [Array.length_toList]; exact Nat.le_refl _)
theorem blank_ix : ∀ c : UInt8, decide (0 ≤ Lib.indexByte [32, 9, 13] c) = blankC c := fun c => by
  unfold Lib.indexByte Lib.indexByte Lib.indexByte Lib.indexByte blankC
  by_cases h1 : c = 32
  · subst h1; rfl
  · by_cases h2 : c = 9
    · subst h2; rfl
    · by_cases h3 : c = 13
      · subst h3; rfl
      · have e1 : ((32 : UInt8) == c) = false := by simpa using fun e => h1 e.symm
        have e2 : ((9 : UInt8) == c) = false := by simpa using fun e => h2 e.symm
        have e3 : ((13 : UInt8) == c) = false := by simpa using fun e => h3 e.symm
        simp [e1, e2, e3, h1, h2, h3]
theorem stop_ix : ∀ c : UInt8, decide (Lib.indexByte [32, 9, 13, 35] c < 0) = !stopC c := fun c => by
  unfold Lib.indexByte Lib.indexByte Lib.indexByte Lib.indexByte Lib.indexByte stopC blankC
  by_cases h1 : c = 32
  · subst h1; rfl
  · by_cases h2 : c = 9
    · subst h2; rfl
    · by_cases h3 : c = 13
      · subst h3; rfl
      · by_cases h4 : c = 35
        · subst h4; rfl
        · have e1 : ((32 : UInt8) == c) = false := by simpa using fun e => h1 e.symm
          have e2 : ((9 : UInt8) == c) = false := by simpa using fun e => h2 e.symm
          have e3 : ((13 : UInt8) == c) = false := by simpa using fun e => h3 e.symm
          have e4 : ((35 : UInt8) == c) = false := by simpa using fun e => h4 e.symm
          simp [e1, e2, e3, e4, h1, h2, h3, h4]
theorem ix_blank (c : UInt8) (w : World) : Calls Tryd.prog 58 #[.string ⟨#[32, 9, 13]⟩, .int .u8 (c.toNat : Int)] w fun e w' => (∃ v : Int, e = .returned (.int .i64 v) ∧ decide (0 ≤ v) = blankC c) ∧ w' = w :=
  (indexByte_any ⟨#[32, 9, 13]⟩ (c.toNat : Int) w).mono fun e w' ⟨he, hw⟩ => ⟨⟨_, he, by
    have := blank_ix c
    rw [show ((c.toNat : Nat) : Int).toNat.toUInt8 = c by simp]
    exact this⟩, hw⟩
theorem ix_stop (c : UInt8) (w : World) : Calls Tryd.prog 58 #[.string ⟨#[32, 9, 13, 35]⟩, .int .u8 (c.toNat : Int)] w fun e w' => (∃ v : Int, e = .returned (.int .i64 v) ∧ decide (v < 0) = !stopC c) ∧ w' = w :=
  (indexByte_any ⟨#[32, 9, 13, 35]⟩ (c.toNat : Int) w).mono fun e w' ⟨he, hw⟩ => ⟨⟨_, he, by
    have := stop_ix c
    rw [show ((c.toNat : Nat) : Int).toNat.toUInt8 = c by simp]
    exact this⟩, hw⟩
theorem info_word : (Tryd.prog.info? 109).map (fun i => (i.zero, i.size, i.bytes)) = some (some (.agg #[.string ⟨#[]⟩, .int .i64 0]), 2, 24) := by kernel_rfl
/-- How far the words have been read. -/
def SpAt (s : ByteArray) (l : List Wd) (i : Nat) (e : Int) : Prop := ∃ n, s.size < i + n ∧ splitW s = (l ++ (splitL n i e (s.data.toList.drop i)).1, (splitL n i e (s.data.toList.drop i)).2)
theorem SpAt.start (s : ByteArray) : SpAt s [] 0 1 := ⟨s.size + 1, by omega, rfl⟩
theorem SpAt.blank {s : ByteArray} {l : List Wd} {i : Nat} {e : Int} (h : SpAt s l i e) (hi : i < s.size) (h35 : s[i] ≠ 35) (hb : blankC s[i] = true) : SpAt s l (i + 1) e := by
  obtain ⟨n, hn, h⟩ := h
  rcases n with _ | n
  · omega
  · refine ⟨n, by omega, ?_⟩
    rw [drop_bytes hi] at h
    simp only [splitL, beq_iff_eq, h35, if_false, hb, if_true] at h
    exact h
theorem SpAt.word {s : ByteArray} {l : List Wd} {i u : Nat} {e : Int} (h : SpAt s l i e) (hi : i < s.size) (h35 : s[i] ≠ 35) (hb : blankC s[i] = false) (hu : (headW (s.data.toList.drop i)).length = u) : SpAt s (l ++ [⟨s.extract i (i + u), ((i + 1 : Nat) : Int)⟩]) (i + u) ((i + u + 1 : Nat) : Int) := by
  obtain ⟨n, hn, h⟩ := h
  have hstop : stopC s[i] = false := by unfold stopC; simp [hb, h35]
  have hu1 : 1 ≤ u := by rw [← hu, drop_bytes hi, headW_cons hstop]; simp
  have hex : s.extract i (i + u) = ⟨(headW (s.data.toList.drop i)).toArray⟩ := by
    apply ByteArray.ext
    apply Array.toList_inj.1
    rw [Lib.extract_data, ← headW_take, hu]
    simp [Nat.add_sub_cancel_left]
  rcases n with _ | n
  · omega
  · refine ⟨n, by omega, ?_⟩
    have hd : (s.data.toList.drop i).drop u = s.data.toList.drop (i + u) := by rw [List.drop_drop]
    rw [hex]
    rw [drop_bytes hi] at h hu hd ⊢
    simp only [splitL, beq_iff_eq, h35, if_false, hb, Bool.false_eq_true, hu, hd] at h
    rw [h, List.append_assoc]
    rfl
theorem SpAt.done {s : ByteArray} {l : List Wd} {i : Nat} {e : Int} (h : SpAt s l i e) (hi : i ≤ s.size) (h35 : ∀ h : i < s.size, s[i] = 35) : splitW s = (l, e) := by
  obtain ⟨n, hn, h⟩ := h
  rcases n with _ | n
  · omega
  · rcases Nat.lt_or_ge i s.size with h1 | h1
    · rw [drop_bytes h1] at h
      simp only [splitL, beq_iff_eq, h35 h1, if_true, List.append_nil] at h
      exact h
    · obtain rfl : i = s.size := by omega
      rw [drop_bytes_end] at h
      simp only [splitL, List.append_nil] at h
      exact h
/-- How far a word has been read. -/
def WdAt (s : ByteArray) (i j : Nat) : Prop := (headW (s.data.toList.drop i)).length = (j - i) + (headW (s.data.toList.drop j)).length
theorem WdAt.start (s : ByteArray) (i : Nat) : WdAt s i i := by unfold WdAt; omega
theorem WdAt.step {s : ByteArray} {i j : Nat} (h : WdAt s i j) (hij : i ≤ j) (hj : j < s.size) (hs : stopC s[j] = false) : WdAt s i (j + 1) := by
  unfold WdAt at h ⊢
  rw [drop_bytes hj, headW_cons hs, List.length_cons] at h
  omega
theorem WdAt.done {s : ByteArray} {i j : Nat} (h : WdAt s i j) (hj : j ≤ s.size) (hs : ∀ h : j < s.size, stopC s[j] = true) : (headW (s.data.toList.drop i)).length = j - i := by
  unfold WdAt at h
  rcases Nat.lt_or_ge j s.size with h1 | h1
  · rw [drop_bytes h1, headW_stop (hs h1)] at h
    simpa using h
  · obtain rfl : j = s.size := by omega
    rw [drop_bytes_end] at h
    simpa [headW] using h
theorem SpAt.count {s : ByteArray} {l : List Wd} {i : Nat} {e : Int} (h : SpAt s l i e) (hl : l.length ≤ i) : True := trivial

set_option maxRecDepth 100000 in
set_option maxHeartbeats 8000000 in
theorem csplit_any (s : ByteArray) (w : World) (hs : s.size ≤ 1100000) :
    Calls Tryd.prog 38 #[.string s] w fun e w' => ∃ A c, e = .returned (.tuple #[.slice A (splitW s).1.length c, .int .i64 (splitW s).2]) ∧ w'.ownsRow w.heap.size 109 2 (.slice A (splitW s).1.length c) (splitW s).1.length (wcells (splitW s).1) ∧ Below w.heap.size w w' := by
  have HSZ : Hid (w.heap.size ≤ w.heap.size) := Lib.hid (Nat.le_refl _)
  have HS0 := Lib.hid (SpAt.start s)
  have HR0 : Hid (w.ownsRow w.heap.size 109 2 (.slice none 0 0) 0 (wcells [])) := Lib.hid (World.ownsRow_nil _ _ _ _)
  have HB0 := Lib.hid (Below.refl w.heap.size w)
  go_enter Tryd.func38, Tryd.ntmps38
  go_upto_region 4 with (fail)
  go_loopw [4, 5, 6, 7] (fun s4 s5 s6 s7 wr => ∃ (i : Nat) (l : List Wd) (e : Int), i ≤ s.size ∧ l.length ≤ i ∧ s6 = .int .i64 i ∧ s5 = .int .i64 e ∧ Hid (wr.ownsRow w.heap.size 109 2 s4 l.length (wcells l)) ∧ Hid (SpAt s l i e) ∧ Hid (Below w.heap.size w wr)) (fun _ _ s6 _ _ => s.size - (intOf s6).toNat)
  case atStart => exact ⟨0, [], 1, by omega, by simp, rfl, rfl, HR0, HS0, HB0⟩
  case round =>
    clear HR0 HS0 HB0
    obtain ⟨i, l, e, hi, hli, rfl, rfl, HR, HSP, HB⟩ := hrel
    by_cases hlt : i < s.size
    · by_cases h35 : s[i] = 35
      · have hd := HSP.out.done hi (fun _ => h35)
        have h35i : ((s[i].toNat : Int) == 35) = true := by rw [h35]; rfl
        have h35j : (s[i].toNat : Int) = 35 := by rw [h35]; rfl
        obtain ⟨A, c, eA, _⟩ := rows_cells HR.out (by decide)
        subst eA
        have HD := Lib.hid hd
        clear hd h35 hs hli
        go_wp2
        go_ret2
        exact ⟨A, c, by rw [HD.out]; rfl, by rw [HD.out]; exact HR.out, HB.out⟩
      · have h35i : ((s[i].toNat : Int) == 35) = false := by
          simp only [beq_eq_false_iff_ne, ne_eq]
          intro h
          exact h35 (UInt8.toNat_inj.1 (by show s[i].toNat = 35; omega))
        have hib := ix_blank s[i] wr
        cases hbl : blankC s[i]
        · rw [hbl] at hib
          have HU0 := Lib.hid (WdAt.start s i)
          have hst : stopC s[i] = false := by unfold stopC; simp [hbl, h35]
          have HBL : Hid (blankC s[i] = false) := Lib.hid hbl
          have H35 := Lib.hid h35
          have HST := Lib.hid hst
          clear hbl h35 hst
          go_upto_region 8 with (go_at_call 58; with_reducible refine hib.mono ?_; rintro e w' ⟨⟨v, rfl, hv⟩, rfl⟩)
          clear hib
          go_loop [7] (fun s7 => ∃ j : Nat, s7 = .int .i64 j ∧ i ≤ j ∧ j ≤ s.size ∧ (j = i ∨ i < j) ∧ Hid (WdAt s i j)) (fun s7 => s.size - (intOf s7).toNat)
          case atStart => exact ⟨i, rfl, Nat.le_refl _, by omega, .inl rfl, HU0⟩
          case round =>
            obtain ⟨j, rfl, hij, hjs, hor, HU⟩ := hrel
            by_cases hex : ∃ h : j < s.size, stopC s[j] = false
            · obtain ⟨hjl, hsj⟩ := hex
              have his := ix_stop s[j] w'
              rw [hsj] at his
              have HU2 := Lib.hid (HU.out.step hij hjl hsj)
              go_wp2_with (go_at_call 58; with_reducible refine his.mono ?_; rintro e w3 ⟨⟨v, rfl, hv⟩, rfl⟩)
              go_round
              case rel => exact ⟨j + 1, by go_num, by omega, by omega, .inr (by omega), HU2⟩
              case measure => simp [intOf]; omega
            · have hstop : ∀ h : j < s.size, stopC s[j] = true := fun h => by
                cases hc : stopC s[j]
                · exact absurd ⟨h, hc⟩ hex
                · rfl
              have hlen := HU.out.done hjs hstop
              have hij2 : i < j := by
                rcases hor with rfl | h
                · have := hstop hlt
                  rw [HST.out] at this
                  cases this
                · exact h
              have hw := HSP.out.word hlt H35.out HBL.out hlen
              rw [show i + (j - i) = j by omega] at hw
              have HW := Lib.hid hw
              have hnum : ((i + 1 : Nat) : Int) = (i : Int) + 1 := by omega
              rw [hnum] at HW
              have hbl := below1 w' (.cells #[.string (s.extract i j), .int .i64 ((i : Int) + 1)] 109)
              have HC : Hid (CReads (w'.alloc (.cells #[.string (s.extract i j), .int .i64 ((i : Int) + 1)] 109)) (some ⟨w'.heap.size, 0, none⟩) [.string (s.extract i j), .int .i64 ((i : Int) + 1)]) := Lib.hid (CReads.of_blk (Blk.new w' 109 [.string (s.extract i j), .int .i64 ((i : Int) + 1)]))
              have HR5 := Lib.hid (rows_below HR.out hbl)
              have HB5 := Lib.hid (HB.out.trans (hbl.mono (Nat.le_trans HSZ.out HB.out.size)))
              have hsz5 : w.heap.size ≤ (w'.alloc (.cells #[.string (s.extract i j), .int .i64 ((i : Int) + 1)] 109)).heap.size := HB5.out.size
              have hcast : ((i : Int) ≤ (j : Int)) := by omega
              clear HU HST HBL H35 HSP hbl hlen hor hex hw hv
              by_cases hjl : j < s.size
              · have his := ix_stop s[j] w'
                rw [hstop hjl] at his
                clear hstop
                go_upto_region 10 with (go_at_call 58; with_reducible refine his.mono ?_; rintro e w3 ⟨⟨v2, rfl, hv2⟩, rfl⟩)
                go_wp2_with (at_builtin; refine wpList_cells rfl _ _ 75 rfl w.heap.size 109 _ 2 24 Tryd.underlying75 info_word rfl (by decide) u4 l.length (wcells l) rfl HR5.out (some ⟨w3.heap.size, 0, none⟩) 1 1 [.string (s.extract i j), .int .i64 ((i : Int) + 1)] rfl HC.out rfl (by simp [Value.oneCell']) (by unfold maxLen; omega) (by omega) hsz5 ?_; intro v' w4 hr4 hg4 hn4)
                have HR6 : Hid (w4.ownsRow w.heap.size 109 2 v' (l.length + 1) (wcells (l ++ [⟨s.extract i j, (i : Int) + 1⟩]))) := Lib.hid (by rw [wcells_append]; exact hr4)
                have HB6 := Lib.hid (HB5.out.grown hg4 hsz5 (fun g e => (World.ownsRow.lt HR5.out g e).1))
                go_roundw
                case rel => exact ⟨j, l ++ [⟨s.extract i j, (i : Int) + 1⟩], ((j + 1 : Nat) : Int), by omega, by simp; omega, rfl, by go_num, by rw [List.length_append]; exact HR6, HW, HB6⟩
                case measure => simp [intOf]; omega
              · obtain rfl : j = s.size := by omega
                clear hstop
                go_upto_region 10 with (fail)
                go_wp2_with (at_builtin; refine wpList_cells rfl _ _ 75 rfl w.heap.size 109 _ 2 24 Tryd.underlying75 info_word rfl (by decide) u4 l.length (wcells l) rfl HR5.out (some ⟨w'.heap.size, 0, none⟩) 1 1 [.string (s.extract i s.size), .int .i64 ((i : Int) + 1)] rfl HC.out rfl (by simp [Value.oneCell']) (by unfold maxLen; omega) (by omega) hsz5 ?_; intro v' w4 hr4 hg4 hn4)
                have HR6 : Hid (w4.ownsRow w.heap.size 109 2 v' (l.length + 1) (wcells (l ++ [⟨s.extract i s.size, (i : Int) + 1⟩]))) := Lib.hid (by rw [wcells_append]; exact hr4)
                have HB6 := Lib.hid (HB5.out.grown hg4 hsz5 (fun g e => (World.ownsRow.lt HR5.out g e).1))
                go_roundw
                case rel => exact ⟨s.size, l ++ [⟨s.extract i s.size, (i : Int) + 1⟩], ((s.size + 1 : Nat) : Int), by omega, by simp; omega, rfl, by go_num, by rw [List.length_append]; exact HR6, HW, HB6⟩
                case measure => simp [intOf]; omega
        · rw [hbl] at hib
          have HS2 := Lib.hid (HSP.out.blank hlt h35 hbl)
          clear hbl h35 HSP
          go_wp2_with (go_at_call 58; with_reducible refine hib.mono ?_; rintro e w' ⟨⟨v, rfl, hv⟩, rfl⟩)
          go_roundw
          case rel => exact ⟨i + 1, l, e, by omega, by omega, by go_num, rfl, HR, HS2, HB⟩
          case measure => simp [intOf]; omega
    · obtain rfl : i = s.size := by omega
      have HD := Lib.hid (HSP.out.done (Nat.le_refl _) (fun hh => absurd hh (Nat.lt_irrefl _)))
      obtain ⟨A, c, eA, _⟩ := rows_cells HR.out (by decide)
      subst eA
      clear hs hli
      go_wp2
      go_ret2
      exact ⟨A, c, by rw [HD.out]; rfl, by rw [HD.out]; exact HR.out, HB.out⟩
end Go.Proofs.YtjkmoahnociaiaaDoor
