/- A made circuit: within, number. -/
import Derived.Test.YtjkmoahnociaiaaDoorSED
import Derived.Test.YtjkmoahnociaiaaDoorP6
import Derived.Test.YtjkmoahnociaiaaDoorQ0
import Derived.Test.YtjkmoahnociaiaaDoorG3
import Derived.Laws.Concat
import Derived.Laws.CopyOwn
import Derived.Deep.CutRange
import Derived.Deep.CutBlock
namespace Go.Proofs.YtjkmoahnociaiaaDoor
open Go.RowKit

def Big (v : Int) : Prop := -9223372036854775808 ≤ v ∧ v ≤ 9223372036854775807
set_option maxHeartbeats 1000000 in
/-- A number brought into 0 to n-1. -/
theorem within_any (v : Int) (n : Nat) (w : World) (hv : Big v) (hn : 1 ≤ n) (hn1 : n ≤ 1000000) :
    Calls Tryd.prog 20 #[.int .i64 v, .int .i64 n] w fun e w' => (∃ x : Nat, e = .returned (.int .i64 x) ∧ x < n) ∧ w' = w := by
  obtain ⟨h1, h2⟩ := hv
  have hn0 : ¬ (n : Int) = 0 := by omega
  have hn2 : ((n : Int) == 0) = false := by simp; omega
  go_enter Tryd.func20, Tryd.ntmps20
  by_cases h : v < 0
  · have e1 : IntKind.i64.wrap (v + 1) = v + 1 := by rw [IntKind.wrap_i64]; omega
    have e2 : IntKind.i64.wrap (-(v + 1)) = -(v + 1) := by rw [IntKind.wrap_i64]; omega
    obtain ⟨x, hx⟩ : ∃ x : Nat, (-(v + 1)).tmod (n : Int) = (x : Int) ∧ x < n := by
      refine ⟨((-(v + 1)).tmod (n : Int)).toNat, ?_, ?_⟩
      · have := Int.tmod_nonneg (n : Int) (show 0 ≤ -(v + 1) by omega); omega
      · have h3 := Int.tmod_nonneg (n : Int) (show 0 ≤ -(v + 1) by omega)
        have h4 := Int.tmod_lt_of_pos (-(v + 1)) (show (0 : Int) < n by omega)
        omega
    have e3 : IntKind.i64.wrap (x : Int) = (x : Int) := by rw [IntKind.wrap_i64]; omega
    have e4 := hx.1
    go_wp2
    go_ret
    exact ⟨⟨x, by simp, hx.2⟩, rfl⟩
  · obtain ⟨x, hx⟩ : ∃ x : Nat, v.tmod (n : Int) = (x : Int) ∧ x < n := by
      refine ⟨(v.tmod (n : Int)).toNat, ?_, ?_⟩
      · have := Int.tmod_nonneg (n : Int) (show 0 ≤ v by omega); omega
      · have h3 := Int.tmod_nonneg (n : Int) (show 0 ≤ v by omega)
        have h4 := Int.tmod_lt_of_pos v (show (0 : Int) < n by omega)
        omega
    have e3 : IntKind.i64.wrap (x : Int) = (x : Int) := by rw [IntKind.wrap_i64]; omega
    have e4 := hx.1
    go_wp2
    go_ret
    exact ⟨⟨x, by simp, hx.2⟩, rfl⟩
/-- A number's digits, as bytes. -/
def digs (n : Nat) : List Int := if h : n < 10 then [48 + (n : Int)] else digs (n / 10) ++ [48 + ((n % 10 : Nat) : Int)]
termination_by n
theorem digs_lo {n : Nat} (h : n < 10) : digs n = [48 + (n : Int)] := by rw [digs, dif_pos h]
theorem digs_hi {n : Nat} (h : ¬ n < 10) : digs n = digs (n / 10) ++ [48 + ((n % 10 : Nat) : Int)] := by rw [digs, dif_neg h]
theorem digs_len : ∀ n : Nat, (digs n).length ≤ n + 1 := by
  intro n
  induction n using Nat.strongRecOn with
  | _ n ih =>
    by_cases h : n < 10
    · rw [digs_lo h]; simp
    · rw [digs_hi h, List.length_append, List.length_singleton]
      have := ih (n / 10) (by omega)
      omega
theorem strOfNums_append (a b : List Int) : strOfNums (a ++ b) = strOfNums a ++ strOfNums b := by
  apply ByteArray.ext
  simp [strOfNums]
/-- The text of some bytes, spelled so that the walk takes it in its turn. -/
def textOf (x : Operand) : Op := .convert 42 9 x
theorem textOf_eq (x : Operand) : textOf x = .convert 42 9 x := rfl
attribute [local go_sem] textOf_eq
set_option maxHeartbeats 2000000 in
theorem number_any : ∀ (n : Nat) (w : World), n ≤ 1000000 → Calls Tryd.prog 46 #[.int .i64 n] w fun e w' => e = .returned (.string (strOfNums (digs n))) ∧ Below w.heap.size w w' := by
  intro n
  induction n using Nat.strongRecOn with
  | _ n ih =>
    intro w hn
    by_cases h : n < 10
    · have h1 : (n : Int) < 10 := by omega
      have e1 : IntKind.u8.wrap (48 + (n : Int)) = 48 + (n : Int) := by rw [IntKind.wrap_u8]; omega
      have e2 : IntKind.i64.wrap (48 + (n : Int)) = 48 + (n : Int) := by rw [IntKind.wrap_i64]; omega
      have hb := Lib.hid (below1 w (.cells [Value.int .u8 (48 + (n : Int))].toArray 5))
      have hc : (convert 42 9 (.slice (some ⟨w.heap.size, 0, none⟩) 1 1)).run Tryd.prog (w.alloc (.cells [Value.int .u8 (48 + (n : Int))].toArray 5)) = .ok (.string (strOfNums (digs n))) (w.alloc (.cells [Value.int .u8 (48 + (n : Int))].toArray 5)) := by
        rw [digs_lo h]
        exact run_text Tryd.underlying42 Tryd.underlying5 Tryd.underlying9 (CReads.reads (CReads.of_blk (Blk.new w 5 (nums .u8 [48 + (n : Int)])))) rfl
      clear ih
      go_enter Tryd.func46, Tryd.ntmps46
      go_wp2
      go_ret
      exact ⟨rfl, hb.out⟩
    · obtain ⟨a, ha⟩ : ∃ a, n / 10 = a := ⟨_, rfl⟩
      obtain ⟨b, hbd⟩ : ∃ b, n % 10 = b := ⟨_, rfl⟩
      have h1 : ¬ (n : Int) < 10 := by omega
      have d1 : (n : Int).tdiv 10 = (a : Int) := by rw [Int.tdiv_eq_ediv_of_nonneg (by omega)]; omega
      have d2 : (n : Int).tmod 10 = (b : Int) := by rw [Int.tmod_eq_emod_of_nonneg (by omega)]; omega
      have e0 : IntKind.i64.wrap (a : Int) = (a : Int) := by rw [IntKind.wrap_i64]; omega
      have e3 : IntKind.i64.wrap (b : Int) = (b : Int) := by rw [IntKind.wrap_i64]; omega
      have e1 : IntKind.u8.wrap (48 + (b : Int)) = 48 + (b : Int) := by rw [IntKind.wrap_u8]; omega
      have e2 : IntKind.i64.wrap (48 + (b : Int)) = 48 + (b : Int) := by rw [IntKind.wrap_i64]; omega
      have ihc := Lib.hid (fun W => ih a (by omega) W (by omega))
      have hfin : strOfNums (digs n) = strOfNums (digs a) ++ strOfNums [48 + (b : Int)] := by rw [digs_hi h, ha, hbd, strOfNums_append]
      have HF := Lib.hid hfin
      have hconv : ∀ W g, W.cell? ⟨g, 0, none⟩ = some (.int .u8 (48 + (b : Int))) → (convert 42 9 (.slice (some ⟨g, 0, none⟩) 1 1)).run Tryd.prog W = .ok (.string (strOfNums [48 + (b : Int)])) W := fun W g hg =>
        run_text Tryd.underlying42 Tryd.underlying5 Tryd.underlying9 (fun _ => ⟨g, 0, rfl, fun j x hx => by
          match j, hx with
          | 0, hx => cases hx; exact hg
          | j + 1, hx => simp at hx⟩) rfl
      have HC := Lib.hid hconv
      have hfirst := hconv (w.drew.alloc (.cells [Value.int .u8 (48 + (b : Int))].toArray 5)) w.heap.size ((Blk.new w.drew 5 [Value.int .u8 (48 + (b : Int))]).cell 0)
      have hfirst2 := hconv ((w.alloc (.cells [Value.int .u8 (48 + (b : Int))].toArray 5)).drew) w.heap.size ((Blk.new w 5 [Value.int .u8 (48 + (b : Int))]).cell 0)
      have HCA := Lib.hid ((Blk.new w.drew 5 [Value.int .u8 (48 + (b : Int))]).cell 0)
      obtain ⟨sA, hsA⟩ : ∃ sA, strOfNums (digs a) = sA := ⟨_, rfl⟩
      obtain ⟨sB, hsB⟩ : ∃ sB, strOfNums [48 + (b : Int)] = sB := ⟨_, rfl⟩
      have hsz : sA.size + sB.size ≤ 9223372036854775807 := by rw [← hsA, ← hsB, strOfNums_size, strOfNums_size]; have := digs_len a; simp; omega
      have hsz2 : ¬ (9223372036854775807 < sA.size + sB.size) := by omega
      have hadd := fun W => run_string_add_sum (P := Tryd.prog) W sA sB hsz
      rw [hsA, hsB] at HF
      rw [hsA] at ihc
      rw [hsB] at HC hfirst hfirst2
      clear ih ha hbd hfin hconv hsA hsB
      go_enter Tryd.func46, Tryd.ntmps46
      go_upto_region 3 with (fail)
      rw [← textOf_eq (.tmp 17)]
      go_region_held3 (fun W => Below w.heap.size w W)
        (first | assumption | exact below_drew0 (Below.refl _ _) | exact below_self (by assumption) hb1 | exact Below.alloc (by assumption) (Below.size (by assumption)) _)
        (first
          | ((go_at_call 46; refine (ihc.out _).mono ?_; rintro e w1 ⟨rfl, hb1⟩; (try (have hc1 := HC.out w1 w.heap.size (cell_kept hb1 HCA.out))); (try (have hc2 := HC.out (w1.alloc (.cells [Value.int .u8 (48 + (b : Int))].toArray 5)) w1.heap.size ((Blk.new w1 5 [Value.int .u8 (48 + (b : Int))]).cell 0))))))
      all_goals
        go_wp2
        go_ret
        exact ⟨by rw [HF.out]; rfl, by assumption⟩

def valD (l : List Int) : Int := l.foldl (fun a d => a * 10 + (d - 48)) 0
theorem valD_snoc (l : List Int) (x : Int) : valD (l ++ [x]) = valD l * 10 + (x - 48) := by simp [valD]
theorem valD_digs : ∀ n : Nat, valD (digs n) = (n : Int) := by
  intro n
  induction n using Nat.strongRecOn with
  | _ n ih =>
    by_cases h : n < 10
    · rw [digs_lo h]; simp [valD]; omega
    · rw [digs_hi h, valD_snoc, ih (n / 10) (by omega)]
      omega
theorem digs_in : ∀ n : Nat, ∀ x ∈ digs n, 48 ≤ x ∧ x ≤ 57 := by
  intro n
  induction n using Nat.strongRecOn with
  | _ n ih =>
    intro x hx
    by_cases h : n < 10
    · rw [digs_lo h] at hx
      simp at hx
      omega
    · rw [digs_hi h] at hx
      rcases List.mem_append.1 hx with hx | hx
      · exact ih (n / 10) (by omega) x hx
      · simp at hx
        omega
theorem digs_len3 {n : Nat} (h : n < 1000) : (digs n).length ≤ 3 := by
  have h1 : ∀ m, m < 10 → (digs m).length = 1 := fun m hm => by rw [digs_lo hm]; rfl
  have h2 : ∀ m, m < 100 → (digs m).length ≤ 2 := fun m hm => by
    by_cases h : m < 10
    · rw [h1 m h]; omega
    · rw [digs_hi h, List.length_append, h1 (m / 10) (by omega)]; simp
  by_cases h3 : n < 10
  · rw [h1 n h3]; omega
  · rw [digs_hi h3, List.length_append]
    have := h2 (n / 10) (by omega)
    simp
    omega
/-- The k-th line's name. -/
def gname (n : Nat) : ByteArray := ⟨#[110]⟩ ++ strOfNums (digs n)
theorem gname_eq (n : Nat) : gname n = strOfNums (110 :: digs n) := by
  apply ByteArray.ext
  simp [gname, strOfNums]
theorem gname_size {n : Nat} (h : n < 1000) : (gname n).size ≤ 4 := by
  rw [gname_eq, strOfNums_size, List.length_cons]
  have := digs_len3 h
  omega
theorem gname_inj {n m : Nat} (h : gname n = gname m) : n = m := by
  rw [gname_eq, gname_eq] at h
  have h1 := strOfNums_inj (fun x hx => by
    rcases List.mem_cons.1 hx with rfl | hx
    · omega
    · have := digs_in n x hx; omega) (fun x hx => by
    rcases List.mem_cons.1 hx with rfl | hx
    · omega
    · have := digs_in m x hx; omega) h
  have h2 := congrArg valD (List.cons.inj h1).2
  rw [valD_digs, valD_digs] at h2
  omega
theorem byte_at {l : List Int} {j : Nat} (h : j < (strOfNums l).size) : ∃ x, l[j]? = some x ∧ (strOfNums l)[j].toNat = x.toNat % 256 := by
  have hj : j < l.length := by rwa [strOfNums_size] at h
  refine ⟨l[j], List.getElem?_eq_getElem hj, ?_⟩
  have : (strOfNums l)[j] = UInt8.ofNat (l[j]).toNat := by
    show (strOfNums l).data[j] = _
    simp [strOfNums]
  rw [this]
  simp
theorem gname_ok {n : Nat} (h : n < 1000) : NameP (gname n) := by
  refine ⟨by rw [gname_eq, strOfNums_size]; simp, by have := gname_size h; omega, fun j hj => ?_⟩
  have hj' := hj
  simp only [gname_eq] at hj' ⊢
  obtain ⟨x, hx, he⟩ := byte_at hj'
  rw [he]
  match j, hx with
  | 0, hx =>
    cases hx
    exact .inl ⟨rfl, .inl (by decide)⟩
  | j + 1, hx =>
    rw [List.getElem?_cons_succ] at hx
    have := digs_in n x (List.mem_of_getElem? hx)
    refine .inr ⟨by omega, .inr (.inr ?_)⟩
    omega
def iname : ByteArray := ⟨#[105, 48]⟩
theorem iname_eq : iname = strOfNums [105, 48] := by decide
theorem iname_ok : NameP iname := by
  refine ⟨by decide, by decide, fun j hj => ?_⟩
  have hj' := hj
  simp only [iname_eq] at hj' ⊢
  obtain ⟨x, hx, he⟩ := byte_at hj'
  rw [he]
  match j, hx with
  | 0, hx => cases hx; exact .inl ⟨rfl, .inl (by decide)⟩
  | 1, hx => cases hx; exact .inr ⟨by omega, .inr (.inr (by decide))⟩
  | j + 2, hx => simp at hx
theorem iname_ne (n : Nat) : iname ≠ gname n := by
  rw [iname_eq, gname_eq]
  intro h
  have h1 := strOfNums_inj (fun x hx => by simp at hx; omega) (fun x hx => by
    rcases List.mem_cons.1 hx with rfl | hx
    · omega
    · have := digs_in n x hx; omega) h
  cases h1
def mname : ByteArray := ⟨#[109, 97, 100, 101]⟩
theorem mname_eq : mname = strOfNums [109, 97, 100, 101] := by decide
theorem mname_ok : NameP mname := by
  refine ⟨by decide, by decide, fun j hj => ?_⟩
  have hj' := hj
  simp only [mname_eq] at hj' ⊢
  obtain ⟨x, hx, he⟩ := byte_at hj'
  rw [he]
  match j, hx with
  | 0, hx => cases hx; exact .inl ⟨rfl, .inl (by decide)⟩
  | 1, hx => cases hx; exact .inr ⟨by omega, .inl (.inl (by decide))⟩
  | 2, hx => cases hx; exact .inr ⟨by omega, .inl (.inl (by decide))⟩
  | 3, hx => cases hx; exact .inr ⟨by omega, .inl (.inl (by decide))⟩
  | j + 4, hx => simp at hx
def nameAt (k : Nat) : ByteArray := if k = 0 then iname else gname k
theorem nameAt_ok {k : Nat} (h : k < 1000) : NameP (nameAt k) := by
  unfold nameAt
  split
  · exact iname_ok
  · exact gname_ok h
theorem nameAt_inj {k l : Nat} (h : nameAt k = nameAt l) : k = l := by
  unfold nameAt at h
  split at h <;> split at h
  · omega
  · exact absurd h (iname_ne l)
  · exact absurd h.symm (iname_ne k)
  · exact gname_inj h
/-- A line of a made circuit leans on lines above. -/
def FieldsK (g : Gt) (k : Nat) : Prop :=
  (g.kind = 1 ∧ g.op = 0 ∧ g.a = 0 ∧ g.b = 0 ∧ g.c = 0) ∨
  (g.kind = 2 ∧ 0 ≤ g.op ∧ g.op ≤ 15 ∧ PlaceP g.a k ∧ PlaceP g.b k ∧ g.c = 0) ∨
  (g.kind = 3 ∧ 0 ≤ g.op ∧ g.op ≤ 1 ∧ PlaceP g.a ((k : Int) + 1) ∧ g.b = 0 ∧ g.c = 0) ∨
  (g.kind = 4 ∧ g.op = 0 ∧ PlaceP g.a k ∧ PlaceP g.b k ∧ PlaceP g.c k)
structure MadeP (gs : List Gt) (outs : List Int) : Prop where
  pos : 1 ≤ gs.length
  le : gs.length ≤ 200
  ol : outs.length + 1 ≤ gs.length
  lines : ∀ (k : Nat) (g : Gt), gs[k]? = some g → g.name = nameAt k ∧ FieldsK g k
  outs : ∀ p ∈ outs, 0 ≤ p ∧ p < (gs.length : Int)
theorem MadeP.start : MadeP [⟨1, iname, 0, 0, 0, 0⟩] [] :=
  ⟨by simp, by simp, by simp, fun k g h => by
    match k, h with
    | 0, h => cases h; exact ⟨rfl, .inl ⟨rfl, rfl, rfl, rfl, rfl⟩⟩
    | k + 1, h => simp at h, fun p h => by simp at h⟩
theorem MadeP.add {gs : List Gt} {outs : List Int} {g : Gt} (h : MadeP gs outs) (hl : gs.length < 200) (hn : g.name = gname gs.length) (hf : FieldsK g gs.length) : MadeP (gs ++ [g]) outs := by
  have hp := h.pos
  refine ⟨by simp, by simp; omega, by have := h.ol; simp; omega, fun k x hk => ?_, fun p hp => by have := h.outs p hp; simp; omega⟩
  rcases Nat.lt_trichotomy k gs.length with e | e | e
  · rw [List.getElem?_append_left e] at hk
    exact h.lines k x hk
  · subst e
    simp at hk
    subst hk
    exact ⟨by rw [hn]; unfold nameAt; rw [if_neg (by omega)], hf⟩
  · rw [List.getElem?_append_right (by omega), List.getElem?_eq_none (by simp; omega)] at hk
    cases hk
theorem MadeP.out {gs : List Gt} {outs : List Int} {g : Gt} {n : Nat} (h : MadeP gs outs) (hn : gs.length = n) (h2 : MadeP (gs ++ [g]) outs) : MadeP (gs ++ [g]) (outs ++ [(n : Int)]) :=
  ⟨h2.pos, h2.le, by have := h.ol; simp; omega, h2.lines, fun p hp => by
    rcases List.mem_append.1 hp with hp | hp
    · exact h2.outs p hp
    · simp at hp; subst hp; simp; omega⟩
/-- The circuit, done. -/
structure MadeC (c : Ct) : Prop where
  name : c.name = mname
  pos : 1 ≤ c.gs.length
  le : c.gs.length ≤ 200
  ol : c.outs.length ≤ 200
  lines : ∀ (k : Nat) (g : Gt), c.gs[k]? = some g → g.name = nameAt k ∧ FieldsK g k
  outs : ∀ p ∈ c.outs, 0 ≤ p ∧ p < (c.gs.length : Int)
theorem MadeP.done {gs : List Gt} {outs : List Int} (h : MadeP gs outs) : MadeC ⟨mname, gs, outs⟩ := ⟨rfl, h.pos, h.le, by have := h.ol; have := h.le; dsimp only; omega, h.lines, h.outs⟩
theorem MadeP.last {gs : List Gt} {outs : List Int} (h : MadeP gs outs) {z : Int} (hz : z = (gs.length : Int) - 1) : MadeC ⟨mname, gs, [z]⟩ := ⟨rfl, h.pos, h.le, by simp, h.lines, fun p hp => by
  have := h.pos
  simp at hp; subst hp; dsimp only; omega⟩
theorem FieldsK.p {g : Gt} {k n : Nat} (h : FieldsK g k) (hk : k < n) : FieldsP g (n : Int) := by
  unfold FieldsK PlaceP at h
  unfold FieldsP PlaceP
  omega
theorem MadeC.leans {c : Ct} (h : MadeC c) {k : Nat} {g : Gt} (hg : c.gs[k]? = some g) : ∀ p ∈ g.lns, p < k := by
  intro p hp
  have hf := (h.lines k g hg).2
  unfold FieldsK PlaceP at hf
  unfold Gt.lns Gt.leans at hp
  obtain ⟨x, hx, rfl⟩ := List.mem_map.1 hp
  split at hx
  · simp at hx; omega
  · split at hx
    · simp at hx; omega
    · simp at hx
theorem MadeC.formed {c : Ct} (h : MadeC c) : FormedP c := by
  refine ⟨by rw [h.name]; exact mname_ok, by have := h.le; omega, by have := h.ol; omega, fun g hg => ?_, ?_, h.outs, ?_⟩
  · obtain ⟨k, hk⟩ := List.getElem?_of_mem hg
    have hl := (List.getElem?_eq_some_iff.1 hk).1
    have h1 := h.lines k g hk
    exact ⟨by rw [h1.1]; exact nameAt_ok (by have := h.le; omega), h1.2.p hl⟩
  · unfold List.Nodup
    rw [List.pairwise_iff_getElem]
    intro i j hi hj hij e
    rw [List.getElem_map, List.getElem_map] at e
    rw [List.length_map] at hi hj
    rw [(h.lines i _ (List.getElem?_eq_getElem hi)).1, (h.lines j _ (List.getElem?_eq_getElem hj)).1] at e
    have := nameAt_inj e
    omega
  · intro i
    induction i using Nat.strongRecOn with
    | _ i ih =>
      intro hi
      refine Acc.intro i fun p hp => ?_
      have hg := List.getElem?_eq_getElem hi
      rw [lnsOf_at hg] at hp
      have := h.leans hg p hp
      exact ih p this (by omega)

end Go.Proofs.YtjkmoahnociaiaaDoor
/- made: a circuit from codes; its rows are its own. -/
namespace Go.Proofs.YtjkmoahnociaiaaDoor
open Go.RowKit

/-- What made leaves. -/
def MadeR (w : World) (e : Ending) (w' : World) : Prop :=
  ∃ gs outs A B n m ca cb, e = .returned (.agg #[.string mname, .slice A n ca, .slice B m cb]) ∧ MadeC ⟨mname, gs, outs⟩ ∧ gs.length = n ∧ outs.length = m ∧ Hid (CReads w' A (gcells gs)) ∧ Hid (Reads w' .i64 B outs) ∧ Below w.heap.size w w' ∧ Hid (w'.ownsRow w.heap.size 46 6 (.slice A n ca) n (gcells gs)) ∧ Hid (Owns w' w.heap.size 3 (.slice B m cb) (nums .i64 outs))
theorem m_alloc_size (w : World) (o : Obj) : (w.alloc o).heap.size = w.heap.size + 1 := by simp
/-- What the loop of made keeps. -/
structure MadeS (w wr : World) (gs : List Gt) (outs : List Int) (A B : Option Addr) (n m ca cb : Nat) : Prop where
  z : Blk wr w.heap.size 25 [.string ⟨#[]⟩, .slice none 0 0, .slice none 0 0]
  x : Blk wr (w.heap.size + 2) 25 [.string mname, .slice A n ca, .slice B m cb]
  g : wr.ownsRow w.heap.size 46 6 (.slice A n ca) n (gcells gs)
  o : Owns wr w.heap.size 3 (.slice B m cb) (nums .i64 outs)
  p : MadeP gs outs
  gl : gs.length = n
  ol : outs.length = m
  b : Below w.heap.size w wr
section
variable {w w1 w5 : World} {gs : List Gt} {outs : List Int} {A B A5 B5 : Option Addr} {n m ca cb c5 : Nat} {g : Gt}
theorem MadeS.below (h : MadeS w w1 gs outs A B n m ca cb) (hb : Below w1.heap.size w1 w5) : MadeS w w5 gs outs A B n m ca cb :=
  ⟨h.z.self hb, h.x.self hb, rows_below h.g hb, h.o.below hb, h.p, h.gl, h.ol, below_self h.b hb⟩
theorem MadeS.gate (h : MadeS w w1 gs outs A B n m ca cb) (hn : n < 200) (hgn : g.name = gname n) (hgf : FieldsK g n) (ho : w5.ownsRow w.heap.size 46 6 (.slice A5 (n + 1) c5) (n + 1) (gcells gs ++ gcells [g])) (hg : w1.grownBy w5 (Value.slice A n ca).ownBlock) :
    MadeS w (w5.setCell ⟨w.heap.size + 2, 1, none⟩ (.slice A5 (n + 1) c5)) (gs ++ [g]) outs A5 B (n + 1) m c5 cb := by
  have hty : ∀ b, (Value.slice A n ca).ownBlock = some b → Typed w1 b 46 := fun b e => rows_typed h.g e
  have hz := h.z.grown hg fun e => h.z.typed.ne (hty _ e.symm) (by decide) rfl
  have hx := h.x.grown hg fun e => h.x.typed.ne (hty _ e.symm) (by decide) rfl
  have hon := only_setCell (only_refl w5 (some (w.heap.size + 2))) (p := ⟨w.heap.size + 2, 1, none⟩) (.inl rfl) (.slice A5 (n + 1) c5)
  have hty2 : ∀ b, some (w.heap.size + 2) = some b → Typed w5 b 25 := fun b e => by cases e; exact hx.typed
  refine ⟨hz.far (by intro e; have : w.heap.size = w.heap.size + 2 := e; omega) _, hx.set_ 1 _, by rw [gcells_append]; exact rows_aside ho hon hty2 (by decide), rows_aside (rows_aside h.o hg hty (by decide)) hon hty2 (by decide), h.p.add (by rw [h.gl]; exact hn) (by rw [h.gl]; exact hgn) (by rw [h.gl]; exact hgf), by rw [List.length_append, h.gl]; rfl, h.ol, ?_⟩
  have h1 := h.b.grown hg h.b.size fun b e => (World.ownsRow.lt h.g b e).1
  exact h1.grown hon h1.size fun b e => by cases e; omega
theorem MadeS.put (h : MadeS w w1 (gs ++ [g]) outs A B (n + 1) m ca cb) (h0 : MadeP gs outs) (hgl : gs.length = n) (ho : Owns w5 w.heap.size 3 (.slice B5 (m + 1) c5) (nums .i64 outs ++ [.int .i64 n])) (hg : w1.grownBy w5 (Value.slice B m cb).ownBlock) :
    MadeS w (w5.setCell ⟨w.heap.size + 2, 2, none⟩ (.slice B5 (m + 1) c5)) (gs ++ [g]) (outs ++ [(n : Int)]) A B5 (n + 1) (m + 1) ca c5 := by
  have hty : ∀ b, (Value.slice B m cb).ownBlock = some b → Typed w1 b 3 := fun b e => h.o.typed e
  have hz := h.z.grown hg fun e => h.z.typed.ne (hty _ e.symm) (by decide) rfl
  have hx := h.x.grown hg fun e => h.x.typed.ne (hty _ e.symm) (by decide) rfl
  have hon := only_setCell (only_refl w5 (some (w.heap.size + 2))) (p := ⟨w.heap.size + 2, 2, none⟩) (.inl rfl) (.slice B5 (m + 1) c5)
  have hty2 : ∀ b, some (w.heap.size + 2) = some b → Typed w5 b 25 := fun b e => by cases e; exact hx.typed
  refine ⟨hz.far (by intro e; have : w.heap.size = w.heap.size + 2 := e; omega) _, hx.set_ 2 _, rows_aside (rows_aside h.g hg hty (by decide)) hon hty2 (by decide), by rw [nums_append]; exact rows_aside ho hon hty2 (by decide), h0.out hgl h.p, h.gl, by rw [List.length_append, h.ol]; rfl, ?_⟩
  have h1 := h.b.grown hg h.b.size fun b e => (World.ownsRow.lt h.o b e).1
  exact h1.grown hon h1.size fun b e => by cases e; omega
end
section
variable {w w1 : World} {gs : List Gt} {outs : List Int} {A B : Option Addr} {n m ca cb : Nat}
theorem made_fin {zc : List Value} {b : Nat} (hz : Blk w1 w.heap.size 25 zc) (hg : w1.ownsRow b 46 6 (.slice A n ca) n (gcells gs)) (ho : Owns w1 b 3 (.slice B m cb) (nums .i64 outs)) (hol : outs.length = m) (hb : Below w.heap.size w w1) (u v x : Value) :
    Hid (CReads (((w1.setCell ⟨w.heap.size, 0, none⟩ u).setCell ⟨w.heap.size, 1, none⟩ v).setCell ⟨w.heap.size, 2, none⟩ x) A (gcells gs)) ∧ Hid (Reads (((w1.setCell ⟨w.heap.size, 0, none⟩ u).setCell ⟨w.heap.size, 1, none⟩ v).setCell ⟨w.heap.size, 2, none⟩ x) .i64 B outs) ∧ Below w.heap.size w (((w1.setCell ⟨w.heap.size, 0, none⟩ u).setCell ⟨w.heap.size, 1, none⟩ v).setCell ⟨w.heap.size, 2, none⟩ x) ∧ Hid (World.ownsRow (((w1.setCell ⟨w.heap.size, 0, none⟩ u).setCell ⟨w.heap.size, 1, none⟩ v).setCell ⟨w.heap.size, 2, none⟩ x) b 46 6 (.slice A n ca) n (gcells gs)) ∧ Hid (Owns (((w1.setCell ⟨w.heap.size, 0, none⟩ u).setCell ⟨w.heap.size, 1, none⟩ v).setCell ⟨w.heap.size, 2, none⟩ x) b 3 (.slice B m cb) (nums .i64 outs)) := by
  have hon := only_set3 w1 w.heap.size u v x
  have hty : ∀ b, some w.heap.size = some b → Typed w1 b 25 := fun b e => by cases e; exact hz.typed
  refine ⟨Lib.hid (rows_read (rows_aside hg hon hty (by decide)) (by decide)), Lib.hid ?_, hb.grown hon hb.size fun b e => by cases e; exact Nat.le_refl _, Lib.hid (rows_aside hg hon hty (by decide)), Lib.hid (rows_aside ho hon hty (by decide))⟩
  have ho' := rows_aside ho hon hty (by decide)
  have hl : (nums .i64 outs).length = m := by rw [nums_length]; exact hol
  rw [hl] at ho'
  exact (rows_read ho' (by decide)).reads
/-- The one line that is told where none is. -/
theorem MadeS.only (h : MadeS w w1 gs outs A B n m ca cb) (z : Int) :
    Blk ((w1.alloc (.cells [Value.int .i64 z].toArray 3)).setCell ⟨w.heap.size + 2, 2, none⟩ (.slice (some ⟨w1.heap.size, 0, none⟩) 1 1)) w.heap.size 25 [.string ⟨#[]⟩, .slice none 0 0, .slice none 0 0] ∧
    Blk ((w1.alloc (.cells [Value.int .i64 z].toArray 3)).setCell ⟨w.heap.size + 2, 2, none⟩ (.slice (some ⟨w1.heap.size, 0, none⟩) 1 1)) (w.heap.size + 2) 25 [.string mname, .slice A n ca, .slice (some ⟨w1.heap.size, 0, none⟩) 1 1] ∧
    World.ownsRow ((w1.alloc (.cells [Value.int .i64 z].toArray 3)).setCell ⟨w.heap.size + 2, 2, none⟩ (.slice (some ⟨w1.heap.size, 0, none⟩) 1 1)) w.heap.size 46 6 (.slice A n ca) n (gcells gs) ∧
    Owns ((w1.alloc (.cells [Value.int .i64 z].toArray 3)).setCell ⟨w.heap.size + 2, 2, none⟩ (.slice (some ⟨w1.heap.size, 0, none⟩) 1 1)) w.heap.size 3 (.slice (some ⟨w1.heap.size, 0, none⟩) 1 1) (nums .i64 [z]) ∧
    Below w.heap.size w ((w1.alloc (.cells [Value.int .i64 z].toArray 3)).setCell ⟨w.heap.size + 2, 2, none⟩ (.slice (some ⟨w1.heap.size, 0, none⟩) 1 1)) := by
  have h2 := h.below (below1 w1 (.cells [Value.int .i64 z].toArray 3))
  have hon := only_setCell (only_refl (w1.alloc (.cells [Value.int .i64 z].toArray 3)) (some (w.heap.size + 2))) (p := ⟨w.heap.size + 2, 2, none⟩) (.inl rfl) (.slice (some ⟨w1.heap.size, 0, none⟩) 1 1)
  have hty : ∀ b, some (w.heap.size + 2) = some b → Typed (w1.alloc (.cells [Value.int .i64 z].toArray 3)) b 25 := fun b e => by cases e; exact h2.x.typed
  have ho : Owns (w1.alloc (.cells [Value.int .i64 z].toArray 3)) w.heap.size 3 (.slice (some ⟨w1.heap.size, 0, none⟩) 1 1) (nums .i64 [z]) := World.ownsRow_lit w1 (base := w.heap.size) (e := 3) (size := 1) (nums .i64 [z]).toArray 1 h.b.size (by decide) rfl
  exact ⟨h2.z.far (by intro e; have : w.heap.size = w.heap.size + 2 := e; omega) _, h2.x.set_ 2 _, rows_aside h2.g hon hty (by decide), rows_aside ho hon hty (by decide), h2.b.grown hon h2.b.size fun b e => by cases e; omega⟩
end
theorem made_start (w : World) : MadeS w (((w.alloc (.cells #[.string ⟨#[]⟩, .slice none 0 0, .slice none 0 0] 25)).alloc (.cells #[.int .i64 1, .string ⟨#[105, 48]⟩, .int .i64 0, .int .i64 0, .int .i64 0, .int .i64 0] 46)).alloc (.cells #[.string ⟨#[109, 97, 100, 101]⟩, .slice (some ⟨w.heap.size + 1, 0, none⟩) 1 1, .slice none 0 0] 25)) [⟨1, iname, 0, 0, 0, 0⟩] [] (some ⟨w.heap.size + 1, 0, none⟩) none 1 0 1 0 := by
  have e1 := m_alloc_size w (.cells #[.string ⟨#[]⟩, .slice none 0 0, .slice none 0 0] 25)
  have e2 := m_alloc_size (w.alloc (.cells #[.string ⟨#[]⟩, .slice none 0 0, .slice none 0 0] 25)) (.cells #[.int .i64 1, .string ⟨#[105, 48]⟩, .int .i64 0, .int .i64 0, .int .i64 0, .int .i64 0] 46)
  have hb1 := below2 w (.cells #[.string ⟨#[]⟩, .slice none 0 0, .slice none 0 0] 25) (.cells #[.int .i64 1, .string ⟨#[105, 48]⟩, .int .i64 0, .int .i64 0, .int .i64 0, .int .i64 0] 46)
  have hb2 := below1 ((w.alloc (.cells #[.string ⟨#[]⟩, .slice none 0 0, .slice none 0 0] 25)).alloc (.cells #[.int .i64 1, .string ⟨#[105, 48]⟩, .int .i64 0, .int .i64 0, .int .i64 0, .int .i64 0] 46)) (.cells #[.string ⟨#[109, 97, 100, 101]⟩, .slice (some ⟨w.heap.size + 1, 0, none⟩) 1 1, .slice none 0 0] 25)
  refine ⟨((Blk.new w 25 [.string ⟨#[]⟩, .slice none 0 0, .slice none 0 0]).alloc _).self hb2, ?_, rows_below ?_ hb2, owns_nil _ _ _, MadeP.start, rfl, rfl, below_self hb1 hb2⟩
  · have := Blk.new ((w.alloc (.cells #[.string ⟨#[]⟩, .slice none 0 0, .slice none 0 0] 25)).alloc (.cells #[.int .i64 1, .string ⟨#[105, 48]⟩, .int .i64 0, .int .i64 0, .int .i64 0, .int .i64 0] 46)) 25 [.string ⟨#[109, 97, 100, 101]⟩, .slice (some ⟨w.heap.size + 1, 0, none⟩) 1 1, .slice none 0 0]
    rw [e2, e1] at this
    exact this
  · have := World.ownsRow_lit (w.alloc (.cells #[.string ⟨#[]⟩, .slice none 0 0, .slice none 0 0] 25)) (base := w.heap.size) (e := 46) (size := 6) (gcells [⟨1, iname, 0, 0, 0, 0⟩]).toArray 1 (by rw [e1]; omega) (by decide) rfl
    rw [e1] at this
    exact this
set_option maxRecDepth 100000 in
set_option maxHeartbeats 8000000 in
theorem made_any (AC : Option Addr) (L c : Nat) (xs : List Int) (w : World) (hC : Reads w .i64 AC xs) (hL : xs.length = L) (hx : ∀ x ∈ xs, Big x) (hm : L ≤ 1000000000000000) :
    Calls Tryd.prog 19 #[.slice AC L c] w (fun e w' => MadeR w e w') := by
  have HC := Lib.hid hC; have HL := Lib.hid hL; have HX := Lib.hid hx
  clear hC hL hx
  go_enter Tryd.func19, Tryd.ntmps19
  go_upto_region 3 with (fail)
  have HM1 := Lib.hid (made_start w)
  generalize (((w.alloc (.cells #[.string ⟨#[]⟩, .slice none 0 0, .slice none 0 0] 25)).alloc (.cells #[.int .i64 1, .string ⟨#[105, 48]⟩, .int .i64 0, .int .i64 0, .int .i64 0, .int .i64 0] 46)).alloc (.cells #[.string ⟨#[109, 97, 100, 101]⟩, .slice (some ⟨w.heap.size + 1, 0, none⟩) 1 1, .slice none 0 0] 25)) = W1 at *
  obtain ⟨bx, hbx⟩ : ∃ bx, w.heap.size = bx := ⟨_, rfl⟩
  have HBX := Lib.hid hbx
  rw [hbx] at HM1 ⊢
  clear hbx
  go_loopw [4] (fun s4 wr => ∃ (i : Nat) (gs : List Gt) (outs : List Int) (A B : Option Addr) (n m ca cb : Nat), i ≤ L + 2 ∧ s4 = .int .i64 i ∧ Hid (MadeS w wr gs outs A B n m ca cb)) (fun s4 _ => L + 2 - (intOf s4).toNat)
  case atStart => exact ⟨0, _, _, _, _, _, _, _, _, by omega, rfl, HM1⟩
  case round =>
    clear HM1
    obtain ⟨i, gs, outs, A, B, n, m, ca, cb, hi, rfl, HM⟩ := hrel
    have ew : IntKind.i64.wrap ((i : Int) + 2) = (i : Int) + 2 := by rw [IntKind.wrap_i64]; omega
    have x1 : wr.cell? ⟨bx + 2, 1, none⟩ = some (.slice A n ca) := by rw [← HBX.out]; exact (HM.out.x.cell 1).trans rfl
    by_cases h12 : i + 2 < L ∧ n < 200
    · obtain ⟨h1, h2⟩ := h12
      have h1' : (i : Int) + 2 < (L : Int) := by omega
      have h2' : (n : Int) < 200 := by omega
      obtain ⟨sN, hsN⟩ : ∃ sN, strOfNums (digs n) = sN := ⟨_, rfl⟩
      have hN : Calls Tryd.prog 46 #[.int .i64 n] wr fun e w' => e = .returned (.string sN) ∧ Below wr.heap.size wr w' := by
        rw [← hsN]; exact number_any n wr (by omega)
      have HSN : Hid ((⟨#[110]⟩ : ByteArray) ++ sN = gname n) := Lib.hid (by rw [← hsN]; rfl)
      have hsz : (⟨#[110]⟩ : ByteArray).size + sN.size ≤ 9223372036854775807 := by
        have := digs_len n
        rw [← hsN, strOfNums_size]
        show 1 + _ ≤ _
        omega
      have hadd := fun W => run_string_add_sum (P := Tryd.prog) W (⟨#[110]⟩ : ByteArray) sN hsz
      have hsz2 : ¬ (9223372036854775807 < 1 + sN.size) := by
        have h3 : (⟨#[110]⟩ : ByteArray).size = 1 := rfl
        omega
      clear hsN hsz
      go_upto_region 7 with (go_at_call 46; with_reducible refine hN.mono ?_; rintro e w6 ⟨rfl, hb6⟩)
      rw [HSN.out]
      have hbl := below1 w6 (.cells #[.int .i64 0, .string (gname n), .int .i64 0, .int .i64 0, .int .i64 0, .int .i64 0] 46)
      have HBG : Hid (Blk (w6.alloc (.cells #[.int .i64 0, .string (gname n), .int .i64 0, .int .i64 0, .int .i64 0, .int .i64 0] 46)) w6.heap.size 46 [.int .i64 0, .string (gname n), .int .i64 0, .int .i64 0, .int .i64 0, .int .i64 0]) := Lib.hid (Blk.new w6 46 [.int .i64 0, .string (gname n), .int .i64 0, .int .i64 0, .int .i64 0, .int .i64 0])
      have HB7 := Lib.hid (below_then hb6 hb6.size hbl)
      have HBN : Hid (wr.heap.size ≤ w6.heap.size) := Lib.hid hb6.size
      clear hN hadd hsz2 hb6 hbl HSN
      generalize w6.alloc (.cells #[.int .i64 0, .string (gname n), .int .i64 0, .int .i64 0, .int .i64 0, .int .i64 0] 46) = W7 at *
      obtain ⟨bg, hbg⟩ : ∃ bg, w6.heap.size = bg := ⟨_, rfl⟩
      rw [hbg] at HBG HBN ⊢
      clear hbg
      obtain ⟨y0, hy0⟩ : ∃ y, xs[i]? = some y := ⟨_, List.getElem?_eq_getElem (by rw [HL.out]; omega)⟩
      obtain ⟨y1, hy1⟩ : ∃ y, xs[i + 1]? = some y := ⟨_, List.getElem?_eq_getElem (by rw [HL.out]; omega)⟩
      obtain ⟨y2, hy2⟩ : ∃ y, xs[i + 2]? = some y := ⟨_, List.getElem?_eq_getElem (by rw [HL.out]; omega)⟩
      have hRC := (HC.out.below HM.out.b).below HB7.out
      obtain ⟨kb, ko, rfl, c0⟩ := hRC.at_ hy0
      obtain ⟨_, _, e1, c1⟩ := hRC.at_ hy1
      cases e1
      obtain ⟨_, _, e1, c2⟩ := hRC.at_ hy2
      cases e1
      have g0 := HX.out y0 (List.mem_of_getElem? hy0)
      have g1 := HX.out y1 (List.mem_of_getElem? hy1)
      have g2 := HX.out y2 (List.mem_of_getElem? hy2)
      have hn1 : 1 ≤ n := by rw [← HM.out.gl]; exact HM.out.p.pos
      have hw1 := within_any y1 n W7 g1 hn1 (by omega)
      have hw2 := within_any y2 n W7 g2 hn1 (by omega)
      have hw0 : Calls Tryd.prog 20 #[.int .i64 y0, .int .i64 24] W7 fun e w' => (∃ x : Nat, e = .returned (.int .i64 x) ∧ x < 24) ∧ w' = W7 := within_any y0 24 W7 g0 (by omega) (by omega)
      have ew1 : IntKind.i64.wrap ((i : Int) + 1) = (i : Int) + 1 := by rw [IntKind.wrap_i64]; omega
      have i0 : (0 : Int) ≤ (i : Int) := by omega
      have i1 : (0 : Int) ≤ (i : Int) + 1 := by omega
      have i2 : (0 : Int) ≤ (i : Int) + 2 := by omega
      have i3 : (i : Int) < (L : Int) := by omega
      have i4 : (i : Int) + 1 < (L : Int) := by omega
      have t1 : ((i : Int) + 1).toNat = i + 1 := by omega
      have t2 : ((i : Int) + 2).toNat = i + 2 := by omega
      have hkb : kb < wr.heap.size := by
        obtain ⟨_, _, e, hc⟩ := (HC.out.below HM.out.b).at_ hy0
        cases e
        exact World.block_lt_of_cell? _ _ hc
      have HCC := Lib.hid (And.intro c0 (And.intro c1 c2))
      have HY := Lib.hid (And.intro g0 (And.intro g1 g2))
      have HKC : Hid (∀ W, Below w.heap.size w W → W.cell? ⟨kb, ko + (i + 1), none⟩ = some (.int .i64 y1) ∧ W.cell? ⟨kb, ko + (i + 2), none⟩ = some (.int .i64 y2)) := Lib.hid fun W hW => by
        obtain ⟨_, _, e1, k1⟩ := (HC.out.below hW).at_ hy1
        cases e1
        obtain ⟨_, _, e1, k2⟩ := (HC.out.below hW).at_ hy2
        cases e1
        exact ⟨k1, k2⟩
      clear hRC hy0 hy1 hy2 g0 g1 g2
      go_upto_block 2 with (first
        | ((go_at_call 20; with_reducible refine hw1.mono ?_; rintro e w' ⟨⟨a1, rfl, ha1⟩, rfl⟩))
        | ((go_at_call 20; with_reducible refine hw2.mono ?_; rintro e w' ⟨⟨a2, rfl, ha2⟩, rfl⟩))
        | ((go_at_call 20; with_reducible refine hw0.mono ?_; rintro e w' ⟨⟨a0, rfl, ha0⟩, rfl⟩)))
      rename World => W8
      clear hw0 hw1 hw2
      go_cut [] from 51 to 108 (fun wx => ∃ g : Gt, Hid (Blk wx bg 46 g.cells) ∧ Hid (g.name = gname n) ∧ Hid (FieldsK g n) ∧ Hid (W8.grownBy wx (some bg)))
      case first =>
        obtain ⟨g0, g1, g2⟩ := HY.out
        have s0 : W8.cell? ⟨bg, 0, none⟩ = some (.int .i64 0) := (HBG.out.cell 0).trans rfl
        have s2 : W8.cell? ⟨bg, 2, none⟩ = some (.int .i64 0) := (HBG.out.cell 2).trans rfl
        have s3 : W8.cell? ⟨bg, 3, none⟩ = some (.int .i64 0) := (HBG.out.cell 3).trans rfl
        have s4 : W8.cell? ⟨bg, 4, none⟩ = some (.int .i64 0) := (HBG.out.cell 4).trans rfl
        have s5 : W8.cell? ⟨bg, 5, none⟩ = some (.int .i64 0) := (HBG.out.cell 5).trans rfl
        have f0 := HBG.out.frozen 0
        have f2 := HBG.out.frozen 2
        have f3 := HBG.out.frozen 3
        have f4 := HBG.out.frozen 4
        have f5 := HBG.out.frozen 5
        have hne : ¬ kb = bg := by have := HBN.out; omega
        have hne2 : ¬ bg = kb := by omega
        have hw2 : ∀ W, Calls Tryd.prog 20 #[.int .i64 y2, .int .i64 2] W fun e w' => (∃ x : Nat, e = .returned (.int .i64 x) ∧ x < 2) ∧ w' = W := fun W => within_any y2 2 W g2 (by omega) (by omega)
        have hw3 : ∀ W, Calls Tryd.prog 20 #[.int .i64 y1, .int .i64 ((n : Int) + 1)] W fun e w' => (∃ x : Nat, e = .returned (.int .i64 x) ∧ x < n + 1) ∧ w' = W := fun W => by
          have := within_any y1 (n + 1) W g1 (by omega) (by omega)
          rwa [show ((n + 1 : Nat) : Int) = (n : Int) + 1 by omega] at this
        have hw16 : ∀ W, Calls Tryd.prog 20 #[.int .i64 y0, .int .i64 16] W fun e w' => (∃ x : Nat, e = .returned (.int .i64 x) ∧ x < 16) ∧ w' = W := fun W => within_any y0 16 W g0 (by omega) (by omega)
        obtain ⟨z12, hz12⟩ : ∃ z, IntKind.i64.wrap (y1 + y2) = z := ⟨_, rfl⟩
        have gz : Big z12 := by rw [← hz12, IntKind.wrap_i64]; unfold Big; omega
        have hwz : ∀ W, Calls Tryd.prog 20 #[.int .i64 z12, .int .i64 n] W fun e w' => (∃ x : Nat, e = .returned (.int .i64 x) ∧ x < n) ∧ w' = W := fun W => within_any z12 n W gz hn1 (by omega)
        have HW2 := Lib.hid hw2; have HW3 := Lib.hid hw3; have HW16 := Lib.hid hw16; have HWZ := Lib.hid hwz
        have enw : IntKind.i64.wrap ((n : Int) + 1) = (n : Int) + 1 := by rw [IntKind.wrap_i64]; omega
        clear hw2 hw3 hw16 hwz g0 g1 g2 gz
        by_cases q1 : a0 = 0 ∨ a0 = 1
        · rcases q1 with rfl | rfl
          all_goals
            go_wp2_with fail
            go_meet
            exact ⟨⟨1, gname n, 0, 0, 0, 0⟩, Lib.hid (HBG.out.set_ 0 (.int .i64 1)), Lib.hid rfl, Lib.hid (.inl ⟨rfl, rfl, rfl, rfl, rfl⟩), Lib.hid (only_setCell (only_refl W8 (some bg)) (p := ⟨bg, 0, none⟩) (.inl rfl) _)⟩
        · by_cases q2 : a0 = 2 ∨ a0 = 3
          · rcases q2 with rfl | rfl
            all_goals
              go_wp2_with (first
                | ((go_at_call 20; with_reducible refine (HW2.out _).mono ?_; rintro e w' ⟨⟨b2, rfl, hb2⟩, rfl⟩))
                | ((go_at_call 20; with_reducible refine (HW3.out _).mono ?_; rintro e w' ⟨⟨b3, rfl, hb3⟩, rfl⟩)))
              go_meet
              exact ⟨⟨3, gname n, b2, b3, 0, 0⟩, Lib.hid (((HBG.out.set_ 0 (.int .i64 3)).set_ 2 (.int .i64 b2)).set_ 3 (.int .i64 b3)), Lib.hid rfl, Lib.hid (.inr (.inr (.inl ⟨rfl, by dsimp only; omega, by dsimp only; omega, by unfold PlaceP; dsimp only; omega, rfl, rfl⟩))), Lib.hid (only_setCell (only_setCell (only_setCell (only_refl W8 (some bg)) (p := ⟨bg, 0, none⟩) (.inl rfl) _) (p := ⟨bg, 2, none⟩) (.inl rfl) _) (p := ⟨bg, 3, none⟩) (.inl rfl) _)⟩
          · by_cases q3 : a0 = 4 ∨ a0 = 5 ∨ a0 = 6
            · rcases q3 with rfl | rfl | rfl
              all_goals
                go_upto_region 28 with (fail)
                go_region_held3 (fun W => W.cell? ⟨kb, ko + (i + 1), none⟩ = some (.int .i64 y1) ∧ W.cell? ⟨kb, ko + (i + 2), none⟩ = some (.int .i64 y2))
                  (go_keep)
                  (first
                    | ((go_at_call 20; with_reducible refine (HWZ.out _).mono ?_; rintro e w' ⟨⟨b5, rfl, hb5⟩, rfl⟩)))
                all_goals
                  go_wp2_with fail
                  go_meet
                  have hB := (((HBG.out.set_ 0 (.int .i64 4)).set_ 3 (.int .i64 a1)).set_ 4 (.int .i64 a2)).set_ 5 (.int .i64 b5)
                  have hG := only_setCell (only_setCell (only_setCell (only_setCell (only_refl W8 (some bg)) (p := ⟨bg, 0, none⟩) (.inl rfl) (.int .i64 4)) (p := ⟨bg, 3, none⟩) (.inl rfl) (.int .i64 a1)) (p := ⟨bg, 4, none⟩) (.inl rfl) (.int .i64 a2)) (p := ⟨bg, 5, none⟩) (.inl rfl) (.int .i64 b5)
                  exact ⟨⟨4, gname n, 0, a1, a2, b5⟩, Lib.hid hB, Lib.hid rfl, Lib.hid (.inr (.inr (.inr ⟨rfl, rfl, by unfold PlaceP; dsimp only; omega, by unfold PlaceP; dsimp only; omega, by unfold PlaceP; dsimp only; omega⟩))), Lib.hid ⟨hG.os, hG.tape, hG.output, hG.size, hG.block⟩⟩
            · have e0 : (a0 == 0) = false := by simp; omega
              go_wp2_with (first
                | ((go_at_call 20; with_reducible refine (HW16.out _).mono ?_; rintro e w' ⟨⟨b2, rfl, hb2⟩, rfl⟩)))
              go_meet
              exact ⟨⟨2, gname n, b2, a1, a2, 0⟩, Lib.hid ((((HBG.out.set_ 0 (.int .i64 2)).set_ 2 (.int .i64 b2)).set_ 3 (.int .i64 a1)).set_ 4 (.int .i64 a2)), Lib.hid rfl, Lib.hid (.inr (.inl ⟨rfl, by dsimp only; omega, by dsimp only; omega, by unfold PlaceP; dsimp only; omega, by unfold PlaceP; dsimp only; omega, rfl⟩)), Lib.hid (only_setCell (only_setCell (only_setCell (only_setCell (only_refl W8 (some bg)) (p := ⟨bg, 0, none⟩) (.inl rfl) _) (p := ⟨bg, 2, none⟩) (.inl rfl) _) (p := ⟨bg, 3, none⟩) (.inl rfl) _) (p := ⟨bg, 4, none⟩) (.inl rfl) _)⟩
      case rest =>
        obtain ⟨g, HBG9, HGN, HGF, HG9⟩ := hcut
        have hb9 : Below wr.heap.size wr wc := HB7.out.grown HG9.out HB7.out.size (fun b e => by cases e; exact HBN.out)
        have HM9 := Lib.hid (HM.out.below hb9)
        obtain ⟨z0, z1, z2, z3, z4, z5⟩ := gblk HBG9.out
        obtain ⟨kd, nm, op, a, b, cc⟩ := g
        dsimp only at z0 z1 z2 z3 z4 z5
        have x1 : wc.cell? ⟨bx + 2, 1, none⟩ = some (.slice A n ca) := by rw [← HBX.out]; exact (HM9.out.x.cell 1).trans rfl
        have hbl := below1 wc (.cells #[.int .i64 kd, .string nm, .int .i64 op, .int .i64 a, .int .i64 b, .int .i64 cc] 46)
        have HM10 := Lib.hid (HM9.out.below hbl)
        have HR10 : Hid (CReads (wc.alloc (.cells #[.int .i64 kd, .string nm, .int .i64 op, .int .i64 a, .int .i64 b, .int .i64 cc] 46)) (some ⟨wc.heap.size, 0, none⟩) (gcells [⟨kd, nm, op, a, b, cc⟩])) := Lib.hid (CReads.of_blk (Blk.new wc 46 (gcells [⟨kd, nm, op, a, b, cc⟩])))
        clear hbl hb9 HB7 HBG HG9 HCC c0 c1 c2
        go_upto_region 30 with (at_builtin; refine wpList_cells rfl _ _ 22 rfl w.heap.size 46 _ 6 56 Tryd.underlying22 info_gate rfl (by decide) (.slice A n ca) n (gcells gs) rfl HM10.out.g (some ⟨wc.heap.size, 0, none⟩) 1 1 (gcells [⟨kd, nm, op, a, b, cc⟩]) rfl HR10.out rfl (fun u hu => gcells_one hu) (by unfold maxLen; omega) (by omega) (by exact HM10.out.b.size) ?_; intro v5 w5 hown5 hg5 hb5; obtain ⟨A5, c5, rfl, _⟩ := rows_cells hown5 (by decide); have hms := HM10.out.gate h2 HGN.out HGF.out hown5 hg5; rw [HBX.out] at hms; have hxx := HM10.out.x.grown hg5 (fun e => HM10.out.x.typed.ne (rows_typed HM10.out.g e.symm) (by decide) rfl); rw [HBX.out] at hxx; have xc := (hxx.cell 1).trans rfl; have xf := hxx.frozen 1; have HMS := Lib.hid hms; clear hms hxx)
        clear HM10 HR10 HM9 HGN HGF z0 z1 z2 z3 z4 z5 x1 hown5 hg5 hb5 xc xf HBG9
        generalize w5.setCell ⟨bx + 2, 1, none⟩ (.slice A5 (n + 1) c5) = W11 at *
        generalize hgg : (⟨kd, nm, op, a, b, cc⟩ : Gt) = g at HMS
        obtain ⟨zs, hzs⟩ : ∃ z, IntKind.i64.wrap (y1 - y2) = z := ⟨_, rfl⟩
        have gz : Big zs := by rw [← hzs, IntKind.wrap_i64]; unfold Big; omega
        have hw3 : ∀ W, Calls Tryd.prog 20 #[.int .i64 zs, .int .i64 3] W fun e w' => (∃ x : Nat, e = .returned (.int .i64 x) ∧ x < 3) ∧ w' = W := fun W => within_any zs 3 W gz (by omega) (by omega)
        have HW3 := Lib.hid hw3
        have HD := Lib.hid (below_drew0 HMS.out.b)
        have ew3 : IntKind.i64.wrap ((i : Int) + 3) = (i : Int) + 3 := by rw [IntKind.wrap_i64]; omega
        clear hw3 gz hgg
        go_region_held3 (fun W => W.cell? ⟨kb, ko + (i + 1), none⟩ = some (.int .i64 y1) ∧ W.cell? ⟨kb, ko + (i + 2), none⟩ = some (.int .i64 y2))
          (exact HKC.out _ HD.out)
          (first
            | ((go_at_call 20; with_reducible refine (HW3.out _).mono ?_; rintro e w' ⟨⟨b6, rfl, hb6⟩, rfl⟩)))
        have HM11 := Lib.hid (HMS.out.below (w5 := W11.drew) (below_drew0 (Below.refl _ _)))
        clear HMS HD HKC HW3
        generalize W11.drew = W12 at *
        have x2 : W12.cell? ⟨bx + 2, 2, none⟩ = some (.slice B m cb) := by rw [← HBX.out]; exact (HM11.out.x.cell 2).trans rfl
        by_cases hb : b6 = 0
        · subst hb
          have hbl := below1 W12 (.cells [Value.int .i64 (n : Int)].toArray 3)
          have HM12 := Lib.hid (HM11.out.below hbl)
          have hnl : (nums .i64 outs).length = m := by rw [nums_length]; exact HM11.out.ol
          have hm2 : m ≤ 200 := by have := HM.out.p.ol; have := HM.out.p.le; have := HM.out.ol; omega
          have HMP := Lib.hid HM.out.p
          have HGL := Lib.hid HM.out.gl
          clear hbl HM11 HM
          go_upto_region 4 with (at_builtin; refine wpList_push2 rfl _ _ 23 rfl w.heap.size 3 _ 8 Tryd.underlying23 info_int rfl (.slice B m cb) _ rfl HM12.out.o ⟨W12.heap.size, 0, none⟩ (.int .i64 (n : Int)) rfl (by simp [go_sem]) rfl (by rw [hnl]; unfold maxLen; omega) (by rw [hnl]; omega) (by exact HM12.out.b.size) ?_; intro v6 w6' hown6 hg6 hb6'; obtain ⟨B6, c6, rfl⟩ := hown6.form; have hl6 : (nums .i64 outs ++ [Value.int .i64 (n : Int)]).length = m + 1 := (List.length_append ..).trans (by rw [hnl]; rfl); rw [hl6] at hown6 ⊢; have hms := HM12.out.put HMP.out HGL.out hown6 hg6; rw [HBX.out] at hms; have hxx := HM12.out.x.grown hg6 (fun e => HM12.out.x.typed.ne (HM12.out.o.typed e.symm) (by decide) rfl); rw [HBX.out] at hxx; have xc := (hxx.cell 2).trans rfl; have xf := hxx.frozen 2; have HMS := Lib.hid hms; clear hms hxx)
          clear HM12 HMP HGL x2 hown6 hg6 hb6' xc xf
          go_wp2
          go_roundw
          case rel => exact ⟨i + 3, _, _, _, _, _, _, _, _, by omega, by go_num, HMS⟩
          case measure => simp [intOf]; omega
        · have hb1 : ¬ (b6 : Int) = 0 := by omega
          have hb2 : ((b6 : Int) == 0) = false := by simp; omega
          clear HM x2
          go_wp2
          go_roundw
          case rel => exact ⟨i + 3, _, _, _, _, _, _, _, _, by omega, by go_num, HM11⟩
          case measure => simp [intOf]; omega
    · have hfork : ((i : Int) + 2 < (L : Int) ∧ ¬ (n : Int) < 200) ∨ ¬ (i : Int) + 2 < (L : Int) := by omega
      have HX2 : Hid (Blk wr (bx + 2) 25 [.string mname, .slice A n ca, .slice B m cb]) := Lib.hid (by have := HM.out.x; rwa [HBX.out] at this)
      have hn1 : 1 ≤ n := by rw [← HM.out.gl]; exact HM.out.p.pos
      have hn2 : n ≤ 200 := by rw [← HM.out.gl]; exact HM.out.p.le
      have x2 : wr.cell? ⟨bx + 2, 2, none⟩ = some (.slice B m cb) := (HX2.out.cell 2).trans rfl
      have x0 : wr.cell? ⟨bx + 2, 0, none⟩ = some (.string mname) := (HX2.out.cell 0).trans rfl
      by_cases hm0 : m = 0
      · subst hm0
        have e1 : IntKind.i64.wrap ((n : Int) - 1) = (n : Int) - 1 := by rw [IntKind.wrap_i64]; omega
        have hon := HM.out.only ((n : Int) - 1)
        have hfi := made_fin hon.1 hon.2.2.1 hon.2.2.2.1 rfl hon.2.2.2.2 (.string mname) (.slice A n ca) (.slice (some ⟨wr.heap.size, 0, none⟩) 1 1)
        rw [HBX.out] at hon hfi
        obtain ⟨k0, k1, k2, k3, k4⟩ := hon
        have f2 : (wr.alloc (.cells [Value.int .i64 ((n : Int) - 1)].toArray 3)).frozen? ⟨bx + 2, 2, none⟩ = false := (HX2.out.alloc _).frozen 2
        have y2 := ((HX2.out.alloc (.cells [Value.int .i64 ((n : Int) - 1)].toArray 3)).cell 2).trans rfl
        have z0 := (k0.cell 0).trans rfl
        have z1 := (k0.cell 1).trans rfl
        have z2 := (k0.cell 2).trans rfl
        have q0 := k0.frozen 0
        have q1 := k0.frozen 1
        have q2 := k0.frozen 2
        have p0 := (k1.cell 0).trans rfl
        have p1 := (k1.cell 1).trans rfl
        have p2 := (k1.cell 2).trans rfl
        have hk3 := Lib.hid k3
        have r0 := Lib.hid (((((k0.set_ 0 (.string mname)).set_ 1 (.slice A n ca)).set_ 2 (.slice (some ⟨wr.heap.size, 0, none⟩) 1 1)).cell 0).trans rfl)
        have r1 := Lib.hid (((((k0.set_ 0 (.string mname)).set_ 1 (.slice A n ca)).set_ 2 (.slice (some ⟨wr.heap.size, 0, none⟩) 1 1)).cell 1).trans rfl)
        have r2 := Lib.hid (((((k0.set_ 0 (.string mname)).set_ 1 (.slice A n ca)).set_ 2 (.slice (some ⟨wr.heap.size, 0, none⟩) 1 1)).cell 2).trans rfl)
        have HFI := Lib.hid hfi
        clear hfi k0 k1 k2 k3 k4
        rcases hfork with ⟨h1, h2⟩ | h1
        all_goals
          go_wp2
          exact bodyPost_ret (v := .agg #[.string mname, .slice A n ca, .slice (some ⟨wr.heap.size, 0, none⟩) 1 1]) (by simp [results, Tryd.results19, go_sem, r0.out, r1.out, r2.out]) rfl ⟨gs, [(n : Int) - 1], A, some ⟨wr.heap.size, 0, none⟩, n, 1, ca, 1, rfl, HM.out.p.last (by rw [HM.out.gl]), HM.out.gl, rfl, HFI.out.1, HFI.out.2.1, by rw [HBX.out]; exact HFI.out.2.2.1, by rw [HBX.out]; exact HFI.out.2.2.2.1, by rw [HBX.out]; exact HFI.out.2.2.2.2⟩
      · have hm1 : ¬ (m : Int) = 0 := by omega
        have hm2 : ((m : Int) == 0) = false := by simp; omega
        have k0 : Blk wr bx 25 [.string ⟨#[]⟩, .slice none 0 0, .slice none 0 0] := by have := HM.out.z; rwa [HBX.out] at this
        have hfi := made_fin HM.out.z HM.out.g (by
          have := HM.out.o
          exact this) HM.out.ol HM.out.b (.string mname) (.slice A n ca) (.slice B m cb)
        rw [HBX.out] at hfi
        have x1 : wr.cell? ⟨bx + 2, 1, none⟩ = some (.slice A n ca) := (HX2.out.cell 1).trans rfl
        have z0 := (k0.cell 0).trans rfl
        have z1 := (k0.cell 1).trans rfl
        have z2 := (k0.cell 2).trans rfl
        have q0 := k0.frozen 0
        have q1 := k0.frozen 1
        have q2 := k0.frozen 2
        have r0 := Lib.hid (((((k0.set_ 0 (.string mname)).set_ 1 (.slice A n ca)).set_ 2 (.slice B m cb)).cell 0).trans rfl)
        have r1 := Lib.hid (((((k0.set_ 0 (.string mname)).set_ 1 (.slice A n ca)).set_ 2 (.slice B m cb)).cell 1).trans rfl)
        have r2 := Lib.hid (((((k0.set_ 0 (.string mname)).set_ 1 (.slice A n ca)).set_ 2 (.slice B m cb)).cell 2).trans rfl)
        have HFI := Lib.hid hfi
        clear hfi k0
        rcases hfork with ⟨h1, h2⟩ | h1
        all_goals
          go_wp2
          exact bodyPost_ret (v := .agg #[.string mname, .slice A n ca, .slice B m cb]) (by simp [results, Tryd.results19, go_sem, r0.out, r1.out, r2.out]) rfl ⟨gs, outs, A, B, n, m, ca, cb, rfl, HM.out.p.done, HM.out.gl, HM.out.ol, HFI.out.1, HFI.out.2.1, by rw [HBX.out]; exact HFI.out.2.2.1, by rw [HBX.out]; exact HFI.out.2.2.2.1, by rw [HBX.out]; exact HFI.out.2.2.2.2⟩

end Go.Proofs.YtjkmoahnociaiaaDoor
