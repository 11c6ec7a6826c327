/- circle: the first line in a circle. -/
import Derived.Test.YtjkmoahnociaiaaDoorTP
import Derived.WalkMore
import Derived.ScopeJumps
namespace Go.Proofs.YtjkmoahnociaiaaDoor
open Go.RowKit

section
variable {P : Program} {a : Act} {w : World} {Q R : Exit → Act → World → Prop} {l : Nat} {J : Act → World → Prop}
@[go_sem] theorem jump_normal : Exit.jump l J Q .normal a w = Q .normal a w := rfl
@[go_sem] theorem jump_exit (id : Nat) : Exit.jump l J Q (.exit id) a w = Q (.exit id) a w := rfl
@[go_sem] theorem jump_ret : Exit.jump l J Q .ret a w = Q .ret a w := rfl
@[go_sem] theorem jump_panic (ch : List PanicEntry) : Exit.jump l J Q (.panic ch) a w = Q (.panic ch) a w := rfl
theorem wp_more {c : Code} (h : c.wp P Q a w) (hm : ∀ e a w, Q e a w → R e a w) : c.wp P R a w := fun b k cs => by
  obtain ⟨e, a', w', hq, ha⟩ := h b k cs
  exact ⟨e, a', w', hm e a' w' hq, ha⟩
/-- A scope that is left by a jump ahead to its label: at the jump, what follows the label. -/
theorem wp_scope_out {c rest : Code} (l : Nat) (hf : findLabel c l = some rest) (h : ∀ J : Act → World → Prop, (∀ a w, rest.wp P (Exit.noGoto Q) a w → J a w) → c.wp P (Exit.jump l J Q) a w) : (Code.scope c).wp P Q a w :=
  wp_scope_jumps l (fun a w => rest.wp P (Exit.noGoto Q) a w) (fun _ _ => 0) hf (h _ fun _ _ h => h) fun a w h => wp_more h fun e a w hq => by
    cases e <;> first | exact hq | exact hq.elim
end

/-- What is free, with the first j of the order taken. -/
def FreeAt (n : Nat) (L : List Nat) (j : Nat) (fr : Nat → Bool) : Prop := ∀ i, i < n → (fr i = true ↔ i ∈ L.take j)
theorem FreeAt.start (n : Nat) (L : List Nat) : FreeAt n L 0 (fun _ => false) := fun i _ => by simp
theorem FreeAt.step {n : Nat} {L : List Nat} {j v : Nat} {fr : Nat → Bool} (h : FreeAt n L j fr) (hv : L[j]? = some v) : FreeAt n L (j + 1) (upd fr v true) := fun i hi => by
  rw [List.take_add_one, hv]
  simp only [Option.toList, List.mem_append, List.mem_singleton]
  unfold upd
  split
  · rename_i e; simp [e]
  · rename_i e; rw [h i hi]; simp [e]
/-- The rows ahead of the search: what is free, and the order. -/
def FM (w : World) (base n : Nat) (fr : Nat → Bool) (vL : Value) (L : List Nat) : Prop := Hold w base [row1 4 (.slice (some ⟨base, 0, none⟩) n n) (bools (tab n fr)), row1 3 vL (ints L)]
section
variable {w w' : World} {base n : Nat} {fr : Nat → Bool} {vL : Value} {L : List Nat}
theorem FM.at_ (h : FM w base n fr vL L) {i : Nat} (hi : i < n) : w.cell? ⟨base, i, none⟩ = some (.bool (fr i)) ∧ w.frozen? ⟨base, i, none⟩ = false ∧ ∀ b, FM (w.setCell ⟨base, i, none⟩ (.bool b)) base n (upd fr i b) vL L := by
  obtain ⟨g, e, h1, h2, h3, h4, h5⟩ := Hold.cell h (i := 0) rfl (j := i) (u := .bool (fr i)) (bools_get (tab_get hi))
  cases e
  refine ⟨h3, h4, fun b => ?_⟩
  have := h5 (.bool b)
  rw [bools_set, tab_set] at this
  exact this
theorem FM.list (h : FM w base n fr vL L) : Owns w base 3 vL (ints L) := Hold.owns h (i := 1) rfl
/-- The four rows more. -/
theorem FM.search (h : FM w base n fr vL L) (hb : base ≤ w.heap.size) (hn : n ≤ maxLen) :
    TMem (((w.alloc (.cells (List.replicate n (Value.int .i64 0)).toArray 3)).alloc (.cells (List.replicate n (Value.int .i64 0)).toArray 3)).alloc (.cells (List.replicate n (Value.bool false)).toArray 4)) base n base w.heap.size (w.heap.size + 1) (w.heap.size + 2) (.slice none 0 0) fr (fun _ => 0) (fun _ => 0) (fun _ => false) [] [] := by
  have h0 : Hold w base [row1 4 (.slice (some ⟨base, 0, none⟩) n n) (bools (tab n fr))] := Hold.front (m := [row1 3 vL (ints L)]) h
  have h1 := h0.made (e := 3) (z := .int .i64 0) hb hn
  have s1 : (w.alloc (.cells (List.replicate n (Value.int .i64 0)).toArray 3)).heap.size = w.heap.size + 1 := by simp
  have h2 := h1.made (e := 3) (z := .int .i64 0) (by omega) hn
  have s2 : ((w.alloc (.cells (List.replicate n (Value.int .i64 0)).toArray 3)).alloc (.cells (List.replicate n (Value.int .i64 0)).toArray 3)).heap.size = w.heap.size + 2 := by simp
  have h3 := (h2.made (e := 4) (z := .bool false) (by omega) hn).nilRow (e := 3)
  rw [s1, s2] at h3
  unfold TMem trows
  rw [tab_rep, tab_rep, bools_rep]
  have e : ints (List.replicate n 0) = List.replicate n (.int .i64 0) := ints_rep n 0
  rw [e]
  exact h3
/-- The line at hand was met, or waits alone. -/
def Met0 (num : Nat → Nat) (i : Nat) (M : List (Nat × Nat)) : Prop := 0 < num i ∨ M = [(i, 0)]
theorem size_alloc (w : World) (o : Obj) : (w.alloc o).heap.size = w.heap.size + 1 := by unfold World.alloc; exact Array.size_push _
/-- One walk more in memory. -/
theorem TMem.start {gb lb ob : Nat} {vS : Value} {num low : Nat → Nat} {on : Nat → Bool} {S : List Nat} {fb : Nat} (h : TMem w base n fb gb lb ob vS fr num low on S []) (hB : base ≤ w.heap.size) (i : Nat) :
    TMem (w.alloc (.cells #[.int .i64 (i : Int), .int .i64 0] 121)) base n fb gb lb ob vS fr num low on S [frow (.slice (some ⟨w.heap.size, 0, none⟩) 1 1) [(i, 0)]] := by
  refine h.new (below1 w _) hB (r := frow (.slice (some ⟨w.heap.size, 0, none⟩) 1 1) [(i, 0)]) ?_
  exact ⟨rfl, .inr ⟨w.heap.size, 1, #[.int .i64 (i : Int), .int .i64 0], rfl, Nat.le_refl _, heap_alloc_new w _, Nat.le_refl _, by simp [maxLen], rfl, rfl⟩⟩
end
theorem leans_ints {gs : List Gt} (hin : InR gs) {i : Nat} {g : Gt} (hg : gs[i]? = some g) : nums .i64 g.leans = ints (lnsOf gs i) := by
  rw [lnsOf_at hg]
  unfold nums ints Gt.lns
  rw [List.map_map]
  refine List.map_congr_left fun x hx => ?_
  have := (hin g (List.mem_of_getElem? hg) x hx).1
  simp
  omega
/-- Is a line of a part in a circle, and ahead of the one that was found? -/
def condB (f : Nat → List Nat) (len : Nat) (fd : Int) (p : Nat) : Bool := decide ((1 < len ∨ p ∈ f p) ∧ (fd < 0 ∨ (p : Int) < fd))
theorem condB_true {f : Nat → List Nat} {len : Nat} {fd : Int} {p : Nat} (h1 : 1 < len ∨ p ∈ f p) (h2 : fd < 0 ∨ (p : Int) < fd) : condB f len fd p = true := by unfold condB; exact decide_eq_true ⟨h1, h2⟩
theorem condB_false1 {f : Nat → List Nat} {len : Nat} {fd : Int} {p : Nat} (h1 : ¬ 1 < len) (h2 : p ∉ f p) : condB f len fd p = false := by unfold condB; exact decide_eq_false fun h => h.1.elim h1 h2
theorem condB_false2 {f : Nat → List Nat} {len : Nat} {fd : Int} {p : Nat} (h1 : ¬ fd < 0) (h2 : ¬ (p : Int) < fd) : condB f len fd p = false := by unfold condB; exact decide_eq_false fun h => h.2.elim h1 h2
theorem findF_eq (f : Nat → List Nat) (len : Nat) (fd : Int) (p : Nat) : findF f len fd p = if condB f len fd p = true then (p : Int) else fd := by
  unfold findF condB
  by_cases h : (1 < len ∨ p ∈ f p) ∧ (fd < 0 ∨ (p : Int) < fd)
  · simp [h]
  · simp [h]
set_option maxRecDepth 100000 in
set_option maxHeartbeats 4000000 in
theorem circle_any (A : Option Addr) (n c : Nat) (gs : List Gt) (w : World) (hr : CReads w A (gcells gs)) (hl : gs.length = n) (hin : InR gs) (hmax : n ≤ 65536) :
    Calls Tryd.prog 41 #[.slice A n c] w (CirclesR w n (lnsOf gs)) := by
  have HR := Lib.hid hr; have HL := Lib.hid hl; have HI := Lib.hid hin
  have hm1 := run_makeRep (P := Tryd.prog) Tryd.underlying96 info_bool rfl n (by omega) (by omega)
  have hm2 := run_makeRep (P := Tryd.prog) Tryd.underlying23 info_int rfl n (by omega) (by omega)
  have HH := Lib.hid ((Hold.nil w w.heap.size).made (e := 4) (z := .bool false) (Nat.le_refl _) (n := n) (by unfold maxLen; omega))
  have HB0 := Lib.hid (below1 w (.cells (List.replicate n (Value.bool false)).toArray 4))
  have HInL : Hid (∀ i, i < n → ∀ p ∈ lnsOf gs i, p < n) := Lib.hid (by have := hin.lt; rwa [hl] at this)
  have HL3 : Hid (∀ i, (lnsOf gs i).length ≤ 3) := Lib.hid (lnsOf_le gs)
  have HA1 := Lib.hid (hr.below HB0.out)
  clear hr hl hin
  go_enter Tryd.func41, Tryd.ntmps41
  go_wp2
  refine wp_scope_out 0 rfl fun J hJ => ?_
  have HJ := Lib.hid hJ
  clear hJ
  go_upto_region 2 with (fail)
  change Code.wp _ _ _ _ (w.alloc (.cells (List.replicate n (Value.bool false)).toArray 4))
  generalize w.alloc (.cells (List.replicate n (Value.bool false)).toArray 4) = W1 at *
  have hlay : Calls Tryd.prog 31 #[.slice A n c] W1 fun e w' => ∃ v L, e = .returned v ∧ Owns w' W1.heap.size 3 v (ints L) ∧ IsOrder gs.length (lnsOf gs) L ∧ Below W1.heap.size W1 w' := order_any A n c gs _ HA1.out HL.out HI.out hmax
  go_upto_region 3 with (go_at_call 31; with_reducible refine hlay.mono ?_; rintro e W2 ⟨v2, L, rfl, hO, hI, hB⟩; obtain ⟨A4, c4, rfl⟩ := hO.form; rw [ints_length] at hO ⊢)
  have HM2 : Hid (FM W2 w.heap.size n (fun _ => false) (.slice A4 L.length c4) L) := Lib.hid (by
    have := HH.out.new hB HB0.out.size (r := row1 3 (.slice A4 L.length c4) (ints L)) (by show W2.ownsRow _ _ _ _ (ints L).length _; rw [ints_length]; have := hO; unfold Owns at this; rw [ints_length] at this; exact this)
    unfold FM
    rw [tab_rep, bools_rep]
    exact this)
  have HB2 := Lib.hid (below_then HB0.out HB0.out.size hB)
  have HO : Hid (IsOrder n (lnsOf gs) L) := Lib.hid (by rw [← HL.out]; exact hI)
  have hLn := order_le HO.out
  have HF0 := Lib.hid (FreeAt.start n L)
  clear hlay hO hI hB HH HB0
  go_loopw [29] (fun s29 wr => ∃ (j : Nat) (fr : Nat → Bool), j ≤ L.length ∧ s29 = .int .i64 j ∧ Hid (FM wr w.heap.size n fr (.slice A4 L.length c4) L) ∧ Hid (FreeAt n L j fr) ∧ Hid (Below w.heap.size w wr)) (fun i _ => L.length - (intOf i).toNat)
  case atStart => exact ⟨0, _, by omega, rfl, HM2, HF0, HB2⟩
  case round =>
    clear HM2 HF0 HB2
    obtain ⟨j, fr, hj, rfl, HM, HF, HB⟩ := hrel
    by_cases hlt : j < L.length
    · as_aux_lemma =>
        obtain ⟨v, hv⟩ : ∃ v, L[j]? = some v := ⟨_, List.getElem?_eq_getElem hlt⟩
        have hvn := HO.out.lt v (List.mem_of_getElem? hv)
        obtain ⟨d1, z1, hset⟩ := HM.out.at_ hvn
        obtain ⟨g4, hg4, d4⟩ := HM.out.list.first (ints_get hv)
        subst hg4
        have HS := Lib.hid (hset true)
        have HFn := Lib.hid (HF.out.step hv)
        have HBs := Lib.hid (HB.out.setCell (p := ⟨w.heap.size, v, none⟩) (Nat.le_refl _) (.bool true))
        have hj0 : (0 : Int) ≤ (j : Int) := by omega
        have hjn : (j : Int) < (L.length : Int) := by omega
        have hv0 : (0 : Int) ≤ (v : Int) := by omega
        have hvk : (v : Int) < (n : Int) := by omega
        clear hv hset HM HF HB
        go_wp2
        go_roundw
        case rel => exact ⟨j + 1, _, by omega, by go_num, HS, HFn, HBs⟩
        case measure => simp [intOf]; omega
    · obtain rfl : j = L.length := by omega
      have HFR : Hid (∀ i, i < n → (fr i = true ↔ Free (lnsOf gs) i)) := Lib.hid (fun i hi => by
        rw [HF.out i hi, List.take_length]
        exact order_free HO.out HInL.out hi)
      have HT := Lib.hid (HM.out.search HB.out.size (by unfold maxLen; omega))
      have HB3 := Lib.hid (((HB.out.alloc HB.out.size (.cells (List.replicate n (Value.int .i64 0)).toArray 3)).alloc (by have := HB.out.size; simp; omega) (.cells (List.replicate n (Value.int .i64 0)).toArray 3)).alloc (by have := HB.out.size; simp; omega) (.cells (List.replicate n (Value.bool false)).toArray 4))
      clear HM HF hlt hj
      go_upto_region 14 with (fail)
      change Code.wp _ _ _ _ (((wr.alloc (.cells (List.replicate n (Value.int .i64 0)).toArray 3)).alloc (.cells (List.replicate n (Value.int .i64 0)).toArray 3)).alloc (.cells (List.replicate n (Value.bool false)).toArray 4))
      have hs1 : (wr.alloc (.cells (List.replicate n (Value.int .i64 0)).toArray 3)).heap.size = wr.heap.size + 1 := size_alloc _ _
      have hs2 : ((wr.alloc (.cells (List.replicate n (Value.int .i64 0)).toArray 3)).alloc (.cells (List.replicate n (Value.int .i64 0)).toArray 3)).heap.size = wr.heap.size + 2 := by rw [size_alloc, size_alloc]
      try simp only [hs1, hs2]
      generalize ((wr.alloc (.cells (List.replicate n (Value.int .i64 0)).toArray 3)).alloc (.cells (List.replicate n (Value.int .i64 0)).toArray 3)).alloc (.cells (List.replicate n (Value.bool false)).toArray 4) = W3 at *
      obtain ⟨gb, hgb⟩ : ∃ g, wr.heap.size = g := ⟨_, rfl⟩
      have HTe := Lib.hid HT.out
      rw [hgb] at HTe
      simp only [hgb]
      obtain ⟨lb, hlb⟩ : ∃ g, gb + 1 = g := ⟨_, rfl⟩
      rw [show gb + 2 = gb + 1 + 1 from rfl, hlb] at HTe
      simp only [hlb]
      obtain ⟨ob, hob⟩ : ∃ g, lb + 1 = g := ⟨_, rfl⟩
      rw [hob] at HTe
      simp only [hob]
      clear HT
      have HT := HTe
      clear HTe
      clear hm1 hm2 HB hgb hlb hob hs1 hs2 wr HO
      have HTJ0 := Lib.hid (Tj.start (n := n) (f := lnsOf gs))
      have HMT0 : Hid (∀ j, j < 0 → ¬ Free (lnsOf gs) j → 0 < (fun _ => 0 : Nat → Nat) j) := Lib.hid (fun j hj => absurd hj (Nat.not_lt_zero _))
      have HCN0 : Hid (0 + unm n (fun _ => 0) = n) := Lib.hid (by unfold unm; simp only [ne_eq, not_true_eq_false, decide_false]; rw [tab_rep, unmet_rep]; omega)
      obtain ⟨fb, hfb⟩ : ∃ g, w.heap.size = g := ⟨_, rfl⟩
      have HFB := Lib.hid hfb
      have HT0 : Hid (TMem W3 fb n fb gb lb ob (.slice none 0 0) fr (fun _ => 0) (fun _ => 0) (fun _ => false) [] []) := Lib.hid (by rw [← hfb]; exact HT.out)
      clear HT
      simp only [hfb]
      clear hfb
      go_loopw [6, 10, 11, 48] (fun s6 vS s11 s48 wr => ∃ (i met : Nat) (num low nx : Nat → Nat) (on : Nat → Bool) (fd : Int), i ≤ n ∧ s48 = .int .i64 i ∧ s6 = .int .i64 fd ∧ s11 = .int .i64 met ∧ Hid (TMem wr fb n fb gb lb ob vS fr num low on [] []) ∧ Hid (Tj n (lnsOf gs) num low nx on [] [] met fd) ∧ Hid (∀ j, j < i → ¬ Free (lnsOf gs) j → 0 < num j) ∧ Hid (met + unm n num = n) ∧ Hid (Below w.heap.size w wr)) (fun _ _ _ s48 _ => n - (intOf s48).toNat)
      case atStart => exact ⟨0, 0, _, _, _, _, -1, by omega, rfl, rfl, rfl, HT0, HTJ0, HMT0, HCN0, HB3⟩
      case round =>
        clear HT0 HTJ0 HMT0 HCN0 HB3
        obtain ⟨i, met, num, low, nx, on, fd, hi, rfl, rfl, rfl, HT, HTJ, HMT, HCN, HB⟩ := hrel
        by_cases hlt : i < n
        · obtain ⟨f0, -, -, -⟩ := HT.out.freeAt hlt
          obtain ⟨n0, -, -, -⟩ := HT.out.numAt hlt
          have hi0 : (0 : Int) ≤ (i : Int) := by omega
          have hin : (i : Int) < (n : Int) := by omega
          obtain ⟨bf, hbf⟩ : ∃ b, fr i = b := ⟨_, rfl⟩
          obtain ⟨ni, hni⟩ : ∃ m, num i = m := ⟨_, rfl⟩
          rw [hbf] at f0
          rw [hni] at n0
          by_cases hskip : bf = true ∨ 0 < ni
          · have HMn : Hid (∀ j, j < i + 1 → ¬ Free (lnsOf gs) j → 0 < num j) := Lib.hid (fun j hj hf => by
              by_cases e : j = i
              · rw [e] at hf ⊢
                rcases hskip with h | h
                · exact absurd ((HFR.out i hlt).1 (hbf.trans h)) hf
                · rw [hni]; exact h
              · exact HMT.out j (by omega) hf)
            clear HMT hbf hni
            as_aux_lemma =>
              cases bf
              · have h0 : 0 < ni := hskip.resolve_left (by decide)
                have h0' : (0 : Int) < (ni : Int) := by omega
                clear hskip
                go_wp2
                go_roundw
                case rel => exact ⟨i + 1, met, num, low, nx, on, fd, by omega, by go_num, rfl, rfl, HT, HTJ, HMn, HCN, HB⟩
                case measure => simp [intOf]; omega
              · clear hskip
                go_wp2
                go_roundw
                case rel => exact ⟨i + 1, met, num, low, nx, on, fd, by omega, by go_num, rfl, rfl, HT, HTJ, HMn, HCN, HB⟩
                case measure => simp [intOf]; omega
          · have hbf2 : bf = false := by
              cases bf
              · rfl
              · exact absurd (.inl rfl) hskip
            have hni0 : ni = 0 := by omega
            have HNF : Hid (¬ Free (lnsOf gs) i) := Lib.hid (fun h => by
              have := (HFR.out i hlt).2 h
              rw [hbf, hbf2] at this
              cases this)
            have HNI : Hid (num i = 0) := Lib.hid (hni.trans hni0)
            subst hbf2 hni0
            clear hskip hbf hni
            have HBF : Hid (fb ≤ wr.heap.size) := Lib.hid (by rw [← HFB.out]; exact HB.out.size)
            have HT1 := Lib.hid (HT.out.start HBF.out i)
            have HB1 := Lib.hid (HB.out.alloc HB.out.size (.cells #[.int .i64 (i : Int), .int .i64 0] 121))
            have HP1 : Hid (Pend n (lnsOf gs) num nx [] [(i, 0)] true) := Lib.hid (.inr ⟨rfl, i, hlt, HNI.out, HNF.out, .inl ⟨rfl, rfl⟩⟩)
            have HMI : Hid (Met0 num i [(i, 0)]) := Lib.hid (.inr rfl)
            have HMU : Hid (mu n num nx [] true ≤ 12 * n) := Lib.hid (by unfold mu; simp; have := HCN.out; omega)
            clear HT HB HNF HNI
            go_upto_region 18 with (fail)
            clear f0 n0
            change Code.wp _ _ _ _ (wr.alloc (.cells #[.int .i64 (i : Int), .int .i64 0] 121))
            generalize wr.alloc (.cells #[.int .i64 (i : Int), .int .i64 0] 121) = W4 at *
            generalize wr.heap.size = cb at *
            go_loopg [6, 10, 11, 13] (12 * n) (fun r s6 vS s11 vC wr => ∃ (met : Nat) (num low nx : Nat → Nat) (on : Nat → Bool) (fd : Int) (S L : List Nat) (M : List (Nat × Nat)) (b : Bool), s6 = .int .i64 fd ∧ s11 = .int .i64 met ∧ Hid (TMem wr fb n fb gb lb ob vS fr num low on S [frow vC M]) ∧ Hid (Tj n (lnsOf gs) num low nx on S L met fd) ∧ Hid (Pend n (lnsOf gs) num nx L M b) ∧ Hid (mu n num nx L b ≤ r) ∧ Hid (∀ j, j < i → ¬ Free (lnsOf gs) j → 0 < num j) ∧ Hid (Met0 num i M) ∧ Hid (met + unm n num = n) ∧ Hid (Below w.heap.size w wr))
            case atStart => exact ⟨met, num, low, nx, on, fd, [], [], [(i, 0)], true, rfl, rfl, HT1, HTJ, HP1, HMU, HMT, HMI, HCN, HB1⟩
            case round =>
              clear HT1 HTJ HP1 HMU HMT HMI HCN HB1
              obtain ⟨met, num, low, nx, on, fd, S, L, M, b, rfl, rfl, HT, HTJ, HP, HMU, HMT, HMI, HCN, HB⟩ := hrel
              rcases List.eq_nil_or_concat M with hM | ⟨M0, ⟨u, k⟩, hM⟩
              · as_aux_lemma =>
                  subst hM
                  obtain ⟨A13, c13, hv13⟩ := rows_form HT.out.frames
                  subst hv13
                  have hL : L = [] := by
                    rcases HP.out with ⟨_, h⟩ | ⟨_, p, _, _, _, ⟨_, h⟩ | ⟨_, _, _, _, h⟩⟩
                    · cases L
                      · rfl
                      · cases h
                    · cases h
                    · exact absurd h.symm (by simp)
                  subst hL
                  have hS : S = [] := HTJ.out.empty
                  subst hS
                  have HMn : Hid (∀ j, j < i + 1 → ¬ Free (lnsOf gs) j → 0 < num j) := Lib.hid (fun j hj hf => by
                    by_cases e : j = i
                    · rw [e]
                      rcases HMI.out with h | h
                      · exact h
                      · cases h
                    · exact HMT.out j (by omega) hf)
                  have HTn : Hid (TMem wr fb n fb gb lb ob u10 fr num low on [] []) := Lib.hid (TMem.front (X := []) HT.out)
                  clear HT HP HMU HMT HMI
                  go_wp2
                  go_roundw
                  case rel => exact ⟨i + 1, met, num, low, nx, on, fd, by omega, by go_num, rfl, rfl, HTn, HTJ, HMn, HCN, HB⟩
                  case measure => simp [intOf]; omega
              · rw [List.concat_eq_append] at hM
                subst hM
                obtain ⟨A13, c13, hv13⟩ := rows_form HT.out.frames
                rw [List.length_append, List.length_singleton] at hv13
                subst hv13
                obtain ⟨g13, rfl, -, hqc, -, e0, e1, -, -, -⟩ := HT.out.top
                obtain ⟨q, hq⟩ : ∃ q, M0.length = q := ⟨_, rfl⟩
                rw [hq] at e0 e1 hqc HT ⊢
                have HQ := Lib.hid hq
                clear hq
                have hfacts := Pend.top HTJ.out HP.out
                obtain ⟨f1, f2, f3, hun, hMl⟩ := hfacts
                have hqb : q ≤ 65536 := by have := HQ.out; omega
                obtain ⟨z1, -, -, -⟩ := HT.out.numAt hun
                have hq0 : (0 : Int) ≤ (q : Int) := by omega
                have hqc2 : (q : Int) < (c13 : Int) := by omega
                have hu0 : (0 : Int) ≤ (u : Int) := by omega
                have hun2 : (u : Int) < (n : Int) := by omega
                go_upto_region 20 with (fail)
                go_cut [87] (fun s wx => s = .bool b ∧ wx = wr)
                case first =>
                  as_aux_lemma =>
                    cases b
                    · by_cases hk : k = 0
                      · have hz : ((num u : Int) == 0) = false := by have := f3 rfl; simp; omega
                        have hz2 : (num u == 0) = false := by have := f3 rfl; simp; omega
                        subst hk
                        go_wp2
                        go_meet
                        exact ⟨rfl, rfl⟩
                      · have hz : ((k : Int) == 0) = false := by simp; omega
                        have hz2 : (k == 0) = false := by simp; omega
                        go_wp2
                        go_meet
                        exact ⟨rfl, rfl⟩
                    · have hk := f1 rfl
                      have hn0 := f2 rfl
                      subst hk
                      rw [hn0] at z1
                      go_wp2
                      go_meet
                      exact ⟨rfl, rfl⟩
                case rest =>
                  obtain ⟨rfl, rfl⟩ := hcut
                  clear e1 z1
                  go_upto_if 87 with (fail)
                  go_cut [10, 11] (fun vS s11 wx => ∃ (met : Nat) (num low nx : Nat → Nat) (on : Nat → Bool) (S L0 : List Nat), s11 = .int .i64 met ∧ Hid (TMem wx fb n fb gb lb ob vS fr num low on S [frow (.slice (some ⟨g13, 0, none⟩) (q + 1) c13) (frs L0 nx ++ [(u, nx u)])]) ∧ Hid (Tj n (lnsOf gs) num low nx on S (L0 ++ [u]) met fd) ∧ Hid (mu n num nx (L0 ++ [u]) false ≤ gk) ∧ Hid (L0.length = q) ∧ Hid (∀ j, j < i → ¬ Free (lnsOf gs) j → 0 < num j) ∧ Hid (0 < num i) ∧ Hid (met + unm n num = n) ∧ Hid (Below w.heap.size w wx))
                  case first =>
                    as_aux_lemma =>
                      cases b
                      · have hset := Pend.settled HP.out
                        obtain ⟨L0, rfl, rfl, rfl⟩ := hset
                        have HQn : Hid (L0.length = q) := Lib.hid (by have := HQ.out; rwa [frs_length] at this)
                        have HMIn : Hid (0 < num i) := Lib.hid (by
                          rcases HMI.out with h | h
                          · exact h
                          · have h3 := (List.append_inj' (show frs L0 nx ++ [(u, nx u)] = [] ++ [(i, 0)] from h) rfl).2
                            simp at h3
                            rw [← h3.1]
                            exact f3 rfl)
                        go_wp2
                        go_meet
                        exact ⟨met, num, low, nx, on, S, L0, rfl, HT, HTJ, HMU, HQn, HMT, HMIn, HCN, HB⟩
                      · obtain ⟨M1, p, nx', hM, hpn, hp0, hM2, hmu, htj⟩ := Pend.settle HTJ.out HP.out HL3.out
                        obtain ⟨rfl, hup⟩ := List.append_inj' hM rfl
                        simp only [List.cons.injEq, Prod.mk.injEq, and_true] at hup
                        obtain ⟨rfl, rfl⟩ := hup
                        rw [frs_append] at hM2
                        obtain ⟨rfl, hnx⟩ := List.append_inj' hM2 rfl
                        simp only [frs, List.map_cons, List.map_nil, List.cons.injEq, Prod.mk.injEq, true_and, and_true] at hnx
                        have HQn : Hid (L.length = q) := Lib.hid (by have := HQ.out; rwa [frs_length] at this)
                        have HTJn := Lib.hid htj
                        have HMUn := Lib.hid (Nat.le_trans hmu HMU.out)
                        have HCNn : Hid (met + 1 + unm n (upd num u (met + 1)) = n) := Lib.hid (by have := unm_push hpn hp0 met; have := HCN.out; omega)
                        have HMTn : Hid (∀ j, j < i → ¬ Free (lnsOf gs) j → 0 < upd num u (met + 1) j) := Lib.hid (fun j hj hf => by
                          have := HMT.out j hj hf
                          unfold upd
                          split <;> omega)
                        have HMIn : Hid (0 < upd num u (met + 1) i) := Lib.hid (by
                          rcases HMI.out with h | h
                          · unfold upd; split <;> omega
                          · have h3 := (List.append_inj' (show frs L nx' ++ [(u, 0)] = [] ++ [(i, 0)] from h) rfl).2
                            simp at h3
                            rw [h3, upd_at]
                            omega)
                        have hmet : met ≤ 65536 := by have := HCN.out; omega
                        obtain ⟨-, z2, -, hs1⟩ := HT.out.numAt hun
                        have ht1 := hs1 (met + 1)
                        obtain ⟨z3, z4, hlb, hs2⟩ := ht1.lowAt hun
                        have hgl := HT.out.apart (by omega)
                        obtain ⟨z5, z6, -, -⟩ := HT.out.lowAt hun
                        obtain ⟨z1, -, hgb, _⟩ := HT.out.numAt hun
                        have HT5 := Lib.hid ((hs2 (met + 1)).below (below_drew0 (Below.refl _ _)))
                        have HB5 := Lib.hid (((HB.out.setCell (p := ⟨gb, u, none⟩) (by rw [HFB.out]; exact hgb) (.int .i64 ((met + 1 : Nat) : Int))).setCell (p := ⟨lb, u, none⟩) (by rw [HFB.out]; exact hlb) (.int .i64 ((met + 1 : Nat) : Int))).drew)
                        have hcast : ((met + 1 : Nat) : Int) = (met : Int) + 1 := by omega
                        rw [hcast] at HT5 HB5
                        have HNX0 : Hid (nx' u = 0) := Lib.hid hnx.symm
                        clear HT HTJ HP HMU HMT HMI HCN HB hs1 hs2 ht1 z3 z4 htj hmu hM hM2 hnx hp0
                        go_upto_region 22 with (fail)
                        go_region
                        change Exit.then _ _ _ _ (World.drew ((wc.setCell ⟨gb, u, none⟩ (.int .i64 ((met : Int) + 1))).setCell ⟨lb, u, none⟩ (.int .i64 ((met : Int) + 1))))
                        generalize World.drew ((wc.setCell ⟨gb, u, none⟩ (.int .i64 ((met : Int) + 1))).setCell ⟨lb, u, none⟩ (.int .i64 ((met : Int) + 1))) = W5 at *
                        obtain ⟨_, hg13, -, -, -, e0, -, -, -, -⟩ := HT5.out.top
                        cases hg13
                        rw [frs_length, HQn.out] at e0
                        have HT6 := Lib.hid (HT5.out.below (below1 W5 (.cells [Value.int .i64 (u : Int)].toArray 3)))
                        have HB6 := Lib.hid (HB5.out.alloc HB5.out.size (.cells [Value.int .i64 (u : Int)].toArray 3))
                        have hO2 := Lib.hid HT6.out.stack
                        have hull : (ints S).length + 1 ≤ 400000 := by
                          rw [ints_length]
                          have h1 : S.Nodup := HTJn.out.so.imp (fun {a b} hab e => by rw [e] at hab; omega) |>.sublist (List.sublist_append_left _ _)
                          have h2 : S.length ≤ (List.range n).length := List.Nodup.length_le_of_subset h1 fun v hv => by
                            have := HTJn.out.lt v (HTJn.out.sm v (List.mem_append_left _ hv))
                            simpa using this
                          simp at h2
                          omega
                        have hsz6 : fb ≤ (W5.alloc (.cells [Value.int .i64 (u : Int)].toArray 3)).heap.size := by rw [← HFB.out]; exact HB6.out.size
                        clear HT5 HB5
                        go_upto_region 24 with (at_builtin; refine wpList_push2 rfl _ _ 23 rfl fb 3 _ 8 Tryd.underlying23 info_int rfl u10 (ints S) rfl hO2.out ⟨W5.heap.size, 0, none⟩ (.int .i64 (u : Int)) rfl (by simp [go_sem]) rfl (by unfold maxLen; omega) (by omega) hsz6 ?_; intro v5 w5 hown5 hg5 hb5; have HT7 := Lib.hid (HT6.out.pushS hown5 hg5 hb5); have HB7 := Lib.hid (HB6.out.grown hg5 HB6.out.size (fun g hv => by rw [HFB.out]; exact (hO2.out.lt hv).1)); clear hown5 hg5 hb5)
                        obtain ⟨_, hg13, -, -, -, e0, -, -, -, -⟩ := HT7.out.top
                        cases hg13
                        rw [frs_length, HQn.out] at e0
                        obtain ⟨o0, o1, hob2, hos⟩ := HT7.out.onAt hun
                        have HT8 := Lib.hid (hos true)
                        have HB8 := Lib.hid (HB7.out.setCell (p := ⟨ob, u, none⟩) (by rw [HFB.out]; exact hob2) (.bool true))
                        clear hos HT7 HB7 HT6 HB6 hO2 hull
                        go_wp2
                        go_meet
                        exact ⟨met + 1, upd num u (met + 1), upd low u (met + 1), nx', upd on u true, S ++ [u], L, by go_num, by rw [HNX0.out]; exact HT8, HTJn, HMUn, HQn, HMTn, HMIn, HCNn, HB8⟩
                  case rest =>
                    clear HT HTJ HP HMU HMT HMI HCN HB e0 f1 f2 f3 hMl HQ
                    obtain ⟨met, num, low, nx, on, S, L0, rfl, HT, HTJ, HMU, HQ, HMT, HMI, HCN, HB⟩ := hcut
                    obtain ⟨g, hg⟩ : ∃ g, gs[u]? = some g := ⟨_, List.getElem?_eq_getElem (by rw [HL.out]; exact hun)⟩
                    obtain ⟨ab, ao, rfl, hc⟩ := greads_at HR.out hg
                    obtain ⟨c0, c1, c2, c3, c4', c5⟩ := hc.below HB.out
                    obtain ⟨_, hg13, -, -, hbg, e0, e1, -, -, -⟩ := HT.out.top
                    cases hg13
                    rw [frs_length, HQ.out] at e0 e1
                    have HGG := Lib.hid hg
                    have hm3 := leans_le g
                    have hcall : ∀ W, Calls Tryd.prog 47 #[.agg #[.int .i64 g.kind, .string g.name, .int .i64 g.op, .int .i64 g.a, .int .i64 g.b, .int .i64 g.c]] W fun e w' => ∃ A c, e = .returned (.slice A g.leans.length c) ∧ Hid (Owns w' W.heap.size 3 (.slice A g.leans.length c) (nums .i64 g.leans)) ∧ Below W.heap.size W w' := fun W => leans_any g W
                    have HNX : Hid (nx u ≤ (lnsOf gs u).length ∧ (lnsOf gs u).length = g.leans.length) := Lib.hid ⟨HTJ.out.nl u, lns_length hg⟩
                    clear hg hc
                    go_upto_region 26 with (go_at_call 47; with_reducible refine (hcall _).mono ?_; rintro e W3 ⟨A3, q3, rfl, hO3, hB3⟩)
                    have HT3 := Lib.hid (HT.out.below hB3)
                    have HB3 := Lib.hid (below_then HB.out HB.out.size hB3)
                    obtain ⟨m', hm'⟩ : ∃ m', g.leans.length = m' := ⟨_, rfl⟩
                    rw [hm'] at hO3 hm3 HNX ⊢
                    have HMM := Lib.hid hm'
                    clear hm' hcall HT HB hB3 c0 c1 c2 c3 c4' c5 e0 e1
                    obtain ⟨_, hg13, -, -, -, e0, e1, e2, hst, hpop⟩ := HT3.out.top
                    cases hg13
                    rw [frs_length, HQ.out] at e0 e1 e2 hst hpop
                    obtain ⟨k, hk⟩ : ∃ k, nx u = k := ⟨_, rfl⟩
                    rw [hk] at e1 HNX
                    have hk3 : k ≤ m' := by have := HNX.out; omega
                    have HK := Lib.hid hk
                    have hk0 : (0 : Int) ≤ (k : Int) := by omega
                    by_cases hkm : k < m'
                    · obtain ⟨v, hv1, hv2, hv3⟩ := HI.out.at_ HGG.out (j := k) (by rw [HMM.out]; exact hkm)
                      have hvn : v < n := by have := HL.out; omega
                      obtain ⟨g3, hg3, d3⟩ := hO3.out.first (i := k) (u := .int .i64 (v : Int)) (by rw [nums_get, hv1]; rfl)
                      subst hg3
                      have HV := Lib.hid hv2
                      have hkm2 : (k : Int) < (m' : Int) := by omega
                      have hv0 : (0 : Int) ≤ (v : Int) := by omega
                      have hvn2 : (v : Int) < (n : Int) := by omega
                      have HT4 := Lib.hid (hst (k + 1))
                      have HB4 := Lib.hid (HB3.out.setCell (p := ⟨g13, q * 2 + 1, none⟩) (by rw [HFB.out]; exact hbg) (.int .i64 ((k + 1 : Nat) : Int)))
                      have hcast : ((k + 1 : Nat) : Int) = (k : Int) + 1 := by omega
                      rw [hcast] at HT4 HB4
                      have HTJn := Lib.hid (fun hk low' hl => HTJ.out.edge (p := v) (low' := low') (by rw [HK.out]; exact HV.out) hk hl)
                      have hmue := mu_edge HTJ.out HL3.out (by rw [HK.out]; have := HNX.out; omega)
                      have HMUe : Hid (mu n num (upd nx u (nx u + 1)) (L0 ++ [u]) false < gk) := Lib.hid (Nat.lt_of_lt_of_le hmue.1 HMU.out)
                      have HFRS : Hid (frs (L0 ++ [u]) (upd nx u (nx u + 1)) = frs L0 nx ++ [(u, k + 1)]) := Lib.hid (by rw [hmue.2, HK.out])
                      clear hv1 hv2 hv3 hst hpop HT3 HB3 hmue hO3
                      go_upto_region 29 with (fail)
                      change Code.wp _ _ _ _ (W3.setCell ⟨g13, q * 2 + 1, none⟩ (.int .i64 ((k : Int) + 1)))
                      clear e0 e1 e2 d3 hk
                      generalize W3.setCell ⟨g13, q * 2 + 1, none⟩ (.int .i64 ((k : Int) + 1)) = W4 at *
                      obtain ⟨f0, -, -, -⟩ := HT4.out.freeAt hvn
                      obtain ⟨n0, -, -, -⟩ := HT4.out.numAt hvn
                      obtain ⟨o0, -, -, -⟩ := HT4.out.onAt hvn
                      obtain ⟨bf, hbf⟩ : ∃ b, fr v = b := ⟨_, rfl⟩
                      obtain ⟨nv, hnv⟩ : ∃ m, num v = m := ⟨_, rfl⟩
                      obtain ⟨bo, hbo⟩ : ∃ b, on v = b := ⟨_, rfl⟩
                      rw [hbf] at f0
                      rw [hnv] at n0
                      rw [hbo] at o0
                      have HPn : Hid (Pend n (lnsOf gs) num (upd nx u (nx u + 1)) (L0 ++ [u]) (frs L0 nx ++ [(u, k + 1)]) false) := Lib.hid (.inl ⟨rfl, HFRS.out.symm⟩)
                      have HMIn : Hid (Met0 num i (frs L0 nx ++ [(u, k + 1)])) := Lib.hid (.inl HMI.out)
                      have HFv := Lib.hid (HFR.out v hvn)
                      have HBFv := Lib.hid hbf
                      have HNv := Lib.hid hnv
                      have HOv := Lib.hid hbo
                      clear hbf hnv hbo
                      cases bf
                      · by_cases hz : nv = 0
                        · as_aux_lemma =>
                            subst hz
                            have HPw : Hid (Pend n (lnsOf gs) num nx (L0 ++ [u]) (frs L0 nx ++ [(u, k + 1)] ++ [(v, 0)]) true) := Lib.hid (.inr ⟨rfl, v, hvn, HNv.out, fun h => (by have := HFv.out.2 h; rw [HBFv.out] at this; cases this), .inr ⟨L0, u, rfl, by rw [HK.out]; exact HV.out, by rw [HK.out]; simp⟩⟩)
                            have hbl := below1 W4 (.cells #[.int .i64 (v : Int), .int .i64 0] 121)
                            have HC5 : Hid (CReads (W4.alloc (.cells #[.int .i64 (v : Int), .int .i64 0] 121)) (some ⟨W4.heap.size, 0, none⟩) (fcells [(v, 0)])) := Lib.hid (CReads.of_blk (Blk.new W4 121 (fcells [(v, 0)])))
                            have HT5 := Lib.hid (HT4.out.below hbl)
                            have HB5 := Lib.hid (HB4.out.trans (hbl.mono HB4.out.size))
                            have hflen : (frs L0 nx ++ [(u, k + 1)]).length = q + 1 := by rw [List.length_append, frs_length, HQ.out]; rfl
                            have HR5 := Lib.hid HT5.out.frames
                            rw [hflen] at HR5
                            have hsz5 : fb ≤ (W4.alloc (.cells #[.int .i64 (v : Int), .int .i64 0] 121)).heap.size := by rw [← HFB.out]; exact HB5.out.size
                            have HFL := Lib.hid hflen
                            have HMIw : Hid (Met0 num i (frs L0 nx ++ [(u, k + 1)] ++ [(v, 0)])) := Lib.hid (.inl HMI.out)
                            have HMUw : Hid (mu n num nx (L0 ++ [u]) true < gk) := Lib.hid (Nat.lt_of_lt_of_le mu_wait HMU.out)
                            clear hbl hflen HPn HMIn HTJn HMUe HFRS HMI HMU HT4 HB4
                            go_wp2_with (at_builtin; refine wpList_cells rfl _ _ 122 rfl fb 121 _ 2 16 Tryd.underlying122 info_frame rfl (by decide) (.slice (some ⟨g13, 0, none⟩) (q + 1) c13) (q + 1) (fcells (frs L0 nx ++ [(u, k + 1)])) rfl HR5.out (some ⟨W4.heap.size, 0, none⟩) 1 1 (fcells [(v, 0)]) rfl HC5.out rfl (fun u hu => fcells_one hu) (by unfold maxLen; omega) (by omega) hsz5 ?_; intro v' w5 hr5 hg5 hn5)
                            have HT6 : Hid (TMem w5 fb n fb gb lb ob u10 fr num low on S [frow v' (frs L0 nx ++ [(u, k + 1)] ++ [(v, 0)])]) := Lib.hid (HT5.out.turnF hg5 (by
                              rw [fcells_append, List.length_append, HFL.out]
                              exact hr5) hn5)
                            have HB6 := Lib.hid (HB5.out.grown hg5 HB5.out.size (fun g e => by rw [HFB.out]; exact (World.ownsRow.lt HR5.out g e).1))
                            clear HT5 HB5 HR5 HC5 hr5 hg5 hn5
                            go_roundg (mu n num nx (L0 ++ [u]) true)
                            case measure => exact HMUw.out
                            case rel => exact ⟨met, num, low, nx, on, fd, S, L0 ++ [u], _, true, rfl, rfl, HT6, HTJ, HPw, Lib.hid (Nat.le_refl _), HMT, HMIw, HCN, HB6⟩
                        · have hz1 : ((nv : Int) == 0) = false := by simp; omega
                          have hz2 : (nv == 0) = false := by simp; omega
                          have HTs := Lib.hid (HTJn.out (.inr (by rw [HNv.out]; omega)))
                          cases bo
                          · as_aux_lemma =>
                              have HTn := Lib.hid (HTs.out low (by rw [HOv.out]; rfl))
                              clear HTs HTJn hz HTJ
                              go_wp2
                              go_roundg (mu n num (upd nx u (nx u + 1)) (L0 ++ [u]) false)
                              case measure => exact HMUe.out
                              case rel => exact ⟨met, num, low, _, on, fd, S, L0 ++ [u], _, false, rfl, rfl, HT4, HTn, HPn, Lib.hid (Nat.le_refl _), HMT, HMIn, HCN, HB4⟩
                          · as_aux_lemma =>
                              have HTn := Lib.hid (HTs.out (upd low u (min (low u) nv)) (by rw [HOv.out, HNv.out]; rfl))
                              obtain ⟨_, hg13, -, -, -, e0, -, -, -, -⟩ := HT4.out.top
                              cases hg13
                              rw [frs_length, HQ.out] at e0
                              obtain ⟨l0, l1, hlb, hls⟩ := HT4.out.lowAt hun
                              have HT6 := Lib.hid ((hls (min (low u) nv)).below (below_drew0 (Below.refl _ _)))
                              have HB6 := Lib.hid ((HB4.out.setCell (p := ⟨lb, u, none⟩) (by rw [HFB.out]; exact hlb) (.int .i64 ((min (low u) nv : Nat) : Int))).drew)
                              obtain ⟨lu, hlu⟩ : ∃ m, low u = m := ⟨_, rfl⟩
                              rw [hlu] at l0 HT6 HB6 HTn
                              have hmin : ((min lu nv : Nat) : Int) = if nv < lu then (nv : Int) else (lu : Int) := by
                                split <;> omega
                              rw [hmin] at HT6 HB6
                              clear HTs HTJn hz HTJ hls hlu hmin
                              go_upto_region 33 with (fail)
                              go_region
                              change Exit.inBlock _ _ _ _ (World.drew (W4.setCell ⟨lb, u, none⟩ (.int .i64 (if nv < lu then (nv : Int) else (lu : Int)))))
                              generalize World.drew (W4.setCell ⟨lb, u, none⟩ (.int .i64 (if nv < lu then (nv : Int) else (lu : Int)))) = W6 at *
                              generalize (if nv < lu then (nv : Int) else (lu : Int)) = mm at *
                              clear e0 l0 l1 f0 n0 o0 HT4 HB4
                              go_wp2
                              go_roundg (mu n num (upd nx u (nx u + 1)) (L0 ++ [u]) false)
                              case measure => exact HMUe.out
                              case rel => exact ⟨met, num, _, _, on, fd, S, L0 ++ [u], _, false, rfl, rfl, HT6, HTn, HPn, Lib.hid (Nat.le_refl _), HMT, HMIn, HCN, HB6⟩
                      · as_aux_lemma =>
                          have hfree : Free (lnsOf gs) v := HFv.out.1 HBFv.out
                          have HTn := Lib.hid (HTJn.out (.inl hfree) low (by
                            have : on v = false := by
                              cases h : on v
                              · rfl
                              · exact absurd hfree (HTJ.out.nf v (HTJ.out.sm v ((HTJ.out.os v).1 h)))
                            rw [this]; rfl))
                          clear HTJn HTJ hfree
                          go_wp2
                          go_roundg (mu n num (upd nx u (nx u + 1)) (L0 ++ [u]) false)
                          case measure => exact HMUe.out
                          case rel => exact ⟨met, num, low, _, on, fd, S, L0 ++ [u], _, false, rfl, rfl, HT4, HTn, HPn, Lib.hid (Nat.le_refl _), HMT, HMIn, HCN, HB4⟩
                    · as_aux_lemma =>
                        have hkm2 : ¬ (k : Int) < (m' : Int) := by omega
                        have hd : (lnsOf gs u).length ≤ nx u := by rw [HK.out]; have := HNX.out; omega
                        have HD := Lib.hid hd
                        have HTp := Lib.hid hpop
                        have hqc3 : (q : Int) ≤ (c13 : Int) := by omega
                        clear hst hpop hd hO3 hk
                        go_upto_if 196 with (fail)
                        go_cut [] (fun wx => Hid (TMem wx fb n fb gb lb ob u10 fr num (popLow low u L0) on S [frow (.slice (some ⟨g13, 0, none⟩) q c13) (frs L0 nx)]) ∧ Hid (Below w.heap.size w wx))
                        case first =>
                          as_aux_lemma =>
                            rcases List.eq_nil_or_concat L0 with rfl | ⟨L1, w1, rfl⟩
                            · have hq00 : q = 0 := HQ.out.symm
                              subst hq00
                              go_wp2
                              go_meet
                              exact ⟨HTp, HB3⟩
                            · rw [List.concat_eq_append] at HQ HTp HTJ
                              try rw [List.concat_eq_append]
                              obtain ⟨q1, hq1⟩ : ∃ q1, L1.length = q1 := ⟨_, rfl⟩
                              have hqq : q = q1 + 1 := by have := HQ.out; rw [List.length_append, hq1] at this; exact this.symm
                              subst hqq
                              rw [frs_append] at HTp
                              have HTp2 : Hid (TMem W3 fb n fb gb lb ob u10 fr num low on S [frow (.slice (some ⟨g13, 0, none⟩) (q1 + 1) c13) (frs L1 nx ++ [(w1, nx w1)])]) := Lib.hid HTp.out
                              obtain ⟨_, hg13, -, -, -, e0, -, -, -, -⟩ := HTp2.out.top
                              cases hg13
                              rw [frs_length, hq1] at e0
                              have hw1 : w1 < n := HTJ.out.lt w1 (HTJ.out.sm w1 (HTJ.out.ls w1 (by simp)))
                              obtain ⟨l0, l1, hlb, hls⟩ := HTp2.out.lowAt hw1
                              obtain ⟨l2, -, -, -⟩ := HTp2.out.lowAt hun
                              obtain ⟨lw, hlw⟩ : ∃ m, low w1 = m := ⟨_, rfl⟩
                              obtain ⟨lu, hlu⟩ : ∃ m, low u = m := ⟨_, rfl⟩
                              have HT6 := Lib.hid ((hls (min lw lu)).below (below_drew0 (Below.refl _ _)))
                              have HB6 := Lib.hid ((HB3.out.setCell (p := ⟨lb, w1, none⟩) (by rw [HFB.out]; exact hlb) (.int .i64 ((min lw lu : Nat) : Int))).drew)
                              have hmin : ((min lw lu : Nat) : Int) = if lu < lw then (lu : Int) else (lw : Int) := by
                                split <;> omega
                              rw [hmin] at HT6 HB6
                              have HPL : Hid (popLow low u (L1 ++ [w1]) = upd low w1 (min lw lu)) := Lib.hid (by rw [popLow_snoc, hlw, hlu])
                              rw [hlw] at l0
                              rw [hlu] at l2
                              have hw0 : (0 : Int) ≤ (w1 : Int) := by omega
                              have hw2 : (w1 : Int) < (n : Int) := by omega
                              have hq10 : (0 : Int) ≤ (q1 : Int) := by omega
                              clear hls hlw hlu hmin HTp e1 e2
                              go_upto_region 38 with (fail)
                              go_region
                              change Exit.then _ _ _ _ (World.drew (W3.setCell ⟨lb, w1, none⟩ (.int .i64 (if lu < lw then (lu : Int) else (lw : Int)))))
                              generalize World.drew (W3.setCell ⟨lb, w1, none⟩ (.int .i64 (if lu < lw then (lu : Int) else (lw : Int)))) = W6 at *
                              generalize (if lu < lw then (lu : Int) else (lw : Int)) = mm at *
                              clear e0 l0 l1 l2 HTp2 HB3
                              go_wp2
                              go_meet
                              refine ⟨?_, HB6⟩
                              rw [List.concat_eq_append, HPL.out, frs_append]
                              exact HT6
                        case rest =>
                          obtain ⟨HT, HB⟩ := hcut
                          clear HTp HB3 HT3 e0 e1 e2
                          obtain ⟨l0, -, -, -⟩ := HT.out.lowAt hun
                          obtain ⟨n0, -, -, -⟩ := HT.out.numAt hun
                          have hps := popLow_self HTJ.out
                          rw [hps] at l0
                          obtain ⟨lu, hlu⟩ : ∃ m, low u = m := ⟨_, rfl⟩
                          obtain ⟨nu, hnu⟩ : ∃ m, num u = m := ⟨_, rfl⟩
                          rw [hlu] at l0
                          rw [hnu] at n0
                          have HLU := Lib.hid hlu
                          have HNU := Lib.hid hnu
                          clear hps hlu hnu
                          go_upto_region 39 with (fail)
                          by_cases hlow : lu < nu
                          · as_aux_lemma =>
                              have hlow2 : (lu : Int) < (nu : Int) := by omega
                              have HTn := Lib.hid (HTJ.out.pop_at HD.out (by rw [HLU.out, HNU.out]; exact hlow))
                              have HMUp : Hid (mu n num nx L0 false < gk) := Lib.hid (Nat.lt_of_lt_of_le (mu_pop (by have := HNX.out; rw [HK.out]; omega)) HMU.out)
                              have HPp : Hid (Pend n (lnsOf gs) num nx L0 (frs L0 nx) false) := Lib.hid (.inl ⟨rfl, rfl⟩)
                              have HMIp : Hid (Met0 num i (frs L0 nx)) := Lib.hid (.inl HMI.out)
                              go_quiet (fail)
                              have HTd := Lib.hid (HT.out.below (below_drewN (Below.refl _ _) nq))
                              have HBd := Lib.hid (below_drewN HB.out nq)
                              go_wp2
                              go_roundg (mu n num nx L0 false)
                              case measure => exact HMUp.out
                              case rel => exact ⟨met, num, _, nx, on, fd, S, L0, _, false, rfl, rfl, HTd, HTn, HPp, Lib.hid (Nat.le_refl _), HMT, HMIp, HCN, HBd⟩
                          · as_aux_lemma =>
                              have hlow2 : ¬ (lu : Int) < (nu : Int) := by omega
                              have hlow3 : ¬ low u < num u := by rw [HLU.out, HNU.out]; exact hlow
                              have hroot := popLow_root HTJ.out hlow3
                              rw [hroot] at HT
                              have HLW := Lib.hid hlow3
                              clear hroot hlow3
                              go_quiet (fail)
                              have HTd := Lib.hid (HT.out.below (below_drewN (Below.refl _ _) nq))
                              have HBd := Lib.hid (below_drewN HB.out nq)
                              clear HT HB l0 n0
                              generalize wc.drewN nq = W7 at *
                              obtain ⟨S1, S2, hS⟩ := mem_split (HTJ.out.ls u (by simp))
                              subst hS
                              have hO := HTd.out.stack
                              obtain ⟨AS, cS, hvS⟩ := hO.form
                              rw [ints_length] at hvS
                              subst hvS
                              obtain ⟨A9, c9, hAS, hRS, -⟩ := rows_cells hO (by decide)
                              simp only [Value.slice.injEq] at hAS
                              obtain ⟨rfl, -, rfl⟩ := hAS
                              have hcap := hO.cap.1
                              obtain ⟨gS, hgS, -⟩ := hO.first (i := S1.length) (u := .int .i64 (u : Int)) (ints_get (by simp))
                              subst hgS
                              have hSn : (S1 ++ u :: S2).length ≤ n := by
                                have h1 : (S1 ++ u :: S2).Nodup := HTJ.out.so.imp (fun {a b} hab e => by rw [e] at hab; omega)
                                have h2 : (S1 ++ u :: S2).length ≤ (List.range n).length := List.Nodup.length_le_of_subset h1 fun v hv => by
                                  have := HTJ.out.lt v (HTJ.out.sm v hv)
                                  simpa using this
                                simpa using h2
                              obtain ⟨mS, hmS⟩ : ∃ m, (S1 ++ u :: S2).length = m := ⟨_, rfl⟩
                              obtain ⟨p1, hp1⟩ : ∃ m, S1.length = m := ⟨_, rfl⟩
                              have hix := index_ints (some ⟨gS, 0, none⟩) (S1 ++ u :: S2) mS cS u W7 hmS (by omega) hRS
                              rw [hmS] at HTd hcap hSn ⊢
                              have HSP : Hid (∀ k : Nat, (S1 ++ u :: S2)[k]? = some u → k = p1) := Lib.hid (fun k hk => by rw [← hp1]; exact HTJ.out.place hk)
                              have HSM : Hid (u ∈ S1 ++ u :: S2) := Lib.hid (by simp)
                              have HMS := Lib.hid hmS
                              have HP1 := Lib.hid hp1
                              have hpm : p1 < mS := by rw [← hmS, ← hp1]; simp
                              clear hO hmS hp1
                              go_upto_region 41 with (go_at_call 63; with_reducible refine hix.mono ?_; rintro e w7 ⟨⟨iv, rfl, hiv, hiv2⟩, rfl⟩)
                              have h1 := hiv.2 HSM.out
                              have e1 : iv = (iv.toNat : Int) := (Int.toNat_of_nonneg h1).symm
                              have h2 := HSP.out iv.toNat (hiv2 iv.toNat e1)
                              rw [h2] at e1
                              clear hix hiv hiv2 hRS h1 h2
                              subst e1
                              have hp0 : (0 : Int) ≤ (p1 : Int) := Int.natCast_nonneg p1
                              have hp2 : (p1 : Int) ≤ (mS : Int) := Int.ofNat_le.2 (Nat.le_of_lt hpm)
                              have hp3 : (mS : Int) ≤ (cS : Int) := Int.ofNat_le.2 hcap
                              have hp4 : (p1 : Int) ≤ (cS : Int) := Int.le_trans hp2 hp3
                              go_upto_region 43 with (fail)
                              obtain ⟨ln, hln⟩ : ∃ ln, S2.length + 1 = ln := ⟨_, rfl⟩
                              have hml : mS - p1 = ln := by
                                have h1 := HMS.out
                                have h2 := HP1.out
                                rw [List.length_append, List.length_cons] at h1
                                omega
                              have HLN := Lib.hid hln
                              have HML := Lib.hid hml
                              rw [hml]
                              have hlnb : ln ≤ 65536 := by omega
                              clear hml hln
                              go_upto_region 44 with (fail)
                              have HFD0 : Hid (fd = ((u :: S2).take 0).foldl (findF (lnsOf gs) ln) fd) := Lib.hid rfl
                              have HT0 : Hid (TMem w7 fb n fb gb lb ob (.slice (some ⟨gS, 0, none⟩) mS cS) fr num low (offOn on ((u :: S2).take 0)) (S1 ++ u :: S2) [frow (.slice (some ⟨g13, 0, none⟩) q c13) (frs L0 nx)]) := Lib.hid (by
                                rw [List.take_zero, offOn_nil]
                                exact HTd.out)
                              clear HTd
                              go_loopw [6, 236] (fun s6 s236 wr => ∃ (j : Nat) (fd' : Int), j ≤ ln ∧ s236 = .int .i64 j ∧ s6 = .int .i64 fd' ∧ Hid (TMem wr fb n fb gb lb ob (.slice (some ⟨gS, 0, none⟩) mS cS) fr num low (offOn on ((u :: S2).take j)) (S1 ++ u :: S2) [frow (.slice (some ⟨g13, 0, none⟩) q c13) (frs L0 nx)]) ∧ Hid (fd' = ((u :: S2).take j).foldl (findF (lnsOf gs) ln) fd) ∧ Hid (Below w.heap.size w wr)) (fun _ s236 _ => ln - (intOf s236).toNat)
                              case atStart => exact ⟨0, fd, by omega, rfl, rfl, HT0, HFD0, HBd⟩
                              case round =>
                                clear HT0 HFD0 HBd
                                obtain ⟨j, fd', hj, rfl, rfl, HT, HFD, HB⟩ := hrel
                                by_cases hjl : j < ln
                                · as_aux_lemma =>
                                    obtain ⟨p, hp⟩ : ∃ p, (u :: S2)[j]? = some p := ⟨_, List.getElem?_eq_getElem (by rw [List.length_cons, HLN.out]; exact hjl)⟩
                                    have hps : (S1 ++ u :: S2)[p1 + j]? = some p := by
                                      rw [List.getElem?_append_right (by rw [HP1.out]; omega), HP1.out, Nat.add_sub_cancel_left]
                                      exact hp
                                    have hpn : p < n := HTJ.out.lt p (HTJ.out.sm p (List.mem_of_getElem? hps))
                                    obtain ⟨g9, hg9, d9⟩ := HT.out.stack.first (ints_get hps)
                                    cases hg9
                                    obtain ⟨o0, o1, hob2, hos⟩ := HT.out.onAt hpn
                                    have ht8 := hos false
                                    have htk : (u :: S2).take j ++ [p] = (u :: S2).take (j + 1) := by rw [List.take_add_one, hp]; rfl
                                    rw [offOn_snoc, htk] at ht8
                                    have HT8 := Lib.hid ht8
                                    have HB8 := Lib.hid (HB.out.setCell (p := ⟨ob, p, none⟩) (by rw [HFB.out]; exact hob2) (.bool false))
                                    have HFDn : Hid ((if condB (lnsOf gs) ln fd' p = true then (p : Int) else fd') = ((u :: S2).take (j + 1)).foldl (findF (lnsOf gs) ln) fd) := Lib.hid (by
                                      rw [← htk, List.foldl_append, ← HFD.out, ← findF_eq]
                                      rfl)
                                    obtain ⟨g, hg⟩ : ∃ g, gs[p]? = some g := ⟨_, List.getElem?_eq_getElem (by rw [HL.out]; exact hpn)⟩
                                    obtain ⟨ab', ao', hab, hc⟩ := greads_at HR.out hg
                                    cases hab
                                    have HGC := Lib.hid (hc.below HB8.out)
                                    have HLI := Lib.hid (leans_ints HI.out hg)
                                    have hj0 : (0 : Int) ≤ (j : Int) := by omega
                                    have hj1 : (j : Int) < (ln : Int) := by omega
                                    have hp0' : (0 : Int) ≤ (p : Int) := by omega
                                    have hpn2 : (p : Int) < (n : Int) := by omega
                                    have HGL := Lib.hid (leans_le g)
                                    clear hos ht8 htk hp hps hg hc HT HB HFD
                                    go_upto_region 47 with (fail)
                                    change Code.wp _ _ _ _ (wr.setCell ⟨ob, p, none⟩ (.bool false))
                                    clear d9 o0 o1
                                    generalize wr.setCell ⟨ob, p, none⟩ (.bool false) = W8 at *
                                    go_cut [263] (fun s wx => s = .bool (condB (lnsOf gs) ln fd' p) ∧ Hid (TMem wx fb n fb gb lb ob (.slice (some ⟨gS, 0, none⟩) mS cS) fr num low (offOn on ((u :: S2).take (j + 1))) (S1 ++ u :: S2) [frow (.slice (some ⟨g13, 0, none⟩) q c13) (frs L0 nx)]) ∧ Hid (Below w.heap.size w wx))
                                    case first =>
                                      as_aux_lemma =>
                                        by_cases h1 : 1 < ln
                                        · have h1' : (1 : Int) < (ln : Int) := by omega
                                          by_cases h2 : fd' < 0
                                          · have hcb := condB_true (f := lnsOf gs) (p := p) (.inl h1) (.inl h2)
                                            go_wp2
                                            go_meet
                                            exact ⟨by rw [hcb], HT8, HB8⟩
                                          · by_cases h3 : (p : Int) < fd'
                                            · have hcb := condB_true (f := lnsOf gs) (p := p) (.inl h1) (.inr h3)
                                              go_wp2
                                              go_meet
                                              exact ⟨by rw [hcb], HT8, HB8⟩
                                            · have hcb := condB_false2 (f := lnsOf gs) (len := ln) h2 h3
                                              go_wp2
                                              go_meet
                                              exact ⟨by rw [hcb], HT8, HB8⟩
                                        · have h1' : ¬ (1 : Int) < (ln : Int) := by omega
                                          obtain ⟨c0, c1, c2, c3, c4', c5⟩ := HGC.out
                                          have hcall : ∀ W, Calls Tryd.prog 47 #[.agg #[.int .i64 g.kind, .string g.name, .int .i64 g.op, .int .i64 g.a, .int .i64 g.b, .int .i64 g.c]] W fun e w' => ∃ A c, e = .returned (.slice A g.leans.length c) ∧ Hid (CReads w' A (ints (lnsOf gs p))) ∧ Below W.heap.size W w' := fun W => (leans_any g W).mono fun e w' ⟨A, c, he, ho, hb⟩ => by
                                            obtain ⟨A10, c10, hAS, hRS, -⟩ := rows_cells ho.out (by decide)
                                            simp only [Value.slice.injEq] at hAS
                                            obtain ⟨rfl, -, rfl⟩ := hAS
                                            rw [HLI.out] at hRS
                                            exact ⟨_, _, he, Lib.hid hRS, hb⟩
                                          have hct : ∀ (A : Option Addr) (c : Nat) (W : World), CReads W A (ints (lnsOf gs p)) → Calls Tryd.prog 64 #[.slice A g.leans.length c, .int .i64 (p : Int)] W fun e w' => e = .returned (.bool (decide (p ∈ lnsOf gs p))) ∧ w' = W := fun A c W hR => contains_ints A (lnsOf gs p) g.leans.length c p W (by
                                            have := congrArg List.length HLI.out
                                            rw [nums_length, ints_length] at this
                                            exact this.symm) (by have := HGL.out; omega) hR
                                          obtain ⟨bm, hbm⟩ : ∃ b, decide (p ∈ lnsOf gs p) = b := ⟨_, rfl⟩
                                          rw [hbm] at hct
                                          have HBM := Lib.hid hbm
                                          clear hbm
                                          cases bm
                                          · have hcb := condB_false1 (fd := fd') h1 (of_decide_eq_false HBM.out)
                                            clear HBM
                                            go_wp2_with (first | (go_at_call 47; with_reducible refine (hcall _).mono ?_; rintro e W9 ⟨A9, q9, rfl, HRS, hB9⟩) | (go_at_call 64; with_reducible refine (hct _ _ _ HRS.out).mono ?_; rintro e W10 ⟨rfl, rfl⟩))
                                            go_meet
                                            exact ⟨by rw [hcb]; try (simp; omega), Lib.hid (HT8.out.below hB9), Lib.hid (below_then HB8.out HB8.out.size hB9)⟩
                                          · have hpin : p ∈ lnsOf gs p := of_decide_eq_true HBM.out
                                            clear HBM
                                            by_cases h2 : fd' < 0
                                            · have hcb := condB_true (len := ln) (.inr hpin) (.inl h2)
                                              clear hpin
                                              go_wp2_with (first | (go_at_call 47; with_reducible refine (hcall _).mono ?_; rintro e W9 ⟨A9, q9, rfl, HRS, hB9⟩) | (go_at_call 64; with_reducible refine (hct _ _ _ HRS.out).mono ?_; rintro e W10 ⟨rfl, rfl⟩))
                                              go_meet
                                              exact ⟨by rw [hcb]; try (simp; omega), Lib.hid (HT8.out.below hB9), Lib.hid (below_then HB8.out HB8.out.size hB9)⟩
                                            · by_cases h3 : (p : Int) < fd'
                                              · have hcb := condB_true (len := ln) (.inr hpin) (.inr h3)
                                                clear hpin
                                                go_wp2_with (first | (go_at_call 47; with_reducible refine (hcall _).mono ?_; rintro e W9 ⟨A9, q9, rfl, HRS, hB9⟩) | (go_at_call 64; with_reducible refine (hct _ _ _ HRS.out).mono ?_; rintro e W10 ⟨rfl, rfl⟩))
                                                go_meet
                                                exact ⟨by rw [hcb]; try (simp; omega), Lib.hid (HT8.out.below hB9), Lib.hid (below_then HB8.out HB8.out.size hB9)⟩
                                              · have hcb := condB_false2 (f := lnsOf gs) (len := ln) h2 h3
                                                clear hpin
                                                go_wp2_with (first | (go_at_call 47; with_reducible refine (hcall _).mono ?_; rintro e W9 ⟨A9, q9, rfl, HRS, hB9⟩) | (go_at_call 64; with_reducible refine (hct _ _ _ HRS.out).mono ?_; rintro e W10 ⟨rfl, rfl⟩))
                                                go_meet
                                                exact ⟨by rw [hcb]; try (simp; omega), Lib.hid (HT8.out.below hB9), Lib.hid (below_then HB8.out HB8.out.size hB9)⟩
                                    case rest =>
                                      obtain ⟨hcb, HT, HB⟩ := hcut
                                      subst hcb
                                      obtain ⟨cb, hcb⟩ : ∃ cb, condB (lnsOf gs) ln fd' p = cb := ⟨_, rfl⟩
                                      rw [hcb] at HFDn ⊢
                                      clear hcb HT8 HB8
                                      cases cb
                                      · have HFDm : Hid (fd' = ((u :: S2).take (j + 1)).foldl (findF (lnsOf gs) ln) fd) := HFDn
                                        go_wp2
                                        go_roundw
                                        case rel => exact ⟨j + 1, fd', by omega, by go_num, rfl, HT, HFDm, HB⟩
                                        case measure => simp [intOf]; omega
                                      · have HFDm : Hid ((p : Int) = ((u :: S2).take (j + 1)).foldl (findF (lnsOf gs) ln) fd) := HFDn
                                        go_wp2
                                        go_roundw
                                        case rel => exact ⟨j + 1, (p : Int), by omega, by go_num, rfl, HT, HFDm, HB⟩
                                        case measure => simp [intOf]; omega
                                · as_aux_lemma =>
                                    obtain rfl : j = ln := by omega
                                    have hall : (u :: S2).take j = u :: S2 := List.take_of_length_le (by rw [List.length_cons, HLN.out]; exact Nat.le_refl _)
                                    rw [hall] at HT HFD
                                    have hroot := HTJ.out.root HD.out HLW.out (on' := offOn on (u :: S2)) (fun x => offOn_true)
                                    rw [HLN.out, ← HFD.out] at hroot
                                    have HTn := Lib.hid hroot
                                    have HTc := Lib.hid (HT.out.cutS HP1.out (by simp))
                                    have HMUp : Hid (mu n num nx L0 false < gk) := Lib.hid (Nat.lt_of_lt_of_le (mu_pop (by have := HNX.out; rw [HK.out]; omega)) HMU.out)
                                    have HPp : Hid (Pend n (lnsOf gs) num nx L0 (frs L0 nx) false) := Lib.hid (.inl ⟨rfl, rfl⟩)
                                    have HMIp : Hid (Met0 num i (frs L0 nx)) := Lib.hid (.inl HMI.out)
                                    clear hall hroot HT HFD HTJ
                                    by_cases hz : fd' = 0
                                    · subst hz
                                      have HZ := Lib.hid HTn.out.zero
                                      go_wp2
                                      go_step3
                                      refine And.intro rfl (HJ.out _ _ ?_)
                                      go_wp2
                                      go_ret
                                      exact ⟨0, rfl, .inr ⟨0, HZ.out.1, rfl, HZ.out.2, fun j hj => absurd hj (Nat.not_lt_zero _)⟩, HB.out⟩
                                    · have hz1 : (fd' == 0) = false := by simpa using hz
                                      go_wp2
                                      go_roundg (mu n num nx L0 false)
                                      case measure => exact HMUp.out
                                      case rel => exact ⟨met, num, low, nx, _, fd', S1, L0, _, false, rfl, rfl, HTc, HTn, HPp, Lib.hid (Nat.le_refl _), HMT, HMIp, HCN, HB⟩
        · as_aux_lemma =>
            obtain rfl : i = n := by omega
            have HFIN := Lib.hid (HTJ.out.fin HInL.out (.inr HMT.out))
            clear HT HTJ HMT HCN
            go_wp2
            go_step3
            go_wp2
            go_ret
            exact ⟨fd, rfl, HFIN.out, HB.out⟩
end Go.Proofs.YtjkmoahnociaiaaDoor
