/- Searches: what was met, and whose leans wait: their memory; comes of the document. -/
import Derived.Test.YtjkmoahnociaiaaDoorX7
namespace Go.Proofs.YtjkmoahnociaiaaDoor
open Go.RowKit

def bools (l : List Bool) : List Value := l.map Value.bool
theorem bools_length (l : List Bool) : (bools l).length = l.length := by simp [bools]
theorem bools_get {l : List Bool} {i : Nat} {x : Bool} (h : l[i]? = some x) : (bools l)[i]? = some (.bool x) := by simp [bools, h]
theorem bools_set (l : List Bool) (i : Nat) (x : Bool) : (bools l).set i (.bool x) = bools (l.set i x) := by simp [bools, List.map_set]
theorem bools_rep (n : Nat) (x : Bool) : bools (List.replicate n x) = List.replicate n (.bool x) := by simp [bools]
theorem bools_snoc (l : List Bool) (x : Bool) : bools l ++ [.bool x] = bools (l ++ [x]) := by simp [bools]
theorem Hold.swap {w : World} {base : Nat} {l : List RW} (h : Hold w base l) {i : Nat} {r r' : RW} (hi : l[i]? = some r) (ho : r'.own w base) (hv : r'.v.ownBlock = r.v.ownBlock) : Hold w base (l.set i r') :=
  h.turn hi (only_refl w _) ho (.inl hv)
/-- met, work, and rows beside. -/
def DMem (w : World) (base n : Nat) (vk : Value) (met : List Bool) (work : List Nat) (X : List RW) : Prop :=
  Hold w base ([row1 4 (.slice (some ⟨base, 0, none⟩) n n) (bools met), row1 3 vk (ints work)] ++ X)
section
variable {w w' : World} {base n k : Nat} {vk : Value} {met : List Bool} {work : List Nat} {X : List RW}
theorem dmem_start (w : World) (n : Nat) (hn : n ≤ maxLen) (p : Nat) : DMem ((w.alloc (.cells (List.replicate n (Value.bool false)).toArray 4)).alloc (.cells [Value.int .i64 (p : Int)].toArray 3)) w.heap.size n (.slice (some ⟨w.heap.size + 1, 0, none⟩) 1 1) (List.replicate n false) [p] [] := by
  have h1 := (Hold.nil w w.heap.size).made (e := 4) (z := .bool false) (Nat.le_refl _) hn
  have h2 := h1.new (below1 _ (.cells [Value.int .i64 (p : Int)].toArray 3)) (by simp) (r := row1 3 (.slice (some ⟨w.heap.size + 1, 0, none⟩) 1 1) [.int .i64 (p : Int)])
    (by
      have := World.ownsRow_lit (base := w.heap.size + 1) (e := 3) (size := 1) (w.alloc (.cells (List.replicate n (Value.bool false)).toArray 4)) [Value.int .i64 (p : Int)].toArray 1 (by simp) (by unfold maxLen; omega) (by simp)
      simpa [RW.own, row1] using this)
  unfold DMem
  rw [bools_rep]
  simpa [ints, row1] using h2
theorem DMem.below (h : DMem w base n vk met work X) (hb : Below w.heap.size w w') : DMem w' base n vk met work X := Hold.below h hb
theorem DMem.drop (h : DMem w base n vk met work X) : DMem w base n vk met work [] := by
  unfold DMem at h ⊢
  rw [List.append_nil]
  exact h.front
theorem DMem.new (h : DMem w base n vk met work []) (hb : Below w.heap.size w w') (hB : base ≤ w.heap.size) {e : TypeId} {v : Value} {xs : List Value} (ho : Owns w' w.heap.size e v xs) : DMem w' base n vk met work [row1 e v xs] := by
  have := Hold.new h hb hB (r := row1 e v xs) ho
  unfold DMem
  rw [List.append_nil] at this
  exact this
theorem DMem.metP (h : DMem w base n vk met work X) {i : Nat} {x : Bool} (hx : met[i]? = some x) : w.cell? ⟨base, i, none⟩ = some (.bool x) ∧ w.frozen? ⟨base, i, none⟩ = false ∧
    ∀ y : Bool, DMem (w.setCell ⟨base, i, none⟩ (.bool y)) base n vk (met.set i y) work X := by
  obtain ⟨g, e, _, _, h1, h2, h3⟩ := Hold.cell h (i := 0) rfl (bools_get hx)
  cases e
  refine ⟨h1, h2, fun y => ?_⟩
  have := h3 (.bool y)
  rw [bools_set] at this
  exact this
theorem DMem.owns (h : DMem w base n vk met work X) : Owns w base 3 vk (ints work) := Hold.owns h (i := 1) rfl
theorem DMem.at_ {A : Option Addr} {m c : Nat} (h : DMem w base n (.slice A m c) met work X) {j x : Nat} (hj : work[j]? = some x) : ∃ g, A = some ⟨g, 0, none⟩ ∧ w.cell? ⟨g, j, none⟩ = some (.int .i64 (x : Int)) := by
  obtain ⟨g, e, _, _, h1, _, _⟩ := Hold.cell h (i := 1) rfl (ints_get hj)
  exact ⟨g, e, h1⟩
theorem DMem.push (h : DMem w base n vk met work X) {v' : Value} {x : Nat} (ho : Owns w' base 3 v' (ints work ++ [.int .i64 (x : Int)])) (hg : w.grownBy w' vk.ownBlock) (hn : v'.ownBlock = vk.ownBlock ∨ v'.ownBlock = some w.heap.size) : DMem w' base n v' met (work ++ [x]) X := by
  have := Hold.push h (i := 1) rfl ho hg hn
  rw [ints_snoc] at this
  exact this
theorem DMem.pop {A : Option Addr} {m c p : Nat} (h : DMem w base n (.slice A (m + 1) c) met (work ++ [p]) X) (hm : work.length = m) : DMem w base n (.slice A m c) met work X := by
  have ho : Owns w base 3 (.slice A m c) (ints work) := by
    have := h.owns.short (m := m) (by omega) (by omega)
    rw [show (ints (work ++ [p])).take m = ints work by rw [← ints_snoc]; exact List.take_left' (by rw [ints_length]; exact hm)] at this
    exact this
  exact Hold.swap h (i := 1) (r' := row1 3 (.slice A m c) (ints work)) rfl ho (by cases A <;> rfl)
theorem DMem.beside {A : Option Addr} {m c : Nat} {l : List Int} (h : DMem w base n vk met work [row1 3 (.slice A m c) (nums .i64 l)]) {j : Nat} {x : Int} (hj : l[j]? = some x) : ∃ g, A = some ⟨g, 0, none⟩ ∧ w.cell? ⟨g, j, none⟩ = some (.int .i64 x) := by
  obtain ⟨g, e, _, _, h1, _, _⟩ := Hold.cell h (i := 2) rfl (j := j) (u := .int .i64 x) (by rw [nums_get, hj]; rfl)
  exact ⟨g, e, h1⟩
/-- A block of another type is none of these. -/
theorem DMem.far (h : DMem w base n vk met work X) {g : Nat} {t : TypeId} (ht : Typed w g t) (h1 : t ≠ 3) (h2 : t ≠ 4) : g ≠ base ∧ some g ≠ vk.ownBlock := by
  refine ⟨fun e => ?_, fun e => ht.ne (rows_typed (h.1 1 _ rfl) e.symm) h1 rfl⟩
  exact ht.ne (rows_typed (h.1 0 _ rfl) (g := g) (by rw [e]; rfl)) h2 rfl
end
end Go.Proofs.YtjkmoahnociaiaaDoor
/- comes of the document: does one come back to a line? -/
namespace Go.Proofs.YtjkmoahnociaiaaDoor
open Go.RowKit

/-- What comes answers. -/
def ComesR (w : World) (f : Nat → List Nat) (place : Nat) (e : Ending) (w' : World) : Prop := ∃ b : Bool, e = .returned (.bool b) ∧ (b = true ↔ Way f place place) ∧ Below w.heap.size w w'
theorem unmet_rep (n : Nat) : unmet (List.replicate n false) = n := by simp [unmet]
set_option maxRecDepth 100000 in
set_option maxHeartbeats 4000000 in
theorem comes_any (A : Option Addr) (n c : Nat) (gs : List Gt) (B : Option Addr) (cb : Nat) (left : List Bool) (place : Nat) (w : World) (hr : CReads w A (gcells gs)) (hl : gs.length = n) (hin : InR gs) (hmax : n ≤ 65536) (hb : CReads w B (bools left)) (hbl : left.length = n) (hp : place < n)
    (hleft : ∀ i, i < n → ¬ Free (lnsOf gs) i → left[i]? = some true) :
    Calls Tryd.prog 56 #[.slice A n c, .slice B n cb, .int .i64 place] w (ComesR w (lnsOf gs) place) := by
  have HR := Lib.hid hr; have HL := Lib.hid hl; have HI := Lib.hid hin; have HBR := Lib.hid hb; have HBL := Lib.hid hbl; have HLF := Lib.hid hleft
  have hm1 := run_makeRep (P := Tryd.prog) Tryd.underlying96 info_bool rfl n (by omega) (by omega)
  have HM0 := Lib.hid (dmem_start w n (by unfold maxLen; omega) place)
  have HB0 := Lib.hid (below2 w (.cells (List.replicate n (Value.bool false)).toArray 4) (.cells [Value.int .i64 (place : Int)].toArray 3))
  have HC0 := Lib.hid (Comes.start (n := n) (f := lnsOf gs) (left := left) (place := place))
  have HInL : Hid (∀ i, i < n → ∀ p ∈ lnsOf gs i, p < n) := Lib.hid (by have := hin.lt; rwa [hl] at this)
  clear hr hl hin hb hbl hleft
  go_enter Tryd.func56, Tryd.ntmps56
  go_upto_region 3 with (fail)
  change Code.wp _ _ _ _ ((w.alloc (.cells (List.replicate n (Value.bool false)).toArray 4)).alloc (.cells [Value.int .i64 (place : Int)].toArray 3))
  generalize (w.alloc (.cells (List.replicate n (Value.bool false)).toArray 4)).alloc (.cells [Value.int .i64 (place : Int)].toArray 3) = W2 at *
  clear hm1
  go_loopg [8] (2 * n + 1) (fun r vk wr => ∃ (met : List Bool) (work : List Nat), r ≤ 2 * n + 1 ∧ Hid (2 * unmet met + work.length ≤ r) ∧ Hid (DMem wr w.heap.size n vk met work []) ∧ Hid (Comes n (lnsOf gs) left place met work n 0) ∧ Hid (Below w.heap.size w wr))
  case atStart => exact ⟨_, _, by omega, Lib.hid (by rw [unmet_rep]; simp), HM0, HC0, HB0⟩
  case round =>
    clear HM0 HC0 HB0
    obtain ⟨met, work, hgk, HG, HM, HC, HB⟩ := hrel
    rcases List.eq_nil_or_concat work with rfl | ⟨work, p, rfl⟩
    · obtain ⟨A8, c8, hv8⟩ := HM.out.owns.form
      simp only [ints, List.map_nil, List.length_nil] at hv8
      subst hv8
      have HN := Lib.hid (HC.out.fin hp HInL.out HLF.out)
      go_wp2
      go_ret
      exact ⟨false, rfl, by simp [HN.out], HB.out⟩
    · rw [List.concat_eq_append] at HG HM HC
      obtain ⟨A8, c8, hv8⟩ := HM.out.owns.form
      rw [ints_length, List.length_append, List.length_singleton] at hv8
      subst hv8
      obtain ⟨q, hq⟩ : ∃ q, work.length = q := ⟨_, rfl⟩
      rw [hq] at HM ⊢
      have HQ := Lib.hid hq
      have hcap := HM.out.owns.cap
      obtain ⟨g8, rfl, d8⟩ := HM.out.at_ (j := q) (x := p) (by rw [List.getElem?_append_right (by omega), hq]; simp)
      have hpm := HC.out.wm p (by simp)
      have hpn : p < n := by
        rcases hpm with h | h
        · omega
        · rw [← HC.out.ml]; exact (List.getElem?_eq_some_iff.1 h).1
      have HPM := Lib.hid hpm
      have HMp := Lib.hid (HM.out.pop hq)
      have HCp := Lib.hid (HC.out.pop hp)
      have HGp : Hid (2 * unmet met + work.length < gk) := Lib.hid (by have := HG.out; simp at this; omega)
      have hp0 : (0 : Int) ≤ (p : Int) := by omega
      have hpn' : (p : Int) < (n : Int) := by omega
      have hq0 : (0 : Int) ≤ (q : Int) := by omega
      have hqc : (q : Int) ≤ (c8 : Int) := by have := hcap.1; omega
      have hqb : q ≤ 200000 := by have := HGp.out; omega
      obtain ⟨g, hg⟩ : ∃ g, gs[p]? = some g := ⟨_, List.getElem?_eq_getElem (by rw [HL.out]; exact hpn)⟩
      obtain ⟨ab, ao, rfl, hc⟩ := greads_at HR.out hg
      obtain ⟨c0, c1, c2, c3, c4, c5⟩ := hc.below HB.out
      have HGG := Lib.hid hg
      have hcall : ∀ W, Calls Tryd.prog 69 #[.agg #[.int .i64 g.kind, .string g.name, .int .i64 g.op, .int .i64 g.a, .int .i64 g.b, .int .i64 g.c]] W fun e w' => e = .returned (.tuple #[.int .i64 g.leans.length, .agg (nums .i64 g.arr).toArray]) ∧ Below W.heap.size W w' := fun W => leans_ref g W
      obtain ⟨x0, x1, x2, harr⟩ : ∃ x0 x1 x2, g.arr = [x0, x1, x2] := by unfold Gt.arr; split; exact ⟨_, _, _, rfl⟩; split <;> exact ⟨_, _, _, rfl⟩
      rw [harr] at hcall
      have hm3 := leans_le g
      obtain ⟨m, hm⟩ : ∃ m, g.leans.length = m := ⟨_, rfl⟩
      rw [hm] at hcall hm3
      have HMM := Lib.hid hm
      have HARR := Lib.hid harr
      clear hg hc hm harr hq hcap hpm HM HC HG
      change ∀ W, Calls Tryd.prog 69 #[.agg #[.int .i64 g.kind, .string g.name, .int .i64 g.op, .int .i64 g.a, .int .i64 g.b, .int .i64 g.c]] W fun e w' => e = .returned (.tuple #[.int .i64 m, .agg #[.int .i64 x0, .int .i64 x1, .int .i64 x2]]) ∧ Below W.heap.size W w' at hcall
      go_upto_region 7 with (go_at_call 69; with_reducible refine (hcall _).mono ?_; rintro e W3 ⟨rfl, hB3⟩)
      have HO3 : Hid (Blk (W3.alloc (.cells #[.int .i64 x0, .int .i64 x1, .int .i64 x2] 116)) W3.heap.size 116 (nums .i64 g.arr)) := Lib.hid (by rw [HARR.out]; exact Blk.new W3 116 [.int .i64 x0, .int .i64 x1, .int .i64 x2])
      have HM3 := Lib.hid ((HMp.out.below hB3).below (below1 W3 (.cells #[.int .i64 x0, .int .i64 x1, .int .i64 x2] 116)))
      have hb3 := below_then HB.out HB.out.size hB3
      have HB3 := Lib.hid (hb3.alloc hb3.size (.cells #[.int .i64 x0, .int .i64 x1, .int .i64 x2] 116))
      change Code.wp _ _ _ _ (W3.alloc (.cells #[.int .i64 x0, .int .i64 x1, .int .i64 x2] 116))
      generalize W3.alloc (.cells #[.int .i64 x0, .int .i64 x1, .int .i64 x2] 116) = W4 at *
      generalize W3.heap.size = ob at *
      clear hcall HMp HB hB3 hb3 c0 c1 c2 c3 c4 c5 HARR d8 HQ
      go_upto_region 8 with (fail)
      go_loopw [8, 12] (fun vk s12 wr => ∃ (j : Nat) (met : List Bool) (work : List Nat), j ≤ m ∧ s12 = .int .i64 j ∧ Hid (2 * unmet met + work.length < gk) ∧ Hid (DMem wr w.heap.size n vk met work []) ∧ Hid (Comes n (lnsOf gs) left place met work p j) ∧ Hid (p = place ∨ met[p]? = some true) ∧ Hid (Blk wr ob 116 (nums .i64 g.arr)) ∧ Hid (Below w.heap.size w wr)) (fun _ s12 _ => m - (intOf s12).toNat)
      case atStart => exact ⟨0, met, work, by omega, rfl, HGp, HM3, HCp, HPM, HO3, HB3⟩
      case round =>
        clear HGp HM3 HCp HPM HO3 HB3 hqb hqc hq0
        obtain ⟨j, met, work, hj, rfl, HGp, HM, HC, HPM, HO, HB⟩ := hrel
        by_cases hjm : j < m
        · obtain ⟨v, hv1, hv2, hv3⟩ := HI.out.at_ HGG.out (j := j) (by rw [HMM.out]; exact hjm)
          have hvn : v < n := by have := HL.out; omega
          have e0 : wr.cell? ⟨ob, j, none⟩ = some (.int .i64 (v : Int)) := (HO.out.cell j).trans (by rw [nums_get, arr_at hv1]; rfl)
          have HV := Lib.hid hv2
          have HV1 := Lib.hid hv1
          have hj0 : (0 : Int) ≤ (j : Int) := by omega
          have hj3 : (j : Int) < 3 := by omega
          have hjm' : (j : Int) < (m : Int) := by omega
          have hv0 : (0 : Int) ≤ (v : Int) := by omega
          have hvn' : (v : Int) < (n : Int) := by omega
          clear hv1 hv2 hv3
          by_cases hvp : v = place
          · have e1 : ((v : Int) == (place : Int)) = true := by simp [hvp]
            have e2 : (v == place) = true := by simp [hvp]
            have HW : Hid (Way (lnsOf gs) place place) := Lib.hid (by have := HC.out.way HPM.out HV.out; rwa [hvp] at this)
            clear hvp
            go_wp2
            go_ret
            exact ⟨true, rfl, by simp [HW.out], HB.out⟩
          · have e1 : ((v : Int) == (place : Int)) = false := by simp; omega
            have e2 : (v == place) = false := by simp [hvp]
            have HNE := Lib.hid hvp
            obtain ⟨lb, hlb⟩ : ∃ lb, left[v]? = some lb := ⟨_, List.getElem?_eq_getElem (by rw [HBL.out]; exact hvn)⟩
            obtain ⟨mb, hmb⟩ : ∃ mb, met[v]? = some mb := ⟨_, List.getElem?_eq_getElem (by rw [HC.out.ml]; exact hvn)⟩
            obtain ⟨bb, bo, rfl, hbc⟩ := HBR.out.at_ (bools_get hlb)
            have l0 := cell_kept HB.out hbc
            obtain ⟨m0, z0, hset⟩ := HM.out.metP hmb
            have HLB := Lib.hid hlb
            have HMB := Lib.hid hmb
            have HSET := Lib.hid hset
            clear hvp hlb hmb hbc hset
            by_cases hsk : lb = true ∧ mb = false
            · obtain ⟨rfl, rfl⟩ := hsk
              have HS := Lib.hid (HSET.out true)
              have HCn := Lib.hid (HC.out.new HPM.out HV.out HNE.out HLB.out HMB.out)
              have HGn : Hid (2 * unmet (met.set v true) + (work ++ [v]).length < gk) := Lib.hid (by
                have h1 := unmet_set HMB.out
                have h2 := HGp.out
                simp
                omega)
              have hwl : work.length ≤ 200000 := by have := HGp.out; omega
              have HPn : Hid (p = place ∨ (met.set v true)[p]? = some true) := Lib.hid (by
                rcases HPM.out with h | h
                · exact .inl h
                · exact .inr ((met_set (List.getElem?_eq_some_iff.1 HMB.out).1).2 (.inr h)))
              have hfar := HM.out.far HO.out.typed (by decide) (by decide)
              have HOn := Lib.hid (HO.out.far (p := ⟨w.heap.size, v, none⟩) hfar.1 (.bool true))
              have HBs := Lib.hid (HB.out.setCell (p := ⟨w.heap.size, v, none⟩) (Nat.le_refl _) (.bool true))
              clear HSET HM HC HGp HPM HB HO hfar
              go_upto_region 14 with (fail)
              generalize wr.setCell ⟨w.heap.size, v, none⟩ (.bool true) = W5 at *
              clear m0 z0 l0 e0
              have e0 : W5.cell? ⟨ob, j, none⟩ = some (.int .i64 (v : Int)) := (HOn.out.cell j).trans (by rw [nums_get, arr_at HV1.out]; rfl)
              have HS2 := Lib.hid (HS.out.below (below1 W5 (.cells [Value.int .i64 (v : Int)].toArray 3)))
              have HBs2 := Lib.hid (HBs.out.alloc HBs.out.size (.cells [Value.int .i64 (v : Int)].toArray 3))
              have HOn2 := Lib.hid (HOn.out.alloc (.cells [Value.int .i64 (v : Int)].toArray 3))
              have hO2 := Lib.hid HS2.out.owns
              have hull : (ints work).length + 1 ≤ 400000 := by rw [ints_length]; omega
              go_upto_region 9 with (at_builtin; refine wpList_push2 rfl _ _ 23 rfl w.heap.size 3 _ 8 Tryd.underlying23 info_int rfl u8 (ints work) rfl hO2.out ⟨W5.heap.size, 0, none⟩ (.int .i64 (v : Int)) rfl (by simp [go_sem]) rfl (by unfold maxLen; omega) (by omega) (by simp; have := HBs.out.size; omega) ?_; intro v5 w5 hown5 hg5 hb5; have HM5 := Lib.hid (HS2.out.push hown5 hg5 hb5); have HB5 := Lib.hid (HBs2.out.grown hg5 HBs2.out.size (fun g hv => (hO2.out.lt hv).1)); have HO5 := Lib.hid (HOn2.out.grown hg5 (HS2.out.far HOn2.out.typed (by decide) (by decide)).2); clear hown5 hg5 hb5)
              clear HS HBs HOn HS2 HBs2 HOn2 hO2 e0
              go_wp2
              go_roundw
              case rel => exact ⟨j + 1, _, _, by omega, by go_num, HGn, HM5, HCn, HPn, HO5, HB5⟩
              case measure => simp [intOf]; omega
            · have HCn := Lib.hid (HC.out.old HV.out HNE.out (fun h => by
                rw [HLB.out] at h
                cases h
                rw [HMB.out]
                cases mb
                · exact absurd ⟨rfl, rfl⟩ hsk
                · rfl))
              cases lb
              · clear hsk HSET HC
                go_wp2
                go_roundw
                case rel => exact ⟨j + 1, _, _, by omega, by go_num, HGp, HM, HCn, HPM, HO, HB⟩
                case measure => simp [intOf]; omega
              · cases mb
                · exact absurd ⟨rfl, rfl⟩ hsk
                · clear hsk HSET HC
                  go_wp2
                  go_roundw
                  case rel => exact ⟨j + 1, _, _, by omega, by go_num, HGp, HM, HCn, HPM, HO, HB⟩
                  case measure => simp [intOf]; omega
        · obtain rfl : j = m := by omega
          have HCn := Lib.hid (HC.out.done (by rw [lns_length HGG.out, HMM.out]; exact Nat.le_refl _) 0)
          clear HC HO
          go_wp2
          go_roundg (2 * unmet met + work.length)
          case measure => exact HGp.out
          case rel => exact ⟨met, work, by have := HGp.out; omega, Lib.hid (Nat.le_refl _), HM, HCn, HB⟩
end Go.Proofs.YtjkmoahnociaiaaDoor
/- Circles of the document: the first line in a circle, or -1. -/
namespace Go.Proofs.YtjkmoahnociaiaaDoor
open Go.RowKit

/-- What Circles answers. -/
def CirclesR (w : World) (n : Nat) (f : Nat → List Nat) (e : Ending) (w' : World) : Prop :=
  ∃ x : Int, e = .returned (.int .i64 x) ∧ ((x = -1 ∧ ∀ i, i < n → Free f i) ∨ ∃ i : Nat, i < n ∧ x = (i : Int) ∧ Way f i i ∧ ∀ j, j < i → ¬ Way f j j) ∧ Below w.heap.size w w'
theorem DMem.reads {w : World} {base n : Nat} {vk : Value} {met : List Bool} {work : List Nat} {X : List RW} (h : DMem w base n vk met work X) : CReads w (some ⟨base, 0, none⟩) (bools met) ∧ met.length = n := by
  have ho : Owns w base 4 (.slice (some ⟨base, 0, none⟩) n n) (bools met) := Hold.owns h (i := 0) rfl
  obtain ⟨A, c, e, hr, _⟩ := rows_cells ho (by decide)
  cases e
  exact ⟨hr, by simp [bools]⟩
/-- left, with the lines of the first j of the order taken out. -/
def LeftAt (n : Nat) (L : List Nat) (j : Nat) (left : List Bool) : Prop := left.length = n ∧ ∀ (i : Nat) (x : Bool), left[i]? = some x → (x = false ↔ i ∈ L.take j)
theorem LeftAt.start (n : Nat) (L : List Nat) : LeftAt n L 0 (List.replicate n true) := by
  refine ⟨by simp, fun i x hx => ?_⟩
  rw [List.getElem?_replicate] at hx
  split at hx
  · cases hx; simp
  · cases hx
theorem LeftAt.step {n : Nat} {L : List Nat} {j v : Nat} {left : List Bool} (h : LeftAt n L j left) (hv : L[j]? = some v) : LeftAt n L (j + 1) (left.set v false) := by
  refine ⟨by rw [List.length_set]; exact h.1, fun i x hx => ?_⟩
  rw [List.take_add_one, hv]
  simp only [Option.toList, List.mem_append, List.mem_singleton]
  rw [List.getElem?_set] at hx
  split at hx
  · rename_i e
    subst e
    split at hx
    · cases hx; simp
    · cases hx
  · rename_i e
    rw [h.2 i x hx]
    constructor
    · exact .inl
    · rintro (h | h)
      · exact h
      · exact absurd h.symm e
set_option maxRecDepth 100000 in
set_option maxHeartbeats 4000000 in
theorem circles_any (A : Option Addr) (n c : Nat) (gs : List Gt) (w : World) (hr : CReads w A (gcells gs)) (hl : gs.length = n) (hin : InR gs) (hmax : n ≤ 65536) :
    Calls Tryd.prog 36 #[.slice A n c] w (CirclesR w n (lnsOf gs)) := by
  have HR := Lib.hid hr; have HL := Lib.hid hl; have HI := Lib.hid hin
  have hm1 := run_makeRep (P := Tryd.prog) Tryd.underlying96 info_bool rfl n (by omega) (by omega)
  have HH := Lib.hid ((Hold.nil w w.heap.size).made (e := 4) (z := .bool false) (Nat.le_refl _) (n := n) (by unfold maxLen; omega))
  have HB0 := Lib.hid (below1 w (.cells (List.replicate n (Value.bool false)).toArray 4))
  have HInL : Hid (∀ i, i < n → ∀ p ∈ lnsOf gs i, p < n) := Lib.hid (by have := hin.lt; rwa [hl] at this)
  have HA1 := Lib.hid (hr.below HB0.out)
  clear hr hl hin
  go_enter Tryd.func36, Tryd.ntmps36
  go_upto_region 2 with (fail)
  change Code.wp _ _ _ _ (w.alloc (.cells (List.replicate n (Value.bool false)).toArray 4))
  generalize w.alloc (.cells (List.replicate n (Value.bool false)).toArray 4) = W1 at *
  have hlay : Calls Tryd.prog 55 #[.slice A n c] W1 fun e w' => ∃ v L, e = .returned v ∧ Owns w' W1.heap.size 3 v (ints L) ∧ IsOrder gs.length (lnsOf gs) L ∧ Below W1.heap.size W1 w' := layers_any A n c gs _ HA1.out HL.out HI.out hmax
  go_upto_region 3 with (go_at_call 55; with_reducible refine hlay.mono ?_; rintro e W2 ⟨v2, L, rfl, hO, hI, hB⟩)
  have HM2 : Hid (DMem W2 w.heap.size n v2 (List.replicate n false) L []) := Lib.hid (by
    have := HH.out.new hB HB0.out.size (r := row1 3 v2 (ints L)) hO
    unfold DMem
    rw [bools_rep]
    exact this)
  have HB2 := Lib.hid (below_then HB0.out HB0.out.size hB)
  have HO : Hid (IsOrder n (lnsOf gs) L) := Lib.hid (by rw [← HL.out]; exact hI)
  have hLn := order_le HO.out
  obtain ⟨A4, c4, hv4⟩ := hO.form
  rw [ints_length] at hv4
  subst hv4
  clear hlay hO hI hB HH HB0 hm1
  by_cases hall : L.length = n
  · have HF := Lib.hid ((order_all HO.out HInL.out).1 hall)
    have e1 : ((L.length : Int) == (n : Int)) = true := by simp [hall]
    have e2 : (L.length == n) = true := by simp [hall]
    clear hall
    go_wp2
    go_ret
    exact ⟨-1, rfl, .inl ⟨rfl, HF.out⟩, HB2.out⟩
  · have HCirc := Lib.hid (circ_of_not_free HInL.out (fun h => hall ((order_all HO.out HInL.out).2 h)))
    have e1 : ((L.length : Int) == (n : Int)) = false := by simp; omega
    have e2 : (L.length == n) = false := by simp [hall]
    clear hall
    go_upto_region 6 with (fail)
    go_loopw [5] (fun s5 wr => ∃ (k : Nat) (left : List Bool), k ≤ n ∧ s5 = .int .i64 k ∧ Hid (DMem wr w.heap.size n (.slice A4 L.length c4) left L []) ∧ Hid (left = List.replicate k true ++ List.replicate (n - k) false) ∧ Hid (Below w.heap.size w wr)) (fun i _ => n - (intOf i).toNat)
    case atStart => exact ⟨0, _, by omega, rfl, HM2, Lib.hid (by simp), HB2⟩
    case round =>
      clear HM2 HB2
      obtain ⟨k, left, hk, rfl, HM, HF, HB⟩ := hrel
      by_cases hlt : k < n
      · obtain ⟨x, hx⟩ : ∃ x, left[k]? = some x := ⟨_, List.getElem?_eq_getElem (by rw [HF.out]; simp; omega)⟩
        obtain ⟨d1, z1, hset⟩ := HM.out.metP hx
        have HS := Lib.hid (hset true)
        have HFn : Hid (left.set k true = List.replicate (k + 1) true ++ List.replicate (n - (k + 1)) false) := Lib.hid (by
          rw [HF.out, List.set_append_right _ _ (by simp)]
          simp only [List.length_replicate, Nat.sub_self]
          rw [show n - k = (n - (k + 1)) + 1 by omega, List.replicate_succ, List.set_cons_zero, List.replicate_succ']
          simp)
        have HBs := Lib.hid (HB.out.setCell (p := ⟨w.heap.size, k, none⟩) (Nat.le_refl _) (.bool true))
        have hk0 : (0 : Int) ≤ (k : Int) := by omega
        have hkn : (k : Int) < (n : Int) := by omega
        clear hx hset HM HF HB
        go_wp2
        go_roundw
        case rel => exact ⟨k + 1, _, by omega, by go_num, HS, HFn, HBs⟩
        case measure => simp [intOf]; omega
      · obtain rfl : k = n := by omega
        have HLA : Hid (LeftAt k L 0 left) := Lib.hid (by
          have := HF.out
          simp only [Nat.sub_self, List.replicate_zero, List.append_nil] at this
          rw [this]
          exact LeftAt.start k L)
        clear HF hlt hk
        go_upto_region 10 with (fail)
        go_loopw [6] (fun s6 wr => ∃ (j : Nat) (left : List Bool), j ≤ L.length ∧ s6 = .int .i64 j ∧ Hid (DMem wr w.heap.size k (.slice A4 L.length c4) left L []) ∧ Hid (LeftAt k L j left) ∧ Hid (Below w.heap.size w wr)) (fun i _ => L.length - (intOf i).toNat)
        case atStart => exact ⟨0, _, by omega, rfl, HM, HLA, HB⟩
        case round =>
          clear HM HLA HB
          obtain ⟨j, left, hj, rfl, HM, HLA, HB⟩ := hrel
          by_cases hlt : j < L.length
          · obtain ⟨v, hv⟩ : ∃ v, L[j]? = some v := ⟨_, List.getElem?_eq_getElem hlt⟩
            have hvn := HO.out.lt v (List.mem_of_getElem? hv)
            obtain ⟨x, hx⟩ : ∃ x, left[v]? = some x := ⟨_, List.getElem?_eq_getElem (by rw [HLA.out.1]; exact hvn)⟩
            obtain ⟨d1, z1, hset⟩ := HM.out.metP hx
            obtain ⟨g4, hg4, d4⟩ := HM.out.at_ hv
            subst hg4
            have HS := Lib.hid (hset false)
            have HLn := Lib.hid (HLA.out.step hv)
            have HBs := Lib.hid (HB.out.setCell (p := ⟨w.heap.size, v, none⟩) (Nat.le_refl _) (.bool false))
            have hj0 : (0 : Int) ≤ (j : Int) := by omega
            have hjn : (j : Int) < (L.length : Int) := by omega
            have hv0 : (0 : Int) ≤ (v : Int) := by omega
            have hvk : (v : Int) < (k : Int) := by omega
            clear hv hx hset HM HLA HB
            go_wp2
            go_roundw
            case rel => exact ⟨j + 1, _, by omega, by go_num, HS, HLn, HBs⟩
            case measure => simp [intOf]; omega
          · obtain rfl : j = L.length := by omega
            have HLF : Hid (∀ i x, left[i]? = some x → (x = false ↔ i ∈ L)) := Lib.hid (by have := HLA.out.2; rwa [List.take_length] at this)
            have HLL := Lib.hid HLA.out.1
            have HLEFT : Hid (∀ i, i < k → ¬ Free (lnsOf gs) i → left[i]? = some true) := Lib.hid (fun i hi hf => by
              obtain ⟨x, hx⟩ : ∃ x, left[i]? = some x := ⟨_, List.getElem?_eq_getElem (by rw [HLL.out]; exact hi)⟩
              cases x
              · exact absurd ((order_free HO.out HInL.out hi).1 ((HLF.out i _ hx).1 rfl)) hf
              · exact hx)
            have HNW : Hid (∀ i, i < k → left[i]? = some false → ¬ Way (lnsOf gs) i i) := Lib.hid (fun i hi hx hw => circ_not_free hw ((order_free HO.out HInL.out hi).1 ((HLF.out i _ hx).1 rfl)))
            clear HLA hlt hj
            go_upto_region 14 with (fail)
            go_loopw [7] (fun s7 wr => ∃ (i : Nat), i ≤ k ∧ s7 = .int .i64 i ∧ Hid (DMem wr w.heap.size k (.slice A4 L.length c4) left L []) ∧ Hid (∀ t, t < i → ¬ Way (lnsOf gs) t t) ∧ Hid (Below w.heap.size w wr)) (fun i _ => k - (intOf i).toNat)
            case atStart => exact ⟨0, by omega, rfl, HM, Lib.hid (fun t ht => by omega), HB⟩
            case round =>
              clear HM HB
              obtain ⟨i, hi, rfl, HM, HN, HB⟩ := hrel
              by_cases hlt : i < k
              · obtain ⟨x, hx⟩ : ∃ x, left[i]? = some x := ⟨_, List.getElem?_eq_getElem (by rw [HLL.out]; exact hlt)⟩
                obtain ⟨d1, _, _⟩ := HM.out.metP hx
                have HX := Lib.hid hx
                have hi0 : (0 : Int) ≤ (i : Int) := by omega
                have hik : (i : Int) < (k : Int) := by omega
                have hext : ∀ h : ¬ Way (lnsOf gs) i i, ∀ t, t < i + 1 → ¬ Way (lnsOf gs) t t := fun h t ht => by
                  rcases Nat.lt_or_ge t i with h1 | h1
                  · exact HN.out t h1
                  · rw [show t = i by omega]; exact h
                have HE := Lib.hid hext
                clear hx hext
                cases x
                · have HNn := Lib.hid (HE.out (HNW.out i hlt HX.out))
                  clear HE
                  go_wp2
                  go_roundw
                  case rel => exact ⟨i + 1, by omega, by go_num, HM, HNn, HB⟩
                  case measure => simp [intOf]; omega
                · have hcall : Calls Tryd.prog 56 #[.slice A k c, .slice (some ⟨w.heap.size, 0, none⟩) k k, .int .i64 i] wr fun e w' => ∃ b : Bool, e = .returned (.bool b) ∧ (b = true ↔ Way (lnsOf gs) i i) ∧ Below wr.heap.size wr w' := comes_any A k c gs _ k left i wr (HR.out.below HB.out) HL.out HI.out hmax HM.out.reads.1 HLL.out hlt HLEFT.out
                  go_upto_region 18 with (go_at_call 56; with_reducible refine hcall.mono ?_; rintro e W5 ⟨b, rfl, hb, hB5⟩)
                  have HBI := Lib.hid hb
                  have HM5 := Lib.hid (HM.out.below hB5)
                  have HB5 := Lib.hid (below_then HB.out HB.out.size hB5)
                  clear hb hB5 hcall HM HB d1
                  cases b
                  · have HNn := Lib.hid (HE.out (fun h => by have := HBI.out.2 h; cases this))
                    clear HE
                    go_wp2
                    go_roundw
                    case rel => exact ⟨i + 1, by omega, by go_num, HM5, HNn, HB5⟩
                    case measure => simp [intOf]; omega
                  · have HW := Lib.hid (HBI.out.1 rfl)
                    clear HE
                    go_wp2
                    go_ret
                    exact ⟨i, rfl, .inr ⟨i, hlt, rfl, HW.out, HN.out⟩, HB5.out⟩
              · exfalso
                obtain ⟨t, ht, hw⟩ := HCirc.out
                exact HN.out t (by omega) hw
end Go.Proofs.YtjkmoahnociaiaaDoor
