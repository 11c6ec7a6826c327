/- order of circuit: the walk. -/
import Derived.Test.YtjkmoahnociaiaaDoorX4
namespace Go.Proofs.YtjkmoahnociaiaaDoor
open Go.RowKit

theorem Hold.nils {w : World} {base : Nat} {l : List RW} (h : Hold w base l) (e : TypeId) : ∀ n, Hold w base (l ++ List.replicate n (row1 e (.slice none 0 0) []))
  | 0 => by simpa using h
  | n + 1 => by
    rw [List.replicate_succ', ← List.append_assoc]
    exact (Hold.nils h e n).nilRow
/-- What order leaves. -/
def OrderR (w : World) (gs : List Gt) (e : Ending) (w' : World) : Prop :=
  ∃ v L, e = .returned v ∧ Owns w' w.heap.size 3 v (ints L) ∧ IsOrder gs.length (lnsOf gs) L ∧ Below w.heap.size w w'
def OMem (w : World) (base : Nat) (vw vu vl : Value) (ws : List Nat) (U : List (Value × List Nat)) (L : List Nat) (X : List RW) : Prop := Hold w base (orows vw vu vl ws U L X)
theorem Hold.front {w : World} {base : Nat} {l m : List RW} (h : Hold w base (l ++ m)) : Hold w base l := by
  have key : ∀ {i : Nat} {r : RW}, l[i]? = some r → (l ++ m)[i]? = some r := fun {i r} hi => by
    rw [List.getElem?_append_left (List.getElem?_eq_some_iff.1 hi).1]; exact hi
  exact ⟨fun i r hi => h.1 i r (key hi), fun i j r s hne hi hj => h.2 i j r s hne (key hi) (key hj)⟩
section
variable {w w' : World} {base n k : Nat} {vw vu vl : Value} {ws L : List Nat} {U : List (Value × List Nat)} {X : List RW}
theorem OMem.below (h : OMem w base vw vu vl ws U L X) (hb : Below w.heap.size w w') : OMem w' base vw vu vl ws U L X := Hold.below h hb
theorem OMem.drop (h : OMem w base vw vu vl ws U L X) : OMem w base vw vu vl ws U L [] := by
  have : orows vw vu vl ws U L X = orows vw vu vl ws U L [] ++ X := by rw [orows_add]; rfl
  unfold OMem at h
  rw [this] at h
  exact h.front
theorem OMem.new (h : OMem w base vw vu vl ws U L []) (hb : Below w.heap.size w w') (hB : base ≤ w.heap.size) {e : TypeId} {v : Value} {xs : List Value} (ho : Owns w' w.heap.size e v xs) : OMem w' base vw vu vl ws U L [row1 e v xs] := by
  have := Hold.new h hb hB (r := row1 e v xs) ho
  rw [orows_add] at this
  exact this
/-- A wait, read and set. -/
theorem OMem.wait (h : OMem w base (.slice (some ⟨base, 0, none⟩) n n) vu vl ws U L X) {i x : Nat} (hx : ws[i]? = some x) : w.cell? ⟨base, i, none⟩ = some (.int .i64 (x : Int)) ∧ w.frozen? ⟨base, i, none⟩ = false ∧
    ∀ y : Nat, OMem (w.setCell ⟨base, i, none⟩ (.int .i64 (y : Int))) base (.slice (some ⟨base, 0, none⟩) n n) vu vl (ws.set i y) U L X := by
  obtain ⟨g, e, _, _, h1, h2, h3⟩ := Hold.cell h (i := 0) rfl (ints_get hx)
  cases e
  refine ⟨h1, h2, fun y => ?_⟩
  have := h3 (.int .i64 (y : Int))
  rw [orows_setW] at this
  exact this
/-- A line's users, read. -/
theorem OMem.user (h : OMem w base vw (.slice (some ⟨base + 1, 0, none⟩) n n) vl ws U L X) {p : Nat} {u : Value × List Nat} (hu : U[p]? = some u) : w.cell? ⟨base + 1, p, none⟩ = some u.1 ∧ w.frozen? ⟨base + 1, p, none⟩ = false ∧ Owns w base 3 u.1 (ints u.2) := by
  obtain ⟨g, e, _, _, h1, h2, _⟩ := Hold.cell h (i := 1) rfl (j := p) (u := u.1) (by rw [List.getElem?_map, hu]; rfl)
  cases e
  exact ⟨h1, h2, Hold.owns h (orows_u hu)⟩
/-- A line's users, grown, and set. -/
theorem OMem.use (h : OMem w base vw (.slice (some ⟨base + 1, 0, none⟩) n n) vl ws U L X) {p : Nat} {u : Value × List Nat} (hu : U[p]? = some u) {v' : Value} (ho : Owns w' base 3 v' (ints u.2 ++ [.int .i64 (k : Int)])) (hg : w.grownBy w' u.1.ownBlock) (hn : v'.ownBlock = u.1.ownBlock ∨ v'.ownBlock = some w.heap.size) :
    w'.cell? ⟨base + 1, p, none⟩ = some u.1 ∧ w'.frozen? ⟨base + 1, p, none⟩ = false ∧ OMem (w'.setCell ⟨base + 1, p, none⟩ v') base vw (.slice (some ⟨base + 1, 0, none⟩) n n) vl ws (U.set p (v', u.2 ++ [k])) L X := by
  rw [ints_snoc] at ho
  have h1 := Hold.push h (orows_u hu) ho hg hn
  have hpl := (List.getElem?_eq_some_iff.1 hu).1
  obtain ⟨g, e, _, _, h2, h3, h4⟩ := Hold.cell h1 (i := 1) (e := 23) (A := some ⟨base + 1, 0, none⟩) (n := n) (c := n) (xs := U.map (·.1)) (by rw [List.getElem?_set_ne (by omega)]; rfl) (j := p) (u := u.1) (by rw [List.getElem?_map, hu]; rfl)
  cases e
  refine ⟨h2, h3, ?_⟩
  have h5 := h4 v'
  have e := orows_setU (vw := vw) (vu := .slice (some ⟨base + 1, 0, none⟩) n n) (vl := vl) (ws := ws) (L := L) (X := X) hpl (v', u.2 ++ [k])
  unfold urow at e
  rw [e] at h5
  exact h5
/-- A row beside, read. -/
theorem OMem.beside {A : Option Addr} {m c : Nat} {l : List Int} (h : OMem w base vw vu vl ws U L [row1 3 (.slice A m c) (nums .i64 l)]) {j : Nat} {x : Int} (hj : l[j]? = some x) : ∃ g, A = some ⟨g, 0, none⟩ ∧ w.cell? ⟨g, j, none⟩ = some (.int .i64 x) := by
  obtain ⟨g, e, _, _, h1, _, _⟩ := Hold.cell h (orows_x (p := 0) rfl) (j := j) (u := .int .i64 x) (by rw [nums_get, hj]; rfl)
  exact ⟨g, e, h1⟩
/-- The list, read. -/
theorem OMem.listAt {A : Option Addr} {m c : Nat} (h : OMem w base vw vu (.slice A m c) ws U L X) {j x : Nat} (hj : L[j]? = some x) : ∃ g, A = some ⟨g, 0, none⟩ ∧ w.cell? ⟨g, j, none⟩ = some (.int .i64 (x : Int)) := by
  obtain ⟨g, e, _, _, h1, _, _⟩ := Hold.cell h (i := 2) rfl (ints_get hj)
  exact ⟨g, e, h1⟩
theorem OMem.userAt {A : Option Addr} {m c : Nat} {ul : List Nat} (h : OMem w base vw vu vl ws U L X) {p : Nat} (hu : U[p]? = some (.slice A m c, ul)) {j x : Nat} (hj : ul[j]? = some x) : ∃ g, A = some ⟨g, 0, none⟩ ∧ w.cell? ⟨g, j, none⟩ = some (.int .i64 (x : Int)) := by
  obtain ⟨g, e, _, _, h1, _, _⟩ := Hold.cell h (orows_u hu) (ints_get hj)
  exact ⟨g, e, h1⟩
/-- The list, grown. -/
theorem OMem.list (h : OMem w base vw vu vl ws U L X) {vl' : Value} (ho : Owns w' base 3 vl' (ints L ++ [.int .i64 (k : Int)])) (hg : w.grownBy w' vl.ownBlock) (hn : vl'.ownBlock = vl.ownBlock ∨ vl'.ownBlock = some w.heap.size) : OMem w' base vw vu vl' ws U (L ++ [k]) X := by
  have := Hold.push h (i := 2) rfl ho hg hn
  rw [orows_setL] at this
  exact this
theorem OMem.owns (h : OMem w base vw vu vl ws U L X) : Owns w base 3 vl (ints L) := Hold.owns h (i := 2) rfl
end
theorem omem_start (w : World) (n : Nat) (hn : n ≤ maxLen) : OMem ((w.alloc (.cells (List.replicate n (Value.int .i64 0)).toArray 3)).alloc (.cells (List.replicate n (Value.slice none 0 0)).toArray 23)) w.heap.size
    (.slice (some ⟨w.heap.size, 0, none⟩) n n) (.slice (some ⟨w.heap.size + 1, 0, none⟩) n n) (.slice none 0 0) (List.replicate n 0) (List.replicate n (.slice none 0 0, [])) [] [] := by
  have h1 := (Hold.nil w w.heap.size).made (e := 3) (z := .int .i64 0) (Nat.le_refl _) hn
  have h2 := h1.made (e := 23) (z := .slice none 0 0) (by simp) hn
  have h3 := (h2.nilRow (e := 3)).nils 3 n
  unfold OMem orows
  rw [ints_rep]
  simpa [urow, ints, row1] using h3
theorem rest_le (P l : List Nat) : rest P l ≤ l.length := by unfold rest; exact List.countP_le_length
theorem lnsOf_le (gs : List Gt) (t : Nat) : (lnsOf gs t).length ≤ 3 := by
  unfold lnsOf
  rcases gs[t]? with _ | g
  · simp
  · simp [Gt.lns]; exact leans_le g
set_option maxRecDepth 100000 in
set_option maxHeartbeats 4000000 in
theorem order_any (A : Option Addr) (n c : Nat) (gs : List Gt) (w : World) (hr : CReads w A (gcells gs)) (hl : gs.length = n) (hin : InR gs) (hmax : n ≤ 65536) :
    Calls Tryd.prog 31 #[.slice A n c] w (OrderR w gs) := by
  have HR := Lib.hid hr; have HL := Lib.hid hl; have HI := Lib.hid hin
  have hm1 := run_makeRep (P := Tryd.prog) Tryd.underlying23 info_int rfl n (by omega) (by omega)
  have hm2 := run_makeRep (P := Tryd.prog) Tryd.underlying102 info_ints rfl n (by omega) (by omega)
  have HM0 := Lib.hid (omem_start w n (by unfold maxLen; omega))
  have HB0 := Lib.hid (below2 w (.cells (List.replicate n (Value.int .i64 0)).toArray 3) (.cells (List.replicate n (Value.slice none 0 0)).toArray 23))
  have HF0 : Hid (Fill1 gs (List.replicate n 0) (List.replicate n (.slice none 0 0, [])) [] 0 0) := Lib.hid (by rw [← hl]; exact Fill1.start)
  clear hr hl hin
  go_enter Tryd.func31, Tryd.ntmps31
  go_upto_region 5 with (fail)
  change Code.wp _ _ _ _ ((w.alloc (.cells (List.replicate n (Value.int .i64 0)).toArray 3)).alloc (.cells (List.replicate n (Value.slice none 0 0)).toArray 23))
  generalize (w.alloc (.cells (List.replicate n (Value.int .i64 0)).toArray 3)).alloc (.cells (List.replicate n (Value.slice none 0 0)).toArray 23) = W2 at *
  clear hm1 hm2
  go_loopw [5, 21] (fun vl i wr => ∃ (k : Nat) (ws : List Nat) (U : List (Value × List Nat)) (L : List Nat), k ≤ n ∧ i = .int .i64 k ∧ Hid (OMem wr w.heap.size (.slice (some ⟨w.heap.size, 0, none⟩) n n) (.slice (some ⟨w.heap.size + 1, 0, none⟩) n n) vl ws U L []) ∧ Hid (Fill1 gs ws U L k 0) ∧ Hid (Below w.heap.size w wr)) (fun _ i _ => n - (intOf i).toNat)
  case atStart => exact ⟨0, _, _, _, by omega, rfl, HM0, HF0, HB0⟩
  case round =>
    clear HM0 HF0 HB0
    obtain ⟨k, ws, U, L, hk, rfl, HM, HF, HB⟩ := hrel
    by_cases hlt : k < n
    · obtain ⟨g, hg⟩ : ∃ g, gs[k]? = some g := ⟨_, List.getElem?_eq_getElem (by rw [HL.out]; exact hlt)⟩
      obtain ⟨ab, ao, rfl, hc⟩ := greads_at HR.out hg
      obtain ⟨c0, c1, c2, c3, c4, c5⟩ := hc.below HB.out
      have HG := Lib.hid hg
      have hcall : ∀ W, Calls Tryd.prog 47 #[.agg #[.int .i64 g.kind, .string g.name, .int .i64 g.op, .int .i64 g.a, .int .i64 g.b, .int .i64 g.c]] W fun e w' => ∃ A c, e = .returned (.slice A g.leans.length c) ∧ Hid (Owns w' W.heap.size 3 (.slice A g.leans.length c) (nums .i64 g.leans)) ∧ Below W.heap.size W w' := fun W => leans_any g W
      clear hg hc
      have HM1 := Lib.hid (HM.out.below (below1 wr (.cells #[.int .i64 g.kind, .string g.name, .int .i64 g.op, .int .i64 g.a, .int .i64 g.b, .int .i64 g.c] 46)))
      have HB1 := Lib.hid (HB.out.alloc HB.out.size (.cells #[.int .i64 g.kind, .string g.name, .int .i64 g.op, .int .i64 g.a, .int .i64 g.b, .int .i64 g.c] 46))
      go_upto_region 8 with (go_at_call 47; with_reducible refine (hcall _).mono ?_; rintro e W3 ⟨A3, q3, rfl, hO3, hB3⟩)
      have HM3 := Lib.hid (HM1.out.new hB3 HB1.out.size hO3.out)
      have HB3 := Lib.hid (below_then HB1.out HB1.out.size hB3)
      have hm3 := leans_le g
      obtain ⟨m, hm⟩ : ∃ m, g.leans.length = m := ⟨_, rfl⟩
      rw [hm] at HM3 hm3 ⊢
      have HMM := Lib.hid hm
      clear hm hcall HM HB HM1 HB1 hO3 hB3 c0 c1 c2 c3 c4 c5
      go_loopw [29] (fun s29 wr => ∃ (j : Nat) (ws : List Nat) (U : List (Value × List Nat)), j ≤ m ∧ s29 = .int .i64 j ∧ Hid (OMem wr w.heap.size (.slice (some ⟨w.heap.size, 0, none⟩) n n) (.slice (some ⟨w.heap.size + 1, 0, none⟩) n n) u5 ws U L [row1 3 (.slice A3 m q3) (nums .i64 g.leans)]) ∧ Hid (Fill1 gs ws U L k j) ∧ Hid (Below w.heap.size w wr)) (fun s29 _ => m - (intOf s29).toNat)
      case atStart => exact ⟨0, ws, U, by omega, rfl, HM3, HF, HB3⟩
      case round =>
        clear HM3 HF HB3
        obtain ⟨j, ws, U, hj, rfl, HM, HF, HB⟩ := hrel
        by_cases hjm : j < m
        · obtain ⟨p, hp1, hp2, hp3⟩ := HI.out.at_ HG.out (j := j) (by rw [HMM.out]; exact hjm)
          obtain ⟨x, hx⟩ : ∃ x, ws[k]? = some x := ⟨_, List.getElem?_eq_getElem (by rw [HF.out.wl, HL.out]; exact hlt)⟩
          obtain ⟨u, hu⟩ : ∃ u, U[p]? = some u := ⟨_, List.getElem?_eq_getElem (by rw [HF.out.ul]; exact hp3)⟩
          have hxj : x = j := by have := HF.out.wv k x hx; rwa [if_neg (by omega), if_pos rfl] at this
          subst hxj
          obtain ⟨g3, rfl, d0⟩ := HM.out.beside hp1
          obtain ⟨d1, z1, hset⟩ := HM.out.wait hx
          have HS := Lib.hid (hset (x + 1))
          have hp0 : (0 : Int) ≤ (p : Int) := by omega
          have hpn : (p : Int) < (n : Int) := by have := HL.out; omega
          have hk0 : (0 : Int) ≤ (k : Int) := by omega
          have hkn : (k : Int) < (n : Int) := by omega
          have hj0 : (0 : Int) ≤ (x : Int) := by omega
          have hjm' : (x : Int) < (m : Int) := by omega
          have hum := HF.out.um p u hu
          have HF2 := Lib.hid (fun v' => HF.out.step hp2 hu v')
          have HBs := Lib.hid (HB.out.setCell (p := ⟨w.heap.size, k, none⟩) (Nat.le_refl _) (.int .i64 ((x + 1 : Nat) : Int)))
          have HU := Lib.hid hu
          clear hp1 hp2 hp3 hx hset hu HM HF HB
          go_upto_region 11 with (fail)
          change Code.wp _ _ _ _ (wr.setCell ⟨w.heap.size, k, none⟩ (.int .i64 ((x + 1 : Nat) : Int)))
          generalize wr.setCell ⟨w.heap.size, k, none⟩ (.int .i64 ((x + 1 : Nat) : Int)) = W4 at *
          clear d0 d1 z1
          obtain ⟨e1, z1, hO⟩ := HS.out.user HU.out
          have hO2 := Lib.hid (hO.below (below1 W4 (.cells [Value.int .i64 (k : Int)].toArray 3)))
          have HS2 := Lib.hid (HS.out.below (below1 W4 (.cells [Value.int .i64 (k : Int)].toArray 3)))
          have HBs2 := Lib.hid (HBs.out.alloc HBs.out.size (.cells [Value.int .i64 (k : Int)].toArray 3))
          have hul : (ints u.2).length + 1 ≤ 400000 := by rw [ints_length]; omega
          obtain ⟨uv, ul⟩ := u
          dsimp only at *
          clear hO
          go_upto_region 12 with (at_builtin; refine wpList_push2 rfl _ _ 23 rfl w.heap.size 3 _ 8 Tryd.underlying23 info_int rfl uv (ints ul) rfl hO2.out ⟨W4.heap.size, 0, none⟩ (.int .i64 (k : Int)) rfl (by simp [go_sem]) rfl (by unfold maxLen; omega) (by omega) (by simp; have := HBs.out.size; omega) ?_; intro v5 w5 hown5 hg5 hb5; obtain ⟨A5, cap5, hv5⟩ := hown5.form; rw [List.length_append, List.length_singleton] at hv5; subst hv5; have hu5 := HS2.out.use HU.out hown5 hg5 hb5; have e5 := hu5.1; have z5 := hu5.2.1; have HM5 := Lib.hid hu5.2.2; have HG5 := Lib.hid hg5; clear hu5 hown5 hg5 hb5)
          have HB5 := Lib.hid ((HBs2.out.grown HG5.out HBs2.out.size (fun g hv => (hO2.out.lt hv).1)).setCell (p := ⟨w.heap.size + 1, p, none⟩) (Nat.le_succ _) (.slice A5 ((ints ul).length + 1) cap5))
          have HF5 := Lib.hid (HF2.out (.slice A5 ((ints ul).length + 1) cap5))
          clear HF2 HS HBs HS2 HBs2 hO2 HG5
          go_wp2
          go_roundw
          case rel => exact ⟨x + 1, _, _, by omega, by go_num, HM5, HF5, HB5⟩
          case measure => simp [intOf]; omega
        · obtain rfl : j = m := by omega
          obtain ⟨x, hx⟩ : ∃ x, ws[k]? = some x := ⟨_, List.getElem?_eq_getElem (by rw [HF.out.wl, HL.out]; exact hlt)⟩
          have hxj : x = j := by have := HF.out.wv k x hx; rwa [if_neg (by omega), if_pos rfl] at this
          subst hxj
          obtain ⟨d1, z1, _⟩ := HM.out.wait hx
          have hk0 : (0 : Int) ≤ (k : Int) := by omega
          have hkn : (k : Int) < (n : Int) := by omega
          have HFn := Lib.hid (HF.out.next (by rw [lns_length HG.out]; exact HMM.out) hm3)
          have HMd := Lib.hid HM.out.drop
          clear hx HM HF
          by_cases hx0 : x = 0
          · have e0 : ((x : Int) == 0) = true := by simp [hx0]
            rw [if_pos hx0] at HFn
            have hLl := HFn.out.len
            rw [List.length_append] at hLl
            clear hx0
            go_upto_region 14 with (fail)
            have HM2 := Lib.hid (HMd.out.below (below1 wr (.cells [Value.int .i64 (k : Int)].toArray 3)))
            have HB2 := Lib.hid (HB.out.alloc HB.out.size (.cells [Value.int .i64 (k : Int)].toArray 3))
            have hO2 := Lib.hid HM2.out.owns
            have hul : (ints L).length + 1 ≤ 400000 := by rw [ints_length]; simp at hLl; omega
            go_upto_region 15 with (at_builtin; refine wpList_push2 rfl _ _ 23 rfl w.heap.size 3 _ 8 Tryd.underlying23 info_int rfl u5 (ints L) rfl hO2.out ⟨wr.heap.size, 0, none⟩ (.int .i64 (k : Int)) rfl (by simp [go_sem]) rfl (by unfold maxLen; omega) (by omega) (by simp; have := HB.out.size; omega) ?_; intro v5 w5 hown5 hg5 hb5; have HM5 := Lib.hid (HM2.out.list hown5 hg5 hb5); have HB5 := Lib.hid (HB2.out.grown hg5 HB2.out.size (fun g hv => (hO2.out.lt hv).1)); clear hown5 hg5 hb5)
            clear HMd HB HM2 HB2 hO2
            go_wp2
            go_roundw
            case rel => exact ⟨k + 1, _, _, _, by omega, by go_num, HM5, HFn, HB5⟩
            case measure => simp [intOf]; omega
          · have e0 : ((x : Int) == 0) = false := by simp [hx0]
            rw [if_neg hx0] at HFn
            clear hx0
            go_wp2
            go_roundw
            case rel => exact ⟨k + 1, _, _, _, by omega, by go_num, HMd, HFn, HB⟩
            case measure => simp [intOf]; omega
    · obtain rfl : k = n := by omega
      have hK := HF.out
      rw [← HL.out] at hK
      have HU := Lib.hid hK.kahn.2
      have HK := Lib.hid hK.kahn.1
      rw [HL.out] at HU HK
      have HUM := Lib.hid HF.out.um
      have HUL : Hid (U.length = k) := Lib.hid (by rw [HF.out.ul]; exact HL.out)
      clear hK HF hk hlt
      go_upto_region 17 with (fail)
      go_loopw [5, 10] (fun vl i wr => ∃ (a : Nat) (ws : List Nat) (L : List Nat), a ≤ L.length ∧ L.length ≤ k ∧ i = .int .i64 a ∧ Hid (OMem wr w.heap.size (.slice (some ⟨w.heap.size, 0, none⟩) k k) (.slice (some ⟨w.heap.size + 1, 0, none⟩) k k) vl ws U L []) ∧ Hid (Kahn k (lnsOf gs) (usOf U) ws L a 0) ∧ Hid (Below w.heap.size w wr)) (fun _ i _ => k - (intOf i).toNat)
      case atStart => exact ⟨0, ws, L, by omega, HK.out.le, rfl, HM, HK, HB⟩
      case round =>
        clear HK HM HB
        obtain ⟨a, ws, L, ha, hLk, rfl, HM, HK, HB⟩ := hrel
        obtain ⟨A5, c5, hv5⟩ := HM.out.owns.form
        rw [ints_length] at hv5
        subst hv5
        by_cases hlt : a < L.length
        · obtain ⟨p, hp⟩ : ∃ p, L[a]? = some p := ⟨_, List.getElem?_eq_getElem hlt⟩
          have hpn := HK.out.lt p (List.mem_of_getElem? hp)
          obtain ⟨⟨uv, ul⟩, hu⟩ : ∃ u, U[p]? = some u := ⟨_, List.getElem?_eq_getElem (by rw [HUL.out]; exact hpn)⟩
          have hus : usOf U p = ul := usOf_at hu
          obtain ⟨e1, _, hO⟩ := HM.out.user hu
          obtain ⟨Au, cu, hvu⟩ := hO.form
          rw [ints_length] at hvu
          dsimp only at hvu
          subst hvu
          obtain ⟨g5, rfl, d5⟩ := HM.out.listAt hp
          have HP := Lib.hid hp
          have HUU := Lib.hid hu
          have HUS := Lib.hid hus
          have ha0 : (0 : Int) ≤ (a : Int) := by omega
          have haL : (a : Int) < (L.length : Int) := by omega
          have hp0 : (0 : Int) ≤ (p : Int) := by omega
          have hpk : (p : Int) < (k : Int) := by omega
          dsimp only at e1
          obtain ⟨q, hq⟩ : ∃ q, ul.length = q := ⟨_, rfl⟩
          rw [hq] at e1 HUU
          have HQ := Lib.hid hq
          have hq3 : q ≤ 3 * k := by have := HUM.out p _ hu; dsimp only at this; omega
          clear hp hu hus hO hq
          go_upto_region 20 with (fail)
          go_loopw [5, 74] (fun vl i wr => ∃ (b : Nat) (ws : List Nat) (L : List Nat), b ≤ q ∧ L.length ≤ k ∧ i = .int .i64 b ∧ Hid (L[a]? = some p) ∧ Hid (OMem wr w.heap.size (.slice (some ⟨w.heap.size, 0, none⟩) k k) (.slice (some ⟨w.heap.size + 1, 0, none⟩) k k) vl ws U L []) ∧ Hid (Kahn k (lnsOf gs) (usOf U) ws L a b) ∧ Hid (Below w.heap.size w wr)) (fun _ i _ => q - (intOf i).toNat)
          case atStart => exact ⟨0, ws, L, by omega, hLk, rfl, HP, HM, HK, HB⟩
          case round =>
            clear HP HM HK HB e1 d5 hLk haL ha hlt
            obtain ⟨b, ws, L, hb, hLk, rfl, HP, HM, HK, HB⟩ := hrel
            by_cases hbq : b < q
            · obtain ⟨v, hv⟩ : ∃ v, ul[b]? = some v := ⟨_, List.getElem?_eq_getElem (by rw [HQ.out]; exact hbq)⟩
              have hvn : v < k := HU.out.mem hpn (by rw [HUS.out]; exact List.mem_of_getElem? hv)
              obtain ⟨x, hx⟩ : ∃ x, ws[v]? = some x := ⟨_, List.getElem?_eq_getElem (by rw [HK.out.wl]; exact hvn)⟩
              have hin := HK.out.inner HU.out HP.out (by rw [HUS.out]; exact hv) hx
              have hx3 : x ≤ 3 := by
                have h1 := HK.out.rem v x hx
                have h2 := rest_le (L.take a) (lnsOf gs v)
                have h3 := lnsOf_le gs v
                omega
              obtain ⟨y, rfl⟩ : ∃ y, x = y + 1 := ⟨x - 1, by omega⟩
              obtain ⟨gu, rfl, d0⟩ := HM.out.userAt HUU.out hv
              obtain ⟨d1, z1, hset⟩ := HM.out.wait hx
              have HS := Lib.hid (hset y)
              have HKn : Hid (Kahn k (lnsOf gs) (usOf U) (ws.set v y) (if y + 1 = 1 then L ++ [v] else L) a (b + 1)) := Lib.hid hin.2
              have HBs := Lib.hid (HB.out.setCell (p := ⟨w.heap.size, v, none⟩) (Nat.le_refl _) (.int .i64 (y : Int)))
              have d1' : wr.cell? ⟨w.heap.size, v, none⟩ = some (.int .i64 ((y : Int) + 1)) := d1
              have hb0 : (0 : Int) ≤ (b : Int) := by omega
              have hbq' : (b : Int) < (q : Int) := by omega
              have hv0 : (0 : Int) ≤ (v : Int) := by omega
              have hvk : (v : Int) < (k : Int) := by omega
              have hy0 : (0 : Int) ≤ (y : Int) := by omega
              have hy3 : (y : Int) ≤ 3 := by omega
              clear hv hx hin hset HM HK HB d1 hx3
              go_upto_region 23 with (fail)
              generalize wr.setCell ⟨w.heap.size, v, none⟩ (.int .i64 (y : Int)) = W4 at *
              clear d0 d1' z1
              obtain ⟨d2, _, _⟩ := HS.out.wait (List.getElem?_set_self (by
                have := HKn.out.wl
                rw [List.length_set] at this
                omega) : (ws.set v y)[v]? = some y)
              by_cases hy : y = 0
              · have e0 : ((y : Int) == 0) = true := by simp [hy]
                rw [if_pos (by omega)] at HKn
                have hLl := HKn.out.le
                rw [List.length_append, List.length_singleton] at hLl
                have HS2 := Lib.hid (HS.out.below (below1 W4 (.cells [Value.int .i64 (v : Int)].toArray 3)))
                have HBs2 := Lib.hid (HBs.out.alloc HBs.out.size (.cells [Value.int .i64 (v : Int)].toArray 3))
                have hO2 := Lib.hid HS2.out.owns
                have hul : (ints L).length + 1 ≤ 400000 := by rw [ints_length]; omega
                have HP2 : Hid ((L ++ [v])[a]? = some p) := Lib.hid (by rw [List.getElem?_append_left (List.getElem?_eq_some_iff.1 HP.out).1]; exact HP.out)
                clear hy
                go_upto_region 25 with (at_builtin; refine wpList_push2 rfl _ _ 23 rfl w.heap.size 3 _ 8 Tryd.underlying23 info_int rfl u5 (ints L) rfl hO2.out ⟨W4.heap.size, 0, none⟩ (.int .i64 (v : Int)) rfl (by simp [go_sem]) rfl (by unfold maxLen; omega) (by omega) (by simp; have := HBs.out.size; omega) ?_; intro v5 w5 hown5 hg5 hb5; have HM5 := Lib.hid (HS2.out.list hown5 hg5 hb5); have HB5 := Lib.hid (HBs2.out.grown hg5 HBs2.out.size (fun g hv => (hO2.out.lt hv).1)); clear hown5 hg5 hb5)
                clear HS HBs HS2 HBs2 hO2 d2 HP
                go_wp2
                go_roundw
                case rel => exact ⟨b + 1, _, _, by omega, by rw [List.length_append, List.length_singleton]; exact hLl, by go_num, HP2, HM5, HKn, HB5⟩
                case measure => simp [intOf]; omega
              · have e0 : ((y : Int) == 0) = false := by simp [hy]
                rw [if_neg (by omega)] at HKn
                clear hy
                go_wp2
                go_roundw
                case rel => exact ⟨b + 1, _, _, by omega, hLk, by go_num, HP, HS, HKn, HBs⟩
                case measure => simp [intOf]; omega
            · obtain rfl : b = q := by omega
              have HKn := Lib.hid (HK.out.next HU.out HP.out (by rw [HUS.out]; exact HQ.out.symm))
              have haL : a + 1 ≤ L.length := (List.getElem?_eq_some_iff.1 HP.out).1
              clear HK
              go_wp2
              go_roundw
              case rel => exact ⟨a + 1, _, _, haL, hLk, by go_num, HM, HKn, HB⟩
              case measure => simp [intOf]; omega
        · obtain rfl : a = L.length := by omega
          have HO : Hid (IsOrder gs.length (lnsOf gs) L) := Lib.hid (by rw [HL.out]; exact HK.out.order rfl)
          clear HK
          go_wp2
          go_ret
          exact ⟨_, L, rfl, HM.out.owns, HO.out, HB.out⟩
end Go.Proofs.YtjkmoahnociaiaaDoor
