/- Layers of the document: the walk. -/
import Derived.Test.YtjkmoahnociaiaaDoorX6
namespace Go.Proofs.YtjkmoahnociaiaaDoor
open Go.RowKit

set_option maxRecDepth 100000 in
set_option maxHeartbeats 4000000 in
theorem layers_any (A : Option Addr) (n c : Nat) (gs : List Gt) (w : World) (hr : CReads w A (gcells gs)) (hl : gs.length = n) (hin : InR gs) (hmax : n ≤ 65536) :
    Calls Tryd.prog 55 #[.slice A n c] w (OrderR w gs) := by
  have HR := Lib.hid hr; have HL := Lib.hid hl; have HI := Lib.hid hin
  have hm1 := run_makeRep (P := Tryd.prog) Tryd.underlying23 info_int rfl n (by omega) (by omega)
  have HM0 := Lib.hid (lmem_start w n (by unfold maxLen; omega))
  have HB0 := Lib.hid (below2 w (.cells (List.replicate n (Value.int .i64 0)).toArray 3) (.cells (List.replicate n (Value.int .i64 0)).toArray 3))
  clear hr hl hin
  go_enter Tryd.func55, Tryd.ntmps55
  go_upto_region 7 with (fail)
  change Code.wp _ _ _ _ ((w.alloc (.cells (List.replicate n (Value.int .i64 0)).toArray 3)).alloc (.cells (List.replicate n (Value.int .i64 0)).toArray 3))
  generalize (w.alloc (.cells (List.replicate n (Value.int .i64 0)).toArray 3)).alloc (.cells (List.replicate n (Value.int .i64 0)).toArray 3) = W2 at *
  clear hm1
  go_loopw [8] (fun i wr => ∃ (k : Nat) (fs : List Int), k ≤ n ∧ i = .int .i64 k ∧ Hid (LMem wr w.heap.size n (.slice none 0 0) (.slice none 0 0) (.slice none 0 0) (List.replicate n 0) fs [] [] []) ∧ Hid (fs = List.replicate k (-1) ++ List.replicate (n - k) 0) ∧ Hid (Below w.heap.size w wr)) (fun i _ => n - (intOf i).toNat)
  case atStart => exact ⟨0, _, by omega, rfl, HM0, Lib.hid (by simp), HB0⟩
  case round =>
    clear HM0 HB0
    obtain ⟨k, fs, hk, rfl, HM, HF, HB⟩ := hrel
    by_cases hlt : k < n
    · obtain ⟨x, hx⟩ : ∃ x, fs[k]? = some x := ⟨_, List.getElem?_eq_getElem (by rw [HF.out]; simp; omega)⟩
      obtain ⟨d1, z1, hset⟩ := HM.out.first hx
      have HS := Lib.hid (hset (-1))
      have HFn : Hid (fs.set k (-1) = List.replicate (k + 1) (-1) ++ List.replicate (n - (k + 1)) 0) := Lib.hid (by
        rw [HF.out, List.set_append_right _ _ (by simp)]
        simp only [List.length_replicate, Nat.sub_self]
        rw [show n - k = (n - (k + 1)) + 1 by omega, List.replicate_succ, List.set_cons_zero, List.replicate_succ']
        simp)
      have HBs := Lib.hid (HB.out.setCell (p := ⟨w.heap.size + 1, k, none⟩) (Nat.le_succ _) (.int .i64 (-1)))
      have hk0 : (0 : Int) ≤ (k : Int) := by omega
      have hkn : (k : Int) < (n : Int) := by omega
      clear hx hset HM HF HB
      go_wp2
      go_roundw
      case rel => exact ⟨k + 1, _, by omega, by go_num, HS, HFn, HBs⟩
      case measure => simp [intOf]; omega
    · obtain rfl : k = n := by omega
      have hfs := HF.out
      simp only [Nat.sub_self, List.replicate_zero, List.append_nil] at hfs
      subst hfs
      have HF0 : Hid (Fill2 gs (List.replicate k 0) (List.replicate k (-1)) [] [] (fun _ => []) [] 0 0 0) := Lib.hid (by
        have := Fill2.start (gs := gs) (ws := List.replicate k 0) (by rw [HL.out]; simp)
        rwa [HL.out] at this)
      clear hlt hk HF
      go_upto_region 11 with (fail)
      go_loopw [5, 6, 7, 9] (fun vn vu vo i wr => ∃ (a : Nat) (ws : List Nat) (fs nx : List Int) (user : List Nat) (us : Nat → List Nat) (L : List Nat), a ≤ k ∧ i = .int .i64 a ∧ Hid (LMem wr w.heap.size k vn vu vo ws fs nx user L) ∧ Hid (Fill2 gs ws fs nx user us L a a 0) ∧ Hid (Below w.heap.size w wr)) (fun _ _ _ i _ => k - (intOf i).toNat)
      case atStart => exact ⟨0, _, _, _, _, _, _, by omega, rfl, HM, HF0, HB⟩
      case round =>
        clear HM HF0 HB
        obtain ⟨a, ws, fs, nx, user, us, L, ha, rfl, HM, HF, HB⟩ := hrel
        by_cases hlt : a < k
        · obtain ⟨g, hg⟩ : ∃ g, gs[a]? = some g := ⟨_, List.getElem?_eq_getElem (by rw [HL.out]; exact hlt)⟩
          obtain ⟨ab, ao, rfl, hc⟩ := greads_at HR.out hg
          obtain ⟨c0, c1, c2, c3, c4, c5⟩ := hc.below HB.out
          have HG := Lib.hid hg
          have hcall : ∀ W, Calls Tryd.prog 69 #[.agg #[.int .i64 g.kind, .string g.name, .int .i64 g.op, .int .i64 g.a, .int .i64 g.b, .int .i64 g.c]] W fun e w' => e = .returned (.tuple #[.int .i64 g.leans.length, .agg (nums .i64 g.arr).toArray]) ∧ Below W.heap.size W w' := fun W => leans_ref g W
          obtain ⟨x0, x1, x2, harr⟩ : ∃ x0 x1 x2, g.arr = [x0, x1, x2] := by unfold Gt.arr; split; exact ⟨_, _, _, rfl⟩; split <;> exact ⟨_, _, _, rfl⟩
          rw [harr] at hcall
          have hm3 := leans_le g
          obtain ⟨m, hm⟩ : ∃ m, g.leans.length = m := ⟨_, rfl⟩
          rw [hm] at hcall hm3
          have HMM := Lib.hid hm
          have HARR := Lib.hid harr
          clear hg hc hm harr
          change ∀ W, Calls Tryd.prog 69 #[.agg #[.int .i64 g.kind, .string g.name, .int .i64 g.op, .int .i64 g.a, .int .i64 g.b, .int .i64 g.c]] W fun e w' => e = .returned (.tuple #[.int .i64 m, .agg #[.int .i64 x0, .int .i64 x1, .int .i64 x2]]) ∧ Below W.heap.size W w' at hcall
          go_upto_region 14 with (go_at_call 69; with_reducible refine (hcall _).mono ?_; rintro e W3 ⟨rfl, hB3⟩)
          have HO3 : Hid (Blk (W3.alloc (.cells #[.int .i64 x0, .int .i64 x1, .int .i64 x2] 116)) W3.heap.size 116 (nums .i64 g.arr)) := Lib.hid (by rw [HARR.out]; exact Blk.new W3 116 [.int .i64 x0, .int .i64 x1, .int .i64 x2])
          have HM3 := Lib.hid ((HM.out.below hB3).below (below1 W3 (.cells #[.int .i64 x0, .int .i64 x1, .int .i64 x2] 116)))
          have hb3 := below_then HB.out HB.out.size hB3
          have HB3 := Lib.hid (hb3.alloc hb3.size (.cells #[.int .i64 x0, .int .i64 x1, .int .i64 x2] 116))
          change Code.wp _ _ _ _ (W3.alloc (.cells #[.int .i64 x0, .int .i64 x1, .int .i64 x2] 116))
          generalize W3.alloc (.cells #[.int .i64 x0, .int .i64 x1, .int .i64 x2] 116) = W4 at *
          generalize W3.heap.size = ob at *
          clear hcall HM HB hB3 hb3 c0 c1 c2 c3 c4 c5 HARR
          obtain ⟨y, hy⟩ : ∃ y, ws[a]? = some y := ⟨_, List.getElem?_eq_getElem (by rw [HF.out.wl, HL.out]; exact hlt)⟩
          obtain ⟨d1, z1, hset⟩ := HM3.out.wait hy
          have HM5 := Lib.hid (hset m)
          have hF5 := HF.out.begin (by rw [HL.out]; exact hlt)
          rw [lns_length HG.out, HMM.out] at hF5
          have HF5 := Lib.hid hF5
          have hfar := HM3.out.far HO3.out.typed (by decide)
          have HO5 := Lib.hid (HO3.out.far (p := ⟨w.heap.size, a, none⟩) hfar.1 (.int .i64 (m : Int)))
          have HB5 := Lib.hid (HB3.out.setCell (p := ⟨w.heap.size, a, none⟩) (Nat.le_refl _) (.int .i64 (m : Int)))
          have ha0 : (0 : Int) ≤ (a : Int) := by omega
          have hak : (a : Int) < (k : Int) := by omega
          clear hy hset hF5 hfar HO3 HM3 HB3 HF
          go_upto_region 16 with (fail)
          generalize W4.setCell ⟨w.heap.size, a, none⟩ (.int .i64 (m : Int)) = W5 at *
          clear d1 z1
          go_loopw [5, 6, 12] (fun vn vu s12 wr => ∃ (j : Nat) (fs nx : List Int) (user : List Nat) (us : Nat → List Nat), j ≤ m ∧ s12 = .int .i64 j ∧ Hid (LMem wr w.heap.size k vn vu u7 (ws.set a m) fs nx user L) ∧ Hid (Fill2 gs (ws.set a m) fs nx user us L (a + 1) a j) ∧ Hid (Blk wr ob 116 (nums .i64 g.arr)) ∧ Hid (Below w.heap.size w wr)) (fun _ _ s12 _ => m - (intOf s12).toNat)
          case atStart => exact ⟨0, _, _, _, _, by omega, rfl, HM5, HF5, HO5, HB5⟩
          case round =>
            clear HM5 HF5 HO5 HB5
            obtain ⟨j, fs, nx, user, us, hj, rfl, HM, HF, HO, HB⟩ := hrel
            by_cases hjm : j < m
            · obtain ⟨p, hp1, hp2, hp3⟩ := HI.out.at_ HG.out (j := j) (by rw [HMM.out]; exact hjm)
              obtain ⟨x, hx⟩ : ∃ x, fs[p]? = some x := ⟨_, List.getElem?_eq_getElem (by rw [HF.out.fl]; exact hp3)⟩
              have e0 : wr.cell? ⟨ob, j, none⟩ = some (.int .i64 (p : Int)) := (HO.out.cell j).trans (by rw [nums_get, arr_at hp1]; rfl)
              obtain ⟨d1, _, _⟩ := HM.out.first hx
              have HFn := Lib.hid (HF.out.step hp2 hx)
              have HX := Lib.hid hx
              have HARP := Lib.hid (arr_at hp1)
              have hfar := HM.out.far HO.out.typed (by decide)
              have HFA1 := Lib.hid hfar.2.1
              have hp0 : (0 : Int) ≤ (p : Int) := by omega
              have hpk : (p : Int) < (k : Int) := by have := HL.out; omega
              have hj0 : (0 : Int) ≤ (j : Int) := by omega
              have hj3 : (j : Int) < 3 := by omega
              have hjm' : (j : Int) < (m : Int) := by omega
              have hul := HF.out.ul
              have hnl := HF.out.nl
              have HM2 := Lib.hid (HM.out.below (below1 wr (.cells [Value.int .i64 x].toArray 3)))
              have HB2 := Lib.hid (HB.out.alloc HB.out.size (.cells [Value.int .i64 x].toArray 3))
              have HO2 := Lib.hid (HO.out.alloc (.cells [Value.int .i64 x].toArray 3))
              have hN2 := Lib.hid HM2.out.nextO
              have hnl2 : (nums .i64 nx).length + 1 ≤ 400000 := by rw [nums_length]; omega
              clear hp1 hp2 hp3 hx hfar
              go_upto_region 19 with (at_builtin; refine wpList_push2 rfl _ _ 23 rfl w.heap.size 3 _ 8 Tryd.underlying23 info_int rfl u5 (nums .i64 nx) rfl hN2.out ⟨wr.heap.size, 0, none⟩ (.int .i64 x) rfl (by simp [go_sem]) rfl (by unfold maxLen; omega) (by omega) (by simp; have := HB.out.size; omega) ?_; intro v5 w5 hown5 hg5 hb5; have HM5 := Lib.hid (HM2.out.nextP hown5 hg5 hb5); have HB5 := Lib.hid (HB2.out.grown hg5 HB2.out.size (fun g hv => (hN2.out.lt hv).1)); have HO5 := Lib.hid (HO2.out.grown hg5 (HM2.out.far HO2.out.typed (by decide)).2.2.1); clear hown5 hg5 hb5)
              clear HM HB HO HM2 HB2 HO2 hN2 e0 d1
              have HM6 := Lib.hid (HM5.out.below (below1 w5 (.cells [Value.int .i64 (a : Int)].toArray 3)))
              have HB6 := Lib.hid (HB5.out.alloc HB5.out.size (.cells [Value.int .i64 (a : Int)].toArray 3))
              have HO6 := Lib.hid (HO5.out.alloc (.cells [Value.int .i64 (a : Int)].toArray 3))
              have hU6 := Lib.hid HM6.out.userO
              have hul2 : (ints user).length + 1 ≤ 400000 := by rw [ints_length]; omega
              go_upto_region 20 with (at_builtin; refine wpList_push2 rfl _ _ 23 rfl w.heap.size 3 _ 8 Tryd.underlying23 info_int rfl u6 (ints user) rfl hU6.out ⟨w5.heap.size, 0, none⟩ (.int .i64 (a : Int)) rfl (by simp [go_sem]) rfl (by unfold maxLen; omega) (by omega) (by simp; have := HB5.out.size; omega) ?_; intro v7 w7 hown7 hg7 hb7; obtain ⟨A7, cap7, hv7⟩ := hown7.form; rw [List.length_append, List.length_singleton, ints_length] at hv7; subst hv7; have HM7 := Lib.hid (HM6.out.userP hown7 hg7 hb7); have HB7 := Lib.hid (HB6.out.grown hg7 HB6.out.size (fun g hv => (hU6.out.lt hv).1)); have HO7 := Lib.hid (HO6.out.grown hg7 (HM6.out.far HO6.out.typed (by decide)).2.2.2.1); clear hown7 hg7 hb7)
              clear HM5 HB5 HO5 HM6 HB6 HO6 hU6
              have e0 : w7.cell? ⟨ob, j, none⟩ = some (.int .i64 (p : Int)) := (HO7.out.cell j).trans (by rw [nums_get, HARP.out]; rfl)
              obtain ⟨d1, z1, hset⟩ := HM7.out.first HX.out
              have HM8 := Lib.hid (hset (user.length : Int))
              have HO8 := Lib.hid (HO7.out.far (p := ⟨w.heap.size + 1, p, none⟩) HFA1.out (.int .i64 (user.length : Int)))
              have HB8 := Lib.hid (HB7.out.setCell (p := ⟨w.heap.size + 1, p, none⟩) (Nat.le_succ _) (.int .i64 (user.length : Int)))
              obtain ⟨ul, hull⟩ : ∃ ul, user.length = ul := ⟨_, rfl⟩
              rw [hull] at HFn HM8 HO8 HB8 ⊢
              have hulb : ul ≤ 3 * a + j := by omega
              clear hset HM7 HO7 HB7 hull hul hnl
              go_wp2
              go_roundw
              case rel => exact ⟨j + 1, _, _, _, _, by omega, by go_num, HM8, HFn, HO8, HB8⟩
              case measure => simp [intOf]; omega
            · obtain rfl : j = m := by omega
              have HFn := Lib.hid (HF.out.next (by rw [lns_length HG.out]; exact HMM.out))
              clear HF HO
              by_cases hj0 : j = 0
              · have e0 : ((j : Int) == 0) = true := by simp [hj0]
                rw [if_pos hj0] at HFn
                have hLl := HFn.out.len
                rw [List.length_append, List.length_singleton] at hLl
                clear hj0
                go_upto_region 22 with (fail)
                have HM2 := Lib.hid (HM.out.below (below1 wr (.cells [Value.int .i64 (a : Int)].toArray 3)))
                have HB2 := Lib.hid (HB.out.alloc HB.out.size (.cells [Value.int .i64 (a : Int)].toArray 3))
                have hO2 := Lib.hid HM2.out.outO
                have hul : (ints L).length + 1 ≤ 400000 := by rw [ints_length]; omega
                go_upto_region 12 with (at_builtin; refine wpList_push2 rfl _ _ 23 rfl w.heap.size 3 _ 8 Tryd.underlying23 info_int rfl u7 (ints L) rfl hO2.out ⟨wr.heap.size, 0, none⟩ (.int .i64 (a : Int)) rfl (by simp [go_sem]) rfl (by unfold maxLen; omega) (by omega) (by simp; have := HB.out.size; omega) ?_; intro v5 w5 hown5 hg5 hb5; have HM5 := Lib.hid (HM2.out.outP hown5 hg5 hb5); have HB5 := Lib.hid (HB2.out.grown hg5 HB2.out.size (fun g hv => (hO2.out.lt hv).1)); clear hown5 hg5 hb5)
                clear HM HB HM2 HB2 hO2
                go_wp2
                go_roundw
                case rel => exact ⟨a + 1, _, _, _, _, _, _, by omega, by go_num, HM5, HFn, HB5⟩
                case measure => simp [intOf]; omega
              · have e0 : ((j : Int) == 0) = false := by simp [hj0]
                rw [if_neg hj0] at HFn
                clear hj0
                go_wp2
                go_roundw
                case rel => exact ⟨a + 1, _, _, _, _, _, _, by omega, by go_num, HM, HFn, HB⟩
                case measure => simp [intOf]; omega
        · obtain rfl : a = k := by omega
          have hK := HF.out
          have hK2 : Fill2 gs ws fs nx user us L gs.length gs.length 0 := by rw [HL.out]; exact hK
          have HU := Lib.hid hK2.kahn.2
          have HK := Lib.hid hK2.kahn.1
          rw [HL.out] at HU HK
          have HCH := Lib.hid HF.out.ch
          have HFL : Hid (fs.length = a) := Lib.hid (by rw [HF.out.fl]; exact HL.out)
          have hul := HF.out.ul
          have hnl := HF.out.nl
          obtain ⟨An, cn, hvn⟩ := HM.out.nextO.form
          obtain ⟨Au, cu, hvu⟩ := HM.out.userO.form
          rw [nums_length] at hvn
          rw [ints_length] at hvu
          subst hvn hvu
          clear hK hK2 HF ha hlt
          have HNL := Lib.hid hnl
          go_upto_region 24 with (fail)
          go_loopw [7, 13] (fun vo i wr => ∃ (b : Nat) (ws : List Nat) (L : List Nat), b ≤ L.length ∧ L.length ≤ a ∧ i = .int .i64 b ∧ Hid (LMem wr w.heap.size a (.slice An nx.length cn) (.slice Au user.length cu) vo ws fs nx user L) ∧ Hid (Kahn a (lnsOf gs) us ws L b 0) ∧ Hid (Below w.heap.size w wr)) (fun _ i _ => a - (intOf i).toNat)
          case atStart => exact ⟨0, ws, L, by omega, HK.out.le, rfl, HM, HK, HB⟩
          case round =>
            clear HK HM HB
            obtain ⟨b, ws, L, hb, hLk, rfl, HM, HK, HB⟩ := hrel
            obtain ⟨A5, c5, hv5⟩ := HM.out.outO.form
            rw [ints_length] at hv5
            subst hv5
            by_cases hlt : b < L.length
            · obtain ⟨p, hp⟩ : ∃ p, L[b]? = some p := ⟨_, List.getElem?_eq_getElem hlt⟩
              have hpn := HK.out.lt p (List.mem_of_getElem? hp)
              obtain ⟨x, hx⟩ : ∃ x, fs[p]? = some x := ⟨_, List.getElem?_eq_getElem (by rw [HFL.out]; exact hpn)⟩
              have HCx := Lib.hid (HCH.out p x hx)
              obtain ⟨d1, _, _⟩ := HM.out.first hx
              obtain ⟨g5, rfl, d5⟩ := HM.out.outAt hp
              have HP := Lib.hid hp
              have hb0 : (0 : Int) ≤ (b : Int) := by omega
              have hbL : (b : Int) < (L.length : Int) := by omega
              have hp0 : (0 : Int) ≤ (p : Int) := by omega
              have hpk : (p : Int) < (a : Int) := by omega
              obtain ⟨q, hq⟩ : ∃ q, (us p).length = q := ⟨_, rfl⟩
              have HQ := Lib.hid hq
              clear hp hx hq
              go_upto_region 27 with (fail)
              clear d1 d5 hbL hb hlt
              go_loopg [7, 14] q (fun r vo s14 wr => ∃ (t : Nat) (e : Int) (ws : List Nat) (L : List Nat), t + r = q ∧ s14 = .int .i64 e ∧ L.length ≤ a ∧ Hid (Chain nx user e ((us p).drop t)) ∧ Hid (L[b]? = some p) ∧ Hid (LMem wr w.heap.size a (.slice An nx.length cn) (.slice Au user.length cu) vo ws fs nx user L) ∧ Hid (Kahn a (lnsOf gs) us ws L b t) ∧ Hid (Below w.heap.size w wr))
              case atStart => exact ⟨0, x, ws, L, by omega, rfl, hLk, HCx, HP, HM, HK, HB⟩
              case round =>
                clear HCx HP HM HK HB hLk
                obtain ⟨t, e, ws, L, htr, rfl, hLk, HC, HP, HM, HK, HB⟩ := hrel
                have HTR := Lib.hid htr
                by_cases htq : t < q
                · obtain ⟨v, hv⟩ : ∃ v, (us p)[t]? = some v := ⟨_, List.getElem?_eq_getElem (by rw [HQ.out]; exact htq)⟩
                  obtain ⟨k', x', rfl, hk1, hk2, hch⟩ := HC.out.uncons (b := 0) rfl (v := v) (by rw [List.getElem?_drop]; exact hv)
                  have HCn : Hid (Chain nx user x' ((us p).drop (t + 1))) := Lib.hid (by rw [List.drop_drop] at hch; exact hch)
                  have hvn : v < a := HU.out.mem hpn (List.mem_of_getElem? hv)
                  obtain ⟨y, hy⟩ : ∃ y, ws[v]? = some y := ⟨_, List.getElem?_eq_getElem (by rw [HK.out.wl]; exact hvn)⟩
                  have hin := HK.out.inner HU.out HP.out hv hy
                  have hy3 : y ≤ 3 := by
                    have h1 := HK.out.rem v y hy
                    have h2 := rest_le (L.take b) (lnsOf gs v)
                    have h3 := lnsOf_le gs v
                    omega
                  obtain ⟨z, rfl⟩ : ∃ z, y = z + 1 := ⟨y - 1, by omega⟩
                  have hku := (List.getElem?_eq_some_iff.1 hk2).1
                  obtain ⟨gn, hgn, dn⟩ := HM.out.nextAt hk1
                  obtain ⟨gu, hgu, du⟩ := HM.out.userAt hk2
                  subst hgn hgu
                  obtain ⟨d1, z1, hset⟩ := HM.out.wait hy
                  have HS := Lib.hid (hset z)
                  have HKn : Hid (Kahn a (lnsOf gs) us (ws.set v z) (if z + 1 = 1 then L ++ [v] else L) b (t + 1)) := Lib.hid hin.2
                  have HBs := Lib.hid (HB.out.setCell (p := ⟨w.heap.size, v, none⟩) (Nat.le_refl _) (.int .i64 (z : Int)))
                  have d1' : wr.cell? ⟨w.heap.size, v, none⟩ = some (.int .i64 ((z : Int) + 1)) := d1
                  have hk0 : (0 : Int) ≤ (k' : Int) := by omega
                  have hku' : (k' : Int) < (user.length : Int) := by omega
                  have hkn' : (k' : Int) < (nx.length : Int) := by have := HNL.out; omega
                  have hv0 : (0 : Int) ≤ (v : Int) := by omega
                  have hvk : (v : Int) < (a : Int) := by omega
                  have hz0 : (0 : Int) ≤ (z : Int) := by omega
                  have hz3 : (z : Int) ≤ 3 := by omega
                  have HK1 := Lib.hid hk1
                  have HK2 := Lib.hid hk2
                  clear hv hy hin hset HM HK HB d1 hy3 hk1 hk2 hch HC hnl
                  go_upto_region 30 with (fail)
                  generalize wr.setCell ⟨w.heap.size, v, none⟩ (.int .i64 (z : Int)) = W4 at *
                  clear dn du d1' z1
                  obtain ⟨d2, _, _⟩ := HS.out.wait (List.getElem?_set_self (by
                    have := HKn.out.wl
                    rw [List.length_set] at this
                    omega) : (ws.set v z)[v]? = some z)
                  obtain ⟨_, e, du⟩ := HS.out.userAt HK2.out
                  cases e
                  obtain ⟨_, e, dn⟩ := HS.out.nextAt HK1.out
                  cases e
                  by_cases hz : z = 0
                  · have e0 : ((z : Int) == 0) = true := by simp [hz]
                    rw [if_pos (by omega)] at HKn
                    have hLl := HKn.out.le
                    rw [List.length_append, List.length_singleton] at hLl
                    have HS2 := Lib.hid (HS.out.below (below1 W4 (.cells [Value.int .i64 (v : Int)].toArray 3)))
                    have HBs2 := Lib.hid (HBs.out.alloc HBs.out.size (.cells [Value.int .i64 (v : Int)].toArray 3))
                    have hO2 := Lib.hid HS2.out.outO
                    have hull : (ints L).length + 1 ≤ 400000 := by rw [ints_length]; omega
                    have HP2 : Hid ((L ++ [v])[b]? = some p) := Lib.hid (by rw [List.getElem?_append_left (List.getElem?_eq_some_iff.1 HP.out).1]; exact HP.out)
                    clear hz
                    go_upto_region 28 with (at_builtin; refine wpList_push2 rfl _ _ 23 rfl w.heap.size 3 _ 8 Tryd.underlying23 info_int rfl u7 (ints L) rfl hO2.out ⟨W4.heap.size, 0, none⟩ (.int .i64 (v : Int)) rfl (by simp [go_sem]) rfl (by unfold maxLen; omega) (by omega) (by simp; have := HBs.out.size; omega) ?_; intro v5 w5 hown5 hg5 hb5; have HM5 := Lib.hid (HS2.out.outP hown5 hg5 hb5); have HB5 := Lib.hid (HBs2.out.grown hg5 HBs2.out.size (fun g hv => (hO2.out.lt hv).1)); clear hown5 hg5 hb5)
                    clear HS HBs HS2 HBs2 hO2 d2 HP du dn
                    obtain ⟨_, e, dn⟩ := HM5.out.nextAt HK1.out
                    cases e
                    go_wp2
                    go_roundg (q - (t + 1))
                    case measure => have := HTR.out; omega
                    case rel => exact ⟨t + 1, x', _, _, by omega, rfl, by rw [List.length_append, List.length_singleton]; exact hLl, HCn, HP2, HM5, HKn, HB5⟩
                  · have e0 : ((z : Int) == 0) = false := by simp [hz]
                    rw [if_neg (by omega)] at HKn
                    clear hz
                    go_wp2
                    go_roundg (q - (t + 1))
                    case measure => have := HTR.out; omega
                    case rel => exact ⟨t + 1, x', _, _, by omega, rfl, hLk, HCn, HP, HS, HKn, HBs⟩
                · obtain rfl : t = q := by omega
                  have he := HC.out.end_ (List.drop_eq_nil_of_le (by rw [HQ.out]; exact Nat.le_refl _))
                  subst he
                  have HKn := Lib.hid (HK.out.next HU.out HP.out HQ.out.symm)
                  have haL : b + 1 ≤ L.length := (List.getElem?_eq_some_iff.1 HP.out).1
                  clear HK HC htr
                  go_wp2
                  go_roundw
                  case rel => exact ⟨b + 1, _, _, haL, hLk, by go_num, HM, HKn, HB⟩
                  case measure => simp [intOf]; omega
            · obtain rfl : b = L.length := by omega
              have HO : Hid (IsOrder gs.length (lnsOf gs) L) := Lib.hid (by rw [HL.out]; exact HK.out.order rfl)
              clear HK
              go_wp2
              go_ret
              exact ⟨_, L, rfl, HM.out.outO, HO.out, HB.out⟩
end Go.Proofs.YtjkmoahnociaiaaDoor
