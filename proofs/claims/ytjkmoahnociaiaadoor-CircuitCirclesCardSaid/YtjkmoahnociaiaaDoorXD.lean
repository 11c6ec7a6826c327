/- add of the document's known names. -/
import Derived.Test.YtjkmoahnociaiaaDoorXB
import Derived.Test.YtjkmoahnociaiaaDoorG4
import Derived.Maps.Own
import Derived.Maps.Views
namespace Go.Proofs.YtjkmoahnociaiaaDoor
open Go.RowKit

theorem info_string : (Tryd.prog.info? 9).map (fun i => (i.zero, i.size, i.bytes)) = some (some (.string ByteArray.empty), 1, 16) := by kernel_rfl
theorem size_string : (Tryd.prog.info? 9).map (·.size) = some 1 := by kernel_rfl
theorem size_int : (Tryd.prog.info? 3).map (·.size) = some 1 := by kernel_rfl
theorem strs_one {l : List ByteArray} : ∀ v ∈ strs l, v.oneCell' = true := fun v hv => by
  simp only [strs, List.mem_map] at hv
  obtain ⟨x, _, rfl⟩ := hv
  rfl
theorem nums_one {k : IntKind} {l : List Int} : ∀ v ∈ nums k l, v.oneCell' = true := fun v hv => by
  simp only [nums, List.mem_map] at hv
  obtain ⟨x, _, rfl⟩ := hv
  rfl
/-- What a shift and a store leave. -/
theorem shift_set {α : Type} (l : List α) (z s : α) {i : Nat} (hi : i ≤ l.length) : ((l ++ [z]).take (i + 1) ++ ((l ++ [z]).drop i).take (l.length - i)).set i s = l.take i ++ s :: l.drop i := by
  have h1 : ((l ++ [z]).drop i).take (l.length - i) = l.drop i := by
    rw [List.drop_append_of_le_length hi, List.take_append_of_le_length (by simp), List.take_of_length_le (by simp)]
  have h2 : ∃ x, (l ++ [z]).take (i + 1) = l.take i ++ [x] := by
    rw [List.take_add_one, List.take_append_of_le_length hi]
    obtain ⟨x, hx⟩ : ∃ x, (l ++ [z])[i]? = some x := ⟨_, List.getElem?_eq_getElem (by simp; omega)⟩
    exact ⟨x, by rw [hx]; rfl⟩
  obtain ⟨x, hx⟩ := h2
  rw [h1, hx, List.append_assoc, List.set_append_right _ _ (by simp; omega)]
  simp [Nat.min_eq_left hi]
theorem Owns.some_ {w : World} {base n c : Nat} {e : TypeId} {A : Option Addr} {xs : List Value} (h : Owns w base e (.slice A n c) xs) (hn : 0 < n) : ∃ g, A = some ⟨g, 0, none⟩ ∧ base ≤ g ∧ g < w.heap.size ∧ n ≤ c := by
  rcases h.2 with ⟨hv, h0⟩ | ⟨g, cap, cur, hv, hb, hh, hnc, _⟩
  · cases hv; omega
  · cases hv
    exact ⟨g, rfl, hb, (h.lt (g := g) rfl).2, hnc⟩
/-- What add leaves. -/
def AddR (w : World) (base kb : Nat) (vN vP : Value) (l : List (ByteArray × Int)) (s : ByteArray) (x : Int) (e : Ending) (w' : World) : Prop :=
  e = .returned (.tuple #[]) ∧ ∃ vN' vP' l', KMem w' base kb vN' vP' l' ∧ (∀ a, a ∈ l' ↔ a = (s, x) ∨ a ∈ l) ∧ l'.length = l.length + 1 ∧ Tur w w' (kb :: (vN.ownBlock.toList ++ vP.ownBlock.toList))
section
variable {w w' : World} {base kb : Nat} {vN vP : Value} {l : List (ByteArray × Int)}
set_option maxRecDepth 100000 in
set_option maxHeartbeats 4000000 in
theorem add_any (s : ByteArray) (x : Int) (h : KMem w base kb vN vP l) (hl : l.length ≤ 4000000) (hbase : base ≤ w.heap.size) (hn : ∀ a ∈ l, a.1 ≠ s) :
    Calls Tryd.prog 35 #[.pointer (some ⟨kb, 0, none⟩), .string s, .int .i64 x] w (AddR w base kb vN vP l s x) := by
  have hcall : Calls Tryd.prog 54 #[.pointer (some ⟨kb, 0, none⟩), .string s] w fun e w' => ∃ k : Nat, e = .returned (.int .i64 k) ∧ Spot l s k ∧ w = w' := find_any s h (by omega)
  have HK := Lib.hid h
  have HN := Lib.hid hn
  have b0 : w.cell? ⟨kb, 0, none⟩ = some vN := (h.b.cell 0).trans rfl
  obtain ⟨m, hm⟩ : ∃ m, l.length = m := ⟨_, rfl⟩
  have HMM := Lib.hid hm
  have hmb : m ≤ 4000000 := by omega
  have H1 := Lib.hid (h.below (below1 w (.cells [Value.string ⟨#[]⟩].toArray 9)))
  have hn1 := Lib.hid H1.out.n
  have hnl : (strs (l.map Prod.fst)).length + 1 ≤ 4000001 := by simp [strs]; omega
  clear h hn hm hl
  go_enter Tryd.func35, Tryd.ntmps35
  go_upto_region 1 with (go_at_call 54; with_reducible refine hcall.mono ?_; rintro e w2 ⟨k, rfl, hsp, rfl⟩)
  have HSP := Lib.hid hsp
  have hkm : k ≤ m := by have := hsp.le; have := HMM.out; omega
  clear hsp hcall
  have HT1 : Hid (Tur w (w.alloc (.cells [Value.string ⟨#[]⟩].toArray 9)) (kb :: (vN.ownBlock.toList ++ vP.ownBlock.toList))) := Lib.hid ((Tur.refl _ _).alloc _)
  have hsz1 : base ≤ (w.alloc (.cells [Value.string ⟨#[]⟩].toArray 9)).heap.size := by simp; omega
  have HK1 := Lib.hid HK.out.b.lt
  go_upto_region 2 with (at_builtin; refine wpList_push2 rfl _ _ 54 rfl base 9 _ 16 Tryd.underlying54 info_string rfl vN (strs (l.map Prod.fst)) rfl hn1.out ⟨w.heap.size, 0, none⟩ (.string ⟨#[]⟩) rfl (by simp [go_sem]) rfl (by unfold maxLen; omega) (by omega) hsz1 ?_; intro v5 w5 hown5 hg5 hn5; obtain ⟨A5, cap5, hv5⟩ := hown5.form; rw [List.length_append, List.length_singleton, show (strs (l.map Prod.fst)).length = m by have := HMM.out; simp [strs]; omega] at hv5; subst hv5; have hb5 := H1.out.b.asideR hn1.out (by decide) hg5; have e5 := (hb5.cell 0).trans rfl; have z5 := hb5.frozen 0)
  obtain ⟨g5, rfl, hgb5, hgl5, hc5⟩ := hown5.some_ (by omega)
  have gs5 := only_setCell (only_refl w5 (some kb)) (p := ⟨kb, 0, none⟩) (.inl rfl) (.slice (some ⟨g5, 0, none⟩) (m + 1) cap5)
  have HB6 : Hid (Blk (w5.setCell ⟨kb, 0, none⟩ (.slice (some ⟨g5, 0, none⟩) (m + 1) cap5)) kb 70 [.slice (some ⟨g5, 0, none⟩) (m + 1) cap5, vP]) := Lib.hid (hb5.set_ 0 _)
  have HN6 := Lib.hid (hown5.aside hb5.typed (by decide) gs5)
  have HP6 := Lib.hid ((H1.out.p.asideR hn1.out (by decide) hg5).aside hb5.typed (by decide) gs5)
  have HT6 := Lib.hid ((HT1.out.trans (Tur.ofRow hg5 (fun g hg => by simp [hg]))).set_ (p := ⟨kb, 0, none⟩) (by simp) (.slice (some ⟨g5, 0, none⟩) (m + 1) cap5))
  have HG5 : Hid (g5 ∈ kb :: (vN.ownBlock.toList ++ vP.ownBlock.toList) ∨ w.heap.size ≤ g5) := Lib.hid (by
    rcases hn5 with h1 | h1
    · have h2 : vN.ownBlock = some g5 := by rw [← h1]; rfl
      exact .inl (by simp [h2])
    · have h2 : some g5 = some _ := h1
      have := Option.some.inj h2
      exact .inr (by rw [this]; simp))
  clear HT1 hown5 hg5 hn5 hb5 e5 z5 gs5 H1 hn1 hsz1 b0 hgl5
  generalize w5.setCell ⟨kb, 0, none⟩ (.slice (some ⟨g5, 0, none⟩) (m + 1) cap5) = W6 at *
  have hsz6 : base ≤ W6.heap.size := by have := HT6.out.size; omega
  have b1 : W6.cell? ⟨kb, 1, none⟩ = some vP := (HB6.out.cell 1).trans rfl
  have HB7 := Lib.hid (HB6.out.alloc (.cells [Value.int .i64 0].toArray 3))
  have HN7 := Lib.hid (HN6.out.below (below1 W6 (.cells [Value.int .i64 0].toArray 3)))
  have HP7 := Lib.hid (HP6.out.below (below1 W6 (.cells [Value.int .i64 0].toArray 3)))
  have HT7 := Lib.hid (HT6.out.alloc (.cells [Value.int .i64 0].toArray 3))
  have hnp : (nums .i64 (l.map Prod.snd)).length + 1 ≤ 4000001 := by have := HMM.out; simp [nums]; omega
  go_upto_region 3 with (at_builtin; refine wpList_push2 rfl _ _ 23 rfl base 3 _ 8 Tryd.underlying23 info_int rfl vP (nums .i64 (l.map Prod.snd)) rfl HP7.out ⟨W6.heap.size, 0, none⟩ (.int .i64 0) rfl (by simp [go_sem]) rfl (by unfold maxLen; omega) (by omega) (by simp; omega) ?_; intro v8 w8 hown8 hg8 hn8; obtain ⟨A8, cap8, hv8⟩ := hown8.form; rw [List.length_append, List.length_singleton, show (nums .i64 (l.map Prod.snd)).length = m by have := HMM.out; simp [nums]; omega] at hv8; subst hv8; have hb8 := HB7.out.asideR HP7.out (by decide) hg8; have e8 := (hb8.cell 1).trans rfl; have z8 := hb8.frozen 1)
  obtain ⟨g8, rfl, hgb8, hgl8, hc8⟩ := hown8.some_ (by omega)
  have gs8 := only_setCell (only_refl w8 (some kb)) (p := ⟨kb, 1, none⟩) (.inl rfl) (.slice (some ⟨g8, 0, none⟩) (m + 1) cap8)
  have HB9 : Hid (Blk (w8.setCell ⟨kb, 1, none⟩ (.slice (some ⟨g8, 0, none⟩) (m + 1) cap8)) kb 70 [.slice (some ⟨g5, 0, none⟩) (m + 1) cap5, .slice (some ⟨g8, 0, none⟩) (m + 1) cap8]) := Lib.hid (hb8.set_ 1 _)
  have HP9 := Lib.hid (hown8.aside hb8.typed (by decide) gs8)
  have HN9 := Lib.hid ((HN7.out.asideR HP7.out (by decide) hg8).aside hb8.typed (by decide) gs8)
  have HT9 := Lib.hid ((HT7.out.trans (Tur.ofRow hg8 (fun g hg => by simp [hg]))).set_ (p := ⟨kb, 1, none⟩) (by simp) (.slice (some ⟨g8, 0, none⟩) (m + 1) cap8))
  have HG8 : Hid (g8 ∈ kb :: (vN.ownBlock.toList ++ vP.ownBlock.toList) ∨ w.heap.size ≤ g8) := Lib.hid (by
    rcases hn8 with h1 | h1
    · have h2 : vP.ownBlock = some g8 := by rw [← h1]; rfl
      exact .inl (by simp [h2])
    · have h2 : some g8 = some _ := h1
      have := Option.some.inj h2
      have h3 := HT6.out.size
      exact .inr (by rw [this]; simp; omega))
  clear hown8 hg8 hn8 hb8 e8 z8 gs8 HB7 HN7 HP7 HT7 HB6 HN6 HP6 HT6 b1 hgl8
  generalize w8.setCell ⟨kb, 1, none⟩ (.slice (some ⟨g8, 0, none⟩) (m + 1) cap8) = W9 at *
  have b0 : W9.cell? ⟨kb, 0, none⟩ = some (.slice (some ⟨g5, 0, none⟩) (m + 1) cap5) := (HB9.out.cell 0).trans rfl
  have hk0 : (0 : Int) ≤ (k : Int) := by omega
  have hk1 : (k : Int) ≤ (m : Int) + 1 := by omega
  have hk2 : (0 : Int) ≤ (k : Int) + 1 := by omega
  have hk3 : (k : Int) + 1 ≤ (m : Int) + 1 := by omega
  have hck : ¬ cap5 = k := by omega
  have hck8 : ¬ cap8 = k := by omega
  have hkw : IntKind.i64.wrap ((k : Int) + 1) = (k : Int) + 1 := by rw [IntKind.wrap_i64]; omega
  have hkt : ((k : Int) + 1).toNat = k + 1 := by omega
  obtain ⟨D, hD⟩ : ∃ D : Option Addr, (if cap5 = k + 1 then some ⟨g5, 0, none⟩ else some ⟨g5, k + 1, none⟩) = D := ⟨_, rfl⟩
  have HD : Hid (k < m → D = some ⟨g5, k + 1, none⟩) := Lib.hid (fun h => by rw [← hD, if_neg (by omega)])
  have HD5 := HD
  have HO1 : Hid (∀ v ∈ strs (l.map Prod.fst) ++ [Value.string ⟨#[]⟩], v.oneCell' = true) := Lib.hid (fun v hv => by
    rcases List.mem_append.1 hv with hv | hv
    · exact strs_one v hv
    · simp at hv; subst hv; rfl)
  go_cut [] (fun wx => Hid (Owns wx base 9 (.slice (some ⟨g5, 0, none⟩) (m + 1) cap5) ((strs (l.map Prod.fst) ++ [Value.string ⟨#[]⟩]).take (k + 1) ++ ((strs (l.map Prod.fst) ++ [Value.string ⟨#[]⟩]).drop k).take (m - k))) ∧ Hid (W9.grownBy wx (some g5)))
  case first =>
    go_region_law (refine step_shift rfl (.tmp 34) (.tmp 40) 54 rfl 9 Tryd.underlying54 size_string base g5 m cap5 k _ HN9.out hkm HO1.out D (some ⟨g5, k, none⟩) (cap5 - (k + 1)) (cap5 - k) (by simp [Act.eval, Act.put]) (by simp [Act.eval, Act.put]) HD.out (fun _ => rfl) ?_; intro w10 hN10 hg10)
    all_goals
      go_wp2_with fail
      go_meet
      exact ⟨hN10, Lib.hid ⟨hg10.os, hg10.tape, hg10.output, hg10.size, hg10.block⟩⟩
  obtain ⟨HN10, HG10⟩ := hcut
  have ht5 := HN9.out.typed (g := g5) rfl
  have HB10 := Lib.hid (HB9.out.aside ht5 (by decide) HG10.out)
  have HP10 := Lib.hid (HP9.out.aside ht5 (by decide) HG10.out)
  have HT10 := Lib.hid (HT9.out.transN (Tur.of HG10.out (bs := [g5]) (by simp)) (fun g hg => by simp at hg; rw [hg]; exact HG5.out))
  clear HB9 HP9 HN9 HT9 HG10 b0 hD HD HD5 HO1 ht5
  generalize wc = W10 at *
  have b1 : W10.cell? ⟨kb, 1, none⟩ = some (.slice (some ⟨g8, 0, none⟩) (m + 1) cap8) := (HB10.out.cell 1).trans rfl
  obtain ⟨D, hD⟩ : ∃ D : Option Addr, (if cap8 = k + 1 then some ⟨g8, 0, none⟩ else some ⟨g8, k + 1, none⟩) = D := ⟨_, rfl⟩
  have HD : Hid (k < m → D = some ⟨g8, k + 1, none⟩) := Lib.hid (fun h => by rw [← hD, if_neg (by omega)])
  have HO1 : Hid (∀ v ∈ nums .i64 (l.map Prod.snd) ++ [Value.int .i64 0], v.oneCell' = true) := Lib.hid (fun v hv => by
    rcases List.mem_append.1 hv with hv | hv
    · exact nums_one v hv
    · simp at hv; subst hv; rfl)
  go_upto_region 4 with (fail)
  go_cut [] (fun wx => Hid (Owns wx base 3 (.slice (some ⟨g8, 0, none⟩) (m + 1) cap8) ((nums .i64 (l.map Prod.snd) ++ [Value.int .i64 0]).take (k + 1) ++ ((nums .i64 (l.map Prod.snd) ++ [Value.int .i64 0]).drop k).take (m - k))) ∧ Hid (W10.grownBy wx (some g8)))
  case first =>
    go_region_law (refine step_shift rfl (.tmp 48) (.tmp 54) 23 rfl 3 Tryd.underlying23 size_int base g8 m cap8 k _ HP10.out hkm HO1.out D (some ⟨g8, k, none⟩) (cap8 - (k + 1)) (cap8 - k) (by simp [Act.eval, Act.put]) (by simp [Act.eval, Act.put]) HD.out (fun _ => rfl) ?_; intro w11 hP11 hg11)
    all_goals
      go_wp2_with fail
      go_meet
      exact ⟨hP11, Lib.hid ⟨hg11.os, hg11.tape, hg11.output, hg11.size, hg11.block⟩⟩
  obtain ⟨HP11, HG11⟩ := hcut
  have ht8 := HP10.out.typed (g := g8) rfl
  have HB11 := Lib.hid (HB10.out.aside ht8 (by decide) HG11.out)
  have HN11 := Lib.hid (HN10.out.aside ht8 (by decide) HG11.out)
  have HT11 := Lib.hid (HT10.out.transN (Tur.of HG11.out (bs := [g8]) (by simp)) (fun g hg => by simp at hg; rw [hg]; exact HG8.out))
  clear HB10 HP10 HN10 HT10 HG11 b1 hD HD HO1 ht8
  generalize wc = W11 at *
  -- the stores
  have hnl2 : (strs (l.map Prod.fst)).length = m := by have := HMM.out; simp [strs]; omega
  have hpl2 : (nums .i64 (l.map Prod.snd)).length = m := by have := HMM.out; simp [nums]; omega
  obtain ⟨u0, hu0⟩ : ∃ u0, ((strs (l.map Prod.fst) ++ [Value.string ⟨#[]⟩]).take (k + 1) ++ ((strs (l.map Prod.fst) ++ [Value.string ⟨#[]⟩]).drop k).take (m - k))[k]? = some u0 := ⟨_, List.getElem?_eq_getElem (by simp [hnl2]; omega)⟩
  obtain ⟨_, e, d5, z5, hset5⟩ := HN11.out.set1 hu0
  cases e
  have HN12 := Lib.hid (hset5 (.string s))
  have gs12 := only_setCell (only_refl W11 (some g5)) (p := ⟨g5, k, none⟩) (.inl rfl) (.string s)
  have ht5 := HN11.out.typed (g := g5) rfl
  have HB12 := Lib.hid (HB11.out.aside ht5 (by decide) gs12)
  have HP12 := Lib.hid (HP11.out.aside ht5 (by decide) gs12)
  have HT12 := Lib.hid (HT11.out.transN (Tur.of gs12 (bs := [g5]) (by simp)) (fun g hg => by simp at hg; rw [hg]; exact HG5.out))
  have b0 : W11.cell? ⟨kb, 0, none⟩ = some (.slice (some ⟨g5, 0, none⟩) (m + 1) cap5) := (HB11.out.cell 0).trans rfl
  have hkm' : (k : Int) < (m : Int) + 1 := by omega
  clear hset5 gs12 ht5 hu0 HB11 HN11 HP11 HT11
  have HNL := Lib.hid hnl2
  have HPL := Lib.hid hpl2
  clear hnl2 hpl2 hkw hkt
  go_upto_region 6 with (fail)
  generalize W11.setCell ⟨g5, k, none⟩ (.string s) = W12 at *
  clear b0 d5 z5
  obtain ⟨u1, hu1⟩ : ∃ u1, ((nums .i64 (l.map Prod.snd) ++ [Value.int .i64 0]).take (k + 1) ++ ((nums .i64 (l.map Prod.snd) ++ [Value.int .i64 0]).drop k).take (m - k))[k]? = some u1 := ⟨_, List.getElem?_eq_getElem (by simp [HPL.out]; omega)⟩
  obtain ⟨_, e, d8, z8, hset8⟩ := HP12.out.set1 hu1
  cases e
  have HP13 := Lib.hid (hset8 (.int .i64 x))
  have gs13 := only_setCell (only_refl W12 (some g8)) (p := ⟨g8, k, none⟩) (.inl rfl) (.int .i64 x)
  have ht8 := HP12.out.typed (g := g8) rfl
  have HB13 := Lib.hid (HB12.out.aside ht8 (by decide) gs13)
  have HN13 := Lib.hid (HN12.out.aside ht8 (by decide) gs13)
  have HT13 := Lib.hid (HT12.out.transN (Tur.of gs13 (bs := [g8]) (by simp)) (fun g hg => by simp at hg; rw [hg]; exact HG8.out))
  have b1 : W12.cell? ⟨kb, 1, none⟩ = some (.slice (some ⟨g8, 0, none⟩) (m + 1) cap8) := (HB12.out.cell 1).trans rfl
  clear hset8 gs13 ht8 hu1 HB12 HN12 HP12 HT12
  go_wp2
  go_end0
  have hmk : k ≤ l.length := by rw [HMM.out]; exact hkm
  have e1 : ((strs (l.map Prod.fst) ++ [Value.string ⟨#[]⟩]).take (k + 1) ++ ((strs (l.map Prod.fst) ++ [Value.string ⟨#[]⟩]).drop k).take (m - k)).set k (.string s) = strs ((l.take k ++ (s, x) :: l.drop k).map Prod.fst) := by
    rw [← HNL.out, shift_set _ _ _ (by rw [HNL.out]; exact hkm)]
    simp [strs, List.map_take, List.map_drop]
  have e2 : ((nums .i64 (l.map Prod.snd) ++ [Value.int .i64 0]).take (k + 1) ++ ((nums .i64 (l.map Prod.snd) ++ [Value.int .i64 0]).drop k).take (m - k)).set k (.int .i64 x) = nums .i64 ((l.take k ++ (s, x) :: l.drop k).map Prod.snd) := by
    rw [← HPL.out, shift_set _ _ _ (by rw [HPL.out]; exact hkm)]
    simp [nums, List.map_take, List.map_drop]
  rw [e1] at HN13
  rw [e2] at HP13
  exact ⟨rfl, _, _, _, ⟨HB13.out, HK.out.kb, HN13.out, HP13.out, Rising.insert HSP.out HK.out.r HN.out x⟩, fun a => insert_mem, by simp; omega, HT13.out⟩
end
end Go.Proofs.YtjkmoahnociaiaaDoor
/- Formed of circuit. -/
namespace Go.Proofs.YtjkmoahnociaiaaDoor
open Go.RowKit Go.WideMaps Go.Maps

/-- A map from texts to numbers that the call made, and what it answers. -/
def MapIs (w : World) (b n : Nat) (f : ByteArray → Int) : Prop :=
  ∃ D : DataW Unit, w.ownsMap Tryd.prog 9 (plainElem Tryd.prog 3) b n D ∧ IsMap D ∧ ∀ s : ByteArray, D.atKey (.string s.data.toList) (.lit (.int .i64 0)) = .lit (.int .i64 (f s))
theorem run_makeMapN {P : Program} {t k e : TypeId} (ht : P.underlying t = some (.map k e)) (q : IntKind) (n : Int) (w : World) : (Instr.makeMap t (some (.int q n))).run P w = .ok (.map (some w.heap.size)) (w.alloc (.map #[] 0)) := by
  simp [Instr.makeMap, run_underlying ht, asInt, go_sem]
theorem slaw : Keyed Tryd.prog 9 := string_keyed Tryd.underlying9
theorem zeroInt (w : World) : (zeroValue 3).run Tryd.prog w = .ok (.int .i64 0) w := by kernel_rfl
section
variable {w w' : World} {b n : Nat} {f : ByteArray → Int}
theorem MapIs.made (w : World) : MapIs (w.alloc (.map #[] 0)) w.heap.size 0 (fun _ => 0) := ⟨.map [], World.ownsMap_made _ _ _ _, isMap_empty, fun s => rfl⟩
theorem MapIs.kept {row : Option Nat} (h : MapIs w b n f) (hg : w.grownBy w' row) (hne : some b ≠ row) : MapIs w' b n f := by
  obtain ⟨D, h1, h2, h3⟩ := h
  exact ⟨D, h1.kept hg hne, h2, h3⟩
theorem MapIs.below (h : MapIs w b n f) (hb : Below w.heap.size w w') : MapIs w' b n f := h.kept (only_of_below hb none) (by simp)
theorem MapIs.lt (h : MapIs w b n f) : b < w.heap.size := by
  obtain ⟨D, h1, _⟩ := h
  exact h1.lt
theorem MapIs.look (h : MapIs w b n f) {s : ByteArray} (hs : s.size ≤ maxLen) : (Instr.lookup 65 (.map (some b)) (.string s) false).run Tryd.prog w = .ok (.int .i64 (f s)) w := by
  obtain ⟨D, h1, h2, h3⟩ := h
  obtain ⟨c, hrun, hat, _⟩ := h1.lookup_int slaw Tryd.underlying65 Tryd.underlying3 (zeroInt _) (keyOf_string_mk Tryd.underlying9 hs)
  rw [h3 s] at hat
  have : f s = c := by simpa using hat
  rw [this]
  exact hrun
theorem MapIs.put {D : DataW Unit} (h2 : IsMap D) (h3 : ∀ s : ByteArray, D.atKey (.string s.data.toList) (.lit (.int .i64 0)) = .lit (.int .i64 (f s))) {s : ByteArray} {v : Int} (h : w.ownsMap Tryd.prog 9 (plainElem Tryd.prog 3) b n (D.put (.string s.data.toList) (.lit (.int .i64 v)))) :
    MapIs w b n (fun t => if t = s then v else f t) := by
  refine ⟨_, h, h2.put _ _, fun t => ?_⟩
  by_cases e : t = s
  · subst e
    dsimp only
    rw [if_pos rfl]
    exact atKey_put_same h2 (show WideAt.IsKeyLit (.string _) from trivial) _ _
  · dsimp only
    rw [if_neg e]
    rw [atKey_put_other (fun h => e (ByteArray.ext (Array.toList_inj.mp (by simpa using h))))]
    exact h3 t
end
theorem nd_snoc' {α : Type} {L : List α} {u : α} (h : L.Nodup) (hu : u ∉ L) : (L ++ [u]).Nodup := by
  rw [List.nodup_append]
  refine ⟨h, by simp, fun a ha b hb => ?_⟩
  simp at hb
  subst hb
  rintro rfl
  exact hu ha
/-- A circuit. -/
structure Ct where
  name : ByteArray
  gs : List Gt
  outs : List Int
def AllFree (gs : List Gt) : Prop := ∀ i, i < gs.length → Free (lnsOf gs) i
def LinesP (n : Nat) (gs : List Gt) : Prop := ∀ g ∈ gs, NameP g.name ∧ FieldsP g (n : Int)
def OutsP (n : Nat) (outs : List Int) : Prop := ∀ p ∈ outs, 0 ≤ p ∧ p < (n : Int)
structure FormedP (c : Ct) : Prop where
  name : NameP c.name
  gl : c.gs.length ≤ 65536
  ol : c.outs.length ≤ 65536
  lines : LinesP c.gs.length c.gs
  nd : (c.gs.map Gt.name).Nodup
  outs : OutsP c.gs.length c.outs
  free : AllFree c.gs
open Classical in
noncomputable def formedB (c : Ct) : Bool := decide (FormedP c)
theorem formedB_true {c : Ct} (h : FormedP c) : formedB c = true := by simp [formedB, h]
theorem formedB_false {c : Ct} (h : ¬ FormedP c) : formedB c = false := by simp [formedB, h]
/-- Texts are no longer than a text can be. -/
structure SizeP (c : Ct) : Prop where
  name : c.name.size ≤ maxLen
  names : ∀ g ∈ c.gs, g.name.size ≤ maxLen
  gl : c.gs.length ≤ maxLen
  ol : c.outs.length ≤ maxLen
theorem LinesP.inR {gs : List Gt} (h : LinesP gs.length gs) : InR gs := by
  intro g hg p hp
  have hf := (h g hg).2
  unfold FieldsP PlaceP at hf
  unfold Gt.leans at hp
  split at hp
  · rename_i e
    simp at hp
    rcases hp with rfl | rfl <;> omega
  · split at hp
    · simp at hp
      rcases hp with rfl | rfl | rfl <;> omega
    · simp at hp
open Classical in
/-- How often a text stands among the first names. -/
noncomputable def cntN (gs : List Gt) (k : Nat) (s : ByteArray) : Int := ((gs.take k).countP (fun g => decide (g.name = s)) : Nat)
open Classical in
theorem cntN_step {gs : List Gt} {k : Nat} {g : Gt} (hg : gs[k]? = some g) : cntN gs (k + 1) = fun t => if t = g.name then cntN gs k g.name + 1 else cntN gs k t := by
  funext t
  unfold cntN
  rw [List.take_add_one, hg]
  simp only [Option.toList, List.countP_append, List.countP_cons, List.countP_nil]
  by_cases e : t = g.name
  · subst e; simp
  · have e' : ¬ g.name = t := fun h => e h.symm
    rw [if_neg e]
    simp [e']
theorem cntN_nn (gs : List Gt) (k : Nat) (s : ByteArray) : 0 ≤ cntN gs k s := by unfold cntN; omega
open Classical in
theorem cntN_zero {gs : List Gt} {k : Nat} {s : ByteArray} : cntN gs k s = 0 ↔ s ∉ (gs.take k).map Gt.name := by
  unfold cntN
  constructor
  · intro h hm
    obtain ⟨g, hg, e⟩ := List.mem_map.1 hm
    have h0 : (gs.take k).countP (fun g => decide (g.name = s)) = 0 := by omega
    rw [List.countP_eq_zero] at h0
    exact h0 g hg (by simp [e])
  · intro h
    have : (gs.take k).countP (fun g => decide (g.name = s)) = 0 := by
      rw [List.countP_eq_zero]
      intro g hg
      simp
      exact fun e => h (List.mem_map.2 ⟨g, hg, e⟩)
    omega
open Classical in
theorem cntN_le (gs : List Gt) (k : Nat) (s : ByteArray) : cntN gs k s ≤ (k : Int) := by
  unfold cntN
  have h1 := List.countP_le_length (l := gs.take k) (p := fun g => decide (g.name = s))
  have h2 : (gs.take k).length ≤ k := List.length_take_le _ _
  omega
theorem cntN_nodup {gs : List Gt} {k : Nat} {g : Gt} (hg : gs[k]? = some g) (h : ((gs.take k).map Gt.name).Nodup) : ((gs.take (k + 1)).map Gt.name).Nodup ↔ cntN gs (k + 1) g.name ≤ 1 := by
  have hc : cntN gs (k + 1) g.name = cntN gs k g.name + 1 := by rw [cntN_step hg]; simp
  rw [hc]
  have e : (gs.take (k + 1)).map Gt.name = (gs.take k).map Gt.name ++ [g.name] := by
    rw [List.take_add_one, hg]
    simp
  rw [e]
  have hz := cntN_zero (gs := gs) (k := k) (s := g.name)
  have hn := cntN_nn gs k g.name
  constructor
  · intro h1
    rw [List.nodup_append] at h1
    have : g.name ∉ (gs.take k).map Gt.name := fun hm => h1.2.2 _ hm _ (by simp) rfl
    rw [hz.2 this]
    omega
  · intro h1
    exact nd_snoc' h (hz.1 (by omega))
end Go.Proofs.YtjkmoahnociaiaaDoor
