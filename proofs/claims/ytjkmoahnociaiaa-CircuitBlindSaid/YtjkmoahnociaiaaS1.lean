/- Values of a circuit's lines. No program in sight. -/
import Derived.Test.YtjkmoahnociaiaaXD
import Derived.Test.YtjkmoahnociaiaaX8
import Derived.Test.YtjkmoahnociaiaaXE
namespace Go.Proofs.Ytjkmoahnociaiaa
open Go.RowKit

def bitI (b : Bool) : Nat := if b then 1 else 0
def opBit (op : Int) (k : Nat) : Bool := decide (op / 2 ^ k % 2 = 1)
/-- How many of the first k lines are of a kind. -/
def cntK (gs : List Gt) (kind : Int) (k : Nat) : Nat := (gs.take k).countP (fun g => decide (g.kind = kind))
theorem cntK_zero (gs : List Gt) (kind : Int) : cntK gs kind 0 = 0 := by simp [cntK]
theorem cntK_succ {gs : List Gt} {kind : Int} {k : Nat} {g : Gt} (hg : gs[k]? = some g) : cntK gs kind (k + 1) = cntK gs kind k + if g.kind = kind then 1 else 0 := by
  unfold cntK
  rw [List.take_add_one, hg]
  simp [List.countP_append, List.countP_cons]
theorem cntK_mono {gs : List Gt} {kind : Int} {j k : Nat} (h : j ≤ k) : cntK gs kind j ≤ cntK gs kind k := by
  unfold cntK
  rw [show gs.take j = (gs.take k).take j by rw [List.take_take, Nat.min_eq_left h]]
  exact (List.take_sublist j (gs.take k)).countP_le
theorem cntK_le (gs : List Gt) (kind : Int) (k : Nat) : cntK gs kind k ≤ k := by
  unfold cntK
  exact Nat.le_trans List.countP_le_length (by rw [List.length_take]; omega)
theorem cntK_lt {gs : List Gt} {kind : Int} {k n : Nat} {g : Gt} (hg : gs[k]? = some g) (hk : g.kind = kind) (hn : gs.length = n) : cntK gs kind k < cntK gs kind n := by
  have h1 := cntK_succ (kind := kind) hg
  rw [if_pos hk] at h1
  have h2 : cntK gs kind (k + 1) ≤ cntK gs kind n := cntK_mono (by have := (List.getElem?_eq_some_iff.1 hg).1; omega)
  omega
/-- What a line has before the gates are told. -/
def baseV (gs : List Gt) (ins las : List Bool) (i : Nat) (g : Gt) : Bool :=
  if g.kind = 1 then ins.getD (cntK gs 1 i) false else if g.kind = 3 then las.getD (cntK gs 3 i) false else false
/-- What a line has, told by the others. -/
def ruleV (gs : List Gt) (ins las : List Bool) (v : List Bool) (i : Nat) (g : Gt) : Bool :=
  if g.kind = 2 then opBit g.op (2 * bitI (v.getD g.a.toNat false) + bitI (v.getD g.b.toNat false))
  else if g.kind = 4 then (if v.getD g.a.toNat false then v.getD g.b.toNat false else v.getD g.c.toNat false)
  else baseV gs ins las i g
/-- Values of all lines. -/
structure Val (gs : List Gt) (ins las v : List Bool) : Prop where
  len : v.length = gs.length
  rule : ∀ (i : Nat) (g : Gt), gs[i]? = some g → v[i]? = some (ruleV gs ins las v i g)
section
variable {gs : List Gt} {ins las v v' : List Bool}
theorem getD_eq {l m : List Bool} {i : Nat} (h : l[i]? = m[i]?) : l.getD i false = m.getD i false := by
  rw [List.getD_eq_getElem?_getD, List.getD_eq_getElem?_getD, h]
theorem ruleV_same {i : Nat} {g : Gt} (h : ∀ p ∈ g.lns, v[p]? = v'[p]?) : ruleV gs ins las v i g = ruleV gs ins las v' i g := by
  unfold ruleV
  unfold Gt.lns Gt.leans at h
  split
  · rename_i e
    rw [if_pos e] at h
    rw [getD_eq (h g.a.toNat (by simp)), getD_eq (h g.b.toNat (by simp))]
  · rename_i e
    rw [if_neg e] at h
    split
    · rename_i e4
      rw [if_pos e4] at h
      rw [getD_eq (h g.a.toNat (by simp)), getD_eq (h g.b.toNat (by simp)), getD_eq (h g.c.toNat (by simp))]
    · rfl
/-- No circle: the values are told. -/
theorem Val.one (h : Val gs ins las v) (h' : Val gs ins las v') (hf : AllFree gs) (hr : InR gs) : v = v' := by
  have key : ∀ i, Free (lnsOf gs) i → i < gs.length → v[i]? = v'[i]? := by
    intro i hi
    induction hi with
    | intro i _ ih =>
      intro hlt
      obtain ⟨g, hg⟩ : ∃ g, gs[i]? = some g := ⟨_, List.getElem?_eq_getElem hlt⟩
      rw [h.rule i g hg, h'.rule i g hg]
      congr 1
      apply ruleV_same
      intro p hp
      rw [← lnsOf_at hg] at hp
      exact ih p hp (hr.lt i hlt p hp)
  apply List.ext_getElem?
  intro i
  by_cases hlt : i < gs.length
  · exact key i (hf i hlt) hlt
  · rw [List.getElem?_eq_none (by rw [h.len]; omega), List.getElem?_eq_none (by rw [h'.len]; omega)]
open Classical in
noncomputable def theV (gs : List Gt) (ins las : List Bool) : List Bool := if h : ∃ v, Val gs ins las v then h.choose else []
theorem Val.the (h : Val gs ins las v) (hf : AllFree gs) (hr : InR gs) : v = theV gs ins las := by
  have hex : ∃ v, Val gs ins las v := ⟨v, h⟩
  unfold theV
  rw [dif_pos hex]
  exact h.one hex.choose_spec hf hr
end
/-- The first k lines have what they have before the gates are told. -/
def base0 (gs : List Gt) (ins las : List Bool) (k : Nat) : List Bool := (List.range gs.length).map fun i => if i < k then ((gs[i]?).map (baseV gs ins las i)).getD false else false
section
variable {gs : List Gt} {ins las v L : List Bool}
theorem base0_length (k : Nat) : (base0 gs ins las k).length = gs.length := by simp [base0]
theorem base0_zero : base0 gs ins las 0 = List.replicate gs.length false := by
  apply List.ext_getElem (by simp [base0])
  intro i h1 h2
  simp [base0]
theorem base0_get {k i : Nat} (hi : i < gs.length) : (base0 gs ins las k)[i]? = some (if i < k then ((gs[i]?).map (baseV gs ins las i)).getD false else false) := by
  unfold base0
  rw [List.getElem?_map, List.getElem?_range hi]
  rfl
theorem base0_step {k : Nat} {g : Gt} (hg : gs[k]? = some g) : base0 gs ins las (k + 1) = (base0 gs ins las k).set k (baseV gs ins las k g) := by
  have hk := (List.getElem?_eq_some_iff.1 hg).1
  apply List.ext_getElem?
  intro i
  by_cases hi : i < gs.length
  · rw [base0_get hi, List.getElem?_set, base0_length]
    by_cases e : k = i
    · subst e
      rw [if_pos rfl, if_pos hi, if_pos (by omega), hg]
      rfl
    · rw [if_neg e, base0_get hi]
      congr 1
      by_cases h : i < k
      · rw [if_pos h, if_pos (by omega)]
      · rw [if_neg h, if_neg (by omega)]
  · rw [List.getElem?_eq_none (by rw [base0_length]; omega), List.getElem?_eq_none (by rw [List.length_set, base0_length]; omega)]
theorem base0_none {k : Nat} {g : Gt} (hg : gs[k]? = some g) (h1 : ¬ g.kind = 1) (h3 : ¬ g.kind = 3) : base0 gs ins las (k + 1) = base0 gs ins las k := by
  rw [base0_step hg]
  have hk := (List.getElem?_eq_some_iff.1 hg).1
  apply List.ext_getElem?
  intro i
  rw [List.getElem?_set, base0_length]
  split
  · rename_i e
    subst e
    rw [base0_get hk, if_neg (by omega)]
    unfold baseV
    rw [if_neg h1, if_neg h3]
  · rfl
end
/-- The lines of the order's first k have what the others tell. -/
structure ValK (gs : List Gt) (ins las v : List Bool) (L : List Nat) (k : Nat) : Prop where
  len : v.length = gs.length
  done : ∀ (i : Nat) (g : Gt), gs[i]? = some g → i ∈ L.take k → v[i]? = some (ruleV gs ins las v i g)
  rest : ∀ (i : Nat) (g : Gt), gs[i]? = some g → i ∉ L.take k → v[i]? = some (baseV gs ins las i g)
section
variable {gs : List Gt} {ins las v : List Bool} {L : List Nat}
theorem ValK.start : ValK gs ins las (base0 gs ins las gs.length) L 0 :=
  ⟨base0_length _, fun i g _ h => by simp at h, fun i g hg _ => by
    have hi := (List.getElem?_eq_some_iff.1 hg).1
    rw [base0_get hi, if_pos hi, hg]
    rfl⟩
theorem ValK.next {k at_ : Nat} {g : Gt} (h : ValK gs ins las v L k) (hL : IsOrder gs.length (lnsOf gs) L) (hk : L[k]? = some at_) (hg : gs[at_]? = some g) : ValK gs ins las (v.set at_ (ruleV gs ins las v at_ g)) L (k + 1) := by
  have hlt := (List.getElem?_eq_some_iff.1 hg).1
  have hkl := (List.getElem?_eq_some_iff.1 hk).1
  have hnot : at_ ∉ L.take k := by
    intro hm
    obtain ⟨j, hj⟩ := List.mem_iff_getElem?.1 hm
    rw [List.getElem?_take] at hj
    split at hj
    · rename_i hjk
      have h1 := (List.getElem?_eq_some_iff.1 hj)
      have h2 := (List.getElem?_eq_some_iff.1 hk)
      have := (List.getElem_inj (i := j) (j := k) (h₀ := h1.1) (h₁ := h2.1) hL.nd).1 (by rw [h1.2, h2.2])
      omega
    · cases hj
  have hsame : ∀ (i : Nat) (g' : Gt), gs[i]? = some g' → i ∈ L.take (k + 1) → ruleV gs ins las (v.set at_ (ruleV gs ins las v at_ g)) i g' = ruleV gs ins las v i g' := by
    intro i g' hg' hi
    apply ruleV_same
    intro p hp
    rw [← lnsOf_at hg'] at hp
    obtain ⟨j, hj⟩ := List.mem_iff_getElem?.1 hi
    rw [List.getElem?_take] at hj
    split at hj
    · rename_i hjk
      have h1 := hL.topo j i hj p hp
      have h2 : p ∈ L.take k := by
        rw [show L.take j = (L.take k).take j by rw [List.take_take, Nat.min_eq_left (by omega)]] at h1
        exact List.mem_of_mem_take h1
      rw [List.getElem?_set_ne (fun e => hnot (by rw [e]; exact h2))]
    · cases hj
  have htake : L.take (k + 1) = L.take k ++ [at_] := by rw [List.take_add_one, hk]; rfl
  refine ⟨by rw [List.length_set]; exact h.len, fun i g' hg' hi => ?_, fun i g' hg' hi => ?_⟩
  · rw [hsame i g' hg' hi]
    by_cases e : at_ = i
    · subst e
      rw [hg] at hg'
      cases hg'
      rw [List.getElem?_set_self (by rw [h.len]; exact hlt)]
    · rw [List.getElem?_set_ne e]
      refine h.done i g' hg' ?_
      rw [htake] at hi
      simp at hi
      rcases hi with hi | hi
      · exact hi
      · exact absurd hi.symm e
  · rw [htake] at hi
    simp at hi
    rw [List.getElem?_set_ne (fun e => hi.2 e.symm)]
    exact h.rest i g' hg' hi.1
theorem set_getElem {l : List Bool} {i : Nat} {x : Bool} (h : l[i]? = some x) : l.set i x = l := by
  apply List.ext_getElem?
  intro j
  rw [List.getElem?_set]
  split
  · rename_i e
    subst e
    rw [if_pos (List.getElem?_eq_some_iff.1 h).1, h]
  · rfl
theorem ValK.skip {k at_ : Nat} {g : Gt} (h : ValK gs ins las v L k) (hL : IsOrder gs.length (lnsOf gs) L) (hk : L[k]? = some at_) (hg : gs[at_]? = some g) (h2 : ¬ g.kind = 2) (h4 : ¬ g.kind = 4) : ValK gs ins las v L (k + 1) := by
  have h1 := h.next hL hk hg
  have hr : ruleV gs ins las v at_ g = baseV gs ins las at_ g := by unfold ruleV; rw [if_neg h2, if_neg h4]
  have hv : v[at_]? = some (ruleV gs ins las v at_ g) := by
    by_cases hm : at_ ∈ L.take k
    · exact h.done at_ g hg hm
    · rw [h.rest at_ g hg hm, hr]
  rwa [set_getElem hv] at h1
theorem ValK.fin (h : ValK gs ins las v L L.length) (hall : ∀ i, i < gs.length → i ∈ L) : Val gs ins las v :=
  ⟨h.len, fun i g hg => h.done i g hg (by rw [List.take_length]; exact hall i (List.getElem?_eq_some_iff.1 hg).1)⟩
theorem order_mem (hL : IsOrder gs.length (lnsOf gs) L) (hf : AllFree gs) (hr : InR gs) : ∀ i, i < gs.length → i ∈ L := fun i hi => (order_free hL hr.lt hi).2 (hf i hi)
end
/-- What goes out; the next values of the latches; their first ones. -/
noncomputable def outsL (c : Ct) (ins las : List Bool) : List Bool := c.outs.map fun p => (theV c.gs ins las).getD p.toNat false
noncomputable def nextL (c : Ct) (ins las : List Bool) : List Bool := (c.gs.filter fun g => decide (g.kind = 3)).map fun g => (theV c.gs ins las).getD g.a.toNat false
def firstL (c : Ct) : List Bool := (c.gs.filter fun g => decide (g.kind = 3)).map fun g => decide (g.op = 1)
open Classical in
noncomputable def stepCode (c : Ct) (ni nl : Nat) : Int := if FormedP c then if ni = cntK c.gs 1 c.gs.length ∧ nl = cntK c.gs 3 c.gs.length then 0 else 1 else 144
noncomputable def stepO (c : Ct) (ins las : List Bool) : List Bool := if stepCode c ins.length las.length = 0 then outsL c ins las else []
noncomputable def stepN (c : Ct) (ins las : List Bool) : List Bool := if stepCode c ins.length las.length = 0 then nextL c ins las else []
open Classical in
noncomputable def firstCode (c : Ct) : Int := if FormedP c then 0 else 144
open Classical in
noncomputable def firstO (c : Ct) : List Bool := if FormedP c then firstL c else []
end Go.Proofs.Ytjkmoahnociaiaa
/- many and Count: how many lines are of a kind. -/
namespace Go.Proofs.Ytjkmoahnociaiaa
open Go.RowKit

theorem cntK_no {gs : List Gt} {kind : Int} {k : Nat} {g : Gt} (hg : gs[k]? = some g) (h : ¬ g.kind = kind) : cntK gs kind (k + 1) = cntK gs kind k := by rw [cntK_succ hg, if_neg h]; omega
theorem cntK_yes {gs : List Gt} {kind : Int} {k : Nat} {g : Gt} (hg : gs[k]? = some g) (h : g.kind = kind) : cntK gs kind (k + 1) = cntK gs kind k + 1 := by rw [cntK_succ hg, if_pos h]
set_option maxHeartbeats 4000000 in
theorem many_any (gs : List Gt) (kind : Int) (name : ByteArray) (A B : Option Addr) (n m ca cb : Nat) (w : World) (hA : CReads w A (gcells gs)) (hn : gs.length = n) (hn1 : n ≤ 9223372036854775806) :
    Calls Try.prog 37 #[.agg #[.string name, .slice A n ca, .slice B m cb], .int .i64 kind] w fun e w' => e = .returned (.int .i64 (cntK gs kind n : Nat)) ∧ Below w.heap.size w w' := by
  have hbl := below1 w (.cells #[.string name, .slice A n ca, .slice B m cb] 25)
  have HX := Lib.hid (Blk.new w 25 [.string name, .slice A n ca, .slice B m cb])
  have HA := Lib.hid (hA.below hbl); have HN := Lib.hid hn; have HB0 := Lib.hid hbl
  clear hA hn hbl
  go_enter Try.func37, Try.ntmps37
  go_upto_region 3 with (fail)
  change Code.wp _ _ _ _ (w.alloc (.cells #[.string name, .slice A n ca, .slice B m cb] 25))
  have HBW := Lib.hid (Below.refl (w.alloc (.cells #[.string name, .slice A n ca, .slice B m cb] 25)).heap.size (w.alloc (.cells #[.string name, .slice A n ca, .slice B m cb] 25)))
  generalize w.alloc (.cells #[.string name, .slice A n ca, .slice B m cb] 25) = W1 at *
  obtain ⟨bx, hbx⟩ : ∃ bx, w.heap.size = bx := ⟨_, rfl⟩
  rw [hbx] at HX ⊢
  clear hbx
  go_loopw [5, 11] (fun s5 s11 wr => ∃ k c : Nat, k ≤ n ∧ c ≤ k ∧ s5 = .int .i64 c ∧ s11 = .int .i64 k ∧ Hid (cntK gs kind k = c) ∧ Hid (Below W1.heap.size W1 wr)) (fun _ i _ => n - (intOf i).toNat)
  case atStart => exact ⟨0, 0, by omega, by omega, rfl, rfl, Lib.hid (cntK_zero gs kind), HBW⟩
  case round =>
    clear HBW
    obtain ⟨k, c, hk, hck, rfl, rfl, HC, HB⟩ := hrel
    by_cases hlt : k < n
    · obtain ⟨g, hg⟩ : ∃ g, gs[k]? = some g := ⟨_, List.getElem?_eq_getElem (by rw [HN.out]; exact hlt)⟩
      obtain ⟨ab, ao, rfl, hc⟩ := greads_at HA.out hg
      obtain ⟨c0, c1, c2, c3, c4, c5⟩ := hc.below HB.out
      have HGG := Lib.hid hg
      obtain ⟨kd, nm, op, a, b, cx⟩ := g
      dsimp only at *
      have HB1 := Lib.hid (HB.out.alloc HB.out.size (.cells #[.int .i64 kd, .string nm, .int .i64 op, .int .i64 a, .int .i64 b, .int .i64 cx] 33))
      have hk0 : (0 : Int) ≤ (k : Int) := by omega
      have hkn : (k : Int) < (n : Int) := by omega
      clear hg hc
      by_cases he : kd = kind
      · subst he
        have HCn : Hid (cntK gs kd (k + 1) = c + 1) := Lib.hid (by rw [cntK_yes HGG.out rfl, HC.out])
        go_wp2
        go_roundw
        case rel => exact ⟨k + 1, c + 1, by omega, by omega, by go_num, by go_num, HCn, HB1⟩
        case measure => simp [intOf]; omega
      · have HCn : Hid (cntK gs kind (k + 1) = c) := Lib.hid (by rw [cntK_no HGG.out he, HC.out])
        go_wp2
        go_roundw
        case rel => exact ⟨k + 1, c, by omega, by omega, rfl, by go_num, HCn, HB1⟩
        case measure => simp [intOf]; omega
    · obtain rfl : k = n := by omega
      go_wp2
      go_ret
      exact ⟨by rw [HC.out]; rfl, below_then HB0.out HB0.out.size HB.out⟩
set_option maxHeartbeats 4000000 in
theorem count_ref (gs : List Gt) (kind : Int) (name : ByteArray) (A B : Option Addr) (n m ca cb : Nat) (w : World) (hA : CReads w A (gcells gs)) (hn : gs.length = n) (hn1 : n ≤ 9223372036854775806) :
    Calls Try.prog 40 #[.agg #[.string name, .slice A n ca, .slice B m cb], .int .i64 kind] w fun e w' => e = .returned (.int .i64 (cntK gs kind n : Nat)) ∧ Below w.heap.size w w' := by
  have hbl := below1 w (.cells #[.string name, .slice A n ca, .slice B m cb] 25)
  have HX := Lib.hid (Blk.new w 25 [.string name, .slice A n ca, .slice B m cb])
  have HA := Lib.hid (hA.below hbl); have HN := Lib.hid hn; have HB0 := Lib.hid hbl
  clear hA hn hbl
  go_enter Try.func40, Try.ntmps40
  go_upto_region 3 with (fail)
  change Code.wp _ _ _ _ (w.alloc (.cells #[.string name, .slice A n ca, .slice B m cb] 25))
  have HBW := Lib.hid (Below.refl (w.alloc (.cells #[.string name, .slice A n ca, .slice B m cb] 25)).heap.size (w.alloc (.cells #[.string name, .slice A n ca, .slice B m cb] 25)))
  generalize w.alloc (.cells #[.string name, .slice A n ca, .slice B m cb] 25) = W1 at *
  obtain ⟨bx, hbx⟩ : ∃ bx, w.heap.size = bx := ⟨_, rfl⟩
  rw [hbx] at HX ⊢
  have HBS := Lib.hid hbx
  clear hbx
  go_loopw [5, 6] (fun s5 s6 wr => ∃ k c : Nat, k ≤ n ∧ c ≤ k ∧ s5 = .int .i64 c ∧ s6 = .int .i64 k ∧ Hid (cntK gs kind k = c) ∧ Hid (Below W1.heap.size W1 wr)) (fun _ i _ => n - (intOf i).toNat)
  case atStart => exact ⟨0, 0, by omega, by omega, rfl, rfl, Lib.hid (cntK_zero gs kind), HBW⟩
  case round =>
    clear HBW
    obtain ⟨k, c, hk, hck, rfl, rfl, HC, HB⟩ := hrel
    have x1 : wr.cell? ⟨bx, 1, none⟩ = some (.slice A n ca) := ((HX.out.self HB.out).cell 1).trans rfl
    by_cases hlt : k < n
    · obtain ⟨g, hg⟩ : ∃ g, gs[k]? = some g := ⟨_, List.getElem?_eq_getElem (by rw [HN.out]; exact hlt)⟩
      obtain ⟨ab, ao, rfl, hc⟩ := greads_at HA.out hg
      obtain ⟨c0, c1, c2, c3, c4, c5⟩ := hc.below HB.out
      have HGG := Lib.hid hg
      obtain ⟨kd, nm, op, a, b, cx⟩ := g
      dsimp only at *
      have hk0 : (0 : Int) ≤ (k : Int) := by omega
      have hkn : (k : Int) < (n : Int) := by omega
      clear hg hc
      by_cases he : kd = kind
      · subst he
        have HCn : Hid (cntK gs kd (k + 1) = c + 1) := Lib.hid (by rw [cntK_yes HGG.out rfl, HC.out])
        go_wp2
        go_roundw
        case rel => exact ⟨k + 1, c + 1, by omega, by omega, by go_num, by go_num, HCn, HB⟩
        case measure => simp [intOf]; omega
      · have HCn : Hid (cntK gs kind (k + 1) = c) := Lib.hid (by rw [cntK_no HGG.out he, HC.out])
        go_wp2
        go_roundw
        case rel => exact ⟨k + 1, c, by omega, by omega, rfl, by go_num, HCn, HB⟩
        case measure => simp [intOf]; omega
    · obtain rfl : k = n := by omega
      go_wp2
      go_ret
      exact ⟨by rw [HC.out]; rfl, below_then HB0.out HB0.out.size HB.out⟩
end Go.Proofs.Ytjkmoahnociaiaa
