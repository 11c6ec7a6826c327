/- The plain law of a block: what is written is read back, what is read is what is written. -/
import Derived.Test.YtambpbgmmmiocaaDoorD2
namespace Go.Proofs.YtambpbgmmmiocaaDoor
open Go.RowKit

theorem unle_inj : ∀ a b : List Int, IsBytes a → IsBytes b → a.length = b.length → unle a = unle b → a = b
  | [], [], _, _, _, _ => rfl
  | [], _ :: _, _, _, h, _ => by simp at h
  | _ :: _, [], _, _, h, _ => by simp at h
  | x :: r, y :: s, ha, hb, hl, h => by
    have hx := ha x (by simp)
    have hy := hb y (by simp)
    simp only [unle] at h
    obtain rfl : x = y := by omega
    rw [unle_inj r s (fun z hz => ha z (by simp [hz])) (fun z hz => hb z (by simp [hz])) (by simpa using hl) (by omega)]
theorem emod_step (m n : Nat) : ((m : Int) % 256 ^ n) + (m : Int) / 2 ^ (8 * n) % 256 * 256 ^ n = (m : Int) % 256 ^ (n + 1) := by
  have h := Nat.mod_mul (x := m) (a := 256 ^ n) (b := 256)
  have e : (2 : Int) ^ (8 * n) = ((256 ^ n : Nat) : Int) := by
    rw [Int.natCast_pow, Int.pow_mul]; rfl
  have e2 : (256 : Int) ^ n = ((256 ^ n : Nat) : Int) := by rw [Int.natCast_pow]; rfl
  have e3 : (256 : Int) ^ (n + 1) = ((256 ^ n * 256 : Nat) : Int) := by rw [Int.pow_succ, e2, Int.natCast_mul]; rfl
  rw [e, e2, e3]
  generalize 256 ^ n = p at *
  have h2 : ((m % (p * 256) : Nat) : Int) = ((m % p + p * (m / p % 256) : Nat) : Int) := by rw [h]
  simp only [Int.natCast_emod, Int.natCast_add, Int.natCast_mul, Int.natCast_ediv] at h2
  rw [Int.natCast_mul, h2, Int.mul_comm (p : Int)]; rfl
theorem unle_le (v : Int) (hv : 0 ≤ v) : ∀ n, unle (le n v) = v % 256 ^ n
  | 0 => by simp [le, unle]
  | n + 1 => by
    obtain ⟨m, rfl⟩ : ∃ m : Nat, v = m := ⟨v.toNat, by omega⟩
    rw [le_snoc, unle_snoc, le_length, unle_le _ hv n, emod_step]
theorem unle_le_of {v : Int} {n : Nat} (hv : 0 ≤ v) (h : v < 256 ^ n) : unle (le n v) = v := by
  rw [unle_le v hv, Int.emod_eq_of_lt hv h]
theorem le_unle {l : List Int} {n : Nat} (h : IsBytes l) (hl : l.length = n) : le n (unle l) = l := by
  have hr := unle_range l h
  rw [hl] at hr
  exact unle_inj _ _ (le_bytes _ _) h (by rw [le_length, hl]) (unle_le_of hr.1 hr.2)

/-- A piece in the midst. -/
theorem mid_of {α : Type} {xs a b c : List α} {i m : Nat} (e : xs = a ++ b ++ c) (ha : a.length = i) (hb : b.length = m) : (xs.drop i).take m = b := by
  subst e ha hb
  rw [List.append_assoc, List.drop_left, List.take_left]
theorem zeros_length (n : Nat) : (zeros n).length = n := by simp [zeros]
theorem blank_zeros (n : Nat) : blankV (zeros n) = true := by
  unfold blankV
  rw [List.all_eq_true]
  intro x hx
  have := List.eq_of_mem_replicate hx
  simp [this]
theorem zeros_of_blank {l : List Int} (h : blankV l = true) : l = zeros l.length := by
  unfold blankV at h
  rw [List.all_eq_true] at h
  exact List.eq_replicate_of_mem fun x hx => by simpa using h x hx
theorem encWords_app (a b : List Int) : encWords (a ++ b) = encWords a ++ encWords b := by simp [encWords]

section
variable {kind place : Int} {ws : List Int} {n bn : Nat}
theorem encPre_length (hl : ws.length = 4 * n) (hr : 32 * n + 32 ≤ bn) : (encPre kind place ws n bn).length = bn - 4 := by
  unfold encPre
  rw [List.length_append, List.length_append, encHead_length, encWords_length, hl, zeros_length]
  omega
theorem encV_len (hl : ws.length = 4 * n) (hr : 32 * n + 32 ≤ bn) : (encV kind place ws n bn).length = bn := by
  unfold encV
  rw [List.length_append, encPre_length hl hr, le_length]
  omega
theorem encV_bytes (h0 : 1 ≤ kind) (h1 : kind ≤ 255) : IsBytes (encV kind place ws n bn) := (encPre_bytes h0 h1).app (le_bytes _ _)
theorem encV_sum (h0 : 1 ≤ kind) (h1 : kind ≤ 255) (hl : ws.length = 4 * n) (hr : 32 * n + 32 ≤ bn) :
    unle ((encV kind place ws n bn).drop (bn - 4)) = sumV ((encV kind place ws n bn).take (bn - 4)) := by
  have hs := sumV_range (encPre_bytes (place := place) (ws := ws) (n := n) (block := bn) h0 h1)
  have hp := encPre_length (kind := kind) (place := place) hl hr
  unfold encV
  rw [← hp, List.drop_left, List.take_left, unle_le_of hs.1 (by omega)]
/-- The pieces of a block. -/
theorem encV_form : encV kind place ws n bn = [83, 84, 82, 65, 1, kind] ++ le 2 n ++ le 8 place ++ zeros 12 ++ encWords ws ++ zeros (bn - 32 - 32 * n) ++ le 4 (sumV (encPre kind place ws n bn)) := rfl
theorem encV_num (hn : n ≤ 2047) : numV (encV kind place ws n bn) = n := by
  unfold numV
  rw [mid_of (a := [83, 84, 82, 65, 1, kind]) (b := le 2 n) (c := le 8 place ++ zeros 12 ++ encWords ws ++ zeros (bn - 32 - 32 * n) ++ le 4 (sumV (encPre kind place ws n bn))) (by rw [encV_form]; simp only [List.append_assoc]) (i := 6) rfl (le_length _ _)]
  exact unle_le_of (by omega) (by omega)
theorem encV_place (h0 : 0 ≤ place) (h1 : place ≤ 18446744073709551615) : unle (((encV kind place ws n bn).drop 8).take 8) = place := by
  rw [mid_of (a := [83, 84, 82, 65, 1, kind] ++ le 2 n) (b := le 8 place) (c := zeros 12 ++ encWords ws ++ zeros (bn - 32 - 32 * n) ++ le 4 (sumV (encPre kind place ws n bn))) (by rw [encV_form]; simp only [List.append_assoc]) (by rw [List.length_append, le_length]; rfl) (le_length _ _)]
  exact unle_le_of h0 (by omega)
theorem encV_at5 : (encV kind place ws n bn)[5]? = some kind := by
  rw [encV_form]; simp
theorem encV_head (h0 : 1 ≤ kind) (hl : ws.length = 4 * n) (hn1 : 1 ≤ n) (hn : n ≤ 2047) (hr : 32 * n + 32 ≤ bn) (hf : (n : Int) ≤ fitV bn) : headV (encV kind place ws n bn) = true := by
  have e1 : unle ((encV kind place ws n bn).take 4) = 1095914579 := by
    have : (encV kind place ws n bn).take 4 = [83, 84, 82, 65] := by rw [encV_form]; simp
    rw [this]; rfl
  have e2 : (encV kind place ws n bn)[4]? = some 1 := by rw [encV_form]; simp
  have e3 := encV_at5 (kind := kind) (place := place) (ws := ws) (n := n) (bn := bn)
  have e4 := encV_num (kind := kind) (place := place) (ws := ws) (bn := bn) hn
  have e5 := encV_len (kind := kind) (place := place) hl hr
  have e6 : ((encV kind place ws n bn).drop 16).take 12 = zeros 12 :=
    mid_of (a := [83, 84, 82, 65, 1, kind] ++ le 2 n ++ le 8 place) (c := encWords ws ++ zeros (bn - 32 - 32 * n) ++ le 4 (sumV (encPre kind place ws n bn))) (by rw [encV_form]; simp only [List.append_assoc]) (by rw [List.length_append, List.length_append, le_length, le_length]; rfl) (zeros_length _)
  have e7 : ((encV kind place ws n bn).drop (28 + 32 * n)).take (bn - 4 - (28 + 32 * n)) = zeros (bn - 32 - 32 * n) :=
    mid_of (a := encHead kind place n ++ encWords ws) (c := le 4 (sumV (encPre kind place ws n bn))) rfl (by rw [List.length_append, encHead_length, encWords_length, hl]; omega) (by rw [zeros_length]; omega)
  unfold headV
  rw [e1, e2, e3, e4, e5, Int.toNat_natCast, e6, e7, blank_zeros, blank_zeros]
  have k0 : kind ≠ 0 := by omega
  simp [k0, hf]
  omega
theorem encV_word (hl : ws.length = 4 * n) (hw : ∀ x ∈ ws, 0 ≤ x ∧ x ≤ 18446744073709551615) {j : Nat} {x : Int} (hx : ws[j]? = some x) : wordV (encV kind place ws n bn) j = x := by
  obtain ⟨hj, hxj⟩ := List.getElem?_eq_some_iff.1 hx
  have es : ws = ws.take j ++ [x] ++ ws.drop (j + 1) := by
    have h := List.take_append_drop j ws
    rw [List.drop_eq_getElem_cons hj, hxj] at h
    simpa using h.symm
  have ee : encWords ws = encWords (ws.take j) ++ le 8 x ++ encWords (ws.drop (j + 1)) := by
    conv => lhs; rw [es]
    rw [encWords_app, encWords_app]
    simp [encWords]
  have hr := hw x (List.mem_of_getElem? hx)
  unfold wordV
  rw [mid_of (a := encHead kind place n ++ encWords (ws.take j)) (b := le 8 x) (c := encWords (ws.drop (j + 1)) ++ zeros (bn - 32 - 32 * n) ++ le 4 (sumV (encPre kind place ws n bn))) (by
    have e0 : encV kind place ws n bn = encHead kind place n ++ encWords ws ++ zeros (bn - 32 - 32 * n) ++ le 4 (sumV (encPre kind place ws n bn)) := rfl
    rw [e0]
    generalize sumV (encPre kind place ws n bn) = sm
    rw [ee]
    simp only [List.append_assoc]) (by rw [List.length_append, encHead_length, encWords_length, List.length_take, Nat.min_eq_left (by omega)]) (le_length _ _)]
  exact unle_le_of hr.1 (by omega)
theorem encV_words (hl : ws.length = 4 * n) (hw : ∀ x ∈ ws, 0 ≤ x ∧ x ≤ 18446744073709551615) : wordsV (encV kind place ws n bn) (4 * n) = ws := by
  refine List.ext_getElem? fun j => ?_
  unfold wordsV
  rw [List.getElem?_map]
  rcases Nat.lt_or_ge j (4 * n) with h | h
  · rw [List.getElem?_range h]
    obtain ⟨x, hx⟩ : ∃ x, ws[j]? = some x := ⟨_, List.getElem?_eq_getElem (by omega)⟩
    rw [hx]
    exact congrArg some (encV_word hl hw hx)
  · rw [List.getElem?_eq_none (by simpa using h), List.getElem?_eq_none (by omega)]; rfl
end

theorem enc_zero {kind place : Int} {n : Nat} {block : Int} (h0 : 1 ≤ kind) (h1 : kind ≤ 255) (h2 : 0 ≤ place) (h3 : fitV block ≠ 0) (h4 : 1 ≤ n) (h5 : (n : Int) ≤ fitV block) : encE kind place n block = 0 := by
  unfold encE
  rw [if_neg (by omega), if_neg (by omega), if_neg (by omega), if_neg h3, if_neg (by omega), if_neg (by omega)]

/-- What is written is read back; of another kind or place it is refused. -/
theorem dec_enc {kind place other elsewhere : Int} {ws : List Int} {n bn : Nat} (he : encE kind place n bn = 0) (hp : place ≤ 18446744073709551615) (hl : ws.length = 4 * n) (hw : ∀ x ∈ ws, 0 ≤ x ∧ x ≤ 18446744073709551615)
    (ho : 1 ≤ other ∧ other ≤ 255) (hq : 0 ≤ elsewhere) :
    decE other elsewhere (encV kind place ws n bn) = (if other = kind ∧ elsewhere = place then 0 else 32) := by
  obtain ⟨k0, k1, p0, f0, n0, n1⟩ := enc_ok he
  obtain ⟨b0, b1, b2, b3⟩ := fit_pos f0
  have hr : 32 * n + 32 ≤ bn := by omega
  have hL := encV_len (kind := kind) (place := place) hl hr
  unfold decE
  rw [if_neg (by omega), if_neg (by omega), if_neg (by omega), hL, if_neg f0, if_neg (by simpa using encV_sum (place := place) k0 k1 hl hr), if_neg (by rw [encV_head k0 hl (by omega) (by omega) hr n1]; simp), encV_at5, encV_place p0 hp]
  by_cases h1 : other = kind
  · subst h1
    rw [if_neg (by simp)]
    by_cases h2 : elsewhere = place
    · subst h2; rw [if_neg (by simp), if_pos ⟨rfl, rfl⟩]
    · rw [if_pos (fun e => h2 e.symm), if_neg (fun e => h2 e.2)]
  · rw [if_pos (by simp; exact fun e => h1 e.symm), if_neg (fun e => h1 e.1)]
theorem decL_enc {kind place : Int} {ws : List Int} {n bn : Nat} (he : encE kind place n bn = 0) (hp : place ≤ 18446744073709551615) (hl : ws.length = 4 * n) (hw : ∀ x ∈ ws, 0 ≤ x ∧ x ≤ 18446744073709551615) :
    decE kind place (encV kind place ws n bn) = 0 ∧ decN kind place (encV kind place ws n bn) = n ∧ decL kind place (encV kind place ws n bn) = ws := by
  obtain ⟨k0, k1, p0, f0, n0, n1⟩ := enc_ok he
  obtain ⟨b0, b1, b2, b3⟩ := fit_pos f0
  have hd := dec_enc (other := kind) (elsewhere := place) he hp hl hw ⟨k0, k1⟩ p0
  rw [if_pos ⟨rfl, rfl⟩] at hd
  have hN : decN kind place (encV kind place ws n bn) = n := by
    unfold decN
    rw [if_pos hd, encV_num (by omega)]; rfl
  refine ⟨hd, hN, ?_⟩
  unfold decL
  rw [hN, encV_words hl hw]

theorem dec_ok {kind place : Int} {xs : List Int} (h : decE kind place xs = 0) : 1 ≤ kind ∧ kind ≤ 255 ∧ 0 ≤ place ∧ fitV xs.length ≠ 0 ∧ unle (xs.drop (xs.length - 4)) = sumV (xs.take (xs.length - 4)) ∧ headV xs = true ∧ xs[5]? = some kind ∧ unle ((xs.drop 8).take 8) = place := by
  unfold decE at h
  by_cases k1 : kind < 1
  · rw [if_pos k1] at h; cases h
  by_cases k2 : 255 < kind
  · rw [if_neg k1, if_pos k2] at h; cases h
  by_cases p1 : place < 0
  · rw [if_neg k1, if_neg k2, if_pos p1] at h; cases h
  by_cases f1 : fitV xs.length = 0
  · rw [if_neg k1, if_neg k2, if_neg p1, if_pos f1] at h; cases h
  rw [if_neg k1, if_neg k2, if_neg p1, if_neg f1] at h
  by_cases s1 : unle (xs.drop (xs.length - 4)) ≠ sumV (xs.take (xs.length - 4))
  · rw [if_pos s1] at h; cases h
  rw [if_neg s1] at h
  by_cases h1 : headV xs = false
  · rw [if_pos h1] at h; cases h
  rw [if_neg h1] at h
  by_cases h5 : xs[5]? ≠ some kind
  · rw [if_pos h5] at h; cases h
  rw [if_neg h5] at h
  by_cases h8 : unle ((xs.drop 8).take 8) ≠ place
  · rw [if_pos h8] at h; cases h
  exact ⟨by omega, by omega, by omega, f1, Classical.not_not.1 s1, by simpa using h1, Classical.not_not.1 h5, Classical.not_not.1 h8⟩
theorem words_back {xs : List Int} (hx : IsBytes xs) : ∀ m, 28 + 8 * m ≤ xs.length → encWords (wordsV xs m) = (xs.drop 28).take (8 * m)
  | 0, _ => by simp [wordsV, encWords]
  | m + 1, h => by
    rw [wordsV_succ, encWords_snoc, words_back hx m (by omega), show 8 * (m + 1) = 8 * m + 8 by omega, List.take_add, List.drop_drop]
    unfold wordV
    rw [le_unle (fun y hy => hx y (List.mem_of_mem_drop (List.mem_of_mem_take hy))) (by rw [List.length_take, List.length_drop]; omega)]
/-- What is read is what is written. -/
theorem enc_dec {kind place : Int} {xs : List Int} (hx : IsBytes xs) (h : decE kind place xs = 0) :
    encE kind place (decN kind place xs) xs.length = 0 ∧ encV kind place (decL kind place xs) (decN kind place xs) xs.length = xs := by
  obtain ⟨k0, k1, p0, f0, s0, h0, h5, h8⟩ := dec_ok h
  obtain ⟨b0, b1, b2, b3⟩ := fit_pos f0
  obtain ⟨q0, q1⟩ := numV_range hx (by omega)
  obtain ⟨n, hn⟩ : ∃ n : Nat, numV xs = n := ⟨(numV xs).toNat, by omega⟩
  have hN : decN kind place xs = n := by unfold decN; rw [if_pos h, hn]; rfl
  unfold headV at h0
  simp only [Bool.and_eq_true, decide_eq_true_eq, hn, Int.toNat_natCast] at h0
  obtain ⟨⟨⟨⟨⟨⟨m0, m1⟩, m2⟩, m3⟩, m4⟩, m5⟩, m6⟩ := h0
  have hr : 32 * n + 32 ≤ xs.length := by omega
  refine ⟨by rw [hN]; exact enc_zero k0 k1 p0 f0 (by omega) m4, ?_⟩
  have hL : decL kind place xs = wordsV xs (4 * n) := by unfold decL; rw [hN]
  rw [hL, hN]
  have sub : ∀ i m, i + m ≤ xs.length → IsBytes ((xs.drop i).take m) ∧ ((xs.drop i).take m).length = m := fun i m him =>
    ⟨fun y hy => hx y (List.mem_of_mem_drop (List.mem_of_mem_take hy)), by rw [List.length_take, List.length_drop]; omega⟩
  have t4 : xs.take 4 = [83, 84, 82, 65] := by
    have hs := sub 0 4 (by omega)
    rw [List.drop_zero] at hs
    refine unle_inj _ _ hs.1 ?_ (by rw [hs.2]; rfl) (by rw [m0]; rfl)
    intro y hy
    simp at hy
    omega
  have a45 : (xs.drop 4).take 2 = [1, kind] := by
    have e4 : xs[4]? = some 1 := by simpa using m1
    obtain ⟨l4, g4⟩ := List.getElem?_eq_some_iff.1 e4
    obtain ⟨l5, g5⟩ := List.getElem?_eq_some_iff.1 h5
    rw [List.drop_eq_getElem_cons l4, List.drop_eq_getElem_cons l5, g4, g5]
    rfl
  have a6 : (xs.drop 6).take 2 = le 2 n := by
    have hs := sub 6 2 (by omega)
    have := le_unle hs.1 hs.2
    rw [show unle ((xs.drop 6).take 2) = (n : Int) from hn] at this
    exact this.symm
  have a8 : (xs.drop 8).take 8 = le 8 place := by
    have hs := sub 8 8 (by omega)
    have := le_unle hs.1 hs.2
    rw [h8] at this
    exact this.symm
  have a16 : (xs.drop 16).take 12 = zeros 12 := by
    have hs := sub 16 12 (by omega)
    have := zeros_of_blank m5
    rwa [hs.2] at this
  have hw := words_back hx (4 * n) (by omega)
  have az : (xs.drop (28 + 32 * n)).take (xs.length - 32 - 32 * n) = zeros (xs.length - 32 - 32 * n) := by
    have hs := sub (28 + 32 * n) (xs.length - 32 - 32 * n) (by omega)
    rw [show xs.length - 4 - (28 + 32 * n) = xs.length - 32 - 32 * n by omega] at m6
    have := zeros_of_blank m6
    rwa [hs.2] at this
  have hpre : encPre kind place (wordsV xs (4 * n)) n xs.length = xs.take (xs.length - 4) := by
    unfold encPre encHead
    rw [← a6, ← a8, ← a16, hw, ← az]
    have e : [83, 84, 82, 65, 1, kind] = xs.take (4 + 2) := by rw [List.take_add, t4, a45]; rfl
    rw [e, ← List.take_add, ← List.take_add, ← List.take_add]
    rw [show 8 * (4 * n) = 32 * n by omega, show 4 + 2 + 2 + 8 + 12 = 28 by rfl, ← List.take_add, ← List.take_add]
    congr 1
    omega
  unfold encV
  rw [hpre]
  have hs := sub (xs.length - 4) 4 (by omega)
  rw [List.take_of_length_le (by rw [List.length_drop]; omega)] at hs
  rw [← s0, le_unle hs.1 hs.2, List.take_append_drop]
end Go.Proofs.YtambpbgmmmiocaaDoor
