/- Plain: a sealed string in which bits within 32 that follow each other are turned is none. -/
import Derived.Test.YtgbgcfdniodfpaaDoorOp
namespace Go.Proofs.YtgbgcfdniodfpaaDoor
set_option linter.unusedVariables false

theorem rsteps8_up (b : B8) (k : Nat) (hk : k ≤ 24) : rsteps k ((b.setWidth 32) <<< k) = b.setWidth 32 := by
  rw [rsteps_low k _ (by intro i hi; simp [hi])]
  apply BitVec.eq_of_getLsbD_eq
  intro i hi
  simp only [BitVec.getLsbD_shiftLeft, BitVec.getLsbD_ushiftRight, BitVec.getLsbD_setWidth]
  by_cases h : k + i < 32
  · simp [h, hi]
  · simp [h]
    intro _
    exact BitVec.getLsbD_of_ge b i (by omega)

/-- four bytes as a number, the lowest one first -/
def word4 (a b c d : B8) : BitVec 32 := a.setWidth 32 ^^^ ((b.setWidth 32) <<< 8 ^^^ ((c.setWidth 32) <<< 16 ^^^ (d.setWidth 32) <<< 24))

theorem rreg_word (r : BitVec 32) (a b c d : B8) : rreg r [a, b, c, d] = rsteps 32 (r ^^^ word4 a b c d) := by
  have e : ∀ (k : Nat) (x : BitVec 32) (q : B8), k ≤ 24 → rsteps k x ^^^ q.setWidth 32 = rsteps k (x ^^^ (q.setWidth 32) <<< k) := by
    intro k x q hk
    rw [rsteps_xor, rsteps8_up q k hk]
  have s2 : ∀ x, rsteps 8 (rsteps 8 x) = rsteps 16 x := fun x => (rsteps_add 8 8 x).symm
  have s3 : ∀ x, rsteps 8 (rsteps 16 x) = rsteps 24 x := fun x => (rsteps_add 16 8 x).symm
  have s4 : ∀ x, rsteps 8 (rsteps 24 x) = rsteps 32 x := fun x => (rsteps_add 24 8 x).symm
  simp only [rreg, List.foldl_cons, List.foldl_nil, rfeed]
  rw [e 8 _ b (by omega), s2, e 16 _ c (by omega), s3, e 24 _ d (by omega), s4]
  unfold word4
  rw [BitVec.xor_assoc, BitVec.xor_assoc, BitVec.xor_assoc]

theorem word4_bit (a b c d : B8) (i : Nat) (hi : i < 32) : (word4 a b c d).getLsbD i = (a.getLsbD i ^^ (decide (8 ≤ i) && b.getLsbD (i - 8) ^^ (decide (16 ≤ i) && c.getLsbD (i - 16) ^^ decide (24 ≤ i) && d.getLsbD (i - 24)))) := by
  unfold word4
  simp only [BitVec.getLsbD_xor, BitVec.getLsbD_shiftLeft, BitVec.getLsbD_setWidth, hi, decide_true, Bool.true_and]
  have h1 : i - 8 < 32 := by omega
  have h2 : i - 16 < 32 := by omega
  have h3 : i - 24 < 32 := by omega
  simp only [h1, h2, h3, decide_true, Bool.true_and]
  have g : ∀ k, (!decide (i < k)) = decide (k ≤ i) := by
    intro k
    rw [← decide_not]
    exact decide_eq_decide.2 Nat.not_lt
  rw [g, g, g]

theorem le4_word (a b c d : B8) : le4 (word4 a b c d) = [a, b, c, d] := by
  have z : ∀ (x : B8) (k : Nat), 8 ≤ k → x.getLsbD k = false := fun x k h => BitVec.getLsbD_of_ge x k h
  unfold le4
  have e0 : (word4 a b c d).setWidth 8 = a := by
    apply BitVec.eq_of_getLsbD_eq
    intro i hi
    rw [BitVec.getLsbD_setWidth, word4_bit _ _ _ _ _ (by omega)]
    simp [hi, show ¬ 8 ≤ i by omega, show ¬ 16 ≤ i by omega, show ¬ 24 ≤ i by omega]
  have e1 : (word4 a b c d >>> 8).setWidth 8 = b := by
    apply BitVec.eq_of_getLsbD_eq
    intro i hi
    rw [BitVec.getLsbD_setWidth, BitVec.getLsbD_ushiftRight, word4_bit _ _ _ _ _ (by omega), z a _ (by omega)]
    simp [hi, show ¬ 16 ≤ 8 + i by omega, show ¬ 24 ≤ 8 + i by omega]
  have e2 : (word4 a b c d >>> 16).setWidth 8 = c := by
    apply BitVec.eq_of_getLsbD_eq
    intro i hi
    rw [BitVec.getLsbD_setWidth, BitVec.getLsbD_ushiftRight, word4_bit _ _ _ _ _ (by omega), z a _ (by omega), z b _ (by omega)]
    simp [hi, show ¬ 24 ≤ 16 + i by omega, show 8 ≤ 16 + i by omega]
  have e3 : (word4 a b c d >>> 24).setWidth 8 = d := by
    apply BitVec.eq_of_getLsbD_eq
    intro i hi
    rw [BitVec.getLsbD_setWidth, BitVec.getLsbD_ushiftRight, word4_bit _ _ _ _ _ (by omega), z a _ (by omega), z b _ (by omega), z c _ (by omega)]
    simp [hi, show 8 ≤ 24 + i by omega, show 16 ≤ 24 + i by omega]
  rw [e0, e1, e2, e3]

theorem word_le4 (x : BitVec 32) : word4 (x.setWidth 8) ((x >>> 8).setWidth 8) ((x >>> 16).setWidth 8) ((x >>> 24).setWidth 8) = x := by
  apply BitVec.eq_of_getLsbD_eq
  intro i hi
  rw [word4_bit _ _ _ _ _ hi]
  simp only [BitVec.getLsbD_setWidth, BitVec.getLsbD_ushiftRight]
  by_cases h8 : i < 8
  · simp [h8, show ¬ 8 ≤ i by omega, show ¬ 16 ≤ i by omega, show ¬ 24 ≤ i by omega]
  · by_cases h16 : i < 16
    · simp [h8, show 8 ≤ i by omega, show ¬ 16 ≤ i by omega, show ¬ 24 ≤ i by omega, show i - 8 < 8 by omega, show 8 + (i - 8) = i by omega]
    · by_cases h24 : i < 24
      · simp [h8, show 8 ≤ i by omega, show 16 ≤ i by omega, show ¬ 24 ≤ i by omega, show ¬ i - 8 < 8 by omega, show i - 16 < 8 by omega, show 16 + (i - 16) = i by omega]
      · simp [h8, show 8 ≤ i by omega, show 16 ≤ i by omega, show 24 ≤ i by omega, show ¬ i - 8 < 8 by omega, show ¬ i - 16 < 8 by omega, show i - 24 < 8 by omega, show 24 + (i - 24) = i by omega]

def ones : BitVec 32 := ~~~ 0#32

theorem sealed_reg (s : List B8) (h4 : 4 ≤ s.length) : isSealed s = true ↔ rreg ones s = rsteps 32 ones := by
  have hs := sealed_iff s h4 (crc (body s)) rfl
  rw [hs, decide_eq_true_iff]
  have hd : s = body s ++ [s[s.length - 4], s[s.length - 4 + 1], s[s.length - 4 + 2], s[s.length - 4 + 3]] := by
    have e4 : s.drop (s.length - 4) = [s[s.length - 4], s[s.length - 4 + 1], s[s.length - 4 + 2], s[s.length - 4 + 3]] := by
      apply List.ext_getElem
      · simp; omega
      · intro i h1 h2
        have : i < 4 := by simpa using h2
        rw [List.getElem_drop]
        match i, this with
        | 0, _ => rfl
        | 1, _ => rfl
        | 2, _ => rfl
        | 3, _ => rfl
    rw [← e4, body, List.take_append_drop]
  generalize ha : s[s.length - 4] = a at *
  generalize hb : s[s.length - 4 + 1] = b at *
  generalize hc : s[s.length - 4 + 2] = c at *
  generalize hd' : s[s.length - 4 + 3] = d at *
  have hr : rreg ones s = rsteps 32 (rreg ones (body s) ^^^ word4 a b c d) := by
    rw [← rreg_word]
    conv => lhs; rw [hd]
    rw [rreg, rreg, rreg, List.foldl_append]
  rw [hr]
  have hcrc : crc (body s) = ~~~ rreg ones (body s) := rfl
  generalize rreg ones (body s) = R at *
  constructor
  · intro h
    have hw : word4 a b c d = ~~~ R := by
      rw [← hcrc, ← word_le4 (crc (body s)), h.1, h.2.1, h.2.2.1, h.2.2.2]
    rw [hw]
    have : R ^^^ ~~~ R = ones := by
      apply BitVec.eq_of_getLsbD_eq
      intro i hi
      rw [ones, BitVec.getLsbD_xor, BitVec.getLsbD_not, BitVec.getLsbD_not, BitVec.getLsbD_zero]
      cases R.getLsbD i <;> simp [hi]
    rw [this]
  · intro h
    have h1 := rsteps_inj h
    have hw : word4 a b c d = ~~~ R := by
      have : R ^^^ (R ^^^ word4 a b c d) = R ^^^ ones := by rw [h1]
      rw [← BitVec.xor_assoc, BitVec.xor_self, BitVec.zero_xor] at this
      rw [this]
      show R ^^^ (~~~ 0#32) = _
      rw [BitVec.not_zero, BitVec.xor_allOnes]
    have hl := le4_word a b c d
    rw [hw, ← hcrc, le4] at hl
    simpa using hl

/-! ### the bits of a string of bytes -/

/-- the bit k of a string: the lowest bit of a byte is first -/
def bitAt (l : List B8) (k : Nat) : Bool := (l[k / 8]?.getD 0#8).getLsbD (k % 8)

theorem stream_length (l : List B8) : (stream l).length = 8 * l.length := by
  induction l with
  | nil => rfl
  | cons c l ih =>
    rw [stream, List.flatMap_cons, List.length_append, lows_length]
    show 8 + (stream l).length = _
    rw [ih, List.length_cons]; omega

theorem stream_get (l : List B8) (k : Nat) (h : k < (stream l).length) : (stream l)[k] = bitAt l k := by
  induction l generalizing k with
  | nil => simp [stream] at h
  | cons c l ih =>
    have e : stream (c :: l) = lows 8 c ++ stream l := by rw [stream, List.flatMap_cons]; rfl
    have hl := stream_length (c :: l)
    simp only [e] at h ⊢
    by_cases h8 : k < 8
    · rw [List.getElem_append_left (by rw [lows_length]; exact h8), lows_get]
      unfold bitAt
      rw [Nat.div_eq_of_lt h8, Nat.mod_eq_of_lt h8]; rfl
    · have hk : k - 8 < (stream l).length := by rw [List.length_append, lows_length] at h; omega
      rw [List.getElem_append_right (by rw [lows_length]; omega)]
      simp only [lows_length]
      rw [ih _ hk]
      unfold bitAt
      have e1 : k / 8 = (k - 8) / 8 + 1 := by omega
      have e2 : (k - 8) % 8 = k % 8 := by omega
      rw [e1, List.getElem?_cons_succ, e2]

theorem stream_inj {a b : List B8} (hl : a.length = b.length) (h : stream a = stream b) : a = b := by
  apply List.ext_getElem hl
  intro i h1 h2
  apply BitVec.eq_of_getLsbD_eq
  intro j hj
  have ha : (stream a)[8 * i + j]'(by rw [stream_length]; omega) = (stream b)[8 * i + j]'(by rw [stream_length]; omega) := by simp only [h]
  rw [stream_get, stream_get] at ha
  unfold bitAt at ha
  have e1 : (8 * i + j) / 8 = i := by omega
  have e2 : (8 * i + j) % 8 = j := by omega
  rw [e1, e2, List.getElem?_eq_getElem h1, List.getElem?_eq_getElem h2] at ha
  exact ha

/-- a bit turned -/
def turn (l : List B8) (k : Nat) : List B8 := l.set (k / 8) ((l[k / 8]?.getD 0#8) ^^^ 1#8 <<< (k % 8))

theorem turn_length (l : List B8) (k : Nat) : (turn l k).length = l.length := by simp [turn]

theorem bitAt_turn (l : List B8) (k j : Nat) (hk : k < 8 * l.length) : bitAt (turn l k) j = (bitAt l j ^^ decide (j = k)) := by
  unfold bitAt turn
  by_cases hd : k / 8 = j / 8
  · rw [← hd, List.getElem?_set_self (by omega), Option.getD_some, BitVec.getLsbD_xor]
    congr 1
    have hj : j % 8 < 8 := Nat.mod_lt _ (by omega)
    have hk8 : k % 8 < 8 := Nat.mod_lt _ (by omega)
    rw [BitVec.getLsbD_shiftLeft]
    by_cases e : j = k
    · subst e; simp [hj]
    · have : j % 8 ≠ k % 8 := by omega
      rw [decide_eq_false e]
      by_cases hlt : j % 8 < k % 8
      · simp [hlt]
      · have : j % 8 - k % 8 ≠ 0 := by omega
        simp [BitVec.getLsbD_one, this]
  · have : j ≠ k := by intro e; subst e; exact hd rfl
    rw [List.getElem?_set_ne hd, decide_eq_false this, Bool.xor_false]

/-- the first j of 32 changes that begin at bit i -/
def turned (y : List B8) (i : Nat) (ch : BitVec 32) : Nat → List B8
  | 0 => y
  | j + 1 => if ch.getLsbD j then turn (turned y i ch j) (i + j) else turned y i ch j

theorem turned_length (y : List B8) (i : Nat) (ch : BitVec 32) (j : Nat) : (turned y i ch j).length = y.length := by
  induction j with
  | zero => rfl
  | succ j ih =>
    unfold turned
    split
    · rw [turn_length, ih]
    · exact ih

theorem bitAt_turned (y : List B8) (i : Nat) (ch : BitVec 32) (j : Nat) (h : i + j ≤ 8 * y.length) (k : Nat) :
    bitAt (turned y i ch j) k = (bitAt y k ^^ (decide (i ≤ k ∧ k < i + j) && ch.getLsbD (k - i))) := by
  induction j with
  | zero =>
    have : ¬ (i ≤ k ∧ k < i + 0) := by omega
    rw [decide_eq_false this]; simp [turned]
  | succ j ih =>
    have ih := ih (by omega)
    unfold turned
    by_cases e : k = i + j
    · subst e
      have n1 : ¬ (i ≤ i + j ∧ i + j < i + j) := by omega
      have n2 : i ≤ i + j ∧ i + j < i + (j + 1) := by omega
      rw [decide_eq_false n1, Bool.false_and, Bool.xor_false] at ih
      rw [decide_eq_true n2, Bool.true_and, Nat.add_sub_cancel_left]
      split
      · rename_i hc
        rw [bitAt_turn _ _ _ (by rw [turned_length]; omega), ih, hc]; simp
      · rename_i hc
        rw [ih]; simp [hc]
    · have n : (i ≤ k ∧ k < i + (j + 1)) ↔ (i ≤ k ∧ k < i + j) := by omega
      rw [decide_eq_decide.2 n, ← ih]
      split
      · rw [bitAt_turn _ _ _ (by rw [turned_length]; omega), decide_eq_false e, Bool.xor_false]
      · rfl

/-- whether nothing is turned by the first j changes -/
def still (ch : BitVec 32) : Nat → Bool
  | 0 => true
  | j + 1 => still ch j && !ch.getLsbD j

theorem still_turned (y : List B8) (i : Nat) (ch : BitVec 32) (j : Nat) (h : i + j ≤ 8 * y.length) : still ch j = decide (turned y i ch j = y) := by
  have hiff : still ch j = true ↔ ∀ k, k < j → ch.getLsbD k = false := by
    clear h
    induction j with
    | zero => simp [still]
    | succ j ih =>
      rw [still, Bool.and_eq_true, ih]
      constructor
      · intro ⟨h1, h2⟩ k hk
        by_cases e : k = j
        · subst e; simpa using h2
        · exact h1 k (by omega)
      · intro h
        exact ⟨fun k hk => h k (by omega), by simpa using h j (by omega)⟩
  rw [Bool.eq_iff_iff, hiff, decide_eq_true_iff]
  constructor
  · intro hk
    apply stream_inj (turned_length _ _ _ _)
    apply List.ext_getElem
    · rw [stream_length, stream_length, turned_length]
    · intro m h1 h2
      rw [stream_get, stream_get, bitAt_turned _ _ _ _ h]
      by_cases c : i ≤ m ∧ m < i + j
      · rw [hk (m - i) (by omega)]; simp
      · rw [decide_eq_false c]; simp
  · intro he k hk
    have := bitAt_turned y i ch j h (i + k)
    rw [he, decide_eq_true (by omega : i ≤ i + k ∧ i + k < i + j), Nat.add_sub_cancel_left, Bool.true_and] at this
    revert this
    cases bitAt y (i + k) <;> cases ch.getLsbD k <;> simp

/-- a sealed string that is turned within 32 bits is sealed just where nothing is turned -/
theorem sealed_turned (y : List B8) (i : Nat) (ch : BitVec 32) (j : Nat) (hy : isSealed y = true) (h4 : 4 ≤ y.length) (h : i + j ≤ 8 * y.length) (hj : j ≤ 32)
    (hend : j = 32 ∨ i + j = 8 * y.length) : isSealed (turned y i ch j) = still ch j := by
  rw [still_turned y i ch j h, Bool.eq_iff_iff, decide_eq_true_iff, sealed_reg _ (by rw [turned_length]; exact h4), rreg_bits]
  rw [sealed_reg y h4, rreg_bits] at hy
  rw [← hy]
  have hb := burst ones (stream y) (stream (turned y i ch j)) i ch (by rw [stream_length, stream_length, turned_length]) (by rw [stream_length]; omega) (by
    intro k hk
    rw [stream_get, stream_get, bitAt_turned _ _ _ _ h]
    congr 1
    rw [stream_length] at hk
    by_cases c : i ≤ k
    · by_cases c2 : k < i + j
      · rw [decide_eq_true (⟨c, c2⟩ : i ≤ k ∧ k < i + j), decide_eq_true c]
      · have : ¬ (i ≤ k ∧ k < i + j) := by omega
        rw [decide_eq_false this, BitVec.getLsbD_of_ge ch (k - i) (by omega)]; simp
    · have : ¬ (i ≤ k ∧ k < i + j) := by omega
      rw [decide_eq_false this, decide_eq_false c])
  rw [hb]
  constructor
  · intro e; exact (stream_inj (turned_length _ _ _ _) e.symm)
  · intro e; rw [e]

theorem turn_ne (y : List B8) (i : Nat) (hi : i < 8 * y.length) (hy : isSealed y = true) (h4 : 4 ≤ y.length) : isSealed (turn y i) = false := by
  have ht : ∀ j, j ≤ 32 → i + j ≤ 8 * y.length → turned y i 1#32 (j + 1) = turn y i := by
    intro j hj hl
    induction j with
    | zero => simp [turned]
    | succ j ih =>
      rw [turned, if_neg (by simp [BitVec.getLsbD_one])]
      exact ih (by omega) (by omega)
  have hs : ∀ j, still 1#32 (j + 1) = false := by
    intro j
    induction j with
    | zero => rfl
    | succ j ih => rw [still, ih]; rfl
  by_cases h : i + 32 ≤ 8 * y.length
  · have := sealed_turned y i 1#32 32 hy h4 h (by omega) (.inl rfl)
    rwa [ht 31 (by omega) (by omega), hs] at this
  · obtain ⟨j, hj⟩ : ∃ j, i + (j + 1) = 8 * y.length := ⟨8 * y.length - i - 1, by omega⟩
    have := sealed_turned y i 1#32 (j + 1) hy h4 (by omega) (by omega) (.inr hj)
    rwa [ht j (by omega) (by omega), hs] at this
end Go.Proofs.YtgbgcfdniodfpaaDoor
