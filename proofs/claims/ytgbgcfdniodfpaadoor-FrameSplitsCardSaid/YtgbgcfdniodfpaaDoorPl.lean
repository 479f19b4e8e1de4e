/- Plain laws of the checksum's register (CRC-32): no program in sight. -/
namespace Go.Proofs.YtgbgcfdniodfpaaDoor

/-- the generator, mirrored -/
def poly : BitVec 32 := 0xEDB88320#32

/-- one step of the register -/
def rstep (r : BitVec 32) : BitVec 32 := (r >>> 1) ^^^ (if r.getLsbD 0 then poly else 0#32)

def rsteps : Nat → BitVec 32 → BitVec 32
  | 0, r => r
  | n + 1, r => rsteps n (rstep r)

theorem rsteps_add (a b : Nat) (r : BitVec 32) : rsteps (a + b) r = rsteps b (rsteps a r) := by
  induction a generalizing r with
  | zero => simp [rsteps]
  | succ a ih => rw [Nat.succ_add]; exact ih (rstep r)

theorem xor4 (a b p q : BitVec 32) : (a ^^^ b) ^^^ (p ^^^ q) = (a ^^^ p) ^^^ (b ^^^ q) := by ac_rfl

theorem rstep_xor (a b : BitVec 32) : rstep (a ^^^ b) = rstep a ^^^ rstep b := by
  unfold rstep
  have e : (if (a ^^^ b).getLsbD 0 = true then poly else 0#32) = (if a.getLsbD 0 = true then poly else 0#32) ^^^ (if b.getLsbD 0 = true then poly else 0#32) := by
    rw [BitVec.getLsbD_xor]
    cases a.getLsbD 0 <;> cases b.getLsbD 0 <;> simp
  rw [BitVec.ushiftRight_xor_distrib, e, xor4]

theorem rstep_zero : rstep 0#32 = 0#32 := by decide

theorem rsteps_xor (n : Nat) (a b : BitVec 32) : rsteps n (a ^^^ b) = rsteps n a ^^^ rsteps n b := by
  induction n generalizing a b with
  | zero => rfl
  | succ n ih => rw [rsteps, rstep_xor, ih]; rfl

theorem rsteps_zero (n : Nat) : rsteps n 0#32 = 0#32 := by
  induction n with
  | zero => rfl
  | succ n ih => rw [rsteps, rstep_zero, ih]

theorem rstep_eq_zero {x : BitVec 32} (h : rstep x = 0#32) : x = 0#32 := by
  unfold rstep at h
  cases e : x.getLsbD 0 with
  | false =>
    rw [e] at h
    apply BitVec.eq_of_getLsbD_eq
    intro i hi
    rcases i with _ | i
    · simpa using e
    · have := congrArg (fun v => v.getLsbD i) h
      simp at this
      rw [Nat.add_comm] at this
      simpa using this
  | true =>
    rw [e] at h
    have := congrArg (fun v => v.getLsbD 31) h
    simp [poly] at this

theorem rsteps_eq_zero {n : Nat} {x : BitVec 32} (h : rsteps n x = 0#32) : x = 0#32 := by
  induction n generalizing x with
  | zero => exact h
  | succ n ih => exact rstep_eq_zero (ih h)

theorem xor_eq_zero {w : Nat} {a b : BitVec w} (h : a ^^^ b = 0#w) : a = b := by
  have := congrArg (· ^^^ b) h
  simpa [BitVec.xor_assoc] using this

theorem rsteps_inj {n : Nat} {a b : BitVec 32} (h : rsteps n a = rsteps n b) : a = b := by
  apply xor_eq_zero
  apply rsteps_eq_zero (n := n)
  rw [rsteps_xor, h, BitVec.xor_self]

/-- steps over a value whose low inBits are clear only move it down -/
theorem rsteps_low (n : Nat) (x : BitVec 32) (h : ∀ i, i < n → x.getLsbD i = false) : rsteps n x = x >>> n := by
  induction n generalizing x with
  | zero => simp [rsteps]
  | succ n ih =>
    have h0 := h 0 (by omega)
    have e : rstep x = x >>> 1 := by unfold rstep; rw [h0]; simp
    rw [rsteps, e, ih]
    · rw [← BitVec.shiftRight_add, Nat.add_comm]
    · intro i hi
      rw [BitVec.getLsbD_ushiftRight, Nat.add_comm]; exact h (i + 1) (by omega)

/-- one byte taken in -/
def rfeed (r : BitVec 32) (c : BitVec 8) : BitVec 32 := rsteps 8 (r ^^^ c.setWidth 32)

def rreg (r : BitVec 32) (l : List (BitVec 8)) : BitVec 32 := l.foldl rfeed r

/-- the table's way -/
theorem rfeed_table (r : BitVec 32) (c : BitVec 8) : rfeed r c = (r >>> 8) ^^^ rsteps 8 ((r.setWidth 8 ^^^ c).setWidth 32) := by
  unfold rfeed
  have e : r ^^^ c.setWidth 32 = ((r >>> 8) <<< 8) ^^^ ((r.setWidth 8 ^^^ c).setWidth 32) := by
    apply BitVec.eq_of_getLsbD_eq
    intro i hi
    simp only [BitVec.getLsbD_xor, BitVec.getLsbD_setWidth, BitVec.getLsbD_shiftLeft, BitVec.getLsbD_ushiftRight]
    by_cases h8 : i < 8
    · simp [h8, hi]
    · have e1 : 8 + (i - 8) = i := by omega
      simp [h8, hi, e1, BitVec.getLsbD_of_ge c i (by omega)]
  rw [e, rsteps_xor, rsteps_low 8 ((r >>> 8) <<< 8)]
  · congr 1
    apply BitVec.eq_of_getLsbD_eq
    intro i hi
    simp only [BitVec.getLsbD_shiftLeft, BitVec.getLsbD_ushiftRight]
    by_cases h : 8 + i < 32
    · simp [h]
    · simp [h]
      exact BitVec.getLsbD_of_ge r (8 + i) (by omega)
  · intro i hi
    simp [hi]

/-- a inBit taken in: the way of the reference -/
def inBit (r : BitVec 32) (b : Bool) : BitVec 32 := (r >>> 1) ^^^ (if r.getLsbD 0 ^^ b then poly else 0#32)

def inBits (r : BitVec 32) (l : List Bool) : BitVec 32 := l.foldl inBit r

theorem inBit_eq (r : BitVec 32) (b : Bool) : inBit r b = rstep (r ^^^ (if b then 1#32 else 0#32)) := by
  unfold inBit rstep
  cases b
  · simp
  · simp [BitVec.ushiftRight_xor_distrib]

/-- the lowest inBits of a value, the lowest one first -/
def lows {w : Nat} : Nat → BitVec w → List Bool
  | 0, _ => []
  | n + 1, c => c.getLsbD 0 :: lows n (c >>> 1)

theorem inBits_lows (n : Nat) (hn : n ≤ 32) (r x : BitVec 32) (h : ∀ i, n ≤ i → x.getLsbD i = false) : inBits r (lows n x) = rsteps n (r ^^^ x) := by
  induction n generalizing r x with
  | zero =>
    have : x = 0#32 := by
      apply BitVec.eq_of_getLsbD_eq; intro i _; simpa using h i (Nat.zero_le _)
    subst this; simp [inBits, lows, rsteps]
  | succ n ih =>
    show inBits (inBit r (x.getLsbD 0)) (lows n (x >>> 1)) = _
    rw [ih (by omega), rsteps, inBit_eq]
    · congr 1
      have e : x = (if x.getLsbD 0 then 1#32 else 0#32) ^^^ ((x >>> 1) <<< 1) := by
        apply BitVec.eq_of_getLsbD_eq
        intro i hi
        rcases i with _ | i
        · cases x.getLsbD 0 <;> simp
        · have : (if x.getLsbD 0 = true then 1#32 else 0#32).getLsbD (i + 1) = false := by
            split <;> simp
          rw [BitVec.getLsbD_xor, this]
          simp [hi, Nat.add_comm]
      have e2 : rstep ((x >>> 1) <<< 1) = x >>> 1 := by
        have := rsteps_low 1 ((x >>> 1) <<< 1) (by intro i hi; simp [hi])
        rw [show rsteps 1 ((x >>> 1) <<< 1) = rstep ((x >>> 1) <<< 1) from rfl] at this
        rw [this]
        apply BitVec.eq_of_getLsbD_eq
        intro i hi
        simp only [BitVec.getLsbD_shiftLeft, BitVec.getLsbD_ushiftRight]
        by_cases h' : 1 + i < 32
        · simp [h']
        · simp [h']; exact BitVec.getLsbD_of_ge x (1 + i) (by omega)
      conv => rhs; rw [e, ← BitVec.xor_assoc, rstep_xor, e2]
    · intro i hi
      rw [BitVec.getLsbD_ushiftRight]; exact h (1 + i) (by omega)

theorem rfeed_bits (r : BitVec 32) (c : BitVec 8) : rfeed r c = inBits r (lows 8 (c.setWidth 32)) := by
  rw [inBits_lows 8 (by omega)]; · rfl
  intro i hi; rw [BitVec.getLsbD_setWidth, BitVec.getLsbD_of_ge c i hi]; simp


theorem lows_length {w : Nat} (n : Nat) (c : BitVec w) : (lows n c).length = n := by
  induction n generalizing c with
  | zero => rfl
  | succ n ih => simp [lows, ih]

theorem lows_get {w : Nat} (n : Nat) (c : BitVec w) (j : Nat) (h : j < (lows n c).length) : (lows n c)[j] = c.getLsbD j := by
  induction n generalizing c j with
  | zero => simp [lows] at h
  | succ n ih =>
    cases j with
    | zero => rfl
    | succ j =>
      have := ih (c >>> 1) j (by simpa [lows] using h)
      simp only [lows, List.getElem_cons_succ]
      rw [this, BitVec.getLsbD_ushiftRight, Nat.add_comm]

/-- all inBits of bytes, in the order in which they are taken in -/
def stream (l : List (BitVec 8)) : List Bool := l.flatMap (lows 8)

theorem lows_widen (n : Nat) (c : BitVec 8) : lows n (c.setWidth 32) = lows n c := by
  apply List.ext_getElem
  · simp [lows_length]
  · intro i h1 h2
    rw [lows_get, lows_get, BitVec.getLsbD_setWidth]
    by_cases h : i < 32
    · simp [h]
    · simp [h]; exact BitVec.getLsbD_of_ge c i (by omega)

theorem rreg_bits (r : BitVec 32) (l : List (BitVec 8)) : rreg r l = inBits r (stream l) := by
  induction l generalizing r with
  | nil => rfl
  | cons c l ih =>
    show rreg (rfeed r c) l = _
    rw [ih, rfeed_bits, lows_widen]
    show inBits (inBits r (lows 8 c)) (stream l) = inBits r (lows 8 c ++ stream l)
    rw [inBits, inBits, inBits, List.foldl_append]

theorem inBits_append (r : BitVec 32) (a b : List Bool) : inBits r (a ++ b) = inBits (inBits r a) b := by
  simp [inBits, List.foldl_append]

theorem inBit_xor (a b : BitVec 32) (p q : Bool) : inBit (a ^^^ b) (p ^^ q) = inBit a p ^^^ inBit b q := by
  rw [inBit_eq, inBit_eq, inBit_eq, ← rstep_xor]
  congr 1
  have : (if (p ^^ q) = true then 1#32 else 0#32) = (if p = true then 1#32 else 0#32) ^^^ (if q = true then 1#32 else 0#32) := by
    cases p <;> cases q <;> simp
  rw [this, xor4]

theorem inBits_xor (a b : BitVec 32) (x y : List Bool) (h : x.length = y.length) : inBits (a ^^^ b) (List.zipWith xor x y) = inBits a x ^^^ inBits b y := by
  induction x generalizing a b y with
  | nil => cases y with
    | nil => rfl
    | cons => simp at h
  | cons p x ih =>
    cases y with
    | nil => simp at h
    | cons q y =>
      show inBits (inBit (a ^^^ b) (p ^^ q)) _ = inBits (inBit a p) x ^^^ inBits (inBit b q) y
      rw [inBit_xor, ih _ _ _ (by simpa using h)]

theorem inBits_false (r : BitVec 32) (n : Nat) : inBits r (List.replicate n false) = rsteps n r := by
  induction n generalizing r with
  | zero => rfl
  | succ n ih =>
    rw [List.replicate_succ]
    show inBits (inBit r false) _ = _
    rw [ih, inBit_eq]; simp [rsteps]

/-- inBits that differ within 32 that follow each other lead to another register -/
theorem burst (r : BitVec 32) (x y : List Bool) (i : Nat) (ch : BitVec 32) (hl : y.length = x.length) (hi : i ≤ x.length)
    (h : ∀ k (hk : k < x.length), y[k]'(by omega) = (x[k] ^^ (decide (i ≤ k) && ch.getLsbD (k - i)))) : inBits r y = inBits r x ↔ x = y := by
  refine ⟨fun hb => ?_, fun e => by rw [e]⟩
  -- the difference
  let m := x.length - i
  let c : BitVec 32 := (ch.setWidth m).setWidth 32
  have hc : ∀ j, c.getLsbD j = (decide (j < m) && ch.getLsbD j) := by
    intro j
    simp only [c, BitVec.getLsbD_setWidth]
    by_cases hj : j < 32
    · simp [hj]
    · rw [BitVec.getLsbD_of_ge ch j (by omega)]; simp
  let e : List Bool := List.replicate i false ++ (lows (min m 32) c ++ List.replicate (m - 32) false)
  have hel : e.length = x.length := by simp [e, lows_length, m]; omega
  have hy : y = List.zipWith xor x e := by
    apply List.ext_getElem
    · simp [hl, hel]
    · intro k h1 h2
      have hk : k < x.length := by omega
      rw [h k hk, List.getElem_zipWith]
      congr 1
      by_cases hik : i ≤ k
      · by_cases hk32 : k - i < min m 32
        · have : e[k]'(by omega) = c.getLsbD (k - i) := by
            simp only [e]
            rw [List.getElem_append_right (by simpa using hik), List.getElem_append_left (by simpa [lows_length] using hk32), lows_get]
            simp
          rw [this, hc]; simp [hik]; intro _; omega
        · have : e[k]'(by omega) = false := by
            simp only [e]
            rw [List.getElem_append_right (by simpa using hik), List.getElem_append_right (by simpa [lows_length] using hk32)]
            simp
          rw [this]; simp [hik]; apply BitVec.getLsbD_of_ge; omega
      · have : e[k]'(by omega) = false := by
          simp only [e]
          rw [List.getElem_append_left (by simpa using hik)]
          simp
        rw [this]; simp [hik]
  have hx : inBits r y = inBits r x ^^^ inBits 0#32 e := by
    rw [hy]
    have := inBits_xor r 0#32 x e (by omega)
    simpa using this
  rw [hx] at hb
  have h0 : inBits 0#32 e = 0#32 := by
    have := congrArg (inBits r x ^^^ ·) hb
    simpa [← BitVec.xor_assoc] using this
  have hz : c = 0#32 := by
    simp only [e] at h0
    rw [inBits_append, inBits_append, inBits_false, inBits_false, rsteps_zero, inBits_lows _ (by omega)] at h0
    · have := rsteps_eq_zero (rsteps_eq_zero h0)
      simpa using this
    · intro j hj
      rw [hc]
      by_cases h32 : j < 32
      · have : ¬ j < m := by omega
        simp [this]
      · rw [BitVec.getLsbD_of_ge ch j (by omega)]; simp
  apply List.ext_getElem
  · omega
  · intro k h1 h2
    rw [h k h1]
    by_cases hik : i ≤ k
    · have : ch.getLsbD (k - i) = false := by
        have := hc (k - i)
        rw [hz] at this
        have hm : k - i < m := by omega
        simpa [hm] using this.symm
      simp [this]
    · simp [hik]

end Go.Proofs.YtgbgcfdniodfpaaDoor
