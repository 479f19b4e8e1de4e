/- Plain: numbers in groups of seven bits, and frames. -/
import Derived.Test.YtgbgcfdniodfpaaDoorOp
namespace Go.Proofs.YtgbgcfdniodfpaaDoor
set_option linter.unusedVariables false

/-- the bytes of a number -/
def vput (n : Nat) : List B8 := if h : n < 128 then [BitVec.ofNat 8 n] else BitVec.ofNat 8 (n % 128 + 128) :: vput (n / 128)
termination_by n
decreasing_by omega

theorem vput_small {n : Nat} (h : n < 128) : vput n = [BitVec.ofNat 8 n] := by rw [vput, dif_pos h]
theorem vput_big {n : Nat} (h : ¬ n < 128) : vput n = BitVec.ofNat 8 (n % 128 + 128) :: vput (n / 128) := by rw [vput, dif_neg h]

inductive VR where
  | err (e : Nat)
  | ok (n used : Nat)

/-- a number is read from place i on, x being what has come -/
def vnumAux (b : List B8) : Nat → Nat → Nat → VR
  | 0, _, _ => .err 2
  | k + 1, i, x =>
    match b[i]? with
    | none => .err 1
    | some g => if i = 9 ∧ 1 < g.toNat then .err 2 else if 0 < i ∧ g.toNat = 0 then .err 3 else
        if g.toNat < 128 then .ok (x + g.toNat % 128 * 2 ^ (7 * i)) (i + 1) else vnumAux b k (i + 1) (x + g.toNat % 128 * 2 ^ (7 * i))
def vnum (b : List B8) : VR := vnumAux b 11 0 0

inductive RR where
  | err (e off : Nat)
  | ok (p : List B8) (used : Nat)

/-- a frame is read -/
def rd (b : List B8) : RR :=
  match vnum b with
  | .err e => if e = 1 then .err 1 b.length else .err e 0
  | .ok n i => if 65536 < n then .err 15 0 else if b.length < i + n + 4 then .err 1 b.length else
      if isSealed ((b.drop i).take (n + 4)) then .ok ((b.drop i).take n) (i + n + 4) else .err 4 i

def fput (p : List B8) : List B8 := vput p.length ++ sealOf p

/-! ### what is read is what was put -/

theorem vput_length_pos (n : Nat) : 0 < (vput n).length := by
  rw [vput]; split <;> simp

/-- how long -/
theorem vput_le {n k : Nat} (h : n < 2 ^ (7 * (k + 1))) : (vput n).length ≤ k + 1 := by
  induction k generalizing n with
  | zero => rw [vput_small (by simpa using h)]; simp
  | succ k ih =>
    by_cases h1 : n < 128
    · rw [vput_small h1]; simp
    · rw [vput_big h1, List.length_cons]
      have : n / 128 < 2 ^ (7 * (k + 1)) := by
        rw [Nat.div_lt_iff_lt_mul (by omega)]
        rw [show 7 * (k + 1 + 1) = 7 * (k + 1) + 7 by omega, Nat.pow_add] at h
        exact h
      have := ih this
      omega

theorem vnumAux_put (n : Nat) : ∀ (pre rest : List B8) (k i x : Nat), pre.length = i → (vput n).length ≤ k → i + (vput n).length ≤ 9 → (0 < i → 0 < n) →
    vnumAux (pre ++ vput n ++ rest) k i x = .ok (x + n * 2 ^ (7 * i)) (i + (vput n).length) := by
  induction n using Nat.strongRecOn with
  | ind n ih =>
    intro pre rest k i x hi hk h9 h0
    obtain ⟨k, rfl⟩ : ∃ m, k = m + 1 := ⟨k - 1, by have := vput_length_pos n; omega⟩
    by_cases h : n < 128
    · rw [vput_small h] at hk h9 ⊢
      have hg : (pre ++ [BitVec.ofNat 8 n] ++ rest)[i]? = some (BitVec.ofNat 8 n) := by
        rw [List.append_assoc, List.getElem?_append_right (by omega), hi]; simp
      have ht : (BitVec.ofNat 8 n).toNat = n := by rw [BitVec.toNat_ofNat]; omega
      have hi9 : ¬ (i = 9 ∧ 1 < n) := by simp at h9; omega
      have hi0 : ¬ (0 < i ∧ n = 0) := fun c => by have := h0 c.1; omega
      simp only [vnumAux, hg, ht]
      rw [if_neg hi9, if_neg hi0, if_pos h, Nat.mod_eq_of_lt h]; rfl
    · have hl := vput_big h
      have hlen : (vput n).length = (vput (n / 128)).length + 1 := by rw [hl]; rfl
      have hp := vput_length_pos (n / 128)
      have hg : (pre ++ vput n ++ rest)[i]? = some (BitVec.ofNat 8 (n % 128 + 128)) := by
        rw [hl, List.append_assoc, List.getElem?_append_right (by omega), hi]; simp
      have ht : (BitVec.ofNat 8 (n % 128 + 128)).toNat = n % 128 + 128 := by rw [BitVec.toNat_ofNat]; omega
      have hi9 : ¬ (i = 9 ∧ 1 < n % 128 + 128) := by omega
      have hi0 : ¬ (0 < i ∧ n % 128 + 128 = 0) := by omega
      have hm : (n % 128 + 128) % 128 = n % 128 := by omega
      simp only [vnumAux, hg, ht]
      rw [if_neg hi9, if_neg hi0, if_neg (by omega), hm]
      have e : pre ++ vput n ++ rest = (pre ++ [BitVec.ofNat 8 (n % 128 + 128)]) ++ vput (n / 128) ++ rest := by rw [hl]; simp
      rw [e, ih (n / 128) (by omega) _ _ _ _ _ (by simp; omega) (by omega) (by omega) (by omega)]
      congr 1
      · rw [show 7 * (i + 1) = 7 * i + 7 by omega, Nat.pow_add, Nat.add_assoc]
        congr 1
        have hd := Nat.div_add_mod n 128
        generalize 2 ^ (7 * i) = p
        have : n / 128 * (p * 2 ^ 7) = (128 * (n / 128)) * p := by
          rw [show (2 : Nat) ^ 7 = 128 from rfl, Nat.mul_comm p 128, ← Nat.mul_assoc, Nat.mul_comm (n / 128) 128]
        rw [this, ← Nat.add_mul, Nat.add_comm, hd]
      · omega

theorem vnum_put (n : Nat) (rest : List B8) (h : (vput n).length ≤ 9) : vnum (vput n ++ rest) = .ok n (vput n).length := by
  have := vnumAux_put n [] rest 11 0 0 rfl (by omega) (by omega) (by omega)
  simpa [vnum] using this

theorem vnumAux_ok : ∀ (k : Nat) (b : List B8) (i x n u : Nat), vnumAux b k i x = .ok n u →
    ∃ m, n = x + m * 2 ^ (7 * i) ∧ (0 < i → 0 < m) ∧ u ≤ b.length ∧ i < u ∧ (b.drop i).take (u - i) = vput m := by
  intro k
  induction k with
  | zero => intro b i x n u h; simp [vnumAux] at h
  | succ k ih =>
    intro b i x n u h
    unfold vnumAux at h
    cases hg : b[i]? with
    | none => rw [hg] at h; simp at h
    | some g =>
      rw [hg] at h
      simp only at h
      obtain ⟨hib, hgi⟩ := List.getElem?_eq_some_iff.1 hg
      have hgl := g.isLt
      by_cases c1 : i = 9 ∧ 1 < g.toNat
      · rw [if_pos c1] at h; cases h
      rw [if_neg c1] at h
      by_cases c2 : 0 < i ∧ g.toNat = 0
      · rw [if_pos c2] at h; cases h
      rw [if_neg c2] at h
      have hd : b.drop i = g :: b.drop (i + 1) := by rw [← hgi]; exact List.drop_eq_getElem_cons hib
      by_cases c3 : g.toNat < 128
      · rw [if_pos c3] at h
        simp only [VR.ok.injEq] at h
        obtain ⟨h1, h2⟩ := h
        refine ⟨g.toNat, by rw [← h1, Nat.mod_eq_of_lt c3], fun hi => Nat.pos_of_ne_zero fun e => c2 ⟨hi, e⟩, by omega, by omega, ?_⟩
        rw [hd, ← h2, Nat.add_sub_cancel_left, vput_small c3]
        simp
      · rw [if_neg c3] at h
        obtain ⟨m, hn, hm, hu, hiu, ht⟩ := ih b (i + 1) _ n u h
        have hm0 := hm (by omega)
        have hq : (g.toNat % 128 + m * 128) / 128 = m := by omega
        have hr : (g.toNat % 128 + m * 128) % 128 + 128 = g.toNat := by omega
        refine ⟨g.toNat % 128 + m * 128, ?_, fun _ => by omega, hu, by omega, ?_⟩
        · rw [hn, show 7 * (i + 1) = 7 * i + 7 by omega, Nat.pow_add, Nat.add_assoc]
          congr 1
          generalize 2 ^ (7 * i) = p
          rw [Nat.add_mul, show (2 : Nat) ^ 7 = 128 from rfl, Nat.mul_comm p 128, ← Nat.mul_assoc]
        · rw [vput_big (by omega), hq, hr, hd, show u - i = u - (i + 1) + 1 by omega, List.take_succ_cons, ht]
          congr 1
          exact BitVec.eq_of_toNat_eq (by simp)

theorem vnum_ok {b : List B8} {n u : Nat} (h : vnum b = .ok n u) : u ≤ b.length ∧ 0 < u ∧ b.take u = vput n := by
  obtain ⟨m, hn, _, hu, hi, ht⟩ := vnumAux_ok 11 b 0 0 n u h
  have : n = m := by simpa using hn
  subst this
  exact ⟨hu, hi, by simpa using ht⟩

theorem vnum_used {b : List B8} {n u : Nat} (h : vnum b = .ok n u) : u = (vput n).length := by
  obtain ⟨h1, _, h3⟩ := vnum_ok h
  rw [← h3, List.length_take]; omega

/-- only the first eleven bytes count -/
theorem vnumAux_take : ∀ (k : Nat) (b : List B8) (m i x : Nat), i + k ≤ m → vnumAux (b.take m) k i x = vnumAux b k i x := by
  intro k
  induction k with
  | zero => intros; rfl
  | succ k ih =>
    intro b m i x h
    unfold vnumAux
    have e : (b.take m)[i]? = b[i]? := by rw [List.getElem?_take, if_pos (by omega)]
    rw [e]
    cases b[i]? with
    | none => rfl
    | some g => simp only [ih b m (i + 1) _ (by omega)]
theorem vnum_take (b : List B8) (m : Nat) (h : 11 ≤ m) : vnum (b.take m) = vnum b := vnumAux_take 11 b m 0 0 (by omega)

theorem vnumAux_errs : ∀ (k : Nat) (b : List B8) (i x e : Nat), i + k = 11 → vnumAux b k i x = .err e → e = 1 ∨ e = 2 ∨ e = 3 := by
  intro k
  induction k with
  | zero => intro b i x e _ h; simp [vnumAux] at h; omega
  | succ k ih =>
    intro b i x e hik h
    unfold vnumAux at h
    cases hg : b[i]? with
    | none => rw [hg] at h; simp at h; omega
    | some g =>
      rw [hg] at h
      simp only at h
      split at h
      · simp at h; omega
      · split at h
        · simp at h; omega
        · split at h
          · cases h
          · exact ih b (i + 1) _ e (by omega) h
theorem vnum_errs {b : List B8} {e : Nat} (h : vnum b = .err e) : e = 1 ∨ e = 2 ∨ e = 3 := vnumAux_errs 11 b 0 0 e rfl h

theorem vput_three {n : Nat} (h : n ≤ 65536) : (vput n).length ≤ 3 := vput_le (k := 2) (by omega)

theorem rd_put (p more : List B8) (h : p.length ≤ 65536) : rd (fput p ++ more) = .ok p (fput p).length := by
  have h3 := vput_three h
  have e : fput p ++ more = vput p.length ++ (sealOf p ++ more) := by rw [fput, List.append_assoc]
  have hl : (fput p).length = (vput p.length).length + p.length + 4 := by rw [fput, List.length_append, sealOf_length]; omega
  have hv := vnum_put p.length (sealOf p ++ more) (by omega)
  unfold rd
  rw [e, hv]
  simp only
  have hd : (vput p.length ++ (sealOf p ++ more)).drop (vput p.length).length = sealOf p ++ more := by rw [List.drop_left]
  rw [if_neg (by omega), if_neg (by rw [List.length_append, List.length_append, sealOf_length]; omega), hd]
  have ht : (sealOf p ++ more).take (p.length + 4) = sealOf p := by rw [← sealOf_length p, List.take_left]
  rw [ht, isSealed_seal, if_pos rfl]
  congr 1
  · rw [sealOf, List.append_assoc, List.take_left]
  · omega

/-- what rd answers well is the frame of the payload -/
theorem rd_ok {b p : List B8} {u : Nat} (h : rd b = .ok p u) : p.length ≤ 65536 ∧ u ≤ b.length ∧ 0 < u ∧ b.take u = fput p := by
  unfold rd at h
  cases hv : vnum b with
  | err e => rw [hv] at h; simp only at h; split at h <;> cases h
  | ok n i =>
    rw [hv] at h
    simp only at h
    by_cases c1 : 65536 < n
    · rw [if_pos c1] at h; cases h
    rw [if_neg c1] at h
    by_cases c2 : b.length < i + n + 4
    · rw [if_pos c2] at h; cases h
    rw [if_neg c2] at h
    by_cases c3 : ¬ isSealed ((b.drop i).take (n + 4)) = true
    · rw [if_neg c3] at h; cases h
    · have c3 := Classical.not_not.1 c3
      rw [if_pos c3] at h
      simp only [RR.ok.injEq] at h
      obtain ⟨h1, h2⟩ := h
      obtain ⟨_, h0, hv2⟩ := vnum_ok hv
      have hpl : p.length = n := by rw [← h1]; simp; omega
      refine ⟨by omega, by omega, by omega, ?_⟩
      have hbody : body ((b.drop i).take (n + 4)) = p := by
        have hl : ((b.drop i).take (n + 4)).length = n + 4 := by simp; omega
        unfold body
        rw [hl, List.take_take, ← h1]
        congr 1; omega
      have hs : sealOf p = (b.drop i).take (n + 4) := by
        unfold isSealed at c3
        simp at c3
        rw [← hbody]; exact c3.2
      rw [fput, hpl, ← hv2, hs, ← h2]
      rw [show i + n + 4 = i + (n + 4) by omega, List.take_add]
end Go.Proofs.YtgbgcfdniodfpaaDoor
