/- The cursor's Number. -/
import Derived.Test.YtgbgcfdniodfpaaDoorCu
import Derived.Lib.EndianBits
namespace Go.Proofs.YtgbgcfdniodfpaaDoor
open Go.RowKit
set_option linter.unusedVariables false

def errOf : Nat → Value
  | e => code (e : Int)

/-- what Number answers -/
def NumEnd (w : World) (g : Nat) (a : Option Addr) (c : Nat) (l : List B8) (e : Ending) (w' : World) : VR → Prop
  | .err n => e = .returned (.tuple #[.int .u64 0, code n]) ∧ Cur w' g a c l 0 ∧ Below g w w'
  | .ok n u => e = .returned (.tuple #[.int .u64 n, .nilIface]) ∧ Cur w' g a c l u ∧ Below g w w'

theorem vnumAux_none {l : List B8} {k i X : Nat} (h : l[i]? = none) : vnumAux l (k + 1) i X = .err 1 := by unfold vnumAux; rw [h]

theorem num_low (y : B8) : bits BinOp.and IntKind.u8 (y.toNat : Int) 127 = ((y.toNat % 128 : Nat) : Int) := by
  have h := bits_mask .u8 8 (by decide) wraps_u8 7 (by decide) (y.toNat : Int) (by omega) (by have := y.isLt; omega)
  have e : ((2 : Int) ^ 7 - 1) = 127 := by decide
  rw [e] at h
  rw [h]; rfl

theorem num_lt (k X : Nat) (y : B8) (hX : X < 2 ^ (7 * k)) : X + y.toNat % 128 * 2 ^ (7 * k) < 2 ^ (7 * (k + 1)) := by
  rw [show 7 * (k + 1) = 7 * k + 7 by omega, Nat.pow_add]
  generalize 2 ^ (7 * k) = p at *
  have : y.toNat % 128 ≤ 127 := by omega
  have := Nat.mul_le_mul_right p this
  omega

theorem num_cap (k : Nat) (y : B8) (hk : k ≤ 9) (c1 : ¬ (k = 9 ∧ 1 < y.toNat)) : y.toNat % 128 * 2 ^ (7 * k) < 18446744073709551616 := by
  by_cases h : k = 9
  · subst h
    have : y.toNat ≤ 1 := by omega
    have h1 : y.toNat % 128 ≤ 1 := by omega
    have := Nat.mul_le_mul_right (2 ^ (7 * 9)) h1
    exact Nat.lt_of_le_of_lt this (by decide)
  · have h1 : y.toNat % 128 ≤ 127 := by omega
    have h2 : 2 ^ (7 * k) ≤ 2 ^ 56 := Nat.pow_le_pow_right (by decide) (by omega)
    exact Nat.lt_of_le_of_lt (Nat.mul_le_mul h1 h2) (by decide)

theorem num_int (k X : Nat) (y : B8) (hk : k ≤ 9) (hX : X < 2 ^ (7 * k)) (c1 : ¬ (k = 9 ∧ 1 < y.toNat)) :
    bits BinOp.or IntKind.u64 (X : Int) (IntKind.u64.wrap (IntKind.u64.wrap (bits BinOp.and IntKind.u8 (y.toNat : Int) 127) * 2 ^ (7 * k))) = ((X + y.toNat % 128 * 2 ^ (7 * k) : Nat) : Int) := by
  have hc := num_cap k y hk c1
  have hp : ((2 : Int) ^ (7 * k)) = ((2 ^ (7 * k) : Nat) : Int) := by simp
  have h2 : 2 ^ (7 * k) ≤ 2 ^ 63 := Nat.pow_le_pow_right (by decide) (by omega)
  rw [num_low, u64_wrap_id ((y.toNat % 128 : Nat) : Int) (by omega) (by omega), hp, ← Int.natCast_mul, u64_wrap_id _ (by omega) (by omega)]
  rw [bits_join_low .u64 64 (by decide) wraps_u64 (7 * k) _ _ (by omega) (by rw [hp]; omega) (by omega) (by omega) (by rw [hp, ← Int.natCast_emod, Nat.mul_mod_left]; rfl) (by omega)]
  omega

theorem num_tuple {a b : Int} (h : a = b) : Value.tuple #[.int .u64 a, .nilIface] = .tuple #[.int .u64 b, .nilIface] := by rw [h]
theorem u64_eq {a b : Int} (h : a = b) : Value.int .u64 a = .int .u64 b := by rw [h]

set_option maxRecDepth 100000 in
set_option maxHeartbeats 1000000 in
theorem Number_cur (g : Nat) (a : Option Addr) (c : Nat) (l : List B8) (w : World) (h : Cur w g a c l 0) :
    Calls Tryd.prog 27 #[.pointer (some ⟨g, 0, none⟩)] w fun e w' => NumEnd w g a c l e w' (vnum l) := by
  have HC := hid h
  have hl := h.hl
  have hlc := h.hc
  clear h
  go_enter Tryd.func27, Tryd.ntmps27
  go_wp2_with fail
  go_loopw [4, 5] (fun x i wr => (∃ (k X : Nat), x = .int .u64 X ∧ i = .int .i64 k ∧ k ≤ 9 ∧ Hid (X < 2 ^ (7 * k)) ∧ Hid (vnumAux l (11 - k) k X = vnum l)) ∧ Below w.heap.size w wr) (fun _ i _ => 10 - (intOf i).toNat)
  case atStart => exact ⟨⟨0, 0, rfl, rfl, by omega, hid (by decide), hid rfl⟩, Below.refl _ _⟩
  case round =>
    obtain ⟨⟨k, X, rfl, rfl, hk, HX, HV⟩, bel⟩ := hrel
    have Bel := hid bel
    have hCr := HC.out.later bel
    have HCr := hid hCr
    clear bel hCr
    go_wp2_with fail
    refine (Left_any g a c l 0 _ HCr.out (Nat.zero_le _)).mono ?_
    rintro e w2 ⟨rfl, bel2⟩
    have Bel2 := hid (Bel.out.trans (bel2.mono Bel.out.size))
    have HC2 := hid (HCr.out.later bel2)
    clear bel2 HCr Bel
    by_cases hlt : k < l.length
    · obtain ⟨b, off, rfl, hc⟩ := HC2.out.hr.gets (by intro e; rw [e] at hlt; simp at hlt)
      have hy := hc k hlt
      have h0 := HC2.out.cell0
      have h1 : w2.cell? ⟨g, 1, none⟩ = some (.int .i64 0) := HC2.out.cell1
      have HS := hid (show vnumAux l (11 - k) k X = if k = 9 ∧ 1 < l[k].toNat then .err 2 else if 0 < k ∧ l[k].toNat = 0 then .err 3 else if l[k].toNat < 128 then .ok (X + l[k].toNat % 128 * 2 ^ (7 * k)) (k + 1) else vnumAux l (10 - k) (k + 1) (X + l[k].toNat % 128 * 2 ^ (7 * k)) by
        rw [show 11 - k = 10 - k + 1 by omega, vnumAux, List.getElem?_eq_getElem hlt])
      generalize l[k] = y at *
      have hyl := y.isLt
      have hp : ((k : Nat) : Int) < (l.length : Int) := by omega
      clear hc
      by_cases c1 : k = 9 ∧ 1 < y.toNat
      · obtain ⟨rfl, c1⟩ := c1
        have HE := hid (show vnum l = .err 2 by rw [← HV.out, HS.out, if_pos ⟨rfl, c1⟩])
        clear HS HV
        go_wp2_with fail
        go_quiet (fail)
        go_wp2_with fail
        go_ret2
        rw [HE.out]
        exact ⟨rfl, HC2.out.later (below_drewN (Below.refl _ _) _), (below_drewN Bel2.out _).mono (Nat.le_of_lt HC.out.lt)⟩
      · by_cases c2 : 0 < k ∧ y.toNat = 0
        · obtain ⟨c2, c3⟩ := c2
          have HE := hid (show vnum l = .err 3 by rw [← HV.out, HS.out, if_neg c1, if_pos ⟨c2, c3⟩])
          clear HS HV c1
          by_cases c9 : k = 9
          · subst c9
            go_wp2_with fail
            go_quiet (fail)
            go_wp2_with fail
            go_ret2
            rw [HE.out]
            exact ⟨rfl, HC2.out.later (below_drewN (Below.refl _ _) _), (below_drewN Bel2.out _).mono (Nat.le_of_lt HC.out.lt)⟩
          · go_wp2_with fail
            go_quiet (fail)
            go_wp2_with fail
            go_ret2
            rw [HE.out]
            exact ⟨rfl, HC2.out.later (below_drewN (Below.refl _ _) _), (below_drewN Bel2.out _).mono (Nat.le_of_lt HC.out.lt)⟩
        · have hfz := HC2.out.free
          have hw := num_int k X y hk HX.out c1
          have HW := hid hw
          clear hw
          by_cases c3 : y.toNat < 128
          · have HE := hid (show vnum l = .ok (X + y.toNat % 128 * 2 ^ (7 * k)) (k + 1) by rw [← HV.out, HS.out, if_neg c1, if_neg c2, if_pos c3])
            clear HS HV
            by_cases c9 : k = 9
            · subst c9
              have d1 : decide ((1 : Int) < (y.toNat : Int)) = false := by simp; omega
              have d2 : ((y.toNat : Int) == 0) = false := by simp; omega
              have hw9 := HW.out
              rw [show ((2 : Int) ^ (7 * 9)) = 9223372036854775808 by decide] at hw9
              have HW := hid hw9
              clear hw9
              go_wp2_with fail
              go_quiet (fail)
              go_wp2_with fail
              all_goals go_ret2
              all_goals rw [HE.out]
              all_goals refine ⟨ret_eq (num_tuple HW.out), ?_⟩
              all_goals (have hm := (HC2.out.later (below_drewN (Below.refl _ _) nq)).move (9 + 1); exact ⟨hm.1, ((below_drewN Bel2.out nq).mono (Nat.le_of_lt HC.out.lt)).trans hm.2⟩)
            · go_wp2_with fail
              go_quiet (fail)
              go_wp2_with fail
              all_goals go_ret2
              all_goals rw [HE.out]
              all_goals refine ⟨ret_eq (num_tuple HW.out), ?_⟩
              all_goals (have hm := (HC2.out.later (below_drewN (Below.refl _ _) nq)).move (k + 1); exact ⟨hm.1, ((below_drewN Bel2.out nq).mono (Nat.le_of_lt HC.out.lt)).trans hm.2⟩)
          · have c9 : k ≠ 9 := fun e => c1 ⟨e, by omega⟩
            have HV2 := hid (show vnumAux l (11 - (k + 1)) (k + 1) (X + y.toNat % 128 * 2 ^ (7 * k)) = vnum l by rw [← HV.out, HS.out, if_neg c1, if_neg c2, if_neg c3, show 11 - (k + 1) = 10 - k by omega])
            have HX2 := hid (num_lt k X y HX.out)
            clear HS HV HX
            go_wp2_with fail
            go_quiet (fail)
            go_wp2_with fail
            all_goals go_roundw
            all_goals first
              | exact ⟨⟨k + 1, X + y.toNat % 128 * 2 ^ (7 * k), u64_eq HW.out, by go_num, by omega, HX2, HV2⟩, below_drewN Bel2.out _⟩
              | (simp [intOf]; omega)
    · have HE := hid (show vnum l = .err 1 by rw [← HV.out, show 11 - k = 10 - k + 1 by omega]; exact vnumAux_none (List.getElem?_eq_none (by omega)))
      go_wp2_with fail
      go_ret2
      rw [HE.out]
      exact ⟨rfl, HC2.out, Bel2.out.mono (Nat.le_of_lt HC.out.lt)⟩
end Go.Proofs.YtgbgcfdniodfpaaDoor
