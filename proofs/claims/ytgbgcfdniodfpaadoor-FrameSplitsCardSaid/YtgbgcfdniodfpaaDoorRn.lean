/- The reference's Number and Read. -/
import Derived.Test.YtgbgcfdniodfpaaDoorFr
namespace Go.Proofs.YtgbgcfdniodfpaaDoor
open Go.RowKit
set_option linter.unusedVariables false

def rNumEnd (w : World) (e : Ending) (w' : World) : VR → Prop
  | .err n => e = .returned (.tuple #[.int .u64 0, .int .i64 0, .int .i64 n]) ∧ Below w.heap.size w w'
  | .ok n u => e = .returned (.tuple #[.int .u64 n, .int .i64 u, .int .i64 0]) ∧ Below w.heap.size w w'

theorem num_add (k X : Nat) (y : B8) (hk : k ≤ 9) (hX : X < 2 ^ (7 * k)) (c1 : ¬ (k = 9 ∧ 1 < y.toNat)) :
    IntKind.u64.wrap ((X : Int) + IntKind.u64.wrap ((y.toNat : Int) % 128 * 2 ^ (7 * k))) = ((X + y.toNat % 128 * 2 ^ (7 * k) : Nat) : Int) := by
  have hc := num_cap k y hk c1
  have hp : ((2 : Int) ^ (7 * k)) = ((2 ^ (7 * k) : Nat) : Int) := by simp
  have h2 : 2 ^ (7 * k) ≤ 2 ^ 63 := Nat.pow_le_pow_right (by decide) (by omega)
  have h3 : y.toNat % 128 * 2 ^ (7 * k) + 2 ^ (7 * k) ≤ 18446744073709551616 := by
    by_cases h : k = 9
    · subst h
      have h1 : y.toNat % 128 ≤ 1 := by omega
      rw [show 2 ^ (7 * 9) = 9223372036854775808 by decide]
      omega
    · have h1 : y.toNat % 128 ≤ 127 := by omega
      have h4 : 2 ^ (7 * k) ≤ 2 ^ 56 := Nat.pow_le_pow_right (by decide) (by omega)
      have := Nat.mul_le_mul h1 h4
      omega
  have e : (y.toNat : Int) % 128 = ((y.toNat % 128 : Nat) : Int) := by simp
  rw [e, hp, ← Int.natCast_mul, u64_wrap_id ((y.toNat % 128 * 2 ^ (7 * k) : Nat) : Int) (by omega) (by omega), u64_wrap_id _ (by omega) (by omega)]
  omega

theorem num_tuple3 {a b : Int} {c' d' : Value} (h : a = b) : Value.tuple #[.int .u64 a, c', d'] = .tuple #[.int .u64 b, c', d'] := by rw [h]

set_option maxRecDepth 100000 in
set_option maxHeartbeats 2000000 in
theorem rNumber_any (a : Option Addr) (c : Nat) (l : List B8) (w : World) (hr : Rd w a l) (hl : l.length ≤ 3000000) :
    Calls Tryd.prog 33 #[.slice a l.length c, .int .i64 0] w fun e w' => rNumEnd w e w' (vnum l) := by
  have HR := hid hr
  clear hr
  go_enter Tryd.func33, Tryd.ntmps33
  go_wp2_with fail
  go_loopw [7, 8] (fun x i wr => (∃ (k X : Nat), x = .int .u64 X ∧ i = .int .i64 k ∧ k ≤ 9 ∧ Hid (X < 2 ^ (7 * k)) ∧ Hid (vnumAux l (11 - k) k X = vnum l)) ∧ Below w.heap.size w wr) (fun _ i _ => 10 - (intOf i).toNat)
  case atStart => exact ⟨⟨0, 0, rfl, rfl, by omega, hid (by decide), hid rfl⟩, Below.refl _ _⟩
  case round =>
    obtain ⟨⟨k, X, rfl, rfl, hk, HX, HV⟩, bel⟩ := hrel
    have Bel := hid bel
    have HRr := hid (HR.out.later bel)
    clear bel
    by_cases hlt : k < l.length
    · obtain ⟨b, off, rfl, hc⟩ := HRr.out.gets (by intro e; rw [e] at hlt; simp at hlt)
      have hy := hc k hlt
      have HS := hid (show vnumAux l (11 - k) k X = if k = 9 ∧ 1 < l[k].toNat then .err 2 else if 0 < k ∧ l[k].toNat = 0 then .err 3 else if l[k].toNat < 128 then .ok (X + l[k].toNat % 128 * 2 ^ (7 * k)) (k + 1) else vnumAux l (10 - k) (k + 1) (X + l[k].toNat % 128 * 2 ^ (7 * k)) by
        rw [show 11 - k = 10 - k + 1 by omega, vnumAux, List.getElem?_eq_getElem hlt])
      generalize l[k] = y at *
      have hyl := y.isLt
      have hp : ((k : Nat) : Int) < (l.length : Int) := by omega
      clear hc
      by_cases c1 : k = 9 ∧ 1 < y.toNat
      · obtain ⟨rfl, c1⟩ := c1
        have HE := hid (show vnum l = .err 2 by rw [← HV.out, HS.out, if_pos ⟨rfl, c1⟩])
        clear HS HV
        go_wp2_with fail
        go_ret3
        rw [HE.out]
        exact ⟨rfl, Bel.out⟩
      · by_cases c2 : 0 < k ∧ y.toNat = 0
        · obtain ⟨c2, c3⟩ := c2
          have HE := hid (show vnum l = .err 3 by rw [← HV.out, HS.out, if_neg c1, if_pos ⟨c2, c3⟩])
          clear HS HV c1
          by_cases c9 : k = 9
          · subst c9
            go_wp2_with fail
            go_ret3
            rw [HE.out]
            exact ⟨rfl, Bel.out⟩
          · go_wp2_with fail
            go_ret3
            rw [HE.out]
            exact ⟨rfl, Bel.out⟩
        · have HW := hid (num_add k X y hk HX.out c1)
          by_cases c3 : y.toNat < 128
          · have HE := hid (show vnum l = .ok (X + y.toNat % 128 * 2 ^ (7 * k)) (k + 1) by rw [← HV.out, HS.out, if_neg c1, if_neg c2, if_pos c3])
            clear HS HV
            by_cases c9 : k = 9
            · subst c9
              have d1 : decide ((1 : Int) < (y.toNat : Int)) = false := by simp; omega
              have d2 : ((y.toNat : Int) == 0) = false := by simp; omega
              have hw9 := HW.out
              rw [show ((2 : Int) ^ (7 * 9)) = 9223372036854775808 by decide] at hw9
              have d3 : y.toNat ≤ 1 := by omega
              rw [u64_wrap_id ((y.toNat : Int) % 128 * 9223372036854775808) (by omega) (by omega)] at hw9
              have HW := hid hw9
              clear hw9
              go_wp2_with fail
              all_goals go_ret3
              all_goals rw [HE.out]
              all_goals exact ⟨ret_eq (num_tuple3 HW.out), Bel.out⟩
            · go_wp2_with fail
              all_goals go_ret3
              all_goals rw [HE.out]
              all_goals exact ⟨ret_eq (num_tuple3 HW.out), Bel.out⟩
          · have c9 : k ≠ 9 := fun e => c1 ⟨e, by omega⟩
            have HV2 := hid (show vnumAux l (11 - (k + 1)) (k + 1) (X + y.toNat % 128 * 2 ^ (7 * k)) = vnum l by rw [← HV.out, HS.out, if_neg c1, if_neg c2, if_neg c3, show 11 - (k + 1) = 10 - k by omega])
            have HX2 := hid (num_lt k X y HX.out)
            clear HS HV HX
            go_wp2_with fail
            all_goals go_roundw
            all_goals first
              | exact ⟨⟨k + 1, X + y.toNat % 128 * 2 ^ (7 * k), u64_eq HW.out, by go_num, by omega, HX2, HV2⟩, Bel.out⟩
              | (simp [intOf]; omega)
    · have HE := hid (show vnum l = .err 1 by rw [← HV.out, show 11 - k = 10 - k + 1 by omega]; exact vnumAux_none (List.getElem?_eq_none (by omega)))
      go_wp2_with fail
      go_ret3
      rw [HE.out]
      exact ⟨rfl, Bel.out⟩
end Go.Proofs.YtgbgcfdniodfpaaDoor
