/- The walk of vestrylaw03.CrcExtends. -/
import Derived.Test.YtgbgcfdniodfpaaAw
import Derived.Test.YtgbgcfdniodfpaaRw
namespace Go.Proofs.Ytgbgcfdniodfpaa
open Go.RowKit
set_option linter.unusedVariables false

set_option maxRecDepth 100000 in
set_option maxHeartbeats 1000000 in
theorem CrcExtends_walk (a0 : Option Addr) (c0 : Nat) (l0 : List B8) (a1 : Option Addr) (c1 : Nat) (l1 : List B8) (w : World) (r0 : Rd w a0 l0) (r1 : Rd w a1 l1) (b0 : l0.length ≤ 9223372036854775807) (b1 : l1.length ≤ 9223372036854775807) :
    Calls Try.prog 7 #[.slice a0 l0.length c0, .slice a1 l1.length c1] w fun e w' => e = .returned (.bool true) ∧ Below w.heap.size w w' := by
  have R0 := hid r0
  have R1 := hid r1
  clear r0 r1
  by_cases h0 : l0.length ≤ 1000
  · have hd0 : decide ((l0.length : Int) > 1000) = false := by simp; omega
    by_cases h1 : l1.length ≤ 1000
    · have hd1 : decide ((l1.length : Int) > 1000) = false := by simp; omega
      go_enter Try.func7, Try.ntmps7
      go_wp2_with fail
      refine (awake_any _).mono ?_
      rintro e w1 ⟨rfl, bel1⟩
      have Bel1 := hid bel1
      clear bel1
      go_wp2_with fail
      refine (Sum_any _ 1 [⟨a0, c0, l0⟩] _ (rds_one c0 _ (R0.out.later Bel1.out) (by omega)) (by simp)).mono ?_
      rintro e w2 ⟨rfl, bel2⟩
      have bw2 : Below w1.heap.size w1 w2 := ((Below.refl _ w1).alloc (Nat.le_refl _) _).trans (bel2.mono (by simp))
      have Bel2 := hid (Bel1.out.trans (bw2.mono Bel1.out.size))
      clear bel2 bw2 Bel1
      have Hx := hid (show crc ([(⟨a0, c0, l0⟩ : Part)].flatMap (·.bs)) = crc l0 by simp)
      generalize crc ([(⟨a0, c0, l0⟩ : Part)].flatMap (·.bs)) = x at *
      go_wp2_with fail
      refine (Extend_any x a1 c1 l1 _ (R1.out.later Bel2.out) b1).mono ?_
      rintro e w3 ⟨rfl, bel3⟩
      have Bel3 := hid (Bel2.out.trans (bel3.mono Bel2.out.size))
      have Hz := hid (show ext x l1 = crc (l0 ++ l1) by rw [Hx.out]; exact ext_append _ _ _)
      clear bel3 Bel2 Hx
      generalize ext x l1 = z at *
      have hB := Bel3.out.size
      have HO := hid (own_new w3 w.heap.size hB #[] [] rfl (by simp))
      have HR := hid ((R0.out.later Bel3.out).later ((Below.refl _ w3).alloc (Nat.le_refl _) (.cells #[] 5)))
      go_wp2_with (at_builtin; refine wpList_app rfl _ _ rfl w.heap.size _ _ [] rfl HO.out _ _ l0 rfl HR.out ?k1 ?k2 ?_)
      case k1 => simp; omega
      case k2 => simp; omega
      intro m a4 c4 w4 HN Own4 bel4
      have Bel4 := hid ((Bel3.out.alloc hB _).trans bel4.out)
      have hm : m.length ≤ 1000 := by rw [HN.out]; simpa using h0
      clear HO HR Bel3 bel4
      have hB4 := Bel4.out.size
      have HR := hid (R1.out.later Bel4.out)
      go_wp2_with (at_builtin; refine wpList_app rfl _ _ rfl w.heap.size _ _ m rfl Own4.out _ _ l1 rfl HR.out ?k1 ?k2 ?_)
      case k1 => omega
      case k2 => omega
      intro m2 a5 c5 w5 HN2 Own5 bel5
      have Bel5 := hid (Bel4.out.trans bel5.out)
      have hm2 : m2.length ≤ 2000 := by rw [HN2.out, List.length_append]; omega
      have HM2 := hid (show m2 = l0 ++ l1 by rw [HN2.out, HN.out])
      clear Own4 Bel4 bel5 HR HN HN2
      go_wp2_with fail
      refine (Fast_any a5 c5 m2 _ Own5.out.rd (by omega)).mono ?_
      rintro e w6 ⟨rfl, bel6⟩
      rw [HM2.out, ← Hz.out]
      have Bel6 := hid (Bel5.out.trans (bel6.mono Bel5.out.size))
      clear bel6 Bel5 HM2 Own5
      go_wp2_with fail
      refine (Extend_any 0#32 a1 c1 l1 _ (R1.out.later Bel6.out) b1).mono ?_
      rintro e w7 ⟨rfl, bel7⟩
      have Bel7 := hid (Bel6.out.trans (bel7.mono Bel6.out.size))
      clear bel7 Bel6
      rw [show ext 0#32 l1 = crc l1 from rfl]
      obtain ⟨q, hq⟩ : ∃ q, q = crc l1 := ⟨_, rfl⟩
      rw [← hq]
      have Hq := hid hq
      clear hq
      go_wp2_with fail
      refine (Fast_any a1 c1 l1 _ (R1.out.later Bel7.out) (by omega)).mono ?_
      rintro e w8 ⟨rfl, bel8⟩
      rw [← Hq.out]
      have Bel8 := hid (Bel7.out.trans (bel8.mono Bel7.out.size))
      clear bel8 Bel7
      go_wp2_with fail
      go_ret
      exact ⟨rfl, Bel8.out⟩
    · have hd1 : decide ((l1.length : Int) > 1000) = true := by simp; omega
      go_enter Try.func7, Try.ntmps7
      go_wp2_with fail
      refine (awake_any _).mono ?_
      rintro e w1 ⟨rfl, bel1⟩
      have Bel1 := hid bel1
      clear bel1
      go_wp2_with fail
      refine (awake_any _).mono ?_
      rintro e w2 ⟨rfl, bel2⟩
      have Bel2 := hid (Bel1.out.trans (bel2.mono Bel1.out.size))
      clear bel2
      go_wp2_with fail
      go_ret
      exact ⟨rfl, Bel2.out⟩
  · have hd0 : decide ((l0.length : Int) > 1000) = true := by simp; omega
    go_enter Try.func7, Try.ntmps7
    go_wp2_with fail
    refine (awake_any _).mono ?_
    rintro e w1 ⟨rfl, bel1⟩
    have Bel1 := hid bel1
    clear bel1
    go_wp2_with fail
    refine (awake_any _).mono ?_
    rintro e w2 ⟨rfl, bel2⟩
    have Bel2 := hid (Bel1.out.trans (bel2.mono Bel1.out.size))
    clear bel2
    go_wp2_with fail
    go_ret
    exact ⟨rfl, Bel2.out⟩
end Go.Proofs.Ytgbgcfdniodfpaa
