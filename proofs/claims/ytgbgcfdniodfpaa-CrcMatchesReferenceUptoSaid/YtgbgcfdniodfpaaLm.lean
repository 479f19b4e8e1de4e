/- The walk of vestrylaw03.CrcMatchesReference. -/
import Derived.Test.YtgbgcfdniodfpaaAw
import Derived.Test.YtgbgcfdniodfpaaSu
import Derived.Test.YtgbgcfdniodfpaaJo
namespace Go.Proofs.Ytgbgcfdniodfpaa
open Go.RowKit
set_option linter.unusedVariables false

set_option maxRecDepth 100000 in
set_option maxHeartbeats 1000000 in
theorem CrcMatchesReference_walk (a : Option Addr) (c : Nat) (ps : List Part) (w : World) (hr : Rds w a ps) (hl : ps.length ≤ 4000000) (ht : (ps.flatMap (·.bs)).length ≤ 3000000) :
    Calls Try.prog 3 #[.slice a ps.length c] w fun e w' => e = .returned (.bool true) ∧ Below w.heap.size w w' := by
  have Hr := hid hr
  have Ht := hid ht
  clear hr ht
  by_cases h20 : ps.length ≤ 20
  · have hd : decide ((ps.length : Int) > 20) = false := by simp; omega
    go_enter Try.func3, Try.ntmps3
    go_wp2_with fail
    refine (awake_any _).mono ?_
    rintro e w1 ⟨rfl, bel1⟩
    have Bel1 := hid bel1
    clear bel1
    go_wp2_with fail
    refine (rJoin_any a c ps _ (Hr.out.later Bel1.out) hl Ht.out).mono ?_
    rintro e w2 ⟨a2, c2, rfl, own2, bel2⟩
    have Own2 := hid own2
    have Bel2 := hid (Bel1.out.trans (bel2.mono Bel1.out.size))
    clear own2 bel2 Bel1
    obtain ⟨L, hL⟩ : ∃ L, L = ps.flatMap (·.bs) := ⟨_, rfl⟩
    rw [← hL] at Own2 Ht ⊢
    have HL := hid hL
    clear hL
    by_cases h200 : L.length ≤ 200
    · have hd2 : decide ((L.length : Int) > 200) = false := by simp; omega
      go_wp2_with fail
      refine (rSum_any a2 c2 L _ Own2.out.rd (by omega)).mono ?_
      rintro e w3 ⟨rfl, bel3⟩
      have Own3 := hid (Own2.out.later bel3)
      have Bel3 := hid (Bel2.out.trans (bel3.mono Bel2.out.size))
      clear bel3 Bel2 Own2
      obtain ⟨x, hx⟩ : ∃ x, x = crc L := ⟨_, rfl⟩
      rw [← hx]
      have Hx := hid hx
      clear hx
      go_wp2_with fail
      refine (Sum_any a c ps _ (Hr.out.later Bel3.out) hl).mono ?_
      rintro e w4 ⟨rfl, bel4⟩
      have Own4 := hid (Own3.out.later bel4)
      have Bel4 := hid (Bel3.out.trans (bel4.mono Bel3.out.size))
      rw [← HL.out, ← Hx.out]
      clear bel4 Bel3 Own3
      go_wp2_with fail
      refine (Fast_any a2 c2 L _ Own4.out.rd (by omega)).mono ?_
      rintro e w5 ⟨rfl, bel5⟩
      have Bel5 := hid (Bel4.out.trans (bel5.mono Bel4.out.size))
      rw [← Hx.out]
      clear bel5 Bel4 Own4
      go_wp2_with fail
      go_ret
      exact ⟨rfl, Bel5.out⟩
    · have hd2 : decide ((L.length : Int) > 200) = true := by simp; omega
      go_wp2_with fail
      go_ret
      exact ⟨rfl, Bel2.out⟩
  · have hd : decide ((ps.length : Int) > 20) = true := by simp; omega
    go_enter Try.func3, Try.ntmps3
    go_wp2_with fail
    refine (awake_any _).mono ?_
    rintro e w1 ⟨rfl, bel1⟩
    have Bel1 := hid bel1
    clear bel1
    go_wp2_with fail
    refine (awake_any _).mono ?_
    rintro e w2 ⟨rfl, bel2⟩
    have Bel2 := hid (Bel1.out.trans (bel2.mono Bel1.out.size))
    clear bel2
    go_wp2_with fail
    go_ret
    exact ⟨rfl, Bel2.out⟩
end Go.Proofs.Ytgbgcfdniodfpaa
