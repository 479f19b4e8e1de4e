/- The walk of FrameMatchesReference. -/
import Derived.Test.YtgbgcfdniodfpaaDoorWk
namespace Go.Proofs.YtgbgcfdniodfpaaDoor
open Go.RowKit
set_option linter.unusedVariables false

theorem fput_length (p : List B8) : (fput p).length = (vput p.length).length + p.length + 4 := by rw [fput, List.length_append, sealOf_length]; omega
theorem fput_le {p : List B8} (h : p.length ≤ 65536) : (fput p).length ≤ p.length + 7 := by have := vput_three h; rw [fput_length]; omega

set_option maxRecDepth 100000 in
set_option maxHeartbeats 2000000 in
theorem matches_any (a1 a2 : Option Addr) (c1 c2 : Nat) (l1 l2 : List B8) (w : World) (he : Et w) (h1 : Rd w a1 l1) (h2 : Rd w a2 l2) (n1 : l1.length ≤ 9223372036854775807) (n2 : l2.length ≤ 9223372036854775807) :
    Calls Tryd.prog 3 #[.slice a1 l1.length c1, .slice a2 l2.length c2] w fun e w' => e = .returned (.bool true) ∧ Below w.heap.size w w' := by
  have HE := hid he
  have H1 := hid h1
  have H2 := hid h2
  have HA := hid (awake_any w he)
  clear he h1 h2
  by_cases c : l1.length ≤ 2000 ∧ l2.length ≤ 100
  · obtain ⟨d1, d2⟩ := c
    go_enter Tryd.func3, Tryd.ntmps3
    go_wp2_with fail
    refine HA.out.mono ?_
    rintro e w1 ⟨rfl, bel1⟩
    have Bel1 := hid bel1
    clear bel1 HA
    go_wp2_with fail
    refine (Put_ok a1 c1 l1 _ (H1.out.later Bel1.out) (by omega)).mono ?_
    rintro e w2 ⟨a3, c3, rfl, own2, bel2⟩
    have R2 := hid own2.rd
    have Bel2 := hid (Bel1.out.trans (bel2.mono Bel1.out.size))
    clear own2 bel2 Bel1
    obtain ⟨y, hy⟩ : ∃ y, y = fput l1 := ⟨_, rfl⟩
    have hyl : y.length ≤ 2010 := by rw [hy]; have := fput_le (p := l1) (by omega); omega
    have Hz := hid (show (vput l1.length).length + l1.length + 4 = y.length by rw [hy, fput_length])
    rw [← hy] at R2 ⊢
    have Hy := hid hy
    clear hy
    have hB := Bel2.out.size
    have HO := hid (own_new w2 w2.heap.size (Nat.le_refl _) #[] [] rfl (by simp))
    have R2a := hid (R2.out.later ((Below.refl _ w2).alloc (Nat.le_refl _) (.cells #[] 5)))
    go_wp2_with (at_builtin; refine wpList_app rfl _ _ rfl w2.heap.size _ _ [] rfl HO.out _ _ y rfl R2a.out ?k1 ?k2 ?_)
    case k1 => simp; omega
    case k2 => simp
    intro L3 a4 c4 w3 HN3 Own3 bel3
    have BW3 := hid ((((Below.refl _ w2).alloc (Nat.le_refl _) _)).trans bel3.out)
    have HL3 := hid (show L3 = y from HN3.out)
    have hL3 : L3.length = y.length := by rw [HL3.out]
    have Rm := hid ((H2.out.later Bel2.out).later BW3.out)
    clear bel3 HN3 HO R2a
    go_wp2_with (at_builtin; refine wpList_app rfl _ _ rfl w2.heap.size _ _ L3 rfl Own3.out _ _ l2 rfl Rm.out ?k1 ?k2 ?_)
    case k1 => omega
    case k2 => exact BW3.out.size
    intro L4 a5 c5 w4 HN4 Own4 bel4
    have BW4 := hid (BW3.out.trans bel4.out)
    have HL4 := hid (show L4 = fput l1 ++ l2 by rw [HN4.out, HL3.out, Hy.out])
    have hL4 : L4.length ≤ 3000 := by rw [HN4.out, List.length_append]; omega
    have Bel4 := hid (Bel2.out.trans (BW4.out.mono Bel2.out.size))
    have R4 := hid (R2.out.later BW4.out)
    have hRead := hid (Read_any a5 c5 L4 w4 (HE.out.later Bel4.out) Own4.out.rd Own4.out.cap (by omega))
    rw [HL4.out, rd_put l1 l2 (by omega), ← HL4.out, ← Hy.out] at hRead
    clear bel4 HN4 Own3 Own4 Rm BW3 BW4 hL3 HL3 R2 Bel2 hB hL4 HL4
    go_wp2_with fail
    refine hRead.out.mono ?_
    rintro e w5 ⟨a6, c6, rfl, own5, bel5⟩
    have R5 := hid own5.rd
    have R4 := hid (R4.out.later bel5)
    have Bel5 := hid (Bel4.out.trans (bel5.mono Bel4.out.size))
    clear own5 bel5 Bel4 hRead
    go_wp2_with fail
    refine (rPutF_any a1 c1 l1 _ (H1.out.later Bel5.out) (by omega)).mono ?_
    rw [← Hy.out]
    rintro e w6 ⟨a7, c7, rfl, own6, bel6⟩
    have R6 := hid own6.rd
    have R5 := hid (R5.out.later bel6)
    have R4 := hid (R4.out.later bel6)
    have Bel6 := hid (Bel5.out.trans (bel6.mono Bel5.out.size))
    clear own6 bel6 Bel5
    go_wp2_with fail
    refine (Same_any a3 a7 c3 c7 y y _ R4.out R6.out (by omega) (by omega) true (by simp)).mono ?_
    rintro e w7 ⟨rfl, bel7⟩
    have R5 := hid (R5.out.later bel7)
    have Bel7 := hid (Bel6.out.trans (bel7.mono Bel6.out.size))
    clear bel7 Bel6
    go_wp2_with fail
    refine (Same_any a6 a1 c6 c1 l1 l1 _ R5.out (H1.out.later Bel7.out) (by omega) (by omega) true (by simp)).mono ?_
    rintro e w8 ⟨rfl, bel8⟩
    have Bel8 := hid (Bel7.out.trans (bel8.mono Bel7.out.size))
    clear bel8 Bel7
    have hS := hid (Size_any l1.length w8 (by omega))
    rw [Hz.out] at hS
    go_wp2_with fail
    refine hS.out.mono ?_
    rintro e w9 ⟨rfl, bel9⟩
    have Bel9 := hid (Bel8.out.trans (bel9.mono Bel8.out.size))
    clear bel9 Bel8 hS
    go_wp2_with fail
    go_ret
    exact ⟨rfl, Bel9.out⟩
  · have HA2 := hid (fun (v : World) (b : Below w.heap.size w v) => awake_any v (HE.out.later b))
    by_cases d1 : 2000 < l1.length
    all_goals
      go_enter Tryd.func3, Tryd.ntmps3
      go_wp2_with fail
      refine HA.out.mono ?_
      rintro e w1 ⟨rfl, bel1⟩
      have HA3 := hid (HA2.out w1 bel1)
      have Bel1 := hid bel1
      clear bel1 HA HA2
      go_wp2_with fail
      refine HA3.out.mono ?_
      rintro e w2 ⟨rfl, bel2⟩
      have Bel2 := hid (Bel1.out.trans (bel2.mono Bel1.out.size))
      clear bel2 Bel1 HA3
      go_wp2_with fail
      go_ret
      exact ⟨rfl, Bel2.out⟩
end Go.Proofs.YtgbgcfdniodfpaaDoor
