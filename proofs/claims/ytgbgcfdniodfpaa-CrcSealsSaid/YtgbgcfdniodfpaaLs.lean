/- The walk of vestrylaw03.CrcSeals. -/
import Derived.Test.YtgbgcfdniodfpaaAw
import Derived.Test.YtgbgcfdniodfpaaRw
import Derived.Test.YtgbgcfdniodfpaaSp
namespace Go.Proofs.Ytgbgcfdniodfpaa
open Go.RowKit
set_option linter.unusedVariables false

theorem Same_body (a1 a2 : Option Addr) (c1 c2 : Nat) (z l : List B8) (w : World) (r1 : Rd w a1 z) (r2 : Rd w a2 l) (hz : z.length ≤ 4000000) (hl : l.length ≤ 4000000) (h : z = body l) :
    Calls Try.prog 15 #[.slice a1 z.length c1, .slice a2 (l.length - 4) c2] w fun e w' => e = .returned (.bool true) ∧ Below w.heap.size w w' := by
  have h1 := Same_any a1 a2 c1 c2 z (body l) w r1 (body_rd r2) hz (Nat.le_trans (body_le l) hl) true (by rw [h]; simp)
  rwa [body_length] at h1

set_option maxRecDepth 100000 in
set_option maxHeartbeats 1000000 in
theorem CrcSeals_walk (a0 : Option Addr) (c0 : Nat) (l0 : List B8) (a1 : Option Addr) (c1 : Nat) (l1 : List B8) (w : World) (r0 : Rd w a0 l0) (r1 : Rd w a1 l1) (b0 : l0.length ≤ 9223372036854775807) (b1 : l1.length ≤ 9223372036854775807) (k1 : l1.length ≤ c1) :
    Calls Try.prog 4 #[.slice a0 l0.length c0, .slice a1 l1.length c1] w fun e w' => e = .returned (.bool true) ∧ Below w.heap.size w w' := by
  have R0 := hid r0
  have R1 := hid r1
  clear r0 r1
  by_cases h0 : l0.length ≤ 2000
  · have hd0 : decide ((l0.length : Int) > 2000) = false := by simp; omega
    by_cases h1 : l1.length ≤ 2000
    · have hd1 : decide ((l1.length : Int) > 2000) = false := by simp; omega
      go_enter Try.func4, Try.ntmps4
      go_wp2_with fail
      refine (awake_any _).mono ?_
      rintro e w1 ⟨rfl, bel1⟩
      have Bel1 := hid bel1
      clear bel1
      go_wp2_with fail
      refine (Seal_any a0 c0 l0 _ (R0.out.later Bel1.out) (by omega)).mono ?_
      rintro e w2 ⟨a2, c2, rfl, own2, bel2⟩
      have R2 := hid own2.rd
      have Bel2 := hid (Bel1.out.trans (bel2.mono Bel1.out.size))
      have Cap2 := hid own2.cap
      clear own2 bel2 Bel1
      obtain ⟨y, hy⟩ : ∃ y, y = sealOf l0 := ⟨_, rfl⟩
      rw [← hy] at R2 Cap2 ⊢
      have hyl : y.length ≤ 2004 := by rw [hy, sealOf_length]; omega
      have Hy := hid hy
      clear hy
      have R0 := hid (R0.out.later Bel2.out)
      have R1 := hid (R1.out.later Bel2.out)
      go_wp2_with fail
      refine (Open_yes a2 c2 y _ R2.out Cap2.out (by omega) (by rw [Hy.out]; exact isSealed_seal _)).mono ?_
      rintro e w3 ⟨a3, c3, rfl, own3, bel3⟩
      have hby : body y = l0 := by rw [Hy.out, body_seal]
      rw [hby] at own3 ⊢
      have Own3 := hid own3
      have Bel3 := hid bel3
      clear own3 bel3 hby Cap2
      go_wp2_with fail
      cases hs : isSealed l1 with
      | true =>
        have HS := hid hs
        clear hs
        refine (Open_yes a1 c1 l1 _ (R1.out.later Bel3.out) k1 (by omega) HS.out).mono ?_
        rintro e w4 ⟨a4, c4, rfl, own4, bel4⟩
        have Own3 := hid (Own3.out.later bel4)
        have Own4 := hid own4
        have Bel4 := hid (Bel3.out.trans (bel4.mono Bel3.out.size))
        clear own4 bel4 Bel3
        have hbl := body_length l1
        have h4 : 4 ≤ l1.length := by have := HS.out; unfold isSealed at this; simp at this; omega
        obtain ⟨z, hz⟩ : ∃ z, z = body l1 := ⟨_, rfl⟩
        rw [← hz] at Own4 hbl ⊢
        have Hz := hid hz
        have Hzl := hid hbl
        have hzl : z.length ≤ 2000 := by omega
        clear hz hbl
        go_wp2_with fail
        refine (rSeal_any a0 c0 l0 _ (R0.out.later Bel4.out) (by omega)).mono ?_
        rintro e w5 ⟨a5, c5, rfl, own5, bel5⟩
        rw [← Hy.out] at own5 ⊢
        have Own3 := hid (Own3.out.later bel5)
        have Own4 := hid (Own4.out.later bel5)
        have Own5 := hid own5
        have Bel5 := hid (Bel4.out.trans (bel5.mono Bel4.out.size))
        clear own5 bel5 Bel4
        go_wp2_with fail
        refine (Same_any a2 a5 c2 c5 y y _ (R2.out.later Bel5.out) Own5.out.rd (by omega) (by omega) true (by simp)).mono ?_
        rintro e w6 ⟨rfl, bel6⟩
        have Own3 := hid (Own3.out.later bel6)
        have Own4 := hid (Own4.out.later bel6)
        have Bel6 := hid (Bel5.out.trans (bel6.mono Bel5.out.size))
        clear bel6 Bel5 Own5
        go_wp2_with fail
        refine (Same_any a3 a0 c3 c0 l0 l0 _ Own3.out.rd (R0.out.later Bel6.out) (by omega) (by omega) true (by simp)).mono ?_
        rintro e w7 ⟨rfl, bel7⟩
        have Own3 := hid (Own3.out.later bel7)
        have Own4 := hid (Own4.out.later bel7)
        have Bel7 := hid (Bel6.out.trans (bel7.mono Bel6.out.size))
        clear bel7 Bel6
        go_wp2_with fail
        refine (Sealed_any a1 c1 l1 _ (R1.out.later Bel7.out) k1 (by omega) true HS.out.symm).mono ?_
        rintro e w8 ⟨rfl, bel8⟩
        have Own3 := hid (Own3.out.later bel8)
        have Own4 := hid (Own4.out.later bel8)
        have Bel8 := hid (Bel7.out.trans (bel8.mono Bel7.out.size))
        clear bel8 Bel7
        go_wp2_with fail
        refine (Same_body a4 a1 c4 c1 z l1 _ Own4.out.rd (R1.out.later Bel8.out) (by omega) (by omega) Hz.out).mono ?_
        rintro e w9 ⟨rfl, bel9⟩
        have Own3 := hid (Own3.out.later bel9)
        have Bel9 := hid (Bel8.out.trans (bel9.mono Bel8.out.size))
        clear bel9 Bel8 Own4
        go_wp2_with fail
        go_loopw [10] (fun i wr => (∃ (k : Nat) (L : List B8), k ≤ l0.length ∧ i = .int .i64 k ∧ L.length = l0.length ∧ Hid (Own wr w2.heap.size a3 c3 L)) ∧ Below w2.heap.size w2 wr) (fun i _ => l0.length - (intOf i).toNat)
        case atStart => exact ⟨⟨0, l0, by omega, rfl, rfl, Own3⟩, Bel9.out⟩
        case round =>
          clear Own3
          obtain ⟨⟨k, L, hk, rfl, hL, HO⟩, bel⟩ := hrel
          have HL := hid hL
          have Bel := hid bel
          clear hL bel
          by_cases hlt : k < l0.length
          · have hkL : k < L.length := by have := HL.out; omega
            obtain ⟨g, rfl, hg, hgl, hcs, hfs⟩ := HO.out.at (by intro e; rw [e] at hkL; simp at hkL)
            have q1 := hcs k hkL
            have q2 := hfs k
            clear hcs hfs
            generalize L[k] = x at *
            obtain ⟨v, hv⟩ := some_byte ((x.toNat : Int) + 1)
            have Hv := hid hv
            clear hv
            have hxl := x.isLt
            go_wp2_with fail
            go_roundw
            case rel =>
              rw [Hv.out]
              exact ⟨⟨k + 1, L.set k v, by omega, by go_num, by rw [List.length_set]; exact HL.out, hid (own_set HO.out k v hkL)⟩, Bel.out.setCell hg _⟩
            case measure => simp [intOf]; omega
          · obtain rfl : k = l0.length := by omega
            go_wp2_with fail
            refine (rSeal_any a0 c0 l0 _ (R0.out.later Bel.out) (by omega)).mono ?_
            rintro e w11 ⟨a11, c11, rfl, own11, bel11⟩
            rw [← Hy.out] at own11 ⊢
            have Own11 := hid own11
            have Bel11 := hid (Bel.out.trans (bel11.mono Bel.out.size))
            clear own11 bel11 Bel
            go_wp2_with fail
            refine (Same_any a2 a11 c2 c11 y y _ (R2.out.later Bel11.out) Own11.out.rd (by omega) (by omega) true (by simp)).mono ?_
            rintro e w12 ⟨rfl, bel12⟩
            have Bel12 := hid (Bel2.out.trans ((Bel11.out.trans (bel12.mono Bel11.out.size)).mono Bel2.out.size))
            clear bel12 Bel11 Own11
            go_wp2_with fail
            go_ret
            exact ⟨rfl, Bel12.out⟩
      | false =>
        have HS := hid hs
        clear hs
        refine (Open_no a1 c1 l1 _ (R1.out.later Bel3.out) k1 (by omega) HS.out).mono ?_
        rintro e w4 ⟨a4, c4, rfl, own4, bel4⟩
        have Own3 := hid (Own3.out.later bel4)
        have Bel4 := hid (Bel3.out.trans (bel4.mono Bel3.out.size))
        clear own4 bel4 Bel3
        go_wp2_with fail
        refine (rSeal_any a0 c0 l0 _ (R0.out.later Bel4.out) (by omega)).mono ?_
        rintro e w5 ⟨a5, c5, rfl, own5, bel5⟩
        rw [← Hy.out] at own5 ⊢
        have Own3 := hid (Own3.out.later bel5)
        have Own5 := hid own5
        have Bel5 := hid (Bel4.out.trans (bel5.mono Bel4.out.size))
        clear own5 bel5 Bel4
        go_wp2_with fail
        refine (Same_any a2 a5 c2 c5 y y _ (R2.out.later Bel5.out) Own5.out.rd (by omega) (by omega) true (by simp)).mono ?_
        rintro e w6 ⟨rfl, bel6⟩
        have Own3 := hid (Own3.out.later bel6)
        have Bel6 := hid (Bel5.out.trans (bel6.mono Bel5.out.size))
        clear bel6 Bel5 Own5
        go_wp2_with fail
        refine (Same_any a3 a0 c3 c0 l0 l0 _ Own3.out.rd (R0.out.later Bel6.out) (by omega) (by omega) true (by simp)).mono ?_
        rintro e w7 ⟨rfl, bel7⟩
        have Own3 := hid (Own3.out.later bel7)
        have Bel7 := hid (Bel6.out.trans (bel7.mono Bel6.out.size))
        clear bel7 Bel6
        go_wp2_with fail
        refine (Sealed_any a1 c1 l1 _ (R1.out.later Bel7.out) k1 (by omega) false HS.out.symm).mono ?_
        rintro e w8 ⟨rfl, bel8⟩
        have Own3 := hid (Own3.out.later bel8)
        have Bel8 := hid (Bel7.out.trans (bel8.mono Bel7.out.size))
        clear bel8 Bel7
        go_wp2_with fail
        go_loopw [10] (fun i wr => (∃ (k : Nat) (L : List B8), k ≤ l0.length ∧ i = .int .i64 k ∧ L.length = l0.length ∧ Hid (Own wr w2.heap.size a3 c3 L)) ∧ Below w2.heap.size w2 wr) (fun i _ => l0.length - (intOf i).toNat)
        case atStart => exact ⟨⟨0, l0, by omega, rfl, rfl, Own3⟩, Bel8.out⟩
        case round =>
          clear Own3
          obtain ⟨⟨k, L, hk, rfl, hL, HO⟩, bel⟩ := hrel
          have HL := hid hL
          have Bel := hid bel
          clear hL bel
          by_cases hlt : k < l0.length
          · have hkL : k < L.length := by have := HL.out; omega
            obtain ⟨g, rfl, hg, hgl, hcs, hfs⟩ := HO.out.at (by intro e; rw [e] at hkL; simp at hkL)
            have q1 := hcs k hkL
            have q2 := hfs k
            clear hcs hfs
            generalize L[k] = x at *
            obtain ⟨v, hv⟩ := some_byte ((x.toNat : Int) + 1)
            have Hv := hid hv
            clear hv
            have hxl := x.isLt
            go_wp2_with fail
            go_roundw
            case rel =>
              rw [Hv.out]
              exact ⟨⟨k + 1, L.set k v, by omega, by go_num, by rw [List.length_set]; exact HL.out, hid (own_set HO.out k v hkL)⟩, Bel.out.setCell hg _⟩
            case measure => simp [intOf]; omega
          · obtain rfl : k = l0.length := by omega
            go_wp2_with fail
            refine (rSeal_any a0 c0 l0 _ (R0.out.later Bel.out) (by omega)).mono ?_
            rintro e w11 ⟨a11, c11, rfl, own11, bel11⟩
            rw [← Hy.out] at own11 ⊢
            have Own11 := hid own11
            have Bel11 := hid (Bel.out.trans (bel11.mono Bel.out.size))
            clear own11 bel11 Bel
            go_wp2_with fail
            refine (Same_any a2 a11 c2 c11 y y _ (R2.out.later Bel11.out) Own11.out.rd (by omega) (by omega) true (by simp)).mono ?_
            rintro e w12 ⟨rfl, bel12⟩
            have Bel12 := hid (Bel2.out.trans ((Bel11.out.trans (bel12.mono Bel11.out.size)).mono Bel2.out.size))
            clear bel12 Bel11 Own11
            go_wp2_with fail
            go_ret
            exact ⟨rfl, Bel12.out⟩
    · have hd1 : decide ((l1.length : Int) > 2000) = true := by simp; omega
      go_enter Try.func4, Try.ntmps4
      go_wp2_with fail
      refine (awake_any _).mono ?_
      rintro e w1 ⟨rfl, bel1⟩
      have Bel1 := hid bel1
      clear bel1
      go_wp2_with fail
      refine (awake_any _).mono ?_
      rintro e w2 ⟨rfl, bel2⟩
      have Bel2 := hid (Bel1.out.trans (bel2.mono Bel1.out.size))
      clear bel2
      go_wp2_with fail
      go_ret
      exact ⟨rfl, Bel2.out⟩
  · have hd0 : decide ((l0.length : Int) > 2000) = true := by simp; omega
    go_enter Try.func4, Try.ntmps4
    go_wp2_with fail
    refine (awake_any _).mono ?_
    rintro e w1 ⟨rfl, bel1⟩
    have Bel1 := hid bel1
    clear bel1
    go_wp2_with fail
    refine (awake_any _).mono ?_
    rintro e w2 ⟨rfl, bel2⟩
    have Bel2 := hid (Bel1.out.trans (bel2.mono Bel1.out.size))
    clear bel2
    go_wp2_with fail
    go_ret
    exact ⟨rfl, Bel2.out⟩
end Go.Proofs.Ytgbgcfdniodfpaa
