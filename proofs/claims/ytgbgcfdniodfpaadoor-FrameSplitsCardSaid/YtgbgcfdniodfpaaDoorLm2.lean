/- The walk of FrameReads. -/
import Derived.Test.YtgbgcfdniodfpaaDoorLm1
namespace Go.Proofs.YtgbgcfdniodfpaaDoor
open Go.RowKit
set_option linter.unusedVariables false

theorem rd_errs {b : List B8} {e o : Nat} (h : rd b = .err e o) : e = 1 ∨ e = 2 ∨ e = 3 ∨ e = 4 ∨ e = 15 := by
  unfold rd at h
  cases hv : vnum b with
  | err n =>
    rw [hv] at h
    have := vnum_errs hv
    simp only at h
    split at h <;> simp only [RR.err.injEq] at h <;> omega
  | ok n i =>
    rw [hv] at h
    simp only at h
    split at h
    · simp only [RR.err.injEq] at h; omega
    · split at h
      · simp only [RR.err.injEq] at h; omega
      · split at h
        · cases h
        · simp only [RR.err.injEq] at h; omega

set_option maxRecDepth 100000 in
set_option maxHeartbeats 2000000 in
theorem reads_any (a1 : Option Addr) (c1 : Nat) (l1 : List B8) (w : World) (he : Et w) (h1 : Rd w a1 l1) (hc : l1.length ≤ c1) (n1 : l1.length ≤ 9223372036854775807) :
    Calls Tryd.prog 4 #[.slice a1 l1.length c1] w fun e w' => e = .returned (.bool true) ∧ Below w.heap.size w w' := by
  have HE := hid he
  have H1 := hid h1
  have HA := hid (awake_any w he)
  clear he h1
  by_cases d1 : l1.length ≤ 2000
  · have hRd := hid (fun (v : World) (b : Below w.heap.size w v) => Read_any a1 c1 l1 v (HE.out.later b) (H1.out.later b) hc (by omega))
    have hRr := hid (fun (v : World) (b : Below w.heap.size w v) => rRead_any a1 c1 l1 v (H1.out.later b) hc (by omega))
    obtain ⟨r, hr⟩ : ∃ r, r = rd l1 := ⟨_, rfl⟩
    rw [← hr] at hRd hRr
    have Hr := hid hr.symm
    clear hr
    rcases r with ⟨n, o⟩ | ⟨p, u⟩
    · have hn := rd_errs Hr.out
      have k0 : ((n : Int) == 0) = false := by simp; omega
      have k1 : ((n : Int) != 0) = true := by simp; omega
      clear hn
      go_enter Tryd.func4, Tryd.ntmps4
      go_wp2_with fail
      refine HA.out.mono ?_
      rintro e w1 ⟨rfl, bel1⟩
      have Bel1 := hid bel1
      clear bel1 HA
      go_wp2_with fail
      refine (hRd.out _ Bel1.out).mono ?_
      rintro e w2 ⟨rfl, bel2⟩
      have Bel2 := hid (Bel1.out.trans (bel2.mono Bel1.out.size))
      clear bel2 Bel1
      go_wp2_with fail
      refine (hRr.out _ Bel2.out).mono ?_
      rintro e w3 ⟨rfl, bel3⟩
      have Bel3 := hid (Bel2.out.trans (bel3.mono Bel2.out.size))
      clear bel3 Bel2
      go_wp2_with fail
      refine (told_fault n o _ (HE.out.later Bel3.out) k0).mono ?_
      rintro e w4 ⟨rfl, bel4⟩
      have Bel4 := hid (Bel3.out.trans (bel4.mono Bel3.out.size))
      clear bel4 Bel3
      go_wp2_with fail
      refine (Same_any none none 0 0 [] [] _ (.inl rfl) (.inl rfl) (by simp) (by simp) true (by simp)).mono ?_
      rintro e w5 ⟨rfl, bel5⟩
      have Bel5 := hid (Bel4.out.trans (bel5.mono Bel4.out.size))
      clear bel5 Bel4
      go_wp2_with fail
      go_ret
      exact ⟨rfl, Bel5.out⟩
    · obtain ⟨p1, p2, p3, p4⟩ := rd_ok Hr.out
      have hcu : u ≤ c1 := by omega
      have HT := hid p4
      have hul : (l1.take u).length = u := by simp; omega
      have Hul := hid hul
      have hyl := fput_le p1
      obtain ⟨y, hy⟩ : ∃ y, y = fput p := ⟨_, rfl⟩
      rw [← hy] at hyl
      have Hy := hid hy
      have hpl : p.length ≤ 2000 := by
        have e1 := congrArg List.length HT.out
        rw [fput_length, hul] at e1; omega
      have Hp4 := hid hpl
      clear p4 hul hy
      go_enter Tryd.func4, Tryd.ntmps4
      go_wp2_with fail
      refine HA.out.mono ?_
      rintro e w1 ⟨rfl, bel1⟩
      have Bel1 := hid bel1
      clear bel1 HA
      go_wp2_with fail
      refine (hRd.out _ Bel1.out).mono ?_
      rintro e w2 ⟨a2, c2, rfl, own2, bel2⟩
      have R2 := hid own2.rd
      have Bel2 := hid (Bel1.out.trans (bel2.mono Bel1.out.size))
      clear own2 bel2 Bel1
      go_wp2_with fail
      refine (hRr.out _ Bel2.out).mono ?_
      rintro e w3 ⟨a3, c3, rfl, R3, hc3, bel3⟩
      have R3 := hid R3
      have R2 := hid (R2.out.later bel3)
      have Bel3 := hid (Bel2.out.trans (bel3.mono Bel2.out.size))
      clear bel3 Bel2
      go_wp2_with fail
      refine (told_nil 0 _).mono ?_
      rintro e w4 ⟨rfl, bel4⟩
      have R3 := hid (R3.out.later bel4)
      have R2 := hid (R2.out.later bel4)
      have Bel4 := hid (Bel3.out.trans (bel4.mono Bel3.out.size))
      clear bel4 Bel3
      go_wp2_with fail
      refine (Same_any a2 a3 c2 c3 p p _ R2.out R3.out (by omega) (by omega) true (by simp)).mono ?_
      rintro e w5 ⟨rfl, bel5⟩
      have R2 := hid (R2.out.later bel5)
      have Bel5 := hid (Bel4.out.trans (bel5.mono Bel4.out.size))
      clear bel5 Bel4
      go_wp2_with fail
      refine (Put_ok a2 c2 p _ R2.out p1).mono ?_
      rw [← Hy.out]
      rintro e w6 ⟨a6, c6, rfl, own6, bel6⟩
      have R6 := hid own6.rd
      have Bel6 := hid (Bel5.out.trans (bel6.mono Bel5.out.size))
      clear bel6 Bel5 own6
      have hSm := hid (Same_any a6 a1 c6 c1 y (l1.take u) w6 R6.out ((H1.out.later Bel6.out).take u) (by omega) (by have := Hul.out; omega) true (by rw [HT.out, ← Hy.out]; simp))
      rw [Hul.out] at hSm
      go_wp2_with fail
      refine hSm.out.mono ?_
      rintro e w7 ⟨rfl, bel7⟩
      have Bel7 := hid (Bel6.out.trans (bel7.mono Bel6.out.size))
      clear bel7 Bel6 hSm
      go_wp2_with fail
      go_ret
      exact ⟨rfl, Bel7.out⟩
  · have HA2 := hid (fun (v : World) (b : Below w.heap.size w v) => awake_any v (HE.out.later b))
    go_enter Tryd.func4, Tryd.ntmps4
    go_wp2_with fail
    refine HA.out.mono ?_
    rintro e w1 ⟨rfl, bel1⟩
    have HA3 := hid (HA2.out w1 bel1)
    have Bel1 := hid bel1
    clear bel1 HA HA2
    go_wp2_with fail
    refine HA3.out.mono ?_
    rintro e w2 ⟨rfl, bel2⟩
    have Bel2 := hid (Bel1.out.trans (bel2.mono Bel1.out.size))
    clear bel2 Bel1 HA3
    go_wp2_with fail
    go_ret
    exact ⟨rfl, Bel2.out⟩
end Go.Proofs.YtgbgcfdniodfpaaDoor
