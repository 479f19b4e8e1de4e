/- The walk of vestrylaw03.CrcBursts. -/
import Derived.Test.YtgbgcfdniodfpaaLf
namespace Go.Proofs.Ytgbgcfdniodfpaa
open Go.RowKit
set_option linter.unusedVariables false

theorem test_int (c : BitVec 32) (j : Nat) : (bits BinOp.and IntKind.u32 ((c.toNat : Int) / 2 ^ j) 1 == 1) = c.getLsbD j := by
  have hc := c.isLt
  have e : (c.toNat : Int) / 2 ^ j = ((c.toNat / 2 ^ j : Nat) : Int) := by rw [Int.natCast_ediv, Int.natCast_pow]; rfl
  have hle : c.toNat / 2 ^ j ≤ c.toNat := Nat.div_le_self _ _
  rw [e, show (1 : Int) = ((1 : Nat) : Int) from rfl, u32_and_nat _ _ (by omega) (by omega), nat_mask1, BitVec.getLsbD, Nat.testBit_eq_decide_div_mod_eq]
  rcases Nat.mod_two_eq_zero_or_one (c.toNat / 2 ^ j) with h | h <;> rw [h] <;> rfl

set_option maxRecDepth 100000 in
set_option maxHeartbeats 1000000 in
theorem CrcBursts_walk (s : BitVec 64) (n t : Nat) (ch : BitVec 32) (w : World) (hn : n ≤ 65535) (ht : t ≤ 4294967295) :
    Calls Try.prog 6 #[bv64 s, .int .u16 n, .int .u32 t, bv32 ch] w fun e w' => e = .returned (.bool true) ∧ Below w.heap.size w w' := by
  have hsl := s.isLt
  have hchl := ch.isLt
  by_cases h0 : ch.toNat = 0
  · have hd0 : ((ch.toNat : Int) == 0) = true := by rw [h0]; rfl
    have H0 := hid h0
    clear h0
    go_enter Try.func6, Try.ntmps6
    go_wp2_with fail
    refine (awake_any _).mono ?_
    rintro e w1 ⟨rfl, bel1⟩
    have Bel1 := hid bel1
    clear bel1
    go_wp2_with fail
    refine (awake_any _).mono ?_
    rintro e w2 ⟨rfl, bel2⟩
    have Bel2 := hid (Bel1.out.trans (bel2.mono Bel1.out.size))
    clear bel2
    go_wp2_with fail
    go_ret
    exact ⟨rfl, Bel2.out⟩
  have hd0 : ((ch.toNat : Int) == 0) = false := by simp; omega
  have H0 := hid h0
  clear h0
  go_enter Try.func6, Try.ntmps6
  go_wp2_with fail
  refine (awake_any _).mono ?_
  rintro e w1 ⟨rfl, bel1⟩
  have Bel1 := hid bel1
  clear bel1
  go_wp2_with fail
  have em : ((n : Int) % 3000) = ((n % 3000 : Nat) : Int) := by omega
  rw [em]
  clear em
  refine (Spread_any s (n % 3000) _ (by omega)).mono ?_
  rintro e w2 ⟨l, hl, a2, c2, rfl, own2, bel2⟩
  have hll : l.length ≤ 3000 := by omega
  have Own2 := hid own2
  have Bel2 := hid (Bel1.out.trans (bel2.mono Bel1.out.size))
  clear own2 bel2 Bel1 hl
  go_wp2_with fail
  refine (rSeal_any a2 c2 l _ Own2.out.rd (by omega)).mono ?_
  rintro e w3 ⟨a3, c3, rfl, own3, bel3⟩
  have Own3 := hid own3
  have Bel3 := hid (Bel2.out.trans (bel3.mono Bel2.out.size))
  have hyl := sealOf_length l
  have Hs := hid (isSealed_seal l)
  generalize sealOf l = y at *
  have h4 : 4 ≤ y.length := by omega
  have hy5 : y.length ≤ 3004 := by omega
  have hsz : w.heap.size ≤ w2.heap.size := Bel2.out.size
  clear hyl own3 bel3 Bel2 Own2 hll
  obtain ⟨i, hi⟩ : ∃ i, i = t % (8 * y.length) := ⟨_, rfl⟩
  have hilt : i < 8 * y.length := by rw [hi]; exact Nat.mod_lt _ (by omega)
  have ei : ((t : Int) % (8 * (y.length : Int))) = (i : Int) := by rw [hi]; push_cast; rfl
  have Hi := hid hi
  clear hi
  obtain ⟨m, hm⟩ : ∃ m, m = y.length := ⟨_, rfl⟩
  rw [← hm] at h4 hy5 hilt ei ⊢
  have Hm := hid hm
  clear hm
  have Ei := hid ei
  clear ei
  go_wp2_with fail
  rw [Ei.out]
  go_loopw [11, 12] (fun b jj wr => (∃ (j : Nat), j ≤ 32 ∧ i + j ≤ 8 * m ∧ jj = .int .i64 j ∧ b = .bool (still ch j) ∧ Hid (Own wr w2.heap.size a3 c3 (turned y i ch j))) ∧ Below w.heap.size w wr) (fun _ jj _ => 32 - (intOf jj).toNat)
  case atStart => exact ⟨⟨0, by omega, by omega, rfl, rfl, Own3⟩, Bel3.out⟩
  case round =>
    clear Own3 Bel3
    obtain ⟨⟨j, hj, hij, rfl, rfl, HO⟩, bel⟩ := hrel
    have Bel := hid bel
    clear bel
    have hj0 : (0 : Int) ≤ (i : Int) + (j : Int) := by omega
    have Hs2 := hid (show still ch (j + 1) = (still ch j && !ch.getLsbD j) from rfl)
    have Ht2 := hid (show turned y i ch (j + 1) = if ch.getLsbD j then turn (turned y i ch j) (i + j) else turned y i ch j from rfl)
    have hlen := turned_length y i ch j
    rw [← Hm.out] at hlen
    have Hlen := hid hlen
    clear hlen
    by_cases hgo : j < 32 ∧ i + j < 8 * m
    · obtain ⟨hj32, hij2⟩ := hgo
      have htest := test_int ch j
      cases hbit : ch.getLsbD j with
      | false =>
        rw [hbit] at htest Hs2 Ht2
        have Hs3 := hid (show still ch (j + 1) = still ch j by rw [Hs2.out]; simp)
        have Ht3 := hid (show turned y i ch (j + 1) = turned y i ch j by rw [Ht2.out]; simp)
        have Hbit := hid hbit
        clear hbit Hs2 Ht2
        generalize turned y i ch j = z at *
        generalize still ch j = st at *
        go_wp2_with fail
        go_roundw
        case rel => exact ⟨⟨j + 1, by omega, by omega, by go_num, by rw [Hs3.out], by rw [Ht3.out]; exact HO⟩, Bel.out⟩
        case measure => simp [intOf]; omega
      | true =>
        rw [hbit] at htest Hs2 Ht2
        have Hs3 := hid (show still ch (j + 1) = false by rw [Hs2.out]; simp)
        have Ht3 := hid (show turned y i ch (j + 1) = turn (turned y i ch j) (i + j) by rw [Ht2.out]; simp)
        have Hbit := hid hbit
        clear hbit Hs2 Ht2
        generalize turned y i ch j = z at *
        generalize still ch j = st at *
        have hzl : z.length = m := Hlen.out
        obtain ⟨q, hq⟩ : ∃ q, q = (i + j) / 8 := ⟨_, rfl⟩
        obtain ⟨r, hr⟩ : ∃ r, r = (i + j) % 8 := ⟨_, rfl⟩
        have eq8 : ((i : Int) + (j : Int)) / 8 = (q : Int) := by omega
        have er8 : ((i : Int) + (j : Int)) % 8 = (r : Int) := by omega
        have hq1 : q < z.length := by omega
        have hr1 : r < 8 := by omega
        have hq2 : (q : Int) < (m : Int) := by omega
        obtain ⟨g, rfl, hg, hgl, hcs, hfs⟩ := HO.out.at (by intro e; rw [e] at hq1; simp at hq1)
        have k1 := hcs q hq1
        have k2 := hfs q
        have Hx := hid (show z[q]?.getD 0#8 = z[q] by rw [List.getElem?_eq_getElem hq1]; rfl)
        generalize z[q] = x at *
        have Hi2 := hid (show q = (i + j) / 8 ∧ r = (i + j) % 8 from ⟨hq, hr⟩)
        have Hzl := hid hzl
        have hg0 : w.heap.size ≤ g := by omega
        clear hcs hfs hq hr hzl
        have hxl := x.isLt
        have Own4 := hid (own_turn HO.out (i + j) q r x Hx.out Hi2.out.1 Hi2.out.2 hq1)
        go_wp2_with fail
        go_roundw
        case rel => exact ⟨⟨j + 1, by omega, by omega, by go_num, by rw [Hs3.out], by rw [Ht3.out]; exact Own4⟩, Bel.out.setCell (p := ⟨g, q, none⟩) hg0 _⟩
        case measure => simp [intOf]; omega
    · have Hend := hid (sealed_turned y i ch j Hs.out (by have := Hm.out; omega) (by have := Hm.out; omega) hj (by have := Hm.out; omega))
      clear Hs2 Ht2
      generalize turned y i ch j = z at *
      generalize still ch j = st at *
      have hd : decide (j < 32) = false ∨ ¬ (i : Int) + (j : Int) < 8 * (m : Int) := by
        by_cases h : j < 32
        · right; omega
        · left; simp; omega
      have hzl : z.length ≤ 3004 := by have := Hlen.out; omega
      cases st with
      | false =>
        go_wp2_with fail
        all_goals
          rw [← Hlen.out]
          refine (Open_no a3 c3 z _ HO.out.rd HO.out.cap (by omega) Hend.out).mono ?_
          rintro e w5 ⟨a5, c5, rfl, own5, bel5⟩
          have Bel5 := hid (Bel.out.trans (bel5.mono Bel.out.size))
          clear own5 bel5
          go_wp2_with fail
          go_ret
          exact ⟨rfl, Bel5.out⟩
      | true =>
        go_wp2_with fail
        all_goals
          rw [← Hlen.out]
          refine (Open_yes a3 c3 z _ HO.out.rd HO.out.cap (by omega) Hend.out).mono ?_
          rintro e w5 ⟨a5, c5, rfl, own5, bel5⟩
          have Bel5 := hid (Bel.out.trans (bel5.mono Bel.out.size))
          clear own5 bel5
          go_wp2_with fail
          go_ret
          exact ⟨rfl, Bel5.out⟩
end Go.Proofs.Ytgbgcfdniodfpaa
