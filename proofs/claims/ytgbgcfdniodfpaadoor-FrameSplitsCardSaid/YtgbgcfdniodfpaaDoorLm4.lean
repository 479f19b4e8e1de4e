/- The walk of FrameDamage. -/
import Derived.Test.YtgbgcfdniodfpaaDoorLm3
import Derived.Test.YtgbgcfdniodfpaaDoorBu
import Derived.Test.YtgbgcfdniodfpaaDoorSp
import Derived.Test.YtgbgcfdniodfpaaDoorRw
namespace Go.Proofs.YtgbgcfdniodfpaaDoor
open Go.RowKit
set_option linter.unusedVariables false

theorem flip_int (x : B8) (r : Nat) (hr : r < 8) : bits BinOp.xor IntKind.u8 (x.toNat : Int) (2 ^ r % 256) = ((x ^^^ 1#8 <<< r).toNat : Int) := by
  have h : ((2 : Int) ^ r % 256) = ((1#8 <<< r).toNat : Int) := by
    match r, hr with
    | 0, _ => rfl
    | 1, _ => rfl
    | 2, _ => rfl
    | 3, _ => rfl
    | 4, _ => rfl
    | 5, _ => rfl
    | 6, _ => rfl
    | 7, _ => rfl
  rw [h, u8_xor_nat _ _ (BitVec.isLt _) (BitVec.isLt _), ← BitVec.toNat_xor]

theorem test_int (c : BitVec 32) (j : Nat) : (bits BinOp.and IntKind.u32 ((c.toNat : Int) / 2 ^ j) 1 == 1) = c.getLsbD j := by
  have hc := c.isLt
  have e : (c.toNat : Int) / 2 ^ j = ((c.toNat / 2 ^ j : Nat) : Int) := by rw [Int.natCast_ediv, Int.natCast_pow]; rfl
  have hle : c.toNat / 2 ^ j ≤ c.toNat := Nat.div_le_self _ _
  rw [e, show (1 : Int) = ((1 : Nat) : Int) from rfl, u32_and_nat _ _ (by omega) (by omega), nat_mask1, BitVec.getLsbD, Nat.testBit_eq_decide_div_mod_eq]
  rcases Nat.mod_two_eq_zero_or_one (c.toNat / 2 ^ j) with h | h <;> rw [h] <;> rfl

/-- a store that turns a bit of a row of the call's own -/
theorem own_turn {w : World} {B g c : Nat} {l : List B8} (h : Own w B (some ⟨g, 0, none⟩) c l) (i q r : Nat) (x : B8) (hx : l[q]?.getD 0#8 = x) (hq : q = i / 8) (hr : r = i % 8) (hl : q < l.length) :
    Own (w.setCell ⟨g, q, none⟩ (.int .u8 (bits BinOp.xor IntKind.u8 (x.toNat : Int) (2 ^ r % 256)))) B (some ⟨g, 0, none⟩) c (turn l i) := by
  have e : turn l i = l.set q (x ^^^ 1#8 <<< r) := by unfold turn; rw [← hq, ← hr, hx]
  rw [e, flip_int x r (by omega)]
  exact own_set h q _ hl

theorem turn_app (h s : List B8) (k : Nat) : turn (h ++ s) (8 * h.length + k) = h ++ turn s k := by
  unfold turn
  rw [show (8 * h.length + k) / 8 = h.length + k / 8 by omega, show (8 * h.length + k) % 8 = k % 8 by omega,
    List.getElem?_append_right (by omega), List.set_append_right _ _ (by omega), Nat.add_sub_cancel_left]

theorem turned_app (h s : List B8) (i : Nat) (ch : BitVec 32) (j : Nat) : turned (h ++ s) (8 * h.length + i) ch j = h ++ turned s i ch j := by
  induction j with
  | zero => rfl
  | succ j ih =>
    unfold turned
    rw [ih]
    split
    · rw [Nat.add_assoc, turn_app]
    · rfl

theorem rd_head (n : Nat) (t : List B8) (hn : n ≤ 65536) (ht : t.length = n + 4) :
    rd (vput n ++ t) = if isSealed t then .ok (t.take n) ((vput n).length + n + 4) else .err 4 (vput n).length := by
  have h3 := vput_three hn
  have hv := vnum_put n t (by omega)
  unfold rd
  rw [hv]
  simp only
  rw [List.drop_left, if_neg (by omega), if_neg (by rw [List.length_append]; omega), ← ht, List.take_length]

/-- a frame in whose sealed part bits within 32 are turned -/
theorem damage (p : List B8) (i : Nat) (ch : BitVec 32) (j : Nat) (hp : p.length ≤ 65536) (h : i + j ≤ 8 * (p.length + 4)) (hj : j ≤ 32) (hend : j = 32 ∨ i + j = 8 * (p.length + 4)) :
    rd (turned (fput p) (8 * (vput p.length).length + i) ch j) = if still ch j then .ok p (fput p).length else .err 4 (vput p.length).length := by
  have hl := sealOf_length p
  have e : fput p = vput p.length ++ sealOf p := rfl
  rw [e, turned_app, rd_head p.length _ hp (by rw [turned_length, hl]), sealed_turned _ _ _ _ (isSealed_seal p) (by omega) (by rw [hl]; exact h) hj (by rw [hl]; exact hend)]
  cases hs : still ch j with
  | false => rfl
  | true =>
    have := still_turned (sealOf p) i ch j (by rw [hl]; exact h)
    rw [hs] at this
    have ht : turned (sealOf p) i ch j = sealOf p := by simpa using this.symm
    rw [ht, if_pos rfl, if_pos rfl, sealOf, List.take_left]
    congr 1
    rw [List.length_append, List.length_append]; simp [le4]; omega

set_option maxRecDepth 100000 in
set_option maxHeartbeats 1000000 in
theorem damage_any (s : BitVec 64) (n t : Nat) (ch : BitVec 32) (w : World) (he : Et w) (hn : n ≤ 65535) (ht : t ≤ 4294967295) :
    Calls Tryd.prog 6 #[bv64 s, .int .u16 n, .int .u32 t, bv32 ch] w fun e w' => e = .returned (.bool true) ∧ Below w.heap.size w w' := by
  have hsl := s.isLt
  have hchl := ch.isLt
  have HE := hid he
  have HA := hid (awake_any w he)
  clear he
  by_cases h0 : ch.toNat = 0
  · have hd0 : ((ch.toNat : Int) == 0) = true := by rw [h0]; rfl
    have H0 := hid h0
    clear h0
    have HA2 := hid (fun (v : World) (b : Below w.heap.size w v) => awake_any v (HE.out.later b))
    go_enter Tryd.func6, Tryd.ntmps6
    go_wp2_with fail
    refine HA.out.mono ?_
    rintro e w1 ⟨rfl, bel1⟩
    have HA3 := hid (HA2.out w1 bel1)
    have Bel1 := hid bel1
    clear bel1 HA HA2
    go_wp2_with fail
    refine HA3.out.mono ?_
    rintro e w2 ⟨rfl, bel2⟩
    have Bel2 := hid (Bel1.out.trans (bel2.mono Bel1.out.size))
    clear bel2 Bel1 HA3
    go_wp2_with fail
    go_ret
    exact ⟨rfl, Bel2.out⟩
  have hd0 : ((ch.toNat : Int) == 0) = false := by simp; omega
  have H0 := hid h0
  clear h0
  go_enter Tryd.func6, Tryd.ntmps6
  go_wp2_with fail
  refine HA.out.mono ?_
  rintro e w1 ⟨rfl, bel1⟩
  have Bel1 := hid bel1
  clear bel1 HA
  go_wp2_with fail
  have em : ((n : Int) % 2000) = ((n % 2000 : Nat) : Int) := by omega
  rw [em]
  clear em
  refine (Spread_any s (n % 2000) _ (by omega)).mono ?_
  rintro e w2 ⟨l, hl, a2, c2, rfl, own2, bel2⟩
  have hll : l.length ≤ 2000 := by omega
  have R2 := hid own2.rd
  have Bel2 := hid (Bel1.out.trans (bel2.mono Bel1.out.size))
  clear own2 bel2 Bel1 hl
  go_wp2_with fail
  refine (rPutF_any a2 c2 l _ R2.out (by omega)).mono ?_
  rintro e w3 ⟨a3, c3, rfl, own3, bel3⟩
  have Own3 := hid own3
  have Bel3 := hid bel3
  obtain ⟨a, ha⟩ : ∃ a, a = (vput l.length).length := ⟨_, rfl⟩
  have ha3 : a ≤ 3 := by rw [ha]; exact vput_three (by omega)
  have hyl : (fput l).length = a + l.length + 4 := by rw [fput_length, ha]
  have HD := hid (fun i j h hj hend => damage l i ch j (by omega) h hj hend)
  rw [← ha] at HD
  obtain ⟨y, hy⟩ : ∃ y, y = fput l := ⟨_, rfl⟩
  rw [← hy] at HD Own3 hyl ⊢
  clear own3 bel3 hy ha
  rw [hyl] at HD ⊢
  have Hm := hid hyl
  clear hyl
  go_wp2_with fail
  obtain ⟨i0, hi0⟩ : ∃ i0, i0 = t % (8 * (l.length + 4)) := ⟨_, rfl⟩
  have hi1 : i0 < 8 * (l.length + 4) := by rw [hi0]; exact Nat.mod_lt _ (by omega)
  obtain ⟨i, hi⟩ : ∃ i, i = 8 * a + i0 := ⟨_, rfl⟩
  have Ea := hid (show ((a : Int) + (l.length : Int) + 4 - (l.length : Int) - 4) = (a : Int) by omega)
  have Ei0 := hid (show ((t : Int) % (8 * ((a : Int) + (l.length : Int) + 4 - (a : Int)))) = (i0 : Int) by
    rw [show (8 * ((a : Int) + (l.length : Int) + 4 - (a : Int))) = ((8 * (l.length + 4) : Nat) : Int) by omega, hi0]; push_cast; rfl)
  have Ei := hid (show wrap64 (8 * (a : Int) + (i0 : Int)) = (i : Int) by unfold wrap64; omega)
  rw [Ea.out, Ei0.out, Ei.out]
  obtain ⟨m, hm⟩ : ∃ m, m = a + l.length + 4 := ⟨_, rfl⟩
  have HD2 := hid (fun (j : Nat) (h : i + j ≤ 8 * m) (hj : j ≤ 32) (hend : j = 32 ∨ i + j = 8 * m) => by
    have := HD.out i0 j (by omega) hj (by omega)
    rw [← hi, ← hm] at this
    exact this)
  have hil : i < 8 * m := by omega
  have hm1 : m ≤ 2010 := by omega
  have h4 : 4 ≤ m := by omega
  rw [← hm]
  rw [← hm] at Hm
  clear Ea Ei0 Ei hi hi1 hi0 HD hm
  have hsz : w.heap.size ≤ w2.heap.size := Bel2.out.size
  go_loopw [13, 14] (fun b jj wr => (∃ (j : Nat), j ≤ 32 ∧ i + j ≤ 8 * m ∧ jj = .int .i64 j ∧ b = .bool (still ch j) ∧ Hid (Own wr w2.heap.size a3 c3 (turned y i ch j))) ∧ Below w2.heap.size w2 wr) (fun _ jj _ => 32 - (intOf jj).toNat)
  case atStart => exact ⟨⟨0, by omega, by omega, rfl, rfl, Own3⟩, Bel3.out⟩
  case round =>
    clear Own3 Bel3
    obtain ⟨⟨j, hj, hij, rfl, rfl, HO⟩, bel⟩ := hrel
    have Bel := hid bel
    clear bel
    have hj0 : (0 : Int) ≤ (i : Int) + (j : Int) := by omega
    have Hs2 := hid (show still ch (j + 1) = (still ch j && !ch.getLsbD j) from rfl)
    have Ht2 := hid (show turned y i ch (j + 1) = if ch.getLsbD j then turn (turned y i ch j) (i + j) else turned y i ch j from rfl)
    have hlen := turned_length y i ch j
    rw [Hm.out] at hlen
    have Hlen := hid hlen
    clear hlen
    by_cases hgo : j < 32 ∧ i + j < 8 * m
    · obtain ⟨hj32, hij2⟩ := hgo
      have htest := test_int ch j
      cases hbit : ch.getLsbD j with
      | false =>
        rw [hbit] at htest Hs2 Ht2
        have Hs3 := hid (show still ch (j + 1) = still ch j by rw [Hs2.out]; simp)
        have Ht3 := hid (show turned y i ch (j + 1) = turned y i ch j by rw [Ht2.out]; simp)
        have Hbit := hid hbit
        clear hbit Hs2 Ht2
        generalize turned y i ch j = z at *
        generalize still ch j = st at *
        go_wp2_with fail
        go_roundw
        case rel => exact ⟨⟨j + 1, by omega, by omega, by go_num, by rw [Hs3.out], by rw [Ht3.out]; exact HO⟩, Bel.out⟩
        case measure => simp [intOf]; omega
      | true =>
        rw [hbit] at htest Hs2 Ht2
        have Hs3 := hid (show still ch (j + 1) = false by rw [Hs2.out]; simp)
        have Ht3 := hid (show turned y i ch (j + 1) = turn (turned y i ch j) (i + j) by rw [Ht2.out]; simp)
        have Hbit := hid hbit
        clear hbit Hs2 Ht2
        generalize turned y i ch j = z at *
        generalize still ch j = st at *
        have hzl : z.length = m := Hlen.out
        obtain ⟨q, hq⟩ : ∃ q, q = (i + j) / 8 := ⟨_, rfl⟩
        obtain ⟨r, hr⟩ : ∃ r, r = (i + j) % 8 := ⟨_, rfl⟩
        have eq8 : ((i : Int) + (j : Int)) / 8 = (q : Int) := by omega
        have er8 : ((i : Int) + (j : Int)) % 8 = (r : Int) := by omega
        have hq1 : q < z.length := by omega
        have hr1 : r < 8 := by omega
        have hq2 : (q : Int) < (m : Int) := by omega
        obtain ⟨g, rfl, hg, hgl, hcs, hfs⟩ := HO.out.at (by intro e; rw [e] at hq1; simp at hq1)
        have k1 := hcs q hq1
        have k2 := hfs q
        have Hx := hid (show z[q]?.getD 0#8 = z[q] by rw [List.getElem?_eq_getElem hq1]; rfl)
        generalize z[q] = x at *
        have Hi2 := hid (show q = (i + j) / 8 ∧ r = (i + j) % 8 from ⟨hq, hr⟩)
        have Hzl := hid hzl
        clear hcs hfs hq hr hzl
        have hxl := x.isLt
        have Own4 := hid (own_turn HO.out (i + j) q r x Hx.out Hi2.out.1 Hi2.out.2 hq1)
        go_wp2_with fail
        go_roundw
        case rel => exact ⟨⟨j + 1, by omega, by omega, by go_num, by rw [Hs3.out], by rw [Ht3.out]; exact Own4⟩, Bel.out.setCell (p := ⟨g, q, none⟩) hg _⟩
        case measure => simp [intOf]; omega
    · have Hend := hid (HD2.out j hij hj (by omega))
      clear Hs2 Ht2
      generalize turned y i ch j = z at *
      generalize still ch j = st at *
      have hd : decide (j < 32) = false ∨ ¬ (i : Int) + (j : Int) < 8 * (m : Int) := by
        by_cases h : j < 32
        · right; omega
        · left; simp; omega
      have HRz := hid (Read_any a3 c3 z wr (HE.out.later (Bel2.out.trans (Bel.out.mono hsz))) HO.out.rd HO.out.cap (by have := Hlen.out; omega))
      rw [Hlen.out, Hend.out] at HRz
      have BelW := hid (Bel2.out.trans (Bel.out.mono hsz))
      cases st with
      | false =>
        go_wp2_with fail
        all_goals
          refine HRz.out.mono ?_
          rintro e w5 ⟨rfl, bel5⟩
          have Bel5 := hid (BelW.out.trans (bel5.mono BelW.out.size))
          clear bel5
          go_wp2_with fail
          refine (told_fault 4 a _ (HE.out.later Bel5.out) rfl).mono ?_
          rintro e w6 ⟨rfl, bel6⟩
          have Bel6 := hid (Bel5.out.trans (bel6.mono Bel5.out.size))
          clear bel6
          go_wp2_with fail
          go_ret
          exact ⟨rfl, Bel6.out⟩
      | true =>
        go_wp2_with fail
        all_goals
          refine HRz.out.mono ?_
          rintro e w5 ⟨a5, c5, rfl, own5, bel5⟩
          have R5 := hid own5.rd
          have R2b := hid ((R2.out.later Bel.out).later bel5)
          have Bel5 := hid (BelW.out.trans (bel5.mono BelW.out.size))
          clear own5 bel5
          go_wp2_with fail
          refine (Same_any a5 a2 c5 c2 l l _ R5.out R2b.out (by omega) (by omega) true (by simp)).mono ?_
          rintro e w6 ⟨rfl, bel6⟩
          have Bel6 := hid (Bel5.out.trans (bel6.mono Bel5.out.size))
          clear bel6
          go_wp2_with fail
          go_ret
          exact ⟨rfl, Bel6.out⟩
end Go.Proofs.YtgbgcfdniodfpaaDoor
