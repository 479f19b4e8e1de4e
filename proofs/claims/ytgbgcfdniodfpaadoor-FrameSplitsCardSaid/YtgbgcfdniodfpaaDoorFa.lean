/- the reference's Fast: the checksum, bit by bit. -/
import Derived.Test.YtgbgcfdniodfpaaDoorEx
namespace Go.Proofs.YtgbgcfdniodfpaaDoor
open Go.RowKit
set_option linter.unusedVariables false

theorem inBits_lows_succ (r : BitVec 32) (c : B8) (k : Nat) : inBits r (lows (k + 1) c) = inBit (inBits r (lows k c)) (c.getLsbD k) := by
  have e : lows (k + 1) c = lows k c ++ [c.getLsbD k] := by
    apply List.ext_getElem
    · simp [lows_length]
    · intro i h1 h2
      rw [lows_get]
      by_cases h : i < k
      · rw [List.getElem_append_left (by simpa [lows_length] using h), lows_get]
      · have hi : i = k := by simp [lows_length] at h1; omega
        subst hi
        rw [List.getElem_append_right (by simp [lows_length])]
        simp [lows_length]
  rw [e, inBits_append]; rfl

theorem feed_lows (r : BitVec 32) (c : B8) : inBits r (lows 8 c) = rfeed r c := by rw [rfeed_bits, lows_widen]

/-- the bit that goes out -/
def outBit (r : BitVec 32) (c : B8) (k : Nat) : Bool := r.getLsbD 0 ^^ c.getLsbD k

theorem out_int (r : BitVec 32) (c : B8) (k : Nat) : bits BinOp.xor IntKind.u32 ((r.toNat : Int) % 2) ((c.toNat : Int) / 2 ^ k % 2) = (((outBit r c k).toNat : Nat) : Int) := by
  have e1 : (r.toNat : Int) % 2 = ((r.toNat % 2 : Nat) : Int) := by omega
  have e2 : (c.toNat : Int) / 2 ^ k % 2 = ((c.toNat / 2 ^ k % 2 : Nat) : Int) := by
    rw [Int.natCast_emod, Int.natCast_ediv, Int.natCast_pow]; rfl
  rw [e1, e2, u32_xor_nat _ _ (by omega) (by omega)]
  congr 1
  unfold outBit
  have f1 : r.getLsbD 0 = decide (r.toNat % 2 = 1) := by rw [BitVec.getLsbD, Nat.testBit_zero]
  have f2 : c.getLsbD k = decide (c.toNat / 2 ^ k % 2 = 1) := by
    rw [BitVec.getLsbD, Nat.testBit_eq_decide_div_mod_eq]
  rw [f1, f2]
  rcases Nat.mod_two_eq_zero_or_one r.toNat with h | h <;> rcases Nat.mod_two_eq_zero_or_one (c.toNat / 2 ^ k) with h' | h' <;> simp [h, h']

theorem out_yes (r : BitVec 32) (c : B8) (k : Nat) (h : outBit r c k = true) : (bits BinOp.xor IntKind.u32 ((r.toNat : Int) % 2) ((c.toNat : Int) / 2 ^ k % 2) == 1) = true := by rw [out_int, h]; rfl
theorem out_no (r : BitVec 32) (c : B8) (k : Nat) (h : outBit r c k = false) : (bits BinOp.xor IntKind.u32 ((r.toNat : Int) % 2) ((c.toNat : Int) / 2 ^ k % 2) == 1) = false := by rw [out_int, h]; rfl

theorem half_int (q : BitVec 32) : (q.toNat : Int) / (2 : Int) = ((q >>> 1).toNat : Int) := by
  rw [BitVec.toNat_ushiftRight, Nat.shiftRight_eq_div_pow]; omega
theorem in_yes (q : BitVec 32) (c : B8) (k : Nat) (h : outBit q c k = true) : bits BinOp.xor IntKind.u32 ((q.toNat : Int) / 2) 3988292384 = ((inBit q (c.getLsbD k)).toNat : Int) := by
  unfold outBit at h
  rw [half_int, show (3988292384 : Int) = (poly.toNat : Int) from rfl, u32_xor_nat _ _ (BitVec.isLt _) (BitVec.isLt _), ← BitVec.toNat_xor]
  unfold inBit
  rw [h]; rfl
theorem in_no (q : BitVec 32) (c : B8) (k : Nat) (h : outBit q c k = false) : (q.toNat : Int) / 2 = ((inBit q (c.getLsbD k)).toNat : Int) := by
  unfold outBit at h
  rw [half_int]
  unfold inBit
  rw [h]; simp

theorem crc_eq (l : List B8) : 4294967295 - ((rreg (~~~ 0#32) l).toNat : Int) = ((crc l).toNat : Int) := by
  unfold crc ext
  have := (rreg (~~~ 0#32) l).isLt
  rw [BitVec.toNat_not]; omega

set_option maxRecDepth 100000 in
set_option maxHeartbeats 1000000 in
theorem Fast_any (a : Option Addr) (c : Nat) (l : List B8) (w : World) (hr : Rd w a l) (hl : l.length ≤ 4000000) :
    Calls Tryd.prog 37 #[.slice a l.length c] w fun e w' => e = .returned (bv32 (crc l)) ∧ Below w.heap.size w w' := by
  have Hr := hid hr
  clear hr
  obtain ⟨n, hm⟩ : ∃ n, n = l.length := ⟨_, rfl⟩
  rw [← hm] at hl ⊢
  have Hm := hid hm
  clear hm
  go_enter Tryd.func37, Tryd.ntmps37
  go_wp2_with fail
  go_loopw [3, 4] (fun r i wr => (∃ k : Nat, k ≤ n ∧ i = .int .i64 k ∧ r = bv32 (rreg (~~~ 0#32) (l.take k))) ∧ Below w.heap.size w wr) (fun _ i _ => n - (intOf i).toNat)
  case atStart => exact ⟨⟨0, by omega, rfl, rfl⟩, Below.refl _ _⟩
  case round =>
    obtain ⟨⟨k, hk, rfl, rfl⟩, bel⟩ := hrel
    by_cases hlt : k < n
    · have hk1 : k < l.length := by have := Hm.out; omega
      obtain ⟨b, off, rfl, hc⟩ := (Hr.out.later bel).gets (by intro e; rw [e] at hk1; simp at hk1)
      have h1 := hc k hk1
      clear hc
      have Hstep := hid (rreg_snoc (~~~ 0#32) l k hk1)
      generalize rreg (~~~ 0#32) (l.take k) = r at *
      generalize l[k] = x at *
      have hxl := x.isLt
      go_wp2_with fail
      go_loop [3, 5] (fun q i => ∃ j : Nat, j ≤ 8 ∧ i = .int .i64 j ∧ q = bv32 (inBits r (lows j x))) (fun _ i => 8 - (intOf i).toNat)
      case atStart => exact ⟨0, by omega, rfl, rfl⟩
      case round =>
        obtain ⟨j, hj, rfl, rfl⟩ := hrel
        by_cases hjl : j < 8
        · have hb := inBits_lows_succ r x j
          generalize inBits r (lows j x) = q at *
          have Hb := hid hb
          clear hb
          have hql := q.isLt
          cases ho : outBit q x j with
          | true =>
            have hb := out_yes q x j ho
            have Hi := hid (in_yes q x j ho)
            have Ho := hid ho
            clear ho
            go_wp2_with fail
            go_round
            case rel => exact ⟨j + 1, by omega, by go_num, u32_eq (by rw [Hi.out, Hb.out])⟩
            case measure => simp [intOf]; omega
          | false =>
            have hb := out_no q x j ho
            have Hi := hid (in_no q x j ho)
            have Ho := hid ho
            clear ho
            go_wp2_with fail
            go_round
            case rel => exact ⟨j + 1, by omega, by go_num, u32_eq (by rw [Hi.out, Hb.out])⟩
            case measure => simp [intOf]; omega
        · obtain rfl : j = 8 := by omega
          have Hb := hid (feed_lows r x)
          generalize inBits r (lows 8 x) = q at *
          have hql := q.isLt
          go_wp2_with fail
          go_roundw
          case rel => exact ⟨⟨k + 1, by omega, by go_num, u32_eq (by rw [Hstep.out, ← Hb.out])⟩, bel⟩
          case measure => simp [intOf]; omega
    · obtain rfl : k = n := by omega
      have He := hid (show 4294967295 - ((rreg (~~~ 0#32) (l.take k)).toNat : Int) = ((crc l).toNat : Int) by rw [Hm.out, List.take_length, crc_eq])
      generalize rreg (~~~ 0#32) (l.take k) = r at *
      have hrl := r.isLt
      go_wp2_with fail
      go_ret
      exact ⟨ret_eq (u32_eq He.out), bel⟩
end Go.Proofs.YtgbgcfdniodfpaaDoor
