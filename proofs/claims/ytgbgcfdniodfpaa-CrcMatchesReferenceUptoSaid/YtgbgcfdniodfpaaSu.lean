/- The walk of the reference's Sum: the remainder of the definition. -/
import Derived.Test.YtgbgcfdniodfpaaGe
import Derived.BigRegion
namespace Go.Proofs.Ytgbgcfdniodfpaa
open Go.RowKit
set_option linter.unusedVariables false

/-- the row when P bits of the message lie in it -/
def F1 (l : List B8) (P j : Nat) : Bool := decide (j ≤ 8 * l.length + 31 ∧ 8 * l.length + 31 - j < P) && bitAt l (8 * l.length + 31 - j)
/-- .. and Q of the ones have been added -/
def F2 (l : List B8) (Q j : Nat) : Bool := F1 l (8 * l.length) j ^^ decide (8 * l.length ≤ j ∧ j < 8 * l.length + Q)

theorem bit_div (c : B8) (k : Nat) : (c.toNat : Int) / 2 ^ k % 2 = ((c.getLsbD k).toNat : Int) := by
  have e : (c.toNat : Int) / 2 ^ k % 2 = ((c.toNat / 2 ^ k % 2 : Nat) : Int) := by
    rw [Int.natCast_emod, Int.natCast_ediv, Int.natCast_pow]; rfl
  rw [e, BitVec.getLsbD, Nat.testBit_eq_decide_div_mod_eq]
  rcases Nat.mod_two_eq_zero_or_one (c.toNat / 2 ^ k) with h | h <;> rw [h] <;> rfl

theorem inv_start (l : List B8) : Inv l (F2 l 32) (8 * l.length + 31) ones := by
  intro j hj
  have ho : ∀ k, ones.getLsbD k = decide (k < 32) := by
    intro k
    unfold ones
    rw [BitVec.getLsbD_not, BitVec.getLsbD_zero]; simp
  unfold F2 F1 msg
  rw [ho]
  congr 1
  · congr 1
    exact decide_eq_decide.2 (by omega)
  · rw [← Bool.decide_and]
    exact decide_eq_decide.2 (by omega)

/-- the row while the generator is taken from it -/
def part (f : Nat → Bool) (i k j : Nat) : Bool := if i - 32 ≤ j ∧ j < i - 32 + k then f j ^^ gbit (j - (i - 32)) else f j

theorem part_top (f : Nat → Bool) (i k : Nat) (hk : k ≤ 32) (hi : 32 ≤ i) : part f i k i = f i := by
  unfold part; rw [if_neg (by omega)]
theorem part_at (f : Nat → Bool) (i k : Nat) : part f i k (i - 32 + k) = f (i - 32 + k) := by
  unfold part; rw [if_neg (by omega)]
theorem part_succ (f : Nat → Bool) (i k j : Nat) (hk : k < 32) : (if j = i - 32 + k then (f (i - 32 + k) ^^ gbit k) else part f i k j) = part f i (k + 1) j := by
  unfold part
  by_cases e : j = i - 32 + k
  · subst e
    rw [if_pos rfl, if_pos (by omega), Nat.add_sub_cancel_left]
  · rw [if_neg e]
    by_cases h : i - 32 ≤ j ∧ j < i - 32 + k
    · rw [if_pos h, if_pos (by omega)]
    · rw [if_neg h, if_neg (by omega)]
theorem part_yes (f : Nat → Bool) (i j : Nat) (hi : 32 ≤ i) (h : f i = true) (hj : j < i) : part f i 32 j = divide f i j := by
  unfold part divide
  rw [h, Bool.true_and]
  by_cases c : i - 32 ≤ j
  · rw [if_pos (by omega), if_pos (by omega)]
  · rw [if_neg (by omega), if_neg (by omega)]
theorem divide_no (f : Nat → Bool) (i j : Nat) (h : f i = false) : f j = divide f i j := by
  unfold divide
  rw [h]; simp

theorem xs_yes (z : BitVec 32) (j : Nat) (hj : j < 32) (h : z.getLsbD j = true) : (((z.toNat % 2 ^ j : Nat) : Int) + 2 ^ j % 4294967296) % 4294967296 = ((z.toNat % 2 ^ (j + 1) : Nat) : Int) := by
  have hz := z.isLt
  have hp : 2 ^ j < 2 ^ 32 := Nat.pow_lt_pow_right (by omega) hj
  have hb : z.toNat / 2 ^ j % 2 = 1 := by
    rw [BitVec.getLsbD, Nat.testBit_eq_decide_div_mod_eq] at h
    exact of_decide_eq_true h
  have e : z.toNat % 2 ^ (j + 1) = z.toNat % 2 ^ j + 2 ^ j := by
    rw [Nat.mod_pow_succ, hb, Nat.mul_one]
  have hle : z.toNat % 2 ^ (j + 1) ≤ z.toNat := Nat.mod_le _ _
  have ei : ((2 : Int) ^ j) = ((2 ^ j : Nat) : Int) := by rw [Int.natCast_pow]; rfl
  rw [ei, e]
  rw [e] at hle
  generalize z.toNat % 2 ^ j = y at *
  generalize 2 ^ j = p at *
  omega
theorem xs_no (z : BitVec 32) (j : Nat) (hj : j < 32) (h : z.getLsbD j = false) : z.toNat % 2 ^ j = z.toNat % 2 ^ (j + 1) := by
  have hb : z.toNat / 2 ^ j % 2 = 0 := by
    rw [BitVec.getLsbD, Nat.testBit_eq_decide_div_mod_eq] at h
    have := of_decide_eq_false h
    omega
  rw [Nat.mod_pow_succ, hb, Nat.mul_zero, Nat.add_zero]

set_option maxRecDepth 100000 in
set_option maxHeartbeats 4000000 in
theorem rSum_any (a : Option Addr) (c : Nat) (l : List B8) (w : World) (hr : Rd w a l) (hl : l.length ≤ 2000000) :
    Calls Try.prog 10 #[.slice a l.length c] w fun e w' => e = .returned (bv32 (crc l)) ∧ Below w.heap.size w w' := by
  have Hr := hid hr
  clear hr
  obtain ⟨n, hm⟩ : ∃ n, n = l.length := ⟨_, rfl⟩
  rw [← hm] at hl ⊢
  have Hm := hid hm
  clear hm
  have hmk : ∀ w : World, (Instr.makeSlice 42 (.int .i64 (8 * (n : Int) + 32)) (.int .i64 (8 * (n : Int) + 32))).run Try.prog w = .ok (.slice (some ⟨w.heap.size, 0, none⟩) (8 * n + 32) (8 * n + 32)) (w.alloc (.cells (mcells (8 * n + 32) (fun _ => false)) 3)) := by
    intro w
    have := run_make_ints (8 * n + 32) (by omega) w
    push_cast at this
    exact this
  go_enter Try.func10, Try.ntmps10
  go_wp2_with fail
  clear hmk
  have HM := hid (show Mem (w.alloc (.cells (mcells (8 * n + 32) (fun _ => false)) 3)) w.heap.size (8 * n + 32) (F1 l 0) from
    (show Mem _ _ _ (fun _ => false) from heap_alloc_new _ _).ext fun j hj => by unfold F1; rw [decide_eq_false (by omega)]; rfl)
  go_loopw [5] (fun i wr => (∃ k : Nat, k ≤ n ∧ i = .int .i64 k ∧ Hid (Mem wr w.heap.size (8 * n + 32) (F1 l (8 * k)))) ∧ Below w.heap.size w wr) (fun i _ => n - (intOf i).toNat)
  case atStart => exact ⟨⟨0, by omega, rfl, HM⟩, (Below.refl _ _).alloc (Nat.le_refl _) _⟩
  case round =>
    clear HM
    obtain ⟨⟨k, hk, rfl, HM⟩, bel⟩ := hrel
    have Bel := hid bel
    clear bel
    by_cases hlt : k < n
    · go_wp2_with fail
      obtain ⟨wo, hwo⟩ : ∃ wo : World, wo = wr := ⟨_, rfl⟩
      rw [← hwo] at HM Bel ⊢
      clear hwo
      go_loopw [6] (fun i wr => (∃ j : Nat, j ≤ 8 ∧ i = .int .i64 j ∧ Hid (Mem wr w.heap.size (8 * n + 32) (F1 l (8 * k + j)))) ∧ Below w.heap.size w wr) (fun i _ => 8 - (intOf i).toNat)
      case atStart => exact ⟨⟨0, by omega, rfl, HM⟩, Bel.out⟩
      case round =>
        clear HM Bel
        obtain ⟨⟨j, hj, rfl, HM⟩, bel⟩ := hrel
        have hk1 : k < l.length := by have := Hm.out; omega
        obtain ⟨b, off, rfl, hc⟩ := (Hr.out.later bel).gets (by intro e; rw [e] at hk1; simp at hk1)
        have h1 := hc k hk1
        have Bel := hid bel
        clear bel hc
        by_cases hjl : j < 8
        · obtain ⟨q, hq⟩ : ∃ q, q = 8 * n + 31 - 8 * k - j := ⟨_, rfl⟩
          have hq1 : q < 8 * n + 32 := by omega
          have h2 := HM.out.cell q hq1
          have h3 := HM.out.free q
          have Hx := hid (show l[k]?.getD 0#8 = l[k] by rw [List.getElem?_eq_getElem hk1]; rfl)
          generalize l[k] = x at *
          have hxl := x.isLt
          have hqe : 8 * (n : Int) + 31 - 8 * (k : Int) - (j : Int) = (q : Int) := by omega
          have hq2 : (q : Int) < 8 * (n : Int) + 32 := by omega
          have hb := bit_div x j
          have hb0 : 0 ≤ (x.toNat : Int) / 2 ^ j := Int.ediv_nonneg (by omega) (by exact Int.le_of_lt (Int.pow_pos (by omega)))
          have hb1 : (x.toNat : Int) / 2 ^ j ≤ 255 := Int.le_trans (Int.ediv_le_self _ (by omega)) (by omega)
          have Hq := hid hq
          have Hnew := hid ((HM.out.set q (x.getLsbD j)).ext (g := F1 l (8 * k + (j + 1))) fun i hi => by
            have hn := Hm.out
            have hbit : bitAt l (8 * l.length + 31 - q) = x.getLsbD j := by
              unfold bitAt
              have e1 : (8 * l.length + 31 - q) / 8 = k := by omega
              have e2 : (8 * l.length + 31 - q) % 8 = j := by omega
              rw [e1, e2, Hx.out]
            unfold F1
            by_cases e : i = q
            · rw [if_pos e, e, decide_eq_true (by omega), hbit]; simp
            · rw [if_neg e]
              congr 1
              exact decide_eq_decide.2 (by omega))
          have hblk : wr.heap.size = wr.heap.size := rfl
          clear hq hblk
          go_wp2_with fail
          go_roundw
          case rel => exact ⟨⟨j + 1, by omega, by go_num, Hnew⟩, Bel.out.setCell (p := ⟨w.heap.size, q, none⟩) (Nat.le_refl _) _⟩
          case measure => simp [intOf]; omega
        · obtain rfl : j = 8 := by omega
          clear h1
          go_wp2_with fail
          go_roundw
          case rel => exact ⟨⟨k + 1, by omega, by go_num, HM⟩, Bel.out⟩
          case measure => simp [intOf]; omega
    · obtain rfl : k = n := by omega
      go_wp2_with fail
      obtain ⟨w1, hw1⟩ : ∃ wo : World, wo = wr := ⟨_, rfl⟩
      rw [← hw1] at HM Bel ⊢
      clear hw1
      have HM2 := hid (HM.out.ext (g := F2 l 0) fun i hi => by
        have hn := Hm.out
        unfold F2
        rw [decide_eq_false (by omega), Bool.xor_false, ← hn])
      go_loopw [7] (fun i wr => (∃ j : Nat, j ≤ 32 ∧ i = .int .i64 j ∧ Hid (Mem wr w.heap.size (8 * k + 32) (F2 l j))) ∧ Below w.heap.size w wr) (fun i _ => 32 - (intOf i).toNat)
      case atStart => exact ⟨⟨0, by omega, rfl, HM2⟩, Bel.out⟩
      case round =>
        clear HM HM2 Bel
        obtain ⟨⟨j, hj, rfl, HM⟩, bel⟩ := hrel
        have Bel := hid bel
        clear bel
        by_cases hjl : j < 32
        · have hq1 : 8 * k + j < 8 * k + 32 := by omega
          have h2 := HM.out.cell (8 * k + j) hq1
          have h3 := HM.out.free (8 * k + j)
          have Hnew := hid ((HM.out.set (8 * k + j) (!F2 l j (8 * k + j))).ext (g := F2 l (j + 1)) fun i hi => by
            have hn := Hm.out
            by_cases e : i = 8 * k + j
            · rw [if_pos e, e]
              unfold F2
              rw [decide_eq_false (by omega), decide_eq_true (by omega)]
              simp
            · rw [if_neg e]
              unfold F2
              congr 1
              exact decide_eq_decide.2 (by omega))
          generalize F2 l j (8 * k + j) = p at *
          have hp : ((p.toNat : Int) + 1) % 2 = ((!p).toNat : Int) := by cases p <;> rfl
          have hp0 : 0 ≤ (p.toNat : Int) := by omega
          have hp1 : (p.toNat : Int) ≤ 1 := by cases p <;> simp
          go_wp2_with fail
          go_roundw
          case rel => exact ⟨⟨j + 1, by omega, by go_num, Hnew⟩, Bel.out.setCell (p := ⟨w.heap.size, 8 * k + j, none⟩) (Nat.le_refl _) _⟩
          case measure => simp [intOf]; omega
        · obtain rfl : j = 32 := by omega
          go_wp2_with fail
          refine (generator_any _).mono ?_
          rintro e w2 ⟨rfl, mg, bel2⟩
          have hBg : w.heap.size < wr.heap.size := (Array.getElem?_eq_some_iff.1 HM.out).1
          have HG := hid mg
          have HM := hid (HM.out.later bel2)
          have Bel2 := hid (Bel.out.trans (bel2.mono Bel.out.size))
          clear mg bel2 Bel
          go_wp2_with fail
          obtain ⟨Bg, hBgE⟩ : ∃ B, B = wr.heap.size := ⟨_, rfl⟩
          rw [← hBgE] at hBg HG ⊢
          have HBg := hid hBg
          clear hBgE hBg
          have HI := hid (show Inv l (F2 l 32) (8 * k + 31) (inBits ones ((stream l).take (8 * k + 31 - (8 * k + 31)))) by
            rw [Nat.sub_self, Hm.out]; exact inv_start l)
          go_loopw [9] (fun q wr => (∃ (i : Nat) (f : Nat → Bool), 31 ≤ i ∧ i ≤ 8 * k + 31 ∧ q = .int .i64 i ∧ Hid (Mem wr w.heap.size (8 * k + 32) f) ∧ Hid (Inv l f i (inBits ones ((stream l).take (8 * k + 31 - i)))) ∧ Hid (Mem wr Bg 33 gbit)) ∧ Below w.heap.size w wr) (fun q _ => (intOf q).toNat)
          case atStart => exact ⟨⟨8 * k + 31, F2 l 32, by omega, by omega, by go_num, HM, HI, HG⟩, Bel2.out⟩
          case round =>
            clear HM HI HG Bel2
            obtain ⟨⟨i, f, hi31, hik, rfl, HM, HI, HG⟩, bel⟩ := hrel
            have Bel := hid bel
            clear bel
            by_cases hi32 : 32 ≤ i
            · have hi0 : i < 8 * k + 32 := by omega
              have hd32 : decide ((32 : Int) ≤ (i : Int)) = true := by simp; omega
              cases hfi : f i with
              | false =>
                have h2 : wr.cell? ⟨w.heap.size, i, none⟩ = some (.int .i64 0) := by rw [HM.out.cell i hi0, hfi]; rfl
                have h3 := HM.out.free i
                have Hfi := hid hfi
                clear hfi
                have Hnew := hid (HM.out.set i false)
                have Hinv := hid (show Inv l (fun j => if j = i then false else f j) (i - 1) (inBits ones ((stream l).take (8 * k + 31 - (i - 1)))) by
                  have hn := Hm.out
                  have h := inv_step l f (fun j => if j = i then false else f j) i _ hi32 (by omega) HI.out (fun j hj => by
                    rw [if_neg (by omega)]; exact divide_no f i j Hfi.out)
                  rw [show 8 * k + 31 - (i - 1) = 8 * k + 31 - i + 1 by omega, take_bits l _ (by omega)]
                  rw [← hn] at h
                  exact h)
                go_wp2_with fail
                go_loop [10] (fun q => q = .int .i64 0) (fun _ => 0)
                case atStart => rfl
                case round =>
                  subst hrel
                  go_wp2_with fail
                  go_roundw
                  case rel => exact ⟨⟨i - 1, _, by omega, by omega, by congr 1; omega, Hnew, Hinv, hid (HG.out.other (by have := HBg.out; omega))⟩, Bel.out.setCell (p := ⟨w.heap.size, i, none⟩) (Nat.le_refl _) _⟩
                  case measure => simp [intOf]; omega
              | true =>
                have Hfi := hid hfi
                clear hfi
                go_wp2_with fail
                obtain ⟨wo, hwo⟩ : ∃ wo : World, wo = wr := ⟨_, rfl⟩
                rw [← hwo] at HM HG Bel ⊢
                clear hwo
                have HP := hid (HM.out.ext (g := part f i 0) fun j hj => by unfold part; rw [if_neg (by omega)])
                go_loopw [10] (fun q wr => (∃ (j : Nat), j ≤ 33 ∧ q = .int .i64 j ∧ Hid (Mem wr w.heap.size (8 * k + 32) (part f i (min j 32))) ∧ Hid (Mem wr Bg 33 gbit)) ∧ Below w.heap.size w wr) (fun q _ => 33 - (intOf q).toNat)
                case atStart => exact ⟨⟨0, by omega, rfl, HP, HG⟩, Bel.out⟩
                case round =>
                  clear HM HG HP Bel
                  obtain ⟨⟨j, hj, rfl, HM, HG⟩, bel⟩ := hrel
                  have Bel := hid bel
                  clear bel
                  have h2 : wr.cell? ⟨w.heap.size, i, none⟩ = some (.int .i64 1) := by rw [HM.out.cell i hi0, part_top f i _ (by omega) hi32, Hfi.out]; rfl
                  have h3 := HM.out.free i
                  by_cases hj32 : j < 32
                  · obtain ⟨q, hq⟩ : ∃ q, q = i - 32 + j := ⟨_, rfl⟩
                    have hqe : (i : Int) - 32 + (j : Int) = (q : Int) := by omega
                    have hq1 : q < 8 * k + 32 := by omega
                    have hmin : min j 32 = j := by omega
                    have g1 : wr.cell? ⟨w.heap.size, q, none⟩ = some (bi (f q)) := by
                      rw [HM.out.cell q hq1, hmin, hq, part_at]
                    have g2 := HM.out.free q
                    have g3 := HG.out.cell j (by omega)
                    have Hnew := hid ((HM.out.set q (f q ^^ gbit j)).ext (g := part f i (min (j + 1) 32)) fun m hm => by
                      rw [hmin, show min (j + 1) 32 = j + 1 by omega, ← part_succ f i j m hj32, hq])
                    have hqi : i ≠ q := by omega
                    generalize f q = p1 at *
                    generalize gbit j = p2 at *
                    have hp : ((p1.toNat : Int) + (p2.toNat : Int)) % 2 = ((p1 ^^ p2).toNat : Int) := by cases p1 <;> cases p2 <;> rfl
                    have hp0 : 0 ≤ (p1.toNat : Int) := by omega
                    have hp1 : (p1.toNat : Int) ≤ 1 := by cases p1 <;> simp
                    have hp2 : 0 ≤ (p2.toNat : Int) := by omega
                    have hp3 : (p2.toNat : Int) ≤ 1 := by cases p2 <;> simp
                    have Hq := hid hq
                    have hq0 : (q : Int) < 8 * (k : Int) + 32 := by omega
                    clear hq hmin
                    go_wp2_with fail
                    go_region
                    go_wp2_with fail
                    go_roundw
                    case rel => exact ⟨⟨j + 1, by omega, by go_num, Hnew, hid (HG.out.other (by have := HBg.out; omega))⟩, (Bel.out.setCell (p := ⟨w.heap.size, q, none⟩) (Nat.le_refl _) (bi (p1 ^^ p2))).drew⟩
                    case measure => simp [intOf]; omega
                  · by_cases hj33 : j = 32
                    · subst hj33
                      go_wp2_with fail
                      go_roundw
                      case rel => exact ⟨⟨33, by omega, rfl, HM, HG⟩, Bel.out⟩
                      case measure => simp [intOf]
                    · obtain rfl : j = 33 := by omega
                      have Hnew := hid (HM.out.set i false)
                      have Hinv := hid (show Inv l (fun j => if j = i then false else part f i (min 33 32) j) (i - 1) (inBits ones ((stream l).take (8 * k + 31 - (i - 1)))) by
                        have hn := Hm.out
                        have h := inv_step l f (fun j => if j = i then false else part f i (min 33 32) j) i _ hi32 (by omega) HI.out (fun j hj => by
                          rw [if_neg (by omega)]; exact part_yes f i j hi32 Hfi.out hj)
                        rw [show 8 * k + 31 - (i - 1) = 8 * k + 31 - i + 1 by omega, take_bits l _ (by omega)]
                        rw [← hn] at h
                        exact h)
                      go_wp2_with fail
                      go_roundw
                      case rel => exact ⟨⟨i - 1, _, by omega, by omega, by congr 1; omega, Hnew, Hinv, hid (HG.out.other (by have := HBg.out; omega))⟩, Bel.out.setCell (p := ⟨w.heap.size, i, none⟩) (Nat.le_refl _) _⟩
                      case measure => simp [intOf]; omega
            · obtain rfl : i = 31 := by omega
              obtain ⟨r, hr⟩ : ∃ r, r = inBits ones ((stream l).take (8 * k + 31 - 31)) := ⟨_, rfl⟩
              rw [← hr] at HI
              have HR := hid (show ~~~ r = crc l by
                rw [hr, show 8 * k + 31 - 31 = (stream l).length by rw [stream_length, ← Hm.out]; omega, List.take_length, ← rreg_bits]; rfl)
              have HF := hid (show ∀ j, j < 32 → f (31 - j) = r.getLsbD j from fun j hj => by
                have h := HI.out (31 - j) (by omega)
                rw [h, decide_eq_true (by omega : 31 ≤ 31 - j + 31), show 31 - (31 - j) = j by omega]
                unfold msg
                rw [decide_eq_false (by omega)]; simp)
              obtain ⟨z, hz⟩ : ∃ z, z = ~~~ r := ⟨_, rfl⟩
              have HF := hid (show ∀ j, j < 32 → f (31 - j) = !z.getLsbD j from fun j hj => by
                rw [HF.out j hj, hz, BitVec.getLsbD_not]; simp [hj])
              rw [← hz] at HR
              clear hr HI hz
              go_wp2_with fail
              obtain ⟨wo, hwo⟩ : ∃ wo : World, wo = wr := ⟨_, rfl⟩
              rw [← hwo] at HM HG Bel ⊢
              clear hwo
              go_loop [11, 12] (fun x q => ∃ (j : Nat), j ≤ 32 ∧ q = .int .i64 j ∧ x = .int .u32 ((z.toNat % 2 ^ j : Nat) : Int)) (fun _ q => 32 - (intOf q).toNat)
              case atStart => exact ⟨0, by omega, rfl, by rw [Nat.pow_zero, Nat.mod_one]; rfl⟩
              case round =>
                obtain ⟨j, hj, rfl, rfl⟩ := hrel
                by_cases hj32 : j < 32
                · have g1 := HM.out.cell (31 - j) (by omega)
                  rw [HF.out j hj32] at g1
                  have hzl := z.isLt
                  cases hb : z.getLsbD j with
                  | true =>
                    rw [hb] at g1
                    have Hx := hid (xs_yes z j hj32 hb)
                    have hy := Nat.mod_lt z.toNat (show 2 ^ j > 0 from Nat.pow_pos (by omega))
                    generalize z.toNat % 2 ^ j = y at *
                    have g1 : wo.cell? ⟨w.heap.size, 31 - j, none⟩ = some (.int .i64 0) := g1
                    have Hy := hid hy
                    clear hb hy
                    go_wp2_with fail
                    go_round
                    case rel => exact ⟨j + 1, by omega, by go_num, u32_eq Hx.out⟩
                    case measure => simp [intOf]; omega
                  | false =>
                    rw [hb] at g1
                    have Hx := hid (xs_no z j hj32 hb)
                    generalize z.toNat % 2 ^ j = y at *
                    have g1 : wo.cell? ⟨w.heap.size, 31 - j, none⟩ = some (.int .i64 1) := g1
                    clear hb
                    go_wp2_with fail
                    go_round
                    case rel => exact ⟨j + 1, by omega, by go_num, by rw [Hx.out]⟩
                    case measure => simp [intOf]; omega
                · obtain rfl : j = 32 := by omega
                  have Hx := hid (show z.toNat % 2 ^ 32 = (crc l).toNat by rw [Nat.mod_eq_of_lt z.isLt, HR.out])
                  generalize z.toNat % 2 ^ 32 = y at *
                  go_wp2_with fail
                  go_ret
                  exact ⟨ret_eq (u32_eq (by rw [Hx.out])), Bel.out⟩
end Go.Proofs.Ytgbgcfdniodfpaa
