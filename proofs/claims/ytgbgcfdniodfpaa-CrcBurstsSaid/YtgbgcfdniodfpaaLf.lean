/- The walk of vestrylaw03.CrcFlips. -/
import Derived.Test.YtgbgcfdniodfpaaAw
import Derived.Test.YtgbgcfdniodfpaaBu
import Derived.Test.YtgbgcfdniodfpaaSp
import Derived.Test.YtgbgcfdniodfpaaRw
namespace Go.Proofs.Ytgbgcfdniodfpaa
open Go.RowKit
set_option linter.unusedVariables false

theorem flip_int (x : B8) (r : Nat) (hr : r < 8) : bits BinOp.xor IntKind.u8 (x.toNat : Int) (2 ^ r % 256) = ((x ^^^ 1#8 <<< r).toNat : Int) := by
  have h : ((2 : Int) ^ r % 256) = ((1#8 <<< r).toNat : Int) := by
    match r, hr with
    | 0, _ => rfl
    | 1, _ => rfl
    | 2, _ => rfl
    | 3, _ => rfl
    | 4, _ => rfl
    | 5, _ => rfl
    | 6, _ => rfl
    | 7, _ => rfl
  rw [h, u8_xor_nat _ _ (BitVec.isLt _) (BitVec.isLt _), ← BitVec.toNat_xor]

/-- a store that turns a bit of a row of the call's own -/
theorem own_turn {w : World} {B g c : Nat} {l : List B8} (h : Own w B (some ⟨g, 0, none⟩) c l) (i q r : Nat) (x : B8) (hx : l[q]?.getD 0#8 = x) (hq : q = i / 8) (hr : r = i % 8) (hl : q < l.length) :
    Own (w.setCell ⟨g, q, none⟩ (.int .u8 (bits BinOp.xor IntKind.u8 (x.toNat : Int) (2 ^ r % 256)))) B (some ⟨g, 0, none⟩) c (turn l i) := by
  have e : turn l i = l.set q (x ^^^ 1#8 <<< r) := by unfold turn; rw [← hq, ← hr, hx]
  rw [e, flip_int x r (by omega)]
  exact own_set h q _ hl

set_option maxRecDepth 100000 in
set_option maxHeartbeats 1000000 in
theorem CrcFlips_walk (s : BitVec 64) (n t : Nat) (w : World) (hn : n ≤ 65535) (ht : t ≤ 4294967295) :
    Calls Try.prog 5 #[bv64 s, .int .u16 n, .int .u32 t] w fun e w' => e = .returned (.bool true) ∧ Below w.heap.size w w' := by
  have hsl := s.isLt
  go_enter Try.func5, Try.ntmps5
  go_wp2_with fail
  refine (awake_any _).mono ?_
  rintro e w1 ⟨rfl, bel1⟩
  have Bel1 := hid bel1
  clear bel1
  go_wp2_with fail
  have em : ((n : Int) % 3000) = ((n % 3000 : Nat) : Int) := by omega
  rw [em]
  clear em
  refine (Spread_any s (n % 3000) _ (by omega)).mono ?_
  rintro e w2 ⟨l, hl, a2, c2, rfl, own2, bel2⟩
  have hll : l.length ≤ 3000 := by omega
  have Own2 := hid own2
  have Bel2 := hid (Bel1.out.trans (bel2.mono Bel1.out.size))
  clear own2 bel2 Bel1 hl
  go_wp2_with fail
  refine (rSeal_any a2 c2 l _ Own2.out.rd (by omega)).mono ?_
  rintro e w3 ⟨a3, c3, rfl, own3, bel3⟩
  have Own3 := hid own3
  have Bel3 := hid (Bel2.out.trans (bel3.mono Bel2.out.size))
  have hyl := sealOf_length l
  have Hs := hid (isSealed_seal l)
  generalize sealOf l = y at *
  have h4 : 4 ≤ y.length := by omega
  have hy5 : y.length ≤ 3004 := by omega
  have hsz : w.heap.size ≤ w2.heap.size := Bel2.out.size
  clear hyl own3 bel3 Bel2 Own2 hll
  obtain ⟨i, hi⟩ : ∃ i, i = t % (8 * y.length) := ⟨_, rfl⟩
  have hilt : i < 8 * y.length := by rw [hi]; exact Nat.mod_lt _ (by omega)
  have ei : ((t : Int) % (8 * (y.length : Int))) = (i : Int) := by rw [hi]; push_cast; rfl
  obtain ⟨q, hq⟩ : ∃ q, q = i / 8 := ⟨_, rfl⟩
  obtain ⟨r, hr⟩ : ∃ r, r = i % 8 := ⟨_, rfl⟩
  have eq8 : (i : Int) / 8 = (q : Int) := by omega
  have er8 : (i : Int) % 8 = (r : Int) := by omega
  have hq1 : q < y.length := by omega
  have hr1 : r < 8 := by omega
  have hq2 : (q : Int) < (y.length : Int) := by omega
  obtain ⟨g, rfl, hg, hgl, hcs, hfs⟩ := Own3.out.at (by intro e; rw [e] at h4; simp at h4)
  have k1 := hcs q hq1
  have k2 := hfs q
  have Hx := hid (show y[q]?.getD 0#8 = y[q] by rw [List.getElem?_eq_getElem hq1]; rfl)
  generalize y[q] = x at *
  have Hi := hid (show q = i / 8 ∧ r = i % 8 from ⟨hq, hr⟩)
  clear hcs hfs hq hr hi
  have hxl := x.isLt
  have Own4 := hid (own_turn Own3.out i q r x Hx.out Hi.out.1 Hi.out.2 hq1)
  have Hn := hid (turn_ne y i hilt Hs.out h4)
  have hlt := turn_length y i
  have hg0 : w.heap.size ≤ g := by omega
  generalize turn y i = z at *
  go_wp2_with fail
  rw [← hlt]
  refine (Open_no _ c3 z _ Own4.out.rd Own4.out.cap (by omega) Hn.out).mono ?_
  rintro e w5 ⟨a5, c5, rfl, own5, bel5⟩
  have Bel5 := hid ((Bel3.out.setCell (p := ⟨g, q, none⟩) hg0 _).trans (bel5.mono (by have := Bel3.out.size; simp; omega)))
  clear own5 bel5 Own4 Bel3
  go_wp2_with fail
  go_ret
  exact ⟨rfl, Bel5.out⟩
end Go.Proofs.Ytgbgcfdniodfpaa
