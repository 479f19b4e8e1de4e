/- the reference's Spread: some bytes of a number. -/
import Derived.Test.YtgbgcfdniodfpaaDoorSe
namespace Go.Proofs.YtgbgcfdniodfpaaDoor
open Go.RowKit
set_option linter.unusedVariables false

abbrev bv64 (c : BitVec 64) : Value := .int .u64 (c.toNat : Int)

/-- n bytes in a new row come back -/
def GivesSome (w : World) (n : Nat) (e : Ending) (w' : World) : Prop := ∃ l, l.length = n ∧ Gives w l e w'

theorem next64 (y : BitVec 64) : ∃ y' : BitVec 64, IntKind.u64.wrap (IntKind.u64.wrap ((y.toNat : Int) * 6364136223846793005) + 1442695040888963407) = (y'.toNat : Int) := by
  refine ⟨BitVec.ofInt 64 (IntKind.u64.wrap (IntKind.u64.wrap ((y.toNat : Int) * 6364136223846793005) + 1442695040888963407)), ?_⟩
  generalize IntKind.u64.wrap ((y.toNat : Int) * 6364136223846793005) + 1442695040888963407 = z
  rw [IntKind.wrap_u64, BitVec.toNat_ofInt]
  omega
theorem some_byte (z : Int) : ∃ b : B8, z % 256 = (b.toNat : Int) := by
  refine ⟨BitVec.ofInt 8 z, ?_⟩
  rw [BitVec.toNat_ofInt]
  omega

set_option maxRecDepth 100000 in
set_option maxHeartbeats 1000000 in
theorem Spread_any (s : BitVec 64) (n : Nat) (w : World) (hn : n ≤ 3000000) :
    Calls Tryd.prog 18 #[bv64 s, .int .i64 n] w (GivesSome w n) := by
  obtain ⟨i0, hi, hz0, hz1, hz2⟩ := info_parts A.infoB
  have hsl := s.isLt
  go_enter Tryd.func18, Tryd.ntmps18
  go_wp2_with fail
  go_loopw [5, 6, 7] (fun o x i wr => (∃ (k : Nat) (L : List B8) (a' : Option Addr) (c' : Nat) (y : BitVec 64), k ≤ n ∧ i = .int .i64 k ∧ x = bv64 y ∧ o = .slice a' L.length c' ∧ Hid (L.length = k) ∧ Hid (Own wr w.heap.size a' c' L)) ∧ Below w.heap.size w wr) (fun _ _ i _ => n - (intOf i).toNat)
  case atStart => exact ⟨⟨0, [], none, 0, s, by omega, rfl, rfl, rfl, hid rfl, hid (own_nil _ _)⟩, Below.refl _ _⟩
  case round =>
    obtain ⟨⟨k, L, a', c', y, hk, rfl, rfl, rfl, HL, HO⟩, bel⟩ := hrel
    have hyl := y.isLt
    by_cases hlt : k < n
    · have hLl : L.length ≤ 3000000 := by rw [HL.out]; omega
      go_wp2_with (at_builtin; refine wpList_append_own _ rfl _ _ 22 rfl w.heap.size 5 i0 (.int .u8 0) 1 1 Tryd.underlying22 hi hz0 hz1 hz2 rfl (by decide) _ _ _ rfl (HO.out.alloc _) ⟨wr.heap.size, 0, none⟩ 1 1 [_] rfl rfl (cell_one_new _ _ _) ?c2 ?c3 ?c4 ?c5 ?_)
      case c2 => simp [Value.oneCell']
      case c3 => unfold maxLen; omega
      case c4 => omega
      case c5 => have := bel.size; simp; omega
      intro v' w3 hown hgrow _
      have hB : w.heap.size ≤ wr.heap.size := bel.size
      obtain ⟨q, hq⟩ := some_byte (IntKind.u64.wrap (IntKind.u64.wrap (↑y.toNat * 6364136223846793005) + 1442695040888963407) / 8589934592)
      obtain ⟨a3, c3, rfl, own3, bel3⟩ := app_out (M := [q]) HO.out bel hB hown hgrow (by rw [hq]; rfl)
      have HO3 := hid own3
      have HL3 := hid (show (L ++ [q]).length = k + 1 by rw [List.length_append, HL.out]; rfl)
      generalize L ++ [q] = L3 at *
      obtain ⟨y', hy'⟩ := next64 y
      have Hy := hid hy'
      clear hown hgrow own3 bel HO HL hLl hq hy'
      go_wp2_with fail
      go_roundw
      case rel => exact ⟨⟨k + 1, L3, a3, c3, y', by omega, by go_num, by rw [Hy.out], rfl, HL3, HO3⟩, bel3⟩
      case measure => simp [intOf]; omega
    · obtain rfl : k = n := by omega
      go_wp2_with fail
      go_ret
      exact ⟨L, HL.out, a', c', rfl, HO.out, bel⟩
end Go.Proofs.YtgbgcfdniodfpaaDoor
