/- fault.Code, fault.At, fault.New, fault.Shift, and the laws' told. -/
import Derived.Test.YtgbgcfdniodfpaaDoorAt
namespace Go.Proofs.YtgbgcfdniodfpaaDoor
open Go.RowKit
set_option linter.unusedVariables false

abbrev code (c : Int) : Value := .iface 39 (.int .i64 c)
abbrev flt (c o : Int) : Value := .iface 81 (.agg #[.int .i64 c, .int .i64 o])

set_option maxHeartbeats 1000000 in
theorem Code_code (c : Int) (w : World) (he : Et w) : Calls Tryd.prog 35 #[code c] w fun e w' => e = .returned (.tuple #[.int .i64 c, .bool true]) ∧ Below w.heap.size w w' := by
  have b1 : Below w.heap.size w (w.alloc (.cells #[.int .i64 0] 39)) := (Below.refl _ _).alloc (Nat.le_refl _) _
  have HC := hid (as_code_code c ⟨w.heap.size, 0, none⟩ (.int .i64 0) (w.alloc (.cells #[.int .i64 0] 39)) (he.later b1) (cell_new1 _ _ _) (by simp) w.heap.size b1.size (Nat.le_refl _))
  clear he
  go_enter Tryd.func35, Tryd.ntmps35
  go_wp2_with fail
  refine HC.out.mono ?_
  rintro e w2 ⟨rfl, h1, bel2⟩
  have Bel := hid (b1.trans bel2)
  clear b1 bel2 HC
  go_wp2_with fail
  go_ret2
  exact ⟨rfl, Bel.out⟩

set_option maxHeartbeats 1000000 in
theorem Code_fault (c o : Int) (w : World) (he : Et w) : Calls Tryd.prog 35 #[flt c o] w fun e w' => e = .returned (.tuple #[.int .i64 c, .bool true]) ∧ Below w.heap.size w w' := by
  have b1 : Below w.heap.size w (w.alloc (.cells #[.int .i64 0] 39)) := (Below.refl _ _).alloc (Nat.le_refl _) _
  have HC := hid (as_fault_code c o ⟨w.heap.size, 0, none⟩ (.int .i64 0) (w.alloc (.cells #[.int .i64 0] 39)) (he.later b1) (cell_new1 _ _ _) (by simp) w.heap.size b1.size (Nat.le_refl _))
  clear he
  go_enter Tryd.func35, Tryd.ntmps35
  go_wp2_with fail
  refine HC.out.mono ?_
  rintro e w2 ⟨rfl, h1, bel2⟩
  have Bel := hid (b1.trans bel2)
  clear b1 bel2 HC
  go_wp2_with fail
  go_ret2
  exact ⟨rfl, Bel.out⟩

set_option maxHeartbeats 1000000 in
theorem At_code (c : Int) (w : World) (he : Et w) : Calls Tryd.prog 36 #[code c] w fun e w' => e = .returned (.tuple #[.int .i64 0, .bool false]) ∧ Below w.heap.size w w' := by
  have b1 : Below w.heap.size w (w.alloc (.cells #[.int .i64 0, .int .i64 0] 81)) := (Below.refl _ _).alloc (Nat.le_refl _) _
  have HC := hid (as_code_fault c ⟨w.heap.size, 0, none⟩ (w.alloc (.cells #[.int .i64 0, .int .i64 0] 81)) (he.later b1))
  have hn := heap_alloc_new w (.cells #[.int .i64 0, .int .i64 0] 81)
  clear he
  go_enter Tryd.func36, Tryd.ntmps36
  go_wp2_with fail
  refine HC.out.mono ?_
  rintro e w2 ⟨rfl, bel2⟩
  have Bel := hid (b1.trans (bel2.mono b1.size))
  have h1 : w2.cell? ⟨w.heap.size, 1, none⟩ = some (.int .i64 0) := by rw [cell_of_row _ _ _ _ _ _ (heap_later hn bel2)]; rfl
  clear b1 bel2 HC hn
  go_wp2_with fail
  go_ret2
  exact ⟨rfl, Bel.out⟩

set_option maxHeartbeats 1000000 in
theorem At_fault (c o : Int) (w : World) (he : Et w) : Calls Tryd.prog 36 #[flt c o] w fun e w' => e = .returned (.tuple #[.int .i64 o, .bool true]) ∧ Below w.heap.size w w' := by
  have b1 : Below w.heap.size w (w.alloc (.cells #[.int .i64 0, .int .i64 0] 81)) := (Below.refl _ _).alloc (Nat.le_refl _) _
  have HC := hid (as_fault_fault c o w.heap.size #[.int .i64 0, .int .i64 0] (w.alloc (.cells #[.int .i64 0, .int .i64 0] 81)) (he.later b1) (heap_alloc_new _ _) rfl w.heap.size b1.size (Nat.le_refl _))
  clear he
  go_enter Tryd.func36, Tryd.ntmps36
  go_wp2_with fail
  refine HC.out.mono ?_
  rintro e w2 ⟨rfl, hh, bel2⟩
  have Bel := hid (b1.trans bel2)
  have h1 : w2.cell? ⟨w.heap.size, 1, none⟩ = some (.int .i64 o) := by rw [cell_of_row _ _ _ _ _ _ hh]; rfl
  clear b1 bel2 HC hh
  go_wp2_with fail
  go_ret2
  exact ⟨rfl, Bel.out⟩

theorem New_any (c o : Int) (w : World) : Calls Tryd.prog 29 #[.int .i64 c, .int .i64 o] w fun e w' => e = .returned (flt c o) ∧ Below w.heap.size w w' := by
  go_enter Tryd.func29, Tryd.ntmps29
  go_wp2
  go_ret
  exact ⟨rfl, Below.refl _ _⟩

set_option maxHeartbeats 1000000 in
theorem Shift_code (c n : Int) (w : World) (he : Et w) (h1 : 0 ≤ n) (h2 : n ≤ 1000000000) : Calls Tryd.prog 30 #[code c, .int .i64 n] w fun e w' => e = .returned (flt c n) ∧ Below w.heap.size w w' := by
  have HE := hid he
  clear he
  go_enter Tryd.func30, Tryd.ntmps30
  go_wp2_with fail
  refine (Code_code c _ HE.out).mono ?_
  rintro e w2 ⟨rfl, bel2⟩
  have Bel2 := hid bel2
  clear bel2
  go_wp2_with fail
  refine (At_code c _ (HE.out.later Bel2.out)).mono ?_
  rintro e w3 ⟨rfl, bel3⟩
  have Bel3 := hid (Bel2.out.trans (bel3.mono Bel2.out.size))
  clear bel3 Bel2
  go_wp2_with fail
  refine (New_any c n _).mono ?_
  rintro e w4 ⟨rfl, bel4⟩
  have Bel4 := hid (Bel3.out.trans (bel4.mono Bel3.out.size))
  clear bel4 Bel3
  go_wp2_with fail
  go_ret
  exact ⟨rfl, Bel4.out⟩

set_option maxHeartbeats 1000000 in
theorem Shift_fault (c o n : Int) (w : World) (he : Et w) (h1 : 0 ≤ n) (h2 : n ≤ 1000000000) (h3 : 0 ≤ o) (h4 : o ≤ 1000000000) : Calls Tryd.prog 30 #[flt c o, .int .i64 n] w fun e w' => e = .returned (flt c (o + n)) ∧ Below w.heap.size w w' := by
  have HE := hid he
  clear he
  go_enter Tryd.func30, Tryd.ntmps30
  go_wp2_with fail
  refine (Code_fault c o _ HE.out).mono ?_
  rintro e w2 ⟨rfl, bel2⟩
  have Bel2 := hid bel2
  clear bel2
  go_wp2_with fail
  refine (At_fault c o _ (HE.out.later Bel2.out)).mono ?_
  rintro e w3 ⟨rfl, bel3⟩
  have Bel3 := hid (Bel2.out.trans (bel3.mono Bel2.out.size))
  clear bel3 Bel2
  go_wp2_with fail
  refine (New_any c (o + n) _).mono ?_
  rintro e w4 ⟨rfl, bel4⟩
  have Bel4 := hid (Bel3.out.trans (bel4.mono Bel3.out.size))
  clear bel4 Bel3
  go_wp2_with fail
  go_ret
  exact ⟨rfl, Bel4.out⟩

set_option maxHeartbeats 1000000 in
theorem told_nil (o : Int) (w : World) : Calls Tryd.prog 15 #[.nilIface, .int .i64 0, .int .i64 o] w fun e w' => e = .returned (.bool true) ∧ Below w.heap.size w w' := by
  go_enter Tryd.func15, Tryd.ntmps15
  go_wp2_with fail
  go_ret
  exact ⟨rfl, Below.refl _ _⟩

set_option maxHeartbeats 1000000 in
theorem told_fault (c o : Int) (w : World) (he : Et w) (hc : (c == 0) = false) : Calls Tryd.prog 15 #[flt c o, .int .i64 c, .int .i64 o] w fun e w' => e = .returned (.bool true) ∧ Below w.heap.size w w' := by
  have HE := hid he
  clear he
  go_enter Tryd.func15, Tryd.ntmps15
  go_wp2_with fail
  refine (Code_fault c o _ HE.out).mono ?_
  rintro e w2 ⟨rfl, bel2⟩
  have Bel2 := hid bel2
  clear bel2
  go_wp2_with fail
  refine (At_fault c o _ (HE.out.later Bel2.out)).mono ?_
  rintro e w3 ⟨rfl, bel3⟩
  have Bel3 := hid (Bel2.out.trans (bel3.mono Bel2.out.size))
  clear bel3 Bel2
  go_wp2_with fail
  go_ret
  exact ⟨rfl, Bel3.out⟩
end Go.Proofs.YtgbgcfdniodfpaaDoor
