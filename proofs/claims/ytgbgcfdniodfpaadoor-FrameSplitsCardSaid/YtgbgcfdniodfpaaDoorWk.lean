/- vestrylaw05.awake. -/
import Derived.Test.YtgbgcfdniodfpaaDoorAl
namespace Go.Proofs.YtgbgcfdniodfpaaDoor
open Go.RowKit
set_option linter.unusedVariables false

def p12 : List B8 := [1#8, 2#8]
def z5 : List B8 := [0#8, 0#8, 0#8, 0#8, 0#8]
theorem fput_nil : fput [] = z5 := by decide +kernel
theorem fput_12 : (fput p12).length = 7 := by decide +kernel
theorem rd_12 : rd (fput p12 ++ [9#8]) = .ok p12 7 := by rw [← fput_12]; exact rd_put p12 [9#8] (by decide)
theorem rd_nil : rd [] = .err 1 0 := by unfold rd vnum vnumAux; rfl
theorem vput_2 : (vput 2).length = 1 := by decide +kernel

theorem func_ne (f : Fn) (x y : Array Value) : ∀ W, (binOp .neq 55 (.func f x y) .nilFunc).run Tryd.prog W = .ok (.bool true) W := fun W => by
  have h : ∀ d : Nat, (Op.equalIn (d + 1) 55 (.func f x y) .nilFunc).run Tryd.prog W = .ok false W := fun d => by simp [Op.equalIn, run_underlying Tryd.underlying55]
  simp only [binOp]
  simp [Op.equal, Op.maxDepth, h 9999]
theorem func_eq (f : Fn) (x y : Array Value) : ∀ W, (binOp .eql 55 (.func f x y) .nilFunc).run Tryd.prog W = .ok (.bool false) W := fun W => by
  have h : ∀ d : Nat, (Op.equalIn (d + 1) 55 (.func f x y) .nilFunc).run Tryd.prog W = .ok false W := fun d => by simp [Op.equalIn, run_underlying Tryd.underlying55]
  simp only [binOp]
  simp [Op.equal, Op.maxDepth, h 9999]
theorem make5 : ∀ w, (Instr.makeSlice 22 (.int .i64 5) (.int .i64 5)).run Tryd.prog w = .ok (.slice (some ⟨w.heap.size, 0, none⟩) 5 5) (w.alloc (.cells #[.int .u8 0, .int .u8 0, .int .u8 0, .int .u8 0, .int .u8 0] 5)) := fun _ => by kernel_rfl

set_option maxRecDepth 100000 in
set_option maxHeartbeats 2000000 in
theorem awake_any (w : World) (he : Et w) :
    Calls Tryd.prog 8 #[] w fun e w' => e = .returned (.bool true) ∧ Below w.heap.size w w' := by
  have HE := hid he
  clear he
  have hP1 := hid (Put_ok none 0 [] w (.inl rfl) (by simp))
  rw [fput_nil] at hP1
  go_enter Tryd.func8, Tryd.ntmps8
  go_wp2_with fail
  refine hP1.out.mono ?_
  rintro e w1 ⟨a1, c1, rfl, own1, bel1⟩
  have R1 := hid own1.rd
  have Bel1 := hid bel1
  clear own1 bel1 hP1
  go_wp2_with fail
  refine (Put_ok (some ⟨w1.heap.size, 0, none⟩) 2 p12 _ (rd_new w1 _ _ p12 rfl) (by decide)).mono ?_
  rintro e w2 ⟨a2, c2, rfl, own2, bel2⟩
  have bw2 : Below w1.heap.size w1 w2 := ((Below.refl _ w1).alloc (Nat.le_refl _) _).trans (bel2.mono (by simp))
  have Own2 := hid (own2.mono (show w1.heap.size ≤ _ by simp))
  have BW2 := hid bw2
  clear own2 bel2 bw2
  obtain ⟨y, hy⟩ : ∃ y, y = fput p12 := ⟨_, rfl⟩
  have hyl : y.length = 7 := by rw [hy]; exact fput_12
  rw [← hy] at Own2 ⊢
  rw [hyl]
  have Hy := hid hy
  have Hyl := hid hyl
  clear hy hyl
  have hB := BW2.out.size
  go_wp2_with (at_builtin; refine wpList_app rfl _ _ rfl w1.heap.size _ _ y (by rw [Hyl.out]; rfl) (Own2.out.alloc _) _ _ [9#8] rfl (rd_new w2 _ _ [9#8] rfl) ?k1 ?k2 ?_)
  case k1 => have := Hyl.out; simp; omega
  case k2 => simp; omega
  intro L3 a3 c3 w3 HN Own3 bel3
  have BW3 := hid ((BW2.out.alloc hB _).trans bel3.out)
  have R1 := hid (R1.out.later BW3.out)
  have Bel3 := hid (Bel1.out.trans (BW3.out.mono Bel1.out.size))
  have hl3 : L3.length = 8 := by rw [HN.out, List.length_append, Hyl.out]; rfl
  have hRead := hid (Read_any a3 c3 L3 w3 (HE.out.later Bel3.out) Own3.out.rd Own3.out.cap (by omega))
  rw [hl3, HN.out, Hy.out, rd_12] at hRead
  rw [hl3]
  clear bel3 BW3 BW2 Own2 Own3 HN Hy Hyl hl3 hB Bel1
  go_wp2_with fail
  refine hRead.out.mono ?_
  rintro e w4 ⟨a4, c4, rfl, own4, bel4⟩
  have R1 := hid (R1.out.later bel4)
  have R4 := hid own4.rd
  have Bel4 := hid (Bel3.out.trans (bel4.mono Bel3.out.size))
  clear own4 bel4 Bel3 hRead
  have hRead := hid (Read_any none 0 [] w4 (HE.out.later Bel4.out) (.inl rfl) (by simp) (by simp))
  rw [rd_nil] at hRead
  go_wp2_with fail
  refine hRead.out.mono ?_
  rintro e w5 ⟨rfl, bel5⟩
  have R1 := hid (R1.out.later bel5)
  have R4 := hid (R4.out.later bel5)
  have Bel5 := hid (Bel4.out.trans (bel5.mono Bel4.out.size))
  have HE5 := hid (HE.out.later Bel5.out)
  clear bel5 Bel4 hRead
  have hmk := make5
  go_wp2_with fail
  refine (Same_any a1 _ c1 5 z5 z5 _ (R1.out.later ((Below.refl _ w5).alloc (Nat.le_refl _) _)) (rd_new w5 _ _ z5 rfl) (by decide) (by decide) true (by decide)).mono ?_
  rintro e w6 ⟨rfl, bel6⟩
  have bw6 : Below w5.heap.size w5 w6 := ((Below.refl _ w5).alloc (Nat.le_refl _) _).trans (bel6.mono (by simp))
  have R4 := hid (R4.out.later bw6)
  have Bel6 := hid (Bel5.out.trans (bw6.mono Bel5.out.size))
  clear bel6 bw6 Bel5 hmk HE5
  go_wp2_with fail
  refine (Same_any a4 _ c4 2 p12 p12 _ (R4.out.later ((Below.refl _ w6).alloc (Nat.le_refl _) _)) (rd_new w6 _ _ p12 rfl) (by decide) (by decide) true (by decide)).mono ?_
  rintro e w7 ⟨rfl, bel7⟩
  have bw7 : Below w6.heap.size w6 w7 := ((Below.refl _ w6).alloc (Nat.le_refl _) _).trans (bel7.mono (by simp))
  have Bel7 := hid (Bel6.out.trans (bw7.mono Bel6.out.size))
  have HE7 := hid (HE.out.later Bel7.out)
  clear bel7 bw7 Bel6
  go_wp2_with fail
  refine (told_fault 1 0 _ HE7.out rfl).mono ?_
  rintro e w8 ⟨rfl, bel8⟩
  have Bel8 := hid (Bel7.out.trans (bel8.mono Bel7.out.size))
  clear bel8 Bel7 HE7
  have hS := hid (Size_any 2 w8 (by decide))
  rw [vput_2] at hS
  go_wp2_with fail
  refine hS.out.mono ?_
  rintro e w9 ⟨rfl, bel9⟩
  have Bel9 := hid (Bel8.out.trans (bel9.mono Bel8.out.size))
  clear bel9 Bel8 hS
  go_wp2_with fail
  refine (All_any _ _ _ _).mono ?_
  rintro e w10 ⟨rfl, rfl⟩
  have hf := func_ne (.func 38) #[] #[.pointer (some ⟨w9.heap.size, 0, none⟩)]
  go_wp2_with fail
  go_ret
  exact ⟨rfl, Bel9.out.alloc Bel9.out.size _⟩
end Go.Proofs.YtgbgcfdniodfpaaDoor
