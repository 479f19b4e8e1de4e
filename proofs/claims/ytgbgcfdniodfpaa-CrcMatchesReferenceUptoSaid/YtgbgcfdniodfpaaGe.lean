/- The walk of the reference's generator. -/
import Derived.Test.YtgbgcfdniodfpaaPo
namespace Go.Proofs.Ytgbgcfdniodfpaa
open Go.RowKit
set_option linter.unusedVariables false

theorem pw_lt : ∀ k (h : k < pw.length), pw[k] < 33 := by decide

def pwv : Array Value := (pw.map fun p => Value.int .i64 ((p : Nat) : Int)).toArray
theorem pwv_get (k : Nat) (h : k < pw.length) : pwv[k]? = some (.int .i64 (pw[k] : Nat)) := by simp [pwv, h]

set_option maxRecDepth 100000 in
set_option maxHeartbeats 1000000 in
theorem generator_any (w : World) :
    Calls Try.prog 20 #[] w fun e w' => e = .returned (.slice (some ⟨w.heap.size, 0, none⟩) 33 33) ∧ Mem w' w.heap.size 33 gbit ∧ Below w.heap.size w w' := by
  have hmk : ∀ w : World, (Instr.makeSlice 42 (.int .i64 33) (.int .i64 33)).run Try.prog w = .ok (.slice (some ⟨w.heap.size, 0, none⟩) 33 33) (w.alloc (.cells (mcells 33 (fun _ => false)) 3)) := run_make_ints 33 (by omega)
  go_enter Try.func20, Try.ntmps20
  go_wp2_with fail
  have Hp := hid (heap_alloc2_new w (.cells (mcells 33 (fun _ => false)) 3) (.cells #[.int .i64 32, .int .i64 26, .int .i64 23, .int .i64 22, .int .i64 16, .int .i64 12, .int .i64 11, .int .i64 10, .int .i64 8, .int .i64 7, .int .i64 5, .int .i64 4, .int .i64 2, .int .i64 1, .int .i64 0] 3))
  have Hm := hid (show Mem ((w.alloc (.cells (mcells 33 (fun _ => false)) 3)).alloc (.cells #[.int .i64 32, .int .i64 26, .int .i64 23, .int .i64 22, .int .i64 16, .int .i64 12, .int .i64 11, .int .i64 10, .int .i64 8, .int .i64 7, .int .i64 5, .int .i64 4, .int .i64 2, .int .i64 1, .int .i64 0] 3)) w.heap.size 33 (fun _ => false) from heap_alloc2_old w _ _)
  clear hmk
  go_loopw [3] (fun i wr => (∃ k : Nat, k ≤ 15 ∧ i = .int .i64 k ∧ Hid (Mem wr w.heap.size 33 (fun j => (pw.take k).contains j))) ∧ (∀ k (h : k < pw.length), wr.cell? ⟨w.heap.size + 1, k, none⟩ = some (.int .i64 (pw[k] : Nat))) ∧ Below w.heap.size w wr) (fun i _ => 15 - (intOf i).toNat)
  case atStart =>
    refine ⟨⟨0, by omega, rfl, Hm⟩, fun k h => ?_, ((Below.refl _ _).alloc (Nat.le_refl _) _).alloc (by simp) _⟩
    rw [cell_of_row _ _ _ _ _ _ Hp.out]
    exact pwv_get k h
  case round =>
    clear Hm Hp
    obtain ⟨⟨k, hk, rfl, HM⟩, hps, bel⟩ := hrel
    have Bel := hid bel
    clear bel
    by_cases hlt : k < 15
    · have hkp : k < pw.length := hlt
      have h1 := hps k hkp
      have hp33 := pw_lt k hkp
      have Hps := hid hps
      have Ht := hid (show pw.take (k + 1) = pw.take k ++ [pw[k]] from List.take_succ_eq_append_getElem hkp)
      clear hps
      generalize pw[k] = p at *
      have h2 := HM.out.cell p hp33
      have h3 := HM.out.free p
      go_wp2_with fail
      go_roundw
      case rel =>
        refine ⟨⟨k + 1, by omega, by go_num, hid ((HM.out.set p true).ext fun j hj => ?_)⟩, fun k' h' => ?_, Bel.out.setCell (p := ⟨w.heap.size, p, none⟩) (Nat.le_refl _) _⟩
        · rw [Ht.out]
          by_cases e : j = p
          · subst e; simp
          · rw [if_neg e]
            simp [e]
        · exact (World.cell?_setCell_other wr _ _ _ (by simp)).trans (Hps.out k' h')
      case measure => simp [intOf]; omega
    · obtain rfl : k = 15 := by omega
      have HM2 := hid (HM.out.ext (g := gbit) fun j hj => rfl)
      clear HM hps
      go_wp2_with fail
      go_ret
      exact ⟨rfl, HM2.out, Bel.out⟩
end Go.Proofs.Ytgbgcfdniodfpaa
