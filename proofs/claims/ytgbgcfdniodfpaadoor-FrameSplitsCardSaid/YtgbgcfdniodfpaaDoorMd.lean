/- crc.made: the table of the registers after a byte. -/
import Derived.Test.YtgbgcfdniodfpaaDoorBs
namespace Go.Proofs.YtgbgcfdniodfpaaDoor
open Go.RowKit
set_option linter.unusedVariables false

def zs256 : Array Value := Array.replicate 256 (.int .u32 0)
theorem zero256 (w : World) : (zeroValue 99).run Tryd.prog w = .ok (.agg zs256) w := by kernel_rfl

/-- the table, its first k places filled -/
def tabTo (k : Nat) : Array Value := Array.ofFn (n := 256) fun i => if i.val < k then bv32 (rsteps 8 (BitVec.ofNat 32 i.val)) else .int .u32 0
def tab : Array Value := tabTo 256

theorem tabTo_size (k : Nat) : (tabTo k).size = 256 := by simp [tabTo]
theorem tabTo_zero : tabTo 0 = zs256 := by
  apply Array.ext
  · simp [tabTo, zs256]
  · intro i h1 h2; simp [tabTo, zs256]
theorem tabTo_succ (k : Nat) : (tabTo k).setIfInBounds k (bv32 (rsteps 8 (BitVec.ofNat 32 k))) = tabTo (k + 1) := by
  apply Array.ext
  · simp [tabTo]
  · intro i h1 h2
    rw [Array.getElem_setIfInBounds (by simpa [tabTo] using h1)]
    split
    · rename_i h; subst h; simp [tabTo]
    · rename_i h
      simp only [tabTo, Array.getElem_ofFn]
      by_cases h' : i < k
      · rw [if_pos h', if_pos (by omega)]
      · rw [if_neg h', if_neg (by omega)]
theorem tabTo_one (k : Nat) : (tabTo k).all (·.oneCell') = true := by
  rw [Array.all_eq_true_iff_forall_mem]
  intro x hx
  simp only [tabTo, Array.mem_ofFn] at hx
  obtain ⟨i, rfl⟩ := hx
  split <;> rfl
theorem tab_get (c : B8) : tab[c.toNat]? = some (bv32 (rsteps 8 (c.setWidth 32))) := by
  have hc := c.isLt
  have h : c.toNat < tab.size := by unfold tab; rw [tabTo_size]; omega
  rw [Array.getElem?_eq_getElem h]
  have e : tab[c.toNat] = bv32 (rsteps 8 (BitVec.ofNat 32 c.toNat)) := by
    simp only [tab, tabTo, Array.getElem_ofFn]
    rw [if_pos (by omega)]
  have e2 : BitVec.ofNat 32 c.toNat = c.setWidth 32 := BitVec.eq_of_toNat_eq (by simp)
  rw [e, e2]

theorem info256 : (Tryd.prog.info? 99).map (·.size) = some 256 := by kernel_rfl

/-- one round of the inner loop -/
theorem step_int (y : BitVec 32) : bits BinOp.xor IntKind.u32 ((y.toNat : Int) / 2) (bits BinOp.and IntKind.u32 (y.toNat : Int) 1 * 3988292384 % 4294967296) = ((rstep y).toNat : Int) := by
  have hy := y.isLt
  have e1 : bits BinOp.and IntKind.u32 (y.toNat : Int) 1 = ((y.toNat % 2 : Nat) : Int) := by
    rw [show (1 : Int) = ((1 : Nat) : Int) from rfl, u32_and_nat _ _ hy (by omega), nat_mask1]
  rw [e1]
  have e2 : ((y.toNat : Int) / 2) = ((y.toNat / 2 : Nat) : Int) := by omega
  have e3 : (((y.toNat % 2 : Nat) : Int) * 3988292384 % 4294967296) = ((y.toNat % 2 * 3988292384 : Nat) : Int) := by omega
  rw [e2, e3, u32_xor_nat _ _ (by omega) (by omega)]
  congr 1
  unfold rstep
  rw [BitVec.toNat_xor]
  congr 1
  have : y.getLsbD 0 = decide (y.toNat % 2 = 1) := by
    rw [BitVec.getLsbD, Nat.testBit_zero]
  rw [this]
  rcases Nat.mod_two_eq_zero_or_one y.toNat with h | h <;> simp [h, poly]

theorem rsteps_snoc (n : Nat) (x : BitVec 32) : rstep (rsteps n x) = rsteps (n + 1) x := by
  rw [rsteps_add n 1]; rfl

set_option maxRecDepth 100000 in
set_option maxHeartbeats 1000000 in
theorem made_any (w : World) : Calls Tryd.prog 51 #[] w fun e w' => e = .returned (.agg tab) ∧ Below w.heap.size w w' := by
  have hz := zero256
  go_enter Tryd.func51, Tryd.ntmps51
  go_wp2_with fail
  go_loopw [4] (fun i wr => ∃ k : Nat, k ≤ 256 ∧ i = .int .i64 k ∧ wr.heap[w.heap.size]? = some (.cells (tabTo k) 99 (0, 0)) ∧ Below w.heap.size w wr) (fun i _ => 256 - (intOf i).toNat)
  case atStart => exact ⟨0, by omega, rfl, by rw [tabTo_zero]; exact heap_alloc_new _ _, (Below.refl _ _).alloc (Nat.le_refl _) _⟩
  case round =>
    obtain ⟨k, hk, rfl, hb, bel⟩ := hrel
    by_cases hlt : k < 256
    · have hcell : wr.cell? ⟨w.heap.size, k, none⟩ = some (.int .u32 0) := by
        rw [cell_of_row wr _ k _ _ _ hb, Array.getElem?_eq_getElem (by rw [tabTo_size]; exact hlt)]
        simp [tabTo]
      have hfro : wr.frozen? ⟨w.heap.size, k, none⟩ = false := by simp [World.frozen?, hb]
      have Hb := hid hb; clear hb
      go_wp2_with fail
      go_loop [9, 2] (fun i x => ∃ j : Nat, j ≤ 8 ∧ i = .int .i64 j ∧ x = bv32 (rsteps j (BitVec.ofNat 32 k))) (fun i _ => 8 - (intOf i).toNat)
      case atStart => exact ⟨0, by omega, rfl, by simp [rsteps]; omega⟩
      case round =>
        obtain ⟨j, hj, rfl, rfl⟩ := hrel
        by_cases hjl : j < 8
        · generalize hy : rsteps j (BitVec.ofNat 32 k) = y
          have Hy := hid hy; clear hy
          have hyl := y.isLt
          go_wp2_with fail
          go_round
          case rel => exact ⟨j + 1, by omega, by go_num, by rw [step_int, ← Hy.out, rsteps_snoc]⟩
          case measure => simp [intOf]; omega
        · obtain rfl : j = 8 := by omega
          generalize hy : rsteps 8 (BitVec.ofNat 32 k) = y
          have Hy := hid hy; clear hy
          have hyl := y.isLt
          go_wp2_with fail
          go_roundw
          case rel => exact ⟨k + 1, by omega, by go_num, by rw [heap_setCell_same _ _ _ _ _ _ Hb.out, ← Hy.out, tabTo_succ], bel.setCell (Nat.le_refl _) _⟩
          case measure => simp [intOf]; omega
    · obtain rfl : k = 256 := by omega
      have hbt : wr.heap[w.heap.size]? = some (.cells tab 99 (0, 0)) := hb
      have Hb := hid hbt; clear hb hbt
      go_wp2_with (first | refine wpList_load_row rfl 99 _ rfl w.heap.size rfl 99 tab (0, 0) _ Hb.out Tryd.underlying99 rfl (by rw [info256]; simp [tab, tabTo_size]) ?_ | refine wpList_store_row rfl 99 _ _ rfl w.heap.size tab rfl rfl 99 tab Hb.out (by rw [info256]; simp [tab, tabTo_size]) rfl (tabTo_one 256) ?_)
      refine bodyPost_ret (v := .agg tab) (results_cell_row rfl _ _ w.heap.size 99 tab (0, 0) _ rfl (setRow_heap _ _ _ _ _ _ Hb.out) Tryd.underlying99 rfl (by rw [info256]; simp [tab, tabTo_size])) rfl ⟨rfl, ?_⟩
      exact bel.trans ⟨rfl, rfl, rfl, by simp, fun i hi => setRow_other _ _ _ _ (by omega)⟩
end Go.Proofs.YtgbgcfdniodfpaaDoor
