/- errors.As, fault.Code, fault.At, fault.New, fault.Shift, and the laws' told. -/
import Derived.Test.YtgbgcfdniodfpaaDoorAs
namespace Go.Proofs.YtgbgcfdniodfpaaDoor
open Go.RowKit Go.Extern.Stop Go.Stop Go.Extern
set_option linter.unusedVariables false

/-- the world in which errors.as is called -/
theorem As_world (p : Nat) (t : Addr) (w : World) (he : Et w) :
    let W := (w.alloc (.cells #[.pointer (some t)] p)).alloc (.cells #[.pointer (some ⟨1, p, none⟩), .pointer (some ⟨w.heap.size, 0, none⟩), .int .u64 150] 90)
    Below w.heap.size w W ∧ Et W ∧ W.cell? ⟨w.heap.size, 0, none⟩ = some (.pointer (some t)) := by
  have b : Below w.heap.size w ((w.alloc (.cells #[.pointer (some t)] p)).alloc (.cells #[.pointer (some ⟨1, p, none⟩), .pointer (some ⟨w.heap.size, 0, none⟩), .int .u64 150] 90)) :=
    ((Below.refl _ _).alloc (Nat.le_refl _) _).alloc (by simp) _
  exact ⟨b, he.later b, cell_alloc (cell_new1 w _ _) _⟩

set_option maxRecDepth 100000 in
set_option maxHeartbeats 4000000 in
/-- errors.As(err, target) at a target of type 83: what errors.as says. -/
theorem As_code (u : TypeId) (v : Value) (t : Addr) (w : World) (he : Et w) (R : Ending → World → Prop)
    (h : Calls Tryd.prog 50 #[.iface u v, .iface 83 (.pointer (some t)), V83 ⟨w.heap.size, 0, none⟩, T39] ((w.alloc (.cells #[.pointer (some t)] 83)).alloc (.cells #[.pointer (some ⟨1, 83, none⟩), .pointer (some ⟨w.heap.size, 0, none⟩), .int .u64 150] 90)) fun e w' => ∃ b, e = .returned (.bool b) ∧ R (.returned (.bool b)) w') :
    Calls Tryd.prog 44 #[.iface u v, .iface 83 (.pointer (some t))] w R := by
  obtain ⟨_, he2, ha⟩ := As_world 83 t w he
  have h47 := ext47
  have h48 := ext48
  have h49 := ext49
  have h69 := ext69
  have h81 := ext81
  have h82 := ext82
  have f10 := methodKind
  have f11 := methodElem
  have f12 := methodImplements
  have f1 := valueOf83
  have f2 := type83
  have f3 := kind83
  have f4 := kind39
  have f5 := elem83
  have f6 := implements39
  have n1 := isNil83 ⟨w.heap.size, 0, none⟩ t _ ha
  have hg : ((w.alloc (.cells #[.pointer (some t)] 83)).alloc (.cells #[.pointer (some ⟨1, 83, none⟩), .pointer (some ⟨w.heap.size, 0, none⟩), .int .u64 150] 90)).cell? ⟨0, 0, none⟩ = some (.iface 102 (.agg #[.pointer (some ⟨1, 25, none⟩)])) := he2
  have H := hid h
  clear h he he2 ha
  go_enter Tryd.func44, Tryd.ntmps44
  go_wp2_with fail
  refine H.out.mono ?_
  rintro e w2 ⟨b, rfl, hR⟩
  have HR := hid hR
  clear hR n1 hg
  go_wp2_with fail
  exact HR.out

set_option maxRecDepth 100000 in
set_option maxHeartbeats 4000000 in
/-- errors.As(err, target) at a target of type 84: what errors.as says. -/
theorem As_fault (u : TypeId) (v : Value) (t : Addr) (w : World) (he : Et w) (R : Ending → World → Prop)
    (h : Calls Tryd.prog 50 #[.iface u v, .iface 84 (.pointer (some t)), V84 ⟨w.heap.size, 0, none⟩, T81] ((w.alloc (.cells #[.pointer (some t)] 84)).alloc (.cells #[.pointer (some ⟨1, 84, none⟩), .pointer (some ⟨w.heap.size, 0, none⟩), .int .u64 150] 90)) fun e w' => ∃ b, e = .returned (.bool b) ∧ R (.returned (.bool b)) w') :
    Calls Tryd.prog 44 #[.iface u v, .iface 84 (.pointer (some t))] w R := by
  obtain ⟨_, he2, ha⟩ := As_world 84 t w he
  have h47 := ext47
  have h48 := ext48
  have h49 := ext49
  have h69 := ext69
  have h81 := ext81
  have h82 := ext82
  have f10 := methodKind
  have f11 := methodElem
  have f12 := methodImplements
  have f1 := valueOf84
  have f2 := type84
  have f3 := kind84
  have f4 := kind81
  have f5 := elem84
  have f6 := implements81
  have n1 := isNil84 ⟨w.heap.size, 0, none⟩ t _ ha
  have hg : ((w.alloc (.cells #[.pointer (some t)] 84)).alloc (.cells #[.pointer (some ⟨1, 84, none⟩), .pointer (some ⟨w.heap.size, 0, none⟩), .int .u64 150] 90)).cell? ⟨0, 0, none⟩ = some (.iface 102 (.agg #[.pointer (some ⟨1, 25, none⟩)])) := he2
  have H := hid h
  clear h he he2 ha
  go_enter Tryd.func44, Tryd.ntmps44
  go_wp2_with fail
  refine H.out.mono ?_
  rintro e w2 ⟨b, rfl, hR⟩
  have HR := hid hR
  clear hR n1 hg
  go_wp2_with fail
  exact HR.out

theorem as_code_code (c : Int) (t : Addr) (old : Value) (w : World) (he : Et w) (ht0 : w.cell? t = some old) (hf0 : w.frozen? t = false) (B : Nat) (hB : B ≤ w.heap.size) (hBt : B ≤ t.block) :
    Calls Tryd.prog 44 #[.iface 39 (.int .i64 c), .iface 83 (.pointer (some t))] w fun ev w' => ev = .returned (.bool true) ∧ w'.cell? t = some (.int .i64 c) ∧ Below B w w' := by
  obtain ⟨b, _, ha⟩ := As_world 83 t w he
  refine As_code 39 (.int .i64 c) t w he _ ((as2_code_code c ⟨w.heap.size, 0, none⟩ t old _ ha (cell_alloc (cell_alloc ht0 _) _) (frozen_alloc' (cell_alloc ht0 _) (frozen_alloc' ht0 hf0 _) _) B (Nat.le_trans hB b.size) hBt).mono ?_)
  rintro e w2 ⟨rfl, h1, h2⟩
  exact ⟨true, rfl, rfl, h1, (b.mono hB).trans h2⟩

theorem as_fault_code (c o : Int) (t : Addr) (old : Value) (w : World) (he : Et w) (ht0 : w.cell? t = some old) (hf0 : w.frozen? t = false) (B : Nat) (hB : B ≤ w.heap.size) (hBt : B ≤ t.block) :
    Calls Tryd.prog 44 #[.iface 81 (.agg #[.int .i64 c, .int .i64 o]), .iface 83 (.pointer (some t))] w fun ev w' => ev = .returned (.bool true) ∧ w'.cell? t = some (.int .i64 c) ∧ Below B w w' := by
  obtain ⟨b, _, ha⟩ := As_world 83 t w he
  refine As_code 81 (.agg #[.int .i64 c, .int .i64 o]) t w he _ ((as2_fault_code c o ⟨w.heap.size, 0, none⟩ t old _ ha (cell_alloc (cell_alloc ht0 _) _) (frozen_alloc' (cell_alloc ht0 _) (frozen_alloc' ht0 hf0 _) _) B (Nat.le_trans hB b.size) hBt).mono ?_)
  rintro e w2 ⟨rfl, h1, h2⟩
  exact ⟨true, rfl, rfl, h1, (b.mono hB).trans h2⟩

theorem as_code_fault (c : Int) (t : Addr) (w : World) (he : Et w) :
    Calls Tryd.prog 44 #[.iface 39 (.int .i64 c), .iface 84 (.pointer (some t))] w fun ev w' => ev = .returned (.bool false) ∧ Below w.heap.size w w' := by
  obtain ⟨b, _, ha⟩ := As_world 84 t w he
  refine As_fault 39 (.int .i64 c) t w he _ ((as2_code_fault c ⟨w.heap.size, 0, none⟩ (.iface 84 (.pointer (some t))) _).mono ?_)
  rintro e w2 ⟨rfl, h2⟩
  exact ⟨false, rfl, rfl, b.trans (h2.mono b.size)⟩

theorem as_fault_fault (c o : Int) (g : Nat) (old : Array Value) (w : World) (he : Et w) (hg : w.heap[g]? = some (.cells old 81 (0, 0))) (hs : old.size = 2) (B : Nat) (hB : B ≤ w.heap.size) (hBt : B ≤ g) :
    Calls Tryd.prog 44 #[.iface 81 (.agg #[.int .i64 c, .int .i64 o]), .iface 84 (.pointer (some ⟨g, 0, none⟩))] w fun ev w' => ev = .returned (.bool true) ∧ w'.heap[g]? = some (.cells #[.int .i64 c, .int .i64 o] 81 (0, 0)) ∧ Below B w w' := by
  obtain ⟨b, _, ha⟩ := As_world 84 ⟨g, 0, none⟩ w he
  refine As_fault 81 (.agg #[.int .i64 c, .int .i64 o]) ⟨g, 0, none⟩ w he _ ((as2_fault_fault c o ⟨w.heap.size, 0, none⟩ g old _ ha (heap_later hg b) hs B (Nat.le_trans hB b.size) hBt).mono ?_)
  rintro e w2 ⟨rfl, h1, h2⟩
  exact ⟨true, rfl, rfl, h1, (b.mono hB).trans h2⟩

end Go.Proofs.YtgbgcfdniodfpaaDoor
