/- The cursor: New, Left, At. -/
import Derived.Test.YtgbgcfdniodfpaaDoorCo
namespace Go.Proofs.YtgbgcfdniodfpaaDoor
open Go.RowKit
set_option linter.unusedVariables false

/-- a cursor in block g over the bytes l, at place k -/
structure Cur (w : World) (g : Nat) (a : Option Addr) (c : Nat) (l : List B8) (k : Nat) : Prop where
  hh : w.heap[g]? = some (.cells #[.slice a l.length c, .int .i64 k] 79 (0, 0))
  hr : Rd w a l
  hlt : ∀ x, a = some x → x.block < g
  hc : l.length ≤ c
  hl : l.length ≤ 65544

theorem Rd.under {w w' : World} {g : Nat} {a : Option Addr} {l : List B8} (h : Rd w a l) (hb : Below g w w') (hlt : ∀ x, a = some x → x.block < g) : Rd w' a l := by
  rcases h with h | ⟨b, off, ha, hc⟩
  · exact .inl h
  · exact .inr ⟨b, off, ha, fun j hj => by rw [hb.cell (p := ⟨b, off + j, none⟩) (show b < g from hlt ⟨b, off, none⟩ ha)]; exact hc j hj⟩

theorem Cur.later {w w' : World} {g : Nat} {a : Option Addr} {c : Nat} {l : List B8} {k : Nat} (h : Cur w g a c l k) (hb : Below w.heap.size w w') : Cur w' g a c l k :=
  ⟨heap_later h.hh hb, h.hr.later hb, h.hlt, h.hc, h.hl⟩

theorem Cur.lt {w : World} {g : Nat} {a : Option Addr} {c : Nat} {l : List B8} {k : Nat} (h : Cur w g a c l k) : g < w.heap.size := (Array.getElem?_eq_some_iff.1 h.hh).1

theorem Cur.cell0 {w : World} {g : Nat} {a : Option Addr} {c : Nat} {l : List B8} {k : Nat} (h : Cur w g a c l k) : w.cell? ⟨g, 0, none⟩ = some (.slice a l.length c) := by
  rw [cell_of_row _ _ _ _ _ _ h.hh]; rfl
theorem Cur.cell1 {w : World} {g : Nat} {a : Option Addr} {c : Nat} {l : List B8} {k : Nat} (h : Cur w g a c l k) : w.cell? ⟨g, 1, none⟩ = some (.int .i64 k) := by
  rw [cell_of_row _ _ _ _ _ _ h.hh]; rfl

theorem Cur.free {w : World} {g : Nat} {a : Option Addr} {c : Nat} {l : List B8} {k : Nat} (h : Cur w g a c l k) : w.frozen? ⟨g, 1, none⟩ = false := frozen_of_row _ _ _ _ _ h.hh

/-- the cursor is moved -/
theorem Cur.move {w : World} {g : Nat} {a : Option Addr} {c : Nat} {l : List B8} {k : Nat} (h : Cur w g a c l k) (k' : Nat) : Cur (w.setCell ⟨g, 1, none⟩ (.int .i64 k')) g a c l k' ∧ Below g w (w.setCell ⟨g, 1, none⟩ (.int .i64 k')) := by
  have hb : Below g w (w.setCell ⟨g, 1, none⟩ (.int .i64 k')) := (Below.refl g w).setCell (show g ≤ (⟨g, 1, none⟩ : Addr).block from Nat.le_refl _) _
  exact ⟨⟨heap_setCell_same _ _ _ _ _ _ h.hh, h.hr.under hb h.hlt, h.hlt, h.hc, h.hl⟩, hb⟩

theorem Own.block {w : World} {B : Nat} {a : Option Addr} {c : Nat} {l : List B8} (h : Own w B a c l) : ∀ x, a = some x → x.block < w.heap.size := by
  intro x hx
  rcases h.2 with ⟨h1, _⟩ | ⟨g, cap, cur, hv, hg, hh, r⟩
  · rw [hx] at h1; cases h1
  · obtain ⟨rfl, rfl⟩ : a = some ⟨g, 0, none⟩ ∧ c = cap := by simpa using hv
    cases hx
    exact (Array.getElem?_eq_some_iff.1 hh).1

set_option maxRecDepth 100000 in
set_option maxHeartbeats 1000000 in
theorem New_cur (a : Option Addr) (c : Nat) (l : List B8) (w : World) (hr : Rd w a l) (hl : l.length ≤ 65544) :
    Calls Tryd.prog 26 #[.slice a l.length c] w fun e w' => ∃ g a' c', e = .returned (.pointer (some ⟨g, 0, none⟩)) ∧ Cur w' g a' c' l 0 ∧ w.heap.size ≤ g ∧ Below w.heap.size w w' := by
  have Hr := hid hr
  clear hr
  go_enter Tryd.func26, Tryd.ntmps26
  go_wp2_with fail
  refine (Clone_any a c l _ Hr.out (by omega)).mono ?_
  rintro e w1 ⟨a1, c1, rfl, own1, bel1⟩
  have Own1 := hid own1
  have Bel1 := hid bel1
  clear own1 bel1
  go_wp2_with fail
  go_ret
  exact ⟨w1.heap.size, a1, c1, rfl, ⟨heap_alloc_new _ _, Own1.out.rd.later ((Below.refl _ _).alloc (Nat.le_refl _) _), Own1.out.block, Own1.out.cap, hl⟩, Bel1.out.size, Bel1.out.alloc Bel1.out.size _⟩

set_option maxRecDepth 100000 in
set_option maxHeartbeats 1000000 in
theorem Left_any (g : Nat) (a : Option Addr) (c : Nat) (l : List B8) (k : Nat) (w : World) (h : Cur w g a c l k) (hk : k ≤ l.length) :
    Calls Tryd.prog 42 #[.pointer (some ⟨g, 0, none⟩)] w fun e w' => e = .returned (.int .i64 ((l.length - k : Nat) : Int)) ∧ Below w.heap.size w w' := by
  have h0 := h.cell0
  have h1 := h.cell1
  have hl := h.hl
  clear h
  go_enter Tryd.func42, Tryd.ntmps42
  go_wp2_with fail
  go_quiet (fail)
  go_wp2_with fail
  go_ret
  exact ⟨ret_eq (by go_num), below_drewN (Below.refl _ _) _⟩

set_option maxRecDepth 100000 in
set_option maxHeartbeats 1000000 in
theorem At_cur (g : Nat) (a : Option Addr) (c : Nat) (l : List B8) (k : Nat) (w : World) (h : Cur w g a c l k) :
    Calls Tryd.prog 28 #[.pointer (some ⟨g, 0, none⟩)] w fun e w' => e = .returned (.int .i64 k) ∧ Below w.heap.size w w' := by
  have h1 := h.cell1
  clear h
  go_enter Tryd.func28, Tryd.ntmps28
  go_wp2_with fail
  go_ret
  exact ⟨rfl, Below.refl _ _⟩
end Go.Proofs.YtgbgcfdniodfpaaDoor
