/- The cursor's Take. -/
import Derived.Test.YtgbgcfdniodfpaaDoorNu
namespace Go.Proofs.YtgbgcfdniodfpaaDoor
open Go.RowKit
set_option linter.unusedVariables false

theorem Rd.part {w : World} {b off : Nat} {l : List B8} (h : Rd w (some ⟨b, off, none⟩) l) (k m : Nat) : Rd w (some ⟨b, off + k, none⟩) ((l.drop k).take m) := (h.drop k).take m

set_option maxRecDepth 100000 in
set_option maxHeartbeats 1000000 in
theorem Take_no (g : Nat) (a : Option Addr) (c : Nat) (l : List B8) (k m : Nat) (w : World) (h : Cur w g a c l k) (hk : k ≤ l.length) (hm : l.length < k + m) (hm2 : m ≤ 1000000) :
    Calls Tryd.prog 31 #[.pointer (some ⟨g, 0, none⟩), .int .i64 m] w fun e w' => e = .returned (.tuple #[.slice none 0 0, code 1]) ∧ Below w.heap.size w w' := by
  have HC := hid h
  have hl := h.hl
  clear h
  go_enter Tryd.func31, Tryd.ntmps31
  go_wp2_with fail
  refine (Left_any g a c l k _ HC.out hk).mono ?_
  rintro e w2 ⟨rfl, bel2⟩
  have Bel2 := hid bel2
  clear bel2
  have hd : decide (((l.length - k : Nat) : Int) < (m : Int)) = true := by simp; omega
  go_wp2_with fail
  go_ret2
  exact ⟨rfl, Bel2.out⟩

set_option maxRecDepth 100000 in
set_option maxHeartbeats 1000000 in
theorem Take_ok (g : Nat) (a : Option Addr) (c : Nat) (l : List B8) (k m : Nat) (w : World) (h : Cur w g a c l k) (hm : k + m ≤ l.length) (hm0 : 0 < m) (L : List B8) (hL : L = (l.drop k).take m) :
    Calls Tryd.prog 31 #[.pointer (some ⟨g, 0, none⟩), .int .i64 m] w fun e w' => ∃ a' c', e = .returned (.tuple #[.slice a' L.length c', .nilIface]) ∧ Own w' w.heap.size a' c' L ∧ Cur w' g a c l (k + m) ∧ Below g w w' := by
  have HC := hid h
  have hl := h.hl
  have hlc := h.hc
  have hLl : L.length = m := by rw [hL]; simp; omega
  have HL := hid hL
  obtain ⟨b, off, rfl, _⟩ := h.hr.gets (by intro e; rw [e] at hm; simp at hm; omega)
  clear h hL
  go_enter Tryd.func31, Tryd.ntmps31
  go_wp2_with fail
  refine (Left_any g _ c l k _ HC.out (by omega)).mono ?_
  rintro e w2 ⟨rfl, bel2⟩
  have HC2 := hid (HC.out.later bel2)
  have Bel2 := hid bel2
  clear bel2
  have hd : decide (((l.length - k : Nat) : Int) < (m : Int)) = false := by simp; omega
  have h0 := HC2.out.cell0
  have h1 := HC2.out.cell1
  have hfz := HC2.out.free
  go_wp2_with fail
  go_quiet (fail)
  go_wp2_with fail
  have hmv := (HC2.out.later (below_drewN (Below.refl _ _) nq)).move (k + m)
  have HC3 := hid hmv.1
  have Bel3 := hid (((below_drewN Bel2.out nq).mono (Nat.le_of_lt HC.out.lt)).trans hmv.2)
  have hsz : w.heap.size ≤ ((w2.drewN nq).setCell ⟨g, 1, none⟩ (.int .i64 ((k : Int) + (m : Int)))).heap.size := Nat.le_trans (below_drewN Bel2.out nq).size hmv.2.size
  have Hsz := hid hsz
  clear hmv hsz h0 h1 hfz
  have HCl := hid (Clone_any (some ⟨b, off + k, none⟩) m L _ (by rw [HL.out]; exact HC3.out.hr.part k m) (by omega))
  rw [hLl] at HCl
  refine HCl.out.mono ?_
  rintro e w4 ⟨a4, c4, rfl, own4, bel4⟩
  have Own4 := hid (own4.mono Hsz.out)
  have HC4 := hid (HC3.out.later bel4)
  have hg3 : g ≤ ((w2.drewN nq).setCell ⟨g, 1, none⟩ (.int .i64 ((k : Int) + (m : Int)))).heap.size := Nat.le_of_lt HC3.out.lt
  have Bel4 := hid (Bel3.out.trans (bel4.mono hg3))
  clear own4 bel4 HCl HC3 Bel3 Hsz hg3
  go_wp2_with fail
  go_ret2
  exact ⟨a4, c4, by rw [hLl]; rfl, Own4.out, HC4.out, Bel4.out⟩
end Go.Proofs.YtgbgcfdniodfpaaDoor
