/- A slice of bytes that came in reads as bytes. -/
import Derived.Test.YtgbgcfdniodfpaaDoorBs
namespace Go.Proofs.YtgbgcfdniodfpaaDoor
open Go.RowKit
set_option linter.unusedVariables false

/-- what the walk is told of a slice of integers that came in -/
def IsRow (k : IntKind) (w : World) (a : Option Addr) (len cap : Nat) (zs : List Int) : Prop :=
  (a = none ∧ len = 0 ∧ cap = 0 ∧ zs = []) ∨
  ∃ x, a = some x ∧ len ≤ cap ∧ cap ≤ maxLen ∧ zs.length = cap ∧ (∀ i, i < zs.length → w.cell? (x.add i) = some (.int k (zs.getD i 0))) ∧ ∀ n ∈ zs, (Lit.int k n).wf = true

theorem isRow_rd {w : World} {a : Option Addr} {len cap : Nat} {zs : List Int} (h : IsRow .u8 w a len cap zs) :
    ∃ l : List B8, len = l.length ∧ len ≤ cap ∧ len ≤ 9223372036854775807 ∧ Rd w a l := by
  rcases h with ⟨rfl, rfl, rfl, rfl⟩ | ⟨x, rfl, hl, hm, hz, hcell, hwz⟩
  · exact ⟨[], rfl, Nat.le_refl _, by omega, Rd.nil _ _⟩
  · have hm' : cap ≤ 9223372036854775807 := by unfold maxLen at hm; exact hm
    by_cases h0 : len = 0
    · exact ⟨[], by simpa using h0, hl, by omega, Rd.nil _ _⟩
    · refine ⟨(zs.take len).map (BitVec.ofInt 8), by simp; omega, hl, by omega, .inr ?_⟩
      obtain ⟨b, off, spot⟩ := x
      have hc := hcell 0 (by omega)
      have hspot : spot = none := by simpa [Addr.add] using World.cell?_spot hc
      subst hspot
      refine ⟨b, off, rfl, fun j hj => ?_⟩
      have hj' : j < zs.length := by simp at hj; omega
      have h1 := hcell j hj'
      have hadd : (⟨b, off, none⟩ : Addr).add j = ⟨b, off + j, none⟩ := by unfold Addr.add; split <;> simp_all
      rw [hadd] at h1
      rw [h1]
      have hw := hwz (zs.getD j 0) (by rw [List.getD_eq_getElem?_getD, List.getElem?_eq_getElem hj']; exact List.getElem_mem hj')
      have hb : 0 ≤ zs.getD j 0 ∧ zs.getD j 0 ≤ 255 := by
        simpa [Lit.wf, IntKind.min, IntKind.max, IntKind.signed, IntKind.bits] using hw
      have hg : ((zs.take len).map (BitVec.ofInt 8))[j] = BitVec.ofInt 8 (zs.getD j 0) := by
        simp [List.getD_eq_getElem?_getD, List.getElem?_eq_getElem hj']
      rw [hg]
      congr 2
      rw [BitVec.toNat_ofInt]
      omega

theorem wf_u64 {x : Int} (h : (Lit.int .u64 x).wf = true) : ∃ s : BitVec 64, x = (s.toNat : Int) := by
  have hb : 0 ≤ x ∧ x ≤ 18446744073709551615 := by simpa [Lit.wf, IntKind.min, IntKind.max, IntKind.signed, IntKind.bits] using h
  refine ⟨BitVec.ofInt 64 x, ?_⟩
  rw [BitVec.toNat_ofInt]; omega
theorem wf_u32 {x : Int} (h : (Lit.int .u32 x).wf = true) : ∃ s : BitVec 32, x = (s.toNat : Int) := by
  have hb : 0 ≤ x ∧ x ≤ 4294967295 := by simpa [Lit.wf, IntKind.min, IntKind.max, IntKind.signed, IntKind.bits] using h
  refine ⟨BitVec.ofInt 32 x, ?_⟩
  rw [BitVec.toNat_ofInt]; omega
theorem wf_u16 {x : Int} (h : (Lit.int .u16 x).wf = true) : ∃ n : Nat, n ≤ 65535 ∧ x = (n : Int) := by
  have hb : 0 ≤ x ∧ x ≤ 65535 := by simpa [Lit.wf, IntKind.min, IntKind.max, IntKind.signed, IntKind.bits] using h
  exact ⟨x.toNat, by omega, by omega⟩
theorem wf_u8 {x : Int} (h : (Lit.int .u8 x).wf = true) : ∃ n : Nat, n ≤ 255 ∧ x = (n : Int) := by
  have hb : 0 ≤ x ∧ x ≤ 255 := by simpa [Lit.wf, IntKind.min, IntKind.max, IntKind.signed, IntKind.bits] using h
  exact ⟨x.toNat, by omega, by omega⟩
end Go.Proofs.YtgbgcfdniodfpaaDoor
