/- Plain: the division by the generator, and rows of zeros and ones in memory. -/
import Derived.Test.YtgbgcfdniodfpaaBu
namespace Go.Proofs.Ytgbgcfdniodfpaa
open Go.RowKit
set_option linter.unusedVariables false

abbrev bi (b : Bool) : Value := .int .i64 (b.toNat : Int)
/-- n zeros and ones -/
def mcells (n : Nat) (f : Nat → Bool) : Array Value := Array.ofFn (n := n) fun i => bi (f i.val)
theorem mcells_size (n : Nat) (f : Nat → Bool) : (mcells n f).size = n := by simp [mcells]
theorem mcells_get (n : Nat) (f : Nat → Bool) (k : Nat) (h : k < n) : (mcells n f)[k]? = some (bi (f k)) := by
  rw [Array.getElem?_eq_getElem (by rw [mcells_size]; exact h)]
  simp [mcells]
theorem mcells_set (n : Nat) (f : Nat → Bool) (k : Nat) (b : Bool) : (mcells n f).setIfInBounds k (bi b) = mcells n (fun j => if j = k then b else f j) := by
  apply Array.ext
  · simp [mcells]
  · intro i h1 h2
    rw [Array.getElem_setIfInBounds (by simpa [mcells] using h1)]
    simp only [mcells, Array.getElem_ofFn]
    by_cases e : k = i
    · subst e; simp
    · rw [if_neg e, if_neg (fun h => e h.symm)]

/-- block B holds n zeros and ones -/
def Mem (w : World) (B n : Nat) (f : Nat → Bool) : Prop := w.heap[B]? = some (.cells (mcells n f) 3 (0, 0))
theorem Mem.cell {w : World} {B n : Nat} {f : Nat → Bool} (h : Mem w B n f) (k : Nat) (hk : k < n) : w.cell? ⟨B, k, none⟩ = some (bi (f k)) := by
  rw [cell_of_row w B k _ _ _ h, mcells_get n f k hk]
theorem Mem.free {w : World} {B n : Nat} {f : Nat → Bool} (h : Mem w B n f) (k : Nat) : w.frozen? ⟨B, k, none⟩ = false := frozen_of_row w B k _ _ h
theorem Mem.set {w : World} {B n : Nat} {f : Nat → Bool} (h : Mem w B n f) (k : Nat) (b : Bool) : Mem (w.setCell ⟨B, k, none⟩ (bi b)) B n (fun j => if j = k then b else f j) := by
  unfold Mem
  rw [heap_setCell_same w B k _ _ _ h, mcells_set]
theorem Mem.later {w w' : World} {B n : Nat} {f : Nat → Bool} (h : Mem w B n f) (hb : Below w.heap.size w w') : Mem w' B n f := heap_later h hb
theorem Mem.drew {w : World} {B n : Nat} {f : Nat → Bool} (h : Mem w B n f) : Mem w.drew B n f := h
theorem Mem.ext {w : World} {B n : Nat} {f g : Nat → Bool} (h : Mem w B n f) (e : ∀ j, j < n → f j = g j) : Mem w B n g := by
  have : mcells n f = mcells n g := by
    unfold mcells
    congr 1
    funext i
    rw [e i.val i.isLt]
  unfold Mem
  rw [← this]; exact h
theorem Mem.other {w : World} {B n C k : Nat} {f : Nat → Bool} {v : Value} (h : Mem w B n f) (hc : B ≠ C) : Mem (w.setCell ⟨C, k, none⟩ v) B n f := by
  unfold Mem
  rw [heap_setCell_other w ⟨C, k, none⟩ B v hc]; exact h

theorem infoI : (Try.prog.info? 3).map (fun i => (i.zero, i.size, i.bytes)) = some (some (.int .i64 0), 1, 8) := by kernel_rfl

theorem made_mcells (n : Nat) : madeCells (Value.int .i64 0).cells (n * 1) = mcells n (fun _ => false) := by
  apply Array.ext
  · simp [madeCells, mcells]
  · intro i h1 h2
    simp [madeCells, mcells, Value.cells, Nat.mod_one]

theorem run_make_ints (n : Nat) (hn : n ≤ 20000000) (w : World) :
    (Instr.makeSlice 42 (.int .i64 (n : Int)) (.int .i64 (n : Int))).run Try.prog w = .ok (.slice (some ⟨w.heap.size, 0, none⟩) n n) (w.alloc (.cells (mcells n (fun _ => false)) 3)) := by
  obtain ⟨i0, hi, hz0, hz1, hz2⟩ := info_parts infoI
  have := run_make (P := Try.prog) w 42 3 i0 (.int .i64 0) Try.underlying42 hi hz0 .i64 .i64 n n (by omega) (Int.le_refl _) (by rw [hz2]; omega) (by omega)
  rw [hz1] at this
  simp only [Int.toNat_natCast] at this
  rw [this, made_mcells]

/-! ### the division -/

/-- the powers of the generator -/
def pw : List Nat := [32, 26, 23, 22, 16, 12, 11, 10, 8, 7, 5, 4, 2, 1, 0]
def gbit (k : Nat) : Bool := pw.contains k
theorem gbit_poly : ∀ k, k < 32 → gbit k = poly.getLsbD (31 - k) := by decide

/-- a message's bits, the first one highest; 32 zeros behind them -/
def msg (l : List B8) (j : Nat) : Bool := decide (32 ≤ j ∧ j < 8 * l.length + 32) && bitAt l (8 * l.length + 31 - j)

/-- what stands in the row when the next power is i, the register being r -/
def Inv (l : List B8) (f : Nat → Bool) (i : Nat) (r : BitVec 32) : Prop := ∀ j, j ≤ i → f j = (msg l j ^^ (decide (i ≤ j + 31) && r.getLsbD (i - j)))

/-- the row behind one step: the generator is taken from it where its highest place is one -/
def divide (f : Nat → Bool) (i : Nat) (j : Nat) : Bool := if i - 32 ≤ j ∧ j < i then f j ^^ (f i && gbit (j - (i - 32))) else f j

theorem inv_step (l : List B8) (f g : Nat → Bool) (i : Nat) (r : BitVec 32) (hi : 32 ≤ i) (hl : i < 8 * l.length + 32) (h : Inv l f i r) (hg : ∀ j, j < i → g j = divide f i j) :
    Inv l g (i - 1) (inBit r (bitAt l (8 * l.length + 31 - i))) := by
  intro j hj
  have hji : j < i := by omega
  have hi' := h i (Nat.le_refl _)
  have hmi : msg l i = bitAt l (8 * l.length + 31 - i) := by unfold msg; rw [decide_eq_true ⟨hi, hl⟩]; simp
  rw [hmi, Nat.sub_self, decide_eq_true (by omega : i ≤ i + 31), Bool.true_and] at hi'
  generalize bitAt l (8 * l.length + 31 - i) = b at *
  have hfj := h j (by omega)
  rw [hg j hji]
  unfold divide inBit
  have hout : (r.getLsbD 0 ^^ b) = f i := by rw [hi', Bool.xor_comm]
  rw [hout]
  have hp : (if f i = true then poly else 0#32).getLsbD (i - 1 - j) = (f i && poly.getLsbD (i - 1 - j)) := by cases f i <;> simp
  rw [BitVec.getLsbD_xor, BitVec.getLsbD_ushiftRight, hp, show 1 + (i - 1 - j) = i - j by omega]
  by_cases c : i - 32 ≤ j
  · rw [if_pos ⟨c, hji⟩, hfj, decide_eq_true (by omega : i - 1 ≤ j + 31), Bool.true_and, gbit_poly _ (by omega), show 31 - (j - (i - 32)) = i - 1 - j by omega]
    by_cases c2 : i ≤ j + 31
    · rw [decide_eq_true c2]; simp
    · rw [decide_eq_false c2, BitVec.getLsbD_of_ge r (i - j) (by omega)]; simp
  · have c3 : ¬ (i - 32 ≤ j ∧ j < i) := fun x => c x.1
    rw [if_neg c3, hfj, decide_eq_false (by omega : ¬ i ≤ j + 31), decide_eq_false (by omega : ¬ i - 1 ≤ j + 31)]
    simp

theorem take_bits (l : List B8) (t : Nat) (h : t < 8 * l.length) (r : BitVec 32) : inBits r ((stream l).take (t + 1)) = inBit (inBits r ((stream l).take t)) (bitAt l t) := by
  have hs : t < (stream l).length := by rw [stream_length]; exact h
  rw [List.take_succ_eq_append_getElem hs, inBits_append, stream_get]; rfl

end Go.Proofs.Ytgbgcfdniodfpaa
