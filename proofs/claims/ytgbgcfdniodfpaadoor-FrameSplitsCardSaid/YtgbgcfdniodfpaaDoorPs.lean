/- Plain: the frames of which bytes consist. -/
import Derived.Test.YtgbgcfdniodfpaaDoorLm2
namespace Go.Proofs.YtgbgcfdniodfpaaDoor
set_option linter.unusedVariables false

/-- the frames from place k on, with their places, and the error at the end -/
def fr (b : List B8) (k : Nat) : List (Nat × List B8) × Option (Nat × Nat) :=
  if h : k < b.length then
    match hr : rd (b.drop k) with
    | .err e o => ([], some (e, k + o))
    | .ok p u => ((k, p) :: (fr b (k + u)).1, (fr b (k + u)).2)
  else ([], none)
termination_by b.length - k
decreasing_by all_goals (have := (rd_ok hr).2.2.1; omega)

theorem fr_end {b : List B8} {k : Nat} (h : ¬ k < b.length) : fr b k = ([], none) := by rw [fr, dif_neg h]
theorem fr_err {b : List B8} {k e o : Nat} (h : k < b.length) (hr : rd (b.drop k) = .err e o) : fr b k = ([], some (e, k + o)) := by
  rw [fr, dif_pos h]
  split
  · rename_i e' o' h'
    rw [hr] at h'
    cases h'; rfl
  · rename_i p u h'
    rw [hr] at h'; cases h'
theorem fr_ok {b p : List B8} {k u : Nat} (h : k < b.length) (hr : rd (b.drop k) = .ok p u) : fr b k = ((k, p) :: (fr b (k + u)).1, (fr b (k + u)).2) := by
  rw [fr, dif_pos h]
  split
  · rename_i e' o' h'
    rw [hr] at h'; cases h'
  · rename_i p' u' h'
    rw [hr] at h'
    cases h'; rfl

theorem fr_len (b : List B8) (k : Nat) (hk : k ≤ b.length) : (fr b k).1.length + k ≤ b.length := by
  rw [fr]
  split
  · rename_i h
    split
    · simp; omega
    · rename_i p u hr
      have h0 := rd_ok hr
      have hu : k + u ≤ b.length := by have := h0.2.1; simp at this; omega
      have := fr_len b (k + u) hu
      simp only [List.length_cons]
      omega
  · simp; omega
termination_by b.length - k
decreasing_by (have := h0.2.2.1; omega)

theorem fr_errs (b : List B8) (k : Nat) {e o : Nat} (h : (fr b k).2 = some (e, o)) : e ≠ 0 := by
  rw [fr] at h
  split at h
  · rename_i hk
    split at h
    · rename_i e' o' hr
      simp only [Option.some.injEq, Prod.mk.injEq] at h
      have := rd_errs hr
      omega
    · rename_i p u hr
      have h0 := (rd_ok hr).2.2.1
      exact fr_errs b (k + u) h
  · cases h
termination_by b.length - k
decreasing_by omega
end Go.Proofs.YtgbgcfdniodfpaaDoor
