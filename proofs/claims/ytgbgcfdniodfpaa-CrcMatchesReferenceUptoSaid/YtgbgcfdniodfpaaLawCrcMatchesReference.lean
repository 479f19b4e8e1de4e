/- The second form of the statement of the law CrcMatchesReference: for every list of parts that holds together at most as many values and letters as the statement's bound says, the Go function returns true; nothing that lay in memory has changed. -/
import Derived.Test.YtgbgcfdniodfpaaRows
import Derived.Test.YtgbgcfdniodfpaaLm
import Derived.Test.YtgbgcfdniodfpaaRw
import Derived.WalkKit
import Derived.ProofKit
import Derived.OpenShut
import Derived.ChangeOld
import Derived.Below
import Derived.JoinedCond
import Derived.Deep.Matrix
namespace Go.Proofs.Ytgbgcfdniodfpaa.crcMatchesReference
open Go.ChangeShapes Go.WideShapes Go.ChangeAt Go.RowKit Go.Deep
set_option linter.unusedVariables false

theorem own : ownKnob Try.prog.godebug = none := by kernel_rfl
theorem laidOut : laidOutB Try.prog = true := by kernel_rfl

theorem one_le {H : Type} (d : DataW H) : 1 ≤ Rows.uptoBulk d := by
  cases d with
  | lit l => cases l <;> simp [Rows.uptoBulk]
  | nil => simp [Rows.uptoBulk]
  | ptr d => simp [Rows.uptoBulk]
  | slice elems spare => simp [Rows.uptoBulk]
  | agg parts => simp [Rows.uptoBulk]
  | iface t d => simp [Rows.uptoBulk]
  | map entries => simp [Rows.uptoBulk]
  | held h => simp [Rows.uptoBulk]

theorem length_le {H : Type} (l : List (DataW H)) : l.length ≤ Rows.uptoBulkAll l := by
  induction l with
  | nil => simp [Rows.uptoBulkAll]
  | cons x r ih => have := one_le x; simp only [Rows.uptoBulkAll, List.length_cons]; omega

theorem bulk_append {H : Type} (l r : List (DataW H)) : Rows.uptoBulkAll (l ++ r) = Rows.uptoBulkAll l + Rows.uptoBulkAll r := by
  induction l with
  | nil => simp [Rows.uptoBulkAll]
  | cons x l ih => simp only [List.cons_append, Rows.uptoBulkAll, ih]; omega

theorem row_bulk {H : Type} (A : Option Addr) (L C : Nat) (Z : List Int) (h1 : L ≤ C) (h2 : Z.length = C) (h3 : A = none → C = 0) : L ≤ Rows.uptoBulk (intRow (H := H) .u8 A L Z) := by
  cases A with
  | none => have := h3 rfl; omega
  | some a =>
    have h := length_le (lits (H := H) .u8 (Z.take L))
    simp only [intRow, Rows.uptoBulk]
    have e : (lits (H := H) .u8 (Z.take L)).length = L := by simp [lits]; omega
    omega

theorem rows_bulk {H : Type} (D : Nat → DataW H) (ls : Nat → List B8) (A : Nat → Option Addr) (C : Nat → Nat) (n : Nat) (h : ∀ r, r < n → (ls r).length ≤ Rows.uptoBulk (D r)) :
    (((List.range n).map fun r => (⟨A r, C r, ls r⟩ : Part)).flatMap (·.bs)).length ≤ Rows.uptoBulkAll ((List.range n).map D) := by
  induction n with
  | zero => simp
  | succ n ih =>
    rw [List.range_succ, List.map_append, List.flatMap_append, List.length_append, List.map_append, bulk_append]
    have h1 := ih (fun r hr => h r (by omega))
    have h2 := h n (by omega)
    have e : Rows.uptoBulkAll (List.map D [n]) = Rows.uptoBulk (D n) := by simp [Rows.uptoBulkAll]
    rw [e]
    have e2 : (List.flatMap (fun x : Part => x.bs) (List.map (fun r => (⟨A r, C r, ls r⟩ : Part)) [n])).length = (ls n).length := by simp
    rw [e2]
    omega

/-- the argument, read as parts -/
theorem parts_of {H : Type} {W : World} (a : Addr) (len cap : Nat) (A : Nat → Option Addr) (L C : Nat → Nat) (Z : Nat → List Int) (hl : len ≤ cap)
    (hc : ∀ r, r < cap → W.cell? (a.add r) = some (.slice (A r) (L r) (C r)) ∧ L r ≤ C r ∧ C r ≤ maxLen ∧ (Z r).length = C r ∧ (∀ n ∈ Z r, (Lit.int .u8 n).wf = true) ∧ (A r = none → C r = 0) ∧
        ∀ a', A r = some a' → 0 ≤ a'.block ∧ ∀ c, c < C r → W.cell? (a'.add c) = some (.int .u8 ((Z r).getD c 0)))
    (hb : Rows.uptoBulkAll ((List.range len).map fun r => intRow (H := H) .u8 (A r) (L r) (Z r)) ≤ 1048576) :
    ∃ ps : List Part, len = ps.length ∧ ps.length ≤ 4000000 ∧ Rds W (some a) ps ∧ (ps.flatMap (·.bs)).length ≤ 3000000 := by
  have each : ∀ r, r < len → ∃ l : List B8, L r = l.length ∧ Rd W (A r) l ∧ l.length ≤ Rows.uptoBulk (intRow (H := H) .u8 (A r) (L r) (Z r)) := by
    intro r hr
    obtain ⟨_, h1, h2, h3, h4, h5, h6⟩ := hc r (by omega)
    have hrow : IsRow .u8 W (A r) (L r) (C r) (Z r) := by
      cases hA : A r with
      | none =>
        have h0 := h5 hA
        rw [h0] at h3
        exact .inl ⟨rfl, by omega, h0, List.eq_nil_of_length_eq_zero h3⟩
      | some x => exact .inr ⟨x, rfl, h1, h2, h3, fun i hi => (h6 x hA).2 i (by omega), h4⟩
    obtain ⟨l, e, _, _, hrd⟩ := isRow_rd hrow
    have hk := row_bulk (H := H) (A r) (L r) (C r) (Z r) h1 h3 h5
    exact ⟨l, e, hrd, by omega⟩
  obtain ⟨ls, hls⟩ := choose_lt each
  have hbulk := rows_bulk (fun r => intRow (H := H) .u8 (A r) (L r) (Z r)) ls A C len (fun r hr => (hls r hr).2.2)
  have hlen := length_le ((List.range len).map fun r => intRow (H := H) .u8 (A r) (L r) (Z r))
  rw [List.length_map, List.length_range] at hlen
  refine ⟨(List.range len).map fun r => ⟨A r, C r, ls r⟩, by simp, by simp; omega, ⟨?_, ?_⟩, by omega⟩
  · by_cases h0 : len = 0
    · left; rw [h0]; rfl
    · right
      obtain ⟨b, off, spot⟩ := a
      have h := (hc 0 (by omega)).1
      have hspot : spot = none := by simpa [Addr.add] using World.cell?_spot h
      subst hspot
      refine ⟨b, off, rfl, fun j hj => ?_⟩
      have hj' : j < len := by simpa using hj
      have h := (hc j (by omega)).1
      have hadd : (⟨b, off, none⟩ : Addr).add j = ⟨b, off + j, none⟩ := by unfold Addr.add; split <;> simp_all
      rw [hadd] at h
      rw [h]
      simp [(hls j hj').1]
  · intro p hp
    obtain ⟨r, hr, rfl⟩ := List.mem_map.1 hp
    have hr' := List.mem_range.1 hr
    refine ⟨(hls r hr').2.1, ?_⟩
    have h1 := (hls r hr').2.2
    have h2 : Rows.uptoBulk (intRow (H := H) .u8 (A r) (L r) (Z r)) ≤ Rows.uptoBulkAll ((List.range len).map fun r => intRow (H := H) .u8 (A r) (L r) (Z r)) := by
      have : ∀ (l : List (DataW H)) (d : DataW H), d ∈ l → Rows.uptoBulk d ≤ Rows.uptoBulkAll l := by
        intro l
        induction l with
        | nil => intro d h; cases h
        | cons x l ih =>
          intro d h
          simp only [Rows.uptoBulkAll]
          rcases List.mem_cons.1 h with e | e
          · subst e; omega
          · have := ih d e; omega
      exact this _ _ (List.mem_map.2 ⟨r, hr, rfl⟩)
    simp only
    omega

theorem contract (H : Type) (enc : TypeId × Value → H) (W : World) (base : Nat) (args : Array Value) (ds gs : List (DataW H)) (before : List MemPlace)
    (hval : ∀ (j : Nat) t v, Try.f3.params[j]? = some t → args[j]? = some v → Value.okWide Try.prog W .any base t v)
    (hW : DataW.Whole enc Try.prog Try.f3.params.toList Rows.crcMatchesReferenceSpec.vars false W args.toList ds gs before) (hk : Rows.uptoSmall H (ds ++ gs) = true) :
    Calls Try.prog 3 args W fun e W' => ∃ v, e = .returned v ∧ Rows.crcMatchesReferenceSpec.post enc Try.prog Try.f3 false true false false W args v W' := by
  have hW' := hW
  obtain ⟨p, q, hA0, hV, rfl, hfz, hnd⟩ := hW
  have hA : DataW.TrodAll enc Try.prog W 0 (fun _ => true) true Try.f3.params.toList args.toList ds p := hA0
  rw [Try.params3] at hA hval
  obtain ⟨v0, vs0, d0, ds0, p0, q0, hargs, rfl, rfl, h0, r0⟩ := trodAll_cons hA
  obtain ⟨rfl, rfl, rfl⟩ := trodAll_nil r0
  obtain rfl : args = #[v0] := by cases args; simp_all
  obtain ⟨rfl, rfl⟩ := trodVars_none hV
  obtain ⟨a0, len0, cap0, rfl⟩ := okWide_slice Try.underlying22 (hval 0 22 v0 rfl rfl)
  have k0 := h0
  have lt0 : ∀ x ∈ p0, x.block < W.heap.size := by obtain ⟨m, hm⟩ := k0; exact DataW.trod_lt m _ _ _ hm
  have w0 : ∃ ps : List Part, len0 = ps.length ∧ ps.length ≤ 4000000 ∧ Rds W a0 ps ∧ (ps.flatMap (·.bs)).length ≤ 3000000 := by
    obtain ⟨fuel, hf⟩ := h0
    rcases open_int_rows Try.underlying22 Try.underlying24 Try.underlying5 (by kernel_rfl) (by kernel_rfl) hf with ⟨hcs, _⟩ | ⟨x, l, c, A, L, C, Z, hcs, _, hl, hm, hx, hc⟩
    · simp [Value.cells] at hcs
      obtain ⟨rfl, rfl, rfl⟩ := hcs
      exact ⟨[], rfl, by simp, ⟨.inl rfl, fun p hp => by cases hp⟩, by simp⟩
    · simp [Value.cells] at hcs
      obtain ⟨rfl, rfl, rfl⟩ := hcs
      simp only [Prod.mk.injEq] at hx
      have h := of_decide_eq_true hk
      rw [hx.1] at h
      simp only [List.append_nil, Rows.uptoBulkAll, Rows.uptoBulk] at h
      exact parts_of (H := H) x len0 cap0 A L C Z hl hc (by omega)
  obtain ⟨ps, rfl, hps, rds, hsum⟩ := w0
  clear hA0
  refine (CrcMatchesReference_walk a0 cap0 ps W rds hps hsum).mono fun e W' ⟨he, bel⟩ => ?_
  subst he
  exact ⟨_, rfl, _, _, _, [], _, [], hW', trodAll_mk1 (shut_bool Try.underlying4 _), (trodAll_cons_mk (Below.trod laidOut (by kernel_rfl) (of_decide_eq_true (by kernel_rfl)) k0 bel lt0) trodAll_mk0), rfl, bel.frame _, fun h => by cases h⟩

set_option maxRecDepth 100000 in
theorem lifted (os : Os) (started : os.Started) (H : Type) (enc : TypeId × Value → H) (F : Stop.Interp) :
    ReturnsInHanded {} Try.checked os 3 .any ((Rows.OpenSpec.upto Rows.crcMatchesReferenceSpec).pre6 enc Try.prog Try.f3 Rows.crcMatchesReferenceUptoRow.domain false) (((Rows.OpenSpec.upto Rows.crcMatchesReferenceSpec).at F).post enc Try.prog Try.f3 false true false false) := by
  refine returnsInHanded_of_cond (C := Try.checked) (s := Rows.OpenSpec.upto Rows.crcMatchesReferenceSpec) (k := Rows.uptoSmall) rfl own started (by kernel_rfl) Try.func3
    (OpenSpec.witness (enc := enc) (C := Try.checked) (s := Rows.OpenSpec.upto Rows.crcMatchesReferenceSpec) (k := Rows.uptoSmall) rfl false ⟨#[], #[.slice none 0 0], []⟩ 8 (by kernel_rfl) (by kernel_rfl) (by kernel_rfl)
      (x := ([.nil], [], [])) (by kernel_rfl) rfl (by kernel_rfl)) ?_
  intro W base args ds gs before hval hW _ hk _
  exact contract H enc W base args ds gs before hval hW hk

theorem over : Rows.crcMatchesReferenceUptoRow.holds Try.pinned (Rows.OpenSpec.upto Rows.crcMatchesReferenceSpec) :=
  OpenClaim.holds_of_cond 3 Try.f3 rfl rfl rfl rfl rfl rfl rfl ⟨rfl, rfl, rfl, rfl, rfl⟩ rfl rfl rfl rfl rfl (by kernel_rfl) Try.func3 (by kernel_rfl)
    (of_decide_eq_true (by kernel_rfl)) (by unfold Func.isWrapper; first | (rw [if_pos (by decide +kernel)]; kernel_rfl) | (rw [if_neg (by decide +kernel)]; exact ⟨rfl, rfl⟩))
    (fun os started H enc _ F => lifted os started H enc F)

theorem proved : Rows.CrcMatchesReferenceUptoSaid :=
  over
#print axioms proved
end Go.Proofs.Ytgbgcfdniodfpaa.crcMatchesReference
