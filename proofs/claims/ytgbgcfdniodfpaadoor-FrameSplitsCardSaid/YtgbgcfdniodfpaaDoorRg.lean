/- The range over the frames: the statement's law, the iterator being frame.All's. -/
import Derived.Test.YtgbgcfdniodfpaaDoorIt
namespace Go.Proofs.YtgbgcfdniodfpaaDoor
open Go.RowKit
set_option linter.unusedVariables false

/-- how a round's body may be left -/
def rangeBody (n₀ k : Nat) (I : Nat → World → Prop) (Ix : Code → World → Prop) (W : World) : Exit → Act → World → Prop
  | .normal, _, W' => KeepsOthers W W' ∧ Below n₀ W W' ∧ I k W'
  | .ret, _, W' => KeepsOthers W W' ∧ Ix .ret W'
  | .exit id, _, W' => KeepsOthers W W' ∧ Ix (.exit id) W'
  | _, _, _ => False

theorem below_putObj {n₀ : Nat} {W : World} {l : Nat} (o' : Obj) (hl : n₀ ≤ l) : Below n₀ W (W.putObj l o') :=
  ⟨rfl, rfl, rfl, by simp, fun g hg => World.putObj_heap_other (by omega)⟩

set_option maxRecDepth 100000 in
set_option maxHeartbeats 2000000 in
theorem range_frames {g : Operand} {ps : Array Tmp} {assign body : Code} {Q : Exit → Act → World → Prop} {a : Act} {w : World}
    (Bs n₀ : Nat) (b : List B8) (ad : Option Addr) (c : Nat) (hc : b.length ≤ c) (hl : b.length ≤ 2000) (had : b ≠ [] → ∀ x, ad = some x → x.block < n₀) (hBs : Bs < n₀) (hn₀ : n₀ ≤ w.heap.size)
    (hg : a.eval g = .func (.func 38) #[] #[.pointer (some ⟨Bs, 0, none⟩)]) (hps : ps.size = 2)
    (he : Et w) (hb : w.cell? ⟨Bs, 0, none⟩ = some (.slice ad b.length c)) (hr : Rd w ad b)
    (I : Nat → World → Prop) (Ix : Code → World → Prop)
    (hI1 : ∀ k W W', I k W → Below W.heap.size W W' → I k W') (hI2 : ∀ k W l o', I k W → w.heap.size ≤ l → I k (W.putObj l o')) (hIx2 : ∀ c W l o', Ix c W → w.heap.size ≤ l → Ix c (W.putObj l o'))
    (h0 : I 0 w)
    (hround : ∀ (l k : Nat) (p : List B8) (u : Nat) (a' : Option Addr) (c' : Nat) (W W2 : World), k < b.length → rd (b.drop k) = .ok p u → I k W2 → Rd W2 a' p → p.length ≤ c' →
      assign.wpIn (Fence.wide.inRound l) 2 Tryd.prog (Exit.then (fun a1 W1 => W1 = W ∧ body.wpIn (Fence.wide.inRound l) 2 Tryd.prog (rangeBody n₀ (k + u) I Ix W2) a1 W2) (fun _ _ _ => False))
        { tmps := (ps.zip #[.int .i64 (k : Int), .slice a' p.length c']).foldl (fun t (p, v) => t.setIfInBounds p v) a.tmps, defers := [] } W)
    (hdone : ∀ (D k : Nat) (W : World), w.heap.size ≤ D → k ≤ b.length → (fr b k).1 = [] → I k W → W.heap[D]? = some (.deferred (some [])) → Q .normal { a with defers := { target := .collected D, args := #[] } :: a.defers } W)
    (hstop : ∀ (D : Nat) (cc : Code) (W : World), w.heap.size ≤ D → Ix cc W → W.heap[D]? = some (.deferred (some [])) → cc.wpIn Fence.wide 4 Tryd.prog Q { a with defers := { target := .collected D, args := #[] } :: a.defers } W) :
    (Code.rangeFunc g ps assign body).wpIn Fence.wide 4 Tryd.prog Q a w := by
  refine wpIn_rangeFunc ?_
  intro fn hfn
  obtain ⟨rec, hrec⟩ : ∃ rec : LoopState → Option Code → Loop, rec = fun st pe => { state := st, pending := pe, fn, tmps := a.tmps, params := ps, assign, body, defers := w.heap.size } := ⟨_, rfl⟩
  obtain ⟨W1, hW1⟩ : ∃ W1, (w.alloc (.deferred (some []))).alloc (.loop (rec .ready none)) = W1 := ⟨_, rfl⟩
  have hL1 : W1.heap[w.heap.size + 1]? = some (.loop (rec .ready none)) := by
    rw [← hW1]
    have := heap_alloc_new (w.alloc (.deferred (some []))) (.loop (rec .ready none))
    rwa [World.size_alloc] at this
  have hK1 : W1.heap[w.heap.size]? = some (.deferred (some [])) := by
    rw [← hW1]; exact (Below.heap_alloc _ _ _ (by simp)).trans (heap_alloc_new w _)
  have hb1 : Below w.heap.size w W1 := by rw [← hW1]; exact ((Below.refl _ w).alloc (Nat.le_refl _) _).alloc (by simp) _
  have hrun := run_enterLoop_outer (P := Tryd.prog) (w := w) fn a.tmps ps assign body
  refine ⟨w.heap.size + 1, [{ target := .collected w.heap.size, args := #[] }], W1, { target := .fn (.func 38) #[.pointer (some ⟨Bs, 0, none⟩)], args := #[.func (.yield (w.heap.size + 1)) #[] #[]] }, W1, 38,
    #[.func (.yield (w.heap.size + 1)) #[] #[], .pointer (some ⟨Bs, 0, none⟩)], W1, ?_, ?_, fun _ _ => trivial, ?_, fun h => by simp [Fence.wide] at h, ?_⟩
  · rw [← hW1, hrec]; exact hrun
  · simp only [resolve, hg]
    simp [go_sem]
  · have eg : ∀ args w, (callFunc 38 args).run Tryd.prog w = .ok (.enter 38 args) w := enters_of Tryd.func38 (by kernel_rfl) rfl
    simp [invoke, go_sem, eg]
  · refine (All1_in (w.heap.size + 1) Bs n₀ b ad c hc hl had hBs
      (fun k W => I k W ∧ W.heap[w.heap.size + 1]? = some (.loop (rec .ready none)) ∧ W.heap[w.heap.size]? = some (.deferred (some [])))
      (fun W => ∃ cc, Ix cc W ∧ W.heap[w.heap.size + 1]? = some (.loop (rec .done (some cc))) ∧ W.heap[w.heap.size]? = some (.deferred (some [])))
      (fun k W W' h hbel => ⟨hI1 k W W' h.1 hbel, heap_later h.2.1 hbel, heap_later h.2.2 hbel⟩)
      (fun k W h => Nat.le_trans hn₀ (Nat.le_of_lt (Array.getElem?_eq_some_iff.1 h.2.2).1))
      ?_ W1 (he.later hb1) ((hb1.cell (p := ⟨Bs, 0, none⟩) (show Bs < w.heap.size by omega)).trans hb) (hr.later hb1) ⟨hI1 _ _ _ h0 hb1, hL1, hK1⟩).mono ?_
    · rintro k p u a' c' W hk hrd ⟨hi, hlo, hde⟩ hR hc'
      have hlt : w.heap.size + 1 < W.heap.size := (Array.getElem?_eq_some_iff.1 hlo).1
      have hy := run_yield (P := Tryd.prog) (args := #[.int .i64 (k : Int), .slice a' p.length c']) hlo (by rw [hrec]; simp [hps])
      rw [hrec] at hy
      refine ⟨fn, _, assign, body, hy, roundIn_of_wpIn hfn ?_⟩
      have hl2 : (W.putObj (w.heap.size + 1) (.loop { rec .ready none with state := .busy })).heap[w.heap.size + 1]? = some (.loop { rec .ready none with state := .busy }) := World.putObj_heap_same hlt
      have hk2 : (W.putObj (w.heap.size + 1) (.loop { rec .ready none with state := .busy })).heap[w.heap.size]? = some (.deferred (some [])) := (World.putObj_heap_other (by omega)).trans hde
      have hw2 : Below n₀ W (W.putObj (w.heap.size + 1) (.loop { rec .ready none with state := .busy })) := below_putObj _ (by omega)
      have hsz : ∀ o, W.heap.size = (W.putObj (w.heap.size + 1) o).heap.size := fun o => by simp
      have hRd : Rd (W.putObj (w.heap.size + 1) (.loop { rec .ready none with state := .busy })) a' p := by
        rcases hR with h | ⟨bb, off, ha, hcc⟩
        · exact .inl h
        · refine .inr ⟨bb, off, ha, fun j hj => ?_⟩
          have h1 := hcc j hj
          have hne : bb ≠ w.heap.size + 1 := by
            intro e1
            subst e1
            simp [World.cell?, hlo] at h1
          have h2 := World.cell?_of_block (w := W) (w' := W.putObj (w.heap.size + 1) (.loop { rec .ready none with state := .busy })) (a := ⟨bb, off + j, none⟩) (World.putObj_heap_other hne)
          rw [h2]; exact h1
      have fin : ∀ (jump : Option Code) (W3 : World), KeepsOthers (W.putObj (w.heap.size + 1) (.loop { rec .ready none with state := .busy })) W3 →
          (Instr.endRound (w.heap.size + 1) jump).run Tryd.prog W3 = .ok (.bool jump.isNone) (W3.putObj (w.heap.size + 1) (.loop (rec (if jump.isNone then .ready else .done) jump))) ∧
          (W3.putObj (w.heap.size + 1) (.loop (rec (if jump.isNone then .ready else .done) jump))).heap[w.heap.size + 1]? = some (.loop (rec (if jump.isNone then .ready else .done) jump)) ∧
          (W3.putObj (w.heap.size + 1) (.loop (rec (if jump.isNone then .ready else .done) jump))).heap[w.heap.size]? = some (.deferred (some [])) := fun jump W3 hk3 => by
        have hl3 := hk3.same _ _ hl2 rfl
        have := run_endRound (P := Tryd.prog) jump hl3
        rw [hrec] at this ⊢
        exact ⟨this, World.putObj_heap_same (Array.getElem?_eq_some_iff.1 hl3).1, (World.putObj_heap_other (by omega)).trans (hk3.same _ _ hk2 rfl)⟩
      refine wpIn_mono (hround _ k p u a' c' W _ hk hrd (hI2 k _ _ _ hi (by omega)) hRd hc') ?_
      intro e a1 Wx hq
      cases e with
      | exit id => exact hq.elim
      | goto t => exact hq.elim
      | ret => exact hq.elim
      | panic ch => exact hq.elim
      | outgrown => exact hq.elim
      | normal =>
      obtain ⟨rfl, hbd⟩ := hq
      refine ⟨_, run_beginRound hlo (by rw [hrec]), ?_⟩
      refine wpIn_mono hbd ?_
      rintro e a3 W3 hp
      cases e with
      | normal =>
        obtain ⟨hk3, hkp3, hi3⟩ := hp
        obtain ⟨hrr, hl4, hk4⟩ := fin none W3 hk3
        exact ⟨_, _, hrr, .inl ⟨rfl, ⟨hI2 _ _ _ _ hi3 (by omega), hl4, hk4⟩, (hw2.trans hkp3).trans (below_putObj _ (by omega))⟩⟩
      | ret =>
        obtain ⟨hk3, hi3⟩ := hp
        obtain ⟨hrr, hl4, hk4⟩ := fin (some .ret) W3 hk3
        exact ⟨_, _, hrr, .inr ⟨rfl, .ret, hIx2 _ _ _ _ hi3 (by omega), hl4, hk4⟩⟩
      | exit id =>
        obtain ⟨hk3, hi3⟩ := hp
        obtain ⟨hrr, hl4, hk4⟩ := fin (some (.exit id)) W3 hk3
        exact ⟨_, _, hrr, .inr ⟨rfl, .exit id, hIx2 _ _ _ _ hi3 (by omega), hl4, hk4⟩⟩
      | goto t => exact hp.elim
      | panic ch => exact hp.elim
      | outgrown => exact hp.elim
    · rintro e W2 ⟨⟨v, rfl⟩, (⟨k, hk, hk0, hi, hlo, hde⟩ | ⟨cc, hi, hlo, hde⟩)⟩
      · exact ⟨none, _, by have := run_endLoop (P := Tryd.prog) hlo (by rw [hrec]; simp); rw [hrec] at this; exact this, hdone _ k _ (Nat.le_refl _) hk hk0 (hI2 k _ _ _ hi (by omega)) ((World.putObj_heap_other (by omega)).trans hde)⟩
      · exact ⟨some cc, _, by have := run_endLoop (P := Tryd.prog) hlo (by rw [hrec]; simp); rw [hrec] at this; exact this, hstop _ cc _ (Nat.le_refl _) (hIx2 cc _ _ _ hi (by omega)) ((World.putObj_heap_other (by omega)).trans hde)⟩
end Go.Proofs.YtgbgcfdniodfpaaDoor
