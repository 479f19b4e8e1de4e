/- The reference's Split. -/
import Derived.Test.YtgbgcfdniodfpaaDoorFs
namespace Go.Proofs.YtgbgcfdniodfpaaDoor
open Go.RowKit
set_option linter.unusedVariables false

theorem A.infoI : (Tryd.prog.info? 3).map (fun i => (i.zero, i.size, i.bytes)) = some (some (.int .i64 0), 1, 8) := by kernel_rfl

abbrev iv (n : Nat) : Value := .int .i64 (n : Int)
/-- a row of the call's own of places -/
def OwnI (w : World) (B : Nat) (a : Option Addr) (c : Nat) (ss : List Nat) : Prop := w.ownsRow B 3 1 (.slice a ss.length c) ss.length (ss.map iv)

theorem ownI_nil (w : World) (B : Nat) : OwnI w B none 0 [] := World.ownsRow_nil w B _ 1

/-- a row stands in a world in which its block stands -/
theorem row_later {w w' : World} {B e n sz c : Nat} {a : Option Addr} {xs : List Value} (h : w.ownsRow B e sz (.slice a n c) n xs) (hb : ∀ x cur, a = some x → w.heap[x.block]? = some (.cells cur e (0, 0)) → w'.heap[x.block]? = w.heap[x.block]?) : w'.ownsRow B e sz (.slice a n c) n xs := by
  refine ⟨h.1, ?_⟩
  rcases h.2 with h2 | ⟨g, cap, cur, hv, hg, hh, r⟩
  · exact .inl h2
  · obtain ⟨rfl, rfl⟩ : a = some ⟨g, 0, none⟩ ∧ c = cap := by simpa using hv
    exact .inr ⟨g, c, cur, hv, hg, (hb _ cur rfl hh).trans hh, r⟩

/-- a block of cells stands where a row of another type grows -/
theorem cells_grown {w w' : World} {g B e sz n c : Nat} {cs : Array Value} {t : TypeId} {f : Nat × Nat} {a : Option Addr} {xs : List Value} (h : w.heap[g]? = some (.cells cs t f)) (hp : w.ownsRow B e sz (.slice a n c) n xs) (he : e ≠ t)
    (hg : w.grownBy w' (Value.slice a n c).ownBlock) : w'.heap[g]? = some (.cells cs t f) := by
  rw [hg.block g (Array.getElem?_eq_some_iff.1 h).1 ?_]
  · exact h
  · intro e1
    rcases hp.2 with ⟨h3, _⟩ | ⟨g2, cap2, cur2, hv2, _, hh2, _⟩
    · rw [h3] at e1; simp [Value.ownBlock] at e1
    · rw [hv2] at e1
      have e2 : g = g2 := by simpa [Value.ownBlock] using e1
      subst e2
      rw [h] at hh2
      simp at hh2
      exact he hh2.2.1.symm

theorem row_grown {w w' : World} {B B' e e' n n' sz sz' c c' : Nat} {a a' : Option Addr} {xs xs' : List Value} (h : w.ownsRow B e sz (.slice a n c) n xs) (hp : w.ownsRow B' e' sz' (.slice a' n' c') n' xs') (he : e' ≠ e)
    (hg : w.grownBy w' (Value.slice a' n' c').ownBlock) : w'.ownsRow B e sz (.slice a n c) n xs :=
  row_later h fun x cur _ hh => (cells_grown hh hp he hg).trans hh.symm

theorem row_set {w : World} {B e n sz c g j : Nat} {a : Option Addr} {xs : List Value} {cs : Array Value} {t : TypeId} {f : Nat × Nat} {v : Value} (h : w.ownsRow B e sz (.slice a n c) n xs) (hg : w.heap[g]? = some (.cells cs t f)) (ht : t ≠ e) :
    (w.setCell ⟨g, j, none⟩ v).ownsRow B e sz (.slice a n c) n xs :=
  row_later h fun x cur _ hh => Below.heap_setCell w _ _ _ (by
    intro e1
    have e2 : x.block = g := e1
    rw [e2, hg] at hh
    simp at hh
    exact ht hh.2.1)

theorem ownI_of_row {w : World} {B n : Nat} {v : Value} {xs : List Value} {l : List Nat} (h : w.ownsRow B 3 1 v n xs) (hx : xs = l.map iv) :
    ∃ a c, v = .slice a l.length c ∧ OwnI w B a c l := by
  have hn : n = l.length := by have := h.1; rw [hx] at this; simpa using this.symm
  subst hn; subst hx
  have h' := h
  rcases h.2 with ⟨rfl, h2⟩ | ⟨g, cap, cur, hv, _⟩
  · refine ⟨none, 0, by rw [h2], ?_⟩
    unfold OwnI; rw [h2]; rw [h2] at h; exact h
  · subst hv
    exact ⟨_, _, rfl, h'⟩

theorem wpList_appI {w : World} {ops : Array Oper} {rest : List Oper} {o : Oper} {a : Act} {Q : Exit → Act → World → Prop} (hgd : o.guard = none) (s x : Operand)
    (ho : o.op = .call { callee := .builtin .append, args := #[s, x], argTypes := #[49, 49] })
    (B : Nat) (ad : Option Addr) (c : Nat) (ps : List Nat) (hs : a.eval s = .slice ad ps.length c) (HO : OwnI w B ad c ps)
    (y : Addr) (cx : Nat) (p : Nat) (hx : a.eval x = .slice (some y) 1 cx) (hr : w.cell? y = some (iv p)) (hlen : ps.length ≤ 1000000) (hB : B ≤ w.heap.size)
    (h : ∀ N a' c' w', Hid (N = ps ++ [p]) → Hid (OwnI w' B a' c' N) → Hid (w.grownBy w' (Value.slice ad ps.length c).ownBlock) → Hid (Below B w w') → wpList Tryd.prog ops Q rest (a.put o.dst (.slice a' N.length c')) w') : wpList Tryd.prog ops Q (o :: rest) a w := by
  obtain ⟨i0, hi, hz0, hz1, hz2⟩ := info_parts A.infoI
  refine wpList_append_own w hgd s x 49 ho B 3 i0 (.int .i64 0) 1 8 Tryd.underlying49 hi hz0 hz1 hz2 rfl (by decide) _ _ _ hs HO y 1 cx [iv p] hx rfl ?_ (by intro u hu; obtain rfl := List.mem_singleton.1 hu; rfl) (by unfold maxLen; omega) (by omega) hB ?_
  · intro j u hu
    have : j = 0 := by
      cases j with
      | zero => rfl
      | succ j => simp at hu
    subst this
    simp at hu
    subst hu
    simpa [Addr.add] using hr
  · intro v' w' hown hgrow _
    obtain ⟨a', c', rfl, ho'⟩ := ownI_of_row (l := ps ++ [p]) hown (by simp)
    exact h _ a' c' w' (hid rfl) (hid ho') (hid hgrow) (hid ((Below.refl B w).grown hgrow hB fun k hk => (World.ownsRow.lt HO k hk).1))
end Go.Proofs.YtgbgcfdniodfpaaDoor
