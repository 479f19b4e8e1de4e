/- How bytes lie in memory: read from a slice, owned by the call. No function in sight. -/
import Derived.Test.YtgbgcfdniodfpaaDoorProg
import Derived.Test.YtgbgcfdniodfpaaDoorPl
import Derived.WalkKit
import Derived.ProofKit
import Derived.Below
import Derived.WalkLawsBesides
import Derived.WalkSpells
import Derived.Laws.Rows
import Derived.Laws.OwnMore
import Derived.Lib.SlBytesConst
import Derived.KernelRfl
import Derived.Deep.WholeRow
import Derived.Deep.QuietTactic
import Derived.BigQuiet
import Derived.Deep.LoopGhost
import Derived.Laws.MakeOwn
namespace Go.Proofs.YtgbgcfdniodfpaaDoor
open Go.RowKit
set_option linter.unusedVariables false

abbrev B8 := BitVec 8
abbrev bv8 (c : B8) : Value := .int .u8 (c.toNat : Int)
abbrev bv32 (c : BitVec 32) : Value := .int .u32 (c.toNat : Int)

theorem hid {p : Prop} (h : p) : Hid p := h
theorem ret_eq {a b : Value} (h : a = b) : Ending.returned a = .returned b := by rw [h]
theorem u32_eq {a b : Int} (h : a = b) : Value.int .u32 a = .int .u32 b := by rw [h]

/-- what is below the heap's size stands in a later world -/
theorem heap_later {w w' : World} {b : Nat} {o : Obj} (h : w.heap[b]? = some o) (hb : Below w.heap.size w w') : w'.heap[b]? = some o := by
  rw [hb.block b (Array.getElem?_eq_some_iff.1 h).1]; exact h

/-- a slice at address a reads as the bytes l -/
def Rd (w : World) (a : Option Addr) (l : List B8) : Prop :=
  l = [] ∨ ∃ b off, a = some ⟨b, off, none⟩ ∧ ∀ j (h : j < l.length), w.cell? ⟨b, off + j, none⟩ = some (bv8 l[j])

theorem Rd.nil (w : World) (a : Option Addr) : Rd w a [] := .inl rfl

theorem Rd.later {w w' : World} {a : Option Addr} {l : List B8} (h : Rd w a l) (hb : Below w.heap.size w w') : Rd w' a l := by
  rcases h with h | ⟨b, off, ha, hc⟩
  · exact .inl h
  · exact .inr ⟨b, off, ha, fun j hj => cell_later hb (hc j hj)⟩

/-- the address and the cells, where there is a byte -/
theorem Rd.gets {w : World} {a : Option Addr} {l : List B8} (h : Rd w a l) (hl : l ≠ []) :
    ∃ b off, a = some ⟨b, off, none⟩ ∧ ∀ j (h : j < l.length), w.cell? ⟨b, off + j, none⟩ = some (bv8 l[j]) := by
  rcases h with h | h
  · exact absurd h hl
  · exact h

theorem Rd.take {w : World} {a : Option Addr} {l : List B8} (h : Rd w a l) (n : Nat) : Rd w a (l.take n) := by
  rcases h with h | ⟨b, off, ha, hc⟩
  · exact .inl (by rw [h]; simp)
  · refine .inr ⟨b, off, ha, fun j hj => ?_⟩
    rw [hc j (by simp at hj; omega), List.getElem_take]

theorem Rd.drop {w : World} {b off : Nat} {l : List B8} (h : Rd w (some ⟨b, off, none⟩) l) (n : Nat) : Rd w (some ⟨b, off + n, none⟩) (l.drop n) := by
  rcases h with h | ⟨b', off', ha, hc⟩
  · exact .inl (by rw [h]; simp)
  · obtain ⟨rfl, rfl⟩ : b = b' ∧ off = off' := by simpa using ha
    refine .inr ⟨b, off + n, rfl, fun j hj => ?_⟩
    rw [Nat.add_assoc, hc (n + j) (by simp at hj; omega), List.getElem_drop]

/-- the bytes l lie in a row of the call's own, in a block from B on -/
def Own (w : World) (B : Nat) (a : Option Addr) (c : Nat) (l : List B8) : Prop :=
  w.ownsRow B 5 1 (.slice a l.length c) l.length (l.map bv8)

theorem Own.later {w w' : World} {B : Nat} {a : Option Addr} {c : Nat} {l : List B8} (h : Own w B a c l) (hb : Below w.heap.size w w') : Own w' B a c l := by
  refine ⟨h.1, ?_⟩
  rcases h.2 with h2 | ⟨g, cap, cur, hv, hg, hh, r⟩
  · exact .inl h2
  · exact .inr ⟨g, cap, cur, hv, hg, heap_later hh hb, r⟩

theorem Own.mono {w : World} {B B' : Nat} {a : Option Addr} {c : Nat} {l : List B8} (h : Own w B a c l) (hB : B' ≤ B) : Own w B' a c l := by
  refine ⟨h.1, ?_⟩
  rcases h.2 with h2 | ⟨g, cap, cur, hv, hg, r⟩
  · exact .inl h2
  · exact .inr ⟨g, cap, cur, hv, Nat.le_trans hB hg, r⟩

theorem Own.rd {w : World} {B : Nat} {a : Option Addr} {c : Nat} {l : List B8} (h : Own w B a c l) : Rd w a l := by
  rcases h.2 with ⟨_, h2⟩ | ⟨g, cap, cur, hv, hg, hh, hle, hm, hs, ht⟩
  · exact .inl (List.eq_nil_of_length_eq_zero h2)
  · obtain ⟨rfl, rfl⟩ : a = some ⟨g, 0, none⟩ ∧ c = cap := by simpa using hv
    refine .inr ⟨g, 0, rfl, fun j hj => ?_⟩
    rw [cell_of_row w g (0 + j) cur _ (0, 0) hh, Nat.zero_add]
    have h1 : (cur.toList.take (l.length * 1))[j]? = (l.map bv8)[j]? := by rw [ht]
    rw [List.getElem?_take, if_pos (by omega), List.getElem?_map, List.getElem?_eq_getElem hj] at h1
    simpa using h1

/-- of a result of append: a slice, its row -/
theorem own_of_row {w : World} {B n : Nat} {v : Value} {xs : List Value} {l : List B8} (h : w.ownsRow B 5 1 v n xs) (hx : xs = l.map bv8) :
    ∃ a c, v = .slice a l.length c ∧ n = l.length ∧ Own w B a c l := by
  have hn : n = l.length := by have := h.1; rw [hx] at this; simpa using this.symm
  subst hn; subst hx
  have h' := h
  rcases h.2 with ⟨rfl, h2⟩ | ⟨g, cap, cur, hv, _⟩
  · refine ⟨none, 0, by rw [h2], rfl, ?_⟩
    unfold Own; rw [h2]; rw [h2] at h; exact h
  · subst hv
    exact ⟨_, _, rfl, rfl, h'⟩

theorem own_nil (w : World) (B : Nat) : Own w B none 0 [] := World.ownsRow_nil w B _ 1

/-- bytes as values: each is one cell -/
theorem one_u8 (l : List B8) : ∀ u ∈ l.map bv8, u.oneCell' = true := by
  intro u hu; obtain ⟨c, _, rfl⟩ := List.mem_map.1 hu; rfl

/-- the cells of bytes that are read -/
theorem Rd.cells {w : World} {x : Addr} {l : List B8} (h : Rd w (some x) l) : ∀ j u, (l.map bv8)[j]? = some u → w.cell? (x.add j) = some u := by
  intro j u hu
  obtain ⟨hj, rfl⟩ := List.getElem?_eq_some_iff.1 hu
  simp only [List.length_map] at hj
  rcases h with h | ⟨b', off', ha, hc⟩
  · subst h; simp at hj
  · obtain rfl : x = ⟨b', off', none⟩ := by simpa using ha
    have hadd : (⟨b', off', none⟩ : Addr).add j = ⟨b', off' + j, none⟩ := by unfold Addr.add; split <;> simp_all
    rw [hadd, hc j hj]; simp

/-- a new row of bytes comes back; what was there stands -/
def Gives (w : World) (l : List B8) (e : Ending) (w' : World) : Prop :=
  ∃ a c, e = .returned (.slice a l.length c) ∧ Own w' w.heap.size a c l ∧ Below w.heap.size w w'

theorem Below.grow {w w1 w' : World} {v : Value} {n : Nat} {xs : List Value} {B : Nat} (h : Below B w w1) (hg : w1.grownBy w' v.ownBlock) (hB : B ≤ w1.heap.size) (ho : w1.ownsRow B 5 1 v n xs) : Below B w w' :=
  h.grown hg hB fun k hk => (ho.lt k hk).1

/-- behind an append to a row of the call's own, what is added lying in a new block -/
theorem app_out {w wr w3 : World} {B n : Nat} {a : Option Addr} {c : Nat} {L M : List B8} {o : Obj} {v' : Value} {xs : List Value} (HO : Own wr B a c L) (bel : Below B w wr) (hB : B ≤ wr.heap.size)
    (hown : w3.ownsRow B 5 1 v' n (L.map bv8 ++ xs)) (hgrow : (wr.alloc o).grownBy w3 (Value.slice a L.length c).ownBlock) (hM : xs = M.map bv8) :
    ∃ a' c', v' = .slice a' (L ++ M).length c' ∧ Own w3 B a' c' (L ++ M) ∧ Below B w w3 := by
  obtain ⟨a', c', hv, _, ho⟩ := own_of_row hown (show _ = (L ++ M).map bv8 by rw [hM, List.map_append])
  exact ⟨a', c', hv, ho, (bel.alloc hB o).grown hgrow (by simp; omega) fun k hk => (World.ownsRow.lt HO k hk).1⟩

/-- .. where it lies elsewhere -/
theorem app_out' {w wr w3 : World} {B n : Nat} {a : Option Addr} {c : Nat} {L M : List B8} {v' : Value} {xs : List Value} (HO : Own wr B a c L) (bel : Below B w wr) (hB : B ≤ wr.heap.size)
    (hown : w3.ownsRow B 5 1 v' n (L.map bv8 ++ xs)) (hgrow : wr.grownBy w3 (Value.slice a L.length c).ownBlock) (hM : xs = M.map bv8) :
    ∃ a' c', v' = .slice a' (L ++ M).length c' ∧ Own w3 B a' c' (L ++ M) ∧ Below B w w3 := by
  obtain ⟨a', c', hv, _, ho⟩ := own_of_row hown (show _ = (L ++ M).map bv8 by rw [hM, List.map_append])
  exact ⟨a', c', hv, ho, bel.grown hgrow hB fun k hk => (World.ownsRow.lt HO k hk).1⟩

theorem A.infoB : (Tryd.prog.info? 5).map (fun i => (i.zero, i.size, i.bytes)) = some (some (.int .u8 0), 1, 1) := by kernel_rfl


/-- append to a row of the call's own from whatever slice reads as bytes -/
theorem wpList_app {w : World} {ops : Array Oper} {rest : List Oper} {o : Oper} {a : Act} {Q : Exit → Act → World → Prop} (hgd : o.guard = none) (s x : Operand)
    (ho : o.op = .call { callee := .builtin .append, args := #[s, x], argTypes := #[22, 22] })
    (B : Nat) (ad : Option Addr) (c : Nat) (L : List B8) (hs : a.eval s = .slice ad L.length c) (HO : Own w B ad c L)
    (ax : Option Addr) (cx : Nat) (M : List B8) (hx : a.eval x = .slice ax M.length cx) (hr : Rd w ax M) (hlen : L.length + M.length ≤ 100000000) (hB : B ≤ w.heap.size)
    (h : ∀ N a' c' w', Hid (N = L ++ M) → Hid (Own w' B a' c' N) → Hid (Below B w w') → wpList Tryd.prog ops Q rest (a.put o.dst (.slice a' N.length c')) w') : wpList Tryd.prog ops Q (o :: rest) a w := by
  obtain ⟨i0, hi, hz0, hz1, hz2⟩ := info_parts A.infoB
  cases ax with
  | none =>
    obtain rfl : M = [] := by rcases hr with h | ⟨b, off, ha, _⟩; exact h; cases ha
    refine wpList_plain hgd fun K hK => ?_
    have hrun : (Builtin.append_ #[22, 22] o.type #[.slice ad L.length c, .slice none 0 cx]).run Tryd.prog w = .ok (.slice ad L.length c) w := by
      rcases HO.2 with ⟨e, e2⟩ | ⟨g, cap, cur, e, _, _, hnc, _⟩
      · rw [e]; simp [Builtin.append_, run_underlying Tryd.underlying22, Go.sizeOf, typeInfo, hi, Builtin.lenOf, Builtin.firstCells]
      · rw [e]
        simp [Builtin.append_, run_underlying Tryd.underlying22, Go.sizeOf, typeInfo, hi, Builtin.lenOf, Builtin.firstCells, hnc, storeCells]
    unfold Oper.wp
    simp only [List.length_nil] at hx
    simp [execOp, ho, resolve, invoke, builtin, hs, hx, hrun, Result.andThen]
    exact hK _ _ (h L ad c w (hid (by rw [List.append_nil])) (hid HO) (hid (Below.refl _ _)))
  | some y =>
    refine wpList_append_own w hgd s x 22 ho B 5 i0 (.int .u8 0) 1 1 Tryd.underlying22 hi hz0 hz1 hz2 rfl (by decide) _ _ _ hs HO y M.length cx (M.map bv8) hx (by simp) hr.cells (one_u8 M) (by unfold maxLen; omega) (by omega) hB ?_
    intro v' w' hown hgrow _
    obtain ⟨a', c', rfl, ho', bel'⟩ := app_out' HO (Below.refl _ _) hB hown hgrow rfl
    exact h _ a' c' w' (hid rfl) (hid ho') (hid bel')

/-- a new block of bytes that reads as they -/
theorem rd_new (w : World) (cs : Array Value) (t : TypeId) {fr : Nat × Nat} (M : List B8) (h : cs.toList = M.map bv8) : Rd (w.alloc (.cells cs t fr)) (some ⟨w.heap.size, 0, none⟩) M := by
  refine .inr ⟨w.heap.size, 0, rfl, fun j hj => ?_⟩
  rw [cell_of_row _ _ _ _ _ _ (heap_alloc_new _ _), Nat.zero_add]
  have : cs.toList[j]? = (M.map bv8)[j]? := by rw [h]
  rw [List.getElem?_map, List.getElem?_eq_getElem hj] at this
  simpa using this

/-- a new row of bytes of the call's own -/
theorem own_new (w : World) (B : Nat) (hB : B ≤ w.heap.size) (cs : Array Value) (M : List B8) (h : cs.toList = M.map bv8) (hl : M.length ≤ 100000000) :
    Own (w.alloc (.cells cs 5)) B (some ⟨w.heap.size, 0, none⟩) M.length M := by
  have hs : cs.size = M.length := by have := congrArg List.length h; simpa using this
  have := World.ownsRow_lit (base := B) (e := 5) (size := 1) w cs M.length hB (by unfold maxLen; omega) (by omega)
  unfold Own
  rw [← h]; exact this

end Go.Proofs.YtgbgcfdniodfpaaDoor
