/- frame.Split. -/
import Derived.Test.YtgbgcfdniodfpaaDoorPs
namespace Go.Proofs.YtgbgcfdniodfpaaDoor
open Go.RowKit
set_option linter.unusedVariables false

theorem A.infoS : (Tryd.prog.info? 22).map (fun i => (i.zero, i.size, i.bytes)) = some (some (.slice none 0 0), 1, 24) := by kernel_rfl

/-- a row of the call's own of parts -/
def OwnP (w : World) (B : Nat) (a : Option Addr) (c : Nat) (ps : List Part) : Prop := w.ownsRow B 22 1 (.slice a ps.length c) ps.length (ps.map Part.val)

theorem ownP_nil (w : World) (B : Nat) : OwnP w B none 0 [] := World.ownsRow_nil w B _ 1

theorem OwnP.later {w w' : World} {B : Nat} {a : Option Addr} {c : Nat} {l : List Part} (h : OwnP w B a c l) (hb : Below w.heap.size w w') : OwnP w' B a c l := by
  refine ⟨h.1, ?_⟩
  rcases h.2 with h2 | ⟨g, cap, cur, hv, hg, hh, r⟩
  · exact .inl h2
  · exact .inr ⟨g, cap, cur, hv, hg, heap_later hh hb, r⟩

theorem OwnP.mono {w : World} {B B' : Nat} {a : Option Addr} {c : Nat} {l : List Part} (h : OwnP w B a c l) (hB : B' ≤ B) : OwnP w B' a c l := by
  refine ⟨h.1, ?_⟩
  rcases h.2 with h2 | ⟨g, cap, cur, hv, hg, r⟩
  · exact .inl h2
  · exact .inr ⟨g, cap, cur, hv, Nat.le_trans hB hg, r⟩

/-- a row of bytes stands where a row of parts grows -/
theorem Own.grownP {w w' : World} {B B' : Nat} {a a' : Option Addr} {c c' n : Nat} {l : List B8} {xs : List Value} {sz : Nat} {e : TypeId} (h : Own w B a c l) (hp : w.ownsRow B' e sz (.slice a' n c') n xs) (he : e ≠ 5)
    (hg : w.grownBy w' (Value.slice a' n c').ownBlock) : Own w' B a c l := by
  refine ⟨h.1, ?_⟩
  rcases h.2 with h2 | ⟨g, cap, cur, hv, hgB, hh, r⟩
  · exact .inl h2
  · refine .inr ⟨g, cap, cur, hv, hgB, ?_, r⟩
    rw [hg.block g (Array.getElem?_eq_some_iff.1 hh).1 ?_]
    · exact hh
    · intro e1
      rcases hp.2 with ⟨h3, _⟩ | ⟨g2, cap2, cur2, hv2, _, hh2, _⟩
      · rw [h3] at e1; simp [Value.ownBlock] at e1
      · rw [hv2] at e1
        have e2 : g = g2 := by simpa [Value.ownBlock] using e1
        subst e2
        rw [hh] at hh2
        simp at hh2
        exact he hh2.2.symm

/-- what OwnP gives a reader -/
theorem OwnP.rds {w : World} {B B' : Nat} {a : Option Addr} {c : Nat} {ps : List Part} (h : OwnP w B a c ps) (hp : ∀ p ∈ ps, Rd w p.at_ p.bs ∧ p.bs.length ≤ 4000000) : Rds w a ps := by
  refine ⟨?_, hp⟩
  rcases h.2 with ⟨_, h2⟩ | ⟨g, cap, cur, hv, hg, hh, hle, hm, hs, ht⟩
  · exact .inl (List.eq_nil_of_length_eq_zero h2)
  · obtain ⟨rfl, rfl⟩ : a = some ⟨g, 0, none⟩ ∧ c = cap := by simpa using hv
    refine .inr ⟨g, 0, rfl, fun j hj => ?_⟩
    rw [cell_of_row w g (0 + j) cur _ (0, 0) hh, Nat.zero_add]
    have h1 : (cur.toList.take (ps.length * 1))[j]? = (ps.map Part.val)[j]? := by rw [ht]
    rw [List.getElem?_take, if_pos (by omega), List.getElem?_map, List.getElem?_eq_getElem hj] at h1
    simpa using h1

theorem ownP_of_row {w : World} {B n : Nat} {v : Value} {xs : List Value} {l : List Part} (h : w.ownsRow B 22 1 v n xs) (hx : xs = l.map Part.val) :
    ∃ a c, v = .slice a l.length c ∧ OwnP w B a c l := by
  have hn : n = l.length := by have := h.1; rw [hx] at this; simpa using this.symm
  subst hn; subst hx
  have h' := h
  rcases h.2 with ⟨rfl, h2⟩ | ⟨g, cap, cur, hv, _⟩
  · refine ⟨none, 0, by rw [h2], ?_⟩
    unfold OwnP; rw [h2]; rw [h2] at h; exact h
  · subst hv
    exact ⟨_, _, rfl, h'⟩

/-- append of one part to a row of parts of the call's own -/
theorem wpList_appP {w : World} {ops : Array Oper} {rest : List Oper} {o : Oper} {a : Act} {Q : Exit → Act → World → Prop} (hgd : o.guard = none) (s x : Operand)
    (ho : o.op = .call { callee := .builtin .append, args := #[s, x], argTypes := #[46, 46] })
    (B : Nat) (ad : Option Addr) (c : Nat) (ps : List Part) (hs : a.eval s = .slice ad ps.length c) (HO : OwnP w B ad c ps)
    (y : Addr) (cx : Nat) (p : Part) (hx : a.eval x = .slice (some y) 1 cx) (hr : w.cell? y = some p.val) (hlen : ps.length ≤ 1000000) (hB : B ≤ w.heap.size)
    (h : ∀ N a' c' w', Hid (N = ps ++ [p]) → Hid (OwnP w' B a' c' N) → Hid (w.grownBy w' (Value.slice ad ps.length c).ownBlock) → Hid (Below B w w') → wpList Tryd.prog ops Q rest (a.put o.dst (.slice a' N.length c')) w') : wpList Tryd.prog ops Q (o :: rest) a w := by
  obtain ⟨i0, hi, hz0, hz1, hz2⟩ := info_parts A.infoS
  refine wpList_append_own w hgd s x 46 ho B 22 i0 (.slice none 0 0) 1 24 Tryd.underlying46 hi hz0 hz1 hz2 rfl (by decide) _ _ _ hs HO y 1 cx [p.val] hx rfl ?_ (by intro u hu; obtain rfl := List.mem_singleton.1 hu; rfl) (by unfold maxLen; omega) (by omega) hB ?_
  · intro j u hu
    have : j = 0 := by
      cases j with
      | zero => rfl
      | succ j => simp at hu
    subst this
    simp at hu
    subst hu
    simpa [Addr.add] using hr
  · intro v' w' hown hgrow _
    obtain ⟨a', c', rfl, ho'⟩ := ownP_of_row (l := ps ++ [p]) hown (by simp)
    exact h _ a' c' w' (hid rfl) (hid ho') (hid hgrow) (hid ((Below.refl B w).grown hgrow hB fun k hk => (World.ownsRow.lt HO k hk).1))

theorem rd_err_le {b : List B8} {e o : Nat} (h : rd b = .err e o) : o ≤ b.length := by
  unfold rd at h
  cases hv : vnum b with
  | err n =>
    rw [hv] at h
    simp only at h
    split at h <;> simp only [RR.err.injEq] at h <;> omega
  | ok n i =>
    rw [hv] at h
    have := (vnum_ok hv).1
    simp only at h
    split at h
    · simp only [RR.err.injEq] at h; omega
    · split at h
      · simp only [RR.err.injEq] at h; omega
      · split at h
        · cases h
        · simp only [RR.err.injEq] at h; omega

def SplitEnd (w : World) (l : List B8) (e : Ending) (w' : World) : Prop :=
  match (fr l 0).2 with
  | none => ∃ a c ps, e = .returned (.tuple #[.slice a ps.length c, .nilIface]) ∧ OwnP w' w.heap.size a c ps ∧ (∀ p ∈ ps, Own w' w.heap.size p.at_ p.cap p.bs ∧ p.bs.length ≤ 65536) ∧ ps.map Part.bs = (fr l 0).1.map Prod.snd ∧ Below w.heap.size w w'
  | some (n, o) => e = .returned (.tuple #[.slice none 0 0, flt n o]) ∧ Below w.heap.size w w'

set_option maxRecDepth 100000 in
set_option maxHeartbeats 2000000 in
theorem Split_any (a : Option Addr) (c : Nat) (l : List B8) (w : World) (he : Et w) (hr : Rd w a l) (hc : l.length ≤ c) (hl : l.length ≤ 2000) :
    Calls Tryd.prog 19 #[.slice a l.length c] w (SplitEnd w l) := by
  have HE := hid he
  have HR := hid hr
  clear he hr
  go_enter Tryd.func19, Tryd.ntmps19
  go_wp2_with fail
  go_loopw [4, 5] (fun s i wr => (∃ (k : Nat) (ps : List Part) (a' : Option Addr) (c' : Nat), i = .int .i64 k ∧ s = .slice a' ps.length c' ∧ k ≤ l.length ∧ ps.length ≤ k ∧ Hid (OwnP wr w.heap.size a' c' ps) ∧ Hid (∀ p ∈ ps, Own wr w.heap.size p.at_ p.cap p.bs ∧ p.bs.length ≤ 65536) ∧
      Hid (ps.map Part.bs ++ (fr l k).1.map Prod.snd = (fr l 0).1.map Prod.snd) ∧ Hid ((fr l k).2 = (fr l 0).2)) ∧ Below w.heap.size w wr) (fun _ i _ => l.length - (intOf i).toNat)
  case atStart => exact ⟨⟨0, [], none, 0, rfl, rfl, by omega, by simp, hid (ownP_nil _ _), hid (fun p hp => by cases hp), hid rfl, hid rfl⟩, Below.refl _ _⟩
  case round =>
    obtain ⟨⟨k, ps, a', c', rfl, rfl, hk, hpk, HO, HP, HF1, HF2⟩, bel⟩ := hrel
    have Bel := hid bel
    clear bel
    have hB := Bel.out.size
    by_cases hlt : k < l.length
    · obtain ⟨b, off, rfl, _⟩ := HR.out.gets (by intro e; rw [e] at hlt; simp at hlt)
      have hdl : (l.drop k).length = l.length - k := by simp
      have HRk := hid (Read_any (some ⟨b, off + k, none⟩) (c - k) (l.drop k) wr (HE.out.later Bel.out) ((HR.out.later Bel.out).drop k) (by omega) (by omega))
      rw [hdl] at HRk
      obtain ⟨r, hr⟩ : ∃ r, r = rd (l.drop k) := ⟨_, rfl⟩
      rw [← hr] at HRk
      have Hr := hid hr.symm
      clear hdl hr
      rcases r with ⟨n, o⟩ | ⟨p, u⟩
      · have ho := rd_err_le Hr.out
        have hol : o ≤ 2000 := by simp at ho; omega
        have HX := hid (fr_err hlt Hr.out)
        clear ho
        go_wp2_with fail
        refine HRk.out.mono ?_
        rintro e w2 ⟨rfl, bel2⟩
        have Bel2 := hid (Bel.out.trans (bel2.mono hB))
        clear bel2
        go_wp2_with fail
        refine (Shift_fault n o k _ (HE.out.later Bel2.out) (by omega) (by omega) (by omega) (by omega)).mono ?_
        rintro e w3 ⟨rfl, bel3⟩
        have Bel3 := hid (Bel2.out.trans (bel3.mono Bel2.out.size))
        clear bel3
        go_wp2_with fail
        go_ret2
        have h2 : (fr l 0).2 = some (n, k + o) := by rw [← HF2.out, HX.out]
        unfold SplitEnd
        rw [h2]
        refine ⟨?_, Bel3.out⟩
        rw [show ((k + o : Nat) : Int) = (o : Int) + (k : Int) by omega]
        rfl
      · have hu := (rd_ok Hr.out).2.1
        have hu0 := (rd_ok Hr.out).2.2.1
        have hpl := (rd_ok Hr.out).1
        have hk2 : k + u ≤ l.length := by simp at hu; omega
        have HX := hid (fr_ok hlt Hr.out)
        clear hu
        go_wp2_with fail
        refine HRk.out.mono ?_
        rintro e w2 ⟨a2, c2, rfl, own2, bel2⟩
        have HO2 := hid (HO.out.later bel2)
        have HN2 := hid (own2.mono hB)
        have HP2 := hid (fun q (hq : q ∈ ps) => And.intro ((HP.out q hq).1.later bel2) (HP.out q hq).2)
        have Bel2 := hid (Bel.out.trans (bel2.mono hB))
        clear own2 bel2 HRk HO HP Bel
        have hB2 := Bel2.out.size
        go_wp2_with (at_builtin; refine wpList_appP rfl _ _ rfl w.heap.size _ _ ps rfl (HO2.out.later ((Below.refl _ _).alloc (Nat.le_refl _) _)) ⟨w2.heap.size, 0, none⟩ 1 ⟨a2, c2, p⟩ rfl (cell_new1 _ _ _) ?_ ?_ ?_)
        · omega
        · simp; omega
        intro N a3 c3 w3 HN Own3 hg3 bel3
        have hgr := hg3.out
        have hal : Below w2.heap.size w2 (w2.alloc (.cells #[.slice a2 p.length c2] 22)) := (Below.refl _ _).alloc (Nat.le_refl _) _
        have HP3 := hid (show ∀ q ∈ N, Own w3 w.heap.size q.at_ q.cap q.bs ∧ q.bs.length ≤ 65536 by
          intro q hq
          rw [HN.out] at hq
          rcases List.mem_append.1 hq with hq | hq
          · exact ⟨((HP2.out q hq).1.later hal).grownP (HO2.out.later hal) (by decide) hgr, (HP2.out q hq).2⟩
          · obtain rfl := List.mem_singleton.1 hq
            exact ⟨(HN2.out.later hal).grownP (HO2.out.later hal) (by decide) hgr, hpl⟩)
        have Bel3 := hid ((Bel2.out.alloc hB2 _).trans bel3.out)
        have HF1' := hid (show N.map Part.bs ++ (fr l (k + u)).1.map Prod.snd = (fr l 0).1.map Prod.snd by
          rw [HN.out, ← HF1.out, HX.out]; simp)
        have HF2' := hid (show (fr l (k + u)).2 = (fr l 0).2 by rw [← HF2.out, HX.out])
        have hNl : N.length = ps.length + 1 := by rw [HN.out]; simp
        clear hgr hal hg3 bel3 HN HO2 HN2 HP2 Bel2 HF1 HF2 HX
        go_wp2_with fail
        go_roundw
        case rel => exact ⟨⟨k + u, N, a3, c3, by go_num, rfl, hk2, by omega, Own3, HP3, HF1', HF2'⟩, Bel3.out⟩
        case measure => simp [intOf]; omega
    · have HX := hid (fr_end hlt)
      go_wp2_with fail
      go_ret2
      have h2 : (fr l 0).2 = none := by rw [← HF2.out, HX.out]
      unfold SplitEnd
      rw [h2]
      exact ⟨a', c', ps, rfl, HO.out, HP.out, by rw [← HF1.out, HX.out]; simp, Bel.out⟩
end Go.Proofs.YtgbgcfdniodfpaaDoor
