/- slices.Grow of nil, slices.Concat, wire.Join. -/
import Derived.Test.YtgbgcfdniodfpaaDoorWp
import Derived.Lib.AppendZerosOnto
import Derived.Lib.SliceRun
namespace Go.Proofs.YtgbgcfdniodfpaaDoor
open Go.RowKit
set_option linter.unusedVariables false

/-- an empty slice of a row of the call's own -/
def Empty (w : World) (B : Nat) (v : Value) : Prop := ∃ a c, v = .slice a 0 c ∧ Own w B a c []

theorem zero_empty (w : World) (G k B : Nat) (cs : Array Value) (hs : cs.size = G) (hG : G ≤ maxLen) (hB : B ≤ w.heap.size) :
    Own (w.alloc (.cells cs 5)) B (some ⟨w.heap.size, 0, none⟩) G [] := by
  refine ⟨rfl, .inr ⟨w.heap.size, G, cs, rfl, hB, heap_alloc_new _ _, Nat.zero_le _, hG, by rw [hs]; simp, rfl⟩⟩

set_option maxRecDepth 100000 in
set_option maxHeartbeats 1000000 in
theorem Grow_nil (n : Nat) (w : World) (hn : n ≤ 100000000) : Calls Tryd.prog 45 #[.slice none 0 0, .int .i64 n] w (Gives w []) := by
  obtain ⟨i0, hi, hz0, hz1, hz2⟩ := info_parts A.infoB
  by_cases h0 : n = 0
  · subst h0
    go_enter Tryd.func45, Tryd.ntmps45
    go_wp2_with fail
    go_ret
    exact ⟨none, 0, rfl, own_nil _ _, Below.refl _ _⟩
  have h1 : ¬ ((n : Int) < 0) := by omega
  have h4 : (n : Int) > 0 := by omega
  have hold : (Builtin.firstCells i0.size 0 (.slice none 0 0)).run Tryd.prog w.drew = .ok (#[] : Array Value) w.drew := Go.run_firstCells_none w.drew i0.size 0 0 0
  have hrz : ∀ ty, (Builtin.append_ #[22, 3] ty #[.slice none 0 0, .int .i64 n]).run Tryd.prog w =
      .ok (.slice (some ⟨w.heap.size, 0, none⟩) n (grownCap w n 0 5)) (w.drew.alloc (.cells ((#[] : Array Value) ++ Builtin.zeroCells (Value.int .u8 0).cells n ++ Builtin.zeroCells (Value.int .u8 0).cells (grownCap w n 0 5 - n)) 5)) := fun ty => by
    have h := Go.Lib.run_append_grow_zeros w 22 3 ty 5 i0 (.int .u8 0) .i64 .i64 Tryd.underlying22 Tryd.underlying3 hi hz0 none 0 0 [] hold n (by omega) (by omega) (by omega) (by omega)
      (by rw [hz2]; omega)
      (by rw [hz2]; exact growslice_fits (by omega) (by omega))
    simpa using h
  have hGn : n ≤ grownCap w n 0 5 := grownCap_ge w _ _ _
  have hG63 := grownCap_le_maxLen w n 0 5 (by unfold maxLen; omega)
  obtain ⟨G, hG⟩ : ∃ G, G = grownCap w n 0 5 := ⟨_, rfl⟩
  rw [← hG] at hrz hGn hG63
  obtain ⟨cs, hcs⟩ : ∃ cs : Array Value, cs = (#[] : Array Value) ++ Builtin.zeroCells (Value.int .u8 0).cells n ++ Builtin.zeroCells (Value.int .u8 0).cells (G - n) := ⟨_, rfl⟩
  rw [← hcs] at hrz
  have hsz : cs.size = G := by rw [hcs]; simp [Builtin.zeroCells, Value.cells]; omega
  have Hmax := hid hG63
  have hG63 : G ≤ 9223372036854775807 := by unfold maxLen at hG63; omega
  have Hcs := hid hsz
  clear hold hG hcs hsz
  go_enter Tryd.func45, Tryd.ntmps45
  go_wp2_with (at_builtin; refine Lib.wpList_append_run _ rfl _ _ _ _ rfl _ _ rfl rfl _ _ (hrz _) ?_)
  all_goals (go_ret; exact ⟨_, G, rfl, zero_empty w.drew G n w.heap.size cs Hcs.out Hmax.out (by simp), ((Below.refl _ _).drew).alloc (by simp) _⟩)

def joinTo (ps : List Part) (k : Nat) : List B8 := (ps.take k).flatMap (·.bs)
theorem joinTo_succ (ps : List Part) (k : Nat) (h : k < ps.length) : joinTo ps (k + 1) = joinTo ps k ++ ps[k].bs := by
  unfold joinTo
  rw [List.take_succ_eq_append_getElem h, List.flatMap_append]; simp
theorem joinTo_all (ps : List Part) : joinTo ps ps.length = ps.flatMap (·.bs) := by unfold joinTo; rw [List.take_length]
theorem joinTo_le (ps : List Part) (k : Nat) : (joinTo ps k).length ≤ (ps.flatMap (·.bs)).length := by
  have e : ps.flatMap (·.bs) = joinTo ps k ++ (ps.drop k).flatMap (·.bs) := by
    unfold joinTo
    rw [← List.flatMap_append, List.take_append_drop]
  rw [e, List.length_append]; omega

set_option maxRecDepth 100000 in
set_option maxHeartbeats 1000000 in
theorem Concat_any (a : Option Addr) (c : Nat) (ps : List Part) (w : World) (hr : Rds w a ps) (hl : ps.length ≤ 4000000) (ht : (ps.flatMap (·.bs)).length ≤ 3000000) :
    Calls Tryd.prog 39 #[.slice a ps.length c] w (Gives w (ps.flatMap (·.bs))) := by
  have Hr := hid hr
  have Ht := hid ht
  clear hr ht
  obtain ⟨n, hm⟩ : ∃ n, n = ps.length := ⟨_, rfl⟩
  rw [← hm] at hl ⊢
  have Hm := hid hm
  clear hm
  go_enter Tryd.func39, Tryd.ntmps39
  go_wp2_with fail
  go_loopw [3, 11] (fun s i wr => (∃ (k : Nat) (t : Nat), k ≤ n ∧ i = .int .i64 k ∧ s = .int .i64 t ∧ t ≤ 3000000 ∧ Hid (t = (joinTo ps k).length)) ∧ Below w.heap.size w wr) (fun _ i _ => n - (intOf i).toNat)
  case atStart => exact ⟨⟨0, 0, by omega, rfl, rfl, by omega, hid rfl⟩, Below.refl _ _⟩
  case round =>
    obtain ⟨⟨k, t, hk, rfl, rfl, ht3, HT⟩, bel⟩ := hrel
    have Bel := hid bel
    have hB : w.heap.size ≤ wr.heap.size := bel.size
    by_cases hlt : k < n
    · have hk1 : k < ps.length := by have := Hm.out; omega
      obtain ⟨b, off, rfl, hc⟩ := (Hr.out.later bel).gets (by intro e; rw [e] at hk1; simp at hk1)
      have h1 := hc k hk1
      have Hs := hid (joinTo_succ ps k hk1)
      have hle := joinTo_le ps (k + 1)
      rw [Hs.out, List.length_append, ← HT.out] at hle
      have hle := Nat.le_trans hle Ht.out
      clear hc bel
      generalize ps[k] = x at *
      obtain ⟨xa, xc, xl⟩ := x
      simp only at hle
      have HT2 := hid (show t + xl.length = (joinTo ps (k + 1)).length by rw [Hs.out, List.length_append, HT.out])
      clear Hs HT
      go_wp2_with fail
      go_roundw
      case rel => exact ⟨⟨k + 1, t + xl.length, by omega, by go_num, by go_num, hle, HT2⟩, Bel.out⟩
      case measure => simp [intOf]; omega
    · obtain rfl : k = n := by omega
      clear bel HT
      go_wp2_with fail
      refine (Grow_nil t _ (by omega)).mono ?_
      rintro e w1 ⟨a1, c1, rfl, own1, bel1⟩
      have Own1 := hid (own1.mono hB)
      have Bel1 := hid (Bel.out.trans (bel1.mono hB))
      clear own1 bel1 Bel hB
      go_wp2_with fail
      go_loopw [6, 27] (fun s i wr => (∃ (k' : Nat) (L : List B8) (a' : Option Addr) (c' : Nat), k' ≤ k ∧ i = .int .i64 k' ∧ s = .slice a' L.length c' ∧ Hid (L = joinTo ps k') ∧ Hid (Own wr w.heap.size a' c' L)) ∧ Below w.heap.size w wr) (fun _ i _ => k - (intOf i).toNat)
      case atStart => exact ⟨⟨0, [], a1, c1, by omega, rfl, rfl, hid rfl, Own1⟩, Bel1.out⟩
      case round =>
        clear Own1 Bel1
        obtain ⟨⟨k', L, a', c', hk', rfl, rfl, HL, HO⟩, bel⟩ := hrel
        have Bel := hid bel
        have hB : w.heap.size ≤ wr.heap.size := bel.size
        by_cases hlt : k' < k
        · have hk1 : k' < ps.length := by have := Hm.out; omega
          obtain ⟨b, off, rfl, hc⟩ := (Hr.out.later bel).gets (by intro e; rw [e] at hk1; simp at hk1)
          have h1 := hc k' hk1
          have hp := (Hr.out.later bel).2 ps[k'] (List.getElem_mem hk1)
          have Hs := hid (joinTo_succ ps k' hk1)
          have hle := joinTo_le ps (k' + 1)
          rw [Hs.out, List.length_append, ← HL.out] at hle
          have hle := Nat.le_trans hle Ht.out
          clear hc bel
          generalize ps[k'] = x at *
          have Hp := hid hp
          have Hle := hid hle
          clear hp hle
          obtain ⟨xa, xc, xl⟩ := x
          go_wp2_with (at_builtin; refine wpList_app rfl _ _ rfl w.heap.size _ _ L rfl HO.out _ _ xl rfl Hp.out.1 ?k1 hB ?_)
          case k1 => exact Nat.le_trans Hle.out (by omega)
          intro L2 a2 c2 w2 HN Own2 bel2
          have Bel2 := hid (Bel.out.trans bel2.out)
          have HL2 := hid (show L2 = joinTo ps (k' + 1) by rw [HN.out, Hs.out, HL.out])
          clear bel2 HN Bel HO HL Hs Hle Hp
          go_wp2_with fail
          go_roundw
          case rel => exact ⟨⟨k' + 1, L2, a2, c2, by omega, by go_num, rfl, HL2, Own2⟩, Bel2.out⟩
          case measure => simp [intOf]; omega
        · obtain rfl : k' = k := by omega
          have HL2 := hid (show L = ps.flatMap (·.bs) by rw [HL.out, Hm.out, joinTo_all])
          clear bel
          go_wp2_with fail
          go_ret
          exact ⟨a', c', by rw [← HL2.out]; rfl, by rw [← HL2.out]; exact HO.out, Bel.out⟩

theorem Join_any (a : Option Addr) (c : Nat) (ps : List Part) (w : World) (hr : Rds w a ps) (hl : ps.length ≤ 4000000) (ht : (ps.flatMap (·.bs)).length ≤ 3000000) :
    Calls Tryd.prog 23 #[.slice a ps.length c] w (Gives w (ps.flatMap (·.bs))) := by
  have H := hid (Concat_any a c ps w hr hl ht)
  obtain ⟨n, hm⟩ : ∃ n, n = ps.length := ⟨_, rfl⟩
  obtain ⟨q, hq⟩ : ∃ q, q = ps.flatMap (·.bs) := ⟨_, rfl⟩
  rw [← hm] at H hl ⊢
  rw [← hq] at H ⊢
  clear hr ht hm hq
  go_enter Tryd.func23, Tryd.ntmps23
  go_wp2_with fail
  refine H.out.mono ?_
  rintro e w1 ⟨a1, c1, rfl, own1, bel1⟩
  have G := hid (show Own w1 w.heap.size a1 c1 q ∧ Below w.heap.size w w1 from ⟨own1, bel1⟩)
  clear own1 bel1 H
  go_wp2_with fail
  go_ret
  exact ⟨a1, c1, rfl, G.out⟩

set_option maxRecDepth 100000 in
set_option maxHeartbeats 1000000 in
/-- frame.Put of a payload that is not too long -/
theorem Put_ok (a : Option Addr) (c : Nat) (p : List B8) (w : World) (hr : Rd w a p) (hl : p.length ≤ 65536) :
    Calls Tryd.prog 9 #[.slice a p.length c] w fun e w' => ∃ a' c', e = .returned (.tuple #[.slice a' (fput p).length c', .nilIface]) ∧ Own w' w.heap.size a' c' (fput p) ∧ Below w.heap.size w w' := by
  have Hr := hid hr
  have Ht := hid (vput_three hl)
  clear hr
  go_enter Tryd.func9, Tryd.ntmps9
  go_wp2_with fail
  refine (wPut_any p.length _ (by omega)).mono ?_
  rintro e w1 ⟨a1, c1, rfl, own1, bel1⟩
  have Own1 := hid own1
  have Bel1 := hid bel1
  clear own1 bel1
  go_wp2_with fail
  refine (Seal_any a c p _ (Hr.out.later Bel1.out) (by omega)).mono ?_
  rintro e w2 ⟨a2, c2, rfl, own2, bel2⟩
  have R1 := hid (Own1.out.rd.later bel2)
  have R2 := hid own2.rd
  have Bel2 := hid (Bel1.out.trans (bel2.mono Bel1.out.size))
  clear own2 bel2 Own1 Bel1
  go_wp2_with fail
  have HB := hid (Bel2.out.alloc Bel2.out.size (.cells #[.slice a1 (vput p.length).length c1, .slice a2 (sealOf p).length c2] 22))
  have RR := hid (show Rds (w2.alloc (.cells #[.slice a1 (vput p.length).length c1, .slice a2 (sealOf p).length c2] 22)) (some ⟨w2.heap.size, 0, none⟩) [⟨a1, c1, vput p.length⟩, ⟨a2, c2, sealOf p⟩] from
    ⟨.inr ⟨w2.heap.size, 0, rfl, fun j hj => by
      rw [cell_of_row _ _ _ _ _ _ (heap_alloc_new _ _)]
      match j, hj with
      | 0, _ => rfl
      | 1, _ => rfl⟩, fun q hq => by
      have bl : Below w2.heap.size w2 (w2.alloc (.cells #[.slice a1 (vput p.length).length c1, .slice a2 (sealOf p).length c2] 22)) := (Below.refl _ _).alloc (Nat.le_refl _) _
      have h3 := Ht.out
      simp only [List.mem_cons, List.not_mem_nil, or_false] at hq
      rcases hq with rfl | rfl
      · exact ⟨R1.out.later bl, by simp only; omega⟩
      · exact ⟨R2.out.later bl, by simp only [sealOf_length]; omega⟩⟩)
  have e2 : [(⟨a1, c1, vput p.length⟩ : Part), ⟨a2, c2, sealOf p⟩].flatMap (·.bs) = fput p := by simp [fput]
  refine (Join_any _ 2 [⟨a1, c1, vput p.length⟩, ⟨a2, c2, sealOf p⟩] _ RR.out (by simp) (by rw [e2, fput, List.length_append, sealOf_length]; have := Ht.out; omega)).mono ?_
  rw [e2]
  rintro e w3 ⟨a3, c3, rfl, own3, bel3⟩
  have Own3 := hid (own3.mono HB.out.size)
  have Bel3 := hid (HB.out.trans (bel3.mono HB.out.size))
  clear own3 bel3 RR HB R1 R2 Bel2 e2
  go_wp2_with fail
  go_ret2
  exact ⟨a3, c3, rfl, Own3.out, Bel3.out⟩

set_option maxRecDepth 100000 in
set_option maxHeartbeats 1000000 in
/-- .. of one that is -/
theorem Put_no (a : Option Addr) (c : Nat) (n : Nat) (w : World) (hl : 65536 < n) (hl2 : n ≤ 100000000) :
    Calls Tryd.prog 9 #[.slice a n c] w fun e w' => e = .returned (.tuple #[.slice none 0 0, code 15]) ∧ Below w.heap.size w w' := by
  go_enter Tryd.func9, Tryd.ntmps9
  go_wp2_with fail
  go_ret2
  exact ⟨rfl, Below.refl _ _⟩

set_option maxRecDepth 100000 in
set_option maxHeartbeats 1000000 in
theorem rPutF_any (a : Option Addr) (c : Nat) (p : List B8) (w : World) (hr : Rd w a p) (hl : p.length ≤ 1000000) :
    Calls Tryd.prog 12 #[.slice a p.length c] w (Gives w (fput p)) := by
  have Hr := hid hr
  have Ht := hid (vput_short (n := p.length) (by omega))
  clear hr
  go_enter Tryd.func12, Tryd.ntmps12
  go_wp2_with fail
  refine (rPut_any p.length _ (by omega)).mono ?_
  rintro e w1 ⟨a1, c1, rfl, own1, bel1⟩
  have Own1 := hid own1
  have Bel1 := hid bel1
  clear own1 bel1
  go_wp2_with fail
  refine (rSeal_any a c p _ (Hr.out.later Bel1.out) (by omega)).mono ?_
  rintro e w2 ⟨a2, c2, rfl, own2, bel2⟩
  have O1 := hid (Own1.out.later bel2)
  have R2 := hid own2.rd
  have Bel2 := hid (Bel1.out.trans (bel2.mono Bel1.out.size))
  clear own2 bel2 Own1 Bel1
  go_wp2_with (at_builtin; refine wpList_app rfl _ _ rfl w.heap.size _ _ (vput p.length) rfl O1.out _ _ (sealOf p) rfl R2.out ?k1 ?k2 ?_)
  case k1 => rw [sealOf_length]; have := Ht.out; omega
  case k2 => exact Bel2.out.size
  intro L2 a3 c3 w3 HN Own3 bel3
  have Bel3 := hid (Bel2.out.trans bel3.out)
  have HL := hid (show L2 = fput p from HN.out)
  clear bel3 HN O1 R2 Bel2
  go_wp2_with fail
  go_ret
  exact ⟨a3, c3, by rw [← HL.out]; rfl, by rw [← HL.out]; exact Own3.out, Bel3.out⟩
end Go.Proofs.YtgbgcfdniodfpaaDoor
