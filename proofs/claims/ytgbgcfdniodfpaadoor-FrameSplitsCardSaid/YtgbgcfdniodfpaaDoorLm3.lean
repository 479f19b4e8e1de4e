/- The walk of FrameLimits. -/
import Derived.Test.YtgbgcfdniodfpaaDoorLm2
import Derived.Deep.RegionLaw
namespace Go.Proofs.YtgbgcfdniodfpaaDoor
open Go.RowKit
set_option linter.unusedVariables false

def zs (n : Nat) : List B8 := List.replicate n 0#8
theorem zs_length (n : Nat) : (zs n).length = n := by simp [zs]
def zcells (n : Nat) : Array Value := madeCells (Value.int .u8 0).cells n
theorem zcells_list (n : Nat) : (zcells n).toList = (zs n).map bv8 := by
  apply List.ext_getElem
  · simp [zcells, zs, madeCells]
  · intro i h1 h2
    simp [zcells, zs, madeCells, Value.cells, Nat.mod_one]

theorem make_n (n : Nat) (hn : n ≤ 1000000) : ∀ w, (Instr.makeSlice 22 (.int .i64 n) (.int .i64 n)).run Tryd.prog w = .ok (.slice (some ⟨w.heap.size, 0, none⟩) n n) (w.alloc (.cells (zcells n) 5)) := fun w => by
  obtain ⟨i0, hi, hz0, hz1, hz2⟩ := info_parts A.infoB
  have h := run_make (P := Tryd.prog) w 22 5 i0 (.int .u8 0) Tryd.underlying22 hi hz0 .i64 .i64 n n (by omega) (Int.le_refl _) (by rw [hz2]; omega) (by omega)
  rw [hz1] at h
  simpa [zcells] using h

/-- append to a row of the call's own, as one step of a region that draws its order -/
theorem step_app {w : World} {ops : Array Oper} {o : Oper} {a : Act} {K : Act → World → Prop} {Q : Exit → Act → World → Prop} {E : Prop} (hgd : o.guard = none) (s x : Operand)
    (ho : o.op = .call { callee := .builtin .append, args := #[s, x], argTypes := #[22, 22] })
    (B : Nat) (ad : Option Addr) (c : Nat) (L : List B8) (hs : a.eval s = .slice ad L.length c) (HO : Own w B ad c L)
    (y : Addr) (cx : Nat) (M : List B8) (hx : a.eval x = .slice (some y) M.length cx) (hr : Rd w (some y) M) (hlen : L.length + M.length ≤ 100000000) (hB : B ≤ w.heap.size)
    (h : ∀ N a' c' w', Hid (N = L ++ M) → Hid (Own w' B a' c' N) → Hid (Below B w w') → K (a.put o.dst (.slice a' N.length c')) w') :
    if Region.wanted o (yielded ops a.tmps) = true then Oper.wp Tryd.prog o a w K Q else E := by
  have hw : Region.wanted o (yielded ops a.tmps) = true := by simp [Region.wanted, hgd]
  rw [if_pos hw]
  obtain ⟨i0, hi, hz0, hz1, hz2⟩ := info_parts A.infoB
  obtain ⟨v', w', hrun, hown, hgrow, _⟩ := run_append_own (P := Tryd.prog) w B 22 o.type 5 i0 (.int .u8 0) 1 1 Tryd.underlying22 hi hz0 hz1 hz2 rfl (by decide) _ _ _ HO y M.length cx (M.map bv8) (by simp) hr.cells (one_u8 M) (by unfold maxLen; omega) (by omega) hB
  obtain ⟨a', c', rfl, ho', bel'⟩ := app_out' HO (Below.refl _ _) hB hown hgrow rfl
  unfold Oper.wp
  simp [execOp, ho, resolve, invoke, builtin, hs, hx, hrun, Result.andThen]
  have := h _ a' c' w' (hid rfl) (hid ho') (hid bel')
  rw [List.length_append] at this
  exact this

theorem vput_len3 {n : Nat} (h : 16384 ≤ n) (h2 : n < 2097152) : (vput n).length = 3 := by
  rw [vput_big (by omega), vput_big (by omega), vput_small (by omega)]; rfl

theorem seal_ne (l : List B8) : sealOf l ≠ [] := by intro e; have := sealOf_length l; rw [e] at this; simp at this

theorem rd_big (p : List B8) (h : 65536 < p.length) (h2 : p.length ≤ 1000000) : rd (fput p) = .err 15 0 := by
  have hv := vnum_put p.length (sealOf p) (by have := vput_le (n := p.length) (k := 5) (by omega); omega)
  unfold rd
  rw [fput, hv]
  simp only [if_pos h]

theorem rd_same (p : List B8) (h : p.length ≤ 65536) : rd (fput p) = .ok p (fput p).length := by
  have := rd_put p [] h
  rwa [List.append_nil] at this

set_option maxRecDepth 100000 in
set_option maxHeartbeats 2000000 in
theorem limits_any (x : B8) (w : World) (he : Et w) :
    Calls Tryd.prog 5 #[bv8 x] w fun e w' => e = .returned (.bool true) ∧ Below w.heap.size w w' := by
  have HE := hid he
  have HA := hid (awake_any w he)
  clear he
  obtain ⟨n, hn⟩ : ∃ n : Nat, n = 65530 + x.toNat % 12 := ⟨_, rfl⟩
  have hi : (65530 + (x.toNat : Int) % 12) = (n : Int) := by omega
  have hx := x.isLt
  have hn1 : 65530 ≤ n ∧ n ≤ 65541 := by omega
  have Hi := hid hi
  have Hn := hid hn
  clear hi hn
  go_enter Tryd.func5, Tryd.ntmps5
  go_wp2_with fail
  refine HA.out.mono ?_
  rintro e w1 ⟨rfl, bel1⟩
  have Bel1 := hid bel1
  clear bel1 HA
  go_wp2_with fail
  rw [Hi.out]
  have hmk := make_n n (by omega)
  rw [hmk]
  have Rz := hid (fun (W : World) => (rd_new W (zcells n) 5 (fr := (0, 0)) (zs n) (zcells_list n)))
  have hzl := zs_length n
  have Hzl := hid hzl
  clear hzl
  by_cases hb : 65536 < n
  · go_wp2_with fail
    refine (Put_no _ n n _ hb (by omega)).mono ?_
    rintro e w2 ⟨rfl, bel2⟩
    have Bel2 := hid (Bel1.out.trans (((Below.refl _ w1).alloc (Nat.le_refl _) _).trans (bel2.mono (by simp)) |>.mono Bel1.out.size))
    clear bel2 Bel1
    go_wp2_with fail
    have HP := hid (fun (W : World) => show Calls Tryd.prog 16 #[.int .u64 (IntKind.u64.wrap (n : Int))] W (Gives W (vput n)) by
      rw [u64_wrap_id (n : Int) (by omega) (by omega)]
      exact rPut_any n W (by omega))
    have HSl := hid (fun (b : Nat) (W : World) (h : Rd W (some ⟨b, 0, none⟩) (zs n)) => by
      have := rSeal_any (some ⟨b, 0, none⟩) n (zs n) W h (by rw [Hzl.out]; omega)
      rw [Hzl.out] at this
      exact this)
    have HL := hid (fun (W : World) (L : List B8) (a : Option Addr) (c : Nat) (hL : L = vput n ++ sealOf (zs n)) (hO : Own W w2.heap.size a c L) (hB : Below w2.heap.size w2 W) => by
      have e : L = fput (zs n) := by rw [hL, fput, Hzl.out]
      have h6 := vput_short (n := n) (by omega)
      have := Read_any a c L W (HE.out.later (Bel2.out.trans (hB.mono Bel2.out.size))) hO.rd hO.cap (by rw [hL, List.length_append, sealOf_length, Hzl.out]; omega)
      rw [e, rd_big (zs n) (by rw [Hzl.out]; exact hb) (by rw [Hzl.out]; omega), ← e] at this
      exact this)
    go_region_law (first
      | (refine step_app rfl _ _ rfl w2.heap.size _ _ (vput n) rfl ?_ _ _ (sealOf (zs n)) rfl ?_ ?_ ?_ ?_
         · exact OA.out
         · exact RB.out
         · rw [sealOf_length, Hzl.out]; have := vput_short (n := n) (by omega); omega
         · exact BB.out.size
         intro L4 a4 c4 w4 HN4 Own4 bel4
         have BC := hid (BB.out.trans bel4.out)
         clear bel4)
      | (go_simp; go_at_call 16; refine (HP.out _).mono ?_
         rintro e wA ⟨aA, cA, rfl, ownA, belA⟩
         have BelA0 := hid belA
         have OA := hid (ownA.mono (show w2.heap.size ≤ _ by simp))
         have BA := hid (show Below w2.heap.size w2 wA from by
           first
             | exact ((Below.refl _ w2).drew).trans (belA.mono (by simp))
             | exact (((Below.refl _ w2).drew).alloc (by simp) _).trans (belA.mono (by simp)))
         clear ownA belA)
      | (go_simp; go_at_call 10; refine (HL.out _ _ _ _ HN4.out Own4.out BC.out).mono ?_
         rintro e wC ⟨rfl, belC⟩
         have BelC := hid (Bel2.out.trans ((BC.out.trans (belC.mono BC.out.size)).mono Bel2.out.size))
         clear belC)
      | (go_simp; go_at_call 17; refine (HSl.out _ _ ?_).mono ?_
         · first
             | exact Rz.out _
             | exact Rd.later (Rz.out w2.drew) BelA0.out
         rintro e wB ⟨aB, cB, rfl, ownB, belB⟩
         obtain ⟨gB, rfl, _⟩ := ownB.at (seal_ne _)
         have RB := hid ownB.rd
         have bAB : Below wA.heap.size wA wB := by
           first
             | exact belB
             | exact ((Below.refl _ wA).alloc (Nat.le_refl _) _).trans (belB.mono (by simp))
         have OA := hid (OA.out.later bAB)
         have BB := hid (BA.out.trans (bAB.mono BA.out.size))
         clear ownB belB bAB))
    all_goals
      have q15 := code_eql 15 15
      go_wp2_with fail
      refine (told_fault 15 0 _ (HE.out.later BelC.out) rfl).mono ?_
      rintro e wD ⟨rfl, belD⟩
      have BelD := hid (BelC.out.trans (belD.mono BelC.out.size))
      clear belD
      go_wp2_with fail
      go_ret
      exact ⟨rfl, BelD.out⟩
  · have HPut := hid (fun (W : World) (h : Rd W (some ⟨w1.heap.size, 0, none⟩) (zs n)) => by
      have := Put_ok (some ⟨w1.heap.size, 0, none⟩) n (zs n) W h (by rw [Hzl.out]; omega)
      rw [Hzl.out] at this
      exact this)
    have h3 : (vput n).length = 3 := vput_len3 (by omega) (by omega)
    have hfl : (fput (zs n)).length = n + 7 := by rw [fput_length, Hzl.out, h3]; omega
    have HSz := hid (fun (W : World) => by
      have := Size_any n W (by omega)
      rw [h3, show 3 + n + 4 = n + 7 by omega] at this
      exact this)
    have Hfl := hid hfl
    clear h3
    go_wp2_with fail
    refine (HPut.out _ (Rz.out _)).mono ?_
    rintro e w2 ⟨a2, c2, rfl, own2, bel2⟩
    have Bel2 := hid (Bel1.out.trans (((Below.refl _ w1).alloc (Nat.le_refl _) _).trans (bel2.mono (by simp)) |>.mono Bel1.out.size))
    clear bel2 Bel1 own2 HPut
    go_wp2_with fail
    have HP := hid (fun (W : World) => show Calls Tryd.prog 16 #[.int .u64 (IntKind.u64.wrap (n : Int))] W (Gives W (vput n)) by
      rw [u64_wrap_id (n : Int) (by omega) (by omega)]
      exact rPut_any n W (by omega))
    have HSl := hid (fun (b : Nat) (W : World) (h : Rd W (some ⟨b, 0, none⟩) (zs n)) => by
      have := rSeal_any (some ⟨b, 0, none⟩) n (zs n) W h (by rw [Hzl.out]; omega)
      rw [Hzl.out] at this
      exact this)
    have HL := hid (fun (W : World) (L : List B8) (a : Option Addr) (c : Nat) (hL : L = vput n ++ sealOf (zs n)) (hO : Own W w2.heap.size a c L) (hB : Below w2.heap.size w2 W) => by
      have e : L = fput (zs n) := by rw [hL, fput, Hzl.out]
      have h6 := vput_short (n := n) (by omega)
      have := Read_any a c L W (HE.out.later (Bel2.out.trans (hB.mono Bel2.out.size))) hO.rd hO.cap (by rw [hL, List.length_append, sealOf_length, Hzl.out]; omega)
      rw [e, rd_same (zs n) (by rw [Hzl.out]; omega), ← e] at this
      exact this)
    go_region_law (first
      | (refine step_app rfl _ _ rfl w2.heap.size _ _ (vput n) rfl ?_ _ _ (sealOf (zs n)) rfl ?_ ?_ ?_ ?_
         · exact OA.out
         · exact RB.out
         · rw [sealOf_length, Hzl.out]; have := vput_short (n := n) (by omega); omega
         · exact BB.out.size
         intro L4 a4 c4 w4 HN4 Own4 bel4
         have BC := hid (BB.out.trans bel4.out)
         clear bel4)
      | (go_simp; go_at_call 16; refine (HP.out _).mono ?_
         rintro e wA ⟨aA, cA, rfl, ownA, belA⟩
         have BelA0 := hid belA
         have OA := hid (ownA.mono (show w2.heap.size ≤ _ by simp))
         have BA := hid (show Below w2.heap.size w2 wA from by
           first
             | exact ((Below.refl _ w2).drew).trans (belA.mono (by simp))
             | exact (((Below.refl _ w2).drew).alloc (by simp) _).trans (belA.mono (by simp)))
         clear ownA belA)
      | (go_simp; go_at_call 10; refine (HL.out _ _ _ _ HN4.out Own4.out BC.out).mono ?_
         rintro e wC ⟨aC, cC, rfl, ownC, belC⟩
         have BelC := hid (Bel2.out.trans ((BC.out.trans (belC.mono BC.out.size)).mono Bel2.out.size))
         clear belC ownC)
      | (go_simp; go_at_call 17; refine (HSl.out _ _ ?_).mono ?_
         · first
             | exact Rz.out _
             | exact Rd.later (Rz.out w2.drew) BelA0.out
         rintro e wB ⟨aB, cB, rfl, ownB, belB⟩
         obtain ⟨gB, rfl, _⟩ := ownB.at (seal_ne _)
         have RB := hid ownB.rd
         have bAB : Below wA.heap.size wA wB := by
           first
             | exact belB
             | exact ((Below.refl _ wA).alloc (Nat.le_refl _) _).trans (belB.mono (by simp))
         have OA := hid (OA.out.later bAB)
         have BB := hid (BA.out.trans (bAB.mono BA.out.size))
         clear ownB belB bAB))
    all_goals
      go_wp2_with fail
      refine (HSz.out _).mono ?_
      rintro e wD ⟨rfl, belD⟩
      have BelD := hid (BelC.out.trans (belD.mono BelC.out.size))
      clear belD
      go_wp2_with fail
      go_ret
      exact ⟨rfl, BelD.out⟩
end Go.Proofs.YtgbgcfdniodfpaaDoor
