/- slices.Clone, slices.Equal at bytes; the reference's Same. -/
import Derived.Test.YtgbgcfdniodfpaaDoorBs
namespace Go.Proofs.YtgbgcfdniodfpaaDoor
open Go.RowKit
set_option linter.unusedVariables false

set_option maxRecDepth 100000 in
set_option maxHeartbeats 1000000 in
theorem Clone_any (a : Option Addr) (c : Nat) (l : List B8) (w : World) (hr : Rd w a l) (hl : l.length ≤ 4000000) :
    Calls Tryd.prog 40 #[.slice a l.length c] w (Gives w l) := by
  have q (w : World) (a : Option Addr) (n c n' c' : Nat) := Lib.run_eql_slice_nil (P := Tryd.prog) w 22 _ a n c n' c' Tryd.underlying22
  cases a with
  | none =>
    obtain rfl : l = [] := by rcases hr with h | ⟨b, off, ha, _⟩; exact h; cases ha
    go_enter Tryd.func40, Tryd.ntmps40
    go_wp2
    go_ret
    exact ⟨none, 0, rfl, own_nil _ _, Below.refl _ _⟩
  | some x =>
    obtain ⟨i0, hi, hz0, hz1, hz2⟩ := info_parts A.infoB
    have HR := hid (show Rd (w.alloc (.cells #[] 5)) (some x) l from hr.later ((Below.refl _ _).alloc (Nat.le_refl _) _))
    clear hr
    go_enter Tryd.func40, Tryd.ntmps40
    go_wp2_with (at_builtin; refine wpList_append_own _ rfl _ _ 22 rfl w.heap.size 5 i0 (.int .u8 0) 1 1 Tryd.underlying22 hi hz0 hz1 hz2 rfl (by decide) _ _ _ rfl (World.ownsRow_made w #[] 0 (Nat.le_refl _) (Nat.zero_le _) (by simp)) x l.length c (l.map bv8) rfl ?c1 ?c2 ?c3 ?c4 ?c5 ?c6 ?_)
    case c1 => simp
    case c2 => exact HR.out.cells
    case c3 => exact one_u8 l
    case c4 => unfold maxLen; omega
    case c5 => omega
    case c6 => simp
    intro v' w1 hown hgrow _
    obtain ⟨a', c', rfl, _, ho⟩ := own_of_row hown rfl
    go_wp2
    go_ret
    exact ⟨a', c', rfl, ho, ((Below.refl _ w).alloc (Nat.le_refl _) _).grown hgrow (by simp) (by intro k hk; simp [Value.ownBlock] at hk; omega)⟩

theorem take_same {l1 l2 : List B8} {k : Nat} (h1 : k < l1.length) (h2 : k < l2.length) (h : l1.take k = l2.take k) (he : l1[k] = l2[k]) : l1.take (k + 1) = l2.take (k + 1) := by
  rw [List.take_succ_eq_append_getElem h1, List.take_succ_eq_append_getElem h2, h, he]

set_option maxRecDepth 100000 in
set_option maxHeartbeats 1000000 in
theorem Equal_any (a1 a2 : Option Addr) (c1 c2 : Nat) (l1 l2 : List B8) (w : World) (r1 : Rd w a1 l1) (r2 : Rd w a2 l2) (hl1 : l1.length ≤ 4000000) (hl2 : l2.length ≤ 4000000) (r : Bool) (hr : r = decide (l1 = l2)) :
    Calls Tryd.prog 43 #[.slice a1 l1.length c1, .slice a2 l2.length c2] w fun e w' => e = .returned (.bool r) ∧ Below w.heap.size w w' := by
  have HR := hid hr; clear hr
  have R1 := hid r1; clear r1
  have R2 := hid r2; clear r2
  by_cases hn : l1.length = l2.length
  · have hne : ((l1.length : Int) != (l2.length : Int)) = false := by simp [hn]
    obtain ⟨n1, hm1⟩ : ∃ n, n = l1.length := ⟨_, rfl⟩
    obtain ⟨n2, hm2⟩ : ∃ n, n = l2.length := ⟨_, rfl⟩
    rw [← hm1, ← hm2] at hne
    rw [← hm1] at hl1 ⊢
    rw [← hm2] at hl2 ⊢
    have Hm1 := hid hm1
    have Hm2 := hid hm2
    have Hn := hid hn
    clear hn hm1 hm2
    go_enter Tryd.func43, Tryd.ntmps43
    go_wp2_with fail
    go_loopw [13] (fun i wr => (∃ k : Nat, k ≤ n1 ∧ i = .int .i64 k ∧ l1.take k = l2.take k) ∧ Below w.heap.size w wr) (fun i _ => n1 - (intOf i).toNat)
    case atStart => exact ⟨⟨0, by omega, rfl, rfl⟩, Below.refl _ _⟩
    case round =>
      obtain ⟨⟨k, hk, rfl, htk⟩, bel⟩ := hrel
      have Htk := hid htk; clear htk
      by_cases hlt : k < n1
      · have hk1 : k < l1.length := by have := Hm1.out; omega
        have hk2 : k < l2.length := by have := Hm1.out; have := Hn.out; omega
        have hlt2 : k < n2 := by have := Hm2.out; omega
        obtain ⟨b1, o1, rfl, hc1⟩ := (R1.out.later bel).gets (by intro e; rw [e] at hk1; simp at hk1)
        obtain ⟨b2, o2, rfl, hc2⟩ := (R2.out.later bel).gets (by intro e; rw [e] at hk2; simp at hk2)
        have h1 := hc1 k hk1
        have h2 := hc2 k hk2
        clear hc1 hc2
        obtain ⟨x, hx⟩ : ∃ x, x = l1[k] := ⟨_, rfl⟩
        obtain ⟨y, hy⟩ : ∃ y, y = l2[k] := ⟨_, rfl⟩
        rw [← hx] at h1
        rw [← hy] at h2
        have Hx := hid hx
        have Hy := hid hy
        clear hx hy
        have hp1 : ((k : Nat) : Int) < (n1 : Int) := by omega
        have hp2 : ((k : Nat) : Int) < (n2 : Int) := by omega
        by_cases hxy : x = y
        · have hb : ((x.toNat : Int) != (y.toNat : Int)) = false := by simp [hxy]
          have Hxy := hid hxy
          clear hxy
          go_wp2_with fail
          go_quiet (fail)
          go_wp2_with fail
          go_roundw
          case rel => exact ⟨⟨k + 1, by omega, by go_num, take_same hk1 hk2 Htk.out (by rw [← Hx.out, ← Hy.out]; exact Hxy.out)⟩, by first | exact bel | exact below_drewN bel _ | exact bel.drew⟩
          case measure => simp [intOf]; omega
        · have hb : ((x.toNat : Int) != (y.toNat : Int)) = true := by
            have : x.toNat ≠ y.toNat := fun e => hxy (BitVec.eq_of_toNat_eq e)
            simp; omega
          have Hxy := hid hxy
          clear hxy
          go_wp2_with fail
          go_quiet (fail)
          go_wp2_with fail
          go_ret
          refine ⟨?_, by first | exact bel | exact below_drewN bel _ | exact bel.drew⟩
          rw [HR.out, decide_eq_false (fun e : l1 = l2 => Hxy.out (by rw [Hx.out, Hy.out]; subst e; rfl))]
          rfl
      · obtain rfl : k = n1 := by omega
        go_wp2_with fail
        go_ret
        refine ⟨?_, bel⟩
        have e : l1 = l2 := by
          have := Htk.out
          rwa [Hm1.out, List.take_length, Hn.out, List.take_length] at this
        rw [HR.out, decide_eq_true e]
        rfl
  · have hne : ((l1.length : Int) != (l2.length : Int)) = true := by simp; omega
    have Hn := hid hn
    clear hn
    go_enter Tryd.func43, Tryd.ntmps43
    go_wp2_with fail
    go_ret
    refine ⟨?_, Below.refl _ _⟩
    rw [HR.out, decide_eq_false (fun e : l1 = l2 => Hn.out (by rw [e]))]
    rfl

set_option maxRecDepth 100000 in
set_option maxHeartbeats 1000000 in
theorem Same_any (a1 a2 : Option Addr) (c1 c2 : Nat) (l1 l2 : List B8) (w : World) (r1 : Rd w a1 l1) (r2 : Rd w a2 l2) (hl1 : l1.length ≤ 4000000) (hl2 : l2.length ≤ 4000000) (r : Bool) (hr : r = decide (l1 = l2)) :
    Calls Tryd.prog 11 #[.slice a1 l1.length c1, .slice a2 l2.length c2] w fun e w' => e = .returned (.bool r) ∧ Below w.heap.size w w' := by
  have HR := hid hr; clear hr
  have R1 := hid r1; clear r1
  have R2 := hid r2; clear r2
  by_cases hn : l1.length = l2.length
  · have hne : ((l1.length : Int) != (l2.length : Int)) = false := by simp [hn]
    obtain ⟨n1, hm1⟩ : ∃ n, n = l1.length := ⟨_, rfl⟩
    obtain ⟨n2, hm2⟩ : ∃ n, n = l2.length := ⟨_, rfl⟩
    rw [← hm1, ← hm2] at hne
    rw [← hm1] at hl1 ⊢
    rw [← hm2] at hl2 ⊢
    have Hm1 := hid hm1
    have Hm2 := hid hm2
    have Hn := hid hn
    clear hn hm1 hm2
    go_enter Tryd.func11, Tryd.ntmps11
    go_wp2_with fail
    go_loopw [5] (fun i wr => (∃ k : Nat, k ≤ n1 ∧ i = .int .i64 k ∧ l1.take k = l2.take k) ∧ Below w.heap.size w wr) (fun i _ => n1 - (intOf i).toNat)
    case atStart => exact ⟨⟨0, by omega, rfl, rfl⟩, Below.refl _ _⟩
    case round =>
      obtain ⟨⟨k, hk, rfl, htk⟩, bel⟩ := hrel
      have Htk := hid htk; clear htk
      by_cases hlt : k < n1
      · have hk1 : k < l1.length := by have := Hm1.out; omega
        have hk2 : k < l2.length := by have := Hm1.out; have := Hn.out; omega
        have hlt2 : k < n2 := by have := Hm2.out; omega
        obtain ⟨b1, o1, rfl, hc1⟩ := (R1.out.later bel).gets (by intro e; rw [e] at hk1; simp at hk1)
        obtain ⟨b2, o2, rfl, hc2⟩ := (R2.out.later bel).gets (by intro e; rw [e] at hk2; simp at hk2)
        have h1 := hc1 k hk1
        have h2 := hc2 k hk2
        clear hc1 hc2
        obtain ⟨x, hx⟩ : ∃ x, x = l1[k] := ⟨_, rfl⟩
        obtain ⟨y, hy⟩ : ∃ y, y = l2[k] := ⟨_, rfl⟩
        rw [← hx] at h1
        rw [← hy] at h2
        have Hx := hid hx
        have Hy := hid hy
        clear hx hy
        have hp1 : ((k : Nat) : Int) < (n1 : Int) := by omega
        have hp2 : ((k : Nat) : Int) < (n2 : Int) := by omega
        by_cases hxy : x = y
        · have hb : ((x.toNat : Int) != (y.toNat : Int)) = false := by simp [hxy]
          have Hxy := hid hxy
          clear hxy
          go_wp2_with fail
          go_quiet (fail)
          go_wp2_with fail
          go_roundw
          case rel => exact ⟨⟨k + 1, by omega, by go_num, take_same hk1 hk2 Htk.out (by rw [← Hx.out, ← Hy.out]; exact Hxy.out)⟩, by first | exact bel | exact below_drewN bel _ | exact bel.drew⟩
          case measure => simp [intOf]; omega
        · have hb : ((x.toNat : Int) != (y.toNat : Int)) = true := by
            have : x.toNat ≠ y.toNat := fun e => hxy (BitVec.eq_of_toNat_eq e)
            simp; omega
          have Hxy := hid hxy
          clear hxy
          go_wp2_with fail
          go_quiet (fail)
          go_wp2_with fail
          go_ret
          refine ⟨?_, by first | exact bel | exact below_drewN bel _ | exact bel.drew⟩
          rw [HR.out, decide_eq_false (fun e : l1 = l2 => Hxy.out (by rw [Hx.out, Hy.out]; subst e; rfl))]
          rfl
      · obtain rfl : k = n1 := by omega
        go_wp2_with fail
        go_ret
        refine ⟨?_, bel⟩
        have e : l1 = l2 := by
          have := Htk.out
          rwa [Hm1.out, List.take_length, Hn.out, List.take_length] at this
        rw [HR.out, decide_eq_true e]
        rfl
  · have hne : ((l1.length : Int) != (l2.length : Int)) = true := by simp; omega
    have Hn := hid hn
    clear hn
    go_enter Tryd.func11, Tryd.ntmps11
    go_wp2_with fail
    go_ret
    refine ⟨?_, Below.refl _ _⟩
    rw [HR.out, decide_eq_false (fun e : l1 = l2 => Hn.out (by rw [e]))]
    rfl

end Go.Proofs.YtgbgcfdniodfpaaDoor
