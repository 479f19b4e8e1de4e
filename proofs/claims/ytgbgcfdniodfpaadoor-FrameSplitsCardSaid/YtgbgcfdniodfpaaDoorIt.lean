/- The iterator of frame.All. -/
import Derived.Test.YtgbgcfdniodfpaaDoorSm
import Derived.RangeFuncNested
import Derived.RangeFuncBound
import Derived.RangeFuncCalls
import Derived.RangeFuncLeaves
import Derived.Shelf.Abstract
import Derived.Shelf.RegionOpen
import Derived.OwnWalkIn
import Derived.TacticsInMore
import Derived.LoopNIn
import Derived.LoopIn
import Derived.Scope
namespace Go.Proofs.YtgbgcfdniodfpaaDoor
open Go.RowKit
set_option linter.unusedVariables false
attribute [local go_sem] Oper.semAt_some

theorem Et.under {w w' : World} {n₀ : Nat} (h : Et w) (hb : Below n₀ w w') (h0 : 0 < n₀) : Et w' := by
  unfold Et at h ⊢
  rw [hb.cell (p := ⟨0, 0, none⟩) h0]; exact h

set_option maxRecDepth 100000 in
set_option maxHeartbeats 4000000 in
/-- the closure that frame.All hands back, whatever the body does: J k: the frames ahead of place k have come -/
theorem All1_in (l : Nat) (Bs n₀ : Nat) (b : List B8) (a : Option Addr) (c : Nat) (hc : b.length ≤ c) (hl : b.length ≤ 2000) (ha : b ≠ [] → ∀ x, a = some x → x.block < n₀) (hBs : Bs < n₀) (J : Nat → World → Prop) (Jx : World → Prop)
    (hJ : ∀ k W W', J k W → Below W.heap.size W W' → J k W')
    (hJn : ∀ k W, J k W → n₀ ≤ W.heap.size)
    (hY : ∀ k p u a' c' W, k < b.length → rd (b.drop k) = .ok p u → J k W → Rd W a' p → p.length ≤ c' → YieldAt Fence.wide 2 Tryd.prog l #[.int .i64 (k : Int), .slice a' p.length c'] W fun e W' =>
      (e = .returned (.bool true) ∧ J (k + u) W' ∧ Below n₀ W W') ∨ (e = .returned (.bool false) ∧ Jx W'))
    (W : World) (he : Et W) (hb : W.cell? ⟨Bs, 0, none⟩ = some (.slice a b.length c)) (hr : Rd W a b) (h0 : J 0 W) :
    CallsIn Fence.wide 3 Tryd.prog 38 #[.func (.yield l) #[] #[], .pointer (some ⟨Bs, 0, none⟩)] W fun e W' => (∃ v, e = .returned v) ∧ ((∃ k, k ≤ b.length ∧ (fr b k).1 = [] ∧ J k W') ∨ Jx W') := by
  have HE := hid he
  have HR := hid hr
  have HJ := hid hJ
  have HJn := hid hJn
  have HY := hid hY
  have Hb := hid hb
  have Ha := hid ha
  clear he hr hJ hJn hY hb ha
  refine callsIn_of_wp Tryd.func38 rfl trivial ?_ rfl
  simp only [Tryd.ntmps38, List.size_toArray, List.length_cons, List.length_nil, Nat.reduceAdd, Nat.reduceSub, Array.replicate_succ, Array.replicate_zero, List.push_toArray, List.append_toArray, List.nil_append, List.cons_append]
  gi_wp2
  refine wpIn_wide.2 (wp_scope_straight ((wpIn_wide (n := 3)).1 ?_))
  refine wpIn_seq (wpIn_label ?_)
  simp only [Exit.then]
  gi_wp2
  gi_loopw [3] (fun i wr => ∃ k : Nat, k ≤ b.length ∧ i = .int .i64 k ∧ Hid (J k wr) ∧ Hid (Below n₀ W wr)) (fun i _ => b.length - (intOf i).toNat)
  case atStart => exact ⟨0, Nat.zero_le _, rfl, hid h0, hid (Below.refl _ _)⟩
  case round =>
    obtain ⟨k, hk, rfl, HJk, HB⟩ := hrel
    have hcx : wr.cell? ⟨Bs, 0, none⟩ = some (.slice a b.length c) := (HB.out.cell (p := ⟨Bs, 0, none⟩) hBs).trans Hb.out
    have HRr := hid (show Rd wr a b from (Classical.em (b = [])).elim .inl fun h0 => HR.out.under HB.out (Ha.out h0))
    by_cases hlt : k < b.length
    · obtain ⟨bb, off, rfl, _⟩ := HR.out.gets (by intro e; rw [e] at hlt; simp at hlt)
      have hdl : (b.drop k).length = b.length - k := by simp
      have HRk := hid (callsIn_wide (n := 2).2 (Read_any (some ⟨bb, off + k, none⟩) (c - k) (b.drop k) wr (HE.out.under HB.out (by omega)) (HRr.out.drop k) (by omega) (by omega)))
      rw [hdl] at HRk
      obtain ⟨r, hr⟩ : ∃ r, r = rd (b.drop k) := ⟨_, rfl⟩
      rw [← hr] at HRk
      have Hr := hid hr.symm
      clear hdl hr
      rcases r with ⟨n, o⟩ | ⟨p, u⟩
      · have HX := hid (fr_err hlt Hr.out)
        gi_wp2
        refine ⟨trivial, HRk.out.mono ?_⟩
        rintro e w2 ⟨rfl, bel2⟩
        have HJ2 := hid (HJ.out _ _ _ HJk.out bel2)
        clear bel2
        gi_wp2
        simp only [Exit.noGoto]
        go_end0
        exact ⟨⟨_, rfl⟩, .inl ⟨k, hk, by rw [HX.out], HJ2.out⟩⟩
      · have hu := (rd_ok Hr.out).2.1
        have hk2 : k + u ≤ b.length := by simp at hu; omega
        have hu0 := (rd_ok Hr.out).2.2.1
        clear hu
        gi_wp2
        refine ⟨trivial, HRk.out.mono ?_⟩
        rintro e w2 ⟨a2, c2, rfl, own2, bel2⟩
        have HJ2 := hid (HJ.out _ _ _ HJk.out bel2)
        have HB2 := hid (HB.out.trans (bel2.mono (HJn.out _ _ HJk.out)))
        obtain ⟨fn, tmps, assign, body, hy, hR⟩ := HY.out k p u a2 c2 w2 hlt Hr.out HJ2.out own2.rd own2.cap
        clear own2 bel2
        gi_wp2
        refine hR.mono ?_
        rintro e W3 (⟨rfl, hJ3, hk3⟩ | ⟨rfl, hJx3⟩)
        · have HJ3 := hid hJ3
          have HB3 := hid (HB2.out.trans hk3)
          clear hJ3 hk3
          gi_wp2
          go_roundw
          case rel => exact ⟨k + u, hk2, by go_num, HJ3, HB3⟩
          case measure => simp [intOf]; omega
        · have HJx3 := hid hJx3
          clear hJx3
          gi_wp2
          simp only [Exit.noGoto]
          go_end0
          exact ⟨⟨_, rfl⟩, .inr HJx3.out⟩
    · gi_wp2
      simp only [Exit.noGoto]
      go_end0
      exact ⟨⟨_, rfl⟩, .inl ⟨k, hk, by rw [fr_end hlt], HJk.out⟩⟩
end Go.Proofs.YtgbgcfdniodfpaaDoor
