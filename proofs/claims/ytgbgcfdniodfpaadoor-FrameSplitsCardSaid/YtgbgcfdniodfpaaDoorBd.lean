/- The body of the range statement of FrameSplits: one round. -/
import Derived.Test.YtgbgcfdniodfpaaDoorSe
import Derived.RangeFuncNested
import Derived.RangeFuncBox
import Derived.RangeFuncBound
import Derived.RangeFuncCalls
import Derived.RangeFuncLeaves
import Derived.Shelf.Abstract
import Derived.Shelf.RegionOpen
import Derived.OwnWalkIn
import Derived.TacticsInMore
import Derived.LoopNIn
import Derived.LoopIn
import Derived.Scope
namespace Go.Proofs.YtgbgcfdniodfpaaDoor
open Go.RowKit
set_option linter.unusedVariables false
attribute [local go_sem] Oper.semAt_some

/-- the code at a place -/
def inCode : List Nat → Code → Option Code
  | [], c => some c
  | 0 :: l, .seq c _ => inCode l c
  | 1 :: l, .seq _ c => inCode l c
  | 0 :: l, .block _ c => inCode l c
  | 0 :: l, .loop c => inCode l c
  | 0 :: l, .rangeFunc _ _ c _ => inCode l c
  | 1 :: l, .rangeFunc _ _ _ c => inCode l c
  | _, _ => none

/-- a slice at address a reads as the places ss -/
def RdN (w : World) (a : Option Addr) (ss : List Nat) : Prop :=
  ss = [] ∨ ∃ b off, a = some ⟨b, off, none⟩ ∧ ∀ j (h : j < ss.length), w.cell? ⟨b, off + j, none⟩ = some (.int .i64 (ss[j] : Int))

theorem RdN.later {w w' : World} {a : Option Addr} {ss : List Nat} (h : RdN w a ss) (hb : Below w.heap.size w w') : RdN w' a ss := by
  rcases h with h | ⟨b, off, ha, hc⟩
  · exact .inl h
  · exact .inr ⟨b, off, ha, fun j hj => cell_later hb (hc j hj)⟩

theorem keeps_below {W W' : World} (h : Below W.heap.size W W') : KeepsOthers W W' :=
  ⟨h.size, fun k o hk _ => (h.block k (Array.getElem?_eq_some_iff.1 hk).1).trans hk⟩

set_option maxRecDepth 100000 in
set_option maxHeartbeats 4000000 in
theorem body_frames {C : Code} (hC : Tryd.f7.body.bind (inCode [1,1,1,1,1,1,1,0,1,0,0,1,0,0,1,0,1,0,1]) = some C) (l : Nat) (kk Bk Br B7 B9 Bn pass i k : Nat) (a a1 a2 : Option Addr) (c c1 c2 : Nat) (q : List B8) (ps : List Part) (ss : List Nat) (v2 v3 : Value) (W : World)
    {x0 x1 x2 x5 x6 x8 x13 x14 x15 x16 x17 x18 x19 x20 x21 x22 x23 x24 x25 x26 x27 x28 x29 x30 x31 x32 x33 x34 x35 x36 x37 x38 x39 x40 x41 x42 x43 x44 x45 x46 x47 x48 x49 x50 x51 x52 x53 x54 x55 x56 x57 x58 x59 x60 x61 x62 x63 x64 x65 x66 x67 x68 x69 x70 x71 x72 x73 x74 x75 x76 x77 x78 x79 x80 x81 x82 x83 x84 x85 x86 x87 x88 x89 x90 x91 x92 x93 x94 x95 x96 x97 x98 x99 x100 x101 x102 x103 x104 x105 x106 x107 x108 x109 x110 x111 : Value}
    (hkk : kk ≤ 255) (hi : i < ps.length) (hi2 : i < ss.length) (hlen : ss.length = ps.length) (hl : ss.length ≤ 1000000)
    (H7 : W.heap[B7]? = some (.cells #[.slice a1 ps.length c1, .slice a2 ss.length c2, v2, v3] 51 (0, 0)))
    (Hn : W.heap[Bn]? = some (.cells #[.int .i64 (i : Int)] 3 (0, 0))) (H9 : W.heap[B9]? = some (.cells #[.int .i64 (pass : Int)] 3 (0, 0))) (Hk : W.heap[Bk]? = some (.cells #[.int .u8 kk] 5 (0, 0)))
    (hne : B9 ≠ Bn) (hkn : Bk ≠ Bn) (R1 : Rds W a1 ps) (R2 : RdN W a2 ss) (RQ : Rd W a q) (hq : q.length ≤ 4000000) (hpi : ps[i].bs = q) (hsi : ss[i] = k)
    (Q : Exit → Act → World → Prop)
    (hn : ∀ a3 W3, KeepsOthers W W3 → Below Bn W W3 → W3.heap[Bn]? = some (.cells #[.int .i64 ((i + 1 : Nat) : Int)] 3 (0, 0)) → Q .normal a3 W3)
    (hx : pass = 0 → ∀ a3 W3, KeepsOthers W W3 → Below Bn W W3 → Q (.exit 2) a3 W3) :
    C.wpIn (Fence.wide.inRound l) 2 Tryd.prog Q
      { tmps := #[x0, x1, x2, .pointer (some ⟨Bk, 0, none⟩), .pointer (some ⟨Br, 0, none⟩), x5, x6, .pointer (some ⟨B7, 0, none⟩), x8, .pointer (some ⟨B9, 0, none⟩), .pointer (some ⟨Bn, 0, none⟩), .int .i64 k, .slice a q.length c, x13, x14, x15, x16, x17, x18, x19, x20, x21, x22, x23, x24, x25, x26, x27, x28, x29, x30, x31, x32, x33, x34, x35, x36, x37, x38, x39, x40, x41, x42, x43, x44, x45, x46, x47, x48, x49, x50, x51, x52, x53, x54, x55, x56, x57, x58, x59, x60, x61, x62, x63, x64, x65, x66, x67, x68, x69, x70, x71, x72, x73, x74, x75, x76, x77, x78, x79, x80, x81, x82, x83, x84, x85, x86, x87, x88, x89, x90, x91, x92, x93, x94, x95, x96, x97, x98, x99, x100, x101, x102, x103, x104, x105, x106, x107, x108, x109, x110, x111], defers := [] } W := by
  cases hC
  have HQ := hid hn
  have HX := hid hx
  have hB : Bn < W.heap.size := (Array.getElem?_eq_some_iff.1 Hn).1
  have H7' := hid H7
  have Hn' := hid Hn
  have H9' := hid H9
  have Hk' := hid Hk
  obtain ⟨b1, o1, rfl, hc1⟩ := R1.gets (by intro e; rw [e] at hi; simp at hi)
  have g1 := hc1 i hi
  have p1 := R1.2 ps[i] (List.getElem_mem hi)
  obtain ⟨b2, o2, rfl, hc2⟩ := R2.resolve_left (by intro e; rw [e] at hi2; simp at hi2)
  have g2 := hc2 i hi2
  rw [hsi] at g2
  clear hn hx H7 Hn H9 Hk R1 R2 hc1 hc2 hsi
  generalize ps[i] = x at *
  obtain ⟨xa, xc, xl⟩ := x
  simp only at hpi
  subst hpi
  change _ = some (Value.slice xa xl.length xc) at g1
  have P1 := hid p1
  have RQ := hid RQ
  have k0 : W.cell? ⟨B7, 0, none⟩ = some (.slice (some ⟨b1, o1, none⟩) ps.length c1) := by rw [cell_of_row _ _ _ _ _ _ H7'.out]; rfl
  have k1 : W.cell? ⟨B7, 1, none⟩ = some (.slice (some ⟨b2, o2, none⟩) ss.length c2) := by rw [cell_of_row _ _ _ _ _ _ H7'.out]; rfl
  have kn : W.cell? ⟨Bn, 0, none⟩ = some (.int .i64 (i : Int)) := by rw [cell_of_row _ _ _ _ _ _ Hn'.out]; rfl
  have hp1 : ((i : Nat) : Int) < (ss.length : Int) := by omega
  have hp2 : ((i : Nat) : Int) < (ps.length : Int) := by omega
  have hp0 : (0 : Int) ≤ (i : Int) := by omega
  clear p1
  gi_wp2
  refine ⟨trivial, (CallsIn.inRound l (callsIn_wide.2 (Same_any a xa c xc xl xl W RQ.out P1.out.1 hq P1.out.2 true (by simp)))).mono ?_⟩
  rintro e w1 ⟨rfl, bel1⟩
  have Kp := hid (keeps_below bel1)
  have Bel := hid ((show Below Bn W w1 from bel1.mono (by omega)))
  have Hn1 := hid (heap_later Hn'.out bel1)
  have H91 := hid (heap_later H9'.out bel1)
  have Hk1 := hid (heap_later Hk'.out bel1)
  clear bel1 g1 g2 k0 k1 kn RQ P1 hp1 hp2 hp0 H7' Hn' H9' Hk' hlen
  have kn : w1.cell? ⟨Bn, 0, none⟩ = some (.int .i64 (i : Int)) := by rw [cell_of_row _ _ _ _ _ _ Hn1.out]; rfl
  have fn : w1.frozen? ⟨Bn, 0, none⟩ = false := frozen_of_row _ _ 0 _ _ Hn1.out
  have k9 : w1.cell? ⟨B9, 0, none⟩ = some (.int .i64 (pass : Int)) := by rw [cell_of_row _ _ _ _ _ _ H91.out]; rfl
  have kk8 : w1.cell? ⟨Bk, 0, none⟩ = some (.int .u8 kk) := by rw [cell_of_row _ _ _ _ _ _ Hk1.out]; rfl
  have hib : i ≤ 1000000 := by omega
  clear hl
  have fin : KeepsOthers W (w1.setCell ⟨Bn, 0, none⟩ (.int .i64 ((i : Int) + 1))) ∧ Below Bn W (w1.setCell ⟨Bn, 0, none⟩ (.int .i64 ((i : Int) + 1))) :=
    ⟨Kp.out.trans (KeepsOthers.setCell _ _ _), Bel.out.setCell (p := ⟨Bn, 0, none⟩) (Nat.le_refl _) _⟩
  have new : (w1.setCell ⟨Bn, 0, none⟩ (.int .i64 ((i : Int) + 1))).heap[Bn]? = some (.cells #[.int .i64 ((i + 1 : Nat) : Int)] 3 (0, 0)) := by
    rw [show (((i + 1 : Nat) : Nat) : Int) = (i : Int) + 1 by omega]
    exact Boxed.set _ Hn1.out
  have Fin := hid fin
  have New := hid new
  clear fin new
  by_cases hps : pass = 0
  · subst hps
    gi_wp2
    · exact HX.out trivial _ _ Fin.out.1 Fin.out.2
    · exact HQ.out _ _ Fin.out.1 Fin.out.2 New.out
  · have hpp : ((pass : Int) == 0) = false := by simp; omega
    gi_wp2
    exact HQ.out _ _ Fin.out.1 Fin.out.2 New.out
end Go.Proofs.YtgbgcfdniodfpaaDoor
