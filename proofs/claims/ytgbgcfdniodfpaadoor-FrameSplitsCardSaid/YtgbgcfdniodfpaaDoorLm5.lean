/- The walk of FrameSplits. -/
import Derived.Test.YtgbgcfdniodfpaaDoorTl
namespace Go.Proofs.YtgbgcfdniodfpaaDoor
open Go.RowKit
set_option linter.unusedVariables false
attribute [local go_sem] Oper.semAt_some

theorem OwnI.rdN {w : World} {B : Nat} {a : Option Addr} {c : Nat} {ss : List Nat} (h : OwnI w B a c ss) : RdN w a ss := by
  rcases h.2 with ⟨_, h2⟩ | ⟨g, cap, cur, hv, hg, hh, hle, hm, hs, ht⟩
  · exact .inl (List.eq_nil_of_length_eq_zero h2)
  · obtain ⟨rfl, rfl⟩ : a = some ⟨g, 0, none⟩ ∧ c = cap := by simpa using hv
    refine .inr ⟨g, 0, rfl, fun j hj => ?_⟩
    rw [cell_of_row w g (0 + j) cur _ (0, 0) hh, Nat.zero_add]
    have h1 : (cur.toList.take (ss.length * 1))[j]? = (ss.map iv)[j]? := by rw [ht]
    rw [List.getElem?_take, if_pos (by omega), List.getElem?_map, List.getElem?_eq_getElem hj] at h1
    simpa using h1

set_option maxRecDepth 100000 in
set_option maxHeartbeats 4000000 in
theorem splits_any (a : Option Addr) (c : Nat) (b : List B8) (kk : Nat) (w : World) (he : Et w) (hr : Rd w a b) (hc : b.length ≤ c) (hl : b.length ≤ 9223372036854775807) (hkk : kk ≤ 255) :
    Calls Tryd.prog 7 #[.slice a b.length c, .int .u8 kk] w fun e w' => e = .returned (.bool true) ∧ Below w.heap.size w w' := by
  have HE := hid he
  have HR := hid hr
  clear he hr
  refine (callsIn_wide (n := 4)).1 ?_
  refine callsIn_of_wp_marks Tryd.func7 rfl trivial ?_ rfl
  simp only [Tryd.ntmps7, List.size_toArray, List.length_cons, List.length_nil, Nat.reduceAdd, Nat.reduceSub, Array.replicate_succ, Array.replicate_zero, List.push_toArray, List.append_toArray, List.nil_append, List.cons_append]
  gi_wp2
  have hst : Below w.heap.size w ((w.alloc (.cells #[.int .u8 kk] 5)).alloc (.cells #[.bool false] 4)) := ((Below.refl _ w).alloc (Nat.le_refl _) _).alloc (by simp) _
  have hg2 := heap_alloc_new (w.alloc (.cells #[.int .u8 kk] 5)) (.cells #[.bool false] 4)
  rw [World.size_alloc] at hg2
  have hg1 : ((w.alloc (.cells #[.int .u8 kk] 5)).alloc (.cells #[.bool false] 4)).heap[w.heap.size]? = some (.cells #[.int .u8 kk] 5) :=
    (Below.heap_alloc _ _ _ (by simp)).trans (heap_alloc_new w _)
  obtain ⟨Br, hBr⟩ : ∃ Br, Br = w.heap.size + 1 := ⟨_, rfl⟩
  rw [← hBr] at hg2 ⊢
  have hBk : w.heap.size ≤ Br := by omega
  obtain ⟨W0, hW0⟩ : ∃ W0, W0 = (w.alloc (.cells #[.int .u8 kk] 5)).alloc (.cells #[.bool false] 4) := ⟨_, rfl⟩
  rw [← hW0] at hst hg1 hg2 ⊢
  have Hst := hid hst
  have Hk0 := hid hg1
  have Hr0 := hid hg2
  clear hst hg1 hg2 hW0 hBr
  refine ⟨trivial, (callsIn_wide.2 (awake_any W0 (HE.out.later Hst.out))).mono ?_⟩
  rintro e w1 ⟨rfl, bel1⟩
  have Bel1 := hid (Hst.out.trans (bel1.mono Hst.out.size))
  have Hk1 := hid (heap_later Hk0.out bel1)
  have Hr1 := hid (heap_later Hr0.out bel1)
  clear bel1 Hst Hk0 Hr0
  by_cases hlen : b.length ≤ 2000
  · cases hE : (fr b 0).2 with
    | none =>
      gi_wp2
      refine ⟨trivial, (callsIn_wide.2 (Split_any a c b w1 (HE.out.later Bel1.out) (HR.out.later Bel1.out) hc hlen)).mono ?_⟩
      rintro e w2 he2
      unfold SplitEnd at he2
      rw [hE] at he2
      obtain ⟨a3, c3, ps3, rfl, ownP3, hP3, hps3, bel2⟩ := he2
      have Bel2 := hid (Bel1.out.trans (bel2.mono Bel1.out.size))
      have Hk2 := hid (heap_later Hk1.out bel2)
      have Hr2 := hid (heap_later Hr1.out bel2)
      have RP2 := hid (ownP3.rds (B' := 0) fun p hp => ⟨(hP3 p hp).1.rd, Nat.le_trans (hP3 p hp).2 (by omega)⟩)
      have HM3 := hid hps3
      have hlps3 : ps3.length ≤ 2000 := by
        have h1 := congrArg List.length hps3
        have h2 := fr_len b 0 (Nat.zero_le _)
        simp at h1; omega
      clear bel2 ownP3 hP3 hps3
      gi_wp2
      refine ⟨trivial, (callsIn_wide.2 (rSplit_any a c b w2 (HR.out.later Bel2.out) hc hlen)).mono ?_⟩
      rintro e w3 ⟨a1, c1, ps, a2, c2, ss, n, o, rfl, OP, OI, HP, hm1, hm2, hno, bel3⟩
      rw [hE] at hno
      obtain ⟨rfl, rfl⟩ := hno
      have Bel3 := hid (Bel2.out.trans (bel3.mono Bel2.out.size))
      have Hk3 := hid (heap_later Hk2.out bel3)
      have Hr3 := hid (heap_later Hr2.out bel3)
      have RP3 := hid (RP2.out.later bel3)
      have RQ3 := hid (OP.rds (B' := 0) fun p hp => ⟨(HP p hp).1.later bel3, Nat.le_trans (HP p hp).2.2 (by omega)⟩)
      have HM1 := hid hm1
      have HM2 := hid hm2
      have HPP := hid HP
      have HOI := hid OI.rdN
      clear hm1 hm2 HP OI OP bel3
      gi_wp2
      obtain ⟨B7, hB7⟩ : ∃ B7, B7 = w3.heap.size := ⟨_, rfl⟩
      have hal : Below w3.heap.size w3 (w3.alloc (.cells #[.slice a1 ps.length c1, .slice a2 ss.length c2, .int .i64 0, .int .i64 0] 51)) := (Below.refl _ _).alloc (Nat.le_refl _) _
      have h7 := heap_alloc_new w3 (.cells #[.slice a1 ps.length c1, .slice a2 ss.length c2, .int .i64 0, .int .i64 0] 51)
      rw [← hB7] at h7 ⊢
      obtain ⟨W4, hW4⟩ : ∃ W4, W4 = w3.alloc (.cells #[.slice a1 ps.length c1, .slice a2 ss.length c2, .int .i64 0, .int .i64 0] 51) := ⟨_, rfl⟩
      rw [← hW4] at hal h7 ⊢
      have H7ge := hid (show w.heap.size ≤ B7 by rw [hB7]; exact Bel3.out.size)
      clear hW4 hB7
      refine ⟨trivial, (callsIn_wide.2 (told_nil 0 W4)).mono ?_⟩
      rintro e w5 ⟨rfl, bel5⟩
      have b35 := hal.trans (bel5.mono hal.size)
      have Bel5 := hid (Bel3.out.trans (b35.mono Bel3.out.size))
      have Hk5 := hid (heap_later Hk3.out b35)
      have Hr5 := hid (heap_later Hr3.out b35)
      have RP5 := hid (RP3.out.later b35)
      have RQ5 := hid (RQ3.out.later b35)
      have HOI5 := hid (HOI.out.later b35)
      have H75 := hid (heap_later h7 bel5)
      clear hal h7 bel5 b35 Bel3 Hk3 Hr3 RP3 RQ3 HOI
      have k0 : w5.cell? ⟨B7, 0, none⟩ = some (.slice a1 ps.length c1) := by rw [cell_of_row _ _ _ _ _ _ H75.out]; rfl
      have k2 : w5.cell? ⟨B7, 2, none⟩ = some (.int .i64 0) := by rw [cell_of_row _ _ _ _ _ _ H75.out]; rfl
      gi_wp2
      refine ⟨trivial, (callsIn_wide.2 (rSame_yes a3 a1 c3 c1 ps3 ps w5 RP5.out RQ5.out (by omega) (by rw [HM3.out, HM1.out]))).mono ?_⟩
      rintro e w6 ⟨rfl, bel6⟩
      have Bel6 := hid (Bel5.out.trans (bel6.mono Bel5.out.size))
      have Hk6 := hid (heap_later Hk5.out bel6)
      have Hr6 := hid (heap_later Hr5.out bel6)
      have RQ6 := hid (RQ5.out.later bel6)
      have HOI6 := hid (HOI5.out.later bel6)
      have H76 := hid (heap_later H75.out bel6)
      clear bel6 Bel5 Hk5 Hr5 RP5 RQ5 HOI5 H75 k0 k2
      have k2 : w6.cell? ⟨B7, 2, none⟩ = some (.int .i64 0) := by rw [cell_of_row _ _ _ _ _ _ H76.out]; rfl
      gi_wp2
      refine ⟨trivial, (callsIn_wide.2 (All_any a b.length c w6)).mono ?_⟩
      rintro e w7 ⟨rfl, rfl⟩
      have hf := func_eq (.func 38) #[] #[.pointer (some ⟨w6.heap.size, 0, none⟩)]
      gi_wp2
      obtain ⟨W8, hW8⟩ : ∃ W8, W8 = (w6.alloc (.cells #[.slice a b.length c] 22)).alloc (.cells #[.int .i64 0] 3) := ⟨_, rfl⟩
      have b68 : Below w6.heap.size w6 W8 := by rw [hW8]; exact ((Below.refl _ w6).alloc (Nat.le_refl _) _).alloc (by simp) _
      have hbs8 : W8.heap[w6.heap.size]? = some (.cells #[.slice a b.length c] 22) := by rw [hW8]; exact (Below.heap_alloc _ _ _ (by simp)).trans (heap_alloc_new w6 _)
      have hb98 : W8.heap[w6.heap.size + 1]? = some (.cells #[.int .i64 0] 3) := by
        have := heap_alloc_new (w6.alloc (.cells #[.slice a b.length c] 22)) (.cells #[.int .i64 0] 3)
        rw [World.size_alloc] at this
        rw [hW8]; exact this
      have hBr6 : Br < w6.heap.size := (Array.getElem?_eq_some_iff.1 Hr6.out).1
      have b08 := Bel6.out.trans (b68.mono Bel6.out.size)
      rw [← hW8]
      clear hW8 hf k2
      refine loop_frames (C := _) rfl kk w.heap.size Br B7 (w6.heap.size + 1) w6.heap.size a a1 a2 c c1 c2 b ps ss _ _ W8 hkk hc hlen (HE.out.later b08) (HR.out.later b08)
        (heap_later H76.out b68) hb98 (heap_later Hk6.out b68) hbs8 (RQ6.out.later b68) (HOI6.out.later b68) HM1.out HM2.out _ ?_
      intro _ _ _ _ _ _ _ _ _ _ _ _ _ _ _ _ _ _ _ _ _ _ _ _ _ _ _ _ _ _ _ _ _ _ _ _ _ _ _ _ _ _ _ _ _ _ _ _ _ _ _ _ _ _ _ _ _ _ _ _ _ _ _ _ _ _ _ _ _ _ _ _ _ _ _ _ _ _ _ _ _ _ _ _ _ _ _ _ _ _ _ _ _ _ _ _ _ _ _ _ _ _ _ _ _ _ _ D D2 g9 W9 h1 h2 h3 h4 h5
      have s8 := b68.size
      have b09 := b08.trans (h1.mono b08.size)
      have hr9 := heap_later Hr6.out (b68.trans (h1.mono s8))
      have kr : W9.cell? ⟨Br, 0, none⟩ = some (.bool false) := by rw [cell_of_row _ _ _ _ _ _ hr9]; rfl
      have frz := frozen_of_row _ _ 0 _ _ hr9
      have fin := hid (leave_frames · Br w.heap.size D D2 w W9 · hr9 hBk (by omega) h3 h4 h5 b09)
      clear b68 hbs8 hb98 b08 h1 h2 h3 h4 h5 b09 hr9 Hk6 Hr6 RQ6 HOI6 H76 HM1 HM2
      simp only [Exit.inBlock, Exit.then]
      gi_wp2
      exact fin.out _ rfl
    | some eo =>
      obtain ⟨en, eo⟩ := eo
      have hen := fr_errs b 0 hE
      have ke : (((en : Nat) : Int) == 0) = false := by simp; omega
      have ke2 : (((en : Nat) : Int) != 0) = true := by simp; omega
      clear hen
      gi_wp2
      refine ⟨trivial, (callsIn_wide.2 (Split_any a c b w1 (HE.out.later Bel1.out) (HR.out.later Bel1.out) hc hlen)).mono ?_⟩
      rintro e w2 he2
      unfold SplitEnd at he2
      rw [hE] at he2
      obtain ⟨rfl, bel2⟩ := he2
      have Bel2 := hid (Bel1.out.trans (bel2.mono Bel1.out.size))
      have Hk2 := hid (heap_later Hk1.out bel2)
      have Hr2 := hid (heap_later Hr1.out bel2)
      clear bel2
      gi_wp2
      refine ⟨trivial, (callsIn_wide.2 (rSplit_any a c b w2 (HR.out.later Bel2.out) hc hlen)).mono ?_⟩
      rintro e w3 ⟨a1, c1, ps, a2, c2, ss, n, o, rfl, OP, OI, HP, hm1, hm2, hno, bel3⟩
      rw [hE] at hno
      obtain ⟨rfl, rfl⟩ := hno
      have Bel3 := hid (Bel2.out.trans (bel3.mono Bel2.out.size))
      have Hk3 := hid (heap_later Hk2.out bel3)
      have Hr3 := hid (heap_later Hr2.out bel3)
      have RQ3 := hid (OP.rds (B' := 0) fun p hp => ⟨(HP p hp).1.later bel3, Nat.le_trans (HP p hp).2.2 (by omega)⟩)
      have HM1 := hid hm1
      have HM2 := hid hm2
      have HOI := hid OI.rdN
      clear hm1 hm2 HP OI OP bel3
      gi_wp2
      obtain ⟨B7, hB7⟩ : ∃ B7, B7 = w3.heap.size := ⟨_, rfl⟩
      have hal : Below w3.heap.size w3 (w3.alloc (.cells #[.slice a1 ps.length c1, .slice a2 ss.length c2, .int .i64 (n : Int), .int .i64 (o : Int)] 51)) := (Below.refl _ _).alloc (Nat.le_refl _) _
      have h7 := heap_alloc_new w3 (.cells #[.slice a1 ps.length c1, .slice a2 ss.length c2, .int .i64 (n : Int), .int .i64 (o : Int)] 51)
      rw [← hB7] at h7 ⊢
      obtain ⟨W4, hW4⟩ : ∃ W4, W4 = w3.alloc (.cells #[.slice a1 ps.length c1, .slice a2 ss.length c2, .int .i64 (n : Int), .int .i64 (o : Int)] 51) := ⟨_, rfl⟩
      rw [← hW4] at hal h7 ⊢
      have H7ge := hid (show w.heap.size ≤ B7 by rw [hB7]; exact Bel3.out.size)
      have Bel4 := hid (Bel3.out.trans (hal.mono Bel3.out.size))
      clear hW4 hB7
      refine ⟨trivial, (callsIn_wide.2 (told_fault n o W4 (HE.out.later Bel4.out) ke)).mono ?_⟩
      rintro e w6 ⟨rfl, bel5⟩
      have b35 := hal.trans (bel5.mono hal.size)
      have Bel6 := hid (Bel3.out.trans (b35.mono Bel3.out.size))
      have Hk6 := hid (heap_later Hk3.out b35)
      have Hr6 := hid (heap_later Hr3.out b35)
      have RQ6 := hid (RQ3.out.later b35)
      have HOI6 := hid (HOI.out.later b35)
      have H76 := hid (heap_later h7 bel5)
      clear hal h7 bel5 b35 Bel3 Bel4 Hk3 Hr3 RQ3 HOI
      have k2 : w6.cell? ⟨B7, 2, none⟩ = some (.int .i64 (n : Int)) := by rw [cell_of_row _ _ _ _ _ _ H76.out]; rfl
      gi_wp2
      refine ⟨trivial, ?_⟩
      gi_wp2
      refine ⟨trivial, (callsIn_wide.2 (All_any a b.length c w6)).mono ?_⟩
      rintro e w7 ⟨rfl, rfl⟩
      have hf := func_eq (.func 38) #[] #[.pointer (some ⟨w6.heap.size, 0, none⟩)]
      gi_wp2
      obtain ⟨W8, hW8⟩ : ∃ W8, W8 = (w6.alloc (.cells #[.slice a b.length c] 22)).alloc (.cells #[.int .i64 0] 3) := ⟨_, rfl⟩
      have b68 : Below w6.heap.size w6 W8 := by rw [hW8]; exact ((Below.refl _ w6).alloc (Nat.le_refl _) _).alloc (by simp) _
      have hbs8 : W8.heap[w6.heap.size]? = some (.cells #[.slice a b.length c] 22) := by rw [hW8]; exact (Below.heap_alloc _ _ _ (by simp)).trans (heap_alloc_new w6 _)
      have hb98 : W8.heap[w6.heap.size + 1]? = some (.cells #[.int .i64 0] 3) := by
        have := heap_alloc_new (w6.alloc (.cells #[.slice a b.length c] 22)) (.cells #[.int .i64 0] 3)
        rw [World.size_alloc] at this
        rw [hW8]; exact this
      have hBr6 : Br < w6.heap.size := (Array.getElem?_eq_some_iff.1 Hr6.out).1
      have b08 := Bel6.out.trans (b68.mono Bel6.out.size)
      rw [← hW8]
      clear hW8 hf k2
      refine loop_frames (C := _) rfl kk w.heap.size Br B7 (w6.heap.size + 1) w6.heap.size a a1 a2 c c1 c2 b ps ss _ _ W8 hkk hc hlen (HE.out.later b08) (HR.out.later b08)
        (heap_later H76.out b68) hb98 (heap_later Hk6.out b68) hbs8 (RQ6.out.later b68) (HOI6.out.later b68) HM1.out HM2.out _ ?_
      intro _ _ _ _ _ _ _ _ _ _ _ _ _ _ _ _ _ _ _ _ _ _ _ _ _ _ _ _ _ _ _ _ _ _ _ _ _ _ _ _ _ _ _ _ _ _ _ _ _ _ _ _ _ _ _ _ _ _ _ _ _ _ _ _ _ _ _ _ _ _ _ _ _ _ _ _ _ _ _ _ _ _ _ _ _ _ _ _ _ _ _ _ _ _ _ _ _ _ _ _ _ _ _ _ _ _ _ D D2 g9 W9 h1 h2 h3 h4 h5
      have s8 := b68.size
      have b09 := b08.trans (h1.mono b08.size)
      have hr9 := heap_later Hr6.out (b68.trans (h1.mono s8))
      have kr : W9.cell? ⟨Br, 0, none⟩ = some (.bool false) := by rw [cell_of_row _ _ _ _ _ _ hr9]; rfl
      have frz := frozen_of_row _ _ 0 _ _ hr9
      have fin := hid (leave_frames · Br w.heap.size D D2 w W9 · hr9 hBk (by omega) h3 h4 h5 b09)
      clear b68 hbs8 hb98 b08 h1 h2 h3 h4 h5 b09 hr9 Hk6 Hr6 RQ6 HOI6 H76 HM1 HM2
      simp only [Exit.inBlock, Exit.then]
      gi_wp2
      exact fin.out _ rfl
  · gi_wp2
    refine ⟨trivial, (callsIn_wide.2 (awake_any w1 (HE.out.later Bel1.out))).mono ?_⟩
    rintro e w2 ⟨rfl, bel2⟩
    have Bel2 := hid (Bel1.out.trans (bel2.mono Bel1.out.size))
    have Hr2 := hid (heap_later Hr1.out bel2)
    have k0 : w2.cell? ⟨Br, 0, none⟩ = some (.bool false) := by rw [cell_of_row _ _ _ _ _ _ Hr2.out]; rfl
    have f0 := frozen_of_row _ _ 0 _ _ Hr2.out
    clear bel2
    gi_wp2
    refine ⟨_, res_cell _ _ Br true rfl (World.cell?_setCell_same' _ _ _ (by rw [k0]; rfl)), rfl, Bel2.out.setCell (p := ⟨Br, 0, none⟩) hBk _⟩
end Go.Proofs.YtgbgcfdniodfpaaDoor
