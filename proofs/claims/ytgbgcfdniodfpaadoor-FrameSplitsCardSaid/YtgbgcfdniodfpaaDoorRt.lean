/- The walk of the reference's Split. -/
import Derived.Test.YtgbgcfdniodfpaaDoorRs
namespace Go.Proofs.YtgbgcfdniodfpaaDoor
open Go.RowKit
set_option linter.unusedVariables false

/-- what the reference's Read answers -/
def rReadFrom (w0 w : World) (e : Ending) (w' : World) : RR → Prop
  | .err n o => e = .returned (.tuple #[.slice none 0 0, .int .i64 0, .int .i64 n, .int .i64 o]) ∧ Below w.heap.size w w'
  | .ok p u => ∃ a c, e = .returned (.tuple #[.slice a p.length c, .int .i64 u, .int .i64 0, .int .i64 0]) ∧ Rd w0 a p ∧ p.length ≤ c ∧ Below w.heap.size w w'

set_option maxRecDepth 100000 in
set_option maxHeartbeats 2000000 in
theorem rRead_from (a : Option Addr) (c : Nat) (l : List B8) (w0 w : World) (hr0 : Rd w0 a l) (hr : Rd w a l) (hc : l.length ≤ c) (hl : l.length ≤ 3000000) :
    Calls Tryd.prog 14 #[.slice a l.length c] w fun e w' => rReadFrom w0 w e w' (rd l) := by
  have HR := hid hr
  have HR0 := hid hr0
  clear hr hr0
  have HNm := hid (rNumber_any a c l w HR.out hl)
  obtain ⟨r, hvr⟩ : ∃ r, r = vnum l := ⟨_, rfl⟩
  rw [← hvr] at HNm
  have Hvr := hid hvr
  clear hvr
  rcases r with er | ⟨n, i⟩
  · have her := vnum_errs Hvr.out.symm
    rcases her with rfl | rfl | rfl
    all_goals
      go_enter Tryd.func14, Tryd.ntmps14
      go_wp2_with fail
      refine HNm.out.mono ?_
      rintro e w1 ⟨rfl, bel1⟩
      have Bel1 := hid bel1
      clear bel1
      go_wp2_with fail
      try simp only [Exit.inBlock, Exit.then]
      refine bodyPost_ret (results_tmp4 rfl _ _ _) rfl ?_
      first
        | (have HRd := hid (show rd l = .err 1 l.length by unfold rd; rw [← Hvr.out]; rfl)
           rw [HRd.out]
           exact ⟨rfl, Bel1.out⟩)
        | (have HRd := hid (show rd l = .err _ 0 by unfold rd; rw [← Hvr.out]; rfl)
           rw [HRd.out]
           exact ⟨rfl, Bel1.out⟩)
  · have hi3 : n ≤ 65536 → i ≤ 3 := fun hn => by rw [vnum_used Hvr.out.symm]; exact vput_three hn
    have hi0 : 0 < i ∧ i ≤ l.length := by have := vnum_ok Hvr.out.symm; omega
    go_enter Tryd.func14, Tryd.ntmps14
    go_wp2_with fail
    refine HNm.out.mono ?_
    rintro e w1 ⟨rfl, bel1⟩
    have Bel1 := hid bel1
    clear bel1
    by_cases hn : 65536 < n
    · have HRd := hid (show rd l = .err 15 0 by unfold rd; rw [← Hvr.out]; simp only [if_pos hn])
      go_wp2_with fail
      try simp only [Exit.inBlock, Exit.then]
      refine bodyPost_ret (results_tmp4 rfl _ _ _) rfl ?_
      rw [HRd.out]
      exact ⟨rfl, Bel1.out⟩
    · have hi := hi3 (by omega)
      by_cases hsh : l.length < i + n + 4
      · have HRd := hid (show rd l = .err 1 l.length by unfold rd; rw [← Hvr.out]; simp only [if_neg hn, if_pos hsh])
        go_wp2_with fail
        try simp only [Exit.inBlock, Exit.then]
        refine bodyPost_ret (results_tmp4 rfl _ _ _) rfl ?_
        rw [HRd.out]
        exact ⟨rfl, Bel1.out⟩
      · obtain ⟨M, hM⟩ : ∃ M, M = (l.drop i).take (n + 4) := ⟨_, rfl⟩
        have hMl : M.length = n + 4 := by rw [hM]; simp; omega
        obtain ⟨b, off, rfl, _⟩ := HR.out.gets (by intro e; rw [e] at hsh; simp at hsh)
        have HRM := hid (show Rd w1 (some ⟨b, off + i, none⟩) M by rw [hM]; exact (HR.out.later Bel1.out).part i (n + 4))
        have HS := hid (Sealed_any (some ⟨b, off + i, none⟩) (c - i) M w1 HRM.out (by omega) (by omega) (isSealed M) rfl)
        rw [hMl, show n + 4 = i + n + 4 - i by omega] at HS
        by_cases hs : isSealed M = true
        · have HRd := hid (show rd l = .ok ((l.drop i).take n) (i + n + 4) by unfold rd; rw [← Hvr.out]; simp only [if_neg hn, if_neg hsh]; rw [← hM, if_pos hs])
          rw [hs] at HS
          clear hM hMl hs
          go_wp2_with fail
          refine HS.out.mono ?_
          rintro e w2 ⟨rfl, bel2⟩
          have Bel2 := hid (Bel1.out.trans (bel2.mono Bel1.out.size))
          clear bel2 Bel1 HS
          go_wp2_with fail
          try simp only [Exit.inBlock, Exit.then]
          refine bodyPost_ret (results_tmp4 rfl _ _ _) rfl ?_
          rw [HRd.out]
          have hpl : ((l.drop i).take n).length = n := by simp; omega
          refine ⟨some ⟨b, off + i, none⟩, c - i, ret_eq ?_, HR0.out.part i n, by omega, Bel2.out⟩
          rw [hpl, show i + n - i = n by omega]
          rfl
        · have hs' : isSealed M = false := by simpa using hs
          have HRd := hid (show rd l = .err 4 i by unfold rd; rw [← Hvr.out]; simp only [if_neg hn, if_neg hsh]; rw [← hM, if_neg hs])
          rw [hs'] at HS
          clear hM hMl hs hs'
          go_wp2_with fail
          refine HS.out.mono ?_
          rintro e w2 ⟨rfl, bel2⟩
          have Bel2 := hid (Bel1.out.trans (bel2.mono Bel1.out.size))
          clear bel2 Bel1 HS
          go_wp2_with fail
          try simp only [Exit.inBlock, Exit.then]
          refine bodyPost_ret (results_tmp4 rfl _ _ _) rfl ?_
          rw [HRd.out]
          exact ⟨rfl, Bel2.out⟩

/-- the four cells of a block are written -/
theorem set4 {w : World} {g B : Nat} {y0 y1 y2 y3 : Value} (h : w.heap[g]? = some (.cells #[y0, y1, y2, y3] 51 (0, 0))) (hB : B ≤ g) (x0 x1 x2 x3 : Value) :
    let W := (((w.setCell ⟨g, 0, none⟩ x0).setCell ⟨g, 1, none⟩ x1).setCell ⟨g, 2, none⟩ x2).setCell ⟨g, 3, none⟩ x3
    W.heap[g]? = some (.cells #[x0, x1, x2, x3] 51 (0, 0)) ∧ (∀ {B' e sz n c : Nat} {a : Option Addr} {xs : List Value}, 51 ≠ e → w.ownsRow B' e sz (.slice a n c) n xs → W.ownsRow B' e sz (.slice a n c) n xs) ∧ Below B w W := by
  have h0 := heap_setCell_same w g 0 _ _ x0 h
  have h1 := heap_setCell_same _ g 1 _ _ x1 h0
  have h2 := heap_setCell_same _ g 2 _ _ x2 h1
  have h3 := heap_setCell_same _ g 3 _ _ x3 h2
  refine ⟨h3, fun he hr => row_set (row_set (row_set (row_set hr h he) h0 he) h1 he) h2 he, ?_⟩
  exact ((((Below.refl B w).setCell (p := ⟨g, 0, none⟩) hB _).setCell (p := ⟨g, 1, none⟩) hB _).setCell (p := ⟨g, 2, none⟩) hB _).setCell (p := ⟨g, 3, none⟩) hB _

/-- the last two cells of a block are written -/
theorem set2 {w : World} {g B : Nat} {y0 y1 y2 y3 : Value} (h : w.heap[g]? = some (.cells #[y0, y1, y2, y3] 51 (0, 0))) (hB : B ≤ g) (x2 x3 : Value) :
    let W := (w.setCell ⟨g, 2, none⟩ x2).setCell ⟨g, 3, none⟩ x3
    (∀ {g' : Nat}, g' ≠ g → W.heap[g']? = w.heap[g']?) ∧ (∀ {B' e sz n c : Nat} {a : Option Addr} {xs : List Value}, 51 ≠ e → w.ownsRow B' e sz (.slice a n c) n xs → W.ownsRow B' e sz (.slice a n c) n xs) ∧ Below B w W := by
  have h2 := heap_setCell_same w g 2 _ _ x2 h
  refine ⟨fun hg => (Below.heap_setCell _ _ _ _ hg).trans (Below.heap_setCell _ _ _ _ hg), fun he hr => row_set (row_set hr h he) h2 he, ?_⟩
  exact ((Below.refl B w).setCell (p := ⟨g, 2, none⟩) hB _).setCell (p := ⟨g, 3, none⟩) hB _

theorem A.size51 : (Tryd.prog.info? 51).map (·.size) = some 4 := by kernel_rfl

/-- what the reference's Split answers: r's fields lie in the value -/
def rSplitEnd (w : World) (l : List B8) (e : Ending) (w' : World) : Prop :=
  ∃ a1 c1 ps a2 c2, ∃ ss : List Nat, ∃ n o : Nat, e = .returned (.agg #[.slice a1 ps.length c1, .slice a2 ss.length c2, .int .i64 n, .int .i64 o]) ∧ OwnP w' w.heap.size a1 c1 ps ∧ OwnI w' w.heap.size a2 c2 ss ∧
    (∀ p ∈ ps, Rd w p.at_ p.bs ∧ p.bs.length ≤ p.cap ∧ p.bs.length ≤ 65536) ∧ ps.map Part.bs = (fr l 0).1.map Prod.snd ∧ ss = (fr l 0).1.map Prod.fst ∧ (match (fr l 0).2 with | none => n = 0 ∧ o = 0 | some (n', o') => n = n' ∧ o = o') ∧ Below w.heap.size w w'

set_option maxRecDepth 100000 in
set_option maxHeartbeats 2000000 in
theorem rSplit_any (a : Option Addr) (c : Nat) (l : List B8) (w : World) (hr : Rd w a l) (hc : l.length ≤ c) (hl : l.length ≤ 2000) :
    Calls Tryd.prog 20 #[.slice a l.length c] w (rSplitEnd w l) := by
  have HR := hid hr
  clear hr
  go_enter Tryd.func20, Tryd.ntmps20
  go_wp2_with fail
  have hst : Below w.heap.size w ((w.alloc (.cells #[.slice none 0 0, .slice none 0 0, .int .i64 0, .int .i64 0] 51)).alloc (.cells #[.slice none 0 0, .slice none 0 0, .int .i64 0, .int .i64 0] 51)) := ((Below.refl _ w).alloc (Nat.le_refl _) _).alloc (by simp) _
  have hg3 := heap_alloc_new (w.alloc (.cells #[.slice none 0 0, .slice none 0 0, .int .i64 0, .int .i64 0] 51)) (.cells #[.slice none 0 0, .slice none 0 0, .int .i64 0, .int .i64 0] 51)
  rw [World.size_alloc] at hg3
  have hg2 : ((w.alloc (.cells #[.slice none 0 0, .slice none 0 0, .int .i64 0, .int .i64 0] 51)).alloc (.cells #[.slice none 0 0, .slice none 0 0, .int .i64 0, .int .i64 0] 51)).heap[w.heap.size]? = some (.cells #[.slice none 0 0, .slice none 0 0, .int .i64 0, .int .i64 0] 51) :=
    (Below.heap_alloc _ _ _ (by simp)).trans (heap_alloc_new w _)
  have Hst := hid hst
  have Hg3 := hid hg3
  have Hg2 := hid hg2
  clear hst hg3 hg2
  obtain ⟨G, hG⟩ : ∃ G, G = w.heap.size + 1 := ⟨_, rfl⟩
  rw [← hG] at Hg3 ⊢
  have hne : ¬ G = w.heap.size := by omega
  have hne' : ¬ w.heap.size = G := by omega
  have hGB : w.heap.size ≤ G := by omega
  clear hG
  go_loopw [4] (fun i wr => (∃ (k : Nat) (ps : List Part) (ss : List Nat) (a1 : Option Addr) (c1 : Nat) (a2 : Option Addr) (c2 : Nat), i = .int .i64 k ∧ k ≤ l.length ∧ ps.length ≤ k ∧ ss.length ≤ k ∧
      Hid (wr.heap[G]? = some (.cells #[.slice a1 ps.length c1, .slice a2 ss.length c2, .int .i64 0, .int .i64 0] 51 (0, 0))) ∧ Hid (wr.heap[w.heap.size]? = some (.cells #[.slice none 0 0, .slice none 0 0, .int .i64 0, .int .i64 0] 51 (0, 0))) ∧
      Hid (OwnP wr w.heap.size a1 c1 ps) ∧ Hid (OwnI wr w.heap.size a2 c2 ss) ∧ Hid (∀ p ∈ ps, Rd w p.at_ p.bs ∧ p.bs.length ≤ p.cap ∧ p.bs.length ≤ 65536) ∧
      Hid (ps.map Part.bs ++ (fr l k).1.map Prod.snd = (fr l 0).1.map Prod.snd) ∧ Hid (ss ++ (fr l k).1.map Prod.fst = (fr l 0).1.map Prod.fst) ∧ Hid ((fr l k).2 = (fr l 0).2)) ∧ Below w.heap.size w wr) (fun i _ => l.length - (intOf i).toNat)
  case atStart => exact ⟨⟨0, [], [], none, 0, none, 0, rfl, by omega, by simp, by simp, Hg3, Hg2, hid (ownP_nil _ _), hid (ownI_nil _ _), hid (fun p hp => by cases hp), hid rfl, hid rfl, hid rfl⟩, Hst.out⟩
  case round =>
    clear Hst Hg3 Hg2
    obtain ⟨⟨k, ps, ss, a1, c1, a2, c2, rfl, hk, hpk, hsk, H3, H2, HOP, HOI, HP, HF1, HF2, HF3⟩, bel⟩ := hrel
    have Bel := hid bel
    clear bel
    have hB := Bel.out.size
    by_cases hlt : k < l.length
    · obtain ⟨b, off, rfl, _⟩ := HR.out.gets (by intro e; rw [e] at hlt; simp at hlt)
      have hdl : (l.drop k).length = l.length - k := by simp
      have HRk := hid (rRead_from (some ⟨b, off + k, none⟩) (c - k) (l.drop k) w wr (HR.out.drop k) ((HR.out.later Bel.out).drop k) (by omega) (by omega))
      rw [hdl] at HRk
      obtain ⟨r, hr⟩ : ∃ r, r = rd (l.drop k) := ⟨_, rfl⟩
      rw [← hr] at HRk
      have Hr := hid hr.symm
      clear hdl hr
      rcases r with ⟨n, o⟩ | ⟨p, u⟩
      · have ho := rd_err_le Hr.out
        have hol : o ≤ 2000 := by simp at ho; omega
        have hn := rd_errs Hr.out
        have hn0 : ((n : Int) != 0) = true := by simp; omega
        have HX := hid (fr_err hlt Hr.out)
        clear ho hn
        go_wp2_with fail
        refine HRk.out.mono ?_
        rintro e w2 ⟨rfl, bel2⟩
        have Bel2 := hid (Bel.out.trans (bel2.mono hB))
        have H3' := hid (heap_later H3.out bel2)
        have H2' := hid (heap_later H2.out bel2)
        have HOP2 := hid (HOP.out.later bel2)
        have HOI2 := hid (row_later HOI.out fun x cur _ hh => (heap_later hh bel2).trans hh.symm)
        clear bel2
        have k0 : w2.cell? ⟨G, 0, none⟩ = some (.slice a1 ps.length c1) := by rw [cell_of_row _ _ _ _ _ _ H3'.out]; rfl
        have k1 : w2.cell? ⟨G, 1, none⟩ = some (.slice a2 ss.length c2) := by rw [cell_of_row _ _ _ _ _ _ H3'.out]; rfl
        have j0 : w2.cell? ⟨w.heap.size, 0, none⟩ = some (.slice none 0 0) := by rw [cell_of_row _ _ _ _ _ _ H2'.out]; rfl
        have j1 : w2.cell? ⟨w.heap.size, 1, none⟩ = some (.slice none 0 0) := by rw [cell_of_row _ _ _ _ _ _ H2'.out]; rfl
        have j2 : w2.cell? ⟨w.heap.size, 2, none⟩ = some (.int .i64 0) := by rw [cell_of_row _ _ _ _ _ _ H2'.out]; rfl
        have j3 : w2.cell? ⟨w.heap.size, 3, none⟩ = some (.int .i64 0) := by rw [cell_of_row _ _ _ _ _ _ H2'.out]; rfl
        have m0 := frozen_of_row _ _ 0 _ _ H2'.out
        have m1 := frozen_of_row _ _ 1 _ _ H2'.out
        have m2 := frozen_of_row _ _ 2 _ _ H2'.out
        have m3 := frozen_of_row _ _ 3 _ _ H2'.out
        have f2 := frozen_of_row _ _ 2 _ _ H3'.out
        have f3 := frozen_of_row _ _ 3 _ _ H3'.out
        have k2 : w2.cell? ⟨G, 2, none⟩ = some (.int .i64 0) := by rw [cell_of_row _ _ _ _ _ _ H3'.out]; rfl
        have k3 : w2.cell? ⟨G, 3, none⟩ = some (.int .i64 0) := by rw [cell_of_row _ _ _ _ _ _ H3'.out]; rfl
        go_wp2_with fail
        have e1 := set2 H3'.out hGB (.int .i64 (n : Int)) (.int .i64 ((k : Int) + (o : Int)))
        obtain ⟨q1, q2, q3⟩ := e1
        have hz := (q1 (g' := w.heap.size) hne').trans H2'.out
        have e2 := set4 hz (Nat.le_refl _) (.slice a1 ps.length c1) (.slice a2 ss.length c2) (.int .i64 (n : Int)) (.int .i64 ((k : Int) + (o : Int)))
        obtain ⟨r1, r2, r3⟩ := e2
        refine bodyPost_ret (results_cell_row rfl _ _ w.heap.size 51 _ (0, 0) _ rfl r1 Tryd.underlying51 rfl A.size51) rfl ?_
        refine ⟨a1, c1, ps, a2, c2, ss, n, k + o, rfl, r2 (by decide) (q2 (by decide) HOP2.out), r2 (by decide) (q2 (by decide) HOI2.out), HP.out, ?_, ?_, ?_, (Bel2.out.trans q3).trans r3⟩
        · rw [← HF1.out, HX.out]; simp
        · rw [← HF2.out, HX.out]; simp
        · rw [← HF3.out, HX.out]; exact ⟨rfl, rfl⟩
      · have hu := (rd_ok Hr.out).2.1
        have hu0 := (rd_ok Hr.out).2.2.1
        have hpl := (rd_ok Hr.out).1
        have hk2 : k + u ≤ l.length := by simp at hu; omega
        have HX := hid (fr_ok hlt Hr.out)
        clear hu
        go_wp2_with fail
        refine HRk.out.mono ?_
        rintro e w2 ⟨a3, c3, rfl, R3, hc3, bel2⟩
        have Bel2 := hid (Bel.out.trans (bel2.mono hB))
        have H3' := hid (heap_later H3.out bel2)
        have H2' := hid (heap_later H2.out bel2)
        have HOP2 := hid (HOP.out.later bel2)
        have HOI2 := hid (show OwnI w2 w.heap.size a2 c2 ss from row_later HOI.out fun x cur _ hh => (heap_later hh bel2).trans hh.symm)
        have HN := hid (show Rd w a3 p ∧ p.length ≤ c3 ∧ p.length ≤ 65536 from ⟨R3, hc3, hpl⟩)
        clear bel2 R3 hc3 hpl HRk H3 H2 HOP HOI Bel
        have k0 : w2.cell? ⟨G, 0, none⟩ = some (.slice a1 ps.length c1) := by rw [cell_of_row _ _ _ _ _ _ H3'.out]; rfl
        have hB2 := Bel2.out.size
        go_wp2_with (at_builtin; refine wpList_appP rfl _ _ rfl w.heap.size _ _ ps rfl (HOP2.out.later ((Below.refl _ _).alloc (Nat.le_refl _) _)) ⟨w2.heap.size, 0, none⟩ 1 ⟨a3, c3, p⟩ rfl (cell_new1 _ _ _) ?_ ?_ ?_)
        · omega
        · simp; omega
        intro N a4 c4 w3 HNN Own3 hg3 bel3
        have hal : Below w2.heap.size w2 (w2.alloc (.cells #[.slice a3 p.length c3] 22)) := (Below.refl _ _).alloc (Nat.le_refl _) _
        have H3n := hid (cells_grown (heap_later H3'.out hal) (HOP2.out.later hal) (by decide) hg3.out)
        have H2n := hid (cells_grown (heap_later H2'.out hal) (HOP2.out.later hal) (by decide) hg3.out)
        have HOI3 := hid (show OwnI w3 w.heap.size a2 c2 ss from row_grown (row_later HOI2.out fun x cur _ hh => (heap_later hh hal).trans hh.symm) (HOP2.out.later hal) (by decide) hg3.out)
        have Bel3 := hid ((Bel2.out.alloc hB2 _).trans bel3.out)
        clear hal hg3 bel3 HOP2 HOI2 H3' H2' Bel2 hB2 k0
        have k0 : w3.cell? ⟨G, 0, none⟩ = some (.slice a1 ps.length c1) := by rw [cell_of_row _ _ _ _ _ _ H3n.out]; rfl
        have k1 : w3.cell? ⟨G, 1, none⟩ = some (.slice a2 ss.length c2) := by rw [cell_of_row _ _ _ _ _ _ H3n.out]; rfl
        have f0 := frozen_of_row _ _ 0 _ _ H3n.out
        have f1 := frozen_of_row _ _ 1 _ _ H3n.out
        -- field 0 is written
        have H3s := hid (heap_setCell_same w3 G 0 _ _ (.slice a4 N.length c4) H3n.out)
        have H2s := hid ((Below.heap_setCell w3 ⟨G, 0, none⟩ (.slice a4 N.length c4) w.heap.size hne').trans H2n.out)
        have HOPs := hid (row_set (j := 0) (v := .slice a4 N.length c4) Own3.out H3n.out (by decide))
        have HOIs := hid (show OwnI (w3.setCell ⟨G, 0, none⟩ (.slice a4 N.length c4)) w.heap.size a2 c2 ss from row_set HOI3.out H3n.out (by decide))
        have BelS := hid (Bel3.out.setCell (p := ⟨G, 0, none⟩) hGB (.slice a4 N.length c4))
        have hBS := BelS.out.size
        clear H2n Own3 HOI3
        go_wp2_with (at_builtin; refine wpList_appI rfl _ _ rfl w.heap.size _ _ ss rfl (row_later HOIs.out fun x cur _ hh => (heap_later hh ((Below.refl _ _).alloc (Nat.le_refl _) _)).trans hh.symm) ⟨w3.heap.size, 0, none⟩ 1 k rfl ?_ ?_ ?_ ?_)
        · simpa using cell_new1 (w3.setCell ⟨G, 0, none⟩ (.slice a4 N.length c4)) (iv k) 3
        · omega
        · have := hBS; simp at this ⊢; omega
        intro N2 a5 c5 w4 HN2 Own4 hg4 bel4
        have hal : Below (w3.setCell ⟨G, 0, none⟩ (.slice a4 N.length c4)).heap.size (w3.setCell ⟨G, 0, none⟩ (.slice a4 N.length c4)) ((w3.setCell ⟨G, 0, none⟩ (.slice a4 N.length c4)).alloc (.cells #[.int .i64 (k : Int)] 3)) := (Below.refl _ _).alloc (Nat.le_refl _) _
        have hOI : OwnI ((w3.setCell ⟨G, 0, none⟩ (.slice a4 N.length c4)).alloc (.cells #[.int .i64 (k : Int)] 3)) w.heap.size a2 c2 ss := row_later HOIs.out fun x cur _ hh => (heap_later hh hal).trans hh.symm
        have H3t := hid (cells_grown (heap_later H3s.out hal) hOI (by decide) hg4.out)
        have H2t := hid (cells_grown (heap_later H2s.out hal) hOI (by decide) hg4.out)
        have HOPt := hid (show OwnP w4 w.heap.size a4 c4 N from row_grown (row_later HOPs.out fun x cur _ hh => (heap_later hh hal).trans hh.symm) hOI (by decide) hg4.out)
        have BelT := hid ((BelS.out.alloc hBS _).trans bel4.out)
        clear hal hOI hg4 bel4 HOPs HOIs H3s H2s BelS hBS k0 k1 f0 f1 H3n Bel3
        have k1 : w4.cell? ⟨G, 1, none⟩ = some (.slice a2 ss.length c2) := by rw [cell_of_row _ _ _ _ _ _ H3t.out]; rfl
        have f1 := frozen_of_row _ _ 1 _ _ H3t.out
        have H3u := hid (show (w4.setCell ⟨G, 1, none⟩ (.slice a5 N2.length c5)).heap[G]? = some (.cells #[.slice a4 N.length c4, .slice a5 N2.length c5, .int .i64 0, .int .i64 0] 51 (0, 0)) from heap_setCell_same w4 G 1 _ _ (.slice a5 N2.length c5) H3t.out)
        have H2u := hid ((Below.heap_setCell w4 ⟨G, 1, none⟩ (.slice a5 N2.length c5) w.heap.size hne').trans H2t.out)
        have HOPu := hid (show OwnP (w4.setCell ⟨G, 1, none⟩ (.slice a5 N2.length c5)) w.heap.size a4 c4 N from row_set HOPt.out H3t.out (by decide))
        have HOIu := hid (show OwnI (w4.setCell ⟨G, 1, none⟩ (.slice a5 N2.length c5)) w.heap.size a5 c5 N2 from row_set Own4.out H3t.out (by decide))
        have BelU := hid (BelT.out.setCell (p := ⟨G, 1, none⟩) hGB (.slice a5 N2.length c5))
        have HPu := hid (show ∀ q ∈ N, Rd w q.at_ q.bs ∧ q.bs.length ≤ q.cap ∧ q.bs.length ≤ 65536 by
          intro q hq
          rw [HNN.out] at hq
          rcases List.mem_append.1 hq with hq | hq
          · exact HP.out q hq
          · obtain rfl := List.mem_singleton.1 hq
            exact HN.out)
        have G1 := hid (show N.map Part.bs ++ (fr l (k + u)).1.map Prod.snd = (fr l 0).1.map Prod.snd by
          rw [HNN.out, ← HF1.out, HX.out]; simp)
        have G2 := hid (show N2 ++ (fr l (k + u)).1.map Prod.fst = (fr l 0).1.map Prod.fst by
          rw [HN2.out, ← HF2.out, HX.out]; simp)
        have G3 := hid (show (fr l (k + u)).2 = (fr l 0).2 by rw [← HF3.out, HX.out])
        have hN1 : N.length ≤ k + u := by rw [HNN.out]; simp; omega
        have hN2 : N2.length ≤ k + u := by rw [HN2.out]; simp; omega
        clear HNN HN2 HP HF1 HF2 HF3 HX HOPt H2t BelT
        go_wp2_with fail
        go_roundw
        case rel => exact ⟨⟨k + u, N, N2, a4, c4, a5, c5, by go_num, hk2, hN1, hN2, H3u, H2u, HOPu, HOIu, HPu, G1, G2, G3⟩, BelU.out⟩
        case measure => simp [intOf]; omega
    · have HX := hid (fr_end hlt)
      have k0 : wr.cell? ⟨G, 0, none⟩ = some (.slice a1 ps.length c1) := by rw [cell_of_row _ _ _ _ _ _ H3.out]; rfl
      have k1 : wr.cell? ⟨G, 1, none⟩ = some (.slice a2 ss.length c2) := by rw [cell_of_row _ _ _ _ _ _ H3.out]; rfl
      have k2 : wr.cell? ⟨G, 2, none⟩ = some (.int .i64 0) := by rw [cell_of_row _ _ _ _ _ _ H3.out]; rfl
      have k3 : wr.cell? ⟨G, 3, none⟩ = some (.int .i64 0) := by rw [cell_of_row _ _ _ _ _ _ H3.out]; rfl
      have j0 : wr.cell? ⟨w.heap.size, 0, none⟩ = some (.slice none 0 0) := by rw [cell_of_row _ _ _ _ _ _ H2.out]; rfl
      have j1 : wr.cell? ⟨w.heap.size, 1, none⟩ = some (.slice none 0 0) := by rw [cell_of_row _ _ _ _ _ _ H2.out]; rfl
      have j2 : wr.cell? ⟨w.heap.size, 2, none⟩ = some (.int .i64 0) := by rw [cell_of_row _ _ _ _ _ _ H2.out]; rfl
      have j3 : wr.cell? ⟨w.heap.size, 3, none⟩ = some (.int .i64 0) := by rw [cell_of_row _ _ _ _ _ _ H2.out]; rfl
      have m0 := frozen_of_row _ _ 0 _ _ H2.out
      have m1 := frozen_of_row _ _ 1 _ _ H2.out
      have m2 := frozen_of_row _ _ 2 _ _ H2.out
      have m3 := frozen_of_row _ _ 3 _ _ H2.out
      have e2 := set4 H2.out (Nat.le_refl _) (.slice a1 ps.length c1) (.slice a2 ss.length c2) (.int .i64 0) (.int .i64 0)
      obtain ⟨r1, r2, r3⟩ := e2
      have HR1 := hid r1
      have HR2 := hid (r2 (by decide) HOP.out)
      have HR3 := hid (r2 (by decide) HOI.out)
      have HR4 := hid (Bel.out.trans r3)
      clear r1 r2 r3
      go_wp2_with fail
      refine bodyPost_ret (results_cell_row rfl _ _ w.heap.size 51 _ (0, 0) _ rfl HR1.out Tryd.underlying51 rfl A.size51) rfl ?_
      refine ⟨a1, c1, ps, a2, c2, ss, 0, 0, rfl, HR2.out, HR3.out, HP.out, ?_, ?_, ?_, HR4.out⟩
      · rw [← HF1.out, HX.out]; simp
      · rw [← HF2.out, HX.out]; simp
      · rw [← HF3.out, HX.out]; exact ⟨rfl, rfl⟩
end Go.Proofs.YtgbgcfdniodfpaaDoor
