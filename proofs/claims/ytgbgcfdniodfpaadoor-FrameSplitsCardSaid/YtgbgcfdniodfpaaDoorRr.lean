/- The reference's Read. -/
import Derived.Test.YtgbgcfdniodfpaaDoorRn
namespace Go.Proofs.YtgbgcfdniodfpaaDoor
open Go.RowKit
set_option linter.unusedVariables false

theorem results_tmp4 {fn : Func} {t u v x : Tmp} (h : fn.results = #[.tmp t, .tmp u, .tmp v, .tmp x]) (tmps : Array Value) (P : Program) (w : World) :
    (results fn tmps).run P w = .ok (.tuple #[tmps.getD t undef, tmps.getD u undef, tmps.getD v undef, tmps.getD x undef]) w := by
  simp [results, h]

/-- what the reference's Read answers -/
def rReadEnd (w : World) (e : Ending) (w' : World) : RR → Prop
  | .err n o => e = .returned (.tuple #[.slice none 0 0, .int .i64 0, .int .i64 n, .int .i64 o]) ∧ Below w.heap.size w w'
  | .ok p u => ∃ a c, e = .returned (.tuple #[.slice a p.length c, .int .i64 u, .int .i64 0, .int .i64 0]) ∧ Rd w' a p ∧ p.length ≤ c ∧ Below w.heap.size w w'

set_option maxRecDepth 100000 in
set_option maxHeartbeats 2000000 in
theorem rRead_any (a : Option Addr) (c : Nat) (l : List B8) (w : World) (hr : Rd w a l) (hc : l.length ≤ c) (hl : l.length ≤ 3000000) :
    Calls Tryd.prog 14 #[.slice a l.length c] w fun e w' => rReadEnd w e w' (rd l) := by
  have HR := hid hr
  clear hr
  have HNm := hid (rNumber_any a c l w HR.out hl)
  obtain ⟨r, hvr⟩ : ∃ r, r = vnum l := ⟨_, rfl⟩
  rw [← hvr] at HNm
  have Hvr := hid hvr
  clear hvr
  rcases r with er | ⟨n, i⟩
  · have her := vnum_errs Hvr.out.symm
    rcases her with rfl | rfl | rfl
    all_goals
      go_enter Tryd.func14, Tryd.ntmps14
      go_wp2_with fail
      refine HNm.out.mono ?_
      rintro e w1 ⟨rfl, bel1⟩
      have Bel1 := hid bel1
      clear bel1
      go_wp2_with fail
      try simp only [Exit.inBlock, Exit.then]
      refine bodyPost_ret (results_tmp4 rfl _ _ _) rfl ?_
      first
        | (have HRd := hid (show rd l = .err 1 l.length by unfold rd; rw [← Hvr.out]; rfl)
           rw [HRd.out]
           exact ⟨rfl, Bel1.out⟩)
        | (have HRd := hid (show rd l = .err _ 0 by unfold rd; rw [← Hvr.out]; rfl)
           rw [HRd.out]
           exact ⟨rfl, Bel1.out⟩)
  · have hi3 : n ≤ 65536 → i ≤ 3 := fun hn => by rw [vnum_used Hvr.out.symm]; exact vput_three hn
    have hi0 : 0 < i ∧ i ≤ l.length := by have := vnum_ok Hvr.out.symm; omega
    go_enter Tryd.func14, Tryd.ntmps14
    go_wp2_with fail
    refine HNm.out.mono ?_
    rintro e w1 ⟨rfl, bel1⟩
    have Bel1 := hid bel1
    clear bel1
    by_cases hn : 65536 < n
    · have HRd := hid (show rd l = .err 15 0 by unfold rd; rw [← Hvr.out]; simp only [if_pos hn])
      go_wp2_with fail
      try simp only [Exit.inBlock, Exit.then]
      refine bodyPost_ret (results_tmp4 rfl _ _ _) rfl ?_
      rw [HRd.out]
      exact ⟨rfl, Bel1.out⟩
    · have hi := hi3 (by omega)
      by_cases hsh : l.length < i + n + 4
      · have HRd := hid (show rd l = .err 1 l.length by unfold rd; rw [← Hvr.out]; simp only [if_neg hn, if_pos hsh])
        go_wp2_with fail
        try simp only [Exit.inBlock, Exit.then]
        refine bodyPost_ret (results_tmp4 rfl _ _ _) rfl ?_
        rw [HRd.out]
        exact ⟨rfl, Bel1.out⟩
      · obtain ⟨M, hM⟩ : ∃ M, M = (l.drop i).take (n + 4) := ⟨_, rfl⟩
        have hMl : M.length = n + 4 := by rw [hM]; simp; omega
        obtain ⟨b, off, rfl, _⟩ := HR.out.gets (by intro e; rw [e] at hsh; simp at hsh)
        have HRM := hid (show Rd w1 (some ⟨b, off + i, none⟩) M by rw [hM]; exact (HR.out.later Bel1.out).part i (n + 4))
        have HS := hid (Sealed_any (some ⟨b, off + i, none⟩) (c - i) M w1 HRM.out (by omega) (by omega) (isSealed M) rfl)
        rw [hMl, show n + 4 = i + n + 4 - i by omega] at HS
        by_cases hs : isSealed M = true
        · have HRd := hid (show rd l = .ok ((l.drop i).take n) (i + n + 4) by unfold rd; rw [← Hvr.out]; simp only [if_neg hn, if_neg hsh]; rw [← hM, if_pos hs])
          rw [hs] at HS
          clear hM hMl hs
          go_wp2_with fail
          refine HS.out.mono ?_
          rintro e w2 ⟨rfl, bel2⟩
          have Bel2 := hid (Bel1.out.trans (bel2.mono Bel1.out.size))
          clear bel2 Bel1 HS
          go_wp2_with fail
          try simp only [Exit.inBlock, Exit.then]
          refine bodyPost_ret (results_tmp4 rfl _ _ _) rfl ?_
          rw [HRd.out]
          have hpl : ((l.drop i).take n).length = n := by simp; omega
          refine ⟨some ⟨b, off + i, none⟩, c - i, ret_eq ?_, (HR.out.later Bel2.out).part i n, by omega, Bel2.out⟩
          rw [hpl, show i + n - i = n by omega]
          rfl
        · have hs' : isSealed M = false := by simpa using hs
          have HRd := hid (show rd l = .err 4 i by unfold rd; rw [← Hvr.out]; simp only [if_neg hn, if_neg hsh]; rw [← hM, if_neg hs])
          rw [hs'] at HS
          clear hM hMl hs hs'
          go_wp2_with fail
          refine HS.out.mono ?_
          rintro e w2 ⟨rfl, bel2⟩
          have Bel2 := hid (Bel1.out.trans (bel2.mono Bel1.out.size))
          clear bel2 Bel1 HS
          go_wp2_with fail
          try simp only [Exit.inBlock, Exit.then]
          refine bodyPost_ret (results_tmp4 rfl _ _ _) rfl ?_
          rw [HRd.out]
          exact ⟨rfl, Bel2.out⟩
end Go.Proofs.YtgbgcfdniodfpaaDoor
