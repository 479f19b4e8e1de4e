/- frame.Read. -/
import Derived.Test.YtgbgcfdniodfpaaDoorTa
import Derived.Lib.IfaceEq
import Derived.LaidEql
import Derived.OwnWalk
namespace Go.Proofs.YtgbgcfdniodfpaaDoor
open Go.RowKit
set_option linter.unusedVariables false

/-- what frame.Read answers -/
def ReadEnd (w : World) (e : Ending) (w' : World) : RR → Prop
  | .err n o => e = .returned (.tuple #[.slice none 0 0, .int .i64 0, flt n o]) ∧ Below w.heap.size w w'
  | .ok p u => ∃ a c, e = .returned (.tuple #[.slice a p.length c, .int .i64 u, .nilIface]) ∧ Own w' w.heap.size a c p ∧ Below w.heap.size w w'

theorem A.cmp39 : (Tryd.prog.info? 39).map (·.comparable) = some true := by kernel_rfl
theorem code_eql (a b : Int) : ∀ W, (binOp .eql 25 (code a) (code b)).run Tryd.prog W = .ok (.bool (a == b)) W := fun W => Lib.run_eql_iface_int W a b Tryd.underlying25 A.cmp39 Tryd.underlying39
theorem nil_eql (b : Int) : ∀ W, (binOp .eql 25 .nilIface (code b)).run Tryd.prog W = .ok (.bool false) W := fun W => run_eql_iface_nil_left (P := Tryd.prog) W 39 (.int .i64 b) Tryd.underlying25

set_option maxRecDepth 100000 in
set_option maxHeartbeats 2000000 in
theorem Read_any (a : Option Addr) (c : Nat) (l : List B8) (w : World) (he : Et w) (hr : Rd w a l) (hc : l.length ≤ c) (hl : l.length ≤ 3000000) :
    Calls Tryd.prog 10 #[.slice a l.length c] w fun e w' => ReadEnd w e w' (rd l) := by
  have HE := hid he
  have HR := hid hr
  clear he hr
  obtain ⟨L, hL⟩ : ∃ L, L = l.take 65544 := ⟨_, rfl⟩
  have hLl : L.length = min 65544 l.length := by rw [hL]; simp
  have HL := hid hL
  clear hL
  have hv : vnum L = vnum l := by rw [HL.out]; exact vnum_take l 65544 (by decide)
  have HRL := hid (show Rd w a L by rw [HL.out]; exact HR.out.take 65544)
  have HNm := hid (fun (g : Nat) (a1 : Option Addr) (c1 : Nat) (w1 : World) (h : Cur w1 g a1 c1 L 0) => (Number_cur g a1 c1 L w1 h))
  obtain ⟨r, hvr⟩ : ∃ r, r = vnum l := ⟨_, rfl⟩
  rw [hv, ← hvr] at HNm
  have Hvr := hid hvr
  clear hv hvr
  have hcase : (65544 < l.length ∧ L.length = 65544) ∨ (l.length ≤ 65544 ∧ L.length = l.length) := by omega
  rcases r with er | ⟨n, i⟩
  · have her := vnum_errs Hvr.out.symm
    rcases hcase with ⟨h1, h2⟩ | ⟨h1, h2⟩
    all_goals
      rcases her with rfl | rfl | rfl
    all_goals
      have HN := hid (New_cur a c L w HRL.out (by omega))
      rw [h2] at HN
      have q1 := code_eql 1 1
      have q2 := code_eql 2 1
      have q3 := code_eql 3 1
      go_enter Tryd.func10, Tryd.ntmps10
      go_wp2_with fail
      refine HN.out.mono ?_
      rintro e w1 ⟨g, a1, c1, rfl, cur1, hg1, bel1⟩
      have HC1 := hid cur1
      have Bel1 := hid bel1
      have Hg := hid hg1
      clear cur1 bel1 hg1 HN
      go_wp2_with fail
      refine (HNm.out g a1 c1 _ HC1.out).mono ?_
      rintro e w2 ⟨rfl, cur2, bel2⟩
      have HC2 := hid cur2
      have Bel2 := hid (Bel1.out.trans (bel2.mono Hg.out))
      clear cur2 bel2 Bel1 HC1
      go_wp2_with fail
      refine (At_cur g a1 c1 L 0 _ HC2.out).mono ?_
      rintro e w3 ⟨rfl, bel3⟩
      have Bel3 := hid (Bel2.out.trans (bel3.mono Bel2.out.size))
      have HE3 := hid (HE.out.later Bel3.out)
      clear bel3 Bel2 HC2
      go_wp2_with fail
      first
        | (refine (New_any 1 _ _).mono ?_
           rintro e w4 ⟨rfl, bel4⟩
           have Bel4 := hid (Bel3.out.trans (bel4.mono Bel3.out.size))
           clear bel4 Bel3
           go_wp2_with fail
           go_ret3
           have HRd := hid (show rd l = .err 1 l.length by unfold rd; rw [← Hvr.out]; rfl)
           rw [HRd.out]
           exact ⟨rfl, Bel4.out⟩)
        | (refine (Shift_code _ 0 _ HE3.out (by omega) (by omega)).mono ?_
           rintro e w4 ⟨rfl, bel4⟩
           have Bel4 := hid (Bel3.out.trans (bel4.mono Bel3.out.size))
           clear bel4 Bel3
           go_wp2_with fail
           go_ret3
           have HRd := hid (show rd l = .err _ 0 by unfold rd; rw [← Hvr.out]; rfl)
           rw [HRd.out]
           exact ⟨rfl, Bel4.out⟩)
  · have hi3 : n ≤ 65536 → i ≤ 3 := fun hn => by rw [vnum_used Hvr.out.symm]; exact vput_three hn
    have hiL : i ≤ L.length := by
      have h1 := vnum_ok (b := L) (n := n) (u := i) (by rw [HL.out, vnum_take l 65544 (by decide)]; exact Hvr.out.symm)
      exact h1.1
    rcases hcase with ⟨h1, h2⟩ | ⟨h1, h2⟩
    all_goals
      have HN := hid (New_cur a c L w HRL.out (by omega))
      rw [h2] at HN
      have q1 := nil_eql 1
      go_enter Tryd.func10, Tryd.ntmps10
      go_wp2_with fail
      refine HN.out.mono ?_
      rintro e w1 ⟨g, a1, c1, rfl, cur1, hg1, bel1⟩
      have HC1 := hid cur1
      have Bel1 := hid bel1
      have Hg := hid hg1
      clear cur1 bel1 hg1 HN
      go_wp2_with fail
      refine (HNm.out g a1 c1 _ HC1.out).mono ?_
      rintro e w2 ⟨rfl, cur2, bel2⟩
      have HC2 := hid cur2
      have Bel2 := hid (Bel1.out.trans (bel2.mono Hg.out))
      clear cur2 bel2 Bel1 HC1
      go_wp2_with fail
      refine (At_cur g a1 c1 L i _ HC2.out).mono ?_
      rintro e w3 ⟨rfl, bel3⟩
      have Bel3 := hid (Bel2.out.trans (bel3.mono Bel2.out.size))
      have HE3 := hid (HE.out.later Bel3.out)
      have HC3 := hid (HC2.out.later bel3)
      clear bel3 Bel2 HC2
      by_cases hn : 65536 < n
      · go_wp2_with fail
        refine (New_any 15 0 _).mono ?_
        rintro e w4 ⟨rfl, bel4⟩
        have Bel4 := hid (Bel3.out.trans (bel4.mono Bel3.out.size))
        clear bel4 Bel3
        go_wp2_with fail
        go_ret3
        have HRd := hid (show rd l = .err 15 0 by unfold rd; rw [← Hvr.out]; simp only [if_pos hn])
        rw [HRd.out]
        exact ⟨rfl, Bel4.out⟩
      · have hi := hi3 (by omega)
        by_cases hsh : l.length < i + n + 4
        · first
            | (exfalso; omega)
            | (have HT := hid (Take_no g a1 c1 L i (n + 4) _ HC3.out hiL (by omega) (by omega))
               go_wp2_with fail
               refine HT.out.mono ?_
               rintro e w4 ⟨rfl, bel4⟩
               have Bel4 := hid (Bel3.out.trans (bel4.mono Bel3.out.size))
               clear bel4 Bel3
               go_wp2_with fail
               refine (New_any 1 _ _).mono ?_
               rintro e w5 ⟨rfl, bel5⟩
               have Bel5 := hid (Bel4.out.trans (bel5.mono Bel4.out.size))
               clear bel5 Bel4
               go_wp2_with fail
               go_ret3
               have HRd := hid (show rd l = .err 1 l.length by unfold rd; rw [← Hvr.out]; simp only [if_neg hn, if_pos hsh])
               rw [HRd.out]
               exact ⟨rfl, Bel5.out⟩)
        · obtain ⟨M, hM⟩ : ∃ M, M = (L.drop i).take (n + 4) := ⟨_, rfl⟩
          have HM := hid (show M = (l.drop i).take (n + 4) by
            rw [hM, HL.out, List.drop_take, List.take_take, show min (n + 4) (65544 - i) = n + 4 by omega])
          have hMl : M.length = n + 4 := by rw [hM]; simp; omega
          have HT := hid (Take_ok g a1 c1 L i (n + 4) _ HC3.out (by omega) (by omega) M hM)
          clear hM
          go_wp2_with fail
          refine HT.out.mono ?_
          rintro e w4 ⟨a4, c4, rfl, own4, cur4, bel4⟩
          have HO4 := hid own4
          have HC4 := hid cur4
          have Bel4 := hid (Bel3.out.trans (bel4.mono Hg.out))
          have HMl := hid hMl
          clear bel4 own4 cur4 Bel3 HT HC3 hMl
          by_cases hs : isSealed M = true
          · have HOp := hid (Open_yes a4 c4 M w4 HO4.out.rd HO4.out.cap (by have := HMl.out; omega) hs)
            have hb : body M = (l.drop i).take n := by rw [body, HMl.out, HM.out, List.take_take]; congr 1; omega
            obtain ⟨p, hp⟩ : ∃ p, p = body M := ⟨_, rfl⟩
            rw [← hp] at HOp hb
            have HRd := hid (show rd l = .ok p (i + n + 4) by unfold rd; rw [← Hvr.out, hb]; simp only [if_neg hn, if_neg hsh]; rw [← HM.out, if_pos hs])
            clear hp hb hs
            go_wp2_with fail
            refine HOp.out.mono ?_
            rintro e w5 ⟨a5, c5, rfl, own5, bel5⟩
            have HO5 := hid (own5.mono Bel4.out.size)
            have Bel5 := hid (Bel4.out.trans (bel5.mono Bel4.out.size))
            have HC5 := hid (HC4.out.later bel5)
            clear own5 bel5 Bel4 HC4 HO4 HOp
            go_wp2_with fail
            refine (At_cur g a1 c1 L (i + (n + 4)) _ HC5.out).mono ?_
            rintro e w6 ⟨rfl, bel6⟩
            have HO6 := hid (HO5.out.later bel6)
            have Bel6 := hid (Bel5.out.trans (bel6.mono Bel5.out.size))
            clear bel6 Bel5 HC5 HO5
            go_wp2_with fail
            go_ret3
            rw [HRd.out]
            exact ⟨a5, c5, rfl, HO6.out, Bel6.out⟩
          · have hs' : isSealed M = false := by simpa using hs
            have HOp := hid (Open_no a4 c4 M w4 HO4.out.rd HO4.out.cap (by have := HMl.out; omega) hs')
            have HRd := hid (show rd l = .err 4 i by unfold rd; rw [← Hvr.out]; simp only [if_neg hn, if_neg hsh]; rw [← HM.out, if_neg hs])
            clear hs hs'
            go_wp2_with fail
            refine HOp.out.mono ?_
            rintro e w5 ⟨a5, c5, rfl, own5, bel5⟩
            have Bel5 := hid (Bel4.out.trans (bel5.mono Bel4.out.size))
            clear own5 bel5 Bel4 HC4 HO4 HOp
            go_wp2_with fail
            refine (New_any 4 _ _).mono ?_
            rintro e w6 ⟨rfl, bel6⟩
            have Bel6 := hid (Bel5.out.trans (bel6.mono Bel5.out.size))
            clear bel6 Bel5
            go_wp2_with fail
            go_ret3
            rw [HRd.out]
            exact ⟨rfl, Bel6.out⟩
end Go.Proofs.YtgbgcfdniodfpaaDoor
