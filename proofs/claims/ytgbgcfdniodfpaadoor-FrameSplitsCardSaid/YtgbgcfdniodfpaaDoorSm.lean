/- The walk of the reference's Same. -/
import Derived.Test.YtgbgcfdniodfpaaDoorRt
import Derived.StillTailTactics
namespace Go.Proofs.YtgbgcfdniodfpaaDoor
open Go.RowKit
set_option linter.unusedVariables false

set_option maxRecDepth 100000 in
set_option maxHeartbeats 2000000 in
theorem rSame_yes (a1 a2 : Option Addr) (c1 c2 : Nat) (ps qs : List Part) (w : World) (h1 : Rds w a1 ps) (h2 : Rds w a2 qs) (hl : ps.length ≤ 1000000) (he : ps.map Part.bs = qs.map Part.bs) :
    Calls Tryd.prog 21 #[.slice a1 ps.length c1, .slice a2 qs.length c2] w fun e w' => e = .returned (.bool true) ∧ Below w.heap.size w w' := by
  have H1 := hid h1
  have H2 := hid h2
  have HEq := hid he
  have hlen : qs.length = ps.length := by have := congrArg List.length he; simpa using this.symm
  rw [hlen]
  obtain ⟨n, hn⟩ : ∃ n, n = ps.length := ⟨_, rfl⟩
  rw [← hn] at hl ⊢
  have Hn := hid hn
  have Hq := hid hlen
  clear h1 h2 he hlen hn
  go_enter Tryd.func21, Tryd.ntmps21
  go_wp2_with fail
  go_loopw [5] (fun i wr => (∃ (k : Nat), i = .int .i64 k ∧ k ≤ n) ∧ Below w.heap.size w wr) (fun i _ => n - (intOf i).toNat)
  case atStart => exact ⟨⟨0, rfl, by omega⟩, Below.refl _ _⟩
  case round =>
    obtain ⟨⟨k, rfl, hk⟩, bel⟩ := hrel
    have Bel := hid bel
    clear bel
    by_cases hlt : k < n
    · have hk1 : k < ps.length := by have := Hn.out; omega
      have hk2 : k < qs.length := by have := Hn.out; have := Hq.out; omega
      obtain ⟨b1, o1, rfl, hc1⟩ := (H1.out.later Bel.out).gets (by intro e; rw [e] at hk1; simp at hk1)
      obtain ⟨b2, o2, rfl, hc2⟩ := (H2.out.later Bel.out).gets (by intro e; rw [e] at hk2; simp at hk2)
      have g1 := hc1 k hk1
      have g2 := hc2 k hk2
      have p1 := (H1.out.later Bel.out).2 ps[k] (List.getElem_mem hk1)
      have p2 := (H2.out.later Bel.out).2 qs[k] (List.getElem_mem hk2)
      have hbs : ps[k].bs = qs[k].bs := by
        have := congrArg (fun l => l[k]?) HEq.out
        simpa [List.getElem?_eq_getElem hk1, List.getElem?_eq_getElem hk2] using this
      clear hc1 hc2
      generalize ps[k] = x at *
      generalize qs[k] = y at *
      obtain ⟨xa, xc, xl⟩ := x
      obtain ⟨ya, yc, yl⟩ := y
      simp only at hbs
      subst hbs
      change _ = some (Value.slice xa xl.length xc) at g1
      change _ = some (Value.slice ya xl.length yc) at g2
      have P1 := hid p1
      have P2 := hid p2
      clear p1 p2
      have hp1 : ((k : Nat) : Int) < (n : Int) := by omega
      have hp0 : (0 : Int) ≤ (k : Int) := by omega
      go_wp2_with fail
      go_still_tail 8, (by kernel_rfl)
      change wpList _ _ _ _ _ wr.drew
      go_wp2_with fail
      refine (Same_any xa ya xc yc xl xl wr.drew (P1.out.1.later ((Below.refl _ _).drew)) (P2.out.1.later ((Below.refl _ _).drew)) P1.out.2 P2.out.2 true (by simp)).mono ?_
      rintro e w2 ⟨rfl, bel2⟩
      have Bel2 := hid (Bel.out.trans ((((Below.refl wr.heap.size wr).drew).trans bel2).mono Bel.out.size))
      clear bel2
      go_wp2_with fail
      go_roundw
      case rel => exact ⟨⟨k + 1, by go_num, by omega⟩, Bel2.out⟩
      case measure => simp [intOf]; omega
    · go_wp2_with fail
      go_ret
      exact ⟨rfl, Bel.out⟩
end Go.Proofs.YtgbgcfdniodfpaaDoor
