/- The walk of the reference's Join. -/
import Derived.Test.YtgbgcfdniodfpaaSe
namespace Go.Proofs.Ytgbgcfdniodfpaa
open Go.RowKit
set_option linter.unusedVariables false

def joinTo (ps : List Part) (k : Nat) : List B8 := (ps.take k).flatMap (·.bs)
theorem joinTo_succ (ps : List Part) (k : Nat) (h : k < ps.length) : joinTo ps (k + 1) = joinTo ps k ++ ps[k].bs := by
  unfold joinTo
  rw [List.take_succ_eq_append_getElem h, List.flatMap_append]; simp
theorem joinTo_all (ps : List Part) : joinTo ps ps.length = ps.flatMap (·.bs) := by unfold joinTo; rw [List.take_length]
theorem joinTo_le (ps : List Part) (k : Nat) : (joinTo ps k).length ≤ (ps.flatMap (·.bs)).length := by
  have e : ps.flatMap (·.bs) = joinTo ps k ++ (ps.drop k).flatMap (·.bs) := by
    unfold joinTo
    rw [← List.flatMap_append, List.take_append_drop]
  rw [e, List.length_append]; omega

set_option maxRecDepth 100000 in
set_option maxHeartbeats 1000000 in
theorem rJoin_any (a : Option Addr) (c : Nat) (ps : List Part) (w : World) (hr : Rds w a ps) (hl : ps.length ≤ 4000000) (ht : (ps.flatMap (·.bs)).length ≤ 3000000) :
    Calls Try.prog 9 #[.slice a ps.length c] w (Gives w (ps.flatMap (·.bs))) := by
  have Hr := hid hr
  have Ht := hid ht
  clear hr ht
  obtain ⟨n, hm⟩ : ∃ n, n = ps.length := ⟨_, rfl⟩
  rw [← hm] at hl ⊢
  have Hm := hid hm
  clear hm
  go_enter Try.func9, Try.ntmps9
  go_wp2_with fail
  go_loopw [3, 4] (fun s i wr => (∃ (k : Nat) (L : List B8) (a' : Option Addr) (c' : Nat), k ≤ n ∧ i = .int .i64 k ∧ s = .slice a' L.length c' ∧ Hid (L = joinTo ps k) ∧ Hid (Own wr w.heap.size a' c' L)) ∧ Below w.heap.size w wr) (fun _ i _ => n - (intOf i).toNat)
  case atStart => exact ⟨⟨0, [], none, 0, by omega, rfl, rfl, hid rfl, hid (own_nil _ _)⟩, Below.refl _ _⟩
  case round =>
    obtain ⟨⟨k, L, a', c', hk, rfl, rfl, HL, HO⟩, bel⟩ := hrel
    have Bel := hid bel
    have hB : w.heap.size ≤ wr.heap.size := bel.size
    by_cases hlt : k < n
    · have hk1 : k < ps.length := by have := Hm.out; omega
      obtain ⟨b, off, rfl, hc⟩ := (Hr.out.later bel).gets (by intro e; rw [e] at hk1; simp at hk1)
      have h1 := hc k hk1
      have hp := (Hr.out.later bel).2 ps[k] (List.getElem_mem hk1)
      have Hs := hid (joinTo_succ ps k hk1)
      have hle := joinTo_le ps (k + 1)
      rw [Hs.out, List.length_append, ← HL.out] at hle
      have hle := Nat.le_trans hle Ht.out
      clear hc bel
      generalize ps[k] = x at *
      have Hp := hid hp
      have Hle := hid hle
      clear hp hle
      obtain ⟨xa, xc, xl⟩ := x
      go_wp2_with (at_builtin; refine wpList_app rfl _ _ rfl w.heap.size _ _ L rfl HO.out _ _ xl rfl Hp.out.1 ?k1 hB ?_)
      case k1 => exact Nat.le_trans Hle.out (by omega)
      intro L2 a2 c2 w2 HN Own2 bel2
      have Bel2 := hid (Bel.out.trans bel2.out)
      have HL2 := hid (show L2 = joinTo ps (k + 1) by rw [HN.out, Hs.out, HL.out])
      clear bel2 HN Bel HO HL Hs Hle Hp
      go_wp2_with fail
      go_roundw
      case rel => exact ⟨⟨k + 1, L2, a2, c2, by omega, by go_num, rfl, HL2, Own2⟩, Bel2.out⟩
      case measure => simp [intOf]; omega
    · obtain rfl : k = n := by omega
      have HL2 := hid (show L = ps.flatMap (·.bs) by rw [HL.out, Hm.out, joinTo_all])
      clear bel
      go_wp2_with fail
      go_ret
      exact ⟨a', c', by rw [← HL2.out]; rfl, by rw [← HL2.out]; exact HO.out, Bel.out⟩
end Go.Proofs.Ytgbgcfdniodfpaa
