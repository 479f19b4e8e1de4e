/- wire.Put, the reference's Put, frame.Size. -/
import Derived.Test.YtgbgcfdniodfpaaDoorFt
import Derived.Test.YtgbgcfdniodfpaaDoorPf
namespace Go.Proofs.YtgbgcfdniodfpaaDoor
open Go.RowKit
set_option linter.unusedVariables false

theorem vput_short {n : Nat} (hn : n ≤ 1099511627776) : (vput n).length ≤ 6 := vput_le (k := 5) (by omega)

theorem rd_one (w : World) (t : TypeId) (v : Int) (x : B8) (h : v = (x.toNat : Int)) : Rd (w.alloc (.cells #[.int .u8 v] t)) (some ⟨w.heap.size, 0, none⟩) [x] :=
  rd_new w #[.int .u8 v] t [x] (by rw [h]; rfl)

theorem or_all : ∀ a < 256, bits BinOp.or IntKind.u8 ((a : Nat) : Int) 128 = ((BitVec.ofNat 8 (a % 128 + 128)).toNat : Int) := by decide +kernel
theorem or_int (m : Nat) : bits BinOp.or IntKind.u8 ((m : Int) % 256) 128 = ((BitVec.ofNat 8 (m % 128 + 128)).toNat : Int) := by
  have h := or_all (m % 256) (by omega)
  rw [show m % 256 % 128 = m % 128 by omega] at h
  rw [← h]; rfl

set_option maxRecDepth 100000 in
set_option maxHeartbeats 1000000 in
theorem wPut_any (n : Nat) (w : World) (hn : n ≤ 1099511627776) : Calls Tryd.prog 24 #[.int .u64 n] w (Gives w (vput n)) := by
  have Hn := hid (vput_short hn)
  go_enter Tryd.func24, Tryd.ntmps24
  go_wp2_with fail
  go_loopw [0, 3] (fun x s wr => (∃ (m : Nat) (L : List B8) (a' : Option Addr) (c' : Nat), m ≤ n ∧ x = .int .u64 m ∧ s = .slice a' L.length c' ∧ Hid (L ++ vput m = vput n) ∧ Hid (Own wr w.heap.size a' c' L)) ∧ Below w.heap.size w wr) (fun x _ _ => (intOf x).toNat)
  case atStart => exact ⟨⟨n, [], none, 0, by omega, rfl, rfl, hid (by simp), hid (own_nil _ _)⟩, Below.refl _ _⟩
  case round =>
    obtain ⟨⟨m, L, a', c', hm, rfl, rfl, HL, HO⟩, bel⟩ := hrel
    have Bel := hid bel
    have hB : w.heap.size ≤ wr.heap.size := bel.size
    have hLl : L.length ≤ 6 := by have := congrArg List.length HL.out; rw [List.length_append] at this; have := Hn.out; omega
    clear bel
    by_cases hlt : m < 128
    · have Hv := hid (vput_small hlt)
      go_wp2_with (at_builtin; refine wpList_app rfl _ _ rfl w.heap.size _ _ L rfl (HO.out.alloc _) _ _ [BitVec.ofNat 8 m] rfl (rd_one _ _ _ _ ?k0) ?k1 ?k2 ?_)
      case k0 => simp; omega
      case k1 => simp; omega
      case k2 => simp; omega
      intro L2 a2 c2 w2 HN Own2 bel2
      have Bel2 := hid ((Bel.out.alloc hB _).trans bel2.out)
      have HL2 := hid (show L2 = vput n by rw [HN.out, ← HL.out, Hv.out])
      clear bel2 HN Bel HO HL Hv
      go_wp2_with fail
      go_ret
      exact ⟨a2, c2, by rw [← HL2.out]; rfl, by rw [← HL2.out]; exact Own2.out, Bel2.out⟩
    · have Hv := hid (vput_big hlt)
      go_wp2_with (at_builtin; refine wpList_app rfl _ _ rfl w.heap.size _ _ L rfl (HO.out.alloc _) _ _ [BitVec.ofNat 8 (m % 128 + 128)] rfl (rd_one _ _ _ _ ?k0) ?k1 ?k2 ?_)
      case k0 => exact or_int m
      case k1 => simp; omega
      case k2 => simp; omega
      intro L2 a2 c2 w2 HN Own2 bel2
      have Bel2 := hid ((Bel.out.alloc hB _).trans bel2.out)
      have HL2 := hid (show L2 ++ vput (m / 128) = vput n by rw [HN.out, ← HL.out, Hv.out]; simp)
      clear bel2 HN Bel HO HL Hv
      go_wp2_with fail
      go_roundw
      case rel => exact ⟨⟨m / 128, L2, a2, c2, by omega, by go_num, rfl, HL2, Own2⟩, Bel2.out⟩
      case measure => simp [intOf]; omega

set_option maxRecDepth 100000 in
set_option maxHeartbeats 1000000 in
theorem rPut_any (n : Nat) (w : World) (hn : n ≤ 1099511627776) : Calls Tryd.prog 16 #[.int .u64 n] w (Gives w (vput n)) := by
  have Hn := hid (vput_short hn)
  go_enter Tryd.func16, Tryd.ntmps16
  go_wp2_with fail
  go_loopw [0, 3] (fun x s wr => (∃ (m : Nat) (L : List B8) (a' : Option Addr) (c' : Nat), m ≤ n ∧ x = .int .u64 m ∧ s = .slice a' L.length c' ∧ Hid (L ++ vput m = vput n) ∧ Hid (Own wr w.heap.size a' c' L)) ∧ Below w.heap.size w wr) (fun x _ _ => (intOf x).toNat)
  case atStart => exact ⟨⟨n, [], none, 0, by omega, rfl, rfl, hid (by simp), hid (own_nil _ _)⟩, Below.refl _ _⟩
  case round =>
    obtain ⟨⟨m, L, a', c', hm, rfl, rfl, HL, HO⟩, bel⟩ := hrel
    have Bel := hid bel
    have hB : w.heap.size ≤ wr.heap.size := bel.size
    have hLl : L.length ≤ 6 := by have := congrArg List.length HL.out; rw [List.length_append] at this; have := Hn.out; omega
    clear bel
    by_cases hlt : m < 128
    · have Hv := hid (vput_small hlt)
      have hq : ((m : Int) / 128 == 0) = true := by simp; omega
      go_wp2_with (at_builtin; refine wpList_app rfl _ _ rfl w.heap.size _ _ L rfl (HO.out.alloc _) _ _ [BitVec.ofNat 8 m] rfl (rd_one _ _ _ _ ?k0) ?k1 ?k2 ?_)
      case k0 => simp; omega
      case k1 => simp; omega
      case k2 => simp; omega
      intro L2 a2 c2 w2 HN Own2 bel2
      have Bel2 := hid ((Bel.out.alloc hB _).trans bel2.out)
      have HL2 := hid (show L2 = vput n by rw [HN.out, ← HL.out, Hv.out])
      clear bel2 HN Bel HO HL Hv
      go_wp2_with fail
      go_ret
      exact ⟨a2, c2, by rw [← HL2.out]; rfl, by rw [← HL2.out]; exact Own2.out, Bel2.out⟩
    · have Hv := hid (vput_big hlt)
      have hq : ((m : Int) / 128 == 0) = false := by simp; omega
      go_wp2_with (at_builtin; refine wpList_app rfl _ _ rfl w.heap.size _ _ L rfl (HO.out.alloc _) _ _ [BitVec.ofNat 8 (m % 128 + 128)] rfl (rd_one _ _ _ _ ?k0) ?k1 ?k2 ?_)
      case k0 => simp; omega
      case k1 => simp; omega
      case k2 => simp; omega
      intro L2 a2 c2 w2 HN Own2 bel2
      have Bel2 := hid ((Bel.out.alloc hB _).trans bel2.out)
      have HL2 := hid (show L2 ++ vput (m / 128) = vput n by rw [HN.out, ← HL.out, Hv.out]; simp)
      clear bel2 HN Bel HO HL Hv
      go_wp2_with fail
      go_roundw
      case rel => exact ⟨⟨m / 128, L2, a2, c2, by omega, by go_num, rfl, HL2, Own2⟩, Bel2.out⟩
      case measure => simp [intOf]; omega

set_option maxRecDepth 100000 in
set_option maxHeartbeats 1000000 in
theorem Size_any (n : Nat) (w : World) (hn : n ≤ 1099511627776) : Calls Tryd.prog 13 #[.int .i64 n] w fun e w' => e = .returned (.int .i64 (((vput n).length + n + 4 : Nat) : Int)) ∧ Below w.heap.size w w' := by
  have hl := vput_short hn
  go_enter Tryd.func13, Tryd.ntmps13
  go_wp2_with fail
  refine (wPut_any n _ hn).mono ?_
  rintro e w1 ⟨a1, c1, rfl, own1, bel1⟩
  have Bel1 := hid bel1
  clear own1 bel1
  obtain ⟨k, hk⟩ : ∃ k, k = (vput n).length := ⟨_, rfl⟩
  rw [← hk] at hl ⊢
  have Hk := hid hk
  clear hk
  go_wp2_with fail
  go_ret
  exact ⟨ret_eq (by rw [← Hk.out]; go_num), Bel1.out⟩
end Go.Proofs.YtgbgcfdniodfpaaDoor
