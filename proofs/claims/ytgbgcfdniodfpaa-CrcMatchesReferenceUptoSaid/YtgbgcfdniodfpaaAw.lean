/- vestrylaw03.awake. -/
import Derived.Test.YtgbgcfdniodfpaaOp
namespace Go.Proofs.Ytgbgcfdniodfpaa
open Go.RowKit
set_option linter.unusedVariables false

def ab : List B8 := [97#8, 98#8]
theorem sealed123 : isSealed [1#8, 2#8, 3#8] = false := by decide
theorem crc_check : crc [49#8, 50#8, 51#8, 52#8, 53#8, 54#8, 55#8, 56#8, 57#8] = 0xcbf43926#32 := by decide +kernel
theorem crc_nil : crc [] = 0#32 := by decide

theorem rds_two (w : World) (C1 C2 : Array Value) (t tt : TypeId) (f1 f2 : Nat × Nat) (c1 c2 : Nat) (M1 M2 : List B8) (h1 : C1.toList = M1.map bv8) (h2 : C2.toList = M2.map bv8) (l1 : M1.length ≤ 4000000) (l2 : M2.length ≤ 4000000) :
    Rds (((w.alloc (.cells C1 t f1)).alloc (.cells C2 t f2)).alloc (.cells #[.slice (some ⟨w.heap.size, 0, none⟩) M1.length c1, .slice (some ⟨w.heap.size + 1, 0, none⟩) M2.length c2] tt)) (some ⟨w.heap.size + 2, 0, none⟩)
      [⟨some ⟨w.heap.size, 0, none⟩, c1, M1⟩, ⟨some ⟨w.heap.size + 1, 0, none⟩, c2, M2⟩] := by
  have r1 := rd_new w C1 t (fr := f1) M1 h1
  have r2 := rd_new (w.alloc (.cells C1 t f1)) C2 t (fr := f2) M2 h2
  rw [World.size_alloc] at r2
  have b : ∀ (v : World) (o : Obj), Below v.heap.size v (v.alloc o) := fun v o => (Below.refl _ _).alloc (Nat.le_refl _) _
  have hn := heap_alloc_new ((w.alloc (.cells C1 t f1)).alloc (.cells C2 t f2)) (.cells #[.slice (some ⟨w.heap.size, 0, none⟩) M1.length c1, .slice (some ⟨w.heap.size + 1, 0, none⟩) M2.length c2] tt)
  rw [World.size_alloc, World.size_alloc] at hn
  refine ⟨.inr ⟨w.heap.size + 2, 0, rfl, fun j hj => ?_⟩, fun p hp => ?_⟩
  · rw [cell_of_row _ _ _ _ _ _ hn, Nat.zero_add]
    have : j < 2 := by simpa using hj
    match j, this with
    | 0, _ => rfl
    | 1, _ => rfl
  · simp only [List.mem_cons, List.not_mem_nil, or_false] at hp
    rcases hp with rfl | rfl
    · exact ⟨(r1.later (b _ _)).later (b _ _), l1⟩
    · exact ⟨r2.later (b _ _), l2⟩

set_option maxRecDepth 100000 in
set_option maxHeartbeats 1000000 in
theorem awake_any (w : World) :
    Calls Try.prog 8 #[] w fun e w' => e = .returned (.bool true) ∧ Below w.heap.size w w' := by
  have kc := fun (w : World) (C : Array Value) (n c : Nat) => Lib.run_convert_bytes_const (P := Try.prog) w 24 5 C n c Try.underlying24 Try.underlying5
  have kc2 := fun (w : World) (X : Obj) (C : Array Value) (n c : Nat) => (show (convert 24 24 (.slice (some ⟨w.heap.size + 1, 0, none⟩) n c)).run Try.prog ((w.alloc X).alloc (.cells C 5)) = .ok (.slice (some ⟨w.heap.size + 1, 0, none⟩) n c) ((w.alloc X).alloc (.cells C 5 (C.size, C.size + 1))) from by
    have h := kc (w.alloc X) C n c
    rwa [World.size_alloc] at h)
  go_enter Try.func8, Try.ntmps8
  go_wp2_with fail
  refine (Seal_any (some ⟨w.heap.size, 0, none⟩) 2 ab _ (rd_new _ _ _ _ rfl) (by simp [ab])).mono ?_
  rintro e w1 ⟨a1, c1, rfl, own1, bel1⟩
  have Own1 := hid own1
  have Bel1 := hid (((Below.refl _ w).alloc (Nat.le_refl _) _).trans (bel1.mono (by simp)))
  have hc1 := own1.cap
  obtain ⟨y, hy⟩ : ∃ y, y = sealOf ab := ⟨_, rfl⟩
  rw [← hy] at Own1 hc1 ⊢
  have hyl : y.length = 6 := by rw [hy]; rfl
  have Hs := hid (show isSealed y = true by rw [hy]; exact isSealed_seal _)
  have Hb := hid (show body y = ab by rw [hy]; exact body_seal _)
  have Hyl := hid hyl
  have hc6 : 6 ≤ c1 := by omega
  clear hy own1 bel1 hc1 hyl
  go_wp2_with fail
  refine (Open_yes a1 c1 y _ Own1.out.rd (by have := Hyl.out; omega) (by have := Hyl.out; omega) Hs.out).mono ?_
  rintro e w2 ⟨a2, c2, rfl, own2, bel2⟩
  rw [Hb.out] at own2 ⊢
  have Own2 := hid own2
  have Bel2 := hid (Bel1.out.trans (bel2.mono Bel1.out.size))
  clear own2 bel2
  go_wp2_with fail
  refine (Open_no (some ⟨w2.heap.size, 0, none⟩) 3 [1#8, 2#8, 3#8] _ (rd_new _ _ _ _ rfl) (by simp) (by simp) sealed123).mono ?_
  rintro e w3 ⟨a3, c3, rfl, own3, bel3⟩
  have bw3 : Below w2.heap.size w2 w3 := ((Below.refl _ w2).alloc (Nat.le_refl _) _).trans (bel3.mono (by simp))
  have Own3 := hid (Own2.out.later bw3)
  have Bel3 := hid (Bel2.out.trans (bw3.mono Bel2.out.size))
  clear own3 bel3 bw3
  go_wp2_with fail
  refine (Sum_any (some ⟨w3.heap.size + 2, 0, none⟩) 2 [⟨some ⟨w3.heap.size, 0, none⟩, 4, [49#8, 50#8, 51#8, 52#8]⟩, ⟨some ⟨w3.heap.size + 1, 0, none⟩, 5, [53#8, 54#8, 55#8, 56#8, 57#8]⟩] _ ?hr (by simp)).mono ?_
  case hr => exact rds_two w3 _ _ _ _ _ _ 4 5 [49#8, 50#8, 51#8, 52#8] [53#8, 54#8, 55#8, 56#8, 57#8] rfl rfl (by simp) (by simp)
  rintro e w4 ⟨rfl, bel4⟩
  have bw4 : Below w3.heap.size w3 w4 := ((((Below.refl _ w3).alloc (Nat.le_refl _) _).alloc (by simp) _).alloc (by simp; omega) _).trans (bel4.mono (by simp; omega))
  have Own4 := hid (Own3.out.later bw4)
  have Bel4 := hid (Bel3.out.trans (bw4.mono Bel3.out.size))
  clear bel4 bw4 Own3 Bel3
  rw [show crc ([(⟨some ⟨w3.heap.size, 0, none⟩, 4, [49#8, 50#8, 51#8, 52#8]⟩ : Part), ⟨some ⟨w3.heap.size + 1, 0, none⟩, 5, [53#8, 54#8, 55#8, 56#8, 57#8]⟩].flatMap (·.bs)) = 0xcbf43926#32 from crc_check, show bv32 0xcbf43926#32 = Value.int .u32 3421780262 from rfl]
  go_wp2_with fail
  refine (Sum_any none 0 [] _ ⟨.inl rfl, fun p hp => by cases hp⟩ (by simp)).mono ?_
  rintro e w5 ⟨rfl, bel5⟩
  have Own5 := hid (Own4.out.later bel5)
  have Bel5 := hid (Bel4.out.trans (bel5.mono Bel4.out.size))
  clear bel5 Own4 Bel4
  rw [show crc (([] : List Part).flatMap (·.bs)) = 0#32 from crc_nil, show bv32 0#32 = Value.int .u32 0 from rfl]
  obtain ⟨b, off, rfl, hcs⟩ := Own5.out.rd.gets (by simp [ab])
  have kstr : (convert 24 9 (.slice (some ⟨b, off, none⟩) ab.length c2)).run Try.prog w5 = .ok (.string ⟨#[97, 98]⟩) w5 :=
    run_convert_bytes_arg w5 24 5 Try.underlying24 Try.underlying5 b off ab.length c2 [97, 98] rfl (fun i hi => by
      have hi' : i < 2 := hi
      rcases (show i = 0 ∨ i = 1 by omega) with rfl | rfl
      · exact hcs 0 hi
      · exact hcs 1 hi) 9 Try.underlying9
  clear hcs Own5
  have hy6 : ((y.length : Int) == 6) = true := by rw [Hyl.out]; rfl
  clear kc kc2
  go_wp2_with fail
  go_ret
  exact ⟨rfl, Bel5.out⟩
end Go.Proofs.Ytgbgcfdniodfpaa
