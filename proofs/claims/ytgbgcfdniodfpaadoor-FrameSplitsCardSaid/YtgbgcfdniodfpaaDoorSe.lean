/- crc.Sum, crc.Seal, and the reference's Seal. -/
import Derived.Test.YtgbgcfdniodfpaaDoorFa
import Derived.Test.YtgbgcfdniodfpaaDoorSl
namespace Go.Proofs.YtgbgcfdniodfpaaDoor
open Go.RowKit
set_option linter.unusedVariables false

theorem ext_append (s : BitVec 32) (a b : List B8) : ext (ext s a) b = ext s (a ++ b) := by
  unfold ext
  rw [BitVec.not_not, rreg, rreg, rreg, List.foldl_append]

/-- a part of a list of slices: where it lies, its capacity, its bytes -/
structure Part where
  at_ : Option Addr
  cap : Nat
  bs : List B8

abbrev Part.val (p : Part) : Value := .slice p.at_ p.bs.length p.cap

/-- a slice of slices reads as the parts ps -/
def Rds (w : World) (a : Option Addr) (ps : List Part) : Prop :=
  (ps = [] ∨ ∃ b off, a = some ⟨b, off, none⟩ ∧ ∀ j (h : j < ps.length), w.cell? ⟨b, off + j, none⟩ = some ps[j].val) ∧ ∀ p ∈ ps, Rd w p.at_ p.bs ∧ p.bs.length ≤ 4000000

theorem Rds.later {w w' : World} {a : Option Addr} {ps : List Part} (h : Rds w a ps) (hb : Below w.heap.size w w') : Rds w' a ps := by
  refine ⟨?_, fun p hp => ⟨(h.2 p hp).1.later hb, (h.2 p hp).2⟩⟩
  rcases h.1 with h | ⟨b, off, ha, hc⟩
  · exact .inl h
  · exact .inr ⟨b, off, ha, fun j hj => cell_later hb (hc j hj)⟩

theorem Rds.gets {w : World} {a : Option Addr} {ps : List Part} (h : Rds w a ps) (hl : ps ≠ []) :
    ∃ b off, a = some ⟨b, off, none⟩ ∧ ∀ j (h : j < ps.length), w.cell? ⟨b, off + j, none⟩ = some ps[j].val := by
  rcases h.1 with h | h
  · exact absurd h hl
  · exact h

theorem rds_one {w : World} {a : Option Addr} {l : List B8} (c : Nat) (tt : TypeId) (h : Rd w a l) (hl : l.length ≤ 4000000) :
    Rds (w.alloc (.cells #[.slice a l.length c] tt)) (some ⟨w.heap.size, 0, none⟩) [⟨a, c, l⟩] :=
  ⟨.inr ⟨w.heap.size, 0, rfl, fun j hj => by
      obtain rfl : j = 0 := by simpa using hj
      rw [cell_of_row _ _ _ _ _ _ (heap_alloc_new _ _)]; rfl⟩, fun p hp => by
      obtain rfl : p = ⟨a, c, l⟩ := by simpa using hp
      exact ⟨h.later ((Below.refl _ _).alloc (Nat.le_refl _) _), hl⟩⟩

def sumTo (ps : List Part) : BitVec 32 := ps.foldl (fun s p => ext s p.bs) 0#32

theorem foldl_ext (s : BitVec 32) (ps : List Part) : ps.foldl (fun s p => ext s p.bs) s = ext s (ps.flatMap (·.bs)) := by
  induction ps generalizing s with
  | nil => simp [ext, rreg]
  | cons p ps ih => rw [List.foldl_cons, ih, ext_append, List.flatMap_cons]
theorem sumTo_eq (ps : List Part) : sumTo ps = crc (ps.flatMap (·.bs)) := foldl_ext _ _
theorem sumTo_succ (ps : List Part) (k : Nat) (h : k < ps.length) : sumTo (ps.take (k + 1)) = ext (sumTo (ps.take k)) ps[k].bs := by
  rw [List.take_succ_eq_append_getElem h, sumTo, List.foldl_append]; rfl

set_option maxRecDepth 100000 in
set_option maxHeartbeats 1000000 in
theorem Sum_any (a : Option Addr) (c : Nat) (ps : List Part) (w : World) (hr : Rds w a ps) (hl : ps.length ≤ 4000000) :
    Calls Tryd.prog 41 #[.slice a ps.length c] w fun e w' => e = .returned (bv32 (crc (ps.flatMap (·.bs)))) ∧ Below w.heap.size w w' := by
  have Hr := hid hr
  clear hr
  obtain ⟨n, hm⟩ : ∃ n, n = ps.length := ⟨_, rfl⟩
  rw [← hm] at hl ⊢
  have Hm := hid hm
  clear hm
  go_enter Tryd.func41, Tryd.ntmps41
  go_wp2_with fail
  go_loopw [3, 8] (fun s i wr => (∃ k : Nat, k ≤ n ∧ i = .int .i64 k ∧ s = bv32 (sumTo (ps.take k))) ∧ Below w.heap.size w wr) (fun _ i _ => n - (intOf i).toNat)
  case atStart => exact ⟨⟨0, by omega, rfl, rfl⟩, Below.refl _ _⟩
  case round =>
    obtain ⟨⟨k, hk, rfl, rfl⟩, bel⟩ := hrel
    by_cases hlt : k < n
    · have hk1 : k < ps.length := by have := Hm.out; omega
      obtain ⟨b, off, rfl, hc⟩ := (Hr.out.later bel).gets (by intro e; rw [e] at hk1; simp at hk1)
      have h1 := hc k hk1
      have hp := (Hr.out.later bel).2 ps[k] (List.getElem_mem hk1)
      clear hc
      have Hstep := hid (sumTo_succ ps k hk1)
      generalize sumTo (ps.take k) = r at *
      generalize ps[k] = x at *
      have Hp := hid hp
      clear hp
      obtain ⟨xa, xc, xl⟩ := x
      go_wp2_with fail
      refine (Extend_any r xa xc xl _ Hp.out.1 (Nat.le_trans Hp.out.2 (by omega))).mono ?_
      rintro e w2 ⟨rfl, bel2⟩
      go_wp2_with fail
      go_roundw
      case rel => exact ⟨⟨k + 1, by omega, by go_num, by rw [Hstep.out]⟩, bel.trans (bel2.mono bel.size)⟩
      case measure => simp [intOf]; omega
    · obtain rfl : k = n := by omega
      have He := hid (show sumTo (ps.take k) = crc (ps.flatMap (·.bs)) by rw [Hm.out, List.take_length, sumTo_eq])
      generalize sumTo (ps.take k) = r at *
      go_wp2_with fail
      go_ret
      exact ⟨ret_eq (by rw [← He.out]; rfl), bel⟩

/-- the four bytes of a checksum, the lowest one first -/
def le4 (x : BitVec 32) : List B8 := [x.setWidth 8, (x >>> 8).setWidth 8, (x >>> 16).setWidth 8, (x >>> 24).setWidth 8]

/-- the sealed string of bytes -/
def sealOf (l : List B8) : List B8 := l ++ le4 (crc l)

theorem sealOf_length (l : List B8) : (sealOf l).length = l.length + 4 := by simp [sealOf, le4]

theorem Own.alloc {w : World} {B : Nat} {a : Option Addr} {c : Nat} {l : List B8} (h : Own w B a c l) (o : Obj) : Own (w.alloc o) B a c l :=
  h.later ((Below.refl _ _).alloc (Nat.le_refl _) _)

/-- where a row of the call's own lies, and that it may be written -/
theorem Own.at {w : World} {B : Nat} {a : Option Addr} {c : Nat} {l : List B8} (h : Own w B a c l) (hl : l ≠ []) :
    ∃ g, a = some ⟨g, 0, none⟩ ∧ B ≤ g ∧ g < w.heap.size ∧ (∀ j (hj : j < l.length), w.cell? ⟨g, j, none⟩ = some (bv8 l[j])) ∧ ∀ j, w.frozen? ⟨g, j, none⟩ = false := by
  have hr := h.rd
  rcases h.2 with ⟨_, h2⟩ | ⟨g, cap, cur, hv, hg, hh, r⟩
  · exact absurd (List.eq_nil_of_length_eq_zero h2) hl
  · obtain ⟨rfl, rfl⟩ : a = some ⟨g, 0, none⟩ ∧ c = cap := by simpa using hv
    refine ⟨g, rfl, hg, (Array.getElem?_eq_some_iff.1 hh).1, fun j hj => ?_, fun j => frozen_of_row w g j cur _ hh⟩
    rcases hr with h | ⟨b, off, ha, hc⟩
    · exact absurd h hl
    · obtain ⟨rfl, rfl⟩ : g = b ∧ 0 = off := by simpa using ha
      have := hc j hj
      rwa [Nat.zero_add] at this

theorem own_set {w : World} {B g c : Nat} {l : List B8} (h : Own w B (some ⟨g, 0, none⟩) c l) (j : Nat) (v : B8) (hj : j < l.length) :
    Own (w.setCell ⟨g, j, none⟩ (bv8 v)) B (some ⟨g, 0, none⟩) c (l.set j v) := by
  rcases h.2 with ⟨h1, _⟩ | ⟨g', cap, cur, hv, hg, hh, hle, hm, hs, ht⟩
  · simp at h1
  · obtain ⟨rfl, rfl⟩ : g = g' ∧ c = cap := by simpa using hv
    refine ⟨by simp, .inr ⟨g, c, cur.setIfInBounds j (bv8 v), by simp, hg, heap_setCell_same _ _ _ _ _ _ hh, by simpa using hle, hm, by simpa using hs, ?_⟩⟩
    rw [Array.toList_setIfInBounds, List.length_set, List.take_set, ht, List.map_set]

theorem byte_int (x : BitVec 32) (k : Nat) : (x.toNat : Int) / 2 ^ k % 256 = (((x >>> k).setWidth 8).toNat : Int) := by
  rw [BitVec.toNat_setWidth, BitVec.toNat_ushiftRight, Nat.shiftRight_eq_div_pow, Int.natCast_emod, Int.natCast_ediv, Int.natCast_pow]; rfl

theorem le4_take (x : BitVec 32) (k : Nat) (hk : k < 4) : (le4 x).take k ++ [(x >>> (8 * k)).setWidth 8] = (le4 x).take (k + 1) := by
  match k, hk with
  | 0, _ => simp [le4]
  | 1, _ => simp [le4]
  | 2, _ => simp [le4]
  | 3, _ => simp [le4]

set_option maxRecDepth 100000 in
set_option maxHeartbeats 1000000 in
theorem Seal_any (a : Option Addr) (c : Nat) (l : List B8) (w : World) (hr : Rd w a l) (hl : l.length ≤ 3999990) :
    Calls Tryd.prog 25 #[.slice a l.length c] w (Gives w (sealOf l)) := by
  obtain ⟨i0, hi, hz0, hz1, hz2⟩ := info_parts A.infoB
  have Hr := hid hr
  clear hr
  go_enter Tryd.func25, Tryd.ntmps25
  go_wp2_with fail
  refine (Clone_any a c l _ Hr.out (by omega)).mono ?_
  rintro e w1 ⟨a1, c1, rfl, own1, bel1⟩
  have Own1 := hid own1
  have Bel1 := hid bel1
  clear own1 bel1
  go_wp2_with fail
  have Rp := hid (show Rds (w1.alloc (.cells #[.slice a l.length c] 22)) (some ⟨w1.heap.size, 0, none⟩) [⟨a, c, l⟩] from
    ⟨.inr ⟨w1.heap.size, 0, rfl, fun j hj => by
      obtain rfl : j = 0 := by simpa using hj
      rw [cell_of_row _ _ _ _ _ _ (heap_alloc_new _ _)]; rfl⟩, fun p hp => by
      obtain rfl : p = ⟨a, c, l⟩ := by simpa using hp
      exact ⟨(Hr.out.later Bel1.out).later ((Below.refl _ _).alloc (Nat.le_refl _) _), by simp only; omega⟩⟩)
  refine (Sum_any _ 1 [⟨a, c, l⟩] _ Rp.out (by simp)).mono ?_
  rintro e w2 ⟨rfl, bel2⟩
  have Hx := hid (show crc ([(⟨a, c, l⟩ : Part)].flatMap (·.bs)) = crc l by simp)
  generalize crc ([(⟨a, c, l⟩ : Part)].flatMap (·.bs)) = x at *
  have hxl := x.isLt
  have bw : Below w1.heap.size w1 w2 := ((Below.refl _ w1).alloc (Nat.le_refl _) _).trans (bel2.mono (by simp))
  have Own2 := hid (Own1.out.later bw)
  have Bel2 := hid (Bel1.out.trans (bw.mono Bel1.out.size))
  clear Rp bel2 bw Own1 Bel1
  go_wp2_with fail
  go_loopw [3, 11] (fun s i wr => (∃ (k : Nat) (L : List B8) (a' : Option Addr) (c' : Nat), k ≤ 4 ∧ i = .int .i64 k ∧ s = .slice a' L.length c' ∧ Hid (L = l ++ (le4 x).take k) ∧ Hid (Own wr w.heap.size a' c' L)) ∧ Below w.heap.size w wr) (fun _ i _ => 4 - (intOf i).toNat)
  case atStart => exact ⟨⟨0, l, a1, c1, by omega, rfl, rfl, hid (by simp), hid Own2.out⟩, Bel2.out⟩
  case round =>
    clear Own2 Bel2
    obtain ⟨⟨k, L, a', c', hk, rfl, rfl, HL, HO⟩, bel⟩ := hrel
    by_cases hlt : k < 4
    · have HLl := hid (show L.length = l.length + k by rw [HL.out]; simp [le4]; omega)
      go_wp2_with (at_builtin; refine wpList_append_own _ rfl _ _ 22 rfl w.heap.size 5 i0 (.int .u8 0) 1 1 Tryd.underlying22 hi hz0 hz1 hz2 rfl (by decide) _ _ _ rfl (HO.out.alloc _) ⟨wr.heap.size, 0, none⟩ 1 1 [_] rfl rfl (cell_one_new _ _ _) ?c2 ?c3 ?c4 ?c5 ?_)
      case c2 => simp [Value.oneCell']
      case c3 => unfold maxLen; have := HLl.out; omega
      case c4 => have := HLl.out; omega
      case c5 => have := bel.size; simp; omega
      intro v' w3 hown hgrow _
      have hB : w.heap.size ≤ wr.heap.size := bel.size
      obtain ⟨a3, c3, rfl, own3, bel3⟩ := app_out (M := [(x >>> (8 * k)).setWidth 8]) HO.out bel hB hown hgrow (by rw [byte_int]; rfl)
      have HO3 := hid own3
      have HL3 := hid (show L ++ [(x >>> (8 * k)).setWidth 8] = l ++ (le4 x).take (k + 1) by rw [HL.out, List.append_assoc, le4_take x k hlt])
      generalize L ++ [(x >>> (8 * k)).setWidth 8] = L3 at *
      clear hown hgrow own3 bel HO HL HLl
      go_wp2_with fail
      go_roundw
      case rel => exact ⟨⟨k + 1, L3, a3, c3, by omega, by go_num, rfl, HL3, HO3⟩, bel3⟩
      case measure => simp [intOf]; omega
    · obtain rfl : k = 4 := by omega
      have HL4 := hid (show L = sealOf l by rw [HL.out, Hx.out]; simp [sealOf, le4])
      go_wp2_with fail
      go_ret
      exact ⟨a', c', by rw [← HL4.out]; rfl, by rw [← HL4.out]; exact HO.out, bel⟩

theorem le4_vals (x : BitVec 32) : [Value.int IntKind.u8 ((x.toNat : Int) % 256), Value.int IntKind.u8 ((x.toNat : Int) / 256 % 256), Value.int IntKind.u8 ((x.toNat : Int) / 65536 % 256), Value.int IntKind.u8 ((x.toNat : Int) / 16777216)] = (le4 x).map bv8 := by
  have hx := x.isLt
  have h0 := byte_int x 0
  have h1 := byte_int x 8
  have h2 := byte_int x 16
  have h3 := byte_int x 24
  simp only [le4, List.map_cons, List.map_nil, bv8]
  rw [← h1, ← h2, ← h3]
  have e0 : ((x.setWidth 8).toNat : Int) = (x.toNat : Int) % 256 := by rw [BitVec.toNat_setWidth]; omega
  rw [e0]
  have e3 : (x.toNat : Int) / 2 ^ 24 % 256 = (x.toNat : Int) / 16777216 := by omega
  rw [e3]
  rfl

set_option maxRecDepth 100000 in
set_option maxHeartbeats 1000000 in
theorem rSeal_any (a : Option Addr) (c : Nat) (l : List B8) (w : World) (hr : Rd w a l) (hl : l.length ≤ 3999990) :
    Calls Tryd.prog 17 #[.slice a l.length c] w (Gives w (sealOf l)) := by
  obtain ⟨i0, hi, hz0, hz1, hz2⟩ := info_parts A.infoB
  have Hr := hid hr
  clear hr
  go_enter Tryd.func17, Tryd.ntmps17
  go_wp2_with fail
  refine (Fast_any a c l _ Hr.out (by omega)).mono ?_
  rintro e w1 ⟨rfl, bel1⟩
  have Bel1 := hid bel1
  obtain ⟨x, hx⟩ : ∃ x, x = crc l := ⟨_, rfl⟩
  rw [← hx]
  have Hx := hid hx
  clear bel1 hx
  have hxl := x.isLt
  have hB := Bel1.out.size
  have HO := hid (own_new w1 w.heap.size hB #[] [] rfl (by simp))
  have HR := hid ((Hr.out.later Bel1.out).later ((Below.refl _ w1).alloc (Nat.le_refl _) (.cells #[] 5)))
  go_wp2_with (at_builtin; refine wpList_app rfl _ _ rfl w.heap.size _ _ [] rfl HO.out _ _ l rfl HR.out ?c1 ?c2 ?_)
  case c1 => simp; omega
  case c2 => simp; omega
  intro l2 a2 c2 w2 HN Own2 bel2
  have Bel2 := hid ((Bel1.out.alloc hB _).trans bel2.out)
  have hl2 : l2.length ≤ 3999990 := by rw [HN.out]; simpa using hl
  clear HO HR Bel1 bel2
  have hB2 := Bel2.out.size
  go_wp2_with (at_builtin; refine wpList_app rfl _ _ rfl w.heap.size _ _ l2 rfl (Own2.out.alloc _) _ _ (le4 x) rfl (rd_new _ _ _ _ ?d1) ?d2 ?d3 ?_)
  case d1 => exact le4_vals x
  case d2 => simp [le4]; omega
  case d3 => simp; omega
  intro l3 a3 c3 w3 HN3 Own3 bel3
  have Bel3 := hid ((Bel2.out.alloc hB2 _).trans bel3.out)
  have HL4 := hid (show l3 = sealOf l by rw [HN3.out, HN.out, Hx.out]; rfl)
  clear bel3 Own2 Bel2 HN HN3
  go_wp2_with fail
  go_ret
  exact ⟨a3, c3, by rw [← HL4.out]; rfl, by rw [← HL4.out]; exact Own3.out, Bel3.out⟩
end Go.Proofs.YtgbgcfdniodfpaaDoor
