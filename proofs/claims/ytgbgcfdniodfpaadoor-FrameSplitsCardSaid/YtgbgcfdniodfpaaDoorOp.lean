/- crc.Open; the reference's Sealed and Spread. -/
import Derived.Test.YtgbgcfdniodfpaaDoorSe
namespace Go.Proofs.YtgbgcfdniodfpaaDoor
open Go.RowKit
set_option linter.unusedVariables false

/-- what a string holds ahead of its last four bytes -/
def body (l : List B8) : List B8 := l.take (l.length - 4)
/-- whether a string is sealed -/
def isSealed (l : List B8) : Bool := decide (4 ≤ l.length) && decide (sealOf (body l) = l)

/-- a slice and a bool come back: the bytes in a new row -/
def GivesOk (w : World) (l : List B8) (ok : Bool) (e : Ending) (w' : World) : Prop :=
  ∃ a c, e = .returned (.tuple #[.slice a l.length c, .bool ok]) ∧ Own w' w.heap.size a c l ∧ Below w.heap.size w w'

theorem body_length (l : List B8) : (body l).length = l.length - 4 := by simp [body]
theorem body_rd {w : World} {a : Option Addr} {l : List B8} (h : Rd w a l) : Rd w a (body l) := h.take _
theorem body_le (l : List B8) : (body l).length ≤ l.length := by rw [body_length]; omega
theorem isSealed_seal (l : List B8) : isSealed (sealOf l) = true := by
  have h : body (sealOf l) = l := by
    have := sealOf_length l
    unfold body
    rw [this, show l.length + 4 - 4 = l.length by omega, sealOf, List.take_left]
  unfold isSealed
  rw [h, sealOf_length]; simp
theorem body_seal (l : List B8) : body (sealOf l) = l := by
  have := sealOf_length l
  unfold body
  rw [this, show l.length + 4 - 4 = l.length by omega, sealOf, List.take_left]

theorem Own.cap {w : World} {B : Nat} {a : Option Addr} {c : Nat} {l : List B8} (h : Own w B a c l) : l.length ≤ c := by
  rcases h.2 with ⟨_, h2⟩ | ⟨g, cap, cur, hv, hg, hh, hle, _⟩
  · omega
  · obtain ⟨rfl, rfl⟩ : a = some ⟨g, 0, none⟩ ∧ c = cap := by simpa using hv
    exact hle

theorem Seal_body (a : Option Addr) (c : Nat) (l : List B8) (w : World) (hr : Rd w a l) (hl : l.length ≤ 3999990) :
    Calls Tryd.prog 25 #[.slice a (l.length - 4) c] w (Gives w (sealOf (body l))) := by
  have := Seal_any a c (body l) w (body_rd hr) (Nat.le_trans (body_le l) hl)
  rwa [body_length] at this
theorem Clone_body (a : Option Addr) (c : Nat) (l : List B8) (w : World) (hr : Rd w a l) (hl : l.length ≤ 3999990) :
    Calls Tryd.prog 40 #[.slice a (l.length - 4) c] w (Gives w (body l)) := by
  have := Clone_any a c (body l) w (body_rd hr) (Nat.le_trans (body_le l) (by omega))
  rwa [body_length] at this
theorem Fast_body (a : Option Addr) (c : Nat) (l : List B8) (w : World) (hr : Rd w a l) (hl : l.length ≤ 3999990) :
    Calls Tryd.prog 37 #[.slice a (l.length - 4) c] w fun e w' => e = .returned (bv32 (crc (body l))) ∧ Below w.heap.size w w' := by
  have := Fast_any a c (body l) w (body_rd hr) (Nat.le_trans (body_le l) (by omega))
  rwa [body_length] at this

set_option maxRecDepth 100000 in
set_option maxHeartbeats 1000000 in
theorem Open_no (a : Option Addr) (c : Nat) (l : List B8) (w : World) (hr : Rd w a l) (hc : l.length ≤ c) (hl : l.length ≤ 3999990) (hs : isSealed l = false) :
    Calls Tryd.prog 32 #[.slice a l.length c] w (GivesOk w [] false) := by
  have Hr := hid hr
  clear hr
  by_cases h4 : l.length < 4
  · have hd : decide ((l.length : Int) - 4 < 0) = true := by simp; omega
    have hn : (l.length : Int) < 4 := by omega
    clear hs
    go_enter Tryd.func32, Tryd.ntmps32
    go_wp2_with fail
    go_ret2
    exact ⟨none, 0, rfl, own_nil _ _, Below.refl _ _⟩
  · have hd : decide ((l.length : Int) - 4 < 0) = false := by simp; omega
    have hn : ¬ (l.length : Int) < 4 := by omega
    have Hs := hid (show sealOf (body l) ≠ l by
      intro e; unfold isSealed at hs; rw [decide_eq_true (show 4 ≤ l.length by omega), e] at hs; simp at hs)
    clear hs
    go_enter Tryd.func32, Tryd.ntmps32
    go_wp2_with fail
    refine (Seal_body a c l _ Hr.out hl).mono ?_
    rintro e w1 ⟨a1, c1, rfl, own1, bel1⟩
    have Own1 := hid own1
    have Bel1 := hid bel1
    have hl1 : (sealOf (body l)).length ≤ 4000000 := by rw [sealOf_length, body_length]; omega
    clear own1 bel1
    obtain ⟨y, hy⟩ : ∃ y, y = sealOf (body l) := ⟨_, rfl⟩
    rw [← hy] at hl1 Own1 Hs ⊢
    clear hy
    go_wp2_with fail
    refine (Equal_any a1 a c1 c y l _ Own1.out.rd (Hr.out.later Bel1.out) hl1 (by omega) false (by rw [decide_eq_false Hs.out])).mono ?_
    rintro e w2 ⟨rfl, bel2⟩
    have Bel2 := hid (Bel1.out.trans (bel2.mono Bel1.out.size))
    clear bel2
    go_wp2_with fail
    go_ret2
    exact ⟨none, 0, rfl, own_nil _ _, Bel2.out⟩

set_option maxRecDepth 100000 in
set_option maxHeartbeats 1000000 in
theorem Open_yes (a : Option Addr) (c : Nat) (l : List B8) (w : World) (hr : Rd w a l) (hc : l.length ≤ c) (hl : l.length ≤ 3999990) (hs : isSealed l = true) :
    Calls Tryd.prog 32 #[.slice a l.length c] w (GivesOk w (body l) true) := by
  have Hr := hid hr
  clear hr
  have h4 : 4 ≤ l.length := by unfold isSealed at hs; simp at hs; omega
  have Hs := hid (show sealOf (body l) = l by unfold isSealed at hs; simp at hs; exact hs.2)
  clear hs
  have hd : decide ((l.length : Int) - 4 < 0) = false := by simp; omega
  have hn : ¬ (l.length : Int) < 4 := by omega
  go_enter Tryd.func32, Tryd.ntmps32
  go_wp2_with fail
  refine (Seal_body a c l _ Hr.out hl).mono ?_
  rintro e w1 ⟨a1, c1, rfl, own1, bel1⟩
  have Own1 := hid own1
  have Bel1 := hid bel1
  have hl1 : (sealOf (body l)).length ≤ 4000000 := by rw [sealOf_length, body_length]; omega
  clear own1 bel1
  obtain ⟨y, hy⟩ : ∃ y, y = sealOf (body l) := ⟨_, rfl⟩
  rw [← hy] at hl1 Own1 Hs ⊢
  clear hy
  go_wp2_with fail
  refine (Equal_any a1 a c1 c y l _ Own1.out.rd (Hr.out.later Bel1.out) hl1 (by omega) true (by rw [decide_eq_true Hs.out])).mono ?_
  rintro e w2 ⟨rfl, bel2⟩
  have Bel2 := hid (Bel1.out.trans (bel2.mono Bel1.out.size))
  clear bel2
  go_wp2_with fail
  refine (Clone_body a c l _ (Hr.out.later Bel2.out) hl).mono ?_
  rintro e w3 ⟨a3, c3, rfl, own3, bel3⟩
  have Own3 := hid (own3.mono Bel2.out.size)
  have Bel3 := hid (Bel2.out.trans (bel3.mono Bel2.out.size))
  clear bel3 own3
  obtain ⟨y, hy⟩ : ∃ y, y = body l := ⟨_, rfl⟩
  rw [← hy] at Own3 ⊢
  have Hy := hid hy
  clear hy
  go_wp2_with fail
  go_ret2
  exact ⟨a3, c3, by rw [← Hy.out]; rfl, by rw [← Hy.out]; exact Own3.out, Bel3.out⟩

theorem sealed_iff (l : List B8) (h4 : 4 ≤ l.length) (x : BitVec 32) (hx : x = crc (body l)) :
    isSealed l = decide (x.setWidth 8 = l[l.length - 4] ∧ (x >>> 8).setWidth 8 = l[l.length - 4 + 1] ∧ (x >>> 16).setWidth 8 = l[l.length - 4 + 2] ∧ (x >>> 24).setWidth 8 = l[l.length - 4 + 3]) := by
  unfold isSealed
  rw [decide_eq_true h4, Bool.true_and]
  congr 1
  have hd : l = body l ++ l.drop (l.length - 4) := by unfold body; rw [List.take_append_drop]
  have e4 : l.drop (l.length - 4) = [l[l.length - 4], l[l.length - 4 + 1], l[l.length - 4 + 2], l[l.length - 4 + 3]] := by
    apply List.ext_getElem
    · simp; omega
    · intro i h1 h2
      have : i < 4 := by simpa using h2
      rw [List.getElem_drop]
      match i, this with
      | 0, _ => rfl
      | 1, _ => rfl
      | 2, _ => rfl
      | 3, _ => rfl
  have e : (sealOf (body l) = l) ↔ le4 x = l.drop (l.length - 4) := by
    rw [sealOf, hx]
    constructor
    · intro h
      have h' : body l ++ le4 (crc (body l)) = body l ++ l.drop (l.length - 4) := by rw [h]; exact hd
      exact List.append_cancel_left h'
    · intro h
      rw [h]; exact hd.symm
  rw [e, e4, le4]
  simp

theorem byte_iff (v y : B8) (z : Int) (h : (v.toNat : Int) = z) : v = y ↔ (y.toNat : Int) = z := by
  rw [← h]
  exact ⟨fun e => by rw [e], fun e => BitVec.eq_of_toNat_eq (by omega)⟩
theorem sealed_dec (x : BitVec 32) (y0 y1 y2 y3 : B8) : decide (x.setWidth 8 = y0 ∧ (x >>> 8).setWidth 8 = y1 ∧ (x >>> 16).setWidth 8 = y2 ∧ (x >>> 24).setWidth 8 = y3) =
    (decide ((y0.toNat : Int) = (x.toNat : Int) % 256) && (decide ((y1.toNat : Int) = (x.toNat : Int) / 256 % 256) && (decide ((y2.toNat : Int) = (x.toNat : Int) / 65536 % 256) && ((y3.toNat : Int) == (x.toNat : Int) / 16777216)))) := by
  have hx := x.isLt
  rw [Bool.decide_and, Bool.decide_and, Bool.decide_and]
  simp only [byte_iff (x.setWidth 8) y0 ((x.toNat : Int) % 256) (by rw [BitVec.toNat_setWidth]; omega), byte_iff _ y1 ((x.toNat : Int) / 256 % 256) (by rw [← byte_int x 8]; rfl),
    byte_iff _ y2 ((x.toNat : Int) / 65536 % 256) (by rw [← byte_int x 16]; rfl), byte_iff _ y3 ((x.toNat : Int) / 16777216) (by rw [← byte_int x 24]; omega)]
  rfl

set_option maxRecDepth 100000 in
set_option maxHeartbeats 1000000 in
theorem Sealed_any (a : Option Addr) (c : Nat) (l : List B8) (w : World) (hr : Rd w a l) (hc : l.length ≤ c) (hl : l.length ≤ 3999990) (r : Bool) (hs : r = isSealed l) :
    Calls Tryd.prog 34 #[.slice a l.length c] w fun e w' => e = .returned (.bool r) ∧ Below w.heap.size w w' := by
  have Hr := hid hr
  have Hs := hid hs
  clear hr hs
  by_cases h4 : l.length < 4
  · have hn : (l.length : Int) < 4 := by omega
    have Hn := hid (show isSealed l = false by unfold isSealed; rw [decide_eq_false (by omega)]; rfl)
    go_enter Tryd.func34, Tryd.ntmps34
    go_wp2_with fail
    go_ret
    exact ⟨by rw [Hs.out, Hn.out]; rfl, Below.refl _ _⟩
  · have hn : ¬ (l.length : Int) < 4 := by omega
    have h4' : 4 ≤ l.length := by omega
    go_enter Tryd.func34, Tryd.ntmps34
    go_wp2_with fail
    refine (Fast_body a c l _ Hr.out hl).mono ?_
    rintro e w1 ⟨rfl, bel1⟩
    obtain ⟨b, off, rfl, hcs⟩ := (Hr.out.later bel1).gets (by intro e; rw [e] at h4'; simp at h4')
    have Bel1 := hid bel1
    clear bel1
    obtain ⟨x, hx⟩ : ∃ y, y = crc (body l) := ⟨_, rfl⟩
    rw [← hx]
    have Hi := hid (sealed_iff l h4' x hx)
    clear hx
    have g0 := hcs (l.length - 4) (by omega)
    have g1 := hcs (l.length - 4 + 1) (by omega)
    have g2 := hcs (l.length - 4 + 2) (by omega)
    have g3 := hcs (l.length - 4 + 3) (by omega)
    clear hcs
    generalize l[l.length - 4] = y0 at *
    generalize l[l.length - 4 + 1] = y1 at *
    generalize l[l.length - 4 + 2] = y2 at *
    generalize l[l.length - 4 + 3] = y3 at *
    have hxl := x.isLt
    rw [sealed_dec] at Hi
    go_wp2_with fail
    all_goals
      go_ret
      refine ⟨?_, Bel1.out⟩
      rw [Hs.out, Hi.out]
      simp [*]
end Go.Proofs.YtgbgcfdniodfpaaDoor
