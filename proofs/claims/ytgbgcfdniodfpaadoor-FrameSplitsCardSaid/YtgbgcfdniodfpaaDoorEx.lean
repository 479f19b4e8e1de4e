/- crc.Extend. -/
import Derived.Test.YtgbgcfdniodfpaaDoorMd
namespace Go.Proofs.YtgbgcfdniodfpaaDoor
open Go.RowKit
set_option linter.unusedVariables false

/-- a checksum continued by bytes -/
def ext (s : BitVec 32) (l : List B8) : BitVec 32 := ~~~ rreg (~~~ s) l
def crc (l : List B8) : BitVec 32 := ext 0#32 l

theorem not_int (s : BitVec 32) : bits BinOp.xor IntKind.u32 IntKind.u32.max (s.toNat : Int) = ((~~~ s).toNat : Int) := by
  have hs := s.isLt
  rw [show IntKind.u32.max = ((4294967295 : Nat) : Int) from rfl, u32_xor_nat _ _ (by omega) hs]
  have : (4294967295 : Nat) = (BitVec.allOnes 32).toNat := rfl
  rw [this, ← BitVec.toNat_xor, BitVec.allOnes_xor]

theorem rreg_snoc (r : BitVec 32) (l : List B8) (k : Nat) (h : k < l.length) : rreg r (l.take (k + 1)) = rfeed (rreg r (l.take k)) l[k] := by
  rw [List.take_succ_eq_append_getElem h, rreg, List.foldl_append]; rfl

theorem feed_int (r : BitVec 32) (c d : B8) (h : d = r.setWidth 8 ^^^ c) :
    bits BinOp.xor IntKind.u32 ((r.toNat : Int) / 256) ((rsteps 8 (d.setWidth 32)).toNat : Int) = ((rfeed r c).toNat : Int) := by
  have hr := r.isLt
  have e : (r.toNat : Int) / (256 : Int) = ((r >>> 8).toNat : Int) := by
    rw [BitVec.toNat_ushiftRight, Nat.shiftRight_eq_div_pow]; omega
  rw [rfeed_table, e, u32_xor_nat _ _ (BitVec.isLt _) (BitVec.isLt _), BitVec.toNat_xor, h]

theorem idx_int (r : BitVec 32) (c : B8) : bits BinOp.xor IntKind.u8 ((r.toNat : Int) % 256) (c.toNat : Int) = ((r.setWidth 8 ^^^ c).toNat : Int) := by
  have e : (r.toNat : Int) % 256 = ((r.setWidth 8).toNat : Int) := by rw [BitVec.toNat_setWidth]; omega
  rw [e, u8_xor_nat _ _ (BitVec.isLt _) (BitVec.isLt _), BitVec.toNat_xor]

set_option maxRecDepth 100000 in
set_option maxHeartbeats 1000000 in
theorem Extend_any (s : BitVec 32) (a : Option Addr) (c : Nat) (l : List B8) (w : World) (hr : Rd w a l) (hl : l.length ≤ 9223372036854775807) :
    Calls Tryd.prog 46 #[bv32 s, .slice a l.length c] w fun e w' => e = .returned (bv32 (ext s l)) ∧ Below w.heap.size w w' := by
  have hz := zero256
  have hs := s.isLt
  go_enter Tryd.func46, Tryd.ntmps46
  go_wp2_with fail
  refine (made_any _).mono ?_
  rintro e w1 ⟨rfl, bel⟩
  go_wp2_with (first | refine wpList_store_row (o := ⟨none, .store 99 (.tmp 5) (.tmp 9), _, _, _, _⟩) rfl 99 _ _ rfl w1.heap.size tab rfl rfl 99 zs256 (heap_alloc_new _ _) (by rw [info256]; simp [tab, tabTo_size]) rfl (tabTo_one 256) ?_)
  rw [World.setRow_alloc_new]
  have Bel := hid (show Below w.heap.size w (w1.alloc (.cells tab 99)) from bel.alloc bel.size _)
  have Htab := hid (show ∀ d : B8, (w1.alloc (.cells tab 99)).cell? ⟨w1.heap.size, d.toNat, none⟩ = some (bv32 (rsteps 8 (d.setWidth 32))) from fun d => by
    rw [cell_of_row _ _ _ _ _ _ (heap_alloc_new _ _), tab_get])
  have Hr := hid hr
  clear hr bel
  go_loopw [6, 14] (fun r i wr => (∃ k : Nat, k ≤ l.length ∧ i = .int .i64 k ∧ r = bv32 (rreg (~~~ s) (l.take k))) ∧ Below w.heap.size w wr ∧ ∀ d : B8, wr.cell? ⟨w1.heap.size, d.toNat, none⟩ = some (bv32 (rsteps 8 (d.setWidth 32)))) (fun _ i _ => l.length - (intOf i).toNat)
  case atStart => exact ⟨⟨0, by omega, rfl, u32_eq (not_int s)⟩, Bel.out, Htab.out⟩
  case round =>
    obtain ⟨⟨k, hk, rfl, rfl⟩, bel, htab⟩ := hrel
    clear Bel Htab
    have Htab := hid htab; clear htab
    by_cases hlt : k < l.length
    · obtain ⟨b, off, rfl, hc⟩ := (Hr.out.later bel).gets (by intro e; subst e; simp at hlt)
      have h1 := hc k hlt
      clear hc
      have hstep := rreg_snoc (~~~ s) l k hlt
      generalize rreg (~~~ s) (l.take k) = r at *
      generalize l[k] = x at *
      obtain ⟨d, hd⟩ : ∃ d : B8, d = r.setWidth 8 ^^^ x := ⟨_, rfl⟩
      have h2 := Htab.out d
      have hi := idx_int r x
      rw [← hd] at hi
      have Hf := hid (feed_int r x d hd)
      rw [← hstep] at Hf
      clear hstep hd
      have hdl := d.isLt
      have hrl := r.isLt
      go_wp2_with fail
      go_roundw
      case rel => exact ⟨⟨k + 1, by omega, by go_num, u32_eq Hf.out⟩, bel, Htab.out⟩
      case measure => simp [intOf]; omega
    · obtain rfl : k = l.length := by omega
      have He := hid (show rreg (~~~ s) (l.take l.length) = rreg (~~~ s) l by rw [List.take_length])
      generalize rreg (~~~ s) (l.take l.length) = r at *
      go_wp2_with fail
      go_ret
      exact ⟨ret_eq (Eq.trans (show _ = Value.int .u32 (bits BinOp.xor IntKind.u32 IntKind.u32.max (r.toNat : Int)) from rfl) (u32_eq (by rw [not_int, He.out]; rfl))), bel⟩
end Go.Proofs.YtgbgcfdniodfpaaDoor
