/- One pass of the law over the iterator, and the rest of the law from the iterator on. -/
import Derived.Test.YtgbgcfdniodfpaaDoorRg
import Derived.Test.YtgbgcfdniodfpaaDoorBd
namespace Go.Proofs.YtgbgcfdniodfpaaDoor
open Go.RowKit
set_option linter.unusedVariables false
attribute [local go_sem] Oper.semAt_some

theorem drop_cons {α : Type} {L r : List α} {i : Nat} {x : α} (h : L.drop i = x :: r) : ∃ hi : i < L.length, L[i] = x ∧ L.drop (i + 1) = r := by
  have hi : i < L.length := by
    rcases Nat.lt_or_ge i L.length with h1 | h1
    · exact h1
    · rw [List.drop_eq_nil_of_le h1] at h; cases h
  rw [List.drop_eq_getElem_cons hi] at h
  cases h
  exact ⟨hi, rfl, rfl⟩

set_option maxRecDepth 100000 in
set_option maxHeartbeats 4000000 in
theorem pass_frames {C : Code} (hC : Tryd.f7.body.bind (inCode [1,1,1,1,1,1,1,0,1,0,0]) = some C) (kk Bk Br B7 B9 Bs pass : Nat) (a a1 a2 : Option Addr) (c c1 c2 : Nat) (b : List B8) (ps : List Part) (ss : List Nat) (v2 v3 : Value) (ds : List Deferred) (W : World)
    {x0 x1 x2 x5 x6 x10 x11 x12 x13 x14 x15 x16 x17 x18 x19 x20 x21 x22 x23 x24 x25 x26 x27 x28 x29 x30 x31 x32 x33 x34 x35 x36 x37 x38 x39 x40 x41 x42 x43 x44 x45 x46 x47 x48 x49 x50 x51 x52 x53 x54 x55 x56 x57 x58 x59 x60 x61 x62 x63 x64 x65 x66 x67 x68 x69 x70 x71 x72 x73 x74 x75 x76 x77 x78 x79 x80 x81 x82 x83 x84 x85 x86 x87 x88 x89 x90 x91 x92 x93 x94 x95 x96 x97 x98 x99 x100 x101 x102 x103 x104 x105 x106 x107 x108 x109 x110 x111 : Value}
    (hp : pass ≤ 1) (hkk : kk ≤ 255) (hc : b.length ≤ c) (hl : b.length ≤ 2000) (he : Et W) (hr : Rd W a b)
    (H7 : W.heap[B7]? = some (.cells #[.slice a1 ps.length c1, .slice a2 ss.length c2, v2, v3] 51 (0, 0)))
    (H9 : W.heap[B9]? = some (.cells #[.int .i64 (pass : Int)] 3 (0, 0))) (Hk : W.heap[Bk]? = some (.cells #[.int .u8 kk] 5 (0, 0)))
    (Hs : W.heap[Bs]? = some (.cells #[.slice a b.length c] 22 (0, 0)))
    (R1 : Rds W a1 ps) (R2 : RdN W a2 ss) (hm1 : ps.map Part.bs = (fr b 0).1.map Prod.snd) (hm2 : ss = (fr b 0).1.map Prod.fst)
    (Q : Exit → Act → World → Prop)
    (hgo : ∀ (y0 y1 y2 y5 y6 y10 y11 y12 y13 y14 y15 y16 y17 y18 y19 y20 y21 y22 y23 y24 y25 y26 y27 y28 y29 y30 y31 y32 y33 y34 y35 y36 y37 y38 y39 y40 y41 y42 y43 y44 y45 y46 y47 y48 y49 y50 y51 y52 y53 y54 y55 y56 y57 y58 y59 y60 y61 y62 y63 y64 y65 y66 y67 y68 y69 y70 y71 y72 y73 y74 y75 y76 y77 y78 y79 y80 y81 y82 y83 y84 y85 y86 y87 y88 y89 y90 y91 y92 y93 y94 y95 y96 y97 y98 y99 y100 y101 y102 y103 y104 y105 y106 y107 y108 y109 y110 y111 : Value) (D g9 : Nat) (W' : World), Below W.heap.size W W' → W.heap.size ≤ D → W'.heap[D]? = some (.deferred (some [])) → W'.heap[g9]? = some (.cells #[.int .i64 ((pass + 1 : Nat) : Int)] 3 (0, 0)) → W.heap.size ≤ g9 →
      Q .normal { tmps := #[y0, y1, y2, .pointer (some ⟨Bk, 0, none⟩), .pointer (some ⟨Br, 0, none⟩), y5, y6, .pointer (some ⟨B7, 0, none⟩), .func (.func 38) #[] #[.pointer (some ⟨Bs, 0, none⟩)], .pointer (some ⟨g9, 0, none⟩), y10, y11, y12, y13, y14, y15, y16, y17, y18, y19, y20, y21, y22, y23, y24, y25, y26, y27, y28, y29, y30, y31, y32, y33, y34, y35, y36, y37, y38, y39, y40, y41, y42, y43, y44, y45, y46, y47, y48, y49, y50, y51, y52, y53, y54, y55, y56, y57, y58, y59, y60, y61, y62, y63, y64, y65, y66, y67, y68, y69, y70, y71, y72, y73, y74, y75, y76, y77, y78, y79, y80, y81, y82, y83, y84, y85, y86, y87, y88, y89, y90, y91, y92, y93, y94, y95, y96, y97, y98, y99, y100, y101, y102, y103, y104, y105, y106, y107, y108, y109, y110, y111], defers := { target := .collected D, args := #[] } :: ds } W') :
    C.wpIn Fence.wide 4 Tryd.prog Q
      { tmps := #[x0, x1, x2, .pointer (some ⟨Bk, 0, none⟩), .pointer (some ⟨Br, 0, none⟩), x5, x6, .pointer (some ⟨B7, 0, none⟩), .func (.func 38) #[] #[.pointer (some ⟨Bs, 0, none⟩)], .pointer (some ⟨B9, 0, none⟩), x10, x11, x12, x13, x14, x15, x16, x17, x18, x19, x20, x21, x22, x23, x24, x25, x26, x27, x28, x29, x30, x31, x32, x33, x34, x35, x36, x37, x38, x39, x40, x41, x42, x43, x44, x45, x46, x47, x48, x49, x50, x51, x52, x53, x54, x55, x56, x57, x58, x59, x60, x61, x62, x63, x64, x65, x66, x67, x68, x69, x70, x71, x72, x73, x74, x75, x76, x77, x78, x79, x80, x81, x82, x83, x84, x85, x86, x87, x88, x89, x90, x91, x92, x93, x94, x95, x96, x97, x98, x99, x100, x101, x102, x103, x104, x105, x106, x107, x108, x109, x110, x111], defers := ds } W := by
  cases hC
  have HGo := hid hgo
  have HE := hid he
  have HR := hid hr
  have H7' := hid H7
  have H9' := hid H9
  have Hk' := hid Hk
  have Hs' := hid Hs
  have HR1 := hid R1
  have HR2 := hid R2
  have HM1 := hid hm1
  have HM2 := hid hm2
  have hlt9 : B9 < W.heap.size := (Array.getElem?_eq_some_iff.1 H9).1
  have hltk : Bk < W.heap.size := (Array.getElem?_eq_some_iff.1 Hk).1
  have hlts : Bs < W.heap.size := (Array.getElem?_eq_some_iff.1 Hs).1
  have hlt7 : B7 < W.heap.size := (Array.getElem?_eq_some_iff.1 H7).1
  clear hgo he hr H7 H9 Hk Hs R1 R2 hm1 hm2
  have k9 : W.cell? ⟨B9, 0, none⟩ = some (.int .i64 (pass : Int)) := by rw [cell_of_row _ _ _ _ _ _ H9'.out]; rfl
  have hp2 : (pass : Int) < 2 := by omega
  gi_wp2
  rename_i K1 hK1 K2 hK2
  have b9 : Below W.heap.size W (W.alloc (.cells #[.int .i64 0] 3)) := (Below.refl _ W).alloc (Nat.le_refl _) _
  have h10 : (W.alloc (.cells #[.int .i64 0] 3)).heap[W.heap.size]? = some (.cells #[.int .i64 0] 3) := heap_alloc_new _ _
  have hs9 : (W.alloc (.cells #[.int .i64 0] 3)).heap.size = W.heap.size + 1 := by simp
  obtain ⟨W9, hW9⟩ : ∃ W9, W9 = W.alloc (.cells #[.int .i64 0] 3) := ⟨_, rfl⟩
  rw [← hW9] at b9 h10 hs9 ⊢
  have hlL : (fr b 0).1.length ≤ 2000 := by have := fr_len b 0 (Nat.zero_le _); omega
  have hls : ss.length = (fr b 0).1.length := by rw [HM2.out]; simp
  have hlp : ps.length = (fr b 0).1.length := by have := congrArg List.length HM1.out; simpa using this
  have B9' := hid b9
  have Hs9 := hid hs9
  have H10 := hid h10
  have HLs := hid hls
  have HLp := hid hlp
  clear hls hlp h10 hW9 b9 hs9 k9 hp2
  refine range_frames Bs W.heap.size b a c hc hl ?had hlts (by have := Hs9.out; omega) rfl rfl (HE.out.later B9'.out) ?bx (HR.out.later B9'.out)
    (fun k W3 => (∃ i : Nat, W3.heap[W.heap.size]? = some (.cells #[.int .i64 (i : Int)] 3 (0, 0)) ∧ i ≤ (fr b 0).1.length ∧ (fr b 0).1.drop i = (fr b k).1) ∧ Below W.heap.size W9 W3)
    (fun cc W3 => pass = 0 ∧ cc = .exit 2 ∧ Below W.heap.size W9 W3) ?hI1 ?hI2 ?hIx2 ?h0 ?round ?done ?stop
  case had =>
    intro hb x hx
    obtain ⟨b1, o1, rfl, hcc⟩ := HR.out.gets hb
    cases hx
    have h0 := hcc 0 (by cases b with | nil => exact absurd rfl hb | cons _ _ => simp)
    rcases Nat.lt_or_ge b1 W.heap.size with h1 | h1
    · exact h1
    · simp [World.cell?, Array.getElem?_eq_none h1] at h0
  case bx => rw [cell_of_row _ _ _ _ _ _ (heap_later Hs'.out B9'.out)]; rfl
  case hI1 =>
    rintro k W1 W2 ⟨⟨i, hi, hi2, hi3⟩, hbw⟩ hb
    exact ⟨⟨i, heap_later hi hb, hi2, hi3⟩, hbw.trans (hb.mono (Nat.le_of_lt (Array.getElem?_eq_some_iff.1 hi).1))⟩
  case hI2 =>
    rintro k W1 l o' ⟨⟨i, hi, hi2, hi3⟩, hbw⟩ hl'
    have := Hs9.out
    exact ⟨⟨i, (World.putObj_heap_other (by omega)).trans hi, hi2, hi3⟩, hbw.trans (below_putObj _ (by omega))⟩
  case hIx2 =>
    rintro cc W1 l o' ⟨h1, h2, hbw⟩ hl'
    have := Hs9.out
    exact ⟨h1, h2, hbw.trans (below_putObj _ (by omega))⟩
  case h0 => exact ⟨⟨0, H10.out, Nat.zero_le _, by simp⟩, Below.refl _ _⟩
  case round =>
    rintro l k p u a' c' W1 W2 hk hrd ⟨⟨i, hi, hi2, hi3⟩, hbw⟩ hR hc'
    obtain ⟨hi4, hi5, hi6⟩ := drop_cons (x := (k, p)) (r := (fr b (k + u)).1) (hi3.trans (by rw [fr_ok hk hrd]))
    have hps : i < ps.length := by have := HLp.out; omega
    have hss : i < ss.length := by have := HLs.out; omega
    have e1 : ps[i].bs = p := by
      have h := congrArg (fun L => L[i]?) HM1.out
      simpa [List.getElem?_eq_getElem hps, List.getElem?_eq_getElem hi4, hi5] using h
    have e2 : ss[i] = k := by
      have h := congrArg (fun L => L[i]?) HM2.out
      simpa [List.getElem?_eq_getElem hss, List.getElem?_eq_getElem hi4, hi5] using h
    have bl2 : Below W.heap.size W W2 := B9'.out.trans hbw
    have hpl : p.length ≤ 4000000 := by have := (rd_ok hrd).1; omega
    have hpl2 := hid hpl
    have C2 := hid hc'
    have HRd := hid hR
    have BL2 := hid bl2
    have BW := hid hbw
    have E1 := hid e1
    have E2 := hid e2
    have Hi := hid hi
    have Hi6 := hid hi6
    have Hi4 := hid hi4
    clear hi3 hi5 hpl hc' hR bl2 hbw e1 e2 hi hi6 hi4 hrd hi2
    simp only [List.zip_toArray, List.zip_cons_cons, List.zip_nil_right, List.foldl_toArray', List.foldl_cons, List.foldl_nil, List.size_toArray, List.length_cons, List.length_nil]
    gi_wp2
    have ls := HLs.out
    have lp := HLp.out
    have i4 := Hi4.out
    refine ⟨trivial, body_frames (C := _) rfl l kk Bk Br B7 B9 W.heap.size pass i k a' a1 a2 c' c1 c2 p ps ss v2 v3 W2 hkk hps hss (by omega) (by omega)
      ((BL2.out.block _ hlt7).trans H7'.out) Hi.out ((BL2.out.block _ hlt9).trans H9'.out) ((BL2.out.block _ hltk).trans Hk'.out) (by omega) (by omega)
      (HR1.out.later BL2.out) (HR2.out.later BL2.out) HRd.out hpl2.out E1.out E2.out _ ?hn ?hx⟩
    case hn => exact fun a3 W3 hko hbl hi3 => ⟨hko, hbl, ⟨i + 1, hi3, by omega, Hi6.out⟩, BW.out.trans hbl⟩
    case hx => exact fun h0 a3 W3 hko hbl => ⟨hko, h0, rfl, BW.out.trans hbl⟩
  case done =>
    rintro D k W3 hD hk hk0 ⟨⟨i, hi, hi2, hi3⟩, hbw⟩ hde
    have hil : i = ss.length := by
      have h1 : (fr b 0).1.length ≤ i := by
        have h2 := congrArg List.length (hi3.trans hk0)
        simp at h2; omega
      have := HLs.out
      omega
    have b3 : Below W.heap.size W W3 := B9'.out.trans hbw
    have hDW : W.heap.size < D := by have := Hs9.out; omega
    have k9 : W3.cell? ⟨B9, 0, none⟩ = some (.int .i64 (pass : Int)) := by rw [cell_of_row _ _ _ _ _ _ ((b3.block _ hlt9).trans H9'.out)]; rfl
    have k10 : W3.cell? ⟨W.heap.size, 0, none⟩ = some (.int .i64 (i : Int)) := by rw [cell_of_row _ _ _ _ _ _ hi]; rfl
    have k7 : W3.cell? ⟨B7, 1, none⟩ = some (.slice a2 ss.length c2) := by rw [cell_of_row _ _ _ _ _ _ ((b3.block _ hlt7).trans H7'.out)]; rfl
    rw [hil] at k10
    have B3 := hid b3
    have Hde := hid hde
    clear hi hi2 hi3 hbw hde hil b3 hk hk0 hD
    simp only [Exit.inBlock, Exit.then]
    rcases Nat.lt_or_ge pass 1 with h1 | h1
    · obtain rfl : pass = 0 := by omega
      gi_wp2
      refine HGo.out _ _ _ _ _ _ _ _ _ _ _ _ _ _ _ _ _ _ _ _ _ _ _ _ _ _ _ _ _ _ _ _ _ _ _ _ _ _ _ _ _ _ _ _ _ _ _ _ _ _ _ _ _ _ _ _ _ _ _ _ _ _ _ _ _ _ _ _ _ _ _ _ _ _ _ _ _ _ _ _ _ _ _ _ _ _ _ _ _ _ _ _ _ _ _ _ _ _ _ _ _ _ _ _ _ _ _ D W3.heap.size _ (B3.out.alloc B3.out.size _) (by omega) ((Below.heap_alloc W3 _ _ (Array.getElem?_eq_some_iff.1 Hde.out).1).trans Hde.out) (heap_alloc_new W3 _) B3.out.size
    · obtain rfl : pass = 1 := by omega
      gi_wp2
      refine HGo.out _ _ _ _ _ _ _ _ _ _ _ _ _ _ _ _ _ _ _ _ _ _ _ _ _ _ _ _ _ _ _ _ _ _ _ _ _ _ _ _ _ _ _ _ _ _ _ _ _ _ _ _ _ _ _ _ _ _ _ _ _ _ _ _ _ _ _ _ _ _ _ _ _ _ _ _ _ _ _ _ _ _ _ _ _ _ _ _ _ _ _ _ _ _ _ _ _ _ _ _ _ _ _ _ _ _ _ D W3.heap.size _ (B3.out.alloc B3.out.size _) (by omega) ((Below.heap_alloc W3 _ _ (Array.getElem?_eq_some_iff.1 Hde.out).1).trans Hde.out) (heap_alloc_new W3 _) B3.out.size
  case stop =>
    rintro D cc W3 hD ⟨rfl, rfl, hbw⟩ hde
    have b3 : Below W.heap.size W W3 := B9'.out.trans hbw
    have hDW : W.heap.size < D := by have := Hs9.out; omega
    have k9 : W3.cell? ⟨B9, 0, none⟩ = some (.int .i64 ((0 : Nat) : Int)) := by rw [cell_of_row _ _ _ _ _ _ ((b3.block _ hlt9).trans H9'.out)]; rfl
    have B3 := hid b3
    have Hde := hid hde
    clear hbw hde b3 hD
    gi_wp2
    refine HGo.out _ _ _ _ _ _ _ _ _ _ _ _ _ _ _ _ _ _ _ _ _ _ _ _ _ _ _ _ _ _ _ _ _ _ _ _ _ _ _ _ _ _ _ _ _ _ _ _ _ _ _ _ _ _ _ _ _ _ _ _ _ _ _ _ _ _ _ _ _ _ _ _ _ _ _ _ _ _ _ _ _ _ _ _ _ _ _ _ _ _ _ _ _ _ _ _ _ _ _ _ _ _ _ _ _ _ _ D W3.heap.size _ (B3.out.alloc B3.out.size _) (by omega) ((Below.heap_alloc W3 _ _ (Array.getElem?_eq_some_iff.1 Hde.out).1).trans Hde.out) (heap_alloc_new W3 _) B3.out.size


theorem res_cell (tmps : Array Value) (W : World) (g : Nat) (v : Bool) (hp : tmps.getD 4 undef = .pointer (some ⟨g, 0, none⟩)) (h : W.cell? ⟨g, 0, none⟩ = some (.bool v)) :
    (results Tryd.f7 tmps).run Tryd.prog W = .ok (.bool v) W := by
  have hp' : tmps[4]?.getD undef = .pointer (some ⟨g, 0, none⟩) := by simpa using hp
  have hr : Tryd.f7.results = #[.cell 4 4] := rfl
  simp [results, hp', asAddr, go_sem, loadVar, h]

/-- the law leaves with the marks of both passes -/
theorem leave_frames (tmps : Array Value) (Br B D D2 : Nat) (w0 W : World) (hp : tmps.getD 4 undef = .pointer (some ⟨Br, 0, none⟩)) (hr : W.heap[Br]? = some (.cells #[.bool false] 4 (0, 0))) (hB : B ≤ Br) (hBD : Br < D) (hDD : D < D2)
    (hD : W.heap[D]? = some (.deferred (some []))) (hD2 : W.heap[D2]? = some (.deferred (some []))) (hb : Below B w0 W) :
    LeavesInM Fence.wide 4 Tryd.prog Tryd.f7 tmps (fun e w' => e = .returned (.bool true) ∧ Below B w0 w') [{ target := .collected D2, args := #[] }, { target := .collected D, args := #[] }] .returning (W.setCell ⟨Br, 0, none⟩ (.bool true)) := by
  have kr : W.cell? ⟨Br, 0, none⟩ = some (.bool false) := by rw [cell_of_row _ _ _ _ _ _ hr]; rfl
  have hh : ∀ j : Nat, ¬ j = Br → (W.setCell ⟨Br, 0, none⟩ (.bool true)).heap[j]? = W.heap[j]? := fun j hj => Below.heap_setCell W _ _ _ hj
  refine ⟨by simp, .inl ⟨_, _, rfl, run_takeDeferred ((hh D2 (by omega)).trans hD2), ?_⟩⟩
  refine ⟨by simp, .inl ⟨_, _, rfl, run_takeDeferred ((World.putObj_heap_other (by omega)).trans ((hh D (by omega)).trans hD)), ?_⟩⟩
  refine ⟨_, res_cell _ _ Br true hp ?_, rfl, ((hb.setCell (p := ⟨Br, 0, none⟩) hB _).trans (below_putObj _ (by omega))).trans (below_putObj _ (by omega))⟩
  rw [World.cell?_of_block (w := W.setCell ⟨Br, 0, none⟩ (.bool true)) (a := ⟨Br, 0, none⟩) ((World.putObj_heap_other (show Br ≠ D by omega)).trans (World.putObj_heap_other (show Br ≠ D2 by omega)))]
  exact World.cell?_setCell_same' _ _ _ (by rw [kr]; rfl)

set_option maxRecDepth 100000 in
set_option maxHeartbeats 4000000 in
theorem loop_frames {C : Code} (hC : Tryd.f7.body.bind (inCode [1,1,1,1,1,1,1,0,1,0]) = some C) (kk Bk Br B7 B9 Bs : Nat) (a a1 a2 : Option Addr) (c c1 c2 : Nat) (b : List B8) (ps : List Part) (ss : List Nat) (v2 v3 : Value) (W : World)
    {x0 x1 x2 x5 x6 x10 x11 x12 x13 x14 x15 x16 x17 x18 x19 x20 x21 x22 x23 x24 x25 x26 x27 x28 x29 x30 x31 x32 x33 x34 x35 x36 x37 x38 x39 x40 x41 x42 x43 x44 x45 x46 x47 x48 x49 x50 x51 x52 x53 x54 x55 x56 x57 x58 x59 x60 x61 x62 x63 x64 x65 x66 x67 x68 x69 x70 x71 x72 x73 x74 x75 x76 x77 x78 x79 x80 x81 x82 x83 x84 x85 x86 x87 x88 x89 x90 x91 x92 x93 x94 x95 x96 x97 x98 x99 x100 x101 x102 x103 x104 x105 x106 x107 x108 x109 x110 x111 : Value}
    (hkk : kk ≤ 255) (hc : b.length ≤ c) (hl : b.length ≤ 2000) (he : Et W) (hr : Rd W a b)
    (H7 : W.heap[B7]? = some (.cells #[.slice a1 ps.length c1, .slice a2 ss.length c2, v2, v3] 51 (0, 0)))
    (H9 : W.heap[B9]? = some (.cells #[.int .i64 ((0 : Nat) : Int)] 3 (0, 0))) (Hk : W.heap[Bk]? = some (.cells #[.int .u8 kk] 5 (0, 0)))
    (Hs : W.heap[Bs]? = some (.cells #[.slice a b.length c] 22 (0, 0)))
    (R1 : Rds W a1 ps) (R2 : RdN W a2 ss) (hm1 : ps.map Part.bs = (fr b 0).1.map Prod.snd) (hm2 : ss = (fr b 0).1.map Prod.fst)
    (Q : Exit → Act → World → Prop)
    (hend : ∀ (y0 y1 y2 y5 y6 y10 y11 y12 y13 y14 y15 y16 y17 y18 y19 y20 y21 y22 y23 y24 y25 y26 y27 y28 y29 y30 y31 y32 y33 y34 y35 y36 y37 y38 y39 y40 y41 y42 y43 y44 y45 y46 y47 y48 y49 y50 y51 y52 y53 y54 y55 y56 y57 y58 y59 y60 y61 y62 y63 y64 y65 y66 y67 y68 y69 y70 y71 y72 y73 y74 y75 y76 y77 y78 y79 y80 y81 y82 y83 y84 y85 y86 y87 y88 y89 y90 y91 y92 y93 y94 y95 y96 y97 y98 y99 y100 y101 y102 y103 y104 y105 y106 y107 y108 y109 y110 y111 : Value) (D D2 g9 : Nat) (W' : World), Below W.heap.size W W' → W.heap.size ≤ D → D < D2 → W'.heap[D]? = some (.deferred (some [])) → W'.heap[D2]? = some (.deferred (some [])) →
      Q (.exit 0) { tmps := #[y0, y1, y2, .pointer (some ⟨Bk, 0, none⟩), .pointer (some ⟨Br, 0, none⟩), y5, y6, .pointer (some ⟨B7, 0, none⟩), .func (.func 38) #[] #[.pointer (some ⟨Bs, 0, none⟩)], .pointer (some ⟨g9, 0, none⟩), y10, y11, y12, y13, y14, y15, y16, y17, y18, y19, y20, y21, y22, y23, y24, y25, y26, y27, y28, y29, y30, y31, y32, y33, y34, y35, y36, y37, y38, y39, y40, y41, y42, y43, y44, y45, y46, y47, y48, y49, y50, y51, y52, y53, y54, y55, y56, y57, y58, y59, y60, y61, y62, y63, y64, y65, y66, y67, y68, y69, y70, y71, y72, y73, y74, y75, y76, y77, y78, y79, y80, y81, y82, y83, y84, y85, y86, y87, y88, y89, y90, y91, y92, y93, y94, y95, y96, y97, y98, y99, y100, y101, y102, y103, y104, y105, y106, y107, y108, y109, y110, y111], defers := [{ target := .collected D2, args := #[] }, { target := .collected D, args := #[] }] } W') :
    C.wpIn Fence.wide 4 Tryd.prog Q
      { tmps := #[x0, x1, x2, .pointer (some ⟨Bk, 0, none⟩), .pointer (some ⟨Br, 0, none⟩), x5, x6, .pointer (some ⟨B7, 0, none⟩), .func (.func 38) #[] #[.pointer (some ⟨Bs, 0, none⟩)], .pointer (some ⟨B9, 0, none⟩), x10, x11, x12, x13, x14, x15, x16, x17, x18, x19, x20, x21, x22, x23, x24, x25, x26, x27, x28, x29, x30, x31, x32, x33, x34, x35, x36, x37, x38, x39, x40, x41, x42, x43, x44, x45, x46, x47, x48, x49, x50, x51, x52, x53, x54, x55, x56, x57, x58, x59, x60, x61, x62, x63, x64, x65, x66, x67, x68, x69, x70, x71, x72, x73, x74, x75, x76, x77, x78, x79, x80, x81, x82, x83, x84, x85, x86, x87, x88, x89, x90, x91, x92, x93, x94, x95, x96, x97, x98, x99, x100, x101, x102, x103, x104, x105, x106, x107, x108, x109, x110, x111], defers := [] } W := by
  cases hC
  have HEnd := hid hend
  have HE := hid he
  have HR := hid hr
  have H7' := hid H7
  have Hk' := hid Hk
  have Hs' := hid Hs
  have HR1 := hid R1
  have HR2 := hid R2
  have HM1 := hid hm1
  have HM2 := hid hm2
  refine wpIn_loop_rounds 3 ?_
  rw [roundsIn_succ]
  refine pass_frames (C := _) rfl kk Bk Br B7 B9 Bs 0 a a1 a2 c c1 c2 b ps ss v2 v3 [] W (by omega) hkk hc hl he hr H7 H9 Hk Hs R1 R2 hm1 hm2 _ ?_
  clear hend he hr H7 H9 Hk Hs R1 R2 hm1 hm2
  intro _ _ _ _ _ _ _ _ _ _ _ _ _ _ _ _ _ _ _ _ _ _ _ _ _ _ _ _ _ _ _ _ _ _ _ _ _ _ _ _ _ _ _ _ _ _ _ _ _ _ _ _ _ _ _ _ _ _ _ _ _ _ _ _ _ _ _ _ _ _ _ _ _ _ _ _ _ _ _ _ _ _ _ _ _ _ _ _ _ _ _ _ _ _ _ _ _ _ _ _ _ _ _ _ _ _ _ D g9 W3 b3 h2 h3 h4 h5
  simp only [Exit.then]
  rw [roundsIn_succ]
  refine pass_frames (C := _) rfl kk Bk Br B7 g9 Bs 1 a a1 a2 c c1 c2 b ps ss v2 v3 _ W3 (by omega) hkk hc hl (HE.out.later b3) (HR.out.later b3)
    (heap_later H7'.out b3) h4 (heap_later Hk'.out b3) (heap_later Hs'.out b3) (HR1.out.later b3) (HR2.out.later b3) HM1.out HM2.out _ ?_
  intro _ _ _ _ _ _ _ _ _ _ _ _ _ _ _ _ _ _ _ _ _ _ _ _ _ _ _ _ _ _ _ _ _ _ _ _ _ _ _ _ _ _ _ _ _ _ _ _ _ _ _ _ _ _ _ _ _ _ _ _ _ _ _ _ _ _ _ _ _ _ _ _ _ _ _ _ _ _ _ _ _ _ _ _ _ _ _ _ _ _ _ _ _ _ _ _ _ _ _ _ _ _ _ _ _ _ _ D2 g2 W4 j1 j2 j3 j4 j5
  have b4 : Below W.heap.size W W4 := b3.trans (j1.mono b3.size)
  have hDlt : D < W3.heap.size := (Array.getElem?_eq_some_iff.1 h3).1
  have hD4 : W4.heap[D]? = some (.deferred (some [])) := (j1.block _ hDlt).trans h3
  have k9 : W4.cell? ⟨g2, 0, none⟩ = some (.int .i64 2) := by rw [cell_of_row _ _ _ _ _ _ j4]; rfl
  have HD4 := hid hD4
  have HD2 := hid j3
  have B4 := hid b4
  clear hD4 j3 h3 h4 b3 j1 j4 b4 HE HR H7' Hk' Hs' HR1 HR2 HM1 HM2
  simp only [Exit.then]
  rw [roundsIn_succ]
  gi_wp2
  refine HEnd.out _ _ _ _ _ _ _ _ _ _ _ _ _ _ _ _ _ _ _ _ _ _ _ _ _ _ _ _ _ _ _ _ _ _ _ _ _ _ _ _ _ _ _ _ _ _ _ _ _ _ _ _ _ _ _ _ _ _ _ _ _ _ _ _ _ _ _ _ _ _ _ _ _ _ _ _ _ _ _ _ _ _ _ _ _ _ _ _ _ _ _ _ _ _ _ _ _ _ _ _ _ _ _ _ _ _ _ D D2 g2 W4 B4.out h2 (by omega) HD4.out HD2.out
end Go.Proofs.YtgbgcfdniodfpaaDoor
