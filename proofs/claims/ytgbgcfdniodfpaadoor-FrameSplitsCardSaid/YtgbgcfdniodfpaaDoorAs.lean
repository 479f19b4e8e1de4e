/- errors.As at the two targets that the package fault has: a Code, a Fault. -/
import Derived.Test.YtgbgcfdniodfpaaDoorBs
import Derived.LaidEql
import Derived.Stop.Asserts
import Derived.RowKitTokens
namespace Go.Proofs.YtgbgcfdniodfpaaDoor
open Go.RowKit Go.Extern.Stop Go.Stop Go.Extern
set_option linter.unusedVariables false

/-- errors.As(nil, target). -/
theorem as_nil (t : Value) (w : World) :
    Calls Tryd.prog 44 #[.nilIface, t] w fun e w' => e = .returned (.bool false) ∧ Below w.heap.size w w' := by
  go_enter Tryd.func44, Tryd.ntmps44
  go_wp2_with fail
  go_ret
  exact ⟨rfl, Below.refl _ _⟩


/-! ### closed facts on the model's entries for internal/reflectlite, at this program's types: 39: api.Code · 83: its pointer · 81: api.Fault · 84: its pointer · 25: error · 102: reflectlite's rtype -/
theorem valueOf83 (t : Addr) (w : World) : (ReflectliteValue.unpack (.iface 83 (.pointer (some t)))).run Tryd.prog w
    = .ok (.agg #[.pointer (some ⟨1, 83, none⟩), .pointer (some ⟨w.heap.size, 0, none⟩), .int .u64 150]) (w.alloc (.cells #[.pointer (some t)] 83)) := by kernel_rfl
theorem type83 (a : Addr) (w : World) : (ReflectliteValue.methodAny (ReflectliteValue.valueError "reflectlite.Value.Type" 0) (fun t _ _ _ => ReflectliteType.toType t) #[.agg #[.pointer (some ⟨1, 83, none⟩), .pointer (some a), .int .u64 150]]).run Tryd.prog w
    = .ok (.iface 102 (.agg #[.pointer (some ⟨1, 83, none⟩)])) w := by kernel_rfl
theorem kind83 (w : World) : ((ReflectliteType.abiMethod fun t => (fun a : Nat => Value.int IntKind.u8 (a : Int)) <$> Rtype.kind t) #[.pointer (some ⟨1, 83, none⟩)]).run Tryd.prog w = .ok (.int .u8 22) w := by kernel_rfl
theorem kind39 (w : World) : ((ReflectliteType.abiMethod fun t => (fun a : Nat => Value.int IntKind.u8 (a : Int)) <$> Rtype.kind t) #[.pointer (some ⟨1, 39, none⟩)]).run Tryd.prog w = .ok (.int .u8 2) w := by kernel_rfl
theorem elem83 (w : World) : (ReflectliteType.method ReflectliteType.elem #[.agg #[.pointer (some ⟨1, 83, none⟩)]]).run Tryd.prog w = .ok (.iface 102 (.agg #[.pointer (some ⟨1, 39, none⟩)])) w := by kernel_rfl
theorem implements39 (w : World) : (ReflectliteType.relation "Implements" ReflectliteType.implements_ #[.agg #[.pointer (some ⟨1, 39, none⟩)], .iface 102 (.agg #[.pointer (some ⟨1, 25, none⟩)])]).run Tryd.prog w = .ok (.bool true) w := by kernel_rfl
theorem typeOf39 (v : Value) (w : World) : (ReflectliteType.typeOf #[.iface 39 v]).run Tryd.prog w = .ok (.iface 102 (.agg #[.pointer (some ⟨1, 39, none⟩)])) w := by kernel_rfl
theorem typeOf81 (v : Value) (w : World) : (ReflectliteType.typeOf #[.iface 81 v]).run Tryd.prog w = .ok (.iface 102 (.agg #[.pointer (some ⟨1, 81, none⟩)])) w := by kernel_rfl
theorem assignable39_39 (w : World) : (ReflectliteType.relation "AssignableTo" ReflectliteType.assignableTo #[.agg #[.pointer (some ⟨1, 39, none⟩)], .iface 102 (.agg #[.pointer (some ⟨1, 39, none⟩)])]).run Tryd.prog w = .ok (.bool true) w := by kernel_rfl
theorem assignable81_39 (w : World) : (ReflectliteType.relation "AssignableTo" ReflectliteType.assignableTo #[.agg #[.pointer (some ⟨1, 81, none⟩)], .iface 102 (.agg #[.pointer (some ⟨1, 39, none⟩)])]).run Tryd.prog w = .ok (.bool false) w := by kernel_rfl
theorem assignable39_81 (w : World) : (ReflectliteType.relation "AssignableTo" ReflectliteType.assignableTo #[.agg #[.pointer (some ⟨1, 39, none⟩)], .iface 102 (.agg #[.pointer (some ⟨1, 81, none⟩)])]).run Tryd.prog w = .ok (.bool false) w := by kernel_rfl
theorem assignable81_81 (w : World) : (ReflectliteType.relation "AssignableTo" ReflectliteType.assignableTo #[.agg #[.pointer (some ⟨1, 81, none⟩)], .iface 102 (.agg #[.pointer (some ⟨1, 81, none⟩)])]).run Tryd.prog w = .ok (.bool true) w := by kernel_rfl
theorem valueOf39 (c : Int) (w : World) : (ReflectliteValue.unpack (.iface 39 (.int .i64 c))).run Tryd.prog w
    = .ok (.agg #[.pointer (some ⟨1, 39, none⟩), .pointer (some ⟨w.heap.size, 0, none⟩), .int .u64 130]) (w.alloc (.cells #[.int .i64 c] 39)) := by kernel_rfl

theorem methodKind (h : Value) (w : World) : (Go.method 242 102 (.agg #[h]) "Kind").run Tryd.prog w = .ok (69, h) w := by kernel_rfl
theorem methodElem (h : Value) (w : World) : (Go.method 242 102 (.agg #[h]) "Elem").run Tryd.prog w = .ok (81, .agg #[h]) w := by kernel_rfl
theorem methodImplements (h : Value) (w : World) : (Go.method 242 102 (.agg #[h]) "Implements").run Tryd.prog w = .ok (82, .agg #[h]) w := by kernel_rfl
theorem methodAssignableTo (h : Value) (w : World) : (Go.method 242 102 (.agg #[h]) "AssignableTo").run Tryd.prog w = .ok (79, .agg #[h]) w := by kernel_rfl
theorem rlm (z : Sem Value) (f : TypeId → Addr → Nat → Nat → Sem Value) (v : Value) :
    ReflectliteValue.method z f #[v] = (do match ← ReflectliteValue.parts v with | none => z | some (t, a, fl) => f t a fl (fl % 32)) := rfl
theorem parts83 (a : Addr) (w : World) : (ReflectliteValue.parts (.agg #[.pointer (some ⟨1, 83, none⟩), .pointer (some a), .int .u64 150])).run Tryd.prog w = .ok (some (83, a, 150)) w := by kernel_rfl
theorem isNil83 (a p : Addr) (W : World) (ha : W.cell? a = some (.pointer (some p))) :
    (ReflectliteValue.method (ReflectliteValue.valueError "reflectlite.Value.IsNil" 0) ReflectliteValue.isNil #[.agg #[.pointer (some ⟨1, 83, none⟩), .pointer (some a), .int .u64 150]]).run Tryd.prog W = .ok (.bool false) W := by
  rw [rlm]
  simp only [Sem.run_bind, parts83, Result.andThen]
  simp [ReflectliteValue.isNil, loadVar, isAgg, underlying, Tryd.underlying83, ha, Result.andThen]
theorem elemOf83 (w : World) : (Rtype.elem? 83).run Tryd.prog w = .ok (some 39) w := by kernel_rfl
theorem mk39 (p : Addr) (w : World) : (ReflectliteValue.mk 39 p ReflectliteValue.flagAddr).run Tryd.prog w = .ok (.agg #[.pointer (some ⟨1, 39, none⟩), .pointer (some p), .int .u64 386]) w := by kernel_rfl
theorem elemV83 (a p : Addr) (W : World) (ha : W.cell? a = some (.pointer (some p))) :
    (ReflectliteValue.method (ReflectliteValue.valueError "reflectlite.Value.Elem" 0) ReflectliteValue.elem #[.agg #[.pointer (some ⟨1, 83, none⟩), .pointer (some a), .int .u64 150]]).run Tryd.prog W
      = .ok (.agg #[.pointer (some ⟨1, 39, none⟩), .pointer (some p), .int .u64 386]) W := by
  rw [rlm]
  simp only [Sem.run_bind, parts83, Result.andThen]
  simp [ReflectliteValue.elem, loadVar, isAgg, underlying, Tryd.underlying83, ha, Result.andThen, elemOf83, mk39]
theorem rls (v x : Value) : ReflectliteValue.set #[v, x] = (do
    let (some (dst, a, fl), some (src, b, _)) := (← ReflectliteValue.parts v, ← ReflectliteValue.parts x)
      | unsupported (.noEntry "extern/(internal/reflectlite.Value).Set.zeroValue")
    if fl / ReflectliteValue.flagAddr % 2 == 0 then unsupported (.noEntry "extern/(internal/reflectlite.Value).Set.unaddressable")
    let val ← loadVar src b
    if ← Rtype.directlyAssignable dst src then storeVar dst a val
    else if ← Rtype.implements dst src then
      if (← Rtype.kind src) == 20 then
        match val with
        | .nilIface => unsupported (.noEntry "extern/reflectlite: a nil value of one interface type handed on as a value of another")
        | _ => storeVar dst a val
      else storeVar dst a (.iface src val)
    else panicString ("reflectlite.Set: value of type " ++ (← Rtype.spelt src) ++ " is not assignable to type " ++ (← Rtype.spelt dst))
    pure (.tuple #[])) := rfl
theorem parts39a (a : Addr) (w : World) : (ReflectliteValue.parts (.agg #[.pointer (some ⟨1, 39, none⟩), .pointer (some a), .int .u64 386])).run Tryd.prog w = .ok (some (39, a, 386)) w := by kernel_rfl
theorem parts39 (a : Addr) (w : World) : (ReflectliteValue.parts (.agg #[.pointer (some ⟨1, 39, none⟩), .pointer (some a), .int .u64 130])).run Tryd.prog w = .ok (some (39, a, 130)) w := by kernel_rfl
theorem direct39 (w : World) : (Rtype.directlyAssignable 39 39).run Tryd.prog w = .ok true w := by kernel_rfl
theorem size39 (w : World) : (Go.sizeOf 39).run Tryd.prog w = .ok 1 w := by kernel_rfl
theorem set39 (ta b : Addr) (c : Int) (old : Value) (W : World) (hb : W.cell? b = some (.int .i64 c)) (ht : W.cell? ta = some old) (hf : W.frozen? ta = false) :
    (ReflectliteValue.set #[.agg #[.pointer (some ⟨1, 39, none⟩), .pointer (some ta), .int .u64 386], .agg #[.pointer (some ⟨1, 39, none⟩), .pointer (some b), .int .u64 130]]).run Tryd.prog W
      = .ok (.tuple #[]) (W.setCell ta (.int .i64 c)) := by
  rw [rls]
  simp only [Sem.run_bind, parts39a, parts39, Result.andThen]
  simp [ReflectliteValue.flagAddr, loadVar, isAgg, underlying, Tryd.underlying39, hb, Result.andThen, direct39, storeVar, Value.cells, storeCells, Addr.add]
  rw [run_store Tryd.prog W ta _ _ (by rfl)]
  simp [ht, hf]


/-- the library's variable errors.errorType -/
def Et (w : World) : Prop := w.cell? ⟨0, 0, none⟩ = some (.iface 102 (.agg #[.pointer (some ⟨1, 25, none⟩)]))
theorem Et.later {w w' : World} (h : Et w) (hb : Below w.heap.size w w') : Et w' := cell_later hb h
theorem Et.pos {w : World} (h : Et w) : 0 < w.heap.size := block_lt_of_cell h

theorem ext52 (args : Array Value) (w : World) : (callFunc 52 args).run Tryd.prog w = ((ReflectliteType.typeOf args).run Tryd.prog w).andThen fun v w' => .ok (Next.value v) w' :=
  @run_callFunc_extern Tryd.prog 52 _ ReflectliteType.typeOf Tryd.func52 (by kernel_rfl) (by kernel_rfl) (by kernel_rfl) (by kernel_rfl) args w
theorem ext79 (args : Array Value) (w : World) : (callFunc 79 args).run Tryd.prog w = ((ReflectliteType.relation "AssignableTo" ReflectliteType.assignableTo args).run Tryd.prog w).andThen fun v w' => .ok (Next.value v) w' :=
  @run_callFunc_extern Tryd.prog 79 _ (ReflectliteType.relation "AssignableTo" ReflectliteType.assignableTo) Tryd.func79 (by kernel_rfl) (by kernel_rfl) (by kernel_rfl) (by kernel_rfl) args w
theorem ext53 (args : Array Value) (w : World) : (callFunc 53 args).run Tryd.prog w = ((ReflectliteValue.method (ReflectliteValue.valueError "reflectlite.Value.Elem" 0) ReflectliteValue.elem args).run Tryd.prog w).andThen fun v w' => .ok (Next.value v) w' :=
  @run_callFunc_extern Tryd.prog 53 _ (ReflectliteValue.method (ReflectliteValue.valueError "reflectlite.Value.Elem" 0) ReflectliteValue.elem) Tryd.func53 (by kernel_rfl) (by kernel_rfl) (by kernel_rfl) (by kernel_rfl) args w
theorem ext54 (args : Array Value) (w : World) : (callFunc 54 args).run Tryd.prog w = ((ReflectliteValue.set args).run Tryd.prog w).andThen fun v w' => .ok (Next.value v) w' :=
  @run_callFunc_extern Tryd.prog 54 _ ReflectliteValue.set Tryd.func54 (by kernel_rfl) (by kernel_rfl) (by kernel_rfl) (by kernel_rfl) args w
theorem ext47 (args : Array Value) (w : World) : (callFunc 47 args).run Tryd.prog w = ((ReflectliteValue.unpack (args.getD 0 (.tuple #[]))).run Tryd.prog w).andThen fun v w' => .ok (Next.value v) w' :=
  @run_callFunc_extern Tryd.prog 47 _ (fun args => ReflectliteValue.unpack (args.getD 0 (.tuple #[]))) Tryd.func47 (by kernel_rfl) (by kernel_rfl) (by kernel_rfl) (by kernel_rfl) args w
theorem ext48 (args : Array Value) (w : World) : (callFunc 48 args).run Tryd.prog w = ((ReflectliteValue.methodAny (ReflectliteValue.valueError "reflectlite.Value.Type" 0) (fun t _ _ _ => ReflectliteType.toType t) args).run Tryd.prog w).andThen fun v w' => .ok (Next.value v) w' :=
  @run_callFunc_extern Tryd.prog 48 _ (ReflectliteValue.methodAny (ReflectliteValue.valueError "reflectlite.Value.Type" 0) (fun t _ _ _ => ReflectliteType.toType t)) Tryd.func48 (by kernel_rfl) (by kernel_rfl) (by kernel_rfl) (by kernel_rfl) args w
theorem ext49 (args : Array Value) (w : World) : (callFunc 49 args).run Tryd.prog w = ((ReflectliteValue.method (ReflectliteValue.valueError "reflectlite.Value.IsNil" 0) ReflectliteValue.isNil args).run Tryd.prog w).andThen fun v w' => .ok (Next.value v) w' :=
  @run_callFunc_extern Tryd.prog 49 _ (ReflectliteValue.method (ReflectliteValue.valueError "reflectlite.Value.IsNil" 0) ReflectliteValue.isNil) Tryd.func49 (by kernel_rfl) (by kernel_rfl) (by kernel_rfl) (by kernel_rfl) args w
theorem ext69 (args : Array Value) (w : World) : (callFunc 69 args).run Tryd.prog w = (((ReflectliteType.abiMethod fun t => (fun a : Nat => Value.int IntKind.u8 (a : Int)) <$> Rtype.kind t) args).run Tryd.prog w).andThen fun v w' => .ok (Next.value v) w' :=
  @run_callFunc_extern Tryd.prog 69 _ (ReflectliteType.abiMethod fun t => (fun a : Nat => Value.int IntKind.u8 (a : Int)) <$> Rtype.kind t) Tryd.func69 (by kernel_rfl) (by kernel_rfl) (by kernel_rfl) (by kernel_rfl) args w
theorem ext81 (args : Array Value) (w : World) : (callFunc 81 args).run Tryd.prog w = ((ReflectliteType.method ReflectliteType.elem args).run Tryd.prog w).andThen fun v w' => .ok (Next.value v) w' :=
  @run_callFunc_extern Tryd.prog 81 _ (ReflectliteType.method ReflectliteType.elem) Tryd.func81 (by kernel_rfl) (by kernel_rfl) (by kernel_rfl) (by kernel_rfl) args w
theorem ext82 (args : Array Value) (w : World) : (callFunc 82 args).run Tryd.prog w = ((ReflectliteType.relation "Implements" ReflectliteType.implements_ args).run Tryd.prog w).andThen fun v w' => .ok (Next.value v) w' :=
  @run_callFunc_extern Tryd.prog 82 _ (ReflectliteType.relation "Implements" ReflectliteType.implements_) Tryd.func82 (by kernel_rfl) (by kernel_rfl) (by kernel_rfl) (by kernel_rfl) args w

abbrev V83 (a : Addr) : Value := .agg #[.pointer (some ⟨1, 83, none⟩), .pointer (some a), .int .u64 150]
abbrev T39 : Value := .iface 102 (.agg #[.pointer (some ⟨1, 39, none⟩)])

theorem cell_new1 (w : World) (v : Value) (t : TypeId) : (w.alloc (.cells #[v] t)).cell? ⟨w.heap.size, 0, none⟩ = some v := by
  rw [cell_of_row _ _ _ _ _ _ (heap_alloc_new _ _)]; rfl
theorem cell_alloc {w : World} {a : Addr} {v : Value} (h : w.cell? a = some v) (o : Obj) : (w.alloc o).cell? a = some v := cell_later ((Below.refl _ _).alloc (Nat.le_refl _) o) h
theorem frozen_alloc' {w : World} {a : Addr} {v : Value} (h : w.cell? a = some v) (hf : w.frozen? a = false) (o : Obj) : (w.alloc o).frozen? a = false :=
  (((Below.refl _ _).alloc (Nat.le_refl _) o : Below w.heap.size w (w.alloc o)).frozen (block_lt_of_cell h)).trans hf

set_option maxRecDepth 100000 in
set_option maxHeartbeats 4000000 in
theorem as2_code_code (c : Int) (a t : Addr) (old : Value) (w : World) (ha : w.cell? a = some (.pointer (some t))) (ht0 : w.cell? t = some old) (hf0 : w.frozen? t = false) (B : Nat) (hB : B ≤ w.heap.size) (hBt : B ≤ t.block) :
    Calls Tryd.prog 50 #[.iface 39 (.int .i64 c), .iface 83 (.pointer (some t)), V83 a, T39] w fun ev w' => ev = .returned (.bool true) ∧ w'.cell? t = some (.int .i64 c) ∧ Below B w w' := by
  have h52 := ext52
  have h79 := ext79
  have h53 := ext53
  have h54 := ext54
  have h47 := ext47
  have f7 := typeOf39
  have f8 := assignable39_39
  have f9 := valueOf39
  have f13 := methodAssignableTo
  have n1 := elemV83 a t (w.alloc (.cells #[.pointer (some ⟨1, 83, none⟩), .pointer (some a), .int .u64 150] 90)) (cell_alloc ha _)
  have n2 := set39 t ⟨w.heap.size + 1, 0, none⟩ c old ((w.alloc (.cells #[.pointer (some ⟨1, 83, none⟩), .pointer (some a), .int .u64 150] 90)).alloc (.cells #[.int .i64 c] 39)) (by have := cell_new1 (w.alloc (.cells #[.pointer (some ⟨1, 83, none⟩), .pointer (some a), .int .u64 150] 90)) (.int .i64 c) 39; rwa [World.size_alloc] at this)
    (cell_alloc (cell_alloc ht0 _) _) (frozen_alloc' (cell_alloc ht0 _) (frozen_alloc' ht0 hf0 _) _)
  have HT := hid (World.cell?_setCell_same' ((w.alloc (.cells #[.pointer (some ⟨1, 83, none⟩), .pointer (some a), .int .u64 150] 90)).alloc (.cells #[.int .i64 c] 39)) t (.int .i64 c) (by rw [cell_alloc (cell_alloc ht0 _) _]; rfl))
  have HBt := hid hBt
  have HB := hid hB
  clear ha ht0 hf0 hBt hB
  go_enter Tryd.func50, Tryd.ntmps50
  go_wp2_with fail
  refine wp_loop_rounds 1 ?_
  rw [rounds_succ]
  go_wp2_with fail
  go_ret
  exact ⟨rfl, HT.out, (((Below.refl _ _).alloc HB.out _).alloc (by have := HB.out; simp; omega) _).setCell HBt.out _⟩


/-! ### the same at a Fault -/
theorem valueOf84 (t : Addr) (w : World) : (ReflectliteValue.unpack (.iface 84 (.pointer (some t)))).run Tryd.prog w
    = .ok (.agg #[.pointer (some ⟨1, 84, none⟩), .pointer (some ⟨w.heap.size, 0, none⟩), .int .u64 150]) (w.alloc (.cells #[.pointer (some t)] 84)) := by kernel_rfl
theorem type84 (a : Addr) (w : World) : (ReflectliteValue.methodAny (ReflectliteValue.valueError "reflectlite.Value.Type" 0) (fun t _ _ _ => ReflectliteType.toType t) #[.agg #[.pointer (some ⟨1, 84, none⟩), .pointer (some a), .int .u64 150]]).run Tryd.prog w
    = .ok (.iface 102 (.agg #[.pointer (some ⟨1, 84, none⟩)])) w := by kernel_rfl
theorem kind84 (w : World) : ((ReflectliteType.abiMethod fun t => (fun a : Nat => Value.int IntKind.u8 (a : Int)) <$> Rtype.kind t) #[.pointer (some ⟨1, 84, none⟩)]).run Tryd.prog w = .ok (.int .u8 22) w := by kernel_rfl
theorem kind81 (w : World) : ((ReflectliteType.abiMethod fun t => (fun a : Nat => Value.int IntKind.u8 (a : Int)) <$> Rtype.kind t) #[.pointer (some ⟨1, 81, none⟩)]).run Tryd.prog w = .ok (.int .u8 25) w := by kernel_rfl
theorem elem84 (w : World) : (ReflectliteType.method ReflectliteType.elem #[.agg #[.pointer (some ⟨1, 84, none⟩)]]).run Tryd.prog w = .ok (.iface 102 (.agg #[.pointer (some ⟨1, 81, none⟩)])) w := by kernel_rfl
theorem implements81 (w : World) : (ReflectliteType.relation "Implements" ReflectliteType.implements_ #[.agg #[.pointer (some ⟨1, 81, none⟩)], .iface 102 (.agg #[.pointer (some ⟨1, 25, none⟩)])]).run Tryd.prog w = .ok (.bool true) w := by kernel_rfl
theorem valueOf81 (c o : Int) (w : World) : (ReflectliteValue.unpack (.iface 81 (.agg #[.int .i64 c, .int .i64 o]))).run Tryd.prog w
    = .ok (.agg #[.pointer (some ⟨1, 81, none⟩), .pointer (some ⟨w.heap.size, 0, none⟩), .int .u64 153]) (w.alloc (.cells #[.int .i64 c, .int .i64 o] 81)) := by kernel_rfl
theorem parts84 (a : Addr) (w : World) : (ReflectliteValue.parts (.agg #[.pointer (some ⟨1, 84, none⟩), .pointer (some a), .int .u64 150])).run Tryd.prog w = .ok (some (84, a, 150)) w := by kernel_rfl
theorem isNil84 (a p : Addr) (W : World) (ha : W.cell? a = some (.pointer (some p))) :
    (ReflectliteValue.method (ReflectliteValue.valueError "reflectlite.Value.IsNil" 0) ReflectliteValue.isNil #[.agg #[.pointer (some ⟨1, 84, none⟩), .pointer (some a), .int .u64 150]]).run Tryd.prog W = .ok (.bool false) W := by
  rw [rlm]
  simp only [Sem.run_bind, parts84, Result.andThen]
  simp [ReflectliteValue.isNil, loadVar, isAgg, underlying, Tryd.underlying84, ha, Result.andThen]
theorem elemOf84 (w : World) : (Rtype.elem? 84).run Tryd.prog w = .ok (some 81) w := by kernel_rfl
theorem mk81 (p : Addr) (w : World) : (ReflectliteValue.mk 81 p ReflectliteValue.flagAddr).run Tryd.prog w = .ok (.agg #[.pointer (some ⟨1, 81, none⟩), .pointer (some p), .int .u64 409]) w := by kernel_rfl
theorem elemV84 (a p : Addr) (W : World) (ha : W.cell? a = some (.pointer (some p))) :
    (ReflectliteValue.method (ReflectliteValue.valueError "reflectlite.Value.Elem" 0) ReflectliteValue.elem #[.agg #[.pointer (some ⟨1, 84, none⟩), .pointer (some a), .int .u64 150]]).run Tryd.prog W
      = .ok (.agg #[.pointer (some ⟨1, 81, none⟩), .pointer (some p), .int .u64 409]) W := by
  rw [rlm]
  simp only [Sem.run_bind, parts84, Result.andThen]
  simp [ReflectliteValue.elem, loadVar, isAgg, underlying, Tryd.underlying84, ha, Result.andThen, elemOf84, mk81]
theorem parts81a (a : Addr) (w : World) : (ReflectliteValue.parts (.agg #[.pointer (some ⟨1, 81, none⟩), .pointer (some a), .int .u64 409])).run Tryd.prog w = .ok (some (81, a, 409)) w := by kernel_rfl
theorem parts81 (a : Addr) (w : World) : (ReflectliteValue.parts (.agg #[.pointer (some ⟨1, 81, none⟩), .pointer (some a), .int .u64 153])).run Tryd.prog w = .ok (some (81, a, 153)) w := by kernel_rfl
theorem direct81 (w : World) : (Rtype.directlyAssignable 81 81).run Tryd.prog w = .ok true w := by kernel_rfl
theorem info81 : (Tryd.prog.info? 81).map (·.size) = some 2 := by kernel_rfl
theorem load81 (W : World) (g : Nat) (cs : Array Value) (t : TypeId) (fr : Nat × Nat) (hg : W.heap[g]? = some (.cells cs t fr)) (hs : cs.size = 2) : (loadVar 81 ⟨g, 0, none⟩).run Tryd.prog W = .ok (.agg cs) W :=
  run_loadVar_row W g t 81 cs fr _ hg Tryd.underlying81 rfl (by rw [info81, hs])
theorem store81 (W : World) (g : Nat) (c o : Int) (old : Array Value) (t : TypeId) (hg : W.heap[g]? = some (.cells old t (0, 0))) (hs : old.size = 2) :
    (storeVar 81 ⟨g, 0, none⟩ (.agg #[.int .i64 c, .int .i64 o])).run Tryd.prog W = .ok () (W.setRow g #[.int .i64 c, .int .i64 o]) :=
  run_storeVar_row W g t 81 old #[.int .i64 c, .int .i64 o] hg (by rw [info81]; rfl) hs (by simp [Value.oneCell'])
theorem set81 (g b : Nat) (c o : Int) (old : Array Value) (t : TypeId) (W : World) (hb : W.heap[b]? = some (.cells #[.int .i64 c, .int .i64 o] 81 (0, 0))) (ht : W.heap[g]? = some (.cells old t (0, 0))) (hs : old.size = 2) :
    (ReflectliteValue.set #[.agg #[.pointer (some ⟨1, 81, none⟩), .pointer (some ⟨g, 0, none⟩), .int .u64 409], .agg #[.pointer (some ⟨1, 81, none⟩), .pointer (some ⟨b, 0, none⟩), .int .u64 153]]).run Tryd.prog W
      = .ok (.tuple #[]) (W.setRow g #[.int .i64 c, .int .i64 o]) := by
  rw [rls]
  simp only [Sem.run_bind, parts81a, parts81, Result.andThen]
  simp [ReflectliteValue.flagAddr, load81 W b _ _ _ hb rfl, Result.andThen, direct81, store81 W g c o old t ht hs]

/-! ### type assertions to the three interfaces that errors.as asks -/
theorem noAs39 (v : Value) (xT : TypeId) (w : World) : (Instr.typeAssert (.iface 39 v) xT 107 true).run Tryd.prog w = .ok (.tuple #[.nilIface, .bool false]) w := run_typeAssert_lacksB Tryd.underlying107 (by kernel_rfl) (by kernel_rfl) v xT w
theorem noUnwrap39 (v : Value) (xT : TypeId) (w : World) : (Instr.typeAssert (.iface 39 v) xT 110 true).run Tryd.prog w = .ok (.tuple #[.nilIface, .bool false]) w := run_typeAssert_lacksB Tryd.underlying110 (by kernel_rfl) (by kernel_rfl) v xT w
theorem noUnwraps39 (v : Value) (xT : TypeId) (w : World) : (Instr.typeAssert (.iface 39 v) xT 112 true).run Tryd.prog w = .ok (.tuple #[.nilIface, .bool false]) w := run_typeAssert_lacksB Tryd.underlying112 (by kernel_rfl) (by kernel_rfl) v xT w
theorem noAs81 (v : Value) (xT : TypeId) (w : World) : (Instr.typeAssert (.iface 81 v) xT 107 true).run Tryd.prog w = .ok (.tuple #[.nilIface, .bool false]) w := run_typeAssert_lacksB Tryd.underlying107 (by kernel_rfl) (by kernel_rfl) v xT w
theorem unwrap81 (v : Value) (xT : TypeId) (w : World) : (Instr.typeAssert (.iface 81 v) xT 110 true).run Tryd.prog w = .ok (.tuple #[.iface 81 v, .bool true]) w := run_typeAssert_hasB Tryd.underlying110 (by kernel_rfl) v xT w
theorem methodUnwrap (v : Value) (w : World) : (Go.method 242 81 v "Unwrap").run Tryd.prog w = .ok (74, v) w := by kernel_rfl

theorem unwrap_any (c o : Int) (w : World) : Calls Tryd.prog 74 #[.agg #[.int .i64 c, .int .i64 o]] w fun e w' => e = .returned (.iface 39 (.int .i64 c)) ∧ Below w.heap.size w w' := by
  go_enter Tryd.func74, Tryd.ntmps74
  go_wp2
  go_ret
  exact ⟨rfl, (Below.refl _ _).alloc (Nat.le_refl _) _⟩

abbrev V84 (a : Addr) : Value := .agg #[.pointer (some ⟨1, 84, none⟩), .pointer (some a), .int .u64 150]
abbrev T81 : Value := .iface 102 (.agg #[.pointer (some ⟨1, 81, none⟩)])

set_option maxRecDepth 100000 in
set_option maxHeartbeats 4000000 in
theorem as2_code_fault (c : Int) (a : Addr) (t : Value) (w : World) :
    Calls Tryd.prog 50 #[.iface 39 (.int .i64 c), t, V84 a, T81] w fun ev w' => ev = .returned (.bool false) ∧ Below w.heap.size w w' := by
  have h52 := ext52
  have h79 := ext79
  have f7 := typeOf39
  have f8 := assignable39_81
  have f13 := methodAssignableTo
  have q1 := noAs39
  have q2 := noUnwrap39
  have q3 := noUnwraps39
  go_enter Tryd.func50, Tryd.ntmps50
  go_wp2_with fail
  refine wp_loop_rounds 1 ?_
  rw [rounds_succ]
  go_wp2_with fail
  go_ret
  exact ⟨rfl, (Below.refl _ _).alloc (Nat.le_refl _) _⟩

set_option maxRecDepth 100000 in
set_option maxHeartbeats 4000000 in
theorem as2_fault_fault (c o : Int) (a : Addr) (g : Nat) (old : Array Value) (w : World) (ha : w.cell? a = some (.pointer (some ⟨g, 0, none⟩))) (hg : w.heap[g]? = some (.cells old 81 (0, 0))) (hs : old.size = 2) (B : Nat) (hB : B ≤ w.heap.size) (hBt : B ≤ g) :
    Calls Tryd.prog 50 #[.iface 81 (.agg #[.int .i64 c, .int .i64 o]), .iface 84 (.pointer (some ⟨g, 0, none⟩)), V84 a, T81] w fun ev w' => ev = .returned (.bool true) ∧ w'.heap[g]? = some (.cells #[.int .i64 c, .int .i64 o] 81 (0, 0)) ∧ Below B w w' := by
  have h52 := ext52
  have h79 := ext79
  have h53 := ext53
  have h54 := ext54
  have h47 := ext47
  have f7 := typeOf81
  have f8 := assignable81_81
  have f9 := valueOf81
  have f13 := methodAssignableTo
  have b1 : Below w.heap.size w (w.alloc (.cells #[.pointer (some ⟨1, 84, none⟩), .pointer (some a), .int .u64 150] 90)) := (Below.refl _ _).alloc (Nat.le_refl _) _
  have n1 := elemV84 a ⟨g, 0, none⟩ (w.alloc (.cells #[.pointer (some ⟨1, 84, none⟩), .pointer (some a), .int .u64 150] 90)) (cell_alloc ha _)
  have hg2 := heap_later (heap_later hg b1) ((Below.refl _ (w.alloc (.cells #[.pointer (some ⟨1, 84, none⟩), .pointer (some a), .int .u64 150] 90))).alloc (Nat.le_refl _) (.cells #[.int .i64 c, .int .i64 o] 81))
  have hb2 := heap_alloc_new (w.alloc (.cells #[.pointer (some ⟨1, 84, none⟩), .pointer (some a), .int .u64 150] 90)) (.cells #[.int .i64 c, .int .i64 o] 81)
  rw [World.size_alloc] at hb2
  have n2 := set81 g (w.heap.size + 1) c o old 81 _ hb2 hg2 hs
  have HT := hid (setRow_heap _ _ _ #[.int .i64 c, .int .i64 o] _ _ hg2)
  have HBt := hid hBt
  have HB := hid hB
  clear ha hg hBt hB b1 hg2 hb2
  go_enter Tryd.func50, Tryd.ntmps50
  go_wp2_with fail
  refine wp_loop_rounds 1 ?_
  rw [rounds_succ]
  go_wp2_with fail
  go_ret
  refine ⟨rfl, HT.out, (((Below.refl _ _).alloc HB.out _).alloc (by have := HB.out; simp; omega) _).trans ⟨rfl, rfl, rfl, by simp, fun i hi => setRow_other _ _ _ _ (by have := HBt.out; omega)⟩⟩

set_option maxRecDepth 100000 in
set_option maxHeartbeats 4000000 in
theorem as2_fault_code (c o : Int) (a t : Addr) (old : Value) (w : World) (ha : w.cell? a = some (.pointer (some t))) (ht0 : w.cell? t = some old) (hf0 : w.frozen? t = false) (B : Nat) (hB : B ≤ w.heap.size) (hBt : B ≤ t.block) :
    Calls Tryd.prog 50 #[.iface 81 (.agg #[.int .i64 c, .int .i64 o]), .iface 83 (.pointer (some t)), V83 a, T39] w fun ev w' => ev = .returned (.bool true) ∧ w'.cell? t = some (.int .i64 c) ∧ Below B w w' := by
  have h52 := ext52
  have h79 := ext79
  have h53 := ext53
  have h54 := ext54
  have h47 := ext47
  have f7 := typeOf39
  have f7' := typeOf81
  have f8 := assignable39_39
  have f8' := assignable81_39
  have f9 := valueOf39
  have f13 := methodAssignableTo
  have q1 := noAs81
  have q2 := unwrap81
  have q3 := methodUnwrap
  have HA := hid ha
  have HT := hid ht0
  have HF := hid hf0
  have HBt := hid hBt
  have HB := hid hB
  clear ha ht0 hf0 hBt hB
  go_enter Tryd.func50, Tryd.ntmps50
  go_wp2_with fail
  refine wp_loop_rounds 2 ?_
  rw [rounds_succ]
  go_wp2_with fail
  refine (unwrap_any c o _).mono ?_
  rintro e w2 ⟨rfl, bel2⟩
  have hn := heap_alloc_new w (.cells #[.pointer (some ⟨1, 83, none⟩), .pointer (some a), .int .u64 150] 90)
  have hn2 := heap_later hn bel2
  have c0 : w2.cell? ⟨w.heap.size, 0, none⟩ = some (.pointer (some ⟨1, 83, none⟩)) := by rw [cell_of_row _ _ _ _ _ _ hn2]; rfl
  have c1 : w2.cell? ⟨w.heap.size, 1, none⟩ = some (.pointer (some a)) := by rw [cell_of_row _ _ _ _ _ _ hn2]; rfl
  have c2 : w2.cell? ⟨w.heap.size, 2, none⟩ = some (.int .u64 150) := by rw [cell_of_row _ _ _ _ _ _ hn2]; rfl
  have bw : Below w.heap.size w w2 := ((Below.refl _ _).alloc (Nat.le_refl _) _).trans (bel2.mono (by simp))
  have ha2 := cell_later bw HA.out
  have ht2 := cell_later bw HT.out
  have hf2 : w2.frozen? t = false := (bw.frozen (block_lt_of_cell HT.out)).trans HF.out
  have n1 := elemV83 a t w2 ha2
  have n2 := set39 t ⟨w2.heap.size, 0, none⟩ c old (w2.alloc (.cells #[.int .i64 c] 39)) (cell_new1 _ _ _) (cell_alloc ht2 _) (frozen_alloc' ht2 hf2 _)
  have HT2 := hid (World.cell?_setCell_same' (w2.alloc (.cells #[.int .i64 c] 39)) t (.int .i64 c) (by rw [cell_alloc ht2 _]; rfl))
  have Bw := hid bw
  clear hn hn2 bel2 bw ha2 ht2 hf2
  go_wp2_with fail
  rw [rounds_succ]
  go_wp2_with fail
  go_ret
  exact ⟨rfl, HT2.out, ((Bw.out.mono HB.out).alloc (Nat.le_trans HB.out Bw.out.size) _).setCell HBt.out _⟩
end Go.Proofs.YtgbgcfdniodfpaaDoor
