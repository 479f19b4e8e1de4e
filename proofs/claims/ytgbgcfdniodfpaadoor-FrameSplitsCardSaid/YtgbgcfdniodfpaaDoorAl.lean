/- frame.All. -/
import Derived.Test.YtgbgcfdniodfpaaDoorRr
namespace Go.Proofs.YtgbgcfdniodfpaaDoor
open Go.RowKit
set_option linter.unusedVariables false

set_option maxRecDepth 100000 in
set_option maxHeartbeats 2000000 in
theorem All_any (a : Option Addr) (n c : Nat) (w : World) :
    Calls Tryd.prog 22 #[.slice a n c] w fun e w' => e = .returned (.func (.func 38) #[] #[.pointer (some ⟨w.heap.size, 0, none⟩)]) ∧ w' = w.alloc (.cells #[.slice a n c] 22) := by
  go_enter Tryd.func22, Tryd.ntmps22
  go_wp2_with fail
  go_ret

  exact ⟨rfl, rfl⟩
end Go.Proofs.YtgbgcfdniodfpaaDoor
