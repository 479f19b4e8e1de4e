/-
  No cell of these rows narrows 'for every input' (looked for: loops, veiled, ifaces, maps, wideKeys, modest, calm, conditions, laid).
  DERIVED. THE GIVEN ROWS OF THIS SEAT. 5 by the template 'for every input the law returns true; each argument reads behind the call as it read before'; 0 by the template 'total and deterministic' (their statements: YtgbgcfdniodfpaaTotals.lean).
  GIVEN WITH THE SEED: the statements are not yours to turn. If you find one false, say at which input.
  Laid BY PROGRAM, IN A SANDBOX (cutbox-rows.mjs): the forced cells as the released guide's own fill.sh prints them over the translation 18a83de17884f879… (all of the seat's roots in one cut). By AI agents, Wed Nov 11 2026. No macro, syntax, notation, axiom, sorry.
-/
import Derived.Test.YtgbgcfdniodfpaaChecked
import GoSem.Claim
import GoSem.ClaimJoined
import GoSem.ClaimMapViews
import Derived.JoinedTies
import Derived.KernelRfl
namespace Go.Proofs.Ytgbgcfdniodfpaa
/- THE CELL 'sum', in the pinned program and in every row, IS THE sha256 OF THE DUMP (.gsa) THAT YtgbgcfdniodfpaaProg.lean LOADS. Nothing in Lean hashes anything: it is a label: what it is worth is what the hold of that sum in a sandbox is worth. -/
noncomputable def Try.pinned : Pinned := { name := "ytgbgcfdniodfpaa", sum := "18a83de17884f87941180ff68ef7acaabe8ac6ae60cac04d38beed99c50ecc81", checked := Try.checked }
namespace Rows
def none {H : Type} : Left H := { results := [], args := [] }

/-- 'vestrylaw03.CrcMatchesReference': WHATEVER THE INPUT: true; the input reads as it did. -/
def crcMatchesReferenceSpec : ChangeSpec := { name := "crcMatchesReference", fn := fun _ => fun
  | [d] => { results := [.lit (.bool true)], args := [d] }
  | _ => none }
def crcMatchesReferenceRow : OpenClaim := { program := "ytgbgcfdniodfpaa", sum := "18a83de17884f87941180ff68ef7acaabe8ac6ae60cac04d38beed99c50ecc81", func := "vestry/vestrylaw03.CrcMatchesReference", spec := "crcMatchesReference", apart := false }
def CrcMatchesReferenceSaid : Prop := crcMatchesReferenceRow.holds Try.pinned (OpenSpec.ofChange crcMatchesReferenceSpec)

/-- ITS FALSE NEIGHBOUR: 'it returns false'. Refute it at one input. -/
def crcMatchesReferenceWrong : ChangeSpec := { name := "crcMatchesReference", fn := fun _ => fun
  | [d] => { results := [.lit (.bool false)], args := [d] }
  | _ => none }
def CrcMatchesReferenceWrongFalsely : Prop := crcMatchesReferenceRow.holds Try.pinned (OpenSpec.ofChange crcMatchesReferenceWrong)

/-- 'vestrylaw03.CrcSeals': WHATEVER THE INPUT: true; the input reads as it did. -/
def crcSealsSpec : ChangeSpec := { name := "crcSeals", fn := fun _ => fun
  | [d1, d2] => { results := [.lit (.bool true)], args := [d1, d2] }
  | _ => none }
def crcSealsRow : OpenClaim := { program := "ytgbgcfdniodfpaa", sum := "18a83de17884f87941180ff68ef7acaabe8ac6ae60cac04d38beed99c50ecc81", func := "vestry/vestrylaw03.CrcSeals", spec := "crcSeals", apart := false }
def CrcSealsSaid : Prop := crcSealsRow.holds Try.pinned (OpenSpec.ofChange crcSealsSpec)

/-- ITS FALSE NEIGHBOUR: 'it returns false'. Refute it at one input. -/
def crcSealsWrong : ChangeSpec := { name := "crcSeals", fn := fun _ => fun
  | [d1, d2] => { results := [.lit (.bool false)], args := [d1, d2] }
  | _ => none }
def CrcSealsWrongFalsely : Prop := crcSealsRow.holds Try.pinned (OpenSpec.ofChange crcSealsWrong)

/-- 'vestrylaw03.CrcFlips': WHATEVER THE INPUT: true; the input reads as it did. -/
def crcFlipsSpec : ChangeSpec := { name := "crcFlips", fn := fun _ => fun
  | [d1, d2, d3] => { results := [.lit (.bool true)], args := [d1, d2, d3] }
  | _ => none }
def crcFlipsRow : OpenClaim := { program := "ytgbgcfdniodfpaa", sum := "18a83de17884f87941180ff68ef7acaabe8ac6ae60cac04d38beed99c50ecc81", func := "vestry/vestrylaw03.CrcFlips", spec := "crcFlips", apart := false }
def CrcFlipsSaid : Prop := crcFlipsRow.holds Try.pinned (OpenSpec.ofChange crcFlipsSpec)

/-- ITS FALSE NEIGHBOUR: 'it returns false'. Refute it at one input. -/
def crcFlipsWrong : ChangeSpec := { name := "crcFlips", fn := fun _ => fun
  | [d1, d2, d3] => { results := [.lit (.bool false)], args := [d1, d2, d3] }
  | _ => none }
def CrcFlipsWrongFalsely : Prop := crcFlipsRow.holds Try.pinned (OpenSpec.ofChange crcFlipsWrong)

/-- 'vestrylaw03.CrcBursts': WHATEVER THE INPUT: true; the input reads as it did. -/
def crcBurstsSpec : ChangeSpec := { name := "crcBursts", fn := fun _ => fun
  | [d1, d2, d3, d4] => { results := [.lit (.bool true)], args := [d1, d2, d3, d4] }
  | _ => none }
def crcBurstsRow : OpenClaim := { program := "ytgbgcfdniodfpaa", sum := "18a83de17884f87941180ff68ef7acaabe8ac6ae60cac04d38beed99c50ecc81", func := "vestry/vestrylaw03.CrcBursts", spec := "crcBursts", apart := false }
def CrcBurstsSaid : Prop := crcBurstsRow.holds Try.pinned (OpenSpec.ofChange crcBurstsSpec)

/-- ITS FALSE NEIGHBOUR: 'it returns false'. Refute it at one input. -/
def crcBurstsWrong : ChangeSpec := { name := "crcBursts", fn := fun _ => fun
  | [d1, d2, d3, d4] => { results := [.lit (.bool false)], args := [d1, d2, d3, d4] }
  | _ => none }
def CrcBurstsWrongFalsely : Prop := crcBurstsRow.holds Try.pinned (OpenSpec.ofChange crcBurstsWrong)

/-- 'vestrylaw03.CrcExtends': WHATEVER THE INPUT: true; the input reads as it did. -/
def crcExtendsSpec : ChangeSpec := { name := "crcExtends", fn := fun _ => fun
  | [d1, d2] => { results := [.lit (.bool true)], args := [d1, d2] }
  | _ => none }
def crcExtendsRow : OpenClaim := { program := "ytgbgcfdniodfpaa", sum := "18a83de17884f87941180ff68ef7acaabe8ac6ae60cac04d38beed99c50ecc81", func := "vestry/vestrylaw03.CrcExtends", spec := "crcExtends", apart := false }
def CrcExtendsSaid : Prop := crcExtendsRow.holds Try.pinned (OpenSpec.ofChange crcExtendsSpec)

/-- ITS FALSE NEIGHBOUR: 'it returns false'. Refute it at one input. -/
def crcExtendsWrong : ChangeSpec := { name := "crcExtends", fn := fun _ => fun
  | [d1, d2] => { results := [.lit (.bool false)], args := [d1, d2] }
  | _ => none }
def CrcExtendsWrongFalsely : Prop := crcExtendsRow.holds Try.pinned (OpenSpec.ofChange crcExtendsWrong)

/- THE SECOND FORM. 'bulk': how many values and letters a reading holds, each counted each time it is reached (what is shared counts as often as it is met; a slice's spare places count too). A statement '..UptoSaid' is the law's where the arguments, and the package variables that the reading takes, are together of bulk at most 1048576: NARROWER than '..Said'. Prove '..Said' where nothing that the law and all that it calls make is longer than what came in: it says more and counts as full. Else prove '..UptoSaid'. A law counts once. -/
mutual
def uptoBulk {H : Type} : DataW H → Nat
  | .lit (.string bytes) => bytes.length + 1
  | .lit _ => 1
  | .nil => 1
  | .ptr d => uptoBulk d + 1
  | .slice elems spare => uptoBulkAll elems + uptoBulkAll spare + 1
  | .agg parts => uptoBulkAll parts + 1
  | .iface _ d => uptoBulk d + 1
  | .map entries => uptoBulkEntries entries + 1
  | .held _ => 1
def uptoBulkAll {H : Type} : List (DataW H) → Nat
  | [] => 0
  | d :: r => uptoBulk d + uptoBulkAll r
def uptoBulkEntries {H : Type} : List (Lit × DataW H) → Nat
  | [] => 0
  | x :: r => uptoBulkEntry x + uptoBulkEntries r
def uptoBulkEntry {H : Type} : Lit × DataW H → Nat
  | (.string bytes, d) => bytes.length + uptoBulk d + 1
  | (_, d) => uptoBulk d + 1
 end
def uptoSmall : (H : Type) → List (DataW H) → Bool := fun _ ds => decide (uptoBulkAll ds ≤ 1048576)
def OpenSpec.upto (s : _root_.Go.ChangeSpec) : _root_.Go.OpenSpec := { _root_.Go.OpenSpec.ofChange s with cond := some uptoSmall }

/-- 'vestrylaw03.CrcMatchesReference', WHERE WHAT IT READS IS OF BULK AT MOST 1048576: true; the input reads as it did. -/
def crcMatchesReferenceUptoRow : OpenClaim := { program := "ytgbgcfdniodfpaa", sum := "18a83de17884f87941180ff68ef7acaabe8ac6ae60cac04d38beed99c50ecc81", func := "vestry/vestrylaw03.CrcMatchesReference", spec := "crcMatchesReference", apart := false, narrowed := true }
def CrcMatchesReferenceUptoSaid : Prop := crcMatchesReferenceUptoRow.holds Try.pinned (OpenSpec.upto crcMatchesReferenceSpec)

/-- 'vestrylaw03.CrcSeals', WHERE WHAT IT READS IS OF BULK AT MOST 1048576: true; the input reads as it did. -/
def crcSealsUptoRow : OpenClaim := { program := "ytgbgcfdniodfpaa", sum := "18a83de17884f87941180ff68ef7acaabe8ac6ae60cac04d38beed99c50ecc81", func := "vestry/vestrylaw03.CrcSeals", spec := "crcSeals", apart := false, narrowed := true }
def CrcSealsUptoSaid : Prop := crcSealsUptoRow.holds Try.pinned (OpenSpec.upto crcSealsSpec)

/-- 'vestrylaw03.CrcFlips', WHERE WHAT IT READS IS OF BULK AT MOST 1048576: true; the input reads as it did. -/
def crcFlipsUptoRow : OpenClaim := { program := "ytgbgcfdniodfpaa", sum := "18a83de17884f87941180ff68ef7acaabe8ac6ae60cac04d38beed99c50ecc81", func := "vestry/vestrylaw03.CrcFlips", spec := "crcFlips", apart := false, narrowed := true }
def CrcFlipsUptoSaid : Prop := crcFlipsUptoRow.holds Try.pinned (OpenSpec.upto crcFlipsSpec)

/-- 'vestrylaw03.CrcBursts', WHERE WHAT IT READS IS OF BULK AT MOST 1048576: true; the input reads as it did. -/
def crcBurstsUptoRow : OpenClaim := { program := "ytgbgcfdniodfpaa", sum := "18a83de17884f87941180ff68ef7acaabe8ac6ae60cac04d38beed99c50ecc81", func := "vestry/vestrylaw03.CrcBursts", spec := "crcBursts", apart := false, narrowed := true }
def CrcBurstsUptoSaid : Prop := crcBurstsUptoRow.holds Try.pinned (OpenSpec.upto crcBurstsSpec)

/-- 'vestrylaw03.CrcExtends', WHERE WHAT IT READS IS OF BULK AT MOST 1048576: true; the input reads as it did. -/
def crcExtendsUptoRow : OpenClaim := { program := "ytgbgcfdniodfpaa", sum := "18a83de17884f87941180ff68ef7acaabe8ac6ae60cac04d38beed99c50ecc81", func := "vestry/vestrylaw03.CrcExtends", spec := "crcExtends", apart := false, narrowed := true }
def CrcExtendsUptoSaid : Prop := crcExtendsUptoRow.holds Try.pinned (OpenSpec.upto crcExtendsSpec)

end Rows
end Go.Proofs.Ytgbgcfdniodfpaa
