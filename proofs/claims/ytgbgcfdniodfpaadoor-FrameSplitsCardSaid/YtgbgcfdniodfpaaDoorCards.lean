/-
  DERIVED. GIVEN WITH THE SEED: THE CARDS: each row of YtgbgcfdniodfpaaDoorRows.lean that lists a variable, with what it lists TIED to the program's text (the seventh form; the later family's looks); each row that meets fmt, with fmt's text TOLD by the authors' own Lean function (tested against real Go, not proved from fmt's source: count such statements apart). THE CARD IS WHAT COUNTS. Prove the row's statement (the work); the ties are given (YtgbgcfdniodfpaaDoorTie.lean); close each card by the builder's one call (the guide's Derived/Test/ToyasCard.lean, 'card_holds'). Laid BY PROGRAM, IN A SANDBOX (cutbox-door.mjs). By AI agents, Wed Nov 11 2026. No macro, syntax, notation, axiom, sorry.
-/
import Derived.Test.YtgbgcfdniodfpaaDoorRows
import GoSem.ClaimSeven
namespace Go.Proofs.YtgbgcfdniodfpaaDoor
namespace Rows

/-- THE TIED CARD OF 'vestrylaw05.FrameMatchesReference'. -/
def frameMatchesReferenceCard : Claim7 := { stood := { row := frameMatchesReferenceRow, standIns := [], harness := (true, "89c6b42c1872f90992651fb6fcbf3b161ca6ab61b266363633b904b1bcf86159"), looks := true }, kinds := [], alts := [], laidByText := true, laidKinds := [.handle], laidTests := true, laidLooks := .later }
def FrameMatchesReferenceCardSaid : Prop := Claim7.holds Tryd.pinned (.plain (OpenSpec.ofChange frameMatchesReferenceSpec)) frameMatchesReferenceCard

/-- THE TIED CARD OF 'vestrylaw05.FrameReads'. -/
def frameReadsCard : Claim7 := { stood := { row := frameReadsRow, standIns := [], harness := (true, "89c6b42c1872f90992651fb6fcbf3b161ca6ab61b266363633b904b1bcf86159"), looks := true }, kinds := [], alts := [], laidByText := true, laidKinds := [.handle], laidTests := true, laidLooks := .later }
def FrameReadsCardSaid : Prop := Claim7.holds Tryd.pinned (.plain (OpenSpec.ofChange frameReadsSpec)) frameReadsCard

/-- THE TIED CARD OF 'vestrylaw05.FrameLimits'. -/
def frameLimitsCard : Claim7 := { stood := { row := frameLimitsRow, standIns := [], harness := (true, "89c6b42c1872f90992651fb6fcbf3b161ca6ab61b266363633b904b1bcf86159"), looks := true }, kinds := [], alts := [], laidByText := true, laidKinds := [.handle], laidTests := true, laidLooks := .later }
def FrameLimitsCardSaid : Prop := Claim7.holds Tryd.pinned (.plain (OpenSpec.ofChange frameLimitsSpec)) frameLimitsCard

/-- THE TIED CARD OF 'vestrylaw05.FrameDamage'. -/
def frameDamageCard : Claim7 := { stood := { row := frameDamageRow, standIns := [], harness := (true, "89c6b42c1872f90992651fb6fcbf3b161ca6ab61b266363633b904b1bcf86159"), looks := true }, kinds := [], alts := [], laidByText := true, laidKinds := [.handle], laidTests := true, laidLooks := .later }
def FrameDamageCardSaid : Prop := Claim7.holds Tryd.pinned (.plain (OpenSpec.ofChange frameDamageSpec)) frameDamageCard

/-- THE TIED CARD OF 'vestrylaw05.FrameSplits'. -/
def frameSplitsCard : Claim7 := { stood := { row := frameSplitsRow, standIns := [], harness := (true, "89c6b42c1872f90992651fb6fcbf3b161ca6ab61b266363633b904b1bcf86159"), looks := true }, kinds := [], alts := [], laidByText := true, laidKinds := [.handle], laidTests := true, laidLooks := .later }
def FrameSplitsCardSaid : Prop := Claim7.holds Tryd.pinned (.plain (OpenSpec.ofChange frameSplitsSpec)) frameSplitsCard

/-- THE SECOND FORM's CARD OF 'vestrylaw05.FrameMatchesReference'. -/
def frameMatchesReferenceUptoCard : Claim7 := { stood := { row := frameMatchesReferenceUptoRow, standIns := [], harness := (true, "89c6b42c1872f90992651fb6fcbf3b161ca6ab61b266363633b904b1bcf86159"), looks := true }, kinds := [], alts := [], laidByText := true, laidKinds := [.handle], laidTests := true, laidLooks := .later }
def FrameMatchesReferenceUptoCardSaid : Prop := Claim7.holds Tryd.pinned (.plain (OpenSpec.upto frameMatchesReferenceSpec)) frameMatchesReferenceUptoCard

/-- THE SECOND FORM's CARD OF 'vestrylaw05.FrameReads'. -/
def frameReadsUptoCard : Claim7 := { stood := { row := frameReadsUptoRow, standIns := [], harness := (true, "89c6b42c1872f90992651fb6fcbf3b161ca6ab61b266363633b904b1bcf86159"), looks := true }, kinds := [], alts := [], laidByText := true, laidKinds := [.handle], laidTests := true, laidLooks := .later }
def FrameReadsUptoCardSaid : Prop := Claim7.holds Tryd.pinned (.plain (OpenSpec.upto frameReadsSpec)) frameReadsUptoCard

/-- THE SECOND FORM's CARD OF 'vestrylaw05.FrameLimits'. -/
def frameLimitsUptoCard : Claim7 := { stood := { row := frameLimitsUptoRow, standIns := [], harness := (true, "89c6b42c1872f90992651fb6fcbf3b161ca6ab61b266363633b904b1bcf86159"), looks := true }, kinds := [], alts := [], laidByText := true, laidKinds := [.handle], laidTests := true, laidLooks := .later }
def FrameLimitsUptoCardSaid : Prop := Claim7.holds Tryd.pinned (.plain (OpenSpec.upto frameLimitsSpec)) frameLimitsUptoCard

/-- THE SECOND FORM's CARD OF 'vestrylaw05.FrameDamage'. -/
def frameDamageUptoCard : Claim7 := { stood := { row := frameDamageUptoRow, standIns := [], harness := (true, "89c6b42c1872f90992651fb6fcbf3b161ca6ab61b266363633b904b1bcf86159"), looks := true }, kinds := [], alts := [], laidByText := true, laidKinds := [.handle], laidTests := true, laidLooks := .later }
def FrameDamageUptoCardSaid : Prop := Claim7.holds Tryd.pinned (.plain (OpenSpec.upto frameDamageSpec)) frameDamageUptoCard

/-- THE SECOND FORM's CARD OF 'vestrylaw05.FrameSplits'. -/
def frameSplitsUptoCard : Claim7 := { stood := { row := frameSplitsUptoRow, standIns := [], harness := (true, "89c6b42c1872f90992651fb6fcbf3b161ca6ab61b266363633b904b1bcf86159"), looks := true }, kinds := [], alts := [], laidByText := true, laidKinds := [.handle], laidTests := true, laidLooks := .later }
def FrameSplitsUptoCardSaid : Prop := Claim7.holds Tryd.pinned (.plain (OpenSpec.upto frameSplitsSpec)) frameSplitsUptoCard
end Rows
end Go.Proofs.YtgbgcfdniodfpaaDoor
