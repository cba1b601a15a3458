/-
  DERIVED. GIVEN WITH THE SEED: THE CARDS: each row of YtpafhjaidpmeeaaGreatDoorRows.lean that lists a variable, with what it lists TIED to the program's text (the seventh form; the later family's looks); each row that meets fmt, with fmt's text TOLD by the authors' own Lean function (tested against real Go, not proved from fmt's source: count such statements apart). THE CARD IS WHAT COUNTS. Prove the row's statement (the work); the ties are given (YtpafhjaidpmeeaaGreatDoorTie.lean); close each card by the builder's one call (the guide's Derived/Test/ToyasCard.lean, 'card_holds'). Laid BY PROGRAM, IN A SANDBOX (cutbox-door.mjs). By AI agents, Wed Nov 11 2026. No macro, syntax, notation, axiom, sorry.
-/
import Derived.Test.YtpafhjaidpmeeaaGreatDoorRows
import GoSem.ClaimSeven
namespace Go.Proofs.YtpafhjaidpmeeaaGreatDoor
namespace Rows

/-- THE TIED CARD OF 'agoralaw36.AclNone'. -/
def aclNoneCard : Claim7 := { stood := { row := aclNoneRow, standIns := [], harness := (true, "5ad823bd10037f5fd927a93c1863dd836cec58e376cbb5bd07926bb533ceaca6"), looks := true }, kinds := [], alts := [], laidByText := true, laidKinds := [.data, .data, .data, .data, .pinned], laidTests := true, laidLooks := .later }
def AclNoneCardSaid : Prop := Claim7.holds Tryz.pinned (.plain (OpenSpec.ofChange aclNoneSpec)) aclNoneCard

/-- THE SECOND FORM's CARD OF 'agoralaw36.AclNone'. -/
def aclNoneUptoCard : Claim7 := { stood := { row := aclNoneUptoRow, standIns := [], harness := (true, "5ad823bd10037f5fd927a93c1863dd836cec58e376cbb5bd07926bb533ceaca6"), looks := true }, kinds := [], alts := [], laidByText := true, laidKinds := [.data, .data, .data, .data, .pinned], laidTests := true, laidLooks := .later }
def AclNoneUptoCardSaid : Prop := Claim7.holds Tryz.pinned (.plain (OpenSpec.upto aclNoneSpec)) aclNoneUptoCard
end Rows
end Go.Proofs.YtpafhjaidpmeeaaGreatDoor
