/-
  DERIVED. GIVEN WITH THE SEED: THE CARDS: each row of YtfoapfilmkapjaaDoorRows.lean that lists a variable, with what it lists TIED to the program's text (the seventh form; the later family's looks); each row that meets fmt, with fmt's text TOLD by the authors' own Lean function (tested against real Go, not proved from fmt's source: count such statements apart). THE CARD IS WHAT COUNTS. Prove the row's statement (the work); the ties are given (YtfoapfilmkapjaaDoorTie.lean); close each card by the builder's one call (the guide's Derived/Test/ToyasCard.lean, 'card_holds'). Laid BY PROGRAM, IN A SANDBOX (cutbox-door.mjs). By AI agents, Wed Nov 11 2026. No macro, syntax, notation, axiom, sorry.
-/
import Derived.Test.YtfoapfilmkapjaaDoorRows
import GoSem.ClaimSeven
namespace Go.Proofs.YtfoapfilmkapjaaDoor
namespace Rows

/-- THE TIED CARD OF 'laws.FnExactShowIns'. -/
def fnExactShowInsCard : Claim7 := { stood := { row := fnExactShowInsRow, standIns := [], harness := (true, "272284c72538fcbd8cd555446f3eed91101ff20f9b81efe0dfbf9ac62364b653"), looks := false }, kinds := [], alts := [], laidByText := true, laidKinds := [.data, .data, .data], laidTests := true, laidLooks := .later }
def FnExactShowInsCardSaid : Prop := Claim7.holds Tryd.pinned (.plain (OpenSpec.ofChange fnExactShowInsSpec)) fnExactShowInsCard

/-- THE TIED CARD OF 'laws.FnExactListingOf'. -/
def fnExactListingOfCard : Claim7 := { stood := { row := fnExactListingOfRow, standIns := [], harness := (true, "272284c72538fcbd8cd555446f3eed91101ff20f9b81efe0dfbf9ac62364b653"), looks := false }, kinds := [], alts := [], laidByText := true, laidKinds := [.data, .data, .data], laidTests := true, laidLooks := .later }
def FnExactListingOfCardSaid : Prop := Claim7.holds Tryd.pinned (.plain (OpenSpec.ofChange fnExactListingOfSpec)) fnExactListingOfCard

/-- THE TIED CARD OF 'laws.FnExactGenLock'. -/
def fnExactGenLockCard : Claim7 := { stood := { row := fnExactGenLockRow, standIns := [], harness := (true, "272284c72538fcbd8cd555446f3eed91101ff20f9b81efe0dfbf9ac62364b653"), looks := false }, kinds := [], alts := [], laidByText := true, laidKinds := [.data, .data, .data], laidTests := true, laidLooks := .later }
def FnExactGenLockCardSaid : Prop := Claim7.holds Tryd.pinned (.plain (OpenSpec.ofChange fnExactGenLockSpec)) fnExactGenLockCard

/-- THE TIED CARD OF 'laws.FnWords'. -/
def fnWordsCard : Claim7 := { stood := { row := fnWordsRow, standIns := [], harness := (true, "272284c72538fcbd8cd555446f3eed91101ff20f9b81efe0dfbf9ac62364b653"), looks := false }, kinds := [], alts := [], laidByText := true, laidKinds := [.data, .data, .data], laidTests := true, laidLooks := .later }
def FnWordsCardSaid : Prop := Claim7.holds Tryd.pinned (.plain (OpenSpec.ofChange fnWordsSpec)) fnWordsCard

/-- THE SECOND FORM's CARD OF 'laws.FnExactShowIns'. -/
def fnExactShowInsUptoCard : Claim7 := { stood := { row := fnExactShowInsUptoRow, standIns := [], harness := (true, "272284c72538fcbd8cd555446f3eed91101ff20f9b81efe0dfbf9ac62364b653"), looks := false }, kinds := [], alts := [], laidByText := true, laidKinds := [.data, .data, .data], laidTests := true, laidLooks := .later }
def FnExactShowInsUptoCardSaid : Prop := Claim7.holds Tryd.pinned (.plain (OpenSpec.upto fnExactShowInsSpec)) fnExactShowInsUptoCard

/-- THE SECOND FORM's CARD OF 'laws.FnExactListingOf'. -/
def fnExactListingOfUptoCard : Claim7 := { stood := { row := fnExactListingOfUptoRow, standIns := [], harness := (true, "272284c72538fcbd8cd555446f3eed91101ff20f9b81efe0dfbf9ac62364b653"), looks := false }, kinds := [], alts := [], laidByText := true, laidKinds := [.data, .data, .data], laidTests := true, laidLooks := .later }
def FnExactListingOfUptoCardSaid : Prop := Claim7.holds Tryd.pinned (.plain (OpenSpec.upto fnExactListingOfSpec)) fnExactListingOfUptoCard

/-- THE SECOND FORM's CARD OF 'laws.FnExactGenLock'. -/
def fnExactGenLockUptoCard : Claim7 := { stood := { row := fnExactGenLockUptoRow, standIns := [], harness := (true, "272284c72538fcbd8cd555446f3eed91101ff20f9b81efe0dfbf9ac62364b653"), looks := false }, kinds := [], alts := [], laidByText := true, laidKinds := [.data, .data, .data], laidTests := true, laidLooks := .later }
def FnExactGenLockUptoCardSaid : Prop := Claim7.holds Tryd.pinned (.plain (OpenSpec.upto fnExactGenLockSpec)) fnExactGenLockUptoCard

/-- THE SECOND FORM's CARD OF 'laws.FnWords'. -/
def fnWordsUptoCard : Claim7 := { stood := { row := fnWordsUptoRow, standIns := [], harness := (true, "272284c72538fcbd8cd555446f3eed91101ff20f9b81efe0dfbf9ac62364b653"), looks := false }, kinds := [], alts := [], laidByText := true, laidKinds := [.data, .data, .data], laidTests := true, laidLooks := .later }
def FnWordsUptoCardSaid : Prop := Claim7.holds Tryd.pinned (.plain (OpenSpec.upto fnWordsSpec)) fnWordsUptoCard
end Rows
end Go.Proofs.YtfoapfilmkapjaaDoor
