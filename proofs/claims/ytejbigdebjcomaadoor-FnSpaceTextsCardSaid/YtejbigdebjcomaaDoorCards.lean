/-
  DERIVED. GIVEN WITH THE SEED: THE CARDS: each row of YtejbigdebjcomaaDoorRows.lean that lists a variable, with what it lists TIED to the program's text (the seventh form; the later family's looks); each row that meets fmt, with fmt's text TOLD by the authors' own Lean function (tested against real Go, not proved from fmt's source: count such statements apart). THE CARD IS WHAT COUNTS. Prove the row's statement (the work); the ties are given (YtejbigdebjcomaaDoorTie.lean); close each card by the builder's one call (the guide's Derived/Test/ToyasCard.lean, 'card_holds'). Laid BY PROGRAM, IN A SANDBOX (cutbox-door.mjs). By AI agents, Wed Nov 11 2026. No macro, syntax, notation, axiom, sorry.
-/
import Derived.Test.YtejbigdebjcomaaDoorRows
import GoSem.ClaimSeven
namespace Go.Proofs.YtejbigdebjcomaaDoor
namespace Rows

/-- THE TIED CARD OF 'laws.FnExactParseSpace'. -/
def fnExactParseSpaceCard : Claim7 := { stood := { row := fnExactParseSpaceRow, standIns := [], harness := (true, "56a18fc9a3af34e69fa4195b3ce1b2db2af2631e56d569b43a2ef75f49865582"), looks := true }, kinds := [], alts := [], laidByText := true, laidKinds := [.data, .data, .data, .data, .sentinel, .sentinel, .pinned], laidTests := true, laidLooks := .later }
def FnExactParseSpaceCardSaid : Prop := Claim7.holds Tryd.pinned (.plain (OpenSpec.ofChange fnExactParseSpaceSpec)) fnExactParseSpaceCard

/-- THE TIED CARD OF 'laws.FnExactSpaceText'. -/
def fnExactSpaceTextCard : Claim7 := { stood := { row := fnExactSpaceTextRow, standIns := [], harness := (true, "56a18fc9a3af34e69fa4195b3ce1b2db2af2631e56d569b43a2ef75f49865582"), looks := true }, kinds := [], alts := [], laidByText := true, laidKinds := [.data, .data, .data], laidTests := true, laidLooks := .later }
def FnExactSpaceTextCardSaid : Prop := Claim7.holds Tryd.pinned (.plain (OpenSpec.ofChange fnExactSpaceTextSpec)) fnExactSpaceTextCard

/-- THE TIED CARD OF 'laws.FnSpaceTexts'. -/
def fnSpaceTextsCard : Claim7 := { stood := { row := fnSpaceTextsRow, standIns := [], harness := (true, "56a18fc9a3af34e69fa4195b3ce1b2db2af2631e56d569b43a2ef75f49865582"), looks := true }, kinds := [], alts := [], laidByText := true, laidKinds := [.data, .data, .data, .data, .sentinel, .sentinel, .pinned], laidTests := true, laidLooks := .later }
def FnSpaceTextsCardSaid : Prop := Claim7.holds Tryd.pinned (.plain (OpenSpec.ofChange fnSpaceTextsSpec)) fnSpaceTextsCard

/-- THE SECOND FORM's CARD OF 'laws.FnExactParseSpace'. -/
def fnExactParseSpaceUptoCard : Claim7 := { stood := { row := fnExactParseSpaceUptoRow, standIns := [], harness := (true, "56a18fc9a3af34e69fa4195b3ce1b2db2af2631e56d569b43a2ef75f49865582"), looks := true }, kinds := [], alts := [], laidByText := true, laidKinds := [.data, .data, .data, .data, .sentinel, .sentinel, .pinned], laidTests := true, laidLooks := .later }
def FnExactParseSpaceUptoCardSaid : Prop := Claim7.holds Tryd.pinned (.plain (OpenSpec.upto fnExactParseSpaceSpec)) fnExactParseSpaceUptoCard

/-- THE SECOND FORM's CARD OF 'laws.FnExactSpaceText'. -/
def fnExactSpaceTextUptoCard : Claim7 := { stood := { row := fnExactSpaceTextUptoRow, standIns := [], harness := (true, "56a18fc9a3af34e69fa4195b3ce1b2db2af2631e56d569b43a2ef75f49865582"), looks := true }, kinds := [], alts := [], laidByText := true, laidKinds := [.data, .data, .data], laidTests := true, laidLooks := .later }
def FnExactSpaceTextUptoCardSaid : Prop := Claim7.holds Tryd.pinned (.plain (OpenSpec.upto fnExactSpaceTextSpec)) fnExactSpaceTextUptoCard

/-- THE SECOND FORM's CARD OF 'laws.FnSpaceTexts'. -/
def fnSpaceTextsUptoCard : Claim7 := { stood := { row := fnSpaceTextsUptoRow, standIns := [], harness := (true, "56a18fc9a3af34e69fa4195b3ce1b2db2af2631e56d569b43a2ef75f49865582"), looks := true }, kinds := [], alts := [], laidByText := true, laidKinds := [.data, .data, .data, .data, .sentinel, .sentinel, .pinned], laidTests := true, laidLooks := .later }
def FnSpaceTextsUptoCardSaid : Prop := Claim7.holds Tryd.pinned (.plain (OpenSpec.upto fnSpaceTextsSpec)) fnSpaceTextsUptoCard
end Rows
end Go.Proofs.YtejbigdebjcomaaDoor
