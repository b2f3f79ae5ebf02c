/-
  DERIVED. GIVEN WITH THE SEED: THE CARDS: each row of YtgjmmgjbfkodiaaDoorRows.lean that lists a variable, with what it lists TIED to the program's text (the seventh form; the later family's looks); each row that meets fmt, with fmt's text TOLD by the authors' own Lean function (tested against real Go, not proved from fmt's source: count such statements apart). THE CARD IS WHAT COUNTS. Prove the row's statement (the work); the ties are given (YtgjmmgjbfkodiaaDoorTie.lean); close each card by the builder's one call (the guide's Derived/Test/ToyasCard.lean, 'card_holds'). Laid BY PROGRAM, IN A SANDBOX (cutbox-door.mjs). By AI agents, Wed Nov 11 2026. No macro, syntax, notation, axiom, sorry.
-/
import Derived.Test.YtgjmmgjbfkodiaaDoorRows
import GoSem.ClaimSeven
namespace Go.Proofs.YtgjmmgjbfkodiaaDoor
namespace Rows

/-- THE TIED CARD OF 'eyotlaw9.RegexParses'. -/
def regexParsesCard : Claim7 := { stood := { row := regexParsesRow, standIns := [], harness := (true, "ef3c21cd841d8f181c74bf4c298a686fb64dc659be867c03bda77a56e249e83b"), looks := true }, kinds := [], alts := [], laidByText := true, laidKinds := [.data], laidTests := true, laidLooks := .later }
def RegexParsesCardSaid : Prop := Claim7.holds Tryd.pinned (.plain (OpenSpec.ofChange regexParsesSpec)) regexParsesCard

/-- THE TIED CARD OF 'eyotlaw9.RegexMay'. -/
def regexMayCard : Claim7 := { stood := { row := regexMayRow, standIns := [], harness := (true, "ef3c21cd841d8f181c74bf4c298a686fb64dc659be867c03bda77a56e249e83b"), looks := true }, kinds := [], alts := [], laidByText := true, laidKinds := [.data], laidTests := true, laidLooks := .later }
def RegexMayCardSaid : Prop := Claim7.holds Tryd.pinned (.plain (OpenSpec.ofChange regexMaySpec)) regexMayCard

/-- THE TIED CARD OF 'eyotlaw9.RegexAll'. -/
def regexAllCard : Claim7 := { stood := { row := regexAllRow, standIns := [], harness := (true, "ef3c21cd841d8f181c74bf4c298a686fb64dc659be867c03bda77a56e249e83b"), looks := true }, kinds := [], alts := [], laidByText := true, laidKinds := [.data], laidTests := true, laidLooks := .later }
def RegexAllCardSaid : Prop := Claim7.holds Tryd.pinned (.plain (OpenSpec.ofChange regexAllSpec)) regexAllCard

/-- THE TIED CARD OF 'eyotlaw9.RegexBack'. -/
def regexBackCard : Claim7 := { stood := { row := regexBackRow, standIns := [], harness := (true, "ef3c21cd841d8f181c74bf4c298a686fb64dc659be867c03bda77a56e249e83b"), looks := true }, kinds := [], alts := [], laidByText := true, laidKinds := [.data], laidTests := true, laidLooks := .later }
def RegexBackCardSaid : Prop := Claim7.holds Tryd.pinned (.plain (OpenSpec.ofChange regexBackSpec)) regexBackCard

/-- THE TIED CARD OF 'eyotlaw9.RegexSpells'. -/
def regexSpellsCard : Claim7 := { stood := { row := regexSpellsRow, standIns := [], harness := (true, "ef3c21cd841d8f181c74bf4c298a686fb64dc659be867c03bda77a56e249e83b"), looks := true }, kinds := [], alts := [], laidByText := true, laidKinds := [.data], laidTests := true, laidLooks := .later }
def RegexSpellsCardSaid : Prop := Claim7.holds Tryd.pinned (.plain (OpenSpec.ofChange regexSpellsSpec)) regexSpellsCard

/-- THE TIED CARD OF 'eyotlaw9.RegexForms'. -/
def regexFormsCard : Claim7 := { stood := { row := regexFormsRow, standIns := [], harness := (true, "ef3c21cd841d8f181c74bf4c298a686fb64dc659be867c03bda77a56e249e83b"), looks := true }, kinds := [], alts := [], laidByText := true, laidKinds := [.data], laidTests := true, laidLooks := .later }
def RegexFormsCardSaid : Prop := Claim7.holds Tryd.pinned (.plain (OpenSpec.ofChange regexFormsSpec)) regexFormsCard

/-- THE TIED CARD OF 'eyotlaw9.RegexCounts'. -/
def regexCountsCard : Claim7 := { stood := { row := regexCountsRow, standIns := [], harness := (true, "ef3c21cd841d8f181c74bf4c298a686fb64dc659be867c03bda77a56e249e83b"), looks := true }, kinds := [], alts := [], laidByText := true, laidKinds := [.data], laidTests := true, laidLooks := .later }
def RegexCountsCardSaid : Prop := Claim7.holds Tryd.pinned (.plain (OpenSpec.ofChange regexCountsSpec)) regexCountsCard

/-- THE TIED CARD OF 'eyotlaw9.RegexDeep'. -/
def regexDeepCard : Claim7 := { stood := { row := regexDeepRow, standIns := [], harness := (true, "ef3c21cd841d8f181c74bf4c298a686fb64dc659be867c03bda77a56e249e83b"), looks := true }, kinds := [], alts := [], laidByText := true, laidKinds := [.data], laidTests := true, laidLooks := .later }
def RegexDeepCardSaid : Prop := Claim7.holds Tryd.pinned (.plain (OpenSpec.ofChange regexDeepSpec)) regexDeepCard

/-- THE TIED CARD OF 'eyotlaw9.RegexGroups'. -/
def regexGroupsCard : Claim7 := { stood := { row := regexGroupsRow, standIns := [], harness := (true, "ef3c21cd841d8f181c74bf4c298a686fb64dc659be867c03bda77a56e249e83b"), looks := true }, kinds := [], alts := [], laidByText := true, laidKinds := [.data], laidTests := true, laidLooks := .later }
def RegexGroupsCardSaid : Prop := Claim7.holds Tryd.pinned (.plain (OpenSpec.ofChange regexGroupsSpec)) regexGroupsCard

/-- THE TIED CARD OF 'eyotlaw9.RegexEmpty'. -/
def regexEmptyCard : Claim7 := { stood := { row := regexEmptyRow, standIns := [], harness := (true, "ef3c21cd841d8f181c74bf4c298a686fb64dc659be867c03bda77a56e249e83b"), looks := true }, kinds := [], alts := [], laidByText := true, laidKinds := [.data], laidTests := true, laidLooks := .later }
def RegexEmptyCardSaid : Prop := Claim7.holds Tryd.pinned (.plain (OpenSpec.ofChange regexEmptySpec)) regexEmptyCard

/-- THE SECOND FORM's CARD OF 'eyotlaw9.RegexParses'. -/
def regexParsesUptoCard : Claim7 := { stood := { row := regexParsesUptoRow, standIns := [], harness := (true, "ef3c21cd841d8f181c74bf4c298a686fb64dc659be867c03bda77a56e249e83b"), looks := true }, kinds := [], alts := [], laidByText := true, laidKinds := [.data], laidTests := true, laidLooks := .later }
def RegexParsesUptoCardSaid : Prop := Claim7.holds Tryd.pinned (.plain (OpenSpec.upto regexParsesSpec)) regexParsesUptoCard

/-- THE SECOND FORM's CARD OF 'eyotlaw9.RegexMay'. -/
def regexMayUptoCard : Claim7 := { stood := { row := regexMayUptoRow, standIns := [], harness := (true, "ef3c21cd841d8f181c74bf4c298a686fb64dc659be867c03bda77a56e249e83b"), looks := true }, kinds := [], alts := [], laidByText := true, laidKinds := [.data], laidTests := true, laidLooks := .later }
def RegexMayUptoCardSaid : Prop := Claim7.holds Tryd.pinned (.plain (OpenSpec.upto regexMaySpec)) regexMayUptoCard

/-- THE SECOND FORM's CARD OF 'eyotlaw9.RegexAll'. -/
def regexAllUptoCard : Claim7 := { stood := { row := regexAllUptoRow, standIns := [], harness := (true, "ef3c21cd841d8f181c74bf4c298a686fb64dc659be867c03bda77a56e249e83b"), looks := true }, kinds := [], alts := [], laidByText := true, laidKinds := [.data], laidTests := true, laidLooks := .later }
def RegexAllUptoCardSaid : Prop := Claim7.holds Tryd.pinned (.plain (OpenSpec.upto regexAllSpec)) regexAllUptoCard

/-- THE SECOND FORM's CARD OF 'eyotlaw9.RegexBack'. -/
def regexBackUptoCard : Claim7 := { stood := { row := regexBackUptoRow, standIns := [], harness := (true, "ef3c21cd841d8f181c74bf4c298a686fb64dc659be867c03bda77a56e249e83b"), looks := true }, kinds := [], alts := [], laidByText := true, laidKinds := [.data], laidTests := true, laidLooks := .later }
def RegexBackUptoCardSaid : Prop := Claim7.holds Tryd.pinned (.plain (OpenSpec.upto regexBackSpec)) regexBackUptoCard

/-- THE SECOND FORM's CARD OF 'eyotlaw9.RegexSpells'. -/
def regexSpellsUptoCard : Claim7 := { stood := { row := regexSpellsUptoRow, standIns := [], harness := (true, "ef3c21cd841d8f181c74bf4c298a686fb64dc659be867c03bda77a56e249e83b"), looks := true }, kinds := [], alts := [], laidByText := true, laidKinds := [.data], laidTests := true, laidLooks := .later }
def RegexSpellsUptoCardSaid : Prop := Claim7.holds Tryd.pinned (.plain (OpenSpec.upto regexSpellsSpec)) regexSpellsUptoCard

/-- THE SECOND FORM's CARD OF 'eyotlaw9.RegexForms'. -/
def regexFormsUptoCard : Claim7 := { stood := { row := regexFormsUptoRow, standIns := [], harness := (true, "ef3c21cd841d8f181c74bf4c298a686fb64dc659be867c03bda77a56e249e83b"), looks := true }, kinds := [], alts := [], laidByText := true, laidKinds := [.data], laidTests := true, laidLooks := .later }
def RegexFormsUptoCardSaid : Prop := Claim7.holds Tryd.pinned (.plain (OpenSpec.upto regexFormsSpec)) regexFormsUptoCard

/-- THE SECOND FORM's CARD OF 'eyotlaw9.RegexCounts'. -/
def regexCountsUptoCard : Claim7 := { stood := { row := regexCountsUptoRow, standIns := [], harness := (true, "ef3c21cd841d8f181c74bf4c298a686fb64dc659be867c03bda77a56e249e83b"), looks := true }, kinds := [], alts := [], laidByText := true, laidKinds := [.data], laidTests := true, laidLooks := .later }
def RegexCountsUptoCardSaid : Prop := Claim7.holds Tryd.pinned (.plain (OpenSpec.upto regexCountsSpec)) regexCountsUptoCard

/-- THE SECOND FORM's CARD OF 'eyotlaw9.RegexDeep'. -/
def regexDeepUptoCard : Claim7 := { stood := { row := regexDeepUptoRow, standIns := [], harness := (true, "ef3c21cd841d8f181c74bf4c298a686fb64dc659be867c03bda77a56e249e83b"), looks := true }, kinds := [], alts := [], laidByText := true, laidKinds := [.data], laidTests := true, laidLooks := .later }
def RegexDeepUptoCardSaid : Prop := Claim7.holds Tryd.pinned (.plain (OpenSpec.upto regexDeepSpec)) regexDeepUptoCard

/-- THE SECOND FORM's CARD OF 'eyotlaw9.RegexGroups'. -/
def regexGroupsUptoCard : Claim7 := { stood := { row := regexGroupsUptoRow, standIns := [], harness := (true, "ef3c21cd841d8f181c74bf4c298a686fb64dc659be867c03bda77a56e249e83b"), looks := true }, kinds := [], alts := [], laidByText := true, laidKinds := [.data], laidTests := true, laidLooks := .later }
def RegexGroupsUptoCardSaid : Prop := Claim7.holds Tryd.pinned (.plain (OpenSpec.upto regexGroupsSpec)) regexGroupsUptoCard

/-- THE SECOND FORM's CARD OF 'eyotlaw9.RegexEmpty'. -/
def regexEmptyUptoCard : Claim7 := { stood := { row := regexEmptyUptoRow, standIns := [], harness := (true, "ef3c21cd841d8f181c74bf4c298a686fb64dc659be867c03bda77a56e249e83b"), looks := true }, kinds := [], alts := [], laidByText := true, laidKinds := [.data], laidTests := true, laidLooks := .later }
def RegexEmptyUptoCardSaid : Prop := Claim7.holds Tryd.pinned (.plain (OpenSpec.upto regexEmptySpec)) regexEmptyUptoCard
end Rows
end Go.Proofs.YtgjmmgjbfkodiaaDoor
