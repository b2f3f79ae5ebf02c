/-
  DERIVED. GIVEN WITH THE SEED: THE CARDS: each row of YtpbnhcggfgegkaaDoorRows.lean that lists a variable, with what it lists TIED to the program's text (the seventh form; the later family's looks); each row that meets fmt, with fmt's text TOLD by the authors' own Lean function (tested against real Go, not proved from fmt's source: count such statements apart). THE CARD IS WHAT COUNTS. Prove the row's statement (the work); the ties are given (YtpbnhcggfgegkaaDoorTie.lean); close each card by the builder's one call (the guide's Derived/Test/ToyasCard.lean, 'card_holds'). Laid BY PROGRAM, IN A SANDBOX (cutbox-door.mjs). By AI agents, Wed Nov 11 2026. No macro, syntax, notation, axiom, sorry.
-/
import Derived.Test.YtpbnhcggfgegkaaDoorRows
import GoSem.ClaimSeven
namespace Go.Proofs.YtpbnhcggfgegkaaDoor
namespace Rows

/-- THE TIED CARD OF 'eyotlaw8.ClassParses'. -/
def classParsesCard : Claim7 := { stood := { row := classParsesRow, standIns := [], harness := (true, "ea89f1f10517e8e2e1880fd6b0aba0e6054c6249a7b42cc5052566fa2dfa4773"), looks := true }, kinds := [], alts := [], laidByText := true, laidKinds := [.data], laidTests := true, laidLooks := .later }
def ClassParsesCardSaid : Prop := Claim7.holds Tryd.pinned (.plain (OpenSpec.ofChange classParsesSpec)) classParsesCard

/-- THE TIED CARD OF 'eyotlaw8.ClassBack'. -/
def classBackCard : Claim7 := { stood := { row := classBackRow, standIns := [], harness := (true, "ea89f1f10517e8e2e1880fd6b0aba0e6054c6249a7b42cc5052566fa2dfa4773"), looks := true }, kinds := [], alts := [], laidByText := true, laidKinds := [.data], laidTests := true, laidLooks := .later }
def ClassBackCardSaid : Prop := Claim7.holds Tryd.pinned (.plain (OpenSpec.ofChange classBackSpec)) classBackCard

/-- THE TIED CARD OF 'eyotlaw8.ClassJoins'. -/
def classJoinsCard : Claim7 := { stood := { row := classJoinsRow, standIns := [], harness := (true, "ea89f1f10517e8e2e1880fd6b0aba0e6054c6249a7b42cc5052566fa2dfa4773"), looks := true }, kinds := [], alts := [], laidByText := true, laidKinds := [.data], laidTests := true, laidLooks := .later }
def ClassJoinsCardSaid : Prop := Claim7.holds Tryd.pinned (.plain (OpenSpec.ofChange classJoinsSpec)) classJoinsCard

/-- THE TIED CARD OF 'eyotlaw8.ClassRuns'. -/
def classRunsCard : Claim7 := { stood := { row := classRunsRow, standIns := [], harness := (true, "ea89f1f10517e8e2e1880fd6b0aba0e6054c6249a7b42cc5052566fa2dfa4773"), looks := true }, kinds := [], alts := [], laidByText := true, laidKinds := [.data], laidTests := true, laidLooks := .later }
def ClassRunsCardSaid : Prop := Claim7.holds Tryd.pinned (.plain (OpenSpec.ofChange classRunsSpec)) classRunsCard

/-- THE TIED CARD OF 'eyotlaw8.ClassSigns'. -/
def classSignsCard : Claim7 := { stood := { row := classSignsRow, standIns := [], harness := (true, "ea89f1f10517e8e2e1880fd6b0aba0e6054c6249a7b42cc5052566fa2dfa4773"), looks := true }, kinds := [], alts := [], laidByText := true, laidKinds := [.data], laidTests := true, laidLooks := .later }
def ClassSignsCardSaid : Prop := Claim7.holds Tryd.pinned (.plain (OpenSpec.ofChange classSignsSpec)) classSignsCard

/-- THE TIED CARD OF 'eyotlaw8.ClassAll'. -/
def classAllCard : Claim7 := { stood := { row := classAllRow, standIns := [], harness := (true, "ea89f1f10517e8e2e1880fd6b0aba0e6054c6249a7b42cc5052566fa2dfa4773"), looks := true }, kinds := [], alts := [], laidByText := true, laidKinds := [.data], laidTests := true, laidLooks := .later }
def ClassAllCardSaid : Prop := Claim7.holds Tryd.pinned (.plain (OpenSpec.ofChange classAllSpec)) classAllCard

/-- THE TIED CARD OF 'eyotlaw8.ClassLaws'. -/
def classLawsCard : Claim7 := { stood := { row := classLawsRow, standIns := [], harness := (true, "ea89f1f10517e8e2e1880fd6b0aba0e6054c6249a7b42cc5052566fa2dfa4773"), looks := true }, kinds := [], alts := [], laidByText := true, laidKinds := [.data], laidTests := true, laidLooks := .later }
def ClassLawsCardSaid : Prop := Claim7.holds Tryd.pinned (.plain (OpenSpec.ofChange classLawsSpec)) classLawsCard

/-- THE SECOND FORM's CARD OF 'eyotlaw8.ClassParses'. -/
def classParsesUptoCard : Claim7 := { stood := { row := classParsesUptoRow, standIns := [], harness := (true, "ea89f1f10517e8e2e1880fd6b0aba0e6054c6249a7b42cc5052566fa2dfa4773"), looks := true }, kinds := [], alts := [], laidByText := true, laidKinds := [.data], laidTests := true, laidLooks := .later }
def ClassParsesUptoCardSaid : Prop := Claim7.holds Tryd.pinned (.plain (OpenSpec.upto classParsesSpec)) classParsesUptoCard

/-- THE SECOND FORM's CARD OF 'eyotlaw8.ClassBack'. -/
def classBackUptoCard : Claim7 := { stood := { row := classBackUptoRow, standIns := [], harness := (true, "ea89f1f10517e8e2e1880fd6b0aba0e6054c6249a7b42cc5052566fa2dfa4773"), looks := true }, kinds := [], alts := [], laidByText := true, laidKinds := [.data], laidTests := true, laidLooks := .later }
def ClassBackUptoCardSaid : Prop := Claim7.holds Tryd.pinned (.plain (OpenSpec.upto classBackSpec)) classBackUptoCard

/-- THE SECOND FORM's CARD OF 'eyotlaw8.ClassJoins'. -/
def classJoinsUptoCard : Claim7 := { stood := { row := classJoinsUptoRow, standIns := [], harness := (true, "ea89f1f10517e8e2e1880fd6b0aba0e6054c6249a7b42cc5052566fa2dfa4773"), looks := true }, kinds := [], alts := [], laidByText := true, laidKinds := [.data], laidTests := true, laidLooks := .later }
def ClassJoinsUptoCardSaid : Prop := Claim7.holds Tryd.pinned (.plain (OpenSpec.upto classJoinsSpec)) classJoinsUptoCard

/-- THE SECOND FORM's CARD OF 'eyotlaw8.ClassRuns'. -/
def classRunsUptoCard : Claim7 := { stood := { row := classRunsUptoRow, standIns := [], harness := (true, "ea89f1f10517e8e2e1880fd6b0aba0e6054c6249a7b42cc5052566fa2dfa4773"), looks := true }, kinds := [], alts := [], laidByText := true, laidKinds := [.data], laidTests := true, laidLooks := .later }
def ClassRunsUptoCardSaid : Prop := Claim7.holds Tryd.pinned (.plain (OpenSpec.upto classRunsSpec)) classRunsUptoCard

/-- THE SECOND FORM's CARD OF 'eyotlaw8.ClassSigns'. -/
def classSignsUptoCard : Claim7 := { stood := { row := classSignsUptoRow, standIns := [], harness := (true, "ea89f1f10517e8e2e1880fd6b0aba0e6054c6249a7b42cc5052566fa2dfa4773"), looks := true }, kinds := [], alts := [], laidByText := true, laidKinds := [.data], laidTests := true, laidLooks := .later }
def ClassSignsUptoCardSaid : Prop := Claim7.holds Tryd.pinned (.plain (OpenSpec.upto classSignsSpec)) classSignsUptoCard

/-- THE SECOND FORM's CARD OF 'eyotlaw8.ClassAll'. -/
def classAllUptoCard : Claim7 := { stood := { row := classAllUptoRow, standIns := [], harness := (true, "ea89f1f10517e8e2e1880fd6b0aba0e6054c6249a7b42cc5052566fa2dfa4773"), looks := true }, kinds := [], alts := [], laidByText := true, laidKinds := [.data], laidTests := true, laidLooks := .later }
def ClassAllUptoCardSaid : Prop := Claim7.holds Tryd.pinned (.plain (OpenSpec.upto classAllSpec)) classAllUptoCard

/-- THE SECOND FORM's CARD OF 'eyotlaw8.ClassLaws'. -/
def classLawsUptoCard : Claim7 := { stood := { row := classLawsUptoRow, standIns := [], harness := (true, "ea89f1f10517e8e2e1880fd6b0aba0e6054c6249a7b42cc5052566fa2dfa4773"), looks := true }, kinds := [], alts := [], laidByText := true, laidKinds := [.data], laidTests := true, laidLooks := .later }
def ClassLawsUptoCardSaid : Prop := Claim7.holds Tryd.pinned (.plain (OpenSpec.upto classLawsSpec)) classLawsUptoCard
end Rows
end Go.Proofs.YtpbnhcggfgegkaaDoor
