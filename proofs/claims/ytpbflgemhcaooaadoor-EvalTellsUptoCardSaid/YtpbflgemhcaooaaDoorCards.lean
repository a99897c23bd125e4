/-
  DERIVED. GIVEN WITH THE SEED: THE CARDS: each row of YtpbflgemhcaooaaDoorRows.lean that lists a variable, with what it lists TIED to the program's text (the seventh form; the later family's looks); each row that meets fmt, with fmt's text TOLD by the authors' own Lean function (tested against real Go, not proved from fmt's source: count such statements apart). THE CARD IS WHAT COUNTS. Prove the row's statement (the work); the ties are given (YtpbflgemhcaooaaDoorTie.lean); close each card by the builder's one call (the guide's Derived/Test/ToyasCard.lean, 'card_holds'). Laid BY PROGRAM, IN A SANDBOX (cutbox-door.mjs). By AI agents, Wed Nov 11 2026. No macro, syntax, notation, axiom, sorry.
-/
import Derived.Test.YtpbflgemhcaooaaDoorRows
import GoSem.ClaimSeven
namespace Go.Proofs.YtpbflgemhcaooaaDoor
namespace Rows

/-- THE TIED CARD OF 'evlaw4.LabelTells'. -/
def labelTellsCard : Claim7 := { stood := { row := labelTellsRow, standIns := [], harness := (true, "45cbce438c3e6d5c2494272037e1cb489692a6e5f322f8968a9d681c567eaedf"), looks := true }, kinds := [], alts := [], laidByText := true, laidKinds := [.data, .data, .data, .sentinel, .sentinel], laidTests := true, laidLooks := .later }
def LabelTellsCardSaid : Prop := Claim7.holds Tryd.pinned (.plain (OpenSpec.ofChange labelTellsSpec)) labelTellsCard

/-- THE TIED CARD OF 'evlaw4.LabelPublic'. -/
def labelPublicCard : Claim7 := { stood := { row := labelPublicRow, standIns := [], harness := (true, "45cbce438c3e6d5c2494272037e1cb489692a6e5f322f8968a9d681c567eaedf"), looks := true }, kinds := [], alts := [], laidByText := true, laidKinds := [.data, .data, .data, .sentinel, .sentinel], laidTests := true, laidLooks := .later }
def LabelPublicCardSaid : Prop := Claim7.holds Tryd.pinned (.plain (OpenSpec.ofChange labelPublicSpec)) labelPublicCard

/-- THE TIED CARD OF 'evlaw4.LabelSecret'. -/
def labelSecretCard : Claim7 := { stood := { row := labelSecretRow, standIns := [], harness := (true, "45cbce438c3e6d5c2494272037e1cb489692a6e5f322f8968a9d681c567eaedf"), looks := true }, kinds := [], alts := [], laidByText := true, laidKinds := [.data, .data, .data, .sentinel, .sentinel], laidTests := true, laidLooks := .later }
def LabelSecretCardSaid : Prop := Claim7.holds Tryd.pinned (.plain (OpenSpec.ofChange labelSecretSpec)) labelSecretCard

/-- THE TIED CARD OF 'evlaw6.LowerRight'. -/
def lowerRightCard : Claim7 := { stood := { row := lowerRightRow, standIns := [], harness := (true, "45cbce438c3e6d5c2494272037e1cb489692a6e5f322f8968a9d681c567eaedf"), looks := true }, kinds := [], alts := [], laidByText := true, laidKinds := [.data, .data, .data, .sentinel, .sentinel], laidTests := true, laidLooks := .later }
def LowerRightCardSaid : Prop := Claim7.holds Tryd.pinned (.plain (OpenSpec.ofChange lowerRightSpec)) lowerRightCard

/-- THE TIED CARD OF 'evlaw6.LowerSame'. -/
def lowerSameCard : Claim7 := { stood := { row := lowerSameRow, standIns := [], harness := (true, "45cbce438c3e6d5c2494272037e1cb489692a6e5f322f8968a9d681c567eaedf"), looks := true }, kinds := [], alts := [], laidByText := true, laidKinds := [.data, .data, .data, .sentinel, .sentinel], laidTests := true, laidLooks := .later }
def LowerSameCardSaid : Prop := Claim7.holds Tryd.pinned (.plain (OpenSpec.ofChange lowerSameSpec)) lowerSameCard

/-- THE TIED CARD OF 'evlaw6.LowerEnough'. -/
def lowerEnoughCard : Claim7 := { stood := { row := lowerEnoughRow, standIns := [], harness := (true, "45cbce438c3e6d5c2494272037e1cb489692a6e5f322f8968a9d681c567eaedf"), looks := true }, kinds := [], alts := [], laidByText := true, laidKinds := [.data, .data, .data, .sentinel, .sentinel], laidTests := true, laidLooks := .later }
def LowerEnoughCardSaid : Prop := Claim7.holds Tryd.pinned (.plain (OpenSpec.ofChange lowerEnoughSpec)) lowerEnoughCard

/-- THE TIED CARD OF 'evlaw2.TableTells'. -/
def tableTellsCard : Claim7 := { stood := { row := tableTellsRow, standIns := [], harness := (true, "45cbce438c3e6d5c2494272037e1cb489692a6e5f322f8968a9d681c567eaedf"), looks := true }, kinds := [], alts := [], laidByText := true, laidKinds := [.data, .data, .data, .sentinel, .sentinel], laidTests := true, laidLooks := .later }
def TableTellsCardSaid : Prop := Claim7.holds Tryd.pinned (.plain (OpenSpec.ofChange tableTellsSpec)) tableTellsCard

/-- THE TIED CARD OF 'evlaw2.TableTurns'. -/
def tableTurnsCard : Claim7 := { stood := { row := tableTurnsRow, standIns := [], harness := (true, "45cbce438c3e6d5c2494272037e1cb489692a6e5f322f8968a9d681c567eaedf"), looks := true }, kinds := [], alts := [], laidByText := true, laidKinds := [.data, .data, .data, .sentinel, .sentinel], laidTests := true, laidLooks := .later }
def TableTurnsCardSaid : Prop := Claim7.holds Tryd.pinned (.plain (OpenSpec.ofChange tableTurnsSpec)) tableTurnsCard

/-- THE TIED CARD OF 'evlaw5.EvalTells'. -/
def evalTellsCard : Claim7 := { stood := { row := evalTellsRow, standIns := [], harness := (true, "45cbce438c3e6d5c2494272037e1cb489692a6e5f322f8968a9d681c567eaedf"), looks := true }, kinds := [], alts := [], laidByText := true, laidKinds := [.data, .data, .data, .sentinel, .sentinel], laidTests := true, laidLooks := .later }
def EvalTellsCardSaid : Prop := Claim7.holds Tryd.pinned (.plain (OpenSpec.ofChange evalTellsSpec)) evalTellsCard

/-- THE TIED CARD OF 'evlaw5.EvalPublic'. -/
def evalPublicCard : Claim7 := { stood := { row := evalPublicRow, standIns := [], harness := (true, "45cbce438c3e6d5c2494272037e1cb489692a6e5f322f8968a9d681c567eaedf"), looks := true }, kinds := [], alts := [], laidByText := true, laidKinds := [.data, .data, .data, .sentinel, .sentinel], laidTests := true, laidLooks := .later }
def EvalPublicCardSaid : Prop := Claim7.holds Tryd.pinned (.plain (OpenSpec.ofChange evalPublicSpec)) evalPublicCard

/-- THE TIED CARD OF 'evlaw5.EvalWords'. -/
def evalWordsCard : Claim7 := { stood := { row := evalWordsRow, standIns := [], harness := (true, "45cbce438c3e6d5c2494272037e1cb489692a6e5f322f8968a9d681c567eaedf"), looks := true }, kinds := [], alts := [], laidByText := true, laidKinds := [.data, .data, .data, .sentinel, .sentinel], laidTests := true, laidLooks := .later }
def EvalWordsCardSaid : Prop := Claim7.holds Tryd.pinned (.plain (OpenSpec.ofChange evalWordsSpec)) evalWordsCard

/-- THE SECOND FORM's CARD OF 'evlaw4.LabelTells'. -/
def labelTellsUptoCard : Claim7 := { stood := { row := labelTellsUptoRow, standIns := [], harness := (true, "45cbce438c3e6d5c2494272037e1cb489692a6e5f322f8968a9d681c567eaedf"), looks := true }, kinds := [], alts := [], laidByText := true, laidKinds := [.data, .data, .data, .sentinel, .sentinel], laidTests := true, laidLooks := .later }
def LabelTellsUptoCardSaid : Prop := Claim7.holds Tryd.pinned (.plain (OpenSpec.upto labelTellsSpec)) labelTellsUptoCard

/-- THE SECOND FORM's CARD OF 'evlaw4.LabelPublic'. -/
def labelPublicUptoCard : Claim7 := { stood := { row := labelPublicUptoRow, standIns := [], harness := (true, "45cbce438c3e6d5c2494272037e1cb489692a6e5f322f8968a9d681c567eaedf"), looks := true }, kinds := [], alts := [], laidByText := true, laidKinds := [.data, .data, .data, .sentinel, .sentinel], laidTests := true, laidLooks := .later }
def LabelPublicUptoCardSaid : Prop := Claim7.holds Tryd.pinned (.plain (OpenSpec.upto labelPublicSpec)) labelPublicUptoCard

/-- THE SECOND FORM's CARD OF 'evlaw4.LabelSecret'. -/
def labelSecretUptoCard : Claim7 := { stood := { row := labelSecretUptoRow, standIns := [], harness := (true, "45cbce438c3e6d5c2494272037e1cb489692a6e5f322f8968a9d681c567eaedf"), looks := true }, kinds := [], alts := [], laidByText := true, laidKinds := [.data, .data, .data, .sentinel, .sentinel], laidTests := true, laidLooks := .later }
def LabelSecretUptoCardSaid : Prop := Claim7.holds Tryd.pinned (.plain (OpenSpec.upto labelSecretSpec)) labelSecretUptoCard

/-- THE SECOND FORM's CARD OF 'evlaw6.LowerRight'. -/
def lowerRightUptoCard : Claim7 := { stood := { row := lowerRightUptoRow, standIns := [], harness := (true, "45cbce438c3e6d5c2494272037e1cb489692a6e5f322f8968a9d681c567eaedf"), looks := true }, kinds := [], alts := [], laidByText := true, laidKinds := [.data, .data, .data, .sentinel, .sentinel], laidTests := true, laidLooks := .later }
def LowerRightUptoCardSaid : Prop := Claim7.holds Tryd.pinned (.plain (OpenSpec.upto lowerRightSpec)) lowerRightUptoCard

/-- THE SECOND FORM's CARD OF 'evlaw6.LowerSame'. -/
def lowerSameUptoCard : Claim7 := { stood := { row := lowerSameUptoRow, standIns := [], harness := (true, "45cbce438c3e6d5c2494272037e1cb489692a6e5f322f8968a9d681c567eaedf"), looks := true }, kinds := [], alts := [], laidByText := true, laidKinds := [.data, .data, .data, .sentinel, .sentinel], laidTests := true, laidLooks := .later }
def LowerSameUptoCardSaid : Prop := Claim7.holds Tryd.pinned (.plain (OpenSpec.upto lowerSameSpec)) lowerSameUptoCard

/-- THE SECOND FORM's CARD OF 'evlaw6.LowerEnough'. -/
def lowerEnoughUptoCard : Claim7 := { stood := { row := lowerEnoughUptoRow, standIns := [], harness := (true, "45cbce438c3e6d5c2494272037e1cb489692a6e5f322f8968a9d681c567eaedf"), looks := true }, kinds := [], alts := [], laidByText := true, laidKinds := [.data, .data, .data, .sentinel, .sentinel], laidTests := true, laidLooks := .later }
def LowerEnoughUptoCardSaid : Prop := Claim7.holds Tryd.pinned (.plain (OpenSpec.upto lowerEnoughSpec)) lowerEnoughUptoCard

/-- THE SECOND FORM's CARD OF 'evlaw2.TableTells'. -/
def tableTellsUptoCard : Claim7 := { stood := { row := tableTellsUptoRow, standIns := [], harness := (true, "45cbce438c3e6d5c2494272037e1cb489692a6e5f322f8968a9d681c567eaedf"), looks := true }, kinds := [], alts := [], laidByText := true, laidKinds := [.data, .data, .data, .sentinel, .sentinel], laidTests := true, laidLooks := .later }
def TableTellsUptoCardSaid : Prop := Claim7.holds Tryd.pinned (.plain (OpenSpec.upto tableTellsSpec)) tableTellsUptoCard

/-- THE SECOND FORM's CARD OF 'evlaw2.TableTurns'. -/
def tableTurnsUptoCard : Claim7 := { stood := { row := tableTurnsUptoRow, standIns := [], harness := (true, "45cbce438c3e6d5c2494272037e1cb489692a6e5f322f8968a9d681c567eaedf"), looks := true }, kinds := [], alts := [], laidByText := true, laidKinds := [.data, .data, .data, .sentinel, .sentinel], laidTests := true, laidLooks := .later }
def TableTurnsUptoCardSaid : Prop := Claim7.holds Tryd.pinned (.plain (OpenSpec.upto tableTurnsSpec)) tableTurnsUptoCard

/-- THE SECOND FORM's CARD OF 'evlaw5.EvalTells'. -/
def evalTellsUptoCard : Claim7 := { stood := { row := evalTellsUptoRow, standIns := [], harness := (true, "45cbce438c3e6d5c2494272037e1cb489692a6e5f322f8968a9d681c567eaedf"), looks := true }, kinds := [], alts := [], laidByText := true, laidKinds := [.data, .data, .data, .sentinel, .sentinel], laidTests := true, laidLooks := .later }
def EvalTellsUptoCardSaid : Prop := Claim7.holds Tryd.pinned (.plain (OpenSpec.upto evalTellsSpec)) evalTellsUptoCard

/-- THE SECOND FORM's CARD OF 'evlaw5.EvalPublic'. -/
def evalPublicUptoCard : Claim7 := { stood := { row := evalPublicUptoRow, standIns := [], harness := (true, "45cbce438c3e6d5c2494272037e1cb489692a6e5f322f8968a9d681c567eaedf"), looks := true }, kinds := [], alts := [], laidByText := true, laidKinds := [.data, .data, .data, .sentinel, .sentinel], laidTests := true, laidLooks := .later }
def EvalPublicUptoCardSaid : Prop := Claim7.holds Tryd.pinned (.plain (OpenSpec.upto evalPublicSpec)) evalPublicUptoCard

/-- THE SECOND FORM's CARD OF 'evlaw5.EvalWords'. -/
def evalWordsUptoCard : Claim7 := { stood := { row := evalWordsUptoRow, standIns := [], harness := (true, "45cbce438c3e6d5c2494272037e1cb489692a6e5f322f8968a9d681c567eaedf"), looks := true }, kinds := [], alts := [], laidByText := true, laidKinds := [.data, .data, .data, .sentinel, .sentinel], laidTests := true, laidLooks := .later }
def EvalWordsUptoCardSaid : Prop := Claim7.holds Tryd.pinned (.plain (OpenSpec.upto evalWordsSpec)) evalWordsUptoCard
end Rows
end Go.Proofs.YtpbflgemhcaooaaDoor
