/-
  DERIVED. GIVEN WITH THE SEED: THE CARDS: each row of YtlidbfnamhgnlaaGreatDoorRows.lean that lists a variable, with what it lists TIED to the program's text (the seventh form; the later family's looks); each row that meets fmt, with fmt's text TOLD by the authors' own Lean function (tested against real Go, not proved from fmt's source: count such statements apart). THE CARD IS WHAT COUNTS. Prove the row's statement (the work); the ties are given (YtlidbfnamhgnlaaGreatDoorTie.lean); close each card by the builder's one call (the guide's Derived/Test/ToyasCard.lean, 'card_holds'). Laid BY PROGRAM, IN A SANDBOX (cutbox-door.mjs). By AI agents, Wed Nov 11 2026. No macro, syntax, notation, axiom, sorry.
-/
import Derived.Test.YtlidbfnamhgnlaaGreatDoorRows
import GoSem.ClaimSeven
namespace Go.Proofs.YtlidbfnamhgnlaaGreatDoor
namespace Rows

/-- THE TIED CARD OF 'annuletlaw33.ServeAnswers'. -/
def serveAnswersCard : Claim7 := { stood := { row := serveAnswersRow, standIns := [], harness := (true, "44b0a709e0d7aec11fad0975b9e842b671f357fd5613496d4ee3495b233b65cc"), looks := false }, kinds := [], alts := [], laidByText := true, laidKinds := [.data, .pinned], laidTests := true, laidLooks := .later }
def ServeAnswersCardSaid : Prop := Claim7.holds Tryz.pinned (.plain (OpenSpec.ofChange serveAnswersSpec)) serveAnswersCard

/-- THE TIED CARD OF 'annuletlaw33.ServeKeeps'. -/
def serveKeepsCard : Claim7 := { stood := { row := serveKeepsRow, standIns := [], harness := (true, "44b0a709e0d7aec11fad0975b9e842b671f357fd5613496d4ee3495b233b65cc"), looks := false }, kinds := [], alts := [], laidByText := true, laidKinds := [.data, .pinned], laidTests := true, laidLooks := .later }
def ServeKeepsCardSaid : Prop := Claim7.holds Tryz.pinned (.plain (OpenSpec.ofChange serveKeepsSpec)) serveKeepsCard

/-- THE TIED CARD OF 'annuletlaw33.ServeGets'. -/
def serveGetsCard : Claim7 := { stood := { row := serveGetsRow, standIns := [], harness := (true, "44b0a709e0d7aec11fad0975b9e842b671f357fd5613496d4ee3495b233b65cc"), looks := false }, kinds := [], alts := [], laidByText := true, laidKinds := [.data, .pinned], laidTests := true, laidLooks := .later }
def ServeGetsCardSaid : Prop := Claim7.holds Tryz.pinned (.plain (OpenSpec.ofChange serveGetsSpec)) serveGetsCard

/-- THE TIED CARD OF 'annuletlaw34.WorkAlone'. -/
def workAloneCard : Claim7 := { stood := { row := workAloneRow, standIns := [], harness := (true, "44b0a709e0d7aec11fad0975b9e842b671f357fd5613496d4ee3495b233b65cc"), looks := false }, kinds := [], alts := [], laidByText := true, laidKinds := [.data, .pinned], laidTests := true, laidLooks := .later }
def WorkAloneCardSaid : Prop := Claim7.holds Tryz.pinned (.plain (OpenSpec.ofChange workAloneSpec)) workAloneCard

/-- THE TIED CARD OF 'annuletlaw34.WorkBegins'. -/
def workBeginsCard : Claim7 := { stood := { row := workBeginsRow, standIns := [], harness := (true, "44b0a709e0d7aec11fad0975b9e842b671f357fd5613496d4ee3495b233b65cc"), looks := false }, kinds := [], alts := [], laidByText := true, laidKinds := [.data, .pinned], laidTests := true, laidLooks := .later }
def WorkBeginsCardSaid : Prop := Claim7.holds Tryz.pinned (.plain (OpenSpec.ofChange workBeginsSpec)) workBeginsCard

/-- THE TIED CARD OF 'annuletlaw34.WorkEnds'. -/
def workEndsCard : Claim7 := { stood := { row := workEndsRow, standIns := [], harness := (true, "44b0a709e0d7aec11fad0975b9e842b671f357fd5613496d4ee3495b233b65cc"), looks := false }, kinds := [], alts := [], laidByText := true, laidKinds := [.data, .pinned], laidTests := true, laidLooks := .later }
def WorkEndsCardSaid : Prop := Claim7.holds Tryz.pinned (.plain (OpenSpec.ofChange workEndsSpec)) workEndsCard

/-- THE TIED CARD OF 'annuletlaw35.LearnAnswers'. -/
def learnAnswersCard : Claim7 := { stood := { row := learnAnswersRow, standIns := [], harness := (true, "44b0a709e0d7aec11fad0975b9e842b671f357fd5613496d4ee3495b233b65cc"), looks := false }, kinds := [], alts := [], laidByText := true, laidKinds := [.data, .pinned], laidTests := true, laidLooks := .later }
def LearnAnswersCardSaid : Prop := Claim7.holds Tryz.pinned (.plain (OpenSpec.ofChange learnAnswersSpec)) learnAnswersCard

/-- THE TIED CARD OF 'annuletlaw35.LearnMisses'. -/
def learnMissesCard : Claim7 := { stood := { row := learnMissesRow, standIns := [], harness := (true, "44b0a709e0d7aec11fad0975b9e842b671f357fd5613496d4ee3495b233b65cc"), looks := false }, kinds := [], alts := [], laidByText := true, laidKinds := [.data, .pinned], laidTests := true, laidLooks := .later }
def LearnMissesCardSaid : Prop := Claim7.holds Tryz.pinned (.plain (OpenSpec.ofChange learnMissesSpec)) learnMissesCard

/-- THE TIED CARD OF 'annuletlaw33.ServeRight'. -/
def serveRightCard : Claim7 := { stood := { row := serveRightRow, standIns := [], harness := (true, "44b0a709e0d7aec11fad0975b9e842b671f357fd5613496d4ee3495b233b65cc"), looks := false }, kinds := [], alts := [], laidByText := true, laidKinds := [.data, .pinned], laidTests := true, laidLooks := .later }
def ServeRightCardSaid : Prop := Claim7.holds Tryz.pinned (.plain (OpenSpec.ofChange serveRightSpec)) serveRightCard

/-- THE TIED CARD OF 'annuletlaw35.LearnSelf'. -/
def learnSelfCard : Claim7 := { stood := { row := learnSelfRow, standIns := [], harness := (true, "44b0a709e0d7aec11fad0975b9e842b671f357fd5613496d4ee3495b233b65cc"), looks := false }, kinds := [], alts := [], laidByText := true, laidKinds := [.data, .pinned], laidTests := true, laidLooks := .later }
def LearnSelfCardSaid : Prop := Claim7.holds Tryz.pinned (.plain (OpenSpec.ofChange learnSelfSpec)) learnSelfCard

/-- THE TIED CARD OF 'annuletlaw34.WorkGoes'. -/
def workGoesCard : Claim7 := { stood := { row := workGoesRow, standIns := [], harness := (true, "44b0a709e0d7aec11fad0975b9e842b671f357fd5613496d4ee3495b233b65cc"), looks := false }, kinds := [], alts := [], laidByText := true, laidKinds := [.data, .pinned], laidTests := true, laidLooks := .later }
def WorkGoesCardSaid : Prop := Claim7.holds Tryz.pinned (.plain (OpenSpec.ofChange workGoesSpec)) workGoesCard

/-- THE TIED CARD OF 'annuletlaw36.TendTicks'. -/
def tendTicksCard : Claim7 := { stood := { row := tendTicksRow, standIns := [], harness := (true, "44b0a709e0d7aec11fad0975b9e842b671f357fd5613496d4ee3495b233b65cc"), looks := false }, kinds := [], alts := [], laidByText := true, laidKinds := [.data, .pinned], laidTests := true, laidLooks := .later }
def TendTicksCardSaid : Prop := Claim7.holds Tryz.pinned (.plain (OpenSpec.ofChange tendTicksSpec)) tendTicksCard

/-- THE TIED CARD OF 'annuletlaw36.TendBeats'. -/
def tendBeatsCard : Claim7 := { stood := { row := tendBeatsRow, standIns := [], harness := (true, "44b0a709e0d7aec11fad0975b9e842b671f357fd5613496d4ee3495b233b65cc"), looks := false }, kinds := [], alts := [], laidByText := true, laidKinds := [.data, .pinned], laidTests := true, laidLooks := .later }
def TendBeatsCardSaid : Prop := Claim7.holds Tryz.pinned (.plain (OpenSpec.ofChange tendBeatsSpec)) tendBeatsCard

/-- THE TIED CARD OF 'annuletlaw36.TendAlone'. -/
def tendAloneCard : Claim7 := { stood := { row := tendAloneRow, standIns := [], harness := (true, "44b0a709e0d7aec11fad0975b9e842b671f357fd5613496d4ee3495b233b65cc"), looks := false }, kinds := [], alts := [], laidByText := true, laidKinds := [.data, .pinned], laidTests := true, laidLooks := .later }
def TendAloneCardSaid : Prop := Claim7.holds Tryz.pinned (.plain (OpenSpec.ofChange tendAloneSpec)) tendAloneCard

/-- THE SECOND FORM's CARD OF 'annuletlaw33.ServeAnswers'. -/
def serveAnswersUptoCard : Claim7 := { stood := { row := serveAnswersUptoRow, standIns := [], harness := (true, "44b0a709e0d7aec11fad0975b9e842b671f357fd5613496d4ee3495b233b65cc"), looks := false }, kinds := [], alts := [], laidByText := true, laidKinds := [.data, .pinned], laidTests := true, laidLooks := .later }
def ServeAnswersUptoCardSaid : Prop := Claim7.holds Tryz.pinned (.plain (OpenSpec.upto serveAnswersSpec)) serveAnswersUptoCard

/-- THE SECOND FORM's CARD OF 'annuletlaw33.ServeKeeps'. -/
def serveKeepsUptoCard : Claim7 := { stood := { row := serveKeepsUptoRow, standIns := [], harness := (true, "44b0a709e0d7aec11fad0975b9e842b671f357fd5613496d4ee3495b233b65cc"), looks := false }, kinds := [], alts := [], laidByText := true, laidKinds := [.data, .pinned], laidTests := true, laidLooks := .later }
def ServeKeepsUptoCardSaid : Prop := Claim7.holds Tryz.pinned (.plain (OpenSpec.upto serveKeepsSpec)) serveKeepsUptoCard

/-- THE SECOND FORM's CARD OF 'annuletlaw33.ServeGets'. -/
def serveGetsUptoCard : Claim7 := { stood := { row := serveGetsUptoRow, standIns := [], harness := (true, "44b0a709e0d7aec11fad0975b9e842b671f357fd5613496d4ee3495b233b65cc"), looks := false }, kinds := [], alts := [], laidByText := true, laidKinds := [.data, .pinned], laidTests := true, laidLooks := .later }
def ServeGetsUptoCardSaid : Prop := Claim7.holds Tryz.pinned (.plain (OpenSpec.upto serveGetsSpec)) serveGetsUptoCard

/-- THE SECOND FORM's CARD OF 'annuletlaw34.WorkAlone'. -/
def workAloneUptoCard : Claim7 := { stood := { row := workAloneUptoRow, standIns := [], harness := (true, "44b0a709e0d7aec11fad0975b9e842b671f357fd5613496d4ee3495b233b65cc"), looks := false }, kinds := [], alts := [], laidByText := true, laidKinds := [.data, .pinned], laidTests := true, laidLooks := .later }
def WorkAloneUptoCardSaid : Prop := Claim7.holds Tryz.pinned (.plain (OpenSpec.upto workAloneSpec)) workAloneUptoCard

/-- THE SECOND FORM's CARD OF 'annuletlaw34.WorkBegins'. -/
def workBeginsUptoCard : Claim7 := { stood := { row := workBeginsUptoRow, standIns := [], harness := (true, "44b0a709e0d7aec11fad0975b9e842b671f357fd5613496d4ee3495b233b65cc"), looks := false }, kinds := [], alts := [], laidByText := true, laidKinds := [.data, .pinned], laidTests := true, laidLooks := .later }
def WorkBeginsUptoCardSaid : Prop := Claim7.holds Tryz.pinned (.plain (OpenSpec.upto workBeginsSpec)) workBeginsUptoCard

/-- THE SECOND FORM's CARD OF 'annuletlaw34.WorkEnds'. -/
def workEndsUptoCard : Claim7 := { stood := { row := workEndsUptoRow, standIns := [], harness := (true, "44b0a709e0d7aec11fad0975b9e842b671f357fd5613496d4ee3495b233b65cc"), looks := false }, kinds := [], alts := [], laidByText := true, laidKinds := [.data, .pinned], laidTests := true, laidLooks := .later }
def WorkEndsUptoCardSaid : Prop := Claim7.holds Tryz.pinned (.plain (OpenSpec.upto workEndsSpec)) workEndsUptoCard

/-- THE SECOND FORM's CARD OF 'annuletlaw35.LearnAnswers'. -/
def learnAnswersUptoCard : Claim7 := { stood := { row := learnAnswersUptoRow, standIns := [], harness := (true, "44b0a709e0d7aec11fad0975b9e842b671f357fd5613496d4ee3495b233b65cc"), looks := false }, kinds := [], alts := [], laidByText := true, laidKinds := [.data, .pinned], laidTests := true, laidLooks := .later }
def LearnAnswersUptoCardSaid : Prop := Claim7.holds Tryz.pinned (.plain (OpenSpec.upto learnAnswersSpec)) learnAnswersUptoCard

/-- THE SECOND FORM's CARD OF 'annuletlaw35.LearnMisses'. -/
def learnMissesUptoCard : Claim7 := { stood := { row := learnMissesUptoRow, standIns := [], harness := (true, "44b0a709e0d7aec11fad0975b9e842b671f357fd5613496d4ee3495b233b65cc"), looks := false }, kinds := [], alts := [], laidByText := true, laidKinds := [.data, .pinned], laidTests := true, laidLooks := .later }
def LearnMissesUptoCardSaid : Prop := Claim7.holds Tryz.pinned (.plain (OpenSpec.upto learnMissesSpec)) learnMissesUptoCard

/-- THE SECOND FORM's CARD OF 'annuletlaw33.ServeRight'. -/
def serveRightUptoCard : Claim7 := { stood := { row := serveRightUptoRow, standIns := [], harness := (true, "44b0a709e0d7aec11fad0975b9e842b671f357fd5613496d4ee3495b233b65cc"), looks := false }, kinds := [], alts := [], laidByText := true, laidKinds := [.data, .pinned], laidTests := true, laidLooks := .later }
def ServeRightUptoCardSaid : Prop := Claim7.holds Tryz.pinned (.plain (OpenSpec.upto serveRightSpec)) serveRightUptoCard

/-- THE SECOND FORM's CARD OF 'annuletlaw35.LearnSelf'. -/
def learnSelfUptoCard : Claim7 := { stood := { row := learnSelfUptoRow, standIns := [], harness := (true, "44b0a709e0d7aec11fad0975b9e842b671f357fd5613496d4ee3495b233b65cc"), looks := false }, kinds := [], alts := [], laidByText := true, laidKinds := [.data, .pinned], laidTests := true, laidLooks := .later }
def LearnSelfUptoCardSaid : Prop := Claim7.holds Tryz.pinned (.plain (OpenSpec.upto learnSelfSpec)) learnSelfUptoCard

/-- THE SECOND FORM's CARD OF 'annuletlaw34.WorkGoes'. -/
def workGoesUptoCard : Claim7 := { stood := { row := workGoesUptoRow, standIns := [], harness := (true, "44b0a709e0d7aec11fad0975b9e842b671f357fd5613496d4ee3495b233b65cc"), looks := false }, kinds := [], alts := [], laidByText := true, laidKinds := [.data, .pinned], laidTests := true, laidLooks := .later }
def WorkGoesUptoCardSaid : Prop := Claim7.holds Tryz.pinned (.plain (OpenSpec.upto workGoesSpec)) workGoesUptoCard

/-- THE SECOND FORM's CARD OF 'annuletlaw36.TendTicks'. -/
def tendTicksUptoCard : Claim7 := { stood := { row := tendTicksUptoRow, standIns := [], harness := (true, "44b0a709e0d7aec11fad0975b9e842b671f357fd5613496d4ee3495b233b65cc"), looks := false }, kinds := [], alts := [], laidByText := true, laidKinds := [.data, .pinned], laidTests := true, laidLooks := .later }
def TendTicksUptoCardSaid : Prop := Claim7.holds Tryz.pinned (.plain (OpenSpec.upto tendTicksSpec)) tendTicksUptoCard

/-- THE SECOND FORM's CARD OF 'annuletlaw36.TendBeats'. -/
def tendBeatsUptoCard : Claim7 := { stood := { row := tendBeatsUptoRow, standIns := [], harness := (true, "44b0a709e0d7aec11fad0975b9e842b671f357fd5613496d4ee3495b233b65cc"), looks := false }, kinds := [], alts := [], laidByText := true, laidKinds := [.data, .pinned], laidTests := true, laidLooks := .later }
def TendBeatsUptoCardSaid : Prop := Claim7.holds Tryz.pinned (.plain (OpenSpec.upto tendBeatsSpec)) tendBeatsUptoCard

/-- THE SECOND FORM's CARD OF 'annuletlaw36.TendAlone'. -/
def tendAloneUptoCard : Claim7 := { stood := { row := tendAloneUptoRow, standIns := [], harness := (true, "44b0a709e0d7aec11fad0975b9e842b671f357fd5613496d4ee3495b233b65cc"), looks := false }, kinds := [], alts := [], laidByText := true, laidKinds := [.data, .pinned], laidTests := true, laidLooks := .later }
def TendAloneUptoCardSaid : Prop := Claim7.holds Tryz.pinned (.plain (OpenSpec.upto tendAloneSpec)) tendAloneUptoCard
end Rows
end Go.Proofs.YtlidbfnamhgnlaaGreatDoor
