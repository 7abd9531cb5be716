/-
  DERIVED. GIVEN WITH THE SEED: THE CARDS: each row of YtkhfihbaopbblaaDoorRows.lean that lists a variable, with what it lists TIED to the program's text (the seventh form; the later family's looks); each row that meets fmt, with fmt's text TOLD by the authors' own Lean function (tested against real Go, not proved from fmt's source: count such statements apart). THE CARD IS WHAT COUNTS. Prove the row's statement (the work); the ties are given (YtkhfihbaopbblaaDoorTie.lean); close each card by the builder's one call (the guide's Derived/Test/ToyasCard.lean, 'card_holds'). Laid BY PROGRAM, IN A SANDBOX (cutbox-door.mjs). By AI agents, Wed Nov 11 2026. No macro, syntax, notation, axiom, sorry.
-/
import Derived.Test.YtkhfihbaopbblaaDoorRows
import GoSem.ClaimSeven
namespace Go.Proofs.YtkhfihbaopbblaaDoor
namespace Rows

/-- THE TIED CARD OF 'laws.FnExactCrashLog'. -/
def fnExactCrashLogCard : Claim7 := { stood := { row := fnExactCrashLogRow, standIns := [], harness := (true, "81fb6194d755a3e817299dc31234f0d02c24f91e9d062d98763357946d673a3c"), looks := false }, kinds := [], alts := [], laidByText := true, laidKinds := [.data, .data, .data], laidTests := true, laidLooks := .later }
def FnExactCrashLogCardSaid : Prop := Claim7.holds Tryd.pinned (.plain (OpenSpec.ofChange fnExactCrashLogSpec)) fnExactCrashLogCard

/-- THE TIED CARD OF 'laws.FnExactSyncLog'. -/
def fnExactSyncLogCard : Claim7 := { stood := { row := fnExactSyncLogRow, standIns := [], harness := (true, "81fb6194d755a3e817299dc31234f0d02c24f91e9d062d98763357946d673a3c"), looks := false }, kinds := [], alts := [], laidByText := true, laidKinds := [.data, .data, .data], laidTests := true, laidLooks := .later }
def FnExactSyncLogCardSaid : Prop := Claim7.holds Tryd.pinned (.plain (OpenSpec.ofChange fnExactSyncLogSpec)) fnExactSyncLogCard

/-- THE TIED CARD OF 'laws.FnExactAppendRecord'. -/
def fnExactAppendRecordCard : Claim7 := { stood := { row := fnExactAppendRecordRow, standIns := [], harness := (true, "81fb6194d755a3e817299dc31234f0d02c24f91e9d062d98763357946d673a3c"), looks := false }, kinds := [], alts := [], laidByText := true, laidKinds := [.data, .data, .data], laidTests := true, laidLooks := .later }
def FnExactAppendRecordCardSaid : Prop := Claim7.holds Tryd.pinned (.plain (OpenSpec.ofChange fnExactAppendRecordSpec)) fnExactAppendRecordCard

/-- THE TIED CARD OF 'laws.FnExactLogRecords'. -/
def fnExactLogRecordsCard : Claim7 := { stood := { row := fnExactLogRecordsRow, standIns := [], harness := (true, "81fb6194d755a3e817299dc31234f0d02c24f91e9d062d98763357946d673a3c"), looks := false }, kinds := [], alts := [], laidByText := true, laidKinds := [.data, .data, .data], laidTests := true, laidLooks := .later }
def FnExactLogRecordsCardSaid : Prop := Claim7.holds Tryd.pinned (.plain (OpenSpec.ofChange fnExactLogRecordsSpec)) fnExactLogRecordsCard

/-- THE TIED CARD OF 'laws.FnLogs'. -/
def fnLogsCard : Claim7 := { stood := { row := fnLogsRow, standIns := [], harness := (true, "81fb6194d755a3e817299dc31234f0d02c24f91e9d062d98763357946d673a3c"), looks := false }, kinds := [], alts := [], laidByText := true, laidKinds := [.data, .data, .data], laidTests := true, laidLooks := .later }
def FnLogsCardSaid : Prop := Claim7.holds Tryd.pinned (.plain (OpenSpec.ofChange fnLogsSpec)) fnLogsCard

/-- THE TIED CARD OF 'laws.FnCrashes'. -/
def fnCrashesCard : Claim7 := { stood := { row := fnCrashesRow, standIns := [], harness := (true, "81fb6194d755a3e817299dc31234f0d02c24f91e9d062d98763357946d673a3c"), looks := false }, kinds := [], alts := [], laidByText := true, laidKinds := [.data, .data, .data], laidTests := true, laidLooks := .later }
def FnCrashesCardSaid : Prop := Claim7.holds Tryd.pinned (.plain (OpenSpec.ofChange fnCrashesSpec)) fnCrashesCard

/-- THE TIED CARD OF 'laws.FnExactIsValidConsole'. -/
def fnExactIsValidConsoleCard : Claim7 := { stood := { row := fnExactIsValidConsoleRow, standIns := [], harness := (true, "81fb6194d755a3e817299dc31234f0d02c24f91e9d062d98763357946d673a3c"), looks := false }, kinds := [], alts := [], laidByText := true, laidKinds := [.data, .data, .data], laidTests := true, laidLooks := .later }
def FnExactIsValidConsoleCardSaid : Prop := Claim7.holds Tryd.pinned (.plain (OpenSpec.ofChange fnExactIsValidConsoleSpec)) fnExactIsValidConsoleCard

/-- THE SECOND FORM's CARD OF 'laws.FnExactCrashLog'. -/
def fnExactCrashLogUptoCard : Claim7 := { stood := { row := fnExactCrashLogUptoRow, standIns := [], harness := (true, "81fb6194d755a3e817299dc31234f0d02c24f91e9d062d98763357946d673a3c"), looks := false }, kinds := [], alts := [], laidByText := true, laidKinds := [.data, .data, .data], laidTests := true, laidLooks := .later }
def FnExactCrashLogUptoCardSaid : Prop := Claim7.holds Tryd.pinned (.plain (OpenSpec.upto fnExactCrashLogSpec)) fnExactCrashLogUptoCard

/-- THE SECOND FORM's CARD OF 'laws.FnExactSyncLog'. -/
def fnExactSyncLogUptoCard : Claim7 := { stood := { row := fnExactSyncLogUptoRow, standIns := [], harness := (true, "81fb6194d755a3e817299dc31234f0d02c24f91e9d062d98763357946d673a3c"), looks := false }, kinds := [], alts := [], laidByText := true, laidKinds := [.data, .data, .data], laidTests := true, laidLooks := .later }
def FnExactSyncLogUptoCardSaid : Prop := Claim7.holds Tryd.pinned (.plain (OpenSpec.upto fnExactSyncLogSpec)) fnExactSyncLogUptoCard

/-- THE SECOND FORM's CARD OF 'laws.FnExactAppendRecord'. -/
def fnExactAppendRecordUptoCard : Claim7 := { stood := { row := fnExactAppendRecordUptoRow, standIns := [], harness := (true, "81fb6194d755a3e817299dc31234f0d02c24f91e9d062d98763357946d673a3c"), looks := false }, kinds := [], alts := [], laidByText := true, laidKinds := [.data, .data, .data], laidTests := true, laidLooks := .later }
def FnExactAppendRecordUptoCardSaid : Prop := Claim7.holds Tryd.pinned (.plain (OpenSpec.upto fnExactAppendRecordSpec)) fnExactAppendRecordUptoCard

/-- THE SECOND FORM's CARD OF 'laws.FnExactLogRecords'. -/
def fnExactLogRecordsUptoCard : Claim7 := { stood := { row := fnExactLogRecordsUptoRow, standIns := [], harness := (true, "81fb6194d755a3e817299dc31234f0d02c24f91e9d062d98763357946d673a3c"), looks := false }, kinds := [], alts := [], laidByText := true, laidKinds := [.data, .data, .data], laidTests := true, laidLooks := .later }
def FnExactLogRecordsUptoCardSaid : Prop := Claim7.holds Tryd.pinned (.plain (OpenSpec.upto fnExactLogRecordsSpec)) fnExactLogRecordsUptoCard

/-- THE SECOND FORM's CARD OF 'laws.FnLogs'. -/
def fnLogsUptoCard : Claim7 := { stood := { row := fnLogsUptoRow, standIns := [], harness := (true, "81fb6194d755a3e817299dc31234f0d02c24f91e9d062d98763357946d673a3c"), looks := false }, kinds := [], alts := [], laidByText := true, laidKinds := [.data, .data, .data], laidTests := true, laidLooks := .later }
def FnLogsUptoCardSaid : Prop := Claim7.holds Tryd.pinned (.plain (OpenSpec.upto fnLogsSpec)) fnLogsUptoCard

/-- THE SECOND FORM's CARD OF 'laws.FnCrashes'. -/
def fnCrashesUptoCard : Claim7 := { stood := { row := fnCrashesUptoRow, standIns := [], harness := (true, "81fb6194d755a3e817299dc31234f0d02c24f91e9d062d98763357946d673a3c"), looks := false }, kinds := [], alts := [], laidByText := true, laidKinds := [.data, .data, .data], laidTests := true, laidLooks := .later }
def FnCrashesUptoCardSaid : Prop := Claim7.holds Tryd.pinned (.plain (OpenSpec.upto fnCrashesSpec)) fnCrashesUptoCard

/-- THE SECOND FORM's CARD OF 'laws.FnExactIsValidConsole'. -/
def fnExactIsValidConsoleUptoCard : Claim7 := { stood := { row := fnExactIsValidConsoleUptoRow, standIns := [], harness := (true, "81fb6194d755a3e817299dc31234f0d02c24f91e9d062d98763357946d673a3c"), looks := false }, kinds := [], alts := [], laidByText := true, laidKinds := [.data, .data, .data], laidTests := true, laidLooks := .later }
def FnExactIsValidConsoleUptoCardSaid : Prop := Claim7.holds Tryd.pinned (.plain (OpenSpec.upto fnExactIsValidConsoleSpec)) fnExactIsValidConsoleUptoCard
end Rows
end Go.Proofs.YtkhfihbaopbblaaDoor
