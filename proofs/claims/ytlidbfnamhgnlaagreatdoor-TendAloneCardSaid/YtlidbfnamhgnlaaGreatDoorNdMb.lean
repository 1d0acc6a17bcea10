/- The law's own function, compiled. -/
import Derived.Test.YtlidbfnamhgnlaaGreatDoorNdM
set_option maxRecDepth 1000000
noncomputable section
namespace Go.Ev.Nd
open Go Go.Ev

def m16l0 : MC :=
  (.seq (.seq (.reg 4 [⟨some 17, none, .mv (.t 6), 0, 0⟩, ⟨some 18, none, .mv (.t 1), 0, 0⟩, ⟨some 19, none, .convI .i64 (.t 18), 0, 0⟩, ⟨some 20, none, .bin .lss (.t 17) (.t 19), 0, 0⟩]) (.cond (.t 20) .skip (.exit 0))) (.seq (.block 1 (.seq
  (.reg 1 [⟨some 7, none, .mv (.c (.sl .nil 0 [])), 0, 0⟩]) (.seq (.reg 7 [⟨some 24, none, .load true 14 (.t 5), 0, 0⟩, ⟨some 25, none, .call 63 [(.t 24)], 0, 0⟩, ⟨some 23, none, .mv (.t 25), 0, 0⟩, ⟨some 26, none, .ext 0 (.t 23), 0, 0⟩,
  ⟨some 27, none, .ext 1 (.t 23), 0, 0⟩, ⟨none, none, .store 14 (.t 5) (.t 26) none, 0, 0⟩, ⟨some 7, none, .mv (.t 27), 0, 0⟩]) (.seq (.reg 3 [⟨some 28, none, .mv (.t 7), 0, 0⟩, ⟨some 29, none, .len false (.t 28), 0, 0⟩, ⟨some 30, none, .bin
  .gtr (.t 29) (.c (.int .i64 0)), 0, 0⟩]) (.cond (.t 30) (.seq (.reg 1 [⟨some 4, none, .mv (.c (.bool false)), 0, 0⟩]) .ret) .skip))))) (.reg 3 [⟨some 21, none, .mv (.t 6), 0, 0⟩, ⟨some 22, none, .bin .add (.t 21) (.c (.int .i64 1)), 0, 0⟩,
  ⟨some 6, none, .mv (.t 22), 0, 0⟩])))

def m16k0 : MC :=
  (.seq (.reg 33 [⟨some 31, none, .fadr 3 (.t 5), 0, 0⟩, ⟨some 32, none, .load false 1 (.t 31), 0, 0⟩, ⟨some 33, none, .mv (.t 32), 0, 0⟩, ⟨some 34, some (33, true), .fadr 5 (.t 5), 0, 0⟩, ⟨some 35, some (33, true), .load false 1 (.t 34), 0,
  0⟩, ⟨some 36, some (33, true), .len false (.t 35), 0, 0⟩, ⟨some 37, some (33, true), .bin .eql (.t 36) (.c (.int .i64 0)), 0, 0⟩, ⟨some 38, none, .pick (.t 33) (.t 37) (.c (.bool false)), 0, 0⟩, ⟨some 39, none, .mv (.t 38), 0, 0⟩, ⟨some
  40, some (39, true), .fadr 8 (.t 5), 0, 0⟩, ⟨some 41, some (39, true), .load false 1 (.t 40), 0, 0⟩, ⟨some 42, some (39, true), .len false (.t 41), 0, 0⟩, ⟨some 43, some (39, true), .bin .eql (.t 42) (.c (.int .i64 0)), 0, 0⟩, ⟨some 44,
  none, .pick (.t 39) (.t 43) (.c (.bool false)), 0, 0⟩, ⟨some 45, none, .mv (.t 44), 0, 0⟩, ⟨some 46, some (45, true), .fadr 9 (.t 5), 0, 0⟩, ⟨some 47, some (45, true), .load false 1 (.t 46), 0, 0⟩, ⟨some 48, some (45, true), .len false (.t
  47), 0, 0⟩, ⟨some 49, some (45, true), .bin .eql (.t 48) (.c (.int .i64 0)), 0, 0⟩, ⟨some 50, none, .pick (.t 45) (.t 49) (.c (.bool false)), 0, 0⟩, ⟨some 51, none, .mv (.t 50), 0, 0⟩, ⟨some 52, some (51, true), .fadr 7 (.t 5), 0, 0⟩,
  ⟨some 53, some (51, true), .load false 1 (.t 52), 0, 0⟩, ⟨some 54, some (51, true), .len false (.t 53), 0, 0⟩, ⟨some 55, some (51, true), .fadr 7 (.t 2), 0, 0⟩, ⟨some 56, some (51, true), .load false 1 (.t 55), 0, 0⟩, ⟨some 57, some (51,
  true), .len false (.t 56), 0, 0⟩, ⟨some 58, some (51, true), .bin .eql (.t 54) (.t 57), 0, 0⟩, ⟨some 59, none, .pick (.t 51) (.t 58) (.c (.bool false)), 0, 0⟩, ⟨some 60, none, .mv (.t 59), 0, 0⟩, ⟨some 61, some (60, true), .call 62 [], 0,
  0⟩, ⟨some 62, none, .pick (.t 60) (.t 61) (.c (.bool false)), 0, 0⟩, ⟨some 4, none, .mv (.t 62), 0, 0⟩]) .ret)

def m16 : MF :=
  ⟨63, (.seq (.reg 2 [⟨some 2, none, .box 0 (.t 0), 0, 0⟩, ⟨some 4, none, .mv (.c (.bool false)), 0, 0⟩]) (.seq (.seq (.reg 2 [⟨some 8, none, .load true 14 (.t 2), 0, 0⟩, ⟨some 9, none, .call 17 [(.t 8)], 0, 0⟩]) (.cond (.t 9) (.seq (.reg 2
  [⟨some 10, none, .call 62 [], 0, 0⟩, ⟨some 4, none, .mv (.t 10), 0, 0⟩]) .ret) .skip)) (.seq (.reg 10 [⟨some 11, none, .fadr 3 (.t 2), 0, 0⟩, ⟨none, none, .store 1 (.t 11) (.c (.bool true)) none, 0, 0⟩, ⟨some 12, none, .fadr 5 (.t 2), 0,
  0⟩, ⟨none, none, .store 1 (.t 12) (.c (.sl .nil 0 [])) none, 0, 0⟩, ⟨some 13, none, .fadr 4 (.t 2), 0, 0⟩, ⟨none, none, .store 1 (.t 13) (.c (.sl .nil 0 [])) none, 0, 0⟩, ⟨some 14, none, .fadr 8 (.t 2), 0, 0⟩, ⟨none, none, .store 1 (.t 14)
  (.c (.sl .nil 0 [])) none, 0, 0⟩, ⟨some 15, none, .fadr 9 (.t 2), 0, 0⟩, ⟨none, none, .store 1 (.t 15) (.c (.sl .nil 0 [])) none, 0, 0⟩]) (.seq (.reg 3 [⟨some 16, none, .load true 14 (.t 2), 0, 0⟩, ⟨some 5, none, .alloc 1 [(.int .u64 0),
  (.int .u16 0), (.int .i64 0), (.bool false), (.sl .nil 0 []), (.sl .nil 0 []), (.sl .nil 0 []), (.sl .nil 0 []), (.sl .nil 0 []), (.sl .nil 0 []), (.sl .nil 0 []), (.int .u32 0), (.int .i64 0), (.int .i64 0)], 0, 0⟩, ⟨none, none, .store 14
  (.t 5) (.t 16) none, 0, 0⟩]) (.seq (.seq (.reg 1 [⟨some 6, none, .mv (.c (.int .i64 0)), 0, 0⟩]) (.block 0 (.loop m16l0))) m16k0))))), [(.tmp 4)]⟩

theorem F16 : progF P 16 = some m16 := by kernel_rfl
end Go.Ev.Nd
