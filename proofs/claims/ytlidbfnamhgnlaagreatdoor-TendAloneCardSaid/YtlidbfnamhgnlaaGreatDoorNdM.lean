/- The compiled functions of the program that these statements reach. -/
import Derived.Test.YtlidbfnamhgnlaaGreatDoorEvLb
import Derived.Test.YtlidbfnamhgnlaaGreatDoorEvZb
import Derived.Test.YtlidbfnamhgnlaaGreatDoorProg
import Derived.KernelRfl
set_option maxRecDepth 1000000
noncomputable section
namespace Go.Ev.Nd
open Go Go.Ev

noncomputable abbrev P : Program := Go.Proofs.Tryz.prog

def m17l0 : MC :=
  (.seq (.seq (.reg 5 [⟨some 44, none, .mv (.t 3), 0, 0⟩, ⟨some 45, none, .fadr 9 (.t 1), 0, 0⟩, ⟨some 46, none, .load false 1 (.t 45), 0, 0⟩, ⟨some 47, none, .len false (.t 46), 0, 0⟩, ⟨some 48, none, .bin .lss (.t 44) (.t 47), 0, 0⟩]) (.cond
  (.t 48) .skip (.exit 0))) (.seq (.block 1 (.seq (.reg 18 [⟨some 51, none, .fadr 9 (.t 1), 0, 0⟩, ⟨some 52, none, .load false 1 (.t 51), 0, 0⟩, ⟨some 53, none, .mv (.t 3), 0, 0⟩, ⟨some 54, none, .iadr 14 (.t 52) (.t 53), 0, 0⟩, ⟨some 55,
  none, .fadr 3 (.t 54), 0, 0⟩, ⟨some 56, none, .load false 1 (.t 55), 0, 0⟩, ⟨some 57, none, .len true (.t 56), 0, 0⟩, ⟨some 58, none, .bin .gtr (.t 57) (.c (.int .i64 300)), 0, 0⟩, ⟨some 59, none, .mv (.t 58), 0, 0⟩, ⟨some 60, some (59,
  false), .fadr 9 (.t 1), 0, 0⟩, ⟨some 61, some (59, false), .load false 1 (.t 60), 0, 0⟩, ⟨some 62, some (59, false), .mv (.t 3), 0, 0⟩, ⟨some 63, some (59, false), .iadr 14 (.t 61) (.t 62), 0, 0⟩, ⟨some 64, some (59, false), .fadr 4 (.t
  63), 0, 0⟩, ⟨some 65, some (59, false), .load false 1 (.t 64), 0, 0⟩, ⟨some 66, some (59, false), .len true (.t 65), 0, 0⟩, ⟨some 67, some (59, false), .bin .gtr (.t 66) (.c (.int .i64 700)), 0, 0⟩, ⟨some 68, none, .pick (.t 59) (.c (.bool
  true)) (.t 67), 0, 0⟩]) (.cond (.t 68) (.seq (.reg 1 [⟨some 2, none, .mv (.c (.bool true)), 0, 0⟩]) .ret) .skip))) (.reg 3 [⟨some 49, none, .mv (.t 3), 0, 0⟩, ⟨some 50, none, .bin .add (.t 49) (.c (.int .i64 1)), 0, 0⟩, ⟨some 3, none, .mv
  (.t 50), 0, 0⟩])))

def m17l1 : MC :=
  (.seq (.seq (.reg 5 [⟨some 69, none, .mv (.t 4), 0, 0⟩, ⟨some 70, none, .fadr 10 (.t 1), 0, 0⟩, ⟨some 71, none, .load false 1 (.t 70), 0, 0⟩, ⟨some 72, none, .len false (.t 71), 0, 0⟩, ⟨some 73, none, .bin .lss (.t 69) (.t 72), 0, 0⟩])
  (.cond (.t 73) .skip (.exit 2))) (.seq (.block 3 (.seq (.reg 18 [⟨some 76, none, .fadr 10 (.t 1), 0, 0⟩, ⟨some 77, none, .load false 1 (.t 76), 0, 0⟩, ⟨some 78, none, .mv (.t 4), 0, 0⟩, ⟨some 79, none, .iadr 6 (.t 77) (.t 78), 0, 0⟩, ⟨some
  80, none, .fadr 2 (.t 79), 0, 0⟩, ⟨some 81, none, .load false 1 (.t 80), 0, 0⟩, ⟨some 82, none, .len true (.t 81), 0, 0⟩, ⟨some 83, none, .bin .gtr (.t 82) (.c (.int .i64 300)), 0, 0⟩, ⟨some 84, none, .mv (.t 83), 0, 0⟩, ⟨some 85, some
  (84, false), .fadr 10 (.t 1), 0, 0⟩, ⟨some 86, some (84, false), .load false 1 (.t 85), 0, 0⟩, ⟨some 87, some (84, false), .mv (.t 4), 0, 0⟩, ⟨some 88, some (84, false), .iadr 6 (.t 86) (.t 87), 0, 0⟩, ⟨some 89, some (84, false), .fadr 3
  (.t 88), 0, 0⟩, ⟨some 90, some (84, false), .load false 1 (.t 89), 0, 0⟩, ⟨some 91, some (84, false), .len true (.t 90), 0, 0⟩, ⟨some 92, some (84, false), .bin .gtr (.t 91) (.c (.int .i64 700)), 0, 0⟩, ⟨some 93, none, .pick (.t 84) (.c
  (.bool true)) (.t 92), 0, 0⟩]) (.cond (.t 93) (.seq (.reg 1 [⟨some 2, none, .mv (.c (.bool true)), 0, 0⟩]) .ret) .skip))) (.reg 3 [⟨some 74, none, .mv (.t 4), 0, 0⟩, ⟨some 75, none, .bin .add (.t 74) (.c (.int .i64 1)), 0, 0⟩, ⟨some 4,
  none, .mv (.t 75), 0, 0⟩])))

def m17 : MF :=
  ⟨94, (.seq (.reg 2 [⟨some 1, none, .box 0 (.t 0), 0, 0⟩, ⟨some 2, none, .mv (.c (.bool false)), 0, 0⟩]) (.seq (.seq (.reg 39 [⟨some 5, none, .fadr 4 (.t 1), 0, 0⟩, ⟨some 6, none, .load false 1 (.t 5), 0, 0⟩, ⟨some 7, none, .len false (.t 6),
  0, 0⟩, ⟨some 8, none, .bin .gtr (.t 7) (.c (.int .i64 5)), 0, 0⟩, ⟨some 9, none, .mv (.t 8), 0, 0⟩, ⟨some 10, some (9, false), .fadr 5 (.t 1), 0, 0⟩, ⟨some 11, some (9, false), .load false 1 (.t 10), 0, 0⟩, ⟨some 12, some (9, false), .len
  false (.t 11), 0, 0⟩, ⟨some 13, some (9, false), .bin .gtr (.t 12) (.c (.int .i64 40)), 0, 0⟩, ⟨some 14, none, .pick (.t 9) (.c (.bool true)) (.t 13), 0, 0⟩, ⟨some 15, none, .mv (.t 14), 0, 0⟩, ⟨some 16, some (15, false), .fadr 6 (.t 1),
  0, 0⟩, ⟨some 17, some (15, false), .load false 1 (.t 16), 0, 0⟩, ⟨some 18, some (15, false), .len false (.t 17), 0, 0⟩, ⟨some 19, some (15, false), .bin .gtr (.t 18) (.c (.int .i64 80)), 0, 0⟩, ⟨some 20, none, .pick (.t 15) (.c (.bool
  true)) (.t 19), 0, 0⟩, ⟨some 21, none, .mv (.t 20), 0, 0⟩, ⟨some 22, some (21, false), .fadr 8 (.t 1), 0, 0⟩, ⟨some 23, some (21, false), .load false 1 (.t 22), 0, 0⟩, ⟨some 24, some (21, false), .len false (.t 23), 0, 0⟩, ⟨some 25, some
  (21, false), .bin .gtr (.t 24) (.c (.int .i64 100)), 0, 0⟩, ⟨some 26, none, .pick (.t 21) (.c (.bool true)) (.t 25), 0, 0⟩, ⟨some 27, none, .mv (.t 26), 0, 0⟩, ⟨some 28, some (27, false), .fadr 9 (.t 1), 0, 0⟩, ⟨some 29, some (27, false),
  .load false 1 (.t 28), 0, 0⟩, ⟨some 30, some (27, false), .len false (.t 29), 0, 0⟩, ⟨some 31, some (27, false), .bin .gtr (.t 30) (.c (.int .i64 20)), 0, 0⟩, ⟨some 32, none, .pick (.t 27) (.c (.bool true)) (.t 31), 0, 0⟩, ⟨some 33, none,
  .mv (.t 32), 0, 0⟩, ⟨some 34, some (33, false), .fadr 10 (.t 1), 0, 0⟩, ⟨some 35, some (33, false), .load false 1 (.t 34), 0, 0⟩, ⟨some 36, some (33, false), .len false (.t 35), 0, 0⟩, ⟨some 37, some (33, false), .bin .gtr (.t 36) (.c
  (.int .i64 40)), 0, 0⟩, ⟨some 38, none, .pick (.t 33) (.c (.bool true)) (.t 37), 0, 0⟩, ⟨some 39, none, .mv (.t 38), 0, 0⟩, ⟨some 40, some (39, false), .fadr 7 (.t 1), 0, 0⟩, ⟨some 41, some (39, false), .load false 1 (.t 40), 0, 0⟩, ⟨some
  42, some (39, false), .call 25 [(.t 41)], 0, 0⟩, ⟨some 43, none, .pick (.t 39) (.c (.bool true)) (.t 42), 0, 0⟩]) (.cond (.t 43) (.seq (.reg 1 [⟨some 2, none, .mv (.c (.bool true)), 0, 0⟩]) .ret) .skip)) (.seq (.seq (.reg 1 [⟨some 3, none,
  .mv (.c (.int .i64 0)), 0, 0⟩]) (.block 0 (.loop m17l0))) (.seq (.seq (.reg 1 [⟨some 4, none, .mv (.c (.int .i64 0)), 0, 0⟩]) (.block 2 (.loop m17l1))) (.seq (.reg 1 [⟨some 2, none, .mv (.c (.bool false)), 0, 0⟩]) .ret))))), [(.tmp 2)]⟩

def m25l0 : MC :=
  (.seq (.seq (.reg 4 [⟨some 7, none, .mv (.t 3), 0, 0⟩, ⟨some 8, none, .mv (.t 0), 0, 0⟩, ⟨some 9, none, .len false (.t 8), 0, 0⟩, ⟨some 10, none, .bin .lss (.t 7) (.t 9), 0, 0⟩]) (.cond (.t 10) .skip (.exit 0))) (.seq (.block 1 (.seq (.reg
  16 [⟨some 13, none, .mv (.t 0), 0, 0⟩, ⟨some 14, none, .mv (.t 3), 0, 0⟩, ⟨some 15, none, .iadr 2 (.t 13) (.t 14), 0, 0⟩, ⟨some 16, none, .fadr 0 (.t 15), 0, 0⟩, ⟨some 17, none, .load false 1 (.t 16), 0, 0⟩, ⟨some 18, none, .len true (.t
  17), 0, 0⟩, ⟨some 19, none, .bin .gtr (.t 18) (.c (.int .i64 300)), 0, 0⟩, ⟨some 20, none, .mv (.t 19), 0, 0⟩, ⟨some 21, some (20, false), .mv (.t 0), 0, 0⟩, ⟨some 22, some (20, false), .mv (.t 3), 0, 0⟩, ⟨some 23, some (20, false), .iadr
  2 (.t 21) (.t 22), 0, 0⟩, ⟨some 24, some (20, false), .fadr 1 (.t 23), 0, 0⟩, ⟨some 25, some (20, false), .load false 1 (.t 24), 0, 0⟩, ⟨some 26, some (20, false), .len true (.t 25), 0, 0⟩, ⟨some 27, some (20, false), .bin .gtr (.t 26) (.c
  (.int .i64 700)), 0, 0⟩, ⟨some 28, none, .pick (.t 20) (.c (.bool true)) (.t 27), 0, 0⟩]) (.cond (.t 28) (.seq (.reg 1 [⟨some 2, none, .mv (.c (.bool true)), 0, 0⟩]) .ret) .skip))) (.reg 3 [⟨some 11, none, .mv (.t 3), 0, 0⟩, ⟨some 12,
  none, .bin .add (.t 11) (.c (.int .i64 1)), 0, 0⟩, ⟨some 3, none, .mv (.t 12), 0, 0⟩])))

def m25 : MF :=
  ⟨29, (.seq (.reg 1 [⟨some 2, none, .mv (.c (.bool false)), 0, 0⟩]) (.seq (.seq (.reg 3 [⟨some 4, none, .mv (.t 0), 0, 0⟩, ⟨some 5, none, .len false (.t 4), 0, 0⟩, ⟨some 6, none, .bin .gtr (.t 5) (.c (.int .i64 100)), 0, 0⟩]) (.cond (.t 6)
  (.seq (.reg 1 [⟨some 2, none, .mv (.c (.bool true)), 0, 0⟩]) .ret) .skip)) (.seq (.seq (.reg 1 [⟨some 3, none, .mv (.c (.int .i64 0)), 0, 0⟩]) (.block 0 (.loop m25l0))) (.seq (.reg 1 [⟨some 2, none, .mv (.c (.bool false)), 0, 0⟩])
  .ret)))), [(.tmp 2)]⟩

def m20 : MF :=
  ⟨32, (.seq (.reg 2 [⟨some 1, none, .box 0 (.t 0), 0, 0⟩, ⟨some 2, none, .alloc 1 [(.int .u64 0), (.int .u16 0), (.int .i64 0), (.bool false), (.sl .nil 0 []), (.sl .nil 0 []), (.sl .nil 0 []), (.sl .nil 0 []), (.sl .nil 0 []), (.sl .nil 0
  []), (.sl .nil 0 []), (.int .u32 0), (.int .i64 0), (.int .i64 0)], 0, 0⟩]) (.seq (.dreg 15 [⟨some 3, none, .fadr 4 (.t 1), 0, 0⟩, ⟨some 4, none, .load false 1 (.t 3), 0, 0⟩, ⟨some 5, none, .call 69 [(.t 4)], 0, 0⟩, ⟨some 6, none, .fadr 5
  (.t 1), 0, 0⟩, ⟨some 7, none, .load false 1 (.t 6), 1, 0⟩, ⟨some 8, none, .call 69 [(.t 7)], 0, 0⟩, ⟨some 9, none, .fadr 6 (.t 1), 0, 0⟩, ⟨some 10, none, .load false 1 (.t 9), 2, 0⟩, ⟨some 11, none, .call 70 [(.t 10)], 0, 0⟩, ⟨some 12,
  none, .fadr 4 (.t 1), 0, 0⟩, ⟨none, none, .store 1 (.t 12) (.t 5) none, 0, 0⟩, ⟨some 13, none, .fadr 5 (.t 1), 0, 0⟩, ⟨none, none, .store 1 (.t 13) (.t 8) none, 0, 0⟩, ⟨some 14, none, .fadr 6 (.t 1), 0, 0⟩, ⟨none, none, .store 1 (.t 14)
  (.t 11) none, 0, 0⟩]) (.seq (.dreg 10 [⟨some 15, none, .fadr 7 (.t 1), 0, 0⟩, ⟨some 16, none, .load false 1 (.t 15), 0, 0⟩, ⟨some 17, none, .call 71 [(.t 16)], 0, 0⟩, ⟨some 18, none, .fadr 8 (.t 1), 0, 0⟩, ⟨some 19, none, .load false 1 (.t
  18), 1, 0⟩, ⟨some 20, none, .call 72 [(.t 19)], 0, 0⟩, ⟨some 21, none, .fadr 7 (.t 1), 0, 0⟩, ⟨none, none, .store 1 (.t 21) (.t 17) none, 0, 0⟩, ⟨some 22, none, .fadr 8 (.t 1), 0, 0⟩, ⟨none, none, .store 1 (.t 22) (.t 20) none, 0, 0⟩])
  (.seq (.dreg 10 [⟨some 23, none, .fadr 9 (.t 1), 0, 0⟩, ⟨some 24, none, .load false 1 (.t 23), 0, 0⟩, ⟨some 25, none, .call 73 [(.t 24)], 0, 0⟩, ⟨some 26, none, .fadr 10 (.t 1), 0, 0⟩, ⟨some 27, none, .load false 1 (.t 26), 1, 0⟩, ⟨some
  28, none, .call 74 [(.t 27)], 0, 0⟩, ⟨some 29, none, .fadr 9 (.t 1), 0, 0⟩, ⟨none, none, .store 1 (.t 29) (.t 25) none, 0, 0⟩, ⟨some 30, none, .fadr 10 (.t 1), 0, 0⟩, ⟨none, none, .store 1 (.t 30) (.t 28) none, 0, 0⟩]) (.seq (.reg 2 [⟨some
  31, none, .load true 14 (.t 1), 0, 0⟩, ⟨none, none, .store 14 (.t 2) (.t 31) none, 0, 0⟩]) .ret))))), [(.cell 2 true 14)]⟩

def m156 : MF :=
  ⟨13, (.seq (.reg 2 [⟨some 1, none, .box 0 (.t 0), 0, 0⟩, ⟨some 2, none, .mv (.c (.int .i64 0)), 0, 0⟩]) (.seq (.seq (.reg 8 [⟨some 3, none, .fadr 2 (.t 1), 0, 0⟩, ⟨some 4, none, .load false 1 (.t 3), 0, 0⟩, ⟨some 5, none, .bin .lss (.t 4)
  (.c (.int .i64 0)), 0, 0⟩, ⟨some 6, none, .mv (.t 5), 0, 0⟩, ⟨some 7, some (6, false), .fadr 2 (.t 1), 0, 0⟩, ⟨some 8, some (6, false), .load false 1 (.t 7), 0, 0⟩, ⟨some 9, some (6, false), .bin .gtr (.t 8) (.c (.int .i64 1099511627776)),
  0, 0⟩, ⟨some 10, none, .pick (.t 6) (.c (.bool true)) (.t 9), 0, 0⟩]) (.cond (.t 10) (.seq (.reg 1 [⟨some 2, none, .mv (.c (.int .i64 0)), 0, 0⟩]) .ret) .skip)) (.seq (.reg 3 [⟨some 11, none, .fadr 2 (.t 1), 0, 0⟩, ⟨some 12, none, .load
  false 1 (.t 11), 0, 0⟩, ⟨some 2, none, .mv (.t 12), 0, 0⟩]) .ret))), [(.tmp 2)]⟩

def m157l0 : MC :=
  (.seq (.reg 1 [⟨some 14, none, .bin .lss (.t 13) (.t 12), 0, 0⟩]) (.seq (.cond (.t 14) .skip (.exit 0)) (.seq (.block 1 (.seq (.reg 4 [⟨some 15, none, .iadr 7 (.t 11) (.t 13), 0, 0⟩, ⟨some 16, none, .load true 7 (.t 15), 0, 0⟩, ⟨some 7,
  none, .alloc 2 [(.int .u32 0), (.int .i64 0), (.int .i64 0), (.int .i64 0), (.int .u64 0), (.int .u16 0), (.int .i64 0)], 0, 0⟩, ⟨none, none, .store 7 (.t 7) (.t 16) none, 0, 0⟩]) (.seq (.reg 5 [⟨some 17, none, .fadr 6 (.t 7), 0, 0⟩, ⟨some
  18, none, .load false 1 (.t 17), 0, 0⟩, ⟨some 19, none, .fadr 2 (.t 1), 0, 0⟩, ⟨some 20, none, .load false 1 (.t 19), 0, 0⟩, ⟨some 21, none, .bin .lss (.t 18) (.t 20), 0, 0⟩]) (.cond (.t 21) (.reg 5 [⟨some 22, none, .mv (.t 4), 0, 0⟩,
  ⟨some 23, none, .load true 7 (.t 7), 0, 0⟩, ⟨some 24, none, .mkSl 2 7 [(.t 23)], 0, 0⟩, ⟨some 25, none, .append 3 7 2513169434916 (.t 22) (.t 24), 0, 0⟩, ⟨some 4, none, .mv (.t 25), 0, 0⟩]) (.reg 5 [⟨some 26, none, .mv (.t 5), 0, 0⟩, ⟨some
  27, none, .load true 7 (.t 7), 0, 0⟩, ⟨some 28, none, .mkSl 2 7 [(.t 27)], 0, 0⟩, ⟨some 29, none, .append 3 7 2513169434916 (.t 26) (.t 28), 0, 0⟩, ⟨some 5, none, .mv (.t 29), 0, 0⟩]))))) (.reg 2 [⟨some 30, none, .bin .add (.t 13) (.c
  (.int .i64 1)), 0, 0⟩, ⟨some 13, none, .mv (.t 30), 0, 0⟩]))))

def m157 : MF :=
  ⟨35, (.seq (.reg 3 [⟨some 1, none, .box 0 (.t 0), 0, 0⟩, ⟨some 2, none, .alloc 1 [(.int .u64 0), (.int .u16 0), (.int .i64 0), (.bool false), (.sl .nil 0 []), (.sl .nil 0 []), (.sl .nil 0 []), (.sl .nil 0 []), (.sl .nil 0 []), (.sl .nil 0
  []), (.sl .nil 0 []), (.int .u32 0), (.int .i64 0), (.int .i64 0)], 0, 0⟩, ⟨some 3, none, .mv (.c (.sl .nil 0 [])), 0, 0⟩]) (.seq (.reg 3 [⟨some 8, none, .load true 14 (.t 1), 0, 0⟩, ⟨some 9, none, .call 20 [(.t 8)], 0, 0⟩, ⟨none, none,
  .store 14 (.t 1) (.t 9) none, 0, 0⟩]) (.seq (.reg 2 [⟨some 4, none, .mv (.c (.sl .nil 0 [])), 0, 0⟩, ⟨some 5, none, .mv (.c (.sl .nil 0 [])), 0, 0⟩]) (.seq (.seq (.reg 4 [⟨some 10, none, .fadr 8 (.t 1), 0, 0⟩, ⟨some 11, none, .load false 1
  (.t 10), 0, 0⟩, ⟨some 12, none, .len false (.t 11), 0, 0⟩, ⟨some 13, none, .mv (.c (.int .i64 0)), 0, 0⟩]) (.block 0 (.loop m157l0))) (.seq (.reg 3 [⟨some 31, none, .mv (.t 5), 0, 0⟩, ⟨some 32, none, .fadr 8 (.t 1), 0, 0⟩, ⟨none, none,
  .store 1 (.t 32) (.t 31) none, 0, 0⟩]) (.seq (.reg 4 [⟨some 33, none, .load true 14 (.t 1), 0, 0⟩, ⟨some 34, none, .mv (.t 4), 0, 0⟩, ⟨none, none, .store 14 (.t 2) (.t 33) none, 0, 0⟩, ⟨some 3, none, .mv (.t 34), 0, 0⟩]) .ret)))))),
  [(.cell 2 true 14), (.tmp 3)]⟩

def m159l0 : MC :=
  (.seq (.reg 1 [⟨some 12, none, .bin .lss (.t 11) (.t 10), 0, 0⟩]) (.seq (.cond (.t 12) .skip (.exit 0)) (.seq (.block 1 (.seq (.reg 4 [⟨some 13, none, .iadr 14 (.t 9) (.t 11), 0, 0⟩, ⟨some 14, none, .load true 14 (.t 13), 0, 0⟩, ⟨some 5,
  none, .alloc 2 [(.int .i64 0), (.int .i64 0), (.int .i64 0), (.str (bs [])), (.str (bs [])), (.int .u64 0), (.int .u64 0), (.int .u16 0), (.int .u64 0), (.int .u16 0), (.bool false), (.int .i64 0), (.int .i64 0), (.int .i64 0)], 0, 0⟩,
  ⟨none, none, .store 14 (.t 5) (.t 14) none, 0, 0⟩]) (.seq (.seq (.reg 10 [⟨some 15, none, .fadr 1 (.t 5), 0, 0⟩, ⟨some 16, none, .load false 1 (.t 15), 0, 0⟩, ⟨some 17, none, .bin .eql (.t 16) (.c (.int .i64 1)), 0, 0⟩, ⟨some 18, none, .mv
  (.t 17), 0, 0⟩, ⟨some 19, some (18, false), .fadr 13 (.t 5), 0, 0⟩, ⟨some 20, some (18, false), .load false 1 (.t 19), 0, 0⟩, ⟨some 21, some (18, false), .fadr 2 (.t 1), 0, 0⟩, ⟨some 22, some (18, false), .load false 1 (.t 21), 0, 0⟩,
  ⟨some 23, some (18, false), .bin .geq (.t 20) (.t 22), 0, 0⟩, ⟨some 24, none, .pick (.t 18) (.c (.bool true)) (.t 23), 0, 0⟩]) (.cond (.t 24) (.seq (.reg 5 [⟨some 25, none, .mv (.t 3), 0, 0⟩, ⟨some 26, none, .load true 14 (.t 5), 0, 0⟩,
  ⟨some 27, none, .mkSl 2 14 [(.t 26)], 0, 0⟩, ⟨some 28, none, .append 3 14 1099511627776 (.t 25) (.t 27), 0, 0⟩, ⟨some 3, none, .mv (.t 28), 0, 0⟩]) (.exit 1)) .skip)) (.reg 2 [⟨some 29, none, .load true 14 (.t 5), 0, 0⟩, ⟨some 30, none,
  .call 240 [(.t 1), (.t 29), (.c (.bool false)), (.c (.str (bs []))), (.c (.int .i64 18))], 0, 0⟩])))) (.reg 2 [⟨some 31, none, .bin .add (.t 11) (.c (.int .i64 1)), 0, 0⟩, ⟨some 11, none, .mv (.t 31), 0, 0⟩]))))

def m159 : MF :=
  ⟨35, (.seq (.reg 2 [⟨some 1, none, .box 0 (.t 0), 0, 0⟩, ⟨some 2, none, .alloc 1 [(.int .u64 0), (.int .u16 0), (.int .i64 0), (.bool false), (.sl .nil 0 []), (.sl .nil 0 []), (.sl .nil 0 []), (.sl .nil 0 []), (.sl .nil 0 []), (.sl .nil 0
  []), (.sl .nil 0 []), (.int .u32 0), (.int .i64 0), (.int .i64 0)], 0, 0⟩]) (.seq (.reg 3 [⟨some 6, none, .load true 14 (.t 1), 0, 0⟩, ⟨some 7, none, .call 20 [(.t 6)], 0, 0⟩, ⟨none, none, .store 14 (.t 1) (.t 7) none, 0, 0⟩]) (.seq (.reg
  1 [⟨some 3, none, .mv (.c (.sl .nil 0 [])), 0, 0⟩]) (.seq (.seq (.reg 4 [⟨some 8, none, .fadr 9 (.t 1), 0, 0⟩, ⟨some 9, none, .load false 1 (.t 8), 0, 0⟩, ⟨some 10, none, .len false (.t 9), 0, 0⟩, ⟨some 11, none, .mv (.c (.int .i64 0)), 0,
  0⟩]) (.block 0 (.loop m159l0))) (.seq (.reg 3 [⟨some 32, none, .mv (.t 3), 0, 0⟩, ⟨some 33, none, .fadr 9 (.t 1), 0, 0⟩, ⟨none, none, .store 1 (.t 33) (.t 32) none, 0, 0⟩]) (.seq (.reg 2 [⟨some 34, none, .load true 14 (.t 1), 0, 0⟩, ⟨none,
  none, .store 14 (.t 2) (.t 34) none, 0, 0⟩]) .ret)))))), [(.cell 2 true 14)]⟩

def m63l0 : MC :=
  (.seq (.reg 1 [⟨some 35, none, .bin .lss (.t 34) (.t 33), 0, 0⟩]) (.seq (.cond (.t 35) .skip (.exit 0)) (.seq (.block 1 (.seq (.reg 4 [⟨some 36, none, .iadr 7 (.t 32) (.t 34), 0, 0⟩, ⟨some 37, none, .load true 7 (.t 36), 0, 0⟩, ⟨some 8,
  none, .alloc 2 [(.int .u32 0), (.int .i64 0), (.int .i64 0), (.int .i64 0), (.int .u64 0), (.int .u16 0), (.int .i64 0)], 0, 0⟩, ⟨none, none, .store 7 (.t 8) (.t 37) none, 0, 0⟩]) (.dreg 10 [⟨some 38, none, .mv (.t 4), 0, 0⟩, ⟨some 39,
  none, .mv (.t 4), 0, 0⟩, ⟨some 40, none, .nilck (.t 39), 0, 0⟩, ⟨some 41, none, .fadr 0 (.t 40), 0, 0⟩, ⟨some 42, none, .load true 14 (.t 41), 0, 0⟩, ⟨some 43, none, .load true 7 (.t 8), 0, 0⟩, ⟨some 44, none, .call 44 [(.t 42), (.t 43)],
  0, 0⟩, ⟨some 45, none, .ext 0 (.t 44), 0, 0⟩, ⟨some 46, none, .ext 1 (.t 44), 0, 0⟩, ⟨some 47, none, .call 158 [(.t 38), (.t 45), (.t 46)], 0, 0⟩]))) (.reg 2 [⟨some 48, none, .bin .add (.t 34) (.c (.int .i64 1)), 0, 0⟩, ⟨some 34, none, .mv
  (.t 48), 0, 0⟩]))))

def m63 : MF :=
  ⟨81, (.seq (.reg 3 [⟨some 1, none, .box 0 (.t 0), 0, 0⟩, ⟨some 2, none, .alloc 1 [(.int .u64 0), (.int .u16 0), (.int .i64 0), (.bool false), (.sl .nil 0 []), (.sl .nil 0 []), (.sl .nil 0 []), (.sl .nil 0 []), (.sl .nil 0 []), (.sl .nil 0
  []), (.sl .nil 0 []), (.int .u32 0), (.int .i64 0), (.int .i64 0)], 0, 0⟩, ⟨some 3, none, .mv (.c (.sl .nil 0 [])), 0, 0⟩]) (.seq (.reg 5 [⟨some 9, none, .load true 14 (.t 1), 0, 0⟩, ⟨some 10, none, .call 20 [(.t 9)], 0, 0⟩, ⟨some 11,
  none, .build [(.int .u64 0), (.int .u16 0), (.int .i64 0), (.bool false), (.sl .nil 0 []), (.sl .nil 0 []), (.sl .nil 0 []), (.sl .nil 0 []), (.sl .nil 0 []), (.sl .nil 0 []), (.sl .nil 0 []), (.int .u32 0), (.int .i64 0), (.int .i64 0),
  (.sl .nil 0 [])] [(0, (14, (.t 10)))], 0, 0⟩, ⟨some 12, none, .box 3 (.t 11), 0, 0⟩, ⟨some 4, none, .mv (.t 12), 0, 0⟩]) (.seq (.reg 8 [⟨some 13, none, .mv (.t 4), 0, 0⟩, ⟨some 14, none, .load true 14 (.t 1), 0, 0⟩, ⟨some 15, none, .call
  156 [(.t 14)], 0, 0⟩, ⟨some 16, none, .bin .add (.t 15) (.c (.int .i64 1)), 0, 0⟩, ⟨some 17, none, .nilck (.t 13), 0, 0⟩, ⟨some 18, none, .fadr 0 (.t 17), 0, 0⟩, ⟨some 19, none, .fadr 2 (.t 18), 0, 0⟩, ⟨none, none, .store 1 (.t 19) (.t 16)
  none, 0, 0⟩]) (.seq (.reg 11 [⟨some 21, none, .mv (.t 4), 0, 0⟩, ⟨some 22, none, .nilck (.t 21), 0, 0⟩, ⟨some 23, none, .fadr 0 (.t 22), 0, 0⟩, ⟨some 24, none, .load true 14 (.t 23), 0, 0⟩, ⟨some 25, none, .call 157 [(.t 24)], 0, 0⟩, ⟨some
  20, none, .mv (.t 25), 0, 0⟩, ⟨some 26, none, .ext 0 (.t 20), 0, 0⟩, ⟨some 27, none, .ext 1 (.t 20), 0, 0⟩, ⟨some 5, none, .alloc 8 [(.int .u64 0), (.int .u16 0), (.int .i64 0), (.bool false), (.sl .nil 0 []), (.sl .nil 0 []), (.sl .nil 0
  []), (.sl .nil 0 []), (.sl .nil 0 []), (.sl .nil 0 []), (.sl .nil 0 []), (.int .u32 0), (.int .i64 0), (.int .i64 0)], 0, 0⟩, ⟨none, none, .store 14 (.t 5) (.t 26) none, 0, 0⟩, ⟨some 6, none, .mv (.t 27), 0, 0⟩]) (.seq (.reg 5 [⟨some 28,
  none, .mv (.t 4), 0, 0⟩, ⟨some 29, none, .load true 14 (.t 5), 0, 0⟩, ⟨some 30, none, .nilck (.t 28), 0, 0⟩, ⟨some 31, none, .fadr 0 (.t 30), 0, 0⟩, ⟨none, none, .store 14 (.t 31) (.t 29) none, 0, 0⟩]) (.seq (.seq (.reg 3 [⟨some 32, none,
  .mv (.t 6), 0, 0⟩, ⟨some 33, none, .len false (.t 32), 0, 0⟩, ⟨some 34, none, .mv (.c (.int .i64 0)), 0, 0⟩]) (.block 0 (.loop m63l0))) (.seq (.reg 9 [⟨some 49, none, .mv (.t 4), 0, 0⟩, ⟨some 50, none, .mv (.t 4), 0, 0⟩, ⟨some 51, none,
  .nilck (.t 50), 0, 0⟩, ⟨some 52, none, .fadr 0 (.t 51), 0, 0⟩, ⟨some 53, none, .load true 14 (.t 52), 0, 0⟩, ⟨some 54, none, .call 159 [(.t 53)], 0, 0⟩, ⟨some 55, none, .nilck (.t 49), 0, 0⟩, ⟨some 56, none, .fadr 0 (.t 55), 0, 0⟩, ⟨none,
  none, .store 14 (.t 56) (.t 54) none, 0, 0⟩]) (.seq (.seq (.reg 7 [⟨some 57, none, .mv (.t 4), 0, 0⟩, ⟨some 58, none, .nilck (.t 57), 0, 0⟩, ⟨some 59, none, .fadr 0 (.t 58), 0, 0⟩, ⟨some 60, none, .fadr 2 (.t 59), 0, 0⟩, ⟨some 61, none,
  .load false 1 (.t 60), 0, 0⟩, ⟨some 62, none, .bin .rem (.t 61) (.c (.int .i64 4)), 0, 0⟩, ⟨some 63, none, .bin .eql (.t 62) (.c (.int .i64 0)), 0, 0⟩]) (.cond (.t 63) (.reg 9 [⟨some 64, none, .mv (.t 4), 0, 0⟩, ⟨some 65, none, .mv (.t 4),
  0, 0⟩, ⟨some 66, none, .nilck (.t 65), 0, 0⟩, ⟨some 67, none, .fadr 0 (.t 66), 0, 0⟩, ⟨some 68, none, .load true 14 (.t 67), 0, 0⟩, ⟨some 69, none, .call 65 [(.t 68)], 0, 0⟩, ⟨some 70, none, .ext 0 (.t 69), 0, 0⟩, ⟨some 71, none, .ext 1
  (.t 69), 0, 0⟩, ⟨some 72, none, .call 158 [(.t 64), (.t 70), (.t 71)], 0, 0⟩]) .skip)) (.seq (.dreg 10 [⟨some 73, none, .mv (.t 4), 0, 0⟩, ⟨some 74, none, .nilck (.t 73), 0, 0⟩, ⟨some 75, none, .fadr 0 (.t 74), 0, 0⟩, ⟨some 76, none, .load
  true 14 (.t 75), 0, 0⟩, ⟨some 77, none, .mv (.t 4), 0, 0⟩, ⟨some 78, none, .nilck (.t 77), 0, 0⟩, ⟨some 79, none, .fadr 14 (.t 78), 0, 0⟩, ⟨some 80, none, .load false 1 (.t 79), 0, 1⟩, ⟨none, none, .store 14 (.t 2) (.t 76) none, 0, 0⟩,
  ⟨some 3, none, .mv (.t 80), 0, 0⟩]) .ret))))))))), [(.cell 2 true 14), (.tmp 3)]⟩

def m65 : MF :=
  ⟨53, (.seq (.reg 3 [⟨some 1, none, .box 0 (.t 0), 0, 0⟩, ⟨some 2, none, .alloc 1 [(.int .u64 0), (.int .u16 0), (.int .i64 0), (.bool false), (.sl .nil 0 []), (.sl .nil 0 []), (.sl .nil 0 []), (.sl .nil 0 []), (.sl .nil 0 []), (.sl .nil 0
  []), (.sl .nil 0 []), (.int .u32 0), (.int .i64 0), (.int .i64 0)], 0, 0⟩, ⟨some 3, none, .mv (.c (.sl .nil 0 [])), 0, 0⟩]) (.seq (.reg 5 [⟨some 5, none, .load true 14 (.t 1), 0, 0⟩, ⟨some 6, none, .call 20 [(.t 5)], 0, 0⟩, ⟨some 7, none,
  .build [(.int .u64 0), (.int .u16 0), (.int .i64 0), (.bool false), (.sl .nil 0 []), (.sl .nil 0 []), (.sl .nil 0 []), (.sl .nil 0 []), (.sl .nil 0 []), (.sl .nil 0 []), (.sl .nil 0 []), (.int .u32 0), (.int .i64 0), (.int .i64 0), (.sl
  .nil 0 [])] [(0, (14, (.t 6)))], 0, 0⟩, ⟨some 8, none, .box 3 (.t 7), 0, 0⟩, ⟨some 4, none, .mv (.t 8), 0, 0⟩]) (.seq (.seq (.reg 6 [⟨some 9, none, .mv (.t 4), 0, 0⟩, ⟨some 10, none, .nilck (.t 9), 0, 0⟩, ⟨some 11, none, .fadr 0 (.t 10),
  0, 0⟩, ⟨some 12, none, .fadr 3 (.t 11), 0, 0⟩, ⟨some 13, none, .load false 1 (.t 12), 0, 0⟩, ⟨some 14, none, .un .not (.t 13), 0, 0⟩]) (.cond (.t 14) (.seq (.reg 2 [⟨some 15, none, .mv (.t 4), 0, 0⟩, ⟨some 16, none, .call 163 [(.t 15)], 0,
  0⟩]) (.seq (.dreg 10 [⟨some 17, none, .mv (.t 4), 0, 0⟩, ⟨some 18, none, .nilck (.t 17), 0, 0⟩, ⟨some 19, none, .fadr 0 (.t 18), 0, 0⟩, ⟨some 20, none, .load true 14 (.t 19), 0, 0⟩, ⟨some 21, none, .mv (.t 4), 0, 0⟩, ⟨some 22, none, .nilck
  (.t 21), 0, 0⟩, ⟨some 23, none, .fadr 14 (.t 22), 0, 0⟩, ⟨some 24, none, .load false 1 (.t 23), 0, 1⟩, ⟨none, none, .store 14 (.t 2) (.t 20) none, 0, 0⟩, ⟨some 3, none, .mv (.t 24), 0, 0⟩]) .ret)) .skip)) (.seq (.reg 2 [⟨some 25, none, .mv
  (.t 4), 0, 0⟩, ⟨some 26, none, .call 164 [(.t 25)], 0, 0⟩]) (.seq (.reg 2 [⟨some 27, none, .mv (.t 4), 0, 0⟩, ⟨some 28, none, .call 165 [(.t 27)], 0, 0⟩]) (.seq (.seq (.reg 7 [⟨some 29, none, .mv (.t 4), 0, 0⟩, ⟨some 30, none, .nilck (.t
  29), 0, 0⟩, ⟨some 31, none, .fadr 0 (.t 30), 0, 0⟩, ⟨some 32, none, .fadr 2 (.t 31), 0, 0⟩, ⟨some 33, none, .load false 1 (.t 32), 0, 0⟩, ⟨some 34, none, .bin .rem (.t 33) (.c (.int .i64 16)), 0, 0⟩, ⟨some 35, none, .bin .eql (.t 34) (.c
  (.int .i64 0)), 0, 0⟩]) (.cond (.t 35) (.reg 9 [⟨some 36, none, .mv (.t 4), 0, 0⟩, ⟨some 37, none, .mv (.t 4), 0, 0⟩, ⟨some 38, none, .nilck (.t 37), 0, 0⟩, ⟨some 39, none, .fadr 0 (.t 38), 0, 0⟩, ⟨some 40, none, .load true 14 (.t 39), 0,
  0⟩, ⟨some 41, none, .call 67 [(.t 40)], 0, 0⟩, ⟨some 42, none, .ext 0 (.t 41), 0, 0⟩, ⟨some 43, none, .ext 1 (.t 41), 0, 0⟩, ⟨some 44, none, .call 158 [(.t 36), (.t 42), (.t 43)], 0, 0⟩]) .skip)) (.seq (.dreg 10 [⟨some 45, none, .mv (.t
  4), 0, 0⟩, ⟨some 46, none, .nilck (.t 45), 0, 0⟩, ⟨some 47, none, .fadr 0 (.t 46), 0, 0⟩, ⟨some 48, none, .load true 14 (.t 47), 0, 0⟩, ⟨some 49, none, .mv (.t 4), 0, 0⟩, ⟨some 50, none, .nilck (.t 49), 0, 0⟩, ⟨some 51, none, .fadr 14 (.t
  50), 0, 0⟩, ⟨some 52, none, .load false 1 (.t 51), 0, 1⟩, ⟨none, none, .store 14 (.t 2) (.t 48) none, 0, 0⟩, ⟨some 3, none, .mv (.t 52), 0, 0⟩]) .ret))))))), [(.cell 2 true 14), (.tmp 3)]⟩

def m67l0 : MC :=
  (.seq (.reg 1 [⟨some 28, none, .bin .lss (.t 27) (.t 26), 0, 0⟩]) (.seq (.cond (.t 28) .skip (.exit 0)) (.seq (.block 1 (.seq (.reg 4 [⟨some 29, none, .iadr 2 (.t 25) (.t 27), 0, 0⟩, ⟨some 30, none, .load true 2 (.t 29), 0, 0⟩, ⟨some 8,
  none, .alloc 2 [(.int .u64 0), (.int .u16 0)], 0, 0⟩, ⟨none, none, .store 2 (.t 8) (.t 30) none, 0, 0⟩]) (.dreg 11 [⟨some 31, none, .mv (.t 4), 0, 0⟩, ⟨some 32, none, .mv (.t 4), 0, 0⟩, ⟨some 33, none, .nilck (.t 32), 0, 0⟩, ⟨some 34,
  none, .fadr 0 (.t 33), 0, 0⟩, ⟨some 35, none, .load true 14 (.t 34), 0, 0⟩, ⟨some 36, none, .load true 2 (.t 8), 0, 0⟩, ⟨some 37, none, .mv (.t 5), 0, 0⟩, ⟨some 38, none, .call 28 [(.t 35), (.t 36), (.t 37), (.c (.bool false))], 0, 0⟩,
  ⟨some 39, none, .ext 0 (.t 38), 0, 0⟩, ⟨some 40, none, .ext 1 (.t 38), 0, 0⟩, ⟨some 41, none, .call 158 [(.t 31), (.t 39), (.t 40)], 0, 0⟩]))) (.reg 2 [⟨some 42, none, .bin .add (.t 27) (.c (.int .i64 1)), 0, 0⟩, ⟨some 27, none, .mv (.t
  42), 0, 0⟩]))))

def m67 : MF :=
  ⟨51, (.seq (.reg 3 [⟨some 1, none, .box 0 (.t 0), 0, 0⟩, ⟨some 2, none, .alloc 1 [(.int .u64 0), (.int .u16 0), (.int .i64 0), (.bool false), (.sl .nil 0 []), (.sl .nil 0 []), (.sl .nil 0 []), (.sl .nil 0 []), (.sl .nil 0 []), (.sl .nil 0
  []), (.sl .nil 0 []), (.int .u32 0), (.int .i64 0), (.int .i64 0)], 0, 0⟩, ⟨some 3, none, .mv (.c (.sl .nil 0 [])), 0, 0⟩]) (.seq (.reg 5 [⟨some 9, none, .load true 14 (.t 1), 0, 0⟩, ⟨some 10, none, .call 20 [(.t 9)], 0, 0⟩, ⟨some 11,
  none, .build [(.int .u64 0), (.int .u16 0), (.int .i64 0), (.bool false), (.sl .nil 0 []), (.sl .nil 0 []), (.sl .nil 0 []), (.sl .nil 0 []), (.sl .nil 0 []), (.sl .nil 0 []), (.sl .nil 0 []), (.int .u32 0), (.int .i64 0), (.int .i64 0),
  (.sl .nil 0 [])] [(0, (14, (.t 10)))], 0, 0⟩, ⟨some 12, none, .box 3 (.t 11), 0, 0⟩, ⟨some 4, none, .mv (.t 12), 0, 0⟩]) (.seq (.reg 6 [⟨some 13, none, .fadr 7 (.t 1), 0, 0⟩, ⟨some 14, none, .load false 1 (.t 13), 0, 0⟩, ⟨some 15, none,
  .call 71 [(.t 14)], 0, 0⟩, ⟨some 16, none, .mkFn 169 [(.t 1)], 0, 0⟩, ⟨some 17, none, .call 168 [(.t 15), (.t 16)], 0, 0⟩, ⟨some 5, none, .mv (.t 17), 0, 0⟩]) (.seq (.reg 4 [⟨some 18, none, .fadr 5 (.t 1), 0, 0⟩, ⟨some 19, none, .load
  false 1 (.t 18), 0, 0⟩, ⟨some 20, none, .call 97 [(.t 19)], 0, 0⟩, ⟨some 6, none, .mv (.t 20), 0, 0⟩]) (.seq (.seq (.reg 7 [⟨some 21, none, .mv (.t 6), 0, 0⟩, ⟨some 22, none, .mv (.t 6), 0, 0⟩, ⟨some 23, none, .len false (.t 22), 0, 0⟩,
  ⟨some 24, none, .mnmx false [(.t 23), (.c (.int .i64 2))], 0, 0⟩, ⟨some 25, none, .slice 4 2 (.t 21) none (some (.t 24)) none, 0, 0⟩, ⟨some 26, none, .len false (.t 25), 0, 0⟩, ⟨some 27, none, .mv (.c (.int .i64 0)), 0, 0⟩]) (.block 0
  (.loop m67l0))) (.seq (.dreg 10 [⟨some 43, none, .mv (.t 4), 0, 0⟩, ⟨some 44, none, .nilck (.t 43), 0, 0⟩, ⟨some 45, none, .fadr 0 (.t 44), 0, 0⟩, ⟨some 46, none, .load true 14 (.t 45), 0, 0⟩, ⟨some 47, none, .mv (.t 4), 0, 0⟩, ⟨some 48,
  none, .nilck (.t 47), 0, 0⟩, ⟨some 49, none, .fadr 14 (.t 48), 0, 0⟩, ⟨some 50, none, .load false 1 (.t 49), 0, 1⟩, ⟨none, none, .store 14 (.t 2) (.t 46) none, 0, 0⟩, ⟨some 3, none, .mv (.t 50), 0, 0⟩]) .ret)))))), [(.cell 2 true 14),
  (.tmp 3)]⟩

def m37 : MF :=
  ⟨40, (.seq (.reg 4 [⟨some 2, none, .box 0 (.t 0), 0, 0⟩, ⟨some 4, none, .alloc 1 [(.int .u64 0), (.int .u16 0), (.int .i64 0), (.bool false), (.sl .nil 0 []), (.sl .nil 0 []), (.sl .nil 0 []), (.sl .nil 0 []), (.sl .nil 0 []), (.sl .nil 0
  []), (.sl .nil 0 []), (.int .u32 0), (.int .i64 0), (.int .i64 0)], 0, 0⟩, ⟨some 5, none, .mv (.c (.sl .nil 0 [])), 0, 0⟩, ⟨some 6, none, .mv (.c (.int .i64 0)), 0, 0⟩]) (.seq (.reg 1 [⟨some 7, none, .mv (.c (.int .i64 0)), 0, 0⟩]) (.seq
  (.block 0 (.seq (.reg 7 [⟨some 9, none, .mv (.t 1), 0, 0⟩, ⟨some 10, none, .bin .lss (.t 9) (.c (.int .i64 0)), 0, 0⟩, ⟨some 11, none, .mv (.t 10), 0, 0⟩, ⟨some 12, some (11, false), .mv (.t 1), 0, 0⟩, ⟨some 13, some (11, false), .bin .gtr
  (.t 12) (.c (.int .i64 63)), 0, 0⟩, ⟨some 14, none, .pick (.t 11) (.c (.bool true)) (.t 13), 0, 0⟩, ⟨some 8, none, .mv (.t 14), 0, 0⟩]) (.cond (.t 8) (.reg 1 [⟨some 7, none, .mv (.c (.int .i64 1)), 0, 0⟩]) (.seq (.reg 4 [⟨some 16, none,
  .fadr 3 (.t 2), 0, 0⟩, ⟨some 17, none, .load false 1 (.t 16), 0, 0⟩, ⟨some 18, none, .un .not (.t 17), 0, 0⟩, ⟨some 15, none, .mv (.t 18), 0, 0⟩]) (.cond (.t 15) (.reg 1 [⟨some 7, none, .mv (.c (.int .i64 14)), 0, 0⟩]) (.seq (.reg 4 [⟨some
  20, none, .fadr 9 (.t 2), 0, 0⟩, ⟨some 21, none, .load false 1 (.t 20), 0, 0⟩, ⟨some 22, none, .call 112 [(.t 21), (.c (.int .i64 4))], 0, 0⟩, ⟨some 19, none, .mv (.t 22), 0, 0⟩]) (.cond (.t 19) (.reg 1 [⟨some 7, none, .mv (.c (.int .i64
  17)), 0, 0⟩]) .skip))))))) (.seq (.seq (.reg 2 [⟨some 23, none, .mv (.t 7), 0, 0⟩, ⟨some 24, none, .bin .neq (.t 23) (.c (.int .i64 0)), 0, 0⟩]) (.cond (.t 24) (.seq (.reg 6 [⟨some 25, none, .load true 14 (.t 2), 0, 0⟩, ⟨some 26, none,
  .call 20 [(.t 25)], 0, 0⟩, ⟨some 27, none, .mv (.t 7), 0, 0⟩, ⟨none, none, .store 14 (.t 4) (.t 26) none, 0, 0⟩, ⟨some 5, none, .mv (.c (.sl .nil 0 [])), 0, 0⟩, ⟨some 6, none, .mv (.t 27), 0, 0⟩]) .ret) .skip)) (.seq (.dreg 15 [⟨some 28,
  none, .load true 14 (.t 2), 0, 1⟩, ⟨some 29, none, .mv (.t 1), 0, 0⟩, ⟨some 30, none, .fadr 0 (.t 2), 0, 0⟩, ⟨some 31, none, .fadr 0 (.t 30), 0, 0⟩, ⟨some 32, none, .load false 1 (.t 31), 0, 0⟩, ⟨some 33, none, .mv (.t 1), 0, 0⟩, ⟨some 34,
  none, .call 114 [(.t 32), (.t 33)], 0, 0⟩, ⟨some 35, none, .build [(.int .i64 0), (.int .i64 0), (.int .i64 0), (.str (bs [])), (.str (bs [])), (.int .u64 0), (.int .u64 0), (.int .u16 0), (.int .u64 0), (.int .u16 0), (.bool false), (.int
  .i64 0), (.int .i64 0), (.int .i64 0)] [(1, (1, (.c (.int .i64 4)))), (2, (1, (.t 29))), (5, (1, (.t 34)))], 0, 0⟩, ⟨some 36, none, .call 108 [(.t 28), (.t 35)], 0, 0⟩, ⟨some 37, none, .ext 0 (.t 36), 0, 0⟩, ⟨some 38, none, .ext 1 (.t 36),
  0, 0⟩, ⟨some 39, none, .ext 2 (.t 36), 0, 0⟩, ⟨none, none, .store 14 (.t 4) (.t 37) none, 0, 0⟩, ⟨some 5, none, .mv (.t 38), 0, 0⟩, ⟨some 6, none, .mv (.t 39), 0, 0⟩]) .ret))))), [(.cell 4 true 14), (.tmp 5), (.tmp 6)]⟩

def m108 : MF :=
  ⟨29, (.seq (.reg 5 [⟨some 2, none, .box 0 (.t 0), 0, 0⟩, ⟨some 3, none, .box 1 (.t 1), 0, 0⟩, ⟨some 4, none, .alloc 2 [(.int .u64 0), (.int .u16 0), (.int .i64 0), (.bool false), (.sl .nil 0 []), (.sl .nil 0 []), (.sl .nil 0 []), (.sl .nil 0
  []), (.sl .nil 0 []), (.sl .nil 0 []), (.sl .nil 0 []), (.int .u32 0), (.int .i64 0), (.int .i64 0)], 0, 0⟩, ⟨some 5, none, .mv (.c (.sl .nil 0 [])), 0, 0⟩, ⟨some 6, none, .mv (.c (.int .i64 0)), 0, 0⟩]) (.seq (.reg 10 [⟨some 11, none,
  .load true 14 (.t 2), 0, 0⟩, ⟨some 12, none, .load true 14 (.t 3), 0, 0⟩, ⟨some 13, none, .call 200 [(.t 11), (.t 12)], 0, 0⟩, ⟨some 10, none, .mv (.t 13), 0, 0⟩, ⟨some 14, none, .ext 0 (.t 10), 0, 0⟩, ⟨some 15, none, .ext 1 (.t 10), 0,
  0⟩, ⟨some 16, none, .ext 2 (.t 10), 0, 0⟩, ⟨none, none, .store 14 (.t 2) (.t 14) none, 0, 0⟩, ⟨some 7, none, .mv (.t 15), 0, 0⟩, ⟨some 8, none, .mv (.t 16), 0, 0⟩]) (.seq (.seq (.reg 2 [⟨some 17, none, .mv (.t 8), 0, 0⟩, ⟨some 18, none,
  .bin .neq (.t 17) (.c (.int .i64 0)), 0, 0⟩]) (.cond (.t 18) (.seq (.reg 5 [⟨some 19, none, .load true 14 (.t 2), 0, 0⟩, ⟨some 20, none, .mv (.t 8), 0, 0⟩, ⟨none, none, .store 14 (.t 4) (.t 19) none, 0, 0⟩, ⟨some 5, none, .mv (.c (.sl .nil
  0 [])), 0, 0⟩, ⟨some 6, none, .mv (.t 20), 0, 0⟩]) .ret) .skip)) (.seq (.reg 8 [⟨some 22, none, .load true 14 (.t 2), 0, 0⟩, ⟨some 23, none, .mv (.t 7), 0, 0⟩, ⟨some 24, none, .call 55 [(.t 22), (.t 23)], 0, 0⟩, ⟨some 21, none, .mv (.t
  24), 0, 0⟩, ⟨some 25, none, .ext 0 (.t 21), 0, 0⟩, ⟨some 26, none, .ext 1 (.t 21), 0, 0⟩, ⟨none, none, .store 14 (.t 2) (.t 25) none, 0, 0⟩, ⟨some 9, none, .mv (.t 26), 0, 0⟩]) (.seq (.reg 5 [⟨some 27, none, .load true 14 (.t 2), 0, 0⟩,
  ⟨some 28, none, .mv (.t 9), 0, 0⟩, ⟨none, none, .store 14 (.t 4) (.t 27) none, 0, 0⟩, ⟨some 5, none, .mv (.t 28), 0, 0⟩, ⟨some 6, none, .mv (.c (.int .i64 0)), 0, 0⟩]) .ret))))), [(.cell 4 true 14), (.tmp 5), (.tmp 6)]⟩

def m200 : MF :=
  ⟨43, (.seq (.reg 5 [⟨some 2, none, .box 0 (.t 0), 0, 0⟩, ⟨some 3, none, .box 1 (.t 1), 0, 0⟩, ⟨some 4, none, .alloc 2 [(.int .u64 0), (.int .u16 0), (.int .i64 0), (.bool false), (.sl .nil 0 []), (.sl .nil 0 []), (.sl .nil 0 []), (.sl .nil 0
  []), (.sl .nil 0 []), (.sl .nil 0 []), (.sl .nil 0 []), (.int .u32 0), (.int .i64 0), (.int .i64 0)], 0, 0⟩, ⟨some 5, none, .mv (.c (.int .i64 0)), 0, 0⟩, ⟨some 6, none, .mv (.c (.int .i64 0)), 0, 0⟩]) (.seq (.reg 3 [⟨some 7, none, .load
  true 14 (.t 2), 0, 0⟩, ⟨some 8, none, .call 20 [(.t 7)], 0, 0⟩, ⟨none, none, .store 14 (.t 2) (.t 8) none, 0, 0⟩]) (.seq (.seq (.reg 4 [⟨some 9, none, .fadr 9 (.t 2), 0, 0⟩, ⟨some 10, none, .load false 1 (.t 9), 0, 0⟩, ⟨some 11, none, .len
  false (.t 10), 0, 0⟩, ⟨some 12, none, .bin .geq (.t 11) (.c (.int .i64 8)), 0, 0⟩]) (.cond (.t 12) (.seq (.reg 4 [⟨some 13, none, .load true 14 (.t 2), 0, 0⟩, ⟨none, none, .store 14 (.t 4) (.t 13) none, 0, 0⟩, ⟨some 5, none, .mv (.c (.int
  .i64 0)), 0, 0⟩, ⟨some 6, none, .mv (.c (.int .i64 10)), 0, 0⟩]) .ret) .skip)) (.seq (.seq (.reg 8 [⟨some 14, none, .fadr 12 (.t 2), 0, 0⟩, ⟨some 15, none, .load false 1 (.t 14), 0, 0⟩, ⟨some 16, none, .bin .lss (.t 15) (.c (.int .i64 0)),
  0, 0⟩, ⟨some 17, none, .mv (.t 16), 0, 0⟩, ⟨some 18, some (17, false), .fadr 12 (.t 2), 0, 0⟩, ⟨some 19, some (17, false), .load false 1 (.t 18), 0, 0⟩, ⟨some 20, some (17, false), .bin .geq (.t 19) (.c (.int .i64 1073741824)), 0, 0⟩,
  ⟨some 21, none, .pick (.t 17) (.c (.bool true)) (.t 20), 0, 0⟩]) (.cond (.t 21) (.reg 2 [⟨some 22, none, .fadr 12 (.t 2), 0, 0⟩, ⟨none, none, .store 1 (.t 22) (.c (.int .i64 0)) none, 0, 0⟩]) .skip)) (.seq (.reg 5 [⟨some 23, none, .fadr 12
  (.t 2), 0, 0⟩, ⟨some 24, none, .load false 1 (.t 23), 0, 0⟩, ⟨some 25, none, .bin .add (.t 24) (.c (.int .i64 1)), 0, 0⟩, ⟨some 26, none, .fadr 12 (.t 2), 0, 0⟩, ⟨none, none, .store 1 (.t 26) (.t 25) none, 0, 0⟩]) (.seq (.dreg 9 [⟨some 27,
  none, .fadr 12 (.t 2), 0, 0⟩, ⟨some 28, none, .load false 1 (.t 27), 0, 1⟩, ⟨some 29, none, .load true 14 (.t 2), 0, 0⟩, ⟨some 30, none, .call 156 [(.t 29)], 0, 0⟩, ⟨some 31, none, .bin .add (.t 30) (.c (.int .i64 200)), 0, 0⟩, ⟨some 32,
  none, .fadr 0 (.t 3), 0, 0⟩, ⟨none, none, .store 1 (.t 32) (.t 28) none, 0, 0⟩, ⟨some 33, none, .fadr 13 (.t 3), 0, 0⟩, ⟨none, none, .store 1 (.t 33) (.t 31) none, 0, 0⟩]) (.seq (.reg 7 [⟨some 34, none, .fadr 9 (.t 2), 0, 0⟩, ⟨some 35,
  none, .load false 1 (.t 34), 0, 0⟩, ⟨some 36, none, .load true 14 (.t 3), 0, 0⟩, ⟨some 37, none, .mkSl 3 14 [(.t 36)], 0, 0⟩, ⟨some 38, none, .append 4 14 1099511627776 (.t 35) (.t 37), 0, 0⟩, ⟨some 39, none, .fadr 9 (.t 2), 0, 0⟩, ⟨none,
  none, .store 1 (.t 39) (.t 38) none, 0, 0⟩]) (.seq (.dreg 6 [⟨some 40, none, .load true 14 (.t 2), 0, 0⟩, ⟨some 41, none, .fadr 0 (.t 3), 0, 0⟩, ⟨some 42, none, .load false 1 (.t 41), 0, 1⟩, ⟨none, none, .store 14 (.t 4) (.t 40) none, 0,
  0⟩, ⟨some 5, none, .mv (.t 42), 0, 0⟩, ⟨some 6, none, .mv (.c (.int .i64 0)), 0, 0⟩]) .ret)))))))), [(.cell 4 true 14), (.tmp 5), (.tmp 6)]⟩

def m55 : MF :=
  ⟨21, (.seq (.reg 3 [⟨some 2, none, .box 0 (.t 0), 0, 0⟩, ⟨some 4, none, .alloc 1 [(.int .u64 0), (.int .u16 0), (.int .i64 0), (.bool false), (.sl .nil 0 []), (.sl .nil 0 []), (.sl .nil 0 []), (.sl .nil 0 []), (.sl .nil 0 []), (.sl .nil 0
  []), (.sl .nil 0 []), (.int .u32 0), (.int .i64 0), (.int .i64 0)], 0, 0⟩, ⟨some 5, none, .mv (.c (.sl .nil 0 [])), 0, 0⟩]) (.seq (.reg 8 [⟨some 9, none, .load true 14 (.t 2), 0, 0⟩, ⟨some 10, none, .mv (.t 1), 0, 0⟩, ⟨some 11, none, .call
  116 [(.t 9), (.t 10)], 0, 0⟩, ⟨some 8, none, .mv (.t 11), 0, 0⟩, ⟨some 12, none, .ext 0 (.t 8), 0, 0⟩, ⟨some 13, none, .ext 1 (.t 8), 0, 0⟩, ⟨some 6, none, .mv (.t 12), 0, 0⟩, ⟨some 7, none, .mv (.t 13), 0, 0⟩]) (.seq (.seq (.reg 1 [⟨some
  14, none, .mv (.t 7), 0, 0⟩]) (.cond (.t 14) (.reg 2 [⟨some 15, none, .mv (.t 6), 0, 0⟩, ⟨some 16, none, .call 144 [(.t 15)], 0, 0⟩]) .skip)) (.seq (.reg 6 [⟨some 17, none, .mv (.t 6), 0, 0⟩, ⟨some 18, none, .call 118 [(.t 17)], 0, 0⟩,
  ⟨some 19, none, .ext 0 (.t 18), 0, 0⟩, ⟨some 20, none, .ext 1 (.t 18), 0, 0⟩, ⟨none, none, .store 14 (.t 4) (.t 19) none, 0, 0⟩, ⟨some 5, none, .mv (.t 20), 0, 0⟩]) .ret)))), [(.cell 4 true 14), (.tmp 5)]⟩

def m116 : MF :=
  ⟨58, (.seq (.reg 3 [⟨some 2, none, .box 0 (.t 0), 0, 0⟩, ⟨some 4, none, .mv (.c .nilp), 0, 0⟩, ⟨some 5, none, .mv (.c (.bool false)), 0, 0⟩]) (.seq (.reg 5 [⟨some 8, none, .load true 14 (.t 2), 0, 0⟩, ⟨some 9, none, .call 20 [(.t 8)], 0, 0⟩,
  ⟨some 10, none, .build [(.int .u64 0), (.int .u16 0), (.int .i64 0), (.bool false), (.sl .nil 0 []), (.sl .nil 0 []), (.sl .nil 0 []), (.sl .nil 0 []), (.sl .nil 0 []), (.sl .nil 0 []), (.sl .nil 0 []), (.int .u32 0), (.int .i64 0), (.int
  .i64 0), (.int .i64 0), (.int .i64 0), (.int .i64 0), (.str (bs [])), (.str (bs [])), (.int .u64 0), (.int .u64 0), (.int .u16 0), (.int .u64 0), (.int .u16 0), (.bool false), (.int .i64 0), (.int .i64 0), (.int .i64 0), (.sl .nil 0 [])]
  [(0, (14, (.t 9)))], 0, 0⟩, ⟨some 11, none, .box 3 (.t 10), 0, 0⟩, ⟨some 6, none, .mv (.t 11), 0, 0⟩]) (.seq (.reg 8 [⟨some 12, none, .mv (.t 6), 0, 0⟩, ⟨some 13, none, .nilck (.t 12), 0, 0⟩, ⟨some 14, none, .fadr 0 (.t 13), 0, 0⟩, ⟨some
  15, none, .fadr 9 (.t 14), 0, 0⟩, ⟨some 16, none, .load false 1 (.t 15), 0, 0⟩, ⟨some 17, none, .mv (.t 1), 0, 0⟩, ⟨some 18, none, .call 208 [(.t 16), (.t 17)], 0, 0⟩, ⟨some 7, none, .mv (.t 18), 0, 0⟩]) (.seq (.seq (.reg 26 [⟨some 19,
  none, .mv (.t 7), 0, 0⟩, ⟨some 20, none, .bin .lss (.t 19) (.c (.int .i64 0)), 0, 0⟩, ⟨some 21, none, .mv (.t 20), 0, 0⟩, ⟨some 22, some (21, false), .mv (.t 6), 0, 0⟩, ⟨some 23, some (21, false), .nilck (.t 22), 0, 0⟩, ⟨some 24, some (21,
  false), .fadr 0 (.t 23), 0, 0⟩, ⟨some 25, some (21, false), .fadr 9 (.t 24), 0, 0⟩, ⟨some 26, some (21, false), .load false 1 (.t 25), 0, 0⟩, ⟨some 27, some (21, false), .mv (.t 7), 0, 0⟩, ⟨some 28, some (21, false), .iadr 14 (.t 26) (.t
  27), 0, 0⟩, ⟨some 29, some (21, false), .fadr 1 (.t 28), 0, 0⟩, ⟨some 30, some (21, false), .load false 1 (.t 29), 0, 0⟩, ⟨some 31, some (21, false), .bin .lss (.t 30) (.c (.int .i64 1)), 0, 0⟩, ⟨some 32, none, .pick (.t 21) (.c (.bool
  true)) (.t 31), 0, 0⟩, ⟨some 33, none, .mv (.t 32), 0, 0⟩, ⟨some 34, some (33, false), .mv (.t 6), 0, 0⟩, ⟨some 35, some (33, false), .nilck (.t 34), 0, 0⟩, ⟨some 36, some (33, false), .fadr 0 (.t 35), 0, 0⟩, ⟨some 37, some (33, false),
  .fadr 9 (.t 36), 0, 0⟩, ⟨some 38, some (33, false), .load false 1 (.t 37), 0, 0⟩, ⟨some 39, some (33, false), .mv (.t 7), 0, 0⟩, ⟨some 40, some (33, false), .iadr 14 (.t 38) (.t 39), 0, 0⟩, ⟨some 41, some (33, false), .fadr 1 (.t 40), 0,
  0⟩, ⟨some 42, some (33, false), .load false 1 (.t 41), 0, 0⟩, ⟨some 43, some (33, false), .bin .gtr (.t 42) (.c (.int .i64 4)), 0, 0⟩, ⟨some 44, none, .pick (.t 33) (.c (.bool true)) (.t 43), 0, 0⟩]) (.cond (.t 44) (.seq (.reg 3 [⟨some 45,
  none, .mv (.t 6), 0, 0⟩, ⟨some 4, none, .mv (.t 45), 0, 0⟩, ⟨some 5, none, .mv (.c (.bool false)), 0, 0⟩]) .ret) .skip)) (.seq (.reg 12 [⟨some 46, none, .mv (.t 6), 0, 0⟩, ⟨some 47, none, .mv (.t 6), 0, 0⟩, ⟨some 48, none, .nilck (.t 47),
  0, 0⟩, ⟨some 49, none, .fadr 0 (.t 48), 0, 0⟩, ⟨some 50, none, .fadr 9 (.t 49), 0, 0⟩, ⟨some 51, none, .load false 1 (.t 50), 0, 0⟩, ⟨some 52, none, .mv (.t 7), 0, 0⟩, ⟨some 53, none, .iadr 14 (.t 51) (.t 52), 0, 0⟩, ⟨some 54, none, .load
  true 14 (.t 53), 0, 0⟩, ⟨some 55, none, .nilck (.t 46), 0, 0⟩, ⟨some 56, none, .fadr 14 (.t 55), 0, 0⟩, ⟨none, none, .store 14 (.t 56) (.t 54) none, 0, 0⟩]) (.seq (.reg 3 [⟨some 57, none, .mv (.t 6), 0, 0⟩, ⟨some 4, none, .mv (.t 57), 0,
  0⟩, ⟨some 5, none, .mv (.c (.bool true)), 0, 0⟩]) .ret)))))), [(.tmp 4), (.tmp 5)]⟩

def m208 : MF :=
  ⟨8, (.seq (.reg 2 [⟨some 3, none, .box 0 (.t 1), 0, 0⟩, ⟨some 4, none, .mv (.c (.int .i64 0)), 0, 0⟩]) (.seq (.reg 4 [⟨some 5, none, .mv (.t 0), 0, 0⟩, ⟨some 6, none, .mkFn 262 [(.t 3)], 0, 0⟩, ⟨some 7, none, .call 261 [(.t 5), (.t 6)], 0,
  0⟩, ⟨some 4, none, .mv (.t 7), 0, 0⟩]) .ret)), [(.tmp 4)]⟩

def m262 : MF :=
  ⟨8, (.seq (.reg 2 [⟨some 2, none, .box 0 (.t 0), 0, 0⟩, ⟨some 3, none, .mv (.c (.bool false)), 0, 0⟩]) (.seq (.reg 5 [⟨some 4, none, .fadr 0 (.t 2), 0, 0⟩, ⟨some 5, none, .load false 1 (.t 4), 0, 0⟩, ⟨some 6, none, .load false 1 (.t 1), 0,
  0⟩, ⟨some 7, none, .bin .eql (.t 5) (.t 6), 0, 0⟩, ⟨some 3, none, .mv (.t 7), 0, 0⟩]) .ret)), [(.tmp 3)]⟩

def m144 : MF :=
  ⟨55, (.seq (.reg 10 [⟨some 5, none, .mv (.t 0), 0, 0⟩, ⟨some 6, none, .mv (.t 0), 0, 0⟩, ⟨some 7, none, .nilck (.t 5), 0, 0⟩, ⟨some 8, none, .fadr 14 (.t 7), 0, 0⟩, ⟨some 9, none, .fadr 10 (.t 8), 0, 0⟩, ⟨none, none, .store 1 (.t 9) (.c
  (.bool false)) none, 0, 0⟩, ⟨some 10, none, .nilck (.t 6), 0, 0⟩, ⟨some 11, none, .fadr 14 (.t 10), 0, 0⟩, ⟨some 12, none, .fadr 11 (.t 11), 0, 0⟩, ⟨none, none, .store 1 (.t 12) (.c (.int .i64 0)) none, 0, 0⟩]) (.seq (.seq (.reg 6 [⟨some
  13, none, .mv (.t 0), 0, 0⟩, ⟨some 14, none, .nilck (.t 13), 0, 0⟩, ⟨some 15, none, .fadr 14 (.t 14), 0, 0⟩, ⟨some 16, none, .fadr 1 (.t 15), 0, 0⟩, ⟨some 17, none, .load false 1 (.t 16), 0, 0⟩, ⟨some 18, none, .bin .eql (.t 17) (.c (.int
  .i64 1)), 0, 0⟩]) (.cond (.t 18) (.seq (.reg 7 [⟨some 19, none, .mv (.t 0), 0, 0⟩, ⟨some 20, none, .mv (.t 0), 0, 0⟩, ⟨some 21, none, .nilck (.t 20), 0, 0⟩, ⟨some 22, none, .fadr 14 (.t 21), 0, 0⟩, ⟨some 23, none, .fadr 6 (.t 22), 0, 0⟩,
  ⟨some 24, none, .load true 2 (.t 23), 0, 0⟩, ⟨some 25, none, .call 228 [(.t 19), (.t 24)], 0, 0⟩]) .ret) .skip)) (.seq (.dreg 18 [⟨some 27, none, .mv (.t 0), 0, 0⟩, ⟨some 28, none, .nilck (.t 27), 0, 0⟩, ⟨some 29, none, .fadr 0 (.t 28), 0,
  0⟩, ⟨some 30, none, .load true 14 (.t 29), 0, 0⟩, ⟨some 31, none, .mv (.t 0), 0, 0⟩, ⟨some 32, none, .nilck (.t 31), 0, 0⟩, ⟨some 33, none, .fadr 14 (.t 32), 0, 0⟩, ⟨some 34, none, .fadr 5 (.t 33), 0, 0⟩, ⟨some 35, none, .load false 1 (.t
  34), 0, 0⟩, ⟨some 36, none, .call 174 [(.t 30), (.t 35)], 0, 0⟩, ⟨some 26, none, .mv (.t 36), 0, 0⟩, ⟨some 37, none, .ext 0 (.t 26), 0, 0⟩, ⟨some 38, none, .ext 1 (.t 26), 0, 0⟩, ⟨some 39, none, .ext 2 (.t 26), 0, 0⟩, ⟨some 2, none, .alloc
  14 [(.int .u64 0), (.int .u16 0)], 0, 0⟩, ⟨none, none, .store 2 (.t 2) (.t 37) none, 0, 0⟩, ⟨some 3, none, .mv (.t 38), 0, 0⟩, ⟨some 4, none, .mv (.t 39), 0, 0⟩]) (.seq (.seq (.reg 1 [⟨some 40, none, .mv (.t 4), 0, 0⟩]) (.cond (.t 40)
  (.seq (.reg 2 [⟨some 41, none, .mv (.t 0), 0, 0⟩, ⟨some 42, none, .call 209 [(.t 41)], 0, 0⟩]) (.seq (.reg 3 [⟨some 43, none, .mv (.t 0), 0, 0⟩, ⟨some 44, none, .load true 2 (.t 2), 0, 0⟩, ⟨some 45, none, .call 147 [(.t 43), (.t 44)], 0,
  0⟩]) .ret)) .skip)) (.seq (.reg 5 [⟨some 46, none, .mv (.t 0), 0, 0⟩, ⟨some 47, none, .nilck (.t 46), 0, 0⟩, ⟨some 48, none, .fadr 14 (.t 47), 0, 0⟩, ⟨some 49, none, .fadr 11 (.t 48), 0, 0⟩, ⟨none, none, .store 1 (.t 49) (.c (.int .i64 1))
  none, 0, 0⟩]) (.reg 5 [⟨some 50, none, .mv (.t 0), 0, 0⟩, ⟨some 51, none, .mv (.t 3), 0, 0⟩, ⟨some 52, none, .iadr 2 (.t 51) (.c (.int .i64 0)), 0, 0⟩, ⟨some 53, none, .load true 2 (.t 52), 0, 0⟩, ⟨some 54, none, .call 228 [(.t 50), (.t
  53)], 0, 0⟩])))))), []⟩

def m174 : MF :=
  ⟨56, (.seq (.reg 4 [⟨some 2, none, .box 0 (.t 0), 0, 0⟩, ⟨some 4, none, .alloc 1 [(.int .u64 0), (.int .u16 0)], 0, 0⟩, ⟨some 5, none, .mv (.c (.sl .nil 0 [])), 0, 0⟩, ⟨some 6, none, .mv (.c (.bool false)), 0, 0⟩]) (.seq (.reg 4 [⟨some 9,
  none, .fadr 5 (.t 2), 0, 0⟩, ⟨some 10, none, .load false 1 (.t 9), 0, 0⟩, ⟨some 11, none, .call 97 [(.t 10)], 0, 0⟩, ⟨some 7, none, .mv (.t 11), 0, 0⟩]) (.seq (.seq (.reg 10 [⟨some 12, none, .mv (.t 7), 0, 0⟩, ⟨some 13, none, .len false
  (.t 12), 0, 0⟩, ⟨some 14, none, .bin .eql (.t 13) (.c (.int .i64 0)), 0, 0⟩, ⟨some 15, none, .mv (.t 14), 0, 0⟩, ⟨some 16, some (15, false), .mv (.t 1), 0, 0⟩, ⟨some 17, some (15, false), .fadr 0 (.t 2), 0, 0⟩, ⟨some 18, some (15, false),
  .fadr 0 (.t 17), 0, 0⟩, ⟨some 19, some (15, false), .load false 1 (.t 18), 0, 0⟩, ⟨some 20, some (15, false), .bin .eql (.t 16) (.t 19), 0, 0⟩, ⟨some 21, none, .pick (.t 15) (.c (.bool true)) (.t 20), 0, 0⟩]) (.cond (.t 21) (.seq (.reg 5
  [⟨some 22, none, .fadr 0 (.t 2), 0, 0⟩, ⟨some 23, none, .load true 2 (.t 22), 0, 0⟩, ⟨none, none, .store 2 (.t 4) (.t 23) none, 0, 0⟩, ⟨some 5, none, .mv (.c (.sl .nil 0 [])), 0, 0⟩, ⟨some 6, none, .mv (.c (.bool true)), 0, 0⟩]) .ret)
  .skip)) (.seq (.seq (.dreg 9 [⟨some 24, none, .fadr 0 (.t 2), 0, 0⟩, ⟨some 25, none, .fadr 0 (.t 24), 0, 0⟩, ⟨some 26, none, .load false 1 (.t 25), 0, 0⟩, ⟨some 27, none, .mv (.t 1), 0, 0⟩, ⟨some 28, none, .mv (.t 7), 0, 0⟩, ⟨some 29,
  none, .iadr 2 (.t 28) (.c (.int .i64 0)), 0, 0⟩, ⟨some 30, none, .fadr 0 (.t 29), 0, 0⟩, ⟨some 31, none, .load false 1 (.t 30), 0, 0⟩, ⟨some 32, none, .call 247 [(.t 26), (.t 27), (.t 31)], 0, 0⟩]) (.cond (.t 32) (.seq (.reg 6 [⟨some 33,
  none, .mv (.t 7), 0, 0⟩, ⟨some 34, none, .iadr 2 (.t 33) (.c (.int .i64 0)), 0, 0⟩, ⟨some 35, none, .load true 2 (.t 34), 0, 0⟩, ⟨none, none, .store 2 (.t 4) (.t 35) none, 0, 0⟩, ⟨some 5, none, .mv (.c (.sl .nil 0 [])), 0, 0⟩, ⟨some 6,
  none, .mv (.c (.bool true)), 0, 0⟩]) .ret) .skip)) (.seq (.seq (.reg 3 [⟨some 36, none, .load true 14 (.t 2), 0, 0⟩, ⟨some 37, none, .mv (.t 1), 0, 0⟩, ⟨some 38, none, .call 248 [(.t 36), (.t 37)], 0, 0⟩]) (.cond (.t 38) (.seq (.reg 5
  [⟨some 39, none, .fadr 0 (.t 2), 0, 0⟩, ⟨some 40, none, .load true 2 (.t 39), 0, 0⟩, ⟨none, none, .store 2 (.t 4) (.t 40) none, 0, 0⟩, ⟨some 5, none, .mv (.c (.sl .nil 0 [])), 0, 0⟩, ⟨some 6, none, .mv (.c (.bool true)), 0, 0⟩]) .ret)
  .skip)) (.seq (.seq (.reg 9 [⟨some 41, none, .fadr 0 (.t 2), 0, 0⟩, ⟨some 42, none, .load true 2 (.t 41), 0, 0⟩, ⟨some 43, none, .fadr 5 (.t 2), 0, 0⟩, ⟨some 44, none, .load false 1 (.t 43), 0, 0⟩, ⟨some 45, none, .fadr 6 (.t 2), 0, 0⟩,
  ⟨some 46, none, .load false 1 (.t 45), 0, 0⟩, ⟨some 47, none, .mv (.t 1), 0, 0⟩, ⟨some 48, none, .call 249 [(.t 42), (.t 44), (.t 46), (.t 47), (.c (.int .i64 4))], 0, 0⟩, ⟨some 8, none, .mv (.t 48), 0, 0⟩]) (.seq (.reg 3 [⟨some 49, none,
  .mv (.t 8), 0, 0⟩, ⟨some 50, none, .len false (.t 49), 0, 0⟩, ⟨some 51, none, .bin .gtr (.t 50) (.c (.int .i64 0)), 0, 0⟩]) (.cond (.t 51) (.seq (.reg 5 [⟨some 52, none, .build [(.int .u64 0), (.int .u16 0)] [], 0, 0⟩, ⟨some 53, none, .mv
  (.t 8), 0, 0⟩, ⟨none, none, .store 2 (.t 4) (.t 52) none, 0, 0⟩, ⟨some 5, none, .mv (.t 53), 0, 0⟩, ⟨some 6, none, .mv (.c (.bool false)), 0, 0⟩]) .ret) .skip))) (.seq (.reg 5 [⟨some 54, none, .fadr 0 (.t 2), 0, 0⟩, ⟨some 55, none, .load
  true 2 (.t 54), 0, 0⟩, ⟨none, none, .store 2 (.t 4) (.t 55) none, 0, 0⟩, ⟨some 5, none, .mv (.c (.sl .nil 0 [])), 0, 0⟩, ⟨some 6, none, .mv (.c (.bool true)), 0, 0⟩]) .ret))))))), [(.cell 4 true 2), (.tmp 5), (.tmp 6)]⟩

def m97 : MF :=
  ⟨5, (.seq (.reg 1 [⟨some 2, none, .mv (.c (.sl .nil 0 [])), 0, 0⟩]) (.seq (.reg 3 [⟨some 3, none, .mv (.t 0), 0, 0⟩, ⟨some 4, none, .call 193 [(.t 3), (.c (.fn 194 []))], 0, 0⟩, ⟨some 2, none, .mv (.t 4), 0, 0⟩]) .ret)), [(.tmp 2)]⟩

def m193l0 : MC :=
  (.seq (.reg 1 [⟨some 11, none, .bin .lss (.t 10) (.t 9), 0, 0⟩]) (.seq (.cond (.t 11) .skip (.exit 0)) (.seq (.block 1 (.seq (.reg 4 [⟨some 12, none, .iadr 3 (.t 8) (.t 10), 0, 0⟩, ⟨some 13, none, .load true 3 (.t 12), 0, 0⟩, ⟨some 7, none,
  .alloc 2 [(.int .u64 0), (.int .u16 0), (.int .i64 0)], 0, 0⟩, ⟨none, none, .store 3 (.t 7) (.t 13) none, 0, 0⟩]) (.seq (.reg 3 [⟨some 14, none, .mv (.t 1), 0, 0⟩, ⟨some 15, none, .load true 3 (.t 7), 0, 0⟩, ⟨some 16, none, .callV (.t 14)
  [(.t 15)], 0, 0⟩]) (.cond (.t 16) (.reg 6 [⟨some 17, none, .mv (.t 5), 0, 0⟩, ⟨some 18, none, .fadr 0 (.t 7), 0, 0⟩, ⟨some 19, none, .load true 2 (.t 18), 0, 0⟩, ⟨some 20, none, .mkSl 3 2 [(.t 19)], 0, 0⟩, ⟨some 21, none, .append 4 2
  8796093022208 (.t 17) (.t 20), 0, 0⟩, ⟨some 5, none, .mv (.t 21), 0, 0⟩]) .skip)))) (.reg 2 [⟨some 22, none, .bin .add (.t 10) (.c (.int .i64 1)), 0, 0⟩, ⟨some 10, none, .mv (.t 22), 0, 0⟩]))))

def m193 : MF :=
  ⟨24, (.seq (.reg 1 [⟨some 4, none, .mv (.c (.sl .nil 0 [])), 0, 0⟩]) (.seq (.reg 1 [⟨some 5, none, .mv (.c (.sl .nil 0 [])), 0, 0⟩]) (.seq (.seq (.reg 3 [⟨some 8, none, .mv (.t 0), 0, 0⟩, ⟨some 9, none, .len false (.t 8), 0, 0⟩, ⟨some 10,
  none, .mv (.c (.int .i64 0)), 0, 0⟩]) (.block 0 (.loop m193l0))) (.seq (.reg 2 [⟨some 23, none, .mv (.t 5), 0, 0⟩, ⟨some 4, none, .mv (.t 23), 0, 0⟩]) .ret)))), [(.tmp 4)]⟩

def m194 : MF :=
  ⟨6, (.seq (.reg 2 [⟨some 1, none, .box 0 (.t 0), 0, 0⟩, ⟨some 2, none, .mv (.c (.bool false)), 0, 0⟩]) (.seq (.reg 4 [⟨some 3, none, .fadr 2 (.t 1), 0, 0⟩, ⟨some 4, none, .load false 1 (.t 3), 0, 0⟩, ⟨some 5, none, .bin .leq (.t 4) (.c (.int
  .i64 0)), 0, 0⟩, ⟨some 2, none, .mv (.t 5), 0, 0⟩]) .ret)), [(.tmp 2)]⟩

def m176 : MF :=
  ⟨5, (.seq (.reg 1 [⟨some 2, none, .mv (.c (.sl .nil 0 [])), 0, 0⟩]) (.seq (.reg 3 [⟨some 3, none, .mv (.t 0), 0, 0⟩, ⟨some 4, none, .call 193 [(.t 3), (.c (.fn 250 []))], 0, 0⟩, ⟨some 2, none, .mv (.t 4), 0, 0⟩]) .ret)), [(.tmp 2)]⟩

def m250 : MF :=
  ⟨3, (.seq (.reg 2 [⟨some 1, none, .box 0 (.t 0), 0, 0⟩, ⟨some 2, none, .mv (.c (.bool false)), 0, 0⟩]) (.seq (.reg 1 [⟨some 2, none, .mv (.c (.bool true)), 0, 0⟩]) .ret)), [(.tmp 2)]⟩

def m209 : MF :=
  ⟨14, (.dreg 13 [⟨some 2, none, .mv (.t 0), 0, 0⟩, ⟨some 3, none, .mv (.t 0), 0, 0⟩, ⟨some 4, none, .nilck (.t 3), 0, 0⟩, ⟨some 5, none, .fadr 0 (.t 4), 0, 0⟩, ⟨some 6, none, .load true 14 (.t 5), 0, 0⟩, ⟨some 7, none, .mv (.t 0), 0, 0⟩,
  ⟨some 8, none, .nilck (.t 7), 0, 0⟩, ⟨some 9, none, .fadr 14 (.t 8), 0, 0⟩, ⟨some 10, none, .load true 14 (.t 9), 0, 0⟩, ⟨some 11, none, .call 263 [(.t 6), (.t 10)], 0, 0⟩, ⟨some 12, none, .nilck (.t 2), 0, 0⟩, ⟨some 13, none, .fadr 0 (.t
  12), 0, 0⟩, ⟨none, none, .store 14 (.t 13) (.t 11) none, 0, 0⟩]), []⟩

def m263 : MF :=
  ⟨21, (.seq (.reg 3 [⟨some 2, none, .box 0 (.t 0), 0, 0⟩, ⟨some 3, none, .box 1 (.t 1), 0, 0⟩, ⟨some 4, none, .alloc 2 [(.int .u64 0), (.int .u16 0), (.int .i64 0), (.bool false), (.sl .nil 0 []), (.sl .nil 0 []), (.sl .nil 0 []), (.sl .nil 0
  []), (.sl .nil 0 []), (.sl .nil 0 []), (.sl .nil 0 []), (.int .u32 0), (.int .i64 0), (.int .i64 0)], 0, 0⟩]) (.seq (.reg 3 [⟨some 6, none, .load true 14 (.t 2), 0, 0⟩, ⟨some 7, none, .call 20 [(.t 6)], 0, 0⟩, ⟨none, none, .store 14 (.t 2)
  (.t 7) none, 0, 0⟩]) (.seq (.seq (.reg 6 [⟨some 8, none, .fadr 9 (.t 2), 0, 0⟩, ⟨some 9, none, .load false 1 (.t 8), 0, 0⟩, ⟨some 10, none, .fadr 0 (.t 3), 0, 0⟩, ⟨some 11, none, .load false 1 (.t 10), 0, 0⟩, ⟨some 12, none, .call 208 [(.t
  9), (.t 11)], 0, 0⟩, ⟨some 5, none, .mv (.t 12), 0, 0⟩]) (.seq (.reg 2 [⟨some 13, none, .mv (.t 5), 0, 0⟩, ⟨some 14, none, .bin .geq (.t 13) (.c (.int .i64 0)), 0, 0⟩]) (.cond (.t 14) (.reg 6 [⟨some 15, none, .fadr 9 (.t 2), 0, 0⟩, ⟨some
  16, none, .load false 1 (.t 15), 0, 0⟩, ⟨some 17, none, .mv (.t 5), 0, 0⟩, ⟨some 18, none, .load true 14 (.t 3), 0, 0⟩, ⟨some 19, none, .iadr 14 (.t 16) (.t 17), 0, 0⟩, ⟨none, none, .store 14 (.t 19) (.t 18) (some (.fld (.t 15))), 0, 0⟩])
  .skip))) (.seq (.reg 2 [⟨some 20, none, .load true 14 (.t 2), 0, 0⟩, ⟨none, none, .store 14 (.t 4) (.t 20) none, 0, 0⟩]) .ret)))), [(.cell 4 true 14)]⟩

def m147 : MF :=
  ⟨87, (.seq (.reg 1 [⟨some 3, none, .box 0 (.t 1), 0, 0⟩]) (.seq (.dreg 10 [⟨some 7, none, .fadr 1 (.t 3), 0, 0⟩, ⟨some 8, none, .load false 1 (.t 7), 0, 0⟩, ⟨some 9, none, .mv (.t 0), 0, 0⟩, ⟨some 10, none, .nilck (.t 9), 0, 0⟩, ⟨some 11,
  none, .fadr 0 (.t 10), 0, 0⟩, ⟨some 12, none, .fadr 0 (.t 11), 0, 0⟩, ⟨some 13, none, .fadr 1 (.t 12), 0, 0⟩, ⟨some 14, none, .load false 1 (.t 13), 0, 0⟩, ⟨some 15, none, .bin .eql (.t 8) (.t 14), 0, 0⟩, ⟨some 4, none, .mv (.t 15), 0,
  0⟩]) (.block 0 (.seq (.reg 10 [⟨some 20, none, .mv (.t 0), 0, 0⟩, ⟨some 21, none, .nilck (.t 20), 0, 0⟩, ⟨some 22, none, .fadr 14 (.t 21), 0, 0⟩, ⟨some 23, none, .fadr 1 (.t 22), 0, 0⟩, ⟨some 24, none, .load false 1 (.t 23), 0, 0⟩, ⟨some
  25, none, .bin .eql (.t 24) (.c (.int .i64 1)), 0, 0⟩, ⟨some 26, none, .mv (.t 25), 0, 0⟩, ⟨some 27, some (26, true), .mv (.t 4), 0, 0⟩, ⟨some 28, none, .pick (.t 26) (.t 27) (.c (.bool false)), 0, 0⟩, ⟨some 19, none, .mv (.t 28), 0, 0⟩])
  (.cond (.t 19) (.reg 7 [⟨some 29, none, .mv (.t 0), 0, 0⟩, ⟨some 30, none, .mv (.t 0), 0, 0⟩, ⟨some 31, none, .nilck (.t 30), 0, 0⟩, ⟨some 32, none, .fadr 14 (.t 31), 0, 0⟩, ⟨some 33, none, .fadr 6 (.t 32), 0, 0⟩, ⟨some 34, none, .load
  true 2 (.t 33), 0, 0⟩, ⟨some 35, none, .call 229 [(.t 29), (.t 34)], 0, 0⟩]) (.seq (.reg 7 [⟨some 37, none, .mv (.t 0), 0, 0⟩, ⟨some 38, none, .nilck (.t 37), 0, 0⟩, ⟨some 39, none, .fadr 14 (.t 38), 0, 0⟩, ⟨some 40, none, .fadr 1 (.t 39),
  0, 0⟩, ⟨some 41, none, .load false 1 (.t 40), 0, 0⟩, ⟨some 42, none, .bin .eql (.t 41) (.c (.int .i64 4)), 0, 0⟩, ⟨some 36, none, .mv (.t 42), 0, 0⟩]) (.cond (.t 36) (.reg 4 [⟨some 43, none, .mv (.t 0), 0, 0⟩, ⟨some 44, none, .load true 2
  (.t 3), 0, 0⟩, ⟨some 45, none, .mv (.t 4), 0, 0⟩, ⟨some 46, none, .call 230 [(.t 43), (.t 44), (.t 45)], 0, 0⟩]) (.seq (.reg 10 [⟨some 48, none, .mv (.t 0), 0, 0⟩, ⟨some 49, none, .nilck (.t 48), 0, 0⟩, ⟨some 50, none, .fadr 14 (.t 49), 0,
  0⟩, ⟨some 51, none, .fadr 1 (.t 50), 0, 0⟩, ⟨some 52, none, .load false 1 (.t 51), 0, 0⟩, ⟨some 53, none, .bin .eql (.t 52) (.c (.int .i64 2)), 0, 0⟩, ⟨some 54, none, .mv (.t 53), 0, 0⟩, ⟨some 55, some (54, true), .mv (.t 4), 0, 0⟩, ⟨some
  56, none, .pick (.t 54) (.t 55) (.c (.bool false)), 0, 0⟩, ⟨some 47, none, .mv (.t 56), 0, 0⟩]) (.cond (.t 47) (.reg 2 [⟨some 57, none, .mv (.t 0), 0, 0⟩, ⟨some 58, none, .call 231 [(.t 57)], 0, 0⟩]) (.seq (.reg 10 [⟨some 60, none, .mv (.t
  0), 0, 0⟩, ⟨some 61, none, .nilck (.t 60), 0, 0⟩, ⟨some 62, none, .fadr 14 (.t 61), 0, 0⟩, ⟨some 63, none, .fadr 1 (.t 62), 0, 0⟩, ⟨some 64, none, .load false 1 (.t 63), 0, 0⟩, ⟨some 65, none, .bin .eql (.t 64) (.c (.int .i64 3)), 0, 0⟩,
  ⟨some 66, none, .mv (.t 65), 0, 0⟩, ⟨some 67, some (66, true), .mv (.t 4), 0, 0⟩, ⟨some 68, none, .pick (.t 66) (.t 67) (.c (.bool false)), 0, 0⟩, ⟨some 59, none, .mv (.t 68), 0, 0⟩]) (.cond (.t 59) (.seq (.dreg 16 [⟨some 70, none, .mv (.t
  0), 0, 0⟩, ⟨some 71, none, .nilck (.t 70), 0, 0⟩, ⟨some 72, none, .fadr 0 (.t 71), 0, 0⟩, ⟨some 73, none, .fadr 7 (.t 72), 0, 0⟩, ⟨some 74, none, .load false 1 (.t 73), 0, 0⟩, ⟨some 75, none, .mv (.t 0), 0, 0⟩, ⟨some 76, none, .nilck (.t
  75), 0, 0⟩, ⟨some 77, none, .fadr 14 (.t 76), 0, 0⟩, ⟨some 78, none, .fadr 3 (.t 77), 0, 0⟩, ⟨some 79, none, .load false 1 (.t 78), 0, 0⟩, ⟨some 80, none, .call 181 [(.t 74), (.t 79)], 0, 0⟩, ⟨some 69, none, .mv (.t 80), 0, 0⟩, ⟨some 81,
  none, .ext 0 (.t 69), 0, 0⟩, ⟨some 82, none, .ext 1 (.t 69), 0, 0⟩, ⟨some 5, none, .mv (.t 81), 0, 0⟩, ⟨some 6, none, .mv (.t 82), 0, 0⟩]) (.reg 4 [⟨some 83, none, .mv (.t 0), 0, 0⟩, ⟨some 84, none, .mv (.t 6), 0, 0⟩, ⟨some 85, none, .mv
  (.t 5), 0, 0⟩, ⟨some 86, none, .call 155 [(.t 83), (.t 84), (.t 85), (.c (.int .i64 0))], 0, 0⟩])) (.reg 3 [⟨some 16, none, .mv (.t 0), 0, 0⟩, ⟨some 17, none, .load true 2 (.t 3), 0, 0⟩, ⟨some 18, none, .call 229 [(.t 16), (.t 17)], 0,
  0⟩])))))))))))), []⟩

def m230 : MF :=
  ⟨36, (.seq (.reg 2 [⟨some 3, none, .box 0 (.t 0), 0, 0⟩, ⟨some 4, none, .box 1 (.t 1), 0, 0⟩]) (.seq (.seq (.reg 1 [⟨some 6, none, .mv (.t 2), 0, 0⟩]) (.cond (.t 6) (.dreg 12 [⟨some 7, none, .load false 1 (.t 3), 0, 1⟩, ⟨some 8, none, .load
  false 1 (.t 3), 0, 0⟩, ⟨some 9, none, .nilck (.t 8), 0, 0⟩, ⟨some 10, none, .fadr 0 (.t 9), 0, 0⟩, ⟨some 11, none, .fadr 6 (.t 10), 0, 0⟩, ⟨some 12, none, .load false 1 (.t 11), 0, 0⟩, ⟨some 13, none, .mkFn 269 [(.t 3)], 0, 0⟩, ⟨some 14,
  none, .call 214 [(.t 12), (.t 13)], 0, 0⟩, ⟨some 15, none, .nilck (.t 7), 0, 0⟩, ⟨some 16, none, .fadr 0 (.t 15), 0, 0⟩, ⟨some 17, none, .fadr 6 (.t 16), 0, 0⟩, ⟨none, none, .store 1 (.t 17) (.t 14) none, 0, 0⟩]) (.dreg 17 [⟨some 18, none,
  .load false 1 (.t 3), 0, 1⟩, ⟨some 19, none, .load false 1 (.t 3), 0, 0⟩, ⟨some 20, none, .nilck (.t 19), 0, 0⟩, ⟨some 21, none, .fadr 0 (.t 20), 0, 0⟩, ⟨some 22, none, .fadr 6 (.t 21), 0, 0⟩, ⟨some 23, none, .load false 1 (.t 22), 0, 0⟩,
  ⟨some 24, none, .load false 1 (.t 3), 0, 0⟩, ⟨some 25, none, .nilck (.t 24), 0, 0⟩, ⟨some 26, none, .fadr 14 (.t 25), 0, 0⟩, ⟨some 27, none, .fadr 2 (.t 26), 0, 0⟩, ⟨some 28, none, .load false 1 (.t 27), 0, 0⟩, ⟨some 29, none, .load true 2
  (.t 4), 0, 0⟩, ⟨some 30, none, .call 270 [(.t 23), (.t 28), (.t 29)], 0, 0⟩, ⟨some 31, none, .nilck (.t 18), 0, 0⟩, ⟨some 32, none, .fadr 0 (.t 31), 0, 0⟩, ⟨some 33, none, .fadr 6 (.t 32), 0, 0⟩, ⟨none, none, .store 1 (.t 33) (.t 30) none,
  0, 0⟩]))) (.reg 2 [⟨some 34, none, .load false 1 (.t 3), 0, 0⟩, ⟨some 35, none, .call 155 [(.t 34), (.c (.bool false)), (.c (.str (bs []))), (.c (.int .i64 0))], 0, 0⟩]))), []⟩

def m269 : MF :=
  ⟨12, (.seq (.reg 2 [⟨some 2, none, .box 0 (.t 0), 0, 0⟩, ⟨some 3, none, .mv (.c (.bool false)), 0, 0⟩]) (.seq (.dreg 9 [⟨some 4, none, .fadr 0 (.t 2), 0, 0⟩, ⟨some 5, none, .load false 1 (.t 4), 0, 0⟩, ⟨some 6, none, .load false 1 (.t 1), 0,
  0⟩, ⟨some 7, none, .nilck (.t 6), 0, 0⟩, ⟨some 8, none, .fadr 14 (.t 7), 0, 0⟩, ⟨some 9, none, .fadr 2 (.t 8), 0, 0⟩, ⟨some 10, none, .load false 1 (.t 9), 0, 0⟩, ⟨some 11, none, .bin .eql (.t 5) (.t 10), 0, 0⟩, ⟨some 3, none, .mv (.t 11),
  0, 0⟩]) .ret)), [(.tmp 3)]⟩

def m214l0 : MC :=
  (.seq (.seq (.reg 4 [⟨some 16, none, .mv (.t 6), 0, 0⟩, ⟨some 17, none, .mv (.t 0), 0, 0⟩, ⟨some 18, none, .len false (.t 17), 0, 0⟩, ⟨some 19, none, .bin .lss (.t 16) (.t 18), 0, 0⟩]) (.cond (.t 19) .skip (.exit 0))) (.seq (.block 1 (.seq
  (.reg 6 [⟨some 22, none, .mv (.t 0), 0, 0⟩, ⟨some 23, none, .mv (.t 6), 0, 0⟩, ⟨some 24, none, .iadr 3 (.t 22) (.t 23), 0, 0⟩, ⟨some 25, none, .load true 3 (.t 24), 0, 0⟩, ⟨some 7, none, .alloc 4 [(.int .i64 0), (.int .u64 0), (.int .u16
  0)], 0, 0⟩, ⟨none, none, .store 3 (.t 7) (.t 25) none, 0, 0⟩]) (.seq (.reg 4 [⟨some 26, none, .mv (.t 1), 0, 0⟩, ⟨some 27, none, .load true 3 (.t 7), 0, 0⟩, ⟨some 28, none, .callV (.t 26) [(.t 27)], 0, 0⟩, ⟨some 29, none, .un .not (.t 28),
  0, 0⟩]) (.cond (.t 29) (.seq (.reg 5 [⟨some 30, none, .mv (.t 0), 0, 0⟩, ⟨some 31, none, .mv (.t 5), 0, 0⟩, ⟨some 32, none, .load true 3 (.t 7), 0, 0⟩, ⟨some 33, none, .iadr 3 (.t 30) (.t 31), 0, 0⟩, ⟨none, none, .store 3 (.t 33) (.t 32)
  (some (.slot 0)), 0, 0⟩]) (.reg 3 [⟨some 34, none, .mv (.t 5), 0, 0⟩, ⟨some 35, none, .bin .add (.t 34) (.c (.int .i64 1)), 0, 0⟩, ⟨some 5, none, .mv (.t 35), 0, 0⟩])) .skip)))) (.reg 3 [⟨some 20, none, .mv (.t 6), 0, 0⟩, ⟨some 21, none,
  .bin .add (.t 20) (.c (.int .i64 1)), 0, 0⟩, ⟨some 6, none, .mv (.t 21), 0, 0⟩])))

def m214 : MF :=
  ⟨42, (.seq (.reg 1 [⟨some 4, none, .mv (.c (.sl .nil 0 [])), 0, 0⟩]) (.seq (.reg 4 [⟨some 8, none, .mv (.t 0), 0, 0⟩, ⟨some 9, none, .mv (.t 1), 0, 0⟩, ⟨some 10, none, .call 266 [(.t 8), (.t 9)], 0, 0⟩, ⟨some 5, none, .mv (.t 10), 0, 0⟩])
  (.seq (.seq (.reg 2 [⟨some 11, none, .mv (.t 5), 0, 0⟩, ⟨some 12, none, .bin .eql (.t 11) (.c (.int .i64 (-1))), 0, 0⟩]) (.cond (.t 12) (.seq (.reg 2 [⟨some 13, none, .mv (.t 0), 0, 0⟩, ⟨some 4, none, .mv (.t 13), 0, 0⟩]) .ret) .skip))
  (.seq (.seq (.reg 3 [⟨some 14, none, .mv (.t 5), 0, 0⟩, ⟨some 15, none, .bin .add (.t 14) (.c (.int .i64 1)), 0, 0⟩, ⟨some 6, none, .mv (.t 15), 0, 0⟩]) (.block 0 (.loop m214l0))) (.seq (.reg 4 [⟨some 36, none, .mv (.t 0), 0, 0⟩, ⟨some 37,
  none, .mv (.t 5), 0, 0⟩, ⟨some 38, none, .slice 2 3 (.t 36) (some (.t 37)) none none, 0, 0⟩, ⟨none, none, .clear 3 (.agg [(.int .i64 0), (.int .u64 0), (.int .u16 0)]) (.t 38) (.slot 0), 0, 0⟩]) (.seq (.reg 4 [⟨some 39, none, .mv (.t 0),
  0, 0⟩, ⟨some 40, none, .mv (.t 5), 0, 0⟩, ⟨some 41, none, .slice 2 3 (.t 39) none (some (.t 40)) none, 0, 0⟩, ⟨some 4, none, .mv (.t 41), 0, 0⟩]) .ret)))))), [(.tmp 4)]⟩

def m168l0 : MC :=
  (.seq (.seq (.reg 4 [⟨some 16, none, .mv (.t 6), 0, 0⟩, ⟨some 17, none, .mv (.t 0), 0, 0⟩, ⟨some 18, none, .len false (.t 17), 0, 0⟩, ⟨some 19, none, .bin .lss (.t 16) (.t 18), 0, 0⟩]) (.cond (.t 19) .skip (.exit 0))) (.seq (.block 1 (.seq
  (.reg 6 [⟨some 22, none, .mv (.t 0), 0, 0⟩, ⟨some 23, none, .mv (.t 6), 0, 0⟩, ⟨some 24, none, .iadr 2 (.t 22) (.t 23), 0, 0⟩, ⟨some 25, none, .load true 2 (.t 24), 0, 0⟩, ⟨some 7, none, .alloc 4 [(.str (bs [])), (.str (bs []))], 0, 0⟩,
  ⟨none, none, .store 2 (.t 7) (.t 25) none, 0, 0⟩]) (.seq (.reg 4 [⟨some 26, none, .mv (.t 1), 0, 0⟩, ⟨some 27, none, .load true 2 (.t 7), 0, 0⟩, ⟨some 28, none, .callV (.t 26) [(.t 27)], 0, 0⟩, ⟨some 29, none, .un .not (.t 28), 0, 0⟩])
  (.cond (.t 29) (.seq (.reg 5 [⟨some 30, none, .mv (.t 0), 0, 0⟩, ⟨some 31, none, .mv (.t 5), 0, 0⟩, ⟨some 32, none, .load true 2 (.t 7), 0, 0⟩, ⟨some 33, none, .iadr 2 (.t 30) (.t 31), 0, 0⟩, ⟨none, none, .store 2 (.t 33) (.t 32) (some
  (.slot 0)), 0, 0⟩]) (.reg 3 [⟨some 34, none, .mv (.t 5), 0, 0⟩, ⟨some 35, none, .bin .add (.t 34) (.c (.int .i64 1)), 0, 0⟩, ⟨some 5, none, .mv (.t 35), 0, 0⟩])) .skip)))) (.reg 3 [⟨some 20, none, .mv (.t 6), 0, 0⟩, ⟨some 21, none, .bin
  .add (.t 20) (.c (.int .i64 1)), 0, 0⟩, ⟨some 6, none, .mv (.t 21), 0, 0⟩])))

def m168 : MF :=
  ⟨42, (.seq (.reg 1 [⟨some 4, none, .mv (.c (.sl .nil 0 [])), 0, 0⟩]) (.seq (.reg 4 [⟨some 8, none, .mv (.t 0), 0, 0⟩, ⟨some 9, none, .mv (.t 1), 0, 0⟩, ⟨some 10, none, .call 190 [(.t 8), (.t 9)], 0, 0⟩, ⟨some 5, none, .mv (.t 10), 0, 0⟩])
  (.seq (.seq (.reg 2 [⟨some 11, none, .mv (.t 5), 0, 0⟩, ⟨some 12, none, .bin .eql (.t 11) (.c (.int .i64 (-1))), 0, 0⟩]) (.cond (.t 12) (.seq (.reg 2 [⟨some 13, none, .mv (.t 0), 0, 0⟩, ⟨some 4, none, .mv (.t 13), 0, 0⟩]) .ret) .skip))
  (.seq (.seq (.reg 3 [⟨some 14, none, .mv (.t 5), 0, 0⟩, ⟨some 15, none, .bin .add (.t 14) (.c (.int .i64 1)), 0, 0⟩, ⟨some 6, none, .mv (.t 15), 0, 0⟩]) (.block 0 (.loop m168l0))) (.seq (.reg 4 [⟨some 36, none, .mv (.t 0), 0, 0⟩, ⟨some 37,
  none, .mv (.t 5), 0, 0⟩, ⟨some 38, none, .slice 2 2 (.t 36) (some (.t 37)) none none, 0, 0⟩, ⟨none, none, .clear 2 (.agg [(.str (bs [])), (.str (bs []))]) (.t 38) (.slot 0), 0, 0⟩]) (.seq (.reg 4 [⟨some 39, none, .mv (.t 0), 0, 0⟩, ⟨some
  40, none, .mv (.t 5), 0, 0⟩, ⟨some 41, none, .slice 2 2 (.t 39) none (some (.t 40)) none, 0, 0⟩, ⟨some 4, none, .mv (.t 41), 0, 0⟩]) .ret)))))), [(.tmp 4)]⟩

def m155 : MF :=
  ⟨24, (.dreg 17 [⟨some 8, none, .mv (.t 0), 0, 0⟩, ⟨some 9, none, .mv (.t 0), 0, 0⟩, ⟨some 10, none, .nilck (.t 9), 0, 0⟩, ⟨some 11, none, .fadr 0 (.t 10), 0, 0⟩, ⟨some 12, none, .load true 14 (.t 11), 0, 0⟩, ⟨some 13, none, .mv (.t 0), 0,
  0⟩, ⟨some 14, none, .nilck (.t 13), 0, 0⟩, ⟨some 15, none, .fadr 14 (.t 14), 0, 0⟩, ⟨some 16, none, .fadr 0 (.t 15), 0, 0⟩, ⟨some 17, none, .load false 1 (.t 16), 0, 0⟩, ⟨some 18, none, .mv (.t 1), 0, 0⟩, ⟨some 19, none, .mv (.t 2), 0, 0⟩,
  ⟨some 20, none, .mv (.t 3), 0, 0⟩, ⟨some 21, none, .call 239 [(.t 12), (.t 17), (.t 18), (.t 19), (.t 20)], 0, 0⟩, ⟨some 22, none, .nilck (.t 8), 0, 0⟩, ⟨some 23, none, .fadr 0 (.t 22), 0, 0⟩, ⟨none, none, .store 14 (.t 23) (.t 21) none,
  0, 0⟩]), []⟩

def m239 : MF :=
  ⟨40, (.seq (.reg 2 [⟨some 5, none, .box 0 (.t 0), 0, 0⟩, ⟨some 10, none, .alloc 1 [(.int .u64 0), (.int .u16 0), (.int .i64 0), (.bool false), (.sl .nil 0 []), (.sl .nil 0 []), (.sl .nil 0 []), (.sl .nil 0 []), (.sl .nil 0 []), (.sl .nil 0
  []), (.sl .nil 0 []), (.int .u32 0), (.int .i64 0), (.int .i64 0)], 0, 0⟩]) (.seq (.reg 3 [⟨some 13, none, .load true 14 (.t 5), 0, 0⟩, ⟨some 14, none, .call 20 [(.t 13)], 0, 0⟩, ⟨none, none, .store 14 (.t 5) (.t 14) none, 0, 0⟩]) (.seq
  (.reg 5 [⟨some 15, none, .fadr 9 (.t 5), 0, 0⟩, ⟨some 16, none, .load false 1 (.t 15), 0, 0⟩, ⟨some 17, none, .mv (.t 1), 0, 0⟩, ⟨some 18, none, .call 208 [(.t 16), (.t 17)], 0, 0⟩, ⟨some 11, none, .mv (.t 18), 0, 0⟩]) (.seq (.seq (.reg 2
  [⟨some 19, none, .mv (.t 11), 0, 0⟩, ⟨some 20, none, .bin .lss (.t 19) (.c (.int .i64 0)), 0, 0⟩]) (.cond (.t 20) (.seq (.reg 2 [⟨some 21, none, .load true 14 (.t 5), 0, 0⟩, ⟨none, none, .store 14 (.t 10) (.t 21) none, 0, 0⟩]) .ret)
  .skip)) (.seq (.reg 7 [⟨some 22, none, .fadr 9 (.t 5), 0, 0⟩, ⟨some 23, none, .load false 1 (.t 22), 0, 0⟩, ⟨some 24, none, .mv (.t 11), 0, 0⟩, ⟨some 25, none, .iadr 14 (.t 23) (.t 24), 0, 0⟩, ⟨some 26, none, .load true 14 (.t 25), 0, 0⟩,
  ⟨some 12, none, .alloc 5 [(.int .i64 0), (.int .i64 0), (.int .i64 0), (.str (bs [])), (.str (bs [])), (.int .u64 0), (.int .u64 0), (.int .u16 0), (.int .u64 0), (.int .u16 0), (.bool false), (.int .i64 0), (.int .i64 0), (.int .i64 0)],
  0, 0⟩, ⟨none, none, .store 14 (.t 12) (.t 26) none, 0, 0⟩]) (.seq (.reg 8 [⟨some 27, none, .fadr 9 (.t 5), 0, 0⟩, ⟨some 28, none, .load false 1 (.t 27), 0, 0⟩, ⟨some 29, none, .mv (.t 11), 0, 0⟩, ⟨some 30, none, .mv (.t 11), 0, 0⟩, ⟨some
  31, none, .bin .add (.t 30) (.c (.int .i64 1)), 0, 0⟩, ⟨some 32, none, .call 272 [(.t 28), (.t 29), (.t 31)], 0, 0⟩, ⟨some 33, none, .fadr 9 (.t 5), 0, 0⟩, ⟨none, none, .store 1 (.t 33) (.t 32) none, 0, 0⟩]) (.seq (.reg 5 [⟨some 34, none,
  .load true 14 (.t 12), 0, 0⟩, ⟨some 35, none, .mv (.t 2), 0, 0⟩, ⟨some 36, none, .mv (.t 3), 0, 0⟩, ⟨some 37, none, .mv (.t 4), 0, 0⟩, ⟨some 38, none, .call 240 [(.t 5), (.t 34), (.t 35), (.t 36), (.t 37)], 0, 0⟩]) (.seq (.reg 2 [⟨some 39,
  none, .load true 14 (.t 5), 0, 0⟩, ⟨none, none, .store 14 (.t 10) (.t 39) none, 0, 0⟩]) .ret)))))))), [(.cell 10 true 14)]⟩

def m240 : MF :=
  ⟨53, (.seq (.reg 1 [⟨some 6, none, .box 0 (.t 1), 0, 0⟩]) (.seq (.seq (.reg 8 [⟨some 10, none, .fadr 1 (.t 6), 0, 0⟩, ⟨some 11, none, .load false 1 (.t 10), 0, 0⟩, ⟨some 12, none, .bin .neq (.t 11) (.c (.int .i64 2)), 0, 0⟩, ⟨some 13, none,
  .mv (.t 12), 0, 0⟩, ⟨some 14, some (13, true), .fadr 1 (.t 6), 0, 0⟩, ⟨some 15, some (13, true), .load false 1 (.t 14), 0, 0⟩, ⟨some 16, some (13, true), .bin .neq (.t 15) (.c (.int .i64 3)), 0, 0⟩, ⟨some 17, none, .pick (.t 13) (.t 16)
  (.c (.bool false)), 0, 0⟩]) (.cond (.t 17) .ret .skip)) (.seq (.dreg 20 [⟨some 18, none, .mv (.t 0), 0, 0⟩, ⟨some 19, none, .mv (.t 0), 0, 0⟩, ⟨some 20, none, .nilck (.t 19), 0, 0⟩, ⟨some 21, none, .fadr 10 (.t 20), 0, 0⟩, ⟨some 22, none,
  .load false 1 (.t 21), 0, 0⟩, ⟨some 23, none, .fadr 0 (.t 6), 0, 0⟩, ⟨some 24, none, .load false 1 (.t 23), 0, 0⟩, ⟨some 25, none, .fadr 1 (.t 6), 0, 0⟩, ⟨some 26, none, .load false 1 (.t 25), 0, 0⟩, ⟨some 27, none, .fadr 3 (.t 6), 0, 0⟩,
  ⟨some 28, none, .load false 1 (.t 27), 0, 0⟩, ⟨some 29, none, .mv (.t 3), 0, 0⟩, ⟨some 30, none, .mv (.t 2), 0, 0⟩, ⟨some 31, none, .mv (.t 4), 0, 0⟩, ⟨some 32, none, .build [(.int .i64 0), (.int .i64 0), (.str (bs [])), (.str (bs [])),
  (.bool false), (.int .i64 0)] [(0, (1, (.t 24))), (1, (1, (.t 26))), (2, (1, (.t 28))), (3, (1, (.t 29))), (4, (1, (.t 30))), (5, (1, (.t 31)))], 0, 0⟩, ⟨some 33, none, .mkSl 15 6 [(.t 32)], 0, 0⟩, ⟨some 34, none, .append 16 6
  2199023255552 (.t 22) (.t 33), 0, 0⟩, ⟨some 35, none, .nilck (.t 18), 0, 0⟩, ⟨some 36, none, .fadr 10 (.t 35), 0, 0⟩, ⟨none, none, .store 1 (.t 36) (.t 34) none, 0, 0⟩]) (.dreg 17 [⟨some 37, none, .mv (.t 0), 0, 0⟩, ⟨some 38, none, .mv (.t
  0), 0, 0⟩, ⟨some 39, none, .nilck (.t 38), 0, 0⟩, ⟨some 40, none, .fadr 10 (.t 39), 0, 0⟩, ⟨some 41, none, .load false 1 (.t 40), 0, 0⟩, ⟨some 42, none, .mv (.t 0), 0, 0⟩, ⟨some 43, none, .nilck (.t 42), 0, 0⟩, ⟨some 44, none, .fadr 10 (.t
  43), 0, 0⟩, ⟨some 45, none, .load false 1 (.t 44), 0, 0⟩, ⟨some 46, none, .len false (.t 45), 0, 0⟩, ⟨some 47, none, .bin .sub (.t 46) (.c (.int .i64 16)), 0, 0⟩, ⟨some 48, none, .mnmx true [(.c (.int .i64 0)), (.t 47)], 0, 0⟩, ⟨some 49,
  none, .slice 12 6 (.t 41) (some (.t 48)) none none, 0, 0⟩, ⟨some 50, none, .call 74 [(.t 49)], 0, 0⟩, ⟨some 51, none, .nilck (.t 37), 0, 0⟩, ⟨some 52, none, .fadr 10 (.t 51), 0, 0⟩, ⟨none, none, .store 1 (.t 52) (.t 50) none, 0, 0⟩])))),
  []⟩

def m118 : MF :=
  ⟨12, (.seq (.reg 2 [⟨some 2, none, .alloc 0 [(.int .u64 0), (.int .u16 0), (.int .i64 0), (.bool false), (.sl .nil 0 []), (.sl .nil 0 []), (.sl .nil 0 []), (.sl .nil 0 []), (.sl .nil 0 []), (.sl .nil 0 []), (.sl .nil 0 []), (.int .u32 0),
  (.int .i64 0), (.int .i64 0)], 0, 0⟩, ⟨some 3, none, .mv (.c (.sl .nil 0 [])), 0, 0⟩]) (.seq (.dreg 10 [⟨some 4, none, .mv (.t 0), 0, 0⟩, ⟨some 5, none, .nilck (.t 4), 0, 0⟩, ⟨some 6, none, .fadr 0 (.t 5), 0, 0⟩, ⟨some 7, none, .load true
  14 (.t 6), 0, 0⟩, ⟨some 8, none, .mv (.t 0), 0, 0⟩, ⟨some 9, none, .nilck (.t 8), 0, 0⟩, ⟨some 10, none, .fadr 28 (.t 9), 0, 0⟩, ⟨some 11, none, .load false 1 (.t 10), 0, 1⟩, ⟨none, none, .store 14 (.t 2) (.t 7) none, 0, 0⟩, ⟨some 3, none,
  .mv (.t 11), 0, 0⟩]) .ret)), [(.cell 2 true 14), (.tmp 3)]⟩

def m158 : MF :=
  ⟨19, (.seq (.reg 1 [⟨some 4, none, .box 0 (.t 1), 0, 0⟩]) (.dreg 15 [⟨some 6, none, .mv (.t 0), 0, 0⟩, ⟨some 7, none, .mv (.t 0), 0, 0⟩, ⟨some 8, none, .load true 14 (.t 4), 0, 1⟩, ⟨some 9, none, .mv (.t 0), 0, 0⟩, ⟨some 10, none, .nilck (.t
  9), 0, 0⟩, ⟨some 11, none, .fadr 14 (.t 10), 0, 0⟩, ⟨some 12, none, .load false 1 (.t 11), 0, 0⟩, ⟨some 13, none, .mv (.t 2), 0, 0⟩, ⟨some 14, none, .append 8 13 1034834473200 (.t 12) (.t 13), 0, 0⟩, ⟨some 15, none, .nilck (.t 6), 0, 0⟩,
  ⟨some 16, none, .fadr 0 (.t 15), 0, 0⟩, ⟨none, none, .store 14 (.t 16) (.t 8) none, 0, 0⟩, ⟨some 17, none, .nilck (.t 7), 0, 0⟩, ⟨some 18, none, .fadr 14 (.t 17), 0, 0⟩, ⟨none, none, .store 1 (.t 18) (.t 14) none, 0, 0⟩])), []⟩

def m164l0 : MC :=
  (.seq (.reg 1 [⟨some 13, none, .bin .lss (.t 12) (.t 11), 0, 0⟩]) (.seq (.cond (.t 13) .skip (.exit 0)) (.seq (.block 1 (.seq (.reg 4 [⟨some 14, none, .iadr 2 (.t 10) (.t 12), 0, 0⟩, ⟨some 15, none, .load true 2 (.t 14), 0, 0⟩, ⟨some 3,
  none, .alloc 2 [(.int .u64 0), (.int .u16 0)], 0, 0⟩, ⟨none, none, .store 2 (.t 3) (.t 15) none, 0, 0⟩]) (.reg 4 [⟨some 16, none, .mv (.t 0), 0, 0⟩, ⟨some 17, none, .load true 2 (.t 3), 0, 0⟩, ⟨some 18, none, .build [(.int .i64 0), (.int
  .u32 0), (.int .u8 0), (.bool false), (.int .u64 0), (.str (bs [])), (.str (bs [])), (.int .u64 0), (.int .u16 0), (.sl .nil 0 []), (.sl .nil 0 [])] [(0, (1, (.c (.int .i64 3))))], 0, 0⟩, ⟨some 19, none, .call 244 [(.t 16), (.t 17), (.t
  18), (.c (.int .i64 1))], 0, 0⟩]))) (.reg 2 [⟨some 20, none, .bin .add (.t 12) (.c (.int .i64 1)), 0, 0⟩, ⟨some 12, none, .mv (.t 20), 0, 0⟩]))))

def m164 : MF :=
  ⟨77, (.seq (.seq (.reg 8 [⟨some 5, none, .mv (.t 0), 0, 0⟩, ⟨some 6, none, .nilck (.t 5), 0, 0⟩, ⟨some 7, none, .fadr 0 (.t 6), 0, 0⟩, ⟨some 8, none, .fadr 5 (.t 7), 0, 0⟩, ⟨some 9, none, .load false 1 (.t 8), 0, 0⟩, ⟨some 10, none, .call
  176 [(.t 9)], 0, 0⟩, ⟨some 11, none, .len false (.t 10), 0, 0⟩, ⟨some 12, none, .mv (.c (.int .i64 0)), 0, 0⟩]) (.block 0 (.loop m164l0))) (.seq (.seq (.reg 7 [⟨some 21, none, .mv (.t 0), 0, 0⟩, ⟨some 22, none, .nilck (.t 21), 0, 0⟩, ⟨some
  23, none, .fadr 0 (.t 22), 0, 0⟩, ⟨some 24, none, .fadr 5 (.t 23), 0, 0⟩, ⟨some 25, none, .load false 1 (.t 24), 0, 0⟩, ⟨some 26, none, .call 97 [(.t 25)], 0, 0⟩, ⟨some 4, none, .mv (.t 26), 0, 0⟩]) (.seq (.reg 3 [⟨some 27, none, .mv (.t
  4), 0, 0⟩, ⟨some 28, none, .len false (.t 27), 0, 0⟩, ⟨some 29, none, .bin .gtr (.t 28) (.c (.int .i64 0)), 0, 0⟩]) (.cond (.t 29) (.dreg 11 [⟨some 30, none, .mv (.t 0), 0, 0⟩, ⟨some 31, none, .mv (.t 4), 0, 0⟩, ⟨some 32, none, .iadr 2 (.t
  31) (.c (.int .i64 0)), 0, 0⟩, ⟨some 33, none, .load true 2 (.t 32), 0, 0⟩, ⟨some 34, none, .mv (.t 0), 0, 0⟩, ⟨some 35, none, .nilck (.t 34), 0, 0⟩, ⟨some 36, none, .fadr 0 (.t 35), 0, 0⟩, ⟨some 37, none, .fadr 0 (.t 36), 0, 0⟩, ⟨some 38,
  none, .load true 2 (.t 37), 0, 0⟩, ⟨some 39, none, .build [(.int .i64 0), (.int .u32 0), (.int .u8 0), (.bool false), (.int .u64 0), (.str (bs [])), (.str (bs [])), (.int .u64 0), (.int .u16 0), (.sl .nil 0 []), (.sl .nil 0 [])] [(0, (1,
  (.c (.int .i64 5)))), (7, (2, (.t 38)))], 0, 0⟩, ⟨some 40, none, .call 244 [(.t 30), (.t 33), (.t 39), (.c (.int .i64 2))], 0, 0⟩]) .skip))) (.seq (.dreg 25 [⟨some 41, none, .mv (.t 0), 0, 0⟩, ⟨some 42, none, .nilck (.t 41), 0, 0⟩, ⟨some
  43, none, .fadr 0 (.t 42), 0, 0⟩, ⟨some 44, none, .fadr 4 (.t 43), 0, 0⟩, ⟨some 45, none, .load false 1 (.t 44), 0, 0⟩, ⟨some 46, none, .len false (.t 45), 0, 0⟩, ⟨some 47, none, .bin .gtr (.t 46) (.c (.int .i64 0)), 0, 0⟩, ⟨some 48, none,
  .mv (.t 47), 0, 0⟩, ⟨some 49, some (48, true), .mv (.t 0), 0, 0⟩, ⟨some 50, some (48, true), .nilck (.t 49), 0, 0⟩, ⟨some 51, some (48, true), .fadr 0 (.t 50), 0, 0⟩, ⟨some 52, some (48, true), .fadr 5 (.t 51), 0, 0⟩, ⟨some 53, some (48,
  true), .load false 1 (.t 52), 0, 0⟩, ⟨some 54, some (48, true), .mv (.t 0), 0, 0⟩, ⟨some 55, some (48, true), .nilck (.t 54), 0, 0⟩, ⟨some 56, some (48, true), .fadr 0 (.t 55), 0, 0⟩, ⟨some 57, some (48, true), .fadr 4 (.t 56), 0, 0⟩,
  ⟨some 58, some (48, true), .load false 1 (.t 57), 0, 0⟩, ⟨some 59, some (48, true), .iadr 3 (.t 58) (.c (.int .i64 0)), 0, 0⟩, ⟨some 60, some (48, true), .fadr 0 (.t 59), 0, 0⟩, ⟨some 61, some (48, true), .fadr 1 (.t 60), 0, 0⟩, ⟨some 62,
  some (48, true), .load false 1 (.t 61), 0, 0⟩, ⟨some 63, some (48, true), .call 54 [(.t 53), (.t 62)], 0, 0⟩, ⟨some 64, some (48, true), .bin .lss (.t 63) (.c (.int .i64 0)), 0, 0⟩, ⟨some 65, none, .pick (.t 48) (.t 64) (.c (.bool false)),
  0, 0⟩]) (.cond (.t 65) (.reg 11 [⟨some 66, none, .mv (.t 0), 0, 0⟩, ⟨some 67, none, .mv (.t 0), 0, 0⟩, ⟨some 68, none, .nilck (.t 67), 0, 0⟩, ⟨some 69, none, .fadr 0 (.t 68), 0, 0⟩, ⟨some 70, none, .fadr 4 (.t 69), 0, 0⟩, ⟨some 71, none,
  .load false 1 (.t 70), 0, 0⟩, ⟨some 72, none, .iadr 3 (.t 71) (.c (.int .i64 0)), 0, 0⟩, ⟨some 73, none, .fadr 0 (.t 72), 0, 0⟩, ⟨some 74, none, .load true 2 (.t 73), 0, 0⟩, ⟨some 75, none, .build [(.int .i64 0), (.int .u32 0), (.int .u8
  0), (.bool false), (.int .u64 0), (.str (bs [])), (.str (bs [])), (.int .u64 0), (.int .u16 0), (.sl .nil 0 []), (.sl .nil 0 [])] [(0, (1, (.c (.int .i64 11))))], 0, 0⟩, ⟨some 76, none, .call 244 [(.t 66), (.t 74), (.t 75), (.c (.int .i64
  3))], 0, 0⟩]) .skip)))), []⟩

def m165 : MF :=
  ⟨54, (.seq (.seq (.reg 14 [⟨some 5, none, .mv (.t 0), 0, 0⟩, ⟨some 6, none, .nilck (.t 5), 0, 0⟩, ⟨some 7, none, .fadr 0 (.t 6), 0, 0⟩, ⟨some 8, none, .fadr 13 (.t 7), 0, 0⟩, ⟨some 9, none, .load false 1 (.t 8), 0, 0⟩, ⟨some 10, none, .bin
  .lss (.t 9) (.c (.int .i64 0)), 0, 0⟩, ⟨some 11, none, .mv (.t 10), 0, 0⟩, ⟨some 12, some (11, false), .mv (.t 0), 0, 0⟩, ⟨some 13, some (11, false), .nilck (.t 12), 0, 0⟩, ⟨some 14, some (11, false), .fadr 0 (.t 13), 0, 0⟩, ⟨some 15, some
  (11, false), .fadr 13 (.t 14), 0, 0⟩, ⟨some 16, some (11, false), .load false 1 (.t 15), 0, 0⟩, ⟨some 17, some (11, false), .bin .geq (.t 16) (.c (.int .i64 64)), 0, 0⟩, ⟨some 18, none, .pick (.t 11) (.c (.bool true)) (.t 17), 0, 0⟩])
  (.cond (.t 18) (.reg 5 [⟨some 19, none, .mv (.t 0), 0, 0⟩, ⟨some 20, none, .nilck (.t 19), 0, 0⟩, ⟨some 21, none, .fadr 0 (.t 20), 0, 0⟩, ⟨some 22, none, .fadr 13 (.t 21), 0, 0⟩, ⟨none, none, .store 1 (.t 22) (.c (.int .i64 0)) none, 0,
  0⟩]) .skip)) (.seq (.dreg 18 [⟨some 24, none, .mv (.t 0), 0, 0⟩, ⟨some 25, none, .nilck (.t 24), 0, 0⟩, ⟨some 26, none, .fadr 0 (.t 25), 0, 0⟩, ⟨some 27, none, .load true 14 (.t 26), 0, 0⟩, ⟨some 28, none, .mv (.t 0), 0, 0⟩, ⟨some 29,
  none, .nilck (.t 28), 0, 0⟩, ⟨some 30, none, .fadr 0 (.t 29), 0, 0⟩, ⟨some 31, none, .fadr 13 (.t 30), 0, 0⟩, ⟨some 32, none, .load false 1 (.t 31), 0, 0⟩, ⟨some 33, none, .call 37 [(.t 27), (.t 32)], 0, 0⟩, ⟨some 23, none, .mv (.t 33), 0,
  0⟩, ⟨some 34, none, .ext 0 (.t 23), 0, 0⟩, ⟨some 35, none, .ext 1 (.t 23), 0, 0⟩, ⟨some 36, none, .ext 2 (.t 23), 0, 0⟩, ⟨some 2, none, .alloc 14 [(.int .u64 0), (.int .u16 0), (.int .i64 0), (.bool false), (.sl .nil 0 []), (.sl .nil 0
  []), (.sl .nil 0 []), (.sl .nil 0 []), (.sl .nil 0 []), (.sl .nil 0 []), (.sl .nil 0 []), (.int .u32 0), (.int .i64 0), (.int .i64 0)], 0, 0⟩, ⟨none, none, .store 14 (.t 2) (.t 34) none, 0, 0⟩, ⟨some 3, none, .mv (.t 35), 0, 0⟩, ⟨some 4,
  none, .mv (.t 36), 0, 0⟩]) (.seq (.seq (.reg 2 [⟨some 37, none, .mv (.t 4), 0, 0⟩, ⟨some 38, none, .bin .neq (.t 37) (.c (.int .i64 0)), 0, 0⟩]) (.cond (.t 38) .ret .skip)) (.seq (.reg 4 [⟨some 39, none, .mv (.t 0), 0, 0⟩, ⟨some 40, none,
  .load true 14 (.t 2), 0, 0⟩, ⟨some 41, none, .mv (.t 3), 0, 0⟩, ⟨some 42, none, .call 158 [(.t 39), (.t 40), (.t 41)], 0, 0⟩]) (.reg 12 [⟨some 43, none, .mv (.t 0), 0, 0⟩, ⟨some 44, none, .mv (.t 0), 0, 0⟩, ⟨some 45, none, .nilck (.t 44),
  0, 0⟩, ⟨some 46, none, .fadr 0 (.t 45), 0, 0⟩, ⟨some 47, none, .fadr 13 (.t 46), 0, 0⟩, ⟨some 48, none, .load false 1 (.t 47), 0, 0⟩, ⟨some 49, none, .bin .add (.t 48) (.c (.int .i64 1)), 0, 0⟩, ⟨some 50, none, .bin .rem (.t 49) (.c (.int
  .i64 64)), 0, 0⟩, ⟨some 51, none, .nilck (.t 43), 0, 0⟩, ⟨some 52, none, .fadr 0 (.t 51), 0, 0⟩, ⟨some 53, none, .fadr 13 (.t 52), 0, 0⟩, ⟨none, none, .store 1 (.t 53) (.t 50) none, 0, 0⟩]))))), []⟩

def m169 : MF :=
  ⟨10, (.seq (.reg 2 [⟨some 2, none, .box 0 (.t 0), 0, 0⟩, ⟨some 3, none, .mv (.c (.bool false)), 0, 0⟩]) (.seq (.dreg 7 [⟨some 4, none, .load true 14 (.t 1), 0, 1⟩, ⟨some 5, none, .fadr 0 (.t 2), 0, 0⟩, ⟨some 6, none, .load false 1 (.t 5), 0,
  0⟩, ⟨some 7, none, .call 109 [(.t 6)], 0, 0⟩, ⟨some 8, none, .call 170 [(.t 4), (.t 7)], 0, 0⟩, ⟨some 9, none, .un .not (.t 8), 0, 0⟩, ⟨some 3, none, .mv (.t 9), 0, 0⟩]) .ret)), [(.tmp 3)]⟩

def m170 : MF :=
  ⟨22, (.seq (.reg 2 [⟨some 2, none, .box 0 (.t 0), 0, 0⟩, ⟨some 4, none, .mv (.c (.bool false)), 0, 0⟩]) (.seq (.reg 11 [⟨some 9, none, .load true 14 (.t 2), 0, 0⟩, ⟨some 10, none, .mv (.t 1), 0, 0⟩, ⟨some 11, none, .call 174 [(.t 9), (.t
  10)], 0, 0⟩, ⟨some 8, none, .mv (.t 11), 0, 0⟩, ⟨some 12, none, .ext 0 (.t 8), 0, 0⟩, ⟨some 13, none, .ext 1 (.t 8), 0, 0⟩, ⟨some 14, none, .ext 2 (.t 8), 0, 0⟩, ⟨some 5, none, .alloc 7 [(.int .u64 0), (.int .u16 0)], 0, 0⟩, ⟨none, none,
  .store 2 (.t 5) (.t 12) none, 0, 0⟩, ⟨some 6, none, .mv (.t 13), 0, 0⟩, ⟨some 7, none, .mv (.t 14), 0, 0⟩]) (.seq (.reg 8 [⟨some 15, none, .mv (.t 7), 0, 0⟩, ⟨some 16, none, .mv (.t 15), 0, 0⟩, ⟨some 17, some (16, true), .load true 2 (.t
  5), 0, 0⟩, ⟨some 18, some (16, true), .fadr 0 (.t 2), 0, 0⟩, ⟨some 19, some (16, true), .load true 2 (.t 18), 0, 0⟩, ⟨some 20, some (16, true), .eqA false [.i, .i] (.t 17) (.t 19), 0, 0⟩, ⟨some 21, none, .pick (.t 16) (.t 20) (.c (.bool
  false)), 0, 0⟩, ⟨some 4, none, .mv (.t 21), 0, 0⟩]) .ret))), [(.tmp 4)]⟩

def m109 : MF :=
  ⟨6, (.seq (.reg 1 [⟨some 2, none, .mv (.c (.int .u64 0)), 0, 0⟩]) (.seq (.reg 4 [⟨some 3, none, .mv (.t 0), 0, 0⟩, ⟨some 4, none, .call 202 [(.t 3)], 0, 0⟩, ⟨some 5, none, .call 201 [(.t 4)], 0, 0⟩, ⟨some 2, none, .mv (.t 5), 0, 0⟩]) .ret)),
  [(.tmp 2)]⟩

def m201 : MF :=
  ⟨17, (.seq (.reg 1 [⟨some 2, none, .mv (.c (.int .u64 0)), 0, 0⟩]) (.seq (.reg 6 [⟨some 3, none, .mv (.t 0), 0, 0⟩, ⟨some 4, none, .mv (.t 0), 0, 0⟩, ⟨some 5, none, .bin .shr (.t 4) (.c (.int .u64 30)), 0, 0⟩, ⟨some 6, none, .bin .xor (.t 3)
  (.t 5), 0, 0⟩, ⟨some 7, none, .bin .mul (.t 6) (.c (.int .u64 13787848793156543929)), 0, 0⟩, ⟨some 0, none, .mv (.t 7), 0, 0⟩]) (.seq (.reg 6 [⟨some 8, none, .mv (.t 0), 0, 0⟩, ⟨some 9, none, .mv (.t 0), 0, 0⟩, ⟨some 10, none, .bin .shr
  (.t 9) (.c (.int .u64 27)), 0, 0⟩, ⟨some 11, none, .bin .xor (.t 8) (.t 10), 0, 0⟩, ⟨some 12, none, .bin .mul (.t 11) (.c (.int .u64 10723151780598845931)), 0, 0⟩, ⟨some 0, none, .mv (.t 12), 0, 0⟩]) (.seq (.reg 5 [⟨some 13, none, .mv (.t
  0), 0, 0⟩, ⟨some 14, none, .mv (.t 0), 0, 0⟩, ⟨some 15, none, .bin .shr (.t 14) (.c (.int .u64 31)), 0, 0⟩, ⟨some 16, none, .bin .xor (.t 13) (.t 15), 0, 0⟩, ⟨some 2, none, .mv (.t 16), 0, 0⟩]) .ret)))), [(.tmp 2)]⟩

def m202l0 : MC :=
  (.seq (.reg 1 [⟨some 8, none, .bin .lss (.t 7) (.t 6), 0, 0⟩]) (.seq (.cond (.t 8) .skip (.exit 0)) (.seq (.block 1 (.seq (.reg 2 [⟨some 9, none, .mv (.t 7), 0, 0⟩, ⟨some 4, none, .mv (.t 9), 0, 0⟩]) (.reg 8 [⟨some 10, none, .mv (.t 3), 0,
  0⟩, ⟨some 11, none, .mv (.t 0), 0, 0⟩, ⟨some 12, none, .mv (.t 4), 0, 0⟩, ⟨some 13, none, .idx (.t 11) (.t 12), 0, 0⟩, ⟨some 14, none, .convI .u64 (.t 13), 0, 0⟩, ⟨some 15, none, .bin .xor (.t 10) (.t 14), 0, 0⟩, ⟨some 16, none, .bin .mul
  (.t 15) (.c (.int .u64 1099511628211)), 0, 0⟩, ⟨some 3, none, .mv (.t 16), 0, 0⟩]))) (.reg 2 [⟨some 17, none, .bin .add (.t 7) (.c (.int .i64 1)), 0, 0⟩, ⟨some 7, none, .mv (.t 17), 0, 0⟩]))))

def m202 : MF :=
  ⟨19, (.seq (.reg 1 [⟨some 2, none, .mv (.c (.int .u64 0)), 0, 0⟩]) (.seq (.reg 1 [⟨some 3, none, .mv (.c (.int .u64 14695981039346656037)), 0, 0⟩]) (.seq (.seq (.reg 3 [⟨some 5, none, .mv (.t 0), 0, 0⟩, ⟨some 6, none, .len true (.t 5), 0,
  0⟩, ⟨some 7, none, .mv (.c (.int .i64 0)), 0, 0⟩]) (.block 0 (.loop m202l0))) (.seq (.reg 2 [⟨some 18, none, .mv (.t 3), 0, 0⟩, ⟨some 2, none, .mv (.t 18), 0, 0⟩]) .ret)))), [(.tmp 2)]⟩

def m112 : MF :=
  ⟨8, (.seq (.reg 2 [⟨some 3, none, .box 0 (.t 1), 0, 0⟩, ⟨some 4, none, .mv (.c (.bool false)), 0, 0⟩]) (.seq (.reg 4 [⟨some 5, none, .mv (.t 0), 0, 0⟩, ⟨some 6, none, .mkFn 207 [(.t 3)], 0, 0⟩, ⟨some 7, none, .call 206 [(.t 5), (.t 6)], 0,
  0⟩, ⟨some 4, none, .mv (.t 7), 0, 0⟩]) .ret)), [(.tmp 4)]⟩

def m206 : MF :=
  ⟨9, (.seq (.reg 1 [⟨some 4, none, .mv (.c (.bool false)), 0, 0⟩]) (.seq (.reg 5 [⟨some 5, none, .mv (.t 0), 0, 0⟩, ⟨some 6, none, .mv (.t 1), 0, 0⟩, ⟨some 7, none, .call 261 [(.t 5), (.t 6)], 0, 0⟩, ⟨some 8, none, .bin .geq (.t 7) (.c (.int
  .i64 0)), 0, 0⟩, ⟨some 4, none, .mv (.t 8), 0, 0⟩]) .ret)), [(.tmp 4)]⟩

def m207 : MF :=
  ⟨8, (.seq (.reg 2 [⟨some 2, none, .box 0 (.t 0), 0, 0⟩, ⟨some 3, none, .mv (.c (.bool false)), 0, 0⟩]) (.seq (.reg 5 [⟨some 4, none, .fadr 1 (.t 2), 0, 0⟩, ⟨some 5, none, .load false 1 (.t 4), 0, 0⟩, ⟨some 6, none, .load false 1 (.t 1), 0,
  0⟩, ⟨some 7, none, .bin .eql (.t 5) (.t 6), 0, 0⟩, ⟨some 3, none, .mv (.t 7), 0, 0⟩]) .ret)), [(.tmp 3)]⟩

def m114 : MF :=
  ⟨16, (.seq (.reg 1 [⟨some 4, none, .mv (.c (.int .u64 0)), 0, 0⟩]) (.seq (.seq (.reg 6 [⟨some 5, none, .mv (.t 1), 0, 0⟩, ⟨some 6, none, .bin .lss (.t 5) (.c (.int .i64 0)), 0, 0⟩, ⟨some 7, none, .mv (.t 6), 0, 0⟩, ⟨some 8, some (7, false),
  .mv (.t 1), 0, 0⟩, ⟨some 9, some (7, false), .bin .geq (.t 8) (.c (.int .i64 64)), 0, 0⟩, ⟨some 10, none, .pick (.t 7) (.c (.bool true)) (.t 9), 0, 0⟩]) (.cond (.t 10) (.seq (.reg 2 [⟨some 11, none, .mv (.t 0), 0, 0⟩, ⟨some 4, none, .mv
  (.t 11), 0, 0⟩]) .ret) .skip)) (.seq (.reg 5 [⟨some 12, none, .mv (.t 0), 0, 0⟩, ⟨some 13, none, .mv (.t 1), 0, 0⟩, ⟨some 14, none, .bin .shl (.c (.int .u64 1)) (.t 13), 0, 0⟩, ⟨some 15, none, .bin .add (.t 12) (.t 14), 0, 0⟩, ⟨some 4,
  none, .mv (.t 15), 0, 0⟩]) .ret))), [(.tmp 4)]⟩

theorem F17 : progF P 17 = some m17 := by kernel_rfl
theorem F25 : progF P 25 = some m25 := by kernel_rfl
theorem F20 : progF P 20 = some m20 := by kernel_rfl
theorem F156 : progF P 156 = some m156 := by kernel_rfl
theorem F157 : progF P 157 = some m157 := by kernel_rfl
theorem F159 : progF P 159 = some m159 := by kernel_rfl
theorem F63 : progF P 63 = some m63 := by kernel_rfl
theorem F65 : progF P 65 = some m65 := by kernel_rfl
theorem F67 : progF P 67 = some m67 := by kernel_rfl
theorem F37 : progF P 37 = some m37 := by kernel_rfl
theorem F108 : progF P 108 = some m108 := by kernel_rfl
theorem F200 : progF P 200 = some m200 := by kernel_rfl
theorem F55 : progF P 55 = some m55 := by kernel_rfl
theorem F116 : progF P 116 = some m116 := by kernel_rfl
theorem F208 : progF P 208 = some m208 := by kernel_rfl
theorem F262 : progF P 262 = some m262 := by kernel_rfl
theorem F144 : progF P 144 = some m144 := by kernel_rfl
theorem F174 : progF P 174 = some m174 := by kernel_rfl
theorem F97 : progF P 97 = some m97 := by kernel_rfl
theorem F193 : progF P 193 = some m193 := by kernel_rfl
theorem F194 : progF P 194 = some m194 := by kernel_rfl
theorem F176 : progF P 176 = some m176 := by kernel_rfl
theorem F250 : progF P 250 = some m250 := by kernel_rfl
theorem F209 : progF P 209 = some m209 := by kernel_rfl
theorem F263 : progF P 263 = some m263 := by kernel_rfl
theorem F147 : progF P 147 = some m147 := by kernel_rfl
theorem F230 : progF P 230 = some m230 := by kernel_rfl
theorem F269 : progF P 269 = some m269 := by kernel_rfl
theorem F214 : progF P 214 = some (delMF 266 3 [.int .i64 0, .int .u64 0, .int .u16 0]) := by kernel_rfl
theorem F168 : progF P 168 = some (delMF 190 2 [.str (bs []), .str (bs [])]) := by kernel_rfl
theorem F155 : progF P 155 = some m155 := by kernel_rfl
theorem F239 : progF P 239 = some m239 := by kernel_rfl
theorem F240 : progF P 240 = some m240 := by kernel_rfl
theorem F118 : progF P 118 = some m118 := by kernel_rfl
theorem F158 : progF P 158 = some m158 := by kernel_rfl
theorem F164 : progF P 164 = some m164 := by kernel_rfl
theorem F165 : progF P 165 = some m165 := by kernel_rfl
theorem F169 : progF P 169 = some m169 := by kernel_rfl
theorem F170 : progF P 170 = some m170 := by kernel_rfl
theorem F109 : progF P 109 = some m109 := by kernel_rfl
theorem F201 : progF P 201 = some m201 := by kernel_rfl
theorem F202 : progF P 202 = some m202 := by kernel_rfl
theorem F112 : progF P 112 = some m112 := by kernel_rfl
theorem F206 : progF P 206 = some (conMF 261) := by kernel_rfl
theorem F207 : progF P 207 = some m207 := by kernel_rfl
theorem F114 : progF P 114 = some m114 := by kernel_rfl
theorem F142 : progF P 142 = some (idxMF 3) := by kernel_rfl
theorem F190 : progF P 190 = some (idxMF 2) := by kernel_rfl
theorem F261 : progF P 261 = some (idxMF 14) := by kernel_rfl
theorem F266 : progF P 266 = some (idxMF 3) := by kernel_rfl
end Go.Ev.Nd
