/- Texts put together. -/
import Derived.Test.YtifanigkolnedaaPd
import Derived.Test.YtifanigkolnedaaProg
import Derived.KernelRfl
/- The functions that are reached, compiled for the plain machine. -/
namespace Go.Lo
open Go.Proofs
/-- gosem.cut.init -/
def l2 : LFun := ⟨0, 1, [],
 (.reg false [] [] [
 ⟨(some 0), (.call false false false), [(.f 1)], none, []⟩] 0 []),
 []⟩
theorem c2 : funC Try.prog [(0, [])] Try.f2 = some (unF l2) := by kernel_rfl
/-- acme/acmelaw02.ZoneLimits -/
def l3 : LFun := ⟨3, 68, [],
 (.seq
 (.reg false [3, 4] [3, 4] [
 ⟨(some 3), .box, [(.t 0)], none, []⟩,
 ⟨(some 4), .box, [(.t 1)], none, []⟩,
 ⟨(some 6), .mv, [(.c (.bool false))], none, []⟩] 0 [2, 3, 4])
 (.seq
 (.seq
 (.reg false [] [] [
 ⟨(some 13), (.load (some 3)), [(.t 3)], none, []⟩,
 ⟨(some 14), (.call false false false), [(.f 12), (.t 13), (.c (.int .i64 15))], none, []⟩] 0 [2, 3, 4, 14])
 (.cond (.t 14)
 (.seq
 (.reg false [] [] [
 ⟨(some 15), (.call false false false), [(.f 13)], none, []⟩,
 ⟨(some 6), .mv, [(.t 15)], none, []⟩] 0 [6])
 .ret)
 .skip))
 (.seq
 (.reg false [17, 7] [17, 7] [
 ⟨(some 16), (.load (some 3)), [(.t 3)], none, []⟩,
 ⟨(some 17), (.call false true true), [(.f 14), (.t 16)], none, []⟩,
 ⟨(some 7), (.alloc [(.sl none 1 []), (.sl none 1 []), (.sl none 1 [])]), [], none, []⟩,
 ⟨none, (.store 3 none), [(.t 7), (.t 17)], none, []⟩] 0 [2, 3, 4, 7])
 (.seq
 (.reg false [] [] [
 ⟨(some 18), (.load (some 3)), [(.t 7)], none, []⟩,
 ⟨(some 19), (.call false false false), [(.f 15), (.t 18)], none, []⟩,
 ⟨(some 8), .mv, [(.t 19)], none, []⟩] 0 [2, 3, 4, 7, 8])
 (.seq
 (.reg false [9] [9] [
 ⟨(some 21), (.load (some 3)), [(.t 7)], none, [22, 23, 24, 25, 26, 27, 28, 29, 9]⟩,
 ⟨(some 22), (.ixa 3 1), [(.t 4), (.c (.int .i64 0))], none, [21, 24, 25, 27, 28, 29, 9]⟩,
 ⟨(some 23), (.load none), [(.t 22)], none, [21, 24, 25, 27, 28, 29, 9]⟩,
 ⟨(some 24), (.ixa 3 1), [(.t 4), (.c (.int .i64 1))], none, [21, 22, 23, 27, 28, 29, 9]⟩,
 ⟨(some 25), (.load none), [(.t 24)], none, [21, 22, 23, 27, 28, 29, 9]⟩,
 ⟨(some 26), (.call true false false), [(.f 17), (.t 23), (.t 25)], none, [21, 27, 28, 29, 9]⟩,
 ⟨(some 27), .mv, [(.t 2)], none, [21, 22, 23, 24, 25, 26, 28, 29, 9]⟩,
 ⟨(some 28), (.ixa 3 1), [(.t 4), (.c (.int .i64 2))], none, [21, 22, 23, 24, 25, 26, 27, 9]⟩,
 ⟨(some 29), (.load none), [(.t 28)], none, [21, 22, 23, 24, 25, 26, 27, 9]⟩,
 ⟨(some 30), (.call true false false), [(.f 16), (.t 21), (.t 26), (.t 27), (.t 29)], none, [9]⟩,
 ⟨(some 20), .mv, [(.t 30)], none, [9]⟩,
 ⟨(some 31), (.ext 0), [(.t 20)], none, [32, 9]⟩,
 ⟨(some 32), (.ext 1), [(.t 20)], none, [31, 9]⟩,
 ⟨(some 9), (.alloc [(.int .i64 0), (.int .i64 0)]), [], none, [21, 22, 23, 24, 25, 26, 27, 28, 29, 30, 20, 31, 32]⟩,
 ⟨none, (.store 2 (some 9)), [(.t 9), (.t 31)], none, [32]⟩,
 ⟨(some 10), .mv, [(.t 32)], none, []⟩] 0 [2, 3, 4, 7, 8, 9, 10])
 (.seq
 (.reg false [11] [11] [
 ⟨(some 34), (.load (some 3)), [(.t 3)], none, [35, 36, 37, 38, 39, 40, 41, 42, 11]⟩,
 ⟨(some 35), (.ixa 3 1), [(.t 4), (.c (.int .i64 0))], none, [34, 37, 38, 40, 41, 42, 11]⟩,
 ⟨(some 36), (.load none), [(.t 35)], none, [34, 37, 38, 40, 41, 42, 11]⟩,
 ⟨(some 37), (.ixa 3 1), [(.t 4), (.c (.int .i64 1))], none, [34, 35, 36, 40, 41, 42, 11]⟩,
 ⟨(some 38), (.load none), [(.t 37)], none, [34, 35, 36, 40, 41, 42, 11]⟩,
 ⟨(some 39), (.call true false false), [(.f 17), (.t 36), (.t 38)], none, [34, 40, 41, 42, 11]⟩,
 ⟨(some 40), .mv, [(.t 2)], none, [34, 35, 36, 37, 38, 39, 41, 42, 11]⟩,
 ⟨(some 41), (.ixa 3 1), [(.t 4), (.c (.int .i64 2))], none, [34, 35, 36, 37, 38, 39, 40, 11]⟩,
 ⟨(some 42), (.load none), [(.t 41)], none, [34, 35, 36, 37, 38, 39, 40, 11]⟩,
 ⟨(some 43), (.call true false false), [(.f 18), (.t 34), (.t 39), (.t 40), (.t 42)], none, [11]⟩,
 ⟨(some 33), .mv, [(.t 43)], none, [11]⟩,
 ⟨(some 44), (.ext 0), [(.t 33)], none, [45, 11]⟩,
 ⟨(some 45), (.ext 1), [(.t 33)], none, [44, 11]⟩,
 ⟨(some 11), (.alloc [(.int .i64 0), (.int .i64 0)]), [], none, [34, 35, 36, 37, 38, 39, 40, 41, 42, 43, 33, 44, 45]⟩,
 ⟨none, (.store 2 (some 11)), [(.t 11), (.t 44)], none, [45]⟩,
 ⟨(some 12), .mv, [(.t 45)], none, []⟩] 0 [3, 7, 8, 9, 10, 11, 12])
 (.seq
 (.reg false [] [] [
 ⟨(some 46), (.load (some 3)), [(.t 7)], none, []⟩,
 ⟨(some 47), (.load (some 3)), [(.t 3)], none, []⟩,
 ⟨(some 48), (.call false false false), [(.f 19), (.t 46), (.t 47)], none, []⟩,
 ⟨(some 49), .mv, [(.t 48)], none, []⟩,
 ⟨(some 50), .mv, [(.t 8)], (some (49, true)), []⟩,
 ⟨(some 51), (.load (some 3)), [(.t 3)], (some (49, true)), []⟩,
 ⟨(some 52), (.call false false false), [(.f 20), (.t 51)], (some (49, true)), []⟩,
 ⟨(some 53), (.bin 0 .eql), [(.t 50), (.t 52)], (some (49, true)), []⟩,
 ⟨(some 54), .pick, [(.t 49), (.t 53), (.c (.bool false))], none, []⟩,
 ⟨(some 55), .mv, [(.t 54)], none, []⟩,
 ⟨(some 56), (.load (some 2)), [(.t 9)], (some (55, true)), []⟩,
 ⟨(some 57), (.load (some 2)), [(.t 11)], (some (55, true)), []⟩,
 ⟨(some 58), (.eqs false [(some .i64), (some .i64)]), [(.t 56), (.t 57)], (some (55, true)), []⟩,
 ⟨(some 59), .pick, [(.t 55), (.t 58), (.c (.bool false))], none, []⟩,
 ⟨(some 60), .mv, [(.t 59)], none, []⟩,
 ⟨(some 61), .mv, [(.t 10)], (some (60, true)), []⟩,
 ⟨(some 62), .mv, [(.t 12)], (some (60, true)), []⟩,
 ⟨(some 63), (.bin 0 .eql), [(.t 61), (.t 62)], (some (60, true)), []⟩,
 ⟨(some 64), .pick, [(.t 60), (.t 63), (.c (.bool false))], none, []⟩,
 ⟨(some 65), .mv, [(.t 64)], none, []⟩,
 ⟨(some 66), (.call false false false), [(.f 13)], (some (65, true)), []⟩,
 ⟨(some 67), .pick, [(.t 65), (.t 66), (.c (.bool false))], none, []⟩,
 ⟨(some 6), .mv, [(.t 67)], none, []⟩] 0 [6])
 .ret))))))),
 [(.t 6)]⟩
theorem c3 : funC Try.prog [(0, [2, 3, 4]), (1, [2, 3, 4, 14]), (2, [6]), (3, [2, 3, 4, 7]), (4, [2, 3, 4, 7, 8]), (5, [2, 3, 4, 7, 8, 9, 10]), (6, [3, 7, 8, 9, 10, 11, 12]), (7, [6])] Try.f3 = some (unF l3) := by kernel_rfl
/-- acme/acmelaw02.ZoneCoats -/
def l4 : LFun := ⟨3, 197, [],
 (.seq
 (.reg false [3, 4] [3, 4] [
 ⟨(some 3), .box, [(.t 0)], none, []⟩,
 ⟨(some 4), .box, [(.t 1)], none, []⟩,
 ⟨(some 6), .mv, [(.c (.bool false))], none, []⟩] 0 [2, 3, 4])
 (.seq
 (.reg false [7] [7] [
 ⟨(some 15), (.load (some 2)), [(.t 3)], none, []⟩,
 ⟨(some 16), .mv, [(.t 2)], none, []⟩,
 ⟨(some 17), (.load (some 4)), [(.t 4)], none, []⟩,
 ⟨(some 18), (.call false false false), [(.f 21), (.t 15), (.t 16), (.t 17)], none, []⟩,
 ⟨(some 14), .mv, [(.t 18)], none, []⟩,
 ⟨(some 19), (.ext 0), [(.t 14)], none, []⟩,
 ⟨(some 20), (.ext 1), [(.t 14)], none, []⟩,
 ⟨(some 7), (.alloc [(.int .i64 0), (.int .i64 0)]), [], none, []⟩,
 ⟨none, (.store 2 none), [(.t 7), (.t 19)], none, []⟩,
 ⟨(some 8), .mv, [(.t 20)], none, []⟩] 0 [2, 3, 4, 7, 8])
 (.seq
 (.reg false [9] [9] [
 ⟨(some 22), (.load (some 2)), [(.t 3)], none, []⟩,
 ⟨(some 23), .mv, [(.t 2)], none, []⟩,
 ⟨(some 24), (.load (some 4)), [(.t 4)], none, []⟩,
 ⟨(some 25), (.call false false false), [(.f 22), (.t 22), (.t 23), (.t 24)], none, []⟩,
 ⟨(some 21), .mv, [(.t 25)], none, []⟩,
 ⟨(some 26), (.ext 0), [(.t 21)], none, []⟩,
 ⟨(some 27), (.ext 1), [(.t 21)], none, []⟩,
 ⟨(some 9), (.alloc [(.int .i64 0), (.int .i64 0)]), [], none, []⟩,
 ⟨none, (.store 2 none), [(.t 9), (.t 26)], none, []⟩,
 ⟨(some 10), .mv, [(.t 27)], none, []⟩] 0 [2, 3, 4, 7, 8, 9, 10])
 (.seq
 (.seq
 (.reg false [] [] [
 ⟨(some 28), (.load (some 2)), [(.t 3)], none, []⟩,
 ⟨(some 29), (.call false false false), [(.f 23), (.t 28), (.c (.int .i64 (-20000000))), (.c (.int .i64 20000000))], none, []⟩,
 ⟨(some 30), (.un .not), [(.t 29)], none, []⟩,
 ⟨(some 31), .mv, [(.t 30)], none, []⟩,
 ⟨(some 32), (.load (some 4)), [(.t 4)], (some (31, false)), []⟩,
 ⟨(some 33), (.call false false false), [(.f 24), (.t 32)], (some (31, false)), []⟩,
 ⟨(some 34), (.un .not), [(.t 33)], (some (31, false)), []⟩,
 ⟨(some 35), .pick, [(.t 31), (.c (.bool true)), (.t 34)], none, []⟩] 0 [2, 3, 4, 7, 8, 9, 10, 35])
 (.cond (.t 35)
 (.seq
 (.reg false [] [] [
 ⟨(some 36), .mv, [(.t 8)], none, []⟩,
 ⟨(some 37), (.bin 0 .eql), [(.t 36), (.c (.int .i64 2))], none, []⟩,
 ⟨(some 38), .mv, [(.t 37)], none, []⟩,
 ⟨(some 39), .mv, [(.t 10)], (some (38, true)), []⟩,
 ⟨(some 40), .mv, [(.t 8)], (some (38, true)), []⟩,
 ⟨(some 41), (.bin 0 .eql), [(.t 39), (.t 40)], (some (38, true)), []⟩,
 ⟨(some 42), .pick, [(.t 38), (.t 41), (.c (.bool false))], none, []⟩,
 ⟨(some 43), .mv, [(.t 42)], none, []⟩,
 ⟨(some 44), (.load (some 2)), [(.t 7)], (some (43, true)), []⟩,
 ⟨(some 45), (.build [(.int .i64 0), (.int .i64 0)] []), [], (some (43, true)), []⟩,
 ⟨(some 46), (.eqs false [(some .i64), (some .i64)]), [(.t 44), (.t 45)], (some (43, true)), []⟩,
 ⟨(some 47), .pick, [(.t 43), (.t 46), (.c (.bool false))], none, []⟩,
 ⟨(some 48), .mv, [(.t 47)], none, []⟩,
 ⟨(some 49), (.load (some 2)), [(.t 9)], (some (48, true)), []⟩,
 ⟨(some 50), (.load (some 2)), [(.t 7)], (some (48, true)), []⟩,
 ⟨(some 51), (.eqs false [(some .i64), (some .i64)]), [(.t 49), (.t 50)], (some (48, true)), []⟩,
 ⟨(some 52), .pick, [(.t 48), (.t 51), (.c (.bool false))], none, []⟩,
 ⟨(some 53), .mv, [(.t 52)], none, []⟩,
 ⟨(some 54), (.call false false false), [(.f 13)], (some (53, true)), []⟩,
 ⟨(some 55), .pick, [(.t 53), (.t 54), (.c (.bool false))], none, []⟩,
 ⟨(some 6), .mv, [(.t 55)], none, []⟩] 0 [6])
 .ret)
 .skip))
 (.seq
 (.reg false [] [] [
 ⟨(some 56), (.fa 0), [(.t 3)], none, [58, 59, 60, 61, 62, 64, 65, 66, 67, 68, 69, 70]⟩,
 ⟨(some 57), (.load none), [(.t 56)], none, [58, 59, 60, 61, 62, 64, 65, 66, 67, 68, 69, 70]⟩,
 ⟨(some 58), .mv, [(.t 2)], none, [56, 57, 59, 60, 61, 62, 64, 65, 66, 67, 68, 69, 70]⟩,
 ⟨(some 59), (.fa 0), [(.t 4)], none, [56, 57, 58, 62, 64, 65, 66, 67, 68, 69, 70]⟩,
 ⟨(some 60), (.fa 0), [(.t 59)], none, [56, 57, 58, 62, 64, 65, 66, 67, 68, 69, 70]⟩,
 ⟨(some 61), (.load none), [(.t 60)], none, [56, 57, 58, 62, 64, 65, 66, 67, 68, 69, 70]⟩,
 ⟨(some 62), (.load (some 4)), [(.t 4)], none, [56, 57, 58, 59, 60, 61, 64, 65, 66, 67, 68, 69, 70]⟩,
 ⟨(some 63), (.call true false false), [(.f 25), (.t 57), (.t 58), (.t 61), (.t 62)], none, [64, 65, 66, 67, 68, 69, 70]⟩,
 ⟨(some 64), (.fa 1), [(.t 3)], none, [56, 57, 58, 59, 60, 61, 62, 63, 66, 67, 68, 69, 70]⟩,
 ⟨(some 65), (.load none), [(.t 64)], none, [56, 57, 58, 59, 60, 61, 62, 63, 66, 67, 68, 69, 70]⟩,
 ⟨(some 66), .mv, [(.t 2)], none, [56, 57, 58, 59, 60, 61, 62, 63, 64, 65, 67, 68, 69, 70]⟩,
 ⟨(some 67), (.fa 0), [(.t 4)], none, [56, 57, 58, 59, 60, 61, 62, 63, 64, 65, 66, 70]⟩,
 ⟨(some 68), (.fa 1), [(.t 67)], none, [56, 57, 58, 59, 60, 61, 62, 63, 64, 65, 66, 70]⟩,
 ⟨(some 69), (.load none), [(.t 68)], none, [56, 57, 58, 59, 60, 61, 62, 63, 64, 65, 66, 70]⟩,
 ⟨(some 70), (.load (some 4)), [(.t 4)], none, [56, 57, 58, 59, 60, 61, 62, 63, 64, 65, 66, 67, 68, 69]⟩,
 ⟨(some 71), (.call true false false), [(.f 25), (.t 65), (.t 66), (.t 69), (.t 70)], none, []⟩,
 ⟨(some 11), .mv, [(.t 63)], none, []⟩,
 ⟨(some 12), .mv, [(.t 71)], none, []⟩] 0 [2, 3, 4, 7, 8, 9, 10, 11, 12])
 (.seq
 (.seq
 (.reg false [] [] [
 ⟨(some 72), .mv, [(.t 2)], none, []⟩] 0 [2, 3, 4, 7, 8, 9, 10, 11, 12, 72])
 (.cond (.t 72)
 (.reg false [] [] [
 ⟨(some 73), (.fa 0), [(.t 3)], none, [75, 76, 77, 78, 79, 81, 82, 83, 84, 85, 86, 87]⟩,
 ⟨(some 74), (.load none), [(.t 73)], none, [75, 76, 77, 78, 79, 81, 82, 83, 84, 85, 86, 87]⟩,
 ⟨(some 75), .mv, [(.t 2)], none, [73, 74, 76, 77, 78, 79, 81, 82, 83, 84, 85, 86, 87]⟩,
 ⟨(some 76), (.fa 0), [(.t 4)], none, [73, 74, 75, 79, 81, 82, 83, 84, 85, 86, 87]⟩,
 ⟨(some 77), (.fa 1), [(.t 76)], none, [73, 74, 75, 79, 81, 82, 83, 84, 85, 86, 87]⟩,
 ⟨(some 78), (.load none), [(.t 77)], none, [73, 74, 75, 79, 81, 82, 83, 84, 85, 86, 87]⟩,
 ⟨(some 79), (.load (some 4)), [(.t 4)], none, [73, 74, 75, 76, 77, 78, 81, 82, 83, 84, 85, 86, 87]⟩,
 ⟨(some 80), (.call true false false), [(.f 25), (.t 74), (.t 75), (.t 78), (.t 79)], none, [81, 82, 83, 84, 85, 86, 87]⟩,
 ⟨(some 81), (.fa 1), [(.t 3)], none, [73, 74, 75, 76, 77, 78, 79, 80, 83, 84, 85, 86, 87]⟩,
 ⟨(some 82), (.load none), [(.t 81)], none, [73, 74, 75, 76, 77, 78, 79, 80, 83, 84, 85, 86, 87]⟩,
 ⟨(some 83), .mv, [(.t 2)], none, [73, 74, 75, 76, 77, 78, 79, 80, 81, 82, 84, 85, 86, 87]⟩,
 ⟨(some 84), (.fa 0), [(.t 4)], none, [73, 74, 75, 76, 77, 78, 79, 80, 81, 82, 83, 87]⟩,
 ⟨(some 85), (.fa 0), [(.t 84)], none, [73, 74, 75, 76, 77, 78, 79, 80, 81, 82, 83, 87]⟩,
 ⟨(some 86), (.load none), [(.t 85)], none, [73, 74, 75, 76, 77, 78, 79, 80, 81, 82, 83, 87]⟩,
 ⟨(some 87), (.load (some 4)), [(.t 4)], none, [73, 74, 75, 76, 77, 78, 79, 80, 81, 82, 83, 84, 85, 86]⟩,
 ⟨(some 88), (.call true false false), [(.f 25), (.t 82), (.t 83), (.t 86), (.t 87)], none, []⟩,
 ⟨(some 11), .mv, [(.t 80)], none, []⟩,
 ⟨(some 12), .mv, [(.t 88)], none, []⟩] 0 [2, 3, 4, 7, 8, 9, 10, 11, 12])
 .skip))
 (.seq
 (.seq
 (.reg false [] [] [
 ⟨(some 89), .mv, [(.t 10)], none, []⟩,
 ⟨(some 90), (.bin 0 .neq), [(.t 89), (.c (.int .i64 0))], none, []⟩,
 ⟨(some 91), .mv, [(.t 90)], none, []⟩,
 ⟨(some 92), (.load (some 2)), [(.t 9)], (some (91, false)), [93, 94, 95, 96, 97, 98, 99, 100, 101, 102, 103]⟩,
 ⟨(some 93), .mv, [(.t 11)], (some (91, false)), [92, 94, 95, 96, 98, 99, 100, 101]⟩,
 ⟨(some 94), (.fa 2), [(.t 4)], (some (91, false)), [92, 93, 98, 99, 100, 101]⟩,
 ⟨(some 95), (.fa 1), [(.t 94)], (some (91, false)), [92, 93, 98, 99, 100, 101]⟩,
 ⟨(some 96), (.load none), [(.t 95)], (some (91, false)), [92, 93, 98, 99, 100, 101]⟩,
 ⟨(some 97), (.call true false false), [(.f 27), (.t 93), (.t 96)], (some (91, false)), [92, 98, 99, 100, 101]⟩,
 ⟨(some 98), .mv, [(.t 12)], (some (91, false)), [92, 93, 94, 95, 96, 97, 99, 100, 101]⟩,
 ⟨(some 99), (.fa 2), [(.t 4)], (some (91, false)), [92, 93, 94, 95, 96, 97, 98]⟩,
 ⟨(some 100), (.fa 1), [(.t 99)], (some (91, false)), [92, 93, 94, 95, 96, 97, 98]⟩,
 ⟨(some 101), (.load none), [(.t 100)], (some (91, false)), [92, 93, 94, 95, 96, 97, 98]⟩,
 ⟨(some 102), (.call true false false), [(.f 28), (.t 98), (.t 101)], (some (91, false)), [92]⟩,
 ⟨(some 103), (.call true false false), [(.f 26), (.t 97), (.t 102)], (some (91, false)), [92]⟩,
 ⟨(some 104), (.eqs true [(some .i64), (some .i64)]), [(.t 92), (.t 103)], (some (91, false)), []⟩,
 ⟨(some 105), .pick, [(.t 91), (.c (.bool true)), (.t 104)], none, []⟩] 0 [2, 3, 4, 7, 8, 105])
 (.cond (.t 105)
 (.seq
 (.reg false [] [] [
 ⟨(some 6), .mv, [(.c (.bool false))], none, []⟩] 0 [6])
 .ret)
 .skip))
 (.seq
 (.seq
 (.reg false [] [] [
 ⟨(some 106), .mv, [(.t 8)], none, []⟩,
 ⟨(some 107), (.bin 0 .eql), [(.t 106), (.c (.int .i64 0))], none, []⟩] 0 [2, 3, 4, 7, 8, 107])
 (.cond (.t 107)
 (.seq
 (.reg false [] [] [
 ⟨(some 108), (.fa 0), [(.t 7)], none, []⟩,
 ⟨(some 109), (.load none), [(.t 108)], none, []⟩,
 ⟨(some 110), (.fa 1), [(.t 7)], none, []⟩,
 ⟨(some 111), (.load none), [(.t 110)], none, []⟩,
 ⟨(some 112), (.bin 0 .leq), [(.t 109), (.t 111)], none, []⟩,
 ⟨(some 113), .mv, [(.t 112)], none, []⟩,
 ⟨(some 114), (.fa 0), [(.t 7)], (some (113, true)), []⟩,
 ⟨(some 115), (.load none), [(.t 114)], (some (113, true)), []⟩,
 ⟨(some 116), (.load (some 2)), [(.t 3)], (some (113, true)), []⟩,
 ⟨(some 117), .mv, [(.t 2)], (some (113, true)), []⟩,
 ⟨(some 118), (.load (some 4)), [(.t 4)], (some (113, true)), []⟩,
 ⟨(some 119), (.call false false false), [(.f 29), (.t 115), (.t 116), (.t 117), (.t 118)], (some (113, true)), []⟩,
 ⟨(some 120), .pick, [(.t 113), (.t 119), (.c (.bool false))], none, []⟩,
 ⟨(some 121), .mv, [(.t 120)], none, []⟩,
 ⟨(some 122), (.fa 1), [(.t 7)], (some (121, true)), []⟩,
 ⟨(some 123), (.load none), [(.t 122)], (some (121, true)), []⟩,
 ⟨(some 124), (.load (some 2)), [(.t 3)], (some (121, true)), []⟩,
 ⟨(some 125), .mv, [(.t 2)], (some (121, true)), []⟩,
 ⟨(some 126), (.load (some 4)), [(.t 4)], (some (121, true)), []⟩,
 ⟨(some 127), (.call false false false), [(.f 29), (.t 123), (.t 124), (.t 125), (.t 126)], (some (121, true)), []⟩,
 ⟨(some 128), .pick, [(.t 121), (.t 127), (.c (.bool false))], none, []⟩,
 ⟨(some 129), .mv, [(.t 128)], none, []⟩,
 ⟨(some 130), (.fa 0), [(.t 7)], (some (129, true)), []⟩,
 ⟨(some 131), (.load none), [(.t 130)], (some (129, true)), []⟩,
 ⟨(some 132), (.bin 0 .sub), [(.t 131), (.c (.int .i64 1))], (some (129, true)), []⟩,
 ⟨(some 133), (.load (some 2)), [(.t 3)], (some (129, true)), []⟩,
 ⟨(some 134), .mv, [(.t 2)], (some (129, true)), []⟩,
 ⟨(some 135), (.load (some 4)), [(.t 4)], (some (129, true)), []⟩,
 ⟨(some 136), (.call false false false), [(.f 29), (.t 132), (.t 133), (.t 134), (.t 135)], (some (129, true)), []⟩,
 ⟨(some 137), (.un .not), [(.t 136)], (some (129, true)), []⟩,
 ⟨(some 138), .pick, [(.t 129), (.t 137), (.c (.bool false))], none, []⟩,
 ⟨(some 139), .mv, [(.t 138)], none, []⟩,
 ⟨(some 140), (.fa 1), [(.t 7)], (some (139, true)), []⟩,
 ⟨(some 141), (.load none), [(.t 140)], (some (139, true)), []⟩,
 ⟨(some 142), (.bin 0 .add), [(.t 141), (.c (.int .i64 1))], (some (139, true)), []⟩,
 ⟨(some 143), (.load (some 2)), [(.t 3)], (some (139, true)), []⟩,
 ⟨(some 144), .mv, [(.t 2)], (some (139, true)), []⟩,
 ⟨(some 145), (.load (some 4)), [(.t 4)], (some (139, true)), []⟩,
 ⟨(some 146), (.call false false false), [(.f 29), (.t 142), (.t 143), (.t 144), (.t 145)], (some (139, true)), []⟩,
 ⟨(some 147), (.un .not), [(.t 146)], (some (139, true)), []⟩,
 ⟨(some 148), .pick, [(.t 139), (.t 147), (.c (.bool false))], none, []⟩,
 ⟨(some 149), .mv, [(.t 148)], none, []⟩,
 ⟨(some 150), (.call false false false), [(.f 13)], (some (149, true)), []⟩,
 ⟨(some 151), .pick, [(.t 149), (.t 150), (.c (.bool false))], none, []⟩,
 ⟨(some 6), .mv, [(.t 151)], none, []⟩] 0 [6])
 .ret)
 .skip))
 (.seq
 (.seq
 (.reg false [] [] [
 ⟨(some 152), .mv, [(.t 8)], none, []⟩,
 ⟨(some 153), (.bin 0 .neq), [(.t 152), (.c (.int .i64 9))], none, []⟩,
 ⟨(some 154), .mv, [(.t 153)], none, []⟩,
 ⟨(some 155), (.load (some 2)), [(.t 7)], (some (154, false)), []⟩,
 ⟨(some 156), (.build [(.int .i64 0), (.int .i64 0)] []), [], (some (154, false)), []⟩,
 ⟨(some 157), (.eqs true [(some .i64), (some .i64)]), [(.t 155), (.t 156)], (some (154, false)), []⟩,
 ⟨(some 158), .pick, [(.t 154), (.c (.bool true)), (.t 157)], none, []⟩] 0 [2, 3, 4, 158])
 (.cond (.t 158)
 (.seq
 (.reg false [] [] [
 ⟨(some 6), .mv, [(.c (.bool false))], none, []⟩] 0 [6])
 .ret)
 .skip))
 (.seq
 (.reg false [] [] [
 ⟨(some 159), (.fa 0), [(.t 3)], none, [161, 162, 163, 164, 165, 166, 167, 168, 169, 170, 171]⟩,
 ⟨(some 160), (.load none), [(.t 159)], none, [161, 162, 163, 164, 165, 166, 167, 168, 169, 170, 171]⟩,
 ⟨(some 161), (.fa 0), [(.t 4)], none, [159, 160, 164, 165, 166, 168, 169, 170]⟩,
 ⟨(some 162), (.fa 0), [(.t 161)], none, [159, 160, 164, 165, 166, 168, 169, 170]⟩,
 ⟨(some 163), (.load none), [(.t 162)], none, [159, 160, 164, 165, 166, 168, 169, 170]⟩,
 ⟨(some 164), (.fa 2), [(.t 4)], none, [159, 160, 161, 162, 163, 168, 169, 170]⟩,
 ⟨(some 165), (.fa 0), [(.t 164)], none, [159, 160, 161, 162, 163, 168, 169, 170]⟩,
 ⟨(some 166), (.load none), [(.t 165)], none, [159, 160, 161, 162, 163, 168, 169, 170]⟩,
 ⟨(some 167), (.bin 0 .mul), [(.t 163), (.t 166)], none, [159, 160, 168, 169, 170]⟩,
 ⟨(some 168), (.fa 2), [(.t 4)], none, [159, 160, 161, 162, 163, 164, 165, 166, 167]⟩,
 ⟨(some 169), (.fa 1), [(.t 168)], none, [159, 160, 161, 162, 163, 164, 165, 166, 167]⟩,
 ⟨(some 170), (.load none), [(.t 169)], none, [159, 160, 161, 162, 163, 164, 165, 166, 167]⟩,
 ⟨(some 171), (.call true false false), [(.f 27), (.t 167), (.t 170)], none, [159, 160]⟩,
 ⟨(some 172), (.bin 0 .sub), [(.t 160), (.t 171)], none, []⟩,
 ⟨(some 13), .mv, [(.t 172)], none, []⟩] 0 [2, 3, 4, 13])
 (.seq
 (.seq
 (.reg false [] [] [
 ⟨(some 173), .mv, [(.t 2)], none, []⟩] 0 [2, 3, 4, 13, 173])
 (.cond (.t 173)
 (.reg false [] [] [
 ⟨(some 174), (.fa 0), [(.t 3)], none, [176, 177, 178, 179, 180, 181, 182, 183, 184, 185, 186]⟩,
 ⟨(some 175), (.load none), [(.t 174)], none, [176, 177, 178, 179, 180, 181, 182, 183, 184, 185, 186]⟩,
 ⟨(some 176), (.fa 0), [(.t 4)], none, [174, 175, 179, 180, 181, 183, 184, 185]⟩,
 ⟨(some 177), (.fa 1), [(.t 176)], none, [174, 175, 179, 180, 181, 183, 184, 185]⟩,
 ⟨(some 178), (.load none), [(.t 177)], none, [174, 175, 179, 180, 181, 183, 184, 185]⟩,
 ⟨(some 179), (.fa 2), [(.t 4)], none, [174, 175, 176, 177, 178, 183, 184, 185]⟩,
 ⟨(some 180), (.fa 0), [(.t 179)], none, [174, 175, 176, 177, 178, 183, 184, 185]⟩,
 ⟨(some 181), (.load none), [(.t 180)], none, [174, 175, 176, 177, 178, 183, 184, 185]⟩,
 ⟨(some 182), (.bin 0 .mul), [(.t 178), (.t 181)], none, [174, 175, 183, 184, 185]⟩,
 ⟨(some 183), (.fa 2), [(.t 4)], none, [174, 175, 176, 177, 178, 179, 180, 181, 182]⟩,
 ⟨(some 184), (.fa 1), [(.t 183)], none, [174, 175, 176, 177, 178, 179, 180, 181, 182]⟩,
 ⟨(some 185), (.load none), [(.t 184)], none, [174, 175, 176, 177, 178, 179, 180, 181, 182]⟩,
 ⟨(some 186), (.call true false false), [(.f 28), (.t 182), (.t 185)], none, [174, 175]⟩,
 ⟨(some 187), (.bin 0 .add), [(.t 175), (.t 186)], none, []⟩,
 ⟨(some 13), .mv, [(.t 187)], none, []⟩] 0 [2, 3, 4, 13])
 .skip))
 (.seq
 (.reg false [] [] [
 ⟨(some 188), .mv, [(.t 13)], none, []⟩,
 ⟨(some 189), (.load (some 2)), [(.t 3)], none, []⟩,
 ⟨(some 190), .mv, [(.t 2)], none, []⟩,
 ⟨(some 191), (.load (some 4)), [(.t 4)], none, []⟩,
 ⟨(some 192), (.call false false false), [(.f 29), (.t 188), (.t 189), (.t 190), (.t 191)], none, []⟩,
 ⟨(some 193), (.un .not), [(.t 192)], none, []⟩,
 ⟨(some 194), .mv, [(.t 193)], none, []⟩,
 ⟨(some 195), (.call false false false), [(.f 13)], (some (194, true)), []⟩,
 ⟨(some 196), .pick, [(.t 194), (.t 195), (.c (.bool false))], none, []⟩,
 ⟨(some 6), .mv, [(.t 196)], none, []⟩] 0 [6])
 .ret)))))))))))),
 [(.t 6)]⟩
theorem c4 : funC Try.prog [(0, [2, 3, 4]), (1, [2, 3, 4, 7, 8]), (2, [2, 3, 4, 7, 8, 9, 10]), (3, [2, 3, 4, 7, 8, 9, 10, 35]), (4, [6]), (5, [2, 3, 4, 7, 8, 9, 10, 11, 12]), (6, [2, 3, 4, 7, 8, 9, 10, 11, 12, 72]), (7, [2, 3, 4, 7, 8, 9, 10, 11, 12]), (8, [2, 3, 4, 7, 8, 105]), (9, [6]), (10, [2, 3, 4, 7, 8, 107]), (11, [6]), (12, [2, 3, 4, 158]), (13, [6]), (14, [2, 3, 4, 13]), (15, [2, 3, 4, 13, 173]), (16, [2, 3, 4, 13]), (17, [6])] Try.f4 = some (unF l4) := by kernel_rfl
/-- acme/acmelaw02.ZonePairs -/
def b5_0 : LCode :=
 (.seq
 (.seq
 (.reg true [] [] [
 ⟨(some 172), .mv, [(.t 26)], none, []⟩,
 ⟨(some 173), .mv, [(.t 23)], none, []⟩,
 ⟨(some 174), .len, [(.t 173)], none, []⟩,
 ⟨(some 175), (.bin 0 .lss), [(.t 172), (.t 174)], none, []⟩] 0 [3, 12, 14, 15, 20, 23, 24, 25, 26, 175])
 (.cond (.t 175)
 .skip
 (.exit 0)))
 (.seq
 (.block 1
 (.seq
 (.seq
 (.reg true [] [] [
 ⟨(some 178), .mv, [(.t 12)], none, [179, 182, 183, 184, 185]⟩,
 ⟨(some 179), .mv, [(.t 26)], none, [178, 182, 183, 184, 185]⟩,
 ⟨(some 180), (.ixs 4), [(.t 178), (.t 179)], none, [182, 183, 184, 185]⟩,
 ⟨(some 181), (.load (some 4)), [(.t 180)], none, [182, 183, 184, 185]⟩,
 ⟨(some 182), .mv, [(.t 23)], none, [178, 179, 180, 181, 183]⟩,
 ⟨(some 183), .mv, [(.t 26)], none, [178, 179, 180, 181, 182]⟩,
 ⟨(some 184), (.ixs 4), [(.t 182), (.t 183)], none, [178, 179, 180, 181]⟩,
 ⟨(some 185), (.load (some 4)), [(.t 184)], none, [178, 179, 180, 181]⟩,
 ⟨(some 186), (.eqs true [(some .i64), (some .i64), (some .i64), (some .i64)]), [(.t 181), (.t 185)], none, []⟩] 0 [3, 12, 14, 15, 20, 23, 24, 25, 26, 186])
 (.cond (.t 186)
 (.seq
 (.reg true [] [] [
 ⟨(some 6), .mv, [(.c (.bool false))], none, []⟩] 0 [6])
 .ret)
 .skip))
 (.seq
 (.reg true [] [] [
 ⟨(some 187), (.fa 1), [(.t 3)], none, [189, 190, 191, 192, 193, 194, 197, 200, 201, 202, 203, 204, 205, 206, 207, 208, 209, 210, 211, 212]⟩,
 ⟨(some 188), (.load none), [(.t 187)], none, [189, 190, 191, 192, 193, 194, 197, 200, 201, 202, 203, 204, 205, 206, 207, 208, 209, 210, 211, 212]⟩,
 ⟨(some 189), .mv, [(.t 23)], none, [187, 188, 190, 197, 200, 201, 202, 203, 204, 205, 206, 207, 208, 209, 210, 211, 212]⟩,
 ⟨(some 190), .mv, [(.t 26)], none, [187, 188, 189, 197, 200, 201, 202, 203, 204, 205, 206, 207, 208, 209, 210, 211, 212]⟩,
 ⟨(some 191), (.ixs 4), [(.t 189), (.t 190)], none, [187, 188, 197, 200, 201, 202, 203, 204, 205, 206, 207, 208, 209, 210, 211, 212]⟩,
 ⟨(some 192), (.fa 0), [(.t 191)], none, [187, 188, 197, 200, 201, 202, 203, 204, 205, 206, 207, 208, 209, 210, 211, 212]⟩,
 ⟨(some 193), (.fa 1), [(.t 192)], none, [187, 188, 197, 200, 201, 202, 203, 204, 205, 206, 207, 208, 209, 210, 211, 212]⟩,
 ⟨(some 194), (.load none), [(.t 193)], none, [187, 188, 197, 200, 201, 202, 203, 204, 205, 206, 207, 208, 209, 210, 211, 212]⟩,
 ⟨(some 195), (.ixs 1), [(.t 188), (.t 194)], none, [197, 200, 201, 202, 203, 204, 205, 206, 207, 208, 209, 210, 211, 212]⟩,
 ⟨(some 196), (.load none), [(.t 195)], none, [197, 200, 201, 202, 203, 204, 205, 206, 207, 208, 209, 210, 211, 212]⟩,
 ⟨(some 197), .mv, [(.t 20)], none, [187, 188, 189, 190, 191, 192, 193, 194, 195, 196, 200, 201, 202, 203, 204, 205, 206, 207, 208, 209, 210, 211, 212]⟩,
 ⟨(some 198), (.ixs 1), [(.t 196), (.t 197)], none, [200, 201, 202, 203, 204, 205, 206, 207, 208, 209, 210, 211, 212]⟩,
 ⟨(some 199), (.load none), [(.t 198)], none, [200, 201, 202, 203, 204, 205, 206, 207, 208, 209, 210, 211, 212]⟩,
 ⟨(some 200), (.fa 1), [(.t 3)], none, [187, 188, 189, 190, 191, 192, 193, 194, 195, 196, 197, 198, 199, 202, 203, 204, 205, 206, 207, 210]⟩,
 ⟨(some 201), (.load none), [(.t 200)], none, [187, 188, 189, 190, 191, 192, 193, 194, 195, 196, 197, 198, 199, 202, 203, 204, 205, 206, 207, 210]⟩,
 ⟨(some 202), .mv, [(.t 23)], none, [187, 188, 189, 190, 191, 192, 193, 194, 195, 196, 197, 198, 199, 200, 201, 203, 210]⟩,
 ⟨(some 203), .mv, [(.t 26)], none, [187, 188, 189, 190, 191, 192, 193, 194, 195, 196, 197, 198, 199, 200, 201, 202, 210]⟩,
 ⟨(some 204), (.ixs 4), [(.t 202), (.t 203)], none, [187, 188, 189, 190, 191, 192, 193, 194, 195, 196, 197, 198, 199, 200, 201, 210]⟩,
 ⟨(some 205), (.fa 2), [(.t 204)], none, [187, 188, 189, 190, 191, 192, 193, 194, 195, 196, 197, 198, 199, 200, 201, 210]⟩,
 ⟨(some 206), (.fa 1), [(.t 205)], none, [187, 188, 189, 190, 191, 192, 193, 194, 195, 196, 197, 198, 199, 200, 201, 210]⟩,
 ⟨(some 207), (.load none), [(.t 206)], none, [187, 188, 189, 190, 191, 192, 193, 194, 195, 196, 197, 198, 199, 200, 201, 210]⟩,
 ⟨(some 208), (.ixs 1), [(.t 201), (.t 207)], none, [187, 188, 189, 190, 191, 192, 193, 194, 195, 196, 197, 198, 199, 210]⟩,
 ⟨(some 209), (.load none), [(.t 208)], none, [187, 188, 189, 190, 191, 192, 193, 194, 195, 196, 197, 198, 199, 210]⟩,
 ⟨(some 210), .mv, [(.t 20)], none, [187, 188, 189, 190, 191, 192, 193, 194, 195, 196, 197, 198, 199, 200, 201, 202, 203, 204, 205, 206, 207, 208, 209]⟩,
 ⟨(some 211), (.ixs 1), [(.t 209), (.t 210)], none, [187, 188, 189, 190, 191, 192, 193, 194, 195, 196, 197, 198, 199]⟩,
 ⟨(some 212), (.load none), [(.t 211)], none, [187, 188, 189, 190, 191, 192, 193, 194, 195, 196, 197, 198, 199]⟩,
 ⟨(some 213), (.bin 0 .add), [(.t 199), (.t 212)], none, []⟩,
 ⟨(some 27), .mv, [(.t 213)], none, []⟩] 0 [3, 12, 14, 15, 20, 23, 24, 25, 26, 27])
 (.seq
 (.reg true [] [] [
 ⟨(some 214), .mv, [(.t 27)], none, []⟩,
 ⟨(some 215), .mv, [(.t 25)], none, []⟩,
 ⟨(some 216), (.bin 0 .gtr), [(.t 214), (.t 215)], none, []⟩] 0 [3, 12, 14, 15, 20, 23, 24, 25, 26, 27, 216])
 (.cond (.t 216)
 (.reg true [] [] [
 ⟨(some 217), .mv, [(.t 23)], none, []⟩,
 ⟨(some 218), .mv, [(.t 26)], none, []⟩,
 ⟨(some 219), (.ixs 4), [(.t 217), (.t 218)], none, []⟩,
 ⟨(some 220), (.load (some 4)), [(.t 219)], none, []⟩,
 ⟨(some 221), .mv, [(.t 27)], none, []⟩,
 ⟨none, (.store 4 none), [(.t 24), (.t 220)], none, []⟩,
 ⟨(some 25), .mv, [(.t 221)], none, []⟩] 0 [3, 12, 14, 15, 20, 23, 24, 25, 26])
 .skip)))))
 (.reg true [] [] [
 ⟨(some 176), .mv, [(.t 26)], none, []⟩,
 ⟨(some 177), (.bin 0 .add), [(.t 176), (.c (.int .i64 1))], none, []⟩,
 ⟨(some 26), .mv, [(.t 177)], none, []⟩] 0 [3, 12, 14, 15, 20, 23, 24, 25, 26])))
def l5 : LFun := ⟨3, 245, [],
 (.seq
 (.reg false [3, 4, 5] [3, 4, 5] [
 ⟨(some 3), .box, [(.t 0)], none, []⟩,
 ⟨(some 4), .box, [(.t 1)], none, []⟩,
 ⟨(some 5), .box, [(.t 2)], none, []⟩,
 ⟨(some 6), .mv, [(.c (.bool false))], none, []⟩] 0 [3, 4, 5])
 (.seq
 (.seq
 (.reg false [] [] [
 ⟨(some 28), (.load (some 3)), [(.t 3)], none, []⟩,
 ⟨(some 29), (.call false false false), [(.f 12), (.t 28), (.c (.int .i64 4))], none, []⟩] 0 [3, 4, 5, 29])
 (.cond (.t 29)
 (.seq
 (.reg false [] [] [
 ⟨(some 30), (.call false false false), [(.f 13)], none, []⟩,
 ⟨(some 6), .mv, [(.t 30)], none, []⟩] 0 [6])
 .ret)
 .skip))
 (.seq
 (.reg false [32, 7, 8] [32, 7, 8] [
 ⟨(some 31), (.load (some 3)), [(.t 3)], none, [33, 34, 35, 36, 38, 39, 40, 41, 44, 45, 7, 8]⟩,
 ⟨(some 32), (.call true true true), [(.f 14), (.t 31)], none, [33, 34, 35, 36, 38, 39, 40, 41, 44, 45, 7, 8]⟩,
 ⟨(some 33), (.ixa 5 1), [(.t 4), (.c (.int .i64 0))], none, [31, 32, 35, 36, 38, 39, 40, 41, 44, 45, 7, 8]⟩,
 ⟨(some 34), (.load none), [(.t 33)], none, [31, 32, 35, 36, 38, 39, 40, 41, 44, 45, 7, 8]⟩,
 ⟨(some 35), (.ixa 5 1), [(.t 4), (.c (.int .i64 1))], none, [31, 32, 33, 34, 38, 39, 40, 41, 44, 45, 7, 8]⟩,
 ⟨(some 36), (.load none), [(.t 35)], none, [31, 32, 33, 34, 38, 39, 40, 41, 44, 45, 7, 8]⟩,
 ⟨(some 37), (.call true false false), [(.f 17), (.t 34), (.t 36)], none, [38, 39, 40, 41, 44, 45, 7, 8]⟩,
 ⟨(some 38), (.ixa 5 1), [(.t 4), (.c (.int .i64 2))], none, [31, 32, 33, 34, 35, 36, 37, 40, 41, 44, 45, 7, 8]⟩,
 ⟨(some 39), (.load none), [(.t 38)], none, [31, 32, 33, 34, 35, 36, 37, 40, 41, 44, 45, 7, 8]⟩,
 ⟨(some 40), (.ixa 5 1), [(.t 4), (.c (.int .i64 3))], none, [31, 32, 33, 34, 35, 36, 37, 38, 39, 44, 45, 7, 8]⟩,
 ⟨(some 41), (.load none), [(.t 40)], none, [31, 32, 33, 34, 35, 36, 37, 38, 39, 44, 45, 7, 8]⟩,
 ⟨(some 42), (.call true false false), [(.f 17), (.t 39), (.t 41)], none, [44, 45, 7, 8]⟩,
 ⟨(some 43), (.call true false false), [(.f 30), (.t 37), (.t 42)], none, [44, 45, 7, 8]⟩,
 ⟨(some 44), (.ixa 5 1), [(.t 4), (.c (.int .i64 4))], none, [31, 32, 33, 34, 35, 36, 37, 38, 39, 40, 41, 42, 43, 7, 8]⟩,
 ⟨(some 45), (.load none), [(.t 44)], none, [31, 32, 33, 34, 35, 36, 37, 38, 39, 40, 41, 42, 43, 7, 8]⟩,
 ⟨(some 7), (.alloc [(.sl none 1 []), (.sl none 1 []), (.sl none 1 [])]), [], none, [31, 32, 33, 34, 35, 36, 37, 38, 39, 40, 41, 42, 43, 44, 45, 8]⟩,
 ⟨(some 8), (.alloc [(.int .i64 0), (.int .i64 0), (.int .i64 0), (.int .i64 0)]), [], none, [31, 32, 33, 34, 35, 36, 37, 38, 39, 40, 41, 42, 43, 44, 45, 7]⟩,
 ⟨none, (.store 3 (some 7)), [(.t 7), (.t 32)], none, [44, 45]⟩,
 ⟨none, (.store 4 (some 8)), [(.t 8), (.t 43)], none, [44, 45]⟩,
 ⟨(some 9), .mv, [(.t 45)], none, []⟩] 0 [3, 5, 7, 8, 9])
 (.seq
 (.reg false [10] [10] [
 ⟨(some 47), (.load (some 3)), [(.t 7)], none, []⟩,
 ⟨(some 48), (.load (some 4)), [(.t 8)], none, []⟩,
 ⟨(some 49), .mv, [(.t 9)], none, []⟩,
 ⟨(some 50), (.call false false false), [(.f 31), (.t 47), (.t 48), (.t 49)], none, []⟩,
 ⟨(some 46), .mv, [(.t 50)], none, []⟩,
 ⟨(some 51), (.ext 0), [(.t 46)], none, []⟩,
 ⟨(some 52), (.ext 1), [(.t 46)], none, []⟩,
 ⟨(some 10), (.alloc [(.int .i64 0), (.int .i64 0)]), [], none, []⟩,
 ⟨none, (.store 2 none), [(.t 10), (.t 51)], none, []⟩,
 ⟨(some 11), .mv, [(.t 52)], none, []⟩] 0 [3, 5, 7, 8, 9, 10, 11])
 (.seq
 (.reg false [57] [57] [
 ⟨(some 54), (.load (some 3)), [(.t 7)], none, []⟩,
 ⟨(some 55), .mv, [(.t 9)], none, []⟩,
 ⟨(some 56), (.load (some 2)), [(.t 5)], none, []⟩,
 ⟨(some 57), (.call false false true), [(.f 32), (.t 54), (.t 55), (.t 56)], none, []⟩,
 ⟨(some 53), .mv, [(.t 57)], none, []⟩,
 ⟨(some 58), (.ext 0), [(.t 53)], none, []⟩,
 ⟨(some 59), (.ext 1), [(.t 53)], none, []⟩,
 ⟨(some 12), .mv, [(.t 58)], none, []⟩,
 ⟨(some 13), .mv, [(.t 59)], none, []⟩] 0 [3, 5, 7, 8, 9, 10, 11, 12, 13])
 (.seq
 (.reg false [14] [14] [
 ⟨(some 61), (.load (some 3)), [(.t 7)], none, []⟩,
 ⟨(some 62), .mv, [(.t 9)], none, []⟩,
 ⟨(some 63), (.load (some 2)), [(.t 5)], none, []⟩,
 ⟨(some 64), (.call false false false), [(.f 33), (.t 61), (.t 62), (.t 63)], none, []⟩,
 ⟨(some 60), .mv, [(.t 64)], none, []⟩,
 ⟨(some 65), (.ext 0), [(.t 60)], none, []⟩,
 ⟨(some 66), (.ext 1), [(.t 60)], none, []⟩,
 ⟨(some 14), (.alloc [(.int .i64 0), (.int .i64 0), (.int .i64 0), (.int .i64 0)]), [], none, []⟩,
 ⟨none, (.store 4 none), [(.t 14), (.t 65)], none, []⟩,
 ⟨(some 15), .mv, [(.t 66)], none, []⟩] 0 [3, 5, 7, 8, 9, 10, 11, 12, 13, 14, 15])
 (.seq
 (.seq
 (.reg false [] [] [
 ⟨(some 67), (.load (some 3)), [(.t 7)], none, []⟩,
 ⟨(some 68), (.load (some 3)), [(.t 3)], none, []⟩,
 ⟨(some 69), (.call false false false), [(.f 19), (.t 67), (.t 68)], none, []⟩,
 ⟨(some 70), (.un .not), [(.t 69)], none, []⟩] 0 [3, 5, 8, 9, 10, 11, 12, 13, 14, 15, 70])
 (.cond (.t 70)
 (.seq
 (.reg false [] [] [
 ⟨(some 6), .mv, [(.c (.bool false))], none, []⟩] 0 [6])
 .ret)
 .skip))
 (.seq
 (.reg false [16] [16] [
 ⟨(some 72), (.load (some 3)), [(.t 3)], none, []⟩,
 ⟨(some 73), (.fa 0), [(.t 8)], none, []⟩,
 ⟨(some 74), (.load (some 2)), [(.t 73)], none, []⟩,
 ⟨(some 75), .mv, [(.t 9)], none, []⟩,
 ⟨(some 76), (.call false false false), [(.f 18), (.t 72), (.t 74), (.c (.bool false)), (.t 75)], none, []⟩,
 ⟨(some 71), .mv, [(.t 76)], none, []⟩,
 ⟨(some 77), (.ext 0), [(.t 71)], none, []⟩,
 ⟨(some 78), (.ext 1), [(.t 71)], none, []⟩,
 ⟨(some 16), (.alloc [(.int .i64 0), (.int .i64 0)]), [], none, []⟩,
 ⟨none, (.store 2 none), [(.t 16), (.t 77)], none, []⟩,
 ⟨(some 17), .mv, [(.t 78)], none, []⟩] 0 [3, 5, 8, 9, 10, 11, 12, 13, 14, 15, 16, 17])
 (.seq
 (.reg false [18] [18] [
 ⟨(some 80), (.load (some 3)), [(.t 3)], none, []⟩,
 ⟨(some 81), (.fa 2), [(.t 8)], none, []⟩,
 ⟨(some 82), (.load (some 2)), [(.t 81)], none, []⟩,
 ⟨(some 83), .mv, [(.t 9)], none, []⟩,
 ⟨(some 84), (.call false false false), [(.f 18), (.t 80), (.t 82), (.c (.bool true)), (.t 83)], none, []⟩,
 ⟨(some 79), .mv, [(.t 84)], none, []⟩,
 ⟨(some 85), (.ext 0), [(.t 79)], none, []⟩,
 ⟨(some 86), (.ext 1), [(.t 79)], none, []⟩,
 ⟨(some 18), (.alloc [(.int .i64 0), (.int .i64 0)]), [], none, []⟩,
 ⟨none, (.store 2 none), [(.t 18), (.t 85)], none, []⟩,
 ⟨(some 19), .mv, [(.t 86)], none, []⟩] 0 [3, 5, 9, 10, 11, 12, 13, 14, 15, 16, 17, 18, 19])
 (.seq
 (.seq
 (.reg false [] [] [
 ⟨(some 87), .mv, [(.t 17)], none, []⟩,
 ⟨(some 88), (.bin 0 .eql), [(.t 87), (.c (.int .i64 0))], none, []⟩] 0 [3, 5, 9, 10, 11, 12, 13, 14, 15, 16, 17, 18, 19, 88])
 (.cond (.t 88)
 (.reg false [] [] [
 ⟨(some 89), .mv, [(.t 19)], none, []⟩,
 ⟨(some 17), .mv, [(.t 89)], none, []⟩] 0 [3, 5, 9, 10, 11, 12, 13, 14, 15, 16, 17, 18])
 .skip))
 (.seq
 (.seq
 (.reg false [] [] [
 ⟨(some 90), .mv, [(.t 11)], none, [91]⟩,
 ⟨(some 91), .mv, [(.t 17)], none, [90]⟩,
 ⟨(some 92), (.bin 0 .neq), [(.t 90), (.t 91)], none, []⟩,
 ⟨(some 93), .mv, [(.t 92)], none, []⟩,
 ⟨(some 94), .mv, [(.t 17)], (some (93, false)), []⟩,
 ⟨(some 95), (.bin 0 .eql), [(.t 94), (.c (.int .i64 0))], (some (93, false)), []⟩,
 ⟨(some 96), .mv, [(.t 95)], (some (93, false)), []⟩,
 ⟨(some 97), (.load (some 2)), [(.t 10)], (some (96, true)), [98, 99, 100]⟩,
 ⟨(some 98), (.load (some 2)), [(.t 16)], (some (96, true)), [97, 99]⟩,
 ⟨(some 99), (.load (some 2)), [(.t 18)], (some (96, true)), [97, 98]⟩,
 ⟨(some 100), (.call true false false), [(.f 34), (.t 98), (.t 99)], (some (96, true)), [97]⟩,
 ⟨(some 101), (.eqs true [(some .i64), (some .i64)]), [(.t 97), (.t 100)], (some (96, true)), []⟩,
 ⟨(some 102), .pick, [(.t 96), (.t 101), (.c (.bool false))], (some (93, false)), []⟩,
 ⟨(some 103), .pick, [(.t 93), (.c (.bool true)), (.t 102)], none, []⟩,
 ⟨(some 104), .mv, [(.t 103)], none, []⟩,
 ⟨(some 105), .mv, [(.t 17)], (some (104, false)), []⟩,
 ⟨(some 106), (.bin 0 .neq), [(.t 105), (.c (.int .i64 0))], (some (104, false)), []⟩,
 ⟨(some 107), .mv, [(.t 106)], (some (104, false)), []⟩,
 ⟨(some 108), (.load (some 2)), [(.t 10)], (some (107, true)), [109]⟩,
 ⟨(some 109), (.build [(.int .i64 0), (.int .i64 0)] []), [], (some (107, true)), [108]⟩,
 ⟨(some 110), (.eqs true [(some .i64), (some .i64)]), [(.t 108), (.t 109)], (some (107, true)), []⟩,
 ⟨(some 111), .pick, [(.t 107), (.t 110), (.c (.bool false))], (some (104, false)), []⟩,
 ⟨(some 112), .pick, [(.t 104), (.c (.bool true)), (.t 111)], none, []⟩] 0 [3, 5, 9, 12, 13, 14, 15, 112])
 (.cond (.t 112)
 (.seq
 (.reg false [] [] [
 ⟨(some 6), .mv, [(.c (.bool false))], none, []⟩] 0 [6])
 .ret)
 .skip))
 (.seq
 (.reg false [] [] [
 ⟨(some 114), (.load (some 3)), [(.t 3)], none, []⟩,
 ⟨(some 115), .mv, [(.t 9)], none, []⟩,
 ⟨(some 116), (.call false false false), [(.f 35), (.t 114), (.t 115)], none, []⟩,
 ⟨(some 113), .mv, [(.t 116)], none, []⟩,
 ⟨(some 117), (.ext 0), [(.t 113)], none, []⟩,
 ⟨(some 118), (.ext 1), [(.t 113)], none, []⟩,
 ⟨(some 20), .mv, [(.t 117)], none, []⟩,
 ⟨(some 21), .mv, [(.t 118)], none, []⟩] 0 [3, 5, 9, 12, 13, 14, 15, 20, 21])
 (.seq
 (.reg false [] [] [
 ⟨(some 119), (.load (some 3)), [(.t 3)], none, []⟩,
 ⟨(some 120), (.call false false false), [(.f 20), (.t 119)], none, []⟩,
 ⟨(some 22), .mv, [(.t 120)], none, []⟩] 0 [3, 5, 9, 12, 13, 14, 15, 20, 21, 22])
 (.seq
 (.seq
 (.reg false [] [] [
 ⟨(some 121), .mv, [(.t 22)], none, []⟩,
 ⟨(some 122), (.bin 0 .eql), [(.t 121), (.c (.int .i64 0))], none, []⟩,
 ⟨(some 123), .mv, [(.t 122)], none, []⟩,
 ⟨(some 124), .mv, [(.t 21)], (some (123, true)), []⟩,
 ⟨(some 125), (.un .not), [(.t 124)], (some (123, true)), []⟩,
 ⟨(some 126), .pick, [(.t 123), (.t 125), (.c (.bool false))], none, []⟩] 0 [3, 5, 9, 12, 13, 14, 15, 20, 22, 126])
 (.cond (.t 126)
 (.reg false [] [] [
 ⟨(some 22), .mv, [(.c (.int .i64 3))], none, []⟩] 0 [3, 5, 9, 12, 13, 14, 15, 20, 22])
 .skip))
 (.seq
 (.seq
 (.reg false [] [] [
 ⟨(some 127), .mv, [(.t 22)], none, []⟩,
 ⟨(some 128), (.bin 0 .eql), [(.t 127), (.c (.int .i64 0))], none, []⟩,
 ⟨(some 129), .mv, [(.t 128)], none, []⟩,
 ⟨(some 130), (.load (some 2)), [(.t 5)], (some (129, true)), []⟩,
 ⟨(some 131), (.call false false false), [(.f 23), (.t 130), (.c (.int .i64 (-400000))), (.c (.int .i64 400000))], (some (129, true)), []⟩,
 ⟨(some 132), (.un .not), [(.t 131)], (some (129, true)), []⟩,
 ⟨(some 133), .pick, [(.t 129), (.t 132), (.c (.bool false))], none, []⟩] 0 [3, 5, 9, 12, 13, 14, 15, 20, 22, 133])
 (.cond (.t 133)
 (.reg false [] [] [
 ⟨(some 22), .mv, [(.c (.int .i64 2))], none, []⟩] 0 [3, 5, 9, 12, 13, 14, 15, 20, 22])
 .skip))
 (.seq
 (.seq
 (.reg false [] [] [
 ⟨(some 134), .mv, [(.t 22)], none, []⟩,
 ⟨(some 135), (.bin 0 .neq), [(.t 134), (.c (.int .i64 0))], none, []⟩] 0 [3, 5, 9, 12, 13, 14, 15, 20, 22, 135])
 (.cond (.t 135)
 (.seq
 (.reg false [] [] [
 ⟨(some 136), .mv, [(.t 13)], none, []⟩,
 ⟨(some 137), .mv, [(.t 22)], none, []⟩,
 ⟨(some 138), (.bin 0 .eql), [(.t 136), (.t 137)], none, []⟩,
 ⟨(some 139), .mv, [(.t 138)], none, []⟩,
 ⟨(some 140), .mv, [(.t 15)], (some (139, true)), []⟩,
 ⟨(some 141), .mv, [(.t 22)], (some (139, true)), []⟩,
 ⟨(some 142), (.bin 0 .eql), [(.t 140), (.t 141)], (some (139, true)), []⟩,
 ⟨(some 143), .pick, [(.t 139), (.t 142), (.c (.bool false))], none, []⟩,
 ⟨(some 144), .mv, [(.t 143)], none, []⟩,
 ⟨(some 145), .mv, [(.t 12)], (some (144, true)), []⟩,
 ⟨(some 146), .len, [(.t 145)], (some (144, true)), []⟩,
 ⟨(some 147), (.bin 0 .eql), [(.t 146), (.c (.int .i64 0))], (some (144, true)), []⟩,
 ⟨(some 148), .pick, [(.t 144), (.t 147), (.c (.bool false))], none, []⟩,
 ⟨(some 149), .mv, [(.t 148)], none, []⟩,
 ⟨(some 150), (.load (some 4)), [(.t 14)], (some (149, true)), []⟩,
 ⟨(some 151), (.build [(.int .i64 0), (.int .i64 0), (.int .i64 0), (.int .i64 0)] []), [], (some (149, true)), []⟩,
 ⟨(some 152), (.eqs false [(some .i64), (some .i64), (some .i64), (some .i64)]), [(.t 150), (.t 151)], (some (149, true)), []⟩,
 ⟨(some 153), .pick, [(.t 149), (.t 152), (.c (.bool false))], none, []⟩,
 ⟨(some 154), .mv, [(.t 153)], none, []⟩,
 ⟨(some 155), (.call false false false), [(.f 13)], (some (154, true)), []⟩,
 ⟨(some 156), .pick, [(.t 154), (.t 155), (.c (.bool false))], none, []⟩,
 ⟨(some 6), .mv, [(.t 156)], none, []⟩] 0 [6])
 .ret)
 .skip))
 (.seq
 (.reg false [161] [161] [
 ⟨(some 157), (.load (some 3)), [(.t 3)], none, []⟩,
 ⟨(some 158), .mv, [(.t 9)], none, []⟩,
 ⟨(some 159), .mv, [(.t 20)], none, []⟩,
 ⟨(some 160), (.load (some 2)), [(.t 5)], none, []⟩,
 ⟨(some 161), (.call false false true), [(.f 36), (.t 157), (.t 158), (.t 159), (.t 160)], none, []⟩,
 ⟨(some 23), .mv, [(.t 161)], none, []⟩] 0 [3, 12, 13, 14, 15, 20, 23])
 (.seq
 (.seq
 (.reg false [] [] [
 ⟨(some 162), .mv, [(.t 13)], none, []⟩,
 ⟨(some 163), (.bin 0 .neq), [(.t 162), (.c (.int .i64 0))], none, []⟩,
 ⟨(some 164), .mv, [(.t 163)], none, []⟩,
 ⟨(some 165), .mv, [(.t 12)], (some (164, false)), []⟩,
 ⟨(some 166), .len, [(.t 165)], (some (164, false)), []⟩,
 ⟨(some 167), .mv, [(.t 23)], (some (164, false)), []⟩,
 ⟨(some 168), .len, [(.t 167)], (some (164, false)), []⟩,
 ⟨(some 169), (.bin 0 .neq), [(.t 166), (.t 168)], (some (164, false)), []⟩,
 ⟨(some 170), .pick, [(.t 164), (.c (.bool true)), (.t 169)], none, []⟩] 0 [3, 12, 14, 15, 20, 23, 170])
 (.cond (.t 170)
 (.seq
 (.reg false [] [] [
 ⟨(some 6), .mv, [(.c (.bool false))], none, []⟩] 0 [6])
 .ret)
 .skip))
 (.seq
 (.reg false [24] [24] [
 ⟨(some 171), (.build [(.int .i64 0), (.int .i64 0), (.int .i64 0), (.int .i64 0)] []), [], none, []⟩,
 ⟨(some 24), (.alloc [(.int .i64 0), (.int .i64 0), (.int .i64 0), (.int .i64 0)]), [], none, []⟩,
 ⟨none, (.store 4 none), [(.t 24), (.t 171)], none, []⟩,
 ⟨(some 25), .mv, [(.c (.int .i64 (-1)))], none, []⟩] 0 [3, 12, 14, 15, 20, 23, 24, 25])
 (.seq
 (.seq
 (.reg false [] [] [
 ⟨(some 26), .mv, [(.c (.int .i64 0))], none, []⟩] 0 [3, 12, 14, 15, 20, 23, 24, 25, 26])
 (.block 0
 (.loop b5_0)))
 (.seq
 (.seq
 (.reg false [] [] [
 ⟨(some 222), .mv, [(.t 23)], none, []⟩,
 ⟨(some 223), .len, [(.t 222)], none, []⟩,
 ⟨(some 224), (.bin 0 .eql), [(.t 223), (.c (.int .i64 0))], none, []⟩] 0 [14, 15, 24, 224])
 (.cond (.t 224)
 (.seq
 (.reg false [] [] [
 ⟨(some 225), .mv, [(.t 15)], none, []⟩,
 ⟨(some 226), (.bin 0 .eql), [(.t 225), (.c (.int .i64 7))], none, []⟩,
 ⟨(some 227), .mv, [(.t 226)], none, []⟩,
 ⟨(some 228), (.load (some 4)), [(.t 14)], (some (227, true)), []⟩,
 ⟨(some 229), (.load (some 4)), [(.t 24)], (some (227, true)), []⟩,
 ⟨(some 230), (.eqs false [(some .i64), (some .i64), (some .i64), (some .i64)]), [(.t 228), (.t 229)], (some (227, true)), []⟩,
 ⟨(some 231), .pick, [(.t 227), (.t 230), (.c (.bool false))], none, []⟩,
 ⟨(some 232), .mv, [(.t 231)], none, []⟩,
 ⟨(some 233), (.call false false false), [(.f 13)], (some (232, true)), []⟩,
 ⟨(some 234), .pick, [(.t 232), (.t 233), (.c (.bool false))], none, []⟩,
 ⟨(some 6), .mv, [(.t 234)], none, []⟩] 0 [6])
 .ret)
 .skip))
 (.seq
 (.reg false [] [] [
 ⟨(some 235), .mv, [(.t 15)], none, []⟩,
 ⟨(some 236), (.bin 0 .eql), [(.t 235), (.c (.int .i64 0))], none, []⟩,
 ⟨(some 237), .mv, [(.t 236)], none, []⟩,
 ⟨(some 238), (.load (some 4)), [(.t 14)], (some (237, true)), []⟩,
 ⟨(some 239), (.load (some 4)), [(.t 24)], (some (237, true)), []⟩,
 ⟨(some 240), (.eqs false [(some .i64), (some .i64), (some .i64), (some .i64)]), [(.t 238), (.t 239)], (some (237, true)), []⟩,
 ⟨(some 241), .pick, [(.t 237), (.t 240), (.c (.bool false))], none, []⟩,
 ⟨(some 242), .mv, [(.t 241)], none, []⟩,
 ⟨(some 243), (.call false false false), [(.f 13)], (some (242, true)), []⟩,
 ⟨(some 244), .pick, [(.t 242), (.t 243), (.c (.bool false))], none, []⟩,
 ⟨(some 6), .mv, [(.t 244)], none, []⟩] 0 [6])
 .ret)))))))))))))))))))))),
 [(.t 6)]⟩
theorem c5 : funC Try.prog [(0, [3, 4, 5]), (1, [3, 4, 5, 29]), (2, [6]), (3, [3, 5, 7, 8, 9]), (4, [3, 5, 7, 8, 9, 10, 11]), (5, [3, 5, 7, 8, 9, 10, 11, 12, 13]), (6, [3, 5, 7, 8, 9, 10, 11, 12, 13, 14, 15]), (7, [3, 5, 8, 9, 10, 11, 12, 13, 14, 15, 70]), (8, [6]), (9, [3, 5, 8, 9, 10, 11, 12, 13, 14, 15, 16, 17]), (10, [3, 5, 9, 10, 11, 12, 13, 14, 15, 16, 17, 18, 19]), (11, [3, 5, 9, 10, 11, 12, 13, 14, 15, 16, 17, 18, 19, 88]), (12, [3, 5, 9, 10, 11, 12, 13, 14, 15, 16, 17, 18]), (13, [3, 5, 9, 12, 13, 14, 15, 112]), (14, [6]), (15, [3, 5, 9, 12, 13, 14, 15, 20, 21]), (16, [3, 5, 9, 12, 13, 14, 15, 20, 21, 22]), (17, [3, 5, 9, 12, 13, 14, 15, 20, 22, 126]), (18, [3, 5, 9, 12, 13, 14, 15, 20, 22]), (19, [3, 5, 9, 12, 13, 14, 15, 20, 22, 133]), (20, [3, 5, 9, 12, 13, 14, 15, 20, 22]), (21, [3, 5, 9, 12, 13, 14, 15, 20, 22, 135]), (22, [6]), (23, [3, 12, 13, 14, 15, 20, 23]), (24, [3, 12, 14, 15, 20, 23, 170]), (25, [6]), (26, [3, 12, 14, 15, 20, 23, 24, 25]), (27, [3, 12, 14, 15, 20, 23, 24, 25, 26]), (28, [3, 12, 14, 15, 20, 23, 24, 25, 26, 175]), (29, [3, 12, 14, 15, 20, 23, 24, 25, 26]), (30, [3, 12, 14, 15, 20, 23, 24, 25, 26, 186]), (31, [6]), (32, [3, 12, 14, 15, 20, 23, 24, 25, 26, 27]), (33, [3, 12, 14, 15, 20, 23, 24, 25, 26, 27, 216]), (34, [3, 12, 14, 15, 20, 23, 24, 25, 26]), (35, [14, 15, 24, 224]), (36, [6]), (37, [6])] Try.f5 = some (unF l5) := by kernel_rfl
/-- acme/acmelaw02.ZoneInside -/
def l6 : LFun := ⟨3, 79, [],
 (.seq
 (.reg false [3, 4] [3, 4] [
 ⟨(some 3), .box, [(.t 0)], none, []⟩,
 ⟨(some 4), .box, [(.t 1)], none, []⟩,
 ⟨(some 6), .mv, [(.c (.bool false))], none, []⟩] 0 [2, 3, 4])
 (.seq
 (.seq
 (.reg false [] [] [
 ⟨(some 13), (.load (some 3)), [(.t 3)], none, []⟩,
 ⟨(some 14), (.call false false false), [(.f 12), (.t 13), (.c (.int .i64 15))], none, []⟩] 0 [2, 3, 4, 14])
 (.cond (.t 14)
 (.seq
 (.reg false [] [] [
 ⟨(some 15), (.call false false false), [(.f 13)], none, []⟩,
 ⟨(some 6), .mv, [(.t 15)], none, []⟩] 0 [6])
 .ret)
 .skip))
 (.seq
 (.reg false [17, 7, 8, 9] [17, 7, 8, 9] [
 ⟨(some 16), (.load (some 3)), [(.t 3)], none, [18, 19, 20, 21, 23, 24, 25, 26, 7, 8, 9]⟩,
 ⟨(some 17), (.call true true true), [(.f 14), (.t 16)], none, [18, 19, 20, 21, 23, 24, 25, 26, 7, 8, 9]⟩,
 ⟨(some 18), (.ixa 4 1), [(.t 4), (.c (.int .i64 0))], none, [16, 17, 20, 21, 23, 24, 25, 26, 7, 8, 9]⟩,
 ⟨(some 19), (.load none), [(.t 18)], none, [16, 17, 20, 21, 23, 24, 25, 26, 7, 8, 9]⟩,
 ⟨(some 20), (.ixa 4 1), [(.t 4), (.c (.int .i64 1))], none, [16, 17, 18, 19, 23, 24, 25, 26, 7, 8, 9]⟩,
 ⟨(some 21), (.load none), [(.t 20)], none, [16, 17, 18, 19, 23, 24, 25, 26, 7, 8, 9]⟩,
 ⟨(some 22), (.call true false false), [(.f 17), (.t 19), (.t 21)], none, [23, 24, 25, 26, 7, 8, 9]⟩,
 ⟨(some 23), (.ixa 4 1), [(.t 4), (.c (.int .i64 2))], none, [16, 17, 18, 19, 20, 21, 22, 25, 26, 7, 8, 9]⟩,
 ⟨(some 24), (.load none), [(.t 23)], none, [16, 17, 18, 19, 20, 21, 22, 25, 26, 7, 8, 9]⟩,
 ⟨(some 25), (.ixa 4 1), [(.t 4), (.c (.int .i64 3))], none, [16, 17, 18, 19, 20, 21, 22, 23, 24, 7, 8, 9]⟩,
 ⟨(some 26), (.load none), [(.t 25)], none, [16, 17, 18, 19, 20, 21, 22, 23, 24, 7, 8, 9]⟩,
 ⟨(some 27), (.call true false false), [(.f 17), (.t 24), (.t 26)], none, [7, 8, 9]⟩,
 ⟨(some 7), (.alloc [(.sl none 1 []), (.sl none 1 []), (.sl none 1 [])]), [], none, [16, 17, 18, 19, 20, 21, 22, 23, 24, 25, 26, 27, 8, 9]⟩,
 ⟨(some 8), (.alloc [(.int .i64 0), (.int .i64 0)]), [], none, [16, 17, 18, 19, 20, 21, 22, 23, 24, 25, 26, 27, 7, 9]⟩,
 ⟨(some 9), (.alloc [(.int .i64 0), (.int .i64 0)]), [], none, [16, 17, 18, 19, 20, 21, 22, 23, 24, 25, 26, 27, 7, 8]⟩,
 ⟨none, (.store 3 (some 7)), [(.t 7), (.t 17)], none, []⟩,
 ⟨none, (.store 2 (some 8)), [(.t 8), (.t 22)], none, []⟩,
 ⟨none, (.store 2 (some 9)), [(.t 9), (.t 27)], none, []⟩] 0 [2, 3, 7, 8, 9])
 (.seq
 (.reg false [33] [33] [
 ⟨(some 29), (.load (some 3)), [(.t 7)], none, []⟩,
 ⟨(some 30), (.load (some 2)), [(.t 8)], none, []⟩,
 ⟨(some 31), (.load (some 2)), [(.t 9)], none, []⟩,
 ⟨(some 32), .mv, [(.t 2)], none, []⟩,
 ⟨(some 33), (.call false false true), [(.f 37), (.t 29), (.t 30), (.t 31), (.t 32)], none, []⟩,
 ⟨(some 28), .mv, [(.t 33)], none, []⟩,
 ⟨(some 34), (.ext 0), [(.t 28)], none, []⟩,
 ⟨(some 35), (.ext 1), [(.t 28)], none, []⟩,
 ⟨(some 10), .mv, [(.t 34)], none, []⟩,
 ⟨(some 11), .mv, [(.t 35)], none, []⟩] 0 [2, 3, 7, 8, 9, 10, 11])
 (.seq
 (.reg false [] [] [
 ⟨(some 36), (.load (some 3)), [(.t 3)], none, []⟩,
 ⟨(some 37), (.call false false false), [(.f 20), (.t 36)], none, []⟩,
 ⟨(some 12), .mv, [(.t 37)], none, []⟩] 0 [2, 3, 7, 8, 9, 10, 11, 12])
 (.seq
 (.seq
 (.reg false [] [] [
 ⟨(some 38), .mv, [(.t 12)], none, []⟩,
 ⟨(some 39), (.bin 0 .eql), [(.t 38), (.c (.int .i64 0))], none, []⟩,
 ⟨(some 40), .mv, [(.t 39)], none, []⟩,
 ⟨(some 41), (.load (some 3)), [(.t 3)], (some (40, true)), []⟩,
 ⟨(some 42), (.load (some 2)), [(.t 8)], (some (40, true)), []⟩,
 ⟨(some 43), (.call false false false), [(.f 38), (.t 41), (.t 42)], (some (40, true)), []⟩,
 ⟨(some 44), (.un .not), [(.t 43)], (some (40, true)), []⟩,
 ⟨(some 45), .mv, [(.t 44)], (some (40, true)), []⟩,
 ⟨(some 46), (.load (some 3)), [(.t 3)], (some (45, false)), []⟩,
 ⟨(some 47), (.load (some 2)), [(.t 9)], (some (45, false)), []⟩,
 ⟨(some 48), (.call false false false), [(.f 38), (.t 46), (.t 47)], (some (45, false)), []⟩,
 ⟨(some 49), (.un .not), [(.t 48)], (some (45, false)), []⟩,
 ⟨(some 50), .pick, [(.t 45), (.c (.bool true)), (.t 49)], (some (40, true)), []⟩,
 ⟨(some 51), .pick, [(.t 40), (.t 50), (.c (.bool false))], none, []⟩] 0 [2, 3, 7, 8, 9, 10, 11, 12, 51])
 (.cond (.t 51)
 (.reg false [] [] [
 ⟨(some 12), .mv, [(.c (.int .i64 7))], none, []⟩] 0 [2, 3, 7, 8, 9, 10, 11, 12])
 .skip))
 (.seq
 (.seq
 (.reg false [] [] [
 ⟨(some 52), (.load (some 3)), [(.t 7)], none, []⟩,
 ⟨(some 53), (.load (some 3)), [(.t 3)], none, []⟩,
 ⟨(some 54), (.call false false false), [(.f 19), (.t 52), (.t 53)], none, []⟩,
 ⟨(some 55), (.un .not), [(.t 54)], none, []⟩,
 ⟨(some 56), .mv, [(.t 55)], none, []⟩,
 ⟨(some 57), .mv, [(.t 11)], (some (56, false)), []⟩,
 ⟨(some 58), .mv, [(.t 12)], (some (56, false)), []⟩,
 ⟨(some 59), (.bin 0 .neq), [(.t 57), (.t 58)], (some (56, false)), []⟩,
 ⟨(some 60), .pick, [(.t 56), (.c (.bool true)), (.t 59)], none, []⟩] 0 [2, 3, 8, 9, 10, 12, 60])
 (.cond (.t 60)
 (.seq
 (.reg false [] [] [
 ⟨(some 6), .mv, [(.c (.bool false))], none, []⟩] 0 [6])
 .ret)
 .skip))
 (.seq
 (.seq
 (.reg false [] [] [
 ⟨(some 61), .mv, [(.t 12)], none, []⟩,
 ⟨(some 62), (.bin 0 .neq), [(.t 61), (.c (.int .i64 0))], none, []⟩] 0 [2, 3, 8, 9, 10, 62])
 (.cond (.t 62)
 (.seq
 (.reg false [] [] [
 ⟨(some 63), .mv, [(.t 10)], none, []⟩,
 ⟨(some 64), .len, [(.t 63)], none, []⟩,
 ⟨(some 65), (.bin 0 .eql), [(.t 64), (.c (.int .i64 0))], none, []⟩,
 ⟨(some 66), .mv, [(.t 65)], none, []⟩,
 ⟨(some 67), (.call false false false), [(.f 13)], (some (66, true)), []⟩,
 ⟨(some 68), .pick, [(.t 66), (.t 67), (.c (.bool false))], none, []⟩,
 ⟨(some 6), .mv, [(.t 68)], none, []⟩] 0 [6])
 .ret)
 .skip))
 (.seq
 (.reg false [74] [74] [
 ⟨(some 69), .mv, [(.t 10)], none, []⟩,
 ⟨(some 70), (.load (some 3)), [(.t 3)], none, []⟩,
 ⟨(some 71), (.load (some 2)), [(.t 8)], none, []⟩,
 ⟨(some 72), (.load (some 2)), [(.t 9)], none, []⟩,
 ⟨(some 73), .mv, [(.t 2)], none, []⟩,
 ⟨(some 74), (.call false false true), [(.f 40), (.t 70), (.t 71), (.t 72), (.t 73)], none, []⟩,
 ⟨(some 75), (.call false false false), [(.f 39), (.t 69), (.t 74)], none, []⟩,
 ⟨(some 76), .mv, [(.t 75)], none, []⟩,
 ⟨(some 77), (.call false false false), [(.f 13)], (some (76, true)), []⟩,
 ⟨(some 78), .pick, [(.t 76), (.t 77), (.c (.bool false))], none, []⟩,
 ⟨(some 6), .mv, [(.t 78)], none, []⟩] 0 [6])
 .ret))))))))),
 [(.t 6)]⟩
theorem c6 : funC Try.prog [(0, [2, 3, 4]), (1, [2, 3, 4, 14]), (2, [6]), (3, [2, 3, 7, 8, 9]), (4, [2, 3, 7, 8, 9, 10, 11]), (5, [2, 3, 7, 8, 9, 10, 11, 12]), (6, [2, 3, 7, 8, 9, 10, 11, 12, 51]), (7, [2, 3, 7, 8, 9, 10, 11, 12]), (8, [2, 3, 8, 9, 10, 12, 60]), (9, [6]), (10, [2, 3, 8, 9, 10, 62]), (11, [6]), (12, [6])] Try.f6 = some (unF l6) := by kernel_rfl
/-- acme/acmelaw02.ZoneGroups -/
def l7 : LFun := ⟨3, 68, [],
 (.seq
 (.reg false [3, 4, 5] [3, 4, 5] [
 ⟨(some 3), .box, [(.t 0)], none, []⟩,
 ⟨(some 4), .box, [(.t 1)], none, []⟩,
 ⟨(some 5), .box, [(.t 2)], none, []⟩,
 ⟨(some 6), .mv, [(.c (.bool false))], none, []⟩] 0 [3, 4, 5])
 (.seq
 (.reg false [] [] [
 ⟨(some 12), (.load (some 2)), [(.t 3)], none, []⟩,
 ⟨(some 13), (.load (some 2)), [(.t 4)], none, []⟩,
 ⟨(some 14), (.load (some 2)), [(.t 5)], none, []⟩,
 ⟨(some 15), (.call false false false), [(.f 41), (.t 12), (.t 13), (.t 14)], none, []⟩,
 ⟨(some 11), .mv, [(.t 15)], none, []⟩,
 ⟨(some 16), (.ext 0), [(.t 11)], none, []⟩,
 ⟨(some 17), (.ext 1), [(.t 11)], none, []⟩,
 ⟨(some 7), .mv, [(.t 16)], none, []⟩,
 ⟨(some 8), .mv, [(.t 17)], none, []⟩] 0 [3, 4, 5, 7, 8])
 (.seq
 (.seq
 (.reg false [] [] [
 ⟨(some 18), (.load (some 2)), [(.t 3)], none, []⟩,
 ⟨(some 19), (.call false false false), [(.f 23), (.t 18), (.c (.int .i64 0)), (.c (.int .i64 20000000))], none, []⟩,
 ⟨(some 20), (.un .not), [(.t 19)], none, []⟩,
 ⟨(some 21), .mv, [(.t 20)], none, []⟩,
 ⟨(some 22), (.load (some 2)), [(.t 4)], (some (21, false)), []⟩,
 ⟨(some 23), (.call false false false), [(.f 23), (.t 22), (.c (.int .i64 0)), (.c (.int .i64 20000000))], (some (21, false)), []⟩,
 ⟨(some 24), (.un .not), [(.t 23)], (some (21, false)), []⟩,
 ⟨(some 25), .pick, [(.t 21), (.c (.bool true)), (.t 24)], none, []⟩,
 ⟨(some 26), .mv, [(.t 25)], none, []⟩,
 ⟨(some 27), (.load (some 2)), [(.t 5)], (some (26, false)), []⟩,
 ⟨(some 28), (.call false false false), [(.f 23), (.t 27), (.c (.int .i64 (-40000000))), (.c (.int .i64 40000000))], (some (26, false)), []⟩,
 ⟨(some 29), (.un .not), [(.t 28)], (some (26, false)), []⟩,
 ⟨(some 30), .pick, [(.t 26), (.c (.bool true)), (.t 29)], none, []⟩] 0 [3, 4, 5, 7, 8, 30])
 (.cond (.t 30)
 (.seq
 (.reg false [] [] [
 ⟨(some 31), .mv, [(.t 8)], none, []⟩,
 ⟨(some 32), (.bin 0 .eql), [(.t 31), (.c (.int .i64 2))], none, []⟩,
 ⟨(some 33), .mv, [(.t 32)], none, []⟩,
 ⟨(some 34), .mv, [(.t 7)], (some (33, true)), []⟩,
 ⟨(some 35), (.bin 0 .eql), [(.t 34), (.c (.int .i64 0))], (some (33, true)), []⟩,
 ⟨(some 36), .pick, [(.t 33), (.t 35), (.c (.bool false))], none, []⟩,
 ⟨(some 37), .mv, [(.t 36)], none, []⟩,
 ⟨(some 38), (.call false false false), [(.f 13)], (some (37, true)), []⟩,
 ⟨(some 39), .pick, [(.t 37), (.t 38), (.c (.bool false))], none, []⟩,
 ⟨(some 6), .mv, [(.t 39)], none, []⟩] 0 [6])
 .ret)
 .skip))
 (.seq
 (.reg false [] [] [
 ⟨(some 41), (.load (some 2)), [(.t 3)], none, []⟩,
 ⟨(some 42), (.load (some 2)), [(.t 4)], none, []⟩,
 ⟨(some 43), (.load (some 2)), [(.t 5)], none, []⟩,
 ⟨(some 44), (.call false false false), [(.f 42), (.t 41), (.t 42), (.t 43)], none, []⟩,
 ⟨(some 40), .mv, [(.t 44)], none, []⟩,
 ⟨(some 45), (.ext 0), [(.t 40)], none, []⟩,
 ⟨(some 46), (.ext 1), [(.t 40)], none, []⟩,
 ⟨(some 9), .mv, [(.t 45)], none, []⟩,
 ⟨(some 10), .mv, [(.t 46)], none, []⟩] 0 [7, 8, 9, 10])
 (.seq
 (.seq
 (.reg false [] [] [
 ⟨(some 47), .mv, [(.t 10)], none, []⟩,
 ⟨(some 48), (.un .not), [(.t 47)], none, []⟩] 0 [7, 8, 9, 48])
 (.cond (.t 48)
 (.seq
 (.reg false [] [] [
 ⟨(some 49), .mv, [(.t 8)], none, []⟩,
 ⟨(some 50), (.bin 0 .eql), [(.t 49), (.c (.int .i64 7))], none, []⟩,
 ⟨(some 51), .mv, [(.t 50)], none, []⟩,
 ⟨(some 52), .mv, [(.t 7)], (some (51, true)), []⟩,
 ⟨(some 53), (.bin 0 .eql), [(.t 52), (.c (.int .i64 0))], (some (51, true)), []⟩,
 ⟨(some 54), .pick, [(.t 51), (.t 53), (.c (.bool false))], none, []⟩,
 ⟨(some 55), .mv, [(.t 54)], none, []⟩,
 ⟨(some 56), (.call false false false), [(.f 13)], (some (55, true)), []⟩,
 ⟨(some 57), .pick, [(.t 55), (.t 56), (.c (.bool false))], none, []⟩,
 ⟨(some 6), .mv, [(.t 57)], none, []⟩] 0 [6])
 .ret)
 .skip))
 (.seq
 (.reg false [] [] [
 ⟨(some 58), .mv, [(.t 8)], none, []⟩,
 ⟨(some 59), (.bin 0 .eql), [(.t 58), (.c (.int .i64 0))], none, []⟩,
 ⟨(some 60), .mv, [(.t 59)], none, []⟩,
 ⟨(some 61), .mv, [(.t 7)], (some (60, true)), []⟩,
 ⟨(some 62), .mv, [(.t 9)], (some (60, true)), []⟩,
 ⟨(some 63), (.bin 0 .eql), [(.t 61), (.t 62)], (some (60, true)), []⟩,
 ⟨(some 64), .pick, [(.t 60), (.t 63), (.c (.bool false))], none, []⟩,
 ⟨(some 65), .mv, [(.t 64)], none, []⟩,
 ⟨(some 66), (.call false false false), [(.f 13)], (some (65, true)), []⟩,
 ⟨(some 67), .pick, [(.t 65), (.t 66), (.c (.bool false))], none, []⟩,
 ⟨(some 6), .mv, [(.t 67)], none, []⟩] 0 [6])
 .ret)))))),
 [(.t 6)]⟩
theorem c7 : funC Try.prog [(0, [3, 4, 5]), (1, [3, 4, 5, 7, 8]), (2, [3, 4, 5, 7, 8, 30]), (3, [6]), (4, [7, 8, 9, 10]), (5, [7, 8, 9, 48]), (6, [6]), (7, [6])] Try.f7 = some (unF l7) := by kernel_rfl
/-- acme/acmelaw02.ZoneFits -/
def b8_0 : LCode :=
 (.seq
 (.seq
 (.reg true [] [] [
 ⟨(some 179), .mv, [(.t 21)], none, []⟩,
 ⟨(some 180), .mv, [(.t 17)], none, []⟩,
 ⟨(some 181), .len, [(.t 180)], none, []⟩,
 ⟨(some 182), (.bin 0 .lss), [(.t 179), (.t 181)], none, []⟩] 0 [7, 8, 9, 14, 16, 17, 18, 19, 20, 21, 182])
 (.cond (.t 182)
 .skip
 (.exit 0)))
 (.seq
 (.block 1
 (.seq
 (.reg true [187, 22] [187, 22] [
 ⟨(some 186), (.load (some 3)), [(.t 7)], none, [188, 189, 190, 191, 192, 193, 22]⟩,
 ⟨(some 187), (.call true true true), [(.f 14), (.t 186)], none, [188, 189, 190, 191, 192, 193, 22]⟩,
 ⟨(some 188), .mv, [(.t 17)], none, [186, 187, 189, 193, 22]⟩,
 ⟨(some 189), .mv, [(.t 21)], none, [186, 187, 188, 193, 22]⟩,
 ⟨(some 190), (.ixs 4), [(.t 188), (.t 189)], none, [186, 187, 193, 22]⟩,
 ⟨(some 191), (.fa 0), [(.t 190)], none, [186, 187, 193, 22]⟩,
 ⟨(some 192), (.load (some 2)), [(.t 191)], none, [186, 187, 193, 22]⟩,
 ⟨(some 193), .mv, [(.t 8)], none, [186, 187, 188, 189, 190, 191, 192, 22]⟩,
 ⟨(some 194), (.call true false false), [(.f 16), (.t 187), (.t 192), (.c (.bool false)), (.t 193)], none, [22]⟩,
 ⟨(some 185), .mv, [(.t 194)], none, [22]⟩,
 ⟨(some 195), (.ext 0), [(.t 185)], none, [196, 22]⟩,
 ⟨(some 196), (.ext 1), [(.t 185)], none, [195, 22]⟩,
 ⟨(some 22), (.alloc [(.int .i64 0), (.int .i64 0)]), [], none, [186, 187, 188, 189, 190, 191, 192, 193, 194, 185, 195, 196]⟩,
 ⟨none, (.store 2 (some 22)), [(.t 22), (.t 195)], none, [196]⟩,
 ⟨(some 23), .mv, [(.t 196)], none, []⟩] 0 [7, 8, 9, 14, 16, 17, 18, 19, 20, 21, 22, 23])
 (.seq
 (.reg true [199, 24] [199, 24] [
 ⟨(some 198), (.load (some 3)), [(.t 7)], none, [200, 201, 202, 203, 204, 205, 24]⟩,
 ⟨(some 199), (.call true true true), [(.f 14), (.t 198)], none, [200, 201, 202, 203, 204, 205, 24]⟩,
 ⟨(some 200), .mv, [(.t 17)], none, [198, 199, 201, 205, 24]⟩,
 ⟨(some 201), .mv, [(.t 21)], none, [198, 199, 200, 205, 24]⟩,
 ⟨(some 202), (.ixs 4), [(.t 200), (.t 201)], none, [198, 199, 205, 24]⟩,
 ⟨(some 203), (.fa 2), [(.t 202)], none, [198, 199, 205, 24]⟩,
 ⟨(some 204), (.load (some 2)), [(.t 203)], none, [198, 199, 205, 24]⟩,
 ⟨(some 205), .mv, [(.t 8)], none, [198, 199, 200, 201, 202, 203, 204, 24]⟩,
 ⟨(some 206), (.call true false false), [(.f 16), (.t 199), (.t 204), (.c (.bool true)), (.t 205)], none, [24]⟩,
 ⟨(some 197), .mv, [(.t 206)], none, [24]⟩,
 ⟨(some 207), (.ext 0), [(.t 197)], none, [208, 24]⟩,
 ⟨(some 208), (.ext 1), [(.t 197)], none, [207, 24]⟩,
 ⟨(some 24), (.alloc [(.int .i64 0), (.int .i64 0)]), [], none, [198, 199, 200, 201, 202, 203, 204, 205, 206, 197, 207, 208]⟩,
 ⟨none, (.store 2 (some 24)), [(.t 24), (.t 207)], none, [208]⟩,
 ⟨(some 25), .mv, [(.t 208)], none, []⟩] 0 [7, 8, 9, 14, 16, 17, 18, 19, 20, 21, 22, 23, 24, 25])
 (.seq
 (.seq
 (.reg true [] [] [
 ⟨(some 209), .mv, [(.t 23)], none, []⟩,
 ⟨(some 210), (.bin 0 .neq), [(.t 209), (.c (.int .i64 0))], none, []⟩,
 ⟨(some 211), .mv, [(.t 210)], none, []⟩,
 ⟨(some 212), .mv, [(.t 25)], (some (211, false)), []⟩,
 ⟨(some 213), (.bin 0 .neq), [(.t 212), (.c (.int .i64 0))], (some (211, false)), []⟩,
 ⟨(some 214), .pick, [(.t 211), (.c (.bool true)), (.t 213)], none, []⟩,
 ⟨(some 215), .mv, [(.t 214)], none, []⟩,
 ⟨(some 216), (.fa 0), [(.t 24)], (some (215, false)), []⟩,
 ⟨(some 217), (.load none), [(.t 216)], (some (215, false)), []⟩,
 ⟨(some 218), (.fa 1), [(.t 22)], (some (215, false)), []⟩,
 ⟨(some 219), (.load none), [(.t 218)], (some (215, false)), []⟩,
 ⟨(some 220), (.bin 0 .sub), [(.t 217), (.t 219)], (some (215, false)), []⟩,
 ⟨(some 221), (.fa 0), [(.t 16)], (some (215, false)), []⟩,
 ⟨(some 222), (.load none), [(.t 221)], (some (215, false)), []⟩,
 ⟨(some 223), (.bin 0 .lss), [(.t 220), (.t 222)], (some (215, false)), []⟩,
 ⟨(some 224), .pick, [(.t 215), (.c (.bool true)), (.t 223)], none, []⟩,
 ⟨(some 225), .mv, [(.t 224)], none, []⟩,
 ⟨(some 226), (.fa 1), [(.t 24)], (some (225, false)), []⟩,
 ⟨(some 227), (.load none), [(.t 226)], (some (225, false)), []⟩,
 ⟨(some 228), (.fa 0), [(.t 22)], (some (225, false)), []⟩,
 ⟨(some 229), (.load none), [(.t 228)], (some (225, false)), []⟩,
 ⟨(some 230), (.bin 0 .sub), [(.t 227), (.t 229)], (some (225, false)), []⟩,
 ⟨(some 231), (.fa 1), [(.t 16)], (some (225, false)), []⟩,
 ⟨(some 232), (.load none), [(.t 231)], (some (225, false)), []⟩,
 ⟨(some 233), (.bin 0 .gtr), [(.t 230), (.t 232)], (some (225, false)), []⟩,
 ⟨(some 234), .pick, [(.t 225), (.c (.bool true)), (.t 233)], none, []⟩] 0 [7, 8, 9, 14, 16, 17, 18, 19, 20, 21, 22, 24, 234])
 (.cond (.t 234)
 (.seq
 (.reg true [] [] [
 ⟨(some 6), .mv, [(.c (.bool false))], none, []⟩] 0 [6])
 .ret)
 .skip))
 (.seq
 (.reg true [] [] [
 ⟨(some 235), .mv, [(.t 19)], none, []⟩,
 ⟨(some 236), .mv, [(.t 235)], none, []⟩,
 ⟨(some 237), .mv, [(.t 17)], (some (236, false)), [238, 241]⟩,
 ⟨(some 238), .mv, [(.t 21)], (some (236, false)), [237, 241]⟩,
 ⟨(some 239), (.ixs 4), [(.t 237), (.t 238)], (some (236, false)), [241]⟩,
 ⟨(some 240), (.load (some 4)), [(.t 239)], (some (236, false)), [241]⟩,
 ⟨(some 241), (.load (some 4)), [(.t 9)], (some (236, false)), [237, 238, 239, 240]⟩,
 ⟨(some 242), (.eqs false [(some .i64), (some .i64), (some .i64), (some .i64)]), [(.t 240), (.t 241)], (some (236, false)), []⟩,
 ⟨(some 243), .pick, [(.t 236), (.c (.bool true)), (.t 242)], none, []⟩,
 ⟨(some 19), .mv, [(.t 243)], none, []⟩] 0 [7, 8, 9, 14, 16, 17, 18, 19, 20, 21, 22, 24])
 (.seq
 (.reg true [] [] [
 ⟨(some 244), .mv, [(.t 17)], none, [245, 248]⟩,
 ⟨(some 245), .mv, [(.t 21)], none, [244, 248]⟩,
 ⟨(some 246), (.ixs 4), [(.t 244), (.t 245)], none, [248]⟩,
 ⟨(some 247), (.load (some 4)), [(.t 246)], none, [248]⟩,
 ⟨(some 248), (.load (some 4)), [(.t 18)], none, [244, 245, 246, 247]⟩,
 ⟨(some 249), (.eqs false [(some .i64), (some .i64), (some .i64), (some .i64)]), [(.t 247), (.t 248)], none, []⟩] 0 [7, 8, 9, 14, 16, 17, 18, 19, 20, 21, 22, 24, 249])
 (.cond (.t 249)
 (.reg true [] [] [
 ⟨(some 250), (.fa 1), [(.t 22)], none, []⟩,
 ⟨(some 251), (.load none), [(.t 250)], none, []⟩,
 ⟨(some 252), (.fa 0), [(.t 22)], none, []⟩,
 ⟨(some 253), (.load none), [(.t 252)], none, []⟩,
 ⟨(some 254), (.bin 0 .sub), [(.t 251), (.t 253)], none, []⟩,
 ⟨(some 255), (.fa 1), [(.t 24)], none, []⟩,
 ⟨(some 256), (.load none), [(.t 255)], none, []⟩,
 ⟨(some 257), (.bin 0 .add), [(.t 254), (.t 256)], none, []⟩,
 ⟨(some 258), (.fa 0), [(.t 24)], none, []⟩,
 ⟨(some 259), (.load none), [(.t 258)], none, []⟩,
 ⟨(some 260), (.bin 0 .sub), [(.t 257), (.t 259)], none, []⟩,
 ⟨(some 20), .mv, [(.t 260)], none, []⟩] 0 [7, 8, 9, 14, 16, 17, 18, 19, 20, 21])
 .skip)))))))
 (.reg true [] [] [
 ⟨(some 183), .mv, [(.t 21)], none, []⟩,
 ⟨(some 184), (.bin 0 .add), [(.t 183), (.c (.int .i64 1))], none, []⟩,
 ⟨(some 21), .mv, [(.t 184)], none, []⟩] 0 [7, 8, 9, 14, 16, 17, 18, 19, 20, 21])))
def b8_1 : LCode :=
 (.seq
 (.seq
 (.reg true [] [] [
 ⟨(some 261), .mv, [(.t 26)], none, []⟩,
 ⟨(some 262), .mv, [(.t 17)], none, []⟩,
 ⟨(some 263), .len, [(.t 262)], none, []⟩,
 ⟨(some 264), (.bin 0 .lss), [(.t 261), (.t 263)], none, []⟩] 0 [7, 8, 14, 16, 17, 19, 20, 26, 264])
 (.cond (.t 264)
 .skip
 (.exit 2)))
 (.seq
 (.block 3
 (.seq
 (.reg true [269, 27] [269, 27] [
 ⟨(some 268), (.load (some 3)), [(.t 7)], none, [270, 271, 272, 273, 274, 275, 27]⟩,
 ⟨(some 269), (.call true true true), [(.f 14), (.t 268)], none, [270, 271, 272, 273, 274, 275, 27]⟩,
 ⟨(some 270), .mv, [(.t 17)], none, [268, 269, 271, 275, 27]⟩,
 ⟨(some 271), .mv, [(.t 26)], none, [268, 269, 270, 275, 27]⟩,
 ⟨(some 272), (.ixs 4), [(.t 270), (.t 271)], none, [268, 269, 275, 27]⟩,
 ⟨(some 273), (.fa 0), [(.t 272)], none, [268, 269, 275, 27]⟩,
 ⟨(some 274), (.load (some 2)), [(.t 273)], none, [268, 269, 275, 27]⟩,
 ⟨(some 275), .mv, [(.t 8)], none, [268, 269, 270, 271, 272, 273, 274, 27]⟩,
 ⟨(some 276), (.call true false false), [(.f 16), (.t 269), (.t 274), (.c (.bool false)), (.t 275)], none, [27]⟩,
 ⟨(some 267), .mv, [(.t 276)], none, [27]⟩,
 ⟨(some 277), (.ext 0), [(.t 267)], none, [278, 27]⟩,
 ⟨(some 278), (.ext 1), [(.t 267)], none, [277, 27]⟩,
 ⟨(some 27), (.alloc [(.int .i64 0), (.int .i64 0)]), [], none, [268, 269, 270, 271, 272, 273, 274, 275, 276, 267, 277, 278]⟩,
 ⟨none, (.store 2 (some 27)), [(.t 27), (.t 277)], none, [278]⟩,
 ⟨(some 28), .mv, [(.t 278)], none, []⟩] 0 [7, 8, 14, 16, 17, 19, 20, 26, 27])
 (.seq
 (.reg true [281, 29] [281, 29] [
 ⟨(some 280), (.load (some 3)), [(.t 7)], none, [282, 283, 284, 285, 286, 287, 29]⟩,
 ⟨(some 281), (.call true true true), [(.f 14), (.t 280)], none, [282, 283, 284, 285, 286, 287, 29]⟩,
 ⟨(some 282), .mv, [(.t 17)], none, [280, 281, 283, 287, 29]⟩,
 ⟨(some 283), .mv, [(.t 26)], none, [280, 281, 282, 287, 29]⟩,
 ⟨(some 284), (.ixs 4), [(.t 282), (.t 283)], none, [280, 281, 287, 29]⟩,
 ⟨(some 285), (.fa 2), [(.t 284)], none, [280, 281, 287, 29]⟩,
 ⟨(some 286), (.load (some 2)), [(.t 285)], none, [280, 281, 287, 29]⟩,
 ⟨(some 287), .mv, [(.t 8)], none, [280, 281, 282, 283, 284, 285, 286, 29]⟩,
 ⟨(some 288), (.call true false false), [(.f 16), (.t 281), (.t 286), (.c (.bool true)), (.t 287)], none, [29]⟩,
 ⟨(some 279), .mv, [(.t 288)], none, [29]⟩,
 ⟨(some 289), (.ext 0), [(.t 279)], none, [290, 29]⟩,
 ⟨(some 290), (.ext 1), [(.t 279)], none, [289, 29]⟩,
 ⟨(some 29), (.alloc [(.int .i64 0), (.int .i64 0)]), [], none, [280, 281, 282, 283, 284, 285, 286, 287, 288, 279, 289, 290]⟩,
 ⟨none, (.store 2 (some 29)), [(.t 29), (.t 289)], none, [290]⟩,
 ⟨(some 30), .mv, [(.t 290)], none, []⟩] 0 [7, 8, 14, 16, 17, 19, 20, 26, 27, 29])
 (.seq
 (.reg true [] [] [
 ⟨(some 291), (.fa 1), [(.t 27)], none, []⟩,
 ⟨(some 292), (.load none), [(.t 291)], none, []⟩,
 ⟨(some 293), (.fa 0), [(.t 27)], none, []⟩,
 ⟨(some 294), (.load none), [(.t 293)], none, []⟩,
 ⟨(some 295), (.bin 0 .sub), [(.t 292), (.t 294)], none, []⟩,
 ⟨(some 296), (.fa 1), [(.t 29)], none, []⟩,
 ⟨(some 297), (.load none), [(.t 296)], none, []⟩,
 ⟨(some 298), (.bin 0 .add), [(.t 295), (.t 297)], none, []⟩,
 ⟨(some 299), (.fa 0), [(.t 29)], none, []⟩,
 ⟨(some 300), (.load none), [(.t 299)], none, []⟩,
 ⟨(some 301), (.bin 0 .sub), [(.t 298), (.t 300)], none, []⟩,
 ⟨(some 302), .mv, [(.t 20)], none, []⟩,
 ⟨(some 303), (.bin 0 .gtr), [(.t 301), (.t 302)], none, []⟩] 0 [7, 8, 14, 16, 17, 19, 20, 26, 303])
 (.cond (.t 303)
 (.seq
 (.reg true [] [] [
 ⟨(some 6), .mv, [(.c (.bool false))], none, []⟩] 0 [6])
 .ret)
 .skip)))))
 (.reg true [] [] [
 ⟨(some 265), .mv, [(.t 26)], none, []⟩,
 ⟨(some 266), (.bin 0 .add), [(.t 265), (.c (.int .i64 1))], none, []⟩,
 ⟨(some 26), .mv, [(.t 266)], none, []⟩] 0 [7, 8, 14, 16, 17, 19, 20, 26])))
def l8 : LFun := ⟨3, 321, [],
 (.seq
 (.reg false [3, 4, 5] [3, 4, 5] [
 ⟨(some 3), .box, [(.t 0)], none, []⟩,
 ⟨(some 4), .box, [(.t 1)], none, []⟩,
 ⟨(some 5), .box, [(.t 2)], none, []⟩,
 ⟨(some 6), .mv, [(.c (.bool false))], none, []⟩] 0 [3, 4, 5])
 (.seq
 (.reg false [32, 7] [32, 7] [
 ⟨(some 31), (.load (some 3)), [(.t 3)], none, []⟩,
 ⟨(some 32), (.call false true true), [(.f 43), (.t 31)], none, []⟩,
 ⟨(some 7), (.alloc [(.sl none 1 []), (.sl none 1 []), (.sl none 1 [])]), [], none, []⟩,
 ⟨none, (.store 3 none), [(.t 7), (.t 32)], none, []⟩] 0 [4, 5, 7])
 (.seq
 (.reg false [] [] [
 ⟨(some 33), (.load (some 3)), [(.t 7)], none, []⟩,
 ⟨(some 34), (.ixa 4 1), [(.t 5), (.c (.int .i64 0))], none, []⟩,
 ⟨(some 35), (.load none), [(.t 34)], none, []⟩,
 ⟨(some 36), (.call false false false), [(.f 44), (.t 33), (.t 35)], none, []⟩,
 ⟨(some 8), .mv, [(.t 36)], none, []⟩] 0 [4, 5, 7, 8])
 (.seq
 (.reg false [9] [9] [
 ⟨(some 37), (.load (some 3)), [(.t 7)], none, [38, 39, 40, 41, 43, 44, 45, 46, 47, 9]⟩,
 ⟨(some 38), (.ixa 4 1), [(.t 4), (.c (.int .i64 0))], none, [37, 40, 41, 43, 44, 45, 46, 47, 9]⟩,
 ⟨(some 39), (.load none), [(.t 38)], none, [37, 40, 41, 43, 44, 45, 46, 47, 9]⟩,
 ⟨(some 40), (.ixa 4 1), [(.t 4), (.c (.int .i64 1))], none, [37, 38, 39, 43, 44, 45, 46, 47, 9]⟩,
 ⟨(some 41), (.load none), [(.t 40)], none, [37, 38, 39, 43, 44, 45, 46, 47, 9]⟩,
 ⟨(some 42), (.call true false false), [(.f 45), (.t 37), (.t 39), (.t 41)], none, [43, 44, 45, 46, 47, 9]⟩,
 ⟨(some 43), (.load (some 3)), [(.t 7)], none, [37, 38, 39, 40, 41, 42, 44, 45, 46, 47, 9]⟩,
 ⟨(some 44), (.ixa 4 1), [(.t 4), (.c (.int .i64 2))], none, [37, 38, 39, 40, 41, 42, 43, 46, 47, 9]⟩,
 ⟨(some 45), (.load none), [(.t 44)], none, [37, 38, 39, 40, 41, 42, 43, 46, 47, 9]⟩,
 ⟨(some 46), (.ixa 4 1), [(.t 4), (.c (.int .i64 3))], none, [37, 38, 39, 40, 41, 42, 43, 44, 45, 9]⟩,
 ⟨(some 47), (.load none), [(.t 46)], none, [37, 38, 39, 40, 41, 42, 43, 44, 45, 9]⟩,
 ⟨(some 48), (.call true false false), [(.f 45), (.t 43), (.t 45), (.t 47)], none, [9]⟩,
 ⟨(some 49), (.call true false false), [(.f 30), (.t 42), (.t 48)], none, [9]⟩,
 ⟨(some 9), (.alloc [(.int .i64 0), (.int .i64 0), (.int .i64 0), (.int .i64 0)]), [], none, [37, 38, 39, 40, 41, 42, 43, 44, 45, 46, 47, 48, 49]⟩,
 ⟨none, (.store 4 (some 9)), [(.t 9), (.t 49)], none, []⟩] 0 [5, 7, 8, 9])
 (.seq
 (.reg false [52, 10] [52, 10] [
 ⟨(some 51), (.load (some 3)), [(.t 7)], none, [53, 54, 55, 10]⟩,
 ⟨(some 52), (.call true true true), [(.f 14), (.t 51)], none, [53, 54, 55, 10]⟩,
 ⟨(some 53), (.fa 0), [(.t 9)], none, [51, 52, 55, 10]⟩,
 ⟨(some 54), (.load (some 2)), [(.t 53)], none, [51, 52, 55, 10]⟩,
 ⟨(some 55), .mv, [(.t 8)], none, [51, 52, 53, 54, 10]⟩,
 ⟨(some 56), (.call true false false), [(.f 16), (.t 52), (.t 54), (.c (.bool false)), (.t 55)], none, [10]⟩,
 ⟨(some 50), .mv, [(.t 56)], none, [10]⟩,
 ⟨(some 57), (.ext 0), [(.t 50)], none, [58, 10]⟩,
 ⟨(some 58), (.ext 1), [(.t 50)], none, [57, 10]⟩,
 ⟨(some 10), (.alloc [(.int .i64 0), (.int .i64 0)]), [], none, [51, 52, 53, 54, 55, 56, 50, 57, 58]⟩,
 ⟨none, (.store 2 (some 10)), [(.t 10), (.t 57)], none, [58]⟩,
 ⟨(some 11), .mv, [(.t 58)], none, []⟩] 0 [5, 7, 8, 9, 10, 11])
 (.seq
 (.reg false [61, 12] [61, 12] [
 ⟨(some 60), (.load (some 3)), [(.t 7)], none, [62, 63, 64, 12]⟩,
 ⟨(some 61), (.call true true true), [(.f 14), (.t 60)], none, [62, 63, 64, 12]⟩,
 ⟨(some 62), (.fa 2), [(.t 9)], none, [60, 61, 64, 12]⟩,
 ⟨(some 63), (.load (some 2)), [(.t 62)], none, [60, 61, 64, 12]⟩,
 ⟨(some 64), .mv, [(.t 8)], none, [60, 61, 62, 63, 12]⟩,
 ⟨(some 65), (.call true false false), [(.f 16), (.t 61), (.t 63), (.c (.bool true)), (.t 64)], none, [12]⟩,
 ⟨(some 59), .mv, [(.t 65)], none, [12]⟩,
 ⟨(some 66), (.ext 0), [(.t 59)], none, [67, 12]⟩,
 ⟨(some 67), (.ext 1), [(.t 59)], none, [66, 12]⟩,
 ⟨(some 12), (.alloc [(.int .i64 0), (.int .i64 0)]), [], none, [60, 61, 62, 63, 64, 65, 59, 66, 67]⟩,
 ⟨none, (.store 2 (some 12)), [(.t 12), (.t 66)], none, [67]⟩,
 ⟨(some 13), .mv, [(.t 67)], none, []⟩] 0 [5, 7, 8, 9, 10, 11, 12, 13])
 (.seq
 (.reg false [70, 14] [70, 14] [
 ⟨(some 69), (.load (some 3)), [(.t 7)], none, [71, 72, 14]⟩,
 ⟨(some 70), (.call true true true), [(.f 14), (.t 69)], none, [71, 72, 14]⟩,
 ⟨(some 71), (.load (some 4)), [(.t 9)], none, [69, 70, 72, 14]⟩,
 ⟨(some 72), .mv, [(.t 8)], none, [69, 70, 71, 14]⟩,
 ⟨(some 73), (.call true false false), [(.f 31), (.t 70), (.t 71), (.t 72)], none, [14]⟩,
 ⟨(some 68), .mv, [(.t 73)], none, [14]⟩,
 ⟨(some 74), (.ext 0), [(.t 68)], none, [75, 14]⟩,
 ⟨(some 75), (.ext 1), [(.t 68)], none, [74, 14]⟩,
 ⟨(some 14), (.alloc [(.int .i64 0), (.int .i64 0)]), [], none, [69, 70, 71, 72, 73, 68, 74, 75]⟩,
 ⟨none, (.store 2 (some 14)), [(.t 14), (.t 74)], none, [75]⟩,
 ⟨(some 15), .mv, [(.t 75)], none, []⟩] 0 [5, 7, 8, 9, 10, 11, 12, 13, 14, 15])
 (.seq
 (.seq
 (.reg false [] [] [
 ⟨(some 76), .mv, [(.t 11)], none, []⟩,
 ⟨(some 77), (.bin 0 .neq), [(.t 76), (.c (.int .i64 0))], none, []⟩,
 ⟨(some 78), .mv, [(.t 77)], none, []⟩,
 ⟨(some 79), .mv, [(.t 13)], (some (78, false)), []⟩,
 ⟨(some 80), (.bin 0 .neq), [(.t 79), (.c (.int .i64 0))], (some (78, false)), []⟩,
 ⟨(some 81), .pick, [(.t 78), (.c (.bool true)), (.t 80)], none, []⟩,
 ⟨(some 82), .mv, [(.t 81)], none, []⟩,
 ⟨(some 83), .mv, [(.t 15)], (some (82, false)), []⟩,
 ⟨(some 84), (.bin 0 .neq), [(.t 83), (.c (.int .i64 0))], (some (82, false)), []⟩,
 ⟨(some 85), .pick, [(.t 82), (.c (.bool true)), (.t 84)], none, []⟩,
 ⟨(some 86), .mv, [(.t 85)], none, []⟩,
 ⟨(some 87), (.fa 0), [(.t 10)], (some (86, false)), [89, 90]⟩,
 ⟨(some 88), (.load none), [(.t 87)], (some (86, false)), [89, 90]⟩,
 ⟨(some 89), (.fa 1), [(.t 10)], (some (86, false)), [87, 88]⟩,
 ⟨(some 90), (.load none), [(.t 89)], (some (86, false)), [87, 88]⟩,
 ⟨(some 91), (.bin 0 .gtr), [(.t 88), (.t 90)], (some (86, false)), []⟩,
 ⟨(some 92), .pick, [(.t 86), (.c (.bool true)), (.t 91)], none, []⟩,
 ⟨(some 93), .mv, [(.t 92)], none, []⟩,
 ⟨(some 94), (.fa 0), [(.t 12)], (some (93, false)), [96, 97]⟩,
 ⟨(some 95), (.load none), [(.t 94)], (some (93, false)), [96, 97]⟩,
 ⟨(some 96), (.fa 1), [(.t 12)], (some (93, false)), [94, 95]⟩,
 ⟨(some 97), (.load none), [(.t 96)], (some (93, false)), [94, 95]⟩,
 ⟨(some 98), (.bin 0 .gtr), [(.t 95), (.t 97)], (some (93, false)), []⟩,
 ⟨(some 99), .pick, [(.t 93), (.c (.bool true)), (.t 98)], none, []⟩,
 ⟨(some 100), .mv, [(.t 99)], none, []⟩,
 ⟨(some 101), (.load (some 2)), [(.t 14)], (some (100, false)), [102, 103, 104, 105, 106, 107, 108, 109, 110, 111, 112]⟩,
 ⟨(some 102), (.fa 0), [(.t 12)], (some (100, false)), [101, 104, 105, 107, 108, 109, 110, 111]⟩,
 ⟨(some 103), (.load none), [(.t 102)], (some (100, false)), [101, 104, 105, 107, 108, 109, 110, 111]⟩,
 ⟨(some 104), (.fa 1), [(.t 10)], (some (100, false)), [101, 102, 103, 107, 108, 109, 110, 111]⟩,
 ⟨(some 105), (.load none), [(.t 104)], (some (100, false)), [101, 102, 103, 107, 108, 109, 110, 111]⟩,
 ⟨(some 106), (.bin 0 .sub), [(.t 103), (.t 105)], (some (100, false)), [101, 107, 108, 109, 110, 111]⟩,
 ⟨(some 107), (.fa 1), [(.t 12)], (some (100, false)), [101, 102, 103, 104, 105, 106, 109, 110]⟩,
 ⟨(some 108), (.load none), [(.t 107)], (some (100, false)), [101, 102, 103, 104, 105, 106, 109, 110]⟩,
 ⟨(some 109), (.fa 0), [(.t 10)], (some (100, false)), [101, 102, 103, 104, 105, 106, 107, 108]⟩,
 ⟨(some 110), (.load none), [(.t 109)], (some (100, false)), [101, 102, 103, 104, 105, 106, 107, 108]⟩,
 ⟨(some 111), (.bin 0 .sub), [(.t 108), (.t 110)], (some (100, false)), [101, 102, 103, 104, 105, 106]⟩,
 ⟨(some 112), (.call true false false), [(.f 26), (.t 106), (.t 111)], (some (100, false)), [101]⟩,
 ⟨(some 113), (.eqs true [(some .i64), (some .i64)]), [(.t 101), (.t 112)], (some (100, false)), []⟩,
 ⟨(some 114), .pick, [(.t 100), (.c (.bool true)), (.t 113)], none, []⟩] 0 [5, 7, 8, 9, 10, 12, 14, 114])
 (.cond (.t 114)
 (.seq
 (.reg false [] [] [
 ⟨(some 6), .mv, [(.c (.bool false))], none, []⟩] 0 [6])
 .ret)
 .skip))
 (.seq
 (.seq
 (.reg false [] [] [
 ⟨(some 115), (.load (some 2)), [(.t 12)], none, [116, 117, 118, 120, 121, 122, 123, 126]⟩,
 ⟨(some 116), (.ixa 4 1), [(.t 5), (.c (.int .i64 1))], none, [115, 120, 121, 122, 123, 126]⟩,
 ⟨(some 117), (.load none), [(.t 116)], none, [115, 120, 121, 122, 123, 126]⟩,
 ⟨(some 118), (.conv .i64), [(.t 117)], none, [115, 120, 121, 122, 123, 126]⟩,
 ⟨(some 119), (.call true false false), [(.f 47), (.t 115), (.t 118)], none, [120, 121, 122, 123, 126]⟩,
 ⟨(some 120), (.load (some 2)), [(.t 10)], none, [115, 116, 117, 118, 119, 121, 122, 123, 126]⟩,
 ⟨(some 121), (.ixa 4 1), [(.t 5), (.c (.int .i64 2))], none, [115, 116, 117, 118, 119, 120, 126]⟩,
 ⟨(some 122), (.load none), [(.t 121)], none, [115, 116, 117, 118, 119, 120, 126]⟩,
 ⟨(some 123), (.conv .i64), [(.t 122)], none, [115, 116, 117, 118, 119, 120, 126]⟩,
 ⟨(some 124), (.call true false false), [(.f 47), (.t 120), (.t 123)], none, [126]⟩,
 ⟨(some 125), (.bin 0 .sub), [(.t 119), (.t 124)], none, [126]⟩,
 ⟨(some 126), (.load (some 2)), [(.t 14)], none, [115, 116, 117, 118, 119, 120, 121, 122, 123, 124, 125]⟩,
 ⟨(some 127), (.call true false false), [(.f 46), (.t 125), (.t 126)], none, []⟩,
 ⟨(some 128), (.un .not), [(.t 127)], none, []⟩] 0 [5, 7, 8, 9, 14, 128])
 (.cond (.t 128)
 (.seq
 (.reg false [] [] [
 ⟨(some 6), .mv, [(.c (.bool false))], none, []⟩] 0 [6])
 .ret)
 .skip))
 (.seq
 (.reg false [16] [16] [
 ⟨(some 129), (.ixa 4 1), [(.t 5), (.c (.int .i64 3))], none, []⟩,
 ⟨(some 130), (.load none), [(.t 129)], none, []⟩,
 ⟨(some 131), (.conv .i64), [(.t 130)], none, []⟩,
 ⟨(some 132), (.bin 0 .rem), [(.t 131), (.c (.int .i64 400))], none, []⟩,
 ⟨(some 133), (.bin 0 .sub), [(.t 132), (.c (.int .i64 200))], none, []⟩,
 ⟨(some 134), (.ixa 4 1), [(.t 5), (.c (.int .i64 3))], none, []⟩,
 ⟨(some 135), (.load none), [(.t 134)], none, []⟩,
 ⟨(some 136), (.conv .i64), [(.t 135)], none, []⟩,
 ⟨(some 137), (.bin 0 .rem), [(.t 136), (.c (.int .i64 400))], none, []⟩,
 ⟨(some 138), (.bin 0 .sub), [(.t 137), (.c (.int .i64 200))], none, []⟩,
 ⟨(some 139), (.ixa 4 1), [(.t 5), (.c (.int .i64 1))], none, []⟩,
 ⟨(some 140), (.load none), [(.t 139)], none, []⟩,
 ⟨(some 141), (.conv .i64), [(.t 140)], none, []⟩,
 ⟨(some 142), (.bin 0 .rem), [(.t 141), (.c (.int .i64 600))], none, []⟩,
 ⟨(some 143), (.bin 0 .add), [(.t 138), (.t 142)], none, []⟩,
 ⟨(some 144), (.call false false false), [(.f 26), (.t 133), (.t 143)], none, []⟩,
 ⟨(some 16), (.alloc [(.int .i64 0), (.int .i64 0)]), [], none, []⟩,
 ⟨none, (.store 2 none), [(.t 16), (.t 144)], none, []⟩] 0 [7, 8, 9, 14, 16])
 (.seq
 (.reg false [147, 150] [147, 150] [
 ⟨(some 146), (.load (some 3)), [(.t 7)], none, [148, 149]⟩,
 ⟨(some 147), (.call true true true), [(.f 14), (.t 146)], none, [148, 149]⟩,
 ⟨(some 148), .mv, [(.t 8)], none, [146, 147, 149]⟩,
 ⟨(some 149), (.load (some 2)), [(.t 16)], none, [146, 147, 148]⟩,
 ⟨(some 150), (.call true false true), [(.f 32), (.t 147), (.t 148), (.t 149)], none, []⟩,
 ⟨(some 145), .mv, [(.t 150)], none, []⟩,
 ⟨(some 151), (.ext 0), [(.t 145)], none, [152]⟩,
 ⟨(some 152), (.ext 1), [(.t 145)], none, [151, 17]⟩,
 ⟨(some 17), .mv, [(.t 151)], none, [152]⟩,
 ⟨(some 11), .mv, [(.t 152)], none, []⟩] 0 [7, 8, 9, 11, 14, 16, 17])
 (.seq
 (.reg false [155, 18] [155, 18] [
 ⟨(some 154), (.load (some 3)), [(.t 7)], none, [156, 157, 18]⟩,
 ⟨(some 155), (.call true true true), [(.f 14), (.t 154)], none, [156, 157, 18]⟩,
 ⟨(some 156), .mv, [(.t 8)], none, [154, 155, 157, 18]⟩,
 ⟨(some 157), (.load (some 2)), [(.t 16)], none, [154, 155, 156, 18]⟩,
 ⟨(some 158), (.call true false false), [(.f 33), (.t 155), (.t 156), (.t 157)], none, [18]⟩,
 ⟨(some 153), .mv, [(.t 158)], none, [18]⟩,
 ⟨(some 159), (.ext 0), [(.t 153)], none, [160, 18]⟩,
 ⟨(some 160), (.ext 1), [(.t 153)], none, [159, 18]⟩,
 ⟨(some 18), (.alloc [(.int .i64 0), (.int .i64 0), (.int .i64 0), (.int .i64 0)]), [], none, [154, 155, 156, 157, 158, 153, 159, 160]⟩,
 ⟨none, (.store 4 (some 18)), [(.t 18), (.t 159)], none, [160]⟩,
 ⟨(some 13), .mv, [(.t 160)], none, []⟩] 0 [7, 8, 9, 11, 13, 14, 16, 17, 18])
 (.seq
 (.seq
 (.reg false [] [] [
 ⟨(some 161), .mv, [(.t 11)], none, []⟩,
 ⟨(some 162), (.bin 0 .neq), [(.t 161), (.c (.int .i64 0))], none, []⟩,
 ⟨(some 163), .mv, [(.t 162)], none, []⟩,
 ⟨(some 164), .mv, [(.t 13)], (some (163, false)), []⟩,
 ⟨(some 165), (.bin 0 .eql), [(.t 164), (.c (.int .i64 0))], (some (163, false)), []⟩,
 ⟨(some 166), .mv, [(.t 17)], (some (163, false)), []⟩,
 ⟨(some 167), .len, [(.t 166)], (some (163, false)), []⟩,
 ⟨(some 168), (.bin 0 .gtr), [(.t 167), (.c (.int .i64 0))], (some (163, false)), []⟩,
 ⟨(some 169), (.bin 1 .neq), [(.t 165), (.t 168)], (some (163, false)), []⟩,
 ⟨(some 170), .pick, [(.t 163), (.c (.bool true)), (.t 169)], none, []⟩,
 ⟨(some 171), .mv, [(.t 170)], none, []⟩,
 ⟨(some 172), .mv, [(.t 13)], (some (171, false)), []⟩,
 ⟨(some 173), (.bin 0 .neq), [(.t 172), (.c (.int .i64 0))], (some (171, false)), []⟩,
 ⟨(some 174), .mv, [(.t 173)], (some (171, false)), []⟩,
 ⟨(some 175), .mv, [(.t 13)], (some (174, true)), []⟩,
 ⟨(some 176), (.bin 0 .neq), [(.t 175), (.c (.int .i64 7))], (some (174, true)), []⟩,
 ⟨(some 177), .pick, [(.t 174), (.t 176), (.c (.bool false))], (some (171, false)), []⟩,
 ⟨(some 178), .pick, [(.t 171), (.c (.bool true)), (.t 177)], none, []⟩] 0 [7, 8, 9, 14, 16, 17, 18, 178])
 (.cond (.t 178)
 (.seq
 (.reg false [] [] [
 ⟨(some 6), .mv, [(.c (.bool false))], none, []⟩] 0 [6])
 .ret)
 .skip))
 (.seq
 (.reg false [] [] [
 ⟨(some 19), .mv, [(.c (.bool false))], none, []⟩,
 ⟨(some 20), .mv, [(.c (.int .i64 0))], none, []⟩] 0 [7, 8, 9, 14, 16, 17, 18, 19, 20])
 (.seq
 (.seq
 (.reg false [] [] [
 ⟨(some 21), .mv, [(.c (.int .i64 0))], none, []⟩] 0 [7, 8, 9, 14, 16, 17, 18, 19, 20, 21])
 (.block 0
 (.loop b8_0)))
 (.seq
 (.seq
 (.reg false [] [] [
 ⟨(some 26), .mv, [(.c (.int .i64 0))], none, []⟩] 0 [7, 8, 14, 16, 17, 19, 20, 26])
 (.block 2
 (.loop b8_1)))
 (.seq
 (.reg false [] [] [
 ⟨(some 304), .mv, [(.t 19)], none, []⟩,
 ⟨(some 305), (.fa 0), [(.t 14)], none, []⟩,
 ⟨(some 306), (.load none), [(.t 305)], none, []⟩,
 ⟨(some 307), (.fa 0), [(.t 16)], none, []⟩,
 ⟨(some 308), (.load none), [(.t 307)], none, []⟩,
 ⟨(some 309), (.bin 0 .geq), [(.t 306), (.t 308)], none, []⟩,
 ⟨(some 310), .mv, [(.t 309)], none, []⟩,
 ⟨(some 311), (.fa 1), [(.t 14)], (some (310, true)), []⟩,
 ⟨(some 312), (.load none), [(.t 311)], (some (310, true)), []⟩,
 ⟨(some 313), (.fa 1), [(.t 16)], (some (310, true)), []⟩,
 ⟨(some 314), (.load none), [(.t 313)], (some (310, true)), []⟩,
 ⟨(some 315), (.bin 0 .leq), [(.t 312), (.t 314)], (some (310, true)), []⟩,
 ⟨(some 316), .pick, [(.t 310), (.t 315), (.c (.bool false))], none, []⟩,
 ⟨(some 317), (.bin 1 .eql), [(.t 304), (.t 316)], none, []⟩,
 ⟨(some 318), .mv, [(.t 317)], none, []⟩,
 ⟨(some 319), (.call false false false), [(.f 13)], (some (318, true)), []⟩,
 ⟨(some 320), .pick, [(.t 318), (.t 319), (.c (.bool false))], none, []⟩,
 ⟨(some 6), .mv, [(.t 320)], none, []⟩] 0 [6])
 .ret))))))))))))))))),
 [(.t 6)]⟩
theorem c8 : funC Try.prog [(0, [3, 4, 5]), (1, [4, 5, 7]), (2, [4, 5, 7, 8]), (3, [5, 7, 8, 9]), (4, [5, 7, 8, 9, 10, 11]), (5, [5, 7, 8, 9, 10, 11, 12, 13]), (6, [5, 7, 8, 9, 10, 11, 12, 13, 14, 15]), (7, [5, 7, 8, 9, 10, 12, 14, 114]), (8, [6]), (9, [5, 7, 8, 9, 14, 128]), (10, [6]), (11, [7, 8, 9, 14, 16]), (12, [7, 8, 9, 11, 14, 16, 17]), (13, [7, 8, 9, 11, 13, 14, 16, 17, 18]), (14, [7, 8, 9, 14, 16, 17, 18, 178]), (15, [6]), (16, [7, 8, 9, 14, 16, 17, 18, 19, 20]), (17, [7, 8, 9, 14, 16, 17, 18, 19, 20, 21]), (18, [7, 8, 9, 14, 16, 17, 18, 19, 20, 21, 182]), (19, [7, 8, 9, 14, 16, 17, 18, 19, 20, 21]), (20, [7, 8, 9, 14, 16, 17, 18, 19, 20, 21, 22, 23]), (21, [7, 8, 9, 14, 16, 17, 18, 19, 20, 21, 22, 23, 24, 25]), (22, [7, 8, 9, 14, 16, 17, 18, 19, 20, 21, 22, 24, 234]), (23, [6]), (24, [7, 8, 9, 14, 16, 17, 18, 19, 20, 21, 22, 24]), (25, [7, 8, 9, 14, 16, 17, 18, 19, 20, 21, 22, 24, 249]), (26, [7, 8, 9, 14, 16, 17, 18, 19, 20, 21]), (27, [7, 8, 14, 16, 17, 19, 20, 26]), (28, [7, 8, 14, 16, 17, 19, 20, 26, 264]), (29, [7, 8, 14, 16, 17, 19, 20, 26]), (30, [7, 8, 14, 16, 17, 19, 20, 26, 27]), (31, [7, 8, 14, 16, 17, 19, 20, 26, 27, 29]), (32, [7, 8, 14, 16, 17, 19, 20, 26, 303]), (33, [6]), (34, [6])] Try.f8 = some (unF l8) := by kernel_rfl
/-- acme/acmelaw02.ZonePlated -/
def b9_0 : LCode :=
 (.seq
 (.seq
 (.reg true [] [] [
 ⟨(some 194), .mv, [(.t 22)], none, []⟩,
 ⟨(some 195), (.bin 0 .leq), [(.t 194), (.c (.int .i64 1))], none, []⟩] 0 [8, 9, 10, 11, 12, 13, 22, 195])
 (.cond (.t 195)
 .skip
 (.exit 0)))
 (.seq
 (.block 1
 (.seq
 (.reg true [] [] [
 ⟨(some 198), (.fa 0), [(.t 13)], none, []⟩,
 ⟨(some 199), (.load none), [(.t 198)], none, []⟩,
 ⟨(some 200), (.bin 0 .sub), [(.t 199), (.c (.int .i64 1))], none, []⟩,
 ⟨(some 23), .mv, [(.t 200)], none, []⟩] 0 [8, 9, 10, 11, 12, 13, 22, 23])
 (.seq
 (.seq
 (.reg true [] [] [
 ⟨(some 201), .mv, [(.t 22)], none, []⟩,
 ⟨(some 202), (.bin 0 .gtr), [(.t 201), (.c (.int .i64 0))], none, []⟩] 0 [8, 9, 10, 11, 12, 13, 22, 23, 202])
 (.cond (.t 202)
 (.reg true [] [] [
 ⟨(some 203), (.fa 1), [(.t 13)], none, []⟩,
 ⟨(some 204), (.load none), [(.t 203)], none, []⟩,
 ⟨(some 205), (.bin 0 .add), [(.t 204), (.c (.int .i64 1))], none, []⟩,
 ⟨(some 23), .mv, [(.t 205)], none, []⟩] 0 [8, 9, 10, 11, 12, 13, 22, 23])
 .skip))
 (.seq
 (.reg true [] [] [
 ⟨(some 206), .mv, [(.t 12)], none, []⟩,
 ⟨(some 207), .mv, [(.t 23)], none, []⟩,
 ⟨(some 208), (.fa 0), [(.t 10)], none, []⟩,
 ⟨(some 209), (.fa 0), [(.t 208)], none, []⟩,
 ⟨(some 210), (.load none), [(.t 209)], none, []⟩,
 ⟨(some 211), (.call false false false), [(.t 206), (.t 207), (.t 210)], none, []⟩,
 ⟨(some 212), .mv, [(.t 211)], none, []⟩,
 ⟨(some 213), .mv, [(.t 12)], (some (212, true)), []⟩,
 ⟨(some 214), .mv, [(.t 23)], (some (212, true)), []⟩,
 ⟨(some 215), (.fa 0), [(.t 10)], (some (212, true)), []⟩,
 ⟨(some 216), (.fa 1), [(.t 215)], (some (212, true)), []⟩,
 ⟨(some 217), (.load none), [(.t 216)], (some (212, true)), []⟩,
 ⟨(some 218), (.call false false false), [(.t 213), (.t 214), (.t 217)], (some (212, true)), []⟩,
 ⟨(some 219), .pick, [(.t 212), (.t 218), (.c (.bool false))], none, []⟩] 0 [8, 9, 10, 11, 12, 13, 22, 219])
 (.cond (.t 219)
 (.seq
 (.reg true [] [] [
 ⟨(some 6), .mv, [(.c (.bool false))], none, []⟩] 0 [6, 8, 9, 10, 11])
 .ret)
 .skip)))))
 (.reg true [] [] [
 ⟨(some 196), .mv, [(.t 22)], none, []⟩,
 ⟨(some 197), (.bin 0 .add), [(.t 196), (.c (.int .i64 2))], none, []⟩,
 ⟨(some 22), .mv, [(.t 197)], none, []⟩] 0 [8, 9, 10, 11, 12, 13, 22])))
def l9 : LFun := ⟨3, 221, [],
 (.seq
 (.reg false [3, 4, 5] [3, 4, 5] [
 ⟨(some 3), .box, [(.t 0)], none, []⟩,
 ⟨(some 4), .box, [(.t 1)], none, []⟩,
 ⟨(some 5), .box, [(.t 2)], none, []⟩,
 ⟨(some 6), .mv, [(.c (.bool false))], none, []⟩] 0 [3, 4, 5, 8, 9, 10, 11])
 (.seq
 (.reg false [] [] [
 ⟨(some 24), (.ixa 2 1), [(.t 3), (.c (.int .i64 0))], none, []⟩,
 ⟨(some 25), (.load none), [(.t 24)], none, []⟩,
 ⟨(some 26), (.conv .i64), [(.t 25)], none, []⟩,
 ⟨(some 27), (.bin 0 .sub), [(.t 26), (.c (.int .i64 30000))], none, []⟩,
 ⟨(some 7), .mv, [(.t 27)], none, []⟩] 0 [3, 4, 5, 7, 8, 9, 10, 11])
 (.seq
 (.reg false [8, 9] [8, 9] [
 ⟨(some 28), .mv, [(.t 7)], none, [29, 30, 31, 32, 33, 34, 36, 37, 38, 39, 8, 9]⟩,
 ⟨(some 29), .mv, [(.t 7)], none, [28, 30, 31, 32, 33, 36, 37, 38, 39, 8, 9]⟩,
 ⟨(some 30), (.ixa 2 1), [(.t 3), (.c (.int .i64 1))], none, [28, 29, 36, 37, 38, 39, 8, 9]⟩,
 ⟨(some 31), (.load none), [(.t 30)], none, [28, 29, 36, 37, 38, 39, 8, 9]⟩,
 ⟨(some 32), (.conv .i64), [(.t 31)], none, [28, 29, 36, 37, 38, 39, 8, 9]⟩,
 ⟨(some 33), (.bin 0 .rem), [(.t 32), (.c (.int .i64 600))], none, [28, 29, 36, 37, 38, 39, 8, 9]⟩,
 ⟨(some 34), (.bin 0 .add), [(.t 29), (.t 33)], none, [28, 36, 37, 38, 39, 8, 9]⟩,
 ⟨(some 35), (.call true false false), [(.f 26), (.t 28), (.t 34)], none, [36, 37, 38, 39, 8, 9]⟩,
 ⟨(some 36), (.ixa 4 1), [(.t 5), (.c (.int .i64 0))], none, [28, 29, 30, 31, 32, 33, 34, 35, 8, 9]⟩,
 ⟨(some 37), (.load none), [(.t 36)], none, [28, 29, 30, 31, 32, 33, 34, 35, 8, 9]⟩,
 ⟨(some 38), (.bin 0 .rem), [(.t 37), (.c (.int .u8 2))], none, [28, 29, 30, 31, 32, 33, 34, 35, 8, 9]⟩,
 ⟨(some 39), (.bin 0 .eql), [(.t 38), (.c (.int .u8 1))], none, [28, 29, 30, 31, 32, 33, 34, 35, 8, 9]⟩,
 ⟨(some 8), (.alloc [(.int .i64 0), (.int .i64 0)]), [], none, [28, 29, 30, 31, 32, 33, 34, 35, 36, 37, 38, 39, 9]⟩,
 ⟨(some 9), (.alloc [(.bool false)]), [], none, [28, 29, 30, 31, 32, 33, 34, 35, 36, 37, 38, 39, 8]⟩,
 ⟨none, (.store 2 (some 8)), [(.t 8), (.t 35)], none, [36, 37, 38, 39]⟩,
 ⟨none, (.store 1 (some 9)), [(.t 9), (.t 39)], none, []⟩] 0 [3, 4, 5, 8, 9, 10, 11])
 (.seq
 (.reg false [10] [10] [
 ⟨(some 40), (.ixa 2 1), [(.t 4), (.c (.int .i64 0))], none, [43, 44, 45, 46, 47, 48, 49, 50, 52, 53, 54, 55, 56, 57, 58, 59, 60, 61, 62, 10]⟩,
 ⟨(some 41), (.load none), [(.t 40)], none, [43, 44, 45, 46, 47, 48, 49, 50, 52, 53, 54, 55, 56, 57, 58, 59, 60, 61, 62, 10]⟩,
 ⟨(some 42), (.conv .i64), [(.t 41)], none, [43, 44, 45, 46, 47, 48, 49, 50, 52, 53, 54, 55, 56, 57, 58, 59, 60, 61, 62, 10]⟩,
 ⟨(some 43), (.ixa 2 1), [(.t 4), (.c (.int .i64 0))], none, [40, 41, 42, 46, 47, 48, 49, 52, 53, 54, 55, 56, 57, 58, 59, 60, 61, 62, 10]⟩,
 ⟨(some 44), (.load none), [(.t 43)], none, [40, 41, 42, 46, 47, 48, 49, 52, 53, 54, 55, 56, 57, 58, 59, 60, 61, 62, 10]⟩,
 ⟨(some 45), (.conv .i64), [(.t 44)], none, [40, 41, 42, 46, 47, 48, 49, 52, 53, 54, 55, 56, 57, 58, 59, 60, 61, 62, 10]⟩,
 ⟨(some 46), (.ixa 2 1), [(.t 4), (.c (.int .i64 1))], none, [40, 41, 42, 43, 44, 45, 52, 53, 54, 55, 56, 57, 58, 59, 60, 61, 62, 10]⟩,
 ⟨(some 47), (.load none), [(.t 46)], none, [40, 41, 42, 43, 44, 45, 52, 53, 54, 55, 56, 57, 58, 59, 60, 61, 62, 10]⟩,
 ⟨(some 48), (.conv .i64), [(.t 47)], none, [40, 41, 42, 43, 44, 45, 52, 53, 54, 55, 56, 57, 58, 59, 60, 61, 62, 10]⟩,
 ⟨(some 49), (.bin 0 .rem), [(.t 48), (.c (.int .i64 40))], none, [40, 41, 42, 43, 44, 45, 52, 53, 54, 55, 56, 57, 58, 59, 60, 61, 62, 10]⟩,
 ⟨(some 50), (.bin 0 .add), [(.t 45), (.t 49)], none, [40, 41, 42, 52, 53, 54, 55, 56, 57, 58, 59, 60, 61, 62, 10]⟩,
 ⟨(some 51), (.call true false false), [(.f 26), (.t 42), (.t 50)], none, [52, 53, 54, 55, 56, 57, 58, 59, 60, 61, 62, 10]⟩,
 ⟨(some 52), (.ixa 4 1), [(.t 5), (.c (.int .i64 1))], none, [40, 41, 42, 43, 44, 45, 46, 47, 48, 49, 50, 51, 57, 58, 59, 60, 61, 10]⟩,
 ⟨(some 53), (.load none), [(.t 52)], none, [40, 41, 42, 43, 44, 45, 46, 47, 48, 49, 50, 51, 57, 58, 59, 60, 61, 10]⟩,
 ⟨(some 54), (.conv .i64), [(.t 53)], none, [40, 41, 42, 43, 44, 45, 46, 47, 48, 49, 50, 51, 57, 58, 59, 60, 61, 10]⟩,
 ⟨(some 55), (.bin 0 .rem), [(.t 54), (.c (.int .i64 40))], none, [40, 41, 42, 43, 44, 45, 46, 47, 48, 49, 50, 51, 57, 58, 59, 60, 61, 10]⟩,
 ⟨(some 56), (.bin 0 .add), [(.c (.int .i64 1)), (.t 55)], none, [40, 41, 42, 43, 44, 45, 46, 47, 48, 49, 50, 51, 57, 58, 59, 60, 61, 10]⟩,
 ⟨(some 57), (.ixa 4 1), [(.t 5), (.c (.int .i64 2))], none, [40, 41, 42, 43, 44, 45, 46, 47, 48, 49, 50, 51, 52, 53, 54, 55, 56, 10]⟩,
 ⟨(some 58), (.load none), [(.t 57)], none, [40, 41, 42, 43, 44, 45, 46, 47, 48, 49, 50, 51, 52, 53, 54, 55, 56, 10]⟩,
 ⟨(some 59), (.conv .i64), [(.t 58)], none, [40, 41, 42, 43, 44, 45, 46, 47, 48, 49, 50, 51, 52, 53, 54, 55, 56, 10]⟩,
 ⟨(some 60), (.bin 0 .rem), [(.t 59), (.c (.int .i64 9))], none, [40, 41, 42, 43, 44, 45, 46, 47, 48, 49, 50, 51, 52, 53, 54, 55, 56, 10]⟩,
 ⟨(some 61), (.bin 0 .add), [(.c (.int .i64 1)), (.t 60)], none, [40, 41, 42, 43, 44, 45, 46, 47, 48, 49, 50, 51, 52, 53, 54, 55, 56, 10]⟩,
 ⟨(some 62), (.build [(.int .i64 0), (.int .i64 0)] [(0, 1), (1, 1)]), [(.t 56), (.t 61)], none, [40, 41, 42, 43, 44, 45, 46, 47, 48, 49, 50, 51, 10]⟩,
 ⟨(some 63), (.build [(.int .i64 0), (.int .i64 0), (.int .i64 0), (.int .i64 0)] [(0, 2), (2, 2)]), [(.t 51), (.t 62)], none, [10]⟩,
 ⟨(some 10), (.alloc [(.int .i64 0), (.int .i64 0), (.int .i64 0), (.int .i64 0)]), [], none, [40, 41, 42, 43, 44, 45, 46, 47, 48, 49, 50, 51, 52, 53, 54, 55, 56, 57, 58, 59, 60, 61, 62, 63]⟩,
 ⟨none, (.store 4 (some 10)), [(.t 10), (.t 63)], none, []⟩] 0 [3, 5, 8, 9, 10, 11])
 (.seq
 (.reg false [11] [11] [
 ⟨(some 64), (.mkf 48), [(.t 9), (.t 10)], none, []⟩,
 ⟨(some 11), (.alloc [.dead]), [], none, []⟩,
 ⟨none, (.store 1 none), [(.t 11), (.t 64)], none, []⟩] 0 [3, 5, 8, 9, 10, 11])
 (.seq
 (.reg false [] [] [
 ⟨(some 65), (.mkf 49), [(.t 11), (.t 8), (.t 10)], none, []⟩,
 ⟨(some 12), .mv, [(.t 65)], none, []⟩] 0 [3, 5, 8, 9, 10, 11, 12])
 (.seq
 (.reg false [13] [13] [
 ⟨(some 67), (.load (some 2)), [(.t 8)], none, []⟩,
 ⟨(some 68), (.load none), [(.t 9)], none, []⟩,
 ⟨(some 69), (.load (some 4)), [(.t 10)], none, []⟩,
 ⟨(some 70), (.call false false false), [(.f 21), (.t 67), (.t 68), (.t 69)], none, []⟩,
 ⟨(some 66), .mv, [(.t 70)], none, []⟩,
 ⟨(some 71), (.ext 0), [(.t 66)], none, []⟩,
 ⟨(some 72), (.ext 1), [(.t 66)], none, []⟩,
 ⟨(some 13), (.alloc [(.int .i64 0), (.int .i64 0)]), [], none, []⟩,
 ⟨none, (.store 2 none), [(.t 13), (.t 71)], none, []⟩,
 ⟨(some 14), .mv, [(.t 72)], none, []⟩] 0 [3, 5, 8, 9, 10, 11, 12, 13, 14])
 (.seq
 (.reg false [15] [15] [
 ⟨(some 74), (.load (some 2)), [(.t 8)], none, []⟩,
 ⟨(some 75), (.load none), [(.t 9)], none, []⟩,
 ⟨(some 76), (.load (some 4)), [(.t 10)], none, []⟩,
 ⟨(some 77), (.call false false false), [(.f 22), (.t 74), (.t 75), (.t 76)], none, []⟩,
 ⟨(some 73), .mv, [(.t 77)], none, []⟩,
 ⟨(some 78), (.ext 0), [(.t 73)], none, []⟩,
 ⟨(some 79), (.ext 1), [(.t 73)], none, []⟩,
 ⟨(some 15), (.alloc [(.int .i64 0), (.int .i64 0)]), [], none, []⟩,
 ⟨none, (.store 2 none), [(.t 15), (.t 78)], none, []⟩,
 ⟨(some 16), .mv, [(.t 79)], none, []⟩] 0 [3, 5, 8, 9, 10, 11, 12, 13, 14, 15, 16])
 (.seq
 (.reg false [] [] [
 ⟨(some 80), (.fa 0), [(.t 10)], none, []⟩,
 ⟨(some 81), (.load (some 2)), [(.t 80)], none, []⟩,
 ⟨(some 82), (.ixa 4 1), [(.t 5), (.c (.int .i64 3))], none, []⟩,
 ⟨(some 83), (.load none), [(.t 82)], none, []⟩,
 ⟨(some 84), (.conv .i64), [(.t 83)], none, []⟩,
 ⟨(some 85), (.call false false false), [(.f 47), (.t 81), (.t 84)], none, []⟩,
 ⟨(some 17), .mv, [(.t 85)], none, []⟩] 0 [3, 5, 8, 9, 10, 11, 12, 13, 14, 15, 16, 17])
 (.seq
 (.seq
 (.reg false [] [] [
 ⟨(some 86), (.load (some 2)), [(.t 8)], none, []⟩,
 ⟨(some 87), (.ixa 4 1), [(.t 5), (.c (.int .i64 2))], none, []⟩,
 ⟨(some 88), (.load none), [(.t 87)], none, []⟩,
 ⟨(some 89), (.conv .i64), [(.t 88)], none, []⟩,
 ⟨(some 90), (.call false false false), [(.f 47), (.t 86), (.t 89)], none, []⟩,
 ⟨(some 18), .mv, [(.t 90)], none, []⟩] 0 [3, 8, 9, 10, 11, 12, 13, 14, 15, 16, 17, 18])
 (.seq
 (.reg false [] [] [
 ⟨(some 91), .mv, [(.t 16)], none, []⟩,
 ⟨(some 92), (.bin 0 .neq), [(.t 91), (.c (.int .i64 0))], none, []⟩,
 ⟨(some 93), .mv, [(.t 92)], none, []⟩,
 ⟨(some 94), (.load none), [(.t 11)], (some (93, false)), [95, 96, 98, 99, 100, 101, 102, 103]⟩,
 ⟨(some 95), .mv, [(.t 18)], (some (93, false)), [94, 96, 98, 99, 100, 101, 102, 103]⟩,
 ⟨(some 96), .mv, [(.t 17)], (some (93, false)), [94, 95, 98, 99, 100, 101, 102, 103]⟩,
 ⟨(some 97), (.call true false false), [(.t 94), (.t 95), (.t 96)], (some (93, false)), [98, 99, 100, 101, 102, 103]⟩,
 ⟨(some 98), (.fa 0), [(.t 15)], (some (93, false)), [94, 95, 96, 97, 100, 101, 102]⟩,
 ⟨(some 99), (.load none), [(.t 98)], (some (93, false)), [94, 95, 96, 97, 100, 101, 102]⟩,
 ⟨(some 100), (.fa 2), [(.t 10)], (some (93, false)), [94, 95, 96, 97, 98, 99]⟩,
 ⟨(some 101), (.fa 1), [(.t 100)], (some (93, false)), [94, 95, 96, 97, 98, 99]⟩,
 ⟨(some 102), (.load none), [(.t 101)], (some (93, false)), [94, 95, 96, 97, 98, 99]⟩,
 ⟨(some 103), (.bin 0 .mul), [(.t 99), (.t 102)], (some (93, false)), [94, 95, 96, 97]⟩,
 ⟨(some 104), (.bin 0 .lss), [(.t 97), (.t 103)], (some (93, false)), []⟩,
 ⟨(some 105), .pick, [(.t 93), (.c (.bool true)), (.t 104)], none, []⟩,
 ⟨(some 106), .mv, [(.t 105)], none, []⟩,
 ⟨(some 107), (.load none), [(.t 11)], (some (106, false)), [108, 109, 111, 112, 113, 114, 115, 116]⟩,
 ⟨(some 108), .mv, [(.t 18)], (some (106, false)), [107, 109, 111, 112, 113, 114, 115, 116]⟩,
 ⟨(some 109), .mv, [(.t 17)], (some (106, false)), [107, 108, 111, 112, 113, 114, 115, 116]⟩,
 ⟨(some 110), (.call true false false), [(.t 107), (.t 108), (.t 109)], (some (106, false)), [111, 112, 113, 114, 115, 116]⟩,
 ⟨(some 111), (.fa 1), [(.t 15)], (some (106, false)), [107, 108, 109, 110, 113, 114, 115]⟩,
 ⟨(some 112), (.load none), [(.t 111)], (some (106, false)), [107, 108, 109, 110, 113, 114, 115]⟩,
 ⟨(some 113), (.fa 2), [(.t 10)], (some (106, false)), [107, 108, 109, 110, 111, 112]⟩,
 ⟨(some 114), (.fa 1), [(.t 113)], (some (106, false)), [107, 108, 109, 110, 111, 112]⟩,
 ⟨(some 115), (.load none), [(.t 114)], (some (106, false)), [107, 108, 109, 110, 111, 112]⟩,
 ⟨(some 116), (.bin 0 .mul), [(.t 112), (.t 115)], (some (106, false)), [107, 108, 109, 110]⟩,
 ⟨(some 117), (.bin 0 .gtr), [(.t 110), (.t 116)], (some (106, false)), []⟩,
 ⟨(some 118), .pick, [(.t 106), (.c (.bool true)), (.t 117)], none, []⟩] 0 [3, 8, 9, 10, 11, 12, 13, 14, 17, 118])
 (.cond (.t 118)
 (.seq
 (.reg false [] [] [
 ⟨(some 6), .mv, [(.c (.bool false))], none, []⟩] 0 [6, 8, 9, 10, 11])
 .ret)
 .skip)))
 (.seq
 (.seq
 (.reg false [] [] [
 ⟨(some 119), .mv, [(.t 14)], none, []⟩,
 ⟨(some 120), (.bin 0 .neq), [(.t 119), (.c (.int .i64 0))], none, []⟩] 0 [3, 8, 9, 10, 11, 12, 13, 14, 17, 120])
 (.cond (.t 120)
 (.seq
 (.reg false [] [] [
 ⟨(some 121), (.fa 0), [(.t 8)], none, [124, 125, 126, 128, 129, 130]⟩,
 ⟨(some 122), (.load none), [(.t 121)], none, [124, 125, 126, 128, 129, 130]⟩,
 ⟨(some 123), (.bin 0 .sub), [(.t 122), (.c (.int .i64 2000))], none, [124, 125, 126, 128, 129, 130]⟩,
 ⟨(some 124), (.fa 1), [(.t 8)], none, [121, 122, 123, 128, 129, 130]⟩,
 ⟨(some 125), (.load none), [(.t 124)], none, [121, 122, 123, 128, 129, 130]⟩,
 ⟨(some 126), (.bin 0 .add), [(.t 125), (.c (.int .i64 2000))], none, [121, 122, 123, 128, 129, 130]⟩,
 ⟨(some 127), (.call true false false), [(.f 26), (.t 123), (.t 126)], none, [128, 129, 130]⟩,
 ⟨(some 128), (.ixa 2 1), [(.t 3), (.c (.int .i64 0))], none, [121, 122, 123, 124, 125, 126, 127]⟩,
 ⟨(some 129), (.load none), [(.t 128)], none, [121, 122, 123, 124, 125, 126, 127]⟩,
 ⟨(some 130), (.conv .i64), [(.t 129)], none, [121, 122, 123, 124, 125, 126, 127]⟩,
 ⟨(some 131), (.call true false false), [(.f 47), (.t 127), (.t 130)], none, []⟩,
 ⟨(some 19), .mv, [(.t 131)], none, []⟩] 0 [8, 9, 10, 11, 12, 13, 14, 19])
 (.seq
 (.reg false [] [] [
 ⟨(some 132), .mv, [(.t 14)], none, []⟩,
 ⟨(some 133), (.bin 0 .eql), [(.t 132), (.c (.int .i64 9))], none, []⟩,
 ⟨(some 134), .mv, [(.t 133)], none, []⟩,
 ⟨(some 135), (.load (some 2)), [(.t 13)], (some (134, true)), []⟩,
 ⟨(some 136), (.build [(.int .i64 0), (.int .i64 0)] []), [], (some (134, true)), []⟩,
 ⟨(some 137), (.eqs false [(some .i64), (some .i64)]), [(.t 135), (.t 136)], (some (134, true)), []⟩,
 ⟨(some 138), .pick, [(.t 134), (.t 137), (.c (.bool false))], none, []⟩,
 ⟨(some 139), .mv, [(.t 138)], none, []⟩,
 ⟨(some 140), .mv, [(.t 12)], (some (139, true)), []⟩,
 ⟨(some 141), .mv, [(.t 19)], (some (139, true)), []⟩,
 ⟨(some 142), (.fa 0), [(.t 10)], (some (139, true)), []⟩,
 ⟨(some 143), (.fa 0), [(.t 142)], (some (139, true)), []⟩,
 ⟨(some 144), (.load none), [(.t 143)], (some (139, true)), []⟩,
 ⟨(some 145), (.call false false false), [(.t 140), (.t 141), (.t 144)], (some (139, true)), []⟩,
 ⟨(some 146), (.un .not), [(.t 145)], (some (139, true)), []⟩,
 ⟨(some 147), .mv, [(.t 146)], (some (139, true)), []⟩,
 ⟨(some 148), .mv, [(.t 12)], (some (147, false)), []⟩,
 ⟨(some 149), .mv, [(.t 19)], (some (147, false)), []⟩,
 ⟨(some 150), (.fa 0), [(.t 10)], (some (147, false)), []⟩,
 ⟨(some 151), (.fa 1), [(.t 150)], (some (147, false)), []⟩,
 ⟨(some 152), (.load none), [(.t 151)], (some (147, false)), []⟩,
 ⟨(some 153), (.call false false false), [(.t 148), (.t 149), (.t 152)], (some (147, false)), []⟩,
 ⟨(some 154), (.un .not), [(.t 153)], (some (147, false)), []⟩,
 ⟨(some 155), .pick, [(.t 147), (.c (.bool true)), (.t 154)], (some (139, true)), []⟩,
 ⟨(some 156), .pick, [(.t 139), (.t 155), (.c (.bool false))], none, []⟩,
 ⟨(some 157), .mv, [(.t 156)], none, []⟩,
 ⟨(some 158), (.call false false false), [(.f 13)], (some (157, true)), []⟩,
 ⟨(some 159), .pick, [(.t 157), (.t 158), (.c (.bool false))], none, []⟩,
 ⟨(some 6), .mv, [(.t 159)], none, []⟩] 0 [6, 8, 9, 10, 11])
 .ret))
 .skip))
 (.seq
 (.reg false [20] [20] [
 ⟨(some 161), (.load (some 2)), [(.t 13)], none, []⟩,
 ⟨(some 162), (.load none), [(.t 9)], none, []⟩,
 ⟨(some 163), (.load (some 4)), [(.t 10)], none, []⟩,
 ⟨(some 164), (.call false false false), [(.f 22), (.t 161), (.t 162), (.t 163)], none, []⟩,
 ⟨(some 160), .mv, [(.t 164)], none, []⟩,
 ⟨(some 165), (.ext 0), [(.t 160)], none, []⟩,
 ⟨(some 166), (.ext 1), [(.t 160)], none, []⟩,
 ⟨(some 20), (.alloc [(.int .i64 0), (.int .i64 0)]), [], none, []⟩,
 ⟨none, (.store 2 none), [(.t 20), (.t 165)], none, []⟩,
 ⟨(some 21), .mv, [(.t 166)], none, []⟩] 0 [3, 8, 9, 10, 11, 12, 13, 17, 20, 21])
 (.seq
 (.seq
 (.reg false [] [] [
 ⟨(some 167), .mv, [(.t 21)], none, []⟩,
 ⟨(some 168), (.bin 0 .neq), [(.t 167), (.c (.int .i64 0))], none, []⟩,
 ⟨(some 169), .mv, [(.t 168)], none, []⟩,
 ⟨(some 170), (.fa 0), [(.t 20)], (some (169, false)), []⟩,
 ⟨(some 171), (.load none), [(.t 170)], (some (169, false)), []⟩,
 ⟨(some 172), (.fa 0), [(.t 8)], (some (169, false)), []⟩,
 ⟨(some 173), (.load none), [(.t 172)], (some (169, false)), []⟩,
 ⟨(some 174), (.bin 0 .lss), [(.t 171), (.t 173)], (some (169, false)), []⟩,
 ⟨(some 175), .pick, [(.t 169), (.c (.bool true)), (.t 174)], none, []⟩,
 ⟨(some 176), .mv, [(.t 175)], none, []⟩,
 ⟨(some 177), (.fa 1), [(.t 20)], (some (176, false)), []⟩,
 ⟨(some 178), (.load none), [(.t 177)], (some (176, false)), []⟩,
 ⟨(some 179), (.fa 1), [(.t 8)], (some (176, false)), []⟩,
 ⟨(some 180), (.load none), [(.t 179)], (some (176, false)), []⟩,
 ⟨(some 181), (.bin 0 .gtr), [(.t 178), (.t 180)], (some (176, false)), []⟩,
 ⟨(some 182), .pick, [(.t 176), (.c (.bool true)), (.t 181)], none, []⟩,
 ⟨(some 183), .mv, [(.t 182)], none, []⟩,
 ⟨(some 184), .mv, [(.t 12)], (some (183, false)), []⟩,
 ⟨(some 185), (.load (some 2)), [(.t 13)], (some (183, false)), []⟩,
 ⟨(some 186), (.ixa 2 1), [(.t 3), (.c (.int .i64 1))], (some (183, false)), []⟩,
 ⟨(some 187), (.load none), [(.t 186)], (some (183, false)), []⟩,
 ⟨(some 188), (.conv .i64), [(.t 187)], (some (183, false)), []⟩,
 ⟨(some 189), (.call false false false), [(.f 47), (.t 185), (.t 188)], (some (183, false)), []⟩,
 ⟨(some 190), .mv, [(.t 17)], (some (183, false)), []⟩,
 ⟨(some 191), (.call false false false), [(.t 184), (.t 189), (.t 190)], (some (183, false)), []⟩,
 ⟨(some 192), (.un .not), [(.t 191)], (some (183, false)), []⟩,
 ⟨(some 193), .pick, [(.t 183), (.c (.bool true)), (.t 192)], none, []⟩] 0 [8, 9, 10, 11, 12, 13, 193])
 (.cond (.t 193)
 (.seq
 (.reg false [] [] [
 ⟨(some 6), .mv, [(.c (.bool false))], none, []⟩] 0 [6, 8, 9, 10, 11])
 .ret)
 .skip))
 (.seq
 (.seq
 (.reg false [] [] [
 ⟨(some 22), .mv, [(.c (.int .i64 (-1)))], none, []⟩] 0 [8, 9, 10, 11, 12, 13, 22])
 (.block 0
 (.loop b9_0)))
 (.seq
 (.reg false [] [] [
 ⟨(some 220), (.call false false false), [(.f 13)], none, []⟩,
 ⟨(some 6), .mv, [(.t 220)], none, []⟩] 0 [6, 8, 9, 10, 11])
 .ret))))))))))))))),
 [(.t 6)]⟩
theorem c9 : funC Try.prog [(0, [3, 4, 5, 8, 9, 10, 11]), (1, [3, 4, 5, 7, 8, 9, 10, 11]), (2, [3, 4, 5, 8, 9, 10, 11]), (3, [3, 5, 8, 9, 10, 11]), (4, [3, 5, 8, 9, 10, 11]), (5, [3, 5, 8, 9, 10, 11, 12]), (6, [3, 5, 8, 9, 10, 11, 12, 13, 14]), (7, [3, 5, 8, 9, 10, 11, 12, 13, 14, 15, 16]), (8, [3, 5, 8, 9, 10, 11, 12, 13, 14, 15, 16, 17]), (9, [3, 8, 9, 10, 11, 12, 13, 14, 15, 16, 17, 18]), (10, [3, 8, 9, 10, 11, 12, 13, 14, 17, 118]), (11, [6, 8, 9, 10, 11]), (12, [3, 8, 9, 10, 11, 12, 13, 14, 17, 120]), (13, [8, 9, 10, 11, 12, 13, 14, 19]), (14, [6, 8, 9, 10, 11]), (15, [3, 8, 9, 10, 11, 12, 13, 17, 20, 21]), (16, [8, 9, 10, 11, 12, 13, 193]), (17, [6, 8, 9, 10, 11]), (18, [8, 9, 10, 11, 12, 13, 22]), (19, [8, 9, 10, 11, 12, 13, 22, 195]), (20, [8, 9, 10, 11, 12, 13, 22]), (21, [8, 9, 10, 11, 12, 13, 22, 23]), (22, [8, 9, 10, 11, 12, 13, 22, 23, 202]), (23, [8, 9, 10, 11, 12, 13, 22, 23]), (24, [8, 9, 10, 11, 12, 13, 22, 219]), (25, [6, 8, 9, 10, 11]), (26, [6, 8, 9, 10, 11])] Try.f9 = some (unF l9) := by kernel_rfl
/-- acme/acmelaw02.ZoneFiner -/
def b10_0 : LCode :=
 (.seq
 (.seq
 (.reg true [] [] [
 ⟨(some 93), .mv, [(.t 18)], none, []⟩,
 ⟨(some 94), (.fa 0), [(.t 7)], none, []⟩,
 ⟨(some 95), (.load none), [(.t 94)], none, []⟩,
 ⟨(some 96), .len, [(.t 95)], none, []⟩,
 ⟨(some 97), (.bin 0 .lss), [(.t 93), (.t 96)], none, []⟩] 0 [7, 8, 9, 10, 11, 14, 15, 16, 17, 18, 97])
 (.cond (.t 97)
 .skip
 (.exit 0)))
 (.seq
 (.block 1
 (.reg true [] [] [
 ⟨(some 100), .mv, [(.t 15)], none, []⟩,
 ⟨(some 101), .mv, [(.t 100)], none, []⟩,
 ⟨(some 102), (.fa 1), [(.t 7)], (some (101, true)), [104, 105, 108, 111, 112, 113, 114, 115, 116, 117, 118, 119]⟩,
 ⟨(some 103), (.load none), [(.t 102)], (some (101, true)), [104, 105, 108, 111, 112, 113, 114, 115, 116, 117, 118, 119]⟩,
 ⟨(some 104), (.fa 1), [(.t 10)], (some (101, true)), [102, 103, 108, 111, 112, 113, 114, 115, 116, 117, 118, 119]⟩,
 ⟨(some 105), (.load none), [(.t 104)], (some (101, true)), [102, 103, 108, 111, 112, 113, 114, 115, 116, 117, 118, 119]⟩,
 ⟨(some 106), (.ixs 1), [(.t 103), (.t 105)], (some (101, true)), [108, 111, 112, 113, 114, 115, 116, 117, 118, 119]⟩,
 ⟨(some 107), (.load none), [(.t 106)], (some (101, true)), [108, 111, 112, 113, 114, 115, 116, 117, 118, 119]⟩,
 ⟨(some 108), .mv, [(.t 18)], (some (101, true)), [102, 103, 104, 105, 106, 107, 111, 112, 113, 114, 115, 116, 117, 118, 119]⟩,
 ⟨(some 109), (.ixs 1), [(.t 107), (.t 108)], (some (101, true)), [111, 112, 113, 114, 115, 116, 117, 118, 119]⟩,
 ⟨(some 110), (.load none), [(.t 109)], (some (101, true)), [111, 112, 113, 114, 115, 116, 117, 118, 119]⟩,
 ⟨(some 111), (.fa 1), [(.t 7)], (some (101, true)), [102, 103, 104, 105, 106, 107, 108, 109, 110, 113, 114, 117]⟩,
 ⟨(some 112), (.load none), [(.t 111)], (some (101, true)), [102, 103, 104, 105, 106, 107, 108, 109, 110, 113, 114, 117]⟩,
 ⟨(some 113), (.fa 1), [(.t 11)], (some (101, true)), [102, 103, 104, 105, 106, 107, 108, 109, 110, 111, 112, 117]⟩,
 ⟨(some 114), (.load none), [(.t 113)], (some (101, true)), [102, 103, 104, 105, 106, 107, 108, 109, 110, 111, 112, 117]⟩,
 ⟨(some 115), (.ixs 1), [(.t 112), (.t 114)], (some (101, true)), [102, 103, 104, 105, 106, 107, 108, 109, 110, 117]⟩,
 ⟨(some 116), (.load none), [(.t 115)], (some (101, true)), [102, 103, 104, 105, 106, 107, 108, 109, 110, 117]⟩,
 ⟨(some 117), .mv, [(.t 18)], (some (101, true)), [102, 103, 104, 105, 106, 107, 108, 109, 110, 111, 112, 113, 114, 115, 116]⟩,
 ⟨(some 118), (.ixs 1), [(.t 116), (.t 117)], (some (101, true)), [102, 103, 104, 105, 106, 107, 108, 109, 110]⟩,
 ⟨(some 119), (.load none), [(.t 118)], (some (101, true)), [102, 103, 104, 105, 106, 107, 108, 109, 110]⟩,
 ⟨(some 120), (.bin 0 .leq), [(.t 110), (.t 119)], (some (101, true)), []⟩,
 ⟨(some 121), .pick, [(.t 101), (.t 120), (.c (.bool false))], none, []⟩,
 ⟨(some 15), .mv, [(.t 121)], none, []⟩] 0 [7, 8, 9, 10, 11, 14, 15, 16, 17, 18]))
 (.reg true [] [] [
 ⟨(some 98), .mv, [(.t 18)], none, []⟩,
 ⟨(some 99), (.bin 0 .add), [(.t 98), (.c (.int .i64 1))], none, []⟩,
 ⟨(some 18), .mv, [(.t 99)], none, []⟩] 0 [7, 8, 9, 10, 11, 14, 15, 16, 17, 18])))
def b10_1 : LCode :=
 (.seq
 (.seq
 (.reg true [] [] [
 ⟨(some 122), .mv, [(.t 19)], none, []⟩,
 ⟨(some 123), .mv, [(.t 14)], none, []⟩,
 ⟨(some 124), .len, [(.t 123)], none, []⟩,
 ⟨(some 125), (.bin 0 .lss), [(.t 122), (.t 124)], none, []⟩] 0 [7, 8, 9, 10, 11, 14, 15, 16, 17, 19, 125])
 (.cond (.t 125)
 .skip
 (.exit 2)))
 (.seq
 (.block 3
 (.seq
 (.seq
 (.reg true [] [] [
 ⟨(some 128), .mv, [(.t 14)], none, [129, 133, 134, 135, 136, 137]⟩,
 ⟨(some 129), .mv, [(.t 19)], none, [128, 133, 134, 135, 136, 137]⟩,
 ⟨(some 130), (.ixs 2), [(.t 128), (.t 129)], none, [133, 134, 135, 136, 137]⟩,
 ⟨(some 131), (.fa 0), [(.t 130)], none, [133, 134, 135, 136, 137]⟩,
 ⟨(some 132), (.load none), [(.t 131)], none, [133, 134, 135, 136, 137]⟩,
 ⟨(some 133), .mv, [(.t 14)], none, [128, 129, 130, 131, 132, 134]⟩,
 ⟨(some 134), .mv, [(.t 19)], none, [128, 129, 130, 131, 132, 133]⟩,
 ⟨(some 135), (.ixs 2), [(.t 133), (.t 134)], none, [128, 129, 130, 131, 132]⟩,
 ⟨(some 136), (.fa 1), [(.t 135)], none, [128, 129, 130, 131, 132]⟩,
 ⟨(some 137), (.load none), [(.t 136)], none, [128, 129, 130, 131, 132]⟩,
 ⟨(some 138), (.bin 0 .gtr), [(.t 132), (.t 137)], none, []⟩,
 ⟨(some 139), .mv, [(.t 138)], none, []⟩,
 ⟨(some 140), .mv, [(.t 14)], (some (139, false)), [141]⟩,
 ⟨(some 141), .mv, [(.t 19)], (some (139, false)), [140]⟩,
 ⟨(some 142), (.ixs 2), [(.t 140), (.t 141)], (some (139, false)), []⟩,
 ⟨(some 143), (.fa 0), [(.t 142)], (some (139, false)), []⟩,
 ⟨(some 144), (.load none), [(.t 143)], (some (139, false)), []⟩,
 ⟨(some 145), (.bin 0 .lss), [(.t 144), (.c (.int .i64 1))], (some (139, false)), []⟩,
 ⟨(some 146), .pick, [(.t 139), (.c (.bool true)), (.t 145)], none, []⟩,
 ⟨(some 147), .mv, [(.t 146)], none, []⟩,
 ⟨(some 148), .mv, [(.t 14)], (some (147, false)), [149, 153]⟩,
 ⟨(some 149), .mv, [(.t 19)], (some (147, false)), [148, 153]⟩,
 ⟨(some 150), (.ixs 2), [(.t 148), (.t 149)], (some (147, false)), [153]⟩,
 ⟨(some 151), (.fa 1), [(.t 150)], (some (147, false)), [153]⟩,
 ⟨(some 152), (.load none), [(.t 151)], (some (147, false)), [153]⟩,
 ⟨(some 153), .mv, [(.t 9)], (some (147, false)), [148, 149, 150, 151, 152]⟩,
 ⟨(some 154), (.bin 0 .gtr), [(.t 152), (.t 153)], (some (147, false)), []⟩,
 ⟨(some 155), .pick, [(.t 147), (.c (.bool true)), (.t 154)], none, []⟩,
 ⟨(some 156), .mv, [(.t 155)], none, []⟩,
 ⟨(some 157), .mv, [(.t 19)], (some (156, false)), []⟩,
 ⟨(some 158), (.bin 0 .gtr), [(.t 157), (.c (.int .i64 0))], (some (156, false)), []⟩,
 ⟨(some 159), .mv, [(.t 158)], (some (156, false)), []⟩,
 ⟨(some 160), .mv, [(.t 14)], (some (159, true)), [161, 165, 166, 167, 168, 169, 170, 171]⟩,
 ⟨(some 161), .mv, [(.t 19)], (some (159, true)), [160, 165, 166, 167, 168, 169, 170, 171]⟩,
 ⟨(some 162), (.ixs 2), [(.t 160), (.t 161)], (some (159, true)), [165, 166, 167, 168, 169, 170, 171]⟩,
 ⟨(some 163), (.fa 0), [(.t 162)], (some (159, true)), [165, 166, 167, 168, 169, 170, 171]⟩,
 ⟨(some 164), (.load none), [(.t 163)], (some (159, true)), [165, 166, 167, 168, 169, 170, 171]⟩,
 ⟨(some 165), .mv, [(.t 14)], (some (159, true)), [160, 161, 162, 163, 164, 166, 167]⟩,
 ⟨(some 166), .mv, [(.t 19)], (some (159, true)), [160, 161, 162, 163, 164, 165]⟩,
 ⟨(some 167), (.bin 0 .sub), [(.t 166), (.c (.int .i64 1))], (some (159, true)), [160, 161, 162, 163, 164, 165]⟩,
 ⟨(some 168), (.ixs 2), [(.t 165), (.t 167)], (some (159, true)), [160, 161, 162, 163, 164]⟩,
 ⟨(some 169), (.fa 1), [(.t 168)], (some (159, true)), [160, 161, 162, 163, 164]⟩,
 ⟨(some 170), (.load none), [(.t 169)], (some (159, true)), [160, 161, 162, 163, 164]⟩,
 ⟨(some 171), (.bin 0 .add), [(.t 170), (.c (.int .i64 1))], (some (159, true)), [160, 161, 162, 163, 164]⟩,
 ⟨(some 172), (.bin 0 .leq), [(.t 164), (.t 171)], (some (159, true)), []⟩,
 ⟨(some 173), .pick, [(.t 159), (.t 172), (.c (.bool false))], (some (156, false)), []⟩,
 ⟨(some 174), .pick, [(.t 156), (.c (.bool true)), (.t 173)], none, []⟩] 0 [7, 8, 9, 10, 11, 14, 15, 16, 17, 19, 174])
 (.cond (.t 174)
 (.seq
 (.reg true [] [] [
 ⟨(some 6), .mv, [(.c (.bool false))], none, []⟩] 0 [6])
 .ret)
 .skip))
 (.reg true [] [] [
 ⟨(some 175), .mv, [(.t 17)], none, []⟩,
 ⟨(some 176), .mv, [(.t 175)], none, []⟩,
 ⟨(some 177), .mv, [(.t 16)], (some (176, false)), []⟩,
 ⟨(some 178), .mv, [(.t 14)], (some (176, false)), []⟩,
 ⟨(some 179), .mv, [(.t 19)], (some (176, false)), []⟩,
 ⟨(some 180), (.ixs 2), [(.t 178), (.t 179)], (some (176, false)), []⟩,
 ⟨(some 181), (.load (some 2)), [(.t 180)], (some (176, false)), []⟩,
 ⟨(some 182), (.call false false false), [(.f 46), (.t 177), (.t 181)], (some (176, false)), []⟩,
 ⟨(some 183), .pick, [(.t 176), (.c (.bool true)), (.t 182)], none, []⟩,
 ⟨(some 17), .mv, [(.t 183)], none, []⟩] 0 [7, 8, 9, 10, 11, 14, 15, 16, 17, 19])))
 (.reg true [] [] [
 ⟨(some 126), .mv, [(.t 19)], none, []⟩,
 ⟨(some 127), (.bin 0 .add), [(.t 126), (.c (.int .i64 1))], none, []⟩,
 ⟨(some 19), .mv, [(.t 127)], none, []⟩] 0 [7, 8, 9, 10, 11, 14, 15, 16, 17, 19])))
def l10 : LFun := ⟨3, 242, [],
 (.seq
 (.reg false [3, 4] [3, 4] [
 ⟨(some 3), .box, [(.t 0)], none, []⟩,
 ⟨(some 4), .box, [(.t 1)], none, []⟩,
 ⟨(some 6), .mv, [(.c (.bool false))], none, []⟩] 0 [2, 3, 4])
 (.seq
 (.reg false [25, 7] [25, 7] [
 ⟨(some 24), (.load (some 3)), [(.t 3)], none, [26, 27, 28, 29, 7]⟩,
 ⟨(some 25), (.call true true true), [(.f 43), (.t 24)], none, [26, 27, 28, 29, 7]⟩,
 ⟨(some 26), (.ixa 4 1), [(.t 4), (.c (.int .i64 3))], none, [24, 25, 7]⟩,
 ⟨(some 27), (.load none), [(.t 26)], none, [24, 25, 7]⟩,
 ⟨(some 28), (.bin 0 .rem), [(.t 27), (.c (.int .u8 2))], none, [24, 25, 7]⟩,
 ⟨(some 29), (.bin 0 .eql), [(.t 28), (.c (.int .u8 1))], none, [24, 25, 7]⟩,
 ⟨(some 7), (.alloc [(.sl none 1 []), (.sl none 1 []), (.sl none 1 [])]), [], none, [24, 25, 26, 27, 28, 29]⟩,
 ⟨none, (.store 3 (some 7)), [(.t 7), (.t 25)], none, [26, 27, 28, 29]⟩,
 ⟨(some 8), .mv, [(.t 29)], none, []⟩] 0 [2, 4, 7, 8])
 (.seq
 (.reg false [] [] [
 ⟨(some 30), (.fa 0), [(.t 7)], none, []⟩,
 ⟨(some 31), (.load none), [(.t 30)], none, []⟩,
 ⟨(some 32), (.fa 0), [(.t 7)], none, []⟩,
 ⟨(some 33), (.load none), [(.t 32)], none, []⟩,
 ⟨(some 34), .len, [(.t 33)], none, []⟩,
 ⟨(some 35), (.bin 0 .sub), [(.t 34), (.c (.int .i64 1))], none, []⟩,
 ⟨(some 36), (.ixs 1), [(.t 31), (.t 35)], none, []⟩,
 ⟨(some 37), (.load none), [(.t 36)], none, []⟩,
 ⟨(some 9), .mv, [(.t 37)], none, []⟩] 0 [2, 4, 7, 8, 9])
 (.seq
 (.reg false [10, 11] [10, 11] [
 ⟨(some 38), (.load (some 3)), [(.t 7)], none, [39, 40, 41, 42, 44, 45, 46, 47, 48, 10, 11]⟩,
 ⟨(some 39), (.ixa 4 1), [(.t 4), (.c (.int .i64 0))], none, [38, 41, 42, 44, 45, 46, 47, 48, 10, 11]⟩,
 ⟨(some 40), (.load none), [(.t 39)], none, [38, 41, 42, 44, 45, 46, 47, 48, 10, 11]⟩,
 ⟨(some 41), (.ixa 4 1), [(.t 4), (.c (.int .i64 1))], none, [38, 39, 40, 44, 45, 46, 47, 48, 10, 11]⟩,
 ⟨(some 42), (.load none), [(.t 41)], none, [38, 39, 40, 44, 45, 46, 47, 48, 10, 11]⟩,
 ⟨(some 43), (.call true false false), [(.f 45), (.t 38), (.t 40), (.t 42)], none, [44, 45, 46, 47, 48, 10, 11]⟩,
 ⟨(some 44), (.load (some 3)), [(.t 7)], none, [38, 39, 40, 41, 42, 43, 45, 46, 47, 48, 10, 11]⟩,
 ⟨(some 45), (.ixa 4 1), [(.t 4), (.c (.int .i64 2))], none, [38, 39, 40, 41, 42, 43, 44, 47, 48, 10, 11]⟩,
 ⟨(some 46), (.load none), [(.t 45)], none, [38, 39, 40, 41, 42, 43, 44, 47, 48, 10, 11]⟩,
 ⟨(some 47), (.ixa 4 1), [(.t 4), (.c (.int .i64 3))], none, [38, 39, 40, 41, 42, 43, 44, 45, 46, 10, 11]⟩,
 ⟨(some 48), (.load none), [(.t 47)], none, [38, 39, 40, 41, 42, 43, 44, 45, 46, 10, 11]⟩,
 ⟨(some 49), (.call true false false), [(.f 45), (.t 44), (.t 46), (.t 48)], none, [10, 11]⟩,
 ⟨(some 10), (.alloc [(.int .i64 0), (.int .i64 0)]), [], none, [38, 39, 40, 41, 42, 43, 44, 45, 46, 47, 48, 49, 11]⟩,
 ⟨(some 11), (.alloc [(.int .i64 0), (.int .i64 0)]), [], none, [38, 39, 40, 41, 42, 43, 44, 45, 46, 47, 48, 49, 10]⟩,
 ⟨none, (.store 2 (some 10)), [(.t 10), (.t 43)], none, []⟩,
 ⟨none, (.store 2 (some 11)), [(.t 11), (.t 49)], none, []⟩] 0 [2, 7, 8, 9, 10, 11])
 (.seq
 (.reg false [52, 56] [52, 56] [
 ⟨(some 51), (.load (some 3)), [(.t 7)], none, [53, 54, 55]⟩,
 ⟨(some 52), (.call true true true), [(.f 14), (.t 51)], none, [53, 54, 55]⟩,
 ⟨(some 53), (.load (some 2)), [(.t 10)], none, [51, 52, 54, 55]⟩,
 ⟨(some 54), (.load (some 2)), [(.t 10)], none, [51, 52, 53, 55]⟩,
 ⟨(some 55), .mv, [(.t 8)], none, [51, 52, 53, 54]⟩,
 ⟨(some 56), (.call true false true), [(.f 37), (.t 52), (.t 53), (.t 54), (.t 55)], none, []⟩,
 ⟨(some 50), .mv, [(.t 56)], none, []⟩,
 ⟨(some 57), (.ext 0), [(.t 50)], none, [58]⟩,
 ⟨(some 58), (.ext 1), [(.t 50)], none, [57, 12]⟩,
 ⟨(some 12), .mv, [(.t 57)], none, [58]⟩,
 ⟨(some 13), .mv, [(.t 58)], none, []⟩] 0 [2, 7, 8, 9, 10, 11, 12, 13])
 (.seq
 (.seq
 (.reg false [] [] [
 ⟨(some 59), .mv, [(.t 13)], none, []⟩,
 ⟨(some 60), (.bin 0 .neq), [(.t 59), (.c (.int .i64 0))], none, []⟩,
 ⟨(some 61), .mv, [(.t 60)], none, []⟩,
 ⟨(some 62), .mv, [(.t 12)], (some (61, false)), []⟩,
 ⟨(some 63), .len, [(.t 62)], (some (61, false)), []⟩,
 ⟨(some 64), (.bin 0 .neq), [(.t 63), (.c (.int .i64 1))], (some (61, false)), []⟩,
 ⟨(some 65), .pick, [(.t 61), (.c (.bool true)), (.t 64)], none, []⟩,
 ⟨(some 66), .mv, [(.t 65)], none, []⟩,
 ⟨(some 67), .mv, [(.t 12)], (some (66, false)), [70, 71]⟩,
 ⟨(some 68), (.ixs 2), [(.t 67), (.c (.int .i64 0))], (some (66, false)), [70, 71]⟩,
 ⟨(some 69), (.load (some 2)), [(.t 68)], (some (66, false)), [70, 71]⟩,
 ⟨(some 70), .mv, [(.t 9)], (some (66, false)), [67, 68, 69]⟩,
 ⟨(some 71), (.call true false false), [(.f 26), (.c (.int .i64 1)), (.t 70)], (some (66, false)), [67, 68, 69]⟩,
 ⟨(some 72), (.eqs true [(some .i64), (some .i64)]), [(.t 69), (.t 71)], (some (66, false)), []⟩,
 ⟨(some 73), .pick, [(.t 66), (.c (.bool true)), (.t 72)], none, []⟩] 0 [2, 7, 8, 9, 10, 11, 73])
 (.cond (.t 73)
 (.seq
 (.reg false [] [] [
 ⟨(some 6), .mv, [(.c (.bool false))], none, []⟩] 0 [6])
 .ret)
 .skip))
 (.seq
 (.reg false [76, 80] [76, 80] [
 ⟨(some 75), (.load (some 3)), [(.t 7)], none, [77, 78, 79]⟩,
 ⟨(some 76), (.call true true true), [(.f 14), (.t 75)], none, [77, 78, 79]⟩,
 ⟨(some 77), (.load (some 2)), [(.t 10)], none, [75, 76, 78, 79]⟩,
 ⟨(some 78), (.load (some 2)), [(.t 11)], none, [75, 76, 77, 79]⟩,
 ⟨(some 79), .mv, [(.t 8)], none, [75, 76, 77, 78]⟩,
 ⟨(some 80), (.call true false true), [(.f 37), (.t 76), (.t 77), (.t 78), (.t 79)], none, []⟩,
 ⟨(some 74), .mv, [(.t 80)], none, []⟩,
 ⟨(some 81), (.ext 0), [(.t 74)], none, [82]⟩,
 ⟨(some 82), (.ext 1), [(.t 74)], none, [81, 14]⟩,
 ⟨(some 14), .mv, [(.t 81)], none, [82]⟩,
 ⟨(some 13), .mv, [(.t 82)], none, []⟩] 0 [2, 7, 8, 9, 10, 11, 13, 14])
 (.seq
 (.seq
 (.reg false [] [] [
 ⟨(some 83), .mv, [(.t 13)], none, []⟩,
 ⟨(some 84), (.bin 0 .neq), [(.t 83), (.c (.int .i64 0))], none, []⟩] 0 [2, 7, 8, 9, 10, 11, 14, 84])
 (.cond (.t 84)
 (.seq
 (.reg false [] [] [
 ⟨(some 6), .mv, [(.c (.bool false))], none, []⟩] 0 [6])
 .ret)
 .skip))
 (.seq
 (.reg false [] [] [
 ⟨(some 85), (.fa 0), [(.t 10)], none, [87, 88, 90, 91, 92]⟩,
 ⟨(some 86), (.load none), [(.t 85)], none, [87, 88, 90, 91, 92]⟩,
 ⟨(some 87), (.fa 0), [(.t 11)], none, [85, 86, 90, 91, 92]⟩,
 ⟨(some 88), (.load none), [(.t 87)], none, [85, 86, 90, 91, 92]⟩,
 ⟨(some 89), (.bin 0 .eql), [(.t 86), (.t 88)], none, [90, 91, 92]⟩,
 ⟨(some 90), (.load (some 3)), [(.t 7)], none, [85, 86, 87, 88, 89, 91]⟩,
 ⟨(some 91), .mv, [(.t 2)], none, [85, 86, 87, 88, 89, 90]⟩,
 ⟨(some 92), (.call true false false), [(.f 44), (.t 90), (.t 91)], none, [85, 86, 87, 88, 89]⟩,
 ⟨(some 15), .mv, [(.t 89)], none, []⟩,
 ⟨(some 16), .mv, [(.t 92)], none, []⟩,
 ⟨(some 17), .mv, [(.c (.bool false))], none, []⟩] 0 [7, 8, 9, 10, 11, 14, 15, 16, 17])
 (.seq
 (.seq
 (.reg false [] [] [
 ⟨(some 18), .mv, [(.c (.int .i64 0))], none, []⟩] 0 [7, 8, 9, 10, 11, 14, 15, 16, 17, 18])
 (.block 0
 (.loop b10_0)))
 (.seq
 (.seq
 (.reg false [] [] [
 ⟨(some 19), .mv, [(.c (.int .i64 0))], none, []⟩] 0 [7, 8, 9, 10, 11, 14, 15, 16, 17, 19])
 (.block 2
 (.loop b10_1)))
 (.seq
 (.reg false [186, 20] [186, 20] [
 ⟨(some 185), (.load (some 3)), [(.t 7)], none, [187, 188, 189, 20]⟩,
 ⟨(some 186), (.call true true true), [(.f 14), (.t 185)], none, [187, 188, 189, 20]⟩,
 ⟨(some 187), (.load (some 2)), [(.t 10)], none, [185, 186, 188, 189, 20]⟩,
 ⟨(some 188), .mv, [(.t 8)], none, [185, 186, 187, 189, 20]⟩,
 ⟨(some 189), .mv, [(.t 16)], none, [185, 186, 187, 188, 20]⟩,
 ⟨(some 190), (.call true false false), [(.f 16), (.t 186), (.t 187), (.t 188), (.t 189)], none, [20]⟩,
 ⟨(some 184), .mv, [(.t 190)], none, [20]⟩,
 ⟨(some 191), (.ext 0), [(.t 184)], none, [192, 20]⟩,
 ⟨(some 192), (.ext 1), [(.t 184)], none, [191, 20]⟩,
 ⟨(some 20), (.alloc [(.int .i64 0), (.int .i64 0)]), [], none, [185, 186, 187, 188, 189, 190, 184, 191, 192]⟩,
 ⟨none, (.store 2 (some 20)), [(.t 20), (.t 191)], none, [192]⟩,
 ⟨(some 21), .mv, [(.t 192)], none, []⟩] 0 [7, 8, 9, 11, 14, 15, 16, 17, 20, 21])
 (.seq
 (.reg false [195, 22] [195, 22] [
 ⟨(some 194), (.load (some 3)), [(.t 7)], none, [196, 197, 198, 22]⟩,
 ⟨(some 195), (.call true true true), [(.f 14), (.t 194)], none, [196, 197, 198, 22]⟩,
 ⟨(some 196), (.load (some 2)), [(.t 11)], none, [194, 195, 197, 198, 22]⟩,
 ⟨(some 197), .mv, [(.t 8)], none, [194, 195, 196, 198, 22]⟩,
 ⟨(some 198), .mv, [(.t 16)], none, [194, 195, 196, 197, 22]⟩,
 ⟨(some 199), (.call true false false), [(.f 16), (.t 195), (.t 196), (.t 197), (.t 198)], none, [22]⟩,
 ⟨(some 193), .mv, [(.t 199)], none, [22]⟩,
 ⟨(some 200), (.ext 0), [(.t 193)], none, [201, 22]⟩,
 ⟨(some 201), (.ext 1), [(.t 193)], none, [200, 22]⟩,
 ⟨(some 22), (.alloc [(.int .i64 0), (.int .i64 0)]), [], none, [194, 195, 196, 197, 198, 199, 193, 200, 201]⟩,
 ⟨none, (.store 2 (some 22)), [(.t 22), (.t 200)], none, [201]⟩,
 ⟨(some 23), .mv, [(.t 201)], none, []⟩] 0 [9, 14, 15, 17, 20, 21, 22, 23])
 (.seq
 (.seq
 (.reg false [] [] [
 ⟨(some 202), .mv, [(.t 21)], none, []⟩,
 ⟨(some 203), (.bin 0 .neq), [(.t 202), (.c (.int .i64 0))], none, []⟩,
 ⟨(some 204), .mv, [(.t 203)], none, []⟩,
 ⟨(some 205), .mv, [(.t 23)], (some (204, false)), []⟩,
 ⟨(some 206), (.bin 0 .neq), [(.t 205), (.c (.int .i64 0))], (some (204, false)), []⟩,
 ⟨(some 207), .pick, [(.t 204), (.c (.bool true)), (.t 206)], none, []⟩,
 ⟨(some 208), .mv, [(.t 207)], none, []⟩,
 ⟨(some 209), .mv, [(.t 17)], (some (208, false)), []⟩,
 ⟨(some 210), (.fa 0), [(.t 20)], (some (208, false)), []⟩,
 ⟨(some 211), (.load none), [(.t 210)], (some (208, false)), []⟩,
 ⟨(some 212), (.fa 0), [(.t 22)], (some (208, false)), []⟩,
 ⟨(some 213), (.load none), [(.t 212)], (some (208, false)), []⟩,
 ⟨(some 214), (.bin 0 .geq), [(.t 211), (.t 213)], (some (208, false)), []⟩,
 ⟨(some 215), .mv, [(.t 214)], (some (208, false)), []⟩,
 ⟨(some 216), (.fa 1), [(.t 20)], (some (215, true)), []⟩,
 ⟨(some 217), (.load none), [(.t 216)], (some (215, true)), []⟩,
 ⟨(some 218), (.fa 1), [(.t 22)], (some (215, true)), []⟩,
 ⟨(some 219), (.load none), [(.t 218)], (some (215, true)), []⟩,
 ⟨(some 220), (.bin 0 .leq), [(.t 217), (.t 219)], (some (215, true)), []⟩,
 ⟨(some 221), .pick, [(.t 215), (.t 220), (.c (.bool false))], (some (208, false)), []⟩,
 ⟨(some 222), (.bin 1 .neq), [(.t 209), (.t 221)], (some (208, false)), []⟩,
 ⟨(some 223), .pick, [(.t 208), (.c (.bool true)), (.t 222)], none, []⟩] 0 [9, 14, 15, 223])
 (.cond (.t 223)
 (.seq
 (.reg false [] [] [
 ⟨(some 6), .mv, [(.c (.bool false))], none, []⟩] 0 [6])
 .ret)
 .skip))
 (.seq
 (.reg false [] [] [
 ⟨(some 224), .mv, [(.t 15)], none, []⟩,
 ⟨(some 225), (.un .not), [(.t 224)], none, []⟩,
 ⟨(some 226), .mv, [(.t 225)], none, []⟩,
 ⟨(some 227), .mv, [(.t 14)], (some (226, false)), []⟩,
 ⟨(some 228), .len, [(.t 227)], (some (226, false)), []⟩,
 ⟨(some 229), (.bin 0 .eql), [(.t 228), (.c (.int .i64 1))], (some (226, false)), []⟩,
 ⟨(some 230), .mv, [(.t 229)], (some (226, false)), []⟩,
 ⟨(some 231), .mv, [(.t 14)], (some (230, true)), [234, 235]⟩,
 ⟨(some 232), (.ixs 2), [(.t 231), (.c (.int .i64 0))], (some (230, true)), [234, 235]⟩,
 ⟨(some 233), (.load (some 2)), [(.t 232)], (some (230, true)), [234, 235]⟩,
 ⟨(some 234), .mv, [(.t 9)], (some (230, true)), [231, 232, 233]⟩,
 ⟨(some 235), (.call true false false), [(.f 26), (.c (.int .i64 1)), (.t 234)], (some (230, true)), [231, 232, 233]⟩,
 ⟨(some 236), (.eqs false [(some .i64), (some .i64)]), [(.t 233), (.t 235)], (some (230, true)), []⟩,
 ⟨(some 237), .pick, [(.t 230), (.t 236), (.c (.bool false))], (some (226, false)), []⟩,
 ⟨(some 238), .pick, [(.t 226), (.c (.bool true)), (.t 237)], none, []⟩,
 ⟨(some 239), .mv, [(.t 238)], none, []⟩,
 ⟨(some 240), (.call true false false), [(.f 13)], (some (239, true)), []⟩,
 ⟨(some 241), .pick, [(.t 239), (.t 240), (.c (.bool false))], none, []⟩,
 ⟨(some 6), .mv, [(.t 241)], none, []⟩] 0 [6])
 .ret))))))))))))))),
 [(.t 6)]⟩
theorem c10 : funC Try.prog [(0, [2, 3, 4]), (1, [2, 4, 7, 8]), (2, [2, 4, 7, 8, 9]), (3, [2, 7, 8, 9, 10, 11]), (4, [2, 7, 8, 9, 10, 11, 12, 13]), (5, [2, 7, 8, 9, 10, 11, 73]), (6, [6]), (7, [2, 7, 8, 9, 10, 11, 13, 14]), (8, [2, 7, 8, 9, 10, 11, 14, 84]), (9, [6]), (10, [7, 8, 9, 10, 11, 14, 15, 16, 17]), (11, [7, 8, 9, 10, 11, 14, 15, 16, 17, 18]), (12, [7, 8, 9, 10, 11, 14, 15, 16, 17, 18, 97]), (13, [7, 8, 9, 10, 11, 14, 15, 16, 17, 18]), (14, [7, 8, 9, 10, 11, 14, 15, 16, 17, 18]), (15, [7, 8, 9, 10, 11, 14, 15, 16, 17, 19]), (16, [7, 8, 9, 10, 11, 14, 15, 16, 17, 19, 125]), (17, [7, 8, 9, 10, 11, 14, 15, 16, 17, 19]), (18, [7, 8, 9, 10, 11, 14, 15, 16, 17, 19, 174]), (19, [6]), (20, [7, 8, 9, 10, 11, 14, 15, 16, 17, 19]), (21, [7, 8, 9, 11, 14, 15, 16, 17, 20, 21]), (22, [9, 14, 15, 17, 20, 21, 22, 23]), (23, [9, 14, 15, 223]), (24, [6]), (25, [6])] Try.f10 = some (unF l10) := by kernel_rfl
/-- acme/acmelaw02.ZoneSorted -/
def b11_0 : LCode :=
 (.seq
 (.seq
 (.reg true [] [] [
 ⟨(some 113), .mv, [(.t 16)], none, []⟩,
 ⟨(some 114), .mv, [(.t 13)], none, []⟩,
 ⟨(some 115), (.bin 0 .lss), [(.t 113), (.t 114)], none, []⟩,
 ⟨(some 116), .mv, [(.t 115)], none, []⟩,
 ⟨(some 117), .mv, [(.t 16)], (some (116, false)), []⟩,
 ⟨(some 118), (.bin 0 .eql), [(.t 117), (.c (.int .i64 50))], (some (116, false)), []⟩,
 ⟨(some 119), .mv, [(.t 118)], (some (116, false)), []⟩,
 ⟨(some 120), .mv, [(.t 12)], (some (119, true)), []⟩,
 ⟨(some 121), (.bin 0 .neq), [(.t 120), (.c (.int .i64 0))], (some (119, true)), []⟩,
 ⟨(some 122), .pick, [(.t 119), (.t 121), (.c (.bool false))], (some (116, false)), []⟩,
 ⟨(some 123), .pick, [(.t 116), (.c (.bool true)), (.t 122)], none, []⟩] 0 [5, 7, 8, 10, 11, 12, 13, 14, 15, 16, 123])
 (.cond (.t 123)
 .skip
 (.exit 0)))
 (.seq
 (.block 1
 (.seq
 (.reg true [] [] [
 ⟨(some 126), .mv, [(.t 15)], none, []⟩,
 ⟨(some 127), .mv, [(.t 16)], none, []⟩,
 ⟨(some 128), (.call false false false), [(.t 126), (.t 127)], none, []⟩] 0 [5, 7, 8, 10, 11, 12, 13, 14, 15, 16, 128])
 (.cond (.t 128)
 (.seq
 (.reg true [] [] [
 ⟨(some 6), .mv, [(.c (.bool false))], none, []⟩] 0 [6, 7, 8, 10, 14])
 .ret)
 .skip)))
 (.reg true [] [] [
 ⟨(some 124), .mv, [(.t 16)], none, []⟩,
 ⟨(some 125), (.bin 0 .add), [(.t 124), (.c (.int .i64 1))], none, []⟩,
 ⟨(some 16), .mv, [(.t 125)], none, []⟩] 0 [5, 7, 8, 10, 11, 12, 13, 14, 15, 16])))
def b11_1 : LCode :=
 (.seq
 (.seq
 (.reg true [] [] [
 ⟨(some 137), .mv, [(.t 19)], none, []⟩,
 ⟨(some 138), .mv, [(.t 11)], none, []⟩,
 ⟨(some 139), (.bin 0 .lss), [(.t 137), (.t 138)], none, []⟩] 0 [5, 7, 8, 10, 11, 14, 17, 18, 19, 139])
 (.cond (.t 139)
 .skip
 (.exit 2)))
 (.seq
 (.block 3
 (.seq
 (.reg true [20] [20] [
 ⟨(some 142), (.load none), [(.t 14)], none, []⟩,
 ⟨(some 143), (.load (some 2)), [(.t 7)], none, []⟩,
 ⟨(some 144), .mv, [(.t 19)], none, []⟩,
 ⟨(some 145), .mv, [(.t 11)], none, []⟩,
 ⟨(some 146), (.call false false false), [(.t 142), (.t 143), (.t 144), (.t 145)], none, []⟩,
 ⟨(some 20), (.alloc [(.int .i64 0), (.int .i64 0)]), [], none, []⟩,
 ⟨none, (.store 2 none), [(.t 20), (.t 146)], none, []⟩] 0 [5, 7, 8, 10, 11, 14, 17, 18, 19, 20])
 (.seq
 (.reg true [] [] [
 ⟨(some 147), .mv, [(.t 17)], none, []⟩,
 ⟨(some 148), (.load (some 2)), [(.t 20)], none, []⟩,
 ⟨(some 149), (.call false false false), [(.f 46), (.t 147), (.t 148)], none, []⟩] 0 [5, 7, 8, 10, 11, 14, 17, 18, 19, 149])
 (.cond (.t 149)
 (.seq
 (.reg true [] [] [
 ⟨(some 150), .mv, [(.t 18)], none, []⟩,
 ⟨(some 151), (.bin 0 .add), [(.t 150), (.c (.int .i64 1))], none, []⟩,
 ⟨(some 18), .mv, [(.t 151)], none, []⟩] 0 [5, 7, 8, 10, 11, 14, 17, 18, 19])
 (.seq
 (.reg true [21] [21] [
 ⟨(some 152), (.load none), [(.t 14)], none, []⟩,
 ⟨(some 153), (.load (some 2)), [(.t 8)], none, []⟩,
 ⟨(some 154), .mv, [(.t 19)], none, []⟩,
 ⟨(some 155), .mv, [(.t 11)], none, []⟩,
 ⟨(some 156), (.call false false false), [(.t 152), (.t 153), (.t 154), (.t 155)], none, []⟩,
 ⟨(some 21), (.alloc [(.int .i64 0), (.int .i64 0)]), [], none, []⟩,
 ⟨none, (.store 2 none), [(.t 21), (.t 156)], none, []⟩] 0 [5, 7, 8, 10, 11, 14, 17, 18, 19, 21])
 (.seq
 (.reg true [] [] [
 ⟨(some 157), (.load (some 2)), [(.t 21)], none, [158, 159, 160, 162, 164]⟩,
 ⟨(some 158), (.ixa 4 1), [(.t 5), (.c (.int .i64 3))], none, [157, 162, 164]⟩,
 ⟨(some 159), (.load none), [(.t 158)], none, [157, 162, 164]⟩,
 ⟨(some 160), (.conv .i64), [(.t 159)], none, [157, 162, 164]⟩,
 ⟨(some 161), (.call true false false), [(.f 47), (.t 157), (.t 160)], none, [162, 164]⟩,
 ⟨(some 162), .mv, [(.t 17)], none, [157, 158, 159, 160, 161, 164]⟩,
 ⟨(some 163), (.bin 0 .sub), [(.t 161), (.t 162)], none, [164]⟩,
 ⟨(some 164), (.load (some 2)), [(.t 10)], none, [157, 158, 159, 160, 161, 162, 163]⟩,
 ⟨(some 165), (.call true false false), [(.f 46), (.t 163), (.t 164)], none, []⟩,
 ⟨(some 166), (.un .not), [(.t 165)], none, []⟩] 0 [5, 7, 8, 10, 11, 14, 17, 18, 19, 166])
 (.cond (.t 166)
 (.seq
 (.reg true [] [] [
 ⟨(some 6), .mv, [(.c (.bool false))], none, []⟩] 0 [6, 7, 8, 10, 14])
 .ret)
 .skip))))
 .skip))))
 (.reg true [] [] [
 ⟨(some 140), .mv, [(.t 19)], none, []⟩,
 ⟨(some 141), (.bin 0 .add), [(.t 140), (.c (.int .i64 1))], none, []⟩,
 ⟨(some 19), .mv, [(.t 141)], none, []⟩] 0 [5, 7, 8, 10, 11, 14, 17, 18, 19])))
def l11 : LFun := ⟨3, 172, [],
 (.seq
 (.reg false [3, 4, 5] [3, 4, 5] [
 ⟨(some 3), .box, [(.t 0)], none, []⟩,
 ⟨(some 4), .box, [(.t 1)], none, []⟩,
 ⟨(some 5), .box, [(.t 2)], none, []⟩,
 ⟨(some 6), .mv, [(.c (.bool false))], none, []⟩] 0 [3, 4, 5, 7, 8, 10, 14])
 (.seq
 (.reg false [7] [7] [
 ⟨(some 22), (.ixa 2 1), [(.t 3), (.c (.int .i64 0))], none, []⟩,
 ⟨(some 23), (.load none), [(.t 22)], none, []⟩,
 ⟨(some 24), (.conv .i64), [(.t 23)], none, []⟩,
 ⟨(some 25), (.bin 0 .add), [(.c (.int .i64 1000)), (.t 24)], none, []⟩,
 ⟨(some 26), (.ixa 2 1), [(.t 3), (.c (.int .i64 0))], none, []⟩,
 ⟨(some 27), (.load none), [(.t 26)], none, []⟩,
 ⟨(some 28), (.conv .i64), [(.t 27)], none, []⟩,
 ⟨(some 29), (.bin 0 .add), [(.c (.int .i64 1000)), (.t 28)], none, []⟩,
 ⟨(some 30), (.ixa 2 1), [(.t 4), (.c (.int .i64 0))], none, []⟩,
 ⟨(some 31), (.load none), [(.t 30)], none, []⟩,
 ⟨(some 32), (.conv .i64), [(.t 31)], none, []⟩,
 ⟨(some 33), (.bin 0 .rem), [(.t 32), (.c (.int .i64 300))], none, []⟩,
 ⟨(some 34), (.bin 0 .add), [(.t 29), (.t 33)], none, []⟩,
 ⟨(some 35), (.call false false false), [(.f 26), (.t 25), (.t 34)], none, []⟩,
 ⟨(some 7), (.alloc [(.int .i64 0), (.int .i64 0)]), [], none, []⟩,
 ⟨none, (.store 2 none), [(.t 7), (.t 35)], none, []⟩] 0 [3, 4, 5, 7, 8, 10, 14])
 (.seq
 (.reg false [8] [8] [
 ⟨(some 36), (.ixa 2 1), [(.t 3), (.c (.int .i64 1))], none, []⟩,
 ⟨(some 37), (.load none), [(.t 36)], none, []⟩,
 ⟨(some 38), (.conv .i64), [(.t 37)], none, []⟩,
 ⟨(some 39), (.bin 0 .add), [(.c (.int .i64 1000)), (.t 38)], none, []⟩,
 ⟨(some 40), (.ixa 2 1), [(.t 3), (.c (.int .i64 1))], none, []⟩,
 ⟨(some 41), (.load none), [(.t 40)], none, []⟩,
 ⟨(some 42), (.conv .i64), [(.t 41)], none, []⟩,
 ⟨(some 43), (.bin 0 .add), [(.c (.int .i64 1000)), (.t 42)], none, []⟩,
 ⟨(some 44), (.ixa 2 1), [(.t 4), (.c (.int .i64 1))], none, []⟩,
 ⟨(some 45), (.load none), [(.t 44)], none, []⟩,
 ⟨(some 46), (.conv .i64), [(.t 45)], none, []⟩,
 ⟨(some 47), (.bin 0 .rem), [(.t 46), (.c (.int .i64 300))], none, []⟩,
 ⟨(some 48), (.bin 0 .add), [(.t 43), (.t 47)], none, []⟩,
 ⟨(some 49), (.call false false false), [(.f 26), (.t 39), (.t 48)], none, []⟩,
 ⟨(some 8), (.alloc [(.int .i64 0), (.int .i64 0)]), [], none, []⟩,
 ⟨none, (.store 2 none), [(.t 8), (.t 49)], none, []⟩] 0 [5, 7, 8, 10, 14])
 (.seq
 (.reg false [] [] [
 ⟨(some 50), (.fa 0), [(.t 8)], none, []⟩,
 ⟨(some 51), (.load none), [(.t 50)], none, []⟩,
 ⟨(some 52), (.fa 1), [(.t 8)], none, []⟩,
 ⟨(some 53), (.load none), [(.t 52)], none, []⟩,
 ⟨(some 54), (.fa 0), [(.t 8)], none, []⟩,
 ⟨(some 55), (.load none), [(.t 54)], none, []⟩,
 ⟨(some 56), (.bin 0 .sub), [(.t 53), (.t 55)], none, []⟩,
 ⟨(some 57), (.bin 0 .quo), [(.t 56), (.c (.int .i64 2))], none, []⟩,
 ⟨(some 58), (.bin 0 .add), [(.t 51), (.t 57)], none, []⟩,
 ⟨(some 59), (.fa 0), [(.t 7)], none, []⟩,
 ⟨(some 60), (.load none), [(.t 59)], none, []⟩,
 ⟨(some 61), (.bin 0 .sub), [(.t 58), (.t 60)], none, []⟩,
 ⟨(some 62), (.fa 1), [(.t 7)], none, []⟩,
 ⟨(some 63), (.load none), [(.t 62)], none, []⟩,
 ⟨(some 64), (.fa 0), [(.t 7)], none, []⟩,
 ⟨(some 65), (.load none), [(.t 64)], none, []⟩,
 ⟨(some 66), (.bin 0 .sub), [(.t 63), (.t 65)], none, []⟩,
 ⟨(some 67), (.bin 0 .quo), [(.t 66), (.c (.int .i64 2))], none, []⟩,
 ⟨(some 68), (.bin 0 .sub), [(.t 61), (.t 67)], none, []⟩,
 ⟨(some 9), .mv, [(.t 68)], none, []⟩] 0 [5, 7, 8, 9, 10, 14])
 (.seq
 (.reg false [10] [10] [
 ⟨(some 69), .mv, [(.t 9)], none, []⟩,
 ⟨(some 70), (.ixa 4 1), [(.t 5), (.c (.int .i64 0))], none, []⟩,
 ⟨(some 71), (.load none), [(.t 70)], none, []⟩,
 ⟨(some 72), (.conv .i64), [(.t 71)], none, []⟩,
 ⟨(some 73), (.bin 0 .sub), [(.t 69), (.t 72)], none, []⟩,
 ⟨(some 74), .mv, [(.t 9)], none, []⟩,
 ⟨(some 75), (.ixa 4 1), [(.t 5), (.c (.int .i64 1))], none, []⟩,
 ⟨(some 76), (.load none), [(.t 75)], none, []⟩,
 ⟨(some 77), (.conv .i64), [(.t 76)], none, []⟩,
 ⟨(some 78), (.bin 0 .add), [(.t 74), (.t 77)], none, []⟩,
 ⟨(some 79), (.call false false false), [(.f 26), (.t 73), (.t 78)], none, []⟩,
 ⟨(some 10), (.alloc [(.int .i64 0), (.int .i64 0)]), [], none, []⟩,
 ⟨none, (.store 2 none), [(.t 10), (.t 79)], none, []⟩] 0 [5, 7, 8, 10, 14])
 (.seq
 (.reg false [] [] [
 ⟨(some 81), (.load (some 2)), [(.t 7)], none, []⟩,
 ⟨(some 82), (.load (some 2)), [(.t 8)], none, []⟩,
 ⟨(some 83), (.load (some 2)), [(.t 10)], none, []⟩,
 ⟨(some 84), (.call false false false), [(.f 41), (.t 81), (.t 82), (.t 83)], none, []⟩,
 ⟨(some 80), .mv, [(.t 84)], none, []⟩,
 ⟨(some 85), (.ext 0), [(.t 80)], none, []⟩,
 ⟨(some 86), (.ext 1), [(.t 80)], none, []⟩,
 ⟨(some 11), .mv, [(.t 85)], none, []⟩,
 ⟨(some 12), .mv, [(.t 86)], none, []⟩] 0 [5, 7, 8, 10, 11, 12, 14])
 (.seq
 (.reg false [] [] [
 ⟨(some 13), .mv, [(.c (.int .i64 50))], none, []⟩] 0 [5, 7, 8, 10, 11, 12, 13, 14])
 (.seq
 (.seq
 (.reg false [] [] [
 ⟨(some 87), .mv, [(.t 12)], none, []⟩,
 ⟨(some 88), (.bin 0 .eql), [(.t 87), (.c (.int .i64 0))], none, []⟩] 0 [5, 7, 8, 10, 11, 12, 13, 14, 88])
 (.cond (.t 88)
 (.reg false [] [] [
 ⟨(some 89), .mv, [(.t 11)], none, []⟩,
 ⟨(some 13), .mv, [(.t 89)], none, []⟩] 0 [5, 7, 8, 10, 11, 12, 13, 14])
 (.seq
 (.reg false [] [] [
 ⟨(some 90), .mv, [(.t 12)], none, []⟩,
 ⟨(some 91), (.bin 0 .neq), [(.t 90), (.c (.int .i64 7))], none, []⟩,
 ⟨(some 92), .mv, [(.t 91)], none, []⟩,
 ⟨(some 93), .mv, [(.t 11)], (some (92, false)), []⟩,
 ⟨(some 94), (.bin 0 .neq), [(.t 93), (.c (.int .i64 0))], (some (92, false)), []⟩,
 ⟨(some 95), .pick, [(.t 92), (.c (.bool true)), (.t 94)], none, []⟩] 0 [5, 7, 8, 10, 11, 12, 13, 14, 95])
 (.cond (.t 95)
 (.seq
 (.reg false [] [] [
 ⟨(some 6), .mv, [(.c (.bool false))], none, []⟩] 0 [6, 7, 8, 10, 14])
 .ret)
 .skip))))
 (.seq
 (.reg false [14] [14] [
 ⟨(some 14), (.alloc [.dead]), [], none, []⟩,
 ⟨none, (.store 1 none), [(.t 14), (.f 50)], none, []⟩] 0 [5, 7, 8, 10, 11, 12, 13, 14])
 (.seq
 (.reg false [] [] [
 ⟨(some 96), (.mkf 51), [(.t 14), (.t 7), (.t 8), (.t 10)], none, []⟩,
 ⟨(some 15), .mv, [(.t 96)], none, []⟩] 0 [5, 7, 8, 10, 11, 12, 13, 14, 15])
 (.seq
 (.seq
 (.reg false [] [] [
 ⟨(some 97), .mv, [(.t 12)], none, []⟩,
 ⟨(some 98), (.bin 0 .eql), [(.t 97), (.c (.int .i64 0))], none, []⟩,
 ⟨(some 99), .mv, [(.t 98)], none, []⟩,
 ⟨(some 100), .mv, [(.t 11)], (some (99, true)), []⟩,
 ⟨(some 101), (.bin 0 .lss), [(.t 100), (.c (.int .i64 1))], (some (99, true)), []⟩,
 ⟨(some 102), .mv, [(.t 101)], (some (99, true)), []⟩,
 ⟨(some 103), .mv, [(.t 11)], (some (102, false)), []⟩,
 ⟨(some 104), (.bin 0 .gtr), [(.t 103), (.c (.int .i64 50))], (some (102, false)), []⟩,
 ⟨(some 105), .pick, [(.t 102), (.c (.bool true)), (.t 104)], (some (99, true)), []⟩,
 ⟨(some 106), .mv, [(.t 105)], (some (99, true)), []⟩,
 ⟨(some 107), .mv, [(.t 15)], (some (106, false)), []⟩,
 ⟨(some 108), .mv, [(.t 11)], (some (106, false)), []⟩,
 ⟨(some 109), (.call false false false), [(.t 107), (.t 108)], (some (106, false)), []⟩,
 ⟨(some 110), (.un .not), [(.t 109)], (some (106, false)), []⟩,
 ⟨(some 111), .pick, [(.t 106), (.c (.bool true)), (.t 110)], (some (99, true)), []⟩,
 ⟨(some 112), .pick, [(.t 99), (.t 111), (.c (.bool false))], none, []⟩] 0 [5, 7, 8, 10, 11, 12, 13, 14, 15, 112])
 (.cond (.t 112)
 (.seq
 (.reg false [] [] [
 ⟨(some 6), .mv, [(.c (.bool false))], none, []⟩] 0 [6, 7, 8, 10, 14])
 .ret)
 .skip))
 (.seq
 (.seq
 (.reg false [] [] [
 ⟨(some 16), .mv, [(.c (.int .i64 1))], none, []⟩] 0 [5, 7, 8, 10, 11, 12, 13, 14, 15, 16])
 (.block 0
 (.loop b11_0)))
 (.seq
 (.seq
 (.reg false [] [] [
 ⟨(some 129), .mv, [(.t 12)], none, []⟩,
 ⟨(some 130), (.bin 0 .neq), [(.t 129), (.c (.int .i64 0))], none, []⟩] 0 [5, 7, 8, 10, 11, 14, 130])
 (.cond (.t 130)
 (.seq
 (.reg false [] [] [
 ⟨(some 131), (.call false false false), [(.f 13)], none, []⟩,
 ⟨(some 6), .mv, [(.t 131)], none, []⟩] 0 [6, 7, 8, 10, 14])
 .ret)
 .skip))
 (.seq
 (.reg false [] [] [
 ⟨(some 132), (.load (some 2)), [(.t 7)], none, []⟩,
 ⟨(some 133), (.ixa 4 1), [(.t 5), (.c (.int .i64 2))], none, []⟩,
 ⟨(some 134), (.load none), [(.t 133)], none, []⟩,
 ⟨(some 135), (.conv .i64), [(.t 134)], none, []⟩,
 ⟨(some 136), (.call false false false), [(.f 47), (.t 132), (.t 135)], none, []⟩,
 ⟨(some 17), .mv, [(.t 136)], none, []⟩,
 ⟨(some 18), .mv, [(.c (.int .i64 0))], none, []⟩] 0 [5, 7, 8, 10, 11, 14, 17, 18])
 (.seq
 (.seq
 (.reg false [] [] [
 ⟨(some 19), .mv, [(.c (.int .i64 0))], none, []⟩] 0 [5, 7, 8, 10, 11, 14, 17, 18, 19])
 (.block 2
 (.loop b11_1)))
 (.seq
 (.reg false [] [] [
 ⟨(some 167), .mv, [(.t 18)], none, []⟩,
 ⟨(some 168), (.bin 0 .eql), [(.t 167), (.c (.int .i64 1))], none, []⟩,
 ⟨(some 169), .mv, [(.t 168)], none, []⟩,
 ⟨(some 170), (.call false false false), [(.f 13)], (some (169, true)), []⟩,
 ⟨(some 171), .pick, [(.t 169), (.t 170), (.c (.bool false))], none, []⟩,
 ⟨(some 6), .mv, [(.t 171)], none, []⟩] 0 [6, 7, 8, 10, 14])
 .ret)))))))))))))))),
 [(.t 6)]⟩
theorem c11 : funC Try.prog [(0, [3, 4, 5, 7, 8, 10, 14]), (1, [3, 4, 5, 7, 8, 10, 14]), (2, [5, 7, 8, 10, 14]), (3, [5, 7, 8, 9, 10, 14]), (4, [5, 7, 8, 10, 14]), (5, [5, 7, 8, 10, 11, 12, 14]), (6, [5, 7, 8, 10, 11, 12, 13, 14]), (7, [5, 7, 8, 10, 11, 12, 13, 14, 88]), (8, [5, 7, 8, 10, 11, 12, 13, 14]), (9, [5, 7, 8, 10, 11, 12, 13, 14, 95]), (10, [6, 7, 8, 10, 14]), (11, [5, 7, 8, 10, 11, 12, 13, 14]), (12, [5, 7, 8, 10, 11, 12, 13, 14, 15]), (13, [5, 7, 8, 10, 11, 12, 13, 14, 15, 112]), (14, [6, 7, 8, 10, 14]), (15, [5, 7, 8, 10, 11, 12, 13, 14, 15, 16]), (16, [5, 7, 8, 10, 11, 12, 13, 14, 15, 16, 123]), (17, [5, 7, 8, 10, 11, 12, 13, 14, 15, 16]), (18, [5, 7, 8, 10, 11, 12, 13, 14, 15, 16, 128]), (19, [6, 7, 8, 10, 14]), (20, [5, 7, 8, 10, 11, 14, 130]), (21, [6, 7, 8, 10, 14]), (22, [5, 7, 8, 10, 11, 14, 17, 18]), (23, [5, 7, 8, 10, 11, 14, 17, 18, 19]), (24, [5, 7, 8, 10, 11, 14, 17, 18, 19, 139]), (25, [5, 7, 8, 10, 11, 14, 17, 18, 19]), (26, [5, 7, 8, 10, 11, 14, 17, 18, 19, 20]), (27, [5, 7, 8, 10, 11, 14, 17, 18, 19, 149]), (28, [5, 7, 8, 10, 11, 14, 17, 18, 19]), (29, [5, 7, 8, 10, 11, 14, 17, 18, 19, 21]), (30, [5, 7, 8, 10, 11, 14, 17, 18, 19, 166]), (31, [6, 7, 8, 10, 14]), (32, [6, 7, 8, 10, 14])] Try.f11 = some (unF l11) := by kernel_rfl
/-- acme/acmelaw02.large -/
def b12_0 : LCode :=
 (.seq
 (.seq
 (.reg true [] [] [
 ⟨(some 7), .mv, [(.t 5)], none, []⟩,
 ⟨(some 8), (.fa 1), [(.t 2)], none, []⟩,
 ⟨(some 9), (.load none), [(.t 8)], none, []⟩,
 ⟨(some 10), .len, [(.t 9)], none, []⟩,
 ⟨(some 11), (.bin 0 .lss), [(.t 7), (.t 10)], none, []⟩,
 ⟨(some 12), .mv, [(.t 11)], none, []⟩,
 ⟨(some 13), .mv, [(.t 5)], (some (12, true)), []⟩,
 ⟨(some 14), (.bin 0 .lss), [(.t 13), (.c (.int .i64 20))], (some (12, true)), []⟩,
 ⟨(some 15), .pick, [(.t 12), (.t 14), (.c (.bool false))], none, []⟩] 0 [1, 2, 5, 15])
 (.cond (.t 15)
 .skip
 (.exit 0)))
 (.seq
 (.block 1
 (.seq
 (.reg true [] [] [
 ⟨(some 18), (.fa 1), [(.t 2)], none, []⟩,
 ⟨(some 19), (.load none), [(.t 18)], none, []⟩,
 ⟨(some 20), .mv, [(.t 5)], none, []⟩,
 ⟨(some 21), (.ixs 1), [(.t 19), (.t 20)], none, []⟩,
 ⟨(some 22), (.load none), [(.t 21)], none, []⟩,
 ⟨(some 23), .len, [(.t 22)], none, []⟩,
 ⟨(some 24), (.bin 0 .gtr), [(.t 23), (.c (.int .i64 25))], none, []⟩] 0 [1, 2, 5, 24])
 (.cond (.t 24)
 (.seq
 (.reg true [] [] [
 ⟨(some 4), .mv, [(.c (.bool true))], none, []⟩] 0 [4])
 .ret)
 .skip)))
 (.reg true [] [] [
 ⟨(some 16), .mv, [(.t 5)], none, []⟩,
 ⟨(some 17), (.bin 0 .add), [(.t 16), (.c (.int .i64 1))], none, []⟩,
 ⟨(some 5), .mv, [(.t 17)], none, []⟩] 0 [1, 2, 5])))
def b12_1 : LCode :=
 (.seq
 (.seq
 (.reg true [] [] [
 ⟨(some 25), .mv, [(.t 6)], none, []⟩,
 ⟨(some 26), (.fa 2), [(.t 2)], none, []⟩,
 ⟨(some 27), (.load none), [(.t 26)], none, []⟩,
 ⟨(some 28), .len, [(.t 27)], none, []⟩,
 ⟨(some 29), (.bin 0 .lss), [(.t 25), (.t 28)], none, []⟩,
 ⟨(some 30), .mv, [(.t 29)], none, []⟩,
 ⟨(some 31), .mv, [(.t 6)], (some (30, true)), []⟩,
 ⟨(some 32), (.bin 0 .lss), [(.t 31), (.c (.int .i64 20))], (some (30, true)), []⟩,
 ⟨(some 33), .pick, [(.t 30), (.t 32), (.c (.bool false))], none, []⟩] 0 [1, 2, 6, 33])
 (.cond (.t 33)
 .skip
 (.exit 2)))
 (.seq
 (.block 3
 (.seq
 (.reg true [] [] [
 ⟨(some 36), (.fa 2), [(.t 2)], none, []⟩,
 ⟨(some 37), (.load none), [(.t 36)], none, []⟩,
 ⟨(some 38), .mv, [(.t 6)], none, []⟩,
 ⟨(some 39), (.ixs 1), [(.t 37), (.t 38)], none, []⟩,
 ⟨(some 40), (.load none), [(.t 39)], none, []⟩,
 ⟨(some 41), .len, [(.t 40)], none, []⟩,
 ⟨(some 42), (.bin 0 .gtr), [(.t 41), (.c (.int .i64 25))], none, []⟩] 0 [1, 2, 6, 42])
 (.cond (.t 42)
 (.seq
 (.reg true [] [] [
 ⟨(some 4), .mv, [(.c (.bool true))], none, []⟩] 0 [4])
 .ret)
 .skip)))
 (.reg true [] [] [
 ⟨(some 34), .mv, [(.t 6)], none, []⟩,
 ⟨(some 35), (.bin 0 .add), [(.t 34), (.c (.int .i64 1))], none, []⟩,
 ⟨(some 6), .mv, [(.t 35)], none, []⟩] 0 [1, 2, 6])))
def l12 : LFun := ⟨2, 78, [],
 (.seq
 (.reg false [2] [2] [
 ⟨(some 2), .box, [(.t 0)], none, []⟩,
 ⟨(some 4), .mv, [(.c (.bool false))], none, []⟩] 0 [1, 2])
 (.seq
 (.seq
 (.reg false [] [] [
 ⟨(some 5), .mv, [(.c (.int .i64 0))], none, []⟩] 0 [1, 2, 5])
 (.block 0
 (.loop b12_0)))
 (.seq
 (.seq
 (.reg false [] [] [
 ⟨(some 6), .mv, [(.c (.int .i64 0))], none, []⟩] 0 [1, 2, 6])
 (.block 2
 (.loop b12_1)))
 (.seq
 (.reg false [] [] [
 ⟨(some 43), (.fa 0), [(.t 2)], none, []⟩,
 ⟨(some 44), (.load none), [(.t 43)], none, []⟩,
 ⟨(some 45), .len, [(.t 44)], none, []⟩,
 ⟨(some 46), (.bin 0 .gtr), [(.t 45), (.c (.int .i64 25))], none, []⟩,
 ⟨(some 47), .mv, [(.t 46)], none, []⟩,
 ⟨(some 48), (.fa 1), [(.t 2)], (some (47, false)), []⟩,
 ⟨(some 49), (.load none), [(.t 48)], (some (47, false)), []⟩,
 ⟨(some 50), .len, [(.t 49)], (some (47, false)), []⟩,
 ⟨(some 51), (.bin 0 .gtr), [(.t 50), (.c (.int .i64 15))], (some (47, false)), []⟩,
 ⟨(some 52), .pick, [(.t 47), (.c (.bool true)), (.t 51)], none, []⟩,
 ⟨(some 53), .mv, [(.t 52)], none, []⟩,
 ⟨(some 54), (.fa 2), [(.t 2)], (some (53, false)), []⟩,
 ⟨(some 55), (.load none), [(.t 54)], (some (53, false)), []⟩,
 ⟨(some 56), .len, [(.t 55)], (some (53, false)), []⟩,
 ⟨(some 57), (.bin 0 .gtr), [(.t 56), (.c (.int .i64 15))], (some (53, false)), []⟩,
 ⟨(some 58), .pick, [(.t 53), (.c (.bool true)), (.t 57)], none, []⟩,
 ⟨(some 59), .mv, [(.t 58)], none, []⟩,
 ⟨(some 60), (.load (some 3)), [(.t 2)], (some (59, false)), []⟩,
 ⟨(some 61), (.call false false false), [(.f 20), (.t 60)], (some (59, false)), []⟩,
 ⟨(some 62), (.bin 0 .eql), [(.t 61), (.c (.int .i64 0))], (some (59, false)), []⟩,
 ⟨(some 63), .mv, [(.t 62)], (some (59, false)), []⟩,
 ⟨(some 64), (.fa 1), [(.t 2)], (some (63, true)), []⟩,
 ⟨(some 65), (.load none), [(.t 64)], (some (63, true)), []⟩,
 ⟨(some 66), .len, [(.t 65)], (some (63, true)), []⟩,
 ⟨(some 67), .mv, [(.t 1)], (some (63, true)), []⟩,
 ⟨(some 68), (.bin 0 .gtr), [(.t 66), (.t 67)], (some (63, true)), []⟩,
 ⟨(some 69), .mv, [(.t 68)], (some (63, true)), []⟩,
 ⟨(some 70), (.fa 2), [(.t 2)], (some (69, false)), []⟩,
 ⟨(some 71), (.load none), [(.t 70)], (some (69, false)), []⟩,
 ⟨(some 72), .len, [(.t 71)], (some (69, false)), []⟩,
 ⟨(some 73), .mv, [(.t 1)], (some (69, false)), []⟩,
 ⟨(some 74), (.bin 0 .gtr), [(.t 72), (.t 73)], (some (69, false)), []⟩,
 ⟨(some 75), .pick, [(.t 69), (.c (.bool true)), (.t 74)], (some (63, true)), []⟩,
 ⟨(some 76), .pick, [(.t 63), (.t 75), (.c (.bool false))], (some (59, false)), []⟩,
 ⟨(some 77), .pick, [(.t 59), (.c (.bool true)), (.t 76)], none, []⟩,
 ⟨(some 4), .mv, [(.t 77)], none, []⟩] 0 [4])
 .ret)))),
 [(.t 4)]⟩
theorem c12 : funC Try.prog [(0, [1, 2]), (1, [1, 2, 5]), (2, [1, 2, 5, 15]), (3, [1, 2, 5]), (4, [1, 2, 5, 24]), (5, [4]), (6, [1, 2, 6]), (7, [1, 2, 6, 33]), (8, [1, 2, 6]), (9, [1, 2, 6, 42]), (10, [4]), (11, [4])] Try.f12 = some (unF l12) := by kernel_rfl
/-- acme/acmelaw02.known -/
def l13 : LFun := ⟨0, 151, [],
 (.seq
 (.reg false [] [] [
 ⟨(some 0), .mv, [(.c (.bool false))], none, []⟩] 0 [])
 (.seq
 (.reg false [19, 1] [19, 1] [
 ⟨(some 19), (.call false true true), [(.f 52)], none, []⟩,
 ⟨(some 20), (.call false false false), [(.f 17), (.c (.int .i64 1)), (.c (.int .i64 0))], none, []⟩,
 ⟨(some 21), (.call false false false), [(.f 16), (.t 19), (.t 20), (.c (.bool false)), (.c (.int .i64 60000))], none, []⟩,
 ⟨(some 18), .mv, [(.t 21)], none, []⟩,
 ⟨(some 22), (.ext 0), [(.t 18)], none, []⟩,
 ⟨(some 23), (.ext 1), [(.t 18)], none, []⟩,
 ⟨(some 1), (.alloc [(.int .i64 0), (.int .i64 0)]), [], none, []⟩,
 ⟨none, (.store 2 none), [(.t 1), (.t 22)], none, []⟩,
 ⟨(some 2), .mv, [(.t 23)], none, []⟩] 0 [1, 2])
 (.seq
 (.reg false [25, 3] [25, 3] [
 ⟨(some 25), (.call false true true), [(.f 52)], none, []⟩,
 ⟨(some 26), (.call false false false), [(.f 17), (.c (.int .i64 1)), (.c (.int .i64 0))], none, []⟩,
 ⟨(some 27), (.call false false false), [(.f 16), (.t 25), (.t 26), (.c (.bool true)), (.c (.int .i64 60000))], none, []⟩,
 ⟨(some 24), .mv, [(.t 27)], none, []⟩,
 ⟨(some 28), (.ext 0), [(.t 24)], none, []⟩,
 ⟨(some 29), (.ext 1), [(.t 24)], none, []⟩,
 ⟨(some 3), (.alloc [(.int .i64 0), (.int .i64 0)]), [], none, []⟩,
 ⟨none, (.store 2 none), [(.t 3), (.t 28)], none, []⟩,
 ⟨(some 4), .mv, [(.t 29)], none, []⟩] 0 [1, 2, 3, 4])
 (.seq
 (.reg false [5] [5] [
 ⟨(some 30), (.call false false false), [(.f 26), (.c (.int .i64 5)), (.c (.int .i64 8))], none, []⟩,
 ⟨(some 31), (.build [(.int .i64 0), (.int .i64 0)] [(0, 1), (1, 1)]), [(.c (.int .i64 7)), (.c (.int .i64 2))], none, []⟩,
 ⟨(some 32), (.build [(.int .i64 0), (.int .i64 0), (.int .i64 0), (.int .i64 0)] [(0, 2), (2, 2)]), [(.t 30), (.t 31)], none, []⟩,
 ⟨(some 5), (.alloc [(.int .i64 0), (.int .i64 0), (.int .i64 0), (.int .i64 0)]), [], none, []⟩,
 ⟨none, (.store 4 none), [(.t 5), (.t 32)], none, []⟩] 0 [1, 2, 3, 4, 5])
 (.seq
 (.reg false [6] [6] [
 ⟨(some 34), (.call true false false), [(.f 26), (.c (.int .i64 59840)), (.c (.int .i64 59960))], none, [35, 6]⟩,
 ⟨(some 35), (.load (some 4)), [(.t 5)], none, [34, 6]⟩,
 ⟨(some 36), (.call true false false), [(.f 21), (.t 34), (.c (.bool false)), (.t 35)], none, [6]⟩,
 ⟨(some 33), .mv, [(.t 36)], none, [6]⟩,
 ⟨(some 37), (.ext 0), [(.t 33)], none, [38, 6]⟩,
 ⟨(some 38), (.ext 1), [(.t 33)], none, [37, 6]⟩,
 ⟨(some 6), (.alloc [(.int .i64 0), (.int .i64 0)]), [], none, [34, 35, 36, 33, 37, 38]⟩,
 ⟨none, (.store 2 (some 6)), [(.t 6), (.t 37)], none, [38]⟩,
 ⟨(some 7), .mv, [(.t 38)], none, []⟩] 0 [1, 2, 3, 4, 6, 7])
 (.seq
 (.reg false [8] [8] [
 ⟨(some 40), (.call false false false), [(.f 26), (.c (.int .i64 59820)), (.c (.int .i64 59928))], none, []⟩,
 ⟨(some 41), (.call false false false), [(.f 26), (.c (.int .i64 5)), (.c (.int .i64 8))], none, []⟩,
 ⟨(some 42), (.build [(.int .i64 0), (.int .i64 0)] [(0, 1), (1, 1)]), [(.c (.int .i64 4)), (.c (.int .i64 1))], none, []⟩,
 ⟨(some 43), (.build [(.int .i64 0), (.int .i64 0), (.int .i64 0), (.int .i64 0)] [(0, 2), (2, 2)]), [(.t 41), (.t 42)], none, []⟩,
 ⟨(some 44), (.call false false false), [(.f 22), (.t 40), (.c (.bool false)), (.t 43)], none, []⟩,
 ⟨(some 39), .mv, [(.t 44)], none, []⟩,
 ⟨(some 45), (.ext 0), [(.t 39)], none, []⟩,
 ⟨(some 46), (.ext 1), [(.t 39)], none, []⟩,
 ⟨(some 8), (.alloc [(.int .i64 0), (.int .i64 0)]), [], none, []⟩,
 ⟨none, (.store 2 none), [(.t 8), (.t 45)], none, []⟩,
 ⟨(some 9), .mv, [(.t 46)], none, []⟩] 0 [1, 2, 3, 4, 6, 7, 8, 9])
 (.seq
 (.reg false [48, 10] [48, 10] [
 ⟨(some 48), (.call false true true), [(.f 52)], none, []⟩,
 ⟨(some 49), (.call false false false), [(.f 17), (.c (.int .i64 1)), (.c (.int .i64 0))], none, []⟩,
 ⟨(some 50), (.call false false false), [(.f 17), (.c (.int .i64 0)), (.c (.int .i64 1))], none, []⟩,
 ⟨(some 51), (.call false false false), [(.f 30), (.t 49), (.t 50)], none, []⟩,
 ⟨(some 52), (.call false false false), [(.f 31), (.t 48), (.t 51), (.c (.int .i64 60000))], none, []⟩,
 ⟨(some 47), .mv, [(.t 52)], none, []⟩,
 ⟨(some 53), (.ext 0), [(.t 47)], none, []⟩,
 ⟨(some 54), (.ext 1), [(.t 47)], none, []⟩,
 ⟨(some 10), (.alloc [(.int .i64 0), (.int .i64 0)]), [], none, []⟩,
 ⟨none, (.store 2 none), [(.t 10), (.t 53)], none, []⟩,
 ⟨(some 11), .mv, [(.t 54)], none, []⟩] 0 [1, 2, 3, 4, 6, 7, 8, 9, 10, 11])
 (.seq
 (.reg false [56, 12] [56, 12] [
 ⟨(some 56), (.call false true true), [(.f 52)], none, []⟩,
 ⟨(some 57), (.call false false false), [(.f 26), (.c (.int .i64 30)), (.c (.int .i64 300))], none, []⟩,
 ⟨(some 58), (.call false false false), [(.f 33), (.t 56), (.c (.int .i64 60000)), (.t 57)], none, []⟩,
 ⟨(some 55), .mv, [(.t 58)], none, []⟩,
 ⟨(some 59), (.ext 0), [(.t 55)], none, []⟩,
 ⟨(some 60), (.ext 1), [(.t 55)], none, []⟩,
 ⟨(some 12), (.alloc [(.int .i64 0), (.int .i64 0), (.int .i64 0), (.int .i64 0)]), [], none, []⟩,
 ⟨none, (.store 4 none), [(.t 12), (.t 59)], none, []⟩,
 ⟨(some 13), .mv, [(.t 60)], none, []⟩] 0 [1, 2, 3, 4, 6, 7, 8, 9, 10, 11, 12, 13])
 (.seq
 (.reg false [62, 65] [62, 65] [
 ⟨(some 62), (.call false true true), [(.f 52)], none, []⟩,
 ⟨(some 63), (.call false false false), [(.f 17), (.c (.int .i64 1)), (.c (.int .i64 0))], none, []⟩,
 ⟨(some 64), (.call false false false), [(.f 17), (.c (.int .i64 0)), (.c (.int .i64 1))], none, []⟩,
 ⟨(some 65), (.call false false true), [(.f 37), (.t 62), (.t 63), (.t 64), (.c (.bool false))], none, []⟩,
 ⟨(some 61), .mv, [(.t 65)], none, []⟩,
 ⟨(some 66), (.ext 0), [(.t 61)], none, []⟩,
 ⟨(some 67), (.ext 1), [(.t 61)], none, []⟩,
 ⟨(some 14), .mv, [(.t 66)], none, []⟩,
 ⟨(some 15), .mv, [(.t 67)], none, []⟩] 0 [1, 2, 3, 4, 6, 7, 8, 9, 10, 11, 12, 13, 14, 15])
 (.seq
 (.reg false [] [] [
 ⟨(some 69), (.call false false false), [(.f 26), (.c (.int .i64 1000)), (.c (.int .i64 1009))], none, []⟩,
 ⟨(some 70), (.call false false false), [(.f 26), (.c (.int .i64 1020)), (.c (.int .i64 1029))], none, []⟩,
 ⟨(some 71), (.call false false false), [(.f 26), (.c (.int .i64 12)), (.c (.int .i64 28))], none, []⟩,
 ⟨(some 72), (.call false false false), [(.f 41), (.t 69), (.t 70), (.t 71)], none, []⟩,
 ⟨(some 68), .mv, [(.t 72)], none, []⟩,
 ⟨(some 73), (.ext 0), [(.t 68)], none, []⟩,
 ⟨(some 74), (.ext 1), [(.t 68)], none, []⟩,
 ⟨(some 16), .mv, [(.t 73)], none, []⟩,
 ⟨(some 17), .mv, [(.t 74)], none, []⟩] 0 [1, 2, 3, 4, 6, 7, 8, 9, 10, 11, 12, 13, 14, 15, 16, 17])
 (.seq
 (.seq
 (.reg false [] [] [
 ⟨(some 75), .mv, [(.t 2)], none, []⟩,
 ⟨(some 76), (.bin 0 .neq), [(.t 75), (.c (.int .i64 0))], none, []⟩,
 ⟨(some 77), .mv, [(.t 76)], none, []⟩,
 ⟨(some 78), .mv, [(.t 4)], (some (77, false)), []⟩,
 ⟨(some 79), (.bin 0 .neq), [(.t 78), (.c (.int .i64 0))], (some (77, false)), []⟩,
 ⟨(some 80), .pick, [(.t 77), (.c (.bool true)), (.t 79)], none, []⟩,
 ⟨(some 81), .mv, [(.t 80)], none, []⟩,
 ⟨(some 82), .mv, [(.t 7)], (some (81, false)), []⟩,
 ⟨(some 83), (.bin 0 .neq), [(.t 82), (.c (.int .i64 0))], (some (81, false)), []⟩,
 ⟨(some 84), .pick, [(.t 81), (.c (.bool true)), (.t 83)], none, []⟩,
 ⟨(some 85), .mv, [(.t 84)], none, []⟩,
 ⟨(some 86), .mv, [(.t 9)], (some (85, false)), []⟩,
 ⟨(some 87), (.bin 0 .neq), [(.t 86), (.c (.int .i64 0))], (some (85, false)), []⟩,
 ⟨(some 88), .pick, [(.t 85), (.c (.bool true)), (.t 87)], none, []⟩,
 ⟨(some 89), .mv, [(.t 88)], none, []⟩,
 ⟨(some 90), .mv, [(.t 11)], (some (89, false)), []⟩,
 ⟨(some 91), (.bin 0 .neq), [(.t 90), (.c (.int .i64 0))], (some (89, false)), []⟩,
 ⟨(some 92), .pick, [(.t 89), (.c (.bool true)), (.t 91)], none, []⟩,
 ⟨(some 93), .mv, [(.t 92)], none, []⟩,
 ⟨(some 94), .mv, [(.t 13)], (some (93, false)), []⟩,
 ⟨(some 95), (.bin 0 .neq), [(.t 94), (.c (.int .i64 0))], (some (93, false)), []⟩,
 ⟨(some 96), .pick, [(.t 93), (.c (.bool true)), (.t 95)], none, []⟩,
 ⟨(some 97), .mv, [(.t 96)], none, []⟩,
 ⟨(some 98), .mv, [(.t 15)], (some (97, false)), []⟩,
 ⟨(some 99), (.bin 0 .neq), [(.t 98), (.c (.int .i64 0))], (some (97, false)), []⟩,
 ⟨(some 100), .pick, [(.t 97), (.c (.bool true)), (.t 99)], none, []⟩,
 ⟨(some 101), .mv, [(.t 100)], none, []⟩,
 ⟨(some 102), .mv, [(.t 17)], (some (101, false)), []⟩,
 ⟨(some 103), (.bin 0 .neq), [(.t 102), (.c (.int .i64 0))], (some (101, false)), []⟩,
 ⟨(some 104), .pick, [(.t 101), (.c (.bool true)), (.t 103)], none, []⟩,
 ⟨(some 105), .mv, [(.t 104)], none, []⟩,
 ⟨(some 106), .mv, [(.t 14)], (some (105, false)), []⟩,
 ⟨(some 107), .len, [(.t 106)], (some (105, false)), []⟩,
 ⟨(some 108), (.bin 0 .neq), [(.t 107), (.c (.int .i64 1))], (some (105, false)), []⟩,
 ⟨(some 109), .pick, [(.t 105), (.c (.bool true)), (.t 108)], none, []⟩] 0 [1, 3, 6, 8, 10, 12, 14, 16, 109])
 (.cond (.t 109)
 (.seq
 (.reg false [] [] [
 ⟨(some 0), .mv, [(.c (.bool false))], none, []⟩] 0 [0])
 .ret)
 .skip))
 (.seq
 (.reg false [] [] [
 ⟨(some 110), (.load (some 2)), [(.t 1)], none, [111]⟩,
 ⟨(some 111), (.call true false false), [(.f 26), (.c (.int .i64 59840)), (.c (.int .i64 59960))], none, [110]⟩,
 ⟨(some 112), (.eqs false [(some .i64), (some .i64)]), [(.t 110), (.t 111)], none, []⟩,
 ⟨(some 113), .mv, [(.t 112)], none, []⟩,
 ⟨(some 114), (.load (some 2)), [(.t 3)], (some (113, true)), [115]⟩,
 ⟨(some 115), (.call true false false), [(.f 26), (.c (.int .i64 60040)), (.c (.int .i64 60160))], (some (113, true)), [114]⟩,
 ⟨(some 116), (.eqs false [(some .i64), (some .i64)]), [(.t 114), (.t 115)], (some (113, true)), []⟩,
 ⟨(some 117), .pick, [(.t 113), (.t 116), (.c (.bool false))], none, []⟩,
 ⟨(some 118), .mv, [(.t 117)], none, []⟩,
 ⟨(some 119), (.load (some 2)), [(.t 6)], (some (118, true)), [120]⟩,
 ⟨(some 120), (.call true false false), [(.f 26), (.c (.int .i64 59823)), (.c (.int .i64 59932))], (some (118, true)), [119]⟩,
 ⟨(some 121), (.eqs false [(some .i64), (some .i64)]), [(.t 119), (.t 120)], (some (118, true)), []⟩,
 ⟨(some 122), .pick, [(.t 118), (.t 121), (.c (.bool false))], none, []⟩,
 ⟨(some 123), .mv, [(.t 122)], none, []⟩,
 ⟨(some 124), (.load (some 2)), [(.t 8)], (some (123, true)), [125]⟩,
 ⟨(some 125), (.call true false false), [(.f 26), (.c (.int .i64 59840)), (.c (.int .i64 59960))], (some (123, true)), [124]⟩,
 ⟨(some 126), (.eqs false [(some .i64), (some .i64)]), [(.t 124), (.t 125)], (some (123, true)), []⟩,
 ⟨(some 127), .pick, [(.t 123), (.t 126), (.c (.bool false))], none, []⟩,
 ⟨(some 128), .mv, [(.t 127)], none, []⟩,
 ⟨(some 129), (.load (some 2)), [(.t 10)], (some (128, true)), [130]⟩,
 ⟨(some 130), (.call true false false), [(.f 26), (.c (.int .i64 40)), (.c (.int .i64 410))], (some (128, true)), [129]⟩,
 ⟨(some 131), (.eqs false [(some .i64), (some .i64)]), [(.t 129), (.t 130)], (some (128, true)), []⟩,
 ⟨(some 132), .pick, [(.t 128), (.t 131), (.c (.bool false))], none, []⟩,
 ⟨(some 133), .mv, [(.t 132)], none, []⟩,
 ⟨(some 134), (.load (some 4)), [(.t 12)], (some (133, true)), [135, 136, 137]⟩,
 ⟨(some 135), (.call true false false), [(.f 17), (.c (.int .i64 0)), (.c (.int .i64 0))], (some (133, true)), [134]⟩,
 ⟨(some 136), (.call true false false), [(.f 17), (.c (.int .i64 1)), (.c (.int .i64 0))], (some (133, true)), [134]⟩,
 ⟨(some 137), (.call true false false), [(.f 30), (.t 135), (.t 136)], (some (133, true)), [134]⟩,
 ⟨(some 138), (.eqs false [(some .i64), (some .i64), (some .i64), (some .i64)]), [(.t 134), (.t 137)], (some (133, true)), []⟩,
 ⟨(some 139), .pick, [(.t 133), (.t 138), (.c (.bool false))], none, []⟩,
 ⟨(some 140), .mv, [(.t 139)], none, []⟩,
 ⟨(some 141), .mv, [(.t 14)], (some (140, true)), [144]⟩,
 ⟨(some 142), (.ixs 2), [(.t 141), (.c (.int .i64 0))], (some (140, true)), [144]⟩,
 ⟨(some 143), (.load (some 2)), [(.t 142)], (some (140, true)), [144]⟩,
 ⟨(some 144), (.call true false false), [(.f 26), (.c (.int .i64 1)), (.c (.int .i64 100000))], (some (140, true)), [141, 142, 143]⟩,
 ⟨(some 145), (.eqs false [(some .i64), (some .i64)]), [(.t 143), (.t 144)], (some (140, true)), []⟩,
 ⟨(some 146), .pick, [(.t 140), (.t 145), (.c (.bool false))], none, []⟩,
 ⟨(some 147), .mv, [(.t 146)], none, []⟩,
 ⟨(some 148), .mv, [(.t 16)], (some (147, true)), []⟩,
 ⟨(some 149), (.bin 0 .eql), [(.t 148), (.c (.int .i64 2))], (some (147, true)), []⟩,
 ⟨(some 150), .pick, [(.t 147), (.t 149), (.c (.bool false))], none, []⟩,
 ⟨(some 0), .mv, [(.t 150)], none, []⟩] 0 [0])
 .ret)))))))))))),
 [(.t 0)]⟩
theorem c13 : funC Try.prog [(0, []), (1, [1, 2]), (2, [1, 2, 3, 4]), (3, [1, 2, 3, 4, 5]), (4, [1, 2, 3, 4, 6, 7]), (5, [1, 2, 3, 4, 6, 7, 8, 9]), (6, [1, 2, 3, 4, 6, 7, 8, 9, 10, 11]), (7, [1, 2, 3, 4, 6, 7, 8, 9, 10, 11, 12, 13]), (8, [1, 2, 3, 4, 6, 7, 8, 9, 10, 11, 12, 13, 14, 15]), (9, [1, 2, 3, 4, 6, 7, 8, 9, 10, 11, 12, 13, 14, 15, 16, 17]), (10, [1, 3, 6, 8, 10, 12, 14, 16, 109]), (11, [0]), (12, [0])] Try.f13 = some (unF l13) := by kernel_rfl
/-- acme/acmelaw02.table -/
def b14_0 : LCode :=
 (.seq
 (.seq
 (.reg true [] [] [
 ⟨(some 10), .mv, [(.t 4)], none, []⟩,
 ⟨(some 11), (.fa 1), [(.t 1)], none, []⟩,
 ⟨(some 12), (.load none), [(.t 11)], none, []⟩,
 ⟨(some 13), .len, [(.t 12)], none, []⟩,
 ⟨(some 14), (.bin 0 .lss), [(.t 10), (.t 13)], none, []⟩] 0 [1, 2, 3, 4, 14])
 (.cond (.t 14)
 .skip
 (.exit 0)))
 (.seq
 (.block 1
 (.reg true [24, 25, 26] [24, 25] [
 ⟨(some 17), (.fa 1), [(.t 3)], none, [19, 20, 21, 22, 23, 24, 25]⟩,
 ⟨(some 18), (.load none), [(.t 17)], none, [19, 20, 21, 22, 23, 24, 25]⟩,
 ⟨(some 19), (.fa 1), [(.t 1)], none, [17, 18, 21]⟩,
 ⟨(some 20), (.load none), [(.t 19)], none, [17, 18, 21]⟩,
 ⟨(some 21), .mv, [(.t 4)], none, [17, 18, 19, 20]⟩,
 ⟨(some 22), (.ixs 1), [(.t 20), (.t 21)], none, [17, 18]⟩,
 ⟨(some 23), (.load none), [(.t 22)], none, [17, 18]⟩,
 ⟨(some 24), (.call true false true), [(.f 53), (.t 23)], none, [17, 18]⟩,
 ⟨(some 25), (.bsl 1 [.nil] 1 [0]), [(.t 24)], none, [17, 18]⟩,
 ⟨(some 26), (.append false 1 24), [(.t 18), (.t 25)], none, []⟩,
 ⟨(some 27), (.fa 1), [(.t 3)], none, []⟩,
 ⟨none, (.store 1 (some 3)), [(.t 27), (.t 26)], none, []⟩] 0 [1, 2, 3, 4]))
 (.reg true [] [] [
 ⟨(some 15), .mv, [(.t 4)], none, []⟩,
 ⟨(some 16), (.bin 0 .add), [(.t 15), (.c (.int .i64 1))], none, []⟩,
 ⟨(some 4), .mv, [(.t 16)], none, []⟩] 0 [1, 2, 3, 4])))
def b14_1 : LCode :=
 (.seq
 (.seq
 (.reg true [] [] [
 ⟨(some 28), .mv, [(.t 5)], none, []⟩,
 ⟨(some 29), (.fa 2), [(.t 1)], none, []⟩,
 ⟨(some 30), (.load none), [(.t 29)], none, []⟩,
 ⟨(some 31), .len, [(.t 30)], none, []⟩,
 ⟨(some 32), (.bin 0 .lss), [(.t 28), (.t 31)], none, []⟩] 0 [1, 2, 3, 5, 32])
 (.cond (.t 32)
 .skip
 (.exit 2)))
 (.seq
 (.block 3
 (.reg true [42, 43, 44] [42, 43] [
 ⟨(some 35), (.fa 2), [(.t 3)], none, [37, 38, 39, 40, 41, 42, 43]⟩,
 ⟨(some 36), (.load none), [(.t 35)], none, [37, 38, 39, 40, 41, 42, 43]⟩,
 ⟨(some 37), (.fa 2), [(.t 1)], none, [35, 36, 39]⟩,
 ⟨(some 38), (.load none), [(.t 37)], none, [35, 36, 39]⟩,
 ⟨(some 39), .mv, [(.t 5)], none, [35, 36, 37, 38]⟩,
 ⟨(some 40), (.ixs 1), [(.t 38), (.t 39)], none, [35, 36]⟩,
 ⟨(some 41), (.load none), [(.t 40)], none, [35, 36]⟩,
 ⟨(some 42), (.call true false true), [(.f 53), (.t 41)], none, [35, 36]⟩,
 ⟨(some 43), (.bsl 1 [.nil] 1 [0]), [(.t 42)], none, [35, 36]⟩,
 ⟨(some 44), (.append false 1 24), [(.t 36), (.t 43)], none, []⟩,
 ⟨(some 45), (.fa 2), [(.t 3)], none, []⟩,
 ⟨none, (.store 1 (some 3)), [(.t 45), (.t 44)], none, []⟩] 0 [1, 2, 3, 5]))
 (.reg true [] [] [
 ⟨(some 33), .mv, [(.t 5)], none, []⟩,
 ⟨(some 34), (.bin 0 .add), [(.t 33), (.c (.int .i64 1))], none, []⟩,
 ⟨(some 5), .mv, [(.t 34)], none, []⟩] 0 [1, 2, 3, 5])))
def l14 : LFun := ⟨1, 47, [],
 (.seq
 (.reg false [1, 2] [1, 2] [
 ⟨(some 1), .box, [(.t 0)], none, []⟩,
 ⟨(some 2), (.alloc [(.sl none 1 []), (.sl none 1 []), (.sl none 1 [])]), [], none, []⟩] 0 [1, 2])
 (.seq
 (.reg false [8, 3] [8, 3] [
 ⟨(some 6), (.fa 0), [(.t 1)], none, []⟩,
 ⟨(some 7), (.load none), [(.t 6)], none, []⟩,
 ⟨(some 8), (.call false false true), [(.f 53), (.t 7)], none, []⟩,
 ⟨(some 9), (.build [(.sl none 1 []), (.sl (some 2002600) 1 []), (.sl (some 2004400) 1 [])] [(0, 1)]), [(.t 8)], none, []⟩,
 ⟨(some 3), (.alloc [(.sl none 1 []), (.sl (some 2002600) 1 []), (.sl (some 2004400) 1 [])]), [], none, []⟩,
 ⟨none, (.store 3 none), [(.t 3), (.t 9)], none, []⟩] 0 [1, 2, 3])
 (.seq
 (.seq
 (.reg false [] [] [
 ⟨(some 4), .mv, [(.c (.int .i64 0))], none, []⟩] 0 [1, 2, 3, 4])
 (.block 0
 (.loop b14_0)))
 (.seq
 (.seq
 (.reg false [] [] [
 ⟨(some 5), .mv, [(.c (.int .i64 0))], none, []⟩] 0 [1, 2, 3, 5])
 (.block 2
 (.loop b14_1)))
 (.seq
 (.reg false [] [] [
 ⟨(some 46), (.load (some 3)), [(.t 3)], none, []⟩,
 ⟨none, (.store 3 none), [(.t 2), (.t 46)], none, []⟩] 0 [2])
 .ret))))),
 [(.c 2 (some 3))]⟩
theorem c14 : funC Try.prog [(0, [1, 2]), (1, [1, 2, 3]), (2, [1, 2, 3, 4]), (3, [1, 2, 3, 4, 14]), (4, [1, 2, 3, 4]), (5, [1, 2, 3, 4]), (6, [1, 2, 3, 5]), (7, [1, 2, 3, 5, 32]), (8, [1, 2, 3, 5]), (9, [1, 2, 3, 5]), (10, [2])] Try.f14 = some (unF l14) := by kernel_rfl
/-- acme/zone.Check -/
def b15_0 : LCode :=
 (.seq
 (.reg true [] [] [
 ⟨(some 29), (.bin 0 .lss), [(.t 28), (.c (.int .i64 2))], none, []⟩] 0 [1, 27, 28, 29])
 (.seq
 (.cond (.t 29)
 .skip
 (.exit 0))
 (.seq
 (.block 1
 (.seq
 (.reg true [] [] [
 ⟨(some 30), (.idx 2 1 none), [(.t 27), (.t 28)], none, []⟩,
 ⟨(some 4), .mv, [(.t 30)], none, []⟩] 0 [1, 4, 27, 28])
 (.seq
 (.reg true [] [] [
 ⟨(some 31), .mv, [(.t 4)], none, []⟩,
 ⟨(some 32), (.mkf 57), [(.t 1)], none, []⟩,
 ⟨(some 33), (.call false false false), [(.f 56), (.t 31), (.t 32)], none, []⟩] 0 [1, 27, 28, 33])
 (.cond (.t 33)
 (.seq
 (.reg true [] [] [
 ⟨(some 2), .mv, [(.c (.int .i64 4))], none, []⟩] 0 [1, 2])
 .ret)
 .skip))))
 (.reg true [] [] [
 ⟨(some 34), (.bin 0 .add), [(.t 28), (.c (.int .i64 1))], none, []⟩,
 ⟨(some 28), .mv, [(.t 34)], none, []⟩] 0 [1, 27, 28]))))
def b15_1 : LCode :=
 (.seq
 (.reg true [] [] [
 ⟨(some 39), (.bin 0 .lss), [(.t 38), (.t 37)], none, []⟩] 0 [1, 5, 36, 37, 38, 39])
 (.seq
 (.cond (.t 39)
 .skip
 (.exit 2))
 (.seq
 (.block 3
 (.seq
 (.reg true [] [] [
 ⟨(some 40), (.ixs 1), [(.t 36), (.t 38)], none, []⟩,
 ⟨(some 41), (.load none), [(.t 40)], none, []⟩,
 ⟨(some 7), .mv, [(.t 41)], none, []⟩] 0 [1, 5, 7, 36, 37, 38])
 (.seq
 (.seq
 (.reg true [44] [44] [
 ⟨(some 42), .mv, [(.t 5)], none, []⟩,
 ⟨(some 43), .mv, [(.t 7)], none, []⟩,
 ⟨(some 44), (.bsl 1 [(.int .i64 0)] 1 [0]), [(.t 43)], none, []⟩,
 ⟨(some 45), (.call false false false), [(.f 58), (.t 42), (.c (.int .i64 10000000)), (.t 44)], none, []⟩,
 ⟨(some 46), (.un .not), [(.t 45)], none, []⟩] 0 [1, 7, 36, 37, 38, 46])
 (.cond (.t 46)
 (.seq
 (.reg true [] [] [
 ⟨(some 2), .mv, [(.c (.int .i64 2))], none, []⟩] 0 [1, 2])
 .ret)
 .skip))
 (.reg true [] [] [
 ⟨(some 47), .mv, [(.t 7)], none, []⟩,
 ⟨(some 48), (.bin 0 .add), [(.t 47), (.c (.int .i64 1))], none, []⟩,
 ⟨(some 5), .mv, [(.t 48)], none, []⟩] 0 [1, 5, 36, 37, 38]))))
 (.reg true [] [] [
 ⟨(some 49), (.bin 0 .add), [(.t 38), (.c (.int .i64 1))], none, []⟩,
 ⟨(some 38), .mv, [(.t 49)], none, []⟩] 0 [1, 5, 36, 37, 38]))))
def l15 : LFun := ⟨1, 74, [],
 (.seq
 (.reg false [1] [1] [
 ⟨(some 1), .box, [(.t 0)], none, []⟩,
 ⟨(some 2), .mv, [(.c (.int .i64 0))], none, []⟩] 0 [1])
 (.seq
 (.seq
 (.reg false [] [] [
 ⟨(some 10), (.fa 0), [(.t 1)], none, []⟩,
 ⟨(some 11), (.load none), [(.t 10)], none, []⟩,
 ⟨(some 12), (.call false false false), [(.f 54), (.t 11), (.c (.int .i64 20))], none, []⟩,
 ⟨(some 13), .mv, [(.t 12)], none, []⟩,
 ⟨(some 14), (.fa 1), [(.t 1)], (some (13, false)), []⟩,
 ⟨(some 15), (.load none), [(.t 14)], (some (13, false)), []⟩,
 ⟨(some 16), (.call false false false), [(.f 55), (.t 15), (.c (.int .i64 12))], (some (13, false)), []⟩,
 ⟨(some 17), .pick, [(.t 13), (.c (.bool true)), (.t 16)], none, []⟩,
 ⟨(some 18), .mv, [(.t 17)], none, []⟩,
 ⟨(some 19), (.fa 2), [(.t 1)], (some (18, false)), []⟩,
 ⟨(some 20), (.load none), [(.t 19)], (some (18, false)), []⟩,
 ⟨(some 21), (.call false false false), [(.f 55), (.t 20), (.c (.int .i64 12))], (some (18, false)), []⟩,
 ⟨(some 22), .pick, [(.t 18), (.c (.bool true)), (.t 21)], none, []⟩] 0 [1, 22])
 (.cond (.t 22)
 (.seq
 (.reg false [] [] [
 ⟨(some 2), .mv, [(.c (.int .i64 5))], none, []⟩] 0 [1, 2])
 .ret)
 .skip))
 (.seq
 (.seq
 (.reg false [] [] [
 ⟨(some 23), (.fa 1), [(.t 1)], none, []⟩,
 ⟨(some 24), (.load none), [(.t 23)], none, []⟩,
 ⟨(some 25), (.fa 2), [(.t 1)], none, []⟩,
 ⟨(some 26), (.load none), [(.t 25)], none, []⟩,
 ⟨(some 27), (.build [(.sl none 1 []), (.sl none 1 [])] [(0, 1), (1, 1)]), [(.t 24), (.t 26)], none, []⟩,
 ⟨(some 28), .mv, [(.c (.int .i64 0))], none, []⟩] 0 [1, 27, 28])
 (.block 0
 (.loop b15_0)))
 (.seq
 (.reg false [] [] [
 ⟨(some 5), .mv, [(.c (.int .i64 1))], none, []⟩] 0 [1, 5])
 (.seq
 (.seq
 (.reg false [] [] [
 ⟨(some 35), (.fa 0), [(.t 1)], none, []⟩,
 ⟨(some 36), (.load none), [(.t 35)], none, []⟩,
 ⟨(some 37), .len, [(.t 36)], none, []⟩,
 ⟨(some 38), .mv, [(.c (.int .i64 0))], none, []⟩] 0 [1, 5, 36, 37, 38])
 (.block 2
 (.loop b15_1)))
 (.seq
 (.reg false [52, 55] [52, 55] [
 ⟨(some 50), (.fa 1), [(.t 1)], none, [53, 54]⟩,
 ⟨(some 51), (.load none), [(.t 50)], none, [53, 54]⟩,
 ⟨(some 52), (.call true false true), [(.f 59), (.t 51)], none, [53, 54]⟩,
 ⟨(some 53), (.fa 2), [(.t 1)], none, [50, 51, 52]⟩,
 ⟨(some 54), (.load none), [(.t 53)], none, [50, 51, 52]⟩,
 ⟨(some 55), (.call true false true), [(.f 59), (.t 54)], none, []⟩,
 ⟨(some 8), .mv, [(.t 52)], none, []⟩,
 ⟨(some 9), .mv, [(.t 55)], none, []⟩] 0 [1, 8, 9])
 (.seq
 (.seq
 (.reg false [] [] [
 ⟨(some 56), .mv, [(.t 8)], none, []⟩,
 ⟨(some 57), .len, [(.t 56)], none, []⟩,
 ⟨(some 58), (.bin 0 .eql), [(.t 57), (.c (.int .i64 0))], none, []⟩,
 ⟨(some 59), .mv, [(.t 58)], none, []⟩,
 ⟨(some 60), .mv, [(.t 9)], (some (59, false)), []⟩,
 ⟨(some 61), .len, [(.t 60)], (some (59, false)), []⟩,
 ⟨(some 62), (.bin 0 .eql), [(.t 61), (.c (.int .i64 0))], (some (59, false)), []⟩,
 ⟨(some 63), .pick, [(.t 59), (.c (.bool true)), (.t 62)], none, []⟩,
 ⟨(some 64), .mv, [(.t 63)], none, []⟩,
 ⟨(some 65), .mv, [(.t 8)], (some (64, false)), []⟩,
 ⟨(some 66), (.call false false false), [(.f 58), (.c (.int .i64 0)), (.c (.int .i64 100000)), (.t 65)], (some (64, false)), []⟩,
 ⟨(some 67), (.un .not), [(.t 66)], (some (64, false)), []⟩,
 ⟨(some 68), .pick, [(.t 64), (.c (.bool true)), (.t 67)], none, []⟩,
 ⟨(some 69), .mv, [(.t 68)], none, []⟩,
 ⟨(some 70), .mv, [(.t 9)], (some (69, false)), []⟩,
 ⟨(some 71), (.call false false false), [(.f 58), (.c (.int .i64 (-100000))), (.c (.int .i64 100000)), (.t 70)], (some (69, false)), []⟩,
 ⟨(some 72), (.un .not), [(.t 71)], (some (69, false)), []⟩,
 ⟨(some 73), .pick, [(.t 69), (.c (.bool true)), (.t 72)], none, []⟩] 0 [1, 73])
 (.cond (.t 73)
 (.seq
 (.reg false [] [] [
 ⟨(some 2), .mv, [(.c (.int .i64 2))], none, []⟩] 0 [1, 2])
 .ret)
 .skip))
 (.seq
 (.reg false [] [] [
 ⟨(some 2), .mv, [(.c (.int .i64 0))], none, []⟩] 0 [1, 2])
 .ret)))))))),
 [(.t 2)]⟩
theorem c15 : funC Try.prog [(0, [1]), (1, [1, 22]), (2, [1, 2]), (3, [1, 27, 28]), (4, [1, 27, 28, 29]), (5, [1, 4, 27, 28]), (6, [1, 27, 28, 33]), (7, [1, 2]), (8, [1, 27, 28]), (9, [1, 5]), (10, [1, 5, 36, 37, 38]), (11, [1, 5, 36, 37, 38, 39]), (12, [1, 5, 7, 36, 37, 38]), (13, [1, 7, 36, 37, 38, 46]), (14, [1, 2]), (15, [1, 5, 36, 37, 38]), (16, [1, 5, 36, 37, 38]), (17, [1, 8, 9]), (18, [1, 73]), (19, [1, 2]), (20, [1, 2])] Try.f15 = some (unF l15) := by kernel_rfl
/-- acme/zone.Limits -/
def l16 : LFun := ⟨4, 33, [],
 (.seq
 (.reg false [4, 5, 8] [4, 5, 8] [
 ⟨(some 4), .box, [(.t 0)], none, []⟩,
 ⟨(some 5), .box, [(.t 1)], none, []⟩,
 ⟨(some 8), (.alloc [(.int .i64 0), (.int .i64 0)]), [], none, []⟩,
 ⟨(some 9), .mv, [(.c (.int .i64 0))], none, []⟩] 0 [2, 3, 4, 5, 8])
 (.seq
 (.reg false [17, 18, 10] [17, 18, 10] [
 ⟨(some 14), (.load (some 3)), [(.t 4)], none, []⟩,
 ⟨(some 15), .mv, [(.t 3)], none, []⟩,
 ⟨(some 16), (.load (some 2)), [(.t 5)], none, []⟩,
 ⟨(some 17), (.bsl 2 [(.int .i64 0), (.int .i64 0)] 1 [0]), [(.t 16)], none, []⟩,
 ⟨(some 18), (.call false true true), [(.f 60), (.t 14), (.t 15), (.t 17)], none, []⟩,
 ⟨(some 13), .mv, [(.t 18)], none, []⟩,
 ⟨(some 19), (.ext 0), [(.t 13)], none, []⟩,
 ⟨(some 20), (.ext 1), [(.t 13)], none, []⟩,
 ⟨(some 21), (.ext 2), [(.t 13)], none, []⟩,
 ⟨(some 10), (.alloc [(.sl none 1 []), (.sl none 1 []), (.sl none 1 [])]), [], none, []⟩,
 ⟨none, (.store 3 none), [(.t 10), (.t 19)], none, []⟩,
 ⟨(some 11), .mv, [(.t 20)], none, []⟩,
 ⟨(some 12), .mv, [(.t 21)], none, []⟩] 0 [2, 3, 5, 8, 10, 11, 12])
 (.seq
 (.seq
 (.reg false [] [] [
 ⟨(some 22), .mv, [(.t 12)], none, []⟩,
 ⟨(some 23), (.bin 0 .neq), [(.t 22), (.c (.int .i64 0))], none, []⟩] 0 [2, 3, 5, 8, 10, 11, 12, 23])
 (.cond (.t 23)
 (.seq
 (.reg false [] [] [
 ⟨(some 24), (.build [(.int .i64 0), (.int .i64 0)] []), [], none, []⟩,
 ⟨(some 25), .mv, [(.t 12)], none, []⟩,
 ⟨none, (.store 2 none), [(.t 8), (.t 24)], none, []⟩,
 ⟨(some 9), .mv, [(.t 25)], none, []⟩] 0 [8, 9])
 .ret)
 .skip))
 (.seq
 (.reg false [] [] [
 ⟨(some 26), (.load (some 3)), [(.t 10)], none, []⟩,
 ⟨(some 27), (.load (some 2)), [(.t 5)], none, []⟩,
 ⟨(some 28), .mv, [(.t 2)], none, []⟩,
 ⟨(some 29), .mv, [(.t 3)], none, []⟩,
 ⟨(some 30), .mv, [(.t 11)], none, []⟩,
 ⟨(some 31), (.call false false false), [(.f 61), (.t 26), (.t 27), (.t 28), (.t 29), (.t 30)], none, []⟩,
 ⟨(some 32), (.fld 0 (some 2)), [(.t 31)], none, []⟩,
 ⟨none, (.store 2 none), [(.t 8), (.t 32)], none, []⟩,
 ⟨(some 9), .mv, [(.c (.int .i64 0))], none, []⟩] 0 [8, 9])
 .ret)))),
 [(.c 8 (some 2)), (.t 9)]⟩
theorem c16 : funC Try.prog [(0, [2, 3, 4, 5, 8]), (1, [2, 3, 5, 8, 10, 11, 12]), (2, [2, 3, 5, 8, 10, 11, 12, 23]), (3, [8, 9]), (4, [8, 9])] Try.f16 = some (unF l16) := by kernel_rfl
/-- acme/acmelaw02.class -/
def l17 : LFun := ⟨2, 8, [],
 (.seq
 (.reg false [4] [4] [
 ⟨(some 4), (.alloc [(.int .i64 0), (.int .i64 0)]), [], none, []⟩] 0 [0, 1, 4])
 (.seq
 (.reg false [] [] [
 ⟨(some 5), .mv, [(.t 0)], none, []⟩,
 ⟨(some 6), .mv, [(.t 1)], none, []⟩,
 ⟨(some 7), (.build [(.int .i64 0), (.int .i64 0)] [(0, 1), (1, 1)]), [(.t 5), (.t 6)], none, []⟩,
 ⟨none, (.store 2 none), [(.t 4), (.t 7)], none, []⟩] 0 [4])
 .ret)),
 [(.c 4 (some 2))]⟩
theorem c17 : funC Try.prog [(0, [0, 1, 4]), (1, [4])] Try.f17 = some (unF l17) := by kernel_rfl
/-- acme/acmeref02.Limits -/
def l18 : LFun := ⟨4, 39, [],
 (.seq
 (.reg false [4, 5, 8] [4, 5, 8] [
 ⟨(some 4), .box, [(.t 0)], none, []⟩,
 ⟨(some 5), .box, [(.t 1)], none, []⟩,
 ⟨(some 8), (.alloc [(.int .i64 0), (.int .i64 0)]), [], none, []⟩,
 ⟨(some 9), .mv, [(.c (.int .i64 0))], none, []⟩] 0 [2, 3, 4, 5, 8])
 (.seq
 (.seq
 (.reg false [] [] [
 ⟨(some 13), (.load (some 3)), [(.t 4)], none, []⟩,
 ⟨(some 14), (.call false false false), [(.f 20), (.t 13)], none, []⟩,
 ⟨(some 10), .mv, [(.t 14)], none, []⟩] 0 [2, 3, 4, 5, 8, 10])
 (.seq
 (.reg false [] [] [
 ⟨(some 15), .mv, [(.t 10)], none, []⟩,
 ⟨(some 16), (.bin 0 .neq), [(.t 15), (.c (.int .i64 0))], none, []⟩] 0 [2, 3, 4, 5, 8, 10, 16])
 (.cond (.t 16)
 (.seq
 (.reg false [] [] [
 ⟨(some 17), (.build [(.int .i64 0), (.int .i64 0)] []), [], none, []⟩,
 ⟨(some 18), .mv, [(.t 10)], none, []⟩,
 ⟨none, (.store 2 none), [(.t 8), (.t 17)], none, []⟩,
 ⟨(some 9), .mv, [(.t 18)], none, []⟩] 0 [8, 9])
 .ret)
 .skip)))
 (.seq
 (.seq
 (.reg false [] [] [
 ⟨(some 19), (.load (some 3)), [(.t 4)], none, []⟩,
 ⟨(some 20), (.load (some 2)), [(.t 5)], none, []⟩,
 ⟨(some 21), (.call false false false), [(.f 38), (.t 19), (.t 20)], none, []⟩,
 ⟨(some 22), (.un .not), [(.t 21)], none, []⟩] 0 [2, 3, 4, 5, 8, 22])
 (.cond (.t 22)
 (.seq
 (.reg false [] [] [
 ⟨(some 23), (.build [(.int .i64 0), (.int .i64 0)] []), [], none, []⟩,
 ⟨none, (.store 2 none), [(.t 8), (.t 23)], none, []⟩,
 ⟨(some 9), .mv, [(.c (.int .i64 7))], none, []⟩] 0 [8, 9])
 .ret)
 .skip))
 (.seq
 (.reg false [] [] [
 ⟨(some 25), (.load (some 3)), [(.t 4)], none, []⟩,
 ⟨(some 26), .mv, [(.t 3)], none, []⟩,
 ⟨(some 27), (.call false false false), [(.f 35), (.t 25), (.t 26)], none, []⟩,
 ⟨(some 24), .mv, [(.t 27)], none, []⟩,
 ⟨(some 28), (.ext 0), [(.t 24)], none, []⟩,
 ⟨(some 29), (.ext 1), [(.t 24)], none, []⟩,
 ⟨(some 11), .mv, [(.t 28)], none, []⟩,
 ⟨(some 12), .mv, [(.t 29)], none, []⟩] 0 [2, 3, 4, 5, 8, 11, 12])
 (.seq
 (.seq
 (.reg false [] [] [
 ⟨(some 30), .mv, [(.t 12)], none, []⟩,
 ⟨(some 31), (.un .not), [(.t 30)], none, []⟩] 0 [2, 3, 4, 5, 8, 11, 31])
 (.cond (.t 31)
 (.seq
 (.reg false [] [] [
 ⟨(some 32), (.build [(.int .i64 0), (.int .i64 0)] []), [], none, []⟩,
 ⟨none, (.store 2 none), [(.t 8), (.t 32)], none, []⟩,
 ⟨(some 9), .mv, [(.c (.int .i64 3))], none, []⟩] 0 [8, 9])
 .ret)
 .skip))
 (.seq
 (.reg false [] [] [
 ⟨(some 33), (.load (some 3)), [(.t 4)], none, []⟩,
 ⟨(some 34), (.load (some 2)), [(.t 5)], none, []⟩,
 ⟨(some 35), .mv, [(.t 2)], none, []⟩,
 ⟨(some 36), .mv, [(.t 3)], none, []⟩,
 ⟨(some 37), .mv, [(.t 11)], none, []⟩,
 ⟨(some 38), (.call false false false), [(.f 62), (.t 33), (.t 34), (.t 35), (.t 36), (.t 37)], none, []⟩,
 ⟨none, (.store 2 none), [(.t 8), (.t 38)], none, []⟩,
 ⟨(some 9), .mv, [(.c (.int .i64 0))], none, []⟩] 0 [8, 9])
 .ret)))))),
 [(.c 8 (some 2)), (.t 9)]⟩
theorem c18 : funC Try.prog [(0, [2, 3, 4, 5, 8]), (1, [2, 3, 4, 5, 8, 10]), (2, [2, 3, 4, 5, 8, 10, 16]), (3, [8, 9]), (4, [2, 3, 4, 5, 8, 22]), (5, [8, 9]), (6, [2, 3, 4, 5, 8, 11, 12]), (7, [2, 3, 4, 5, 8, 11, 31]), (8, [8, 9]), (9, [8, 9])] Try.f18 = some (unF l18) := by kernel_rfl
/-- acme/acmelaw02.same -/
def b19_0 : LCode :=
 (.seq
 (.seq
 (.reg true [] [] [
 ⟨(some 31), .mv, [(.t 5)], none, []⟩,
 ⟨(some 32), (.fa 1), [(.t 2)], none, []⟩,
 ⟨(some 33), (.load none), [(.t 32)], none, []⟩,
 ⟨(some 34), .len, [(.t 33)], none, []⟩,
 ⟨(some 35), (.bin 0 .lss), [(.t 31), (.t 34)], none, []⟩] 0 [2, 3, 5, 35])
 (.cond (.t 35)
 .skip
 (.exit 0)))
 (.seq
 (.block 1
 (.seq
 (.reg true [] [] [
 ⟨(some 38), (.fa 1), [(.t 2)], none, [40, 43, 44, 45, 46, 47]⟩,
 ⟨(some 39), (.load none), [(.t 38)], none, [40, 43, 44, 45, 46, 47]⟩,
 ⟨(some 40), .mv, [(.t 5)], none, [38, 39, 43, 44, 45, 46, 47]⟩,
 ⟨(some 41), (.ixs 1), [(.t 39), (.t 40)], none, [43, 44, 45, 46, 47]⟩,
 ⟨(some 42), (.load none), [(.t 41)], none, [43, 44, 45, 46, 47]⟩,
 ⟨(some 43), (.fa 1), [(.t 3)], none, [38, 39, 40, 41, 42, 45]⟩,
 ⟨(some 44), (.load none), [(.t 43)], none, [38, 39, 40, 41, 42, 45]⟩,
 ⟨(some 45), .mv, [(.t 5)], none, [38, 39, 40, 41, 42, 43, 44]⟩,
 ⟨(some 46), (.ixs 1), [(.t 44), (.t 45)], none, [38, 39, 40, 41, 42]⟩,
 ⟨(some 47), (.load none), [(.t 46)], none, [38, 39, 40, 41, 42]⟩,
 ⟨(some 48), (.call true false false), [(.f 63), (.t 42), (.t 47)], none, []⟩,
 ⟨(some 49), (.un .not), [(.t 48)], none, []⟩] 0 [2, 3, 5, 49])
 (.cond (.t 49)
 (.seq
 (.reg true [] [] [
 ⟨(some 4), .mv, [(.c (.bool false))], none, []⟩] 0 [4])
 .ret)
 .skip)))
 (.reg true [] [] [
 ⟨(some 36), .mv, [(.t 5)], none, []⟩,
 ⟨(some 37), (.bin 0 .add), [(.t 36), (.c (.int .i64 1))], none, []⟩,
 ⟨(some 5), .mv, [(.t 37)], none, []⟩] 0 [2, 3, 5])))
def b19_1 : LCode :=
 (.seq
 (.seq
 (.reg true [] [] [
 ⟨(some 50), .mv, [(.t 6)], none, []⟩,
 ⟨(some 51), (.fa 2), [(.t 2)], none, []⟩,
 ⟨(some 52), (.load none), [(.t 51)], none, []⟩,
 ⟨(some 53), .len, [(.t 52)], none, []⟩,
 ⟨(some 54), (.bin 0 .lss), [(.t 50), (.t 53)], none, []⟩] 0 [2, 3, 6, 54])
 (.cond (.t 54)
 .skip
 (.exit 2)))
 (.seq
 (.block 3
 (.seq
 (.reg true [] [] [
 ⟨(some 57), (.fa 2), [(.t 2)], none, [59, 62, 63, 64, 65, 66]⟩,
 ⟨(some 58), (.load none), [(.t 57)], none, [59, 62, 63, 64, 65, 66]⟩,
 ⟨(some 59), .mv, [(.t 6)], none, [57, 58, 62, 63, 64, 65, 66]⟩,
 ⟨(some 60), (.ixs 1), [(.t 58), (.t 59)], none, [62, 63, 64, 65, 66]⟩,
 ⟨(some 61), (.load none), [(.t 60)], none, [62, 63, 64, 65, 66]⟩,
 ⟨(some 62), (.fa 2), [(.t 3)], none, [57, 58, 59, 60, 61, 64]⟩,
 ⟨(some 63), (.load none), [(.t 62)], none, [57, 58, 59, 60, 61, 64]⟩,
 ⟨(some 64), .mv, [(.t 6)], none, [57, 58, 59, 60, 61, 62, 63]⟩,
 ⟨(some 65), (.ixs 1), [(.t 63), (.t 64)], none, [57, 58, 59, 60, 61]⟩,
 ⟨(some 66), (.load none), [(.t 65)], none, [57, 58, 59, 60, 61]⟩,
 ⟨(some 67), (.call true false false), [(.f 63), (.t 61), (.t 66)], none, []⟩,
 ⟨(some 68), (.un .not), [(.t 67)], none, []⟩] 0 [2, 3, 6, 68])
 (.cond (.t 68)
 (.seq
 (.reg true [] [] [
 ⟨(some 4), .mv, [(.c (.bool false))], none, []⟩] 0 [4])
 .ret)
 .skip)))
 (.reg true [] [] [
 ⟨(some 55), .mv, [(.t 6)], none, []⟩,
 ⟨(some 56), (.bin 0 .add), [(.t 55), (.c (.int .i64 1))], none, []⟩,
 ⟨(some 6), .mv, [(.t 56)], none, []⟩] 0 [2, 3, 6])))
def l19 : LFun := ⟨2, 69, [],
 (.seq
 (.reg false [2, 3] [2, 3] [
 ⟨(some 2), .box, [(.t 0)], none, []⟩,
 ⟨(some 3), .box, [(.t 1)], none, []⟩,
 ⟨(some 4), .mv, [(.c (.bool false))], none, []⟩] 0 [2, 3])
 (.seq
 (.seq
 (.reg false [] [] [
 ⟨(some 7), (.fa 0), [(.t 2)], none, []⟩,
 ⟨(some 8), (.load none), [(.t 7)], none, []⟩,
 ⟨(some 9), (.fa 0), [(.t 3)], none, []⟩,
 ⟨(some 10), (.load none), [(.t 9)], none, []⟩,
 ⟨(some 11), (.call false false false), [(.f 63), (.t 8), (.t 10)], none, []⟩,
 ⟨(some 12), (.un .not), [(.t 11)], none, []⟩,
 ⟨(some 13), .mv, [(.t 12)], none, []⟩,
 ⟨(some 14), (.fa 1), [(.t 2)], (some (13, false)), []⟩,
 ⟨(some 15), (.load none), [(.t 14)], (some (13, false)), []⟩,
 ⟨(some 16), .len, [(.t 15)], (some (13, false)), []⟩,
 ⟨(some 17), (.fa 1), [(.t 3)], (some (13, false)), []⟩,
 ⟨(some 18), (.load none), [(.t 17)], (some (13, false)), []⟩,
 ⟨(some 19), .len, [(.t 18)], (some (13, false)), []⟩,
 ⟨(some 20), (.bin 0 .neq), [(.t 16), (.t 19)], (some (13, false)), []⟩,
 ⟨(some 21), .pick, [(.t 13), (.c (.bool true)), (.t 20)], none, []⟩,
 ⟨(some 22), .mv, [(.t 21)], none, []⟩,
 ⟨(some 23), (.fa 2), [(.t 2)], (some (22, false)), []⟩,
 ⟨(some 24), (.load none), [(.t 23)], (some (22, false)), []⟩,
 ⟨(some 25), .len, [(.t 24)], (some (22, false)), []⟩,
 ⟨(some 26), (.fa 2), [(.t 3)], (some (22, false)), []⟩,
 ⟨(some 27), (.load none), [(.t 26)], (some (22, false)), []⟩,
 ⟨(some 28), .len, [(.t 27)], (some (22, false)), []⟩,
 ⟨(some 29), (.bin 0 .neq), [(.t 25), (.t 28)], (some (22, false)), []⟩,
 ⟨(some 30), .pick, [(.t 22), (.c (.bool true)), (.t 29)], none, []⟩] 0 [2, 3, 30])
 (.cond (.t 30)
 (.seq
 (.reg false [] [] [
 ⟨(some 4), .mv, [(.c (.bool false))], none, []⟩] 0 [4])
 .ret)
 .skip))
 (.seq
 (.seq
 (.reg false [] [] [
 ⟨(some 5), .mv, [(.c (.int .i64 0))], none, []⟩] 0 [2, 3, 5])
 (.block 0
 (.loop b19_0)))
 (.seq
 (.seq
 (.reg false [] [] [
 ⟨(some 6), .mv, [(.c (.int .i64 0))], none, []⟩] 0 [2, 3, 6])
 (.block 2
 (.loop b19_1)))
 (.seq
 (.reg false [] [] [
 ⟨(some 4), .mv, [(.c (.bool true))], none, []⟩] 0 [4])
 .ret))))),
 [(.t 4)]⟩
theorem c19 : funC Try.prog [(0, [2, 3]), (1, [2, 3, 30]), (2, [4]), (3, [2, 3, 5]), (4, [2, 3, 5, 35]), (5, [2, 3, 5]), (6, [2, 3, 5, 49]), (7, [4]), (8, [2, 3, 6]), (9, [2, 3, 6, 54]), (10, [2, 3, 6]), (11, [2, 3, 6, 68]), (12, [4]), (13, [4])] Try.f19 = some (unF l19) := by kernel_rfl
/-- acme/acmeref02.Check -/
def b20_0 : LCode :=
 (.seq
 (.seq
 (.reg true [] [] [
 ⟨(some 36), .mv, [(.t 3)], none, []⟩,
 ⟨(some 37), (.fa 0), [(.t 1)], none, []⟩,
 ⟨(some 38), (.load none), [(.t 37)], none, []⟩,
 ⟨(some 39), .len, [(.t 38)], none, []⟩,
 ⟨(some 40), (.bin 0 .lss), [(.t 36), (.t 39)], none, []⟩] 0 [1, 3, 40])
 (.cond (.t 40)
 .skip
 (.exit 0)))
 (.seq
 (.block 1
 (.seq
 (.reg true [] [] [
 ⟨(some 43), (.fa 0), [(.t 1)], none, [45]⟩,
 ⟨(some 44), (.load none), [(.t 43)], none, [45]⟩,
 ⟨(some 45), .mv, [(.t 3)], none, [43, 44]⟩,
 ⟨(some 46), (.ixs 1), [(.t 44), (.t 45)], none, []⟩,
 ⟨(some 47), (.load none), [(.t 46)], none, []⟩,
 ⟨(some 48), (.call true false false), [(.f 65), (.t 47), (.c (.int .i64 1)), (.c (.int .i64 10000000))], none, []⟩,
 ⟨(some 49), (.un .not), [(.t 48)], none, []⟩,
 ⟨(some 50), .mv, [(.t 49)], none, []⟩,
 ⟨(some 51), .mv, [(.t 3)], (some (50, false)), []⟩,
 ⟨(some 52), (.bin 0 .gtr), [(.t 51), (.c (.int .i64 0))], (some (50, false)), []⟩,
 ⟨(some 53), .mv, [(.t 52)], (some (50, false)), []⟩,
 ⟨(some 54), (.fa 0), [(.t 1)], (some (53, true)), [56, 59, 60, 61, 62, 63, 64]⟩,
 ⟨(some 55), (.load none), [(.t 54)], (some (53, true)), [56, 59, 60, 61, 62, 63, 64]⟩,
 ⟨(some 56), .mv, [(.t 3)], (some (53, true)), [54, 55, 59, 60, 61, 62, 63, 64]⟩,
 ⟨(some 57), (.ixs 1), [(.t 55), (.t 56)], (some (53, true)), [59, 60, 61, 62, 63, 64]⟩,
 ⟨(some 58), (.load none), [(.t 57)], (some (53, true)), [59, 60, 61, 62, 63, 64]⟩,
 ⟨(some 59), (.fa 0), [(.t 1)], (some (53, true)), [54, 55, 56, 57, 58, 61, 62]⟩,
 ⟨(some 60), (.load none), [(.t 59)], (some (53, true)), [54, 55, 56, 57, 58, 61, 62]⟩,
 ⟨(some 61), .mv, [(.t 3)], (some (53, true)), [54, 55, 56, 57, 58, 59, 60]⟩,
 ⟨(some 62), (.bin 0 .sub), [(.t 61), (.c (.int .i64 1))], (some (53, true)), [54, 55, 56, 57, 58, 59, 60]⟩,
 ⟨(some 63), (.ixs 1), [(.t 60), (.t 62)], (some (53, true)), [54, 55, 56, 57, 58]⟩,
 ⟨(some 64), (.load none), [(.t 63)], (some (53, true)), [54, 55, 56, 57, 58]⟩,
 ⟨(some 65), (.bin 0 .leq), [(.t 58), (.t 64)], (some (53, true)), []⟩,
 ⟨(some 66), .pick, [(.t 53), (.t 65), (.c (.bool false))], (some (50, false)), []⟩,
 ⟨(some 67), .pick, [(.t 50), (.c (.bool true)), (.t 66)], none, []⟩] 0 [1, 3, 67])
 (.cond (.t 67)
 (.seq
 (.reg true [] [] [
 ⟨(some 2), .mv, [(.c (.int .i64 2))], none, []⟩] 0 [2])
 .ret)
 .skip)))
 (.reg true [] [] [
 ⟨(some 41), .mv, [(.t 3)], none, []⟩,
 ⟨(some 42), (.bin 0 .add), [(.t 41), (.c (.int .i64 1))], none, []⟩,
 ⟨(some 3), .mv, [(.t 42)], none, []⟩] 0 [1, 3])))
def l20 : LFun := ⟨1, 84, [],
 (.seq
 (.reg false [1] [1] [
 ⟨(some 1), .box, [(.t 0)], none, []⟩,
 ⟨(some 2), .mv, [(.c (.int .i64 0))], none, []⟩] 0 [1])
 (.seq
 (.seq
 (.reg false [] [] [
 ⟨(some 4), (.fa 0), [(.t 1)], none, []⟩,
 ⟨(some 5), (.load none), [(.t 4)], none, []⟩,
 ⟨(some 6), .len, [(.t 5)], none, []⟩,
 ⟨(some 7), (.bin 0 .gtr), [(.t 6), (.c (.int .i64 20))], none, []⟩,
 ⟨(some 8), .mv, [(.t 7)], none, []⟩,
 ⟨(some 9), (.fa 1), [(.t 1)], (some (8, false)), []⟩,
 ⟨(some 10), (.load none), [(.t 9)], (some (8, false)), []⟩,
 ⟨(some 11), .len, [(.t 10)], (some (8, false)), []⟩,
 ⟨(some 12), (.bin 0 .gtr), [(.t 11), (.c (.int .i64 12))], (some (8, false)), []⟩,
 ⟨(some 13), .pick, [(.t 8), (.c (.bool true)), (.t 12)], none, []⟩,
 ⟨(some 14), .mv, [(.t 13)], none, []⟩,
 ⟨(some 15), (.fa 2), [(.t 1)], (some (14, false)), []⟩,
 ⟨(some 16), (.load none), [(.t 15)], (some (14, false)), []⟩,
 ⟨(some 17), .len, [(.t 16)], (some (14, false)), []⟩,
 ⟨(some 18), (.bin 0 .gtr), [(.t 17), (.c (.int .i64 12))], (some (14, false)), []⟩,
 ⟨(some 19), .pick, [(.t 14), (.c (.bool true)), (.t 18)], none, []⟩] 0 [1, 19])
 (.cond (.t 19)
 (.seq
 (.reg false [] [] [
 ⟨(some 2), .mv, [(.c (.int .i64 5))], none, []⟩] 0 [2])
 .ret)
 .skip))
 (.seq
 (.seq
 (.reg false [] [] [
 ⟨(some 20), (.fa 1), [(.t 1)], none, []⟩,
 ⟨(some 21), (.load none), [(.t 20)], none, []⟩,
 ⟨(some 22), (.fa 0), [(.t 1)], none, []⟩,
 ⟨(some 23), (.load none), [(.t 22)], none, []⟩,
 ⟨(some 24), .len, [(.t 23)], none, []⟩,
 ⟨(some 25), (.call false false false), [(.f 64), (.t 21), (.t 24), (.c (.int .i64 0)), (.c (.bool true))], none, []⟩,
 ⟨(some 26), (.bin 0 .neq), [(.t 25), (.c (.int .i64 0))], none, []⟩,
 ⟨(some 27), .mv, [(.t 26)], none, []⟩,
 ⟨(some 28), (.fa 2), [(.t 1)], (some (27, false)), []⟩,
 ⟨(some 29), (.load none), [(.t 28)], (some (27, false)), []⟩,
 ⟨(some 30), (.fa 0), [(.t 1)], (some (27, false)), []⟩,
 ⟨(some 31), (.load none), [(.t 30)], (some (27, false)), []⟩,
 ⟨(some 32), .len, [(.t 31)], (some (27, false)), []⟩,
 ⟨(some 33), (.call false false false), [(.f 64), (.t 29), (.t 32), (.c (.int .i64 0)), (.c (.bool true))], (some (27, false)), []⟩,
 ⟨(some 34), (.bin 0 .neq), [(.t 33), (.c (.int .i64 0))], (some (27, false)), []⟩,
 ⟨(some 35), .pick, [(.t 27), (.c (.bool true)), (.t 34)], none, []⟩] 0 [1, 35])
 (.cond (.t 35)
 (.seq
 (.reg false [] [] [
 ⟨(some 2), .mv, [(.c (.int .i64 4))], none, []⟩] 0 [2])
 .ret)
 .skip))
 (.seq
 (.seq
 (.reg false [] [] [
 ⟨(some 3), .mv, [(.c (.int .i64 0))], none, []⟩] 0 [1, 3])
 (.block 0
 (.loop b20_0)))
 (.seq
 (.seq
 (.reg false [] [] [
 ⟨(some 68), (.fa 0), [(.t 1)], none, []⟩,
 ⟨(some 69), (.load none), [(.t 68)], none, []⟩,
 ⟨(some 70), .len, [(.t 69)], none, []⟩,
 ⟨(some 71), (.bin 0 .eql), [(.t 70), (.c (.int .i64 0))], none, []⟩,
 ⟨(some 72), .mv, [(.t 71)], none, []⟩,
 ⟨(some 73), (.fa 1), [(.t 1)], (some (72, false)), []⟩,
 ⟨(some 74), (.load none), [(.t 73)], (some (72, false)), []⟩,
 ⟨(some 75), (.call false false false), [(.f 64), (.t 74), (.c (.int .i64 0)), (.c (.int .i64 0)), (.c (.bool false))], (some (72, false)), []⟩,
 ⟨(some 76), (.bin 0 .neq), [(.t 75), (.c (.int .i64 0))], (some (72, false)), []⟩,
 ⟨(some 77), .pick, [(.t 72), (.c (.bool true)), (.t 76)], none, []⟩,
 ⟨(some 78), .mv, [(.t 77)], none, []⟩,
 ⟨(some 79), (.fa 2), [(.t 1)], (some (78, false)), []⟩,
 ⟨(some 80), (.load none), [(.t 79)], (some (78, false)), []⟩,
 ⟨(some 81), (.call false false false), [(.f 64), (.t 80), (.c (.int .i64 0)), (.c (.int .i64 (-100000))), (.c (.bool false))], (some (78, false)), []⟩,
 ⟨(some 82), (.bin 0 .neq), [(.t 81), (.c (.int .i64 0))], (some (78, false)), []⟩,
 ⟨(some 83), .pick, [(.t 78), (.c (.bool true)), (.t 82)], none, []⟩] 0 [83])
 (.cond (.t 83)
 (.seq
 (.reg false [] [] [
 ⟨(some 2), .mv, [(.c (.int .i64 2))], none, []⟩] 0 [2])
 .ret)
 .skip))
 (.seq
 (.reg false [] [] [
 ⟨(some 2), .mv, [(.c (.int .i64 0))], none, []⟩] 0 [2])
 .ret)))))),
 [(.t 2)]⟩
theorem c20 : funC Try.prog [(0, [1]), (1, [1, 19]), (2, [2]), (3, [1, 35]), (4, [2]), (5, [1, 3]), (6, [1, 3, 40]), (7, [1, 3]), (8, [1, 3, 67]), (9, [2]), (10, [83]), (11, [2]), (12, [2])] Try.f20 = some (unF l20) := by kernel_rfl
/-- acme/zone.Before -/
def l21 : LFun := ⟨3, 44, [],
 (.seq
 (.reg false [3, 5, 6] [3, 5, 6] [
 ⟨(some 3), .box, [(.t 0)], none, []⟩,
 ⟨(some 5), .box, [(.t 2)], none, []⟩,
 ⟨(some 6), (.alloc [(.int .i64 0), (.int .i64 0)]), [], none, []⟩,
 ⟨(some 7), .mv, [(.c (.int .i64 0))], none, []⟩] 0 [1, 3, 5, 6])
 (.seq
 (.reg false [8] [8] [
 ⟨(some 10), (.load (some 2)), [(.t 3)], none, []⟩,
 ⟨(some 11), .mv, [(.t 1)], none, []⟩,
 ⟨(some 12), (.load (some 4)), [(.t 5)], none, []⟩,
 ⟨(some 13), (.call false false false), [(.f 66), (.t 10), (.t 11), (.t 12)], none, []⟩,
 ⟨(some 9), .mv, [(.t 13)], none, []⟩,
 ⟨(some 14), (.ext 0), [(.t 9)], none, []⟩,
 ⟨(some 15), (.ext 1), [(.t 9)], none, []⟩,
 ⟨(some 8), (.alloc [(.int .i64 0), (.int .i64 0), (.int .i64 0), (.int .i64 0), (.int .i64 0), (.int .i64 0)]), [], none, []⟩,
 ⟨none, (.store 6 none), [(.t 8), (.t 14)], none, []⟩,
 ⟨(some 7), .mv, [(.t 15)], none, []⟩] 0 [3, 6, 7, 8])
 (.seq
 (.seq
 (.reg false [] [] [
 ⟨(some 16), .mv, [(.t 7)], none, []⟩,
 ⟨(some 17), (.bin 0 .neq), [(.t 16), (.c (.int .i64 0))], none, []⟩] 0 [3, 6, 7, 8, 17])
 (.cond (.t 17)
 (.seq
 (.reg false [] [] [
 ⟨(some 18), (.load (some 2)), [(.t 6)], none, []⟩,
 ⟨(some 19), .mv, [(.t 7)], none, []⟩,
 ⟨none, (.store 2 none), [(.t 6), (.t 18)], none, []⟩,
 ⟨(some 7), .mv, [(.t 19)], none, []⟩] 0 [6, 7])
 .ret)
 .skip))
 (.seq
 (.reg false [] [] [
 ⟨(some 20), (.fa 0), [(.t 3)], none, [22, 23, 24, 25, 26, 28, 29, 30, 31, 32, 33, 34, 35]⟩,
 ⟨(some 21), (.load none), [(.t 20)], none, [22, 23, 24, 25, 26, 28, 29, 30, 31, 32, 33, 34, 35]⟩,
 ⟨(some 22), (.load (some 6)), [(.t 8)], none, [20, 21, 23, 24, 25, 28, 29, 30, 31, 32, 33]⟩,
 ⟨(some 23), (.fa 4), [(.t 8)], none, [20, 21, 22, 28, 29, 30, 31, 32, 33]⟩,
 ⟨(some 24), (.load none), [(.t 23)], none, [20, 21, 22, 28, 29, 30, 31, 32, 33]⟩,
 ⟨(some 25), (.un .neg), [(.t 24)], none, [20, 21, 22, 28, 29, 30, 31, 32, 33]⟩,
 ⟨(some 26), (.call true false false), [(.f 67), (.t 22), (.t 25)], none, [20, 21, 28, 29, 30, 31, 32, 33]⟩,
 ⟨(some 27), (.bin 0 .add), [(.t 21), (.t 26)], none, [28, 29, 30, 31, 32, 33, 34, 35]⟩,
 ⟨(some 28), (.fa 1), [(.t 3)], none, [20, 21, 22, 23, 24, 25, 26, 27, 30, 31, 32, 33, 34]⟩,
 ⟨(some 29), (.load none), [(.t 28)], none, [20, 21, 22, 23, 24, 25, 26, 27, 30, 31, 32, 33, 34]⟩,
 ⟨(some 30), (.load (some 6)), [(.t 8)], none, [20, 21, 22, 23, 24, 25, 26, 27, 28, 29, 31, 32, 33]⟩,
 ⟨(some 31), (.fa 5), [(.t 8)], none, [20, 21, 22, 23, 24, 25, 26, 27, 28, 29, 30]⟩,
 ⟨(some 32), (.load none), [(.t 31)], none, [20, 21, 22, 23, 24, 25, 26, 27, 28, 29, 30]⟩,
 ⟨(some 33), (.un .neg), [(.t 32)], none, [20, 21, 22, 23, 24, 25, 26, 27, 28, 29, 30]⟩,
 ⟨(some 34), (.call true false false), [(.f 68), (.t 30), (.t 33)], none, [20, 21, 27, 28, 29]⟩,
 ⟨(some 35), (.bin 0 .add), [(.t 29), (.t 34)], none, [20, 21, 27]⟩,
 ⟨(some 36), (.build [(.int .i64 0), (.int .i64 0)] [(0, 1), (1, 1)]), [(.t 27), (.t 35)], none, []⟩,
 ⟨none, (.store 2 (some 6)), [(.t 6), (.t 36)], none, []⟩] 0 [6])
 (.seq
 (.seq
 (.reg false [] [] [
 ⟨(some 37), (.fa 0), [(.t 6)], none, []⟩,
 ⟨(some 38), (.load none), [(.t 37)], none, []⟩,
 ⟨(some 39), (.fa 1), [(.t 6)], none, []⟩,
 ⟨(some 40), (.load none), [(.t 39)], none, []⟩,
 ⟨(some 41), (.bin 0 .gtr), [(.t 38), (.t 40)], none, []⟩] 0 [6, 41])
 (.cond (.t 41)
 (.seq
 (.reg false [] [] [
 ⟨(some 42), (.build [(.int .i64 0), (.int .i64 0)] []), [], none, []⟩,
 ⟨none, (.store 2 none), [(.t 6), (.t 42)], none, []⟩,
 ⟨(some 7), .mv, [(.c (.int .i64 9))], none, []⟩] 0 [6, 7])
 .ret)
 .skip))
 (.seq
 (.reg false [] [] [
 ⟨(some 43), (.load (some 2)), [(.t 6)], none, []⟩,
 ⟨none, (.store 2 none), [(.t 6), (.t 43)], none, []⟩,
 ⟨(some 7), .mv, [(.c (.int .i64 0))], none, []⟩] 0 [6, 7])
 .ret)))))),
 [(.c 6 (some 2)), (.t 7)]⟩
theorem c21 : funC Try.prog [(0, [1, 3, 5, 6]), (1, [3, 6, 7, 8]), (2, [3, 6, 7, 8, 17]), (3, [6, 7]), (4, [6]), (5, [6, 41]), (6, [6, 7]), (7, [6, 7])] Try.f21 = some (unF l21) := by kernel_rfl
/-- acme/zone.After -/
def l22 : LFun := ⟨3, 35, [],
 (.seq
 (.reg false [3, 5, 6] [3, 5, 6] [
 ⟨(some 3), .box, [(.t 0)], none, []⟩,
 ⟨(some 5), .box, [(.t 2)], none, []⟩,
 ⟨(some 6), (.alloc [(.int .i64 0), (.int .i64 0)]), [], none, []⟩,
 ⟨(some 7), .mv, [(.c (.int .i64 0))], none, []⟩] 0 [1, 3, 5, 6])
 (.seq
 (.reg false [8] [8] [
 ⟨(some 10), (.load (some 2)), [(.t 3)], none, []⟩,
 ⟨(some 11), .mv, [(.t 1)], none, []⟩,
 ⟨(some 12), (.load (some 4)), [(.t 5)], none, []⟩,
 ⟨(some 13), (.call false false false), [(.f 66), (.t 10), (.t 11), (.t 12)], none, []⟩,
 ⟨(some 9), .mv, [(.t 13)], none, []⟩,
 ⟨(some 14), (.ext 0), [(.t 9)], none, []⟩,
 ⟨(some 15), (.ext 1), [(.t 9)], none, []⟩,
 ⟨(some 8), (.alloc [(.int .i64 0), (.int .i64 0), (.int .i64 0), (.int .i64 0), (.int .i64 0), (.int .i64 0)]), [], none, []⟩,
 ⟨none, (.store 6 none), [(.t 8), (.t 14)], none, []⟩,
 ⟨(some 7), .mv, [(.t 15)], none, []⟩] 0 [3, 6, 7, 8])
 (.seq
 (.seq
 (.reg false [] [] [
 ⟨(some 16), .mv, [(.t 7)], none, []⟩,
 ⟨(some 17), (.bin 0 .neq), [(.t 16), (.c (.int .i64 0))], none, []⟩] 0 [3, 6, 7, 8, 17])
 (.cond (.t 17)
 (.seq
 (.reg false [] [] [
 ⟨(some 18), (.load (some 2)), [(.t 6)], none, []⟩,
 ⟨(some 19), .mv, [(.t 7)], none, []⟩,
 ⟨none, (.store 2 none), [(.t 6), (.t 18)], none, []⟩,
 ⟨(some 7), .mv, [(.t 19)], none, []⟩] 0 [6, 7])
 .ret)
 .skip))
 (.seq
 (.reg false [] [] [
 ⟨(some 20), (.fa 0), [(.t 3)], none, [22, 23, 24, 25, 27, 28, 29, 30, 31, 32, 33]⟩,
 ⟨(some 21), (.load none), [(.t 20)], none, [22, 23, 24, 25, 27, 28, 29, 30, 31, 32, 33]⟩,
 ⟨(some 22), (.load (some 6)), [(.t 8)], none, [20, 21, 23, 24, 27, 28, 29, 30, 31]⟩,
 ⟨(some 23), (.fa 4), [(.t 8)], none, [20, 21, 22, 27, 28, 29, 30, 31]⟩,
 ⟨(some 24), (.load none), [(.t 23)], none, [20, 21, 22, 27, 28, 29, 30, 31]⟩,
 ⟨(some 25), (.call true false false), [(.f 68), (.t 22), (.t 24)], none, [20, 21, 27, 28, 29, 30, 31]⟩,
 ⟨(some 26), (.bin 0 .add), [(.t 21), (.t 25)], none, [27, 28, 29, 30, 31, 32, 33]⟩,
 ⟨(some 27), (.fa 1), [(.t 3)], none, [20, 21, 22, 23, 24, 25, 26, 29, 30, 31, 32]⟩,
 ⟨(some 28), (.load none), [(.t 27)], none, [20, 21, 22, 23, 24, 25, 26, 29, 30, 31, 32]⟩,
 ⟨(some 29), (.load (some 6)), [(.t 8)], none, [20, 21, 22, 23, 24, 25, 26, 27, 28, 30, 31]⟩,
 ⟨(some 30), (.fa 5), [(.t 8)], none, [20, 21, 22, 23, 24, 25, 26, 27, 28, 29]⟩,
 ⟨(some 31), (.load none), [(.t 30)], none, [20, 21, 22, 23, 24, 25, 26, 27, 28, 29]⟩,
 ⟨(some 32), (.call true false false), [(.f 67), (.t 29), (.t 31)], none, [20, 21, 26, 27, 28]⟩,
 ⟨(some 33), (.bin 0 .add), [(.t 28), (.t 32)], none, [20, 21, 26]⟩,
 ⟨(some 34), (.build [(.int .i64 0), (.int .i64 0)] [(0, 1), (1, 1)]), [(.t 26), (.t 33)], none, []⟩,
 ⟨none, (.store 2 (some 6)), [(.t 6), (.t 34)], none, []⟩,
 ⟨(some 7), .mv, [(.c (.int .i64 0))], none, []⟩] 0 [6, 7])
 .ret)))),
 [(.c 6 (some 2)), (.t 7)]⟩
theorem c22 : funC Try.prog [(0, [1, 3, 5, 6]), (1, [3, 6, 7, 8]), (2, [3, 6, 7, 8, 17]), (3, [6, 7]), (4, [6, 7])] Try.f22 = some (unF l22) := by kernel_rfl
/-- acme/acmeref02.Span -/
def l23 : LFun := ⟨3, 19, [],
 (.seq
 (.reg false [3] [3] [
 ⟨(some 3), .box, [(.t 0)], none, []⟩,
 ⟨(some 6), .mv, [(.c (.bool false))], none, []⟩] 0 [1, 2, 3])
 (.seq
 (.reg false [] [] [
 ⟨(some 7), (.fa 0), [(.t 3)], none, []⟩,
 ⟨(some 8), (.load none), [(.t 7)], none, []⟩,
 ⟨(some 9), .mv, [(.t 1)], none, []⟩,
 ⟨(some 10), (.fa 1), [(.t 3)], none, []⟩,
 ⟨(some 11), (.load none), [(.t 10)], none, []⟩,
 ⟨(some 12), (.call false false false), [(.f 65), (.t 8), (.t 9), (.t 11)], none, []⟩,
 ⟨(some 13), .mv, [(.t 12)], none, []⟩,
 ⟨(some 14), (.fa 1), [(.t 3)], (some (13, true)), []⟩,
 ⟨(some 15), (.load none), [(.t 14)], (some (13, true)), []⟩,
 ⟨(some 16), .mv, [(.t 2)], (some (13, true)), []⟩,
 ⟨(some 17), (.bin 0 .leq), [(.t 15), (.t 16)], (some (13, true)), []⟩,
 ⟨(some 18), .pick, [(.t 13), (.t 17), (.c (.bool false))], none, []⟩,
 ⟨(some 6), .mv, [(.t 18)], none, []⟩] 0 [6])
 .ret)),
 [(.t 6)]⟩
theorem c23 : funC Try.prog [(0, [1, 2, 3]), (1, [6])] Try.f23 = some (unF l23) := by kernel_rfl
/-- acme/acmeref02.Coat -/
def l24 : LFun := ⟨1, 18, [],
 (.seq
 (.reg false [1] [1] [
 ⟨(some 1), .box, [(.t 0)], none, []⟩,
 ⟨(some 2), .mv, [(.c (.bool false))], none, []⟩] 0 [1])
 (.seq
 (.reg false [] [] [
 ⟨(some 3), (.fa 0), [(.t 1)], none, []⟩,
 ⟨(some 4), (.load (some 2)), [(.t 3)], none, []⟩,
 ⟨(some 5), (.call false false false), [(.f 23), (.t 4), (.c (.int .i64 0)), (.c (.int .i64 10000))], none, []⟩,
 ⟨(some 6), .mv, [(.t 5)], none, []⟩,
 ⟨(some 7), (.fa 2), [(.t 1)], (some (6, true)), []⟩,
 ⟨(some 8), (.fa 0), [(.t 7)], (some (6, true)), []⟩,
 ⟨(some 9), (.load none), [(.t 8)], (some (6, true)), []⟩,
 ⟨(some 10), (.call false false false), [(.f 65), (.t 9), (.c (.int .i64 1)), (.c (.int .i64 1000))], (some (6, true)), []⟩,
 ⟨(some 11), .pick, [(.t 6), (.t 10), (.c (.bool false))], none, []⟩,
 ⟨(some 12), .mv, [(.t 11)], none, []⟩,
 ⟨(some 13), (.fa 2), [(.t 1)], (some (12, true)), []⟩,
 ⟨(some 14), (.fa 1), [(.t 13)], (some (12, true)), []⟩,
 ⟨(some 15), (.load none), [(.t 14)], (some (12, true)), []⟩,
 ⟨(some 16), (.call false false false), [(.f 65), (.t 15), (.c (.int .i64 1)), (.c (.int .i64 1000))], (some (12, true)), []⟩,
 ⟨(some 17), .pick, [(.t 12), (.t 16), (.c (.bool false))], none, []⟩,
 ⟨(some 2), .mv, [(.t 17)], none, []⟩] 0 [2])
 .ret)),
 [(.t 2)]⟩
theorem c24 : funC Try.prog [(0, [1]), (1, [2])] Try.f24 = some (unF l24) := by kernel_rfl
/-- acme/acmeref02.Grown -/
def l25 : LFun := ⟨4, 32, [],
 (.seq
 (.reg false [7] [7] [
 ⟨(some 7), .box, [(.t 3)], none, []⟩,
 ⟨(some 8), .mv, [(.c (.int .i64 0))], none, []⟩] 0 [0, 1, 2, 7])
 (.seq
 (.seq
 (.reg false [] [] [
 ⟨(some 9), .mv, [(.t 1)], none, []⟩] 0 [0, 2, 7, 9])
 (.cond (.t 9)
 (.seq
 (.reg false [] [] [
 ⟨(some 10), .mv, [(.t 0)], none, []⟩,
 ⟨(some 11), (.fa 2), [(.t 7)], none, []⟩,
 ⟨(some 12), (.fa 1), [(.t 11)], none, []⟩,
 ⟨(some 13), (.load none), [(.t 12)], none, []⟩,
 ⟨(some 14), (.bin 0 .mul), [(.t 10), (.t 13)], none, []⟩,
 ⟨(some 15), .mv, [(.t 2)], none, []⟩,
 ⟨(some 16), (.fa 2), [(.t 7)], none, []⟩,
 ⟨(some 17), (.fa 0), [(.t 16)], none, []⟩,
 ⟨(some 18), (.load none), [(.t 17)], none, []⟩,
 ⟨(some 19), (.bin 0 .mul), [(.t 15), (.t 18)], none, []⟩,
 ⟨(some 20), (.bin 0 .sub), [(.t 14), (.t 19)], none, []⟩,
 ⟨(some 8), .mv, [(.t 20)], none, []⟩] 0 [8])
 .ret)
 .skip))
 (.seq
 (.reg false [] [] [
 ⟨(some 21), .mv, [(.t 0)], none, []⟩,
 ⟨(some 22), (.fa 2), [(.t 7)], none, []⟩,
 ⟨(some 23), (.fa 1), [(.t 22)], none, []⟩,
 ⟨(some 24), (.load none), [(.t 23)], none, []⟩,
 ⟨(some 25), (.bin 0 .mul), [(.t 21), (.t 24)], none, []⟩,
 ⟨(some 26), .mv, [(.t 2)], none, []⟩,
 ⟨(some 27), (.fa 2), [(.t 7)], none, []⟩,
 ⟨(some 28), (.fa 0), [(.t 27)], none, []⟩,
 ⟨(some 29), (.load none), [(.t 28)], none, []⟩,
 ⟨(some 30), (.bin 0 .mul), [(.t 26), (.t 29)], none, []⟩,
 ⟨(some 31), (.bin 0 .add), [(.t 25), (.t 30)], none, []⟩,
 ⟨(some 8), .mv, [(.t 31)], none, []⟩] 0 [8])
 .ret))),
 [(.t 8)]⟩
theorem c25 : funC Try.prog [(0, [0, 1, 2, 7]), (1, [0, 2, 7, 9]), (2, [8]), (3, [8])] Try.f25 = some (unF l25) := by kernel_rfl
/-- acme/acmelaw02.span -/
def l26 : LFun := ⟨2, 8, [],
 (.seq
 (.reg false [4] [4] [
 ⟨(some 4), (.alloc [(.int .i64 0), (.int .i64 0)]), [], none, []⟩] 0 [0, 1, 4])
 (.seq
 (.reg false [] [] [
 ⟨(some 5), .mv, [(.t 0)], none, []⟩,
 ⟨(some 6), .mv, [(.t 1)], none, []⟩,
 ⟨(some 7), (.build [(.int .i64 0), (.int .i64 0)] [(0, 1), (1, 1)]), [(.t 5), (.t 6)], none, []⟩,
 ⟨none, (.store 2 none), [(.t 4), (.t 7)], none, []⟩] 0 [4])
 .ret)),
 [(.c 4 (some 2))]⟩
theorem c26 : funC Try.prog [(0, [0, 1, 4]), (1, [4])] Try.f26 = some (unF l26) := by kernel_rfl
/-- acme/acmeref02.Down -/
def l27 : LFun := ⟨2, 17, [],
 (.seq
 (.reg false [] [] [
 ⟨(some 4), .mv, [(.c (.int .i64 0))], none, []⟩] 0 [0, 1])
 (.seq
 (.reg false [] [] [
 ⟨(some 6), .mv, [(.t 0)], none, []⟩,
 ⟨(some 7), .mv, [(.t 1)], none, []⟩,
 ⟨(some 8), (.bin 0 .quo), [(.t 6), (.t 7)], none, []⟩,
 ⟨(some 5), .mv, [(.t 8)], none, []⟩] 0 [0, 1, 5])
 (.seq
 (.seq
 (.reg false [] [] [
 ⟨(some 9), .mv, [(.t 5)], none, []⟩,
 ⟨(some 10), .mv, [(.t 1)], none, []⟩,
 ⟨(some 11), (.bin 0 .mul), [(.t 9), (.t 10)], none, []⟩,
 ⟨(some 12), .mv, [(.t 0)], none, []⟩,
 ⟨(some 13), (.bin 0 .gtr), [(.t 11), (.t 12)], none, []⟩] 0 [5, 13])
 (.cond (.t 13)
 (.reg false [] [] [
 ⟨(some 14), .mv, [(.t 5)], none, []⟩,
 ⟨(some 15), (.bin 0 .sub), [(.t 14), (.c (.int .i64 1))], none, []⟩,
 ⟨(some 5), .mv, [(.t 15)], none, []⟩] 0 [5])
 .skip))
 (.seq
 (.reg false [] [] [
 ⟨(some 16), .mv, [(.t 5)], none, []⟩,
 ⟨(some 4), .mv, [(.t 16)], none, []⟩] 0 [4])
 .ret)))),
 [(.t 4)]⟩
theorem c27 : funC Try.prog [(0, [0, 1]), (1, [0, 1, 5]), (2, [5, 13]), (3, [5]), (4, [4])] Try.f27 = some (unF l27) := by kernel_rfl
/-- acme/acmeref02.Up -/
def l28 : LFun := ⟨2, 17, [],
 (.seq
 (.reg false [] [] [
 ⟨(some 4), .mv, [(.c (.int .i64 0))], none, []⟩] 0 [0, 1])
 (.seq
 (.reg false [] [] [
 ⟨(some 6), .mv, [(.t 0)], none, []⟩,
 ⟨(some 7), .mv, [(.t 1)], none, []⟩,
 ⟨(some 8), (.bin 0 .quo), [(.t 6), (.t 7)], none, []⟩,
 ⟨(some 5), .mv, [(.t 8)], none, []⟩] 0 [0, 1, 5])
 (.seq
 (.seq
 (.reg false [] [] [
 ⟨(some 9), .mv, [(.t 5)], none, []⟩,
 ⟨(some 10), .mv, [(.t 1)], none, []⟩,
 ⟨(some 11), (.bin 0 .mul), [(.t 9), (.t 10)], none, []⟩,
 ⟨(some 12), .mv, [(.t 0)], none, []⟩,
 ⟨(some 13), (.bin 0 .lss), [(.t 11), (.t 12)], none, []⟩] 0 [5, 13])
 (.cond (.t 13)
 (.reg false [] [] [
 ⟨(some 14), .mv, [(.t 5)], none, []⟩,
 ⟨(some 15), (.bin 0 .add), [(.t 14), (.c (.int .i64 1))], none, []⟩,
 ⟨(some 5), .mv, [(.t 15)], none, []⟩] 0 [5])
 .skip))
 (.seq
 (.reg false [] [] [
 ⟨(some 16), .mv, [(.t 5)], none, []⟩,
 ⟨(some 4), .mv, [(.t 16)], none, []⟩] 0 [4])
 .ret)))),
 [(.t 4)]⟩
theorem c28 : funC Try.prog [(0, [0, 1]), (1, [0, 1, 5]), (2, [5, 13]), (3, [5]), (4, [4])] Try.f28 = some (unF l28) := by kernel_rfl
/-- acme/acmeref02.Right -/
def b29_0 : LCode :=
 (.seq
 (.seq
 (.reg true [] [] [
 ⟨(some 11), .mv, [(.t 9)], none, []⟩,
 ⟨(some 12), (.bin 0 .lss), [(.t 11), (.c (.int .i64 2))], none, []⟩] 0 [0, 2, 5, 7, 9, 12])
 (.cond (.t 12)
 .skip
 (.exit 0)))
 (.seq
 (.block 1
 (.seq
 (.reg true [] [] [
 ⟨(some 15), .mv, [(.t 0)], none, [16, 17, 18, 19, 20, 21, 22, 23, 24, 25, 26]⟩,
 ⟨(some 16), .mv, [(.t 2)], none, [15, 17, 18, 19, 20, 21, 22, 23, 24, 25, 26]⟩,
 ⟨(some 17), (.fa 0), [(.t 7)], none, [15, 16, 20, 21, 22, 24, 26]⟩,
 ⟨(some 18), (.fa 0), [(.t 17)], none, [15, 16, 20, 21, 22, 24, 26]⟩,
 ⟨(some 19), (.load none), [(.t 18)], none, [15, 16, 20, 21, 22, 24, 26]⟩,
 ⟨(some 20), (.fa 0), [(.t 7)], none, [15, 16, 17, 18, 19, 24, 26]⟩,
 ⟨(some 21), (.fa 1), [(.t 20)], none, [15, 16, 17, 18, 19, 24, 26]⟩,
 ⟨(some 22), (.load none), [(.t 21)], none, [15, 16, 17, 18, 19, 24, 26]⟩,
 ⟨(some 23), (.build [(.int .i64 0), (.int .i64 0)] [(0, 1), (1, 1)]), [(.t 19), (.t 22)], none, [15, 16, 24, 26]⟩,
 ⟨(some 24), .mv, [(.t 9)], none, [15, 16, 17, 18, 19, 20, 21, 22, 23, 26]⟩,
 ⟨(some 25), (.idx 2 1 none), [(.t 23), (.t 24)], none, [15, 16, 26]⟩,
 ⟨(some 26), (.load (some 4)), [(.t 7)], none, [15, 16, 17, 18, 19, 20, 21, 22, 23, 24, 25]⟩,
 ⟨(some 27), (.call true false false), [(.f 25), (.t 15), (.t 16), (.t 25), (.t 26)], none, []⟩,
 ⟨(some 10), .mv, [(.t 27)], none, []⟩] 0 [0, 2, 5, 7, 9, 10])
 (.seq
 (.reg true [] [] [
 ⟨(some 28), .mv, [(.t 10)], none, []⟩,
 ⟨(some 29), (.fa 0), [(.t 5)], none, []⟩,
 ⟨(some 30), (.load none), [(.t 29)], none, []⟩,
 ⟨(some 31), (.fa 2), [(.t 7)], none, []⟩,
 ⟨(some 32), (.fa 1), [(.t 31)], none, []⟩,
 ⟨(some 33), (.load none), [(.t 32)], none, []⟩,
 ⟨(some 34), (.bin 0 .mul), [(.t 30), (.t 33)], none, []⟩,
 ⟨(some 35), (.bin 0 .lss), [(.t 28), (.t 34)], none, []⟩,
 ⟨(some 36), .mv, [(.t 35)], none, []⟩,
 ⟨(some 37), .mv, [(.t 10)], (some (36, false)), []⟩,
 ⟨(some 38), (.fa 1), [(.t 5)], (some (36, false)), []⟩,
 ⟨(some 39), (.load none), [(.t 38)], (some (36, false)), []⟩,
 ⟨(some 40), (.fa 2), [(.t 7)], (some (36, false)), []⟩,
 ⟨(some 41), (.fa 1), [(.t 40)], (some (36, false)), []⟩,
 ⟨(some 42), (.load none), [(.t 41)], (some (36, false)), []⟩,
 ⟨(some 43), (.bin 0 .mul), [(.t 39), (.t 42)], (some (36, false)), []⟩,
 ⟨(some 44), (.bin 0 .gtr), [(.t 37), (.t 43)], (some (36, false)), []⟩,
 ⟨(some 45), .pick, [(.t 36), (.c (.bool true)), (.t 44)], none, []⟩] 0 [0, 2, 5, 7, 9, 45])
 (.cond (.t 45)
 (.seq
 (.reg true [] [] [
 ⟨(some 8), .mv, [(.c (.bool false))], none, []⟩] 0 [8])
 .ret)
 .skip))))
 (.reg true [] [] [
 ⟨(some 13), .mv, [(.t 9)], none, []⟩,
 ⟨(some 14), (.bin 0 .add), [(.t 13), (.c (.int .i64 1))], none, []⟩,
 ⟨(some 9), .mv, [(.t 14)], none, []⟩] 0 [0, 2, 5, 7, 9])))
def l29 : LFun := ⟨4, 46, [],
 (.seq
 (.reg false [5, 7] [5, 7] [
 ⟨(some 5), .box, [(.t 1)], none, []⟩,
 ⟨(some 7), .box, [(.t 3)], none, []⟩,
 ⟨(some 8), .mv, [(.c (.bool false))], none, []⟩] 0 [0, 2, 5, 7])
 (.seq
 (.seq
 (.reg false [] [] [
 ⟨(some 9), .mv, [(.c (.int .i64 0))], none, []⟩] 0 [0, 2, 5, 7, 9])
 (.block 0
 (.loop b29_0)))
 (.seq
 (.reg false [] [] [
 ⟨(some 8), .mv, [(.c (.bool true))], none, []⟩] 0 [8])
 .ret))),
 [(.t 8)]⟩
theorem c29 : funC Try.prog [(0, [0, 2, 5, 7]), (1, [0, 2, 5, 7, 9]), (2, [0, 2, 5, 7, 9, 12]), (3, [0, 2, 5, 7, 9]), (4, [0, 2, 5, 7, 9, 10]), (5, [0, 2, 5, 7, 9, 45]), (6, [8]), (7, [8])] Try.f29 = some (unF l29) := by kernel_rfl
/-- acme/acmelaw02.pair -/
def l30 : LFun := ⟨2, 8, [],
 (.seq
 (.reg false [2, 3, 4] [2, 3, 4] [
 ⟨(some 2), .box, [(.t 0)], none, []⟩,
 ⟨(some 3), .box, [(.t 1)], none, []⟩,
 ⟨(some 4), (.alloc [(.int .i64 0), (.int .i64 0), (.int .i64 0), (.int .i64 0)]), [], none, []⟩] 0 [2, 3, 4])
 (.seq
 (.reg false [] [] [
 ⟨(some 5), (.load (some 2)), [(.t 2)], none, []⟩,
 ⟨(some 6), (.load (some 2)), [(.t 3)], none, []⟩,
 ⟨(some 7), (.build [(.int .i64 0), (.int .i64 0), (.int .i64 0), (.int .i64 0)] [(0, 2), (2, 2)]), [(.t 5), (.t 6)], none, []⟩,
 ⟨none, (.store 4 none), [(.t 4), (.t 7)], none, []⟩] 0 [4])
 .ret)),
 [(.c 4 (some 4))]⟩
theorem c30 : funC Try.prog [(0, [2, 3, 4]), (1, [4])] Try.f30 = some (unF l30) := by kernel_rfl
/-- acme/zone.Play -/
def l31 : LFun := ⟨3, 33, [],
 (.seq
 (.reg false [3, 4, 6] [3, 4, 6] [
 ⟨(some 3), .box, [(.t 0)], none, []⟩,
 ⟨(some 4), .box, [(.t 1)], none, []⟩,
 ⟨(some 6), (.alloc [(.int .i64 0), (.int .i64 0)]), [], none, []⟩,
 ⟨(some 7), .mv, [(.c (.int .i64 0))], none, []⟩] 0 [2, 3, 4, 6])
 (.seq
 (.reg false [18, 19, 8] [18, 19, 8] [
 ⟨(some 12), (.load (some 3)), [(.t 3)], none, []⟩,
 ⟨(some 13), .mv, [(.t 2)], none, []⟩,
 ⟨(some 14), (.fa 0), [(.t 4)], none, []⟩,
 ⟨(some 15), (.load (some 2)), [(.t 14)], none, []⟩,
 ⟨(some 16), (.fa 2), [(.t 4)], none, []⟩,
 ⟨(some 17), (.load (some 2)), [(.t 16)], none, []⟩,
 ⟨(some 18), (.bsl 2 [(.int .i64 0), (.int .i64 0)] 2 [0, 1]), [(.t 15), (.t 17)], none, []⟩,
 ⟨(some 19), (.call false true true), [(.f 60), (.t 12), (.t 13), (.t 18)], none, []⟩,
 ⟨(some 11), .mv, [(.t 19)], none, []⟩,
 ⟨(some 20), (.ext 0), [(.t 11)], none, []⟩,
 ⟨(some 21), (.ext 1), [(.t 11)], none, []⟩,
 ⟨(some 22), (.ext 2), [(.t 11)], none, []⟩,
 ⟨(some 8), (.alloc [(.sl none 1 []), (.sl none 1 []), (.sl none 1 [])]), [], none, []⟩,
 ⟨none, (.store 3 none), [(.t 8), (.t 20)], none, []⟩,
 ⟨(some 9), .mv, [(.t 21)], none, []⟩,
 ⟨(some 10), .mv, [(.t 22)], none, []⟩] 0 [2, 4, 6, 8, 9, 10])
 (.seq
 (.seq
 (.reg false [] [] [
 ⟨(some 23), .mv, [(.t 10)], none, []⟩,
 ⟨(some 24), (.bin 0 .neq), [(.t 23), (.c (.int .i64 0))], none, []⟩] 0 [2, 4, 6, 8, 9, 10, 24])
 (.cond (.t 24)
 (.seq
 (.reg false [] [] [
 ⟨(some 25), (.build [(.int .i64 0), (.int .i64 0)] []), [], none, []⟩,
 ⟨(some 26), .mv, [(.t 10)], none, []⟩,
 ⟨none, (.store 2 none), [(.t 6), (.t 25)], none, []⟩,
 ⟨(some 7), .mv, [(.t 26)], none, []⟩] 0 [6, 7])
 .ret)
 .skip))
 (.seq
 (.reg false [] [] [
 ⟨(some 27), (.load (some 3)), [(.t 8)], none, []⟩,
 ⟨(some 28), (.load (some 4)), [(.t 4)], none, []⟩,
 ⟨(some 29), .mv, [(.t 2)], none, []⟩,
 ⟨(some 30), .mv, [(.t 9)], none, []⟩,
 ⟨(some 31), (.call false false false), [(.f 69), (.t 27), (.t 28), (.t 29), (.t 30)], none, []⟩,
 ⟨(some 32), (.fld 0 (some 2)), [(.t 31)], none, []⟩,
 ⟨none, (.store 2 none), [(.t 6), (.t 32)], none, []⟩,
 ⟨(some 7), .mv, [(.c (.int .i64 0))], none, []⟩] 0 [6, 7])
 .ret)))),
 [(.c 6 (some 2)), (.t 7)]⟩
theorem c31 : funC Try.prog [(0, [2, 3, 4, 6]), (1, [2, 4, 6, 8, 9, 10]), (2, [2, 4, 6, 8, 9, 10, 24]), (3, [6, 7]), (4, [6, 7])] Try.f31 = some (unF l31) := by kernel_rfl
/-- acme/zone.Pairs -/
def b32_1w : List Nat :=
 [44, 12, 45, 46, 47, 13, 48, 49, 50, 51, 52, 53, 54, 55, 56, 57, 58]
def b32_1a : LCode :=
 (.reg true [12] [12] [
 ⟨(some 12), (.alloc [(.int .i64 0), (.int .i64 0)]), [], none, []⟩,
 ⟨none, (.store 2 none), [(.t 12), (.t 44)], none, []⟩] 0 [4, 5, 6, 8, 10, 11, 12])
def b32_1 : LCode :=
 (.block 4
 (.seq
 (.reg true [13] [13] [
 ⟨(some 45), (.load (some 2)), [(.t 11)], none, []⟩,
 ⟨(some 46), (.load (some 2)), [(.t 12)], none, []⟩,
 ⟨(some 47), (.build [(.int .i64 0), (.int .i64 0), (.int .i64 0), (.int .i64 0)] [(0, 2), (2, 2)]), [(.t 45), (.t 46)], none, []⟩,
 ⟨(some 13), (.alloc [(.int .i64 0), (.int .i64 0), (.int .i64 0), (.int .i64 0)]), [], none, []⟩,
 ⟨none, (.store 4 none), [(.t 13), (.t 47)], none, []⟩] 0 [4, 5, 6, 8, 10, 11, 13])
 (.seq
 (.reg true [] [] [
 ⟨(some 48), (.load (some 3)), [(.t 8)], none, [49, 50, 51, 53]⟩,
 ⟨(some 49), (.load (some 4)), [(.t 13)], none, [48, 50, 51, 53]⟩,
 ⟨(some 50), (.load none), [(.t 4)], none, [48, 49, 51, 53]⟩,
 ⟨(some 51), (.load none), [(.t 10)], none, [48, 49, 50, 53]⟩,
 ⟨(some 52), (.call true false false), [(.f 69), (.t 48), (.t 49), (.t 50), (.t 51)], none, [53]⟩,
 ⟨(some 53), (.load (some 2)), [(.t 5)], none, [48, 49, 50, 51, 52]⟩,
 ⟨(some 54), (.call true false false), [(.f 73), (.t 52), (.t 53)], none, []⟩] 0 [4, 5, 6, 8, 10, 11, 13, 54])
 (.cond (.t 54)
 (.reg true [57, 58] [57] [
 ⟨(some 55), (.load none), [(.t 6)], none, []⟩,
 ⟨(some 56), (.load (some 4)), [(.t 13)], none, []⟩,
 ⟨(some 57), (.bsl 4 [(.int .i64 0), (.int .i64 0), (.int .i64 0), (.int .i64 0)] 1 [0]), [(.t 56)], none, []⟩,
 ⟨(some 58), (.append false 4 32), [(.t 55), (.t 57)], none, []⟩,
 ⟨none, (.store 1 none), [(.t 6), (.t 58)], none, []⟩] 0 [4, 5, 6, 8, 10, 11])
 .skip))))
def b32_0w : List Nat :=
 [41, 11, 42, 43, 44, 12, 45, 46, 47, 13, 48, 49, 50, 51, 52, 53, 54, 55, 56, 57, 58]
def b32_0a : LCode :=
 (.reg true [11] [11] [
 ⟨(some 11), (.alloc [(.int .i64 0), (.int .i64 0)]), [], none, []⟩,
 ⟨none, (.store 2 none), [(.t 11), (.t 41)], none, []⟩] 0 [4, 5, 6, 8, 10, 11])
def b32_0 : LCode :=
 (.block 2
 (.seq
 (.reg true [] [] [
 ⟨(some 42), (.load (some 3)), [(.t 8)], none, []⟩,
 ⟨(some 43), (.mkm 72), [(.t 42)], none, []⟩] 0 [4, 5, 6, 8, 10, 11, 43])
 (.block 3
 (.rng (.t 43) [44] b32_1w b32_1a b32_1))))
def l32 : LFun := ⟨3, 60, [],
 (.seq
 (.reg false [3, 4, 5, 6] [3, 4, 5, 6] [
 ⟨(some 3), .box, [(.t 0)], none, []⟩,
 ⟨(some 4), .box, [(.t 1)], none, []⟩,
 ⟨(some 5), .box, [(.t 2)], none, []⟩,
 ⟨(some 6), (.alloc [(.sl (some 2005800) 4 [])]), [], none, []⟩,
 ⟨(some 7), .mv, [(.c (.int .i64 0))], none, []⟩] 0 [3, 4, 5, 6])
 (.seq
 (.reg false [17, 8] [17, 8] [
 ⟨(some 15), (.load (some 3)), [(.t 3)], none, []⟩,
 ⟨(some 16), (.load none), [(.t 4)], none, []⟩,
 ⟨(some 17), (.call false true true), [(.f 60), (.t 15), (.t 16), (.c (.sl none 2 []))], none, []⟩,
 ⟨(some 14), .mv, [(.t 17)], none, []⟩,
 ⟨(some 18), (.ext 0), [(.t 14)], none, []⟩,
 ⟨(some 19), (.ext 1), [(.t 14)], none, []⟩,
 ⟨(some 20), (.ext 2), [(.t 14)], none, []⟩,
 ⟨(some 8), (.alloc [(.sl none 1 []), (.sl none 1 []), (.sl none 1 [])]), [], none, []⟩,
 ⟨none, (.store 3 none), [(.t 8), (.t 18)], none, []⟩,
 ⟨(some 9), .mv, [(.t 19)], none, []⟩,
 ⟨(some 7), .mv, [(.t 20)], none, []⟩] 0 [4, 5, 6, 7, 8])
 (.seq
 (.seq
 (.reg false [] [] [
 ⟨(some 21), .mv, [(.t 7)], none, []⟩,
 ⟨(some 22), (.bin 0 .neq), [(.t 21), (.c (.int .i64 0))], none, []⟩] 0 [4, 5, 6, 7, 8, 22])
 (.cond (.t 22)
 (.seq
 (.reg false [] [] [
 ⟨(some 23), .mv, [(.t 7)], none, []⟩,
 ⟨none, (.store 1 none), [(.t 6), (.c (.sl (some 2005800) 4 []))], none, []⟩,
 ⟨(some 7), .mv, [(.t 23)], none, []⟩] 0 [6, 7])
 .ret)
 .skip))
 (.seq
 (.reg false [10] [10] [
 ⟨(some 25), (.load (some 3)), [(.t 8)], none, []⟩,
 ⟨(some 26), (.load none), [(.t 4)], none, []⟩,
 ⟨(some 27), (.call false false false), [(.f 70), (.t 25), (.t 26)], none, []⟩,
 ⟨(some 24), .mv, [(.t 27)], none, []⟩,
 ⟨(some 28), (.ext 0), [(.t 24)], none, []⟩,
 ⟨(some 29), (.ext 1), [(.t 24)], none, []⟩,
 ⟨(some 10), (.alloc [(.int .i64 0)]), [], none, []⟩,
 ⟨none, (.store 1 none), [(.t 10), (.t 28)], none, []⟩,
 ⟨(some 7), .mv, [(.t 29)], none, []⟩] 0 [4, 5, 6, 7, 8, 10])
 (.seq
 (.block 0
 (.seq
 (.reg false [] [] [
 ⟨(some 31), .mv, [(.t 7)], none, []⟩,
 ⟨(some 32), (.bin 0 .neq), [(.t 31), (.c (.int .i64 0))], none, []⟩,
 ⟨(some 30), .mv, [(.t 32)], none, []⟩] 0 [4, 5, 6, 7, 8, 10, 30])
 (.cond (.t 30)
 (.seq
 (.reg false [] [] [
 ⟨(some 33), .mv, [(.t 7)], none, []⟩,
 ⟨none, (.store 1 none), [(.t 6), (.c (.sl (some 2005800) 4 []))], none, []⟩,
 ⟨(some 7), .mv, [(.t 33)], none, []⟩] 0 [6, 7])
 .ret)
 (.seq
 (.reg false [] [] [
 ⟨(some 35), (.load (some 2)), [(.t 5)], none, []⟩,
 ⟨(some 36), (.build [(.int .i64 0), (.int .i64 0)] [(0, 2)]), [(.t 35)], none, []⟩,
 ⟨(some 37), (.call false false false), [(.f 71), (.t 36), (.c (.int .i64 (-400000))), (.c (.int .i64 400000))], none, []⟩,
 ⟨(some 38), (.un .not), [(.t 37)], none, []⟩,
 ⟨(some 34), .mv, [(.t 38)], none, []⟩] 0 [4, 5, 6, 8, 10, 34])
 (.cond (.t 34)
 (.seq
 (.reg false [] [] [
 ⟨none, (.store 1 none), [(.t 6), (.c (.sl (some 2005800) 4 []))], none, []⟩,
 ⟨(some 7), .mv, [(.c (.int .i64 2))], none, []⟩] 0 [6, 7])
 .ret)
 .skip)))))
 (.seq
 (.seq
 (.reg false [] [] [
 ⟨(some 39), (.load (some 3)), [(.t 8)], none, []⟩,
 ⟨(some 40), (.mkm 72), [(.t 39)], none, []⟩] 0 [4, 5, 6, 8, 10, 40])
 (.block 1
 (.rng (.t 40) [41] b32_0w b32_0a b32_0)))
 (.seq
 (.reg false [] [] [
 ⟨(some 59), (.load none), [(.t 6)], none, []⟩,
 ⟨none, (.store 1 none), [(.t 6), (.t 59)], none, []⟩,
 ⟨(some 7), .mv, [(.c (.int .i64 0))], none, []⟩] 0 [6, 7])
 .ret))))))),
 [(.c 6 none), (.t 7)]⟩
theorem c32 : funC Try.prog [(0, [3, 4, 5, 6]), (1, [4, 5, 6, 7, 8]), (2, [4, 5, 6, 7, 8, 22]), (3, [6, 7]), (4, [4, 5, 6, 7, 8, 10]), (5, [4, 5, 6, 7, 8, 10, 30]), (6, [6, 7]), (7, [4, 5, 6, 8, 10, 34]), (8, [6, 7]), (9, [4, 5, 6, 8, 10, 40]), (10, [4, 5, 6, 8, 10, 11]), (11, [4, 5, 6, 8, 10, 11, 43]), (12, [4, 5, 6, 8, 10, 11, 12]), (13, [4, 5, 6, 8, 10, 11, 13]), (14, [4, 5, 6, 8, 10, 11, 13, 54]), (15, [4, 5, 6, 8, 10, 11]), (16, [6, 7])] Try.f32 = some (unF l32) := by kernel_rfl
/-- acme/zone.Widest -/
def l33 : LFun := ⟨3, 40, [],
 (.seq
 (.reg false [3, 5, 6] [3, 5, 6] [
 ⟨(some 3), .box, [(.t 0)], none, []⟩,
 ⟨(some 5), .box, [(.t 2)], none, []⟩,
 ⟨(some 6), (.alloc [(.int .i64 0), (.int .i64 0), (.int .i64 0), (.int .i64 0)]), [], none, []⟩,
 ⟨(some 7), .mv, [(.c (.int .i64 0))], none, []⟩] 0 [1, 3, 5, 6, 9, 10])
 (.seq
 (.reg false [16] [16] [
 ⟨(some 13), (.load (some 3)), [(.t 3)], none, []⟩,
 ⟨(some 14), .mv, [(.t 1)], none, []⟩,
 ⟨(some 15), (.load (some 2)), [(.t 5)], none, []⟩,
 ⟨(some 16), (.call false false true), [(.f 32), (.t 13), (.t 14), (.t 15)], none, []⟩,
 ⟨(some 12), .mv, [(.t 16)], none, []⟩,
 ⟨(some 17), (.ext 0), [(.t 12)], none, []⟩,
 ⟨(some 18), (.ext 1), [(.t 12)], none, []⟩,
 ⟨(some 8), .mv, [(.t 17)], none, []⟩,
 ⟨(some 7), .mv, [(.t 18)], none, []⟩] 0 [1, 3, 6, 7, 8, 9, 10])
 (.seq
 (.block 0
 (.seq
 (.reg false [] [] [
 ⟨(some 20), .mv, [(.t 7)], none, []⟩,
 ⟨(some 21), (.bin 0 .neq), [(.t 20), (.c (.int .i64 0))], none, []⟩,
 ⟨(some 19), .mv, [(.t 21)], none, []⟩] 0 [1, 3, 6, 7, 8, 9, 10, 19])
 (.cond (.t 19)
 (.seq
 (.reg false [] [] [
 ⟨(some 22), (.load (some 4)), [(.t 6)], none, []⟩,
 ⟨(some 23), .mv, [(.t 7)], none, []⟩,
 ⟨none, (.store 4 none), [(.t 6), (.t 22)], none, []⟩,
 ⟨(some 7), .mv, [(.t 23)], none, []⟩] 0 [6, 7, 9, 10])
 .ret)
 (.seq
 (.reg false [] [] [
 ⟨(some 25), .mv, [(.t 8)], none, []⟩,
 ⟨(some 26), .len, [(.t 25)], none, []⟩,
 ⟨(some 27), (.bin 0 .eql), [(.t 26), (.c (.int .i64 0))], none, []⟩,
 ⟨(some 24), .mv, [(.t 27)], none, []⟩] 0 [1, 3, 6, 8, 9, 10, 24])
 (.cond (.t 24)
 (.seq
 (.reg false [] [] [
 ⟨(some 28), (.load (some 4)), [(.t 6)], none, []⟩,
 ⟨none, (.store 4 none), [(.t 6), (.t 28)], none, []⟩,
 ⟨(some 7), .mv, [(.c (.int .i64 7))], none, []⟩] 0 [6, 7, 9, 10])
 .ret)
 .skip)))))
 (.seq
 (.reg false [9] [9] [
 ⟨(some 29), (.load (some 3)), [(.t 3)], none, []⟩,
 ⟨(some 30), (.build [(.sl none 1 []), (.sl none 1 []), (.sl none 1 [])] [(0, 3)]), [(.t 29)], none, []⟩,
 ⟨(some 9), (.alloc [(.sl none 1 []), (.sl none 1 []), (.sl none 1 [])]), [], none, []⟩,
 ⟨none, (.store 3 none), [(.t 9), (.t 30)], none, []⟩] 0 [1, 6, 8, 9, 10])
 (.seq
 (.reg false [10] [10] [
 ⟨(some 32), (.load (some 3)), [(.t 9)], none, []⟩,
 ⟨(some 33), .mv, [(.t 1)], none, []⟩,
 ⟨(some 34), (.call false false false), [(.f 70), (.t 32), (.t 33)], none, []⟩,
 ⟨(some 31), .mv, [(.t 34)], none, []⟩,
 ⟨(some 35), (.ext 0), [(.t 31)], none, []⟩,
 ⟨(some 36), (.ext 1), [(.t 31)], none, []⟩,
 ⟨(some 10), (.alloc [(.int .i64 0)]), [], none, []⟩,
 ⟨none, (.store 1 none), [(.t 10), (.t 35)], none, []⟩,
 ⟨(some 11), .mv, [(.t 36)], none, []⟩] 0 [6, 8, 9, 10])
 (.seq
 (.reg false [] [] [
 ⟨(some 37), .mv, [(.t 8)], none, []⟩,
 ⟨(some 38), (.mkf 75), [(.t 9), (.t 10)], none, []⟩,
 ⟨(some 39), (.call false false false), [(.f 74), (.t 37), (.t 38)], none, []⟩,
 ⟨none, (.store 4 none), [(.t 6), (.t 39)], none, []⟩,
 ⟨(some 7), .mv, [(.c (.int .i64 0))], none, []⟩] 0 [6, 7, 9, 10])
 .ret)))))),
 [(.c 6 (some 4)), (.t 7)]⟩
theorem c33 : funC Try.prog [(0, [1, 3, 5, 6, 9, 10]), (1, [1, 3, 6, 7, 8, 9, 10]), (2, [1, 3, 6, 7, 8, 9, 10, 19]), (3, [6, 7, 9, 10]), (4, [1, 3, 6, 8, 9, 10, 24]), (5, [6, 7, 9, 10]), (6, [1, 6, 8, 9, 10]), (7, [6, 8, 9, 10]), (8, [6, 7, 9, 10])] Try.f33 = some (unF l33) := by kernel_rfl
/-- acme/acmeref02.Play -/
def l34 : LFun := ⟨2, 16, [],
 (.seq
 (.reg false [2, 3, 4] [2, 3, 4] [
 ⟨(some 2), .box, [(.t 0)], none, []⟩,
 ⟨(some 3), .box, [(.t 1)], none, []⟩,
 ⟨(some 4), (.alloc [(.int .i64 0), (.int .i64 0)]), [], none, []⟩] 0 [2, 3, 4])
 (.seq
 (.reg false [] [] [
 ⟨(some 5), (.fa 0), [(.t 3)], none, []⟩,
 ⟨(some 6), (.load none), [(.t 5)], none, []⟩,
 ⟨(some 7), (.fa 1), [(.t 2)], none, []⟩,
 ⟨(some 8), (.load none), [(.t 7)], none, []⟩,
 ⟨(some 9), (.bin 0 .sub), [(.t 6), (.t 8)], none, []⟩,
 ⟨(some 10), (.fa 1), [(.t 3)], none, []⟩,
 ⟨(some 11), (.load none), [(.t 10)], none, []⟩,
 ⟨(some 12), (.fa 0), [(.t 2)], none, []⟩,
 ⟨(some 13), (.load none), [(.t 12)], none, []⟩,
 ⟨(some 14), (.bin 0 .sub), [(.t 11), (.t 13)], none, []⟩,
 ⟨(some 15), (.build [(.int .i64 0), (.int .i64 0)] [(0, 1), (1, 1)]), [(.t 9), (.t 14)], none, []⟩,
 ⟨none, (.store 2 none), [(.t 4), (.t 15)], none, []⟩] 0 [4])
 .ret)),
 [(.c 4 (some 2))]⟩
theorem c34 : funC Try.prog [(0, [2, 3, 4]), (1, [4])] Try.f34 = some (unF l34) := by kernel_rfl
/-- acme/acmeref02.Step -/
def b35_0 : LCode :=
 (.seq
 (.seq
 (.reg true [] [] [
 ⟨(some 7), .mv, [(.t 6)], none, []⟩,
 ⟨(some 8), (.fa 0), [(.t 2)], none, []⟩,
 ⟨(some 9), (.load none), [(.t 8)], none, []⟩,
 ⟨(some 10), .len, [(.t 9)], none, []⟩,
 ⟨(some 11), (.bin 0 .lss), [(.t 7), (.t 10)], none, []⟩,
 ⟨(some 12), .mv, [(.t 11)], none, []⟩,
 ⟨(some 13), .mv, [(.t 1)], (some (12, true)), []⟩,
 ⟨(some 14), (.bin 0 .geq), [(.t 13), (.c (.int .i64 1))], (some (12, true)), []⟩,
 ⟨(some 15), .pick, [(.t 12), (.t 14), (.c (.bool false))], none, []⟩] 0 [1, 2, 6, 15])
 (.cond (.t 15)
 .skip
 (.exit 0)))
 (.seq
 (.block 1
 (.seq
 (.reg true [] [] [
 ⟨(some 18), .mv, [(.t 1)], none, []⟩,
 ⟨(some 19), (.fa 0), [(.t 2)], none, []⟩,
 ⟨(some 20), (.load none), [(.t 19)], none, []⟩,
 ⟨(some 21), .mv, [(.t 6)], none, []⟩,
 ⟨(some 22), (.ixs 1), [(.t 20), (.t 21)], none, []⟩,
 ⟨(some 23), (.load none), [(.t 22)], none, []⟩,
 ⟨(some 24), (.bin 0 .leq), [(.t 18), (.t 23)], none, []⟩] 0 [1, 2, 6, 24])
 (.cond (.t 24)
 (.seq
 (.reg true [] [] [
 ⟨(some 25), .mv, [(.t 6)], none, []⟩,
 ⟨(some 4), .mv, [(.t 25)], none, []⟩,
 ⟨(some 5), .mv, [(.c (.bool true))], none, []⟩] 0 [4, 5])
 .ret)
 .skip)))
 (.reg true [] [] [
 ⟨(some 16), .mv, [(.t 6)], none, []⟩,
 ⟨(some 17), (.bin 0 .add), [(.t 16), (.c (.int .i64 1))], none, []⟩,
 ⟨(some 6), .mv, [(.t 17)], none, []⟩] 0 [1, 2, 6])))
def l35 : LFun := ⟨2, 26, [],
 (.seq
 (.reg false [2] [2] [
 ⟨(some 2), .box, [(.t 0)], none, []⟩,
 ⟨(some 4), .mv, [(.c (.int .i64 0))], none, []⟩,
 ⟨(some 5), .mv, [(.c (.bool false))], none, []⟩] 0 [1, 2])
 (.seq
 (.seq
 (.reg false [] [] [
 ⟨(some 6), .mv, [(.c (.int .i64 0))], none, []⟩] 0 [1, 2, 6])
 (.block 0
 (.loop b35_0)))
 (.seq
 (.reg false [] [] [
 ⟨(some 4), .mv, [(.c (.int .i64 0))], none, []⟩,
 ⟨(some 5), .mv, [(.c (.bool false))], none, []⟩] 0 [4, 5])
 .ret))),
 [(.t 4), (.t 5)]⟩
theorem c35 : funC Try.prog [(0, [1, 2]), (1, [1, 2, 6]), (2, [1, 2, 6, 15]), (3, [1, 2, 6]), (4, [1, 2, 6, 24]), (5, [4, 5]), (6, [4, 5])] Try.f35 = some (unF l35) := by kernel_rfl
/-- acme/acmeref02.Pairs -/
def b36_3 : LCode :=
 (.seq
 (.seq
 (.reg true [] [] [
 ⟨(some 37), .mv, [(.t 13)], none, []⟩,
 ⟨(some 38), (.fa 1), [(.t 4)], none, []⟩,
 ⟨(some 39), (.load none), [(.t 38)], none, []⟩,
 ⟨(some 40), .len, [(.t 39)], none, []⟩,
 ⟨(some 41), (.bin 0 .lss), [(.t 37), (.t 40)], none, []⟩] 0 [1, 2, 4, 7, 9, 10, 11, 12, 13, 41])
 (.cond (.t 41)
 .skip
 (.exit 6)))
 (.seq
 (.block 7
 (.seq
 (.reg true [14] [14] [
 ⟨(some 44), .mv, [(.t 10)], none, []⟩,
 ⟨(some 45), .mv, [(.t 11)], none, []⟩,
 ⟨(some 46), (.build [(.int .i64 0), (.int .i64 0)] [(0, 1), (1, 1)]), [(.t 44), (.t 45)], none, []⟩,
 ⟨(some 47), .mv, [(.t 12)], none, []⟩,
 ⟨(some 48), .mv, [(.t 13)], none, []⟩,
 ⟨(some 49), (.build [(.int .i64 0), (.int .i64 0)] [(0, 1), (1, 1)]), [(.t 47), (.t 48)], none, []⟩,
 ⟨(some 50), (.build [(.int .i64 0), (.int .i64 0), (.int .i64 0), (.int .i64 0)] [(0, 2), (2, 2)]), [(.t 46), (.t 49)], none, []⟩,
 ⟨(some 14), (.alloc [(.int .i64 0), (.int .i64 0), (.int .i64 0), (.int .i64 0)]), [], none, []⟩,
 ⟨none, (.store 4 none), [(.t 14), (.t 50)], none, []⟩] 0 [1, 2, 4, 7, 9, 10, 11, 12, 13, 14])
 (.seq
 (.reg true [] [] [
 ⟨(some 51), (.load (some 3)), [(.t 4)], none, [52, 53, 54, 55, 57, 58, 59, 60, 61, 64]⟩,
 ⟨(some 52), (.fa 0), [(.t 14)], none, [51, 54, 55, 57, 58, 59, 60, 61, 64]⟩,
 ⟨(some 53), (.load (some 2)), [(.t 52)], none, [51, 54, 55, 57, 58, 59, 60, 61, 64]⟩,
 ⟨(some 54), .mv, [(.t 1)], none, [51, 52, 53, 55, 57, 58, 59, 60, 61, 64]⟩,
 ⟨(some 55), .mv, [(.t 2)], none, [51, 52, 53, 54, 57, 58, 59, 60, 61, 64]⟩,
 ⟨(some 56), (.call true false false), [(.f 62), (.t 51), (.t 53), (.c (.bool false)), (.t 54), (.t 55)], none, [57, 58, 59, 60, 61, 64]⟩,
 ⟨(some 57), (.load (some 3)), [(.t 4)], none, [51, 52, 53, 54, 55, 56, 58, 59, 60, 61, 64]⟩,
 ⟨(some 58), (.fa 2), [(.t 14)], none, [51, 52, 53, 54, 55, 56, 57, 60, 61, 64]⟩,
 ⟨(some 59), (.load (some 2)), [(.t 58)], none, [51, 52, 53, 54, 55, 56, 57, 60, 61, 64]⟩,
 ⟨(some 60), .mv, [(.t 1)], none, [51, 52, 53, 54, 55, 56, 57, 58, 59, 61, 64]⟩,
 ⟨(some 61), .mv, [(.t 2)], none, [51, 52, 53, 54, 55, 56, 57, 58, 59, 60, 64]⟩,
 ⟨(some 62), (.call true false false), [(.f 62), (.t 57), (.t 59), (.c (.bool true)), (.t 60), (.t 61)], none, [64]⟩,
 ⟨(some 63), (.call true false false), [(.f 34), (.t 56), (.t 62)], none, [64]⟩,
 ⟨(some 64), (.load (some 2)), [(.t 7)], none, [51, 52, 53, 54, 55, 56, 57, 58, 59, 60, 61, 62, 63]⟩,
 ⟨(some 65), (.call true false false), [(.f 78), (.t 63), (.t 64)], none, []⟩] 0 [1, 2, 4, 7, 9, 10, 11, 12, 13, 14, 65])
 (.cond (.t 65)
 (.reg true [68, 69] [68] [
 ⟨(some 66), .mv, [(.t 9)], none, []⟩,
 ⟨(some 67), (.load (some 4)), [(.t 14)], none, []⟩,
 ⟨(some 68), (.bsl 4 [(.int .i64 0), (.int .i64 0), (.int .i64 0), (.int .i64 0)] 1 [0]), [(.t 67)], none, []⟩,
 ⟨(some 69), (.append false 4 32), [(.t 66), (.t 68)], none, []⟩,
 ⟨(some 9), .mv, [(.t 69)], none, []⟩] 0 [1, 2, 4, 7, 9, 10, 11, 12, 13])
 .skip))))
 (.reg true [] [] [
 ⟨(some 42), .mv, [(.t 13)], none, []⟩,
 ⟨(some 43), (.bin 0 .add), [(.t 42), (.c (.int .i64 1))], none, []⟩,
 ⟨(some 13), .mv, [(.t 43)], none, []⟩] 0 [1, 2, 4, 7, 9, 10, 11, 12, 13])))
def b36_2 : LCode :=
 (.seq
 (.seq
 (.reg true [] [] [
 ⟨(some 30), .mv, [(.t 12)], none, []⟩,
 ⟨(some 31), (.fa 2), [(.t 4)], none, []⟩,
 ⟨(some 32), (.load none), [(.t 31)], none, []⟩,
 ⟨(some 33), .len, [(.t 32)], none, []⟩,
 ⟨(some 34), (.bin 0 .lss), [(.t 30), (.t 33)], none, []⟩] 0 [1, 2, 4, 7, 9, 10, 11, 12, 34])
 (.cond (.t 34)
 .skip
 (.exit 4)))
 (.seq
 (.block 5
 (.seq
 (.reg true [] [] [
 ⟨(some 13), .mv, [(.c (.int .i64 0))], none, []⟩] 0 [1, 2, 4, 7, 9, 10, 11, 12, 13])
 (.block 6
 (.loop b36_3))))
 (.reg true [] [] [
 ⟨(some 35), .mv, [(.t 12)], none, []⟩,
 ⟨(some 36), (.bin 0 .add), [(.t 35), (.c (.int .i64 1))], none, []⟩,
 ⟨(some 12), .mv, [(.t 36)], none, []⟩] 0 [1, 2, 4, 7, 9, 10, 11, 12])))
def b36_1 : LCode :=
 (.seq
 (.seq
 (.reg true [] [] [
 ⟨(some 23), .mv, [(.t 11)], none, []⟩,
 ⟨(some 24), (.fa 1), [(.t 4)], none, []⟩,
 ⟨(some 25), (.load none), [(.t 24)], none, []⟩,
 ⟨(some 26), .len, [(.t 25)], none, []⟩,
 ⟨(some 27), (.bin 0 .lss), [(.t 23), (.t 26)], none, []⟩] 0 [1, 2, 4, 7, 9, 10, 11, 27])
 (.cond (.t 27)
 .skip
 (.exit 2)))
 (.seq
 (.block 3
 (.seq
 (.reg true [] [] [
 ⟨(some 12), .mv, [(.c (.int .i64 0))], none, []⟩] 0 [1, 2, 4, 7, 9, 10, 11, 12])
 (.block 4
 (.loop b36_2))))
 (.reg true [] [] [
 ⟨(some 28), .mv, [(.t 11)], none, []⟩,
 ⟨(some 29), (.bin 0 .add), [(.t 28), (.c (.int .i64 1))], none, []⟩,
 ⟨(some 11), .mv, [(.t 29)], none, []⟩] 0 [1, 2, 4, 7, 9, 10, 11])))
def b36_0 : LCode :=
 (.seq
 (.seq
 (.reg true [] [] [
 ⟨(some 16), .mv, [(.t 10)], none, []⟩,
 ⟨(some 17), (.fa 2), [(.t 4)], none, []⟩,
 ⟨(some 18), (.load none), [(.t 17)], none, []⟩,
 ⟨(some 19), .len, [(.t 18)], none, []⟩,
 ⟨(some 20), (.bin 0 .lss), [(.t 16), (.t 19)], none, []⟩] 0 [1, 2, 4, 7, 9, 10, 20])
 (.cond (.t 20)
 .skip
 (.exit 0)))
 (.seq
 (.block 1
 (.seq
 (.reg true [] [] [
 ⟨(some 11), .mv, [(.c (.int .i64 0))], none, []⟩] 0 [1, 2, 4, 7, 9, 10, 11])
 (.block 2
 (.loop b36_1))))
 (.reg true [] [] [
 ⟨(some 21), .mv, [(.t 10)], none, []⟩,
 ⟨(some 22), (.bin 0 .add), [(.t 21), (.c (.int .i64 1))], none, []⟩,
 ⟨(some 10), .mv, [(.t 22)], none, []⟩] 0 [1, 2, 4, 7, 9, 10])))
def l36 : LFun := ⟨4, 71, [],
 (.seq
 (.reg false [4, 7] [4, 7] [
 ⟨(some 4), .box, [(.t 0)], none, []⟩,
 ⟨(some 7), .box, [(.t 3)], none, []⟩,
 ⟨(some 8), .mv, [(.c (.sl none 4 []))], none, []⟩] 0 [1, 2, 4, 7])
 (.seq
 (.reg false [15] [15] [
 ⟨(some 15), (.bsl 4 [(.int .i64 0), (.int .i64 0), (.int .i64 0), (.int .i64 0)] 0 []), [], none, []⟩,
 ⟨(some 9), .mv, [(.t 15)], none, []⟩] 0 [1, 2, 4, 7, 9])
 (.seq
 (.seq
 (.reg false [] [] [
 ⟨(some 10), .mv, [(.c (.int .i64 0))], none, []⟩] 0 [1, 2, 4, 7, 9, 10])
 (.block 0
 (.loop b36_0)))
 (.seq
 (.reg false [] [] [
 ⟨(some 70), .mv, [(.t 9)], none, []⟩,
 ⟨(some 8), .mv, [(.t 70)], none, []⟩] 0 [8])
 .ret)))),
 [(.t 8)]⟩
theorem c36 : funC Try.prog [(0, [1, 2, 4, 7]), (1, [1, 2, 4, 7, 9]), (2, [1, 2, 4, 7, 9, 10]), (3, [1, 2, 4, 7, 9, 10, 20]), (4, [1, 2, 4, 7, 9, 10]), (5, [1, 2, 4, 7, 9, 10, 11]), (6, [1, 2, 4, 7, 9, 10, 11, 27]), (7, [1, 2, 4, 7, 9, 10, 11]), (8, [1, 2, 4, 7, 9, 10, 11, 12]), (9, [1, 2, 4, 7, 9, 10, 11, 12, 34]), (10, [1, 2, 4, 7, 9, 10, 11, 12]), (11, [1, 2, 4, 7, 9, 10, 11, 12, 13]), (12, [1, 2, 4, 7, 9, 10, 11, 12, 13, 41]), (13, [1, 2, 4, 7, 9, 10, 11, 12, 13]), (14, [1, 2, 4, 7, 9, 10, 11, 12, 13, 14]), (15, [1, 2, 4, 7, 9, 10, 11, 12, 13, 14, 65]), (16, [1, 2, 4, 7, 9, 10, 11, 12, 13]), (17, [8])] Try.f36 = some (unF l36) := by kernel_rfl
/-- acme/zone.Within -/
def b37_0 : LCode :=
 (.seq
 (.reg true [] [] [
 ⟨(some 34), (.bin 0 .lss), [(.t 33), (.t 32)], none, []⟩] 0 [3, 5, 6, 8, 10, 12, 31, 32, 33, 34])
 (.seq
 (.cond (.t 34)
 .skip
 (.exit 0))
 (.seq
 (.block 1
 (.seq
 (.reg true [] [] [
 ⟨(some 35), .mv, [(.t 33)], none, []⟩,
 ⟨(some 36), (.ixs 1), [(.t 31), (.t 33)], none, []⟩,
 ⟨(some 37), (.load none), [(.t 36)], none, []⟩,
 ⟨(some 13), .mv, [(.t 35)], none, []⟩,
 ⟨(some 14), .mv, [(.t 37)], none, []⟩] 0 [3, 5, 6, 8, 10, 12, 13, 14, 31, 32, 33])
 (.seq
 (.reg true [15] [15] [
 ⟨(some 38), .mv, [(.t 12)], none, []⟩,
 ⟨(some 39), .mv, [(.t 14)], none, []⟩,
 ⟨(some 40), (.build [(.int .i64 0), (.int .i64 0)] [(0, 1), (1, 1)]), [(.t 38), (.t 39)], none, []⟩,
 ⟨(some 15), (.alloc [(.int .i64 0), (.int .i64 0)]), [], none, []⟩,
 ⟨none, (.store 2 none), [(.t 15), (.t 40)], none, []⟩] 0 [3, 5, 6, 8, 10, 13, 14, 15, 31, 32, 33])
 (.seq
 (.reg true [] [] [
 ⟨(some 41), .mv, [(.t 14)], none, []⟩,
 ⟨(some 42), (.bin 0 .add), [(.t 41), (.c (.int .i64 1))], none, []⟩,
 ⟨(some 12), .mv, [(.t 42)], none, []⟩] 0 [3, 5, 6, 8, 10, 12, 13, 14, 15, 31, 32, 33])
 (.seq
 (.seq
 (.reg true [] [] [
 ⟨(some 43), (.load (some 3)), [(.t 10)], none, [44, 45, 46, 47, 49, 50, 51, 52, 53]⟩,
 ⟨(some 44), (.load (some 2)), [(.t 5)], none, [43, 45, 46, 47, 49, 50, 51, 52, 53]⟩,
 ⟨(some 45), .mv, [(.t 3)], none, [43, 44, 46, 47, 49, 50, 51, 52, 53]⟩,
 ⟨(some 46), .mv, [(.t 14)], none, [43, 44, 45, 47, 49, 50, 51, 52, 53]⟩,
 ⟨(some 47), .mv, [(.t 13)], none, [43, 44, 45, 46, 49, 50, 51, 52, 53]⟩,
 ⟨(some 48), (.call true false false), [(.f 61), (.t 43), (.t 44), (.t 45), (.t 46), (.t 47)], none, [49, 50, 51, 52, 53]⟩,
 ⟨(some 49), (.load (some 3)), [(.t 10)], none, [43, 44, 45, 46, 47, 48, 50, 51, 52, 53]⟩,
 ⟨(some 50), (.load (some 2)), [(.t 6)], none, [43, 44, 45, 46, 47, 48, 49, 51, 52, 53]⟩,
 ⟨(some 51), .mv, [(.t 3)], none, [43, 44, 45, 46, 47, 48, 49, 50, 52, 53]⟩,
 ⟨(some 52), .mv, [(.t 14)], none, [43, 44, 45, 46, 47, 48, 49, 50, 51, 53]⟩,
 ⟨(some 53), .mv, [(.t 13)], none, [43, 44, 45, 46, 47, 48, 49, 50, 51, 52]⟩,
 ⟨(some 54), (.call true false false), [(.f 61), (.t 49), (.t 50), (.t 51), (.t 52), (.t 53)], none, []⟩,
 ⟨(some 55), (.fld 0 (some 2)), [(.t 54)], none, []⟩,
 ⟨(some 56), (.call true false false), [(.f 73), (.t 48), (.t 55)], none, []⟩,
 ⟨(some 57), (.un .not), [(.t 56)], none, []⟩] 0 [3, 5, 6, 8, 10, 12, 15, 31, 32, 33, 57])
 (.cond (.t 57)
 (.exit 1)
 .skip))
 (.seq
 (.seq
 (.reg true [] [] [
 ⟨(some 58), .mv, [(.t 8)], none, []⟩,
 ⟨(some 59), .len, [(.t 58)], none, []⟩,
 ⟨(some 16), .mv, [(.t 59)], none, []⟩] 0 [3, 5, 6, 8, 10, 12, 15, 16, 31, 32, 33])
 (.seq
 (.reg true [] [] [
 ⟨(some 60), .mv, [(.t 16)], none, []⟩,
 ⟨(some 61), (.bin 0 .gtr), [(.t 60), (.c (.int .i64 0))], none, []⟩,
 ⟨(some 62), .mv, [(.t 61)], none, []⟩,
 ⟨(some 63), .mv, [(.t 8)], (some (62, true)), [64, 65, 70, 71]⟩,
 ⟨(some 64), .mv, [(.t 16)], (some (62, true)), [63, 70, 71]⟩,
 ⟨(some 65), (.bin 0 .sub), [(.t 64), (.c (.int .i64 1))], (some (62, true)), [63, 70, 71]⟩,
 ⟨(some 66), (.ixs 2), [(.t 63), (.t 65)], (some (62, true)), [70, 71]⟩,
 ⟨(some 67), (.fa 1), [(.t 66)], (some (62, true)), [70, 71]⟩,
 ⟨(some 68), (.load none), [(.t 67)], (some (62, true)), [70, 71]⟩,
 ⟨(some 69), (.bin 0 .add), [(.t 68), (.c (.int .i64 1))], (some (62, true)), [70, 71]⟩,
 ⟨(some 70), (.fa 0), [(.t 15)], (some (62, true)), [63, 64, 65, 66, 67, 68, 69]⟩,
 ⟨(some 71), (.load none), [(.t 70)], (some (62, true)), [63, 64, 65, 66, 67, 68, 69]⟩,
 ⟨(some 72), (.bin 0 .eql), [(.t 69), (.t 71)], (some (62, true)), []⟩,
 ⟨(some 73), .pick, [(.t 62), (.t 72), (.c (.bool false))], none, []⟩] 0 [3, 5, 6, 8, 10, 12, 15, 16, 31, 32, 33, 73])
 (.cond (.t 73)
 (.seq
 (.reg true [] [] [
 ⟨(some 74), .mv, [(.t 8)], none, []⟩,
 ⟨(some 75), .mv, [(.t 16)], none, []⟩,
 ⟨(some 76), (.bin 0 .sub), [(.t 75), (.c (.int .i64 1))], none, []⟩,
 ⟨(some 77), (.fa 1), [(.t 15)], none, []⟩,
 ⟨(some 78), (.load none), [(.t 77)], none, []⟩,
 ⟨(some 79), (.ixs 2), [(.t 74), (.t 76)], none, []⟩,
 ⟨(some 80), (.fa 1), [(.t 79)], none, []⟩,
 ⟨none, (.store 1 none), [(.t 80), (.t 78)], none, []⟩] 0 [3, 5, 6, 8, 10, 12, 31, 32, 33])
 (.exit 1))
 .skip)))
 (.reg true [83, 84] [83] [
 ⟨(some 81), .mv, [(.t 8)], none, []⟩,
 ⟨(some 82), (.load (some 2)), [(.t 15)], none, []⟩,
 ⟨(some 83), (.bsl 2 [(.int .i64 0), (.int .i64 0)] 1 [0]), [(.t 82)], none, []⟩,
 ⟨(some 84), (.append false 2 16), [(.t 81), (.t 83)], none, []⟩,
 ⟨(some 8), .mv, [(.t 84)], none, []⟩] 0 [3, 5, 6, 8, 10, 12, 31, 32, 33])))))))
 (.reg true [] [] [
 ⟨(some 85), (.bin 0 .add), [(.t 33), (.c (.int .i64 1))], none, []⟩,
 ⟨(some 33), .mv, [(.t 85)], none, []⟩] 0 [3, 5, 6, 8, 10, 12, 31, 32, 33]))))
def l37 : LFun := ⟨4, 87, [],
 (.seq
 (.reg false [4, 5, 6] [4, 5, 6] [
 ⟨(some 4), .box, [(.t 0)], none, []⟩,
 ⟨(some 5), .box, [(.t 1)], none, []⟩,
 ⟨(some 6), .box, [(.t 2)], none, []⟩,
 ⟨(some 8), .mv, [(.c (.sl (some 2008400) 2 []))], none, []⟩,
 ⟨(some 9), .mv, [(.c (.int .i64 0))], none, []⟩] 0 [3, 4, 5, 6, 8])
 (.seq
 (.reg false [21, 22, 10] [21, 22, 10] [
 ⟨(some 18), (.load (some 3)), [(.t 4)], none, []⟩,
 ⟨(some 19), (.load (some 2)), [(.t 5)], none, []⟩,
 ⟨(some 20), (.load (some 2)), [(.t 6)], none, []⟩,
 ⟨(some 21), (.bsl 2 [(.int .i64 0), (.int .i64 0)] 2 [0, 1]), [(.t 19), (.t 20)], none, []⟩,
 ⟨(some 22), (.call false true true), [(.f 60), (.t 18), (.c (.int .i64 1)), (.t 21)], none, []⟩,
 ⟨(some 17), .mv, [(.t 22)], none, []⟩,
 ⟨(some 23), (.ext 0), [(.t 17)], none, []⟩,
 ⟨(some 24), (.ext 1), [(.t 17)], none, []⟩,
 ⟨(some 25), (.ext 2), [(.t 17)], none, []⟩,
 ⟨(some 10), (.alloc [(.sl none 1 []), (.sl none 1 []), (.sl none 1 [])]), [], none, []⟩,
 ⟨none, (.store 3 none), [(.t 10), (.t 23)], none, []⟩,
 ⟨(some 11), .mv, [(.t 24)], none, []⟩,
 ⟨(some 9), .mv, [(.t 25)], none, []⟩] 0 [3, 5, 6, 8, 9, 10])
 (.seq
 (.seq
 (.reg false [] [] [
 ⟨(some 26), .mv, [(.t 9)], none, []⟩,
 ⟨(some 27), (.bin 0 .neq), [(.t 26), (.c (.int .i64 0))], none, []⟩] 0 [3, 5, 6, 8, 9, 10, 27])
 (.cond (.t 27)
 (.seq
 (.reg false [] [] [
 ⟨(some 28), .mv, [(.t 9)], none, []⟩,
 ⟨(some 8), .mv, [(.c (.sl (some 2008400) 2 []))], none, []⟩,
 ⟨(some 9), .mv, [(.t 28)], none, []⟩] 0 [8, 9])
 .ret)
 .skip))
 (.seq
 (.reg false [] [] [
 ⟨(some 12), .mv, [(.c (.int .i64 1))], none, []⟩] 0 [3, 5, 6, 8, 10, 12])
 (.seq
 (.seq
 (.reg false [] [] [
 ⟨(some 29), (.fa 0), [(.t 10)], none, []⟩,
 ⟨(some 30), (.fa 0), [(.t 29)], none, []⟩,
 ⟨(some 31), (.load none), [(.t 30)], none, []⟩,
 ⟨(some 32), .len, [(.t 31)], none, []⟩,
 ⟨(some 33), .mv, [(.c (.int .i64 0))], none, []⟩] 0 [3, 5, 6, 8, 10, 12, 31, 32, 33])
 (.block 0
 (.loop b37_0)))
 (.seq
 (.reg false [] [] [
 ⟨(some 86), .mv, [(.t 8)], none, []⟩,
 ⟨(some 8), .mv, [(.t 86)], none, []⟩,
 ⟨(some 9), .mv, [(.c (.int .i64 0))], none, []⟩] 0 [8, 9])
 .ret)))))),
 [(.t 8), (.t 9)]⟩
theorem c37 : funC Try.prog [(0, [3, 4, 5, 6, 8]), (1, [3, 5, 6, 8, 9, 10]), (2, [3, 5, 6, 8, 9, 10, 27]), (3, [8, 9]), (4, [3, 5, 6, 8, 10, 12]), (5, [3, 5, 6, 8, 10, 12, 31, 32, 33]), (6, [3, 5, 6, 8, 10, 12, 31, 32, 33, 34]), (7, [3, 5, 6, 8, 10, 12, 13, 14, 31, 32, 33]), (8, [3, 5, 6, 8, 10, 13, 14, 15, 31, 32, 33]), (9, [3, 5, 6, 8, 10, 12, 13, 14, 15, 31, 32, 33]), (10, [3, 5, 6, 8, 10, 12, 15, 31, 32, 33, 57]), (11, [3, 5, 6, 8, 10, 12, 15, 16, 31, 32, 33]), (12, [3, 5, 6, 8, 10, 12, 15, 16, 31, 32, 33, 73]), (13, [3, 5, 6, 8, 10, 12, 31, 32, 33]), (14, [3, 5, 6, 8, 10, 12, 31, 32, 33]), (15, [3, 5, 6, 8, 10, 12, 31, 32, 33]), (16, [8, 9])] Try.f37 = some (unF l37) := by kernel_rfl
/-- acme/acmeref02.Class -/
def l38 : LFun := ⟨2, 21, [],
 (.seq
 (.reg false [2, 3] [2, 3] [
 ⟨(some 2), .box, [(.t 0)], none, []⟩,
 ⟨(some 3), .box, [(.t 1)], none, []⟩,
 ⟨(some 4), .mv, [(.c (.bool false))], none, []⟩] 0 [2, 3])
 (.seq
 (.reg false [] [] [
 ⟨(some 5), (.fa 0), [(.t 3)], none, []⟩,
 ⟨(some 6), (.load none), [(.t 5)], none, []⟩,
 ⟨(some 7), (.fa 2), [(.t 2)], none, []⟩,
 ⟨(some 8), (.load none), [(.t 7)], none, []⟩,
 ⟨(some 9), .len, [(.t 8)], none, []⟩,
 ⟨(some 10), (.bin 0 .sub), [(.t 9), (.c (.int .i64 1))], none, []⟩,
 ⟨(some 11), (.call false false false), [(.f 65), (.t 6), (.c (.int .i64 0)), (.t 10)], none, []⟩,
 ⟨(some 12), .mv, [(.t 11)], none, []⟩,
 ⟨(some 13), (.fa 1), [(.t 3)], (some (12, true)), []⟩,
 ⟨(some 14), (.load none), [(.t 13)], (some (12, true)), []⟩,
 ⟨(some 15), (.fa 1), [(.t 2)], (some (12, true)), []⟩,
 ⟨(some 16), (.load none), [(.t 15)], (some (12, true)), []⟩,
 ⟨(some 17), .len, [(.t 16)], (some (12, true)), []⟩,
 ⟨(some 18), (.bin 0 .sub), [(.t 17), (.c (.int .i64 1))], (some (12, true)), []⟩,
 ⟨(some 19), (.call false false false), [(.f 65), (.t 14), (.c (.int .i64 0)), (.t 18)], (some (12, true)), []⟩,
 ⟨(some 20), .pick, [(.t 12), (.t 19), (.c (.bool false))], none, []⟩,
 ⟨(some 4), .mv, [(.t 20)], none, []⟩] 0 [4])
 .ret)),
 [(.t 4)]⟩
theorem c38 : funC Try.prog [(0, [2, 3]), (1, [4])] Try.f38 = some (unF l38) := by kernel_rfl
/-- acme/acmeref02.Same -/
def b39_0 : LCode :=
 (.seq
 (.seq
 (.reg true [] [] [
 ⟨(some 11), .mv, [(.t 5)], none, []⟩,
 ⟨(some 12), .mv, [(.t 0)], none, []⟩,
 ⟨(some 13), .len, [(.t 12)], none, []⟩,
 ⟨(some 14), (.bin 0 .lss), [(.t 11), (.t 13)], none, []⟩] 0 [0, 1, 5, 14])
 (.cond (.t 14)
 .skip
 (.exit 0)))
 (.seq
 (.block 1
 (.seq
 (.reg true [] [] [
 ⟨(some 17), .mv, [(.t 0)], none, [18, 21, 22, 23, 24]⟩,
 ⟨(some 18), .mv, [(.t 5)], none, [17, 21, 22, 23, 24]⟩,
 ⟨(some 19), (.ixs 2), [(.t 17), (.t 18)], none, [21, 22, 23, 24]⟩,
 ⟨(some 20), (.load (some 2)), [(.t 19)], none, [21, 22, 23, 24]⟩,
 ⟨(some 21), .mv, [(.t 1)], none, [17, 18, 19, 20, 22]⟩,
 ⟨(some 22), .mv, [(.t 5)], none, [17, 18, 19, 20, 21]⟩,
 ⟨(some 23), (.ixs 2), [(.t 21), (.t 22)], none, [17, 18, 19, 20]⟩,
 ⟨(some 24), (.load (some 2)), [(.t 23)], none, [17, 18, 19, 20]⟩,
 ⟨(some 25), (.eqs true [(some .i64), (some .i64)]), [(.t 20), (.t 24)], none, []⟩] 0 [0, 1, 5, 25])
 (.cond (.t 25)
 (.seq
 (.reg true [] [] [
 ⟨(some 4), .mv, [(.c (.bool false))], none, []⟩] 0 [4])
 .ret)
 .skip)))
 (.reg true [] [] [
 ⟨(some 15), .mv, [(.t 5)], none, []⟩,
 ⟨(some 16), (.bin 0 .add), [(.t 15), (.c (.int .i64 1))], none, []⟩,
 ⟨(some 5), .mv, [(.t 16)], none, []⟩] 0 [0, 1, 5])))
def l39 : LFun := ⟨2, 26, [],
 (.seq
 (.reg false [] [] [
 ⟨(some 4), .mv, [(.c (.bool false))], none, []⟩] 0 [0, 1])
 (.seq
 (.seq
 (.reg false [] [] [
 ⟨(some 6), .mv, [(.t 0)], none, []⟩,
 ⟨(some 7), .len, [(.t 6)], none, []⟩,
 ⟨(some 8), .mv, [(.t 1)], none, []⟩,
 ⟨(some 9), .len, [(.t 8)], none, []⟩,
 ⟨(some 10), (.bin 0 .neq), [(.t 7), (.t 9)], none, []⟩] 0 [0, 1, 10])
 (.cond (.t 10)
 (.seq
 (.reg false [] [] [
 ⟨(some 4), .mv, [(.c (.bool false))], none, []⟩] 0 [4])
 .ret)
 .skip))
 (.seq
 (.seq
 (.reg false [] [] [
 ⟨(some 5), .mv, [(.c (.int .i64 0))], none, []⟩] 0 [0, 1, 5])
 (.block 0
 (.loop b39_0)))
 (.seq
 (.reg false [] [] [
 ⟨(some 4), .mv, [(.c (.bool true))], none, []⟩] 0 [4])
 .ret)))),
 [(.t 4)]⟩
theorem c39 : funC Try.prog [(0, [0, 1]), (1, [0, 1, 10]), (2, [4]), (3, [0, 1, 5]), (4, [0, 1, 5, 14]), (5, [0, 1, 5]), (6, [0, 1, 5, 25]), (7, [4]), (8, [4])] Try.f39 = some (unF l39) := by kernel_rfl
end Go.Lo
