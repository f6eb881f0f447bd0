/- Texts put together. -/
import Derived.Test.YtfjoinchnnabiaaPe
import Derived.Test.YtfjoinchnnabiaaProg
import Derived.KernelRfl
/- The functions that are reached, compiled for the plain machine. -/
namespace Go.Lo
open Go.Proofs
/-- acme/acmetop.TopTurnsFit -/
def l3 : LFun := ⟨3, 115, [],
 (.seq
 (.reg false [3, 5] [3, 5] [
 ⟨(some 3), .box, [(.t 0)], none, []⟩,
 ⟨(some 5), .box, [(.t 2)], none, []⟩,
 ⟨(some 6), .mv, [(.c (.bool false))], none, []⟩] 0 [1, 3, 5])
 (.seq
 (.reg false [7, 8] [7, 8] [
 ⟨(some 24), (.load (some 4)), [(.t 3)], none, []⟩,
 ⟨(some 25), (.call false false false), [(.f 18), (.t 24)], none, []⟩,
 ⟨(some 23), .mv, [(.t 25)], none, []⟩,
 ⟨(some 26), (.ext 0), [(.t 23)], none, []⟩,
 ⟨(some 27), (.ext 1), [(.t 23)], none, []⟩,
 ⟨(some 28), (.ext 2), [(.t 23)], none, []⟩,
 ⟨(some 29), (.ext 3), [(.t 23)], none, []⟩,
 ⟨(some 7), (.alloc [(.int .i64 0), (.int .i64 0), (.int .i64 0), (.int .i64 0), (.int .i64 0), (.int .i64 0), (.bool false), (.int .i64 0)]), [], none, []⟩,
 ⟨(some 8), (.alloc [(.int .i64 0), (.int .i64 0), (.int .i64 0), (.int .i64 0), (.int .i64 0), (.int .i64 0), (.bool false), (.int .i64 0)]), [], none, []⟩,
 ⟨none, (.store 8 none), [(.t 7), (.t 26)], none, []⟩,
 ⟨none, (.store 8 none), [(.t 8), (.t 27)], none, []⟩,
 ⟨(some 9), .mv, [(.t 28)], none, []⟩,
 ⟨(some 10), .mv, [(.t 29)], none, []⟩] 0 [1, 5, 7, 8, 9, 10])
 (.seq
 (.reg false [12] [12] [
 ⟨(some 30), .mv, [(.t 1)], none, []⟩,
 ⟨(some 31), (.conv .i64), [(.t 30)], none, []⟩,
 ⟨(some 32), (.bin 0 .rem), [(.t 31), (.c (.int .i64 20))], none, []⟩,
 ⟨(some 33), (.bin 0 .add), [(.c (.int .i64 1)), (.t 32)], none, []⟩,
 ⟨(some 34), (.load (some 2)), [(.t 5)], none, []⟩,
 ⟨(some 35), (.call false false false), [(.f 19), (.t 34)], none, []⟩,
 ⟨(some 12), (.alloc [(.int .i64 0), (.int .i64 0)]), [], none, []⟩,
 ⟨(some 11), .mv, [(.t 33)], none, []⟩,
 ⟨none, (.store 2 none), [(.t 12), (.t 35)], none, []⟩] 0 [7, 8, 9, 10, 11, 12])
 (.seq
 (.reg false [] [] [
 ⟨(some 37), (.load (some 8)), [(.t 7)], none, []⟩,
 ⟨(some 38), (.load (some 8)), [(.t 8)], none, []⟩,
 ⟨(some 39), .mv, [(.t 9)], none, []⟩,
 ⟨(some 40), .mv, [(.t 10)], none, []⟩,
 ⟨(some 41), (.load (some 2)), [(.t 12)], none, []⟩,
 ⟨(some 42), (.call false false false), [(.f 20), (.t 37), (.t 38), (.t 39), (.t 40), (.t 41)], none, []⟩,
 ⟨(some 36), .mv, [(.t 42)], none, []⟩,
 ⟨(some 43), (.ext 0), [(.t 36)], none, []⟩,
 ⟨(some 44), (.ext 1), [(.t 36)], none, []⟩,
 ⟨(some 13), .mv, [(.t 43)], none, []⟩,
 ⟨(some 14), .mv, [(.t 44)], none, []⟩] 0 [7, 8, 9, 10, 11, 12, 13, 14])
 (.seq
 (.reg false [48, 52, 15, 16] [48, 52, 15, 16] [
 ⟨(some 45), (.load (some 8)), [(.t 7)], none, [46, 47, 49, 50, 51, 15, 16]⟩,
 ⟨(some 46), .mv, [(.t 11)], none, [45, 47, 49, 50, 51, 15, 16]⟩,
 ⟨(some 47), .mv, [(.t 9)], none, [45, 46, 49, 50, 51, 15, 16]⟩,
 ⟨(some 48), (.call true false true), [(.f 21), (.t 45), (.t 46), (.t 47)], none, [49, 50, 51, 15, 16]⟩,
 ⟨(some 49), (.load (some 8)), [(.t 8)], none, [45, 46, 47, 48, 50, 51, 15, 16]⟩,
 ⟨(some 50), .mv, [(.t 11)], none, [45, 46, 47, 48, 49, 51, 15, 16]⟩,
 ⟨(some 51), .mv, [(.t 10)], none, [45, 46, 47, 48, 49, 50, 15, 16]⟩,
 ⟨(some 52), (.call false false true), [(.f 21), (.t 49), (.t 50), (.t 51)], none, [15, 16]⟩,
 ⟨(some 15), (.alloc [(.sl none 2 []), (.int .i64 0), (.int .i64 0)]), [], none, [45, 46, 47, 48, 49, 50, 51, 52, 16]⟩,
 ⟨(some 16), (.alloc [(.sl none 2 []), (.int .i64 0), (.int .i64 0)]), [], none, [45, 46, 47, 48, 49, 50, 51, 52, 15]⟩,
 ⟨none, (.store 3 (some 15)), [(.t 15), (.t 48)], none, []⟩,
 ⟨none, (.store 3 (some 16)), [(.t 16), (.t 52)], none, []⟩] 0 [7, 8, 9, 10, 11, 12, 13, 14, 15, 16])
 (.seq
 (.reg false [55, 57, 59] [55, 57, 59] [
 ⟨(some 54), (.load (some 3)), [(.t 15)], none, []⟩,
 ⟨(some 55), (.bsl 3 [.nil, (.int .i64 0), (.int .i64 0)] 1 [0]), [(.t 54)], none, []⟩,
 ⟨(some 56), (.load (some 3)), [(.t 16)], none, []⟩,
 ⟨(some 57), (.bsl 3 [.nil, (.int .i64 0), (.int .i64 0)] 1 [0]), [(.t 56)], none, []⟩,
 ⟨(some 58), (.load (some 2)), [(.t 12)], none, []⟩,
 ⟨(some 59), (.call false false true), [(.f 22), (.t 55), (.t 57), (.t 58)], none, []⟩,
 ⟨(some 53), .mv, [(.t 59)], none, []⟩,
 ⟨(some 60), (.ext 0), [(.t 53)], none, []⟩,
 ⟨(some 61), (.ext 1), [(.t 53)], none, []⟩,
 ⟨(some 17), .mv, [(.t 60)], none, []⟩,
 ⟨(some 18), .mv, [(.t 61)], none, []⟩] 0 [7, 8, 9, 10, 11, 12, 13, 14, 15, 16, 17, 18])
 (.seq
 (.reg false [] [] [
 ⟨(some 63), (.load (some 8)), [(.t 7)], none, []⟩,
 ⟨(some 64), (.load (some 3)), [(.t 15)], none, []⟩,
 ⟨(some 65), (.load (some 2)), [(.t 12)], none, []⟩,
 ⟨(some 66), (.call false false false), [(.f 23), (.t 63), (.t 64), (.t 65)], none, []⟩,
 ⟨(some 62), .mv, [(.t 66)], none, []⟩,
 ⟨(some 67), (.ext 0), [(.t 62)], none, []⟩,
 ⟨(some 68), (.ext 1), [(.t 62)], none, []⟩,
 ⟨(some 19), .mv, [(.t 67)], none, []⟩,
 ⟨(some 20), .mv, [(.t 68)], none, []⟩] 0 [8, 9, 10, 11, 12, 13, 14, 16, 17, 18, 19, 20])
 (.seq
 (.reg false [] [] [
 ⟨(some 70), (.load (some 8)), [(.t 8)], none, []⟩,
 ⟨(some 71), (.load (some 3)), [(.t 16)], none, []⟩,
 ⟨(some 72), (.load (some 2)), [(.t 12)], none, []⟩,
 ⟨(some 73), (.call false false false), [(.f 24), (.t 70), (.t 71), (.t 72)], none, []⟩,
 ⟨(some 69), .mv, [(.t 73)], none, []⟩,
 ⟨(some 74), (.ext 0), [(.t 69)], none, []⟩,
 ⟨(some 75), (.ext 1), [(.t 69)], none, []⟩,
 ⟨(some 21), .mv, [(.t 74)], none, []⟩,
 ⟨(some 22), .mv, [(.t 75)], none, []⟩] 0 [9, 10, 11, 13, 14, 17, 18, 19, 20, 21, 22])
 (.seq
 (.reg false [] [] [
 ⟨(some 76), .mv, [(.t 14)], none, []⟩,
 ⟨(some 77), (.bin 0 .eql), [(.t 76), (.c (.int .i64 0))], none, []⟩,
 ⟨(some 78), .mv, [(.t 77)], none, []⟩,
 ⟨(some 79), .mv, [(.t 18)], (some (78, true)), []⟩,
 ⟨(some 80), (.bin 0 .eql), [(.t 79), (.c (.int .i64 0))], (some (78, true)), []⟩,
 ⟨(some 81), .pick, [(.t 78), (.t 80), (.c (.bool false))], none, []⟩,
 ⟨(some 82), .mv, [(.t 81)], none, []⟩,
 ⟨(some 83), .mv, [(.t 20)], (some (82, true)), []⟩,
 ⟨(some 84), (.bin 0 .eql), [(.t 83), (.c (.int .i64 0))], (some (82, true)), []⟩,
 ⟨(some 85), .pick, [(.t 82), (.t 84), (.c (.bool false))], none, []⟩,
 ⟨(some 86), .mv, [(.t 85)], none, []⟩,
 ⟨(some 87), .mv, [(.t 22)], (some (86, true)), []⟩,
 ⟨(some 88), (.bin 0 .eql), [(.t 87), (.c (.int .i64 0))], (some (86, true)), []⟩,
 ⟨(some 89), .pick, [(.t 86), (.t 88), (.c (.bool false))], none, []⟩,
 ⟨(some 90), .mv, [(.t 89)], none, []⟩,
 ⟨(some 91), .mv, [(.t 17)], (some (90, true)), []⟩,
 ⟨(some 92), .len, [(.t 91)], (some (90, true)), []⟩,
 ⟨(some 93), (.bin 0 .eql), [(.t 92), (.c (.int .i64 1))], (some (90, true)), []⟩,
 ⟨(some 94), .mv, [(.t 11)], (some (90, true)), []⟩,
 ⟨(some 95), .mv, [(.t 13)], (some (90, true)), []⟩,
 ⟨(some 96), (.bin 0 .leq), [(.t 94), (.t 95)], (some (90, true)), []⟩,
 ⟨(some 97), (.bin 1 .eql), [(.t 93), (.t 96)], (some (90, true)), []⟩,
 ⟨(some 98), .pick, [(.t 90), (.t 97), (.c (.bool false))], none, []⟩,
 ⟨(some 99), .mv, [(.t 98)], none, []⟩,
 ⟨(some 100), .mv, [(.t 19)], (some (99, true)), []⟩,
 ⟨(some 101), .mv, [(.t 9)], (some (99, true)), []⟩,
 ⟨(some 102), (.bin 0 .eql), [(.t 100), (.t 101)], (some (99, true)), []⟩,
 ⟨(some 103), .pick, [(.t 99), (.t 102), (.c (.bool false))], none, []⟩,
 ⟨(some 104), .mv, [(.t 103)], none, []⟩,
 ⟨(some 105), .mv, [(.t 21)], (some (104, true)), []⟩,
 ⟨(some 106), .mv, [(.t 10)], (some (104, true)), []⟩,
 ⟨(some 107), (.bin 0 .eql), [(.t 105), (.t 106)], (some (104, true)), []⟩,
 ⟨(some 108), .pick, [(.t 104), (.t 107), (.c (.bool false))], none, []⟩,
 ⟨(some 109), .mv, [(.t 108)], none, []⟩,
 ⟨(some 110), (.call false false false), [(.f 25)], (some (109, true)), []⟩,
 ⟨(some 111), .pick, [(.t 109), (.t 110), (.c (.bool false))], none, []⟩,
 ⟨(some 112), .mv, [(.t 111)], none, []⟩,
 ⟨(some 113), (.call false false false), [(.f 26)], (some (112, true)), []⟩,
 ⟨(some 114), .pick, [(.t 112), (.t 113), (.c (.bool false))], none, []⟩,
 ⟨(some 6), .mv, [(.t 114)], none, []⟩] 0 [6])
 .ret))))))))),
 [(.t 6)]⟩
theorem c3 : funC Try.prog [(0, [1, 3, 5]), (1, [1, 5, 7, 8, 9, 10]), (2, [7, 8, 9, 10, 11, 12]), (3, [7, 8, 9, 10, 11, 12, 13, 14]), (4, [7, 8, 9, 10, 11, 12, 13, 14, 15, 16]), (5, [7, 8, 9, 10, 11, 12, 13, 14, 15, 16, 17, 18]), (6, [8, 9, 10, 11, 12, 13, 14, 16, 17, 18, 19, 20]), (7, [9, 10, 11, 13, 14, 17, 18, 19, 20, 21, 22]), (8, [6])] Try.f3 = some (unF l3) := by kernel_rfl
/-- acme/acmetop.TopZoneFit -/
def l10 : LFun := ⟨3, 247, [],
 (.seq
 (.reg false [3, 4, 5] [3, 4, 5] [
 ⟨(some 3), .box, [(.t 0)], none, []⟩,
 ⟨(some 4), .box, [(.t 1)], none, []⟩,
 ⟨(some 5), .box, [(.t 2)], none, []⟩,
 ⟨(some 6), .mv, [(.c (.bool false))], none, []⟩] 0 [3, 4, 5])
 (.seq
 (.reg false [7] [7] [
 ⟨(some 30), (.load (some 5)), [(.t 3)], none, [32, 33, 34, 35, 36, 7]⟩,
 ⟨(some 31), (.call true false false), [(.f 52), (.t 30)], none, [32, 33, 34, 35, 36, 7]⟩,
 ⟨(some 32), (.ixa 3 1), [(.t 5), (.c (.int .i64 2))], none, [30, 31, 7]⟩,
 ⟨(some 33), (.load none), [(.t 32)], none, [30, 31, 7]⟩,
 ⟨(some 34), (.conv .i64), [(.t 33)], none, [30, 31, 7]⟩,
 ⟨(some 35), (.bin 0 .rem), [(.t 34), (.c (.int .i64 5))], none, [30, 31, 7]⟩,
 ⟨(some 36), (.bin 0 .add), [(.c (.int .i64 1)), (.t 35)], none, [30, 31, 7]⟩,
 ⟨(some 7), (.alloc [(.int .i64 0), (.int .i64 0), (.int .i64 0), (.int .i64 0), (.int .i64 0), (.int .i64 0), (.bool false), (.int .i64 0)]), [], none, [30, 31, 32, 33, 34, 35, 36]⟩,
 ⟨none, (.store 8 (some 7)), [(.t 7), (.t 31)], none, [32, 33, 34, 35, 36]⟩,
 ⟨(some 8), .mv, [(.t 36)], none, []⟩] 0 [3, 4, 5, 7, 8])
 (.seq
 (.reg false [] [] [
 ⟨(some 37), (.ixa 4 1), [(.t 4), (.c (.int .i64 0))], none, []⟩,
 ⟨(some 38), (.load none), [(.t 37)], none, []⟩,
 ⟨(some 39), (.conv .i64), [(.t 38)], none, []⟩,
 ⟨(some 40), (.bin 0 .mul), [(.c (.int .i64 100)), (.t 39)], none, []⟩,
 ⟨(some 41), (.bin 0 .add), [(.c (.int .i64 20000)), (.t 40)], none, []⟩,
 ⟨(some 9), .mv, [(.t 41)], none, []⟩] 0 [3, 4, 5, 7, 8, 9])
 (.seq
 (.reg false [42, 48, 54, 55, 62, 63, 64, 10] [42, 48, 54, 55, 62, 63, 64, 10] [
 ⟨(some 42), (.bsl 1 [(.int .i64 0)] 1 [0]), [(.c (.int .i64 50000))], none, []⟩,
 ⟨(some 43), (.ixa 4 1), [(.t 4), (.c (.int .i64 1))], none, []⟩,
 ⟨(some 44), (.load none), [(.t 43)], none, []⟩,
 ⟨(some 45), (.conv .i64), [(.t 44)], none, []⟩,
 ⟨(some 46), (.bin 0 .rem), [(.t 45), (.c (.int .i64 40))], none, []⟩,
 ⟨(some 47), (.bin 0 .mul), [(.c (.int .i64 2)), (.t 46)], none, []⟩,
 ⟨(some 48), (.bsl 1 [(.int .i64 0)] 1 [0]), [(.t 47)], none, []⟩,
 ⟨(some 49), (.ixa 4 1), [(.t 4), (.c (.int .i64 2))], none, []⟩,
 ⟨(some 50), (.load none), [(.t 49)], none, []⟩,
 ⟨(some 51), (.conv .i64), [(.t 50)], none, []⟩,
 ⟨(some 52), (.bin 0 .rem), [(.t 51), (.c (.int .i64 40))], none, []⟩,
 ⟨(some 53), (.bin 0 .mul), [(.c (.int .i64 2)), (.t 52)], none, []⟩,
 ⟨(some 54), (.bsl 1 [(.int .i64 0)] 1 [0]), [(.t 53)], none, []⟩,
 ⟨(some 55), (.bsl 1 [.nil] 2 [0, 1]), [(.t 48), (.t 54)], none, []⟩,
 ⟨(some 56), (.ixa 4 1), [(.t 4), (.c (.int .i64 3))], none, []⟩,
 ⟨(some 57), (.load none), [(.t 56)], none, []⟩,
 ⟨(some 58), (.conv .i64), [(.t 57)], none, []⟩,
 ⟨(some 59), (.bin 0 .rem), [(.t 58), (.c (.int .i64 60))], none, []⟩,
 ⟨(some 60), (.bin 0 .sub), [(.t 59), (.c (.int .i64 20))], none, []⟩,
 ⟨(some 61), (.bin 0 .mul), [(.c (.int .i64 2)), (.t 60)], none, []⟩,
 ⟨(some 62), (.bsl 1 [(.int .i64 0)] 1 [0]), [(.t 61)], none, []⟩,
 ⟨(some 63), (.bsl 1 [(.int .i64 0)] 1 [0]), [(.c (.int .i64 0))], none, []⟩,
 ⟨(some 64), (.bsl 1 [.nil] 2 [0, 1]), [(.t 62), (.t 63)], none, []⟩,
 ⟨(some 65), (.build [(.sl none 1 []), (.sl none 1 []), (.sl none 1 [])] [(0, 1), (1, 1), (2, 1)]), [(.t 42), (.t 55), (.t 64)], none, []⟩,
 ⟨(some 10), (.alloc [(.sl none 1 []), (.sl none 1 []), (.sl none 1 [])]), [], none, []⟩,
 ⟨none, (.store 3 none), [(.t 10), (.t 65)], none, []⟩] 0 [3, 5, 7, 8, 9, 10])
 (.seq
 (.reg false [11] [11] [
 ⟨(some 66), (.build [(.int .i64 0), (.int .i64 0)] [(0, 1), (1, 1)]), [(.c (.int .i64 0)), (.c (.int .i64 0))], none, []⟩,
 ⟨(some 67), (.build [(.int .i64 0), (.int .i64 0)] [(0, 1), (1, 1)]), [(.c (.int .i64 1)), (.c (.int .i64 1))], none, []⟩,
 ⟨(some 68), (.build [(.int .i64 0), (.int .i64 0), (.int .i64 0), (.int .i64 0)] [(0, 2), (2, 2)]), [(.t 66), (.t 67)], none, []⟩,
 ⟨(some 11), (.alloc [(.int .i64 0), (.int .i64 0), (.int .i64 0), (.int .i64 0)]), [], none, []⟩,
 ⟨none, (.store 4 none), [(.t 11), (.t 68)], none, []⟩] 0 [3, 5, 7, 8, 9, 10, 11])
 (.seq
 (.reg false [12] [12] [
 ⟨(some 70), (.load (some 3)), [(.t 10)], none, []⟩,
 ⟨(some 71), (.fa 0), [(.t 11)], none, []⟩,
 ⟨(some 72), (.load (some 2)), [(.t 71)], none, []⟩,
 ⟨(some 73), .mv, [(.t 9)], none, []⟩,
 ⟨(some 74), (.call false false false), [(.f 44), (.t 70), (.t 72), (.c (.bool false)), (.t 73)], none, []⟩,
 ⟨(some 69), .mv, [(.t 74)], none, []⟩,
 ⟨(some 75), (.ext 0), [(.t 69)], none, []⟩,
 ⟨(some 76), (.ext 1), [(.t 69)], none, []⟩,
 ⟨(some 12), (.alloc [(.int .i64 0), (.int .i64 0)]), [], none, []⟩,
 ⟨none, (.store 2 none), [(.t 12), (.t 75)], none, []⟩,
 ⟨(some 13), .mv, [(.t 76)], none, []⟩] 0 [3, 5, 7, 8, 9, 10, 11, 12, 13])
 (.seq
 (.reg false [14] [14] [
 ⟨(some 78), (.load (some 3)), [(.t 10)], none, []⟩,
 ⟨(some 79), (.fa 2), [(.t 11)], none, []⟩,
 ⟨(some 80), (.load (some 2)), [(.t 79)], none, []⟩,
 ⟨(some 81), .mv, [(.t 9)], none, []⟩,
 ⟨(some 82), (.call false false false), [(.f 44), (.t 78), (.t 80), (.c (.bool true)), (.t 81)], none, []⟩,
 ⟨(some 77), .mv, [(.t 82)], none, []⟩,
 ⟨(some 83), (.ext 0), [(.t 77)], none, []⟩,
 ⟨(some 84), (.ext 1), [(.t 77)], none, []⟩,
 ⟨(some 14), (.alloc [(.int .i64 0), (.int .i64 0)]), [], none, []⟩,
 ⟨none, (.store 2 none), [(.t 14), (.t 83)], none, []⟩,
 ⟨(some 15), .mv, [(.t 84)], none, []⟩] 0 [3, 5, 7, 8, 9, 10, 11, 12, 13, 14, 15])
 (.seq
 (.reg false [16] [16] [
 ⟨(some 86), (.load (some 3)), [(.t 10)], none, []⟩,
 ⟨(some 87), (.load (some 4)), [(.t 11)], none, []⟩,
 ⟨(some 88), .mv, [(.t 9)], none, []⟩,
 ⟨(some 89), (.call false false false), [(.f 45), (.t 86), (.t 87), (.t 88)], none, []⟩,
 ⟨(some 85), .mv, [(.t 89)], none, []⟩,
 ⟨(some 90), (.ext 0), [(.t 85)], none, []⟩,
 ⟨(some 91), (.ext 1), [(.t 85)], none, []⟩,
 ⟨(some 16), (.alloc [(.int .i64 0), (.int .i64 0)]), [], none, []⟩,
 ⟨none, (.store 2 none), [(.t 16), (.t 90)], none, []⟩,
 ⟨(some 17), .mv, [(.t 91)], none, []⟩] 0 [3, 5, 7, 8, 9, 12, 13, 14, 15, 16, 17])
 (.seq
 (.seq
 (.reg false [] [] [
 ⟨(some 92), .mv, [(.t 13)], none, []⟩,
 ⟨(some 93), (.bin 0 .neq), [(.t 92), (.c (.int .i64 0))], none, []⟩,
 ⟨(some 94), .mv, [(.t 93)], none, []⟩,
 ⟨(some 95), .mv, [(.t 15)], (some (94, false)), []⟩,
 ⟨(some 96), (.bin 0 .neq), [(.t 95), (.c (.int .i64 0))], (some (94, false)), []⟩,
 ⟨(some 97), .pick, [(.t 94), (.c (.bool true)), (.t 96)], none, []⟩,
 ⟨(some 98), .mv, [(.t 97)], none, []⟩,
 ⟨(some 99), .mv, [(.t 17)], (some (98, false)), []⟩,
 ⟨(some 100), (.bin 0 .neq), [(.t 99), (.c (.int .i64 0))], (some (98, false)), []⟩,
 ⟨(some 101), .pick, [(.t 98), (.c (.bool true)), (.t 100)], none, []⟩,
 ⟨(some 102), .mv, [(.t 101)], none, []⟩,
 ⟨(some 103), (.load (some 2)), [(.t 16)], (some (102, false)), [104, 105, 106, 107, 108, 109, 110, 111, 112, 113, 114]⟩,
 ⟨(some 104), (.fa 0), [(.t 14)], (some (102, false)), [103, 106, 107, 109, 110, 111, 112, 113]⟩,
 ⟨(some 105), (.load none), [(.t 104)], (some (102, false)), [103, 106, 107, 109, 110, 111, 112, 113]⟩,
 ⟨(some 106), (.fa 1), [(.t 12)], (some (102, false)), [103, 104, 105, 109, 110, 111, 112, 113]⟩,
 ⟨(some 107), (.load none), [(.t 106)], (some (102, false)), [103, 104, 105, 109, 110, 111, 112, 113]⟩,
 ⟨(some 108), (.bin 0 .sub), [(.t 105), (.t 107)], (some (102, false)), [103, 109, 110, 111, 112, 113]⟩,
 ⟨(some 109), (.fa 1), [(.t 14)], (some (102, false)), [103, 104, 105, 106, 107, 108, 111, 112]⟩,
 ⟨(some 110), (.load none), [(.t 109)], (some (102, false)), [103, 104, 105, 106, 107, 108, 111, 112]⟩,
 ⟨(some 111), (.fa 0), [(.t 12)], (some (102, false)), [103, 104, 105, 106, 107, 108, 109, 110]⟩,
 ⟨(some 112), (.load none), [(.t 111)], (some (102, false)), [103, 104, 105, 106, 107, 108, 109, 110]⟩,
 ⟨(some 113), (.bin 0 .sub), [(.t 110), (.t 112)], (some (102, false)), [103, 104, 105, 106, 107, 108]⟩,
 ⟨(some 114), (.call true false false), [(.f 46), (.t 108), (.t 113)], (some (102, false)), [103]⟩,
 ⟨(some 115), (.eqs true [(some .i64), (some .i64)]), [(.t 103), (.t 114)], (some (102, false)), []⟩,
 ⟨(some 116), .pick, [(.t 102), (.c (.bool true)), (.t 115)], none, []⟩] 0 [3, 5, 7, 8, 9, 12, 14, 16, 116])
 (.cond (.t 116)
 (.seq
 (.reg false [] [] [
 ⟨(some 6), .mv, [(.c (.bool false))], none, []⟩] 0 [6])
 .ret)
 .skip))
 (.seq
 (.reg false [] [] [
 ⟨(some 117), (.fa 0), [(.t 12)], none, [119, 120, 121, 122, 123, 124, 125, 126, 127, 128, 129, 131, 132, 133, 134, 135, 136, 137, 138, 139, 140, 141, 142, 143, 144]⟩,
 ⟨(some 118), (.load none), [(.t 117)], none, [119, 120, 121, 122, 123, 124, 125, 126, 127, 128, 129, 131, 132, 133, 134, 135, 136, 137, 138, 139, 140, 141, 142, 143, 144]⟩,
 ⟨(some 119), (.ixa 3 1), [(.t 5), (.c (.int .i64 0))], none, [117, 118, 122, 123, 124, 125, 126, 131, 132, 133, 134, 135, 136, 137, 138, 139, 140, 141, 142, 143, 144]⟩,
 ⟨(some 120), (.load none), [(.t 119)], none, [117, 118, 122, 123, 124, 125, 126, 131, 132, 133, 134, 135, 136, 137, 138, 139, 140, 141, 142, 143, 144]⟩,
 ⟨(some 121), (.conv .i64), [(.t 120)], none, [117, 118, 122, 123, 124, 125, 126, 131, 132, 133, 134, 135, 136, 137, 138, 139, 140, 141, 142, 143, 144]⟩,
 ⟨(some 122), (.fa 1), [(.t 12)], none, [117, 118, 119, 120, 121, 124, 125, 131, 132, 133, 134, 135, 136, 137, 138, 139, 140, 141, 142, 143, 144]⟩,
 ⟨(some 123), (.load none), [(.t 122)], none, [117, 118, 119, 120, 121, 124, 125, 131, 132, 133, 134, 135, 136, 137, 138, 139, 140, 141, 142, 143, 144]⟩,
 ⟨(some 124), (.fa 0), [(.t 12)], none, [117, 118, 119, 120, 121, 122, 123, 131, 132, 133, 134, 135, 136, 137, 138, 139, 140, 141, 142, 143, 144]⟩,
 ⟨(some 125), (.load none), [(.t 124)], none, [117, 118, 119, 120, 121, 122, 123, 131, 132, 133, 134, 135, 136, 137, 138, 139, 140, 141, 142, 143, 144]⟩,
 ⟨(some 126), (.bin 0 .sub), [(.t 123), (.t 125)], none, [117, 118, 119, 120, 121, 131, 132, 133, 134, 135, 136, 137, 138, 139, 140, 141, 142, 143, 144]⟩,
 ⟨(some 127), (.bin 0 .mul), [(.t 121), (.t 126)], none, [117, 118, 131, 132, 133, 134, 135, 136, 137, 138, 139, 140, 141, 142, 143, 144]⟩,
 ⟨(some 128), (.bin 0 .quo), [(.t 127), (.c (.int .i64 512))], none, [117, 118, 131, 132, 133, 134, 135, 136, 137, 138, 139, 140, 141, 142, 143, 144]⟩,
 ⟨(some 129), (.bin 0 .mul), [(.c (.int .i64 2)), (.t 128)], none, [117, 118, 131, 132, 133, 134, 135, 136, 137, 138, 139, 140, 141, 142, 143, 144]⟩,
 ⟨(some 130), (.bin 0 .add), [(.t 118), (.t 129)], none, [131, 132, 133, 134, 135, 136, 137, 138, 139, 140, 141, 142, 143, 144]⟩,
 ⟨(some 131), (.fa 0), [(.t 14)], none, [117, 118, 119, 120, 121, 122, 123, 124, 125, 126, 127, 128, 129, 130, 133, 134, 135, 136, 137, 138, 139, 140, 141, 142, 143, 18]⟩,
 ⟨(some 132), (.load none), [(.t 131)], none, [117, 118, 119, 120, 121, 122, 123, 124, 125, 126, 127, 128, 129, 130, 133, 134, 135, 136, 137, 138, 139, 140, 141, 142, 143, 18]⟩,
 ⟨(some 133), (.ixa 3 1), [(.t 5), (.c (.int .i64 1))], none, [117, 118, 119, 120, 121, 122, 123, 124, 125, 126, 127, 128, 129, 130, 131, 132, 136, 137, 138, 139, 140, 18]⟩,
 ⟨(some 134), (.load none), [(.t 133)], none, [117, 118, 119, 120, 121, 122, 123, 124, 125, 126, 127, 128, 129, 130, 131, 132, 136, 137, 138, 139, 140, 18]⟩,
 ⟨(some 135), (.conv .i64), [(.t 134)], none, [117, 118, 119, 120, 121, 122, 123, 124, 125, 126, 127, 128, 129, 130, 131, 132, 136, 137, 138, 139, 140, 18]⟩,
 ⟨(some 136), (.fa 1), [(.t 14)], none, [117, 118, 119, 120, 121, 122, 123, 124, 125, 126, 127, 128, 129, 130, 131, 132, 133, 134, 135, 138, 139, 18]⟩,
 ⟨(some 137), (.load none), [(.t 136)], none, [117, 118, 119, 120, 121, 122, 123, 124, 125, 126, 127, 128, 129, 130, 131, 132, 133, 134, 135, 138, 139, 18]⟩,
 ⟨(some 138), (.fa 0), [(.t 14)], none, [117, 118, 119, 120, 121, 122, 123, 124, 125, 126, 127, 128, 129, 130, 131, 132, 133, 134, 135, 136, 137, 18]⟩,
 ⟨(some 139), (.load none), [(.t 138)], none, [117, 118, 119, 120, 121, 122, 123, 124, 125, 126, 127, 128, 129, 130, 131, 132, 133, 134, 135, 136, 137, 18]⟩,
 ⟨(some 140), (.bin 0 .sub), [(.t 137), (.t 139)], none, [117, 118, 119, 120, 121, 122, 123, 124, 125, 126, 127, 128, 129, 130, 131, 132, 133, 134, 135, 18]⟩,
 ⟨(some 141), (.bin 0 .mul), [(.t 135), (.t 140)], none, [117, 118, 119, 120, 121, 122, 123, 124, 125, 126, 127, 128, 129, 130, 131, 132, 18]⟩,
 ⟨(some 142), (.bin 0 .quo), [(.t 141), (.c (.int .i64 512))], none, [117, 118, 119, 120, 121, 122, 123, 124, 125, 126, 127, 128, 129, 130, 131, 132, 18]⟩,
 ⟨(some 143), (.bin 0 .mul), [(.c (.int .i64 2)), (.t 142)], none, [117, 118, 119, 120, 121, 122, 123, 124, 125, 126, 127, 128, 129, 130, 131, 132, 18]⟩,
 ⟨(some 144), (.bin 0 .add), [(.t 132), (.t 143)], none, [117, 118, 119, 120, 121, 122, 123, 124, 125, 126, 127, 128, 129, 130, 18]⟩,
 ⟨(some 18), .mv, [(.t 130)], none, [131, 132, 133, 134, 135, 136, 137, 138, 139, 140, 141, 142, 143, 144]⟩,
 ⟨(some 19), .mv, [(.t 144)], none, []⟩] 0 [3, 7, 8, 9, 12, 14, 16, 18, 19])
 (.seq
 (.reg false [] [] [
 ⟨(some 145), .mv, [(.t 18)], none, []⟩,
 ⟨(some 146), .mv, [(.t 9)], none, []⟩,
 ⟨(some 147), (.bin 0 .sub), [(.t 145), (.t 146)], none, []⟩,
 ⟨(some 148), (.bin 0 .quo), [(.t 147), (.c (.int .i64 2))], none, []⟩,
 ⟨(some 149), .mv, [(.t 19)], none, []⟩,
 ⟨(some 150), .mv, [(.t 9)], none, []⟩,
 ⟨(some 151), (.bin 0 .sub), [(.t 149), (.t 150)], none, []⟩,
 ⟨(some 152), (.bin 0 .quo), [(.t 151), (.c (.int .i64 2))], none, []⟩,
 ⟨(some 20), .mv, [(.t 148)], none, []⟩,
 ⟨(some 21), .mv, [(.t 152)], none, []⟩] 0 [3, 7, 8, 9, 12, 14, 16, 18, 19, 20, 21])
 (.seq
 (.reg false [160, 22, 23] [160, 22, 23] [
 ⟨(some 154), (.load (some 8)), [(.t 7)], none, [155, 156, 157, 158, 159, 22, 23]⟩,
 ⟨(some 155), .mv, [(.t 20)], none, [154, 156, 157, 158, 159, 22, 23]⟩,
 ⟨(some 156), .mv, [(.t 21)], none, [154, 155, 157, 158, 159, 22, 23]⟩,
 ⟨(some 157), .mv, [(.t 8)], none, [154, 155, 156, 158, 159, 22, 23]⟩,
 ⟨(some 158), (.load (some 5)), [(.t 3)], none, [154, 155, 156, 157, 22, 23]⟩,
 ⟨(some 159), (.call true false false), [(.f 54), (.t 158)], none, [154, 155, 156, 157, 22, 23]⟩,
 ⟨(some 160), (.call false false true), [(.f 53), (.t 154), (.t 155), (.t 156), (.t 157), (.t 159)], none, [22, 23]⟩,
 ⟨(some 153), .mv, [(.t 160)], none, [22, 23]⟩,
 ⟨(some 161), (.ext 0), [(.t 153)], none, [162, 163, 164, 22, 23]⟩,
 ⟨(some 162), (.ext 1), [(.t 153)], none, [161, 163, 164, 22, 23]⟩,
 ⟨(some 163), (.ext 2), [(.t 153)], none, [161, 162, 164, 22, 23]⟩,
 ⟨(some 164), (.ext 3), [(.t 153)], none, [161, 162, 163, 22, 23, 24]⟩,
 ⟨(some 22), (.alloc [.nil, (.int .i64 0), (.int .i64 0)]), [], none, [154, 155, 156, 157, 158, 159, 160, 153, 161, 162, 163, 164, 23]⟩,
 ⟨(some 23), (.alloc [.nil, (.int .i64 0), (.int .i64 0)]), [], none, [154, 155, 156, 157, 158, 159, 160, 153, 161, 162, 163, 164, 22]⟩,
 ⟨none, (.store 3 (some 22)), [(.t 22), (.t 161)], none, [162, 163, 164]⟩,
 ⟨none, (.store 3 (some 23)), [(.t 23), (.t 162)], none, [163, 164]⟩,
 ⟨(some 24), .mv, [(.t 163)], none, [164]⟩,
 ⟨(some 25), .mv, [(.t 164)], none, []⟩] 0 [3, 7, 8, 9, 12, 14, 16, 18, 19, 20, 21, 24, 25])
 (.seq
 (.seq
 (.reg false [] [] [
 ⟨(some 165), .mv, [(.t 25)], none, []⟩,
 ⟨(some 166), (.bin 0 .neq), [(.t 165), (.c (.int .i64 0))], none, []⟩,
 ⟨(some 167), .mv, [(.t 166)], none, []⟩,
 ⟨(some 168), .mv, [(.t 19)], (some (167, false)), []⟩,
 ⟨(some 169), .mv, [(.t 18)], (some (167, false)), []⟩,
 ⟨(some 170), (.bin 0 .sub), [(.t 168), (.t 169)], (some (167, false)), []⟩,
 ⟨(some 171), (.bin 0 .geq), [(.t 170), (.c (.int .i64 0))], (some (167, false)), []⟩,
 ⟨(some 172), .mv, [(.t 20)], (some (167, false)), []⟩,
 ⟨(some 173), .mv, [(.t 21)], (some (167, false)), []⟩,
 ⟨(some 174), (.bin 0 .leq), [(.t 172), (.t 173)], (some (167, false)), []⟩,
 ⟨(some 175), (.bin 1 .neq), [(.t 171), (.t 174)], (some (167, false)), []⟩,
 ⟨(some 176), .pick, [(.t 167), (.c (.bool true)), (.t 175)], none, []⟩,
 ⟨(some 177), .mv, [(.t 176)], none, []⟩,
 ⟨(some 178), .mv, [(.t 20)], (some (177, false)), []⟩,
 ⟨(some 179), .mv, [(.t 21)], (some (177, false)), []⟩,
 ⟨(some 180), (.bin 0 .leq), [(.t 178), (.t 179)], (some (177, false)), []⟩,
 ⟨(some 181), .mv, [(.t 180)], (some (177, false)), []⟩,
 ⟨(some 182), .mv, [(.t 24)], (some (181, true)), []⟩,
 ⟨(some 183), (.un .not), [(.t 182)], (some (181, true)), []⟩,
 ⟨(some 184), .pick, [(.t 181), (.t 183), (.c (.bool false))], (some (177, false)), []⟩,
 ⟨(some 185), .pick, [(.t 177), (.c (.bool true)), (.t 184)], none, []⟩,
 ⟨(some 186), .mv, [(.t 185)], none, []⟩,
 ⟨(some 187), (.fa 0), [(.t 16)], (some (186, false)), []⟩,
 ⟨(some 188), (.load none), [(.t 187)], (some (186, false)), []⟩,
 ⟨(some 189), (.bin 0 .geq), [(.t 188), (.c (.int .i64 0))], (some (186, false)), []⟩,
 ⟨(some 190), .mv, [(.t 189)], (some (186, false)), []⟩,
 ⟨(some 191), .mv, [(.t 24)], (some (190, true)), []⟩,
 ⟨(some 192), (.un .not), [(.t 191)], (some (190, true)), []⟩,
 ⟨(some 193), .pick, [(.t 190), (.t 192), (.c (.bool false))], (some (186, false)), []⟩,
 ⟨(some 194), .pick, [(.t 186), (.c (.bool true)), (.t 193)], none, []⟩] 0 [3, 7, 8, 9, 12, 14, 16, 194])
 (.cond (.t 194)
 (.seq
 (.reg false [] [] [
 ⟨(some 6), .mv, [(.c (.bool false))], none, []⟩] 0 [6])
 .ret)
 .skip))
 (.seq
 (.reg false [210, 26, 27] [210, 26, 27] [
 ⟨(some 196), (.load (some 8)), [(.t 7)], none, [197, 198, 199, 200, 201, 202, 203, 204, 205, 206, 207, 208, 209, 26, 27]⟩,
 ⟨(some 197), (.fa 1), [(.t 12)], none, [196, 199, 202, 203, 204, 205, 206, 207, 208, 209, 26, 27]⟩,
 ⟨(some 198), (.load none), [(.t 197)], none, [196, 199, 202, 203, 204, 205, 206, 207, 208, 209, 26, 27]⟩,
 ⟨(some 199), .mv, [(.t 9)], none, [196, 197, 198, 202, 203, 204, 205, 206, 207, 208, 209, 26, 27]⟩,
 ⟨(some 200), (.bin 0 .sub), [(.t 198), (.t 199)], none, [196, 202, 203, 204, 205, 206, 207, 208, 209, 26, 27]⟩,
 ⟨(some 201), (.bin 0 .quo), [(.t 200), (.c (.int .i64 2))], none, [196, 202, 203, 204, 205, 206, 207, 208, 209, 26, 27]⟩,
 ⟨(some 202), (.fa 0), [(.t 14)], none, [196, 197, 198, 199, 200, 201, 204, 207, 208, 209, 26, 27]⟩,
 ⟨(some 203), (.load none), [(.t 202)], none, [196, 197, 198, 199, 200, 201, 204, 207, 208, 209, 26, 27]⟩,
 ⟨(some 204), .mv, [(.t 9)], none, [196, 197, 198, 199, 200, 201, 202, 203, 207, 208, 209, 26, 27]⟩,
 ⟨(some 205), (.bin 0 .sub), [(.t 203), (.t 204)], none, [196, 197, 198, 199, 200, 201, 207, 208, 209, 26, 27]⟩,
 ⟨(some 206), (.bin 0 .quo), [(.t 205), (.c (.int .i64 2))], none, [196, 197, 198, 199, 200, 201, 207, 208, 209, 26, 27]⟩,
 ⟨(some 207), .mv, [(.t 8)], none, [196, 197, 198, 199, 200, 201, 202, 203, 204, 205, 206, 208, 209, 26, 27]⟩,
 ⟨(some 208), (.load (some 5)), [(.t 3)], none, [196, 197, 198, 199, 200, 201, 202, 203, 204, 205, 206, 207, 26, 27]⟩,
 ⟨(some 209), (.call true false false), [(.f 54), (.t 208)], none, [196, 197, 198, 199, 200, 201, 202, 203, 204, 205, 206, 207, 26, 27]⟩,
 ⟨(some 210), (.call false false true), [(.f 53), (.t 196), (.t 201), (.t 206), (.t 207), (.t 209)], none, [26, 27]⟩,
 ⟨(some 195), .mv, [(.t 210)], none, [26, 27]⟩,
 ⟨(some 211), (.ext 0), [(.t 195)], none, [212, 213, 214, 26, 27]⟩,
 ⟨(some 212), (.ext 1), [(.t 195)], none, [211, 213, 214, 26, 27]⟩,
 ⟨(some 213), (.ext 2), [(.t 195)], none, [211, 212, 214, 26, 27]⟩,
 ⟨(some 214), (.ext 3), [(.t 195)], none, [211, 212, 213, 26, 27, 28]⟩,
 ⟨(some 26), (.alloc [.nil, (.int .i64 0), (.int .i64 0)]), [], none, [196, 197, 198, 199, 200, 201, 202, 203, 204, 205, 206, 207, 208, 209, 210, 195, 211, 212, 213, 214, 27]⟩,
 ⟨(some 27), (.alloc [.nil, (.int .i64 0), (.int .i64 0)]), [], none, [196, 197, 198, 199, 200, 201, 202, 203, 204, 205, 206, 207, 208, 209, 210, 195, 211, 212, 213, 214, 26]⟩,
 ⟨none, (.store 3 (some 26)), [(.t 26), (.t 211)], none, [212, 213, 214]⟩,
 ⟨none, (.store 3 (some 27)), [(.t 27), (.t 212)], none, [213, 214]⟩,
 ⟨(some 28), .mv, [(.t 213)], none, [214]⟩,
 ⟨(some 29), .mv, [(.t 214)], none, []⟩] 0 [7, 16, 28, 29])
 (.seq
 (.reg false [] [] [
 ⟨(some 215), .mv, [(.t 29)], none, []⟩,
 ⟨(some 216), (.bin 0 .eql), [(.t 215), (.c (.int .i64 0))], none, []⟩,
 ⟨(some 217), .mv, [(.t 216)], none, []⟩,
 ⟨(some 218), (.fa 0), [(.t 16)], (some (217, true)), []⟩,
 ⟨(some 219), (.load none), [(.t 218)], (some (217, true)), []⟩,
 ⟨(some 220), (.bin 0 .lss), [(.t 219), (.c (.int .i64 0))], (some (217, true)), []⟩,
 ⟨(some 221), .mv, [(.t 220)], (some (217, true)), []⟩,
 ⟨(some 222), .mv, [(.t 28)], (some (221, false)), []⟩,
 ⟨(some 223), .pick, [(.t 221), (.c (.bool true)), (.t 222)], (some (217, true)), []⟩,
 ⟨(some 224), .pick, [(.t 217), (.t 223), (.c (.bool false))], none, []⟩,
 ⟨(some 225), .mv, [(.t 224)], none, []⟩,
 ⟨(some 226), (.fa 0), [(.t 16)], (some (225, true)), []⟩,
 ⟨(some 227), (.load none), [(.t 226)], (some (225, true)), []⟩,
 ⟨(some 228), (.un .neg), [(.t 227)], (some (225, true)), []⟩,
 ⟨(some 229), (.fa 1), [(.t 7)], (some (225, true)), []⟩,
 ⟨(some 230), (.load none), [(.t 229)], (some (225, true)), []⟩,
 ⟨(some 231), (.fa 2), [(.t 7)], (some (225, true)), []⟩,
 ⟨(some 232), (.load none), [(.t 231)], (some (225, true)), []⟩,
 ⟨(some 233), (.bin 0 .add), [(.t 230), (.t 232)], (some (225, true)), []⟩,
 ⟨(some 234), (.bin 0 .mul), [(.t 228), (.t 233)], (some (225, true)), []⟩,
 ⟨(some 235), (.bin 0 .leq), [(.t 234), (.c (.int .i64 8000))], (some (225, true)), []⟩,
 ⟨(some 236), .mv, [(.t 235)], (some (225, true)), []⟩,
 ⟨(some 237), .mv, [(.t 28)], (some (236, false)), []⟩,
 ⟨(some 238), (.un .not), [(.t 237)], (some (236, false)), []⟩,
 ⟨(some 239), .pick, [(.t 236), (.c (.bool true)), (.t 238)], (some (225, true)), []⟩,
 ⟨(some 240), .pick, [(.t 225), (.t 239), (.c (.bool false))], none, []⟩,
 ⟨(some 241), .mv, [(.t 240)], none, []⟩,
 ⟨(some 242), (.call false false false), [(.f 47)], (some (241, true)), []⟩,
 ⟨(some 243), .pick, [(.t 241), (.t 242), (.c (.bool false))], none, []⟩,
 ⟨(some 244), .mv, [(.t 243)], none, []⟩,
 ⟨(some 245), (.call false false false), [(.f 55)], (some (244, true)), []⟩,
 ⟨(some 246), .pick, [(.t 244), (.t 245), (.c (.bool false))], none, []⟩,
 ⟨(some 6), .mv, [(.t 246)], none, []⟩] 0 [6])
 .ret))))))))))))))),
 [(.t 6)]⟩
theorem c10 : funC Try.prog [(0, [3, 4, 5]), (1, [3, 4, 5, 7, 8]), (2, [3, 4, 5, 7, 8, 9]), (3, [3, 5, 7, 8, 9, 10]), (4, [3, 5, 7, 8, 9, 10, 11]), (5, [3, 5, 7, 8, 9, 10, 11, 12, 13]), (6, [3, 5, 7, 8, 9, 10, 11, 12, 13, 14, 15]), (7, [3, 5, 7, 8, 9, 12, 13, 14, 15, 16, 17]), (8, [3, 5, 7, 8, 9, 12, 14, 16, 116]), (9, [6]), (10, [3, 7, 8, 9, 12, 14, 16, 18, 19]), (11, [3, 7, 8, 9, 12, 14, 16, 18, 19, 20, 21]), (12, [3, 7, 8, 9, 12, 14, 16, 18, 19, 20, 21, 24, 25]), (13, [3, 7, 8, 9, 12, 14, 16, 194]), (14, [6]), (15, [7, 16, 28, 29]), (16, [6])] Try.f10 = some (unF l10) := by kernel_rfl
/-- acme/acmetop.pubTwo -/
def l18 : LFun := ⟨1, 39, [],
 (.seq
 (.reg false [1, 2, 3] [1, 2, 3] [
 ⟨(some 1), .box, [(.t 0)], none, []⟩,
 ⟨(some 2), (.alloc [(.int .i64 0), (.int .i64 0), (.int .i64 0), (.int .i64 0), (.int .i64 0), (.int .i64 0), (.bool false), (.int .i64 0)]), [], none, []⟩,
 ⟨(some 3), (.alloc [(.int .i64 0), (.int .i64 0), (.int .i64 0), (.int .i64 0), (.int .i64 0), (.int .i64 0), (.bool false), (.int .i64 0)]), [], none, []⟩,
 ⟨(some 4), .mv, [(.c (.int .i64 0))], none, []⟩,
 ⟨(some 5), .mv, [(.c (.int .i64 0))], none, []⟩] 0 [1, 2, 3])
 (.seq
 (.reg false [6] [6] [
 ⟨(some 8), (.ixa 4 1), [(.t 1), (.c (.int .i64 0))], none, []⟩,
 ⟨(some 9), (.load none), [(.t 8)], none, []⟩,
 ⟨(some 10), (.conv .i64), [(.t 9)], none, []⟩,
 ⟨(some 11), (.bin 0 .rem), [(.t 10), (.c (.int .i64 50))], none, []⟩,
 ⟨(some 12), (.bin 0 .mul), [(.c (.int .i64 4)), (.t 11)], none, []⟩,
 ⟨(some 13), (.bin 0 .add), [(.c (.int .i64 10000)), (.t 12)], none, []⟩,
 ⟨(some 14), (.build [(.int .i64 0), (.int .i64 0), (.int .i64 0), (.int .i64 0), (.int .i64 0), (.int .i64 0), (.bool false), (.int .i64 0)] [(0, 1), (1, 1), (2, 1), (3, 1), (4, 1), (5, 1)]), [(.t 13), (.c (.int .i64 500)), (.c (.int .i64 500)), (.c (.int .i64 1000)), (.c (.int .i64 1000)), (.c (.int .i64 1))], none, []⟩,
 ⟨(some 6), (.alloc [(.int .i64 0), (.int .i64 0), (.int .i64 0), (.int .i64 0), (.int .i64 0), (.int .i64 0), (.bool false), (.int .i64 0)]), [], none, []⟩,
 ⟨none, (.store 8 none), [(.t 6), (.t 14)], none, []⟩] 0 [1, 2, 3, 6])
 (.seq
 (.reg false [7] [7] [
 ⟨(some 15), (.load (some 8)), [(.t 6)], none, []⟩,
 ⟨(some 7), (.alloc [(.int .i64 0), (.int .i64 0), (.int .i64 0), (.int .i64 0), (.int .i64 0), (.int .i64 0), (.bool false), (.int .i64 0)]), [], none, []⟩,
 ⟨none, (.store 8 none), [(.t 7), (.t 15)], none, []⟩] 0 [1, 2, 3, 6, 7])
 (.seq
 (.reg false [] [] [
 ⟨(some 16), (.fa 0), [(.t 7)], none, []⟩,
 ⟨(some 17), (.load none), [(.t 16)], none, []⟩,
 ⟨(some 18), (.ixa 4 1), [(.t 1), (.c (.int .i64 1))], none, []⟩,
 ⟨(some 19), (.load none), [(.t 18)], none, []⟩,
 ⟨(some 20), (.conv .i64), [(.t 19)], none, []⟩,
 ⟨(some 21), (.bin 0 .rem), [(.t 20), (.c (.int .i64 9))], none, []⟩,
 ⟨(some 22), (.bin 0 .sub), [(.t 21), (.c (.int .i64 4))], none, []⟩,
 ⟨(some 23), (.bin 0 .mul), [(.c (.int .i64 4)), (.t 22)], none, []⟩,
 ⟨(some 24), (.bin 0 .add), [(.t 17), (.t 23)], none, []⟩,
 ⟨(some 25), (.fa 0), [(.t 7)], none, []⟩,
 ⟨none, (.store 1 none), [(.t 25), (.t 24)], none, []⟩] 0 [1, 2, 3, 6, 7])
 (.seq
 (.reg false [] [] [
 ⟨(some 26), (.load (some 8)), [(.t 6)], none, [27, 28, 29, 30, 31, 32, 33, 34, 35, 36, 37, 38]⟩,
 ⟨(some 27), (.load (some 8)), [(.t 7)], none, [26, 28, 29, 30, 31, 32, 33, 34, 35, 36, 37, 38, 2]⟩,
 ⟨(some 28), (.ixa 4 1), [(.t 1), (.c (.int .i64 2))], none, [26, 27, 33, 34, 35, 36, 37, 38, 2, 3]⟩,
 ⟨(some 29), (.load none), [(.t 28)], none, [26, 27, 33, 34, 35, 36, 37, 38, 2, 3]⟩,
 ⟨(some 30), (.conv .i64), [(.t 29)], none, [26, 27, 33, 34, 35, 36, 37, 38, 2, 3]⟩,
 ⟨(some 31), (.bin 0 .rem), [(.t 30), (.c (.int .i64 120))], none, [26, 27, 33, 34, 35, 36, 37, 38, 2, 3]⟩,
 ⟨(some 32), (.bin 0 .mul), [(.c (.int .i64 (-2))), (.t 31)], none, [26, 27, 33, 34, 35, 36, 37, 38, 2, 3]⟩,
 ⟨(some 33), (.ixa 4 1), [(.t 1), (.c (.int .i64 3))], none, [26, 27, 28, 29, 30, 31, 32, 2, 3, 4]⟩,
 ⟨(some 34), (.load none), [(.t 33)], none, [26, 27, 28, 29, 30, 31, 32, 2, 3, 4]⟩,
 ⟨(some 35), (.conv .i64), [(.t 34)], none, [26, 27, 28, 29, 30, 31, 32, 2, 3, 4]⟩,
 ⟨(some 36), (.bin 0 .rem), [(.t 35), (.c (.int .i64 60))], none, [26, 27, 28, 29, 30, 31, 32, 2, 3, 4]⟩,
 ⟨(some 37), (.bin 0 .sub), [(.t 36), (.c (.int .i64 10))], none, [26, 27, 28, 29, 30, 31, 32, 2, 3, 4]⟩,
 ⟨(some 38), (.bin 0 .mul), [(.c (.int .i64 2)), (.t 37)], none, [26, 27, 28, 29, 30, 31, 32, 2, 3, 4]⟩,
 ⟨none, (.store 8 (some 2)), [(.t 2), (.t 26)], none, [27, 28, 29, 30, 31, 32, 33, 34, 35, 36, 37, 38]⟩,
 ⟨none, (.store 8 (some 3)), [(.t 3), (.t 27)], none, [28, 29, 30, 31, 32, 33, 34, 35, 36, 37, 38]⟩,
 ⟨(some 4), .mv, [(.t 32)], none, [33, 34, 35, 36, 37, 38]⟩,
 ⟨(some 5), .mv, [(.t 38)], none, []⟩] 0 [2, 3, 4, 5])
 .ret))))),
 [(.c 2 (some 8)), (.c 3 (some 8)), (.t 4), (.t 5)]⟩
theorem c18 : funC Try.prog [(0, [1, 2, 3]), (1, [1, 2, 3, 6]), (2, [1, 2, 3, 6, 7]), (3, [1, 2, 3, 6, 7]), (4, [2, 3, 4, 5])] Try.f18 = some (unF l18) := by kernel_rfl
/-- acme/acmetop.pubDepth -/
def l19 : LFun := ⟨1, 17, [],
 (.seq
 (.reg false [1, 2] [1, 2] [
 ⟨(some 1), .box, [(.t 0)], none, []⟩,
 ⟨(some 2), (.alloc [(.int .i64 0), (.int .i64 0)]), [], none, []⟩] 0 [1, 2])
 (.seq
 (.reg false [] [] [
 ⟨(some 4), (.ixa 2 1), [(.t 1), (.c (.int .i64 0))], none, []⟩,
 ⟨(some 5), (.load none), [(.t 4)], none, []⟩,
 ⟨(some 6), (.conv .i64), [(.t 5)], none, []⟩,
 ⟨(some 7), (.bin 0 .mul), [(.c (.int .i64 8)), (.t 6)], none, []⟩,
 ⟨(some 8), (.bin 0 .sub), [(.t 7), (.c (.int .i64 1200))], none, []⟩,
 ⟨(some 3), .mv, [(.t 8)], none, []⟩] 0 [1, 2, 3])
 (.seq
 (.reg false [] [] [
 ⟨(some 9), .mv, [(.t 3)], none, []⟩,
 ⟨(some 10), .mv, [(.t 3)], none, []⟩,
 ⟨(some 11), (.ixa 2 1), [(.t 1), (.c (.int .i64 1))], none, []⟩,
 ⟨(some 12), (.load none), [(.t 11)], none, []⟩,
 ⟨(some 13), (.conv .i64), [(.t 12)], none, []⟩,
 ⟨(some 14), (.bin 0 .mul), [(.c (.int .i64 8)), (.t 13)], none, []⟩,
 ⟨(some 15), (.bin 0 .add), [(.t 10), (.t 14)], none, []⟩,
 ⟨(some 16), (.call false false false), [(.f 27), (.t 9), (.t 15)], none, []⟩,
 ⟨none, (.store 2 none), [(.t 2), (.t 16)], none, []⟩] 0 [2])
 .ret))),
 [(.c 2 (some 2))]⟩
theorem c19 : funC Try.prog [(0, [1, 2]), (1, [1, 2, 3]), (2, [2])] Try.f19 = some (unF l19) := by kernel_rfl
/-- acme/swap.Turns -/
def l20 : LFun := ⟨5, 37, [],
 (.seq
 (.reg false [5, 6, 9] [5, 6, 9] [
 ⟨(some 5), .box, [(.t 0)], none, []⟩,
 ⟨(some 6), .box, [(.t 1)], none, []⟩,
 ⟨(some 9), .box, [(.t 4)], none, []⟩,
 ⟨(some 10), .mv, [(.c (.int .i64 0))], none, []⟩,
 ⟨(some 11), .mv, [(.c (.int .i64 0))], none, []⟩] 0 [2, 3, 5, 6, 9])
 (.seq
 (.block 0
 (.seq
 (.seq
 (.reg false [] [] [
 ⟨(some 13), (.load (some 8)), [(.t 5)], none, []⟩,
 ⟨(some 14), (.call false false false), [(.f 68), (.t 13)], none, []⟩,
 ⟨(some 15), (.bin 0 .neq), [(.t 14), (.c (.int .i64 0))], none, []⟩,
 ⟨(some 12), .mv, [(.t 15)], none, []⟩] 0 [2, 3, 5, 6, 9, 12])
 (.cond (.t 12)
 .skip
 (.reg false [] [] [
 ⟨(some 16), (.load (some 8)), [(.t 6)], none, []⟩,
 ⟨(some 17), (.call false false false), [(.f 68), (.t 16)], none, []⟩,
 ⟨(some 18), (.bin 0 .neq), [(.t 17), (.c (.int .i64 0))], none, []⟩,
 ⟨(some 12), .mv, [(.t 18)], none, []⟩] 0 [2, 3, 5, 6, 9, 12])))
 (.cond (.t 12)
 (.seq
 (.reg false [] [] [
 ⟨(some 10), .mv, [(.c (.int .i64 0))], none, []⟩,
 ⟨(some 11), .mv, [(.c (.int .i64 2))], none, []⟩] 0 [10, 11])
 .ret)
 (.seq
 (.seq
 (.reg false [22] [22] [
 ⟨(some 20), .mv, [(.t 2)], none, []⟩,
 ⟨(some 21), .mv, [(.t 3)], none, []⟩,
 ⟨(some 22), (.bsl 1 [(.int .i64 0)] 2 [0, 1]), [(.t 20), (.t 21)], none, []⟩,
 ⟨(some 23), (.call false false false), [(.f 69), (.c (.int .i64 (-10000))), (.c (.int .i64 10000)), (.t 22)], none, []⟩,
 ⟨(some 24), (.un .not), [(.t 23)], none, []⟩,
 ⟨(some 19), .mv, [(.t 24)], none, []⟩] 0 [2, 3, 5, 6, 9, 19])
 (.cond (.t 19)
 .skip
 (.reg false [] [] [
 ⟨(some 25), (.load (some 2)), [(.t 9)], none, []⟩,
 ⟨(some 26), (.build [(.int .i64 0), (.int .i64 0)] [(0, 2)]), [(.t 25)], none, []⟩,
 ⟨(some 27), (.call false false false), [(.f 70), (.t 26)], none, []⟩,
 ⟨(some 28), (.un .not), [(.t 27)], none, []⟩,
 ⟨(some 19), .mv, [(.t 28)], none, []⟩] 0 [2, 3, 5, 6, 9, 19])))
 (.cond (.t 19)
 (.seq
 (.reg false [] [] [
 ⟨(some 10), .mv, [(.c (.int .i64 0))], none, []⟩,
 ⟨(some 11), .mv, [(.c (.int .i64 3))], none, []⟩] 0 [10, 11])
 .ret)
 .skip)))))
 (.seq
 (.reg false [] [] [
 ⟨(some 29), (.load (some 8)), [(.t 5)], none, []⟩,
 ⟨(some 30), .mv, [(.t 2)], none, []⟩,
 ⟨(some 31), (.build [(.int .i64 0), (.int .i64 0), (.int .i64 0), (.int .i64 0), (.int .i64 0), (.int .i64 0), (.bool false), (.int .i64 0), (.int .i64 0)] [(0, 8), (8, 1)]), [(.t 29), (.t 30)], none, []⟩,
 ⟨(some 32), (.load (some 8)), [(.t 6)], none, []⟩,
 ⟨(some 33), .mv, [(.t 3)], none, []⟩,
 ⟨(some 34), (.build [(.int .i64 0), (.int .i64 0), (.int .i64 0), (.int .i64 0), (.int .i64 0), (.int .i64 0), (.bool false), (.int .i64 0), (.int .i64 0)] [(0, 8), (8, 1)]), [(.t 32), (.t 33)], none, []⟩,
 ⟨(some 35), (.load (some 2)), [(.t 9)], none, []⟩,
 ⟨(some 36), (.call false false false), [(.f 71), (.t 31), (.t 34), (.t 35)], none, []⟩,
 ⟨(some 10), .mv, [(.t 36)], none, []⟩,
 ⟨(some 11), .mv, [(.c (.int .i64 0))], none, []⟩] 0 [10, 11])
 .ret))),
 [(.t 10), (.t 11)]⟩
theorem c20 : funC Try.prog [(0, [2, 3, 5, 6, 9]), (1, [2, 3, 5, 6, 9, 12]), (2, [2, 3, 5, 6, 9, 12]), (3, [10, 11]), (4, [2, 3, 5, 6, 9, 19]), (5, [2, 3, 5, 6, 9, 19]), (6, [10, 11]), (7, [10, 11])] Try.f20 = some (unF l20) := by kernel_rfl
/-- acme/acmetop.pubPerfect -/
def b21_0 : LCode :=
 (.seq
 (.seq
 (.reg true [] [] [
 ⟨(some 10), .mv, [(.t 8)], none, []⟩,
 ⟨(some 11), .mv, [(.t 1)], none, []⟩,
 ⟨(some 12), (.bin 0 .lss), [(.t 10), (.t 11)], none, []⟩] 0 [1, 2, 3, 6, 7, 8, 12])
 (.cond (.t 12)
 .skip
 (.exit 0)))
 (.seq
 (.block 1
 (.reg true [40, 41] [40] [
 ⟨(some 15), (.fa 0), [(.t 7)], none, []⟩,
 ⟨(some 16), (.load none), [(.t 15)], none, []⟩,
 ⟨(some 17), .mv, [(.t 8)], none, []⟩,
 ⟨(some 18), (.fa 0), [(.t 3)], none, []⟩,
 ⟨(some 19), (.load none), [(.t 18)], none, []⟩,
 ⟨(some 20), (.bin 0 .mul), [(.t 17), (.t 19)], none, []⟩,
 ⟨(some 21), (.fa 0), [(.t 3)], none, []⟩,
 ⟨(some 22), (.load none), [(.t 21)], none, []⟩,
 ⟨(some 23), (.bin 0 .quo), [(.t 22), (.c (.int .i64 4))], none, []⟩,
 ⟨(some 24), (.bin 0 .sub), [(.t 20), (.t 23)], none, []⟩,
 ⟨(some 25), .mv, [(.t 2)], none, []⟩,
 ⟨(some 26), (.bin 0 .quo), [(.t 25), (.c (.int .i64 2))], none, []⟩,
 ⟨(some 27), (.bin 0 .sub), [(.t 24), (.t 26)], none, []⟩,
 ⟨(some 28), .mv, [(.t 8)], none, []⟩,
 ⟨(some 29), (.fa 0), [(.t 3)], none, []⟩,
 ⟨(some 30), (.load none), [(.t 29)], none, []⟩,
 ⟨(some 31), (.bin 0 .mul), [(.t 28), (.t 30)], none, []⟩,
 ⟨(some 32), (.fa 0), [(.t 3)], none, []⟩,
 ⟨(some 33), (.load none), [(.t 32)], none, []⟩,
 ⟨(some 34), (.bin 0 .quo), [(.t 33), (.c (.int .i64 4))], none, []⟩,
 ⟨(some 35), (.bin 0 .add), [(.t 31), (.t 34)], none, []⟩,
 ⟨(some 36), .mv, [(.t 2)], none, []⟩,
 ⟨(some 37), (.bin 0 .quo), [(.t 36), (.c (.int .i64 2))], none, []⟩,
 ⟨(some 38), (.bin 0 .add), [(.t 35), (.t 37)], none, []⟩,
 ⟨(some 39), (.build [(.int .i64 0), (.int .i64 0)] [(0, 1), (1, 1)]), [(.t 27), (.t 38)], none, []⟩,
 ⟨(some 40), (.bsl 2 [(.int .i64 0), (.int .i64 0)] 1 [0]), [(.t 39)], none, []⟩,
 ⟨(some 41), (.append false 2 16), [(.t 16), (.t 40)], none, []⟩,
 ⟨(some 42), (.fa 0), [(.t 7)], none, []⟩,
 ⟨none, (.store 1 none), [(.t 42), (.t 41)], none, []⟩] 0 [1, 2, 3, 6, 7, 8]))
 (.reg true [] [] [
 ⟨(some 13), .mv, [(.t 8)], none, []⟩,
 ⟨(some 14), (.bin 0 .add), [(.t 13), (.c (.int .i64 1))], none, []⟩,
 ⟨(some 8), .mv, [(.t 14)], none, []⟩] 0 [1, 2, 3, 6, 7, 8])))
def l21 : LFun := ⟨3, 44, [],
 (.seq
 (.reg false [3, 6] [3, 6] [
 ⟨(some 3), .box, [(.t 0)], none, []⟩,
 ⟨(some 6), (.alloc [(.sl none 2 []), (.int .i64 0), (.int .i64 0)]), [], none, []⟩] 0 [1, 2, 3, 6])
 (.seq
 (.reg false [7] [7] [
 ⟨(some 9), (.build [(.sl (some 2004100) 2 []), (.int .i64 0), (.int .i64 0)] [(1, 1), (2, 1)]), [(.c (.int .i64 500)), (.c (.int .i64 500))], none, []⟩,
 ⟨(some 7), (.alloc [(.sl (some 2004100) 2 []), (.int .i64 0), (.int .i64 0)]), [], none, []⟩,
 ⟨none, (.store 3 none), [(.t 7), (.t 9)], none, []⟩] 0 [1, 2, 3, 6, 7])
 (.seq
 (.seq
 (.reg false [] [] [
 ⟨(some 8), .mv, [(.c (.int .i64 0))], none, []⟩] 0 [1, 2, 3, 6, 7, 8])
 (.block 0
 (.loop b21_0)))
 (.seq
 (.reg false [] [] [
 ⟨(some 43), (.load (some 3)), [(.t 7)], none, []⟩,
 ⟨none, (.store 3 none), [(.t 6), (.t 43)], none, []⟩] 0 [6])
 .ret)))),
 [(.c 6 (some 3))]⟩
theorem c21 : funC Try.prog [(0, [1, 2, 3, 6]), (1, [1, 2, 3, 6, 7]), (2, [1, 2, 3, 6, 7, 8]), (3, [1, 2, 3, 6, 7, 8, 12]), (4, [1, 2, 3, 6, 7, 8]), (5, [1, 2, 3, 6, 7, 8]), (6, [6])] Try.f21 = some (unF l21) := by kernel_rfl
/-- acme/fit.Goers -/
def b22_0 : LCode :=
 (.seq
 (.reg true [] [] [
 ⟨(some 37), (.bin 0 .lss), [(.t 36), (.t 35)], none, []⟩] 0 [0, 1, 5, 6, 9, 33, 34, 35, 36, 37])
 (.seq
 (.cond (.t 37)
 .skip
 (.exit 0))
 (.seq
 (.block 1
 (.seq
 (.reg true [11] [11] [
 ⟨(some 38), .mv, [(.t 36)], none, []⟩,
 ⟨(some 39), (.ixs 3), [(.t 34), (.t 36)], none, []⟩,
 ⟨(some 40), (.load (some 3)), [(.t 39)], none, []⟩,
 ⟨(some 11), (.alloc [.nil, (.int .i64 0), (.int .i64 0)]), [], none, []⟩,
 ⟨(some 10), .mv, [(.t 38)], none, []⟩,
 ⟨none, (.store 3 none), [(.t 11), (.t 40)], none, []⟩] 0 [0, 1, 5, 6, 9, 10, 11, 33, 34, 35, 36])
 (.alt [52] []
 (.reg true [51, 52] [51, 52] [
 ⟨(some 41), .mv, [(.t 9)], none, [42, 43, 44, 45, 46, 47, 48, 49, 50, 51, 52]⟩,
 ⟨(some 42), (.fa 0), [(.t 11)], none, [41, 45, 46, 47, 48, 49, 50, 51, 52]⟩,
 ⟨(some 43), (.load none), [(.t 42)], none, [41, 45, 46, 47, 48, 49, 50, 51, 52]⟩,
 ⟨(some 44), .len, [(.t 43)], none, [41, 45, 46, 47, 48, 49, 50, 51, 52]⟩,
 ⟨(some 45), .mv, [(.t 9)], none, [41, 42, 43, 44, 46, 47, 48, 50, 51]⟩,
 ⟨(some 46), (.fa 0), [(.t 11)], none, [41, 42, 43, 44, 45, 50, 51]⟩,
 ⟨(some 47), (.load none), [(.t 46)], none, [41, 42, 43, 44, 45, 50, 51]⟩,
 ⟨(some 48), .len, [(.t 47)], none, [41, 42, 43, 44, 45, 50, 51]⟩,
 ⟨(some 49), .mlook, [(.t 45), (.t 48)], none, [41, 42, 43, 44, 50, 51]⟩,
 ⟨(some 50), .mv, [(.t 10)], none, [41, 42, 43, 44, 45, 46, 47, 48, 49]⟩,
 ⟨(some 51), (.bsl 1 [(.int .i64 0)] 1 [0]), [(.t 50)], none, [41, 42, 43, 44, 45, 46, 47, 48, 49]⟩,
 ⟨(some 52), (.append true 1 8), [(.t 49), (.t 51)], none, [41, 42, 43, 44]⟩,
 ⟨none, .mput, [(.t 41), (.t 44), (.t 52)], none, []⟩] 0 [0, 1, 5, 6, 9, 33, 34, 35, 36])
 (.reg true [51, 52] [51] [
 ⟨(some 41), .mv, [(.t 9)], none, [42, 43, 44, 45, 46, 47, 48, 49, 50, 51, 52]⟩,
 ⟨(some 42), (.fa 0), [(.t 11)], none, [41, 45, 46, 47, 48, 49, 50, 51, 52]⟩,
 ⟨(some 43), (.load none), [(.t 42)], none, [41, 45, 46, 47, 48, 49, 50, 51, 52]⟩,
 ⟨(some 44), .len, [(.t 43)], none, [41, 45, 46, 47, 48, 49, 50, 51, 52]⟩,
 ⟨(some 45), .mv, [(.t 9)], none, [41, 42, 43, 44, 46, 47, 48, 50, 51]⟩,
 ⟨(some 46), (.fa 0), [(.t 11)], none, [41, 42, 43, 44, 45, 50, 51]⟩,
 ⟨(some 47), (.load none), [(.t 46)], none, [41, 42, 43, 44, 45, 50, 51]⟩,
 ⟨(some 48), .len, [(.t 47)], none, [41, 42, 43, 44, 45, 50, 51]⟩,
 ⟨(some 49), .mlook, [(.t 45), (.t 48)], none, [41, 42, 43, 44, 50, 51]⟩,
 ⟨(some 50), .mv, [(.t 10)], none, [41, 42, 43, 44, 45, 46, 47, 48, 49]⟩,
 ⟨(some 51), (.bsl 1 [(.int .i64 0)] 1 [0]), [(.t 50)], none, [41, 42, 43, 44, 45, 46, 47, 48, 49]⟩,
 ⟨(some 52), (.appo 1 8), [(.t 49), (.t 51)], none, [41, 42, 43, 44]⟩,
 ⟨none, .mput, [(.t 41), (.t 44), (.t 52)], none, []⟩] 0 [0, 1, 5, 6, 9, 33, 34, 35, 36]))))
 (.reg true [] [] [
 ⟨(some 53), (.bin 0 .add), [(.t 36), (.c (.int .i64 1))], none, []⟩,
 ⟨(some 36), .mv, [(.t 53)], none, []⟩] 0 [0, 1, 5, 6, 9, 33, 34, 35, 36]))))
def b22_2 : LCode :=
 (.seq
 (.reg true [] [] [
 ⟨(some 68), (.bin 0 .lss), [(.t 67), (.t 66)], none, []⟩] 0 [1, 5, 6, 9, 12, 13, 33, 54, 55, 56, 65, 66, 67, 68])
 (.seq
 (.cond (.t 68)
 .skip
 (.exit 4))
 (.seq
 (.block 5
 (.seq
 (.reg true [] [] [
 ⟨(some 69), (.ixs 1), [(.t 65), (.t 67)], none, []⟩,
 ⟨(some 70), (.load none), [(.t 69)], none, []⟩,
 ⟨(some 15), .mv, [(.t 70)], none, []⟩] 0 [1, 5, 6, 9, 12, 13, 15, 33, 54, 55, 56, 65, 66, 67])
 (.seq
 (.reg true [] [] [
 ⟨(some 71), (.load (some 3)), [(.t 13)], none, [72, 73, 74, 75, 76]⟩,
 ⟨(some 72), .mv, [(.t 1)], none, [71, 73, 76]⟩,
 ⟨(some 73), .mv, [(.t 15)], none, [71, 72, 76]⟩,
 ⟨(some 74), (.ixs 3), [(.t 72), (.t 73)], none, [71, 76]⟩,
 ⟨(some 75), (.load (some 3)), [(.t 74)], none, [71, 76]⟩,
 ⟨(some 76), (.load (some 2)), [(.t 5)], none, [71, 72, 73, 74, 75]⟩,
 ⟨(some 77), (.call false false false), [(.f 74), (.t 71), (.t 75), (.t 76)], none, []⟩] 0 [1, 5, 6, 9, 12, 13, 15, 33, 54, 55, 56, 65, 66, 67, 77])
 (.cond (.t 77)
 (.reg true [82, 83] [82] [
 ⟨(some 78), .mv, [(.t 6)], none, []⟩,
 ⟨(some 79), .mv, [(.t 12)], none, []⟩,
 ⟨(some 80), .mv, [(.t 15)], none, []⟩,
 ⟨(some 81), (.build [(.int .i64 0), (.int .i64 0)] [(0, 1), (1, 1)]), [(.t 79), (.t 80)], none, []⟩,
 ⟨(some 82), (.bsl 2 [(.int .i64 0), (.int .i64 0)] 1 [0]), [(.t 81)], none, []⟩,
 ⟨(some 83), (.append false 2 16), [(.t 78), (.t 82)], none, []⟩,
 ⟨(some 6), .mv, [(.t 83)], none, []⟩] 0 [1, 5, 6, 9, 12, 13, 33, 54, 55, 56, 65, 66, 67])
 .skip))))
 (.reg true [] [] [
 ⟨(some 84), (.bin 0 .add), [(.t 67), (.c (.int .i64 1))], none, []⟩,
 ⟨(some 67), .mv, [(.t 84)], none, []⟩] 0 [1, 5, 6, 9, 12, 13, 33, 54, 55, 56, 65, 66, 67]))))
def b22_1 : LCode :=
 (.seq
 (.reg true [] [] [
 ⟨(some 57), (.bin 0 .lss), [(.t 56), (.t 55)], none, []⟩] 0 [1, 5, 6, 9, 33, 54, 55, 56, 57])
 (.seq
 (.cond (.t 57)
 .skip
 (.exit 2))
 (.seq
 (.block 3
 (.seq
 (.reg true [13] [13] [
 ⟨(some 58), .mv, [(.t 56)], none, []⟩,
 ⟨(some 59), (.ixs 3), [(.t 54), (.t 56)], none, []⟩,
 ⟨(some 60), (.load (some 3)), [(.t 59)], none, []⟩,
 ⟨(some 13), (.alloc [(.sl none 2 []), (.int .i64 0), (.int .i64 0)]), [], none, []⟩,
 ⟨(some 12), .mv, [(.t 58)], none, []⟩,
 ⟨none, (.store 3 none), [(.t 13), (.t 60)], none, []⟩] 0 [1, 5, 6, 9, 12, 13, 33, 54, 55, 56])
 (.seq
 (.reg true [] [] [
 ⟨(some 61), .mv, [(.t 9)], none, []⟩,
 ⟨(some 62), (.fa 0), [(.t 13)], none, []⟩,
 ⟨(some 63), (.load none), [(.t 62)], none, []⟩,
 ⟨(some 64), .len, [(.t 63)], none, []⟩,
 ⟨(some 65), .mlook, [(.t 61), (.t 64)], none, []⟩,
 ⟨(some 66), .len, [(.t 65)], none, []⟩,
 ⟨(some 67), .mv, [(.c (.int .i64 0))], none, []⟩] 0 [1, 5, 6, 9, 12, 13, 33, 54, 55, 56, 65, 66, 67])
 (.block 4
 (.loop b22_2)))))
 (.reg true [] [] [
 ⟨(some 85), (.bin 0 .add), [(.t 56), (.c (.int .i64 1))], none, []⟩,
 ⟨(some 56), .mv, [(.t 85)], none, []⟩] 0 [1, 5, 6, 9, 33, 54, 55, 56]))))
def l22 : LFun := ⟨3, 87, [],
 (.seq
 (.reg false [5] [5] [
 ⟨(some 5), .box, [(.t 2)], none, []⟩,
 ⟨(some 6), .mv, [(.c (.sl (some 2008300) 2 []))], none, []⟩,
 ⟨(some 7), .mv, [(.c (.int .i64 0))], none, []⟩] 0 [0, 1, 5, 6, 33])
 (.seq
 (.seq
 (.reg false [] [] [
 ⟨(some 16), .mv, [(.t 0)], none, []⟩,
 ⟨(some 17), .len, [(.t 16)], none, []⟩,
 ⟨(some 18), (.bin 0 .gtr), [(.t 17), (.c (.int .i64 50))], none, []⟩,
 ⟨(some 19), .mv, [(.t 18)], none, []⟩,
 ⟨(some 20), .mv, [(.t 1)], (some (19, false)), []⟩,
 ⟨(some 21), .len, [(.t 20)], (some (19, false)), []⟩,
 ⟨(some 22), (.bin 0 .gtr), [(.t 21), (.c (.int .i64 50))], (some (19, false)), []⟩,
 ⟨(some 23), .pick, [(.t 19), (.c (.bool true)), (.t 22)], none, []⟩] 0 [0, 1, 5, 6, 23, 33])
 (.cond (.t 23)
 (.seq
 (.reg false [] [] [
 ⟨(some 6), .mv, [(.c (.sl (some 2008300) 2 []))], none, []⟩,
 ⟨(some 7), .mv, [(.c (.int .i64 5))], none, []⟩] 0 [6, 7, 33])
 .ret)
 .skip))
 (.seq
 (.seq
 (.reg false [27, 28] [27, 28] [
 ⟨(some 24), (.load (some 2)), [(.t 5)], none, [25, 26, 27, 28]⟩,
 ⟨(some 25), .mv, [(.t 0)], none, [24, 26]⟩,
 ⟨(some 26), .mv, [(.t 1)], none, [24, 25]⟩,
 ⟨(some 27), (.bsl 1 [.nil] 2 [0, 1]), [(.t 25), (.t 26)], none, [24]⟩,
 ⟨(some 28), (.call true true true), [(.f 73), (.t 27)], none, [24]⟩,
 ⟨(some 29), (.call false false false), [(.f 72), (.t 24), (.t 28)], none, []⟩,
 ⟨(some 8), .mv, [(.t 29)], none, []⟩] 0 [0, 1, 5, 6, 8, 33])
 (.seq
 (.reg false [] [] [
 ⟨(some 30), .mv, [(.t 8)], none, []⟩,
 ⟨(some 31), (.bin 0 .neq), [(.t 30), (.c (.int .i64 0))], none, []⟩] 0 [0, 1, 5, 6, 8, 31, 33])
 (.cond (.t 31)
 (.seq
 (.reg false [] [] [
 ⟨(some 32), .mv, [(.t 8)], none, []⟩,
 ⟨(some 6), .mv, [(.c (.sl (some 2008300) 2 []))], none, []⟩,
 ⟨(some 7), .mv, [(.t 32)], none, []⟩] 0 [6, 7, 33])
 .ret)
 .skip)))
 (.seq
 (.reg false [33] [33] [
 ⟨(some 33), .mkmp, [], none, []⟩,
 ⟨(some 9), .mv, [(.t 33)], none, []⟩] 0 [0, 1, 5, 6, 9, 33])
 (.seq
 (.seq
 (.reg false [] [] [
 ⟨(some 34), .mv, [(.t 1)], none, []⟩,
 ⟨(some 35), .len, [(.t 34)], none, []⟩,
 ⟨(some 36), .mv, [(.c (.int .i64 0))], none, []⟩] 0 [0, 1, 5, 6, 9, 33, 34, 35, 36])
 (.block 0
 (.loop b22_0)))
 (.seq
 (.seq
 (.reg false [] [] [
 ⟨(some 54), .mv, [(.t 0)], none, []⟩,
 ⟨(some 55), .len, [(.t 54)], none, []⟩,
 ⟨(some 56), .mv, [(.c (.int .i64 0))], none, []⟩] 0 [1, 5, 6, 9, 33, 54, 55, 56])
 (.block 2
 (.loop b22_1)))
 (.seq
 (.reg false [] [] [
 ⟨(some 86), .mv, [(.t 6)], none, []⟩,
 ⟨(some 6), .mv, [(.t 86)], none, []⟩,
 ⟨(some 7), .mv, [(.c (.int .i64 0))], none, []⟩] 0 [6, 7, 33])
 .ret))))))),
 [(.t 6), (.t 7)]⟩
theorem c22 : funC Try.prog [(0, [0, 1, 5, 6, 33]), (1, [0, 1, 5, 6, 23, 33]), (2, [6, 7, 33]), (3, [0, 1, 5, 6, 8, 33]), (4, [0, 1, 5, 6, 8, 31, 33]), (5, [6, 7, 33]), (6, [0, 1, 5, 6, 9, 33]), (7, [0, 1, 5, 6, 9, 33, 34, 35, 36]), (8, [0, 1, 5, 6, 9, 33, 34, 35, 36, 37]), (9, [0, 1, 5, 6, 9, 10, 11, 33, 34, 35, 36]), (10, [0, 1, 5, 6, 9, 33, 34, 35, 36]), (11, [0, 1, 5, 6, 9, 33, 34, 35, 36]), (12, [1, 5, 6, 9, 33, 54, 55, 56]), (13, [1, 5, 6, 9, 33, 54, 55, 56, 57]), (14, [1, 5, 6, 9, 12, 13, 33, 54, 55, 56]), (15, [1, 5, 6, 9, 12, 13, 33, 54, 55, 56, 65, 66, 67]), (16, [1, 5, 6, 9, 12, 13, 33, 54, 55, 56, 65, 66, 67, 68]), (17, [1, 5, 6, 9, 12, 13, 15, 33, 54, 55, 56, 65, 66, 67]), (18, [1, 5, 6, 9, 12, 13, 15, 33, 54, 55, 56, 65, 66, 67, 77]), (19, [1, 5, 6, 9, 12, 13, 33, 54, 55, 56, 65, 66, 67]), (20, [1, 5, 6, 9, 12, 13, 33, 54, 55, 56, 65, 66, 67]), (21, [1, 5, 6, 9, 33, 54, 55, 56]), (22, [6, 7, 33])] Try.f22 = some (unF l22) := by kernel_rfl
/-- acme/fit.Screw -/
def l23 : LFun := ⟨3, 32, [],
 (.seq
 (.reg false [3, 4, 5] [3, 4, 5] [
 ⟨(some 3), .box, [(.t 0)], none, []⟩,
 ⟨(some 4), .box, [(.t 1)], none, []⟩,
 ⟨(some 5), .box, [(.t 2)], none, []⟩,
 ⟨(some 6), .mv, [(.c (.int .i64 0))], none, []⟩,
 ⟨(some 7), .mv, [(.c (.int .i64 0))], none, []⟩] 0 [3, 4, 5])
 (.seq
 (.reg false [13, 8] [13, 8] [
 ⟨(some 10), (.load (some 8)), [(.t 3)], none, []⟩,
 ⟨(some 11), (.load (some 2)), [(.t 5)], none, []⟩,
 ⟨(some 12), (.load (some 3)), [(.t 4)], none, []⟩,
 ⟨(some 13), (.bsl 3 [.nil, (.int .i64 0), (.int .i64 0)] 1 [0]), [(.t 12)], none, []⟩,
 ⟨(some 14), (.call false false false), [(.f 75), (.t 10), (.t 11), (.t 13)], none, []⟩,
 ⟨(some 9), .mv, [(.t 14)], none, []⟩,
 ⟨(some 15), (.ext 0), [(.t 9)], none, []⟩,
 ⟨(some 16), (.ext 1), [(.t 9)], none, []⟩,
 ⟨(some 8), (.alloc [(.int .i64 0), (.int .i64 0), (.int .i64 0), (.int .i64 0), (.int .i64 0), (.int .i64 0), (.bool false), (.int .i64 0), (.int .i64 0), (.int .i64 0)]), [], none, []⟩,
 ⟨none, (.store 10 none), [(.t 8), (.t 15)], none, []⟩,
 ⟨(some 7), .mv, [(.t 16)], none, []⟩] 0 [4, 7, 8])
 (.seq
 (.block 0
 (.seq
 (.reg false [] [] [
 ⟨(some 18), .mv, [(.t 7)], none, []⟩,
 ⟨(some 19), (.bin 0 .neq), [(.t 18), (.c (.int .i64 0))], none, []⟩,
 ⟨(some 17), .mv, [(.t 19)], none, []⟩] 0 [4, 7, 8, 17])
 (.cond (.t 17)
 (.seq
 (.reg false [] [] [
 ⟨(some 20), .mv, [(.t 7)], none, []⟩,
 ⟨(some 6), .mv, [(.c (.int .i64 0))], none, []⟩,
 ⟨(some 7), .mv, [(.t 20)], none, []⟩] 0 [6, 7])
 .ret)
 (.seq
 (.reg false [] [] [
 ⟨(some 22), (.load (some 10)), [(.t 8)], none, []⟩,
 ⟨(some 23), (.call false false false), [(.f 76), (.t 22)], none, []⟩,
 ⟨(some 24), (.bin 0 .eql), [(.t 23), (.c (.int .i64 0))], none, []⟩,
 ⟨(some 21), .mv, [(.t 24)], none, []⟩] 0 [4, 8, 21])
 (.cond (.t 21)
 (.seq
 (.reg false [] [] [
 ⟨(some 6), .mv, [(.c (.int .i64 0))], none, []⟩,
 ⟨(some 7), .mv, [(.c (.int .i64 7))], none, []⟩] 0 [6, 7])
 .ret)
 .skip)))))
 (.seq
 (.reg false [] [] [
 ⟨(some 25), (.load (some 10)), [(.t 8)], none, [26, 28]⟩,
 ⟨(some 26), (.load (some 3)), [(.t 4)], none, [25, 28]⟩,
 ⟨(some 27), (.call true false false), [(.f 78), (.t 25), (.t 26), (.c (.int .i64 1))], none, [28]⟩,
 ⟨(some 28), (.load (some 10)), [(.t 8)], none, [25, 26, 27]⟩,
 ⟨(some 29), (.call false false false), [(.f 76), (.t 28)], none, []⟩,
 ⟨(some 30), (.bin 0 .mul), [(.c (.int .i64 4)), (.t 29)], none, []⟩,
 ⟨(some 31), (.call false false false), [(.f 77), (.t 27), (.t 30)], none, []⟩,
 ⟨(some 6), .mv, [(.t 31)], none, []⟩,
 ⟨(some 7), .mv, [(.c (.int .i64 0))], none, []⟩] 0 [6, 7])
 .ret)))),
 [(.t 6), (.t 7)]⟩
theorem c23 : funC Try.prog [(0, [3, 4, 5]), (1, [4, 7, 8]), (2, [4, 7, 8, 17]), (3, [6, 7]), (4, [4, 8, 21]), (5, [6, 7]), (6, [6, 7])] Try.f23 = some (unF l23) := by kernel_rfl
/-- acme/fit.Nut -/
def l24 : LFun := ⟨3, 33, [],
 (.seq
 (.reg false [3, 4, 5] [3, 4, 5] [
 ⟨(some 3), .box, [(.t 0)], none, []⟩,
 ⟨(some 4), .box, [(.t 1)], none, []⟩,
 ⟨(some 5), .box, [(.t 2)], none, []⟩,
 ⟨(some 6), .mv, [(.c (.int .i64 0))], none, []⟩,
 ⟨(some 7), .mv, [(.c (.int .i64 0))], none, []⟩] 0 [3, 4, 5])
 (.seq
 (.reg false [13, 8] [13, 8] [
 ⟨(some 10), (.load (some 8)), [(.t 3)], none, []⟩,
 ⟨(some 11), (.load (some 2)), [(.t 5)], none, []⟩,
 ⟨(some 12), (.load (some 3)), [(.t 4)], none, []⟩,
 ⟨(some 13), (.bsl 3 [.nil, (.int .i64 0), (.int .i64 0)] 1 [0]), [(.t 12)], none, []⟩,
 ⟨(some 14), (.call false false false), [(.f 75), (.t 10), (.t 11), (.t 13)], none, []⟩,
 ⟨(some 9), .mv, [(.t 14)], none, []⟩,
 ⟨(some 15), (.ext 0), [(.t 9)], none, []⟩,
 ⟨(some 16), (.ext 1), [(.t 9)], none, []⟩,
 ⟨(some 8), (.alloc [(.int .i64 0), (.int .i64 0), (.int .i64 0), (.int .i64 0), (.int .i64 0), (.int .i64 0), (.bool false), (.int .i64 0), (.int .i64 0), (.int .i64 0)]), [], none, []⟩,
 ⟨none, (.store 10 none), [(.t 8), (.t 15)], none, []⟩,
 ⟨(some 7), .mv, [(.t 16)], none, []⟩] 0 [4, 7, 8])
 (.seq
 (.block 0
 (.seq
 (.reg false [] [] [
 ⟨(some 18), .mv, [(.t 7)], none, []⟩,
 ⟨(some 19), (.bin 0 .neq), [(.t 18), (.c (.int .i64 0))], none, []⟩,
 ⟨(some 17), .mv, [(.t 19)], none, []⟩] 0 [4, 7, 8, 17])
 (.cond (.t 17)
 (.seq
 (.reg false [] [] [
 ⟨(some 20), .mv, [(.t 7)], none, []⟩,
 ⟨(some 6), .mv, [(.c (.int .i64 0))], none, []⟩,
 ⟨(some 7), .mv, [(.t 20)], none, []⟩] 0 [6, 7])
 .ret)
 (.seq
 (.reg false [] [] [
 ⟨(some 22), (.load (some 10)), [(.t 8)], none, []⟩,
 ⟨(some 23), (.call false false false), [(.f 76), (.t 22)], none, []⟩,
 ⟨(some 24), (.bin 0 .eql), [(.t 23), (.c (.int .i64 0))], none, []⟩,
 ⟨(some 21), .mv, [(.t 24)], none, []⟩] 0 [4, 8, 21])
 (.cond (.t 21)
 (.seq
 (.reg false [] [] [
 ⟨(some 6), .mv, [(.c (.int .i64 0))], none, []⟩,
 ⟨(some 7), .mv, [(.c (.int .i64 7))], none, []⟩] 0 [6, 7])
 .ret)
 .skip)))))
 (.seq
 (.reg false [] [] [
 ⟨(some 25), (.load (some 10)), [(.t 8)], none, [26, 29]⟩,
 ⟨(some 26), (.load (some 3)), [(.t 4)], none, [25, 29]⟩,
 ⟨(some 27), (.call true false false), [(.f 78), (.t 25), (.t 26), (.c (.int .i64 (-1)))], none, [29]⟩,
 ⟨(some 28), (.un .neg), [(.t 27)], none, [29, 30, 31]⟩,
 ⟨(some 29), (.load (some 10)), [(.t 8)], none, [25, 26, 27, 28]⟩,
 ⟨(some 30), (.call true false false), [(.f 76), (.t 29)], none, [28]⟩,
 ⟨(some 31), (.bin 0 .mul), [(.c (.int .i64 4)), (.t 30)], none, [28]⟩,
 ⟨(some 32), (.call false false false), [(.f 79), (.t 28), (.t 31)], none, []⟩,
 ⟨(some 6), .mv, [(.t 32)], none, []⟩,
 ⟨(some 7), .mv, [(.c (.int .i64 0))], none, []⟩] 0 [6, 7])
 .ret)))),
 [(.t 6), (.t 7)]⟩
theorem c24 : funC Try.prog [(0, [3, 4, 5]), (1, [4, 7, 8]), (2, [4, 7, 8, 17]), (3, [6, 7]), (4, [4, 8, 21]), (5, [6, 7]), (6, [6, 7])] Try.f24 = some (unF l24) := by kernel_rfl
/-- acme/acmetop.pubFit -/
def l25 : LFun := ⟨0, 23, [],
 (.seq
 (.reg false [] [] [
 ⟨(some 0), .mv, [(.c (.bool false))], none, []⟩] 0 [])
 (.seq
 (.reg false [1] [1] [
 ⟨(some 5), (.build [(.int .i64 0), (.int .i64 0), (.int .i64 0), (.int .i64 0), (.int .i64 0), (.int .i64 0), (.bool false), (.int .i64 0)] [(0, 1), (1, 1), (2, 1), (3, 1), (4, 1), (5, 1)]), [(.c (.int .i64 10000)), (.c (.int .i64 577)), (.c (.int .i64 577)), (.c (.int .i64 3000)), (.c (.int .i64 3000)), (.c (.int .i64 1))], none, []⟩,
 ⟨(some 1), (.alloc [(.int .i64 0), (.int .i64 0), (.int .i64 0), (.int .i64 0), (.int .i64 0), (.int .i64 0), (.bool false), (.int .i64 0)]), [], none, []⟩,
 ⟨none, (.store 8 none), [(.t 1), (.t 5)], none, []⟩] 0 [1])
 (.seq
 (.reg false [8, 2] [8, 2] [
 ⟨(some 6), (.build [(.int .i64 0), (.int .i64 0)] [(0, 1), (1, 1)]), [(.c (.int .i64 (-2500))), (.c (.int .i64 2500))], none, []⟩,
 ⟨(some 7), (.build [(.int .i64 0), (.int .i64 0)] [(0, 1), (1, 1)]), [(.c (.int .i64 7510)), (.c (.int .i64 12510))], none, []⟩,
 ⟨(some 8), (.bsl 2 [(.int .i64 0), (.int .i64 0)] 2 [0, 1]), [(.t 6), (.t 7)], none, []⟩,
 ⟨(some 9), (.build [(.sl none 2 []), (.int .i64 0), (.int .i64 0)] [(1, 1), (2, 1), (0, 1)]), [(.c (.int .i64 577)), (.c (.int .i64 577)), (.t 8)], none, []⟩,
 ⟨(some 2), (.alloc [(.sl none 2 []), (.int .i64 0), (.int .i64 0)]), [], none, []⟩,
 ⟨none, (.store 3 none), [(.t 2), (.t 9)], none, []⟩] 0 [1, 2])
 (.seq
 (.reg false [] [] [
 ⟨(some 11), (.load (some 8)), [(.t 1)], none, [12, 13]⟩,
 ⟨(some 12), (.load (some 3)), [(.t 2)], none, [11, 13]⟩,
 ⟨(some 13), (.call true false false), [(.f 27), (.c (.int .i64 (-3000))), (.c (.int .i64 3000))], none, [11, 12]⟩,
 ⟨(some 14), (.call false false false), [(.f 23), (.t 11), (.t 12), (.t 13)], none, []⟩,
 ⟨(some 10), .mv, [(.t 14)], none, []⟩,
 ⟨(some 15), (.ext 0), [(.t 10)], none, [16]⟩,
 ⟨(some 16), (.ext 1), [(.t 10)], none, [15, 3]⟩,
 ⟨(some 3), .mv, [(.t 15)], none, [16]⟩,
 ⟨(some 4), .mv, [(.t 16)], none, []⟩] 0 [3, 4])
 (.seq
 (.reg false [] [] [
 ⟨(some 17), .mv, [(.t 4)], none, []⟩,
 ⟨(some 18), (.bin 0 .eql), [(.t 17), (.c (.int .i64 0))], none, []⟩,
 ⟨(some 19), .mv, [(.t 18)], none, []⟩,
 ⟨(some 20), .mv, [(.t 3)], (some (19, true)), []⟩,
 ⟨(some 21), (.bin 0 .eql), [(.t 20), (.c (.int .i64 9))], (some (19, true)), []⟩,
 ⟨(some 22), .pick, [(.t 19), (.t 21), (.c (.bool false))], none, []⟩,
 ⟨(some 0), .mv, [(.t 22)], none, []⟩] 0 [0])
 .ret))))),
 [(.t 0)]⟩
theorem c25 : funC Try.prog [(0, []), (1, [1]), (2, [1, 2]), (3, [3, 4]), (4, [0])] Try.f25 = some (unF l25) := by kernel_rfl
/-- acme/acmetop.pubSwap -/
def l26 : LFun := ⟨0, 48, [],
 (.seq
 (.reg false [] [] [
 ⟨(some 0), .mv, [(.c (.bool false))], none, []⟩] 0 [])
 (.seq
 (.reg false [] [] [
 ⟨(some 9), (.call false false false), [(.f 80), (.c (.int .i64 10000))], none, []⟩,
 ⟨(some 10), (.call false false false), [(.f 80), (.c (.int .i64 10020))], none, []⟩,
 ⟨(some 11), (.call false false false), [(.f 27), (.c (.int .i64 (-3000))), (.c (.int .i64 3000))], none, []⟩,
 ⟨(some 12), (.call false false false), [(.f 20), (.t 9), (.t 10), (.c (.int .i64 (-60))), (.c (.int .i64 0)), (.t 11)], none, []⟩,
 ⟨(some 8), .mv, [(.t 12)], none, []⟩,
 ⟨(some 13), (.ext 0), [(.t 8)], none, []⟩,
 ⟨(some 14), (.ext 1), [(.t 8)], none, []⟩,
 ⟨(some 1), .mv, [(.t 13)], none, []⟩,
 ⟨(some 2), .mv, [(.t 14)], none, []⟩] 0 [1, 2])
 (.seq
 (.reg false [3] [3] [
 ⟨(some 15), (.call false false false), [(.f 80), (.c (.int .i64 10000))], none, []⟩,
 ⟨(some 16), (.call false false false), [(.f 27), (.c (.int .i64 (-60))), (.c (.int .i64 (-20)))], none, []⟩,
 ⟨(some 17), (.call false false false), [(.f 27), (.c (.int .i64 0)), (.c (.int .i64 30))], none, []⟩,
 ⟨(some 18), (.build [(.int .i64 0), (.int .i64 0), (.int .i64 0), (.int .i64 0), (.int .i64 0), (.int .i64 0), (.int .i64 0), (.int .i64 0), (.int .i64 0), (.bool false), (.int .i64 0), (.int .i64 0), (.int .i64 0), (.int .i64 0), (.int .i64 0)] [(3, 8), (11, 2), (13, 2)]), [(.t 15), (.t 16), (.t 17)], none, []⟩,
 ⟨(some 3), (.alloc [(.int .i64 0), (.int .i64 0), (.int .i64 0), (.int .i64 0), (.int .i64 0), (.int .i64 0), (.int .i64 0), (.int .i64 0), (.int .i64 0), (.bool false), (.int .i64 0), (.int .i64 0), (.int .i64 0), (.int .i64 0), (.int .i64 0)]), [], none, []⟩,
 ⟨none, (.store 15 none), [(.t 3), (.t 18)], none, []⟩] 0 [1, 2, 3])
 (.seq
 (.reg false [4] [4] [
 ⟨(some 19), (.load (some 15)), [(.t 3)], none, []⟩,
 ⟨(some 4), (.alloc [(.int .i64 0), (.int .i64 0), (.int .i64 0), (.int .i64 0), (.int .i64 0), (.int .i64 0), (.int .i64 0), (.int .i64 0), (.int .i64 0), (.bool false), (.int .i64 0), (.int .i64 0), (.int .i64 0), (.int .i64 0), (.int .i64 0)]), [], none, []⟩,
 ⟨none, (.store 15 none), [(.t 4), (.t 19)], none, []⟩] 0 [1, 2, 3, 4])
 (.seq
 (.reg false [] [] [
 ⟨(some 20), (.call false false false), [(.f 80), (.c (.int .i64 10020))], none, []⟩,
 ⟨(some 21), (.fa 3), [(.t 4)], none, []⟩,
 ⟨none, (.store 8 none), [(.t 21), (.t 20)], none, []⟩] 0 [1, 2, 3, 4])
 (.seq
 (.reg false [] [] [
 ⟨(some 23), (.load (some 15)), [(.t 3)], none, [24, 25]⟩,
 ⟨(some 24), (.load (some 15)), [(.t 4)], none, [23, 25]⟩,
 ⟨(some 25), (.call true false false), [(.f 27), (.c (.int .i64 (-3000))), (.c (.int .i64 3000))], none, [23, 24]⟩,
 ⟨(some 26), (.call false false false), [(.f 81), (.t 23), (.t 24), (.t 25)], none, []⟩,
 ⟨(some 22), .mv, [(.t 26)], none, []⟩,
 ⟨(some 27), (.ext 0), [(.t 22)], none, [28, 29]⟩,
 ⟨(some 28), (.ext 1), [(.t 22)], none, [27, 29, 5]⟩,
 ⟨(some 29), (.ext 2), [(.t 22)], none, [27, 28, 5, 6]⟩,
 ⟨(some 5), .mv, [(.t 27)], none, [28, 29]⟩,
 ⟨(some 6), .mv, [(.t 28)], none, [29]⟩,
 ⟨(some 7), .mv, [(.t 29)], none, []⟩] 0 [1, 2, 5, 6, 7])
 (.seq
 (.reg false [] [] [
 ⟨(some 30), .mv, [(.t 2)], none, []⟩,
 ⟨(some 31), (.bin 0 .eql), [(.t 30), (.c (.int .i64 0))], none, []⟩,
 ⟨(some 32), .mv, [(.t 31)], none, []⟩,
 ⟨(some 33), .mv, [(.t 7)], (some (32, true)), []⟩,
 ⟨(some 34), (.bin 0 .eql), [(.t 33), (.c (.int .i64 0))], (some (32, true)), []⟩,
 ⟨(some 35), .pick, [(.t 32), (.t 34), (.c (.bool false))], none, []⟩,
 ⟨(some 36), .mv, [(.t 35)], none, []⟩,
 ⟨(some 37), .mv, [(.t 1)], (some (36, true)), []⟩,
 ⟨(some 38), (.bin 0 .eql), [(.t 37), (.c (.int .i64 4))], (some (36, true)), []⟩,
 ⟨(some 39), .pick, [(.t 36), (.t 38), (.c (.bool false))], none, []⟩,
 ⟨(some 40), .mv, [(.t 39)], none, []⟩,
 ⟨(some 41), .mv, [(.t 5)], (some (40, true)), []⟩,
 ⟨(some 42), (.bin 0 .eql), [(.t 41), (.c (.int .i64 2))], (some (40, true)), []⟩,
 ⟨(some 43), .pick, [(.t 40), (.t 42), (.c (.bool false))], none, []⟩,
 ⟨(some 44), .mv, [(.t 43)], none, []⟩,
 ⟨(some 45), .mv, [(.t 6)], (some (44, true)), []⟩,
 ⟨(some 46), (.bin 0 .eql), [(.t 45), (.c (.int .i64 6))], (some (44, true)), []⟩,
 ⟨(some 47), .pick, [(.t 44), (.t 46), (.c (.bool false))], none, []⟩,
 ⟨(some 0), .mv, [(.t 47)], none, []⟩] 0 [0])
 .ret))))))),
 [(.t 0)]⟩
theorem c26 : funC Try.prog [(0, []), (1, [1, 2]), (2, [1, 2, 3]), (3, [1, 2, 3, 4]), (4, [1, 2, 3, 4]), (5, [1, 2, 5, 6, 7]), (6, [0])] Try.f26 = some (unF l26) := by kernel_rfl
/-- acme/acmetop.pubSpan -/
def l27 : LFun := ⟨2, 8, [],
 (.seq
 (.reg false [4] [4] [
 ⟨(some 4), (.alloc [(.int .i64 0), (.int .i64 0)]), [], none, []⟩] 0 [0, 1, 4])
 (.seq
 (.reg false [] [] [
 ⟨(some 5), .mv, [(.t 0)], none, []⟩,
 ⟨(some 6), .mv, [(.t 1)], none, []⟩,
 ⟨(some 7), (.build [(.int .i64 0), (.int .i64 0)] [(0, 1), (1, 1)]), [(.t 5), (.t 6)], none, []⟩,
 ⟨none, (.store 2 none), [(.t 4), (.t 7)], none, []⟩] 0 [4])
 .ret)),
 [(.c 4 (some 2))]⟩
theorem c27 : funC Try.prog [(0, [0, 1, 4]), (1, [4])] Try.f27 = some (unF l27) := by kernel_rfl
/-- acme/zone.Before -/
def l28 : LFun := ⟨3, 44, [],
 (.seq
 (.reg false [3, 5, 6] [3, 5, 6] [
 ⟨(some 3), .box, [(.t 0)], none, []⟩,
 ⟨(some 5), .box, [(.t 2)], none, []⟩,
 ⟨(some 6), (.alloc [(.int .i64 0), (.int .i64 0)]), [], none, []⟩,
 ⟨(some 7), .mv, [(.c (.int .i64 0))], none, []⟩] 0 [1, 3, 5, 6])
 (.seq
 (.reg false [8] [8] [
 ⟨(some 10), (.load (some 2)), [(.t 3)], none, []⟩,
 ⟨(some 11), .mv, [(.t 1)], none, []⟩,
 ⟨(some 12), (.load (some 4)), [(.t 5)], none, []⟩,
 ⟨(some 13), (.call false false false), [(.f 82), (.t 10), (.t 11), (.t 12)], none, []⟩,
 ⟨(some 9), .mv, [(.t 13)], none, []⟩,
 ⟨(some 14), (.ext 0), [(.t 9)], none, []⟩,
 ⟨(some 15), (.ext 1), [(.t 9)], none, []⟩,
 ⟨(some 8), (.alloc [(.int .i64 0), (.int .i64 0), (.int .i64 0), (.int .i64 0), (.int .i64 0), (.int .i64 0)]), [], none, []⟩,
 ⟨none, (.store 6 none), [(.t 8), (.t 14)], none, []⟩,
 ⟨(some 7), .mv, [(.t 15)], none, []⟩] 0 [3, 6, 7, 8])
 (.seq
 (.seq
 (.reg false [] [] [
 ⟨(some 16), .mv, [(.t 7)], none, []⟩,
 ⟨(some 17), (.bin 0 .neq), [(.t 16), (.c (.int .i64 0))], none, []⟩] 0 [3, 6, 7, 8, 17])
 (.cond (.t 17)
 (.seq
 (.reg false [] [] [
 ⟨(some 18), (.load (some 2)), [(.t 6)], none, []⟩,
 ⟨(some 19), .mv, [(.t 7)], none, []⟩,
 ⟨none, (.store 2 none), [(.t 6), (.t 18)], none, []⟩,
 ⟨(some 7), .mv, [(.t 19)], none, []⟩] 0 [6, 7])
 .ret)
 .skip))
 (.seq
 (.reg false [] [] [
 ⟨(some 20), (.fa 0), [(.t 3)], none, [22, 23, 24, 25, 26, 28, 29, 30, 31, 32, 33, 34, 35]⟩,
 ⟨(some 21), (.load none), [(.t 20)], none, [22, 23, 24, 25, 26, 28, 29, 30, 31, 32, 33, 34, 35]⟩,
 ⟨(some 22), (.load (some 6)), [(.t 8)], none, [20, 21, 23, 24, 25, 28, 29, 30, 31, 32, 33]⟩,
 ⟨(some 23), (.fa 4), [(.t 8)], none, [20, 21, 22, 28, 29, 30, 31, 32, 33]⟩,
 ⟨(some 24), (.load none), [(.t 23)], none, [20, 21, 22, 28, 29, 30, 31, 32, 33]⟩,
 ⟨(some 25), (.un .neg), [(.t 24)], none, [20, 21, 22, 28, 29, 30, 31, 32, 33]⟩,
 ⟨(some 26), (.call true false false), [(.f 83), (.t 22), (.t 25)], none, [20, 21, 28, 29, 30, 31, 32, 33]⟩,
 ⟨(some 27), (.bin 0 .add), [(.t 21), (.t 26)], none, [28, 29, 30, 31, 32, 33, 34, 35]⟩,
 ⟨(some 28), (.fa 1), [(.t 3)], none, [20, 21, 22, 23, 24, 25, 26, 27, 30, 31, 32, 33, 34]⟩,
 ⟨(some 29), (.load none), [(.t 28)], none, [20, 21, 22, 23, 24, 25, 26, 27, 30, 31, 32, 33, 34]⟩,
 ⟨(some 30), (.load (some 6)), [(.t 8)], none, [20, 21, 22, 23, 24, 25, 26, 27, 28, 29, 31, 32, 33]⟩,
 ⟨(some 31), (.fa 5), [(.t 8)], none, [20, 21, 22, 23, 24, 25, 26, 27, 28, 29, 30]⟩,
 ⟨(some 32), (.load none), [(.t 31)], none, [20, 21, 22, 23, 24, 25, 26, 27, 28, 29, 30]⟩,
 ⟨(some 33), (.un .neg), [(.t 32)], none, [20, 21, 22, 23, 24, 25, 26, 27, 28, 29, 30]⟩,
 ⟨(some 34), (.call true false false), [(.f 84), (.t 30), (.t 33)], none, [20, 21, 27, 28, 29]⟩,
 ⟨(some 35), (.bin 0 .add), [(.t 29), (.t 34)], none, [20, 21, 27]⟩,
 ⟨(some 36), (.build [(.int .i64 0), (.int .i64 0)] [(0, 1), (1, 1)]), [(.t 27), (.t 35)], none, []⟩,
 ⟨none, (.store 2 (some 6)), [(.t 6), (.t 36)], none, []⟩] 0 [6])
 (.seq
 (.seq
 (.reg false [] [] [
 ⟨(some 37), (.fa 0), [(.t 6)], none, []⟩,
 ⟨(some 38), (.load none), [(.t 37)], none, []⟩,
 ⟨(some 39), (.fa 1), [(.t 6)], none, []⟩,
 ⟨(some 40), (.load none), [(.t 39)], none, []⟩,
 ⟨(some 41), (.bin 0 .gtr), [(.t 38), (.t 40)], none, []⟩] 0 [6, 41])
 (.cond (.t 41)
 (.seq
 (.reg false [] [] [
 ⟨(some 42), (.build [(.int .i64 0), (.int .i64 0)] []), [], none, []⟩,
 ⟨none, (.store 2 none), [(.t 6), (.t 42)], none, []⟩,
 ⟨(some 7), .mv, [(.c (.int .i64 9))], none, []⟩] 0 [6, 7])
 .ret)
 .skip))
 (.seq
 (.reg false [] [] [
 ⟨(some 43), (.load (some 2)), [(.t 6)], none, []⟩,
 ⟨none, (.store 2 none), [(.t 6), (.t 43)], none, []⟩,
 ⟨(some 7), .mv, [(.c (.int .i64 0))], none, []⟩] 0 [6, 7])
 .ret)))))),
 [(.c 6 (some 2)), (.t 7)]⟩
theorem c28 : funC Try.prog [(0, [1, 3, 5, 6]), (1, [3, 6, 7, 8]), (2, [3, 6, 7, 8, 17]), (3, [6, 7]), (4, [6]), (5, [6, 41]), (6, [6, 7]), (7, [6, 7])] Try.f28 = some (unF l28) := by kernel_rfl
/-- acme/zone.Limits -/
def l44 : LFun := ⟨4, 33, [],
 (.seq
 (.reg false [4, 5, 8] [4, 5, 8] [
 ⟨(some 4), .box, [(.t 0)], none, []⟩,
 ⟨(some 5), .box, [(.t 1)], none, []⟩,
 ⟨(some 8), (.alloc [(.int .i64 0), (.int .i64 0)]), [], none, []⟩,
 ⟨(some 9), .mv, [(.c (.int .i64 0))], none, []⟩] 0 [2, 3, 4, 5, 8])
 (.seq
 (.reg false [17, 18, 10] [17, 18, 10] [
 ⟨(some 14), (.load (some 3)), [(.t 4)], none, []⟩,
 ⟨(some 15), .mv, [(.t 3)], none, []⟩,
 ⟨(some 16), (.load (some 2)), [(.t 5)], none, []⟩,
 ⟨(some 17), (.bsl 2 [(.int .i64 0), (.int .i64 0)] 1 [0]), [(.t 16)], none, []⟩,
 ⟨(some 18), (.call false true true), [(.f 106), (.t 14), (.t 15), (.t 17)], none, []⟩,
 ⟨(some 13), .mv, [(.t 18)], none, []⟩,
 ⟨(some 19), (.ext 0), [(.t 13)], none, []⟩,
 ⟨(some 20), (.ext 1), [(.t 13)], none, []⟩,
 ⟨(some 21), (.ext 2), [(.t 13)], none, []⟩,
 ⟨(some 10), (.alloc [.nil, (.sl none 1 []), (.sl none 1 [])]), [], none, []⟩,
 ⟨none, (.store 3 none), [(.t 10), (.t 19)], none, []⟩,
 ⟨(some 11), .mv, [(.t 20)], none, []⟩,
 ⟨(some 12), .mv, [(.t 21)], none, []⟩] 0 [2, 3, 5, 8, 10, 11, 12])
 (.seq
 (.seq
 (.reg false [] [] [
 ⟨(some 22), .mv, [(.t 12)], none, []⟩,
 ⟨(some 23), (.bin 0 .neq), [(.t 22), (.c (.int .i64 0))], none, []⟩] 0 [2, 3, 5, 8, 10, 11, 12, 23])
 (.cond (.t 23)
 (.seq
 (.reg false [] [] [
 ⟨(some 24), (.build [(.int .i64 0), (.int .i64 0)] []), [], none, []⟩,
 ⟨(some 25), .mv, [(.t 12)], none, []⟩,
 ⟨none, (.store 2 none), [(.t 8), (.t 24)], none, []⟩,
 ⟨(some 9), .mv, [(.t 25)], none, []⟩] 0 [8, 9])
 .ret)
 .skip))
 (.seq
 (.reg false [] [] [
 ⟨(some 26), (.load (some 3)), [(.t 10)], none, []⟩,
 ⟨(some 27), (.load (some 2)), [(.t 5)], none, []⟩,
 ⟨(some 28), .mv, [(.t 2)], none, []⟩,
 ⟨(some 29), .mv, [(.t 3)], none, []⟩,
 ⟨(some 30), .mv, [(.t 11)], none, []⟩,
 ⟨(some 31), (.call false false false), [(.f 107), (.t 26), (.t 27), (.t 28), (.t 29), (.t 30)], none, []⟩,
 ⟨(some 32), (.fld 0 (some 2)), [(.t 31)], none, []⟩,
 ⟨none, (.store 2 none), [(.t 8), (.t 32)], none, []⟩,
 ⟨(some 9), .mv, [(.c (.int .i64 0))], none, []⟩] 0 [8, 9])
 .ret)))),
 [(.c 8 (some 2)), (.t 9)]⟩
theorem c44 : funC Try.prog [(0, [2, 3, 4, 5, 8]), (1, [2, 3, 5, 8, 10, 11, 12]), (2, [2, 3, 5, 8, 10, 11, 12, 23]), (3, [8, 9]), (4, [8, 9])] Try.f44 = some (unF l44) := by kernel_rfl
/-- acme/zone.Play -/
def l45 : LFun := ⟨3, 33, [],
 (.seq
 (.reg false [3, 4, 6] [3, 4, 6] [
 ⟨(some 3), .box, [(.t 0)], none, []⟩,
 ⟨(some 4), .box, [(.t 1)], none, []⟩,
 ⟨(some 6), (.alloc [(.int .i64 0), (.int .i64 0)]), [], none, []⟩,
 ⟨(some 7), .mv, [(.c (.int .i64 0))], none, []⟩] 0 [2, 3, 4, 6])
 (.seq
 (.reg false [18, 19, 8] [18, 19, 8] [
 ⟨(some 12), (.load (some 3)), [(.t 3)], none, []⟩,
 ⟨(some 13), .mv, [(.t 2)], none, []⟩,
 ⟨(some 14), (.fa 0), [(.t 4)], none, []⟩,
 ⟨(some 15), (.load (some 2)), [(.t 14)], none, []⟩,
 ⟨(some 16), (.fa 2), [(.t 4)], none, []⟩,
 ⟨(some 17), (.load (some 2)), [(.t 16)], none, []⟩,
 ⟨(some 18), (.bsl 2 [(.int .i64 0), (.int .i64 0)] 2 [0, 1]), [(.t 15), (.t 17)], none, []⟩,
 ⟨(some 19), (.call false true true), [(.f 106), (.t 12), (.t 13), (.t 18)], none, []⟩,
 ⟨(some 11), .mv, [(.t 19)], none, []⟩,
 ⟨(some 20), (.ext 0), [(.t 11)], none, []⟩,
 ⟨(some 21), (.ext 1), [(.t 11)], none, []⟩,
 ⟨(some 22), (.ext 2), [(.t 11)], none, []⟩,
 ⟨(some 8), (.alloc [.nil, (.sl none 1 []), (.sl none 1 [])]), [], none, []⟩,
 ⟨none, (.store 3 none), [(.t 8), (.t 20)], none, []⟩,
 ⟨(some 9), .mv, [(.t 21)], none, []⟩,
 ⟨(some 10), .mv, [(.t 22)], none, []⟩] 0 [2, 4, 6, 8, 9, 10])
 (.seq
 (.seq
 (.reg false [] [] [
 ⟨(some 23), .mv, [(.t 10)], none, []⟩,
 ⟨(some 24), (.bin 0 .neq), [(.t 23), (.c (.int .i64 0))], none, []⟩] 0 [2, 4, 6, 8, 9, 10, 24])
 (.cond (.t 24)
 (.seq
 (.reg false [] [] [
 ⟨(some 25), (.build [(.int .i64 0), (.int .i64 0)] []), [], none, []⟩,
 ⟨(some 26), .mv, [(.t 10)], none, []⟩,
 ⟨none, (.store 2 none), [(.t 6), (.t 25)], none, []⟩,
 ⟨(some 7), .mv, [(.t 26)], none, []⟩] 0 [6, 7])
 .ret)
 .skip))
 (.seq
 (.reg false [] [] [
 ⟨(some 27), (.load (some 3)), [(.t 8)], none, []⟩,
 ⟨(some 28), (.load (some 4)), [(.t 4)], none, []⟩,
 ⟨(some 29), .mv, [(.t 2)], none, []⟩,
 ⟨(some 30), .mv, [(.t 9)], none, []⟩,
 ⟨(some 31), (.call false false false), [(.f 108), (.t 27), (.t 28), (.t 29), (.t 30)], none, []⟩,
 ⟨(some 32), (.fld 0 (some 2)), [(.t 31)], none, []⟩,
 ⟨none, (.store 2 none), [(.t 6), (.t 32)], none, []⟩,
 ⟨(some 7), .mv, [(.c (.int .i64 0))], none, []⟩] 0 [6, 7])
 .ret)))),
 [(.c 6 (some 2)), (.t 7)]⟩
theorem c45 : funC Try.prog [(0, [2, 3, 4, 6]), (1, [2, 4, 6, 8, 9, 10]), (2, [2, 4, 6, 8, 9, 10, 24]), (3, [6, 7]), (4, [6, 7])] Try.f45 = some (unF l45) := by kernel_rfl
/-- acme/acmetop.armSpan -/
def l46 : LFun := ⟨2, 8, [],
 (.seq
 (.reg false [4] [4] [
 ⟨(some 4), (.alloc [(.int .i64 0), (.int .i64 0)]), [], none, []⟩] 0 [0, 1, 4])
 (.seq
 (.reg false [] [] [
 ⟨(some 5), .mv, [(.t 0)], none, []⟩,
 ⟨(some 6), .mv, [(.t 1)], none, []⟩,
 ⟨(some 7), (.build [(.int .i64 0), (.int .i64 0)] [(0, 1), (1, 1)]), [(.t 5), (.t 6)], none, []⟩,
 ⟨none, (.store 2 none), [(.t 4), (.t 7)], none, []⟩] 0 [4])
 .ret)),
 [(.c 4 (some 2))]⟩
theorem c46 : funC Try.prog [(0, [0, 1, 4]), (1, [4])] Try.f46 = some (unF l46) := by kernel_rfl
/-- acme/acmetop.armZone -/
def l47 : LFun := ⟨0, 35, [],
 (.seq
 (.reg false [] [] [
 ⟨(some 0), .mv, [(.c (.bool false))], none, []⟩] 0 [])
 (.seq
 (.reg false [1] [1] [
 ⟨(some 6), (.call false false false), [(.f 46), (.c (.int .i64 59840)), (.c (.int .i64 59960))], none, []⟩,
 ⟨(some 7), (.call false false false), [(.f 46), (.c (.int .i64 5)), (.c (.int .i64 8))], none, []⟩,
 ⟨(some 8), (.build [(.int .i64 0), (.int .i64 0)] [(0, 1), (1, 1)]), [(.c (.int .i64 4)), (.c (.int .i64 1))], none, []⟩,
 ⟨(some 9), (.build [(.int .i64 0), (.int .i64 0), (.int .i64 0), (.int .i64 0)] [(0, 2), (2, 2)]), [(.t 7), (.t 8)], none, []⟩,
 ⟨(some 10), (.call false false false), [(.f 28), (.t 6), (.c (.bool false)), (.t 9)], none, []⟩,
 ⟨(some 5), .mv, [(.t 10)], none, []⟩,
 ⟨(some 11), (.ext 0), [(.t 5)], none, []⟩,
 ⟨(some 12), (.ext 1), [(.t 5)], none, []⟩,
 ⟨(some 1), (.alloc [(.int .i64 0), (.int .i64 0)]), [], none, []⟩,
 ⟨none, (.store 2 none), [(.t 1), (.t 11)], none, []⟩,
 ⟨(some 2), .mv, [(.t 12)], none, []⟩] 0 [1, 2])
 (.seq
 (.reg false [] [] [
 ⟨(some 14), (.call false false false), [(.f 46), (.c (.int .i64 1000)), (.c (.int .i64 1009))], none, []⟩,
 ⟨(some 15), (.call false false false), [(.f 46), (.c (.int .i64 1020)), (.c (.int .i64 1029))], none, []⟩,
 ⟨(some 16), (.call false false false), [(.f 46), (.c (.int .i64 12)), (.c (.int .i64 28))], none, []⟩,
 ⟨(some 17), (.call false false false), [(.f 85), (.t 14), (.t 15), (.t 16)], none, []⟩,
 ⟨(some 13), .mv, [(.t 17)], none, []⟩,
 ⟨(some 18), (.ext 0), [(.t 13)], none, []⟩,
 ⟨(some 19), (.ext 1), [(.t 13)], none, []⟩,
 ⟨(some 3), .mv, [(.t 18)], none, []⟩,
 ⟨(some 4), .mv, [(.t 19)], none, []⟩] 0 [1, 2, 3, 4])
 (.seq
 (.reg false [] [] [
 ⟨(some 20), .mv, [(.t 2)], none, []⟩,
 ⟨(some 21), (.bin 0 .eql), [(.t 20), (.c (.int .i64 0))], none, []⟩,
 ⟨(some 22), .mv, [(.t 21)], none, []⟩,
 ⟨(some 23), .mv, [(.t 4)], (some (22, true)), []⟩,
 ⟨(some 24), (.bin 0 .eql), [(.t 23), (.c (.int .i64 0))], (some (22, true)), []⟩,
 ⟨(some 25), .pick, [(.t 22), (.t 24), (.c (.bool false))], none, []⟩,
 ⟨(some 26), .mv, [(.t 25)], none, []⟩,
 ⟨(some 27), (.load (some 2)), [(.t 1)], (some (26, true)), [28]⟩,
 ⟨(some 28), (.call true false false), [(.f 46), (.c (.int .i64 59820)), (.c (.int .i64 59928))], (some (26, true)), [27]⟩,
 ⟨(some 29), (.eqs false [(some .i64), (some .i64)]), [(.t 27), (.t 28)], (some (26, true)), []⟩,
 ⟨(some 30), .pick, [(.t 26), (.t 29), (.c (.bool false))], none, []⟩,
 ⟨(some 31), .mv, [(.t 30)], none, []⟩,
 ⟨(some 32), .mv, [(.t 3)], (some (31, true)), []⟩,
 ⟨(some 33), (.bin 0 .eql), [(.t 32), (.c (.int .i64 2))], (some (31, true)), []⟩,
 ⟨(some 34), .pick, [(.t 31), (.t 33), (.c (.bool false))], none, []⟩,
 ⟨(some 0), .mv, [(.t 34)], none, []⟩] 0 [0])
 .ret)))),
 [(.t 0)]⟩
theorem c47 : funC Try.prog [(0, []), (1, [1, 2]), (2, [1, 2, 3, 4]), (3, [0])] Try.f47 = some (unF l47) := by kernel_rfl
/-- (acme/acmetop.ArmForm).form -/
def l52 : LFun := ⟨1, 25, [],
 (.seq
 (.reg false [1, 2] [1, 2] [
 ⟨(some 1), .box, [(.t 0)], none, []⟩,
 ⟨(some 2), (.alloc [(.int .i64 0), (.int .i64 0), (.int .i64 0), (.int .i64 0), (.int .i64 0), (.int .i64 0), (.bool false), (.int .i64 0)]), [], none, []⟩] 0 [1, 2])
 (.seq
 (.reg false [] [] [
 ⟨(some 3), (.fa 0), [(.t 1)], none, []⟩,
 ⟨(some 4), (.load none), [(.t 3)], none, []⟩,
 ⟨(some 5), (.conv .i64), [(.t 4)], none, []⟩,
 ⟨(some 6), (.bin 0 .rem), [(.t 5), (.c (.int .i64 5000))], none, []⟩,
 ⟨(some 7), (.bin 0 .add), [(.c (.int .i64 1000)), (.t 6)], none, []⟩,
 ⟨(some 8), (.bin 0 .mul), [(.c (.int .i64 4)), (.t 7)], none, []⟩,
 ⟨(some 9), (.fa 1), [(.t 1)], none, []⟩,
 ⟨(some 10), (.load none), [(.t 9)], none, []⟩,
 ⟨(some 11), (.conv .i64), [(.t 10)], none, []⟩,
 ⟨(some 12), (.bin 0 .rem), [(.t 11), (.c (.int .i64 900))], none, []⟩,
 ⟨(some 13), (.bin 0 .add), [(.c (.int .i64 1)), (.t 12)], none, []⟩,
 ⟨(some 14), (.fa 2), [(.t 1)], none, []⟩,
 ⟨(some 15), (.load none), [(.t 14)], none, []⟩,
 ⟨(some 16), (.conv .i64), [(.t 15)], none, []⟩,
 ⟨(some 17), (.bin 0 .rem), [(.t 16), (.c (.int .i64 900))], none, []⟩,
 ⟨(some 18), (.bin 0 .add), [(.c (.int .i64 1)), (.t 17)], none, []⟩,
 ⟨(some 19), (.fa 0), [(.t 1)], none, []⟩,
 ⟨(some 20), (.load none), [(.t 19)], none, []⟩,
 ⟨(some 21), (.conv .i64), [(.t 20)], none, []⟩,
 ⟨(some 22), (.bin 0 .rem), [(.t 21), (.c (.int .i64 3))], none, []⟩,
 ⟨(some 23), (.bin 0 .add), [(.c (.int .i64 1)), (.t 22)], none, []⟩,
 ⟨(some 24), (.build [(.int .i64 0), (.int .i64 0), (.int .i64 0), (.int .i64 0), (.int .i64 0), (.int .i64 0), (.bool false), (.int .i64 0)] [(0, 1), (1, 1), (2, 1), (3, 1), (4, 1), (5, 1)]), [(.t 8), (.t 13), (.t 18), (.c (.int .i64 900)), (.c (.int .i64 900)), (.t 23)], none, []⟩,
 ⟨none, (.store 8 none), [(.t 2), (.t 24)], none, []⟩] 0 [2])
 .ret)),
 [(.c 2 (some 8))]⟩
theorem c52 : funC Try.prog [(0, [1, 2]), (1, [2])] Try.f52 = some (unF l52) := by kernel_rfl
/-- acme/fit.Show -/
def l53 : LFun := ⟨5, 64, [],
 (.seq
 (.reg false [5, 9, 10, 11] [5, 9, 10, 11] [
 ⟨(some 5), .box, [(.t 0)], none, []⟩,
 ⟨(some 9), .box, [(.t 4)], none, []⟩,
 ⟨(some 10), (.alloc [(.sl none 2 []), (.int .i64 0), (.int .i64 0)]), [], none, []⟩,
 ⟨(some 11), (.alloc [(.sl none 2 []), (.int .i64 0), (.int .i64 0)]), [], none, []⟩,
 ⟨(some 12), .mv, [(.c (.bool false))], none, []⟩,
 ⟨(some 13), .mv, [(.c (.int .i64 0))], none, []⟩] 0 [1, 2, 3, 5, 9, 10, 11])
 (.seq
 (.block 0
 (.seq
 (.reg false [] [] [
 ⟨(some 18), (.load (some 8)), [(.t 5)], none, []⟩,
 ⟨(some 19), (.call false false false), [(.f 68), (.t 18)], none, []⟩,
 ⟨(some 20), (.bin 0 .neq), [(.t 19), (.c (.int .i64 0))], none, []⟩,
 ⟨(some 17), .mv, [(.t 20)], none, []⟩] 0 [1, 2, 3, 5, 9, 10, 11, 17])
 (.cond (.t 17)
 (.seq
 (.reg false [] [] [
 ⟨(some 21), (.load (some 3)), [(.t 10)], none, [22]⟩,
 ⟨(some 22), (.load (some 3)), [(.t 11)], none, [21, 10]⟩,
 ⟨none, (.store 3 (some 10)), [(.t 10), (.t 21)], none, [22]⟩,
 ⟨none, (.store 3 (some 11)), [(.t 11), (.t 22)], none, []⟩,
 ⟨(some 12), .mv, [(.c (.bool false))], none, []⟩,
 ⟨(some 13), .mv, [(.c (.int .i64 2))], none, []⟩] 0 [10, 11, 12, 13])
 .ret)
 (.seq
 (.seq
 (.reg false [25] [25] [
 ⟨(some 24), .mv, [(.t 3)], none, []⟩,
 ⟨(some 25), (.bsl 1 [(.int .i64 0)] 1 [0]), [(.t 24)], none, []⟩,
 ⟨(some 26), (.call false false false), [(.f 114), (.c (.int .i64 1)), (.c (.int .i64 60)), (.t 25)], none, []⟩,
 ⟨(some 27), (.un .not), [(.t 26)], none, []⟩,
 ⟨(some 23), .mv, [(.t 27)], none, []⟩] 0 [1, 2, 3, 5, 9, 10, 11, 23])
 (.cond (.t 23)
 .skip
 (.seq
 (.reg false [30] [30] [
 ⟨(some 28), .mv, [(.t 1)], none, []⟩,
 ⟨(some 29), .mv, [(.t 2)], none, []⟩,
 ⟨(some 30), (.bsl 1 [(.int .i64 0)] 2 [0, 1]), [(.t 28), (.t 29)], none, []⟩,
 ⟨(some 31), (.call false false false), [(.f 114), (.c (.int .i64 (-10000))), (.c (.int .i64 10000)), (.t 30)], none, []⟩,
 ⟨(some 32), (.un .not), [(.t 31)], none, []⟩,
 ⟨(some 23), .mv, [(.t 32)], none, []⟩] 0 [1, 2, 3, 5, 9, 10, 11, 23])
 (.cond (.t 23)
 .skip
 (.reg false [] [] [
 ⟨(some 33), (.load (some 2)), [(.t 9)], none, []⟩,
 ⟨(some 34), (.call false false false), [(.f 115), (.t 33)], none, []⟩,
 ⟨(some 35), (.bin 0 .neq), [(.t 34), (.c (.int .i64 0))], none, []⟩,
 ⟨(some 23), .mv, [(.t 35)], none, []⟩] 0 [1, 2, 3, 5, 9, 10, 11, 23])))))
 (.cond (.t 23)
 (.seq
 (.reg false [] [] [
 ⟨(some 36), (.load (some 3)), [(.t 10)], none, [37]⟩,
 ⟨(some 37), (.load (some 3)), [(.t 11)], none, [36, 10]⟩,
 ⟨none, (.store 3 (some 10)), [(.t 10), (.t 36)], none, [37]⟩,
 ⟨none, (.store 3 (some 11)), [(.t 11), (.t 37)], none, []⟩,
 ⟨(some 12), .mv, [(.c (.bool false))], none, []⟩,
 ⟨(some 13), .mv, [(.c (.int .i64 3))], none, []⟩] 0 [10, 11, 12, 13])
 .ret)
 .skip)))))
 (.seq
 (.reg false [14] [14] [
 ⟨(some 38), (.load (some 8)), [(.t 5)], none, []⟩,
 ⟨(some 39), (.load (some 2)), [(.t 9)], none, []⟩,
 ⟨(some 40), (.build [(.int .i64 0), (.int .i64 0)] [(0, 2)]), [(.t 39)], none, []⟩,
 ⟨(some 41), (.build [(.int .i64 0), (.int .i64 0), (.int .i64 0), (.int .i64 0), (.int .i64 0), (.int .i64 0), (.bool false), (.int .i64 0), (.int .i64 0), (.int .i64 0)] [(0, 8), (8, 2)]), [(.t 38), (.t 40)], none, []⟩,
 ⟨(some 14), (.alloc [(.int .i64 0), (.int .i64 0), (.int .i64 0), (.int .i64 0), (.int .i64 0), (.int .i64 0), (.bool false), (.int .i64 0), (.int .i64 0), (.int .i64 0)]), [], none, []⟩,
 ⟨none, (.store 10 none), [(.t 14), (.t 41)], none, []⟩] 0 [1, 2, 3, 9, 10, 11, 14])
 (.seq
 (.reg false [45, 49, 15, 16] [45, 49, 15, 16] [
 ⟨(some 42), (.load (some 10)), [(.t 14)], none, [43, 44, 46, 47, 48, 15, 16]⟩,
 ⟨(some 43), .mv, [(.t 1)], none, [42, 44, 46, 47, 48, 15, 16]⟩,
 ⟨(some 44), .mv, [(.t 3)], none, [42, 43, 46, 47, 48, 15, 16]⟩,
 ⟨(some 45), (.call true false true), [(.f 116), (.t 42), (.t 43), (.t 44), (.f 77), (.f 79)], none, [46, 47, 48, 15, 16]⟩,
 ⟨(some 46), (.load (some 10)), [(.t 14)], none, [42, 43, 44, 45, 47, 48, 15, 16]⟩,
 ⟨(some 47), .mv, [(.t 2)], none, [42, 43, 44, 45, 46, 48, 15, 16]⟩,
 ⟨(some 48), .mv, [(.t 3)], none, [42, 43, 44, 45, 46, 47, 15, 16]⟩,
 ⟨(some 49), (.call false false true), [(.f 116), (.t 46), (.t 47), (.t 48), (.f 79), (.f 77)], none, [15, 16]⟩,
 ⟨(some 15), (.alloc [(.sl none 2 []), (.int .i64 0), (.int .i64 0)]), [], none, [42, 43, 44, 45, 46, 47, 48, 49, 16]⟩,
 ⟨(some 16), (.alloc [(.sl none 2 []), (.int .i64 0), (.int .i64 0)]), [], none, [42, 43, 44, 45, 46, 47, 48, 49, 15]⟩,
 ⟨none, (.store 3 (some 15)), [(.t 15), (.t 45)], none, []⟩,
 ⟨none, (.store 3 (some 16)), [(.t 16), (.t 49)], none, []⟩] 0 [9, 10, 11, 15, 16])
 (.seq
 (.seq
 (.reg false [53] [53] [
 ⟨(some 50), (.load (some 2)), [(.t 9)], none, []⟩,
 ⟨(some 51), (.load (some 3)), [(.t 15)], none, []⟩,
 ⟨(some 52), (.load (some 3)), [(.t 16)], none, []⟩,
 ⟨(some 53), (.bsl 3 [.nil, (.int .i64 0), (.int .i64 0)] 2 [0, 1]), [(.t 51), (.t 52)], none, []⟩,
 ⟨(some 54), (.call false false false), [(.f 72), (.t 50), (.t 53)], none, []⟩,
 ⟨(some 55), (.bin 0 .neq), [(.t 54), (.c (.int .i64 0))], none, []⟩] 0 [9, 10, 11, 15, 16, 55])
 (.cond (.t 55)
 (.seq
 (.reg false [] [] [
 ⟨(some 56), (.load (some 3)), [(.t 10)], none, [57]⟩,
 ⟨(some 57), (.load (some 3)), [(.t 11)], none, [56, 10]⟩,
 ⟨none, (.store 3 (some 10)), [(.t 10), (.t 56)], none, [57]⟩,
 ⟨none, (.store 3 (some 11)), [(.t 11), (.t 57)], none, []⟩,
 ⟨(some 12), .mv, [(.c (.bool false))], none, []⟩,
 ⟨(some 13), .mv, [(.c (.int .i64 9))], none, []⟩] 0 [10, 11, 12, 13])
 .ret)
 .skip))
 (.seq
 (.reg false [] [] [
 ⟨(some 58), (.load (some 3)), [(.t 15)], none, [59, 60, 61, 62, 63]⟩,
 ⟨(some 59), (.load (some 3)), [(.t 16)], none, [58, 60, 61, 62, 63, 10]⟩,
 ⟨(some 60), (.load (some 3)), [(.t 15)], none, [58, 59, 61, 62]⟩,
 ⟨(some 61), (.load (some 3)), [(.t 16)], none, [58, 59, 60, 62]⟩,
 ⟨(some 62), (.load (some 2)), [(.t 9)], none, [58, 59, 60, 61]⟩,
 ⟨(some 63), (.call true false false), [(.f 74), (.t 60), (.t 61), (.t 62)], none, [58, 59]⟩,
 ⟨none, (.store 3 (some 10)), [(.t 10), (.t 58)], none, [59]⟩,
 ⟨none, (.store 3 (some 11)), [(.t 11), (.t 59)], none, []⟩,
 ⟨(some 12), .mv, [(.t 63)], none, []⟩,
 ⟨(some 13), .mv, [(.c (.int .i64 0))], none, []⟩] 0 [10, 11, 12, 13])
 .ret)))))),
 [(.c 10 (some 3)), (.c 11 (some 3)), (.t 12), (.t 13)]⟩
theorem c53 : funC Try.prog [(0, [1, 2, 3, 5, 9, 10, 11]), (1, [1, 2, 3, 5, 9, 10, 11, 17]), (2, [10, 11, 12, 13]), (3, [1, 2, 3, 5, 9, 10, 11, 23]), (4, [1, 2, 3, 5, 9, 10, 11, 23]), (5, [1, 2, 3, 5, 9, 10, 11, 23]), (6, [10, 11, 12, 13]), (7, [1, 2, 3, 9, 10, 11, 14]), (8, [9, 10, 11, 15, 16]), (9, [9, 10, 11, 15, 16, 55]), (10, [10, 11, 12, 13]), (11, [10, 11, 12, 13])] Try.f53 = some (unF l53) := by kernel_rfl
/-- (acme/acmetop.ArmForm).depth -/
def l54 : LFun := ⟨1, 22, [],
 (.seq
 (.reg false [1, 2] [1, 2] [
 ⟨(some 1), .box, [(.t 0)], none, []⟩,
 ⟨(some 2), (.alloc [(.int .i64 0), (.int .i64 0)]), [], none, []⟩] 0 [1, 2])
 (.seq
 (.reg false [] [] [
 ⟨(some 5), (.fa 3), [(.t 1)], none, [10, 11, 12, 13, 14]⟩,
 ⟨(some 6), (.ixa 2 1), [(.t 5), (.c (.int .i64 0))], none, [10, 11, 12, 13, 14]⟩,
 ⟨(some 7), (.load none), [(.t 6)], none, [10, 11, 12, 13, 14]⟩,
 ⟨(some 8), (.conv .i64), [(.t 7)], none, [10, 11, 12, 13, 14]⟩,
 ⟨(some 9), (.bin 0 .mul), [(.c (.int .i64 7)), (.t 8)], none, [10, 11, 12, 13, 14]⟩,
 ⟨(some 10), (.fa 3), [(.t 1)], none, [5, 6, 7, 8, 9, 3]⟩,
 ⟨(some 11), (.ixa 2 1), [(.t 10), (.c (.int .i64 1))], none, [5, 6, 7, 8, 9, 3]⟩,
 ⟨(some 12), (.load none), [(.t 11)], none, [5, 6, 7, 8, 9, 3]⟩,
 ⟨(some 13), (.conv .i64), [(.t 12)], none, [5, 6, 7, 8, 9, 3]⟩,
 ⟨(some 14), (.bin 0 .mul), [(.c (.int .i64 7)), (.t 13)], none, [5, 6, 7, 8, 9, 3]⟩,
 ⟨(some 3), .mv, [(.t 9)], none, [10, 11, 12, 13, 14]⟩,
 ⟨(some 4), .mv, [(.t 14)], none, []⟩] 0 [2, 3, 4])
 (.seq
 (.reg false [] [] [
 ⟨(some 15), .mv, [(.t 3)], none, []⟩,
 ⟨(some 16), .mv, [(.t 4)], none, []⟩,
 ⟨(some 17), .min, [(.t 15), (.t 16)], none, []⟩,
 ⟨(some 18), .mv, [(.t 3)], none, []⟩,
 ⟨(some 19), .mv, [(.t 4)], none, []⟩,
 ⟨(some 20), .max, [(.t 18), (.t 19)], none, []⟩,
 ⟨(some 21), (.call false false false), [(.f 46), (.t 17), (.t 20)], none, []⟩,
 ⟨none, (.store 2 none), [(.t 2), (.t 21)], none, []⟩] 0 [2])
 .ret))),
 [(.c 2 (some 2))]⟩
theorem c54 : funC Try.prog [(0, [1, 2]), (1, [2, 3, 4]), (2, [2])] Try.f54 = some (unF l54) := by kernel_rfl
/-- acme/acmetop.armFit -/
def l55 : LFun := ⟨0, 41, [],
 (.seq
 (.reg false [] [] [
 ⟨(some 0), .mv, [(.c (.bool false))], none, []⟩] 0 [])
 (.seq
 (.reg false [7, 1] [7, 1] [
 ⟨(some 6), (.call false false false), [(.f 56)], none, []⟩,
 ⟨(some 7), (.call false false true), [(.f 117), (.t 6), (.c (.int .i64 2)), (.c (.int .i64 0))], none, []⟩,
 ⟨(some 1), (.alloc [(.sl none 2 []), (.int .i64 0), (.int .i64 0)]), [], none, []⟩,
 ⟨none, (.store 3 none), [(.t 1), (.t 7)], none, []⟩] 0 [1])
 (.seq
 (.reg false [] [] [
 ⟨(some 8), (.fa 0), [(.t 1)], none, []⟩,
 ⟨(some 9), (.load none), [(.t 8)], none, []⟩,
 ⟨(some 10), (.build [(.int .i64 0), (.int .i64 0)] [(0, 1), (1, 1)]), [(.c (.int .i64 7510)), (.c (.int .i64 12510))], none, []⟩,
 ⟨(some 11), (.ixs 2), [(.t 9), (.c (.int .i64 1))], none, []⟩,
 ⟨none, (.store 2 none), [(.t 11), (.t 10)], none, []⟩] 0 [1])
 (.seq
 (.reg false [] [] [
 ⟨(some 13), (.call true false false), [(.f 56)], none, [14]⟩,
 ⟨(some 14), (.load (some 3)), [(.t 1)], none, [13, 15]⟩,
 ⟨(some 15), (.call true false false), [(.f 46), (.c (.int .i64 (-3000))), (.c (.int .i64 3000))], none, [14]⟩,
 ⟨(some 16), (.call false false false), [(.f 23), (.t 13), (.t 14), (.t 15)], none, []⟩,
 ⟨(some 12), .mv, [(.t 16)], none, []⟩,
 ⟨(some 17), (.ext 0), [(.t 12)], none, [18]⟩,
 ⟨(some 18), (.ext 1), [(.t 12)], none, [17, 2]⟩,
 ⟨(some 2), .mv, [(.t 17)], none, [18]⟩,
 ⟨(some 3), .mv, [(.t 18)], none, []⟩] 0 [2, 3])
 (.seq
 (.reg false [22] [22] [
 ⟨(some 20), (.call false false false), [(.f 56)], none, []⟩,
 ⟨(some 21), (.call false false false), [(.f 56)], none, []⟩,
 ⟨(some 22), (.call false false true), [(.f 117), (.t 21), (.c (.int .i64 2)), (.c (.int .i64 10))], none, []⟩,
 ⟨(some 23), (.call false false false), [(.f 46), (.c (.int .i64 (-3000))), (.c (.int .i64 3000))], none, []⟩,
 ⟨(some 24), (.call false false false), [(.f 24), (.t 20), (.t 22), (.t 23)], none, []⟩,
 ⟨(some 19), .mv, [(.t 24)], none, []⟩,
 ⟨(some 25), (.ext 0), [(.t 19)], none, []⟩,
 ⟨(some 26), (.ext 1), [(.t 19)], none, []⟩,
 ⟨(some 4), .mv, [(.t 25)], none, []⟩,
 ⟨(some 5), .mv, [(.t 26)], none, []⟩] 0 [2, 3, 4, 5])
 (.seq
 (.reg false [] [] [
 ⟨(some 27), .mv, [(.t 3)], none, []⟩,
 ⟨(some 28), (.bin 0 .eql), [(.t 27), (.c (.int .i64 0))], none, []⟩,
 ⟨(some 29), .mv, [(.t 28)], none, []⟩,
 ⟨(some 30), .mv, [(.t 5)], (some (29, true)), []⟩,
 ⟨(some 31), (.bin 0 .eql), [(.t 30), (.c (.int .i64 0))], (some (29, true)), []⟩,
 ⟨(some 32), .pick, [(.t 29), (.t 31), (.c (.bool false))], none, []⟩,
 ⟨(some 33), .mv, [(.t 32)], none, []⟩,
 ⟨(some 34), .mv, [(.t 2)], (some (33, true)), []⟩,
 ⟨(some 35), (.bin 0 .eql), [(.t 34), (.c (.int .i64 9))], (some (33, true)), []⟩,
 ⟨(some 36), .pick, [(.t 33), (.t 35), (.c (.bool false))], none, []⟩,
 ⟨(some 37), .mv, [(.t 36)], none, []⟩,
 ⟨(some 38), .mv, [(.t 4)], (some (37, true)), []⟩,
 ⟨(some 39), (.bin 0 .eql), [(.t 38), (.c (.int .i64 17))], (some (37, true)), []⟩,
 ⟨(some 40), .pick, [(.t 37), (.t 39), (.c (.bool false))], none, []⟩,
 ⟨(some 0), .mv, [(.t 40)], none, []⟩] 0 [0])
 .ret)))))),
 [(.t 0)]⟩
theorem c55 : funC Try.prog [(0, []), (1, [1]), (2, [1]), (3, [2, 3]), (4, [2, 3, 4, 5]), (5, [0])] Try.f55 = some (unF l55) := by kernel_rfl
/-- acme/acmetop.armMetric -/
def l56 : LFun := ⟨0, 2, [],
 (.seq
 (.reg false [0] [0] [
 ⟨(some 0), (.alloc [(.int .i64 0), (.int .i64 0), (.int .i64 0), (.int .i64 0), (.int .i64 0), (.int .i64 0), (.bool false), (.int .i64 0)]), [], none, []⟩] 0 [0])
 (.seq
 (.reg false [] [] [
 ⟨(some 1), (.build [(.int .i64 0), (.int .i64 0), (.int .i64 0), (.int .i64 0), (.int .i64 0), (.int .i64 0), (.bool false), (.int .i64 0)] [(0, 1), (1, 1), (2, 1), (3, 1), (4, 1), (5, 1)]), [(.c (.int .i64 10000)), (.c (.int .i64 577)), (.c (.int .i64 577)), (.c (.int .i64 3000)), (.c (.int .i64 3000)), (.c (.int .i64 1))], none, []⟩,
 ⟨none, (.store 8 none), [(.t 0), (.t 1)], none, []⟩] 0 [0])
 .ret)),
 [(.c 0 (some 8))]⟩
theorem c56 : funC Try.prog [(0, [0]), (1, [0])] Try.f56 = some (unF l56) := by kernel_rfl
/-- acme/thread.Check -/
def l68 : LFun := ⟨1, 63, [],
 (.seq
 (.reg false [1] [1] [
 ⟨(some 1), .box, [(.t 0)], none, []⟩,
 ⟨(some 2), .mv, [(.c (.int .i64 0))], none, []⟩] 0 [1])
 (.seq
 (.reg false [3] [3] [
 ⟨(some 5), (.load (some 8)), [(.t 1)], none, []⟩,
 ⟨(some 6), (.build [(.int .i64 0), (.int .i64 0), (.int .i64 0), (.int .i64 0), (.int .i64 0), (.int .i64 0), (.bool false), (.int .i64 0)] [(0, 8)]), [(.t 5)], none, []⟩,
 ⟨(some 3), (.alloc [(.int .i64 0), (.int .i64 0), (.int .i64 0), (.int .i64 0), (.int .i64 0), (.int .i64 0), (.bool false), (.int .i64 0)]), [], none, []⟩,
 ⟨none, (.store 8 none), [(.t 3), (.t 6)], none, []⟩] 0 [1, 3])
 (.seq
 (.reg false [9, 16, 24] [9, 16, 24] [
 ⟨(some 7), (.fa 0), [(.t 1)], none, []⟩,
 ⟨(some 8), (.load none), [(.t 7)], none, []⟩,
 ⟨(some 9), (.bsl 1 [(.int .i64 0)] 1 [0]), [(.t 8)], none, []⟩,
 ⟨(some 10), (.call false false false), [(.f 94), (.c (.int .i64 100)), (.c (.int .i64 200000)), (.t 9)], none, []⟩,
 ⟨(some 11), .mv, [(.t 10)], none, []⟩,
 ⟨(some 12), (.fa 1), [(.t 1)], (some (11, true)), []⟩,
 ⟨(some 13), (.load none), [(.t 12)], (some (11, true)), []⟩,
 ⟨(some 14), (.fa 2), [(.t 1)], (some (11, true)), []⟩,
 ⟨(some 15), (.load none), [(.t 14)], (some (11, true)), []⟩,
 ⟨(some 16), (.bsl 1 [(.int .i64 0)] 2 [0, 1]), [(.t 13), (.t 15)], (some (11, true)), []⟩,
 ⟨(some 17), (.call false false false), [(.f 94), (.c (.int .i64 0)), (.c (.int .i64 3000)), (.t 16)], (some (11, true)), []⟩,
 ⟨(some 18), .pick, [(.t 11), (.t 17), (.c (.bool false))], none, []⟩,
 ⟨(some 19), .mv, [(.t 18)], none, []⟩,
 ⟨(some 20), (.fa 3), [(.t 1)], (some (19, true)), []⟩,
 ⟨(some 21), (.load none), [(.t 20)], (some (19, true)), []⟩,
 ⟨(some 22), (.fa 4), [(.t 1)], (some (19, true)), []⟩,
 ⟨(some 23), (.load none), [(.t 22)], (some (19, true)), []⟩,
 ⟨(some 24), (.bsl 1 [(.int .i64 0)] 2 [0, 1]), [(.t 21), (.t 23)], (some (19, true)), []⟩,
 ⟨(some 25), (.call false false false), [(.f 94), (.c (.int .i64 0)), (.c (.int .i64 200000)), (.t 24)], (some (19, true)), []⟩,
 ⟨(some 26), .pick, [(.t 19), (.t 25), (.c (.bool false))], none, []⟩,
 ⟨(some 27), .mv, [(.t 26)], none, []⟩,
 ⟨(some 28), (.fa 3), [(.t 1)], (some (27, true)), []⟩,
 ⟨(some 29), (.load none), [(.t 28)], (some (27, true)), []⟩,
 ⟨(some 30), (.fa 4), [(.t 1)], (some (27, true)), []⟩,
 ⟨(some 31), (.load none), [(.t 30)], (some (27, true)), []⟩,
 ⟨(some 32), (.bin 0 .add), [(.t 29), (.t 31)], (some (27, true)), []⟩,
 ⟨(some 33), (.bin 0 .geq), [(.t 32), (.c (.int .i64 1))], (some (27, true)), []⟩,
 ⟨(some 34), .pick, [(.t 27), (.t 33), (.c (.bool false))], none, []⟩,
 ⟨(some 4), .mv, [(.t 34)], none, []⟩] 0 [1, 3, 4])
 (.seq
 (.seq
 (.reg false [40, 47] [40, 47] [
 ⟨(some 35), .mv, [(.t 4)], none, []⟩,
 ⟨(some 36), (.un .not), [(.t 35)], none, []⟩,
 ⟨(some 37), .mv, [(.t 36)], none, []⟩,
 ⟨(some 38), (.fa 5), [(.t 1)], (some (37, false)), []⟩,
 ⟨(some 39), (.load none), [(.t 38)], (some (37, false)), []⟩,
 ⟨(some 40), (.bsl 1 [(.int .i64 0)] 1 [0]), [(.t 39)], (some (37, false)), []⟩,
 ⟨(some 41), (.call false false false), [(.f 94), (.c (.int .i64 1)), (.c (.int .i64 8)), (.t 40)], (some (37, false)), []⟩,
 ⟨(some 42), (.un .not), [(.t 41)], (some (37, false)), []⟩,
 ⟨(some 43), .pick, [(.t 37), (.c (.bool true)), (.t 42)], none, []⟩,
 ⟨(some 44), .mv, [(.t 43)], none, []⟩,
 ⟨(some 45), (.fa 7), [(.t 1)], (some (44, false)), []⟩,
 ⟨(some 46), (.load none), [(.t 45)], (some (44, false)), []⟩,
 ⟨(some 47), (.bsl 1 [(.int .i64 0)] 1 [0]), [(.t 46)], (some (44, false)), []⟩,
 ⟨(some 48), (.call false false false), [(.f 94), (.c (.int .i64 0)), (.c (.int .i64 100)), (.t 47)], (some (44, false)), []⟩,
 ⟨(some 49), (.un .not), [(.t 48)], (some (44, false)), []⟩,
 ⟨(some 50), .pick, [(.t 44), (.c (.bool true)), (.t 49)], none, []⟩] 0 [1, 3, 50])
 (.cond (.t 50)
 (.seq
 (.reg false [] [] [
 ⟨(some 2), .mv, [(.c (.int .i64 2))], none, []⟩] 0 [2])
 .ret)
 .skip))
 (.seq
 (.seq
 (.reg false [] [] [
 ⟨(some 51), (.load (some 8)), [(.t 3)], none, []⟩,
 ⟨(some 52), (.fa 3), [(.t 1)], none, []⟩,
 ⟨(some 53), (.load none), [(.t 52)], none, []⟩,
 ⟨(some 54), (.call false false false), [(.f 131), (.t 51), (.t 53)], none, []⟩,
 ⟨(some 55), (.bin 0 .lss), [(.t 54), (.c (.int .i64 0))], none, []⟩,
 ⟨(some 56), .mv, [(.t 55)], none, []⟩,
 ⟨(some 57), (.load (some 8)), [(.t 3)], (some (56, false)), []⟩,
 ⟨(some 58), (.fa 4), [(.t 1)], (some (56, false)), []⟩,
 ⟨(some 59), (.load none), [(.t 58)], (some (56, false)), []⟩,
 ⟨(some 60), (.call false false false), [(.f 131), (.t 57), (.t 59)], (some (56, false)), []⟩,
 ⟨(some 61), (.bin 0 .lss), [(.t 60), (.c (.int .i64 0))], (some (56, false)), []⟩,
 ⟨(some 62), .pick, [(.t 56), (.c (.bool true)), (.t 61)], none, []⟩] 0 [62])
 (.cond (.t 62)
 (.seq
 (.reg false [] [] [
 ⟨(some 2), .mv, [(.c (.int .i64 2))], none, []⟩] 0 [2])
 .ret)
 .skip))
 (.seq
 (.reg false [] [] [
 ⟨(some 2), .mv, [(.c (.int .i64 0))], none, []⟩] 0 [2])
 .ret)))))),
 [(.t 2)]⟩
theorem c68 : funC Try.prog [(0, [1]), (1, [1, 3]), (2, [1, 3, 4]), (3, [1, 3, 50]), (4, [2]), (5, [62]), (6, [2]), (7, [2])] Try.f68 = some (unF l68) := by kernel_rfl
/-- acme/swap.within -/
def l69 : LFun := ⟨3, 11, [],
 (.seq
 (.reg false [3, 4] [3, 4] [
 ⟨(some 3), .box, [(.t 0)], none, []⟩,
 ⟨(some 4), .box, [(.t 1)], none, []⟩,
 ⟨(some 6), .mv, [(.c (.bool false))], none, []⟩] 0 [2, 3, 4])
 (.seq
 (.reg false [] [] [
 ⟨(some 7), .mv, [(.t 2)], none, []⟩,
 ⟨(some 8), (.mkf 133), [(.t 3), (.t 4)], none, []⟩,
 ⟨(some 9), (.call false false false), [(.f 132), (.t 7), (.t 8)], none, []⟩,
 ⟨(some 10), (.un .not), [(.t 9)], none, []⟩,
 ⟨(some 6), .mv, [(.t 10)], none, []⟩] 0 [3, 4, 6])
 .ret)),
 [(.t 6)]⟩
theorem c69 : funC Try.prog [(0, [2, 3, 4]), (1, [3, 4, 6])] Try.f69 = some (unF l69) := by kernel_rfl
/-- (acme/swap.span).isDepth -/
def l70 : LFun := ⟨1, 5, [],
 (.seq
 (.reg false [1] [1] [
 ⟨(some 1), .box, [(.t 0)], none, []⟩,
 ⟨(some 2), .mv, [(.c (.bool false))], none, []⟩] 0 [1])
 (.seq
 (.reg false [] [] [
 ⟨(some 3), (.load (some 2)), [(.t 1)], none, []⟩,
 ⟨(some 4), (.call false false false), [(.f 134), (.t 3), (.c (.int .i64 (-200000))), (.c (.int .i64 200000))], none, []⟩,
 ⟨(some 2), .mv, [(.t 4)], none, []⟩] 0 [2])
 .ret)),
 [(.t 2)]⟩
theorem c70 : funC Try.prog [(0, [1]), (1, [2])] Try.f70 = some (unF l70) := by kernel_rfl
/-- (acme/swap.piece).turns -/
def l71 : LFun := ⟨3, 40, [],
 (.seq
 (.reg false [3, 4, 5] [3, 4, 5] [
 ⟨(some 3), .box, [(.t 0)], none, []⟩,
 ⟨(some 4), .box, [(.t 1)], none, []⟩,
 ⟨(some 5), .box, [(.t 2)], none, []⟩,
 ⟨(some 6), .mv, [(.c (.int .i64 0))], none, []⟩] 0 [3, 4, 5])
 (.seq
 (.reg false [] [] [
 ⟨(some 9), (.load (some 9)), [(.t 3)], none, [10, 11, 13, 14, 15, 16, 17, 18, 19, 20]⟩,
 ⟨(some 10), (.load (some 9)), [(.t 4)], none, [9, 11, 13, 14, 15, 16, 17, 18, 19, 20]⟩,
 ⟨(some 11), (.load (some 2)), [(.t 5)], none, [9, 10, 13, 14, 15, 16, 17, 18, 19, 20]⟩,
 ⟨(some 12), (.call true false false), [(.f 135), (.t 9), (.t 10), (.t 11)], none, [13, 14, 15, 16, 17, 18, 19, 20]⟩,
 ⟨(some 13), (.fa 0), [(.t 4)], none, [9, 10, 11, 12, 16, 17, 18, 7]⟩,
 ⟨(some 14), (.fa 0), [(.t 13)], none, [9, 10, 11, 12, 16, 17, 18, 7]⟩,
 ⟨(some 15), (.load none), [(.t 14)], none, [9, 10, 11, 12, 16, 17, 18, 7]⟩,
 ⟨(some 16), (.fa 0), [(.t 3)], none, [9, 10, 11, 12, 13, 14, 15, 7]⟩,
 ⟨(some 17), (.fa 0), [(.t 16)], none, [9, 10, 11, 12, 13, 14, 15, 7]⟩,
 ⟨(some 18), (.load none), [(.t 17)], none, [9, 10, 11, 12, 13, 14, 15, 7]⟩,
 ⟨(some 19), (.bin 0 .sub), [(.t 15), (.t 18)], none, [9, 10, 11, 12, 7]⟩,
 ⟨(some 20), (.bin 0 .mul), [(.c (.int .i64 4000)), (.t 19)], none, [9, 10, 11, 12, 7]⟩,
 ⟨(some 7), .mv, [(.t 12)], none, [13, 14, 15, 16, 17, 18, 19, 20]⟩,
 ⟨(some 8), .mv, [(.t 20)], none, []⟩] 0 [3, 4, 7, 8])
 (.seq
 (.reg false [] [] [
 ⟨(some 21), .mv, [(.t 8)], none, []⟩,
 ⟨(some 22), .mv, [(.t 8)], none, []⟩,
 ⟨(some 23), (.un .neg), [(.t 22)], none, []⟩,
 ⟨(some 24), .max, [(.t 21), (.t 23)], none, []⟩,
 ⟨(some 8), .mv, [(.t 24)], none, []⟩] 0 [3, 4, 7, 8])
 (.seq
 (.block 0
 (.seq
 (.seq
 (.reg false [] [] [
 ⟨(some 26), (.load (some 9)), [(.t 3)], none, []⟩,
 ⟨(some 27), (.load (some 9)), [(.t 4)], none, []⟩,
 ⟨(some 28), (.call false false false), [(.f 136), (.t 26), (.t 27)], none, []⟩,
 ⟨(some 29), (.un .not), [(.t 28)], none, []⟩,
 ⟨(some 25), .mv, [(.t 29)], none, []⟩] 0 [7, 8, 25])
 (.cond (.t 25)
 .skip
 (.reg false [] [] [
 ⟨(some 30), .mv, [(.t 7)], none, []⟩,
 ⟨(some 31), (.bin 0 .lss), [(.t 30), (.c (.int .i64 0))], none, []⟩,
 ⟨(some 25), .mv, [(.t 31)], none, []⟩] 0 [7, 8, 25])))
 (.cond (.t 25)
 (.seq
 (.reg false [] [] [
 ⟨(some 6), .mv, [(.c (.int .i64 0))], none, []⟩] 0 [6])
 .ret)
 (.seq
 (.reg false [] [] [
 ⟨(some 33), .mv, [(.t 8)], none, []⟩,
 ⟨(some 34), (.bin 0 .eql), [(.t 33), (.c (.int .i64 0))], none, []⟩,
 ⟨(some 32), .mv, [(.t 34)], none, []⟩] 0 [7, 8, 32])
 (.cond (.t 32)
 (.seq
 (.reg false [] [] [
 ⟨(some 6), .mv, [(.c (.int .i64 100))], none, []⟩] 0 [6])
 .ret)
 .skip)))))
 (.seq
 (.reg false [] [] [
 ⟨(some 35), .mv, [(.t 7)], none, []⟩,
 ⟨(some 36), .mv, [(.t 8)], none, []⟩,
 ⟨(some 37), (.bin 0 .quo), [(.t 35), (.t 36)], none, []⟩,
 ⟨(some 38), (.bin 0 .add), [(.c (.int .i64 1)), (.t 37)], none, []⟩,
 ⟨(some 39), .min, [(.c (.int .i64 100)), (.t 38)], none, []⟩,
 ⟨(some 6), .mv, [(.t 39)], none, []⟩] 0 [6])
 .ret))))),
 [(.t 6)]⟩
theorem c71 : funC Try.prog [(0, [3, 4, 5]), (1, [3, 4, 7, 8]), (2, [3, 4, 7, 8]), (3, [7, 8, 25]), (4, [7, 8, 25]), (5, [6]), (6, [7, 8, 32]), (7, [6]), (8, [6])] Try.f71 = some (unF l71) := by kernel_rfl
/-- acme/fit.checkAll -/
def b72_0 : LCode :=
 (.seq
 (.reg true [] [] [
 ⟨(some 11), (.bin 0 .lss), [(.t 10), (.t 9)], none, []⟩] 0 [2, 8, 9, 10, 11])
 (.seq
 (.cond (.t 11)
 .skip
 (.exit 0))
 (.seq
 (.block 1
 (.seq
 (.reg true [6] [6] [
 ⟨(some 12), (.ixs 3), [(.t 8), (.t 10)], none, []⟩,
 ⟨(some 13), (.load (some 3)), [(.t 12)], none, []⟩,
 ⟨(some 6), (.alloc [(.sl none 2 []), (.int .i64 0), (.int .i64 0)]), [], none, []⟩,
 ⟨none, (.store 3 none), [(.t 6), (.t 13)], none, []⟩] 0 [2, 6, 8, 9, 10])
 (.seq
 (.reg true [] [] [
 ⟨(some 14), (.load (some 3)), [(.t 6)], none, []⟩,
 ⟨(some 15), (.call false false false), [(.f 137), (.t 14)], none, []⟩,
 ⟨(some 7), .mv, [(.t 15)], none, []⟩] 0 [2, 7, 8, 9, 10])
 (.seq
 (.reg true [] [] [
 ⟨(some 16), .mv, [(.t 7)], none, []⟩,
 ⟨(some 17), (.bin 0 .neq), [(.t 16), (.c (.int .i64 0))], none, []⟩] 0 [2, 7, 8, 9, 10, 17])
 (.cond (.t 17)
 (.seq
 (.reg true [] [] [
 ⟨(some 18), .mv, [(.t 7)], none, []⟩,
 ⟨(some 4), .mv, [(.t 18)], none, []⟩] 0 [4])
 .ret)
 .skip)))))
 (.reg true [] [] [
 ⟨(some 19), (.bin 0 .add), [(.t 10), (.c (.int .i64 1))], none, []⟩,
 ⟨(some 10), .mv, [(.t 19)], none, []⟩] 0 [2, 8, 9, 10]))))
def l72 : LFun := ⟨2, 22, [],
 (.seq
 (.reg false [2] [2] [
 ⟨(some 2), .box, [(.t 0)], none, []⟩,
 ⟨(some 4), .mv, [(.c (.int .i64 0))], none, []⟩] 0 [1, 2])
 (.seq
 (.seq
 (.reg false [] [] [
 ⟨(some 8), .mv, [(.t 1)], none, []⟩,
 ⟨(some 9), .len, [(.t 8)], none, []⟩,
 ⟨(some 10), .mv, [(.c (.int .i64 0))], none, []⟩] 0 [2, 8, 9, 10])
 (.block 0
 (.loop b72_0)))
 (.seq
 (.reg false [] [] [
 ⟨(some 20), (.load (some 2)), [(.t 2)], none, []⟩,
 ⟨(some 21), (.call false false false), [(.f 115), (.t 20)], none, []⟩,
 ⟨(some 4), .mv, [(.t 21)], none, []⟩] 0 [4])
 .ret))),
 [(.t 4)]⟩
theorem c72 : funC Try.prog [(0, [1, 2]), (1, [2, 8, 9, 10]), (2, [2, 8, 9, 10, 11]), (3, [2, 6, 8, 9, 10]), (4, [2, 7, 8, 9, 10]), (5, [2, 7, 8, 9, 10, 17]), (6, [4]), (7, [2, 8, 9, 10]), (8, [4])] Try.f72 = some (unF l72) := by kernel_rfl
/-- slices.Concat[[]acme/api.FitThread,acme/api.FitThread] -/
def b73_0 : LCode :=
 (.seq
 (.reg true [] [] [
 ⟨(some 12), (.bin 0 .lss), [(.t 11), (.t 10)], none, []⟩] 0 [0, 3, 9, 10, 11, 12])
 (.seq
 (.cond (.t 12)
 .skip
 (.exit 0))
 (.seq
 (.block 1
 (.seq
 (.reg true [] [] [
 ⟨(some 13), (.ixs 1), [(.t 9), (.t 11)], none, []⟩,
 ⟨(some 14), (.load none), [(.t 13)], none, []⟩,
 ⟨(some 5), .mv, [(.t 14)], none, []⟩] 0 [0, 3, 5, 9, 10, 11])
 (.seq
 (.reg true [] [] [
 ⟨(some 15), .mv, [(.t 3)], none, []⟩,
 ⟨(some 16), .mv, [(.t 5)], none, []⟩,
 ⟨(some 17), .len, [(.t 16)], none, []⟩,
 ⟨(some 18), (.bin 0 .add), [(.t 15), (.t 17)], none, []⟩,
 ⟨(some 3), .mv, [(.t 18)], none, []⟩] 0 [0, 3, 9, 10, 11])
 (.seq
 (.reg true [] [] [
 ⟨(some 19), .mv, [(.t 3)], none, []⟩,
 ⟨(some 20), (.bin 0 .lss), [(.t 19), (.c (.int .i64 0))], none, []⟩] 0 [0, 3, 9, 10, 11, 20])
 (.cond (.t 20)
 (.reg true [] [] [
 ⟨none, .bad, [], none, []⟩,
 ⟨none, .bad, [], none, []⟩] 0 [0, 3, 9, 10, 11])
 .skip)))))
 (.reg true [] [] [
 ⟨(some 22), (.bin 0 .add), [(.t 11), (.c (.int .i64 1))], none, []⟩,
 ⟨(some 11), .mv, [(.t 22)], none, []⟩] 0 [0, 3, 9, 10, 11]))))
def b73_1 : LCode :=
 (.seq
 (.reg true [] [] [
 ⟨(some 28), (.bin 0 .lss), [(.t 27), (.t 26)], none, []⟩] 0 [6, 25, 26, 27, 28])
 (.seq
 (.cond (.t 28)
 .skip
 (.exit 2))
 (.seq
 (.block 3
 (.seq
 (.reg true [] [] [
 ⟨(some 29), (.ixs 1), [(.t 25), (.t 27)], none, []⟩,
 ⟨(some 30), (.load none), [(.t 29)], none, []⟩,
 ⟨(some 8), .mv, [(.t 30)], none, []⟩] 0 [6, 8, 25, 26, 27])
 (.reg true [33] [] [
 ⟨(some 31), .mv, [(.t 6)], none, []⟩,
 ⟨(some 32), .mv, [(.t 8)], none, []⟩,
 ⟨(some 33), (.append false 3 40), [(.t 31), (.t 32)], none, []⟩,
 ⟨(some 6), .mv, [(.t 33)], none, []⟩] 0 [6, 25, 26, 27])))
 (.reg true [] [] [
 ⟨(some 34), (.bin 0 .add), [(.t 27), (.c (.int .i64 1))], none, []⟩,
 ⟨(some 27), .mv, [(.t 34)], none, []⟩] 0 [6, 25, 26, 27]))))
def l73 : LFun := ⟨1, 36, [],
 (.seq
 (.reg false [] [] [
 ⟨(some 2), .mv, [(.c .nil)], none, []⟩] 0 [0])
 (.seq
 (.reg false [] [] [
 ⟨(some 3), .mv, [(.c (.int .i64 0))], none, []⟩] 0 [0, 3])
 (.seq
 (.seq
 (.reg false [] [] [
 ⟨(some 9), .mv, [(.t 0)], none, []⟩,
 ⟨(some 10), .len, [(.t 9)], none, []⟩,
 ⟨(some 11), .mv, [(.c (.int .i64 0))], none, []⟩] 0 [0, 3, 9, 10, 11])
 (.block 0
 (.loop b73_0)))
 (.seq
 (.reg false [24] [24] [
 ⟨(some 23), .mv, [(.t 3)], none, []⟩,
 ⟨(some 24), (.call false true true), [(.f 138), (.c .nil), (.t 23)], none, []⟩,
 ⟨(some 6), .mv, [(.t 24)], none, []⟩] 0 [0, 6])
 (.seq
 (.seq
 (.reg false [] [] [
 ⟨(some 25), .mv, [(.t 0)], none, []⟩,
 ⟨(some 26), .len, [(.t 25)], none, []⟩,
 ⟨(some 27), .mv, [(.c (.int .i64 0))], none, []⟩] 0 [6, 25, 26, 27])
 (.block 2
 (.loop b73_1)))
 (.seq
 (.reg false [] [] [
 ⟨(some 35), .mv, [(.t 6)], none, []⟩,
 ⟨(some 2), .mv, [(.t 35)], none, []⟩] 0 [2])
 .ret)))))),
 [(.t 2)]⟩
theorem c73 : funC Try.prog [(0, [0]), (1, [0, 3]), (2, [0, 3, 9, 10, 11]), (3, [0, 3, 9, 10, 11, 12]), (4, [0, 3, 5, 9, 10, 11]), (5, [0, 3, 9, 10, 11]), (6, [0, 3, 9, 10, 11, 20]), (7, [0, 3, 9, 10, 11]), (8, [0, 3, 9, 10, 11]), (9, [0, 6]), (10, [6, 25, 26, 27]), (11, [6, 25, 26, 27, 28]), (12, [6, 8, 25, 26, 27]), (13, [6, 25, 26, 27]), (14, [6, 25, 26, 27]), (15, [2])] Try.f73 = some (unF l73) := by kernel_rfl
/-- acme/fit.goes -/
def l74 : LFun := ⟨3, 23, [],
 (.seq
 (.reg false [3, 4, 5] [3, 4, 5] [
 ⟨(some 3), .box, [(.t 0)], none, []⟩,
 ⟨(some 4), .box, [(.t 1)], none, []⟩,
 ⟨(some 5), .box, [(.t 2)], none, []⟩,
 ⟨(some 6), .mv, [(.c (.bool false))], none, []⟩] 0 [3, 4, 5])
 (.seq
 (.reg false [7] [7] [
 ⟨(some 10), (.load (some 2)), [(.t 5)], none, []⟩,
 ⟨(some 11), (.build [(.int .i64 0), (.int .i64 0)] [(0, 2)]), [(.t 10)], none, []⟩,
 ⟨(some 12), (.load (some 3)), [(.t 3)], none, []⟩,
 ⟨(some 13), (.load (some 3)), [(.t 4)], none, []⟩,
 ⟨(some 14), (.build [(.int .i64 0), (.int .i64 0), (.sl none 2 []), (.int .i64 0), (.int .i64 0), (.sl none 2 []), (.int .i64 0), (.int .i64 0)] [(0, 2), (2, 3), (5, 3)]), [(.t 11), (.t 12), (.t 13)], none, []⟩,
 ⟨(some 15), (.fa 0), [(.t 3)], none, []⟩,
 ⟨(some 16), (.load none), [(.t 15)], none, []⟩,
 ⟨(some 17), (.fa 0), [(.t 4)], none, []⟩,
 ⟨(some 18), (.load none), [(.t 17)], none, []⟩,
 ⟨(some 19), (.call false false false), [(.f 118), (.t 14), (.t 16), (.t 18)], none, []⟩,
 ⟨(some 9), .mv, [(.t 19)], none, []⟩,
 ⟨(some 20), (.ext 0), [(.t 9)], none, []⟩,
 ⟨(some 21), (.ext 1), [(.t 9)], none, []⟩,
 ⟨(some 7), (.alloc [(.int .i64 0), (.int .i64 0)]), [], none, []⟩,
 ⟨none, (.store 2 none), [(.t 7), (.t 20)], none, []⟩,
 ⟨(some 8), .mv, [(.t 21)], none, []⟩] 0 [8])
 (.seq
 (.reg false [] [] [
 ⟨(some 22), .mv, [(.t 8)], none, []⟩,
 ⟨(some 6), .mv, [(.t 22)], none, []⟩] 0 [6])
 .ret))),
 [(.t 6)]⟩
theorem c74 : funC Try.prog [(0, [3, 4, 5]), (1, [8]), (2, [6])] Try.f74 = some (unF l74) := by kernel_rfl
/-- acme/fit.open -/
def l75 : LFun := ⟨3, 22, [],
 (.seq
 (.reg false [3, 4, 6] [3, 4, 6] [
 ⟨(some 3), .box, [(.t 0)], none, []⟩,
 ⟨(some 4), .box, [(.t 1)], none, []⟩,
 ⟨(some 6), (.alloc [(.int .i64 0), (.int .i64 0), (.int .i64 0), (.int .i64 0), (.int .i64 0), (.int .i64 0), (.bool false), (.int .i64 0), (.int .i64 0), (.int .i64 0)]), [], none, []⟩,
 ⟨(some 7), .mv, [(.c (.int .i64 0))], none, []⟩] 0 [2, 3, 4, 6])
 (.seq
 (.seq
 (.reg false [] [] [
 ⟨(some 9), (.load (some 8)), [(.t 3)], none, []⟩,
 ⟨(some 10), (.call false false false), [(.f 68), (.t 9)], none, []⟩,
 ⟨(some 8), .mv, [(.t 10)], none, []⟩] 0 [2, 3, 4, 6, 8])
 (.seq
 (.reg false [] [] [
 ⟨(some 11), .mv, [(.t 8)], none, []⟩,
 ⟨(some 12), (.bin 0 .neq), [(.t 11), (.c (.int .i64 0))], none, []⟩] 0 [2, 3, 4, 6, 8, 12])
 (.cond (.t 12)
 (.seq
 (.reg false [] [] [
 ⟨(some 13), (.load (some 10)), [(.t 6)], none, []⟩,
 ⟨(some 14), .mv, [(.t 8)], none, []⟩,
 ⟨none, (.store 10 none), [(.t 6), (.t 13)], none, []⟩,
 ⟨(some 7), .mv, [(.t 14)], none, []⟩] 0 [6, 7])
 .ret)
 .skip)))
 (.seq
 (.reg false [] [] [
 ⟨(some 15), (.load (some 8)), [(.t 3)], none, [16, 17, 19, 20, 21]⟩,
 ⟨(some 16), (.load (some 2)), [(.t 4)], none, [15, 19, 20, 21]⟩,
 ⟨(some 17), (.build [(.int .i64 0), (.int .i64 0)] [(0, 2)]), [(.t 16)], none, [15, 19, 20, 21]⟩,
 ⟨(some 18), (.build [(.int .i64 0), (.int .i64 0), (.int .i64 0), (.int .i64 0), (.int .i64 0), (.int .i64 0), (.bool false), (.int .i64 0), (.int .i64 0), (.int .i64 0)] [(0, 8), (8, 2)]), [(.t 15), (.t 17)], none, [19, 20, 21]⟩,
 ⟨(some 19), (.load (some 2)), [(.t 4)], none, [15, 16, 17, 18, 20]⟩,
 ⟨(some 20), .mv, [(.t 2)], none, [15, 16, 17, 18, 19]⟩,
 ⟨(some 21), (.call true false false), [(.f 72), (.t 19), (.t 20)], none, [15, 16, 17, 18]⟩,
 ⟨none, (.store 10 (some 6)), [(.t 6), (.t 18)], none, []⟩,
 ⟨(some 7), .mv, [(.t 21)], none, []⟩] 0 [6, 7])
 .ret))),
 [(.c 6 (some 10)), (.t 7)]⟩
theorem c75 : funC Try.prog [(0, [2, 3, 4, 6]), (1, [2, 3, 4, 6, 8]), (2, [2, 3, 4, 6, 8, 12]), (3, [6, 7]), (4, [6, 7])] Try.f75 = some (unF l75) := by kernel_rfl
/-- (acme/fit.ideal).leans -/
def l76 : LFun := ⟨1, 10, [],
 (.seq
 (.reg false [1] [1] [
 ⟨(some 1), .box, [(.t 0)], none, []⟩,
 ⟨(some 2), .mv, [(.c (.int .i64 0))], none, []⟩] 0 [1])
 (.seq
 (.reg false [] [] [
 ⟨(some 3), (.fa 0), [(.t 1)], none, []⟩,
 ⟨(some 4), (.fa 1), [(.t 3)], none, []⟩,
 ⟨(some 5), (.load none), [(.t 4)], none, []⟩,
 ⟨(some 6), (.fa 0), [(.t 1)], none, []⟩,
 ⟨(some 7), (.fa 2), [(.t 6)], none, []⟩,
 ⟨(some 8), (.load none), [(.t 7)], none, []⟩,
 ⟨(some 9), (.bin 0 .add), [(.t 5), (.t 8)], none, []⟩,
 ⟨(some 2), .mv, [(.t 9)], none, []⟩] 0 [2])
 .ret)),
 [(.t 2)]⟩
theorem c76 : funC Try.prog [(0, [1]), (1, [2])] Try.f76 = some (unF l76) := by kernel_rfl
/-- acme/fit.up -/
def l77 : LFun := ⟨2, 10, [],
 (.seq
 (.reg false [] [] [
 ⟨(some 4), .mv, [(.c (.int .i64 0))], none, []⟩] 0 [0, 1])
 (.seq
 (.reg false [] [] [
 ⟨(some 5), .mv, [(.t 0)], none, []⟩,
 ⟨(some 6), (.un .neg), [(.t 5)], none, []⟩,
 ⟨(some 7), .mv, [(.t 1)], none, []⟩,
 ⟨(some 8), (.call false false false), [(.f 79), (.t 6), (.t 7)], none, []⟩,
 ⟨(some 9), (.un .neg), [(.t 8)], none, []⟩,
 ⟨(some 4), .mv, [(.t 9)], none, []⟩] 0 [4])
 .ret)),
 [(.t 4)]⟩
theorem c77 : funC Try.prog [(0, [0, 1]), (1, [4])] Try.f77 = some (unF l77) := by kernel_rfl
/-- (acme/fit.ideal).size -/
def b78_0w : List Nat :=
 [15, 16, 9, 10, 17, 18, 19, 20, 21, 22, 23, 24, 25, 26, 27, 28, 29, 17, 18, 19, 20, 21, 22, 23, 24, 25, 26, 27, 28, 29]
def b78_0a : LCode :=
 (.seq
 (.reg true [] [] [
 ⟨(some 9), .mv, [(.t 15)], none, []⟩] 0 [3, 4, 5, 7, 8, 9, 16])
 (.reg true [] [] [
 ⟨(some 10), .mv, [(.t 16)], none, []⟩] 0 [3, 4, 5, 7, 8, 9, 10]))
def b78_0 : LCode :=
 (.block 1
 (.alt [23, 29] [7, 8]
 (.reg true [22, 23, 28, 29] [22, 23, 28, 29] [
 ⟨(some 17), (.load none), [(.t 7)], none, [18, 19, 20, 21, 22, 24, 25, 26, 27, 28]⟩,
 ⟨(some 18), (.load none), [(.t 5)], none, [17, 20, 24, 25, 26, 27, 28]⟩,
 ⟨(some 19), (.un .neg), [(.t 18)], none, [17, 20, 24, 25, 26, 27, 28]⟩,
 ⟨(some 20), .mv, [(.t 9)], none, [17, 18, 19, 24, 25, 26, 27, 28]⟩,
 ⟨(some 21), (.bin 0 .mul), [(.t 19), (.t 20)], none, [17, 24, 25, 26, 27, 28]⟩,
 ⟨(some 22), (.bsl 1 [(.int .i64 0)] 1 [0]), [(.t 21)], none, [17, 24, 25, 26, 27, 28]⟩,
 ⟨(some 23), (.append true 1 8), [(.t 17), (.t 22)], none, [24, 25, 26, 27, 28]⟩,
 ⟨(some 24), (.load none), [(.t 8)], none, [17, 18, 19, 20, 21, 22, 23, 25, 26, 27, 28]⟩,
 ⟨(some 25), (.load none), [(.t 5)], none, [17, 18, 19, 20, 21, 22, 23, 24, 26]⟩,
 ⟨(some 26), .mv, [(.t 10)], none, [17, 18, 19, 20, 21, 22, 23, 24, 25]⟩,
 ⟨(some 27), (.bin 0 .mul), [(.t 25), (.t 26)], none, [17, 18, 19, 20, 21, 22, 23, 24]⟩,
 ⟨(some 28), (.bsl 1 [(.int .i64 0)] 1 [0]), [(.t 27)], none, [17, 18, 19, 20, 21, 22, 23, 24]⟩,
 ⟨(some 29), (.append true 1 8), [(.t 24), (.t 28)], none, []⟩,
 ⟨none, (.store 1 (some 7)), [(.t 7), (.t 23)], none, []⟩,
 ⟨none, (.store 1 (some 8)), [(.t 8), (.t 29)], none, []⟩] 0 [3, 4, 5, 7, 8])
 (.reg true [22, 23, 28, 29] [22, 28] [
 ⟨(some 17), (.load none), [(.t 7)], none, [18, 19, 20, 21, 22, 24, 25, 26, 27, 28]⟩,
 ⟨(some 18), (.load none), [(.t 5)], none, [17, 20, 24, 25, 26, 27, 28]⟩,
 ⟨(some 19), (.un .neg), [(.t 18)], none, [17, 20, 24, 25, 26, 27, 28]⟩,
 ⟨(some 20), .mv, [(.t 9)], none, [17, 18, 19, 24, 25, 26, 27, 28]⟩,
 ⟨(some 21), (.bin 0 .mul), [(.t 19), (.t 20)], none, [17, 24, 25, 26, 27, 28]⟩,
 ⟨(some 22), (.bsl 1 [(.int .i64 0)] 1 [0]), [(.t 21)], none, [17, 24, 25, 26, 27, 28]⟩,
 ⟨(some 23), (.appo 1 8), [(.t 17), (.t 22)], none, [24, 25, 26, 27, 28]⟩,
 ⟨(some 24), (.load none), [(.t 8)], none, [17, 18, 19, 20, 21, 22, 23, 25, 26, 27, 28]⟩,
 ⟨(some 25), (.load none), [(.t 5)], none, [17, 18, 19, 20, 21, 22, 23, 24, 26]⟩,
 ⟨(some 26), .mv, [(.t 10)], none, [17, 18, 19, 20, 21, 22, 23, 24, 25]⟩,
 ⟨(some 27), (.bin 0 .mul), [(.t 25), (.t 26)], none, [17, 18, 19, 20, 21, 22, 23, 24]⟩,
 ⟨(some 28), (.bsl 1 [(.int .i64 0)] 1 [0]), [(.t 27)], none, [17, 18, 19, 20, 21, 22, 23, 24]⟩,
 ⟨(some 29), (.appo 1 8), [(.t 24), (.t 28)], none, []⟩,
 ⟨none, (.store 1 (some 7)), [(.t 7), (.t 23)], none, []⟩,
 ⟨none, (.store 1 (some 8)), [(.t 8), (.t 29)], none, []⟩] 0 [3, 4, 5, 7, 8])))
def l78 : LFun := ⟨3, 61, [],
 (.seq
 (.reg false [3, 4, 5] [3, 4, 5] [
 ⟨(some 3), .box, [(.t 0)], none, []⟩,
 ⟨(some 4), .box, [(.t 1)], none, []⟩,
 ⟨(some 5), .box, [(.t 2)], none, []⟩,
 ⟨(some 6), .mv, [(.c (.int .i64 0))], none, []⟩] 0 [3, 4, 5])
 (.seq
 (.reg false [7, 8] [7, 8] [
 ⟨(some 7), (.alloc [(.sl (some 2002300) 1 [])]), [], none, []⟩,
 ⟨(some 8), (.alloc [(.sl (some 2002900) 1 [])]), [], none, []⟩] 0 [3, 4, 5, 7, 8])
 (.seq
 (.seq
 (.reg false [14] [14] [
 ⟨(some 12), (.load (some 10)), [(.t 3)], none, []⟩,
 ⟨(some 13), (.load (some 3)), [(.t 4)], none, []⟩,
 ⟨(some 14), (.call false true true), [(.f 139), (.t 12), (.t 13)], none, []⟩] 0 [3, 4, 5, 7, 8, 14])
 (.block 0
 (.rng (.t 14) [15, 16] b78_0w b78_0a b78_0)))
 (.seq
 (.reg false [] [] [
 ⟨(some 30), (.fa 8), [(.t 3)], none, [32, 33, 34, 35, 36, 37, 38, 39, 41, 42, 43, 44, 45, 46, 47, 48, 49, 50]⟩,
 ⟨(some 31), (.load (some 2)), [(.t 30)], none, [32, 33, 34, 35, 36, 37, 38, 39, 41, 42, 43, 44, 45, 46, 47, 48, 49, 50]⟩,
 ⟨(some 32), (.load none), [(.t 5)], none, [30, 31, 33, 34, 35, 36, 37, 38, 41, 42, 43, 44, 45, 46, 47, 48, 49, 50]⟩,
 ⟨(some 33), (.fa 0), [(.t 3)], none, [30, 31, 32, 36, 37, 41, 42, 43, 44, 45, 46, 47, 48, 49, 50]⟩,
 ⟨(some 34), (.fa 1), [(.t 33)], none, [30, 31, 32, 36, 37, 41, 42, 43, 44, 45, 46, 47, 48, 49, 50]⟩,
 ⟨(some 35), (.load none), [(.t 34)], none, [30, 31, 32, 36, 37, 41, 42, 43, 44, 45, 46, 47, 48, 49, 50]⟩,
 ⟨(some 36), (.fa 1), [(.t 4)], none, [30, 31, 32, 33, 34, 35, 41, 42, 43, 44, 45, 46, 47, 48, 49, 50]⟩,
 ⟨(some 37), (.load none), [(.t 36)], none, [30, 31, 32, 33, 34, 35, 41, 42, 43, 44, 45, 46, 47, 48, 49, 50]⟩,
 ⟨(some 38), (.bin 0 .sub), [(.t 35), (.t 37)], none, [30, 31, 32, 41, 42, 43, 44, 45, 46, 47, 48, 49, 50]⟩,
 ⟨(some 39), (.bin 0 .mul), [(.t 32), (.t 38)], none, [30, 31, 41, 42, 43, 44, 45, 46, 47, 48, 49, 50]⟩,
 ⟨(some 40), (.call true false false), [(.f 140), (.t 31), (.t 39)], none, [41, 42, 43, 44, 45, 46, 47, 48, 49, 50]⟩,
 ⟨(some 41), (.fa 8), [(.t 3)], none, [30, 31, 32, 33, 34, 35, 36, 37, 38, 39, 40, 43, 44, 45, 46, 47, 48, 49, 50]⟩,
 ⟨(some 42), (.load (some 2)), [(.t 41)], none, [30, 31, 32, 33, 34, 35, 36, 37, 38, 39, 40, 43, 44, 45, 46, 47, 48, 49, 50]⟩,
 ⟨(some 43), (.load none), [(.t 5)], none, [30, 31, 32, 33, 34, 35, 36, 37, 38, 39, 40, 41, 42, 44, 45, 46, 47, 48, 49]⟩,
 ⟨(some 44), (.fa 0), [(.t 3)], none, [30, 31, 32, 33, 34, 35, 36, 37, 38, 39, 40, 41, 42, 43, 47, 48]⟩,
 ⟨(some 45), (.fa 2), [(.t 44)], none, [30, 31, 32, 33, 34, 35, 36, 37, 38, 39, 40, 41, 42, 43, 47, 48]⟩,
 ⟨(some 46), (.load none), [(.t 45)], none, [30, 31, 32, 33, 34, 35, 36, 37, 38, 39, 40, 41, 42, 43, 47, 48]⟩,
 ⟨(some 47), (.fa 2), [(.t 4)], none, [30, 31, 32, 33, 34, 35, 36, 37, 38, 39, 40, 41, 42, 43, 44, 45, 46]⟩,
 ⟨(some 48), (.load none), [(.t 47)], none, [30, 31, 32, 33, 34, 35, 36, 37, 38, 39, 40, 41, 42, 43, 44, 45, 46]⟩,
 ⟨(some 49), (.bin 0 .sub), [(.t 46), (.t 48)], none, [30, 31, 32, 33, 34, 35, 36, 37, 38, 39, 40, 41, 42, 43]⟩,
 ⟨(some 50), (.bin 0 .mul), [(.t 43), (.t 49)], none, [30, 31, 32, 33, 34, 35, 36, 37, 38, 39, 40, 41, 42]⟩,
 ⟨(some 51), (.call false false false), [(.f 140), (.t 42), (.t 50)], none, []⟩,
 ⟨(some 52), (.bin 0 .add), [(.t 40), (.t 51)], none, []⟩,
 ⟨(some 11), .mv, [(.t 52)], none, []⟩] 0 [7, 8, 11])
 (.seq
 (.reg false [] [] [
 ⟨(some 53), (.load none), [(.t 7)], none, [55, 58, 59]⟩,
 ⟨(some 54), (.call true false false), [(.f 141), (.t 53)], none, [55, 58, 59]⟩,
 ⟨(some 55), (.load none), [(.t 8)], none, [53, 54, 58, 59]⟩,
 ⟨(some 56), (.call true false false), [(.f 141), (.t 55)], none, [58, 59]⟩,
 ⟨(some 57), (.bin 0 .add), [(.t 54), (.t 56)], none, [58, 59]⟩,
 ⟨(some 58), .mv, [(.t 11)], none, [53, 54, 55, 56, 57]⟩,
 ⟨(some 59), (.bin 0 .mul), [(.c (.int .i64 4)), (.t 58)], none, [53, 54, 55, 56, 57]⟩,
 ⟨(some 60), (.bin 0 .add), [(.t 57), (.t 59)], none, []⟩,
 ⟨(some 6), .mv, [(.t 60)], none, []⟩] 0 [6])
 .ret))))),
 [(.t 6)]⟩
theorem c78 : funC Try.prog [(0, [3, 4, 5]), (1, [3, 4, 5, 7, 8]), (2, [3, 4, 5, 7, 8, 14]), (3, [3, 4, 5, 7, 8, 9, 16]), (4, [3, 4, 5, 7, 8, 9, 10]), (5, [3, 4, 5, 7, 8]), (6, [7, 8, 11]), (7, [6])] Try.f78 = some (unF l78) := by kernel_rfl
/-- acme/fit.down -/
def l79 : LFun := ⟨2, 16, [],
 (.seq
 (.reg false [] [] [
 ⟨(some 4), .mv, [(.c (.int .i64 0))], none, []⟩] 0 [0, 1])
 (.seq
 (.reg false [] [] [
 ⟨(some 6), .mv, [(.t 0)], none, []⟩,
 ⟨(some 7), .mv, [(.t 1)], none, []⟩,
 ⟨(some 8), (.bin 0 .quo), [(.t 6), (.t 7)], none, []⟩,
 ⟨(some 5), .mv, [(.t 8)], none, []⟩] 0 [0, 1, 5])
 (.seq
 (.seq
 (.reg false [] [] [
 ⟨(some 9), .mv, [(.t 0)], none, []⟩,
 ⟨(some 10), .mv, [(.t 1)], none, []⟩,
 ⟨(some 11), (.bin 0 .rem), [(.t 9), (.t 10)], none, []⟩,
 ⟨(some 12), (.bin 0 .lss), [(.t 11), (.c (.int .i64 0))], none, []⟩] 0 [5, 12])
 (.cond (.t 12)
 (.reg false [] [] [
 ⟨(some 13), .mv, [(.t 5)], none, []⟩,
 ⟨(some 14), (.bin 0 .sub), [(.t 13), (.c (.int .i64 1))], none, []⟩,
 ⟨(some 5), .mv, [(.t 14)], none, []⟩] 0 [5])
 .skip))
 (.seq
 (.reg false [] [] [
 ⟨(some 15), .mv, [(.t 5)], none, []⟩,
 ⟨(some 4), .mv, [(.t 15)], none, []⟩] 0 [4])
 .ret)))),
 [(.t 4)]⟩
theorem c79 : funC Try.prog [(0, [0, 1]), (1, [0, 1, 5]), (2, [5, 12]), (3, [5]), (4, [4])] Try.f79 = some (unF l79) := by kernel_rfl
/-- acme/acmetop.pubMetric -/
def l80 : LFun := ⟨1, 5, [],
 (.seq
 (.reg false [2] [2] [
 ⟨(some 2), (.alloc [(.int .i64 0), (.int .i64 0), (.int .i64 0), (.int .i64 0), (.int .i64 0), (.int .i64 0), (.bool false), (.int .i64 0)]), [], none, []⟩] 0 [0, 2])
 (.seq
 (.reg false [] [] [
 ⟨(some 3), .mv, [(.t 0)], none, []⟩,
 ⟨(some 4), (.build [(.int .i64 0), (.int .i64 0), (.int .i64 0), (.int .i64 0), (.int .i64 0), (.int .i64 0), (.bool false), (.int .i64 0)] [(0, 1), (1, 1), (2, 1), (3, 1), (4, 1), (5, 1)]), [(.t 3), (.c (.int .i64 577)), (.c (.int .i64 577)), (.c (.int .i64 3000)), (.c (.int .i64 3000)), (.c (.int .i64 1))], none, []⟩,
 ⟨none, (.store 8 none), [(.t 2), (.t 4)], none, []⟩] 0 [2])
 .ret)),
 [(.c 2 (some 8))]⟩
theorem c80 : funC Try.prog [(0, [0, 2]), (1, [2])] Try.f80 = some (unF l80) := by kernel_rfl
/-- acme/swap.Range -/
def l81 : LFun := ⟨3, 31, [],
 (.seq
 (.reg false [3, 4, 5] [3, 4, 5] [
 ⟨(some 3), .box, [(.t 0)], none, []⟩,
 ⟨(some 4), .box, [(.t 1)], none, []⟩,
 ⟨(some 5), .box, [(.t 2)], none, []⟩,
 ⟨(some 6), .mv, [(.c (.int .i64 0))], none, []⟩,
 ⟨(some 7), .mv, [(.c (.int .i64 0))], none, []⟩,
 ⟨(some 8), .mv, [(.c (.int .i64 0))], none, []⟩] 0 [3, 4, 5])
 (.seq
 (.block 0
 (.seq
 (.reg false [12] [12] [
 ⟨(some 10), (.load (some 15)), [(.t 3)], none, []⟩,
 ⟨(some 11), (.load (some 15)), [(.t 4)], none, []⟩,
 ⟨(some 12), (.bsl 15 [(.int .i64 0), (.int .i64 0), (.int .i64 0), (.int .i64 0), (.int .i64 0), (.int .i64 0), (.int .i64 0), (.int .i64 0), (.int .i64 0), (.bool false), (.int .i64 0), (.int .i64 0), (.int .i64 0), (.int .i64 0), (.int .i64 0)] 2 [0, 1]), [(.t 10), (.t 11)], none, []⟩,
 ⟨(some 13), (.call false false false), [(.f 142), (.t 12)], none, []⟩,
 ⟨(some 9), .mv, [(.t 13)], none, []⟩] 0 [3, 4, 5, 9])
 (.cond (.t 9)
 (.seq
 (.reg false [] [] [
 ⟨(some 6), .mv, [(.c (.int .i64 0))], none, []⟩,
 ⟨(some 7), .mv, [(.c (.int .i64 0))], none, []⟩,
 ⟨(some 8), .mv, [(.c (.int .i64 2))], none, []⟩] 0 [6, 7, 8])
 .ret)
 (.seq
 (.reg false [] [] [
 ⟨(some 15), (.load (some 2)), [(.t 5)], none, []⟩,
 ⟨(some 16), (.build [(.int .i64 0), (.int .i64 0)] [(0, 2)]), [(.t 15)], none, []⟩,
 ⟨(some 17), (.call false false false), [(.f 70), (.t 16)], none, []⟩,
 ⟨(some 18), (.un .not), [(.t 17)], none, []⟩,
 ⟨(some 14), .mv, [(.t 18)], none, []⟩] 0 [3, 4, 5, 14])
 (.cond (.t 14)
 (.seq
 (.reg false [] [] [
 ⟨(some 6), .mv, [(.c (.int .i64 0))], none, []⟩,
 ⟨(some 7), .mv, [(.c (.int .i64 0))], none, []⟩,
 ⟨(some 8), .mv, [(.c (.int .i64 3))], none, []⟩] 0 [6, 7, 8])
 .ret)
 .skip)))))
 (.seq
 (.reg false [] [] [
 ⟨(some 19), (.load (some 15)), [(.t 3)], none, [21, 22, 23, 25, 26, 27, 28, 29]⟩,
 ⟨(some 20), (.build [(.int .i64 0), (.int .i64 0), (.int .i64 0), (.int .i64 0), (.int .i64 0), (.int .i64 0), (.int .i64 0), (.int .i64 0), (.int .i64 0), (.bool false), (.int .i64 0), (.int .i64 0), (.int .i64 0), (.int .i64 0), (.int .i64 0)] [(0, 15)]), [(.t 19)], none, [21, 22, 23, 25, 26, 27, 28, 29]⟩,
 ⟨(some 21), (.load (some 15)), [(.t 4)], none, [19, 20, 23, 25, 26, 27, 28, 29]⟩,
 ⟨(some 22), (.build [(.int .i64 0), (.int .i64 0), (.int .i64 0), (.int .i64 0), (.int .i64 0), (.int .i64 0), (.int .i64 0), (.int .i64 0), (.int .i64 0), (.bool false), (.int .i64 0), (.int .i64 0), (.int .i64 0), (.int .i64 0), (.int .i64 0)] [(0, 15)]), [(.t 21)], none, [19, 20, 23, 25, 26, 27, 28, 29]⟩,
 ⟨(some 23), (.load (some 2)), [(.t 5)], none, [19, 20, 21, 22, 25, 26, 27, 28, 29]⟩,
 ⟨(some 24), (.call true false false), [(.f 143), (.t 20), (.t 22), (.t 23)], none, [25, 26, 27, 28, 29]⟩,
 ⟨(some 25), (.load (some 15)), [(.t 3)], none, [19, 20, 21, 22, 23, 24, 27, 28, 29]⟩,
 ⟨(some 26), (.build [(.int .i64 0), (.int .i64 0), (.int .i64 0), (.int .i64 0), (.int .i64 0), (.int .i64 0), (.int .i64 0), (.int .i64 0), (.int .i64 0), (.bool false), (.int .i64 0), (.int .i64 0), (.int .i64 0), (.int .i64 0), (.int .i64 0)] [(0, 15)]), [(.t 25)], none, [19, 20, 21, 22, 23, 24, 27, 28, 29]⟩,
 ⟨(some 27), (.load (some 15)), [(.t 4)], none, [19, 20, 21, 22, 23, 24, 25, 26, 29]⟩,
 ⟨(some 28), (.build [(.int .i64 0), (.int .i64 0), (.int .i64 0), (.int .i64 0), (.int .i64 0), (.int .i64 0), (.int .i64 0), (.int .i64 0), (.int .i64 0), (.bool false), (.int .i64 0), (.int .i64 0), (.int .i64 0), (.int .i64 0), (.int .i64 0)] [(0, 15)]), [(.t 27)], none, [19, 20, 21, 22, 23, 24, 25, 26, 29]⟩,
 ⟨(some 29), (.load (some 2)), [(.t 5)], none, [19, 20, 21, 22, 23, 24, 25, 26, 27, 28]⟩,
 ⟨(some 30), (.call false false false), [(.f 144), (.t 26), (.t 28), (.t 29)], none, []⟩,
 ⟨(some 6), .mv, [(.t 24)], none, []⟩,
 ⟨(some 7), .mv, [(.t 30)], none, []⟩,
 ⟨(some 8), .mv, [(.c (.int .i64 0))], none, []⟩] 0 [6, 7, 8])
 .ret))),
 [(.t 6), (.t 7), (.t 8)]⟩
theorem c81 : funC Try.prog [(0, [3, 4, 5]), (1, [3, 4, 5, 9]), (2, [6, 7, 8]), (3, [3, 4, 5, 14]), (4, [6, 7, 8]), (5, [6, 7, 8])] Try.f81 = some (unF l81) := by kernel_rfl
/-- acme/zone.newCoat -/
def l82 : LFun := ⟨3, 57, [],
 (.seq
 (.reg false [3, 5, 6] [3, 5, 6] [
 ⟨(some 3), .box, [(.t 0)], none, []⟩,
 ⟨(some 5), .box, [(.t 2)], none, []⟩,
 ⟨(some 6), (.alloc [(.int .i64 0), (.int .i64 0), (.int .i64 0), (.int .i64 0), (.int .i64 0), (.int .i64 0)]), [], none, []⟩,
 ⟨(some 7), .mv, [(.c (.int .i64 0))], none, []⟩] 0 [1, 3, 5, 6])
 (.seq
 (.seq
 (.reg false [26] [26] [
 ⟨(some 8), (.load (some 2)), [(.t 3)], none, []⟩,
 ⟨(some 9), (.build [(.int .i64 0), (.int .i64 0)] [(0, 2)]), [(.t 8)], none, []⟩,
 ⟨(some 10), (.call false false false), [(.f 145), (.t 9), (.c (.int .i64 (-20000000))), (.c (.int .i64 20000000))], none, []⟩,
 ⟨(some 11), (.un .not), [(.t 10)], none, []⟩,
 ⟨(some 12), .mv, [(.t 11)], none, []⟩,
 ⟨(some 13), (.fa 0), [(.t 5)], (some (12, false)), []⟩,
 ⟨(some 14), (.load (some 2)), [(.t 13)], (some (12, false)), []⟩,
 ⟨(some 15), (.build [(.int .i64 0), (.int .i64 0)] [(0, 2)]), [(.t 14)], (some (12, false)), []⟩,
 ⟨(some 16), (.call false false false), [(.f 145), (.t 15), (.c (.int .i64 0)), (.c (.int .i64 10000))], (some (12, false)), []⟩,
 ⟨(some 17), (.un .not), [(.t 16)], (some (12, false)), []⟩,
 ⟨(some 18), .pick, [(.t 12), (.c (.bool true)), (.t 17)], none, []⟩,
 ⟨(some 19), .mv, [(.t 18)], none, []⟩,
 ⟨(some 20), (.fa 2), [(.t 5)], (some (19, false)), []⟩,
 ⟨(some 21), (.fa 0), [(.t 20)], (some (19, false)), []⟩,
 ⟨(some 22), (.load none), [(.t 21)], (some (19, false)), []⟩,
 ⟨(some 23), (.fa 2), [(.t 5)], (some (19, false)), []⟩,
 ⟨(some 24), (.fa 1), [(.t 23)], (some (19, false)), []⟩,
 ⟨(some 25), (.load none), [(.t 24)], (some (19, false)), []⟩,
 ⟨(some 26), (.bsl 1 [(.int .i64 0)] 2 [0, 1]), [(.t 22), (.t 25)], (some (19, false)), []⟩,
 ⟨(some 27), (.call false false false), [(.f 146), (.c (.int .i64 1)), (.c (.int .i64 1000)), (.t 26)], (some (19, false)), []⟩,
 ⟨(some 28), (.un .not), [(.t 27)], (some (19, false)), []⟩,
 ⟨(some 29), .pick, [(.t 19), (.c (.bool true)), (.t 28)], none, []⟩] 0 [1, 5, 6, 29])
 (.cond (.t 29)
 (.seq
 (.reg false [] [] [
 ⟨(some 30), (.load (some 6)), [(.t 6)], none, []⟩,
 ⟨none, (.store 6 none), [(.t 6), (.t 30)], none, []⟩,
 ⟨(some 7), .mv, [(.c (.int .i64 2))], none, []⟩] 0 [6, 7])
 .ret)
 .skip))
 (.seq
 (.reg false [] [] [
 ⟨(some 31), (.load (some 4)), [(.t 5)], none, []⟩,
 ⟨(some 32), (.fa 0), [(.t 5)], none, []⟩,
 ⟨(some 33), (.fa 0), [(.t 32)], none, []⟩,
 ⟨(some 34), (.load none), [(.t 33)], none, []⟩,
 ⟨(some 35), (.fa 2), [(.t 5)], none, []⟩,
 ⟨(some 36), (.fa 0), [(.t 35)], none, []⟩,
 ⟨(some 37), (.load none), [(.t 36)], none, []⟩,
 ⟨(some 38), (.bin 0 .mul), [(.t 34), (.t 37)], none, []⟩,
 ⟨(some 39), (.fa 0), [(.t 5)], none, []⟩,
 ⟨(some 40), (.fa 1), [(.t 39)], none, []⟩,
 ⟨(some 41), (.load none), [(.t 40)], none, []⟩,
 ⟨(some 42), (.fa 2), [(.t 5)], none, []⟩,
 ⟨(some 43), (.fa 0), [(.t 42)], none, []⟩,
 ⟨(some 44), (.load none), [(.t 43)], none, []⟩,
 ⟨(some 45), (.bin 0 .mul), [(.t 41), (.t 44)], none, []⟩,
 ⟨(some 46), (.build [(.int .i64 0), (.int .i64 0), (.int .i64 0), (.int .i64 0), (.int .i64 0), (.int .i64 0)] [(0, 4), (4, 1), (5, 1)]), [(.t 31), (.t 38), (.t 45)], none, []⟩,
 ⟨none, (.store 6 none), [(.t 6), (.t 46)], none, []⟩] 0 [1, 6])
 (.seq
 (.seq
 (.reg false [] [] [
 ⟨(some 47), .mv, [(.t 1)], none, []⟩] 0 [6, 47])
 (.cond (.t 47)
 (.reg false [] [] [
 ⟨(some 48), (.fa 5), [(.t 6)], none, []⟩,
 ⟨(some 49), (.load none), [(.t 48)], none, []⟩,
 ⟨(some 50), (.un .neg), [(.t 49)], none, []⟩,
 ⟨(some 51), (.fa 4), [(.t 6)], none, []⟩,
 ⟨(some 52), (.load none), [(.t 51)], none, []⟩,
 ⟨(some 53), (.un .neg), [(.t 52)], none, []⟩,
 ⟨(some 54), (.fa 4), [(.t 6)], none, []⟩,
 ⟨none, (.store 1 none), [(.t 54), (.t 50)], none, []⟩,
 ⟨(some 55), (.fa 5), [(.t 6)], none, []⟩,
 ⟨none, (.store 1 none), [(.t 55), (.t 53)], none, []⟩] 0 [6])
 .skip))
 (.seq
 (.reg false [] [] [
 ⟨(some 56), (.load (some 6)), [(.t 6)], none, []⟩,
 ⟨none, (.store 6 none), [(.t 6), (.t 56)], none, []⟩,
 ⟨(some 7), .mv, [(.c (.int .i64 0))], none, []⟩] 0 [6, 7])
 .ret))))),
 [(.c 6 (some 6)), (.t 7)]⟩
theorem c82 : funC Try.prog [(0, [1, 3, 5, 6]), (1, [1, 5, 6, 29]), (2, [6, 7]), (3, [1, 6]), (4, [6, 47]), (5, [6]), (6, [6, 7])] Try.f82 = some (unF l82) := by kernel_rfl
/-- (acme/zone.coat).up -/
def l83 : LFun := ⟨2, 10, [],
 (.seq
 (.reg false [2] [2] [
 ⟨(some 2), .box, [(.t 0)], none, []⟩,
 ⟨(some 4), .mv, [(.c (.int .i64 0))], none, []⟩] 0 [1, 2])
 (.seq
 (.reg false [] [] [
 ⟨(some 5), (.load (some 6)), [(.t 2)], none, []⟩,
 ⟨(some 6), .mv, [(.t 1)], none, []⟩,
 ⟨(some 7), (.un .neg), [(.t 6)], none, []⟩,
 ⟨(some 8), (.call false false false), [(.f 84), (.t 5), (.t 7)], none, []⟩,
 ⟨(some 9), (.un .neg), [(.t 8)], none, []⟩,
 ⟨(some 4), .mv, [(.t 9)], none, []⟩] 0 [4])
 .ret)),
 [(.t 4)]⟩
theorem c83 : funC Try.prog [(0, [1, 2]), (1, [4])] Try.f83 = some (unF l83) := by kernel_rfl
/-- (acme/zone.coat).down -/
def l84 : LFun := ⟨2, 21, [],
 (.seq
 (.reg false [2] [2] [
 ⟨(some 2), .box, [(.t 0)], none, []⟩,
 ⟨(some 4), .mv, [(.c (.int .i64 0))], none, []⟩] 0 [1, 2])
 (.seq
 (.reg false [] [] [
 ⟨(some 6), (.fa 0), [(.t 2)], none, []⟩,
 ⟨(some 7), (.fa 2), [(.t 6)], none, []⟩,
 ⟨(some 8), (.fa 1), [(.t 7)], none, []⟩,
 ⟨(some 9), (.load none), [(.t 8)], none, []⟩,
 ⟨(some 5), .mv, [(.t 9)], none, []⟩] 0 [1, 5])
 (.seq
 (.reg false [] [] [
 ⟨(some 10), .mv, [(.t 1)], none, []⟩,
 ⟨(some 11), .mv, [(.t 1)], none, []⟩,
 ⟨(some 12), .mv, [(.t 5)], none, []⟩,
 ⟨(some 13), (.bin 0 .rem), [(.t 11), (.t 12)], none, []⟩,
 ⟨(some 14), .mv, [(.t 5)], none, []⟩,
 ⟨(some 15), (.bin 0 .add), [(.t 13), (.t 14)], none, []⟩,
 ⟨(some 16), .mv, [(.t 5)], none, []⟩,
 ⟨(some 17), (.bin 0 .rem), [(.t 15), (.t 16)], none, []⟩,
 ⟨(some 18), (.bin 0 .sub), [(.t 10), (.t 17)], none, []⟩,
 ⟨(some 19), .mv, [(.t 5)], none, []⟩,
 ⟨(some 20), (.bin 0 .quo), [(.t 18), (.t 19)], none, []⟩,
 ⟨(some 4), .mv, [(.t 20)], none, []⟩] 0 [4])
 .ret))),
 [(.t 4)]⟩
theorem c84 : funC Try.prog [(0, [1, 2]), (1, [1, 5]), (2, [4])] Try.f84 = some (unF l84) := by kernel_rfl
/-- acme/zone.Groups -/
def b85_0 : LCode :=
 (.seq
 (.reg true [] [] [
 ⟨(some 17), (.bin 0 .lss), [(.t 16), (.c (.int .i64 2))], none, []⟩] 0 [3, 4, 5, 15, 16, 17])
 (.seq
 (.cond (.t 17)
 .skip
 (.exit 0))
 (.seq
 (.block 1
 (.seq
 (.reg true [9] [9] [
 ⟨(some 18), (.idx 2 2 (some 2)), [(.t 15), (.t 16)], none, []⟩,
 ⟨(some 9), (.alloc [(.int .i64 0), (.int .i64 0)]), [], none, []⟩,
 ⟨none, (.store 2 none), [(.t 9), (.t 18)], none, []⟩] 0 [3, 4, 5, 9, 15, 16])
 (.seq
 (.reg true [] [] [
 ⟨(some 19), (.load (some 2)), [(.t 9)], none, []⟩,
 ⟨(some 20), (.call false false false), [(.f 145), (.t 19), (.c (.int .i64 0)), (.c (.int .i64 20000000))], none, []⟩,
 ⟨(some 21), (.un .not), [(.t 20)], none, []⟩] 0 [3, 4, 5, 15, 16, 21])
 (.cond (.t 21)
 (.seq
 (.reg true [] [] [
 ⟨(some 6), .mv, [(.c (.int .i64 0))], none, []⟩,
 ⟨(some 7), .mv, [(.c (.int .i64 2))], none, []⟩] 0 [6, 7])
 .ret)
 .skip))))
 (.reg true [] [] [
 ⟨(some 22), (.bin 0 .add), [(.t 16), (.c (.int .i64 1))], none, []⟩,
 ⟨(some 16), .mv, [(.t 22)], none, []⟩] 0 [3, 4, 5, 15, 16]))))
def b85_1 : LCode :=
 (.seq
 (.reg true [] [] [
 ⟨(some 28), (.bin 0 .lss), [(.t 27), (.c (.int .i64 50))], none, []⟩] 0 [3, 4, 5, 27, 28])
 (.seq
 (.cond (.t 28)
 .skip
 (.exit 2))
 (.seq
 (.block 3
 (.seq
 (.reg true [] [] [
 ⟨(some 29), .mv, [(.t 27)], none, []⟩,
 ⟨(some 10), .mv, [(.t 29)], none, []⟩] 0 [3, 4, 5, 10, 27])
 (.seq
 (.reg true [] [] [
 ⟨(some 30), (.load (some 2)), [(.t 3)], none, []⟩,
 ⟨(some 31), (.build [(.int .i64 0), (.int .i64 0)] [(0, 2)]), [(.t 30)], none, []⟩,
 ⟨(some 32), (.load (some 2)), [(.t 4)], none, []⟩,
 ⟨(some 33), (.build [(.int .i64 0), (.int .i64 0)] [(0, 2)]), [(.t 32)], none, []⟩,
 ⟨(some 34), .mv, [(.t 10)], none, []⟩,
 ⟨(some 35), (.bin 0 .add), [(.t 34), (.c (.int .i64 1))], none, []⟩,
 ⟨(some 36), (.load (some 2)), [(.t 5)], none, []⟩,
 ⟨(some 37), (.call false false false), [(.f 147), (.t 31), (.t 33), (.t 35), (.t 36)], none, []⟩] 0 [3, 4, 5, 10, 27, 37])
 (.cond (.t 37)
 (.seq
 (.reg true [] [] [
 ⟨(some 38), .mv, [(.t 10)], none, []⟩,
 ⟨(some 39), (.bin 0 .add), [(.t 38), (.c (.int .i64 1))], none, []⟩,
 ⟨(some 6), .mv, [(.t 39)], none, []⟩,
 ⟨(some 7), .mv, [(.c (.int .i64 0))], none, []⟩] 0 [6, 7])
 .ret)
 .skip))))
 (.reg true [] [] [
 ⟨(some 40), (.bin 0 .add), [(.t 27), (.c (.int .i64 1))], none, []⟩,
 ⟨(some 27), .mv, [(.t 40)], none, []⟩] 0 [3, 4, 5, 27]))))
def l85 : LFun := ⟨3, 41, [],
 (.seq
 (.reg false [3, 4, 5] [3, 4, 5] [
 ⟨(some 3), .box, [(.t 0)], none, []⟩,
 ⟨(some 4), .box, [(.t 1)], none, []⟩,
 ⟨(some 5), .box, [(.t 2)], none, []⟩,
 ⟨(some 6), .mv, [(.c (.int .i64 0))], none, []⟩,
 ⟨(some 7), .mv, [(.c (.int .i64 0))], none, []⟩] 0 [3, 4, 5])
 (.seq
 (.seq
 (.reg false [] [] [
 ⟨(some 11), (.load (some 2)), [(.t 3)], none, []⟩,
 ⟨(some 12), (.build [(.int .i64 0), (.int .i64 0)] [(0, 2)]), [(.t 11)], none, []⟩,
 ⟨(some 13), (.load (some 2)), [(.t 4)], none, []⟩,
 ⟨(some 14), (.build [(.int .i64 0), (.int .i64 0)] [(0, 2)]), [(.t 13)], none, []⟩,
 ⟨(some 15), (.build [(.int .i64 0), (.int .i64 0), (.int .i64 0), (.int .i64 0)] [(0, 2), (2, 2)]), [(.t 12), (.t 14)], none, []⟩,
 ⟨(some 16), .mv, [(.c (.int .i64 0))], none, []⟩] 0 [3, 4, 5, 15, 16])
 (.block 0
 (.loop b85_0)))
 (.seq
 (.seq
 (.reg false [] [] [
 ⟨(some 23), (.load (some 2)), [(.t 5)], none, []⟩,
 ⟨(some 24), (.build [(.int .i64 0), (.int .i64 0)] [(0, 2)]), [(.t 23)], none, []⟩,
 ⟨(some 25), (.call false false false), [(.f 145), (.t 24), (.c (.int .i64 (-40000000))), (.c (.int .i64 40000000))], none, []⟩,
 ⟨(some 26), (.un .not), [(.t 25)], none, []⟩] 0 [3, 4, 5, 26])
 (.cond (.t 26)
 (.seq
 (.reg false [] [] [
 ⟨(some 6), .mv, [(.c (.int .i64 0))], none, []⟩,
 ⟨(some 7), .mv, [(.c (.int .i64 2))], none, []⟩] 0 [6, 7])
 .ret)
 .skip))
 (.seq
 (.seq
 (.reg false [] [] [
 ⟨(some 27), .mv, [(.c (.int .i64 0))], none, []⟩] 0 [3, 4, 5, 27])
 (.block 2
 (.loop b85_1)))
 (.seq
 (.reg false [] [] [
 ⟨(some 6), .mv, [(.c (.int .i64 0))], none, []⟩,
 ⟨(some 7), .mv, [(.c (.int .i64 7))], none, []⟩] 0 [6, 7])
 .ret))))),
 [(.t 6), (.t 7)]⟩
theorem c85 : funC Try.prog [(0, [3, 4, 5]), (1, [3, 4, 5, 15, 16]), (2, [3, 4, 5, 15, 16, 17]), (3, [3, 4, 5, 9, 15, 16]), (4, [3, 4, 5, 15, 16, 21]), (5, [6, 7]), (6, [3, 4, 5, 15, 16]), (7, [3, 4, 5, 26]), (8, [6, 7]), (9, [3, 4, 5, 27]), (10, [3, 4, 5, 27, 28]), (11, [3, 4, 5, 10, 27]), (12, [3, 4, 5, 10, 27, 37]), (13, [6, 7]), (14, [3, 4, 5, 27]), (15, [6, 7])] Try.f85 = some (unF l85) := by kernel_rfl
/-- acme/thread.within -/
def l94 : LFun := ⟨3, 11, [],
 (.seq
 (.reg false [3, 4] [3, 4] [
 ⟨(some 3), .box, [(.t 0)], none, []⟩,
 ⟨(some 4), .box, [(.t 1)], none, []⟩,
 ⟨(some 6), .mv, [(.c (.bool false))], none, []⟩] 0 [2, 3, 4])
 (.seq
 (.reg false [] [] [
 ⟨(some 7), .mv, [(.t 2)], none, []⟩,
 ⟨(some 8), (.mkf 158), [(.t 3), (.t 4)], none, []⟩,
 ⟨(some 9), (.call false false false), [(.f 132), (.t 7), (.t 8)], none, []⟩,
 ⟨(some 10), (.un .not), [(.t 9)], none, []⟩,
 ⟨(some 6), .mv, [(.t 10)], none, []⟩] 0 [3, 4, 6])
 .ret)),
 [(.t 6)]⟩
theorem c94 : funC Try.prog [(0, [2, 3, 4]), (1, [3, 4, 6])] Try.f94 = some (unF l94) := by kernel_rfl
/-- acme/zone.open -/
def b106_0 : LCode :=
 (.seq
 (.reg true [] [] [
 ⟨(some 23), (.bin 0 .lss), [(.t 22), (.t 21)], none, []⟩] 0 [1, 6, 7, 20, 21, 22, 23])
 (.seq
 (.cond (.t 23)
 .skip
 (.exit 0))
 (.seq
 (.block 1
 (.seq
 (.reg true [11] [11] [
 ⟨(some 24), (.ixs 2), [(.t 20), (.t 22)], none, []⟩,
 ⟨(some 25), (.load (some 2)), [(.t 24)], none, []⟩,
 ⟨(some 11), (.alloc [(.int .i64 0), (.int .i64 0)]), [], none, []⟩,
 ⟨none, (.store 2 none), [(.t 11), (.t 25)], none, []⟩] 0 [1, 6, 11, 20, 21, 22])
 (.seq
 (.seq
 (.reg true [] [] [
 ⟨(some 26), (.load (some 3)), [(.t 6)], none, []⟩,
 ⟨(some 27), (.load (some 2)), [(.t 11)], none, []⟩,
 ⟨(some 28), (.call false false false), [(.f 173), (.t 26), (.t 27)], none, []⟩,
 ⟨(some 29), (.un .not), [(.t 28)], none, []⟩] 0 [1, 6, 20, 21, 22, 29])
 (.cond (.t 29)
 (.seq
 (.reg true [] [] [
 ⟨(some 30), (.load (some 3)), [(.t 6)], none, []⟩,
 ⟨none, (.store 3 none), [(.t 6), (.t 30)], none, []⟩,
 ⟨(some 7), .mv, [(.c (.int .i64 0))], none, []⟩,
 ⟨(some 8), .mv, [(.c (.int .i64 7))], none, []⟩] 0 [6, 7, 8])
 .ret)
 .skip))
 (.seq
 (.reg true [] [] [
 ⟨(some 32), (.load (some 3)), [(.t 6)], none, []⟩,
 ⟨(some 33), .mv, [(.t 1)], none, []⟩,
 ⟨(some 34), (.call false false false), [(.f 174), (.t 32), (.t 33)], none, []⟩,
 ⟨(some 31), .mv, [(.t 34)], none, []⟩,
 ⟨(some 35), (.ext 0), [(.t 31)], none, []⟩,
 ⟨(some 36), (.ext 1), [(.t 31)], none, []⟩,
 ⟨(some 7), .mv, [(.t 35)], none, []⟩,
 ⟨(some 8), .mv, [(.t 36)], none, []⟩] 0 [1, 6, 7, 8, 20, 21, 22])
 (.seq
 (.reg true [] [] [
 ⟨(some 37), .mv, [(.t 8)], none, []⟩,
 ⟨(some 38), (.bin 0 .neq), [(.t 37), (.c (.int .i64 0))], none, []⟩] 0 [1, 6, 7, 8, 20, 21, 22, 38])
 (.cond (.t 38)
 (.seq
 (.reg true [] [] [
 ⟨(some 39), (.load (some 3)), [(.t 6)], none, []⟩,
 ⟨(some 40), .mv, [(.t 8)], none, []⟩,
 ⟨none, (.store 3 none), [(.t 6), (.t 39)], none, []⟩,
 ⟨(some 7), .mv, [(.c (.int .i64 0))], none, []⟩,
 ⟨(some 8), .mv, [(.t 40)], none, []⟩] 0 [6, 7, 8])
 .ret)
 .skip))))))
 (.reg true [] [] [
 ⟨(some 41), (.bin 0 .add), [(.t 22), (.c (.int .i64 1))], none, []⟩,
 ⟨(some 22), .mv, [(.t 41)], none, []⟩] 0 [1, 6, 7, 20, 21, 22]))))
def l106 : LFun := ⟨3, 44, [],
 (.seq
 (.reg false [3, 6] [3, 6] [
 ⟨(some 3), .box, [(.t 0)], none, []⟩,
 ⟨(some 6), (.alloc [(.sl none 1 []), (.sl none 1 []), (.sl none 1 [])]), [], none, []⟩,
 ⟨(some 7), .mv, [(.c (.int .i64 0))], none, []⟩,
 ⟨(some 8), .mv, [(.c (.int .i64 0))], none, []⟩] 0 [1, 2, 3, 6, 7])
 (.seq
 (.reg false [] [] [
 ⟨(some 12), (.load (some 3)), [(.t 3)], none, []⟩,
 ⟨(some 13), (.build [(.sl none 1 []), (.sl none 1 []), (.sl none 1 [])] [(0, 3)]), [(.t 12)], none, []⟩,
 ⟨none, (.store 3 none), [(.t 6), (.t 13)], none, []⟩] 0 [1, 2, 3, 6, 7])
 (.seq
 (.seq
 (.reg false [] [] [
 ⟨(some 14), (.load (some 3)), [(.t 3)], none, []⟩,
 ⟨(some 15), (.call false false false), [(.f 172), (.t 14)], none, []⟩,
 ⟨(some 9), .mv, [(.t 15)], none, []⟩] 0 [1, 2, 6, 7, 9])
 (.seq
 (.reg false [] [] [
 ⟨(some 16), .mv, [(.t 9)], none, []⟩,
 ⟨(some 17), (.bin 0 .neq), [(.t 16), (.c (.int .i64 0))], none, []⟩] 0 [1, 2, 6, 7, 9, 17])
 (.cond (.t 17)
 (.seq
 (.reg false [] [] [
 ⟨(some 18), (.load (some 3)), [(.t 6)], none, []⟩,
 ⟨(some 19), .mv, [(.t 9)], none, []⟩,
 ⟨none, (.store 3 none), [(.t 6), (.t 18)], none, []⟩,
 ⟨(some 7), .mv, [(.c (.int .i64 0))], none, []⟩,
 ⟨(some 8), .mv, [(.t 19)], none, []⟩] 0 [6, 7, 8])
 .ret)
 .skip)))
 (.seq
 (.seq
 (.reg false [] [] [
 ⟨(some 20), .mv, [(.t 2)], none, []⟩,
 ⟨(some 21), .len, [(.t 20)], none, []⟩,
 ⟨(some 22), .mv, [(.c (.int .i64 0))], none, []⟩] 0 [1, 6, 7, 20, 21, 22])
 (.block 0
 (.loop b106_0)))
 (.seq
 (.reg false [] [] [
 ⟨(some 42), (.load (some 3)), [(.t 6)], none, []⟩,
 ⟨(some 43), .mv, [(.t 7)], none, []⟩,
 ⟨none, (.store 3 none), [(.t 6), (.t 42)], none, []⟩,
 ⟨(some 7), .mv, [(.t 43)], none, []⟩,
 ⟨(some 8), .mv, [(.c (.int .i64 0))], none, []⟩] 0 [6, 7, 8])
 .ret))))),
 [(.c 6 (some 3)), (.t 7), (.t 8)]⟩
theorem c106 : funC Try.prog [(0, [1, 2, 3, 6, 7]), (1, [1, 2, 3, 6, 7]), (2, [1, 2, 6, 7, 9]), (3, [1, 2, 6, 7, 9, 17]), (4, [6, 7, 8]), (5, [1, 6, 7, 20, 21, 22]), (6, [1, 6, 7, 20, 21, 22, 23]), (7, [1, 6, 11, 20, 21, 22]), (8, [1, 6, 20, 21, 22, 29]), (9, [6, 7, 8]), (10, [1, 6, 7, 8, 20, 21, 22]), (11, [1, 6, 7, 8, 20, 21, 22, 38]), (12, [6, 7, 8]), (13, [1, 6, 7, 20, 21, 22]), (14, [6, 7, 8])] Try.f106 = some (unF l106) := by kernel_rfl
/-- (acme/zone.table).zone -/
def l107 : LFun := ⟨5, 54, [],
 (.seq
 (.reg false [5, 6, 10] [5, 6, 10] [
 ⟨(some 5), .box, [(.t 0)], none, []⟩,
 ⟨(some 6), .box, [(.t 1)], none, []⟩,
 ⟨(some 10), (.alloc [(.int .i64 0), (.int .i64 0)]), [], none, []⟩] 0 [2, 3, 4, 5, 6, 10])
 (.seq
 (.reg false [] [] [
 ⟨(some 13), (.fa 0), [(.t 5)], none, [16, 17, 20, 23, 24, 25, 26, 27, 28, 29, 30, 31, 32]⟩,
 ⟨(some 14), (.fa 2), [(.t 13)], none, [16, 17, 20, 23, 24, 25, 26, 27, 28, 29, 30, 31, 32]⟩,
 ⟨(some 15), (.load none), [(.t 14)], none, [16, 17, 20, 23, 24, 25, 26, 27, 28, 29, 30, 31, 32]⟩,
 ⟨(some 16), (.fa 0), [(.t 6)], none, [13, 14, 15, 20, 23, 24, 25, 26, 27, 28, 29, 30, 31, 32]⟩,
 ⟨(some 17), (.load none), [(.t 16)], none, [13, 14, 15, 20, 23, 24, 25, 26, 27, 28, 29, 30, 31, 32]⟩,
 ⟨(some 18), (.ixs 1), [(.t 15), (.t 17)], none, [20, 23, 24, 25, 26, 27, 28, 29, 30, 31, 32]⟩,
 ⟨(some 19), (.load none), [(.t 18)], none, [20, 23, 24, 25, 26, 27, 28, 29, 30, 31, 32]⟩,
 ⟨(some 20), .mv, [(.t 4)], none, [13, 14, 15, 16, 17, 18, 19, 23, 24, 25, 26, 27, 28, 29, 30, 31, 32]⟩,
 ⟨(some 21), (.ixs 1), [(.t 19), (.t 20)], none, [23, 24, 25, 26, 27, 28, 29, 30, 31, 32]⟩,
 ⟨(some 22), (.load none), [(.t 21)], none, [23, 24, 25, 26, 27, 28, 29, 30, 31, 32]⟩,
 ⟨(some 23), (.fa 0), [(.t 5)], none, [13, 14, 15, 16, 17, 18, 19, 20, 21, 22, 26, 27, 30, 11]⟩,
 ⟨(some 24), (.fa 1), [(.t 23)], none, [13, 14, 15, 16, 17, 18, 19, 20, 21, 22, 26, 27, 30, 11]⟩,
 ⟨(some 25), (.load none), [(.t 24)], none, [13, 14, 15, 16, 17, 18, 19, 20, 21, 22, 26, 27, 30, 11]⟩,
 ⟨(some 26), (.fa 1), [(.t 6)], none, [13, 14, 15, 16, 17, 18, 19, 20, 21, 22, 23, 24, 25, 30, 11]⟩,
 ⟨(some 27), (.load none), [(.t 26)], none, [13, 14, 15, 16, 17, 18, 19, 20, 21, 22, 23, 24, 25, 30, 11]⟩,
 ⟨(some 28), (.ixs 1), [(.t 25), (.t 27)], none, [13, 14, 15, 16, 17, 18, 19, 20, 21, 22, 30, 11]⟩,
 ⟨(some 29), (.load none), [(.t 28)], none, [13, 14, 15, 16, 17, 18, 19, 20, 21, 22, 30, 11]⟩,
 ⟨(some 30), .mv, [(.t 4)], none, [13, 14, 15, 16, 17, 18, 19, 20, 21, 22, 23, 24, 25, 26, 27, 28, 29, 11]⟩,
 ⟨(some 31), (.ixs 1), [(.t 29), (.t 30)], none, [13, 14, 15, 16, 17, 18, 19, 20, 21, 22, 11]⟩,
 ⟨(some 32), (.load none), [(.t 31)], none, [13, 14, 15, 16, 17, 18, 19, 20, 21, 22, 11]⟩,
 ⟨(some 11), .mv, [(.t 22)], none, [23, 24, 25, 26, 27, 28, 29, 30, 31, 32]⟩,
 ⟨(some 12), .mv, [(.t 32)], none, []⟩] 0 [2, 3, 10, 11, 12])
 (.seq
 (.seq
 (.reg false [] [] [
 ⟨(some 33), .mv, [(.t 2)], none, []⟩] 0 [3, 10, 11, 12, 33])
 (.cond (.t 33)
 (.seq
 (.reg false [] [] [
 ⟨(some 34), .mv, [(.t 3)], none, []⟩,
 ⟨(some 35), .mv, [(.t 11)], none, []⟩,
 ⟨(some 36), (.bin 0 .add), [(.t 34), (.t 35)], none, []⟩,
 ⟨(some 37), .mv, [(.t 3)], none, []⟩,
 ⟨(some 38), .mv, [(.t 11)], none, []⟩,
 ⟨(some 39), (.bin 0 .add), [(.t 37), (.t 38)], none, []⟩,
 ⟨(some 40), .mv, [(.t 12)], none, []⟩,
 ⟨(some 41), (.bin 0 .add), [(.t 39), (.t 40)], none, []⟩,
 ⟨(some 42), (.build [(.int .i64 0), (.int .i64 0)] [(0, 1), (1, 1)]), [(.t 36), (.t 41)], none, []⟩,
 ⟨(some 43), (.build [(.int .i64 0), (.int .i64 0)] [(0, 2)]), [(.t 42)], none, []⟩,
 ⟨none, (.store 2 none), [(.t 10), (.t 43)], none, []⟩] 0 [10])
 .ret)
 .skip))
 (.seq
 (.reg false [] [] [
 ⟨(some 44), .mv, [(.t 3)], none, []⟩,
 ⟨(some 45), .mv, [(.t 11)], none, []⟩,
 ⟨(some 46), (.bin 0 .sub), [(.t 44), (.t 45)], none, []⟩,
 ⟨(some 47), .mv, [(.t 12)], none, []⟩,
 ⟨(some 48), (.bin 0 .sub), [(.t 46), (.t 47)], none, []⟩,
 ⟨(some 49), .mv, [(.t 3)], none, []⟩,
 ⟨(some 50), .mv, [(.t 11)], none, []⟩,
 ⟨(some 51), (.bin 0 .sub), [(.t 49), (.t 50)], none, []⟩,
 ⟨(some 52), (.build [(.int .i64 0), (.int .i64 0)] [(0, 1), (1, 1)]), [(.t 48), (.t 51)], none, []⟩,
 ⟨(some 53), (.build [(.int .i64 0), (.int .i64 0)] [(0, 2)]), [(.t 52)], none, []⟩,
 ⟨none, (.store 2 none), [(.t 10), (.t 53)], none, []⟩] 0 [10])
 .ret)))),
 [(.c 10 (some 2))]⟩
theorem c107 : funC Try.prog [(0, [2, 3, 4, 5, 6, 10]), (1, [2, 3, 10, 11, 12]), (2, [3, 10, 11, 12, 33]), (3, [10]), (4, [10])] Try.f107 = some (unF l107) := by kernel_rfl
/-- (acme/zone.table).play -/
def l108 : LFun := ⟨4, 22, [],
 (.seq
 (.reg false [4, 5, 8] [4, 5, 8] [
 ⟨(some 4), .box, [(.t 0)], none, []⟩,
 ⟨(some 5), .box, [(.t 1)], none, []⟩,
 ⟨(some 8), (.alloc [(.int .i64 0), (.int .i64 0)]), [], none, []⟩] 0 [2, 3, 4, 5, 8])
 (.seq
 (.reg false [] [] [
 ⟨(some 9), (.load (some 3)), [(.t 4)], none, [10, 11, 12, 13, 15, 16, 17, 18, 19]⟩,
 ⟨(some 10), (.fa 0), [(.t 5)], none, [9, 12, 13, 15, 16, 17, 18, 19]⟩,
 ⟨(some 11), (.load (some 2)), [(.t 10)], none, [9, 12, 13, 15, 16, 17, 18, 19]⟩,
 ⟨(some 12), .mv, [(.t 2)], none, [9, 10, 11, 13, 15, 16, 17, 18, 19]⟩,
 ⟨(some 13), .mv, [(.t 3)], none, [9, 10, 11, 12, 15, 16, 17, 18, 19]⟩,
 ⟨(some 14), (.call true false false), [(.f 107), (.t 9), (.t 11), (.c (.bool false)), (.t 12), (.t 13)], none, [15, 16, 17, 18, 19]⟩,
 ⟨(some 15), (.load (some 3)), [(.t 4)], none, [9, 10, 11, 12, 13, 14, 16, 17, 18, 19]⟩,
 ⟨(some 16), (.fa 2), [(.t 5)], none, [9, 10, 11, 12, 13, 14, 15, 18, 19]⟩,
 ⟨(some 17), (.load (some 2)), [(.t 16)], none, [9, 10, 11, 12, 13, 14, 15, 18, 19]⟩,
 ⟨(some 18), .mv, [(.t 2)], none, [9, 10, 11, 12, 13, 14, 15, 16, 17, 19]⟩,
 ⟨(some 19), .mv, [(.t 3)], none, [9, 10, 11, 12, 13, 14, 15, 16, 17, 18]⟩,
 ⟨(some 20), (.call false false false), [(.f 107), (.t 15), (.t 17), (.c (.bool true)), (.t 18), (.t 19)], none, []⟩,
 ⟨(some 21), (.call false false false), [(.f 175), (.t 14), (.t 20)], none, []⟩,
 ⟨none, (.store 2 (some 8)), [(.t 8), (.t 21)], none, []⟩] 0 [8])
 .ret)),
 [(.c 8 (some 2))]⟩
theorem c108 : funC Try.prog [(0, [2, 3, 4, 5, 8]), (1, [8])] Try.f108 = some (unF l108) := by kernel_rfl
/-- acme/fit.within -/
def l114 : LFun := ⟨3, 11, [],
 (.seq
 (.reg false [3, 4] [3, 4] [
 ⟨(some 3), .box, [(.t 0)], none, []⟩,
 ⟨(some 4), .box, [(.t 1)], none, []⟩,
 ⟨(some 6), .mv, [(.c (.bool false))], none, []⟩] 0 [2, 3, 4])
 (.seq
 (.reg false [] [] [
 ⟨(some 7), .mv, [(.t 2)], none, []⟩,
 ⟨(some 8), (.mkf 183), [(.t 3), (.t 4)], none, []⟩,
 ⟨(some 9), (.call false false false), [(.f 132), (.t 7), (.t 8)], none, []⟩,
 ⟨(some 10), (.un .not), [(.t 9)], none, []⟩,
 ⟨(some 6), .mv, [(.t 10)], none, []⟩] 0 [3, 4, 6])
 .ret)),
 [(.t 6)]⟩
theorem c114 : funC Try.prog [(0, [2, 3, 4]), (1, [3, 4, 6])] Try.f114 = some (unF l114) := by kernel_rfl
/-- acme/fit.checkDepth -/
def l115 : LFun := ⟨1, 6, [],
 (.seq
 (.reg false [1] [1] [
 ⟨(some 1), .box, [(.t 0)], none, []⟩,
 ⟨(some 2), .mv, [(.c (.int .i64 0))], none, []⟩] 0 [1])
 (.seq
 (.seq
 (.reg false [] [] [
 ⟨(some 3), (.load (some 2)), [(.t 1)], none, []⟩,
 ⟨(some 4), (.call false false false), [(.f 184), (.t 3), (.c (.int .i64 (-200000))), (.c (.int .i64 200000))], none, []⟩,
 ⟨(some 5), (.un .not), [(.t 4)], none, []⟩] 0 [5])
 (.cond (.t 5)
 (.seq
 (.reg false [] [] [
 ⟨(some 2), .mv, [(.c (.int .i64 3))], none, []⟩] 0 [2])
 .ret)
 .skip))
 (.seq
 (.reg false [] [] [
 ⟨(some 2), .mv, [(.c (.int .i64 0))], none, []⟩] 0 [2])
 .ret))),
 [(.t 2)]⟩
theorem c115 : funC Try.prog [(0, [1]), (1, [5]), (2, [2]), (3, [2])] Try.f115 = some (unF l115) := by kernel_rfl
/-- (acme/fit.ideal).perfect -/
def b116_0 : LCode :=
 (.seq
 (.reg true [] [] [
 ⟨(some 23), (.bin 0 .lss), [(.t 22), (.t 21)], none, []⟩] 0 [1, 3, 4, 5, 10, 21, 22, 23])
 (.seq
 (.cond (.t 23)
 .skip
 (.exit 0))
 (.seq
 (.block 1
 (.seq
 (.reg true [] [] [
 ⟨(some 24), .mv, [(.t 22)], none, []⟩,
 ⟨(some 11), .mv, [(.t 24)], none, []⟩] 0 [1, 3, 4, 5, 10, 11, 21, 22])
 (.seq
 (.reg true [] [] [
 ⟨(some 25), .mv, [(.t 11)], none, []⟩,
 ⟨(some 26), (.bin 0 .mul), [(.c (.int .i64 4000)), (.t 25)], none, []⟩,
 ⟨(some 27), (.fa 0), [(.t 5)], none, []⟩,
 ⟨(some 28), (.fa 0), [(.t 27)], none, []⟩,
 ⟨(some 29), (.load none), [(.t 28)], none, []⟩,
 ⟨(some 30), (.bin 0 .mul), [(.t 26), (.t 29)], none, []⟩,
 ⟨(some 12), .mv, [(.t 30)], none, []⟩] 0 [1, 3, 4, 5, 10, 12, 21, 22])
 (.reg true [62, 63] [62] [
 ⟨(some 31), (.fa 0), [(.t 10)], none, [33, 34, 35, 36, 37, 38, 39, 40, 41, 42, 43, 44, 45, 46, 47, 48, 49, 50, 51, 52, 53, 54, 55, 56, 57, 58, 59, 60, 61, 62]⟩,
 ⟨(some 32), (.load none), [(.t 31)], none, [33, 34, 35, 36, 37, 38, 39, 40, 41, 42, 43, 44, 45, 46, 47, 48, 49, 50, 51, 52, 53, 54, 55, 56, 57, 58, 59, 60, 61, 62]⟩,
 ⟨(some 33), .mv, [(.t 3)], none, [31, 32, 34, 35, 36, 37, 38, 39, 40, 41, 42, 43, 44, 45, 47, 48, 49, 50, 51, 52, 53, 54, 55, 56, 57, 58, 59]⟩,
 ⟨(some 34), .mv, [(.t 12)], none, [31, 32, 33, 35, 36, 37, 38, 40, 41, 42, 43, 44, 47, 48, 49, 50, 51, 52, 53, 54, 55, 56, 57, 58, 59]⟩,
 ⟨(some 35), (.fa 0), [(.t 5)], none, [31, 32, 33, 34, 40, 41, 42, 43, 44, 47, 48, 49, 50, 51, 52, 53, 54, 55, 56, 57, 58, 59]⟩,
 ⟨(some 36), (.fa 0), [(.t 35)], none, [31, 32, 33, 34, 40, 41, 42, 43, 44, 47, 48, 49, 50, 51, 52, 53, 54, 55, 56, 57, 58, 59]⟩,
 ⟨(some 37), (.load none), [(.t 36)], none, [31, 32, 33, 34, 40, 41, 42, 43, 44, 47, 48, 49, 50, 51, 52, 53, 54, 55, 56, 57, 58, 59]⟩,
 ⟨(some 38), (.bin 0 .mul), [(.c (.int .i64 1000)), (.t 37)], none, [31, 32, 33, 34, 40, 41, 42, 43, 44, 47, 48, 49, 50, 51, 52, 53, 54, 55, 56, 57, 58, 59]⟩,
 ⟨(some 39), (.bin 0 .sub), [(.t 34), (.t 38)], none, [31, 32, 33, 40, 41, 42, 43, 44, 47, 48, 49, 50, 51, 52, 53, 54, 55, 56, 57, 58, 59]⟩,
 ⟨(some 40), .mv, [(.t 1)], none, [31, 32, 33, 34, 35, 36, 37, 38, 39, 42, 43, 47, 48, 49, 50, 51, 52, 53, 54, 55, 56, 57, 58, 59]⟩,
 ⟨(some 41), (.bin 0 .mul), [(.c (.int .i64 4)), (.t 40)], none, [31, 32, 33, 34, 35, 36, 37, 38, 39, 42, 43, 47, 48, 49, 50, 51, 52, 53, 54, 55, 56, 57, 58, 59]⟩,
 ⟨(some 42), (.fa 1), [(.t 10)], none, [31, 32, 33, 34, 35, 36, 37, 38, 39, 40, 41, 47, 48, 49, 50, 51, 52, 53, 54, 55, 56, 57, 58, 59]⟩,
 ⟨(some 43), (.load none), [(.t 42)], none, [31, 32, 33, 34, 35, 36, 37, 38, 39, 40, 41, 47, 48, 49, 50, 51, 52, 53, 54, 55, 56, 57, 58, 59]⟩,
 ⟨(some 44), (.bin 0 .mul), [(.t 41), (.t 43)], none, [31, 32, 33, 34, 35, 36, 37, 38, 39, 47, 48, 49, 50, 51, 52, 53, 54, 55, 56, 57, 58, 59]⟩,
 ⟨(some 45), (.bin 0 .sub), [(.t 39), (.t 44)], none, [31, 32, 33, 47, 48, 49, 50, 51, 52, 53, 54, 55, 56, 57, 58, 59]⟩,
 ⟨(some 46), (.call true false false), [(.t 33), (.t 45), (.c (.int .i64 4000))], none, [31, 32, 47, 48, 49, 50, 51, 52, 53, 54, 55, 56, 57, 58, 59]⟩,
 ⟨(some 47), .mv, [(.t 4)], none, [31, 32, 33, 34, 35, 36, 37, 38, 39, 40, 41, 42, 43, 44, 45, 46, 48, 49, 50, 51, 52, 53, 54, 55, 56, 57, 58, 59]⟩,
 ⟨(some 48), .mv, [(.t 12)], none, [31, 32, 33, 34, 35, 36, 37, 38, 39, 40, 41, 42, 43, 44, 45, 46, 47, 49, 50, 51, 52, 54, 55, 56, 57, 58]⟩,
 ⟨(some 49), (.fa 0), [(.t 5)], none, [31, 32, 33, 34, 35, 36, 37, 38, 39, 40, 41, 42, 43, 44, 45, 46, 47, 48, 54, 55, 56, 57, 58]⟩,
 ⟨(some 50), (.fa 0), [(.t 49)], none, [31, 32, 33, 34, 35, 36, 37, 38, 39, 40, 41, 42, 43, 44, 45, 46, 47, 48, 54, 55, 56, 57, 58]⟩,
 ⟨(some 51), (.load none), [(.t 50)], none, [31, 32, 33, 34, 35, 36, 37, 38, 39, 40, 41, 42, 43, 44, 45, 46, 47, 48, 54, 55, 56, 57, 58]⟩,
 ⟨(some 52), (.bin 0 .mul), [(.c (.int .i64 1000)), (.t 51)], none, [31, 32, 33, 34, 35, 36, 37, 38, 39, 40, 41, 42, 43, 44, 45, 46, 47, 48, 54, 55, 56, 57, 58]⟩,
 ⟨(some 53), (.bin 0 .add), [(.t 48), (.t 52)], none, [31, 32, 33, 34, 35, 36, 37, 38, 39, 40, 41, 42, 43, 44, 45, 46, 47, 54, 55, 56, 57, 58]⟩,
 ⟨(some 54), .mv, [(.t 1)], none, [31, 32, 33, 34, 35, 36, 37, 38, 39, 40, 41, 42, 43, 44, 45, 46, 47, 48, 49, 50, 51, 52, 53, 56, 57]⟩,
 ⟨(some 55), (.bin 0 .mul), [(.c (.int .i64 4)), (.t 54)], none, [31, 32, 33, 34, 35, 36, 37, 38, 39, 40, 41, 42, 43, 44, 45, 46, 47, 48, 49, 50, 51, 52, 53, 56, 57]⟩,
 ⟨(some 56), (.fa 2), [(.t 10)], none, [31, 32, 33, 34, 35, 36, 37, 38, 39, 40, 41, 42, 43, 44, 45, 46, 47, 48, 49, 50, 51, 52, 53, 54, 55]⟩,
 ⟨(some 57), (.load none), [(.t 56)], none, [31, 32, 33, 34, 35, 36, 37, 38, 39, 40, 41, 42, 43, 44, 45, 46, 47, 48, 49, 50, 51, 52, 53, 54, 55]⟩,
 ⟨(some 58), (.bin 0 .mul), [(.t 55), (.t 57)], none, [31, 32, 33, 34, 35, 36, 37, 38, 39, 40, 41, 42, 43, 44, 45, 46, 47, 48, 49, 50, 51, 52, 53]⟩,
 ⟨(some 59), (.bin 0 .add), [(.t 53), (.t 58)], none, [31, 32, 33, 34, 35, 36, 37, 38, 39, 40, 41, 42, 43, 44, 45, 46, 47]⟩,
 ⟨(some 60), (.call true false false), [(.t 47), (.t 59), (.c (.int .i64 4000))], none, [31, 32]⟩,
 ⟨(some 61), (.build [(.int .i64 0), (.int .i64 0)] [(0, 1), (1, 1)]), [(.t 46), (.t 60)], none, [31, 32]⟩,
 ⟨(some 62), (.bsl 2 [(.int .i64 0), (.int .i64 0)] 1 [0]), [(.t 61)], none, [31, 32]⟩,
 ⟨(some 63), (.append false 2 16), [(.t 32), (.t 62)], none, []⟩,
 ⟨(some 64), (.fa 0), [(.t 10)], none, []⟩,
 ⟨none, (.store 1 (some 10)), [(.t 64), (.t 63)], none, []⟩] 0 [1, 3, 4, 5, 10, 21, 22]))))
 (.reg true [] [] [
 ⟨(some 65), (.bin 0 .add), [(.t 22), (.c (.int .i64 1))], none, []⟩,
 ⟨(some 22), .mv, [(.t 65)], none, []⟩] 0 [1, 3, 4, 5, 10, 21, 22]))))
def l116 : LFun := ⟨5, 67, [],
 (.seq
 (.reg false [5, 10] [5, 10] [
 ⟨(some 5), .box, [(.t 0)], none, []⟩,
 ⟨(some 10), (.alloc [(.sl (some 2006300) 2 []), (.int .i64 0), (.int .i64 0)]), [], none, []⟩] 0 [1, 2, 3, 4, 5, 10])
 (.seq
 (.reg false [] [] [
 ⟨(some 13), (.fa 0), [(.t 5)], none, [16, 17, 18]⟩,
 ⟨(some 14), (.fa 1), [(.t 13)], none, [16, 17, 18]⟩,
 ⟨(some 15), (.load none), [(.t 14)], none, [16, 17, 18]⟩,
 ⟨(some 16), (.fa 0), [(.t 5)], none, [13, 14, 15, 19, 10]⟩,
 ⟨(some 17), (.fa 2), [(.t 16)], none, [13, 14, 15, 19, 10]⟩,
 ⟨(some 18), (.load none), [(.t 17)], none, [13, 14, 15, 19, 10]⟩,
 ⟨(some 19), (.fa 1), [(.t 10)], none, [16, 17, 18]⟩,
 ⟨none, (.store 1 (some 10)), [(.t 19), (.t 15)], none, [16, 17, 18]⟩,
 ⟨(some 20), (.fa 2), [(.t 10)], none, []⟩,
 ⟨none, (.store 1 (some 10)), [(.t 20), (.t 18)], none, []⟩] 0 [1, 2, 3, 4, 5, 10])
 (.seq
 (.seq
 (.reg false [] [] [
 ⟨(some 21), .mv, [(.t 2)], none, []⟩,
 ⟨(some 22), .mv, [(.c (.int .i64 0))], none, []⟩] 0 [1, 3, 4, 5, 10, 21, 22])
 (.block 0
 (.loop b116_0)))
 (.seq
 (.reg false [] [] [
 ⟨(some 66), (.load (some 3)), [(.t 10)], none, []⟩,
 ⟨none, (.store 3 none), [(.t 10), (.t 66)], none, []⟩] 0 [10])
 .ret)))),
 [(.c 10 (some 3))]⟩
theorem c116 : funC Try.prog [(0, [1, 2, 3, 4, 5, 10]), (1, [1, 2, 3, 4, 5, 10]), (2, [1, 3, 4, 5, 10, 21, 22]), (3, [1, 3, 4, 5, 10, 21, 22, 23]), (4, [1, 3, 4, 5, 10, 11, 21, 22]), (5, [1, 3, 4, 5, 10, 12, 21, 22]), (6, [1, 3, 4, 5, 10, 21, 22]), (7, [1, 3, 4, 5, 10, 21, 22]), (8, [10])] Try.f116 = some (unF l116) := by kernel_rfl
/-- acme/acmetop.armPerfect -/
def b117_0 : LCode :=
 (.seq
 (.seq
 (.reg true [] [] [
 ⟨(some 14), .mv, [(.t 8)], none, []⟩,
 ⟨(some 15), .mv, [(.t 1)], none, []⟩,
 ⟨(some 16), (.bin 0 .lss), [(.t 14), (.t 15)], none, []⟩] 0 [1, 2, 3, 6, 7, 8, 16])
 (.cond (.t 16)
 .skip
 (.exit 0)))
 (.seq
 (.block 1
 (.reg true [42, 43] [42] [
 ⟨(some 19), (.fa 0), [(.t 7)], none, []⟩,
 ⟨(some 20), (.load none), [(.t 19)], none, []⟩,
 ⟨(some 21), .mv, [(.t 8)], none, []⟩,
 ⟨(some 22), (.fa 0), [(.t 3)], none, []⟩,
 ⟨(some 23), (.load none), [(.t 22)], none, []⟩,
 ⟨(some 24), (.bin 0 .mul), [(.t 21), (.t 23)], none, []⟩,
 ⟨(some 25), (.fa 0), [(.t 3)], none, []⟩,
 ⟨(some 26), (.load none), [(.t 25)], none, []⟩,
 ⟨(some 27), (.bin 0 .quo), [(.t 26), (.c (.int .i64 4))], none, []⟩,
 ⟨(some 28), (.bin 0 .sub), [(.t 24), (.t 27)], none, []⟩,
 ⟨(some 29), .mv, [(.t 2)], none, []⟩,
 ⟨(some 30), (.bin 0 .sub), [(.t 28), (.t 29)], none, []⟩,
 ⟨(some 31), .mv, [(.t 8)], none, []⟩,
 ⟨(some 32), (.fa 0), [(.t 3)], none, []⟩,
 ⟨(some 33), (.load none), [(.t 32)], none, []⟩,
 ⟨(some 34), (.bin 0 .mul), [(.t 31), (.t 33)], none, []⟩,
 ⟨(some 35), (.fa 0), [(.t 3)], none, []⟩,
 ⟨(some 36), (.load none), [(.t 35)], none, []⟩,
 ⟨(some 37), (.bin 0 .quo), [(.t 36), (.c (.int .i64 4))], none, []⟩,
 ⟨(some 38), (.bin 0 .add), [(.t 34), (.t 37)], none, []⟩,
 ⟨(some 39), .mv, [(.t 2)], none, []⟩,
 ⟨(some 40), (.bin 0 .add), [(.t 38), (.t 39)], none, []⟩,
 ⟨(some 41), (.build [(.int .i64 0), (.int .i64 0)] [(0, 1), (1, 1)]), [(.t 30), (.t 40)], none, []⟩,
 ⟨(some 42), (.bsl 2 [(.int .i64 0), (.int .i64 0)] 1 [0]), [(.t 41)], none, []⟩,
 ⟨(some 43), (.append false 2 16), [(.t 20), (.t 42)], none, []⟩,
 ⟨(some 44), (.fa 0), [(.t 7)], none, []⟩,
 ⟨none, (.store 1 none), [(.t 44), (.t 43)], none, []⟩] 0 [1, 2, 3, 6, 7, 8]))
 (.reg true [] [] [
 ⟨(some 17), .mv, [(.t 8)], none, []⟩,
 ⟨(some 18), (.bin 0 .add), [(.t 17), (.c (.int .i64 1))], none, []⟩,
 ⟨(some 8), .mv, [(.t 18)], none, []⟩] 0 [1, 2, 3, 6, 7, 8])))
def l117 : LFun := ⟨3, 46, [],
 (.seq
 (.reg false [3, 6] [3, 6] [
 ⟨(some 3), .box, [(.t 0)], none, []⟩,
 ⟨(some 6), (.alloc [(.sl none 2 []), (.int .i64 0), (.int .i64 0)]), [], none, []⟩] 0 [1, 2, 3, 6])
 (.seq
 (.reg false [7] [7] [
 ⟨(some 9), (.fa 1), [(.t 3)], none, []⟩,
 ⟨(some 10), (.load none), [(.t 9)], none, []⟩,
 ⟨(some 11), (.fa 2), [(.t 3)], none, []⟩,
 ⟨(some 12), (.load none), [(.t 11)], none, []⟩,
 ⟨(some 13), (.build [(.sl (some 2004300) 2 []), (.int .i64 0), (.int .i64 0)] [(1, 1), (2, 1)]), [(.t 10), (.t 12)], none, []⟩,
 ⟨(some 7), (.alloc [(.sl (some 2004300) 2 []), (.int .i64 0), (.int .i64 0)]), [], none, []⟩,
 ⟨none, (.store 3 none), [(.t 7), (.t 13)], none, []⟩] 0 [1, 2, 3, 6, 7])
 (.seq
 (.seq
 (.reg false [] [] [
 ⟨(some 8), .mv, [(.c (.int .i64 0))], none, []⟩] 0 [1, 2, 3, 6, 7, 8])
 (.block 0
 (.loop b117_0)))
 (.seq
 (.reg false [] [] [
 ⟨(some 45), (.load (some 3)), [(.t 7)], none, []⟩,
 ⟨none, (.store 3 none), [(.t 6), (.t 45)], none, []⟩] 0 [6])
 .ret)))),
 [(.c 6 (some 3))]⟩
theorem c117 : funC Try.prog [(0, [1, 2, 3, 6]), (1, [1, 2, 3, 6, 7]), (2, [1, 2, 3, 6, 7, 8]), (3, [1, 2, 3, 6, 7, 8, 16]), (4, [1, 2, 3, 6, 7, 8]), (5, [1, 2, 3, 6, 7, 8]), (6, [6])] Try.f117 = some (unF l117) := by kernel_rfl
/-- (acme/fit.mesh).shifts -/
def b118_0 : LCode :=
 (.seq
 (.reg true [] [] [
 ⟨(some 14), (.bin 0 .lss), [(.t 13), (.t 12)], none, []⟩] 0 [2, 3, 6, 11, 12, 13, 14])
 (.seq
 (.cond (.t 14)
 .skip
 (.exit 0))
 (.seq
 (.block 1
 (.seq
 (.reg true [9] [9] [
 ⟨(some 15), .mv, [(.t 13)], none, []⟩,
 ⟨(some 16), (.ixs 2), [(.t 11), (.t 13)], none, []⟩,
 ⟨(some 17), (.load (some 2)), [(.t 16)], none, []⟩,
 ⟨(some 9), (.alloc [(.int .i64 0), (.int .i64 0)]), [], none, []⟩,
 ⟨(some 8), .mv, [(.t 15)], none, []⟩,
 ⟨none, (.store 2 none), [(.t 9), (.t 17)], none, []⟩] 0 [2, 3, 6, 8, 9, 11, 12, 13])
 (.seq
 (.reg true [10] [10] [
 ⟨(some 18), (.fa 0), [(.t 3)], none, [20, 21, 22, 23, 24, 25, 26, 27, 28, 10]⟩,
 ⟨(some 19), (.load (some 2)), [(.t 18)], none, [20, 21, 22, 23, 24, 25, 26, 27, 28, 10]⟩,
 ⟨(some 20), (.load (some 2)), [(.t 9)], none, [18, 19, 21, 22, 23, 24, 25, 26, 27, 28, 10]⟩,
 ⟨(some 21), .mv, [(.t 2)], none, [18, 19, 20, 22, 25, 26, 27, 28, 10]⟩,
 ⟨(some 22), .mv, [(.t 8)], none, [18, 19, 20, 21, 25, 26, 27, 28, 10]⟩,
 ⟨(some 23), (.ixs 2), [(.t 21), (.t 22)], none, [18, 19, 20, 25, 26, 27, 28, 10]⟩,
 ⟨(some 24), (.load (some 2)), [(.t 23)], none, [18, 19, 20, 25, 26, 27, 28, 10]⟩,
 ⟨(some 25), (.fa 2), [(.t 3)], none, [18, 19, 20, 21, 22, 23, 24, 27, 28, 10]⟩,
 ⟨(some 26), (.load (some 3)), [(.t 25)], none, [18, 19, 20, 21, 22, 23, 24, 27, 28, 10]⟩,
 ⟨(some 27), (.fa 5), [(.t 3)], none, [18, 19, 20, 21, 22, 23, 24, 25, 26, 10]⟩,
 ⟨(some 28), (.load (some 3)), [(.t 27)], none, [18, 19, 20, 21, 22, 23, 24, 25, 26, 10]⟩,
 ⟨(some 29), (.call false false false), [(.f 185), (.t 19), (.t 20), (.t 24), (.t 26), (.t 28)], none, [10]⟩,
 ⟨(some 10), (.alloc [(.int .i64 0), (.int .i64 0)]), [], none, [18, 19, 20, 21, 22, 23, 24, 25, 26, 27, 28, 29]⟩,
 ⟨none, (.store 2 (some 10)), [(.t 10), (.t 29)], none, []⟩] 0 [2, 3, 6, 8, 10, 11, 12, 13])
 (.seq
 (.seq
 (.reg true [] [] [
 ⟨(some 30), .mv, [(.t 8)], none, []⟩,
 ⟨(some 31), (.bin 0 .eql), [(.t 30), (.c (.int .i64 0))], none, []⟩] 0 [2, 3, 6, 10, 11, 12, 13, 31])
 (.cond (.t 31)
 (.reg true [] [] [
 ⟨(some 32), (.load (some 2)), [(.t 10)], none, []⟩,
 ⟨none, (.store 2 none), [(.t 6), (.t 32)], none, []⟩] 0 [2, 3, 6, 10, 11, 12, 13])
 .skip))
 (.reg true [] [] [
 ⟨(some 33), (.fa 0), [(.t 6)], none, []⟩,
 ⟨(some 34), (.load none), [(.t 33)], none, []⟩,
 ⟨(some 35), (.fa 0), [(.t 10)], none, []⟩,
 ⟨(some 36), (.load none), [(.t 35)], none, []⟩,
 ⟨(some 37), .max, [(.t 34), (.t 36)], none, []⟩,
 ⟨(some 38), (.fa 1), [(.t 6)], none, []⟩,
 ⟨(some 39), (.load none), [(.t 38)], none, []⟩,
 ⟨(some 40), (.fa 1), [(.t 10)], none, []⟩,
 ⟨(some 41), (.load none), [(.t 40)], none, []⟩,
 ⟨(some 42), .min, [(.t 39), (.t 41)], none, []⟩,
 ⟨(some 43), (.build [(.int .i64 0), (.int .i64 0)] [(0, 1), (1, 1)]), [(.t 37), (.t 42)], none, []⟩,
 ⟨none, (.store 2 none), [(.t 6), (.t 43)], none, []⟩] 0 [2, 3, 6, 11, 12, 13])))))
 (.reg true [] [] [
 ⟨(some 44), (.bin 0 .add), [(.t 13), (.c (.int .i64 1))], none, []⟩,
 ⟨(some 13), .mv, [(.t 44)], none, []⟩] 0 [2, 3, 6, 11, 12, 13]))))
def l118 : LFun := ⟨3, 51, [],
 (.seq
 (.reg false [3, 6] [3, 6] [
 ⟨(some 3), .box, [(.t 0)], none, []⟩,
 ⟨(some 6), (.alloc [(.int .i64 0), (.int .i64 0)]), [], none, []⟩,
 ⟨(some 7), .mv, [(.c (.bool false))], none, []⟩] 0 [1, 2, 3, 6])
 (.seq
 (.seq
 (.reg false [] [] [
 ⟨(some 11), .mv, [(.t 1)], none, []⟩,
 ⟨(some 12), .len, [(.t 11)], none, []⟩,
 ⟨(some 13), .mv, [(.c (.int .i64 0))], none, []⟩] 0 [2, 3, 6, 11, 12, 13])
 (.block 0
 (.loop b118_0)))
 (.seq
 (.reg false [] [] [
 ⟨(some 45), (.load (some 2)), [(.t 6)], none, []⟩,
 ⟨(some 46), (.fa 0), [(.t 6)], none, []⟩,
 ⟨(some 47), (.load none), [(.t 46)], none, []⟩,
 ⟨(some 48), (.fa 1), [(.t 6)], none, []⟩,
 ⟨(some 49), (.load none), [(.t 48)], none, []⟩,
 ⟨(some 50), (.bin 0 .leq), [(.t 47), (.t 49)], none, []⟩,
 ⟨none, (.store 2 none), [(.t 6), (.t 45)], none, []⟩,
 ⟨(some 7), .mv, [(.t 50)], none, []⟩] 0 [6, 7])
 .ret))),
 [(.c 6 (some 2)), (.t 7)]⟩
theorem c118 : funC Try.prog [(0, [1, 2, 3, 6]), (1, [2, 3, 6, 11, 12, 13]), (2, [2, 3, 6, 11, 12, 13, 14]), (3, [2, 3, 6, 8, 9, 11, 12, 13]), (4, [2, 3, 6, 8, 10, 11, 12, 13]), (5, [2, 3, 6, 10, 11, 12, 13, 31]), (6, [2, 3, 6, 10, 11, 12, 13]), (7, [2, 3, 6, 11, 12, 13]), (8, [2, 3, 6, 11, 12, 13]), (9, [6, 7])] Try.f118 = some (unF l118) := by kernel_rfl
/-- (acme/thread.form).width -/
def l131 : LFun := ⟨2, 15, [],
 (.seq
 (.reg false [2] [2] [
 ⟨(some 2), .box, [(.t 0)], none, []⟩,
 ⟨(some 4), .mv, [(.c (.int .i64 0))], none, []⟩] 0 [1, 2])
 (.seq
 (.reg false [] [] [
 ⟨(some 5), (.fa 0), [(.t 2)], none, [9, 10, 11, 12, 13]⟩,
 ⟨(some 6), (.fa 0), [(.t 5)], none, [9, 10, 11, 12, 13]⟩,
 ⟨(some 7), (.load none), [(.t 6)], none, [9, 10, 11, 12, 13]⟩,
 ⟨(some 8), (.bin 0 .mul), [(.c (.int .i64 1000)), (.t 7)], none, [9, 10, 11, 12, 13]⟩,
 ⟨(some 9), .mv, [(.t 1)], none, [5, 6, 7, 8, 11, 12]⟩,
 ⟨(some 10), (.bin 0 .mul), [(.c (.int .i64 2)), (.t 9)], none, [5, 6, 7, 8, 11, 12]⟩,
 ⟨(some 11), (.load (some 8)), [(.t 2)], none, [5, 6, 7, 8, 9, 10]⟩,
 ⟨(some 12), (.call true false false), [(.f 169), (.t 11)], none, [5, 6, 7, 8, 9, 10]⟩,
 ⟨(some 13), (.bin 0 .mul), [(.t 10), (.t 12)], none, [5, 6, 7, 8]⟩,
 ⟨(some 14), (.bin 0 .sub), [(.t 8), (.t 13)], none, []⟩,
 ⟨(some 4), .mv, [(.t 14)], none, []⟩] 0 [4])
 .ret)),
 [(.t 4)]⟩
theorem c131 : funC Try.prog [(0, [1, 2]), (1, [4])] Try.f131 = some (unF l131) := by kernel_rfl
/-- slices.ContainsFunc[[]int,int] -/
def l132 : LFun := ⟨2, 9, [],
 (.seq
 (.reg false [] [] [
 ⟨(some 4), .mv, [(.c (.bool false))], none, []⟩] 0 [0, 1])
 (.seq
 (.reg false [] [] [
 ⟨(some 5), .mv, [(.t 0)], none, []⟩,
 ⟨(some 6), .mv, [(.t 1)], none, []⟩,
 ⟨(some 7), (.call false false false), [(.f 193), (.t 5), (.t 6)], none, []⟩,
 ⟨(some 8), (.bin 0 .geq), [(.t 7), (.c (.int .i64 0))], none, []⟩,
 ⟨(some 4), .mv, [(.t 8)], none, []⟩] 0 [4])
 .ret)),
 [(.t 4)]⟩
theorem c132 : funC Try.prog [(0, [0, 1]), (1, [4])] Try.f132 = some (unF l132) := by kernel_rfl
/-- acme/swap.within$1 -/
def l133 : LFun := ⟨3, 13, [],
 (.seq
 (.reg false [] [] [
 ⟨(some 4), .mv, [(.c (.bool false))], none, []⟩] 0 [0, 1, 2])
 (.seq
 (.reg false [] [] [
 ⟨(some 5), .mv, [(.t 0)], none, []⟩,
 ⟨(some 6), (.load none), [(.t 1)], none, []⟩,
 ⟨(some 7), (.bin 0 .lss), [(.t 5), (.t 6)], none, []⟩,
 ⟨(some 8), .mv, [(.t 7)], none, []⟩,
 ⟨(some 9), .mv, [(.t 0)], (some (8, false)), []⟩,
 ⟨(some 10), (.load none), [(.t 2)], (some (8, false)), []⟩,
 ⟨(some 11), (.bin 0 .gtr), [(.t 9), (.t 10)], (some (8, false)), []⟩,
 ⟨(some 12), .pick, [(.t 8), (.c (.bool true)), (.t 11)], none, []⟩,
 ⟨(some 4), .mv, [(.t 12)], none, []⟩] 0 [4])
 .ret)),
 [(.t 4)]⟩
theorem c133 : funC Try.prog [(0, [0, 1, 2]), (1, [4])] Try.f133 = some (unF l133) := by kernel_rfl
/-- (acme/swap.span).isValid -/
def l134 : LFun := ⟨3, 26, [],
 (.seq
 (.reg false [3] [3] [
 ⟨(some 3), .box, [(.t 0)], none, []⟩,
 ⟨(some 6), .mv, [(.c (.bool false))], none, []⟩] 0 [1, 2, 3])
 (.seq
 (.reg false [15] [15] [
 ⟨(some 7), .mv, [(.t 1)], none, []⟩,
 ⟨(some 8), .mv, [(.t 2)], none, []⟩,
 ⟨(some 9), (.fa 0), [(.t 3)], none, []⟩,
 ⟨(some 10), (.fa 0), [(.t 9)], none, []⟩,
 ⟨(some 11), (.load none), [(.t 10)], none, []⟩,
 ⟨(some 12), (.fa 0), [(.t 3)], none, []⟩,
 ⟨(some 13), (.fa 1), [(.t 12)], none, []⟩,
 ⟨(some 14), (.load none), [(.t 13)], none, []⟩,
 ⟨(some 15), (.bsl 1 [(.int .i64 0)] 2 [0, 1]), [(.t 11), (.t 14)], none, []⟩,
 ⟨(some 16), (.call false false false), [(.f 69), (.t 7), (.t 8), (.t 15)], none, []⟩,
 ⟨(some 17), .mv, [(.t 16)], none, []⟩,
 ⟨(some 18), (.fa 0), [(.t 3)], (some (17, true)), []⟩,
 ⟨(some 19), (.fa 0), [(.t 18)], (some (17, true)), []⟩,
 ⟨(some 20), (.load none), [(.t 19)], (some (17, true)), []⟩,
 ⟨(some 21), (.fa 0), [(.t 3)], (some (17, true)), []⟩,
 ⟨(some 22), (.fa 1), [(.t 21)], (some (17, true)), []⟩,
 ⟨(some 23), (.load none), [(.t 22)], (some (17, true)), []⟩,
 ⟨(some 24), (.bin 0 .leq), [(.t 20), (.t 23)], (some (17, true)), []⟩,
 ⟨(some 25), .pick, [(.t 17), (.t 24), (.c (.bool false))], none, []⟩,
 ⟨(some 6), .mv, [(.t 25)], none, []⟩] 0 [6])
 .ret)),
 [(.t 6)]⟩
theorem c134 : funC Try.prog [(0, [1, 2, 3]), (1, [6])] Try.f134 = some (unF l134) := by kernel_rfl
/-- (acme/swap.piece).play -/
def l135 : LFun := ⟨3, 48, [],
 (.seq
 (.reg false [3, 4, 5] [3, 4, 5] [
 ⟨(some 3), .box, [(.t 0)], none, []⟩,
 ⟨(some 4), .box, [(.t 1)], none, []⟩,
 ⟨(some 5), .box, [(.t 2)], none, []⟩,
 ⟨(some 6), .mv, [(.c (.int .i64 0))], none, []⟩] 0 [3, 4, 5])
 (.seq
 (.reg false [] [] [
 ⟨(some 8), (.load (some 9)), [(.t 4)], none, [9, 10, 12, 13, 14, 17, 18, 19, 21, 22, 23]⟩,
 ⟨(some 9), (.fa 0), [(.t 5)], none, [8, 12, 13, 14, 17, 18, 19, 21, 22, 23]⟩,
 ⟨(some 10), (.load none), [(.t 9)], none, [8, 12, 13, 14, 17, 18, 19, 21, 22, 23]⟩,
 ⟨(some 11), (.call true false false), [(.f 194), (.t 8), (.t 10)], none, [12, 13, 14, 17, 18, 19, 21, 22, 23]⟩,
 ⟨(some 12), (.load (some 9)), [(.t 3)], none, [8, 9, 10, 11, 13, 14, 17, 18, 19, 21, 22, 23]⟩,
 ⟨(some 13), (.fa 0), [(.t 5)], none, [8, 9, 10, 11, 12, 17, 18, 19, 21, 22, 23]⟩,
 ⟨(some 14), (.load none), [(.t 13)], none, [8, 9, 10, 11, 12, 17, 18, 19, 21, 22, 23]⟩,
 ⟨(some 15), (.call true false false), [(.f 194), (.t 12), (.t 14)], none, [17, 18, 19, 21, 22, 23]⟩,
 ⟨(some 16), (.bin 0 .sub), [(.t 11), (.t 15)], none, [17, 18, 19, 20, 21, 22, 23, 24, 25]⟩,
 ⟨(some 17), (.load (some 9)), [(.t 4)], none, [8, 9, 10, 11, 12, 13, 14, 15, 16, 18, 19, 21, 22, 23]⟩,
 ⟨(some 18), (.fa 1), [(.t 5)], none, [8, 9, 10, 11, 12, 13, 14, 15, 16, 17, 21, 22, 23]⟩,
 ⟨(some 19), (.load none), [(.t 18)], none, [8, 9, 10, 11, 12, 13, 14, 15, 16, 17, 21, 22, 23]⟩,
 ⟨(some 20), (.call true false false), [(.f 194), (.t 17), (.t 19)], none, [16, 21, 22, 23]⟩,
 ⟨(some 21), (.load (some 9)), [(.t 3)], none, [8, 9, 10, 11, 12, 13, 14, 15, 16, 17, 18, 19, 20, 22, 23]⟩,
 ⟨(some 22), (.fa 1), [(.t 5)], none, [8, 9, 10, 11, 12, 13, 14, 15, 16, 17, 18, 19, 20, 21]⟩,
 ⟨(some 23), (.load none), [(.t 22)], none, [8, 9, 10, 11, 12, 13, 14, 15, 16, 17, 18, 19, 20, 21]⟩,
 ⟨(some 24), (.call true false false), [(.f 194), (.t 21), (.t 23)], none, [16]⟩,
 ⟨(some 25), (.bin 0 .sub), [(.t 20), (.t 24)], none, [16]⟩,
 ⟨(some 26), .max, [(.t 16), (.t 25)], none, []⟩,
 ⟨(some 7), .mv, [(.t 26)], none, []⟩] 0 [3, 4, 5, 7])
 (.seq
 (.reg false [] [] [
 ⟨(some 27), (.load (some 9)), [(.t 4)], none, [28, 29, 31, 32, 33, 36, 37, 38, 40, 41, 42, 46]⟩,
 ⟨(some 28), (.fa 0), [(.t 5)], none, [27, 31, 32, 33, 36, 37, 38, 40, 41, 42, 46]⟩,
 ⟨(some 29), (.load none), [(.t 28)], none, [27, 31, 32, 33, 36, 37, 38, 40, 41, 42, 46]⟩,
 ⟨(some 30), (.call true false false), [(.f 195), (.t 27), (.t 29)], none, [31, 32, 33, 36, 37, 38, 40, 41, 42, 46]⟩,
 ⟨(some 31), (.load (some 9)), [(.t 3)], none, [27, 28, 29, 30, 32, 33, 36, 37, 38, 40, 41, 42, 46]⟩,
 ⟨(some 32), (.fa 0), [(.t 5)], none, [27, 28, 29, 30, 31, 36, 37, 38, 40, 41, 42, 46]⟩,
 ⟨(some 33), (.load none), [(.t 32)], none, [27, 28, 29, 30, 31, 36, 37, 38, 40, 41, 42, 46]⟩,
 ⟨(some 34), (.call true false false), [(.f 195), (.t 31), (.t 33)], none, [36, 37, 38, 40, 41, 42, 46]⟩,
 ⟨(some 35), (.bin 0 .sub), [(.t 30), (.t 34)], none, [36, 37, 38, 39, 40, 41, 42, 43, 44, 46]⟩,
 ⟨(some 36), (.load (some 9)), [(.t 4)], none, [27, 28, 29, 30, 31, 32, 33, 34, 35, 37, 38, 40, 41, 42, 46]⟩,
 ⟨(some 37), (.fa 1), [(.t 5)], none, [27, 28, 29, 30, 31, 32, 33, 34, 35, 36, 40, 41, 42, 46]⟩,
 ⟨(some 38), (.load none), [(.t 37)], none, [27, 28, 29, 30, 31, 32, 33, 34, 35, 36, 40, 41, 42, 46]⟩,
 ⟨(some 39), (.call true false false), [(.f 195), (.t 36), (.t 38)], none, [35, 40, 41, 42, 46]⟩,
 ⟨(some 40), (.load (some 9)), [(.t 3)], none, [27, 28, 29, 30, 31, 32, 33, 34, 35, 36, 37, 38, 39, 41, 42, 46]⟩,
 ⟨(some 41), (.fa 1), [(.t 5)], none, [27, 28, 29, 30, 31, 32, 33, 34, 35, 36, 37, 38, 39, 40, 46]⟩,
 ⟨(some 42), (.load none), [(.t 41)], none, [27, 28, 29, 30, 31, 32, 33, 34, 35, 36, 37, 38, 39, 40, 46]⟩,
 ⟨(some 43), (.call true false false), [(.f 195), (.t 40), (.t 42)], none, [35, 46]⟩,
 ⟨(some 44), (.bin 0 .sub), [(.t 39), (.t 43)], none, [35, 46]⟩,
 ⟨(some 45), .min, [(.t 35), (.t 44)], none, [46]⟩,
 ⟨(some 46), .mv, [(.t 7)], none, [27, 28, 29, 30, 31, 32, 33, 34, 35, 36, 37, 38, 39, 40, 41, 42, 43, 44, 45]⟩,
 ⟨(some 47), (.bin 0 .sub), [(.t 45), (.t 46)], none, []⟩,
 ⟨(some 6), .mv, [(.t 47)], none, []⟩] 0 [6])
 .ret))),
 [(.t 6)]⟩
theorem c135 : funC Try.prog [(0, [3, 4, 5]), (1, [3, 4, 5, 7]), (2, [6])] Try.f135 = some (unF l135) := by kernel_rfl
/-- (acme/swap.piece).agrees -/
def l136 : LFun := ⟨2, 30, [],
 (.seq
 (.reg false [2, 3] [2, 3] [
 ⟨(some 2), .box, [(.t 0)], none, []⟩,
 ⟨(some 3), .box, [(.t 1)], none, []⟩,
 ⟨(some 4), .mv, [(.c (.bool false))], none, []⟩] 0 [2, 3])
 (.seq
 (.reg false [] [] [
 ⟨(some 5), (.fa 0), [(.t 2)], none, []⟩,
 ⟨(some 6), (.fa 5), [(.t 5)], none, []⟩,
 ⟨(some 7), (.load none), [(.t 6)], none, []⟩,
 ⟨(some 8), (.fa 0), [(.t 3)], none, []⟩,
 ⟨(some 9), (.fa 5), [(.t 8)], none, []⟩,
 ⟨(some 10), (.load none), [(.t 9)], none, []⟩,
 ⟨(some 11), (.bin 0 .eql), [(.t 7), (.t 10)], none, []⟩,
 ⟨(some 12), .mv, [(.t 11)], none, []⟩,
 ⟨(some 13), (.fa 0), [(.t 2)], (some (12, true)), []⟩,
 ⟨(some 14), (.fa 6), [(.t 13)], (some (12, true)), []⟩,
 ⟨(some 15), (.load none), [(.t 14)], (some (12, true)), []⟩,
 ⟨(some 16), (.fa 0), [(.t 3)], (some (12, true)), []⟩,
 ⟨(some 17), (.fa 6), [(.t 16)], (some (12, true)), []⟩,
 ⟨(some 18), (.load none), [(.t 17)], (some (12, true)), []⟩,
 ⟨(some 19), (.bin 1 .eql), [(.t 15), (.t 18)], (some (12, true)), []⟩,
 ⟨(some 20), .pick, [(.t 12), (.t 19), (.c (.bool false))], none, []⟩,
 ⟨(some 21), .mv, [(.t 20)], none, []⟩,
 ⟨(some 22), (.fa 0), [(.t 2)], (some (21, true)), []⟩,
 ⟨(some 23), (.fa 7), [(.t 22)], (some (21, true)), []⟩,
 ⟨(some 24), (.load none), [(.t 23)], (some (21, true)), []⟩,
 ⟨(some 25), (.fa 0), [(.t 3)], (some (21, true)), []⟩,
 ⟨(some 26), (.fa 7), [(.t 25)], (some (21, true)), []⟩,
 ⟨(some 27), (.load none), [(.t 26)], (some (21, true)), []⟩,
 ⟨(some 28), (.bin 0 .eql), [(.t 24), (.t 27)], (some (21, true)), []⟩,
 ⟨(some 29), .pick, [(.t 21), (.t 28), (.c (.bool false))], none, []⟩,
 ⟨(some 4), .mv, [(.t 29)], none, []⟩] 0 [4])
 .ret)),
 [(.t 4)]⟩
theorem c136 : funC Try.prog [(0, [2, 3]), (1, [4])] Try.f136 = some (unF l136) := by kernel_rfl
/-- acme/fit.Check -/
def b137_0 : LCode :=
 (.seq
 (.reg true [] [] [
 ⟨(some 27), (.bin 0 .lss), [(.t 26), (.t 25)], none, []⟩] 0 [3, 24, 25, 26, 27])
 (.seq
 (.cond (.t 27)
 .skip
 (.exit 1))
 (.seq
 (.block 2
 (.seq
 (.reg true [5] [5] [
 ⟨(some 28), (.ixs 2), [(.t 24), (.t 26)], none, []⟩,
 ⟨(some 29), (.load (some 2)), [(.t 28)], none, []⟩,
 ⟨(some 5), (.alloc [(.int .i64 0), (.int .i64 0)]), [], none, []⟩,
 ⟨none, (.store 2 none), [(.t 5), (.t 29)], none, []⟩] 0 [3, 5, 24, 25, 26])
 (.seq
 (.seq
 (.reg true [33, 41] [33, 41] [
 ⟨(some 30), .mv, [(.t 3)], none, []⟩,
 ⟨(some 31), (.fa 0), [(.t 5)], none, []⟩,
 ⟨(some 32), (.load none), [(.t 31)], none, []⟩,
 ⟨(some 33), (.bsl 1 [(.int .i64 0)] 1 [0]), [(.t 32)], none, []⟩,
 ⟨(some 34), (.call false false false), [(.f 114), (.t 30), (.c (.int .i64 10000000)), (.t 33)], none, []⟩,
 ⟨(some 35), (.un .not), [(.t 34)], none, []⟩,
 ⟨(some 36), .mv, [(.t 35)], none, []⟩,
 ⟨(some 37), (.fa 0), [(.t 5)], (some (36, false)), []⟩,
 ⟨(some 38), (.load none), [(.t 37)], (some (36, false)), []⟩,
 ⟨(some 39), (.fa 1), [(.t 5)], (some (36, false)), []⟩,
 ⟨(some 40), (.load none), [(.t 39)], (some (36, false)), []⟩,
 ⟨(some 41), (.bsl 1 [(.int .i64 0)] 1 [0]), [(.t 40)], (some (36, false)), []⟩,
 ⟨(some 42), (.call false false false), [(.f 114), (.t 38), (.c (.int .i64 10000000)), (.t 41)], (some (36, false)), []⟩,
 ⟨(some 43), (.un .not), [(.t 42)], (some (36, false)), []⟩,
 ⟨(some 44), .pick, [(.t 36), (.c (.bool true)), (.t 43)], none, []⟩] 0 [5, 24, 25, 26, 44])
 (.cond (.t 44)
 (.seq
 (.reg true [] [] [
 ⟨(some 2), .mv, [(.c (.int .i64 2))], none, []⟩] 0 [2])
 .ret)
 .skip))
 (.reg true [] [] [
 ⟨(some 45), (.fa 1), [(.t 5)], none, []⟩,
 ⟨(some 46), (.load none), [(.t 45)], none, []⟩,
 ⟨(some 3), .mv, [(.t 46)], none, []⟩] 0 [3, 24, 25, 26]))))
 (.reg true [] [] [
 ⟨(some 47), (.bin 0 .add), [(.t 26), (.c (.int .i64 1))], none, []⟩,
 ⟨(some 26), .mv, [(.t 47)], none, []⟩] 0 [3, 24, 25, 26]))))
def l137 : LFun := ⟨1, 48, [],
 (.seq
 (.reg false [1] [1] [
 ⟨(some 1), .box, [(.t 0)], none, []⟩,
 ⟨(some 2), .mv, [(.c (.int .i64 0))], none, []⟩] 0 [1])
 (.seq
 (.block 0
 (.seq
 (.reg false [] [] [
 ⟨(some 7), (.fa 0), [(.t 1)], none, []⟩,
 ⟨(some 8), (.load none), [(.t 7)], none, []⟩,
 ⟨(some 9), .len, [(.t 8)], none, []⟩,
 ⟨(some 10), (.bin 0 .gtr), [(.t 9), (.c (.int .i64 60))], none, []⟩,
 ⟨(some 6), .mv, [(.t 10)], none, []⟩] 0 [1, 6])
 (.cond (.t 6)
 (.seq
 (.reg false [] [] [
 ⟨(some 2), .mv, [(.c (.int .i64 5))], none, []⟩] 0 [2])
 .ret)
 (.seq
 (.seq
 (.reg false [] [] [
 ⟨(some 12), (.fa 0), [(.t 1)], none, []⟩,
 ⟨(some 13), (.load none), [(.t 12)], none, []⟩,
 ⟨(some 14), .len, [(.t 13)], none, []⟩,
 ⟨(some 15), (.bin 0 .eql), [(.t 14), (.c (.int .i64 0))], none, []⟩,
 ⟨(some 11), .mv, [(.t 15)], none, []⟩] 0 [1, 11])
 (.cond (.t 11)
 .skip
 (.reg false [20] [20] [
 ⟨(some 16), (.fa 1), [(.t 1)], none, []⟩,
 ⟨(some 17), (.load none), [(.t 16)], none, []⟩,
 ⟨(some 18), (.fa 2), [(.t 1)], none, []⟩,
 ⟨(some 19), (.load none), [(.t 18)], none, []⟩,
 ⟨(some 20), (.bsl 1 [(.int .i64 0)] 2 [0, 1]), [(.t 17), (.t 19)], none, []⟩,
 ⟨(some 21), (.call false false false), [(.f 114), (.c (.int .i64 0)), (.c (.int .i64 3000)), (.t 20)], none, []⟩,
 ⟨(some 22), (.un .not), [(.t 21)], none, []⟩,
 ⟨(some 11), .mv, [(.t 22)], none, []⟩] 0 [1, 11])))
 (.cond (.t 11)
 (.seq
 (.reg false [] [] [
 ⟨(some 2), .mv, [(.c (.int .i64 2))], none, []⟩] 0 [2])
 .ret)
 .skip)))))
 (.seq
 (.reg false [] [] [
 ⟨(some 3), .mv, [(.c (.int .i64 (-10000000)))], none, []⟩] 0 [1, 3])
 (.seq
 (.seq
 (.reg false [] [] [
 ⟨(some 23), (.fa 0), [(.t 1)], none, []⟩,
 ⟨(some 24), (.load none), [(.t 23)], none, []⟩,
 ⟨(some 25), .len, [(.t 24)], none, []⟩,
 ⟨(some 26), .mv, [(.c (.int .i64 0))], none, []⟩] 0 [3, 24, 25, 26])
 (.block 1
 (.loop b137_0)))
 (.seq
 (.reg false [] [] [
 ⟨(some 2), .mv, [(.c (.int .i64 0))], none, []⟩] 0 [2])
 .ret))))),
 [(.t 2)]⟩
theorem c137 : funC Try.prog [(0, [1]), (1, [1, 6]), (2, [2]), (3, [1, 11]), (4, [1, 11]), (5, [2]), (6, [1, 3]), (7, [3, 24, 25, 26]), (8, [3, 24, 25, 26, 27]), (9, [3, 5, 24, 25, 26]), (10, [5, 24, 25, 26, 44]), (11, [2]), (12, [3, 24, 25, 26]), (13, [3, 24, 25, 26]), (14, [2])] Try.f137 = some (unF l137) := by kernel_rfl
/-- slices.Grow[[]acme/api.FitThread,acme/api.FitThread] -/
def l138 : LFun := ⟨2, 27, [],
 (.seq
 (.reg false [] [] [
 ⟨(some 4), .mv, [(.c .nil)], none, []⟩] 0 [0, 1])
 (.seq
 (.seq
 (.reg false [] [] [
 ⟨(some 5), .mv, [(.t 1)], none, []⟩,
 ⟨(some 6), (.bin 0 .lss), [(.t 5), (.c (.int .i64 0))], none, []⟩] 0 [0, 1, 6])
 (.cond (.t 6)
 (.reg false [] [] [
 ⟨none, .bad, [], none, []⟩,
 ⟨none, .bad, [], none, []⟩] 0 [0, 1])
 .skip))
 (.seq
 (.seq
 (.reg false [] [] [
 ⟨(some 8), .mv, [(.t 1)], none, []⟩,
 ⟨(some 9), .mv, [(.t 0)], none, []⟩,
 ⟨(some 10), .cap, [(.t 9)], none, []⟩,
 ⟨(some 11), .mv, [(.t 0)], none, []⟩,
 ⟨(some 12), .len, [(.t 11)], none, []⟩,
 ⟨(some 13), (.bin 0 .sub), [(.t 10), (.t 12)], none, []⟩,
 ⟨(some 14), (.bin 0 .sub), [(.t 8), (.t 13)], none, []⟩,
 ⟨(some 1), .mv, [(.t 14)], none, []⟩] 0 [0, 1])
 (.seq
 (.reg false [] [] [
 ⟨(some 15), .mv, [(.t 1)], none, []⟩,
 ⟨(some 16), (.bin 0 .gtr), [(.t 15), (.c (.int .i64 0))], none, []⟩] 0 [0, 1, 16])
 (.cond (.t 16)
 (.reg false [22] [] [
 ⟨(some 17), .mv, [(.t 0)], none, []⟩,
 ⟨(some 18), .mv, [(.t 0)], none, []⟩,
 ⟨(some 19), .cap, [(.t 18)], none, []⟩,
 ⟨(some 20), (.sls 3 false true false), [(.t 17), (.t 19)], none, []⟩,
 ⟨(some 21), .mv, [(.t 1)], none, []⟩,
 ⟨(some 22), (.appz 3 40 [.nil, (.int .i64 0), (.int .i64 0)]), [(.t 20), (.t 21)], none, []⟩,
 ⟨(some 23), .mv, [(.t 0)], none, []⟩,
 ⟨(some 24), .len, [(.t 23)], none, []⟩,
 ⟨(some 25), (.trunc 3), [(.t 22), (.t 24)], none, []⟩,
 ⟨(some 0), .mv, [(.t 25)], none, []⟩] 0 [0])
 .skip)))
 (.seq
 (.reg false [] [] [
 ⟨(some 26), .mv, [(.t 0)], none, []⟩,
 ⟨(some 4), .mv, [(.t 26)], none, []⟩] 0 [4])
 .ret)))),
 [(.t 4)]⟩
theorem c138 : funC Try.prog [(0, [0, 1]), (1, [0, 1, 6]), (2, [0, 1]), (3, [0, 1]), (4, [0, 1, 16]), (5, [0]), (6, [4])] Try.f138 = some (unF l138) := by kernel_rfl
/-- (acme/fit.ideal).flanks -/
def l139 : LFun := ⟨2, 6, [],
 (.seq
 (.reg false [2, 3] [2, 3] [
 ⟨(some 2), .box, [(.t 0)], none, []⟩,
 ⟨(some 3), .box, [(.t 1)], none, []⟩,
 ⟨(some 4), .mv, [(.c .dead)], none, []⟩] 0 [2, 3])
 (.seq
 (.reg false [] [] [
 ⟨(some 5), (.mkf 196), [(.t 3), (.t 2)], none, []⟩,
 ⟨(some 4), .mv, [(.t 5)], none, []⟩] 0 [2, 3, 4])
 .ret)),
 [(.t 4)]⟩
theorem c139 : funC Try.prog [(0, [2, 3]), (1, [2, 3, 4])] Try.f139 = some (unF l139) := by kernel_rfl
/-- (acme/fit.heights).most -/
def l140 : LFun := ⟨2, 16, [],
 (.seq
 (.reg false [2] [2] [
 ⟨(some 2), .box, [(.t 0)], none, []⟩,
 ⟨(some 4), .mv, [(.c (.int .i64 0))], none, []⟩] 0 [1, 2])
 (.seq
 (.reg false [] [] [
 ⟨(some 5), (.fa 0), [(.t 2)], none, []⟩,
 ⟨(some 6), (.fa 0), [(.t 5)], none, []⟩,
 ⟨(some 7), (.load none), [(.t 6)], none, []⟩,
 ⟨(some 8), .mv, [(.t 1)], none, []⟩,
 ⟨(some 9), (.bin 0 .mul), [(.t 7), (.t 8)], none, []⟩,
 ⟨(some 10), (.fa 0), [(.t 2)], none, []⟩,
 ⟨(some 11), (.fa 1), [(.t 10)], none, []⟩,
 ⟨(some 12), (.load none), [(.t 11)], none, []⟩,
 ⟨(some 13), .mv, [(.t 1)], none, []⟩,
 ⟨(some 14), (.bin 0 .mul), [(.t 12), (.t 13)], none, []⟩,
 ⟨(some 15), .max, [(.t 9), (.t 14)], none, []⟩,
 ⟨(some 4), .mv, [(.t 15)], none, []⟩] 0 [4])
 .ret)),
 [(.t 4)]⟩
theorem c140 : funC Try.prog [(0, [1, 2]), (1, [4])] Try.f140 = some (unF l140) := by kernel_rfl
/-- slices.Max[[]int,int] -/
def b141_0 : LCode :=
 (.seq
 (.seq
 (.reg true [] [] [
 ⟨(some 12), .mv, [(.t 4)], none, []⟩,
 ⟨(some 13), .mv, [(.t 0)], none, []⟩,
 ⟨(some 14), .len, [(.t 13)], none, []⟩,
 ⟨(some 15), (.bin 0 .lss), [(.t 12), (.t 14)], none, []⟩] 0 [0, 3, 4, 15])
 (.cond (.t 15)
 .skip
 (.exit 0)))
 (.seq
 (.block 1
 (.reg true [] [] [
 ⟨(some 18), .mv, [(.t 3)], none, []⟩,
 ⟨(some 19), .mv, [(.t 0)], none, []⟩,
 ⟨(some 20), .mv, [(.t 4)], none, []⟩,
 ⟨(some 21), (.ixs 1), [(.t 19), (.t 20)], none, []⟩,
 ⟨(some 22), (.load none), [(.t 21)], none, []⟩,
 ⟨(some 23), .max, [(.t 18), (.t 22)], none, []⟩,
 ⟨(some 3), .mv, [(.t 23)], none, []⟩] 0 [0, 3, 4]))
 (.reg true [] [] [
 ⟨(some 16), .mv, [(.t 4)], none, []⟩,
 ⟨(some 17), (.bin 0 .add), [(.t 16), (.c (.int .i64 1))], none, []⟩,
 ⟨(some 4), .mv, [(.t 17)], none, []⟩] 0 [0, 3, 4])))
def l141 : LFun := ⟨1, 25, [],
 (.seq
 (.reg false [] [] [
 ⟨(some 2), .mv, [(.c (.int .i64 0))], none, []⟩] 0 [0])
 (.seq
 (.seq
 (.reg false [] [] [
 ⟨(some 5), .mv, [(.t 0)], none, []⟩,
 ⟨(some 6), .len, [(.t 5)], none, []⟩,
 ⟨(some 7), (.bin 0 .lss), [(.t 6), (.c (.int .i64 1))], none, []⟩] 0 [0, 7])
 (.cond (.t 7)
 (.reg false [] [] [
 ⟨none, .bad, [], none, []⟩,
 ⟨none, .bad, [], none, []⟩] 0 [0])
 .skip))
 (.seq
 (.reg false [] [] [
 ⟨(some 9), .mv, [(.t 0)], none, []⟩,
 ⟨(some 10), (.ixs 1), [(.t 9), (.c (.int .i64 0))], none, []⟩,
 ⟨(some 11), (.load none), [(.t 10)], none, []⟩,
 ⟨(some 3), .mv, [(.t 11)], none, []⟩] 0 [0, 3])
 (.seq
 (.seq
 (.reg false [] [] [
 ⟨(some 4), .mv, [(.c (.int .i64 1))], none, []⟩] 0 [0, 3, 4])
 (.block 0
 (.loop b141_0)))
 (.seq
 (.reg false [] [] [
 ⟨(some 24), .mv, [(.t 3)], none, []⟩,
 ⟨(some 2), .mv, [(.t 24)], none, []⟩] 0 [2])
 .ret))))),
 [(.t 2)]⟩
theorem c141 : funC Try.prog [(0, [0]), (1, [0, 7]), (2, [0]), (3, [0, 3]), (4, [0, 3, 4]), (5, [0, 3, 4, 15]), (6, [0, 3, 4]), (7, [0, 3, 4]), (8, [2])] Try.f141 = some (unF l141) := by kernel_rfl
/-- acme/swap.areNot -/
def l142 : LFun := ⟨1, 5, [],
 (.seq
 (.reg false [] [] [
 ⟨(some 2), .mv, [(.c (.bool false))], none, []⟩] 0 [0])
 (.seq
 (.reg false [] [] [
 ⟨(some 3), .mv, [(.t 0)], none, []⟩,
 ⟨(some 4), (.call false false false), [(.f 197), (.t 3), (.f 198)], none, []⟩,
 ⟨(some 2), .mv, [(.t 4)], none, []⟩] 0 [2])
 .ret)),
 [(.t 2)]⟩
theorem c142 : funC Try.prog [(0, [0]), (1, [2])] Try.f142 = some (unF l142) := by kernel_rfl
/-- (acme/swap.standard).least -/
def l143 : LFun := ⟨3, 25, [],
 (.seq
 (.reg false [3, 4, 5] [3, 4, 5] [
 ⟨(some 3), .box, [(.t 0)], none, []⟩,
 ⟨(some 4), .box, [(.t 1)], none, []⟩,
 ⟨(some 5), .box, [(.t 2)], none, []⟩,
 ⟨(some 6), .mv, [(.c (.int .i64 0))], none, []⟩] 0 [3, 4, 5])
 (.seq
 (.reg false [] [] [
 ⟨(some 7), (.fa 0), [(.t 3)], none, []⟩,
 ⟨(some 8), (.fa 3), [(.t 7)], none, []⟩,
 ⟨(some 9), (.load (some 8)), [(.t 8)], none, []⟩,
 ⟨(some 10), (.fa 0), [(.t 3)], none, []⟩,
 ⟨(some 11), (.fa 11), [(.t 10)], none, []⟩,
 ⟨(some 12), (.fa 1), [(.t 11)], none, []⟩,
 ⟨(some 13), (.load none), [(.t 12)], none, []⟩,
 ⟨(some 14), (.build [(.int .i64 0), (.int .i64 0), (.int .i64 0), (.int .i64 0), (.int .i64 0), (.int .i64 0), (.bool false), (.int .i64 0), (.int .i64 0)] [(0, 8), (8, 1)]), [(.t 9), (.t 13)], none, []⟩,
 ⟨(some 15), (.fa 0), [(.t 4)], none, []⟩,
 ⟨(some 16), (.fa 3), [(.t 15)], none, []⟩,
 ⟨(some 17), (.load (some 8)), [(.t 16)], none, []⟩,
 ⟨(some 18), (.fa 0), [(.t 4)], none, []⟩,
 ⟨(some 19), (.fa 13), [(.t 18)], none, []⟩,
 ⟨(some 20), (.fa 0), [(.t 19)], none, []⟩,
 ⟨(some 21), (.load none), [(.t 20)], none, []⟩,
 ⟨(some 22), (.build [(.int .i64 0), (.int .i64 0), (.int .i64 0), (.int .i64 0), (.int .i64 0), (.int .i64 0), (.bool false), (.int .i64 0), (.int .i64 0)] [(0, 8), (8, 1)]), [(.t 17), (.t 21)], none, []⟩,
 ⟨(some 23), (.load (some 2)), [(.t 5)], none, []⟩,
 ⟨(some 24), (.call false false false), [(.f 71), (.t 14), (.t 22), (.t 23)], none, []⟩,
 ⟨(some 6), .mv, [(.t 24)], none, []⟩] 0 [6])
 .ret)),
 [(.t 6)]⟩
theorem c143 : funC Try.prog [(0, [3, 4, 5]), (1, [6])] Try.f143 = some (unF l143) := by kernel_rfl
/-- (acme/swap.standard).most -/
def l144 : LFun := ⟨3, 25, [],
 (.seq
 (.reg false [3, 4, 5] [3, 4, 5] [
 ⟨(some 3), .box, [(.t 0)], none, []⟩,
 ⟨(some 4), .box, [(.t 1)], none, []⟩,
 ⟨(some 5), .box, [(.t 2)], none, []⟩,
 ⟨(some 6), .mv, [(.c (.int .i64 0))], none, []⟩] 0 [3, 4, 5])
 (.seq
 (.reg false [] [] [
 ⟨(some 7), (.fa 0), [(.t 3)], none, []⟩,
 ⟨(some 8), (.fa 3), [(.t 7)], none, []⟩,
 ⟨(some 9), (.load (some 8)), [(.t 8)], none, []⟩,
 ⟨(some 10), (.fa 0), [(.t 3)], none, []⟩,
 ⟨(some 11), (.fa 11), [(.t 10)], none, []⟩,
 ⟨(some 12), (.fa 0), [(.t 11)], none, []⟩,
 ⟨(some 13), (.load none), [(.t 12)], none, []⟩,
 ⟨(some 14), (.build [(.int .i64 0), (.int .i64 0), (.int .i64 0), (.int .i64 0), (.int .i64 0), (.int .i64 0), (.bool false), (.int .i64 0), (.int .i64 0)] [(0, 8), (8, 1)]), [(.t 9), (.t 13)], none, []⟩,
 ⟨(some 15), (.fa 0), [(.t 4)], none, []⟩,
 ⟨(some 16), (.fa 3), [(.t 15)], none, []⟩,
 ⟨(some 17), (.load (some 8)), [(.t 16)], none, []⟩,
 ⟨(some 18), (.fa 0), [(.t 4)], none, []⟩,
 ⟨(some 19), (.fa 13), [(.t 18)], none, []⟩,
 ⟨(some 20), (.fa 1), [(.t 19)], none, []⟩,
 ⟨(some 21), (.load none), [(.t 20)], none, []⟩,
 ⟨(some 22), (.build [(.int .i64 0), (.int .i64 0), (.int .i64 0), (.int .i64 0), (.int .i64 0), (.int .i64 0), (.bool false), (.int .i64 0), (.int .i64 0)] [(0, 8), (8, 1)]), [(.t 17), (.t 21)], none, []⟩,
 ⟨(some 23), (.load (some 2)), [(.t 5)], none, []⟩,
 ⟨(some 24), (.call false false false), [(.f 71), (.t 14), (.t 22), (.t 23)], none, []⟩,
 ⟨(some 6), .mv, [(.t 24)], none, []⟩] 0 [6])
 .ret)),
 [(.t 6)]⟩
theorem c144 : funC Try.prog [(0, [3, 4, 5]), (1, [6])] Try.f144 = some (unF l144) := by kernel_rfl
/-- (acme/zone.span).isValid -/
def l145 : LFun := ⟨3, 26, [],
 (.seq
 (.reg false [3] [3] [
 ⟨(some 3), .box, [(.t 0)], none, []⟩,
 ⟨(some 6), .mv, [(.c (.bool false))], none, []⟩] 0 [1, 2, 3])
 (.seq
 (.reg false [15] [15] [
 ⟨(some 7), .mv, [(.t 1)], none, []⟩,
 ⟨(some 8), .mv, [(.t 2)], none, []⟩,
 ⟨(some 9), (.fa 0), [(.t 3)], none, []⟩,
 ⟨(some 10), (.fa 0), [(.t 9)], none, []⟩,
 ⟨(some 11), (.load none), [(.t 10)], none, []⟩,
 ⟨(some 12), (.fa 0), [(.t 3)], none, []⟩,
 ⟨(some 13), (.fa 1), [(.t 12)], none, []⟩,
 ⟨(some 14), (.load none), [(.t 13)], none, []⟩,
 ⟨(some 15), (.bsl 1 [(.int .i64 0)] 2 [0, 1]), [(.t 11), (.t 14)], none, []⟩,
 ⟨(some 16), (.call false false false), [(.f 146), (.t 7), (.t 8), (.t 15)], none, []⟩,
 ⟨(some 17), .mv, [(.t 16)], none, []⟩,
 ⟨(some 18), (.fa 0), [(.t 3)], (some (17, true)), []⟩,
 ⟨(some 19), (.fa 0), [(.t 18)], (some (17, true)), []⟩,
 ⟨(some 20), (.load none), [(.t 19)], (some (17, true)), []⟩,
 ⟨(some 21), (.fa 0), [(.t 3)], (some (17, true)), []⟩,
 ⟨(some 22), (.fa 1), [(.t 21)], (some (17, true)), []⟩,
 ⟨(some 23), (.load none), [(.t 22)], (some (17, true)), []⟩,
 ⟨(some 24), (.bin 0 .leq), [(.t 20), (.t 23)], (some (17, true)), []⟩,
 ⟨(some 25), .pick, [(.t 17), (.t 24), (.c (.bool false))], none, []⟩,
 ⟨(some 6), .mv, [(.t 25)], none, []⟩] 0 [6])
 .ret)),
 [(.t 6)]⟩
theorem c145 : funC Try.prog [(0, [1, 2, 3]), (1, [6])] Try.f145 = some (unF l145) := by kernel_rfl
/-- acme/zone.within -/
def l146 : LFun := ⟨3, 11, [],
 (.seq
 (.reg false [3, 4] [3, 4] [
 ⟨(some 3), .box, [(.t 0)], none, []⟩,
 ⟨(some 4), .box, [(.t 1)], none, []⟩,
 ⟨(some 6), .mv, [(.c (.bool false))], none, []⟩] 0 [2, 3, 4])
 (.seq
 (.reg false [] [] [
 ⟨(some 7), .mv, [(.t 2)], none, []⟩,
 ⟨(some 8), (.mkf 200), [(.t 3), (.t 4)], none, []⟩,
 ⟨(some 9), (.call false false false), [(.f 132), (.t 7), (.t 8)], none, []⟩,
 ⟨(some 10), (.un .not), [(.t 9)], none, []⟩,
 ⟨(some 6), .mv, [(.t 10)], none, []⟩] 0 [3, 4, 6])
 .ret)),
 [(.t 6)]⟩
theorem c146 : funC Try.prog [(0, [2, 3, 4]), (1, [3, 4, 6])] Try.f146 = some (unF l146) := by kernel_rfl
/-- acme/zone.sorted -/
def b147_0 : LCode :=
 (.seq
 (.reg true [] [] [
 ⟨(some 14), (.bin 0 .lss), [(.t 13), (.t 12)], none, []⟩] 0 [2, 4, 5, 7, 12, 13, 14])
 (.seq
 (.cond (.t 14)
 .skip
 (.exit 0))
 (.seq
 (.block 1
 (.seq
 (.reg true [] [] [
 ⟨(some 15), .mv, [(.t 13)], none, []⟩,
 ⟨(some 9), .mv, [(.t 15)], none, []⟩] 0 [2, 4, 5, 7, 9, 12, 13])
 (.seq
 (.reg true [10, 11] [10, 11] [
 ⟨(some 16), (.load (some 2)), [(.t 4)], none, [17, 18, 20, 21, 22, 10, 11]⟩,
 ⟨(some 17), .mv, [(.t 9)], none, [16, 18, 20, 21, 22, 10, 11]⟩,
 ⟨(some 18), .mv, [(.t 2)], none, [16, 17, 20, 21, 22, 10, 11]⟩,
 ⟨(some 19), (.call true false false), [(.f 201), (.t 16), (.t 17), (.t 18)], none, [20, 21, 22, 10, 11]⟩,
 ⟨(some 20), (.load (some 2)), [(.t 5)], none, [16, 17, 18, 19, 21, 22, 10, 11]⟩,
 ⟨(some 21), .mv, [(.t 9)], none, [16, 17, 18, 19, 20, 22, 10, 11]⟩,
 ⟨(some 22), .mv, [(.t 2)], none, [16, 17, 18, 19, 20, 21, 10, 11]⟩,
 ⟨(some 23), (.call false false false), [(.f 201), (.t 20), (.t 21), (.t 22)], none, [10, 11]⟩,
 ⟨(some 10), (.alloc [(.int .i64 0), (.int .i64 0)]), [], none, [16, 17, 18, 19, 20, 21, 22, 23, 11]⟩,
 ⟨(some 11), (.alloc [(.int .i64 0), (.int .i64 0)]), [], none, [16, 17, 18, 19, 20, 21, 22, 23, 10]⟩,
 ⟨none, (.store 2 (some 10)), [(.t 10), (.t 19)], none, []⟩,
 ⟨none, (.store 2 (some 11)), [(.t 11), (.t 23)], none, []⟩] 0 [2, 4, 5, 7, 10, 11, 12, 13])
 (.seq
 (.reg true [] [] [
 ⟨(some 24), (.fa 0), [(.t 10)], none, [27, 28, 29]⟩,
 ⟨(some 25), (.fa 0), [(.t 24)], none, [27, 28, 29]⟩,
 ⟨(some 26), (.load none), [(.t 25)], none, [27, 28, 29]⟩,
 ⟨(some 27), (.fa 0), [(.t 10)], none, [24, 25, 26]⟩,
 ⟨(some 28), (.fa 1), [(.t 27)], none, [24, 25, 26]⟩,
 ⟨(some 29), (.load none), [(.t 28)], none, [24, 25, 26]⟩,
 ⟨(some 30), (.bin 0 .gtr), [(.t 26), (.t 29)], none, []⟩,
 ⟨(some 31), .mv, [(.t 30)], none, []⟩,
 ⟨(some 32), (.fa 0), [(.t 11)], (some (31, false)), [35, 36, 37]⟩,
 ⟨(some 33), (.fa 0), [(.t 32)], (some (31, false)), [35, 36, 37]⟩,
 ⟨(some 34), (.load none), [(.t 33)], (some (31, false)), [35, 36, 37]⟩,
 ⟨(some 35), (.fa 0), [(.t 11)], (some (31, false)), [32, 33, 34]⟩,
 ⟨(some 36), (.fa 1), [(.t 35)], (some (31, false)), [32, 33, 34]⟩,
 ⟨(some 37), (.load none), [(.t 36)], (some (31, false)), [32, 33, 34]⟩,
 ⟨(some 38), (.bin 0 .gtr), [(.t 34), (.t 37)], (some (31, false)), []⟩,
 ⟨(some 39), .pick, [(.t 31), (.c (.bool true)), (.t 38)], none, []⟩,
 ⟨(some 40), .mv, [(.t 39)], none, []⟩,
 ⟨(some 41), (.load (some 2)), [(.t 10)], (some (40, false)), [42, 44]⟩,
 ⟨(some 42), (.load (some 2)), [(.t 11)], (some (40, false)), [41, 44]⟩,
 ⟨(some 43), (.call true false false), [(.f 175), (.t 41), (.t 42)], (some (40, false)), [44]⟩,
 ⟨(some 44), (.load (some 2)), [(.t 7)], (some (40, false)), [41, 42, 43]⟩,
 ⟨(some 45), (.call false false false), [(.f 202), (.t 43), (.t 44)], (some (40, false)), []⟩,
 ⟨(some 46), (.un .not), [(.t 45)], (some (40, false)), []⟩,
 ⟨(some 47), .pick, [(.t 40), (.c (.bool true)), (.t 46)], none, []⟩] 0 [2, 4, 5, 7, 12, 13, 47])
 (.cond (.t 47)
 (.seq
 (.reg true [] [] [
 ⟨(some 8), .mv, [(.c (.bool false))], none, []⟩] 0 [8])
 .ret)
 .skip)))))
 (.reg true [] [] [
 ⟨(some 48), (.bin 0 .add), [(.t 13), (.c (.int .i64 1))], none, []⟩,
 ⟨(some 13), .mv, [(.t 48)], none, []⟩] 0 [2, 4, 5, 7, 12, 13]))))
def l147 : LFun := ⟨4, 49, [],
 (.seq
 (.reg false [4, 5, 7] [4, 5, 7] [
 ⟨(some 4), .box, [(.t 0)], none, []⟩,
 ⟨(some 5), .box, [(.t 1)], none, []⟩,
 ⟨(some 7), .box, [(.t 3)], none, []⟩,
 ⟨(some 8), .mv, [(.c (.bool false))], none, []⟩] 0 [2, 4, 5, 7])
 (.seq
 (.seq
 (.reg false [] [] [
 ⟨(some 12), .mv, [(.t 2)], none, []⟩,
 ⟨(some 13), .mv, [(.c (.int .i64 0))], none, []⟩] 0 [2, 4, 5, 7, 12, 13])
 (.block 0
 (.loop b147_0)))
 (.seq
 (.reg false [] [] [
 ⟨(some 8), .mv, [(.c (.bool true))], none, []⟩] 0 [8])
 .ret))),
 [(.t 8)]⟩
theorem c147 : funC Try.prog [(0, [2, 4, 5, 7]), (1, [2, 4, 5, 7, 12, 13]), (2, [2, 4, 5, 7, 12, 13, 14]), (3, [2, 4, 5, 7, 9, 12, 13]), (4, [2, 4, 5, 7, 10, 11, 12, 13]), (5, [2, 4, 5, 7, 12, 13, 47]), (6, [8]), (7, [2, 4, 5, 7, 12, 13]), (8, [8])] Try.f147 = some (unF l147) := by kernel_rfl
/-- acme/thread.within$1 -/
def l158 : LFun := ⟨3, 13, [],
 (.seq
 (.reg false [] [] [
 ⟨(some 4), .mv, [(.c (.bool false))], none, []⟩] 0 [0, 1, 2])
 (.seq
 (.reg false [] [] [
 ⟨(some 5), .mv, [(.t 0)], none, []⟩,
 ⟨(some 6), (.load none), [(.t 1)], none, []⟩,
 ⟨(some 7), (.bin 0 .lss), [(.t 5), (.t 6)], none, []⟩,
 ⟨(some 8), .mv, [(.t 7)], none, []⟩,
 ⟨(some 9), .mv, [(.t 0)], (some (8, false)), []⟩,
 ⟨(some 10), (.load none), [(.t 2)], (some (8, false)), []⟩,
 ⟨(some 11), (.bin 0 .gtr), [(.t 9), (.t 10)], (some (8, false)), []⟩,
 ⟨(some 12), .pick, [(.t 8), (.c (.bool true)), (.t 11)], none, []⟩,
 ⟨(some 4), .mv, [(.t 12)], none, []⟩] 0 [4])
 .ret)),
 [(.t 4)]⟩
theorem c158 : funC Try.prog [(0, [0, 1, 2]), (1, [4])] Try.f158 = some (unF l158) := by kernel_rfl
/-- (acme/thread.form).leans -/
def l169 : LFun := ⟨1, 10, [],
 (.seq
 (.reg false [1] [1] [
 ⟨(some 1), .box, [(.t 0)], none, []⟩,
 ⟨(some 2), .mv, [(.c (.int .i64 0))], none, []⟩] 0 [1])
 (.seq
 (.reg false [] [] [
 ⟨(some 3), (.fa 0), [(.t 1)], none, []⟩,
 ⟨(some 4), (.fa 1), [(.t 3)], none, []⟩,
 ⟨(some 5), (.load none), [(.t 4)], none, []⟩,
 ⟨(some 6), (.fa 0), [(.t 1)], none, []⟩,
 ⟨(some 7), (.fa 2), [(.t 6)], none, []⟩,
 ⟨(some 8), (.load none), [(.t 7)], none, []⟩,
 ⟨(some 9), (.bin 0 .add), [(.t 5), (.t 8)], none, []⟩,
 ⟨(some 2), .mv, [(.t 9)], none, []⟩] 0 [2])
 .ret)),
 [(.t 2)]⟩
theorem c169 : funC Try.prog [(0, [1]), (1, [2])] Try.f169 = some (unF l169) := by kernel_rfl
/-- acme/zone.Check -/
def b172_0 : LCode :=
 (.seq
 (.reg true [] [] [
 ⟨(some 29), (.bin 0 .lss), [(.t 28), (.c (.int .i64 2))], none, []⟩] 0 [1, 27, 28, 29])
 (.seq
 (.cond (.t 29)
 .skip
 (.exit 0))
 (.seq
 (.block 1
 (.seq
 (.reg true [] [] [
 ⟨(some 30), (.idx 2 1 none), [(.t 27), (.t 28)], none, []⟩,
 ⟨(some 4), .mv, [(.t 30)], none, []⟩] 0 [1, 4, 27, 28])
 (.seq
 (.reg true [] [] [
 ⟨(some 31), .mv, [(.t 4)], none, []⟩,
 ⟨(some 32), (.mkf 214), [(.t 1)], none, []⟩,
 ⟨(some 33), (.call false false false), [(.f 213), (.t 31), (.t 32)], none, []⟩] 0 [1, 27, 28, 33])
 (.cond (.t 33)
 (.seq
 (.reg true [] [] [
 ⟨(some 2), .mv, [(.c (.int .i64 4))], none, []⟩] 0 [1, 2])
 .ret)
 .skip))))
 (.reg true [] [] [
 ⟨(some 34), (.bin 0 .add), [(.t 28), (.c (.int .i64 1))], none, []⟩,
 ⟨(some 28), .mv, [(.t 34)], none, []⟩] 0 [1, 27, 28]))))
def b172_1 : LCode :=
 (.seq
 (.reg true [] [] [
 ⟨(some 39), (.bin 0 .lss), [(.t 38), (.t 37)], none, []⟩] 0 [1, 5, 36, 37, 38, 39])
 (.seq
 (.cond (.t 39)
 .skip
 (.exit 2))
 (.seq
 (.block 3
 (.seq
 (.reg true [] [] [
 ⟨(some 40), (.ixs 1), [(.t 36), (.t 38)], none, []⟩,
 ⟨(some 41), (.load none), [(.t 40)], none, []⟩,
 ⟨(some 7), .mv, [(.t 41)], none, []⟩] 0 [1, 5, 7, 36, 37, 38])
 (.seq
 (.seq
 (.reg true [44] [44] [
 ⟨(some 42), .mv, [(.t 5)], none, []⟩,
 ⟨(some 43), .mv, [(.t 7)], none, []⟩,
 ⟨(some 44), (.bsl 1 [(.int .i64 0)] 1 [0]), [(.t 43)], none, []⟩,
 ⟨(some 45), (.call false false false), [(.f 146), (.t 42), (.c (.int .i64 10000000)), (.t 44)], none, []⟩,
 ⟨(some 46), (.un .not), [(.t 45)], none, []⟩] 0 [1, 7, 36, 37, 38, 46])
 (.cond (.t 46)
 (.seq
 (.reg true [] [] [
 ⟨(some 2), .mv, [(.c (.int .i64 2))], none, []⟩] 0 [1, 2])
 .ret)
 .skip))
 (.reg true [] [] [
 ⟨(some 47), .mv, [(.t 7)], none, []⟩,
 ⟨(some 48), (.bin 0 .add), [(.t 47), (.c (.int .i64 1))], none, []⟩,
 ⟨(some 5), .mv, [(.t 48)], none, []⟩] 0 [1, 5, 36, 37, 38]))))
 (.reg true [] [] [
 ⟨(some 49), (.bin 0 .add), [(.t 38), (.c (.int .i64 1))], none, []⟩,
 ⟨(some 38), .mv, [(.t 49)], none, []⟩] 0 [1, 5, 36, 37, 38]))))
def l172 : LFun := ⟨1, 74, [],
 (.seq
 (.reg false [1] [1] [
 ⟨(some 1), .box, [(.t 0)], none, []⟩,
 ⟨(some 2), .mv, [(.c (.int .i64 0))], none, []⟩] 0 [1])
 (.seq
 (.seq
 (.reg false [] [] [
 ⟨(some 10), (.fa 0), [(.t 1)], none, []⟩,
 ⟨(some 11), (.load none), [(.t 10)], none, []⟩,
 ⟨(some 12), (.call false false false), [(.f 211), (.t 11), (.c (.int .i64 20))], none, []⟩,
 ⟨(some 13), .mv, [(.t 12)], none, []⟩,
 ⟨(some 14), (.fa 1), [(.t 1)], (some (13, false)), []⟩,
 ⟨(some 15), (.load none), [(.t 14)], (some (13, false)), []⟩,
 ⟨(some 16), (.call false false false), [(.f 212), (.t 15), (.c (.int .i64 12))], (some (13, false)), []⟩,
 ⟨(some 17), .pick, [(.t 13), (.c (.bool true)), (.t 16)], none, []⟩,
 ⟨(some 18), .mv, [(.t 17)], none, []⟩,
 ⟨(some 19), (.fa 2), [(.t 1)], (some (18, false)), []⟩,
 ⟨(some 20), (.load none), [(.t 19)], (some (18, false)), []⟩,
 ⟨(some 21), (.call false false false), [(.f 212), (.t 20), (.c (.int .i64 12))], (some (18, false)), []⟩,
 ⟨(some 22), .pick, [(.t 18), (.c (.bool true)), (.t 21)], none, []⟩] 0 [1, 22])
 (.cond (.t 22)
 (.seq
 (.reg false [] [] [
 ⟨(some 2), .mv, [(.c (.int .i64 5))], none, []⟩] 0 [1, 2])
 .ret)
 .skip))
 (.seq
 (.seq
 (.reg false [] [] [
 ⟨(some 23), (.fa 1), [(.t 1)], none, []⟩,
 ⟨(some 24), (.load none), [(.t 23)], none, []⟩,
 ⟨(some 25), (.fa 2), [(.t 1)], none, []⟩,
 ⟨(some 26), (.load none), [(.t 25)], none, []⟩,
 ⟨(some 27), (.build [(.sl none 1 []), (.sl none 1 [])] [(0, 1), (1, 1)]), [(.t 24), (.t 26)], none, []⟩,
 ⟨(some 28), .mv, [(.c (.int .i64 0))], none, []⟩] 0 [1, 27, 28])
 (.block 0
 (.loop b172_0)))
 (.seq
 (.reg false [] [] [
 ⟨(some 5), .mv, [(.c (.int .i64 1))], none, []⟩] 0 [1, 5])
 (.seq
 (.seq
 (.reg false [] [] [
 ⟨(some 35), (.fa 0), [(.t 1)], none, []⟩,
 ⟨(some 36), (.load none), [(.t 35)], none, []⟩,
 ⟨(some 37), .len, [(.t 36)], none, []⟩,
 ⟨(some 38), .mv, [(.c (.int .i64 0))], none, []⟩] 0 [1, 5, 36, 37, 38])
 (.block 2
 (.loop b172_1)))
 (.seq
 (.reg false [52, 55] [52, 55] [
 ⟨(some 50), (.fa 1), [(.t 1)], none, [53, 54]⟩,
 ⟨(some 51), (.load none), [(.t 50)], none, [53, 54]⟩,
 ⟨(some 52), (.call true false true), [(.f 215), (.t 51)], none, [53, 54]⟩,
 ⟨(some 53), (.fa 2), [(.t 1)], none, [50, 51, 52]⟩,
 ⟨(some 54), (.load none), [(.t 53)], none, [50, 51, 52]⟩,
 ⟨(some 55), (.call false false true), [(.f 215), (.t 54)], none, []⟩,
 ⟨(some 8), .mv, [(.t 52)], none, []⟩,
 ⟨(some 9), .mv, [(.t 55)], none, []⟩] 0 [1, 8, 9])
 (.seq
 (.seq
 (.reg false [] [] [
 ⟨(some 56), .mv, [(.t 8)], none, []⟩,
 ⟨(some 57), .len, [(.t 56)], none, []⟩,
 ⟨(some 58), (.bin 0 .eql), [(.t 57), (.c (.int .i64 0))], none, []⟩,
 ⟨(some 59), .mv, [(.t 58)], none, []⟩,
 ⟨(some 60), .mv, [(.t 9)], (some (59, false)), []⟩,
 ⟨(some 61), .len, [(.t 60)], (some (59, false)), []⟩,
 ⟨(some 62), (.bin 0 .eql), [(.t 61), (.c (.int .i64 0))], (some (59, false)), []⟩,
 ⟨(some 63), .pick, [(.t 59), (.c (.bool true)), (.t 62)], none, []⟩,
 ⟨(some 64), .mv, [(.t 63)], none, []⟩,
 ⟨(some 65), .mv, [(.t 8)], (some (64, false)), []⟩,
 ⟨(some 66), (.call false false false), [(.f 146), (.c (.int .i64 0)), (.c (.int .i64 100000)), (.t 65)], (some (64, false)), []⟩,
 ⟨(some 67), (.un .not), [(.t 66)], (some (64, false)), []⟩,
 ⟨(some 68), .pick, [(.t 64), (.c (.bool true)), (.t 67)], none, []⟩,
 ⟨(some 69), .mv, [(.t 68)], none, []⟩,
 ⟨(some 70), .mv, [(.t 9)], (some (69, false)), []⟩,
 ⟨(some 71), (.call false false false), [(.f 146), (.c (.int .i64 (-100000))), (.c (.int .i64 100000)), (.t 70)], (some (69, false)), []⟩,
 ⟨(some 72), (.un .not), [(.t 71)], (some (69, false)), []⟩,
 ⟨(some 73), .pick, [(.t 69), (.c (.bool true)), (.t 72)], none, []⟩] 0 [1, 73])
 (.cond (.t 73)
 (.seq
 (.reg false [] [] [
 ⟨(some 2), .mv, [(.c (.int .i64 2))], none, []⟩] 0 [1, 2])
 .ret)
 .skip))
 (.seq
 (.reg false [] [] [
 ⟨(some 2), .mv, [(.c (.int .i64 0))], none, []⟩] 0 [1, 2])
 .ret)))))))),
 [(.t 2)]⟩
theorem c172 : funC Try.prog [(0, [1]), (1, [1, 22]), (2, [1, 2]), (3, [1, 27, 28]), (4, [1, 27, 28, 29]), (5, [1, 4, 27, 28]), (6, [1, 27, 28, 33]), (7, [1, 2]), (8, [1, 27, 28]), (9, [1, 5]), (10, [1, 5, 36, 37, 38]), (11, [1, 5, 36, 37, 38, 39]), (12, [1, 5, 7, 36, 37, 38]), (13, [1, 7, 36, 37, 38, 46]), (14, [1, 2]), (15, [1, 5, 36, 37, 38]), (16, [1, 5, 36, 37, 38]), (17, [1, 8, 9]), (18, [1, 73]), (19, [1, 2]), (20, [1, 2])] Try.f172 = some (unF l172) := by kernel_rfl
/-- (acme/zone.table).isClass -/
def l173 : LFun := ⟨2, 25, [],
 (.seq
 (.reg false [2, 3] [2, 3] [
 ⟨(some 2), .box, [(.t 0)], none, []⟩,
 ⟨(some 3), .box, [(.t 1)], none, []⟩,
 ⟨(some 4), .mv, [(.c (.bool false))], none, []⟩] 0 [2, 3])
 (.seq
 (.reg false [12, 22] [12, 22] [
 ⟨(some 5), (.fa 0), [(.t 2)], none, []⟩,
 ⟨(some 6), (.fa 2), [(.t 5)], none, []⟩,
 ⟨(some 7), (.load none), [(.t 6)], none, []⟩,
 ⟨(some 8), .len, [(.t 7)], none, []⟩,
 ⟨(some 9), (.bin 0 .sub), [(.t 8), (.c (.int .i64 1))], none, []⟩,
 ⟨(some 10), (.fa 0), [(.t 3)], none, []⟩,
 ⟨(some 11), (.load none), [(.t 10)], none, []⟩,
 ⟨(some 12), (.bsl 1 [(.int .i64 0)] 1 [0]), [(.t 11)], none, []⟩,
 ⟨(some 13), (.call false false false), [(.f 146), (.c (.int .i64 0)), (.t 9), (.t 12)], none, []⟩,
 ⟨(some 14), .mv, [(.t 13)], none, []⟩,
 ⟨(some 15), (.fa 0), [(.t 2)], (some (14, true)), []⟩,
 ⟨(some 16), (.fa 1), [(.t 15)], (some (14, true)), []⟩,
 ⟨(some 17), (.load none), [(.t 16)], (some (14, true)), []⟩,
 ⟨(some 18), .len, [(.t 17)], (some (14, true)), []⟩,
 ⟨(some 19), (.bin 0 .sub), [(.t 18), (.c (.int .i64 1))], (some (14, true)), []⟩,
 ⟨(some 20), (.fa 1), [(.t 3)], (some (14, true)), []⟩,
 ⟨(some 21), (.load none), [(.t 20)], (some (14, true)), []⟩,
 ⟨(some 22), (.bsl 1 [(.int .i64 0)] 1 [0]), [(.t 21)], (some (14, true)), []⟩,
 ⟨(some 23), (.call false false false), [(.f 146), (.c (.int .i64 0)), (.t 19), (.t 22)], (some (14, true)), []⟩,
 ⟨(some 24), .pick, [(.t 14), (.t 23), (.c (.bool false))], none, []⟩,
 ⟨(some 4), .mv, [(.t 24)], none, []⟩] 0 [4])
 .ret)),
 [(.t 4)]⟩
theorem c173 : funC Try.prog [(0, [2, 3]), (1, [4])] Try.f173 = some (unF l173) := by kernel_rfl
/-- (acme/zone.table).step -/
def l174 : LFun := ⟨2, 19, [],
 (.seq
 (.reg false [2, 3] [2, 3] [
 ⟨(some 2), .box, [(.t 0)], none, []⟩,
 ⟨(some 3), .box, [(.t 1)], none, []⟩,
 ⟨(some 4), .mv, [(.c (.int .i64 0))], none, []⟩,
 ⟨(some 5), .mv, [(.c (.int .i64 0))], none, []⟩] 0 [2, 3])
 (.seq
 (.reg false [] [] [
 ⟨(some 7), (.fa 0), [(.t 2)], none, []⟩,
 ⟨(some 8), (.fa 0), [(.t 7)], none, []⟩,
 ⟨(some 9), (.load none), [(.t 8)], none, []⟩,
 ⟨(some 10), (.mkf 216), [(.t 3)], none, []⟩,
 ⟨(some 11), (.call false false false), [(.f 193), (.t 9), (.t 10)], none, []⟩,
 ⟨(some 6), .mv, [(.t 11)], none, []⟩] 0 [3, 6])
 (.seq
 (.seq
 (.reg false [] [] [
 ⟨(some 12), (.load none), [(.t 3)], none, []⟩,
 ⟨(some 13), (.bin 0 .lss), [(.t 12), (.c (.int .i64 1))], none, []⟩,
 ⟨(some 14), .mv, [(.t 13)], none, []⟩,
 ⟨(some 15), .mv, [(.t 6)], (some (14, false)), []⟩,
 ⟨(some 16), (.bin 0 .lss), [(.t 15), (.c (.int .i64 0))], (some (14, false)), []⟩,
 ⟨(some 17), .pick, [(.t 14), (.c (.bool true)), (.t 16)], none, []⟩] 0 [3, 6, 17])
 (.cond (.t 17)
 (.seq
 (.reg false [] [] [
 ⟨(some 4), .mv, [(.c (.int .i64 0))], none, []⟩,
 ⟨(some 5), .mv, [(.c (.int .i64 3))], none, []⟩] 0 [3, 4, 5])
 .ret)
 .skip))
 (.seq
 (.reg false [] [] [
 ⟨(some 18), .mv, [(.t 6)], none, []⟩,
 ⟨(some 4), .mv, [(.t 18)], none, []⟩,
 ⟨(some 5), .mv, [(.c (.int .i64 0))], none, []⟩] 0 [3, 4, 5])
 .ret)))),
 [(.t 4), (.t 5)]⟩
theorem c174 : funC Try.prog [(0, [2, 3]), (1, [3, 6]), (2, [3, 6, 17]), (3, [3, 4, 5]), (4, [3, 4, 5])] Try.f174 = some (unF l174) := by kernel_rfl
/-- acme/zone.play -/
def l175 : LFun := ⟨2, 21, [],
 (.seq
 (.reg false [2, 3, 4] [2, 3, 4] [
 ⟨(some 2), .box, [(.t 0)], none, []⟩,
 ⟨(some 3), .box, [(.t 1)], none, []⟩,
 ⟨(some 4), (.alloc [(.int .i64 0), (.int .i64 0)]), [], none, []⟩] 0 [2, 3, 4])
 (.seq
 (.reg false [] [] [
 ⟨(some 5), (.fa 0), [(.t 3)], none, []⟩,
 ⟨(some 6), (.fa 0), [(.t 5)], none, []⟩,
 ⟨(some 7), (.load none), [(.t 6)], none, []⟩,
 ⟨(some 8), (.fa 0), [(.t 2)], none, []⟩,
 ⟨(some 9), (.fa 1), [(.t 8)], none, []⟩,
 ⟨(some 10), (.load none), [(.t 9)], none, []⟩,
 ⟨(some 11), (.bin 0 .sub), [(.t 7), (.t 10)], none, []⟩,
 ⟨(some 12), (.fa 0), [(.t 3)], none, []⟩,
 ⟨(some 13), (.fa 1), [(.t 12)], none, []⟩,
 ⟨(some 14), (.load none), [(.t 13)], none, []⟩,
 ⟨(some 15), (.fa 0), [(.t 2)], none, []⟩,
 ⟨(some 16), (.fa 0), [(.t 15)], none, []⟩,
 ⟨(some 17), (.load none), [(.t 16)], none, []⟩,
 ⟨(some 18), (.bin 0 .sub), [(.t 14), (.t 17)], none, []⟩,
 ⟨(some 19), (.build [(.int .i64 0), (.int .i64 0)] [(0, 1), (1, 1)]), [(.t 11), (.t 18)], none, []⟩,
 ⟨(some 20), (.build [(.int .i64 0), (.int .i64 0)] [(0, 2)]), [(.t 19)], none, []⟩,
 ⟨none, (.store 2 none), [(.t 4), (.t 20)], none, []⟩] 0 [4])
 .ret)),
 [(.c 4 (some 2))]⟩
theorem c175 : funC Try.prog [(0, [2, 3, 4]), (1, [4])] Try.f175 = some (unF l175) := by kernel_rfl
/-- acme/fit.within$1 -/
def l183 : LFun := ⟨3, 13, [],
 (.seq
 (.reg false [] [] [
 ⟨(some 4), .mv, [(.c (.bool false))], none, []⟩] 0 [0, 1, 2])
 (.seq
 (.reg false [] [] [
 ⟨(some 5), .mv, [(.t 0)], none, []⟩,
 ⟨(some 6), (.load none), [(.t 1)], none, []⟩,
 ⟨(some 7), (.bin 0 .lss), [(.t 5), (.t 6)], none, []⟩,
 ⟨(some 8), .mv, [(.t 7)], none, []⟩,
 ⟨(some 9), .mv, [(.t 0)], (some (8, false)), []⟩,
 ⟨(some 10), (.load none), [(.t 2)], (some (8, false)), []⟩,
 ⟨(some 11), (.bin 0 .gtr), [(.t 9), (.t 10)], (some (8, false)), []⟩,
 ⟨(some 12), .pick, [(.t 8), (.c (.bool true)), (.t 11)], none, []⟩,
 ⟨(some 4), .mv, [(.t 12)], none, []⟩] 0 [4])
 .ret)),
 [(.t 4)]⟩
theorem c183 : funC Try.prog [(0, [0, 1, 2]), (1, [4])] Try.f183 = some (unF l183) := by kernel_rfl
/-- acme/fit.isSpan -/
def l184 : LFun := ⟨3, 22, [],
 (.seq
 (.reg false [3] [3] [
 ⟨(some 3), .box, [(.t 0)], none, []⟩,
 ⟨(some 6), .mv, [(.c (.bool false))], none, []⟩] 0 [1, 2, 3])
 (.seq
 (.reg false [19] [19] [
 ⟨(some 7), (.fa 0), [(.t 3)], none, []⟩,
 ⟨(some 8), (.load none), [(.t 7)], none, []⟩,
 ⟨(some 9), (.fa 1), [(.t 3)], none, []⟩,
 ⟨(some 10), (.load none), [(.t 9)], none, []⟩,
 ⟨(some 11), (.bin 0 .leq), [(.t 8), (.t 10)], none, []⟩,
 ⟨(some 12), .mv, [(.t 11)], none, []⟩,
 ⟨(some 13), .mv, [(.t 1)], (some (12, true)), []⟩,
 ⟨(some 14), .mv, [(.t 2)], (some (12, true)), []⟩,
 ⟨(some 15), (.fa 0), [(.t 3)], (some (12, true)), []⟩,
 ⟨(some 16), (.load none), [(.t 15)], (some (12, true)), []⟩,
 ⟨(some 17), (.fa 1), [(.t 3)], (some (12, true)), []⟩,
 ⟨(some 18), (.load none), [(.t 17)], (some (12, true)), []⟩,
 ⟨(some 19), (.bsl 1 [(.int .i64 0)] 2 [0, 1]), [(.t 16), (.t 18)], (some (12, true)), []⟩,
 ⟨(some 20), (.call false false false), [(.f 114), (.t 13), (.t 14), (.t 19)], (some (12, true)), []⟩,
 ⟨(some 21), .pick, [(.t 12), (.t 20), (.c (.bool false))], none, []⟩,
 ⟨(some 6), .mv, [(.t 21)], none, []⟩] 0 [6])
 .ret)),
 [(.t 6)]⟩
theorem c184 : funC Try.prog [(0, [1, 2, 3]), (1, [6])] Try.f184 = some (unF l184) := by kernel_rfl
/-- (acme/fit.heights).needs -/
def l185 : LFun := ⟨5, 40, [],
 (.seq
 (.reg false [5, 6, 7, 8, 9, 10] [5, 6, 7, 8, 9, 10] [
 ⟨(some 5), .box, [(.t 0)], none, []⟩,
 ⟨(some 6), .box, [(.t 1)], none, []⟩,
 ⟨(some 7), .box, [(.t 2)], none, []⟩,
 ⟨(some 8), .box, [(.t 3)], none, []⟩,
 ⟨(some 9), .box, [(.t 4)], none, []⟩,
 ⟨(some 10), (.alloc [(.int .i64 0), (.int .i64 0)]), [], none, []⟩] 0 [5, 6, 7, 8, 9, 10])
 (.seq
 (.reg false [] [] [
 ⟨(some 11), (.fa 0), [(.t 7)], none, [13, 14, 17, 18, 19, 20, 21, 22, 23, 25, 26, 27, 28, 29, 30, 31, 32, 33, 34, 35, 36, 37, 38]⟩,
 ⟨(some 12), (.load none), [(.t 11)], none, [13, 14, 17, 18, 19, 20, 21, 22, 23, 25, 26, 27, 28, 29, 30, 31, 32, 33, 34, 35, 36, 37, 38]⟩,
 ⟨(some 13), (.fa 0), [(.t 6)], none, [11, 12, 17, 18, 19, 20, 21, 22, 23, 25, 26, 27, 28, 29, 30, 31, 32, 33, 34, 35, 36, 37, 38]⟩,
 ⟨(some 14), (.load none), [(.t 13)], none, [11, 12, 17, 18, 19, 20, 21, 22, 23, 25, 26, 27, 28, 29, 30, 31, 32, 33, 34, 35, 36, 37, 38]⟩,
 ⟨(some 15), (.bin 0 .sub), [(.t 12), (.t 14)], none, [17, 18, 19, 20, 21, 22, 23, 25, 26, 27, 28, 29, 30, 31, 32, 33, 34, 35, 36, 37, 38]⟩,
 ⟨(some 16), (.bin 0 .mul), [(.c (.int .i64 1000)), (.t 15)], none, [17, 18, 19, 20, 21, 22, 23, 25, 26, 27, 28, 29, 30, 31, 32, 33, 34, 35, 36, 37, 38]⟩,
 ⟨(some 17), (.load (some 2)), [(.t 5)], none, [11, 12, 13, 14, 15, 16, 18, 19, 20, 21, 22, 25, 26, 27, 28, 29, 30, 31, 32, 33, 34, 35, 36]⟩,
 ⟨(some 18), (.fa 1), [(.t 9)], none, [11, 12, 13, 14, 15, 16, 17, 20, 21, 25, 26, 27, 28, 29, 30, 31, 32, 33, 34, 35, 36]⟩,
 ⟨(some 19), (.load none), [(.t 18)], none, [11, 12, 13, 14, 15, 16, 17, 20, 21, 25, 26, 27, 28, 29, 30, 31, 32, 33, 34, 35, 36]⟩,
 ⟨(some 20), (.fa 1), [(.t 8)], none, [11, 12, 13, 14, 15, 16, 17, 18, 19, 25, 26, 27, 28, 29, 30, 31, 32, 33, 34, 35, 36]⟩,
 ⟨(some 21), (.load none), [(.t 20)], none, [11, 12, 13, 14, 15, 16, 17, 18, 19, 25, 26, 27, 28, 29, 30, 31, 32, 33, 34, 35, 36]⟩,
 ⟨(some 22), (.bin 0 .sub), [(.t 19), (.t 21)], none, [11, 12, 13, 14, 15, 16, 17, 25, 26, 27, 28, 29, 30, 31, 32, 33, 34, 35, 36]⟩,
 ⟨(some 23), (.call true false false), [(.f 140), (.t 17), (.t 22)], none, [11, 12, 13, 14, 15, 16, 25, 26, 27, 28, 29, 30, 31, 32, 33, 34, 35, 36]⟩,
 ⟨(some 24), (.bin 0 .add), [(.t 16), (.t 23)], none, [25, 26, 27, 28, 29, 30, 31, 32, 33, 34, 35, 36, 37, 38]⟩,
 ⟨(some 25), (.fa 1), [(.t 7)], none, [11, 12, 13, 14, 15, 16, 17, 18, 19, 20, 21, 22, 23, 24, 27, 28, 31, 32, 33, 34, 35, 36, 37]⟩,
 ⟨(some 26), (.load none), [(.t 25)], none, [11, 12, 13, 14, 15, 16, 17, 18, 19, 20, 21, 22, 23, 24, 27, 28, 31, 32, 33, 34, 35, 36, 37]⟩,
 ⟨(some 27), (.fa 1), [(.t 6)], none, [11, 12, 13, 14, 15, 16, 17, 18, 19, 20, 21, 22, 23, 24, 25, 26, 31, 32, 33, 34, 35, 36, 37]⟩,
 ⟨(some 28), (.load none), [(.t 27)], none, [11, 12, 13, 14, 15, 16, 17, 18, 19, 20, 21, 22, 23, 24, 25, 26, 31, 32, 33, 34, 35, 36, 37]⟩,
 ⟨(some 29), (.bin 0 .sub), [(.t 26), (.t 28)], none, [11, 12, 13, 14, 15, 16, 17, 18, 19, 20, 21, 22, 23, 24, 31, 32, 33, 34, 35, 36, 37]⟩,
 ⟨(some 30), (.bin 0 .mul), [(.c (.int .i64 1000)), (.t 29)], none, [11, 12, 13, 14, 15, 16, 17, 18, 19, 20, 21, 22, 23, 24, 31, 32, 33, 34, 35, 36, 37]⟩,
 ⟨(some 31), (.load (some 2)), [(.t 5)], none, [11, 12, 13, 14, 15, 16, 17, 18, 19, 20, 21, 22, 23, 24, 25, 26, 27, 28, 29, 30, 32, 33, 34, 35, 36]⟩,
 ⟨(some 32), (.fa 2), [(.t 9)], none, [11, 12, 13, 14, 15, 16, 17, 18, 19, 20, 21, 22, 23, 24, 25, 26, 27, 28, 29, 30, 31, 34, 35]⟩,
 ⟨(some 33), (.load none), [(.t 32)], none, [11, 12, 13, 14, 15, 16, 17, 18, 19, 20, 21, 22, 23, 24, 25, 26, 27, 28, 29, 30, 31, 34, 35]⟩,
 ⟨(some 34), (.fa 2), [(.t 8)], none, [11, 12, 13, 14, 15, 16, 17, 18, 19, 20, 21, 22, 23, 24, 25, 26, 27, 28, 29, 30, 31, 32, 33]⟩,
 ⟨(some 35), (.load none), [(.t 34)], none, [11, 12, 13, 14, 15, 16, 17, 18, 19, 20, 21, 22, 23, 24, 25, 26, 27, 28, 29, 30, 31, 32, 33]⟩,
 ⟨(some 36), (.bin 0 .sub), [(.t 33), (.t 35)], none, [11, 12, 13, 14, 15, 16, 17, 18, 19, 20, 21, 22, 23, 24, 25, 26, 27, 28, 29, 30, 31]⟩,
 ⟨(some 37), (.call true false false), [(.f 140), (.t 31), (.t 36)], none, [11, 12, 13, 14, 15, 16, 24, 25, 26, 27, 28, 29, 30]⟩,
 ⟨(some 38), (.bin 0 .sub), [(.t 30), (.t 37)], none, [11, 12, 13, 14, 15, 16, 24]⟩,
 ⟨(some 39), (.build [(.int .i64 0), (.int .i64 0)] [(0, 1), (1, 1)]), [(.t 24), (.t 38)], none, []⟩,
 ⟨none, (.store 2 (some 10)), [(.t 10), (.t 39)], none, []⟩] 0 [10])
 .ret)),
 [(.c 10 (some 2))]⟩
theorem c185 : funC Try.prog [(0, [5, 6, 7, 8, 9, 10]), (1, [10])] Try.f185 = some (unF l185) := by kernel_rfl
/-- slices.IndexFunc[[]int,int] -/
def b193_0 : LCode :=
 (.seq
 (.reg true [] [] [
 ⟨(some 9), (.bin 0 .lss), [(.t 8), (.t 7)], none, []⟩] 0 [0, 1, 7, 8, 9])
 (.seq
 (.cond (.t 9)
 .skip
 (.exit 0))
 (.seq
 (.block 1
 (.seq
 (.reg true [] [] [
 ⟨(some 10), .mv, [(.t 8)], none, []⟩,
 ⟨(some 5), .mv, [(.t 10)], none, []⟩] 0 [0, 1, 5, 7, 8])
 (.seq
 (.reg true [] [] [
 ⟨(some 11), .mv, [(.t 1)], none, []⟩,
 ⟨(some 12), .mv, [(.t 0)], none, []⟩,
 ⟨(some 13), .mv, [(.t 5)], none, []⟩,
 ⟨(some 14), (.ixs 1), [(.t 12), (.t 13)], none, []⟩,
 ⟨(some 15), (.load none), [(.t 14)], none, []⟩,
 ⟨(some 16), (.call false false false), [(.t 11), (.t 15)], none, []⟩] 0 [0, 1, 5, 7, 8, 16])
 (.cond (.t 16)
 (.seq
 (.reg true [] [] [
 ⟨(some 17), .mv, [(.t 5)], none, []⟩,
 ⟨(some 4), .mv, [(.t 17)], none, []⟩] 0 [4])
 .ret)
 .skip))))
 (.reg true [] [] [
 ⟨(some 18), (.bin 0 .add), [(.t 8), (.c (.int .i64 1))], none, []⟩,
 ⟨(some 8), .mv, [(.t 18)], none, []⟩] 0 [0, 1, 7, 8]))))
def l193 : LFun := ⟨2, 19, [],
 (.seq
 (.reg false [] [] [
 ⟨(some 4), .mv, [(.c (.int .i64 0))], none, []⟩] 0 [0, 1])
 (.seq
 (.seq
 (.reg false [] [] [
 ⟨(some 6), .mv, [(.t 0)], none, []⟩,
 ⟨(some 7), .len, [(.t 6)], none, []⟩,
 ⟨(some 8), .mv, [(.c (.int .i64 0))], none, []⟩] 0 [0, 1, 7, 8])
 (.block 0
 (.loop b193_0)))
 (.seq
 (.reg false [] [] [
 ⟨(some 4), .mv, [(.c (.int .i64 (-1)))], none, []⟩] 0 [4])
 .ret))),
 [(.t 4)]⟩
theorem c193 : funC Try.prog [(0, [0, 1]), (1, [0, 1, 7, 8]), (2, [0, 1, 7, 8, 9]), (3, [0, 1, 5, 7, 8]), (4, [0, 1, 5, 7, 8, 16]), (5, [4]), (6, [0, 1, 7, 8]), (7, [4])] Try.f193 = some (unF l193) := by kernel_rfl
/-- (acme/swap.piece).left -/
def l194 : LFun := ⟨2, 19, [],
 (.seq
 (.reg false [2] [2] [
 ⟨(some 2), .box, [(.t 0)], none, []⟩,
 ⟨(some 4), .mv, [(.c (.int .i64 0))], none, []⟩] 0 [1, 2])
 (.seq
 (.reg false [] [] [
 ⟨(some 5), .mv, [(.t 1)], none, []⟩,
 ⟨(some 6), (.fa 8), [(.t 2)], none, []⟩,
 ⟨(some 7), (.load none), [(.t 6)], none, []⟩,
 ⟨(some 8), (.bin 0 .sub), [(.t 5), (.t 7)], none, []⟩,
 ⟨(some 9), (.bin 0 .mul), [(.c (.int .i64 4)), (.t 8)], none, []⟩,
 ⟨(some 10), (.fa 0), [(.t 2)], none, []⟩,
 ⟨(some 11), (.fa 1), [(.t 10)], none, []⟩,
 ⟨(some 12), (.load none), [(.t 11)], none, []⟩,
 ⟨(some 13), (.bin 0 .mul), [(.t 9), (.t 12)], none, []⟩,
 ⟨(some 14), (.fa 0), [(.t 2)], none, []⟩,
 ⟨(some 15), (.fa 0), [(.t 14)], none, []⟩,
 ⟨(some 16), (.load none), [(.t 15)], none, []⟩,
 ⟨(some 17), (.bin 0 .mul), [(.c (.int .i64 1000)), (.t 16)], none, []⟩,
 ⟨(some 18), (.bin 0 .sub), [(.t 13), (.t 17)], none, []⟩,
 ⟨(some 4), .mv, [(.t 18)], none, []⟩] 0 [4])
 .ret)),
 [(.t 4)]⟩
theorem c194 : funC Try.prog [(0, [1, 2]), (1, [4])] Try.f194 = some (unF l194) := by kernel_rfl
/-- (acme/swap.piece).right -/
def l195 : LFun := ⟨2, 19, [],
 (.seq
 (.reg false [2] [2] [
 ⟨(some 2), .box, [(.t 0)], none, []⟩,
 ⟨(some 4), .mv, [(.c (.int .i64 0))], none, []⟩] 0 [1, 2])
 (.seq
 (.reg false [] [] [
 ⟨(some 5), (.fa 0), [(.t 2)], none, []⟩,
 ⟨(some 6), (.fa 0), [(.t 5)], none, []⟩,
 ⟨(some 7), (.load none), [(.t 6)], none, []⟩,
 ⟨(some 8), (.bin 0 .mul), [(.c (.int .i64 1000)), (.t 7)], none, []⟩,
 ⟨(some 9), .mv, [(.t 1)], none, []⟩,
 ⟨(some 10), (.fa 8), [(.t 2)], none, []⟩,
 ⟨(some 11), (.load none), [(.t 10)], none, []⟩,
 ⟨(some 12), (.bin 0 .sub), [(.t 9), (.t 11)], none, []⟩,
 ⟨(some 13), (.bin 0 .mul), [(.c (.int .i64 4)), (.t 12)], none, []⟩,
 ⟨(some 14), (.fa 0), [(.t 2)], none, []⟩,
 ⟨(some 15), (.fa 2), [(.t 14)], none, []⟩,
 ⟨(some 16), (.load none), [(.t 15)], none, []⟩,
 ⟨(some 17), (.bin 0 .mul), [(.t 13), (.t 16)], none, []⟩,
 ⟨(some 18), (.bin 0 .sub), [(.t 8), (.t 17)], none, []⟩,
 ⟨(some 4), .mv, [(.t 18)], none, []⟩] 0 [4])
 .ret)),
 [(.t 4)]⟩
theorem c195 : funC Try.prog [(0, [1, 2]), (1, [4])] Try.f195 = some (unF l195) := by kernel_rfl
/-- (acme/fit.ideal).flanks$1 -/
def b196_0 : LCode :=
 (.seq
 (.reg true [] [] [
 ⟨(some 11), (.bin 0 .lss), [(.t 10), (.t 9)], none, []⟩] 0 [0, 2, 8, 9, 10, 11])
 (.seq
 (.cond (.t 11)
 .skip
 (.exit 0))
 (.seq
 (.block 1
 (.seq
 (.reg true [5] [5] [
 ⟨(some 12), .mv, [(.t 10)], none, []⟩,
 ⟨(some 13), (.ixs 2), [(.t 8), (.t 10)], none, []⟩,
 ⟨(some 14), (.load (some 2)), [(.t 13)], none, []⟩,
 ⟨(some 5), (.alloc [(.int .i64 0), (.int .i64 0)]), [], none, []⟩,
 ⟨(some 4), .mv, [(.t 12)], none, []⟩,
 ⟨none, (.store 2 none), [(.t 5), (.t 14)], none, []⟩] 0 [0, 2, 4, 5, 8, 9, 10])
 (.seq
 (.reg true [] [] [
 ⟨(some 15), .mv, [(.t 4)], none, []⟩,
 ⟨(some 16), (.bin 0 .mul), [(.c (.int .i64 4)), (.t 15)], none, []⟩,
 ⟨(some 17), (.fa 0), [(.t 2)], none, []⟩,
 ⟨(some 18), (.fa 0), [(.t 17)], none, []⟩,
 ⟨(some 19), (.load none), [(.t 18)], none, []⟩,
 ⟨(some 20), (.bin 0 .mul), [(.t 16), (.t 19)], none, []⟩,
 ⟨(some 6), .mv, [(.t 20)], none, []⟩] 0 [0, 2, 5, 6, 8, 9, 10])
 (.seq
 (.reg true [] [] [
 ⟨(some 21), .mv, [(.t 0)], none, []⟩,
 ⟨(some 22), (.fa 0), [(.t 5)], none, []⟩,
 ⟨(some 23), (.load none), [(.t 22)], none, []⟩,
 ⟨(some 24), (.bin 0 .mul), [(.c (.int .i64 4)), (.t 23)], none, []⟩,
 ⟨(some 25), .mv, [(.t 6)], none, []⟩,
 ⟨(some 26), (.bin 0 .sub), [(.t 24), (.t 25)], none, []⟩,
 ⟨(some 27), (.fa 0), [(.t 2)], none, []⟩,
 ⟨(some 28), (.fa 0), [(.t 27)], none, []⟩,
 ⟨(some 29), (.load none), [(.t 28)], none, []⟩,
 ⟨(some 30), (.bin 0 .add), [(.t 26), (.t 29)], none, []⟩,
 ⟨(some 31), (.bin 0 .mul), [(.c (.int .i64 1000)), (.t 30)], none, []⟩,
 ⟨(some 32), (.fa 1), [(.t 5)], none, []⟩,
 ⟨(some 33), (.load none), [(.t 32)], none, []⟩,
 ⟨(some 34), (.bin 0 .mul), [(.c (.int .i64 4)), (.t 33)], none, []⟩,
 ⟨(some 35), .mv, [(.t 6)], none, []⟩,
 ⟨(some 36), (.bin 0 .sub), [(.t 34), (.t 35)], none, []⟩,
 ⟨(some 37), (.fa 0), [(.t 2)], none, []⟩,
 ⟨(some 38), (.fa 0), [(.t 37)], none, []⟩,
 ⟨(some 39), (.load none), [(.t 38)], none, []⟩,
 ⟨(some 40), (.bin 0 .sub), [(.t 36), (.t 39)], none, []⟩,
 ⟨(some 41), (.bin 0 .mul), [(.c (.int .i64 1000)), (.t 40)], none, []⟩,
 ⟨(some 42), (.call false false false), [(.t 21), (.t 31), (.t 41)], none, []⟩,
 ⟨(some 43), (.un .not), [(.t 42)], none, []⟩] 0 [0, 2, 8, 9, 10, 43])
 (.cond (.t 43)
 .ret
 .skip)))))
 (.reg true [] [] [
 ⟨(some 44), (.bin 0 .add), [(.t 10), (.c (.int .i64 1))], none, []⟩,
 ⟨(some 10), .mv, [(.t 44)], none, []⟩] 0 [0, 2, 8, 9, 10]))))
def l196 : LFun := ⟨3, 45, [],
 (.seq
 (.reg false [] [] [
 ⟨(some 7), (.fa 0), [(.t 1)], none, []⟩,
 ⟨(some 8), (.load none), [(.t 7)], none, []⟩,
 ⟨(some 9), .len, [(.t 8)], none, []⟩,
 ⟨(some 10), .mv, [(.c (.int .i64 0))], none, []⟩] 0 [0, 2, 8, 9, 10])
 (.block 0
 (.loop b196_0))),
 []⟩
theorem c196 : funC Try.prog [(0, [0, 2, 8, 9, 10]), (1, [0, 2, 8, 9, 10, 11]), (2, [0, 2, 4, 5, 8, 9, 10]), (3, [0, 2, 5, 6, 8, 9, 10]), (4, [0, 2, 8, 9, 10, 43]), (5, [0, 2, 8, 9, 10])] Try.f196 = some (unF l196) := by kernel_rfl
/-- slices.ContainsFunc[[]acme/api.SwapStandard,acme/api.SwapStandard] -/
def l197 : LFun := ⟨2, 9, [],
 (.seq
 (.reg false [] [] [
 ⟨(some 4), .mv, [(.c (.bool false))], none, []⟩] 0 [0, 1])
 (.seq
 (.reg false [] [] [
 ⟨(some 5), .mv, [(.t 0)], none, []⟩,
 ⟨(some 6), .mv, [(.t 1)], none, []⟩,
 ⟨(some 7), (.call false false false), [(.f 238), (.t 5), (.t 6)], none, []⟩,
 ⟨(some 8), (.bin 0 .geq), [(.t 7), (.c (.int .i64 0))], none, []⟩,
 ⟨(some 4), .mv, [(.t 8)], none, []⟩] 0 [4])
 .ret)),
 [(.t 4)]⟩
theorem c197 : funC Try.prog [(0, [0, 1]), (1, [4])] Try.f197 = some (unF l197) := by kernel_rfl
/-- acme/swap.areNot$1 -/
def l198 : LFun := ⟨1, 7, [],
 (.seq
 (.reg false [1] [1] [
 ⟨(some 1), .box, [(.t 0)], none, []⟩,
 ⟨(some 2), .mv, [(.c (.bool false))], none, []⟩] 0 [1])
 (.seq
 (.reg false [] [] [
 ⟨(some 3), (.load (some 15)), [(.t 1)], none, []⟩,
 ⟨(some 4), (.build [(.int .i64 0), (.int .i64 0), (.int .i64 0), (.int .i64 0), (.int .i64 0), (.int .i64 0), (.int .i64 0), (.int .i64 0), (.int .i64 0), (.bool false), (.int .i64 0), (.int .i64 0), (.int .i64 0), (.int .i64 0), (.int .i64 0)] [(0, 15)]), [(.t 3)], none, []⟩,
 ⟨(some 5), (.call false false false), [(.f 199), (.t 4)], none, []⟩,
 ⟨(some 6), (.un .not), [(.t 5)], none, []⟩,
 ⟨(some 2), .mv, [(.t 6)], none, []⟩] 0 [2])
 .ret)),
 [(.t 2)]⟩
theorem c198 : funC Try.prog [(0, [1]), (1, [2])] Try.f198 = some (unF l198) := by kernel_rfl
/-- (acme/swap.standard).isValid -/
def l199 : LFun := ⟨1, 36, [],
 (.seq
 (.reg false [1] [1] [
 ⟨(some 1), .box, [(.t 0)], none, []⟩,
 ⟨(some 2), .mv, [(.c (.bool false))], none, []⟩] 0 [1])
 (.seq
 (.reg false [6] [6] [
 ⟨(some 3), (.fa 0), [(.t 1)], none, []⟩,
 ⟨(some 4), (.fa 0), [(.t 3)], none, []⟩,
 ⟨(some 5), (.load none), [(.t 4)], none, []⟩,
 ⟨(some 6), (.bsl 1 [(.int .i64 0)] 1 [0]), [(.t 5)], none, []⟩,
 ⟨(some 7), (.call false false false), [(.f 69), (.c (.int .i64 0)), (.c (.int .i64 1000)), (.t 6)], none, []⟩,
 ⟨(some 8), .mv, [(.t 7)], none, []⟩,
 ⟨(some 9), (.fa 0), [(.t 1)], (some (8, true)), []⟩,
 ⟨(some 10), (.fa 1), [(.t 9)], (some (8, true)), []⟩,
 ⟨(some 11), (.load (some 2)), [(.t 10)], (some (8, true)), []⟩,
 ⟨(some 12), (.build [(.int .i64 0), (.int .i64 0)] [(0, 2)]), [(.t 11)], (some (8, true)), []⟩,
 ⟨(some 13), (.call false false false), [(.f 239), (.t 12)], (some (8, true)), []⟩,
 ⟨(some 14), .pick, [(.t 8), (.t 13), (.c (.bool false))], none, []⟩,
 ⟨(some 15), .mv, [(.t 14)], none, []⟩,
 ⟨(some 16), (.fa 0), [(.t 1)], (some (15, true)), []⟩,
 ⟨(some 17), (.fa 3), [(.t 16)], (some (15, true)), []⟩,
 ⟨(some 18), (.load (some 8)), [(.t 17)], (some (15, true)), []⟩,
 ⟨(some 19), (.call false false false), [(.f 68), (.t 18)], (some (15, true)), []⟩,
 ⟨(some 20), (.bin 0 .eql), [(.t 19), (.c (.int .i64 0))], (some (15, true)), []⟩,
 ⟨(some 21), .pick, [(.t 15), (.t 20), (.c (.bool false))], none, []⟩,
 ⟨(some 22), .mv, [(.t 21)], none, []⟩,
 ⟨(some 23), (.fa 0), [(.t 1)], (some (22, true)), []⟩,
 ⟨(some 24), (.fa 11), [(.t 23)], (some (22, true)), []⟩,
 ⟨(some 25), (.load (some 2)), [(.t 24)], (some (22, true)), []⟩,
 ⟨(some 26), (.build [(.int .i64 0), (.int .i64 0)] [(0, 2)]), [(.t 25)], (some (22, true)), []⟩,
 ⟨(some 27), (.call false false false), [(.f 240), (.t 26)], (some (22, true)), []⟩,
 ⟨(some 28), .pick, [(.t 22), (.t 27), (.c (.bool false))], none, []⟩,
 ⟨(some 29), .mv, [(.t 28)], none, []⟩,
 ⟨(some 30), (.fa 0), [(.t 1)], (some (29, true)), []⟩,
 ⟨(some 31), (.fa 13), [(.t 30)], (some (29, true)), []⟩,
 ⟨(some 32), (.load (some 2)), [(.t 31)], (some (29, true)), []⟩,
 ⟨(some 33), (.build [(.int .i64 0), (.int .i64 0)] [(0, 2)]), [(.t 32)], (some (29, true)), []⟩,
 ⟨(some 34), (.call false false false), [(.f 240), (.t 33)], (some (29, true)), []⟩,
 ⟨(some 35), .pick, [(.t 29), (.t 34), (.c (.bool false))], none, []⟩,
 ⟨(some 2), .mv, [(.t 35)], none, []⟩] 0 [2])
 .ret)),
 [(.t 2)]⟩
theorem c199 : funC Try.prog [(0, [1]), (1, [2])] Try.f199 = some (unF l199) := by kernel_rfl
/-- acme/zone.within$1 -/
def l200 : LFun := ⟨3, 13, [],
 (.seq
 (.reg false [] [] [
 ⟨(some 4), .mv, [(.c (.bool false))], none, []⟩] 0 [0, 1, 2])
 (.seq
 (.reg false [] [] [
 ⟨(some 5), .mv, [(.t 0)], none, []⟩,
 ⟨(some 6), (.load none), [(.t 1)], none, []⟩,
 ⟨(some 7), (.bin 0 .lss), [(.t 5), (.t 6)], none, []⟩,
 ⟨(some 8), .mv, [(.t 7)], none, []⟩,
 ⟨(some 9), .mv, [(.t 0)], (some (8, false)), []⟩,
 ⟨(some 10), (.load none), [(.t 2)], (some (8, false)), []⟩,
 ⟨(some 11), (.bin 0 .gtr), [(.t 9), (.t 10)], (some (8, false)), []⟩,
 ⟨(some 12), .pick, [(.t 8), (.c (.bool true)), (.t 11)], none, []⟩,
 ⟨(some 4), .mv, [(.t 12)], none, []⟩] 0 [4])
 .ret)),
 [(.t 4)]⟩
theorem c200 : funC Try.prog [(0, [0, 1, 2]), (1, [4])] Try.f200 = some (unF l200) := by kernel_rfl
/-- (acme/zone.span).group -/
def l201 : LFun := ⟨3, 38, [],
 (.seq
 (.reg false [3, 6] [3, 6] [
 ⟨(some 3), .box, [(.t 0)], none, []⟩,
 ⟨(some 6), (.alloc [(.int .i64 0), (.int .i64 0)]), [], none, []⟩] 0 [1, 2, 3, 6])
 (.seq
 (.reg false [] [] [
 ⟨(some 8), (.fa 0), [(.t 3)], none, []⟩,
 ⟨(some 9), (.fa 1), [(.t 8)], none, []⟩,
 ⟨(some 10), (.load none), [(.t 9)], none, []⟩,
 ⟨(some 11), (.fa 0), [(.t 3)], none, []⟩,
 ⟨(some 12), (.fa 0), [(.t 11)], none, []⟩,
 ⟨(some 13), (.load none), [(.t 12)], none, []⟩,
 ⟨(some 14), (.bin 0 .sub), [(.t 10), (.t 13)], none, []⟩,
 ⟨(some 15), (.bin 0 .add), [(.t 14), (.c (.int .i64 1))], none, []⟩,
 ⟨(some 7), .mv, [(.t 15)], none, []⟩] 0 [1, 2, 3, 6, 7])
 (.seq
 (.reg false [] [] [
 ⟨(some 16), (.fa 0), [(.t 3)], none, [19, 20, 21, 22, 23, 25, 26, 27, 28, 29, 30, 31, 32, 33, 34, 35]⟩,
 ⟨(some 17), (.fa 0), [(.t 16)], none, [19, 20, 21, 22, 23, 25, 26, 27, 28, 29, 30, 31, 32, 33, 34, 35]⟩,
 ⟨(some 18), (.load none), [(.t 17)], none, [19, 20, 21, 22, 23, 25, 26, 27, 28, 29, 30, 31, 32, 33, 34, 35]⟩,
 ⟨(some 19), .mv, [(.t 1)], none, [16, 17, 18, 20, 22, 25, 26, 27, 28, 29, 30, 31, 32, 33, 34, 35]⟩,
 ⟨(some 20), .mv, [(.t 7)], none, [16, 17, 18, 19, 22, 25, 26, 27, 28, 29, 30, 31, 32, 33, 34, 35]⟩,
 ⟨(some 21), (.bin 0 .mul), [(.t 19), (.t 20)], none, [16, 17, 18, 22, 25, 26, 27, 28, 29, 30, 31, 32, 33, 34, 35]⟩,
 ⟨(some 22), .mv, [(.t 2)], none, [16, 17, 18, 19, 20, 21, 25, 26, 27, 28, 29, 30, 31, 32, 33, 34, 35]⟩,
 ⟨(some 23), (.bin 0 .quo), [(.t 21), (.t 22)], none, [16, 17, 18, 25, 26, 27, 28, 29, 30, 31, 32, 33, 34, 35]⟩,
 ⟨(some 24), (.bin 0 .add), [(.t 18), (.t 23)], none, [25, 26, 27, 28, 29, 30, 31, 32, 33, 34, 35]⟩,
 ⟨(some 25), (.fa 0), [(.t 3)], none, [16, 17, 18, 19, 20, 21, 22, 23, 24, 28, 29, 30, 31, 32, 33]⟩,
 ⟨(some 26), (.fa 0), [(.t 25)], none, [16, 17, 18, 19, 20, 21, 22, 23, 24, 28, 29, 30, 31, 32, 33]⟩,
 ⟨(some 27), (.load none), [(.t 26)], none, [16, 17, 18, 19, 20, 21, 22, 23, 24, 28, 29, 30, 31, 32, 33]⟩,
 ⟨(some 28), .mv, [(.t 1)], none, [16, 17, 18, 19, 20, 21, 22, 23, 24, 25, 26, 27, 30, 32]⟩,
 ⟨(some 29), (.bin 0 .add), [(.t 28), (.c (.int .i64 1))], none, [16, 17, 18, 19, 20, 21, 22, 23, 24, 25, 26, 27, 30, 32]⟩,
 ⟨(some 30), .mv, [(.t 7)], none, [16, 17, 18, 19, 20, 21, 22, 23, 24, 25, 26, 27, 28, 29, 32]⟩,
 ⟨(some 31), (.bin 0 .mul), [(.t 29), (.t 30)], none, [16, 17, 18, 19, 20, 21, 22, 23, 24, 25, 26, 27, 32]⟩,
 ⟨(some 32), .mv, [(.t 2)], none, [16, 17, 18, 19, 20, 21, 22, 23, 24, 25, 26, 27, 28, 29, 30, 31]⟩,
 ⟨(some 33), (.bin 0 .quo), [(.t 31), (.t 32)], none, [16, 17, 18, 19, 20, 21, 22, 23, 24, 25, 26, 27]⟩,
 ⟨(some 34), (.bin 0 .add), [(.t 27), (.t 33)], none, [16, 17, 18, 19, 20, 21, 22, 23, 24]⟩,
 ⟨(some 35), (.bin 0 .sub), [(.t 34), (.c (.int .i64 1))], none, [16, 17, 18, 19, 20, 21, 22, 23, 24]⟩,
 ⟨(some 36), (.build [(.int .i64 0), (.int .i64 0)] [(0, 1), (1, 1)]), [(.t 24), (.t 35)], none, []⟩,
 ⟨(some 37), (.build [(.int .i64 0), (.int .i64 0)] [(0, 2)]), [(.t 36)], none, []⟩,
 ⟨none, (.store 2 (some 6)), [(.t 6), (.t 37)], none, []⟩] 0 [6])
 .ret))),
 [(.c 6 (some 2))]⟩
theorem c201 : funC Try.prog [(0, [1, 2, 3, 6]), (1, [1, 2, 3, 6, 7]), (2, [6])] Try.f201 = some (unF l201) := by kernel_rfl
/-- (acme/zone.span).isIn -/
def l202 : LFun := ⟨2, 19, [],
 (.seq
 (.reg false [2, 3] [2, 3] [
 ⟨(some 2), .box, [(.t 0)], none, []⟩,
 ⟨(some 3), .box, [(.t 1)], none, []⟩,
 ⟨(some 4), .mv, [(.c (.bool false))], none, []⟩] 0 [2, 3])
 (.seq
 (.reg false [] [] [
 ⟨(some 5), (.fa 0), [(.t 2)], none, []⟩,
 ⟨(some 6), (.fa 0), [(.t 5)], none, []⟩,
 ⟨(some 7), (.load none), [(.t 6)], none, []⟩,
 ⟨(some 8), (.fa 0), [(.t 3)], none, []⟩,
 ⟨(some 9), (.load none), [(.t 8)], none, []⟩,
 ⟨(some 10), (.bin 0 .geq), [(.t 7), (.t 9)], none, []⟩,
 ⟨(some 11), .mv, [(.t 10)], none, []⟩,
 ⟨(some 12), (.fa 0), [(.t 2)], (some (11, true)), []⟩,
 ⟨(some 13), (.fa 1), [(.t 12)], (some (11, true)), []⟩,
 ⟨(some 14), (.load none), [(.t 13)], (some (11, true)), []⟩,
 ⟨(some 15), (.fa 1), [(.t 3)], (some (11, true)), []⟩,
 ⟨(some 16), (.load none), [(.t 15)], (some (11, true)), []⟩,
 ⟨(some 17), (.bin 0 .leq), [(.t 14), (.t 16)], (some (11, true)), []⟩,
 ⟨(some 18), .pick, [(.t 11), (.t 17), (.c (.bool false))], none, []⟩,
 ⟨(some 4), .mv, [(.t 18)], none, []⟩] 0 [4])
 .ret)),
 [(.t 4)]⟩
theorem c202 : funC Try.prog [(0, [2, 3]), (1, [4])] Try.f202 = some (unF l202) := by kernel_rfl
/-- acme/zone.isLong[int] -/
def l211 : LFun := ⟨2, 9, [],
 (.seq
 (.reg false [] [] [
 ⟨(some 4), .mv, [(.c (.bool false))], none, []⟩] 0 [0, 1])
 (.seq
 (.reg false [] [] [
 ⟨(some 5), .mv, [(.t 0)], none, []⟩,
 ⟨(some 6), .len, [(.t 5)], none, []⟩,
 ⟨(some 7), .mv, [(.t 1)], none, []⟩,
 ⟨(some 8), (.bin 0 .gtr), [(.t 6), (.t 7)], none, []⟩,
 ⟨(some 4), .mv, [(.t 8)], none, []⟩] 0 [4])
 .ret)),
 [(.t 4)]⟩
theorem c211 : funC Try.prog [(0, [0, 1]), (1, [4])] Try.f211 = some (unF l211) := by kernel_rfl
/-- acme/zone.isLong[[]int] -/
def l212 : LFun := ⟨2, 9, [],
 (.seq
 (.reg false [] [] [
 ⟨(some 4), .mv, [(.c (.bool false))], none, []⟩] 0 [0, 1])
 (.seq
 (.reg false [] [] [
 ⟨(some 5), .mv, [(.t 0)], none, []⟩,
 ⟨(some 6), .len, [(.t 5)], none, []⟩,
 ⟨(some 7), .mv, [(.t 1)], none, []⟩,
 ⟨(some 8), (.bin 0 .gtr), [(.t 6), (.t 7)], none, []⟩,
 ⟨(some 4), .mv, [(.t 8)], none, []⟩] 0 [4])
 .ret)),
 [(.t 4)]⟩
theorem c212 : funC Try.prog [(0, [0, 1]), (1, [4])] Try.f212 = some (unF l212) := by kernel_rfl
/-- slices.ContainsFunc[[][]int,[]int] -/
def l213 : LFun := ⟨2, 9, [],
 (.seq
 (.reg false [] [] [
 ⟨(some 4), .mv, [(.c (.bool false))], none, []⟩] 0 [0, 1])
 (.seq
 (.reg false [] [] [
 ⟨(some 5), .mv, [(.t 0)], none, []⟩,
 ⟨(some 6), .mv, [(.t 1)], none, []⟩,
 ⟨(some 7), (.call false false false), [(.f 244), (.t 5), (.t 6)], none, []⟩,
 ⟨(some 8), (.bin 0 .geq), [(.t 7), (.c (.int .i64 0))], none, []⟩,
 ⟨(some 4), .mv, [(.t 8)], none, []⟩] 0 [4])
 .ret)),
 [(.t 4)]⟩
theorem c213 : funC Try.prog [(0, [0, 1]), (1, [4])] Try.f213 = some (unF l213) := by kernel_rfl
/-- acme/zone.Check$1 -/
def l214 : LFun := ⟨2, 10, [],
 (.seq
 (.reg false [] [] [
 ⟨(some 3), .mv, [(.c (.bool false))], none, []⟩] 0 [0, 1])
 (.seq
 (.reg false [] [] [
 ⟨(some 4), .mv, [(.t 0)], none, []⟩,
 ⟨(some 5), .len, [(.t 4)], none, []⟩,
 ⟨(some 6), (.fa 0), [(.t 1)], none, []⟩,
 ⟨(some 7), (.load none), [(.t 6)], none, []⟩,
 ⟨(some 8), .len, [(.t 7)], none, []⟩,
 ⟨(some 9), (.bin 0 .neq), [(.t 5), (.t 8)], none, []⟩,
 ⟨(some 3), .mv, [(.t 9)], none, []⟩] 0 [3])
 .ret)),
 [(.t 3)]⟩
theorem c214 : funC Try.prog [(0, [0, 1]), (1, [3])] Try.f214 = some (unF l214) := by kernel_rfl
/-- slices.Concat[[]int,int] -/
def b215_0 : LCode :=
 (.seq
 (.reg true [] [] [
 ⟨(some 12), (.bin 0 .lss), [(.t 11), (.t 10)], none, []⟩] 0 [0, 3, 9, 10, 11, 12])
 (.seq
 (.cond (.t 12)
 .skip
 (.exit 0))
 (.seq
 (.block 1
 (.seq
 (.reg true [] [] [
 ⟨(some 13), (.ixs 1), [(.t 9), (.t 11)], none, []⟩,
 ⟨(some 14), (.load none), [(.t 13)], none, []⟩,
 ⟨(some 5), .mv, [(.t 14)], none, []⟩] 0 [0, 3, 5, 9, 10, 11])
 (.seq
 (.reg true [] [] [
 ⟨(some 15), .mv, [(.t 3)], none, []⟩,
 ⟨(some 16), .mv, [(.t 5)], none, []⟩,
 ⟨(some 17), .len, [(.t 16)], none, []⟩,
 ⟨(some 18), (.bin 0 .add), [(.t 15), (.t 17)], none, []⟩,
 ⟨(some 3), .mv, [(.t 18)], none, []⟩] 0 [0, 3, 9, 10, 11])
 (.seq
 (.reg true [] [] [
 ⟨(some 19), .mv, [(.t 3)], none, []⟩,
 ⟨(some 20), (.bin 0 .lss), [(.t 19), (.c (.int .i64 0))], none, []⟩] 0 [0, 3, 9, 10, 11, 20])
 (.cond (.t 20)
 (.reg true [] [] [
 ⟨none, .bad, [], none, []⟩,
 ⟨none, .bad, [], none, []⟩] 0 [0, 3, 9, 10, 11])
 .skip)))))
 (.reg true [] [] [
 ⟨(some 22), (.bin 0 .add), [(.t 11), (.c (.int .i64 1))], none, []⟩,
 ⟨(some 11), .mv, [(.t 22)], none, []⟩] 0 [0, 3, 9, 10, 11]))))
def b215_1 : LCode :=
 (.seq
 (.reg true [] [] [
 ⟨(some 28), (.bin 0 .lss), [(.t 27), (.t 26)], none, []⟩] 0 [6, 25, 26, 27, 28])
 (.seq
 (.cond (.t 28)
 .skip
 (.exit 2))
 (.seq
 (.block 3
 (.seq
 (.reg true [] [] [
 ⟨(some 29), (.ixs 1), [(.t 25), (.t 27)], none, []⟩,
 ⟨(some 30), (.load none), [(.t 29)], none, []⟩,
 ⟨(some 8), .mv, [(.t 30)], none, []⟩] 0 [6, 8, 25, 26, 27])
 (.reg true [33] [] [
 ⟨(some 31), .mv, [(.t 6)], none, []⟩,
 ⟨(some 32), .mv, [(.t 8)], none, []⟩,
 ⟨(some 33), (.append false 1 8), [(.t 31), (.t 32)], none, []⟩,
 ⟨(some 6), .mv, [(.t 33)], none, []⟩] 0 [6, 25, 26, 27])))
 (.reg true [] [] [
 ⟨(some 34), (.bin 0 .add), [(.t 27), (.c (.int .i64 1))], none, []⟩,
 ⟨(some 27), .mv, [(.t 34)], none, []⟩] 0 [6, 25, 26, 27]))))
def l215 : LFun := ⟨1, 36, [],
 (.seq
 (.reg false [] [] [
 ⟨(some 2), .mv, [(.c .nil)], none, []⟩] 0 [0])
 (.seq
 (.reg false [] [] [
 ⟨(some 3), .mv, [(.c (.int .i64 0))], none, []⟩] 0 [0, 3])
 (.seq
 (.seq
 (.reg false [] [] [
 ⟨(some 9), .mv, [(.t 0)], none, []⟩,
 ⟨(some 10), .len, [(.t 9)], none, []⟩,
 ⟨(some 11), .mv, [(.c (.int .i64 0))], none, []⟩] 0 [0, 3, 9, 10, 11])
 (.block 0
 (.loop b215_0)))
 (.seq
 (.reg false [24] [24] [
 ⟨(some 23), .mv, [(.t 3)], none, []⟩,
 ⟨(some 24), (.call false false true), [(.f 245), (.c .nil), (.t 23)], none, []⟩,
 ⟨(some 6), .mv, [(.t 24)], none, []⟩] 0 [0, 6])
 (.seq
 (.seq
 (.reg false [] [] [
 ⟨(some 25), .mv, [(.t 0)], none, []⟩,
 ⟨(some 26), .len, [(.t 25)], none, []⟩,
 ⟨(some 27), .mv, [(.c (.int .i64 0))], none, []⟩] 0 [6, 25, 26, 27])
 (.block 2
 (.loop b215_1)))
 (.seq
 (.reg false [] [] [
 ⟨(some 35), .mv, [(.t 6)], none, []⟩,
 ⟨(some 2), .mv, [(.t 35)], none, []⟩] 0 [2])
 .ret)))))),
 [(.t 2)]⟩
theorem c215 : funC Try.prog [(0, [0]), (1, [0, 3]), (2, [0, 3, 9, 10, 11]), (3, [0, 3, 9, 10, 11, 12]), (4, [0, 3, 5, 9, 10, 11]), (5, [0, 3, 9, 10, 11]), (6, [0, 3, 9, 10, 11, 20]), (7, [0, 3, 9, 10, 11]), (8, [0, 3, 9, 10, 11]), (9, [0, 6]), (10, [6, 25, 26, 27]), (11, [6, 25, 26, 27, 28]), (12, [6, 8, 25, 26, 27]), (13, [6, 25, 26, 27]), (14, [6, 25, 26, 27]), (15, [2])] Try.f215 = some (unF l215) := by kernel_rfl
/-- (acme/zone.table).step$1 -/
def l216 : LFun := ⟨2, 7, [],
 (.seq
 (.reg false [] [] [
 ⟨(some 3), .mv, [(.c (.bool false))], none, []⟩] 0 [0, 1])
 (.seq
 (.reg false [] [] [
 ⟨(some 4), (.load none), [(.t 1)], none, []⟩,
 ⟨(some 5), .mv, [(.t 0)], none, []⟩,
 ⟨(some 6), (.bin 0 .leq), [(.t 4), (.t 5)], none, []⟩,
 ⟨(some 3), .mv, [(.t 6)], none, []⟩] 0 [3])
 .ret)),
 [(.t 3)]⟩
theorem c216 : funC Try.prog [(0, [0, 1]), (1, [3])] Try.f216 = some (unF l216) := by kernel_rfl
/-- slices.IndexFunc[[]acme/api.SwapStandard,acme/api.SwapStandard] -/
def b238_0 : LCode :=
 (.seq
 (.reg true [] [] [
 ⟨(some 9), (.bin 0 .lss), [(.t 8), (.t 7)], none, []⟩] 0 [0, 1, 7, 8, 9])
 (.seq
 (.cond (.t 9)
 .skip
 (.exit 0))
 (.seq
 (.block 1
 (.seq
 (.reg true [] [] [
 ⟨(some 10), .mv, [(.t 8)], none, []⟩,
 ⟨(some 5), .mv, [(.t 10)], none, []⟩] 0 [0, 1, 5, 7, 8])
 (.seq
 (.reg true [] [] [
 ⟨(some 11), .mv, [(.t 1)], none, []⟩,
 ⟨(some 12), .mv, [(.t 0)], none, []⟩,
 ⟨(some 13), .mv, [(.t 5)], none, []⟩,
 ⟨(some 14), (.ixs 15), [(.t 12), (.t 13)], none, []⟩,
 ⟨(some 15), (.load (some 15)), [(.t 14)], none, []⟩,
 ⟨(some 16), (.call false false false), [(.t 11), (.t 15)], none, []⟩] 0 [0, 1, 5, 7, 8, 16])
 (.cond (.t 16)
 (.seq
 (.reg true [] [] [
 ⟨(some 17), .mv, [(.t 5)], none, []⟩,
 ⟨(some 4), .mv, [(.t 17)], none, []⟩] 0 [4])
 .ret)
 .skip))))
 (.reg true [] [] [
 ⟨(some 18), (.bin 0 .add), [(.t 8), (.c (.int .i64 1))], none, []⟩,
 ⟨(some 8), .mv, [(.t 18)], none, []⟩] 0 [0, 1, 7, 8]))))
def l238 : LFun := ⟨2, 19, [],
 (.seq
 (.reg false [] [] [
 ⟨(some 4), .mv, [(.c (.int .i64 0))], none, []⟩] 0 [0, 1])
 (.seq
 (.seq
 (.reg false [] [] [
 ⟨(some 6), .mv, [(.t 0)], none, []⟩,
 ⟨(some 7), .len, [(.t 6)], none, []⟩,
 ⟨(some 8), .mv, [(.c (.int .i64 0))], none, []⟩] 0 [0, 1, 7, 8])
 (.block 0
 (.loop b238_0)))
 (.seq
 (.reg false [] [] [
 ⟨(some 4), .mv, [(.c (.int .i64 (-1)))], none, []⟩] 0 [4])
 .ret))),
 [(.t 4)]⟩
theorem c238 : funC Try.prog [(0, [0, 1]), (1, [0, 1, 7, 8]), (2, [0, 1, 7, 8, 9]), (3, [0, 1, 5, 7, 8]), (4, [0, 1, 5, 7, 8, 16]), (5, [4]), (6, [0, 1, 7, 8]), (7, [4])] Try.f238 = some (unF l238) := by kernel_rfl
/-- (acme/swap.span).isYears -/
def l239 : LFun := ⟨1, 5, [],
 (.seq
 (.reg false [1] [1] [
 ⟨(some 1), .box, [(.t 0)], none, []⟩,
 ⟨(some 2), .mv, [(.c (.bool false))], none, []⟩] 0 [1])
 (.seq
 (.reg false [] [] [
 ⟨(some 3), (.load (some 2)), [(.t 1)], none, []⟩,
 ⟨(some 4), (.call false false false), [(.f 134), (.t 3), (.c (.int .i64 0)), (.c (.int .i64 3000))], none, []⟩,
 ⟨(some 2), .mv, [(.t 4)], none, []⟩] 0 [2])
 .ret)),
 [(.t 2)]⟩
theorem c239 : funC Try.prog [(0, [1]), (1, [2])] Try.f239 = some (unF l239) := by kernel_rfl
/-- (acme/swap.span).isSize -/
def l240 : LFun := ⟨1, 5, [],
 (.seq
 (.reg false [1] [1] [
 ⟨(some 1), .box, [(.t 0)], none, []⟩,
 ⟨(some 2), .mv, [(.c (.bool false))], none, []⟩] 0 [1])
 (.seq
 (.reg false [] [] [
 ⟨(some 3), (.load (some 2)), [(.t 1)], none, []⟩,
 ⟨(some 4), (.call false false false), [(.f 134), (.t 3), (.c (.int .i64 (-10000))), (.c (.int .i64 10000))], none, []⟩,
 ⟨(some 2), .mv, [(.t 4)], none, []⟩] 0 [2])
 .ret)),
 [(.t 2)]⟩
theorem c240 : funC Try.prog [(0, [1]), (1, [2])] Try.f240 = some (unF l240) := by kernel_rfl
/-- slices.IndexFunc[[][]int,[]int] -/
def b244_0 : LCode :=
 (.seq
 (.reg true [] [] [
 ⟨(some 9), (.bin 0 .lss), [(.t 8), (.t 7)], none, []⟩] 0 [0, 1, 7, 8, 9])
 (.seq
 (.cond (.t 9)
 .skip
 (.exit 0))
 (.seq
 (.block 1
 (.seq
 (.reg true [] [] [
 ⟨(some 10), .mv, [(.t 8)], none, []⟩,
 ⟨(some 5), .mv, [(.t 10)], none, []⟩] 0 [0, 1, 5, 7, 8])
 (.seq
 (.reg true [] [] [
 ⟨(some 11), .mv, [(.t 1)], none, []⟩,
 ⟨(some 12), .mv, [(.t 0)], none, []⟩,
 ⟨(some 13), .mv, [(.t 5)], none, []⟩,
 ⟨(some 14), (.ixs 1), [(.t 12), (.t 13)], none, []⟩,
 ⟨(some 15), (.load none), [(.t 14)], none, []⟩,
 ⟨(some 16), (.call false false false), [(.t 11), (.t 15)], none, []⟩] 0 [0, 1, 5, 7, 8, 16])
 (.cond (.t 16)
 (.seq
 (.reg true [] [] [
 ⟨(some 17), .mv, [(.t 5)], none, []⟩,
 ⟨(some 4), .mv, [(.t 17)], none, []⟩] 0 [4])
 .ret)
 .skip))))
 (.reg true [] [] [
 ⟨(some 18), (.bin 0 .add), [(.t 8), (.c (.int .i64 1))], none, []⟩,
 ⟨(some 8), .mv, [(.t 18)], none, []⟩] 0 [0, 1, 7, 8]))))
def l244 : LFun := ⟨2, 19, [],
 (.seq
 (.reg false [] [] [
 ⟨(some 4), .mv, [(.c (.int .i64 0))], none, []⟩] 0 [0, 1])
 (.seq
 (.seq
 (.reg false [] [] [
 ⟨(some 6), .mv, [(.t 0)], none, []⟩,
 ⟨(some 7), .len, [(.t 6)], none, []⟩,
 ⟨(some 8), .mv, [(.c (.int .i64 0))], none, []⟩] 0 [0, 1, 7, 8])
 (.block 0
 (.loop b244_0)))
 (.seq
 (.reg false [] [] [
 ⟨(some 4), .mv, [(.c (.int .i64 (-1)))], none, []⟩] 0 [4])
 .ret))),
 [(.t 4)]⟩
theorem c244 : funC Try.prog [(0, [0, 1]), (1, [0, 1, 7, 8]), (2, [0, 1, 7, 8, 9]), (3, [0, 1, 5, 7, 8]), (4, [0, 1, 5, 7, 8, 16]), (5, [4]), (6, [0, 1, 7, 8]), (7, [4])] Try.f244 = some (unF l244) := by kernel_rfl
end Go.Lo
