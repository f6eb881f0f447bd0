/- Texts put together. -/
import Derived.Test.YtohdbgibdopinaaPe
import Derived.Test.YtohdbgibdopinaaProg
import Derived.KernelRfl
/- The functions that are reached, compiled for the plain machine. -/
namespace Go.Lo
open Go.Proofs
/-- acme/acmetop.TopDieZone -/
def b3_0 : LCode :=
 (.seq
 (.seq
 (.reg true [] [] [
 ⟨(some 117), .mv, [(.t 21)], none, []⟩,
 ⟨(some 118), .mv, [(.t 18)], none, []⟩,
 ⟨(some 119), .len, [(.t 118)], none, []⟩,
 ⟨(some 120), (.bin 0 .lss), [(.t 117), (.t 119)], none, []⟩,
 ⟨(some 121), .mv, [(.t 120)], none, []⟩,
 ⟨(some 122), .mv, [(.t 19)], (some (121, true)), []⟩,
 ⟨(some 123), .pick, [(.t 121), (.t 122), (.c (.bool false))], none, []⟩] 0 [3, 9, 11, 13, 15, 16, 18, 19, 21, 123])
 (.cond (.t 123)
 .skip
 (.exit 0)))
 (.seq
 (.block 1
 (.seq
 (.reg true [] [] [
 ⟨(some 126), .mv, [(.t 18)], none, [127, 130, 131, 132, 133, 134, 135, 136, 137, 138]⟩,
 ⟨(some 127), .mv, [(.t 21)], none, [126, 130, 131, 132, 133, 134, 135, 136, 137, 138]⟩,
 ⟨(some 128), (.ixs 1), [(.t 126), (.t 127)], none, [130, 131, 132, 133, 134, 135, 136, 137, 138]⟩,
 ⟨(some 129), (.load none), [(.t 128)], none, [130, 131, 132, 133, 134, 135, 136, 137, 138]⟩,
 ⟨(some 130), (.fa 0), [(.t 15)], none, [126, 127, 128, 129, 132, 133, 134, 135, 136]⟩,
 ⟨(some 131), (.load (some 2)), [(.t 130)], none, [126, 127, 128, 129, 132, 133, 134, 135, 136]⟩,
 ⟨(some 132), (.fa 7), [(.t 3)], none, [126, 127, 128, 129, 130, 131, 134]⟩,
 ⟨(some 133), (.load none), [(.t 132)], none, [126, 127, 128, 129, 130, 131, 134]⟩,
 ⟨(some 134), .mv, [(.t 21)], none, [126, 127, 128, 129, 130, 131, 132, 133]⟩,
 ⟨(some 135), (.call true false false), [(.f 14), (.t 133), (.t 134)], none, [126, 127, 128, 129, 130, 131]⟩,
 ⟨(some 136), (.conv .u8), [(.t 135)], none, [126, 127, 128, 129, 130, 131]⟩,
 ⟨(some 137), (.call true false false), [(.f 13), (.t 131), (.t 136)], none, [126, 127, 128, 129]⟩,
 ⟨(some 138), (.bin 0 .mul), [(.c (.int .i64 4)), (.t 137)], none, [126, 127, 128, 129]⟩,
 ⟨(some 139), (.bin 0 .add), [(.t 129), (.t 138)], none, []⟩,
 ⟨(some 22), .mv, [(.t 139)], none, []⟩] 0 [3, 9, 11, 13, 15, 16, 18, 19, 21, 22])
 (.seq
 (.reg true [] [] [
 ⟨(some 140), .mv, [(.t 18)], none, [141, 144, 145]⟩,
 ⟨(some 141), .mv, [(.t 21)], none, [140, 144, 145]⟩,
 ⟨(some 142), (.ixs 1), [(.t 140), (.t 141)], none, [144, 145]⟩,
 ⟨(some 143), (.load none), [(.t 142)], none, [144, 145]⟩,
 ⟨(some 144), (.fa 0), [(.t 16)], none, [140, 141, 142, 143]⟩,
 ⟨(some 145), (.load none), [(.t 144)], none, [140, 141, 142, 143]⟩,
 ⟨(some 146), (.bin 0 .lss), [(.t 143), (.t 145)], none, []⟩,
 ⟨(some 147), .mv, [(.t 146)], none, []⟩,
 ⟨(some 148), .mv, [(.t 18)], (some (147, false)), [149, 152, 153]⟩,
 ⟨(some 149), .mv, [(.t 21)], (some (147, false)), [148, 152, 153]⟩,
 ⟨(some 150), (.ixs 1), [(.t 148), (.t 149)], (some (147, false)), [152, 153]⟩,
 ⟨(some 151), (.load none), [(.t 150)], (some (147, false)), [152, 153]⟩,
 ⟨(some 152), (.fa 1), [(.t 16)], (some (147, false)), [148, 149, 150, 151]⟩,
 ⟨(some 153), (.load none), [(.t 152)], (some (147, false)), [148, 149, 150, 151]⟩,
 ⟨(some 154), (.bin 0 .gtr), [(.t 151), (.t 153)], (some (147, false)), []⟩,
 ⟨(some 155), .pick, [(.t 147), (.c (.bool true)), (.t 154)], none, []⟩,
 ⟨(some 156), .mv, [(.t 155)], none, []⟩,
 ⟨(some 157), .mv, [(.t 22)], (some (156, false)), [158, 159]⟩,
 ⟨(some 158), (.fa 0), [(.t 9)], (some (156, false)), [157]⟩,
 ⟨(some 159), (.load none), [(.t 158)], (some (156, false)), [157]⟩,
 ⟨(some 160), (.bin 0 .lss), [(.t 157), (.t 159)], (some (156, false)), []⟩,
 ⟨(some 161), .pick, [(.t 156), (.c (.bool true)), (.t 160)], none, []⟩,
 ⟨(some 162), .mv, [(.t 161)], none, []⟩,
 ⟨(some 163), .mv, [(.t 22)], (some (162, false)), [164, 165]⟩,
 ⟨(some 164), (.fa 1), [(.t 9)], (some (162, false)), [163]⟩,
 ⟨(some 165), (.load none), [(.t 164)], (some (162, false)), [163]⟩,
 ⟨(some 166), (.bin 0 .gtr), [(.t 163), (.t 165)], (some (162, false)), []⟩,
 ⟨(some 167), .pick, [(.t 162), (.c (.bool true)), (.t 166)], none, []⟩,
 ⟨(some 168), .mv, [(.t 167)], none, []⟩,
 ⟨(some 169), (.fa 0), [(.t 11)], (some (168, false)), [171, 173, 174]⟩,
 ⟨(some 170), (.load none), [(.t 169)], (some (168, false)), [171, 173, 174]⟩,
 ⟨(some 171), .mv, [(.t 22)], (some (168, false)), [169, 170, 173, 174]⟩,
 ⟨(some 172), (.bin 0 .sub), [(.t 170), (.t 171)], (some (168, false)), [173, 174]⟩,
 ⟨(some 173), (.fa 0), [(.t 13)], (some (168, false)), [169, 170, 171, 172]⟩,
 ⟨(some 174), (.load none), [(.t 173)], (some (168, false)), [169, 170, 171, 172]⟩,
 ⟨(some 175), (.bin 0 .lss), [(.t 172), (.t 174)], (some (168, false)), []⟩,
 ⟨(some 176), .pick, [(.t 168), (.c (.bool true)), (.t 175)], none, []⟩,
 ⟨(some 177), .mv, [(.t 176)], none, []⟩,
 ⟨(some 178), (.fa 1), [(.t 11)], (some (177, false)), [180, 182, 183]⟩,
 ⟨(some 179), (.load none), [(.t 178)], (some (177, false)), [180, 182, 183]⟩,
 ⟨(some 180), .mv, [(.t 22)], (some (177, false)), [178, 179, 182, 183]⟩,
 ⟨(some 181), (.bin 0 .sub), [(.t 179), (.t 180)], (some (177, false)), [182, 183]⟩,
 ⟨(some 182), (.fa 1), [(.t 13)], (some (177, false)), [178, 179, 180, 181]⟩,
 ⟨(some 183), (.load none), [(.t 182)], (some (177, false)), [178, 179, 180, 181]⟩,
 ⟨(some 184), (.bin 0 .gtr), [(.t 181), (.t 183)], (some (177, false)), []⟩,
 ⟨(some 185), .pick, [(.t 177), (.c (.bool true)), (.t 184)], none, []⟩] 0 [3, 9, 11, 13, 15, 16, 18, 19, 21, 185])
 (.cond (.t 185)
 (.seq
 (.reg true [] [] [
 ⟨(some 6), .mv, [(.c (.bool false))], none, []⟩] 0 [6])
 .ret)
 .skip))))
 (.reg true [] [] [
 ⟨(some 124), .mv, [(.t 21)], none, []⟩,
 ⟨(some 125), (.bin 0 .add), [(.t 124), (.c (.int .i64 1))], none, []⟩,
 ⟨(some 21), .mv, [(.t 125)], none, []⟩] 0 [3, 9, 11, 13, 15, 16, 18, 19, 21])))
def l3 : LFun := ⟨3, 190, [],
 (.seq
 (.reg false [3, 4, 5] [3, 4, 5] [
 ⟨(some 3), .box, [(.t 0)], none, []⟩,
 ⟨(some 4), .box, [(.t 1)], none, []⟩,
 ⟨(some 5), .box, [(.t 2)], none, []⟩,
 ⟨(some 6), .mv, [(.c (.bool false))], none, []⟩] 0 [3, 4, 5])
 (.seq
 (.reg false [23, 27, 31, 32, 37, 38, 7] [23, 27, 31, 32, 37, 38, 7] [
 ⟨(some 23), (.bsl 1 [(.int .i64 0)] 1 [0]), [(.c (.int .i64 100000))], none, []⟩,
 ⟨(some 24), (.ixa 3 1), [(.t 4), (.c (.int .i64 0))], none, []⟩,
 ⟨(some 25), (.load none), [(.t 24)], none, []⟩,
 ⟨(some 26), (.conv .i64), [(.t 25)], none, []⟩,
 ⟨(some 27), (.bsl 1 [(.int .i64 0)] 1 [0]), [(.t 26)], none, []⟩,
 ⟨(some 28), (.ixa 3 1), [(.t 4), (.c (.int .i64 1))], none, []⟩,
 ⟨(some 29), (.load none), [(.t 28)], none, []⟩,
 ⟨(some 30), (.conv .i64), [(.t 29)], none, []⟩,
 ⟨(some 31), (.bsl 1 [(.int .i64 0)] 1 [0]), [(.t 30)], none, []⟩,
 ⟨(some 32), (.bsl 1 [.nil] 2 [0, 1]), [(.t 27), (.t 31)], none, []⟩,
 ⟨(some 33), (.ixa 3 1), [(.t 4), (.c (.int .i64 2))], none, []⟩,
 ⟨(some 34), (.load none), [(.t 33)], none, []⟩,
 ⟨(some 35), (.conv .i64), [(.t 34)], none, []⟩,
 ⟨(some 36), (.bin 0 .rem), [(.t 35), (.c (.int .i64 50))], none, []⟩,
 ⟨(some 37), (.bsl 1 [(.int .i64 0)] 1 [0]), [(.t 36)], none, []⟩,
 ⟨(some 38), (.bsl 1 [.nil] 1 [0]), [(.t 37)], none, []⟩,
 ⟨(some 39), (.build [(.sl none 1 []), (.sl none 1 []), (.sl none 1 [])] [(0, 1), (1, 1), (2, 1)]), [(.t 23), (.t 32), (.t 38)], none, []⟩,
 ⟨(some 7), (.alloc [(.sl none 1 []), (.sl none 1 []), (.sl none 1 [])]), [], none, []⟩,
 ⟨none, (.store 3 none), [(.t 7), (.t 39)], none, []⟩] 0 [3, 5, 7])
 (.seq
 (.reg false [8] [8] [
 ⟨(some 40), (.build [(.int .i64 0), (.int .i64 0)] [(1, 1)]), [(.c (.int .i64 1))], none, []⟩,
 ⟨(some 41), (.build [(.int .i64 0), (.int .i64 0), (.int .i64 0), (.int .i64 0)] [(2, 2)]), [(.t 40)], none, []⟩,
 ⟨(some 8), (.alloc [(.int .i64 0), (.int .i64 0), (.int .i64 0), (.int .i64 0)]), [], none, []⟩,
 ⟨none, (.store 4 none), [(.t 8), (.t 41)], none, []⟩] 0 [3, 5, 7, 8])
 (.seq
 (.reg false [9] [9] [
 ⟨(some 43), (.load (some 3)), [(.t 7)], none, []⟩,
 ⟨(some 44), (.fa 0), [(.t 8)], none, []⟩,
 ⟨(some 45), (.load (some 2)), [(.t 44)], none, []⟩,
 ⟨(some 46), (.call false false false), [(.f 6), (.t 43), (.t 45), (.c (.bool false)), (.c (.int .i64 90000))], none, []⟩,
 ⟨(some 42), .mv, [(.t 46)], none, []⟩,
 ⟨(some 47), (.ext 0), [(.t 42)], none, []⟩,
 ⟨(some 48), (.ext 1), [(.t 42)], none, []⟩,
 ⟨(some 9), (.alloc [(.int .i64 0), (.int .i64 0)]), [], none, []⟩,
 ⟨none, (.store 2 none), [(.t 9), (.t 47)], none, []⟩,
 ⟨(some 10), .mv, [(.t 48)], none, []⟩] 0 [3, 5, 7, 8, 9, 10])
 (.seq
 (.reg false [11] [11] [
 ⟨(some 50), (.load (some 3)), [(.t 7)], none, []⟩,
 ⟨(some 51), (.fa 2), [(.t 8)], none, []⟩,
 ⟨(some 52), (.load (some 2)), [(.t 51)], none, []⟩,
 ⟨(some 53), (.call false false false), [(.f 6), (.t 50), (.t 52), (.c (.bool true)), (.c (.int .i64 90000))], none, []⟩,
 ⟨(some 49), .mv, [(.t 53)], none, []⟩,
 ⟨(some 54), (.ext 0), [(.t 49)], none, []⟩,
 ⟨(some 55), (.ext 1), [(.t 49)], none, []⟩,
 ⟨(some 11), (.alloc [(.int .i64 0), (.int .i64 0)]), [], none, []⟩,
 ⟨none, (.store 2 none), [(.t 11), (.t 54)], none, []⟩,
 ⟨(some 12), .mv, [(.t 55)], none, []⟩] 0 [3, 5, 7, 8, 9, 10, 11, 12])
 (.seq
 (.reg false [13] [13] [
 ⟨(some 57), (.load (some 3)), [(.t 7)], none, []⟩,
 ⟨(some 58), (.load (some 4)), [(.t 8)], none, []⟩,
 ⟨(some 59), (.call false false false), [(.f 7), (.t 57), (.t 58), (.c (.int .i64 90000))], none, []⟩,
 ⟨(some 56), .mv, [(.t 59)], none, []⟩,
 ⟨(some 60), (.ext 0), [(.t 56)], none, []⟩,
 ⟨(some 61), (.ext 1), [(.t 56)], none, []⟩,
 ⟨(some 13), (.alloc [(.int .i64 0), (.int .i64 0)]), [], none, []⟩,
 ⟨none, (.store 2 none), [(.t 13), (.t 60)], none, []⟩,
 ⟨(some 14), .mv, [(.t 61)], none, []⟩] 0 [3, 5, 9, 10, 11, 12, 13, 14])
 (.seq
 (.reg false [15] [15] [
 ⟨(some 62), (.ixa 2 1), [(.t 5), (.c (.int .i64 0))], none, []⟩,
 ⟨(some 63), (.load none), [(.t 62)], none, []⟩,
 ⟨(some 64), (.conv .i64), [(.t 63)], none, []⟩,
 ⟨(some 65), (.bin 0 .rem), [(.t 64), (.c (.int .i64 9))], none, []⟩,
 ⟨(some 66), (.ixa 2 1), [(.t 5), (.c (.int .i64 0))], none, []⟩,
 ⟨(some 67), (.load none), [(.t 66)], none, []⟩,
 ⟨(some 68), (.conv .i64), [(.t 67)], none, []⟩,
 ⟨(some 69), (.bin 0 .rem), [(.t 68), (.c (.int .i64 9))], none, []⟩,
 ⟨(some 70), (.ixa 2 1), [(.t 5), (.c (.int .i64 1))], none, []⟩,
 ⟨(some 71), (.load none), [(.t 70)], none, []⟩,
 ⟨(some 72), (.conv .i64), [(.t 71)], none, []⟩,
 ⟨(some 73), (.bin 0 .rem), [(.t 72), (.c (.int .i64 4))], none, []⟩,
 ⟨(some 74), (.bin 0 .add), [(.t 69), (.t 73)], none, []⟩,
 ⟨(some 75), (.call false false false), [(.f 8), (.t 65), (.t 74)], none, []⟩,
 ⟨(some 76), (.build [(.int .i64 0), (.int .i64 0)] [(0, 1), (1, 1)]), [(.c (.int .i64 4)), (.c (.int .i64 1))], none, []⟩,
 ⟨(some 77), (.build [(.int .i64 0), (.int .i64 0), (.int .i64 0), (.int .i64 0)] [(0, 2), (2, 2)]), [(.t 75), (.t 76)], none, []⟩,
 ⟨(some 15), (.alloc [(.int .i64 0), (.int .i64 0), (.int .i64 0), (.int .i64 0)]), [], none, []⟩,
 ⟨none, (.store 4 none), [(.t 15), (.t 77)], none, []⟩] 0 [3, 9, 10, 11, 12, 13, 14, 15])
 (.seq
 (.reg false [16] [16] [
 ⟨(some 79), (.load (some 2)), [(.t 9)], none, []⟩,
 ⟨(some 80), (.load (some 4)), [(.t 15)], none, []⟩,
 ⟨(some 81), (.call false false false), [(.f 9), (.t 79), (.c (.bool false)), (.t 80)], none, []⟩,
 ⟨(some 78), .mv, [(.t 81)], none, []⟩,
 ⟨(some 82), (.ext 0), [(.t 78)], none, []⟩,
 ⟨(some 83), (.ext 1), [(.t 78)], none, []⟩,
 ⟨(some 16), (.alloc [(.int .i64 0), (.int .i64 0)]), [], none, []⟩,
 ⟨none, (.store 2 none), [(.t 16), (.t 82)], none, []⟩,
 ⟨(some 17), .mv, [(.t 83)], none, []⟩] 0 [3, 9, 10, 11, 12, 13, 14, 15, 16, 17])
 (.seq
 (.seq
 (.reg false [] [] [
 ⟨(some 84), .mv, [(.t 10)], none, []⟩,
 ⟨(some 85), (.bin 0 .neq), [(.t 84), (.c (.int .i64 0))], none, []⟩,
 ⟨(some 86), .mv, [(.t 85)], none, []⟩,
 ⟨(some 87), .mv, [(.t 12)], (some (86, false)), []⟩,
 ⟨(some 88), (.bin 0 .neq), [(.t 87), (.c (.int .i64 0))], (some (86, false)), []⟩,
 ⟨(some 89), .pick, [(.t 86), (.c (.bool true)), (.t 88)], none, []⟩,
 ⟨(some 90), .mv, [(.t 89)], none, []⟩,
 ⟨(some 91), .mv, [(.t 14)], (some (90, false)), []⟩,
 ⟨(some 92), (.bin 0 .neq), [(.t 91), (.c (.int .i64 0))], (some (90, false)), []⟩,
 ⟨(some 93), .pick, [(.t 90), (.c (.bool true)), (.t 92)], none, []⟩,
 ⟨(some 94), .mv, [(.t 93)], none, []⟩,
 ⟨(some 95), .mv, [(.t 17)], (some (94, false)), []⟩,
 ⟨(some 96), (.bin 0 .neq), [(.t 95), (.c (.int .i64 0))], (some (94, false)), []⟩,
 ⟨(some 97), .mv, [(.t 96)], (some (94, false)), []⟩,
 ⟨(some 98), .mv, [(.t 17)], (some (97, true)), []⟩,
 ⟨(some 99), (.bin 0 .neq), [(.t 98), (.c (.int .i64 9))], (some (97, true)), []⟩,
 ⟨(some 100), .pick, [(.t 97), (.t 99), (.c (.bool false))], (some (94, false)), []⟩,
 ⟨(some 101), .pick, [(.t 94), (.c (.bool true)), (.t 100)], none, []⟩] 0 [3, 9, 11, 13, 15, 16, 17, 101])
 (.cond (.t 101)
 (.seq
 (.reg false [] [] [
 ⟨(some 6), .mv, [(.c (.bool false))], none, []⟩] 0 [6])
 .ret)
 .skip))
 (.seq
 (.seq
 (.reg false [] [] [
 ⟨(some 102), .mv, [(.t 17)], none, []⟩,
 ⟨(some 103), (.bin 0 .neq), [(.t 102), (.c (.int .i64 0))], none, []⟩] 0 [3, 9, 11, 13, 15, 16, 103])
 (.cond (.t 103)
 (.seq
 (.reg false [] [] [
 ⟨(some 104), (.call false false false), [(.f 10)], none, []⟩,
 ⟨(some 105), .mv, [(.t 104)], none, []⟩,
 ⟨(some 106), (.call false false false), [(.f 11)], (some (105, true)), []⟩,
 ⟨(some 107), .pick, [(.t 105), (.t 106), (.c (.bool false))], none, []⟩,
 ⟨(some 6), .mv, [(.t 107)], none, []⟩] 0 [6])
 .ret)
 .skip))
 (.seq
 (.reg false [111] [111] [
 ⟨(some 109), (.load (some 8)), [(.t 3)], none, []⟩,
 ⟨(some 110), (.load (some 2)), [(.t 16)], none, []⟩,
 ⟨(some 111), (.call false false true), [(.f 12), (.t 109), (.t 110)], none, []⟩,
 ⟨(some 108), .mv, [(.t 111)], none, []⟩,
 ⟨(some 112), (.ext 0), [(.t 108)], none, []⟩,
 ⟨(some 113), (.ext 1), [(.t 108)], none, []⟩,
 ⟨(some 114), (.ext 2), [(.t 108)], none, []⟩,
 ⟨(some 18), .mv, [(.t 112)], none, []⟩,
 ⟨(some 19), .mv, [(.t 113)], none, []⟩,
 ⟨(some 20), .mv, [(.t 114)], none, []⟩] 0 [3, 9, 11, 13, 15, 16, 18, 19, 20])
 (.seq
 (.seq
 (.reg false [] [] [
 ⟨(some 115), .mv, [(.t 20)], none, []⟩,
 ⟨(some 116), (.un .not), [(.t 115)], none, []⟩] 0 [3, 9, 11, 13, 15, 16, 18, 19, 116])
 (.cond (.t 116)
 (.seq
 (.reg false [] [] [
 ⟨(some 6), .mv, [(.c (.bool false))], none, []⟩] 0 [6])
 .ret)
 .skip))
 (.seq
 (.seq
 (.reg false [] [] [
 ⟨(some 21), .mv, [(.c (.int .i64 0))], none, []⟩] 0 [3, 9, 11, 13, 15, 16, 18, 19, 21])
 (.block 0
 (.loop b3_0)))
 (.seq
 (.reg false [] [] [
 ⟨(some 186), (.call false false false), [(.f 10)], none, []⟩,
 ⟨(some 187), .mv, [(.t 186)], none, []⟩,
 ⟨(some 188), (.call false false false), [(.f 11)], (some (187, true)), []⟩,
 ⟨(some 189), .pick, [(.t 187), (.t 188), (.c (.bool false))], none, []⟩,
 ⟨(some 6), .mv, [(.t 189)], none, []⟩] 0 [6])
 .ret)))))))))))))),
 [(.t 6)]⟩
theorem c3 : funC Try.prog [(0, [3, 4, 5]), (1, [3, 5, 7]), (2, [3, 5, 7, 8]), (3, [3, 5, 7, 8, 9, 10]), (4, [3, 5, 7, 8, 9, 10, 11, 12]), (5, [3, 5, 9, 10, 11, 12, 13, 14]), (6, [3, 9, 10, 11, 12, 13, 14, 15]), (7, [3, 9, 10, 11, 12, 13, 14, 15, 16, 17]), (8, [3, 9, 11, 13, 15, 16, 17, 101]), (9, [6]), (10, [3, 9, 11, 13, 15, 16, 103]), (11, [6]), (12, [3, 9, 11, 13, 15, 16, 18, 19, 20]), (13, [3, 9, 11, 13, 15, 16, 18, 19, 116]), (14, [6]), (15, [3, 9, 11, 13, 15, 16, 18, 19, 21]), (16, [3, 9, 11, 13, 15, 16, 18, 19, 21, 123]), (17, [3, 9, 11, 13, 15, 16, 18, 19, 21]), (18, [3, 9, 11, 13, 15, 16, 18, 19, 21, 22]), (19, [3, 9, 11, 13, 15, 16, 18, 19, 21, 185]), (20, [6]), (21, [6])] Try.f3 = some (unF l3) := by kernel_rfl
/-- acme/zone.Limits -/
def l6 : LFun := ⟨4, 33, [],
 (.seq
 (.reg false [4, 5, 8] [4, 5, 8] [
 ⟨(some 4), .box, [(.t 0)], none, []⟩,
 ⟨(some 5), .box, [(.t 1)], none, []⟩,
 ⟨(some 8), (.alloc [(.int .i64 0), (.int .i64 0)]), [], none, []⟩,
 ⟨(some 9), .mv, [(.c (.int .i64 0))], none, []⟩] 0 [2, 3, 4, 5, 8])
 (.seq
 (.reg false [17, 18, 10] [17, 18, 10] [
 ⟨(some 14), (.load (some 3)), [(.t 4)], none, []⟩,
 ⟨(some 15), .mv, [(.t 3)], none, []⟩,
 ⟨(some 16), (.load (some 2)), [(.t 5)], none, []⟩,
 ⟨(some 17), (.bsl 2 [(.int .i64 0), (.int .i64 0)] 1 [0]), [(.t 16)], none, []⟩,
 ⟨(some 18), (.call false true true), [(.f 22), (.t 14), (.t 15), (.t 17)], none, []⟩,
 ⟨(some 13), .mv, [(.t 18)], none, []⟩,
 ⟨(some 19), (.ext 0), [(.t 13)], none, []⟩,
 ⟨(some 20), (.ext 1), [(.t 13)], none, []⟩,
 ⟨(some 21), (.ext 2), [(.t 13)], none, []⟩,
 ⟨(some 10), (.alloc [.nil, (.sl none 1 []), (.sl none 1 [])]), [], none, []⟩,
 ⟨none, (.store 3 none), [(.t 10), (.t 19)], none, []⟩,
 ⟨(some 11), .mv, [(.t 20)], none, []⟩,
 ⟨(some 12), .mv, [(.t 21)], none, []⟩] 0 [2, 3, 5, 8, 10, 11, 12])
 (.seq
 (.seq
 (.reg false [] [] [
 ⟨(some 22), .mv, [(.t 12)], none, []⟩,
 ⟨(some 23), (.bin 0 .neq), [(.t 22), (.c (.int .i64 0))], none, []⟩] 0 [2, 3, 5, 8, 10, 11, 12, 23])
 (.cond (.t 23)
 (.seq
 (.reg false [] [] [
 ⟨(some 24), (.build [(.int .i64 0), (.int .i64 0)] []), [], none, []⟩,
 ⟨(some 25), .mv, [(.t 12)], none, []⟩,
 ⟨none, (.store 2 none), [(.t 8), (.t 24)], none, []⟩,
 ⟨(some 9), .mv, [(.t 25)], none, []⟩] 0 [8, 9])
 .ret)
 .skip))
 (.seq
 (.reg false [] [] [
 ⟨(some 26), (.load (some 3)), [(.t 10)], none, []⟩,
 ⟨(some 27), (.load (some 2)), [(.t 5)], none, []⟩,
 ⟨(some 28), .mv, [(.t 2)], none, []⟩,
 ⟨(some 29), .mv, [(.t 3)], none, []⟩,
 ⟨(some 30), .mv, [(.t 11)], none, []⟩,
 ⟨(some 31), (.call false false false), [(.f 23), (.t 26), (.t 27), (.t 28), (.t 29), (.t 30)], none, []⟩,
 ⟨(some 32), (.fld 0 (some 2)), [(.t 31)], none, []⟩,
 ⟨none, (.store 2 none), [(.t 8), (.t 32)], none, []⟩,
 ⟨(some 9), .mv, [(.c (.int .i64 0))], none, []⟩] 0 [8, 9])
 .ret)))),
 [(.c 8 (some 2)), (.t 9)]⟩
theorem c6 : funC Try.prog [(0, [2, 3, 4, 5, 8]), (1, [2, 3, 5, 8, 10, 11, 12]), (2, [2, 3, 5, 8, 10, 11, 12, 23]), (3, [8, 9]), (4, [8, 9])] Try.f6 = some (unF l6) := by kernel_rfl
/-- acme/zone.Play -/
def l7 : LFun := ⟨3, 33, [],
 (.seq
 (.reg false [3, 4, 6] [3, 4, 6] [
 ⟨(some 3), .box, [(.t 0)], none, []⟩,
 ⟨(some 4), .box, [(.t 1)], none, []⟩,
 ⟨(some 6), (.alloc [(.int .i64 0), (.int .i64 0)]), [], none, []⟩,
 ⟨(some 7), .mv, [(.c (.int .i64 0))], none, []⟩] 0 [2, 3, 4, 6])
 (.seq
 (.reg false [18, 19, 8] [18, 19, 8] [
 ⟨(some 12), (.load (some 3)), [(.t 3)], none, []⟩,
 ⟨(some 13), .mv, [(.t 2)], none, []⟩,
 ⟨(some 14), (.fa 0), [(.t 4)], none, []⟩,
 ⟨(some 15), (.load (some 2)), [(.t 14)], none, []⟩,
 ⟨(some 16), (.fa 2), [(.t 4)], none, []⟩,
 ⟨(some 17), (.load (some 2)), [(.t 16)], none, []⟩,
 ⟨(some 18), (.bsl 2 [(.int .i64 0), (.int .i64 0)] 2 [0, 1]), [(.t 15), (.t 17)], none, []⟩,
 ⟨(some 19), (.call false true true), [(.f 22), (.t 12), (.t 13), (.t 18)], none, []⟩,
 ⟨(some 11), .mv, [(.t 19)], none, []⟩,
 ⟨(some 20), (.ext 0), [(.t 11)], none, []⟩,
 ⟨(some 21), (.ext 1), [(.t 11)], none, []⟩,
 ⟨(some 22), (.ext 2), [(.t 11)], none, []⟩,
 ⟨(some 8), (.alloc [.nil, (.sl none 1 []), (.sl none 1 [])]), [], none, []⟩,
 ⟨none, (.store 3 none), [(.t 8), (.t 20)], none, []⟩,
 ⟨(some 9), .mv, [(.t 21)], none, []⟩,
 ⟨(some 10), .mv, [(.t 22)], none, []⟩] 0 [2, 4, 6, 8, 9, 10])
 (.seq
 (.seq
 (.reg false [] [] [
 ⟨(some 23), .mv, [(.t 10)], none, []⟩,
 ⟨(some 24), (.bin 0 .neq), [(.t 23), (.c (.int .i64 0))], none, []⟩] 0 [2, 4, 6, 8, 9, 10, 24])
 (.cond (.t 24)
 (.seq
 (.reg false [] [] [
 ⟨(some 25), (.build [(.int .i64 0), (.int .i64 0)] []), [], none, []⟩,
 ⟨(some 26), .mv, [(.t 10)], none, []⟩,
 ⟨none, (.store 2 none), [(.t 6), (.t 25)], none, []⟩,
 ⟨(some 7), .mv, [(.t 26)], none, []⟩] 0 [6, 7])
 .ret)
 .skip))
 (.seq
 (.reg false [] [] [
 ⟨(some 27), (.load (some 3)), [(.t 8)], none, []⟩,
 ⟨(some 28), (.load (some 4)), [(.t 4)], none, []⟩,
 ⟨(some 29), .mv, [(.t 2)], none, []⟩,
 ⟨(some 30), .mv, [(.t 9)], none, []⟩,
 ⟨(some 31), (.call false false false), [(.f 24), (.t 27), (.t 28), (.t 29), (.t 30)], none, []⟩,
 ⟨(some 32), (.fld 0 (some 2)), [(.t 31)], none, []⟩,
 ⟨none, (.store 2 none), [(.t 6), (.t 32)], none, []⟩,
 ⟨(some 7), .mv, [(.c (.int .i64 0))], none, []⟩] 0 [6, 7])
 .ret)))),
 [(.c 6 (some 2)), (.t 7)]⟩
theorem c7 : funC Try.prog [(0, [2, 3, 4, 6]), (1, [2, 4, 6, 8, 9, 10]), (2, [2, 4, 6, 8, 9, 10, 24]), (3, [6, 7]), (4, [6, 7])] Try.f7 = some (unF l7) := by kernel_rfl
/-- acme/acmetop.armSpan -/
def l8 : LFun := ⟨2, 8, [],
 (.seq
 (.reg false [4] [4] [
 ⟨(some 4), (.alloc [(.int .i64 0), (.int .i64 0)]), [], none, []⟩] 0 [0, 1, 4])
 (.seq
 (.reg false [] [] [
 ⟨(some 5), .mv, [(.t 0)], none, []⟩,
 ⟨(some 6), .mv, [(.t 1)], none, []⟩,
 ⟨(some 7), (.build [(.int .i64 0), (.int .i64 0)] [(0, 1), (1, 1)]), [(.t 5), (.t 6)], none, []⟩,
 ⟨none, (.store 2 none), [(.t 4), (.t 7)], none, []⟩] 0 [4])
 .ret)),
 [(.c 4 (some 2))]⟩
theorem c8 : funC Try.prog [(0, [0, 1, 4]), (1, [4])] Try.f8 = some (unF l8) := by kernel_rfl
/-- acme/zone.Before -/
def l9 : LFun := ⟨3, 44, [],
 (.seq
 (.reg false [3, 5, 6] [3, 5, 6] [
 ⟨(some 3), .box, [(.t 0)], none, []⟩,
 ⟨(some 5), .box, [(.t 2)], none, []⟩,
 ⟨(some 6), (.alloc [(.int .i64 0), (.int .i64 0)]), [], none, []⟩,
 ⟨(some 7), .mv, [(.c (.int .i64 0))], none, []⟩] 0 [1, 3, 5, 6])
 (.seq
 (.reg false [8] [8] [
 ⟨(some 10), (.load (some 2)), [(.t 3)], none, []⟩,
 ⟨(some 11), .mv, [(.t 1)], none, []⟩,
 ⟨(some 12), (.load (some 4)), [(.t 5)], none, []⟩,
 ⟨(some 13), (.call false false false), [(.f 25), (.t 10), (.t 11), (.t 12)], none, []⟩,
 ⟨(some 9), .mv, [(.t 13)], none, []⟩,
 ⟨(some 14), (.ext 0), [(.t 9)], none, []⟩,
 ⟨(some 15), (.ext 1), [(.t 9)], none, []⟩,
 ⟨(some 8), (.alloc [(.int .i64 0), (.int .i64 0), (.int .i64 0), (.int .i64 0), (.int .i64 0), (.int .i64 0)]), [], none, []⟩,
 ⟨none, (.store 6 none), [(.t 8), (.t 14)], none, []⟩,
 ⟨(some 7), .mv, [(.t 15)], none, []⟩] 0 [3, 6, 7, 8])
 (.seq
 (.seq
 (.reg false [] [] [
 ⟨(some 16), .mv, [(.t 7)], none, []⟩,
 ⟨(some 17), (.bin 0 .neq), [(.t 16), (.c (.int .i64 0))], none, []⟩] 0 [3, 6, 7, 8, 17])
 (.cond (.t 17)
 (.seq
 (.reg false [] [] [
 ⟨(some 18), (.load (some 2)), [(.t 6)], none, []⟩,
 ⟨(some 19), .mv, [(.t 7)], none, []⟩,
 ⟨none, (.store 2 none), [(.t 6), (.t 18)], none, []⟩,
 ⟨(some 7), .mv, [(.t 19)], none, []⟩] 0 [6, 7])
 .ret)
 .skip))
 (.seq
 (.reg false [] [] [
 ⟨(some 20), (.fa 0), [(.t 3)], none, [22, 23, 24, 25, 26, 28, 29, 30, 31, 32, 33, 34, 35]⟩,
 ⟨(some 21), (.load none), [(.t 20)], none, [22, 23, 24, 25, 26, 28, 29, 30, 31, 32, 33, 34, 35]⟩,
 ⟨(some 22), (.load (some 6)), [(.t 8)], none, [20, 21, 23, 24, 25, 28, 29, 30, 31, 32, 33]⟩,
 ⟨(some 23), (.fa 4), [(.t 8)], none, [20, 21, 22, 28, 29, 30, 31, 32, 33]⟩,
 ⟨(some 24), (.load none), [(.t 23)], none, [20, 21, 22, 28, 29, 30, 31, 32, 33]⟩,
 ⟨(some 25), (.un .neg), [(.t 24)], none, [20, 21, 22, 28, 29, 30, 31, 32, 33]⟩,
 ⟨(some 26), (.call true false false), [(.f 26), (.t 22), (.t 25)], none, [20, 21, 28, 29, 30, 31, 32, 33]⟩,
 ⟨(some 27), (.bin 0 .add), [(.t 21), (.t 26)], none, [28, 29, 30, 31, 32, 33, 34, 35]⟩,
 ⟨(some 28), (.fa 1), [(.t 3)], none, [20, 21, 22, 23, 24, 25, 26, 27, 30, 31, 32, 33, 34]⟩,
 ⟨(some 29), (.load none), [(.t 28)], none, [20, 21, 22, 23, 24, 25, 26, 27, 30, 31, 32, 33, 34]⟩,
 ⟨(some 30), (.load (some 6)), [(.t 8)], none, [20, 21, 22, 23, 24, 25, 26, 27, 28, 29, 31, 32, 33]⟩,
 ⟨(some 31), (.fa 5), [(.t 8)], none, [20, 21, 22, 23, 24, 25, 26, 27, 28, 29, 30]⟩,
 ⟨(some 32), (.load none), [(.t 31)], none, [20, 21, 22, 23, 24, 25, 26, 27, 28, 29, 30]⟩,
 ⟨(some 33), (.un .neg), [(.t 32)], none, [20, 21, 22, 23, 24, 25, 26, 27, 28, 29, 30]⟩,
 ⟨(some 34), (.call true false false), [(.f 27), (.t 30), (.t 33)], none, [20, 21, 27, 28, 29]⟩,
 ⟨(some 35), (.bin 0 .add), [(.t 29), (.t 34)], none, [20, 21, 27]⟩,
 ⟨(some 36), (.build [(.int .i64 0), (.int .i64 0)] [(0, 1), (1, 1)]), [(.t 27), (.t 35)], none, []⟩,
 ⟨none, (.store 2 (some 6)), [(.t 6), (.t 36)], none, []⟩] 0 [6])
 (.seq
 (.seq
 (.reg false [] [] [
 ⟨(some 37), (.fa 0), [(.t 6)], none, []⟩,
 ⟨(some 38), (.load none), [(.t 37)], none, []⟩,
 ⟨(some 39), (.fa 1), [(.t 6)], none, []⟩,
 ⟨(some 40), (.load none), [(.t 39)], none, []⟩,
 ⟨(some 41), (.bin 0 .gtr), [(.t 38), (.t 40)], none, []⟩] 0 [6, 41])
 (.cond (.t 41)
 (.seq
 (.reg false [] [] [
 ⟨(some 42), (.build [(.int .i64 0), (.int .i64 0)] []), [], none, []⟩,
 ⟨none, (.store 2 none), [(.t 6), (.t 42)], none, []⟩,
 ⟨(some 7), .mv, [(.c (.int .i64 9))], none, []⟩] 0 [6, 7])
 .ret)
 .skip))
 (.seq
 (.reg false [] [] [
 ⟨(some 43), (.load (some 2)), [(.t 6)], none, []⟩,
 ⟨none, (.store 2 none), [(.t 6), (.t 43)], none, []⟩,
 ⟨(some 7), .mv, [(.c (.int .i64 0))], none, []⟩] 0 [6, 7])
 .ret)))))),
 [(.c 6 (some 2)), (.t 7)]⟩
theorem c9 : funC Try.prog [(0, [1, 3, 5, 6]), (1, [3, 6, 7, 8]), (2, [3, 6, 7, 8, 17]), (3, [6, 7]), (4, [6]), (5, [6, 41]), (6, [6, 7]), (7, [6, 7])] Try.f9 = some (unF l9) := by kernel_rfl
/-- acme/acmetop.armZone -/
def l10 : LFun := ⟨0, 35, [],
 (.seq
 (.reg false [] [] [
 ⟨(some 0), .mv, [(.c (.bool false))], none, []⟩] 0 [])
 (.seq
 (.reg false [1] [1] [
 ⟨(some 6), (.call false false false), [(.f 8), (.c (.int .i64 59840)), (.c (.int .i64 59960))], none, []⟩,
 ⟨(some 7), (.call false false false), [(.f 8), (.c (.int .i64 5)), (.c (.int .i64 8))], none, []⟩,
 ⟨(some 8), (.build [(.int .i64 0), (.int .i64 0)] [(0, 1), (1, 1)]), [(.c (.int .i64 4)), (.c (.int .i64 1))], none, []⟩,
 ⟨(some 9), (.build [(.int .i64 0), (.int .i64 0), (.int .i64 0), (.int .i64 0)] [(0, 2), (2, 2)]), [(.t 7), (.t 8)], none, []⟩,
 ⟨(some 10), (.call false false false), [(.f 9), (.t 6), (.c (.bool false)), (.t 9)], none, []⟩,
 ⟨(some 5), .mv, [(.t 10)], none, []⟩,
 ⟨(some 11), (.ext 0), [(.t 5)], none, []⟩,
 ⟨(some 12), (.ext 1), [(.t 5)], none, []⟩,
 ⟨(some 1), (.alloc [(.int .i64 0), (.int .i64 0)]), [], none, []⟩,
 ⟨none, (.store 2 none), [(.t 1), (.t 11)], none, []⟩,
 ⟨(some 2), .mv, [(.t 12)], none, []⟩] 0 [1, 2])
 (.seq
 (.reg false [] [] [
 ⟨(some 14), (.call false false false), [(.f 8), (.c (.int .i64 1000)), (.c (.int .i64 1009))], none, []⟩,
 ⟨(some 15), (.call false false false), [(.f 8), (.c (.int .i64 1020)), (.c (.int .i64 1029))], none, []⟩,
 ⟨(some 16), (.call false false false), [(.f 8), (.c (.int .i64 12)), (.c (.int .i64 28))], none, []⟩,
 ⟨(some 17), (.call false false false), [(.f 28), (.t 14), (.t 15), (.t 16)], none, []⟩,
 ⟨(some 13), .mv, [(.t 17)], none, []⟩,
 ⟨(some 18), (.ext 0), [(.t 13)], none, []⟩,
 ⟨(some 19), (.ext 1), [(.t 13)], none, []⟩,
 ⟨(some 3), .mv, [(.t 18)], none, []⟩,
 ⟨(some 4), .mv, [(.t 19)], none, []⟩] 0 [1, 2, 3, 4])
 (.seq
 (.reg false [] [] [
 ⟨(some 20), .mv, [(.t 2)], none, []⟩,
 ⟨(some 21), (.bin 0 .eql), [(.t 20), (.c (.int .i64 0))], none, []⟩,
 ⟨(some 22), .mv, [(.t 21)], none, []⟩,
 ⟨(some 23), .mv, [(.t 4)], (some (22, true)), []⟩,
 ⟨(some 24), (.bin 0 .eql), [(.t 23), (.c (.int .i64 0))], (some (22, true)), []⟩,
 ⟨(some 25), .pick, [(.t 22), (.t 24), (.c (.bool false))], none, []⟩,
 ⟨(some 26), .mv, [(.t 25)], none, []⟩,
 ⟨(some 27), (.load (some 2)), [(.t 1)], (some (26, true)), [28]⟩,
 ⟨(some 28), (.call true false false), [(.f 8), (.c (.int .i64 59820)), (.c (.int .i64 59928))], (some (26, true)), [27]⟩,
 ⟨(some 29), (.eqs false [(some .i64), (some .i64)]), [(.t 27), (.t 28)], (some (26, true)), []⟩,
 ⟨(some 30), .pick, [(.t 26), (.t 29), (.c (.bool false))], none, []⟩,
 ⟨(some 31), .mv, [(.t 30)], none, []⟩,
 ⟨(some 32), .mv, [(.t 3)], (some (31, true)), []⟩,
 ⟨(some 33), (.bin 0 .eql), [(.t 32), (.c (.int .i64 2))], (some (31, true)), []⟩,
 ⟨(some 34), .pick, [(.t 31), (.t 33), (.c (.bool false))], none, []⟩,
 ⟨(some 0), .mv, [(.t 34)], none, []⟩] 0 [0])
 .ret)))),
 [(.t 0)]⟩
theorem c10 : funC Try.prog [(0, []), (1, [1, 2]), (2, [1, 2, 3, 4]), (3, [0])] Try.f10 = some (unF l10) := by kernel_rfl
/-- acme/acmetop.armDie -/
def l11 : LFun := ⟨0, 52, [],
 (.seq
 (.reg false [] [] [
 ⟨(some 0), .mv, [(.c (.bool false))], none, []⟩] 0 [])
 (.seq
 (.reg false [11, 1] [11, 1] [
 ⟨(some 7), (.call false false false), [(.f 8), (.c (.int .i64 (-1000))), (.c (.int .i64 1000))], none, []⟩,
 ⟨(some 8), (.call false false false), [(.f 8), (.c (.int .i64 (-500))), (.c (.int .i64 500))], none, []⟩,
 ⟨(some 9), (.call false false false), [(.f 8), (.c (.int .i64 10)), (.c (.int .i64 20))], none, []⟩,
 ⟨(some 10), (.call false false false), [(.f 8), (.c (.int .i64 50)), (.c (.int .i64 100))], none, []⟩,
 ⟨(some 11), (.bsl 2 [(.int .i64 0), (.int .i64 0)] 2 [0, 1]), [(.t 9), (.t 10)], none, []⟩,
 ⟨(some 12), (.build [(.bool false), (.int .i64 0), (.int .i64 0), (.int .i64 0), (.int .i64 0), (.sl none 2 [])] [(1, 2), (3, 2), (5, 1)]), [(.t 7), (.t 8), (.t 11)], none, []⟩,
 ⟨(some 1), (.alloc [(.bool false), (.int .i64 0), (.int .i64 0), (.int .i64 0), (.int .i64 0), (.sl none 2 [])]), [], none, []⟩,
 ⟨none, (.store 6 none), [(.t 1), (.t 12)], none, []⟩] 0 [1])
 (.seq
 (.reg false [17] [17] [
 ⟨(some 13), (.call false false false), [(.f 8), (.c (.int .i64 100000)), (.c (.int .i64 110000))], none, []⟩,
 ⟨(some 14), (.build [(.int .i64 0), (.int .i64 0), (.int .i64 0), (.int .i64 0)] [(0, 1), (2, 2)]), [(.c (.int .i64 200)), (.t 13)], none, []⟩,
 ⟨(some 15), (.call false false false), [(.f 8), (.c (.int .i64 100000)), (.c (.int .i64 110000))], none, []⟩,
 ⟨(some 16), (.build [(.int .i64 0), (.int .i64 0), (.int .i64 0), (.int .i64 0)] [(0, 1), (1, 1), (2, 2)]), [(.c (.int .i64 100)), (.c (.int .i64 1)), (.t 15)], none, []⟩,
 ⟨(some 17), (.bsl 4 [(.int .i64 0), (.int .i64 0), (.int .i64 0), (.int .i64 0)] 2 [0, 1]), [(.t 14), (.t 16)], none, []⟩,
 ⟨(some 2), .mv, [(.t 17)], none, []⟩] 0 [1, 2])
 (.seq
 (.reg false [] [] [
 ⟨(some 19), (.load (some 6)), [(.t 1)], none, []⟩,
 ⟨(some 20), .mv, [(.t 2)], none, []⟩,
 ⟨(some 21), (.call false false false), [(.f 29), (.t 19), (.t 20), (.c (.int .i64 0))], none, []⟩,
 ⟨(some 18), .mv, [(.t 21)], none, []⟩,
 ⟨(some 22), (.ext 0), [(.t 18)], none, []⟩,
 ⟨(some 23), (.ext 1), [(.t 18)], none, []⟩,
 ⟨(some 3), .mv, [(.t 22)], none, []⟩,
 ⟨(some 4), .mv, [(.t 23)], none, []⟩] 0 [1, 2, 3, 4])
 (.seq
 (.reg false [27] [27] [
 ⟨(some 25), (.load (some 6)), [(.t 1)], none, []⟩,
 ⟨(some 26), .mv, [(.t 2)], none, []⟩,
 ⟨(some 27), (.call false false true), [(.f 30), (.t 25), (.t 26)], none, []⟩,
 ⟨(some 24), .mv, [(.t 27)], none, []⟩,
 ⟨(some 28), (.ext 0), [(.t 24)], none, []⟩,
 ⟨(some 29), (.ext 1), [(.t 24)], none, []⟩,
 ⟨(some 5), .mv, [(.t 28)], none, []⟩,
 ⟨(some 6), .mv, [(.t 29)], none, []⟩] 0 [3, 4, 5, 6])
 (.seq
 (.reg false [] [] [
 ⟨(some 30), .mv, [(.t 4)], none, []⟩,
 ⟨(some 31), (.bin 0 .eql), [(.t 30), (.c (.int .i64 0))], none, []⟩,
 ⟨(some 32), .mv, [(.t 31)], none, []⟩,
 ⟨(some 33), .mv, [(.t 6)], (some (32, true)), []⟩,
 ⟨(some 34), (.bin 0 .eql), [(.t 33), (.c (.int .i64 0))], (some (32, true)), []⟩,
 ⟨(some 35), .pick, [(.t 32), (.t 34), (.c (.bool false))], none, []⟩,
 ⟨(some 36), .mv, [(.t 35)], none, []⟩,
 ⟨(some 37), .mv, [(.t 3)], (some (36, true)), []⟩,
 ⟨(some 38), (.bin 0 .eql), [(.t 37), (.c (.int .i64 231))], (some (36, true)), []⟩,
 ⟨(some 39), .pick, [(.t 36), (.t 38), (.c (.bool false))], none, []⟩,
 ⟨(some 40), .mv, [(.t 39)], none, []⟩,
 ⟨(some 41), .mv, [(.t 5)], (some (40, true)), []⟩,
 ⟨(some 42), .len, [(.t 41)], (some (40, true)), []⟩,
 ⟨(some 43), (.bin 0 .eql), [(.t 42), (.c (.int .i64 2))], (some (40, true)), []⟩,
 ⟨(some 44), .pick, [(.t 40), (.t 43), (.c (.bool false))], none, []⟩,
 ⟨(some 45), .mv, [(.t 44)], none, []⟩,
 ⟨(some 46), .mv, [(.t 5)], (some (45, true)), []⟩,
 ⟨(some 47), (.ixs 2), [(.t 46), (.c (.int .i64 1))], (some (45, true)), []⟩,
 ⟨(some 48), (.load (some 2)), [(.t 47)], (some (45, true)), []⟩,
 ⟨(some 49), (.build [(.int .i64 0), (.int .i64 0)] [(0, 1), (1, 1)]), [(.c (.int .i64 231)), (.c (.int .i64 101500))], (some (45, true)), []⟩,
 ⟨(some 50), (.eqs false [(some .i64), (some .i64)]), [(.t 48), (.t 49)], (some (45, true)), []⟩,
 ⟨(some 51), .pick, [(.t 45), (.t 50), (.c (.bool false))], none, []⟩,
 ⟨(some 0), .mv, [(.t 51)], none, []⟩] 0 [0])
 .ret)))))),
 [(.t 0)]⟩
theorem c11 : funC Try.prog [(0, []), (1, [1]), (2, [1, 2]), (3, [1, 2, 3, 4]), (4, [3, 4, 5, 6]), (5, [0])] Try.f11 = some (unF l11) := by kernel_rfl
/-- (acme/acmetop.ArmDie).planned -/
def b12_0 : LCode :=
 (.seq
 (.seq
 (.reg true [] [] [
 ⟨(some 36), .mv, [(.t 12)], none, []⟩,
 ⟨(some 37), .mv, [(.t 8)], none, []⟩,
 ⟨(some 38), .len, [(.t 37)], none, []⟩,
 ⟨(some 39), (.bin 0 .lss), [(.t 36), (.t 38)], none, []⟩] 0 [2, 8, 9, 10, 11, 12, 39])
 (.cond (.t 39)
 .skip
 (.exit 0)))
 (.seq
 (.block 1
 (.seq
 (.reg true [] [] [
 ⟨(some 42), .mv, [(.t 11)], none, []⟩,
 ⟨(some 13), .mv, [(.t 42)], none, []⟩] 0 [2, 8, 9, 10, 11, 12, 13])
 (.seq
 (.seq
 (.reg true [] [] [
 ⟨(some 43), .mv, [(.t 12)], none, []⟩,
 ⟨(some 44), (.bin 0 .add), [(.t 43), (.c (.int .i64 1))], none, []⟩,
 ⟨(some 45), .mv, [(.t 8)], none, []⟩,
 ⟨(some 46), .len, [(.t 45)], none, []⟩,
 ⟨(some 47), (.bin 0 .lss), [(.t 44), (.t 46)], none, []⟩] 0 [2, 8, 9, 10, 11, 12, 13, 47])
 (.cond (.t 47)
 (.reg true [] [] [
 ⟨(some 48), .mv, [(.t 8)], none, []⟩,
 ⟨(some 49), .mv, [(.t 12)], none, []⟩,
 ⟨(some 50), (.bin 0 .add), [(.t 49), (.c (.int .i64 1))], none, []⟩,
 ⟨(some 51), (.ixs 2), [(.t 48), (.t 50)], none, []⟩,
 ⟨(some 52), (.fa 0), [(.t 51)], none, []⟩,
 ⟨(some 53), (.load none), [(.t 52)], none, []⟩,
 ⟨(some 13), .mv, [(.t 53)], none, []⟩] 0 [2, 8, 9, 10, 11, 12, 13])
 .skip))
 (.seq
 (.seq
 (.reg true [] [] [
 ⟨(some 54), .mv, [(.t 8)], none, []⟩,
 ⟨(some 55), .mv, [(.t 12)], none, []⟩,
 ⟨(some 56), (.ixs 2), [(.t 54), (.t 55)], none, []⟩,
 ⟨(some 57), (.fa 0), [(.t 56)], none, []⟩,
 ⟨(some 58), (.load none), [(.t 57)], none, []⟩,
 ⟨(some 59), .mv, [(.t 10)], none, []⟩,
 ⟨(some 60), .len, [(.t 59)], none, []⟩,
 ⟨(some 61), (.bin 0 .neq), [(.t 58), (.t 60)], none, []⟩,
 ⟨(some 62), .mv, [(.t 61)], none, []⟩,
 ⟨(some 63), .mv, [(.t 13)], (some (62, false)), []⟩,
 ⟨(some 64), .mv, [(.t 10)], (some (62, false)), []⟩,
 ⟨(some 65), .len, [(.t 64)], (some (62, false)), []⟩,
 ⟨(some 66), (.bin 0 .leq), [(.t 63), (.t 65)], (some (62, false)), []⟩,
 ⟨(some 67), .pick, [(.t 62), (.c (.bool true)), (.t 66)], none, []⟩,
 ⟨(some 68), .mv, [(.t 67)], none, []⟩,
 ⟨(some 69), .mv, [(.t 13)], (some (68, false)), []⟩,
 ⟨(some 70), .mv, [(.t 11)], (some (68, false)), []⟩,
 ⟨(some 71), (.bin 0 .gtr), [(.t 69), (.t 70)], (some (68, false)), []⟩,
 ⟨(some 72), .pick, [(.t 68), (.c (.bool true)), (.t 71)], none, []⟩] 0 [2, 8, 9, 10, 11, 12, 13, 72])
 (.cond (.t 72)
 (.seq
 (.reg true [] [] [
 ⟨(some 4), .mv, [(.c (.sl none 1 []))], none, []⟩,
 ⟨(some 5), .mv, [(.c (.bool false))], none, []⟩,
 ⟨(some 6), .mv, [(.c (.bool false))], none, []⟩] 0 [4, 5, 6])
 .ret)
 .skip))
 (.reg true [86, 87] [86] [
 ⟨(some 73), .mv, [(.t 10)], none, [74, 75, 76, 77, 78, 79, 80, 81, 82, 83, 84, 85, 86]⟩,
 ⟨(some 74), (.load (some 8)), [(.t 2)], none, [73, 75, 76, 77, 78, 79, 80, 81, 82, 83, 84, 85]⟩,
 ⟨(some 75), .mv, [(.t 8)], none, [73, 74, 76, 80, 81, 82, 83, 84, 85]⟩,
 ⟨(some 76), .mv, [(.t 12)], none, [73, 74, 75, 80, 81, 82, 83, 84, 85]⟩,
 ⟨(some 77), (.ixs 2), [(.t 75), (.t 76)], none, [73, 74, 80, 81, 82, 83, 84, 85]⟩,
 ⟨(some 78), (.fa 1), [(.t 77)], none, [73, 74, 80, 81, 82, 83, 84, 85]⟩,
 ⟨(some 79), (.load none), [(.t 78)], none, [73, 74, 80, 81, 82, 83, 84, 85]⟩,
 ⟨(some 80), .mv, [(.t 8)], none, [73, 74, 75, 76, 77, 78, 79, 81, 85]⟩,
 ⟨(some 81), .mv, [(.t 12)], none, [73, 74, 75, 76, 77, 78, 79, 80, 85]⟩,
 ⟨(some 82), (.ixs 2), [(.t 80), (.t 81)], none, [73, 74, 75, 76, 77, 78, 79, 85]⟩,
 ⟨(some 83), (.fa 0), [(.t 82)], none, [73, 74, 75, 76, 77, 78, 79, 85]⟩,
 ⟨(some 84), (.load none), [(.t 83)], none, [73, 74, 75, 76, 77, 78, 79, 85]⟩,
 ⟨(some 85), .mv, [(.t 13)], none, [73, 74, 75, 76, 77, 78, 79, 80, 81, 82, 83, 84]⟩,
 ⟨(some 86), (.call true false true), [(.f 33), (.t 74), (.t 79), (.t 84), (.t 85)], none, [73]⟩,
 ⟨(some 87), (.append false 1 8), [(.t 73), (.t 86)], none, []⟩,
 ⟨(some 10), .mv, [(.t 87)], none, []⟩] 0 [2, 8, 9, 10, 11, 12])))))
 (.reg true [] [] [
 ⟨(some 40), .mv, [(.t 12)], none, []⟩,
 ⟨(some 41), (.bin 0 .add), [(.t 40), (.c (.int .i64 1))], none, []⟩,
 ⟨(some 12), .mv, [(.t 41)], none, []⟩] 0 [2, 8, 9, 10, 11, 12])))
def l12 : LFun := ⟨2, 99, [],
 (.seq
 (.reg false [2, 3] [2, 3] [
 ⟨(some 2), .box, [(.t 0)], none, []⟩,
 ⟨(some 3), .box, [(.t 1)], none, []⟩,
 ⟨(some 4), .mv, [(.c (.sl none 1 []))], none, []⟩,
 ⟨(some 5), .mv, [(.c (.bool false))], none, []⟩,
 ⟨(some 6), .mv, [(.c (.bool false))], none, []⟩] 0 [2, 3])
 (.seq
 (.reg false [16] [16] [
 ⟨(some 14), (.load (some 8)), [(.t 2)], none, []⟩,
 ⟨(some 15), (.load (some 2)), [(.t 3)], none, []⟩,
 ⟨(some 16), (.call false false true), [(.f 31), (.t 14), (.t 15)], none, []⟩,
 ⟨(some 7), .mv, [(.t 16)], none, []⟩] 0 [2, 7])
 (.seq
 (.reg false [19, 20, 22, 23] [19, 20, 23] [
 ⟨(some 18), (.load (some 8)), [(.t 2)], none, []⟩,
 ⟨(some 19), (.call false false true), [(.f 32), (.t 18)], none, []⟩,
 ⟨(some 20), (.bsl 4 [(.int .i64 0), (.int .i64 0), (.int .i64 0), (.int .i64 0)] 0 []), [], none, []⟩,
 ⟨(some 21), .mv, [(.t 7)], none, []⟩,
 ⟨(some 22), (.append false 4 32), [(.t 20), (.t 21)], none, []⟩,
 ⟨(some 23), (.call false false true), [(.f 30), (.t 19), (.t 22)], none, []⟩,
 ⟨(some 17), .mv, [(.t 23)], none, []⟩,
 ⟨(some 24), (.ext 0), [(.t 17)], none, []⟩,
 ⟨(some 25), (.ext 1), [(.t 17)], none, []⟩,
 ⟨(some 8), .mv, [(.t 24)], none, []⟩,
 ⟨(some 9), .mv, [(.t 25)], none, []⟩] 0 [2, 7, 8, 9])
 (.seq
 (.seq
 (.reg false [] [] [
 ⟨(some 26), .mv, [(.t 9)], none, []⟩,
 ⟨(some 27), (.bin 0 .eql), [(.t 26), (.c (.int .i64 7))], none, []⟩] 0 [2, 7, 8, 9, 27])
 (.cond (.t 27)
 (.seq
 (.reg false [] [] [
 ⟨(some 28), .mv, [(.t 8)], none, []⟩,
 ⟨(some 29), .len, [(.t 28)], none, []⟩,
 ⟨(some 30), (.bin 0 .eql), [(.t 29), (.c (.int .i64 0))], none, []⟩,
 ⟨(some 4), .mv, [(.c (.sl none 1 []))], none, []⟩,
 ⟨(some 5), .mv, [(.c (.bool false))], none, []⟩,
 ⟨(some 6), .mv, [(.t 30)], none, []⟩] 0 [4, 5, 6])
 .ret)
 .skip))
 (.seq
 (.reg false [31] [31] [
 ⟨(some 31), (.bsl 1 [(.int .i64 0)] 0 []), [], none, [32, 33, 34, 35]⟩,
 ⟨(some 32), .mv, [(.t 7)], none, [31, 10]⟩,
 ⟨(some 33), (.ixs 4), [(.t 32), (.c (.int .i64 0))], none, [31, 10]⟩,
 ⟨(some 34), (.fa 0), [(.t 33)], none, [31, 10]⟩,
 ⟨(some 35), (.load none), [(.t 34)], none, [31, 10]⟩,
 ⟨(some 10), .mv, [(.t 31)], none, [32, 33, 34, 35]⟩,
 ⟨(some 11), .mv, [(.t 35)], none, []⟩] 0 [2, 8, 9, 10, 11])
 (.seq
 (.seq
 (.reg false [] [] [
 ⟨(some 12), .mv, [(.c (.int .i64 0))], none, []⟩] 0 [2, 8, 9, 10, 11, 12])
 (.block 0
 (.loop b12_0)))
 (.seq
 (.reg false [] [] [
 ⟨(some 88), .mv, [(.t 10)], none, []⟩,
 ⟨(some 89), .mv, [(.t 9)], none, []⟩,
 ⟨(some 90), (.bin 0 .eql), [(.t 89), (.c (.int .i64 0))], none, []⟩,
 ⟨(some 91), .mv, [(.t 9)], none, []⟩,
 ⟨(some 92), (.bin 0 .eql), [(.t 91), (.c (.int .i64 0))], none, []⟩,
 ⟨(some 93), .mv, [(.t 92)], none, []⟩,
 ⟨(some 94), .mv, [(.t 10)], (some (93, true)), []⟩,
 ⟨(some 95), .len, [(.t 94)], (some (93, true)), []⟩,
 ⟨(some 96), .mv, [(.t 11)], (some (93, true)), []⟩,
 ⟨(some 97), (.bin 0 .eql), [(.t 95), (.t 96)], (some (93, true)), []⟩,
 ⟨(some 98), .pick, [(.t 93), (.t 97), (.c (.bool false))], none, []⟩,
 ⟨(some 4), .mv, [(.t 88)], none, []⟩,
 ⟨(some 5), .mv, [(.t 90)], none, []⟩,
 ⟨(some 6), .mv, [(.t 98)], none, []⟩] 0 [4, 5, 6])
 .ret))))))),
 [(.t 4), (.t 5), (.t 6)]⟩
theorem c12 : funC Try.prog [(0, [2, 3]), (1, [2, 7]), (2, [2, 7, 8, 9]), (3, [2, 7, 8, 9, 27]), (4, [4, 5, 6]), (5, [2, 8, 9, 10, 11]), (6, [2, 8, 9, 10, 11, 12]), (7, [2, 8, 9, 10, 11, 12, 39]), (8, [2, 8, 9, 10, 11, 12]), (9, [2, 8, 9, 10, 11, 12, 13]), (10, [2, 8, 9, 10, 11, 12, 13, 47]), (11, [2, 8, 9, 10, 11, 12, 13]), (12, [2, 8, 9, 10, 11, 12, 13, 72]), (13, [4, 5, 6]), (14, [2, 8, 9, 10, 11, 12]), (15, [4, 5, 6])] Try.f12 = some (unF l12) := by kernel_rfl
/-- acme/acmetop.armIn -/
def l13 : LFun := ⟨2, 17, [],
 (.seq
 (.reg false [2] [2] [
 ⟨(some 2), .box, [(.t 0)], none, []⟩,
 ⟨(some 4), .mv, [(.c (.int .i64 0))], none, []⟩] 0 [1, 2])
 (.seq
 (.reg false [] [] [
 ⟨(some 5), (.fa 0), [(.t 2)], none, [7, 8, 9, 10, 11, 12, 13, 14, 15]⟩,
 ⟨(some 6), (.load none), [(.t 5)], none, [7, 8, 9, 10, 11, 12, 13, 14, 15]⟩,
 ⟨(some 7), .mv, [(.t 1)], none, [5, 6, 9, 10, 11, 12, 13, 14]⟩,
 ⟨(some 8), (.conv .i64), [(.t 7)], none, [5, 6, 9, 10, 11, 12, 13, 14]⟩,
 ⟨(some 9), (.fa 1), [(.t 2)], none, [5, 6, 7, 8, 11, 12]⟩,
 ⟨(some 10), (.load none), [(.t 9)], none, [5, 6, 7, 8, 11, 12]⟩,
 ⟨(some 11), (.fa 0), [(.t 2)], none, [5, 6, 7, 8, 9, 10]⟩,
 ⟨(some 12), (.load none), [(.t 11)], none, [5, 6, 7, 8, 9, 10]⟩,
 ⟨(some 13), (.bin 0 .sub), [(.t 10), (.t 12)], none, [5, 6, 7, 8]⟩,
 ⟨(some 14), (.bin 0 .add), [(.t 13), (.c (.int .i64 1))], none, [5, 6, 7, 8]⟩,
 ⟨(some 15), (.bin 0 .rem), [(.t 8), (.t 14)], none, [5, 6]⟩,
 ⟨(some 16), (.bin 0 .add), [(.t 6), (.t 15)], none, []⟩,
 ⟨(some 4), .mv, [(.t 16)], none, []⟩] 0 [4])
 .ret)),
 [(.t 4)]⟩
theorem c13 : funC Try.prog [(0, [1, 2]), (1, [4])] Try.f13 = some (unF l13) := by kernel_rfl
/-- acme/acmetop.armByte -/
def l14 : LFun := ⟨2, 16, [],
 (.seq
 (.reg false [] [] [
 ⟨(some 4), .mv, [(.c (.int .i64 0))], none, []⟩] 0 [0, 1])
 (.seq
 (.seq
 (.reg false [] [] [
 ⟨(some 5), .mv, [(.t 0)], none, []⟩,
 ⟨(some 6), .len, [(.t 5)], none, []⟩,
 ⟨(some 7), (.bin 0 .eql), [(.t 6), (.c (.int .i64 0))], none, []⟩] 0 [0, 1, 7])
 (.cond (.t 7)
 (.seq
 (.reg false [] [] [
 ⟨(some 4), .mv, [(.c (.int .i64 0))], none, []⟩] 0 [4])
 .ret)
 .skip))
 (.seq
 (.reg false [] [] [
 ⟨(some 8), .mv, [(.t 0)], none, []⟩,
 ⟨(some 9), .mv, [(.t 1)], none, []⟩,
 ⟨(some 10), .mv, [(.t 0)], none, []⟩,
 ⟨(some 11), .len, [(.t 10)], none, []⟩,
 ⟨(some 12), (.bin 0 .rem), [(.t 9), (.t 11)], none, []⟩,
 ⟨(some 13), (.ixs 1), [(.t 8), (.t 12)], none, []⟩,
 ⟨(some 14), (.load none), [(.t 13)], none, []⟩,
 ⟨(some 15), (.conv .i64), [(.t 14)], none, []⟩,
 ⟨(some 4), .mv, [(.t 15)], none, []⟩] 0 [4])
 .ret))),
 [(.t 4)]⟩
theorem c14 : funC Try.prog [(0, [0, 1]), (1, [0, 1, 7]), (2, [4]), (3, [4])] Try.f14 = some (unF l14) := by kernel_rfl
/-- acme/fit.Screw -/
def l20 : LFun := ⟨3, 32, [],
 (.seq
 (.reg false [3, 4, 5] [3, 4, 5] [
 ⟨(some 3), .box, [(.t 0)], none, []⟩,
 ⟨(some 4), .box, [(.t 1)], none, []⟩,
 ⟨(some 5), .box, [(.t 2)], none, []⟩,
 ⟨(some 6), .mv, [(.c (.int .i64 0))], none, []⟩,
 ⟨(some 7), .mv, [(.c (.int .i64 0))], none, []⟩] 0 [3, 4, 5])
 (.seq
 (.reg false [13, 8] [13, 8] [
 ⟨(some 10), (.load (some 8)), [(.t 3)], none, []⟩,
 ⟨(some 11), (.load (some 2)), [(.t 5)], none, []⟩,
 ⟨(some 12), (.load (some 3)), [(.t 4)], none, []⟩,
 ⟨(some 13), (.bsl 3 [.nil, (.int .i64 0), (.int .i64 0)] 1 [0]), [(.t 12)], none, []⟩,
 ⟨(some 14), (.call false false false), [(.f 44), (.t 10), (.t 11), (.t 13)], none, []⟩,
 ⟨(some 9), .mv, [(.t 14)], none, []⟩,
 ⟨(some 15), (.ext 0), [(.t 9)], none, []⟩,
 ⟨(some 16), (.ext 1), [(.t 9)], none, []⟩,
 ⟨(some 8), (.alloc [(.int .i64 0), (.int .i64 0), (.int .i64 0), (.int .i64 0), (.int .i64 0), (.int .i64 0), (.bool false), (.int .i64 0), (.int .i64 0), (.int .i64 0)]), [], none, []⟩,
 ⟨none, (.store 10 none), [(.t 8), (.t 15)], none, []⟩,
 ⟨(some 7), .mv, [(.t 16)], none, []⟩] 0 [4, 7, 8])
 (.seq
 (.block 0
 (.seq
 (.reg false [] [] [
 ⟨(some 18), .mv, [(.t 7)], none, []⟩,
 ⟨(some 19), (.bin 0 .neq), [(.t 18), (.c (.int .i64 0))], none, []⟩,
 ⟨(some 17), .mv, [(.t 19)], none, []⟩] 0 [4, 7, 8, 17])
 (.cond (.t 17)
 (.seq
 (.reg false [] [] [
 ⟨(some 20), .mv, [(.t 7)], none, []⟩,
 ⟨(some 6), .mv, [(.c (.int .i64 0))], none, []⟩,
 ⟨(some 7), .mv, [(.t 20)], none, []⟩] 0 [6, 7])
 .ret)
 (.seq
 (.reg false [] [] [
 ⟨(some 22), (.load (some 10)), [(.t 8)], none, []⟩,
 ⟨(some 23), (.call false false false), [(.f 45), (.t 22)], none, []⟩,
 ⟨(some 24), (.bin 0 .eql), [(.t 23), (.c (.int .i64 0))], none, []⟩,
 ⟨(some 21), .mv, [(.t 24)], none, []⟩] 0 [4, 8, 21])
 (.cond (.t 21)
 (.seq
 (.reg false [] [] [
 ⟨(some 6), .mv, [(.c (.int .i64 0))], none, []⟩,
 ⟨(some 7), .mv, [(.c (.int .i64 7))], none, []⟩] 0 [6, 7])
 .ret)
 .skip)))))
 (.seq
 (.reg false [] [] [
 ⟨(some 25), (.load (some 10)), [(.t 8)], none, [26, 28]⟩,
 ⟨(some 26), (.load (some 3)), [(.t 4)], none, [25, 28]⟩,
 ⟨(some 27), (.call true false false), [(.f 46), (.t 25), (.t 26), (.c (.int .i64 1))], none, [28]⟩,
 ⟨(some 28), (.load (some 10)), [(.t 8)], none, [25, 26, 27]⟩,
 ⟨(some 29), (.call false false false), [(.f 45), (.t 28)], none, []⟩,
 ⟨(some 30), (.bin 0 .mul), [(.c (.int .i64 4)), (.t 29)], none, []⟩,
 ⟨(some 31), (.call false false false), [(.f 38), (.t 27), (.t 30)], none, []⟩,
 ⟨(some 6), .mv, [(.t 31)], none, []⟩,
 ⟨(some 7), .mv, [(.c (.int .i64 0))], none, []⟩] 0 [6, 7])
 .ret)))),
 [(.t 6), (.t 7)]⟩
theorem c20 : funC Try.prog [(0, [3, 4, 5]), (1, [4, 7, 8]), (2, [4, 7, 8, 17]), (3, [6, 7]), (4, [4, 8, 21]), (5, [6, 7]), (6, [6, 7])] Try.f20 = some (unF l20) := by kernel_rfl
/-- acme/fit.Shift -/
def l21 : LFun := ⟨6, 86, [],
 (.seq
 (.reg false [6, 7, 11, 12] [6, 7, 11, 12] [
 ⟨(some 6), .box, [(.t 0)], none, []⟩,
 ⟨(some 7), .box, [(.t 1)], none, []⟩,
 ⟨(some 11), .box, [(.t 5)], none, []⟩,
 ⟨(some 12), (.alloc [(.int .i64 0), (.int .i64 0)]), [], none, []⟩,
 ⟨(some 13), .mv, [(.c (.int .i64 0))], none, []⟩] 0 [2, 3, 4, 6, 7, 11, 12])
 (.seq
 (.seq
 (.reg false [21] [21] [
 ⟨(some 18), (.load (some 2)), [(.t 11)], none, []⟩,
 ⟨(some 19), (.load (some 3)), [(.t 6)], none, []⟩,
 ⟨(some 20), (.load (some 3)), [(.t 7)], none, []⟩,
 ⟨(some 21), (.bsl 3 [.nil, (.int .i64 0), (.int .i64 0)] 2 [0, 1]), [(.t 19), (.t 20)], none, []⟩,
 ⟨(some 22), (.call false false false), [(.f 40), (.t 18), (.t 21)], none, []⟩,
 ⟨(some 14), .mv, [(.t 22)], none, []⟩] 0 [2, 3, 4, 6, 7, 11, 12, 14])
 (.seq
 (.reg false [] [] [
 ⟨(some 23), .mv, [(.t 14)], none, []⟩,
 ⟨(some 24), (.bin 0 .neq), [(.t 23), (.c (.int .i64 0))], none, []⟩] 0 [2, 3, 4, 6, 7, 11, 12, 14, 24])
 (.cond (.t 24)
 (.seq
 (.reg false [] [] [
 ⟨(some 25), (.load (some 2)), [(.t 12)], none, []⟩,
 ⟨(some 26), .mv, [(.t 14)], none, []⟩,
 ⟨none, (.store 2 none), [(.t 12), (.t 25)], none, []⟩,
 ⟨(some 13), .mv, [(.t 26)], none, []⟩] 0 [12, 13])
 .ret)
 .skip)))
 (.seq
 (.reg false [] [] [
 ⟨(some 27), (.fa 0), [(.t 6)], none, [30, 31, 32]⟩,
 ⟨(some 28), (.load none), [(.t 27)], none, [30, 31, 32]⟩,
 ⟨(some 29), .len, [(.t 28)], none, [30, 31, 32]⟩,
 ⟨(some 30), (.fa 0), [(.t 7)], none, [27, 28, 29, 15]⟩,
 ⟨(some 31), (.load none), [(.t 30)], none, [27, 28, 29, 15]⟩,
 ⟨(some 32), .len, [(.t 31)], none, [27, 28, 29, 15]⟩,
 ⟨(some 15), .mv, [(.t 29)], none, [30, 31, 32]⟩,
 ⟨(some 16), .mv, [(.t 32)], none, []⟩] 0 [2, 3, 4, 6, 7, 11, 12, 15, 16])
 (.seq
 (.seq
 (.reg false [37, 45, 54] [37, 45, 54] [
 ⟨(some 33), .mv, [(.t 15)], none, []⟩,
 ⟨(some 34), .mv, [(.t 16)], none, []⟩,
 ⟨(some 35), .min, [(.t 33), (.t 34)], none, []⟩,
 ⟨(some 36), .mv, [(.t 4)], none, []⟩,
 ⟨(some 37), (.bsl 1 [(.int .i64 0)] 1 [0]), [(.t 36)], none, []⟩,
 ⟨(some 38), (.call false false false), [(.f 35), (.c (.int .i64 1)), (.t 35), (.t 37)], none, []⟩,
 ⟨(some 39), (.un .not), [(.t 38)], none, []⟩,
 ⟨(some 40), .mv, [(.t 39)], none, []⟩,
 ⟨(some 41), .mv, [(.t 15)], (some (40, false)), []⟩,
 ⟨(some 42), .mv, [(.t 4)], (some (40, false)), []⟩,
 ⟨(some 43), (.bin 0 .sub), [(.t 41), (.t 42)], (some (40, false)), []⟩,
 ⟨(some 44), .mv, [(.t 2)], (some (40, false)), []⟩,
 ⟨(some 45), (.bsl 1 [(.int .i64 0)] 1 [0]), [(.t 44)], (some (40, false)), []⟩,
 ⟨(some 46), (.call false false false), [(.f 35), (.c (.int .i64 0)), (.t 43), (.t 45)], (some (40, false)), []⟩,
 ⟨(some 47), (.un .not), [(.t 46)], (some (40, false)), []⟩,
 ⟨(some 48), .pick, [(.t 40), (.c (.bool true)), (.t 47)], none, []⟩,
 ⟨(some 49), .mv, [(.t 48)], none, []⟩,
 ⟨(some 50), .mv, [(.t 16)], (some (49, false)), []⟩,
 ⟨(some 51), .mv, [(.t 4)], (some (49, false)), []⟩,
 ⟨(some 52), (.bin 0 .sub), [(.t 50), (.t 51)], (some (49, false)), []⟩,
 ⟨(some 53), .mv, [(.t 3)], (some (49, false)), []⟩,
 ⟨(some 54), (.bsl 1 [(.int .i64 0)] 1 [0]), [(.t 53)], (some (49, false)), []⟩,
 ⟨(some 55), (.call false false false), [(.f 35), (.c (.int .i64 0)), (.t 52), (.t 54)], (some (49, false)), []⟩,
 ⟨(some 56), (.un .not), [(.t 55)], (some (49, false)), []⟩,
 ⟨(some 57), .pick, [(.t 49), (.c (.bool true)), (.t 56)], none, []⟩] 0 [2, 3, 4, 6, 7, 11, 12, 57])
 (.cond (.t 57)
 (.seq
 (.reg false [] [] [
 ⟨(some 58), (.load (some 2)), [(.t 12)], none, []⟩,
 ⟨none, (.store 2 none), [(.t 12), (.t 58)], none, []⟩,
 ⟨(some 13), .mv, [(.c (.int .i64 7))], none, []⟩] 0 [12, 13])
 .ret)
 .skip))
 (.seq
 (.reg false [] [] [
 ⟨(some 60), (.load (some 2)), [(.t 11)], none, [62, 63, 65, 66, 67, 68, 69, 70, 71, 72, 73, 74, 75, 76, 77, 78]⟩,
 ⟨(some 61), (.build [(.int .i64 0), (.int .i64 0)] [(0, 2)]), [(.t 60)], none, [62, 63, 65, 66, 67, 68, 69, 70, 71, 72, 73, 74, 75, 76, 77, 78]⟩,
 ⟨(some 62), (.load (some 3)), [(.t 6)], none, [60, 61, 63, 65, 66, 67, 68, 69, 70, 71, 72, 73, 74, 75, 76, 77, 78]⟩,
 ⟨(some 63), (.load (some 3)), [(.t 7)], none, [60, 61, 62, 65, 66, 67, 68, 69, 70, 71, 72, 73, 74, 75, 76, 77, 78]⟩,
 ⟨(some 64), (.build [(.int .i64 0), (.int .i64 0), (.sl none 2 []), (.int .i64 0), (.int .i64 0), (.sl none 2 []), (.int .i64 0), (.int .i64 0)] [(0, 2), (2, 3), (5, 3)]), [(.t 61), (.t 62), (.t 63)], none, [65, 66, 67, 68, 69, 70, 71, 72, 73, 74, 75, 76, 77, 78]⟩,
 ⟨(some 65), (.fa 0), [(.t 6)], none, [60, 61, 62, 63, 64, 67, 68, 69, 70, 72, 73, 74, 75, 76, 77, 78]⟩,
 ⟨(some 66), (.load none), [(.t 65)], none, [60, 61, 62, 63, 64, 67, 68, 69, 70, 72, 73, 74, 75, 76, 77, 78]⟩,
 ⟨(some 67), .mv, [(.t 2)], none, [60, 61, 62, 63, 64, 65, 66, 68, 69, 70, 72, 73, 74, 75, 76, 77, 78]⟩,
 ⟨(some 68), .mv, [(.t 2)], none, [60, 61, 62, 63, 64, 65, 66, 67, 69, 72, 73, 74, 75, 76, 77, 78]⟩,
 ⟨(some 69), .mv, [(.t 4)], none, [60, 61, 62, 63, 64, 65, 66, 67, 68, 72, 73, 74, 75, 76, 77, 78]⟩,
 ⟨(some 70), (.bin 0 .add), [(.t 68), (.t 69)], none, [60, 61, 62, 63, 64, 65, 66, 67, 72, 73, 74, 75, 76, 77, 78]⟩,
 ⟨(some 71), (.sls 2 true true false), [(.t 66), (.t 67), (.t 70)], none, [60, 61, 62, 63, 64, 72, 73, 74, 75, 76, 77, 78]⟩,
 ⟨(some 72), (.fa 0), [(.t 7)], none, [60, 61, 62, 63, 64, 65, 66, 67, 68, 69, 70, 71, 74, 75, 76, 77]⟩,
 ⟨(some 73), (.load none), [(.t 72)], none, [60, 61, 62, 63, 64, 65, 66, 67, 68, 69, 70, 71, 74, 75, 76, 77]⟩,
 ⟨(some 74), .mv, [(.t 3)], none, [60, 61, 62, 63, 64, 65, 66, 67, 68, 69, 70, 71, 72, 73, 75, 76, 77]⟩,
 ⟨(some 75), .mv, [(.t 3)], none, [60, 61, 62, 63, 64, 65, 66, 67, 68, 69, 70, 71, 72, 73, 74, 76]⟩,
 ⟨(some 76), .mv, [(.t 4)], none, [60, 61, 62, 63, 64, 65, 66, 67, 68, 69, 70, 71, 72, 73, 74, 75]⟩,
 ⟨(some 77), (.bin 0 .add), [(.t 75), (.t 76)], none, [60, 61, 62, 63, 64, 65, 66, 67, 68, 69, 70, 71, 72, 73, 74]⟩,
 ⟨(some 78), (.sls 2 true true false), [(.t 73), (.t 74), (.t 77)], none, [60, 61, 62, 63, 64, 65, 66, 67, 68, 69, 70, 71]⟩,
 ⟨(some 79), (.call false false false), [(.f 47), (.t 64), (.t 71), (.t 78)], none, []⟩,
 ⟨(some 59), .mv, [(.t 79)], none, []⟩,
 ⟨(some 80), (.ext 0), [(.t 59)], none, [81]⟩,
 ⟨(some 81), (.ext 1), [(.t 59)], none, [80, 12]⟩,
 ⟨none, (.store 2 (some 12)), [(.t 12), (.t 80)], none, [81]⟩,
 ⟨(some 17), .mv, [(.t 81)], none, []⟩] 0 [12, 17])
 (.seq
 (.seq
 (.reg false [] [] [
 ⟨(some 82), .mv, [(.t 17)], none, []⟩,
 ⟨(some 83), (.un .not), [(.t 82)], none, []⟩] 0 [12, 83])
 (.cond (.t 83)
 (.seq
 (.reg false [] [] [
 ⟨(some 84), (.build [(.int .i64 0), (.int .i64 0)] []), [], none, []⟩,
 ⟨none, (.store 2 none), [(.t 12), (.t 84)], none, []⟩,
 ⟨(some 13), .mv, [(.c (.int .i64 9))], none, []⟩] 0 [12, 13])
 .ret)
 .skip))
 (.seq
 (.reg false [] [] [
 ⟨(some 85), (.load (some 2)), [(.t 12)], none, []⟩,
 ⟨none, (.store 2 none), [(.t 12), (.t 85)], none, []⟩,
 ⟨(some 13), .mv, [(.c (.int .i64 0))], none, []⟩] 0 [12, 13])
 .ret))))))),
 [(.c 12 (some 2)), (.t 13)]⟩
theorem c21 : funC Try.prog [(0, [2, 3, 4, 6, 7, 11, 12]), (1, [2, 3, 4, 6, 7, 11, 12, 14]), (2, [2, 3, 4, 6, 7, 11, 12, 14, 24]), (3, [12, 13]), (4, [2, 3, 4, 6, 7, 11, 12, 15, 16]), (5, [2, 3, 4, 6, 7, 11, 12, 57]), (6, [12, 13]), (7, [12, 17]), (8, [12, 83]), (9, [12, 13]), (10, [12, 13])] Try.f21 = some (unF l21) := by kernel_rfl
/-- acme/zone.open -/
def b22_0 : LCode :=
 (.seq
 (.reg true [] [] [
 ⟨(some 23), (.bin 0 .lss), [(.t 22), (.t 21)], none, []⟩] 0 [1, 6, 7, 20, 21, 22, 23])
 (.seq
 (.cond (.t 23)
 .skip
 (.exit 0))
 (.seq
 (.block 1
 (.seq
 (.reg true [11] [11] [
 ⟨(some 24), (.ixs 2), [(.t 20), (.t 22)], none, []⟩,
 ⟨(some 25), (.load (some 2)), [(.t 24)], none, []⟩,
 ⟨(some 11), (.alloc [(.int .i64 0), (.int .i64 0)]), [], none, []⟩,
 ⟨none, (.store 2 none), [(.t 11), (.t 25)], none, []⟩] 0 [1, 6, 11, 20, 21, 22])
 (.seq
 (.seq
 (.reg true [] [] [
 ⟨(some 26), (.load (some 3)), [(.t 6)], none, []⟩,
 ⟨(some 27), (.load (some 2)), [(.t 11)], none, []⟩,
 ⟨(some 28), (.call false false false), [(.f 49), (.t 26), (.t 27)], none, []⟩,
 ⟨(some 29), (.un .not), [(.t 28)], none, []⟩] 0 [1, 6, 20, 21, 22, 29])
 (.cond (.t 29)
 (.seq
 (.reg true [] [] [
 ⟨(some 30), (.load (some 3)), [(.t 6)], none, []⟩,
 ⟨none, (.store 3 none), [(.t 6), (.t 30)], none, []⟩,
 ⟨(some 7), .mv, [(.c (.int .i64 0))], none, []⟩,
 ⟨(some 8), .mv, [(.c (.int .i64 7))], none, []⟩] 0 [6, 7, 8])
 .ret)
 .skip))
 (.seq
 (.reg true [] [] [
 ⟨(some 32), (.load (some 3)), [(.t 6)], none, []⟩,
 ⟨(some 33), .mv, [(.t 1)], none, []⟩,
 ⟨(some 34), (.call false false false), [(.f 50), (.t 32), (.t 33)], none, []⟩,
 ⟨(some 31), .mv, [(.t 34)], none, []⟩,
 ⟨(some 35), (.ext 0), [(.t 31)], none, []⟩,
 ⟨(some 36), (.ext 1), [(.t 31)], none, []⟩,
 ⟨(some 7), .mv, [(.t 35)], none, []⟩,
 ⟨(some 8), .mv, [(.t 36)], none, []⟩] 0 [1, 6, 7, 8, 20, 21, 22])
 (.seq
 (.reg true [] [] [
 ⟨(some 37), .mv, [(.t 8)], none, []⟩,
 ⟨(some 38), (.bin 0 .neq), [(.t 37), (.c (.int .i64 0))], none, []⟩] 0 [1, 6, 7, 8, 20, 21, 22, 38])
 (.cond (.t 38)
 (.seq
 (.reg true [] [] [
 ⟨(some 39), (.load (some 3)), [(.t 6)], none, []⟩,
 ⟨(some 40), .mv, [(.t 8)], none, []⟩,
 ⟨none, (.store 3 none), [(.t 6), (.t 39)], none, []⟩,
 ⟨(some 7), .mv, [(.c (.int .i64 0))], none, []⟩,
 ⟨(some 8), .mv, [(.t 40)], none, []⟩] 0 [6, 7, 8])
 .ret)
 .skip))))))
 (.reg true [] [] [
 ⟨(some 41), (.bin 0 .add), [(.t 22), (.c (.int .i64 1))], none, []⟩,
 ⟨(some 22), .mv, [(.t 41)], none, []⟩] 0 [1, 6, 7, 20, 21, 22]))))
def l22 : LFun := ⟨3, 44, [],
 (.seq
 (.reg false [3, 6] [3, 6] [
 ⟨(some 3), .box, [(.t 0)], none, []⟩,
 ⟨(some 6), (.alloc [(.sl none 1 []), (.sl none 1 []), (.sl none 1 [])]), [], none, []⟩,
 ⟨(some 7), .mv, [(.c (.int .i64 0))], none, []⟩,
 ⟨(some 8), .mv, [(.c (.int .i64 0))], none, []⟩] 0 [1, 2, 3, 6, 7])
 (.seq
 (.reg false [] [] [
 ⟨(some 12), (.load (some 3)), [(.t 3)], none, []⟩,
 ⟨(some 13), (.build [(.sl none 1 []), (.sl none 1 []), (.sl none 1 [])] [(0, 3)]), [(.t 12)], none, []⟩,
 ⟨none, (.store 3 none), [(.t 6), (.t 13)], none, []⟩] 0 [1, 2, 3, 6, 7])
 (.seq
 (.seq
 (.reg false [] [] [
 ⟨(some 14), (.load (some 3)), [(.t 3)], none, []⟩,
 ⟨(some 15), (.call false false false), [(.f 48), (.t 14)], none, []⟩,
 ⟨(some 9), .mv, [(.t 15)], none, []⟩] 0 [1, 2, 6, 7, 9])
 (.seq
 (.reg false [] [] [
 ⟨(some 16), .mv, [(.t 9)], none, []⟩,
 ⟨(some 17), (.bin 0 .neq), [(.t 16), (.c (.int .i64 0))], none, []⟩] 0 [1, 2, 6, 7, 9, 17])
 (.cond (.t 17)
 (.seq
 (.reg false [] [] [
 ⟨(some 18), (.load (some 3)), [(.t 6)], none, []⟩,
 ⟨(some 19), .mv, [(.t 9)], none, []⟩,
 ⟨none, (.store 3 none), [(.t 6), (.t 18)], none, []⟩,
 ⟨(some 7), .mv, [(.c (.int .i64 0))], none, []⟩,
 ⟨(some 8), .mv, [(.t 19)], none, []⟩] 0 [6, 7, 8])
 .ret)
 .skip)))
 (.seq
 (.seq
 (.reg false [] [] [
 ⟨(some 20), .mv, [(.t 2)], none, []⟩,
 ⟨(some 21), .len, [(.t 20)], none, []⟩,
 ⟨(some 22), .mv, [(.c (.int .i64 0))], none, []⟩] 0 [1, 6, 7, 20, 21, 22])
 (.block 0
 (.loop b22_0)))
 (.seq
 (.reg false [] [] [
 ⟨(some 42), (.load (some 3)), [(.t 6)], none, []⟩,
 ⟨(some 43), .mv, [(.t 7)], none, []⟩,
 ⟨none, (.store 3 none), [(.t 6), (.t 42)], none, []⟩,
 ⟨(some 7), .mv, [(.t 43)], none, []⟩,
 ⟨(some 8), .mv, [(.c (.int .i64 0))], none, []⟩] 0 [6, 7, 8])
 .ret))))),
 [(.c 6 (some 3)), (.t 7), (.t 8)]⟩
theorem c22 : funC Try.prog [(0, [1, 2, 3, 6, 7]), (1, [1, 2, 3, 6, 7]), (2, [1, 2, 6, 7, 9]), (3, [1, 2, 6, 7, 9, 17]), (4, [6, 7, 8]), (5, [1, 6, 7, 20, 21, 22]), (6, [1, 6, 7, 20, 21, 22, 23]), (7, [1, 6, 11, 20, 21, 22]), (8, [1, 6, 20, 21, 22, 29]), (9, [6, 7, 8]), (10, [1, 6, 7, 8, 20, 21, 22]), (11, [1, 6, 7, 8, 20, 21, 22, 38]), (12, [6, 7, 8]), (13, [1, 6, 7, 20, 21, 22]), (14, [6, 7, 8])] Try.f22 = some (unF l22) := by kernel_rfl
/-- (acme/zone.table).zone -/
def l23 : LFun := ⟨5, 54, [],
 (.seq
 (.reg false [5, 6, 10] [5, 6, 10] [
 ⟨(some 5), .box, [(.t 0)], none, []⟩,
 ⟨(some 6), .box, [(.t 1)], none, []⟩,
 ⟨(some 10), (.alloc [(.int .i64 0), (.int .i64 0)]), [], none, []⟩] 0 [2, 3, 4, 5, 6, 10])
 (.seq
 (.reg false [] [] [
 ⟨(some 13), (.fa 0), [(.t 5)], none, [16, 17, 20, 23, 24, 25, 26, 27, 28, 29, 30, 31, 32]⟩,
 ⟨(some 14), (.fa 2), [(.t 13)], none, [16, 17, 20, 23, 24, 25, 26, 27, 28, 29, 30, 31, 32]⟩,
 ⟨(some 15), (.load none), [(.t 14)], none, [16, 17, 20, 23, 24, 25, 26, 27, 28, 29, 30, 31, 32]⟩,
 ⟨(some 16), (.fa 0), [(.t 6)], none, [13, 14, 15, 20, 23, 24, 25, 26, 27, 28, 29, 30, 31, 32]⟩,
 ⟨(some 17), (.load none), [(.t 16)], none, [13, 14, 15, 20, 23, 24, 25, 26, 27, 28, 29, 30, 31, 32]⟩,
 ⟨(some 18), (.ixs 1), [(.t 15), (.t 17)], none, [20, 23, 24, 25, 26, 27, 28, 29, 30, 31, 32]⟩,
 ⟨(some 19), (.load none), [(.t 18)], none, [20, 23, 24, 25, 26, 27, 28, 29, 30, 31, 32]⟩,
 ⟨(some 20), .mv, [(.t 4)], none, [13, 14, 15, 16, 17, 18, 19, 23, 24, 25, 26, 27, 28, 29, 30, 31, 32]⟩,
 ⟨(some 21), (.ixs 1), [(.t 19), (.t 20)], none, [23, 24, 25, 26, 27, 28, 29, 30, 31, 32]⟩,
 ⟨(some 22), (.load none), [(.t 21)], none, [23, 24, 25, 26, 27, 28, 29, 30, 31, 32]⟩,
 ⟨(some 23), (.fa 0), [(.t 5)], none, [13, 14, 15, 16, 17, 18, 19, 20, 21, 22, 26, 27, 30, 11]⟩,
 ⟨(some 24), (.fa 1), [(.t 23)], none, [13, 14, 15, 16, 17, 18, 19, 20, 21, 22, 26, 27, 30, 11]⟩,
 ⟨(some 25), (.load none), [(.t 24)], none, [13, 14, 15, 16, 17, 18, 19, 20, 21, 22, 26, 27, 30, 11]⟩,
 ⟨(some 26), (.fa 1), [(.t 6)], none, [13, 14, 15, 16, 17, 18, 19, 20, 21, 22, 23, 24, 25, 30, 11]⟩,
 ⟨(some 27), (.load none), [(.t 26)], none, [13, 14, 15, 16, 17, 18, 19, 20, 21, 22, 23, 24, 25, 30, 11]⟩,
 ⟨(some 28), (.ixs 1), [(.t 25), (.t 27)], none, [13, 14, 15, 16, 17, 18, 19, 20, 21, 22, 30, 11]⟩,
 ⟨(some 29), (.load none), [(.t 28)], none, [13, 14, 15, 16, 17, 18, 19, 20, 21, 22, 30, 11]⟩,
 ⟨(some 30), .mv, [(.t 4)], none, [13, 14, 15, 16, 17, 18, 19, 20, 21, 22, 23, 24, 25, 26, 27, 28, 29, 11]⟩,
 ⟨(some 31), (.ixs 1), [(.t 29), (.t 30)], none, [13, 14, 15, 16, 17, 18, 19, 20, 21, 22, 11]⟩,
 ⟨(some 32), (.load none), [(.t 31)], none, [13, 14, 15, 16, 17, 18, 19, 20, 21, 22, 11]⟩,
 ⟨(some 11), .mv, [(.t 22)], none, [23, 24, 25, 26, 27, 28, 29, 30, 31, 32]⟩,
 ⟨(some 12), .mv, [(.t 32)], none, []⟩] 0 [2, 3, 10, 11, 12])
 (.seq
 (.seq
 (.reg false [] [] [
 ⟨(some 33), .mv, [(.t 2)], none, []⟩] 0 [3, 10, 11, 12, 33])
 (.cond (.t 33)
 (.seq
 (.reg false [] [] [
 ⟨(some 34), .mv, [(.t 3)], none, []⟩,
 ⟨(some 35), .mv, [(.t 11)], none, []⟩,
 ⟨(some 36), (.bin 0 .add), [(.t 34), (.t 35)], none, []⟩,
 ⟨(some 37), .mv, [(.t 3)], none, []⟩,
 ⟨(some 38), .mv, [(.t 11)], none, []⟩,
 ⟨(some 39), (.bin 0 .add), [(.t 37), (.t 38)], none, []⟩,
 ⟨(some 40), .mv, [(.t 12)], none, []⟩,
 ⟨(some 41), (.bin 0 .add), [(.t 39), (.t 40)], none, []⟩,
 ⟨(some 42), (.build [(.int .i64 0), (.int .i64 0)] [(0, 1), (1, 1)]), [(.t 36), (.t 41)], none, []⟩,
 ⟨(some 43), (.build [(.int .i64 0), (.int .i64 0)] [(0, 2)]), [(.t 42)], none, []⟩,
 ⟨none, (.store 2 none), [(.t 10), (.t 43)], none, []⟩] 0 [10])
 .ret)
 .skip))
 (.seq
 (.reg false [] [] [
 ⟨(some 44), .mv, [(.t 3)], none, []⟩,
 ⟨(some 45), .mv, [(.t 11)], none, []⟩,
 ⟨(some 46), (.bin 0 .sub), [(.t 44), (.t 45)], none, []⟩,
 ⟨(some 47), .mv, [(.t 12)], none, []⟩,
 ⟨(some 48), (.bin 0 .sub), [(.t 46), (.t 47)], none, []⟩,
 ⟨(some 49), .mv, [(.t 3)], none, []⟩,
 ⟨(some 50), .mv, [(.t 11)], none, []⟩,
 ⟨(some 51), (.bin 0 .sub), [(.t 49), (.t 50)], none, []⟩,
 ⟨(some 52), (.build [(.int .i64 0), (.int .i64 0)] [(0, 1), (1, 1)]), [(.t 48), (.t 51)], none, []⟩,
 ⟨(some 53), (.build [(.int .i64 0), (.int .i64 0)] [(0, 2)]), [(.t 52)], none, []⟩,
 ⟨none, (.store 2 none), [(.t 10), (.t 53)], none, []⟩] 0 [10])
 .ret)))),
 [(.c 10 (some 2))]⟩
theorem c23 : funC Try.prog [(0, [2, 3, 4, 5, 6, 10]), (1, [2, 3, 10, 11, 12]), (2, [3, 10, 11, 12, 33]), (3, [10]), (4, [10])] Try.f23 = some (unF l23) := by kernel_rfl
/-- (acme/zone.table).play -/
def l24 : LFun := ⟨4, 22, [],
 (.seq
 (.reg false [4, 5, 8] [4, 5, 8] [
 ⟨(some 4), .box, [(.t 0)], none, []⟩,
 ⟨(some 5), .box, [(.t 1)], none, []⟩,
 ⟨(some 8), (.alloc [(.int .i64 0), (.int .i64 0)]), [], none, []⟩] 0 [2, 3, 4, 5, 8])
 (.seq
 (.reg false [] [] [
 ⟨(some 9), (.load (some 3)), [(.t 4)], none, [10, 11, 12, 13, 15, 16, 17, 18, 19]⟩,
 ⟨(some 10), (.fa 0), [(.t 5)], none, [9, 12, 13, 15, 16, 17, 18, 19]⟩,
 ⟨(some 11), (.load (some 2)), [(.t 10)], none, [9, 12, 13, 15, 16, 17, 18, 19]⟩,
 ⟨(some 12), .mv, [(.t 2)], none, [9, 10, 11, 13, 15, 16, 17, 18, 19]⟩,
 ⟨(some 13), .mv, [(.t 3)], none, [9, 10, 11, 12, 15, 16, 17, 18, 19]⟩,
 ⟨(some 14), (.call true false false), [(.f 23), (.t 9), (.t 11), (.c (.bool false)), (.t 12), (.t 13)], none, [15, 16, 17, 18, 19]⟩,
 ⟨(some 15), (.load (some 3)), [(.t 4)], none, [9, 10, 11, 12, 13, 14, 16, 17, 18, 19]⟩,
 ⟨(some 16), (.fa 2), [(.t 5)], none, [9, 10, 11, 12, 13, 14, 15, 18, 19]⟩,
 ⟨(some 17), (.load (some 2)), [(.t 16)], none, [9, 10, 11, 12, 13, 14, 15, 18, 19]⟩,
 ⟨(some 18), .mv, [(.t 2)], none, [9, 10, 11, 12, 13, 14, 15, 16, 17, 19]⟩,
 ⟨(some 19), .mv, [(.t 3)], none, [9, 10, 11, 12, 13, 14, 15, 16, 17, 18]⟩,
 ⟨(some 20), (.call false false false), [(.f 23), (.t 15), (.t 17), (.c (.bool true)), (.t 18), (.t 19)], none, []⟩,
 ⟨(some 21), (.call false false false), [(.f 51), (.t 14), (.t 20)], none, []⟩,
 ⟨none, (.store 2 (some 8)), [(.t 8), (.t 21)], none, []⟩] 0 [8])
 .ret)),
 [(.c 8 (some 2))]⟩
theorem c24 : funC Try.prog [(0, [2, 3, 4, 5, 8]), (1, [8])] Try.f24 = some (unF l24) := by kernel_rfl
/-- acme/zone.newCoat -/
def l25 : LFun := ⟨3, 57, [],
 (.seq
 (.reg false [3, 5, 6] [3, 5, 6] [
 ⟨(some 3), .box, [(.t 0)], none, []⟩,
 ⟨(some 5), .box, [(.t 2)], none, []⟩,
 ⟨(some 6), (.alloc [(.int .i64 0), (.int .i64 0), (.int .i64 0), (.int .i64 0), (.int .i64 0), (.int .i64 0)]), [], none, []⟩,
 ⟨(some 7), .mv, [(.c (.int .i64 0))], none, []⟩] 0 [1, 3, 5, 6])
 (.seq
 (.seq
 (.reg false [26] [26] [
 ⟨(some 8), (.load (some 2)), [(.t 3)], none, []⟩,
 ⟨(some 9), (.build [(.int .i64 0), (.int .i64 0)] [(0, 2)]), [(.t 8)], none, []⟩,
 ⟨(some 10), (.call false false false), [(.f 52), (.t 9), (.c (.int .i64 (-20000000))), (.c (.int .i64 20000000))], none, []⟩,
 ⟨(some 11), (.un .not), [(.t 10)], none, []⟩,
 ⟨(some 12), .mv, [(.t 11)], none, []⟩,
 ⟨(some 13), (.fa 0), [(.t 5)], (some (12, false)), []⟩,
 ⟨(some 14), (.load (some 2)), [(.t 13)], (some (12, false)), []⟩,
 ⟨(some 15), (.build [(.int .i64 0), (.int .i64 0)] [(0, 2)]), [(.t 14)], (some (12, false)), []⟩,
 ⟨(some 16), (.call false false false), [(.f 52), (.t 15), (.c (.int .i64 0)), (.c (.int .i64 10000))], (some (12, false)), []⟩,
 ⟨(some 17), (.un .not), [(.t 16)], (some (12, false)), []⟩,
 ⟨(some 18), .pick, [(.t 12), (.c (.bool true)), (.t 17)], none, []⟩,
 ⟨(some 19), .mv, [(.t 18)], none, []⟩,
 ⟨(some 20), (.fa 2), [(.t 5)], (some (19, false)), []⟩,
 ⟨(some 21), (.fa 0), [(.t 20)], (some (19, false)), []⟩,
 ⟨(some 22), (.load none), [(.t 21)], (some (19, false)), []⟩,
 ⟨(some 23), (.fa 2), [(.t 5)], (some (19, false)), []⟩,
 ⟨(some 24), (.fa 1), [(.t 23)], (some (19, false)), []⟩,
 ⟨(some 25), (.load none), [(.t 24)], (some (19, false)), []⟩,
 ⟨(some 26), (.bsl 1 [(.int .i64 0)] 2 [0, 1]), [(.t 22), (.t 25)], (some (19, false)), []⟩,
 ⟨(some 27), (.call false false false), [(.f 53), (.c (.int .i64 1)), (.c (.int .i64 1000)), (.t 26)], (some (19, false)), []⟩,
 ⟨(some 28), (.un .not), [(.t 27)], (some (19, false)), []⟩,
 ⟨(some 29), .pick, [(.t 19), (.c (.bool true)), (.t 28)], none, []⟩] 0 [1, 5, 6, 29])
 (.cond (.t 29)
 (.seq
 (.reg false [] [] [
 ⟨(some 30), (.load (some 6)), [(.t 6)], none, []⟩,
 ⟨none, (.store 6 none), [(.t 6), (.t 30)], none, []⟩,
 ⟨(some 7), .mv, [(.c (.int .i64 2))], none, []⟩] 0 [6, 7])
 .ret)
 .skip))
 (.seq
 (.reg false [] [] [
 ⟨(some 31), (.load (some 4)), [(.t 5)], none, []⟩,
 ⟨(some 32), (.fa 0), [(.t 5)], none, []⟩,
 ⟨(some 33), (.fa 0), [(.t 32)], none, []⟩,
 ⟨(some 34), (.load none), [(.t 33)], none, []⟩,
 ⟨(some 35), (.fa 2), [(.t 5)], none, []⟩,
 ⟨(some 36), (.fa 0), [(.t 35)], none, []⟩,
 ⟨(some 37), (.load none), [(.t 36)], none, []⟩,
 ⟨(some 38), (.bin 0 .mul), [(.t 34), (.t 37)], none, []⟩,
 ⟨(some 39), (.fa 0), [(.t 5)], none, []⟩,
 ⟨(some 40), (.fa 1), [(.t 39)], none, []⟩,
 ⟨(some 41), (.load none), [(.t 40)], none, []⟩,
 ⟨(some 42), (.fa 2), [(.t 5)], none, []⟩,
 ⟨(some 43), (.fa 0), [(.t 42)], none, []⟩,
 ⟨(some 44), (.load none), [(.t 43)], none, []⟩,
 ⟨(some 45), (.bin 0 .mul), [(.t 41), (.t 44)], none, []⟩,
 ⟨(some 46), (.build [(.int .i64 0), (.int .i64 0), (.int .i64 0), (.int .i64 0), (.int .i64 0), (.int .i64 0)] [(0, 4), (4, 1), (5, 1)]), [(.t 31), (.t 38), (.t 45)], none, []⟩,
 ⟨none, (.store 6 none), [(.t 6), (.t 46)], none, []⟩] 0 [1, 6])
 (.seq
 (.seq
 (.reg false [] [] [
 ⟨(some 47), .mv, [(.t 1)], none, []⟩] 0 [6, 47])
 (.cond (.t 47)
 (.reg false [] [] [
 ⟨(some 48), (.fa 5), [(.t 6)], none, []⟩,
 ⟨(some 49), (.load none), [(.t 48)], none, []⟩,
 ⟨(some 50), (.un .neg), [(.t 49)], none, []⟩,
 ⟨(some 51), (.fa 4), [(.t 6)], none, []⟩,
 ⟨(some 52), (.load none), [(.t 51)], none, []⟩,
 ⟨(some 53), (.un .neg), [(.t 52)], none, []⟩,
 ⟨(some 54), (.fa 4), [(.t 6)], none, []⟩,
 ⟨none, (.store 1 none), [(.t 54), (.t 50)], none, []⟩,
 ⟨(some 55), (.fa 5), [(.t 6)], none, []⟩,
 ⟨none, (.store 1 none), [(.t 55), (.t 53)], none, []⟩] 0 [6])
 .skip))
 (.seq
 (.reg false [] [] [
 ⟨(some 56), (.load (some 6)), [(.t 6)], none, []⟩,
 ⟨none, (.store 6 none), [(.t 6), (.t 56)], none, []⟩,
 ⟨(some 7), .mv, [(.c (.int .i64 0))], none, []⟩] 0 [6, 7])
 .ret))))),
 [(.c 6 (some 6)), (.t 7)]⟩
theorem c25 : funC Try.prog [(0, [1, 3, 5, 6]), (1, [1, 5, 6, 29]), (2, [6, 7]), (3, [1, 6]), (4, [6, 47]), (5, [6]), (6, [6, 7])] Try.f25 = some (unF l25) := by kernel_rfl
/-- (acme/zone.coat).up -/
def l26 : LFun := ⟨2, 10, [],
 (.seq
 (.reg false [2] [2] [
 ⟨(some 2), .box, [(.t 0)], none, []⟩,
 ⟨(some 4), .mv, [(.c (.int .i64 0))], none, []⟩] 0 [1, 2])
 (.seq
 (.reg false [] [] [
 ⟨(some 5), (.load (some 6)), [(.t 2)], none, []⟩,
 ⟨(some 6), .mv, [(.t 1)], none, []⟩,
 ⟨(some 7), (.un .neg), [(.t 6)], none, []⟩,
 ⟨(some 8), (.call false false false), [(.f 27), (.t 5), (.t 7)], none, []⟩,
 ⟨(some 9), (.un .neg), [(.t 8)], none, []⟩,
 ⟨(some 4), .mv, [(.t 9)], none, []⟩] 0 [4])
 .ret)),
 [(.t 4)]⟩
theorem c26 : funC Try.prog [(0, [1, 2]), (1, [4])] Try.f26 = some (unF l26) := by kernel_rfl
/-- (acme/zone.coat).down -/
def l27 : LFun := ⟨2, 21, [],
 (.seq
 (.reg false [2] [2] [
 ⟨(some 2), .box, [(.t 0)], none, []⟩,
 ⟨(some 4), .mv, [(.c (.int .i64 0))], none, []⟩] 0 [1, 2])
 (.seq
 (.reg false [] [] [
 ⟨(some 6), (.fa 0), [(.t 2)], none, []⟩,
 ⟨(some 7), (.fa 2), [(.t 6)], none, []⟩,
 ⟨(some 8), (.fa 1), [(.t 7)], none, []⟩,
 ⟨(some 9), (.load none), [(.t 8)], none, []⟩,
 ⟨(some 5), .mv, [(.t 9)], none, []⟩] 0 [1, 5])
 (.seq
 (.reg false [] [] [
 ⟨(some 10), .mv, [(.t 1)], none, []⟩,
 ⟨(some 11), .mv, [(.t 1)], none, []⟩,
 ⟨(some 12), .mv, [(.t 5)], none, []⟩,
 ⟨(some 13), (.bin 0 .rem), [(.t 11), (.t 12)], none, []⟩,
 ⟨(some 14), .mv, [(.t 5)], none, []⟩,
 ⟨(some 15), (.bin 0 .add), [(.t 13), (.t 14)], none, []⟩,
 ⟨(some 16), .mv, [(.t 5)], none, []⟩,
 ⟨(some 17), (.bin 0 .rem), [(.t 15), (.t 16)], none, []⟩,
 ⟨(some 18), (.bin 0 .sub), [(.t 10), (.t 17)], none, []⟩,
 ⟨(some 19), .mv, [(.t 5)], none, []⟩,
 ⟨(some 20), (.bin 0 .quo), [(.t 18), (.t 19)], none, []⟩,
 ⟨(some 4), .mv, [(.t 20)], none, []⟩] 0 [4])
 .ret))),
 [(.t 4)]⟩
theorem c27 : funC Try.prog [(0, [1, 2]), (1, [1, 5]), (2, [4])] Try.f27 = some (unF l27) := by kernel_rfl
/-- acme/zone.Groups -/
def b28_0 : LCode :=
 (.seq
 (.reg true [] [] [
 ⟨(some 17), (.bin 0 .lss), [(.t 16), (.c (.int .i64 2))], none, []⟩] 0 [3, 4, 5, 15, 16, 17])
 (.seq
 (.cond (.t 17)
 .skip
 (.exit 0))
 (.seq
 (.block 1
 (.seq
 (.reg true [9] [9] [
 ⟨(some 18), (.idx 2 2 (some 2)), [(.t 15), (.t 16)], none, []⟩,
 ⟨(some 9), (.alloc [(.int .i64 0), (.int .i64 0)]), [], none, []⟩,
 ⟨none, (.store 2 none), [(.t 9), (.t 18)], none, []⟩] 0 [3, 4, 5, 9, 15, 16])
 (.seq
 (.reg true [] [] [
 ⟨(some 19), (.load (some 2)), [(.t 9)], none, []⟩,
 ⟨(some 20), (.call false false false), [(.f 52), (.t 19), (.c (.int .i64 0)), (.c (.int .i64 20000000))], none, []⟩,
 ⟨(some 21), (.un .not), [(.t 20)], none, []⟩] 0 [3, 4, 5, 15, 16, 21])
 (.cond (.t 21)
 (.seq
 (.reg true [] [] [
 ⟨(some 6), .mv, [(.c (.int .i64 0))], none, []⟩,
 ⟨(some 7), .mv, [(.c (.int .i64 2))], none, []⟩] 0 [6, 7])
 .ret)
 .skip))))
 (.reg true [] [] [
 ⟨(some 22), (.bin 0 .add), [(.t 16), (.c (.int .i64 1))], none, []⟩,
 ⟨(some 16), .mv, [(.t 22)], none, []⟩] 0 [3, 4, 5, 15, 16]))))
def b28_1 : LCode :=
 (.seq
 (.reg true [] [] [
 ⟨(some 28), (.bin 0 .lss), [(.t 27), (.c (.int .i64 50))], none, []⟩] 0 [3, 4, 5, 27, 28])
 (.seq
 (.cond (.t 28)
 .skip
 (.exit 2))
 (.seq
 (.block 3
 (.seq
 (.reg true [] [] [
 ⟨(some 29), .mv, [(.t 27)], none, []⟩,
 ⟨(some 10), .mv, [(.t 29)], none, []⟩] 0 [3, 4, 5, 10, 27])
 (.seq
 (.reg true [] [] [
 ⟨(some 30), (.load (some 2)), [(.t 3)], none, []⟩,
 ⟨(some 31), (.build [(.int .i64 0), (.int .i64 0)] [(0, 2)]), [(.t 30)], none, []⟩,
 ⟨(some 32), (.load (some 2)), [(.t 4)], none, []⟩,
 ⟨(some 33), (.build [(.int .i64 0), (.int .i64 0)] [(0, 2)]), [(.t 32)], none, []⟩,
 ⟨(some 34), .mv, [(.t 10)], none, []⟩,
 ⟨(some 35), (.bin 0 .add), [(.t 34), (.c (.int .i64 1))], none, []⟩,
 ⟨(some 36), (.load (some 2)), [(.t 5)], none, []⟩,
 ⟨(some 37), (.call false false false), [(.f 54), (.t 31), (.t 33), (.t 35), (.t 36)], none, []⟩] 0 [3, 4, 5, 10, 27, 37])
 (.cond (.t 37)
 (.seq
 (.reg true [] [] [
 ⟨(some 38), .mv, [(.t 10)], none, []⟩,
 ⟨(some 39), (.bin 0 .add), [(.t 38), (.c (.int .i64 1))], none, []⟩,
 ⟨(some 6), .mv, [(.t 39)], none, []⟩,
 ⟨(some 7), .mv, [(.c (.int .i64 0))], none, []⟩] 0 [6, 7])
 .ret)
 .skip))))
 (.reg true [] [] [
 ⟨(some 40), (.bin 0 .add), [(.t 27), (.c (.int .i64 1))], none, []⟩,
 ⟨(some 27), .mv, [(.t 40)], none, []⟩] 0 [3, 4, 5, 27]))))
def l28 : LFun := ⟨3, 41, [],
 (.seq
 (.reg false [3, 4, 5] [3, 4, 5] [
 ⟨(some 3), .box, [(.t 0)], none, []⟩,
 ⟨(some 4), .box, [(.t 1)], none, []⟩,
 ⟨(some 5), .box, [(.t 2)], none, []⟩,
 ⟨(some 6), .mv, [(.c (.int .i64 0))], none, []⟩,
 ⟨(some 7), .mv, [(.c (.int .i64 0))], none, []⟩] 0 [3, 4, 5])
 (.seq
 (.seq
 (.reg false [] [] [
 ⟨(some 11), (.load (some 2)), [(.t 3)], none, []⟩,
 ⟨(some 12), (.build [(.int .i64 0), (.int .i64 0)] [(0, 2)]), [(.t 11)], none, []⟩,
 ⟨(some 13), (.load (some 2)), [(.t 4)], none, []⟩,
 ⟨(some 14), (.build [(.int .i64 0), (.int .i64 0)] [(0, 2)]), [(.t 13)], none, []⟩,
 ⟨(some 15), (.build [(.int .i64 0), (.int .i64 0), (.int .i64 0), (.int .i64 0)] [(0, 2), (2, 2)]), [(.t 12), (.t 14)], none, []⟩,
 ⟨(some 16), .mv, [(.c (.int .i64 0))], none, []⟩] 0 [3, 4, 5, 15, 16])
 (.block 0
 (.loop b28_0)))
 (.seq
 (.seq
 (.reg false [] [] [
 ⟨(some 23), (.load (some 2)), [(.t 5)], none, []⟩,
 ⟨(some 24), (.build [(.int .i64 0), (.int .i64 0)] [(0, 2)]), [(.t 23)], none, []⟩,
 ⟨(some 25), (.call false false false), [(.f 52), (.t 24), (.c (.int .i64 (-40000000))), (.c (.int .i64 40000000))], none, []⟩,
 ⟨(some 26), (.un .not), [(.t 25)], none, []⟩] 0 [3, 4, 5, 26])
 (.cond (.t 26)
 (.seq
 (.reg false [] [] [
 ⟨(some 6), .mv, [(.c (.int .i64 0))], none, []⟩,
 ⟨(some 7), .mv, [(.c (.int .i64 2))], none, []⟩] 0 [6, 7])
 .ret)
 .skip))
 (.seq
 (.seq
 (.reg false [] [] [
 ⟨(some 27), .mv, [(.c (.int .i64 0))], none, []⟩] 0 [3, 4, 5, 27])
 (.block 2
 (.loop b28_1)))
 (.seq
 (.reg false [] [] [
 ⟨(some 6), .mv, [(.c (.int .i64 0))], none, []⟩,
 ⟨(some 7), .mv, [(.c (.int .i64 7))], none, []⟩] 0 [6, 7])
 .ret))))),
 [(.t 6), (.t 7)]⟩
theorem c28 : funC Try.prog [(0, [3, 4, 5]), (1, [3, 4, 5, 15, 16]), (2, [3, 4, 5, 15, 16, 17]), (3, [3, 4, 5, 9, 15, 16]), (4, [3, 4, 5, 15, 16, 21]), (5, [6, 7]), (6, [3, 4, 5, 15, 16]), (7, [3, 4, 5, 26]), (8, [6, 7]), (9, [3, 4, 5, 27]), (10, [3, 4, 5, 27, 28]), (11, [3, 4, 5, 10, 27]), (12, [3, 4, 5, 10, 27, 37]), (13, [6, 7]), (14, [3, 4, 5, 27]), (15, [6, 7])] Try.f28 = some (unF l28) := by kernel_rfl
/-- acme/die.Reach -/
def l29 : LFun := ⟨3, 30, [],
 (.seq
 (.reg false [3] [3] [
 ⟨(some 3), .box, [(.t 0)], none, []⟩,
 ⟨(some 6), .mv, [(.c (.int .i64 0))], none, []⟩,
 ⟨(some 7), .mv, [(.c (.int .i64 0))], none, []⟩] 0 [1, 2, 3])
 (.seq
 (.reg false [12] [12] [
 ⟨(some 10), (.load (some 6)), [(.t 3)], none, []⟩,
 ⟨(some 11), .mv, [(.t 1)], none, []⟩,
 ⟨(some 12), (.call false true true), [(.f 55), (.t 10), (.t 11)], none, []⟩,
 ⟨(some 9), .mv, [(.t 12)], none, []⟩,
 ⟨(some 13), (.ext 0), [(.t 9)], none, []⟩,
 ⟨(some 14), (.ext 1), [(.t 9)], none, []⟩,
 ⟨(some 8), .mv, [(.t 13)], none, []⟩,
 ⟨(some 7), .mv, [(.t 14)], none, []⟩] 0 [2, 7, 8])
 (.seq
 (.block 0
 (.seq
 (.reg false [] [] [
 ⟨(some 16), .mv, [(.t 7)], none, []⟩,
 ⟨(some 17), (.bin 0 .neq), [(.t 16), (.c (.int .i64 0))], none, []⟩,
 ⟨(some 15), .mv, [(.t 17)], none, []⟩] 0 [2, 7, 8, 15])
 (.cond (.t 15)
 (.seq
 (.reg false [] [] [
 ⟨(some 18), .mv, [(.t 7)], none, []⟩,
 ⟨(some 6), .mv, [(.c (.int .i64 0))], none, []⟩,
 ⟨(some 7), .mv, [(.t 18)], none, []⟩] 0 [6, 7])
 .ret)
 (.seq
 (.reg false [24] [24] [
 ⟨(some 20), .mv, [(.t 8)], none, []⟩,
 ⟨(some 21), (.call false false false), [(.f 57), (.t 20)], none, []⟩,
 ⟨(some 22), (.bin 0 .sub), [(.t 21), (.c (.int .i64 1))], none, []⟩,
 ⟨(some 23), .mv, [(.t 2)], none, []⟩,
 ⟨(some 24), (.bsl 1 [(.int .i64 0)] 1 [0]), [(.t 23)], none, []⟩,
 ⟨(some 25), (.call false false false), [(.f 56), (.c (.int .i64 0)), (.t 22), (.t 24)], none, []⟩,
 ⟨(some 26), (.un .not), [(.t 25)], none, []⟩,
 ⟨(some 19), .mv, [(.t 26)], none, []⟩] 0 [2, 8, 19])
 (.cond (.t 19)
 (.seq
 (.reg false [] [] [
 ⟨(some 6), .mv, [(.c (.int .i64 0))], none, []⟩,
 ⟨(some 7), .mv, [(.c (.int .i64 3))], none, []⟩] 0 [6, 7])
 .ret)
 .skip)))))
 (.seq
 (.reg false [] [] [
 ⟨(some 27), .mv, [(.t 8)], none, []⟩,
 ⟨(some 28), .mv, [(.t 2)], none, []⟩,
 ⟨(some 29), (.call false false false), [(.f 58), (.t 27), (.t 28)], none, []⟩,
 ⟨(some 6), .mv, [(.t 29)], none, []⟩,
 ⟨(some 7), .mv, [(.c (.int .i64 0))], none, []⟩] 0 [6, 7])
 .ret)))),
 [(.t 6), (.t 7)]⟩
theorem c29 : funC Try.prog [(0, [1, 2, 3]), (1, [2, 7, 8]), (2, [2, 7, 8, 15]), (3, [6, 7]), (4, [2, 8, 19]), (5, [6, 7]), (6, [6, 7])] Try.f29 = some (unF l29) := by kernel_rfl
/-- acme/die.Plan -/
def b30_0w : List Nat :=
 [20, 21, 7, 8, 22, 23, 24, 25, 26, 27, 28, 29, 30, 31, 32, 33, 34, 35, 36]
def b30_0a : LCode :=
 (.seq
 (.reg true [] [] [
 ⟨(some 7), .mv, [(.t 20)], none, []⟩] 0 [4, 5, 6, 7, 21])
 (.reg true [] [] [
 ⟨(some 8), .mv, [(.t 21)], none, []⟩] 0 [4, 5, 6, 7, 8]))
def b30_0 : LCode :=
 (.block 1
 (.seq
 (.seq
 (.reg true [] [] [
 ⟨(some 22), .mv, [(.t 7)], none, []⟩,
 ⟨(some 23), .mv, [(.t 8)], none, []⟩,
 ⟨(some 24), (.bin 0 .eql), [(.t 22), (.t 23)], none, []⟩] 0 [4, 5, 6, 7, 8, 24])
 (.cond (.t 24)
 (.seq
 (.reg true [] [] [
 ⟨none, (.store 1 none), [(.t 4), (.c (.sl (some 2003600) 2 []))], none, []⟩,
 ⟨none, (.store 1 none), [(.t 5), (.c (.int .i64 7))], none, []⟩] 0 [4, 5])
 .ret)
 .skip))
 (.reg true [35, 36] [35] [
 ⟨(some 25), (.load none), [(.t 4)], none, [26, 27, 28, 29, 30, 31, 32, 33, 34, 35]⟩,
 ⟨(some 26), .mv, [(.t 7)], none, [25, 27, 28, 29, 30, 31, 32, 33]⟩,
 ⟨(some 27), (.load none), [(.t 6)], none, [25, 26, 28, 29, 30, 31]⟩,
 ⟨(some 28), (.load none), [(.t 6)], none, [25, 26, 27, 29, 30]⟩,
 ⟨(some 29), .mv, [(.t 7)], none, [25, 26, 27, 28, 30]⟩,
 ⟨(some 30), .mv, [(.t 8)], none, [25, 26, 27, 28, 29]⟩,
 ⟨(some 31), (.call true false false), [(.f 61), (.t 28), (.t 29), (.t 30)], none, [25, 26, 27]⟩,
 ⟨(some 32), (.call true false false), [(.f 60), (.t 27), (.t 31)], none, [25, 26]⟩,
 ⟨(some 33), (.fld 0 none), [(.t 32)], none, [25, 26]⟩,
 ⟨(some 34), (.build [(.int .i64 0), (.int .i64 0)] [(0, 1), (1, 1)]), [(.t 26), (.t 33)], none, [25]⟩,
 ⟨(some 35), (.bsl 2 [(.int .i64 0), (.int .i64 0)] 1 [0]), [(.t 34)], none, [25]⟩,
 ⟨(some 36), (.append false 2 16), [(.t 25), (.t 35)], none, []⟩,
 ⟨none, (.store 1 (some 4)), [(.t 4), (.t 36)], none, []⟩] 0 [4, 5, 6])))
def l30 : LFun := ⟨2, 38, [],
 (.seq
 (.reg false [2, 4, 5] [2, 4, 5] [
 ⟨(some 2), .box, [(.t 0)], none, []⟩,
 ⟨(some 4), (.alloc [(.sl (some 2003600) 2 [])]), [], none, []⟩,
 ⟨(some 5), (.alloc [(.int .i64 0)]), [], none, []⟩] 0 [1, 2, 4, 5])
 (.seq
 (.reg false [12, 6] [12, 6] [
 ⟨(some 10), (.load (some 6)), [(.t 2)], none, []⟩,
 ⟨(some 11), .mv, [(.t 1)], none, []⟩,
 ⟨(some 12), (.call false true true), [(.f 55), (.t 10), (.t 11)], none, []⟩,
 ⟨(some 9), .mv, [(.t 12)], none, []⟩,
 ⟨(some 13), (.ext 0), [(.t 9)], none, []⟩,
 ⟨(some 14), (.ext 1), [(.t 9)], none, []⟩,
 ⟨(some 6), (.alloc [.np]), [], none, []⟩,
 ⟨none, (.store 1 none), [(.t 6), (.t 13)], none, []⟩,
 ⟨none, (.store 1 none), [(.t 5), (.t 14)], none, []⟩] 0 [4, 5, 6])
 (.seq
 (.seq
 (.reg false [] [] [
 ⟨(some 15), (.load none), [(.t 5)], none, []⟩,
 ⟨(some 16), (.bin 0 .neq), [(.t 15), (.c (.int .i64 0))], none, []⟩] 0 [4, 5, 6, 16])
 (.cond (.t 16)
 (.seq
 (.reg false [] [] [
 ⟨(some 17), (.load none), [(.t 5)], none, [4]⟩,
 ⟨none, (.store 1 (some 4)), [(.t 4), (.c (.sl (some 2003600) 2 []))], none, [17]⟩,
 ⟨none, (.store 1 (some 5)), [(.t 5), (.t 17)], none, []⟩] 0 [4, 5])
 .ret)
 .skip))
 (.seq
 (.seq
 (.reg false [] [] [
 ⟨(some 18), (.load none), [(.t 6)], none, []⟩,
 ⟨(some 19), (.mkm 59), [(.t 18)], none, []⟩] 0 [4, 5, 6, 19])
 (.block 0
 (.rng (.t 19) [20, 21] b30_0w b30_0a b30_0)))
 (.seq
 (.reg false [] [] [
 ⟨(some 37), (.load none), [(.t 4)], none, []⟩,
 ⟨none, (.store 1 none), [(.t 4), (.t 37)], none, []⟩,
 ⟨none, (.store 1 none), [(.t 5), (.c (.int .i64 0))], none, []⟩] 0 [4, 5])
 .ret))))),
 [(.c 4 none), (.c 5 none)]⟩
theorem c30 : funC Try.prog [(0, [1, 2, 4, 5]), (1, [4, 5, 6]), (2, [4, 5, 6, 16]), (3, [4, 5]), (4, [4, 5, 6, 19]), (5, [4, 5, 6, 7, 21]), (6, [4, 5, 6, 7, 8]), (7, [4, 5, 6, 7, 8, 24]), (8, [4, 5]), (9, [4, 5, 6]), (10, [4, 5])] Try.f30 = some (unF l30) := by kernel_rfl
/-- (acme/acmetop.ArmDie).order -/
def l31 : LFun := ⟨2, 19, [],
 (.seq
 (.reg false [2, 3] [2, 3] [
 ⟨(some 2), .box, [(.t 0)], none, []⟩,
 ⟨(some 3), .box, [(.t 1)], none, []⟩,
 ⟨(some 4), .mv, [(.c (.sl none 4 []))], none, []⟩] 0 [2, 3])
 (.seq
 (.reg false [18] [18] [
 ⟨(some 5), (.fa 6), [(.t 2)], none, [10, 11, 12, 13, 14, 15, 16]⟩,
 ⟨(some 6), (.load none), [(.t 5)], none, [10, 11, 12, 13, 14, 15, 16]⟩,
 ⟨(some 7), (.conv .i64), [(.t 6)], none, [10, 11, 12, 13, 14, 15, 16]⟩,
 ⟨(some 8), (.bin 0 .rem), [(.t 7), (.c (.int .i64 60))], none, [10, 11, 12, 13, 14, 15, 16]⟩,
 ⟨(some 9), (.bin 0 .add), [(.c (.int .i64 1)), (.t 8)], none, [10, 11, 12, 13, 14, 15, 16]⟩,
 ⟨(some 10), (.fa 0), [(.t 3)], none, [5, 6, 7, 8, 9, 13, 14, 15]⟩,
 ⟨(some 11), (.load none), [(.t 10)], none, [5, 6, 7, 8, 9, 13, 14, 15]⟩,
 ⟨(some 12), (.bin 0 .mul), [(.c (.int .i64 1000)), (.t 11)], none, [5, 6, 7, 8, 9, 13, 14, 15]⟩,
 ⟨(some 13), (.fa 1), [(.t 3)], none, [5, 6, 7, 8, 9, 10, 11, 12]⟩,
 ⟨(some 14), (.load none), [(.t 13)], none, [5, 6, 7, 8, 9, 10, 11, 12]⟩,
 ⟨(some 15), (.bin 0 .mul), [(.c (.int .i64 1000)), (.t 14)], none, [5, 6, 7, 8, 9, 10, 11, 12]⟩,
 ⟨(some 16), (.call true false false), [(.f 8), (.t 12), (.t 15)], none, [5, 6, 7, 8, 9]⟩,
 ⟨(some 17), (.build [(.int .i64 0), (.int .i64 0), (.int .i64 0), (.int .i64 0)] [(0, 1), (2, 2)]), [(.t 9), (.t 16)], none, []⟩,
 ⟨(some 18), (.bsl 4 [(.int .i64 0), (.int .i64 0), (.int .i64 0), (.int .i64 0)] 1 [0]), [(.t 17)], none, []⟩,
 ⟨(some 4), .mv, [(.t 18)], none, []⟩] 0 [4])
 .ret)),
 [(.t 4)]⟩
theorem c31 : funC Try.prog [(0, [2, 3]), (1, [4])] Try.f31 = some (unF l31) := by kernel_rfl
/-- (acme/acmetop.ArmDie).tool -/
def l32 : LFun := ⟨1, 51, [],
 (.seq
 (.reg false [1, 2] [1, 2] [
 ⟨(some 1), .box, [(.t 0)], none, []⟩,
 ⟨(some 2), (.alloc [(.bool false), (.int .i64 0), (.int .i64 0), (.int .i64 0), (.int .i64 0), (.sl none 2 [])]), [], none, []⟩] 0 [1, 2])
 (.seq
 (.reg false [49] [49] [
 ⟨(some 3), (.fa 0), [(.t 1)], none, [9, 10, 11, 12, 13, 14, 16, 17, 18, 19, 20, 21, 22, 23, 24, 25, 26, 27, 29, 30, 31, 32, 33, 34, 35, 36, 37, 38, 39, 40, 41, 42, 43, 44, 45, 46, 47]⟩,
 ⟨(some 4), (.ixa 2 1), [(.t 3), (.c (.int .i64 0))], none, [9, 10, 11, 12, 13, 14, 16, 17, 18, 19, 20, 21, 22, 23, 24, 25, 26, 27, 29, 30, 31, 32, 33, 34, 35, 36, 37, 38, 39, 40, 41, 42, 43, 44, 45, 46, 47]⟩,
 ⟨(some 5), (.load none), [(.t 4)], none, [9, 10, 11, 12, 13, 14, 16, 17, 18, 19, 20, 21, 22, 23, 24, 25, 26, 27, 29, 30, 31, 32, 33, 34, 35, 36, 37, 38, 39, 40, 41, 42, 43, 44, 45, 46, 47]⟩,
 ⟨(some 6), (.bin 0 .rem), [(.t 5), (.c (.int .u8 9))], none, [9, 10, 11, 12, 13, 14, 16, 17, 18, 19, 20, 21, 22, 23, 24, 25, 26, 27, 29, 30, 31, 32, 33, 34, 35, 36, 37, 38, 39, 40, 41, 42, 43, 44, 45, 46, 47]⟩,
 ⟨(some 7), (.conv .i64), [(.t 6)], none, [9, 10, 11, 12, 13, 14, 16, 17, 18, 19, 20, 21, 22, 23, 24, 25, 26, 27, 29, 30, 31, 32, 33, 34, 35, 36, 37, 38, 39, 40, 41, 42, 43, 44, 45, 46, 47]⟩,
 ⟨(some 8), (.bin 0 .mul), [(.c (.int .i64 (-200))), (.t 7)], none, [9, 10, 11, 12, 13, 14, 16, 17, 18, 19, 20, 21, 22, 23, 24, 25, 26, 27, 29, 30, 31, 32, 33, 34, 35, 36, 37, 38, 39, 40, 41, 42, 43, 44, 45, 46, 47]⟩,
 ⟨(some 9), (.fa 0), [(.t 1)], none, [3, 4, 5, 6, 7, 8, 16, 17, 18, 19, 20, 21, 22, 23, 24, 25, 26, 27, 29, 30, 31, 32, 33, 34, 35, 36, 37, 38, 39, 40, 41, 42, 43, 44, 45, 46, 47]⟩,
 ⟨(some 10), (.ixa 2 1), [(.t 9), (.c (.int .i64 1))], none, [3, 4, 5, 6, 7, 8, 16, 17, 18, 19, 20, 21, 22, 23, 24, 25, 26, 27, 29, 30, 31, 32, 33, 34, 35, 36, 37, 38, 39, 40, 41, 42, 43, 44, 45, 46, 47]⟩,
 ⟨(some 11), (.load none), [(.t 10)], none, [3, 4, 5, 6, 7, 8, 16, 17, 18, 19, 20, 21, 22, 23, 24, 25, 26, 27, 29, 30, 31, 32, 33, 34, 35, 36, 37, 38, 39, 40, 41, 42, 43, 44, 45, 46, 47]⟩,
 ⟨(some 12), (.bin 0 .rem), [(.t 11), (.c (.int .u8 9))], none, [3, 4, 5, 6, 7, 8, 16, 17, 18, 19, 20, 21, 22, 23, 24, 25, 26, 27, 29, 30, 31, 32, 33, 34, 35, 36, 37, 38, 39, 40, 41, 42, 43, 44, 45, 46, 47]⟩,
 ⟨(some 13), (.conv .i64), [(.t 12)], none, [3, 4, 5, 6, 7, 8, 16, 17, 18, 19, 20, 21, 22, 23, 24, 25, 26, 27, 29, 30, 31, 32, 33, 34, 35, 36, 37, 38, 39, 40, 41, 42, 43, 44, 45, 46, 47]⟩,
 ⟨(some 14), (.bin 0 .mul), [(.c (.int .i64 200)), (.t 13)], none, [3, 4, 5, 6, 7, 8, 16, 17, 18, 19, 20, 21, 22, 23, 24, 25, 26, 27, 29, 30, 31, 32, 33, 34, 35, 36, 37, 38, 39, 40, 41, 42, 43, 44, 45, 46, 47]⟩,
 ⟨(some 15), (.call true false false), [(.f 8), (.t 8), (.t 14)], none, [16, 17, 18, 19, 20, 21, 22, 23, 24, 25, 26, 27, 29, 30, 31, 32, 33, 34, 35, 36, 37, 38, 39, 40, 41, 42, 43, 44, 45, 46, 47]⟩,
 ⟨(some 16), (.fa 2), [(.t 1)], none, [3, 4, 5, 6, 7, 8, 9, 10, 11, 12, 13, 14, 15, 22, 23, 24, 25, 26, 27, 29, 30, 31, 32, 33, 34, 35, 36, 37, 38, 39, 40, 41, 42, 43, 44, 45, 46, 47]⟩,
 ⟨(some 17), (.ixa 2 1), [(.t 16), (.c (.int .i64 0))], none, [3, 4, 5, 6, 7, 8, 9, 10, 11, 12, 13, 14, 15, 22, 23, 24, 25, 26, 27, 29, 30, 31, 32, 33, 34, 35, 36, 37, 38, 39, 40, 41, 42, 43, 44, 45, 46, 47]⟩,
 ⟨(some 18), (.load none), [(.t 17)], none, [3, 4, 5, 6, 7, 8, 9, 10, 11, 12, 13, 14, 15, 22, 23, 24, 25, 26, 27, 29, 30, 31, 32, 33, 34, 35, 36, 37, 38, 39, 40, 41, 42, 43, 44, 45, 46, 47]⟩,
 ⟨(some 19), (.bin 0 .rem), [(.t 18), (.c (.int .u8 9))], none, [3, 4, 5, 6, 7, 8, 9, 10, 11, 12, 13, 14, 15, 22, 23, 24, 25, 26, 27, 29, 30, 31, 32, 33, 34, 35, 36, 37, 38, 39, 40, 41, 42, 43, 44, 45, 46, 47]⟩,
 ⟨(some 20), (.conv .i64), [(.t 19)], none, [3, 4, 5, 6, 7, 8, 9, 10, 11, 12, 13, 14, 15, 22, 23, 24, 25, 26, 27, 29, 30, 31, 32, 33, 34, 35, 36, 37, 38, 39, 40, 41, 42, 43, 44, 45, 46, 47]⟩,
 ⟨(some 21), (.bin 0 .mul), [(.c (.int .i64 (-100))), (.t 20)], none, [3, 4, 5, 6, 7, 8, 9, 10, 11, 12, 13, 14, 15, 22, 23, 24, 25, 26, 27, 29, 30, 31, 32, 33, 34, 35, 36, 37, 38, 39, 40, 41, 42, 43, 44, 45, 46, 47]⟩,
 ⟨(some 22), (.fa 2), [(.t 1)], none, [3, 4, 5, 6, 7, 8, 9, 10, 11, 12, 13, 14, 15, 16, 17, 18, 19, 20, 21, 29, 30, 31, 32, 33, 34, 35, 36, 37, 38, 39, 40, 41, 42, 43, 44, 45, 46, 47]⟩,
 ⟨(some 23), (.ixa 2 1), [(.t 22), (.c (.int .i64 1))], none, [3, 4, 5, 6, 7, 8, 9, 10, 11, 12, 13, 14, 15, 16, 17, 18, 19, 20, 21, 29, 30, 31, 32, 33, 34, 35, 36, 37, 38, 39, 40, 41, 42, 43, 44, 45, 46, 47]⟩,
 ⟨(some 24), (.load none), [(.t 23)], none, [3, 4, 5, 6, 7, 8, 9, 10, 11, 12, 13, 14, 15, 16, 17, 18, 19, 20, 21, 29, 30, 31, 32, 33, 34, 35, 36, 37, 38, 39, 40, 41, 42, 43, 44, 45, 46, 47]⟩,
 ⟨(some 25), (.bin 0 .rem), [(.t 24), (.c (.int .u8 9))], none, [3, 4, 5, 6, 7, 8, 9, 10, 11, 12, 13, 14, 15, 16, 17, 18, 19, 20, 21, 29, 30, 31, 32, 33, 34, 35, 36, 37, 38, 39, 40, 41, 42, 43, 44, 45, 46, 47]⟩,
 ⟨(some 26), (.conv .i64), [(.t 25)], none, [3, 4, 5, 6, 7, 8, 9, 10, 11, 12, 13, 14, 15, 16, 17, 18, 19, 20, 21, 29, 30, 31, 32, 33, 34, 35, 36, 37, 38, 39, 40, 41, 42, 43, 44, 45, 46, 47]⟩,
 ⟨(some 27), (.bin 0 .mul), [(.c (.int .i64 100)), (.t 26)], none, [3, 4, 5, 6, 7, 8, 9, 10, 11, 12, 13, 14, 15, 16, 17, 18, 19, 20, 21, 29, 30, 31, 32, 33, 34, 35, 36, 37, 38, 39, 40, 41, 42, 43, 44, 45, 46, 47]⟩,
 ⟨(some 28), (.call true false false), [(.f 8), (.t 21), (.t 27)], none, [29, 30, 31, 32, 33, 34, 35, 36, 37, 38, 39, 40, 41, 42, 43, 44, 45, 46, 47]⟩,
 ⟨(some 29), (.fa 4), [(.t 1)], none, [3, 4, 5, 6, 7, 8, 9, 10, 11, 12, 13, 14, 15, 16, 17, 18, 19, 20, 21, 22, 23, 24, 25, 26, 27, 28, 35, 36, 37, 38, 39, 40, 41, 42, 43, 44, 45, 46, 47]⟩,
 ⟨(some 30), (.ixa 2 1), [(.t 29), (.c (.int .i64 0))], none, [3, 4, 5, 6, 7, 8, 9, 10, 11, 12, 13, 14, 15, 16, 17, 18, 19, 20, 21, 22, 23, 24, 25, 26, 27, 28, 35, 36, 37, 38, 39, 40, 41, 42, 43, 44, 45, 46, 47]⟩,
 ⟨(some 31), (.load none), [(.t 30)], none, [3, 4, 5, 6, 7, 8, 9, 10, 11, 12, 13, 14, 15, 16, 17, 18, 19, 20, 21, 22, 23, 24, 25, 26, 27, 28, 35, 36, 37, 38, 39, 40, 41, 42, 43, 44, 45, 46, 47]⟩,
 ⟨(some 32), (.bin 0 .rem), [(.t 31), (.c (.int .u8 20))], none, [3, 4, 5, 6, 7, 8, 9, 10, 11, 12, 13, 14, 15, 16, 17, 18, 19, 20, 21, 22, 23, 24, 25, 26, 27, 28, 35, 36, 37, 38, 39, 40, 41, 42, 43, 44, 45, 46, 47]⟩,
 ⟨(some 33), (.conv .i64), [(.t 32)], none, [3, 4, 5, 6, 7, 8, 9, 10, 11, 12, 13, 14, 15, 16, 17, 18, 19, 20, 21, 22, 23, 24, 25, 26, 27, 28, 35, 36, 37, 38, 39, 40, 41, 42, 43, 44, 45, 46, 47]⟩,
 ⟨(some 34), (.bin 0 .mul), [(.c (.int .i64 10)), (.t 33)], none, [3, 4, 5, 6, 7, 8, 9, 10, 11, 12, 13, 14, 15, 16, 17, 18, 19, 20, 21, 22, 23, 24, 25, 26, 27, 28, 35, 36, 37, 38, 39, 40, 41, 42, 43, 44, 45, 46, 47]⟩,
 ⟨(some 35), (.fa 4), [(.t 1)], none, [3, 4, 5, 6, 7, 8, 9, 10, 11, 12, 13, 14, 15, 16, 17, 18, 19, 20, 21, 22, 23, 24, 25, 26, 27, 28, 29, 30, 31, 32, 33, 34, 41, 42, 43, 44, 45, 46]⟩,
 ⟨(some 36), (.ixa 2 1), [(.t 35), (.c (.int .i64 0))], none, [3, 4, 5, 6, 7, 8, 9, 10, 11, 12, 13, 14, 15, 16, 17, 18, 19, 20, 21, 22, 23, 24, 25, 26, 27, 28, 29, 30, 31, 32, 33, 34, 41, 42, 43, 44, 45, 46]⟩,
 ⟨(some 37), (.load none), [(.t 36)], none, [3, 4, 5, 6, 7, 8, 9, 10, 11, 12, 13, 14, 15, 16, 17, 18, 19, 20, 21, 22, 23, 24, 25, 26, 27, 28, 29, 30, 31, 32, 33, 34, 41, 42, 43, 44, 45, 46]⟩,
 ⟨(some 38), (.bin 0 .rem), [(.t 37), (.c (.int .u8 20))], none, [3, 4, 5, 6, 7, 8, 9, 10, 11, 12, 13, 14, 15, 16, 17, 18, 19, 20, 21, 22, 23, 24, 25, 26, 27, 28, 29, 30, 31, 32, 33, 34, 41, 42, 43, 44, 45, 46]⟩,
 ⟨(some 39), (.conv .i64), [(.t 38)], none, [3, 4, 5, 6, 7, 8, 9, 10, 11, 12, 13, 14, 15, 16, 17, 18, 19, 20, 21, 22, 23, 24, 25, 26, 27, 28, 29, 30, 31, 32, 33, 34, 41, 42, 43, 44, 45, 46]⟩,
 ⟨(some 40), (.bin 0 .mul), [(.c (.int .i64 10)), (.t 39)], none, [3, 4, 5, 6, 7, 8, 9, 10, 11, 12, 13, 14, 15, 16, 17, 18, 19, 20, 21, 22, 23, 24, 25, 26, 27, 28, 29, 30, 31, 32, 33, 34, 41, 42, 43, 44, 45, 46]⟩,
 ⟨(some 41), (.fa 4), [(.t 1)], none, [3, 4, 5, 6, 7, 8, 9, 10, 11, 12, 13, 14, 15, 16, 17, 18, 19, 20, 21, 22, 23, 24, 25, 26, 27, 28, 29, 30, 31, 32, 33, 34, 35, 36, 37, 38, 39, 40]⟩,
 ⟨(some 42), (.ixa 2 1), [(.t 41), (.c (.int .i64 1))], none, [3, 4, 5, 6, 7, 8, 9, 10, 11, 12, 13, 14, 15, 16, 17, 18, 19, 20, 21, 22, 23, 24, 25, 26, 27, 28, 29, 30, 31, 32, 33, 34, 35, 36, 37, 38, 39, 40]⟩,
 ⟨(some 43), (.load none), [(.t 42)], none, [3, 4, 5, 6, 7, 8, 9, 10, 11, 12, 13, 14, 15, 16, 17, 18, 19, 20, 21, 22, 23, 24, 25, 26, 27, 28, 29, 30, 31, 32, 33, 34, 35, 36, 37, 38, 39, 40]⟩,
 ⟨(some 44), (.bin 0 .rem), [(.t 43), (.c (.int .u8 9))], none, [3, 4, 5, 6, 7, 8, 9, 10, 11, 12, 13, 14, 15, 16, 17, 18, 19, 20, 21, 22, 23, 24, 25, 26, 27, 28, 29, 30, 31, 32, 33, 34, 35, 36, 37, 38, 39, 40]⟩,
 ⟨(some 45), (.conv .i64), [(.t 44)], none, [3, 4, 5, 6, 7, 8, 9, 10, 11, 12, 13, 14, 15, 16, 17, 18, 19, 20, 21, 22, 23, 24, 25, 26, 27, 28, 29, 30, 31, 32, 33, 34, 35, 36, 37, 38, 39, 40]⟩,
 ⟨(some 46), (.bin 0 .mul), [(.c (.int .i64 10)), (.t 45)], none, [3, 4, 5, 6, 7, 8, 9, 10, 11, 12, 13, 14, 15, 16, 17, 18, 19, 20, 21, 22, 23, 24, 25, 26, 27, 28, 29, 30, 31, 32, 33, 34, 35, 36, 37, 38, 39, 40]⟩,
 ⟨(some 47), (.bin 0 .add), [(.t 40), (.t 46)], none, [3, 4, 5, 6, 7, 8, 9, 10, 11, 12, 13, 14, 15, 16, 17, 18, 19, 20, 21, 22, 23, 24, 25, 26, 27, 28, 29, 30, 31, 32, 33, 34]⟩,
 ⟨(some 48), (.call false false false), [(.f 8), (.t 34), (.t 47)], none, []⟩,
 ⟨(some 49), (.bsl 2 [(.int .i64 0), (.int .i64 0)] 1 [0]), [(.t 48)], none, []⟩,
 ⟨(some 50), (.build [(.bool false), (.int .i64 0), (.int .i64 0), (.int .i64 0), (.int .i64 0), (.sl none 2 [])] [(1, 2), (3, 2), (5, 1)]), [(.t 15), (.t 28), (.t 49)], none, []⟩,
 ⟨none, (.store 6 (some 2)), [(.t 2), (.t 50)], none, []⟩] 0 [2])
 .ret)),
 [(.c 2 (some 6))]⟩
theorem c32 : funC Try.prog [(0, [1, 2]), (1, [2])] Try.f32 = some (unF l32) := by kernel_rfl
/-- (acme/acmetop.ArmDie).cut -/
def b33_0 : LCode :=
 (.seq
 (.seq
 (.reg true [] [] [
 ⟨(some 28), .mv, [(.t 12)], none, []⟩,
 ⟨(some 29), .mv, [(.t 3)], none, []⟩,
 ⟨(some 30), (.bin 0 .lss), [(.t 28), (.t 29)], none, []⟩] 0 [3, 4, 9, 10, 11, 12, 30])
 (.cond (.t 30)
 .skip
 (.exit 0)))
 (.seq
 (.block 1
 (.seq
 (.reg true [] [] [
 ⟨(some 33), .mv, [(.t 11)], none, [34, 35, 36, 37, 38, 39, 40, 41, 42, 43]⟩,
 ⟨(some 34), (.fa 3), [(.t 9)], none, [33, 36, 37, 38, 39, 40, 41, 42]⟩,
 ⟨(some 35), (.load (some 2)), [(.t 34)], none, [33, 36, 37, 38, 39, 40, 41, 42]⟩,
 ⟨(some 36), (.fa 7), [(.t 4)], none, [33, 34, 35, 38, 39, 40]⟩,
 ⟨(some 37), (.load none), [(.t 36)], none, [33, 34, 35, 38, 39, 40]⟩,
 ⟨(some 38), .mv, [(.t 12)], none, [33, 34, 35, 36, 37]⟩,
 ⟨(some 39), (.bin 0 .mul), [(.c (.int .i64 2)), (.t 38)], none, [33, 34, 35, 36, 37]⟩,
 ⟨(some 40), (.bin 0 .add), [(.t 39), (.c (.int .i64 1))], none, [33, 34, 35, 36, 37]⟩,
 ⟨(some 41), (.call true false false), [(.f 14), (.t 37), (.t 40)], none, [33, 34, 35]⟩,
 ⟨(some 42), (.conv .u8), [(.t 41)], none, [33, 34, 35]⟩,
 ⟨(some 43), (.call true false false), [(.f 13), (.t 35), (.t 42)], none, [33]⟩,
 ⟨(some 44), (.bin 0 .add), [(.t 33), (.t 43)], none, []⟩,
 ⟨(some 13), .mv, [(.t 44)], none, []⟩] 0 [3, 4, 9, 10, 11, 12, 13])
 (.seq
 (.seq
 (.reg true [48, 49] [48] [
 ⟨(some 45), .mv, [(.t 10)], none, []⟩,
 ⟨(some 46), .mv, [(.t 13)], none, []⟩,
 ⟨(some 47), (.bin 0 .quo), [(.t 46), (.c (.int .i64 1000))], none, []⟩,
 ⟨(some 48), (.bsl 1 [(.int .i64 0)] 1 [0]), [(.t 47)], none, []⟩,
 ⟨(some 49), (.append false 1 8), [(.t 45), (.t 48)], none, []⟩,
 ⟨(some 10), .mv, [(.t 49)], none, []⟩] 0 [3, 4, 9, 10, 11, 12, 13])
 (.seq
 (.reg true [] [] [
 ⟨(some 50), .mv, [(.t 13)], none, []⟩,
 ⟨(some 51), (.bin 0 .rem), [(.t 50), (.c (.int .i64 1000))], none, []⟩,
 ⟨(some 52), (.bin 0 .neq), [(.t 51), (.c (.int .i64 0))], none, []⟩,
 ⟨(some 53), .mv, [(.t 52)], none, []⟩,
 ⟨(some 54), .mv, [(.t 13)], (some (53, true)), []⟩,
 ⟨(some 55), (.bin 0 .lss), [(.t 54), (.c (.int .i64 0))], (some (53, true)), []⟩,
 ⟨(some 56), .pick, [(.t 53), (.t 55), (.c (.bool false))], none, []⟩] 0 [3, 4, 9, 10, 11, 12, 56])
 (.cond (.t 56)
 (.reg true [] [] [
 ⟨(some 57), .mv, [(.t 10)], none, []⟩,
 ⟨(some 58), .mv, [(.t 10)], none, []⟩,
 ⟨(some 59), .len, [(.t 58)], none, []⟩,
 ⟨(some 60), (.bin 0 .sub), [(.t 59), (.c (.int .i64 1))], none, []⟩,
 ⟨(some 61), (.ixs 1), [(.t 57), (.t 60)], none, []⟩,
 ⟨(some 62), (.load none), [(.t 61)], none, []⟩,
 ⟨(some 63), (.bin 0 .sub), [(.t 62), (.c (.int .i64 1))], none, []⟩,
 ⟨(some 64), (.ixs 1), [(.t 57), (.t 60)], none, []⟩,
 ⟨none, (.store 1 none), [(.t 64), (.t 63)], none, []⟩] 0 [3, 4, 9, 10, 11, 12])
 .skip)))
 (.reg true [] [] [
 ⟨(some 65), .mv, [(.t 11)], none, [66, 67, 68, 69, 70, 71, 72, 73, 74, 75, 76]⟩,
 ⟨(some 66), (.fa 5), [(.t 9)], none, [65, 70, 71, 72, 73, 74, 75]⟩,
 ⟨(some 67), (.load none), [(.t 66)], none, [65, 70, 71, 72, 73, 74, 75]⟩,
 ⟨(some 68), (.ixs 2), [(.t 67), (.c (.int .i64 0))], none, [65, 70, 71, 72, 73, 74, 75]⟩,
 ⟨(some 69), (.load (some 2)), [(.t 68)], none, [65, 70, 71, 72, 73, 74, 75]⟩,
 ⟨(some 70), (.fa 7), [(.t 4)], none, [65, 66, 67, 68, 69, 72, 73]⟩,
 ⟨(some 71), (.load none), [(.t 70)], none, [65, 66, 67, 68, 69, 72, 73]⟩,
 ⟨(some 72), .mv, [(.t 12)], none, [65, 66, 67, 68, 69, 70, 71]⟩,
 ⟨(some 73), (.bin 0 .mul), [(.c (.int .i64 2)), (.t 72)], none, [65, 66, 67, 68, 69, 70, 71]⟩,
 ⟨(some 74), (.call true false false), [(.f 14), (.t 71), (.t 73)], none, [65, 66, 67, 68, 69]⟩,
 ⟨(some 75), (.conv .u8), [(.t 74)], none, [65, 66, 67, 68, 69]⟩,
 ⟨(some 76), (.call true false false), [(.f 13), (.t 69), (.t 75)], none, [65]⟩,
 ⟨(some 77), (.bin 0 .add), [(.t 65), (.t 76)], none, []⟩,
 ⟨(some 11), .mv, [(.t 77)], none, []⟩] 0 [3, 4, 9, 10, 11, 12]))))
 (.reg true [] [] [
 ⟨(some 31), .mv, [(.t 12)], none, []⟩,
 ⟨(some 32), (.bin 0 .add), [(.t 31), (.c (.int .i64 1))], none, []⟩,
 ⟨(some 12), .mv, [(.t 32)], none, []⟩] 0 [3, 4, 9, 10, 11, 12])))
def l33 : LFun := ⟨4, 79, [],
 (.seq
 (.reg false [4] [4] [
 ⟨(some 4), .box, [(.t 0)], none, []⟩,
 ⟨(some 8), .mv, [(.c (.sl none 1 []))], none, []⟩] 0 [1, 2, 3, 4])
 (.seq
 (.reg false [15, 16, 9] [15, 16, 9] [
 ⟨(some 14), (.load (some 8)), [(.t 4)], none, []⟩,
 ⟨(some 15), (.call false false true), [(.f 32), (.t 14)], none, []⟩,
 ⟨(some 16), (.bsl 1 [(.int .i64 0)] 0 []), [], none, []⟩,
 ⟨(some 9), (.alloc [(.bool false), (.int .i64 0), (.int .i64 0), (.int .i64 0), (.int .i64 0), (.sl none 2 [])]), [], none, []⟩,
 ⟨none, (.store 6 none), [(.t 9), (.t 15)], none, []⟩,
 ⟨(some 10), .mv, [(.t 16)], none, []⟩] 0 [1, 2, 3, 4, 9, 10])
 (.seq
 (.reg false [] [] [
 ⟨(some 17), .mv, [(.t 1)], none, [18, 19, 20, 21, 22, 23, 24, 25]⟩,
 ⟨(some 18), (.fa 1), [(.t 9)], none, [17, 20, 21, 22, 23, 24]⟩,
 ⟨(some 19), (.load (some 2)), [(.t 18)], none, [17, 20, 21, 22, 23, 24]⟩,
 ⟨(some 20), (.fa 7), [(.t 4)], none, [17, 18, 19, 22]⟩,
 ⟨(some 21), (.load none), [(.t 20)], none, [17, 18, 19, 22]⟩,
 ⟨(some 22), .mv, [(.t 2)], none, [17, 18, 19, 20, 21]⟩,
 ⟨(some 23), (.call true false false), [(.f 14), (.t 21), (.t 22)], none, [17, 18, 19]⟩,
 ⟨(some 24), (.conv .u8), [(.t 23)], none, [17, 18, 19]⟩,
 ⟨(some 25), (.call true false false), [(.f 13), (.t 19), (.t 24)], none, [17]⟩,
 ⟨(some 26), (.bin 0 .add), [(.t 17), (.t 25)], none, []⟩,
 ⟨(some 11), .mv, [(.t 26)], none, []⟩] 0 [2, 3, 4, 9, 10, 11])
 (.seq
 (.seq
 (.reg false [] [] [
 ⟨(some 27), .mv, [(.t 2)], none, []⟩,
 ⟨(some 12), .mv, [(.t 27)], none, []⟩] 0 [3, 4, 9, 10, 11, 12])
 (.block 0
 (.loop b33_0)))
 (.seq
 (.reg false [] [] [
 ⟨(some 78), .mv, [(.t 10)], none, []⟩,
 ⟨(some 8), .mv, [(.t 78)], none, []⟩] 0 [8])
 .ret))))),
 [(.t 8)]⟩
theorem c33 : funC Try.prog [(0, [1, 2, 3, 4]), (1, [1, 2, 3, 4, 9, 10]), (2, [2, 3, 4, 9, 10, 11]), (3, [3, 4, 9, 10, 11, 12]), (4, [3, 4, 9, 10, 11, 12, 30]), (5, [3, 4, 9, 10, 11, 12]), (6, [3, 4, 9, 10, 11, 12, 13]), (7, [3, 4, 9, 10, 11, 12, 13]), (8, [3, 4, 9, 10, 11, 12, 56]), (9, [3, 4, 9, 10, 11, 12]), (10, [3, 4, 9, 10, 11, 12]), (11, [8])] Try.f33 = some (unF l33) := by kernel_rfl
/-- acme/thread.Check -/
def l34 : LFun := ⟨1, 63, [],
 (.seq
 (.reg false [1] [1] [
 ⟨(some 1), .box, [(.t 0)], none, []⟩,
 ⟨(some 2), .mv, [(.c (.int .i64 0))], none, []⟩] 0 [1])
 (.seq
 (.reg false [3] [3] [
 ⟨(some 5), (.load (some 8)), [(.t 1)], none, []⟩,
 ⟨(some 6), (.build [(.int .i64 0), (.int .i64 0), (.int .i64 0), (.int .i64 0), (.int .i64 0), (.int .i64 0), (.bool false), (.int .i64 0)] [(0, 8)]), [(.t 5)], none, []⟩,
 ⟨(some 3), (.alloc [(.int .i64 0), (.int .i64 0), (.int .i64 0), (.int .i64 0), (.int .i64 0), (.int .i64 0), (.bool false), (.int .i64 0)]), [], none, []⟩,
 ⟨none, (.store 8 none), [(.t 3), (.t 6)], none, []⟩] 0 [1, 3])
 (.seq
 (.reg false [9, 16, 24] [9, 16, 24] [
 ⟨(some 7), (.fa 0), [(.t 1)], none, []⟩,
 ⟨(some 8), (.load none), [(.t 7)], none, []⟩,
 ⟨(some 9), (.bsl 1 [(.int .i64 0)] 1 [0]), [(.t 8)], none, []⟩,
 ⟨(some 10), (.call false false false), [(.f 62), (.c (.int .i64 100)), (.c (.int .i64 200000)), (.t 9)], none, []⟩,
 ⟨(some 11), .mv, [(.t 10)], none, []⟩,
 ⟨(some 12), (.fa 1), [(.t 1)], (some (11, true)), []⟩,
 ⟨(some 13), (.load none), [(.t 12)], (some (11, true)), []⟩,
 ⟨(some 14), (.fa 2), [(.t 1)], (some (11, true)), []⟩,
 ⟨(some 15), (.load none), [(.t 14)], (some (11, true)), []⟩,
 ⟨(some 16), (.bsl 1 [(.int .i64 0)] 2 [0, 1]), [(.t 13), (.t 15)], (some (11, true)), []⟩,
 ⟨(some 17), (.call false false false), [(.f 62), (.c (.int .i64 0)), (.c (.int .i64 3000)), (.t 16)], (some (11, true)), []⟩,
 ⟨(some 18), .pick, [(.t 11), (.t 17), (.c (.bool false))], none, []⟩,
 ⟨(some 19), .mv, [(.t 18)], none, []⟩,
 ⟨(some 20), (.fa 3), [(.t 1)], (some (19, true)), []⟩,
 ⟨(some 21), (.load none), [(.t 20)], (some (19, true)), []⟩,
 ⟨(some 22), (.fa 4), [(.t 1)], (some (19, true)), []⟩,
 ⟨(some 23), (.load none), [(.t 22)], (some (19, true)), []⟩,
 ⟨(some 24), (.bsl 1 [(.int .i64 0)] 2 [0, 1]), [(.t 21), (.t 23)], (some (19, true)), []⟩,
 ⟨(some 25), (.call false false false), [(.f 62), (.c (.int .i64 0)), (.c (.int .i64 200000)), (.t 24)], (some (19, true)), []⟩,
 ⟨(some 26), .pick, [(.t 19), (.t 25), (.c (.bool false))], none, []⟩,
 ⟨(some 27), .mv, [(.t 26)], none, []⟩,
 ⟨(some 28), (.fa 3), [(.t 1)], (some (27, true)), []⟩,
 ⟨(some 29), (.load none), [(.t 28)], (some (27, true)), []⟩,
 ⟨(some 30), (.fa 4), [(.t 1)], (some (27, true)), []⟩,
 ⟨(some 31), (.load none), [(.t 30)], (some (27, true)), []⟩,
 ⟨(some 32), (.bin 0 .add), [(.t 29), (.t 31)], (some (27, true)), []⟩,
 ⟨(some 33), (.bin 0 .geq), [(.t 32), (.c (.int .i64 1))], (some (27, true)), []⟩,
 ⟨(some 34), .pick, [(.t 27), (.t 33), (.c (.bool false))], none, []⟩,
 ⟨(some 4), .mv, [(.t 34)], none, []⟩] 0 [1, 3, 4])
 (.seq
 (.seq
 (.reg false [40, 47] [40, 47] [
 ⟨(some 35), .mv, [(.t 4)], none, []⟩,
 ⟨(some 36), (.un .not), [(.t 35)], none, []⟩,
 ⟨(some 37), .mv, [(.t 36)], none, []⟩,
 ⟨(some 38), (.fa 5), [(.t 1)], (some (37, false)), []⟩,
 ⟨(some 39), (.load none), [(.t 38)], (some (37, false)), []⟩,
 ⟨(some 40), (.bsl 1 [(.int .i64 0)] 1 [0]), [(.t 39)], (some (37, false)), []⟩,
 ⟨(some 41), (.call false false false), [(.f 62), (.c (.int .i64 1)), (.c (.int .i64 8)), (.t 40)], (some (37, false)), []⟩,
 ⟨(some 42), (.un .not), [(.t 41)], (some (37, false)), []⟩,
 ⟨(some 43), .pick, [(.t 37), (.c (.bool true)), (.t 42)], none, []⟩,
 ⟨(some 44), .mv, [(.t 43)], none, []⟩,
 ⟨(some 45), (.fa 7), [(.t 1)], (some (44, false)), []⟩,
 ⟨(some 46), (.load none), [(.t 45)], (some (44, false)), []⟩,
 ⟨(some 47), (.bsl 1 [(.int .i64 0)] 1 [0]), [(.t 46)], (some (44, false)), []⟩,
 ⟨(some 48), (.call false false false), [(.f 62), (.c (.int .i64 0)), (.c (.int .i64 100)), (.t 47)], (some (44, false)), []⟩,
 ⟨(some 49), (.un .not), [(.t 48)], (some (44, false)), []⟩,
 ⟨(some 50), .pick, [(.t 44), (.c (.bool true)), (.t 49)], none, []⟩] 0 [1, 3, 50])
 (.cond (.t 50)
 (.seq
 (.reg false [] [] [
 ⟨(some 2), .mv, [(.c (.int .i64 2))], none, []⟩] 0 [2])
 .ret)
 .skip))
 (.seq
 (.seq
 (.reg false [] [] [
 ⟨(some 51), (.load (some 8)), [(.t 3)], none, []⟩,
 ⟨(some 52), (.fa 3), [(.t 1)], none, []⟩,
 ⟨(some 53), (.load none), [(.t 52)], none, []⟩,
 ⟨(some 54), (.call false false false), [(.f 63), (.t 51), (.t 53)], none, []⟩,
 ⟨(some 55), (.bin 0 .lss), [(.t 54), (.c (.int .i64 0))], none, []⟩,
 ⟨(some 56), .mv, [(.t 55)], none, []⟩,
 ⟨(some 57), (.load (some 8)), [(.t 3)], (some (56, false)), []⟩,
 ⟨(some 58), (.fa 4), [(.t 1)], (some (56, false)), []⟩,
 ⟨(some 59), (.load none), [(.t 58)], (some (56, false)), []⟩,
 ⟨(some 60), (.call false false false), [(.f 63), (.t 57), (.t 59)], (some (56, false)), []⟩,
 ⟨(some 61), (.bin 0 .lss), [(.t 60), (.c (.int .i64 0))], (some (56, false)), []⟩,
 ⟨(some 62), .pick, [(.t 56), (.c (.bool true)), (.t 61)], none, []⟩] 0 [62])
 (.cond (.t 62)
 (.seq
 (.reg false [] [] [
 ⟨(some 2), .mv, [(.c (.int .i64 2))], none, []⟩] 0 [2])
 .ret)
 .skip))
 (.seq
 (.reg false [] [] [
 ⟨(some 2), .mv, [(.c (.int .i64 0))], none, []⟩] 0 [2])
 .ret)))))),
 [(.t 2)]⟩
theorem c34 : funC Try.prog [(0, [1]), (1, [1, 3]), (2, [1, 3, 4]), (3, [1, 3, 50]), (4, [2]), (5, [62]), (6, [2]), (7, [2])] Try.f34 = some (unF l34) := by kernel_rfl
/-- acme/fit.within -/
def l35 : LFun := ⟨3, 11, [],
 (.seq
 (.reg false [3, 4] [3, 4] [
 ⟨(some 3), .box, [(.t 0)], none, []⟩,
 ⟨(some 4), .box, [(.t 1)], none, []⟩,
 ⟨(some 6), .mv, [(.c (.bool false))], none, []⟩] 0 [2, 3, 4])
 (.seq
 (.reg false [] [] [
 ⟨(some 7), .mv, [(.t 2)], none, []⟩,
 ⟨(some 8), (.mkf 65), [(.t 3), (.t 4)], none, []⟩,
 ⟨(some 9), (.call false false false), [(.f 64), (.t 7), (.t 8)], none, []⟩,
 ⟨(some 10), (.un .not), [(.t 9)], none, []⟩,
 ⟨(some 6), .mv, [(.t 10)], none, []⟩] 0 [3, 4, 6])
 .ret)),
 [(.t 6)]⟩
theorem c35 : funC Try.prog [(0, [2, 3, 4]), (1, [3, 4, 6])] Try.f35 = some (unF l35) := by kernel_rfl
/-- acme/fit.checkDepth -/
def l36 : LFun := ⟨1, 6, [],
 (.seq
 (.reg false [1] [1] [
 ⟨(some 1), .box, [(.t 0)], none, []⟩,
 ⟨(some 2), .mv, [(.c (.int .i64 0))], none, []⟩] 0 [1])
 (.seq
 (.seq
 (.reg false [] [] [
 ⟨(some 3), (.load (some 2)), [(.t 1)], none, []⟩,
 ⟨(some 4), (.call false false false), [(.f 66), (.t 3), (.c (.int .i64 (-200000))), (.c (.int .i64 200000))], none, []⟩,
 ⟨(some 5), (.un .not), [(.t 4)], none, []⟩] 0 [5])
 (.cond (.t 5)
 (.seq
 (.reg false [] [] [
 ⟨(some 2), .mv, [(.c (.int .i64 3))], none, []⟩] 0 [2])
 .ret)
 .skip))
 (.seq
 (.reg false [] [] [
 ⟨(some 2), .mv, [(.c (.int .i64 0))], none, []⟩] 0 [2])
 .ret))),
 [(.t 2)]⟩
theorem c36 : funC Try.prog [(0, [1]), (1, [5]), (2, [2]), (3, [2])] Try.f36 = some (unF l36) := by kernel_rfl
/-- acme/fit.up -/
def l38 : LFun := ⟨2, 10, [],
 (.seq
 (.reg false [] [] [
 ⟨(some 4), .mv, [(.c (.int .i64 0))], none, []⟩] 0 [0, 1])
 (.seq
 (.reg false [] [] [
 ⟨(some 5), .mv, [(.t 0)], none, []⟩,
 ⟨(some 6), (.un .neg), [(.t 5)], none, []⟩,
 ⟨(some 7), .mv, [(.t 1)], none, []⟩,
 ⟨(some 8), (.call false false false), [(.f 39), (.t 6), (.t 7)], none, []⟩,
 ⟨(some 9), (.un .neg), [(.t 8)], none, []⟩,
 ⟨(some 4), .mv, [(.t 9)], none, []⟩] 0 [4])
 .ret)),
 [(.t 4)]⟩
theorem c38 : funC Try.prog [(0, [0, 1]), (1, [4])] Try.f38 = some (unF l38) := by kernel_rfl
/-- acme/fit.down -/
def l39 : LFun := ⟨2, 16, [],
 (.seq
 (.reg false [] [] [
 ⟨(some 4), .mv, [(.c (.int .i64 0))], none, []⟩] 0 [0, 1])
 (.seq
 (.reg false [] [] [
 ⟨(some 6), .mv, [(.t 0)], none, []⟩,
 ⟨(some 7), .mv, [(.t 1)], none, []⟩,
 ⟨(some 8), (.bin 0 .quo), [(.t 6), (.t 7)], none, []⟩,
 ⟨(some 5), .mv, [(.t 8)], none, []⟩] 0 [0, 1, 5])
 (.seq
 (.seq
 (.reg false [] [] [
 ⟨(some 9), .mv, [(.t 0)], none, []⟩,
 ⟨(some 10), .mv, [(.t 1)], none, []⟩,
 ⟨(some 11), (.bin 0 .rem), [(.t 9), (.t 10)], none, []⟩,
 ⟨(some 12), (.bin 0 .lss), [(.t 11), (.c (.int .i64 0))], none, []⟩] 0 [5, 12])
 (.cond (.t 12)
 (.reg false [] [] [
 ⟨(some 13), .mv, [(.t 5)], none, []⟩,
 ⟨(some 14), (.bin 0 .sub), [(.t 13), (.c (.int .i64 1))], none, []⟩,
 ⟨(some 5), .mv, [(.t 14)], none, []⟩] 0 [5])
 .skip))
 (.seq
 (.reg false [] [] [
 ⟨(some 15), .mv, [(.t 5)], none, []⟩,
 ⟨(some 4), .mv, [(.t 15)], none, []⟩] 0 [4])
 .ret)))),
 [(.t 4)]⟩
theorem c39 : funC Try.prog [(0, [0, 1]), (1, [0, 1, 5]), (2, [5, 12]), (3, [5]), (4, [4])] Try.f39 = some (unF l39) := by kernel_rfl
/-- acme/fit.checkAll -/
def b40_0 : LCode :=
 (.seq
 (.reg true [] [] [
 ⟨(some 11), (.bin 0 .lss), [(.t 10), (.t 9)], none, []⟩] 0 [2, 8, 9, 10, 11])
 (.seq
 (.cond (.t 11)
 .skip
 (.exit 0))
 (.seq
 (.block 1
 (.seq
 (.reg true [6] [6] [
 ⟨(some 12), (.ixs 3), [(.t 8), (.t 10)], none, []⟩,
 ⟨(some 13), (.load (some 3)), [(.t 12)], none, []⟩,
 ⟨(some 6), (.alloc [(.sl none 2 []), (.int .i64 0), (.int .i64 0)]), [], none, []⟩,
 ⟨none, (.store 3 none), [(.t 6), (.t 13)], none, []⟩] 0 [2, 6, 8, 9, 10])
 (.seq
 (.reg true [] [] [
 ⟨(some 14), (.load (some 3)), [(.t 6)], none, []⟩,
 ⟨(some 15), (.call false false false), [(.f 67), (.t 14)], none, []⟩,
 ⟨(some 7), .mv, [(.t 15)], none, []⟩] 0 [2, 7, 8, 9, 10])
 (.seq
 (.reg true [] [] [
 ⟨(some 16), .mv, [(.t 7)], none, []⟩,
 ⟨(some 17), (.bin 0 .neq), [(.t 16), (.c (.int .i64 0))], none, []⟩] 0 [2, 7, 8, 9, 10, 17])
 (.cond (.t 17)
 (.seq
 (.reg true [] [] [
 ⟨(some 18), .mv, [(.t 7)], none, []⟩,
 ⟨(some 4), .mv, [(.t 18)], none, []⟩] 0 [4])
 .ret)
 .skip)))))
 (.reg true [] [] [
 ⟨(some 19), (.bin 0 .add), [(.t 10), (.c (.int .i64 1))], none, []⟩,
 ⟨(some 10), .mv, [(.t 19)], none, []⟩] 0 [2, 8, 9, 10]))))
def l40 : LFun := ⟨2, 22, [],
 (.seq
 (.reg false [2] [2] [
 ⟨(some 2), .box, [(.t 0)], none, []⟩,
 ⟨(some 4), .mv, [(.c (.int .i64 0))], none, []⟩] 0 [1, 2])
 (.seq
 (.seq
 (.reg false [] [] [
 ⟨(some 8), .mv, [(.t 1)], none, []⟩,
 ⟨(some 9), .len, [(.t 8)], none, []⟩,
 ⟨(some 10), .mv, [(.c (.int .i64 0))], none, []⟩] 0 [2, 8, 9, 10])
 (.block 0
 (.loop b40_0)))
 (.seq
 (.reg false [] [] [
 ⟨(some 20), (.load (some 2)), [(.t 2)], none, []⟩,
 ⟨(some 21), (.call false false false), [(.f 36), (.t 20)], none, []⟩,
 ⟨(some 4), .mv, [(.t 21)], none, []⟩] 0 [4])
 .ret))),
 [(.t 4)]⟩
theorem c40 : funC Try.prog [(0, [1, 2]), (1, [2, 8, 9, 10]), (2, [2, 8, 9, 10, 11]), (3, [2, 6, 8, 9, 10]), (4, [2, 7, 8, 9, 10]), (5, [2, 7, 8, 9, 10, 17]), (6, [4]), (7, [2, 8, 9, 10]), (8, [4])] Try.f40 = some (unF l40) := by kernel_rfl
/-- acme/fit.goes -/
def l41 : LFun := ⟨3, 23, [],
 (.seq
 (.reg false [3, 4, 5] [3, 4, 5] [
 ⟨(some 3), .box, [(.t 0)], none, []⟩,
 ⟨(some 4), .box, [(.t 1)], none, []⟩,
 ⟨(some 5), .box, [(.t 2)], none, []⟩,
 ⟨(some 6), .mv, [(.c (.bool false))], none, []⟩] 0 [3, 4, 5])
 (.seq
 (.reg false [7] [7] [
 ⟨(some 10), (.load (some 2)), [(.t 5)], none, []⟩,
 ⟨(some 11), (.build [(.int .i64 0), (.int .i64 0)] [(0, 2)]), [(.t 10)], none, []⟩,
 ⟨(some 12), (.load (some 3)), [(.t 3)], none, []⟩,
 ⟨(some 13), (.load (some 3)), [(.t 4)], none, []⟩,
 ⟨(some 14), (.build [(.int .i64 0), (.int .i64 0), (.sl none 2 []), (.int .i64 0), (.int .i64 0), (.sl none 2 []), (.int .i64 0), (.int .i64 0)] [(0, 2), (2, 3), (5, 3)]), [(.t 11), (.t 12), (.t 13)], none, []⟩,
 ⟨(some 15), (.fa 0), [(.t 3)], none, []⟩,
 ⟨(some 16), (.load none), [(.t 15)], none, []⟩,
 ⟨(some 17), (.fa 0), [(.t 4)], none, []⟩,
 ⟨(some 18), (.load none), [(.t 17)], none, []⟩,
 ⟨(some 19), (.call false false false), [(.f 47), (.t 14), (.t 16), (.t 18)], none, []⟩,
 ⟨(some 9), .mv, [(.t 19)], none, []⟩,
 ⟨(some 20), (.ext 0), [(.t 9)], none, []⟩,
 ⟨(some 21), (.ext 1), [(.t 9)], none, []⟩,
 ⟨(some 7), (.alloc [(.int .i64 0), (.int .i64 0)]), [], none, []⟩,
 ⟨none, (.store 2 none), [(.t 7), (.t 20)], none, []⟩,
 ⟨(some 8), .mv, [(.t 21)], none, []⟩] 0 [8])
 (.seq
 (.reg false [] [] [
 ⟨(some 22), .mv, [(.t 8)], none, []⟩,
 ⟨(some 6), .mv, [(.t 22)], none, []⟩] 0 [6])
 .ret))),
 [(.t 6)]⟩
theorem c41 : funC Try.prog [(0, [3, 4, 5]), (1, [8]), (2, [6])] Try.f41 = some (unF l41) := by kernel_rfl
/-- acme/fit.open -/
def l44 : LFun := ⟨3, 22, [],
 (.seq
 (.reg false [3, 4, 6] [3, 4, 6] [
 ⟨(some 3), .box, [(.t 0)], none, []⟩,
 ⟨(some 4), .box, [(.t 1)], none, []⟩,
 ⟨(some 6), (.alloc [(.int .i64 0), (.int .i64 0), (.int .i64 0), (.int .i64 0), (.int .i64 0), (.int .i64 0), (.bool false), (.int .i64 0), (.int .i64 0), (.int .i64 0)]), [], none, []⟩,
 ⟨(some 7), .mv, [(.c (.int .i64 0))], none, []⟩] 0 [2, 3, 4, 6])
 (.seq
 (.seq
 (.reg false [] [] [
 ⟨(some 9), (.load (some 8)), [(.t 3)], none, []⟩,
 ⟨(some 10), (.call false false false), [(.f 34), (.t 9)], none, []⟩,
 ⟨(some 8), .mv, [(.t 10)], none, []⟩] 0 [2, 3, 4, 6, 8])
 (.seq
 (.reg false [] [] [
 ⟨(some 11), .mv, [(.t 8)], none, []⟩,
 ⟨(some 12), (.bin 0 .neq), [(.t 11), (.c (.int .i64 0))], none, []⟩] 0 [2, 3, 4, 6, 8, 12])
 (.cond (.t 12)
 (.seq
 (.reg false [] [] [
 ⟨(some 13), (.load (some 10)), [(.t 6)], none, []⟩,
 ⟨(some 14), .mv, [(.t 8)], none, []⟩,
 ⟨none, (.store 10 none), [(.t 6), (.t 13)], none, []⟩,
 ⟨(some 7), .mv, [(.t 14)], none, []⟩] 0 [6, 7])
 .ret)
 .skip)))
 (.seq
 (.reg false [] [] [
 ⟨(some 15), (.load (some 8)), [(.t 3)], none, [16, 17, 19, 20, 21]⟩,
 ⟨(some 16), (.load (some 2)), [(.t 4)], none, [15, 19, 20, 21]⟩,
 ⟨(some 17), (.build [(.int .i64 0), (.int .i64 0)] [(0, 2)]), [(.t 16)], none, [15, 19, 20, 21]⟩,
 ⟨(some 18), (.build [(.int .i64 0), (.int .i64 0), (.int .i64 0), (.int .i64 0), (.int .i64 0), (.int .i64 0), (.bool false), (.int .i64 0), (.int .i64 0), (.int .i64 0)] [(0, 8), (8, 2)]), [(.t 15), (.t 17)], none, [19, 20, 21]⟩,
 ⟨(some 19), (.load (some 2)), [(.t 4)], none, [15, 16, 17, 18, 20]⟩,
 ⟨(some 20), .mv, [(.t 2)], none, [15, 16, 17, 18, 19]⟩,
 ⟨(some 21), (.call true false false), [(.f 40), (.t 19), (.t 20)], none, [15, 16, 17, 18]⟩,
 ⟨none, (.store 10 (some 6)), [(.t 6), (.t 18)], none, []⟩,
 ⟨(some 7), .mv, [(.t 21)], none, []⟩] 0 [6, 7])
 .ret))),
 [(.c 6 (some 10)), (.t 7)]⟩
theorem c44 : funC Try.prog [(0, [2, 3, 4, 6]), (1, [2, 3, 4, 6, 8]), (2, [2, 3, 4, 6, 8, 12]), (3, [6, 7]), (4, [6, 7])] Try.f44 = some (unF l44) := by kernel_rfl
/-- (acme/fit.ideal).leans -/
def l45 : LFun := ⟨1, 10, [],
 (.seq
 (.reg false [1] [1] [
 ⟨(some 1), .box, [(.t 0)], none, []⟩,
 ⟨(some 2), .mv, [(.c (.int .i64 0))], none, []⟩] 0 [1])
 (.seq
 (.reg false [] [] [
 ⟨(some 3), (.fa 0), [(.t 1)], none, []⟩,
 ⟨(some 4), (.fa 1), [(.t 3)], none, []⟩,
 ⟨(some 5), (.load none), [(.t 4)], none, []⟩,
 ⟨(some 6), (.fa 0), [(.t 1)], none, []⟩,
 ⟨(some 7), (.fa 2), [(.t 6)], none, []⟩,
 ⟨(some 8), (.load none), [(.t 7)], none, []⟩,
 ⟨(some 9), (.bin 0 .add), [(.t 5), (.t 8)], none, []⟩,
 ⟨(some 2), .mv, [(.t 9)], none, []⟩] 0 [2])
 .ret)),
 [(.t 2)]⟩
theorem c45 : funC Try.prog [(0, [1]), (1, [2])] Try.f45 = some (unF l45) := by kernel_rfl
/-- (acme/fit.ideal).size -/
def b46_0w : List Nat :=
 [15, 16, 9, 10, 17, 18, 19, 20, 21, 22, 23, 24, 25, 26, 27, 28, 29, 17, 18, 19, 20, 21, 22, 23, 24, 25, 26, 27, 28, 29]
def b46_0a : LCode :=
 (.seq
 (.reg true [] [] [
 ⟨(some 9), .mv, [(.t 15)], none, []⟩] 0 [3, 4, 5, 7, 8, 9, 16])
 (.reg true [] [] [
 ⟨(some 10), .mv, [(.t 16)], none, []⟩] 0 [3, 4, 5, 7, 8, 9, 10]))
def b46_0 : LCode :=
 (.block 1
 (.alt [23, 29] [7, 8]
 (.reg true [22, 23, 28, 29] [22, 23, 28, 29] [
 ⟨(some 17), (.load none), [(.t 7)], none, [18, 19, 20, 21, 22, 24, 25, 26, 27, 28]⟩,
 ⟨(some 18), (.load none), [(.t 5)], none, [17, 20, 24, 25, 26, 27, 28]⟩,
 ⟨(some 19), (.un .neg), [(.t 18)], none, [17, 20, 24, 25, 26, 27, 28]⟩,
 ⟨(some 20), .mv, [(.t 9)], none, [17, 18, 19, 24, 25, 26, 27, 28]⟩,
 ⟨(some 21), (.bin 0 .mul), [(.t 19), (.t 20)], none, [17, 24, 25, 26, 27, 28]⟩,
 ⟨(some 22), (.bsl 1 [(.int .i64 0)] 1 [0]), [(.t 21)], none, [17, 24, 25, 26, 27, 28]⟩,
 ⟨(some 23), (.append true 1 8), [(.t 17), (.t 22)], none, [24, 25, 26, 27, 28]⟩,
 ⟨(some 24), (.load none), [(.t 8)], none, [17, 18, 19, 20, 21, 22, 23, 25, 26, 27, 28]⟩,
 ⟨(some 25), (.load none), [(.t 5)], none, [17, 18, 19, 20, 21, 22, 23, 24, 26]⟩,
 ⟨(some 26), .mv, [(.t 10)], none, [17, 18, 19, 20, 21, 22, 23, 24, 25]⟩,
 ⟨(some 27), (.bin 0 .mul), [(.t 25), (.t 26)], none, [17, 18, 19, 20, 21, 22, 23, 24]⟩,
 ⟨(some 28), (.bsl 1 [(.int .i64 0)] 1 [0]), [(.t 27)], none, [17, 18, 19, 20, 21, 22, 23, 24]⟩,
 ⟨(some 29), (.append true 1 8), [(.t 24), (.t 28)], none, []⟩,
 ⟨none, (.store 1 (some 7)), [(.t 7), (.t 23)], none, []⟩,
 ⟨none, (.store 1 (some 8)), [(.t 8), (.t 29)], none, []⟩] 0 [3, 4, 5, 7, 8])
 (.reg true [22, 23, 28, 29] [22, 28] [
 ⟨(some 17), (.load none), [(.t 7)], none, [18, 19, 20, 21, 22, 24, 25, 26, 27, 28]⟩,
 ⟨(some 18), (.load none), [(.t 5)], none, [17, 20, 24, 25, 26, 27, 28]⟩,
 ⟨(some 19), (.un .neg), [(.t 18)], none, [17, 20, 24, 25, 26, 27, 28]⟩,
 ⟨(some 20), .mv, [(.t 9)], none, [17, 18, 19, 24, 25, 26, 27, 28]⟩,
 ⟨(some 21), (.bin 0 .mul), [(.t 19), (.t 20)], none, [17, 24, 25, 26, 27, 28]⟩,
 ⟨(some 22), (.bsl 1 [(.int .i64 0)] 1 [0]), [(.t 21)], none, [17, 24, 25, 26, 27, 28]⟩,
 ⟨(some 23), (.appo 1 8), [(.t 17), (.t 22)], none, [24, 25, 26, 27, 28]⟩,
 ⟨(some 24), (.load none), [(.t 8)], none, [17, 18, 19, 20, 21, 22, 23, 25, 26, 27, 28]⟩,
 ⟨(some 25), (.load none), [(.t 5)], none, [17, 18, 19, 20, 21, 22, 23, 24, 26]⟩,
 ⟨(some 26), .mv, [(.t 10)], none, [17, 18, 19, 20, 21, 22, 23, 24, 25]⟩,
 ⟨(some 27), (.bin 0 .mul), [(.t 25), (.t 26)], none, [17, 18, 19, 20, 21, 22, 23, 24]⟩,
 ⟨(some 28), (.bsl 1 [(.int .i64 0)] 1 [0]), [(.t 27)], none, [17, 18, 19, 20, 21, 22, 23, 24]⟩,
 ⟨(some 29), (.appo 1 8), [(.t 24), (.t 28)], none, []⟩,
 ⟨none, (.store 1 (some 7)), [(.t 7), (.t 23)], none, []⟩,
 ⟨none, (.store 1 (some 8)), [(.t 8), (.t 29)], none, []⟩] 0 [3, 4, 5, 7, 8])))
def l46 : LFun := ⟨3, 61, [],
 (.seq
 (.reg false [3, 4, 5] [3, 4, 5] [
 ⟨(some 3), .box, [(.t 0)], none, []⟩,
 ⟨(some 4), .box, [(.t 1)], none, []⟩,
 ⟨(some 5), .box, [(.t 2)], none, []⟩,
 ⟨(some 6), .mv, [(.c (.int .i64 0))], none, []⟩] 0 [3, 4, 5])
 (.seq
 (.reg false [7, 8] [7, 8] [
 ⟨(some 7), (.alloc [(.sl (some 2002300) 1 [])]), [], none, []⟩,
 ⟨(some 8), (.alloc [(.sl (some 2002900) 1 [])]), [], none, []⟩] 0 [3, 4, 5, 7, 8])
 (.seq
 (.seq
 (.reg false [14] [14] [
 ⟨(some 12), (.load (some 10)), [(.t 3)], none, []⟩,
 ⟨(some 13), (.load (some 3)), [(.t 4)], none, []⟩,
 ⟨(some 14), (.call false true true), [(.f 68), (.t 12), (.t 13)], none, []⟩] 0 [3, 4, 5, 7, 8, 14])
 (.block 0
 (.rng (.t 14) [15, 16] b46_0w b46_0a b46_0)))
 (.seq
 (.reg false [] [] [
 ⟨(some 30), (.fa 8), [(.t 3)], none, [32, 33, 34, 35, 36, 37, 38, 39, 41, 42, 43, 44, 45, 46, 47, 48, 49, 50]⟩,
 ⟨(some 31), (.load (some 2)), [(.t 30)], none, [32, 33, 34, 35, 36, 37, 38, 39, 41, 42, 43, 44, 45, 46, 47, 48, 49, 50]⟩,
 ⟨(some 32), (.load none), [(.t 5)], none, [30, 31, 33, 34, 35, 36, 37, 38, 41, 42, 43, 44, 45, 46, 47, 48, 49, 50]⟩,
 ⟨(some 33), (.fa 0), [(.t 3)], none, [30, 31, 32, 36, 37, 41, 42, 43, 44, 45, 46, 47, 48, 49, 50]⟩,
 ⟨(some 34), (.fa 1), [(.t 33)], none, [30, 31, 32, 36, 37, 41, 42, 43, 44, 45, 46, 47, 48, 49, 50]⟩,
 ⟨(some 35), (.load none), [(.t 34)], none, [30, 31, 32, 36, 37, 41, 42, 43, 44, 45, 46, 47, 48, 49, 50]⟩,
 ⟨(some 36), (.fa 1), [(.t 4)], none, [30, 31, 32, 33, 34, 35, 41, 42, 43, 44, 45, 46, 47, 48, 49, 50]⟩,
 ⟨(some 37), (.load none), [(.t 36)], none, [30, 31, 32, 33, 34, 35, 41, 42, 43, 44, 45, 46, 47, 48, 49, 50]⟩,
 ⟨(some 38), (.bin 0 .sub), [(.t 35), (.t 37)], none, [30, 31, 32, 41, 42, 43, 44, 45, 46, 47, 48, 49, 50]⟩,
 ⟨(some 39), (.bin 0 .mul), [(.t 32), (.t 38)], none, [30, 31, 41, 42, 43, 44, 45, 46, 47, 48, 49, 50]⟩,
 ⟨(some 40), (.call true false false), [(.f 69), (.t 31), (.t 39)], none, [41, 42, 43, 44, 45, 46, 47, 48, 49, 50]⟩,
 ⟨(some 41), (.fa 8), [(.t 3)], none, [30, 31, 32, 33, 34, 35, 36, 37, 38, 39, 40, 43, 44, 45, 46, 47, 48, 49, 50]⟩,
 ⟨(some 42), (.load (some 2)), [(.t 41)], none, [30, 31, 32, 33, 34, 35, 36, 37, 38, 39, 40, 43, 44, 45, 46, 47, 48, 49, 50]⟩,
 ⟨(some 43), (.load none), [(.t 5)], none, [30, 31, 32, 33, 34, 35, 36, 37, 38, 39, 40, 41, 42, 44, 45, 46, 47, 48, 49]⟩,
 ⟨(some 44), (.fa 0), [(.t 3)], none, [30, 31, 32, 33, 34, 35, 36, 37, 38, 39, 40, 41, 42, 43, 47, 48]⟩,
 ⟨(some 45), (.fa 2), [(.t 44)], none, [30, 31, 32, 33, 34, 35, 36, 37, 38, 39, 40, 41, 42, 43, 47, 48]⟩,
 ⟨(some 46), (.load none), [(.t 45)], none, [30, 31, 32, 33, 34, 35, 36, 37, 38, 39, 40, 41, 42, 43, 47, 48]⟩,
 ⟨(some 47), (.fa 2), [(.t 4)], none, [30, 31, 32, 33, 34, 35, 36, 37, 38, 39, 40, 41, 42, 43, 44, 45, 46]⟩,
 ⟨(some 48), (.load none), [(.t 47)], none, [30, 31, 32, 33, 34, 35, 36, 37, 38, 39, 40, 41, 42, 43, 44, 45, 46]⟩,
 ⟨(some 49), (.bin 0 .sub), [(.t 46), (.t 48)], none, [30, 31, 32, 33, 34, 35, 36, 37, 38, 39, 40, 41, 42, 43]⟩,
 ⟨(some 50), (.bin 0 .mul), [(.t 43), (.t 49)], none, [30, 31, 32, 33, 34, 35, 36, 37, 38, 39, 40, 41, 42]⟩,
 ⟨(some 51), (.call false false false), [(.f 69), (.t 42), (.t 50)], none, []⟩,
 ⟨(some 52), (.bin 0 .add), [(.t 40), (.t 51)], none, []⟩,
 ⟨(some 11), .mv, [(.t 52)], none, []⟩] 0 [7, 8, 11])
 (.seq
 (.reg false [] [] [
 ⟨(some 53), (.load none), [(.t 7)], none, [55, 58, 59]⟩,
 ⟨(some 54), (.call true false false), [(.f 70), (.t 53)], none, [55, 58, 59]⟩,
 ⟨(some 55), (.load none), [(.t 8)], none, [53, 54, 58, 59]⟩,
 ⟨(some 56), (.call true false false), [(.f 70), (.t 55)], none, [58, 59]⟩,
 ⟨(some 57), (.bin 0 .add), [(.t 54), (.t 56)], none, [58, 59]⟩,
 ⟨(some 58), .mv, [(.t 11)], none, [53, 54, 55, 56, 57]⟩,
 ⟨(some 59), (.bin 0 .mul), [(.c (.int .i64 4)), (.t 58)], none, [53, 54, 55, 56, 57]⟩,
 ⟨(some 60), (.bin 0 .add), [(.t 57), (.t 59)], none, []⟩,
 ⟨(some 6), .mv, [(.t 60)], none, []⟩] 0 [6])
 .ret))))),
 [(.t 6)]⟩
theorem c46 : funC Try.prog [(0, [3, 4, 5]), (1, [3, 4, 5, 7, 8]), (2, [3, 4, 5, 7, 8, 14]), (3, [3, 4, 5, 7, 8, 9, 16]), (4, [3, 4, 5, 7, 8, 9, 10]), (5, [3, 4, 5, 7, 8]), (6, [7, 8, 11]), (7, [6])] Try.f46 = some (unF l46) := by kernel_rfl
/-- (acme/fit.mesh).shifts -/
def b47_0 : LCode :=
 (.seq
 (.reg true [] [] [
 ⟨(some 14), (.bin 0 .lss), [(.t 13), (.t 12)], none, []⟩] 0 [2, 3, 6, 11, 12, 13, 14])
 (.seq
 (.cond (.t 14)
 .skip
 (.exit 0))
 (.seq
 (.block 1
 (.seq
 (.reg true [9] [9] [
 ⟨(some 15), .mv, [(.t 13)], none, []⟩,
 ⟨(some 16), (.ixs 2), [(.t 11), (.t 13)], none, []⟩,
 ⟨(some 17), (.load (some 2)), [(.t 16)], none, []⟩,
 ⟨(some 9), (.alloc [(.int .i64 0), (.int .i64 0)]), [], none, []⟩,
 ⟨(some 8), .mv, [(.t 15)], none, []⟩,
 ⟨none, (.store 2 none), [(.t 9), (.t 17)], none, []⟩] 0 [2, 3, 6, 8, 9, 11, 12, 13])
 (.seq
 (.reg true [10] [10] [
 ⟨(some 18), (.fa 0), [(.t 3)], none, [20, 21, 22, 23, 24, 25, 26, 27, 28, 10]⟩,
 ⟨(some 19), (.load (some 2)), [(.t 18)], none, [20, 21, 22, 23, 24, 25, 26, 27, 28, 10]⟩,
 ⟨(some 20), (.load (some 2)), [(.t 9)], none, [18, 19, 21, 22, 23, 24, 25, 26, 27, 28, 10]⟩,
 ⟨(some 21), .mv, [(.t 2)], none, [18, 19, 20, 22, 25, 26, 27, 28, 10]⟩,
 ⟨(some 22), .mv, [(.t 8)], none, [18, 19, 20, 21, 25, 26, 27, 28, 10]⟩,
 ⟨(some 23), (.ixs 2), [(.t 21), (.t 22)], none, [18, 19, 20, 25, 26, 27, 28, 10]⟩,
 ⟨(some 24), (.load (some 2)), [(.t 23)], none, [18, 19, 20, 25, 26, 27, 28, 10]⟩,
 ⟨(some 25), (.fa 2), [(.t 3)], none, [18, 19, 20, 21, 22, 23, 24, 27, 28, 10]⟩,
 ⟨(some 26), (.load (some 3)), [(.t 25)], none, [18, 19, 20, 21, 22, 23, 24, 27, 28, 10]⟩,
 ⟨(some 27), (.fa 5), [(.t 3)], none, [18, 19, 20, 21, 22, 23, 24, 25, 26, 10]⟩,
 ⟨(some 28), (.load (some 3)), [(.t 27)], none, [18, 19, 20, 21, 22, 23, 24, 25, 26, 10]⟩,
 ⟨(some 29), (.call false false false), [(.f 71), (.t 19), (.t 20), (.t 24), (.t 26), (.t 28)], none, [10]⟩,
 ⟨(some 10), (.alloc [(.int .i64 0), (.int .i64 0)]), [], none, [18, 19, 20, 21, 22, 23, 24, 25, 26, 27, 28, 29]⟩,
 ⟨none, (.store 2 (some 10)), [(.t 10), (.t 29)], none, []⟩] 0 [2, 3, 6, 8, 10, 11, 12, 13])
 (.seq
 (.seq
 (.reg true [] [] [
 ⟨(some 30), .mv, [(.t 8)], none, []⟩,
 ⟨(some 31), (.bin 0 .eql), [(.t 30), (.c (.int .i64 0))], none, []⟩] 0 [2, 3, 6, 10, 11, 12, 13, 31])
 (.cond (.t 31)
 (.reg true [] [] [
 ⟨(some 32), (.load (some 2)), [(.t 10)], none, []⟩,
 ⟨none, (.store 2 none), [(.t 6), (.t 32)], none, []⟩] 0 [2, 3, 6, 10, 11, 12, 13])
 .skip))
 (.reg true [] [] [
 ⟨(some 33), (.fa 0), [(.t 6)], none, []⟩,
 ⟨(some 34), (.load none), [(.t 33)], none, []⟩,
 ⟨(some 35), (.fa 0), [(.t 10)], none, []⟩,
 ⟨(some 36), (.load none), [(.t 35)], none, []⟩,
 ⟨(some 37), .max, [(.t 34), (.t 36)], none, []⟩,
 ⟨(some 38), (.fa 1), [(.t 6)], none, []⟩,
 ⟨(some 39), (.load none), [(.t 38)], none, []⟩,
 ⟨(some 40), (.fa 1), [(.t 10)], none, []⟩,
 ⟨(some 41), (.load none), [(.t 40)], none, []⟩,
 ⟨(some 42), .min, [(.t 39), (.t 41)], none, []⟩,
 ⟨(some 43), (.build [(.int .i64 0), (.int .i64 0)] [(0, 1), (1, 1)]), [(.t 37), (.t 42)], none, []⟩,
 ⟨none, (.store 2 none), [(.t 6), (.t 43)], none, []⟩] 0 [2, 3, 6, 11, 12, 13])))))
 (.reg true [] [] [
 ⟨(some 44), (.bin 0 .add), [(.t 13), (.c (.int .i64 1))], none, []⟩,
 ⟨(some 13), .mv, [(.t 44)], none, []⟩] 0 [2, 3, 6, 11, 12, 13]))))
def l47 : LFun := ⟨3, 51, [],
 (.seq
 (.reg false [3, 6] [3, 6] [
 ⟨(some 3), .box, [(.t 0)], none, []⟩,
 ⟨(some 6), (.alloc [(.int .i64 0), (.int .i64 0)]), [], none, []⟩,
 ⟨(some 7), .mv, [(.c (.bool false))], none, []⟩] 0 [1, 2, 3, 6])
 (.seq
 (.seq
 (.reg false [] [] [
 ⟨(some 11), .mv, [(.t 1)], none, []⟩,
 ⟨(some 12), .len, [(.t 11)], none, []⟩,
 ⟨(some 13), .mv, [(.c (.int .i64 0))], none, []⟩] 0 [2, 3, 6, 11, 12, 13])
 (.block 0
 (.loop b47_0)))
 (.seq
 (.reg false [] [] [
 ⟨(some 45), (.load (some 2)), [(.t 6)], none, []⟩,
 ⟨(some 46), (.fa 0), [(.t 6)], none, []⟩,
 ⟨(some 47), (.load none), [(.t 46)], none, []⟩,
 ⟨(some 48), (.fa 1), [(.t 6)], none, []⟩,
 ⟨(some 49), (.load none), [(.t 48)], none, []⟩,
 ⟨(some 50), (.bin 0 .leq), [(.t 47), (.t 49)], none, []⟩,
 ⟨none, (.store 2 none), [(.t 6), (.t 45)], none, []⟩,
 ⟨(some 7), .mv, [(.t 50)], none, []⟩] 0 [6, 7])
 .ret))),
 [(.c 6 (some 2)), (.t 7)]⟩
theorem c47 : funC Try.prog [(0, [1, 2, 3, 6]), (1, [2, 3, 6, 11, 12, 13]), (2, [2, 3, 6, 11, 12, 13, 14]), (3, [2, 3, 6, 8, 9, 11, 12, 13]), (4, [2, 3, 6, 8, 10, 11, 12, 13]), (5, [2, 3, 6, 10, 11, 12, 13, 31]), (6, [2, 3, 6, 10, 11, 12, 13]), (7, [2, 3, 6, 11, 12, 13]), (8, [2, 3, 6, 11, 12, 13]), (9, [6, 7])] Try.f47 = some (unF l47) := by kernel_rfl
/-- acme/zone.Check -/
def b48_0 : LCode :=
 (.seq
 (.reg true [] [] [
 ⟨(some 29), (.bin 0 .lss), [(.t 28), (.c (.int .i64 2))], none, []⟩] 0 [1, 27, 28, 29])
 (.seq
 (.cond (.t 29)
 .skip
 (.exit 0))
 (.seq
 (.block 1
 (.seq
 (.reg true [] [] [
 ⟨(some 30), (.idx 2 1 none), [(.t 27), (.t 28)], none, []⟩,
 ⟨(some 4), .mv, [(.t 30)], none, []⟩] 0 [1, 4, 27, 28])
 (.seq
 (.reg true [] [] [
 ⟨(some 31), .mv, [(.t 4)], none, []⟩,
 ⟨(some 32), (.mkf 75), [(.t 1)], none, []⟩,
 ⟨(some 33), (.call false false false), [(.f 74), (.t 31), (.t 32)], none, []⟩] 0 [1, 27, 28, 33])
 (.cond (.t 33)
 (.seq
 (.reg true [] [] [
 ⟨(some 2), .mv, [(.c (.int .i64 4))], none, []⟩] 0 [1, 2])
 .ret)
 .skip))))
 (.reg true [] [] [
 ⟨(some 34), (.bin 0 .add), [(.t 28), (.c (.int .i64 1))], none, []⟩,
 ⟨(some 28), .mv, [(.t 34)], none, []⟩] 0 [1, 27, 28]))))
def b48_1 : LCode :=
 (.seq
 (.reg true [] [] [
 ⟨(some 39), (.bin 0 .lss), [(.t 38), (.t 37)], none, []⟩] 0 [1, 5, 36, 37, 38, 39])
 (.seq
 (.cond (.t 39)
 .skip
 (.exit 2))
 (.seq
 (.block 3
 (.seq
 (.reg true [] [] [
 ⟨(some 40), (.ixs 1), [(.t 36), (.t 38)], none, []⟩,
 ⟨(some 41), (.load none), [(.t 40)], none, []⟩,
 ⟨(some 7), .mv, [(.t 41)], none, []⟩] 0 [1, 5, 7, 36, 37, 38])
 (.seq
 (.seq
 (.reg true [44] [44] [
 ⟨(some 42), .mv, [(.t 5)], none, []⟩,
 ⟨(some 43), .mv, [(.t 7)], none, []⟩,
 ⟨(some 44), (.bsl 1 [(.int .i64 0)] 1 [0]), [(.t 43)], none, []⟩,
 ⟨(some 45), (.call false false false), [(.f 53), (.t 42), (.c (.int .i64 10000000)), (.t 44)], none, []⟩,
 ⟨(some 46), (.un .not), [(.t 45)], none, []⟩] 0 [1, 7, 36, 37, 38, 46])
 (.cond (.t 46)
 (.seq
 (.reg true [] [] [
 ⟨(some 2), .mv, [(.c (.int .i64 2))], none, []⟩] 0 [1, 2])
 .ret)
 .skip))
 (.reg true [] [] [
 ⟨(some 47), .mv, [(.t 7)], none, []⟩,
 ⟨(some 48), (.bin 0 .add), [(.t 47), (.c (.int .i64 1))], none, []⟩,
 ⟨(some 5), .mv, [(.t 48)], none, []⟩] 0 [1, 5, 36, 37, 38]))))
 (.reg true [] [] [
 ⟨(some 49), (.bin 0 .add), [(.t 38), (.c (.int .i64 1))], none, []⟩,
 ⟨(some 38), .mv, [(.t 49)], none, []⟩] 0 [1, 5, 36, 37, 38]))))
def l48 : LFun := ⟨1, 74, [],
 (.seq
 (.reg false [1] [1] [
 ⟨(some 1), .box, [(.t 0)], none, []⟩,
 ⟨(some 2), .mv, [(.c (.int .i64 0))], none, []⟩] 0 [1])
 (.seq
 (.seq
 (.reg false [] [] [
 ⟨(some 10), (.fa 0), [(.t 1)], none, []⟩,
 ⟨(some 11), (.load none), [(.t 10)], none, []⟩,
 ⟨(some 12), (.call false false false), [(.f 72), (.t 11), (.c (.int .i64 20))], none, []⟩,
 ⟨(some 13), .mv, [(.t 12)], none, []⟩,
 ⟨(some 14), (.fa 1), [(.t 1)], (some (13, false)), []⟩,
 ⟨(some 15), (.load none), [(.t 14)], (some (13, false)), []⟩,
 ⟨(some 16), (.call false false false), [(.f 73), (.t 15), (.c (.int .i64 12))], (some (13, false)), []⟩,
 ⟨(some 17), .pick, [(.t 13), (.c (.bool true)), (.t 16)], none, []⟩,
 ⟨(some 18), .mv, [(.t 17)], none, []⟩,
 ⟨(some 19), (.fa 2), [(.t 1)], (some (18, false)), []⟩,
 ⟨(some 20), (.load none), [(.t 19)], (some (18, false)), []⟩,
 ⟨(some 21), (.call false false false), [(.f 73), (.t 20), (.c (.int .i64 12))], (some (18, false)), []⟩,
 ⟨(some 22), .pick, [(.t 18), (.c (.bool true)), (.t 21)], none, []⟩] 0 [1, 22])
 (.cond (.t 22)
 (.seq
 (.reg false [] [] [
 ⟨(some 2), .mv, [(.c (.int .i64 5))], none, []⟩] 0 [1, 2])
 .ret)
 .skip))
 (.seq
 (.seq
 (.reg false [] [] [
 ⟨(some 23), (.fa 1), [(.t 1)], none, []⟩,
 ⟨(some 24), (.load none), [(.t 23)], none, []⟩,
 ⟨(some 25), (.fa 2), [(.t 1)], none, []⟩,
 ⟨(some 26), (.load none), [(.t 25)], none, []⟩,
 ⟨(some 27), (.build [(.sl none 1 []), (.sl none 1 [])] [(0, 1), (1, 1)]), [(.t 24), (.t 26)], none, []⟩,
 ⟨(some 28), .mv, [(.c (.int .i64 0))], none, []⟩] 0 [1, 27, 28])
 (.block 0
 (.loop b48_0)))
 (.seq
 (.reg false [] [] [
 ⟨(some 5), .mv, [(.c (.int .i64 1))], none, []⟩] 0 [1, 5])
 (.seq
 (.seq
 (.reg false [] [] [
 ⟨(some 35), (.fa 0), [(.t 1)], none, []⟩,
 ⟨(some 36), (.load none), [(.t 35)], none, []⟩,
 ⟨(some 37), .len, [(.t 36)], none, []⟩,
 ⟨(some 38), .mv, [(.c (.int .i64 0))], none, []⟩] 0 [1, 5, 36, 37, 38])
 (.block 2
 (.loop b48_1)))
 (.seq
 (.reg false [52, 55] [52, 55] [
 ⟨(some 50), (.fa 1), [(.t 1)], none, [53, 54]⟩,
 ⟨(some 51), (.load none), [(.t 50)], none, [53, 54]⟩,
 ⟨(some 52), (.call true false true), [(.f 76), (.t 51)], none, [53, 54]⟩,
 ⟨(some 53), (.fa 2), [(.t 1)], none, [50, 51, 52]⟩,
 ⟨(some 54), (.load none), [(.t 53)], none, [50, 51, 52]⟩,
 ⟨(some 55), (.call false false true), [(.f 76), (.t 54)], none, []⟩,
 ⟨(some 8), .mv, [(.t 52)], none, []⟩,
 ⟨(some 9), .mv, [(.t 55)], none, []⟩] 0 [1, 8, 9])
 (.seq
 (.seq
 (.reg false [] [] [
 ⟨(some 56), .mv, [(.t 8)], none, []⟩,
 ⟨(some 57), .len, [(.t 56)], none, []⟩,
 ⟨(some 58), (.bin 0 .eql), [(.t 57), (.c (.int .i64 0))], none, []⟩,
 ⟨(some 59), .mv, [(.t 58)], none, []⟩,
 ⟨(some 60), .mv, [(.t 9)], (some (59, false)), []⟩,
 ⟨(some 61), .len, [(.t 60)], (some (59, false)), []⟩,
 ⟨(some 62), (.bin 0 .eql), [(.t 61), (.c (.int .i64 0))], (some (59, false)), []⟩,
 ⟨(some 63), .pick, [(.t 59), (.c (.bool true)), (.t 62)], none, []⟩,
 ⟨(some 64), .mv, [(.t 63)], none, []⟩,
 ⟨(some 65), .mv, [(.t 8)], (some (64, false)), []⟩,
 ⟨(some 66), (.call false false false), [(.f 53), (.c (.int .i64 0)), (.c (.int .i64 100000)), (.t 65)], (some (64, false)), []⟩,
 ⟨(some 67), (.un .not), [(.t 66)], (some (64, false)), []⟩,
 ⟨(some 68), .pick, [(.t 64), (.c (.bool true)), (.t 67)], none, []⟩,
 ⟨(some 69), .mv, [(.t 68)], none, []⟩,
 ⟨(some 70), .mv, [(.t 9)], (some (69, false)), []⟩,
 ⟨(some 71), (.call false false false), [(.f 53), (.c (.int .i64 (-100000))), (.c (.int .i64 100000)), (.t 70)], (some (69, false)), []⟩,
 ⟨(some 72), (.un .not), [(.t 71)], (some (69, false)), []⟩,
 ⟨(some 73), .pick, [(.t 69), (.c (.bool true)), (.t 72)], none, []⟩] 0 [1, 73])
 (.cond (.t 73)
 (.seq
 (.reg false [] [] [
 ⟨(some 2), .mv, [(.c (.int .i64 2))], none, []⟩] 0 [1, 2])
 .ret)
 .skip))
 (.seq
 (.reg false [] [] [
 ⟨(some 2), .mv, [(.c (.int .i64 0))], none, []⟩] 0 [1, 2])
 .ret)))))))),
 [(.t 2)]⟩
theorem c48 : funC Try.prog [(0, [1]), (1, [1, 22]), (2, [1, 2]), (3, [1, 27, 28]), (4, [1, 27, 28, 29]), (5, [1, 4, 27, 28]), (6, [1, 27, 28, 33]), (7, [1, 2]), (8, [1, 27, 28]), (9, [1, 5]), (10, [1, 5, 36, 37, 38]), (11, [1, 5, 36, 37, 38, 39]), (12, [1, 5, 7, 36, 37, 38]), (13, [1, 7, 36, 37, 38, 46]), (14, [1, 2]), (15, [1, 5, 36, 37, 38]), (16, [1, 5, 36, 37, 38]), (17, [1, 8, 9]), (18, [1, 73]), (19, [1, 2]), (20, [1, 2])] Try.f48 = some (unF l48) := by kernel_rfl
/-- (acme/zone.table).isClass -/
def l49 : LFun := ⟨2, 25, [],
 (.seq
 (.reg false [2, 3] [2, 3] [
 ⟨(some 2), .box, [(.t 0)], none, []⟩,
 ⟨(some 3), .box, [(.t 1)], none, []⟩,
 ⟨(some 4), .mv, [(.c (.bool false))], none, []⟩] 0 [2, 3])
 (.seq
 (.reg false [12, 22] [12, 22] [
 ⟨(some 5), (.fa 0), [(.t 2)], none, []⟩,
 ⟨(some 6), (.fa 2), [(.t 5)], none, []⟩,
 ⟨(some 7), (.load none), [(.t 6)], none, []⟩,
 ⟨(some 8), .len, [(.t 7)], none, []⟩,
 ⟨(some 9), (.bin 0 .sub), [(.t 8), (.c (.int .i64 1))], none, []⟩,
 ⟨(some 10), (.fa 0), [(.t 3)], none, []⟩,
 ⟨(some 11), (.load none), [(.t 10)], none, []⟩,
 ⟨(some 12), (.bsl 1 [(.int .i64 0)] 1 [0]), [(.t 11)], none, []⟩,
 ⟨(some 13), (.call false false false), [(.f 53), (.c (.int .i64 0)), (.t 9), (.t 12)], none, []⟩,
 ⟨(some 14), .mv, [(.t 13)], none, []⟩,
 ⟨(some 15), (.fa 0), [(.t 2)], (some (14, true)), []⟩,
 ⟨(some 16), (.fa 1), [(.t 15)], (some (14, true)), []⟩,
 ⟨(some 17), (.load none), [(.t 16)], (some (14, true)), []⟩,
 ⟨(some 18), .len, [(.t 17)], (some (14, true)), []⟩,
 ⟨(some 19), (.bin 0 .sub), [(.t 18), (.c (.int .i64 1))], (some (14, true)), []⟩,
 ⟨(some 20), (.fa 1), [(.t 3)], (some (14, true)), []⟩,
 ⟨(some 21), (.load none), [(.t 20)], (some (14, true)), []⟩,
 ⟨(some 22), (.bsl 1 [(.int .i64 0)] 1 [0]), [(.t 21)], (some (14, true)), []⟩,
 ⟨(some 23), (.call false false false), [(.f 53), (.c (.int .i64 0)), (.t 19), (.t 22)], (some (14, true)), []⟩,
 ⟨(some 24), .pick, [(.t 14), (.t 23), (.c (.bool false))], none, []⟩,
 ⟨(some 4), .mv, [(.t 24)], none, []⟩] 0 [4])
 .ret)),
 [(.t 4)]⟩
theorem c49 : funC Try.prog [(0, [2, 3]), (1, [4])] Try.f49 = some (unF l49) := by kernel_rfl
/-- (acme/zone.table).step -/
def l50 : LFun := ⟨2, 19, [],
 (.seq
 (.reg false [2, 3] [2, 3] [
 ⟨(some 2), .box, [(.t 0)], none, []⟩,
 ⟨(some 3), .box, [(.t 1)], none, []⟩,
 ⟨(some 4), .mv, [(.c (.int .i64 0))], none, []⟩,
 ⟨(some 5), .mv, [(.c (.int .i64 0))], none, []⟩] 0 [2, 3])
 (.seq
 (.reg false [] [] [
 ⟨(some 7), (.fa 0), [(.t 2)], none, []⟩,
 ⟨(some 8), (.fa 0), [(.t 7)], none, []⟩,
 ⟨(some 9), (.load none), [(.t 8)], none, []⟩,
 ⟨(some 10), (.mkf 78), [(.t 3)], none, []⟩,
 ⟨(some 11), (.call false false false), [(.f 77), (.t 9), (.t 10)], none, []⟩,
 ⟨(some 6), .mv, [(.t 11)], none, []⟩] 0 [3, 6])
 (.seq
 (.seq
 (.reg false [] [] [
 ⟨(some 12), (.load none), [(.t 3)], none, []⟩,
 ⟨(some 13), (.bin 0 .lss), [(.t 12), (.c (.int .i64 1))], none, []⟩,
 ⟨(some 14), .mv, [(.t 13)], none, []⟩,
 ⟨(some 15), .mv, [(.t 6)], (some (14, false)), []⟩,
 ⟨(some 16), (.bin 0 .lss), [(.t 15), (.c (.int .i64 0))], (some (14, false)), []⟩,
 ⟨(some 17), .pick, [(.t 14), (.c (.bool true)), (.t 16)], none, []⟩] 0 [3, 6, 17])
 (.cond (.t 17)
 (.seq
 (.reg false [] [] [
 ⟨(some 4), .mv, [(.c (.int .i64 0))], none, []⟩,
 ⟨(some 5), .mv, [(.c (.int .i64 3))], none, []⟩] 0 [3, 4, 5])
 .ret)
 .skip))
 (.seq
 (.reg false [] [] [
 ⟨(some 18), .mv, [(.t 6)], none, []⟩,
 ⟨(some 4), .mv, [(.t 18)], none, []⟩,
 ⟨(some 5), .mv, [(.c (.int .i64 0))], none, []⟩] 0 [3, 4, 5])
 .ret)))),
 [(.t 4), (.t 5)]⟩
theorem c50 : funC Try.prog [(0, [2, 3]), (1, [3, 6]), (2, [3, 6, 17]), (3, [3, 4, 5]), (4, [3, 4, 5])] Try.f50 = some (unF l50) := by kernel_rfl
/-- acme/zone.play -/
def l51 : LFun := ⟨2, 21, [],
 (.seq
 (.reg false [2, 3, 4] [2, 3, 4] [
 ⟨(some 2), .box, [(.t 0)], none, []⟩,
 ⟨(some 3), .box, [(.t 1)], none, []⟩,
 ⟨(some 4), (.alloc [(.int .i64 0), (.int .i64 0)]), [], none, []⟩] 0 [2, 3, 4])
 (.seq
 (.reg false [] [] [
 ⟨(some 5), (.fa 0), [(.t 3)], none, []⟩,
 ⟨(some 6), (.fa 0), [(.t 5)], none, []⟩,
 ⟨(some 7), (.load none), [(.t 6)], none, []⟩,
 ⟨(some 8), (.fa 0), [(.t 2)], none, []⟩,
 ⟨(some 9), (.fa 1), [(.t 8)], none, []⟩,
 ⟨(some 10), (.load none), [(.t 9)], none, []⟩,
 ⟨(some 11), (.bin 0 .sub), [(.t 7), (.t 10)], none, []⟩,
 ⟨(some 12), (.fa 0), [(.t 3)], none, []⟩,
 ⟨(some 13), (.fa 1), [(.t 12)], none, []⟩,
 ⟨(some 14), (.load none), [(.t 13)], none, []⟩,
 ⟨(some 15), (.fa 0), [(.t 2)], none, []⟩,
 ⟨(some 16), (.fa 0), [(.t 15)], none, []⟩,
 ⟨(some 17), (.load none), [(.t 16)], none, []⟩,
 ⟨(some 18), (.bin 0 .sub), [(.t 14), (.t 17)], none, []⟩,
 ⟨(some 19), (.build [(.int .i64 0), (.int .i64 0)] [(0, 1), (1, 1)]), [(.t 11), (.t 18)], none, []⟩,
 ⟨(some 20), (.build [(.int .i64 0), (.int .i64 0)] [(0, 2)]), [(.t 19)], none, []⟩,
 ⟨none, (.store 2 none), [(.t 4), (.t 20)], none, []⟩] 0 [4])
 .ret)),
 [(.c 4 (some 2))]⟩
theorem c51 : funC Try.prog [(0, [2, 3, 4]), (1, [4])] Try.f51 = some (unF l51) := by kernel_rfl
/-- (acme/zone.span).isValid -/
def l52 : LFun := ⟨3, 26, [],
 (.seq
 (.reg false [3] [3] [
 ⟨(some 3), .box, [(.t 0)], none, []⟩,
 ⟨(some 6), .mv, [(.c (.bool false))], none, []⟩] 0 [1, 2, 3])
 (.seq
 (.reg false [15] [15] [
 ⟨(some 7), .mv, [(.t 1)], none, []⟩,
 ⟨(some 8), .mv, [(.t 2)], none, []⟩,
 ⟨(some 9), (.fa 0), [(.t 3)], none, []⟩,
 ⟨(some 10), (.fa 0), [(.t 9)], none, []⟩,
 ⟨(some 11), (.load none), [(.t 10)], none, []⟩,
 ⟨(some 12), (.fa 0), [(.t 3)], none, []⟩,
 ⟨(some 13), (.fa 1), [(.t 12)], none, []⟩,
 ⟨(some 14), (.load none), [(.t 13)], none, []⟩,
 ⟨(some 15), (.bsl 1 [(.int .i64 0)] 2 [0, 1]), [(.t 11), (.t 14)], none, []⟩,
 ⟨(some 16), (.call false false false), [(.f 53), (.t 7), (.t 8), (.t 15)], none, []⟩,
 ⟨(some 17), .mv, [(.t 16)], none, []⟩,
 ⟨(some 18), (.fa 0), [(.t 3)], (some (17, true)), []⟩,
 ⟨(some 19), (.fa 0), [(.t 18)], (some (17, true)), []⟩,
 ⟨(some 20), (.load none), [(.t 19)], (some (17, true)), []⟩,
 ⟨(some 21), (.fa 0), [(.t 3)], (some (17, true)), []⟩,
 ⟨(some 22), (.fa 1), [(.t 21)], (some (17, true)), []⟩,
 ⟨(some 23), (.load none), [(.t 22)], (some (17, true)), []⟩,
 ⟨(some 24), (.bin 0 .leq), [(.t 20), (.t 23)], (some (17, true)), []⟩,
 ⟨(some 25), .pick, [(.t 17), (.t 24), (.c (.bool false))], none, []⟩,
 ⟨(some 6), .mv, [(.t 25)], none, []⟩] 0 [6])
 .ret)),
 [(.t 6)]⟩
theorem c52 : funC Try.prog [(0, [1, 2, 3]), (1, [6])] Try.f52 = some (unF l52) := by kernel_rfl
/-- acme/zone.within -/
def l53 : LFun := ⟨3, 11, [],
 (.seq
 (.reg false [3, 4] [3, 4] [
 ⟨(some 3), .box, [(.t 0)], none, []⟩,
 ⟨(some 4), .box, [(.t 1)], none, []⟩,
 ⟨(some 6), .mv, [(.c (.bool false))], none, []⟩] 0 [2, 3, 4])
 (.seq
 (.reg false [] [] [
 ⟨(some 7), .mv, [(.t 2)], none, []⟩,
 ⟨(some 8), (.mkf 79), [(.t 3), (.t 4)], none, []⟩,
 ⟨(some 9), (.call false false false), [(.f 64), (.t 7), (.t 8)], none, []⟩,
 ⟨(some 10), (.un .not), [(.t 9)], none, []⟩,
 ⟨(some 6), .mv, [(.t 10)], none, []⟩] 0 [3, 4, 6])
 .ret)),
 [(.t 6)]⟩
theorem c53 : funC Try.prog [(0, [2, 3, 4]), (1, [3, 4, 6])] Try.f53 = some (unF l53) := by kernel_rfl
/-- acme/zone.sorted -/
def b54_0 : LCode :=
 (.seq
 (.reg true [] [] [
 ⟨(some 14), (.bin 0 .lss), [(.t 13), (.t 12)], none, []⟩] 0 [2, 4, 5, 7, 12, 13, 14])
 (.seq
 (.cond (.t 14)
 .skip
 (.exit 0))
 (.seq
 (.block 1
 (.seq
 (.reg true [] [] [
 ⟨(some 15), .mv, [(.t 13)], none, []⟩,
 ⟨(some 9), .mv, [(.t 15)], none, []⟩] 0 [2, 4, 5, 7, 9, 12, 13])
 (.seq
 (.reg true [10, 11] [10, 11] [
 ⟨(some 16), (.load (some 2)), [(.t 4)], none, [17, 18, 20, 21, 22, 10, 11]⟩,
 ⟨(some 17), .mv, [(.t 9)], none, [16, 18, 20, 21, 22, 10, 11]⟩,
 ⟨(some 18), .mv, [(.t 2)], none, [16, 17, 20, 21, 22, 10, 11]⟩,
 ⟨(some 19), (.call true false false), [(.f 80), (.t 16), (.t 17), (.t 18)], none, [20, 21, 22, 10, 11]⟩,
 ⟨(some 20), (.load (some 2)), [(.t 5)], none, [16, 17, 18, 19, 21, 22, 10, 11]⟩,
 ⟨(some 21), .mv, [(.t 9)], none, [16, 17, 18, 19, 20, 22, 10, 11]⟩,
 ⟨(some 22), .mv, [(.t 2)], none, [16, 17, 18, 19, 20, 21, 10, 11]⟩,
 ⟨(some 23), (.call false false false), [(.f 80), (.t 20), (.t 21), (.t 22)], none, [10, 11]⟩,
 ⟨(some 10), (.alloc [(.int .i64 0), (.int .i64 0)]), [], none, [16, 17, 18, 19, 20, 21, 22, 23, 11]⟩,
 ⟨(some 11), (.alloc [(.int .i64 0), (.int .i64 0)]), [], none, [16, 17, 18, 19, 20, 21, 22, 23, 10]⟩,
 ⟨none, (.store 2 (some 10)), [(.t 10), (.t 19)], none, []⟩,
 ⟨none, (.store 2 (some 11)), [(.t 11), (.t 23)], none, []⟩] 0 [2, 4, 5, 7, 10, 11, 12, 13])
 (.seq
 (.reg true [] [] [
 ⟨(some 24), (.fa 0), [(.t 10)], none, [27, 28, 29]⟩,
 ⟨(some 25), (.fa 0), [(.t 24)], none, [27, 28, 29]⟩,
 ⟨(some 26), (.load none), [(.t 25)], none, [27, 28, 29]⟩,
 ⟨(some 27), (.fa 0), [(.t 10)], none, [24, 25, 26]⟩,
 ⟨(some 28), (.fa 1), [(.t 27)], none, [24, 25, 26]⟩,
 ⟨(some 29), (.load none), [(.t 28)], none, [24, 25, 26]⟩,
 ⟨(some 30), (.bin 0 .gtr), [(.t 26), (.t 29)], none, []⟩,
 ⟨(some 31), .mv, [(.t 30)], none, []⟩,
 ⟨(some 32), (.fa 0), [(.t 11)], (some (31, false)), [35, 36, 37]⟩,
 ⟨(some 33), (.fa 0), [(.t 32)], (some (31, false)), [35, 36, 37]⟩,
 ⟨(some 34), (.load none), [(.t 33)], (some (31, false)), [35, 36, 37]⟩,
 ⟨(some 35), (.fa 0), [(.t 11)], (some (31, false)), [32, 33, 34]⟩,
 ⟨(some 36), (.fa 1), [(.t 35)], (some (31, false)), [32, 33, 34]⟩,
 ⟨(some 37), (.load none), [(.t 36)], (some (31, false)), [32, 33, 34]⟩,
 ⟨(some 38), (.bin 0 .gtr), [(.t 34), (.t 37)], (some (31, false)), []⟩,
 ⟨(some 39), .pick, [(.t 31), (.c (.bool true)), (.t 38)], none, []⟩,
 ⟨(some 40), .mv, [(.t 39)], none, []⟩,
 ⟨(some 41), (.load (some 2)), [(.t 10)], (some (40, false)), [42, 44]⟩,
 ⟨(some 42), (.load (some 2)), [(.t 11)], (some (40, false)), [41, 44]⟩,
 ⟨(some 43), (.call true false false), [(.f 51), (.t 41), (.t 42)], (some (40, false)), [44]⟩,
 ⟨(some 44), (.load (some 2)), [(.t 7)], (some (40, false)), [41, 42, 43]⟩,
 ⟨(some 45), (.call false false false), [(.f 81), (.t 43), (.t 44)], (some (40, false)), []⟩,
 ⟨(some 46), (.un .not), [(.t 45)], (some (40, false)), []⟩,
 ⟨(some 47), .pick, [(.t 40), (.c (.bool true)), (.t 46)], none, []⟩] 0 [2, 4, 5, 7, 12, 13, 47])
 (.cond (.t 47)
 (.seq
 (.reg true [] [] [
 ⟨(some 8), .mv, [(.c (.bool false))], none, []⟩] 0 [8])
 .ret)
 .skip)))))
 (.reg true [] [] [
 ⟨(some 48), (.bin 0 .add), [(.t 13), (.c (.int .i64 1))], none, []⟩,
 ⟨(some 13), .mv, [(.t 48)], none, []⟩] 0 [2, 4, 5, 7, 12, 13]))))
def l54 : LFun := ⟨4, 49, [],
 (.seq
 (.reg false [4, 5, 7] [4, 5, 7] [
 ⟨(some 4), .box, [(.t 0)], none, []⟩,
 ⟨(some 5), .box, [(.t 1)], none, []⟩,
 ⟨(some 7), .box, [(.t 3)], none, []⟩,
 ⟨(some 8), .mv, [(.c (.bool false))], none, []⟩] 0 [2, 4, 5, 7])
 (.seq
 (.seq
 (.reg false [] [] [
 ⟨(some 12), .mv, [(.t 2)], none, []⟩,
 ⟨(some 13), .mv, [(.c (.int .i64 0))], none, []⟩] 0 [2, 4, 5, 7, 12, 13])
 (.block 0
 (.loop b54_0)))
 (.seq
 (.reg false [] [] [
 ⟨(some 8), .mv, [(.c (.bool true))], none, []⟩] 0 [8])
 .ret))),
 [(.t 8)]⟩
theorem c54 : funC Try.prog [(0, [2, 4, 5, 7]), (1, [2, 4, 5, 7, 12, 13]), (2, [2, 4, 5, 7, 12, 13, 14]), (3, [2, 4, 5, 7, 9, 12, 13]), (4, [2, 4, 5, 7, 10, 11, 12, 13]), (5, [2, 4, 5, 7, 12, 13, 47]), (6, [8]), (7, [2, 4, 5, 7, 12, 13]), (8, [8])] Try.f54 = some (unF l54) := by kernel_rfl
/-- acme/die.open -/
def b55_0 : LCode :=
 (.seq
 (.reg true [] [] [
 ⟨(some 36), (.bin 0 .lss), [(.t 35), (.t 34)], none, []⟩] 0 [7, 20, 33, 34, 35, 36])
 (.seq
 (.cond (.t 36)
 .skip
 (.exit 0))
 (.seq
 (.block 1
 (.seq
 (.reg true [9] [9] [
 ⟨(some 37), (.ixs 4), [(.t 33), (.t 35)], none, []⟩,
 ⟨(some 38), (.load (some 4)), [(.t 37)], none, []⟩,
 ⟨(some 9), (.alloc [(.int .i64 0), (.int .i64 0), (.int .i64 0), (.int .i64 0)]), [], none, []⟩,
 ⟨none, (.store 4 none), [(.t 9), (.t 38)], none, []⟩] 0 [7, 9, 20, 33, 34, 35])
 (.alt [50] [7]
 (.reg true [49, 50] [49, 50] [
 ⟨(some 39), .mv, [(.t 7)], none, [40, 41, 42, 43, 44, 45, 46, 47, 48, 49, 50]⟩,
 ⟨(some 40), .mv, [(.t 7)], none, [39, 44, 45, 46, 47, 48, 49]⟩,
 ⟨(some 41), .nilc, [(.t 40)], none, [39, 44, 45, 46, 47, 48, 49]⟩,
 ⟨(some 42), (.fa 7), [(.t 41)], none, [39, 44, 45, 46, 47, 48, 49]⟩,
 ⟨(some 43), (.load none), [(.t 42)], none, [39, 44, 45, 46, 47, 48, 49]⟩,
 ⟨(some 44), .mv, [(.t 7)], none, [39, 40, 41, 42, 43, 46, 47]⟩,
 ⟨(some 45), (.call true false false), [(.f 57), (.t 44)], none, [39, 40, 41, 42, 43, 46, 47]⟩,
 ⟨(some 46), (.fa 0), [(.t 9)], none, [39, 40, 41, 42, 43, 44, 45]⟩,
 ⟨(some 47), (.load none), [(.t 46)], none, [39, 40, 41, 42, 43, 44, 45]⟩,
 ⟨(some 48), (.bin 0 .add), [(.t 45), (.t 47)], none, [39, 40, 41, 42, 43]⟩,
 ⟨(some 49), (.bsl 1 [(.int .i64 0)] 1 [0]), [(.t 48)], none, [39, 40, 41, 42, 43]⟩,
 ⟨(some 50), (.append true 1 8), [(.t 43), (.t 49)], none, [39]⟩,
 ⟨(some 51), .nilc, [(.t 39)], none, []⟩,
 ⟨(some 52), (.fa 7), [(.t 51)], none, []⟩,
 ⟨none, (.store 1 none), [(.t 52), (.t 50)], none, []⟩] 0 [7, 20, 33, 34, 35])
 (.reg true [49, 50] [49] [
 ⟨(some 39), .mv, [(.t 7)], none, [40, 41, 42, 43, 44, 45, 46, 47, 48, 49, 50]⟩,
 ⟨(some 40), .mv, [(.t 7)], none, [39, 44, 45, 46, 47, 48, 49]⟩,
 ⟨(some 41), .nilc, [(.t 40)], none, [39, 44, 45, 46, 47, 48, 49]⟩,
 ⟨(some 42), (.fa 7), [(.t 41)], none, [39, 44, 45, 46, 47, 48, 49]⟩,
 ⟨(some 43), (.load none), [(.t 42)], none, [39, 44, 45, 46, 47, 48, 49]⟩,
 ⟨(some 44), .mv, [(.t 7)], none, [39, 40, 41, 42, 43, 46, 47]⟩,
 ⟨(some 45), (.call true false false), [(.f 57), (.t 44)], none, [39, 40, 41, 42, 43, 46, 47]⟩,
 ⟨(some 46), (.fa 0), [(.t 9)], none, [39, 40, 41, 42, 43, 44, 45]⟩,
 ⟨(some 47), (.load none), [(.t 46)], none, [39, 40, 41, 42, 43, 44, 45]⟩,
 ⟨(some 48), (.bin 0 .add), [(.t 45), (.t 47)], none, [39, 40, 41, 42, 43]⟩,
 ⟨(some 49), (.bsl 1 [(.int .i64 0)] 1 [0]), [(.t 48)], none, [39, 40, 41, 42, 43]⟩,
 ⟨(some 50), (.appo 1 8), [(.t 43), (.t 49)], none, [39]⟩,
 ⟨(some 51), .nilc, [(.t 39)], none, []⟩,
 ⟨(some 52), (.fa 7), [(.t 51)], none, []⟩,
 ⟨none, (.store 1 none), [(.t 52), (.t 50)], none, []⟩] 0 [7, 20, 33, 34, 35]))))
 (.reg true [] [] [
 ⟨(some 53), (.bin 0 .add), [(.t 35), (.c (.int .i64 1))], none, []⟩,
 ⟨(some 35), .mv, [(.t 53)], none, []⟩] 0 [7, 20, 33, 34, 35]))))
def l55 : LFun := ⟨2, 55, [],
 (.seq
 (.reg false [2] [2] [
 ⟨(some 2), .box, [(.t 0)], none, []⟩,
 ⟨(some 4), .mv, [(.c .np)], none, []⟩,
 ⟨(some 5), .mv, [(.c (.int .i64 0))], none, []⟩] 0 [1, 2, 20])
 (.seq
 (.seq
 (.reg false [] [] [
 ⟨(some 10), (.load (some 6)), [(.t 2)], none, []⟩,
 ⟨(some 11), .mv, [(.t 1)], none, []⟩,
 ⟨(some 12), (.call false false false), [(.f 82), (.t 10), (.t 11)], none, []⟩,
 ⟨(some 6), .mv, [(.t 12)], none, []⟩] 0 [1, 2, 6, 20])
 (.seq
 (.reg false [] [] [
 ⟨(some 13), .mv, [(.t 6)], none, []⟩,
 ⟨(some 14), (.bin 0 .neq), [(.t 13), (.c (.int .i64 0))], none, []⟩] 0 [1, 2, 6, 14, 20])
 (.cond (.t 14)
 (.seq
 (.reg false [] [] [
 ⟨(some 15), .mv, [(.t 6)], none, []⟩,
 ⟨(some 4), .mv, [(.c .np)], none, []⟩,
 ⟨(some 5), .mv, [(.t 15)], none, []⟩] 0 [4, 5, 20])
 .ret)
 .skip)))
 (.seq
 (.reg false [16, 20] [16, 20] [
 ⟨(some 16), (.bsl 1 [(.int .i64 0)] 1 [0]), [(.c (.int .i64 0))], none, []⟩,
 ⟨(some 17), (.fa 0), [(.t 2)], none, []⟩,
 ⟨(some 18), (.load none), [(.t 17)], none, []⟩,
 ⟨(some 19), (.build [(.bool false), (.int .i64 0), (.int .i64 0), (.int .i64 0), (.int .i64 0), .nil, .nil, (.sl (some 2005000) 1 []), (.bool false)] [(7, 1), (8, 1)]), [(.t 16), (.t 18)], none, []⟩,
 ⟨(some 20), .box, [(.t 19)], none, []⟩,
 ⟨(some 7), .mv, [(.t 20)], none, []⟩] 0 [1, 2, 7, 20])
 (.seq
 (.reg false [26] [26] [
 ⟨(some 22), .mv, [(.t 7)], none, []⟩,
 ⟨(some 23), .mv, [(.t 7)], none, []⟩,
 ⟨(some 24), (.load (some 6)), [(.t 2)], none, []⟩,
 ⟨(some 25), .mv, [(.t 1)], none, []⟩,
 ⟨(some 26), (.call false false true), [(.f 83), (.t 24), (.t 25)], none, []⟩,
 ⟨(some 21), .mv, [(.t 26)], none, []⟩,
 ⟨(some 27), (.ext 0), [(.t 21)], none, []⟩,
 ⟨(some 28), (.ext 1), [(.t 21)], none, []⟩,
 ⟨(some 29), .nilc, [(.t 22)], none, []⟩,
 ⟨(some 30), (.fa 0), [(.t 29)], none, []⟩,
 ⟨none, (.store 6 none), [(.t 30), (.t 27)], none, []⟩,
 ⟨(some 31), .nilc, [(.t 23)], none, []⟩,
 ⟨(some 32), (.fa 6), [(.t 31)], none, []⟩,
 ⟨none, (.store 1 none), [(.t 32), (.t 28)], none, []⟩] 0 [1, 7, 20])
 (.seq
 (.seq
 (.reg false [] [] [
 ⟨(some 33), .mv, [(.t 1)], none, []⟩,
 ⟨(some 34), .len, [(.t 33)], none, []⟩,
 ⟨(some 35), .mv, [(.c (.int .i64 0))], none, []⟩] 0 [7, 20, 33, 34, 35])
 (.block 0
 (.loop b55_0)))
 (.seq
 (.reg false [] [] [
 ⟨(some 54), .mv, [(.t 7)], none, []⟩,
 ⟨(some 4), .mv, [(.t 54)], none, []⟩,
 ⟨(some 5), .mv, [(.c (.int .i64 0))], none, []⟩] 0 [4, 5, 20])
 .ret)))))),
 [(.t 4), (.t 5)]⟩
theorem c55 : funC Try.prog [(0, [1, 2, 20]), (1, [1, 2, 6, 20]), (2, [1, 2, 6, 14, 20]), (3, [4, 5, 20]), (4, [1, 2, 7, 20]), (5, [1, 7, 20]), (6, [7, 20, 33, 34, 35]), (7, [7, 20, 33, 34, 35, 36]), (8, [7, 9, 20, 33, 34, 35]), (9, [7, 20, 33, 34, 35]), (10, [7, 20, 33, 34, 35]), (11, [4, 5, 20])] Try.f55 = some (unF l55) := by kernel_rfl
/-- acme/die.within -/
def l56 : LFun := ⟨3, 11, [],
 (.seq
 (.reg false [3, 4] [3, 4] [
 ⟨(some 3), .box, [(.t 0)], none, []⟩,
 ⟨(some 4), .box, [(.t 1)], none, []⟩,
 ⟨(some 6), .mv, [(.c (.bool false))], none, []⟩] 0 [2, 3, 4])
 (.seq
 (.reg false [] [] [
 ⟨(some 7), .mv, [(.t 2)], none, []⟩,
 ⟨(some 8), (.mkf 84), [(.t 3), (.t 4)], none, []⟩,
 ⟨(some 9), (.call false false false), [(.f 64), (.t 7), (.t 8)], none, []⟩,
 ⟨(some 10), (.un .not), [(.t 9)], none, []⟩,
 ⟨(some 6), .mv, [(.t 10)], none, []⟩] 0 [3, 4, 6])
 .ret)),
 [(.t 6)]⟩
theorem c56 : funC Try.prog [(0, [2, 3, 4]), (1, [3, 4, 6])] Try.f56 = some (unF l56) := by kernel_rfl
/-- (*acme/die.shop).all -/
def l57 : LFun := ⟨1, 15, [],
 (.seq
 (.reg false [] [] [
 ⟨(some 2), .mv, [(.c (.int .i64 0))], none, []⟩] 0 [0])
 (.seq
 (.reg false [] [] [
 ⟨(some 3), .mv, [(.t 0)], none, [7, 8, 9, 10, 11, 12]⟩,
 ⟨(some 4), .nilc, [(.t 3)], none, [7, 8, 9, 10, 11, 12]⟩,
 ⟨(some 5), (.fa 7), [(.t 4)], none, [7, 8, 9, 10, 11, 12]⟩,
 ⟨(some 6), (.load none), [(.t 5)], none, [7, 8, 9, 10, 11, 12]⟩,
 ⟨(some 7), .mv, [(.t 0)], none, [3, 4, 5, 6]⟩,
 ⟨(some 8), .nilc, [(.t 7)], none, [3, 4, 5, 6]⟩,
 ⟨(some 9), (.fa 7), [(.t 8)], none, [3, 4, 5, 6]⟩,
 ⟨(some 10), (.load none), [(.t 9)], none, [3, 4, 5, 6]⟩,
 ⟨(some 11), .len, [(.t 10)], none, [3, 4, 5, 6]⟩,
 ⟨(some 12), (.bin 0 .sub), [(.t 11), (.c (.int .i64 1))], none, [3, 4, 5, 6]⟩,
 ⟨(some 13), (.ixs 1), [(.t 6), (.t 12)], none, []⟩,
 ⟨(some 14), (.load none), [(.t 13)], none, []⟩,
 ⟨(some 2), .mv, [(.t 14)], none, []⟩] 0 [2])
 .ret)),
 [(.t 2)]⟩
theorem c57 : funC Try.prog [(0, [0]), (1, [2])] Try.f57 = some (unF l57) := by kernel_rfl
/-- (*acme/die.shop).reach -/
def l58 : LFun := ⟨2, 13, [],
 (.seq
 (.reg false [2, 3] [2, 3] [
 ⟨(some 2), .box, [(.t 0)], none, []⟩,
 ⟨(some 3), .box, [(.t 1)], none, []⟩,
 ⟨(some 4), .mv, [(.c (.int .i64 0))], none, []⟩] 0 [2, 3])
 (.seq
 (.reg false [] [] [
 ⟨(some 5), (.load none), [(.t 3)], none, [6, 7, 8, 9, 10, 11]⟩,
 ⟨(some 6), (.load none), [(.t 2)], none, [5, 8, 10]⟩,
 ⟨(some 7), (.call true false false), [(.f 57), (.t 6)], none, [5, 8, 10]⟩,
 ⟨(some 8), (.load none), [(.t 3)], none, [5, 6, 7, 10]⟩,
 ⟨(some 9), (.bin 0 .sub), [(.t 7), (.t 8)], none, [5, 10]⟩,
 ⟨(some 10), (.mkf 86), [(.t 2), (.t 3)], none, [5, 6, 7, 8, 9]⟩,
 ⟨(some 11), (.call true false false), [(.f 85), (.t 9), (.t 10)], none, [5]⟩,
 ⟨(some 12), (.bin 0 .add), [(.t 5), (.t 11)], none, []⟩,
 ⟨(some 4), .mv, [(.t 12)], none, []⟩] 0 [2, 3, 4])
 .ret)),
 [(.t 4)]⟩
theorem c58 : funC Try.prog [(0, [2, 3]), (1, [2, 3, 4])] Try.f58 = some (unF l58) := by kernel_rfl
/-- (*acme/die.shop).steps -/
def b59_0 : LCode :=
 (.seq
 (.seq
 (.reg true [] [] [
 ⟨(some 6), .mv, [(.t 4)], none, []⟩,
 ⟨(some 7), .mv, [(.t 0)], none, []⟩,
 ⟨(some 8), (.call false false false), [(.f 57), (.t 7)], none, []⟩,
 ⟨(some 9), (.bin 0 .lss), [(.t 6), (.t 8)], none, []⟩] 0 [0, 1, 4, 9])
 (.cond (.t 9)
 .skip
 (.exit 0)))
 (.block 1
 (.seq
 (.reg true [] [] [
 ⟨(some 10), .mv, [(.t 0)], none, []⟩,
 ⟨(some 11), .mv, [(.t 4)], none, []⟩,
 ⟨(some 12), (.call false false false), [(.f 58), (.t 10), (.t 11)], none, []⟩,
 ⟨(some 5), .mv, [(.t 12)], none, []⟩] 0 [0, 1, 4, 5])
 (.seq
 (.seq
 (.reg true [] [] [
 ⟨(some 13), .mv, [(.t 1)], none, []⟩,
 ⟨(some 14), .mv, [(.t 4)], none, []⟩,
 ⟨(some 15), .mv, [(.t 5)], none, []⟩,
 ⟨(some 16), (.call false false false), [(.t 13), (.t 14), (.t 15)], none, []⟩,
 ⟨(some 17), (.un .not), [(.t 16)], none, []⟩,
 ⟨(some 18), .mv, [(.t 17)], none, []⟩,
 ⟨(some 19), .mv, [(.t 5)], (some (18, false)), []⟩,
 ⟨(some 20), .mv, [(.t 4)], (some (18, false)), []⟩,
 ⟨(some 21), (.bin 0 .eql), [(.t 19), (.t 20)], (some (18, false)), []⟩,
 ⟨(some 22), .pick, [(.t 18), (.c (.bool true)), (.t 21)], none, []⟩] 0 [0, 1, 5, 22])
 (.cond (.t 22)
 .ret
 .skip))
 (.reg true [] [] [
 ⟨(some 23), .mv, [(.t 5)], none, []⟩,
 ⟨(some 4), .mv, [(.t 23)], none, []⟩] 0 [0, 1, 4])))))
def l59 : LFun := ⟨2, 24, [],
 (.seq
 (.reg false [] [] [
 ⟨(some 4), .mv, [(.c (.int .i64 0))], none, []⟩] 0 [0, 1, 4])
 (.block 0
 (.loop b59_0))),
 []⟩
theorem c59 : funC Try.prog [(0, [0, 1, 4]), (1, [0, 1, 4, 9]), (2, [0, 1, 4, 5]), (3, [0, 1, 5, 22]), (4, [0, 1, 4])] Try.f59 = some (unF l59) := by kernel_rfl
/-- (*acme/die.shop).back -/
def l60 : LFun := ⟨2, 12, [],
 (.seq
 (.reg false [3, 4] [3, 4] [
 ⟨(some 3), .box, [(.t 1)], none, []⟩,
 ⟨(some 4), (.alloc [(.int .i64 0), (.int .i64 0)]), [], none, []⟩] 0 [0, 3, 4])
 (.seq
 (.seq
 (.reg false [] [] [
 ⟨(some 5), .mv, [(.t 0)], none, []⟩,
 ⟨(some 6), .nilc, [(.t 5)], none, []⟩,
 ⟨(some 7), (.fa 8), [(.t 6)], none, []⟩,
 ⟨(some 8), (.load none), [(.t 7)], none, []⟩] 0 [3, 4, 8])
 (.cond (.t 8)
 (.seq
 (.reg false [] [] [
 ⟨(some 9), (.load (some 2)), [(.t 3)], none, []⟩,
 ⟨(some 10), (.call false false false), [(.f 88), (.t 9)], none, []⟩,
 ⟨none, (.store 2 none), [(.t 4), (.t 10)], none, []⟩] 0 [4])
 .ret)
 .skip))
 (.seq
 (.reg false [] [] [
 ⟨(some 11), (.load (some 2)), [(.t 3)], none, []⟩,
 ⟨none, (.store 2 none), [(.t 4), (.t 11)], none, []⟩] 0 [4])
 .ret))),
 [(.c 4 (some 2))]⟩
theorem c60 : funC Try.prog [(0, [0, 3, 4]), (1, [3, 4, 8]), (2, [4]), (3, [4])] Try.f60 = some (unF l60) := by kernel_rfl
/-- (*acme/die.shop).targets -/
def b61_0w : List Nat :=
 [32, 33, 11, 12, 34, 35, 36, 37, 38, 39, 40, 41, 42, 13, 43, 44, 45, 46, 47, 48, 49, 50, 51, 52, 53, 54, 55, 56, 57, 58, 59, 60, 61, 62, 63, 64, 65, 66, 67, 14, 68, 69, 70, 71, 72, 73, 74, 75, 76, 77, 78, 79, 80, 81, 82, 83, 84, 85, 86]
def b61_0a : LCode :=
 (.seq
 (.reg true [11] [11] [
 ⟨(some 11), (.alloc [(.int .i64 0), (.int .i64 0), (.int .i64 0), (.int .i64 0)]), [], none, []⟩,
 ⟨none, (.store 4 none), [(.t 11), (.t 32)], none, []⟩] 0 [3, 6, 7, 8, 9, 10, 11, 33])
 (.reg true [] [] [
 ⟨(some 12), .mv, [(.t 33)], none, []⟩] 0 [3, 6, 7, 8, 9, 10, 11, 12]))
def b61_0 : LCode :=
 (.block 1
 (.seq
 (.reg true [13] [13] [
 ⟨(some 34), (.load none), [(.t 3)], none, [39, 40, 13]⟩,
 ⟨(some 35), .nilc, [(.t 34)], none, [39, 40, 13]⟩,
 ⟨(some 36), (.fa 0), [(.t 35)], none, [39, 40, 13]⟩,
 ⟨(some 37), (.fa 5), [(.t 36)], none, [39, 40, 13]⟩,
 ⟨(some 38), (.load none), [(.t 37)], none, [39, 40, 13]⟩,
 ⟨(some 39), (.fa 1), [(.t 11)], none, [34, 35, 36, 37, 38, 13]⟩,
 ⟨(some 40), (.load none), [(.t 39)], none, [34, 35, 36, 37, 38, 13]⟩,
 ⟨(some 41), (.ixs 2), [(.t 38), (.t 40)], none, [13]⟩,
 ⟨(some 42), (.load (some 2)), [(.t 41)], none, [13]⟩,
 ⟨(some 13), (.alloc [(.int .i64 0), (.int .i64 0)]), [], none, [34, 35, 36, 37, 38, 39, 40, 41, 42]⟩,
 ⟨none, (.store 2 (some 13)), [(.t 13), (.t 42)], none, []⟩] 0 [3, 6, 7, 8, 9, 10, 11, 12, 13])
 (.seq
 (.reg true [14] [14] [
 ⟨(some 43), (.fa 2), [(.t 11)], none, []⟩,
 ⟨(some 44), (.fa 0), [(.t 43)], none, []⟩,
 ⟨(some 45), (.load none), [(.t 44)], none, []⟩,
 ⟨(some 46), (.fa 0), [(.t 7)], none, []⟩,
 ⟨(some 47), (.load none), [(.t 46)], none, []⟩,
 ⟨(some 48), (.bin 0 .sub), [(.t 45), (.t 47)], none, []⟩,
 ⟨(some 49), (.fa 0), [(.t 9)], none, []⟩,
 ⟨(some 50), (.load none), [(.t 49)], none, []⟩,
 ⟨(some 51), (.bin 0 .sub), [(.t 48), (.t 50)], none, []⟩,
 ⟨(some 52), (.fa 2), [(.t 11)], none, []⟩,
 ⟨(some 53), (.fa 1), [(.t 52)], none, []⟩,
 ⟨(some 54), (.load none), [(.t 53)], none, []⟩,
 ⟨(some 55), (.fa 1), [(.t 7)], none, []⟩,
 ⟨(some 56), (.load none), [(.t 55)], none, []⟩,
 ⟨(some 57), (.bin 0 .sub), [(.t 54), (.t 56)], none, []⟩,
 ⟨(some 58), (.fa 1), [(.t 9)], none, []⟩,
 ⟨(some 59), (.load none), [(.t 58)], none, []⟩,
 ⟨(some 60), (.bin 0 .sub), [(.t 57), (.t 59)], none, []⟩,
 ⟨(some 61), (.fa 1), [(.t 13)], none, []⟩,
 ⟨(some 62), (.load none), [(.t 61)], none, []⟩,
 ⟨(some 63), .mv, [(.t 12)], none, []⟩,
 ⟨(some 64), (.bin 0 .sub), [(.t 63), (.c (.int .i64 1))], none, []⟩,
 ⟨(some 65), (.bin 0 .mul), [(.t 62), (.t 64)], none, []⟩,
 ⟨(some 66), (.bin 0 .sub), [(.t 60), (.t 65)], none, []⟩,
 ⟨(some 67), (.build [(.int .i64 0), (.int .i64 0)] [(0, 1), (1, 1)]), [(.t 51), (.t 66)], none, []⟩,
 ⟨(some 14), (.alloc [(.int .i64 0), (.int .i64 0)]), [], none, []⟩,
 ⟨none, (.store 2 none), [(.t 14), (.t 67)], none, []⟩] 0 [3, 6, 7, 8, 9, 10, 12, 13, 14])
 (.seq
 (.seq
 (.reg true [] [] [
 ⟨(some 68), (.load none), [(.t 10)], none, []⟩,
 ⟨(some 69), (.un .not), [(.t 68)], none, []⟩] 0 [3, 6, 7, 8, 9, 10, 12, 13, 14, 69])
 (.cond (.t 69)
 (.reg true [] [] [
 ⟨(some 70), (.load (some 2)), [(.t 14)], none, []⟩,
 ⟨none, (.store 2 none), [(.t 8), (.t 70)], none, []⟩,
 ⟨none, (.store 1 none), [(.t 10), (.c (.bool true))], none, []⟩] 0 [3, 6, 7, 8, 9, 10, 12, 13, 14])
 .skip))
 (.seq
 (.reg true [] [] [
 ⟨(some 71), (.fa 0), [(.t 8)], none, []⟩,
 ⟨(some 72), (.load none), [(.t 71)], none, []⟩,
 ⟨(some 73), (.fa 0), [(.t 14)], none, []⟩,
 ⟨(some 74), (.load none), [(.t 73)], none, []⟩,
 ⟨(some 75), .max, [(.t 72), (.t 74)], none, []⟩,
 ⟨(some 76), (.fa 1), [(.t 8)], none, []⟩,
 ⟨(some 77), (.load none), [(.t 76)], none, []⟩,
 ⟨(some 78), (.fa 1), [(.t 14)], none, []⟩,
 ⟨(some 79), (.load none), [(.t 78)], none, []⟩,
 ⟨(some 80), .min, [(.t 77), (.t 79)], none, []⟩,
 ⟨(some 81), (.build [(.int .i64 0), (.int .i64 0)] [(0, 1), (1, 1)]), [(.t 75), (.t 80)], none, []⟩,
 ⟨none, (.store 2 none), [(.t 8), (.t 81)], none, []⟩] 0 [3, 6, 7, 8, 9, 10, 12, 13])
 (.reg true [] [] [
 ⟨(some 82), (.load (some 2)), [(.t 9)], none, [83, 84, 85]⟩,
 ⟨(some 83), (.load (some 2)), [(.t 13)], none, [82, 84]⟩,
 ⟨(some 84), .mv, [(.t 12)], none, [82, 83]⟩,
 ⟨(some 85), (.call true false false), [(.f 91), (.t 83), (.t 84)], none, [82]⟩,
 ⟨(some 86), (.call false false false), [(.f 89), (.t 82), (.t 85)], none, []⟩,
 ⟨none, (.store 2 (some 9)), [(.t 9), (.t 86)], none, []⟩] 0 [3, 6, 7, 8, 9, 10]))))))
def l61 : LFun := ⟨3, 88, [],
 (.seq
 (.reg false [3, 6] [3, 6] [
 ⟨(some 3), .box, [(.t 0)], none, []⟩,
 ⟨(some 6), (.alloc [(.int .i64 0), (.int .i64 0)]), [], none, []⟩] 0 [1, 2, 3, 6])
 (.seq
 (.reg false [7] [7] [
 ⟨(some 15), (.load none), [(.t 3)], none, [20, 21, 22, 23, 24, 7]⟩,
 ⟨(some 16), .nilc, [(.t 15)], none, [20, 21, 22, 23, 24, 7]⟩,
 ⟨(some 17), (.fa 0), [(.t 16)], none, [20, 21, 22, 23, 24, 7]⟩,
 ⟨(some 18), (.fa 1), [(.t 17)], none, [20, 21, 22, 23, 24, 7]⟩,
 ⟨(some 19), (.load (some 2)), [(.t 18)], none, [20, 21, 22, 23, 24, 7]⟩,
 ⟨(some 20), (.load none), [(.t 3)], none, [15, 16, 17, 18, 19, 7]⟩,
 ⟨(some 21), .nilc, [(.t 20)], none, [15, 16, 17, 18, 19, 7]⟩,
 ⟨(some 22), (.fa 0), [(.t 21)], none, [15, 16, 17, 18, 19, 7]⟩,
 ⟨(some 23), (.fa 3), [(.t 22)], none, [15, 16, 17, 18, 19, 7]⟩,
 ⟨(some 24), (.load (some 2)), [(.t 23)], none, [15, 16, 17, 18, 19, 7]⟩,
 ⟨(some 25), (.call false false false), [(.f 89), (.t 19), (.t 24)], none, [7]⟩,
 ⟨(some 7), (.alloc [(.int .i64 0), (.int .i64 0)]), [], none, [15, 16, 17, 18, 19, 20, 21, 22, 23, 24, 25]⟩,
 ⟨none, (.store 2 (some 7)), [(.t 7), (.t 25)], none, []⟩] 0 [1, 2, 3, 6, 7])
 (.seq
 (.reg false [8, 9, 10] [8, 9, 10] [
 ⟨(some 26), (.build [(.int .i64 0), (.int .i64 0)] []), [], none, []⟩,
 ⟨(some 27), (.build [(.int .i64 0), (.int .i64 0)] []), [], none, []⟩,
 ⟨(some 8), (.alloc [(.int .i64 0), (.int .i64 0)]), [], none, []⟩,
 ⟨(some 9), (.alloc [(.int .i64 0), (.int .i64 0)]), [], none, []⟩,
 ⟨(some 10), (.alloc [(.bool false)]), [], none, []⟩,
 ⟨none, (.store 2 none), [(.t 8), (.t 26)], none, []⟩,
 ⟨none, (.store 2 none), [(.t 9), (.t 27)], none, []⟩,
 ⟨none, (.store 1 none), [(.t 10), (.c (.bool false))], none, []⟩] 0 [1, 2, 3, 6, 7, 8, 9, 10])
 (.seq
 (.seq
 (.reg false [31] [31] [
 ⟨(some 28), (.load none), [(.t 3)], none, []⟩,
 ⟨(some 29), .mv, [(.t 1)], none, []⟩,
 ⟨(some 30), .mv, [(.t 2)], none, []⟩,
 ⟨(some 31), (.call false true true), [(.f 90), (.t 28), (.t 29), (.t 30)], none, []⟩] 0 [3, 6, 7, 8, 9, 10, 31])
 (.block 0
 (.rng (.t 31) [32, 33] b61_0w b61_0a b61_0)))
 (.seq
 (.reg false [] [] [
 ⟨(some 87), (.load (some 2)), [(.t 8)], none, []⟩,
 ⟨none, (.store 2 none), [(.t 6), (.t 87)], none, []⟩] 0 [6])
 .ret))))),
 [(.c 6 (some 2))]⟩
theorem c61 : funC Try.prog [(0, [1, 2, 3, 6]), (1, [1, 2, 3, 6, 7]), (2, [1, 2, 3, 6, 7, 8, 9, 10]), (3, [3, 6, 7, 8, 9, 10, 31]), (4, [3, 6, 7, 8, 9, 10, 11, 33]), (5, [3, 6, 7, 8, 9, 10, 11, 12]), (6, [3, 6, 7, 8, 9, 10, 11, 12, 13]), (7, [3, 6, 7, 8, 9, 10, 12, 13, 14]), (8, [3, 6, 7, 8, 9, 10, 12, 13, 14, 69]), (9, [3, 6, 7, 8, 9, 10, 12, 13, 14]), (10, [3, 6, 7, 8, 9, 10, 12, 13]), (11, [3, 6, 7, 8, 9, 10]), (12, [6])] Try.f61 = some (unF l61) := by kernel_rfl
/-- acme/thread.within -/
def l62 : LFun := ⟨3, 11, [],
 (.seq
 (.reg false [3, 4] [3, 4] [
 ⟨(some 3), .box, [(.t 0)], none, []⟩,
 ⟨(some 4), .box, [(.t 1)], none, []⟩,
 ⟨(some 6), .mv, [(.c (.bool false))], none, []⟩] 0 [2, 3, 4])
 (.seq
 (.reg false [] [] [
 ⟨(some 7), .mv, [(.t 2)], none, []⟩,
 ⟨(some 8), (.mkf 92), [(.t 3), (.t 4)], none, []⟩,
 ⟨(some 9), (.call false false false), [(.f 64), (.t 7), (.t 8)], none, []⟩,
 ⟨(some 10), (.un .not), [(.t 9)], none, []⟩,
 ⟨(some 6), .mv, [(.t 10)], none, []⟩] 0 [3, 4, 6])
 .ret)),
 [(.t 6)]⟩
theorem c62 : funC Try.prog [(0, [2, 3, 4]), (1, [3, 4, 6])] Try.f62 = some (unF l62) := by kernel_rfl
/-- (acme/thread.form).width -/
def l63 : LFun := ⟨2, 15, [],
 (.seq
 (.reg false [2] [2] [
 ⟨(some 2), .box, [(.t 0)], none, []⟩,
 ⟨(some 4), .mv, [(.c (.int .i64 0))], none, []⟩] 0 [1, 2])
 (.seq
 (.reg false [] [] [
 ⟨(some 5), (.fa 0), [(.t 2)], none, [9, 10, 11, 12, 13]⟩,
 ⟨(some 6), (.fa 0), [(.t 5)], none, [9, 10, 11, 12, 13]⟩,
 ⟨(some 7), (.load none), [(.t 6)], none, [9, 10, 11, 12, 13]⟩,
 ⟨(some 8), (.bin 0 .mul), [(.c (.int .i64 1000)), (.t 7)], none, [9, 10, 11, 12, 13]⟩,
 ⟨(some 9), .mv, [(.t 1)], none, [5, 6, 7, 8, 11, 12]⟩,
 ⟨(some 10), (.bin 0 .mul), [(.c (.int .i64 2)), (.t 9)], none, [5, 6, 7, 8, 11, 12]⟩,
 ⟨(some 11), (.load (some 8)), [(.t 2)], none, [5, 6, 7, 8, 9, 10]⟩,
 ⟨(some 12), (.call true false false), [(.f 93), (.t 11)], none, [5, 6, 7, 8, 9, 10]⟩,
 ⟨(some 13), (.bin 0 .mul), [(.t 10), (.t 12)], none, [5, 6, 7, 8]⟩,
 ⟨(some 14), (.bin 0 .sub), [(.t 8), (.t 13)], none, []⟩,
 ⟨(some 4), .mv, [(.t 14)], none, []⟩] 0 [4])
 .ret)),
 [(.t 4)]⟩
theorem c63 : funC Try.prog [(0, [1, 2]), (1, [4])] Try.f63 = some (unF l63) := by kernel_rfl
/-- slices.ContainsFunc[[]int,int] -/
def l64 : LFun := ⟨2, 9, [],
 (.seq
 (.reg false [] [] [
 ⟨(some 4), .mv, [(.c (.bool false))], none, []⟩] 0 [0, 1])
 (.seq
 (.reg false [] [] [
 ⟨(some 5), .mv, [(.t 0)], none, []⟩,
 ⟨(some 6), .mv, [(.t 1)], none, []⟩,
 ⟨(some 7), (.call false false false), [(.f 77), (.t 5), (.t 6)], none, []⟩,
 ⟨(some 8), (.bin 0 .geq), [(.t 7), (.c (.int .i64 0))], none, []⟩,
 ⟨(some 4), .mv, [(.t 8)], none, []⟩] 0 [4])
 .ret)),
 [(.t 4)]⟩
theorem c64 : funC Try.prog [(0, [0, 1]), (1, [4])] Try.f64 = some (unF l64) := by kernel_rfl
/-- acme/fit.within$1 -/
def l65 : LFun := ⟨3, 13, [],
 (.seq
 (.reg false [] [] [
 ⟨(some 4), .mv, [(.c (.bool false))], none, []⟩] 0 [0, 1, 2])
 (.seq
 (.reg false [] [] [
 ⟨(some 5), .mv, [(.t 0)], none, []⟩,
 ⟨(some 6), (.load none), [(.t 1)], none, []⟩,
 ⟨(some 7), (.bin 0 .lss), [(.t 5), (.t 6)], none, []⟩,
 ⟨(some 8), .mv, [(.t 7)], none, []⟩,
 ⟨(some 9), .mv, [(.t 0)], (some (8, false)), []⟩,
 ⟨(some 10), (.load none), [(.t 2)], (some (8, false)), []⟩,
 ⟨(some 11), (.bin 0 .gtr), [(.t 9), (.t 10)], (some (8, false)), []⟩,
 ⟨(some 12), .pick, [(.t 8), (.c (.bool true)), (.t 11)], none, []⟩,
 ⟨(some 4), .mv, [(.t 12)], none, []⟩] 0 [4])
 .ret)),
 [(.t 4)]⟩
theorem c65 : funC Try.prog [(0, [0, 1, 2]), (1, [4])] Try.f65 = some (unF l65) := by kernel_rfl
/-- acme/fit.isSpan -/
def l66 : LFun := ⟨3, 22, [],
 (.seq
 (.reg false [3] [3] [
 ⟨(some 3), .box, [(.t 0)], none, []⟩,
 ⟨(some 6), .mv, [(.c (.bool false))], none, []⟩] 0 [1, 2, 3])
 (.seq
 (.reg false [19] [19] [
 ⟨(some 7), (.fa 0), [(.t 3)], none, []⟩,
 ⟨(some 8), (.load none), [(.t 7)], none, []⟩,
 ⟨(some 9), (.fa 1), [(.t 3)], none, []⟩,
 ⟨(some 10), (.load none), [(.t 9)], none, []⟩,
 ⟨(some 11), (.bin 0 .leq), [(.t 8), (.t 10)], none, []⟩,
 ⟨(some 12), .mv, [(.t 11)], none, []⟩,
 ⟨(some 13), .mv, [(.t 1)], (some (12, true)), []⟩,
 ⟨(some 14), .mv, [(.t 2)], (some (12, true)), []⟩,
 ⟨(some 15), (.fa 0), [(.t 3)], (some (12, true)), []⟩,
 ⟨(some 16), (.load none), [(.t 15)], (some (12, true)), []⟩,
 ⟨(some 17), (.fa 1), [(.t 3)], (some (12, true)), []⟩,
 ⟨(some 18), (.load none), [(.t 17)], (some (12, true)), []⟩,
 ⟨(some 19), (.bsl 1 [(.int .i64 0)] 2 [0, 1]), [(.t 16), (.t 18)], (some (12, true)), []⟩,
 ⟨(some 20), (.call false false false), [(.f 35), (.t 13), (.t 14), (.t 19)], (some (12, true)), []⟩,
 ⟨(some 21), .pick, [(.t 12), (.t 20), (.c (.bool false))], none, []⟩,
 ⟨(some 6), .mv, [(.t 21)], none, []⟩] 0 [6])
 .ret)),
 [(.t 6)]⟩
theorem c66 : funC Try.prog [(0, [1, 2, 3]), (1, [6])] Try.f66 = some (unF l66) := by kernel_rfl
/-- acme/fit.Check -/
def b67_0 : LCode :=
 (.seq
 (.reg true [] [] [
 ⟨(some 27), (.bin 0 .lss), [(.t 26), (.t 25)], none, []⟩] 0 [3, 24, 25, 26, 27])
 (.seq
 (.cond (.t 27)
 .skip
 (.exit 1))
 (.seq
 (.block 2
 (.seq
 (.reg true [5] [5] [
 ⟨(some 28), (.ixs 2), [(.t 24), (.t 26)], none, []⟩,
 ⟨(some 29), (.load (some 2)), [(.t 28)], none, []⟩,
 ⟨(some 5), (.alloc [(.int .i64 0), (.int .i64 0)]), [], none, []⟩,
 ⟨none, (.store 2 none), [(.t 5), (.t 29)], none, []⟩] 0 [3, 5, 24, 25, 26])
 (.seq
 (.seq
 (.reg true [33, 41] [33, 41] [
 ⟨(some 30), .mv, [(.t 3)], none, []⟩,
 ⟨(some 31), (.fa 0), [(.t 5)], none, []⟩,
 ⟨(some 32), (.load none), [(.t 31)], none, []⟩,
 ⟨(some 33), (.bsl 1 [(.int .i64 0)] 1 [0]), [(.t 32)], none, []⟩,
 ⟨(some 34), (.call false false false), [(.f 35), (.t 30), (.c (.int .i64 10000000)), (.t 33)], none, []⟩,
 ⟨(some 35), (.un .not), [(.t 34)], none, []⟩,
 ⟨(some 36), .mv, [(.t 35)], none, []⟩,
 ⟨(some 37), (.fa 0), [(.t 5)], (some (36, false)), []⟩,
 ⟨(some 38), (.load none), [(.t 37)], (some (36, false)), []⟩,
 ⟨(some 39), (.fa 1), [(.t 5)], (some (36, false)), []⟩,
 ⟨(some 40), (.load none), [(.t 39)], (some (36, false)), []⟩,
 ⟨(some 41), (.bsl 1 [(.int .i64 0)] 1 [0]), [(.t 40)], (some (36, false)), []⟩,
 ⟨(some 42), (.call false false false), [(.f 35), (.t 38), (.c (.int .i64 10000000)), (.t 41)], (some (36, false)), []⟩,
 ⟨(some 43), (.un .not), [(.t 42)], (some (36, false)), []⟩,
 ⟨(some 44), .pick, [(.t 36), (.c (.bool true)), (.t 43)], none, []⟩] 0 [5, 24, 25, 26, 44])
 (.cond (.t 44)
 (.seq
 (.reg true [] [] [
 ⟨(some 2), .mv, [(.c (.int .i64 2))], none, []⟩] 0 [2])
 .ret)
 .skip))
 (.reg true [] [] [
 ⟨(some 45), (.fa 1), [(.t 5)], none, []⟩,
 ⟨(some 46), (.load none), [(.t 45)], none, []⟩,
 ⟨(some 3), .mv, [(.t 46)], none, []⟩] 0 [3, 24, 25, 26]))))
 (.reg true [] [] [
 ⟨(some 47), (.bin 0 .add), [(.t 26), (.c (.int .i64 1))], none, []⟩,
 ⟨(some 26), .mv, [(.t 47)], none, []⟩] 0 [3, 24, 25, 26]))))
def l67 : LFun := ⟨1, 48, [],
 (.seq
 (.reg false [1] [1] [
 ⟨(some 1), .box, [(.t 0)], none, []⟩,
 ⟨(some 2), .mv, [(.c (.int .i64 0))], none, []⟩] 0 [1])
 (.seq
 (.block 0
 (.seq
 (.reg false [] [] [
 ⟨(some 7), (.fa 0), [(.t 1)], none, []⟩,
 ⟨(some 8), (.load none), [(.t 7)], none, []⟩,
 ⟨(some 9), .len, [(.t 8)], none, []⟩,
 ⟨(some 10), (.bin 0 .gtr), [(.t 9), (.c (.int .i64 60))], none, []⟩,
 ⟨(some 6), .mv, [(.t 10)], none, []⟩] 0 [1, 6])
 (.cond (.t 6)
 (.seq
 (.reg false [] [] [
 ⟨(some 2), .mv, [(.c (.int .i64 5))], none, []⟩] 0 [2])
 .ret)
 (.seq
 (.seq
 (.reg false [] [] [
 ⟨(some 12), (.fa 0), [(.t 1)], none, []⟩,
 ⟨(some 13), (.load none), [(.t 12)], none, []⟩,
 ⟨(some 14), .len, [(.t 13)], none, []⟩,
 ⟨(some 15), (.bin 0 .eql), [(.t 14), (.c (.int .i64 0))], none, []⟩,
 ⟨(some 11), .mv, [(.t 15)], none, []⟩] 0 [1, 11])
 (.cond (.t 11)
 .skip
 (.reg false [20] [20] [
 ⟨(some 16), (.fa 1), [(.t 1)], none, []⟩,
 ⟨(some 17), (.load none), [(.t 16)], none, []⟩,
 ⟨(some 18), (.fa 2), [(.t 1)], none, []⟩,
 ⟨(some 19), (.load none), [(.t 18)], none, []⟩,
 ⟨(some 20), (.bsl 1 [(.int .i64 0)] 2 [0, 1]), [(.t 17), (.t 19)], none, []⟩,
 ⟨(some 21), (.call false false false), [(.f 35), (.c (.int .i64 0)), (.c (.int .i64 3000)), (.t 20)], none, []⟩,
 ⟨(some 22), (.un .not), [(.t 21)], none, []⟩,
 ⟨(some 11), .mv, [(.t 22)], none, []⟩] 0 [1, 11])))
 (.cond (.t 11)
 (.seq
 (.reg false [] [] [
 ⟨(some 2), .mv, [(.c (.int .i64 2))], none, []⟩] 0 [2])
 .ret)
 .skip)))))
 (.seq
 (.reg false [] [] [
 ⟨(some 3), .mv, [(.c (.int .i64 (-10000000)))], none, []⟩] 0 [1, 3])
 (.seq
 (.seq
 (.reg false [] [] [
 ⟨(some 23), (.fa 0), [(.t 1)], none, []⟩,
 ⟨(some 24), (.load none), [(.t 23)], none, []⟩,
 ⟨(some 25), .len, [(.t 24)], none, []⟩,
 ⟨(some 26), .mv, [(.c (.int .i64 0))], none, []⟩] 0 [3, 24, 25, 26])
 (.block 1
 (.loop b67_0)))
 (.seq
 (.reg false [] [] [
 ⟨(some 2), .mv, [(.c (.int .i64 0))], none, []⟩] 0 [2])
 .ret))))),
 [(.t 2)]⟩
theorem c67 : funC Try.prog [(0, [1]), (1, [1, 6]), (2, [2]), (3, [1, 11]), (4, [1, 11]), (5, [2]), (6, [1, 3]), (7, [3, 24, 25, 26]), (8, [3, 24, 25, 26, 27]), (9, [3, 5, 24, 25, 26]), (10, [5, 24, 25, 26, 44]), (11, [2]), (12, [3, 24, 25, 26]), (13, [3, 24, 25, 26]), (14, [2])] Try.f67 = some (unF l67) := by kernel_rfl
/-- (acme/fit.ideal).flanks -/
def l68 : LFun := ⟨2, 6, [],
 (.seq
 (.reg false [2, 3] [2, 3] [
 ⟨(some 2), .box, [(.t 0)], none, []⟩,
 ⟨(some 3), .box, [(.t 1)], none, []⟩,
 ⟨(some 4), .mv, [(.c .dead)], none, []⟩] 0 [2, 3])
 (.seq
 (.reg false [] [] [
 ⟨(some 5), (.mkf 94), [(.t 3), (.t 2)], none, []⟩,
 ⟨(some 4), .mv, [(.t 5)], none, []⟩] 0 [2, 3, 4])
 .ret)),
 [(.t 4)]⟩
theorem c68 : funC Try.prog [(0, [2, 3]), (1, [2, 3, 4])] Try.f68 = some (unF l68) := by kernel_rfl
/-- (acme/fit.heights).most -/
def l69 : LFun := ⟨2, 16, [],
 (.seq
 (.reg false [2] [2] [
 ⟨(some 2), .box, [(.t 0)], none, []⟩,
 ⟨(some 4), .mv, [(.c (.int .i64 0))], none, []⟩] 0 [1, 2])
 (.seq
 (.reg false [] [] [
 ⟨(some 5), (.fa 0), [(.t 2)], none, []⟩,
 ⟨(some 6), (.fa 0), [(.t 5)], none, []⟩,
 ⟨(some 7), (.load none), [(.t 6)], none, []⟩,
 ⟨(some 8), .mv, [(.t 1)], none, []⟩,
 ⟨(some 9), (.bin 0 .mul), [(.t 7), (.t 8)], none, []⟩,
 ⟨(some 10), (.fa 0), [(.t 2)], none, []⟩,
 ⟨(some 11), (.fa 1), [(.t 10)], none, []⟩,
 ⟨(some 12), (.load none), [(.t 11)], none, []⟩,
 ⟨(some 13), .mv, [(.t 1)], none, []⟩,
 ⟨(some 14), (.bin 0 .mul), [(.t 12), (.t 13)], none, []⟩,
 ⟨(some 15), .max, [(.t 9), (.t 14)], none, []⟩,
 ⟨(some 4), .mv, [(.t 15)], none, []⟩] 0 [4])
 .ret)),
 [(.t 4)]⟩
theorem c69 : funC Try.prog [(0, [1, 2]), (1, [4])] Try.f69 = some (unF l69) := by kernel_rfl
/-- slices.Max[[]int,int] -/
def b70_0 : LCode :=
 (.seq
 (.seq
 (.reg true [] [] [
 ⟨(some 12), .mv, [(.t 4)], none, []⟩,
 ⟨(some 13), .mv, [(.t 0)], none, []⟩,
 ⟨(some 14), .len, [(.t 13)], none, []⟩,
 ⟨(some 15), (.bin 0 .lss), [(.t 12), (.t 14)], none, []⟩] 0 [0, 3, 4, 15])
 (.cond (.t 15)
 .skip
 (.exit 0)))
 (.seq
 (.block 1
 (.reg true [] [] [
 ⟨(some 18), .mv, [(.t 3)], none, []⟩,
 ⟨(some 19), .mv, [(.t 0)], none, []⟩,
 ⟨(some 20), .mv, [(.t 4)], none, []⟩,
 ⟨(some 21), (.ixs 1), [(.t 19), (.t 20)], none, []⟩,
 ⟨(some 22), (.load none), [(.t 21)], none, []⟩,
 ⟨(some 23), .max, [(.t 18), (.t 22)], none, []⟩,
 ⟨(some 3), .mv, [(.t 23)], none, []⟩] 0 [0, 3, 4]))
 (.reg true [] [] [
 ⟨(some 16), .mv, [(.t 4)], none, []⟩,
 ⟨(some 17), (.bin 0 .add), [(.t 16), (.c (.int .i64 1))], none, []⟩,
 ⟨(some 4), .mv, [(.t 17)], none, []⟩] 0 [0, 3, 4])))
def l70 : LFun := ⟨1, 25, [],
 (.seq
 (.reg false [] [] [
 ⟨(some 2), .mv, [(.c (.int .i64 0))], none, []⟩] 0 [0])
 (.seq
 (.seq
 (.reg false [] [] [
 ⟨(some 5), .mv, [(.t 0)], none, []⟩,
 ⟨(some 6), .len, [(.t 5)], none, []⟩,
 ⟨(some 7), (.bin 0 .lss), [(.t 6), (.c (.int .i64 1))], none, []⟩] 0 [0, 7])
 (.cond (.t 7)
 (.reg false [] [] [
 ⟨none, .bad, [], none, []⟩,
 ⟨none, .bad, [], none, []⟩] 0 [0])
 .skip))
 (.seq
 (.reg false [] [] [
 ⟨(some 9), .mv, [(.t 0)], none, []⟩,
 ⟨(some 10), (.ixs 1), [(.t 9), (.c (.int .i64 0))], none, []⟩,
 ⟨(some 11), (.load none), [(.t 10)], none, []⟩,
 ⟨(some 3), .mv, [(.t 11)], none, []⟩] 0 [0, 3])
 (.seq
 (.seq
 (.reg false [] [] [
 ⟨(some 4), .mv, [(.c (.int .i64 1))], none, []⟩] 0 [0, 3, 4])
 (.block 0
 (.loop b70_0)))
 (.seq
 (.reg false [] [] [
 ⟨(some 24), .mv, [(.t 3)], none, []⟩,
 ⟨(some 2), .mv, [(.t 24)], none, []⟩] 0 [2])
 .ret))))),
 [(.t 2)]⟩
theorem c70 : funC Try.prog [(0, [0]), (1, [0, 7]), (2, [0]), (3, [0, 3]), (4, [0, 3, 4]), (5, [0, 3, 4, 15]), (6, [0, 3, 4]), (7, [0, 3, 4]), (8, [2])] Try.f70 = some (unF l70) := by kernel_rfl
/-- (acme/fit.heights).needs -/
def l71 : LFun := ⟨5, 40, [],
 (.seq
 (.reg false [5, 6, 7, 8, 9, 10] [5, 6, 7, 8, 9, 10] [
 ⟨(some 5), .box, [(.t 0)], none, []⟩,
 ⟨(some 6), .box, [(.t 1)], none, []⟩,
 ⟨(some 7), .box, [(.t 2)], none, []⟩,
 ⟨(some 8), .box, [(.t 3)], none, []⟩,
 ⟨(some 9), .box, [(.t 4)], none, []⟩,
 ⟨(some 10), (.alloc [(.int .i64 0), (.int .i64 0)]), [], none, []⟩] 0 [5, 6, 7, 8, 9, 10])
 (.seq
 (.reg false [] [] [
 ⟨(some 11), (.fa 0), [(.t 7)], none, [13, 14, 17, 18, 19, 20, 21, 22, 23, 25, 26, 27, 28, 29, 30, 31, 32, 33, 34, 35, 36, 37, 38]⟩,
 ⟨(some 12), (.load none), [(.t 11)], none, [13, 14, 17, 18, 19, 20, 21, 22, 23, 25, 26, 27, 28, 29, 30, 31, 32, 33, 34, 35, 36, 37, 38]⟩,
 ⟨(some 13), (.fa 0), [(.t 6)], none, [11, 12, 17, 18, 19, 20, 21, 22, 23, 25, 26, 27, 28, 29, 30, 31, 32, 33, 34, 35, 36, 37, 38]⟩,
 ⟨(some 14), (.load none), [(.t 13)], none, [11, 12, 17, 18, 19, 20, 21, 22, 23, 25, 26, 27, 28, 29, 30, 31, 32, 33, 34, 35, 36, 37, 38]⟩,
 ⟨(some 15), (.bin 0 .sub), [(.t 12), (.t 14)], none, [17, 18, 19, 20, 21, 22, 23, 25, 26, 27, 28, 29, 30, 31, 32, 33, 34, 35, 36, 37, 38]⟩,
 ⟨(some 16), (.bin 0 .mul), [(.c (.int .i64 1000)), (.t 15)], none, [17, 18, 19, 20, 21, 22, 23, 25, 26, 27, 28, 29, 30, 31, 32, 33, 34, 35, 36, 37, 38]⟩,
 ⟨(some 17), (.load (some 2)), [(.t 5)], none, [11, 12, 13, 14, 15, 16, 18, 19, 20, 21, 22, 25, 26, 27, 28, 29, 30, 31, 32, 33, 34, 35, 36]⟩,
 ⟨(some 18), (.fa 1), [(.t 9)], none, [11, 12, 13, 14, 15, 16, 17, 20, 21, 25, 26, 27, 28, 29, 30, 31, 32, 33, 34, 35, 36]⟩,
 ⟨(some 19), (.load none), [(.t 18)], none, [11, 12, 13, 14, 15, 16, 17, 20, 21, 25, 26, 27, 28, 29, 30, 31, 32, 33, 34, 35, 36]⟩,
 ⟨(some 20), (.fa 1), [(.t 8)], none, [11, 12, 13, 14, 15, 16, 17, 18, 19, 25, 26, 27, 28, 29, 30, 31, 32, 33, 34, 35, 36]⟩,
 ⟨(some 21), (.load none), [(.t 20)], none, [11, 12, 13, 14, 15, 16, 17, 18, 19, 25, 26, 27, 28, 29, 30, 31, 32, 33, 34, 35, 36]⟩,
 ⟨(some 22), (.bin 0 .sub), [(.t 19), (.t 21)], none, [11, 12, 13, 14, 15, 16, 17, 25, 26, 27, 28, 29, 30, 31, 32, 33, 34, 35, 36]⟩,
 ⟨(some 23), (.call true false false), [(.f 69), (.t 17), (.t 22)], none, [11, 12, 13, 14, 15, 16, 25, 26, 27, 28, 29, 30, 31, 32, 33, 34, 35, 36]⟩,
 ⟨(some 24), (.bin 0 .add), [(.t 16), (.t 23)], none, [25, 26, 27, 28, 29, 30, 31, 32, 33, 34, 35, 36, 37, 38]⟩,
 ⟨(some 25), (.fa 1), [(.t 7)], none, [11, 12, 13, 14, 15, 16, 17, 18, 19, 20, 21, 22, 23, 24, 27, 28, 31, 32, 33, 34, 35, 36, 37]⟩,
 ⟨(some 26), (.load none), [(.t 25)], none, [11, 12, 13, 14, 15, 16, 17, 18, 19, 20, 21, 22, 23, 24, 27, 28, 31, 32, 33, 34, 35, 36, 37]⟩,
 ⟨(some 27), (.fa 1), [(.t 6)], none, [11, 12, 13, 14, 15, 16, 17, 18, 19, 20, 21, 22, 23, 24, 25, 26, 31, 32, 33, 34, 35, 36, 37]⟩,
 ⟨(some 28), (.load none), [(.t 27)], none, [11, 12, 13, 14, 15, 16, 17, 18, 19, 20, 21, 22, 23, 24, 25, 26, 31, 32, 33, 34, 35, 36, 37]⟩,
 ⟨(some 29), (.bin 0 .sub), [(.t 26), (.t 28)], none, [11, 12, 13, 14, 15, 16, 17, 18, 19, 20, 21, 22, 23, 24, 31, 32, 33, 34, 35, 36, 37]⟩,
 ⟨(some 30), (.bin 0 .mul), [(.c (.int .i64 1000)), (.t 29)], none, [11, 12, 13, 14, 15, 16, 17, 18, 19, 20, 21, 22, 23, 24, 31, 32, 33, 34, 35, 36, 37]⟩,
 ⟨(some 31), (.load (some 2)), [(.t 5)], none, [11, 12, 13, 14, 15, 16, 17, 18, 19, 20, 21, 22, 23, 24, 25, 26, 27, 28, 29, 30, 32, 33, 34, 35, 36]⟩,
 ⟨(some 32), (.fa 2), [(.t 9)], none, [11, 12, 13, 14, 15, 16, 17, 18, 19, 20, 21, 22, 23, 24, 25, 26, 27, 28, 29, 30, 31, 34, 35]⟩,
 ⟨(some 33), (.load none), [(.t 32)], none, [11, 12, 13, 14, 15, 16, 17, 18, 19, 20, 21, 22, 23, 24, 25, 26, 27, 28, 29, 30, 31, 34, 35]⟩,
 ⟨(some 34), (.fa 2), [(.t 8)], none, [11, 12, 13, 14, 15, 16, 17, 18, 19, 20, 21, 22, 23, 24, 25, 26, 27, 28, 29, 30, 31, 32, 33]⟩,
 ⟨(some 35), (.load none), [(.t 34)], none, [11, 12, 13, 14, 15, 16, 17, 18, 19, 20, 21, 22, 23, 24, 25, 26, 27, 28, 29, 30, 31, 32, 33]⟩,
 ⟨(some 36), (.bin 0 .sub), [(.t 33), (.t 35)], none, [11, 12, 13, 14, 15, 16, 17, 18, 19, 20, 21, 22, 23, 24, 25, 26, 27, 28, 29, 30, 31]⟩,
 ⟨(some 37), (.call true false false), [(.f 69), (.t 31), (.t 36)], none, [11, 12, 13, 14, 15, 16, 24, 25, 26, 27, 28, 29, 30]⟩,
 ⟨(some 38), (.bin 0 .sub), [(.t 30), (.t 37)], none, [11, 12, 13, 14, 15, 16, 24]⟩,
 ⟨(some 39), (.build [(.int .i64 0), (.int .i64 0)] [(0, 1), (1, 1)]), [(.t 24), (.t 38)], none, []⟩,
 ⟨none, (.store 2 (some 10)), [(.t 10), (.t 39)], none, []⟩] 0 [10])
 .ret)),
 [(.c 10 (some 2))]⟩
theorem c71 : funC Try.prog [(0, [5, 6, 7, 8, 9, 10]), (1, [10])] Try.f71 = some (unF l71) := by kernel_rfl
/-- acme/zone.isLong[int] -/
def l72 : LFun := ⟨2, 9, [],
 (.seq
 (.reg false [] [] [
 ⟨(some 4), .mv, [(.c (.bool false))], none, []⟩] 0 [0, 1])
 (.seq
 (.reg false [] [] [
 ⟨(some 5), .mv, [(.t 0)], none, []⟩,
 ⟨(some 6), .len, [(.t 5)], none, []⟩,
 ⟨(some 7), .mv, [(.t 1)], none, []⟩,
 ⟨(some 8), (.bin 0 .gtr), [(.t 6), (.t 7)], none, []⟩,
 ⟨(some 4), .mv, [(.t 8)], none, []⟩] 0 [4])
 .ret)),
 [(.t 4)]⟩
theorem c72 : funC Try.prog [(0, [0, 1]), (1, [4])] Try.f72 = some (unF l72) := by kernel_rfl
/-- acme/zone.isLong[[]int] -/
def l73 : LFun := ⟨2, 9, [],
 (.seq
 (.reg false [] [] [
 ⟨(some 4), .mv, [(.c (.bool false))], none, []⟩] 0 [0, 1])
 (.seq
 (.reg false [] [] [
 ⟨(some 5), .mv, [(.t 0)], none, []⟩,
 ⟨(some 6), .len, [(.t 5)], none, []⟩,
 ⟨(some 7), .mv, [(.t 1)], none, []⟩,
 ⟨(some 8), (.bin 0 .gtr), [(.t 6), (.t 7)], none, []⟩,
 ⟨(some 4), .mv, [(.t 8)], none, []⟩] 0 [4])
 .ret)),
 [(.t 4)]⟩
theorem c73 : funC Try.prog [(0, [0, 1]), (1, [4])] Try.f73 = some (unF l73) := by kernel_rfl
/-- slices.ContainsFunc[[][]int,[]int] -/
def l74 : LFun := ⟨2, 9, [],
 (.seq
 (.reg false [] [] [
 ⟨(some 4), .mv, [(.c (.bool false))], none, []⟩] 0 [0, 1])
 (.seq
 (.reg false [] [] [
 ⟨(some 5), .mv, [(.t 0)], none, []⟩,
 ⟨(some 6), .mv, [(.t 1)], none, []⟩,
 ⟨(some 7), (.call false false false), [(.f 95), (.t 5), (.t 6)], none, []⟩,
 ⟨(some 8), (.bin 0 .geq), [(.t 7), (.c (.int .i64 0))], none, []⟩,
 ⟨(some 4), .mv, [(.t 8)], none, []⟩] 0 [4])
 .ret)),
 [(.t 4)]⟩
theorem c74 : funC Try.prog [(0, [0, 1]), (1, [4])] Try.f74 = some (unF l74) := by kernel_rfl
/-- acme/zone.Check$1 -/
def l75 : LFun := ⟨2, 10, [],
 (.seq
 (.reg false [] [] [
 ⟨(some 3), .mv, [(.c (.bool false))], none, []⟩] 0 [0, 1])
 (.seq
 (.reg false [] [] [
 ⟨(some 4), .mv, [(.t 0)], none, []⟩,
 ⟨(some 5), .len, [(.t 4)], none, []⟩,
 ⟨(some 6), (.fa 0), [(.t 1)], none, []⟩,
 ⟨(some 7), (.load none), [(.t 6)], none, []⟩,
 ⟨(some 8), .len, [(.t 7)], none, []⟩,
 ⟨(some 9), (.bin 0 .neq), [(.t 5), (.t 8)], none, []⟩,
 ⟨(some 3), .mv, [(.t 9)], none, []⟩] 0 [3])
 .ret)),
 [(.t 3)]⟩
theorem c75 : funC Try.prog [(0, [0, 1]), (1, [3])] Try.f75 = some (unF l75) := by kernel_rfl
/-- slices.Concat[[]int,int] -/
def b76_0 : LCode :=
 (.seq
 (.reg true [] [] [
 ⟨(some 12), (.bin 0 .lss), [(.t 11), (.t 10)], none, []⟩] 0 [0, 3, 9, 10, 11, 12])
 (.seq
 (.cond (.t 12)
 .skip
 (.exit 0))
 (.seq
 (.block 1
 (.seq
 (.reg true [] [] [
 ⟨(some 13), (.ixs 1), [(.t 9), (.t 11)], none, []⟩,
 ⟨(some 14), (.load none), [(.t 13)], none, []⟩,
 ⟨(some 5), .mv, [(.t 14)], none, []⟩] 0 [0, 3, 5, 9, 10, 11])
 (.seq
 (.reg true [] [] [
 ⟨(some 15), .mv, [(.t 3)], none, []⟩,
 ⟨(some 16), .mv, [(.t 5)], none, []⟩,
 ⟨(some 17), .len, [(.t 16)], none, []⟩,
 ⟨(some 18), (.bin 0 .add), [(.t 15), (.t 17)], none, []⟩,
 ⟨(some 3), .mv, [(.t 18)], none, []⟩] 0 [0, 3, 9, 10, 11])
 (.seq
 (.reg true [] [] [
 ⟨(some 19), .mv, [(.t 3)], none, []⟩,
 ⟨(some 20), (.bin 0 .lss), [(.t 19), (.c (.int .i64 0))], none, []⟩] 0 [0, 3, 9, 10, 11, 20])
 (.cond (.t 20)
 (.reg true [] [] [
 ⟨none, .bad, [], none, []⟩,
 ⟨none, .bad, [], none, []⟩] 0 [0, 3, 9, 10, 11])
 .skip)))))
 (.reg true [] [] [
 ⟨(some 22), (.bin 0 .add), [(.t 11), (.c (.int .i64 1))], none, []⟩,
 ⟨(some 11), .mv, [(.t 22)], none, []⟩] 0 [0, 3, 9, 10, 11]))))
def b76_1 : LCode :=
 (.seq
 (.reg true [] [] [
 ⟨(some 28), (.bin 0 .lss), [(.t 27), (.t 26)], none, []⟩] 0 [6, 25, 26, 27, 28])
 (.seq
 (.cond (.t 28)
 .skip
 (.exit 2))
 (.seq
 (.block 3
 (.seq
 (.reg true [] [] [
 ⟨(some 29), (.ixs 1), [(.t 25), (.t 27)], none, []⟩,
 ⟨(some 30), (.load none), [(.t 29)], none, []⟩,
 ⟨(some 8), .mv, [(.t 30)], none, []⟩] 0 [6, 8, 25, 26, 27])
 (.reg true [33] [] [
 ⟨(some 31), .mv, [(.t 6)], none, []⟩,
 ⟨(some 32), .mv, [(.t 8)], none, []⟩,
 ⟨(some 33), (.append false 1 8), [(.t 31), (.t 32)], none, []⟩,
 ⟨(some 6), .mv, [(.t 33)], none, []⟩] 0 [6, 25, 26, 27])))
 (.reg true [] [] [
 ⟨(some 34), (.bin 0 .add), [(.t 27), (.c (.int .i64 1))], none, []⟩,
 ⟨(some 27), .mv, [(.t 34)], none, []⟩] 0 [6, 25, 26, 27]))))
def l76 : LFun := ⟨1, 36, [],
 (.seq
 (.reg false [] [] [
 ⟨(some 2), .mv, [(.c .nil)], none, []⟩] 0 [0])
 (.seq
 (.reg false [] [] [
 ⟨(some 3), .mv, [(.c (.int .i64 0))], none, []⟩] 0 [0, 3])
 (.seq
 (.seq
 (.reg false [] [] [
 ⟨(some 9), .mv, [(.t 0)], none, []⟩,
 ⟨(some 10), .len, [(.t 9)], none, []⟩,
 ⟨(some 11), .mv, [(.c (.int .i64 0))], none, []⟩] 0 [0, 3, 9, 10, 11])
 (.block 0
 (.loop b76_0)))
 (.seq
 (.reg false [24] [24] [
 ⟨(some 23), .mv, [(.t 3)], none, []⟩,
 ⟨(some 24), (.call false false true), [(.f 96), (.c .nil), (.t 23)], none, []⟩,
 ⟨(some 6), .mv, [(.t 24)], none, []⟩] 0 [0, 6])
 (.seq
 (.seq
 (.reg false [] [] [
 ⟨(some 25), .mv, [(.t 0)], none, []⟩,
 ⟨(some 26), .len, [(.t 25)], none, []⟩,
 ⟨(some 27), .mv, [(.c (.int .i64 0))], none, []⟩] 0 [6, 25, 26, 27])
 (.block 2
 (.loop b76_1)))
 (.seq
 (.reg false [] [] [
 ⟨(some 35), .mv, [(.t 6)], none, []⟩,
 ⟨(some 2), .mv, [(.t 35)], none, []⟩] 0 [2])
 .ret)))))),
 [(.t 2)]⟩
theorem c76 : funC Try.prog [(0, [0]), (1, [0, 3]), (2, [0, 3, 9, 10, 11]), (3, [0, 3, 9, 10, 11, 12]), (4, [0, 3, 5, 9, 10, 11]), (5, [0, 3, 9, 10, 11]), (6, [0, 3, 9, 10, 11, 20]), (7, [0, 3, 9, 10, 11]), (8, [0, 3, 9, 10, 11]), (9, [0, 6]), (10, [6, 25, 26, 27]), (11, [6, 25, 26, 27, 28]), (12, [6, 8, 25, 26, 27]), (13, [6, 25, 26, 27]), (14, [6, 25, 26, 27]), (15, [2])] Try.f76 = some (unF l76) := by kernel_rfl
/-- slices.IndexFunc[[]int,int] -/
def b77_0 : LCode :=
 (.seq
 (.reg true [] [] [
 ⟨(some 9), (.bin 0 .lss), [(.t 8), (.t 7)], none, []⟩] 0 [0, 1, 7, 8, 9])
 (.seq
 (.cond (.t 9)
 .skip
 (.exit 0))
 (.seq
 (.block 1
 (.seq
 (.reg true [] [] [
 ⟨(some 10), .mv, [(.t 8)], none, []⟩,
 ⟨(some 5), .mv, [(.t 10)], none, []⟩] 0 [0, 1, 5, 7, 8])
 (.seq
 (.reg true [] [] [
 ⟨(some 11), .mv, [(.t 1)], none, []⟩,
 ⟨(some 12), .mv, [(.t 0)], none, []⟩,
 ⟨(some 13), .mv, [(.t 5)], none, []⟩,
 ⟨(some 14), (.ixs 1), [(.t 12), (.t 13)], none, []⟩,
 ⟨(some 15), (.load none), [(.t 14)], none, []⟩,
 ⟨(some 16), (.call false false false), [(.t 11), (.t 15)], none, []⟩] 0 [0, 1, 5, 7, 8, 16])
 (.cond (.t 16)
 (.seq
 (.reg true [] [] [
 ⟨(some 17), .mv, [(.t 5)], none, []⟩,
 ⟨(some 4), .mv, [(.t 17)], none, []⟩] 0 [4])
 .ret)
 .skip))))
 (.reg true [] [] [
 ⟨(some 18), (.bin 0 .add), [(.t 8), (.c (.int .i64 1))], none, []⟩,
 ⟨(some 8), .mv, [(.t 18)], none, []⟩] 0 [0, 1, 7, 8]))))
def l77 : LFun := ⟨2, 19, [],
 (.seq
 (.reg false [] [] [
 ⟨(some 4), .mv, [(.c (.int .i64 0))], none, []⟩] 0 [0, 1])
 (.seq
 (.seq
 (.reg false [] [] [
 ⟨(some 6), .mv, [(.t 0)], none, []⟩,
 ⟨(some 7), .len, [(.t 6)], none, []⟩,
 ⟨(some 8), .mv, [(.c (.int .i64 0))], none, []⟩] 0 [0, 1, 7, 8])
 (.block 0
 (.loop b77_0)))
 (.seq
 (.reg false [] [] [
 ⟨(some 4), .mv, [(.c (.int .i64 (-1)))], none, []⟩] 0 [4])
 .ret))),
 [(.t 4)]⟩
theorem c77 : funC Try.prog [(0, [0, 1]), (1, [0, 1, 7, 8]), (2, [0, 1, 7, 8, 9]), (3, [0, 1, 5, 7, 8]), (4, [0, 1, 5, 7, 8, 16]), (5, [4]), (6, [0, 1, 7, 8]), (7, [4])] Try.f77 = some (unF l77) := by kernel_rfl
/-- (acme/zone.table).step$1 -/
def l78 : LFun := ⟨2, 7, [],
 (.seq
 (.reg false [] [] [
 ⟨(some 3), .mv, [(.c (.bool false))], none, []⟩] 0 [0, 1])
 (.seq
 (.reg false [] [] [
 ⟨(some 4), (.load none), [(.t 1)], none, []⟩,
 ⟨(some 5), .mv, [(.t 0)], none, []⟩,
 ⟨(some 6), (.bin 0 .leq), [(.t 4), (.t 5)], none, []⟩,
 ⟨(some 3), .mv, [(.t 6)], none, []⟩] 0 [3])
 .ret)),
 [(.t 3)]⟩
theorem c78 : funC Try.prog [(0, [0, 1]), (1, [3])] Try.f78 = some (unF l78) := by kernel_rfl
/-- acme/zone.within$1 -/
def l79 : LFun := ⟨3, 13, [],
 (.seq
 (.reg false [] [] [
 ⟨(some 4), .mv, [(.c (.bool false))], none, []⟩] 0 [0, 1, 2])
 (.seq
 (.reg false [] [] [
 ⟨(some 5), .mv, [(.t 0)], none, []⟩,
 ⟨(some 6), (.load none), [(.t 1)], none, []⟩,
 ⟨(some 7), (.bin 0 .lss), [(.t 5), (.t 6)], none, []⟩,
 ⟨(some 8), .mv, [(.t 7)], none, []⟩,
 ⟨(some 9), .mv, [(.t 0)], (some (8, false)), []⟩,
 ⟨(some 10), (.load none), [(.t 2)], (some (8, false)), []⟩,
 ⟨(some 11), (.bin 0 .gtr), [(.t 9), (.t 10)], (some (8, false)), []⟩,
 ⟨(some 12), .pick, [(.t 8), (.c (.bool true)), (.t 11)], none, []⟩,
 ⟨(some 4), .mv, [(.t 12)], none, []⟩] 0 [4])
 .ret)),
 [(.t 4)]⟩
theorem c79 : funC Try.prog [(0, [0, 1, 2]), (1, [4])] Try.f79 = some (unF l79) := by kernel_rfl
/-- (acme/zone.span).group -/
def l80 : LFun := ⟨3, 38, [],
 (.seq
 (.reg false [3, 6] [3, 6] [
 ⟨(some 3), .box, [(.t 0)], none, []⟩,
 ⟨(some 6), (.alloc [(.int .i64 0), (.int .i64 0)]), [], none, []⟩] 0 [1, 2, 3, 6])
 (.seq
 (.reg false [] [] [
 ⟨(some 8), (.fa 0), [(.t 3)], none, []⟩,
 ⟨(some 9), (.fa 1), [(.t 8)], none, []⟩,
 ⟨(some 10), (.load none), [(.t 9)], none, []⟩,
 ⟨(some 11), (.fa 0), [(.t 3)], none, []⟩,
 ⟨(some 12), (.fa 0), [(.t 11)], none, []⟩,
 ⟨(some 13), (.load none), [(.t 12)], none, []⟩,
 ⟨(some 14), (.bin 0 .sub), [(.t 10), (.t 13)], none, []⟩,
 ⟨(some 15), (.bin 0 .add), [(.t 14), (.c (.int .i64 1))], none, []⟩,
 ⟨(some 7), .mv, [(.t 15)], none, []⟩] 0 [1, 2, 3, 6, 7])
 (.seq
 (.reg false [] [] [
 ⟨(some 16), (.fa 0), [(.t 3)], none, [19, 20, 21, 22, 23, 25, 26, 27, 28, 29, 30, 31, 32, 33, 34, 35]⟩,
 ⟨(some 17), (.fa 0), [(.t 16)], none, [19, 20, 21, 22, 23, 25, 26, 27, 28, 29, 30, 31, 32, 33, 34, 35]⟩,
 ⟨(some 18), (.load none), [(.t 17)], none, [19, 20, 21, 22, 23, 25, 26, 27, 28, 29, 30, 31, 32, 33, 34, 35]⟩,
 ⟨(some 19), .mv, [(.t 1)], none, [16, 17, 18, 20, 22, 25, 26, 27, 28, 29, 30, 31, 32, 33, 34, 35]⟩,
 ⟨(some 20), .mv, [(.t 7)], none, [16, 17, 18, 19, 22, 25, 26, 27, 28, 29, 30, 31, 32, 33, 34, 35]⟩,
 ⟨(some 21), (.bin 0 .mul), [(.t 19), (.t 20)], none, [16, 17, 18, 22, 25, 26, 27, 28, 29, 30, 31, 32, 33, 34, 35]⟩,
 ⟨(some 22), .mv, [(.t 2)], none, [16, 17, 18, 19, 20, 21, 25, 26, 27, 28, 29, 30, 31, 32, 33, 34, 35]⟩,
 ⟨(some 23), (.bin 0 .quo), [(.t 21), (.t 22)], none, [16, 17, 18, 25, 26, 27, 28, 29, 30, 31, 32, 33, 34, 35]⟩,
 ⟨(some 24), (.bin 0 .add), [(.t 18), (.t 23)], none, [25, 26, 27, 28, 29, 30, 31, 32, 33, 34, 35]⟩,
 ⟨(some 25), (.fa 0), [(.t 3)], none, [16, 17, 18, 19, 20, 21, 22, 23, 24, 28, 29, 30, 31, 32, 33]⟩,
 ⟨(some 26), (.fa 0), [(.t 25)], none, [16, 17, 18, 19, 20, 21, 22, 23, 24, 28, 29, 30, 31, 32, 33]⟩,
 ⟨(some 27), (.load none), [(.t 26)], none, [16, 17, 18, 19, 20, 21, 22, 23, 24, 28, 29, 30, 31, 32, 33]⟩,
 ⟨(some 28), .mv, [(.t 1)], none, [16, 17, 18, 19, 20, 21, 22, 23, 24, 25, 26, 27, 30, 32]⟩,
 ⟨(some 29), (.bin 0 .add), [(.t 28), (.c (.int .i64 1))], none, [16, 17, 18, 19, 20, 21, 22, 23, 24, 25, 26, 27, 30, 32]⟩,
 ⟨(some 30), .mv, [(.t 7)], none, [16, 17, 18, 19, 20, 21, 22, 23, 24, 25, 26, 27, 28, 29, 32]⟩,
 ⟨(some 31), (.bin 0 .mul), [(.t 29), (.t 30)], none, [16, 17, 18, 19, 20, 21, 22, 23, 24, 25, 26, 27, 32]⟩,
 ⟨(some 32), .mv, [(.t 2)], none, [16, 17, 18, 19, 20, 21, 22, 23, 24, 25, 26, 27, 28, 29, 30, 31]⟩,
 ⟨(some 33), (.bin 0 .quo), [(.t 31), (.t 32)], none, [16, 17, 18, 19, 20, 21, 22, 23, 24, 25, 26, 27]⟩,
 ⟨(some 34), (.bin 0 .add), [(.t 27), (.t 33)], none, [16, 17, 18, 19, 20, 21, 22, 23, 24]⟩,
 ⟨(some 35), (.bin 0 .sub), [(.t 34), (.c (.int .i64 1))], none, [16, 17, 18, 19, 20, 21, 22, 23, 24]⟩,
 ⟨(some 36), (.build [(.int .i64 0), (.int .i64 0)] [(0, 1), (1, 1)]), [(.t 24), (.t 35)], none, []⟩,
 ⟨(some 37), (.build [(.int .i64 0), (.int .i64 0)] [(0, 2)]), [(.t 36)], none, []⟩,
 ⟨none, (.store 2 (some 6)), [(.t 6), (.t 37)], none, []⟩] 0 [6])
 .ret))),
 [(.c 6 (some 2))]⟩
theorem c80 : funC Try.prog [(0, [1, 2, 3, 6]), (1, [1, 2, 3, 6, 7]), (2, [6])] Try.f80 = some (unF l80) := by kernel_rfl
/-- (acme/zone.span).isIn -/
def l81 : LFun := ⟨2, 19, [],
 (.seq
 (.reg false [2, 3] [2, 3] [
 ⟨(some 2), .box, [(.t 0)], none, []⟩,
 ⟨(some 3), .box, [(.t 1)], none, []⟩,
 ⟨(some 4), .mv, [(.c (.bool false))], none, []⟩] 0 [2, 3])
 (.seq
 (.reg false [] [] [
 ⟨(some 5), (.fa 0), [(.t 2)], none, []⟩,
 ⟨(some 6), (.fa 0), [(.t 5)], none, []⟩,
 ⟨(some 7), (.load none), [(.t 6)], none, []⟩,
 ⟨(some 8), (.fa 0), [(.t 3)], none, []⟩,
 ⟨(some 9), (.load none), [(.t 8)], none, []⟩,
 ⟨(some 10), (.bin 0 .geq), [(.t 7), (.t 9)], none, []⟩,
 ⟨(some 11), .mv, [(.t 10)], none, []⟩,
 ⟨(some 12), (.fa 0), [(.t 2)], (some (11, true)), []⟩,
 ⟨(some 13), (.fa 1), [(.t 12)], (some (11, true)), []⟩,
 ⟨(some 14), (.load none), [(.t 13)], (some (11, true)), []⟩,
 ⟨(some 15), (.fa 1), [(.t 3)], (some (11, true)), []⟩,
 ⟨(some 16), (.load none), [(.t 15)], (some (11, true)), []⟩,
 ⟨(some 17), (.bin 0 .leq), [(.t 14), (.t 16)], (some (11, true)), []⟩,
 ⟨(some 18), .pick, [(.t 11), (.t 17), (.c (.bool false))], none, []⟩,
 ⟨(some 4), .mv, [(.t 18)], none, []⟩] 0 [4])
 .ret)),
 [(.t 4)]⟩
theorem c81 : funC Try.prog [(0, [2, 3]), (1, [4])] Try.f81 = some (unF l81) := by kernel_rfl
/-- acme/die.Check -/
def b82_0 : LCode :=
 (.seq
 (.reg true [] [] [
 ⟨(some 24), (.bin 0 .lss), [(.t 23), (.t 22)], none, []⟩] 0 [1, 2, 21, 22, 23, 24])
 (.seq
 (.cond (.t 24)
 .skip
 (.exit 1))
 (.seq
 (.block 2
 (.seq
 (.reg true [7] [7] [
 ⟨(some 25), (.ixs 4), [(.t 21), (.t 23)], none, []⟩,
 ⟨(some 26), (.load (some 4)), [(.t 25)], none, []⟩,
 ⟨(some 7), (.alloc [(.int .i64 0), (.int .i64 0), (.int .i64 0), (.int .i64 0)]), [], none, []⟩,
 ⟨none, (.store 4 none), [(.t 7), (.t 26)], none, []⟩] 0 [1, 2, 7, 21, 22, 23])
 (.seq
 (.seq
 (.reg true [29] [29] [
 ⟨(some 27), (.fa 0), [(.t 7)], none, []⟩,
 ⟨(some 28), (.load none), [(.t 27)], none, []⟩,
 ⟨(some 29), (.bsl 1 [(.int .i64 0)] 1 [0]), [(.t 28)], none, []⟩,
 ⟨(some 30), (.call false false false), [(.f 56), (.c (.int .i64 1)), (.c (.int .i64 10000)), (.t 29)], none, []⟩,
 ⟨(some 31), (.un .not), [(.t 30)], none, []⟩,
 ⟨(some 32), .mv, [(.t 31)], none, []⟩,
 ⟨(some 33), (.fa 2), [(.t 7)], (some (32, false)), []⟩,
 ⟨(some 34), (.load (some 2)), [(.t 33)], (some (32, false)), []⟩,
 ⟨(some 35), (.call false false false), [(.f 98), (.t 34)], (some (32, false)), []⟩,
 ⟨(some 36), (.un .not), [(.t 35)], (some (32, false)), []⟩,
 ⟨(some 37), .pick, [(.t 32), (.c (.bool true)), (.t 36)], none, []⟩] 0 [1, 2, 7, 21, 22, 23, 37])
 (.cond (.t 37)
 (.seq
 (.reg true [] [] [
 ⟨(some 4), .mv, [(.c (.int .i64 2))], none, []⟩] 0 [4])
 .ret)
 .skip))
 (.seq
 (.reg true [] [] [
 ⟨(some 38), (.load (some 6)), [(.t 2)], none, []⟩,
 ⟨(some 39), (.fa 1), [(.t 7)], none, []⟩,
 ⟨(some 40), (.load none), [(.t 39)], none, []⟩,
 ⟨(some 41), (.call false false false), [(.f 99), (.t 38), (.t 40)], none, []⟩,
 ⟨(some 8), .mv, [(.t 41)], none, []⟩] 0 [1, 2, 8, 21, 22, 23])
 (.seq
 (.reg true [] [] [
 ⟨(some 42), .mv, [(.t 8)], none, []⟩,
 ⟨(some 43), (.bin 0 .neq), [(.t 42), (.c (.int .i64 0))], none, []⟩] 0 [1, 2, 8, 21, 22, 23, 43])
 (.cond (.t 43)
 (.seq
 (.reg true [] [] [
 ⟨(some 44), .mv, [(.t 8)], none, []⟩,
 ⟨(some 4), .mv, [(.t 44)], none, []⟩] 0 [4])
 .ret)
 .skip))))))
 (.reg true [] [] [
 ⟨(some 45), (.bin 0 .add), [(.t 23), (.c (.int .i64 1))], none, []⟩,
 ⟨(some 23), .mv, [(.t 45)], none, []⟩] 0 [1, 2, 21, 22, 23]))))
def l82 : LFun := ⟨2, 49, [],
 (.seq
 (.reg false [2] [2] [
 ⟨(some 2), .box, [(.t 0)], none, []⟩,
 ⟨(some 4), .mv, [(.c (.int .i64 0))], none, []⟩] 0 [1, 2])
 (.seq
 (.reg false [] [] [
 ⟨(some 9), (.load (some 6)), [(.t 2)], none, []⟩,
 ⟨(some 10), (.call false false false), [(.f 97), (.t 9)], none, []⟩,
 ⟨(some 5), .mv, [(.t 10)], none, []⟩] 0 [1, 2, 5])
 (.seq
 (.block 0
 (.seq
 (.seq
 (.reg false [] [] [
 ⟨(some 12), .mv, [(.t 5)], none, []⟩,
 ⟨(some 13), (.bin 0 .eql), [(.t 12), (.c (.int .i64 5))], none, []⟩,
 ⟨(some 11), .mv, [(.t 13)], none, []⟩] 0 [1, 2, 5, 11])
 (.cond (.t 11)
 .skip
 (.reg false [] [] [
 ⟨(some 14), .mv, [(.t 1)], none, []⟩,
 ⟨(some 15), .len, [(.t 14)], none, []⟩,
 ⟨(some 16), (.bin 0 .gtr), [(.t 15), (.c (.int .i64 40))], none, []⟩,
 ⟨(some 11), .mv, [(.t 16)], none, []⟩] 0 [1, 2, 5, 11])))
 (.cond (.t 11)
 (.seq
 (.reg false [] [] [
 ⟨(some 4), .mv, [(.c (.int .i64 5))], none, []⟩] 0 [4])
 .ret)
 (.seq
 (.reg false [] [] [
 ⟨(some 18), .mv, [(.t 5)], none, []⟩,
 ⟨(some 19), (.bin 0 .neq), [(.t 18), (.c (.int .i64 0))], none, []⟩,
 ⟨(some 17), .mv, [(.t 19)], none, []⟩] 0 [1, 2, 5, 17])
 (.cond (.t 17)
 (.seq
 (.reg false [] [] [
 ⟨(some 20), .mv, [(.t 5)], none, []⟩,
 ⟨(some 4), .mv, [(.t 20)], none, []⟩] 0 [4])
 .ret)
 .skip)))))
 (.seq
 (.seq
 (.reg false [] [] [
 ⟨(some 21), .mv, [(.t 1)], none, []⟩,
 ⟨(some 22), .len, [(.t 21)], none, []⟩,
 ⟨(some 23), .mv, [(.c (.int .i64 0))], none, []⟩] 0 [1, 2, 21, 22, 23])
 (.block 1
 (.loop b82_0)))
 (.seq
 (.seq
 (.reg false [] [] [
 ⟨(some 46), .mv, [(.t 1)], none, []⟩,
 ⟨(some 47), .len, [(.t 46)], none, []⟩,
 ⟨(some 48), (.bin 0 .eql), [(.t 47), (.c (.int .i64 0))], none, []⟩] 0 [48])
 (.cond (.t 48)
 (.seq
 (.reg false [] [] [
 ⟨(some 4), .mv, [(.c (.int .i64 2))], none, []⟩] 0 [4])
 .ret)
 .skip))
 (.seq
 (.reg false [] [] [
 ⟨(some 4), .mv, [(.c (.int .i64 0))], none, []⟩] 0 [4])
 .ret)))))),
 [(.t 4)]⟩
theorem c82 : funC Try.prog [(0, [1, 2]), (1, [1, 2, 5]), (2, [1, 2, 5, 11]), (3, [1, 2, 5, 11]), (4, [4]), (5, [1, 2, 5, 17]), (6, [4]), (7, [1, 2, 21, 22, 23]), (8, [1, 2, 21, 22, 23, 24]), (9, [1, 2, 7, 21, 22, 23]), (10, [1, 2, 7, 21, 22, 23, 37]), (11, [4]), (12, [1, 2, 8, 21, 22, 23]), (13, [1, 2, 8, 21, 22, 23, 43]), (14, [4]), (15, [1, 2, 21, 22, 23]), (16, [48]), (17, [4]), (18, [4])] Try.f82 = some (unF l82) := by kernel_rfl
/-- acme/die.up -/
def b83_0 : LCode :=
 (.seq
 (.reg true [] [] [
 ⟨(some 17), (.bin 0 .lss), [(.t 16), (.t 15)], none, []⟩] 0 [2, 4, 6, 14, 15, 16, 17])
 (.seq
 (.cond (.t 17)
 .skip
 (.exit 0))
 (.seq
 (.block 1
 (.seq
 (.reg true [8] [8] [
 ⟨(some 18), (.ixs 4), [(.t 14), (.t 16)], none, []⟩,
 ⟨(some 19), (.load (some 4)), [(.t 18)], none, []⟩,
 ⟨(some 8), (.alloc [(.int .i64 0), (.int .i64 0), (.int .i64 0), (.int .i64 0)]), [], none, []⟩,
 ⟨none, (.store 4 none), [(.t 8), (.t 19)], none, []⟩] 0 [2, 4, 6, 8, 14, 15, 16])
 (.seq
 (.reg true [] [] [
 ⟨(some 20), (.fa 2), [(.t 8)], none, []⟩,
 ⟨(some 21), (.load (some 2)), [(.t 20)], none, []⟩,
 ⟨(some 22), (.call false false false), [(.f 88), (.t 21)], none, []⟩,
 ⟨(some 23), (.fa 2), [(.t 8)], none, []⟩,
 ⟨none, (.store 2 none), [(.t 23), (.t 22)], none, []⟩] 0 [2, 4, 6, 8, 14, 15, 16])
 (.reg true [26, 27] [26] [
 ⟨(some 24), .mv, [(.t 6)], none, []⟩,
 ⟨(some 25), (.load (some 4)), [(.t 8)], none, []⟩,
 ⟨(some 26), (.bsl 4 [(.int .i64 0), (.int .i64 0), (.int .i64 0), (.int .i64 0)] 1 [0]), [(.t 25)], none, []⟩,
 ⟨(some 27), (.append false 4 32), [(.t 24), (.t 26)], none, []⟩,
 ⟨(some 6), .mv, [(.t 27)], none, []⟩] 0 [2, 4, 6, 14, 15, 16]))))
 (.reg true [] [] [
 ⟨(some 28), (.bin 0 .add), [(.t 16), (.c (.int .i64 1))], none, []⟩,
 ⟨(some 16), .mv, [(.t 28)], none, []⟩] 0 [2, 4, 6, 14, 15, 16]))))
def l83 : LFun := ⟨2, 39, [],
 (.seq
 (.reg false [2, 4] [2, 4] [
 ⟨(some 2), .box, [(.t 0)], none, []⟩,
 ⟨(some 4), (.alloc [(.bool false), (.int .i64 0), (.int .i64 0), (.int .i64 0), (.int .i64 0), (.sl none 2 [])]), [], none, []⟩,
 ⟨(some 5), .mv, [(.c (.sl none 4 []))], none, []⟩] 0 [1, 2, 4])
 (.seq
 (.seq
 (.reg false [] [] [
 ⟨(some 9), (.fa 0), [(.t 2)], none, []⟩,
 ⟨(some 10), (.load none), [(.t 9)], none, []⟩,
 ⟨(some 11), (.un .not), [(.t 10)], none, []⟩] 0 [1, 2, 4, 11])
 (.cond (.t 11)
 (.seq
 (.reg false [] [] [
 ⟨(some 12), (.load (some 6)), [(.t 2)], none, []⟩,
 ⟨(some 13), .mv, [(.t 1)], none, []⟩,
 ⟨none, (.store 6 none), [(.t 4), (.t 12)], none, []⟩,
 ⟨(some 5), .mv, [(.t 13)], none, []⟩] 0 [4, 5])
 .ret)
 .skip))
 (.seq
 (.reg false [] [] [
 ⟨(some 6), .mv, [(.c (.sl (some 2002700) 4 []))], none, []⟩] 0 [1, 2, 4, 6])
 (.seq
 (.seq
 (.reg false [] [] [
 ⟨(some 14), .mv, [(.t 1)], none, []⟩,
 ⟨(some 15), .len, [(.t 14)], none, []⟩,
 ⟨(some 16), .mv, [(.c (.int .i64 0))], none, []⟩] 0 [2, 4, 6, 14, 15, 16])
 (.block 0
 (.loop b83_0)))
 (.seq
 (.reg false [] [] [
 ⟨(some 29), (.fa 1), [(.t 2)], none, [32, 33, 35, 36, 38]⟩,
 ⟨(some 30), (.load (some 2)), [(.t 29)], none, [32, 33, 35, 36, 38]⟩,
 ⟨(some 31), (.call true false false), [(.f 88), (.t 30)], none, [32, 33, 35, 36, 38]⟩,
 ⟨(some 32), (.fa 3), [(.t 2)], none, [29, 30, 31, 35, 36, 38]⟩,
 ⟨(some 33), (.load (some 2)), [(.t 32)], none, [29, 30, 31, 35, 36, 38]⟩,
 ⟨(some 34), (.call true false false), [(.f 88), (.t 33)], none, [35, 36, 38]⟩,
 ⟨(some 35), (.fa 5), [(.t 2)], none, [29, 30, 31, 32, 33, 34, 38]⟩,
 ⟨(some 36), (.load none), [(.t 35)], none, [29, 30, 31, 32, 33, 34, 38]⟩,
 ⟨(some 37), (.build [(.bool false), (.int .i64 0), (.int .i64 0), (.int .i64 0), (.int .i64 0), (.sl none 2 [])] [(1, 2), (3, 2), (5, 1)]), [(.t 31), (.t 34), (.t 36)], none, [38]⟩,
 ⟨(some 38), .mv, [(.t 6)], none, [29, 30, 31, 32, 33, 34, 35, 36, 37, 4]⟩,
 ⟨none, (.store 6 (some 4)), [(.t 4), (.t 37)], none, [38]⟩,
 ⟨(some 5), .mv, [(.t 38)], none, []⟩] 0 [4, 5])
 .ret))))),
 [(.c 4 (some 6)), (.t 5)]⟩
theorem c83 : funC Try.prog [(0, [1, 2, 4]), (1, [1, 2, 4, 11]), (2, [4, 5]), (3, [1, 2, 4, 6]), (4, [2, 4, 6, 14, 15, 16]), (5, [2, 4, 6, 14, 15, 16, 17]), (6, [2, 4, 6, 8, 14, 15, 16]), (7, [2, 4, 6, 8, 14, 15, 16]), (8, [2, 4, 6, 14, 15, 16]), (9, [2, 4, 6, 14, 15, 16]), (10, [4, 5])] Try.f83 = some (unF l83) := by kernel_rfl
/-- acme/die.within$1 -/
def l84 : LFun := ⟨3, 13, [],
 (.seq
 (.reg false [] [] [
 ⟨(some 4), .mv, [(.c (.bool false))], none, []⟩] 0 [0, 1, 2])
 (.seq
 (.reg false [] [] [
 ⟨(some 5), .mv, [(.t 0)], none, []⟩,
 ⟨(some 6), (.load none), [(.t 1)], none, []⟩,
 ⟨(some 7), (.bin 0 .lss), [(.t 5), (.t 6)], none, []⟩,
 ⟨(some 8), .mv, [(.t 7)], none, []⟩,
 ⟨(some 9), .mv, [(.t 0)], (some (8, false)), []⟩,
 ⟨(some 10), (.load none), [(.t 2)], (some (8, false)), []⟩,
 ⟨(some 11), (.bin 0 .gtr), [(.t 9), (.t 10)], (some (8, false)), []⟩,
 ⟨(some 12), .pick, [(.t 8), (.c (.bool true)), (.t 11)], none, []⟩,
 ⟨(some 4), .mv, [(.t 12)], none, []⟩] 0 [4])
 .ret)),
 [(.t 4)]⟩
theorem c84 : funC Try.prog [(0, [0, 1, 2]), (1, [4])] Try.f84 = some (unF l84) := by kernel_rfl
/-- sort.Search -/
def b85_0 : LCode :=
 (.seq
 (.seq
 (.reg true [] [] [
 ⟨(some 9), .mv, [(.t 5)], none, []⟩,
 ⟨(some 10), .mv, [(.t 6)], none, []⟩,
 ⟨(some 11), (.bin 0 .lss), [(.t 9), (.t 10)], none, []⟩] 0 [1, 5, 6, 11])
 (.cond (.t 11)
 .skip
 (.exit 0)))
 (.block 1
 (.seq
 (.reg true [] [] [
 ⟨(some 12), .mv, [(.t 5)], none, []⟩,
 ⟨(some 13), .mv, [(.t 6)], none, []⟩,
 ⟨(some 14), (.bin 0 .add), [(.t 12), (.t 13)], none, []⟩,
 ⟨(some 15), (.conv .u64), [(.t 14)], none, []⟩,
 ⟨(some 16), (.bin 0 .shr), [(.t 15), (.c (.int .u64 1))], none, []⟩,
 ⟨(some 17), (.conv .i64), [(.t 16)], none, []⟩,
 ⟨(some 7), .mv, [(.t 17)], none, []⟩] 0 [1, 5, 6, 7])
 (.seq
 (.reg true [] [] [
 ⟨(some 18), .mv, [(.t 1)], none, []⟩,
 ⟨(some 19), .mv, [(.t 7)], none, []⟩,
 ⟨(some 20), (.call false false false), [(.t 18), (.t 19)], none, []⟩,
 ⟨(some 21), (.un .not), [(.t 20)], none, []⟩] 0 [1, 5, 6, 7, 21])
 (.cond (.t 21)
 (.reg true [] [] [
 ⟨(some 22), .mv, [(.t 7)], none, []⟩,
 ⟨(some 23), (.bin 0 .add), [(.t 22), (.c (.int .i64 1))], none, []⟩,
 ⟨(some 5), .mv, [(.t 23)], none, []⟩] 0 [1, 5, 6])
 (.reg true [] [] [
 ⟨(some 24), .mv, [(.t 7)], none, []⟩,
 ⟨(some 6), .mv, [(.t 24)], none, []⟩] 0 [1, 5, 6]))))))
def l85 : LFun := ⟨2, 26, [],
 (.seq
 (.reg false [] [] [
 ⟨(some 4), .mv, [(.c (.int .i64 0))], none, []⟩] 0 [0, 1])
 (.seq
 (.reg false [] [] [
 ⟨(some 8), .mv, [(.t 0)], none, []⟩,
 ⟨(some 5), .mv, [(.c (.int .i64 0))], none, []⟩,
 ⟨(some 6), .mv, [(.t 8)], none, []⟩] 0 [1, 5, 6])
 (.seq
 (.block 0
 (.loop b85_0))
 (.seq
 (.reg false [] [] [
 ⟨(some 25), .mv, [(.t 5)], none, []⟩,
 ⟨(some 4), .mv, [(.t 25)], none, []⟩] 0 [4])
 .ret)))),
 [(.t 4)]⟩
theorem c85 : funC Try.prog [(0, [0, 1]), (1, [1, 5, 6]), (2, [1, 5, 6, 11]), (3, [1, 5, 6, 7]), (4, [1, 5, 6, 7, 21]), (5, [1, 5, 6]), (6, [1, 5, 6]), (7, [4])] Try.f85 = some (unF l85) := by kernel_rfl
/-- (*acme/die.shop).reach$1 -/
def l86 : LFun := ⟨3, 13, [],
 (.seq
 (.reg false [] [] [
 ⟨(some 4), .mv, [(.c (.bool false))], none, []⟩] 0 [0, 1, 2])
 (.seq
 (.reg false [] [] [
 ⟨(some 5), (.load none), [(.t 1)], none, []⟩,
 ⟨(some 6), (.load none), [(.t 2)], none, []⟩,
 ⟨(some 7), (.load none), [(.t 2)], none, []⟩,
 ⟨(some 8), .mv, [(.t 0)], none, []⟩,
 ⟨(some 9), (.bin 0 .add), [(.t 7), (.t 8)], none, []⟩,
 ⟨(some 10), (.bin 0 .add), [(.t 9), (.c (.int .i64 1))], none, []⟩,
 ⟨(some 11), (.call false false false), [(.f 87), (.t 5), (.t 6), (.t 10)], none, []⟩,
 ⟨(some 12), (.un .not), [(.t 11)], none, []⟩,
 ⟨(some 4), .mv, [(.t 12)], none, []⟩] 0 [4])
 .ret)),
 [(.t 4)]⟩
theorem c86 : funC Try.prog [(0, [0, 1, 2]), (1, [4])] Try.f86 = some (unF l86) := by kernel_rfl
/-- (*acme/die.shop).can -/
def l87 : LFun := ⟨3, 17, [],
 (.seq
 (.reg false [] [] [
 ⟨(some 6), .mv, [(.c (.bool false))], none, []⟩] 0 [0, 1, 2])
 (.seq
 (.reg false [7] [7] [
 ⟨(some 8), .mv, [(.t 0)], none, []⟩,
 ⟨(some 9), .mv, [(.t 1)], none, []⟩,
 ⟨(some 10), .mv, [(.t 2)], none, []⟩,
 ⟨(some 11), (.call false false false), [(.f 61), (.t 8), (.t 9), (.t 10)], none, []⟩,
 ⟨(some 7), (.alloc [(.int .i64 0), (.int .i64 0)]), [], none, []⟩,
 ⟨none, (.store 2 none), [(.t 7), (.t 11)], none, []⟩] 0 [7])
 (.seq
 (.reg false [] [] [
 ⟨(some 12), (.fa 0), [(.t 7)], none, []⟩,
 ⟨(some 13), (.load none), [(.t 12)], none, []⟩,
 ⟨(some 14), (.fa 1), [(.t 7)], none, []⟩,
 ⟨(some 15), (.load none), [(.t 14)], none, []⟩,
 ⟨(some 16), (.bin 0 .leq), [(.t 13), (.t 15)], none, []⟩,
 ⟨(some 6), .mv, [(.t 16)], none, []⟩] 0 [6])
 .ret))),
 [(.t 6)]⟩
theorem c87 : funC Try.prog [(0, [0, 1, 2]), (1, [7]), (2, [6])] Try.f87 = some (unF l87) := by kernel_rfl
/-- acme/die.turned -/
def l88 : LFun := ⟨1, 10, [],
 (.seq
 (.reg false [1, 2] [1, 2] [
 ⟨(some 1), .box, [(.t 0)], none, []⟩,
 ⟨(some 2), (.alloc [(.int .i64 0), (.int .i64 0)]), [], none, []⟩] 0 [1, 2])
 (.seq
 (.reg false [] [] [
 ⟨(some 3), (.fa 1), [(.t 1)], none, []⟩,
 ⟨(some 4), (.load none), [(.t 3)], none, []⟩,
 ⟨(some 5), (.un .neg), [(.t 4)], none, []⟩,
 ⟨(some 6), (.fa 0), [(.t 1)], none, []⟩,
 ⟨(some 7), (.load none), [(.t 6)], none, []⟩,
 ⟨(some 8), (.un .neg), [(.t 7)], none, []⟩,
 ⟨(some 9), (.build [(.int .i64 0), (.int .i64 0)] [(0, 1), (1, 1)]), [(.t 5), (.t 8)], none, []⟩,
 ⟨none, (.store 2 none), [(.t 2), (.t 9)], none, []⟩] 0 [2])
 .ret)),
 [(.c 2 (some 2))]⟩
theorem c88 : funC Try.prog [(0, [1, 2]), (1, [2])] Try.f88 = some (unF l88) := by kernel_rfl
/-- acme/die.plus -/
def l89 : LFun := ⟨2, 16, [],
 (.seq
 (.reg false [2, 3, 4] [2, 3, 4] [
 ⟨(some 2), .box, [(.t 0)], none, []⟩,
 ⟨(some 3), .box, [(.t 1)], none, []⟩,
 ⟨(some 4), (.alloc [(.int .i64 0), (.int .i64 0)]), [], none, []⟩] 0 [2, 3, 4])
 (.seq
 (.reg false [] [] [
 ⟨(some 5), (.fa 0), [(.t 2)], none, []⟩,
 ⟨(some 6), (.load none), [(.t 5)], none, []⟩,
 ⟨(some 7), (.fa 0), [(.t 3)], none, []⟩,
 ⟨(some 8), (.load none), [(.t 7)], none, []⟩,
 ⟨(some 9), (.bin 0 .add), [(.t 6), (.t 8)], none, []⟩,
 ⟨(some 10), (.fa 1), [(.t 2)], none, []⟩,
 ⟨(some 11), (.load none), [(.t 10)], none, []⟩,
 ⟨(some 12), (.fa 1), [(.t 3)], none, []⟩,
 ⟨(some 13), (.load none), [(.t 12)], none, []⟩,
 ⟨(some 14), (.bin 0 .add), [(.t 11), (.t 13)], none, []⟩,
 ⟨(some 15), (.build [(.int .i64 0), (.int .i64 0)] [(0, 1), (1, 1)]), [(.t 9), (.t 14)], none, []⟩,
 ⟨none, (.store 2 none), [(.t 4), (.t 15)], none, []⟩] 0 [4])
 .ret)),
 [(.c 4 (some 2))]⟩
theorem c89 : funC Try.prog [(0, [2, 3, 4]), (1, [4])] Try.f89 = some (unF l89) := by kernel_rfl
/-- (*acme/die.shop).parts -/
def l90 : LFun := ⟨3, 8, [],
 (.seq
 (.reg false [3, 4, 5] [3, 4, 5] [
 ⟨(some 3), .box, [(.t 0)], none, []⟩,
 ⟨(some 4), .box, [(.t 1)], none, []⟩,
 ⟨(some 5), .box, [(.t 2)], none, []⟩,
 ⟨(some 6), .mv, [(.c .dead)], none, []⟩] 0 [3, 4, 5])
 (.seq
 (.reg false [] [] [
 ⟨(some 7), (.mkf 100), [(.t 3), (.t 5), (.t 4)], none, []⟩,
 ⟨(some 6), .mv, [(.t 7)], none, []⟩] 0 [3, 4, 5, 6])
 .ret)),
 [(.t 6)]⟩
theorem c90 : funC Try.prog [(0, [3, 4, 5]), (1, [3, 4, 5, 6])] Try.f90 = some (unF l90) := by kernel_rfl
/-- acme/die.times -/
def l91 : LFun := ⟨2, 14, [],
 (.seq
 (.reg false [2, 4] [2, 4] [
 ⟨(some 2), .box, [(.t 0)], none, []⟩,
 ⟨(some 4), (.alloc [(.int .i64 0), (.int .i64 0)]), [], none, []⟩] 0 [1, 2, 4])
 (.seq
 (.reg false [] [] [
 ⟨(some 5), (.fa 0), [(.t 2)], none, []⟩,
 ⟨(some 6), (.load none), [(.t 5)], none, []⟩,
 ⟨(some 7), .mv, [(.t 1)], none, []⟩,
 ⟨(some 8), (.bin 0 .mul), [(.t 6), (.t 7)], none, []⟩,
 ⟨(some 9), (.fa 1), [(.t 2)], none, []⟩,
 ⟨(some 10), (.load none), [(.t 9)], none, []⟩,
 ⟨(some 11), .mv, [(.t 1)], none, []⟩,
 ⟨(some 12), (.bin 0 .mul), [(.t 10), (.t 11)], none, []⟩,
 ⟨(some 13), (.build [(.int .i64 0), (.int .i64 0)] [(0, 1), (1, 1)]), [(.t 8), (.t 12)], none, []⟩,
 ⟨none, (.store 2 none), [(.t 4), (.t 13)], none, []⟩] 0 [4])
 .ret)),
 [(.c 4 (some 2))]⟩
theorem c91 : funC Try.prog [(0, [1, 2, 4]), (1, [4])] Try.f91 = some (unF l91) := by kernel_rfl
/-- acme/thread.within$1 -/
def l92 : LFun := ⟨3, 13, [],
 (.seq
 (.reg false [] [] [
 ⟨(some 4), .mv, [(.c (.bool false))], none, []⟩] 0 [0, 1, 2])
 (.seq
 (.reg false [] [] [
 ⟨(some 5), .mv, [(.t 0)], none, []⟩,
 ⟨(some 6), (.load none), [(.t 1)], none, []⟩,
 ⟨(some 7), (.bin 0 .lss), [(.t 5), (.t 6)], none, []⟩,
 ⟨(some 8), .mv, [(.t 7)], none, []⟩,
 ⟨(some 9), .mv, [(.t 0)], (some (8, false)), []⟩,
 ⟨(some 10), (.load none), [(.t 2)], (some (8, false)), []⟩,
 ⟨(some 11), (.bin 0 .gtr), [(.t 9), (.t 10)], (some (8, false)), []⟩,
 ⟨(some 12), .pick, [(.t 8), (.c (.bool true)), (.t 11)], none, []⟩,
 ⟨(some 4), .mv, [(.t 12)], none, []⟩] 0 [4])
 .ret)),
 [(.t 4)]⟩
theorem c92 : funC Try.prog [(0, [0, 1, 2]), (1, [4])] Try.f92 = some (unF l92) := by kernel_rfl
/-- (acme/thread.form).leans -/
def l93 : LFun := ⟨1, 10, [],
 (.seq
 (.reg false [1] [1] [
 ⟨(some 1), .box, [(.t 0)], none, []⟩,
 ⟨(some 2), .mv, [(.c (.int .i64 0))], none, []⟩] 0 [1])
 (.seq
 (.reg false [] [] [
 ⟨(some 3), (.fa 0), [(.t 1)], none, []⟩,
 ⟨(some 4), (.fa 1), [(.t 3)], none, []⟩,
 ⟨(some 5), (.load none), [(.t 4)], none, []⟩,
 ⟨(some 6), (.fa 0), [(.t 1)], none, []⟩,
 ⟨(some 7), (.fa 2), [(.t 6)], none, []⟩,
 ⟨(some 8), (.load none), [(.t 7)], none, []⟩,
 ⟨(some 9), (.bin 0 .add), [(.t 5), (.t 8)], none, []⟩,
 ⟨(some 2), .mv, [(.t 9)], none, []⟩] 0 [2])
 .ret)),
 [(.t 2)]⟩
theorem c93 : funC Try.prog [(0, [1]), (1, [2])] Try.f93 = some (unF l93) := by kernel_rfl
/-- (acme/fit.ideal).flanks$1 -/
def b94_0 : LCode :=
 (.seq
 (.reg true [] [] [
 ⟨(some 11), (.bin 0 .lss), [(.t 10), (.t 9)], none, []⟩] 0 [0, 2, 8, 9, 10, 11])
 (.seq
 (.cond (.t 11)
 .skip
 (.exit 0))
 (.seq
 (.block 1
 (.seq
 (.reg true [5] [5] [
 ⟨(some 12), .mv, [(.t 10)], none, []⟩,
 ⟨(some 13), (.ixs 2), [(.t 8), (.t 10)], none, []⟩,
 ⟨(some 14), (.load (some 2)), [(.t 13)], none, []⟩,
 ⟨(some 5), (.alloc [(.int .i64 0), (.int .i64 0)]), [], none, []⟩,
 ⟨(some 4), .mv, [(.t 12)], none, []⟩,
 ⟨none, (.store 2 none), [(.t 5), (.t 14)], none, []⟩] 0 [0, 2, 4, 5, 8, 9, 10])
 (.seq
 (.reg true [] [] [
 ⟨(some 15), .mv, [(.t 4)], none, []⟩,
 ⟨(some 16), (.bin 0 .mul), [(.c (.int .i64 4)), (.t 15)], none, []⟩,
 ⟨(some 17), (.fa 0), [(.t 2)], none, []⟩,
 ⟨(some 18), (.fa 0), [(.t 17)], none, []⟩,
 ⟨(some 19), (.load none), [(.t 18)], none, []⟩,
 ⟨(some 20), (.bin 0 .mul), [(.t 16), (.t 19)], none, []⟩,
 ⟨(some 6), .mv, [(.t 20)], none, []⟩] 0 [0, 2, 5, 6, 8, 9, 10])
 (.seq
 (.reg true [] [] [
 ⟨(some 21), .mv, [(.t 0)], none, []⟩,
 ⟨(some 22), (.fa 0), [(.t 5)], none, []⟩,
 ⟨(some 23), (.load none), [(.t 22)], none, []⟩,
 ⟨(some 24), (.bin 0 .mul), [(.c (.int .i64 4)), (.t 23)], none, []⟩,
 ⟨(some 25), .mv, [(.t 6)], none, []⟩,
 ⟨(some 26), (.bin 0 .sub), [(.t 24), (.t 25)], none, []⟩,
 ⟨(some 27), (.fa 0), [(.t 2)], none, []⟩,
 ⟨(some 28), (.fa 0), [(.t 27)], none, []⟩,
 ⟨(some 29), (.load none), [(.t 28)], none, []⟩,
 ⟨(some 30), (.bin 0 .add), [(.t 26), (.t 29)], none, []⟩,
 ⟨(some 31), (.bin 0 .mul), [(.c (.int .i64 1000)), (.t 30)], none, []⟩,
 ⟨(some 32), (.fa 1), [(.t 5)], none, []⟩,
 ⟨(some 33), (.load none), [(.t 32)], none, []⟩,
 ⟨(some 34), (.bin 0 .mul), [(.c (.int .i64 4)), (.t 33)], none, []⟩,
 ⟨(some 35), .mv, [(.t 6)], none, []⟩,
 ⟨(some 36), (.bin 0 .sub), [(.t 34), (.t 35)], none, []⟩,
 ⟨(some 37), (.fa 0), [(.t 2)], none, []⟩,
 ⟨(some 38), (.fa 0), [(.t 37)], none, []⟩,
 ⟨(some 39), (.load none), [(.t 38)], none, []⟩,
 ⟨(some 40), (.bin 0 .sub), [(.t 36), (.t 39)], none, []⟩,
 ⟨(some 41), (.bin 0 .mul), [(.c (.int .i64 1000)), (.t 40)], none, []⟩,
 ⟨(some 42), (.call false false false), [(.t 21), (.t 31), (.t 41)], none, []⟩,
 ⟨(some 43), (.un .not), [(.t 42)], none, []⟩] 0 [0, 2, 8, 9, 10, 43])
 (.cond (.t 43)
 .ret
 .skip)))))
 (.reg true [] [] [
 ⟨(some 44), (.bin 0 .add), [(.t 10), (.c (.int .i64 1))], none, []⟩,
 ⟨(some 10), .mv, [(.t 44)], none, []⟩] 0 [0, 2, 8, 9, 10]))))
def l94 : LFun := ⟨3, 45, [],
 (.seq
 (.reg false [] [] [
 ⟨(some 7), (.fa 0), [(.t 1)], none, []⟩,
 ⟨(some 8), (.load none), [(.t 7)], none, []⟩,
 ⟨(some 9), .len, [(.t 8)], none, []⟩,
 ⟨(some 10), .mv, [(.c (.int .i64 0))], none, []⟩] 0 [0, 2, 8, 9, 10])
 (.block 0
 (.loop b94_0))),
 []⟩
theorem c94 : funC Try.prog [(0, [0, 2, 8, 9, 10]), (1, [0, 2, 8, 9, 10, 11]), (2, [0, 2, 4, 5, 8, 9, 10]), (3, [0, 2, 5, 6, 8, 9, 10]), (4, [0, 2, 8, 9, 10, 43]), (5, [0, 2, 8, 9, 10])] Try.f94 = some (unF l94) := by kernel_rfl
/-- slices.IndexFunc[[][]int,[]int] -/
def b95_0 : LCode :=
 (.seq
 (.reg true [] [] [
 ⟨(some 9), (.bin 0 .lss), [(.t 8), (.t 7)], none, []⟩] 0 [0, 1, 7, 8, 9])
 (.seq
 (.cond (.t 9)
 .skip
 (.exit 0))
 (.seq
 (.block 1
 (.seq
 (.reg true [] [] [
 ⟨(some 10), .mv, [(.t 8)], none, []⟩,
 ⟨(some 5), .mv, [(.t 10)], none, []⟩] 0 [0, 1, 5, 7, 8])
 (.seq
 (.reg true [] [] [
 ⟨(some 11), .mv, [(.t 1)], none, []⟩,
 ⟨(some 12), .mv, [(.t 0)], none, []⟩,
 ⟨(some 13), .mv, [(.t 5)], none, []⟩,
 ⟨(some 14), (.ixs 1), [(.t 12), (.t 13)], none, []⟩,
 ⟨(some 15), (.load none), [(.t 14)], none, []⟩,
 ⟨(some 16), (.call false false false), [(.t 11), (.t 15)], none, []⟩] 0 [0, 1, 5, 7, 8, 16])
 (.cond (.t 16)
 (.seq
 (.reg true [] [] [
 ⟨(some 17), .mv, [(.t 5)], none, []⟩,
 ⟨(some 4), .mv, [(.t 17)], none, []⟩] 0 [4])
 .ret)
 .skip))))
 (.reg true [] [] [
 ⟨(some 18), (.bin 0 .add), [(.t 8), (.c (.int .i64 1))], none, []⟩,
 ⟨(some 8), .mv, [(.t 18)], none, []⟩] 0 [0, 1, 7, 8]))))
def l95 : LFun := ⟨2, 19, [],
 (.seq
 (.reg false [] [] [
 ⟨(some 4), .mv, [(.c (.int .i64 0))], none, []⟩] 0 [0, 1])
 (.seq
 (.seq
 (.reg false [] [] [
 ⟨(some 6), .mv, [(.t 0)], none, []⟩,
 ⟨(some 7), .len, [(.t 6)], none, []⟩,
 ⟨(some 8), .mv, [(.c (.int .i64 0))], none, []⟩] 0 [0, 1, 7, 8])
 (.block 0
 (.loop b95_0)))
 (.seq
 (.reg false [] [] [
 ⟨(some 4), .mv, [(.c (.int .i64 (-1)))], none, []⟩] 0 [4])
 .ret))),
 [(.t 4)]⟩
theorem c95 : funC Try.prog [(0, [0, 1]), (1, [0, 1, 7, 8]), (2, [0, 1, 7, 8, 9]), (3, [0, 1, 5, 7, 8]), (4, [0, 1, 5, 7, 8, 16]), (5, [4]), (6, [0, 1, 7, 8]), (7, [4])] Try.f95 = some (unF l95) := by kernel_rfl
/-- slices.Grow[[]int,int] -/
def l96 : LFun := ⟨2, 27, [],
 (.seq
 (.reg false [] [] [
 ⟨(some 4), .mv, [(.c .nil)], none, []⟩] 0 [0, 1])
 (.seq
 (.seq
 (.reg false [] [] [
 ⟨(some 5), .mv, [(.t 1)], none, []⟩,
 ⟨(some 6), (.bin 0 .lss), [(.t 5), (.c (.int .i64 0))], none, []⟩] 0 [0, 1, 6])
 (.cond (.t 6)
 (.reg false [] [] [
 ⟨none, .bad, [], none, []⟩,
 ⟨none, .bad, [], none, []⟩] 0 [0, 1])
 .skip))
 (.seq
 (.seq
 (.reg false [] [] [
 ⟨(some 8), .mv, [(.t 1)], none, []⟩,
 ⟨(some 9), .mv, [(.t 0)], none, []⟩,
 ⟨(some 10), .cap, [(.t 9)], none, []⟩,
 ⟨(some 11), .mv, [(.t 0)], none, []⟩,
 ⟨(some 12), .len, [(.t 11)], none, []⟩,
 ⟨(some 13), (.bin 0 .sub), [(.t 10), (.t 12)], none, []⟩,
 ⟨(some 14), (.bin 0 .sub), [(.t 8), (.t 13)], none, []⟩,
 ⟨(some 1), .mv, [(.t 14)], none, []⟩] 0 [0, 1])
 (.seq
 (.reg false [] [] [
 ⟨(some 15), .mv, [(.t 1)], none, []⟩,
 ⟨(some 16), (.bin 0 .gtr), [(.t 15), (.c (.int .i64 0))], none, []⟩] 0 [0, 1, 16])
 (.cond (.t 16)
 (.reg false [22] [] [
 ⟨(some 17), .mv, [(.t 0)], none, []⟩,
 ⟨(some 18), .mv, [(.t 0)], none, []⟩,
 ⟨(some 19), .cap, [(.t 18)], none, []⟩,
 ⟨(some 20), (.sls 1 false true false), [(.t 17), (.t 19)], none, []⟩,
 ⟨(some 21), .mv, [(.t 1)], none, []⟩,
 ⟨(some 22), (.appz 1 8 [(.int .i64 0)]), [(.t 20), (.t 21)], none, []⟩,
 ⟨(some 23), .mv, [(.t 0)], none, []⟩,
 ⟨(some 24), .len, [(.t 23)], none, []⟩,
 ⟨(some 25), (.trunc 1), [(.t 22), (.t 24)], none, []⟩,
 ⟨(some 0), .mv, [(.t 25)], none, []⟩] 0 [0])
 .skip)))
 (.seq
 (.reg false [] [] [
 ⟨(some 26), .mv, [(.t 0)], none, []⟩,
 ⟨(some 4), .mv, [(.t 26)], none, []⟩] 0 [4])
 .ret)))),
 [(.t 4)]⟩
theorem c96 : funC Try.prog [(0, [0, 1]), (1, [0, 1, 6]), (2, [0, 1]), (3, [0, 1]), (4, [0, 1, 16]), (5, [0]), (6, [4])] Try.f96 = some (unF l96) := by kernel_rfl
/-- acme/die.checkTool -/
def l97 : LFun := ⟨1, 31, [],
 (.seq
 (.reg false [1] [1] [
 ⟨(some 1), .box, [(.t 0)], none, []⟩,
 ⟨(some 2), .mv, [(.c (.int .i64 0))], none, []⟩] 0 [1])
 (.seq
 (.seq
 (.reg false [] [] [
 ⟨(some 4), (.fa 5), [(.t 1)], none, []⟩,
 ⟨(some 5), (.load none), [(.t 4)], none, []⟩,
 ⟨(some 6), .len, [(.t 5)], none, []⟩,
 ⟨(some 7), (.bin 0 .gtr), [(.t 6), (.c (.int .i64 8))], none, []⟩] 0 [1, 7])
 (.cond (.t 7)
 (.seq
 (.reg false [] [] [
 ⟨(some 2), .mv, [(.c (.int .i64 5))], none, []⟩] 0 [2])
 .ret)
 .skip))
 (.seq
 (.reg false [] [] [
 ⟨(some 3), .mv, [(.f 101)], none, []⟩] 0 [1, 3])
 (.seq
 (.seq
 (.reg false [] [] [
 ⟨(some 8), (.fa 5), [(.t 1)], none, []⟩,
 ⟨(some 9), (.load none), [(.t 8)], none, []⟩,
 ⟨(some 10), .len, [(.t 9)], none, []⟩,
 ⟨(some 11), (.bin 0 .eql), [(.t 10), (.c (.int .i64 0))], none, []⟩,
 ⟨(some 12), .mv, [(.t 11)], none, []⟩,
 ⟨(some 13), .mv, [(.t 3)], (some (12, false)), []⟩,
 ⟨(some 14), (.fa 1), [(.t 1)], (some (12, false)), []⟩,
 ⟨(some 15), (.load (some 2)), [(.t 14)], (some (12, false)), []⟩,
 ⟨(some 16), (.call false false false), [(.t 13), (.t 15)], (some (12, false)), []⟩,
 ⟨(some 17), (.un .not), [(.t 16)], (some (12, false)), []⟩,
 ⟨(some 18), .pick, [(.t 12), (.c (.bool true)), (.t 17)], none, []⟩,
 ⟨(some 19), .mv, [(.t 18)], none, []⟩,
 ⟨(some 20), .mv, [(.t 3)], (some (19, false)), []⟩,
 ⟨(some 21), (.fa 3), [(.t 1)], (some (19, false)), []⟩,
 ⟨(some 22), (.load (some 2)), [(.t 21)], (some (19, false)), []⟩,
 ⟨(some 23), (.call false false false), [(.t 20), (.t 22)], (some (19, false)), []⟩,
 ⟨(some 24), (.un .not), [(.t 23)], (some (19, false)), []⟩,
 ⟨(some 25), .pick, [(.t 19), (.c (.bool true)), (.t 24)], none, []⟩,
 ⟨(some 26), .mv, [(.t 25)], none, []⟩,
 ⟨(some 27), (.fa 5), [(.t 1)], (some (26, false)), []⟩,
 ⟨(some 28), (.load none), [(.t 27)], (some (26, false)), []⟩,
 ⟨(some 29), (.call false false false), [(.f 103), (.t 28), (.f 104)], (some (26, false)), []⟩,
 ⟨(some 30), .pick, [(.t 26), (.c (.bool true)), (.t 29)], none, []⟩] 0 [30])
 (.cond (.t 30)
 (.seq
 (.reg false [] [] [
 ⟨(some 2), .mv, [(.c (.int .i64 2))], none, []⟩] 0 [2])
 .ret)
 .skip))
 (.seq
 (.reg false [] [] [
 ⟨(some 2), .mv, [(.c (.int .i64 0))], none, []⟩] 0 [2])
 .ret))))),
 [(.t 2)]⟩
theorem c97 : funC Try.prog [(0, [1]), (1, [1, 7]), (2, [2]), (3, [1, 3]), (4, [30]), (5, [2]), (6, [2])] Try.f97 = some (unF l97) := by kernel_rfl
/-- acme/die.isZone -/
def l98 : LFun := ⟨1, 5, [],
 (.seq
 (.reg false [1] [1] [
 ⟨(some 1), .box, [(.t 0)], none, []⟩,
 ⟨(some 2), .mv, [(.c (.bool false))], none, []⟩] 0 [1])
 (.seq
 (.reg false [] [] [
 ⟨(some 3), (.load (some 2)), [(.t 1)], none, []⟩,
 ⟨(some 4), (.call false false false), [(.f 102), (.t 3), (.c (.int .i64 0)), (.c (.int .i64 10000000000))], none, []⟩,
 ⟨(some 2), .mv, [(.t 4)], none, []⟩] 0 [2])
 .ret)),
 [(.t 2)]⟩
theorem c98 : funC Try.prog [(0, [1]), (1, [2])] Try.f98 = some (unF l98) := by kernel_rfl
/-- acme/die.hasSteel -/
def l99 : LFun := ⟨2, 13, [],
 (.seq
 (.reg false [2] [2] [
 ⟨(some 2), .box, [(.t 0)], none, []⟩,
 ⟨(some 4), .mv, [(.c (.int .i64 0))], none, []⟩] 0 [1, 2])
 (.seq
 (.seq
 (.reg false [10] [10] [
 ⟨(some 5), (.fa 5), [(.t 2)], none, []⟩,
 ⟨(some 6), (.load none), [(.t 5)], none, []⟩,
 ⟨(some 7), .len, [(.t 6)], none, []⟩,
 ⟨(some 8), (.bin 0 .sub), [(.t 7), (.c (.int .i64 1))], none, []⟩,
 ⟨(some 9), .mv, [(.t 1)], none, []⟩,
 ⟨(some 10), (.bsl 1 [(.int .i64 0)] 1 [0]), [(.t 9)], none, []⟩,
 ⟨(some 11), (.call false false false), [(.f 56), (.c (.int .i64 0)), (.t 8), (.t 10)], none, []⟩,
 ⟨(some 12), (.un .not), [(.t 11)], none, []⟩] 0 [12])
 (.cond (.t 12)
 (.seq
 (.reg false [] [] [
 ⟨(some 4), .mv, [(.c (.int .i64 7))], none, []⟩] 0 [4])
 .ret)
 .skip))
 (.seq
 (.reg false [] [] [
 ⟨(some 4), .mv, [(.c (.int .i64 0))], none, []⟩] 0 [4])
 .ret))),
 [(.t 4)]⟩
theorem c99 : funC Try.prog [(0, [1, 2]), (1, [12]), (2, [4]), (3, [4])] Try.f99 = some (unF l99) := by kernel_rfl
/-- (*acme/die.shop).parts$1 -/
def b100_0 : LCode :=
 (.seq
 (.reg true [] [] [
 ⟨(some 14), (.bin 0 .lss), [(.t 13), (.t 12)], none, []⟩] 0 [0, 1, 2, 3, 11, 12, 13, 14])
 (.seq
 (.cond (.t 14)
 .skip
 (.exit 0))
 (.seq
 (.block 1
 (.seq
 (.reg true [6] [6] [
 ⟨(some 15), .mv, [(.t 13)], none, []⟩,
 ⟨(some 16), (.ixs 4), [(.t 11), (.t 13)], none, []⟩,
 ⟨(some 17), (.load (some 4)), [(.t 16)], none, []⟩,
 ⟨(some 6), (.alloc [(.int .i64 0), (.int .i64 0), (.int .i64 0), (.int .i64 0)]), [], none, []⟩,
 ⟨(some 5), .mv, [(.t 15)], none, []⟩,
 ⟨none, (.store 4 none), [(.t 6), (.t 17)], none, []⟩] 0 [0, 1, 2, 3, 5, 6, 11, 12, 13])
 (.seq
 (.reg true [] [] [
 ⟨(some 18), (.load none), [(.t 2)], none, [19, 20, 21, 22, 23, 24, 25, 26, 28, 29, 30, 31, 32, 33, 34, 35, 36]⟩,
 ⟨(some 19), (.load none), [(.t 1)], none, [18, 23, 24, 28, 29, 30, 31, 32, 33, 34, 35, 36]⟩,
 ⟨(some 20), .nilc, [(.t 19)], none, [18, 23, 24, 28, 29, 30, 31, 32, 33, 34, 35, 36]⟩,
 ⟨(some 21), (.fa 7), [(.t 20)], none, [18, 23, 24, 28, 29, 30, 31, 32, 33, 34, 35, 36]⟩,
 ⟨(some 22), (.load none), [(.t 21)], none, [18, 23, 24, 28, 29, 30, 31, 32, 33, 34, 35, 36]⟩,
 ⟨(some 23), .mv, [(.t 5)], none, [18, 19, 20, 21, 22, 28, 29, 30, 31, 32, 33, 34, 35, 36]⟩,
 ⟨(some 24), (.bin 0 .add), [(.t 23), (.c (.int .i64 1))], none, [18, 19, 20, 21, 22, 28, 29, 30, 31, 32, 33, 34, 35, 36]⟩,
 ⟨(some 25), (.ixs 1), [(.t 22), (.t 24)], none, [18, 28, 29, 30, 31, 32, 33, 34, 35, 36]⟩,
 ⟨(some 26), (.load none), [(.t 25)], none, [18, 28, 29, 30, 31, 32, 33, 34, 35, 36]⟩,
 ⟨(some 27), .min, [(.t 18), (.t 26)], none, [28, 29, 30, 31, 32, 33, 34, 35, 36]⟩,
 ⟨(some 28), (.load none), [(.t 3)], none, [18, 19, 20, 21, 22, 23, 24, 25, 26, 27, 29, 30, 31, 32, 33, 34, 35]⟩,
 ⟨(some 29), (.load none), [(.t 1)], none, [18, 19, 20, 21, 22, 23, 24, 25, 26, 27, 28, 33]⟩,
 ⟨(some 30), .nilc, [(.t 29)], none, [18, 19, 20, 21, 22, 23, 24, 25, 26, 27, 28, 33]⟩,
 ⟨(some 31), (.fa 7), [(.t 30)], none, [18, 19, 20, 21, 22, 23, 24, 25, 26, 27, 28, 33]⟩,
 ⟨(some 32), (.load none), [(.t 31)], none, [18, 19, 20, 21, 22, 23, 24, 25, 26, 27, 28, 33]⟩,
 ⟨(some 33), .mv, [(.t 5)], none, [18, 19, 20, 21, 22, 23, 24, 25, 26, 27, 28, 29, 30, 31, 32]⟩,
 ⟨(some 34), (.ixs 1), [(.t 32), (.t 33)], none, [18, 19, 20, 21, 22, 23, 24, 25, 26, 27, 28]⟩,
 ⟨(some 35), (.load none), [(.t 34)], none, [18, 19, 20, 21, 22, 23, 24, 25, 26, 27, 28]⟩,
 ⟨(some 36), .max, [(.t 28), (.t 35)], none, [18, 19, 20, 21, 22, 23, 24, 25, 26, 27]⟩,
 ⟨(some 37), (.bin 0 .sub), [(.t 27), (.t 36)], none, []⟩,
 ⟨(some 7), .mv, [(.t 37)], none, []⟩] 0 [0, 1, 2, 3, 6, 7, 11, 12, 13])
 (.seq
 (.reg true [] [] [
 ⟨(some 38), .mv, [(.t 7)], none, []⟩,
 ⟨(some 39), (.bin 0 .gtr), [(.t 38), (.c (.int .i64 0))], none, []⟩,
 ⟨(some 40), .mv, [(.t 39)], none, []⟩,
 ⟨(some 41), .mv, [(.t 0)], (some (40, true)), []⟩,
 ⟨(some 42), (.load (some 4)), [(.t 6)], (some (40, true)), []⟩,
 ⟨(some 43), .mv, [(.t 7)], (some (40, true)), []⟩,
 ⟨(some 44), (.call false false false), [(.t 41), (.t 42), (.t 43)], (some (40, true)), []⟩,
 ⟨(some 45), (.un .not), [(.t 44)], (some (40, true)), []⟩,
 ⟨(some 46), .pick, [(.t 40), (.t 45), (.c (.bool false))], none, []⟩] 0 [0, 1, 2, 3, 11, 12, 13, 46])
 (.cond (.t 46)
 .ret
 .skip)))))
 (.reg true [] [] [
 ⟨(some 47), (.bin 0 .add), [(.t 13), (.c (.int .i64 1))], none, []⟩,
 ⟨(some 13), .mv, [(.t 47)], none, []⟩] 0 [0, 1, 2, 3, 11, 12, 13]))))
def l100 : LFun := ⟨4, 48, [],
 (.seq
 (.reg false [] [] [
 ⟨(some 8), (.load none), [(.t 1)], none, []⟩,
 ⟨(some 9), .nilc, [(.t 8)], none, []⟩,
 ⟨(some 10), (.fa 6), [(.t 9)], none, []⟩,
 ⟨(some 11), (.load none), [(.t 10)], none, []⟩,
 ⟨(some 12), .len, [(.t 11)], none, []⟩,
 ⟨(some 13), .mv, [(.c (.int .i64 0))], none, []⟩] 0 [0, 1, 2, 3, 11, 12, 13])
 (.block 0
 (.loop b100_0))),
 []⟩
theorem c100 : funC Try.prog [(0, [0, 1, 2, 3, 11, 12, 13]), (1, [0, 1, 2, 3, 11, 12, 13, 14]), (2, [0, 1, 2, 3, 5, 6, 11, 12, 13]), (3, [0, 1, 2, 3, 6, 7, 11, 12, 13]), (4, [0, 1, 2, 3, 11, 12, 13, 46]), (5, [0, 1, 2, 3, 11, 12, 13])] Try.f100 = some (unF l100) := by kernel_rfl
/-- acme/die.checkTool$1 -/
def l101 : LFun := ⟨1, 5, [],
 (.seq
 (.reg false [1] [1] [
 ⟨(some 1), .box, [(.t 0)], none, []⟩,
 ⟨(some 2), .mv, [(.c (.bool false))], none, []⟩] 0 [1])
 (.seq
 (.reg false [] [] [
 ⟨(some 3), (.load (some 2)), [(.t 1)], none, []⟩,
 ⟨(some 4), (.call false false false), [(.f 102), (.t 3), (.c (.int .i64 (-1000000))), (.c (.int .i64 1000000))], none, []⟩,
 ⟨(some 2), .mv, [(.t 4)], none, []⟩] 0 [2])
 .ret)),
 [(.t 2)]⟩
theorem c101 : funC Try.prog [(0, [1]), (1, [2])] Try.f101 = some (unF l101) := by kernel_rfl
/-- acme/die.isSpan -/
def l102 : LFun := ⟨3, 22, [],
 (.seq
 (.reg false [3] [3] [
 ⟨(some 3), .box, [(.t 0)], none, []⟩,
 ⟨(some 6), .mv, [(.c (.bool false))], none, []⟩] 0 [1, 2, 3])
 (.seq
 (.reg false [19] [19] [
 ⟨(some 7), (.fa 0), [(.t 3)], none, []⟩,
 ⟨(some 8), (.load none), [(.t 7)], none, []⟩,
 ⟨(some 9), (.fa 1), [(.t 3)], none, []⟩,
 ⟨(some 10), (.load none), [(.t 9)], none, []⟩,
 ⟨(some 11), (.bin 0 .leq), [(.t 8), (.t 10)], none, []⟩,
 ⟨(some 12), .mv, [(.t 11)], none, []⟩,
 ⟨(some 13), .mv, [(.t 1)], (some (12, true)), []⟩,
 ⟨(some 14), .mv, [(.t 2)], (some (12, true)), []⟩,
 ⟨(some 15), (.fa 0), [(.t 3)], (some (12, true)), []⟩,
 ⟨(some 16), (.load none), [(.t 15)], (some (12, true)), []⟩,
 ⟨(some 17), (.fa 1), [(.t 3)], (some (12, true)), []⟩,
 ⟨(some 18), (.load none), [(.t 17)], (some (12, true)), []⟩,
 ⟨(some 19), (.bsl 1 [(.int .i64 0)] 2 [0, 1]), [(.t 16), (.t 18)], (some (12, true)), []⟩,
 ⟨(some 20), (.call false false false), [(.f 56), (.t 13), (.t 14), (.t 19)], (some (12, true)), []⟩,
 ⟨(some 21), .pick, [(.t 12), (.t 20), (.c (.bool false))], none, []⟩,
 ⟨(some 6), .mv, [(.t 21)], none, []⟩] 0 [6])
 .ret)),
 [(.t 6)]⟩
theorem c102 : funC Try.prog [(0, [1, 2, 3]), (1, [6])] Try.f102 = some (unF l102) := by kernel_rfl
/-- slices.ContainsFunc[[]acme/api.Span,acme/api.Span] -/
def l103 : LFun := ⟨2, 9, [],
 (.seq
 (.reg false [] [] [
 ⟨(some 4), .mv, [(.c (.bool false))], none, []⟩] 0 [0, 1])
 (.seq
 (.reg false [] [] [
 ⟨(some 5), .mv, [(.t 0)], none, []⟩,
 ⟨(some 6), .mv, [(.t 1)], none, []⟩,
 ⟨(some 7), (.call false false false), [(.f 105), (.t 5), (.t 6)], none, []⟩,
 ⟨(some 8), (.bin 0 .geq), [(.t 7), (.c (.int .i64 0))], none, []⟩,
 ⟨(some 4), .mv, [(.t 8)], none, []⟩] 0 [4])
 .ret)),
 [(.t 4)]⟩
theorem c103 : funC Try.prog [(0, [0, 1]), (1, [4])] Try.f103 = some (unF l103) := by kernel_rfl
/-- acme/die.checkTool$2 -/
def l104 : LFun := ⟨1, 6, [],
 (.seq
 (.reg false [1] [1] [
 ⟨(some 1), .box, [(.t 0)], none, []⟩,
 ⟨(some 2), .mv, [(.c (.bool false))], none, []⟩] 0 [1])
 (.seq
 (.reg false [] [] [
 ⟨(some 3), (.load (some 2)), [(.t 1)], none, []⟩,
 ⟨(some 4), (.call false false false), [(.f 102), (.t 3), (.c (.int .i64 0)), (.c (.int .i64 100000))], none, []⟩,
 ⟨(some 5), (.un .not), [(.t 4)], none, []⟩,
 ⟨(some 2), .mv, [(.t 5)], none, []⟩] 0 [2])
 .ret)),
 [(.t 2)]⟩
theorem c104 : funC Try.prog [(0, [1]), (1, [2])] Try.f104 = some (unF l104) := by kernel_rfl
/-- slices.IndexFunc[[]acme/api.Span,acme/api.Span] -/
def b105_0 : LCode :=
 (.seq
 (.reg true [] [] [
 ⟨(some 9), (.bin 0 .lss), [(.t 8), (.t 7)], none, []⟩] 0 [0, 1, 7, 8, 9])
 (.seq
 (.cond (.t 9)
 .skip
 (.exit 0))
 (.seq
 (.block 1
 (.seq
 (.reg true [] [] [
 ⟨(some 10), .mv, [(.t 8)], none, []⟩,
 ⟨(some 5), .mv, [(.t 10)], none, []⟩] 0 [0, 1, 5, 7, 8])
 (.seq
 (.reg true [] [] [
 ⟨(some 11), .mv, [(.t 1)], none, []⟩,
 ⟨(some 12), .mv, [(.t 0)], none, []⟩,
 ⟨(some 13), .mv, [(.t 5)], none, []⟩,
 ⟨(some 14), (.ixs 2), [(.t 12), (.t 13)], none, []⟩,
 ⟨(some 15), (.load (some 2)), [(.t 14)], none, []⟩,
 ⟨(some 16), (.call false false false), [(.t 11), (.t 15)], none, []⟩] 0 [0, 1, 5, 7, 8, 16])
 (.cond (.t 16)
 (.seq
 (.reg true [] [] [
 ⟨(some 17), .mv, [(.t 5)], none, []⟩,
 ⟨(some 4), .mv, [(.t 17)], none, []⟩] 0 [4])
 .ret)
 .skip))))
 (.reg true [] [] [
 ⟨(some 18), (.bin 0 .add), [(.t 8), (.c (.int .i64 1))], none, []⟩,
 ⟨(some 8), .mv, [(.t 18)], none, []⟩] 0 [0, 1, 7, 8]))))
def l105 : LFun := ⟨2, 19, [],
 (.seq
 (.reg false [] [] [
 ⟨(some 4), .mv, [(.c (.int .i64 0))], none, []⟩] 0 [0, 1])
 (.seq
 (.seq
 (.reg false [] [] [
 ⟨(some 6), .mv, [(.t 0)], none, []⟩,
 ⟨(some 7), .len, [(.t 6)], none, []⟩,
 ⟨(some 8), .mv, [(.c (.int .i64 0))], none, []⟩] 0 [0, 1, 7, 8])
 (.block 0
 (.loop b105_0)))
 (.seq
 (.reg false [] [] [
 ⟨(some 4), .mv, [(.c (.int .i64 (-1)))], none, []⟩] 0 [4])
 .ret))),
 [(.t 4)]⟩
theorem c105 : funC Try.prog [(0, [0, 1]), (1, [0, 1, 7, 8]), (2, [0, 1, 7, 8, 9]), (3, [0, 1, 5, 7, 8]), (4, [0, 1, 5, 7, 8, 16]), (5, [4]), (6, [0, 1, 7, 8]), (7, [4])] Try.f105 = some (unF l105) := by kernel_rfl
end Go.Lo
