/- The functions of the seat, compiled for the logical machine. -/
import Derived.Test.YtifanigkolnedaaLitA
import Derived.Test.YtifanigkolnedaaProg
import Derived.KernelRfl
namespace Go.Lo
open Go.Proofs
def b40_0 : LCode :=
 (.seq
 (.seq
 (.reg true [] [] [
 ⟨(some 14), .mv, [(.t 11)], none, []⟩,
 ⟨(some 15), (.fa 0), [(.t 4)], none, []⟩,
 ⟨(some 16), (.load none), [(.t 15)], none, []⟩,
 ⟨(some 17), .len, [(.t 16)], none, []⟩,
 ⟨(some 18), (.bin 0 .lss), [(.t 14), (.t 17)], none, []⟩] 0 [3, 4, 5, 6, 9, 10, 11, 18])
 (.cond (.t 18)
 .skip
 (.exit 0)))
 (.seq
 (.block 1
 (.seq
 (.seq
 (.reg true [] [] [
 ⟨(some 21), (.load (some 3)), [(.t 4)], none, [22, 23, 24, 25, 27, 28, 29, 30, 31]⟩,
 ⟨(some 22), (.load (some 2)), [(.t 5)], none, [21, 23, 24, 25, 27, 28, 29, 30, 31]⟩,
 ⟨(some 23), .mv, [(.t 3)], none, [21, 22, 24, 25, 27, 28, 29, 30, 31]⟩,
 ⟨(some 24), .mv, [(.t 10)], none, [21, 22, 23, 25, 27, 28, 29, 30, 31]⟩,
 ⟨(some 25), .mv, [(.t 11)], none, [21, 22, 23, 24, 27, 28, 29, 30, 31]⟩,
 ⟨(some 26), (.call true false false), [(.f 62), (.t 21), (.t 22), (.t 23), (.t 24), (.t 25)], none, [27, 28, 29, 30, 31]⟩,
 ⟨(some 27), (.load (some 3)), [(.t 4)], none, [21, 22, 23, 24, 25, 26, 28, 29, 30, 31]⟩,
 ⟨(some 28), (.load (some 2)), [(.t 6)], none, [21, 22, 23, 24, 25, 26, 27, 29, 30, 31]⟩,
 ⟨(some 29), .mv, [(.t 3)], none, [21, 22, 23, 24, 25, 26, 27, 28, 30, 31]⟩,
 ⟨(some 30), .mv, [(.t 10)], none, [21, 22, 23, 24, 25, 26, 27, 28, 29, 31]⟩,
 ⟨(some 31), .mv, [(.t 11)], none, [21, 22, 23, 24, 25, 26, 27, 28, 29, 30]⟩,
 ⟨(some 32), (.call true false false), [(.f 62), (.t 27), (.t 28), (.t 29), (.t 30), (.t 31)], none, []⟩,
 ⟨(some 33), (.call true false false), [(.f 78), (.t 26), (.t 32)], none, []⟩] 0 [3, 4, 5, 6, 9, 10, 11, 33])
 (.cond (.t 33)
 (.seq
 (.reg true [] [] [
 ⟨(some 34), .mv, [(.t 9)], none, []⟩,
 ⟨(some 35), .len, [(.t 34)], none, []⟩,
 ⟨(some 12), .mv, [(.t 35)], none, []⟩] 0 [3, 4, 5, 6, 9, 10, 11, 12])
 (.seq
 (.reg true [] [] [
 ⟨(some 36), .mv, [(.t 12)], none, []⟩,
 ⟨(some 37), (.bin 0 .gtr), [(.t 36), (.c (.int .i64 0))], none, []⟩,
 ⟨(some 38), .mv, [(.t 37)], none, []⟩,
 ⟨(some 39), .mv, [(.t 9)], (some (38, true)), []⟩,
 ⟨(some 40), .mv, [(.t 12)], (some (38, true)), []⟩,
 ⟨(some 41), (.bin 0 .sub), [(.t 40), (.c (.int .i64 1))], (some (38, true)), []⟩,
 ⟨(some 42), (.ixs 2), [(.t 39), (.t 41)], (some (38, true)), []⟩,
 ⟨(some 43), (.fa 1), [(.t 42)], (some (38, true)), []⟩,
 ⟨(some 44), (.load none), [(.t 43)], (some (38, true)), []⟩,
 ⟨(some 45), .mv, [(.t 10)], (some (38, true)), []⟩,
 ⟨(some 46), (.bin 0 .sub), [(.t 45), (.c (.int .i64 1))], (some (38, true)), []⟩,
 ⟨(some 47), (.bin 0 .eql), [(.t 44), (.t 46)], (some (38, true)), []⟩,
 ⟨(some 48), .pick, [(.t 38), (.t 47), (.c (.bool false))], none, []⟩] 0 [3, 4, 5, 6, 9, 10, 11, 12, 48])
 (.cond (.t 48)
 (.reg true [] [] [
 ⟨(some 49), .mv, [(.t 9)], none, []⟩,
 ⟨(some 50), .mv, [(.t 12)], none, []⟩,
 ⟨(some 51), (.bin 0 .sub), [(.t 50), (.c (.int .i64 1))], none, []⟩,
 ⟨(some 52), (.fa 0), [(.t 4)], none, []⟩,
 ⟨(some 53), (.load none), [(.t 52)], none, []⟩,
 ⟨(some 54), .mv, [(.t 11)], none, []⟩,
 ⟨(some 55), (.ixs 1), [(.t 53), (.t 54)], none, []⟩,
 ⟨(some 56), (.load none), [(.t 55)], none, []⟩,
 ⟨(some 57), (.ixs 2), [(.t 49), (.t 51)], none, []⟩,
 ⟨(some 58), (.fa 1), [(.t 57)], none, []⟩,
 ⟨none, (.store 1 none), [(.t 58), (.t 56)], none, []⟩] 0 [3, 4, 5, 6, 9, 11])
 (.reg true [67, 68] [67] [
 ⟨(some 59), .mv, [(.t 9)], none, []⟩,
 ⟨(some 60), .mv, [(.t 10)], none, []⟩,
 ⟨(some 61), (.fa 0), [(.t 4)], none, []⟩,
 ⟨(some 62), (.load none), [(.t 61)], none, []⟩,
 ⟨(some 63), .mv, [(.t 11)], none, []⟩,
 ⟨(some 64), (.ixs 1), [(.t 62), (.t 63)], none, []⟩,
 ⟨(some 65), (.load none), [(.t 64)], none, []⟩,
 ⟨(some 66), (.build [(.int .i64 0), (.int .i64 0)] [(0, 1), (1, 1)]), [(.t 60), (.t 65)], none, []⟩,
 ⟨(some 67), (.bsl 2 [(.int .i64 0), (.int .i64 0)] 1 [0]), [(.t 66)], none, []⟩,
 ⟨(some 68), (.append false 2 16), [(.t 59), (.t 67)], none, []⟩,
 ⟨(some 9), .mv, [(.t 68)], none, []⟩] 0 [3, 4, 5, 6, 9, 11]))))
 .skip))
 (.reg true [] [] [
 ⟨(some 69), (.fa 0), [(.t 4)], none, []⟩,
 ⟨(some 70), (.load none), [(.t 69)], none, []⟩,
 ⟨(some 71), .mv, [(.t 11)], none, []⟩,
 ⟨(some 72), (.ixs 1), [(.t 70), (.t 71)], none, []⟩,
 ⟨(some 73), (.load none), [(.t 72)], none, []⟩,
 ⟨(some 74), (.bin 0 .add), [(.t 73), (.c (.int .i64 1))], none, []⟩,
 ⟨(some 10), .mv, [(.t 74)], none, []⟩] 0 [3, 4, 5, 6, 9, 10, 11])))
 (.reg true [] [] [
 ⟨(some 19), .mv, [(.t 11)], none, []⟩,
 ⟨(some 20), (.bin 0 .add), [(.t 19), (.c (.int .i64 1))], none, []⟩,
 ⟨(some 11), .mv, [(.t 20)], none, []⟩] 0 [3, 4, 5, 6, 9, 10, 11])))
def l40 : LFun := ⟨4, 76, [],
 (.seq
 (.reg false [4, 5, 6] [4, 5, 6] [
 ⟨(some 4), .box, [(.t 0)], none, []⟩,
 ⟨(some 5), .box, [(.t 1)], none, []⟩,
 ⟨(some 6), .box, [(.t 2)], none, []⟩,
 ⟨(some 8), .mv, [(.c .nil)], none, []⟩] 0 [3, 4, 5, 6])
 (.seq
 (.reg false [13] [13] [
 ⟨(some 13), (.bsl 2 [(.int .i64 0), (.int .i64 0)] 0 []), [], none, []⟩,
 ⟨(some 9), .mv, [(.t 13)], none, []⟩,
 ⟨(some 10), .mv, [(.c (.int .i64 1))], none, []⟩] 0 [3, 4, 5, 6, 9, 10])
 (.seq
 (.seq
 (.reg false [] [] [
 ⟨(some 11), .mv, [(.c (.int .i64 0))], none, []⟩] 0 [3, 4, 5, 6, 9, 10, 11])
 (.block 0
 (.loop b40_0)))
 (.seq
 (.reg false [] [] [
 ⟨(some 75), .mv, [(.t 9)], none, []⟩,
 ⟨(some 8), .mv, [(.t 75)], none, []⟩] 0 [8])
 .ret)))),
 [(.t 8)]⟩
theorem c40 : funC Try.prog [(0, [3, 4, 5, 6]), (1, [3, 4, 5, 6, 9, 10]), (2, [3, 4, 5, 6, 9, 10, 11]), (3, [3, 4, 5, 6, 9, 10, 11, 18]), (4, [3, 4, 5, 6, 9, 10, 11]), (5, [3, 4, 5, 6, 9, 10, 11, 33]), (6, [3, 4, 5, 6, 9, 10, 11, 12]), (7, [3, 4, 5, 6, 9, 10, 11, 12, 48]), (8, [3, 4, 5, 6, 9, 11]), (9, [3, 4, 5, 6, 9, 11]), (10, [3, 4, 5, 6, 9, 10, 11]), (11, [8])] Try.f40 = some l40 := by kernel_rfl
def b41_0 : LCode :=
 (.seq
 (.reg true [] [] [
 ⟨(some 17), (.bin 0 .lss), [(.t 16), (.c (.int .i64 2))], none, []⟩] 0 [3, 4, 5, 15, 16, 17])
 (.seq
 (.cond (.t 17)
 .skip
 (.exit 0))
 (.seq
 (.block 1
 (.seq
 (.reg true [9] [9] [
 ⟨(some 18), (.idx 2 2 (some 2)), [(.t 15), (.t 16)], none, []⟩,
 ⟨(some 9), (.alloc [(.int .i64 0), (.int .i64 0)]), [], none, []⟩,
 ⟨none, (.store 2 none), [(.t 9), (.t 18)], none, []⟩] 0 [3, 4, 5, 9, 15, 16])
 (.seq
 (.reg true [] [] [
 ⟨(some 19), (.load (some 2)), [(.t 9)], none, []⟩,
 ⟨(some 20), (.call false false false), [(.f 71), (.t 19), (.c (.int .i64 0)), (.c (.int .i64 20000000))], none, []⟩,
 ⟨(some 21), (.un .not), [(.t 20)], none, []⟩] 0 [3, 4, 5, 15, 16, 21])
 (.cond (.t 21)
 (.seq
 (.reg true [] [] [
 ⟨(some 6), .mv, [(.c (.int .i64 0))], none, []⟩,
 ⟨(some 7), .mv, [(.c (.int .i64 2))], none, []⟩] 0 [6, 7])
 .ret)
 .skip))))
 (.reg true [] [] [
 ⟨(some 22), (.bin 0 .add), [(.t 16), (.c (.int .i64 1))], none, []⟩,
 ⟨(some 16), .mv, [(.t 22)], none, []⟩] 0 [3, 4, 5, 15, 16]))))
def b41_1 : LCode :=
 (.seq
 (.reg true [] [] [
 ⟨(some 28), (.bin 0 .lss), [(.t 27), (.c (.int .i64 50))], none, []⟩] 0 [3, 4, 5, 27, 28])
 (.seq
 (.cond (.t 28)
 .skip
 (.exit 2))
 (.seq
 (.block 3
 (.seq
 (.reg true [] [] [
 ⟨(some 29), .mv, [(.t 27)], none, []⟩,
 ⟨(some 10), .mv, [(.t 29)], none, []⟩] 0 [3, 4, 5, 10, 27])
 (.seq
 (.reg true [] [] [
 ⟨(some 30), (.load (some 2)), [(.t 3)], none, []⟩,
 ⟨(some 31), (.build [(.int .i64 0), (.int .i64 0)] [(0, 2)]), [(.t 30)], none, []⟩,
 ⟨(some 32), (.load (some 2)), [(.t 4)], none, []⟩,
 ⟨(some 33), (.build [(.int .i64 0), (.int .i64 0)] [(0, 2)]), [(.t 32)], none, []⟩,
 ⟨(some 34), .mv, [(.t 10)], none, []⟩,
 ⟨(some 35), (.bin 0 .add), [(.t 34), (.c (.int .i64 1))], none, []⟩,
 ⟨(some 36), (.load (some 2)), [(.t 5)], none, []⟩,
 ⟨(some 37), (.call false false false), [(.f 79), (.t 31), (.t 33), (.t 35), (.t 36)], none, []⟩] 0 [3, 4, 5, 10, 27, 37])
 (.cond (.t 37)
 (.seq
 (.reg true [] [] [
 ⟨(some 38), .mv, [(.t 10)], none, []⟩,
 ⟨(some 39), (.bin 0 .add), [(.t 38), (.c (.int .i64 1))], none, []⟩,
 ⟨(some 6), .mv, [(.t 39)], none, []⟩,
 ⟨(some 7), .mv, [(.c (.int .i64 0))], none, []⟩] 0 [6, 7])
 .ret)
 .skip))))
 (.reg true [] [] [
 ⟨(some 40), (.bin 0 .add), [(.t 27), (.c (.int .i64 1))], none, []⟩,
 ⟨(some 27), .mv, [(.t 40)], none, []⟩] 0 [3, 4, 5, 27]))))
def l41 : LFun := ⟨3, 41, [],
 (.seq
 (.reg false [3, 4, 5] [3, 4, 5] [
 ⟨(some 3), .box, [(.t 0)], none, []⟩,
 ⟨(some 4), .box, [(.t 1)], none, []⟩,
 ⟨(some 5), .box, [(.t 2)], none, []⟩,
 ⟨(some 6), .mv, [(.c (.int .i64 0))], none, []⟩,
 ⟨(some 7), .mv, [(.c (.int .i64 0))], none, []⟩] 0 [3, 4, 5])
 (.seq
 (.seq
 (.reg false [] [] [
 ⟨(some 11), (.load (some 2)), [(.t 3)], none, []⟩,
 ⟨(some 12), (.build [(.int .i64 0), (.int .i64 0)] [(0, 2)]), [(.t 11)], none, []⟩,
 ⟨(some 13), (.load (some 2)), [(.t 4)], none, []⟩,
 ⟨(some 14), (.build [(.int .i64 0), (.int .i64 0)] [(0, 2)]), [(.t 13)], none, []⟩,
 ⟨(some 15), (.build [(.int .i64 0), (.int .i64 0), (.int .i64 0), (.int .i64 0)] [(0, 2), (2, 2)]), [(.t 12), (.t 14)], none, []⟩,
 ⟨(some 16), .mv, [(.c (.int .i64 0))], none, []⟩] 0 [3, 4, 5, 15, 16])
 (.block 0
 (.loop b41_0)))
 (.seq
 (.seq
 (.reg false [] [] [
 ⟨(some 23), (.load (some 2)), [(.t 5)], none, []⟩,
 ⟨(some 24), (.build [(.int .i64 0), (.int .i64 0)] [(0, 2)]), [(.t 23)], none, []⟩,
 ⟨(some 25), (.call false false false), [(.f 71), (.t 24), (.c (.int .i64 (-40000000))), (.c (.int .i64 40000000))], none, []⟩,
 ⟨(some 26), (.un .not), [(.t 25)], none, []⟩] 0 [3, 4, 5, 26])
 (.cond (.t 26)
 (.seq
 (.reg false [] [] [
 ⟨(some 6), .mv, [(.c (.int .i64 0))], none, []⟩,
 ⟨(some 7), .mv, [(.c (.int .i64 2))], none, []⟩] 0 [6, 7])
 .ret)
 .skip))
 (.seq
 (.seq
 (.reg false [] [] [
 ⟨(some 27), .mv, [(.c (.int .i64 0))], none, []⟩] 0 [3, 4, 5, 27])
 (.block 2
 (.loop b41_1)))
 (.seq
 (.reg false [] [] [
 ⟨(some 6), .mv, [(.c (.int .i64 0))], none, []⟩,
 ⟨(some 7), .mv, [(.c (.int .i64 7))], none, []⟩] 0 [6, 7])
 .ret))))),
 [(.t 6), (.t 7)]⟩
theorem c41 : funC Try.prog [(0, [3, 4, 5]), (1, [3, 4, 5, 15, 16]), (2, [3, 4, 5, 15, 16, 17]), (3, [3, 4, 5, 9, 15, 16]), (4, [3, 4, 5, 15, 16, 21]), (5, [6, 7]), (6, [3, 4, 5, 15, 16]), (7, [3, 4, 5, 26]), (8, [6, 7]), (9, [3, 4, 5, 27]), (10, [3, 4, 5, 27, 28]), (11, [3, 4, 5, 10, 27]), (12, [3, 4, 5, 10, 27, 37]), (13, [6, 7]), (14, [3, 4, 5, 27]), (15, [6, 7])] Try.f41 = some l41 := by kernel_rfl
def b42_1 : LCode :=
 (.seq
 (.seq
 (.reg true [] [] [
 ⟨(some 17), .mv, [(.t 10)], none, []⟩,
 ⟨(some 18), .mv, [(.t 8)], none, []⟩,
 ⟨(some 19), (.bin 0 .lss), [(.t 17), (.t 18)], none, []⟩] 0 [3, 4, 5, 8, 9, 10, 19])
 (.cond (.t 19)
 .skip
 (.exit 2)))
 (.seq
 (.block 3
 (.seq
 (.reg true [11, 12] [11, 12] [
 ⟨(some 22), (.load (some 2)), [(.t 3)], none, [23, 24, 26, 27, 28, 11, 12]⟩,
 ⟨(some 23), .mv, [(.t 10)], none, [22, 24, 26, 27, 28, 11, 12]⟩,
 ⟨(some 24), .mv, [(.t 8)], none, [22, 23, 26, 27, 28, 11, 12]⟩,
 ⟨(some 25), (.call true false false), [(.f 80), (.t 22), (.t 23), (.t 24)], none, [26, 27, 28, 11, 12]⟩,
 ⟨(some 26), (.load (some 2)), [(.t 4)], none, [22, 23, 24, 25, 27, 28, 11, 12]⟩,
 ⟨(some 27), .mv, [(.t 10)], none, [22, 23, 24, 25, 26, 28, 11, 12]⟩,
 ⟨(some 28), .mv, [(.t 8)], none, [22, 23, 24, 25, 26, 27, 11, 12]⟩,
 ⟨(some 29), (.call true false false), [(.f 80), (.t 26), (.t 27), (.t 28)], none, [11, 12]⟩,
 ⟨(some 11), (.alloc [(.int .i64 0), (.int .i64 0)]), [], none, [22, 23, 24, 25, 26, 27, 28, 29, 12]⟩,
 ⟨(some 12), (.alloc [(.int .i64 0), (.int .i64 0)]), [], none, [22, 23, 24, 25, 26, 27, 28, 29, 11]⟩,
 ⟨none, (.store 2 (some 11)), [(.t 11), (.t 25)], none, []⟩,
 ⟨none, (.store 2 (some 12)), [(.t 12), (.t 29)], none, []⟩] 0 [3, 4, 5, 8, 9, 10, 11, 12])
 (.reg true [] [] [
 ⟨(some 30), .mv, [(.t 9)], none, []⟩,
 ⟨(some 31), .mv, [(.t 30)], none, []⟩,
 ⟨(some 32), (.fa 0), [(.t 11)], (some (31, true)), [34, 35]⟩,
 ⟨(some 33), (.load none), [(.t 32)], (some (31, true)), [34, 35]⟩,
 ⟨(some 34), (.fa 1), [(.t 11)], (some (31, true)), [32, 33]⟩,
 ⟨(some 35), (.load none), [(.t 34)], (some (31, true)), [32, 33]⟩,
 ⟨(some 36), (.bin 0 .leq), [(.t 33), (.t 35)], (some (31, true)), []⟩,
 ⟨(some 37), .pick, [(.t 31), (.t 36), (.c (.bool false))], none, []⟩,
 ⟨(some 38), .mv, [(.t 37)], none, []⟩,
 ⟨(some 39), (.fa 0), [(.t 12)], (some (38, true)), [41, 42]⟩,
 ⟨(some 40), (.load none), [(.t 39)], (some (38, true)), [41, 42]⟩,
 ⟨(some 41), (.fa 1), [(.t 12)], (some (38, true)), [39, 40]⟩,
 ⟨(some 42), (.load none), [(.t 41)], (some (38, true)), [39, 40]⟩,
 ⟨(some 43), (.bin 0 .leq), [(.t 40), (.t 42)], (some (38, true)), []⟩,
 ⟨(some 44), .pick, [(.t 38), (.t 43), (.c (.bool false))], none, []⟩,
 ⟨(some 45), .mv, [(.t 44)], none, []⟩,
 ⟨(some 46), (.load (some 2)), [(.t 11)], (some (45, true)), [47, 49]⟩,
 ⟨(some 47), (.load (some 2)), [(.t 12)], (some (45, true)), [46, 49]⟩,
 ⟨(some 48), (.call true false false), [(.f 34), (.t 46), (.t 47)], (some (45, true)), [49]⟩,
 ⟨(some 49), (.load (some 2)), [(.t 5)], (some (45, true)), [46, 47, 48]⟩,
 ⟨(some 50), (.call true false false), [(.f 78), (.t 48), (.t 49)], (some (45, true)), []⟩,
 ⟨(some 51), .pick, [(.t 45), (.t 50), (.c (.bool false))], none, []⟩,
 ⟨(some 9), .mv, [(.t 51)], none, []⟩] 0 [3, 4, 5, 8, 9, 10])))
 (.reg true [] [] [
 ⟨(some 20), .mv, [(.t 10)], none, []⟩,
 ⟨(some 21), (.bin 0 .add), [(.t 20), (.c (.int .i64 1))], none, []⟩,
 ⟨(some 10), .mv, [(.t 21)], none, []⟩] 0 [3, 4, 5, 8, 9, 10])))
def b42_0 : LCode :=
 (.seq
 (.seq
 (.reg true [] [] [
 ⟨(some 13), .mv, [(.t 8)], none, []⟩,
 ⟨(some 14), (.bin 0 .leq), [(.t 13), (.c (.int .i64 50))], none, []⟩] 0 [3, 4, 5, 8, 14])
 (.cond (.t 14)
 .skip
 (.exit 0)))
 (.seq
 (.block 1
 (.seq
 (.reg true [] [] [
 ⟨(some 9), .mv, [(.c (.bool true))], none, []⟩] 0 [3, 4, 5, 8, 9])
 (.seq
 (.seq
 (.reg true [] [] [
 ⟨(some 10), .mv, [(.c (.int .i64 0))], none, []⟩] 0 [3, 4, 5, 8, 9, 10])
 (.block 2
 (.loop b42_1)))
 (.seq
 (.reg true [] [] [
 ⟨(some 52), .mv, [(.t 9)], none, []⟩] 0 [3, 4, 5, 8, 52])
 (.cond (.t 52)
 (.seq
 (.reg true [] [] [
 ⟨(some 53), .mv, [(.t 8)], none, []⟩,
 ⟨(some 6), .mv, [(.t 53)], none, []⟩,
 ⟨(some 7), .mv, [(.c (.bool true))], none, []⟩] 0 [6, 7])
 .ret)
 .skip)))))
 (.reg true [] [] [
 ⟨(some 15), .mv, [(.t 8)], none, []⟩,
 ⟨(some 16), (.bin 0 .add), [(.t 15), (.c (.int .i64 1))], none, []⟩,
 ⟨(some 8), .mv, [(.t 16)], none, []⟩] 0 [3, 4, 5, 8])))
def l42 : LFun := ⟨3, 54, [],
 (.seq
 (.reg false [3, 4, 5] [3, 4, 5] [
 ⟨(some 3), .box, [(.t 0)], none, []⟩,
 ⟨(some 4), .box, [(.t 1)], none, []⟩,
 ⟨(some 5), .box, [(.t 2)], none, []⟩,
 ⟨(some 6), .mv, [(.c (.int .i64 0))], none, []⟩,
 ⟨(some 7), .mv, [(.c (.bool false))], none, []⟩] 0 [3, 4, 5])
 (.seq
 (.seq
 (.reg false [] [] [
 ⟨(some 8), .mv, [(.c (.int .i64 1))], none, []⟩] 0 [3, 4, 5, 8])
 (.block 0
 (.loop b42_0)))
 (.seq
 (.reg false [] [] [
 ⟨(some 6), .mv, [(.c (.int .i64 0))], none, []⟩,
 ⟨(some 7), .mv, [(.c (.bool false))], none, []⟩] 0 [6, 7])
 .ret))),
 [(.t 6), (.t 7)]⟩
theorem c42 : funC Try.prog [(0, [3, 4, 5]), (1, [3, 4, 5, 8]), (2, [3, 4, 5, 8, 14]), (3, [3, 4, 5, 8]), (4, [3, 4, 5, 8, 9]), (5, [3, 4, 5, 8, 9, 10]), (6, [3, 4, 5, 8, 9, 10, 19]), (7, [3, 4, 5, 8, 9, 10]), (8, [3, 4, 5, 8, 9, 10, 11, 12]), (9, [3, 4, 5, 8, 9, 10]), (10, [3, 4, 5, 8, 52]), (11, [6, 7]), (12, [6, 7])] Try.f42 = some l42 := by kernel_rfl
def b43_0 : LCode :=
 (.seq
 (.seq
 (.reg true [] [] [
 ⟨(some 15), .mv, [(.t 5)], none, []⟩,
 ⟨(some 16), (.bin 0 .eql), [(.t 15), (.c (.int .i64 0))], none, []⟩,
 ⟨(some 17), .mv, [(.t 16)], none, []⟩,
 ⟨(some 18), .mv, [(.t 5)], (some (17, false)), []⟩,
 ⟨(some 19), (.fa 0), [(.t 1)], (some (17, false)), []⟩,
 ⟨(some 20), (.load none), [(.t 19)], (some (17, false)), []⟩,
 ⟨(some 21), .len, [(.t 20)], (some (17, false)), []⟩,
 ⟨(some 22), (.bin 0 .lss), [(.t 18), (.t 21)], (some (17, false)), []⟩,
 ⟨(some 23), .mv, [(.t 22)], (some (17, false)), []⟩,
 ⟨(some 24), .mv, [(.t 5)], (some (23, true)), []⟩,
 ⟨(some 25), (.bin 0 .lss), [(.t 24), (.c (.int .i64 4))], (some (23, true)), []⟩,
 ⟨(some 26), .pick, [(.t 23), (.t 25), (.c (.bool false))], (some (17, false)), []⟩,
 ⟨(some 27), .pick, [(.t 17), (.c (.bool true)), (.t 26)], none, []⟩] 0 [1, 2, 3, 4, 5, 27])
 (.cond (.t 27)
 .skip
 (.exit 0)))
 (.seq
 (.block 1
 (.seq
 (.reg true [] [] [
 ⟨(some 30), .mv, [(.t 4)], none, []⟩,
 ⟨(some 31), (.bin 0 .add), [(.t 30), (.c (.int .i64 1000))], none, []⟩,
 ⟨(some 4), .mv, [(.t 31)], none, []⟩] 0 [1, 2, 3, 4, 5])
 (.seq
 (.seq
 (.reg true [] [] [
 ⟨(some 32), .mv, [(.t 5)], none, []⟩,
 ⟨(some 33), (.fa 0), [(.t 1)], none, []⟩,
 ⟨(some 34), (.load none), [(.t 33)], none, []⟩,
 ⟨(some 35), .len, [(.t 34)], none, []⟩,
 ⟨(some 36), (.bin 0 .lss), [(.t 32), (.t 35)], none, []⟩] 0 [1, 2, 3, 4, 5, 36])
 (.cond (.t 36)
 (.reg true [] [] [
 ⟨(some 37), .mv, [(.t 4)], none, []⟩,
 ⟨(some 38), (.fa 0), [(.t 1)], none, []⟩,
 ⟨(some 39), (.load none), [(.t 38)], none, []⟩,
 ⟨(some 40), .mv, [(.t 5)], none, []⟩,
 ⟨(some 41), (.ixs 1), [(.t 39), (.t 40)], none, []⟩,
 ⟨(some 42), (.load none), [(.t 41)], none, []⟩,
 ⟨(some 43), (.conv .i64), [(.t 42)], none, []⟩,
 ⟨(some 44), (.bin 0 .mul), [(.c (.int .i64 50)), (.t 43)], none, []⟩,
 ⟨(some 45), (.bin 0 .add), [(.t 37), (.t 44)], none, []⟩,
 ⟨(some 4), .mv, [(.t 45)], none, []⟩] 0 [1, 2, 3, 4, 5])
 .skip))
 (.reg true [49, 50] [49] [
 ⟨(some 46), (.fa 0), [(.t 3)], none, []⟩,
 ⟨(some 47), (.load none), [(.t 46)], none, []⟩,
 ⟨(some 48), .mv, [(.t 4)], none, []⟩,
 ⟨(some 49), (.bsl 1 [(.int .i64 0)] 1 [0]), [(.t 48)], none, []⟩,
 ⟨(some 50), (.append false 1 8), [(.t 47), (.t 49)], none, []⟩,
 ⟨(some 51), (.fa 0), [(.t 3)], none, []⟩,
 ⟨none, (.store 1 none), [(.t 51), (.t 50)], none, []⟩] 0 [1, 2, 3, 4, 5]))))
 (.reg true [] [] [
 ⟨(some 28), .mv, [(.t 5)], none, []⟩,
 ⟨(some 29), (.bin 0 .add), [(.t 28), (.c (.int .i64 1))], none, []⟩,
 ⟨(some 5), .mv, [(.t 29)], none, []⟩] 0 [1, 2, 3, 4, 5])))
def b43_2 : LCode :=
 (.seq
 (.seq
 (.reg true [] [] [
 ⟨(some 68), .mv, [(.t 9)], none, []⟩,
 ⟨(some 69), (.fa 0), [(.t 3)], none, []⟩,
 ⟨(some 70), (.load none), [(.t 69)], none, []⟩,
 ⟨(some 71), .len, [(.t 70)], none, []⟩,
 ⟨(some 72), (.bin 0 .lss), [(.t 68), (.t 71)], none, []⟩] 0 [1, 2, 3, 6, 7, 8, 9, 72])
 (.cond (.t 72)
 .skip
 (.exit 4)))
 (.seq
 (.block 5
 (.seq
 (.seq
 (.reg true [] [] [
 ⟨(some 75), .mv, [(.t 6)], none, []⟩,
 ⟨(some 76), (.fa 1), [(.t 1)], none, []⟩,
 ⟨(some 77), (.load none), [(.t 76)], none, []⟩,
 ⟨(some 78), .len, [(.t 77)], none, []⟩,
 ⟨(some 79), (.bin 0 .lss), [(.t 75), (.t 78)], none, []⟩] 0 [1, 2, 3, 6, 7, 8, 9, 79])
 (.cond (.t 79)
 (.reg true [] [] [
 ⟨(some 80), .mv, [(.t 8)], none, []⟩,
 ⟨(some 81), (.fa 1), [(.t 1)], none, []⟩,
 ⟨(some 82), (.load none), [(.t 81)], none, []⟩,
 ⟨(some 83), .mv, [(.t 6)], none, []⟩,
 ⟨(some 84), .mv, [(.t 9)], none, []⟩,
 ⟨(some 85), (.ixs 4), [(.t 82), (.t 83)], none, []⟩,
 ⟨(some 86), (.ixa 4 1), [(.t 85), (.t 84)], none, []⟩,
 ⟨(some 87), (.load none), [(.t 86)], none, []⟩,
 ⟨(some 88), (.conv .i64), [(.t 87)], none, []⟩,
 ⟨(some 89), (.bin 0 .quo), [(.t 88), (.c (.int .i64 2))], none, []⟩,
 ⟨(some 90), (.bin 0 .add), [(.t 80), (.t 89)], none, []⟩,
 ⟨(some 91), .max, [(.c (.int .i64 0)), (.t 90)], none, []⟩,
 ⟨(some 8), .mv, [(.t 91)], none, []⟩] 0 [1, 2, 3, 6, 7, 8, 9])
 .skip))
 (.reg true [94, 95] [94] [
 ⟨(some 92), .mv, [(.t 7)], none, []⟩,
 ⟨(some 93), .mv, [(.t 8)], none, []⟩,
 ⟨(some 94), (.bsl 1 [(.int .i64 0)] 1 [0]), [(.t 93)], none, []⟩,
 ⟨(some 95), (.append false 1 8), [(.t 92), (.t 94)], none, []⟩,
 ⟨(some 7), .mv, [(.t 95)], none, []⟩] 0 [1, 2, 3, 6, 7, 8, 9])))
 (.reg true [] [] [
 ⟨(some 73), .mv, [(.t 9)], none, []⟩,
 ⟨(some 74), (.bin 0 .add), [(.t 73), (.c (.int .i64 1))], none, []⟩,
 ⟨(some 9), .mv, [(.t 74)], none, []⟩] 0 [1, 2, 3, 6, 7, 8, 9])))
def b43_1 : LCode :=
 (.seq
 (.seq
 (.reg true [] [] [
 ⟨(some 52), .mv, [(.t 6)], none, []⟩,
 ⟨(some 53), (.bin 0 .eql), [(.t 52), (.c (.int .i64 0))], none, []⟩,
 ⟨(some 54), .mv, [(.t 53)], none, []⟩,
 ⟨(some 55), .mv, [(.t 6)], (some (54, false)), []⟩,
 ⟨(some 56), (.fa 1), [(.t 1)], (some (54, false)), []⟩,
 ⟨(some 57), (.load none), [(.t 56)], (some (54, false)), []⟩,
 ⟨(some 58), .len, [(.t 57)], (some (54, false)), []⟩,
 ⟨(some 59), (.bin 0 .lss), [(.t 55), (.t 58)], (some (54, false)), []⟩,
 ⟨(some 60), .mv, [(.t 59)], (some (54, false)), []⟩,
 ⟨(some 61), .mv, [(.t 6)], (some (60, true)), []⟩,
 ⟨(some 62), (.bin 0 .lss), [(.t 61), (.c (.int .i64 3))], (some (60, true)), []⟩,
 ⟨(some 63), .pick, [(.t 60), (.t 62), (.c (.bool false))], (some (54, false)), []⟩,
 ⟨(some 64), .pick, [(.t 54), (.c (.bool true)), (.t 63)], none, []⟩] 0 [1, 2, 3, 6, 64])
 (.cond (.t 64)
 .skip
 (.exit 2)))
 (.seq
 (.block 3
 (.seq
 (.reg true [67] [67] [
 ⟨(some 67), (.bsl 1 [(.int .i64 0)] 0 []), [], none, []⟩,
 ⟨(some 7), .mv, [(.t 67)], none, []⟩,
 ⟨(some 8), .mv, [(.c (.int .i64 50))], none, []⟩] 0 [1, 2, 3, 6, 7, 8])
 (.seq
 (.seq
 (.reg true [] [] [
 ⟨(some 9), .mv, [(.c (.int .i64 0))], none, []⟩] 0 [1, 2, 3, 6, 7, 8, 9])
 (.block 4
 (.loop b43_2)))
 (.reg true [99, 100] [99] [
 ⟨(some 96), (.fa 1), [(.t 3)], none, []⟩,
 ⟨(some 97), (.load none), [(.t 96)], none, []⟩,
 ⟨(some 98), .mv, [(.t 7)], none, []⟩,
 ⟨(some 99), (.bsl 1 [.nil] 1 [0]), [(.t 98)], none, []⟩,
 ⟨(some 100), (.append false 1 24), [(.t 97), (.t 99)], none, []⟩,
 ⟨(some 101), (.fa 1), [(.t 3)], none, []⟩,
 ⟨none, (.store 1 none), [(.t 101), (.t 100)], none, []⟩] 0 [1, 2, 3, 6]))))
 (.reg true [] [] [
 ⟨(some 65), .mv, [(.t 6)], none, []⟩,
 ⟨(some 66), (.bin 0 .add), [(.t 65), (.c (.int .i64 1))], none, []⟩,
 ⟨(some 6), .mv, [(.t 66)], none, []⟩] 0 [1, 2, 3, 6])))
def b43_4 : LCode :=
 (.seq
 (.seq
 (.reg true [] [] [
 ⟨(some 118), .mv, [(.t 13)], none, []⟩,
 ⟨(some 119), (.fa 0), [(.t 3)], none, []⟩,
 ⟨(some 120), (.load none), [(.t 119)], none, []⟩,
 ⟨(some 121), .len, [(.t 120)], none, []⟩,
 ⟨(some 122), (.bin 0 .lss), [(.t 118), (.t 121)], none, []⟩] 0 [1, 2, 3, 10, 11, 12, 13, 122])
 (.cond (.t 122)
 .skip
 (.exit 8)))
 (.seq
 (.block 9
 (.seq
 (.seq
 (.reg true [] [] [
 ⟨(some 125), .mv, [(.t 10)], none, []⟩,
 ⟨(some 126), (.fa 2), [(.t 1)], none, []⟩,
 ⟨(some 127), (.load none), [(.t 126)], none, []⟩,
 ⟨(some 128), .len, [(.t 127)], none, []⟩,
 ⟨(some 129), (.bin 0 .lss), [(.t 125), (.t 128)], none, []⟩] 0 [1, 2, 3, 10, 11, 12, 13, 129])
 (.cond (.t 129)
 (.reg true [] [] [
 ⟨(some 130), .mv, [(.t 12)], none, []⟩,
 ⟨(some 131), (.fa 2), [(.t 1)], none, []⟩,
 ⟨(some 132), (.load none), [(.t 131)], none, []⟩,
 ⟨(some 133), .mv, [(.t 10)], none, []⟩,
 ⟨(some 134), .mv, [(.t 13)], none, []⟩,
 ⟨(some 135), (.ixs 4), [(.t 132), (.t 133)], none, []⟩,
 ⟨(some 136), (.ixa 4 1), [(.t 135), (.t 134)], none, []⟩,
 ⟨(some 137), (.load none), [(.t 136)], none, []⟩,
 ⟨(some 138), (.conv .i64), [(.t 137)], none, []⟩,
 ⟨(some 139), (.bin 0 .quo), [(.t 138), (.c (.int .i64 4))], none, []⟩,
 ⟨(some 140), (.bin 0 .add), [(.t 130), (.t 139)], none, []⟩,
 ⟨(some 12), .mv, [(.t 140)], none, []⟩] 0 [1, 2, 3, 10, 11, 12, 13])
 .skip))
 (.reg true [143, 144] [143] [
 ⟨(some 141), .mv, [(.t 11)], none, []⟩,
 ⟨(some 142), .mv, [(.t 12)], none, []⟩,
 ⟨(some 143), (.bsl 1 [(.int .i64 0)] 1 [0]), [(.t 142)], none, []⟩,
 ⟨(some 144), (.append false 1 8), [(.t 141), (.t 143)], none, []⟩,
 ⟨(some 11), .mv, [(.t 144)], none, []⟩] 0 [1, 2, 3, 10, 11, 12, 13])))
 (.reg true [] [] [
 ⟨(some 123), .mv, [(.t 13)], none, []⟩,
 ⟨(some 124), (.bin 0 .add), [(.t 123), (.c (.int .i64 1))], none, []⟩,
 ⟨(some 13), .mv, [(.t 124)], none, []⟩] 0 [1, 2, 3, 10, 11, 12, 13])))
def b43_3 : LCode :=
 (.seq
 (.seq
 (.reg true [] [] [
 ⟨(some 102), .mv, [(.t 10)], none, []⟩,
 ⟨(some 103), (.bin 0 .eql), [(.t 102), (.c (.int .i64 0))], none, []⟩,
 ⟨(some 104), .mv, [(.t 103)], none, []⟩,
 ⟨(some 105), .mv, [(.t 10)], (some (104, false)), []⟩,
 ⟨(some 106), (.fa 2), [(.t 1)], (some (104, false)), []⟩,
 ⟨(some 107), (.load none), [(.t 106)], (some (104, false)), []⟩,
 ⟨(some 108), .len, [(.t 107)], (some (104, false)), []⟩,
 ⟨(some 109), (.bin 0 .lss), [(.t 105), (.t 108)], (some (104, false)), []⟩,
 ⟨(some 110), .mv, [(.t 109)], (some (104, false)), []⟩,
 ⟨(some 111), .mv, [(.t 10)], (some (110, true)), []⟩,
 ⟨(some 112), (.bin 0 .lss), [(.t 111), (.c (.int .i64 3))], (some (110, true)), []⟩,
 ⟨(some 113), .pick, [(.t 110), (.t 112), (.c (.bool false))], (some (104, false)), []⟩,
 ⟨(some 114), .pick, [(.t 104), (.c (.bool true)), (.t 113)], none, []⟩] 0 [1, 2, 3, 10, 114])
 (.cond (.t 114)
 .skip
 (.exit 6)))
 (.seq
 (.block 7
 (.seq
 (.reg true [117] [117] [
 ⟨(some 117), (.bsl 1 [(.int .i64 0)] 0 []), [], none, []⟩,
 ⟨(some 11), .mv, [(.t 117)], none, []⟩,
 ⟨(some 12), .mv, [(.c (.int .i64 0))], none, []⟩] 0 [1, 2, 3, 10, 11, 12])
 (.seq
 (.seq
 (.reg true [] [] [
 ⟨(some 13), .mv, [(.c (.int .i64 0))], none, []⟩] 0 [1, 2, 3, 10, 11, 12, 13])
 (.block 8
 (.loop b43_4)))
 (.reg true [148, 149] [148] [
 ⟨(some 145), (.fa 2), [(.t 3)], none, []⟩,
 ⟨(some 146), (.load none), [(.t 145)], none, []⟩,
 ⟨(some 147), .mv, [(.t 11)], none, []⟩,
 ⟨(some 148), (.bsl 1 [.nil] 1 [0]), [(.t 147)], none, []⟩,
 ⟨(some 149), (.append false 1 24), [(.t 146), (.t 148)], none, []⟩,
 ⟨(some 150), (.fa 2), [(.t 3)], none, []⟩,
 ⟨none, (.store 1 none), [(.t 150), (.t 149)], none, []⟩] 0 [1, 2, 3, 10]))))
 (.reg true [] [] [
 ⟨(some 115), .mv, [(.t 10)], none, []⟩,
 ⟨(some 116), (.bin 0 .add), [(.t 115), (.c (.int .i64 1))], none, []⟩,
 ⟨(some 10), .mv, [(.t 116)], none, []⟩] 0 [1, 2, 3, 10])))
def l43 : LFun := ⟨1, 152, [],
 (.seq
 (.reg false [1, 2] [1, 2] [
 ⟨(some 1), .box, [(.t 0)], none, []⟩,
 ⟨(some 2), (.alloc [.nil, .nil, .nil]), [], none, []⟩] 0 [1, 2])
 (.seq
 (.reg false [3] [3] [
 ⟨(some 14), (.build [.nil, .nil, .nil] []), [], none, []⟩,
 ⟨(some 3), (.alloc [.nil, .nil, .nil]), [], none, []⟩,
 ⟨none, (.store 3 none), [(.t 3), (.t 14)], none, []⟩,
 ⟨(some 4), .mv, [(.c (.int .i64 0))], none, []⟩] 0 [1, 2, 3, 4])
 (.seq
 (.seq
 (.reg false [] [] [
 ⟨(some 5), .mv, [(.c (.int .i64 0))], none, []⟩] 0 [1, 2, 3, 4, 5])
 (.block 0
 (.loop b43_0)))
 (.seq
 (.seq
 (.reg false [] [] [
 ⟨(some 6), .mv, [(.c (.int .i64 0))], none, []⟩] 0 [1, 2, 3, 6])
 (.block 2
 (.loop b43_1)))
 (.seq
 (.seq
 (.reg false [] [] [
 ⟨(some 10), .mv, [(.c (.int .i64 0))], none, []⟩] 0 [1, 2, 3, 10])
 (.block 6
 (.loop b43_3)))
 (.seq
 (.reg false [] [] [
 ⟨(some 151), (.load (some 3)), [(.t 3)], none, []⟩,
 ⟨none, (.store 3 none), [(.t 2), (.t 151)], none, []⟩] 0 [2])
 .ret)))))),
 [(.c 2 (some 3))]⟩
theorem c43 : funC Try.prog [(0, [1, 2]), (1, [1, 2, 3, 4]), (2, [1, 2, 3, 4, 5]), (3, [1, 2, 3, 4, 5, 27]), (4, [1, 2, 3, 4, 5]), (5, [1, 2, 3, 4, 5]), (6, [1, 2, 3, 4, 5, 36]), (7, [1, 2, 3, 4, 5]), (8, [1, 2, 3, 4, 5]), (9, [1, 2, 3, 6]), (10, [1, 2, 3, 6, 64]), (11, [1, 2, 3, 6]), (12, [1, 2, 3, 6, 7, 8]), (13, [1, 2, 3, 6, 7, 8, 9]), (14, [1, 2, 3, 6, 7, 8, 9, 72]), (15, [1, 2, 3, 6, 7, 8, 9]), (16, [1, 2, 3, 6, 7, 8, 9, 79]), (17, [1, 2, 3, 6, 7, 8, 9]), (18, [1, 2, 3, 6, 7, 8, 9]), (19, [1, 2, 3, 6]), (20, [1, 2, 3, 10]), (21, [1, 2, 3, 10, 114]), (22, [1, 2, 3, 10]), (23, [1, 2, 3, 10, 11, 12]), (24, [1, 2, 3, 10, 11, 12, 13]), (25, [1, 2, 3, 10, 11, 12, 13, 122]), (26, [1, 2, 3, 10, 11, 12, 13]), (27, [1, 2, 3, 10, 11, 12, 13, 129]), (28, [1, 2, 3, 10, 11, 12, 13]), (29, [1, 2, 3, 10, 11, 12, 13]), (30, [1, 2, 3, 10]), (31, [2])] Try.f43 = some l43 := by kernel_rfl
def l44 : LFun := ⟨2, 17, [],
 (.seq
 (.reg false [2] [2] [
 ⟨(some 2), .box, [(.t 0)], none, []⟩,
 ⟨(some 4), .mv, [(.c (.int .i64 0))], none, []⟩] 0 [1, 2])
 (.seq
 (.reg false [] [] [
 ⟨(some 5), .mv, [(.t 1)], none, []⟩,
 ⟨(some 6), (.conv .i64), [(.t 5)], none, []⟩,
 ⟨(some 7), (.fa 0), [(.t 2)], none, []⟩,
 ⟨(some 8), (.load none), [(.t 7)], none, []⟩,
 ⟨(some 9), (.fa 0), [(.t 2)], none, []⟩,
 ⟨(some 10), (.load none), [(.t 9)], none, []⟩,
 ⟨(some 11), .len, [(.t 10)], none, []⟩,
 ⟨(some 12), (.bin 0 .sub), [(.t 11), (.c (.int .i64 1))], none, []⟩,
 ⟨(some 13), (.ixs 1), [(.t 8), (.t 12)], none, []⟩,
 ⟨(some 14), (.load none), [(.t 13)], none, []⟩,
 ⟨(some 15), (.bin 0 .rem), [(.t 6), (.t 14)], none, []⟩,
 ⟨(some 16), (.bin 0 .add), [(.c (.int .i64 1)), (.t 15)], none, []⟩,
 ⟨(some 4), .mv, [(.t 16)], none, []⟩] 0 [4])
 .ret)),
 [(.t 4)]⟩
theorem c44 : funC Try.prog [(0, [1, 2]), (1, [4])] Try.f44 = some l44 := by kernel_rfl
def l45 : LFun := ⟨3, 20, [],
 (.seq
 (.reg false [3, 6] [3, 6] [
 ⟨(some 3), .box, [(.t 0)], none, []⟩,
 ⟨(some 6), (.alloc [(.int .i64 0), (.int .i64 0)]), [], none, []⟩] 0 [1, 2, 3, 6])
 (.seq
 (.reg false [] [] [
 ⟨(some 7), .mv, [(.t 1)], none, [9, 10, 11, 13, 14, 15, 16, 17, 18]⟩,
 ⟨(some 8), (.conv .i64), [(.t 7)], none, [9, 10, 11, 13, 14, 15, 16, 17, 18]⟩,
 ⟨(some 9), (.fa 2), [(.t 3)], none, [7, 8, 13, 14, 15, 16, 17, 18]⟩,
 ⟨(some 10), (.load none), [(.t 9)], none, [7, 8, 13, 14, 15, 16, 17, 18]⟩,
 ⟨(some 11), .len, [(.t 10)], none, [7, 8, 13, 14, 15, 16, 17, 18]⟩,
 ⟨(some 12), (.bin 0 .rem), [(.t 8), (.t 11)], none, [13, 14, 15, 16, 17, 18]⟩,
 ⟨(some 13), .mv, [(.t 2)], none, [7, 8, 9, 10, 11, 12, 15, 16, 17]⟩,
 ⟨(some 14), (.conv .i64), [(.t 13)], none, [7, 8, 9, 10, 11, 12, 15, 16, 17]⟩,
 ⟨(some 15), (.fa 1), [(.t 3)], none, [7, 8, 9, 10, 11, 12, 13, 14]⟩,
 ⟨(some 16), (.load none), [(.t 15)], none, [7, 8, 9, 10, 11, 12, 13, 14]⟩,
 ⟨(some 17), .len, [(.t 16)], none, [7, 8, 9, 10, 11, 12, 13, 14]⟩,
 ⟨(some 18), (.bin 0 .rem), [(.t 14), (.t 17)], none, [7, 8, 9, 10, 11, 12]⟩,
 ⟨(some 19), (.call true false false), [(.f 17), (.t 12), (.t 18)], none, []⟩,
 ⟨none, (.store 2 (some 6)), [(.t 6), (.t 19)], none, []⟩] 0 [6])
 .ret)),
 [(.c 6 (some 2))]⟩
theorem c45 : funC Try.prog [(0, [1, 2, 3, 6]), (1, [6])] Try.f45 = some l45 := by kernel_rfl
def l46 : LFun := ⟨2, 15, [],
 (.seq
 (.reg false [3] [3] [
 ⟨(some 3), .box, [(.t 1)], none, []⟩,
 ⟨(some 4), .mv, [(.c (.bool false))], none, []⟩] 0 [0, 3])
 (.seq
 (.reg false [] [] [
 ⟨(some 5), .mv, [(.t 0)], none, []⟩,
 ⟨(some 6), (.fa 0), [(.t 3)], none, []⟩,
 ⟨(some 7), (.load none), [(.t 6)], none, []⟩,
 ⟨(some 8), (.bin 0 .geq), [(.t 5), (.t 7)], none, []⟩,
 ⟨(some 9), .mv, [(.t 8)], none, []⟩,
 ⟨(some 10), .mv, [(.t 0)], (some (9, true)), []⟩,
 ⟨(some 11), (.fa 1), [(.t 3)], (some (9, true)), []⟩,
 ⟨(some 12), (.load none), [(.t 11)], (some (9, true)), []⟩,
 ⟨(some 13), (.bin 0 .leq), [(.t 10), (.t 12)], (some (9, true)), []⟩,
 ⟨(some 14), .pick, [(.t 9), (.t 13), (.c (.bool false))], none, []⟩,
 ⟨(some 4), .mv, [(.t 14)], none, []⟩] 0 [4])
 .ret)),
 [(.t 4)]⟩
theorem c46 : funC Try.prog [(0, [0, 3]), (1, [4])] Try.f46 = some l46 := by kernel_rfl
def l47 : LFun := ⟨2, 16, [],
 (.seq
 (.reg false [2] [2] [
 ⟨(some 2), .box, [(.t 0)], none, []⟩,
 ⟨(some 4), .mv, [(.c (.int .i64 0))], none, []⟩] 0 [1, 2])
 (.seq
 (.reg false [] [] [
 ⟨(some 5), (.fa 0), [(.t 2)], none, [7, 8, 9, 10, 11, 12, 13, 14]⟩,
 ⟨(some 6), (.load none), [(.t 5)], none, [7, 8, 9, 10, 11, 12, 13, 14]⟩,
 ⟨(some 7), .mv, [(.t 1)], none, [5, 6, 8, 9, 10, 11, 12, 13]⟩,
 ⟨(some 8), (.fa 1), [(.t 2)], none, [5, 6, 7, 10, 11]⟩,
 ⟨(some 9), (.load none), [(.t 8)], none, [5, 6, 7, 10, 11]⟩,
 ⟨(some 10), (.fa 0), [(.t 2)], none, [5, 6, 7, 8, 9]⟩,
 ⟨(some 11), (.load none), [(.t 10)], none, [5, 6, 7, 8, 9]⟩,
 ⟨(some 12), (.bin 0 .sub), [(.t 9), (.t 11)], none, [5, 6, 7]⟩,
 ⟨(some 13), (.bin 0 .add), [(.t 12), (.c (.int .i64 1))], none, [5, 6, 7]⟩,
 ⟨(some 14), (.bin 0 .rem), [(.t 7), (.t 13)], none, [5, 6]⟩,
 ⟨(some 15), (.bin 0 .add), [(.t 6), (.t 14)], none, []⟩,
 ⟨(some 4), .mv, [(.t 15)], none, []⟩] 0 [4])
 .ret)),
 [(.t 4)]⟩
theorem c47 : funC Try.prog [(0, [1, 2]), (1, [4])] Try.f47 = some l47 := by kernel_rfl
def l48 : LFun := ⟨4, 30, [],
 (.seq
 (.reg false [] [] [
 ⟨(some 6), .mv, [(.c (.int .i64 0))], none, []⟩] 0 [0, 1, 2, 3])
 (.seq
 (.seq
 (.reg false [] [] [
 ⟨(some 7), (.load none), [(.t 2)], none, []⟩] 0 [0, 1, 3, 7])
 (.cond (.t 7)
 (.seq
 (.reg false [] [] [
 ⟨(some 8), .mv, [(.t 0)], none, []⟩,
 ⟨(some 9), (.fa 2), [(.t 3)], none, []⟩,
 ⟨(some 10), (.fa 1), [(.t 9)], none, []⟩,
 ⟨(some 11), (.load none), [(.t 10)], none, []⟩,
 ⟨(some 12), (.bin 0 .mul), [(.t 8), (.t 11)], none, []⟩,
 ⟨(some 13), .mv, [(.t 1)], none, []⟩,
 ⟨(some 14), (.fa 2), [(.t 3)], none, []⟩,
 ⟨(some 15), (.fa 0), [(.t 14)], none, []⟩,
 ⟨(some 16), (.load none), [(.t 15)], none, []⟩,
 ⟨(some 17), (.bin 0 .mul), [(.t 13), (.t 16)], none, []⟩,
 ⟨(some 18), (.bin 0 .sub), [(.t 12), (.t 17)], none, []⟩,
 ⟨(some 6), .mv, [(.t 18)], none, []⟩] 0 [6])
 .ret)
 .skip))
 (.seq
 (.reg false [] [] [
 ⟨(some 19), .mv, [(.t 0)], none, []⟩,
 ⟨(some 20), (.fa 2), [(.t 3)], none, []⟩,
 ⟨(some 21), (.fa 1), [(.t 20)], none, []⟩,
 ⟨(some 22), (.load none), [(.t 21)], none, []⟩,
 ⟨(some 23), (.bin 0 .mul), [(.t 19), (.t 22)], none, []⟩,
 ⟨(some 24), .mv, [(.t 1)], none, []⟩,
 ⟨(some 25), (.fa 2), [(.t 3)], none, []⟩,
 ⟨(some 26), (.fa 0), [(.t 25)], none, []⟩,
 ⟨(some 27), (.load none), [(.t 26)], none, []⟩,
 ⟨(some 28), (.bin 0 .mul), [(.t 24), (.t 27)], none, []⟩,
 ⟨(some 29), (.bin 0 .add), [(.t 23), (.t 28)], none, []⟩,
 ⟨(some 6), .mv, [(.t 29)], none, []⟩] 0 [6])
 .ret))),
 [(.t 6)]⟩
theorem c48 : funC Try.prog [(0, [0, 1, 2, 3]), (1, [0, 1, 3, 7]), (2, [6]), (3, [6])] Try.f48 = some l48 := by kernel_rfl
def l49 : LFun := ⟨5, 32, [],
 (.seq
 (.reg false [] [] [
 ⟨(some 7), .mv, [(.c (.bool false))], none, []⟩] 0 [0, 1, 2, 3, 4])
 (.seq
 (.reg false [] [] [
 ⟨(some 8), (.load none), [(.t 2)], none, [9, 10, 12, 13, 14, 15, 16, 17]⟩,
 ⟨(some 9), .mv, [(.t 0)], none, [8, 10, 12, 13, 14, 15, 16, 17]⟩,
 ⟨(some 10), .mv, [(.t 1)], none, [8, 9, 12, 13, 14, 15, 16, 17]⟩,
 ⟨(some 11), (.call true false false), [(.t 8), (.t 9), (.t 10)], none, [12, 13, 14, 15, 16, 17]⟩,
 ⟨(some 12), (.fa 0), [(.t 3)], none, [8, 9, 10, 11, 14, 15, 16]⟩,
 ⟨(some 13), (.load none), [(.t 12)], none, [8, 9, 10, 11, 14, 15, 16]⟩,
 ⟨(some 14), (.fa 2), [(.t 4)], none, [8, 9, 10, 11, 12, 13]⟩,
 ⟨(some 15), (.fa 1), [(.t 14)], none, [8, 9, 10, 11, 12, 13]⟩,
 ⟨(some 16), (.load none), [(.t 15)], none, [8, 9, 10, 11, 12, 13]⟩,
 ⟨(some 17), (.bin 0 .mul), [(.t 13), (.t 16)], none, [8, 9, 10, 11]⟩,
 ⟨(some 18), (.bin 0 .geq), [(.t 11), (.t 17)], none, []⟩,
 ⟨(some 19), .mv, [(.t 18)], none, []⟩,
 ⟨(some 20), (.load none), [(.t 2)], (some (19, true)), [21, 22, 24, 25, 26, 27, 28, 29]⟩,
 ⟨(some 21), .mv, [(.t 0)], (some (19, true)), [20, 22, 24, 25, 26, 27, 28, 29]⟩,
 ⟨(some 22), .mv, [(.t 1)], (some (19, true)), [20, 21, 24, 25, 26, 27, 28, 29]⟩,
 ⟨(some 23), (.call true false false), [(.t 20), (.t 21), (.t 22)], (some (19, true)), [24, 25, 26, 27, 28, 29]⟩,
 ⟨(some 24), (.fa 1), [(.t 3)], (some (19, true)), [20, 21, 22, 23, 26, 27, 28]⟩,
 ⟨(some 25), (.load none), [(.t 24)], (some (19, true)), [20, 21, 22, 23, 26, 27, 28]⟩,
 ⟨(some 26), (.fa 2), [(.t 4)], (some (19, true)), [20, 21, 22, 23, 24, 25]⟩,
 ⟨(some 27), (.fa 1), [(.t 26)], (some (19, true)), [20, 21, 22, 23, 24, 25]⟩,
 ⟨(some 28), (.load none), [(.t 27)], (some (19, true)), [20, 21, 22, 23, 24, 25]⟩,
 ⟨(some 29), (.bin 0 .mul), [(.t 25), (.t 28)], (some (19, true)), [20, 21, 22, 23]⟩,
 ⟨(some 30), (.bin 0 .leq), [(.t 23), (.t 29)], (some (19, true)), []⟩,
 ⟨(some 31), .pick, [(.t 19), (.t 30), (.c (.bool false))], none, []⟩,
 ⟨(some 7), .mv, [(.t 31)], none, []⟩] 0 [7])
 .ret)),
 [(.t 7)]⟩
theorem c49 : funC Try.prog [(0, [0, 1, 2, 3, 4]), (1, [7])] Try.f49 = some l49 := by kernel_rfl
def l50 : LFun := ⟨3, 33, [],
 (.seq
 (.reg false [3, 6] [3, 6] [
 ⟨(some 3), .box, [(.t 0)], none, []⟩,
 ⟨(some 6), (.alloc [(.int .i64 0), (.int .i64 0)]), [], none, []⟩] 0 [1, 2, 3, 6])
 (.seq
 (.reg false [] [] [
 ⟨(some 8), (.fa 1), [(.t 3)], none, []⟩,
 ⟨(some 9), (.load none), [(.t 8)], none, []⟩,
 ⟨(some 10), (.fa 0), [(.t 3)], none, []⟩,
 ⟨(some 11), (.load none), [(.t 10)], none, []⟩,
 ⟨(some 12), (.bin 0 .sub), [(.t 9), (.t 11)], none, []⟩,
 ⟨(some 13), (.bin 0 .add), [(.t 12), (.c (.int .i64 1))], none, []⟩,
 ⟨(some 7), .mv, [(.t 13)], none, []⟩] 0 [1, 2, 3, 6, 7])
 (.seq
 (.reg false [] [] [
 ⟨(some 14), (.fa 0), [(.t 3)], none, [16, 17, 18, 19, 20, 22, 23, 24, 25, 26, 27, 28, 29, 30, 31]⟩,
 ⟨(some 15), (.load none), [(.t 14)], none, [16, 17, 18, 19, 20, 22, 23, 24, 25, 26, 27, 28, 29, 30, 31]⟩,
 ⟨(some 16), .mv, [(.t 1)], none, [14, 15, 17, 19, 22, 23, 24, 25, 26, 27, 28, 29, 30, 31]⟩,
 ⟨(some 17), .mv, [(.t 7)], none, [14, 15, 16, 19, 22, 23, 24, 25, 26, 27, 28, 29, 30, 31]⟩,
 ⟨(some 18), (.bin 0 .mul), [(.t 16), (.t 17)], none, [14, 15, 19, 22, 23, 24, 25, 26, 27, 28, 29, 30, 31]⟩,
 ⟨(some 19), .mv, [(.t 2)], none, [14, 15, 16, 17, 18, 22, 23, 24, 25, 26, 27, 28, 29, 30, 31]⟩,
 ⟨(some 20), (.bin 0 .quo), [(.t 18), (.t 19)], none, [14, 15, 22, 23, 24, 25, 26, 27, 28, 29, 30, 31]⟩,
 ⟨(some 21), (.bin 0 .add), [(.t 15), (.t 20)], none, [22, 23, 24, 25, 26, 27, 28, 29, 30, 31]⟩,
 ⟨(some 22), (.fa 0), [(.t 3)], none, [14, 15, 16, 17, 18, 19, 20, 21, 24, 25, 26, 27, 28, 29]⟩,
 ⟨(some 23), (.load none), [(.t 22)], none, [14, 15, 16, 17, 18, 19, 20, 21, 24, 25, 26, 27, 28, 29]⟩,
 ⟨(some 24), .mv, [(.t 1)], none, [14, 15, 16, 17, 18, 19, 20, 21, 22, 23, 26, 28]⟩,
 ⟨(some 25), (.bin 0 .add), [(.t 24), (.c (.int .i64 1))], none, [14, 15, 16, 17, 18, 19, 20, 21, 22, 23, 26, 28]⟩,
 ⟨(some 26), .mv, [(.t 7)], none, [14, 15, 16, 17, 18, 19, 20, 21, 22, 23, 24, 25, 28]⟩,
 ⟨(some 27), (.bin 0 .mul), [(.t 25), (.t 26)], none, [14, 15, 16, 17, 18, 19, 20, 21, 22, 23, 28]⟩,
 ⟨(some 28), .mv, [(.t 2)], none, [14, 15, 16, 17, 18, 19, 20, 21, 22, 23, 24, 25, 26, 27]⟩,
 ⟨(some 29), (.bin 0 .quo), [(.t 27), (.t 28)], none, [14, 15, 16, 17, 18, 19, 20, 21, 22, 23]⟩,
 ⟨(some 30), (.bin 0 .add), [(.t 23), (.t 29)], none, [14, 15, 16, 17, 18, 19, 20, 21]⟩,
 ⟨(some 31), (.bin 0 .sub), [(.t 30), (.c (.int .i64 1))], none, [14, 15, 16, 17, 18, 19, 20, 21]⟩,
 ⟨(some 32), (.call true false false), [(.f 26), (.t 21), (.t 31)], none, []⟩,
 ⟨none, (.store 2 (some 6)), [(.t 6), (.t 32)], none, []⟩] 0 [6])
 .ret))),
 [(.c 6 (some 2))]⟩
theorem c50 : funC Try.prog [(0, [1, 2, 3, 6]), (1, [1, 2, 3, 6, 7]), (2, [6])] Try.f50 = some l50 := by kernel_rfl
def b51_0 : LCode :=
 (.seq
 (.seq
 (.reg true [] [] [
 ⟨(some 10), .mv, [(.t 7)], none, []⟩,
 ⟨(some 11), .mv, [(.t 0)], none, []⟩,
 ⟨(some 12), (.bin 0 .lss), [(.t 10), (.t 11)], none, []⟩] 0 [0, 1, 2, 3, 4, 7, 12])
 (.cond (.t 12)
 .skip
 (.exit 0)))
 (.seq
 (.block 1
 (.seq
 (.reg true [8, 9] [8, 9] [
 ⟨(some 15), (.load none), [(.t 1)], none, [16, 17, 18, 20, 21, 22, 23, 8, 9]⟩,
 ⟨(some 16), (.load (some 2)), [(.t 2)], none, [15, 17, 18, 20, 21, 22, 23, 8, 9]⟩,
 ⟨(some 17), .mv, [(.t 7)], none, [15, 16, 18, 20, 21, 22, 23, 8, 9]⟩,
 ⟨(some 18), .mv, [(.t 0)], none, [15, 16, 17, 20, 21, 22, 23, 8, 9]⟩,
 ⟨(some 19), (.call true false false), [(.t 15), (.t 16), (.t 17), (.t 18)], none, [20, 21, 22, 23, 8, 9]⟩,
 ⟨(some 20), (.load none), [(.t 1)], none, [15, 16, 17, 18, 19, 21, 22, 23, 8, 9]⟩,
 ⟨(some 21), (.load (some 2)), [(.t 3)], none, [15, 16, 17, 18, 19, 20, 22, 23, 8, 9]⟩,
 ⟨(some 22), .mv, [(.t 7)], none, [15, 16, 17, 18, 19, 20, 21, 23, 8, 9]⟩,
 ⟨(some 23), .mv, [(.t 0)], none, [15, 16, 17, 18, 19, 20, 21, 22, 8, 9]⟩,
 ⟨(some 24), (.call true false false), [(.t 20), (.t 21), (.t 22), (.t 23)], none, [8, 9]⟩,
 ⟨(some 8), (.alloc [(.int .i64 0), (.int .i64 0)]), [], none, [15, 16, 17, 18, 19, 20, 21, 22, 23, 24, 9]⟩,
 ⟨(some 9), (.alloc [(.int .i64 0), (.int .i64 0)]), [], none, [15, 16, 17, 18, 19, 20, 21, 22, 23, 24, 8]⟩,
 ⟨none, (.store 2 (some 8)), [(.t 8), (.t 19)], none, []⟩,
 ⟨none, (.store 2 (some 9)), [(.t 9), (.t 24)], none, []⟩] 0 [0, 1, 2, 3, 4, 7, 8, 9])
 (.seq
 (.reg true [] [] [
 ⟨(some 25), (.fa 0), [(.t 8)], none, []⟩,
 ⟨(some 26), (.load none), [(.t 25)], none, []⟩,
 ⟨(some 27), (.fa 1), [(.t 8)], none, []⟩,
 ⟨(some 28), (.load none), [(.t 27)], none, []⟩,
 ⟨(some 29), (.bin 0 .gtr), [(.t 26), (.t 28)], none, []⟩,
 ⟨(some 30), .mv, [(.t 29)], none, []⟩,
 ⟨(some 31), (.fa 0), [(.t 9)], (some (30, false)), []⟩,
 ⟨(some 32), (.load none), [(.t 31)], (some (30, false)), []⟩,
 ⟨(some 33), (.fa 1), [(.t 9)], (some (30, false)), []⟩,
 ⟨(some 34), (.load none), [(.t 33)], (some (30, false)), []⟩,
 ⟨(some 35), (.bin 0 .gtr), [(.t 32), (.t 34)], (some (30, false)), []⟩,
 ⟨(some 36), .pick, [(.t 30), (.c (.bool true)), (.t 35)], none, []⟩,
 ⟨(some 37), .mv, [(.t 36)], none, []⟩,
 ⟨(some 38), (.fa 0), [(.t 9)], (some (37, false)), []⟩,
 ⟨(some 39), (.load none), [(.t 38)], (some (37, false)), []⟩,
 ⟨(some 40), (.fa 1), [(.t 8)], (some (37, false)), []⟩,
 ⟨(some 41), (.load none), [(.t 40)], (some (37, false)), []⟩,
 ⟨(some 42), (.bin 0 .sub), [(.t 39), (.t 41)], (some (37, false)), []⟩,
 ⟨(some 43), (.fa 0), [(.t 4)], (some (37, false)), []⟩,
 ⟨(some 44), (.load none), [(.t 43)], (some (37, false)), []⟩,
 ⟨(some 45), (.bin 0 .lss), [(.t 42), (.t 44)], (some (37, false)), []⟩,
 ⟨(some 46), .pick, [(.t 37), (.c (.bool true)), (.t 45)], none, []⟩,
 ⟨(some 47), .mv, [(.t 46)], none, []⟩,
 ⟨(some 48), (.fa 1), [(.t 9)], (some (47, false)), []⟩,
 ⟨(some 49), (.load none), [(.t 48)], (some (47, false)), []⟩,
 ⟨(some 50), (.fa 0), [(.t 8)], (some (47, false)), []⟩,
 ⟨(some 51), (.load none), [(.t 50)], (some (47, false)), []⟩,
 ⟨(some 52), (.bin 0 .sub), [(.t 49), (.t 51)], (some (47, false)), []⟩,
 ⟨(some 53), (.fa 1), [(.t 4)], (some (47, false)), []⟩,
 ⟨(some 54), (.load none), [(.t 53)], (some (47, false)), []⟩,
 ⟨(some 55), (.bin 0 .gtr), [(.t 52), (.t 54)], (some (47, false)), []⟩,
 ⟨(some 56), .pick, [(.t 47), (.c (.bool true)), (.t 55)], none, []⟩] 0 [0, 1, 2, 3, 4, 7, 56])
 (.cond (.t 56)
 (.seq
 (.reg true [] [] [
 ⟨(some 6), .mv, [(.c (.bool false))], none, []⟩] 0 [6])
 .ret)
 .skip))))
 (.reg true [] [] [
 ⟨(some 13), .mv, [(.t 7)], none, []⟩,
 ⟨(some 14), (.bin 0 .add), [(.t 13), (.c (.int .i64 1))], none, []⟩,
 ⟨(some 7), .mv, [(.t 14)], none, []⟩] 0 [0, 1, 2, 3, 4, 7])))
def l51 : LFun := ⟨5, 57, [],
 (.seq
 (.reg false [] [] [
 ⟨(some 6), .mv, [(.c (.bool false))], none, []⟩] 0 [0, 1, 2, 3, 4])
 (.seq
 (.seq
 (.reg false [] [] [
 ⟨(some 7), .mv, [(.c (.int .i64 0))], none, []⟩] 0 [0, 1, 2, 3, 4, 7])
 (.block 0
 (.loop b51_0)))
 (.seq
 (.reg false [] [] [
 ⟨(some 6), .mv, [(.c (.bool true))], none, []⟩] 0 [6])
 .ret))),
 [(.t 6)]⟩
theorem c51 : funC Try.prog [(0, [0, 1, 2, 3, 4]), (1, [0, 1, 2, 3, 4, 7]), (2, [0, 1, 2, 3, 4, 7, 12]), (3, [0, 1, 2, 3, 4, 7]), (4, [0, 1, 2, 3, 4, 7, 8, 9]), (5, [0, 1, 2, 3, 4, 7, 56]), (6, [6]), (7, [6])] Try.f51 = some l51 := by kernel_rfl
def l52 : LFun := ⟨0, 9, [],
 (.seq
 (.reg false [0] [0] [
 ⟨(some 0), (.alloc [.nil, .nil, .nil]), [], none, []⟩] 0 [0])
 (.seq
 (.reg false [1, 2, 3, 4, 5, 6, 7] [1, 2, 3, 4, 5, 6, 7] [
 ⟨(some 1), (.bsl 1 [(.int .i64 0)] 3 [0, 1, 2]), [(.c (.int .i64 30000)), (.c (.int .i64 60000)), (.c (.int .i64 100000))], none, []⟩,
 ⟨(some 2), (.bsl 1 [(.int .i64 0)] 3 [0, 1, 2]), [(.c (.int .i64 100)), (.c (.int .i64 120)), (.c (.int .i64 150))], none, []⟩,
 ⟨(some 3), (.bsl 1 [(.int .i64 0)] 3 [0, 1, 2]), [(.c (.int .i64 200)), (.c (.int .i64 250)), (.c (.int .i64 300))], none, []⟩,
 ⟨(some 4), (.bsl 1 [.nil] 2 [0, 1]), [(.t 2), (.t 3)], none, []⟩,
 ⟨(some 5), (.bsl 1 [(.int .i64 0)] 3 [0, 1, 2]), [(.c (.int .i64 0)), (.c (.int .i64 0)), (.c (.int .i64 0))], none, []⟩,
 ⟨(some 6), (.bsl 1 [(.int .i64 0)] 3 [0, 1, 2]), [(.c (.int .i64 30)), (.c (.int .i64 40)), (.c (.int .i64 50))], none, []⟩,
 ⟨(some 7), (.bsl 1 [.nil] 2 [0, 1]), [(.t 5), (.t 6)], none, []⟩,
 ⟨(some 8), (.build [.nil, .nil, .nil] [(0, 1), (1, 1), (2, 1)]), [(.t 1), (.t 4), (.t 7)], none, []⟩,
 ⟨none, (.store 3 none), [(.t 0), (.t 8)], none, []⟩] 0 [0])
 .ret)),
 [(.c 0 (some 3))]⟩
theorem c52 : funC Try.prog [(0, [0]), (1, [0])] Try.f52 = some l52 := by kernel_rfl
def l53 : LFun := ⟨1, 6, [],
 (.seq
 (.reg false [] [] [
 ⟨(some 2), .mv, [(.c .nil)], none, []⟩] 0 [0])
 (.seq
 (.reg false [3, 5] [3] [
 ⟨(some 3), (.bsl 1 [(.int .i64 0)] 0 []), [], none, []⟩,
 ⟨(some 4), .mv, [(.t 0)], none, []⟩,
 ⟨(some 5), (.append false 1 8), [(.t 3), (.t 4)], none, []⟩,
 ⟨(some 2), .mv, [(.t 5)], none, []⟩] 0 [2])
 .ret)),
 [(.t 2)]⟩
theorem c53 : funC Try.prog [(0, [0]), (1, [2])] Try.f53 = some l53 := by kernel_rfl
def l54 : LFun := ⟨2, 9, [],
 (.seq
 (.reg false [] [] [
 ⟨(some 4), .mv, [(.c (.bool false))], none, []⟩] 0 [0, 1])
 (.seq
 (.reg false [] [] [
 ⟨(some 5), .mv, [(.t 0)], none, []⟩,
 ⟨(some 6), .len, [(.t 5)], none, []⟩,
 ⟨(some 7), .mv, [(.t 1)], none, []⟩,
 ⟨(some 8), (.bin 0 .gtr), [(.t 6), (.t 7)], none, []⟩,
 ⟨(some 4), .mv, [(.t 8)], none, []⟩] 0 [4])
 .ret)),
 [(.t 4)]⟩
theorem c54 : funC Try.prog [(0, [0, 1]), (1, [4])] Try.f54 = some l54 := by kernel_rfl
def l55 : LFun := ⟨2, 9, [],
 (.seq
 (.reg false [] [] [
 ⟨(some 4), .mv, [(.c (.bool false))], none, []⟩] 0 [0, 1])
 (.seq
 (.reg false [] [] [
 ⟨(some 5), .mv, [(.t 0)], none, []⟩,
 ⟨(some 6), .len, [(.t 5)], none, []⟩,
 ⟨(some 7), .mv, [(.t 1)], none, []⟩,
 ⟨(some 8), (.bin 0 .gtr), [(.t 6), (.t 7)], none, []⟩,
 ⟨(some 4), .mv, [(.t 8)], none, []⟩] 0 [4])
 .ret)),
 [(.t 4)]⟩
theorem c55 : funC Try.prog [(0, [0, 1]), (1, [4])] Try.f55 = some l55 := by kernel_rfl
def l56 : LFun := ⟨2, 9, [],
 (.seq
 (.reg false [] [] [
 ⟨(some 4), .mv, [(.c (.bool false))], none, []⟩] 0 [0, 1])
 (.seq
 (.reg false [] [] [
 ⟨(some 5), .mv, [(.t 0)], none, []⟩,
 ⟨(some 6), .mv, [(.t 1)], none, []⟩,
 ⟨(some 7), (.call false false false), [(.f 81), (.t 5), (.t 6)], none, []⟩,
 ⟨(some 8), (.bin 0 .geq), [(.t 7), (.c (.int .i64 0))], none, []⟩,
 ⟨(some 4), .mv, [(.t 8)], none, []⟩] 0 [4])
 .ret)),
 [(.t 4)]⟩
theorem c56 : funC Try.prog [(0, [0, 1]), (1, [4])] Try.f56 = some l56 := by kernel_rfl
def l57 : LFun := ⟨2, 10, [],
 (.seq
 (.reg false [] [] [
 ⟨(some 3), .mv, [(.c (.bool false))], none, []⟩] 0 [0, 1])
 (.seq
 (.reg false [] [] [
 ⟨(some 4), .mv, [(.t 0)], none, []⟩,
 ⟨(some 5), .len, [(.t 4)], none, []⟩,
 ⟨(some 6), (.fa 0), [(.t 1)], none, []⟩,
 ⟨(some 7), (.load none), [(.t 6)], none, []⟩,
 ⟨(some 8), .len, [(.t 7)], none, []⟩,
 ⟨(some 9), (.bin 0 .neq), [(.t 5), (.t 8)], none, []⟩,
 ⟨(some 3), .mv, [(.t 9)], none, []⟩] 0 [3])
 .ret)),
 [(.t 3)]⟩
theorem c57 : funC Try.prog [(0, [0, 1]), (1, [3])] Try.f57 = some l57 := by kernel_rfl
def l58 : LFun := ⟨3, 11, [],
 (.seq
 (.reg false [3, 4] [3, 4] [
 ⟨(some 3), .box, [(.t 0)], none, []⟩,
 ⟨(some 4), .box, [(.t 1)], none, []⟩,
 ⟨(some 6), .mv, [(.c (.bool false))], none, []⟩] 0 [2, 3, 4])
 (.seq
 (.reg false [] [] [
 ⟨(some 7), .mv, [(.t 2)], none, []⟩,
 ⟨(some 8), (.mkf 83), [(.t 3), (.t 4)], none, []⟩,
 ⟨(some 9), (.call false false false), [(.f 82), (.t 7), (.t 8)], none, []⟩,
 ⟨(some 10), (.un .not), [(.t 9)], none, []⟩,
 ⟨(some 6), .mv, [(.t 10)], none, []⟩] 0 [3, 4, 6])
 .ret)),
 [(.t 6)]⟩
theorem c58 : funC Try.prog [(0, [2, 3, 4]), (1, [3, 4, 6])] Try.f58 = some l58 := by kernel_rfl
def b59_0 : LCode :=
 (.seq
 (.reg true [] [] [
 ⟨(some 12), (.bin 0 .lss), [(.t 11), (.t 10)], none, []⟩] 0 [0, 3, 9, 10, 11, 12])
 (.seq
 (.cond (.t 12)
 .skip
 (.exit 0))
 (.seq
 (.block 1
 (.seq
 (.reg true [] [] [
 ⟨(some 13), (.ixs 1), [(.t 9), (.t 11)], none, []⟩,
 ⟨(some 14), (.load none), [(.t 13)], none, []⟩,
 ⟨(some 5), .mv, [(.t 14)], none, []⟩] 0 [0, 3, 5, 9, 10, 11])
 (.seq
 (.reg true [] [] [
 ⟨(some 15), .mv, [(.t 3)], none, []⟩,
 ⟨(some 16), .mv, [(.t 5)], none, []⟩,
 ⟨(some 17), .len, [(.t 16)], none, []⟩,
 ⟨(some 18), (.bin 0 .add), [(.t 15), (.t 17)], none, []⟩,
 ⟨(some 3), .mv, [(.t 18)], none, []⟩] 0 [0, 3, 9, 10, 11])
 (.seq
 (.reg true [] [] [
 ⟨(some 19), .mv, [(.t 3)], none, []⟩,
 ⟨(some 20), (.bin 0 .lss), [(.t 19), (.c (.int .i64 0))], none, []⟩] 0 [0, 3, 9, 10, 11, 20])
 (.cond (.t 20)
 (.reg true [] [] [
 ⟨none, .bad, [], none, []⟩,
 ⟨none, .bad, [], none, []⟩] 0 [0, 3, 9, 10, 11])
 .skip)))))
 (.reg true [] [] [
 ⟨(some 22), (.bin 0 .add), [(.t 11), (.c (.int .i64 1))], none, []⟩,
 ⟨(some 11), .mv, [(.t 22)], none, []⟩] 0 [0, 3, 9, 10, 11]))))
def b59_1 : LCode :=
 (.seq
 (.reg true [] [] [
 ⟨(some 28), (.bin 0 .lss), [(.t 27), (.t 26)], none, []⟩] 0 [6, 25, 26, 27, 28])
 (.seq
 (.cond (.t 28)
 .skip
 (.exit 2))
 (.seq
 (.block 3
 (.seq
 (.reg true [] [] [
 ⟨(some 29), (.ixs 1), [(.t 25), (.t 27)], none, []⟩,
 ⟨(some 30), (.load none), [(.t 29)], none, []⟩,
 ⟨(some 8), .mv, [(.t 30)], none, []⟩] 0 [6, 8, 25, 26, 27])
 (.reg true [33] [] [
 ⟨(some 31), .mv, [(.t 6)], none, []⟩,
 ⟨(some 32), .mv, [(.t 8)], none, []⟩,
 ⟨(some 33), (.append false 1 8), [(.t 31), (.t 32)], none, []⟩,
 ⟨(some 6), .mv, [(.t 33)], none, []⟩] 0 [6, 25, 26, 27])))
 (.reg true [] [] [
 ⟨(some 34), (.bin 0 .add), [(.t 27), (.c (.int .i64 1))], none, []⟩,
 ⟨(some 27), .mv, [(.t 34)], none, []⟩] 0 [6, 25, 26, 27]))))
def l59 : LFun := ⟨1, 36, [],
 (.seq
 (.reg false [] [] [
 ⟨(some 2), .mv, [(.c .nil)], none, []⟩] 0 [0])
 (.seq
 (.reg false [] [] [
 ⟨(some 3), .mv, [(.c (.int .i64 0))], none, []⟩] 0 [0, 3])
 (.seq
 (.seq
 (.reg false [] [] [
 ⟨(some 9), .mv, [(.t 0)], none, []⟩,
 ⟨(some 10), .len, [(.t 9)], none, []⟩,
 ⟨(some 11), .mv, [(.c (.int .i64 0))], none, []⟩] 0 [0, 3, 9, 10, 11])
 (.block 0
 (.loop b59_0)))
 (.seq
 (.reg false [24] [24] [
 ⟨(some 23), .mv, [(.t 3)], none, []⟩,
 ⟨(some 24), (.call false false true), [(.f 84), (.c .nil), (.t 23)], none, []⟩,
 ⟨(some 6), .mv, [(.t 24)], none, []⟩] 0 [0, 6])
 (.seq
 (.seq
 (.reg false [] [] [
 ⟨(some 25), .mv, [(.t 0)], none, []⟩,
 ⟨(some 26), .len, [(.t 25)], none, []⟩,
 ⟨(some 27), .mv, [(.c (.int .i64 0))], none, []⟩] 0 [6, 25, 26, 27])
 (.block 2
 (.loop b59_1)))
 (.seq
 (.reg false [] [] [
 ⟨(some 35), .mv, [(.t 6)], none, []⟩,
 ⟨(some 2), .mv, [(.t 35)], none, []⟩] 0 [2])
 .ret)))))),
 [(.t 2)]⟩
theorem c59 : funC Try.prog [(0, [0]), (1, [0, 3]), (2, [0, 3, 9, 10, 11]), (3, [0, 3, 9, 10, 11, 12]), (4, [0, 3, 5, 9, 10, 11]), (5, [0, 3, 9, 10, 11]), (6, [0, 3, 9, 10, 11, 20]), (7, [0, 3, 9, 10, 11]), (8, [0, 3, 9, 10, 11]), (9, [0, 6]), (10, [6, 25, 26, 27]), (11, [6, 25, 26, 27, 28]), (12, [6, 8, 25, 26, 27]), (13, [6, 25, 26, 27]), (14, [6, 25, 26, 27]), (15, [2])] Try.f59 = some l59 := by kernel_rfl
def b60_0 : LCode :=
 (.seq
 (.reg true [] [] [
 ⟨(some 23), (.bin 0 .lss), [(.t 22), (.t 21)], none, []⟩] 0 [1, 6, 7, 20, 21, 22, 23])
 (.seq
 (.cond (.t 23)
 .skip
 (.exit 0))
 (.seq
 (.block 1
 (.seq
 (.reg true [11] [11] [
 ⟨(some 24), (.ixs 2), [(.t 20), (.t 22)], none, []⟩,
 ⟨(some 25), (.load (some 2)), [(.t 24)], none, []⟩,
 ⟨(some 11), (.alloc [(.int .i64 0), (.int .i64 0)]), [], none, []⟩,
 ⟨none, (.store 2 none), [(.t 11), (.t 25)], none, []⟩] 0 [1, 6, 11, 20, 21, 22])
 (.seq
 (.seq
 (.reg true [] [] [
 ⟨(some 26), (.load (some 3)), [(.t 6)], none, []⟩,
 ⟨(some 27), (.load (some 2)), [(.t 11)], none, []⟩,
 ⟨(some 28), (.call false false false), [(.f 85), (.t 26), (.t 27)], none, []⟩,
 ⟨(some 29), (.un .not), [(.t 28)], none, []⟩] 0 [1, 6, 20, 21, 22, 29])
 (.cond (.t 29)
 (.seq
 (.reg true [] [] [
 ⟨(some 30), (.load (some 3)), [(.t 6)], none, []⟩,
 ⟨none, (.store 3 none), [(.t 6), (.t 30)], none, []⟩,
 ⟨(some 7), .mv, [(.c (.int .i64 0))], none, []⟩,
 ⟨(some 8), .mv, [(.c (.int .i64 7))], none, []⟩] 0 [6, 7, 8])
 .ret)
 .skip))
 (.seq
 (.reg true [] [] [
 ⟨(some 32), (.load (some 3)), [(.t 6)], none, []⟩,
 ⟨(some 33), .mv, [(.t 1)], none, []⟩,
 ⟨(some 34), (.call false false false), [(.f 70), (.t 32), (.t 33)], none, []⟩,
 ⟨(some 31), .mv, [(.t 34)], none, []⟩,
 ⟨(some 35), (.ext 0), [(.t 31)], none, []⟩,
 ⟨(some 36), (.ext 1), [(.t 31)], none, []⟩,
 ⟨(some 7), .mv, [(.t 35)], none, []⟩,
 ⟨(some 8), .mv, [(.t 36)], none, []⟩] 0 [1, 6, 7, 8, 20, 21, 22])
 (.seq
 (.reg true [] [] [
 ⟨(some 37), .mv, [(.t 8)], none, []⟩,
 ⟨(some 38), (.bin 0 .neq), [(.t 37), (.c (.int .i64 0))], none, []⟩] 0 [1, 6, 7, 8, 20, 21, 22, 38])
 (.cond (.t 38)
 (.seq
 (.reg true [] [] [
 ⟨(some 39), (.load (some 3)), [(.t 6)], none, []⟩,
 ⟨(some 40), .mv, [(.t 8)], none, []⟩,
 ⟨none, (.store 3 none), [(.t 6), (.t 39)], none, []⟩,
 ⟨(some 7), .mv, [(.c (.int .i64 0))], none, []⟩,
 ⟨(some 8), .mv, [(.t 40)], none, []⟩] 0 [6, 7, 8])
 .ret)
 .skip))))))
 (.reg true [] [] [
 ⟨(some 41), (.bin 0 .add), [(.t 22), (.c (.int .i64 1))], none, []⟩,
 ⟨(some 22), .mv, [(.t 41)], none, []⟩] 0 [1, 6, 7, 20, 21, 22]))))
def l60 : LFun := ⟨3, 44, [],
 (.seq
 (.reg false [3, 6] [3, 6] [
 ⟨(some 3), .box, [(.t 0)], none, []⟩,
 ⟨(some 6), (.alloc [.nil, .nil, .nil]), [], none, []⟩,
 ⟨(some 7), .mv, [(.c (.int .i64 0))], none, []⟩,
 ⟨(some 8), .mv, [(.c (.int .i64 0))], none, []⟩] 0 [1, 2, 3, 6, 7])
 (.seq
 (.reg false [] [] [
 ⟨(some 12), (.load (some 3)), [(.t 3)], none, []⟩,
 ⟨(some 13), (.build [.nil, .nil, .nil] [(0, 3)]), [(.t 12)], none, []⟩,
 ⟨none, (.store 3 none), [(.t 6), (.t 13)], none, []⟩] 0 [1, 2, 3, 6, 7])
 (.seq
 (.seq
 (.reg false [] [] [
 ⟨(some 14), (.load (some 3)), [(.t 3)], none, []⟩,
 ⟨(some 15), (.call false false false), [(.f 15), (.t 14)], none, []⟩,
 ⟨(some 9), .mv, [(.t 15)], none, []⟩] 0 [1, 2, 6, 7, 9])
 (.seq
 (.reg false [] [] [
 ⟨(some 16), .mv, [(.t 9)], none, []⟩,
 ⟨(some 17), (.bin 0 .neq), [(.t 16), (.c (.int .i64 0))], none, []⟩] 0 [1, 2, 6, 7, 9, 17])
 (.cond (.t 17)
 (.seq
 (.reg false [] [] [
 ⟨(some 18), (.load (some 3)), [(.t 6)], none, []⟩,
 ⟨(some 19), .mv, [(.t 9)], none, []⟩,
 ⟨none, (.store 3 none), [(.t 6), (.t 18)], none, []⟩,
 ⟨(some 7), .mv, [(.c (.int .i64 0))], none, []⟩,
 ⟨(some 8), .mv, [(.t 19)], none, []⟩] 0 [6, 7, 8])
 .ret)
 .skip)))
 (.seq
 (.seq
 (.reg false [] [] [
 ⟨(some 20), .mv, [(.t 2)], none, []⟩,
 ⟨(some 21), .len, [(.t 20)], none, []⟩,
 ⟨(some 22), .mv, [(.c (.int .i64 0))], none, []⟩] 0 [1, 6, 7, 20, 21, 22])
 (.block 0
 (.loop b60_0)))
 (.seq
 (.reg false [] [] [
 ⟨(some 42), (.load (some 3)), [(.t 6)], none, []⟩,
 ⟨(some 43), .mv, [(.t 7)], none, []⟩,
 ⟨none, (.store 3 none), [(.t 6), (.t 42)], none, []⟩,
 ⟨(some 7), .mv, [(.t 43)], none, []⟩,
 ⟨(some 8), .mv, [(.c (.int .i64 0))], none, []⟩] 0 [6, 7, 8])
 .ret))))),
 [(.c 6 (some 3)), (.t 7), (.t 8)]⟩
theorem c60 : funC Try.prog [(0, [1, 2, 3, 6, 7]), (1, [1, 2, 3, 6, 7]), (2, [1, 2, 6, 7, 9]), (3, [1, 2, 6, 7, 9, 17]), (4, [6, 7, 8]), (5, [1, 6, 7, 20, 21, 22]), (6, [1, 6, 7, 20, 21, 22, 23]), (7, [1, 6, 11, 20, 21, 22]), (8, [1, 6, 20, 21, 22, 29]), (9, [6, 7, 8]), (10, [1, 6, 7, 8, 20, 21, 22]), (11, [1, 6, 7, 8, 20, 21, 22, 38]), (12, [6, 7, 8]), (13, [1, 6, 7, 20, 21, 22]), (14, [6, 7, 8])] Try.f60 = some l60 := by kernel_rfl
def l61 : LFun := ⟨5, 54, [],
 (.seq
 (.reg false [5, 6, 10] [5, 6, 10] [
 ⟨(some 5), .box, [(.t 0)], none, []⟩,
 ⟨(some 6), .box, [(.t 1)], none, []⟩,
 ⟨(some 10), (.alloc [(.int .i64 0), (.int .i64 0)]), [], none, []⟩] 0 [2, 3, 4, 5, 6, 10])
 (.seq
 (.reg false [] [] [
 ⟨(some 13), (.fa 0), [(.t 5)], none, [16, 17, 20, 23, 24, 25, 26, 27, 28, 29, 30, 31, 32]⟩,
 ⟨(some 14), (.fa 2), [(.t 13)], none, [16, 17, 20, 23, 24, 25, 26, 27, 28, 29, 30, 31, 32]⟩,
 ⟨(some 15), (.load none), [(.t 14)], none, [16, 17, 20, 23, 24, 25, 26, 27, 28, 29, 30, 31, 32]⟩,
 ⟨(some 16), (.fa 0), [(.t 6)], none, [13, 14, 15, 20, 23, 24, 25, 26, 27, 28, 29, 30, 31, 32]⟩,
 ⟨(some 17), (.load none), [(.t 16)], none, [13, 14, 15, 20, 23, 24, 25, 26, 27, 28, 29, 30, 31, 32]⟩,
 ⟨(some 18), (.ixs 1), [(.t 15), (.t 17)], none, [20, 23, 24, 25, 26, 27, 28, 29, 30, 31, 32]⟩,
 ⟨(some 19), (.load none), [(.t 18)], none, [20, 23, 24, 25, 26, 27, 28, 29, 30, 31, 32]⟩,
 ⟨(some 20), .mv, [(.t 4)], none, [13, 14, 15, 16, 17, 18, 19, 23, 24, 25, 26, 27, 28, 29, 30, 31, 32]⟩,
 ⟨(some 21), (.ixs 1), [(.t 19), (.t 20)], none, [23, 24, 25, 26, 27, 28, 29, 30, 31, 32]⟩,
 ⟨(some 22), (.load none), [(.t 21)], none, [23, 24, 25, 26, 27, 28, 29, 30, 31, 32]⟩,
 ⟨(some 23), (.fa 0), [(.t 5)], none, [13, 14, 15, 16, 17, 18, 19, 20, 21, 22, 26, 27, 30, 11]⟩,
 ⟨(some 24), (.fa 1), [(.t 23)], none, [13, 14, 15, 16, 17, 18, 19, 20, 21, 22, 26, 27, 30, 11]⟩,
 ⟨(some 25), (.load none), [(.t 24)], none, [13, 14, 15, 16, 17, 18, 19, 20, 21, 22, 26, 27, 30, 11]⟩,
 ⟨(some 26), (.fa 1), [(.t 6)], none, [13, 14, 15, 16, 17, 18, 19, 20, 21, 22, 23, 24, 25, 30, 11]⟩,
 ⟨(some 27), (.load none), [(.t 26)], none, [13, 14, 15, 16, 17, 18, 19, 20, 21, 22, 23, 24, 25, 30, 11]⟩,
 ⟨(some 28), (.ixs 1), [(.t 25), (.t 27)], none, [13, 14, 15, 16, 17, 18, 19, 20, 21, 22, 30, 11]⟩,
 ⟨(some 29), (.load none), [(.t 28)], none, [13, 14, 15, 16, 17, 18, 19, 20, 21, 22, 30, 11]⟩,
 ⟨(some 30), .mv, [(.t 4)], none, [13, 14, 15, 16, 17, 18, 19, 20, 21, 22, 23, 24, 25, 26, 27, 28, 29, 11]⟩,
 ⟨(some 31), (.ixs 1), [(.t 29), (.t 30)], none, [13, 14, 15, 16, 17, 18, 19, 20, 21, 22, 11]⟩,
 ⟨(some 32), (.load none), [(.t 31)], none, [13, 14, 15, 16, 17, 18, 19, 20, 21, 22, 11]⟩,
 ⟨(some 11), .mv, [(.t 22)], none, [23, 24, 25, 26, 27, 28, 29, 30, 31, 32]⟩,
 ⟨(some 12), .mv, [(.t 32)], none, []⟩] 0 [2, 3, 10, 11, 12])
 (.seq
 (.seq
 (.reg false [] [] [
 ⟨(some 33), .mv, [(.t 2)], none, []⟩] 0 [3, 10, 11, 12, 33])
 (.cond (.t 33)
 (.seq
 (.reg false [] [] [
 ⟨(some 34), .mv, [(.t 3)], none, []⟩,
 ⟨(some 35), .mv, [(.t 11)], none, []⟩,
 ⟨(some 36), (.bin 0 .add), [(.t 34), (.t 35)], none, []⟩,
 ⟨(some 37), .mv, [(.t 3)], none, []⟩,
 ⟨(some 38), .mv, [(.t 11)], none, []⟩,
 ⟨(some 39), (.bin 0 .add), [(.t 37), (.t 38)], none, []⟩,
 ⟨(some 40), .mv, [(.t 12)], none, []⟩,
 ⟨(some 41), (.bin 0 .add), [(.t 39), (.t 40)], none, []⟩,
 ⟨(some 42), (.build [(.int .i64 0), (.int .i64 0)] [(0, 1), (1, 1)]), [(.t 36), (.t 41)], none, []⟩,
 ⟨(some 43), (.build [(.int .i64 0), (.int .i64 0)] [(0, 2)]), [(.t 42)], none, []⟩,
 ⟨none, (.store 2 none), [(.t 10), (.t 43)], none, []⟩] 0 [10])
 .ret)
 .skip))
 (.seq
 (.reg false [] [] [
 ⟨(some 44), .mv, [(.t 3)], none, []⟩,
 ⟨(some 45), .mv, [(.t 11)], none, []⟩,
 ⟨(some 46), (.bin 0 .sub), [(.t 44), (.t 45)], none, []⟩,
 ⟨(some 47), .mv, [(.t 12)], none, []⟩,
 ⟨(some 48), (.bin 0 .sub), [(.t 46), (.t 47)], none, []⟩,
 ⟨(some 49), .mv, [(.t 3)], none, []⟩,
 ⟨(some 50), .mv, [(.t 11)], none, []⟩,
 ⟨(some 51), (.bin 0 .sub), [(.t 49), (.t 50)], none, []⟩,
 ⟨(some 52), (.build [(.int .i64 0), (.int .i64 0)] [(0, 1), (1, 1)]), [(.t 48), (.t 51)], none, []⟩,
 ⟨(some 53), (.build [(.int .i64 0), (.int .i64 0)] [(0, 2)]), [(.t 52)], none, []⟩,
 ⟨none, (.store 2 none), [(.t 10), (.t 53)], none, []⟩] 0 [10])
 .ret)))),
 [(.c 10 (some 2))]⟩
theorem c61 : funC Try.prog [(0, [2, 3, 4, 5, 6, 10]), (1, [2, 3, 10, 11, 12]), (2, [3, 10, 11, 12, 33]), (3, [10]), (4, [10])] Try.f61 = some l61 := by kernel_rfl
def l62 : LFun := ⟨5, 50, [],
 (.seq
 (.reg false [5, 6, 10] [5, 6, 10] [
 ⟨(some 5), .box, [(.t 0)], none, []⟩,
 ⟨(some 6), .box, [(.t 1)], none, []⟩,
 ⟨(some 10), (.alloc [(.int .i64 0), (.int .i64 0)]), [], none, []⟩] 0 [2, 3, 4, 5, 6, 10])
 (.seq
 (.reg false [] [] [
 ⟨(some 13), (.fa 2), [(.t 5)], none, [15, 16, 19, 22, 23, 24, 25, 26, 27, 28, 29, 30]⟩,
 ⟨(some 14), (.load none), [(.t 13)], none, [15, 16, 19, 22, 23, 24, 25, 26, 27, 28, 29, 30]⟩,
 ⟨(some 15), (.fa 0), [(.t 6)], none, [13, 14, 19, 22, 23, 24, 25, 26, 27, 28, 29, 30]⟩,
 ⟨(some 16), (.load none), [(.t 15)], none, [13, 14, 19, 22, 23, 24, 25, 26, 27, 28, 29, 30]⟩,
 ⟨(some 17), (.ixs 1), [(.t 14), (.t 16)], none, [19, 22, 23, 24, 25, 26, 27, 28, 29, 30]⟩,
 ⟨(some 18), (.load none), [(.t 17)], none, [19, 22, 23, 24, 25, 26, 27, 28, 29, 30]⟩,
 ⟨(some 19), .mv, [(.t 4)], none, [13, 14, 15, 16, 17, 18, 22, 23, 24, 25, 26, 27, 28, 29, 30]⟩,
 ⟨(some 20), (.ixs 1), [(.t 18), (.t 19)], none, [22, 23, 24, 25, 26, 27, 28, 29, 30]⟩,
 ⟨(some 21), (.load none), [(.t 20)], none, [22, 23, 24, 25, 26, 27, 28, 29, 30]⟩,
 ⟨(some 22), (.fa 1), [(.t 5)], none, [13, 14, 15, 16, 17, 18, 19, 20, 21, 24, 25, 28, 11]⟩,
 ⟨(some 23), (.load none), [(.t 22)], none, [13, 14, 15, 16, 17, 18, 19, 20, 21, 24, 25, 28, 11]⟩,
 ⟨(some 24), (.fa 1), [(.t 6)], none, [13, 14, 15, 16, 17, 18, 19, 20, 21, 22, 23, 28, 11]⟩,
 ⟨(some 25), (.load none), [(.t 24)], none, [13, 14, 15, 16, 17, 18, 19, 20, 21, 22, 23, 28, 11]⟩,
 ⟨(some 26), (.ixs 1), [(.t 23), (.t 25)], none, [13, 14, 15, 16, 17, 18, 19, 20, 21, 28, 11]⟩,
 ⟨(some 27), (.load none), [(.t 26)], none, [13, 14, 15, 16, 17, 18, 19, 20, 21, 28, 11]⟩,
 ⟨(some 28), .mv, [(.t 4)], none, [13, 14, 15, 16, 17, 18, 19, 20, 21, 22, 23, 24, 25, 26, 27, 11]⟩,
 ⟨(some 29), (.ixs 1), [(.t 27), (.t 28)], none, [13, 14, 15, 16, 17, 18, 19, 20, 21, 11]⟩,
 ⟨(some 30), (.load none), [(.t 29)], none, [13, 14, 15, 16, 17, 18, 19, 20, 21, 11]⟩,
 ⟨(some 11), .mv, [(.t 21)], none, [22, 23, 24, 25, 26, 27, 28, 29, 30]⟩,
 ⟨(some 12), .mv, [(.t 30)], none, []⟩] 0 [2, 3, 10, 11, 12])
 (.seq
 (.seq
 (.reg false [] [] [
 ⟨(some 31), .mv, [(.t 2)], none, []⟩] 0 [3, 10, 11, 12, 31])
 (.cond (.t 31)
 (.seq
 (.reg false [] [] [
 ⟨(some 32), .mv, [(.t 3)], none, []⟩,
 ⟨(some 33), .mv, [(.t 11)], none, []⟩,
 ⟨(some 34), (.bin 0 .add), [(.t 32), (.t 33)], none, []⟩,
 ⟨(some 35), .mv, [(.t 3)], none, []⟩,
 ⟨(some 36), .mv, [(.t 11)], none, []⟩,
 ⟨(some 37), (.bin 0 .add), [(.t 35), (.t 36)], none, []⟩,
 ⟨(some 38), .mv, [(.t 12)], none, []⟩,
 ⟨(some 39), (.bin 0 .add), [(.t 37), (.t 38)], none, []⟩,
 ⟨(some 40), (.build [(.int .i64 0), (.int .i64 0)] [(0, 1), (1, 1)]), [(.t 34), (.t 39)], none, []⟩,
 ⟨none, (.store 2 none), [(.t 10), (.t 40)], none, []⟩] 0 [10])
 .ret)
 .skip))
 (.seq
 (.reg false [] [] [
 ⟨(some 41), .mv, [(.t 3)], none, []⟩,
 ⟨(some 42), .mv, [(.t 11)], none, []⟩,
 ⟨(some 43), (.bin 0 .sub), [(.t 41), (.t 42)], none, []⟩,
 ⟨(some 44), .mv, [(.t 12)], none, []⟩,
 ⟨(some 45), (.bin 0 .sub), [(.t 43), (.t 44)], none, []⟩,
 ⟨(some 46), .mv, [(.t 3)], none, []⟩,
 ⟨(some 47), .mv, [(.t 11)], none, []⟩,
 ⟨(some 48), (.bin 0 .sub), [(.t 46), (.t 47)], none, []⟩,
 ⟨(some 49), (.build [(.int .i64 0), (.int .i64 0)] [(0, 1), (1, 1)]), [(.t 45), (.t 48)], none, []⟩,
 ⟨none, (.store 2 none), [(.t 10), (.t 49)], none, []⟩] 0 [10])
 .ret)))),
 [(.c 10 (some 2))]⟩
theorem c62 : funC Try.prog [(0, [2, 3, 4, 5, 6, 10]), (1, [2, 3, 10, 11, 12]), (2, [3, 10, 11, 12, 31]), (3, [10]), (4, [10])] Try.f62 = some l62 := by kernel_rfl
def b63_0 : LCode :=
 (.seq
 (.seq
 (.reg true [] [] [
 ⟨(some 11), .mv, [(.t 5)], none, []⟩,
 ⟨(some 12), .mv, [(.t 0)], none, []⟩,
 ⟨(some 13), .len, [(.t 12)], none, []⟩,
 ⟨(some 14), (.bin 0 .lss), [(.t 11), (.t 13)], none, []⟩] 0 [0, 1, 5, 14])
 (.cond (.t 14)
 .skip
 (.exit 0)))
 (.seq
 (.block 1
 (.seq
 (.reg true [] [] [
 ⟨(some 17), .mv, [(.t 0)], none, [18, 21, 22, 23, 24]⟩,
 ⟨(some 18), .mv, [(.t 5)], none, [17, 21, 22, 23, 24]⟩,
 ⟨(some 19), (.ixs 1), [(.t 17), (.t 18)], none, [21, 22, 23, 24]⟩,
 ⟨(some 20), (.load none), [(.t 19)], none, [21, 22, 23, 24]⟩,
 ⟨(some 21), .mv, [(.t 1)], none, [17, 18, 19, 20, 22]⟩,
 ⟨(some 22), .mv, [(.t 5)], none, [17, 18, 19, 20, 21]⟩,
 ⟨(some 23), (.ixs 1), [(.t 21), (.t 22)], none, [17, 18, 19, 20]⟩,
 ⟨(some 24), (.load none), [(.t 23)], none, [17, 18, 19, 20]⟩,
 ⟨(some 25), (.bin 0 .neq), [(.t 20), (.t 24)], none, []⟩] 0 [0, 1, 5, 25])
 (.cond (.t 25)
 (.seq
 (.reg true [] [] [
 ⟨(some 4), .mv, [(.c (.bool false))], none, []⟩] 0 [4])
 .ret)
 .skip)))
 (.reg true [] [] [
 ⟨(some 15), .mv, [(.t 5)], none, []⟩,
 ⟨(some 16), (.bin 0 .add), [(.t 15), (.c (.int .i64 1))], none, []⟩,
 ⟨(some 5), .mv, [(.t 16)], none, []⟩] 0 [0, 1, 5])))
def l63 : LFun := ⟨2, 26, [],
 (.seq
 (.reg false [] [] [
 ⟨(some 4), .mv, [(.c (.bool false))], none, []⟩] 0 [0, 1])
 (.seq
 (.seq
 (.reg false [] [] [
 ⟨(some 6), .mv, [(.t 0)], none, []⟩,
 ⟨(some 7), .len, [(.t 6)], none, []⟩,
 ⟨(some 8), .mv, [(.t 1)], none, []⟩,
 ⟨(some 9), .len, [(.t 8)], none, []⟩,
 ⟨(some 10), (.bin 0 .neq), [(.t 7), (.t 9)], none, []⟩] 0 [0, 1, 10])
 (.cond (.t 10)
 (.seq
 (.reg false [] [] [
 ⟨(some 4), .mv, [(.c (.bool false))], none, []⟩] 0 [4])
 .ret)
 .skip))
 (.seq
 (.seq
 (.reg false [] [] [
 ⟨(some 5), .mv, [(.c (.int .i64 0))], none, []⟩] 0 [0, 1, 5])
 (.block 0
 (.loop b63_0)))
 (.seq
 (.reg false [] [] [
 ⟨(some 4), .mv, [(.c (.bool true))], none, []⟩] 0 [4])
 .ret)))),
 [(.t 4)]⟩
theorem c63 : funC Try.prog [(0, [0, 1]), (1, [0, 1, 10]), (2, [4]), (3, [0, 1, 5]), (4, [0, 1, 5, 14]), (5, [0, 1, 5]), (6, [0, 1, 5, 25]), (7, [4]), (8, [4])] Try.f63 = some l63 := by kernel_rfl
def b64_1 : LCode :=
 (.seq
 (.seq
 (.reg true [] [] [
 ⟨(some 27), .mv, [(.t 10)], none, []⟩,
 ⟨(some 28), .mv, [(.t 0)], none, []⟩,
 ⟨(some 29), .mv, [(.t 9)], none, []⟩,
 ⟨(some 30), (.ixs 1), [(.t 28), (.t 29)], none, []⟩,
 ⟨(some 31), (.load none), [(.t 30)], none, []⟩,
 ⟨(some 32), .len, [(.t 31)], none, []⟩,
 ⟨(some 33), (.bin 0 .lss), [(.t 27), (.t 32)], none, []⟩,
 ⟨(some 34), .mv, [(.t 33)], none, []⟩,
 ⟨(some 35), .mv, [(.t 3)], (some (34, true)), []⟩,
 ⟨(some 36), (.un .not), [(.t 35)], (some (34, true)), []⟩,
 ⟨(some 37), .pick, [(.t 34), (.t 36), (.c (.bool false))], none, []⟩] 0 [0, 1, 2, 3, 9, 10, 37])
 (.cond (.t 37)
 .skip
 (.exit 2)))
 (.seq
 (.block 3
 (.seq
 (.reg true [] [] [
 ⟨(some 40), .mv, [(.t 0)], none, []⟩,
 ⟨(some 41), .mv, [(.t 9)], none, []⟩,
 ⟨(some 42), (.ixs 1), [(.t 40), (.t 41)], none, []⟩,
 ⟨(some 43), (.load none), [(.t 42)], none, []⟩,
 ⟨(some 44), .mv, [(.t 10)], none, []⟩,
 ⟨(some 45), (.ixs 1), [(.t 43), (.t 44)], none, []⟩,
 ⟨(some 46), (.load none), [(.t 45)], none, []⟩,
 ⟨(some 47), .mv, [(.t 2)], none, []⟩,
 ⟨(some 48), (.call false false false), [(.f 65), (.t 46), (.t 47), (.c (.int .i64 100000))], none, []⟩,
 ⟨(some 49), (.un .not), [(.t 48)], none, []⟩] 0 [0, 1, 2, 3, 9, 10, 49])
 (.cond (.t 49)
 (.seq
 (.reg true [] [] [
 ⟨(some 8), .mv, [(.c (.int .i64 2))], none, []⟩] 0 [8])
 .ret)
 .skip)))
 (.reg true [] [] [
 ⟨(some 38), .mv, [(.t 10)], none, []⟩,
 ⟨(some 39), (.bin 0 .add), [(.t 38), (.c (.int .i64 1))], none, []⟩,
 ⟨(some 10), .mv, [(.t 39)], none, []⟩] 0 [0, 1, 2, 3, 9, 10])))
def b64_0 : LCode :=
 (.seq
 (.seq
 (.reg true [] [] [
 ⟨(some 11), .mv, [(.t 9)], none, []⟩,
 ⟨(some 12), .mv, [(.t 0)], none, []⟩,
 ⟨(some 13), .len, [(.t 12)], none, []⟩,
 ⟨(some 14), (.bin 0 .lss), [(.t 11), (.t 13)], none, []⟩] 0 [0, 1, 2, 3, 9, 14])
 (.cond (.t 14)
 .skip
 (.exit 0)))
 (.seq
 (.block 1
 (.seq
 (.seq
 (.reg true [] [] [
 ⟨(some 17), .mv, [(.t 3)], none, []⟩,
 ⟨(some 18), .mv, [(.t 17)], none, []⟩,
 ⟨(some 19), .mv, [(.t 0)], (some (18, true)), []⟩,
 ⟨(some 20), .mv, [(.t 9)], (some (18, true)), []⟩,
 ⟨(some 21), (.ixs 1), [(.t 19), (.t 20)], (some (18, true)), []⟩,
 ⟨(some 22), (.load none), [(.t 21)], (some (18, true)), []⟩,
 ⟨(some 23), .len, [(.t 22)], (some (18, true)), []⟩,
 ⟨(some 24), .mv, [(.t 1)], (some (18, true)), []⟩,
 ⟨(some 25), (.bin 0 .neq), [(.t 23), (.t 24)], (some (18, true)), []⟩,
 ⟨(some 26), .pick, [(.t 18), (.t 25), (.c (.bool false))], none, []⟩] 0 [0, 1, 2, 3, 9, 26])
 (.cond (.t 26)
 (.seq
 (.reg true [] [] [
 ⟨(some 8), .mv, [(.c (.int .i64 4))], none, []⟩] 0 [8])
 .ret)
 .skip))
 (.seq
 (.reg true [] [] [
 ⟨(some 10), .mv, [(.c (.int .i64 0))], none, []⟩] 0 [0, 1, 2, 3, 9, 10])
 (.block 2
 (.loop b64_1)))))
 (.reg true [] [] [
 ⟨(some 15), .mv, [(.t 9)], none, []⟩,
 ⟨(some 16), (.bin 0 .add), [(.t 15), (.c (.int .i64 1))], none, []⟩,
 ⟨(some 9), .mv, [(.t 16)], none, []⟩] 0 [0, 1, 2, 3, 9])))
def l64 : LFun := ⟨4, 57, [],
 (.seq
 (.reg false [] [] [
 ⟨(some 8), .mv, [(.c (.int .i64 0))], none, []⟩] 0 [0, 1, 2, 3])
 (.seq
 (.seq
 (.reg false [] [] [
 ⟨(some 9), .mv, [(.c (.int .i64 0))], none, []⟩] 0 [0, 1, 2, 3, 9])
 (.block 0
 (.loop b64_0)))
 (.seq
 (.seq
 (.reg false [] [] [
 ⟨(some 50), .mv, [(.t 3)], none, []⟩,
 ⟨(some 51), (.un .not), [(.t 50)], none, []⟩,
 ⟨(some 52), .mv, [(.t 51)], none, []⟩,
 ⟨(some 53), .mv, [(.t 0)], (some (52, true)), []⟩,
 ⟨(some 54), .len, [(.t 53)], (some (52, true)), []⟩,
 ⟨(some 55), (.bin 0 .eql), [(.t 54), (.c (.int .i64 0))], (some (52, true)), []⟩,
 ⟨(some 56), .pick, [(.t 52), (.t 55), (.c (.bool false))], none, []⟩] 0 [56])
 (.cond (.t 56)
 (.seq
 (.reg false [] [] [
 ⟨(some 8), .mv, [(.c (.int .i64 2))], none, []⟩] 0 [8])
 .ret)
 .skip))
 (.seq
 (.reg false [] [] [
 ⟨(some 8), .mv, [(.c (.int .i64 0))], none, []⟩] 0 [8])
 .ret)))),
 [(.t 8)]⟩
theorem c64 : funC Try.prog [(0, [0, 1, 2, 3]), (1, [0, 1, 2, 3, 9]), (2, [0, 1, 2, 3, 9, 14]), (3, [0, 1, 2, 3, 9]), (4, [0, 1, 2, 3, 9, 26]), (5, [8]), (6, [0, 1, 2, 3, 9, 10]), (7, [0, 1, 2, 3, 9, 10, 37]), (8, [0, 1, 2, 3, 9, 10]), (9, [0, 1, 2, 3, 9, 10, 49]), (10, [8]), (11, [56]), (12, [8]), (13, [8])] Try.f64 = some l64 := by kernel_rfl
def l65 : LFun := ⟨3, 15, [],
 (.seq
 (.reg false [] [] [
 ⟨(some 6), .mv, [(.c (.bool false))], none, []⟩] 0 [0, 1, 2])
 (.seq
 (.reg false [] [] [
 ⟨(some 7), .mv, [(.t 0)], none, []⟩,
 ⟨(some 8), .mv, [(.t 1)], none, []⟩,
 ⟨(some 9), (.bin 0 .geq), [(.t 7), (.t 8)], none, []⟩,
 ⟨(some 10), .mv, [(.t 9)], none, []⟩,
 ⟨(some 11), .mv, [(.t 0)], (some (10, true)), []⟩,
 ⟨(some 12), .mv, [(.t 2)], (some (10, true)), []⟩,
 ⟨(some 13), (.bin 0 .leq), [(.t 11), (.t 12)], (some (10, true)), []⟩,
 ⟨(some 14), .pick, [(.t 10), (.t 13), (.c (.bool false))], none, []⟩,
 ⟨(some 6), .mv, [(.t 14)], none, []⟩] 0 [6])
 .ret)),
 [(.t 6)]⟩
theorem c65 : funC Try.prog [(0, [0, 1, 2]), (1, [6])] Try.f65 = some l65 := by kernel_rfl
def l66 : LFun := ⟨3, 57, [],
 (.seq
 (.reg false [3, 5, 6] [3, 5, 6] [
 ⟨(some 3), .box, [(.t 0)], none, []⟩,
 ⟨(some 5), .box, [(.t 2)], none, []⟩,
 ⟨(some 6), (.alloc [(.int .i64 0), (.int .i64 0), (.int .i64 0), (.int .i64 0), (.int .i64 0), (.int .i64 0)]), [], none, []⟩,
 ⟨(some 7), .mv, [(.c (.int .i64 0))], none, []⟩] 0 [1, 3, 5, 6])
 (.seq
 (.seq
 (.reg false [26] [26] [
 ⟨(some 8), (.load (some 2)), [(.t 3)], none, []⟩,
 ⟨(some 9), (.build [(.int .i64 0), (.int .i64 0)] [(0, 2)]), [(.t 8)], none, []⟩,
 ⟨(some 10), (.call false false false), [(.f 71), (.t 9), (.c (.int .i64 (-20000000))), (.c (.int .i64 20000000))], none, []⟩,
 ⟨(some 11), (.un .not), [(.t 10)], none, []⟩,
 ⟨(some 12), .mv, [(.t 11)], none, []⟩,
 ⟨(some 13), (.fa 0), [(.t 5)], (some (12, false)), []⟩,
 ⟨(some 14), (.load (some 2)), [(.t 13)], (some (12, false)), []⟩,
 ⟨(some 15), (.build [(.int .i64 0), (.int .i64 0)] [(0, 2)]), [(.t 14)], (some (12, false)), []⟩,
 ⟨(some 16), (.call false false false), [(.f 71), (.t 15), (.c (.int .i64 0)), (.c (.int .i64 10000))], (some (12, false)), []⟩,
 ⟨(some 17), (.un .not), [(.t 16)], (some (12, false)), []⟩,
 ⟨(some 18), .pick, [(.t 12), (.c (.bool true)), (.t 17)], none, []⟩,
 ⟨(some 19), .mv, [(.t 18)], none, []⟩,
 ⟨(some 20), (.fa 2), [(.t 5)], (some (19, false)), []⟩,
 ⟨(some 21), (.fa 0), [(.t 20)], (some (19, false)), []⟩,
 ⟨(some 22), (.load none), [(.t 21)], (some (19, false)), []⟩,
 ⟨(some 23), (.fa 2), [(.t 5)], (some (19, false)), []⟩,
 ⟨(some 24), (.fa 1), [(.t 23)], (some (19, false)), []⟩,
 ⟨(some 25), (.load none), [(.t 24)], (some (19, false)), []⟩,
 ⟨(some 26), (.bsl 1 [(.int .i64 0)] 2 [0, 1]), [(.t 22), (.t 25)], (some (19, false)), []⟩,
 ⟨(some 27), (.call false false false), [(.f 58), (.c (.int .i64 1)), (.c (.int .i64 1000)), (.t 26)], (some (19, false)), []⟩,
 ⟨(some 28), (.un .not), [(.t 27)], (some (19, false)), []⟩,
 ⟨(some 29), .pick, [(.t 19), (.c (.bool true)), (.t 28)], none, []⟩] 0 [1, 5, 6, 29])
 (.cond (.t 29)
 (.seq
 (.reg false [] [] [
 ⟨(some 30), (.load (some 6)), [(.t 6)], none, []⟩,
 ⟨none, (.store 6 none), [(.t 6), (.t 30)], none, []⟩,
 ⟨(some 7), .mv, [(.c (.int .i64 2))], none, []⟩] 0 [6, 7])
 .ret)
 .skip))
 (.seq
 (.reg false [] [] [
 ⟨(some 31), (.load (some 4)), [(.t 5)], none, []⟩,
 ⟨(some 32), (.fa 0), [(.t 5)], none, []⟩,
 ⟨(some 33), (.fa 0), [(.t 32)], none, []⟩,
 ⟨(some 34), (.load none), [(.t 33)], none, []⟩,
 ⟨(some 35), (.fa 2), [(.t 5)], none, []⟩,
 ⟨(some 36), (.fa 0), [(.t 35)], none, []⟩,
 ⟨(some 37), (.load none), [(.t 36)], none, []⟩,
 ⟨(some 38), (.bin 0 .mul), [(.t 34), (.t 37)], none, []⟩,
 ⟨(some 39), (.fa 0), [(.t 5)], none, []⟩,
 ⟨(some 40), (.fa 1), [(.t 39)], none, []⟩,
 ⟨(some 41), (.load none), [(.t 40)], none, []⟩,
 ⟨(some 42), (.fa 2), [(.t 5)], none, []⟩,
 ⟨(some 43), (.fa 0), [(.t 42)], none, []⟩,
 ⟨(some 44), (.load none), [(.t 43)], none, []⟩,
 ⟨(some 45), (.bin 0 .mul), [(.t 41), (.t 44)], none, []⟩,
 ⟨(some 46), (.build [(.int .i64 0), (.int .i64 0), (.int .i64 0), (.int .i64 0), (.int .i64 0), (.int .i64 0)] [(0, 4), (4, 1), (5, 1)]), [(.t 31), (.t 38), (.t 45)], none, []⟩,
 ⟨none, (.store 6 none), [(.t 6), (.t 46)], none, []⟩] 0 [1, 6])
 (.seq
 (.seq
 (.reg false [] [] [
 ⟨(some 47), .mv, [(.t 1)], none, []⟩] 0 [6, 47])
 (.cond (.t 47)
 (.reg false [] [] [
 ⟨(some 48), (.fa 5), [(.t 6)], none, []⟩,
 ⟨(some 49), (.load none), [(.t 48)], none, []⟩,
 ⟨(some 50), (.un .neg), [(.t 49)], none, []⟩,
 ⟨(some 51), (.fa 4), [(.t 6)], none, []⟩,
 ⟨(some 52), (.load none), [(.t 51)], none, []⟩,
 ⟨(some 53), (.un .neg), [(.t 52)], none, []⟩,
 ⟨(some 54), (.fa 4), [(.t 6)], none, []⟩,
 ⟨none, (.store 1 none), [(.t 54), (.t 50)], none, []⟩,
 ⟨(some 55), (.fa 5), [(.t 6)], none, []⟩,
 ⟨none, (.store 1 none), [(.t 55), (.t 53)], none, []⟩] 0 [6])
 .skip))
 (.seq
 (.reg false [] [] [
 ⟨(some 56), (.load (some 6)), [(.t 6)], none, []⟩,
 ⟨none, (.store 6 none), [(.t 6), (.t 56)], none, []⟩,
 ⟨(some 7), .mv, [(.c (.int .i64 0))], none, []⟩] 0 [6, 7])
 .ret))))),
 [(.c 6 (some 6)), (.t 7)]⟩
theorem c66 : funC Try.prog [(0, [1, 3, 5, 6]), (1, [1, 5, 6, 29]), (2, [6, 7]), (3, [1, 6]), (4, [6, 47]), (5, [6]), (6, [6, 7])] Try.f66 = some l66 := by kernel_rfl
def l67 : LFun := ⟨2, 10, [],
 (.seq
 (.reg false [2] [2] [
 ⟨(some 2), .box, [(.t 0)], none, []⟩,
 ⟨(some 4), .mv, [(.c (.int .i64 0))], none, []⟩] 0 [1, 2])
 (.seq
 (.reg false [] [] [
 ⟨(some 5), (.load (some 6)), [(.t 2)], none, []⟩,
 ⟨(some 6), .mv, [(.t 1)], none, []⟩,
 ⟨(some 7), (.un .neg), [(.t 6)], none, []⟩,
 ⟨(some 8), (.call false false false), [(.f 68), (.t 5), (.t 7)], none, []⟩,
 ⟨(some 9), (.un .neg), [(.t 8)], none, []⟩,
 ⟨(some 4), .mv, [(.t 9)], none, []⟩] 0 [4])
 .ret)),
 [(.t 4)]⟩
theorem c67 : funC Try.prog [(0, [1, 2]), (1, [4])] Try.f67 = some l67 := by kernel_rfl
def l68 : LFun := ⟨2, 21, [],
 (.seq
 (.reg false [2] [2] [
 ⟨(some 2), .box, [(.t 0)], none, []⟩,
 ⟨(some 4), .mv, [(.c (.int .i64 0))], none, []⟩] 0 [1, 2])
 (.seq
 (.reg false [] [] [
 ⟨(some 6), (.fa 0), [(.t 2)], none, []⟩,
 ⟨(some 7), (.fa 2), [(.t 6)], none, []⟩,
 ⟨(some 8), (.fa 1), [(.t 7)], none, []⟩,
 ⟨(some 9), (.load none), [(.t 8)], none, []⟩,
 ⟨(some 5), .mv, [(.t 9)], none, []⟩] 0 [1, 5])
 (.seq
 (.reg false [] [] [
 ⟨(some 10), .mv, [(.t 1)], none, []⟩,
 ⟨(some 11), .mv, [(.t 1)], none, []⟩,
 ⟨(some 12), .mv, [(.t 5)], none, []⟩,
 ⟨(some 13), (.bin 0 .rem), [(.t 11), (.t 12)], none, []⟩,
 ⟨(some 14), .mv, [(.t 5)], none, []⟩,
 ⟨(some 15), (.bin 0 .add), [(.t 13), (.t 14)], none, []⟩,
 ⟨(some 16), .mv, [(.t 5)], none, []⟩,
 ⟨(some 17), (.bin 0 .rem), [(.t 15), (.t 16)], none, []⟩,
 ⟨(some 18), (.bin 0 .sub), [(.t 10), (.t 17)], none, []⟩,
 ⟨(some 19), .mv, [(.t 5)], none, []⟩,
 ⟨(some 20), (.bin 0 .quo), [(.t 18), (.t 19)], none, []⟩,
 ⟨(some 4), .mv, [(.t 20)], none, []⟩] 0 [4])
 .ret))),
 [(.t 4)]⟩
theorem c68 : funC Try.prog [(0, [1, 2]), (1, [1, 5]), (2, [4])] Try.f68 = some l68 := by kernel_rfl
def l69 : LFun := ⟨4, 22, [],
 (.seq
 (.reg false [4, 5, 8] [4, 5, 8] [
 ⟨(some 4), .box, [(.t 0)], none, []⟩,
 ⟨(some 5), .box, [(.t 1)], none, []⟩,
 ⟨(some 8), (.alloc [(.int .i64 0), (.int .i64 0)]), [], none, []⟩] 0 [2, 3, 4, 5, 8])
 (.seq
 (.reg false [] [] [
 ⟨(some 9), (.load (some 3)), [(.t 4)], none, [10, 11, 12, 13, 15, 16, 17, 18, 19]⟩,
 ⟨(some 10), (.fa 0), [(.t 5)], none, [9, 12, 13, 15, 16, 17, 18, 19]⟩,
 ⟨(some 11), (.load (some 2)), [(.t 10)], none, [9, 12, 13, 15, 16, 17, 18, 19]⟩,
 ⟨(some 12), .mv, [(.t 2)], none, [9, 10, 11, 13, 15, 16, 17, 18, 19]⟩,
 ⟨(some 13), .mv, [(.t 3)], none, [9, 10, 11, 12, 15, 16, 17, 18, 19]⟩,
 ⟨(some 14), (.call true false false), [(.f 61), (.t 9), (.t 11), (.c (.bool false)), (.t 12), (.t 13)], none, [15, 16, 17, 18, 19]⟩,
 ⟨(some 15), (.load (some 3)), [(.t 4)], none, [9, 10, 11, 12, 13, 14, 16, 17, 18, 19]⟩,
 ⟨(some 16), (.fa 2), [(.t 5)], none, [9, 10, 11, 12, 13, 14, 15, 18, 19]⟩,
 ⟨(some 17), (.load (some 2)), [(.t 16)], none, [9, 10, 11, 12, 13, 14, 15, 18, 19]⟩,
 ⟨(some 18), .mv, [(.t 2)], none, [9, 10, 11, 12, 13, 14, 15, 16, 17, 19]⟩,
 ⟨(some 19), .mv, [(.t 3)], none, [9, 10, 11, 12, 13, 14, 15, 16, 17, 18]⟩,
 ⟨(some 20), (.call true false false), [(.f 61), (.t 15), (.t 17), (.c (.bool true)), (.t 18), (.t 19)], none, []⟩,
 ⟨(some 21), (.call true false false), [(.f 86), (.t 14), (.t 20)], none, []⟩,
 ⟨none, (.store 2 (some 8)), [(.t 8), (.t 21)], none, []⟩] 0 [8])
 .ret)),
 [(.c 8 (some 2))]⟩
theorem c69 : funC Try.prog [(0, [2, 3, 4, 5, 8]), (1, [8])] Try.f69 = some l69 := by kernel_rfl
def l70 : LFun := ⟨2, 19, [],
 (.seq
 (.reg false [2, 3] [2, 3] [
 ⟨(some 2), .box, [(.t 0)], none, []⟩,
 ⟨(some 3), .box, [(.t 1)], none, []⟩,
 ⟨(some 4), .mv, [(.c (.int .i64 0))], none, []⟩,
 ⟨(some 5), .mv, [(.c (.int .i64 0))], none, []⟩] 0 [2, 3])
 (.seq
 (.reg false [] [] [
 ⟨(some 7), (.fa 0), [(.t 2)], none, []⟩,
 ⟨(some 8), (.fa 0), [(.t 7)], none, []⟩,
 ⟨(some 9), (.load none), [(.t 8)], none, []⟩,
 ⟨(some 10), (.mkf 88), [(.t 3)], none, []⟩,
 ⟨(some 11), (.call false false false), [(.f 87), (.t 9), (.t 10)], none, []⟩,
 ⟨(some 6), .mv, [(.t 11)], none, []⟩] 0 [3, 6])
 (.seq
 (.seq
 (.reg false [] [] [
 ⟨(some 12), (.load none), [(.t 3)], none, []⟩,
 ⟨(some 13), (.bin 0 .lss), [(.t 12), (.c (.int .i64 1))], none, []⟩,
 ⟨(some 14), .mv, [(.t 13)], none, []⟩,
 ⟨(some 15), .mv, [(.t 6)], (some (14, false)), []⟩,
 ⟨(some 16), (.bin 0 .lss), [(.t 15), (.c (.int .i64 0))], (some (14, false)), []⟩,
 ⟨(some 17), .pick, [(.t 14), (.c (.bool true)), (.t 16)], none, []⟩] 0 [3, 6, 17])
 (.cond (.t 17)
 (.seq
 (.reg false [] [] [
 ⟨(some 4), .mv, [(.c (.int .i64 0))], none, []⟩,
 ⟨(some 5), .mv, [(.c (.int .i64 3))], none, []⟩] 0 [3, 4, 5])
 .ret)
 .skip))
 (.seq
 (.reg false [] [] [
 ⟨(some 18), .mv, [(.t 6)], none, []⟩,
 ⟨(some 4), .mv, [(.t 18)], none, []⟩,
 ⟨(some 5), .mv, [(.c (.int .i64 0))], none, []⟩] 0 [3, 4, 5])
 .ret)))),
 [(.t 4), (.t 5)]⟩
theorem c70 : funC Try.prog [(0, [2, 3]), (1, [3, 6]), (2, [3, 6, 17]), (3, [3, 4, 5]), (4, [3, 4, 5])] Try.f70 = some l70 := by kernel_rfl
def l71 : LFun := ⟨3, 26, [],
 (.seq
 (.reg false [3] [3] [
 ⟨(some 3), .box, [(.t 0)], none, []⟩,
 ⟨(some 6), .mv, [(.c (.bool false))], none, []⟩] 0 [1, 2, 3])
 (.seq
 (.reg false [15] [15] [
 ⟨(some 7), .mv, [(.t 1)], none, []⟩,
 ⟨(some 8), .mv, [(.t 2)], none, []⟩,
 ⟨(some 9), (.fa 0), [(.t 3)], none, []⟩,
 ⟨(some 10), (.fa 0), [(.t 9)], none, []⟩,
 ⟨(some 11), (.load none), [(.t 10)], none, []⟩,
 ⟨(some 12), (.fa 0), [(.t 3)], none, []⟩,
 ⟨(some 13), (.fa 1), [(.t 12)], none, []⟩,
 ⟨(some 14), (.load none), [(.t 13)], none, []⟩,
 ⟨(some 15), (.bsl 1 [(.int .i64 0)] 2 [0, 1]), [(.t 11), (.t 14)], none, []⟩,
 ⟨(some 16), (.call false false false), [(.f 58), (.t 7), (.t 8), (.t 15)], none, []⟩,
 ⟨(some 17), .mv, [(.t 16)], none, []⟩,
 ⟨(some 18), (.fa 0), [(.t 3)], (some (17, true)), []⟩,
 ⟨(some 19), (.fa 0), [(.t 18)], (some (17, true)), []⟩,
 ⟨(some 20), (.load none), [(.t 19)], (some (17, true)), []⟩,
 ⟨(some 21), (.fa 0), [(.t 3)], (some (17, true)), []⟩,
 ⟨(some 22), (.fa 1), [(.t 21)], (some (17, true)), []⟩,
 ⟨(some 23), (.load none), [(.t 22)], (some (17, true)), []⟩,
 ⟨(some 24), (.bin 0 .leq), [(.t 20), (.t 23)], (some (17, true)), []⟩,
 ⟨(some 25), .pick, [(.t 17), (.t 24), (.c (.bool false))], none, []⟩,
 ⟨(some 6), .mv, [(.t 25)], none, []⟩] 0 [6])
 .ret)),
 [(.t 6)]⟩
theorem c71 : funC Try.prog [(0, [1, 2, 3]), (1, [6])] Try.f71 = some l71 := by kernel_rfl
def b72_1 : LCode :=
 (.seq
 (.reg true [] [] [
 ⟨(some 18), (.bin 0 .lss), [(.t 17), (.t 16)], none, []⟩] 0 [1, 2, 4, 9, 10, 16, 17, 18])
 (.seq
 (.cond (.t 18)
 .skip
 (.exit 2))
 (.seq
 (.block 3
 (.seq
 (.reg true [] [] [
 ⟨(some 19), .mv, [(.t 17)], none, []⟩,
 ⟨(some 5), .mv, [(.t 19)], none, []⟩] 0 [1, 2, 4, 5, 9, 10, 16, 17])
 (.seq
 (.reg true [] [] [
 ⟨(some 20), .mv, [(.t 1)], none, []⟩,
 ⟨(some 21), .mv, [(.t 4)], none, []⟩,
 ⟨(some 22), .mv, [(.t 5)], none, []⟩,
 ⟨(some 23), (.build [(.int .i64 0), (.int .i64 0)] [(0, 1), (1, 1)]), [(.t 21), (.t 22)], none, []⟩,
 ⟨(some 24), (.call false false false), [(.t 20), (.t 23)], none, []⟩,
 ⟨(some 25), (.un .not), [(.t 24)], none, []⟩] 0 [1, 2, 4, 9, 10, 16, 17, 25])
 (.cond (.t 25)
 .ret
 .skip))))
 (.reg true [] [] [
 ⟨(some 26), (.bin 0 .add), [(.t 17), (.c (.int .i64 1))], none, []⟩,
 ⟨(some 17), .mv, [(.t 26)], none, []⟩] 0 [1, 2, 4, 9, 10, 16, 17]))))
def b72_0 : LCode :=
 (.seq
 (.reg true [] [] [
 ⟨(some 11), (.bin 0 .lss), [(.t 10), (.t 9)], none, []⟩] 0 [1, 2, 9, 10, 11])
 (.seq
 (.cond (.t 11)
 .skip
 (.exit 0))
 (.seq
 (.block 1
 (.seq
 (.reg true [] [] [
 ⟨(some 12), .mv, [(.t 10)], none, []⟩,
 ⟨(some 4), .mv, [(.t 12)], none, []⟩] 0 [1, 2, 4, 9, 10])
 (.seq
 (.reg true [] [] [
 ⟨(some 13), (.fa 0), [(.t 2)], none, []⟩,
 ⟨(some 14), (.fa 1), [(.t 13)], none, []⟩,
 ⟨(some 15), (.load none), [(.t 14)], none, []⟩,
 ⟨(some 16), .len, [(.t 15)], none, []⟩,
 ⟨(some 17), .mv, [(.c (.int .i64 0))], none, []⟩] 0 [1, 2, 4, 9, 10, 16, 17])
 (.block 2
 (.loop b72_1)))))
 (.reg true [] [] [
 ⟨(some 27), (.bin 0 .add), [(.t 10), (.c (.int .i64 1))], none, []⟩,
 ⟨(some 10), .mv, [(.t 27)], none, []⟩] 0 [1, 2, 9, 10]))))
def l72 : LFun := ⟨2, 28, [],
 (.seq
 (.reg false [2] [2] [
 ⟨(some 2), .box, [(.t 0)], none, []⟩] 0 [1, 2])
 (.seq
 (.reg false [] [] [
 ⟨(some 6), (.fa 0), [(.t 2)], none, []⟩,
 ⟨(some 7), (.fa 2), [(.t 6)], none, []⟩,
 ⟨(some 8), (.load none), [(.t 7)], none, []⟩,
 ⟨(some 9), .len, [(.t 8)], none, []⟩,
 ⟨(some 10), .mv, [(.c (.int .i64 0))], none, []⟩] 0 [1, 2, 9, 10])
 (.block 0
 (.loop b72_0)))),
 []⟩
theorem c72 : funC Try.prog [(0, [1, 2]), (1, [1, 2, 9, 10]), (2, [1, 2, 9, 10, 11]), (3, [1, 2, 4, 9, 10]), (4, [1, 2, 4, 9, 10, 16, 17]), (5, [1, 2, 4, 9, 10, 16, 17, 18]), (6, [1, 2, 4, 5, 9, 10, 16, 17]), (7, [1, 2, 4, 9, 10, 16, 17, 25]), (8, [1, 2, 4, 9, 10, 16, 17]), (9, [1, 2, 9, 10])] Try.f72 = some l72 := by kernel_rfl
def l73 : LFun := ⟨2, 19, [],
 (.seq
 (.reg false [2, 3] [2, 3] [
 ⟨(some 2), .box, [(.t 0)], none, []⟩,
 ⟨(some 3), .box, [(.t 1)], none, []⟩,
 ⟨(some 4), .mv, [(.c (.bool false))], none, []⟩] 0 [2, 3])
 (.seq
 (.reg false [] [] [
 ⟨(some 5), (.fa 0), [(.t 2)], none, []⟩,
 ⟨(some 6), (.fa 0), [(.t 5)], none, []⟩,
 ⟨(some 7), (.load none), [(.t 6)], none, []⟩,
 ⟨(some 8), (.fa 0), [(.t 3)], none, []⟩,
 ⟨(some 9), (.load none), [(.t 8)], none, []⟩,
 ⟨(some 10), (.bin 0 .geq), [(.t 7), (.t 9)], none, []⟩,
 ⟨(some 11), .mv, [(.t 10)], none, []⟩,
 ⟨(some 12), (.fa 0), [(.t 2)], (some (11, true)), []⟩,
 ⟨(some 13), (.fa 1), [(.t 12)], (some (11, true)), []⟩,
 ⟨(some 14), (.load none), [(.t 13)], (some (11, true)), []⟩,
 ⟨(some 15), (.fa 1), [(.t 3)], (some (11, true)), []⟩,
 ⟨(some 16), (.load none), [(.t 15)], (some (11, true)), []⟩,
 ⟨(some 17), (.bin 0 .leq), [(.t 14), (.t 16)], (some (11, true)), []⟩,
 ⟨(some 18), .pick, [(.t 11), (.t 17), (.c (.bool false))], none, []⟩,
 ⟨(some 4), .mv, [(.t 18)], none, []⟩] 0 [4])
 .ret)),
 [(.t 4)]⟩
theorem c73 : funC Try.prog [(0, [2, 3]), (1, [4])] Try.f73 = some l73 := by kernel_rfl
def b74_0 : LCode :=
 (.seq
 (.seq
 (.reg true [] [] [
 ⟨(some 14), .mv, [(.t 6)], none, []⟩,
 ⟨(some 15), .mv, [(.t 0)], none, []⟩,
 ⟨(some 16), .len, [(.t 15)], none, []⟩,
 ⟨(some 17), (.bin 0 .lss), [(.t 14), (.t 16)], none, []⟩] 0 [0, 1, 4, 5, 6, 17])
 (.cond (.t 17)
 .skip
 (.exit 0)))
 (.seq
 (.block 1
 (.seq
 (.reg true [] [] [
 ⟨(some 20), .mv, [(.t 1)], none, [21, 22, 23, 24, 25]⟩,
 ⟨(some 21), .mv, [(.t 0)], none, [20, 22, 25]⟩,
 ⟨(some 22), .mv, [(.t 6)], none, [20, 21, 25]⟩,
 ⟨(some 23), (.ixs 4), [(.t 21), (.t 22)], none, [20, 25]⟩,
 ⟨(some 24), (.load (some 4)), [(.t 23)], none, [20, 25]⟩,
 ⟨(some 25), (.load (some 4)), [(.t 5)], none, [20, 21, 22, 23, 24]⟩,
 ⟨(some 26), (.call true false false), [(.t 20), (.t 24), (.t 25)], none, []⟩,
 ⟨(some 27), (.bin 0 .gtr), [(.t 26), (.c (.int .i64 0))], none, []⟩] 0 [0, 1, 4, 5, 6, 27])
 (.cond (.t 27)
 (.reg true [] [] [
 ⟨(some 28), .mv, [(.t 0)], none, []⟩,
 ⟨(some 29), .mv, [(.t 6)], none, []⟩,
 ⟨(some 30), (.ixs 4), [(.t 28), (.t 29)], none, []⟩,
 ⟨(some 31), (.load (some 4)), [(.t 30)], none, []⟩,
 ⟨none, (.store 4 none), [(.t 5), (.t 31)], none, []⟩] 0 [0, 1, 4, 5, 6])
 .skip)))
 (.reg true [] [] [
 ⟨(some 18), .mv, [(.t 6)], none, []⟩,
 ⟨(some 19), (.bin 0 .add), [(.t 18), (.c (.int .i64 1))], none, []⟩,
 ⟨(some 6), .mv, [(.t 19)], none, []⟩] 0 [0, 1, 4, 5, 6])))
def l74 : LFun := ⟨2, 33, [],
 (.seq
 (.reg false [4] [4] [
 ⟨(some 4), (.alloc [(.int .i64 0), (.int .i64 0), (.int .i64 0), (.int .i64 0)]), [], none, []⟩] 0 [0, 1, 4])
 (.seq
 (.seq
 (.reg false [] [] [
 ⟨(some 7), .mv, [(.t 0)], none, []⟩,
 ⟨(some 8), .len, [(.t 7)], none, []⟩,
 ⟨(some 9), (.bin 0 .lss), [(.t 8), (.c (.int .i64 1))], none, []⟩] 0 [0, 1, 4, 9])
 (.cond (.t 9)
 (.reg false [] [] [
 ⟨none, .bad, [], none, []⟩,
 ⟨none, .bad, [], none, []⟩] 0 [0, 1, 4])
 .skip))
 (.seq
 (.reg false [5] [5] [
 ⟨(some 11), .mv, [(.t 0)], none, []⟩,
 ⟨(some 12), (.ixs 4), [(.t 11), (.c (.int .i64 0))], none, []⟩,
 ⟨(some 13), (.load (some 4)), [(.t 12)], none, []⟩,
 ⟨(some 5), (.alloc [(.int .i64 0), (.int .i64 0), (.int .i64 0), (.int .i64 0)]), [], none, []⟩,
 ⟨none, (.store 4 none), [(.t 5), (.t 13)], none, []⟩] 0 [0, 1, 4, 5])
 (.seq
 (.seq
 (.reg false [] [] [
 ⟨(some 6), .mv, [(.c (.int .i64 1))], none, []⟩] 0 [0, 1, 4, 5, 6])
 (.block 0
 (.loop b74_0)))
 (.seq
 (.reg false [] [] [
 ⟨(some 32), (.load (some 4)), [(.t 5)], none, []⟩,
 ⟨none, (.store 4 none), [(.t 4), (.t 32)], none, []⟩] 0 [4])
 .ret))))),
 [(.c 4 (some 4))]⟩
theorem c74 : funC Try.prog [(0, [0, 1, 4]), (1, [0, 1, 4, 9]), (2, [0, 1, 4]), (3, [0, 1, 4, 5]), (4, [0, 1, 4, 5, 6]), (5, [0, 1, 4, 5, 6, 17]), (6, [0, 1, 4, 5, 6]), (7, [0, 1, 4, 5, 6, 27]), (8, [0, 1, 4, 5, 6]), (9, [4])] Try.f74 = some l74 := by kernel_rfl
def l75 : LFun := ⟨4, 16, [],
 (.seq
 (.reg false [4, 5] [4, 5] [
 ⟨(some 4), .box, [(.t 0)], none, []⟩,
 ⟨(some 5), .box, [(.t 1)], none, []⟩,
 ⟨(some 6), .mv, [(.c (.int .i64 0))], none, []⟩] 0 [2, 3, 4, 5])
 (.seq
 (.reg false [] [] [
 ⟨(some 7), (.load (some 3)), [(.t 2)], none, [8, 9, 11, 12, 13]⟩,
 ⟨(some 8), (.load (some 4)), [(.t 4)], none, [7, 9, 11, 12, 13]⟩,
 ⟨(some 9), (.load none), [(.t 3)], none, [7, 8, 11, 12, 13]⟩,
 ⟨(some 10), (.call true false false), [(.f 77), (.t 7), (.t 8), (.t 9)], none, [11, 12, 13]⟩,
 ⟨(some 11), (.load (some 3)), [(.t 2)], none, [7, 8, 9, 10, 12, 13]⟩,
 ⟨(some 12), (.load (some 4)), [(.t 5)], none, [7, 8, 9, 10, 11, 13]⟩,
 ⟨(some 13), (.load none), [(.t 3)], none, [7, 8, 9, 10, 11, 12]⟩,
 ⟨(some 14), (.call true false false), [(.f 77), (.t 11), (.t 12), (.t 13)], none, []⟩,
 ⟨(some 15), (.call true false false), [(.f 76), (.t 10), (.t 14)], none, []⟩,
 ⟨(some 6), .mv, [(.t 15)], none, []⟩] 0 [6])
 .ret)),
 [(.t 6)]⟩
theorem c75 : funC Try.prog [(0, [2, 3, 4, 5]), (1, [6])] Try.f75 = some l75 := by kernel_rfl
def l76 : LFun := ⟨2, 20, [],
 (.seq
 (.reg false [] [] [
 ⟨(some 4), .mv, [(.c (.int .i64 0))], none, []⟩] 0 [0, 1])
 (.seq
 (.reg false [] [] [
 ⟨(some 7), .mv, [(.t 0)], none, []⟩,
 ⟨(some 8), (.call false false false), [(.f 89), (.t 7)], none, []⟩,
 ⟨(some 5), .mv, [(.t 8)], none, []⟩] 0 [0, 1, 5])
 (.seq
 (.reg false [] [] [
 ⟨(some 9), .mv, [(.t 1)], none, []⟩,
 ⟨(some 10), (.call false false false), [(.f 89), (.t 9)], none, []⟩,
 ⟨(some 6), .mv, [(.t 10)], none, []⟩] 0 [0, 1, 5, 6])
 (.seq
 (.seq
 (.reg false [] [] [
 ⟨(some 11), .mv, [(.t 5)], none, []⟩] 0 [0, 1, 6, 11])
 (.cond (.t 11)
 (.seq
 (.seq
 (.reg false [] [] [
 ⟨(some 12), .mv, [(.t 6)], none, []⟩] 0 [12])
 (.cond (.t 12)
 (.seq
 (.reg false [] [] [
 ⟨(some 4), .mv, [(.c (.int .i64 0))], none, []⟩] 0 [4])
 .ret)
 .skip))
 (.seq
 (.reg false [] [] [
 ⟨(some 4), .mv, [(.c (.int .i64 (-1)))], none, []⟩] 0 [4])
 .ret))
 .skip))
 (.seq
 (.seq
 (.reg false [] [] [
 ⟨(some 13), .mv, [(.t 6)], none, []⟩] 0 [0, 1, 13])
 (.cond (.t 13)
 (.seq
 (.reg false [] [] [
 ⟨(some 4), .mv, [(.c (.int .i64 1))], none, []⟩] 0 [4])
 .ret)
 .skip))
 (.seq
 (.seq
 (.reg false [] [] [
 ⟨(some 14), .mv, [(.t 0)], none, []⟩,
 ⟨(some 15), .mv, [(.t 1)], none, []⟩,
 ⟨(some 16), (.bin 0 .lss), [(.t 14), (.t 15)], none, []⟩] 0 [0, 1, 16])
 (.cond (.t 16)
 (.seq
 (.reg false [] [] [
 ⟨(some 4), .mv, [(.c (.int .i64 (-1)))], none, []⟩] 0 [4])
 .ret)
 .skip))
 (.seq
 (.seq
 (.reg false [] [] [
 ⟨(some 17), .mv, [(.t 0)], none, []⟩,
 ⟨(some 18), .mv, [(.t 1)], none, []⟩,
 ⟨(some 19), (.bin 0 .gtr), [(.t 17), (.t 18)], none, []⟩] 0 [19])
 (.cond (.t 19)
 (.seq
 (.reg false [] [] [
 ⟨(some 4), .mv, [(.c (.int .i64 1))], none, []⟩] 0 [4])
 .ret)
 .skip))
 (.seq
 (.reg false [] [] [
 ⟨(some 4), .mv, [(.c (.int .i64 0))], none, []⟩] 0 [4])
 .ret)))))))),
 [(.t 4)]⟩
theorem c76 : funC Try.prog [(0, [0, 1]), (1, [0, 1, 5]), (2, [0, 1, 5, 6]), (3, [0, 1, 6, 11]), (4, [12]), (5, [4]), (6, [4]), (7, [0, 1, 13]), (8, [4]), (9, [0, 1, 16]), (10, [4]), (11, [19]), (12, [4]), (13, [4])] Try.f76 = some l76 := by kernel_rfl
def l77 : LFun := ⟨3, 30, [],
 (.seq
 (.reg false [3, 4] [3, 4] [
 ⟨(some 3), .box, [(.t 0)], none, []⟩,
 ⟨(some 4), .box, [(.t 1)], none, []⟩,
 ⟨(some 6), .mv, [(.c (.int .i64 0))], none, []⟩] 0 [2, 3, 4])
 (.seq
 (.reg false [] [] [
 ⟨(some 7), (.fa 0), [(.t 3)], none, [10, 11, 12, 15, 18, 19, 20, 21, 22, 23, 24, 25, 26, 27, 28]⟩,
 ⟨(some 8), (.fa 1), [(.t 7)], none, [10, 11, 12, 15, 18, 19, 20, 21, 22, 23, 24, 25, 26, 27, 28]⟩,
 ⟨(some 9), (.load none), [(.t 8)], none, [10, 11, 12, 15, 18, 19, 20, 21, 22, 23, 24, 25, 26, 27, 28]⟩,
 ⟨(some 10), (.fa 0), [(.t 4)], none, [7, 8, 9, 15, 18, 19, 20, 21, 22, 23, 24, 25, 26, 27, 28]⟩,
 ⟨(some 11), (.fa 1), [(.t 10)], none, [7, 8, 9, 15, 18, 19, 20, 21, 22, 23, 24, 25, 26, 27, 28]⟩,
 ⟨(some 12), (.load none), [(.t 11)], none, [7, 8, 9, 15, 18, 19, 20, 21, 22, 23, 24, 25, 26, 27, 28]⟩,
 ⟨(some 13), (.ixs 1), [(.t 9), (.t 12)], none, [15, 18, 19, 20, 21, 22, 23, 24, 25, 26, 27, 28]⟩,
 ⟨(some 14), (.load none), [(.t 13)], none, [15, 18, 19, 20, 21, 22, 23, 24, 25, 26, 27, 28]⟩,
 ⟨(some 15), .mv, [(.t 2)], none, [7, 8, 9, 10, 11, 12, 13, 14, 18, 19, 20, 21, 22, 23, 24, 25, 26, 27, 28]⟩,
 ⟨(some 16), (.ixs 1), [(.t 14), (.t 15)], none, [18, 19, 20, 21, 22, 23, 24, 25, 26, 27, 28]⟩,
 ⟨(some 17), (.load none), [(.t 16)], none, [18, 19, 20, 21, 22, 23, 24, 25, 26, 27, 28]⟩,
 ⟨(some 18), (.fa 0), [(.t 3)], none, [7, 8, 9, 10, 11, 12, 13, 14, 15, 16, 17, 21, 22, 23, 26]⟩,
 ⟨(some 19), (.fa 1), [(.t 18)], none, [7, 8, 9, 10, 11, 12, 13, 14, 15, 16, 17, 21, 22, 23, 26]⟩,
 ⟨(some 20), (.load none), [(.t 19)], none, [7, 8, 9, 10, 11, 12, 13, 14, 15, 16, 17, 21, 22, 23, 26]⟩,
 ⟨(some 21), (.fa 2), [(.t 4)], none, [7, 8, 9, 10, 11, 12, 13, 14, 15, 16, 17, 18, 19, 20, 26]⟩,
 ⟨(some 22), (.fa 1), [(.t 21)], none, [7, 8, 9, 10, 11, 12, 13, 14, 15, 16, 17, 18, 19, 20, 26]⟩,
 ⟨(some 23), (.load none), [(.t 22)], none, [7, 8, 9, 10, 11, 12, 13, 14, 15, 16, 17, 18, 19, 20, 26]⟩,
 ⟨(some 24), (.ixs 1), [(.t 20), (.t 23)], none, [7, 8, 9, 10, 11, 12, 13, 14, 15, 16, 17, 26]⟩,
 ⟨(some 25), (.load none), [(.t 24)], none, [7, 8, 9, 10, 11, 12, 13, 14, 15, 16, 17, 26]⟩,
 ⟨(some 26), .mv, [(.t 2)], none, [7, 8, 9, 10, 11, 12, 13, 14, 15, 16, 17, 18, 19, 20, 21, 22, 23, 24, 25]⟩,
 ⟨(some 27), (.ixs 1), [(.t 25), (.t 26)], none, [7, 8, 9, 10, 11, 12, 13, 14, 15, 16, 17]⟩,
 ⟨(some 28), (.load none), [(.t 27)], none, [7, 8, 9, 10, 11, 12, 13, 14, 15, 16, 17]⟩,
 ⟨(some 29), (.bin 0 .add), [(.t 17), (.t 28)], none, []⟩,
 ⟨(some 6), .mv, [(.t 29)], none, []⟩] 0 [6])
 .ret)),
 [(.t 6)]⟩
theorem c77 : funC Try.prog [(0, [2, 3, 4]), (1, [6])] Try.f77 = some l77 := by kernel_rfl
def l78 : LFun := ⟨2, 17, [],
 (.seq
 (.reg false [2, 3] [2, 3] [
 ⟨(some 2), .box, [(.t 0)], none, []⟩,
 ⟨(some 3), .box, [(.t 1)], none, []⟩,
 ⟨(some 4), .mv, [(.c (.bool false))], none, []⟩] 0 [2, 3])
 (.seq
 (.reg false [] [] [
 ⟨(some 5), (.fa 0), [(.t 2)], none, []⟩,
 ⟨(some 6), (.load none), [(.t 5)], none, []⟩,
 ⟨(some 7), (.fa 0), [(.t 3)], none, []⟩,
 ⟨(some 8), (.load none), [(.t 7)], none, []⟩,
 ⟨(some 9), (.bin 0 .geq), [(.t 6), (.t 8)], none, []⟩,
 ⟨(some 10), .mv, [(.t 9)], none, []⟩,
 ⟨(some 11), (.fa 1), [(.t 2)], (some (10, true)), []⟩,
 ⟨(some 12), (.load none), [(.t 11)], (some (10, true)), []⟩,
 ⟨(some 13), (.fa 1), [(.t 3)], (some (10, true)), []⟩,
 ⟨(some 14), (.load none), [(.t 13)], (some (10, true)), []⟩,
 ⟨(some 15), (.bin 0 .leq), [(.t 12), (.t 14)], (some (10, true)), []⟩,
 ⟨(some 16), .pick, [(.t 10), (.t 15), (.c (.bool false))], none, []⟩,
 ⟨(some 4), .mv, [(.t 16)], none, []⟩] 0 [4])
 .ret)),
 [(.t 4)]⟩
theorem c78 : funC Try.prog [(0, [2, 3]), (1, [4])] Try.f78 = some l78 := by kernel_rfl
def b79_0 : LCode :=
 (.seq
 (.reg true [] [] [
 ⟨(some 14), (.bin 0 .lss), [(.t 13), (.t 12)], none, []⟩] 0 [2, 4, 5, 7, 12, 13, 14])
 (.seq
 (.cond (.t 14)
 .skip
 (.exit 0))
 (.seq
 (.block 1
 (.seq
 (.reg true [] [] [
 ⟨(some 15), .mv, [(.t 13)], none, []⟩,
 ⟨(some 9), .mv, [(.t 15)], none, []⟩] 0 [2, 4, 5, 7, 9, 12, 13])
 (.seq
 (.reg true [10, 11] [10, 11] [
 ⟨(some 16), (.load (some 2)), [(.t 4)], none, [17, 18, 20, 21, 22, 10, 11]⟩,
 ⟨(some 17), .mv, [(.t 9)], none, [16, 18, 20, 21, 22, 10, 11]⟩,
 ⟨(some 18), .mv, [(.t 2)], none, [16, 17, 20, 21, 22, 10, 11]⟩,
 ⟨(some 19), (.call true false false), [(.f 90), (.t 16), (.t 17), (.t 18)], none, [20, 21, 22, 10, 11]⟩,
 ⟨(some 20), (.load (some 2)), [(.t 5)], none, [16, 17, 18, 19, 21, 22, 10, 11]⟩,
 ⟨(some 21), .mv, [(.t 9)], none, [16, 17, 18, 19, 20, 22, 10, 11]⟩,
 ⟨(some 22), .mv, [(.t 2)], none, [16, 17, 18, 19, 20, 21, 10, 11]⟩,
 ⟨(some 23), (.call true false false), [(.f 90), (.t 20), (.t 21), (.t 22)], none, [10, 11]⟩,
 ⟨(some 10), (.alloc [(.int .i64 0), (.int .i64 0)]), [], none, [16, 17, 18, 19, 20, 21, 22, 23, 11]⟩,
 ⟨(some 11), (.alloc [(.int .i64 0), (.int .i64 0)]), [], none, [16, 17, 18, 19, 20, 21, 22, 23, 10]⟩,
 ⟨none, (.store 2 (some 10)), [(.t 10), (.t 19)], none, []⟩,
 ⟨none, (.store 2 (some 11)), [(.t 11), (.t 23)], none, []⟩] 0 [2, 4, 5, 7, 10, 11, 12, 13])
 (.seq
 (.reg true [] [] [
 ⟨(some 24), (.fa 0), [(.t 10)], none, [27, 28, 29]⟩,
 ⟨(some 25), (.fa 0), [(.t 24)], none, [27, 28, 29]⟩,
 ⟨(some 26), (.load none), [(.t 25)], none, [27, 28, 29]⟩,
 ⟨(some 27), (.fa 0), [(.t 10)], none, [24, 25, 26]⟩,
 ⟨(some 28), (.fa 1), [(.t 27)], none, [24, 25, 26]⟩,
 ⟨(some 29), (.load none), [(.t 28)], none, [24, 25, 26]⟩,
 ⟨(some 30), (.bin 0 .gtr), [(.t 26), (.t 29)], none, []⟩,
 ⟨(some 31), .mv, [(.t 30)], none, []⟩,
 ⟨(some 32), (.fa 0), [(.t 11)], (some (31, false)), [35, 36, 37]⟩,
 ⟨(some 33), (.fa 0), [(.t 32)], (some (31, false)), [35, 36, 37]⟩,
 ⟨(some 34), (.load none), [(.t 33)], (some (31, false)), [35, 36, 37]⟩,
 ⟨(some 35), (.fa 0), [(.t 11)], (some (31, false)), [32, 33, 34]⟩,
 ⟨(some 36), (.fa 1), [(.t 35)], (some (31, false)), [32, 33, 34]⟩,
 ⟨(some 37), (.load none), [(.t 36)], (some (31, false)), [32, 33, 34]⟩,
 ⟨(some 38), (.bin 0 .gtr), [(.t 34), (.t 37)], (some (31, false)), []⟩,
 ⟨(some 39), .pick, [(.t 31), (.c (.bool true)), (.t 38)], none, []⟩,
 ⟨(some 40), .mv, [(.t 39)], none, []⟩,
 ⟨(some 41), (.load (some 2)), [(.t 10)], (some (40, false)), [42, 44]⟩,
 ⟨(some 42), (.load (some 2)), [(.t 11)], (some (40, false)), [41, 44]⟩,
 ⟨(some 43), (.call true false false), [(.f 86), (.t 41), (.t 42)], (some (40, false)), [44]⟩,
 ⟨(some 44), (.load (some 2)), [(.t 7)], (some (40, false)), [41, 42, 43]⟩,
 ⟨(some 45), (.call true false false), [(.f 73), (.t 43), (.t 44)], (some (40, false)), []⟩,
 ⟨(some 46), (.un .not), [(.t 45)], (some (40, false)), []⟩,
 ⟨(some 47), .pick, [(.t 40), (.c (.bool true)), (.t 46)], none, []⟩] 0 [2, 4, 5, 7, 12, 13, 47])
 (.cond (.t 47)
 (.seq
 (.reg true [] [] [
 ⟨(some 8), .mv, [(.c (.bool false))], none, []⟩] 0 [8])
 .ret)
 .skip)))))
 (.reg true [] [] [
 ⟨(some 48), (.bin 0 .add), [(.t 13), (.c (.int .i64 1))], none, []⟩,
 ⟨(some 13), .mv, [(.t 48)], none, []⟩] 0 [2, 4, 5, 7, 12, 13]))))
def l79 : LFun := ⟨4, 49, [],
 (.seq
 (.reg false [4, 5, 7] [4, 5, 7] [
 ⟨(some 4), .box, [(.t 0)], none, []⟩,
 ⟨(some 5), .box, [(.t 1)], none, []⟩,
 ⟨(some 7), .box, [(.t 3)], none, []⟩,
 ⟨(some 8), .mv, [(.c (.bool false))], none, []⟩] 0 [2, 4, 5, 7])
 (.seq
 (.seq
 (.reg false [] [] [
 ⟨(some 12), .mv, [(.t 2)], none, []⟩,
 ⟨(some 13), .mv, [(.c (.int .i64 0))], none, []⟩] 0 [2, 4, 5, 7, 12, 13])
 (.block 0
 (.loop b79_0)))
 (.seq
 (.reg false [] [] [
 ⟨(some 8), .mv, [(.c (.bool true))], none, []⟩] 0 [8])
 .ret))),
 [(.t 8)]⟩
theorem c79 : funC Try.prog [(0, [2, 4, 5, 7]), (1, [2, 4, 5, 7, 12, 13]), (2, [2, 4, 5, 7, 12, 13, 14]), (3, [2, 4, 5, 7, 9, 12, 13]), (4, [2, 4, 5, 7, 10, 11, 12, 13]), (5, [2, 4, 5, 7, 12, 13, 47]), (6, [8]), (7, [2, 4, 5, 7, 12, 13]), (8, [8])] Try.f79 = some l79 := by kernel_rfl
def l80 : LFun := ⟨3, 33, [],
 (.seq
 (.reg false [3, 6] [3, 6] [
 ⟨(some 3), .box, [(.t 0)], none, []⟩,
 ⟨(some 6), (.alloc [(.int .i64 0), (.int .i64 0)]), [], none, []⟩] 0 [1, 2, 3, 6])
 (.seq
 (.reg false [] [] [
 ⟨(some 8), (.fa 1), [(.t 3)], none, []⟩,
 ⟨(some 9), (.load none), [(.t 8)], none, []⟩,
 ⟨(some 10), (.fa 0), [(.t 3)], none, []⟩,
 ⟨(some 11), (.load none), [(.t 10)], none, []⟩,
 ⟨(some 12), (.bin 0 .sub), [(.t 9), (.t 11)], none, []⟩,
 ⟨(some 13), (.bin 0 .add), [(.t 12), (.c (.int .i64 1))], none, []⟩,
 ⟨(some 7), .mv, [(.t 13)], none, []⟩] 0 [1, 2, 3, 6, 7])
 (.seq
 (.reg false [] [] [
 ⟨(some 14), (.fa 0), [(.t 3)], none, [16, 17, 18, 19, 20, 22, 23, 24, 25, 26, 27, 28, 29, 30, 31]⟩,
 ⟨(some 15), (.load none), [(.t 14)], none, [16, 17, 18, 19, 20, 22, 23, 24, 25, 26, 27, 28, 29, 30, 31]⟩,
 ⟨(some 16), .mv, [(.t 1)], none, [14, 15, 17, 19, 22, 23, 24, 25, 26, 27, 28, 29, 30, 31]⟩,
 ⟨(some 17), .mv, [(.t 7)], none, [14, 15, 16, 19, 22, 23, 24, 25, 26, 27, 28, 29, 30, 31]⟩,
 ⟨(some 18), (.bin 0 .mul), [(.t 16), (.t 17)], none, [14, 15, 19, 22, 23, 24, 25, 26, 27, 28, 29, 30, 31]⟩,
 ⟨(some 19), .mv, [(.t 2)], none, [14, 15, 16, 17, 18, 22, 23, 24, 25, 26, 27, 28, 29, 30, 31]⟩,
 ⟨(some 20), (.bin 0 .quo), [(.t 18), (.t 19)], none, [14, 15, 22, 23, 24, 25, 26, 27, 28, 29, 30, 31]⟩,
 ⟨(some 21), (.bin 0 .add), [(.t 15), (.t 20)], none, [22, 23, 24, 25, 26, 27, 28, 29, 30, 31]⟩,
 ⟨(some 22), (.fa 0), [(.t 3)], none, [14, 15, 16, 17, 18, 19, 20, 21, 24, 25, 26, 27, 28, 29]⟩,
 ⟨(some 23), (.load none), [(.t 22)], none, [14, 15, 16, 17, 18, 19, 20, 21, 24, 25, 26, 27, 28, 29]⟩,
 ⟨(some 24), .mv, [(.t 1)], none, [14, 15, 16, 17, 18, 19, 20, 21, 22, 23, 26, 28]⟩,
 ⟨(some 25), (.bin 0 .add), [(.t 24), (.c (.int .i64 1))], none, [14, 15, 16, 17, 18, 19, 20, 21, 22, 23, 26, 28]⟩,
 ⟨(some 26), .mv, [(.t 7)], none, [14, 15, 16, 17, 18, 19, 20, 21, 22, 23, 24, 25, 28]⟩,
 ⟨(some 27), (.bin 0 .mul), [(.t 25), (.t 26)], none, [14, 15, 16, 17, 18, 19, 20, 21, 22, 23, 28]⟩,
 ⟨(some 28), .mv, [(.t 2)], none, [14, 15, 16, 17, 18, 19, 20, 21, 22, 23, 24, 25, 26, 27]⟩,
 ⟨(some 29), (.bin 0 .quo), [(.t 27), (.t 28)], none, [14, 15, 16, 17, 18, 19, 20, 21, 22, 23]⟩,
 ⟨(some 30), (.bin 0 .add), [(.t 23), (.t 29)], none, [14, 15, 16, 17, 18, 19, 20, 21]⟩,
 ⟨(some 31), (.bin 0 .sub), [(.t 30), (.c (.int .i64 1))], none, [14, 15, 16, 17, 18, 19, 20, 21]⟩,
 ⟨(some 32), (.build [(.int .i64 0), (.int .i64 0)] [(0, 1), (1, 1)]), [(.t 21), (.t 31)], none, []⟩,
 ⟨none, (.store 2 (some 6)), [(.t 6), (.t 32)], none, []⟩] 0 [6])
 .ret))),
 [(.c 6 (some 2))]⟩
theorem c80 : funC Try.prog [(0, [1, 2, 3, 6]), (1, [1, 2, 3, 6, 7]), (2, [6])] Try.f80 = some l80 := by kernel_rfl
def b81_0 : LCode :=
 (.seq
 (.reg true [] [] [
 ⟨(some 9), (.bin 0 .lss), [(.t 8), (.t 7)], none, []⟩] 0 [0, 1, 7, 8, 9])
 (.seq
 (.cond (.t 9)
 .skip
 (.exit 0))
 (.seq
 (.block 1
 (.seq
 (.reg true [] [] [
 ⟨(some 10), .mv, [(.t 8)], none, []⟩,
 ⟨(some 5), .mv, [(.t 10)], none, []⟩] 0 [0, 1, 5, 7, 8])
 (.seq
 (.reg true [] [] [
 ⟨(some 11), .mv, [(.t 1)], none, []⟩,
 ⟨(some 12), .mv, [(.t 0)], none, []⟩,
 ⟨(some 13), .mv, [(.t 5)], none, []⟩,
 ⟨(some 14), (.ixs 1), [(.t 12), (.t 13)], none, []⟩,
 ⟨(some 15), (.load none), [(.t 14)], none, []⟩,
 ⟨(some 16), (.call false false false), [(.t 11), (.t 15)], none, []⟩] 0 [0, 1, 5, 7, 8, 16])
 (.cond (.t 16)
 (.seq
 (.reg true [] [] [
 ⟨(some 17), .mv, [(.t 5)], none, []⟩,
 ⟨(some 4), .mv, [(.t 17)], none, []⟩] 0 [4])
 .ret)
 .skip))))
 (.reg true [] [] [
 ⟨(some 18), (.bin 0 .add), [(.t 8), (.c (.int .i64 1))], none, []⟩,
 ⟨(some 8), .mv, [(.t 18)], none, []⟩] 0 [0, 1, 7, 8]))))
def l81 : LFun := ⟨2, 19, [],
 (.seq
 (.reg false [] [] [
 ⟨(some 4), .mv, [(.c (.int .i64 0))], none, []⟩] 0 [0, 1])
 (.seq
 (.seq
 (.reg false [] [] [
 ⟨(some 6), .mv, [(.t 0)], none, []⟩,
 ⟨(some 7), .len, [(.t 6)], none, []⟩,
 ⟨(some 8), .mv, [(.c (.int .i64 0))], none, []⟩] 0 [0, 1, 7, 8])
 (.block 0
 (.loop b81_0)))
 (.seq
 (.reg false [] [] [
 ⟨(some 4), .mv, [(.c (.int .i64 (-1)))], none, []⟩] 0 [4])
 .ret))),
 [(.t 4)]⟩
theorem c81 : funC Try.prog [(0, [0, 1]), (1, [0, 1, 7, 8]), (2, [0, 1, 7, 8, 9]), (3, [0, 1, 5, 7, 8]), (4, [0, 1, 5, 7, 8, 16]), (5, [4]), (6, [0, 1, 7, 8]), (7, [4])] Try.f81 = some l81 := by kernel_rfl
def l82 : LFun := ⟨2, 9, [],
 (.seq
 (.reg false [] [] [
 ⟨(some 4), .mv, [(.c (.bool false))], none, []⟩] 0 [0, 1])
 (.seq
 (.reg false [] [] [
 ⟨(some 5), .mv, [(.t 0)], none, []⟩,
 ⟨(some 6), .mv, [(.t 1)], none, []⟩,
 ⟨(some 7), (.call false false false), [(.f 87), (.t 5), (.t 6)], none, []⟩,
 ⟨(some 8), (.bin 0 .geq), [(.t 7), (.c (.int .i64 0))], none, []⟩,
 ⟨(some 4), .mv, [(.t 8)], none, []⟩] 0 [4])
 .ret)),
 [(.t 4)]⟩
theorem c82 : funC Try.prog [(0, [0, 1]), (1, [4])] Try.f82 = some l82 := by kernel_rfl
def l83 : LFun := ⟨3, 13, [],
 (.seq
 (.reg false [] [] [
 ⟨(some 4), .mv, [(.c (.bool false))], none, []⟩] 0 [0, 1, 2])
 (.seq
 (.reg false [] [] [
 ⟨(some 5), .mv, [(.t 0)], none, []⟩,
 ⟨(some 6), (.load none), [(.t 1)], none, []⟩,
 ⟨(some 7), (.bin 0 .lss), [(.t 5), (.t 6)], none, []⟩,
 ⟨(some 8), .mv, [(.t 7)], none, []⟩,
 ⟨(some 9), .mv, [(.t 0)], (some (8, false)), []⟩,
 ⟨(some 10), (.load none), [(.t 2)], (some (8, false)), []⟩,
 ⟨(some 11), (.bin 0 .gtr), [(.t 9), (.t 10)], (some (8, false)), []⟩,
 ⟨(some 12), .pick, [(.t 8), (.c (.bool true)), (.t 11)], none, []⟩,
 ⟨(some 4), .mv, [(.t 12)], none, []⟩] 0 [4])
 .ret)),
 [(.t 4)]⟩
theorem c83 : funC Try.prog [(0, [0, 1, 2]), (1, [4])] Try.f83 = some l83 := by kernel_rfl
def l84 : LFun := ⟨2, 27, [],
 (.seq
 (.reg false [] [] [
 ⟨(some 4), .mv, [(.c .nil)], none, []⟩] 0 [0, 1])
 (.seq
 (.seq
 (.reg false [] [] [
 ⟨(some 5), .mv, [(.t 1)], none, []⟩,
 ⟨(some 6), (.bin 0 .lss), [(.t 5), (.c (.int .i64 0))], none, []⟩] 0 [0, 1, 6])
 (.cond (.t 6)
 (.reg false [] [] [
 ⟨none, .bad, [], none, []⟩,
 ⟨none, .bad, [], none, []⟩] 0 [0, 1])
 .skip))
 (.seq
 (.seq
 (.reg false [] [] [
 ⟨(some 8), .mv, [(.t 1)], none, []⟩,
 ⟨(some 9), .mv, [(.t 0)], none, []⟩,
 ⟨(some 10), .cap, [(.t 9)], none, []⟩,
 ⟨(some 11), .mv, [(.t 0)], none, []⟩,
 ⟨(some 12), .len, [(.t 11)], none, []⟩,
 ⟨(some 13), (.bin 0 .sub), [(.t 10), (.t 12)], none, []⟩,
 ⟨(some 14), (.bin 0 .sub), [(.t 8), (.t 13)], none, []⟩,
 ⟨(some 1), .mv, [(.t 14)], none, []⟩] 0 [0, 1])
 (.seq
 (.reg false [] [] [
 ⟨(some 15), .mv, [(.t 1)], none, []⟩,
 ⟨(some 16), (.bin 0 .gtr), [(.t 15), (.c (.int .i64 0))], none, []⟩] 0 [0, 1, 16])
 (.cond (.t 16)
 (.reg false [22] [] [
 ⟨(some 17), .mv, [(.t 0)], none, []⟩,
 ⟨(some 18), .mv, [(.t 0)], none, []⟩,
 ⟨(some 19), .cap, [(.t 18)], none, []⟩,
 ⟨(some 20), (.sls 1 false true false), [(.t 17), (.t 19)], none, []⟩,
 ⟨(some 21), .mv, [(.t 1)], none, []⟩,
 ⟨(some 22), (.appz 1 8 [(.int .i64 0)]), [(.t 20), (.t 21)], none, []⟩,
 ⟨(some 23), .mv, [(.t 0)], none, []⟩,
 ⟨(some 24), .len, [(.t 23)], none, []⟩,
 ⟨(some 25), (.trunc 1), [(.t 22), (.t 24)], none, []⟩,
 ⟨(some 0), .mv, [(.t 25)], none, []⟩] 0 [0])
 .skip)))
 (.seq
 (.reg false [] [] [
 ⟨(some 26), .mv, [(.t 0)], none, []⟩,
 ⟨(some 4), .mv, [(.t 26)], none, []⟩] 0 [4])
 .ret)))),
 [(.t 4)]⟩
theorem c84 : funC Try.prog [(0, [0, 1]), (1, [0, 1, 6]), (2, [0, 1]), (3, [0, 1]), (4, [0, 1, 16]), (5, [0]), (6, [4])] Try.f84 = some l84 := by kernel_rfl
def l85 : LFun := ⟨2, 25, [],
 (.seq
 (.reg false [2, 3] [2, 3] [
 ⟨(some 2), .box, [(.t 0)], none, []⟩,
 ⟨(some 3), .box, [(.t 1)], none, []⟩,
 ⟨(some 4), .mv, [(.c (.bool false))], none, []⟩] 0 [2, 3])
 (.seq
 (.reg false [12, 22] [12, 22] [
 ⟨(some 5), (.fa 0), [(.t 2)], none, []⟩,
 ⟨(some 6), (.fa 2), [(.t 5)], none, []⟩,
 ⟨(some 7), (.load none), [(.t 6)], none, []⟩,
 ⟨(some 8), .len, [(.t 7)], none, []⟩,
 ⟨(some 9), (.bin 0 .sub), [(.t 8), (.c (.int .i64 1))], none, []⟩,
 ⟨(some 10), (.fa 0), [(.t 3)], none, []⟩,
 ⟨(some 11), (.load none), [(.t 10)], none, []⟩,
 ⟨(some 12), (.bsl 1 [(.int .i64 0)] 1 [0]), [(.t 11)], none, []⟩,
 ⟨(some 13), (.call false false false), [(.f 58), (.c (.int .i64 0)), (.t 9), (.t 12)], none, []⟩,
 ⟨(some 14), .mv, [(.t 13)], none, []⟩,
 ⟨(some 15), (.fa 0), [(.t 2)], (some (14, true)), []⟩,
 ⟨(some 16), (.fa 1), [(.t 15)], (some (14, true)), []⟩,
 ⟨(some 17), (.load none), [(.t 16)], (some (14, true)), []⟩,
 ⟨(some 18), .len, [(.t 17)], (some (14, true)), []⟩,
 ⟨(some 19), (.bin 0 .sub), [(.t 18), (.c (.int .i64 1))], (some (14, true)), []⟩,
 ⟨(some 20), (.fa 1), [(.t 3)], (some (14, true)), []⟩,
 ⟨(some 21), (.load none), [(.t 20)], (some (14, true)), []⟩,
 ⟨(some 22), (.bsl 1 [(.int .i64 0)] 1 [0]), [(.t 21)], (some (14, true)), []⟩,
 ⟨(some 23), (.call false false false), [(.f 58), (.c (.int .i64 0)), (.t 19), (.t 22)], (some (14, true)), []⟩,
 ⟨(some 24), .pick, [(.t 14), (.t 23), (.c (.bool false))], none, []⟩,
 ⟨(some 4), .mv, [(.t 24)], none, []⟩] 0 [4])
 .ret)),
 [(.t 4)]⟩
theorem c85 : funC Try.prog [(0, [2, 3]), (1, [4])] Try.f85 = some l85 := by kernel_rfl
def l86 : LFun := ⟨2, 21, [],
 (.seq
 (.reg false [2, 3, 4] [2, 3, 4] [
 ⟨(some 2), .box, [(.t 0)], none, []⟩,
 ⟨(some 3), .box, [(.t 1)], none, []⟩,
 ⟨(some 4), (.alloc [(.int .i64 0), (.int .i64 0)]), [], none, []⟩] 0 [2, 3, 4])
 (.seq
 (.reg false [] [] [
 ⟨(some 5), (.fa 0), [(.t 3)], none, []⟩,
 ⟨(some 6), (.fa 0), [(.t 5)], none, []⟩,
 ⟨(some 7), (.load none), [(.t 6)], none, []⟩,
 ⟨(some 8), (.fa 0), [(.t 2)], none, []⟩,
 ⟨(some 9), (.fa 1), [(.t 8)], none, []⟩,
 ⟨(some 10), (.load none), [(.t 9)], none, []⟩,
 ⟨(some 11), (.bin 0 .sub), [(.t 7), (.t 10)], none, []⟩,
 ⟨(some 12), (.fa 0), [(.t 3)], none, []⟩,
 ⟨(some 13), (.fa 1), [(.t 12)], none, []⟩,
 ⟨(some 14), (.load none), [(.t 13)], none, []⟩,
 ⟨(some 15), (.fa 0), [(.t 2)], none, []⟩,
 ⟨(some 16), (.fa 0), [(.t 15)], none, []⟩,
 ⟨(some 17), (.load none), [(.t 16)], none, []⟩,
 ⟨(some 18), (.bin 0 .sub), [(.t 14), (.t 17)], none, []⟩,
 ⟨(some 19), (.build [(.int .i64 0), (.int .i64 0)] [(0, 1), (1, 1)]), [(.t 11), (.t 18)], none, []⟩,
 ⟨(some 20), (.build [(.int .i64 0), (.int .i64 0)] [(0, 2)]), [(.t 19)], none, []⟩,
 ⟨none, (.store 2 none), [(.t 4), (.t 20)], none, []⟩] 0 [4])
 .ret)),
 [(.c 4 (some 2))]⟩
theorem c86 : funC Try.prog [(0, [2, 3, 4]), (1, [4])] Try.f86 = some l86 := by kernel_rfl
def b87_0 : LCode :=
 (.seq
 (.reg true [] [] [
 ⟨(some 9), (.bin 0 .lss), [(.t 8), (.t 7)], none, []⟩] 0 [0, 1, 7, 8, 9])
 (.seq
 (.cond (.t 9)
 .skip
 (.exit 0))
 (.seq
 (.block 1
 (.seq
 (.reg true [] [] [
 ⟨(some 10), .mv, [(.t 8)], none, []⟩,
 ⟨(some 5), .mv, [(.t 10)], none, []⟩] 0 [0, 1, 5, 7, 8])
 (.seq
 (.reg true [] [] [
 ⟨(some 11), .mv, [(.t 1)], none, []⟩,
 ⟨(some 12), .mv, [(.t 0)], none, []⟩,
 ⟨(some 13), .mv, [(.t 5)], none, []⟩,
 ⟨(some 14), (.ixs 1), [(.t 12), (.t 13)], none, []⟩,
 ⟨(some 15), (.load none), [(.t 14)], none, []⟩,
 ⟨(some 16), (.call false false false), [(.t 11), (.t 15)], none, []⟩] 0 [0, 1, 5, 7, 8, 16])
 (.cond (.t 16)
 (.seq
 (.reg true [] [] [
 ⟨(some 17), .mv, [(.t 5)], none, []⟩,
 ⟨(some 4), .mv, [(.t 17)], none, []⟩] 0 [4])
 .ret)
 .skip))))
 (.reg true [] [] [
 ⟨(some 18), (.bin 0 .add), [(.t 8), (.c (.int .i64 1))], none, []⟩,
 ⟨(some 8), .mv, [(.t 18)], none, []⟩] 0 [0, 1, 7, 8]))))
def l87 : LFun := ⟨2, 19, [],
 (.seq
 (.reg false [] [] [
 ⟨(some 4), .mv, [(.c (.int .i64 0))], none, []⟩] 0 [0, 1])
 (.seq
 (.seq
 (.reg false [] [] [
 ⟨(some 6), .mv, [(.t 0)], none, []⟩,
 ⟨(some 7), .len, [(.t 6)], none, []⟩,
 ⟨(some 8), .mv, [(.c (.int .i64 0))], none, []⟩] 0 [0, 1, 7, 8])
 (.block 0
 (.loop b87_0)))
 (.seq
 (.reg false [] [] [
 ⟨(some 4), .mv, [(.c (.int .i64 (-1)))], none, []⟩] 0 [4])
 .ret))),
 [(.t 4)]⟩
theorem c87 : funC Try.prog [(0, [0, 1]), (1, [0, 1, 7, 8]), (2, [0, 1, 7, 8, 9]), (3, [0, 1, 5, 7, 8]), (4, [0, 1, 5, 7, 8, 16]), (5, [4]), (6, [0, 1, 7, 8]), (7, [4])] Try.f87 = some l87 := by kernel_rfl
def l88 : LFun := ⟨2, 7, [],
 (.seq
 (.reg false [] [] [
 ⟨(some 3), .mv, [(.c (.bool false))], none, []⟩] 0 [0, 1])
 (.seq
 (.reg false [] [] [
 ⟨(some 4), (.load none), [(.t 1)], none, []⟩,
 ⟨(some 5), .mv, [(.t 0)], none, []⟩,
 ⟨(some 6), (.bin 0 .leq), [(.t 4), (.t 5)], none, []⟩,
 ⟨(some 3), .mv, [(.t 6)], none, []⟩] 0 [3])
 .ret)),
 [(.t 3)]⟩
theorem c88 : funC Try.prog [(0, [0, 1]), (1, [3])] Try.f88 = some l88 := by kernel_rfl
def l89 : LFun := ⟨1, 6, [],
 (.seq
 (.reg false [] [] [
 ⟨(some 2), .mv, [(.c (.bool false))], none, []⟩] 0 [0])
 (.seq
 (.reg false [] [] [
 ⟨(some 3), .mv, [(.t 0)], none, []⟩,
 ⟨(some 4), .mv, [(.t 0)], none, []⟩,
 ⟨(some 5), (.bin 0 .neq), [(.t 3), (.t 4)], none, []⟩,
 ⟨(some 2), .mv, [(.t 5)], none, []⟩] 0 [2])
 .ret)),
 [(.t 2)]⟩
theorem c89 : funC Try.prog [(0, [0]), (1, [2])] Try.f89 = some l89 := by kernel_rfl
def l90 : LFun := ⟨3, 38, [],
 (.seq
 (.reg false [3, 6] [3, 6] [
 ⟨(some 3), .box, [(.t 0)], none, []⟩,
 ⟨(some 6), (.alloc [(.int .i64 0), (.int .i64 0)]), [], none, []⟩] 0 [1, 2, 3, 6])
 (.seq
 (.reg false [] [] [
 ⟨(some 8), (.fa 0), [(.t 3)], none, []⟩,
 ⟨(some 9), (.fa 1), [(.t 8)], none, []⟩,
 ⟨(some 10), (.load none), [(.t 9)], none, []⟩,
 ⟨(some 11), (.fa 0), [(.t 3)], none, []⟩,
 ⟨(some 12), (.fa 0), [(.t 11)], none, []⟩,
 ⟨(some 13), (.load none), [(.t 12)], none, []⟩,
 ⟨(some 14), (.bin 0 .sub), [(.t 10), (.t 13)], none, []⟩,
 ⟨(some 15), (.bin 0 .add), [(.t 14), (.c (.int .i64 1))], none, []⟩,
 ⟨(some 7), .mv, [(.t 15)], none, []⟩] 0 [1, 2, 3, 6, 7])
 (.seq
 (.reg false [] [] [
 ⟨(some 16), (.fa 0), [(.t 3)], none, [19, 20, 21, 22, 23, 25, 26, 27, 28, 29, 30, 31, 32, 33, 34, 35]⟩,
 ⟨(some 17), (.fa 0), [(.t 16)], none, [19, 20, 21, 22, 23, 25, 26, 27, 28, 29, 30, 31, 32, 33, 34, 35]⟩,
 ⟨(some 18), (.load none), [(.t 17)], none, [19, 20, 21, 22, 23, 25, 26, 27, 28, 29, 30, 31, 32, 33, 34, 35]⟩,
 ⟨(some 19), .mv, [(.t 1)], none, [16, 17, 18, 20, 22, 25, 26, 27, 28, 29, 30, 31, 32, 33, 34, 35]⟩,
 ⟨(some 20), .mv, [(.t 7)], none, [16, 17, 18, 19, 22, 25, 26, 27, 28, 29, 30, 31, 32, 33, 34, 35]⟩,
 ⟨(some 21), (.bin 0 .mul), [(.t 19), (.t 20)], none, [16, 17, 18, 22, 25, 26, 27, 28, 29, 30, 31, 32, 33, 34, 35]⟩,
 ⟨(some 22), .mv, [(.t 2)], none, [16, 17, 18, 19, 20, 21, 25, 26, 27, 28, 29, 30, 31, 32, 33, 34, 35]⟩,
 ⟨(some 23), (.bin 0 .quo), [(.t 21), (.t 22)], none, [16, 17, 18, 25, 26, 27, 28, 29, 30, 31, 32, 33, 34, 35]⟩,
 ⟨(some 24), (.bin 0 .add), [(.t 18), (.t 23)], none, [25, 26, 27, 28, 29, 30, 31, 32, 33, 34, 35]⟩,
 ⟨(some 25), (.fa 0), [(.t 3)], none, [16, 17, 18, 19, 20, 21, 22, 23, 24, 28, 29, 30, 31, 32, 33]⟩,
 ⟨(some 26), (.fa 0), [(.t 25)], none, [16, 17, 18, 19, 20, 21, 22, 23, 24, 28, 29, 30, 31, 32, 33]⟩,
 ⟨(some 27), (.load none), [(.t 26)], none, [16, 17, 18, 19, 20, 21, 22, 23, 24, 28, 29, 30, 31, 32, 33]⟩,
 ⟨(some 28), .mv, [(.t 1)], none, [16, 17, 18, 19, 20, 21, 22, 23, 24, 25, 26, 27, 30, 32]⟩,
 ⟨(some 29), (.bin 0 .add), [(.t 28), (.c (.int .i64 1))], none, [16, 17, 18, 19, 20, 21, 22, 23, 24, 25, 26, 27, 30, 32]⟩,
 ⟨(some 30), .mv, [(.t 7)], none, [16, 17, 18, 19, 20, 21, 22, 23, 24, 25, 26, 27, 28, 29, 32]⟩,
 ⟨(some 31), (.bin 0 .mul), [(.t 29), (.t 30)], none, [16, 17, 18, 19, 20, 21, 22, 23, 24, 25, 26, 27, 32]⟩,
 ⟨(some 32), .mv, [(.t 2)], none, [16, 17, 18, 19, 20, 21, 22, 23, 24, 25, 26, 27, 28, 29, 30, 31]⟩,
 ⟨(some 33), (.bin 0 .quo), [(.t 31), (.t 32)], none, [16, 17, 18, 19, 20, 21, 22, 23, 24, 25, 26, 27]⟩,
 ⟨(some 34), (.bin 0 .add), [(.t 27), (.t 33)], none, [16, 17, 18, 19, 20, 21, 22, 23, 24]⟩,
 ⟨(some 35), (.bin 0 .sub), [(.t 34), (.c (.int .i64 1))], none, [16, 17, 18, 19, 20, 21, 22, 23, 24]⟩,
 ⟨(some 36), (.build [(.int .i64 0), (.int .i64 0)] [(0, 1), (1, 1)]), [(.t 24), (.t 35)], none, []⟩,
 ⟨(some 37), (.build [(.int .i64 0), (.int .i64 0)] [(0, 2)]), [(.t 36)], none, []⟩,
 ⟨none, (.store 2 (some 6)), [(.t 6), (.t 37)], none, []⟩] 0 [6])
 .ret))),
 [(.c 6 (some 2))]⟩
theorem c90 : funC Try.prog [(0, [1, 2, 3, 6]), (1, [1, 2, 3, 6, 7]), (2, [6])] Try.f90 = some l90 := by kernel_rfl
end Go.Lo
