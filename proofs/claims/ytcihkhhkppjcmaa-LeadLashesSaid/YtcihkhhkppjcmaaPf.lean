/- Texts put together. -/
import Derived.Test.YtcihkhhkppjcmaaPe
import Derived.Test.YtcihkhhkppjcmaaProg
import Derived.KernelRfl
/- The functions that are reached, compiled for the plain machine. -/
namespace Go.Lo
open Go.Proofs
/-- acme/acmelaw06.LeadLashes -/
def b9_0 : LCode :=
 (.seq
 (.seq
 (.reg true [] [] [
 ⟨(some 46), .mv, [(.t 9)], none, []⟩,
 ⟨(some 47), .mv, [(.t 1)], none, []⟩,
 ⟨(some 48), .len, [(.t 47)], none, []⟩,
 ⟨(some 49), (.bin 0 .lss), [(.t 46), (.t 48)], none, []⟩] 0 [1, 2, 5, 6, 7, 8, 9, 49])
 (.cond (.t 49)
 .skip
 (.exit 0)))
 (.seq
 (.block 1
 (.seq
 (.reg true [] [] [
 ⟨(some 52), .mv, [(.t 6)], none, [53, 56, 57, 58, 59]⟩,
 ⟨(some 53), .mv, [(.t 9)], none, [52, 56, 57, 58, 59]⟩,
 ⟨(some 54), (.ixs 4), [(.t 52), (.t 53)], none, [56, 57, 58, 59]⟩,
 ⟨(some 55), (.load (some 4)), [(.t 54)], none, [56, 57, 58, 59]⟩,
 ⟨(some 56), .mv, [(.t 1)], none, [52, 53, 54, 55, 57]⟩,
 ⟨(some 57), .mv, [(.t 9)], none, [52, 53, 54, 55, 56]⟩,
 ⟨(some 58), (.ixs 4), [(.t 56), (.t 57)], none, [52, 53, 54, 55]⟩,
 ⟨(some 59), (.load (some 4)), [(.t 58)], none, [52, 53, 54, 55]⟩,
 ⟨(some 60), (.eqs true [(some .i64), (some .i64), (some .i64), (some .i64)]), [(.t 55), (.t 59)], none, []⟩] 0 [1, 2, 5, 6, 7, 8, 9, 60])
 (.cond (.t 60)
 (.seq
 (.reg true [] [] [
 ⟨(some 4), .mv, [(.c (.bool false))], none, []⟩] 0 [4])
 .ret)
 .skip)))
 (.reg true [] [] [
 ⟨(some 50), .mv, [(.t 9)], none, []⟩,
 ⟨(some 51), (.bin 0 .add), [(.t 50), (.c (.int .i64 1))], none, []⟩,
 ⟨(some 9), .mv, [(.t 51)], none, []⟩] 0 [1, 2, 5, 6, 7, 8, 9])))
def l9 : LFun := ⟨2, 83, [],
 (.seq
 (.reg false [2] [2] [
 ⟨(some 2), .box, [(.t 0)], none, []⟩,
 ⟨(some 4), .mv, [(.c (.bool false))], none, []⟩] 0 [1, 2])
 (.seq
 (.seq
 (.reg false [] [] [
 ⟨(some 12), (.load (some 4)), [(.t 2)], none, []⟩,
 ⟨(some 13), (.call false false false), [(.f 14), (.t 12), (.c (.sl none 2 []))], none, []⟩,
 ⟨(some 14), .mv, [(.t 13)], none, []⟩,
 ⟨(some 15), .mv, [(.t 1)], (some (14, false)), []⟩,
 ⟨(some 16), .len, [(.t 15)], (some (14, false)), []⟩,
 ⟨(some 17), (.bin 0 .gtr), [(.t 16), (.c (.int .i64 60))], (some (14, false)), []⟩,
 ⟨(some 18), .pick, [(.t 14), (.c (.bool true)), (.t 17)], none, []⟩,
 ⟨(some 19), .mv, [(.t 18)], none, []⟩,
 ⟨(some 20), (.load (some 4)), [(.t 2)], (some (19, false)), []⟩,
 ⟨(some 21), (.call false false false), [(.f 22), (.t 20)], (some (19, false)), []⟩,
 ⟨(some 22), (.bin 0 .eql), [(.t 21), (.c (.int .i64 0))], (some (19, false)), []⟩,
 ⟨(some 23), .mv, [(.t 22)], (some (19, false)), []⟩,
 ⟨(some 24), (.fa 2), [(.t 2)], (some (23, true)), []⟩,
 ⟨(some 25), (.fa 1), [(.t 24)], (some (23, true)), []⟩,
 ⟨(some 26), (.load none), [(.t 25)], (some (23, true)), []⟩,
 ⟨(some 27), (.fa 2), [(.t 2)], (some (23, true)), []⟩,
 ⟨(some 28), (.fa 0), [(.t 27)], (some (23, true)), []⟩,
 ⟨(some 29), (.load none), [(.t 28)], (some (23, true)), []⟩,
 ⟨(some 30), (.bin 0 .sub), [(.t 26), (.t 29)], (some (23, true)), []⟩,
 ⟨(some 31), (.bin 0 .gtr), [(.t 30), (.c (.int .i64 300))], (some (23, true)), []⟩,
 ⟨(some 32), .pick, [(.t 23), (.t 31), (.c (.bool false))], (some (19, false)), []⟩,
 ⟨(some 33), .pick, [(.t 19), (.c (.bool true)), (.t 32)], none, []⟩] 0 [1, 2, 33])
 (.cond (.t 33)
 (.seq
 (.reg false [] [] [
 ⟨(some 34), (.call false false false), [(.f 15)], none, []⟩,
 ⟨(some 4), .mv, [(.t 34)], none, []⟩] 0 [4])
 .ret)
 .skip))
 (.seq
 (.reg false [36, 37, 39, 5] [36, 37, 5] [
 ⟨(some 35), (.load (some 4)), [(.t 2)], none, []⟩,
 ⟨(some 36), (.call false false true), [(.f 16), (.t 35)], none, []⟩,
 ⟨(some 37), (.bsl 4 [(.int .i64 0), (.int .i64 0), (.int .i64 0), (.int .i64 0)] 0 []), [], none, []⟩,
 ⟨(some 38), .mv, [(.t 1)], none, []⟩,
 ⟨(some 39), (.append false 4 32), [(.t 37), (.t 38)], none, []⟩,
 ⟨(some 5), (.alloc [(.sl none 2 []), (.sl none 1 []), (.int .i64 0), (.int .i64 0)]), [], none, []⟩,
 ⟨none, (.store 4 none), [(.t 5), (.t 36)], none, []⟩,
 ⟨(some 6), .mv, [(.t 39)], none, []⟩] 0 [1, 2, 5, 6])
 (.seq
 (.reg false [7] [7] [
 ⟨(some 41), (.load (some 4)), [(.t 5)], none, []⟩,
 ⟨(some 42), .mv, [(.t 6)], none, []⟩,
 ⟨(some 43), (.call false false false), [(.f 40), (.t 41), (.t 42)], none, []⟩,
 ⟨(some 40), .mv, [(.t 43)], none, []⟩,
 ⟨(some 44), (.ext 0), [(.t 40)], none, []⟩,
 ⟨(some 45), (.ext 1), [(.t 40)], none, []⟩,
 ⟨(some 7), (.alloc [(.int .i64 0), (.int .i64 0)]), [], none, []⟩,
 ⟨none, (.store 2 none), [(.t 7), (.t 44)], none, []⟩,
 ⟨(some 8), .mv, [(.t 45)], none, []⟩] 0 [1, 2, 5, 6, 7, 8])
 (.seq
 (.seq
 (.reg false [] [] [
 ⟨(some 9), .mv, [(.c (.int .i64 0))], none, []⟩] 0 [1, 2, 5, 6, 7, 8, 9])
 (.block 0
 (.loop b9_0)))
 (.seq
 (.reg false [10] [10] [
 ⟨(some 62), (.load (some 4)), [(.t 2)], none, []⟩,
 ⟨(some 63), .mv, [(.t 1)], none, []⟩,
 ⟨(some 64), (.call false false false), [(.f 41), (.t 62), (.t 63)], none, []⟩,
 ⟨(some 61), .mv, [(.t 64)], none, []⟩,
 ⟨(some 65), (.ext 0), [(.t 61)], none, []⟩,
 ⟨(some 66), (.ext 1), [(.t 61)], none, []⟩,
 ⟨(some 10), (.alloc [(.int .i64 0), (.int .i64 0)]), [], none, []⟩,
 ⟨none, (.store 2 none), [(.t 10), (.t 65)], none, []⟩,
 ⟨(some 11), .mv, [(.t 66)], none, []⟩] 0 [2, 5, 7, 8, 10, 11])
 (.seq
 (.reg false [] [] [
 ⟨(some 67), (.load (some 4)), [(.t 5)], none, []⟩,
 ⟨(some 68), (.load (some 4)), [(.t 2)], none, []⟩,
 ⟨(some 69), (.call false false false), [(.f 20), (.t 67), (.t 68)], none, []⟩,
 ⟨(some 70), .mv, [(.t 69)], none, []⟩,
 ⟨(some 71), (.load (some 2)), [(.t 7)], (some (70, true)), []⟩,
 ⟨(some 72), (.load (some 2)), [(.t 10)], (some (70, true)), []⟩,
 ⟨(some 73), (.eqs false [(some .i64), (some .i64)]), [(.t 71), (.t 72)], (some (70, true)), []⟩,
 ⟨(some 74), .pick, [(.t 70), (.t 73), (.c (.bool false))], none, []⟩,
 ⟨(some 75), .mv, [(.t 74)], none, []⟩,
 ⟨(some 76), .mv, [(.t 8)], (some (75, true)), []⟩,
 ⟨(some 77), .mv, [(.t 11)], (some (75, true)), []⟩,
 ⟨(some 78), (.bin 0 .eql), [(.t 76), (.t 77)], (some (75, true)), []⟩,
 ⟨(some 79), .pick, [(.t 75), (.t 78), (.c (.bool false))], none, []⟩,
 ⟨(some 80), .mv, [(.t 79)], none, []⟩,
 ⟨(some 81), (.call false false false), [(.f 15)], (some (80, true)), []⟩,
 ⟨(some 82), .pick, [(.t 80), (.t 81), (.c (.bool false))], none, []⟩,
 ⟨(some 4), .mv, [(.t 82)], none, []⟩] 0 [4])
 .ret))))))),
 [(.t 4)]⟩
theorem c9 : funC Try.prog [(0, [1, 2]), (1, [1, 2, 33]), (2, [4]), (3, [1, 2, 5, 6]), (4, [1, 2, 5, 6, 7, 8]), (5, [1, 2, 5, 6, 7, 8, 9]), (6, [1, 2, 5, 6, 7, 8, 9, 49]), (7, [1, 2, 5, 6, 7, 8, 9]), (8, [1, 2, 5, 6, 7, 8, 9, 60]), (9, [4]), (10, [2, 5, 7, 8, 10, 11]), (11, [4])] Try.f9 = some (unF l9) := by kernel_rfl
/-- acme/acmelaw06.large -/
def l14 : LFun := ⟨2, 42, [],
 (.seq
 (.reg false [2] [2] [
 ⟨(some 2), .box, [(.t 0)], none, []⟩,
 ⟨(some 4), .mv, [(.c (.bool false))], none, []⟩] 0 [1, 2])
 (.seq
 (.reg false [] [] [
 ⟨(some 5), (.fa 0), [(.t 2)], none, []⟩,
 ⟨(some 6), (.load none), [(.t 5)], none, []⟩,
 ⟨(some 7), .len, [(.t 6)], none, []⟩,
 ⟨(some 8), (.bin 0 .gtr), [(.t 7), (.c (.int .i64 25))], none, []⟩,
 ⟨(some 9), .mv, [(.t 8)], none, []⟩,
 ⟨(some 10), (.fa 0), [(.t 2)], (some (9, true)), []⟩,
 ⟨(some 11), (.load none), [(.t 10)], (some (9, true)), []⟩,
 ⟨(some 12), .len, [(.t 11)], (some (9, true)), []⟩,
 ⟨(some 13), (.bin 0 .leq), [(.t 12), (.c (.int .i64 200))], (some (9, true)), []⟩,
 ⟨(some 14), .pick, [(.t 9), (.t 13), (.c (.bool false))], none, []⟩,
 ⟨(some 15), .mv, [(.t 14)], none, []⟩,
 ⟨(some 16), (.fa 0), [(.t 2)], (some (15, false)), []⟩,
 ⟨(some 17), (.load none), [(.t 16)], (some (15, false)), []⟩,
 ⟨(some 18), .len, [(.t 17)], (some (15, false)), []⟩,
 ⟨(some 19), (.bin 0 .gtr), [(.t 18), (.c (.int .i64 205))], (some (15, false)), []⟩,
 ⟨(some 20), .pick, [(.t 15), (.c (.bool true)), (.t 19)], none, []⟩,
 ⟨(some 21), .mv, [(.t 20)], none, []⟩,
 ⟨(some 22), (.fa 1), [(.t 2)], (some (21, false)), []⟩,
 ⟨(some 23), (.load none), [(.t 22)], (some (21, false)), []⟩,
 ⟨(some 24), .len, [(.t 23)], (some (21, false)), []⟩,
 ⟨(some 25), (.bin 0 .gtr), [(.t 24), (.c (.int .i64 30))], (some (21, false)), []⟩,
 ⟨(some 26), .pick, [(.t 21), (.c (.bool true)), (.t 25)], none, []⟩,
 ⟨(some 27), .mv, [(.t 26)], none, []⟩,
 ⟨(some 28), .mv, [(.t 1)], (some (27, false)), []⟩,
 ⟨(some 29), .len, [(.t 28)], (some (27, false)), []⟩,
 ⟨(some 30), (.bin 0 .gtr), [(.t 29), (.c (.int .i64 12))], (some (27, false)), []⟩,
 ⟨(some 31), .mv, [(.t 30)], (some (27, false)), []⟩,
 ⟨(some 32), .mv, [(.t 1)], (some (31, true)), []⟩,
 ⟨(some 33), .len, [(.t 32)], (some (31, true)), []⟩,
 ⟨(some 34), (.bin 0 .leq), [(.t 33), (.c (.int .i64 200))], (some (31, true)), []⟩,
 ⟨(some 35), .pick, [(.t 31), (.t 34), (.c (.bool false))], (some (27, false)), []⟩,
 ⟨(some 36), .pick, [(.t 27), (.c (.bool true)), (.t 35)], none, []⟩,
 ⟨(some 37), .mv, [(.t 36)], none, []⟩,
 ⟨(some 38), .mv, [(.t 1)], (some (37, false)), []⟩,
 ⟨(some 39), .len, [(.t 38)], (some (37, false)), []⟩,
 ⟨(some 40), (.bin 0 .gtr), [(.t 39), (.c (.int .i64 205))], (some (37, false)), []⟩,
 ⟨(some 41), .pick, [(.t 37), (.c (.bool true)), (.t 40)], none, []⟩,
 ⟨(some 4), .mv, [(.t 41)], none, []⟩] 0 [4])
 .ret)),
 [(.t 4)]⟩
theorem c14 : funC Try.prog [(0, [1, 2]), (1, [4])] Try.f14 = some (unF l14) := by kernel_rfl
/-- acme/acmelaw06.known -/
def l15 : LFun := ⟨0, 180, [],
 (.seq
 (.reg false [] [] [
 ⟨(some 0), .mv, [(.c (.bool false))], none, []⟩] 0 [])
 (.seq
 (.reg false [19, 1] [19, 1] [
 ⟨(some 19), (.call false false true), [(.f 49)], none, []⟩,
 ⟨(some 20), (.call false false false), [(.f 19), (.t 19), (.c (.sl none 2 [])), (.c (.int .i64 5))], none, []⟩,
 ⟨(some 18), .mv, [(.t 20)], none, []⟩,
 ⟨(some 21), (.ext 0), [(.t 18)], none, []⟩,
 ⟨(some 22), (.ext 1), [(.t 18)], none, []⟩,
 ⟨(some 1), (.alloc [(.int .i64 0), (.int .i64 0)]), [], none, []⟩,
 ⟨none, (.store 2 none), [(.t 1), (.t 21)], none, []⟩,
 ⟨(some 2), .mv, [(.t 22)], none, []⟩] 0 [1, 2])
 (.seq
 (.reg false [24, 26, 3] [24, 26, 3] [
 ⟨(some 24), (.call false false true), [(.f 49)], none, []⟩,
 ⟨(some 25), (.build [(.int .i64 0), (.int .i64 0)] [(0, 1), (1, 1)]), [(.c (.int .i64 4)), (.c (.int .i64 (-5)))], none, []⟩,
 ⟨(some 26), (.bsl 2 [(.int .i64 0), (.int .i64 0)] 1 [0]), [(.t 25)], none, []⟩,
 ⟨(some 27), (.call false false false), [(.f 19), (.t 24), (.t 26), (.c (.int .i64 4))], none, []⟩,
 ⟨(some 23), .mv, [(.t 27)], none, []⟩,
 ⟨(some 28), (.ext 0), [(.t 23)], none, []⟩,
 ⟨(some 29), (.ext 1), [(.t 23)], none, []⟩,
 ⟨(some 3), (.alloc [(.int .i64 0), (.int .i64 0)]), [], none, []⟩,
 ⟨none, (.store 2 none), [(.t 3), (.t 28)], none, []⟩,
 ⟨(some 4), .mv, [(.t 29)], none, []⟩] 0 [1, 2, 3, 4])
 (.seq
 (.reg false [31, 32, 33] [31, 32, 33] [
 ⟨(some 31), (.call false false true), [(.f 49)], none, []⟩,
 ⟨(some 32), (.bsl 1 [(.int .i64 0)] 4 [0, 1, 2, 3]), [(.c (.int .i64 0)), (.c (.int .i64 4)), (.c (.int .i64 8)), (.c (.int .i64 4))], none, []⟩,
 ⟨(some 33), (.call false false true), [(.f 30), (.t 31), (.c (.sl none 2 [])), (.t 32)], none, []⟩,
 ⟨(some 30), .mv, [(.t 33)], none, []⟩,
 ⟨(some 34), (.ext 0), [(.t 30)], none, []⟩,
 ⟨(some 35), (.ext 1), [(.t 30)], none, []⟩,
 ⟨(some 5), .mv, [(.t 34)], none, []⟩,
 ⟨(some 6), .mv, [(.t 35)], none, []⟩] 0 [1, 2, 3, 4, 5, 6])
 (.seq
 (.reg false [37, 7] [37, 7] [
 ⟨(some 37), (.call false false true), [(.f 49)], none, []⟩,
 ⟨(some 38), (.call false false false), [(.f 34), (.t 37), (.c (.sl none 2 [])), (.c (.int .i64 0)), (.c (.int .i64 4))], none, []⟩,
 ⟨(some 36), .mv, [(.t 38)], none, []⟩,
 ⟨(some 39), (.ext 0), [(.t 36)], none, []⟩,
 ⟨(some 40), (.ext 1), [(.t 36)], none, []⟩,
 ⟨(some 7), (.alloc [(.int .i64 0), (.int .i64 0), (.int .i64 0), (.int .i64 0), (.int .i64 0), (.int .i64 0)]), [], none, []⟩,
 ⟨none, (.store 6 none), [(.t 7), (.t 39)], none, []⟩,
 ⟨(some 8), .mv, [(.t 40)], none, []⟩] 0 [1, 2, 3, 4, 5, 6, 7, 8])
 (.seq
 (.reg false [42, 43] [42, 43] [
 ⟨(some 42), (.call false false true), [(.f 49)], none, []⟩,
 ⟨(some 43), (.call false false true), [(.f 35), (.t 42), (.c (.int .i64 6))], none, []⟩,
 ⟨(some 41), .mv, [(.t 43)], none, []⟩,
 ⟨(some 44), (.ext 0), [(.t 41)], none, []⟩,
 ⟨(some 45), (.ext 1), [(.t 41)], none, []⟩,
 ⟨(some 9), .mv, [(.t 44)], none, []⟩,
 ⟨(some 10), .mv, [(.t 45)], none, []⟩] 0 [1, 2, 3, 4, 5, 6, 7, 8, 9, 10])
 (.seq
 (.reg false [47] [47] [
 ⟨(some 47), (.call false false true), [(.f 49)], none, []⟩,
 ⟨(some 48), (.call false false false), [(.f 37), (.t 47), (.c (.int .i64 2))], none, []⟩,
 ⟨(some 46), .mv, [(.t 48)], none, []⟩,
 ⟨(some 49), (.ext 0), [(.t 46)], none, []⟩,
 ⟨(some 50), (.ext 1), [(.t 46)], none, []⟩,
 ⟨(some 11), .mv, [(.t 49)], none, []⟩,
 ⟨(some 12), .mv, [(.t 50)], none, []⟩] 0 [1, 2, 3, 4, 5, 6, 7, 8, 9, 10, 11, 12])
 (.seq
 (.reg false [52, 53] [52, 53] [
 ⟨(some 52), (.bsl 1 [(.int .i64 0)] 5 [0, 1, 2, 3, 4]), [(.c (.int .i64 0)), (.c (.int .i64 6)), (.c (.int .i64 4)), (.c (.int .i64 8)), (.c (.int .i64 4))], none, []⟩,
 ⟨(some 53), (.call false false true), [(.f 38), (.t 52), (.c (.int .i64 2))], none, []⟩,
 ⟨(some 51), .mv, [(.t 53)], none, []⟩,
 ⟨(some 54), (.ext 0), [(.t 51)], none, []⟩,
 ⟨(some 55), (.ext 1), [(.t 51)], none, []⟩,
 ⟨(some 56), (.ext 2), [(.t 51)], none, []⟩,
 ⟨(some 13), .mv, [(.t 54)], none, []⟩,
 ⟨(some 14), .mv, [(.t 55)], none, []⟩,
 ⟨(some 15), .mv, [(.t 56)], none, []⟩] 0 [1, 2, 3, 4, 5, 6, 7, 8, 9, 10, 11, 12, 13, 14, 15])
 (.seq
 (.reg false [58, 62, 16] [58, 62, 16] [
 ⟨(some 58), (.call false false true), [(.f 49)], none, []⟩,
 ⟨(some 59), (.call false false false), [(.f 48), (.c (.int .i64 100)), (.c (.int .i64 101))], none, []⟩,
 ⟨(some 60), (.call false false false), [(.f 48), (.c (.int .i64 107)), (.c (.int .i64 108))], none, []⟩,
 ⟨(some 61), (.build [(.int .i64 0), (.int .i64 0), (.int .i64 0), (.int .i64 0)] [(0, 2), (2, 2)]), [(.t 59), (.t 60)], none, []⟩,
 ⟨(some 62), (.bsl 4 [(.int .i64 0), (.int .i64 0), (.int .i64 0), (.int .i64 0)] 1 [0]), [(.t 61)], none, []⟩,
 ⟨(some 63), (.call false false false), [(.f 40), (.t 58), (.t 62)], none, []⟩,
 ⟨(some 57), .mv, [(.t 63)], none, []⟩,
 ⟨(some 64), (.ext 0), [(.t 57)], none, []⟩,
 ⟨(some 65), (.ext 1), [(.t 57)], none, []⟩,
 ⟨(some 16), (.alloc [(.int .i64 0), (.int .i64 0)]), [], none, []⟩,
 ⟨none, (.store 2 none), [(.t 16), (.t 64)], none, []⟩,
 ⟨(some 17), .mv, [(.t 65)], none, []⟩] 0 [1, 2, 3, 4, 5, 6, 7, 8, 9, 10, 11, 12, 13, 14, 15, 16, 17])
 (.seq
 (.seq
 (.reg false [] [] [
 ⟨(some 66), .mv, [(.t 2)], none, []⟩,
 ⟨(some 67), (.bin 0 .neq), [(.t 66), (.c (.int .i64 0))], none, []⟩,
 ⟨(some 68), .mv, [(.t 67)], none, []⟩,
 ⟨(some 69), .mv, [(.t 4)], (some (68, false)), []⟩,
 ⟨(some 70), (.bin 0 .neq), [(.t 69), (.c (.int .i64 0))], (some (68, false)), []⟩,
 ⟨(some 71), .pick, [(.t 68), (.c (.bool true)), (.t 70)], none, []⟩,
 ⟨(some 72), .mv, [(.t 71)], none, []⟩,
 ⟨(some 73), .mv, [(.t 6)], (some (72, false)), []⟩,
 ⟨(some 74), (.bin 0 .neq), [(.t 73), (.c (.int .i64 0))], (some (72, false)), []⟩,
 ⟨(some 75), .pick, [(.t 72), (.c (.bool true)), (.t 74)], none, []⟩,
 ⟨(some 76), .mv, [(.t 75)], none, []⟩,
 ⟨(some 77), .mv, [(.t 8)], (some (76, false)), []⟩,
 ⟨(some 78), (.bin 0 .neq), [(.t 77), (.c (.int .i64 0))], (some (76, false)), []⟩,
 ⟨(some 79), .pick, [(.t 76), (.c (.bool true)), (.t 78)], none, []⟩,
 ⟨(some 80), .mv, [(.t 79)], none, []⟩,
 ⟨(some 81), .mv, [(.t 10)], (some (80, false)), []⟩,
 ⟨(some 82), (.bin 0 .neq), [(.t 81), (.c (.int .i64 0))], (some (80, false)), []⟩,
 ⟨(some 83), .pick, [(.t 80), (.c (.bool true)), (.t 82)], none, []⟩,
 ⟨(some 84), .mv, [(.t 83)], none, []⟩,
 ⟨(some 85), .mv, [(.t 12)], (some (84, false)), []⟩,
 ⟨(some 86), (.bin 0 .neq), [(.t 85), (.c (.int .i64 0))], (some (84, false)), []⟩,
 ⟨(some 87), .pick, [(.t 84), (.c (.bool true)), (.t 86)], none, []⟩,
 ⟨(some 88), .mv, [(.t 87)], none, []⟩,
 ⟨(some 89), .mv, [(.t 15)], (some (88, false)), []⟩,
 ⟨(some 90), (.bin 0 .neq), [(.t 89), (.c (.int .i64 0))], (some (88, false)), []⟩,
 ⟨(some 91), .pick, [(.t 88), (.c (.bool true)), (.t 90)], none, []⟩,
 ⟨(some 92), .mv, [(.t 91)], none, []⟩,
 ⟨(some 93), .mv, [(.t 17)], (some (92, false)), []⟩,
 ⟨(some 94), (.bin 0 .neq), [(.t 93), (.c (.int .i64 0))], (some (92, false)), []⟩,
 ⟨(some 95), .pick, [(.t 92), (.c (.bool true)), (.t 94)], none, []⟩,
 ⟨(some 96), .mv, [(.t 95)], none, []⟩,
 ⟨(some 97), .mv, [(.t 5)], (some (96, false)), []⟩,
 ⟨(some 98), .len, [(.t 97)], (some (96, false)), []⟩,
 ⟨(some 99), (.bin 0 .neq), [(.t 98), (.c (.int .i64 3))], (some (96, false)), []⟩,
 ⟨(some 100), .pick, [(.t 96), (.c (.bool true)), (.t 99)], none, []⟩,
 ⟨(some 101), .mv, [(.t 100)], none, []⟩,
 ⟨(some 102), .mv, [(.t 9)], (some (101, false)), []⟩,
 ⟨(some 103), .len, [(.t 102)], (some (101, false)), []⟩,
 ⟨(some 104), (.bin 0 .neq), [(.t 103), (.c (.int .i64 2))], (some (101, false)), []⟩,
 ⟨(some 105), .pick, [(.t 101), (.c (.bool true)), (.t 104)], none, []⟩,
 ⟨(some 106), .mv, [(.t 105)], none, []⟩,
 ⟨(some 107), .mv, [(.t 13)], (some (106, false)), []⟩,
 ⟨(some 108), .len, [(.t 107)], (some (106, false)), []⟩,
 ⟨(some 109), (.bin 0 .neq), [(.t 108), (.c (.int .i64 3))], (some (106, false)), []⟩,
 ⟨(some 110), .pick, [(.t 106), (.c (.bool true)), (.t 109)], none, []⟩,
 ⟨(some 111), .mv, [(.t 110)], none, []⟩,
 ⟨(some 112), .mv, [(.t 14)], (some (111, false)), []⟩,
 ⟨(some 113), .len, [(.t 112)], (some (111, false)), []⟩,
 ⟨(some 114), (.bin 0 .neq), [(.t 113), (.c (.int .i64 2))], (some (111, false)), []⟩,
 ⟨(some 115), .pick, [(.t 111), (.c (.bool true)), (.t 114)], none, []⟩] 0 [1, 3, 5, 7, 9, 11, 13, 14, 16, 115])
 (.cond (.t 115)
 (.seq
 (.reg false [] [] [
 ⟨(some 0), .mv, [(.c (.bool false))], none, []⟩] 0 [0])
 .ret)
 .skip))
 (.seq
 (.reg false [] [] [
 ⟨(some 116), (.load (some 2)), [(.t 1)], none, [117]⟩,
 ⟨(some 117), (.call true false false), [(.f 48), (.c (.int .i64 9)), (.c (.int .i64 12))], none, [116]⟩,
 ⟨(some 118), (.eqs false [(some .i64), (some .i64)]), [(.t 116), (.t 117)], none, []⟩,
 ⟨(some 119), .mv, [(.t 118)], none, []⟩,
 ⟨(some 120), (.load (some 2)), [(.t 3)], (some (119, true)), [121]⟩,
 ⟨(some 121), (.call true false false), [(.f 48), (.c (.int .i64 5)), (.c (.int .i64 7))], (some (119, true)), [120]⟩,
 ⟨(some 122), (.eqs false [(some .i64), (some .i64)]), [(.t 120), (.t 121)], (some (119, true)), []⟩,
 ⟨(some 123), .pick, [(.t 119), (.t 122), (.c (.bool false))], none, []⟩,
 ⟨(some 124), .mv, [(.t 123)], none, []⟩,
 ⟨(some 125), .mv, [(.t 5)], (some (124, true)), [128]⟩,
 ⟨(some 126), (.ixs 2), [(.t 125), (.c (.int .i64 1))], (some (124, true)), [128]⟩,
 ⟨(some 127), (.load (some 2)), [(.t 126)], (some (124, true)), [128]⟩,
 ⟨(some 128), (.call true false false), [(.f 48), (.c (.int .i64 (-16))), (.c (.int .i64 (-10)))], (some (124, true)), [125, 126, 127]⟩,
 ⟨(some 129), (.eqs false [(some .i64), (some .i64)]), [(.t 127), (.t 128)], (some (124, true)), []⟩,
 ⟨(some 130), .pick, [(.t 124), (.t 129), (.c (.bool false))], none, []⟩,
 ⟨(some 131), .mv, [(.t 130)], none, []⟩,
 ⟨(some 132), .mv, [(.t 5)], (some (131, true)), [135]⟩,
 ⟨(some 133), (.ixs 2), [(.t 132), (.c (.int .i64 2))], (some (131, true)), [135]⟩,
 ⟨(some 134), (.load (some 2)), [(.t 133)], (some (131, true)), [135]⟩,
 ⟨(some 135), (.call true false false), [(.f 48), (.c (.int .i64 15)), (.c (.int .i64 24))], (some (131, true)), [132, 133, 134]⟩,
 ⟨(some 136), (.eqs false [(some .i64), (some .i64)]), [(.t 134), (.t 135)], (some (131, true)), []⟩,
 ⟨(some 137), .pick, [(.t 131), (.t 136), (.c (.bool false))], none, []⟩,
 ⟨(some 138), .mv, [(.t 137)], none, []⟩,
 ⟨(some 139), (.load (some 6)), [(.t 7)], (some (138, true)), [140, 141, 142]⟩,
 ⟨(some 140), (.build [(.int .i64 0), (.int .i64 0)] [(0, 1), (1, 1)]), [(.c (.int .i64 1)), (.c (.int .i64 3))], (some (138, true)), [139, 141]⟩,
 ⟨(some 141), (.build [(.int .i64 0), (.int .i64 0)] [(0, 1), (1, 1)]), [(.c (.int .i64 0)), (.c (.int .i64 4))], (some (138, true)), [139, 140]⟩,
 ⟨(some 142), (.build [(.int .i64 0), (.int .i64 0), (.int .i64 0), (.int .i64 0), (.int .i64 0), (.int .i64 0)] [(0, 1), (1, 1), (2, 2), (4, 2)]), [(.c (.int .i64 (-1))), (.c (.int .i64 12)), (.t 140), (.t 141)], (some (138, true)), [139]⟩,
 ⟨(some 143), (.eqs false [(some .i64), (some .i64), (some .i64), (some .i64), (some .i64), (some .i64)]), [(.t 139), (.t 142)], (some (138, true)), []⟩,
 ⟨(some 144), .pick, [(.t 138), (.t 143), (.c (.bool false))], none, []⟩,
 ⟨(some 145), .mv, [(.t 144)], none, []⟩,
 ⟨(some 146), .mv, [(.t 9)], (some (145, true)), [149]⟩,
 ⟨(some 147), (.ixs 2), [(.t 146), (.c (.int .i64 0))], (some (145, true)), [149]⟩,
 ⟨(some 148), (.load (some 2)), [(.t 147)], (some (145, true)), [149]⟩,
 ⟨(some 149), (.build [(.int .i64 0), (.int .i64 0)] [(0, 1), (1, 1)]), [(.c (.int .i64 4)), (.c (.int .i64 (-6)))], (some (145, true)), [146, 147, 148]⟩,
 ⟨(some 150), (.eqs false [(some .i64), (some .i64)]), [(.t 148), (.t 149)], (some (145, true)), []⟩,
 ⟨(some 151), .pick, [(.t 145), (.t 150), (.c (.bool false))], none, []⟩,
 ⟨(some 152), .mv, [(.t 151)], none, []⟩,
 ⟨(some 153), .mv, [(.t 9)], (some (152, true)), [156]⟩,
 ⟨(some 154), (.ixs 2), [(.t 153), (.c (.int .i64 1))], (some (152, true)), [156]⟩,
 ⟨(some 155), (.load (some 2)), [(.t 154)], (some (152, true)), [156]⟩,
 ⟨(some 156), (.build [(.int .i64 0), (.int .i64 0)] [(0, 1)]), [(.c (.int .i64 7))], (some (152, true)), [153, 154, 155]⟩,
 ⟨(some 157), (.eqs false [(some .i64), (some .i64)]), [(.t 155), (.t 156)], (some (152, true)), []⟩,
 ⟨(some 158), .pick, [(.t 152), (.t 157), (.c (.bool false))], none, []⟩,
 ⟨(some 159), .mv, [(.t 158)], none, []⟩,
 ⟨(some 160), .mv, [(.t 11)], (some (159, true)), []⟩,
 ⟨(some 161), (.bin 0 .eql), [(.t 160), (.c (.int .i64 5))], (some (159, true)), []⟩,
 ⟨(some 162), .pick, [(.t 159), (.t 161), (.c (.bool false))], none, []⟩,
 ⟨(some 163), .mv, [(.t 162)], none, []⟩,
 ⟨(some 164), .mv, [(.t 13)], (some (163, true)), []⟩,
 ⟨(some 165), (.ixs 1), [(.t 164), (.c (.int .i64 1))], (some (163, true)), []⟩,
 ⟨(some 166), (.load none), [(.t 165)], (some (163, true)), []⟩,
 ⟨(some 167), (.bin 0 .eql), [(.t 166), (.c (.int .i64 4))], (some (163, true)), []⟩,
 ⟨(some 168), .pick, [(.t 163), (.t 167), (.c (.bool false))], none, []⟩,
 ⟨(some 169), .mv, [(.t 168)], none, []⟩,
 ⟨(some 170), .mv, [(.t 14)], (some (169, true)), []⟩,
 ⟨(some 171), (.ixs 1), [(.t 170), (.c (.int .i64 1))], (some (169, true)), []⟩,
 ⟨(some 172), (.load none), [(.t 171)], (some (169, true)), []⟩,
 ⟨(some 173), (.bin 0 .eql), [(.t 172), (.c (.int .i64 4))], (some (169, true)), []⟩,
 ⟨(some 174), .pick, [(.t 169), (.t 173), (.c (.bool false))], none, []⟩,
 ⟨(some 175), .mv, [(.t 174)], none, []⟩,
 ⟨(some 176), (.load (some 2)), [(.t 16)], (some (175, true)), [177]⟩,
 ⟨(some 177), (.call true false false), [(.f 48), (.c (.int .i64 6)), (.c (.int .i64 8))], (some (175, true)), [176]⟩,
 ⟨(some 178), (.eqs false [(some .i64), (some .i64)]), [(.t 176), (.t 177)], (some (175, true)), []⟩,
 ⟨(some 179), .pick, [(.t 175), (.t 178), (.c (.bool false))], none, []⟩,
 ⟨(some 0), .mv, [(.t 179)], none, []⟩] 0 [0])
 .ret))))))))))),
 [(.t 0)]⟩
theorem c15 : funC Try.prog [(0, []), (1, [1, 2]), (2, [1, 2, 3, 4]), (3, [1, 2, 3, 4, 5, 6]), (4, [1, 2, 3, 4, 5, 6, 7, 8]), (5, [1, 2, 3, 4, 5, 6, 7, 8, 9, 10]), (6, [1, 2, 3, 4, 5, 6, 7, 8, 9, 10, 11, 12]), (7, [1, 2, 3, 4, 5, 6, 7, 8, 9, 10, 11, 12, 13, 14, 15]), (8, [1, 2, 3, 4, 5, 6, 7, 8, 9, 10, 11, 12, 13, 14, 15, 16, 17]), (9, [1, 3, 5, 7, 9, 11, 13, 14, 16, 115]), (10, [0]), (11, [0])] Try.f15 = some (unF l15) := by kernel_rfl
/-- acme/acmelaw06.screw -/
def l16 : LFun := ⟨1, 13, [],
 (.seq
 (.reg false [1, 2] [1, 2] [
 ⟨(some 1), .box, [(.t 0)], none, []⟩,
 ⟨(some 2), (.alloc [(.sl none 2 []), (.sl none 1 []), (.int .i64 0), (.int .i64 0)]), [], none, []⟩] 0 [1, 2])
 (.seq
 (.reg false [3, 6, 9] [3, 6, 9] [
 ⟨(some 3), (.bsl 2 [(.int .i64 0), (.int .i64 0)] 0 []), [], none, [4, 5, 7, 8, 10, 11]⟩,
 ⟨(some 4), (.fa 0), [(.t 1)], none, [3, 7, 8, 10, 11]⟩,
 ⟨(some 5), (.load none), [(.t 4)], none, [3, 7, 8, 10, 11]⟩,
 ⟨(some 6), (.append true 2 16), [(.t 3), (.t 5)], none, [7, 8, 10, 11]⟩,
 ⟨(some 7), (.fa 1), [(.t 1)], none, [3, 4, 5, 6, 10, 11]⟩,
 ⟨(some 8), (.load none), [(.t 7)], none, [3, 4, 5, 6, 10, 11]⟩,
 ⟨(some 9), (.call true false true), [(.f 29), (.t 8)], none, [10, 11]⟩,
 ⟨(some 10), (.fa 2), [(.t 1)], none, [3, 4, 5, 6, 7, 8, 9]⟩,
 ⟨(some 11), (.load (some 2)), [(.t 10)], none, [3, 4, 5, 6, 7, 8, 9]⟩,
 ⟨(some 12), (.build [(.sl none 2 []), (.sl none 1 []), (.int .i64 0), (.int .i64 0)] [(0, 1), (1, 1), (2, 2)]), [(.t 6), (.t 9), (.t 11)], none, []⟩,
 ⟨none, (.store 4 (some 2)), [(.t 2), (.t 12)], none, []⟩] 0 [2])
 .ret)),
 [(.c 2 (some 4))]⟩
theorem c16 : funC Try.prog [(0, [1, 2]), (1, [2])] Try.f16 = some (unF l16) := by kernel_rfl
/-- acme/acmelaw06.notches -/
def l17 : LFun := ⟨1, 6, [],
 (.seq
 (.reg false [] [] [
 ⟨(some 2), .mv, [(.c (.sl none 2 []))], none, []⟩] 0 [0])
 (.seq
 (.reg false [3, 5] [3] [
 ⟨(some 3), (.bsl 2 [(.int .i64 0), (.int .i64 0)] 0 []), [], none, []⟩,
 ⟨(some 4), .mv, [(.t 0)], none, []⟩,
 ⟨(some 5), (.append false 2 16), [(.t 3), (.t 4)], none, []⟩,
 ⟨(some 2), .mv, [(.t 5)], none, []⟩] 0 [2])
 .ret)),
 [(.t 2)]⟩
theorem c17 : funC Try.prog [(0, [0]), (1, [2])] Try.f17 = some (unF l17) := by kernel_rfl
/-- acme/lead.Check -/
def l18 : LFun := ⟨1, 40, [],
 (.seq
 (.reg false [1] [1] [
 ⟨(some 1), .box, [(.t 0)], none, []⟩,
 ⟨(some 2), .mv, [(.c (.int .i64 0))], none, []⟩] 0 [1])
 (.seq
 (.reg false [] [] [
 ⟨(some 3), .mv, [(.f 50)], none, []⟩] 0 [1, 3])
 (.seq
 (.block 0
 (.seq
 (.seq
 (.reg false [] [] [
 ⟨(some 5), (.fa 0), [(.t 1)], none, []⟩,
 ⟨(some 6), (.load none), [(.t 5)], none, []⟩,
 ⟨(some 7), .len, [(.t 6)], none, []⟩,
 ⟨(some 8), (.bin 0 .gtr), [(.t 7), (.c (.int .i64 200))], none, []⟩,
 ⟨(some 4), .mv, [(.t 8)], none, []⟩] 0 [1, 3, 4])
 (.cond (.t 4)
 .skip
 (.reg false [] [] [
 ⟨(some 9), (.fa 1), [(.t 1)], none, []⟩,
 ⟨(some 10), (.load none), [(.t 9)], none, []⟩,
 ⟨(some 11), .len, [(.t 10)], none, []⟩,
 ⟨(some 12), (.bin 0 .gtr), [(.t 11), (.c (.int .i64 24))], none, []⟩,
 ⟨(some 4), .mv, [(.t 12)], none, []⟩] 0 [1, 3, 4])))
 (.cond (.t 4)
 (.seq
 (.reg false [] [] [
 ⟨(some 2), .mv, [(.c (.int .i64 5))], none, []⟩] 0 [2])
 .ret)
 (.seq
 (.seq
 (.reg false [] [] [
 ⟨(some 14), (.fa 0), [(.t 1)], none, []⟩,
 ⟨(some 15), (.load none), [(.t 14)], none, []⟩,
 ⟨(some 16), .len, [(.t 15)], none, []⟩,
 ⟨(some 17), (.bin 0 .lss), [(.t 16), (.c (.int .i64 2))], none, []⟩,
 ⟨(some 13), .mv, [(.t 17)], none, []⟩] 0 [1, 3, 13])
 (.cond (.t 13)
 .skip
 (.seq
 (.reg false [] [] [
 ⟨(some 18), (.fa 1), [(.t 1)], none, []⟩,
 ⟨(some 19), (.load none), [(.t 18)], none, []⟩,
 ⟨(some 20), .len, [(.t 19)], none, []⟩,
 ⟨(some 21), (.bin 0 .eql), [(.t 20), (.c (.int .i64 0))], none, []⟩,
 ⟨(some 13), .mv, [(.t 21)], none, []⟩] 0 [1, 3, 13])
 (.cond (.t 13)
 .skip
 (.seq
 (.reg false [] [] [
 ⟨(some 22), (.fa 0), [(.t 1)], none, []⟩,
 ⟨(some 23), (.load none), [(.t 22)], none, []⟩,
 ⟨(some 24), .mv, [(.t 3)], none, []⟩,
 ⟨(some 25), (.call false false false), [(.f 52), (.t 23), (.t 24)], none, []⟩,
 ⟨(some 13), .mv, [(.t 25)], none, []⟩] 0 [1, 13])
 (.cond (.t 13)
 .skip
 (.reg false [] [] [
 ⟨(some 26), (.fa 1), [(.t 1)], none, []⟩,
 ⟨(some 27), (.load none), [(.t 26)], none, []⟩,
 ⟨(some 28), (.call false false false), [(.f 53), (.c (.int .i64 (-10000))), (.c (.int .i64 10000)), (.t 27)], none, []⟩,
 ⟨(some 29), (.un .not), [(.t 28)], none, []⟩,
 ⟨(some 13), .mv, [(.t 29)], none, []⟩] 0 [1, 13])))))))
 (.cond (.t 13)
 (.seq
 (.reg false [] [] [
 ⟨(some 2), .mv, [(.c (.int .i64 2))], none, []⟩] 0 [2])
 .ret)
 (.seq
 (.seq
 (.reg false [] [] [
 ⟨(some 31), (.fa 1), [(.t 1)], none, []⟩,
 ⟨(some 32), (.load none), [(.t 31)], none, []⟩,
 ⟨(some 33), (.ixs 1), [(.t 32), (.c (.int .i64 0))], none, []⟩,
 ⟨(some 34), (.load none), [(.t 33)], none, []⟩,
 ⟨(some 35), (.bin 0 .neq), [(.t 34), (.c (.int .i64 0))], none, []⟩,
 ⟨(some 30), .mv, [(.t 35)], none, []⟩] 0 [1, 30])
 (.cond (.t 30)
 .skip
 (.reg false [] [] [
 ⟨(some 36), (.fa 2), [(.t 1)], none, []⟩,
 ⟨(some 37), (.load (some 2)), [(.t 36)], none, []⟩,
 ⟨(some 38), (.call false false false), [(.f 51), (.t 37), (.c (.int .i64 0)), (.c (.int .i64 10000))], none, []⟩,
 ⟨(some 39), (.un .not), [(.t 38)], none, []⟩,
 ⟨(some 30), .mv, [(.t 39)], none, []⟩] 0 [30])))
 (.cond (.t 30)
 (.seq
 (.reg false [] [] [
 ⟨(some 2), .mv, [(.c (.int .i64 2))], none, []⟩] 0 [2])
 .ret)
 .skip)))))))
 (.seq
 (.reg false [] [] [
 ⟨(some 2), .mv, [(.c (.int .i64 0))], none, []⟩] 0 [2])
 .ret)))),
 [(.t 2)]⟩
theorem c18 : funC Try.prog [(0, [1]), (1, [1, 3]), (2, [1, 3, 4]), (3, [1, 3, 4]), (4, [2]), (5, [1, 3, 13]), (6, [1, 3, 13]), (7, [1, 13]), (8, [1, 13]), (9, [2]), (10, [1, 30]), (11, [30]), (12, [2]), (13, [2])] Try.f18 = some (unF l18) := by kernel_rfl
/-- acme/lead.Error -/
def l19 : LFun := ⟨3, 35, [],
 (.seq
 (.reg false [3, 6] [3, 6] [
 ⟨(some 3), .box, [(.t 0)], none, []⟩,
 ⟨(some 6), (.alloc [(.int .i64 0), (.int .i64 0)]), [], none, []⟩,
 ⟨(some 7), .mv, [(.c (.int .i64 0))], none, []⟩] 0 [1, 2, 3, 6])
 (.seq
 (.reg false [13, 8] [13, 8] [
 ⟨(some 11), (.load (some 4)), [(.t 3)], none, []⟩,
 ⟨(some 12), .mv, [(.t 1)], none, []⟩,
 ⟨(some 13), (.call false false true), [(.f 54), (.t 11), (.t 12)], none, []⟩,
 ⟨(some 10), .mv, [(.t 13)], none, []⟩,
 ⟨(some 14), (.ext 0), [(.t 10)], none, []⟩,
 ⟨(some 15), (.ext 1), [(.t 10)], none, []⟩,
 ⟨(some 8), (.alloc [(.sl none 2 []), (.sl none 1 []), (.int .i64 0), (.int .i64 0), (.sl none 2 [])]), [], none, []⟩,
 ⟨none, (.store 5 none), [(.t 8), (.t 14)], none, []⟩,
 ⟨(some 9), .mv, [(.t 15)], none, []⟩] 0 [2, 6, 8, 9])
 (.seq
 (.block 0
 (.seq
 (.reg false [] [] [
 ⟨(some 17), .mv, [(.t 9)], none, []⟩,
 ⟨(some 18), (.bin 0 .neq), [(.t 17), (.c (.int .i64 0))], none, []⟩,
 ⟨(some 16), .mv, [(.t 18)], none, []⟩] 0 [2, 6, 8, 9, 16])
 (.cond (.t 16)
 (.seq
 (.reg false [] [] [
 ⟨(some 19), (.build [(.int .i64 0), (.int .i64 0)] []), [], none, []⟩,
 ⟨(some 20), .mv, [(.t 9)], none, []⟩,
 ⟨none, (.store 2 none), [(.t 6), (.t 19)], none, []⟩,
 ⟨(some 7), .mv, [(.t 20)], none, []⟩] 0 [6, 7])
 .ret)
 (.seq
 (.reg false [24] [24] [
 ⟨(some 22), (.load (some 5)), [(.t 8)], none, []⟩,
 ⟨(some 23), .mv, [(.t 2)], none, []⟩,
 ⟨(some 24), (.bsl 1 [(.int .i64 0)] 1 [0]), [(.t 23)], none, []⟩,
 ⟨(some 25), (.call false false false), [(.f 55), (.t 22), (.t 24)], none, []⟩,
 ⟨(some 26), (.un .not), [(.t 25)], none, []⟩,
 ⟨(some 21), .mv, [(.t 26)], none, []⟩] 0 [2, 6, 8, 21])
 (.cond (.t 21)
 (.seq
 (.reg false [] [] [
 ⟨(some 27), (.build [(.int .i64 0), (.int .i64 0)] []), [], none, []⟩,
 ⟨none, (.store 2 none), [(.t 6), (.t 27)], none, []⟩,
 ⟨(some 7), .mv, [(.c (.int .i64 3))], none, []⟩] 0 [6, 7])
 .ret)
 .skip)))))
 (.seq
 (.reg false [32] [32] [
 ⟨(some 28), (.load (some 5)), [(.t 8)], none, [29, 30, 31, 32, 33]⟩,
 ⟨(some 29), (.load (some 5)), [(.t 8)], none, [28, 30, 31, 32]⟩,
 ⟨(some 30), (.load (some 5)), [(.t 8)], none, [28, 29, 31]⟩,
 ⟨(some 31), .mv, [(.t 2)], none, [28, 29, 30]⟩,
 ⟨(some 32), (.call true false true), [(.f 58), (.t 30), (.t 31)], none, [28, 29]⟩,
 ⟨(some 33), (.call true false false), [(.f 57), (.t 29), (.t 32)], none, [28]⟩,
 ⟨(some 34), (.call false false false), [(.f 56), (.t 28), (.t 33)], none, []⟩,
 ⟨none, (.store 2 (some 6)), [(.t 6), (.t 34)], none, []⟩,
 ⟨(some 7), .mv, [(.c (.int .i64 0))], none, []⟩] 0 [6, 7])
 .ret)))),
 [(.c 6 (some 2)), (.t 7)]⟩
theorem c19 : funC Try.prog [(0, [1, 2, 3, 6]), (1, [2, 6, 8, 9]), (2, [2, 6, 8, 9, 16]), (3, [6, 7]), (4, [2, 6, 8, 21]), (5, [6, 7]), (6, [6, 7])] Try.f19 = some (unF l19) := by kernel_rfl
/-- acme/acmelaw06.same -/
def l20 : LFun := ⟨2, 24, [],
 (.seq
 (.reg false [2, 3] [2, 3] [
 ⟨(some 2), .box, [(.t 0)], none, []⟩,
 ⟨(some 3), .box, [(.t 1)], none, []⟩,
 ⟨(some 4), .mv, [(.c (.bool false))], none, []⟩] 0 [2, 3])
 (.seq
 (.reg false [] [] [
 ⟨(some 5), (.fa 2), [(.t 2)], none, []⟩,
 ⟨(some 6), (.load (some 2)), [(.t 5)], none, []⟩,
 ⟨(some 7), (.fa 2), [(.t 3)], none, []⟩,
 ⟨(some 8), (.load (some 2)), [(.t 7)], none, []⟩,
 ⟨(some 9), (.eqs false [(some .i64), (some .i64)]), [(.t 6), (.t 8)], none, []⟩,
 ⟨(some 10), .mv, [(.t 9)], none, []⟩,
 ⟨(some 11), (.fa 1), [(.t 2)], (some (10, true)), []⟩,
 ⟨(some 12), (.load none), [(.t 11)], (some (10, true)), []⟩,
 ⟨(some 13), (.fa 1), [(.t 3)], (some (10, true)), []⟩,
 ⟨(some 14), (.load none), [(.t 13)], (some (10, true)), []⟩,
 ⟨(some 15), (.call false false false), [(.f 31), (.t 12), (.t 14)], (some (10, true)), []⟩,
 ⟨(some 16), .pick, [(.t 10), (.t 15), (.c (.bool false))], none, []⟩,
 ⟨(some 17), .mv, [(.t 16)], none, []⟩,
 ⟨(some 18), (.fa 0), [(.t 2)], (some (17, true)), []⟩,
 ⟨(some 19), (.load none), [(.t 18)], (some (17, true)), []⟩,
 ⟨(some 20), (.fa 0), [(.t 3)], (some (17, true)), []⟩,
 ⟨(some 21), (.load none), [(.t 20)], (some (17, true)), []⟩,
 ⟨(some 22), (.call false false false), [(.f 33), (.t 19), (.t 21)], (some (17, true)), []⟩,
 ⟨(some 23), .pick, [(.t 17), (.t 22), (.c (.bool false))], none, []⟩,
 ⟨(some 4), .mv, [(.t 23)], none, []⟩] 0 [4])
 .ret)),
 [(.t 4)]⟩
theorem c20 : funC Try.prog [(0, [2, 3]), (1, [4])] Try.f20 = some (unF l20) := by kernel_rfl
/-- acme/acmeref06.Same -/
def b21_0 : LCode :=
 (.seq
 (.seq
 (.reg true [] [] [
 ⟨(some 11), .mv, [(.t 5)], none, []⟩,
 ⟨(some 12), .mv, [(.t 0)], none, []⟩,
 ⟨(some 13), .len, [(.t 12)], none, []⟩,
 ⟨(some 14), (.bin 0 .lss), [(.t 11), (.t 13)], none, []⟩] 0 [0, 1, 5, 14])
 (.cond (.t 14)
 .skip
 (.exit 0)))
 (.seq
 (.block 1
 (.seq
 (.reg true [] [] [
 ⟨(some 17), .mv, [(.t 0)], none, [18, 21, 22, 23, 24]⟩,
 ⟨(some 18), .mv, [(.t 5)], none, [17, 21, 22, 23, 24]⟩,
 ⟨(some 19), (.ixs 2), [(.t 17), (.t 18)], none, [21, 22, 23, 24]⟩,
 ⟨(some 20), (.load (some 2)), [(.t 19)], none, [21, 22, 23, 24]⟩,
 ⟨(some 21), .mv, [(.t 1)], none, [17, 18, 19, 20, 22]⟩,
 ⟨(some 22), .mv, [(.t 5)], none, [17, 18, 19, 20, 21]⟩,
 ⟨(some 23), (.ixs 2), [(.t 21), (.t 22)], none, [17, 18, 19, 20]⟩,
 ⟨(some 24), (.load (some 2)), [(.t 23)], none, [17, 18, 19, 20]⟩,
 ⟨(some 25), (.eqs true [(some .i64), (some .i64)]), [(.t 20), (.t 24)], none, []⟩] 0 [0, 1, 5, 25])
 (.cond (.t 25)
 (.seq
 (.reg true [] [] [
 ⟨(some 4), .mv, [(.c (.bool false))], none, []⟩] 0 [4])
 .ret)
 .skip)))
 (.reg true [] [] [
 ⟨(some 15), .mv, [(.t 5)], none, []⟩,
 ⟨(some 16), (.bin 0 .add), [(.t 15), (.c (.int .i64 1))], none, []⟩,
 ⟨(some 5), .mv, [(.t 16)], none, []⟩] 0 [0, 1, 5])))
def l21 : LFun := ⟨2, 26, [],
 (.seq
 (.reg false [] [] [
 ⟨(some 4), .mv, [(.c (.bool false))], none, []⟩] 0 [0, 1])
 (.seq
 (.seq
 (.reg false [] [] [
 ⟨(some 6), .mv, [(.t 0)], none, []⟩,
 ⟨(some 7), .len, [(.t 6)], none, []⟩,
 ⟨(some 8), .mv, [(.t 1)], none, []⟩,
 ⟨(some 9), .len, [(.t 8)], none, []⟩,
 ⟨(some 10), (.bin 0 .neq), [(.t 7), (.t 9)], none, []⟩] 0 [0, 1, 10])
 (.cond (.t 10)
 (.seq
 (.reg false [] [] [
 ⟨(some 4), .mv, [(.c (.bool false))], none, []⟩] 0 [4])
 .ret)
 .skip))
 (.seq
 (.seq
 (.reg false [] [] [
 ⟨(some 5), .mv, [(.c (.int .i64 0))], none, []⟩] 0 [0, 1, 5])
 (.block 0
 (.loop b21_0)))
 (.seq
 (.reg false [] [] [
 ⟨(some 4), .mv, [(.c (.bool true))], none, []⟩] 0 [4])
 .ret)))),
 [(.t 4)]⟩
theorem c21 : funC Try.prog [(0, [0, 1]), (1, [0, 1, 10]), (2, [4]), (3, [0, 1, 5]), (4, [0, 1, 5, 14]), (5, [0, 1, 5]), (6, [0, 1, 5, 25]), (7, [4]), (8, [4])] Try.f21 = some (unF l21) := by kernel_rfl
/-- acme/acmeref06.Check -/
def b22_0 : LCode :=
 (.seq
 (.seq
 (.reg true [] [] [
 ⟨(some 15), .mv, [(.t 3)], none, []⟩,
 ⟨(some 16), (.fa 0), [(.t 1)], none, []⟩,
 ⟨(some 17), (.load none), [(.t 16)], none, []⟩,
 ⟨(some 18), .len, [(.t 17)], none, []⟩,
 ⟨(some 19), (.bin 0 .lss), [(.t 15), (.t 18)], none, []⟩] 0 [1, 3, 19])
 (.cond (.t 19)
 .skip
 (.exit 0)))
 (.seq
 (.block 1
 (.seq
 (.reg true [] [] [
 ⟨(some 22), (.fa 0), [(.t 1)], none, []⟩,
 ⟨(some 23), (.load none), [(.t 22)], none, []⟩,
 ⟨(some 24), .mv, [(.t 3)], none, []⟩,
 ⟨(some 25), (.ixs 2), [(.t 23), (.t 24)], none, []⟩,
 ⟨(some 26), (.load (some 2)), [(.t 25)], none, []⟩,
 ⟨(some 27), (.call false false false), [(.f 59), (.t 26), (.c (.int .i64 (-10000))), (.c (.int .i64 10000))], none, []⟩,
 ⟨(some 28), (.un .not), [(.t 27)], none, []⟩] 0 [1, 3, 28])
 (.cond (.t 28)
 (.seq
 (.reg true [] [] [
 ⟨(some 2), .mv, [(.c (.int .i64 2))], none, []⟩] 0 [2])
 .ret)
 .skip)))
 (.reg true [] [] [
 ⟨(some 20), .mv, [(.t 3)], none, []⟩,
 ⟨(some 21), (.bin 0 .add), [(.t 20), (.c (.int .i64 1))], none, []⟩,
 ⟨(some 3), .mv, [(.t 21)], none, []⟩] 0 [1, 3])))
def b22_1 : LCode :=
 (.seq
 (.seq
 (.reg true [] [] [
 ⟨(some 29), .mv, [(.t 4)], none, []⟩,
 ⟨(some 30), (.fa 1), [(.t 1)], none, []⟩,
 ⟨(some 31), (.load none), [(.t 30)], none, []⟩,
 ⟨(some 32), .len, [(.t 31)], none, []⟩,
 ⟨(some 33), (.bin 0 .lss), [(.t 29), (.t 32)], none, []⟩] 0 [1, 4, 33])
 (.cond (.t 33)
 .skip
 (.exit 2)))
 (.seq
 (.block 3
 (.seq
 (.reg true [] [] [
 ⟨(some 36), (.fa 1), [(.t 1)], none, []⟩,
 ⟨(some 37), (.load none), [(.t 36)], none, []⟩,
 ⟨(some 38), .mv, [(.t 4)], none, []⟩,
 ⟨(some 39), (.ixs 1), [(.t 37), (.t 38)], none, []⟩,
 ⟨(some 40), (.load none), [(.t 39)], none, []⟩,
 ⟨(some 41), (.call false false false), [(.f 24), (.t 40), (.c (.int .i64 (-10000))), (.c (.int .i64 10000))], none, []⟩,
 ⟨(some 42), (.un .not), [(.t 41)], none, []⟩] 0 [1, 4, 42])
 (.cond (.t 42)
 (.seq
 (.reg true [] [] [
 ⟨(some 2), .mv, [(.c (.int .i64 2))], none, []⟩] 0 [2])
 .ret)
 .skip)))
 (.reg true [] [] [
 ⟨(some 34), .mv, [(.t 4)], none, []⟩,
 ⟨(some 35), (.bin 0 .add), [(.t 34), (.c (.int .i64 1))], none, []⟩,
 ⟨(some 4), .mv, [(.t 35)], none, []⟩] 0 [1, 4])))
def l22 : LFun := ⟨1, 66, [],
 (.seq
 (.reg false [1] [1] [
 ⟨(some 1), .box, [(.t 0)], none, []⟩,
 ⟨(some 2), .mv, [(.c (.int .i64 0))], none, []⟩] 0 [1])
 (.seq
 (.seq
 (.reg false [] [] [
 ⟨(some 5), (.fa 0), [(.t 1)], none, []⟩,
 ⟨(some 6), (.load none), [(.t 5)], none, []⟩,
 ⟨(some 7), .len, [(.t 6)], none, []⟩,
 ⟨(some 8), (.bin 0 .gtr), [(.t 7), (.c (.int .i64 200))], none, []⟩,
 ⟨(some 9), .mv, [(.t 8)], none, []⟩,
 ⟨(some 10), (.fa 1), [(.t 1)], (some (9, false)), []⟩,
 ⟨(some 11), (.load none), [(.t 10)], (some (9, false)), []⟩,
 ⟨(some 12), .len, [(.t 11)], (some (9, false)), []⟩,
 ⟨(some 13), (.bin 0 .gtr), [(.t 12), (.c (.int .i64 24))], (some (9, false)), []⟩,
 ⟨(some 14), .pick, [(.t 9), (.c (.bool true)), (.t 13)], none, []⟩] 0 [1, 14])
 (.cond (.t 14)
 (.seq
 (.reg false [] [] [
 ⟨(some 2), .mv, [(.c (.int .i64 5))], none, []⟩] 0 [2])
 .ret)
 .skip))
 (.seq
 (.seq
 (.reg false [] [] [
 ⟨(some 3), .mv, [(.c (.int .i64 0))], none, []⟩] 0 [1, 3])
 (.block 0
 (.loop b22_0)))
 (.seq
 (.seq
 (.reg false [] [] [
 ⟨(some 4), .mv, [(.c (.int .i64 0))], none, []⟩] 0 [1, 4])
 (.block 2
 (.loop b22_1)))
 (.seq
 (.seq
 (.reg false [] [] [
 ⟨(some 43), (.fa 0), [(.t 1)], none, []⟩,
 ⟨(some 44), (.load none), [(.t 43)], none, []⟩,
 ⟨(some 45), .len, [(.t 44)], none, []⟩,
 ⟨(some 46), (.bin 0 .lss), [(.t 45), (.c (.int .i64 2))], none, []⟩,
 ⟨(some 47), .mv, [(.t 46)], none, []⟩,
 ⟨(some 48), (.fa 1), [(.t 1)], (some (47, false)), []⟩,
 ⟨(some 49), (.load none), [(.t 48)], (some (47, false)), []⟩,
 ⟨(some 50), .len, [(.t 49)], (some (47, false)), []⟩,
 ⟨(some 51), (.bin 0 .lss), [(.t 50), (.c (.int .i64 1))], (some (47, false)), []⟩,
 ⟨(some 52), .pick, [(.t 47), (.c (.bool true)), (.t 51)], none, []⟩,
 ⟨(some 53), .mv, [(.t 52)], none, []⟩,
 ⟨(some 54), (.fa 1), [(.t 1)], (some (53, false)), []⟩,
 ⟨(some 55), (.load none), [(.t 54)], (some (53, false)), []⟩,
 ⟨(some 56), (.ixs 1), [(.t 55), (.c (.int .i64 0))], (some (53, false)), []⟩,
 ⟨(some 57), (.load none), [(.t 56)], (some (53, false)), []⟩,
 ⟨(some 58), (.bin 0 .neq), [(.t 57), (.c (.int .i64 0))], (some (53, false)), []⟩,
 ⟨(some 59), .pick, [(.t 53), (.c (.bool true)), (.t 58)], none, []⟩,
 ⟨(some 60), .mv, [(.t 59)], none, []⟩,
 ⟨(some 61), (.fa 2), [(.t 1)], (some (60, false)), []⟩,
 ⟨(some 62), (.load (some 2)), [(.t 61)], (some (60, false)), []⟩,
 ⟨(some 63), (.call false false false), [(.f 59), (.t 62), (.c (.int .i64 0)), (.c (.int .i64 10000))], (some (60, false)), []⟩,
 ⟨(some 64), (.un .not), [(.t 63)], (some (60, false)), []⟩,
 ⟨(some 65), .pick, [(.t 60), (.c (.bool true)), (.t 64)], none, []⟩] 0 [65])
 (.cond (.t 65)
 (.seq
 (.reg false [] [] [
 ⟨(some 2), .mv, [(.c (.int .i64 2))], none, []⟩] 0 [2])
 .ret)
 .skip))
 (.seq
 (.reg false [] [] [
 ⟨(some 2), .mv, [(.c (.int .i64 0))], none, []⟩] 0 [2])
 .ret)))))),
 [(.t 2)]⟩
theorem c22 : funC Try.prog [(0, [1]), (1, [1, 14]), (2, [2]), (3, [1, 3]), (4, [1, 3, 19]), (5, [1, 3]), (6, [1, 3, 28]), (7, [2]), (8, [1, 4]), (9, [1, 4, 33]), (10, [1, 4]), (11, [1, 4, 42]), (12, [2]), (13, [65]), (14, [2]), (15, [2])] Try.f22 = some (unF l22) := by kernel_rfl
/-- acme/acmeref06.In -/
def l24 : LFun := ⟨3, 15, [],
 (.seq
 (.reg false [] [] [
 ⟨(some 6), .mv, [(.c (.bool false))], none, []⟩] 0 [0, 1, 2])
 (.seq
 (.reg false [] [] [
 ⟨(some 7), .mv, [(.t 0)], none, []⟩,
 ⟨(some 8), .mv, [(.t 1)], none, []⟩,
 ⟨(some 9), (.bin 0 .geq), [(.t 7), (.t 8)], none, []⟩,
 ⟨(some 10), .mv, [(.t 9)], none, []⟩,
 ⟨(some 11), .mv, [(.t 0)], (some (10, true)), []⟩,
 ⟨(some 12), .mv, [(.t 2)], (some (10, true)), []⟩,
 ⟨(some 13), (.bin 0 .leq), [(.t 11), (.t 12)], (some (10, true)), []⟩,
 ⟨(some 14), .pick, [(.t 10), (.t 13), (.c (.bool false))], none, []⟩,
 ⟨(some 6), .mv, [(.t 14)], none, []⟩] 0 [6])
 .ret)),
 [(.t 6)]⟩
theorem c24 : funC Try.prog [(0, [0, 1, 2]), (1, [6])] Try.f24 = some (unF l24) := by kernel_rfl
/-- acme/acmeref06.Last -/
def l25 : LFun := ⟨1, 11, [],
 (.seq
 (.reg false [1] [1] [
 ⟨(some 1), .box, [(.t 0)], none, []⟩,
 ⟨(some 2), .mv, [(.c (.int .i64 0))], none, []⟩] 0 [1])
 (.seq
 (.reg false [] [] [
 ⟨(some 3), (.fa 0), [(.t 1)], none, []⟩,
 ⟨(some 4), (.load none), [(.t 3)], none, []⟩,
 ⟨(some 5), .len, [(.t 4)], none, []⟩,
 ⟨(some 6), (.bin 0 .sub), [(.t 5), (.c (.int .i64 1))], none, []⟩,
 ⟨(some 7), (.fa 1), [(.t 1)], none, []⟩,
 ⟨(some 8), (.load none), [(.t 7)], none, []⟩,
 ⟨(some 9), .len, [(.t 8)], none, []⟩,
 ⟨(some 10), (.bin 0 .mul), [(.t 6), (.t 9)], none, []⟩,
 ⟨(some 2), .mv, [(.t 10)], none, []⟩] 0 [2])
 .ret)),
 [(.t 2)]⟩
theorem c25 : funC Try.prog [(0, [1]), (1, [2])] Try.f25 = some (unF l25) := by kernel_rfl
/-- acme/acmeref06.Round -/
def l26 : LFun := ⟨2, 18, [],
 (.seq
 (.reg false [2, 3, 4] [2, 3, 4] [
 ⟨(some 2), .box, [(.t 0)], none, []⟩,
 ⟨(some 3), .box, [(.t 1)], none, []⟩,
 ⟨(some 4), (.alloc [(.int .i64 0), (.int .i64 0)]), [], none, []⟩] 0 [2, 3, 4])
 (.seq
 (.reg false [] [] [
 ⟨(some 5), (.ixa 2 1), [(.t 3), (.c (.int .i64 0))], none, [7, 8, 9, 11, 12, 13, 14, 15]⟩,
 ⟨(some 6), (.load none), [(.t 5)], none, [7, 8, 9, 11, 12, 13, 14, 15]⟩,
 ⟨(some 7), (.fa 1), [(.t 2)], none, [5, 6, 11, 12, 13, 14, 15]⟩,
 ⟨(some 8), (.load none), [(.t 7)], none, [5, 6, 11, 12, 13, 14, 15]⟩,
 ⟨(some 9), .len, [(.t 8)], none, [5, 6, 11, 12, 13, 14, 15]⟩,
 ⟨(some 10), (.call true false false), [(.f 60), (.t 6), (.t 9)], none, [11, 12, 13, 14, 15]⟩,
 ⟨(some 11), (.ixa 2 1), [(.t 3), (.c (.int .i64 1))], none, [5, 6, 7, 8, 9, 10, 13, 14, 15]⟩,
 ⟨(some 12), (.load none), [(.t 11)], none, [5, 6, 7, 8, 9, 10, 13, 14, 15]⟩,
 ⟨(some 13), (.fa 1), [(.t 2)], none, [5, 6, 7, 8, 9, 10, 11, 12]⟩,
 ⟨(some 14), (.load none), [(.t 13)], none, [5, 6, 7, 8, 9, 10, 11, 12]⟩,
 ⟨(some 15), .len, [(.t 14)], none, [5, 6, 7, 8, 9, 10, 11, 12]⟩,
 ⟨(some 16), (.call false false false), [(.f 61), (.t 12), (.t 15)], none, []⟩,
 ⟨(some 17), (.build [(.int .i64 0), (.int .i64 0)] [(0, 1), (1, 1)]), [(.t 10), (.t 16)], none, []⟩,
 ⟨none, (.store 2 (some 4)), [(.t 4), (.t 17)], none, []⟩] 0 [4])
 .ret)),
 [(.c 4 (some 2))]⟩
theorem c26 : funC Try.prog [(0, [2, 3, 4]), (1, [4])] Try.f26 = some (unF l26) := by kernel_rfl
/-- acme/acmelaw06.ints -/
def l29 : LFun := ⟨1, 6, [],
 (.seq
 (.reg false [] [] [
 ⟨(some 2), .mv, [(.c (.sl none 1 []))], none, []⟩] 0 [0])
 (.seq
 (.reg false [3, 5] [3] [
 ⟨(some 3), (.bsl 1 [(.int .i64 0)] 0 []), [], none, []⟩,
 ⟨(some 4), .mv, [(.t 0)], none, []⟩,
 ⟨(some 5), (.append false 1 8), [(.t 3), (.t 4)], none, []⟩,
 ⟨(some 2), .mv, [(.t 5)], none, []⟩] 0 [2])
 .ret)),
 [(.t 2)]⟩
theorem c29 : funC Try.prog [(0, [0]), (1, [2])] Try.f29 = some (unF l29) := by kernel_rfl
/-- acme/lead.Travel -/
def b30_0w : List Nat :=
 [34, 35, 10, 11, 36, 37, 38, 39, 40, 41, 42, 43, 44, 45, 46, 47, 48]
def b30_0a : LCode :=
 (.seq
 (.reg true [] [] [
 ⟨(some 10), .mv, [(.t 34)], none, []⟩] 0 [6, 8, 9, 10, 35])
 (.reg true [11] [11] [
 ⟨(some 11), (.alloc [(.sl none 2 []), (.int .i64 0), (.int .i64 0)]), [], none, []⟩,
 ⟨none, (.store 3 none), [(.t 11), (.t 35)], none, []⟩] 0 [6, 8, 9, 10, 11]))
def b30_0 : LCode :=
 (.block 2
 (.seq
 (.seq
 (.reg true [] [] [
 ⟨(some 36), .mv, [(.t 10)], none, []⟩,
 ⟨(some 37), (.bin 0 .gtr), [(.t 36), (.c (.int .i64 0))], none, []⟩] 0 [6, 8, 9, 11, 37])
 (.cond (.t 37)
 (.reg true [43, 46, 47] [43, 46] [
 ⟨(some 38), (.load none), [(.t 6)], none, [39, 40, 41, 42, 43, 44, 45, 46]⟩,
 ⟨(some 39), (.load (some 5)), [(.t 8)], none, [38, 40, 41, 42, 43, 44]⟩,
 ⟨(some 40), (.load (some 5)), [(.t 8)], none, [38, 39, 41, 42, 43]⟩,
 ⟨(some 41), (.load (some 3)), [(.t 11)], none, [38, 39, 40, 42]⟩,
 ⟨(some 42), (.load (some 3)), [(.t 9)], none, [38, 39, 40, 41]⟩,
 ⟨(some 43), (.call true false true), [(.f 64), (.t 41), (.t 42)], none, [38, 39, 40]⟩,
 ⟨(some 44), (.call true false false), [(.f 57), (.t 40), (.t 43)], none, [38, 39]⟩,
 ⟨(some 45), (.call true false false), [(.f 56), (.t 39), (.t 44)], none, [38]⟩,
 ⟨(some 46), (.bsl 2 [(.int .i64 0), (.int .i64 0)] 1 [0]), [(.t 45)], none, [38]⟩,
 ⟨(some 47), (.append false 2 16), [(.t 38), (.t 46)], none, []⟩,
 ⟨none, (.store 1 (some 6)), [(.t 6), (.t 47)], none, []⟩] 0 [6, 8, 9, 11])
 .skip))
 (.reg true [] [] [
 ⟨(some 48), (.load (some 3)), [(.t 11)], none, []⟩,
 ⟨none, (.store 3 none), [(.t 9), (.t 48)], none, []⟩] 0 [6, 8, 9])))
def l30 : LFun := ⟨3, 50, [],
 (.seq
 (.reg false [3, 6] [3, 6] [
 ⟨(some 3), .box, [(.t 0)], none, []⟩,
 ⟨(some 6), (.alloc [(.sl (some 2004700) 2 [])]), [], none, []⟩,
 ⟨(some 7), .mv, [(.c (.int .i64 0))], none, []⟩] 0 [1, 2, 3, 6])
 (.seq
 (.reg false [15, 8] [15, 8] [
 ⟨(some 13), (.load (some 4)), [(.t 3)], none, []⟩,
 ⟨(some 14), .mv, [(.t 1)], none, []⟩,
 ⟨(some 15), (.call false false true), [(.f 54), (.t 13), (.t 14)], none, []⟩,
 ⟨(some 12), .mv, [(.t 15)], none, []⟩,
 ⟨(some 16), (.ext 0), [(.t 12)], none, []⟩,
 ⟨(some 17), (.ext 1), [(.t 12)], none, []⟩,
 ⟨(some 8), (.alloc [(.sl none 2 []), (.sl none 1 []), (.int .i64 0), (.int .i64 0), (.sl none 2 [])]), [], none, []⟩,
 ⟨none, (.store 5 none), [(.t 8), (.t 16)], none, []⟩,
 ⟨(some 7), .mv, [(.t 17)], none, []⟩] 0 [2, 6, 7, 8])
 (.seq
 (.block 0
 (.seq
 (.reg false [] [] [
 ⟨(some 19), .mv, [(.t 7)], none, []⟩,
 ⟨(some 20), (.bin 0 .neq), [(.t 19), (.c (.int .i64 0))], none, []⟩,
 ⟨(some 18), .mv, [(.t 20)], none, []⟩] 0 [2, 6, 7, 8, 18])
 (.cond (.t 18)
 (.seq
 (.reg false [] [] [
 ⟨(some 21), .mv, [(.t 7)], none, []⟩,
 ⟨none, (.store 1 none), [(.t 6), (.c (.sl (some 2004700) 2 []))], none, []⟩,
 ⟨(some 7), .mv, [(.t 21)], none, []⟩] 0 [6, 7])
 .ret)
 (.seq
 (.reg false [] [] [
 ⟨(some 23), .mv, [(.t 2)], none, []⟩,
 ⟨(some 24), .len, [(.t 23)], none, []⟩,
 ⟨(some 25), (.bin 0 .gtr), [(.t 24), (.c (.int .i64 300))], none, []⟩,
 ⟨(some 22), .mv, [(.t 25)], none, []⟩] 0 [2, 6, 8, 22])
 (.cond (.t 22)
 (.seq
 (.reg false [] [] [
 ⟨none, (.store 1 none), [(.t 6), (.c (.sl (some 2004700) 2 []))], none, []⟩,
 ⟨(some 7), .mv, [(.c (.int .i64 5))], none, []⟩] 0 [6, 7])
 .ret)
 (.seq
 (.reg false [] [] [
 ⟨(some 27), (.load (some 5)), [(.t 8)], none, []⟩,
 ⟨(some 28), .mv, [(.t 2)], none, []⟩,
 ⟨(some 29), (.call false false false), [(.f 55), (.t 27), (.t 28)], none, []⟩,
 ⟨(some 30), (.un .not), [(.t 29)], none, []⟩,
 ⟨(some 26), .mv, [(.t 30)], none, []⟩] 0 [2, 6, 8, 26])
 (.cond (.t 26)
 (.seq
 (.reg false [] [] [
 ⟨none, (.store 1 none), [(.t 6), (.c (.sl (some 2004700) 2 []))], none, []⟩,
 ⟨(some 7), .mv, [(.c (.int .i64 3))], none, []⟩] 0 [6, 7])
 .ret)
 .skip)))))))
 (.seq
 (.reg false [9] [9] [
 ⟨(some 9), (.alloc [(.sl none 2 []), (.int .i64 0), (.int .i64 0)]), [], none, []⟩] 0 [2, 6, 8, 9])
 (.seq
 (.seq
 (.reg false [33] [33] [
 ⟨(some 31), (.load (some 5)), [(.t 8)], none, []⟩,
 ⟨(some 32), .mv, [(.t 2)], none, []⟩,
 ⟨(some 33), (.call false true true), [(.f 63), (.t 31), (.t 32)], none, []⟩] 0 [6, 8, 9, 33])
 (.block 1
 (.rng (.t 33) [34, 35] b30_0w b30_0a b30_0)))
 (.seq
 (.reg false [] [] [
 ⟨(some 49), (.load none), [(.t 6)], none, []⟩,
 ⟨none, (.store 1 none), [(.t 6), (.t 49)], none, []⟩,
 ⟨(some 7), .mv, [(.c (.int .i64 0))], none, []⟩] 0 [6, 7])
 .ret)))))),
 [(.c 6 none), (.t 7)]⟩
theorem c30 : funC Try.prog [(0, [1, 2, 3, 6]), (1, [2, 6, 7, 8]), (2, [2, 6, 7, 8, 18]), (3, [6, 7]), (4, [2, 6, 8, 22]), (5, [6, 7]), (6, [2, 6, 8, 26]), (7, [6, 7]), (8, [2, 6, 8, 9]), (9, [6, 8, 9, 33]), (10, [6, 8, 9, 10, 35]), (11, [6, 8, 9, 10, 11]), (12, [6, 8, 9, 11, 37]), (13, [6, 8, 9, 11]), (14, [6, 8, 9]), (15, [6, 7])] Try.f30 = some (unF l30) := by kernel_rfl
/-- acme/acmeref06.Ints -/
def b31_0 : LCode :=
 (.seq
 (.seq
 (.reg true [] [] [
 ⟨(some 11), .mv, [(.t 5)], none, []⟩,
 ⟨(some 12), .mv, [(.t 0)], none, []⟩,
 ⟨(some 13), .len, [(.t 12)], none, []⟩,
 ⟨(some 14), (.bin 0 .lss), [(.t 11), (.t 13)], none, []⟩] 0 [0, 1, 5, 14])
 (.cond (.t 14)
 .skip
 (.exit 0)))
 (.seq
 (.block 1
 (.seq
 (.reg true [] [] [
 ⟨(some 17), .mv, [(.t 0)], none, [18, 21, 22, 23, 24]⟩,
 ⟨(some 18), .mv, [(.t 5)], none, [17, 21, 22, 23, 24]⟩,
 ⟨(some 19), (.ixs 1), [(.t 17), (.t 18)], none, [21, 22, 23, 24]⟩,
 ⟨(some 20), (.load none), [(.t 19)], none, [21, 22, 23, 24]⟩,
 ⟨(some 21), .mv, [(.t 1)], none, [17, 18, 19, 20, 22]⟩,
 ⟨(some 22), .mv, [(.t 5)], none, [17, 18, 19, 20, 21]⟩,
 ⟨(some 23), (.ixs 1), [(.t 21), (.t 22)], none, [17, 18, 19, 20]⟩,
 ⟨(some 24), (.load none), [(.t 23)], none, [17, 18, 19, 20]⟩,
 ⟨(some 25), (.bin 0 .neq), [(.t 20), (.t 24)], none, []⟩] 0 [0, 1, 5, 25])
 (.cond (.t 25)
 (.seq
 (.reg true [] [] [
 ⟨(some 4), .mv, [(.c (.bool false))], none, []⟩] 0 [4])
 .ret)
 .skip)))
 (.reg true [] [] [
 ⟨(some 15), .mv, [(.t 5)], none, []⟩,
 ⟨(some 16), (.bin 0 .add), [(.t 15), (.c (.int .i64 1))], none, []⟩,
 ⟨(some 5), .mv, [(.t 16)], none, []⟩] 0 [0, 1, 5])))
def l31 : LFun := ⟨2, 26, [],
 (.seq
 (.reg false [] [] [
 ⟨(some 4), .mv, [(.c (.bool false))], none, []⟩] 0 [0, 1])
 (.seq
 (.seq
 (.reg false [] [] [
 ⟨(some 6), .mv, [(.t 0)], none, []⟩,
 ⟨(some 7), .len, [(.t 6)], none, []⟩,
 ⟨(some 8), .mv, [(.t 1)], none, []⟩,
 ⟨(some 9), .len, [(.t 8)], none, []⟩,
 ⟨(some 10), (.bin 0 .neq), [(.t 7), (.t 9)], none, []⟩] 0 [0, 1, 10])
 (.cond (.t 10)
 (.seq
 (.reg false [] [] [
 ⟨(some 4), .mv, [(.c (.bool false))], none, []⟩] 0 [4])
 .ret)
 .skip))
 (.seq
 (.seq
 (.reg false [] [] [
 ⟨(some 5), .mv, [(.c (.int .i64 0))], none, []⟩] 0 [0, 1, 5])
 (.block 0
 (.loop b31_0)))
 (.seq
 (.reg false [] [] [
 ⟨(some 4), .mv, [(.c (.bool true))], none, []⟩] 0 [4])
 .ret)))),
 [(.t 4)]⟩
theorem c31 : funC Try.prog [(0, [0, 1]), (1, [0, 1, 10]), (2, [4]), (3, [0, 1, 5]), (4, [0, 1, 5, 14]), (5, [0, 1, 5]), (6, [0, 1, 5, 25]), (7, [4]), (8, [4])] Try.f31 = some (unF l31) := by kernel_rfl
/-- acme/acmeref06.Spans -/
def b33_0 : LCode :=
 (.seq
 (.seq
 (.reg true [] [] [
 ⟨(some 11), .mv, [(.t 5)], none, []⟩,
 ⟨(some 12), .mv, [(.t 0)], none, []⟩,
 ⟨(some 13), .len, [(.t 12)], none, []⟩,
 ⟨(some 14), (.bin 0 .lss), [(.t 11), (.t 13)], none, []⟩] 0 [0, 1, 5, 14])
 (.cond (.t 14)
 .skip
 (.exit 0)))
 (.seq
 (.block 1
 (.seq
 (.reg true [] [] [
 ⟨(some 17), .mv, [(.t 0)], none, [18, 21, 22, 23, 24]⟩,
 ⟨(some 18), .mv, [(.t 5)], none, [17, 21, 22, 23, 24]⟩,
 ⟨(some 19), (.ixs 2), [(.t 17), (.t 18)], none, [21, 22, 23, 24]⟩,
 ⟨(some 20), (.load (some 2)), [(.t 19)], none, [21, 22, 23, 24]⟩,
 ⟨(some 21), .mv, [(.t 1)], none, [17, 18, 19, 20, 22]⟩,
 ⟨(some 22), .mv, [(.t 5)], none, [17, 18, 19, 20, 21]⟩,
 ⟨(some 23), (.ixs 2), [(.t 21), (.t 22)], none, [17, 18, 19, 20]⟩,
 ⟨(some 24), (.load (some 2)), [(.t 23)], none, [17, 18, 19, 20]⟩,
 ⟨(some 25), (.eqs true [(some .i64), (some .i64)]), [(.t 20), (.t 24)], none, []⟩] 0 [0, 1, 5, 25])
 (.cond (.t 25)
 (.seq
 (.reg true [] [] [
 ⟨(some 4), .mv, [(.c (.bool false))], none, []⟩] 0 [4])
 .ret)
 .skip)))
 (.reg true [] [] [
 ⟨(some 15), .mv, [(.t 5)], none, []⟩,
 ⟨(some 16), (.bin 0 .add), [(.t 15), (.c (.int .i64 1))], none, []⟩,
 ⟨(some 5), .mv, [(.t 16)], none, []⟩] 0 [0, 1, 5])))
def l33 : LFun := ⟨2, 26, [],
 (.seq
 (.reg false [] [] [
 ⟨(some 4), .mv, [(.c (.bool false))], none, []⟩] 0 [0, 1])
 (.seq
 (.seq
 (.reg false [] [] [
 ⟨(some 6), .mv, [(.t 0)], none, []⟩,
 ⟨(some 7), .len, [(.t 6)], none, []⟩,
 ⟨(some 8), .mv, [(.t 1)], none, []⟩,
 ⟨(some 9), .len, [(.t 8)], none, []⟩,
 ⟨(some 10), (.bin 0 .neq), [(.t 7), (.t 9)], none, []⟩] 0 [0, 1, 10])
 (.cond (.t 10)
 (.seq
 (.reg false [] [] [
 ⟨(some 4), .mv, [(.c (.bool false))], none, []⟩] 0 [4])
 .ret)
 .skip))
 (.seq
 (.seq
 (.reg false [] [] [
 ⟨(some 5), .mv, [(.c (.int .i64 0))], none, []⟩] 0 [0, 1, 5])
 (.block 0
 (.loop b33_0)))
 (.seq
 (.reg false [] [] [
 ⟨(some 4), .mv, [(.c (.bool true))], none, []⟩] 0 [4])
 .ret)))),
 [(.t 4)]⟩
theorem c33 : funC Try.prog [(0, [0, 1]), (1, [0, 1, 10]), (2, [4]), (3, [0, 1, 5]), (4, [0, 1, 5, 14]), (5, [0, 1, 5]), (6, [0, 1, 5, 25]), (7, [4]), (8, [4])] Try.f33 = some (unF l33) := by kernel_rfl
/-- acme/lead.Worst -/
def b34_1 : LCode :=
 (.seq
 (.seq
 (.reg true [] [] [
 ⟨(some 59), .mv, [(.t 14)], none, []⟩,
 ⟨(some 60), .mv, [(.t 3)], none, []⟩,
 ⟨(some 61), (.bin 0 .leq), [(.t 59), (.t 60)], none, []⟩] 0 [3, 8, 10, 11, 12, 13, 14, 61])
 (.cond (.t 61)
 .skip
 (.exit 3)))
 (.seq
 (.block 4
 (.seq
 (.reg true [67, 69, 15] [67, 69, 15] [
 ⟨(some 64), (.load (some 5)), [(.t 10)], none, [65, 66, 67, 68, 69, 15]⟩,
 ⟨(some 65), (.load (some 5)), [(.t 10)], none, [64, 66, 68, 15]⟩,
 ⟨(some 66), .mv, [(.t 14)], none, [64, 65, 68, 15]⟩,
 ⟨(some 67), (.call true false true), [(.f 58), (.t 65), (.t 66)], none, [64, 68, 15]⟩,
 ⟨(some 68), (.load (some 3)), [(.t 13)], none, [64, 65, 66, 67, 15]⟩,
 ⟨(some 69), (.call true false true), [(.f 64), (.t 67), (.t 68)], none, [64, 15]⟩,
 ⟨(some 70), (.call false false false), [(.f 57), (.t 64), (.t 69)], none, [15]⟩,
 ⟨(some 15), (.alloc [(.int .i64 0), (.int .i64 0)]), [], none, [64, 65, 66, 67, 68, 69, 70]⟩,
 ⟨none, (.store 2 (some 15)), [(.t 15), (.t 70)], none, []⟩] 0 [3, 8, 10, 11, 12, 13, 14, 15])
 (.seq
 (.seq
 (.reg true [] [] [
 ⟨(some 71), (.fa 0), [(.t 15)], none, []⟩,
 ⟨(some 72), (.load none), [(.t 71)], none, []⟩,
 ⟨(some 73), (.fa 0), [(.t 11)], none, []⟩,
 ⟨(some 74), (.load none), [(.t 73)], none, []⟩,
 ⟨(some 75), (.bin 0 .lss), [(.t 72), (.t 74)], none, []⟩] 0 [3, 8, 10, 11, 12, 13, 14, 15, 75])
 (.cond (.t 75)
 (.reg true [] [] [
 ⟨(some 76), (.fa 0), [(.t 15)], none, []⟩,
 ⟨(some 77), (.load none), [(.t 76)], none, []⟩,
 ⟨(some 78), .mv, [(.t 12)], none, []⟩,
 ⟨(some 79), .mv, [(.t 14)], none, []⟩,
 ⟨(some 80), (.build [(.int .i64 0), (.int .i64 0)] [(0, 1), (1, 1)]), [(.t 78), (.t 79)], none, []⟩,
 ⟨(some 81), (.fa 0), [(.t 11)], none, []⟩,
 ⟨none, (.store 1 none), [(.t 81), (.t 77)], none, []⟩,
 ⟨(some 82), (.fa 2), [(.t 8)], none, []⟩,
 ⟨none, (.store 2 none), [(.t 82), (.t 80)], none, []⟩] 0 [3, 8, 10, 11, 12, 13, 14, 15])
 .skip))
 (.seq
 (.reg true [] [] [
 ⟨(some 83), (.fa 1), [(.t 15)], none, []⟩,
 ⟨(some 84), (.load none), [(.t 83)], none, []⟩,
 ⟨(some 85), (.fa 1), [(.t 11)], none, []⟩,
 ⟨(some 86), (.load none), [(.t 85)], none, []⟩,
 ⟨(some 87), (.bin 0 .gtr), [(.t 84), (.t 86)], none, []⟩] 0 [3, 8, 10, 11, 12, 13, 14, 15, 87])
 (.cond (.t 87)
 (.reg true [] [] [
 ⟨(some 88), (.fa 1), [(.t 15)], none, []⟩,
 ⟨(some 89), (.load none), [(.t 88)], none, []⟩,
 ⟨(some 90), .mv, [(.t 12)], none, []⟩,
 ⟨(some 91), .mv, [(.t 14)], none, []⟩,
 ⟨(some 92), (.build [(.int .i64 0), (.int .i64 0)] [(0, 1), (1, 1)]), [(.t 90), (.t 91)], none, []⟩,
 ⟨(some 93), (.fa 1), [(.t 11)], none, []⟩,
 ⟨none, (.store 1 none), [(.t 93), (.t 89)], none, []⟩,
 ⟨(some 94), (.fa 4), [(.t 8)], none, []⟩,
 ⟨none, (.store 2 none), [(.t 94), (.t 92)], none, []⟩] 0 [3, 8, 10, 11, 12, 13, 14])
 .skip)))))
 (.reg true [] [] [
 ⟨(some 62), .mv, [(.t 14)], none, []⟩,
 ⟨(some 63), (.bin 0 .add), [(.t 62), (.c (.int .i64 1))], none, []⟩,
 ⟨(some 14), .mv, [(.t 63)], none, []⟩] 0 [3, 8, 10, 11, 12, 13, 14])))
def b34_0 : LCode :=
 (.seq
 (.seq
 (.reg true [] [] [
 ⟨(some 50), .mv, [(.t 12)], none, []⟩,
 ⟨(some 51), .mv, [(.t 3)], none, []⟩,
 ⟨(some 52), (.bin 0 .leq), [(.t 50), (.t 51)], none, []⟩] 0 [3, 8, 10, 11, 12, 52])
 (.cond (.t 52)
 .skip
 (.exit 1)))
 (.seq
 (.block 2
 (.seq
 (.reg true [57, 13] [57, 13] [
 ⟨(some 55), (.load (some 5)), [(.t 10)], none, []⟩,
 ⟨(some 56), .mv, [(.t 12)], none, []⟩,
 ⟨(some 57), (.call false false true), [(.f 58), (.t 55), (.t 56)], none, []⟩,
 ⟨(some 13), (.alloc [(.sl none 2 []), (.int .i64 0), (.int .i64 0)]), [], none, []⟩,
 ⟨none, (.store 3 none), [(.t 13), (.t 57)], none, []⟩] 0 [3, 8, 10, 11, 12, 13])
 (.seq
 (.reg true [] [] [
 ⟨(some 58), .mv, [(.t 12)], none, []⟩,
 ⟨(some 14), .mv, [(.t 58)], none, []⟩] 0 [3, 8, 10, 11, 12, 13, 14])
 (.block 3
 (.loop b34_1)))))
 (.reg true [] [] [
 ⟨(some 53), .mv, [(.t 12)], none, []⟩,
 ⟨(some 54), (.bin 0 .add), [(.t 53), (.c (.int .i64 1))], none, []⟩,
 ⟨(some 12), .mv, [(.t 54)], none, []⟩] 0 [3, 8, 10, 11, 12])))
def l34 : LFun := ⟨4, 106, [],
 (.seq
 (.reg false [4, 8] [4, 8] [
 ⟨(some 4), .box, [(.t 0)], none, []⟩,
 ⟨(some 8), (.alloc [(.int .i64 0), (.int .i64 0), (.int .i64 0), (.int .i64 0), (.int .i64 0), (.int .i64 0)]), [], none, []⟩,
 ⟨(some 9), .mv, [(.c (.int .i64 0))], none, []⟩] 0 [1, 2, 3, 4, 8])
 (.seq
 (.reg false [19, 10] [19, 10] [
 ⟨(some 17), (.load (some 4)), [(.t 4)], none, []⟩,
 ⟨(some 18), .mv, [(.t 1)], none, []⟩,
 ⟨(some 19), (.call false false true), [(.f 54), (.t 17), (.t 18)], none, []⟩,
 ⟨(some 16), .mv, [(.t 19)], none, []⟩,
 ⟨(some 20), (.ext 0), [(.t 16)], none, []⟩,
 ⟨(some 21), (.ext 1), [(.t 16)], none, []⟩,
 ⟨(some 10), (.alloc [(.sl none 2 []), (.sl none 1 []), (.int .i64 0), (.int .i64 0), (.sl none 2 [])]), [], none, []⟩,
 ⟨none, (.store 5 none), [(.t 10), (.t 20)], none, []⟩,
 ⟨(some 9), .mv, [(.t 21)], none, []⟩] 0 [2, 3, 8, 9, 10])
 (.seq
 (.block 0
 (.seq
 (.reg false [] [] [
 ⟨(some 23), .mv, [(.t 9)], none, []⟩,
 ⟨(some 24), (.bin 0 .neq), [(.t 23), (.c (.int .i64 0))], none, []⟩,
 ⟨(some 22), .mv, [(.t 24)], none, []⟩] 0 [2, 3, 8, 9, 10, 22])
 (.cond (.t 22)
 (.seq
 (.reg false [] [] [
 ⟨(some 25), (.load (some 6)), [(.t 8)], none, []⟩,
 ⟨(some 26), .mv, [(.t 9)], none, []⟩,
 ⟨none, (.store 6 none), [(.t 8), (.t 25)], none, []⟩,
 ⟨(some 9), .mv, [(.t 26)], none, []⟩] 0 [8, 9])
 .ret)
 (.seq
 (.seq
 (.reg false [31] [31] [
 ⟨(some 28), (.load (some 5)), [(.t 10)], none, []⟩,
 ⟨(some 29), .mv, [(.t 2)], none, []⟩,
 ⟨(some 30), .mv, [(.t 3)], none, []⟩,
 ⟨(some 31), (.bsl 1 [(.int .i64 0)] 2 [0, 1]), [(.t 29), (.t 30)], none, []⟩,
 ⟨(some 32), (.call false false false), [(.f 55), (.t 28), (.t 31)], none, []⟩,
 ⟨(some 33), (.un .not), [(.t 32)], none, []⟩,
 ⟨(some 27), .mv, [(.t 33)], none, []⟩] 0 [2, 3, 8, 10, 27])
 (.cond (.t 27)
 .skip
 (.reg false [37] [37] [
 ⟨(some 34), .mv, [(.t 3)], none, []⟩,
 ⟨(some 35), .mv, [(.t 2)], none, []⟩,
 ⟨(some 36), (.bin 0 .sub), [(.t 34), (.t 35)], none, []⟩,
 ⟨(some 37), (.bsl 1 [(.int .i64 0)] 1 [0]), [(.t 36)], none, []⟩,
 ⟨(some 38), (.call false false false), [(.f 53), (.c (.int .i64 0)), (.c (.int .i64 300)), (.t 37)], none, []⟩,
 ⟨(some 39), (.un .not), [(.t 38)], none, []⟩,
 ⟨(some 27), .mv, [(.t 39)], none, []⟩] 0 [2, 3, 8, 10, 27])))
 (.cond (.t 27)
 (.seq
 (.reg false [] [] [
 ⟨(some 40), (.load (some 6)), [(.t 8)], none, []⟩,
 ⟨none, (.store 6 none), [(.t 8), (.t 40)], none, []⟩,
 ⟨(some 9), .mv, [(.c (.int .i64 3))], none, []⟩] 0 [8, 9])
 .ret)
 .skip)))))
 (.seq
 (.reg false [] [] [
 ⟨(some 41), .mv, [(.t 2)], none, []⟩,
 ⟨(some 42), .mv, [(.t 2)], none, []⟩,
 ⟨(some 43), (.build [(.int .i64 0), (.int .i64 0)] [(0, 1), (1, 1)]), [(.t 41), (.t 42)], none, []⟩,
 ⟨(some 44), .mv, [(.t 2)], none, []⟩,
 ⟨(some 45), .mv, [(.t 2)], none, []⟩,
 ⟨(some 46), (.build [(.int .i64 0), (.int .i64 0)] [(0, 1), (1, 1)]), [(.t 44), (.t 45)], none, []⟩,
 ⟨(some 47), (.fa 2), [(.t 8)], none, []⟩,
 ⟨none, (.store 2 none), [(.t 47), (.t 43)], none, []⟩,
 ⟨(some 48), (.fa 4), [(.t 8)], none, []⟩,
 ⟨none, (.store 2 none), [(.t 48), (.t 46)], none, []⟩] 0 [2, 3, 8, 10])
 (.seq
 (.reg false [11] [11] [
 ⟨(some 11), (.alloc [(.int .i64 0), (.int .i64 0)]), [], none, []⟩] 0 [2, 3, 8, 10, 11])
 (.seq
 (.seq
 (.reg false [] [] [
 ⟨(some 49), .mv, [(.t 2)], none, []⟩,
 ⟨(some 12), .mv, [(.t 49)], none, []⟩] 0 [3, 8, 10, 11, 12])
 (.block 1
 (.loop b34_0)))
 (.seq
 (.reg false [] [] [
 ⟨(some 95), (.load (some 5)), [(.t 10)], none, [96, 97, 99, 100, 101]⟩,
 ⟨(some 96), (.fa 0), [(.t 11)], none, [95, 99, 100, 101]⟩,
 ⟨(some 97), (.load none), [(.t 96)], none, [95, 99, 100, 101]⟩,
 ⟨(some 98), (.call true false false), [(.f 65), (.t 95), (.t 97)], none, [99, 100, 101]⟩,
 ⟨(some 99), (.load (some 5)), [(.t 10)], none, [95, 96, 97, 98, 100, 101, 103]⟩,
 ⟨(some 100), (.fa 1), [(.t 11)], none, [95, 96, 97, 98, 99, 103]⟩,
 ⟨(some 101), (.load none), [(.t 100)], none, [95, 96, 97, 98, 99, 103]⟩,
 ⟨(some 102), (.call true false false), [(.f 66), (.t 99), (.t 101)], none, [103]⟩,
 ⟨(some 103), (.fa 0), [(.t 8)], none, [99, 100, 101, 102]⟩,
 ⟨none, (.store 1 (some 8)), [(.t 103), (.t 98)], none, []⟩,
 ⟨(some 104), (.fa 1), [(.t 8)], none, []⟩,
 ⟨none, (.store 1 (some 8)), [(.t 104), (.t 102)], none, []⟩] 0 [8])
 (.seq
 (.reg false [] [] [
 ⟨(some 105), (.load (some 6)), [(.t 8)], none, []⟩,
 ⟨none, (.store 6 none), [(.t 8), (.t 105)], none, []⟩,
 ⟨(some 9), .mv, [(.c (.int .i64 0))], none, []⟩] 0 [8, 9])
 .ret)))))))),
 [(.c 8 (some 6)), (.t 9)]⟩
theorem c34 : funC Try.prog [(0, [1, 2, 3, 4, 8]), (1, [2, 3, 8, 9, 10]), (2, [2, 3, 8, 9, 10, 22]), (3, [8, 9]), (4, [2, 3, 8, 10, 27]), (5, [2, 3, 8, 10, 27]), (6, [8, 9]), (7, [2, 3, 8, 10]), (8, [2, 3, 8, 10, 11]), (9, [3, 8, 10, 11, 12]), (10, [3, 8, 10, 11, 12, 52]), (11, [3, 8, 10, 11, 12]), (12, [3, 8, 10, 11, 12, 13]), (13, [3, 8, 10, 11, 12, 13, 14]), (14, [3, 8, 10, 11, 12, 13, 14, 61]), (15, [3, 8, 10, 11, 12, 13, 14]), (16, [3, 8, 10, 11, 12, 13, 14, 15]), (17, [3, 8, 10, 11, 12, 13, 14, 15, 75]), (18, [3, 8, 10, 11, 12, 13, 14, 15]), (19, [3, 8, 10, 11, 12, 13, 14, 15, 87]), (20, [3, 8, 10, 11, 12, 13, 14]), (21, [8]), (22, [8, 9])] Try.f34 = some (unF l34) := by kernel_rfl
/-- acme/lead.Cut -/
def l35 : LFun := ⟨2, 33, [],
 (.seq
 (.reg false [2] [2] [
 ⟨(some 2), .box, [(.t 0)], none, []⟩,
 ⟨(some 4), .mv, [(.c .nil)], none, []⟩,
 ⟨(some 5), .mv, [(.c (.int .i64 0))], none, []⟩] 0 [1, 2])
 (.seq
 (.reg false [12, 6] [12, 6] [
 ⟨(some 11), (.load (some 4)), [(.t 2)], none, []⟩,
 ⟨(some 12), (.call false false true), [(.f 54), (.t 11), (.c (.sl none 2 []))], none, []⟩,
 ⟨(some 10), .mv, [(.t 12)], none, []⟩,
 ⟨(some 13), (.ext 0), [(.t 10)], none, []⟩,
 ⟨(some 14), (.ext 1), [(.t 10)], none, []⟩,
 ⟨(some 6), (.alloc [(.sl none 2 []), (.sl none 1 []), (.int .i64 0), (.int .i64 0), (.sl none 2 [])]), [], none, []⟩,
 ⟨none, (.store 5 none), [(.t 6), (.t 13)], none, []⟩,
 ⟨(some 7), .mv, [(.t 14)], none, []⟩] 0 [1, 6, 7])
 (.seq
 (.block 0
 (.seq
 (.reg false [] [] [
 ⟨(some 16), .mv, [(.t 7)], none, []⟩,
 ⟨(some 17), (.bin 0 .neq), [(.t 16), (.c (.int .i64 0))], none, []⟩,
 ⟨(some 15), .mv, [(.t 17)], none, []⟩] 0 [1, 6, 7, 15])
 (.cond (.t 15)
 (.seq
 (.reg false [] [] [
 ⟨(some 18), .mv, [(.t 7)], none, []⟩,
 ⟨(some 4), .mv, [(.c .nil)], none, []⟩,
 ⟨(some 5), .mv, [(.t 18)], none, []⟩] 0 [4, 5])
 .ret)
 (.seq
 (.reg false [21] [21] [
 ⟨(some 20), .mv, [(.t 1)], none, []⟩,
 ⟨(some 21), (.bsl 1 [(.int .i64 0)] 1 [0]), [(.t 20)], none, []⟩,
 ⟨(some 22), (.call false false false), [(.f 53), (.c (.int .i64 0)), (.c (.int .i64 40000)), (.t 21)], none, []⟩,
 ⟨(some 23), (.un .not), [(.t 22)], none, []⟩,
 ⟨(some 19), .mv, [(.t 23)], none, []⟩] 0 [1, 6, 19])
 (.cond (.t 19)
 (.seq
 (.reg false [] [] [
 ⟨(some 4), .mv, [(.c .nil)], none, []⟩,
 ⟨(some 5), .mv, [(.c (.int .i64 3))], none, []⟩] 0 [4, 5])
 .ret)
 .skip)))))
 (.seq
 (.reg false [27] [27] [
 ⟨(some 25), (.load (some 5)), [(.t 6)], none, []⟩,
 ⟨(some 26), .mv, [(.t 1)], none, []⟩,
 ⟨(some 27), (.call false false true), [(.f 67), (.t 25), (.t 26)], none, []⟩,
 ⟨(some 24), .mv, [(.t 27)], none, []⟩,
 ⟨(some 28), (.ext 0), [(.t 24)], none, []⟩,
 ⟨(some 29), (.ext 1), [(.t 24)], none, []⟩,
 ⟨(some 8), .mv, [(.t 28)], none, []⟩,
 ⟨(some 9), .mv, [(.t 29)], none, []⟩] 0 [8, 9])
 (.seq
 (.seq
 (.reg false [] [] [
 ⟨(some 30), .mv, [(.t 9)], none, []⟩,
 ⟨(some 31), (.un .not), [(.t 30)], none, []⟩] 0 [8, 31])
 (.cond (.t 31)
 (.seq
 (.reg false [] [] [
 ⟨(some 4), .mv, [(.c .nil)], none, []⟩,
 ⟨(some 5), .mv, [(.c (.int .i64 7))], none, []⟩] 0 [4, 5])
 .ret)
 .skip))
 (.seq
 (.reg false [] [] [
 ⟨(some 32), .mv, [(.t 8)], none, []⟩,
 ⟨(some 4), .mv, [(.t 32)], none, []⟩,
 ⟨(some 5), .mv, [(.c (.int .i64 0))], none, []⟩] 0 [4, 5])
 .ret)))))),
 [(.t 4), (.t 5)]⟩
theorem c35 : funC Try.prog [(0, [1, 2]), (1, [1, 6, 7]), (2, [1, 6, 7, 15]), (3, [4, 5]), (4, [1, 6, 19]), (5, [4, 5]), (6, [8, 9]), (7, [8, 31]), (8, [4, 5]), (9, [4, 5])] Try.f35 = some (unF l35) := by kernel_rfl
/-- acme/lead.Least -/
def l37 : LFun := ⟨2, 28, [],
 (.seq
 (.reg false [2, 3] [2, 3] [
 ⟨(some 2), .box, [(.t 0)], none, []⟩,
 ⟨(some 3), .box, [(.t 1)], none, []⟩,
 ⟨(some 4), .mv, [(.c (.int .i64 0))], none, []⟩,
 ⟨(some 5), .mv, [(.c (.int .i64 0))], none, []⟩] 0 [2, 3, 6])
 (.seq
 (.reg false [11, 6] [11, 6] [
 ⟨(some 10), (.load (some 4)), [(.t 2)], none, []⟩,
 ⟨(some 11), (.call false false true), [(.f 54), (.t 10), (.c (.sl none 2 []))], none, []⟩,
 ⟨(some 9), .mv, [(.t 11)], none, []⟩,
 ⟨(some 12), (.ext 0), [(.t 9)], none, []⟩,
 ⟨(some 13), (.ext 1), [(.t 9)], none, []⟩,
 ⟨(some 6), (.alloc [.nil, .nil, (.int .i64 0), (.int .i64 0), .nil]), [], none, []⟩,
 ⟨none, (.store 5 none), [(.t 6), (.t 12)], none, []⟩,
 ⟨(some 7), .mv, [(.t 13)], none, []⟩] 0 [3, 6, 7])
 (.seq
 (.block 0
 (.seq
 (.reg false [] [] [
 ⟨(some 15), .mv, [(.t 7)], none, []⟩,
 ⟨(some 16), (.bin 0 .neq), [(.t 15), (.c (.int .i64 0))], none, []⟩,
 ⟨(some 14), .mv, [(.t 16)], none, []⟩] 0 [3, 6, 7, 14])
 (.cond (.t 14)
 (.seq
 (.reg false [] [] [
 ⟨(some 17), .mv, [(.t 7)], none, []⟩,
 ⟨(some 4), .mv, [(.c (.int .i64 0))], none, []⟩,
 ⟨(some 5), .mv, [(.t 17)], none, []⟩] 0 [3, 4, 5, 6])
 .ret)
 (.seq
 (.reg false [20] [20] [
 ⟨(some 19), (.load none), [(.t 3)], none, []⟩,
 ⟨(some 20), (.bsl 1 [(.int .i64 0)] 1 [0]), [(.t 19)], none, []⟩,
 ⟨(some 21), (.call false false false), [(.f 53), (.c (.int .i64 0)), (.c (.int .i64 200)), (.t 20)], none, []⟩,
 ⟨(some 22), (.un .not), [(.t 21)], none, []⟩,
 ⟨(some 18), .mv, [(.t 22)], none, []⟩] 0 [3, 6, 18])
 (.cond (.t 18)
 (.seq
 (.reg false [] [] [
 ⟨(some 4), .mv, [(.c (.int .i64 0))], none, []⟩,
 ⟨(some 5), .mv, [(.c (.int .i64 3))], none, []⟩] 0 [3, 4, 5, 6])
 .ret)
 .skip)))))
 (.seq
 (.reg false [] [] [
 ⟨(some 23), (.mkf 71), [(.t 6), (.t 3)], none, []⟩,
 ⟨(some 24), (.call false false false), [(.f 70), (.c (.int .i64 40001)), (.t 23)], none, []⟩,
 ⟨(some 8), .mv, [(.t 24)], none, []⟩] 0 [3, 6, 8])
 (.seq
 (.seq
 (.reg false [] [] [
 ⟨(some 25), .mv, [(.t 8)], none, []⟩,
 ⟨(some 26), (.bin 0 .gtr), [(.t 25), (.c (.int .i64 40000))], none, []⟩] 0 [3, 6, 8, 26])
 (.cond (.t 26)
 (.seq
 (.reg false [] [] [
 ⟨(some 4), .mv, [(.c (.int .i64 0))], none, []⟩,
 ⟨(some 5), .mv, [(.c (.int .i64 7))], none, []⟩] 0 [3, 4, 5, 6])
 .ret)
 .skip))
 (.seq
 (.reg false [] [] [
 ⟨(some 27), .mv, [(.t 8)], none, []⟩,
 ⟨(some 4), .mv, [(.t 27)], none, []⟩,
 ⟨(some 5), .mv, [(.c (.int .i64 0))], none, []⟩] 0 [3, 4, 5, 6])
 .ret)))))),
 [(.t 4), (.t 5)]⟩
theorem c37 : funC Try.prog [(0, [2, 3, 6]), (1, [3, 6, 7]), (2, [3, 6, 7, 14]), (3, [3, 4, 5, 6]), (4, [3, 6, 18]), (5, [3, 4, 5, 6]), (6, [3, 6, 8]), (7, [3, 6, 8, 26]), (8, [3, 4, 5, 6]), (9, [3, 4, 5, 6])] Try.f37 = some (unF l37) := by kernel_rfl
/-- acme/lead.Split -/
def b38_0w : List Nat :=
 [40, 8, 41, 42, 43, 44, 45, 46]
def b38_0a : LCode :=
 (.reg true [] [] [
 ⟨(some 8), .mv, [(.t 40)], none, []⟩] 0 [0, 1, 4, 7, 8])
def b38_0 : LCode :=
 (.block 2
 (.reg true [45, 46] [45] [
 ⟨(some 41), (.load none), [(.t 4)], none, [42, 43, 44, 45]⟩,
 ⟨(some 42), .mv, [(.t 8)], none, [41]⟩,
 ⟨(some 43), (.ixs 1), [(.t 42), (.c (.int .i64 0))], none, [41]⟩,
 ⟨(some 44), (.load none), [(.t 43)], none, [41]⟩,
 ⟨(some 45), (.bsl 1 [(.int .i64 0)] 1 [0]), [(.t 44)], none, [41]⟩,
 ⟨(some 46), (.append false 1 8), [(.t 41), (.t 45)], none, []⟩,
 ⟨none, (.store 1 (some 4)), [(.t 4), (.t 46)], none, []⟩] 0 [0, 1, 4, 7]))
def b38_1 : LCode :=
 (.seq
 (.reg true [] [] [
 ⟨(some 54), (.bin 0 .lss), [(.t 53), (.t 52)], none, []⟩] 0 [1, 4, 5, 51, 52, 53, 54])
 (.seq
 (.cond (.t 54)
 .skip
 (.exit 3))
 (.seq
 (.block 4
 (.seq
 (.reg true [] [] [
 ⟨(some 55), .mv, [(.t 53)], none, []⟩,
 ⟨(some 56), (.ixs 1), [(.t 51), (.t 53)], none, []⟩,
 ⟨(some 57), (.load none), [(.t 56)], none, []⟩,
 ⟨(some 9), .mv, [(.t 55)], none, []⟩,
 ⟨(some 10), .mv, [(.t 57)], none, []⟩] 0 [1, 4, 5, 9, 10, 51, 52, 53])
 (.seq
 (.reg true [] [] [
 ⟨(some 58), .mv, [(.t 9)], none, [59, 61, 62, 63]⟩,
 ⟨(some 59), .mv, [(.t 1)], none, [58, 61, 62, 63]⟩,
 ⟨(some 60), (.bin 0 .quo), [(.t 58), (.t 59)], none, [61, 62, 63]⟩,
 ⟨(some 61), .mv, [(.t 9)], none, [58, 59, 60, 62, 11]⟩,
 ⟨(some 62), .mv, [(.t 1)], none, [58, 59, 60, 61, 11]⟩,
 ⟨(some 63), (.bin 0 .rem), [(.t 61), (.t 62)], none, [58, 59, 60, 11]⟩,
 ⟨(some 11), .mv, [(.t 60)], none, [61, 62, 63]⟩,
 ⟨(some 12), .mv, [(.t 63)], none, []⟩] 0 [1, 4, 5, 10, 11, 12, 51, 52, 53])
 (.seq
 (.reg true [] [] [
 ⟨(some 64), .mv, [(.t 1)], none, [65, 67, 68, 69, 70, 71, 72, 73, 74, 76, 77, 78, 79, 80, 81, 82]⟩,
 ⟨(some 65), .mv, [(.t 10)], none, [64, 67, 68, 69, 70, 71, 72, 73, 74, 76, 77, 78, 79, 80, 81, 82]⟩,
 ⟨(some 66), (.bin 0 .mul), [(.t 64), (.t 65)], none, [67, 68, 69, 70, 71, 72, 73, 74, 76, 77, 78, 79, 80, 81, 82]⟩,
 ⟨(some 67), (.load none), [(.t 4)], none, [64, 65, 66, 68, 71, 72, 73, 76, 77, 78, 79, 80, 81, 82]⟩,
 ⟨(some 68), .mv, [(.t 11)], none, [64, 65, 66, 67, 71, 72, 73, 76, 77, 78, 79, 80, 81, 82]⟩,
 ⟨(some 69), (.ixs 1), [(.t 67), (.t 68)], none, [64, 65, 66, 71, 72, 73, 76, 77, 78, 79, 80, 81, 82]⟩,
 ⟨(some 70), (.load none), [(.t 69)], none, [64, 65, 66, 71, 72, 73, 76, 77, 78, 79, 80, 81, 82]⟩,
 ⟨(some 71), .mv, [(.t 1)], none, [64, 65, 66, 67, 68, 69, 70, 72, 76, 77, 78, 79, 80, 81, 82]⟩,
 ⟨(some 72), .mv, [(.t 12)], none, [64, 65, 66, 67, 68, 69, 70, 71, 76, 77, 78, 79, 80, 81, 82]⟩,
 ⟨(some 73), (.bin 0 .sub), [(.t 71), (.t 72)], none, [64, 65, 66, 67, 68, 69, 70, 76, 77, 78, 79, 80, 81, 82]⟩,
 ⟨(some 74), (.bin 0 .mul), [(.t 70), (.t 73)], none, [64, 65, 66, 76, 77, 78, 79, 80, 81, 82]⟩,
 ⟨(some 75), (.bin 0 .sub), [(.t 66), (.t 74)], none, [76, 77, 78, 79, 80, 81, 82]⟩,
 ⟨(some 76), (.load none), [(.t 4)], none, [64, 65, 66, 67, 68, 69, 70, 71, 72, 73, 74, 75, 77, 78, 81]⟩,
 ⟨(some 77), .mv, [(.t 11)], none, [64, 65, 66, 67, 68, 69, 70, 71, 72, 73, 74, 75, 76, 81]⟩,
 ⟨(some 78), (.bin 0 .add), [(.t 77), (.c (.int .i64 1))], none, [64, 65, 66, 67, 68, 69, 70, 71, 72, 73, 74, 75, 76, 81]⟩,
 ⟨(some 79), (.ixs 1), [(.t 76), (.t 78)], none, [64, 65, 66, 67, 68, 69, 70, 71, 72, 73, 74, 75, 81]⟩,
 ⟨(some 80), (.load none), [(.t 79)], none, [64, 65, 66, 67, 68, 69, 70, 71, 72, 73, 74, 75, 81]⟩,
 ⟨(some 81), .mv, [(.t 12)], none, [64, 65, 66, 67, 68, 69, 70, 71, 72, 73, 74, 75, 76, 77, 78, 79, 80]⟩,
 ⟨(some 82), (.bin 0 .mul), [(.t 80), (.t 81)], none, [64, 65, 66, 67, 68, 69, 70, 71, 72, 73, 74, 75]⟩,
 ⟨(some 83), (.bin 0 .sub), [(.t 75), (.t 82)], none, []⟩,
 ⟨(some 13), .mv, [(.t 83)], none, []⟩] 0 [1, 4, 5, 11, 12, 13, 51, 52, 53])
 (.seq
 (.seq
 (.reg true [] [] [
 ⟨(some 84), .mv, [(.t 11)], none, []⟩,
 ⟨(some 85), (.bin 0 .eql), [(.t 84), (.c (.int .i64 0))], none, []⟩] 0 [1, 4, 5, 12, 13, 51, 52, 53, 85])
 (.cond (.t 85)
 (.reg true [] [] [
 ⟨(some 86), .mv, [(.t 5)], none, []⟩,
 ⟨(some 87), .mv, [(.t 12)], none, []⟩,
 ⟨(some 88), .mv, [(.t 13)], none, []⟩,
 ⟨(some 89), .mv, [(.t 1)], none, []⟩,
 ⟨(some 90), (.bin 0 .quo), [(.t 88), (.t 89)], none, []⟩,
 ⟨(some 91), (.ixs 1), [(.t 86), (.t 87)], none, []⟩,
 ⟨none, (.store 1 none), [(.t 91), (.t 90)], none, []⟩] 0 [1, 4, 5, 12, 13, 51, 52, 53])
 .skip))
 (.seq
 (.reg true [] [] [
 ⟨(some 92), .mv, [(.t 13)], none, []⟩,
 ⟨(some 93), .mv, [(.t 1)], none, []⟩,
 ⟨(some 94), .mv, [(.t 5)], none, []⟩,
 ⟨(some 95), .mv, [(.t 12)], none, []⟩,
 ⟨(some 96), (.ixs 1), [(.t 94), (.t 95)], none, []⟩,
 ⟨(some 97), (.load none), [(.t 96)], none, []⟩,
 ⟨(some 98), (.bin 0 .mul), [(.t 93), (.t 97)], none, []⟩,
 ⟨(some 99), (.bin 0 .neq), [(.t 92), (.t 98)], none, []⟩] 0 [1, 4, 5, 51, 52, 53, 99])
 (.cond (.t 99)
 (.seq
 (.reg true [] [] [
 ⟨none, (.store 1 none), [(.t 4), (.c (.sl (some 2004600) 1 []))], none, []⟩,
 ⟨(some 5), .mv, [(.c (.sl none 1 []))], none, []⟩,
 ⟨(some 6), .mv, [(.c (.int .i64 9))], none, []⟩] 0 [4, 5, 6])
 .ret)
 .skip)))))))
 (.reg true [] [] [
 ⟨(some 100), (.bin 0 .add), [(.t 53), (.c (.int .i64 1))], none, []⟩,
 ⟨(some 53), .mv, [(.t 100)], none, []⟩] 0 [1, 4, 5, 51, 52, 53]))))
def l38 : LFun := ⟨2, 106, [],
 (.seq
 (.reg false [4] [4] [
 ⟨(some 4), (.alloc [(.sl (some 2004600) 1 [])]), [], none, []⟩,
 ⟨(some 5), .mv, [(.c (.sl none 1 []))], none, []⟩,
 ⟨(some 6), .mv, [(.c (.int .i64 0))], none, []⟩] 0 [0, 1, 4])
 (.seq
 (.reg false [] [] [
 ⟨(some 14), .mv, [(.t 0)], none, []⟩,
 ⟨(some 15), .len, [(.t 14)], none, []⟩,
 ⟨(some 16), (.bin 0 .sub), [(.t 15), (.c (.int .i64 1))], none, []⟩,
 ⟨(some 7), .mv, [(.t 16)], none, []⟩] 0 [0, 1, 4, 7])
 (.seq
 (.block 0
 (.seq
 (.reg false [19] [19] [
 ⟨(some 18), .mv, [(.t 1)], none, []⟩,
 ⟨(some 19), (.bsl 1 [(.int .i64 0)] 1 [0]), [(.t 18)], none, []⟩,
 ⟨(some 20), (.call false false false), [(.f 53), (.c (.int .i64 1)), (.c (.int .i64 24)), (.t 19)], none, []⟩,
 ⟨(some 21), (.un .not), [(.t 20)], none, []⟩,
 ⟨(some 17), .mv, [(.t 21)], none, []⟩] 0 [0, 1, 4, 7, 17])
 (.cond (.t 17)
 (.seq
 (.reg false [] [] [
 ⟨none, (.store 1 none), [(.t 4), (.c (.sl (some 2004600) 1 []))], none, []⟩,
 ⟨(some 5), .mv, [(.c (.sl none 1 []))], none, []⟩,
 ⟨(some 6), .mv, [(.c (.int .i64 3))], none, []⟩] 0 [4, 5, 6])
 .ret)
 (.seq
 (.seq
 (.reg false [] [] [
 ⟨(some 23), .mv, [(.t 7)], none, []⟩,
 ⟨(some 24), .mv, [(.t 1)], none, []⟩,
 ⟨(some 25), (.bin 0 .rem), [(.t 23), (.t 24)], none, []⟩,
 ⟨(some 26), (.bin 0 .neq), [(.t 25), (.c (.int .i64 0))], none, []⟩,
 ⟨(some 22), .mv, [(.t 26)], none, []⟩] 0 [0, 1, 4, 7, 22])
 (.cond (.t 22)
 .skip
 (.reg false [30] [30] [
 ⟨(some 27), .mv, [(.t 7)], none, []⟩,
 ⟨(some 28), .mv, [(.t 1)], none, []⟩,
 ⟨(some 29), (.bin 0 .quo), [(.t 27), (.t 28)], none, []⟩,
 ⟨(some 30), (.bsl 1 [(.int .i64 0)] 1 [0]), [(.t 29)], none, []⟩,
 ⟨(some 31), (.call false false false), [(.f 53), (.c (.int .i64 1)), (.c (.int .i64 199)), (.t 30)], none, []⟩,
 ⟨(some 32), (.un .not), [(.t 31)], none, []⟩,
 ⟨(some 22), .mv, [(.t 32)], none, []⟩] 0 [0, 1, 4, 7, 22])))
 (.cond (.t 22)
 (.seq
 (.reg false [] [] [
 ⟨none, (.store 1 none), [(.t 4), (.c (.sl (some 2004600) 1 []))], none, []⟩,
 ⟨(some 5), .mv, [(.c (.sl none 1 []))], none, []⟩,
 ⟨(some 6), .mv, [(.c (.int .i64 4))], none, []⟩] 0 [4, 5, 6])
 .ret)
 (.seq
 (.reg false [] [] [
 ⟨(some 34), .mv, [(.t 0)], none, []⟩,
 ⟨(some 35), (.call false false false), [(.f 53), (.c (.int .i64 (-10000))), (.c (.int .i64 10000)), (.t 34)], none, []⟩,
 ⟨(some 36), (.un .not), [(.t 35)], none, []⟩,
 ⟨(some 33), .mv, [(.t 36)], none, []⟩] 0 [0, 1, 4, 7, 33])
 (.cond (.t 33)
 (.seq
 (.reg false [] [] [
 ⟨none, (.store 1 none), [(.t 4), (.c (.sl (some 2004600) 1 []))], none, []⟩,
 ⟨(some 5), .mv, [(.c (.sl none 1 []))], none, []⟩,
 ⟨(some 6), .mv, [(.c (.int .i64 3))], none, []⟩] 0 [4, 5, 6])
 .ret)
 .skip)))))))
 (.seq
 (.seq
 (.reg false [39] [39] [
 ⟨(some 37), .mv, [(.t 0)], none, []⟩,
 ⟨(some 38), .mv, [(.t 1)], none, []⟩,
 ⟨(some 39), (.call false true true), [(.f 72), (.t 37), (.t 38)], none, []⟩] 0 [0, 1, 4, 7, 39])
 (.block 1
 (.rng (.t 39) [40] b38_0w b38_0a b38_0)))
 (.seq
 (.reg false [48] [48] [
 ⟨(some 47), .mv, [(.t 1)], none, []⟩,
 ⟨(some 48), (.mks 1 8 [(.int .i64 0)]), [(.t 47), (.t 47)], none, []⟩,
 ⟨(some 5), .mv, [(.t 48)], none, []⟩] 0 [0, 1, 4, 5, 7])
 (.seq
 (.seq
 (.reg false [] [] [
 ⟨(some 49), .mv, [(.t 0)], none, []⟩,
 ⟨(some 50), .mv, [(.t 7)], none, []⟩,
 ⟨(some 51), (.sls 1 false true false), [(.t 49), (.t 50)], none, []⟩,
 ⟨(some 52), .len, [(.t 51)], none, []⟩,
 ⟨(some 53), .mv, [(.c (.int .i64 0))], none, []⟩] 0 [1, 4, 5, 51, 52, 53])
 (.block 3
 (.loop b38_1)))
 (.seq
 (.seq
 (.reg false [] [] [
 ⟨(some 101), .mv, [(.t 5)], none, []⟩,
 ⟨(some 102), (.call false false false), [(.f 53), (.c (.int .i64 (-10000))), (.c (.int .i64 10000)), (.t 101)], none, []⟩,
 ⟨(some 103), (.un .not), [(.t 102)], none, []⟩] 0 [4, 5, 103])
 (.cond (.t 103)
 (.seq
 (.reg false [] [] [
 ⟨none, (.store 1 none), [(.t 4), (.c (.sl (some 2004600) 1 []))], none, []⟩,
 ⟨(some 5), .mv, [(.c (.sl none 1 []))], none, []⟩,
 ⟨(some 6), .mv, [(.c (.int .i64 9))], none, []⟩] 0 [4, 5, 6])
 .ret)
 .skip))
 (.seq
 (.reg false [] [] [
 ⟨(some 104), (.load none), [(.t 4)], none, []⟩,
 ⟨(some 105), .mv, [(.t 5)], none, []⟩,
 ⟨none, (.store 1 none), [(.t 4), (.t 104)], none, []⟩,
 ⟨(some 5), .mv, [(.t 105)], none, []⟩,
 ⟨(some 6), .mv, [(.c (.int .i64 0))], none, []⟩] 0 [4, 5, 6])
 .ret)))))))),
 [(.c 4 none), (.t 5), (.t 6)]⟩
theorem c38 : funC Try.prog [(0, [0, 1, 4]), (1, [0, 1, 4, 7]), (2, [0, 1, 4, 7, 17]), (3, [4, 5, 6]), (4, [0, 1, 4, 7, 22]), (5, [0, 1, 4, 7, 22]), (6, [4, 5, 6]), (7, [0, 1, 4, 7, 33]), (8, [4, 5, 6]), (9, [0, 1, 4, 7, 39]), (10, [0, 1, 4, 7, 8]), (11, [0, 1, 4, 7]), (12, [0, 1, 4, 5, 7]), (13, [1, 4, 5, 51, 52, 53]), (14, [1, 4, 5, 51, 52, 53, 54]), (15, [1, 4, 5, 9, 10, 51, 52, 53]), (16, [1, 4, 5, 10, 11, 12, 51, 52, 53]), (17, [1, 4, 5, 11, 12, 13, 51, 52, 53]), (18, [1, 4, 5, 12, 13, 51, 52, 53, 85]), (19, [1, 4, 5, 12, 13, 51, 52, 53]), (20, [1, 4, 5, 51, 52, 53, 99]), (21, [4, 5, 6]), (22, [1, 4, 5, 51, 52, 53]), (23, [4, 5, 103]), (24, [4, 5, 6]), (25, [4, 5, 6])] Try.f38 = some (unF l38) := by kernel_rfl
/-- acme/lead.Lash -/
def b40_1 : LCode :=
 (.seq
 (.reg true [] [] [
 ⟨(some 36), (.bin 0 .lss), [(.t 35), (.c (.int .i64 2))], none, []⟩] 0 [4, 7, 9, 24, 25, 26, 34, 35, 36])
 (.seq
 (.cond (.t 36)
 .skip
 (.exit 2))
 (.seq
 (.block 3
 (.seq
 (.reg true [11] [11] [
 ⟨(some 37), (.idx 2 2 (some 2)), [(.t 34), (.t 35)], none, []⟩,
 ⟨(some 11), (.alloc [(.int .i64 0), (.int .i64 0)]), [], none, []⟩,
 ⟨none, (.store 2 none), [(.t 11), (.t 37)], none, []⟩] 0 [4, 7, 9, 11, 24, 25, 26, 34, 35])
 (.seq
 (.reg true [] [] [
 ⟨(some 38), (.load (some 2)), [(.t 11)], none, []⟩,
 ⟨(some 39), (.call false false false), [(.f 51), (.t 38), (.c (.int .i64 (-10000000))), (.c (.int .i64 10000000))], none, []⟩,
 ⟨(some 40), (.un .not), [(.t 39)], none, []⟩] 0 [4, 7, 9, 24, 25, 26, 34, 35, 40])
 (.cond (.t 40)
 (.seq
 (.reg true [] [] [
 ⟨(some 41), (.build [(.int .i64 0), (.int .i64 0)] []), [], none, []⟩,
 ⟨none, (.store 2 none), [(.t 4), (.t 41)], none, []⟩,
 ⟨(some 5), .mv, [(.c (.int .i64 2))], none, []⟩] 0 [4, 5])
 .ret)
 .skip))))
 (.reg true [] [] [
 ⟨(some 42), (.bin 0 .add), [(.t 35), (.c (.int .i64 1))], none, []⟩,
 ⟨(some 35), .mv, [(.t 42)], none, []⟩] 0 [4, 7, 9, 24, 25, 26, 34, 35]))))
def b40_0 : LCode :=
 (.seq
 (.reg true [] [] [
 ⟨(some 27), (.bin 0 .lss), [(.t 26), (.t 25)], none, []⟩] 0 [4, 7, 24, 25, 26, 27])
 (.seq
 (.cond (.t 27)
 .skip
 (.exit 0))
 (.seq
 (.block 1
 (.seq
 (.reg true [9] [9] [
 ⟨(some 28), (.ixs 4), [(.t 24), (.t 26)], none, []⟩,
 ⟨(some 29), (.load (some 4)), [(.t 28)], none, []⟩,
 ⟨(some 9), (.alloc [(.int .i64 0), (.int .i64 0), (.int .i64 0), (.int .i64 0)]), [], none, []⟩,
 ⟨none, (.store 4 none), [(.t 9), (.t 29)], none, []⟩] 0 [4, 7, 9, 24, 25, 26])
 (.seq
 (.seq
 (.reg true [] [] [
 ⟨(some 30), (.fa 0), [(.t 9)], none, []⟩,
 ⟨(some 31), (.load (some 2)), [(.t 30)], none, []⟩,
 ⟨(some 32), (.fa 2), [(.t 9)], none, []⟩,
 ⟨(some 33), (.load (some 2)), [(.t 32)], none, []⟩,
 ⟨(some 34), (.build [(.int .i64 0), (.int .i64 0), (.int .i64 0), (.int .i64 0)] [(0, 2), (2, 2)]), [(.t 31), (.t 33)], none, []⟩,
 ⟨(some 35), .mv, [(.c (.int .i64 0))], none, []⟩] 0 [4, 7, 9, 24, 25, 26, 34, 35])
 (.block 2
 (.loop b40_1)))
 (.reg true [] [] [
 ⟨(some 43), (.fa 0), [(.t 7)], none, []⟩,
 ⟨(some 44), (.load none), [(.t 43)], none, []⟩,
 ⟨(some 45), (.fa 2), [(.t 9)], none, []⟩,
 ⟨(some 46), (.fa 0), [(.t 45)], none, []⟩,
 ⟨(some 47), (.load none), [(.t 46)], none, []⟩,
 ⟨(some 48), (.fa 0), [(.t 9)], none, []⟩,
 ⟨(some 49), (.fa 1), [(.t 48)], none, []⟩,
 ⟨(some 50), (.load none), [(.t 49)], none, []⟩,
 ⟨(some 51), (.bin 0 .sub), [(.t 47), (.t 50)], none, []⟩,
 ⟨(some 52), .max, [(.t 44), (.t 51)], none, []⟩,
 ⟨(some 53), (.fa 1), [(.t 7)], none, []⟩,
 ⟨(some 54), (.load none), [(.t 53)], none, []⟩,
 ⟨(some 55), (.fa 2), [(.t 9)], none, []⟩,
 ⟨(some 56), (.fa 1), [(.t 55)], none, []⟩,
 ⟨(some 57), (.load none), [(.t 56)], none, []⟩,
 ⟨(some 58), (.fa 0), [(.t 9)], none, []⟩,
 ⟨(some 59), (.fa 0), [(.t 58)], none, []⟩,
 ⟨(some 60), (.load none), [(.t 59)], none, []⟩,
 ⟨(some 61), (.bin 0 .sub), [(.t 57), (.t 60)], none, []⟩,
 ⟨(some 62), .min, [(.t 54), (.t 61)], none, []⟩,
 ⟨(some 63), (.build [(.int .i64 0), (.int .i64 0)] [(0, 1), (1, 1)]), [(.t 52), (.t 62)], none, []⟩,
 ⟨none, (.store 2 none), [(.t 7), (.t 63)], none, []⟩] 0 [4, 7, 24, 25, 26]))))
 (.reg true [] [] [
 ⟨(some 64), (.bin 0 .add), [(.t 26), (.c (.int .i64 1))], none, []⟩,
 ⟨(some 26), .mv, [(.t 64)], none, []⟩] 0 [4, 7, 24, 25, 26]))))
def l40 : LFun := ⟨2, 72, [],
 (.seq
 (.reg false [2, 4] [2, 4] [
 ⟨(some 2), .box, [(.t 0)], none, []⟩,
 ⟨(some 4), (.alloc [(.int .i64 0), (.int .i64 0)]), [], none, []⟩,
 ⟨(some 5), .mv, [(.c (.int .i64 0))], none, []⟩] 0 [1, 2, 4])
 (.seq
 (.seq
 (.reg false [] [] [
 ⟨(some 12), (.load (some 4)), [(.t 2)], none, []⟩,
 ⟨(some 13), (.call false false false), [(.f 18), (.t 12)], none, []⟩,
 ⟨(some 6), .mv, [(.t 13)], none, []⟩] 0 [1, 2, 4, 6])
 (.seq
 (.reg false [] [] [
 ⟨(some 14), .mv, [(.t 6)], none, []⟩,
 ⟨(some 15), (.bin 0 .neq), [(.t 14), (.c (.int .i64 0))], none, []⟩] 0 [1, 2, 4, 6, 15])
 (.cond (.t 15)
 (.seq
 (.reg false [] [] [
 ⟨(some 16), (.build [(.int .i64 0), (.int .i64 0)] []), [], none, []⟩,
 ⟨(some 17), .mv, [(.t 6)], none, []⟩,
 ⟨none, (.store 2 none), [(.t 4), (.t 16)], none, []⟩,
 ⟨(some 5), .mv, [(.t 17)], none, []⟩] 0 [4, 5])
 .ret)
 .skip)))
 (.seq
 (.seq
 (.reg false [] [] [
 ⟨(some 18), .mv, [(.t 1)], none, []⟩,
 ⟨(some 19), .len, [(.t 18)], none, []⟩,
 ⟨(some 20), (.bin 0 .gtr), [(.t 19), (.c (.int .i64 50))], none, []⟩] 0 [1, 2, 4, 20])
 (.cond (.t 20)
 (.seq
 (.reg false [] [] [
 ⟨(some 21), (.build [(.int .i64 0), (.int .i64 0)] []), [], none, []⟩,
 ⟨none, (.store 2 none), [(.t 4), (.t 21)], none, []⟩,
 ⟨(some 5), .mv, [(.c (.int .i64 5))], none, []⟩] 0 [4, 5])
 .ret)
 .skip))
 (.seq
 (.reg false [7] [7] [
 ⟨(some 22), (.fa 2), [(.t 2)], none, []⟩,
 ⟨(some 23), (.load (some 2)), [(.t 22)], none, []⟩,
 ⟨(some 7), (.alloc [(.int .i64 0), (.int .i64 0)]), [], none, []⟩,
 ⟨none, (.store 2 none), [(.t 7), (.t 23)], none, []⟩] 0 [1, 4, 7])
 (.seq
 (.seq
 (.reg false [] [] [
 ⟨(some 24), .mv, [(.t 1)], none, []⟩,
 ⟨(some 25), .len, [(.t 24)], none, []⟩,
 ⟨(some 26), .mv, [(.c (.int .i64 0))], none, []⟩] 0 [4, 7, 24, 25, 26])
 (.block 0
 (.loop b40_0)))
 (.seq
 (.seq
 (.reg false [] [] [
 ⟨(some 65), (.fa 0), [(.t 7)], none, []⟩,
 ⟨(some 66), (.load none), [(.t 65)], none, []⟩,
 ⟨(some 67), (.fa 1), [(.t 7)], none, []⟩,
 ⟨(some 68), (.load none), [(.t 67)], none, []⟩,
 ⟨(some 69), (.bin 0 .gtr), [(.t 66), (.t 68)], none, []⟩] 0 [4, 7, 69])
 (.cond (.t 69)
 (.seq
 (.reg false [] [] [
 ⟨(some 70), (.build [(.int .i64 0), (.int .i64 0)] []), [], none, []⟩,
 ⟨none, (.store 2 none), [(.t 4), (.t 70)], none, []⟩,
 ⟨(some 5), .mv, [(.c (.int .i64 9))], none, []⟩] 0 [4, 5])
 .ret)
 .skip))
 (.seq
 (.reg false [] [] [
 ⟨(some 71), (.load (some 2)), [(.t 7)], none, []⟩,
 ⟨none, (.store 2 none), [(.t 4), (.t 71)], none, []⟩,
 ⟨(some 5), .mv, [(.c (.int .i64 0))], none, []⟩] 0 [4, 5])
 .ret))))))),
 [(.c 4 (some 2)), (.t 5)]⟩
theorem c40 : funC Try.prog [(0, [1, 2, 4]), (1, [1, 2, 4, 6]), (2, [1, 2, 4, 6, 15]), (3, [4, 5]), (4, [1, 2, 4, 20]), (5, [4, 5]), (6, [1, 4, 7]), (7, [4, 7, 24, 25, 26]), (8, [4, 7, 24, 25, 26, 27]), (9, [4, 7, 9, 24, 25, 26]), (10, [4, 7, 9, 24, 25, 26, 34, 35]), (11, [4, 7, 9, 24, 25, 26, 34, 35, 36]), (12, [4, 7, 9, 11, 24, 25, 26, 34, 35]), (13, [4, 7, 9, 24, 25, 26, 34, 35, 40]), (14, [4, 5]), (15, [4, 7, 9, 24, 25, 26, 34, 35]), (16, [4, 7, 24, 25, 26]), (17, [4, 7, 24, 25, 26]), (18, [4, 7, 69]), (19, [4, 5]), (20, [4, 5])] Try.f40 = some (unF l40) := by kernel_rfl
/-- acme/acmeref06.Lash -/
def b41_0 : LCode :=
 (.seq
 (.seq
 (.reg true [] [] [
 ⟨(some 22), .mv, [(.t 7)], none, []⟩,
 ⟨(some 23), .mv, [(.t 1)], none, []⟩,
 ⟨(some 24), .len, [(.t 23)], none, []⟩,
 ⟨(some 25), (.bin 0 .lss), [(.t 22), (.t 24)], none, []⟩] 0 [1, 2, 4, 7, 25])
 (.cond (.t 25)
 .skip
 (.exit 0)))
 (.seq
 (.block 1
 (.seq
 (.reg true [] [] [
 ⟨(some 28), .mv, [(.t 1)], none, []⟩,
 ⟨(some 29), .mv, [(.t 7)], none, []⟩,
 ⟨(some 30), (.ixs 4), [(.t 28), (.t 29)], none, []⟩,
 ⟨(some 31), (.fa 0), [(.t 30)], none, []⟩,
 ⟨(some 32), (.load (some 2)), [(.t 31)], none, []⟩,
 ⟨(some 33), (.call false false false), [(.f 59), (.t 32), (.c (.int .i64 (-10000000))), (.c (.int .i64 10000000))], none, []⟩,
 ⟨(some 34), (.un .not), [(.t 33)], none, []⟩,
 ⟨(some 35), .mv, [(.t 34)], none, []⟩,
 ⟨(some 36), .mv, [(.t 1)], (some (35, false)), []⟩,
 ⟨(some 37), .mv, [(.t 7)], (some (35, false)), []⟩,
 ⟨(some 38), (.ixs 4), [(.t 36), (.t 37)], (some (35, false)), []⟩,
 ⟨(some 39), (.fa 2), [(.t 38)], (some (35, false)), []⟩,
 ⟨(some 40), (.load (some 2)), [(.t 39)], (some (35, false)), []⟩,
 ⟨(some 41), (.call false false false), [(.f 59), (.t 40), (.c (.int .i64 (-10000000))), (.c (.int .i64 10000000))], (some (35, false)), []⟩,
 ⟨(some 42), (.un .not), [(.t 41)], (some (35, false)), []⟩,
 ⟨(some 43), .pick, [(.t 35), (.c (.bool true)), (.t 42)], none, []⟩] 0 [1, 2, 4, 7, 43])
 (.cond (.t 43)
 (.seq
 (.reg true [] [] [
 ⟨(some 44), (.build [(.int .i64 0), (.int .i64 0)] []), [], none, []⟩,
 ⟨none, (.store 2 none), [(.t 4), (.t 44)], none, []⟩,
 ⟨(some 5), .mv, [(.c (.int .i64 2))], none, []⟩] 0 [4, 5])
 .ret)
 .skip)))
 (.reg true [] [] [
 ⟨(some 26), .mv, [(.t 7)], none, []⟩,
 ⟨(some 27), (.bin 0 .add), [(.t 26), (.c (.int .i64 1))], none, []⟩,
 ⟨(some 7), .mv, [(.t 27)], none, []⟩] 0 [1, 2, 4, 7])))
def b41_2 : LCode :=
 (.seq
 (.seq
 (.reg true [] [] [
 ⟨(some 56), .mv, [(.t 11)], none, []⟩,
 ⟨(some 57), .mv, [(.t 1)], none, []⟩,
 ⟨(some 58), .len, [(.t 57)], none, []⟩,
 ⟨(some 59), (.bin 0 .lss), [(.t 56), (.t 58)], none, []⟩] 0 [1, 2, 4, 8, 9, 10, 11, 59])
 (.cond (.t 59)
 .skip
 (.exit 4)))
 (.seq
 (.block 5
 (.reg true [] [] [
 ⟨(some 62), .mv, [(.t 10)], none, []⟩,
 ⟨(some 63), .mv, [(.t 62)], none, []⟩,
 ⟨(some 64), .mv, [(.t 1)], (some (63, true)), [65, 70, 72, 73, 74, 75, 76, 77]⟩,
 ⟨(some 65), .mv, [(.t 11)], (some (63, true)), [64, 70, 72, 73, 74, 75, 76, 77]⟩,
 ⟨(some 66), (.ixs 4), [(.t 64), (.t 65)], (some (63, true)), [70, 72, 73, 74, 75, 76, 77]⟩,
 ⟨(some 67), (.fa 0), [(.t 66)], (some (63, true)), [70, 72, 73, 74, 75, 76, 77]⟩,
 ⟨(some 68), (.fa 0), [(.t 67)], (some (63, true)), [70, 72, 73, 74, 75, 76, 77]⟩,
 ⟨(some 69), (.load none), [(.t 68)], (some (63, true)), [70, 72, 73, 74, 75, 76, 77]⟩,
 ⟨(some 70), .mv, [(.t 9)], (some (63, true)), [64, 65, 66, 67, 68, 69, 72, 73, 74, 75, 76, 77]⟩,
 ⟨(some 71), (.bin 0 .add), [(.t 69), (.t 70)], (some (63, true)), [72, 73, 74, 75, 76, 77]⟩,
 ⟨(some 72), .mv, [(.t 1)], (some (63, true)), [64, 65, 66, 67, 68, 69, 70, 71, 73]⟩,
 ⟨(some 73), .mv, [(.t 11)], (some (63, true)), [64, 65, 66, 67, 68, 69, 70, 71, 72]⟩,
 ⟨(some 74), (.ixs 4), [(.t 72), (.t 73)], (some (63, true)), [64, 65, 66, 67, 68, 69, 70, 71]⟩,
 ⟨(some 75), (.fa 2), [(.t 74)], (some (63, true)), [64, 65, 66, 67, 68, 69, 70, 71]⟩,
 ⟨(some 76), (.fa 1), [(.t 75)], (some (63, true)), [64, 65, 66, 67, 68, 69, 70, 71]⟩,
 ⟨(some 77), (.load none), [(.t 76)], (some (63, true)), [64, 65, 66, 67, 68, 69, 70, 71]⟩,
 ⟨(some 78), (.bin 0 .leq), [(.t 71), (.t 77)], (some (63, true)), []⟩,
 ⟨(some 79), .pick, [(.t 63), (.t 78), (.c (.bool false))], none, []⟩,
 ⟨(some 80), .mv, [(.t 79)], none, []⟩,
 ⟨(some 81), .mv, [(.t 1)], (some (80, true)), [82, 87, 89, 90, 91, 92, 93, 94]⟩,
 ⟨(some 82), .mv, [(.t 11)], (some (80, true)), [81, 87, 89, 90, 91, 92, 93, 94]⟩,
 ⟨(some 83), (.ixs 4), [(.t 81), (.t 82)], (some (80, true)), [87, 89, 90, 91, 92, 93, 94]⟩,
 ⟨(some 84), (.fa 0), [(.t 83)], (some (80, true)), [87, 89, 90, 91, 92, 93, 94]⟩,
 ⟨(some 85), (.fa 1), [(.t 84)], (some (80, true)), [87, 89, 90, 91, 92, 93, 94]⟩,
 ⟨(some 86), (.load none), [(.t 85)], (some (80, true)), [87, 89, 90, 91, 92, 93, 94]⟩,
 ⟨(some 87), .mv, [(.t 9)], (some (80, true)), [81, 82, 83, 84, 85, 86, 89, 90, 91, 92, 93, 94]⟩,
 ⟨(some 88), (.bin 0 .add), [(.t 86), (.t 87)], (some (80, true)), [89, 90, 91, 92, 93, 94]⟩,
 ⟨(some 89), .mv, [(.t 1)], (some (80, true)), [81, 82, 83, 84, 85, 86, 87, 88, 90]⟩,
 ⟨(some 90), .mv, [(.t 11)], (some (80, true)), [81, 82, 83, 84, 85, 86, 87, 88, 89]⟩,
 ⟨(some 91), (.ixs 4), [(.t 89), (.t 90)], (some (80, true)), [81, 82, 83, 84, 85, 86, 87, 88]⟩,
 ⟨(some 92), (.fa 2), [(.t 91)], (some (80, true)), [81, 82, 83, 84, 85, 86, 87, 88]⟩,
 ⟨(some 93), (.fa 0), [(.t 92)], (some (80, true)), [81, 82, 83, 84, 85, 86, 87, 88]⟩,
 ⟨(some 94), (.load none), [(.t 93)], (some (80, true)), [81, 82, 83, 84, 85, 86, 87, 88]⟩,
 ⟨(some 95), (.bin 0 .geq), [(.t 88), (.t 94)], (some (80, true)), []⟩,
 ⟨(some 96), .pick, [(.t 80), (.t 95), (.c (.bool false))], none, []⟩,
 ⟨(some 10), .mv, [(.t 96)], none, []⟩] 0 [1, 2, 4, 8, 9, 10, 11]))
 (.reg true [] [] [
 ⟨(some 60), .mv, [(.t 11)], none, []⟩,
 ⟨(some 61), (.bin 0 .add), [(.t 60), (.c (.int .i64 1))], none, []⟩,
 ⟨(some 11), .mv, [(.t 61)], none, []⟩] 0 [1, 2, 4, 8, 9, 10, 11])))
def b41_1 : LCode :=
 (.seq
 (.seq
 (.reg true [] [] [
 ⟨(some 49), .mv, [(.t 9)], none, []⟩,
 ⟨(some 50), (.fa 2), [(.t 2)], none, []⟩,
 ⟨(some 51), (.fa 1), [(.t 50)], none, []⟩,
 ⟨(some 52), (.load none), [(.t 51)], none, []⟩,
 ⟨(some 53), (.bin 0 .leq), [(.t 49), (.t 52)], none, []⟩] 0 [1, 2, 4, 8, 9, 53])
 (.cond (.t 53)
 .skip
 (.exit 2)))
 (.seq
 (.block 3
 (.seq
 (.reg true [] [] [
 ⟨(some 10), .mv, [(.c (.bool true))], none, []⟩] 0 [1, 2, 4, 8, 9, 10])
 (.seq
 (.seq
 (.reg true [] [] [
 ⟨(some 11), .mv, [(.c (.int .i64 0))], none, []⟩] 0 [1, 2, 4, 8, 9, 10, 11])
 (.block 4
 (.loop b41_2)))
 (.seq
 (.seq
 (.reg true [] [] [
 ⟨(some 97), .mv, [(.t 10)], none, []⟩,
 ⟨(some 98), .mv, [(.t 97)], none, []⟩,
 ⟨(some 99), (.fa 0), [(.t 8)], (some (98, true)), []⟩,
 ⟨(some 100), (.load none), [(.t 99)], (some (98, true)), []⟩,
 ⟨(some 101), (.fa 1), [(.t 8)], (some (98, true)), []⟩,
 ⟨(some 102), (.load none), [(.t 101)], (some (98, true)), []⟩,
 ⟨(some 103), (.bin 0 .gtr), [(.t 100), (.t 102)], (some (98, true)), []⟩,
 ⟨(some 104), .pick, [(.t 98), (.t 103), (.c (.bool false))], none, []⟩] 0 [1, 2, 4, 8, 9, 10, 104])
 (.cond (.t 104)
 (.reg true [] [] [
 ⟨(some 105), .mv, [(.t 9)], none, []⟩,
 ⟨(some 106), .mv, [(.t 9)], none, []⟩,
 ⟨(some 107), (.build [(.int .i64 0), (.int .i64 0)] [(0, 1), (1, 1)]), [(.t 105), (.t 106)], none, []⟩,
 ⟨none, (.store 2 none), [(.t 8), (.t 107)], none, []⟩] 0 [1, 2, 4, 8, 9, 10])
 .skip))
 (.seq
 (.reg true [] [] [
 ⟨(some 108), .mv, [(.t 10)], none, []⟩] 0 [1, 2, 4, 8, 9, 108])
 (.cond (.t 108)
 (.reg true [] [] [
 ⟨(some 109), .mv, [(.t 9)], none, []⟩,
 ⟨(some 110), (.fa 1), [(.t 8)], none, []⟩,
 ⟨none, (.store 1 none), [(.t 110), (.t 109)], none, []⟩] 0 [1, 2, 4, 8, 9])
 .skip))))))
 (.reg true [] [] [
 ⟨(some 54), .mv, [(.t 9)], none, []⟩,
 ⟨(some 55), (.bin 0 .add), [(.t 54), (.c (.int .i64 1))], none, []⟩,
 ⟨(some 9), .mv, [(.t 55)], none, []⟩] 0 [1, 2, 4, 8, 9])))
def l41 : LFun := ⟨2, 118, [],
 (.seq
 (.reg false [2, 4] [2, 4] [
 ⟨(some 2), .box, [(.t 0)], none, []⟩,
 ⟨(some 4), (.alloc [(.int .i64 0), (.int .i64 0)]), [], none, []⟩,
 ⟨(some 5), .mv, [(.c (.int .i64 0))], none, []⟩] 0 [1, 2, 4])
 (.seq
 (.seq
 (.reg false [] [] [
 ⟨(some 12), (.load (some 4)), [(.t 2)], none, []⟩,
 ⟨(some 13), (.call false false false), [(.f 22), (.t 12)], none, []⟩,
 ⟨(some 6), .mv, [(.t 13)], none, []⟩] 0 [1, 2, 4, 6])
 (.seq
 (.reg false [] [] [
 ⟨(some 14), .mv, [(.t 6)], none, []⟩,
 ⟨(some 15), (.bin 0 .neq), [(.t 14), (.c (.int .i64 0))], none, []⟩] 0 [1, 2, 4, 6, 15])
 (.cond (.t 15)
 (.seq
 (.reg false [] [] [
 ⟨(some 16), (.build [(.int .i64 0), (.int .i64 0)] []), [], none, []⟩,
 ⟨(some 17), .mv, [(.t 6)], none, []⟩,
 ⟨none, (.store 2 none), [(.t 4), (.t 16)], none, []⟩,
 ⟨(some 5), .mv, [(.t 17)], none, []⟩] 0 [4, 5])
 .ret)
 .skip)))
 (.seq
 (.seq
 (.reg false [] [] [
 ⟨(some 18), .mv, [(.t 1)], none, []⟩,
 ⟨(some 19), .len, [(.t 18)], none, []⟩,
 ⟨(some 20), (.bin 0 .gtr), [(.t 19), (.c (.int .i64 50))], none, []⟩] 0 [1, 2, 4, 20])
 (.cond (.t 20)
 (.seq
 (.reg false [] [] [
 ⟨(some 21), (.build [(.int .i64 0), (.int .i64 0)] []), [], none, []⟩,
 ⟨none, (.store 2 none), [(.t 4), (.t 21)], none, []⟩,
 ⟨(some 5), .mv, [(.c (.int .i64 5))], none, []⟩] 0 [4, 5])
 .ret)
 .skip))
 (.seq
 (.seq
 (.reg false [] [] [
 ⟨(some 7), .mv, [(.c (.int .i64 0))], none, []⟩] 0 [1, 2, 4, 7])
 (.block 0
 (.loop b41_0)))
 (.seq
 (.reg false [8] [8] [
 ⟨(some 45), (.build [(.int .i64 0), (.int .i64 0)] [(0, 1), (1, 1)]), [(.c (.int .i64 1)), (.c (.int .i64 0))], none, []⟩,
 ⟨(some 8), (.alloc [(.int .i64 0), (.int .i64 0)]), [], none, []⟩,
 ⟨none, (.store 2 none), [(.t 8), (.t 45)], none, []⟩] 0 [1, 2, 4, 8])
 (.seq
 (.seq
 (.reg false [] [] [
 ⟨(some 46), (.fa 2), [(.t 2)], none, []⟩,
 ⟨(some 47), (.fa 0), [(.t 46)], none, []⟩,
 ⟨(some 48), (.load none), [(.t 47)], none, []⟩,
 ⟨(some 9), .mv, [(.t 48)], none, []⟩] 0 [1, 2, 4, 8, 9])
 (.block 2
 (.loop b41_1)))
 (.seq
 (.seq
 (.reg false [] [] [
 ⟨(some 111), (.fa 0), [(.t 8)], none, []⟩,
 ⟨(some 112), (.load none), [(.t 111)], none, []⟩,
 ⟨(some 113), (.fa 1), [(.t 8)], none, []⟩,
 ⟨(some 114), (.load none), [(.t 113)], none, []⟩,
 ⟨(some 115), (.bin 0 .gtr), [(.t 112), (.t 114)], none, []⟩] 0 [4, 8, 115])
 (.cond (.t 115)
 (.seq
 (.reg false [] [] [
 ⟨(some 116), (.build [(.int .i64 0), (.int .i64 0)] []), [], none, []⟩,
 ⟨none, (.store 2 none), [(.t 4), (.t 116)], none, []⟩,
 ⟨(some 5), .mv, [(.c (.int .i64 9))], none, []⟩] 0 [4, 5])
 .ret)
 .skip))
 (.seq
 (.reg false [] [] [
 ⟨(some 117), (.load (some 2)), [(.t 8)], none, []⟩,
 ⟨none, (.store 2 none), [(.t 4), (.t 117)], none, []⟩,
 ⟨(some 5), .mv, [(.c (.int .i64 0))], none, []⟩] 0 [4, 5])
 .ret)))))))),
 [(.c 4 (some 2)), (.t 5)]⟩
theorem c41 : funC Try.prog [(0, [1, 2, 4]), (1, [1, 2, 4, 6]), (2, [1, 2, 4, 6, 15]), (3, [4, 5]), (4, [1, 2, 4, 20]), (5, [4, 5]), (6, [1, 2, 4, 7]), (7, [1, 2, 4, 7, 25]), (8, [1, 2, 4, 7]), (9, [1, 2, 4, 7, 43]), (10, [4, 5]), (11, [1, 2, 4, 8]), (12, [1, 2, 4, 8, 9]), (13, [1, 2, 4, 8, 9, 53]), (14, [1, 2, 4, 8, 9]), (15, [1, 2, 4, 8, 9, 10]), (16, [1, 2, 4, 8, 9, 10, 11]), (17, [1, 2, 4, 8, 9, 10, 11, 59]), (18, [1, 2, 4, 8, 9, 10, 11]), (19, [1, 2, 4, 8, 9, 10, 11]), (20, [1, 2, 4, 8, 9, 10, 104]), (21, [1, 2, 4, 8, 9, 10]), (22, [1, 2, 4, 8, 9, 108]), (23, [1, 2, 4, 8, 9]), (24, [4, 8, 115]), (25, [4, 5]), (26, [4, 5])] Try.f41 = some (unF l41) := by kernel_rfl
/-- acme/acmelaw06.span -/
def l48 : LFun := ⟨2, 8, [],
 (.seq
 (.reg false [4] [4] [
 ⟨(some 4), (.alloc [(.int .i64 0), (.int .i64 0)]), [], none, []⟩] 0 [0, 1, 4])
 (.seq
 (.reg false [] [] [
 ⟨(some 5), .mv, [(.t 0)], none, []⟩,
 ⟨(some 6), .mv, [(.t 1)], none, []⟩,
 ⟨(some 7), (.build [(.int .i64 0), (.int .i64 0)] [(0, 1), (1, 1)]), [(.t 5), (.t 6)], none, []⟩,
 ⟨none, (.store 2 none), [(.t 4), (.t 7)], none, []⟩] 0 [4])
 .ret)),
 [(.c 4 (some 2))]⟩
theorem c48 : funC Try.prog [(0, [0, 1, 4]), (1, [4])] Try.f48 = some (unF l48) := by kernel_rfl
/-- acme/acmelaw06.two -/
def l49 : LFun := ⟨0, 8, [],
 (.seq
 (.reg false [0] [0] [
 ⟨(some 0), (.alloc [(.sl none 2 []), (.sl none 1 []), (.int .i64 0), (.int .i64 0)]), [], none, []⟩] 0 [0])
 (.seq
 (.reg false [4, 5] [4, 5] [
 ⟨(some 1), (.call false false false), [(.f 48), (.c (.int .i64 0)), (.c (.int .i64 0))], none, []⟩,
 ⟨(some 2), (.call false false false), [(.f 48), (.c (.int .i64 10)), (.c (.int .i64 12))], none, []⟩,
 ⟨(some 3), (.call false false false), [(.f 48), (.c (.int .i64 (-4))), (.c (.int .i64 0))], none, []⟩,
 ⟨(some 4), (.bsl 2 [(.int .i64 0), (.int .i64 0)] 3 [0, 1, 2]), [(.t 1), (.t 2), (.t 3)], none, []⟩,
 ⟨(some 5), (.bsl 1 [(.int .i64 0)] 4 [0, 1, 2, 3]), [(.c (.int .i64 0)), (.c (.int .i64 3)), (.c (.int .i64 0)), (.c (.int .i64 (-3)))], none, []⟩,
 ⟨(some 6), (.call false false false), [(.f 48), (.c (.int .i64 5)), (.c (.int .i64 8))], none, []⟩,
 ⟨(some 7), (.build [(.sl none 2 []), (.sl none 1 []), (.int .i64 0), (.int .i64 0)] [(0, 1), (1, 1), (2, 2)]), [(.t 4), (.t 5), (.t 6)], none, []⟩,
 ⟨none, (.store 4 none), [(.t 0), (.t 7)], none, []⟩] 0 [0])
 .ret)),
 [(.c 0 (some 4))]⟩
theorem c49 : funC Try.prog [(0, [0]), (1, [0])] Try.f49 = some (unF l49) := by kernel_rfl
/-- acme/lead.Check$1 -/
def l50 : LFun := ⟨1, 6, [],
 (.seq
 (.reg false [1] [1] [
 ⟨(some 1), .box, [(.t 0)], none, []⟩,
 ⟨(some 2), .mv, [(.c (.bool false))], none, []⟩] 0 [1])
 (.seq
 (.reg false [] [] [
 ⟨(some 3), (.load (some 2)), [(.t 1)], none, []⟩,
 ⟨(some 4), (.call false false false), [(.f 51), (.t 3), (.c (.int .i64 (-10000))), (.c (.int .i64 10000))], none, []⟩,
 ⟨(some 5), (.un .not), [(.t 4)], none, []⟩,
 ⟨(some 2), .mv, [(.t 5)], none, []⟩] 0 [2])
 .ret)),
 [(.t 2)]⟩
theorem c50 : funC Try.prog [(0, [1]), (1, [2])] Try.f50 = some (unF l50) := by kernel_rfl
/-- acme/lead.isSpan -/
def l51 : LFun := ⟨3, 22, [],
 (.seq
 (.reg false [3] [3] [
 ⟨(some 3), .box, [(.t 0)], none, []⟩,
 ⟨(some 6), .mv, [(.c (.bool false))], none, []⟩] 0 [1, 2, 3])
 (.seq
 (.reg false [13] [13] [
 ⟨(some 7), .mv, [(.t 1)], none, []⟩,
 ⟨(some 8), .mv, [(.t 2)], none, []⟩,
 ⟨(some 9), (.fa 0), [(.t 3)], none, []⟩,
 ⟨(some 10), (.load none), [(.t 9)], none, []⟩,
 ⟨(some 11), (.fa 1), [(.t 3)], none, []⟩,
 ⟨(some 12), (.load none), [(.t 11)], none, []⟩,
 ⟨(some 13), (.bsl 1 [(.int .i64 0)] 2 [0, 1]), [(.t 10), (.t 12)], none, []⟩,
 ⟨(some 14), (.call false false false), [(.f 53), (.t 7), (.t 8), (.t 13)], none, []⟩,
 ⟨(some 15), .mv, [(.t 14)], none, []⟩,
 ⟨(some 16), (.fa 0), [(.t 3)], (some (15, true)), []⟩,
 ⟨(some 17), (.load none), [(.t 16)], (some (15, true)), []⟩,
 ⟨(some 18), (.fa 1), [(.t 3)], (some (15, true)), []⟩,
 ⟨(some 19), (.load none), [(.t 18)], (some (15, true)), []⟩,
 ⟨(some 20), (.bin 0 .leq), [(.t 17), (.t 19)], (some (15, true)), []⟩,
 ⟨(some 21), .pick, [(.t 15), (.t 20), (.c (.bool false))], none, []⟩,
 ⟨(some 6), .mv, [(.t 21)], none, []⟩] 0 [6])
 .ret)),
 [(.t 6)]⟩
theorem c51 : funC Try.prog [(0, [1, 2, 3]), (1, [6])] Try.f51 = some (unF l51) := by kernel_rfl
/-- slices.ContainsFunc[[]acme/api.Span,acme/api.Span] -/
def l52 : LFun := ⟨2, 9, [],
 (.seq
 (.reg false [] [] [
 ⟨(some 4), .mv, [(.c (.bool false))], none, []⟩] 0 [0, 1])
 (.seq
 (.reg false [] [] [
 ⟨(some 5), .mv, [(.t 0)], none, []⟩,
 ⟨(some 6), .mv, [(.t 1)], none, []⟩,
 ⟨(some 7), (.call false false false), [(.f 74), (.t 5), (.t 6)], none, []⟩,
 ⟨(some 8), (.bin 0 .geq), [(.t 7), (.c (.int .i64 0))], none, []⟩,
 ⟨(some 4), .mv, [(.t 8)], none, []⟩] 0 [4])
 .ret)),
 [(.t 4)]⟩
theorem c52 : funC Try.prog [(0, [0, 1]), (1, [4])] Try.f52 = some (unF l52) := by kernel_rfl
/-- acme/lead.within -/
def l53 : LFun := ⟨3, 11, [],
 (.seq
 (.reg false [3, 4] [3, 4] [
 ⟨(some 3), .box, [(.t 0)], none, []⟩,
 ⟨(some 4), .box, [(.t 1)], none, []⟩,
 ⟨(some 6), .mv, [(.c (.bool false))], none, []⟩] 0 [2, 3, 4])
 (.seq
 (.reg false [] [] [
 ⟨(some 7), .mv, [(.t 2)], none, []⟩,
 ⟨(some 8), (.mkf 76), [(.t 3), (.t 4)], none, []⟩,
 ⟨(some 9), (.call false false false), [(.f 75), (.t 7), (.t 8)], none, []⟩,
 ⟨(some 10), (.un .not), [(.t 9)], none, []⟩,
 ⟨(some 6), .mv, [(.t 10)], none, []⟩] 0 [3, 4, 6])
 .ret)),
 [(.t 6)]⟩
theorem c53 : funC Try.prog [(0, [2, 3, 4]), (1, [3, 4, 6])] Try.f53 = some (unF l53) := by kernel_rfl
/-- acme/lead.open -/
def b54_0 : LCode :=
 (.seq
 (.reg true [] [] [
 ⟨(some 26), (.bin 0 .lss), [(.t 25), (.t 24)], none, []⟩] 0 [4, 7, 23, 24, 25, 26])
 (.seq
 (.cond (.t 26)
 .skip
 (.exit 0))
 (.seq
 (.block 1
 (.seq
 (.reg true [9] [9] [
 ⟨(some 27), (.ixs 2), [(.t 23), (.t 25)], none, []⟩,
 ⟨(some 28), (.load (some 2)), [(.t 27)], none, []⟩,
 ⟨(some 9), (.alloc [(.int .i64 0), (.int .i64 0)]), [], none, []⟩,
 ⟨none, (.store 2 none), [(.t 9), (.t 28)], none, []⟩] 0 [4, 7, 9, 23, 24, 25])
 (.seq
 (.seq
 (.reg true [34, 40] [34, 40] [
 ⟨(some 29), .mv, [(.t 7)], none, [30, 31, 32, 33, 34]⟩,
 ⟨(some 30), (.load (some 5)), [(.t 4)], none, [29, 32, 33, 34]⟩,
 ⟨(some 31), (.call true false false), [(.f 77), (.t 30)], none, [29, 32, 33, 34]⟩,
 ⟨(some 32), (.fa 0), [(.t 9)], none, [29, 30, 31]⟩,
 ⟨(some 33), (.load none), [(.t 32)], none, [29, 30, 31]⟩,
 ⟨(some 34), (.bsl 1 [(.int .i64 0)] 1 [0]), [(.t 33)], none, [29, 30, 31]⟩,
 ⟨(some 35), (.call false false false), [(.f 53), (.t 29), (.t 31), (.t 34)], none, []⟩,
 ⟨(some 36), (.un .not), [(.t 35)], none, []⟩,
 ⟨(some 37), .mv, [(.t 36)], none, []⟩,
 ⟨(some 38), (.fa 1), [(.t 9)], (some (37, false)), []⟩,
 ⟨(some 39), (.load none), [(.t 38)], (some (37, false)), []⟩,
 ⟨(some 40), (.bsl 1 [(.int .i64 0)] 1 [0]), [(.t 39)], (some (37, false)), []⟩,
 ⟨(some 41), (.call false false false), [(.f 53), (.c (.int .i64 (-20000))), (.c (.int .i64 20000)), (.t 40)], (some (37, false)), []⟩,
 ⟨(some 42), (.un .not), [(.t 41)], (some (37, false)), []⟩,
 ⟨(some 43), .pick, [(.t 37), (.c (.bool true)), (.t 42)], none, []⟩] 0 [4, 9, 23, 24, 25, 43])
 (.cond (.t 43)
 (.seq
 (.reg true [] [] [
 ⟨(some 44), (.load (some 5)), [(.t 4)], none, []⟩,
 ⟨none, (.store 5 none), [(.t 4), (.t 44)], none, []⟩,
 ⟨(some 5), .mv, [(.c (.int .i64 2))], none, []⟩] 0 [4, 5])
 .ret)
 .skip))
 (.reg true [] [] [
 ⟨(some 45), (.fa 0), [(.t 9)], none, []⟩,
 ⟨(some 46), (.load none), [(.t 45)], none, []⟩,
 ⟨(some 47), (.bin 0 .add), [(.t 46), (.c (.int .i64 1))], none, []⟩,
 ⟨(some 7), .mv, [(.t 47)], none, []⟩] 0 [4, 7, 23, 24, 25]))))
 (.reg true [] [] [
 ⟨(some 48), (.bin 0 .add), [(.t 25), (.c (.int .i64 1))], none, []⟩,
 ⟨(some 25), .mv, [(.t 48)], none, []⟩] 0 [4, 7, 23, 24, 25]))))
def l54 : LFun := ⟨2, 50, [],
 (.seq
 (.reg false [2, 4] [2, 4] [
 ⟨(some 2), .box, [(.t 0)], none, []⟩,
 ⟨(some 4), (.alloc [(.sl none 2 []), (.sl none 1 []), (.int .i64 0), (.int .i64 0), (.sl none 2 [])]), [], none, []⟩,
 ⟨(some 5), .mv, [(.c (.int .i64 0))], none, []⟩] 0 [1, 2, 4])
 (.seq
 (.reg false [] [] [
 ⟨(some 10), (.load (some 4)), [(.t 2)], none, []⟩,
 ⟨(some 11), .mv, [(.t 1)], none, []⟩,
 ⟨(some 12), (.build [(.sl none 2 []), (.sl none 1 []), (.int .i64 0), (.int .i64 0), (.sl none 2 [])] [(0, 4), (4, 1)]), [(.t 10), (.t 11)], none, []⟩,
 ⟨none, (.store 5 none), [(.t 4), (.t 12)], none, []⟩] 0 [1, 2, 4])
 (.seq
 (.seq
 (.reg false [] [] [
 ⟨(some 13), (.load (some 4)), [(.t 2)], none, []⟩,
 ⟨(some 14), (.call false false false), [(.f 18), (.t 13)], none, []⟩,
 ⟨(some 6), .mv, [(.t 14)], none, []⟩] 0 [1, 4, 6])
 (.seq
 (.reg false [] [] [
 ⟨(some 15), .mv, [(.t 6)], none, []⟩,
 ⟨(some 16), (.bin 0 .neq), [(.t 15), (.c (.int .i64 0))], none, []⟩] 0 [1, 4, 6, 16])
 (.cond (.t 16)
 (.seq
 (.reg false [] [] [
 ⟨(some 17), (.load (some 5)), [(.t 4)], none, []⟩,
 ⟨(some 18), .mv, [(.t 6)], none, []⟩,
 ⟨none, (.store 5 none), [(.t 4), (.t 17)], none, []⟩,
 ⟨(some 5), .mv, [(.t 18)], none, []⟩] 0 [4, 5])
 .ret)
 .skip)))
 (.seq
 (.seq
 (.reg false [] [] [
 ⟨(some 19), .mv, [(.t 1)], none, []⟩,
 ⟨(some 20), .len, [(.t 19)], none, []⟩,
 ⟨(some 21), (.bin 0 .gtr), [(.t 20), (.c (.int .i64 200))], none, []⟩] 0 [1, 4, 21])
 (.cond (.t 21)
 (.seq
 (.reg false [] [] [
 ⟨(some 22), (.load (some 5)), [(.t 4)], none, []⟩,
 ⟨none, (.store 5 none), [(.t 4), (.t 22)], none, []⟩,
 ⟨(some 5), .mv, [(.c (.int .i64 5))], none, []⟩] 0 [4, 5])
 .ret)
 .skip))
 (.seq
 (.reg false [] [] [
 ⟨(some 7), .mv, [(.c (.int .i64 0))], none, []⟩] 0 [1, 4, 7])
 (.seq
 (.seq
 (.reg false [] [] [
 ⟨(some 23), .mv, [(.t 1)], none, []⟩,
 ⟨(some 24), .len, [(.t 23)], none, []⟩,
 ⟨(some 25), .mv, [(.c (.int .i64 0))], none, []⟩] 0 [4, 7, 23, 24, 25])
 (.block 0
 (.loop b54_0)))
 (.seq
 (.reg false [] [] [
 ⟨(some 49), (.load (some 5)), [(.t 4)], none, []⟩,
 ⟨none, (.store 5 none), [(.t 4), (.t 49)], none, []⟩,
 ⟨(some 5), .mv, [(.c (.int .i64 0))], none, []⟩] 0 [4, 5])
 .ret))))))),
 [(.c 4 (some 5)), (.t 5)]⟩
theorem c54 : funC Try.prog [(0, [1, 2, 4]), (1, [1, 2, 4]), (2, [1, 4, 6]), (3, [1, 4, 6, 16]), (4, [4, 5]), (5, [1, 4, 21]), (6, [4, 5]), (7, [1, 4, 7]), (8, [4, 7, 23, 24, 25]), (9, [4, 7, 23, 24, 25, 26]), (10, [4, 7, 9, 23, 24, 25]), (11, [4, 9, 23, 24, 25, 43]), (12, [4, 5]), (13, [4, 7, 23, 24, 25]), (14, [4, 7, 23, 24, 25]), (15, [4, 5])] Try.f54 = some (unF l54) := by kernel_rfl
/-- (acme/lead.screw).areSteps -/
def l55 : LFun := ⟨2, 9, [],
 (.seq
 (.reg false [2] [2] [
 ⟨(some 2), .box, [(.t 0)], none, []⟩,
 ⟨(some 4), .mv, [(.c (.bool false))], none, []⟩] 0 [1, 2])
 (.seq
 (.reg false [] [] [
 ⟨(some 5), (.load (some 5)), [(.t 2)], none, []⟩,
 ⟨(some 6), (.call false false false), [(.f 77), (.t 5)], none, []⟩,
 ⟨(some 7), .mv, [(.t 1)], none, []⟩,
 ⟨(some 8), (.call false false false), [(.f 53), (.c (.int .i64 0)), (.t 6), (.t 7)], none, []⟩,
 ⟨(some 4), .mv, [(.t 8)], none, []⟩] 0 [4])
 .ret)),
 [(.t 4)]⟩
theorem c55 : funC Try.prog [(0, [1, 2]), (1, [4])] Try.f55 = some (unF l55) := by kernel_rfl
/-- (acme/lead.screw).span -/
def l56 : LFun := ⟨2, 14, [],
 (.seq
 (.reg false [2, 3, 4] [2, 3, 4] [
 ⟨(some 2), .box, [(.t 0)], none, []⟩,
 ⟨(some 3), .box, [(.t 1)], none, []⟩,
 ⟨(some 4), (.alloc [(.int .i64 0), (.int .i64 0)]), [], none, []⟩] 0 [2, 3, 4])
 (.seq
 (.reg false [] [] [
 ⟨(some 5), (.load (some 5)), [(.t 2)], none, [6, 7, 9, 10, 11]⟩,
 ⟨(some 6), (.fa 0), [(.t 3)], none, [5, 9, 10, 11]⟩,
 ⟨(some 7), (.load none), [(.t 6)], none, [5, 9, 10, 11]⟩,
 ⟨(some 8), (.call true false false), [(.f 65), (.t 5), (.t 7)], none, [9, 10, 11]⟩,
 ⟨(some 9), (.load (some 5)), [(.t 2)], none, [5, 6, 7, 8, 10, 11]⟩,
 ⟨(some 10), (.fa 1), [(.t 3)], none, [5, 6, 7, 8, 9]⟩,
 ⟨(some 11), (.load none), [(.t 10)], none, [5, 6, 7, 8, 9]⟩,
 ⟨(some 12), (.call false false false), [(.f 66), (.t 9), (.t 11)], none, []⟩,
 ⟨(some 13), (.build [(.int .i64 0), (.int .i64 0)] [(0, 1), (1, 1)]), [(.t 8), (.t 12)], none, []⟩,
 ⟨none, (.store 2 (some 4)), [(.t 4), (.t 13)], none, []⟩] 0 [4])
 .ret)),
 [(.c 4 (some 2))]⟩
theorem c56 : funC Try.prog [(0, [2, 3, 4]), (1, [4])] Try.f56 = some (unF l56) := by kernel_rfl
/-- (acme/lead.screw).ends -/
def b57_0 : LCode :=
 (.seq
 (.reg true [] [] [
 ⟨(some 23), (.bin 0 .lss), [(.t 22), (.t 21)], none, []⟩] 0 [2, 4, 5, 20, 21, 22, 23])
 (.seq
 (.cond (.t 23)
 .skip
 (.exit 0))
 (.seq
 (.block 1
 (.seq
 (.reg true [7] [7] [
 ⟨(some 24), (.ixs 2), [(.t 20), (.t 22)], none, []⟩,
 ⟨(some 25), (.load (some 2)), [(.t 24)], none, []⟩,
 ⟨(some 7), (.alloc [(.int .i64 0), (.int .i64 0)]), [], none, []⟩,
 ⟨none, (.store 2 none), [(.t 7), (.t 25)], none, []⟩] 0 [2, 4, 5, 7, 20, 21, 22])
 (.seq
 (.reg true [] [] [
 ⟨(some 26), (.fa 1), [(.t 7)], none, []⟩,
 ⟨(some 27), (.load none), [(.t 26)], none, []⟩,
 ⟨(some 28), (.bin 0 .neq), [(.t 27), (.c (.int .i64 0))], none, []⟩] 0 [2, 4, 5, 7, 20, 21, 22, 28])
 (.cond (.t 28)
 (.reg true [] [] [
 ⟨(some 29), (.load (some 2)), [(.t 5)], none, [30, 31, 32, 33, 34, 35, 36, 37, 38]⟩,
 ⟨(some 30), (.fa 0), [(.t 2)], none, [29, 33, 34, 37, 38]⟩,
 ⟨(some 31), (.fa 0), [(.t 30)], none, [29, 33, 34, 37, 38]⟩,
 ⟨(some 32), (.load none), [(.t 31)], none, [29, 33, 34, 37, 38]⟩,
 ⟨(some 33), (.fa 0), [(.t 7)], none, [29, 30, 31, 32, 37, 38]⟩,
 ⟨(some 34), (.load none), [(.t 33)], none, [29, 30, 31, 32, 37, 38]⟩,
 ⟨(some 35), (.ixs 2), [(.t 32), (.t 34)], none, [29, 37, 38]⟩,
 ⟨(some 36), (.load (some 2)), [(.t 35)], none, [29, 37, 38]⟩,
 ⟨(some 37), (.fa 1), [(.t 7)], none, [29, 30, 31, 32, 33, 34, 35, 36]⟩,
 ⟨(some 38), (.load none), [(.t 37)], none, [29, 30, 31, 32, 33, 34, 35, 36]⟩,
 ⟨(some 39), (.call false false false), [(.f 78), (.t 29), (.t 36), (.t 38)], none, []⟩,
 ⟨none, (.store 2 (some 5)), [(.t 5), (.t 39)], none, []⟩] 0 [2, 4, 5, 20, 21, 22])
 .skip))))
 (.reg true [] [] [
 ⟨(some 40), (.bin 0 .add), [(.t 22), (.c (.int .i64 1))], none, []⟩,
 ⟨(some 22), .mv, [(.t 40)], none, []⟩] 0 [2, 4, 5, 20, 21, 22]))))
def l57 : LFun := ⟨2, 42, [],
 (.seq
 (.reg false [2, 3, 4] [2, 3, 4] [
 ⟨(some 2), .box, [(.t 0)], none, []⟩,
 ⟨(some 3), .box, [(.t 1)], none, []⟩,
 ⟨(some 4), (.alloc [(.int .i64 0), (.int .i64 0)]), [], none, []⟩] 0 [2, 3, 4])
 (.seq
 (.reg false [5] [5] [
 ⟨(some 8), (.fa 2), [(.t 3)], none, []⟩,
 ⟨(some 9), (.load none), [(.t 8)], none, []⟩,
 ⟨(some 10), (.fa 2), [(.t 3)], none, []⟩,
 ⟨(some 11), (.load none), [(.t 10)], none, []⟩,
 ⟨(some 12), (.build [(.int .i64 0), (.int .i64 0)] [(0, 1), (1, 1)]), [(.t 9), (.t 11)], none, []⟩,
 ⟨(some 13), (.fa 0), [(.t 2)], none, []⟩,
 ⟨(some 14), (.fa 2), [(.t 13)], none, []⟩,
 ⟨(some 15), (.load (some 2)), [(.t 14)], none, []⟩,
 ⟨(some 16), (.fa 1), [(.t 3)], none, []⟩,
 ⟨(some 17), (.load none), [(.t 16)], none, []⟩,
 ⟨(some 18), (.call false false false), [(.f 78), (.t 12), (.t 15), (.t 17)], none, []⟩,
 ⟨(some 5), (.alloc [(.int .i64 0), (.int .i64 0)]), [], none, []⟩,
 ⟨none, (.store 2 none), [(.t 5), (.t 18)], none, []⟩] 0 [2, 3, 4, 5])
 (.seq
 (.seq
 (.reg false [] [] [
 ⟨(some 19), (.fa 0), [(.t 3)], none, []⟩,
 ⟨(some 20), (.load none), [(.t 19)], none, []⟩,
 ⟨(some 21), .len, [(.t 20)], none, []⟩,
 ⟨(some 22), .mv, [(.c (.int .i64 0))], none, []⟩] 0 [2, 4, 5, 20, 21, 22])
 (.block 0
 (.loop b57_0)))
 (.seq
 (.reg false [] [] [
 ⟨(some 41), (.load (some 2)), [(.t 5)], none, []⟩,
 ⟨none, (.store 2 none), [(.t 4), (.t 41)], none, []⟩] 0 [4])
 .ret)))),
 [(.c 4 (some 2))]⟩
theorem c57 : funC Try.prog [(0, [2, 3, 4]), (1, [2, 3, 4, 5]), (2, [2, 4, 5, 20, 21, 22]), (3, [2, 4, 5, 20, 21, 22, 23]), (4, [2, 4, 5, 7, 20, 21, 22]), (5, [2, 4, 5, 7, 20, 21, 22, 28]), (6, [2, 4, 5, 20, 21, 22]), (7, [2, 4, 5, 20, 21, 22]), (8, [4])] Try.f57 = some (unF l57) := by kernel_rfl
/-- (acme/lead.screw).at -/
def l58 : LFun := ⟨2, 39, [],
 (.seq
 (.reg false [2, 4] [2, 4] [
 ⟨(some 2), .box, [(.t 0)], none, []⟩,
 ⟨(some 4), (.alloc [(.sl none 2 []), (.int .i64 0), (.int .i64 0)]), [], none, []⟩] 0 [1, 2, 4])
 (.seq
 (.reg false [] [] [
 ⟨(some 8), (.load (some 5)), [(.t 2)], none, []⟩,
 ⟨(some 9), (.call false false false), [(.f 79), (.t 8)], none, []⟩,
 ⟨(some 5), .mv, [(.t 9)], none, []⟩] 0 [1, 2, 4, 5])
 (.seq
 (.reg false [] [] [
 ⟨(some 10), .mv, [(.t 1)], none, [11, 13, 14, 15]⟩,
 ⟨(some 11), .mv, [(.t 5)], none, [10, 13, 14, 15]⟩,
 ⟨(some 12), (.bin 0 .quo), [(.t 10), (.t 11)], none, [13, 14, 15]⟩,
 ⟨(some 13), .mv, [(.t 1)], none, [10, 11, 12, 14, 6]⟩,
 ⟨(some 14), .mv, [(.t 5)], none, [10, 11, 12, 13, 6]⟩,
 ⟨(some 15), (.bin 0 .rem), [(.t 13), (.t 14)], none, [10, 11, 12, 6]⟩,
 ⟨(some 6), .mv, [(.t 12)], none, [13, 14, 15]⟩,
 ⟨(some 7), .mv, [(.t 15)], none, []⟩] 0 [1, 2, 4, 5, 6, 7])
 (.seq
 (.reg false [25] [25] [
 ⟨(some 16), .mv, [(.t 6)], none, [17, 18, 19, 21, 22, 23, 24, 26, 27, 28, 29, 30, 31, 32, 33, 34, 35, 36, 37]⟩,
 ⟨(some 17), .mv, [(.t 5)], none, [16, 18, 21, 22, 23, 24, 26, 27, 28, 29, 30, 31, 32, 33, 34, 35, 36, 37]⟩,
 ⟨(some 18), .mv, [(.t 7)], none, [16, 17, 21, 22, 23, 24, 26, 27, 28, 29, 30, 31, 32, 33, 34, 35, 36, 37]⟩,
 ⟨(some 19), (.bin 0 .sub), [(.t 17), (.t 18)], none, [16, 21, 22, 23, 24, 26, 27, 28, 29, 30, 31, 32, 33, 34, 35, 36, 37]⟩,
 ⟨(some 20), (.build [(.int .i64 0), (.int .i64 0)] [(0, 1), (1, 1)]), [(.t 16), (.t 19)], none, [21, 22, 23, 24, 26, 27, 28, 29, 30, 31, 32, 33, 34, 35, 36, 37]⟩,
 ⟨(some 21), .mv, [(.t 6)], none, [16, 17, 18, 19, 20, 23, 26, 27, 28, 29, 30, 31, 32, 33, 34, 35, 36, 37]⟩,
 ⟨(some 22), (.bin 0 .add), [(.t 21), (.c (.int .i64 1))], none, [16, 17, 18, 19, 20, 23, 26, 27, 28, 29, 30, 31, 32, 33, 34, 35, 36, 37]⟩,
 ⟨(some 23), .mv, [(.t 7)], none, [16, 17, 18, 19, 20, 21, 22, 26, 27, 28, 29, 30, 31, 32, 33, 34, 35, 36, 37]⟩,
 ⟨(some 24), (.build [(.int .i64 0), (.int .i64 0)] [(0, 1), (1, 1)]), [(.t 22), (.t 23)], none, [16, 17, 18, 19, 20, 26, 27, 28, 29, 30, 31, 32, 33, 34, 35, 36, 37]⟩,
 ⟨(some 25), (.bsl 2 [(.int .i64 0), (.int .i64 0)] 2 [0, 1]), [(.t 20), (.t 24)], none, [26, 27, 28, 29, 30, 31, 32, 33, 34, 35, 36, 37]⟩,
 ⟨(some 26), .mv, [(.t 5)], none, [16, 17, 18, 19, 20, 21, 22, 23, 24, 25, 27, 28, 29, 30, 31, 32, 33, 34, 35, 36]⟩,
 ⟨(some 27), (.fa 0), [(.t 2)], none, [16, 17, 18, 19, 20, 21, 22, 23, 24, 25, 26, 30, 33, 34, 35]⟩,
 ⟨(some 28), (.fa 1), [(.t 27)], none, [16, 17, 18, 19, 20, 21, 22, 23, 24, 25, 26, 30, 33, 34, 35]⟩,
 ⟨(some 29), (.load none), [(.t 28)], none, [16, 17, 18, 19, 20, 21, 22, 23, 24, 25, 26, 30, 33, 34, 35]⟩,
 ⟨(some 30), .mv, [(.t 7)], none, [16, 17, 18, 19, 20, 21, 22, 23, 24, 25, 26, 27, 28, 29, 33, 34, 35]⟩,
 ⟨(some 31), (.ixs 1), [(.t 29), (.t 30)], none, [16, 17, 18, 19, 20, 21, 22, 23, 24, 25, 26, 33, 34, 35]⟩,
 ⟨(some 32), (.load none), [(.t 31)], none, [16, 17, 18, 19, 20, 21, 22, 23, 24, 25, 26, 33, 34, 35]⟩,
 ⟨(some 33), (.load (some 5)), [(.t 2)], none, [16, 17, 18, 19, 20, 21, 22, 23, 24, 25, 26, 27, 28, 29, 30, 31, 32, 34]⟩,
 ⟨(some 34), .mv, [(.t 1)], none, [16, 17, 18, 19, 20, 21, 22, 23, 24, 25, 26, 27, 28, 29, 30, 31, 32, 33]⟩,
 ⟨(some 35), (.call true false false), [(.f 80), (.t 33), (.t 34)], none, [16, 17, 18, 19, 20, 21, 22, 23, 24, 25, 26, 27, 28, 29, 30, 31, 32]⟩,
 ⟨(some 36), (.bin 0 .add), [(.t 32), (.t 35)], none, [16, 17, 18, 19, 20, 21, 22, 23, 24, 25, 26]⟩,
 ⟨(some 37), (.bin 0 .mul), [(.t 26), (.t 36)], none, [16, 17, 18, 19, 20, 21, 22, 23, 24, 25]⟩,
 ⟨(some 38), (.build [(.sl none 2 []), (.int .i64 0), (.int .i64 0)] [(0, 1), (1, 1), (2, 1)]), [(.t 25), (.c (.int .i64 0)), (.t 37)], none, []⟩,
 ⟨none, (.store 3 (some 4)), [(.t 4), (.t 38)], none, []⟩] 0 [4])
 .ret)))),
 [(.c 4 (some 3))]⟩
theorem c58 : funC Try.prog [(0, [1, 2, 4]), (1, [1, 2, 4, 5]), (2, [1, 2, 4, 5, 6, 7]), (3, [4])] Try.f58 = some (unF l58) := by kernel_rfl
/-- acme/acmeref06.Span -/
def l59 : LFun := ⟨3, 19, [],
 (.seq
 (.reg false [3] [3] [
 ⟨(some 3), .box, [(.t 0)], none, []⟩,
 ⟨(some 6), .mv, [(.c (.bool false))], none, []⟩] 0 [1, 2, 3])
 (.seq
 (.reg false [] [] [
 ⟨(some 7), (.fa 0), [(.t 3)], none, []⟩,
 ⟨(some 8), (.load none), [(.t 7)], none, []⟩,
 ⟨(some 9), .mv, [(.t 1)], none, []⟩,
 ⟨(some 10), (.fa 1), [(.t 3)], none, []⟩,
 ⟨(some 11), (.load none), [(.t 10)], none, []⟩,
 ⟨(some 12), (.call false false false), [(.f 24), (.t 8), (.t 9), (.t 11)], none, []⟩,
 ⟨(some 13), .mv, [(.t 12)], none, []⟩,
 ⟨(some 14), (.fa 1), [(.t 3)], (some (13, true)), []⟩,
 ⟨(some 15), (.load none), [(.t 14)], (some (13, true)), []⟩,
 ⟨(some 16), .mv, [(.t 2)], (some (13, true)), []⟩,
 ⟨(some 17), (.bin 0 .leq), [(.t 15), (.t 16)], (some (13, true)), []⟩,
 ⟨(some 18), .pick, [(.t 13), (.t 17), (.c (.bool false))], none, []⟩,
 ⟨(some 6), .mv, [(.t 18)], none, []⟩] 0 [6])
 .ret)),
 [(.t 6)]⟩
theorem c59 : funC Try.prog [(0, [1, 2, 3]), (1, [6])] Try.f59 = some (unF l59) := by kernel_rfl
/-- acme/acmeref06.Down -/
def l60 : LFun := ⟨2, 17, [],
 (.seq
 (.reg false [] [] [
 ⟨(some 4), .mv, [(.c (.int .i64 0))], none, []⟩] 0 [0, 1])
 (.seq
 (.reg false [] [] [
 ⟨(some 6), .mv, [(.t 0)], none, []⟩,
 ⟨(some 7), .mv, [(.t 1)], none, []⟩,
 ⟨(some 8), (.bin 0 .quo), [(.t 6), (.t 7)], none, []⟩,
 ⟨(some 5), .mv, [(.t 8)], none, []⟩] 0 [0, 1, 5])
 (.seq
 (.seq
 (.reg false [] [] [
 ⟨(some 9), .mv, [(.t 5)], none, []⟩,
 ⟨(some 10), .mv, [(.t 1)], none, []⟩,
 ⟨(some 11), (.bin 0 .mul), [(.t 9), (.t 10)], none, []⟩,
 ⟨(some 12), .mv, [(.t 0)], none, []⟩,
 ⟨(some 13), (.bin 0 .gtr), [(.t 11), (.t 12)], none, []⟩] 0 [5, 13])
 (.cond (.t 13)
 (.reg false [] [] [
 ⟨(some 14), .mv, [(.t 5)], none, []⟩,
 ⟨(some 15), (.bin 0 .sub), [(.t 14), (.c (.int .i64 1))], none, []⟩,
 ⟨(some 5), .mv, [(.t 15)], none, []⟩] 0 [5])
 .skip))
 (.seq
 (.reg false [] [] [
 ⟨(some 16), .mv, [(.t 5)], none, []⟩,
 ⟨(some 4), .mv, [(.t 16)], none, []⟩] 0 [4])
 .ret)))),
 [(.t 4)]⟩
theorem c60 : funC Try.prog [(0, [0, 1]), (1, [0, 1, 5]), (2, [5, 13]), (3, [5]), (4, [4])] Try.f60 = some (unF l60) := by kernel_rfl
/-- acme/acmeref06.Up -/
def l61 : LFun := ⟨2, 17, [],
 (.seq
 (.reg false [] [] [
 ⟨(some 4), .mv, [(.c (.int .i64 0))], none, []⟩] 0 [0, 1])
 (.seq
 (.reg false [] [] [
 ⟨(some 6), .mv, [(.t 0)], none, []⟩,
 ⟨(some 7), .mv, [(.t 1)], none, []⟩,
 ⟨(some 8), (.bin 0 .quo), [(.t 6), (.t 7)], none, []⟩,
 ⟨(some 5), .mv, [(.t 8)], none, []⟩] 0 [0, 1, 5])
 (.seq
 (.seq
 (.reg false [] [] [
 ⟨(some 9), .mv, [(.t 5)], none, []⟩,
 ⟨(some 10), .mv, [(.t 1)], none, []⟩,
 ⟨(some 11), (.bin 0 .mul), [(.t 9), (.t 10)], none, []⟩,
 ⟨(some 12), .mv, [(.t 0)], none, []⟩,
 ⟨(some 13), (.bin 0 .lss), [(.t 11), (.t 12)], none, []⟩] 0 [5, 13])
 (.cond (.t 13)
 (.reg false [] [] [
 ⟨(some 14), .mv, [(.t 5)], none, []⟩,
 ⟨(some 15), (.bin 0 .add), [(.t 14), (.c (.int .i64 1))], none, []⟩,
 ⟨(some 5), .mv, [(.t 15)], none, []⟩] 0 [5])
 .skip))
 (.seq
 (.reg false [] [] [
 ⟨(some 16), .mv, [(.t 5)], none, []⟩,
 ⟨(some 4), .mv, [(.t 16)], none, []⟩] 0 [4])
 .ret)))),
 [(.t 4)]⟩
theorem c61 : funC Try.prog [(0, [0, 1]), (1, [0, 1, 5]), (2, [5, 13]), (3, [5]), (4, [4])] Try.f61 = some (unF l61) := by kernel_rfl
/-- acme/acmeref06.Add -/
def l62 : LFun := ⟨3, 39, [],
 (.seq
 (.reg false [3, 4, 6] [3, 4, 6] [
 ⟨(some 3), .box, [(.t 0)], none, []⟩,
 ⟨(some 4), .box, [(.t 1)], none, []⟩,
 ⟨(some 6), (.alloc [(.int .i64 0), (.int .i64 0)]), [], none, []⟩] 0 [2, 3, 4, 6])
 (.seq
 (.seq
 (.reg false [] [] [
 ⟨(some 7), .mv, [(.t 2)], none, []⟩,
 ⟨(some 8), (.bin 0 .lss), [(.t 7), (.c (.int .i64 0))], none, []⟩] 0 [2, 3, 4, 6, 8])
 (.cond (.t 8)
 (.seq
 (.reg false [] [] [
 ⟨(some 9), (.ixa 2 1), [(.t 3), (.c (.int .i64 0))], none, []⟩,
 ⟨(some 10), (.load none), [(.t 9)], none, []⟩,
 ⟨(some 11), .mv, [(.t 2)], none, []⟩,
 ⟨(some 12), (.fa 1), [(.t 4)], none, []⟩,
 ⟨(some 13), (.load none), [(.t 12)], none, []⟩,
 ⟨(some 14), (.bin 0 .mul), [(.t 11), (.t 13)], none, []⟩,
 ⟨(some 15), (.bin 0 .add), [(.t 10), (.t 14)], none, []⟩,
 ⟨(some 16), (.ixa 2 1), [(.t 3), (.c (.int .i64 1))], none, []⟩,
 ⟨(some 17), (.load none), [(.t 16)], none, []⟩,
 ⟨(some 18), .mv, [(.t 2)], none, []⟩,
 ⟨(some 19), (.fa 0), [(.t 4)], none, []⟩,
 ⟨(some 20), (.load none), [(.t 19)], none, []⟩,
 ⟨(some 21), (.bin 0 .mul), [(.t 18), (.t 20)], none, []⟩,
 ⟨(some 22), (.bin 0 .add), [(.t 17), (.t 21)], none, []⟩,
 ⟨(some 23), (.build [(.int .i64 0), (.int .i64 0)] [(0, 1), (1, 1)]), [(.t 15), (.t 22)], none, []⟩,
 ⟨none, (.store 2 none), [(.t 6), (.t 23)], none, []⟩] 0 [6])
 .ret)
 .skip))
 (.seq
 (.reg false [] [] [
 ⟨(some 24), (.ixa 2 1), [(.t 3), (.c (.int .i64 0))], none, []⟩,
 ⟨(some 25), (.load none), [(.t 24)], none, []⟩,
 ⟨(some 26), .mv, [(.t 2)], none, []⟩,
 ⟨(some 27), (.fa 0), [(.t 4)], none, []⟩,
 ⟨(some 28), (.load none), [(.t 27)], none, []⟩,
 ⟨(some 29), (.bin 0 .mul), [(.t 26), (.t 28)], none, []⟩,
 ⟨(some 30), (.bin 0 .add), [(.t 25), (.t 29)], none, []⟩,
 ⟨(some 31), (.ixa 2 1), [(.t 3), (.c (.int .i64 1))], none, []⟩,
 ⟨(some 32), (.load none), [(.t 31)], none, []⟩,
 ⟨(some 33), .mv, [(.t 2)], none, []⟩,
 ⟨(some 34), (.fa 1), [(.t 4)], none, []⟩,
 ⟨(some 35), (.load none), [(.t 34)], none, []⟩,
 ⟨(some 36), (.bin 0 .mul), [(.t 33), (.t 35)], none, []⟩,
 ⟨(some 37), (.bin 0 .add), [(.t 32), (.t 36)], none, []⟩,
 ⟨(some 38), (.build [(.int .i64 0), (.int .i64 0)] [(0, 1), (1, 1)]), [(.t 30), (.t 37)], none, []⟩,
 ⟨none, (.store 2 none), [(.t 6), (.t 38)], none, []⟩] 0 [6])
 .ret))),
 [(.c 6 (some 2))]⟩
theorem c62 : funC Try.prog [(0, [2, 3, 4, 6]), (1, [2, 3, 4, 6, 8]), (2, [6]), (3, [6])] Try.f62 = some (unF l62) := by kernel_rfl
/-- (acme/lead.screw).errors -/
def l63 : LFun := ⟨2, 6, [],
 (.seq
 (.reg false [2, 3] [2, 3] [
 ⟨(some 2), .box, [(.t 0)], none, []⟩,
 ⟨(some 3), .box, [(.t 1)], none, []⟩,
 ⟨(some 4), .mv, [(.c .dead)], none, []⟩] 0 [2, 3])
 (.seq
 (.reg false [] [] [
 ⟨(some 5), (.mkf 81), [(.t 3), (.t 2)], none, []⟩,
 ⟨(some 4), .mv, [(.t 5)], none, []⟩] 0 [2, 3, 4])
 .ret)),
 [(.t 4)]⟩
theorem c63 : funC Try.prog [(0, [2, 3]), (1, [2, 3, 4])] Try.f63 = some (unF l63) := by kernel_rfl
/-- (acme/lead.value).less -/
def b64_0 : LCode :=
 (.seq
 (.reg true [] [] [
 ⟨(some 18), (.bin 0 .lss), [(.t 17), (.t 16)], none, []⟩] 0 [2, 3, 4, 5, 13, 15, 16, 17, 18])
 (.seq
 (.cond (.t 18)
 .skip
 (.exit 0))
 (.seq
 (.block 1
 (.seq
 (.reg true [7] [7] [
 ⟨(some 19), (.ixs 2), [(.t 15), (.t 17)], none, []⟩,
 ⟨(some 20), (.load (some 2)), [(.t 19)], none, []⟩,
 ⟨(some 7), (.alloc [(.int .i64 0), (.int .i64 0)]), [], none, []⟩,
 ⟨none, (.store 2 none), [(.t 7), (.t 20)], none, []⟩] 0 [2, 3, 4, 5, 7, 13, 15, 16, 17])
 (.reg true [] [] [
 ⟨(some 21), .mv, [(.t 5)], none, []⟩,
 ⟨(some 22), (.fa 0), [(.t 7)], none, []⟩,
 ⟨(some 23), (.load none), [(.t 22)], none, []⟩,
 ⟨none, .bad, [], none, []⟩,
 ⟨(some 25), (.fa 1), [(.t 7)], none, []⟩,
 ⟨(some 26), (.load none), [(.t 25)], none, []⟩,
 ⟨(some 27), (.bin 0 .add), [(.t 24), (.t 26)], none, []⟩,
 ⟨none, .bad, [], none, []⟩] 0 [2, 3, 4, 5, 13, 15, 16, 17])))
 (.reg true [] [] [
 ⟨(some 28), (.bin 0 .add), [(.t 17), (.c (.int .i64 1))], none, []⟩,
 ⟨(some 17), .mv, [(.t 28)], none, []⟩] 0 [2, 3, 4, 5, 13, 15, 16, 17]))))
def b64_1 : LCode :=
 (.seq
 (.reg true [] [] [
 ⟨(some 33), (.bin 0 .lss), [(.t 32), (.t 31)], none, []⟩] 0 [2, 3, 4, 5, 13, 30, 31, 32, 33])
 (.seq
 (.cond (.t 33)
 .skip
 (.exit 2))
 (.seq
 (.block 3
 (.seq
 (.reg true [9] [9] [
 ⟨(some 34), (.ixs 2), [(.t 30), (.t 32)], none, []⟩,
 ⟨(some 35), (.load (some 2)), [(.t 34)], none, []⟩,
 ⟨(some 9), (.alloc [(.int .i64 0), (.int .i64 0)]), [], none, []⟩,
 ⟨none, (.store 2 none), [(.t 9), (.t 35)], none, []⟩] 0 [2, 3, 4, 5, 9, 13, 30, 31, 32])
 (.reg true [] [] [
 ⟨(some 36), .mv, [(.t 5)], none, []⟩,
 ⟨(some 37), (.fa 0), [(.t 9)], none, []⟩,
 ⟨(some 38), (.load none), [(.t 37)], none, []⟩,
 ⟨none, .bad, [], none, []⟩,
 ⟨(some 40), (.fa 1), [(.t 9)], none, []⟩,
 ⟨(some 41), (.load none), [(.t 40)], none, []⟩,
 ⟨(some 42), (.bin 0 .sub), [(.t 39), (.t 41)], none, []⟩,
 ⟨none, .bad, [], none, []⟩] 0 [2, 3, 4, 5, 13, 30, 31, 32])))
 (.reg true [] [] [
 ⟨(some 43), (.bin 0 .add), [(.t 32), (.c (.int .i64 1))], none, []⟩,
 ⟨(some 32), .mv, [(.t 43)], none, []⟩] 0 [2, 3, 4, 5, 13, 30, 31, 32]))))
def b64_2 : LCode :=
 (.seq
 (.reg true [] [] [
 ⟨none, .bad, [], none, []⟩,
 ⟨(some 58), (.ext 0), [(.t 57)], none, []⟩] 0 [4, 10, 13, 56, 58])
 (.seq
 (.cond (.t 58)
 .skip
 (.exit 4))
 (.block 5
 (.seq
 (.reg true [] [] [
 ⟨none, .bad, [], none, []⟩,
 ⟨(some 60), (.ext 0), [(.t 59)], none, []⟩,
 ⟨(some 61), (.ext 1), [(.t 59)], none, []⟩,
 ⟨(some 11), .mv, [(.t 60)], none, []⟩,
 ⟨(some 12), .mv, [(.t 61)], none, []⟩] 0 [4, 10, 11, 12, 13, 56])
 (.reg true [67, 68] [67] [
 ⟨(some 62), (.fa 0), [(.t 10)], none, []⟩,
 ⟨(some 63), (.load none), [(.t 62)], none, []⟩,
 ⟨(some 64), .mv, [(.t 11)], none, []⟩,
 ⟨(some 65), .mv, [(.t 12)], none, []⟩,
 ⟨(some 66), (.build [(.int .i64 0), (.int .i64 0)] [(0, 1), (1, 1)]), [(.t 64), (.t 65)], none, []⟩,
 ⟨(some 67), (.bsl 2 [(.int .i64 0), (.int .i64 0)] 1 [0]), [(.t 66)], none, []⟩,
 ⟨(some 68), (.append false 2 16), [(.t 63), (.t 67)], none, []⟩,
 ⟨(some 69), (.fa 0), [(.t 10)], none, []⟩,
 ⟨none, (.store 1 none), [(.t 69), (.t 68)], none, []⟩] 0 [4, 10, 13, 56])))))
def l64 : LFun := ⟨2, 71, [],
 (.seq
 (.reg false [2, 3, 4] [2, 3, 4] [
 ⟨(some 2), .box, [(.t 0)], none, []⟩,
 ⟨(some 3), .box, [(.t 1)], none, []⟩,
 ⟨(some 4), (.alloc [(.sl none 2 []), (.int .i64 0), (.int .i64 0)]), [], none, []⟩] 0 [2, 3, 4, 13])
 (.seq
 (.reg false [13] [13] [
 ⟨none, .bad, [], none, []⟩,
 ⟨(some 5), .mv, [(.t 13)], none, []⟩] 0 [2, 3, 4, 5, 13])
 (.seq
 (.seq
 (.reg false [] [] [
 ⟨(some 14), (.fa 0), [(.t 2)], none, []⟩,
 ⟨(some 15), (.load none), [(.t 14)], none, []⟩,
 ⟨(some 16), .len, [(.t 15)], none, []⟩,
 ⟨(some 17), .mv, [(.c (.int .i64 0))], none, []⟩] 0 [2, 3, 4, 5, 13, 15, 16, 17])
 (.block 0
 (.loop b64_0)))
 (.seq
 (.seq
 (.reg false [] [] [
 ⟨(some 29), (.fa 0), [(.t 3)], none, []⟩,
 ⟨(some 30), (.load none), [(.t 29)], none, []⟩,
 ⟨(some 31), .len, [(.t 30)], none, []⟩,
 ⟨(some 32), .mv, [(.c (.int .i64 0))], none, []⟩] 0 [2, 3, 4, 5, 13, 30, 31, 32])
 (.block 2
 (.loop b64_1)))
 (.seq
 (.reg false [10] [10] [
 ⟨(some 44), (.fa 1), [(.t 2)], none, []⟩,
 ⟨(some 45), (.load none), [(.t 44)], none, []⟩,
 ⟨(some 46), (.fa 1), [(.t 3)], none, []⟩,
 ⟨(some 47), (.load none), [(.t 46)], none, []⟩,
 ⟨(some 48), (.bin 0 .sub), [(.t 45), (.t 47)], none, []⟩,
 ⟨(some 49), (.fa 2), [(.t 2)], none, []⟩,
 ⟨(some 50), (.load none), [(.t 49)], none, []⟩,
 ⟨(some 51), (.fa 2), [(.t 3)], none, []⟩,
 ⟨(some 52), (.load none), [(.t 51)], none, []⟩,
 ⟨(some 53), (.bin 0 .sub), [(.t 50), (.t 52)], none, []⟩,
 ⟨(some 54), (.build [(.sl (some 2006800) 2 []), (.int .i64 0), (.int .i64 0)] [(0, 1), (1, 1), (2, 1)]), [(.c (.sl (some 2006800) 2 [])), (.t 48), (.t 53)], none, []⟩,
 ⟨(some 10), (.alloc [(.sl (some 2006800) 2 []), (.int .i64 0), (.int .i64 0)]), [], none, []⟩,
 ⟨none, (.store 3 none), [(.t 10), (.t 54)], none, []⟩] 0 [4, 5, 10, 13])
 (.seq
 (.seq
 (.reg false [] [] [
 ⟨(some 55), .mv, [(.t 5)], none, []⟩,
 ⟨none, .bad, [], none, []⟩] 0 [4, 10, 13, 56])
 (.block 4
 (.loop b64_2)))
 (.seq
 (.reg false [] [] [
 ⟨(some 70), (.load (some 3)), [(.t 10)], none, []⟩,
 ⟨none, (.store 3 none), [(.t 4), (.t 70)], none, []⟩] 0 [4, 13])
 .ret))))))),
 [(.c 4 (some 3))]⟩
theorem c64 : funC Try.prog [(0, [2, 3, 4, 13]), (1, [2, 3, 4, 5, 13]), (2, [2, 3, 4, 5, 13, 15, 16, 17]), (3, [2, 3, 4, 5, 13, 15, 16, 17, 18]), (4, [2, 3, 4, 5, 7, 13, 15, 16, 17]), (5, [2, 3, 4, 5, 13, 15, 16, 17]), (6, [2, 3, 4, 5, 13, 15, 16, 17]), (7, [2, 3, 4, 5, 13, 30, 31, 32]), (8, [2, 3, 4, 5, 13, 30, 31, 32, 33]), (9, [2, 3, 4, 5, 9, 13, 30, 31, 32]), (10, [2, 3, 4, 5, 13, 30, 31, 32]), (11, [2, 3, 4, 5, 13, 30, 31, 32]), (12, [4, 5, 10, 13]), (13, [4, 10, 13, 56]), (14, [4, 10, 13, 56, 58]), (15, [4, 10, 11, 12, 13, 56]), (16, [4, 10, 13, 56]), (17, [4, 13])] Try.f64 = some (unF l64) := by kernel_rfl
/-- (acme/lead.screw).down -/
def l65 : LFun := ⟨2, 19, [],
 (.seq
 (.reg false [2] [2] [
 ⟨(some 2), .box, [(.t 0)], none, []⟩,
 ⟨(some 4), .mv, [(.c (.int .i64 0))], none, []⟩] 0 [1, 2])
 (.seq
 (.reg false [] [] [
 ⟨(some 6), (.load (some 5)), [(.t 2)], none, []⟩,
 ⟨(some 7), (.call false false false), [(.f 79), (.t 6)], none, []⟩,
 ⟨(some 5), .mv, [(.t 7)], none, []⟩] 0 [1, 5])
 (.seq
 (.reg false [] [] [
 ⟨(some 8), .mv, [(.t 1)], none, []⟩,
 ⟨(some 9), .mv, [(.t 1)], none, []⟩,
 ⟨(some 10), .mv, [(.t 5)], none, []⟩,
 ⟨(some 11), (.bin 0 .rem), [(.t 9), (.t 10)], none, []⟩,
 ⟨(some 12), .mv, [(.t 5)], none, []⟩,
 ⟨(some 13), (.bin 0 .add), [(.t 11), (.t 12)], none, []⟩,
 ⟨(some 14), .mv, [(.t 5)], none, []⟩,
 ⟨(some 15), (.bin 0 .rem), [(.t 13), (.t 14)], none, []⟩,
 ⟨(some 16), (.bin 0 .sub), [(.t 8), (.t 15)], none, []⟩,
 ⟨(some 17), .mv, [(.t 5)], none, []⟩,
 ⟨(some 18), (.bin 0 .quo), [(.t 16), (.t 17)], none, []⟩,
 ⟨(some 4), .mv, [(.t 18)], none, []⟩] 0 [4])
 .ret))),
 [(.t 4)]⟩
theorem c65 : funC Try.prog [(0, [1, 2]), (1, [1, 5]), (2, [4])] Try.f65 = some (unF l65) := by kernel_rfl
/-- (acme/lead.screw).up -/
def l66 : LFun := ⟨2, 10, [],
 (.seq
 (.reg false [2] [2] [
 ⟨(some 2), .box, [(.t 0)], none, []⟩,
 ⟨(some 4), .mv, [(.c (.int .i64 0))], none, []⟩] 0 [1, 2])
 (.seq
 (.reg false [] [] [
 ⟨(some 5), (.load (some 5)), [(.t 2)], none, []⟩,
 ⟨(some 6), .mv, [(.t 1)], none, []⟩,
 ⟨(some 7), (.un .neg), [(.t 6)], none, []⟩,
 ⟨(some 8), (.call false false false), [(.f 65), (.t 5), (.t 7)], none, []⟩,
 ⟨(some 9), (.un .neg), [(.t 8)], none, []⟩,
 ⟨(some 4), .mv, [(.t 9)], none, []⟩] 0 [4])
 .ret)),
 [(.t 4)]⟩
theorem c66 : funC Try.prog [(0, [1, 2]), (1, [4])] Try.f66 = some (unF l66) := by kernel_rfl
/-- (acme/lead.screw).cut -/
def b67_0 : LCode :=
 (.seq
 (.seq
 (.reg true [] [] [
 ⟨(some 17), .mv, [(.t 6)], none, []⟩,
 ⟨(some 18), (.load (some 5)), [(.t 2)], none, []⟩,
 ⟨(some 19), (.call false false false), [(.f 77), (.t 18)], none, []⟩,
 ⟨(some 20), (.bin 0 .leq), [(.t 17), (.t 19)], none, []⟩] 0 [1, 2, 4, 6, 20])
 (.cond (.t 20)
 .skip
 (.exit 0)))
 (.block 1
 (.seq
 (.reg true [9] [9] [
 ⟨(some 22), (.load (some 5)), [(.t 2)], none, [23, 24, 25, 9]⟩,
 ⟨(some 23), .mv, [(.t 6)], none, [22, 24, 25, 9]⟩,
 ⟨(some 24), .mv, [(.t 1)], none, [22, 23, 25, 9]⟩,
 ⟨(some 25), (.call true false false), [(.f 84)], none, [22, 23, 24, 9]⟩,
 ⟨(some 26), (.call false false false), [(.f 83), (.t 22), (.t 23), (.t 24), (.t 25)], none, [9]⟩,
 ⟨(some 21), .mv, [(.t 26)], none, [9]⟩,
 ⟨(some 27), (.ext 0), [(.t 21)], none, [28, 9]⟩,
 ⟨(some 28), (.ext 1), [(.t 21)], none, [27, 9, 8]⟩,
 ⟨(some 9), (.alloc [(.int .i64 0), (.int .i64 0)]), [], none, [22, 23, 24, 25, 26, 21, 27, 28]⟩,
 ⟨(some 8), .mv, [(.t 27)], none, [28]⟩,
 ⟨none, (.store 2 (some 9)), [(.t 9), (.t 28)], none, []⟩] 0 [1, 2, 4, 6, 8, 9])
 (.seq
 (.seq
 (.reg true [] [] [
 ⟨(some 29), .mv, [(.t 8)], none, []⟩,
 ⟨(some 30), .mv, [(.t 6)], none, []⟩,
 ⟨(some 31), (.bin 0 .eql), [(.t 29), (.t 30)], none, []⟩,
 ⟨(some 32), .mv, [(.t 31)], none, []⟩,
 ⟨(some 33), .mv, [(.t 4)], (some (32, false)), []⟩,
 ⟨(some 34), .len, [(.t 33)], (some (32, false)), []⟩,
 ⟨(some 35), (.bin 0 .eql), [(.t 34), (.c (.int .i64 200))], (some (32, false)), []⟩,
 ⟨(some 36), .pick, [(.t 32), (.c (.bool true)), (.t 35)], none, []⟩] 0 [1, 2, 4, 6, 8, 9, 36])
 (.cond (.t 36)
 (.seq
 (.reg true [] [] [
 ⟨(some 4), .mv, [(.c (.sl (some 2004700) 2 []))], none, []⟩,
 ⟨(some 5), .mv, [(.c (.bool false))], none, []⟩] 0 [4, 5])
 .ret)
 .skip))
 (.seq
 (.reg true [46, 47] [46] [
 ⟨(some 37), .mv, [(.t 4)], none, []⟩,
 ⟨(some 38), .mv, [(.t 6)], none, []⟩,
 ⟨(some 39), (.fa 0), [(.t 9)], none, []⟩,
 ⟨(some 40), (.load none), [(.t 39)], none, []⟩,
 ⟨(some 41), (.fa 1), [(.t 9)], none, []⟩,
 ⟨(some 42), (.load none), [(.t 41)], none, []⟩,
 ⟨(some 43), .min, [(.t 42), (.c (.int .i64 0))], none, []⟩,
 ⟨(some 44), .max, [(.t 40), (.t 43)], none, []⟩,
 ⟨(some 45), (.build [(.int .i64 0), (.int .i64 0)] [(0, 1), (1, 1)]), [(.t 38), (.t 44)], none, []⟩,
 ⟨(some 46), (.bsl 2 [(.int .i64 0), (.int .i64 0)] 1 [0]), [(.t 45)], none, []⟩,
 ⟨(some 47), (.append false 2 16), [(.t 37), (.t 46)], none, []⟩,
 ⟨(some 4), .mv, [(.t 47)], none, []⟩] 0 [1, 2, 4, 8])
 (.reg true [] [] [
 ⟨(some 48), .mv, [(.t 8)], none, []⟩,
 ⟨(some 6), .mv, [(.t 48)], none, []⟩] 0 [1, 2, 4, 6]))))))
def l67 : LFun := ⟨2, 50, [],
 (.seq
 (.reg false [2] [2] [
 ⟨(some 2), .box, [(.t 0)], none, []⟩,
 ⟨(some 4), .mv, [(.c (.sl (some 2004700) 2 []))], none, []⟩,
 ⟨(some 5), .mv, [(.c (.bool false))], none, []⟩] 0 [1, 2, 4])
 (.seq
 (.reg false [7] [7] [
 ⟨(some 11), (.load (some 5)), [(.t 2)], none, []⟩,
 ⟨(some 12), .mv, [(.t 1)], none, []⟩,
 ⟨(some 13), (.build [(.int .i64 0), (.int .i64 0)] []), [], none, []⟩,
 ⟨(some 14), (.call false false false), [(.f 83), (.t 11), (.c (.int .i64 0)), (.t 12), (.t 13)], none, []⟩,
 ⟨(some 10), .mv, [(.t 14)], none, []⟩,
 ⟨(some 15), (.ext 0), [(.t 10)], none, []⟩,
 ⟨(some 16), (.ext 1), [(.t 10)], none, []⟩,
 ⟨(some 7), (.alloc [(.int .i64 0), (.int .i64 0)]), [], none, []⟩,
 ⟨(some 6), .mv, [(.t 15)], none, []⟩,
 ⟨none, (.store 2 none), [(.t 7), (.t 16)], none, []⟩] 0 [1, 2, 4, 6])
 (.seq
 (.block 0
 (.loop b67_0))
 (.seq
 (.reg false [] [] [
 ⟨(some 49), .mv, [(.t 4)], none, []⟩,
 ⟨(some 4), .mv, [(.t 49)], none, []⟩,
 ⟨(some 5), .mv, [(.c (.bool true))], none, []⟩] 0 [4, 5])
 .ret)))),
 [(.t 4), (.t 5)]⟩
theorem c67 : funC Try.prog [(0, [1, 2, 4]), (1, [1, 2, 4, 6]), (2, [1, 2, 4, 6, 20]), (3, [1, 2, 4, 6, 8, 9]), (4, [1, 2, 4, 6, 8, 9, 36]), (5, [4, 5]), (6, [1, 2, 4, 8]), (7, [1, 2, 4, 6]), (8, [4, 5])] Try.f67 = some (unF l67) := by kernel_rfl
/-- sort.Search -/
def b70_0 : LCode :=
 (.seq
 (.seq
 (.reg true [] [] [
 ⟨(some 9), .mv, [(.t 5)], none, []⟩,
 ⟨(some 10), .mv, [(.t 6)], none, []⟩,
 ⟨(some 11), (.bin 0 .lss), [(.t 9), (.t 10)], none, []⟩] 0 [1, 5, 6, 11])
 (.cond (.t 11)
 .skip
 (.exit 0)))
 (.block 1
 (.seq
 (.reg true [] [] [
 ⟨(some 12), .mv, [(.t 5)], none, []⟩,
 ⟨(some 13), .mv, [(.t 6)], none, []⟩,
 ⟨(some 14), (.bin 0 .add), [(.t 12), (.t 13)], none, []⟩,
 ⟨(some 15), (.conv .u64), [(.t 14)], none, []⟩,
 ⟨(some 16), (.bin 0 .shr), [(.t 15), (.c (.int .u64 1))], none, []⟩,
 ⟨(some 17), (.conv .i64), [(.t 16)], none, []⟩,
 ⟨(some 7), .mv, [(.t 17)], none, []⟩] 0 [1, 5, 6, 7])
 (.seq
 (.reg true [] [] [
 ⟨(some 18), .mv, [(.t 1)], none, []⟩,
 ⟨(some 19), .mv, [(.t 7)], none, []⟩,
 ⟨(some 20), (.call false false false), [(.t 18), (.t 19)], none, []⟩,
 ⟨(some 21), (.un .not), [(.t 20)], none, []⟩] 0 [1, 5, 6, 7, 21])
 (.cond (.t 21)
 (.reg true [] [] [
 ⟨(some 22), .mv, [(.t 7)], none, []⟩,
 ⟨(some 23), (.bin 0 .add), [(.t 22), (.c (.int .i64 1))], none, []⟩,
 ⟨(some 5), .mv, [(.t 23)], none, []⟩] 0 [1, 5, 6])
 (.reg true [] [] [
 ⟨(some 24), .mv, [(.t 7)], none, []⟩,
 ⟨(some 6), .mv, [(.t 24)], none, []⟩] 0 [1, 5, 6]))))))
def l70 : LFun := ⟨2, 26, [],
 (.seq
 (.reg false [] [] [
 ⟨(some 4), .mv, [(.c (.int .i64 0))], none, []⟩] 0 [0, 1])
 (.seq
 (.reg false [] [] [
 ⟨(some 8), .mv, [(.t 0)], none, []⟩,
 ⟨(some 5), .mv, [(.c (.int .i64 0))], none, []⟩,
 ⟨(some 6), .mv, [(.t 8)], none, []⟩] 0 [1, 5, 6])
 (.seq
 (.block 0
 (.loop b70_0))
 (.seq
 (.reg false [] [] [
 ⟨(some 25), .mv, [(.t 5)], none, []⟩,
 ⟨(some 4), .mv, [(.t 25)], none, []⟩] 0 [4])
 .ret)))),
 [(.t 4)]⟩
theorem c70 : funC Try.prog [(0, [0, 1]), (1, [1, 5, 6]), (2, [1, 5, 6, 11]), (3, [1, 5, 6, 7]), (4, [1, 5, 6, 7, 21]), (5, [1, 5, 6]), (6, [1, 5, 6]), (7, [4])] Try.f70 = some (unF l70) := by kernel_rfl
/-- acme/lead.Least$1 -/
def l71 : LFun := ⟨3, 20, [],
 (.seq
 (.reg false [] [] [
 ⟨(some 4), .mv, [(.c (.bool false))], none, []⟩] 0 [0, 1, 2])
 (.seq
 (.reg false [10] [10] [
 ⟨(some 8), (.load (some 5)), [(.t 1)], none, []⟩,
 ⟨(some 9), .mv, [(.t 0)], none, []⟩,
 ⟨(some 10), (.call false false true), [(.f 67), (.t 8), (.t 9)], none, []⟩,
 ⟨(some 7), .mv, [(.t 10)], none, []⟩,
 ⟨(some 11), (.ext 0), [(.t 7)], none, []⟩,
 ⟨(some 12), (.ext 1), [(.t 7)], none, []⟩,
 ⟨(some 5), .mv, [(.t 11)], none, []⟩,
 ⟨(some 6), .mv, [(.t 12)], none, []⟩] 0 [2, 5, 6])
 (.seq
 (.reg false [] [] [
 ⟨(some 13), .mv, [(.t 6)], none, []⟩,
 ⟨(some 14), .mv, [(.t 13)], none, []⟩,
 ⟨(some 15), .mv, [(.t 5)], (some (14, true)), []⟩,
 ⟨(some 16), .len, [(.t 15)], (some (14, true)), []⟩,
 ⟨(some 17), (.load none), [(.t 2)], (some (14, true)), []⟩,
 ⟨(some 18), (.bin 0 .leq), [(.t 16), (.t 17)], (some (14, true)), []⟩,
 ⟨(some 19), .pick, [(.t 14), (.t 18), (.c (.bool false))], none, []⟩,
 ⟨(some 4), .mv, [(.t 19)], none, []⟩] 0 [4])
 .ret))),
 [(.t 4)]⟩
theorem c71 : funC Try.prog [(0, [0, 1, 2]), (1, [2, 5, 6]), (2, [4])] Try.f71 = some (unF l71) := by kernel_rfl
/-- slices.Chunk[[]int,int] -/
def l72 : LFun := ⟨2, 9, [],
 (.seq
 (.reg false [2, 3] [2, 3] [
 ⟨(some 2), .box, [(.t 0)], none, []⟩,
 ⟨(some 3), .box, [(.t 1)], none, []⟩,
 ⟨(some 4), .mv, [(.c .dead)], none, []⟩] 0 [2, 3])
 (.seq
 (.seq
 (.reg false [] [] [
 ⟨(some 5), (.load none), [(.t 3)], none, []⟩,
 ⟨(some 6), (.bin 0 .lss), [(.t 5), (.c (.int .i64 1))], none, []⟩] 0 [2, 3, 6])
 (.cond (.t 6)
 (.reg false [] [] [
 ⟨none, .bad, [], none, []⟩,
 ⟨none, .bad, [], none, []⟩] 0 [2, 3])
 .skip))
 (.seq
 (.reg false [] [] [
 ⟨(some 8), (.mkf 85), [(.t 2), (.t 3)], none, []⟩,
 ⟨(some 4), .mv, [(.t 8)], none, []⟩] 0 [2, 3, 4])
 .ret))),
 [(.t 4)]⟩
theorem c72 : funC Try.prog [(0, [2, 3]), (1, [2, 3, 6]), (2, [2, 3]), (3, [2, 3, 4])] Try.f72 = some (unF l72) := by kernel_rfl
/-- slices.IndexFunc[[]acme/api.Span,acme/api.Span] -/
def b74_0 : LCode :=
 (.seq
 (.reg true [] [] [
 ⟨(some 9), (.bin 0 .lss), [(.t 8), (.t 7)], none, []⟩] 0 [0, 1, 7, 8, 9])
 (.seq
 (.cond (.t 9)
 .skip
 (.exit 0))
 (.seq
 (.block 1
 (.seq
 (.reg true [] [] [
 ⟨(some 10), .mv, [(.t 8)], none, []⟩,
 ⟨(some 5), .mv, [(.t 10)], none, []⟩] 0 [0, 1, 5, 7, 8])
 (.seq
 (.reg true [] [] [
 ⟨(some 11), .mv, [(.t 1)], none, []⟩,
 ⟨(some 12), .mv, [(.t 0)], none, []⟩,
 ⟨(some 13), .mv, [(.t 5)], none, []⟩,
 ⟨(some 14), (.ixs 2), [(.t 12), (.t 13)], none, []⟩,
 ⟨(some 15), (.load (some 2)), [(.t 14)], none, []⟩,
 ⟨(some 16), (.call false false false), [(.t 11), (.t 15)], none, []⟩] 0 [0, 1, 5, 7, 8, 16])
 (.cond (.t 16)
 (.seq
 (.reg true [] [] [
 ⟨(some 17), .mv, [(.t 5)], none, []⟩,
 ⟨(some 4), .mv, [(.t 17)], none, []⟩] 0 [4])
 .ret)
 .skip))))
 (.reg true [] [] [
 ⟨(some 18), (.bin 0 .add), [(.t 8), (.c (.int .i64 1))], none, []⟩,
 ⟨(some 8), .mv, [(.t 18)], none, []⟩] 0 [0, 1, 7, 8]))))
def l74 : LFun := ⟨2, 19, [],
 (.seq
 (.reg false [] [] [
 ⟨(some 4), .mv, [(.c (.int .i64 0))], none, []⟩] 0 [0, 1])
 (.seq
 (.seq
 (.reg false [] [] [
 ⟨(some 6), .mv, [(.t 0)], none, []⟩,
 ⟨(some 7), .len, [(.t 6)], none, []⟩,
 ⟨(some 8), .mv, [(.c (.int .i64 0))], none, []⟩] 0 [0, 1, 7, 8])
 (.block 0
 (.loop b74_0)))
 (.seq
 (.reg false [] [] [
 ⟨(some 4), .mv, [(.c (.int .i64 (-1)))], none, []⟩] 0 [4])
 .ret))),
 [(.t 4)]⟩
theorem c74 : funC Try.prog [(0, [0, 1]), (1, [0, 1, 7, 8]), (2, [0, 1, 7, 8, 9]), (3, [0, 1, 5, 7, 8]), (4, [0, 1, 5, 7, 8, 16]), (5, [4]), (6, [0, 1, 7, 8]), (7, [4])] Try.f74 = some (unF l74) := by kernel_rfl
/-- slices.ContainsFunc[[]int,int] -/
def l75 : LFun := ⟨2, 9, [],
 (.seq
 (.reg false [] [] [
 ⟨(some 4), .mv, [(.c (.bool false))], none, []⟩] 0 [0, 1])
 (.seq
 (.reg false [] [] [
 ⟨(some 5), .mv, [(.t 0)], none, []⟩,
 ⟨(some 6), .mv, [(.t 1)], none, []⟩,
 ⟨(some 7), (.call false false false), [(.f 86), (.t 5), (.t 6)], none, []⟩,
 ⟨(some 8), (.bin 0 .geq), [(.t 7), (.c (.int .i64 0))], none, []⟩,
 ⟨(some 4), .mv, [(.t 8)], none, []⟩] 0 [4])
 .ret)),
 [(.t 4)]⟩
theorem c75 : funC Try.prog [(0, [0, 1]), (1, [4])] Try.f75 = some (unF l75) := by kernel_rfl
/-- acme/lead.within$1 -/
def l76 : LFun := ⟨3, 13, [],
 (.seq
 (.reg false [] [] [
 ⟨(some 4), .mv, [(.c (.bool false))], none, []⟩] 0 [0, 1, 2])
 (.seq
 (.reg false [] [] [
 ⟨(some 5), .mv, [(.t 0)], none, []⟩,
 ⟨(some 6), (.load none), [(.t 1)], none, []⟩,
 ⟨(some 7), (.bin 0 .lss), [(.t 5), (.t 6)], none, []⟩,
 ⟨(some 8), .mv, [(.t 7)], none, []⟩,
 ⟨(some 9), .mv, [(.t 0)], (some (8, false)), []⟩,
 ⟨(some 10), (.load none), [(.t 2)], (some (8, false)), []⟩,
 ⟨(some 11), (.bin 0 .gtr), [(.t 9), (.t 10)], (some (8, false)), []⟩,
 ⟨(some 12), .pick, [(.t 8), (.c (.bool true)), (.t 11)], none, []⟩,
 ⟨(some 4), .mv, [(.t 12)], none, []⟩] 0 [4])
 .ret)),
 [(.t 4)]⟩
theorem c76 : funC Try.prog [(0, [0, 1, 2]), (1, [4])] Try.f76 = some (unF l76) := by kernel_rfl
/-- (acme/lead.screw).last -/
def l77 : LFun := ⟨1, 11, [],
 (.seq
 (.reg false [1] [1] [
 ⟨(some 1), .box, [(.t 0)], none, []⟩,
 ⟨(some 2), .mv, [(.c (.int .i64 0))], none, []⟩] 0 [1])
 (.seq
 (.reg false [] [] [
 ⟨(some 3), (.fa 0), [(.t 1)], none, [8, 9]⟩,
 ⟨(some 4), (.fa 0), [(.t 3)], none, [8, 9]⟩,
 ⟨(some 5), (.load none), [(.t 4)], none, [8, 9]⟩,
 ⟨(some 6), .len, [(.t 5)], none, [8, 9]⟩,
 ⟨(some 7), (.bin 0 .sub), [(.t 6), (.c (.int .i64 1))], none, [8, 9]⟩,
 ⟨(some 8), (.load (some 5)), [(.t 1)], none, [3, 4, 5, 6, 7]⟩,
 ⟨(some 9), (.call true false false), [(.f 79), (.t 8)], none, [3, 4, 5, 6, 7]⟩,
 ⟨(some 10), (.bin 0 .mul), [(.t 7), (.t 9)], none, []⟩,
 ⟨(some 2), .mv, [(.t 10)], none, []⟩] 0 [2])
 .ret)),
 [(.t 2)]⟩
theorem c77 : funC Try.prog [(0, [1]), (1, [2])] Try.f77 = some (unF l77) := by kernel_rfl
/-- (acme/lead.ends).plus -/
def l78 : LFun := ⟨3, 30, [],
 (.seq
 (.reg false [3, 4, 6] [3, 4, 6] [
 ⟨(some 3), .box, [(.t 0)], none, []⟩,
 ⟨(some 4), .box, [(.t 1)], none, []⟩,
 ⟨(some 6), (.alloc [(.int .i64 0), (.int .i64 0)]), [], none, []⟩] 0 [2, 3, 4, 6])
 (.seq
 (.reg false [] [] [
 ⟨(some 9), (.fa 0), [(.t 4)], none, [11, 13, 14, 15, 16]⟩,
 ⟨(some 10), (.load none), [(.t 9)], none, [11, 13, 14, 15, 16]⟩,
 ⟨(some 11), .mv, [(.t 2)], none, [9, 10, 13, 14, 15, 16]⟩,
 ⟨(some 12), (.bin 0 .mul), [(.t 10), (.t 11)], none, [13, 14, 15, 16]⟩,
 ⟨(some 13), (.fa 1), [(.t 4)], none, [9, 10, 11, 12, 15, 7]⟩,
 ⟨(some 14), (.load none), [(.t 13)], none, [9, 10, 11, 12, 15, 7]⟩,
 ⟨(some 15), .mv, [(.t 2)], none, [9, 10, 11, 12, 13, 14, 7]⟩,
 ⟨(some 16), (.bin 0 .mul), [(.t 14), (.t 15)], none, [9, 10, 11, 12, 7]⟩,
 ⟨(some 7), .mv, [(.t 12)], none, [13, 14, 15, 16]⟩,
 ⟨(some 8), .mv, [(.t 16)], none, []⟩] 0 [3, 6, 7, 8])
 (.seq
 (.reg false [] [] [
 ⟨(some 17), (.fa 0), [(.t 3)], none, []⟩,
 ⟨(some 18), (.load none), [(.t 17)], none, []⟩,
 ⟨(some 19), .mv, [(.t 7)], none, []⟩,
 ⟨(some 20), .mv, [(.t 8)], none, []⟩,
 ⟨(some 21), .min, [(.t 19), (.t 20)], none, []⟩,
 ⟨(some 22), (.bin 0 .add), [(.t 18), (.t 21)], none, []⟩,
 ⟨(some 23), (.fa 1), [(.t 3)], none, []⟩,
 ⟨(some 24), (.load none), [(.t 23)], none, []⟩,
 ⟨(some 25), .mv, [(.t 7)], none, []⟩,
 ⟨(some 26), .mv, [(.t 8)], none, []⟩,
 ⟨(some 27), .max, [(.t 25), (.t 26)], none, []⟩,
 ⟨(some 28), (.bin 0 .add), [(.t 24), (.t 27)], none, []⟩,
 ⟨(some 29), (.build [(.int .i64 0), (.int .i64 0)] [(0, 1), (1, 1)]), [(.t 22), (.t 28)], none, []⟩,
 ⟨none, (.store 2 none), [(.t 6), (.t 29)], none, []⟩] 0 [6])
 .ret))),
 [(.c 6 (some 2))]⟩
theorem c78 : funC Try.prog [(0, [2, 3, 4, 6]), (1, [3, 6, 7, 8]), (2, [6])] Try.f78 = some (unF l78) := by kernel_rfl
/-- (acme/lead.screw).angles -/
def l79 : LFun := ⟨1, 7, [],
 (.seq
 (.reg false [1] [1] [
 ⟨(some 1), .box, [(.t 0)], none, []⟩,
 ⟨(some 2), .mv, [(.c (.int .i64 0))], none, []⟩] 0 [1])
 (.seq
 (.reg false [] [] [
 ⟨(some 3), (.fa 0), [(.t 1)], none, []⟩,
 ⟨(some 4), (.fa 1), [(.t 3)], none, []⟩,
 ⟨(some 5), (.load none), [(.t 4)], none, []⟩,
 ⟨(some 6), .len, [(.t 5)], none, []⟩,
 ⟨(some 2), .mv, [(.t 6)], none, []⟩] 0 [2])
 .ret)),
 [(.t 2)]⟩
theorem c79 : funC Try.prog [(0, [1]), (1, [2])] Try.f79 = some (unF l79) := by kernel_rfl
/-- (acme/lead.screw).add -/
def l80 : LFun := ⟨2, 32, [],
 (.seq
 (.reg false [2] [2] [
 ⟨(some 2), .box, [(.t 0)], none, []⟩,
 ⟨(some 4), .mv, [(.c (.int .i64 0))], none, []⟩] 0 [1, 2])
 (.seq
 (.reg false [] [] [
 ⟨(some 8), (.fa 4), [(.t 2)], none, []⟩,
 ⟨(some 9), (.load none), [(.t 8)], none, []⟩,
 ⟨(some 10), .mv, [(.t 1)], none, []⟩,
 ⟨(some 11), (.call false false false), [(.f 87), (.t 9), (.t 10), (.f 88)], none, []⟩,
 ⟨(some 7), .mv, [(.t 11)], none, []⟩,
 ⟨(some 12), (.ext 0), [(.t 7)], none, []⟩,
 ⟨(some 13), (.ext 1), [(.t 7)], none, []⟩,
 ⟨(some 5), .mv, [(.t 12)], none, []⟩,
 ⟨(some 6), .mv, [(.t 13)], none, []⟩] 0 [2, 5, 6])
 (.seq
 (.block 0
 (.seq
 (.reg false [] [] [
 ⟨(some 15), .mv, [(.t 6)], none, []⟩,
 ⟨(some 14), .mv, [(.t 15)], none, []⟩] 0 [2, 5, 14])
 (.cond (.t 14)
 (.seq
 (.reg false [] [] [
 ⟨(some 16), (.fa 4), [(.t 2)], none, []⟩,
 ⟨(some 17), (.load none), [(.t 16)], none, []⟩,
 ⟨(some 18), .mv, [(.t 5)], none, []⟩,
 ⟨(some 19), (.ixs 2), [(.t 17), (.t 18)], none, []⟩,
 ⟨(some 20), (.fa 1), [(.t 19)], none, []⟩,
 ⟨(some 21), (.load none), [(.t 20)], none, []⟩,
 ⟨(some 4), .mv, [(.t 21)], none, []⟩] 0 [4])
 .ret)
 (.seq
 (.reg false [] [] [
 ⟨(some 23), .mv, [(.t 5)], none, []⟩,
 ⟨(some 24), (.bin 0 .eql), [(.t 23), (.c (.int .i64 0))], none, []⟩,
 ⟨(some 22), .mv, [(.t 24)], none, []⟩] 0 [2, 5, 22])
 (.cond (.t 22)
 (.seq
 (.reg false [] [] [
 ⟨(some 4), .mv, [(.c (.int .i64 0))], none, []⟩] 0 [4])
 .ret)
 .skip)))))
 (.seq
 (.reg false [] [] [
 ⟨(some 25), (.fa 4), [(.t 2)], none, []⟩,
 ⟨(some 26), (.load none), [(.t 25)], none, []⟩,
 ⟨(some 27), .mv, [(.t 5)], none, []⟩,
 ⟨(some 28), (.bin 0 .sub), [(.t 27), (.c (.int .i64 1))], none, []⟩,
 ⟨(some 29), (.ixs 2), [(.t 26), (.t 28)], none, []⟩,
 ⟨(some 30), (.fa 1), [(.t 29)], none, []⟩,
 ⟨(some 31), (.load none), [(.t 30)], none, []⟩,
 ⟨(some 4), .mv, [(.t 31)], none, []⟩] 0 [4])
 .ret)))),
 [(.t 4)]⟩
theorem c80 : funC Try.prog [(0, [1, 2]), (1, [2, 5, 6]), (2, [2, 5, 14]), (3, [4]), (4, [2, 5, 22]), (5, [4]), (6, [4])] Try.f80 = some (unF l80) := by kernel_rfl
/-- (acme/lead.screw).errors$1 -/
def b81_0 : LCode :=
 (.seq
 (.reg true [] [] [
 ⟨(some 11), (.bin 0 .lss), [(.t 10), (.t 9)], none, []⟩] 0 [0, 1, 2, 4, 8, 9, 10, 11])
 (.seq
 (.cond (.t 11)
 .skip
 (.exit 0))
 (.seq
 (.block 1
 (.seq
 (.reg true [] [] [
 ⟨(some 12), .mv, [(.t 10)], none, []⟩,
 ⟨(some 13), (.ixs 1), [(.t 8), (.t 10)], none, []⟩,
 ⟨(some 14), (.load none), [(.t 13)], none, []⟩,
 ⟨(some 5), .mv, [(.t 12)], none, []⟩,
 ⟨(some 6), .mv, [(.t 14)], none, []⟩] 0 [0, 1, 2, 4, 5, 6, 8, 9, 10])
 (.seq
 (.seq
 (.reg true [] [] [
 ⟨(some 15), .mv, [(.t 5)], none, []⟩,
 ⟨(some 16), (.bin 0 .gtr), [(.t 15), (.c (.int .i64 0))], none, []⟩,
 ⟨(some 17), .mv, [(.t 16)], none, []⟩,
 ⟨(some 18), .mv, [(.t 6)], (some (17, true)), []⟩,
 ⟨(some 19), (.load none), [(.t 1)], (some (17, true)), []⟩,
 ⟨(some 20), .mv, [(.t 5)], (some (17, true)), []⟩,
 ⟨(some 21), (.bin 0 .sub), [(.t 20), (.c (.int .i64 1))], (some (17, true)), []⟩,
 ⟨(some 22), (.ixs 1), [(.t 19), (.t 21)], (some (17, true)), []⟩,
 ⟨(some 23), (.load none), [(.t 22)], (some (17, true)), []⟩,
 ⟨(some 24), (.bin 0 .neq), [(.t 18), (.t 23)], (some (17, true)), []⟩,
 ⟨(some 25), .pick, [(.t 17), (.t 24), (.c (.bool false))], none, []⟩] 0 [0, 1, 2, 4, 5, 6, 8, 9, 10, 25])
 (.cond (.t 25)
 (.reg true [] [] [
 ⟨(some 26), .mv, [(.t 6)], none, []⟩,
 ⟨(some 27), (.load none), [(.t 1)], none, []⟩,
 ⟨(some 28), .mv, [(.t 5)], none, []⟩,
 ⟨(some 29), (.bin 0 .sub), [(.t 28), (.c (.int .i64 1))], none, []⟩,
 ⟨(some 30), (.ixs 1), [(.t 27), (.t 29)], none, []⟩,
 ⟨(some 31), (.load none), [(.t 30)], none, []⟩,
 ⟨(some 32), (.bin 0 .lss), [(.t 26), (.t 31)], none, []⟩,
 ⟨(some 4), .mv, [(.t 32)], none, []⟩] 0 [0, 1, 2, 4, 5, 6, 8, 9, 10])
 .skip))
 (.seq
 (.reg true [35, 7] [35, 7] [
 ⟨(some 33), (.load (some 5)), [(.t 2)], none, []⟩,
 ⟨(some 34), .mv, [(.t 6)], none, []⟩,
 ⟨(some 35), (.call false false true), [(.f 58), (.t 33), (.t 34)], none, []⟩,
 ⟨(some 7), (.alloc [(.sl none 2 []), (.int .i64 0), (.int .i64 0)]), [], none, []⟩,
 ⟨none, (.store 3 none), [(.t 7), (.t 35)], none, []⟩] 0 [0, 1, 2, 4, 5, 7, 8, 9, 10])
 (.seq
 (.seq
 (.reg true [] [] [
 ⟨(some 36), .mv, [(.t 4)], none, []⟩] 0 [0, 1, 2, 4, 5, 7, 8, 9, 10, 36])
 (.cond (.t 36)
 (.reg true [39] [39] [
 ⟨(some 37), (.load (some 5)), [(.t 2)], none, []⟩,
 ⟨(some 38), (.load (some 3)), [(.t 7)], none, []⟩,
 ⟨(some 39), (.call false false true), [(.f 82), (.t 37), (.t 38)], none, []⟩,
 ⟨none, (.store 3 none), [(.t 7), (.t 39)], none, []⟩] 0 [0, 1, 2, 4, 5, 7, 8, 9, 10])
 .skip))
 (.seq
 (.reg true [] [] [
 ⟨(some 40), .mv, [(.t 0)], none, []⟩,
 ⟨(some 41), .mv, [(.t 5)], none, []⟩,
 ⟨(some 42), (.load (some 3)), [(.t 7)], none, []⟩,
 ⟨(some 43), (.call false false false), [(.t 40), (.t 41), (.t 42)], none, []⟩,
 ⟨(some 44), (.un .not), [(.t 43)], none, []⟩] 0 [0, 1, 2, 4, 8, 9, 10, 44])
 (.cond (.t 44)
 .ret
 .skip)))))))
 (.reg true [] [] [
 ⟨(some 45), (.bin 0 .add), [(.t 10), (.c (.int .i64 1))], none, []⟩,
 ⟨(some 10), .mv, [(.t 45)], none, []⟩] 0 [0, 1, 2, 4, 8, 9, 10]))))
def l81 : LFun := ⟨3, 46, [],
 (.seq
 (.reg false [] [] [
 ⟨(some 4), .mv, [(.c (.bool false))], none, []⟩] 0 [0, 1, 2, 4])
 (.seq
 (.reg false [] [] [
 ⟨(some 8), (.load none), [(.t 1)], none, []⟩,
 ⟨(some 9), .len, [(.t 8)], none, []⟩,
 ⟨(some 10), .mv, [(.c (.int .i64 0))], none, []⟩] 0 [0, 1, 2, 4, 8, 9, 10])
 (.block 0
 (.loop b81_0)))),
 []⟩
theorem c81 : funC Try.prog [(0, [0, 1, 2, 4]), (1, [0, 1, 2, 4, 8, 9, 10]), (2, [0, 1, 2, 4, 8, 9, 10, 11]), (3, [0, 1, 2, 4, 5, 6, 8, 9, 10]), (4, [0, 1, 2, 4, 5, 6, 8, 9, 10, 25]), (5, [0, 1, 2, 4, 5, 6, 8, 9, 10]), (6, [0, 1, 2, 4, 5, 7, 8, 9, 10]), (7, [0, 1, 2, 4, 5, 7, 8, 9, 10, 36]), (8, [0, 1, 2, 4, 5, 7, 8, 9, 10]), (9, [0, 1, 2, 4, 8, 9, 10, 44]), (10, [0, 1, 2, 4, 8, 9, 10])] Try.f81 = some (unF l81) := by kernel_rfl
/-- (acme/lead.screw).fromAbove -/
def l82 : LFun := ⟨2, 9, [],
 (.seq
 (.reg false [2, 3, 4] [2, 3, 4] [
 ⟨(some 2), .box, [(.t 0)], none, []⟩,
 ⟨(some 3), .box, [(.t 1)], none, []⟩,
 ⟨(some 4), (.alloc [(.sl none 2 []), (.int .i64 0), (.int .i64 0)]), [], none, []⟩] 0 [2, 3, 4])
 (.seq
 (.reg false [] [] [
 ⟨(some 5), (.load (some 5)), [(.t 2)], none, []⟩,
 ⟨(some 6), (.call false false false), [(.f 79), (.t 5)], none, []⟩,
 ⟨(some 7), (.fa 1), [(.t 3)], none, []⟩,
 ⟨none, (.store 1 none), [(.t 7), (.t 6)], none, []⟩] 0 [3, 4])
 (.seq
 (.reg false [] [] [
 ⟨(some 8), (.load (some 3)), [(.t 3)], none, []⟩,
 ⟨none, (.store 3 none), [(.t 4), (.t 8)], none, []⟩] 0 [4])
 .ret))),
 [(.c 4 (some 3))]⟩
theorem c82 : funC Try.prog [(0, [2, 3, 4]), (1, [3, 4]), (2, [4])] Try.f82 = some (unF l82) := by kernel_rfl
/-- (acme/lead.screw).run -/
def b83_0 : LCode :=
 (.seq
 (.seq
 (.reg true [] [] [
 ⟨(some 12), .mv, [(.t 8)], none, []⟩,
 ⟨(some 13), (.load (some 5)), [(.t 4)], none, []⟩,
 ⟨(some 14), (.call false false false), [(.f 77), (.t 13)], none, []⟩,
 ⟨(some 15), (.bin 0 .leq), [(.t 12), (.t 14)], none, []⟩] 0 [2, 4, 7, 8, 9, 15])
 (.cond (.t 15)
 .skip
 (.exit 0)))
 (.seq
 (.block 1
 (.seq
 (.reg true [10] [10] [
 ⟨(some 18), (.load (some 5)), [(.t 4)], none, []⟩,
 ⟨(some 19), (.load (some 2)), [(.t 7)], none, []⟩,
 ⟨(some 20), .mv, [(.t 8)], none, []⟩,
 ⟨(some 21), .mv, [(.t 2)], none, []⟩,
 ⟨(some 22), (.call false false false), [(.f 90), (.t 18), (.t 19), (.t 20), (.t 21)], none, []⟩,
 ⟨(some 10), (.alloc [(.int .i64 0), (.int .i64 0)]), [], none, []⟩,
 ⟨none, (.store 2 none), [(.t 10), (.t 22)], none, []⟩] 0 [2, 4, 7, 8, 9, 10])
 (.seq
 (.seq
 (.reg true [] [] [
 ⟨(some 23), (.fa 0), [(.t 10)], none, []⟩,
 ⟨(some 24), (.load none), [(.t 23)], none, []⟩,
 ⟨(some 25), (.fa 1), [(.t 10)], none, []⟩,
 ⟨(some 26), (.load none), [(.t 25)], none, []⟩,
 ⟨(some 27), (.bin 0 .gtr), [(.t 24), (.t 26)], none, []⟩] 0 [2, 4, 7, 8, 9, 10, 27])
 (.cond (.t 27)
 (.exit 0)
 .skip))
 (.reg true [] [] [
 ⟨(some 28), (.load (some 2)), [(.t 10)], none, []⟩,
 ⟨none, (.store 2 none), [(.t 7), (.t 28)], none, []⟩] 0 [2, 4, 7, 8, 9]))))
 (.reg true [] [] [
 ⟨(some 16), .mv, [(.t 8)], none, []⟩,
 ⟨(some 17), (.bin 0 .add), [(.t 16), (.c (.int .i64 1))], none, []⟩,
 ⟨(some 8), .mv, [(.t 17)], none, []⟩] 0 [2, 4, 7, 8, 9])))
def l83 : LFun := ⟨4, 31, [],
 (.seq
 (.reg false [4, 7, 9] [4, 7, 9] [
 ⟨(some 4), .box, [(.t 0)], none, []⟩,
 ⟨(some 7), .box, [(.t 3)], none, []⟩,
 ⟨(some 8), .mv, [(.c (.int .i64 0))], none, []⟩,
 ⟨(some 9), (.alloc [(.int .i64 0), (.int .i64 0)]), [], none, []⟩] 0 [1, 2, 4, 7, 9])
 (.seq
 (.seq
 (.reg false [] [] [
 ⟨(some 11), .mv, [(.t 1)], none, []⟩,
 ⟨(some 8), .mv, [(.t 11)], none, []⟩] 0 [2, 4, 7, 8, 9])
 (.block 0
 (.loop b83_0)))
 (.seq
 (.reg false [] [] [
 ⟨(some 29), .mv, [(.t 8)], none, [30]⟩,
 ⟨(some 30), (.load (some 2)), [(.t 7)], none, [29, 8]⟩,
 ⟨(some 8), .mv, [(.t 29)], none, [30]⟩,
 ⟨none, (.store 2 (some 9)), [(.t 9), (.t 30)], none, []⟩] 0 [8, 9])
 .ret))),
 [(.t 8), (.c 9 (some 2))]⟩
theorem c83 : funC Try.prog [(0, [1, 2, 4, 7, 9]), (1, [2, 4, 7, 8, 9]), (2, [2, 4, 7, 8, 9, 15]), (3, [2, 4, 7, 8, 9]), (4, [2, 4, 7, 8, 9, 10]), (5, [2, 4, 7, 8, 9, 10, 27]), (6, [2, 4, 7, 8, 9]), (7, [8, 9])] Try.f83 = some (unF l83) := by kernel_rfl
/-- acme/lead.whole -/
def l84 : LFun := ⟨0, 2, [],
 (.seq
 (.reg false [0] [0] [
 ⟨(some 0), (.alloc [(.int .i64 0), (.int .i64 0)]), [], none, []⟩] 0 [0])
 (.seq
 (.reg false [] [] [
 ⟨(some 1), (.build [(.int .i64 0), (.int .i64 0)] [(0, 1), (1, 1)]), [(.c (.int .i64 (-20000))), (.c (.int .i64 20000))], none, []⟩,
 ⟨none, (.store 2 none), [(.t 0), (.t 1)], none, []⟩] 0 [0])
 .ret)),
 [(.c 0 (some 2))]⟩
theorem c84 : funC Try.prog [(0, [0]), (1, [0])] Try.f84 = some (unF l84) := by kernel_rfl
/-- slices.Chunk[[]int,int]$1 -/
def b85_0 : LCode :=
 (.seq
 (.seq
 (.reg true [] [] [
 ⟨(some 6), .mv, [(.t 4)], none, []⟩,
 ⟨(some 7), (.load none), [(.t 1)], none, []⟩,
 ⟨(some 8), .len, [(.t 7)], none, []⟩,
 ⟨(some 9), (.bin 0 .lss), [(.t 6), (.t 8)], none, []⟩] 0 [0, 1, 2, 4, 9])
 (.cond (.t 9)
 .skip
 (.exit 0)))
 (.seq
 (.block 1
 (.seq
 (.reg true [] [] [
 ⟨(some 13), (.load none), [(.t 2)], none, [14, 15, 16, 17]⟩,
 ⟨(some 14), (.load none), [(.t 1)], none, [13, 15]⟩,
 ⟨(some 15), .mv, [(.t 4)], none, [13, 14]⟩,
 ⟨(some 16), (.sls 1 true false false), [(.t 14), (.t 15)], none, [13]⟩,
 ⟨(some 17), .len, [(.t 16)], none, [13]⟩,
 ⟨(some 18), .min, [(.t 13), (.t 17)], none, []⟩,
 ⟨(some 5), .mv, [(.t 18)], none, []⟩] 0 [0, 1, 2, 4, 5])
 (.seq
 (.reg true [] [] [
 ⟨(some 19), .mv, [(.t 0)], none, []⟩,
 ⟨(some 20), (.load none), [(.t 1)], none, []⟩,
 ⟨(some 21), .mv, [(.t 4)], none, []⟩,
 ⟨(some 22), .mv, [(.t 4)], none, []⟩,
 ⟨(some 23), .mv, [(.t 5)], none, []⟩,
 ⟨(some 24), (.bin 0 .add), [(.t 22), (.t 23)], none, []⟩,
 ⟨(some 25), .mv, [(.t 4)], none, []⟩,
 ⟨(some 26), .mv, [(.t 5)], none, []⟩,
 ⟨(some 27), (.bin 0 .add), [(.t 25), (.t 26)], none, []⟩,
 ⟨(some 28), (.sls 1 true true true), [(.t 20), (.t 21), (.t 24), (.t 27)], none, []⟩,
 ⟨(some 29), (.call false false false), [(.t 19), (.t 28)], none, []⟩,
 ⟨(some 30), (.un .not), [(.t 29)], none, []⟩] 0 [0, 1, 2, 4, 30])
 (.cond (.t 30)
 .ret
 .skip))))
 (.reg true [] [] [
 ⟨(some 10), .mv, [(.t 4)], none, []⟩,
 ⟨(some 11), (.load none), [(.t 2)], none, []⟩,
 ⟨(some 12), (.bin 0 .add), [(.t 10), (.t 11)], none, []⟩,
 ⟨(some 4), .mv, [(.t 12)], none, []⟩] 0 [0, 1, 2, 4])))
def l85 : LFun := ⟨3, 31, [],
 (.seq
 (.reg false [] [] [
 ⟨(some 4), .mv, [(.c (.int .i64 0))], none, []⟩] 0 [0, 1, 2, 4])
 (.block 0
 (.loop b85_0))),
 []⟩
theorem c85 : funC Try.prog [(0, [0, 1, 2, 4]), (1, [0, 1, 2, 4, 9]), (2, [0, 1, 2, 4]), (3, [0, 1, 2, 4, 5]), (4, [0, 1, 2, 4, 30])] Try.f85 = some (unF l85) := by kernel_rfl
/-- slices.IndexFunc[[]int,int] -/
def b86_0 : LCode :=
 (.seq
 (.reg true [] [] [
 ⟨(some 9), (.bin 0 .lss), [(.t 8), (.t 7)], none, []⟩] 0 [0, 1, 7, 8, 9])
 (.seq
 (.cond (.t 9)
 .skip
 (.exit 0))
 (.seq
 (.block 1
 (.seq
 (.reg true [] [] [
 ⟨(some 10), .mv, [(.t 8)], none, []⟩,
 ⟨(some 5), .mv, [(.t 10)], none, []⟩] 0 [0, 1, 5, 7, 8])
 (.seq
 (.reg true [] [] [
 ⟨(some 11), .mv, [(.t 1)], none, []⟩,
 ⟨(some 12), .mv, [(.t 0)], none, []⟩,
 ⟨(some 13), .mv, [(.t 5)], none, []⟩,
 ⟨(some 14), (.ixs 1), [(.t 12), (.t 13)], none, []⟩,
 ⟨(some 15), (.load none), [(.t 14)], none, []⟩,
 ⟨(some 16), (.call false false false), [(.t 11), (.t 15)], none, []⟩] 0 [0, 1, 5, 7, 8, 16])
 (.cond (.t 16)
 (.seq
 (.reg true [] [] [
 ⟨(some 17), .mv, [(.t 5)], none, []⟩,
 ⟨(some 4), .mv, [(.t 17)], none, []⟩] 0 [4])
 .ret)
 .skip))))
 (.reg true [] [] [
 ⟨(some 18), (.bin 0 .add), [(.t 8), (.c (.int .i64 1))], none, []⟩,
 ⟨(some 8), .mv, [(.t 18)], none, []⟩] 0 [0, 1, 7, 8]))))
def l86 : LFun := ⟨2, 19, [],
 (.seq
 (.reg false [] [] [
 ⟨(some 4), .mv, [(.c (.int .i64 0))], none, []⟩] 0 [0, 1])
 (.seq
 (.seq
 (.reg false [] [] [
 ⟨(some 6), .mv, [(.t 0)], none, []⟩,
 ⟨(some 7), .len, [(.t 6)], none, []⟩,
 ⟨(some 8), .mv, [(.c (.int .i64 0))], none, []⟩] 0 [0, 1, 7, 8])
 (.block 0
 (.loop b86_0)))
 (.seq
 (.reg false [] [] [
 ⟨(some 4), .mv, [(.c (.int .i64 (-1)))], none, []⟩] 0 [4])
 .ret))),
 [(.t 4)]⟩
theorem c86 : funC Try.prog [(0, [0, 1]), (1, [0, 1, 7, 8]), (2, [0, 1, 7, 8, 9]), (3, [0, 1, 5, 7, 8]), (4, [0, 1, 5, 7, 8, 16]), (5, [4]), (6, [0, 1, 7, 8]), (7, [4])] Try.f86 = some (unF l86) := by kernel_rfl
/-- slices.BinarySearchFunc[[]acme/api.LeadNotch,acme/api.LeadNotch,int] -/
def b87_0 : LCode :=
 (.seq
 (.seq
 (.reg true [] [] [
 ⟨(some 15), .mv, [(.t 9)], none, []⟩,
 ⟨(some 16), .mv, [(.t 10)], none, []⟩,
 ⟨(some 17), (.bin 0 .lss), [(.t 15), (.t 16)], none, []⟩] 0 [0, 1, 2, 8, 9, 10, 17])
 (.cond (.t 17)
 .skip
 (.exit 0)))
 (.block 1
 (.seq
 (.reg true [] [] [
 ⟨(some 18), .mv, [(.t 9)], none, []⟩,
 ⟨(some 19), .mv, [(.t 10)], none, []⟩,
 ⟨(some 20), (.bin 0 .add), [(.t 18), (.t 19)], none, []⟩,
 ⟨(some 21), (.conv .u64), [(.t 20)], none, []⟩,
 ⟨(some 22), (.bin 0 .shr), [(.t 21), (.c (.int .u64 1))], none, []⟩,
 ⟨(some 23), (.conv .i64), [(.t 22)], none, []⟩,
 ⟨(some 11), .mv, [(.t 23)], none, []⟩] 0 [0, 1, 2, 8, 9, 10, 11])
 (.seq
 (.reg true [] [] [
 ⟨(some 24), .mv, [(.t 2)], none, []⟩,
 ⟨(some 25), .mv, [(.t 0)], none, []⟩,
 ⟨(some 26), .mv, [(.t 11)], none, []⟩,
 ⟨(some 27), (.ixs 2), [(.t 25), (.t 26)], none, []⟩,
 ⟨(some 28), (.load (some 2)), [(.t 27)], none, []⟩,
 ⟨(some 29), .mv, [(.t 1)], none, []⟩,
 ⟨(some 30), (.call false false false), [(.t 24), (.t 28), (.t 29)], none, []⟩,
 ⟨(some 31), (.bin 0 .lss), [(.t 30), (.c (.int .i64 0))], none, []⟩] 0 [0, 1, 2, 8, 9, 10, 11, 31])
 (.cond (.t 31)
 (.reg true [] [] [
 ⟨(some 32), .mv, [(.t 11)], none, []⟩,
 ⟨(some 33), (.bin 0 .add), [(.t 32), (.c (.int .i64 1))], none, []⟩,
 ⟨(some 9), .mv, [(.t 33)], none, []⟩] 0 [0, 1, 2, 8, 9, 10])
 (.reg true [] [] [
 ⟨(some 34), .mv, [(.t 11)], none, []⟩,
 ⟨(some 10), .mv, [(.t 34)], none, []⟩] 0 [0, 1, 2, 8, 9, 10]))))))
def l87 : LFun := ⟨3, 49, [],
 (.seq
 (.reg false [] [] [
 ⟨(some 6), .mv, [(.c (.int .i64 0))], none, []⟩,
 ⟨(some 7), .mv, [(.c (.bool false))], none, []⟩] 0 [0, 1, 2])
 (.seq
 (.reg false [] [] [
 ⟨(some 12), .mv, [(.t 0)], none, []⟩,
 ⟨(some 13), .len, [(.t 12)], none, []⟩,
 ⟨(some 8), .mv, [(.t 13)], none, []⟩] 0 [0, 1, 2, 8])
 (.seq
 (.reg false [] [] [
 ⟨(some 14), .mv, [(.t 8)], none, []⟩,
 ⟨(some 9), .mv, [(.c (.int .i64 0))], none, []⟩,
 ⟨(some 10), .mv, [(.t 14)], none, []⟩] 0 [0, 1, 2, 8, 9, 10])
 (.seq
 (.block 0
 (.loop b87_0))
 (.seq
 (.reg false [] [] [
 ⟨(some 35), .mv, [(.t 9)], none, []⟩,
 ⟨(some 36), .mv, [(.t 9)], none, []⟩,
 ⟨(some 37), .mv, [(.t 8)], none, []⟩,
 ⟨(some 38), (.bin 0 .lss), [(.t 36), (.t 37)], none, []⟩,
 ⟨(some 39), .mv, [(.t 38)], none, []⟩,
 ⟨(some 40), .mv, [(.t 2)], (some (39, true)), []⟩,
 ⟨(some 41), .mv, [(.t 0)], (some (39, true)), []⟩,
 ⟨(some 42), .mv, [(.t 9)], (some (39, true)), []⟩,
 ⟨(some 43), (.ixs 2), [(.t 41), (.t 42)], (some (39, true)), []⟩,
 ⟨(some 44), (.load (some 2)), [(.t 43)], (some (39, true)), []⟩,
 ⟨(some 45), .mv, [(.t 1)], (some (39, true)), []⟩,
 ⟨(some 46), (.call false false false), [(.t 40), (.t 44), (.t 45)], (some (39, true)), []⟩,
 ⟨(some 47), (.bin 0 .eql), [(.t 46), (.c (.int .i64 0))], (some (39, true)), []⟩,
 ⟨(some 48), .pick, [(.t 39), (.t 47), (.c (.bool false))], none, []⟩,
 ⟨(some 6), .mv, [(.t 35)], none, []⟩,
 ⟨(some 7), .mv, [(.t 48)], none, []⟩] 0 [6, 7])
 .ret))))),
 [(.t 6), (.t 7)]⟩
theorem c87 : funC Try.prog [(0, [0, 1, 2]), (1, [0, 1, 2, 8]), (2, [0, 1, 2, 8, 9, 10]), (3, [0, 1, 2, 8, 9, 10, 17]), (4, [0, 1, 2, 8, 9, 10, 11]), (5, [0, 1, 2, 8, 9, 10, 11, 31]), (6, [0, 1, 2, 8, 9, 10]), (7, [0, 1, 2, 8, 9, 10]), (8, [6, 7])] Try.f87 = some (unF l87) := by kernel_rfl
/-- (acme/lead.screw).add$1 -/
def l88 : LFun := ⟨2, 9, [],
 (.seq
 (.reg false [2] [2] [
 ⟨(some 2), .box, [(.t 0)], none, []⟩,
 ⟨(some 4), .mv, [(.c (.int .i64 0))], none, []⟩] 0 [1, 2])
 (.seq
 (.reg false [] [] [
 ⟨(some 5), (.fa 0), [(.t 2)], none, []⟩,
 ⟨(some 6), (.load none), [(.t 5)], none, []⟩,
 ⟨(some 7), .mv, [(.t 1)], none, []⟩,
 ⟨(some 8), (.call false false false), [(.f 89), (.t 6), (.t 7)], none, []⟩,
 ⟨(some 4), .mv, [(.t 8)], none, []⟩] 0 [4])
 .ret)),
 [(.t 4)]⟩
theorem c88 : funC Try.prog [(0, [1, 2]), (1, [4])] Try.f88 = some (unF l88) := by kernel_rfl
/-- cmp.Compare[int] -/
def l89 : LFun := ⟨2, 20, [],
 (.seq
 (.reg false [] [] [
 ⟨(some 4), .mv, [(.c (.int .i64 0))], none, []⟩] 0 [0, 1])
 (.seq
 (.reg false [] [] [
 ⟨(some 7), .mv, [(.t 0)], none, []⟩,
 ⟨(some 8), (.call false false false), [(.f 91), (.t 7)], none, []⟩,
 ⟨(some 5), .mv, [(.t 8)], none, []⟩] 0 [0, 1, 5])
 (.seq
 (.reg false [] [] [
 ⟨(some 9), .mv, [(.t 1)], none, []⟩,
 ⟨(some 10), (.call false false false), [(.f 91), (.t 9)], none, []⟩,
 ⟨(some 6), .mv, [(.t 10)], none, []⟩] 0 [0, 1, 5, 6])
 (.seq
 (.seq
 (.reg false [] [] [
 ⟨(some 11), .mv, [(.t 5)], none, []⟩] 0 [0, 1, 6, 11])
 (.cond (.t 11)
 (.seq
 (.seq
 (.reg false [] [] [
 ⟨(some 12), .mv, [(.t 6)], none, []⟩] 0 [12])
 (.cond (.t 12)
 (.seq
 (.reg false [] [] [
 ⟨(some 4), .mv, [(.c (.int .i64 0))], none, []⟩] 0 [4])
 .ret)
 .skip))
 (.seq
 (.reg false [] [] [
 ⟨(some 4), .mv, [(.c (.int .i64 (-1)))], none, []⟩] 0 [4])
 .ret))
 .skip))
 (.seq
 (.seq
 (.reg false [] [] [
 ⟨(some 13), .mv, [(.t 6)], none, []⟩] 0 [0, 1, 13])
 (.cond (.t 13)
 (.seq
 (.reg false [] [] [
 ⟨(some 4), .mv, [(.c (.int .i64 1))], none, []⟩] 0 [4])
 .ret)
 .skip))
 (.seq
 (.seq
 (.reg false [] [] [
 ⟨(some 14), .mv, [(.t 0)], none, []⟩,
 ⟨(some 15), .mv, [(.t 1)], none, []⟩,
 ⟨(some 16), (.bin 0 .lss), [(.t 14), (.t 15)], none, []⟩] 0 [0, 1, 16])
 (.cond (.t 16)
 (.seq
 (.reg false [] [] [
 ⟨(some 4), .mv, [(.c (.int .i64 (-1)))], none, []⟩] 0 [4])
 .ret)
 .skip))
 (.seq
 (.seq
 (.reg false [] [] [
 ⟨(some 17), .mv, [(.t 0)], none, []⟩,
 ⟨(some 18), .mv, [(.t 1)], none, []⟩,
 ⟨(some 19), (.bin 0 .gtr), [(.t 17), (.t 18)], none, []⟩] 0 [19])
 (.cond (.t 19)
 (.seq
 (.reg false [] [] [
 ⟨(some 4), .mv, [(.c (.int .i64 1))], none, []⟩] 0 [4])
 .ret)
 .skip))
 (.seq
 (.reg false [] [] [
 ⟨(some 4), .mv, [(.c (.int .i64 0))], none, []⟩] 0 [4])
 .ret)))))))),
 [(.t 4)]⟩
theorem c89 : funC Try.prog [(0, [0, 1]), (1, [0, 1, 5]), (2, [0, 1, 5, 6]), (3, [0, 1, 6, 11]), (4, [12]), (5, [4]), (6, [4]), (7, [0, 1, 13]), (8, [4]), (9, [0, 1, 16]), (10, [4]), (11, [19]), (12, [4]), (13, [4])] Try.f89 = some (unF l89) := by kernel_rfl
/-- (acme/lead.screw).right -/
def l90 : LFun := ⟨4, 40, [],
 (.seq
 (.reg false [4, 5, 8] [4, 5, 8] [
 ⟨(some 4), .box, [(.t 0)], none, []⟩,
 ⟨(some 5), .box, [(.t 1)], none, []⟩,
 ⟨(some 8), (.alloc [(.int .i64 0), (.int .i64 0)]), [], none, []⟩] 0 [2, 3, 4, 5, 8])
 (.seq
 (.reg false [14, 9] [14, 9] [
 ⟨(some 11), (.load (some 5)), [(.t 4)], none, [12, 13, 14, 16, 17, 9]⟩,
 ⟨(some 12), (.load (some 5)), [(.t 4)], none, [11, 13, 16, 17, 9]⟩,
 ⟨(some 13), .mv, [(.t 2)], none, [11, 12, 16, 17, 9]⟩,
 ⟨(some 14), (.call true false true), [(.f 58), (.t 12), (.t 13)], none, [11, 16, 17, 9]⟩,
 ⟨(some 15), (.call true false false), [(.f 57), (.t 11), (.t 14)], none, [16, 17, 9]⟩,
 ⟨(some 16), .mv, [(.t 3)], none, [11, 12, 13, 14, 15, 17, 18, 9]⟩,
 ⟨(some 17), (.load (some 5)), [(.t 4)], none, [11, 12, 13, 14, 15, 16, 9]⟩,
 ⟨(some 18), (.call true false false), [(.f 79), (.t 17)], none, [16, 9]⟩,
 ⟨(some 19), (.bin 0 .mul), [(.t 16), (.t 18)], none, [9]⟩,
 ⟨(some 9), (.alloc [(.int .i64 0), (.int .i64 0)]), [], none, [11, 12, 13, 14, 15, 16, 17, 18, 19]⟩,
 ⟨none, (.store 2 (some 9)), [(.t 9), (.t 15)], none, [16, 19]⟩,
 ⟨(some 10), .mv, [(.t 19)], none, []⟩] 0 [4, 5, 8, 9, 10])
 (.seq
 (.reg false [] [] [
 ⟨(some 20), (.fa 0), [(.t 5)], none, [22, 23, 24, 25, 26, 27, 28, 30, 31, 32, 33, 34, 35, 36, 37, 38]⟩,
 ⟨(some 21), (.load none), [(.t 20)], none, [22, 23, 24, 25, 26, 27, 28, 30, 31, 32, 33, 34, 35, 36, 37, 38]⟩,
 ⟨(some 22), (.load (some 5)), [(.t 4)], none, [20, 21, 23, 24, 25, 26, 27, 30, 31, 32, 33, 34, 35, 36]⟩,
 ⟨(some 23), .mv, [(.t 10)], none, [20, 21, 22, 25, 26, 30, 31, 32, 33, 34, 35, 36]⟩,
 ⟨(some 24), (.un .neg), [(.t 23)], none, [20, 21, 22, 25, 26, 30, 31, 32, 33, 34, 35, 36]⟩,
 ⟨(some 25), (.fa 0), [(.t 9)], none, [20, 21, 22, 23, 24, 30, 31, 32, 33, 34, 35, 36]⟩,
 ⟨(some 26), (.load none), [(.t 25)], none, [20, 21, 22, 23, 24, 30, 31, 32, 33, 34, 35, 36]⟩,
 ⟨(some 27), (.bin 0 .sub), [(.t 24), (.t 26)], none, [20, 21, 22, 30, 31, 32, 33, 34, 35, 36]⟩,
 ⟨(some 28), (.call true false false), [(.f 66), (.t 22), (.t 27)], none, [20, 21, 30, 31, 32, 33, 34, 35, 36]⟩,
 ⟨(some 29), .max, [(.t 21), (.t 28)], none, [30, 31, 32, 33, 34, 35, 36, 37, 38]⟩,
 ⟨(some 30), (.fa 1), [(.t 5)], none, [20, 21, 22, 23, 24, 25, 26, 27, 28, 29, 32, 33, 34, 35, 36, 37]⟩,
 ⟨(some 31), (.load none), [(.t 30)], none, [20, 21, 22, 23, 24, 25, 26, 27, 28, 29, 32, 33, 34, 35, 36, 37]⟩,
 ⟨(some 32), (.load (some 5)), [(.t 4)], none, [20, 21, 22, 23, 24, 25, 26, 27, 28, 29, 30, 31, 33, 34, 35, 36]⟩,
 ⟨(some 33), .mv, [(.t 10)], none, [20, 21, 22, 23, 24, 25, 26, 27, 28, 29, 30, 31, 32, 34, 35]⟩,
 ⟨(some 34), (.fa 1), [(.t 9)], none, [20, 21, 22, 23, 24, 25, 26, 27, 28, 29, 30, 31, 32, 33]⟩,
 ⟨(some 35), (.load none), [(.t 34)], none, [20, 21, 22, 23, 24, 25, 26, 27, 28, 29, 30, 31, 32, 33]⟩,
 ⟨(some 36), (.bin 0 .sub), [(.t 33), (.t 35)], none, [20, 21, 22, 23, 24, 25, 26, 27, 28, 29, 30, 31, 32]⟩,
 ⟨(some 37), (.call true false false), [(.f 65), (.t 32), (.t 36)], none, [20, 21, 29, 30, 31]⟩,
 ⟨(some 38), .min, [(.t 31), (.t 37)], none, [20, 21, 29]⟩,
 ⟨(some 39), (.build [(.int .i64 0), (.int .i64 0)] [(0, 1), (1, 1)]), [(.t 29), (.t 38)], none, []⟩,
 ⟨none, (.store 2 (some 8)), [(.t 8), (.t 39)], none, []⟩] 0 [8])
 .ret))),
 [(.c 8 (some 2))]⟩
theorem c90 : funC Try.prog [(0, [2, 3, 4, 5, 8]), (1, [4, 5, 8, 9, 10]), (2, [8])] Try.f90 = some (unF l90) := by kernel_rfl
/-- cmp.isNaN[int] -/
def l91 : LFun := ⟨1, 6, [],
 (.seq
 (.reg false [] [] [
 ⟨(some 2), .mv, [(.c (.bool false))], none, []⟩] 0 [0])
 (.seq
 (.reg false [] [] [
 ⟨(some 3), .mv, [(.t 0)], none, []⟩,
 ⟨(some 4), .mv, [(.t 0)], none, []⟩,
 ⟨(some 5), (.bin 0 .neq), [(.t 3), (.t 4)], none, []⟩,
 ⟨(some 2), .mv, [(.t 5)], none, []⟩] 0 [2])
 .ret)),
 [(.t 2)]⟩
theorem c91 : funC Try.prog [(0, [0]), (1, [2])] Try.f91 = some (unF l91) := by kernel_rfl
end Go.Lo

/- The functions that are reached, compiled for the plain machine. -/
namespace Go.Lo
open Go.Proofs
def C2 : Nat → Option LFun
  | 9 => some l9
  | 14 => some l14
  | 15 => some l15
  | 16 => some l16
  | 17 => some l17
  | 18 => some l18
  | 19 => some l19
  | 20 => some l20
  | 21 => some l21
  | 22 => some l22
  | 24 => some l24
  | 25 => some l25
  | 26 => some l26
  | 29 => some l29
  | 30 => some l30
  | 31 => some l31
  | 33 => some l33
  | 34 => some l34
  | 35 => some l35
  | 37 => some l37
  | 38 => some l38
  | 40 => some l40
  | 41 => some l41
  | 48 => some l48
  | 49 => some l49
  | 50 => some l50
  | 51 => some l51
  | 52 => some l52
  | 53 => some l53
  | 54 => some l54
  | 55 => some l55
  | 56 => some l56
  | 57 => some l57
  | 58 => some l58
  | 59 => some l59
  | 60 => some l60
  | 61 => some l61
  | 62 => some l62
  | 63 => some l63
  | 64 => some l64
  | 65 => some l65
  | 66 => some l66
  | 67 => some l67
  | 70 => some l70
  | 71 => some l71
  | 72 => some l72
  | 74 => some l74
  | 75 => some l75
  | 76 => some l76
  | 77 => some l77
  | 78 => some l78
  | 79 => some l79
  | 80 => some l80
  | 81 => some l81
  | 82 => some l82
  | 83 => some l83
  | 84 => some l84
  | 85 => some l85
  | 86 => some l86
  | 87 => some l87
  | 88 => some l88
  | 89 => some l89
  | 90 => some l90
  | 91 => some l91
  | _ => none
def Ct : Nat → Option LFun := fun k => (C2 k).map unF
def Ft : Nat → Option (List V → Option V) := fun _ => none
theorem tabOk : TabOk Try.prog Ft Ct where
  mixed := by kernel_rfl
  told _ _ _ _ h := by cases h
  code f lf h := by
    unfold Ct at h
    obtain ⟨l, hl, rfl⟩ := Option.map_eq_some_iff.1 h
    unfold C2 at hl
    split at hl
    · injection hl with hl; subst hl; exact ⟨_, _, Try.func9, of_decide_eq_true (by kernel_rfl), c9⟩
    · injection hl with hl; subst hl; exact ⟨_, _, Try.func14, of_decide_eq_true (by kernel_rfl), c14⟩
    · injection hl with hl; subst hl; exact ⟨_, _, Try.func15, of_decide_eq_true (by kernel_rfl), c15⟩
    · injection hl with hl; subst hl; exact ⟨_, _, Try.func16, of_decide_eq_true (by kernel_rfl), c16⟩
    · injection hl with hl; subst hl; exact ⟨_, _, Try.func17, of_decide_eq_true (by kernel_rfl), c17⟩
    · injection hl with hl; subst hl; exact ⟨_, _, Try.func18, of_decide_eq_true (by kernel_rfl), c18⟩
    · injection hl with hl; subst hl; exact ⟨_, _, Try.func19, of_decide_eq_true (by kernel_rfl), c19⟩
    · injection hl with hl; subst hl; exact ⟨_, _, Try.func20, of_decide_eq_true (by kernel_rfl), c20⟩
    · injection hl with hl; subst hl; exact ⟨_, _, Try.func21, of_decide_eq_true (by kernel_rfl), c21⟩
    · injection hl with hl; subst hl; exact ⟨_, _, Try.func22, of_decide_eq_true (by kernel_rfl), c22⟩
    · injection hl with hl; subst hl; exact ⟨_, _, Try.func24, of_decide_eq_true (by kernel_rfl), c24⟩
    · injection hl with hl; subst hl; exact ⟨_, _, Try.func25, of_decide_eq_true (by kernel_rfl), c25⟩
    · injection hl with hl; subst hl; exact ⟨_, _, Try.func26, of_decide_eq_true (by kernel_rfl), c26⟩
    · injection hl with hl; subst hl; exact ⟨_, _, Try.func29, of_decide_eq_true (by kernel_rfl), c29⟩
    · injection hl with hl; subst hl; exact ⟨_, _, Try.func30, of_decide_eq_true (by kernel_rfl), c30⟩
    · injection hl with hl; subst hl; exact ⟨_, _, Try.func31, of_decide_eq_true (by kernel_rfl), c31⟩
    · injection hl with hl; subst hl; exact ⟨_, _, Try.func33, of_decide_eq_true (by kernel_rfl), c33⟩
    · injection hl with hl; subst hl; exact ⟨_, _, Try.func34, of_decide_eq_true (by kernel_rfl), c34⟩
    · injection hl with hl; subst hl; exact ⟨_, _, Try.func35, of_decide_eq_true (by kernel_rfl), c35⟩
    · injection hl with hl; subst hl; exact ⟨_, _, Try.func37, of_decide_eq_true (by kernel_rfl), c37⟩
    · injection hl with hl; subst hl; exact ⟨_, _, Try.func38, of_decide_eq_true (by kernel_rfl), c38⟩
    · injection hl with hl; subst hl; exact ⟨_, _, Try.func40, of_decide_eq_true (by kernel_rfl), c40⟩
    · injection hl with hl; subst hl; exact ⟨_, _, Try.func41, of_decide_eq_true (by kernel_rfl), c41⟩
    · injection hl with hl; subst hl; exact ⟨_, _, Try.func48, of_decide_eq_true (by kernel_rfl), c48⟩
    · injection hl with hl; subst hl; exact ⟨_, _, Try.func49, of_decide_eq_true (by kernel_rfl), c49⟩
    · injection hl with hl; subst hl; exact ⟨_, _, Try.func50, of_decide_eq_true (by kernel_rfl), c50⟩
    · injection hl with hl; subst hl; exact ⟨_, _, Try.func51, of_decide_eq_true (by kernel_rfl), c51⟩
    · injection hl with hl; subst hl; exact ⟨_, _, Try.func52, of_decide_eq_true (by kernel_rfl), c52⟩
    · injection hl with hl; subst hl; exact ⟨_, _, Try.func53, of_decide_eq_true (by kernel_rfl), c53⟩
    · injection hl with hl; subst hl; exact ⟨_, _, Try.func54, of_decide_eq_true (by kernel_rfl), c54⟩
    · injection hl with hl; subst hl; exact ⟨_, _, Try.func55, of_decide_eq_true (by kernel_rfl), c55⟩
    · injection hl with hl; subst hl; exact ⟨_, _, Try.func56, of_decide_eq_true (by kernel_rfl), c56⟩
    · injection hl with hl; subst hl; exact ⟨_, _, Try.func57, of_decide_eq_true (by kernel_rfl), c57⟩
    · injection hl with hl; subst hl; exact ⟨_, _, Try.func58, of_decide_eq_true (by kernel_rfl), c58⟩
    · injection hl with hl; subst hl; exact ⟨_, _, Try.func59, of_decide_eq_true (by kernel_rfl), c59⟩
    · injection hl with hl; subst hl; exact ⟨_, _, Try.func60, of_decide_eq_true (by kernel_rfl), c60⟩
    · injection hl with hl; subst hl; exact ⟨_, _, Try.func61, of_decide_eq_true (by kernel_rfl), c61⟩
    · injection hl with hl; subst hl; exact ⟨_, _, Try.func62, of_decide_eq_true (by kernel_rfl), c62⟩
    · injection hl with hl; subst hl; exact ⟨_, _, Try.func63, of_decide_eq_true (by kernel_rfl), c63⟩
    · injection hl with hl; subst hl; exact ⟨_, _, Try.func64, of_decide_eq_true (by kernel_rfl), c64⟩
    · injection hl with hl; subst hl; exact ⟨_, _, Try.func65, of_decide_eq_true (by kernel_rfl), c65⟩
    · injection hl with hl; subst hl; exact ⟨_, _, Try.func66, of_decide_eq_true (by kernel_rfl), c66⟩
    · injection hl with hl; subst hl; exact ⟨_, _, Try.func67, of_decide_eq_true (by kernel_rfl), c67⟩
    · injection hl with hl; subst hl; exact ⟨_, _, Try.func70, of_decide_eq_true (by kernel_rfl), c70⟩
    · injection hl with hl; subst hl; exact ⟨_, _, Try.func71, of_decide_eq_true (by kernel_rfl), c71⟩
    · injection hl with hl; subst hl; exact ⟨_, _, Try.func72, of_decide_eq_true (by kernel_rfl), c72⟩
    · injection hl with hl; subst hl; exact ⟨_, _, Try.func74, of_decide_eq_true (by kernel_rfl), c74⟩
    · injection hl with hl; subst hl; exact ⟨_, _, Try.func75, of_decide_eq_true (by kernel_rfl), c75⟩
    · injection hl with hl; subst hl; exact ⟨_, _, Try.func76, of_decide_eq_true (by kernel_rfl), c76⟩
    · injection hl with hl; subst hl; exact ⟨_, _, Try.func77, of_decide_eq_true (by kernel_rfl), c77⟩
    · injection hl with hl; subst hl; exact ⟨_, _, Try.func78, of_decide_eq_true (by kernel_rfl), c78⟩
    · injection hl with hl; subst hl; exact ⟨_, _, Try.func79, of_decide_eq_true (by kernel_rfl), c79⟩
    · injection hl with hl; subst hl; exact ⟨_, _, Try.func80, of_decide_eq_true (by kernel_rfl), c80⟩
    · injection hl with hl; subst hl; exact ⟨_, _, Try.func81, of_decide_eq_true (by kernel_rfl), c81⟩
    · injection hl with hl; subst hl; exact ⟨_, _, Try.func82, of_decide_eq_true (by kernel_rfl), c82⟩
    · injection hl with hl; subst hl; exact ⟨_, _, Try.func83, of_decide_eq_true (by kernel_rfl), c83⟩
    · injection hl with hl; subst hl; exact ⟨_, _, Try.func84, of_decide_eq_true (by kernel_rfl), c84⟩
    · injection hl with hl; subst hl; exact ⟨_, _, Try.func85, of_decide_eq_true (by kernel_rfl), c85⟩
    · injection hl with hl; subst hl; exact ⟨_, _, Try.func86, of_decide_eq_true (by kernel_rfl), c86⟩
    · injection hl with hl; subst hl; exact ⟨_, _, Try.func87, of_decide_eq_true (by kernel_rfl), c87⟩
    · injection hl with hl; subst hl; exact ⟨_, _, Try.func88, of_decide_eq_true (by kernel_rfl), c88⟩
    · injection hl with hl; subst hl; exact ⟨_, _, Try.func89, of_decide_eq_true (by kernel_rfl), c89⟩
    · injection hl with hl; subst hl; exact ⟨_, _, Try.func90, of_decide_eq_true (by kernel_rfl), c90⟩
    · injection hl with hl; subst hl; exact ⟨_, _, Try.func91, of_decide_eq_true (by kernel_rfl), c91⟩
    · cases hl
theorem tabC (f : Nat) (lf : LFun) (h : C2 f = some lf) : Ct f = some (unF lf) ∧ okC lf.body = true ∧ lf.sl = [] := by
  refine ⟨by unfold Ct; rw [h]; rfl, ?_⟩
  unfold C2 at h
  split at h
  · injection h with h; subst h; exact ⟨by kernel_rfl, rfl⟩
  · injection h with h; subst h; exact ⟨by kernel_rfl, rfl⟩
  · injection h with h; subst h; exact ⟨by kernel_rfl, rfl⟩
  · injection h with h; subst h; exact ⟨by kernel_rfl, rfl⟩
  · injection h with h; subst h; exact ⟨by kernel_rfl, rfl⟩
  · injection h with h; subst h; exact ⟨by kernel_rfl, rfl⟩
  · injection h with h; subst h; exact ⟨by kernel_rfl, rfl⟩
  · injection h with h; subst h; exact ⟨by kernel_rfl, rfl⟩
  · injection h with h; subst h; exact ⟨by kernel_rfl, rfl⟩
  · injection h with h; subst h; exact ⟨by kernel_rfl, rfl⟩
  · injection h with h; subst h; exact ⟨by kernel_rfl, rfl⟩
  · injection h with h; subst h; exact ⟨by kernel_rfl, rfl⟩
  · injection h with h; subst h; exact ⟨by kernel_rfl, rfl⟩
  · injection h with h; subst h; exact ⟨by kernel_rfl, rfl⟩
  · injection h with h; subst h; exact ⟨by kernel_rfl, rfl⟩
  · injection h with h; subst h; exact ⟨by kernel_rfl, rfl⟩
  · injection h with h; subst h; exact ⟨by kernel_rfl, rfl⟩
  · injection h with h; subst h; exact ⟨by kernel_rfl, rfl⟩
  · injection h with h; subst h; exact ⟨by kernel_rfl, rfl⟩
  · injection h with h; subst h; exact ⟨by kernel_rfl, rfl⟩
  · injection h with h; subst h; exact ⟨by kernel_rfl, rfl⟩
  · injection h with h; subst h; exact ⟨by kernel_rfl, rfl⟩
  · injection h with h; subst h; exact ⟨by kernel_rfl, rfl⟩
  · injection h with h; subst h; exact ⟨by kernel_rfl, rfl⟩
  · injection h with h; subst h; exact ⟨by kernel_rfl, rfl⟩
  · injection h with h; subst h; exact ⟨by kernel_rfl, rfl⟩
  · injection h with h; subst h; exact ⟨by kernel_rfl, rfl⟩
  · injection h with h; subst h; exact ⟨by kernel_rfl, rfl⟩
  · injection h with h; subst h; exact ⟨by kernel_rfl, rfl⟩
  · injection h with h; subst h; exact ⟨by kernel_rfl, rfl⟩
  · injection h with h; subst h; exact ⟨by kernel_rfl, rfl⟩
  · injection h with h; subst h; exact ⟨by kernel_rfl, rfl⟩
  · injection h with h; subst h; exact ⟨by kernel_rfl, rfl⟩
  · injection h with h; subst h; exact ⟨by kernel_rfl, rfl⟩
  · injection h with h; subst h; exact ⟨by kernel_rfl, rfl⟩
  · injection h with h; subst h; exact ⟨by kernel_rfl, rfl⟩
  · injection h with h; subst h; exact ⟨by kernel_rfl, rfl⟩
  · injection h with h; subst h; exact ⟨by kernel_rfl, rfl⟩
  · injection h with h; subst h; exact ⟨by kernel_rfl, rfl⟩
  · injection h with h; subst h; exact ⟨by kernel_rfl, rfl⟩
  · injection h with h; subst h; exact ⟨by kernel_rfl, rfl⟩
  · injection h with h; subst h; exact ⟨by kernel_rfl, rfl⟩
  · injection h with h; subst h; exact ⟨by kernel_rfl, rfl⟩
  · injection h with h; subst h; exact ⟨by kernel_rfl, rfl⟩
  · injection h with h; subst h; exact ⟨by kernel_rfl, rfl⟩
  · injection h with h; subst h; exact ⟨by kernel_rfl, rfl⟩
  · injection h with h; subst h; exact ⟨by kernel_rfl, rfl⟩
  · injection h with h; subst h; exact ⟨by kernel_rfl, rfl⟩
  · injection h with h; subst h; exact ⟨by kernel_rfl, rfl⟩
  · injection h with h; subst h; exact ⟨by kernel_rfl, rfl⟩
  · injection h with h; subst h; exact ⟨by kernel_rfl, rfl⟩
  · injection h with h; subst h; exact ⟨by kernel_rfl, rfl⟩
  · injection h with h; subst h; exact ⟨by kernel_rfl, rfl⟩
  · injection h with h; subst h; exact ⟨by kernel_rfl, rfl⟩
  · injection h with h; subst h; exact ⟨by kernel_rfl, rfl⟩
  · injection h with h; subst h; exact ⟨by kernel_rfl, rfl⟩
  · injection h with h; subst h; exact ⟨by kernel_rfl, rfl⟩
  · injection h with h; subst h; exact ⟨by kernel_rfl, rfl⟩
  · injection h with h; subst h; exact ⟨by kernel_rfl, rfl⟩
  · injection h with h; subst h; exact ⟨by kernel_rfl, rfl⟩
  · injection h with h; subst h; exact ⟨by kernel_rfl, rfl⟩
  · injection h with h; subst h; exact ⟨by kernel_rfl, rfl⟩
  · injection h with h; subst h; exact ⟨by kernel_rfl, rfl⟩
  · injection h with h; subst h; exact ⟨by kernel_rfl, rfl⟩
  · cases h
end Go.Lo
