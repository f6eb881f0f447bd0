/- Texts put together. -/
import Derived.Test.YtgmgjibmjdhkhaaPf
import Derived.Test.YtgmgjibmjdhkhaaProg
import Derived.KernelRfl
/- The functions that are reached, compiled for the plain machine. -/
namespace Go.Lo
open Go.Proofs
/-- acme/acmeref01.Width -/
def l90 : LFun := ⟨2, 17, [],
 (.seq
 (.reg false [2] [2] [
 ⟨(some 2), .box, [(.t 0)], none, []⟩,
 ⟨(some 4), .mv, [(.c (.int .i64 0))], none, []⟩] 0 [1, 2])
 (.seq
 (.reg false [] [] [
 ⟨(some 5), (.fa 0), [(.t 2)], none, []⟩,
 ⟨(some 6), (.load none), [(.t 5)], none, []⟩,
 ⟨(some 7), (.bin 0 .mul), [(.c (.int .i64 1000)), (.t 6)], none, []⟩,
 ⟨(some 8), .mv, [(.t 1)], none, []⟩,
 ⟨(some 9), (.bin 0 .mul), [(.c (.int .i64 2)), (.t 8)], none, []⟩,
 ⟨(some 10), (.fa 1), [(.t 2)], none, []⟩,
 ⟨(some 11), (.load none), [(.t 10)], none, []⟩,
 ⟨(some 12), (.fa 2), [(.t 2)], none, []⟩,
 ⟨(some 13), (.load none), [(.t 12)], none, []⟩,
 ⟨(some 14), (.bin 0 .add), [(.t 11), (.t 13)], none, []⟩,
 ⟨(some 15), (.bin 0 .mul), [(.t 9), (.t 14)], none, []⟩,
 ⟨(some 16), (.bin 0 .sub), [(.t 7), (.t 15)], none, []⟩,
 ⟨(some 4), .mv, [(.t 16)], none, []⟩] 0 [4])
 .ret)),
 [(.t 4)]⟩
theorem c90 : funC Try.prog [(0, [1, 2]), (1, [4])] Try.f90 = some (unF l90) := by kernel_rfl
/-- (acme/fit.heights).needs -/
def l91 : LFun := ⟨5, 40, [],
 (.seq
 (.reg false [5, 6, 7, 8, 9, 10] [5, 6, 7, 8, 9, 10] [
 ⟨(some 5), .box, [(.t 0)], none, []⟩,
 ⟨(some 6), .box, [(.t 1)], none, []⟩,
 ⟨(some 7), .box, [(.t 2)], none, []⟩,
 ⟨(some 8), .box, [(.t 3)], none, []⟩,
 ⟨(some 9), .box, [(.t 4)], none, []⟩,
 ⟨(some 10), (.alloc [(.int .i64 0), (.int .i64 0)]), [], none, []⟩] 0 [5, 6, 7, 8, 9, 10])
 (.seq
 (.reg false [] [] [
 ⟨(some 11), (.fa 0), [(.t 7)], none, [13, 14, 17, 18, 19, 20, 21, 22, 23, 25, 26, 27, 28, 29, 30, 31, 32, 33, 34, 35, 36, 37, 38]⟩,
 ⟨(some 12), (.load none), [(.t 11)], none, [13, 14, 17, 18, 19, 20, 21, 22, 23, 25, 26, 27, 28, 29, 30, 31, 32, 33, 34, 35, 36, 37, 38]⟩,
 ⟨(some 13), (.fa 0), [(.t 6)], none, [11, 12, 17, 18, 19, 20, 21, 22, 23, 25, 26, 27, 28, 29, 30, 31, 32, 33, 34, 35, 36, 37, 38]⟩,
 ⟨(some 14), (.load none), [(.t 13)], none, [11, 12, 17, 18, 19, 20, 21, 22, 23, 25, 26, 27, 28, 29, 30, 31, 32, 33, 34, 35, 36, 37, 38]⟩,
 ⟨(some 15), (.bin 0 .sub), [(.t 12), (.t 14)], none, [17, 18, 19, 20, 21, 22, 23, 25, 26, 27, 28, 29, 30, 31, 32, 33, 34, 35, 36, 37, 38]⟩,
 ⟨(some 16), (.bin 0 .mul), [(.c (.int .i64 1000)), (.t 15)], none, [17, 18, 19, 20, 21, 22, 23, 25, 26, 27, 28, 29, 30, 31, 32, 33, 34, 35, 36, 37, 38]⟩,
 ⟨(some 17), (.load (some 2)), [(.t 5)], none, [11, 12, 13, 14, 15, 16, 18, 19, 20, 21, 22, 25, 26, 27, 28, 29, 30, 31, 32, 33, 34, 35, 36]⟩,
 ⟨(some 18), (.fa 1), [(.t 9)], none, [11, 12, 13, 14, 15, 16, 17, 20, 21, 25, 26, 27, 28, 29, 30, 31, 32, 33, 34, 35, 36]⟩,
 ⟨(some 19), (.load none), [(.t 18)], none, [11, 12, 13, 14, 15, 16, 17, 20, 21, 25, 26, 27, 28, 29, 30, 31, 32, 33, 34, 35, 36]⟩,
 ⟨(some 20), (.fa 1), [(.t 8)], none, [11, 12, 13, 14, 15, 16, 17, 18, 19, 25, 26, 27, 28, 29, 30, 31, 32, 33, 34, 35, 36]⟩,
 ⟨(some 21), (.load none), [(.t 20)], none, [11, 12, 13, 14, 15, 16, 17, 18, 19, 25, 26, 27, 28, 29, 30, 31, 32, 33, 34, 35, 36]⟩,
 ⟨(some 22), (.bin 0 .sub), [(.t 19), (.t 21)], none, [11, 12, 13, 14, 15, 16, 17, 25, 26, 27, 28, 29, 30, 31, 32, 33, 34, 35, 36]⟩,
 ⟨(some 23), (.call true false false), [(.f 87), (.t 17), (.t 22)], none, [11, 12, 13, 14, 15, 16, 25, 26, 27, 28, 29, 30, 31, 32, 33, 34, 35, 36]⟩,
 ⟨(some 24), (.bin 0 .add), [(.t 16), (.t 23)], none, [25, 26, 27, 28, 29, 30, 31, 32, 33, 34, 35, 36, 37, 38]⟩,
 ⟨(some 25), (.fa 1), [(.t 7)], none, [11, 12, 13, 14, 15, 16, 17, 18, 19, 20, 21, 22, 23, 24, 27, 28, 31, 32, 33, 34, 35, 36, 37]⟩,
 ⟨(some 26), (.load none), [(.t 25)], none, [11, 12, 13, 14, 15, 16, 17, 18, 19, 20, 21, 22, 23, 24, 27, 28, 31, 32, 33, 34, 35, 36, 37]⟩,
 ⟨(some 27), (.fa 1), [(.t 6)], none, [11, 12, 13, 14, 15, 16, 17, 18, 19, 20, 21, 22, 23, 24, 25, 26, 31, 32, 33, 34, 35, 36, 37]⟩,
 ⟨(some 28), (.load none), [(.t 27)], none, [11, 12, 13, 14, 15, 16, 17, 18, 19, 20, 21, 22, 23, 24, 25, 26, 31, 32, 33, 34, 35, 36, 37]⟩,
 ⟨(some 29), (.bin 0 .sub), [(.t 26), (.t 28)], none, [11, 12, 13, 14, 15, 16, 17, 18, 19, 20, 21, 22, 23, 24, 31, 32, 33, 34, 35, 36, 37]⟩,
 ⟨(some 30), (.bin 0 .mul), [(.c (.int .i64 1000)), (.t 29)], none, [11, 12, 13, 14, 15, 16, 17, 18, 19, 20, 21, 22, 23, 24, 31, 32, 33, 34, 35, 36, 37]⟩,
 ⟨(some 31), (.load (some 2)), [(.t 5)], none, [11, 12, 13, 14, 15, 16, 17, 18, 19, 20, 21, 22, 23, 24, 25, 26, 27, 28, 29, 30, 32, 33, 34, 35, 36]⟩,
 ⟨(some 32), (.fa 2), [(.t 9)], none, [11, 12, 13, 14, 15, 16, 17, 18, 19, 20, 21, 22, 23, 24, 25, 26, 27, 28, 29, 30, 31, 34, 35]⟩,
 ⟨(some 33), (.load none), [(.t 32)], none, [11, 12, 13, 14, 15, 16, 17, 18, 19, 20, 21, 22, 23, 24, 25, 26, 27, 28, 29, 30, 31, 34, 35]⟩,
 ⟨(some 34), (.fa 2), [(.t 8)], none, [11, 12, 13, 14, 15, 16, 17, 18, 19, 20, 21, 22, 23, 24, 25, 26, 27, 28, 29, 30, 31, 32, 33]⟩,
 ⟨(some 35), (.load none), [(.t 34)], none, [11, 12, 13, 14, 15, 16, 17, 18, 19, 20, 21, 22, 23, 24, 25, 26, 27, 28, 29, 30, 31, 32, 33]⟩,
 ⟨(some 36), (.bin 0 .sub), [(.t 33), (.t 35)], none, [11, 12, 13, 14, 15, 16, 17, 18, 19, 20, 21, 22, 23, 24, 25, 26, 27, 28, 29, 30, 31]⟩,
 ⟨(some 37), (.call true false false), [(.f 87), (.t 31), (.t 36)], none, [11, 12, 13, 14, 15, 16, 24, 25, 26, 27, 28, 29, 30]⟩,
 ⟨(some 38), (.bin 0 .sub), [(.t 30), (.t 37)], none, [11, 12, 13, 14, 15, 16, 24]⟩,
 ⟨(some 39), (.build [(.int .i64 0), (.int .i64 0)] [(0, 1), (1, 1)]), [(.t 24), (.t 38)], none, []⟩,
 ⟨none, (.store 2 (some 10)), [(.t 10), (.t 39)], none, []⟩] 0 [10])
 .ret)),
 [(.c 10 (some 2))]⟩
theorem c91 : funC Try.prog [(0, [5, 6, 7, 8, 9, 10]), (1, [10])] Try.f91 = some (unF l91) := by kernel_rfl
/-- acme/thread.within -/
def l92 : LFun := ⟨3, 11, [],
 (.seq
 (.reg false [3, 4] [3, 4] [
 ⟨(some 3), .box, [(.t 0)], none, []⟩,
 ⟨(some 4), .box, [(.t 1)], none, []⟩,
 ⟨(some 6), .mv, [(.c (.bool false))], none, []⟩] 0 [2, 3, 4])
 (.seq
 (.reg false [] [] [
 ⟨(some 7), .mv, [(.t 2)], none, []⟩,
 ⟨(some 8), (.mkf 99), [(.t 3), (.t 4)], none, []⟩,
 ⟨(some 9), (.call false false false), [(.f 84), (.t 7), (.t 8)], none, []⟩,
 ⟨(some 10), (.un .not), [(.t 9)], none, []⟩,
 ⟨(some 6), .mv, [(.t 10)], none, []⟩] 0 [3, 4, 6])
 .ret)),
 [(.t 6)]⟩
theorem c92 : funC Try.prog [(0, [2, 3, 4]), (1, [3, 4, 6])] Try.f92 = some (unF l92) := by kernel_rfl
/-- (acme/thread.form).width -/
def l93 : LFun := ⟨2, 15, [],
 (.seq
 (.reg false [2] [2] [
 ⟨(some 2), .box, [(.t 0)], none, []⟩,
 ⟨(some 4), .mv, [(.c (.int .i64 0))], none, []⟩] 0 [1, 2])
 (.seq
 (.reg false [] [] [
 ⟨(some 5), (.fa 0), [(.t 2)], none, [9, 10, 11, 12, 13]⟩,
 ⟨(some 6), (.fa 0), [(.t 5)], none, [9, 10, 11, 12, 13]⟩,
 ⟨(some 7), (.load none), [(.t 6)], none, [9, 10, 11, 12, 13]⟩,
 ⟨(some 8), (.bin 0 .mul), [(.c (.int .i64 1000)), (.t 7)], none, [9, 10, 11, 12, 13]⟩,
 ⟨(some 9), .mv, [(.t 1)], none, [5, 6, 7, 8, 11, 12]⟩,
 ⟨(some 10), (.bin 0 .mul), [(.c (.int .i64 2)), (.t 9)], none, [5, 6, 7, 8, 11, 12]⟩,
 ⟨(some 11), (.load (some 8)), [(.t 2)], none, [5, 6, 7, 8, 9, 10]⟩,
 ⟨(some 12), (.call true false false), [(.f 100), (.t 11)], none, [5, 6, 7, 8, 9, 10]⟩,
 ⟨(some 13), (.bin 0 .mul), [(.t 10), (.t 12)], none, [5, 6, 7, 8]⟩,
 ⟨(some 14), (.bin 0 .sub), [(.t 8), (.t 13)], none, []⟩,
 ⟨(some 4), .mv, [(.t 14)], none, []⟩] 0 [4])
 .ret)),
 [(.t 4)]⟩
theorem c93 : funC Try.prog [(0, [1, 2]), (1, [4])] Try.f93 = some (unF l93) := by kernel_rfl
/-- acme/fit.isSpan -/
def l94 : LFun := ⟨3, 22, [],
 (.seq
 (.reg false [3] [3] [
 ⟨(some 3), .box, [(.t 0)], none, []⟩,
 ⟨(some 6), .mv, [(.c (.bool false))], none, []⟩] 0 [1, 2, 3])
 (.seq
 (.reg false [19] [19] [
 ⟨(some 7), (.fa 0), [(.t 3)], none, []⟩,
 ⟨(some 8), (.load none), [(.t 7)], none, []⟩,
 ⟨(some 9), (.fa 1), [(.t 3)], none, []⟩,
 ⟨(some 10), (.load none), [(.t 9)], none, []⟩,
 ⟨(some 11), (.bin 0 .leq), [(.t 8), (.t 10)], none, []⟩,
 ⟨(some 12), .mv, [(.t 11)], none, []⟩,
 ⟨(some 13), .mv, [(.t 1)], (some (12, true)), []⟩,
 ⟨(some 14), .mv, [(.t 2)], (some (12, true)), []⟩,
 ⟨(some 15), (.fa 0), [(.t 3)], (some (12, true)), []⟩,
 ⟨(some 16), (.load none), [(.t 15)], (some (12, true)), []⟩,
 ⟨(some 17), (.fa 1), [(.t 3)], (some (12, true)), []⟩,
 ⟨(some 18), (.load none), [(.t 17)], (some (12, true)), []⟩,
 ⟨(some 19), (.bsl 1 [(.int .i64 0)] 2 [0, 1]), [(.t 16), (.t 18)], (some (12, true)), []⟩,
 ⟨(some 20), (.call false false false), [(.f 55), (.t 13), (.t 14), (.t 19)], (some (12, true)), []⟩,
 ⟨(some 21), .pick, [(.t 12), (.t 20), (.c (.bool false))], none, []⟩,
 ⟨(some 6), .mv, [(.t 21)], none, []⟩] 0 [6])
 .ret)),
 [(.t 6)]⟩
theorem c94 : funC Try.prog [(0, [1, 2, 3]), (1, [6])] Try.f94 = some (unF l94) := by kernel_rfl
/-- slices.Min[[]int,int] -/
def b95_0 : LCode :=
 (.seq
 (.seq
 (.reg true [] [] [
 ⟨(some 12), .mv, [(.t 4)], none, []⟩,
 ⟨(some 13), .mv, [(.t 0)], none, []⟩,
 ⟨(some 14), .len, [(.t 13)], none, []⟩,
 ⟨(some 15), (.bin 0 .lss), [(.t 12), (.t 14)], none, []⟩] 0 [0, 3, 4, 15])
 (.cond (.t 15)
 .skip
 (.exit 0)))
 (.seq
 (.block 1
 (.reg true [] [] [
 ⟨(some 18), .mv, [(.t 3)], none, []⟩,
 ⟨(some 19), .mv, [(.t 0)], none, []⟩,
 ⟨(some 20), .mv, [(.t 4)], none, []⟩,
 ⟨(some 21), (.ixs 1), [(.t 19), (.t 20)], none, []⟩,
 ⟨(some 22), (.load none), [(.t 21)], none, []⟩,
 ⟨(some 23), .min, [(.t 18), (.t 22)], none, []⟩,
 ⟨(some 3), .mv, [(.t 23)], none, []⟩] 0 [0, 3, 4]))
 (.reg true [] [] [
 ⟨(some 16), .mv, [(.t 4)], none, []⟩,
 ⟨(some 17), (.bin 0 .add), [(.t 16), (.c (.int .i64 1))], none, []⟩,
 ⟨(some 4), .mv, [(.t 17)], none, []⟩] 0 [0, 3, 4])))
def l95 : LFun := ⟨1, 25, [],
 (.seq
 (.reg false [] [] [
 ⟨(some 2), .mv, [(.c (.int .i64 0))], none, []⟩] 0 [0])
 (.seq
 (.seq
 (.reg false [] [] [
 ⟨(some 5), .mv, [(.t 0)], none, []⟩,
 ⟨(some 6), .len, [(.t 5)], none, []⟩,
 ⟨(some 7), (.bin 0 .lss), [(.t 6), (.c (.int .i64 1))], none, []⟩] 0 [0, 7])
 (.cond (.t 7)
 (.reg false [] [] [
 ⟨none, .bad, [], none, []⟩,
 ⟨none, .bad, [], none, []⟩] 0 [0])
 .skip))
 (.seq
 (.reg false [] [] [
 ⟨(some 9), .mv, [(.t 0)], none, []⟩,
 ⟨(some 10), (.ixs 1), [(.t 9), (.c (.int .i64 0))], none, []⟩,
 ⟨(some 11), (.load none), [(.t 10)], none, []⟩,
 ⟨(some 3), .mv, [(.t 11)], none, []⟩] 0 [0, 3])
 (.seq
 (.seq
 (.reg false [] [] [
 ⟨(some 4), .mv, [(.c (.int .i64 1))], none, []⟩] 0 [0, 3, 4])
 (.block 0
 (.loop b95_0)))
 (.seq
 (.reg false [] [] [
 ⟨(some 24), .mv, [(.t 3)], none, []⟩,
 ⟨(some 2), .mv, [(.t 24)], none, []⟩] 0 [2])
 .ret))))),
 [(.t 2)]⟩
theorem c95 : funC Try.prog [(0, [0]), (1, [0, 7]), (2, [0]), (3, [0, 3]), (4, [0, 3, 4]), (5, [0, 3, 4, 15]), (6, [0, 3, 4]), (7, [0, 3, 4]), (8, [2])] Try.f95 = some (unF l95) := by kernel_rfl
/-- slices.Grow[[]acme/api.FitThread,acme/api.FitThread] -/
def l96 : LFun := ⟨2, 27, [],
 (.seq
 (.reg false [] [] [
 ⟨(some 4), .mv, [(.c .nil)], none, []⟩] 0 [0, 1])
 (.seq
 (.seq
 (.reg false [] [] [
 ⟨(some 5), .mv, [(.t 1)], none, []⟩,
 ⟨(some 6), (.bin 0 .lss), [(.t 5), (.c (.int .i64 0))], none, []⟩] 0 [0, 1, 6])
 (.cond (.t 6)
 (.reg false [] [] [
 ⟨none, .bad, [], none, []⟩,
 ⟨none, .bad, [], none, []⟩] 0 [0, 1])
 .skip))
 (.seq
 (.seq
 (.reg false [] [] [
 ⟨(some 8), .mv, [(.t 1)], none, []⟩,
 ⟨(some 9), .mv, [(.t 0)], none, []⟩,
 ⟨(some 10), .cap, [(.t 9)], none, []⟩,
 ⟨(some 11), .mv, [(.t 0)], none, []⟩,
 ⟨(some 12), .len, [(.t 11)], none, []⟩,
 ⟨(some 13), (.bin 0 .sub), [(.t 10), (.t 12)], none, []⟩,
 ⟨(some 14), (.bin 0 .sub), [(.t 8), (.t 13)], none, []⟩,
 ⟨(some 1), .mv, [(.t 14)], none, []⟩] 0 [0, 1])
 (.seq
 (.reg false [] [] [
 ⟨(some 15), .mv, [(.t 1)], none, []⟩,
 ⟨(some 16), (.bin 0 .gtr), [(.t 15), (.c (.int .i64 0))], none, []⟩] 0 [0, 1, 16])
 (.cond (.t 16)
 (.reg false [22] [] [
 ⟨(some 17), .mv, [(.t 0)], none, []⟩,
 ⟨(some 18), .mv, [(.t 0)], none, []⟩,
 ⟨(some 19), .cap, [(.t 18)], none, []⟩,
 ⟨(some 20), (.sls 3 false true false), [(.t 17), (.t 19)], none, []⟩,
 ⟨(some 21), .mv, [(.t 1)], none, []⟩,
 ⟨(some 22), (.appz 3 40 [.nil, (.int .i64 0), (.int .i64 0)]), [(.t 20), (.t 21)], none, []⟩,
 ⟨(some 23), .mv, [(.t 0)], none, []⟩,
 ⟨(some 24), .len, [(.t 23)], none, []⟩,
 ⟨(some 25), (.trunc 3), [(.t 22), (.t 24)], none, []⟩,
 ⟨(some 0), .mv, [(.t 25)], none, []⟩] 0 [0])
 .skip)))
 (.seq
 (.reg false [] [] [
 ⟨(some 26), .mv, [(.t 0)], none, []⟩,
 ⟨(some 4), .mv, [(.t 26)], none, []⟩] 0 [4])
 .ret)))),
 [(.t 4)]⟩
theorem c96 : funC Try.prog [(0, [0, 1]), (1, [0, 1, 6]), (2, [0, 1]), (3, [0, 1]), (4, [0, 1, 16]), (5, [0]), (6, [4])] Try.f96 = some (unF l96) := by kernel_rfl
/-- slices.IndexFunc[[]int,int] -/
def b97_0 : LCode :=
 (.seq
 (.reg true [] [] [
 ⟨(some 9), (.bin 0 .lss), [(.t 8), (.t 7)], none, []⟩] 0 [0, 1, 7, 8, 9])
 (.seq
 (.cond (.t 9)
 .skip
 (.exit 0))
 (.seq
 (.block 1
 (.seq
 (.reg true [] [] [
 ⟨(some 10), .mv, [(.t 8)], none, []⟩,
 ⟨(some 5), .mv, [(.t 10)], none, []⟩] 0 [0, 1, 5, 7, 8])
 (.seq
 (.reg true [] [] [
 ⟨(some 11), .mv, [(.t 1)], none, []⟩,
 ⟨(some 12), .mv, [(.t 0)], none, []⟩,
 ⟨(some 13), .mv, [(.t 5)], none, []⟩,
 ⟨(some 14), (.ixs 1), [(.t 12), (.t 13)], none, []⟩,
 ⟨(some 15), (.load none), [(.t 14)], none, []⟩,
 ⟨(some 16), (.call false false false), [(.t 11), (.t 15)], none, []⟩] 0 [0, 1, 5, 7, 8, 16])
 (.cond (.t 16)
 (.seq
 (.reg true [] [] [
 ⟨(some 17), .mv, [(.t 5)], none, []⟩,
 ⟨(some 4), .mv, [(.t 17)], none, []⟩] 0 [4])
 .ret)
 .skip))))
 (.reg true [] [] [
 ⟨(some 18), (.bin 0 .add), [(.t 8), (.c (.int .i64 1))], none, []⟩,
 ⟨(some 8), .mv, [(.t 18)], none, []⟩] 0 [0, 1, 7, 8]))))
def l97 : LFun := ⟨2, 19, [],
 (.seq
 (.reg false [] [] [
 ⟨(some 4), .mv, [(.c (.int .i64 0))], none, []⟩] 0 [0, 1])
 (.seq
 (.seq
 (.reg false [] [] [
 ⟨(some 6), .mv, [(.t 0)], none, []⟩,
 ⟨(some 7), .len, [(.t 6)], none, []⟩,
 ⟨(some 8), .mv, [(.c (.int .i64 0))], none, []⟩] 0 [0, 1, 7, 8])
 (.block 0
 (.loop b97_0)))
 (.seq
 (.reg false [] [] [
 ⟨(some 4), .mv, [(.c (.int .i64 (-1)))], none, []⟩] 0 [4])
 .ret))),
 [(.t 4)]⟩
theorem c97 : funC Try.prog [(0, [0, 1]), (1, [0, 1, 7, 8]), (2, [0, 1, 7, 8, 9]), (3, [0, 1, 5, 7, 8]), (4, [0, 1, 5, 7, 8, 16]), (5, [4]), (6, [0, 1, 7, 8]), (7, [4])] Try.f97 = some (unF l97) := by kernel_rfl
/-- (acme/fit.ideal).flanks$1 -/
def b98_0 : LCode :=
 (.seq
 (.reg true [] [] [
 ⟨(some 11), (.bin 0 .lss), [(.t 10), (.t 9)], none, []⟩] 0 [0, 2, 8, 9, 10, 11])
 (.seq
 (.cond (.t 11)
 .skip
 (.exit 0))
 (.seq
 (.block 1
 (.seq
 (.reg true [5] [5] [
 ⟨(some 12), .mv, [(.t 10)], none, []⟩,
 ⟨(some 13), (.ixs 2), [(.t 8), (.t 10)], none, []⟩,
 ⟨(some 14), (.load (some 2)), [(.t 13)], none, []⟩,
 ⟨(some 5), (.alloc [(.int .i64 0), (.int .i64 0)]), [], none, []⟩,
 ⟨(some 4), .mv, [(.t 12)], none, []⟩,
 ⟨none, (.store 2 none), [(.t 5), (.t 14)], none, []⟩] 0 [0, 2, 4, 5, 8, 9, 10])
 (.seq
 (.reg true [] [] [
 ⟨(some 15), .mv, [(.t 4)], none, []⟩,
 ⟨(some 16), (.bin 0 .mul), [(.c (.int .i64 4)), (.t 15)], none, []⟩,
 ⟨(some 17), (.fa 0), [(.t 2)], none, []⟩,
 ⟨(some 18), (.fa 0), [(.t 17)], none, []⟩,
 ⟨(some 19), (.load none), [(.t 18)], none, []⟩,
 ⟨(some 20), (.bin 0 .mul), [(.t 16), (.t 19)], none, []⟩,
 ⟨(some 6), .mv, [(.t 20)], none, []⟩] 0 [0, 2, 5, 6, 8, 9, 10])
 (.seq
 (.reg true [] [] [
 ⟨(some 21), .mv, [(.t 0)], none, []⟩,
 ⟨(some 22), (.fa 0), [(.t 5)], none, []⟩,
 ⟨(some 23), (.load none), [(.t 22)], none, []⟩,
 ⟨(some 24), (.bin 0 .mul), [(.c (.int .i64 4)), (.t 23)], none, []⟩,
 ⟨(some 25), .mv, [(.t 6)], none, []⟩,
 ⟨(some 26), (.bin 0 .sub), [(.t 24), (.t 25)], none, []⟩,
 ⟨(some 27), (.fa 0), [(.t 2)], none, []⟩,
 ⟨(some 28), (.fa 0), [(.t 27)], none, []⟩,
 ⟨(some 29), (.load none), [(.t 28)], none, []⟩,
 ⟨(some 30), (.bin 0 .add), [(.t 26), (.t 29)], none, []⟩,
 ⟨(some 31), (.bin 0 .mul), [(.c (.int .i64 1000)), (.t 30)], none, []⟩,
 ⟨(some 32), (.fa 1), [(.t 5)], none, []⟩,
 ⟨(some 33), (.load none), [(.t 32)], none, []⟩,
 ⟨(some 34), (.bin 0 .mul), [(.c (.int .i64 4)), (.t 33)], none, []⟩,
 ⟨(some 35), .mv, [(.t 6)], none, []⟩,
 ⟨(some 36), (.bin 0 .sub), [(.t 34), (.t 35)], none, []⟩,
 ⟨(some 37), (.fa 0), [(.t 2)], none, []⟩,
 ⟨(some 38), (.fa 0), [(.t 37)], none, []⟩,
 ⟨(some 39), (.load none), [(.t 38)], none, []⟩,
 ⟨(some 40), (.bin 0 .sub), [(.t 36), (.t 39)], none, []⟩,
 ⟨(some 41), (.bin 0 .mul), [(.c (.int .i64 1000)), (.t 40)], none, []⟩,
 ⟨(some 42), (.call false false false), [(.t 21), (.t 31), (.t 41)], none, []⟩,
 ⟨(some 43), (.un .not), [(.t 42)], none, []⟩] 0 [0, 2, 8, 9, 10, 43])
 (.cond (.t 43)
 .ret
 .skip)))))
 (.reg true [] [] [
 ⟨(some 44), (.bin 0 .add), [(.t 10), (.c (.int .i64 1))], none, []⟩,
 ⟨(some 10), .mv, [(.t 44)], none, []⟩] 0 [0, 2, 8, 9, 10]))))
def l98 : LFun := ⟨3, 45, [],
 (.seq
 (.reg false [] [] [
 ⟨(some 7), (.fa 0), [(.t 1)], none, []⟩,
 ⟨(some 8), (.load none), [(.t 7)], none, []⟩,
 ⟨(some 9), .len, [(.t 8)], none, []⟩,
 ⟨(some 10), .mv, [(.c (.int .i64 0))], none, []⟩] 0 [0, 2, 8, 9, 10])
 (.block 0
 (.loop b98_0))),
 []⟩
theorem c98 : funC Try.prog [(0, [0, 2, 8, 9, 10]), (1, [0, 2, 8, 9, 10, 11]), (2, [0, 2, 4, 5, 8, 9, 10]), (3, [0, 2, 5, 6, 8, 9, 10]), (4, [0, 2, 8, 9, 10, 43]), (5, [0, 2, 8, 9, 10])] Try.f98 = some (unF l98) := by kernel_rfl
/-- acme/thread.within$1 -/
def l99 : LFun := ⟨3, 13, [],
 (.seq
 (.reg false [] [] [
 ⟨(some 4), .mv, [(.c (.bool false))], none, []⟩] 0 [0, 1, 2])
 (.seq
 (.reg false [] [] [
 ⟨(some 5), .mv, [(.t 0)], none, []⟩,
 ⟨(some 6), (.load none), [(.t 1)], none, []⟩,
 ⟨(some 7), (.bin 0 .lss), [(.t 5), (.t 6)], none, []⟩,
 ⟨(some 8), .mv, [(.t 7)], none, []⟩,
 ⟨(some 9), .mv, [(.t 0)], (some (8, false)), []⟩,
 ⟨(some 10), (.load none), [(.t 2)], (some (8, false)), []⟩,
 ⟨(some 11), (.bin 0 .gtr), [(.t 9), (.t 10)], (some (8, false)), []⟩,
 ⟨(some 12), .pick, [(.t 8), (.c (.bool true)), (.t 11)], none, []⟩,
 ⟨(some 4), .mv, [(.t 12)], none, []⟩] 0 [4])
 .ret)),
 [(.t 4)]⟩
theorem c99 : funC Try.prog [(0, [0, 1, 2]), (1, [4])] Try.f99 = some (unF l99) := by kernel_rfl
/-- (acme/thread.form).leans -/
def l100 : LFun := ⟨1, 10, [],
 (.seq
 (.reg false [1] [1] [
 ⟨(some 1), .box, [(.t 0)], none, []⟩,
 ⟨(some 2), .mv, [(.c (.int .i64 0))], none, []⟩] 0 [1])
 (.seq
 (.reg false [] [] [
 ⟨(some 3), (.fa 0), [(.t 1)], none, []⟩,
 ⟨(some 4), (.fa 1), [(.t 3)], none, []⟩,
 ⟨(some 5), (.load none), [(.t 4)], none, []⟩,
 ⟨(some 6), (.fa 0), [(.t 1)], none, []⟩,
 ⟨(some 7), (.fa 2), [(.t 6)], none, []⟩,
 ⟨(some 8), (.load none), [(.t 7)], none, []⟩,
 ⟨(some 9), (.bin 0 .add), [(.t 5), (.t 8)], none, []⟩,
 ⟨(some 2), .mv, [(.t 9)], none, []⟩] 0 [2])
 .ret)),
 [(.t 2)]⟩
theorem c100 : funC Try.prog [(0, [1]), (1, [2])] Try.f100 = some (unF l100) := by kernel_rfl
end Go.Lo

/- The functions that are reached, compiled for the plain machine. -/
namespace Go.Lo
open Go.Proofs
def C2 : Nat → Option LFun
  | 3 => some l3
  | 4 => some l4
  | 9 => some l9
  | 12 => some l12
  | 13 => some l13
  | 14 => some l14
  | 15 => some l15
  | 16 => some l16
  | 17 => some l17
  | 18 => some l18
  | 19 => some l19
  | 20 => some l20
  | 21 => some l21
  | 22 => some l22
  | 23 => some l23
  | 24 => some l24
  | 25 => some l25
  | 26 => some l26
  | 27 => some l27
  | 28 => some l28
  | 29 => some l29
  | 30 => some l30
  | 31 => some l31
  | 35 => some l35
  | 38 => some l38
  | 39 => some l39
  | 40 => some l40
  | 41 => some l41
  | 42 => some l42
  | 43 => some l43
  | 52 => some l52
  | 53 => some l53
  | 54 => some l54
  | 55 => some l55
  | 56 => some l56
  | 57 => some l57
  | 58 => some l58
  | 59 => some l59
  | 60 => some l60
  | 61 => some l61
  | 62 => some l62
  | 63 => some l63
  | 64 => some l64
  | 65 => some l65
  | 66 => some l66
  | 67 => some l67
  | 68 => some l68
  | 69 => some l69
  | 70 => some l70
  | 71 => some l71
  | 72 => some l72
  | 73 => some l73
  | 74 => some l74
  | 76 => some l76
  | 77 => some l77
  | 78 => some l78
  | 79 => some l79
  | 80 => some l80
  | 81 => some l81
  | 83 => some l83
  | 84 => some l84
  | 85 => some l85
  | 86 => some l86
  | 87 => some l87
  | 88 => some l88
  | 89 => some l89
  | 90 => some l90
  | 91 => some l91
  | 92 => some l92
  | 93 => some l93
  | 94 => some l94
  | 95 => some l95
  | 96 => some l96
  | 97 => some l97
  | 98 => some l98
  | 99 => some l99
  | 100 => some l100
  | _ => none
def Ct : Nat → Option LFun := fun k => (C2 k).map unF
def Ft : Nat → Option (List V → Option V) := fun _ => none
theorem tabOk : TabOk Try.prog Ft Ct where
  mixed := by kernel_rfl
  told _ _ _ _ h := by cases h
  code f lf h := by
    unfold Ct at h
    obtain ⟨l, hl, rfl⟩ := Option.map_eq_some_iff.1 h
    unfold C2 at hl
    split at hl
    · injection hl with hl; subst hl; exact ⟨_, _, Try.func3, of_decide_eq_true (by kernel_rfl), c3⟩
    · injection hl with hl; subst hl; exact ⟨_, _, Try.func4, of_decide_eq_true (by kernel_rfl), c4⟩
    · injection hl with hl; subst hl; exact ⟨_, _, Try.func9, of_decide_eq_true (by kernel_rfl), c9⟩
    · injection hl with hl; subst hl; exact ⟨_, _, Try.func12, of_decide_eq_true (by kernel_rfl), c12⟩
    · injection hl with hl; subst hl; exact ⟨_, _, Try.func13, of_decide_eq_true (by kernel_rfl), c13⟩
    · injection hl with hl; subst hl; exact ⟨_, _, Try.func14, of_decide_eq_true (by kernel_rfl), c14⟩
    · injection hl with hl; subst hl; exact ⟨_, _, Try.func15, of_decide_eq_true (by kernel_rfl), c15⟩
    · injection hl with hl; subst hl; exact ⟨_, _, Try.func16, of_decide_eq_true (by kernel_rfl), c16⟩
    · injection hl with hl; subst hl; exact ⟨_, _, Try.func17, of_decide_eq_true (by kernel_rfl), c17⟩
    · injection hl with hl; subst hl; exact ⟨_, _, Try.func18, of_decide_eq_true (by kernel_rfl), c18⟩
    · injection hl with hl; subst hl; exact ⟨_, _, Try.func19, of_decide_eq_true (by kernel_rfl), c19⟩
    · injection hl with hl; subst hl; exact ⟨_, _, Try.func20, of_decide_eq_true (by kernel_rfl), c20⟩
    · injection hl with hl; subst hl; exact ⟨_, _, Try.func21, of_decide_eq_true (by kernel_rfl), c21⟩
    · injection hl with hl; subst hl; exact ⟨_, _, Try.func22, of_decide_eq_true (by kernel_rfl), c22⟩
    · injection hl with hl; subst hl; exact ⟨_, _, Try.func23, of_decide_eq_true (by kernel_rfl), c23⟩
    · injection hl with hl; subst hl; exact ⟨_, _, Try.func24, of_decide_eq_true (by kernel_rfl), c24⟩
    · injection hl with hl; subst hl; exact ⟨_, _, Try.func25, of_decide_eq_true (by kernel_rfl), c25⟩
    · injection hl with hl; subst hl; exact ⟨_, _, Try.func26, of_decide_eq_true (by kernel_rfl), c26⟩
    · injection hl with hl; subst hl; exact ⟨_, _, Try.func27, of_decide_eq_true (by kernel_rfl), c27⟩
    · injection hl with hl; subst hl; exact ⟨_, _, Try.func28, of_decide_eq_true (by kernel_rfl), c28⟩
    · injection hl with hl; subst hl; exact ⟨_, _, Try.func29, of_decide_eq_true (by kernel_rfl), c29⟩
    · injection hl with hl; subst hl; exact ⟨_, _, Try.func30, of_decide_eq_true (by kernel_rfl), c30⟩
    · injection hl with hl; subst hl; exact ⟨_, _, Try.func31, of_decide_eq_true (by kernel_rfl), c31⟩
    · injection hl with hl; subst hl; exact ⟨_, _, Try.func35, of_decide_eq_true (by kernel_rfl), c35⟩
    · injection hl with hl; subst hl; exact ⟨_, _, Try.func38, of_decide_eq_true (by kernel_rfl), c38⟩
    · injection hl with hl; subst hl; exact ⟨_, _, Try.func39, of_decide_eq_true (by kernel_rfl), c39⟩
    · injection hl with hl; subst hl; exact ⟨_, _, Try.func40, of_decide_eq_true (by kernel_rfl), c40⟩
    · injection hl with hl; subst hl; exact ⟨_, _, Try.func41, of_decide_eq_true (by kernel_rfl), c41⟩
    · injection hl with hl; subst hl; exact ⟨_, _, Try.func42, of_decide_eq_true (by kernel_rfl), c42⟩
    · injection hl with hl; subst hl; exact ⟨_, _, Try.func43, of_decide_eq_true (by kernel_rfl), c43⟩
    · injection hl with hl; subst hl; exact ⟨_, _, Try.func52, of_decide_eq_true (by kernel_rfl), c52⟩
    · injection hl with hl; subst hl; exact ⟨_, _, Try.func53, of_decide_eq_true (by kernel_rfl), c53⟩
    · injection hl with hl; subst hl; exact ⟨_, _, Try.func54, of_decide_eq_true (by kernel_rfl), c54⟩
    · injection hl with hl; subst hl; exact ⟨_, _, Try.func55, of_decide_eq_true (by kernel_rfl), c55⟩
    · injection hl with hl; subst hl; exact ⟨_, _, Try.func56, of_decide_eq_true (by kernel_rfl), c56⟩
    · injection hl with hl; subst hl; exact ⟨_, _, Try.func57, of_decide_eq_true (by kernel_rfl), c57⟩
    · injection hl with hl; subst hl; exact ⟨_, _, Try.func58, of_decide_eq_true (by kernel_rfl), c58⟩
    · injection hl with hl; subst hl; exact ⟨_, _, Try.func59, of_decide_eq_true (by kernel_rfl), c59⟩
    · injection hl with hl; subst hl; exact ⟨_, _, Try.func60, of_decide_eq_true (by kernel_rfl), c60⟩
    · injection hl with hl; subst hl; exact ⟨_, _, Try.func61, of_decide_eq_true (by kernel_rfl), c61⟩
    · injection hl with hl; subst hl; exact ⟨_, _, Try.func62, of_decide_eq_true (by kernel_rfl), c62⟩
    · injection hl with hl; subst hl; exact ⟨_, _, Try.func63, of_decide_eq_true (by kernel_rfl), c63⟩
    · injection hl with hl; subst hl; exact ⟨_, _, Try.func64, of_decide_eq_true (by kernel_rfl), c64⟩
    · injection hl with hl; subst hl; exact ⟨_, _, Try.func65, of_decide_eq_true (by kernel_rfl), c65⟩
    · injection hl with hl; subst hl; exact ⟨_, _, Try.func66, of_decide_eq_true (by kernel_rfl), c66⟩
    · injection hl with hl; subst hl; exact ⟨_, _, Try.func67, of_decide_eq_true (by kernel_rfl), c67⟩
    · injection hl with hl; subst hl; exact ⟨_, _, Try.func68, of_decide_eq_true (by kernel_rfl), c68⟩
    · injection hl with hl; subst hl; exact ⟨_, _, Try.func69, of_decide_eq_true (by kernel_rfl), c69⟩
    · injection hl with hl; subst hl; exact ⟨_, _, Try.func70, of_decide_eq_true (by kernel_rfl), c70⟩
    · injection hl with hl; subst hl; exact ⟨_, _, Try.func71, of_decide_eq_true (by kernel_rfl), c71⟩
    · injection hl with hl; subst hl; exact ⟨_, _, Try.func72, of_decide_eq_true (by kernel_rfl), c72⟩
    · injection hl with hl; subst hl; exact ⟨_, _, Try.func73, of_decide_eq_true (by kernel_rfl), c73⟩
    · injection hl with hl; subst hl; exact ⟨_, _, Try.func74, of_decide_eq_true (by kernel_rfl), c74⟩
    · injection hl with hl; subst hl; exact ⟨_, _, Try.func76, of_decide_eq_true (by kernel_rfl), c76⟩
    · injection hl with hl; subst hl; exact ⟨_, _, Try.func77, of_decide_eq_true (by kernel_rfl), c77⟩
    · injection hl with hl; subst hl; exact ⟨_, _, Try.func78, of_decide_eq_true (by kernel_rfl), c78⟩
    · injection hl with hl; subst hl; exact ⟨_, _, Try.func79, of_decide_eq_true (by kernel_rfl), c79⟩
    · injection hl with hl; subst hl; exact ⟨_, _, Try.func80, of_decide_eq_true (by kernel_rfl), c80⟩
    · injection hl with hl; subst hl; exact ⟨_, _, Try.func81, of_decide_eq_true (by kernel_rfl), c81⟩
    · injection hl with hl; subst hl; exact ⟨_, _, Try.func83, of_decide_eq_true (by kernel_rfl), c83⟩
    · injection hl with hl; subst hl; exact ⟨_, _, Try.func84, of_decide_eq_true (by kernel_rfl), c84⟩
    · injection hl with hl; subst hl; exact ⟨_, _, Try.func85, of_decide_eq_true (by kernel_rfl), c85⟩
    · injection hl with hl; subst hl; exact ⟨_, _, Try.func86, of_decide_eq_true (by kernel_rfl), c86⟩
    · injection hl with hl; subst hl; exact ⟨_, _, Try.func87, of_decide_eq_true (by kernel_rfl), c87⟩
    · injection hl with hl; subst hl; exact ⟨_, _, Try.func88, of_decide_eq_true (by kernel_rfl), c88⟩
    · injection hl with hl; subst hl; exact ⟨_, _, Try.func89, of_decide_eq_true (by kernel_rfl), c89⟩
    · injection hl with hl; subst hl; exact ⟨_, _, Try.func90, of_decide_eq_true (by kernel_rfl), c90⟩
    · injection hl with hl; subst hl; exact ⟨_, _, Try.func91, of_decide_eq_true (by kernel_rfl), c91⟩
    · injection hl with hl; subst hl; exact ⟨_, _, Try.func92, of_decide_eq_true (by kernel_rfl), c92⟩
    · injection hl with hl; subst hl; exact ⟨_, _, Try.func93, of_decide_eq_true (by kernel_rfl), c93⟩
    · injection hl with hl; subst hl; exact ⟨_, _, Try.func94, of_decide_eq_true (by kernel_rfl), c94⟩
    · injection hl with hl; subst hl; exact ⟨_, _, Try.func95, of_decide_eq_true (by kernel_rfl), c95⟩
    · injection hl with hl; subst hl; exact ⟨_, _, Try.func96, of_decide_eq_true (by kernel_rfl), c96⟩
    · injection hl with hl; subst hl; exact ⟨_, _, Try.func97, of_decide_eq_true (by kernel_rfl), c97⟩
    · injection hl with hl; subst hl; exact ⟨_, _, Try.func98, of_decide_eq_true (by kernel_rfl), c98⟩
    · injection hl with hl; subst hl; exact ⟨_, _, Try.func99, of_decide_eq_true (by kernel_rfl), c99⟩
    · injection hl with hl; subst hl; exact ⟨_, _, Try.func100, of_decide_eq_true (by kernel_rfl), c100⟩
    · cases hl
theorem tabC (f : Nat) (lf : LFun) (h : C2 f = some lf) : Ct f = some (unF lf) ∧ okC lf.body = true ∧ lf.sl = [] := by
  refine ⟨by unfold Ct; rw [h]; rfl, ?_⟩
  unfold C2 at h
  split at h
  · injection h with h; subst h; exact ⟨by kernel_rfl, rfl⟩
  · injection h with h; subst h; exact ⟨by kernel_rfl, rfl⟩
  · injection h with h; subst h; exact ⟨by kernel_rfl, rfl⟩
  · injection h with h; subst h; exact ⟨by kernel_rfl, rfl⟩
  · injection h with h; subst h; exact ⟨by kernel_rfl, rfl⟩
  · injection h with h; subst h; exact ⟨by kernel_rfl, rfl⟩
  · injection h with h; subst h; exact ⟨by kernel_rfl, rfl⟩
  · injection h with h; subst h; exact ⟨by kernel_rfl, rfl⟩
  · injection h with h; subst h; exact ⟨by kernel_rfl, rfl⟩
  · injection h with h; subst h; exact ⟨by kernel_rfl, rfl⟩
  · injection h with h; subst h; exact ⟨by kernel_rfl, rfl⟩
  · injection h with h; subst h; exact ⟨by kernel_rfl, rfl⟩
  · injection h with h; subst h; exact ⟨by kernel_rfl, rfl⟩
  · injection h with h; subst h; exact ⟨by kernel_rfl, rfl⟩
  · injection h with h; subst h; exact ⟨by kernel_rfl, rfl⟩
  · injection h with h; subst h; exact ⟨by kernel_rfl, rfl⟩
  · injection h with h; subst h; exact ⟨by kernel_rfl, rfl⟩
  · injection h with h; subst h; exact ⟨by kernel_rfl, rfl⟩
  · injection h with h; subst h; exact ⟨by kernel_rfl, rfl⟩
  · injection h with h; subst h; exact ⟨by kernel_rfl, rfl⟩
  · injection h with h; subst h; exact ⟨by kernel_rfl, rfl⟩
  · injection h with h; subst h; exact ⟨by kernel_rfl, rfl⟩
  · injection h with h; subst h; exact ⟨by kernel_rfl, rfl⟩
  · injection h with h; subst h; exact ⟨by kernel_rfl, rfl⟩
  · injection h with h; subst h; exact ⟨by kernel_rfl, rfl⟩
  · injection h with h; subst h; exact ⟨by kernel_rfl, rfl⟩
  · injection h with h; subst h; exact ⟨by kernel_rfl, rfl⟩
  · injection h with h; subst h; exact ⟨by kernel_rfl, rfl⟩
  · injection h with h; subst h; exact ⟨by kernel_rfl, rfl⟩
  · injection h with h; subst h; exact ⟨by kernel_rfl, rfl⟩
  · injection h with h; subst h; exact ⟨by kernel_rfl, rfl⟩
  · injection h with h; subst h; exact ⟨by kernel_rfl, rfl⟩
  · injection h with h; subst h; exact ⟨by kernel_rfl, rfl⟩
  · injection h with h; subst h; exact ⟨by kernel_rfl, rfl⟩
  · injection h with h; subst h; exact ⟨by kernel_rfl, rfl⟩
  · injection h with h; subst h; exact ⟨by kernel_rfl, rfl⟩
  · injection h with h; subst h; exact ⟨by kernel_rfl, rfl⟩
  · injection h with h; subst h; exact ⟨by kernel_rfl, rfl⟩
  · injection h with h; subst h; exact ⟨by kernel_rfl, rfl⟩
  · injection h with h; subst h; exact ⟨by kernel_rfl, rfl⟩
  · injection h with h; subst h; exact ⟨by kernel_rfl, rfl⟩
  · injection h with h; subst h; exact ⟨by kernel_rfl, rfl⟩
  · injection h with h; subst h; exact ⟨by kernel_rfl, rfl⟩
  · injection h with h; subst h; exact ⟨by kernel_rfl, rfl⟩
  · injection h with h; subst h; exact ⟨by kernel_rfl, rfl⟩
  · injection h with h; subst h; exact ⟨by kernel_rfl, rfl⟩
  · injection h with h; subst h; exact ⟨by kernel_rfl, rfl⟩
  · injection h with h; subst h; exact ⟨by kernel_rfl, rfl⟩
  · injection h with h; subst h; exact ⟨by kernel_rfl, rfl⟩
  · injection h with h; subst h; exact ⟨by kernel_rfl, rfl⟩
  · injection h with h; subst h; exact ⟨by kernel_rfl, rfl⟩
  · injection h with h; subst h; exact ⟨by kernel_rfl, rfl⟩
  · injection h with h; subst h; exact ⟨by kernel_rfl, rfl⟩
  · injection h with h; subst h; exact ⟨by kernel_rfl, rfl⟩
  · injection h with h; subst h; exact ⟨by kernel_rfl, rfl⟩
  · injection h with h; subst h; exact ⟨by kernel_rfl, rfl⟩
  · injection h with h; subst h; exact ⟨by kernel_rfl, rfl⟩
  · injection h with h; subst h; exact ⟨by kernel_rfl, rfl⟩
  · injection h with h; subst h; exact ⟨by kernel_rfl, rfl⟩
  · injection h with h; subst h; exact ⟨by kernel_rfl, rfl⟩
  · injection h with h; subst h; exact ⟨by kernel_rfl, rfl⟩
  · injection h with h; subst h; exact ⟨by kernel_rfl, rfl⟩
  · injection h with h; subst h; exact ⟨by kernel_rfl, rfl⟩
  · injection h with h; subst h; exact ⟨by kernel_rfl, rfl⟩
  · injection h with h; subst h; exact ⟨by kernel_rfl, rfl⟩
  · injection h with h; subst h; exact ⟨by kernel_rfl, rfl⟩
  · injection h with h; subst h; exact ⟨by kernel_rfl, rfl⟩
  · injection h with h; subst h; exact ⟨by kernel_rfl, rfl⟩
  · injection h with h; subst h; exact ⟨by kernel_rfl, rfl⟩
  · injection h with h; subst h; exact ⟨by kernel_rfl, rfl⟩
  · injection h with h; subst h; exact ⟨by kernel_rfl, rfl⟩
  · injection h with h; subst h; exact ⟨by kernel_rfl, rfl⟩
  · injection h with h; subst h; exact ⟨by kernel_rfl, rfl⟩
  · injection h with h; subst h; exact ⟨by kernel_rfl, rfl⟩
  · injection h with h; subst h; exact ⟨by kernel_rfl, rfl⟩
  · injection h with h; subst h; exact ⟨by kernel_rfl, rfl⟩
  · injection h with h; subst h; exact ⟨by kernel_rfl, rfl⟩
  · cases h
end Go.Lo

/- Words for the walks of the plain machine. -/
namespace Go.Lo
abbrev I (n : Int) : V := .int .i64 n
abbrev B (b : Bool) : V := .bool b
/-- A slice that nobody writes any more. -/
abbrev S (sz : Nat) (es : List (List V)) : V := .sl none sz es
/-- Integers as elements. -/
abbrev eI (xs : List Int) : List (List V) := xs.map fun x => [I x]
theorem wrap64 {n : Int} (h1 : -9223372036854775808 ≤ n) (h2 : n ≤ 9223372036854775807) : IntKind.i64.wrap n = n := by
  simp [IntKind.wrap, IntKind.bits, IntKind.signed]
  omega
theorem if_iff {α : Type} {P Q : Prop} [Decidable P] [Decidable Q] {x y : α} (h : P ↔ Q) : (if P then x else y) = if Q then x else y := by by_cases hp : P <;> simp [hp, ← h]
theorem iter_succ {f : St → Option (Ex × St)} {n : Nat} {σ : St} : iter f (n + 1) σ = match f σ with
    | some (.normal, σ') => iter f n σ'
    | r => r := rfl
theorem loop_find {f : St → Option (Ex × St)} {s : Nat → St} {n : Nat} {g : Nat → Bool} {E : Nat → Ex × St} {X : Ex × St} (hs : ∀ i, i < n → f (s i) = some (if g i = true then E i else (.normal, s (i + 1)))) (hE : ∀ i, (E i).1 ≠ .normal) (hn : f (s n) = some X) (hX : X.1 ≠ .normal) :
    ∀ (k i : Nat), i + k = n → iter f (k + 1) (s i) = some (match (List.range' i k).find? g with
      | some j => E j
      | none => X)
  | 0, i, h => by
    have : i = n := by omega
    subst this
    rw [iter_succ, hn]
    obtain ⟨x, σ⟩ := X
    cases x with
    | normal => exact (hX rfl).elim
    | exit id => rfl
    | ret => rfl
  | k + 1, i, h => by
    rw [iter_succ, hs i (by omega), List.range'_succ, List.find?_cons]
    cases hg : g i with
    | true =>
      simp only [if_true]
      have he := hE i
      generalize E i = e at he ⊢
      obtain ⟨x, σ⟩ := e
      cases x with
      | normal => exact (he rfl).elim
      | exit id => rfl
      | ret => rfl
    | false =>
      simp only [Bool.false_eq_true, if_false]
      exact loop_find hs hE hn hX k (i + 1) (by omega)
/-- The first element, and the first index, for which a function says so. -/
def prAt {α : Type} (pr : α → Bool) (xs : List α) (i : Nat) : Bool := match xs[i]? with
  | some x => pr x
  | none => false
theorem prAt_some {α : Type} {pr : α → Bool} {xs : List α} {i : Nat} {x : α} (h : xs[i]? = some x) : prAt pr xs i = pr x := by simp only [prAt, h]
theorem find_idx {α : Type} (pr : α → Bool) (xs : List α) : (List.range' 0 xs.length).find? (prAt pr xs) = xs.findIdx? pr := by
  have key : ∀ (l : List α) (k : Nat) (g : Nat → Bool), (∀ i x, l[i]? = some x → g (k + i) = pr x) → (List.range' k l.length).find? g = (l.findIdx? pr).map (· + k) := by
    intro l
    induction l with
    | nil => intro k g _; rfl
    | cons x l ih =>
      intro k g hg
      rw [List.length_cons, List.range'_succ, List.find?_cons, List.findIdx?_cons]
      have h0 := hg 0 x rfl
      rw [Nat.add_zero] at h0
      rw [h0]
      cases hx : pr x with
      | true => simp
      | false =>
        simp only [Bool.false_eq_true, if_false, Option.map_map]
        rw [ih (k + 1) g fun i y hy => by rw [show k + 1 + i = k + (i + 1) by omega]; exact hg (i + 1) y (by simpa using hy)]
        cases l.findIdx? pr <;> simp; omega
  have := key xs 0 (prAt pr xs) (fun i x h => by rw [Nat.zero_add, prAt_some h])
  rw [this]; cases xs.findIdx? pr <;> simp
/-- A search, by what a round comes to. -/
theorem loop_if {f : St → Option (Ex × St)} {s : Nat → St} {n : Nat} {g : Nat → Bool} {E : Nat → Ex × St} {X : Ex × St} (hs : ∀ i, i < n → f (s i) = if g i = true then some (E i) else some (.normal, s (i + 1))) (hE : ∀ i, (E i).1 ≠ .normal) (hn : f (s n) = some X) (hX : X.1 ≠ .normal) :
    iter f (n + 1) (s 0) = some (match (List.range' 0 n).find? g with
      | some j => E j
      | none => X) :=
  loop_find (fun i hi => by rw [hs i hi]; split <;> rfl) hE hn hX n 0 (by omega)
theorem loop_all {f : St → Option (Ex × St)} {s : Nat → St} {n : Nat} {X : Ex × St} (hs : ∀ i, i < n → f (s i) = some (.normal, s (i + 1))) (hn : f (s n) = some X) (hX : X.1 ≠ .normal) : iter f (n + 1) (s 0) = some X := by
  have := loop_find (g := fun _ => false) (E := fun i => (.ret, s i)) (s := s) (fun i hi => by rw [hs i hi]; rfl) (fun _ => by simp) hn hX n 0 (by omega)
  rw [this]
  have : (List.range' 0 n).find? (fun _ => false) = none := by simp
  rw [this]
/-! ### How the machine goes on, in small steps -/
section
variable (call : Nat → List V → Option V) (N : Nat)
def goE (dst : Option Nat) (is : List LIns) (σ : St) : Option Eff2 → Option St
  | some e => stepL2 call is (apply2 σ dst e)
  | none => none
def goK (dst : Option Nat) (k : K) (ex : List Nat) (is : List LIns) (σ : St) : Option (List V) → Option St
  | some vs => goE call dst is σ (sem2 call (bxOf σ.fr ex) ex (dst.getD 0) k vs)
  | none => none
def goG (dst : Option Nat) (k : K) (xs : List Opd) (ex : List Nat) (is : List LIns) (σ : St) (b : Bool) : Option V → Option St
  | some (.bool c) => match c == b with
    | true => goK call dst k ex is σ (opds σ.fr xs)
    | false => stepL2 call is { σ with fr := putO σ.fr dst .und }
  | some .und => stepL2 call is { σ with fr := putO σ.fr dst .und }
  | _ => none
def regE (kn : Nat) (kp : List Nat) : Option St → Option (Ex × St)
  | some σ => some (.normal, { σ with fr := keepL kn kp σ.fr })
  | none => none
def seqE (b : LCode) : Option (Ex × St) → Option (Ex × St)
  | some (.normal, σ) => evC2 call N b σ
  | r => r
def conE (a b : LCode) (σ : St) : Option V → Option (Ex × St)
  | some (.bool true) => evC2 call N a σ
  | some (.bool false) => evC2 call N b σ
  | _ => none
def blkE (id : Nat) : Option (Ex × St) → Option (Ex × St)
  | some (.exit j, σ) => if j = id then some (.normal, σ) else some (.exit j, σ)
  | r => r
def endE (it : Bool) (res : List RV) : Option (Ex × St) → Option V
  | some (.normal, σ) => finish2 it res σ
  | some (.ret, σ) => finish2 it res σ
  | _ => none
variable {call N}
variable {dst : Option Nat} {k : K} {xs : List Opd} {ex : List Nat} {is : List LIns} {σ : St} {e : Eff2} {vs : List V}
@[simp] theorem goE_some : goE call dst is σ (some e) = stepL2 call is (apply2 σ dst e) := rfl
@[simp] theorem goK_some : goK call dst k ex is σ (some vs) = goE call dst is σ (sem2 call (bxOf σ.fr ex) ex (dst.getD 0) k vs) := rfl
@[simp] theorem goG_tt : goG call dst k xs ex is σ true (some (.bool true)) = goK call dst k ex is σ (opds σ.fr xs) := rfl
@[simp] theorem goG_tf : goG call dst k xs ex is σ true (some (.bool false)) = stepL2 call is { σ with fr := putO σ.fr dst .und } := rfl
@[simp] theorem goG_ft : goG call dst k xs ex is σ false (some (.bool true)) = stepL2 call is { σ with fr := putO σ.fr dst .und } := rfl
@[simp] theorem goG_ff : goG call dst k xs ex is σ false (some (.bool false)) = goK call dst k ex is σ (opds σ.fr xs) := rfl
@[simp] theorem goG_und (b : Bool) : goG call dst k xs ex is σ b (some .und) = stepL2 call is { σ with fr := putO σ.fr dst .und } := rfl
@[simp] theorem stepL2_nil : stepL2 call [] σ = some σ := rfl
@[simp] theorem stepL2_cons : stepL2 call (⟨dst, k, xs, none, ex⟩ :: is) σ = goK call dst k ex is σ (opds σ.fr xs) := by
  simp only [stepL2, stepI2, wanted]
  cases opds σ.fr xs with
  | none => rfl
  | some vs => simp only [goK]; cases sem2 call (bxOf σ.fr ex) ex (dst.getD 0) k vs <;> rfl
@[simp] theorem stepL2_guard (s : Nat) (b : Bool) : stepL2 call (⟨dst, k, xs, some (s, b), ex⟩ :: is) σ = goG call dst k xs ex is σ b (get σ.fr s) := by
  simp only [stepL2, stepI2, wanted]
  cases hg : get σ.fr s with
  | none => rfl
  | some v =>
    cases v <;> try rfl
    rename_i c
    simp only [goG]
    cases hcb : c == b with
    | false => simp
    | true =>
      simp only
      cases opds σ.fr xs with
      | none => rfl
      | some vs => simp only [goK]; cases sem2 call (bxOf σ.fr ex) ex (dst.getD 0) k vs <;> rfl
@[simp] theorem regE_some {kn : Nat} {kp : List Nat} : regE kn kp (some σ) = some (.normal, { σ with fr := keepL kn kp σ.fr }) := rfl
@[simp] theorem seqE_normal {b : LCode} : seqE call N b (some (.normal, σ)) = evC2 call N b σ := rfl
@[simp] theorem seqE_ret {b : LCode} : seqE call N b (some (.ret, σ)) = some (.ret, σ) := rfl
@[simp] theorem seqE_exit {b : LCode} {i : Nat} : seqE call N b (some (.exit i, σ)) = some (.exit i, σ) := rfl
@[simp] theorem conE_true {a b : LCode} : conE call N a b σ (some (.bool true)) = evC2 call N a σ := rfl
@[simp] theorem conE_false {a b : LCode} : conE call N a b σ (some (.bool false)) = evC2 call N b σ := rfl
@[simp] theorem blkE_normal {id : Nat} : blkE id (some (.normal, σ)) = some (.normal, σ) := rfl
@[simp] theorem blkE_ret {id : Nat} : blkE id (some (.ret, σ)) = some (.ret, σ) := rfl
@[simp] theorem blkE_exit {id j : Nat} : blkE id (some (.exit j, σ)) = if j = id then some (.normal, σ) else some (.exit j, σ) := rfl
@[simp] theorem endE_normal {it : Bool} {res : List RV} : endE it res (some (.normal, σ)) = finish2 it res σ := rfl
@[simp] theorem endE_ret {it : Bool} {res : List RV} : endE it res (some (.ret, σ)) = finish2 it res σ := rfl
@[simp] theorem evC2_skip : evC2 call N .skip σ = some (.normal, σ) := rfl
@[simp] theorem evC2_ret : evC2 call N .ret σ = some (.ret, σ) := rfl
@[simp] theorem evC2_exit {id : Nat} : evC2 call N (.exit id) σ = some (.exit id, σ) := rfl
@[simp] theorem evC2_reg {lp : Bool} {ds pp : List Nat} {ops : List LIns} {kn : Nat} {kp : List Nat} : evC2 call N (.reg lp ds pp ops kn kp) σ = regE kn kp (stepL2 call ops (prep2 lp pp σ)) := by
  simp only [evC2]
  cases stepL2 call ops (prep2 lp pp σ) <;> rfl
@[simp] theorem evC2_seq {a b : LCode} : evC2 call N (.seq a b) σ = seqE call N b (evC2 call N a σ) := by
  simp only [evC2]
  cases evC2 call N a σ with
  | none => rfl
  | some r => obtain ⟨x, τ⟩ := r; cases x <;> rfl
@[simp] theorem evC2_cond {c : Opd} {a b : LCode} : evC2 call N (.cond c a b) σ = conE call N a b σ (opd σ.fr c) := by
  simp only [evC2]
  cases opd σ.fr c with
  | none => rfl
  | some v =>
    cases v <;> try rfl
    rename_i t
    cases t <;> rfl
def altE (a b : LCode) (σ : St) : Option Bool → Option (Ex × St)
  | some true => evC2 call N b σ
  | some false => evC2 call N a σ
  | none => none
@[simp] theorem altE_true {a b : LCode} : altE (call := call) (N := N) a b σ (some true) = evC2 call N b σ := rfl
@[simp] theorem altE_false {a b : LCode} : altE (call := call) (N := N) a b σ (some false) = evC2 call N a σ := rfl
@[simp] theorem evC2_alt {ts ks : List Nat} {a b : LCode} : evC2 call N (.alt ts ks a b) σ = altE (call := call) (N := N) a b σ (altT2 ts σ.fr ks) := by
  simp only [evC2]
  cases altT2 ts σ.fr ks with
  | none => rfl
  | some c => cases c <;> rfl
@[simp] theorem andO_ss {a b : Bool} : andO (some a) (some b) = some (a || b) := rfl
@[simp] theorem altT2_nil {ts : List Nat} {fr : List (Nat × V)} : altT2 ts fr [] = some false := rfl
def altG (ts : List Nat) (fr : List (Nat × V)) (ks : List Nat) : Option V → Option Bool
  | some v => andO (hasT2 ts v) (altT2 ts fr ks)
  | none => none
@[simp] theorem altG_some {ts : List Nat} {fr : List (Nat × V)} {ks : List Nat} {v : V} : altG ts fr ks (some v) = andO (hasT2 ts v) (altT2 ts fr ks) := rfl
@[simp] theorem altT2_cons {ts : List Nat} {fr : List (Nat × V)} {k : Nat} {ks : List Nat} : altT2 ts fr (k :: ks) = altG ts fr ks (get fr k) := by
  simp only [altT2]; cases get fr k <;> rfl
@[simp] theorem hasT2_box {ts : List Nat} {cs : List V} : hasT2 ts (.box cs) = slTL2 ts cs := rfl
@[simp] theorem slTL2_nil {ts : List Nat} : slTL2 ts [] = some false := rfl
@[simp] theorem slTL2_cons {ts : List Nat} {v : V} {vs : List V} : slTL2 ts (v :: vs) = andO (slT2 ts v) (slTL2 ts vs) := rfl
@[simp] theorem slT2_nil {ts : List Nat} {u sz : Nat} : slT2 ts (.sl (some u) sz []) = some (!mbT u && memN (tb u / 100) ts) := rfl
@[simp] theorem slT2_cons {ts : List Nat} {u sz : Nat} {e : List V} {es : List (List V)} : slT2 ts (.sl (some u) sz (e :: es)) = some (memN (tb u / 100) ts) := rfl
theorem slT2_ne {ts : List Nat} {u sz : Nat} {es : List (List V)} (h : es ≠ []) : slT2 ts (.sl (some u) sz es) = some (memN (tb u / 100) ts) := by
  cases es with
  | nil => exact absurd rfl h
  | cons e es => rfl
@[simp] theorem evC2_block {id : Nat} {a : LCode} : evC2 call N (.block id a) σ = blkE id (evC2 call N a σ) := by
  simp only [evC2]
  cases evC2 call N a σ with
  | none => rfl
  | some r => obtain ⟨x, τ⟩ := r; cases x <;> rfl
@[simp] theorem evC2_loop {a : LCode} : evC2 call N (.loop a) σ = iter (evC2 call N a) N σ := rfl
theorem evBody2_eq {lf : LFun} {args : List V} (h : args.length = lf.np) (hl : liveL args = true) : evBody2 call N lf args = endE (ranged args) lf.res (evC2 call N lf.body { fr := params 0 args ++ deadL lf.sl, tk := [], tr := if ranged args = true then some [] else none }) := by
  unfold evBody2
  rw [if_pos ⟨h, hl⟩]
  cases evC2 call N lf.body { fr := params 0 args ++ deadL lf.sl, tk := [], tr := if ranged args = true then some [] else none } with
  | none => rfl
  | some r => obtain ⟨x, τ⟩ := r; cases x <;> rfl
/-- A function's equation. -/
theorem run2_body {F : Nat → Option (List V → Option V)} {C : Nat → Option LFun} {f : Nat} (N : Nat) {lf : LFun} {as1 : List V} {r : V} (hF : F f = none) (hC : C f = some lf) (h : as1.length = lf.np) (hl : liveL as1 = true) (hr : ranged as1 = false)
    (hb : endE false lf.res (evC2 (run2 F C) N lf.body { fr := params 0 as1 ++ deadL lf.sl, tk := [] }) = some r) : run2 F C f as1 = some r := by
  refine run2_of_body (N := N) hF hC ?_
  rw [evBody2_eq h hl, hr]
  exact hb
/-- An iterator's equation. -/
theorem run2_iter {F : Nat → Option (List V → Option V)} {C : Nat → Option LFun} {f : Nat} (N : Nat) {lf : LFun} {as1 : List V} {r : V} (hF : F f = none) (hC : C f = some lf) (h : as1.length = lf.np) (hl : liveL as1 = true) (hr : ranged as1 = true)
    (hb : endE true lf.res (evC2 (run2 F C) N lf.body { fr := params 0 as1 ++ deadL lf.sl, tk := [], tr := some [] }) = some r) : run2 F C f as1 = some r := by
  refine run2_of_body (N := N) hF hC ?_
  rw [evBody2_eq h hl, hr]
  exact hb
/-! ### Ranges over functions -/
def raE (evB : St → Option (Ex × St)) : Option (Ex × St) → Option (Ex × St)
  | some (.normal, σ) => evB σ
  | _ => none
def rbE (wr : List Nat) : Option (Ex × St) → Option (Ex × St)
  | some (ex, σ) => some (ex, { σ with fr := dropL wr σ.fr })
  | none => none
@[simp] theorem raE_some {evB : St → Option (Ex × St)} : raE evB (some (.normal, σ)) = evB σ := rfl
@[simp] theorem rbE_some {wr : List Nat} {x : Ex} : rbE wr (some (x, σ)) = some (x, { σ with fr := dropL wr σ.fr }) := rfl
@[simp] theorem rbE_ite {P : Prop} [Decidable P] {wr : List Nat} {x y : Option (Ex × St)} : rbE wr (if P then x else y) = if P then rbE wr x else rbE wr y := by split <;> rfl
theorem roundE_eq {evA evB : St → Option (Ex × St)} {ps wr : List Nat} {as1 : List V} : roundE evA evB ps wr σ as1 = if as1.length = ps.length then rbE wr (raE evB (evA { σ with fr := putA ps as1 (dropL wr σ.fr) })) else none := by
  unfold roundE
  split
  · cases evA { σ with fr := putA ps as1 (dropL wr σ.fr) } with
    | none => rfl
    | some r =>
      obtain ⟨x, τ⟩ := r
      cases x with
      | normal =>
        simp only [raE]
        cases evB τ with
        | none => rfl
        | some r => obtain ⟨x, τ⟩ := r; rfl
      | exit _ => rfl
      | ret => rfl
  · rfl
def rnF (call : Nat → List V → Option V) (N : Nat) (ps wr : List Nat) (asg body : LCode) (σ : St) (ys : List V → Nat → Nat → Option V) : Option (List V × List Nat) → Option (Ex × St)
  | some (cs, ts) => if (cs.all fun v => v.cells.all V.pm) = true then rngE (roundE (evC2 call N asg) (evC2 call N body) ps wr) (ys cs 0) { fr := dropL wr (roF ts σ.fr), tk := σ.tk, tr := none } else none
  | none => none
def rnE (call : Nat → List V → Option V) (N : Nat) (ps wr : List Nat) (asg body : LCode) (σ : St) : Option (List (List V)) → Option V → Option (Ex × St)
  | none, some (.fn (.f f) caps) => rnF call N ps wr asg body σ (fun cs _ a => call f (.fn (.y a) [] :: cs)) (frzEL caps)
  | none, some (.fn (.m f) caps) => rnF call N ps wr asg body σ (fun cs _ a => call f (cs ++ [.fn (.y a) []])) (frzEL caps)
  | _, _ => none
@[simp] theorem rnE_f {ps wr : List Nat} {asg body : LCode} {f : Nat} {caps : List V} : rnE call N ps wr asg body σ none (some (.fn (.f f) caps)) = rnF call N ps wr asg body σ (fun cs _ a => call f (.fn (.y a) [] :: cs)) (frzEL caps) := rfl
@[simp] theorem rnE_m {ps wr : List Nat} {asg body : LCode} {f : Nat} {caps : List V} : rnE call N ps wr asg body σ none (some (.fn (.m f) caps)) = rnF call N ps wr asg body σ (fun cs _ a => call f (cs ++ [.fn (.y a) []])) (frzEL caps) := rfl
@[simp] theorem rnF_some {ps wr : List Nat} {asg body : LCode} {ys : List V → Nat → Nat → Option V} {cs : List V} {ts : List Nat} : rnF call N ps wr asg body σ ys (some (cs, ts)) = if (cs.all fun v => v.cells.all V.pm) = true then rngE (roundE (evC2 call N asg) (evC2 call N body) ps wr) (ys cs 0) { fr := dropL wr (roF ts σ.fr), tk := σ.tk, tr := none } else none := rfl
@[simp] theorem evC2_rng {g : Opd} {ps wr : List Nat} {asg body : LCode} : evC2 call N (.rng g ps wr asg body) σ = rnE call N ps wr asg body σ σ.tr (opd σ.fr g) := by
  simp only [evC2]
  cases σ.tr with
  | some l => rfl
  | none =>
    cases opd σ.fr g with
    | none => rfl
    | some v =>
      cases v with
      | fn f caps =>
        cases f with
        | y a => rfl
        | f f =>
          simp only [rnE, rnF]
          cases frzEL caps with
          | none => rfl
          | some p => obtain ⟨x, y⟩ := p; rfl
        | m f =>
          simp only [rnE, rnF]
          cases frzEL caps with
          | none => rfl
          | some p => obtain ⟨x, y⟩ := p; rfl
      | _ => rfl
theorem rngE_all {f : St → List V → Option (Ex × St)} {it : Nat → Option V} {items : List (List V)} {σ' : St} (h1 : it 0 = some (.tup (tupsL items))) (h2 : foldR f 0 σ items = some (none, σ')) : rngE f it σ = some (.normal, σ') := by
  unfold rngE
  rw [h1]
  simp only [itemsOf, itemsL_tups, h2]
theorem fold_all {α β : Type} {f : St → List V → Option (Ex × St)} {s : List β → St} {W : α → List V} {h : α → List β} : ∀ (xs : List α) (k : Nat) (l : List β), (∀ x ∈ xs, ∀ l, f (s l) (W x) = some (.normal, s (l ++ h x))) → foldR f k (s l) (xs.map W) = some (none, s (l ++ xs.flatMap h))
  | [], k, l, _ => by simp [foldR]
  | x :: xs, k, l, hf => by
    simp only [List.map_cons, foldR, hf x (by simp) l]
    rw [fold_all xs (k + 1) (l ++ h x) fun y hy => hf y (by simp [hy])]
    simp
theorem len_flatMap {α β : Type} {h : α → List β} {c : Nat} (hc : ∀ x, (h x).length ≤ c) : ∀ xs : List α, (xs.flatMap h).length ≤ xs.length * c
  | [] => by simp
  | x :: xs => by
    have := len_flatMap hc xs
    have := hc x
    rw [List.flatMap_cons, List.length_append, List.length_cons, Nat.add_mul]; omega
/-- All rounds of a range over a function that goes on and on; the first one starts from a frame of its own. -/
theorem rng_fold {α β : Type} {f : St → List V → Option (Ex × St)} {it : Nat → Option V} {σ0 : St} {s : List β → St} {W : α → List V} {h : α → List β} {xs : List α} {l0 : List β} (h1 : it 0 = some (.tup (tupsL (xs.map W)))) (hx : xs ≠ [])
    (h0 : ∀ x, f σ0 (W x) = f (s l0) (W x)) (hf : ∀ pre x suf, xs = pre ++ x :: suf → f (s (l0 ++ pre.flatMap h)) (W x) = some (.normal, s (l0 ++ pre.flatMap h ++ h x))) : rngE f it σ0 = some (.normal, s (l0 ++ xs.flatMap h)) := by
  have key : ∀ (suf pre : List α) (k : Nat), xs = pre ++ suf → foldR f k (s (l0 ++ pre.flatMap h)) (suf.map W) = some (none, s (l0 ++ xs.flatMap h)) := by
    intro suf
    induction suf with
    | nil => intro pre k e; rw [List.append_nil] at e; subst e; rfl
    | cons x suf ih =>
      intro pre k e
      simp only [List.map_cons, foldR, hf pre x suf e]
      have := ih (pre ++ [x]) (k + 1) (by rw [e]; simp)
      rw [← this]
      simp
  refine rngE_all h1 ?_
  have k0 := key xs [] 0 rfl
  simp only [List.flatMap_nil, List.append_nil] at k0
  rw [← k0]
  cases xs with
  | nil => exact absurd rfl hx
  | cons x xs => simp only [List.map_cons, foldR, h0 x]
/-! ### Operations -/
variable {bx : Nat → Option (List V)} {d : Nat}
def stoE (s off : Nat) (new : List V) : Option (List V) → Option Eff2
  | some cs => match splice cs off new with | some cs' => some (.sto s cs') | none => none
  | none => none
@[simp] theorem stoE_some {s off : Nat} {new cs : List V} : stoE s off new (some cs) = if off + new.length ≤ cs.length then some (.sto s (cs.take off ++ new ++ cs.drop (off + new.length))) else none := by
  by_cases h : off + new.length ≤ cs.length <;> simp [stoE, splice, h]
def ldE (off : Nat) (n : Option Nat) : Option (List V) → Option V
  | some cs => partV cs off n
  | none => none
@[simp] theorem ldE_some {off : Nat} {n : Option Nat} {cs : List V} : ldE off n (some cs) = partV cs off n := rfl
@[simp] theorem x_mv {v : V} : sem2 call bx ex d .mv [v] = some (.val v) := rfl
@[simp] theorem x_pick_t {a b : V} : sem2 call bx ex d .pick [.bool true, a, b] = some (.val a) := rfl
@[simp] theorem x_pick_f {a b : V} : sem2 call bx ex d .pick [.bool false, a, b] = some (.val b) := rfl
theorem x_pick {c : Bool} {a b : V} : sem2 call bx ex d .pick [.bool c, a, b] = some (.val (if c = true then a else b)) := rfl
@[simp] theorem x_box {v : V} : sem2 call bx ex d .box [v] = if v.cells.all V.cellOk = true then some (.val (.box v.cells)) else none := rfl
@[simp] theorem x_alloc {zs : List V} : sem2 call bx ex d (.alloc zs) [] = some (.val (.box zs)) := rfl
def agE : Option (List V) → Option Eff2
  | some cs => some (.val (.agg cs))
  | none => none
@[simp] theorem agE_some {cs : List V} : agE (some cs) = some (.val (.agg cs)) := rfl
@[simp] theorem x_build {zs vs : List V} {pl : List (Nat × Nat)} : sem2 call bx ex d (.build zs pl) vs = agE (fill pl vs zs) := by
  simp only [sem2]; cases fill pl vs zs <;> rfl
@[simp] theorem fill_nil {cs : List V} : fill [] [] cs = some cs := rfl
@[simp] theorem x_load {n : Option Nat} {v : V} : sem2 call bx ex d (.load n) [v] = valO2 (loadV bx n v) := rfl
@[simp] theorem ld_ref {n : Option Nat} {s off : Nat} : loadV bx n (.ref s off) = if s < 1000000 then ldE off n (bx s) else none := by simp only [loadV]; cases bx s <;> rfl
@[simp] theorem ld_gref {n : Option Nat} {cs : List V} : loadV bx n (.gref cs) = partV cs 0 n := rfl
@[simp] theorem ld_cref {n : Option Nat} {cs : List V} : loadV bx n (.cref cs) = partV cs 0 n := rfl
@[simp] theorem ld_eref {n : Option Nat} {t m i off : Nat} {cs : List V} : loadV bx n (.eref t m i off cs) = partV cs off n := rfl
@[simp] theorem x_store {n s off : Nat} {root : Option Nat} {v : V} : sem2 call bx ex d (.store n root) [.ref s off, v] = if s < 1000000 ∧ v.cells.length = n ∧ v.cells.all V.cellOk = true ∧ (root = none ∨ root = some s) then stoE s off v.cells (bx s) else none := by
  simp only [sem2]
  split
  · cases bx s <;> rfl
  · rfl
@[simp] theorem x_bin {ty : Nat} {op : BinOp} {x y : V} : sem2 call bx ex d (.bin ty op) [x, y] = valO2 (binV2 ty op x y) := rfl
@[simp] theorem x_un {op : UnOp} {x : V} : sem2 call bx ex d (.un op) [x] = valO2 (unV op x) := rfl
def eqE (ne : Bool) : Option Bool → Option Eff2
  | some r => some (.val (.bool (ne != r)))
  | none => none
@[simp] theorem eqE_some {ne r : Bool} : eqE ne (some r) = some (.val (.bool (ne != r))) := rfl
@[simp] theorem x_eqs {ne : Bool} {sh : List (Option IntKind)} {cs ds : List V} : sem2 call bx ex d (.eqs ne sh) [.agg cs, .agg ds] = eqE ne (eqSh sh cs ds) := by
  simp only [sem2]; cases eqSh sh cs ds <;> rfl
@[simp] theorem x_conv {q k : IntKind} {n : Int} : sem2 call bx ex d (.conv k) [.int q n] = some (.val (.int k (k.wrap n))) := rfl
@[simp] theorem x_mkf {f : Nat} : sem2 call bx ex d (.mkf f) vs = some (.val (.fn (.f f) vs)) := rfl
@[simp] theorem x_mkm {f : Nat} : sem2 call bx ex d (.mkm f) vs = some (.val (.fn (.m f) vs)) := rfl
@[simp] theorem x_fa_ref {off s o : Nat} : sem2 call bx ex d (.fa off) [.ref s o] = some (.val (.ref s (o + off))) := rfl
@[simp] theorem x_fa_gref {off : Nat} {cs : List V} : sem2 call bx ex d (.fa off) [.gref cs] = some (.val (.gref (cs.drop off))) := rfl
@[simp] theorem x_fa_cref {off : Nat} {cs : List V} : sem2 call bx ex d (.fa off) [.cref cs] = some (.val (.cref (cs.drop off))) := rfl
@[simp] theorem x_fa_eref {off t n i o : Nat} {cs : List V} : sem2 call bx ex d (.fa off) [.eref t n i o cs] = some (.val (.eref t n i (o + off) cs)) := rfl
@[simp] theorem x_fld {off : Nat} {n : Option Nat} {cs : List V} : sem2 call bx ex d (.fld off n) [.agg cs] = valO2 (partV cs off n) := rfl
def ixE : Option (List V) → Option Eff2
  | some cs => some (.val (.cref cs))
  | none => none
@[simp] theorem ixE_some {cs : List V} : ixE (some cs) = some (.val (.cref cs)) := rfl
def ixF (u n i : Nat) : Option (List V) → Option Eff2
  | some cs => some (.val (.eref u n i 0 cs))
  | none => none
@[simp] theorem ixF_some {u n i : Nat} {cs : List V} : ixF u n i (some cs) = some (.val (.eref u n i 0 cs)) := rfl
@[simp] theorem x_ixs {sz : Nat} {es : List (List V)} {k : IntKind} {i : Int} (h : 0 ≤ i) : sem2 call bx ex d (.ixs sz) [.sl none sz es, .int k i] = ixE es[i.toNat]? := by
  simp only [sem2]; rw [if_pos ⟨trivial, h⟩]; cases es[i.toNat]? <;> rfl
@[simp] theorem x_ixs_own {sz u : Nat} {es : List (List V)} {k : IntKind} {i : Int} (h : 0 ≤ i) : sem2 call bx ex d (.ixs sz) [.sl (some u) sz es, .int k i] = ixF u es.length i.toNat es[i.toNat]? := by
  simp only [sem2]; rw [if_pos ⟨trivial, h⟩]; cases es[i.toNat]? <;> rfl
@[simp] theorem x_ixa_ref {len sz s o : Nat} {k : IntKind} {i : Int} (h : 0 ≤ i ∧ i < len) : sem2 call bx ex d (.ixa len sz) [.ref s o, .int k i] = some (.val (.ref s (o + i.toNat * sz))) := by simp only [sem2, if_pos h]
@[simp] theorem x_ixa_gref {len sz : Nat} {cs : List V} {k : IntKind} {i : Int} (h : 0 ≤ i ∧ i < len) : sem2 call bx ex d (.ixa len sz) [.gref cs, .int k i] = some (.val (.gref (cs.drop (i.toNat * sz)))) := by simp only [sem2, if_pos h]
@[simp] theorem x_ixa_cref {len sz : Nat} {cs : List V} {k : IntKind} {i : Int} (h : 0 ≤ i ∧ i < len) : sem2 call bx ex d (.ixa len sz) [.cref cs, .int k i] = some (.val (.cref (cs.drop (i.toNat * sz)))) := by simp only [sem2, if_pos h]
@[simp] theorem x_ixa_eref {len sz t n j o : Nat} {cs : List V} {k : IntKind} {i : Int} (h : 0 ≤ i ∧ i < len) : sem2 call bx ex d (.ixa len sz) [.eref t n j o cs, .int k i] = some (.val (.eref t n j (o + i.toNat * sz) cs)) := by simp only [sem2, if_pos h]
@[simp] theorem x_idx {len sz : Nat} {n : Option Nat} {cs : List V} {k : IntKind} {i : Int} (h : 0 ≤ i ∧ i < len) : sem2 call bx ex d (.idx len sz n) [.agg cs, .int k i] = valO2 (partV cs (i.toNat * sz) n) := by simp only [sem2, if_pos h]
@[simp] theorem x_ext {i : Nat} {cs : List V} : sem2 call bx ex d (.ext i) [.tup cs] = valO2 cs[i]? := rfl
@[simp] theorem x_len {t : Option Nat} {sz : Nat} {es : List (List V)} : sem2 call bx ex d .len [.sl t sz es] = some (.val (.int .i64 es.length)) := rfl
@[simp] theorem x_len_nil : sem2 call bx ex d .len [.nil] = some (.val (.int .i64 0)) := rfl
@[simp] theorem x_cap_nil : sem2 call bx ex d .cap [.nil] = some (.val (.int .i64 0)) := rfl
@[simp] theorem x_nilc_ref {s o : Nat} : sem2 call bx ex d .nilc [.ref s o] = some (.val (.ref s o)) := rfl
@[simp] theorem x_nilc_gref {cs : List V} : sem2 call bx ex d .nilc [.gref cs] = some (.val (.gref cs)) := rfl
@[simp] theorem x_nilc_cref {cs : List V} : sem2 call bx ex d .nilc [.cref cs] = some (.val (.cref cs)) := rfl
@[simp] theorem x_nilc_fn {f : Fk} {cs : List V} : sem2 call bx ex d .nilc [.fn f cs] = some (.val (.fn f cs)) := rfl
def mxE : Option (IntKind × List Int) → Option Eff2
  | some (k, n :: ns) => some (.val (.int k (maxL n ns)))
  | _ => none
def mnE : Option (IntKind × List Int) → Option Eff2
  | some (k, n :: ns) => some (.val (.int k (minL n ns)))
  | _ => none
@[simp] theorem mxE_some {k : IntKind} {n : Int} {ns : List Int} : mxE (some (k, n :: ns)) = some (.val (.int k (maxL n ns))) := rfl
@[simp] theorem mnE_some {k : IntKind} {n : Int} {ns : List Int} : mnE (some (k, n :: ns)) = some (.val (.int k (minL n ns))) := rfl
@[simp] theorem x_max : sem2 call bx ex d .max vs = mxE (intsOf vs) := by
  simp only [sem2]
  cases intsOf vs with
  | none => rfl
  | some p => obtain ⟨k, l⟩ := p; cases l <;> rfl
@[simp] theorem x_min : sem2 call bx ex d .min vs = mnE (intsOf vs) := by
  simp only [sem2]
  cases intsOf vs with
  | none => rfl
  | some p => obtain ⟨k, l⟩ := p; cases l <;> rfl
/-- A call's end. -/
def caR (d : Nat) (dr al mk : Bool) : Option V → Option Eff2
  | some r => if r.pureR = true then (if mk = true then (if distinctN (r.tks.map fun x => tb x.1) = true ∧ (r.tks.all fun x => decide (tb x.1 < 100)) = true ∧ d < 9999 then
        (if al = true then some (.res (r.rn d) d 1) else if r.al = true then (if dr = true then none else some (.res (r.rn d) d 2)) else some (.res (r.rn d) d 0)) else none) else
        (if r.tks.isEmpty = true ∧ r.al = false then some (.val r) else none)) else none
  | none => none
def caE (call : Nat → List V → Option V) (d : Nat) (dr al mk : Bool) (f : Nat) : Option (List V) → Option Eff2
  | some as1 => caR d dr al mk (call f as1)
  | none => none
@[simp] theorem caE_some {dr al mk : Bool} {f : Nat} {as1 : List V} : caE call d dr al mk f (some as1) = caR d dr al mk (call f as1) := rfl
theorem callE2_eq {dr al mk : Bool} {f : Nat} {vs : List V} : callE2 call bx d dr al mk f vs = caE call d dr al mk f (frzL (bxF bx 4) vs) := by
  simp only [callE2]
  cases frzL (bxF bx 4) vs with
  | none => rfl
  | some as1 => simp only [caE]; cases call f as1 <;> rfl
@[simp] theorem x_call_f {dr al mk : Bool} {f : Nat} {caps vs : List V} : sem2 call bx ex d (.call dr al mk) (.fn (.f f) caps :: vs) = caE call d dr al mk f (frzL (bxF bx 4) (vs ++ caps)) := by
  simp only [sem2]; exact callE2_eq
@[simp] theorem x_call_m {dr al mk : Bool} {f : Nat} {caps vs : List V} : sem2 call bx ex d (.call dr al mk) (.fn (.m f) caps :: vs) = caE call d dr al mk f (frzL (bxF bx 4) (caps ++ vs)) := by
  simp only [sem2]; exact callE2_eq
def yiE (ex : List Nat) (a : Nat) : Option (List V × List Nat) → Option Eff2
  | some (as1, ps) => if ps.all (fun u => !memN (tb u / 100) ex) = true ∧ (as1.all fun v => v.cells.all V.pm) = true then some (.yld a as1 ps) else none
  | none => none
@[simp] theorem yiE_some {a : Nat} {as1 : List V} {ps : List Nat} : yiE ex a (some (as1, ps)) = if ps.all (fun u => !memN (tb u / 100) ex) = true ∧ (as1.all fun v => v.cells.all V.pm) = true then some (.yld a as1 ps) else none := rfl
@[simp] theorem x_yield {al mk : Bool} {a : Nat} {vs : List V} : sem2 call bx ex d (.call false al mk) (.fn (.y a) [] :: vs) = yiE ex a (frzEL vs) := by
  simp only [sem2, Bool.false_eq_true, if_false]
  cases frzEL vs with
  | none => rfl
  | some p => obtain ⟨x, y⟩ := p; rfl
def esE (u m i off n : Nat) (cs : List V) (ex : List Nat) : Option Nat → Option (V × List Nat) → Option Eff2
  | none, some (v', []) => if rwT u = true ∧ memN (tb u / 100) ex = false ∧ v'.cells.length = n ∧ v'.cells.all V.pm = true then
      (if off + n ≤ cs.length then some (.est (tb u) m i (cs.take off ++ v'.cells ++ cs.drop (off + n))) else none) else none
  | _, _ => none
@[simp] theorem esE_some {u m i off n : Nat} {cs : List V} {v' : V} : esE u m i off n cs ex none (some (v', [])) = if rwT u = true ∧ memN (tb u / 100) ex = false ∧ v'.cells.length = n ∧ v'.cells.all V.pm = true then
      (if off + n ≤ cs.length then some (.est (tb u) m i (cs.take off ++ v'.cells ++ cs.drop (off + n))) else none) else none := rfl
def baE (n d : Nat) (ex : List Nat) (vs : List V) : Option (List (List V) × List Nat) → Option Eff2
  | some (es, ps) => if ps.all (fun u => !memN (tb u / 100) ex) = true ∧ d < 9999 then some (.mk (.sl (some (d * 100)) n es) (d * 100) (ps.map (surP (neTL vs)))) else none
  | none => none
@[simp] theorem baE_nil {n : Nat} {es : List (List V)} : baE n d ex vs (some (es, [])) = if d < 9999 then some (.mk (.sl (some (d * 100)) n es) (d * 100) []) else none := by
  by_cases h : d < 9999 <;> simp [baE, h]
@[simp] theorem baE_cons {n : Nat} {es : List (List V)} {p : Nat} {ps : List Nat} : baE n d ex vs (some (es, p :: ps)) = if (p :: ps).all (fun u => !memN (tb u / 100) ex) = true ∧ d < 9999 then some (.mk (.sl (some (d * 100)) n es) (d * 100) ((p :: ps).map (surP (neTL vs)))) else none := rfl
@[simp] theorem x_bsl {sz len : Nat} {z : List V} {ix : List Nat} : sem2 call bx ex d (.bsl sz z len ix) vs = baE sz d ex vs (fillE sz ix vs (List.replicate len z)) := by
  simp only [sem2]
  cases fillE sz ix vs (List.replicate len z) with
  | none => rfl
  | some p => obtain ⟨x, y⟩ := p; rfl
@[simp] theorem fillE_nil {sz : Nat} {es : List (List V)} : fillE sz [] [] es = some (es, []) := rfl
def slE (sz : Nat) (es : List (List V)) : Option (Nat × Nat) → Option Eff2
  | some (l, h) => some (.val (.sl none sz ((es.take h).drop l)))
  | none => none
def slF (u sz : Nat) (es : List (List V)) : Option (Nat × Nat) → Option Eff2
  | some (l, h) => some (.prot (.sl none sz ((es.take h).drop l)) [u])
  | none => none
@[simp] theorem slE_some {sz l h : Nat} {es : List (List V)} : slE sz es (some (l, h)) = some (.val (.sl none sz ((es.take h).drop l))) := rfl
@[simp] theorem slF_some {u sz l h : Nat} {es : List (List V)} : slF u sz es (some (l, h)) = some (.prot (.sl none sz ((es.take h).drop l)) [u]) := rfl
@[simp] theorem x_sls {sz : Nat} {es : List (List V)} {lo hi mx : Bool} {vs : List V} : sem2 call bx ex d (.sls sz lo hi mx) (.sl none sz es :: vs) = slE sz es (bounds es.length es.length lo hi mx vs) := by
  simp only [sem2, if_true]
  cases bounds es.length es.length lo hi mx vs with
  | none => rfl
  | some p => obtain ⟨x, y⟩ := p; rfl
@[simp] theorem x_sls_own {sz u : Nat} {es : List (List V)} {lo hi mx : Bool} {vs : List V} : sem2 call bx ex d (.sls sz lo hi mx) (.sl (some u) sz es :: vs) = if memN (tb u / 100) ex = false then slF u sz es (bounds es.length es.length lo hi mx vs) else none := by
  simp only [sem2, true_and]
  split
  · cases bounds es.length es.length lo hi mx vs with
    | none => rfl
    | some p => obtain ⟨x, y⟩ := p; rfl
  · rfl
@[simp] theorem bounds_lo {len : Nat} {k : IntKind} {i : Int} (h : 0 ≤ i ∧ i ≤ len) : bounds len len true false false [.int k i] = some (i.toNat, len) := by
  simp only [bounds, if_true, Bool.false_eq_true, if_false]
  rw [if_pos ⟨h.1, h.2, Int.le_refl _, Int.le_refl _⟩]; rfl
@[simp] theorem bounds_hi {len : Nat} {k : IntKind} {i : Int} (h : 0 ≤ i ∧ i ≤ len) : bounds len len false true false [.int k i] = some (0, i.toNat) := by
  simp only [bounds, if_true, Bool.false_eq_true, if_false]
  rw [if_pos ⟨Int.le_refl _, h.1, h.2, Int.le_refl _⟩]; rfl
@[simp] theorem bounds_lh {len : Nat} {k q : IntKind} {i j : Int} (h : 0 ≤ i ∧ i ≤ j ∧ j ≤ len) : bounds len len true true false [.int k i, .int q j] = some (i.toNat, j.toNat) := by
  simp only [bounds, if_true, Bool.false_eq_true, if_false]
  rw [if_pos ⟨h.1, h.2.1, h.2.2, Int.le_refl _⟩]
@[simp] theorem bounds_all {len : Nat} : bounds len len false false false [] = some (0, len) := by
  simp only [bounds, Bool.false_eq_true, if_false]
  rw [if_pos ⟨Int.le_refl _, by omega, Int.le_refl _, Int.le_refl _⟩]; rfl
@[simp] theorem x_mks {sz bytes : Nat} {z : List V} {k q : IntKind} {l c : Int} (h : 0 ≤ l ∧ l ≤ c ∧ c * bytes ≤ 140737488355328) : sem2 call bx ex d (.mks sz bytes z) [.int k l, .int q c] = if d < 9999 then some (.mk (.sl (some (d * 100)) sz (List.replicate l.toNat z)) (d * 100) []) else none := by
  simp only [sem2, h.1, h.2.1, h.2.2, true_and]
@[simp] theorem x_app_nil {dr : Bool} {sz bytes : Nat} {t : Option Nat} {ys : List (List V)} (h : ys.length * bytes ≤ 140737488355328) : sem2 call bx ex d (.append dr sz bytes) [.nil, .sl t sz ys] = if d < 9999 then some (if dr = true then .mk (.sl (some (2000000 + d * 100)) sz ys) (d * 100) [] else .mkg (.sl (some (2000000 + d * 100)) sz ys) d) else none := by
  simp only [sem2, elsOf, if_true, h, true_and]; split <;> (try split) <;> rfl
theorem app_eq {dr : Bool} {sz bytes u : Nat} {y : V} {xs ys : List (List V)} (hy : elsOf sz y = some ys) (h2 : (xs.length + ys.length) * bytes ≤ 140737488355328) : sem2 call bx ex d (.append dr sz bytes) [.sl (some u) sz xs, y] =
    if memN (tb u / 100) ex = false ∧ (mbT u = false ∨ tb u = d * 100) then some (if mbT u = true then (if dr = true then .app (.sl (some (unT u)) sz (xs ++ ys)) (d * 100) else .mkg (.sl (some (unT u)) sz (xs ++ ys)) d) else .app (.sl (some u) sz (xs ++ ys)) (tb u)) else none := by
  simp only [sem2, hy, true_and]
  cases hm : memN (tb u / 100) ex with
  | true => simp
  | false =>
    simp only [if_true, true_and]
    rw [if_pos h2]
    cases hb : mbT u with
    | false => simp
    | true =>
      simp only [if_true, Bool.true_eq_false, false_or]
      split <;> (try split) <;> rfl
@[simp] theorem x_mkmp : sem2 call bx ex d .mkmp [] = some (.val (.mbox [])) := rfl
def mlG (n : Int) : Option (List V) → Option Eff2
  | some cs => (match lookM cs n with
    | some .dead => none
    | some v => some (.val v)
    | none => if wellM cs = true then some (.val .nil) else none)
  | none => none
theorem x_mlook {s : Nat} {n : Int} (h : -9223372036854775808 ≤ n ∧ n ≤ 9223372036854775807) : sem2 call bx ex d .mlook [.mref s, .int .i64 n] = mlG n (bx (s + 1000000)) := by
  simp only [sem2, if_pos h]
  cases bx (s + 1000000) <;> rfl
theorem mlG_some {n : Int} {cs : List V} : mlG n (some cs) = (match lookM cs n with
    | some .dead => none
    | some v => some (.val v)
    | none => if wellM cs = true then some (.val .nil) else none) := rfl
def mpG (s : Nat) (n : Int) (v : V) : Option (List V) → Option Eff2
  | some cs => if wellM cs = true then some (.msto s (setM cs n v)) else none
  | none => none
@[simp] theorem mpG_some {s : Nat} {n : Int} {v : V} {cs : List V} : mpG s n v (some cs) = if wellM cs = true then some (.msto s (setM cs n v)) else none := rfl
theorem x_mput {s : Nat} {n : Int} {t : Option Nat} {sz : Nat} {es : List (List V)} (h : -9223372036854775808 ≤ n ∧ n ≤ 9223372036854775807) : sem2 call bx ex d .mput [.mref s, .int .i64 n, .sl t sz es] = mpG s n (.sl t sz es) (bx (s + 1000000)) := by
  simp only [sem2, if_pos h]
  cases bx (s + 1000000) <;> rfl
theorem x_appo {sz bytes u : Nat} {t : Option Nat} {xs ys : List (List V)} (h2 : (xs.length + ys.length) * bytes ≤ 140737488355328) (hne : xs ≠ []) : sem2 call bx ex d (.appo sz bytes) [.sl (some u) sz xs, .sl t sz ys] =
    if memN (tb u / 100) ex = false then some (.app (.sl (some u) sz (xs ++ ys)) (tb u)) else none := by
  simp [sem2, elsOf, h2, hne]
@[simp] theorem x_app {dr : Bool} {sz bytes u : Nat} {t : Option Nat} {xs ys : List (List V)} (h2 : (xs.length + ys.length) * bytes ≤ 140737488355328) : sem2 call bx ex d (.append dr sz bytes) [.sl (some u) sz xs, .sl t sz ys] =
    if memN (tb u / 100) ex = false ∧ (mbT u = false ∨ tb u = d * 100) then some (if mbT u = true then (if dr = true then .app (.sl (some (unT u)) sz (xs ++ ys)) (d * 100) else .mkg (.sl (some (unT u)) sz (xs ++ ys)) d) else .app (.sl (some u) sz (xs ++ ys)) (tb u)) else none :=
  app_eq (by simp only [elsOf, if_true]) h2
@[simp] theorem x_store_own {n u m i off : Nat} {root : Option Nat} {cs : List V} {v : V} : sem2 call bx ex d (.store n root) [.eref u m i off cs, v] = esE u m i off n cs ex root v.frzE := by
  simp only [sem2]
  cases root with
  | some r => rfl
  | none =>
    cases v.frzE with
    | none => rfl
    | some p =>
      obtain ⟨v', l⟩ := p
      cases l with
      | cons _ _ => rfl
      | nil =>
        simp only [esE, splice]
        split
        · rename_i h
          rw [h.2.2.1]
          by_cases hl : off + n ≤ cs.length <;> simp [hl]
        · rfl
/-! ### What is not known parts the ways -/
section
variable {P : Prop} [Decidable P]
@[simp low] theorem goG_bool (b c : Bool) : goG call dst k xs ex is σ b (some (.bool c)) = if c = true then goG call dst k xs ex is σ b (some (.bool true)) else goG call dst k xs ex is σ b (some (.bool false)) := by cases c <;> rfl
@[simp low] theorem conE_bool {a b : LCode} (c : Bool) : conE call N a b σ (some (.bool c)) = if c = true then evC2 call N a σ else evC2 call N b σ := by cases c <;> rfl
@[simp low] theorem x_pick_b {c : Bool} {a b : V} : sem2 call bx ex d .pick [.bool c, a, b] = if c = true then some (.val a) else some (.val b) := by cases c <;> rfl
@[simp] theorem goE_ite {x y : Option Eff2} : goE call dst is σ (if P then x else y) = if P then goE call dst is σ x else goE call dst is σ y := by split <;> rfl
@[simp] theorem regE_ite {kn : Nat} {kp : List Nat} {x y : Option St} : regE kn kp (if P then x else y) = if P then regE kn kp x else regE kn kp y := by split <;> rfl
@[simp] theorem seqE_ite {b : LCode} {x y : Option (Ex × St)} : seqE call N b (if P then x else y) = if P then seqE call N b x else seqE call N b y := by split <;> rfl
@[simp] theorem blkE_ite {id : Nat} {x y : Option (Ex × St)} : blkE id (if P then x else y) = if P then blkE id x else blkE id y := by split <;> rfl
@[simp] theorem endE_ite {it : Bool} {res : List RV} {x y : Option (Ex × St)} : endE it res (if P then x else y) = if P then endE it res x else endE it res y := by split <;> rfl
@[simp] theorem caR_ite {d : Nat} {dr al mk : Bool} {x y : Option V} : caR d dr al mk (if P then x else y) = if P then caR d dr al mk x else caR d dr al mk y := by split <;> rfl
end
@[simp] theorem valO2_some {v : V} : valO2 (some v) = some (.val v) := rfl
@[simp] theorem dst_getD {n m : Nat} : (some n).getD m = n := rfl
def opV (s : Nat) : Option V → Option V
  | some (.box _) => some (.ref s 0)
  | some (.mbox _) => some (.mref s)
  | some .dead => none
  | r => r
@[simp] theorem opd_c {fr : List (Nat × V)} {v : V} : opd fr (.c v) = some v := rfl
@[simp] theorem opd_f {fr : List (Nat × V)} {n : Nat} : opd fr (.f n) = some (.fn (.f n) []) := rfl
@[simp] theorem opd_t {fr : List (Nat × V)} {s : Nat} : opd fr (.t s) = opV s (get fr s) := by
  simp only [opd]
  cases get fr s with
  | none => rfl
  | some v => cases v <;> rfl
@[simp] theorem opV_mbox {s : Nat} {cs : List V} : opV s (some (.mbox cs)) = some (.mref s) := rfl
@[simp] theorem opV_mref {s t : Nat} : opV s (some (.mref t)) = some (.mref t) := rfl
@[simp] theorem opV_box {s : Nat} {cs : List V} : opV s (some (.box cs)) = some (.ref s 0) := rfl
@[simp] theorem opV_int {s : Nat} {k : IntKind} {n : Int} : opV s (some (.int k n)) = some (.int k n) := rfl
@[simp] theorem opV_bool {s : Nat} {b : Bool} : opV s (some (.bool b)) = some (.bool b) := rfl
@[simp] theorem opV_agg {s : Nat} {cs : List V} : opV s (some (.agg cs)) = some (.agg cs) := rfl
@[simp] theorem opV_tup {s : Nat} {cs : List V} : opV s (some (.tup cs)) = some (.tup cs) := rfl
@[simp] theorem opV_nil {s : Nat} : opV s (some .nil) = some .nil := rfl
@[simp] theorem opV_und {s : Nat} : opV s (some .und) = some .und := rfl
@[simp] theorem opV_sl {s : Nat} {t : Option Nat} {sz : Nat} {es : List (List V)} : opV s (some (.sl t sz es)) = some (.sl t sz es) := rfl
@[simp] theorem opV_fn {s : Nat} {f : Fk} {cs : List V} : opV s (some (.fn f cs)) = some (.fn f cs) := rfl
@[simp] theorem opV_ref {s a b : Nat} : opV s (some (.ref a b)) = some (.ref a b) := rfl
@[simp] theorem opV_gref {s : Nat} {cs : List V} : opV s (some (.gref cs)) = some (.gref cs) := rfl
@[simp] theorem opV_np {s : Nat} : opV s (some .np) = some .np := rfl
@[simp] theorem opV_cref {s : Nat} {cs : List V} : opV s (some (.cref cs)) = some (.cref cs) := rfl
@[simp] theorem opV_eref {s t n i o : Nat} {cs : List V} : opV s (some (.eref t n i o cs)) = some (.eref t n i o cs) := rfl
def opsC (v : Option V) (vs : Option (List V)) : Option (List V) := match v, vs with
  | some v, some vs => some (v :: vs)
  | _, _ => none
@[simp] theorem opsC_some {v : V} {vs : List V} : opsC (some v) (some vs) = some (v :: vs) := rfl
@[simp] theorem opds_nil {fr : List (Nat × V)} : opds fr [] = some [] := rfl
@[simp] theorem opds_cons {fr : List (Nat × V)} {x : Opd} {xs : List Opd} : opds fr (x :: xs) = opsC (opd fr x) (opds fr xs) := by
  simp only [opds, opsC]
  cases opd fr x <;> cases opds fr xs <;> rfl
@[simp] theorem frzL_nil {rd : Nat → Option (List V)} : frzL rd [] = some [] := rfl
@[simp] theorem frzL_cons {rd : Nat → Option (List V)} {v : V} {vs : List V} : frzL rd (v :: vs) = opsC (v.frz rd) (frzL rd vs) := by
  simp only [frzL, opsC]
  cases v.frz rd <;> cases frzL rd vs <;> rfl
def bxV : Option V → Option (List V)
  | some (.box cs) => some cs
  | _ => none
@[simp] theorem bxV_some {cs : List V} : bxV (some (.box cs)) = some cs := rfl
def mbV : Option V → Option (List V)
  | some (.mbox cs) => some cs
  | _ => none
@[simp] theorem mbV_some {cs : List V} : mbV (some (.mbox cs)) = some cs := rfl
@[simp] theorem bxOf_eq {fr : List (Nat × V)} {ex : List Nat} {s : Nat} : bxOf fr ex s = if s < 1000000 then (if memN s ex = true then none else bxV (get fr s)) else (if memN (s - 1000000) ex = true then none else mbV (get fr (s - 1000000))) := by
  unfold bxOf
  split
  · split
    · rfl
    · cases get fr s with
      | none => rfl
      | some v => cases v <;> rfl
  · split
    · rfl
    · cases get fr (s - 1000000) with
      | none => rfl
      | some v => cases v <;> rfl
def bxG (bx : Nat → Option (List V)) (n : Nat) : Option (List V) → Option (List V)
  | some cs => frzL (bxF bx n) cs
  | none => none
@[simp] theorem bxG_some {n : Nat} {cs : List V} : bxG bx n (some cs) = frzL (bxF bx n) cs := rfl
@[simp] theorem bxF_succ {n s : Nat} : bxF bx (n + 1) s = if s < 1000000 then bxG bx n (bx s) else none := by
  simp only [bxF]; cases bx s <;> rfl
end
@[simp] theorem flatE_ints (xs : List Int) : flatE (xs.map fun x => [V.int .i64 x]) = true := by simp [flatE, V.flat]
@[simp] theorem flatE_nil : flatE [] = true := rfl
section
variable {f : Nat → Nat} {u : Nat} {e : List V} {es : List (List V)}
@[simp] theorem keepN_nil : keepN f u [] = if mbT u = true then u else f u := rfl
@[simp] theorem keepN_cons : keepN f u (e :: es) = f u := by simp [keepN]
@[simp] theorem keepN_nn (h : mbT u = false) : keepN f u es = f u := by simp [keepN, h]
@[simp] theorem keepN_same (h : f u = u) : keepN f u es = u := by
  unfold keepN
  split
  · cases es <;> simp [h]
  · exact h
@[simp] theorem mod_keepN_ro : keepN roT u es % 1000000 = u % 1000000 := tb_keepN tb_roT u es
@[simp] theorem mod_keepN_ru : keepN ruT u es % 1000000 = u % 1000000 := tb_keepN tb_ruT u es
@[simp] theorem mod_keepN_roU {ps : List Nat} : keepN (roU ps) u es % 1000000 = u % 1000000 := tb_keepN (tb_roU ps) u es
@[simp high] theorem tb_keepN_ro : tb (keepN roT u es) = tb u := tb_keepN tb_roT u es
@[simp high] theorem tb_keepN_ru : tb (keepN ruT u es) = tb u := tb_keepN tb_ruT u es
@[simp high] theorem tb_keepN_roU {ps : List Nat} : tb (keepN (roU ps) u es) = tb u := tb_keepN (tb_roU ps) u es
@[simp high] theorem mb_keepN_ro : mbT (keepN roT u es) = mbT u := mb_keepN mb_roT u es
@[simp high] theorem mb_keepN_ru : mbT (keepN ruT u es) = mbT u := mb_keepN mb_ruT u es
@[simp high] theorem mb_keepN_roU {ps : List Nat} : mbT (keepN (roU ps) u es) = mbT u := mb_keepN (mb_roU ps) u es
end
attribute [simp] List.getElem?_cons_zero List.getElem?_cons_succ
attribute [simp] params deadL liveL prep2 prepG prS surP neTL V.neT killT killG roF roA ruA roU exB estT mpF V.mp mpL get put putO partV binV2 binV binI binS unV nilCmp apply2 keepL dropL memN V.frz frzEL V.frzE V.pureR pureRL V.tks tksL V.al alL V.rn rnL distinctN fill splice fillE V.cells V.cellOk V.pm eqSh intsOf maxL minL ranged finish2 result2 givL V.giv givC givB V.plainR plainRL apartT bxOf rvs finL2 V.fin2 one goesOn tb rwT mbT roX roT ruT unT roundE_eq putA itemsOf itemsL tupsL caR
end Go.Lo

/- The base of chapter 3. -/
namespace Go.Lo
open Go.Proofs
set_option linter.unusedSimpArgs false
/-- slices.Concat, where it is wanted: two threads and one, or one and one, none of them without turns. -/
def catF : List V → Option V
  | [.sl none 1 [[.sl none 3 [[.sl none 2 (a1 :: ar), .int .i64 a2, .int .i64 a3], [.sl none 2 (b1 :: bs), .int .i64 b2, .int .i64 b3]]], [.sl none 3 [[.sl none 2 (c1 :: cs), .int .i64 c2, .int .i64 c3]]]]] =>
    some (.sl (some 2000000) 3 [[.sl none 2 (a1 :: ar), .int .i64 a2, .int .i64 a3], [.sl none 2 (b1 :: bs), .int .i64 b2, .int .i64 b3], [.sl none 2 (c1 :: cs), .int .i64 c2, .int .i64 c3]])
  | [.sl none 1 [[.sl none 3 [[.sl none 2 (a1 :: ar), .int .i64 a2, .int .i64 a3]]], [.sl none 3 [[.sl none 2 (c1 :: cs), .int .i64 c2, .int .i64 c3]]]]] =>
    some (.sl (some 2000000) 3 [[.sl none 2 (a1 :: ar), .int .i64 a2, .int .i64 a3], [.sl none 2 (c1 :: cs), .int .i64 c2, .int .i64 c3]])
  | _ => none
def F2 : Nat → Option (List V → Option V)
  | 83 => some catF
  | _ => none
noncomputable abbrev R : Nat → List V → Option V := run2 F2 C2
end Go.Lo

/- What the documents' examples say. -/
namespace Go.Lo
open Go.Proofs
set_option linter.unusedSimpArgs false
theorem p14 : R 14 [] = some (B true) := run2_of (n := 60) (by kernel_rfl)
end Go.Lo

/- Lists put together on the first machine. -/
namespace Go.Lo
open Go.Proofs
set_option linter.unusedSimpArgs false
theorem run1_cat (a1 b1 c1 : List V) (ar bs cs : List (List V)) (a2 a3 b2 b3 c2 c3 : Int) :
    run Ft Ct 83 [.sl none 1 [[.sl none 3 [[.sl none 2 (a1 :: ar), .int .i64 a2, .int .i64 a3], [.sl none 2 (b1 :: bs), .int .i64 b2, .int .i64 b3]]], [.sl none 3 [[.sl none 2 (c1 :: cs), .int .i64 c2, .int .i64 c3]]]]] =
    some (.sl (some 0) 3 [[.sl none 2 (a1 :: ar), .int .i64 a2, .int .i64 a3], [.sl none 2 (b1 :: bs), .int .i64 b2, .int .i64 b3], [.sl none 2 (c1 :: cs), .int .i64 c2, .int .i64 c3]]) := run_of (n := 30) (by kernel_rfl)
theorem run1_cat2 (a1 c1 : List V) (ar cs : List (List V)) (a2 a3 c2 c3 : Int) :
    run Ft Ct 83 [.sl none 1 [[.sl none 3 [[.sl none 2 (a1 :: ar), .int .i64 a2, .int .i64 a3]]], [.sl none 3 [[.sl none 2 (c1 :: cs), .int .i64 c2, .int .i64 c3]]]]] =
    some (.sl (some 0) 3 [[.sl none 2 (a1 :: ar), .int .i64 a2, .int .i64 a3], [.sl none 2 (c1 :: cs), .int .i64 c2, .int .i64 c3]]) := run_of (n := 30) (by kernel_rfl)
end Go.Lo

/- Arguments that read as data, for the plain machine. -/
namespace Go.Lo
def i64r (n : Int) : Prop := -9223372036854775808 ≤ n ∧ n ≤ 9223372036854775807
theorem wf_i64r {n : Int} (h : (Lit.int .i64 n).wf = true) : i64r n := by
  simp [Lit.wf, IntKind.min, IntKind.max, IntKind.bits, IntKind.signed] at h
  unfold i64r
  omega
theorem relL_ints (k : IntKind) : ∀ xs : List Int, RelL (xs.map fun x => .int k x) noT (xs.map fun x => .int k x)
  | [] => RelL.nil
  | x :: xs => by rw [List.map_cons]; exact RelL.cons (by simp only [Rel]) (relL_ints k xs)
theorem relE_eI1 : ∀ xs : List Int, RelE (eI xs) (eI xs)
  | [] => by simp [RelE]
  | x :: xs => by
    have := relE_eI1 xs
    simp only [List.map_cons] at this ⊢
    exact RelE.cons (RelL.one (by simp only [Rel])) this
theorem can_ints {v : V} (h : HasC (.sl (.int .i64)) [v]) : ∃ xs : List Int, Rel (S 1 (eI xs)) noT v ∧ ∀ x ∈ xs, i64r x := by
  simp only [HasC] at h
  rcases h with h | ⟨es, h, _, he⟩
  · injection h with h _
    subst h
    exact ⟨[], by rw [Rel]; left; exact ⟨rfl, rfl⟩, fun x hx => by cases hx⟩
  · injection h with h _
    subst h
    have key : ∀ es : List (List V), (∀ x ∈ es, ∃ n, x = [V.int .i64 n] ∧ (Lit.int .i64 n).wf = true) → ∃ xs : List Int, es = eI xs ∧ ∀ x ∈ xs, i64r x := by
      intro es
      induction es with
      | nil => exact fun _ => ⟨[], rfl, fun x hx => by cases hx⟩
      | cons e es ih =>
        intro h
        obtain ⟨n, h1, h2⟩ := h e (by simp)
        obtain ⟨xs, g1, g2⟩ := ih fun x hx => h x (by simp [hx])
        subst h1
        refine ⟨n :: xs, by simp [g1], fun x hx => ?_⟩
        rcases List.mem_cons.1 hx with rfl | hx
        · exact wf_i64r h2
        · exact g2 x hx
    obtain ⟨xs, rfl, hx⟩ := key es he
    exact ⟨xs, by rw [Rel]; right; exact ⟨_, rfl, relE_eI1 xs⟩, hx⟩
theorem can_rows {v : V} (h : HasC (.sl (.sl (.int .i64))) [v]) : ∃ rs : List (List Int), Rel (S 1 (rs.map fun r => [S 1 (eI r)])) noT v ∧ ∀ r ∈ rs, ∀ x ∈ r, i64r x := by
  rw [HasC] at h
  rcases h with h | ⟨es, h, _, he⟩
  · injection h with h _
    subst h
    exact ⟨[], by rw [Rel]; left; exact ⟨rfl, rfl⟩, fun x hx => by cases hx⟩
  · injection h with h _
    subst h
    have key : ∀ es : List (List V), (∀ x ∈ es, HasC (.sl (.int .i64)) x) → ∃ rs : List (List Int), RelE (rs.map fun r => [S 1 (eI r)]) es ∧ ∀ r ∈ rs, ∀ x ∈ r, i64r x := by
      intro es
      induction es with
      | nil => exact fun _ => ⟨[], by simp [RelE], fun x hx => by cases hx⟩
      | cons e es ih =>
        intro h
        have h1 := h e (by simp)
        obtain ⟨v, rfl⟩ : ∃ v, e = [v] := by
          simp only [HasC] at h1
          rcases h1 with h1 | ⟨_, h1, _⟩ <;> exact ⟨_, h1⟩
        obtain ⟨xs, hx, hb⟩ := can_ints h1
        obtain ⟨rs, g1, g2⟩ := ih fun x hx => h x (by simp [hx])
        refine ⟨xs :: rs, by rw [List.map_cons]; exact RelE.cons (RelL.one hx) g1, fun r hr => ?_⟩
        rcases List.mem_cons.1 hr with rfl | hr
        · exact hb
        · exact g2 r hr
    obtain ⟨rs, hr, hb⟩ := key es he
    exact ⟨rs, by rw [Rel]; right; exact ⟨_, rfl, hr⟩, hb⟩
theorem can_arr {k : IntKind} {n : Nat} {v : V} (h : HasV (.arr n (.int k)) v) : ∃ xs : List Int, xs.length = n ∧ v = .agg (xs.map fun x => .int k x) ∧ ∀ x ∈ xs, (Lit.int k x).wf = true := by
  simp only [HasV, HasC] at h
  obtain ⟨cs, rfl, es, rfl, rfl, he⟩ := h
  have key : ∀ es : List (List V), (∀ x ∈ es, ∃ n, x = [V.int k n] ∧ (Lit.int k n).wf = true) → ∃ xs : List Int, xs.length = es.length ∧ es.flatten = xs.map (fun x => .int k x) ∧ ∀ x ∈ xs, (Lit.int k x).wf = true := by
    intro es
    induction es with
    | nil => exact fun _ => ⟨[], rfl, rfl, fun x hx => by cases hx⟩
    | cons e es ih =>
      intro h
      obtain ⟨n, h1, h2⟩ := h e (by simp)
      obtain ⟨xs, g1, g2, g3⟩ := ih fun x hx => h x (by simp [hx])
      subst h1
      refine ⟨n :: xs, by simp [g1], by simp [g2], fun x hx => ?_⟩
      rcases List.mem_cons.1 hx with rfl | hx
      · exact h2
      · exact g3 x hx
  obtain ⟨xs, g1, g2, g3⟩ := key es he
  exact ⟨xs, g1, by rw [g2], g3⟩
theorem can_int {k : IntKind} {v : V} (h : HasV (.int k) v) : ∃ n, v = .int k n ∧ (Lit.int k n).wf = true := by
  simp only [HasV, HasC] at h
  obtain ⟨n, h, w⟩ := h
  injection h with h _
  exact ⟨n, h, w⟩
theorem can_bool {v : V} (h : HasV .bool v) : ∃ b, v = .bool b := by
  simp only [HasV, HasC] at h
  obtain ⟨n, h⟩ := h
  injection h with h _
  exact ⟨n, h⟩
theorem HasCs.inv {t : Ty} {ts : List Ty} {cs : List V} (h : HasCs (t :: ts) cs) : ∃ a b, cs = a ++ b ∧ HasC t a ∧ HasCs ts b := by rw [HasCs] at h; exact h
theorem HasC.sl1 {t : Ty} {x : List V} (hx : HasC (.sl t) x) : ∃ v, x = [v] := by
  rw [HasC] at hx
  rcases hx with hx | ⟨_, hx, _⟩ <;> exact ⟨_, hx⟩
end Go.Lo

/- More arguments that read as data. -/
namespace Go.Lo
theorem wf_u8 {n : Int} (h : (Lit.int .u8 n).wf = true) : 0 ≤ n ∧ n ≤ 255 := by
  simp [Lit.wf, IntKind.min, IntKind.max, IntKind.bits, IntKind.signed] at h; omega
theorem wf_u16 {n : Int} (h : (Lit.int .u16 n).wf = true) : 0 ≤ n ∧ n ≤ 65535 := by
  simp [Lit.wf, IntKind.min, IntKind.max, IntKind.bits, IntKind.signed] at h; omega
theorem wf_i8 {n : Int} (h : (Lit.int .i8 n).wf = true) : -128 ≤ n ∧ n ≤ 127 := by
  simp [Lit.wf, IntKind.min, IntKind.max, IntKind.bits, IntKind.signed] at h; omega
theorem wf_i16 {n : Int} (h : (Lit.int .i16 n).wf = true) : -32768 ≤ n ∧ n ≤ 32767 := by
  simp [Lit.wf, IntKind.min, IntKind.max, IntKind.bits, IntKind.signed] at h; omega
/-- A slice whose elements are told by things of a type, each of which stands for its cells. -/
theorem can_sl {α : Type} {t : Ty} {E : α → List V} {Q : α → Prop} {v : V} (h : HasC (.sl t) [v]) (he : ∀ x, HasC t x → ∃ a, RelL (E a) noT x ∧ Q a) : ∃ l : List α, Rel (S t.cells (l.map E)) noT v ∧ ∀ a ∈ l, Q a := by
  rw [HasC] at h
  rcases h with h | ⟨es, h, _, hes⟩
  · injection h with h _
    subst h
    exact ⟨[], by rw [Rel]; left; exact ⟨rfl, rfl⟩, fun x hx => by cases hx⟩
  · injection h with h _
    subst h
    have key : ∀ es : List (List V), (∀ x ∈ es, HasC t x) → ∃ l : List α, RelE (l.map E) es ∧ ∀ a ∈ l, Q a := by
      intro es
      induction es with
      | nil => exact fun _ => ⟨[], by simp [RelE], fun x hx => by cases hx⟩
      | cons e es ih =>
        intro h
        obtain ⟨a, h1, h2⟩ := he e (h e (by simp))
        obtain ⟨l, g1, g2⟩ := ih fun x hx => h x (by simp [hx])
        refine ⟨a :: l, by rw [List.map_cons]; exact RelE.cons h1 g1, fun x hx => ?_⟩
        rcases List.mem_cons.1 hx with rfl | hx
        · exact h2
        · exact g2 x hx
    obtain ⟨l, hr, hb⟩ := key es hes
    exact ⟨l, by rw [Rel]; right; exact ⟨_, rfl, hr⟩, hb⟩
theorem can_intsK {k : IntKind} {v : V} (h : HasC (.sl (.int k)) [v]) : ∃ xs : List Int, Rel (S 1 (xs.map fun x => [V.int k x])) noT v ∧ ∀ x ∈ xs, (Lit.int k x).wf = true :=
  can_sl (E := fun x => [V.int k x]) (Q := fun x => (Lit.int k x).wf = true) h fun x hx => by
    simp only [HasC] at hx
    obtain ⟨n, rfl, hn⟩ := hx
    exact ⟨n, RelL.one (by simp only [Rel]), hn⟩
theorem can_arrs {k : IntKind} {n : Nat} {v : V} (h : HasC (.sl (.arr n (.int k))) [v]) : ∃ rs : List (List Int), Rel (S n (rs.map fun r => r.map fun x => V.int k x)) noT v ∧ ∀ r ∈ rs, r.length = n ∧ ∀ x ∈ r, (Lit.int k x).wf = true := by
  have := can_sl (E := fun r : List Int => r.map fun x => V.int k x) (Q := fun r => r.length = n ∧ ∀ x ∈ r, (Lit.int k x).wf = true) h fun x hx => by
    obtain ⟨xs, h1, h2, h3⟩ := can_arr (k := k) (n := n) (v := .agg x) (by simp only [HasV]; exact ⟨x, rfl, hx⟩)
    injection h2 with h2
    exact ⟨xs, by rw [h2]; exact relL_ints k xs, h1, h3⟩
  rwa [show (Ty.arr n (.int k)).cells = n from by simp [Ty.cells]] at this
theorem rel_aggK (k : IntKind) (xs : List Int) : Rel (.agg (xs.map fun x => .int k x)) noT (.agg (xs.map fun x => .int k x)) := by
  rw [Rel]
  exact ⟨_, rfl, relL_ints k xs⟩
theorem rel_int (k : IntKind) (n : Int) : Rel (.int k n) noT (.int k n) := by rw [Rel]
theorem rel_bool (b : Bool) : Rel (.bool b) noT (.bool b) := by rw [Rel]
end Go.Lo

/- The plain machine's table is a table of the first machine; threads and spans as arguments. -/
namespace Go.Lo
open Go.Proofs
set_option linter.unusedSimpArgs false
theorem sl_inv {n : Nat} {e : List V} {es : List (List V)} {v : V} (h : Rel (.sl none n (e :: es)) noT v) : ∃ d r, v = .sl none n (d :: r) ∧ RelL e noT d ∧ RelE es r := by
  simp only [Rel] at h
  rcases h with ⟨h, _⟩ | ⟨es', rfl, he⟩
  · cases h
  · simp only [RelE] at he
    obtain ⟨d, r, rfl, h1, h2⟩ := he
    exact ⟨d, r, rfl, h1, h2⟩
theorem thr_inv {a1 : List V} {ar : List (List V)} {a2 a3 : Int} {v : List V} (h : RelL [.sl none 2 (a1 :: ar), .int .i64 a2, .int .i64 a3] noT v) : ∃ d r, v = [.sl none 2 (d :: r), .int .i64 a2, .int .i64 a3] := by
  obtain ⟨v1, q, rfl, h1, h2⟩ := h.inv
  obtain ⟨v2, v3, rfl, h3, h4⟩ := h2.inv2
  simp only [Rel] at h3 h4
  subst h3; subst h4
  obtain ⟨d, r, rfl, _, _⟩ := sl_inv h1
  exact ⟨d, r, rfl⟩
theorem catF_rel {as2 as1 : List V} {r2 : V} (h : catF as2 = some r2) (ha : RelL as2 noT as1) : ∃ r, run Ft Ct 83 as1 = some r ∧ RelR r2 r ∧ ∀ l2, itemsOf (some r2) = some l2 → ∃ l, itemsOf (some r) = some l ∧ RelE l2 l := by
  unfold catF at h
  split at h
  · injection h with h
    subst h
    obtain ⟨v, rfl, hv⟩ := RelL.inv1 ha
    obtain ⟨d1, r1, rfl, hd1, hr1⟩ := sl_inv hv
    simp only [RelE] at hr1
    obtain ⟨d2, r2, rfl, hd2, rfl⟩ := hr1
    obtain ⟨s1, rfl, hs1⟩ := RelL.inv1 hd1
    obtain ⟨s2, rfl, hs2⟩ := RelL.inv1 hd2
    obtain ⟨x, q, rfl, hx, hq⟩ := sl_inv hs1
    simp only [RelE] at hq
    obtain ⟨y, q2, rfl, hy, rfl⟩ := hq
    obtain ⟨z, q3, rfl, hz, hq3⟩ := sl_inv hs2
    simp only [RelE] at hq3
    subst hq3
    have hE := RelE.cons hx (RelE.cons hy (RelE.cons hz RelE.nil))
    obtain ⟨x1, x2, rfl⟩ := thr_inv hx
    obtain ⟨y1, y2, rfl⟩ := thr_inv hy
    obtain ⟨z1, z2, rfl⟩ := thr_inv hz
    refine ⟨_, run1_cat _ _ _ _ _ _ _ _ _ _ _ _, ?_, fun l2 h => by simp [itemsOf] at h⟩
    have hr : ∀ ρ : TkF, ρ 0 = some (3, true) → Rel (.sl (some 2000000) 3 _) ρ (.sl (some 0) 3 _) := fun ρ hρ => by
      rw [Rel]; right
      exact ⟨_, rfl, hE, true, hρ, fun _ => rfl, fun h => by simp [roX] at h, fun _ => by simp⟩
    exact ⟨⟨fun _ => some (3, true), hr _ rfl⟩, fun ρ h => hr ρ (h 0 _ (by simp [V.tks]))⟩
  · injection h with h
    subst h
    obtain ⟨v, rfl, hv⟩ := RelL.inv1 ha
    obtain ⟨d1, r1, rfl, hd1, hr1⟩ := sl_inv hv
    simp only [RelE] at hr1
    obtain ⟨d2, r2, rfl, hd2, rfl⟩ := hr1
    obtain ⟨s1, rfl, hs1⟩ := RelL.inv1 hd1
    obtain ⟨s2, rfl, hs2⟩ := RelL.inv1 hd2
    obtain ⟨x, q, rfl, hx, hq⟩ := sl_inv hs1
    simp only [RelE] at hq
    subst hq
    obtain ⟨z, q3, rfl, hz, hq3⟩ := sl_inv hs2
    simp only [RelE] at hq3
    subst hq3
    have hE := RelE.cons hx (RelE.cons hz RelE.nil)
    obtain ⟨x1, x2, rfl⟩ := thr_inv hx
    obtain ⟨z1, z2, rfl⟩ := thr_inv hz
    refine ⟨_, run1_cat2 _ _ _ _ _ _ _ _, ?_, fun l2 h => by simp [itemsOf] at h⟩
    have hr : ∀ ρ : TkF, ρ 0 = some (2, true) → Rel (.sl (some 2000000) 3 _) ρ (.sl (some 0) 3 _) := fun ρ hρ => by
      rw [Rel]; right
      exact ⟨_, rfl, hE, true, hρ, fun _ => rfl, fun h => by simp [roX] at h, fun _ => by simp⟩
    exact ⟨⟨fun _ => some (2, true), hr _ rfl⟩, fun ρ h => hr ρ (h 0 _ (by simp [V.tks]))⟩
  · cases h
theorem tabR : TabR F2 Ft C2 Ct := by
  refine ⟨fun f g2 as2 r2 as1 h1 h2 h3 => ?_, fun f lf h1 h2 => ⟨rfl, tabC f lf h2⟩⟩
  unfold F2 at h1
  split at h1
  · injection h1 with h1
    subst h1
    exact catF_rel h2 h3
  · cases h1
end Go.Lo

/- Threads are checked. -/
namespace Go.Lo
open Go.Proofs
set_option linter.unusedSimpArgs false
set_option maxHeartbeats 4000000
/-! ### The first of a list for which a function says so -/
theorem p97 {α : Type} {E : α → List V} {W : α → V} {g : Nat} {caps : List V} {pr : α → Bool} (hc : ∀ rd, frzL rd caps = some caps) {xs : List α} (hE : ∀ x ∈ xs, partV (E x) 0 none = some (W x) ∧ (∀ rd, (W x).frz rd = some (W x)) ∧ ∀ s, opV s (some (W x)) = some (W x)) (hp : ∀ x ∈ xs, R g (W x :: caps) = some (B (pr x))) (hl : xs.length < 4611686018427387904) :
    R 97 [S 1 (xs.map E), .fn (.f g) caps] = some (I (match xs.findIdx? pr with | none => -1 | some k => k)) := by
  have L := loop_find (s := fun i => { fr := [(0, S 1 (xs.map E)), (1, .fn (.f g) caps), (7, I xs.length), (8, I i)], tk := [] }) (f := evC2 R (xs.length + 1) b97_0) (n := xs.length) (g := prAt pr xs) (E := fun i => (.ret, { fr := [(4, I i)], tk := [] })) (X := (.exit 0, { fr := [(0, S 1 (xs.map E)), (1, .fn (.f g) caps), (7, I xs.length), (8, I xs.length), (9, B false)], tk := [] }))
    (fun i hi => by
      have h1 : xs[i]? = some xs[i] := List.getElem?_eq_getElem hi
      have hm : xs[i] ∈ xs := List.getElem_mem hi
      have hp' := hp _ hm
      obtain ⟨h2, h3, h4⟩ := hE _ hm
      have hlt : (i : Int) < xs.length := by omega
      clear hp hE
      generalize xs[i] = x at *
      rw [prAt_some h1]
      generalize hw : W x = w at *
      cases hx : pr x <;> rw [hx] at hp' <;> simp (maxSteps := 2000000) (disch := first | omega | (simp; done) | (simp; omega)) [-getElem?_pos, -partV, b97_0, h1, h2, h3, h4, hc, hp', hlt, wrap64]) (fun _ => by simp) (by simp [b97_0]) (by simp) xs.length 0 (by omega)
  rw [find_idx] at L
  refine run2_body (xs.length + 1) rfl rfl rfl rfl rfl ?_
  cases hf : xs.findIdx? pr with
  | none =>
    rw [hf] at L
    simp at L
    simp [l97, L]
  | some k =>
    rw [hf] at L
    simp at L
    simp [l97, L]
theorem p84 {α : Type} {E : α → List V} {W : α → V} {g : Nat} {caps : List V} {pr : α → Bool} (hc : ∀ rd, frzL rd caps = some caps) {xs : List α} (hE : ∀ x ∈ xs, partV (E x) 0 none = some (W x) ∧ (∀ rd, (W x).frz rd = some (W x)) ∧ ∀ s, opV s (some (W x)) = some (W x)) (hp : ∀ x ∈ xs, R g (W x :: caps) = some (B (pr x))) (hl : xs.length < 4611686018427387904) :
    R 84 [S 1 (xs.map E), .fn (.f g) caps] = some (B (xs.any pr)) := by
  have h := p97 hc hE hp hl
  refine run2_body 1 rfl rfl rfl rfl rfl ?_
  cases hf : xs.findIdx? pr with
  | none =>
    rw [hf] at h
    have : xs.any pr = false := by
      rw [List.findIdx?_eq_none_iff] at hf
      rw [List.any_eq_false]; simpa using hf
    simp [l84, h, hc, this]
  | some k =>
    rw [hf] at h
    have : xs.any pr = true := by
      have := List.findIdx?_isSome (xs := xs) (p := pr)
      rw [hf] at this
      exact this.symm
    simp (maxSteps := 2000000) (disch := first | omega | (simp; done) | (simp; omega)) [l84, h, hc, this]

theorem p85 (x lo hi : Int) : R 85 [I x, .cref [I lo], .cref [I hi]] = some (B (decide (x < lo) || decide (x > hi))) := by
  refine run2_body 1 rfl rfl rfl rfl rfl ?_
  by_cases h : x < lo <;> simp [l85, h]
theorem p55 (lo hi : Int) {xs : List Int} (hl : xs.length < 4611686018427387904) : R 55 [I lo, I hi, S 1 (eI xs)] = some (B (xs.all fun x => decide (lo ≤ x ∧ x ≤ hi))) := by
  have h := p84 (g := 85) (caps := [.cref [I lo], .cref [I hi]]) (pr := fun x => decide (x < lo) || decide (x > hi)) (E := fun x => [I x]) (W := fun x => I x) (xs := xs) (fun _ => rfl) (fun _ _ => ⟨rfl, fun _ => rfl, fun _ => rfl⟩) (fun x _ => p85 x lo hi) hl
  refine run2_body 1 rfl rfl rfl rfl rfl ?_
  have e : (xs.all fun x => decide (lo ≤ x ∧ x ≤ hi)) = !(xs.any fun x => decide (x < lo) || decide (x > hi)) := by
    rw [List.not_any_eq_all_not]
    congr 1
    funext x
    by_cases h1 : x < lo <;> by_cases h2 : x > hi <;> simp [h1, h2] <;> omega
  rw [e]
  simp [l55, h]

abbrev eS (x : Int × Int) : V := .agg [I x.1, I x.2]
abbrev eS2 (l : List (Int × Int)) : List (List V) := l.map fun x => [I x.1, I x.2]
/-- A thread: turns, and how its flanks lean. -/
abbrev Thr := List (Int × Int) × Int × Int
abbrev eT (t : Thr) : List V := [S 2 (eS2 t.1), I t.2.1, I t.2.2]
theorem p55_1 (lo hi x : Int) : R 55 [I lo, I hi, S 1 [[I x]]] = some (B (decide (lo ≤ x ∧ x ≤ hi))) := by
  have := p55 lo hi (xs := [x]) (by simp)
  simpa using this
theorem p55_2 (lo hi x y : Int) : R 55 [I lo, I hi, S 1 [[I x], [I y]]] = some (B (decide ((lo ≤ x ∧ x ≤ hi) ∧ (lo ≤ y ∧ y ≤ hi)))) := by
  have := p55 lo hi (xs := [x, y]) (by simp)
  simpa using this
theorem p94 (s : Int × Int) (lo hi : Int) : R 94 [eS s, I lo, I hi] = some (B (decide (lo ≤ s.1 ∧ s.1 ≤ s.2 ∧ s.2 ≤ hi))) := by
  have e1 := p55_2 lo hi s.1 s.2
  refine run2_body 1 rfl rfl rfl rfl rfl ?_
  rw [show decide (lo ≤ s.1 ∧ s.1 ≤ s.2 ∧ s.2 ≤ hi) = (decide (s.1 ≤ s.2) && decide ((lo ≤ s.1 ∧ s.1 ≤ hi) ∧ (lo ≤ s.2 ∧ s.2 ≤ hi))) from by rw [Bool.eq_iff_iff]; simp; omega]
  generalize decide ((lo ≤ s.1 ∧ s.1 ≤ hi) ∧ (lo ≤ s.2 ∧ s.2 ≤ hi)) = q at *
  by_cases h : s.1 ≤ s.2 <;> simp (maxSteps := 2000000) (disch := first | omega | (simp; done) | (simp; omega)) [-getElem?_pos, l94, e1, h]
def dOk (d : Int × Int) : Bool := decide (-200000 ≤ d.1 ∧ d.1 ≤ d.2 ∧ d.2 ≤ 200000)
theorem p71 (d : Int × Int) : R 71 [eS d] = some (I (if dOk d = true then 0 else 3)) := by
  have e1 := p94 d (-200000) 200000
  rw [show decide (-200000 ≤ d.1 ∧ d.1 ≤ d.2 ∧ d.2 ≤ 200000) = dOk d from rfl] at e1
  generalize dOk d = q at *
  refine run2_body 1 rfl rfl rfl rfl rfl ?_
  cases q <;> simp (maxSteps := 2000000) (disch := first | omega | (simp; done) | (simp; omega)) [-getElem?_pos, l71, e1]
/-! ### What is checked -/
def turn (ts : List (Int × Int)) (i : Nat) : Int × Int := ts.getD i (0, 0)
def aftT (ts : List (Int × Int)) (i : Nat) : Int := if i = 0 then -10000000 else (turn ts (i - 1)).2
def turnB (ts : List (Int × Int)) (i : Nat) : Bool := decide ((aftT ts i ≤ (turn ts i).1 ∧ (turn ts i).1 ≤ 10000000) ∧ ((turn ts i).1 ≤ (turn ts i).2 ∧ (turn ts i).2 ≤ 10000000))
def leanB (l r : Int) : Bool := decide ((0 ≤ l ∧ l ≤ 3000) ∧ (0 ≤ r ∧ r ≤ 3000))
/-- The error of a thread. -/
def chkT (t : Thr) : Int :=
  if 60 < t.1.length then 5
  else if t.1 = [] ∨ leanB t.2.1 t.2.2 = false then 2
  else if (List.range t.1.length).all (turnB t.1) = true then 0 else 2
theorem turn_get {ts : List (Int × Int)} {i : Nat} (hi : i < ts.length) : ts[i]? = some (turn ts i) := by
  unfold turn
  simp [hi]
theorem all_find {n : Nat} {g : Nat → Bool} : (List.range n).all g = ((List.range n).find? fun i => !g i).isNone := by
  rw [Bool.eq_iff_iff, List.all_eq_true, Option.isNone_iff_eq_none, List.find?_eq_none]
  simp
theorem loop16_0 {ts : List (Int × Int)} (hl : ts.length ≤ 60) (M : Nat) :
    iter (evC2 R M b16_0) (ts.length + 1) { fr := [(3, I (-10000000)), (24, S 2 (eS2 ts)), (25, I ts.length), (26, I 0)], tk := [] } =
      if (List.range ts.length).all (turnB ts) = true then some (.exit 1, { fr := [(3, I (aftT ts ts.length)), (24, S 2 (eS2 ts)), (25, I ts.length), (26, I ts.length), (27, B false)], tk := [] })
      else some (.ret, { fr := [(2, I 2)], tk := [] }) := by
  have L := loop_if (s := fun i => { fr := [(3, I (aftT ts i)), (24, S 2 (eS2 ts)), (25, I ts.length), (26, I i)], tk := [] }) (f := evC2 R M b16_0) (n := ts.length) (g := fun i => !turnB ts i) (E := fun _ => (.ret, { fr := [(2, I 2)], tk := [] })) (X := (.exit 1, { fr := [(3, I (aftT ts ts.length)), (24, S 2 (eS2 ts)), (25, I ts.length), (26, I ts.length), (27, B false)], tk := [] }))
    (fun i hi => by
      have h1 := turn_get hi
      have haft : aftT ts (i + 1) = (turn ts i).2 := by simp [aftT]
      rw [haft]
      unfold turnB
      generalize turn ts i = x at *
      generalize aftT ts i = a at *
      have e1 := p55_1 a 10000000 x.1
      have e2 := p55_1 x.1 10000000 x.2
      by_cases c1 : a ≤ x.1 ∧ x.1 ≤ 10000000
      · by_cases c2 : x.1 ≤ x.2 ∧ x.2 ≤ 10000000
        · simp only [c1, c2, and_self, decide_true] at e1 e2
          simp (maxSteps := 2000000) (disch := first | omega | (simp; done) | (simp; omega)) [-getElem?_pos, b16_0, h1, hi, e1, e2, c1, c2, wrap64]
        · simp only [c1, c2, and_self, decide_true, decide_false] at e1 e2
          simp (maxSteps := 2000000) (disch := first | omega | (simp; done) | (simp; omega)) [-getElem?_pos, b16_0, h1, hi, e1, e2, c1, c2, wrap64]
      · simp only [c1, decide_false] at e1
        simp (maxSteps := 2000000) (disch := first | omega | (simp; done) | (simp; omega)) [-getElem?_pos, b16_0, h1, hi, e1, c1, wrap64]) (fun _ => by simp) (by simp (maxSteps := 2000000) (disch := first | omega | (simp; done) | (simp; omega)) [-getElem?_pos, b16_0]) (by simp)
  rw [← List.range_eq_range'] at L
  have h0 : aftT ts 0 = -10000000 := rfl
  simp only [h0] at L
  rw [show ((0 : Nat) : Int) = 0 from rfl] at L
  rw [L, all_find]
  cases (List.range ts.length).find? (fun i => !turnB ts i) <;> simp
theorem p16 (t : Thr) : R 16 [.agg (eT t)] = some (I (chkT t)) := by
  obtain ⟨ts, l, r⟩ := t
  have e1 := p55_2 0 3000 l r
  rw [show decide ((0 ≤ l ∧ l ≤ 3000) ∧ (0 ≤ r ∧ r ≤ 3000)) = leanB l r from rfl] at e1
  refine run2_body (ts.length + 1) rfl rfl rfl rfl rfl ?_
  unfold chkT
  simp only [eT]
  by_cases c1 : (ts.length : Int) > 60
  · have c1' : 60 < ts.length := by omega
    simp (maxSteps := 2000000) (disch := first | omega | (simp; done) | (simp; omega)) [-getElem?_pos, l16, c1, c1']
  · have c1' : ¬ 60 < ts.length := by omega
    by_cases c2 : ts = []
    · subst c2
      simp (maxSteps := 2000000) (disch := first | omega | (simp; done) | (simp; omega)) [-getElem?_pos, l16]
    · have c2' : ¬ ts.length = 0 := fun h => c2 (List.length_eq_zero_iff.1 h)
      have L := loop16_0 (ts := ts) (by omega) (ts.length + 1)
      generalize (List.range ts.length).all (turnB ts) = q at *
      generalize leanB l r = q2 at *
      cases q2
      · simp (maxSteps := 2000000) (disch := first | omega | (simp; done) | (simp; omega)) [-getElem?_pos, l16, c1, c1', c2, c2', e1]
      · cases q <;> simp at L <;> simp (maxSteps := 2000000) (disch := first | omega | (simp; done) | (simp; omega)) [-getElem?_pos, l16, c1, c1', c2, c2', e1, L]
/-- The first error of some threads, and of a depth. -/
def chkAll (d : Int × Int) (l : List Thr) : Int := match l.find? fun t => decide (chkT t ≠ 0) with
  | some t => chkT t
  | none => if dOk d = true then 0 else 3
theorem find_prAt {α : Type} (pr : α → Bool) (xs : List α) : (match (List.range' 0 xs.length).find? (prAt pr xs) with | some i => xs[i]? | none => none) = xs.find? pr := by
  rw [find_idx]
  cases h : xs.findIdx? pr with
  | none =>
    rw [List.findIdx?_eq_none_iff] at h
    symm
    rw [List.find?_eq_none]
    intro x hx
    rw [h x hx]; simp
  | some k =>
    obtain ⟨hk, h1, h2⟩ := List.findIdx?_eq_some_iff_getElem.1 h
    show xs[k]? = _
    rw [List.getElem?_eq_getElem hk]
    symm
    rw [List.find?_eq_some_iff_append]
    refine ⟨h1, xs.take k, xs.drop (k + 1), by rw [List.getElem_cons_drop]; exact (List.take_append_drop k xs).symm, fun a ha => ?_⟩
    obtain ⟨j, hj, rfl⟩ := List.mem_iff_getElem.1 ha
    rw [List.length_take] at hj
    have := h2 j (by omega)
    rw [List.getElem_take]
    simpa using this
theorem p65 (d : Int × Int) {l : List Thr} (hl : l.length ≤ 1000000) : R 65 [eS d, S 3 (l.map eT)] = some (I (chkAll d l)) := by
  have L := loop_if (s := fun i => { fr := [(2, .box [I d.1, I d.2]), (8, S 3 (l.map eT)), (9, I l.length), (10, I i)], tk := [] }) (f := evC2 R (l.length + 1) b65_0) (n := l.length) (g := prAt (fun t => decide (chkT t ≠ 0)) l) (E := fun i => (.ret, { fr := [(4, I (chkT (l.getD i ([], 0, 0))))], tk := [] })) (X := (.exit 0, { fr := [(2, .box [I d.1, I d.2]), (8, S 3 (l.map eT)), (9, I l.length), (10, I l.length), (11, B false)], tk := [] }))
    (fun i hi => by
      have h1 : l[i]? = some l[i] := List.getElem?_eq_getElem hi
      rw [prAt_some h1, show l.getD i ([], 0, 0) = l[i] by simp [hi]]
      have e1 := p16 l[i]
      generalize l[i] = t at *
      simp only [eT] at e1
      generalize chkT t = c at *
      by_cases hc : c = 0 <;> simp (maxSteps := 2000000) (disch := first | omega | (simp; done) | (simp; omega)) [-getElem?_pos, b65_0, eT, h1, hi, e1, hc, wrap64]) (fun _ => by simp) (by simp (maxSteps := 2000000) (disch := first | omega | (simp; done) | (simp; omega)) [-getElem?_pos, b65_0]) (by simp)
  have e2 := p71 d
  unfold chkAll
  have hf := find_prAt (fun t => decide (chkT t ≠ 0)) l
  cases hk : (List.range' 0 l.length).find? (prAt (fun t => decide (chkT t ≠ 0)) l) with
  | none =>
    rw [hk] at L hf
    simp only at L hf
    rw [← hf]
    simp at L
    refine run2_body (l.length + 1) rfl rfl rfl rfl rfl ?_
    generalize dOk d = q at *
    simp (maxSteps := 2000000) (disch := first | omega | (simp; done) | (simp; omega)) [-getElem?_pos, l65, L, e2]
  | some k =>
    rw [hk] at L hf
    simp only at L hf
    rw [← hf]
    have hk2 : k < l.length := by
      have := List.mem_of_find?_eq_some hk
      simp at this; omega
    rw [List.getElem?_eq_getElem hk2]
    rw [show l.getD k ([], 0, 0) = l[k] by simp [hk2]] at L
    simp at L
    refine run2_body (l.length + 1) rfl rfl rfl rfl rfl ?_
    simp (maxSteps := 2000000) (disch := first | omega | (simp; done) | (simp; omega)) [-getElem?_pos, l65, L]
end Go.Lo

/- Threads and spans, as arguments. -/
namespace Go.Lo
open Go.Proofs
set_option linter.unusedSimpArgs false
abbrev spTy : Ty := .st [.int .i64, .int .i64]
abbrev thrTy : Ty := .st [.sl spTy, .int .i64, .int .i64]
theorem can_i {x : List V} (h : HasC (.int .i64) x) : ∃ n, x = [.int .i64 n] := by
  simp only [HasC] at h
  obtain ⟨n, rfl, _⟩ := h
  exact ⟨n, rfl⟩
theorem can_b {x : List V} (h : HasC .bool x) : ∃ b, x = [.bool b] := by
  simp only [HasC] at h
  exact h
theorem can_sp {x : List V} (h : HasC spTy x) : ∃ a b, x = [.int .i64 a, .int .i64 b] := by
  rw [HasC] at h
  obtain ⟨x1, r1, rfl, h1, h⟩ := h.inv
  obtain ⟨x2, r2, rfl, h2, h⟩ := h.inv
  rw [HasCs] at h
  subst h
  obtain ⟨a, rfl⟩ := can_i h1
  obtain ⟨b, rfl⟩ := can_i h2
  exact ⟨a, b, rfl⟩
theorem rel_i (n : Int) : Rel (I n) noT (.int .i64 n) := by rw [Rel]
theorem can_thr {v : V} (h : HasV thrTy v) : ∃ t : Thr, Rel (.agg (eT t)) noT v := by
  simp only [HasV] at h
  obtain ⟨cs, rfl, h⟩ := h
  obtain ⟨x1, r1, rfl, h1, h⟩ := h.inv
  obtain ⟨x2, r2, rfl, h2, h⟩ := h.inv
  obtain ⟨x3, r3, rfl, h3, h⟩ := h.inv
  rw [HasCs] at h
  subst h
  obtain ⟨s, rfl⟩ := h1.sl1
  obtain ⟨a, rfl⟩ := can_i h2
  obtain ⟨b, rfl⟩ := can_i h3
  obtain ⟨l, hl, _⟩ := can_sl (E := fun x : Int × Int => [I x.1, I x.2]) (Q := fun _ => True) h1 fun x hx => by
    obtain ⟨a, b, rfl⟩ := can_sp hx
    exact ⟨(a, b), RelL.cons (rel_i a) (RelL.one (rel_i b)), trivial⟩
  refine ⟨(l, a, b), ?_⟩
  rw [Rel]
  refine ⟨_, rfl, RelL.cons ?_ (RelL.cons (rel_i a) (RelL.one (rel_i b)))⟩
  exact hl
theorem can_span {v : V} (h : HasV spTy v) : ∃ d : Int × Int, v = .agg [I d.1, I d.2] := by
  simp only [HasV] at h
  obtain ⟨cs, rfl, h⟩ := h
  obtain ⟨a, b, rfl⟩ := can_sp h
  exact ⟨(a, b), rfl⟩
theorem rel_is : ∀ xs : List Int, RelL (xs.map fun x => I x) noT (xs.map fun x => I x)
  | [] => RelL.nil
  | x :: xs => by rw [List.map_cons]; exact RelL.cons (rel_i x) (rel_is xs)
theorem rel_aggI (xs : List Int) : Rel (.agg (xs.map fun x => I x)) noT (.agg (xs.map fun x => I x)) := by
  rw [Rel]; exact ⟨_, rfl, rel_is xs⟩
/-- Three integers and a span. -/
theorem can_at {v : V} (h : HasV (.st [.int .i64, .int .i64, .int .i64, spTy]) v) : ∃ a b c : Int, ∃ d : Int × Int, v = .agg [I a, I b, I c, I d.1, I d.2] := by
  simp only [HasV] at h
  obtain ⟨cs, rfl, h⟩ := h
  obtain ⟨x1, r1, rfl, h1, h⟩ := h.inv
  obtain ⟨x2, r2, rfl, h2, h⟩ := h.inv
  obtain ⟨x3, r3, rfl, h3, h⟩ := h.inv
  obtain ⟨x4, r4, rfl, h4, h⟩ := h.inv
  rw [HasCs] at h
  subst h
  obtain ⟨a, rfl⟩ := can_i h1
  obtain ⟨b, rfl⟩ := can_i h2
  obtain ⟨c, rfl⟩ := can_i h3
  obtain ⟨d, e, rfl⟩ := can_sp h4
  exact ⟨a, b, c, (d, e), rfl⟩
end Go.Lo

/- How teeth lie in grooves. -/
namespace Go.Lo
open Go.Proofs
set_option linter.unusedSimpArgs false
set_option maxHeartbeats 4000000
theorem maxL2 {a b : Int} : maxL a [b] = max a b := by simp only [maxL]; split <;> omega
theorem minL2 {a b : Int} : minL a [b] = min a b := by simp only [minL]; split <;> omega
theorem maxL3 {a b c : Int} : maxL a [b, c] = max (max a b) c := by simp only [maxL]; split <;> split <;> omega
theorem abs_mul {a b A C : Int} (h1 : -A ≤ a ∧ a ≤ A) (h2 : -C ≤ b ∧ b ≤ C) : -(A * C) ≤ a * b ∧ a * b ≤ A * C := by
  have hA : 0 ≤ A := by omega
  have hC : 0 ≤ C := by omega
  have key : ∀ {x y : Int}, 0 ≤ x → x ≤ A → -C ≤ y → y ≤ C → -(A * C) ≤ x * y ∧ x * y ≤ A * C := fun {x y} p1 p2 p3 p4 => by
    have e1 := Int.mul_le_mul_of_nonneg_left p4 p1
    have e2 := Int.mul_le_mul_of_nonneg_right p2 hC
    have e3 := Int.mul_le_mul_of_nonneg_left p3 p1
    have e4 : x * -C = -(x * C) := Int.mul_neg x C
    omega
  by_cases h : 0 ≤ a
  · exact key h h1.2 h2.1 h2.2
  · have := key (x := -a) (y := b) (by omega) (by omega) h2.1 h2.2
    rw [Int.neg_mul] at this
    omega
/-- A height is one of those at which flanks can touch. -/
structure DOk (d : Int × Int) : Prop where
  lo : -200000 ≤ d.1
  le : d.1 ≤ d.2
  hi : d.2 ≤ 200000
theorem dOk_iff {d : Int × Int} : dOk d = true ↔ DOk d := by
  unfold dOk
  rw [decide_eq_true_eq]
  exact ⟨fun h => ⟨h.1, h.2.1, h.2.2⟩, fun h => ⟨h.1, h.2, h.3⟩⟩
def mst (d : Int × Int) (b : Int) : Int := max (d.1 * b) (d.2 * b)
theorem mst_bd {d : Int × Int} (hd : DOk d) {b : Int} (hb : -3000 ≤ b ∧ b ≤ 3000) : -600000000 ≤ mst d b ∧ mst d b ≤ 600000000 := by
  obtain ⟨h1, h2, h3⟩ := hd
  have := abs_mul (a := d.1) (b := b) (A := 200000) (C := 3000) (by omega) (by omega)
  have := abs_mul (a := d.2) (b := b) (A := 200000) (C := 3000) (by omega) (by omega)
  unfold mst
  omega
theorem p87 {d : Int × Int} (hd : DOk d) {b : Int} (hb : -3000 ≤ b ∧ b ≤ 3000) : R 87 [eS d, I b] = some (I (mst d b)) := by
  obtain ⟨h1, h2, h3⟩ := hd
  have b1 := abs_mul (a := d.1) (b := b) (A := 200000) (C := 3000) (by omega) (by omega)
  have b2 := abs_mul (a := d.2) (b := b) (A := 200000) (C := 3000) (by omega) (by omega)
  unfold mst
  have w1 := wrap64 (n := d.1 * b) (by omega) (by omega)
  have w2 := wrap64 (n := d.2 * b) (by omega) (by omega)
  generalize hx : d.1 * b = x at *
  generalize hy : d.2 * b = y at *
  refine run2_body 1 rfl rfl rfl rfl rfl ?_
  simp (maxSteps := 2000000) (disch := first | omega | (simp; done) | (simp; omega)) [-getElem?_pos, -maxL, maxL2, l87, hx, hy, w1, w2]
/-- What two flanks need of the shift. -/
def nd (d : Int × Int) (a b : Int × Int) (sl sr nl nr : Int) : Int × Int := (1000 * (b.1 - a.1) + mst d (nl - sl), 1000 * (b.2 - a.2) - mst d (nr - sr))
abbrev far1 (x : Int × Int) : Prop := (-10000000 ≤ x.1 ∧ x.1 ≤ 10000000) ∧ (-10000000 ≤ x.2 ∧ x.2 ≤ 10000000)
abbrev lean1 (l r : Int) : Prop := (0 ≤ l ∧ l ≤ 3000) ∧ (0 ≤ r ∧ r ≤ 3000)
theorem nd_bd {d : Int × Int} (hd : DOk d) {a b : Int × Int} (ha : far1 a) (hb : far1 b) {sl sr nl nr : Int} (hs : lean1 sl sr) (hn : lean1 nl nr) : (-30000000000 ≤ (nd d a b sl sr nl nr).1 ∧ (nd d a b sl sr nl nr).1 ≤ 30000000000) ∧ (-30000000000 ≤ (nd d a b sl sr nl nr).2 ∧ (nd d a b sl sr nl nr).2 ≤ 30000000000) := by
  have m1 := mst_bd hd (b := nl - sl) (by omega)
  have m2 := mst_bd hd (b := nr - sr) (by omega)
  unfold nd
  omega
theorem p91 {d : Int × Int} (hd : DOk d) {a b : Int × Int} (ha : far1 a) (hb : far1 b) {sl sr nl nr : Int} (hs : lean1 sl sr) (hn : lean1 nl nr) (x y : V) (hx : x = .sl none 2 [] ∨ ∃ es, x = .sl none 2 es) (hy : ∃ es, y = .sl none 2 es) :
    R 91 [eS d, eS a, eS b, .agg [x, I sl, I sr], .agg [y, I nl, I nr]] = some (eS (nd d a b sl sr nl nr)) := by
  have hx' : ∃ es, x = .sl none 2 es := by rcases hx with h | h; exact ⟨_, h⟩; exact h
  obtain ⟨ex, rfl⟩ := hx'
  obtain ⟨ey, rfl⟩ := hy
  have e1 := p87 hd (b := nl - sl) (by omega)
  have e2 := p87 hd (b := nr - sr) (by omega)
  have m1 := mst_bd hd (b := nl - sl) (by omega)
  have m2 := mst_bd hd (b := nr - sr) (by omega)
  unfold nd
  generalize mst d (nl - sl) = y1 at *
  generalize mst d (nr - sr) = y2 at *
  refine run2_body 1 rfl rfl rfl rfl rfl ?_
  simp (maxSteps := 2000000) (disch := first | omega | (simp; done) | (simp; omega)) [-getElem?_pos, l91, e1, e2, wrap64]
/-- The shifts that all of these allow. -/
def shf : List (Int × Int) → Int × Int
  | [] => (0, 0)
  | x :: r => r.foldl (fun s n => (max s.1 n.1, min s.2 n.2)) x
theorem shf_snoc (l : List (Int × Int)) (x : Int × Int) : shf (l ++ [x]) = if l = [] then x else (max (shf l).1 x.1, min (shf l).2 x.2) := by
  cases l with
  | nil => rfl
  | cons y l => simp [shf]
abbrev nds (d : Int × Int) (s n : Thr) (ts gs : List (Int × Int)) : List (Int × Int) := List.zipWith (fun a b => nd d a b s.2.1 s.2.2 n.2.1 n.2.2) ts gs
theorem take_at {α : Type} {l : List α} {i : Nat} {x : α} (h : l[i]? = some x) : l.take (i + 1) = l.take i ++ [x] := by
  rw [List.take_add_one, h]; rfl
theorem nds_take {d : Int × Int} {s n : Thr} {ts gs : List (Int × Int)} {i : Nat} {a b : Int × Int} (h1 : ts[i]? = some a) (h2 : gs[i]? = some b) : nds d s n (ts.take (i + 1)) (gs.take (i + 1)) = nds d s n (ts.take i) (gs.take i) ++ [nd d a b s.2.1 s.2.2 n.2.1 n.2.2] := by
  rw [take_at h1, take_at h2]
  have := (List.getElem?_eq_some_iff.1 h1).1
  have := (List.getElem?_eq_some_iff.1 h2).1
  unfold nds
  rw [List.zipWith_append (by simp; omega)]
  rfl
theorem zw_take {α β γ : Type} (f : α → β → γ) : ∀ (l : List α) (r : List β), List.zipWith f l (r.take l.length) = List.zipWith f l r
  | [], r => by simp
  | x :: l, [] => by simp
  | x :: l, y :: r => by simp [zw_take f l r]
/-- A valid thread. -/
structure TOk (t : Thr) : Prop where
  len : t.1.length ≤ 60
  pos : 0 < t.1.length
  lean : lean1 t.2.1 t.2.2
  turn : ∀ x ∈ t.1, far1 x ∧ x.1 ≤ x.2
theorem chkT_ok {t : Thr} (h : chkT t = 0) : TOk t := by
  obtain ⟨ts, l, r⟩ := t
  unfold chkT at h
  simp only at h
  split at h
  · omega
  · rename_i h1
    split at h
    · omega
    · rename_i h2
      split at h
      · rename_i h3
        rw [List.all_eq_true] at h3
        have hb : ∀ i, i < ts.length → turnB ts i = true := fun i hi => h3 i (List.mem_range.2 hi)
        have hlow : ∀ i, i < ts.length → -10000000 ≤ (turn ts i).1 ∧ (turn ts i).1 ≤ (turn ts i).2 := by
          intro i
          induction i with
          | zero =>
            intro hi
            have := hb 0 hi
            unfold turnB aftT at this
            rw [decide_eq_true_eq] at this
            simp at this
            omega
          | succ i ih =>
            intro hi
            have h4 := hb (i + 1) hi
            have h5 := ih (by omega)
            unfold turnB aftT at h4
            rw [decide_eq_true_eq] at h4
            simp at h4
            omega
        refine ⟨by simp only; omega, ?_, ?_, fun x hx => ?_⟩
        · have : ts ≠ [] := fun e => h2 (.inl e)
          exact Nat.pos_of_ne_zero fun e => this (List.length_eq_zero_iff.1 e)
        · have h4 : leanB l r = true := by
            cases hq : leanB l r with
            | true => rfl
            | false => exact absurd (.inr hq) h2
          unfold leanB at h4
          rw [decide_eq_true_eq] at h4
          exact h4
        · obtain ⟨i, hi, rfl⟩ := List.mem_iff_getElem.1 hx
          have h4 := hb i hi
          have h5 := hlow i hi
          have h6 : ts[i] = turn ts i := by simp [Go.Lo.turn, hi]
          rw [h6]
          unfold turnB at h4
          rw [decide_eq_true_eq] at h4
          exact ⟨⟨by omega, by omega⟩, h5.2⟩
      · omega
theorem p66 {d : Int × Int} (hd : DOk d) {s n : Thr} (hs : TOk s) (hn : TOk n) {ts gs : List (Int × Int)} (ht : ∀ x ∈ ts, far1 x) (hg : ∀ x ∈ gs, far1 x) (hl : ts.length ≤ gs.length) (hl2 : ts.length ≤ 1000) :
    R 66 [.agg ([I d.1, I d.2] ++ eT s ++ eT n), S 2 (eS2 ts), S 2 (eS2 gs)] = some (.tup [eS (shf (nds d s n ts gs)), B (decide ((shf (nds d s n ts gs)).1 ≤ (shf (nds d s n ts gs)).2))]) := by
  have hnb : ∀ i, i ≤ ts.length → (-30000000000 ≤ (shf (nds d s n (ts.take i) (gs.take i))).1 ∧ (shf (nds d s n (ts.take i) (gs.take i))).1 ≤ 30000000000) ∧ (-30000000000 ≤ (shf (nds d s n (ts.take i) (gs.take i))).2 ∧ (shf (nds d s n (ts.take i) (gs.take i))).2 ≤ 30000000000) := by
    intro i
    induction i with
    | zero => intro _; simp [shf]
    | succ i ih =>
      intro hi
      have h1 : ts[i]? = some ts[i] := List.getElem?_eq_getElem (by omega)
      have h2 : gs[i]? = some gs[i] := List.getElem?_eq_getElem (by omega)
      have k1 := ht _ (List.getElem_mem (show i < ts.length by omega))
      have k2 := hg _ (List.getElem_mem (show i < gs.length by omega))
      rw [nds_take h1 h2, shf_snoc]
      have b1 := nd_bd hd k1 k2 hs.lean hn.lean
      have b2 := ih (by omega)
      split
      · exact b1
      · simp only; omega
  have L := loop_all (s := fun i => { fr := [(2, S 2 (eS2 gs)), (3, .box ([I d.1, I d.2] ++ eT s ++ eT n)), (6, .box [I (shf (nds d s n (ts.take i) (gs.take i))).1, I (shf (nds d s n (ts.take i) (gs.take i))).2]), (11, S 2 (eS2 ts)), (12, I ts.length), (13, I i)], tk := [] }) (f := evC2 R (ts.length + 1) b66_0) (n := ts.length)
    (X := (.exit 0, { fr := [(2, S 2 (eS2 gs)), (3, .box ([I d.1, I d.2] ++ eT s ++ eT n)), (6, .box [I (shf (nds d s n ts gs)).1, I (shf (nds d s n ts gs)).2]), (11, S 2 (eS2 ts)), (12, I ts.length), (13, I ts.length), (14, B false)], tk := [] }))
    (fun i hi => by
      have h1 : ts[i]? = some ts[i] := List.getElem?_eq_getElem hi
      have h2 : gs[i]? = some gs[i] := List.getElem?_eq_getElem (by omega)
      have k1 := ht _ (List.getElem_mem hi)
      have k2 := hg _ (List.getElem_mem (show i < gs.length by omega))
      have hz : nds d s n (ts.take i) (gs.take i) = [] ↔ i = 0 := by
        rw [← List.length_eq_zero_iff, List.length_zipWith, List.length_take, List.length_take]; omega
      rw [nds_take h1 h2, shf_snoc]
      generalize ts[i] = a at *
      generalize gs[i] = b at *
      have e1 := p91 hd k1 k2 hs.lean hn.lean (S 2 (eS2 s.1)) (S 2 (eS2 n.1)) (.inr ⟨_, rfl⟩) ⟨_, rfl⟩
      generalize nd d a b s.2.1 s.2.2 n.2.1 n.2.2 = z at *
      generalize shf (nds d s n (ts.take i) (gs.take i)) = y at *
      by_cases h0 : i = 0
      · rw [if_pos (hz.2 h0)]
        subst h0
        have m1 : max z.1 z.1 = z.1 := by omega
        have m2 : min z.2 z.2 = z.2 := by omega
        simp (maxSteps := 2000000) (disch := first | omega | (simp; done) | (simp; omega)) [-getElem?_pos, -maxL, -minL, maxL2, minL2, b66_0, eT, h1, h2, hi, e1, m1, m2, wrap64]
      · rw [if_neg (fun h => h0 (hz.1 h))]
        simp (maxSteps := 2000000) (disch := first | omega | (simp; done) | (simp; omega)) [-getElem?_pos, -maxL, -minL, maxL2, minL2, b66_0, eT, h1, h2, hi, e1, h0, wrap64]) (by
      have e : nds d s n (ts.take ts.length) (gs.take ts.length) = nds d s n ts gs := by
        rw [List.take_length]; exact zw_take _ _ _
      rw [e]
      generalize shf (nds d s n ts gs) = y at *
      simp (maxSteps := 2000000) (disch := first | omega | (simp; done) | (simp; omega)) [-getElem?_pos, b66_0, eT]) (by simp)
  generalize shf (nds d s n ts gs) = y at *
  simp [eT, shf] at L
  refine run2_body (ts.length + 1) rfl rfl rfl rfl rfl ?_
  simp (maxSteps := 2000000) (disch := first | omega | (simp; done) | (simp; omega)) [-getElem?_pos, l66, eT, L]
end Go.Lo

/- Shifts and steps, by the program. -/
namespace Go.Lo
open Go.Proofs
set_option linter.unusedSimpArgs false
set_option maxHeartbeats 8000000
theorem chkAll_two {d : Int × Int} {s n : Thr} (h : chkAll d [s, n] = 0) : chkT s = 0 ∧ chkT n = 0 ∧ dOk d = true := by
  unfold chkAll at h
  by_cases h1 : chkT s = 0
  · by_cases h2 : chkT n = 0
    · simp [h1, h2] at h
      exact ⟨h1, h2, h⟩
    · simp [h1, h2] at h
  · simp [h1] at h
theorem chkAll_one {d : Int × Int} {s : Thr} (h : chkAll d [s] = 0) : chkT s = 0 ∧ dOk d = true := by
  unfold chkAll at h
  by_cases h1 : chkT s = 0
  · simp [h1] at h
    exact ⟨h1, h⟩
  · simp [h1] at h
theorem chkAll_2 (d : Int × Int) (s n : Thr) : chkAll d [s, n] = if chkT s ≠ 0 then chkT s else if chkT n ≠ 0 then chkT n else if dOk d = true then 0 else 3 := by
  unfold chkAll
  by_cases h1 : chkT s = 0
  · by_cases h2 : chkT n = 0 <;> simp [h1, h2]
  · simp [h1]
def goesB (d : Int × Int) (s n : Thr) : Bool := decide ((shf (nds d s n s.1 n.1)).1 ≤ (shf (nds d s n s.1 n.1)).2)
theorem p73 {d : Int × Int} (hd : DOk d) {s n : Thr} (hs : TOk s) (hn : TOk n) (hl : s.1.length ≤ n.1.length) : R 73 [.agg (eT s), .agg (eT n), eS d] = some (B (goesB d s n)) := by
  have e1 := p66 hd hs hn (fun x hx => (hs.turn x hx).1) (fun x hx => (hn.turn x hx).1) hl (by have := hs.len; omega)
  unfold goesB
  generalize shf (nds d s n s.1 n.1) = z at *
  refine run2_body 1 rfl rfl rfl rfl rfl ?_
  simp only [eT, List.cons_append, List.nil_append] at e1
  simp (maxSteps := 2000000) (disch := first | omega | (simp; done) | (simp; omega)) [-getElem?_pos, l73, eT, e1]
end Go.Lo

/- Forms are checked: by the program, and by chapter 1's reference. -/
namespace Go.Lo
open Go.Proofs
set_option linter.unusedSimpArgs false
set_option maxHeartbeats 8000000
theorem p99 (x lo hi : Int) : R 99 [I x, .cref [I lo], .cref [I hi]] = some (B (decide (x < lo) || decide (x > hi))) := by
  refine run2_body 1 rfl rfl rfl rfl rfl ?_
  by_cases h : x < lo <;> simp [l99, h]
theorem p92 (lo hi : Int) {xs : List Int} (hl : xs.length < 4611686018427387904) : R 92 [I lo, I hi, S 1 (eI xs)] = some (B (xs.all fun x => decide (lo ≤ x ∧ x ≤ hi))) := by
  have h := p84 (g := 99) (caps := [.cref [I lo], .cref [I hi]]) (pr := fun x => decide (x < lo) || decide (x > hi)) (E := fun x => [I x]) (W := fun x => I x) (xs := xs) (fun _ => rfl) (fun _ _ => ⟨rfl, fun _ => rfl, fun _ => rfl⟩) (fun x _ => p99 x lo hi) hl
  refine run2_body 1 rfl rfl rfl rfl rfl ?_
  have e : (xs.all fun x => decide (lo ≤ x ∧ x ≤ hi)) = !(xs.any fun x => decide (x < lo) || decide (x > hi)) := by
    rw [List.not_any_eq_all_not]
    congr 1
    funext x
    by_cases h1 : x < lo <;> by_cases h2 : x > hi <;> simp [h1, h2] <;> omega
  rw [e]
  simp [l92, h]

/-- A form of a thread. -/
structure Frm where
  pitch : Int
  left : Int
  right : Int
  above : Int
  below : Int
  starts : Int
  hand : Bool
  taper : Int
abbrev eF (f : Frm) : List V := [I f.pitch, I f.left, I f.right, I f.above, I f.below, I f.starts, B f.hand, I f.taper]
abbrev eX (f : Frm) (d : Int × Int) : List V := eF f ++ [I d.1, I d.2]
theorem t92_1 (lo hi x : Int) : R 92 [I lo, I hi, S 1 [[I x]]] = some (B (decide (lo ≤ x ∧ x ≤ hi))) := by
  have := p92 lo hi (xs := [x]) (by simp)
  simpa using this
theorem t92_2 (lo hi x y : Int) : R 92 [I lo, I hi, S 1 [[I x], [I y]]] = some (B (decide ((lo ≤ x ∧ x ≤ hi) ∧ (lo ≤ y ∧ y ≤ hi)))) := by
  have := p92 lo hi (xs := [x, y]) (by simp)
  simpa using this
def wid (f : Frm) (y : Int) : Int := 1000 * f.pitch - 2 * y * (f.left + f.right)
/-- Numbers that make no sum too great. -/
structure FNum (f : Frm) : Prop where
  pitch : 100 ≤ f.pitch ∧ f.pitch ≤ 200000
  left : 0 ≤ f.left ∧ f.left ≤ 3000
  right : 0 ≤ f.right ∧ f.right ≤ 3000
  above : 0 ≤ f.above ∧ f.above ≤ 200000
  below : 0 ≤ f.below ∧ f.below ≤ 200000
def frmN (f : Frm) : Bool := decide ((((((100 ≤ f.pitch ∧ f.pitch ≤ 200000) ∧ ((0 ≤ f.left ∧ f.left ≤ 3000) ∧ (0 ≤ f.right ∧ f.right ≤ 3000))) ∧ ((0 ≤ f.above ∧ f.above ≤ 200000) ∧ (0 ≤ f.below ∧ f.below ≤ 200000))) ∧ f.above + f.below ≥ 1) ∧ (1 ≤ f.starts ∧ f.starts ≤ 8)) ∧ (0 ≤ f.taper ∧ f.taper ≤ 100))
/-- Is it a form? -/
def frmB (f : Frm) : Bool := frmN f && decide (0 ≤ wid f f.above ∧ 0 ≤ wid f f.below)
theorem frmN_num {f : Frm} (h : frmN f = true) : FNum f := by
  unfold frmN at h
  rw [decide_eq_true_eq] at h
  exact ⟨h.1.1.1.1.1, h.1.1.1.1.2.1, h.1.1.1.1.2.2, h.1.1.1.2.1, h.1.1.1.2.2⟩
theorem p93 {f : Frm} (h : FNum f) {y : Int} (hy : -200000 ≤ y ∧ y ≤ 200000) : R 93 [.agg (eF f), I y] = some (I (wid f y)) := by
  have h1 := h.pitch
  have h2 := h.left
  have h3 := h.right
  have m := abs_mul (a := 2 * y) (b := f.left + f.right) (A := 400000) (C := 6000) (by omega) (by omega)
  have e1 : R 100 [.agg (eF f)] = some (I (f.left + f.right)) := by
    refine run2_body 1 rfl rfl rfl rfl rfl ?_
    simp (maxSteps := 2000000) (disch := first | omega | (simp; done) | (simp; omega)) [-getElem?_pos, l100, eF, wrap64]
  unfold wid
  have w1 := wrap64 (n := 2 * y * (f.left + f.right)) (by omega) (by omega)
  have w2 := wrap64 (n := f.left + f.right) (by omega) (by omega)
  generalize hz : 2 * y * (f.left + f.right) = z at *
  refine run2_body 1 rfl rfl rfl rfl rfl ?_
  simp only [eF] at e1
  simp (maxSteps := 2000000) (disch := first | omega | (simp; done) | (simp; omega)) [-getElem?_pos, l93, eF, e1, hz, w1, w2, wrap64]
theorem p70 (f : Frm) : R 70 [.agg (eF f)] = some (I (if frmB f = true then 0 else 2)) := by
  have e1 := t92_1 100 200000 f.pitch
  have e2 := t92_2 0 3000 f.left f.right
  have e3 := t92_2 0 200000 f.above f.below
  have e4 := t92_1 1 8 f.starts
  have e5 := t92_1 0 100 f.taper
  unfold frmB
  by_cases c1 : 100 ≤ f.pitch ∧ f.pitch ≤ 200000
  · by_cases c2 : (0 ≤ f.left ∧ f.left ≤ 3000) ∧ (0 ≤ f.right ∧ f.right ≤ 3000)
    · by_cases c3 : (0 ≤ f.above ∧ f.above ≤ 200000) ∧ (0 ≤ f.below ∧ f.below ≤ 200000)
      · by_cases c4 : f.above + f.below ≥ 1
        · by_cases c5 : 1 ≤ f.starts ∧ f.starts ≤ 8
          · by_cases c6 : 0 ≤ f.taper ∧ f.taper ≤ 100
            · have hn : FNum f := ⟨c1, c2.1, c2.2, c3.1, c3.2⟩
              have w1 := p93 hn (y := f.above) (by omega)
              have w2 := p93 hn (y := f.below) (by omega)
              have hN : frmN f = true := by unfold frmN; rw [decide_eq_true_eq]; exact ⟨⟨⟨⟨⟨c1, c2⟩, c3⟩, c4⟩, c5⟩, c6⟩
              rw [hN]
              generalize wid f f.above = z1 at *
              generalize wid f f.below = z2 at *
              simp only [c1, c2, c3, c5, c6, and_self, decide_true] at e1 e2 e3 e4 e5
              simp only [eF] at w1 w2
              refine run2_body 1 rfl rfl rfl rfl rfl ?_
              by_cases k1 : z1 < 0
              · have k1' : ¬ 0 ≤ z1 := by omega
                simp (maxSteps := 2000000) (disch := first | omega | (simp; done) | (simp; omega)) [-getElem?_pos, l70, eF, e1, e2, e3, e4, e5, w1, w2, c4, k1, k1', wrap64]
              · have k1' : 0 ≤ z1 := by omega
                by_cases k2 : z2 < 0
                · have k2' : ¬ 0 ≤ z2 := by omega
                  simp (maxSteps := 2000000) (disch := first | omega | (simp; done) | (simp; omega)) [-getElem?_pos, l70, eF, e1, e2, e3, e4, e5, w1, w2, c4, k1, k1', k2, k2', wrap64]
                · have k2' : 0 ≤ z2 := by omega
                  simp (maxSteps := 2000000) (disch := first | omega | (simp; done) | (simp; omega)) [-getElem?_pos, l70, eF, e1, e2, e3, e4, e5, w1, w2, c4, k1, k1', k2, k2', wrap64]
            · have hN : frmN f = false := by unfold frmN; rw [decide_eq_false_iff_not]; exact fun h => c6 h.2
              rw [hN]
              simp only [c1, c2, c3, c5, c6, and_self, decide_true, decide_false] at e1 e2 e3 e4 e5
              refine run2_body 1 rfl rfl rfl rfl rfl ?_
              simp (maxSteps := 2000000) (disch := first | omega | (simp; done) | (simp; omega)) [-getElem?_pos, l70, eF, e1, e2, e3, e4, e5, c4, wrap64]
          · have hN : frmN f = false := by unfold frmN; rw [decide_eq_false_iff_not]; exact fun h => c5 h.1.2
            rw [hN]
            simp only [c1, c2, c3, c5, and_self, decide_true, decide_false] at e1 e2 e3 e4
            refine run2_body 1 rfl rfl rfl rfl rfl ?_
            simp (maxSteps := 2000000) (disch := first | omega | (simp; done) | (simp; omega)) [-getElem?_pos, l70, eF, e1, e2, e3, e4, c4, wrap64]
        · have hN : frmN f = false := by unfold frmN; rw [decide_eq_false_iff_not]; exact fun h => c4 h.1.1.2
          rw [hN]
          simp only [c1, c2, c3, and_self, decide_true] at e1 e2 e3
          refine run2_body 1 rfl rfl rfl rfl rfl ?_
          simp (maxSteps := 2000000) (disch := first | omega | (simp; done) | (simp; omega)) [-getElem?_pos, l70, eF, e1, e2, e3, c4, wrap64]
      · have hN : frmN f = false := by unfold frmN; rw [decide_eq_false_iff_not]; exact fun h => c3 h.1.1.1.2
        rw [hN]
        simp only [c1, c2, c3, and_self, decide_true, decide_false] at e1 e2 e3
        refine run2_body 1 rfl rfl rfl rfl rfl ?_
        simp (maxSteps := 2000000) (disch := first | omega | (simp; done) | (simp; omega)) [-getElem?_pos, l70, eF, e1, e2, e3, wrap64]
    · have hN : frmN f = false := by unfold frmN; rw [decide_eq_false_iff_not]; exact fun h => c2 h.1.1.1.1.2
      rw [hN]
      simp only [c1, c2, and_self, decide_true, decide_false] at e1 e2
      refine run2_body 1 rfl rfl rfl rfl rfl ?_
      simp (maxSteps := 2000000) (disch := first | omega | (simp; done) | (simp; omega)) [-getElem?_pos, l70, eF, e1, e2, wrap64]
  · have hN : frmN f = false := by unfold frmN; rw [decide_eq_false_iff_not]; exact fun h => c1 h.1.1.1.1.1
    rw [hN]
    simp only [c1, decide_false] at e1
    refine run2_body 1 rfl rfl rfl rfl rfl ?_
    simp (maxSteps := 2000000) (disch := first | omega | (simp; done) | (simp; omega)) [-getElem?_pos, l70, eF, e1, wrap64]
end Go.Lo

/- Forms, as arguments. -/
namespace Go.Lo
open Go.Proofs
set_option linter.unusedSimpArgs false
abbrev frmTy : Ty := .st [.int .i64, .int .i64, .int .i64, .int .i64, .int .i64, .int .i64, .bool, .int .i64]
theorem can_frm {v : V} (h : HasV frmTy v) : ∃ f : Frm, v = .agg (eF f) := by
  simp only [HasV] at h
  obtain ⟨cs, rfl, h⟩ := h
  obtain ⟨x1, r1, rfl, h1, h⟩ := h.inv
  obtain ⟨x2, r2, rfl, h2, h⟩ := h.inv
  obtain ⟨x3, r3, rfl, h3, h⟩ := h.inv
  obtain ⟨x4, r4, rfl, h4, h⟩ := h.inv
  obtain ⟨x5, r5, rfl, h5, h⟩ := h.inv
  obtain ⟨x6, r6, rfl, h6, h⟩ := h.inv
  obtain ⟨x7, r7, rfl, h7, h⟩ := h.inv
  obtain ⟨x8, r8, rfl, h8, h⟩ := h.inv
  rw [HasCs] at h
  subst h
  obtain ⟨a1, rfl⟩ := can_i h1
  obtain ⟨a2, rfl⟩ := can_i h2
  obtain ⟨a3, rfl⟩ := can_i h3
  obtain ⟨a4, rfl⟩ := can_i h4
  obtain ⟨a5, rfl⟩ := can_i h5
  obtain ⟨a6, rfl⟩ := can_i h6
  obtain ⟨a7, rfl⟩ := can_b h7
  obtain ⟨a8, rfl⟩ := can_i h8
  exact ⟨⟨a1, a2, a3, a4, a5, a6, a7, a8⟩, rfl⟩
theorem rel_frm (f : Frm) : Rel (.agg (eF f)) noT (.agg (eF f)) := by
  rw [Rel]
  exact ⟨_, rfl, RelL.cons (rel_i _) (RelL.cons (rel_i _) (RelL.cons (rel_i _) (RelL.cons (rel_i _) (RelL.cons (rel_i _) (RelL.cons (rel_i _) (RelL.cons (rel_bool _) (RelL.one (rel_i _))))))))⟩
end Go.Lo

/- Sizes, by the program. -/
namespace Go.Lo
open Go.Proofs
set_option linter.unusedSimpArgs false
set_option maxHeartbeats 8000000
theorem tdiv_floor {n k : Int} (hk : 0 < k) : (if n.tmod k < 0 then n.tdiv k - 1 else n.tdiv k) = n / k := by
  by_cases h : 0 ≤ n
  · rw [Int.tmod_eq_emod_of_nonneg h, Int.tdiv_eq_ediv_of_nonneg h]
    have := Int.emod_nonneg n (by omega : k ≠ 0)
    rw [if_neg (by omega)]
  · obtain ⟨m, rfl⟩ : ∃ m, n = -m := ⟨-n, by omega⟩
    rw [Int.neg_tmod, Int.neg_tdiv, Int.tmod_eq_emod_of_nonneg (by omega), Int.tdiv_eq_ediv_of_nonneg (by omega)]
    have h1 := Int.emod_nonneg m (by omega : k ≠ 0)
    have h2 := Int.emod_lt_of_pos m hk
    have h3 := Int.emod_add_mul_ediv m k
    symm
    by_cases h4 : m % k = 0
    · rw [if_neg (by omega)]
      exact ((Int.ediv_emod_unique (r := 0) hk).2 ⟨by rw [Int.mul_neg]; omega, by omega, by omega⟩).1
    · rw [if_pos (by omega)]
      refine ((Int.ediv_emod_unique (r := k - m % k) hk).2 ⟨?_, by omega, by omega⟩).1
      rw [Int.mul_sub, Int.mul_neg, Int.mul_one]
      omega
theorem tdiv_le {n k : Int} (hk : 0 < k) (A : Int) (h : -A ≤ n ∧ n ≤ A) : -A ≤ n.tdiv k ∧ n.tdiv k ≤ A := by
  have key : ∀ m : Int, 0 ≤ m → m ≤ A → 0 ≤ m.tdiv k ∧ m.tdiv k ≤ A := fun m h1 h2 => by
    rw [Int.tdiv_eq_ediv_of_nonneg h1]
    refine ⟨Int.ediv_nonneg h1 (by omega), ?_⟩
    have := Int.ediv_le_self k h1
    omega
  by_cases h0 : 0 ≤ n
  · have := key n h0 h.2; omega
  · have := key (-n) (by omega) (by omega)
    rw [Int.neg_tdiv] at this
    omega
theorem p60 {n k : Int} (hk : 0 < k) (hn : -4000000000000000000 ≤ n ∧ n ≤ 4000000000000000000) : R 60 [I n, I k] = some (I (n / k)) := by
  have h1 := tdiv_floor (n := n) hk
  have h2 := tdiv_le hk 4000000000000000000 hn
  have h0 : ¬ k = 0 := by omega
  rw [← h1]
  have w := wrap64 (n := n.tdiv k) (by omega) (by omega)
  generalize hq : n.tdiv k = q at *
  generalize hr : n.tmod k = r at *
  refine run2_body 1 rfl rfl rfl rfl rfl ?_
  by_cases c : r < 0 <;> simp (maxSteps := 2000000) (disch := first | omega | (simp; done) | (simp; omega)) [-getElem?_pos, l60, h0, hq, hr, w, c, wrap64]
theorem div_le {n k : Int} (hk : 0 < k) (A : Int) (h : -A ≤ n ∧ n ≤ A) : -A - 1 ≤ n / k ∧ n / k ≤ A + 1 := by
  rw [← tdiv_floor hk]
  have := tdiv_le hk A h
  split <;> omega
theorem p58 {n k : Int} (hk : 0 < k) (hn : -4000000000000000000 ≤ n ∧ n ≤ 4000000000000000000) : R 58 [I n, I k] = some (I (-(-n / k))) := by
  have e1 := p60 (n := -n) hk (by omega)
  have h2 := div_le (n := -n) hk 4000000000000000000 (by omega)
  generalize hq : -n / k = q at *
  refine run2_body 1 rfl rfl rfl rfl rfl ?_
  simp (maxSteps := 2000000) (disch := first | omega | (simp; done) | (simp; omega)) [-getElem?_pos, l58, e1, wrap64]
theorem p57 {f : Frm} (h : FNum f) (d : Int × Int) : R 57 [.agg (eX f d)] = some (I (f.left + f.right)) := by
  have h2 := h.left
  have h3 := h.right
  refine run2_body 1 rfl rfl rfl rfl rfl ?_
  simp (maxSteps := 2000000) (disch := first | omega | (simp; done) | (simp; omega)) [-getElem?_pos, l57, eX, eF, wrap64]
/-! ### How far flanks are -/
def lf (f : Frm) (t : Thr) (k : Nat) : Int := 1000 * (4 * (turn t.1 k).1 - 4 * k * f.pitch + f.pitch)
def rt (f : Frm) (t : Thr) (k : Nat) : Int := 1000 * (4 * (turn t.1 k).2 - 4 * k * f.pitch - f.pitch)
theorem flank_bd {f : Frm} (hf : FNum f) {t : Thr} (ht : TOk t) {k : Nat} (hk : k < t.1.length) : (-100000000000 ≤ lf f t k ∧ lf f t k ≤ 100000000000) ∧ (-100000000000 ≤ rt f t k ∧ rt f t k ≤ 100000000000) := by
  have h1 := hf.pitch
  have hl := ht.len
  have hb := (ht.turn _ (List.mem_of_getElem? (turn_get hk))).1
  have m := abs_mul (a := 4 * (k : Int)) (b := f.pitch) (A := 240) (C := 200000) (by omega) (by omega)
  have m2 : 0 ≤ 4 * (k : Int) * f.pitch := Int.mul_nonneg (by omega) (by omega)
  unfold lf rt
  generalize 4 * (k : Int) * f.pitch = z at *
  omega
def accF (f : Frm) (t : Thr) (n : Nat) : List (List V) := (List.range n).map fun k => [I (lf f t k), I (rt f t k)]
theorem p98 {f : Frm} (hf : FNum f) (d : Int × Int) {t : Thr} (ht : TOk t) : R 98 [.fn (.y 0) [], .gref (eT t), .gref (eX f d)] = some (.tup (tupsL (accF f t t.1.length))) := by
  have hl := ht.len
  have L := loop_all (s := fun k => { fr := [(0, .fn (.y 0) []), (2, .gref (eX f d)), (8, S 2 (eS2 t.1)), (9, I t.1.length), (10, I k)], tk := [], tr := some (accF f t k) }) (f := evC2 R (t.1.length + 1) b98_0) (n := t.1.length)
    (X := (.exit 0, { fr := [(0, .fn (.y 0) []), (2, .gref (eX f d)), (8, S 2 (eS2 t.1)), (9, I t.1.length), (10, I t.1.length), (11, B false)], tk := [], tr := some (accF f t t.1.length) }))
    (fun k hk => by
      have h1 := turn_get hk
      have hp := hf.pitch
      have hb := (ht.turn _ (List.mem_of_getElem? h1)).1
      have m := abs_mul (a := 4 * (k : Int)) (b := f.pitch) (A := 240) (C := 200000) (by omega) (by omega)
      have hacc : accF f t (k + 1) = accF f t k ++ [[I (lf f t k), I (rt f t k)]] := by unfold accF; rw [List.range_succ, List.map_append]; rfl
      rw [hacc]
      unfold lf rt
      generalize accF f t k = acc at *
      generalize turn t.1 k = x at *
      have w := wrap64 (n := 4 * (k : Int) * f.pitch) (by omega) (by omega)
      generalize hz : 4 * (k : Int) * f.pitch = z at *
      simp (maxSteps := 2000000) (disch := first | omega | (simp; done) | (simp; omega)) [-getElem?_pos, b98_0, eX, eF, h1, hk, hz, w, wrap64]) (by
      generalize accF f t t.1.length = acc at *
      simp (maxSteps := 2000000) (disch := first | omega | (simp; done) | (simp; omega)) [-getElem?_pos, b98_0, eX, eF]) (by simp)
  refine run2_iter (t.1.length + 1) rfl rfl rfl rfl rfl ?_
  have h0 : accF f t 0 = [] := rfl
  simp only [h0] at L
  generalize accF f t t.1.length = acc at *
  simp [eX, eF] at L
  simp (maxSteps := 2000000) (disch := first | omega | (simp; done) | (simp; omega)) [-getElem?_pos, l98, eX, eF, eT, L]
theorem p86 {f : Frm} (d : Int × Int) (t : Thr) : R 86 [.agg (eX f d), .agg (eT t)] = some (.fn (.f 98) [.gref (eT t), .gref (eX f d)]) := by
  refine run2_body 1 rfl rfl rfl rfl rfl ?_
  simp (maxSteps := 2000000) (disch := first | omega | (simp; done) | (simp; omega)) [-getElem?_pos, l86, eX, eF, eT]
/-- The greatest of some integers. -/
def mx : List Int → Int
  | [] => 0
  | x :: r => r.foldl max x
theorem mx_snoc (l : List Int) (x : Int) : mx (l ++ [x]) = if l = [] then x else max (mx l) x := by
  cases l with
  | nil => rfl
  | cons y l => simp [mx]
theorem p88 {l : List Int} (h0 : l ≠ []) (hl : l.length ≤ 1000000) : R 88 [S 1 (eI l)] = some (I (mx l)) := by
  cases l with
  | nil => exact absurd rfl h0
  | cons x l =>
    simp only [List.length_cons] at hl
    have L := loop_all (s := fun i => { fr := [(0, S 1 (eI (x :: l))), (3, I (mx (x :: l.take i))), (4, I (i + 1 : Nat))], tk := [] }) (f := evC2 R (l.length + 1) b88_0) (n := l.length) (X := (.exit 0, { fr := [(0, S 1 (eI (x :: l))), (3, I (mx (x :: l))), (4, I (l.length + 1 : Nat)), (15, B false)], tk := [] }))
      (fun i hi => by
        have h1 : l[i]? = some l[i] := List.getElem?_eq_getElem hi
        rw [take_at h1, ← List.cons_append, mx_snoc, if_neg (by simp)]
        generalize mx (x :: l.take i) = m at *
        generalize l[i] = y at *
        have q : ((i : Int) + 1).toNat = i + 1 := by omega
        simp (maxSteps := 2000000) (disch := first | omega | (simp; done) | (simp; omega)) [-getElem?_pos, -maxL, maxL2, b88_0, h1, hi, q, wrap64]) (by
        rw [List.take_length]
        generalize mx (x :: l) = m at *
        simp (maxSteps := 2000000) (disch := first | omega | (simp; done) | (simp; omega)) [-getElem?_pos, b88_0]) (by simp)
    have hm0 : mx (x :: l.take 0) = x := rfl
    simp only [hm0] at L
    generalize mx (x :: l) = m at *
    simp at L
    have hlt : ¬ (l.length : Int) + 1 < 1 := by omega
    refine run2_body (l.length + 1) rfl rfl rfl rfl rfl ?_
    simp (maxSteps := 2000000) (disch := first | omega | (simp; done) | (simp; omega)) [-getElem?_pos, l88, L, hlt]
/-! ### size -/
def lefts (f : Frm) (t : Thr) (sg : Int) (n : Nat) : List Int := (List.range n).map fun k => -sg * lf f t k
def rights (f : Frm) (t : Thr) (sg : Int) (n : Nat) : List Int := (List.range n).map fun k => sg * rt f t k
def sizeOf3 (f : Frm) (d : Int × Int) (t : Thr) (sg : Int) : Int := mx (lefts f t sg t.1.length) + mx (rights f t sg t.1.length) + 4 * (mst d (sg * (f.left - t.2.1)) + mst d (sg * (f.right - t.2.2)))
theorem mx_bd {l : List Int} {A : Int} (hA : 0 ≤ A) (h : ∀ x ∈ l, -A ≤ x ∧ x ≤ A) : -A ≤ mx l ∧ mx l ≤ A := by
  cases l with
  | nil => simp [mx]; omega
  | cons x l =>
    have key : ∀ (l : List Int) (a : Int), (-A ≤ a ∧ a ≤ A) → (∀ x ∈ l, -A ≤ x ∧ x ≤ A) → -A ≤ l.foldl max a ∧ l.foldl max a ≤ A := by
      intro l
      induction l with
      | nil => intro a h _; exact h
      | cons y l ih =>
        intro a ha hl
        refine ih _ ?_ fun z hz => hl z (by simp [hz])
        have := hl y (by simp)
        omega
    exact key l x (h x (by simp)) fun y hy => h y (by simp [hy])
theorem size_bd {f : Frm} (hf : FNum f) {d : Int × Int} (hd : DOk d) {t : Thr} (ht : TOk t) {sg : Int} (hs : sg = 1 ∨ sg = -1) : -300000000000 ≤ sizeOf3 f d t sg ∧ sizeOf3 f d t sg ≤ 300000000000 := by
  have h1 := hf.left
  have h2 := hf.right
  have h3 := ht.lean
  have m1 := mst_bd hd (b := sg * (f.left - t.2.1)) (by rcases hs with rfl | rfl <;> omega)
  have m2 := mst_bd hd (b := sg * (f.right - t.2.2)) (by rcases hs with rfl | rfl <;> omega)
  have b1 := mx_bd (l := lefts f t sg t.1.length) (A := 100000000000) (by omega) fun x hx => by
    unfold lefts at hx
    obtain ⟨k, hk, rfl⟩ := List.mem_map.1 hx
    have := flank_bd hf ht (List.mem_range.1 hk)
    rcases hs with rfl | rfl <;> omega
  have b2 := mx_bd (l := rights f t sg t.1.length) (A := 100000000000) (by omega) fun x hx => by
    unfold rights at hx
    obtain ⟨k, hk, rfl⟩ := List.mem_map.1 hx
    have := flank_bd hf ht (List.mem_range.1 hk)
    rcases hs with rfl | rfl <;> omega
  unfold sizeOf3
  omega
def sSz (f : Frm) (d : Int × Int) (t : Thr) (sg : Int) (l : List (Int × Int)) : St :=
  { fr := [(3, .box (eX f d)), (4, .box (eT t)), (5, .box [I sg]), (7, .box [.sl (some 2002300) 1 (eI (l.map (·.1)))]), (8, .box [.sl (some 2002900) 1 (eI (l.map (·.2)))])], tk := [] }
theorem p59 {f : Frm} (hf : FNum f) {d : Int × Int} (hd : DOk d) {t : Thr} (ht : TOk t) {sg : Int} (hs : sg = 1 ∨ sg = -1) : R 59 [.agg (eX f d), .agg (eT t), I sg] = some (I (sizeOf3 f d t sg)) := by
  have hl := ht.len
  have hp := ht.pos
  have e0 := p86 (f := f) d t
  have Lr := rng_fold (f := roundE (evC2 R 1 b59_0a) (evC2 R 1 b59_0) [15, 16] b59_0w) (it := fun y => R 98 [.fn (.y y) [], .gref (eT t), .gref (eX f d)]) (σ0 := { fr := [(3, .box (eX f d)), (4, .box (eT t)), (5, .box [I sg]), (7, .box [.sl (some 2002300) 1 []]), (8, .box [.sl (some 2002900) 1 []]), (14, .fn (.f 98) [.gref (eT t), .gref (eX f d)])], tk := [] })
    (s := sSz f d t sg) (l0 := []) (W := fun k => [I (lf f t k), I (rt f t k)]) (h := fun k => [(-sg * lf f t k, sg * rt f t k)]) (xs := List.range t.1.length)
    (p98 hf d ht) (fun e => by have h0 := congrArg List.length e; rw [List.length_range, List.length_nil] at h0; omega) (fun k => by unfold sSz; simp (maxSteps := 2000000) (disch := first | omega | (simp; done) | (simp; omega)) [-getElem?_pos, b59_0a, b59_0w, eX, eF, eT]) (fun pre k suf e => by
      have hk : k < t.1.length := by
        have : k ∈ List.range t.1.length := by rw [e]; simp
        exact List.mem_range.1 this
      have hpre : pre.length ≤ 60 := by
        have := congrArg List.length e
        simp at this
        omega
      have hb := flank_bd hf ht hk
      have hll : ([] ++ pre.flatMap fun k => [(-sg * lf f t k, sg * rt f t k)]).length ≤ 60 := by
        have := len_flatMap (h := fun k => [(-sg * lf f t k, sg * rt f t k)]) (c := 1) (fun _ => by simp) pre
        rw [List.nil_append]; omega
      generalize ([] ++ pre.flatMap fun k => [(-sg * lf f t k, sg * rt f t k)]) = l at *
      generalize lf f t k = a at *
      generalize rt f t k = b at *
      have w1 := wrap64 (n := -sg) (by rcases hs with rfl | rfl <;> omega) (by rcases hs with rfl | rfl <;> omega)
      have w2 := wrap64 (n := -sg * a) (by rcases hs with rfl | rfl <;> omega) (by rcases hs with rfl | rfl <;> omega)
      have w3 := wrap64 (n := sg * b) (by rcases hs with rfl | rfl <;> omega) (by rcases hs with rfl | rfl <;> omega)
      unfold sSz
      cases l with
      | nil => simp (maxSteps := 2000000) (disch := first | omega | (simp; done) | (simp; omega)) [-getElem?_pos, b59_0a, b59_0, b59_0w, eX, eF, eT, w1, w2, w3]
      | cons x l =>
        simp only [List.length_cons] at hll
        have n1 : eI ((x :: l).map (·.1)) ≠ [] := by simp [eI]
        have n2 : eI ((x :: l).map (·.2)) ≠ [] := by simp [eI]
        have l1 : (eI ((x :: l).map (·.1))).length = l.length + 1 := by simp [eI]
        have l2 : (eI ((x :: l).map (·.2))).length = l.length + 1 := by simp [eI]
        have a1 : eI ((x :: l ++ [(-sg * a, sg * b)]).map (·.1)) = eI ((x :: l).map (·.1)) ++ [[I (-sg * a)]] := by simp [eI]
        have a2 : eI ((x :: l ++ [(-sg * a, sg * b)]).map (·.2)) = eI ((x :: l).map (·.2)) ++ [[I (sg * b)]] := by simp [eI]
        rw [a1, a2]
        generalize eI ((x :: l).map (·.1)) = p at *
        generalize eI ((x :: l).map (·.2)) = q at *
        simp (maxSteps := 2000000) (disch := first | omega | (simp; done) | (simp; omega)) [-getElem?_pos, b59_0a, b59_0, b59_0w, eX, eF, eT, w1, w2, w3, slT2_ne n1, slT2_ne n2, x_appo (hne := n1), x_appo (hne := n2), l1, l2])
  have hlist : ([] ++ (List.range t.1.length).flatMap fun k => [(-sg * lf f t k, sg * rt f t k)]) = (List.range t.1.length).map fun k => (-sg * lf f t k, sg * rt f t k) := by
    rw [List.nil_append]
    generalize List.range t.1.length = r
    induction r with
    | nil => rfl
    | cons x r ih => rw [List.flatMap_cons, ih]; rfl
  rw [hlist] at Lr
  unfold sSz at Lr
  rw [List.map_map, List.map_map] at Lr
  have hL : (List.range t.1.length).map ((·.1) ∘ fun k => (-sg * lf f t k, sg * rt f t k)) = lefts f t sg t.1.length := rfl
  have hR : (List.range t.1.length).map ((·.2) ∘ fun k => (-sg * lf f t k, sg * rt f t k)) = rights f t sg t.1.length := rfl
  rw [hL, hR] at Lr
  have h1 := hf.left
  have h2 := hf.right
  have h3 := ht.lean
  have e1 := p87 hd (b := sg * (f.left - t.2.1)) (by rcases hs with rfl | rfl <;> omega)
  have e2 := p87 hd (b := sg * (f.right - t.2.2)) (by rcases hs with rfl | rfl <;> omega)
  have m1 := mst_bd hd (b := sg * (f.left - t.2.1)) (by rcases hs with rfl | rfl <;> omega)
  have m2 := mst_bd hd (b := sg * (f.right - t.2.2)) (by rcases hs with rfl | rfl <;> omega)
  have n1 : (lefts f t sg t.1.length).length = t.1.length := by simp [lefts]
  have n2 : (rights f t sg t.1.length).length = t.1.length := by simp [rights]
  have e3 := p88 (l := lefts f t sg t.1.length) (fun e => by rw [e] at n1; simp at n1; omega) (by omega)
  have e4 := p88 (l := rights f t sg t.1.length) (fun e => by rw [e] at n2; simp at n2; omega) (by omega)
  have b1 := mx_bd (l := lefts f t sg t.1.length) (A := 100000000000) (by omega) fun x hx => by
    unfold lefts at hx
    obtain ⟨k, hk, rfl⟩ := List.mem_map.1 hx
    have := flank_bd hf ht (List.mem_range.1 hk)
    rcases hs with rfl | rfl <;> omega
  have b2 := mx_bd (l := rights f t sg t.1.length) (A := 100000000000) (by omega) fun x hx => by
    unfold rights at hx
    obtain ⟨k, hk, rfl⟩ := List.mem_map.1 hx
    have := flank_bd hf ht (List.mem_range.1 hk)
    rcases hs with rfl | rfl <;> omega
  unfold sizeOf3
  have w1 := wrap64 (n := f.left - t.2.1) (by omega) (by omega)
  have w2 := wrap64 (n := f.right - t.2.2) (by omega) (by omega)
  have w3 := wrap64 (n := sg * (f.left - t.2.1)) (by rcases hs with rfl | rfl <;> omega) (by rcases hs with rfl | rfl <;> omega)
  have w4 := wrap64 (n := sg * (f.right - t.2.2)) (by rcases hs with rfl | rfl <;> omega) (by rcases hs with rfl | rfl <;> omega)
  generalize mst d (sg * (f.left - t.2.1)) = y1 at *
  generalize mst d (sg * (f.right - t.2.2)) = y2 at *
  generalize hx1 : sg * (f.left - t.2.1) = x1 at *
  generalize hx2 : sg * (f.right - t.2.2) = x2 at *
  generalize mx (lefts f t sg t.1.length) = z1 at *
  generalize mx (rights f t sg t.1.length) = z2 at *
  generalize lefts f t sg t.1.length = ll at *
  generalize rights f t sg t.1.length = rl at *
  have hdw : ∀ A B' C D E F : V, dropL b59_0w [(3, A), (4, B'), (5, C), (7, D), (8, E), (14, F)] = [(3, A), (4, B'), (5, C), (7, D), (8, E), (14, F)] := fun _ _ _ _ _ _ => rfl
  have hd1 : ∀ (d k : Nat) (v : V) (t : List (Nat × V)), dropL [d] ((k, v) :: t) = if memN k [d] = true then dropL [d] t else (k, v) :: dropL [d] t := fun _ _ _ _ => rfl
  have hd2 : ∀ d : Nat, dropL [d] ([] : List (Nat × V)) = [] := fun _ => rfl
  simp [eX, eF, eT] at Lr e0
  clear hL hR hlist
  refine run2_body 1 rfl rfl rfl rfl rfl ?_
  simp (maxSteps := 2000000) (disch := first | omega | (simp; done) | (simp; omega)) [-getElem?_pos, -dropL, l59, eX, eF, eT, e0, e1, e2, e3, e4, hdw, hd1, hd2, Lr, w1, w2, w3, w4, hx1, hx2, wrap64]
end Go.Lo

/- Screw and Nut, by the program. -/
namespace Go.Lo
open Go.Proofs
set_option linter.unusedSimpArgs false
set_option maxHeartbeats 8000000
def opE (f : Frm) (d : Int × Int) (l : List Thr) : Int := if frmB f = true then chkAll d l else 2
abbrev x0 : List V := [I 0, I 0, I 0, I 0, I 0, I 0, B false, I 0, I 0, I 0]
def opX (f : Frm) (d : Int × Int) : List V := if frmB f = true then eX f d else x0
theorem p56 (f : Frm) (d : Int × Int) {l : List Thr} (hl : l.length ≤ 1000000) : R 56 [.agg (eF f), eS d, S 3 (l.map eT)] = some (.tup [.agg (opX f d), I (opE f d l)]) := by
  have e1 := p70 f
  have e2 := p65 d hl
  unfold opE opX
  generalize chkAll d l = c at *
  simp only [eF] at e1
  generalize l.map eT = es at *
  by_cases hb : frmB f = true
  · simp only [hb, if_true] at e1 ⊢
    refine run2_body 1 rfl rfl rfl rfl rfl ?_
    simp (maxSteps := 2000000) (disch := first | omega | (simp; done) | (simp; omega)) [-getElem?_pos, l56, eX, eF, e1, e2]
  · simp only [hb, if_false] at e1 ⊢
    refine run2_body 1 rfl rfl rfl rfl rfl ?_
    simp (maxSteps := 2000000) (disch := first | omega | (simp; done) | (simp; omega)) [-getElem?_pos, l56, eX, eF, e1, e2]
def scE (f : Frm) (d : Int × Int) (t : Thr) : Int := if opE f d [t] ≠ 0 then opE f d [t] else if f.left + f.right = 0 then 7 else 0
theorem opE_ok {f : Frm} {d : Int × Int} {t : Thr} (h : opE f d [t] = 0) : FNum f ∧ DOk d ∧ TOk t ∧ opX f d = eX f d := by
  unfold opE at h
  unfold opX
  split at h
  · rename_i hb
    obtain ⟨h1, h2⟩ := chkAll_one h
    refine ⟨frmN_num ?_, dOk_iff.1 h2, chkT_ok h1, if_pos hb⟩
    unfold frmB at hb
    simp only [Bool.and_eq_true] at hb
    exact hb.1
  · cases h
theorem opX_shape (f : Frm) (d : Int × Int) : ∃ a b c e g h i j k l, opX f d = [I a, I b, I c, I e, I g, I h, B i, I j, I k, I l] := by
  unfold opX
  split
  · exact ⟨_, _, _, _, _, _, _, _, _, _, rfl⟩
  · exact ⟨_, _, _, _, _, _, _, _, _, _, rfl⟩
def screwV (f : Frm) (d : Int × Int) (t : Thr) : Int := -(-(sizeOf3 f d t 1) / (4 * (f.left + f.right)))
def nutV (f : Frm) (d : Int × Int) (t : Thr) : Int := -(sizeOf3 f d t (-1)) / (4 * (f.left + f.right))
theorem p17 (f : Frm) (d : Int × Int) (t : Thr) : R 17 [.agg (eF f), .agg (eT t), eS d] = some (.tup [I (if scE f d t = 0 then screwV f d t else 0), I (scE f d t)]) := by
  have e1 := p56 f d (l := [t]) (by simp)
  by_cases h0 : opE f d [t] = 0
  · obtain ⟨hf, hd, ht, hx⟩ := opE_ok h0
    rw [h0, hx] at e1
    have hsc : scE f d t = if f.left + f.right = 0 then 7 else 0 := by unfold scE; rw [if_neg (fun h => h h0)]
    rw [hsc]
    have e2 := p57 hf d
    have h2 := hf.left
    have h3 := hf.right
    simp only [eF, eX, eT, List.map_cons, List.map_nil, List.cons_append, List.nil_append] at e1 e2
    by_cases hz : f.left + f.right = 0
    · rw [hz] at e2
      simp only [hz, if_true]
      rw [if_neg (by omega)]
      refine run2_body 1 rfl rfl rfl rfl rfl ?_
      simp (maxSteps := 2000000) (disch := first | omega | (simp; done) | (simp; omega)) [-getElem?_pos, l17, eT, eF, e1, e2]
    · simp only [if_neg hz, if_true]
      have hb := size_bd hf hd ht (sg := 1) (.inl rfl)
      have e3 := p59 hf hd ht (sg := 1) (.inl rfl)
      have e4 := p58 (n := sizeOf3 f d t 1) (k := 4 * (f.left + f.right)) (by omega) (by omega)
      unfold screwV
      generalize sizeOf3 f d t 1 = n at *
      have w1 := wrap64 (n := 4 * (f.left + f.right)) (by omega) (by omega)
      simp only [eX, eF, eT, List.cons_append, List.nil_append] at e3
      generalize -(-n / (4 * (f.left + f.right))) = q at *
      refine run2_body 1 rfl rfl rfl rfl rfl ?_
      simp (maxSteps := 2000000) (disch := first | omega | (simp; done) | (simp; omega)) [-getElem?_pos, l17, eT, eF, e1, e2, e3, e4, hz, w1]
  · have hsc : scE f d t = opE f d [t] := by unfold scE; rw [if_pos h0]
    rw [hsc, if_neg h0]
    obtain ⟨a, b, c, e, g, h, i, j, k, l, hx⟩ := opX_shape f d
    rw [hx] at e1
    generalize opE f d [t] = n at *
    simp only [eF, eT, List.map_cons, List.map_nil] at e1
    refine run2_body 1 rfl rfl rfl rfl rfl ?_
    simp (maxSteps := 2000000) (disch := first | omega | (simp; done) | (simp; omega)) [-getElem?_pos, l17, eT, eF, e1, h0]
theorem p18 (f : Frm) (d : Int × Int) (t : Thr) : R 18 [.agg (eF f), .agg (eT t), eS d] = some (.tup [I (if scE f d t = 0 then nutV f d t else 0), I (scE f d t)]) := by
  have e1 := p56 f d (l := [t]) (by simp)
  by_cases h0 : opE f d [t] = 0
  · obtain ⟨hf, hd, ht, hx⟩ := opE_ok h0
    rw [h0, hx] at e1
    have hsc : scE f d t = if f.left + f.right = 0 then 7 else 0 := by unfold scE; rw [if_neg (fun h => h h0)]
    rw [hsc]
    have e2 := p57 hf d
    have h2 := hf.left
    have h3 := hf.right
    simp only [eF, eX, eT, List.map_cons, List.map_nil, List.cons_append, List.nil_append] at e1 e2
    by_cases hz : f.left + f.right = 0
    · rw [hz] at e2
      simp only [hz, if_true]
      rw [if_neg (by omega)]
      refine run2_body 1 rfl rfl rfl rfl rfl ?_
      simp (maxSteps := 2000000) (disch := first | omega | (simp; done) | (simp; omega)) [-getElem?_pos, l18, eT, eF, e1, e2]
    · simp only [if_neg hz, if_true]
      have hb := size_bd hf hd ht (sg := -1) (.inr rfl)
      have e3 := p59 hf hd ht (sg := -1) (.inr rfl)
      have e4 := p60 (n := -sizeOf3 f d t (-1)) (k := 4 * (f.left + f.right)) (by omega) (by omega)
      unfold nutV
      generalize sizeOf3 f d t (-1) = n at *
      have w1 := wrap64 (n := 4 * (f.left + f.right)) (by omega) (by omega)
      have w2 := wrap64 (n := -n) (by omega) (by omega)
      simp only [eX, eF, eT, List.cons_append, List.nil_append] at e3
      generalize -n / (4 * (f.left + f.right)) = q at *
      refine run2_body 1 rfl rfl rfl rfl rfl ?_
      simp (maxSteps := 2000000) (disch := first | omega | (simp; done) | (simp; omega)) [-getElem?_pos, l18, eT, eF, e1, e2, e3, e4, hz, w1, w2]
  · have hsc : scE f d t = opE f d [t] := by unfold scE; rw [if_pos h0]
    rw [hsc, if_neg h0]
    obtain ⟨a, b, c, e, g, h, i, j, k, l, hx⟩ := opX_shape f d
    rw [hx] at e1
    generalize opE f d [t] = n at *
    simp only [eF, eT, List.map_cons, List.map_nil] at e1
    refine run2_body 1 rfl rfl rfl rfl rfl ?_
    simp (maxSteps := 2000000) (disch := first | omega | (simp; done) | (simp; omega)) [-getElem?_pos, l18, eT, eF, e1, h0]
end Go.Lo

/- Perfect threads, and Show. -/
namespace Go.Lo
open Go.Proofs
set_option linter.unusedSimpArgs false
set_option maxHeartbeats 8000000
def idL (f : Frm) (size : Int) (k : Nat) : Int := 4000 * k * f.pitch - 1000 * f.pitch - 4 * size * f.left
def idR (f : Frm) (size : Int) (k : Nat) : Int := 4000 * k * f.pitch + 1000 * f.pitch + 4 * size * f.right
theorem id_bd {f : Frm} (hf : FNum f) {size : Int} (hs : -10000 ≤ size ∧ size ≤ 10000) {k : Nat} (hk : k < 60) :
    ((0 ≤ 4000 * (k : Int) * f.pitch ∧ 4000 * (k : Int) * f.pitch ≤ 48000000000) ∧ (-120000000 ≤ 4 * size * f.left ∧ 4 * size * f.left ≤ 120000000) ∧ (-120000000 ≤ 4 * size * f.right ∧ 4 * size * f.right ≤ 120000000)) ∧ (-60000000000 ≤ idL f size k ∧ idL f size k ≤ 60000000000) ∧ (-60000000000 ≤ idR f size k ∧ idR f size k ≤ 60000000000) := by
  have h1 := hf.pitch
  have h2 := hf.left
  have h3 := hf.right
  have m1 := abs_mul (a := 4000 * (k : Int)) (b := f.pitch) (A := 240000) (C := 200000) (by omega) (by omega)
  have m0 : 0 ≤ 4000 * (k : Int) * f.pitch := Int.mul_nonneg (by omega) (by omega)
  have m2 := abs_mul (a := 4 * size) (b := f.left) (A := 40000) (C := 3000) (by omega) (by omega)
  have m3 := abs_mul (a := 4 * size) (b := f.right) (A := 40000) (C := 3000) (by omega) (by omega)
  unfold idL idR
  generalize 4000 * (k : Int) * f.pitch = x at *
  generalize 4 * size * f.left = y at *
  generalize 4 * size * f.right = z at *
  omega
def perfL (f : Frm) (size : Int) (gl gr : Int → Int) (n : Nat) : List (Int × Int) := (List.range n).map fun k => (gl (idL f size k), gr (idR f size k))
theorem p72 {f : Frm} (hf : FNum f) (d : Int × Int) {size : Int} (hs : -10000 ≤ size ∧ size ≤ 10000) {n : Nat} (hn : n ≤ 60) {fl fr : Nat} {gl gr : Int → Int}
    (hl : ∀ m, -4000000000000000000 ≤ m ∧ m ≤ 4000000000000000000 → R fl [I m, I 4000] = some (I (gl m))) (hr : ∀ m, -4000000000000000000 ≤ m ∧ m ≤ 4000000000000000000 → R fr [I m, I 4000] = some (I (gr m))) :
    R 72 [.agg (eX f d), I size, I n, .fn (.f fl) [], .fn (.f fr) []] = some (.agg [.sl (some 2000000) 2 (eS2 (perfL f size gl gr n)), I f.left, I f.right]) := by
  have L := loop_all (s := fun k => { fr := [(1, I size), (3, .fn (.f fl) []), (4, .fn (.f fr) []), (5, .box (eX f d)), (10, .box [.sl (some 2006300) 2 (eS2 (perfL f size gl gr k)), I f.left, I f.right]), (21, I n), (22, I k)], tk := [] }) (f := evC2 R (n + 1) b72_0) (n := n)
    (X := (.exit 0, { fr := [(1, I size), (3, .fn (.f fl) []), (4, .fn (.f fr) []), (5, .box (eX f d)), (10, .box [.sl (some 2006300) 2 (eS2 (perfL f size gl gr n)), I f.left, I f.right]), (21, I n), (22, I n), (23, B false)], tk := [] }))
    (fun k hk => by
      have hb := id_bd hf hs (k := k) (by omega)
      have e1 := hl (idL f size k) (by omega)
      have e2 := hr (idR f size k) (by omega)
      have hl2 : (perfL f size gl gr k).length ≤ 60 := by simp [perfL]; omega
      have hacc : perfL f size gl gr (k + 1) = perfL f size gl gr k ++ [(gl (idL f size k), gr (idR f size k))] := by unfold perfL; rw [List.range_succ, List.map_append]; rfl
      rw [hacc]
      generalize perfL f size gl gr k = l at *
      generalize gl (idL f size k) = x at *
      generalize gr (idR f size k) = y at *
      have h1 := hf.pitch
      unfold idL at e1 hb
      unfold idR at e2 hb
      have w1 := wrap64 (n := 4000 * (k : Int) * f.pitch) (by omega) (by omega)
      have w2 := wrap64 (n := 4 * size * f.left) (by omega) (by omega)
      have w3 := wrap64 (n := 4 * size * f.right) (by omega) (by omega)
      generalize hz1 : 4000 * (k : Int) * f.pitch = z1 at *
      generalize hz2 : 4 * size * f.left = z2 at *
      generalize hz3 : 4 * size * f.right = z3 at *
      simp (maxSteps := 2000000) (disch := first | omega | (simp; done) | (simp; omega)) [-getElem?_pos, b72_0, eX, eF, hk, hz1, hz2, hz3, w1, w2, w3, e1, e2, wrap64]) (by
      generalize perfL f size gl gr n = l at *
      simp (maxSteps := 2000000) (disch := first | omega | (simp; done) | (simp; omega)) [-getElem?_pos, b72_0, eX, eF]) (by simp)
  have h0 : perfL f size gl gr 0 = [] := rfl
  simp only [h0] at L
  generalize perfL f size gl gr n = l at *
  refine run2_body (n + 1) rfl rfl rfl rfl rfl ?_
  simp [eX, eF] at L
  simp (maxSteps := 2000000) (disch := first | omega | (simp; done) | (simp; omega)) [-getElem?_pos, l72, eX, eF, L]
end Go.Lo

/- Show. -/
namespace Go.Lo
open Go.Proofs
set_option linter.unusedSimpArgs false
set_option maxHeartbeats 8000000
def upZ (m : Int) : Int := -(-m / 4000)
def dnZ (m : Int) : Int := m / 4000
def ringT (f : Frm) (size : Int) (n : Nat) : Thr := (perfL f size upZ dnZ n, f.left, f.right)
def plugT (f : Frm) (size : Int) (n : Nat) : Thr := (perfL f size dnZ upZ n, f.left, f.right)
theorem p72_ring {f : Frm} (hf : FNum f) (d : Int × Int) {size : Int} (hs : -10000 ≤ size ∧ size ≤ 10000) {n : Nat} (hn : n ≤ 60) :
    R 72 [.agg (eX f d), I size, I n, .fn (.f 58) [], .fn (.f 60) []] = some (.agg [.sl (some 2000000) 2 (eS2 (ringT f size n).1), I f.left, I f.right]) :=
  p72 hf d hs hn (fun m hm => p58 (by omega) hm) (fun m hm => p60 (by omega) hm)
theorem p72_plug {f : Frm} (hf : FNum f) (d : Int × Int) {size : Int} (hs : -10000 ≤ size ∧ size ≤ 10000) {n : Nat} (hn : n ≤ 60) :
    R 72 [.agg (eX f d), I size, I n, .fn (.f 60) [], .fn (.f 58) []] = some (.agg [.sl (some 2000000) 2 (eS2 (plugT f size n).1), I f.left, I f.right]) :=
  p72 hf d hs hn (fun m hm => p60 (by omega) hm) (fun m hm => p58 (by omega) hm)
def t0 : Thr := ([], 0, 0)
def showOk (ring plug turns : Int) (d : Int × Int) : Bool := decide (1 ≤ turns ∧ turns ≤ 60) && decide ((-10000 ≤ ring ∧ ring ≤ 10000) ∧ (-10000 ≤ plug ∧ plug ≤ 10000)) && dOk d
def showE (f : Frm) (ring plug turns : Int) (d : Int × Int) : Thr × Thr × Bool × Int :=
  if frmB f = false then (t0, t0, false, 2) else if showOk ring plug turns d = false then (t0, t0, false, 3) else
  if chkAll d [ringT f ring turns.toNat, plugT f plug turns.toNat] = 0 then (ringT f ring turns.toNat, plugT f plug turns.toNat, goesB d (ringT f ring turns.toNat) (plugT f plug turns.toNat), 0) else (t0, t0, false, 9)
abbrev shE (x : Thr × Thr × Bool × Int) : V := .tup [.agg (eT x.1), .agg (eT x.2.1), B x.2.2.1, I x.2.2.2]
theorem p30 (f : Frm) (ring plug turns : Int) (d : Int × Int) : R 30 [.agg (eF f), I ring, I plug, I turns, eS d] = some (shE (showE f ring plug turns d)) := by
  have e1 := p70 f
  have e2 := p55_1 1 60 turns
  have e3 := p55_2 (-10000) 10000 ring plug
  have e4 := p71 d
  simp only [eF] at e1
  unfold showE
  by_cases c1 : frmB f = true
  · simp only [c1, if_true] at e1
    simp only [c1, Bool.true_eq_false, if_false]
    unfold showOk
    by_cases c2 : 1 ≤ turns ∧ turns ≤ 60
    · simp only [c2, and_self, decide_true] at e2
      by_cases c3 : (-10000 ≤ ring ∧ ring ≤ 10000) ∧ (-10000 ≤ plug ∧ plug ≤ 10000)
      · simp only [c3, and_self, decide_true] at e3
        by_cases c4 : dOk d = true
        · simp only [c4, if_true] at e4
          simp only [c2, c3, c4, and_self, decide_true, Bool.and_self, Bool.true_eq_false, if_false]
          have hf : FNum f := frmN_num (by unfold frmB at c1; simp only [Bool.and_eq_true] at c1; exact c1.1)
          obtain ⟨n, rfl⟩ : ∃ n : Nat, turns = n := ⟨turns.toNat, by omega⟩
          rw [Int.toNat_natCast]
          have e5 := p72_ring hf d (size := ring) (by omega) (n := n) (by omega)
          have e6 := p72_plug hf d (size := plug) (by omega) (n := n) (by omega)
          have e7 := p65 d (l := [ringT f ring n, plugT f plug n]) (by simp)
          have l1 : (ringT f ring n).1.length = n := by simp [ringT, perfL]
          have l2 : (plugT f plug n).1.length = n := by simp [plugT, perfL]
          have s1 : (ringT f ring n).2 = (f.left, f.right) := rfl
          have s2 : (plugT f plug n).2 = (f.left, f.right) := rfl
          have e8 : chkAll d [ringT f ring n, plugT f plug n] = 0 → R 73 [.agg (eT (ringT f ring n)), .agg (eT (plugT f plug n)), eS d] = some (B (goesB d (ringT f ring n) (plugT f plug n))) := fun h => by
            obtain ⟨q1, q2, q3⟩ := chkAll_two h
            exact p73 (dOk_iff.1 q3) (chkT_ok q1) (chkT_ok q2) (by rw [l1, l2]; exact Nat.le_refl n)
          generalize goesB d (ringT f ring n) (plugT f plug n) = gb at *
          generalize chkAll d [ringT f ring n, plugT f plug n] = c at *
          generalize ringT f ring n = ra at *
          generalize plugT f plug n = pa at *
          obtain ⟨ts, l, r⟩ := ra
          obtain ⟨us, l', r'⟩ := pa
          simp only [Prod.mk.injEq] at s1 s2
          obtain ⟨rfl, rfl⟩ := s1
          obtain ⟨rfl, rfl⟩ := s2
          cases ts with
          | nil => simp at l1; omega
          | cons x ts =>
            cases us with
            | nil => simp at l2; omega
            | cons y us =>
              simp only [eX, eF, eT, List.map_cons, List.map_nil, List.cons_append, List.nil_append] at e5 e6 e7 e8
              have f1 : flatE ([I x.1, I x.2] :: ts.map fun x => [I x.1, I x.2]) = true := by simp [flatE, V.flat]
              have f2 : flatE ([I y.1, I y.2] :: us.map fun x => [I x.1, I x.2]) = true := by simp [flatE, V.flat]
              refine run2_body 1 rfl rfl rfl rfl rfl ?_
              by_cases hc : c = 0
              · have e8 := e8 hc
                subst hc
                simp (maxSteps := 2000000) (disch := first | omega | (simp; done) | (simp; omega)) [-getElem?_pos, l30, eF, eT, e1, e2, e3, e4, e5, e6, e7, e8, f1, f2]
              · simp (maxSteps := 2000000) (disch := first | omega | (simp; done) | (simp; omega)) [-getElem?_pos, l30, eF, eT, t0, e1, e2, e3, e4, e5, e6, e7, hc, f1, f2]
        · simp only [c4, if_false] at e4
          simp only [c2, c3, c4, and_self, decide_true, Bool.and_self, Bool.and_false, if_true]
          refine run2_body 1 rfl rfl rfl rfl rfl ?_
          simp (maxSteps := 2000000) (disch := first | omega | (simp; done) | (simp; omega)) [-getElem?_pos, l30, eF, eT, t0, e1, e2, e3, e4]
      · simp only [c3, decide_false] at e3
        simp only [c2, c3, and_self, decide_true, decide_false, Bool.and_false, Bool.false_and, if_true]
        refine run2_body 1 rfl rfl rfl rfl rfl ?_
        simp (maxSteps := 2000000) (disch := first | omega | (simp; done) | (simp; omega)) [-getElem?_pos, l30, eF, eT, t0, e1, e2, e3]
    · simp only [c2, decide_false] at e2
      simp only [c2, decide_false, Bool.false_and, if_true]
      refine run2_body 1 rfl rfl rfl rfl rfl ?_
      simp (maxSteps := 2000000) (disch := first | omega | (simp; done) | (simp; omega)) [-getElem?_pos, l30, eF, eT, t0, e1, e2]
  · simp only [c1, if_false] at e1
    simp only [c1, if_true]
    refine run2_body 1 rfl rfl rfl rfl rfl ?_
    simp (maxSteps := 2000000) (disch := first | omega | (simp; done) | (simp; omega)) [-getElem?_pos, l30, eF, eT, t0, e1]
end Go.Lo

/- Shift, by the program. -/
namespace Go.Lo
open Go.Proofs
set_option linter.unusedSimpArgs false
set_option maxHeartbeats 8000000
/-! ### Shift -/
def part (ts : List (Int × Int)) (at_ many : Nat) : List (Int × Int) := (ts.take (at_ + many)).drop at_
def placeB (s n : Thr) (tooth groove many : Int) : Bool := decide ((1 ≤ many ∧ many ≤ min (s.1.length : Int) n.1.length) ∧ (0 ≤ tooth ∧ tooth ≤ s.1.length - many) ∧ (0 ≤ groove ∧ groove ≤ n.1.length - many))
def partS (d : Int × Int) (s n : Thr) (tooth groove many : Nat) : Int × Int := shf (nds d s n (part s.1 tooth many) (part n.1 groove many))
def shiftE (d : Int × Int) (s n : Thr) (tooth groove many : Int) : (Int × Int) × Int :=
  if chkAll d [s, n] ≠ 0 then ((0, 0), chkAll d [s, n])
  else if placeB s n tooth groove many = false then ((0, 0), 7)
  else if (partS d s n tooth.toNat groove.toNat many.toNat).1 ≤ (partS d s n tooth.toNat groove.toNat many.toNat).2 then (partS d s n tooth.toNat groove.toNat many.toNat, 0) else ((0, 0), 9)
abbrev sE (x : (Int × Int) × Int) : V := .tup [eS x.1, I x.2]
theorem p25 (d : Int × Int) (s n : Thr) (tooth groove many : Int) : R 25 [.agg (eT s), .agg (eT n), I tooth, I groove, I many, eS d] = some (sE (shiftE d s n tooth groove many)) := by
  have e1 := p65 d (l := [s, n]) (by simp)
  unfold shiftE
  by_cases c0 : chkAll d [s, n] = 0
  · rw [if_neg (fun h => h c0)]
    obtain ⟨c1, c2, c3⟩ := chkAll_two c0
    have hs := chkT_ok c1
    have hn := chkT_ok c2
    have hd := dOk_iff.1 c3
    have ls := hs.len
    have ln := hn.len
    rw [c0] at e1
    have w1 := p55_1 1 (min (s.1.length : Int) n.1.length) many
    have w2 := p55_1 0 (s.1.length - many) tooth
    have w3 := p55_1 0 (n.1.length - many) groove
    simp only [eT, List.map_cons, List.map_nil] at e1
    unfold placeB
    by_cases k1 : 1 ≤ many ∧ many ≤ min (s.1.length : Int) n.1.length
    · by_cases k2 : 0 ≤ tooth ∧ tooth ≤ s.1.length - many
      · by_cases k3 : 0 ≤ groove ∧ groove ≤ n.1.length - many
        · obtain ⟨m, rfl⟩ : ∃ m : Nat, many = m := ⟨many.toNat, by omega⟩
          obtain ⟨t, rfl⟩ : ∃ t : Nat, tooth = t := ⟨tooth.toNat, by omega⟩
          obtain ⟨g, rfl⟩ : ∃ g : Nat, groove = g := ⟨groove.toNat, by omega⟩
          simp only [k1, k2, k3, and_self, decide_true] at w1 w2 w3
          simp only [k1, k2, k3, and_self, decide_true, Int.toNat_natCast, Bool.true_eq_false, if_false]
          have l1 : (part s.1 t m).length = m := by unfold part; simp; omega
          have l2 : (part n.1 g m).length = m := by unfold part; simp; omega
          have e2 := p66 hd hs hn (ts := part s.1 t m) (gs := part n.1 g m) (fun x hx => (hs.turn x (List.mem_of_mem_take (List.mem_of_mem_drop hx))).1) (fun x hx => (hn.turn x (List.mem_of_mem_take (List.mem_of_mem_drop hx))).1) (by omega) (by omega)
          unfold partS
          generalize shf (nds d s n (part s.1 t m) (part n.1 g m)) = z at *
          simp only [eT, List.cons_append, List.nil_append, part, List.map_take, List.map_drop] at e2
          have q1 : ((t : Int) + m).toNat = t + m := by omega
          have q2 : ((g : Int) + m).toNat = g + m := by omega
          refine run2_body 1 rfl rfl rfl rfl rfl ?_
          by_cases hz : z.1 ≤ z.2 <;> simp (maxSteps := 2000000) (disch := first | omega | (simp; done) | (simp; omega)) [-getElem?_pos, -maxL, -minL, minL2, l25, eT, e1, e2, w1, w2, w3, q1, q2, hz, wrap64]
        · simp only [k1, k2, k3, and_self, decide_true, decide_false] at w1 w2 w3
          refine run2_body 1 rfl rfl rfl rfl rfl ?_
          simp (maxSteps := 2000000) (disch := first | omega | (simp; done) | (simp; omega)) [-getElem?_pos, -maxL, -minL, minL2, l25, eT, e1, w1, w2, w3, k1, k2, k3, wrap64]
      · simp only [k1, k2, and_self, decide_true, decide_false] at w1 w2
        refine run2_body 1 rfl rfl rfl rfl rfl ?_
        simp (maxSteps := 2000000) (disch := first | omega | (simp; done) | (simp; omega)) [-getElem?_pos, -maxL, -minL, minL2, l25, eT, e1, w1, w2, k1, k2, wrap64]
    · simp only [k1, decide_false] at w1
      refine run2_body 1 rfl rfl rfl rfl rfl ?_
      simp (maxSteps := 2000000) (disch := first | omega | (simp; done) | (simp; omega)) [-getElem?_pos, -maxL, -minL, minL2, l25, eT, e1, w1, k1, wrap64]
  · rw [if_pos c0]
    generalize chkAll d [s, n] = c at *
    simp only [eT, List.map_cons, List.map_nil] at e1
    refine run2_body 1 rfl rfl rfl rfl rfl ?_
    simp (maxSteps := 2000000) (disch := first | omega | (simp; done) | (simp; omega)) [-getElem?_pos, l25, eT, e1, c0]
end Go.Lo

/- How far a screw goes, by the program. -/
namespace Go.Lo
open Go.Proofs
set_option linter.unusedSimpArgs false
set_option maxHeartbeats 8000000
def stopN (a n : Nat) : Nat := if a = 0 then n else min a n
theorem foldR_find {f : St → List V → Option (Ex × St)} {s : Nat → St} {W : Nat → List V} {n : Nat} {g : Nat → Bool} {E : Nat → Ex × St} (hs : ∀ i, i < n → f (s i) (W i) = some (if g i = true then E i else (.normal, s (i + 1)))) (hE : ∀ i, (E i).1 ≠ .normal) :
    ∀ (m i k : Nat), i + m ≤ n → foldR f k (s i) ((List.range' i m).map W) = some (match (List.range' i m).find? g with
      | some j => (some (k + (j - i), (E j).1), (E j).2)
      | none => (none, s (i + m)))
  | 0, i, k, h => by simp [foldR]
  | m + 1, i, k, h => by
    rw [List.range'_succ, List.map_cons, foldR, hs i (by omega), List.find?_cons]
    cases hg : g i with
    | true =>
      simp only [if_true]
      have := hE i
      generalize hEi : E i = e at *
      obtain ⟨x1, x2⟩ := e
      cases x1 <;> first | exact absurd rfl this | simp
    | false =>
      simp only [Bool.false_eq_true, if_false]
      rw [foldR_find hs hE m (i + 1) (k + 1) (by omega)]
      cases hf : (List.range' (i + 1) m).find? g with
      | none => simp; congr 1; omega
      | some j =>
        have := List.mem_of_find?_eq_some hf
        simp at this
        simp
        omega
/-- A range over a function: on and on, up to the first stop. -/
theorem rng_find {f : St → List V → Option (Ex × St)} {it : Nat → Option V} {σ0 : St} {s : Nat → St} {W : Nat → List V} {n : Nat} {g : Nat → Bool} {E : Nat → Ex × St} (h1 : ∀ a, it a = some (.tup (tupsL ((List.range (stopN a n)).map W)))) (hn : 0 < n) (h0 : f σ0 (W 0) = f (s 0) (W 0))
    (hs : ∀ i, i < n → f (s i) (W i) = some (if g i = true then E i else (.normal, s (i + 1)))) (hE : ∀ i, (E i).1 ≠ .normal) :
    rngE f it σ0 = some (match (List.range n).find? g with
      | some j => E j
      | none => (.normal, s n)) := by
  have start : ∀ m, 0 < m → foldR f 0 σ0 ((List.range m).map W) = foldR f 0 (s 0) ((List.range m).map W) := by
    intro m hm
    obtain ⟨m, rfl⟩ : ∃ k, m = k + 1 := ⟨m - 1, by omega⟩
    rw [List.range_eq_range', List.range'_succ, List.map_cons, foldR, foldR, h0]
  have F := fun m (hm : m ≤ n) => foldR_find hs hE m 0 0 (by omega)
  unfold rngE
  rw [h1 0]
  simp only [itemsOf, itemsL_tups]
  rw [show stopN 0 n = n from rfl, start n hn, List.range_eq_range', F n (Nat.le_refl n)]
  cases hf : (List.range' 0 n).find? g with
  | none => simp
  | some j =>
    have hj := List.mem_of_find?_eq_some hf
    simp at hj
    simp only
    rw [h1 (0 + (j - 0) + 1)]
    simp only [itemsL_tups]
    rw [show 0 + (j - 0) + 1 = j + 1 by omega, show stopN (j + 1) n = j + 1 from by unfold stopN; simp; omega, start (j + 1) (by omega), List.range_eq_range', F (j + 1) (by omega)]
    have hf2 : (List.range' 0 (j + 1)).find? g = some j := by
      rw [show List.range' 0 (j + 1) = List.range' 0 j ++ [j] from by rw [← List.range_eq_range', List.range_succ, List.range_eq_range'], List.find?_append]
      rw [← List.range_eq_range', List.find?_range_eq_some] at hf
      have : (List.range' 0 j).find? g = none := by
        rw [List.find?_eq_none]
        intro x hx
        simp at hx
        have := hf.2.2 x hx
        simpa using this
      rw [this]
      simp [hf.1]
    rw [hf2]
    simp
abbrev eM (d : Int × Int) (s n : Thr) : List V := [I d.1, I d.2] ++ eT s ++ eT n
def manyAt (s : Thr) (j : Nat) : Nat := min (j + 1) s.1.length
def teethAt (s : Thr) (j : Nat) : List (Int × Int) := s.1.drop (s.1.length - manyAt s j)
def groovesAt (s n : Thr) (j : Nat) : List (Int × Int) := part n.1 (j + 1 - manyAt s j) (manyAt s j)
def stW (s n : Thr) (j : Nat) : List V := [S 2 (eS2 (teethAt s j)), S 2 (eS2 (groovesAt s n j))]
def accW (s n : Thr) (j : Nat) : List (List V) := (List.range j).map (stW s n)
theorem accW_succ (s n : Thr) (j : Nat) : accW s n (j + 1) = accW s n j ++ [stW s n j] := by unfold accW; rw [List.range_succ, List.map_append]; rfl
theorem p67 {d : Int × Int} {s n : Thr} (hs : s.1.length ≤ 1000) (hn : n.1.length ≤ 1000) (a : Nat) : R 67 [.agg (eM d s n), .fn (.y a) []] = some (.tup (tupsL (accW s n (stopN a n.1.length)))) := by
  have L := loop_if (s := fun j => { fr := [(1, .fn (.y a) []), (2, .box (eM d s n)), (4, I s.1.length), (14, I n.1.length), (15, I j)], tk := [], tr := some (accW s n j) }) (f := evC2 R (n.1.length + 1) b67_0) (n := n.1.length) (g := fun j => decide (a = j + 1))
    (E := fun j => (.ret, { fr := [(1, .fn (.y a) []), (2, .box (eM d s n)), (4, I s.1.length), (14, I n.1.length), (15, I j), (41, B true)], tk := [], tr := some (accW s n (j + 1)) }))
    (X := (.exit 0, { fr := [(1, .fn (.y a) []), (2, .box (eM d s n)), (4, I s.1.length), (14, I n.1.length), (15, I n.1.length), (16, B false)], tk := [], tr := some (accW s n n.1.length) }))
    (fun j hj => by
      have hlen : (accW s n j).length = j := by simp [accW]
      rw [accW_succ]
      have hg : goesOn a (some (accW s n j)) = !decide (a = j + 1) := by simp only [goesOn]; rw [hlen]; by_cases h : a = j + 1 <;> simp [h]
      generalize accW s n j = acc at *
      unfold stW teethAt groovesAt part manyAt
      obtain ⟨m, hm⟩ : ∃ m, m = min (j + 1) s.1.length := ⟨_, rfl⟩
      have hm1 : min ((j : Int) + 1) (s.1.length : Int) = (m : Int) := by omega
      have q1 : ((s.1.length : Int) - m).toNat = s.1.length - m := by omega
      have q2 : ((j : Int) + 1 - m).toNat = j + 1 - m := by omega
      have q3 : ((j : Int) + 1).toNat = j + 1 := by omega
      have q4 : j + 1 - m + m = j + 1 := by omega
      rw [← hm, q4]
      have hle1 : m ≤ s.1.length := by omega
      have hle2 : m ≤ j + 1 := by omega
      clear hlen
      have hta : List.take s.1.length (eS2 s.1) = eS2 s.1 := List.take_of_length_le (by simp)
      have htb : List.take s.1.length (s.1.map fun x => [I x.1, I x.2]) = s.1.map fun x => [I x.1, I x.2] := List.take_of_length_le (by simp)
      by_cases ha : a = j + 1
      · simp only [ha, decide_true, Bool.not_true] at hg
        subst ha
        simp (maxSteps := 2000000) (disch := first | omega | (simp; done) | (simp; omega)) [-getElem?_pos, -maxL, -minL, minL2, -goesOn, b67_0, eT, hj, hm1, q1, q2, q3, hg, hta, htb, wrap64]
      · simp only [ha, decide_false, Bool.not_false] at hg
        simp (maxSteps := 2000000) (disch := first | omega | (simp; done) | (simp; omega)) [-getElem?_pos, -maxL, -minL, minL2, -goesOn, b67_0, eT, hj, hm1, q1, q2, q3, hg, ha, hta, htb, wrap64]) (fun _ => by simp) (by
      generalize accW s n n.1.length = acc
      simp (maxSteps := 2000000) (disch := first | omega | (simp; done) | (simp; omega)) [-getElem?_pos, b67_0, eT]) (by simp)
  refine run2_iter (n.1.length + 1) rfl rfl rfl rfl rfl ?_
  rw [← List.range_eq_range'] at L
  unfold stopN
  cases hf : (List.range n.1.length).find? (fun j => decide (a = j + 1)) with
  | none =>
    rw [hf] at L
    have : (if a = 0 then n.1.length else min a n.1.length) = n.1.length := by
      rw [List.find?_eq_none] at hf
      by_cases h : a = 0
      · rw [if_pos h]
      · rw [if_neg h]
        apply Decidable.byContradiction
        intro hlt
        have := hf (a - 1) (by simp; omega)
        simp at this
        omega
    rw [this]
    simp only at L
    generalize accW s n n.1.length = acc at *
    simp [eT, accW] at L
    simp (maxSteps := 2000000) (disch := first | omega | (simp; done) | (simp; omega)) [-getElem?_pos, l67, eT, L]
  | some j =>
    rw [hf] at L
    have hj := List.mem_of_find?_eq_some hf
    have hj2 := List.find?_some hf
    simp at hj hj2
    rw [show (if a = 0 then n.1.length else min a n.1.length) = j + 1 from by rw [if_neg (by omega)]; omega]
    simp only at L
    generalize accW s n (j + 1) = acc at *
    simp [eT, accW] at L
    simp (maxSteps := 2000000) (disch := first | omega | (simp; done) | (simp; omega)) [-getElem?_pos, l67, eT, L]
/-- May it be screwed so far? -/
def stepZ (d : Int × Int) (s n : Thr) (j : Nat) : Int × Int := shf (nds d s n (teethAt s j) (groovesAt s n j))
def deepN (d : Int × Int) (s n : Thr) : Nat := match (List.range n.1.length).find? fun j => !decide ((stepZ d s n j).1 ≤ (stepZ d s n j).2) with
  | some j => j
  | none => n.1.length
def deepE (d : Int × Int) (s n : Thr) : Int × Int := if chkAll d [s, n] ≠ 0 then (0, chkAll d [s, n]) else (deepN d s n, 0)
theorem stepZ_shifts {d : Int × Int} (hd : DOk d) {s n : Thr} (hs : TOk s) (hn : TOk n) {j : Nat} (hj : j < n.1.length) : R 66 (.agg (eM d s n) :: stW s n j) = some (.tup [eS (stepZ d s n j), B (decide ((stepZ d s n j).1 ≤ (stepZ d s n j).2))]) := by
  have ls := hs.len
  have lt : (teethAt s j).length = manyAt s j := by unfold teethAt manyAt; rw [List.length_drop]; omega
  have lg : (groovesAt s n j).length = manyAt s j := by unfold groovesAt part manyAt; rw [List.length_drop, List.length_take]; omega
  have hm : manyAt s j ≤ 60 := by unfold manyAt; omega
  have e := p66 hd hs hn (ts := teethAt s j) (gs := groovesAt s n j) (fun x hx => (hs.turn x (List.mem_of_mem_drop hx)).1) (fun x hx => (hn.turn x (List.mem_of_mem_take (List.mem_of_mem_drop hx))).1) (by omega) (by omega)
  exact e
theorem p26 (d : Int × Int) (s n : Thr) : R 26 [.agg (eT s), .agg (eT n), eS d] = some (.tup [I (deepE d s n).1, I (deepE d s n).2]) := by
  have e1 := p65 d (l := [s, n]) (by simp)
  unfold deepE
  by_cases c0 : chkAll d [s, n] = 0
  · rw [if_neg (fun h => h c0)]
    obtain ⟨c1, c2, c3⟩ := chkAll_two c0
    have hs := chkT_ok c1
    have hn := chkT_ok c2
    have hd := dOk_iff.1 c3
    rw [c0] at e1
    have Lr := rng_find (f := roundE (evC2 R 1 b26_0a) (evC2 R 1 b26_0) [29, 30] b26_0w) (it := fun y => R 67 [.agg (eM d s n), .fn (.y y) []])
      (σ0 := { fr := [(6, .box [I 0]), (9, .box (eM d s n)), (28, .fn (.m 67) [.agg (eM d s n)])], tk := [] }) (s := fun j => { fr := [(6, .box [I j]), (9, .box (eM d s n))], tk := [] }) (W := stW s n) (n := n.1.length)
      (g := fun j => !decide ((stepZ d s n j).1 ≤ (stepZ d s n j).2)) (E := fun j => (.exit 0, { fr := [(6, .box [I j]), (9, .box (eM d s n))], tk := [] }))
      (fun a => p67 (d := d) (by have := hs.len; omega) (by have := hn.len; omega) a) hn.pos
      (by unfold stW; simp (maxSteps := 2000000) (disch := first | omega | (simp; done) | (simp; omega)) [-getElem?_pos, b26_0a, b26_0w, eT]) (fun j hj => by
        have e2 := stepZ_shifts hd hs hn hj
        have := hn.len
        generalize stepZ d s n j = z at *
        unfold stW at *
        generalize teethAt s j = ts at *
        generalize groovesAt s n j = gs at *
        simp only [eM, eT, List.cons_append, List.nil_append] at e2
        by_cases hz : z.1 ≤ z.2 <;> simp (maxSteps := 2000000) (disch := first | omega | (simp; done) | (simp; omega)) [-getElem?_pos, b26_0a, b26_0, b26_0w, eT, e2, hz, wrap64]) (fun j => by simp)
    have hdw : ∀ A B' C : V, dropL b26_0w [(6, A), (9, B'), (28, C)] = [(6, A), (9, B'), (28, C)] := fun _ _ _ => rfl
    unfold deepN
    simp only [eT, List.map_cons, List.map_nil] at e1
    refine run2_body 1 rfl rfl rfl rfl rfl ?_
    cases hf : (List.range n.1.length).find? (fun j => !decide ((stepZ d s n j).1 ≤ (stepZ d s n j).2)) with
    | none =>
      rw [hf] at Lr
      simp [eM, eT] at Lr
      simp (maxSteps := 2000000) (disch := first | omega | (simp; done) | (simp; omega)) [-getElem?_pos, -dropL, l26, eT, e1, hdw, Lr]
    | some j =>
      rw [hf] at Lr
      simp [eM, eT] at Lr
      simp (maxSteps := 2000000) (disch := first | omega | (simp; done) | (simp; omega)) [-getElem?_pos, -dropL, l26, eT, e1, hdw, Lr]
  · rw [if_pos c0]
    generalize chkAll d [s, n] = c at *
    simp only [eT, List.map_cons, List.map_nil] at e1
    refine run2_body 1 rfl rfl rfl rfl rfl ?_
    simp (maxSteps := 2000000) (disch := first | omega | (simp; done) | (simp; omega)) [-getElem?_pos, l26, eT, e1, c0]
end Go.Lo

/- Chapter 3's reference: threads are checked; shifts; steps. -/
namespace Go.Lo
open Go.Proofs
set_option linter.unusedSimpArgs false
set_option maxHeartbeats 8000000
theorem p31 (x lo hi : Int) : R 31 [I x, I lo, I hi] = some (B (decide (lo ≤ x ∧ x ≤ hi))) := by
  refine run2_body 1 rfl rfl rfl rfl rfl ?_
  by_cases h : lo ≤ x <;> simp (maxSteps := 2000000) (disch := first | omega | (simp; done) | (simp; omega)) [-getElem?_pos, l31, h]
theorem p62 (s : Int × Int) (lo hi : Int) : R 62 [eS s, I lo, I hi] = some (B (decide (lo ≤ s.1 ∧ s.1 ≤ s.2 ∧ s.2 ≤ hi))) := by
  have e1 := p31 s.1 lo s.2
  rw [show decide (lo ≤ s.1 ∧ s.1 ≤ s.2 ∧ s.2 ≤ hi) = (decide (lo ≤ s.1 ∧ s.1 ≤ s.2) && decide (s.2 ≤ hi)) from by rw [Bool.eq_iff_iff]; simp; omega]
  generalize decide (lo ≤ s.1 ∧ s.1 ≤ s.2) = b at *
  refine run2_body 1 rfl rfl rfl rfl rfl ?_
  cases b <;> simp (maxSteps := 2000000) (disch := first | omega | (simp; done) | (simp; omega)) [-getElem?_pos, l62, e1]
theorem p22 (d : Int × Int) : R 22 [eS d] = some (B (dOk d)) := by
  have e1 := p62 d (-200000) 200000
  rw [show decide (-200000 ≤ d.1 ∧ d.1 ≤ d.2 ∧ d.2 ≤ 200000) = dOk d from rfl] at e1
  refine run2_body 1 rfl rfl rfl rfl rfl ?_
  simp (maxSteps := 2000000) (disch := first | omega | (simp; done) | (simp; omega)) [-getElem?_pos, l22, e1]
def refB (ts : List (Int × Int)) (i : Nat) : Bool := decide (((-10000000 ≤ (turn ts i).1 ∧ (turn ts i).1 ≤ (turn ts i).2) ∧ (turn ts i).2 ≤ 10000000) ∧ ¬ (0 < i ∧ (turn ts i).1 < (turn ts (i - 1)).2))
theorem all_ref (ts : List (Int × Int)) (n : Nat) : (List.range n).all (refB ts) = (List.range n).all (turnB ts) := by
  rw [Bool.eq_iff_iff, List.all_eq_true, List.all_eq_true]
  constructor
  · intro h i hi
    have h1 := h i hi
    unfold refB at h1
    unfold turnB aftT
    rw [decide_eq_true_eq] at h1 ⊢
    split <;> omega
  · intro h
    have hb : ∀ i, i < n → turnB ts i = true := fun i hi => h i (List.mem_range.2 hi)
    have hlow : ∀ i, i < n → -10000000 ≤ (turn ts i).1 ∧ (turn ts i).1 ≤ (turn ts i).2 := by
      intro i
      induction i with
      | zero =>
        intro hi
        have := hb 0 hi
        unfold turnB aftT at this
        rw [decide_eq_true_eq] at this
        simp at this
        omega
      | succ i ih =>
        intro hi
        have h4 := hb (i + 1) hi
        have h5 := ih (by omega)
        unfold turnB aftT at h4
        rw [decide_eq_true_eq] at h4
        simp at h4
        omega
    intro i hi
    rw [List.mem_range] at hi
    have h1 := hb i hi
    have h2 := hlow i hi
    unfold refB
    unfold turnB aftT at h1
    rw [decide_eq_true_eq] at h1 ⊢
    split at h1 <;> omega
theorem loop19_0 {ts : List (Int × Int)} (l r : Int) (hl : ts.length ≤ 60) (M : Nat) :
    iter (evC2 R M b19_0) (ts.length + 1) { fr := [(1, .box (eT (ts, l, r))), (3, I 0)], tk := [] } =
      if (List.range ts.length).all (turnB ts) = true then some (.exit 0, { fr := [(1, .box (eT (ts, l, r))), (3, I ts.length), (29, B false)], tk := [] })
      else some (.ret, { fr := [(2, I 2)], tk := [] }) := by
  have L := loop_if (s := fun i => { fr := [(1, .box (eT (ts, l, r))), (3, I i)], tk := [] }) (f := evC2 R M b19_0) (n := ts.length) (g := fun i => !refB ts i) (E := fun _ => (.ret, { fr := [(2, I 2)], tk := [] })) (X := (.exit 0, { fr := [(1, .box (eT (ts, l, r))), (3, I ts.length), (29, B false)], tk := [] }))
    (fun i hi => by
      have h1 := turn_get hi
      unfold refB
      have e1 := p31 (turn ts i).1 (-10000000) (turn ts i).2
      by_cases c1 : -10000000 ≤ (turn ts i).1 ∧ (turn ts i).1 ≤ (turn ts i).2
      · simp only [c1, and_self, decide_true] at e1
        by_cases c2 : (turn ts i).2 ≤ 10000000
        · have c2' : ¬ (turn ts i).2 > 10000000 := by omega
          by_cases c3 : 0 < i
          · have c3' : (0 : Int) < i := by omega
            have h0 := turn_get (ts := ts) (i := i - 1) (by omega)
            have q : ((i : Int) - 1).toNat = i - 1 := by omega
            generalize turn ts i = x at *
            generalize turn ts (i - 1) = y at *
            by_cases c4 : x.1 < y.2 <;> simp (maxSteps := 2000000) (disch := first | omega | (simp; done) | (simp; omega)) [-getElem?_pos, b19_0, eT, h1, h0, hi, e1, c1, c2, c2', c3, c3', c4, q, wrap64]
          · generalize turn ts i = x at *
            generalize turn ts (i - 1) = y at *
            simp (maxSteps := 2000000) (disch := first | omega | (simp; done) | (simp; omega)) [-getElem?_pos, b19_0, eT, h1, hi, e1, c1, c2, c2', c3, wrap64]
        · have c2' : (turn ts i).2 > 10000000 := by omega
          generalize turn ts i = x at *
          generalize turn ts (i - 1) = y at *
          simp (maxSteps := 2000000) (disch := first | omega | (simp; done) | (simp; omega)) [-getElem?_pos, b19_0, eT, h1, hi, e1, c1, c2, c2', wrap64]
      · simp only [c1, decide_false] at e1
        generalize turn ts i = x at *
        generalize turn ts (i - 1) = y at *
        simp (maxSteps := 2000000) (disch := first | omega | (simp; done) | (simp; omega)) [-getElem?_pos, b19_0, eT, h1, hi, e1, c1, wrap64]) (fun _ => by simp) (by simp (maxSteps := 2000000) (disch := first | omega | (simp; done) | (simp; omega)) [-getElem?_pos, b19_0, eT]) (by simp)
  rw [← List.range_eq_range'] at L
  rw [show ((0 : Nat) : Int) = 0 from rfl] at L
  rw [L, ← all_ref, all_find]
  cases (List.range ts.length).find? (fun i => !refB ts i) <;> simp
theorem p19 (t : Thr) : R 19 [.agg (eT t)] = some (I (chkT t)) := by
  obtain ⟨ts, l, r⟩ := t
  have e1 := p31 l 0 3000
  have e2 := p31 r 0 3000
  refine run2_body (ts.length + 1) rfl rfl rfl rfl rfl ?_
  unfold chkT leanB
  simp only [eT]
  by_cases c1 : (ts.length : Int) > 60
  · have c1' : 60 < ts.length := by omega
    simp (maxSteps := 2000000) (disch := first | omega | (simp; done) | (simp; omega)) [-getElem?_pos, l19, c1, c1']
  · have c1' : ¬ 60 < ts.length := by omega
    by_cases c2 : ts = []
    · subst c2
      simp (maxSteps := 2000000) (disch := first | omega | (simp; done) | (simp; omega)) [-getElem?_pos, l19]
    · have c2' : ¬ ts.length = 0 := fun h => c2 (List.length_eq_zero_iff.1 h)
      have L := loop19_0 (ts := ts) l r (by omega) (ts.length + 1)
      generalize (List.range ts.length).all (turnB ts) = q at *
      by_cases k1 : 0 ≤ l ∧ l ≤ 3000
      · by_cases k2 : 0 ≤ r ∧ r ≤ 3000
        · simp only [k1, k2, and_self, decide_true] at e1 e2
          cases q <;> simp [eT] at L <;> simp (maxSteps := 2000000) (disch := first | omega | (simp; done) | (simp; omega)) [-getElem?_pos, l19, c1, c1', c2, c2', e1, e2, k1, k2, L]
        · simp only [k1, k2, and_self, decide_true, decide_false] at e1 e2
          simp (maxSteps := 2000000) (disch := first | omega | (simp; done) | (simp; omega)) [-getElem?_pos, l19, c1, c1', c2, c2', e1, e2, k1, k2]
      · simp only [k1, decide_false] at e1
        simp (maxSteps := 2000000) (disch := first | omega | (simp; done) | (simp; omega)) [-getElem?_pos, l19, c1, c1', c2, c2', e1, k1]
theorem p27 (s n : Thr) (d : Int × Int) : R 27 [.agg (eT s), .agg (eT n), eS d] = some (I (chkAll d [s, n])) := by
  have e1 := p19 s
  have e2 := p19 n
  have e3 := p22 d
  rw [chkAll_2]
  simp only [eT] at e1 e2
  generalize chkT s = c1 at *
  generalize chkT n = c2 at *
  generalize dOk d = q at *
  refine run2_body 1 rfl rfl rfl rfl rfl ?_
  by_cases h1 : c1 = 0
  · by_cases h2 : c2 = 0
    · cases q <;> simp (maxSteps := 2000000) (disch := first | omega | (simp; done) | (simp; omega)) [-getElem?_pos, l27, eT, e1, e2, e3, h1, h2]
    · simp (maxSteps := 2000000) (disch := first | omega | (simp; done) | (simp; omega)) [-getElem?_pos, l27, eT, e1, e2, h1, h2]
  · simp (maxSteps := 2000000) (disch := first | omega | (simp; done) | (simp; omega)) [-getElem?_pos, l27, eT, e1, h1]
/-! ### Shifts -/
theorem p68 {t : Thr} (ht : TOk t) {i : Nat} {x : Int × Int} (hx : t.1[i]? = some x) {y : Int} (hy : -200000 ≤ y ∧ y ≤ 200000) : R 68 [.agg (eT t), I i, I y] = some (I (1000 * x.1 + y * t.2.1)) := by
  have hb := (ht.turn x (List.mem_of_getElem? hx)).1
  have hl := ht.lean
  have m := abs_mul (a := y) (b := t.2.1) (A := 200000) (C := 3000) hy (by omega)
  have hi : i < t.1.length := (List.getElem?_eq_some_iff.1 hx).1
  have w1 := wrap64 (n := y * t.2.1) (by omega) (by omega)
  generalize hz : y * t.2.1 = z at *
  refine run2_body 1 rfl rfl rfl rfl rfl ?_
  simp (maxSteps := 2000000) (disch := first | omega | (simp; done) | (simp; omega)) [-getElem?_pos, l68, eT, hx, hi, hz, w1, wrap64]
theorem p69 {t : Thr} (ht : TOk t) {i : Nat} {x : Int × Int} (hx : t.1[i]? = some x) {y : Int} (hy : -200000 ≤ y ∧ y ≤ 200000) : R 69 [.agg (eT t), I i, I y] = some (I (1000 * x.2 - y * t.2.2)) := by
  have hb := (ht.turn x (List.mem_of_getElem? hx)).1
  have hl := ht.lean
  have m := abs_mul (a := y) (b := t.2.2) (A := 200000) (C := 3000) hy (by omega)
  have hi : i < t.1.length := (List.getElem?_eq_some_iff.1 hx).1
  have w1 := wrap64 (n := y * t.2.2) (by omega) (by omega)
  generalize hz : y * t.2.2 = z at *
  refine run2_body 1 rfl rfl rfl rfl rfl ?_
  simp (maxSteps := 2000000) (disch := first | omega | (simp; done) | (simp; omega)) [-getElem?_pos, l69, eT, hx, hi, hz, w1, wrap64]
def rstep (s n : Int × Int) : Int × Int := (max s.1 n.1, min s.2 n.2)
def rfold (l : List (Int × Int)) : Int × Int := l.foldl rstep (-1152921504606846976, 1152921504606846976)
theorem rfold_snoc (l : List (Int × Int)) (x : Int × Int) : rfold (l ++ [x]) = rstep (rfold l) x := by simp [rfold]
theorem rfold_shf {l : List (Int × Int)} (hl : l ≠ []) (hb : ∀ x ∈ l, -1152921504606846976 ≤ x.1 ∧ x.2 ≤ 1152921504606846976) : rfold l = shf l := by
  cases l with
  | nil => exact absurd rfl hl
  | cons x l =>
    have h := hb x (by simp)
    have e : rstep (-1152921504606846976, 1152921504606846976) x = x := by
      unfold rstep
      refine Prod.ext ?_ ?_ <;> simp only <;> omega
    unfold rfold shf
    rw [List.foldl_cons, e]
    rfl
theorem rfold_bd {l : List (Int × Int)} (hb : ∀ x ∈ l, (-30000000000 ≤ x.1 ∧ x.1 ≤ 30000000000) ∧ (-30000000000 ≤ x.2 ∧ x.2 ≤ 30000000000)) : (-1152921504606846976 ≤ (rfold l).1 ∧ (rfold l).1 ≤ 30000000000) ∧ (-30000000000 ≤ (rfold l).2 ∧ (rfold l).2 ≤ 1152921504606846976) := by
  have key : ∀ (l : List (Int × Int)) (a : Int × Int), (∀ x ∈ l, (-30000000000 ≤ x.1 ∧ x.1 ≤ 30000000000) ∧ (-30000000000 ≤ x.2 ∧ x.2 ≤ 30000000000)) → ((-1152921504606846976 ≤ a.1 ∧ a.1 ≤ 30000000000) ∧ (-30000000000 ≤ a.2 ∧ a.2 ≤ 1152921504606846976)) →
      ((-1152921504606846976 ≤ (l.foldl rstep a).1 ∧ (l.foldl rstep a).1 ≤ 30000000000) ∧ (-30000000000 ≤ (l.foldl rstep a).2 ∧ (l.foldl rstep a).2 ≤ 1152921504606846976)) := by
    intro l
    induction l with
    | nil => intro a _ h; exact h
    | cons x l ih =>
      intro a hl ha
      refine ih _ (fun y hy => hl y (by simp [hy])) ?_
      have := hl x (by simp)
      unfold rstep
      simp only
      omega
  exact key l _ hb (by simp)
theorem nds_mem {d : Int × Int} (hd : DOk d) {s n : Thr} (hs : TOk s) (hn : TOk n) {ts gs : List (Int × Int)} (ht : ∀ x ∈ ts, x ∈ s.1) (hg : ∀ x ∈ gs, x ∈ n.1) : ∀ x ∈ nds d s n ts gs, (-30000000000 ≤ x.1 ∧ x.1 ≤ 30000000000) ∧ (-30000000000 ≤ x.2 ∧ x.2 ≤ 30000000000) := by
  intro x hx
  unfold nds at hx
  rw [List.zipWith_eq_zipWith_take_min] at hx
  obtain ⟨i, hi, rfl⟩ := List.mem_iff_getElem.1 hx
  rw [List.getElem_zipWith]
  exact nd_bd hd (hs.turn _ (ht _ (List.mem_of_mem_take (List.getElem_mem _)))).1 (hn.turn _ (hg _ (List.mem_of_mem_take (List.getElem_mem _)))).1 hs.lean hn.lean
theorem part_get {ts : List (Int × Int)} {t m i : Nat} (h : t + m ≤ ts.length) (hi : i < m) : ∃ x, ts[t + i]? = some x ∧ (part ts t m)[i]? = some x := by
  refine ⟨ts[t + i], List.getElem?_eq_getElem (by omega), ?_⟩
  unfold part
  rw [List.getElem?_drop, List.getElem?_take, if_pos (by omega)]
  exact List.getElem?_eq_getElem (by omega)
theorem part_len {ts : List (Int × Int)} {t m : Nat} (h : t + m ≤ ts.length) : (part ts t m).length = m := by unfold part; simp; omega
theorem part_sub {ts : List (Int × Int)} {t m : Nat} : ∀ x ∈ part ts t m, x ∈ ts := fun _ hx => List.mem_of_mem_take (List.mem_of_mem_drop hx)
def refS (d : Int × Int) (s n : Thr) (t g m : Nat) : Int × Int := rfold (nds d s n (part s.1 t m) (part n.1 g m))
theorem p29 {d : Int × Int} (hd : DOk d) {s n : Thr} (hs : TOk s) (hn : TOk n) {t g m : Nat} (h1 : t + m ≤ s.1.length) (h2 : g + m ≤ n.1.length) : R 29 [.agg (eT s), .agg (eT n), I t, I g, I m, eS d] = some (eS (refS d s n t g m)) := by
  have ls := hs.len
  have ln := hn.len
  have hb := nds_mem hd hs hn (ts := part s.1 t m) (gs := part n.1 g m) part_sub part_sub
  have L := loop_all (s := fun i => { fr := [(2, I t), (3, I g), (4, I m), (6, .box (eT s)), (7, .box (eT n)), (11, .box [I d.1, I d.2]), (12, .box [I 0, I 0]), (13, .box [I (rfold (nds d s n ((part s.1 t m).take i) ((part n.1 g m).take i))).1, I (rfold (nds d s n ((part s.1 t m).take i) ((part n.1 g m).take i))).2]), (14, I i)], tk := [] }) (f := evC2 R (m + 3) b29_0) (n := m)
    (X := (.exit 0, { fr := [(2, I t), (3, I g), (4, I m), (6, .box (eT s)), (7, .box (eT n)), (11, .box [I d.1, I d.2]), (12, .box [I 0, I 0]), (13, .box [I (refS d s n t g m).1, I (refS d s n t g m).2]), (14, I m), (20, B false)], tk := [] }))
    (fun i hi => by
      obtain ⟨a, a1, a2⟩ := part_get h1 hi
      obtain ⟨b, b1, b2⟩ := part_get h2 hi
      have hy := rfold_bd (l := nds d s n ((part s.1 t m).take i) ((part n.1 g m).take i)) (nds_mem hd hs hn (fun x hx => part_sub x (List.mem_of_mem_take hx)) (fun x hx => part_sub x (List.mem_of_mem_take hx)))
      rw [nds_take a2 b2, rfold_snoc]
      generalize rfold (nds d s n ((part s.1 t m).take i) ((part n.1 g m).take i)) = y at *
      have l0 := p68 hs a1 (y := d.1) ⟨hd.lo, by have := hd.le; have := hd.hi; omega⟩
      have l1 := p68 hs a1 (y := d.2) ⟨by have := hd.le; have := hd.lo; omega, hd.hi⟩
      have l2 := p68 hn b1 (y := d.1) ⟨hd.lo, by have := hd.le; have := hd.hi; omega⟩
      have l3 := p68 hn b1 (y := d.2) ⟨by have := hd.le; have := hd.lo; omega, hd.hi⟩
      have r0 := p69 hs a1 (y := d.1) ⟨hd.lo, by have := hd.le; have := hd.hi; omega⟩
      have r1 := p69 hs a1 (y := d.2) ⟨by have := hd.le; have := hd.lo; omega, hd.hi⟩
      have r2 := p69 hn b1 (y := d.1) ⟨hd.lo, by have := hd.le; have := hd.hi; omega⟩
      have r3 := p69 hn b1 (y := d.2) ⟨by have := hd.le; have := hd.lo; omega, hd.hi⟩
      have ha := (hs.turn a (List.mem_of_getElem? a1)).1
      have hb' := (hn.turn b (List.mem_of_getElem? b1)).1
      have hsl := hs.lean
      have hnl := hn.lean
      have dlo := hd.lo
      have dle := hd.le
      have dhi := hd.hi
      have m0 := abs_mul (a := d.1) (b := s.2.1) (A := 200000) (C := 3000) (by omega) (by omega)
      have m1 := abs_mul (a := d.2) (b := s.2.1) (A := 200000) (C := 3000) (by omega) (by omega)
      have m2 := abs_mul (a := d.1) (b := n.2.1) (A := 200000) (C := 3000) (by omega) (by omega)
      have m3 := abs_mul (a := d.2) (b := n.2.1) (A := 200000) (C := 3000) (by omega) (by omega)
      have m4 := abs_mul (a := d.1) (b := s.2.2) (A := 200000) (C := 3000) (by omega) (by omega)
      have m5 := abs_mul (a := d.2) (b := s.2.2) (A := 200000) (C := 3000) (by omega) (by omega)
      have m6 := abs_mul (a := d.1) (b := n.2.2) (A := 200000) (C := 3000) (by omega) (by omega)
      have m7 := abs_mul (a := d.2) (b := n.2.2) (A := 200000) (C := 3000) (by omega) (by omega)
      have hst : rstep y (nd d a b s.2.1 s.2.2 n.2.1 n.2.2) = (max (max y.1 (1000 * b.1 + d.1 * n.2.1 - (1000 * a.1 + d.1 * s.2.1))) (1000 * b.1 + d.2 * n.2.1 - (1000 * a.1 + d.2 * s.2.1)), min (min y.2 (1000 * b.2 - d.1 * n.2.2 - (1000 * a.2 - d.1 * s.2.2))) (1000 * b.2 - d.2 * n.2.2 - (1000 * a.2 - d.2 * s.2.2))) := by
        unfold rstep nd mst
        simp only [Int.mul_sub]
        refine Prod.ext ?_ ?_ <;> simp only <;> omega
      rw [hst]
      generalize d.1 * s.2.1 = z0 at *
      generalize d.2 * s.2.1 = z1 at *
      generalize d.1 * n.2.1 = z2 at *
      generalize d.2 * n.2.1 = z3 at *
      generalize d.1 * s.2.2 = z4 at *
      generalize d.2 * s.2.2 = z5 at *
      generalize d.1 * n.2.2 = z6 at *
      generalize d.2 * n.2.2 = z7 at *
      have q1 : IntKind.i64.wrap ((g : Int) + i) = ((g + i : Nat) : Int) := by rw [wrap64 (by omega) (by omega)]; omega
      have q2 : IntKind.i64.wrap ((t : Int) + i) = ((t + i : Nat) : Int) := by rw [wrap64 (by omega) (by omega)]; omega
      have Li : iter (evC2 R (m + 3) b29_1) (m + 3) { fr := [(2, I t), (3, I g), (4, I m), (6, .box (eT s)), (7, .box (eT n)), (11, .box [I d.1, I d.2]), (12, .box [I 0, I 0]), (13, .box [I y.1, I y.2]), (14, I i), (15, I 0)], tk := [] } =
          some (.exit 2, { fr := [(2, I t), (3, I g), (4, I m), (6, .box (eT s)), (7, .box (eT n)), (11, .box [I d.1, I d.2]), (12, .box [I 0, I 0]), (13, .box [I (max (max y.1 (1000 * b.1 + z2 - (1000 * a.1 + z0))) (1000 * b.1 + z3 - (1000 * a.1 + z1))), I (min (min y.2 (1000 * b.2 - z6 - (1000 * a.2 - z4))) (1000 * b.2 - z7 - (1000 * a.2 - z5)))]), (14, I i), (15, I 2), (24, B false)], tk := [] }) := by
        rw [iter_succ]
        simp only [eT, Int.natCast_add] at l0 l1 l2 l3 r0 r1 r2 r3
        simp (maxSteps := 2000000) (disch := first | omega | (simp; done) | (simp; omega)) [-getElem?_pos, -maxL, -minL, maxL2, minL2, b29_1, eT, q1, q2, l0, l2, r0, r2, wrap64]
        rw [iter_succ]
        simp (maxSteps := 2000000) (disch := first | omega | (simp; done) | (simp; omega)) [-getElem?_pos, -maxL, -minL, maxL2, minL2, b29_1, eT, q1, q2, l1, l3, r1, r3, wrap64]
        rw [iter_succ]
        simp (maxSteps := 2000000) (disch := first | omega | (simp; done) | (simp; omega)) [-getElem?_pos, b29_1]
      clear l0 l1 l2 l3 r0 r1 r2 r3 hst
      generalize max (max y.1 (1000 * b.1 + z2 - (1000 * a.1 + z0))) (1000 * b.1 + z3 - (1000 * a.1 + z1)) = u1 at *
      generalize min (min y.2 (1000 * b.2 - z6 - (1000 * a.2 - z4))) (1000 * b.2 - z7 - (1000 * a.2 - z5)) = u2 at *
      simp [eT] at Li
      simp (maxSteps := 2000000) (disch := first | omega | (simp; done) | (simp; omega)) [-getElem?_pos, b29_0, eT, hi, Li, wrap64]) (by
      have e : nds d s n ((part s.1 t m).take m) ((part n.1 g m).take m) = nds d s n (part s.1 t m) (part n.1 g m) := by
        rw [List.take_of_length_le (by rw [part_len h1]; omega), List.take_of_length_le (by rw [part_len h2]; omega)]
      rw [e]
      unfold refS
      generalize rfold (nds d s n (part s.1 t m) (part n.1 g m)) = y at *
      simp (maxSteps := 2000000) (disch := first | omega | (simp; done) | (simp; omega)) [-getElem?_pos, b29_0, eT]) (by simp)
  have L := iter_le (f := evC2 R (m + 3) b29_0) (fun _ _ h => h) (show m + 1 ≤ m + 3 by omega) L
  generalize refS d s n t g m = y at *
  simp [eT, rfold] at L
  refine run2_body (m + 3) rfl rfl rfl rfl rfl ?_
  simp (maxSteps := 2000000) (disch := first | omega | (simp; done) | (simp; omega)) [-getElem?_pos, l29, eT, L]
end Go.Lo

/- Forms, by the reference. -/
namespace Go.Lo
open Go.Proofs
set_option linter.unusedSimpArgs false
set_option maxHeartbeats 8000000
theorem p89 (x lo hi : Int) : R 89 [I x, I lo, I hi] = some (B (decide (lo ≤ x ∧ x ≤ hi))) := by
  refine run2_body 1 rfl rfl rfl rfl rfl ?_
  by_cases h : lo ≤ x <;> simp (maxSteps := 2000000) (disch := first | omega | (simp; done) | (simp; omega)) [-getElem?_pos, l89, h]
theorem p90 {f : Frm} (h : FNum f) {y : Int} (hy : -200000 ≤ y ∧ y ≤ 200000) : R 90 [.agg (eF f), I y] = some (I (wid f y)) := by
  have h1 := h.pitch
  have h2 := h.left
  have h3 := h.right
  have m := abs_mul (a := 2 * y) (b := f.left + f.right) (A := 400000) (C := 6000) (by omega) (by omega)
  unfold wid
  have w1 := wrap64 (n := 2 * y * (f.left + f.right)) (by omega) (by omega)
  have w2 := wrap64 (n := f.left + f.right) (by omega) (by omega)
  generalize hz : 2 * y * (f.left + f.right) = z at *
  refine run2_body 1 rfl rfl rfl rfl rfl ?_
  simp (maxSteps := 2000000) (disch := first | omega | (simp; done) | (simp; omega)) [-getElem?_pos, l90, eF, hz, w1, w2, wrap64]
theorem p61 (f : Frm) : R 61 [.agg (eF f)] = some (B (frmB f)) := by
  have e1 := p89 f.pitch 100 200000
  have e2 := p89 f.left 0 3000
  have e3 := p89 f.right 0 3000
  have e4 := p89 f.above 0 200000
  have e5 := p89 f.below 0 200000
  have e6 := p89 f.starts 1 8
  have e7 := p89 f.taper 0 100
  unfold frmB
  by_cases c1 : 100 ≤ f.pitch ∧ f.pitch ≤ 200000
  case neg =>
    have hN : frmN f = false := by unfold frmN; rw [decide_eq_false_iff_not]; exact fun h => c1 h.1.1.1.1.1
    rw [hN]
    simp only [c1, decide_false] at e1
    refine run2_body 1 rfl rfl rfl rfl rfl ?_
    simp (maxSteps := 2000000) (disch := first | omega | (simp; done) | (simp; omega)) [-getElem?_pos, l61, eF, e1, wrap64]
  by_cases c2 : 0 ≤ f.left ∧ f.left ≤ 3000
  case neg =>
    have hN : frmN f = false := by unfold frmN; rw [decide_eq_false_iff_not]; exact fun h => c2 h.1.1.1.1.2.1
    rw [hN]
    simp only [c1, c2, and_self, decide_true, decide_false] at e1 e2
    refine run2_body 1 rfl rfl rfl rfl rfl ?_
    simp (maxSteps := 2000000) (disch := first | omega | (simp; done) | (simp; omega)) [-getElem?_pos, l61, eF, e1, e2, wrap64]
  by_cases c3 : 0 ≤ f.right ∧ f.right ≤ 3000
  case neg =>
    have hN : frmN f = false := by unfold frmN; rw [decide_eq_false_iff_not]; exact fun h => c3 h.1.1.1.1.2.2
    rw [hN]
    simp only [c1, c2, c3, and_self, decide_true, decide_false] at e1 e2 e3
    refine run2_body 1 rfl rfl rfl rfl rfl ?_
    simp (maxSteps := 2000000) (disch := first | omega | (simp; done) | (simp; omega)) [-getElem?_pos, l61, eF, e1, e2, e3, wrap64]
  by_cases c4 : 0 ≤ f.above ∧ f.above ≤ 200000
  case neg =>
    have hN : frmN f = false := by unfold frmN; rw [decide_eq_false_iff_not]; exact fun h => c4 h.1.1.1.2.1
    rw [hN]
    simp only [c1, c2, c3, c4, and_self, decide_true, decide_false] at e1 e2 e3 e4
    refine run2_body 1 rfl rfl rfl rfl rfl ?_
    simp (maxSteps := 2000000) (disch := first | omega | (simp; done) | (simp; omega)) [-getElem?_pos, l61, eF, e1, e2, e3, e4, wrap64]
  by_cases c5 : 0 ≤ f.below ∧ f.below ≤ 200000
  case neg =>
    have hN : frmN f = false := by unfold frmN; rw [decide_eq_false_iff_not]; exact fun h => c5 h.1.1.1.2.2
    rw [hN]
    simp only [c1, c2, c3, c4, c5, and_self, decide_true, decide_false] at e1 e2 e3 e4 e5
    refine run2_body 1 rfl rfl rfl rfl rfl ?_
    simp (maxSteps := 2000000) (disch := first | omega | (simp; done) | (simp; omega)) [-getElem?_pos, l61, eF, e1, e2, e3, e4, e5, wrap64]
  by_cases c6 : f.above + f.below = 0
  case pos =>
    have hN : frmN f = false := by unfold frmN; rw [decide_eq_false_iff_not]; exact fun h => by have := h.1.1.2; omega
    rw [hN]
    simp only [c1, c2, c3, c4, c5, and_self, decide_true, decide_false] at e1 e2 e3 e4 e5
    have w : IntKind.i64.wrap 0 = 0 := wrap64 (by omega) (by omega)
    refine run2_body 1 rfl rfl rfl rfl rfl ?_
    simp (maxSteps := 2000000) (disch := first | omega | (simp; done) | (simp; omega)) [-getElem?_pos, l61, eF, e1, e2, e3, e4, e5, w, c6]
  by_cases c7 : 1 ≤ f.starts ∧ f.starts ≤ 8
  case neg =>
    have hN : frmN f = false := by unfold frmN; rw [decide_eq_false_iff_not]; exact fun h => c7 h.1.2
    rw [hN]
    simp only [c1, c2, c3, c4, c5, c7, and_self, decide_true, decide_false] at e1 e2 e3 e4 e5 e6
    refine run2_body 1 rfl rfl rfl rfl rfl ?_
    simp (maxSteps := 2000000) (disch := first | omega | (simp; done) | (simp; omega)) [-getElem?_pos, l61, eF, e1, e2, e3, e4, e5, e6, c6, wrap64]
  by_cases c8 : 0 ≤ f.taper ∧ f.taper ≤ 100
  case neg =>
    have hN : frmN f = false := by unfold frmN; rw [decide_eq_false_iff_not]; exact fun h => c8 h.2
    rw [hN]
    simp only [c1, c2, c3, c4, c5, c7, c8, and_self, decide_true, decide_false] at e1 e2 e3 e4 e5 e6 e7
    refine run2_body 1 rfl rfl rfl rfl rfl ?_
    simp (maxSteps := 2000000) (disch := first | omega | (simp; done) | (simp; omega)) [-getElem?_pos, l61, eF, e1, e2, e3, e4, e5, e6, e7, c6, wrap64]
  have hn : FNum f := ⟨c1, c2, c3, c4, c5⟩
  have w1 := p90 hn (y := f.above) (by omega)
  have w2 := p90 hn (y := -f.below) (by omega)
  have hN : frmN f = true := by unfold frmN; rw [decide_eq_true_eq]; exact ⟨⟨⟨⟨⟨c1, ⟨c2, c3⟩⟩, ⟨c4, c5⟩⟩, by omega⟩, c7⟩, c8⟩
  have hneg : wid f (-f.below) = 2000 * f.pitch - wid f f.below := by
    unfold wid
    rw [Int.mul_neg, Int.neg_mul]
    omega
  rw [hN]
  rw [hneg] at w2
  have m := abs_mul (a := 2 * f.below) (b := f.left + f.right) (A := 400000) (C := 6000) (by omega) (by omega)
  have hwb : -3000000000 ≤ wid f f.below ∧ wid f f.below ≤ 3000000000 := by unfold wid; omega
  generalize wid f f.above = z1 at *
  generalize wid f f.below = z2 at *
  simp only [c1, c2, c3, c4, c5, c7, c8, and_self, decide_true] at e1 e2 e3 e4 e5 e6 e7
  simp only [eF] at w1 w2
  refine run2_body 1 rfl rfl rfl rfl rfl ?_
  by_cases k1 : 0 ≤ z1
  · by_cases k2 : 0 ≤ z2
    · have k3 : 2000 * f.pitch - z2 ≤ 2000 * f.pitch := by omega
      simp (maxSteps := 2000000) (disch := first | omega | (simp; done) | (simp; omega)) [-getElem?_pos, l61, eF, e1, e2, e3, e4, e5, e6, e7, c6, w1, w2, k1, k2, k3, wrap64]
    · have k3 : ¬ 2000 * f.pitch - z2 ≤ 2000 * f.pitch := by omega
      simp (maxSteps := 2000000) (disch := first | omega | (simp; done) | (simp; omega)) [-getElem?_pos, l61, eF, e1, e2, e3, e4, e5, e6, e7, c6, w1, w2, k1, k2, k3, wrap64]
  · simp (maxSteps := 2000000) (disch := first | omega | (simp; done) | (simp; omega)) [-getElem?_pos, l61, eF, e1, e2, e3, e4, e5, e6, e7, c6, w1, w2, k1, wrap64]
theorem p21 (f : Frm) : R 21 [.agg (eF f)] = some (B (frmB f)) := by
  have e1 := p61 f
  simp only [eF] at e1
  generalize frmB f = q at *
  refine run2_body 1 rfl rfl rfl rfl rfl ?_
  simp (maxSteps := 2000000) (disch := first | omega | (simp; done) | (simp; omega)) [-getElem?_pos, l21, eF, e1]
end Go.Lo
