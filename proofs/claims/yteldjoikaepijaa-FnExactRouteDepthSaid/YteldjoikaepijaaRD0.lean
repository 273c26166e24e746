/- A part of the proof: codes of functions, their contracts, and what joins them. -/
import Derived.Test.YteldjoikaepijaaLib1
import Derived.Test.YteldjoikaepijaaProg
namespace Go.Fw
open Go Go.Proofs
/- loop.example/portolan/laws.FnExactRouteDepth params 1 results [.t 2] ntmps 27 -/
def c3 : CC :=
 .seq (.reg [0] [O 2 (.mv (.c (.bool false)))])
 (.seq (.reg [0, 3] [O 3 (.mv (.c (.int .i64 1048576)))])
 (.seq (.reg [0, 3] [O 7 (.mv (.t 0)), O 8 (.mv (.t 3)), O 9 (.call 6 [(.t 7), (.t 8)]), O 3 (.mv (.t 9))])
 (.seq (.seq (.reg [0, 11] [O 10 (.mv (.t 3)), O 11 (.bin .lss (.t 10) (.c (.int .i64 0)))])
 (.cond (.t 11) (.seq (.reg [2] [O 2 (.mv (.c (.bool true)))])
 (.ret)) (.skip)))
 (.seq (.reg [0, 4] [O 12 (.mv (.t 0)), O 13 (.call 8 [(.t 12)]), O 14 (.call 7 [(.t 13)]), O 4 (.mv (.t 14))])
 (.seq (.reg [0, 4, 5] [O 15 (.mv (.t 0)), O 16 (.call 8 [(.t 15)]), O 5 (.mv (.t 16))])
 (.seq (.reg [0, 4, 5, 6] [O 17 (.mv (.t 5)), O 18 (.call 9 [(.t 17)]), O 6 (.mv (.t 18))])
 (.seq (.seq (.reg [0, 5, 21] [O 19 (.mv (.t 6)), O 20 (.mv (.t 4)), O 21 (.bin .neq (.t 19) (.t 20))])
 (.cond (.t 21) (.seq (.reg [2] [O 2 (.mv (.c (.bool false)))])
 (.ret)) (.skip)))
 (.seq (.seq (.reg [26] [O 22 (.mv (.t 5)), O 23 (.mv (.t 0)), O 24 (.call 8 [(.t 23)]), O 25 (.call 10 [(.t 22), (.t 24)]), O 26 (.not (.t 25))])
 (.cond (.t 26) (.seq (.reg [2] [O 2 (.mv (.c (.bool false)))])
 (.ret)) (.skip)))
 (.seq (.reg [2] [O 2 (.mv (.c (.bool true)))])
 (.ret))))))))))
def c7_l2 : CC :=
 .seq (.seq (.reg [0, 3, 4, 5, 6, 7, 23] [O 16 (.mv (.t 7)), O 17 (.mv (.t 0)), O 18 (.mv (.t 5)), O 19 (.ia 6 (.t 17) (.t 18)), O 20 (.fa 4 (.t 19)), O 21 (.load none (.t 20)), O 22 (.lenl (.t 21)), O 23 (.bin .lss (.t 16) (.t 22))])
 (.cond (.t 23) (.skip) (.exit 2)))
 (.seq (.block 3 (.seq (.reg [0, 3, 4, 5, 6, 7, 8] [O 26 (.mv (.t 0)), O 27 (.mv (.t 5)), O 28 (.ia 6 (.t 26) (.t 27)), O 29 (.fa 4 (.t 28)), O 30 (.load none (.t 29)), O 31 (.mv (.t 7)), O 32 (.ia 1 (.t 30) (.t 31)), O 33 (.load none (.t 32)), O 8 (.mv (.t 33))])
 (.seq (.reg [0, 3, 4, 5, 6, 7, 8, 46] [O 34 (.mv (.t 8)), O 35 (.mv (.t 5)), O 36 (.bin .sub (.t 35) (.c (.int .i64 1))), O 37 (.call 20 [(.t 34), (.c (.int .i64 0)), (.t 36)]), O 38 (.mv (.t 37)), .mk (some 39) (some (38, true)) (.mv (.t 4)), .mk (some 40) (some (38, true)) (.mv (.t 8)), .mk (some 41) (some (38, true)) (.ia 1 (.t 39) (.t 40)), .mk (some 42) (some (38, true)) (.load none (.t 41)), .mk (some 43) (some (38, true)) (.bin .add (.t 42) (.c (.int .i64 1))), .mk (some 44) (some (38, true)) (.mv (.t 6)), .mk (some 45) (some (38, true)) (.bin .gtr (.t 43) (.t 44)), O 46 (.pick (.t 38) (.t 45) (.c (.bool false)))])
 (.cond (.t 46) (.reg [0, 3, 4, 5, 6, 7] [O 47 (.mv (.t 4)), O 48 (.mv (.t 8)), O 49 (.ia 1 (.t 47) (.t 48)), O 50 (.load none (.t 49)), O 51 (.bin .add (.t 50) (.c (.int .i64 1))), O 6 (.mv (.t 51))]) (.skip)))))
 (.reg [0, 3, 4, 5, 6, 7] [O 24 (.mv (.t 7)), O 25 (.bin .add (.t 24) (.c (.int .i64 1))), O 7 (.mv (.t 25))]))
@[simp high] theorem vc_c7_l2 {C : Ctx} {Φ : List (En C.P)} {rs : List RV} {n : Nat} {k : List CItem} {st : St} : vc C Φ rs (n + 1) (.code c7_l2 :: k) st = vc C Φ rs (n + 1) (.code (.seq (.seq (.reg [0, 3, 4, 5, 6, 7, 23] [O 16 (.mv (.t 7)), O 17 (.mv (.t 0)), O 18 (.mv (.t 5)), O 19 (.ia 6 (.t 17) (.t 18)), O 20 (.fa 4 (.t 19)), O 21 (.load none (.t 20)), O 22 (.lenl (.t 21)), O 23 (.bin .lss (.t 16) (.t 22))])
 (.cond (.t 23) (.skip) (.exit 2)))
 (.seq (.block 3 (.seq (.reg [0, 3, 4, 5, 6, 7, 8] [O 26 (.mv (.t 0)), O 27 (.mv (.t 5)), O 28 (.ia 6 (.t 26) (.t 27)), O 29 (.fa 4 (.t 28)), O 30 (.load none (.t 29)), O 31 (.mv (.t 7)), O 32 (.ia 1 (.t 30) (.t 31)), O 33 (.load none (.t 32)), O 8 (.mv (.t 33))])
 (.seq (.reg [0, 3, 4, 5, 6, 7, 8, 46] [O 34 (.mv (.t 8)), O 35 (.mv (.t 5)), O 36 (.bin .sub (.t 35) (.c (.int .i64 1))), O 37 (.call 20 [(.t 34), (.c (.int .i64 0)), (.t 36)]), O 38 (.mv (.t 37)), .mk (some 39) (some (38, true)) (.mv (.t 4)), .mk (some 40) (some (38, true)) (.mv (.t 8)), .mk (some 41) (some (38, true)) (.ia 1 (.t 39) (.t 40)), .mk (some 42) (some (38, true)) (.load none (.t 41)), .mk (some 43) (some (38, true)) (.bin .add (.t 42) (.c (.int .i64 1))), .mk (some 44) (some (38, true)) (.mv (.t 6)), .mk (some 45) (some (38, true)) (.bin .gtr (.t 43) (.t 44)), O 46 (.pick (.t 38) (.t 45) (.c (.bool false)))])
 (.cond (.t 46) (.reg [0, 3, 4, 5, 6, 7] [O 47 (.mv (.t 4)), O 48 (.mv (.t 8)), O 49 (.ia 1 (.t 47) (.t 48)), O 50 (.load none (.t 49)), O 51 (.bin .add (.t 50) (.c (.int .i64 1))), O 6 (.mv (.t 51))]) (.skip)))))
 (.reg [0, 3, 4, 5, 6, 7] [O 24 (.mv (.t 7)), O 25 (.bin .add (.t 24) (.c (.int .i64 1))), O 7 (.mv (.t 25))]))) :: k) st := rfl
def c7_l0 : CC :=
 .seq (.seq (.reg [0, 3, 4, 5, 13] [O 10 (.mv (.t 5)), O 11 (.mv (.t 0)), O 12 (.lenl (.t 11)), O 13 (.bin .lss (.t 10) (.t 12))])
 (.cond (.t 13) (.skip) (.exit 0)))
 (.seq (.block 1 (.seq (.reg [0, 3, 4, 5, 6] [O 6 (.mv (.c (.int .i64 1)))])
 (.seq (.seq (.reg [0, 3, 4, 5, 6, 7] [O 7 (.mv (.c (.int .i64 0)))])
 (.block 2 (.loop c7_l2)))
 (.seq (.reg [0, 3, 4, 5, 6] [O 52 (.mv (.t 4)), O 53 (.mv (.t 6)), O 54 (.bsl 1 [(.t 53)]), O 55 (.app 1 (.t 52) (.t 54)), O 4 (.mv (.t 55))])
 (.seq (.reg [0, 3, 4, 5, 6, 58] [O 56 (.mv (.t 6)), O 57 (.mv (.t 3)), O 58 (.bin .gtr (.t 56) (.t 57))])
 (.cond (.t 58) (.reg [0, 3, 4, 5] [O 59 (.mv (.t 6)), O 3 (.mv (.t 59))]) (.skip)))))))
 (.reg [0, 3, 4, 5] [O 14 (.mv (.t 5)), O 15 (.bin .add (.t 14) (.c (.int .i64 1))), O 5 (.mv (.t 15))]))
@[simp high] theorem vc_c7_l0 {C : Ctx} {Φ : List (En C.P)} {rs : List RV} {n : Nat} {k : List CItem} {st : St} : vc C Φ rs (n + 1) (.code c7_l0 :: k) st = vc C Φ rs (n + 1) (.code (.seq (.seq (.reg [0, 3, 4, 5, 13] [O 10 (.mv (.t 5)), O 11 (.mv (.t 0)), O 12 (.lenl (.t 11)), O 13 (.bin .lss (.t 10) (.t 12))])
 (.cond (.t 13) (.skip) (.exit 0)))
 (.seq (.block 1 (.seq (.reg [0, 3, 4, 5, 6] [O 6 (.mv (.c (.int .i64 1)))])
 (.seq (.seq (.reg [0, 3, 4, 5, 6, 7] [O 7 (.mv (.c (.int .i64 0)))])
 (.block 2 (.loop c7_l2)))
 (.seq (.reg [0, 3, 4, 5, 6] [O 52 (.mv (.t 4)), O 53 (.mv (.t 6)), O 54 (.bsl 1 [(.t 53)]), O 55 (.app 1 (.t 52) (.t 54)), O 4 (.mv (.t 55))])
 (.seq (.reg [0, 3, 4, 5, 6, 58] [O 56 (.mv (.t 6)), O 57 (.mv (.t 3)), O 58 (.bin .gtr (.t 56) (.t 57))])
 (.cond (.t 58) (.reg [0, 3, 4, 5] [O 59 (.mv (.t 6)), O 3 (.mv (.t 59))]) (.skip)))))))
 (.reg [0, 3, 4, 5] [O 14 (.mv (.t 5)), O 15 (.bin .add (.t 14) (.c (.int .i64 1))), O 5 (.mv (.t 15))]))) :: k) st := rfl
/- loop.example/portolan/spec.RouteDepth params 1 results [.t 2] ntmps 61 -/
def c7 : CC :=
 .seq (.reg [0] [O 2 (.mv (.c (.int .i64 0)))])
 (.seq (.reg [0, 3] [O 3 (.mv (.c (.int .i64 0)))])
 (.seq (.reg [0, 3, 4] [O 9 (.bsl0), O 4 (.mv (.t 9))])
 (.seq (.seq (.reg [0, 3, 4, 5] [O 5 (.mv (.c (.int .i64 0)))])
 (.block 0 (.loop c7_l0)))
 (.seq (.reg [2] [O 60 (.mv (.t 3)), O 2 (.mv (.t 60))])
 (.ret)))))
def c9_l2 : CC :=
 .seq (.reg [3, 4, 5, 12, 13, 14, 20, 21, 22, 23] [O 23 (.bin .lss (.t 22) (.t 21))])
 (.seq (.cond (.t 23) (.skip) (.exit 2))
 (.seq (.block 3 (.seq (.reg [3, 4, 5, 8, 12, 13, 14, 20, 21, 22] [O 24 (.ia 1 (.t 20) (.t 22)), O 25 (.load none (.t 24)), O 8 (.mv (.t 25))])
 (.seq (.reg [3, 4, 5, 8, 12, 13, 14, 20, 21, 22, 29] [O 26 (.mv (.t 8)), O 27 (.mv (.t 5)), O 28 (.bin .sub (.t 27) (.c (.int .i64 1))), O 29 (.call 22 [(.t 26), (.c (.int .i64 0)), (.t 28)])])
 (.cond (.t 29) (.regd [3, 4, 5, 12, 13, 14, 20, 21, 22] [0, 1, 2, 3, 4, 5, 6, 7, 8, 9, 10, 11, 12] [0, 0, 0, 0, 12, 28, 0, 0, 192, 448, 1020, 2047, 4095] [0, 0, 0, 0, 0, 1, 0, 0, 0, 1, 0, 0, 2] [O 30 (.mv (.t 3)), O 31 (.mv (.t 5)), O 32 (.mv (.t 3)), O 33 (.mv (.t 5)), O 34 (.ia 1 (.t 32) (.t 33)), O 35 (.load none (.t 34)), O 36 (.mv (.t 3)), O 37 (.mv (.t 8)), O 38 (.ia 1 (.t 36) (.t 37)), O 39 (.load none (.t 38)), O 40 (.mx true (.t 35) (.t 39)), O 41 (.ia 1 (.t 30) (.t 31)), .mk none none (.store 1 (.t 41) (.t 40))]) (.skip)))))
 (.reg [3, 4, 5, 12, 13, 14, 20, 21, 22] [O 42 (.bin .add (.t 22) (.c (.int .i64 1))), O 22 (.mv (.t 42))])))
@[simp high] theorem vc_c9_l2 {C : Ctx} {Φ : List (En C.P)} {rs : List RV} {n : Nat} {k : List CItem} {st : St} : vc C Φ rs (n + 1) (.code c9_l2 :: k) st = vc C Φ rs (n + 1) (.code (.seq (.reg [3, 4, 5, 12, 13, 14, 20, 21, 22, 23] [O 23 (.bin .lss (.t 22) (.t 21))])
 (.seq (.cond (.t 23) (.skip) (.exit 2))
 (.seq (.block 3 (.seq (.reg [3, 4, 5, 8, 12, 13, 14, 20, 21, 22] [O 24 (.ia 1 (.t 20) (.t 22)), O 25 (.load none (.t 24)), O 8 (.mv (.t 25))])
 (.seq (.reg [3, 4, 5, 8, 12, 13, 14, 20, 21, 22, 29] [O 26 (.mv (.t 8)), O 27 (.mv (.t 5)), O 28 (.bin .sub (.t 27) (.c (.int .i64 1))), O 29 (.call 22 [(.t 26), (.c (.int .i64 0)), (.t 28)])])
 (.cond (.t 29) (.regd [3, 4, 5, 12, 13, 14, 20, 21, 22] [0, 1, 2, 3, 4, 5, 6, 7, 8, 9, 10, 11, 12] [0, 0, 0, 0, 12, 28, 0, 0, 192, 448, 1020, 2047, 4095] [0, 0, 0, 0, 0, 1, 0, 0, 0, 1, 0, 0, 2] [O 30 (.mv (.t 3)), O 31 (.mv (.t 5)), O 32 (.mv (.t 3)), O 33 (.mv (.t 5)), O 34 (.ia 1 (.t 32) (.t 33)), O 35 (.load none (.t 34)), O 36 (.mv (.t 3)), O 37 (.mv (.t 8)), O 38 (.ia 1 (.t 36) (.t 37)), O 39 (.load none (.t 38)), O 40 (.mx true (.t 35) (.t 39)), O 41 (.ia 1 (.t 30) (.t 31)), .mk none none (.store 1 (.t 41) (.t 40))]) (.skip)))))
 (.reg [3, 4, 5, 12, 13, 14, 20, 21, 22] [O 42 (.bin .add (.t 22) (.c (.int .i64 1))), O 22 (.mv (.t 42))])))) :: k) st := rfl
def c9_l0 : CC :=
 .seq (.reg [3, 4, 12, 13, 14, 15] [O 15 (.bin .lss (.t 14) (.t 13))])
 (.seq (.cond (.t 15) (.skip) (.exit 0))
 (.seq (.block 1 (.seq (.reg [3, 4, 5, 6, 12, 13, 14] [O 16 (.mv (.t 14)), O 17 (.ia 6 (.t 12) (.t 14)), O 18 (.load (some 6) (.t 17)), O 6 (.alloc [(.int .i64 0), .sl 1 [], (.str []), .sl 5 [], .sl 1 [], .sl 1 []]), O 5 (.mv (.t 16)), .mk none none (.store 6 (.t 6) (.t 18))])
 (.seq (.seq (.reg [3, 4, 5, 12, 13, 14, 20, 21, 22] [O 19 (.fa 4 (.t 6)), O 20 (.load none (.t 19)), O 21 (.lenl (.t 20)), O 22 (.mv (.c (.int .i64 0)))])
 (.block 2 (.loop c9_l2)))
 (.seq (.reg [3, 4, 5, 12, 13, 14] [O 43 (.mv (.t 3)), O 44 (.mv (.t 5)), O 45 (.ia 1 (.t 43) (.t 44)), O 46 (.load none (.t 45)), O 47 (.bin .add (.t 46) (.c (.int .i64 1))), O 48 (.ia 1 (.t 43) (.t 44)), .mk none none (.store 1 (.t 48) (.t 47))])
 (.reg [3, 4, 12, 13, 14] [O 49 (.mv (.t 4)), O 50 (.mv (.t 3)), O 51 (.mv (.t 5)), O 52 (.ia 1 (.t 50) (.t 51)), O 53 (.load none (.t 52)), O 54 (.mx true (.t 49) (.t 53)), O 4 (.mv (.t 54))])))))
 (.reg [3, 4, 12, 13, 14] [O 55 (.bin .add (.t 14) (.c (.int .i64 1))), O 14 (.mv (.t 55))])))
@[simp high] theorem vc_c9_l0 {C : Ctx} {Φ : List (En C.P)} {rs : List RV} {n : Nat} {k : List CItem} {st : St} : vc C Φ rs (n + 1) (.code c9_l0 :: k) st = vc C Φ rs (n + 1) (.code (.seq (.reg [3, 4, 12, 13, 14, 15] [O 15 (.bin .lss (.t 14) (.t 13))])
 (.seq (.cond (.t 15) (.skip) (.exit 0))
 (.seq (.block 1 (.seq (.reg [3, 4, 5, 6, 12, 13, 14] [O 16 (.mv (.t 14)), O 17 (.ia 6 (.t 12) (.t 14)), O 18 (.load (some 6) (.t 17)), O 6 (.alloc [(.int .i64 0), .sl 1 [], (.str []), .sl 5 [], .sl 1 [], .sl 1 []]), O 5 (.mv (.t 16)), .mk none none (.store 6 (.t 6) (.t 18))])
 (.seq (.seq (.reg [3, 4, 5, 12, 13, 14, 20, 21, 22] [O 19 (.fa 4 (.t 6)), O 20 (.load none (.t 19)), O 21 (.lenl (.t 20)), O 22 (.mv (.c (.int .i64 0)))])
 (.block 2 (.loop c9_l2)))
 (.seq (.reg [3, 4, 5, 12, 13, 14] [O 43 (.mv (.t 3)), O 44 (.mv (.t 5)), O 45 (.ia 1 (.t 43) (.t 44)), O 46 (.load none (.t 45)), O 47 (.bin .add (.t 46) (.c (.int .i64 1))), O 48 (.ia 1 (.t 43) (.t 44)), .mk none none (.store 1 (.t 48) (.t 47))])
 (.reg [3, 4, 12, 13, 14] [O 49 (.mv (.t 4)), O 50 (.mv (.t 3)), O 51 (.mv (.t 5)), O 52 (.ia 1 (.t 50) (.t 51)), O 53 (.load none (.t 52)), O 54 (.mx true (.t 49) (.t 53)), O 4 (.mv (.t 54))])))))
 (.reg [3, 4, 12, 13, 14] [O 55 (.bin .add (.t 14) (.c (.int .i64 1))), O 14 (.mv (.t 55))])))) :: k) st := rfl
/- loop.example/portolan/impl.RouteDepth params 1 results [.t 2] ntmps 57 -/
def c9 : CC :=
 .seq (.reg [0] [O 2 (.mv (.c (.int .i64 0)))])
 (.seq (.reg [0, 3] [O 9 (.mv (.t 0)), O 10 (.lenl (.t 9)), O 11 (.mks 1 [(.int .i64 0)] (.t 10)), O 3 (.mv (.t 11))])
 (.seq (.reg [0, 3, 4] [O 4 (.mv (.c (.int .i64 0)))])
 (.seq (.seq (.reg [3, 4, 12, 13, 14] [O 12 (.mv (.t 0)), O 13 (.lenl (.t 12)), O 14 (.mv (.c (.int .i64 0)))])
 (.block 0 (.loop c9_l0)))
 (.seq (.reg [2] [O 56 (.mv (.t 4)), O 2 (.mv (.t 56))])
 (.ret)))))
/- loop.example/portolan/laws.szStep params 2 results [.t 4] ntmps 37 -/
def c19 : CC :=
 .seq (.reg [1, 2] [O 2 (.boxi 6 (.t 0)), O 4 (.mv (.c (.int .i64 0)))])
 (.seq (.reg [1, 2] [O 5 (.fa 1 (.t 2)), O 6 (.load none (.t 5)), O 7 (.mv (.t 1)), O 8 (.call 36 [(.t 6), (.t 7)]), O 1 (.mv (.t 8))])
 (.seq (.seq (.reg [1, 2, 10] [O 9 (.mv (.t 1)), O 10 (.bin .lss (.t 9) (.c (.int .i64 0)))])
 (.cond (.t 10) (.seq (.reg [4] [O 4 (.mv (.c (.int .i64 (-1))))])
 (.ret)) (.skip)))
 (.seq (.reg [1, 2] [O 11 (.mv (.t 1)), O 12 (.fa 2 (.t 2)), O 13 (.load none (.t 12)), O 14 (.lens (.t 13)), O 15 (.bin .sub (.t 11) (.t 14)), O 1 (.mv (.t 15))])
 (.seq (.seq (.reg [1, 2, 17] [O 16 (.mv (.t 1)), O 17 (.bin .lss (.t 16) (.c (.int .i64 0)))])
 (.cond (.t 17) (.seq (.reg [4] [O 4 (.mv (.c (.int .i64 (-1))))])
 (.ret)) (.skip)))
 (.seq (.reg [1, 2] [O 18 (.fa 3 (.t 2)), O 19 (.load none (.t 18)), O 20 (.mv (.t 1)), O 21 (.call 37 [(.t 19), (.t 20)]), O 1 (.mv (.t 21))])
 (.seq (.seq (.reg [1, 2, 23] [O 22 (.mv (.t 1)), O 23 (.bin .lss (.t 22) (.c (.int .i64 0)))])
 (.cond (.t 23) (.seq (.reg [4] [O 4 (.mv (.c (.int .i64 (-1))))])
 (.ret)) (.skip)))
 (.seq (.reg [1, 2] [O 24 (.fa 4 (.t 2)), O 25 (.load none (.t 24)), O 26 (.mv (.t 1)), O 27 (.call 38 [(.t 25), (.t 26)]), O 1 (.mv (.t 27))])
 (.seq (.seq (.reg [1, 2, 29] [O 28 (.mv (.t 1)), O 29 (.bin .lss (.t 28) (.c (.int .i64 0)))])
 (.cond (.t 29) (.seq (.reg [4] [O 4 (.mv (.c (.int .i64 (-1))))])
 (.ret)) (.skip)))
 (.seq (.reg [1] [O 30 (.fa 5 (.t 2)), O 31 (.load none (.t 30)), O 32 (.mv (.t 1)), O 33 (.call 36 [(.t 31), (.t 32)]), O 1 (.mv (.t 33))])
 (.seq (.seq (.reg [1, 35] [O 34 (.mv (.t 1)), O 35 (.bin .lss (.t 34) (.c (.int .i64 0)))])
 (.cond (.t 35) (.seq (.reg [4] [O 4 (.mv (.c (.int .i64 (-1))))])
 (.ret)) (.skip)))
 (.seq (.reg [4] [O 36 (.mv (.t 1)), O 4 (.mv (.t 36))])
 (.ret))))))))))))
/- loop.example/portolan/spec.l1In params 3 results [.t 6] ntmps 15 -/
def c20 : CC :=
 .seq (.reg [0, 1, 2] [O 6 (.mv (.c (.bool false)))])
 (.seq (.reg [6] [O 7 (.mv (.t 0)), O 8 (.mv (.t 1)), O 9 (.bin .geq (.t 7) (.t 8)), O 10 (.mv (.t 9)), .mk (some 11) (some (10, true)) (.mv (.t 0)), .mk (some 12) (some (10, true)) (.mv (.t 2)), .mk (some 13) (some (10, true)) (.bin .leq (.t 11) (.t 12)), O 14 (.pick (.t 10) (.t 13) (.c (.bool false))), O 6 (.mv (.t 14))])
 (.ret))
/- loop.example/portolan/laws.toStep params 1 results [.c 2 (some 6)] ntmps 27 -/
def c21 : CC :=
 .seq (.reg [1, 2] [O 1 (.boxi 6 (.t 0)), O 2 (.alloc [(.int .i64 0), .sl 1 [], (.str []), .sl 5 [], .sl 1 [], .sl 1 []])])
 (.seq (.reg [1, 2, 3] [O 3 (.alloc [(.int .i64 0), .sl 1 [], (.str []), .sl 5 [], .sl 1 [], .sl 1 []])])
 (.seq (.reg [1, 2, 3] [O 4 (.fa 0 (.t 1)), O 5 (.load none (.t 4)), O 6 (.fa 0 (.t 3)), .mk none none (.store 1 (.t 6) (.t 5))])
 (.seq (.reg [1, 2, 3] [O 7 (.fa 1 (.t 1)), O 8 (.load none (.t 7)), O 9 (.call 39 [(.t 8)]), O 10 (.fa 1 (.t 3)), .mk none none (.store 1 (.t 10) (.t 9))])
 (.seq (.reg [1, 2, 3] [O 11 (.fa 2 (.t 1)), O 12 (.load none (.t 11)), O 13 (.fa 2 (.t 3)), .mk none none (.store 1 (.t 13) (.t 12))])
 (.seq (.reg [1, 2, 3] [O 14 (.fa 3 (.t 1)), O 15 (.load none (.t 14)), O 16 (.call 40 [(.t 15)]), O 17 (.fa 3 (.t 3)), .mk none none (.store 1 (.t 17) (.t 16))])
 (.seq (.reg [1, 2, 3] [O 18 (.fa 4 (.t 1)), O 19 (.load none (.t 18)), O 20 (.call 41 [(.t 19)]), O 21 (.fa 4 (.t 3)), .mk none none (.store 1 (.t 21) (.t 20))])
 (.seq (.reg [2, 3] [O 22 (.fa 5 (.t 1)), O 23 (.load none (.t 22)), O 24 (.call 39 [(.t 23)]), O 25 (.fa 5 (.t 3)), .mk none none (.store 1 (.t 25) (.t 24))])
 (.seq (.reg [2] [O 26 (.load (some 6) (.t 3)), .mk none none (.store 6 (.t 2) (.t 26))])
 (.ret)))))))))
/- loop.example/portolan/impl.in params 3 results [.t 6] ntmps 15 -/
def c22 : CC :=
 .seq (.reg [0, 1, 2] [O 6 (.mv (.c (.bool false)))])
 (.seq (.reg [6] [O 7 (.mv (.t 0)), O 8 (.mv (.t 1)), O 9 (.bin .geq (.t 7) (.t 8)), O 10 (.mv (.t 9)), .mk (some 11) (some (10, true)) (.mv (.t 0)), .mk (some 12) (some (10, true)) (.mv (.t 2)), .mk (some 13) (some (10, true)) (.bin .leq (.t 11) (.t 12)), O 14 (.pick (.t 10) (.t 13) (.c (.bool false))), O 6 (.mv (.t 14))])
 (.ret))
/- loop.example/portolan/laws.eqStep params 2 results [.t 4] ntmps 39 -/
def c23 : CC :=
 .seq (.reg [2, 3] [O 2 (.boxi 6 (.t 0)), O 3 (.boxi 6 (.t 1)), O 4 (.mv (.c (.bool false)))])
 (.seq (.seq (.reg [2, 3, 9] [O 5 (.fa 0 (.t 2)), O 6 (.load none (.t 5)), O 7 (.fa 0 (.t 3)), O 8 (.load none (.t 7)), O 9 (.bin .neq (.t 6) (.t 8))])
 (.cond (.t 9) (.seq (.reg [4] [O 4 (.mv (.c (.bool false)))])
 (.ret)) (.skip)))
 (.seq (.seq (.reg [2, 3, 15] [O 10 (.fa 1 (.t 2)), O 11 (.load none (.t 10)), O 12 (.fa 1 (.t 3)), O 13 (.load none (.t 12)), O 14 (.call 42 [(.t 11), (.t 13)]), O 15 (.not (.t 14))])
 (.cond (.t 15) (.seq (.reg [4] [O 4 (.mv (.c (.bool false)))])
 (.ret)) (.skip)))
 (.seq (.seq (.reg [2, 3, 20] [O 16 (.fa 2 (.t 2)), O 17 (.load none (.t 16)), O 18 (.fa 2 (.t 3)), O 19 (.load none (.t 18)), O 20 (.bin .neq (.t 17) (.t 19))])
 (.cond (.t 20) (.seq (.reg [4] [O 4 (.mv (.c (.bool false)))])
 (.ret)) (.skip)))
 (.seq (.seq (.reg [2, 3, 26] [O 21 (.fa 3 (.t 2)), O 22 (.load none (.t 21)), O 23 (.fa 3 (.t 3)), O 24 (.load none (.t 23)), O 25 (.call 43 [(.t 22), (.t 24)]), O 26 (.not (.t 25))])
 (.cond (.t 26) (.seq (.reg [4] [O 4 (.mv (.c (.bool false)))])
 (.ret)) (.skip)))
 (.seq (.seq (.reg [2, 3, 32] [O 27 (.fa 4 (.t 2)), O 28 (.load none (.t 27)), O 29 (.fa 4 (.t 3)), O 30 (.load none (.t 29)), O 31 (.call 13 [(.t 28), (.t 30)]), O 32 (.not (.t 31))])
 (.cond (.t 32) (.seq (.reg [4] [O 4 (.mv (.c (.bool false)))])
 (.ret)) (.skip)))
 (.seq (.seq (.reg [38] [O 33 (.fa 5 (.t 2)), O 34 (.load none (.t 33)), O 35 (.fa 5 (.t 3)), O 36 (.load none (.t 35)), O 37 (.call 42 [(.t 34), (.t 36)]), O 38 (.not (.t 37))])
 (.cond (.t 38) (.seq (.reg [4] [O 4 (.mv (.c (.bool false)))])
 (.ret)) (.skip)))
 (.seq (.reg [4] [O 4 (.mv (.c (.bool true)))])
 (.ret))))))))
/- loop.example/portolan/laws.szSel params 2 results [.t 4] ntmps 26 -/
def c50 : CC :=
 .seq (.reg [1, 2] [O 2 (.boxi 5 (.t 0)), O 4 (.mv (.c (.int .i64 0)))])
 (.seq (.reg [1, 2] [O 5 (.mv (.t 1)), O 6 (.fa 0 (.t 2)), O 7 (.load none (.t 6)), O 8 (.lens (.t 7)), O 9 (.bin .sub (.t 5) (.t 8)), O 1 (.mv (.t 9))])
 (.seq (.seq (.reg [1, 2, 11] [O 10 (.mv (.t 1)), O 11 (.bin .lss (.t 10) (.c (.int .i64 0)))])
 (.cond (.t 11) (.seq (.reg [4] [O 4 (.mv (.c (.int .i64 (-1))))])
 (.ret)) (.skip)))
 (.seq (.reg [1, 2] [O 12 (.mv (.t 1)), O 13 (.fa 1 (.t 2)), O 14 (.load none (.t 13)), O 15 (.lens (.t 14)), O 16 (.bin .sub (.t 12) (.t 15)), O 1 (.mv (.t 16))])
 (.seq (.seq (.reg [1, 2, 18] [O 17 (.mv (.t 1)), O 18 (.bin .lss (.t 17) (.c (.int .i64 0)))])
 (.cond (.t 18) (.seq (.reg [4] [O 4 (.mv (.c (.int .i64 (-1))))])
 (.ret)) (.skip)))
 (.seq (.reg [1] [O 19 (.fa 4 (.t 2)), O 20 (.load none (.t 19)), O 21 (.mv (.t 1)), O 22 (.call 37 [(.t 20), (.t 21)]), O 1 (.mv (.t 22))])
 (.seq (.seq (.reg [1, 24] [O 23 (.mv (.t 1)), O 24 (.bin .lss (.t 23) (.c (.int .i64 0)))])
 (.cond (.t 24) (.seq (.reg [4] [O 4 (.mv (.c (.int .i64 (-1))))])
 (.ret)) (.skip)))
 (.seq (.reg [4] [O 25 (.mv (.t 1)), O 4 (.mv (.t 25))])
 (.ret))))))))
/- loop.example/portolan/laws.toSel params 1 results [.c 2 (some 5)] ntmps 21 -/
def c51 : CC :=
 .seq (.reg [1, 2] [O 1 (.boxi 5 (.t 0)), O 2 (.alloc [(.str []), (.str []), (.bool false), (.int .i64 0), .sl 5 []])])
 (.seq (.reg [1, 2, 3] [O 3 (.alloc [(.str []), (.str []), (.bool false), (.int .i64 0), .sl 5 []])])
 (.seq (.reg [1, 2, 3] [O 4 (.fa 0 (.t 1)), O 5 (.load none (.t 4)), O 6 (.fa 0 (.t 3)), .mk none none (.store 1 (.t 6) (.t 5))])
 (.seq (.reg [1, 2, 3] [O 7 (.fa 1 (.t 1)), O 8 (.load none (.t 7)), O 9 (.fa 1 (.t 3)), .mk none none (.store 1 (.t 9) (.t 8))])
 (.seq (.reg [1, 2, 3] [O 10 (.fa 2 (.t 1)), O 11 (.load none (.t 10)), O 12 (.fa 2 (.t 3)), .mk none none (.store 1 (.t 12) (.t 11))])
 (.seq (.reg [1, 2, 3] [O 13 (.fa 3 (.t 1)), O 14 (.load none (.t 13)), O 15 (.fa 3 (.t 3)), .mk none none (.store 1 (.t 15) (.t 14))])
 (.seq (.reg [2, 3] [O 16 (.fa 4 (.t 1)), O 17 (.load none (.t 16)), O 18 (.call 40 [(.t 17)]), O 19 (.fa 4 (.t 3)), .mk none none (.store 1 (.t 19) (.t 18))])
 (.seq (.reg [2] [O 20 (.load (some 5) (.t 3)), .mk none none (.store 5 (.t 2) (.t 20))])
 (.ret))))))))
/- loop.example/portolan/laws.eqSel params 2 results [.t 4] ntmps 31 -/
def c52 : CC :=
 .seq (.reg [2, 3] [O 2 (.boxi 5 (.t 0)), O 3 (.boxi 5 (.t 1)), O 4 (.mv (.c (.bool false)))])
 (.seq (.seq (.reg [2, 3, 9] [O 5 (.fa 0 (.t 2)), O 6 (.load none (.t 5)), O 7 (.fa 0 (.t 3)), O 8 (.load none (.t 7)), O 9 (.bin .neq (.t 6) (.t 8))])
 (.cond (.t 9) (.seq (.reg [4] [O 4 (.mv (.c (.bool false)))])
 (.ret)) (.skip)))
 (.seq (.seq (.reg [2, 3, 14] [O 10 (.fa 1 (.t 2)), O 11 (.load none (.t 10)), O 12 (.fa 1 (.t 3)), O 13 (.load none (.t 12)), O 14 (.bin .neq (.t 11) (.t 13))])
 (.cond (.t 14) (.seq (.reg [4] [O 4 (.mv (.c (.bool false)))])
 (.ret)) (.skip)))
 (.seq (.seq (.reg [2, 3, 19] [O 15 (.fa 2 (.t 2)), O 16 (.load none (.t 15)), O 17 (.fa 2 (.t 3)), O 18 (.load none (.t 17)), O 19 (.beq .neq (.t 16) (.t 18))])
 (.cond (.t 19) (.seq (.reg [4] [O 4 (.mv (.c (.bool false)))])
 (.ret)) (.skip)))
 (.seq (.seq (.reg [2, 3, 24] [O 20 (.fa 3 (.t 2)), O 21 (.load none (.t 20)), O 22 (.fa 3 (.t 3)), O 23 (.load none (.t 22)), O 24 (.bin .neq (.t 21) (.t 23))])
 (.cond (.t 24) (.seq (.reg [4] [O 4 (.mv (.c (.bool false)))])
 (.ret)) (.skip)))
 (.seq (.seq (.reg [30] [O 25 (.fa 4 (.t 2)), O 26 (.load none (.t 25)), O 27 (.fa 4 (.t 3)), O 28 (.load none (.t 27)), O 29 (.call 43 [(.t 26), (.t 28)]), O 30 (.not (.t 29))])
 (.cond (.t 30) (.seq (.reg [4] [O 4 (.mv (.c (.bool false)))])
 (.ret)) (.skip)))
 (.seq (.reg [4] [O 4 (.mv (.c (.bool true)))])
 (.ret)))))))
theorem mix : Try.prog.follows .mixedOrders = true := by kernel_rfl
theorem ok3 : FnOk Try.prog 3 (c3) 1 [.t 2] := ⟨⟨Try.f3, Try.func3, by kernel_rfl⟩, Try.call3, mix⟩
theorem ok6 : FnOk Try.prog 6 (cSzS 6 19) 2 [.t 4] := ⟨⟨Try.f6, Try.func6, by kernel_rfl⟩, Try.call6, mix⟩
theorem ok7 : FnOk Try.prog 7 (c7) 1 [.t 2] := ⟨⟨Try.f7, Try.func7, by kernel_rfl⟩, Try.call7, mix⟩
theorem ok8 : FnOk Try.prog 8 (cToS 6 22 [.int .i64 0, .sl 1 [], .str [], .sl 5 [], .sl 1 [], .sl 1 []] 21) 1 [.t 2] := ⟨⟨Try.f8, Try.func8, by kernel_rfl⟩, Try.call8, mix⟩
theorem ok9 : FnOk Try.prog 9 (c9) 1 [.t 2] := ⟨⟨Try.f9, Try.func9, by kernel_rfl⟩, Try.call9, mix⟩
theorem ok10 : FnOk Try.prog 10 (cEqS 6 23) 2 [.t 4] := ⟨⟨Try.f10, Try.func10, by kernel_rfl⟩, Try.call10, mix⟩
theorem ok13 : FnOk Try.prog 13 (cEqP) 2 [.t 4] := ⟨⟨Try.f13, Try.func13, by kernel_rfl⟩, Try.call13, mix⟩
theorem ok19 : FnOk Try.prog 19 (c19) 2 [.t 4] := ⟨⟨Try.f19, Try.func19, by kernel_rfl⟩, Try.call19, mix⟩
theorem ok20 : FnOk Try.prog 20 (c20) 3 [.t 6] := ⟨⟨Try.f20, Try.func20, by kernel_rfl⟩, Try.call20, mix⟩
theorem ok21 : FnOk Try.prog 21 (c21) 1 [.c 2 (some 6)] := ⟨⟨Try.f21, Try.func21, by kernel_rfl⟩, Try.call21, mix⟩
theorem ok22 : FnOk Try.prog 22 (c22) 3 [.t 6] := ⟨⟨Try.f22, Try.func22, by kernel_rfl⟩, Try.call22, mix⟩
theorem ok23 : FnOk Try.prog 23 (c23) 2 [.t 4] := ⟨⟨Try.f23, Try.func23, by kernel_rfl⟩, Try.call23, mix⟩
theorem ok36 : FnOk Try.prog 36 (cSzStr) 2 [.t 4] := ⟨⟨Try.f36, Try.func36, by kernel_rfl⟩, Try.call36, mix⟩
theorem ok37 : FnOk Try.prog 37 (cSzS 5 50) 2 [.t 4] := ⟨⟨Try.f37, Try.func37, by kernel_rfl⟩, Try.call37, mix⟩
theorem ok38 : FnOk Try.prog 38 (cSzI) 2 [.t 4] := ⟨⟨Try.f38, Try.func38, by kernel_rfl⟩, Try.call38, mix⟩
theorem ok39 : FnOk Try.prog 39 (cToP [.str []]) 1 [.t 2] := ⟨⟨Try.f39, Try.func39, by kernel_rfl⟩, Try.call39, mix⟩
theorem ok40 : FnOk Try.prog 40 (cToS 5 22 [.str [], .str [], .bool false, .int .i64 0, .sl 5 []] 51) 1 [.t 2] := ⟨⟨Try.f40, Try.func40, by kernel_rfl⟩, Try.call40, mix⟩
theorem ok41 : FnOk Try.prog 41 (cToP [.int .i64 0]) 1 [.t 2] := ⟨⟨Try.f41, Try.func41, by kernel_rfl⟩, Try.call41, mix⟩
theorem ok42 : FnOk Try.prog 42 (cEqP) 2 [.t 4] := ⟨⟨Try.f42, Try.func42, by kernel_rfl⟩, Try.call42, mix⟩
theorem ok43 : FnOk Try.prog 43 (cEqS 5 52) 2 [.t 4] := ⟨⟨Try.f43, Try.func43, by kernel_rfl⟩, Try.call43, mix⟩
theorem ok50 : FnOk Try.prog 50 (c50) 2 [.t 4] := ⟨⟨Try.f50, Try.func50, by kernel_rfl⟩, Try.call50, mix⟩
theorem ok51 : FnOk Try.prog 51 (c51) 1 [.c 2 (some 5)] := ⟨⟨Try.f51, Try.func51, by kernel_rfl⟩, Try.call51, mix⟩
theorem ok52 : FnOk Try.prog 52 (c52) 2 [.t 4] := ⟨⟨Try.f52, Try.func52, by kernel_rfl⟩, Try.call52, mix⟩
end Go.Fw
