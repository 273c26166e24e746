/- A part of the proof: what stands for the program, its functions, and what they come to. -/
import Derived.Test.YtokndaldhjmdeaaM2
set_option linter.all false
namespace Go.Fw
open Go
instance arN(n:Nat):OfNat Ar n:=⟨.t n⟩
abbrev kI(n:Int):Ar:=.c (.int .i64 n)
abbrev kT:Ar:=.c (.bool true)
abbrev kF:Ar:=.c (.bool false)
abbrev mO(d:Nat)(a:Ar):COp:=O d (.mv a)
abbrev lO(d:Nat)(a:Ar):COp:=O d (.load none a)
abbrev fO(d f:Nat)(a:Ar):COp:=O d (.fa f a)
abbrev iO(d n:Nat)(a b:Ar):COp:=O d (.ia n a b)
abbrev nO(d:Nat)(a:Ar):COp:=O d (.lenl a)
abbrev bO(d:Nat)(o:BinOp)(a b:Ar):COp:=O d (.bin o a b)
abbrev cO(d f:Nat)(l:List Ar):COp:=O d (.call f l)
abbrev gT(d t:Nat)(k:K):COp:=.mk (some d) (some (t,true)) k
abbrev gF(d t:Nat)(k:K):COp:=.mk (some d) (some (t,false)) k
abbrev sO(k:K):COp:=.mk none none k
abbrev kS:Option (Ty×OS):=some (.str,.no)
abbrev kN:Option (Ty×OS):=some ((.int .i64),.no)
abbrev kB:Option (Ty×OS):=some (.bool,.no)
set_option maxRecDepth 10000
abbrev kb0:BT:=⟨some .Stp,[kN,some ((.lst .str),.no),kS,some ((.lst (.nm .Sel)),.no),some ((.lst (.int .i64)),.no),some ((.lst .str),.no)]⟩
abbrev kb2:BT:=⟨some .Sel,[kS,kS,kB,kN,some ((.lst (.nm .Sel)),.no)]⟩
def c3:CC:=
 .seq (.reg [0] [mO 2 kF])
 (.seq (.reg [0,3] [mO 3 (kI 1048576)])
 (.seq (.reg [0,3] [mO 11 0,mO 12 3,(cO 13 4 [11,12]),mO 3 13])
 (.seq (.seq (.reg [0,15] [mO 14 3,bO 15 .lss 14 (kI 0)])
 (.cond 15 (.seq (.reg [2] [mO 2 kT])
 .ret) .skip))
 (.seq (.reg [0,4] [mO 16 0,(cO 17 6 [16]),(cO 18 5 [17]),mO 4 18])
 (.seq (.reg [0,4,5] [mO 19 0,(cO 20 6 [19]),mO 5 20])
 (.seq (.reg [0,4,5,6] [mO 21 5,(cO 22 7 [21]),mO 6 22])
 (.seq (.seq (.reg [0,4,5,6,26] [mO 23 6,mO 24 4,(cO 25 8 [23,24]),O 26 (.not 25)])
 (.cond 26 (.seq (.reg [2] [mO 2 kF])
 .ret) .skip))
 (.seq (.seq (.reg [0,4,5,6,31] [mO 27 5,mO 28 0,(cO 29 6 [28]),(cO 30 9 [27,29]),O 31 (.not 30)])
 (.cond 31 (.seq (.reg [2] [mO 2 kF])
 .ret) .skip))
 (.seq (.reg [0,4,5,6,7] [mO 7 (kI 1)])
 (.seq (.reg [0,4,6,7] [mO 32 5,mO 33 7,(cO 34 10 [32,33]),mO 7 34])
 (.seq (.seq (.reg [0,4,6,42] [mO 35 7,bO 36 .lss 35 (kI 0),mO 37 36,gF 38 37 (.mv 6),gF 39 37 (.mv 4),gF 40 37 (.call 8 [38,39]),gF 41 37 (.not 40),O 42 (.pick 37 kT 41)])
 (.cond 42 (.seq (.reg [2] [mO 2 kF])
 .ret) .skip))
 (.seq (.reg [0,4,6,8] [mO 8 (kI 1)])
 (.seq (.reg [0,4,6,8] [mO 43 6,mO 44 8,(cO 45 11 [43,44]),mO 8 45])
 (.seq (.reg [0,4,6,8,9] [mO 9 (kI 1)])
 (.seq (.reg [0,4,6,8,9] [mO 46 6,mO 47 9,(cO 48 12 [46,47]),mO 9 48])
 (.seq (.seq (.reg [0,4,6,8,9,50] [mO 49 9,bO 50 .lss 49 (kI 0)])
 (.cond 50 (.seq (.reg [2] [mO 2 kF])
 .ret) .skip))
 (.seq (.seq (.reg [0,4,6,8,53] [mO 51 9,mO 52 8,bO 53 .neq 51 52])
 (.cond 53 (.seq (.reg [2] [mO 2 kF])
 .ret) .skip))
 (.seq (.reg [4,6,8,10] [mO 54 0,(cO 55 6 [54]),(cO 56 7 [55]),mO 10 56])
 (.seq (.seq (.reg [6,8,60] [mO 57 10,mO 58 4,(cO 59 8 [57,58]),O 60 (.not 59)])
 (.cond 60 (.seq (.reg [2] [mO 2 kF])
 .ret) .skip))
 (.seq (.reg [6,8,9] [mO 9 (kI 1)])
 (.seq (.reg [8,9] [mO 61 6,mO 62 9,(cO 63 12 [61,62]),mO 9 63])
 (.seq (.seq (.reg [8,9,65] [mO 64 9,bO 65 .lss 64 (kI 0)])
 (.cond 65 (.seq (.reg [2] [mO 2 kF])
 .ret) .skip))
 (.seq (.seq (.reg [68] [mO 66 9,mO 67 8,bO 68 .neq 66 67])
 (.cond 68 (.seq (.reg [2] [mO 2 kF])
 .ret) .skip))
 (.seq (.reg [2] [mO 2 kT])
 .ret))))))))))))))))))))))))
def cy3:List (Nat×An):=[(2,.t .bool),(3,.t (.int .i64)),(4,.t (.lst (.int .i64))),(6,.t (.lst (.int .i64))),(7,.t (.int .i64)),(42,.t .bool),(8,.t (.int .i64)),(9,.t (.int .i64))]
def c4:CC:=
 .seq (.reg [0,1] [mO 4 (kI 0)])
 (.seq (.reg [0,1] [mO 6 1,mO 7 0,nO 8 7,bO 9 .sub 6 8,mO 1 9])
 (.seq (.seq (.reg [0,1,11] [mO 10 1,bO 11 .lss 10 (kI 0)])
 (.cond 11 (.seq (.reg [4] [O 4 (.mv (.c (.int .i64 (-1))))])
 .ret) .skip))
 (.seq (.seq (.reg [0,1,5] [mO 5 (kI 0)])
 (.block 0 (.lp true 0 [1,5] [0] (.seq (.seq (.reg [0,1,5,15] [mO 12 5,mO 13 0,nO 14 13,bO 15 .lss 12 14])
 (.cond 15 .skip (.exit 0)))
 (.seq (.block 1 (.seq (.reg [0,1,5] [mO 18 0,mO 19 5,iO 20 6 18 19,O 21 (.load (some 6) 20),mO 22 1,(cO 23 13 [21,22]),mO 1 23])
 (.seq (.reg [0,1,5,25] [mO 24 1,bO 25 .lss 24 (kI 0)])
 (.cond 25 (.seq (.reg [4] [O 4 (.mv (.c (.int .i64 (-1))))])
 .ret) .skip))))
 (.reg [0,1,5] [mO 16 5,bO 17 .add 16 (kI 1),mO 5 17]))))))
 (.seq (.reg [4] [mO 26 1,mO 4 26])
 .ret))))
def cy4:List (Nat×An):=[(4,.t (.int .i64)),(1,.t (.int .i64)),(5,.t (.int .i64)),(21,.t (.nm .Stp))]
def c5:CC:=
 .seq (.reg [0] [O 2 (.mv (.c (.sl 1 [])))])
 (.seq (.reg [0,3] [O 6 (.bsl0),mO 3 6])
 (.seq (.seq (.reg [0,3,4] [mO 4 (kI 0)])
 (.block 0 (.lp false 0 [3,4] [0] (.seq (.seq (.reg [0,3,4,10] [mO 7 4,mO 8 0,nO 9 8,bO 10 .lss 7 9])
 (.cond 10 .skip (.exit 0)))
 (.seq (.block 1 (.seq (.reg [0,3,4,5] [mO 5 (kI 0)])
 (.seq (.block 2 (.lp false 2 [5] [0,3,4] (.seq (.seq (.regd [0,3,4,5,28] (zdz 0 16) [0,0,2,7,15,31,31,127,255,31,31,1567,3615,7711,16383,32767] [0,0,0,0,0,0,0,0,1,0,0,0,0,1,0,0] [mO 13 5,mO 14 3,nO 15 14,bO 16 .lss 13 15,mO 17 16,gT 18 17 (.mv 3),gT 19 17 (.mv 5),gT 20 17 (.ia 1 18 19),gT 21 17 (.load none 20),gT 22 17 (.mv 0),gT 23 17 (.mv 4),gT 24 17 (.ia 6 22 23),gT 25 17 (.fa 0 24),gT 26 17 (.load none 25),gT 27 17 (.bin .lss 21 26),O 28 (.pick 17 27 kF)])
 (.cond 28 .skip (.exit 2)))
 (.block 3 (.reg [0,3,4,5] [mO 29 5,bO 30 .add 29 (kI 1),mO 5 30])))))
 (.seq (.regd [0,3,4,5,46] (zdz 0 16) [0,0,2,7,15,31,31,127,255,31,31,1567,3615,7711,16383,32767] [0,0,0,0,0,0,0,0,1,0,0,0,0,1,0,0] [mO 31 5,mO 32 3,nO 33 32,bO 34 .eql 31 33,mO 35 34,gF 36 35 (.mv 3),gF 37 35 (.mv 5),gF 38 35 (.ia 1 36 37),gF 39 35 (.load none 38),gF 40 35 (.mv 0),gF 41 35 (.mv 4),gF 42 35 (.ia 6 40 41),gF 43 35 (.fa 0 42),gF 44 35 (.load none 43),gF 45 35 (.bin .neq 39 44),O 46 (.pick 35 kT 45)])
 (.jn false [3] [0,4] (.cond 46 (.regd [0,3,4] (zdz 0 17) [0,0,0,6,15,0,0,96,224,480,992,2047,0,0,12288,32767,65535] [0,0,0,0,3,0,0,0,0,1,0,3,0,0,0,3,0] [O 47 (.bsl0),mO 48 3,mO 49 5,O 50 (.slc 1 48 none (some 49)),O 51 (.app 1 47 50),mO 52 0,mO 53 4,iO 54 6 52 53,fO 55 0 54,lO 56 55,O 57 (.bsl 1 [56]),O 58 (.app 1 51 57),mO 59 3,mO 60 5,O 61 (.slc 1 59 (some 60) none),O 62 (.app 1 58 61),mO 3 62]) .skip))))))
 (.reg [0,3,4] [mO 11 4,bO 12 .add 11 (kI 1),mO 4 12]))))))
 (.seq (.reg [2] [mO 63 3,mO 2 63])
 .ret)))
def cy5:List (Nat×An):=[(2,.t (.lst (.int .i64))),(6,.t (.lst (.int .i64))),(3,.t (.lst (.int .i64))),(4,.t (.int .i64)),(5,.t (.int .i64)),(28,.t .bool),(46,.t .bool),(47,.t (.lst (.int .i64))),(51,.t (.lst (.int .i64))),(57,.t (.lst (.int .i64))),(58,.t (.lst (.int .i64))),(62,.t (.lst (.int .i64)))]
def c6:CC:=
 .seq (.reg [0] [O 2 (.mv (.c (.sl 6 [])))])
 (.seq (.reg [0,3] [mO 5 0,nO 6 5,O 7 (.mks 6 [(.int .i64 0),.e0,(.str []),.e0,.e0,.e0] 6),mO 3 7])
 (.seq (.seq (.reg [0,3,4] [mO 4 (kI 0)])
 (.block 0 (.lp false 0 [4] [0,3] (.seq (.seq (.reg [0,3,4,11] [mO 8 4,mO 9 0,nO 10 9,bO 11 .lss 8 10])
 (.cond 11 .skip (.exit 0)))
 (.seq (.block 1 (.reg [0,3,4] [mO 14 3,mO 15 4,mO 16 0,mO 17 4,iO 18 6 16 17,O 19 (.load (some 6) 18),(cO 20 14 [19]),iO 21 6 14 15,sO (.store 6 21 20)]))
 (.reg [0,3,4] [mO 12 4,bO 13 .add 12 (kI 1),mO 4 13]))))))
 (.seq (.reg [2] [mO 22 3,mO 2 22])
 .ret)))
def cy6:List (Nat×An):=[(2,.t (.lst (.nm .Stp))),(7,.o (.nm .Stp) (.at [(1,.no),(3,.all),(4,.no),(5,.no)])),(4,.t (.int .i64)),(19,.t (.nm .Stp))]
def c7:CC:=
 .seq (.reg [0] [O 2 (.mv (.c (.sl 1 [])))])
 (.seq (.reg [0,3] [O 3 (.mv (.c .e0))])
 (.seq (.seq (.reg [3,6,7,8] [mO 6 0,nO 7 6,mO 8 (kI 0)])
 (.block 0 (.lp false 0 [3,8] [6,7] (.seq (.reg [3,6,7,8,9] [bO 9 .lss 8 7])
 (.seq (.cond 9 .skip (.exit 0))
 (.seq (.block 1 (.seq (.reg [3,5,6,7,8] [iO 10 6 6 8,O 11 (.load (some 6) 10),O 5 (.alloc [(.int .i64 0),.e0,(.str []),.e0,.e0,.e0]),sO (.store 6 5 11)])
 (.frz 5 0 (.frz 5 0 (.reg [3,6,7,8] [mO 12 3,fO 13 0 5,lO 14 13,O 15 (.bsl 1 [14]),O 16 (.app 1 12 15),mO 3 16])))))
 (.reg [3,6,7,8] [bO 17 .add 8 (kI 1),mO 8 17])))))))
 (.seq (.reg [3] [mO 18 3,(cO 19 15 [18])])
 (.seq (.reg [2] [mO 20 3,(cO 21 17 [20]),(cO 22 16 [21]),mO 2 22])
 .ret))))
def cy7:List (Nat×An):=[(2,.t (.lst (.int .i64))),(3,.t (.lst (.int .i64))),(8,.t (.int .i64)),(11,.t (.nm .Stp)),(5,.cells kb0),(15,.t (.lst (.int .i64))),(16,.t (.lst (.int .i64)))]
def c8:CC:=
 .seq (.reg [0,1] [mO 4 kF])
 (.seq (.seq (.reg [0,1,10] [mO 6 0,nO 7 6,mO 8 1,nO 9 8,bO 10 .neq 7 9])
 (.cond 10 (.seq (.reg [4] [mO 4 kF])
 .ret) .skip))
 (.seq (.seq (.reg [0,1,5] [mO 5 (kI 0)])
 (.block 0 (.lp true 0 [5] [0,1] (.seq (.seq (.reg [0,1,5,14] [mO 11 5,mO 12 0,nO 13 12,bO 14 .lss 11 13])
 (.cond 14 .skip (.exit 0)))
 (.seq (.block 1 (.seq (.regd [0,1,5,25] (zdz 0 9) [0,0,3,7,0,0,48,112,255] [0,0,0,1,0,0,0,1,0] [mO 17 0,mO 18 5,iO 19 1 17 18,lO 20 19,mO 21 1,mO 22 5,iO 23 1 21 22,lO 24 23,bO 25 .neq 20 24])
 (.cond 25 (.seq (.reg [4] [mO 4 kF])
 .ret) .skip)))
 (.reg [0,1,5] [mO 15 5,bO 16 .add 15 (kI 1),mO 5 16]))))))
 (.seq (.reg [4] [mO 4 kT])
 .ret)))
def cy8:List (Nat×An):=[(4,.t .bool),(5,.t (.int .i64))]
def c9:CC:=
 .seq (.reg [0,1] [mO 4 kF])
 (.seq (.seq (.reg [0,1,10] [mO 6 0,nO 7 6,mO 8 1,nO 9 8,bO 10 .neq 7 9])
 (.cond 10 (.seq (.reg [4] [mO 4 kF])
 .ret) .skip))
 (.seq (.seq (.reg [0,1,5] [mO 5 (kI 0)])
 (.block 0 (.lp true 0 [5] [0,1] (.seq (.seq (.reg [0,1,5,14] [mO 11 5,mO 12 0,nO 13 12,bO 14 .lss 11 13])
 (.cond 14 .skip (.exit 0)))
 (.seq (.block 1 (.seq (.regd [0,1,5,26] (zdz 0 10) [0,0,3,7,0,0,48,112,255,511] [0,0,0,1,0,0,0,1,4,0] [mO 17 0,mO 18 5,iO 19 6 17 18,O 20 (.load (some 6) 19),mO 21 1,mO 22 5,iO 23 6 21 22,O 24 (.load (some 6) 23),(cO 25 18 [20,24]),O 26 (.not 25)])
 (.cond 26 (.seq (.reg [4] [mO 4 kF])
 .ret) .skip)))
 (.reg [0,1,5] [mO 15 5,bO 16 .add 15 (kI 1),mO 5 16]))))))
 (.seq (.reg [4] [mO 4 kT])
 .ret)))
def cy9:List (Nat×An):=[(4,.t .bool),(5,.t (.int .i64)),(20,.t (.nm .Stp)),(24,.t (.nm .Stp))]
def c10:CC:=
 .seq (.reg [0,1] [mO 4 (kI 0)])
 (.seq (.seq (.reg [0,1,5] [mO 5 (kI 0)])
 (.block 0 (.lp false 0 [1,5] [0] (.seq (.seq (.reg [0,1,5,9] [mO 6 5,mO 7 0,nO 8 7,bO 9 .lss 6 8])
 (.cond 9 .skip (.exit 0)))
 (.seq (.block 1 (.seq (.reg [0,1,5] [mO 12 0,mO 13 5,mO 14 1,iO 15 6 12 13,fO 16 0 15,sO (.store 1 16 14)])
 (.seq (.reg [0,1,5] [mO 17 1,bO 18 .add 17 (kI 1),mO 1 18])
 (.seq (.reg [0,1,5] [mO 19 0,mO 20 5,iO 21 6 19 20,fO 22 1 21,lO 23 22,mO 24 1,(cO 25 19 [23,24]),mO 1 25])
 (.seq (.reg [0,1,5] [mO 26 0,mO 27 5,mO 28 1,(cO 29 20 [28]),iO 30 6 26 27,fO 31 2 30,sO (.store 1 31 29)])
 (.seq (.reg [0,1,5] [mO 32 1,bO 33 .add 32 (kI 1),mO 1 33])
 (.seq (.reg [0,1,5] [mO 34 0,mO 35 5,iO 36 6 34 35,fO 37 3 36,lO 38 37,mO 39 1,(cO 40 21 [38,39]),mO 1 40])
 (.seq (.reg [0,1,5] [mO 41 0,mO 42 5,iO 43 6 41 42,fO 44 4 43,lO 45 44,mO 46 1,(cO 47 11 [45,46]),mO 1 47])
 (.reg [0,1,5] [mO 48 0,mO 49 5,iO 50 6 48 49,fO 51 5 50,lO 52 51,mO 53 1,(cO 54 19 [52,53]),mO 1 54])))))))))
 (.reg [0,1,5] [mO 10 5,bO 11 .add 10 (kI 1),mO 5 11]))))))
 (.seq (.reg [4] [mO 55 1,mO 4 55])
 .ret))
def ztD:List (Nat×An):=[(4,.t (.int .i64)),(5,.t (.int .i64)),(1,.t (.int .i64))]
def c11:CC:=
 .seq (.reg [0,1] [mO 4 (kI 0)])
 (.seq (.seq (.reg [0,1,5] [mO 5 (kI 0)])
 (.block 0 (.lp false 0 [1,5] [0] (.seq (.seq (.reg [0,1,5,9] [mO 6 5,mO 7 0,nO 8 7,bO 9 .lss 6 8])
 (.cond 9 .skip (.exit 0)))
 (.seq (.block 1 (.seq (.reg [0,1,5] [mO 12 0,mO 13 5,mO 14 1,iO 15 1 12 13,sO (.store 1 15 14)])
 (.reg [0,1,5] [mO 16 1,bO 17 .add 16 (kI 1),mO 1 17])))
 (.reg [0,1,5] [mO 10 5,bO 11 .add 10 (kI 1),mO 5 11]))))))
 (.seq (.reg [4] [mO 18 1,mO 4 18])
 .ret))
def ztE:List (Nat×An):=[(4,.t (.int .i64)),(5,.t (.int .i64)),(1,.t (.int .i64))]
def c12:CC:=
 .seq (.reg [0,1] [mO 4 (kI 0)])
 (.seq (.seq (.reg [0,1,5] [mO 5 (kI 0)])
 (.block 0 (.lp true 0 [1,5] [0] (.seq (.seq (.reg [0,1,5,9] [mO 6 5,mO 7 0,nO 8 7,bO 9 .lss 6 8])
 (.cond 9 .skip (.exit 0)))
 (.seq (.block 1 (.seq (.seq (.reg [0,1,5,17] [mO 12 0,mO 13 5,iO 14 1 12 13,lO 15 14,mO 16 1,bO 17 .neq 15 16])
 (.cond 17 (.seq (.reg [4] [O 4 (.mv (.c (.int .i64 (-1))))])
 .ret) .skip))
 (.reg [0,1,5] [mO 18 1,bO 19 .add 18 (kI 1),mO 1 19])))
 (.reg [0,1,5] [mO 10 5,bO 11 .add 10 (kI 1),mO 5 11]))))))
 (.seq (.reg [4] [mO 20 1,mO 4 20])
 .ret))
def ztF:List (Nat×An):=[(4,.t (.int .i64)),(5,.t (.int .i64)),(1,.t (.int .i64))]
def c13:CC:=
 .seq (.reg [1,2] [O 2 (.boxi 6 0),mO 4 (kI 0)])
 (.seq (.reg [1,2] [fO 5 1 2,lO 6 5,mO 7 1,(cO 8 22 [6,7]),mO 1 8])
 (.seq (.seq (.reg [1,2,10] [mO 9 1,bO 10 .lss 9 (kI 0)])
 (.cond 10 (.seq (.reg [4] [O 4 (.mv (.c (.int .i64 (-1))))])
 .ret) .skip))
 (.seq (.reg [1,2] [mO 11 1,fO 12 2 2,lO 13 12,O 14 (.lens 13),bO 15 .sub 11 14,mO 1 15])
 (.seq (.seq (.reg [1,2,17] [mO 16 1,bO 17 .lss 16 (kI 0)])
 (.cond 17 (.seq (.reg [4] [O 4 (.mv (.c (.int .i64 (-1))))])
 .ret) .skip))
 (.seq (.reg [1,2] [fO 18 3 2,lO 19 18,mO 20 1,(cO 21 23 [19,20]),mO 1 21])
 (.seq (.seq (.reg [1,2,23] [mO 22 1,bO 23 .lss 22 (kI 0)])
 (.cond 23 (.seq (.reg [4] [O 4 (.mv (.c (.int .i64 (-1))))])
 .ret) .skip))
 (.seq (.reg [1,2] [fO 24 4 2,lO 25 24,mO 26 1,(cO 27 24 [25,26]),mO 1 27])
 (.seq (.seq (.reg [1,2,29] [mO 28 1,bO 29 .lss 28 (kI 0)])
 (.cond 29 (.seq (.reg [4] [O 4 (.mv (.c (.int .i64 (-1))))])
 .ret) .skip))
 (.seq (.reg [1] [fO 30 5 2,lO 31 30,mO 32 1,(cO 33 22 [31,32]),mO 1 33])
 (.seq (.seq (.reg [1,35] [mO 34 1,bO 35 .lss 34 (kI 0)])
 (.cond 35 (.seq (.reg [4] [O 4 (.mv (.c (.int .i64 (-1))))])
 .ret) .skip))
 (.seq (.reg [4] [mO 36 1,mO 4 36])
 .ret)))))))))))
def ztG:List (Nat×An):=[(2,.cells kb0),(4,.t (.int .i64))]
def c14:CC:=
 .seq (.reg [1,2] [O 1 (.boxi 6 0),O 2 (.alloc [(.int .i64 0),.e0,(.str []),.e0,.e0,.e0])])
 (.seq (.reg [1,2,3] [O 3 (.alloc [(.int .i64 0),.e0,(.str []),.e0,.e0,.e0])])
 (.seq (.reg [1,2,3] [fO 4 0 1,lO 5 4,fO 6 0 3,sO (.store 1 6 5)])
 (.seq (.reg [1,2,3] [fO 7 1 1,lO 8 7,(cO 9 25 [8]),fO 10 1 3,sO (.store 1 10 9)])
 (.seq (.reg [1,2,3] [fO 11 2 1,lO 12 11,fO 13 2 3,sO (.store 1 13 12)])
 (.seq (.reg [1,2,3] [fO 14 3 1,lO 15 14,(cO 16 26 [15]),fO 17 3 3,sO (.store 1 17 16)])
 (.seq (.reg [1,2,3] [fO 18 4 1,lO 19 18,(cO 20 27 [19]),fO 21 4 3,sO (.store 1 21 20)])
 (.seq (.reg [2,3] [fO 22 5 1,lO 23 22,(cO 24 25 [23]),fO 25 5 3,sO (.store 1 25 24)])
 (.seq (.reg [2] [O 26 (.load (some 6) 3),sO (.store 6 2 26)])
 .ret))))))))
def ztH:List (Nat×An):=[(1,.cells kb0),(2,.cells ⟨some .Stp,[kN,some ((.lst .str),.no),kS,some ((.lst (.nm .Sel)),.all),some ((.lst (.int .i64)),.no),some ((.lst .str),.no)]⟩),(3,.cells ⟨some .Stp,[kN,some ((.lst .str),.no),kS,some ((.lst (.nm .Sel)),.all),some ((.lst (.int .i64)),.no),some ((.lst .str),.no)]⟩),(26,.t (.nm .Stp))]
def c18:CC:=
 .seq (.reg [2,3] [O 2 (.boxi 6 0),O 3 (.boxi 6 1),mO 4 kF])
 (.seq (.seq (.reg [2,3,9] [fO 5 0 2,lO 6 5,fO 7 0 3,lO 8 7,bO 9 .neq 6 8])
 (.cond 9 (.seq (.reg [4] [mO 4 kF])
 .ret) .skip))
 (.seq (.seq (.reg [2,3,15] [fO 10 1 2,lO 11 10,fO 12 1 3,lO 13 12,(cO 14 30 [11,13]),O 15 (.not 14)])
 (.cond 15 (.seq (.reg [4] [mO 4 kF])
 .ret) .skip))
 (.seq (.seq (.reg [2,3,20] [fO 16 2 2,lO 17 16,fO 18 2 3,lO 19 18,bO 20 .neq 17 19])
 (.cond 20 (.seq (.reg [4] [mO 4 kF])
 .ret) .skip))
 (.seq (.seq (.reg [2,3,26] [fO 21 3 2,lO 22 21,fO 23 3 3,lO 24 23,(cO 25 31 [22,24]),O 26 (.not 25)])
 (.cond 26 (.seq (.reg [4] [mO 4 kF])
 .ret) .skip))
 (.seq (.seq (.reg [2,3,32] [fO 27 4 2,lO 28 27,fO 29 4 3,lO 30 29,(cO 31 8 [28,30]),O 32 (.not 31)])
 (.cond 32 (.seq (.reg [4] [mO 4 kF])
 .ret) .skip))
 (.seq (.seq (.reg [38] [fO 33 5 2,lO 34 33,fO 35 5 3,lO 36 35,(cO 37 30 [34,36]),O 38 (.not 37)])
 (.cond 38 (.seq (.reg [4] [mO 4 kF])
 .ret) .skip))
 (.seq (.reg [4] [mO 4 kT])
 .ret)))))))
def ztI:List (Nat×An):=[(2,.cells kb0),(3,.cells kb0),(4,.t .bool)]
def c19:CC:=
 .seq (.reg [0,1] [mO 4 (kI 0)])
 (.seq (.seq (.reg [0,1,5] [mO 5 (kI 0)])
 (.block 0 (.lp false 0 [1,5] [0] (.seq (.seq (.reg [0,1,5,9] [mO 6 5,mO 7 0,nO 8 7,bO 9 .lss 6 8])
 (.cond 9 .skip (.exit 0)))
 (.seq (.block 1 (.seq (.reg [0,1,5] [mO 12 0,mO 13 5,mO 14 1,(cO 15 20 [14]),iO 16 1 12 13,sO (.store 1 16 15)])
 (.reg [0,1,5] [mO 17 1,bO 18 .add 17 (kI 1),mO 1 18])))
 (.reg [0,1,5] [mO 10 5,bO 11 .add 10 (kI 1),mO 5 11]))))))
 (.seq (.reg [4] [mO 19 1,mO 4 19])
 .ret))
def ztJ:List (Nat×An):=[(4,.t (.int .i64)),(5,.t (.int .i64)),(1,.t (.int .i64))]
def c20:CC:=
 .seq (.reg [0] [O 2 (.mv (.c (.str [])))])
 (.seq (.seq (.reg [0,5] [mO 4 0,bO 5 .leq 4 (kI 0)])
 (.cond 5 (.seq (.reg [2] [O 2 (.mv (.c (.str [109,48])))])
 .ret) .skip))
 (.seq (.reg [0,3] [O 3 (.mv (.c (.str [])))])
 (.seq (.block 0 (.lp false 0 [0,3] [] (.seq (.seq (.reg [0,3,7] [mO 6 0,bO 7 .gtr 6 (kI 0)])
 (.cond 7 .skip (.exit 0)))
 (.block 1 (.seq (.reg [0,3] [mO 8 0,bO 9 .rem 8 (kI 10),bO 10 .add (kI 48) 9,O 11 (.conv .u8 10),O 12 (.bsl 1 [11]),O 13 (.b2s 12),mO 14 3,bO 15 .add 13 14,mO 3 15])
 (.reg [0,3] [mO 16 0,bO 17 .quo 16 (kI 10),mO 0 17]))))))
 (.seq (.reg [2] [mO 18 3,O 19 (.bin .add (.c (.str [109])) 18),mO 2 19])
 .ret))))
def ztK:List (Nat×An):=[(2,.t .str),(3,.t .str),(12,.t (.lst (.int .u8))),(0,.t (.int .i64))]
def c21:CC:=
 .seq (.reg [0,1] [mO 4 (kI 0)])
 (.seq (.seq (.reg [0,1,5] [mO 5 (kI 0)])
 (.block 0 (.lp false 0 [1,5] [0] (.seq (.seq (.reg [0,1,5,9] [mO 6 5,mO 7 0,nO 8 7,bO 9 .lss 6 8])
 (.cond 9 .skip (.exit 0)))
 (.seq (.block 1 (.seq (.reg [0,1,5] [mO 12 0,mO 13 5,mO 14 1,(cO 15 20 [14]),iO 16 5 12 13,fO 17 0 16,sO (.store 1 17 15)])
 (.seq (.reg [0,1,5] [mO 18 1,bO 19 .add 18 (kI 1),mO 1 19])
 (.seq (.reg [0,1,5] [mO 20 0,mO 21 5,mO 22 1,(cO 23 20 [22]),iO 24 5 20 21,fO 25 1 24,sO (.store 1 25 23)])
 (.seq (.reg [0,1,5] [mO 26 1,bO 27 .add 26 (kI 1),mO 1 27])
 (.seq (.reg [0,1,5] [mO 28 0,mO 29 5,mO 30 1,bO 31 .rem 30 (kI 3),bO 32 .eql 31 (kI 0),iO 33 5 28 29,fO 34 2 33,sO (.store 1 34 32)])
 (.seq (.reg [0,1,5] [mO 35 1,bO 36 .add 35 (kI 1),mO 1 36])
 (.seq (.reg [0,1,5] [mO 37 0,mO 38 5,mO 39 1,iO 40 5 37 38,fO 41 3 40,sO (.store 1 41 39)])
 (.seq (.reg [0,1,5] [mO 42 1,bO 43 .add 42 (kI 1),mO 1 43])
 (.reg [0,1,5] [mO 44 0,mO 45 5,iO 46 5 44 45,fO 47 4 46,lO 48 47,mO 49 1,(cO 50 21 [48,49]),mO 1 50]))))))))))
 (.reg [0,1,5] [mO 10 5,bO 11 .add 10 (kI 1),mO 5 11]))))))
 (.seq (.reg [4] [mO 51 1,mO 4 51])
 .ret))
def ztL:List (Nat×An):=[(4,.t (.int .i64)),(5,.t (.int .i64)),(1,.t (.int .i64))]
def c22:CC:=
 .seq (.reg [0,1] [mO 4 (kI 0)])
 (.seq (.reg [0,1] [mO 6 1,mO 7 0,nO 8 7,bO 9 .sub 6 8,mO 1 9])
 (.seq (.seq (.reg [0,1,11] [mO 10 1,bO 11 .lss 10 (kI 0)])
 (.cond 11 (.seq (.reg [4] [O 4 (.mv (.c (.int .i64 (-1))))])
 .ret) .skip))
 (.seq (.seq (.reg [0,1,5] [mO 5 (kI 0)])
 (.block 0 (.lp true 0 [1,5] [0] (.seq (.seq (.reg [0,1,5,15] [mO 12 5,mO 13 0,nO 14 13,bO 15 .lss 12 14])
 (.cond 15 .skip (.exit 0)))
 (.seq (.block 1 (.seq (.reg [0,1,5] [mO 18 1,mO 19 0,mO 20 5,iO 21 1 19 20,lO 22 21,O 23 (.lens 22),bO 24 .sub 18 23,mO 1 24])
 (.seq (.reg [0,1,5,26] [mO 25 1,bO 26 .lss 25 (kI 0)])
 (.cond 26 (.seq (.reg [4] [O 4 (.mv (.c (.int .i64 (-1))))])
 .ret) .skip))))
 (.reg [0,1,5] [mO 16 5,bO 17 .add 16 (kI 1),mO 5 17]))))))
 (.seq (.reg [4] [mO 27 1,mO 4 27])
 .ret))))
def ztM:List (Nat×An):=[(4,.t (.int .i64)),(1,.t (.int .i64)),(5,.t (.int .i64))]
def c23:CC:=
 .seq (.reg [0,1] [mO 4 (kI 0)])
 (.seq (.reg [0,1] [mO 6 1,mO 7 0,nO 8 7,bO 9 .sub 6 8,mO 1 9])
 (.seq (.seq (.reg [0,1,11] [mO 10 1,bO 11 .lss 10 (kI 0)])
 (.cond 11 (.seq (.reg [4] [O 4 (.mv (.c (.int .i64 (-1))))])
 .ret) .skip))
 (.seq (.seq (.reg [0,1,5] [mO 5 (kI 0)])
 (.block 0 (.lp true 0 [1,5] [0] (.seq (.seq (.reg [0,1,5,15] [mO 12 5,mO 13 0,nO 14 13,bO 15 .lss 12 14])
 (.cond 15 .skip (.exit 0)))
 (.seq (.block 1 (.seq (.reg [0,1,5] [mO 18 0,mO 19 5,iO 20 5 18 19,O 21 (.load (some 5) 20),mO 22 1,(cO 23 32 [21,22]),mO 1 23])
 (.seq (.reg [0,1,5,25] [mO 24 1,bO 25 .lss 24 (kI 0)])
 (.cond 25 (.seq (.reg [4] [O 4 (.mv (.c (.int .i64 (-1))))])
 .ret) .skip))))
 (.reg [0,1,5] [mO 16 5,bO 17 .add 16 (kI 1),mO 5 17]))))))
 (.seq (.reg [4] [mO 26 1,mO 4 26])
 .ret))))
def ztN:List (Nat×An):=[(4,.t (.int .i64)),(1,.t (.int .i64)),(5,.t (.int .i64)),(21,.t (.nm .Sel))]
def c24:CC:=
 .seq (.reg [0,1] [mO 4 (kI 0)])
 (.seq (.reg [1] [mO 5 1,mO 6 0,nO 7 6,bO 8 .sub 5 7,mO 1 8])
 (.seq (.seq (.reg [1,10] [mO 9 1,bO 10 .lss 9 (kI 0)])
 (.cond 10 (.seq (.reg [4] [O 4 (.mv (.c (.int .i64 (-1))))])
 .ret) .skip))
 (.seq (.reg [4] [mO 11 1,mO 4 11])
 .ret)))
def ztO:List (Nat×An):=[(4,.t (.int .i64))]
def c25:CC:=
 .seq (.reg [0] [O 2 (.mv (.c (.sl 1 [])))])
 (.seq (.reg [0,3] [mO 5 0,nO 6 5,O 7 (.mks 1 [(.str [])] 6),mO 3 7])
 (.seq (.seq (.reg [0,3,4] [mO 4 (kI 0)])
 (.block 0 (.lp false 0 [4] [0,3] (.seq (.seq (.reg [0,3,4,11] [mO 8 4,mO 9 0,nO 10 9,bO 11 .lss 8 10])
 (.cond 11 .skip (.exit 0)))
 (.seq (.block 1 (.reg [0,3,4] [mO 14 3,mO 15 4,mO 16 0,mO 17 4,iO 18 1 16 17,lO 19 18,iO 20 1 14 15,sO (.store 1 20 19)]))
 (.reg [0,3,4] [mO 12 4,bO 13 .add 12 (kI 1),mO 4 13]))))))
 (.seq (.reg [2] [mO 21 3,mO 2 21])
 .ret)))
def ztP:List (Nat×An):=[(2,.t (.lst .str)),(7,.t (.lst .str)),(4,.t (.int .i64))]
def c26:CC:=
 .seq (.reg [0] [O 2 (.mv (.c (.sl 5 [])))])
 (.seq (.reg [0,3] [mO 5 0,nO 6 5,O 7 (.mks 5 [(.str []),(.str []),(.bool false),(.int .i64 0),.e0] 6),mO 3 7])
 (.seq (.seq (.reg [0,3,4] [mO 4 (kI 0)])
 (.block 0 (.lp false 0 [4] [0,3] (.seq (.seq (.reg [0,3,4,11] [mO 8 4,mO 9 0,nO 10 9,bO 11 .lss 8 10])
 (.cond 11 .skip (.exit 0)))
 (.seq (.block 1 (.reg [0,3,4] [mO 14 3,mO 15 4,mO 16 0,mO 17 4,iO 18 5 16 17,O 19 (.load (some 5) 18),(cO 20 33 [19]),iO 21 5 14 15,sO (.store 5 21 20)]))
 (.reg [0,3,4] [mO 12 4,bO 13 .add 12 (kI 1),mO 4 13]))))))
 (.seq (.reg [2] [mO 22 3,mO 2 22])
 .ret)))
def ztQ:List (Nat×An):=[(2,.t (.lst (.nm .Sel))),(7,.o (.nm .Sel) (.all)),(4,.t (.int .i64)),(19,.t (.nm .Sel))]
def c27:CC:=
 .seq (.reg [0] [O 2 (.mv (.c (.sl 1 [])))])
 (.seq (.reg [0,3] [mO 5 0,nO 6 5,O 7 (.mks 1 [(.int .i64 0)] 6),mO 3 7])
 (.seq (.seq (.reg [0,3,4] [mO 4 (kI 0)])
 (.block 0 (.lp false 0 [4] [0,3] (.seq (.seq (.reg [0,3,4,11] [mO 8 4,mO 9 0,nO 10 9,bO 11 .lss 8 10])
 (.cond 11 .skip (.exit 0)))
 (.seq (.block 1 (.reg [0,3,4] [mO 14 3,mO 15 4,mO 16 0,mO 17 4,iO 18 1 16 17,lO 19 18,iO 20 1 14 15,sO (.store 1 20 19)]))
 (.reg [0,3,4] [mO 12 4,bO 13 .add 12 (kI 1),mO 4 13]))))))
 (.seq (.reg [2] [mO 21 3,mO 2 21])
 .ret)))
def ztR:List (Nat×An):=[(2,.t (.lst (.int .i64))),(7,.t (.lst (.int .i64))),(4,.t (.int .i64))]
def c30:CC:=
 .seq (.reg [0,1] [mO 4 kF])
 (.seq (.seq (.reg [0,1,10] [mO 6 0,nO 7 6,mO 8 1,nO 9 8,bO 10 .neq 7 9])
 (.cond 10 (.seq (.reg [4] [mO 4 kF])
 .ret) .skip))
 (.seq (.seq (.reg [0,1,5] [mO 5 (kI 0)])
 (.block 0 (.lp true 0 [5] [0,1] (.seq (.seq (.reg [0,1,5,14] [mO 11 5,mO 12 0,nO 13 12,bO 14 .lss 11 13])
 (.cond 14 .skip (.exit 0)))
 (.seq (.block 1 (.seq (.regd [0,1,5,25] (zdz 0 9) [0,0,3,7,0,0,48,112,255] [0,0,0,1,0,0,0,1,0] [mO 17 0,mO 18 5,iO 19 1 17 18,lO 20 19,mO 21 1,mO 22 5,iO 23 1 21 22,lO 24 23,bO 25 .neq 20 24])
 (.cond 25 (.seq (.reg [4] [mO 4 kF])
 .ret) .skip)))
 (.reg [0,1,5] [mO 15 5,bO 16 .add 15 (kI 1),mO 5 16]))))))
 (.seq (.reg [4] [mO 4 kT])
 .ret)))
def ztS:List (Nat×An):=[(4,.t .bool),(5,.t (.int .i64))]
def c31:CC:=
 .seq (.reg [0,1] [mO 4 kF])
 (.seq (.seq (.reg [0,1,10] [mO 6 0,nO 7 6,mO 8 1,nO 9 8,bO 10 .neq 7 9])
 (.cond 10 (.seq (.reg [4] [mO 4 kF])
 .ret) .skip))
 (.seq (.seq (.reg [0,1,5] [mO 5 (kI 0)])
 (.block 0 (.lp true 0 [5] [0,1] (.seq (.seq (.reg [0,1,5,14] [mO 11 5,mO 12 0,nO 13 12,bO 14 .lss 11 13])
 (.cond 14 .skip (.exit 0)))
 (.seq (.block 1 (.seq (.regd [0,1,5,26] (zdz 0 10) [0,0,3,7,0,0,48,112,255,511] [0,0,0,1,0,0,0,1,4,0] [mO 17 0,mO 18 5,iO 19 5 17 18,O 20 (.load (some 5) 19),mO 21 1,mO 22 5,iO 23 5 21 22,O 24 (.load (some 5) 23),(cO 25 45 [20,24]),O 26 (.not 25)])
 (.cond 26 (.seq (.reg [4] [mO 4 kF])
 .ret) .skip)))
 (.reg [0,1,5] [mO 15 5,bO 16 .add 15 (kI 1),mO 5 16]))))))
 (.seq (.reg [4] [mO 4 kT])
 .ret)))
def ztT:List (Nat×An):=[(4,.t .bool),(5,.t (.int .i64)),(20,.t (.nm .Sel)),(24,.t (.nm .Sel))]
def c32:CC:=
 .seq (.reg [1,2] [O 2 (.boxi 5 0),mO 4 (kI 0)])
 (.seq (.reg [1,2] [mO 5 1,fO 6 0 2,lO 7 6,O 8 (.lens 7),bO 9 .sub 5 8,mO 1 9])
 (.seq (.seq (.reg [1,2,11] [mO 10 1,bO 11 .lss 10 (kI 0)])
 (.cond 11 (.seq (.reg [4] [O 4 (.mv (.c (.int .i64 (-1))))])
 .ret) .skip))
 (.seq (.reg [1,2] [mO 12 1,fO 13 1 2,lO 14 13,O 15 (.lens 14),bO 16 .sub 12 15,mO 1 16])
 (.seq (.seq (.reg [1,2,18] [mO 17 1,bO 18 .lss 17 (kI 0)])
 (.cond 18 (.seq (.reg [4] [O 4 (.mv (.c (.int .i64 (-1))))])
 .ret) .skip))
 (.seq (.reg [1] [fO 19 4 2,lO 20 19,mO 21 1,(cO 22 23 [20,21]),mO 1 22])
 (.seq (.seq (.reg [1,24] [mO 23 1,bO 24 .lss 23 (kI 0)])
 (.cond 24 (.seq (.reg [4] [O 4 (.mv (.c (.int .i64 (-1))))])
 .ret) .skip))
 (.seq (.reg [4] [mO 25 1,mO 4 25])
 .ret)))))))
def ztU:List (Nat×An):=[(2,.cells kb2),(4,.t (.int .i64))]
def c33:CC:=
 .seq (.reg [1,2] [O 1 (.boxi 5 0),O 2 (.alloc [(.str []),(.str []),(.bool false),(.int .i64 0),.e0])])
 (.seq (.reg [1,2,3] [O 3 (.alloc [(.str []),(.str []),(.bool false),(.int .i64 0),.e0])])
 (.seq (.reg [1,2,3] [fO 4 0 1,lO 5 4,fO 6 0 3,sO (.store 1 6 5)])
 (.seq (.reg [1,2,3] [fO 7 1 1,lO 8 7,fO 9 1 3,sO (.store 1 9 8)])
 (.seq (.reg [1,2,3] [fO 10 2 1,lO 11 10,fO 12 2 3,sO (.store 1 12 11)])
 (.seq (.reg [1,2,3] [fO 13 3 1,lO 14 13,fO 15 3 3,sO (.store 1 15 14)])
 (.seq (.reg [2,3] [fO 16 4 1,lO 17 16,(cO 18 26 [17]),fO 19 4 3,sO (.store 1 19 18)])
 (.seq (.reg [2] [O 20 (.load (some 5) 3),sO (.store 5 2 20)])
 .ret)))))))
def ztV:List (Nat×An):=[(1,.cells kb2),(2,.cells ⟨some .Sel,[kS,kS,kB,kN,some ((.lst (.nm .Sel)),.all)]⟩),(3,.cells ⟨some .Sel,[kS,kS,kB,kN,some ((.lst (.nm .Sel)),.all)]⟩),(20,.t (.nm .Sel))]
def c45:CC:=
 .seq (.reg [2,3] [O 2 (.boxi 5 0),O 3 (.boxi 5 1),mO 4 kF])
 (.seq (.seq (.reg [2,3,9] [fO 5 0 2,lO 6 5,fO 7 0 3,lO 8 7,bO 9 .neq 6 8])
 (.cond 9 (.seq (.reg [4] [mO 4 kF])
 .ret) .skip))
 (.seq (.seq (.reg [2,3,14] [fO 10 1 2,lO 11 10,fO 12 1 3,lO 13 12,bO 14 .neq 11 13])
 (.cond 14 (.seq (.reg [4] [mO 4 kF])
 .ret) .skip))
 (.seq (.seq (.reg [2,3,19] [fO 15 2 2,lO 16 15,fO 17 2 3,lO 18 17,O 19 (.beq .neq 16 18)])
 (.cond 19 (.seq (.reg [4] [mO 4 kF])
 .ret) .skip))
 (.seq (.seq (.reg [2,3,24] [fO 20 3 2,lO 21 20,fO 22 3 3,lO 23 22,bO 24 .neq 21 23])
 (.cond 24 (.seq (.reg [4] [mO 4 kF])
 .ret) .skip))
 (.seq (.seq (.reg [30] [fO 25 4 2,lO 26 25,fO 27 4 3,lO 28 27,(cO 29 31 [26,28]),O 30 (.not 29)])
 (.cond 30 (.seq (.reg [4] [mO 4 kF])
 .ret) .skip))
 (.seq (.reg [4] [mO 4 kT])
 .ret))))))
def ztW:List (Nat×An):=[(2,.cells kb2),(3,.cells kb2),(4,.t .bool)]
end Go.Fw
namespace Go.Fw
open Go
def wp{α:Type}(x:Option α)(Q:α->Prop):Prop:=∃a,x=some a/\Q a
theorem wp.mono{α:Type}{x:Option α}{Q R:α->Prop}(h:wp x Q)(hQ:∀a,Q a->R a):wp x R:=let⟨a,e,q⟩:=h;⟨a,e,hQ a q⟩
theorem ywd{α:Type}{a:α}{Q:α->Prop}:wp (some a) Q↔Q a:=⟨fun⟨_,e,q⟩=>by cases e;exact q,fun h=>⟨a,rfl,h⟩⟩
theorem ywb{α U:Type}{x:Option α}{f:α->Option U}{Q:U->Prop}:wp (zaa x f) Q↔wp x fun a=>wp (f a) Q:=by
 unfold zaa
 constructor
 ·rintro⟨b,e,q⟩
  cases x with
  | none=>cases e
  | some a=>exact⟨a,rfl,b,e,q⟩
 ·rintro⟨a,rfl,b,e,q⟩
  exact⟨b,e,q⟩
theorem ywc{α:Type}{b:Bool}{x y:Option α}{Q:α->Prop}:wp (zad b x y) Q↔(b=true->wp x Q)/\(b=false->wp y Q):=by
 unfold zad
 cases b<;>simp
theorem ywa{α:Type}{b:Bool}{x:Option α}{Q:α->Prop}:wp (gd b x) Q↔b=true/\wp x Q:=by
 unfold gd
 cases b with
 | true=>simp
 | false=>simp only[cond_false,yhj,false_and,iff_false];rintro⟨_,e,_⟩;cases e
theorem yhv{α U γ:Type}{x:α⊕U}{f:α->Option γ}{g:U->Option γ}{Q:γ->Prop}:wp (caseS x f g) Q↔(∀a,x=.inl a->wp (f a) Q)/\(∀b,x=.inr b->wp (g b) Q):=by
 cases x<;>simp[caseS]
theorem yhw{α U γ:Type}{a:α}{f:α->γ}{g:U->γ}:caseS (Sum.inl a) f g=f a:=rfl
theorem yhx{α U γ:Type}{b:U}{f:α->γ}{g:U->γ}:caseS (Sum.inr b) f g=g b:=rfl
theorem ywe{α:Type}{l:List α}{i:Nat}{Q:α->Prop}:wp l[i]? Q↔∃h:i<l.length,Q l[i]:=by
 constructor
 ·rintro⟨a,e,q⟩
  obtain⟨h,e⟩:=yga.1 e
  exact⟨h,e ▸ q⟩
 ·rintro⟨h,q⟩
  exact⟨_,ygb h,q⟩
theorem zf1{σ J:Type}{b:σ->Option (σ⊕J)}:∀{n:Nat}{s:σ}{r:J},zbQ b n s=some r->∀{m:Nat},n<=m->zbQ b m s=some r
 | 0,_,_,h,_,_=>by cases h
 | n+1,s,r,h,m,hm=>by
  obtain⟨m,rfl⟩:∃k,m=k+1:=⟨m-1,by omega⟩
  simp only[zbQ]at h|-
  split at h
  ·exact zf1 h (by omega)
  ·exact h
  ·cases h
theorem zgw{σ J:Type}{b:σ->Option (σ⊕J)}{n:Nat}{s:σ}{r:J}(h:zbQ b n s=some r):za4 b s=some r:=by
 rw[ziq]
 have he:∃n,(zbQ b n s).isSome:=⟨n,by rw[h];rfl⟩
 rw[dif_pos he]
 obtain⟨r',hr'⟩:=Option.isSome_iff_exists.1 he.choose_spec
 rw[hr']
 have h1:=zf1 hr' (Nat.le_max_left he.choose n)
 have h2:=zf1 h (Nat.le_max_right he.choose n)
 rw[h1]at h2
 exact h2
theorem zd8{σ J:Type}{b:σ->Option (σ⊕J)}{Q:J->Prop}(I:σ->Prop)(μ:σ->Nat){s:σ}(h0:I s)
  (hs:∀s,I s->wp (b s) fun x=>(∀s',x=.inl s'->I s'/\μ s'<μ s)/\(∀r,x=.inr r->Q r)):wp (za4 b s) Q:=by
 have:∀(k:Nat)(s:σ),I s->μ s<k->∃n r,zbQ b n s=some r/\Q r:=by
  intro k
  induction k with
  | zero=>intro s _ h;omega
  | succ k ih =>
   intro s hI hk
   obtain⟨x,hx,h1,h2⟩:=hs s hI
   cases x with
   | inl s' =>
    obtain⟨g1,g2⟩:=h1 s' rfl
    obtain⟨n,r,h3,h4⟩:=ih s' g1 (by omega)
    exact⟨n+1,r,by simp only[zbQ,hx];exact h3,h4⟩
   | inr r=>exact⟨1,r,by simp only[zbQ,hx],h2 r rfl⟩
 obtain⟨n,r,h1,h2⟩:=this (μ s+1) s h0 (by omega)
 exact⟨r,zgw h1,h2⟩
theorem yhy{α U:Type}{a:α}{P:α->Prop}{Q:U->Prop}:((∀s',(Sum.inl a:α⊕U)=.inl s'->P s')/\(∀r,(Sum.inl a:α⊕U)=.inr r->Q r))↔P a:=by simp
theorem yhz{α U:Type}{b:U}{P:α->Prop}{Q:U->Prop}:((∀s',(Sum.inr b:α⊕U)=.inl s'->P s')/\(∀r,(Sum.inr b:α⊕U)=.inr r->Q r))↔Q b:=by simp
def Le{α:Type}(x y:Option α):Prop:=∀r,x=some r->y=some r
theorem Le.refl{α:Type}(x:Option α):Le x x:=fun _ h=>h
theorem Le.none{α:Type}{y:Option α}:Le none y:=fun _ h=>by cases h
theorem Le.bind{α U:Type}{x y:Option α}{f g:α->Option U}(h:Le x y)(hf:∀a,Le (f a) (g a)):Le (zaa x f) (zaa y g):=by
 unfold zaa
 intro r hr
 cases x with
 | none=>cases hr
 | some a=>rw[h a rfl];exact hf a r hr
theorem Le.cond{α:Type}{b:Bool}{x y x' y':Option α}(h:Le x x')(h':Le y y'):Le (zad b x y) (zad b x' y'):=by
 cases b
 ·exact h'
 ·exact h
theorem Le.gd{α:Type}{b:Bool}{x x':Option α}(h:Le x x'):Le (gd b x) (gd b x'):=by
 cases b
 ·exact Le.none
 ·exact h
theorem Le.caseS{α U γ:Type}{x:α⊕U}{f f':α->Option γ}{g g':U->Option γ}(h:∀a,Le (f a) (f' a))(h':∀b,Le (g b) (g' b)):Le (caseS x f g) (caseS x f' g'):=by
 cases x
 ·exact h _
 ·exact h' _
theorem Le.loop{σ J:Type}{b b':σ->Option (σ⊕J)}(h:∀s,Le (b s) (b' s))(s:σ):Le (za4 b s) (za4 b' s):=by
 have:∀n s,Le (zbQ b n s) (zbQ b' n s):=by
  intro n
  induction n with
  | zero=>intro s;exact Le.none
  | succ n ih =>
   intro s r hr
   simp only[zbQ]at hr|-
   cases hx:b s with
   | none=>rw[hx]at hr;cases hr
   | some x =>
    rw[h s x hx]
    rw[hx]at hr
    cases x with
    | inl s'=>exact ih s' r hr
    | inr r'=>exact hr
 intro r hr
 rw[ziq]at hr
 split at hr
 ·exact zgw (this _ s r hr)
 ·cases hr
theorem zin{α U:Type}{G:Nat->α->Option U}(hm:∀n d,Le (G n d) (G (n+1) d)){n:Nat}{d:α}{r:U}(h:G n d=some r):zo1 G d=some r:=by
 have hm':∀k n d,Le (G n d) (G (n+k) d):=by
  intro k
  induction k with
  | zero=>intro n d;exact Le.refl _
  | succ k ih=>intro n d r hr;exact hm _ _ _ (ih n d r hr)
 rw[zn1]
 have he:∃n,(G n d).isSome:=⟨n,by rw[h];rfl⟩
 rw[dif_pos he]
 obtain⟨r',hr'⟩:=Option.isSome_iff_exists.1 he.choose_spec
 rw[hr']
 have h1:=hm' n he.choose d r' hr'
 have h2:=hm' he.choose n d r h
 rw[Nat.add_comm,h1]at h2
 exact h2
theorem zsG{α U:Type}{G:Nat->α->Option U}(hm:∀n d,Le (G n d) (G (n+1) d)){n:Nat}{d:α}{Q:U->Prop}(h:wp (G n d) Q):wp (zo1 G d) Q:=let⟨a,e,q⟩:=h;⟨a,zin hm e,q⟩
theorem zbu{n:Int}(h1:-9223372036854775808<=n)(h2:n<=9223372036854775807):zbg n=true:=by simp[zbg,h1,h2]
theorem yhu{n:Int}:zbg n=true↔-9223372036854775808<=n/\n<=9223372036854775807:=by simp[zbg]
end Go.Fw
namespace Go.Fw
open Go
theorem hBM:BIG=9223372036854775807/\LIM=1099511627776:=⟨rfl,rfl⟩
theorem zrB{α:Type}{x:Option α}{a:α}:wp x (fun y=>y=a)↔x=some a:=⟨fun⟨b,h1,h2⟩=>by rw[h1,h2],fun h=>⟨a,h,rfl⟩⟩
theorem zsH{α:Type}{x:Option α}{a:α}{Q:α->Prop}(h:x=some a)(hq:Q a):wp x Q:=⟨a,h,hq⟩
theorem zby{α U:Type}{a:α}{f:α->Option U}:zaa (some a) f=f a:=rfl
theorem zfi{α:Type}{x y:Option α}:zad true x y=x:=rfl
theorem zbG{α:Type}{x y:Option α}:zad false x y=y:=rfl
theorem zju{α:Type}{x:Option α}:gd true x=x:=rfl
theorem zs2{α:Type}{b:Bool}{x:Option α}(h:b=true):gd b x=x:=by rw[h];rfl
theorem zry{σ τ γ:Type}{b:σ->Option (σ⊕τ)}{s0:σ}{k:τ->Option γ}(n:Nat)(st:Nat->σ)(e:τ)(h0:st 0=s0)(hs:∀(i:Nat),i<n->b (st i)=some (.inl (st (i+1))))(he:b (st n)=some (.inr e)):
  zaa (za4 b s0) k=k e:=by
 have key:∀(m i:Nat),m+i=n->∃f,zbQ b f (st i)=some e:=by
  intro m
  induction m with
  | zero =>
   intro i hi
   have:i=n:=by omega
   subst this
   exact⟨1,by simp only[zbQ,he]⟩
  | succ m ih =>
   intro i hi
   obtain⟨f,hf⟩:=ih (i+1) (by omega)
   exact⟨f+1,by simp only[zbQ,hs i (by omega)];exact hf⟩
 obtain⟨f,hf⟩:=key n 0 (by omega)
 rw[<-h0,zgw hf,zby]
theorem up{n:Nat}(h:n<=1048576):n<=4611686018427387904:=Nat.le_trans h (by decide)
theorem zrT{α:Type}{xs:List α}{i:Nat}(h:i<xs.length):xs[Int.toNat (i:Int)]? =some xs[i]:=by rw[Int.toNat_natCast,ygb h]
theorem znQ{i n:Nat}(h:i<n):decide ((i:Int)<(n:Int))=true:=by simpa using h
theorem zjv{n:Nat}:decide ((n:Int)<(n:Int))=false:=by simp
theorem znR{i:Nat}:decide (0<=(i:Int))=true:=by simp
end Go.Fw
