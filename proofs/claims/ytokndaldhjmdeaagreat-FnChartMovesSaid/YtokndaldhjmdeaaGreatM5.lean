/- A part of the proof: what stands for the program, its functions, and what they come to. -/
import Derived.Test.YtokndaldhjmdeaaGreatM2
set_option linter.all false
namespace Go.Fw
open Go
instance arN(n:Nat):OfNat Ar n:=⟨.t n⟩
abbrev kI(n:Int):Ar:=.c (.int .i64 n)
abbrev kT:Ar:=.c (.bool true)
abbrev kF:Ar:=.c (.bool false)
abbrev mO(d:Nat)(a:Ar):COp:=O d (.mv a)
abbrev lO(d:Nat)(a:Ar):COp:=O d (.load none a)
abbrev fO(d f:Nat)(a:Ar):COp:=O d (.fa f a)
abbrev iO(d n:Nat)(a b:Ar):COp:=O d (.ia n a b)
abbrev nO(d:Nat)(a:Ar):COp:=O d (.lenl a)
abbrev bO(d:Nat)(o:BinOp)(a b:Ar):COp:=O d (.bin o a b)
abbrev cO(d f:Nat)(l:List Ar):COp:=O d (.call f l)
abbrev gT(d t:Nat)(k:K):COp:=.mk (some d) (some (t,true)) k
abbrev gF(d t:Nat)(k:K):COp:=.mk (some d) (some (t,false)) k
abbrev sO(k:K):COp:=.mk none none k
abbrev kS:Option (Ty×OS):=some (.str,.no)
abbrev kN:Option (Ty×OS):=some ((.int .i64),.no)
abbrev kB:Option (Ty×OS):=some (.bool,.no)
set_option maxRecDepth 10000
abbrev kb0:BT:=⟨some .Field,[kS,kS,kB,kB,kB,kB,kB,some ((.lst .str),.no)]⟩
abbrev kb1:BT:=⟨some .Typ,[kS,kS,some ((.lst (.nm .Field)),.no)]⟩
abbrev kb2:BT:=⟨some .Part,[kS,some ((.lst (.nm .Typ)),.no)]⟩
abbrev kb3:BT:=⟨some .Chart,[kS,some ((.lst (.nm .Typ)),.no),some ((.lst (.nm .Own)),.no)]⟩
abbrev kb4:BT:=⟨some .CFault,[kN,kS,kS,kN]⟩
abbrev kb5:BT:=⟨some .Part,[kS,some ((.lst (.nm .Typ)),.at [(2,.no)])]⟩
abbrev kb6:BT:=⟨some .Part,[kS,some ((.lst (.nm .Typ)),.at [(2,.at [(7,.no)])])]⟩
abbrev kb7:BT:=⟨some .Own,[kS,kS,some ((.lst (.int .i64)),.no)]⟩
abbrev zHA:BT:=⟨some .Stt,[kN,kS]⟩
def c3:CC:=
 .seq (.reg [0] [mO 2 kF])
 (.seq (.seq (.reg [0,11] [mO 9 0,nO 10 9,bO 11 .gtr 10 (kI 1048576)])
 (.cond 11 (.seq (.reg [2] [mO 2 kT])
 .ret) .skip))
 (.seq (.reg [3,4] [mO 13 0,(cO 14 6 [13]),mO 12 14,O 15 (.ext 12 0),O 16 (.ext 12 1),mO 3 15,mO 4 16])
 (.seq (.reg [3,4,5] [mO 17 3,mO 18 4,(cO 19 7 [17,18]),mO 5 19])
 (.seq (.reg [3,4,5,6] [mO 20 3,mO 21 4,(cO 22 8 [20,21]),mO 6 22])
 (.seq (.reg [3,4,5,6,7,8] [mO 24 3,(cO 25 9 [24]),mO 23 25,O 26 (.ext 23 0),O 27 (.ext 23 1),O 7 (.alloc [(.str []),.e0,.e0]),O 8 (.alloc [(.int .i64 0),(.str []),(.str []),(.int .i64 0)]),sO (.store 3 7 26),sO (.store 4 8 27)])
 (.frz 7 0 (.frz 8 0 (.seq (.seq (.regd [3,4,5,7,44] (zbx 0 17) [0,0,3,7,15,31,31,95,255,511,1023,2047,2047,8191,16383,32767,65535] [0,0,4,0,0,0,0,4,0,0,0,0,0,4,0,0,0] [mO 28 5,mO 29 6,(cO 30 10 [28,29]),O 31 (.not 30),mO 32 31,gF 33 32 (.load (some 4) 8),gF 34 32 (.mv 3),gF 35 32 (.call 11 [34]),gF 36 32 (.eqs .neq [2,1,1,2] 33 35),O 37 (.pick 32 kT 36),mO 38 37,gF 39 38 (.mv 3),gF 40 38 (.mv 3),gF 41 38 (.call 7 [39,40]),gF 42 38 (.lenl 41),gF 43 38 (.bin .neq 42 (kI 0)),O 44 (.pick 38 kT 43)])
 (.cond 44 (.seq (.reg [2] [mO 2 kF])
 .ret) .skip))
 (.seq (.reg [2] [mO 45 4,mO 46 3,(cO 47 7 [45,46]),nO 48 47,mO 49 5,nO 50 49,bO 51 .eql 48 50,mO 52 51,gT 53 52 (.mv 5),gT 54 52 (.lenl 53),gT 55 52 (.fa 2 7),gT 56 52 (.load none 55),gT 57 52 (.lenl 56),gT 58 52 (.bin .leq 54 57),O 59 (.pick 52 58 kF),mO 2 59])
 .ret)))))))))
def cy3:List (Nat×An):=[(2,.t .bool),(3,.t (.lst (.nm .Part))),(4,.t (.lst (.nm .Part))),(5,.t (.lst .str)),(7,.cells kb3),(8,.cells kb4),(33,.t (.nm .CFault)),(44,.t .bool)]
def c6:CC:=
 .seq (.reg [0] [O 2 (.mv (.c (.sl 2 []))),O 3 (.mv (.c (.sl 2 [])))])
 (.seq (.reg [2,3] [mO 4 0,(cO 5 22 [4]),(cO 6 21 [5]),O 7 (.ext 6 0),O 8 (.ext 6 1),mO 2 7,mO 3 8])
 .ret)
def cy6:List (Nat×An):=[(2,.t (.lst (.nm .Part))),(3,.t (.lst (.nm .Part)))]
def c7:CC:=
 .seq (.reg [0,1] [O 4 (.mv (.c .e0))])
 (.seq (.reg [0,1,5,6] [mO 15 0,(cO 16 9 [15]),mO 14 16,O 17 (.ext 14 0),O 18 (.ext 14 1),O 5 (.alloc [(.str []),.e0,.e0]),O 6 (.alloc [(.int .i64 0),(.str []),(.str []),(.int .i64 0)]),sO (.store 3 5 17),sO (.store 4 6 18)])
 (.frz 5 0 (.frz 6 0 (.seq (.reg [0,1,5,6,7,8] [mO 20 1,(cO 21 9 [20]),mO 19 21,O 22 (.ext 19 0),O 23 (.ext 19 1),O 7 (.alloc [(.str []),.e0,.e0]),O 8 (.alloc [(.int .i64 0),(.str []),(.str []),(.int .i64 0)]),sO (.store 3 7 22),sO (.store 4 8 23)])
 (.frz 7 0 (.frz 8 0 (.seq (.seq (.reg [0,1,5,7,31] [fO 24 3 6,lO 25 24,bO 26 .gtr 25 (kI 0),mO 27 26,gF 28 27 (.fa 3 8),gF 29 27 (.load none 28),gF 30 27 (.bin .gtr 29 (kI 0)),O 31 (.pick 27 kT 30)])
 (.cond 31 (.seq (.reg [4] [O 4 (.mv (.c .e0))])
 .ret) .skip))
 (.seq (.reg [0,1,5,7,9] [O 9 (.mv (.c .e0))])
 (.seq (.seq (.reg [0,1,7,9,33,34,35] [fO 32 2 5,lO 33 32,nO 34 33,mO 35 (kI 0)])
 (.block 0 (.lp false 0 [9,35] [0,1,7,33,34] (.seq (.reg [0,1,7,9,33,34,35,36] [bO 36 .lss 35 34])
 (.seq (.cond 36 .skip (.exit 0))
 (.seq (.block 1 (.seq (.reg [0,1,7,9,11,33,34,35] [iO 37 3 33 35,O 38 (.load (some 3) 37),O 11 (.alloc [(.str []),(.str []),.e0]),sO (.store 3 11 38)])
 (.frz 11 0 (.seq (.frz 7 0 (.frz 11 0 (.regd [0,1,7,9,11,12,13,33,34,35] (zbx 0 14) [0,0,2,7,0,0,0,64,0,256,1007,2047,4095,8191] [0,0,0,4,0,0,0,0,0,0,4,4,0,0] [mO 39 0,fO 40 2 11,lO 41 40,(cO 42 23 [39,41]),mO 43 1,O 44 (.load (some 3) 7),fO 45 0 11,lO 46 45,fO 47 1 11,lO 48 47,(cO 49 24 [44,46,48]),(cO 50 23 [43,49]),mO 12 42,mO 13 50])))
 (.seq (.reg [0,1,7,9,11,12,13,33,34,35,59] [mO 51 13,nO 52 51,bO 53 .gtr 52 (kI 0),mO 54 53,gT 55 54 (.mv 12),gT 56 54 (.mv 13),gT 57 54 (.call 25 [55,56]),gT 58 54 (.not 57),O 59 (.pick 54 58 kF)])
 (.jn false [9] [0,1,7,33,34,35] (.cond 59 (.regd [0,1,7,9,33,34,35] (zbx 0 18) [0,0,2,6,0,16,62,126,0,256,1022,2046,0,4864,16382,32766,65535,131071] [0,0,0,0,0,0,0,0,0,4,0,0,0,4,0,0,3,0] [mO 60 9,fO 61 0 11,lO 62 61,O 63 (.bin .add 62 (.c (.str [46]))),fO 64 1 11,lO 65 64,bO 66 .add 63 65,O 67 (.bin .add 66 (.c (.str [58,32]))),mO 68 12,(cO 69 26 [68,(.c (.str [32]))]),bO 70 .add 67 69,O 71 (.bin .add 70 (.c (.str [32,62,32]))),mO 72 13,(cO 73 26 [72,(.c (.str [32]))]),bO 74 .add 71 73,O 75 (.bsl 1 [74]),O 76 (.app 1 60 75),mO 9 76]) .skip)))))))
 (.reg [0,1,7,9,33,34,35] [bO 77 .add 35 (kI 1),mO 35 77])))))))
 (.seq (.reg [4] [mO 78 9,mO 4 78])
 .ret))))))))))
def cy7:List (Nat×An):=[(4,.t (.lst .str)),(5,.cells kb3),(6,.cells kb4),(7,.cells kb3),(8,.cells kb4),(31,.t .bool),(9,.t (.lst .str)),(33,.t (.lst (.nm .Own))),(34,.t (.int .i64)),(35,.t (.int .i64)),(38,.t (.nm .Own)),(11,.cells kb7),(44,.t (.nm .Chart)),(12,.t (.lst .str)),(13,.t (.lst .str)),(59,.t .bool),(75,.t (.lst .str)),(76,.t (.lst .str))]
def c8:CC:=
 .seq (.reg [0,1] [O 4 (.mv (.c (.sl 1 [])))])
 (.seq (.reg [0,1,5] [O 16 (.bsl0),mO 5 16])
 (.seq (.reg [0,1,5,6,7] [mO 18 0,(cO 19 27 [18]),mO 17 19,O 20 (.ext 17 0),O 21 (.ext 17 1),O 6 (.alloc [(.str []),.e0,.e0]),O 7 (.alloc [(.int .i64 0),(.str []),(.str []),(.int .i64 0)]),sO (.store 3 6 20),sO (.store 4 7 21)])
 (.frz 6 0 (.frz 7 0 (.seq (.reg [0,1,5,6,7,8,9] [mO 23 1,(cO 24 27 [23]),mO 22 24,O 25 (.ext 22 0),O 26 (.ext 22 1),O 8 (.alloc [(.str []),.e0,.e0]),O 9 (.alloc [(.int .i64 0),(.str []),(.str []),(.int .i64 0)]),sO (.store 3 8 25),sO (.store 4 9 26)])
 (.frz 8 0 (.frz 9 0 (.seq (.seq (.reg [0,1,5,6,8,34] [fO 27 3 7,lO 28 27,bO 29 .neq 28 (kI 0),mO 30 29,gF 31 30 (.fa 3 9),gF 32 30 (.load none 31),gF 33 30 (.bin .neq 32 (kI 0)),O 34 (.pick 30 kT 33)])
 (.cond 34 (.seq (.reg [4] [mO 35 5,mO 4 35])
 .ret) .skip))
 (.seq (.seq (.reg [0,1,5,6,8,10] [mO 10 (kI 0)])
 (.block 0 (.lp false 0 [5,10] [0,1,6,8] (.seq (.seq (.reg [0,1,5,6,8,10,40] [mO 36 10,fO 37 2 6,lO 38 37,nO 39 38,bO 40 .lss 36 39])
 (.cond 40 .skip (.exit 0)))
 (.seq (.block 1 (.seq (.reg [0,1,5,6,8,10,11] [fO 43 2 6,lO 44 43,mO 45 10,iO 46 3 44 45,O 47 (.load (some 3) 46),O 11 (.alloc [(.str []),(.str []),.e0]),sO (.store 3 11 47)])
 (.frz 11 0 (.seq (.frz 8 0 (.frz 11 0 (.reg [0,1,5,6,8,10,11,13] [fO 49 0 8,O 50 (.load (some 2) 49),fO 51 0 11,lO 52 51,fO 53 1 11,lO 54 53,(cO 55 28 [50,52,54]),mO 48 55,O 56 (.ext 48 0),O 57 (.ext 48 1),O 12 (.alloc [(.str []),(.str []),(.bool false),(.bool false),(.bool false),(.bool false),(.bool false),.e0]),sO (.store 8 12 56),mO 13 57])))
 (.seq (.reg [0,1,5,6,8,10,11,13,14] [mO 58 0,fO 59 0 11,lO 60 59,fO 61 1 11,lO 62 61,(cO 63 29 [58,60,62]),mO 14 63])
 (.seq (.reg [0,1,5,6,8,10,11,13,14,15] [mO 64 1,fO 65 0 11,lO 66 65,fO 67 1 11,lO 68 67,(cO 69 29 [64,66,68]),mO 15 69])
 (.seq (.reg [0,1,5,6,8,10,11,14,15,75] [mO 70 13,mO 71 70,gT 72 71 (.mv 14),gT 73 71 (.mv 15),gT 74 71 (.bin .neq 72 73),O 75 (.pick 71 74 kF)])
 (.jn false [5] [0,1,6,8,10] (.cond 75 (.reg [0,1,5,6,8,10] [mO 76 5,fO 77 0 11,lO 78 77,O 79 (.bin .add 78 (.c (.str [46]))),fO 80 1 11,lO 81 80,bO 82 .add 79 81,O 83 (.bin .add 82 (.c (.str [58,32]))),mO 84 14,bO 85 .add 83 84,O 86 (.bin .add 85 (.c (.str [32,62,32]))),mO 87 15,bO 88 .add 86 87,O 89 (.bsl 1 [88]),O 90 (.app 1 76 89),mO 5 90]) .skip)))))))))
 (.reg [0,1,5,6,8,10] [mO 41 10,bO 42 .add 41 (kI 1),mO 10 42]))))))
 (.seq (.reg [4] [mO 91 5,mO 4 91])
 .ret))))))))))
def cy8:List (Nat×An):=[(4,.t (.lst .str)),(16,.t (.lst .str)),(5,.t (.lst .str)),(6,.cells kb3),(7,.cells kb4),(8,.cells kb3),(9,.cells kb4),(34,.t .bool),(10,.t (.int .i64)),(47,.t (.nm .Own)),(11,.cells kb7),(50,.t (.nm .Part)),(12,.cells kb0),(14,.t .str),(15,.t .str),(75,.t .bool),(89,.t (.lst .str)),(90,.t (.lst .str))]
def c9:CC:=
 .seq (.reg [0,2,3] [O 2 (.alloc [(.str []),.e0,.e0]),O 3 (.alloc [(.int .i64 0),(.str []),(.str []),(.int .i64 0)])])
 (.seq (.seq (.reg [0,2,3,4] [mO 10 0,(cO 11 30 [10]),O 4 (.alloc [(.int .i64 0),(.str []),(.str []),(.int .i64 0)]),sO (.store 4 4 11)])
 (.frz 4 0 (.seq (.reg [0,2,3,4,14] [fO 12 3 4,lO 13 12,bO 14 .gtr 13 (kI 0)])
 (.cond 14 (.seq (.regd [2,3] [0,1,2,3] [0,0,1,7] [0,0,4,4] [O 15 (.build [(.str []),.e0,.e0] []),O 16 (.load (some 4) 4),sO (.store 3 2 15),sO (.store 4 3 16)])
 .ret) .skip))))
 (.seq (.reg [0,2,3,5] [mO 17 0,(cO 18 31 [17]),O 19 (.build [(.str []),.e0,.e0] [(0,2,18)]),O 5 (.alloc [(.str []),.e0,.e0]),sO (.store 3 5 19)])
 (.seq (.seq (.reg [0,2,3,5,23] [fO 20 0 5,O 21 (.load (some 2) 20),(cO 22 32 [21]),O 23 (.not 22)])
 (.cond 23 (.seq (.reg [2,3] [O 24 (.build [(.str []),.e0,.e0] []),O 25 (.build [(.int .i64 0),(.str []),(.str []),(.int .i64 0)] [(3,1,(kI 8))]),sO (.store 3 2 24),sO (.store 4 3 25)])
 .ret) .skip))
 (.seq (.seq (.reg [0,2,3,5,28,29,30] [fO 26 0 5,fO 27 1 26,lO 28 27,nO 29 28,mO 30 (kI 0)])
 (.block 0 (.lp false 0 [30] [0,2,3,5,28,29] (.seq (.reg [0,2,3,5,28,29,30,31] [bO 31 .lss 30 29])
 (.seq (.cond 31 .skip (.exit 0))
 (.seq (.block 1 (.seq (.reg [0,2,3,5,7,28,29,30] [iO 32 3 28 30,O 33 (.load (some 3) 32),O 7 (.alloc [(.str []),(.str []),.e0]),sO (.store 3 7 33)])
 (.frz 7 0 (.seq (.reg [0,2,3,5,7,28,29,30,35,36,37] [fO 34 2 7,lO 35 34,nO 36 35,mO 37 (kI 0)])
 (.block 2 (.lp false 2 [37] [0,2,3,5,7,28,29,30,35,36] (.seq (.reg [0,2,3,5,7,28,29,30,35,36,37,38] [bO 38 .lss 37 36])
 (.seq (.cond 38 .skip (.exit 2))
 (.seq (.block 3 (.seq (.reg [0,2,3,5,7,9,28,29,30,35,36,37] [iO 39 8 35 37,O 40 (.load (some 8) 39),O 9 (.alloc [(.str []),(.str []),(.bool false),(.bool false),(.bool false),(.bool false),(.bool false),.e0]),sO (.store 8 9 40)])
 (.frz 9 0 (.frz 7 0 (.frz 9 0 (.regd [0,2,3,5,7,28,29,30,35,36,37] (zbx 0 17) [0,1,0,4,0,16,0,0,128,0,512,1984,4092,8188,16383,32767,65535] [0,1,0,0,0,0,0,0,0,0,0,3,0,0,3,0,4] [fO 41 2 5,lO 42 41,fO 43 0 7,lO 44 43,fO 45 0 9,lO 46 45,mO 47 0,fO 48 0 7,lO 49 48,fO 50 0 9,lO 51 50,(cO 52 33 [47,49,51]),O 53 (.build [(.str []),(.str []),.sl 1 []] [(0,1,44),(1,1,46),(2,1,52)]),O 54 (.bsl 3 [53]),O 55 (.app 3 42 54),fO 56 2 5,sO (.store 1 56 55)]))))))
 (.reg [0,2,3,5,7,28,29,30,35,36,37] [bO 57 .add 37 (kI 1),mO 37 57]))))))))))
 (.reg [0,2,3,5,28,29,30] [bO 58 .add 30 (kI 1),mO 30 58])))))))
 (.seq (.reg [2,3] [O 59 (.load (some 3) 5),O 60 (.build [(.int .i64 0),(.str []),(.str []),(.int .i64 0)] []),sO (.store 3 2 59),sO (.store 4 3 60)])
 .ret)))))
def cy9:List (Nat×An):=[(2,.cells kb3),(3,.cells kb4),(4,.cells kb4),(15,.t (.nm .Chart)),(16,.t (.nm .CFault)),(19,.t (.nm .Chart)),(5,.cells kb3),(21,.t (.nm .Part)),(24,.t (.nm .Chart)),(25,.t (.nm .CFault)),(30,.t (.int .i64)),(33,.t (.nm .Typ)),(7,.cells kb1),(37,.t (.int .i64)),(40,.t (.nm .Field)),(9,.cells kb0),(53,.t (.nm .Own)),(54,.t (.lst (.nm .Own))),(55,.t (.lst (.nm .Own))),(59,.t (.nm .Chart)),(60,.t (.nm .CFault))]
def c10:CC:=
 .seq (.reg [0,1] [mO 4 kF])
 (.seq (.seq (.reg [0,1,10] [mO 6 0,nO 7 6,mO 8 1,nO 9 8,bO 10 .neq 7 9])
 (.cond 10 (.seq (.reg [4] [mO 4 kF])
 .ret) .skip))
 (.seq (.seq (.reg [0,1,5] [mO 5 (kI 0)])
 (.block 0 (.lp true 0 [5] [0,1] (.seq (.seq (.reg [0,1,5,14] [mO 11 5,mO 12 0,nO 13 12,bO 14 .lss 11 13])
 (.cond 14 .skip (.exit 0)))
 (.seq (.block 1 (.seq (.regd [0,1,5,25] (zbx 0 9) [0,0,3,7,0,0,48,112,255] [0,0,0,1,0,0,0,1,0] [mO 17 0,mO 18 5,iO 19 1 17 18,lO 20 19,mO 21 1,mO 22 5,iO 23 1 21 22,lO 24 23,bO 25 .neq 20 24])
 (.cond 25 (.seq (.reg [4] [mO 4 kF])
 .ret) .skip)))
 (.reg [0,1,5] [mO 15 5,bO 16 .add 15 (kI 1),mO 5 16]))))))
 (.seq (.reg [4] [mO 4 kT])
 .ret)))
def zI0:List (Nat×An):=[(4,.t .bool),(5,.t (.int .i64))]
def c11:CC:=
 .seq (.reg [0,2] [O 2 (.alloc [(.int .i64 0),(.str []),(.str []),(.int .i64 0)])])
 (.seq (.reg [2,4] [mO 6 0,(cO 7 27 [6]),mO 5 7,O 8 (.ext 5 0),O 9 (.ext 5 1),O 3 (.alloc [(.str []),.e0,.e0]),O 4 (.alloc [(.int .i64 0),(.str []),(.str []),(.int .i64 0)]),sO (.store 3 3 8),sO (.store 4 4 9)])
 (.frz 4 0 (.seq (.reg [2] [O 10 (.load (some 4) 4),sO (.store 4 2 10)])
 .ret)))
def zI1:List (Nat×An):=[(2,.cells kb4),(3,.cells kb3),(4,.cells kb4),(10,.t (.nm .CFault))]
def c21:CC:=
 .seq (.reg [0] [O 2 (.mv (.c (.sl 2 []))),O 3 (.mv (.c (.sl 2 [])))])
 (.seq (.reg [0,4] [mO 10 0,(cO 11 43 [10]),mO 4 11])
 (.seq (.reg [0,4,5] [O 12 (.bsl0),mO 5 12])
 (.seq (.seq (.reg [0,4,5,6] [mO 6 (kI 0)])
 (.block 0 (.lp false 0 [5,6] [0,4] (.seq (.seq (.reg [0,4,5,6,16] [mO 13 6,mO 14 4,nO 15 14,bO 16 .lss 13 15])
 (.cond 16 .skip (.exit 0)))
 (.seq (.block 1 (.reg [0,4,5,6] [mO 19 5,mO 20 4,mO 21 6,iO 22 2 20 21,O 23 (.load (some 2) 22),(cO 24 44 [23]),O 25 (.bslm 2 [24]),O 26 (.app 2 19 25),mO 5 26]))
 (.reg [0,4,5,6] [mO 17 6,bO 18 .add 17 (kI 1),mO 6 18]))))))
 (.seq (.reg [0,4,5,7] [mO 27 0,mO 28 5,nO 29 28,(cO 30 45 [27,29]),mO 7 30])
 (.seq (.seq (.reg [0,4,5,7,32] [mO 31 0,(cO 32 45 [31,(kI 6)])])
 (.block 2 (.seq (.reg [0,4,5,7,32,33] [bO 34 .eql 32 (kI 0),mO 33 34])
 (.cond 33 (.seq (.reg [2,3] [mO 35 4,mO 36 0,(cO 37 43 [36]),mO 2 35,mO 3 37])
 .ret) (.seq (.reg [0,4,5,7,32,38] [bO 39 .eql 32 (kI 1),mO 38 39])
 (.cond 38 (.frz 5 1000 (.reg [4,5] [mO 40 5,mO 41 7,mO 42 0,mO 43 5,mO 44 7,iO 45 2 43 44,O 46 (.load (some 2) 45),(cO 47 46 [42,46]),iO 48 2 40 41,sO (.store 2 48 47)])) (.seq (.reg [4,5,7,32,49] [bO 50 .eql 32 (kI 2),mO 49 50])
 (.cond 49 (.seq (.reg [4,5,7,8] [O 51 (.buildo 7 1 [(.str []),(.str []),(.bool false),(.bool false),(.bool false),(.bool false),(.bool false),.e0] [(0,1,(.c (.str [109,111,114,101]))),(1,1,(.c (.str [116,101,120,116])))]),O 8 (.alloc [(.str []),(.str []),(.bool false),(.bool false),(.bool false),(.bool false),(.bool false),.e0]),sO (.store 8 8 51)])
 (.frz 5 2007 (.regd [4,5] (zbx 0 19) [0,0,3,7,15,0,0,96,224,480,992,2016,4064,0,8192,32736,65535,131071,262143] [0,0,0,0,1,0,0,0,0,1,0,0,1,1,3,3,0,0,4] [mO 52 5,mO 53 7,iO 54 2 52 53,fO 55 1 54,lO 56 55,mO 57 5,mO 58 7,iO 59 2 57 58,fO 60 1 59,lO 61 60,O 62 (.ia 3 61 (kI 0)),fO 63 2 62,lO 64 63,O 65 (.load (some 8) 8),O 66 (.bslm 8 [65]),O 67 (.app 8 64 66),O 68 (.ia 3 56 (kI 0)),fO 69 2 68,sO (.store 1 69 67)]))) (.seq (.reg [4,5,7,32,70] [bO 71 .eql 32 (kI 3),mO 70 71])
 (.cond 70 (.seq (.frz 5 1000 (.reg [4,5,9] [mO 72 5,O 73 (.ia 2 72 (kI 0)),O 74 (.load (some 2) 73),O 9 (.alloc [(.str []),.e0]),sO (.store 2 9 74)]))
 (.frz 9 0 (.seq (.reg [4,5,9] [mO 75 5,mO 76 5,mO 77 5,nO 78 77,bO 79 .sub 78 (kI 1),iO 80 2 76 79,O 81 (.load (some 2) 80),O 82 (.ia 2 75 (kI 0)),sO (.store 2 82 81)])
 (.reg [4,5] [mO 83 5,mO 84 5,nO 85 84,bO 86 .sub 85 (kI 1),O 87 (.load (some 2) 9),iO 88 2 83 86,sO (.store 2 88 87)])))) (.seq (.reg [4,5,7,89] [bO 90 .eql 32 (kI 4),mO 89 90])
 (.cond 89 (.frz 5 1000 (.reg [4,5] [mO 91 5,mO 92 7,iO 93 2 91 92,fO 94 0 93,sO (.store 1 94 (.c (.str [110,101,119])))])) .skip))))))))))))
 (.seq (.reg [2,3] [mO 95 4,mO 96 5,mO 2 95,mO 3 96])
 .ret))))))
def zI2:List (Nat×An):=[(2,.t (.lst (.nm .Part))),(3,.t (.lst (.nm .Part))),(12,.o (.nm .Part) (.at [(1,.at [(2,.at [(7,.no)])])])),(5,.t (.lst (.nm .Part))),(6,.t (.int .i64)),(23,.t (.nm .Part)),(25,.o (.nm .Part) (.at [(1,.at [(2,.at [(7,.no)])])])),(26,.o (.nm .Part) (.at [(1,.at [(2,.at [(7,.no)])])])),(46,.t (.nm .Part)),(51,.t (.nm .Field)),(8,.cells kb0),(65,.t (.nm .Field)),(66,.o (.nm .Field) (.at [(7,.no)])),(67,.o (.nm .Field) (.at [(7,.no)])),(74,.t (.nm .Part)),(9,.cells kb2),(81,.t (.nm .Part)),(87,.t (.nm .Part))]
def c22:CC:=
 .seq (.reg [0] [O 2 (.mv (.c .nilp))])
 (.seq (.seq (.reg [0,5] [mO 3 0,nO 4 3,bO 5 .gtr 4 (kI 2000)])
 (.jn false [0] [] (.cond 5 (.reg [0] [mO 6 0,O 7 (.slc 1 6 none (some (kI 2000))),mO 0 7]) .skip)))
 (.seq (.reg [2] [mO 8 0,O 9 (.build [.e0,(.int .i64 0)] [(0,1,8)]),O 10 (.boxm 2 9),mO 2 10])
 .ret))
def zI3:List (Nat×An):=[(0,.t (.lst (.int .u8))),(10,.cells ⟨none,[some ((.lst (.int .u8)),.no),kN]⟩)]
def c23:CC:=
 .seq (.reg [0,1] [O 4 (.mv (.c (.sl 1 [])))])
 (.seq (.reg [0,1,5] [O 5 (.mv (.c .e0))])
 (.seq (.seq (.reg [0,5,8,9,10] [mO 8 1,nO 9 8,mO 10 (kI 0)])
 (.block 0 (.lp false 0 [5,10] [0,8,9] (.seq (.reg [0,5,8,9,10,11] [bO 11 .lss 10 9])
 (.seq (.cond 11 .skip (.exit 0))
 (.seq (.block 1 (.seq (.reg [0,5,7,8,9,10] [iO 12 1 8 10,lO 13 12,mO 7 13])
 (.reg [0,5,8,9,10] [mO 14 5,mO 15 0,mO 16 7,iO 17 2 15 16,fO 18 0 17,lO 19 18,O 20 (.bsl 1 [19]),O 21 (.app 1 14 20),mO 5 21])))
 (.reg [0,5,8,9,10] [bO 22 .add 10 (kI 1),mO 10 22])))))))
 (.seq (.reg [4] [mO 23 5,mO 4 23])
 .ret)))
def zI4:List (Nat×An):=[(4,.t (.lst .str)),(5,.t (.lst .str)),(10,.t (.int .i64)),(20,.t (.lst .str)),(21,.t (.lst .str))]
def c24:CC:=
 .seq (.reg [3,4,5] [O 3 (.boxi 3 0),O 4 (.boxi 1 1),O 5 (.boxi 1 2),O 6 (.mv (.c (.sl 1 [])))])
 (.seq (.reg [3,7] [fO 8 2 3,lO 9 8,O 10 (.mkfn 48 [4,5]),(cO 11 47 [9,10]),mO 7 11])
 (.seq (.seq (.reg [3,7,13] [mO 12 7,bO 13 .lss 12 (kI 0)])
 (.cond 13 (.seq (.reg [6] [O 6 (.mv (.c (.sl 1 [])))])
 .ret) .skip))
 (.seq (.reg [6] [fO 14 2 3,lO 15 14,mO 16 7,iO 17 3 15 16,fO 18 2 17,lO 19 18,(cO 20 49 [19]),mO 6 20])
 .ret)))
def zI5:List (Nat×An):=[(3,.cells kb3),(4,.cells ⟨none,[kS]⟩),(5,.cells ⟨none,[kS]⟩),(6,.t (.lst (.int .i64)))]
def c25:CC:=
 .seq (.reg [0,1] [mO 4 kF])
 (.seq (.seq (.reg [0,1,10] [mO 6 0,nO 7 6,mO 8 1,nO 9 8,bO 10 .neq 7 9])
 (.cond 10 (.seq (.reg [4] [mO 4 kF])
 .ret) .skip))
 (.seq (.seq (.reg [0,1,12,13] [mO 11 0,nO 12 11,mO 13 (kI 0)])
 (.block 0 (.lp true 0 [13] [0,1,12] (.seq (.reg [0,1,12,13,14] [bO 14 .lss 13 12])
 (.seq (.cond 14 .skip (.exit 0))
 (.seq (.block 1 (.seq (.reg [0,1,5,12,13] [mO 15 13,mO 5 15])
 (.seq (.regd [0,1,12,13,24] (zbx 0 9) [0,0,3,7,0,0,48,112,255] [0,0,0,1,0,0,0,1,0] [mO 16 0,mO 17 5,iO 18 1 16 17,lO 19 18,mO 20 1,mO 21 5,iO 22 1 20 21,lO 23 22,bO 24 .neq 19 23])
 (.cond 24 (.seq (.reg [4] [mO 4 kF])
 .ret) .skip))))
 (.reg [0,1,12,13] [bO 25 .add 13 (kI 1),mO 13 25])))))))
 (.seq (.reg [4] [mO 4 kT])
 .ret)))
def zI6:List (Nat×An):=[(4,.t .bool),(13,.t (.int .i64))]
def c27:CC:=
 .seq (.reg [0,2,3] [O 2 (.alloc [(.str []),.e0,.e0]),O 3 (.alloc [(.int .i64 0),(.str []),(.str []),(.int .i64 0)])])
 (.seq (.reg [0,2,3,4] [mO 9 0,(cO 10 53 [9]),O 4 (.alloc [(.int .i64 0),(.str []),(.str []),(.int .i64 0)]),sO (.store 4 4 10)])
 (.frz 4 0 (.seq (.seq (.reg [0,2,3,4,13] [fO 11 3 4,lO 12 11,bO 13 .neq 12 (kI 0)])
 (.cond 13 (.seq (.regd [2,3] [0,1,2,3] [0,0,1,7] [0,0,4,4] [O 14 (.build [(.str []),.e0,.e0] []),O 15 (.load (some 4) 4),sO (.store 3 2 14),sO (.store 4 3 15)])
 .ret) .skip))
 (.seq (.reg [0,2,3,4,5] [mO 16 0,(cO 17 54 [16]),O 18 (.build [(.str []),.e0,.e0] [(0,2,17)]),O 5 (.alloc [(.str []),.e0,.e0]),sO (.store 3 5 18)])
 (.seq (.seq (.reg [0,2,3,4,5,23] [fO 19 0 5,O 20 (.load (some 2) 19),(cO 21 55 [20]),O 22 (.field 1 none 21),bO 23 .neq 22 (kI 0)])
 (.cond 23 (.seq (.reg [2,3] [O 24 (.build [(.str []),.e0,.e0] []),O 25 (.build [(.int .i64 0),(.str []),(.str []),(.int .i64 0)] [(3,1,(kI 8))]),sO (.store 3 2 24),sO (.store 4 3 25)])
 .ret) .skip))
 (.seq (.seq (.reg [0,2,3,4,5,6] [mO 6 (kI 0)])
 (.block 0 (.lp false 0 [6] [0,2,3,4,5] (.seq (.seq (.reg [0,2,3,4,5,6,31] [mO 26 6,fO 27 0 5,fO 28 1 27,lO 29 28,nO 30 29,bO 31 .lss 26 30])
 (.cond 31 .skip (.exit 0)))
 (.seq (.block 1 (.seq (.reg [0,2,3,4,5,6,7] [fO 34 0 5,fO 35 1 34,lO 36 35,mO 37 6,iO 38 3 36 37,O 39 (.load (some 3) 38),O 7 (.alloc [(.str []),(.str []),.e0]),sO (.store 3 7 39)])
 (.frz 7 0 (.seq (.reg [0,2,3,4,5,6,7,8] [mO 8 (kI 0)])
 (.block 2 (.lp false 2 [8] [0,2,3,4,5,6,7] (.seq (.seq (.reg [0,2,3,4,5,6,7,8,44] [mO 40 8,fO 41 2 7,lO 42 41,nO 43 42,bO 44 .lss 40 43])
 (.cond 44 .skip (.exit 2)))
 (.seq (.block 3 (.frz 7 0 (.regd [0,2,3,4,5,6,7,8] (zbx 0 25) [0,1,0,4,0,16,0,112,240,496,0,0,2048,0,8192,0,57344,122880,253952,523264,1048572,2097148,4194303,8388607,16777215] [0,1,0,0,0,0,0,0,0,0,0,0,0,0,0,0,0,0,0,3,0,0,3,0,4] [fO 47 2 5,lO 48 47,fO 49 0 7,lO 50 49,fO 51 2 7,lO 52 51,mO 53 8,iO 54 8 52 53,fO 55 0 54,lO 56 55,mO 57 0,fO 58 0 7,lO 59 58,fO 60 2 7,lO 61 60,mO 62 8,iO 63 8 61 62,fO 64 0 63,lO 65 64,(cO 66 56 [57,59,65]),O 67 (.build [(.str []),(.str []),.sl 1 []] [(0,1,50),(1,1,56),(2,1,66)]),O 68 (.bsl 3 [67]),O 69 (.app 3 48 68),fO 70 2 5,sO (.store 1 70 69)])))
 (.reg [0,2,3,4,5,6,7,8] [mO 45 8,bO 46 .add 45 (kI 1),mO 8 46])))))))))
 (.reg [0,2,3,4,5,6] [mO 32 6,bO 33 .add 32 (kI 1),mO 6 33]))))))
 (.seq (.regd [2,3] [0,1,2,3] [0,0,1,7] [1,0,4,4] [O 71 (.load (some 3) 5),O 72 (.load (some 4) 4),sO (.store 3 2 71),sO (.store 4 3 72)])
 .ret)))))))
def zI7:List (Nat×An):=[(2,.cells kb3),(3,.cells kb4),(4,.cells kb4),(14,.t (.nm .Chart)),(15,.t (.nm .CFault)),(18,.t (.nm .Chart)),(5,.cells kb3),(20,.t (.nm .Part)),(22,.t (.int .i64)),(24,.t (.nm .Chart)),(25,.t (.nm .CFault)),(6,.t (.int .i64)),(39,.t (.nm .Typ)),(7,.cells kb1),(8,.t (.int .i64)),(67,.t (.nm .Own)),(68,.t (.lst (.nm .Own))),(69,.t (.lst (.nm .Own))),(71,.t (.nm .Chart)),(72,.t (.nm .CFault))]
def c28:CC:=
 .seq (.reg [1,2,3,6] [O 3 (.boxi 2 0),O 6 (.alloc [(.str []),(.str []),(.bool false),(.bool false),(.bool false),(.bool false),(.bool false),.e0]),mO 7 kF])
 (.seq (.reg [2,3,6,8] [O 10 (.load (some 2) 3),mO 11 1,(cO 12 57 [10,11]),mO 8 12])
 (.seq (.seq (.reg [2,3,6,8,14] [mO 13 8,bO 14 .lss 13 (kI 0)])
 (.cond 14 (.seq (.reg [6,7] [O 15 (.build [(.str []),(.str []),(.bool false),(.bool false),(.bool false),(.bool false),(.bool false),.e0] []),sO (.store 8 6 15),mO 7 kF])
 .ret) .skip))
 (.seq (.reg [3,6,8,9] [fO 16 1 3,lO 17 16,mO 18 8,iO 19 3 17 18,O 20 (.load (some 3) 19),mO 21 2,(cO 22 58 [20,21]),mO 9 22])
 (.seq (.seq (.reg [3,6,8,9,24] [mO 23 9,bO 24 .lss 23 (kI 0)])
 (.cond 24 (.seq (.reg [6,7] [O 25 (.build [(.str []),(.str []),(.bool false),(.bool false),(.bool false),(.bool false),(.bool false),.e0] []),sO (.store 8 6 25),mO 7 kF])
 .ret) .skip))
 (.seq (.reg [6,7] [fO 26 1 3,lO 27 26,mO 28 8,iO 29 3 27 28,fO 30 2 29,lO 31 30,mO 32 9,iO 33 8 31 32,O 34 (.load (some 8) 33),sO (.store 8 6 34),mO 7 kT])
 .ret)))))
def zI8:List (Nat×An):=[(3,.cells kb2),(6,.cells kb0),(7,.t .bool),(10,.t (.nm .Part)),(15,.t (.nm .Field)),(20,.t (.nm .Typ)),(25,.t (.nm .Field)),(34,.t (.nm .Field))]
def c29:CC:=
 .seq (.reg [0,1,2] [O 6 (.mv (.c (.str [])))])
 (.seq (.reg [0,1,2,7] [O 7 (.mv (.c (.str [])))])
 (.seq (.reg [0,7,8] [mO 10 0,mO 11 1,mO 12 2,(cO 13 56 [10,11,12]),mO 8 13])
 (.seq (.seq (.reg [0,7,8,9] [mO 9 (kI 0)])
 (.block 0 (.lp false 0 [7,9] [0,8] (.seq (.seq (.reg [0,7,8,9,17] [mO 14 9,mO 15 8,nO 16 15,bO 17 .lss 14 16])
 (.cond 17 .skip (.exit 0)))
 (.seq (.block 1 (.seq (.seq (.reg [0,7,8,9,21] [mO 20 9,bO 21 .gtr 20 (kI 0)])
 (.jn false [7] [0,8,9] (.cond 21 (.reg [0,7,8,9] [mO 22 7,O 23 (.bin .add 22 (.c (.str [32]))),mO 7 23]) .skip)))
 (.reg [0,7,8,9] [mO 24 7,mO 25 0,mO 26 8,mO 27 9,iO 28 1 26 27,lO 29 28,iO 30 2 25 29,fO 31 0 30,lO 32 31,bO 33 .add 24 32,mO 7 33])))
 (.reg [0,7,8,9] [mO 18 9,bO 19 .add 18 (kI 1),mO 9 19]))))))
 (.seq (.reg [6] [mO 34 7,mO 6 34])
 .ret))))
def zI9:List (Nat×An):=[(6,.t .str),(7,.t .str),(9,.t (.int .i64))]
def c30:CC:=
 .seq (.reg [0,2] [O 2 (.alloc [(.int .i64 0),(.str []),(.str []),(.int .i64 0)])])
 (.seq (.seq (.reg [0,2,20] [mO 17 0,nO 18 17,(cO 19 59 [18,(kI 1),(kI 4)]),O 20 (.not 19)])
 (.cond 20 (.seq (.reg [2] [O 21 (.build [(.int .i64 0),(.str []),(.str []),(.int .i64 0)] [(3,1,(kI 8))]),sO (.store 4 2 21)])
 .ret) .skip))
 (.seq (.seq (.reg [0,2,22,23,24] [mO 22 0,nO 23 22,mO 24 (kI 0)])
 (.block 0 (.lp true 0 [24] [0,2,22,23] (.seq (.reg [0,2,22,23,24,25] [bO 25 .lss 24 23])
 (.seq (.cond 25 .skip (.exit 0))
 (.seq (.block 1 (.seq (.reg [0,2,3,4,22,23,24] [mO 26 24,iO 27 2 22 24,O 28 (.load (some 2) 27),O 4 (.alloc [(.str []),.e0]),mO 3 26,sO (.store 2 4 28)])
 (.frz 4 0 (.block 2 (.seq (.reg [0,2,3,4,22,23,24,29] [O 30 (.load (some 2) 4),(cO 31 32 [30]),O 32 (.not 31),mO 29 32])
 (.cond 29 (.seq (.reg [2] [mO 33 3,bO 34 .add 33 (kI 1),O 35 (.build [(.int .i64 0),(.str []),(.str []),(.int .i64 0)] [(0,1,34),(3,1,(kI 1))]),sO (.store 4 2 35)])
 .ret) (.seq (.frz 4 0 (.reg [0,2,3,22,23,24,36] [mO 37 0,mO 38 3,O 39 (.slc 2 37 none (some 38)),O 40 (.mkfn 61 [4]),(cO 41 60 [39,40]),mO 36 41]))
 (.cond 36 (.seq (.reg [2] [mO 42 3,bO 43 .add 42 (kI 1),O 44 (.build [(.int .i64 0),(.str []),(.str []),(.int .i64 0)] [(0,1,43),(3,1,(kI 2))]),sO (.store 4 2 44)])
 .ret) .skip))))))))
 (.reg [0,2,22,23,24] [bO 45 .add 24 (kI 1),mO 24 45])))))))
 (.seq (.seq (.reg [0,2,46,47,48] [mO 46 0,nO 47 46,mO 48 (kI 0)])
 (.block 3 (.lp true 3 [48] [0,2,46,47] (.seq (.reg [0,2,46,47,48,49] [bO 49 .lss 48 47])
 (.seq (.cond 49 .skip (.exit 3))
 (.seq (.block 4 (.seq (.reg [0,2,5,6,46,47,48] [mO 50 48,iO 51 2 46 48,O 52 (.load (some 2) 51),O 6 (.alloc [(.str []),.e0]),mO 5 50,sO (.store 2 6 52)])
 (.frz 6 0 (.seq (.reg [0,2,5,46,47,48,54,55,56] [fO 53 1 6,lO 54 53,nO 55 54,mO 56 (kI 0)])
 (.block 5 (.lp true 5 [56] [0,2,5,46,47,48,54,55] (.seq (.reg [0,2,5,46,47,48,54,55,56,57] [bO 57 .lss 56 55])
 (.seq (.cond 57 .skip (.exit 5))
 (.seq (.block 6 (.seq (.reg [0,2,5,8,46,47,48,54,55,56] [iO 58 3 54 56,O 59 (.load (some 3) 58),O 8 (.alloc [(.str []),(.str []),.e0]),sO (.store 3 8 59)])
 (.frz 8 0 (.seq (.seq (.regd [0,2,5,8,46,47,48,54,55,56,71] (zbx 0 12) [0,1,3,7,15,31,15,15,143,463,1023,2047] [0,0,0,0,0,0,0,0,0,4,0,0] [fO 60 1 8,lO 61 60,O 62 (.bin .neq 61 (.c (.str []))),mO 63 62,gT 64 63 (.fa 1 8),gT 65 63 (.load none 64),gT 66 63 (.mv 0),gT 67 63 (.fa 0 8),gT 68 63 (.load none 67),gT 69 63 (.call 62 [66,68]),gT 70 63 (.bin .neq 65 69),O 71 (.pick 63 70 kF)])
 (.cond 71 (.seq (.reg [2] [mO 72 5,bO 73 .add 72 (kI 1),fO 74 0 8,lO 75 74,O 76 (.build [(.int .i64 0),(.str []),(.str []),(.int .i64 0)] [(0,1,73),(1,1,75),(2,1,(.c (.str []))),(3,1,(kI 4))]),sO (.store 4 2 76)])
 .ret) .skip))
 (.seq (.reg [0,2,5,8,9,46,47,48,54,55,56] [mO 77 0,O 78 (.load (some 3) 8),(cO 79 63 [77,78]),mO 9 79])
 (.seq (.reg [0,2,5,8,9,46,47,48,54,55,56,81] [mO 80 9,O 81 (.bin .neq 80 (.c (.str [])))])
 (.cond 81 (.seq (.reg [2] [mO 82 5,bO 83 .add 82 (kI 1),fO 84 0 8,lO 85 84,mO 86 9,O 87 (.build [(.int .i64 0),(.str []),(.str []),(.int .i64 0)] [(0,1,83),(1,1,85),(2,1,86),(3,1,(kI 3))]),sO (.store 4 2 87)])
 .ret) .skip)))))))
 (.reg [0,2,5,46,47,48,54,55,56] [bO 88 .add 56 (kI 1),mO 56 88]))))))))))
 (.reg [0,2,46,47,48] [bO 89 .add 48 (kI 1),mO 48 89])))))))
 (.seq (.seq (.reg [0,2,90,91,92] [mO 90 0,nO 91 90,mO 92 (kI 0)])
 (.block 7 (.lp true 7 [92] [0,2,90,91] (.seq (.reg [0,2,90,91,92,93] [bO 93 .lss 92 91])
 (.seq (.cond 93 .skip (.exit 7))
 (.seq (.block 8 (.seq (.reg [0,2,10,11,90,91,92] [mO 94 92,iO 95 2 90 92,O 96 (.load (some 2) 95),O 11 (.alloc [(.str []),.e0]),mO 10 94,sO (.store 2 11 96)])
 (.frz 11 0 (.seq (.reg [0,2,10,90,91,92,98,99,100] [fO 97 1 11,lO 98 97,nO 99 98,mO 100 (kI 0)])
 (.block 9 (.lp true 9 [100] [0,2,10,90,91,92,98,99] (.seq (.reg [0,2,10,90,91,92,98,99,100,101] [bO 101 .lss 100 99])
 (.seq (.cond 101 .skip (.exit 9))
 (.seq (.block 10 (.seq (.reg [0,2,10,13,90,91,92,98,99,100] [iO 102 3 98 100,O 103 (.load (some 3) 102),O 13 (.alloc [(.str []),(.str []),.e0]),sO (.store 3 13 103)])
 (.frz 13 0 (.seq (.reg [0,2,10,13,90,91,92,98,99,100,105,106,107] [fO 104 2 13,lO 105 104,nO 106 105,mO 107 (kI 0)])
 (.block 11 (.lp true 11 [107] [0,2,10,13,90,91,92,98,99,100,105,106] (.seq (.reg [0,2,10,13,90,91,92,98,99,100,105,106,107,108] [bO 108 .lss 107 106])
 (.seq (.cond 108 .skip (.exit 11))
 (.seq (.block 12 (.seq (.reg [0,2,10,13,15,90,91,92,98,99,100,105,106,107] [iO 109 8 105 107,O 110 (.load (some 8) 109),O 15 (.alloc [(.str []),(.str []),(.bool false),(.bool false),(.bool false),(.bool false),(.bool false),.e0]),sO (.store 8 15 110)])
 (.frz 15 0 (.seq (.reg [0,2,10,13,15,16,90,91,92,98,99,100,105,106,107] [mO 111 0,fO 112 0 13,lO 113 112,fO 114 0 15,lO 115 114,(cO 116 64 [111,113,115]),mO 16 116])
 (.seq (.reg [0,2,10,13,15,16,90,91,92,98,99,100,105,106,107,118] [mO 117 16,bO 118 .gtr 117 (kI 0)])
 (.cond 118 (.seq (.reg [2] [mO 119 10,bO 120 .add 119 (kI 1),fO 121 0 13,lO 122 121,fO 123 0 15,lO 124 123,mO 125 16,O 126 (.build [(.int .i64 0),(.str []),(.str []),(.int .i64 0)] [(0,1,120),(1,1,122),(2,1,124),(3,1,125)]),sO (.store 4 2 126)])
 .ret) .skip))))))
 (.reg [0,2,10,13,90,91,92,98,99,100,105,106,107] [bO 127 .add 107 (kI 1),mO 107 127]))))))))))
 (.reg [0,2,10,90,91,92,98,99,100] [bO 128 .add 100 (kI 1),mO 100 128]))))))))))
 (.reg [0,2,90,91,92] [bO 129 .add 92 (kI 1),mO 92 129])))))))
 (.seq (.reg [2] [O 130 (.build [(.int .i64 0),(.str []),(.str []),(.int .i64 0)] []),sO (.store 4 2 130)])
 .ret)))))
def zJa:List (Nat×An):=[(2,.cells kb4),(21,.t (.nm .CFault)),(24,.t (.int .i64)),(28,.t (.nm .Part)),(4,.cells kb2),(30,.t (.nm .Part)),(35,.t (.nm .CFault)),(44,.t (.nm .CFault)),(46,.t (.lst (.nm .Part))),(47,.t (.int .i64)),(48,.t (.int .i64)),(52,.t (.nm .Part)),(6,.cells kb2),(5,.t (.int .i64)),(54,.t (.lst (.nm .Typ))),(55,.t (.int .i64)),(56,.t (.int .i64)),(59,.t (.nm .Typ)),(8,.cells kb1),(71,.t .bool),(76,.t (.nm .CFault)),(78,.t (.nm .Typ)),(87,.t (.nm .CFault)),(92,.t (.int .i64)),(96,.t (.nm .Part)),(11,.cells kb2),(100,.t (.int .i64)),(103,.t (.nm .Typ)),(13,.cells kb1),(107,.t (.int .i64)),(110,.t (.nm .Field)),(15,.cells kb0),(126,.t (.nm .CFault)),(130,.t (.nm .CFault))]
def c31:CC:=
 .seq (.reg [0,2] [O 2 (.alloc [(.str []),.e0])])
 (.seq (.reg [0,2,3] [O 16 (.build [(.str []),.e0] [(0,1,(.c (.str [97])))]),O 3 (.alloc [(.str []),.e0]),sO (.store 2 3 16)])
 (.seq (.seq (.reg [0,2,3,17,18,19] [mO 17 0,nO 18 17,mO 19 (kI 0)])
 (.block 0 (.lp false 0 [19] [0,2,3,17,18] (.seq (.reg [0,2,3,17,18,19,20] [bO 20 .lss 19 18])
 (.seq (.cond 20 .skip (.exit 0))
 (.seq (.block 1 (.seq (.reg [0,2,3,5,17,18,19] [iO 21 2 17 19,O 22 (.load (some 2) 21),O 5 (.alloc [(.str []),.e0]),sO (.store 2 5 22)])
 (.frz 5 0 (.seq (.reg [0,2,3,17,18,19,24,25,26] [fO 23 1 5,lO 24 23,nO 25 24,mO 26 (kI 0)])
 (.block 2 (.lp false 2 [26] [0,2,3,17,18,19,24,25] (.seq (.reg [0,2,3,17,18,19,24,25,26,27] [bO 27 .lss 26 25])
 (.seq (.cond 27 .skip (.exit 2))
 (.seq (.block 3 (.seq (.reg [0,2,3,7,17,18,19,24,25,26] [iO 28 3 24 26,O 29 (.load (some 3) 28),O 7 (.alloc [(.str []),(.str []),.e0]),sO (.store 3 7 29)])
 (.frz 7 0 (.seq (.frz 7 0 (.reg [0,2,3,7,8,17,18,19,24,25,26] [fO 30 1 3,lO 31 30,O 32 (.mkfn 66 [7]),(cO 33 65 [31,32]),mO 8 33]))
 (.seq (.seq (.reg [0,2,3,7,8,17,18,19,24,25,26,35] [mO 34 8,bO 35 .lss 34 (kI 0)])
 (.jn false [8] [0,2,3,7,17,18,19,24,25,26] (.cond 35 (.seq (.reg [0,2,3,7,8,17,18,19,24,25,26] [fO 36 1 3,lO 37 36,nO 38 37,mO 8 38])
 (.frz 7 0 (.regd [0,2,3,7,8,17,18,19,24,25,26] (zbx 0 13) [0,1,0,4,0,0,32,112,252,508,1023,2047,4095] [0,1,0,0,0,0,0,3,3,3,3,0,4] [fO 39 1 3,lO 40 39,fO 41 0 7,lO 42 41,mO 43 0,fO 44 0 7,lO 45 44,(cO 46 62 [43,45]),O 47 (.buildo 2 8 [(.str []),(.str []),.e0] [(0,1,42),(1,1,46)]),O 48 (.bslm 3 [47]),O 49 (.app 3 40 48),fO 50 1 3,sO (.store 1 50 49)]))) .skip)))
 (.seq (.reg [0,2,3,7,9,17,18,19,24,25,26] [fO 51 1 3,lO 52 51,mO 53 8,iO 54 3 52 53,mO 9 54])
 (.seq (.reg [0,2,3,7,9,17,18,19,24,25,26,56,57,58] [fO 55 2 7,lO 56 55,nO 57 56,mO 58 (kI 0)])
 (.block 4 (.lp false 4 [58] [0,2,3,7,9,17,18,19,24,25,26,56,57] (.seq (.reg [0,2,3,7,9,17,18,19,24,25,26,56,57,58,59] [bO 59 .lss 58 57])
 (.seq (.cond 59 .skip (.exit 4))
 (.seq (.block 5 (.seq (.reg [0,2,3,7,9,11,17,18,19,24,25,26,56,57,58] [iO 60 8 56 58,O 61 (.load (some 8) 60),O 11 (.alloc [(.str []),(.str []),(.bool false),(.bool false),(.bool false),(.bool false),(.bool false),.e0]),sO (.store 8 11 61)])
 (.frz 11 0 (.seq (.seq (.frz 11 0 (.regd [0,2,3,7,9,11,13,17,18,19,24,25,26,56,57,58] (zbx 0 12) [0,1,3,0,8,31,63,127,127,0,767,2047] [0,0,1,0,0,4,0,0,0,4,4,0] [mO 63 9,O 64 (.nilc 63),O 65 (.load (some 3) 64),fO 66 0 11,lO 67 66,(cO 68 67 [65,67]),mO 62 68,O 69 (.ext 62 0),O 70 (.ext 62 1),O 12 (.alloc [(.str []),(.str []),(.bool false),(.bool false),(.bool false),(.bool false),(.bool false),.e0]),sO (.store 8 12 69),mO 13 70]))
 (.seq (.reg [0,2,3,7,9,11,17,18,19,24,25,26,56,57,58,71] [mO 71 13])
 (.cond 71 (.exit 5) .skip)))
 (.seq (.frz 7 0 (.frz 11 0 (.reg [0,2,3,7,9,11,14,17,18,19,24,25,26,56,57,58] [mO 72 0,fO 73 0 7,lO 74 73,fO 75 0 11,lO 76 75,(cO 77 69 [72,74,76]),(cO 78 68 [77,(.c (.fn 70 []))]),mO 14 78])))
 (.seq (.frz 7 0 (.frz 11 0 (.reg [0,2,3,7,9,11,14,15,17,18,19,24,25,26,56,57,58] [mO 79 0,fO 80 0 7,lO 81 80,fO 82 0 11,lO 83 82,(cO 84 72 [79,81,83]),(cO 85 71 [84]),mO 15 85])))
 (.frz 11 0 (.regd [0,2,3,7,9,17,18,19,24,25,26,56,57,58] (zbx 0 21) [0,0,2,6,14,0,32,0,128,0,512,0,2048,0,0,32736,65504,131070,262143,524287,1048575] [0,0,0,0,1,0,0,0,0,0,0,0,0,0,0,0,0,3,0,0,4] [mO 86 9,mO 87 9,O 88 (.nilc 87),fO 89 2 88,lO 90 89,fO 91 0 11,lO 92 91,fO 93 1 11,lO 94 93,fO 95 2 11,lO 96 95,fO 97 3 11,lO 98 97,mO 99 14,mO 100 15,O 101 (.build [(.str []),(.str []),(.bool false),(.bool false),(.bool false),(.bool false),(.bool false),.sl 1 []] [(0,1,92),(1,1,94),(2,1,96),(3,1,98),(5,1,99),(7,1,100)]),O 102 (.bsl 8 [101]),O 103 (.app 8 90 102),O 104 (.nilc 86),fO 105 2 104,sO (.store 1 105 103)]))))))))
 (.reg [0,2,3,7,9,17,18,19,24,25,26,56,57,58] [bO 106 .add 58 (kI 1),mO 58 106])))))))))))))
 (.reg [0,2,3,17,18,19,24,25,26] [bO 107 .add 26 (kI 1),mO 26 107]))))))))))
 (.reg [0,2,3,17,18,19] [bO 108 .add 19 (kI 1),mO 19 108])))))))
 (.seq (.reg [2] [O 109 (.load (some 2) 3),sO (.store 2 2 109)])
 .ret)))
def zJb:List (Nat×An):=[(2,.cells kb5),(16,.t (.nm .Part)),(3,.cells kb5),(19,.t (.int .i64)),(22,.t (.nm .Part)),(5,.cells kb2),(26,.t (.int .i64)),(29,.t (.nm .Typ)),(7,.cells kb1),(8,.t (.int .i64)),(47,.t (.nm .Typ)),(48,.o (.nm .Typ) (.at [(2,.no)])),(49,.o (.nm .Typ) (.at [(2,.no)])),(58,.t (.int .i64)),(61,.t (.nm .Field)),(11,.cells kb0),(65,.t (.nm .Typ)),(12,.cells kb0),(101,.t (.nm .Field)),(102,.t (.lst (.nm .Field))),(103,.t (.lst (.nm .Field))),(109,.t (.nm .Part))]
def c32:CC:=
 .seq (.reg [1] [O 1 (.boxi 2 0),mO 2 kF])
 (.seq (.reg [2] [O 3 (.load (some 2) 1),(cO 4 73 [3]),O 5 (.build [(.int .i64 0),(.int .i64 0)] []),O 6 (.eqs .eql [2,2] 4 5),mO 2 6])
 .ret)
def zJc:List (Nat×An):=[(1,.cells kb2),(2,.t .bool),(3,.t (.nm .Part)),(5,.t (.nm .PFault))]
def c33:CC:=
 .seq (.reg [0,1,2] [O 6 (.mv (.c (.sl 1 [])))])
 (.seq (.reg [0,1,2,7] [O 7 (.mv (.c .e0))])
 (.seq (.seq (.reg [1,2,7,12,13,14] [mO 12 0,nO 13 12,mO 14 (kI 0)])
 (.block 0 (.lp false 0 [7,14] [1,2,12,13] (.seq (.reg [1,2,7,12,13,14,15] [bO 15 .lss 14 13])
 (.seq (.cond 15 .skip (.exit 0))
 (.seq (.block 1 (.seq (.reg [1,2,7,8,9,12,13,14] [mO 16 14,iO 17 2 12 14,O 18 (.load (some 2) 17),O 9 (.alloc [(.str []),.e0]),mO 8 16,sO (.store 2 9 18)])
 (.frz 9 0 (.seq (.frz 9 0 (.reg [1,2,7,8,10,11,12,13,14] [O 20 (.load (some 2) 9),mO 21 1,mO 22 2,(cO 23 74 [20,21,22]),mO 19 23,O 24 (.ext 19 0),O 25 (.ext 19 1),O 10 (.alloc [(.str []),(.str []),(.bool false),(.bool false),(.bool false),(.bool false),(.bool false),.e0]),sO (.store 8 10 24),mO 11 25]))
 (.frz 10 0 (.seq (.reg [1,2,7,8,12,13,14,31] [mO 26 11,mO 27 26,gT 28 27 (.fa 4 10),gT 29 27 (.load none 28),gT 30 27 (.not 29),O 31 (.pick 27 30 kF)])
 (.jn false [7] [1,2,12,13,14] (.cond 31 (.reg [1,2,7,12,13,14] [mO 32 7,mO 33 8,O 34 (.bsl 1 [33]),O 35 (.app 1 32 34),mO 7 35]) .skip))))))))
 (.reg [1,2,7,12,13,14] [bO 36 .add 14 (kI 1),mO 14 36])))))))
 (.seq (.reg [6] [mO 37 7,mO 6 37])
 .ret)))
def zJd:List (Nat×An):=[(6,.t (.lst (.int .i64))),(7,.t (.lst (.int .i64))),(12,.t (.lst (.nm .Part))),(13,.t (.int .i64)),(14,.t (.int .i64)),(18,.t (.nm .Part)),(9,.cells kb2),(8,.t (.int .i64)),(20,.t (.nm .Part)),(10,.cells kb0),(31,.t .bool),(34,.t (.lst (.int .i64))),(35,.t (.lst (.int .i64)))]
def c39:CC:=
 .seq (.reg [0] [mO 2 kF,O 3 (.mv (.c (.sl 1 [])))])
 (.seq (.reg [0,4,5] [mO 8 0,(cO 9 27 [8]),mO 7 9,O 10 (.ext 7 0),O 11 (.ext 7 1),O 4 (.alloc [(.str []),.e0,.e0]),O 5 (.alloc [(.int .i64 0),(.str []),(.str []),(.int .i64 0)]),sO (.store 3 4 10),sO (.store 4 5 11)])
 (.frz 4 0 (.frz 5 0 (.seq (.seq (.reg [0,4,14] [fO 12 3 5,lO 13 12,bO 14 .neq 13 (kI 0)])
 (.cond 14 (.seq (.reg [2,3] [O 15 (.bsl 1 []),mO 2 kF,mO 3 15])
 .ret) .skip))
 (.seq (.frz 4 0 (.reg [6] [mO 16 0,fO 17 0 4,O 18 (.load (some 2) 17),(cO 19 79 [16,18]),mO 6 19]))
 (.seq (.frz 6 0 (.regd [2,3] (zbx 0 14) [0,1,3,7,15,31,0,0,128,384,896,1984,4095,8191] [0,0,0,1,0,0,0,0,0,0,1,3,0,0] [mO 20 6,O 21 (.nilc 20),fO 22 2 21,lO 23 22,nO 24 23,bO 25 .eql 24 (kI 0),O 26 (.bsl0),mO 27 6,O 28 (.nilc 27),fO 29 2 28,lO 30 29,O 31 (.app 1 26 30),mO 2 25,mO 3 31]))
 .ret))))))
def zJe:List (Nat×An):=[(2,.t .bool),(3,.t (.lst .str)),(4,.cells kb3),(5,.cells kb4),(15,.t (.lst .str)),(18,.t (.nm .Part)),(26,.t (.lst .str)),(31,.t (.lst .str))]
def c43:CC:=
 .seq (.reg [0] [O 2 (.mv (.c (.sl 2 [])))])
 (.seq (.seq (.reg [0,3] [mO 3 (kI 0)])
 (.block 0 (.lp true 0 [3] [0] (.seq (.seq (.reg [0,3,8] [mO 7 3,bO 8 .lss 7 (kI 6)])
 (.cond 8 .skip (.exit 0)))
 (.seq (.block 1 (.seq (.reg [0,3,4] [mO 11 0,(cO 12 82 [11]),mO 4 12])
 (.seq (.reg [0,3,4,5] [mO 14 4,(cO 15 39 [14]),mO 13 15,O 16 (.ext 13 0),O 17 (.ext 13 1),mO 5 16,mO 6 17])
 (.seq (.reg [0,3,4,18] [mO 18 5])
 (.cond 18 (.seq (.reg [2] [mO 19 4,mO 2 19])
 .ret) .skip)))))
 (.reg [0,3] [mO 9 3,bO 10 .add 9 (kI 1),mO 3 10]))))))
 (.seq (.reg [2] [O 20 (.build [(.str []),(.str []),(.bool false),(.bool false),(.bool false),(.bool false),(.bool false),.sl 1 []] [(0,1,(.c (.str [117,115,101,114,115]))),(1,1,(.c (.str [117,115,101,114]))),(2,1,kT)]),O 21 (.bsl 8 [20]),O 22 (.build [(.str []),(.str []),.sl 8 []] [(0,1,(.c (.str [113,117,101,114,121]))),(2,1,21)]),O 23 (.build [(.str []),(.str []),(.bool false),(.bool false),(.bool false),(.bool false),(.bool false),.sl 1 []] [(0,1,(.c (.str [105,100]))),(1,1,(.c (.str [105,110,116]))),(3,1,kT)]),O 24 (.build [(.str []),(.str []),(.bool false),(.bool false),(.bool false),(.bool false),(.bool false),.sl 1 []] [(0,1,(.c (.str [110,97,109,101]))),(1,1,(.c (.str [116,101,120,116])))]),O 25 (.bsl 8 [23,24]),O 26 (.build [(.str []),(.str []),.sl 8 []] [(0,1,(.c (.str [117,115,101,114]))),(1,1,(.c (.str [105,100]))),(2,1,25)]),O 27 (.bsl 3 [22,26]),O 28 (.build [(.str []),.sl 3 []] [(0,1,(.c (.str [101,97,115,116]))),(1,1,27)]),O 29 (.bsl 2 [28]),mO 2 29])
 .ret))
def zJf:List (Nat×An):=[(2,.t (.lst (.nm .Part))),(3,.t (.int .i64)),(20,.t (.nm .Field)),(21,.t (.lst (.nm .Field))),(22,.t (.nm .Typ)),(23,.t (.nm .Field)),(24,.t (.nm .Field)),(25,.t (.lst (.nm .Field))),(26,.t (.nm .Typ)),(27,.t (.lst (.nm .Typ))),(28,.t (.nm .Part)),(29,.t (.lst (.nm .Part)))]
def c44:CC:=
 .seq (.reg [1,2] [O 1 (.boxi 2 0),O 2 (.alloc [(.str []),.e0])])
 (.seq (.reg [1,2,3] [fO 7 0 1,lO 8 7,O 9 (.build [(.str []),.e0] [(0,1,8)]),O 3 (.alloc [(.str []),.e0]),sO (.store 2 3 9)])
 (.seq (.seq (.reg [1,2,3,4] [mO 4 (kI 0)])
 (.block 0 (.lp false 0 [4] [1,2,3] (.seq (.seq (.reg [1,2,3,4,14] [mO 10 4,fO 11 1 1,lO 12 11,nO 13 12,bO 14 .lss 10 13])
 (.cond 14 .skip (.exit 0)))
 (.seq (.block 1 (.seq (.regd [1,2,3,4,5] (zbx 0 15) [0,1,0,7,15,31,0,64,0,448,960,1984,4095,0,16383] [0,0,0,0,0,0,0,0,0,0,0,0,0,3,4] [fO 17 1 1,lO 18 17,mO 19 4,iO 20 3 18 19,fO 21 0 20,lO 22 21,fO 23 1 1,lO 24 23,mO 25 4,iO 26 3 24 25,fO 27 1 26,lO 28 27,O 29 (.build [(.str []),(.str []),.e0] [(0,1,22),(1,1,28)]),O 5 (.alloc [(.str []),(.str []),.e0]),sO (.store 3 5 29)])
 (.seq (.seq (.frz 5 1001 (.reg [1,2,3,4,5,6] [mO 6 (kI 0)]))
 (.block 2 (.lp false 2 [6] [1,2,3,4,5] (.seq (.seq (.reg [1,2,3,4,5,6,38] [mO 30 6,fO 31 1 1,lO 32 31,mO 33 4,iO 34 3 32 33,fO 35 2 34,lO 36 35,nO 37 36,bO 38 .lss 30 37])
 (.cond 38 .skip (.exit 2)))
 (.seq (.block 3 (.regd [1,2,3,4,5,6] (zbx 0 16) [0,1,0,4,0,28,60,124,0,508,1020,2044,4092,8191,16383,32767] [0,1,0,0,0,0,0,0,0,0,0,3,3,3,0,4] [fO 41 2 5,lO 42 41,fO 43 1 1,lO 44 43,mO 45 4,iO 46 3 44 45,fO 47 2 46,lO 48 47,mO 49 6,iO 50 8 48 49,O 51 (.load (some 8) 50),(cO 52 83 [51]),O 53 (.bslm 8 [52]),O 54 (.app 8 42 53),fO 55 2 5,sO (.store 1 55 54)]))
 (.frz 5 1001 (.reg [1,2,3,4,5,6] [mO 39 6,bO 40 .add 39 (kI 1),mO 6 40])))))))
 (.reg [1,2,3,4] [fO 56 1 3,lO 57 56,O 58 (.load (some 3) 5),O 59 (.bslm 3 [58]),O 60 (.app 3 57 59),fO 61 1 3,sO (.store 1 61 60)]))))
 (.reg [1,2,3,4] [mO 15 4,bO 16 .add 15 (kI 1),mO 4 16]))))))
 (.seq (.reg [2] [O 62 (.load (some 2) 3),sO (.store 2 2 62)])
 .ret)))
def zJg:List (Nat×An):=[(1,.cells kb2),(2,.cells kb6),(9,.t (.nm .Part)),(3,.cells kb6),(4,.t (.int .i64)),(29,.t (.nm .Typ)),(5,.cells ⟨some .Typ,[kS,kS,some ((.lst (.nm .Field)),.at [(7,.no)])]⟩),(6,.t (.int .i64)),(51,.t (.nm .Field)),(53,.o (.nm .Field) (.at [(7,.no)])),(54,.o (.nm .Field) (.at [(7,.no)])),(58,.t (.nm .Typ)),(59,.o (.nm .Typ) (.at [(2,.at [(7,.no)])])),(60,.o (.nm .Typ) (.at [(2,.at [(7,.no)])])),(62,.t (.nm .Part))]
def c45:CC:=
 .seq (.reg [0,1] [mO 4 (kI 0)])
 (.seq (.reg [0,1] [mO 7 0,mO 8 0,O 9 (.nilc 8),fO 10 1 9,lO 11 10,bO 12 .add 11 (kI 1),O 13 (.nilc 7),fO 14 1 13,sO (.store 1 14 12)])
 (.seq (.seq (.reg [0,1,24] [mO 15 1,bO 16 .lss 15 (kI 1),mO 17 16,gF 18 17 (.mv 0),gF 19 17 (.nilc 18),gF 20 17 (.fa 0 19),gF 21 17 (.load none 20),gF 22 17 (.lenl 21),gF 23 17 (.bin .eql 22 (kI 0)),O 24 (.pick 17 kT 23)])
 (.cond 24 (.seq (.reg [4] [mO 4 (kI 0)])
 .ret) .skip))
 (.seq (.reg [0,1,5] [mO 25 0,O 26 (.nilc 25),fO 27 1 26,lO 28 27,bO 29 .sub 28 (kI 1),mO 5 29])
 (.seq (.seq (.reg [0,1,5,36] [mO 30 5,mO 31 0,O 32 (.nilc 31),fO 33 0 32,lO 34 33,nO 35 34,bO 36 .lss 30 35])
 (.cond 36 (.seq (.reg [4] [mO 37 0,O 38 (.nilc 37),fO 39 0 38,lO 40 39,mO 41 5,iO 42 1 40 41,lO 43 42,O 44 (.conv .i64 43),mO 45 1,bO 46 .rem 44 45,mO 4 46])
 .ret) .skip))
 (.seq (.regd [1,6] (zbx 0 46) [0,1,3,7,0,0,32,96,224,480,1008,2047,4095,8191,16383,0,32768,98304,229376,0,524288,1572864,0,4194304,12582912,29360128,62914560,133693440,268402688,536838144,1073709056,2147450880,4294967295,0,8589934592,34359738367,0,0,137438953472,412316860416,962072674304,2061584302080,4329327034368,8727373545472,17592186044415,35184372088831] [0,0,0,1,0,0,0,0,1,0,0,0,1,0,0,0,0,0,1,0,0,0,0,0,0,1,0,0,0,1,0,0,0,0,0,0,0,0,0,0,1,0,0,0,0,0] [mO 47 0,O 48 (.nilc 47),fO 49 0 48,lO 50 49,mO 51 5,mO 52 0,O 53 (.nilc 52),fO 54 0 53,lO 55 54,nO 56 55,bO 57 .rem 51 56,iO 58 1 50 57,lO 59 58,O 60 (.conv .i64 59),bO 61 .mul 60 (kI 131),mO 62 0,O 63 (.nilc 62),fO 64 0 63,lO 65 64,mO 66 5,bO 67 .mul 66 (kI 7),bO 68 .add 67 (kI 3),mO 69 0,O 70 (.nilc 69),fO 71 0 70,lO 72 71,nO 73 72,bO 74 .rem 68 73,iO 75 1 65 74,lO 76 75,O 77 (.conv .i64 76),bO 78 .mul 77 (kI 1117),bO 79 .add 61 78,mO 80 5,bO 81 .mul 80 (kI 29),bO 82 .add 79 81,mO 83 5,mO 84 0,O 85 (.nilc 84),fO 86 0 85,lO 87 86,nO 88 87,bO 89 .quo 83 88,bO 90 .mul 89 (kI 53),bO 91 .add 82 90,mO 6 91])
 (.seq (.reg [1,6] [mO 92 6,mO 93 6,bO 94 .quo 93 (kI 64),bO 95 .xor 92 94,mO 6 95])
 (.seq (.reg [4] [mO 96 6,mO 97 1,bO 98 .rem 96 97,mO 4 98])
 .ret)))))))
def zJh:List (Nat×An):=[(4,.t (.int .i64)),(24,.t .bool)]
def c46:CC:=
 .seq (.reg [0,3,4] [O 3 (.boxi 2 1),O 4 (.alloc [(.str []),.e0])])
 (.seq (.reg [0,4,5] [O 10 (.load (some 2) 3),(cO 11 44 [10]),O 5 (.alloc [(.str []),.e0]),sO (.store 2 5 11)])
 (.seq (.reg [0,4,5,6] [mO 12 0,fO 13 1 5,lO 14 13,nO 15 14,(cO 16 45 [12,15]),mO 6 16])
 (.seq (.reg [0,4,5,6,7] [fO 17 1 5,lO 18 17,mO 19 6,iO 20 3 18 19,O 21 (.load (some 3) 20),O 7 (.alloc [(.str []),(.str []),.e0]),sO (.store 3 7 21)])
 (.seq (.reg [0,4,5,6,7,8] [mO 22 0,fO 23 2 7,lO 24 23,nO 25 24,bO 26 .add 25 (kI 1),(cO 27 45 [22,26]),mO 8 27])
 (.seq (.seq (.reg [0,4,5,6,7,8,32] [mO 28 8,fO 29 2 7,lO 30 29,nO 31 30,bO 32 .lss 28 31])
 (.cond 32 (.seq (.reg [0,4,5,6,7,8,9] [fO 33 2 7,lO 34 33,mO 35 8,iO 36 8 34 35,O 37 (.load (some 8) 36),O 9 (.alloc [(.str []),(.str []),(.bool false),(.bool false),(.bool false),(.bool false),(.bool false),.e0]),sO (.store 8 9 37)])
 (.seq (.seq (.reg [0,4,5,6,7,8,9,39] [mO 38 0,(cO 39 45 [38,(kI 9)])])
 (.block 0 (.seq (.reg [0,4,5,6,7,8,9,39,48] [bO 49 .eql 39 (kI 0),mO 48 49])
 (.cond 48 (.reg [4,5,6,7,8,9] [mO 50 0,O 51 (.bsl 1 [(.c (.str [110,111,110,101])),(.c (.str [113,117,101,114,121])),(.c (.str [116,101,120,116])),(.c (.str [65])),(.c (.str [117,115,101,114]))]),(cO 52 84 [50,51]),fO 53 1 9,sO (.store 1 53 52)]) (.seq (.reg [0,4,5,6,7,8,9,39,54] [bO 55 .eql 39 (kI 1),mO 54 55])
 (.cond 54 (.reg [4,5,6,7,8,9] [fO 56 2 9,lO 57 56,O 58 (.not 57),fO 59 2 9,sO (.store 1 59 58)]) (.seq (.reg [0,4,5,6,7,8,9,39,60] [bO 61 .eql 39 (kI 2),mO 60 61])
 (.cond 60 (.reg [4,5,6,7,8,9] [fO 62 3 9,lO 63 62,O 64 (.not 63),fO 65 3 9,sO (.store 1 65 64)]) (.seq (.reg [0,4,5,6,7,8,9,39,66] [bO 67 .eql 39 (kI 3),mO 66 67])
 (.cond 66 (.reg [4,5,6,7,8,9] [fO 68 4 9,lO 69 68,O 70 (.not 69),fO 71 4 9,sO (.store 1 71 70)]) (.seq (.reg [0,4,5,6,7,8,9,39,72] [bO 73 .eql 39 (kI 4),mO 72 73])
 (.cond 72 (.regd [4,5,6,7,8,9] (zbx 0 9) [0,1,0,0,12,28,63,127,255] [0,1,0,0,3,0,3,0,4] [fO 74 7 9,lO 75 74,mO 76 0,O 77 (.bsl 1 [(.c (.str [97,103,101])),(.c (.str [122,122])),(.c (.str [105,100])),(.c (.str [112,114,105,99,101]))]),(cO 78 84 [76,77]),O 79 (.bsl 1 [78]),O 80 (.app 1 75 79),fO 81 7 9,sO (.store 1 81 80)]) (.seq (.reg [0,4,5,6,7,8,9,39,82] [bO 83 .eql 39 (kI 5),mO 82 83])
 (.cond 82 (.reg [4,5,6,7,8,9] [mO 84 0,O 85 (.bsl 1 [(.c (.str [105,100])),(.c (.str [110,97,109,101])),(.c (.str [])),(.c (.str [102,97,114])),(.c (.str [116,111,111,108,111,110,103,110,97,109,101])),(.c (.str [95,97]))]),(cO 86 84 [84,85]),fO 87 0 9,sO (.store 1 87 86)]) (.seq (.reg [4,5,6,7,8,9,39,88] [bO 89 .eql 39 (kI 6),mO 88 89])
 (.cond 88 (.reg [4,5,6,7,8,9] [fO 90 6 9,lO 91 90,O 92 (.not 91),fO 93 6 9,sO (.store 1 93 92)]) (.seq (.reg [4,5,6,7,8,9,94] [bO 95 .eql 39 (kI 7),mO 94 95])
 (.cond 94 (.reg [4,5,6,7,8,9] [fO 96 5 9,lO 97 96,O 98 (.not 97),fO 99 5 9,sO (.store 1 99 98)]) (.frz 9 0 (.frz 9 0 (.frz 7 1000 (.regd [4,5,6,7,8,9] (zbx 0 9) [0,0,2,7,0,16,63,127,255] [0,0,1,3,1,0,3,0,4] [O 40 (.bsl0),fO 41 2 7,lO 42 41,O 43 (.app 8 40 42),O 44 (.load (some 8) 9),O 45 (.bsl 8 [44]),O 46 (.app 8 43 45),fO 47 2 7,sO (.store 1 47 46)]))))))))))))))))))))))
 (.seq (.frz 9 0 (.reg [4,5,6,7] [fO 100 2 7,lO 101 100,mO 102 8,O 103 (.load (some 8) 9),iO 104 8 101 102,sO (.store 8 104 103)]))
 (.seq (.frz 7 1000 (.frz 7 0 (.reg [4,5] [fO 105 1 5,lO 106 105,mO 107 6,O 108 (.load (some 3) 7),iO 109 3 106 107,sO (.store 3 109 108)])))
 (.seq (.frz 5 1000 (.reg [4] [O 110 (.load (some 2) 5),sO (.store 2 4 110)]))
 .ret))))) .skip))
 (.seq (.seq (.frz 7 0 (.frz 5 1000 (.reg [0,4,5,6,7,112] [mO 111 0,(cO 112 45 [111,(kI 5)])])))
 (.block 1 (.seq (.reg [0,4,5,6,7,112,117] [bO 118 .eql 112 (kI 0),mO 117 118])
 (.cond 117 (.regd [4,5] (zbx 0 9) [0,1,0,0,0,24,63,127,255] [0,1,0,0,0,3,0,0,4] [fO 119 1 5,lO 120 119,mO 121 6,mO 122 0,O 123 (.bsl 1 [(.c (.str [])),(.c (.str [105,100])),(.c (.str [110,97,109,101])),(.c (.str [97,103,101]))]),(cO 124 84 [122,123]),iO 125 3 120 121,fO 126 1 125,sO (.store 1 126 124)]) (.seq (.reg [0,4,5,6,7,112,127] [bO 128 .eql 112 (kI 1),mO 127 128])
 (.cond 127 (.frz 7 0 (.reg [4,5] [fO 129 1 5,lO 130 129,O 131 (.load (some 3) 7),O 132 (.bsl 3 [131]),O 133 (.app 3 130 132),fO 134 1 5,sO (.store 1 134 133)])) (.seq (.reg [0,4,5,6,112,135] [bO 136 .eql 112 (kI 2),mO 135 136])
 (.cond 135 (.reg [4,5] [mO 137 0,O 138 (.bsl 1 [(.c (.str [])),(.c (.str [112,97,114,116])),(.c (.str [65]))]),(cO 139 84 [137,138]),fO 140 0 5,sO (.store 1 140 139)]) (.seq (.reg [0,4,5,6,141] [bO 142 .eql 112 (kI 3),mO 141 142])
 (.cond 141 (.regd [4,5] (zbx 0 9) [0,1,0,0,0,24,63,127,255] [0,1,0,0,0,3,0,0,4] [fO 143 1 5,lO 144 143,mO 145 6,mO 146 0,O 147 (.bsl 1 [(.c (.str [113,117,101,114,121])),(.c (.str [117,115,101,114])),(.c (.str [105,110,116])),(.c (.str [120]))]),(cO 148 84 [146,147]),iO 149 3 144 145,fO 150 0 149,sO (.store 1 150 148)]) (.reg [4,5] [fO 113 1 5,lO 114 113,O 115 (.slc 3 114 (some (kI 1)) none),fO 116 1 5,sO (.store 1 116 115)])))))))))))
 (.seq (.reg [4] [O 151 (.load (some 2) 5),sO (.store 2 4 151)])
 .ret)))))))
def zJi:List (Nat×An):=[(3,.cells kb2),(4,.cells kb6),(10,.t (.nm .Part)),(5,.cells kb6),(21,.t (.nm .Typ)),(7,.cells ⟨some .Typ,[kS,kS,some ((.lst (.nm .Field)),.at [(7,.no)])]⟩),(37,.t (.nm .Field)),(9,.cells kb0),(51,.t (.lst .str)),(77,.t (.lst .str)),(79,.t (.lst .str)),(80,.t (.lst .str)),(85,.t (.lst .str)),(40,.t (.lst (.nm .Field))),(43,.t (.lst (.nm .Field))),(44,.t (.nm .Field)),(45,.t (.lst (.nm .Field))),(46,.t (.lst (.nm .Field))),(103,.t (.nm .Field)),(108,.t (.nm .Typ)),(110,.t (.nm .Part)),(123,.t (.lst .str)),(131,.t (.nm .Typ)),(132,.t (.lst (.nm .Typ))),(133,.t (.lst (.nm .Typ))),(138,.t (.lst .str)),(147,.t (.lst .str)),(151,.t (.nm .Part))]
def c47:CC:=
 .seq (.reg [0,1] [mO 4 (kI 0)])
 (.seq (.seq (.reg [0,1,7,8] [mO 6 0,nO 7 6,mO 8 (kI 0)])
 (.block 0 (.lp true 0 [8] [0,1,7] (.seq (.reg [0,1,7,8,9] [bO 9 .lss 8 7])
 (.seq (.cond 9 .skip (.exit 0))
 (.seq (.block 1 (.seq (.reg [0,1,5,7,8] [mO 10 8,mO 5 10])
 (.seq (.reg [0,1,5,7,8,16] [mO 11 1,mO 12 0,mO 13 5,iO 14 3 12 13,O 15 (.load (some 3) 14),O 16 (.callv 11 [15])])
 (.cond 16 (.seq (.reg [4] [mO 17 5,mO 4 17])
 .ret) .skip))))
 (.reg [0,1,7,8] [bO 18 .add 8 (kI 1),mO 8 18])))))))
 (.seq (.reg [4] [O 4 (.mv (.c (.int .i64 (-1))))])
 .ret))
def zJj:List (Nat×An):=[(4,.t (.int .i64)),(8,.t (.int .i64)),(15,.t (.nm .Own))]
def c48:CC:=
 .seq (.reg [1,2,3] [O 3 (.boxi 3 0),mO 4 kF])
 (.seq (.reg [4] [fO 5 0 3,lO 6 5,lO 7 1,bO 8 .eql 6 7,mO 9 8,gT 10 9 (.fa 1 3),gT 11 9 (.load none 10),gT 12 9 (.load none 2),gT 13 9 (.bin .eql 11 12),O 14 (.pick 9 13 kF),mO 4 14])
 .ret)
def zJk:List (Nat×An):=[(3,.cells kb7),(4,.t .bool)]
def c51:CC:=
 .seq (.reg [0,1] [mO 4 (kI 0),O 5 (.mv (.c .nilf))])
 (.seq (.reg [0,1] [mO 6 0,(cO 7 85 [6])])
 (.seq (.reg [1] [mO 8 0,mO 9 0,O 10 (.nilc 9),fO 11 1 10,lO 12 11,mO 13 1,O 14 (.apps 12 13),O 15 (.nilc 8),fO 16 1 15,sO (.store 1 16 14)])
 (.seq (.reg [4,5] [mO 17 1,O 18 (.lens 17),mO 4 18,O 5 (.mv (.c .nilf))])
 .ret)))
def zIh:List (Nat×An):=[(4,.t (.int .i64)),(14,.t (.lst (.int .u8)))]
def c53:CC:=
 .seq (.reg [0,2] [O 2 (.alloc [(.int .i64 0),(.str []),(.str []),(.int .i64 0)])])
 (.seq (.seq (.reg [0,2,17] [mO 10 0,nO 11 10,bO 12 .eql 11 (kI 0),mO 13 12,gF 14 13 (.mv 0),gF 15 13 (.lenl 14),gF 16 13 (.bin .gtr 15 (kI 4)),O 17 (.pick 13 kT 16)])
 (.cond 17 (.seq (.reg [2] [O 18 (.build [(.int .i64 0),(.str []),(.str []),(.int .i64 0)] [(3,1,(kI 8))]),sO (.store 4 2 18)])
 .ret) .skip))
 (.seq (.seq (.reg [0,2,3] [mO 3 (kI 0)])
 (.block 0 (.lp true 0 [3] [0,2] (.seq (.seq (.reg [0,2,3,22] [mO 19 3,mO 20 0,nO 21 20,bO 22 .lss 19 21])
 (.cond 22 .skip (.exit 0)))
 (.seq (.block 1 (.seq (.seq (.reg [0,2,3,31] [mO 25 0,mO 26 3,iO 27 2 25 26,O 28 (.load (some 2) 27),(cO 29 55 [28]),O 30 (.field 1 none 29),bO 31 .neq 30 (kI 0)])
 (.cond 31 (.seq (.reg [2] [mO 32 3,bO 33 .add 32 (kI 1),O 34 (.build [(.int .i64 0),(.str []),(.str []),(.int .i64 0)] [(0,1,33),(3,1,(kI 1))]),sO (.store 4 2 34)])
 .ret) .skip))
 (.seq (.reg [0,2,3,4] [mO 4 (kI 0)])
 (.block 2 (.lp true 2 [4] [0,2,3] (.seq (.seq (.reg [0,2,3,4,37] [mO 35 4,mO 36 3,bO 37 .lss 35 36])
 (.cond 37 .skip (.exit 2)))
 (.seq (.block 3 (.seq (.regd [0,2,3,4,50] (zbx 0 11) [0,0,3,7,15,0,0,96,224,480,1023] [0,0,0,0,1,0,0,0,0,1,0] [mO 40 0,mO 41 4,iO 42 2 40 41,fO 43 0 42,lO 44 43,mO 45 0,mO 46 3,iO 47 2 45 46,fO 48 0 47,lO 49 48,bO 50 .eql 44 49])
 (.cond 50 (.seq (.reg [2] [mO 51 3,bO 52 .add 51 (kI 1),O 53 (.build [(.int .i64 0),(.str []),(.str []),(.int .i64 0)] [(0,1,52),(3,1,(kI 2))]),sO (.store 4 2 53)])
 .ret) .skip)))
 (.reg [0,2,3,4] [mO 38 4,bO 39 .add 38 (kI 1),mO 4 39]))))))))
 (.reg [0,2,3] [mO 23 3,bO 24 .add 23 (kI 1),mO 3 24]))))))
 (.seq (.seq (.reg [0,2,5] [mO 5 (kI 0)])
 (.block 4 (.lp true 4 [5] [0,2] (.seq (.seq (.reg [0,2,5,57] [mO 54 5,mO 55 0,nO 56 55,bO 57 .lss 54 56])
 (.cond 57 .skip (.exit 4)))
 (.seq (.block 5 (.seq (.reg [0,2,5,6] [mO 6 (kI 0)])
 (.block 6 (.lp true 6 [6] [0,2,5] (.seq (.seq (.reg [0,2,5,6,67] [mO 60 6,mO 61 0,mO 62 5,iO 63 2 61 62,fO 64 1 63,lO 65 64,nO 66 65,bO 67 .lss 60 66])
 (.cond 67 .skip (.exit 6)))
 (.seq (.block 7 (.seq (.reg [0,2,5,6,7] [mO 70 0,mO 71 5,iO 72 2 70 71,fO 73 1 72,lO 74 73,mO 75 6,iO 76 3 74 75,O 77 (.load (some 3) 76),O 7 (.alloc [(.str []),(.str []),.e0]),sO (.store 3 7 77)])
 (.frz 7 0 (.seq (.seq (.regd [0,2,5,6,7,89] (zbx 0 12) [0,1,3,7,15,31,15,15,143,463,1023,2047] [0,0,0,0,0,0,0,0,0,4,0,0] [fO 78 1 7,lO 79 78,O 80 (.bin .neq 79 (.c (.str []))),mO 81 80,gT 82 81 (.fa 1 7),gT 83 81 (.load none 82),gT 84 81 (.mv 0),gT 85 81 (.fa 0 7),gT 86 81 (.load none 85),gT 87 81 (.call 87 [84,86]),gT 88 81 (.bin .neq 83 87),O 89 (.pick 81 88 kF)])
 (.cond 89 (.seq (.reg [2] [mO 90 5,bO 91 .add 90 (kI 1),fO 92 0 7,lO 93 92,O 94 (.build [(.int .i64 0),(.str []),(.str []),(.int .i64 0)] [(0,1,91),(1,1,93),(3,1,(kI 4))]),sO (.store 4 2 94)])
 .ret) .skip))
 (.seq (.reg [0,2,5,6,7,8] [mO 8 (kI 0)])
 (.block 8 (.lp true 8 [8] [0,2,5,6,7] (.seq (.seq (.reg [0,2,5,6,7,8,99] [mO 95 8,fO 96 2 7,lO 97 96,nO 98 97,bO 99 .lss 95 98])
 (.cond 99 .skip (.exit 8)))
 (.seq (.block 9 (.seq (.regd [0,2,5,6,7,8,9] (zbx 0 11) [0,0,0,4,0,16,0,112,240,511,1023] [0,0,0,0,0,0,0,0,0,4,0] [mO 102 0,mO 103 5,fO 104 0 7,lO 105 104,fO 106 2 7,lO 107 106,mO 108 8,iO 109 8 107 108,O 110 (.load (some 8) 109),(cO 111 88 [102,103,105,110]),mO 9 111])
 (.seq (.reg [0,2,5,6,7,8,9,113] [mO 112 9,bO 113 .neq 112 (kI 0)])
 (.cond 113 (.seq (.regd [2] (zbx 0 13) [0,1,0,4,0,16,0,112,240,496,0,2047,4095] [0,0,0,0,0,0,0,0,0,0,0,0,4] [mO 114 5,bO 115 .add 114 (kI 1),fO 116 0 7,lO 117 116,fO 118 2 7,lO 119 118,mO 120 8,iO 121 8 119 120,fO 122 0 121,lO 123 122,mO 124 9,O 125 (.build [(.int .i64 0),(.str []),(.str []),(.int .i64 0)] [(0,1,115),(1,1,117),(2,1,123),(3,1,124)]),sO (.store 4 2 125)])
 .ret) .skip))))
 (.reg [0,2,5,6,7,8] [mO 100 8,bO 101 .add 100 (kI 1),mO 8 101]))))))))))
 (.reg [0,2,5,6] [mO 68 6,bO 69 .add 68 (kI 1),mO 6 69])))))))
 (.reg [0,2,5] [mO 58 5,bO 59 .add 58 (kI 1),mO 5 59]))))))
 (.seq (.reg [2] [O 126 (.build [(.int .i64 0),(.str []),(.str []),(.int .i64 0)] []),sO (.store 4 2 126)])
 .ret))))
def zJl:List (Nat×An):=[(2,.cells kb4),(17,.t .bool),(18,.t (.nm .CFault)),(3,.t (.int .i64)),(28,.t (.nm .Part)),(30,.t (.int .i64)),(34,.t (.nm .CFault)),(4,.t (.int .i64)),(53,.t (.nm .CFault)),(5,.t (.int .i64)),(6,.t (.int .i64)),(77,.t (.nm .Typ)),(7,.cells kb1),(89,.t .bool),(94,.t (.nm .CFault)),(8,.t (.int .i64)),(110,.t (.nm .Field)),(125,.t (.nm .CFault)),(126,.t (.nm .CFault))]
def c54:CC:=
 .seq (.reg [0,2] [O 2 (.alloc [(.str []),.e0])])
 (.seq (.reg [0,2,3] [O 9 (.build [(.str []),.e0] [(0,1,(.c (.str [97])))]),O 3 (.alloc [(.str []),.e0]),sO (.store 2 3 9)])
 (.seq (.seq (.reg [0,2,3,4] [mO 4 (kI 0)])
 (.block 0 (.lp false 0 [4] [0,2,3] (.seq (.seq (.reg [0,2,3,4,13] [mO 10 4,mO 11 0,nO 12 11,bO 13 .lss 10 12])
 (.cond 13 .skip (.exit 0)))
 (.seq (.block 1 (.seq (.reg [0,2,3,4,5] [mO 5 (kI 0)])
 (.block 2 (.lp false 2 [5] [0,2,3,4] (.seq (.seq (.reg [0,2,3,4,5,23] [mO 16 5,mO 17 0,mO 18 4,iO 19 2 17 18,fO 20 1 19,lO 21 20,nO 22 21,bO 23 .lss 16 22])
 (.cond 23 .skip (.exit 2)))
 (.seq (.block 3 (.seq (.reg [0,2,3,4,5,6] [mO 26 0,mO 27 4,iO 28 2 26 27,fO 29 1 28,lO 30 29,mO 31 5,iO 32 3 30 31,O 33 (.load (some 3) 32),O 6 (.alloc [(.str []),(.str []),.e0]),sO (.store 3 6 33)])
 (.frz 6 0 (.seq (.reg [0,2,3,4,5,6,7] [O 34 (.load (some 2) 3),fO 35 0 6,lO 36 35,(cO 37 57 [34,36]),mO 7 37])
 (.seq (.seq (.reg [0,2,3,4,5,6,7,39] [mO 38 7,bO 39 .lss 38 (kI 0)])
 (.jn false [7] [0,2,3,4,5,6] (.cond 39 (.seq (.reg [0,2,3,4,5,6,7] [fO 40 1 3,lO 41 40,nO 42 41,mO 7 42])
 (.frz 6 0 (.regd [0,2,3,4,5,6,7] (zbx 0 13) [0,1,0,4,0,0,32,112,252,508,1023,2047,4095] [0,1,0,0,0,0,0,3,0,0,3,0,4] [fO 43 1 3,lO 44 43,fO 45 0 6,lO 46 45,mO 47 0,fO 48 0 6,lO 49 48,(cO 50 87 [47,49]),O 51 (.build [(.str []),(.str []),.sl 8 []] [(0,1,46),(1,1,50)]),O 52 (.bsl 3 [51]),O 53 (.app 3 44 52),fO 54 1 3,sO (.store 1 54 53)]))) .skip)))
 (.seq (.reg [0,2,3,4,5,6,7,8] [mO 8 (kI 0)])
 (.block 4 (.lp false 4 [8] [0,2,3,4,5,6,7] (.seq (.seq (.reg [0,2,3,4,5,6,7,8,59] [mO 55 8,fO 56 2 6,lO 57 56,nO 58 57,bO 59 .lss 55 58])
 (.cond 59 .skip (.exit 4)))
 (.seq (.block 5 (.regd [0,2,3,4,5,6,7,8] (zbx 0 16) [0,1,0,0,8,0,56,120,0,256,0,1792,3840,8184,16383,32767] [0,1,0,0,1,0,0,1,0,0,0,0,0,3,0,4] [fO 62 1 3,lO 63 62,mO 64 7,fO 65 1 3,lO 66 65,mO 67 7,iO 68 3 66 67,O 69 (.load (some 3) 68),fO 70 2 6,lO 71 70,mO 72 8,iO 73 8 71 72,O 74 (.load (some 8) 73),(cO 75 89 [69,74]),iO 76 3 63 64,sO (.store 3 76 75)]))
 (.reg [0,2,3,4,5,6,7,8] [mO 60 8,bO 61 .add 60 (kI 1),mO 8 61])))))))))))
 (.reg [0,2,3,4,5] [mO 24 5,bO 25 .add 24 (kI 1),mO 5 25])))))))
 (.reg [0,2,3,4] [mO 14 4,bO 15 .add 14 (kI 1),mO 4 15]))))))
 (.seq (.reg [2] [O 77 (.load (some 2) 3),sO (.store 2 2 77)])
 .ret)))
def zJm:List (Nat×An):=[(2,.cells kb2),(9,.t (.nm .Part)),(3,.cells kb2),(4,.t (.int .i64)),(5,.t (.int .i64)),(33,.t (.nm .Typ)),(6,.cells kb1),(34,.t (.nm .Part)),(7,.t (.int .i64)),(51,.t (.nm .Typ)),(52,.t (.lst (.nm .Typ))),(53,.t (.lst (.nm .Typ))),(8,.t (.int .i64)),(69,.t (.nm .Typ)),(74,.t (.nm .Field)),(77,.t (.nm .Part))]
def c55:CC:=
 .seq (.reg [1,2] [O 1 (.boxi 2 0),O 2 (.alloc [(.int .i64 0),(.int .i64 0)])])
 (.seq (.seq (.reg [1,2,9] [fO 6 1 1,lO 7 6,nO 8 7,bO 9 .gtr 8 (kI 5)])
 (.cond 9 (.seq (.reg [2] [O 10 (.build [(.int .i64 0),(.int .i64 0)] [(0,1,(kI 6)),(1,1,(kI 6))]),sO (.store 2 2 10)])
 .ret) .skip))
 (.seq (.seq (.reg [1,2,14] [fO 11 0 1,lO 12 11,(cO 13 90 [12]),O 14 (.not 13)])
 (.cond 14 (.seq (.reg [2] [O 15 (.build [(.int .i64 0),(.int .i64 0)] [(1,1,(kI 1))]),sO (.store 2 2 15)])
 .ret) .skip))
 (.seq (.seq (.reg [1,2,35] [fO 16 1 1,lO 17 16,nO 18 17,bO 19 .eql 18 (kI 0),mO 20 19,gF 21 20 (.fa 1 1),gF 22 20 (.load none 21),gF 23 20 (.ia 3 22 (kI 0)),gF 24 20 (.fa 0 23),gF 25 20 (.load none 24),gF 26 20 (.bin .neq 25 (.c (.str [113,117,101,114,121]))),O 27 (.pick 20 kT 26),mO 28 27,gF 29 28 (.fa 1 1),gF 30 28 (.load none 29),gF 31 28 (.ia 3 30 (kI 0)),gF 32 28 (.fa 1 31),gF 33 28 (.load none 32),gF 34 28 (.bin .neq 33 (.c (.str []))),O 35 (.pick 28 kT 34)])
 (.cond 35 (.seq (.reg [2] [O 36 (.build [(.int .i64 0),(.int .i64 0)] [(1,1,(kI 7))]),sO (.store 2 2 36)])
 .ret) .skip))
 (.seq (.seq (.reg [1,2,3] [mO 3 (kI 0)])
 (.block 0 (.lp true 0 [3] [1,2] (.seq (.seq (.reg [1,2,3,41] [mO 37 3,fO 38 1 1,lO 39 38,nO 40 39,bO 41 .lss 37 40])
 (.cond 41 .skip (.exit 0)))
 (.seq (.block 1 (.seq (.reg [1,2,3,4] [O 44 (.load (some 2) 1),mO 45 3,(cO 46 91 [44,45]),mO 4 46])
 (.seq (.seq (.reg [1,2,3,4,48] [mO 47 4,bO 48 .neq 47 (kI 0)])
 (.cond 48 (.seq (.reg [2] [mO 49 3,bO 50 .add 49 (kI 1),mO 51 4,O 52 (.build [(.int .i64 0),(.int .i64 0)] [(0,1,50),(1,1,51)]),sO (.store 2 2 52)])
 .ret) .skip))
 (.seq (.reg [1,2,3,5] [mO 5 (kI 0)])
 (.block 2 (.lp true 2 [5] [1,2,3] (.seq (.seq (.reg [1,2,3,5,61] [mO 53 5,fO 54 1 1,lO 55 54,mO 56 3,iO 57 3 55 56,fO 58 2 57,lO 59 58,nO 60 59,bO 61 .lss 53 60])
 (.cond 61 .skip (.exit 2)))
 (.seq (.block 3 (.seq (.reg [1,2,3,5,74] [fO 64 1 1,lO 65 64,mO 66 3,iO 67 3 65 66,fO 68 2 67,lO 69 68,mO 70 5,iO 71 8 69 70,fO 72 1 71,lO 73 72,O 74 (.bin .eql 73 (.c (.str [113,117,101,114,121])))])
 (.cond 74 (.seq (.reg [2] [mO 75 3,bO 76 .add 75 (kI 1),O 77 (.build [(.int .i64 0),(.int .i64 0)] [(0,1,76),(1,1,(kI 7))]),sO (.store 2 2 77)])
 .ret) .skip)))
 (.reg [1,2,3,5] [mO 62 5,bO 63 .add 62 (kI 1),mO 5 63])))))))))
 (.reg [1,2,3] [mO 42 3,bO 43 .add 42 (kI 1),mO 3 43]))))))
 (.seq (.seq (.reg [2,81] [O 78 (.load (some 2) 1),(cO 79 92 [78]),O 80 (.lens 79),bO 81 .gtr 80 (kI 1500)])
 (.cond 81 (.seq (.reg [2] [O 82 (.build [(.int .i64 0),(.int .i64 0)] [(1,1,(kI 6))]),sO (.store 2 2 82)])
 .ret) .skip))
 (.seq (.reg [2] [O 83 (.build [(.int .i64 0),(.int .i64 0)] []),sO (.store 2 2 83)])
 .ret))))))
def zJn:List (Nat×An):=[(1,.cells kb2),(2,.cells ⟨some .PFault,[kN,kN]⟩),(10,.t (.nm .PFault)),(15,.t (.nm .PFault)),(35,.t .bool),(36,.t (.nm .PFault)),(3,.t (.int .i64)),(44,.t (.nm .Part)),(52,.t (.nm .PFault)),(5,.t (.int .i64)),(77,.t (.nm .PFault)),(78,.t (.nm .Part)),(82,.t (.nm .PFault)),(83,.t (.nm .PFault))]
def c56:CC:=
 .seq (.reg [0,1,2] [O 6 (.mv (.c (.sl 1 [])))])
 (.seq (.reg [0,1,2,7] [O 11 (.bsl0),mO 7 11])
 (.seq (.seq (.reg [0,1,2,7,8] [mO 8 (kI 0)])
 (.block 0 (.lp false 0 [7,8] [0,1,2] (.seq (.seq (.reg [0,1,2,7,8,15] [mO 12 8,mO 13 0,nO 14 13,bO 15 .lss 12 14])
 (.cond 15 .skip (.exit 0)))
 (.seq (.block 1 (.seq (.reg [0,1,2,7,8,9,10] [mO 19 0,mO 20 8,iO 21 2 19 20,O 22 (.load (some 2) 21),mO 23 1,mO 24 2,(cO 25 28 [22,23,24]),mO 18 25,O 26 (.ext 18 0),O 27 (.ext 18 1),O 9 (.alloc [(.str []),(.str []),(.bool false),(.bool false),(.bool false),(.bool false),(.bool false),.e0]),sO (.store 8 9 26),mO 10 27])
 (.frz 9 0 (.seq (.reg [0,1,2,7,8,33] [mO 28 10,mO 29 28,gT 30 29 (.fa 4 9),gT 31 29 (.load none 30),gT 32 29 (.not 31),O 33 (.pick 29 32 kF)])
 (.jn false [7] [0,1,2,8] (.cond 33 (.reg [0,1,2,7,8] [mO 34 7,mO 35 8,O 36 (.bsl 1 [35]),O 37 (.app 1 34 36),mO 7 37]) .skip))))))
 (.reg [0,1,2,7,8] [mO 16 8,bO 17 .add 16 (kI 1),mO 8 17]))))))
 (.seq (.reg [6] [mO 38 7,mO 6 38])
 .ret)))
def zJo:List (Nat×An):=[(6,.t (.lst (.int .i64))),(11,.t (.lst (.int .i64))),(7,.t (.lst (.int .i64))),(8,.t (.int .i64)),(22,.t (.nm .Part)),(9,.cells kb0),(33,.t .bool),(36,.t (.lst (.int .i64))),(37,.t (.lst (.int .i64)))]
def c57:CC:=
 .seq (.reg [1,2] [O 2 (.boxi 2 0),mO 4 (kI 0)])
 (.seq (.seq (.reg [1,2,5] [mO 5 (kI 0)])
 (.block 0 (.lp true 0 [5] [1,2] (.seq (.seq (.reg [1,2,5,10] [mO 6 5,fO 7 1 2,lO 8 7,nO 9 8,bO 10 .lss 6 9])
 (.cond 10 .skip (.exit 0)))
 (.seq (.block 1 (.seq (.reg [1,2,5,20] [fO 13 1 2,lO 14 13,mO 15 5,iO 16 3 14 15,fO 17 0 16,lO 18 17,mO 19 1,bO 20 .eql 18 19])
 (.cond 20 (.seq (.reg [4] [mO 21 5,mO 4 21])
 .ret) .skip)))
 (.reg [1,2,5] [mO 11 5,bO 12 .add 11 (kI 1),mO 5 12]))))))
 (.seq (.reg [4] [O 4 (.mv (.c (.int .i64 (-1))))])
 .ret))
def zJp:List (Nat×An):=[(2,.cells kb2),(4,.t (.int .i64)),(5,.t (.int .i64))]
def c58:CC:=
 .seq (.reg [1,2] [O 2 (.boxi 3 0),mO 4 (kI 0)])
 (.seq (.seq (.reg [1,2,5] [mO 5 (kI 0)])
 (.block 0 (.lp true 0 [5] [1,2] (.seq (.seq (.reg [1,2,5,10] [mO 6 5,fO 7 2 2,lO 8 7,nO 9 8,bO 10 .lss 6 9])
 (.cond 10 .skip (.exit 0)))
 (.seq (.block 1 (.seq (.reg [1,2,5,20] [fO 13 2 2,lO 14 13,mO 15 5,iO 16 8 14 15,fO 17 0 16,lO 18 17,mO 19 1,bO 20 .eql 18 19])
 (.cond 20 (.seq (.reg [4] [mO 21 5,mO 4 21])
 .ret) .skip)))
 (.reg [1,2,5] [mO 11 5,bO 12 .add 11 (kI 1),mO 5 12]))))))
 (.seq (.reg [4] [O 4 (.mv (.c (.int .i64 (-1))))])
 .ret))
def zJq:List (Nat×An):=[(2,.cells kb1),(4,.t (.int .i64)),(5,.t (.int .i64))]
def c59:CC:=
 .seq (.reg [0,1,2] [mO 6 kF])
 (.seq (.reg [6] [mO 7 0,mO 8 1,bO 9 .geq 7 8,mO 10 9,gT 11 10 (.mv 0),gT 12 10 (.mv 2),gT 13 10 (.bin .leq 11 12),O 14 (.pick 10 13 kF),mO 6 14])
 .ret)
def zJr:List (Nat×An):=[(6,.t .bool)]
def c60:CC:=
 .seq (.reg [0,1] [mO 4 kF])
 (.seq (.reg [4] [mO 5 0,mO 6 1,(cO 7 93 [5,6]),bO 8 .geq 7 (kI 0),mO 4 8])
 .ret)
def zJs:List (Nat×An):=[(4,.t .bool)]
def c61:CC:=
 .seq (.reg [1,2] [O 2 (.boxi 2 0),mO 3 kF])
 (.seq (.reg [3] [fO 4 0 2,lO 5 4,fO 6 0 1,lO 7 6,bO 8 .eql 5 7,mO 3 8])
 .ret)
def zJt:List (Nat×An):=[(2,.cells kb2),(3,.t .bool)]
def c62:CC:=
 .seq (.reg [0,1] [O 4 (.mv (.c (.str [])))])
 (.seq (.seq (.reg [1,9,10,11] [mO 9 0,nO 10 9,mO 11 (kI 0)])
 (.block 0 (.lp true 0 [11] [1,9,10] (.seq (.reg [1,9,10,11,12] [bO 12 .lss 11 10])
 (.seq (.cond 12 .skip (.exit 0))
 (.seq (.block 1 (.seq (.reg [1,6,9,10,11] [iO 13 2 9 11,O 14 (.load (some 2) 13),O 6 (.alloc [(.str []),.e0]),sO (.store 2 6 14)])
 (.frz 6 0 (.seq (.frz 6 0 (.reg [1,7,9,10,11] [O 16 (.load (some 2) 6),mO 17 1,(cO 18 94 [16,17]),mO 15 18,O 19 (.ext 15 0),O 20 (.ext 15 1),O 7 (.alloc [(.str []),(.str []),.e0]),sO (.store 3 7 19),mO 8 20]))
 (.frz 7 0 (.seq (.reg [1,7,9,10,11,23] [fO 21 1 7,lO 22 21,O 23 (.bin .neq 22 (.c (.str [])))])
 (.cond 23 (.seq (.reg [4] [fO 24 1 7,lO 25 24,mO 4 25])
 .ret) .skip)))))))
 (.reg [1,9,10,11] [bO 26 .add 11 (kI 1),mO 11 26])))))))
 (.seq (.reg [4] [O 4 (.mv (.c (.str [])))])
 .ret))
def zJu:List (Nat×An):=[(4,.t .str),(11,.t (.int .i64)),(14,.t (.nm .Part)),(6,.cells kb2),(16,.t (.nm .Part)),(7,.cells kb1)]
def c63:CC:=
 .seq (.reg [0,3] [O 3 (.boxi 3 1),O 4 (.mv (.c (.str [])))])
 (.seq (.seq (.reg [0,3,9,10,11] [fO 8 2 3,lO 9 8,nO 10 9,mO 11 (kI 0)])
 (.block 0 (.lp true 0 [11] [0,3,9,10] (.seq (.reg [0,3,9,10,11,12] [bO 12 .lss 11 10])
 (.seq (.cond 12 .skip (.exit 0))
 (.seq (.block 1 (.seq (.reg [0,3,6,9,10,11] [iO 13 8 9 11,O 14 (.load (some 8) 13),O 6 (.alloc [(.str []),(.str []),(.bool false),(.bool false),(.bool false),(.bool false),(.bool false),.e0]),sO (.store 8 6 14)])
 (.frz 6 0 (.seq (.frz 6 0 (.reg [0,3,6,7,9,10,11] [O 15 (.mkfn 95 [6]),mO 7 15]))
 (.seq (.frz 6 0 (.reg [0,3,6,9,10,11,23] [mO 16 0,fO 17 0 3,lO 18 17,fO 19 0 6,lO 20 19,(cO 21 69 [16,18,20]),mO 22 7,(cO 23 68 [21,22])]))
 (.cond 23 (.seq (.reg [4] [fO 24 0 6,lO 25 24,mO 4 25])
 .ret) .skip))))))
 (.reg [0,3,9,10,11] [bO 26 .add 11 (kI 1),mO 11 26])))))))
 (.seq (.reg [4] [O 4 (.mv (.c (.str [])))])
 .ret))
def zJv:List (Nat×An):=[(3,.cells kb1),(4,.t .str),(11,.t (.int .i64)),(14,.t (.nm .Field)),(6,.cells kb0)]
def c64:CC:=
 .seq (.reg [2,3,4] [O 3 (.boxi 1 0),O 4 (.boxi 1 1),mO 6 (kI 0)])
 (.seq (.reg [2,3,4,7,8] [lO 13 3,lO 14 4,mO 15 2,(cO 16 33 [13,14,15]),mO 7 16,mO 8 (kI 0)])
 (.seq (.seq (.reg [2,3,4,7,8,20,21,22] [lO 17 3,lO 18 4,mO 19 2,(cO 20 69 [17,18,19]),nO 21 20,mO 22 (kI 0)])
 (.block 0 (.lp false 0 [8,22] [2,3,4,7,20,21] (.seq (.reg [2,3,4,7,8,20,21,22,23] [bO 23 .lss 22 21])
 (.seq (.cond 23 .skip (.exit 0))
 (.seq (.block 1 (.seq (.reg [2,3,4,7,8,10,20,21,22] [iO 24 8 20 22,O 25 (.load (some 8) 24),O 10 (.alloc [(.str []),(.str []),(.bool false),(.bool false),(.bool false),(.bool false),(.bool false),.e0]),sO (.store 8 10 25)])
 (.frz 10 0 (.seq (.reg [2,3,4,7,8,20,21,22,27] [fO 26 6 10,lO 27 26])
 (.jn false [8] [2,3,4,7,20,21,22] (.cond 27 (.reg [2,3,4,7,8,20,21,22] [mO 28 8,bO 29 .add 28 (kI 1),mO 8 29]) .skip))))))
 (.reg [2,3,4,7,8,20,21,22] [bO 30 .add 22 (kI 1),mO 22 30])))))))
 (.seq (.reg [2,3,4,7,8,11] [lO 31 3,lO 32 4,mO 33 2,(cO 34 72 [31,32,33]),mO 11 34])
 (.seq (.reg [2,3,4,7,8,11,12] [O 35 (.mkfn 96 [3,4]),mO 12 35])
 (.seq (.block 2 (.seq (.reg [2,3,4,7,8,11,12,36] [mO 37 7,nO 38 37,bO 39 .eql 38 (kI 0),mO 36 39])
 (.cond 36 (.seq (.reg [6] [mO 6 (kI 6)])
 .ret) (.seq (.reg [7,11,12,40] [mO 41 7,nO 42 41,bO 43 .gtr 42 (kI 1),mO 44 43,gT 45 44 (.mv 2),gT 46 44 (.load none 3),gT 47 44 (.load none 4),gT 48 44 (.call 62 [46,47]),gT 49 44 (.bin .neq 45 48),O 50 (.pick 44 49 kF),mO 51 50,gT 52 51 (.mv 8),gT 53 51 (.mv 7),gT 54 51 (.lenl 53),gT 55 51 (.bin .lss 52 54),O 56 (.pick 51 55 kF),mO 40 56])
 (.cond 40 (.seq (.reg [6] [mO 6 (kI 5)])
 .ret) (.seq (.reg [57] [mO 58 7,nO 59 58,bO 60 .gtr 59 (kI 1),mO 61 60,gT 62 61 (.mv 11),gT 63 61 (.lenl 62),gT 64 61 (.bin .gtr 63 (kI 0)),O 65 (.pick 61 64 kF),mO 66 65,gF 67 66 (.mv 11),gF 68 66 (.mv 12),gF 69 66 (.call 97 [67,68]),O 70 (.pick 66 kT 69),mO 57 70])
 (.cond 57 (.seq (.reg [6] [mO 6 (kI 7)])
 .ret) .skip)))))))
 (.seq (.reg [6] [mO 6 (kI 0)])
 .ret))))))
def zJw:List (Nat×An):=[(3,.cells ⟨none,[some ((.lst (.nm .Part)),.no)]⟩),(4,.cells ⟨none,[kS]⟩),(6,.t (.int .i64)),(7,.t (.lst (.int .i64))),(8,.t (.int .i64)),(22,.t (.int .i64)),(25,.t (.nm .Field)),(10,.cells kb0),(11,.t (.lst .str)),(40,.t .bool),(57,.t .bool)]
def c65:CC:=
 .seq (.reg [0,1] [mO 4 (kI 0)])
 (.seq (.seq (.reg [0,1,7,8] [mO 6 0,nO 7 6,mO 8 (kI 0)])
 (.block 0 (.lp true 0 [8] [0,1,7] (.seq (.reg [0,1,7,8,9] [bO 9 .lss 8 7])
 (.seq (.cond 9 .skip (.exit 0))
 (.seq (.block 1 (.seq (.reg [0,1,5,7,8] [mO 10 8,mO 5 10])
 (.seq (.reg [0,1,5,7,8,16] [mO 11 1,mO 12 0,mO 13 5,iO 14 3 12 13,O 15 (.load (some 3) 14),O 16 (.callv 11 [15])])
 (.cond 16 (.seq (.reg [4] [mO 17 5,mO 4 17])
 .ret) .skip))))
 (.reg [0,1,7,8] [bO 18 .add 8 (kI 1),mO 8 18])))))))
 (.seq (.reg [4] [O 4 (.mv (.c (.int .i64 (-1))))])
 .ret))
def zIi:List (Nat×An):=[(4,.t (.int .i64)),(8,.t (.int .i64)),(15,.t (.nm .Typ))]
def c66:CC:=
 .seq (.reg [1,2] [O 2 (.boxi 3 0),mO 3 kF])
 (.seq (.reg [3] [fO 4 0 2,lO 5 4,fO 6 0 1,lO 7 6,bO 8 .eql 5 7,mO 3 8])
 .ret)
def zJx:List (Nat×An):=[(2,.cells kb1),(3,.t .bool)]
def c67:CC:=
 .seq (.reg [2,3,4] [O 2 (.boxm 3 0),O 3 (.boxi 1 1),O 4 (.alloc [(.str []),(.str []),(.bool false),(.bool false),(.bool false),(.bool false),(.bool false),.e0]),mO 5 kF])
 (.seq (.reg [2,4,6] [fO 7 2 2,lO 8 7,O 9 (.mkfn 99 [3]),(cO 10 98 [8,9]),mO 6 10])
 (.seq (.seq (.reg [2,4,6,12] [mO 11 6,bO 12 .lss 11 (kI 0)])
 (.cond 12 (.seq (.reg [4,5] [O 13 (.build [(.str []),(.str []),(.bool false),(.bool false),(.bool false),(.bool false),(.bool false),.e0] []),sO (.store 8 4 13),mO 5 kF])
 .ret) .skip))
 (.seq (.reg [4,5] [fO 14 2 2,lO 15 14,mO 16 6,iO 17 8 15 16,O 18 (.load (some 8) 17),sO (.store 8 4 18),mO 5 kT])
 .ret)))
def zIj:List (Nat×An):=[(2,.cells kb1),(3,.cells ⟨none,[kS]⟩),(4,.cells kb0),(5,.t .bool),(13,.t (.nm .Field)),(18,.t (.nm .Field))]
def c68:CC:=
 .seq (.reg [0,1] [mO 4 kF])
 (.seq (.reg [4] [mO 5 0,mO 6 1,(cO 7 98 [5,6]),bO 8 .geq 7 (kI 0),mO 4 8])
 .ret)
def zFb:List (Nat×An):=[(4,.t .bool)]
def c69:CC:=
 .seq (.reg [0,1,2] [O 6 (.mv (.c (.sl 8 [])))])
 (.seq (.reg [0,1,2,7] [O 7 (.mv (.c .e0))])
 (.seq (.seq (.reg [1,2,7,12,13,14] [mO 12 0,nO 13 12,mO 14 (kI 0)])
 (.block 0 (.lp false 0 [7,14] [1,2,12,13] (.seq (.reg [1,2,7,12,13,14,15] [bO 15 .lss 14 13])
 (.seq (.cond 15 .skip (.exit 0))
 (.seq (.block 1 (.seq (.reg [1,2,7,9,12,13,14] [iO 16 2 12 14,O 17 (.load (some 2) 16),O 9 (.alloc [(.str []),.e0]),sO (.store 2 9 17)])
 (.frz 9 0 (.seq (.frz 9 0 (.reg [1,2,7,10,11,12,13,14] [O 19 (.load (some 2) 9),mO 20 1,mO 21 2,(cO 22 74 [19,20,21]),mO 18 22,O 23 (.ext 18 0),O 24 (.ext 18 1),O 10 (.alloc [(.str []),(.str []),(.bool false),(.bool false),(.bool false),(.bool false),(.bool false),.e0]),sO (.store 8 10 23),mO 11 24]))
 (.frz 10 0 (.seq (.reg [1,2,7,10,12,13,14,25] [mO 25 11])
 (.jn false [7] [1,2,12,13,14] (.cond 25 (.frz 10 0 (.reg [1,2,7,12,13,14] [mO 26 7,O 27 (.load (some 8) 10),O 28 (.bsl 8 [27]),O 29 (.app 8 26 28),mO 7 29])) .skip))))))))
 (.reg [1,2,7,12,13,14] [bO 30 .add 14 (kI 1),mO 14 30])))))))
 (.seq (.reg [6] [mO 31 7,mO 6 31])
 .ret)))
def zJy:List (Nat×An):=[(6,.t (.lst (.nm .Field))),(7,.t (.lst (.nm .Field))),(14,.t (.int .i64)),(17,.t (.nm .Part)),(9,.cells kb2),(19,.t (.nm .Part)),(10,.cells kb0),(27,.t (.nm .Field)),(28,.t (.lst (.nm .Field))),(29,.t (.lst (.nm .Field)))]
def c70:CC:=
 .seq (.reg [1] [O 1 (.boxi 8 0),mO 2 kF])
 (.seq (.reg [2] [fO 3 5 1,lO 4 3,mO 2 4])
 .ret)
def zJz:List (Nat×An):=[(1,.cells kb0),(2,.t .bool)]
def c72:CC:=
 .seq (.reg [0,1,2] [O 6 (.mv (.c (.sl 1 [])))])
 (.seq (.seq (.reg [12,13,14] [mO 9 0,mO 10 1,mO 11 2,(cO 12 69 [9,10,11]),nO 13 12,mO 14 (kI 0)])
 (.block 0 (.lp true 0 [14] [12,13] (.seq (.reg [12,13,14,15] [bO 15 .lss 14 13])
 (.seq (.cond 15 .skip (.exit 0))
 (.seq (.block 1 (.seq (.reg [8,12,13,14] [iO 16 8 12 14,O 17 (.load (some 8) 16),O 8 (.alloc [(.str []),(.str []),(.bool false),(.bool false),(.bool false),(.bool false),(.bool false),.e0]),sO (.store 8 8 17)])
 (.frz 8 0 (.seq (.reg [8,12,13,14,19] [O 18 (.load (some 8) 8),(cO 19 100 [18])])
 (.cond 19 (.seq (.reg [6] [fO 20 7 8,lO 21 20,mO 6 21])
 .ret) .skip)))))
 (.reg [12,13,14] [bO 22 .add 14 (kI 1),mO 14 22])))))))
 (.seq (.reg [6] [O 6 (.mv (.c (.sl 1 [])))])
 .ret))
def zJA:List (Nat×An):=[(6,.t (.lst .str)),(14,.t (.int .i64)),(17,.t (.nm .Field)),(8,.cells kb0),(18,.t (.nm .Field))]
def c73:CC:=
 .seq (.reg [1,2] [O 1 (.boxi 2 0),O 2 (.alloc [(.int .i64 0),(.int .i64 0)])])
 (.seq (.block 0 (.seq (.reg [1,2,5] [fO 6 1 1,lO 7 6,nO 8 7,bO 9 .gtr 8 (kI 5),mO 5 9])
 (.cond 5 (.seq (.reg [2] [O 10 (.build [(.int .i64 0),(.int .i64 0)] [(0,1,(kI 6)),(1,1,(kI 6))]),sO (.store 2 2 10)])
 .ret) (.seq (.reg [1,2,11] [fO 12 0 1,lO 13 12,(cO 14 101 [13]),O 15 (.not 14),mO 11 15])
 (.cond 11 (.seq (.reg [2] [O 16 (.build [(.int .i64 0),(.int .i64 0)] [(1,1,(kI 1))]),sO (.store 2 2 16)])
 .ret) (.seq (.reg [1,2,17] [fO 18 1 1,lO 19 18,nO 20 19,bO 21 .eql 20 (kI 0),mO 22 21,gF 23 22 (.fa 1 1),gF 24 22 (.load none 23),gF 25 22 (.ia 3 24 (kI 0)),gF 26 22 (.fa 0 25),gF 27 22 (.load none 26),gF 28 22 (.bin .neq 27 (.c (.str [113,117,101,114,121]))),O 29 (.pick 22 kT 28),mO 30 29,gF 31 30 (.fa 1 1),gF 32 30 (.load none 31),gF 33 30 (.ia 3 32 (kI 0)),gF 34 30 (.fa 1 33),gF 35 30 (.load none 34),gF 36 30 (.bin .neq 35 (.c (.str []))),O 37 (.pick 30 kT 36),mO 17 37])
 (.cond 17 (.seq (.reg [2] [O 38 (.build [(.int .i64 0),(.int .i64 0)] [(1,1,(kI 7))]),sO (.store 2 2 38)])
 .ret) .skip)))))))
 (.seq (.seq (.reg [1,2,41,42] [fO 39 1 1,lO 40 39,nO 41 40,mO 42 (kI 0)])
 (.block 1 (.lp true 1 [42] [1,2,41] (.seq (.reg [1,2,41,42,43] [bO 43 .lss 42 41])
 (.seq (.cond 43 .skip (.exit 1))
 (.seq (.block 2 (.seq (.reg [1,2,3,41,42] [mO 44 42,mO 3 44])
 (.seq (.reg [1,2,3,4,41,42] [O 45 (.load (some 2) 1),mO 46 3,(cO 47 102 [45,46]),mO 4 47])
 (.seq (.reg [1,2,3,4,41,42,49] [mO 48 4,bO 49 .gtr 48 (kI 0)])
 (.cond 49 (.seq (.reg [2] [mO 50 3,bO 51 .add 50 (kI 1),mO 52 4,O 53 (.build [(.int .i64 0),(.int .i64 0)] [(0,1,51),(1,1,52)]),sO (.store 2 2 53)])
 .ret) .skip)))))
 (.reg [1,2,41,42] [bO 54 .add 42 (kI 1),mO 42 54])))))))
 (.seq (.seq (.reg [2,58] [O 55 (.load (some 2) 1),(cO 56 103 [55]),O 57 (.lens 56),bO 58 .gtr 57 (kI 1500)])
 (.cond 58 (.seq (.reg [2] [O 59 (.build [(.int .i64 0),(.int .i64 0)] [(1,1,(kI 6))]),sO (.store 2 2 59)])
 .ret) .skip))
 (.seq (.reg [2] [O 60 (.build [(.int .i64 0),(.int .i64 0)] []),sO (.store 2 2 60)])
 .ret))))
def zJB:List (Nat×An):=[(1,.cells kb2),(2,.cells ⟨some .PFault,[kN,kN]⟩),(10,.t (.nm .PFault)),(16,.t (.nm .PFault)),(17,.t .bool),(38,.t (.nm .PFault)),(42,.t (.int .i64)),(45,.t (.nm .Part)),(53,.t (.nm .PFault)),(55,.t (.nm .Part)),(59,.t (.nm .PFault)),(60,.t (.nm .PFault))]
def c74:CC:=
 .seq (.reg [1,2,3,6] [O 3 (.boxi 2 0),O 6 (.alloc [(.str []),(.str []),(.bool false),(.bool false),(.bool false),(.bool false),(.bool false),.e0]),mO 7 kF])
 (.seq (.reg [2,6,8] [O 11 (.load (some 2) 3),mO 12 1,(cO 13 94 [11,12]),mO 10 13,O 14 (.ext 10 0),O 15 (.ext 10 1),O 8 (.alloc [(.str []),(.str []),.e0]),sO (.store 3 8 14),mO 9 15])
 (.frz 8 0 (.seq (.frz 8 0 (.reg [6,7] [O 16 (.load (some 3) 8),mO 17 2,(cO 18 67 [16,17]),O 19 (.ext 18 0),O 20 (.ext 18 1),sO (.store 8 6 19),mO 7 20]))
 .ret)))
def zJC:List (Nat×An):=[(3,.cells kb2),(6,.cells kb0),(7,.t .bool),(11,.t (.nm .Part)),(8,.cells kb1),(16,.t (.nm .Typ))]
def c79:CC:=
 .seq (.reg [0,3] [O 3 (.boxi 2 1),O 4 (.mv (.c .nilp))])
 (.seq (.reg [0,3,5] [O 7 (.build [(.int .i64 0),(.str [])] [(1,1,(.c (.str [113,117,101,114,121])))]),O 8 (.bslm 2 [7]),O 9 (.bsl 1 []),O 10 (.bslm 1 [9]),O 11 (.build [.e0,.e0,.sl 1 []] [(0,1,8),(1,1,10)]),O 12 (.boxm 3 11),mO 5 12])
 (.seq (.seq (.reg [0,3,5,6] [mO 6 (kI 0)])
 (.block 0 (.lp false 0 [6] [0,3,5] (.seq (.seq (.reg [0,3,5,6,19] [mO 13 6,mO 14 5,O 15 (.nilc 14),fO 16 0 15,lO 17 16,nO 18 17,bO 19 .lss 13 18])
 (.cond 19 .skip (.exit 0)))
 (.seq (.block 1 (.reg [0,3,5,6] [mO 22 5,mO 23 0,O 24 (.load (some 2) 3),mO 25 6,(cO 26 107 [22,23,24,25])]))
 (.reg [0,3,5,6] [mO 20 6,bO 21 .add 20 (kI 1),mO 6 21]))))))
 (.seq (.reg [4] [mO 27 5,mO 4 27])
 .ret)))
def zJD:List (Nat×An):=[(3,.cells kb2),(7,.t (.nm .Stt)),(8,.t (.lst (.nm .Stt))),(9,.t (.lst .str)),(10,.t (.lst (.lst .str))),(12,.cells ⟨none,[some ((.lst (.nm .Stt)),.no),some ((.lst (.lst .str)),.no),some ((.lst .str),.no)]⟩),(6,.t (.int .i64)),(13,.t (.int .i64)),(17,.t (.lst (.nm .Stt))),(18,.t (.int .i64)),(19,.t .bool),(23,.t (.lst (.nm .Part))),(24,.t (.nm .Part)),(25,.t (.int .i64)),(20,.t (.int .i64)),(21,.t (.int .i64))]
def c82:CC:=
 .seq (.reg [0] [O 2 (.mv (.c (.sl 2 [])))])
 (.seq (.reg [0,3] [mO 13 0,(cO 14 45 [13,(kI 3)]),bO 15 .add (kI 1) 14,mO 3 15])
 (.seq (.reg [0,3,4] [O 16 (.bsl0),mO 4 16])
 (.seq (.seq (.reg [0,3,4,5] [mO 5 (kI 0)])
 (.block 0 (.lp false 0 [4,5] [0,3] (.seq (.seq (.reg [0,3,4,5,19] [mO 17 5,mO 18 3,bO 19 .lss 17 18])
 (.cond 19 .skip (.exit 0)))
 (.seq (.block 1 (.seq (.reg [0,3,4,5,6] [O 22 (.bsl 1 [(.c (.str [101,97,115,116])),(.c (.str [119,101,115,116])),(.c (.str [110,111,114,116,104]))]),mO 23 5,iO 24 1 22 23,lO 25 24,mO 6 25])
 (.reg [0,3,4,5] [mO 26 4,mO 27 6,mO 28 5,(cO 29 112 [28]),O 30 (.bin .add (.c (.str [110])) 29),O 31 (.build [(.str []),(.str []),(.bool false),(.bool false),(.bool false),(.bool false),(.bool false),.sl 1 []] [(0,1,30),(1,1,(.c (.str [105,110,116])))]),O 32 (.bslm 8 [31]),O 33 (.build [(.str []),(.str []),.sl 8 []] [(0,1,(.c (.str [113,117,101,114,121]))),(2,1,32)]),O 34 (.bslm 3 [33]),O 35 (.build [(.str []),.sl 3 []] [(0,1,27),(1,1,34)]),O 36 (.bslm 2 [35]),O 37 (.app 2 26 36),mO 4 37])))
 (.reg [0,3,4,5] [mO 20 5,bO 21 .add 20 (kI 1),mO 5 21]))))))
 (.seq (.reg [0,3,4,7] [(cO 38 113 []),mO 7 38])
 (.seq (.reg [0,3,4,7,8] [mO 39 0,mO 40 3,(cO 41 45 [39,40]),mO 8 41])
 (.seq (.seq (.reg [0,3,4,7,8,9] [mO 9 (kI 0)])
 (.block 2 (.lp false 2 [9] [0,3,4,7,8] (.seq (.seq (.reg [0,3,4,7,8,9,45] [mO 42 9,mO 43 7,nO 44 43,bO 45 .lss 42 44])
 (.cond 45 .skip (.exit 2)))
 (.seq (.block 3 (.seq (.reg [0,3,4,7,8,9,10] [mO 10 (kI 0)])
 (.block 4 (.lp false 4 [10] [0,3,4,7,8,9] (.seq (.seq (.reg [0,3,4,7,8,9,10,55] [mO 48 10,mO 49 7,mO 50 9,iO 51 3 49 50,fO 52 2 51,lO 53 52,nO 54 53,bO 55 .lss 48 54])
 (.cond 55 .skip (.exit 4)))
 (.seq (.block 5 (.seq (.reg [0,3,4,7,8,9,10,11] [mO 58 7,mO 59 9,iO 60 3 58 59,fO 61 2 60,lO 62 61,mO 63 10,iO 64 8 62 63,O 65 (.load (some 8) 64),O 11 (.alloc [(.str []),(.str []),(.bool false),(.bool false),(.bool false),(.bool false),(.bool false),.e0]),sO (.store 8 11 65)])
 (.seq (.seq (.reg [0,3,4,7,8,9,10,11,88] [fO 66 0 11,lO 67 66,O 68 (.bin .eql 67 (.c (.str [105,100]))),mO 69 68,gF 70 69 (.fa 0 11),gF 71 69 (.load none 70),gF 72 69 (.bin .eql 71 (.c (.str [98,111,100,121]))),O 73 (.pick 69 kT 72),mO 74 73,gF 75 74 (.fa 0 11),gF 76 74 (.load none 75),gF 77 74 (.bin .neq 76 (.c (.str [97,103,101]))),gF 78 74 (.mv 77),gT 79 78 (.fa 0 11),gT 80 78 (.load none 79),gT 81 78 (.bin .neq 80 (.c (.str [112,114,105,99,101]))),gF 82 74 (.pick 78 81 kF),gF 83 74 (.mv 82),gT 84 83 (.mv 0),gT 85 83 (.call 45 [84,(kI 7)]),gT 86 83 (.bin .eql 85 (kI 0)),gF 87 74 (.pick 83 86 kF),O 88 (.pick 74 kT 87)])
 (.cond 88 (.exit 5) .skip))
 (.seq (.reg [0,3,4,7,8,9,10,11,12] [mO 89 0,mO 90 3,(cO 91 45 [89,90]),mO 12 91])
 (.seq (.seq (.reg [0,3,4,7,8,9,10,11,12,107] [fO 92 1 11,lO 93 92,O 94 (.bin .eql 93 (.c (.str [110,111,116,101]))),mO 95 94,gF 96 95 (.mv 7),gF 97 95 (.mv 9),gF 98 95 (.ia 3 96 97),gF 99 95 (.fa 0 98),gF 100 95 (.load none 99),gF 101 95 (.bin .eql 100 (.c (.str [110,111,116,101]))),O 102 (.pick 95 kT 101),mO 103 102,gT 104 103 (.mv 0),gT 105 103 (.call 45 [104,(kI 12)]),gT 106 103 (.bin .gtr 105 (kI 0)),O 107 (.pick 103 106 kF)])
 (.jn false [12] [0,3,4,7,8,9,10,11] (.cond 107 (.reg [0,3,4,7,8,9,10,11,12] [mO 108 8,mO 12 108]) .skip)))
 (.seq (.reg [0,3,4,7,8,9,10,11,12] [mO 109 0,(cO 110 45 [109,(kI 16)]),bO 111 .eql 110 (kI 0),fO 112 5 11,sO (.store 1 112 111)])
 (.seq (.seq (.reg [0,3,4,7,8,9,10,11,12,126] [fO 113 7 11,lO 114 113,nO 115 114,bO 116 .eql 115 (kI 0),mO 117 116,gF 118 117 (.mv 0),gF 119 117 (.call 45 [118,(kI 8)]),gF 120 117 (.bin .eql 119 (kI 0)),O 121 (.pick 117 kT 120),mO 122 121,gT 123 122 (.mv 0),gT 124 122 (.call 45 [123,(kI 5)]),gT 125 122 (.bin .eql 124 (kI 0)),O 126 (.pick 122 125 kF)])
 (.jn false [] [0,3,4,7,8,9,10,11,12] (.cond 126 (.seq (.reg [0,3,4,7,8,9,10,11,12] [fO 127 6 11,sO (.store 1 127 kT)])
 (.regd [0,3,4,7,8,9,10,11,12] (zbx 0 21) [0,0,2,0,14,0,0,64,0,448,992,2016,0,0,12288,28672,61440,0,262112,524287,1048575] [0,0,0,0,0,0,0,0,0,0,0,1,0,0,0,0,1,1,4,0,4] [mO 128 4,mO 129 12,bO 130 .add 129 (kI 1),mO 131 3,bO 132 .rem 130 131,mO 133 4,mO 134 12,bO 135 .add 134 (kI 1),mO 136 3,bO 137 .rem 135 136,iO 138 2 133 137,O 139 (.load (some 2) 138),mO 140 7,mO 141 9,iO 142 3 140 141,fO 143 0 142,lO 144 143,O 145 (.load (some 8) 11),(cO 146 114 [139,144,145]),iO 147 2 128 132,sO (.store 2 147 146)])) .skip)))
 (.regd [0,3,4,7,8,9,10] (zbx 0 15) [0,0,0,0,12,28,0,0,192,448,960,0,4092,8191,16383] [0,0,0,0,0,1,0,0,0,0,1,1,4,0,4] [mO 148 4,mO 149 12,mO 150 4,mO 151 12,iO 152 2 150 151,O 153 (.load (some 2) 152),mO 154 7,mO 155 9,iO 156 3 154 155,fO 157 0 156,lO 158 157,O 159 (.load (some 8) 11),(cO 160 114 [153,158,159]),iO 161 2 148 149,sO (.store 2 161 160)]))))))))
 (.reg [0,3,4,7,8,9,10] [mO 56 10,bO 57 .add 56 (kI 1),mO 10 57])))))))
 (.reg [0,3,4,7,8,9] [mO 46 9,bO 47 .add 46 (kI 1),mO 9 47]))))))
 (.seq (.reg [2] [mO 162 4,mO 2 162])
 .ret)))))))
def zJE:List (Nat×An):=[(2,.t (.lst (.nm .Part))),(3,.t (.int .i64)),(16,.o (.nm .Part) (.at [(1,.at [(2,.no)])])),(4,.o (.nm .Part) (.at [(1,.at [(2,.no)])])),(5,.t (.int .i64)),(22,.t (.lst .str)),(31,.t (.nm .Field)),(32,.t (.lst (.nm .Field))),(33,.t (.nm .Typ)),(34,.o (.nm .Typ) (.at [(2,.no)])),(35,.t (.nm .Part)),(36,.o (.nm .Part) (.at [(1,.at [(2,.no)])])),(37,.o (.nm .Part) (.at [(1,.at [(2,.no)])])),(7,.t (.lst (.nm .Typ))),(8,.t (.int .i64)),(9,.t (.int .i64)),(10,.t (.int .i64)),(65,.t (.nm .Field)),(11,.cells kb0),(88,.t .bool),(12,.t (.int .i64)),(107,.t .bool),(126,.t .bool),(139,.t (.nm .Part)),(145,.t (.nm .Field)),(153,.t (.nm .Part)),(159,.t (.nm .Field))]
def c83:CC:=
 .seq (.reg [1,2] [O 1 (.boxm 8 0),O 2 (.alloc [(.str []),(.str []),(.bool false),(.bool false),(.bool false),(.bool false),(.bool false),.e0])])
 (.seq (.reg [1,2] [O 3 (.bsl0),fO 4 7 1,lO 5 4,O 6 (.app 1 3 5),fO 7 7 1,sO (.store 1 7 6)])
 (.seq (.reg [2] [O 8 (.load (some 8) 1),sO (.store 8 2 8)])
 .ret))
def zJF:List (Nat×An):=[(1,.cells kb0),(2,.cells kb0),(3,.t (.lst .str)),(6,.t (.lst .str)),(8,.t (.nm .Field))]
def c84:CC:=
 .seq (.reg [0,1] [O 4 (.mv (.c (.str [])))])
 (.seq (.reg [4] [mO 5 1,mO 6 0,mO 7 1,nO 8 7,(cO 9 45 [6,8]),iO 10 1 5 9,lO 11 10,mO 4 11])
 .ret)
def zJG:List (Nat×An):=[(4,.t .str)]
def c87:CC:=
 .seq (.reg [0,1] [O 4 (.mv (.c (.str [])))])
 (.seq (.seq (.reg [0,1,5] [mO 5 (kI 0)])
 (.block 0 (.lp true 0 [5] [0,1] (.seq (.seq (.reg [0,1,5,10] [mO 7 5,mO 8 0,nO 9 8,bO 10 .lss 7 9])
 (.cond 10 .skip (.exit 0)))
 (.seq (.block 1 (.seq (.reg [0,1,5,6] [mO 13 0,mO 14 5,iO 15 2 13 14,O 16 (.load (some 2) 15),mO 17 1,(cO 18 57 [16,17]),mO 6 18])
 (.seq (.reg [0,1,5,6,32] [mO 19 6,bO 20 .geq 19 (kI 0),mO 21 20,gT 22 21 (.mv 0),gT 23 21 (.mv 5),gT 24 21 (.ia 2 22 23),gT 25 21 (.fa 1 24),gT 26 21 (.load none 25),gT 27 21 (.mv 6),gT 28 21 (.ia 3 26 27),gT 29 21 (.fa 1 28),gT 30 21 (.load none 29),gT 31 21 (.bin .neq 30 (.c (.str []))),O 32 (.pick 21 31 kF)])
 (.cond 32 (.seq (.reg [4] [mO 33 0,mO 34 5,iO 35 2 33 34,fO 36 1 35,lO 37 36,mO 38 6,iO 39 3 37 38,fO 40 1 39,lO 41 40,mO 4 41])
 .ret) .skip))))
 (.reg [0,1,5] [mO 11 5,bO 12 .add 11 (kI 1),mO 5 12]))))))
 (.seq (.reg [4] [O 4 (.mv (.c (.str [])))])
 .ret))
def zJH:List (Nat×An):=[(4,.t .str),(5,.t (.int .i64)),(16,.t (.nm .Part)),(6,.t (.int .i64)),(32,.t .bool)]
def c88:CC:=
 .seq (.reg [0,2,7] [O 7 (.boxi 8 3),mO 8 (kI 0)])
 (.seq (.reg [0,2,7,9] [mO 19 0,mO 20 2,fO 21 0 7,lO 22 21,(cO 23 56 [19,20,22]),mO 9 23])
 (.seq (.reg [0,2,7,9,10] [mO 10 (kI 0)])
 (.seq (.reg [0,2,7,9,10,11] [mO 11 (kI 0)])
 (.seq (.seq (.reg [0,2,7,9,10,11,12] [mO 12 (kI 0)])
 (.block 0 (.lp true 0 [10,11,12] [0,2,7,9] (.seq (.seq (.reg [0,2,7,9,10,11,12,27] [mO 24 12,mO 25 0,nO 26 25,bO 27 .lss 24 26])
 (.cond 27 .skip (.exit 0)))
 (.seq (.block 1 (.seq (.regd [0,2,7,9,10,11,12,13,14] (zbx 0 14) [0,0,3,7,0,0,32,127,255,511,511,0,3071,8191] [0,0,0,1,0,0,0,4,0,0,0,4,4,0] [mO 31 0,mO 32 12,iO 33 2 31 32,O 34 (.load (some 2) 33),mO 35 2,fO 36 0 7,lO 37 36,(cO 38 28 [34,35,37]),mO 30 38,O 39 (.ext 30 0),O 40 (.ext 30 1),O 13 (.alloc [(.str []),(.str []),(.bool false),(.bool false),(.bool false),(.bool false),(.bool false),.e0]),sO (.store 8 13 39),mO 14 40])
 (.frz 13 0 (.seq (.seq (.reg [0,2,7,9,10,11,12,13,14,47] [mO 41 14,mO 42 41,gT 43 42 (.load (some 8) 7),gT 44 42 (.load (some 8) 13),gT 45 42 (.call 117 [43,44]),gT 46 42 (.not 45),O 47 (.pick 42 46 kF)])
 (.cond 47 (.seq (.reg [8] [mO 8 (kI 3)])
 .ret) .skip))
 (.seq (.seq (.reg [0,2,7,9,10,11,12,13,14,52] [mO 48 14,mO 49 48,gT 50 49 (.fa 6 13),gT 51 49 (.load none 50),O 52 (.pick 49 51 kF)])
 (.jn false [10] [0,2,7,9,11,12,13,14] (.cond 52 (.reg [0,2,7,9,10,11,12,13,14] [mO 53 10,bO 54 .add 53 (kI 1),mO 10 54]) .skip)))
 (.seq (.reg [0,2,7,9,10,11,12,61] [mO 55 14,mO 56 55,gT 57 56 (.fa 7 13),gT 58 56 (.load none 57),gT 59 56 (.lenl 58),gT 60 56 (.bin .gtr 59 (kI 0)),O 61 (.pick 56 60 kF)])
 (.jn false [11] [0,2,7,9,10,12] (.cond 61 (.reg [0,2,7,9,10,11,12] [mO 62 11,bO 63 .add 62 (kI 1),mO 11 63]) .skip))))))))
 (.reg [0,2,7,9,10,11,12] [mO 28 12,bO 29 .add 28 (kI 1),mO 12 29]))))))
 (.seq (.seq (.reg [0,2,7,9,10,11,66] [mO 64 9,nO 65 64,bO 66 .eql 65 (kI 0)])
 (.cond 66 (.seq (.reg [8] [mO 8 (kI 6)])
 .ret) .skip))
 (.seq (.seq (.regd [0,2,7,9,11,83] (zbx 0 17) [0,1,3,7,15,31,15,15,207,511,1023,2047,4095,4095,12287,32767,65535] [0,0,0,0,0,0,0,0,4,0,0,0,0,0,0,0,0] [mO 67 9,nO 68 67,bO 69 .gtr 68 (kI 1),mO 70 69,gT 71 70 (.fa 0 7),gT 72 70 (.load none 71),gT 73 70 (.mv 0),gT 74 70 (.mv 2),gT 75 70 (.call 87 [73,74]),gT 76 70 (.bin .neq 72 75),O 77 (.pick 70 76 kF),mO 78 77,gT 79 78 (.mv 10),gT 80 78 (.mv 9),gT 81 78 (.lenl 80),gT 82 78 (.bin .lss 79 81),O 83 (.pick 78 82 kF)])
 (.cond 83 (.seq (.reg [8] [mO 8 (kI 5)])
 .ret) .skip))
 (.seq (.seq (.reg [0,2,7,90] [mO 84 11,bO 85 .gtr 84 (kI 0),mO 86 85,gT 87 86 (.mv 9),gT 88 86 (.lenl 87),gT 89 86 (.bin .gtr 88 (kI 1)),O 90 (.pick 86 89 kF)])
 (.cond 90 (.seq (.reg [8] [mO 8 (kI 7)])
 .ret) .skip))
 (.seq (.seq (.reg [0,2,7,15] [mO 15 (kI 0)])
 (.block 2 (.lp true 2 [15] [0,2,7] (.seq (.seq (.reg [0,2,7,15,95] [mO 91 15,fO 92 7 7,lO 93 92,nO 94 93,bO 95 .lss 91 94])
 (.cond 95 .skip (.exit 2)))
 (.seq (.block 3 (.seq (.reg [0,2,7,15,16] [mO 16 (kI 0)])
 (.block 4 (.lp true 4 [16] [0,2,7,15] (.seq (.seq (.reg [0,2,7,15,16,101] [mO 98 16,mO 99 0,nO 100 99,bO 101 .lss 98 100])
 (.cond 101 .skip (.exit 4)))
 (.seq (.block 5 (.seq (.regd [0,2,7,15,16,17,18] (zbx 0 17) [0,0,3,7,0,0,32,0,224,480,1023,2047,4095,4095,0,24575,65535] [0,0,0,1,0,0,0,0,0,0,4,0,0,0,4,4,0] [mO 105 0,mO 106 16,iO 107 2 105 106,O 108 (.load (some 2) 107),mO 109 2,fO 110 7 7,lO 111 110,mO 112 15,iO 113 1 111 112,lO 114 113,(cO 115 28 [108,109,114]),mO 104 115,O 116 (.ext 104 0),O 117 (.ext 104 1),O 17 (.alloc [(.str []),(.str []),(.bool false),(.bool false),(.bool false),(.bool false),(.bool false),.e0]),sO (.store 8 17 116),mO 18 117])
 (.frz 17 0 (.seq (.reg [0,2,7,15,16,124] [mO 118 18,mO 119 118,gT 120 119 (.fa 7 17),gT 121 119 (.load none 120),gT 122 119 (.lenl 121),gT 123 119 (.bin .gtr 122 (kI 0)),O 124 (.pick 119 123 kF)])
 (.cond 124 (.seq (.reg [8] [mO 8 (kI 7)])
 .ret) .skip)))))
 (.reg [0,2,7,15,16] [mO 102 16,bO 103 .add 102 (kI 1),mO 16 103])))))))
 (.reg [0,2,7,15] [mO 96 15,bO 97 .add 96 (kI 1),mO 15 97]))))))
 (.seq (.reg [8] [mO 8 (kI 0)])
 .ret)))))))))
def zJI:List (Nat×An):=[(7,.cells kb0),(8,.t (.int .i64)),(9,.t (.lst (.int .i64))),(10,.t (.int .i64)),(11,.t (.int .i64)),(12,.t (.int .i64)),(34,.t (.nm .Part)),(13,.cells kb0),(14,.t .bool),(43,.t (.nm .Field)),(44,.t (.nm .Field)),(47,.t .bool),(52,.t .bool),(61,.t .bool),(83,.t .bool),(90,.t .bool),(15,.t (.int .i64)),(16,.t (.int .i64)),(108,.t (.nm .Part)),(17,.cells kb0),(124,.t .bool)]
def c89:CC:=
 .seq (.reg [2,3,4] [O 2 (.boxm 3 0),O 3 (.boxi 8 1),O 4 (.alloc [(.str []),(.str []),.e0])])
 (.seq (.reg [2,3,4,5] [O 7 (.load (some 3) 2),fO 8 0 3,lO 9 8,(cO 10 58 [7,9]),mO 5 10])
 (.seq (.seq (.reg [2,3,4,5,12] [mO 11 5,bO 12 .lss 11 (kI 0)])
 (.cond 12 (.seq (.regd [2,4] (zbx 0 23) [0,0,2,7,0,16,0,64,0,256,0,1024,0,4096,0,0,32768,114703,262143,524287,1048575,2097151,4194303] [0,0,1,3,0,0,0,0,0,0,0,0,0,0,0,0,0,3,0,0,3,0,4] [O 13 (.bsl0),fO 14 2 2,lO 15 14,O 16 (.app 8 13 15),fO 17 0 3,lO 18 17,fO 19 1 3,lO 20 19,fO 21 2 3,lO 22 21,fO 23 3 3,lO 24 23,fO 25 5 3,lO 26 25,O 27 (.bsl0),fO 28 7 3,lO 29 28,O 30 (.apf 1 27 29),O 31 (.build [(.str []),(.str []),(.bool false),(.bool false),(.bool false),(.bool false),(.bool false),.sl 1 []] [(0,1,18),(1,1,20),(2,1,22),(3,1,24),(5,1,26),(7,1,30)]),O 32 (.bsl 8 [31]),O 33 (.app 8 16 32),fO 34 2 2,sO (.store 1 34 33)])
 (.seq (.reg [4] [O 35 (.load (some 3) 2),sO (.store 3 4 35)])
 .ret)) .skip))
 (.seq (.reg [2,3,4,5,6] [O 36 (.bsl0),fO 37 2 2,lO 38 37,O 39 (.app 8 36 38),mO 6 39])
 (.seq (.seq (.reg [2,3,4,5,6,41] [fO 40 5 3,lO 41 40])
 (.jn false [] [2,3,4,5,6] (.cond 41 (.reg [2,3,4,5,6] [mO 42 6,mO 43 5,iO 44 8 42 43,fO 45 5 44,sO (.store 1 45 kT)]) .skip)))
 (.seq (.seq (.reg [2,3,4,5,6,49] [fO 46 7 3,lO 47 46,nO 48 47,bO 49 .gtr 48 (kI 0)])
 (.jn false [] [2,4,6] (.cond 49 (.reg [2,4,6] [mO 50 6,mO 51 5,O 52 (.bsl0),fO 53 7 3,lO 54 53,O 55 (.apf 1 52 54),iO 56 8 50 51,fO 57 7 56,sO (.store 1 57 55)]) .skip)))
 (.seq (.reg [2,4] [mO 58 6,fO 59 2 2,sO (.store 1 59 58)])
 (.seq (.reg [4] [O 60 (.load (some 3) 2),sO (.store 3 4 60)])
 .ret)))))))
def zJJ:List (Nat×An):=[(2,.cells kb1),(3,.cells kb0),(4,.cells kb1),(7,.t (.nm .Typ)),(9,.t .str),(10,.t (.int .i64)),(5,.t (.int .i64)),(11,.t (.int .i64)),(12,.t .bool),(13,.t (.lst (.nm .Field))),(15,.t (.lst (.nm .Field))),(16,.t (.lst (.nm .Field))),(18,.t .str),(20,.t .str),(22,.t .bool),(24,.t .bool),(26,.t .bool),(27,.t (.lst .str)),(29,.t (.lst .str)),(30,.t (.lst .str)),(31,.t (.nm .Field)),(32,.t (.lst (.nm .Field))),(33,.t (.lst (.nm .Field))),(35,.t (.nm .Typ)),(36,.t (.lst (.nm .Field))),(38,.t (.lst (.nm .Field))),(39,.t (.lst (.nm .Field))),(6,.t (.lst (.nm .Field))),(41,.t .bool),(42,.t (.lst (.nm .Field))),(43,.t (.int .i64)),(47,.t (.lst .str)),(48,.t (.int .i64)),(49,.t .bool),(50,.t (.lst (.nm .Field))),(51,.t (.int .i64)),(52,.t (.lst .str)),(54,.t (.lst .str)),(55,.t (.lst .str)),(58,.t (.lst (.nm .Field))),(60,.t (.nm .Typ))]
def c90:CC:=
 .seq (.reg [0] [mO 2 kF])
 (.seq (.reg [2] [mO 3 0,(cO 4 118 [3]),mO 5 4,gT 6 5 (.mv 0),gT 7 5 (.lens 6),gT 8 5 (.bin .leq 7 (kI 8)),O 9 (.pick 5 8 kF),mO 10 9,gT 11 10 (.mv 0),gT 12 10 (.idx 11 (kI 0)),gT 13 10 (.bin .neq 12 (.c (.int .u8 95))),O 14 (.pick 10 13 kF),mO 15 14,gT 16 15 (.mv 0),gT 17 15 (.call 119 [16]),gT 18 15 (.not 17),O 19 (.pick 15 18 kF),mO 20 19,gT 21 20 (.mv 0),gT 22 20 (.bin .neq 21 (.c (.str [112,97,114,116]))),O 23 (.pick 20 22 kF),mO 24 23,gT 25 24 (.mv 0),gT 26 24 (.bin .neq 25 (.c (.str [116,121,112,101]))),O 27 (.pick 24 26 kF),mO 28 27,gT 29 28 (.mv 0),gT 30 28 (.bin .neq 29 (.c (.str [107,101,121]))),O 31 (.pick 28 30 kF),mO 32 31,gT 33 32 (.mv 0),gT 34 32 (.bin .neq 33 (.c (.str [102,97,114]))),O 35 (.pick 32 34 kF),mO 36 35,gT 37 36 (.mv 0),gT 38 36 (.bin .neq 37 (.c (.str [104,105,100,100,101,110]))),O 39 (.pick 36 38 kF),mO 40 39,gT 41 40 (.mv 0),gT 42 40 (.bin .neq 41 (.c (.str [115,104,97,114,101,100]))),O 43 (.pick 40 42 kF),mO 44 43,gT 45 44 (.mv 0),gT 46 44 (.bin .neq 45 (.c (.str [110,101,101,100,115]))),O 47 (.pick 44 46 kF),mO 2 47])
 .ret)
def zJK:List (Nat×An):=[(2,.t .bool)]
def c91:CC:=
 .seq (.reg [1,2] [O 2 (.boxi 2 0),mO 4 (kI 0)])
 (.seq (.reg [1,2,5] [fO 12 1 2,lO 13 12,mO 14 1,iO 15 3 13 14,O 16 (.load (some 3) 15),O 5 (.alloc [(.str []),(.str []),.e0]),sO (.store 3 5 16)])
 (.frz 5 0 (.seq (.seq (.reg [1,2,5,43] [fO 17 0 5,lO 18 17,(cO 19 90 [18]),O 20 (.not 19),mO 21 20,gF 22 21 (.fa 1 5),gF 23 21 (.load none 22),gF 24 21 (.bin .neq 23 (.c (.str []))),gF 25 21 (.mv 24),gT 26 25 (.fa 1 5),gT 27 25 (.load none 26),gT 28 25 (.call 90 [27]),gT 29 25 (.not 28),gF 30 21 (.pick 25 29 kF),O 31 (.pick 21 kT 30),mO 32 31,gF 33 32 (.fa 2 5),gF 34 32 (.load none 33),gF 35 32 (.lenl 34),gF 36 32 (.bin .eql 35 (kI 0)),O 37 (.pick 32 kT 36),mO 38 37,gF 39 38 (.fa 2 5),gF 40 38 (.load none 39),gF 41 38 (.lenl 40),gF 42 38 (.bin .gtr 41 (kI 8)),O 43 (.pick 38 kT 42)])
 (.cond 43 (.seq (.reg [4] [mO 4 (kI 1)])
 .ret) .skip))
 (.seq (.seq (.reg [1,2,5,6] [mO 6 (kI 0)])
 (.block 0 (.lp true 0 [6] [1,2,5] (.seq (.seq (.reg [1,2,5,6,48] [mO 44 6,fO 45 2 5,lO 46 45,nO 47 46,bO 48 .lss 44 47])
 (.cond 48 .skip (.exit 0)))
 (.seq (.block 1 (.seq (.reg [1,2,5,6,7] [fO 51 2 5,lO 52 51,mO 53 6,iO 54 8 52 53,O 55 (.load (some 8) 54),O 7 (.alloc [(.str []),(.str []),(.bool false),(.bool false),(.bool false),(.bool false),(.bool false),.e0]),sO (.store 8 7 55)])
 (.frz 7 0 (.seq (.seq (.reg [1,2,5,6,7,71] [fO 56 0 7,lO 57 56,(cO 58 90 [57]),O 59 (.not 58),mO 60 59,gF 61 60 (.fa 1 7),gF 62 60 (.load none 61),gF 63 60 (.call 119 [62]),gF 64 60 (.not 63),gF 65 60 (.mv 64),gT 66 65 (.fa 1 7),gT 67 65 (.load none 66),gT 68 65 (.call 90 [67]),gT 69 65 (.not 68),gF 70 60 (.pick 65 69 kF),O 71 (.pick 60 kT 70)])
 (.cond 71 (.seq (.reg [4] [mO 4 (kI 1)])
 .ret) .skip))
 (.seq (.reg [1,2,5,6,7,8] [mO 8 (kI 0)])
 (.block 2 (.lp true 2 [8] [1,2,5,6,7] (.seq (.seq (.reg [1,2,5,6,7,8,76] [mO 72 8,fO 73 7 7,lO 74 73,nO 75 74,bO 76 .lss 72 75])
 (.cond 76 .skip (.exit 2)))
 (.seq (.block 3 (.seq (.reg [1,2,5,6,7,8,85] [fO 79 7 7,lO 80 79,mO 81 8,iO 82 1 80 81,lO 83 82,(cO 84 90 [83]),O 85 (.not 84)])
 (.cond 85 (.seq (.reg [4] [mO 4 (kI 1)])
 .ret) .skip)))
 (.reg [1,2,5,6,7,8] [mO 77 8,bO 78 .add 77 (kI 1),mO 8 78]))))))))))
 (.reg [1,2,5,6] [mO 49 6,bO 50 .add 49 (kI 1),mO 6 50]))))))
 (.seq (.seq (.reg [2,5,91] [O 86 (.load (some 2) 2),fO 87 0 5,lO 88 87,(cO 89 57 [86,88]),mO 90 1,bO 91 .neq 89 90])
 (.cond 91 (.seq (.reg [4] [mO 4 (kI 2)])
 .ret) .skip))
 (.seq (.seq (.reg [2,5,9] [mO 9 (kI 0)])
 (.block 4 (.lp true 4 [9] [2,5] (.seq (.seq (.reg [2,5,9,96] [mO 92 9,fO 93 2 5,lO 94 93,nO 95 94,bO 96 .lss 92 95])
 (.cond 96 .skip (.exit 4)))
 (.seq (.block 5 (.seq (.regd [2,5,9,108] (zbx 0 10) [0,0,2,0,14,30,62,127,0,511] [0,0,0,0,0,0,0,4,0,0] [O 99 (.load (some 3) 5),fO 100 2 5,lO 101 100,mO 102 9,iO 103 8 101 102,fO 104 0 103,lO 105 104,(cO 106 58 [99,105]),mO 107 9,bO 108 .neq 106 107])
 (.cond 108 (.seq (.reg [4] [mO 4 (kI 2)])
 .ret) .skip)))
 (.reg [2,5,9] [mO 97 9,bO 98 .add 97 (kI 1),mO 9 98]))))))
 (.seq (.seq (.reg [2,5,10] [mO 10 (kI 0)])
 (.block 6 (.lp true 6 [10] [2,5] (.seq (.seq (.reg [2,5,10,113] [mO 109 10,fO 110 2 5,lO 111 110,nO 112 111,bO 113 .lss 109 112])
 (.cond 113 .skip (.exit 6)))
 (.seq (.block 7 (.seq (.regd [2,5,10,134] (zbx 0 19) [0,1,0,7,15,31,63,127,255,511,511,1535,511,7679,15871,32255,65535,131071,262143] [0,0,0,0,0,0,4,0,0,0,0,0,0,0,0,0,4,0,0] [fO 116 2 5,lO 117 116,mO 118 10,iO 119 8 117 118,fO 120 1 119,lO 121 120,(cO 122 119 [121]),O 123 (.not 122),mO 124 123,gT 125 124 (.load (some 2) 2),gT 126 124 (.fa 2 5),gT 127 124 (.load none 126),gT 128 124 (.mv 10),gT 129 124 (.ia 8 127 128),gT 130 124 (.fa 1 129),gT 131 124 (.load none 130),gT 132 124 (.call 57 [125,131]),gT 133 124 (.bin .lss 132 (kI 0)),O 134 (.pick 124 133 kF)])
 (.cond 134 (.seq (.reg [4] [mO 4 (kI 3)])
 .ret) .skip)))
 (.reg [2,5,10] [mO 114 10,bO 115 .add 114 (kI 1),mO 10 115]))))))
 (.seq (.seq (.reg [5,137] [O 135 (.load (some 3) 5),(cO 136 120 [135]),O 137 (.not 136)])
 (.cond 137 (.seq (.reg [4] [mO 4 (kI 4)])
 .ret) .skip))
 (.seq (.seq (.reg [5,11] [mO 11 (kI 0)])
 (.block 8 (.lp true 8 [11] [5] (.seq (.seq (.reg [5,11,142] [mO 138 11,fO 139 2 5,lO 140 139,nO 141 140,bO 142 .lss 138 141])
 (.cond 142 .skip (.exit 8)))
 (.seq (.block 9 (.seq (.regd [5,11,168] (zbx 0 24) [0,0,2,0,14,30,63,127,255,511,1023,511,4095,8191,16383,32767,65535,131071,65535,524287,1048575,2097151,4194303,8388607] [0,0,0,0,0,0,4,0,0,0,0,0,0,0,0,0,0,0,0,0,0,0,0,0] [O 145 (.load (some 3) 5),fO 146 2 5,lO 147 146,mO 148 11,iO 149 8 147 148,O 150 (.load (some 8) 149),(cO 151 121 [145,150]),O 152 (.not 151),mO 153 152,gF 154 153 (.fa 2 5),gF 155 153 (.load none 154),gF 156 153 (.mv 11),gF 157 153 (.ia 8 155 156),gF 158 153 (.fa 4 157),gF 159 153 (.load none 158),gF 160 153 (.mv 159),gT 161 160 (.fa 2 5),gT 162 160 (.load none 161),gT 163 160 (.mv 11),gT 164 160 (.ia 8 162 163),gT 165 160 (.fa 6 164),gT 166 160 (.load none 165),gF 167 153 (.pick 160 166 kF),O 168 (.pick 153 kT 167)])
 (.cond 168 (.seq (.reg [4] [mO 4 (kI 5)])
 .ret) .skip)))
 (.reg [5,11] [mO 143 11,bO 144 .add 143 (kI 1),mO 11 144]))))))
 (.seq (.reg [4] [mO 4 (kI 0)])
 .ret))))))))))
def zJL:List (Nat×An):=[(2,.cells kb2),(4,.t (.int .i64)),(16,.t (.nm .Typ)),(5,.cells kb1),(43,.t .bool),(6,.t (.int .i64)),(55,.t (.nm .Field)),(7,.cells kb0),(71,.t .bool),(8,.t (.int .i64)),(86,.t (.nm .Part)),(9,.t (.int .i64)),(99,.t (.nm .Typ)),(10,.t (.int .i64)),(125,.t (.nm .Part)),(134,.t .bool),(135,.t (.nm .Typ)),(11,.t (.int .i64)),(145,.t (.nm .Typ)),(150,.t (.nm .Field)),(168,.t .bool)]
def c92:CC:=
 .seq (.reg [1] [O 1 (.boxi 2 0),O 2 (.mv (.c (.str [])))])
 (.seq (.reg [1,3] [fO 7 0 1,lO 8 7,O 9 (.bin .add (.c (.str [112,97,114,116,32])) 8),O 10 (.bin .add 9 (.c (.str [10]))),mO 3 10])
 (.seq (.seq (.reg [1,3,4] [mO 4 (kI 0)])
 (.block 0 (.lp false 0 [3,4] [1] (.seq (.seq (.reg [1,3,4,15] [mO 11 4,fO 12 1 1,lO 13 12,nO 14 13,bO 15 .lss 11 14])
 (.cond 15 .skip (.exit 0)))
 (.seq (.block 1 (.seq (.reg [1,3,4,5] [fO 18 1 1,lO 19 18,mO 20 4,iO 21 3 19 20,O 22 (.load (some 3) 21),O 5 (.alloc [(.str []),(.str []),.e0]),sO (.store 3 5 22)])
 (.frz 5 0 (.seq (.reg [1,3,4,5] [mO 23 3,O 24 (.bin .add 23 (.c (.str [116,121,112,101,32]))),fO 25 0 5,lO 26 25,bO 27 .add 24 26,mO 3 27])
 (.seq (.seq (.reg [1,3,4,5,30] [fO 28 1 5,lO 29 28,O 30 (.bin .neq 29 (.c (.str [])))])
 (.jn false [3] [1,4,5] (.cond 30 (.reg [1,3,4,5] [mO 31 3,O 32 (.bin .add 31 (.c (.str [32,107,101,121,32]))),fO 33 1 5,lO 34 33,bO 35 .add 32 34,mO 3 35]) .skip)))
 (.seq (.reg [1,3,4,5] [mO 36 3,O 37 (.bin .add 36 (.c (.str [10]))),mO 3 37])
 (.seq (.reg [1,3,4,5,6] [mO 6 (kI 0)])
 (.block 2 (.lp false 2 [3,6] [1,4,5] (.seq (.seq (.reg [1,3,4,5,6,42] [mO 38 6,fO 39 2 5,lO 40 39,nO 41 40,bO 42 .lss 38 41])
 (.cond 42 .skip (.exit 2)))
 (.seq (.block 3 (.reg [1,3,4,5,6] [mO 45 3,fO 46 2 5,lO 47 46,mO 48 6,iO 49 8 47 48,O 50 (.load (some 8) 49),(cO 51 122 [50]),bO 52 .add 45 51,mO 3 52]))
 (.reg [1,3,4,5,6] [mO 43 6,bO 44 .add 43 (kI 1),mO 6 44]))))))))))))
 (.reg [1,3,4] [mO 16 4,bO 17 .add 16 (kI 1),mO 4 17]))))))
 (.seq (.reg [2] [mO 53 3,mO 2 53])
 .ret)))
def zJM:List (Nat×An):=[(1,.cells kb2),(2,.t .str),(3,.t .str),(4,.t (.int .i64)),(22,.t (.nm .Typ)),(5,.cells kb1),(6,.t (.int .i64)),(50,.t (.nm .Field))]
def c93:CC:=
 .seq (.reg [0,1] [mO 4 (kI 0)])
 (.seq (.seq (.reg [0,1,7,8] [mO 6 0,nO 7 6,mO 8 (kI 0)])
 (.block 0 (.lp true 0 [8] [0,1,7] (.seq (.reg [0,1,7,8,9] [bO 9 .lss 8 7])
 (.seq (.cond 9 .skip (.exit 0))
 (.seq (.block 1 (.seq (.reg [0,1,5,7,8] [mO 10 8,mO 5 10])
 (.seq (.reg [0,1,5,7,8,16] [mO 11 1,mO 12 0,mO 13 5,iO 14 2 12 13,O 15 (.load (some 2) 14),O 16 (.callv 11 [15])])
 (.cond 16 (.seq (.reg [4] [mO 17 5,mO 4 17])
 .ret) .skip))))
 (.reg [0,1,7,8] [bO 18 .add 8 (kI 1),mO 8 18])))))))
 (.seq (.reg [4] [O 4 (.mv (.c (.int .i64 (-1))))])
 .ret))
def zJN:List (Nat×An):=[(4,.t (.int .i64)),(8,.t (.int .i64)),(15,.t (.nm .Part))]
def c94:CC:=
 .seq (.reg [2,3,4] [O 2 (.boxi 2 0),O 3 (.boxi 1 1),O 4 (.alloc [(.str []),(.str []),.e0]),mO 5 kF])
 (.seq (.reg [2,4,6] [fO 7 1 2,lO 8 7,O 9 (.mkfn 123 [3]),(cO 10 65 [8,9]),mO 6 10])
 (.seq (.seq (.reg [2,4,6,12] [mO 11 6,bO 12 .lss 11 (kI 0)])
 (.cond 12 (.seq (.reg [4,5] [O 13 (.build [(.str []),(.str []),.e0] []),sO (.store 3 4 13),mO 5 kF])
 .ret) .skip))
 (.seq (.reg [4,5] [fO 14 1 2,lO 15 14,mO 16 6,iO 17 3 15 16,O 18 (.load (some 3) 17),sO (.store 3 4 18),mO 5 kT])
 .ret)))
def zJO:List (Nat×An):=[(2,.cells kb2),(3,.cells ⟨none,[kS]⟩),(4,.cells kb1),(5,.t .bool),(13,.t (.nm .Typ)),(18,.t (.nm .Typ))]
def c95:CC:=
 .seq (.reg [1,2] [O 2 (.boxi 8 0),mO 3 kF])
 (.seq (.reg [3] [fO 4 1 2,lO 5 4,fO 6 1 1,lO 7 6,bO 8 .neq 5 7,mO 9 8,gF 10 9 (.fa 2 2),gF 11 9 (.load none 10),gF 12 9 (.fa 2 1),gF 13 9 (.load none 12),gF 14 9 (.beq .neq 11 13),O 15 (.pick 9 kT 14),mO 16 15,gF 17 16 (.fa 3 2),gF 18 16 (.load none 17),gF 19 16 (.fa 3 1),gF 20 16 (.load none 19),gF 21 16 (.beq .neq 18 20),O 22 (.pick 16 kT 21),mO 3 22])
 .ret)
def zJP:List (Nat×An):=[(2,.cells kb0),(3,.t .bool)]
def c96:CC:=
 .seq (.reg [0,1,2] [mO 4 kF])
 (.seq (.reg [4] [lO 5 1,lO 6 2,mO 7 0,(cO 8 72 [5,6,7]),nO 9 8,bO 10 .gtr 9 (kI 0),mO 4 10])
 .ret)
def zJQ:List (Nat×An):=[(4,.t .bool)]
def c97:CC:=
 .seq (.reg [0,1] [mO 4 kF])
 (.seq (.reg [4] [mO 5 0,mO 6 1,(cO 7 124 [5,6]),bO 8 .geq 7 (kI 0),mO 4 8])
 .ret)
def zIk:List (Nat×An):=[(4,.t .bool)]
def c98:CC:=
 .seq (.reg [0,1] [mO 4 (kI 0)])
 (.seq (.seq (.reg [0,1,7,8] [mO 6 0,nO 7 6,mO 8 (kI 0)])
 (.block 0 (.lp true 0 [8] [0,1,7] (.seq (.reg [0,1,7,8,9] [bO 9 .lss 8 7])
 (.seq (.cond 9 .skip (.exit 0))
 (.seq (.block 1 (.seq (.reg [0,1,5,7,8] [mO 10 8,mO 5 10])
 (.seq (.reg [0,1,5,7,8,16] [mO 11 1,mO 12 0,mO 13 5,iO 14 8 12 13,O 15 (.load (some 8) 14),O 16 (.callv 11 [15])])
 (.cond 16 (.seq (.reg [4] [mO 17 5,mO 4 17])
 .ret) .skip))))
 (.reg [0,1,7,8] [bO 18 .add 8 (kI 1),mO 8 18])))))))
 (.seq (.reg [4] [O 4 (.mv (.c (.int .i64 (-1))))])
 .ret))
def zDu:List (Nat×An):=[(4,.t (.int .i64)),(8,.t (.int .i64)),(15,.t (.nm .Field))]
def c99:CC:=
 .seq (.reg [1,2] [O 2 (.boxi 8 0),mO 3 kF])
 (.seq (.reg [3] [fO 4 0 2,lO 5 4,lO 6 1,bO 7 .eql 5 6,mO 3 7])
 .ret)
def zJR:List (Nat×An):=[(2,.cells kb0),(3,.t .bool)]
def zIq:CC:=
 .seq (.reg [1] [O 1 (.boxi 8 0),mO 2 kF])
 (.seq (.reg [2] [fO 3 7 1,lO 4 3,nO 5 4,bO 6 .gtr 5 (kI 0),mO 2 6])
 .ret)
def zGW:List (Nat×An):=[(1,.cells kb0),(2,.t .bool)]
def zIr:CC:=
 .seq (.reg [0] [mO 2 kF])
 (.seq (.reg [0,3] [O 4 (.bsl 1 [(.c (.str [105,110,116])),(.c (.str [116,101,120,116])),(.c (.str [98,111,111,108])),(.c (.str [112,97,114,116])),(.c (.str [116,121,112,101])),(.c (.str [107,101,121])),(.c (.str [102,97,114])),(.c (.str [104,105,100,100,101,110])),(.c (.str [115,104,97,114,101,100])),(.c (.str [110,101,101,100,115]))]),mO 3 4])
 (.seq (.reg [2] [mO 5 0,(cO 6 125 [5]),mO 7 6,gT 8 7 (.mv 0),gT 9 7 (.lens 8),gT 10 7 (.bin .leq 9 (kI 8)),O 11 (.pick 7 10 kF),mO 12 11,gT 13 12 (.mv 0),gT 14 12 (.idx 13 (kI 0)),gT 15 12 (.bin .neq 14 (.c (.int .u8 95))),O 16 (.pick 12 15 kF),mO 17 16,gT 18 17 (.mv 3),gT 19 17 (.mv 0),gT 20 17 (.call 126 [18,19]),gT 21 17 (.not 20),O 22 (.pick 17 21 kF),mO 2 22])
 .ret))
def zGX:List (Nat×An):=[(2,.t .bool),(4,.t (.lst .str))]
def zIs:CC:=
 .seq (.reg [1,2] [O 2 (.boxi 2 0),mO 4 (kI 0)])
 (.seq (.reg [1,2,5] [fO 10 1 2,lO 11 10,mO 12 1,iO 13 3 11 12,O 14 (.load (some 3) 13),O 5 (.alloc [(.str []),(.str []),.e0]),sO (.store 3 5 14)])
 (.frz 5 0 (.seq (.reg [2,5,6] [fO 15 1 2,lO 16 15,mO 17 1,O 18 (.slc 3 16 none (some 17)),O 19 (.build [(.str []),.sl 3 []] [(1,1,18)]),O 6 (.alloc [(.str []),.e0]),sO (.store 2 6 19)])
 (.frz 6 0 (.seq (.frz 5 0 (.frz 6 0 (.reg [2,5,8] [O 21 (.load (some 2) 6),fO 22 0 5,lO 23 22,(cO 24 94 [21,23]),mO 20 24,O 25 (.ext 20 0),O 26 (.ext 20 1),O 7 (.alloc [(.str []),(.str []),.e0]),sO (.store 3 7 25),mO 8 26])))
 (.seq (.reg [5,8,9] [O 27 (.mkfn 127 [2]),mO 9 27])
 (.seq (.block 0 (.seq (.reg [5,8,9,28] [O 29 (.load (some 3) 5),(cO 30 128 [29]),mO 28 30])
 (.cond 28 (.seq (.reg [4] [mO 4 (kI 1)])
 .ret) (.seq (.frz 5 0 (.reg [5,9,31] [mO 32 8,mO 33 32,gF 34 33 (.load (some 3) 5),gF 35 33 (.call 130 [34]),gF 36 33 (.call 129 [35]),O 37 (.pick 33 kT 36),mO 31 37]))
 (.cond 31 (.seq (.reg [4] [mO 4 (kI 2)])
 .ret) (.seq (.reg [5,38] [fO 39 2 5,lO 40 39,mO 41 9,(cO 42 68 [40,41]),mO 38 42])
 (.cond 38 (.seq (.reg [4] [mO 4 (kI 3)])
 .ret) (.seq (.reg [5,43] [O 44 (.load (some 3) 5),(cO 45 131 [44]),mO 43 45])
 (.cond 43 (.seq (.reg [4] [mO 4 (kI 4)])
 .ret) (.seq (.reg [5,46] [fO 47 2 5,lO 48 47,O 49 (.load (some 3) 5),O 50 (.mkfn 1048708 [49]),(cO 51 68 [48,50]),mO 46 51])
 (.cond 46 (.seq (.reg [4] [mO 4 (kI 5)])
 .ret) (.seq (.reg [52] [fO 53 2 5,lO 54 53,(cO 55 68 [54,(.c (.fn 133 []))]),mO 52 55])
 (.cond 52 (.seq (.reg [4] [mO 4 (kI 7)])
 .ret) .skip)))))))))))))
 (.seq (.reg [4] [mO 4 (kI 0)])
 .ret))))))))
def zGY:List (Nat×An):=[(2,.cells kb2),(4,.t (.int .i64)),(14,.t (.nm .Typ)),(5,.cells kb1),(19,.t (.nm .Part)),(6,.cells kb2),(21,.t (.nm .Part)),(7,.cells kb1),(29,.t (.nm .Typ)),(34,.t (.nm .Typ)),(31,.t .bool),(44,.t (.nm .Typ)),(49,.t (.nm .Typ))]
def zIt:CC:=
 .seq (.reg [1] [O 1 (.boxi 2 0),O 2 (.mv (.c (.str [])))])
 (.seq (.reg [1,3] [O 3 (.alloc [.nilp,.e0])])
 (.seq (.reg [1,3] [fO 8 0 1,lO 9 8,O 10 (.bin .add (.c (.str [112,97,114,116,32])) 9),O 11 (.bin .add 10 (.c (.str [10]))),(cO 12 51 [3,11])])
 (.seq (.seq (.reg [3,14,15,16] [fO 13 1 1,lO 14 13,nO 15 14,mO 16 (kI 0)])
 (.block 0 (.lp false 0 [16] [3,14,15] (.seq (.reg [3,14,15,16,17] [bO 17 .lss 16 15])
 (.seq (.cond 17 .skip (.exit 0))
 (.seq (.block 1 (.seq (.reg [3,5,14,15,16] [iO 18 3 14 16,O 19 (.load (some 3) 18),O 5 (.alloc [(.str []),(.str []),.e0]),sO (.store 3 5 19)])
 (.frz 5 0 (.seq (.reg [3,5,14,15,16] [fO 20 0 5,lO 21 20,O 22 (.bin .add (.c (.str [116,121,112,101,32])) 21),(cO 23 51 [3,22])])
 (.seq (.seq (.reg [3,5,14,15,16,26] [fO 24 1 5,lO 25 24,O 26 (.bin .neq 25 (.c (.str [])))])
 (.jn false [] [3,5,14,15,16] (.cond 26 (.reg [3,5,14,15,16] [fO 27 1 5,lO 28 27,O 29 (.bin .add (.c (.str [32,107,101,121,32])) 28),(cO 30 51 [3,29])]) .skip)))
 (.seq (.reg [3,5,14,15,16] [(cO 31 51 [3,(.c (.str [10]))])])
 (.seq (.reg [3,14,15,16,33,34,35] [fO 32 2 5,lO 33 32,nO 34 33,mO 35 (kI 0)])
 (.block 2 (.lp false 2 [35] [3,14,15,16,33,34] (.seq (.reg [3,14,15,16,33,34,35,36] [bO 36 .lss 35 34])
 (.seq (.cond 36 .skip (.exit 2))
 (.seq (.block 3 (.seq (.reg [3,7,14,15,16,33,34,35] [iO 37 8 33 35,O 38 (.load (some 8) 37),O 7 (.alloc [(.str []),(.str []),(.bool false),(.bool false),(.bool false),(.bool false),(.bool false),.e0]),sO (.store 8 7 38)])
 (.frz 7 0 (.reg [3,14,15,16,33,34,35] [O 39 (.load (some 8) 7),(cO 40 134 [39]),(cO 41 51 [3,40])]))))
 (.reg [3,14,15,16,33,34,35] [bO 42 .add 35 (kI 1),mO 35 42])))))))))))))
 (.reg [3,14,15,16] [bO 43 .add 16 (kI 1),mO 16 43])))))))
 (.seq (.reg [2] [(cO 44 52 [3]),mO 2 44])
 .ret))))
def zGZ:List (Nat×An):=[(1,.cells kb2),(2,.t .str),(3,.cells bdB),(16,.t (.int .i64)),(19,.t (.nm .Typ)),(5,.cells kb1),(35,.t (.int .i64)),(38,.t (.nm .Field)),(7,.cells kb0),(39,.t (.nm .Field))]
def zIu:CC:=
 .seq (.reg [0,1,3,6] [O 6 (.boxi 2 2)])
 (.seq (.reg [0,1,3,6,8] [mO 15 0,O 16 (.nilc 15),fO 17 0 16,lO 18 17,mO 19 3,iO 20 2 18 19,O 21 (.load (some 2) 20),O 8 (.alloc [(.int .i64 0),(.str [])]),sO (.store 2 8 21)])
 (.frz 8 0 (.seq (.regd [0,1,3,8,9] (zbx 0 10) [0,1,0,0,8,28,63,127,0,511] [0,0,0,0,0,4,0,0,4,4] [fO 22 1 6,lO 23 22,O 24 (.load (some 2) 6),fO 25 1 8,lO 26 25,(cO 27 57 [24,26]),iO 28 3 23 27,O 29 (.load (some 3) 28),O 9 (.alloc [(.str []),(.str []),.e0]),sO (.store 3 9 29)])
 (.frz 9 0 (.seq (.reg [0,1,3,8,9,10] [mO 10 (kI 0)])
 (.block 0 (.lp false 0 [10] [0,1,3,8,9] (.seq (.seq (.reg [0,1,3,8,9,10,34] [mO 30 10,fO 31 2 9,lO 32 31,nO 33 32,bO 34 .lss 30 33])
 (.cond 34 .skip (.exit 0)))
 (.seq (.block 1 (.seq (.reg [0,1,3,8,9,10,11] [fO 37 2 9,lO 38 37,mO 39 10,iO 40 8 38 39,O 41 (.load (some 8) 40),O 11 (.alloc [(.str []),(.str []),(.bool false),(.bool false),(.bool false),(.bool false),(.bool false),.e0]),sO (.store 8 11 41)])
 (.frz 11 0 (.seq (.seq (.reg [0,1,3,8,9,10,11,43] [fO 42 5 11,lO 43 42])
 (.cond 43 (.exit 1) .skip))
 (.seq (.frz 11 0 (.regd [0,1,3,8,9,10,11,12] (zbx 0 14) [0,0,2,6,14,0,62,126,255,0,512,1536,4095,8191] [0,0,0,0,1,0,0,1,3,0,0,0,3,0] [O 44 (.bsl0),mO 45 0,O 46 (.nilc 45),fO 47 1 46,lO 48 47,mO 49 3,iO 50 1 48 49,lO 51 50,O 52 (.app 1 44 51),fO 53 0 11,lO 54 53,O 55 (.bsl 1 [54]),O 56 (.apf 1 52 55),mO 12 56]))
 (.seq (.reg [0,1,3,8,9,10,11,12,13] [mO 57 1,fO 58 0 8,lO 59 58,fO 60 1 8,lO 61 60,fO 62 0 11,lO 63 62,(cO 64 138 [57,59,61,63]),mO 13 64])
 (.seq (.seq (.reg [0,1,3,8,9,10,11,12,13,66] [mO 65 13,bO 66 .lss 65 (kI 0)])
 (.cond 66 (.seq (.seq (.reg [0,1,3,8,9,10,12,72] [mO 67 0,O 68 (.nilc 67),fO 69 2 68,lO 70 69,nO 71 70,bO 72 .eql 71 (kI 0)])
 (.jn false [] [0,1,3,8,9,10] (.cond 72 (.reg [0,1,3,8,9,10] [mO 73 0,mO 74 12,O 75 (.nilc 73),fO 76 2 75,sO (.store 1 76 74)]) .skip)))
 (.exit 1)) .skip))
 (.seq (.frz 11 0 (.reg [0,1,3,8,9,10,11,12,14] [mO 77 13,fO 78 1 11,lO 79 78,O 80 (.build [(.int .i64 0),(.str [])] [(0,1,77),(1,1,79)]),O 14 (.alloc [(.int .i64 0),(.str [])]),sO (.store 2 14 80)]))
 (.frz 14 0 (.seq (.regd [0,1,3,8,9,10,12,14,93] (zbx 0 13) [0,1,3,7,15,31,63,127,255,31,1023,2047,4095] [0,0,4,0,0,0,0,0,1,0,4,0,0] [fO 81 1 11,lO 82 81,(cO 83 119 [82]),O 84 (.not 83),mO 85 84,gT 86 85 (.mv 0),gT 87 85 (.nilc 86),gT 88 85 (.fa 0 87),gT 89 85 (.load none 88),gT 90 85 (.load (some 2) 14),gT 91 85 (.call 139 [89,90]),gT 92 85 (.bin .lss 91 (kI 0)),O 93 (.pick 85 92 kF)])
 (.jn false [] [0,1,3,8,9,10] (.cond 93 (.seq (.frz 14 0 (.regd [0,1,3,8,9,10,12] (zbx 0 11) [0,0,2,6,14,0,32,126,255,511,1023] [0,0,0,0,1,0,0,3,0,0,4] [mO 94 0,mO 95 0,O 96 (.nilc 95),fO 97 0 96,lO 98 97,O 99 (.load (some 2) 14),O 100 (.bsl 2 [99]),O 101 (.app 2 98 100),O 102 (.nilc 94),fO 103 0 102,sO (.store 1 103 101)]))
 (.frz 12 0 (.reg [0,1,3,8,9,10] [mO 104 0,mO 105 0,O 106 (.nilc 105),fO 107 1 106,lO 108 107,mO 109 12,O 110 (.bsl 1 [109]),O 111 (.app 1 108 110),O 112 (.nilc 104),fO 113 1 112,sO (.store 1 113 111)]))) .skip))))))))))))
 (.reg [0,1,3,8,9,10] [mO 35 10,bO 36 .add 35 (kI 1),mO 10 36]))))))))))
def zG0:List (Nat×An):=[(6,.cells kb2),(18,.t (.lst (.nm .Stt))),(19,.t (.int .i64)),(21,.t (.nm .Stt)),(8,.cells zHA),(23,.t (.lst (.nm .Typ))),(24,.t (.nm .Part)),(26,.t .str),(27,.t (.int .i64)),(29,.t (.nm .Typ)),(9,.cells kb1),(10,.t (.int .i64)),(30,.t (.int .i64)),(32,.t (.lst (.nm .Field))),(33,.t (.int .i64)),(34,.t .bool),(38,.t (.lst (.nm .Field))),(39,.t (.int .i64)),(41,.t (.nm .Field)),(11,.cells kb0),(43,.t .bool),(44,.t (.lst .str)),(48,.t (.lst (.lst .str))),(49,.t (.int .i64)),(51,.t (.lst .str)),(52,.t (.lst .str)),(54,.t .str),(55,.t (.lst .str)),(56,.t (.lst .str)),(12,.t (.lst .str)),(57,.t (.lst (.nm .Part))),(59,.t (.int .i64)),(61,.t .str),(63,.t .str),(64,.t (.int .i64)),(13,.t (.int .i64)),(65,.t (.int .i64)),(66,.t .bool),(70,.t (.lst .str)),(71,.t (.int .i64)),(72,.t .bool),(74,.t (.lst .str)),(77,.t (.int .i64)),(79,.t .str),(80,.t (.nm .Stt)),(14,.cells zHA),(82,.t .str),(83,.t .bool),(84,.t .bool),(85,.t .bool),(89,.t (.lst (.nm .Stt))),(90,.t (.nm .Stt)),(91,.t (.int .i64)),(92,.t .bool),(93,.t .bool),(98,.t (.lst (.nm .Stt))),(99,.t (.nm .Stt)),(100,.t (.lst (.nm .Stt))),(101,.t (.lst (.nm .Stt))),(108,.t (.lst (.lst .str))),(109,.t (.lst .str)),(110,.t (.lst (.lst .str))),(111,.t (.lst (.lst .str))),(35,.t (.int .i64)),(36,.t (.int .i64))]
def zIv:CC:=
 .seq (.reg [1] [O 1 (.boxi 8 0),mO 2 kF])
 (.seq (.reg [2] [fO 3 1 1,lO 4 3,O 5 (.bin .eql 4 (.c (.str [105,110,116]))),mO 6 5,gF 7 6 (.fa 1 1),gF 8 6 (.load none 7),gF 9 6 (.bin .eql 8 (.c (.str [116,101,120,116]))),O 10 (.pick 6 kT 9),mO 11 10,gF 12 11 (.fa 1 1),gF 13 11 (.load none 12),gF 14 11 (.bin .eql 13 (.c (.str [98,111,111,108]))),O 15 (.pick 11 kT 14),mO 2 15])
 .ret)
def zG1:List (Nat×An):=[(1,.cells kb0),(2,.t .bool)]
def zId:CC:=
 .seq (.reg [0] [O 2 (.mv (.c (.str [])))])
 (.seq (.seq (.reg [0,4] [mO 3 0,O 4 (.bin .lss 3 (.c (.int .i64 (-9223372036854775807))))])
 (.cond 4 (.seq (.reg [2] [O 2 (.mv (.c (.str [45,57,50,50,51,51,55,50,48,51,54,56,53,52,55,55,53,56,48,56])))])
 .ret) .skip))
 (.seq (.seq (.reg [0,6] [mO 5 0,bO 6 .lss 5 (kI 0)])
 (.cond 6 (.seq (.reg [2] [mO 7 0,O 8 (.neg 7),(cO 9 112 [8]),O 10 (.bin .add (.c (.str [45])) 9),mO 2 10])
 .ret) .skip))
 (.seq (.seq (.reg [0,12] [mO 11 0,bO 12 .lss 11 (kI 10)])
 (.cond 12 (.seq (.reg [2] [mO 13 0,bO 14 .add (kI 48) 13,O 15 (.conv .u8 14),O 16 (.bsl 1 [15]),O 17 (.b2s 16),mO 2 17])
 .ret) .skip))
 (.seq (.regd [2] (zbx 0 11) [0,1,3,0,8,24,56,120,248,511,1023] [0,0,3,0,0,0,0,0,1,0,0] [mO 18 0,bO 19 .quo 18 (kI 10),(cO 20 112 [19]),mO 21 0,bO 22 .rem 21 (kI 10),bO 23 .add (kI 48) 22,O 24 (.conv .u8 23),O 25 (.bsl 1 [24]),O 26 (.b2s 25),bO 27 .add 20 26,mO 2 27])
 .ret))))
def zFy:List (Nat×An):=[(2,.t .str),(16,.t (.lst (.int .u8))),(25,.t (.lst (.int .u8)))]
def zIw:CC:=
 .seq (.reg [] [O 0 (.mv (.c (.sl 3 [])))])
 (.seq (.reg [1] [O 5 (.build [(.str []),(.str []),(.bool false),(.bool false),(.bool false),(.bool false),(.bool false),.sl 1 []] [(0,1,(.c (.str [105,100]))),(1,1,(.c (.str [105,110,116]))),(3,1,kT)]),O 6 (.build [(.str []),(.str []),(.bool false),(.bool false),(.bool false),(.bool false),(.bool false),.sl 1 []] [(0,1,(.c (.str [110,97,109,101]))),(1,1,(.c (.str [116,101,120,116]))),(3,1,kT)]),O 7 (.build [(.str []),(.str []),(.bool false),(.bool false),(.bool false),(.bool false),(.bool false),.sl 1 []] [(0,1,(.c (.str [98,111,115,115]))),(1,1,(.c (.str [117,115,101,114])))]),O 8 (.build [(.str []),(.str []),(.bool false),(.bool false),(.bool false),(.bool false),(.bool false),.sl 1 []] [(0,1,(.c (.str [97,103,101]))),(1,1,(.c (.str [105,110,116])))]),O 9 (.build [(.str []),(.str []),(.bool false),(.bool false),(.bool false),(.bool false),(.bool false),.sl 1 []] [(0,1,(.c (.str [108,105,107,101,115]))),(1,1,(.c (.str [105,116,101,109]))),(2,1,kT)]),O 10 (.bsl 1 [(.c (.str [97,103,101]))]),O 11 (.build [(.str []),(.str []),(.bool false),(.bool false),(.bool false),(.bool false),(.bool false),.sl 1 []] [(0,1,(.c (.str [114,97,110,107]))),(1,1,(.c (.str [105,110,116]))),(7,1,10)]),O 12 (.build [(.str []),(.str []),(.bool false),(.bool false),(.bool false),(.bool false),(.bool false),.sl 1 []] [(0,1,(.c (.str [110,111,116,101]))),(1,1,(.c (.str [110,111,116,101])))]),O 13 (.bsl 8 [5,6,7,8,9,11,12]),O 14 (.build [(.str []),(.str []),.sl 8 []] [(0,1,(.c (.str [117,115,101,114]))),(1,1,(.c (.str [105,100]))),(2,1,13)]),O 1 (.alloc [(.str []),(.str []),.e0]),sO (.store 3 1 14)])
 (.frz 1 0 (.seq (.reg [1,2] [O 15 (.build [(.str []),(.str []),(.bool false),(.bool false),(.bool false),(.bool false),(.bool false),.sl 1 []] [(0,1,(.c (.str [105,100]))),(1,1,(.c (.str [105,110,116]))),(3,1,kT)]),O 16 (.build [(.str []),(.str []),(.bool false),(.bool false),(.bool false),(.bool false),(.bool false),.sl 1 []] [(0,1,(.c (.str [116,105,116,108,101]))),(1,1,(.c (.str [116,101,120,116])))]),O 17 (.build [(.str []),(.str []),(.bool false),(.bool false),(.bool false),(.bool false),(.bool false),.sl 1 []] [(0,1,(.c (.str [109,97,107,101,114]))),(1,1,(.c (.str [117,115,101,114]))),(3,1,kT)]),O 18 (.build [(.str []),(.str []),(.bool false),(.bool false),(.bool false),(.bool false),(.bool false),.sl 1 []] [(0,1,(.c (.str [112,114,105,99,101]))),(1,1,(.c (.str [105,110,116])))]),O 19 (.build [(.str []),(.str []),(.bool false),(.bool false),(.bool false),(.bool false),(.bool false),.sl 1 []] [(0,1,(.c (.str [102,97,110,115]))),(1,1,(.c (.str [117,115,101,114]))),(2,1,kT),(3,1,kT)]),O 20 (.bsl 1 [(.c (.str [112,114,105,99,101]))]),O 21 (.build [(.str []),(.str []),(.bool false),(.bool false),(.bool false),(.bool false),(.bool false),.sl 1 []] [(0,1,(.c (.str [116,97,120]))),(1,1,(.c (.str [105,110,116]))),(7,1,20)]),O 22 (.build [(.str []),(.str []),(.bool false),(.bool false),(.bool false),(.bool false),(.bool false),.sl 1 []] [(0,1,(.c (.str [115,117,109,115]))),(1,1,(.c (.str [105,110,116]))),(2,1,kT)]),O 23 (.bsl 8 [15,16,17,18,19,21,22]),O 24 (.build [(.str []),(.str []),.sl 8 []] [(0,1,(.c (.str [105,116,101,109]))),(1,1,(.c (.str [105,100]))),(2,1,23)]),O 2 (.alloc [(.str []),(.str []),.e0]),sO (.store 3 2 24)])
 (.frz 2 0 (.seq (.reg [1,2,3] [O 25 (.build [(.str []),(.str []),(.bool false),(.bool false),(.bool false),(.bool false),(.bool false),.sl 1 []] [(0,1,(.c (.str [98,111,100,121]))),(1,1,(.c (.str [116,101,120,116]))),(3,1,kT),(6,1,kT)]),O 26 (.build [(.str []),(.str []),(.bool false),(.bool false),(.bool false),(.bool false),(.bool false),.sl 1 []] [(0,1,(.c (.str [98,121]))),(1,1,(.c (.str [117,115,101,114])))]),O 27 (.bsl 8 [25,26]),O 28 (.build [(.str []),(.str []),.sl 8 []] [(0,1,(.c (.str [110,111,116,101]))),(2,1,27)]),O 3 (.alloc [(.str []),(.str []),.e0]),sO (.store 3 3 28)])
 (.frz 3 0 (.seq (.reg [1,2,3,4] [O 29 (.build [(.str []),(.str []),(.bool false),(.bool false),(.bool false),(.bool false),(.bool false),.sl 1 []] [(0,1,(.c (.str [117,115,101,114,115]))),(1,1,(.c (.str [117,115,101,114]))),(2,1,kT)]),O 30 (.build [(.str []),(.str []),(.bool false),(.bool false),(.bool false),(.bool false),(.bool false),.sl 1 []] [(0,1,(.c (.str [102,105,114,115,116]))),(1,1,(.c (.str [117,115,101,114])))]),O 31 (.build [(.str []),(.str []),(.bool false),(.bool false),(.bool false),(.bool false),(.bool false),.sl 1 []] [(0,1,(.c (.str [105,116,101,109,115]))),(1,1,(.c (.str [105,116,101,109]))),(2,1,kT),(3,1,kT)]),O 32 (.build [(.str []),(.str []),(.bool false),(.bool false),(.bool false),(.bool false),(.bool false),.sl 1 []] [(0,1,(.c (.str [116,111,112]))),(1,1,(.c (.str [105,116,101,109])))]),O 33 (.build [(.str []),(.str []),(.bool false),(.bool false),(.bool false),(.bool false),(.bool false),.sl 1 []] [(0,1,(.c (.str [114,101,97,100,121]))),(1,1,(.c (.str [98,111,111,108])))]),O 34 (.bsl 8 [29,30,31,32,33]),O 35 (.build [(.str []),(.str []),.sl 8 []] [(0,1,(.c (.str [113,117,101,114,121]))),(2,1,34)]),O 4 (.alloc [(.str []),(.str []),.e0]),sO (.store 3 4 35)])
 (.frz 4 0 (.seq (.frz 1 0 (.frz 2 0 (.frz 3 0 (.frz 4 0 (.reg [0] [O 36 (.load (some 3) 4),O 37 (.load (some 3) 1),O 38 (.load (some 3) 2),O 39 (.load (some 3) 3),O 40 (.bsl 3 [36,37,38,39]),mO 0 40])))))
 .ret)))))))))
def zG2:List (Nat×An):=[(0,.t (.lst (.nm .Typ))),(5,.t (.nm .Field)),(6,.t (.nm .Field)),(7,.t (.nm .Field)),(8,.t (.nm .Field)),(9,.t (.nm .Field)),(10,.t (.lst .str)),(11,.t (.nm .Field)),(12,.t (.nm .Field)),(13,.t (.lst (.nm .Field))),(14,.t (.nm .Typ)),(1,.cells kb1),(15,.t (.nm .Field)),(16,.t (.nm .Field)),(17,.t (.nm .Field)),(18,.t (.nm .Field)),(19,.t (.nm .Field)),(20,.t (.lst .str)),(21,.t (.nm .Field)),(22,.t (.nm .Field)),(23,.t (.lst (.nm .Field))),(24,.t (.nm .Typ)),(2,.cells kb1),(25,.t (.nm .Field)),(26,.t (.nm .Field)),(27,.t (.lst (.nm .Field))),(28,.t (.nm .Typ)),(3,.cells kb1),(29,.t (.nm .Field)),(30,.t (.nm .Field)),(31,.t (.nm .Field)),(32,.t (.nm .Field)),(33,.t (.nm .Field)),(34,.t (.lst (.nm .Field))),(35,.t (.nm .Typ)),(4,.cells kb1),(36,.t (.nm .Typ)),(37,.t (.nm .Typ)),(38,.t (.nm .Typ)),(39,.t (.nm .Typ)),(40,.t (.lst (.nm .Typ)))]
def zIx:CC:=
 .seq (.reg [1,3,5,6] [O 3 (.boxm 2 0),O 5 (.boxi 8 2),O 6 (.alloc [(.str []),.e0])])
 (.seq (.regd [1,3,5,6] (zbx 0 7) [0,0,3,0,8,31,63] [1,0,4,0,0,4,4] [O 10 (.load (some 2) 3),mO 11 1,(cO 12 145 [10,11]),fO 13 1 5,lO 14 13,(cO 15 145 [12,14]),sO (.store 2 3 15)])
 (.seq (.reg [3,5,6,7] [O 16 (.load (some 2) 3),mO 17 1,(cO 18 57 [16,17]),mO 7 18])
 (.seq (.regd [3,5,6,7,8] (zbx 0 9) [0,1,0,7,15,0,32,127,255] [0,1,0,0,1,0,0,4,0] [fO 19 1 3,lO 20 19,mO 21 7,iO 22 3 20 21,O 23 (.load (some 3) 22),fO 24 0 5,lO 25 24,(cO 26 58 [23,25]),mO 8 26])
 (.seq (.seq (.reg [3,5,6,7,8,28] [mO 27 8,bO 28 .geq 27 (kI 0)])
 (.cond 28 (.seq (.seq (.reg [3,5,6,7,8,39] [fO 29 1 3,lO 30 29,mO 31 7,iO 32 3 30 31,fO 33 2 32,lO 34 33,mO 35 8,iO 36 8 34 35,fO 37 4 36,lO 38 37,O 39 (.not 38)])
 (.cond 39 (.seq (.reg [6] [O 40 (.load (some 2) 3),sO (.store 2 6 40)])
 .ret) .skip))
 (.seq (.regd [3,6] (zbx 0 10) [0,1,0,7,15,31,0,0,255,511] [0,1,0,0,0,1,0,0,0,4] [fO 41 1 3,lO 42 41,mO 43 7,iO 44 3 42 43,fO 45 2 44,lO 46 45,mO 47 8,O 48 (.load (some 8) 5),iO 49 8 46 47,sO (.store 8 49 48)])
 (.seq (.reg [6] [O 50 (.load (some 2) 3),sO (.store 2 6 50)])
 .ret))) .skip))
 (.seq (.seq (.reg [3,5,6,7,9] [mO 9 (kI 0)])
 (.block 0 (.lp false 0 [9] [3,5,6,7] (.seq (.seq (.reg [3,5,6,7,9,55] [mO 51 9,fO 52 7 5,lO 53 52,nO 54 53,bO 55 .lss 51 54])
 (.cond 55 .skip (.exit 0)))
 (.seq (.block 1 (.seq (.regd [3,5,6,7,9,69] (zbx 0 12) [0,1,0,7,15,0,32,0,224,480,1023,2047] [0,1,0,0,1,0,0,0,0,0,4,0] [fO 58 1 3,lO 59 58,mO 60 7,iO 61 3 59 60,O 62 (.load (some 3) 61),fO 63 7 5,lO 64 63,mO 65 9,iO 66 1 64 65,lO 67 66,(cO 68 58 [62,67]),bO 69 .lss 68 (kI 0)])
 (.jn false [] [3,5,6,7,9] (.cond 69 (.regd [3,5,6,7,9] (zbx 0 20) [0,1,0,0,8,0,56,120,248,0,512,0,3584,7680,15872,32256,65528,131071,262143,524287] [0,1,0,0,1,0,0,0,1,0,0,0,0,0,0,3,3,0,0,4] [fO 70 1 3,lO 71 70,mO 72 7,fO 73 1 3,lO 74 73,mO 75 7,iO 76 3 74 75,fO 77 2 76,lO 78 77,fO 79 7 5,lO 80 79,mO 81 9,iO 82 1 80 81,lO 83 82,O 84 (.build [(.str []),(.str []),(.bool false),(.bool false),(.bool false),(.bool false),(.bool false),.sl 1 []] [(0,1,83),(1,1,(.c (.str [105,110,116]))),(4,1,kT)]),O 85 (.bslm 8 [84]),O 86 (.app 8 78 85),iO 87 3 71 72,fO 88 2 87,sO (.store 1 88 86)]) .skip))))
 (.reg [3,5,6,7,9] [mO 56 9,bO 57 .add 56 (kI 1),mO 9 57]))))))
 (.seq (.regd [3,6] (zbx 0 15) [0,1,0,0,8,0,56,120,248,0,512,2040,4095,8191,16383] [0,1,0,0,1,0,0,0,1,0,3,3,0,0,4] [fO 89 1 3,lO 90 89,mO 91 7,fO 92 1 3,lO 93 92,mO 94 7,iO 95 3 93 94,fO 96 2 95,lO 97 96,O 98 (.load (some 8) 5),O 99 (.bslm 8 [98]),O 100 (.app 8 97 99),iO 101 3 90 91,fO 102 2 101,sO (.store 1 102 100)])
 (.seq (.reg [6] [O 103 (.load (some 2) 3),sO (.store 2 6 103)])
 .ret)))))))
def zG3:List (Nat×An):=[(3,.cells kb5),(5,.cells kb0),(6,.cells kb5),(10,.t (.nm .Part)),(16,.t (.nm .Part)),(23,.t (.nm .Typ)),(40,.t (.nm .Part)),(48,.t (.nm .Field)),(50,.t (.nm .Part)),(9,.t (.int .i64)),(62,.t (.nm .Typ)),(84,.t (.nm .Field)),(85,.t (.lst (.nm .Field))),(86,.t (.lst (.nm .Field))),(98,.t (.nm .Field)),(99,.t (.lst (.nm .Field))),(100,.t (.lst (.nm .Field))),(103,.t (.nm .Part))]
def zIy:CC:=
 .seq (.reg [2,3] [O 2 (.boxi 8 0),O 3 (.boxi 8 1),mO 4 kF])
 (.seq (.reg [4] [fO 5 1 2,lO 6 5,fO 7 1 3,lO 8 7,bO 9 .eql 6 8,mO 10 9,gT 11 10 (.fa 2 2),gT 12 10 (.load none 11),gT 13 10 (.fa 2 3),gT 14 10 (.load none 13),gT 15 10 (.beq .eql 12 14),O 16 (.pick 10 15 kF),mO 17 16,gT 18 17 (.fa 3 2),gT 19 17 (.load none 18),gT 20 17 (.fa 3 3),gT 21 17 (.load none 20),gT 22 17 (.beq .eql 19 21),O 23 (.pick 17 22 kF),mO 4 23])
 .ret)
def zG4:List (Nat×An):=[(2,.cells kb0),(3,.cells kb0),(4,.t .bool)]
def zIz:CC:=
 .seq (.reg [0] [mO 2 kF])
 (.seq (.seq (.reg [0,7] [mO 4 0,O 5 (.lens 4),(cO 6 146 [5,(kI 1),(kI 9)]),O 7 (.not 6)])
 (.cond 7 (.seq (.reg [2] [mO 2 kF])
 .ret) .skip))
 (.seq (.seq (.reg [0,3] [mO 3 (kI 0)])
 (.block 0 (.lp true 0 [3] [0] (.seq (.seq (.reg [0,3,11] [mO 8 3,mO 9 0,O 10 (.lens 9),bO 11 .lss 8 10])
 (.cond 11 .skip (.exit 0)))
 (.seq (.block 1 (.seq (.reg [0,3,46] [mO 14 0,mO 15 3,O 16 (.idx 14 15),O 17 (.bin .geq 16 (.c (.int .u8 97))),mO 18 17,gT 19 18 (.mv 0),gT 20 18 (.mv 3),gT 21 18 (.idx 19 20),gT 22 18 (.bin .leq 21 (.c (.int .u8 122))),O 23 (.pick 18 22 kF),mO 24 23,gF 25 24 (.mv 0),gF 26 24 (.mv 3),gF 27 24 (.idx 25 26),gF 28 24 (.bin .eql 27 (.c (.int .u8 95))),O 29 (.pick 24 kT 28),mO 30 29,gF 31 30 (.mv 3),gF 32 30 (.bin .gtr 31 (kI 0)),gF 33 30 (.mv 32),gT 34 33 (.mv 0),gT 35 33 (.mv 3),gT 36 33 (.idx 34 35),gT 37 33 (.bin .geq 36 (.c (.int .u8 48))),gF 38 30 (.pick 33 37 kF),gF 39 30 (.mv 38),gT 40 39 (.mv 0),gT 41 39 (.mv 3),gT 42 39 (.idx 40 41),gT 43 39 (.bin .leq 42 (.c (.int .u8 57))),gF 44 30 (.pick 39 43 kF),O 45 (.pick 30 kT 44),O 46 (.not 45)])
 (.cond 46 (.seq (.reg [2] [mO 2 kF])
 .ret) .skip)))
 (.reg [0,3] [mO 12 3,bO 13 .add 12 (kI 1),mO 3 13]))))))
 (.seq (.reg [2] [mO 2 kT])
 .ret)))
def zG5:List (Nat×An):=[(2,.t .bool),(3,.t (.int .i64)),(46,.t .bool)]
def zIA:CC:=
 .seq (.reg [0] [mO 2 kF])
 (.seq (.reg [2] [mO 3 0,O 4 (.bin .eql 3 (.c (.str [105,110,116]))),mO 5 4,gF 6 5 (.mv 0),gF 7 5 (.bin .eql 6 (.c (.str [116,101,120,116]))),O 8 (.pick 5 kT 7),mO 9 8,gF 10 9 (.mv 0),gF 11 9 (.bin .eql 10 (.c (.str [98,111,111,108]))),O 12 (.pick 9 kT 11),mO 2 12])
 .ret)
def zG6:List (Nat×An):=[(2,.t .bool)]
def zIB:CC:=
 .seq (.reg [1] [O 1 (.boxi 3 0),mO 2 kF])
 (.seq (.seq (.reg [1,7] [fO 5 1 1,lO 6 5,O 7 (.bin .eql 6 (.c (.str [])))])
 (.cond 7 (.seq (.reg [2] [mO 2 kT])
 .ret) .skip))
 (.seq (.reg [1,3] [O 8 (.load (some 3) 1),fO 9 1 1,lO 10 9,(cO 11 58 [8,10]),mO 3 11])
 (.seq (.seq (.reg [1,3,13] [mO 12 3,bO 13 .lss 12 (kI 0)])
 (.cond 13 (.seq (.reg [2] [mO 2 kF])
 .ret) .skip))
 (.seq (.reg [4] [fO 14 2 1,lO 15 14,mO 16 3,iO 17 8 15 16,O 18 (.load (some 8) 17),O 4 (.alloc [(.str []),(.str []),(.bool false),(.bool false),(.bool false),(.bool false),(.bool false),.e0]),sO (.store 8 4 18)])
 (.frz 4 0 (.seq (.reg [2] [fO 19 1 4,lO 20 19,O 21 (.bin .eql 20 (.c (.str [105,110,116]))),mO 22 21,gT 23 22 (.fa 2 4),gT 24 22 (.load none 23),gT 25 22 (.not 24),O 26 (.pick 22 25 kF),mO 27 26,gT 28 27 (.fa 3 4),gT 29 27 (.load none 28),O 30 (.pick 27 29 kF),mO 31 30,gT 32 31 (.fa 4 4),gT 33 31 (.load none 32),gT 34 31 (.not 33),O 35 (.pick 31 34 kF),mO 36 35,gT 37 36 (.fa 5 4),gT 38 36 (.load none 37),gT 39 36 (.not 38),O 40 (.pick 36 39 kF),mO 41 40,gT 42 41 (.fa 7 4),gT 43 41 (.load none 42),gT 44 41 (.lenl 43),gT 45 41 (.bin .eql 44 (kI 0)),O 46 (.pick 41 45 kF),mO 2 46])
 .ret))))))
def zG7:List (Nat×An):=[(1,.cells kb1),(2,.t .bool),(8,.t (.nm .Typ)),(18,.t (.nm .Field)),(4,.cells kb0)]
def zIC:CC:=
 .seq (.reg [2,3] [O 2 (.boxi 3 0),O 3 (.boxi 8 1),mO 4 kF])
 (.seq (.seq (.reg [2,3,39] [fO 7 7 3,lO 8 7,nO 9 8,bO 10 .gtr 9 (kI 0),mO 11 10,gT 12 11 (.fa 1 3),gT 13 11 (.load none 12),gT 14 11 (.bin .neq 13 (.c (.str [105,110,116]))),gT 15 11 (.mv 14),gF 16 15 (.fa 2 3),gF 17 15 (.load none 16),gT 18 11 (.pick 15 kT 17),gT 19 11 (.mv 18),gF 20 19 (.fa 4 3),gF 21 19 (.load none 20),gT 22 11 (.pick 19 kT 21),gT 23 11 (.mv 22),gF 24 23 (.fa 3 3),gF 25 23 (.load none 24),gT 26 11 (.pick 23 kT 25),gT 27 11 (.mv 26),gF 28 27 (.fa 1 2),gF 29 27 (.load none 28),gF 30 27 (.bin .eql 29 (.c (.str []))),gT 31 11 (.pick 27 kT 30),gT 32 11 (.mv 31),gF 33 32 (.fa 0 3),gF 34 32 (.load none 33),gF 35 32 (.fa 1 2),gF 36 32 (.load none 35),gF 37 32 (.bin .eql 34 36),gT 38 11 (.pick 32 kT 37),O 39 (.pick 11 38 kF)])
 (.cond 39 (.seq (.reg [4] [mO 4 kF])
 .ret) .skip))
 (.seq (.seq (.reg [2,3,5] [mO 5 (kI 0)])
 (.block 0 (.lp true 0 [5] [2,3] (.seq (.seq (.reg [2,3,5,44] [mO 40 5,fO 41 7 3,lO 42 41,nO 43 42,bO 44 .lss 40 43])
 (.cond 44 .skip (.exit 0)))
 (.seq (.block 1 (.seq (.regd [2,3,5,6] (zbx 0 8) [0,0,2,0,14,30,63,127] [0,0,0,0,0,0,4,0] [O 47 (.load (some 3) 2),fO 48 7 3,lO 49 48,mO 50 5,iO 51 1 49 50,lO 52 51,(cO 53 58 [47,52]),mO 6 53])
 (.seq (.regd [2,3,5,100] (zbx 0 47) [0,1,3,7,15,7,63,127,255,511,1023,2047,4095,8191,16383,8191,65535,131071,262143,524287,1048575,2097151,4194303,8388607,4194303,33554431,67108863,134217727,268435455,536870911,1073741823,2147483647,4294967295,8589934591,17179869183,8589934591,42949672959,137438953471,274877906943,8589934591,558345748479,8589934591,3856880631807,8254927142911,17592186044415,35184372088831,70368744177663] [0,0,0,0,0,0,0,0,0,0,0,0,0,0,0,0,0,0,0,0,0,0,0,0,0,0,0,0,0,0,0,0,0,0,0,0,0,0,0,0,0,0,0,0,0,0,0] [mO 54 6,bO 55 .lss 54 (kI 0),mO 56 55,gF 57 56 (.fa 2 2),gF 58 56 (.load none 57),gF 59 56 (.mv 6),gF 60 56 (.ia 8 58 59),gF 61 56 (.fa 7 60),gF 62 56 (.load none 61),gF 63 56 (.lenl 62),gF 64 56 (.bin .gtr 63 (kI 0)),O 65 (.pick 56 kT 64),mO 66 65,gF 67 66 (.fa 2 2),gF 68 66 (.load none 67),gF 69 66 (.mv 6),gF 70 66 (.ia 8 68 69),gF 71 66 (.fa 1 70),gF 72 66 (.load none 71),gF 73 66 (.bin .neq 72 (.c (.str [105,110,116]))),O 74 (.pick 66 kT 73),mO 75 74,gF 76 75 (.fa 2 2),gF 77 75 (.load none 76),gF 78 75 (.mv 6),gF 79 75 (.ia 8 77 78),gF 80 75 (.fa 2 79),gF 81 75 (.load none 80),O 82 (.pick 75 kT 81),mO 83 82,gF 84 83 (.mv 5),gF 85 83 (.bin .gtr 84 (kI 0)),gF 86 83 (.mv 85),gT 87 86 (.fa 7 3),gT 88 86 (.load none 87),gT 89 86 (.mv 5),gT 90 86 (.bin .sub 89 (kI 1)),gT 91 86 (.ia 1 88 90),gT 92 86 (.load none 91),gT 93 86 (.fa 7 3),gT 94 86 (.load none 93),gT 95 86 (.mv 5),gT 96 86 (.ia 1 94 95),gT 97 86 (.load none 96),gT 98 86 (.bin .geq 92 97),gF 99 83 (.pick 86 98 kF),O 100 (.pick 83 kT 99)])
 (.cond 100 (.seq (.reg [4] [mO 4 kF])
 .ret) .skip))))
 (.reg [2,3,5] [mO 45 5,bO 46 .add 45 (kI 1),mO 5 46]))))))
 (.seq (.reg [4] [mO 4 kT])
 .ret)))
def zG8:List (Nat×An):=[(2,.cells kb1),(3,.cells kb0),(4,.t .bool),(39,.t .bool),(5,.t (.int .i64)),(47,.t (.nm .Typ)),(100,.t .bool)]
def zID:CC:=
 .seq (.reg [1] [O 1 (.boxi 8 0),O 2 (.mv (.c (.str [])))])
 (.seq (.reg [1,3] [fO 6 1 1,lO 7 6,mO 3 7])
 (.seq (.seq (.reg [1,3,9] [fO 8 2 1,lO 9 8])
 (.jn false [3] [1] (.cond 9 (.reg [1,3] [mO 10 3,O 11 (.bin .add (.c (.str [91])) 10),O 12 (.bin .add 11 (.c (.str [93]))),mO 3 12]) .skip)))
 (.seq (.seq (.reg [1,3,14] [fO 13 3 1,lO 14 13])
 (.jn false [3] [1] (.cond 14 (.reg [1,3] [mO 15 3,O 16 (.bin .add 15 (.c (.str [33]))),mO 3 16]) .skip)))
 (.seq (.reg [1,4] [fO 17 0 1,lO 18 17,O 19 (.bin .add (.c (.str [32,32])) 18),O 20 (.bin .add 19 (.c (.str [32]))),mO 21 3,bO 22 .add 20 21,mO 4 22])
 (.seq (.seq (.reg [1,4,24] [fO 23 4 1,lO 24 23])
 (.jn false [4] [1] (.cond 24 (.reg [1,4] [mO 25 4,O 26 (.bin .add 25 (.c (.str [32,102,97,114]))),mO 4 26]) .skip)))
 (.seq (.seq (.reg [1,4,28] [fO 27 5 1,lO 28 27])
 (.jn false [4] [1] (.cond 28 (.reg [1,4] [mO 29 4,O 30 (.bin .add 29 (.c (.str [32,104,105,100,100,101,110]))),mO 4 30]) .skip)))
 (.seq (.seq (.reg [1,4,32] [fO 31 6 1,lO 32 31])
 (.jn false [4] [1] (.cond 32 (.reg [1,4] [mO 33 4,O 34 (.bin .add 33 (.c (.str [32,115,104,97,114,101,100]))),mO 4 34]) .skip)))
 (.seq (.seq (.reg [1,4,38] [fO 35 7 1,lO 36 35,nO 37 36,bO 38 .gtr 37 (kI 0)])
 (.jn false [4] [1] (.cond 38 (.reg [1,4] [mO 39 4,O 40 (.bin .add 39 (.c (.str [32,110,101,101,100,115]))),mO 4 40]) .skip)))
 (.seq (.seq (.reg [1,4,5] [mO 5 (kI 0)])
 (.block 0 (.lp false 0 [4,5] [1] (.seq (.seq (.reg [1,4,5,45] [mO 41 5,fO 42 7 1,lO 43 42,nO 44 43,bO 45 .lss 41 44])
 (.cond 45 .skip (.exit 0)))
 (.seq (.block 1 (.reg [1,4,5] [mO 48 4,O 49 (.bin .add 48 (.c (.str [32]))),fO 50 7 1,lO 51 50,mO 52 5,iO 53 1 51 52,lO 54 53,bO 55 .add 49 54,mO 4 55]))
 (.reg [1,4,5] [mO 46 5,bO 47 .add 46 (kI 1),mO 5 47]))))))
 (.seq (.reg [2] [mO 56 4,O 57 (.bin .add 56 (.c (.str [10]))),mO 2 57])
 .ret))))))))))
def zG9:List (Nat×An):=[(1,.cells kb0),(2,.t .str),(3,.t .str),(4,.t .str),(5,.t (.int .i64))]
def zIE:CC:=
 .seq (.reg [1,2] [O 2 (.boxi 3 0),mO 3 kF])
 (.seq (.reg [3] [fO 4 0 2,lO 5 4,lO 6 1,bO 7 .eql 5 6,mO 3 7])
 .ret)
def zHa:List (Nat×An):=[(2,.cells kb1),(3,.t .bool)]
def zIe:CC:=
 .seq (.reg [0,1] [mO 4 (kI 0)])
 (.seq (.seq (.reg [0,1,7,8] [mO 6 0,nO 7 6,mO 8 (kI 0)])
 (.block 0 (.lp true 0 [8] [0,1,7] (.seq (.reg [0,1,7,8,9] [bO 9 .lss 8 7])
 (.seq (.cond 9 .skip (.exit 0))
 (.seq (.block 1 (.seq (.reg [0,1,5,7,8] [mO 10 8,mO 5 10])
 (.seq (.reg [0,1,5,7,8,16] [mO 11 1,mO 12 0,mO 13 5,iO 14 1 12 13,lO 15 14,O 16 (.callv 11 [15])])
 (.cond 16 (.seq (.reg [4] [mO 17 5,mO 4 17])
 .ret) .skip))))
 (.reg [0,1,7,8] [bO 18 .add 8 (kI 1),mO 8 18])))))))
 (.seq (.reg [4] [O 4 (.mv (.c (.int .i64 (-1))))])
 .ret))
def zFz:List (Nat×An):=[(4,.t (.int .i64)),(8,.t (.int .i64))]
def zIF:CC:=
 .seq (.reg [0] [mO 2 kF])
 (.seq (.seq (.reg [0,6,7,8] [mO 5 0,O 6 (.s2b 5),nO 7 6,mO 8 (kI 0)])
 (.block 0 (.lp true 0 [8] [0,6,7] (.seq (.reg [0,6,7,8,9] [bO 9 .lss 8 7])
 (.seq (.cond 9 .skip (.exit 0))
 (.seq (.block 1 (.seq (.reg [0,3,4,6,7,8] [mO 10 8,iO 11 1 6 8,lO 12 11,mO 3 10,mO 4 12])
 (.seq (.reg [0,6,7,8,30] [mO 13 4,O 14 (.conv .i64 13),(cO 15 59 [14,(kI 97),(kI 122)]),O 16 (.not 15),mO 17 16,gT 18 17 (.mv 4),gT 19 17 (.bin .neq 18 (.c (.int .u8 95))),O 20 (.pick 17 19 kF),mO 21 20,gT 22 21 (.mv 3),gT 23 21 (.bin .eql 22 (kI 0)),gT 24 21 (.mv 23),gF 25 24 (.mv 4),gF 26 24 (.conv .i64 25),gF 27 24 (.call 59 [26,(kI 48),(kI 57)]),gF 28 24 (.not 27),gT 29 21 (.pick 24 kT 28),O 30 (.pick 21 29 kF)])
 (.cond 30 (.seq (.reg [2] [mO 2 kF])
 .ret) .skip))))
 (.reg [0,6,7,8] [bO 31 .add 8 (kI 1),mO 8 31])))))))
 (.seq (.reg [2] [mO 32 0,O 33 (.lens 32),(cO 34 59 [33,(kI 1),(kI 9)]),mO 2 34])
 .ret))
def zHb:List (Nat×An):=[(2,.t .bool),(6,.t (.lst (.int .u8))),(7,.t (.int .i64)),(8,.t (.int .i64)),(30,.t .bool)]
def zIG:CC:=
 .seq (.reg [0,1] [mO 4 kF])
 (.seq (.reg [4] [mO 5 0,mO 6 1,(cO 7 147 [5,6]),bO 8 .geq 7 (kI 0),mO 4 8])
 .ret)
def zHc:List (Nat×An):=[(4,.t .bool)]
def zIH:CC:=
 .seq (.reg [1,2] [O 2 (.boxi 8 0),mO 3 kF])
 (.seq (.reg [2,5] [O 7 (.load (some 2) 1),fO 8 1 2,lO 9 8,(cO 10 94 [7,9]),mO 6 10,O 11 (.ext 6 0),O 12 (.ext 6 1),O 4 (.alloc [(.str []),(.str []),.e0]),sO (.store 3 4 11),mO 5 12])
 (.seq (.reg [3] [O 13 (.load (some 8) 2),(cO 14 110 [13]),O 15 (.not 14),mO 16 15,gT 17 16 (.mv 5),gT 18 16 (.not 17),O 19 (.pick 16 18 kF),mO 3 19])
 .ret))
def zHd:List (Nat×An):=[(2,.cells kb0),(3,.t .bool),(7,.t (.nm .Part)),(4,.cells kb1),(13,.t (.nm .Field))]
def zII:CC:=
 .seq (.reg [1] [O 1 (.boxi 3 0),mO 2 kF])
 (.seq (.reg [1,3] [O 3 (.alloc [.nilf]),sO (.store 1 3 (.c (.fn 148 [])))])
 (.frz 3 0 (.seq (.frz 3 0 (.reg [1,4] [O 5 (.mkfn 149 [3]),mO 4 5]))
 (.seq (.reg [2] [fO 6 0 1,lO 7 6,(cO 8 101 [7]),O 9 (.not 8),mO 10 9,gF 11 10 (.fa 1 1),gF 12 10 (.load none 11),gF 13 10 (.bin .neq 12 (.c (.str []))),gF 14 10 (.mv 13),gT 15 14 (.fa 1 1),gT 16 14 (.load none 15),gT 17 14 (.call 101 [16]),gT 18 14 (.not 17),gF 19 10 (.pick 14 18 kF),O 20 (.pick 10 kT 19),mO 21 20,gF 22 21 (.fa 2 1),gF 23 21 (.load none 22),gF 24 21 (.lenl 23),gF 25 21 (.call 59 [24,(kI 1),(kI 8)]),gF 26 21 (.not 25),O 27 (.pick 21 kT 26),mO 28 27,gF 29 28 (.fa 2 1),gF 30 28 (.load none 29),gF 31 28 (.mv 4),gF 32 28 (.call 68 [30,31]),O 33 (.pick 28 kT 32),mO 2 33])
 .ret))))
def zHe:List (Nat×An):=[(1,.cells kb1),(2,.t .bool),(3,.cells ⟨none,[none]⟩)]
def zIJ:CC:=
 .seq (.reg [0] [mO 2 kF])
 (.seq (.seq (.reg [0,5,6,7] [mO 5 0,nO 6 5,mO 7 (kI 0)])
 (.block 0 (.lp true 0 [7] [0,5,6] (.seq (.reg [0,5,6,7,8] [bO 8 .lss 7 6])
 (.seq (.cond 8 .skip (.exit 0))
 (.seq (.block 1 (.seq (.reg [0,3,4,5,6,7] [mO 9 7,iO 10 1 5 7,lO 11 10,mO 3 9,mO 4 11])
 (.seq (.reg [0,5,6,7,16] [mO 12 0,mO 13 3,O 14 (.slc 1 12 none (some 13)),mO 15 4,(cO 16 126 [14,15])])
 (.cond 16 (.seq (.reg [2] [mO 2 kT])
 .ret) .skip))))
 (.reg [0,5,6,7] [bO 17 .add 7 (kI 1),mO 7 17])))))))
 (.seq (.reg [2] [mO 2 kF])
 .ret))
def zHf:List (Nat×An):=[(2,.t .bool),(7,.t (.int .i64))]
def zIK:CC:=
 .seq (.reg [1] [O 1 (.boxi 3 0),O 2 (.mv (.c (.sl 1 [])))])
 (.seq (.reg [1,3] [O 3 (.mv (.c .e0))])
 (.seq (.seq (.reg [3,7,8,9] [fO 6 2 1,lO 7 6,nO 8 7,mO 9 (kI 0)])
 (.block 0 (.lp false 0 [3,9] [7,8] (.seq (.reg [3,7,8,9,10] [bO 10 .lss 9 8])
 (.seq (.cond 10 .skip (.exit 0))
 (.seq (.block 1 (.seq (.reg [3,5,7,8,9] [iO 11 8 7 9,O 12 (.load (some 8) 11),O 5 (.alloc [(.str []),(.str []),(.bool false),(.bool false),(.bool false),(.bool false),(.bool false),.e0]),sO (.store 8 5 12)])
 (.frz 5 0 (.frz 5 0 (.reg [3,7,8,9] [mO 13 3,fO 14 0 5,lO 15 14,O 16 (.bsl 1 [15]),O 17 (.app 1 13 16),mO 3 17])))))
 (.reg [3,7,8,9] [bO 18 .add 9 (kI 1),mO 9 18])))))))
 (.seq (.reg [2] [mO 19 3,mO 2 19])
 .ret)))
def zHg:List (Nat×An):=[(1,.cells kb1),(2,.t (.lst .str)),(3,.t (.lst .str)),(9,.t (.int .i64)),(12,.t (.nm .Field)),(5,.cells kb0),(16,.t (.lst .str)),(17,.t (.lst .str))]
def zIL:CC:=
 .seq (.reg [1] [O 1 (.boxi 3 0),mO 2 kF])
 (.seq (.seq (.reg [1,7] [fO 5 1 1,lO 6 5,O 7 (.bin .eql 6 (.c (.str [])))])
 (.cond 7 (.seq (.reg [2] [mO 2 kF])
 .ret) .skip))
 (.seq (.reg [3,4] [O 9 (.load (some 3) 1),fO 10 1 1,lO 11 10,(cO 12 67 [9,11]),mO 8 12,O 13 (.ext 8 0),O 14 (.ext 8 1),O 3 (.alloc [(.str []),(.str []),(.bool false),(.bool false),(.bool false),(.bool false),(.bool false),.e0]),sO (.store 8 3 13),mO 4 14])
 (.frz 3 0 (.seq (.reg [2] [mO 15 4,O 16 (.not 15),mO 17 16,gF 18 17 (.load (some 8) 3),gF 19 17 (.call 150 [18]),gF 20 17 (.not 19),O 21 (.pick 17 kT 20),mO 22 21,gF 23 22 (.fa 3 3),gF 24 22 (.load none 23),gF 25 22 (.not 24),O 26 (.pick 22 kT 25),mO 27 26,gF 28 27 (.fa 4 3),gF 29 27 (.load none 28),O 30 (.pick 27 kT 29),mO 31 30,gF 32 31 (.fa 5 3),gF 33 31 (.load none 32),O 34 (.pick 31 kT 33),mO 2 34])
 .ret))))
def zHh:List (Nat×An):=[(1,.cells kb1),(2,.t .bool),(9,.t (.nm .Typ)),(3,.cells kb0),(18,.t (.nm .Field))]
def zIM:CC:=
 .seq (.reg [2,3] [O 2 (.boxi 3 0),O 3 (.boxi 8 1),mO 4 kF])
 (.seq (.seq (.reg [2,3,14] [fO 9 4 3,lO 10 9,mO 11 10,gT 12 11 (.fa 6 3),gT 13 11 (.load none 12),O 14 (.pick 11 13 kF)])
 (.cond 14 (.seq (.reg [4] [mO 4 kT])
 .ret) .skip))
 (.seq (.seq (.reg [2,3,17] [O 15 (.load (some 8) 3),(cO 16 100 [15]),O 17 (.not 16)])
 (.cond 17 (.seq (.reg [4] [mO 4 kF])
 .ret) .skip))
 (.seq (.seq (.reg [2,3,44] [fO 18 1 3,lO 19 18,O 20 (.bin .neq 19 (.c (.str [105,110,116]))),mO 21 20,gF 22 21 (.fa 2 3),gF 23 21 (.load none 22),O 24 (.pick 21 kT 23),mO 25 24,gF 26 25 (.fa 4 3),gF 27 25 (.load none 26),O 28 (.pick 25 kT 27),mO 29 28,gF 30 29 (.fa 3 3),gF 31 29 (.load none 30),O 32 (.pick 29 kT 31),mO 33 32,gF 34 33 (.fa 0 3),gF 35 33 (.load none 34),gF 36 33 (.fa 1 2),gF 37 33 (.load none 36),gF 38 33 (.bin .eql 35 37),O 39 (.pick 33 kT 38),mO 40 39,gF 41 40 (.fa 1 2),gF 42 40 (.load none 41),gF 43 40 (.bin .eql 42 (.c (.str []))),O 44 (.pick 40 kT 43)])
 (.cond 44 (.seq (.reg [4] [mO 4 kT])
 .ret) .skip))
 (.seq (.seq (.reg [2,3,46,47,48] [fO 45 7 3,lO 46 45,nO 47 46,mO 48 (kI 0)])
 (.block 0 (.lp true 0 [48] [2,3,46,47] (.seq (.reg [2,3,46,47,48,49] [bO 49 .lss 48 47])
 (.seq (.cond 49 .skip (.exit 0))
 (.seq (.block 1 (.seq (.reg [2,3,5,6,46,47,48] [mO 50 48,iO 51 1 46 48,lO 52 51,mO 5 50,mO 6 52])
 (.seq (.reg [2,3,5,6,7,8,46,47,48] [O 54 (.load (some 3) 2),mO 55 6,(cO 56 67 [54,55]),mO 53 56,O 57 (.ext 53 0),O 58 (.ext 53 1),O 7 (.alloc [(.str []),(.str []),(.bool false),(.bool false),(.bool false),(.bool false),(.bool false),.e0]),sO (.store 8 7 57),mO 8 58])
 (.frz 7 0 (.seq (.reg [2,3,46,47,48,79] [mO 59 8,O 60 (.not 59),mO 61 60,gF 62 61 (.load (some 8) 7),gF 63 61 (.call 150 [62]),gF 64 61 (.not 63),O 65 (.pick 61 kT 64),mO 66 65,gF 67 66 (.mv 5),gF 68 66 (.bin .gtr 67 (kI 0)),gF 69 66 (.mv 68),gT 70 69 (.mv 6),gT 71 69 (.fa 7 3),gT 72 69 (.load none 71),gT 73 69 (.mv 5),gT 74 69 (.bin .sub 73 (kI 1)),gT 75 69 (.ia 1 72 74),gT 76 69 (.load none 75),gT 77 69 (.bin .leq 70 76),gF 78 66 (.pick 69 77 kF),O 79 (.pick 66 kT 78)])
 (.cond 79 (.seq (.reg [4] [mO 4 kT])
 .ret) .skip))))))
 (.reg [2,3,46,47,48] [bO 80 .add 48 (kI 1),mO 48 80])))))))
 (.seq (.reg [4] [mO 4 kF])
 .ret)))))
def zHi:List (Nat×An):=[(2,.cells kb1),(3,.cells kb0),(4,.t .bool),(14,.t .bool),(15,.t (.nm .Field)),(44,.t .bool),(46,.t (.lst .str)),(47,.t (.int .i64)),(48,.t (.int .i64)),(54,.t (.nm .Typ)),(7,.cells kb0),(62,.t (.nm .Field)),(79,.t .bool)]
def zIN:CC:=
 .seq (.reg [1] [O 1 (.boxi 8 0),mO 2 kF])
 (.seq (.reg [2] [fO 3 1 1,lO 4 3,O 5 (.bin .eql 4 (.c (.str [113,117,101,114,121]))),mO 2 5])
 .ret)
def zHj:List (Nat×An):=[(1,.cells kb0),(2,.t .bool)]
def zIO:CC:=
 .seq (.reg [1] [O 1 (.boxi 8 0),O 2 (.mv (.c (.str [])))])
 (.seq (.reg [1,3] [fO 6 1 1,lO 7 6,mO 3 7])
 (.seq (.seq (.reg [1,3,9] [fO 8 2 1,lO 9 8])
 (.jn false [3] [1] (.cond 9 (.reg [1,3] [mO 10 3,O 11 (.bin .add (.c (.str [91])) 10),O 12 (.bin .add 11 (.c (.str [93]))),mO 3 12]) .skip)))
 (.seq (.seq (.reg [1,3,14] [fO 13 3 1,lO 14 13])
 (.jn false [3] [1] (.cond 14 (.reg [1,3] [mO 15 3,O 16 (.bin .add 15 (.c (.str [33]))),mO 3 16]) .skip)))
 (.seq (.reg [1,3] [fO 17 0 1,lO 18 17,O 19 (.bin .add (.c (.str [32,32])) 18),O 20 (.bin .add 19 (.c (.str [32]))),mO 21 3,bO 22 .add 20 21,mO 3 22])
 (.seq (.seq (.reg [1,3,29,30,31] [fO 23 4 1,lO 24 23,fO 25 5 1,lO 26 25,fO 27 6 1,lO 28 27,O 29 (.bsl 1 [24,26,28]),nO 30 29,mO 31 (kI 0)])
 (.block 0 (.lp false 0 [3,31] [1,29,30] (.seq (.reg [1,3,29,30,31,32] [bO 32 .lss 31 30])
 (.seq (.cond 32 .skip (.exit 0))
 (.seq (.block 1 (.seq (.reg [1,3,4,5,29,30,31] [mO 33 31,iO 34 1 29 31,lO 35 34,mO 4 33,mO 5 35])
 (.seq (.reg [1,3,4,29,30,31,36] [mO 36 5])
 (.jn false [3] [1,29,30,31] (.cond 36 (.reg [1,3,29,30,31] [mO 37 3,O 38 (.bsl 1 [(.c (.str [32,102,97,114])),(.c (.str [32,104,105,100,100,101,110])),(.c (.str [32,115,104,97,114,101,100]))]),mO 39 4,iO 40 1 38 39,lO 41 40,bO 42 .add 37 41,mO 3 42]) .skip)))))
 (.reg [1,3,29,30,31] [bO 43 .add 31 (kI 1),mO 31 43])))))))
 (.seq (.seq (.reg [1,3,45] [O 44 (.load (some 8) 1),(cO 45 100 [44])])
 (.jn false [3] [] (.cond 45 (.reg [3] [mO 46 3,fO 47 7 1,lO 48 47,(cO 49 26 [48,(.c (.str [32]))]),O 50 (.bin .add (.c (.str [32,110,101,101,100,115,32])) 49),bO 51 .add 46 50,mO 3 51]) .skip)))
 (.seq (.reg [2] [mO 52 3,O 53 (.bin .add 52 (.c (.str [10]))),mO 2 53])
 .ret)))))))
def zHk:List (Nat×An):=[(1,.cells kb0),(2,.t .str),(3,.t .str),(29,.t (.lst .bool)),(31,.t (.int .i64)),(38,.t (.lst .str)),(44,.t (.nm .Field))]
def zIP:CC:=
 .seq (.reg [0,1,2,3] [mO 8 (kI 0)])
 (.seq (.seq (.reg [0,1,2,3,23] [mO 13 2,O 14 (.bin .neq 13 (.c (.str [113,117,101,114,121]))),mO 15 14,gT 16 15 (.mv 0),gT 17 15 (.mv 1),gT 18 15 (.ia 2 16 17),gT 19 15 (.load (some 2) 18),gT 20 15 (.mv 2),gT 21 15 (.mv 3),gT 22 15 (.call 154 [19,20,21]),O 23 (.pick 15 22 kF)])
 (.cond 23 (.seq (.reg [8] [mO 24 1,mO 8 24])
 .ret) .skip))
 (.seq (.reg [0,1,2,3,9] [mO 25 0,mO 26 2,mO 27 3,(cO 28 155 [25,26,27]),mO 9 28])
 (.seq (.seq (.reg [0,1,2,3,9,34] [mO 29 2,O 30 (.bin .eql 29 (.c (.str [113,117,101,114,121]))),mO 31 30,gF 32 31 (.mv 9),gF 33 31 (.bin .lss 32 (kI 0)),O 34 (.pick 31 kT 33)])
 (.cond 34 (.seq (.reg [8] [mO 35 9,mO 8 35])
 .ret) .skip))
 (.seq (.reg [0,1,2,9,10] [mO 37 0,mO 38 9,iO 39 2 37 38,O 40 (.load (some 2) 39),mO 41 2,mO 42 3,(cO 43 28 [40,41,42]),mO 36 43,O 44 (.ext 36 0),O 45 (.ext 36 1),O 10 (.alloc [(.str []),(.str []),(.bool false),(.bool false),(.bool false),(.bool false),(.bool false),.e0]),sO (.store 8 10 44),mO 11 45])
 (.frz 10 0 (.seq (.seq (.reg [0,1,2,9,10,52] [mO 46 0,mO 47 1,iO 48 2 46 47,O 49 (.load (some 2) 48),mO 50 2,(cO 51 156 [49,50]),O 52 (.not 51)])
 (.cond 52 (.seq (.reg [8] [O 8 (.mv (.c (.int .i64 (-1))))])
 .ret) .skip))
 (.seq (.seq (.reg [0,1,2,9,10,12] [mO 12 (kI 0)])
 (.block 0 (.lp true 0 [12] [0,1,2,9,10] (.seq (.seq (.reg [0,1,2,9,10,12,57] [mO 53 12,fO 54 7 10,lO 55 54,nO 56 55,bO 57 .lss 53 56])
 (.cond 57 .skip (.exit 0)))
 (.seq (.block 1 (.seq (.regd [0,1,2,9,10,12,82] (zbx 0 23) [0,0,3,7,0,0,32,0,224,480,1023,2047,4095,8191,8191,8191,40959,8191,237567,499711,1048575,2097151,4194303] [0,0,0,1,0,0,0,0,0,0,4,0,0,0,0,0,0,0,0,0,4,0,0] [mO 60 0,mO 61 1,iO 62 2 60 61,O 63 (.load (some 2) 62),mO 64 2,fO 65 7 10,lO 66 65,mO 67 12,iO 68 1 66 67,lO 69 68,(cO 70 154 [63,64,69]),O 71 (.not 70),mO 72 71,gT 73 72 (.mv 0),gT 74 72 (.mv 2),gT 75 72 (.fa 7 10),gT 76 72 (.load none 75),gT 77 72 (.mv 12),gT 78 72 (.ia 1 76 77),gT 79 72 (.load none 78),gT 80 72 (.call 155 [73,74,79]),gT 81 72 (.bin .lss 80 (kI 0)),O 82 (.pick 72 81 kF)])
 (.cond 82 (.seq (.reg [8] [O 8 (.mv (.c (.int .i64 (-1))))])
 .ret) .skip)))
 (.reg [0,1,2,9,10,12] [mO 58 12,bO 59 .add 58 (kI 1),mO 12 59]))))))
 (.seq (.reg [8] [mO 83 9,mO 8 83])
 .ret))))))))
def zHl:List (Nat×An):=[(8,.t (.int .i64)),(19,.t (.nm .Part)),(23,.t .bool),(9,.t (.int .i64)),(34,.t .bool),(40,.t (.nm .Part)),(10,.cells kb0),(49,.t (.nm .Part)),(12,.t (.int .i64)),(63,.t (.nm .Part)),(82,.t .bool)]
def zIQ:CC:=
 .seq (.reg [0,3] [O 3 (.boxi 2 1),mO 4 (kI 0)])
 (.seq (.seq (.reg [0,3,5] [mO 5 (kI 0)])
 (.block 0 (.lp true 0 [5] [0,3] (.seq (.seq (.reg [0,3,5,9] [mO 6 5,mO 7 0,nO 8 7,bO 9 .lss 6 8])
 (.cond 9 .skip (.exit 0)))
 (.seq (.block 1 (.seq (.regd [0,3,5,17] (zbx 0 6) [0,0,3,7,0,31] [0,0,0,1,0,0] [mO 12 0,mO 13 5,iO 14 2 12 13,O 15 (.load (some 2) 14),O 16 (.load (some 2) 3),O 17 (.eqs .eql [2,1] 15 16)])
 (.cond 17 (.seq (.reg [4] [mO 18 5,mO 4 18])
 .ret) .skip)))
 (.reg [0,3,5] [mO 10 5,bO 11 .add 10 (kI 1),mO 5 11]))))))
 (.seq (.reg [4] [O 4 (.mv (.c (.int .i64 (-1))))])
 .ret))
def zHm:List (Nat×An):=[(3,.cells zHA),(4,.t (.int .i64)),(5,.t (.int .i64)),(15,.t (.nm .Stt)),(16,.t (.nm .Stt))]
def zIR:CC:=
 .seq (.reg [1,2,4] [O 2 (.boxm 2 0),O 4 (.alloc [(.str []),.e0])])
 (.seq (.seq (.reg [1,2,4,13] [mO 6 1,(cO 7 119 [6]),mO 8 7,gF 9 8 (.load (some 2) 2),gF 10 8 (.mv 1),gF 11 8 (.call 57 [9,10]),gF 12 8 (.bin .geq 11 (kI 0)),O 13 (.pick 8 kT 12)])
 (.cond 13 (.seq (.reg [4] [O 14 (.load (some 2) 2),sO (.store 2 4 14)])
 .ret) .skip))
 (.seq (.reg [1,2,4,5] [mO 15 1,O 16 (.build [(.str []),(.str []),.e0] [(0,1,15)]),O 5 (.alloc [(.str []),(.str []),.e0]),sO (.store 3 5 16)])
 (.seq (.reg [1,2,4,5] [O 17 (.build [(.str []),(.str []),(.bool false),(.bool false),(.bool false),(.bool false),(.bool false),.sl 1 []] [(0,1,(.c (.str [98,111,100,121]))),(1,1,(.c (.str [116,101,120,116]))),(3,1,kT),(6,1,kT)]),O 18 (.bslm 8 [17]),fO 19 2 5,sO (.store 1 19 18)])
 (.seq (.seq (.reg [2,4,5,21] [mO 20 1,O 21 (.bin .neq 20 (.c (.str [110,111,116,101])))])
 (.jn false [] [2,4,5] (.cond 21 (.seq (.reg [2,4,5] [fO 22 1 5,sO (.store 1 22 (.c (.str [105,100])))])
 (.reg [2,4,5] [O 23 (.build [(.str []),(.str []),(.bool false),(.bool false),(.bool false),(.bool false),(.bool false),.sl 1 []] [(0,1,(.c (.str [105,100]))),(1,1,(.c (.str [105,110,116]))),(3,1,kT)]),O 24 (.bslm 8 [23]),fO 25 2 5,sO (.store 1 25 24)])) .skip)))
 (.seq (.reg [2,4] [fO 26 1 2,lO 27 26,O 28 (.load (some 3) 5),O 29 (.bslm 3 [28]),O 30 (.app 3 27 29),fO 31 1 2,sO (.store 1 31 30)])
 (.seq (.reg [4] [O 32 (.load (some 2) 2),sO (.store 2 4 32)])
 .ret))))))
def zHn:List (Nat×An):=[(2,.cells kb5),(4,.cells kb5),(9,.t (.nm .Part)),(13,.t .bool),(14,.t (.nm .Part)),(16,.t (.nm .Typ)),(5,.cells kb1),(17,.t (.nm .Field)),(18,.t (.lst (.nm .Field))),(23,.t (.nm .Field)),(24,.t (.lst (.nm .Field))),(28,.t (.nm .Typ)),(29,.o (.nm .Typ) (.at [(2,.no)])),(30,.o (.nm .Typ) (.at [(2,.no)])),(32,.t (.nm .Part))]
def zIS:CC:=
 .seq (.reg [0,1,2] [mO 6 kF])
 (.seq (.reg [6] [mO 7 0,mO 8 1,bO 9 .geq 7 8,mO 10 9,gT 11 10 (.mv 0),gT 12 10 (.mv 2),gT 13 10 (.bin .leq 11 12),O 14 (.pick 10 13 kF),mO 6 14])
 .ret)
def zHo:List (Nat×An):=[(6,.t .bool)]
def zIT:CC:=
 .seq (.reg [0,1] [mO 4 (kI 0)])
 (.seq (.seq (.reg [0,1,7,8] [mO 6 0,nO 7 6,mO 8 (kI 0)])
 (.block 0 (.lp true 0 [8] [0,1,7] (.seq (.reg [0,1,7,8,9] [bO 9 .lss 8 7])
 (.seq (.cond 9 .skip (.exit 0))
 (.seq (.block 1 (.seq (.reg [0,1,5,7,8] [mO 10 8,mO 5 10])
 (.seq (.reg [0,1,5,7,8,16] [mO 11 1,mO 12 0,mO 13 5,iO 14 1 12 13,lO 15 14,bO 16 .eql 11 15])
 (.cond 16 (.seq (.reg [4] [mO 17 5,mO 4 17])
 .ret) .skip))))
 (.reg [0,1,7,8] [bO 18 .add 8 (kI 1),mO 8 18])))))))
 (.seq (.reg [4] [O 4 (.mv (.c (.int .i64 (-1))))])
 .ret))
def zHp:List (Nat×An):=[(4,.t (.int .i64)),(8,.t (.int .i64))]
def zIU:CC:=
 .seq (.reg [0] [mO 2 kF])
 (.seq (.reg [2] [mO 3 0,(cO 4 101 [3]),O 5 (.not 4),mO 2 5])
 .ret)
def zHq:List (Nat×An):=[(2,.t .bool)]
def zIV:CC:=
 .seq (.reg [1,2] [O 2 (.boxi 8 0),mO 3 kF])
 (.seq (.reg [3] [fO 4 0 2,lO 5 4,(cO 6 101 [5]),O 7 (.not 6),mO 8 7,gF 9 8 (.fa 1 2),gF 10 8 (.load none 9),gF 11 8 (.call 101 [10]),gF 12 8 (.not 11),gF 13 8 (.mv 12),gT 14 13 (.load (some 8) 2),gT 15 13 (.call 110 [14]),gT 16 13 (.not 15),gF 17 8 (.pick 13 16 kF),O 18 (.pick 8 kT 17),mO 19 18,gF 20 19 (.fa 7 2),gF 21 19 (.load none 20),gF 22 19 (.load none 1),gF 23 19 (.call 97 [21,22]),O 24 (.pick 19 kT 23),mO 3 24])
 .ret)
def zHr:List (Nat×An):=[(2,.cells kb0),(3,.t .bool),(14,.t (.nm .Field))]
def zIW:CC:=
 .seq (.reg [1] [O 1 (.boxi 8 0),mO 2 kF])
 (.seq (.reg [2] [fO 3 1 1,lO 4 3,O 5 (.bin .eql 4 (.c (.str [105,110,116]))),mO 6 5,gT 7 6 (.fa 2 1),gT 8 6 (.load none 7),gT 9 6 (.not 8),O 10 (.pick 6 9 kF),mO 11 10,gT 12 11 (.load (some 8) 1),gT 13 11 (.call 100 [12]),gT 14 11 (.not 13),O 15 (.pick 11 14 kF),mO 2 15])
 .ret)
def zHs:List (Nat×An):=[(1,.cells kb0),(2,.t .bool),(12,.t (.nm .Field))]
def zIX:CC:=
 .seq (.reg [1,2,3] [O 3 (.boxi 2 0),mO 6 kF])
 (.seq (.reg [7,8] [O 10 (.load (some 2) 3),mO 11 1,mO 12 2,(cO 13 28 [10,11,12]),mO 9 13,O 14 (.ext 9 0),O 15 (.ext 9 1),O 7 (.alloc [(.str []),(.str []),(.bool false),(.bool false),(.bool false),(.bool false),(.bool false),.e0]),sO (.store 8 7 14),mO 8 15])
 (.frz 7 0 (.seq (.reg [6] [mO 16 8,mO 17 16,gT 18 17 (.fa 4 7),gT 19 17 (.load none 18),gT 20 17 (.not 19),O 21 (.pick 17 20 kF),mO 22 21,gT 23 22 (.fa 7 7),gT 24 22 (.load none 23),gT 25 22 (.lenl 24),gT 26 22 (.bin .eql 25 (kI 0)),O 27 (.pick 22 26 kF),mO 6 27])
 .ret)))
def zHt:List (Nat×An):=[(3,.cells kb2),(6,.t .bool),(10,.t (.nm .Part)),(7,.cells kb0)]
def zIY:CC:=
 .seq (.reg [0,1,2] [mO 6 (kI 0)])
 (.seq (.seq (.reg [0,1,2,7] [mO 7 (kI 0)])
 (.block 0 (.lp true 0 [7] [0,1,2] (.seq (.seq (.reg [0,1,2,7,13] [mO 10 7,mO 11 0,nO 12 11,bO 13 .lss 10 12])
 (.cond 13 .skip (.exit 0)))
 (.seq (.block 1 (.seq (.reg [0,1,2,7,8,9] [mO 17 0,mO 18 7,iO 19 2 17 18,O 20 (.load (some 2) 19),mO 21 1,mO 22 2,(cO 23 28 [20,21,22]),mO 16 23,O 24 (.ext 16 0),O 25 (.ext 16 1),O 8 (.alloc [(.str []),(.str []),(.bool false),(.bool false),(.bool false),(.bool false),(.bool false),.e0]),sO (.store 8 8 24),mO 9 25])
 (.frz 8 0 (.seq (.reg [0,1,2,7,43] [mO 26 9,mO 27 26,gT 28 27 (.fa 4 8),gT 29 27 (.load none 28),gT 30 27 (.not 29),O 31 (.pick 27 30 kF),mO 32 31,gT 33 32 (.mv 1),gT 34 32 (.bin .eql 33 (.c (.str [113,117,101,114,121]))),gT 35 32 (.mv 34),gF 36 35 (.mv 0),gF 37 35 (.mv 7),gF 38 35 (.ia 2 36 37),gF 39 35 (.load (some 2) 38),gF 40 35 (.mv 1),gF 41 35 (.call 156 [39,40]),gT 42 32 (.pick 35 kT 41),O 43 (.pick 32 42 kF)])
 (.cond 43 (.seq (.reg [6] [mO 44 7,mO 6 44])
 .ret) .skip)))))
 (.reg [0,1,2,7] [mO 14 7,bO 15 .add 14 (kI 1),mO 7 15]))))))
 (.seq (.reg [6] [O 6 (.mv (.c (.int .i64 (-1))))])
 .ret))
def zHu:List (Nat×An):=[(6,.t (.int .i64)),(7,.t (.int .i64)),(20,.t (.nm .Part)),(8,.cells kb0),(39,.t (.nm .Part)),(43,.t .bool)]
def zIZ:CC:=
 .seq (.reg [1,2] [O 2 (.boxi 2 0),mO 4 kF])
 (.seq (.reg [2,5] [O 6 (.load (some 2) 2),mO 7 1,(cO 8 57 [6,7]),mO 5 8])
 (.seq (.reg [4] [mO 9 5,bO 10 .geq 9 (kI 0),mO 11 10,gT 12 11 (.fa 1 2),gT 13 11 (.load none 12),gT 14 11 (.mv 5),gT 15 11 (.ia 3 13 14),gT 16 11 (.fa 1 15),gT 17 11 (.load none 16),gT 18 11 (.bin .neq 17 (.c (.str []))),O 19 (.pick 11 18 kF),mO 4 19])
 .ret))
def zHv:List (Nat×An):=[(2,.cells kb2),(4,.t .bool),(6,.t (.nm .Part))]
end Go.Fw
namespace Go.Fw
open Go
def wp{α:Type}(x:Option α)(Q:α->Prop):Prop:=∃a,x=some a/\Q a
theorem wp.mono{α:Type}{x:Option α}{Q R:α->Prop}(h:wp x Q)(hQ:∀a,Q a->R a):wp x R:=let⟨a,e,q⟩:=h;⟨a,e,hQ a q⟩
theorem ywd{α:Type}{a:α}{Q:α->Prop}:wp (some a) Q↔Q a:=⟨fun⟨_,e,q⟩=>by cases e;exact q,fun h=>⟨a,rfl,h⟩⟩
theorem ywb{α β:Type}{x:Option α}{f:α->Option β}{Q:β->Prop}:wp (zaa x f) Q↔wp x fun a=>wp (f a) Q:=by
 unfold zaa;constructor
 ·rintro⟨b,e,q⟩;cases x with
  |none=>cases e
  |some a=>exact⟨a,rfl,b,e,q⟩
 ·rintro⟨a,rfl,b,e,q⟩;exact⟨b,e,q⟩
theorem ywc{α:Type}{b:Bool}{x y:Option α}{Q:α->Prop}:wp (zab b x y) Q↔(b=true->wp x Q)/\(b=false->wp y Q):=by unfold zab;cases b<;>simp
theorem ywa{α:Type}{b:Bool}{x:Option α}{Q:α->Prop}:wp (gd b x) Q↔b=true/\wp x Q:=by
 unfold gd;cases b with
 |true=>simp
 |false=>simp only[cond_false,yhj,false_and,iff_false];rintro⟨_,e,_⟩;cases e
theorem yhv{α β γ:Type}{x:α⊕β}{f:α->Option γ}{g:β->Option γ}{Q:γ->Prop}:wp (zav x f g) Q↔(∀a,x=.inl a->wp (f a) Q)/\(∀b,x=.inr b->wp (g b) Q):=by cases x<;>simp[zav]
theorem yhw{α β γ:Type}{a:α}{f:α->γ}{g:β->γ}:zav (Sum.inl a) f g=f a:=rfl
theorem yhx{α β γ:Type}{b:β}{f:α->γ}{g:β->γ}:zav (Sum.inr b) f g=g b:=rfl
theorem ywe{α:Type}{l:List α}{i:Nat}{Q:α->Prop}:wp l[i]? Q↔∃h:i<l.length,Q l[i]:=by
 constructor
 ·rintro⟨a,e,q⟩;obtain⟨h,e⟩:=yga.1 e;exact⟨h,e ▸ q⟩
 ·rintro⟨h,q⟩;exact⟨_,ygb h,q⟩
theorem zmL{σ Z:Type}{b:σ->Option (σ⊕Z)}:∀{n:Nat}{s:σ}{r:Z},zfA b n s=some r->∀{m:Nat},n<=m->zfA b m s=some r
|0,_,_,h,_,_=>by cases h
|n+1,s,r,h,m,hm=>by
 obtain⟨m,rfl⟩:∃k,m=k+1:=⟨m-1,by omega⟩
 simp only[zfA]at h|-;split at h
 ·exact zmL h (by omega)
 ·exact h
 ·cases h
theorem zrR{σ Z:Type}{b:σ->Option (σ⊕Z)}{n:Nat}{s:σ}{r:Z}(h:zfA b n s=some r):zal b s=some r:=by
 rw[zwA];have he:∃n,(zfA b n s).isSome:=⟨n,by rw[h];rfl⟩
 rw[dif_pos he];obtain⟨r',hr'⟩:=Option.isSome_iff_exists.1 he.choose_spec;rw[hr'];have h1:=zmL hr' (Nat.le_max_left he.choose n);have h2:=zmL h (Nat.le_max_right he.choose n);rw[h1]at h2;exact h2
theorem zmY{σ Z:Type}{b:σ->Option (σ⊕Z)}{Q:Z->Prop}(I:σ->Prop)(μ:σ->Nat){s:σ}(h0:I s)
 (hs:∀s,I s->wp (b s) fun x=>(∀s',x=.inl s'->I s'/\μ s'<μ s)/\(∀r,x=.inr r->Q r)):wp (zal b s) Q:=by
 have:∀(k:Nat)(s:σ),I s->μ s<k->∃n r,zfA b n s=some r/\Q r:=by
  intro k;induction k with
  |zero=>intro s _ h;omega
  |succ k ih=>
   intro s hI hk;obtain⟨x,hx,h1,h2⟩:=hs s hI;cases x with
   |inl s'=>obtain⟨g1,g2⟩:=h1 s' rfl;obtain⟨n,r,h3,h4⟩:=ih s' g1 (by omega);exact⟨n+1,r,by simp only[zfA,hx];exact h3,h4⟩
   |inr r=>exact⟨1,r,by simp only[zfA,hx],h2 r rfl⟩
 obtain⟨n,r,h1,h2⟩:=this (μ s+1) s h0 (by omega);exact⟨r,zrR h1,h2⟩
theorem yhy{α β:Type}{a:α}{P:α->Prop}{Q:β->Prop}:((∀s',(Sum.inl a:α⊕β)=.inl s'->P s')/\(∀r,(Sum.inl a:α⊕β)=.inr r->Q r))↔P a:=by simp
theorem yhz{α β:Type}{b:β}{P:α->Prop}{Q:β->Prop}:((∀s',(Sum.inr b:α⊕β)=.inl s'->P s')/\(∀r,(Sum.inr b:α⊕β)=.inr r->Q r))↔Q b:=by simp
def Le{α:Type}(x y:Option α):Prop:=∀r,x=some r->y=some r
theorem Le.refl{α:Type}(x:Option α):Le x x:=fun _ h=>h
theorem Le.none{α:Type}{y:Option α}:Le none y:=fun _ h=>by cases h
theorem Le.bind{α β:Type}{x y:Option α}{f g:α->Option β}(h:Le x y)(hf:∀a,Le (f a) (g a)):Le (zaa x f) (zaa y g):=by
 unfold zaa;intro r hr;cases x with
 |none=>cases hr
 |some a=>rw[h a rfl];exact hf a r hr
theorem Le.cond{α:Type}{b:Bool}{x y x' y':Option α}(h:Le x x')(h':Le y y'):Le (zab b x y) (zab b x' y'):=by
 cases b
 ·exact h'
 ·exact h
theorem Le.gd{α:Type}{b:Bool}{x x':Option α}(h:Le x x'):Le (gd b x) (gd b x'):=by
 cases b
 ·exact Le.none
 ·exact h
theorem zD8{α β:Type}{G:Nat->α->Option β}(hm:∀n d,Le (G n d) (G (n+1) d)){n:Nat}{d:α}{r:β}(h:G n d=some r):zFk G d=some r:=by
 have hm':∀k n d,Le (G n d) (G (n+k) d):=by
  intro k;induction k with
  |zero=>intro n d;exact Le.refl _
  |succ k ih=>intro n d r hr;exact hm _ _ _ (ih n d r hr)
 rw[zzG];have he:∃n,(G n d).isSome:=⟨n,by rw[h];rfl⟩
 rw[dif_pos he];obtain⟨r',hr'⟩:=Option.isSome_iff_exists.1 he.choose_spec;rw[hr'];have h1:=hm' n he.choose d r' hr';have h2:=hm' he.choose n d r h;rw[Nat.add_comm,h1]at h2;exact h2
theorem zGv{α β:Type}{G:Nat->α->Option β}(hm:∀n d,Le (G n d) (G (n+1) d)){n:Nat}{d:α}{Q:β->Prop}(h:wp (G n d) Q):wp (zFk G d) Q:=let⟨a,e,q⟩:=h;⟨a,zD8 hm e,q⟩
theorem zd2{n:Int}(h1:-9223372036854775808<=n)(h2:n<=9223372036854775807):zay n=true:=by simp[zay,h1,h2]
theorem yhu{n:Int}:zay n=true↔-9223372036854775808<=n/\n<=9223372036854775807:=by simp[zay]
end Go.Fw
namespace Go.Fw
open Go
theorem hBM:BIG=9223372036854775807/\LIM=1099511627776:=⟨rfl,rfl⟩
theorem zE1{α:Type}{x:Option α}{a:α}{Q:α->Prop}(h:x=some a)(hq:Q a):wp x Q:=⟨a,h,hq⟩
theorem zac{α β:Type}{a:α}{f:α->Option β}:zaa (some a) f=f a:=rfl
theorem zaf{α:Type}{x y:Option α}:zab true x y=x:=rfl
theorem zae{α:Type}{x y:Option α}:zab false x y=y:=rfl
theorem zag{α:Type}{x:Option α}:gd true x=x:=rfl
theorem zBs{α:Type}{b:Bool}{x y:α}:zab b (some x) (some y)=some (bif b then x else y):=by cases b<;>rfl
theorem zb0{α:Type}{b:Bool}{x:Option α}(h:b=true):gd b x=x:=by rw[h];rfl
def zp7{α β Z:Type}(step:Nat->β->α->β⊕Z):Nat->β->List α->β⊕Z
|_,a,[]=>.inl a
|i,a,x:: xs=>match step i a x with
 |.inl a'=>zp7 step (i+1) a' xs
 |.inr r=>.inr r
theorem ztD{σ τ Z α β:Type}{b:σ->Option (σ⊕(τ⊕Z))}(xs:List α)(mk:Nat->β->σ)(fin:β->τ)(step:Nat->β->α->β⊕Z)(P:Nat->β->Prop){a0:β}(h0:P 0 a0)
 (hs:∀(i:Nat)(h:i<xs.length)(a:β),P i a->(∀a',step i a xs[i]=.inl a'->b (mk i a)=some (.inl (mk (i+1) a'))/\P (i+1) a')/\(∀r,step i a xs[i]=.inr r->b (mk i a)=some (.inr (.inr r))))
 (he:∀a,P xs.length a->b (mk xs.length a)=some (.inr (.inl (fin a)))):
 zal b (mk 0 a0)=some (match zp7 step 0 a0 xs with|.inl a=>.inl (fin a)|.inr r=>.inr r):=by
 have key:∀(k i:Nat)(a:β),k+i=xs.length->P i a->∃n,zfA b n (mk i a)=some (match zp7 step i a (xs.drop i)with|.inl a=>.inl (fin a)|.inr r=>.inr r):=by
  intro k;induction k with
  |zero=>
   intro i a hk hP;have hi:i=xs.length:=by omega
   subst hi;refine⟨1,?_⟩;rw[List.drop_length];simp only[zfA,he a hP,zp7]
  |succ k ih=>
   intro i a hk hP;have hi:i<xs.length:=by omega
   obtain⟨h1,h2⟩:=hs i hi a hP;rw[List.drop_eq_getElem_cons hi];cases hx:step i a xs[i]with
   |inl a'=>obtain⟨g1,g2⟩:=h1 a' hx;obtain⟨n,hn⟩:=ih (i+1) a' (by omega) g2;refine⟨n+1,?_⟩;simp only[zfA,g1,zp7,hx];exact hn
   |inr r=>refine⟨1,?_⟩;simp only[zfA,h2 r hx,zp7,hx]
 obtain⟨n,hn⟩:=key xs.length 0 a0 (by omega) h0;exact zrR (by simpa using hn)
def ixM{α:Type}(q:α->Bool)(xs:List α):Int:=match xs.findIdx? q with|some i=>(i:Int)|none=>-1
theorem zaT{α:Type}(q:α->Bool)(xs:List α):(ixM q xs= -1/\xs.find? q=none/\xs.any q=false)\/∃(i:Nat)(h:i<xs.length),ixM q xs=i/\xs.find? q=some xs[i]/\q xs[i]=true/\xs.any q=true:=by
 unfold ixM;cases h:xs.findIdx? q with
 |none=>rw[List.findIdx?_eq_none_iff]at h;exact .inl ⟨rfl,List.find?_eq_none.2 fun x hx=>by simp[h x hx],by simpa using h⟩
 |some i=>obtain⟨hi,h1,h2⟩:=List.findIdx?_eq_some_iff_getElem.1 h;refine .inr ⟨i,hi,rfl,?_,h1,List.any_eq_true.2 ⟨_,ygh hi,h1⟩⟩;rw[List.find?_eq_some_iff_getElem];exact⟨h1,i,hi,rfl,fun j hj=>by simpa using h2 j hj⟩
theorem zkm{α:Type}(q:α->Bool)(xs:List α):decide (ixM q xs>=0)=xs.any q:=by
 rcases zaT q xs with⟨h1,_,h2⟩|⟨i,_,h1,_,_,h2⟩
 ·rw[h1,h2];rfl
 ·rw[h1,h2];simp
theorem zCQ{α:Type}(q:α->Bool)(xs:List α):decide (ixM q xs<0)= !xs.any q:=by
 rcases zaT q xs with⟨h1,_,h2⟩|⟨i,_,h1,_,_,h2⟩
 ·rw[h1,h2];rfl
 ·rw[h1,h2];simp
theorem ixf{α:Type}{xs:List α}{g:α->Option Bool}(q:α->Bool)(hl:xs.length<=4611686018427387904)(hg:∀x∈xs,g x=some (q x)):
 zaa (zal (fun(s:Int)=>zab (decide (s<(↑(List.length xs):Int))) (gd (decide (0<=s)) (zaa xs[Int.toNat s]? fun x=>zaa (g x) fun x=>zab x (some (Sum.inr (Sum.inr s))) (gd (zay (s+1)) (some (Sum.inl (s+1)))))) (some (Sum.inr (Sum.inl s)))) 0)
  (fun(x:Int⊕Int)=>zav x (fun(_:Int)=>some (-1)) fun(r:Int)=>some r)=some (ixM q xs):=by
 have h:=ztD (σ:=Int) (τ:=Int) (Z:=Int) (b:=fun(s:Int)=>zab (decide (s<(↑(List.length xs):Int))) (gd (decide (0<=s)) (zaa xs[Int.toNat s]? fun x=>zaa (g x) fun x=>zab x (some (Sum.inr (Sum.inr s))) (gd (zay (s+1)) (some (Sum.inl (s+1)))))) (some (Sum.inr (Sum.inl s))))
  xs (fun i _=>(i:Int)) (fun(_:Unit)=>(xs.length:Int)) (fun i _ x=>if q x then .inr (i:Int)else .inl ()) (fun _ _=>True) (a0:=()) trivial
  (fun i hi a _=>by
   have h1:decide ((i:Int)<(↑(List.length xs):Int))=true:=by simpa using hi
   have h2:decide (0<=(i:Int))=true:=by simp
   have h3:zay ((i:Int)+1)=true:=zd2 (by omega) (by omega);have h4:g xs[i]=some (q xs[i]):=hg _ (ygh hi);simp only[h1,h2,h3,zaf,zag,Int.toNat_natCast,ygb hi,zac,h4];cases hq:q xs[i]with
   |true=>exact⟨fun a' h=>by simp at h,fun r h=>by simp at h;rw[h];rfl⟩
   |false=>exact⟨fun a' h=>⟨by simp[zae],trivial⟩,fun r h=>by simp at h⟩)
  (fun a _=>by
   have h1:decide ((xs.length:Int)<(↑(List.length xs):Int))=false:=by simp
   simp only[h1,zae])
 have h5:∀(ys:List α)(i:Nat),zp7 (β:=Unit) (Z:=Int) (fun i _ x=>if q x then .inr (i:Int)else .inl ()) i () ys=match ys.findIdx? q with|some k=>.inr ((k+i:Nat):Int)|none=>.inl ():=by
  intro ys;induction ys with
  |nil=>intro i;rfl
  |cons y ys ih=>
   intro i;simp only[zp7,List.findIdx?_cons];cases hq:q y with
   |true=>simp
   |false=>
    simp only[yhj,if_false];rw[ih (i+1)];cases h:ys.findIdx? q with
    |none=>rfl
    |some k=>simp;omega
 rw[h5 xs 0]at h;have h':zal (fun(s:Int)=>zab (decide (s<(↑(List.length xs):Int))) (gd (decide (0<=s)) (zaa xs[Int.toNat s]? fun x=>zaa (g x) fun x=>zab x (some (Sum.inr (Sum.inr s))) (gd (zay (s+1)) (some (Sum.inl (s+1)))))) (some (Sum.inr (Sum.inl s)))) (0:Int)=_:=h;rw[h'];unfold ixM;cases xs.findIdx? q with
 |none=>rfl
 |some k=>simp[zac,zav]
def fsI{α Z:Type}(f:Nat->α->Option Z):Nat->List α->Option Z
|_,[]=>none
|i,x:: xs=>match f i x with
 |some r=>some r
 |none=>fsI f (i+1) xs
def zqD{α:Type}(q:Nat->α->Bool):Nat->List α->Bool
|_,[]=>true
|i,x:: xs=>q i x&&zqD q (i+1) xs
theorem zce{α Z:Type}(q:Nat->α->Bool)(r:Z)(xs:List α)(i:Nat):fsI (fun i x=>bif q i x then none else some r) i xs=bif zqD q i xs then none else some r:=by
 induction xs generalizing i with
 |nil=>rfl
 |cons x xs ih=>
  simp only[fsI,zqD];by_cases h:q i x=true
  ·simp only[h,cond_true,Bool.true_and];exact ih (i+1)
  ·have h':q i x=false:=by simpa using h
   simp only[h',cond_false,Bool.false_and]
theorem zon{α Z:Type}(f:α->Option Z)(xs:List α)(i:Nat):fsI (fun _ x=>f x) i xs=xs.findSome? f:=by
 induction xs generalizing i with
 |nil=>rfl
 |cons x xs ih=>
  simp only[fsI,List.findSome?_cons];cases h:f x with
  |some r=>rfl
  |none=>exact ih (i+1)
theorem zeq{α:Type}(q:α->Bool)(xs:List α)(i:Nat):zqD (fun _ x=>q x) i xs=xs.all q:=by
 induction xs generalizing i with
 |nil=>rfl
 |cons x xs ih=>simp only[zqD,List.all_cons,ih]
theorem zhE{α:Type}(q:Nat->α->Bool)(xs:List α)(i:Nat):zqD q i xs=true↔∀(j:Nat)(h:j<xs.length),q (i+j) xs[j]=true:=by
 induction xs generalizing i with
 |nil=>simp[zqD]
 |cons x xs ih=>
  simp only[zqD,yhb,ih];constructor
  ·rintro⟨h1,h2⟩ j hj;cases j with
   |zero=>exact h1
   |succ j=>have:=h2 j (by simpa using hj);simpa[Nat.add_assoc,Nat.add_comm 1 j]using this
  ·intro h;refine⟨h 0 (by simp),fun j hj=>?_⟩;have:=h (j+1) (by simpa using hj);simpa[Nat.add_assoc,Nat.add_comm 1 j]using this
theorem zcj{σ τ Z γ α:Type}{b:σ->Option (σ⊕(τ⊕Z))}{s0:σ}{k:τ⊕Z->Option γ}(xs:List α)(mk:Nat->σ)(e:τ)(f:Nat->α->Option Z)(h0:mk 0=s0)
 (hs:∀(i:Nat)(h:i<xs.length),b (mk i)=match f i xs[i]with|some r=>some (.inr (.inr r))|none=>some (.inl (mk (i+1))))
 (he:b (mk xs.length)=some (.inr (.inl e))):
 zaa (zal b s0) k=match fsI f 0 xs with|some r=>k (.inr r)|none=>k (.inl e):=by
 have h:=ztD (b:=b) xs (fun i _=>mk i) (fun(_:Unit)=>e) (fun i _ x=>match f i x with|some r=>.inr r|none=>.inl ()) (fun _ _=>True) (a0:=()) trivial
  (fun i hi a _=>by
   rw[hs i hi];cases f i xs[i]with
   |some r=>exact⟨fun a' h=>(by simp at h),fun r' h=>by simp at h;rw[h]⟩
   |none=>exact⟨fun a' h=>⟨rfl,trivial⟩,fun r' h=>by simp at h⟩)
  (fun a _=>he)
 have h5:∀(ys:List α)(i:Nat),zp7 (β:=Unit) (Z:=Z) (fun i _ x=>match f i x with|some r=>.inr r|none=>.inl ()) i () ys=match fsI f i ys with|some r=>.inr r|none=>.inl ():=by
  intro ys;induction ys with
  |nil=>intro i;rfl
  |cons y ys ih=>
   intro i;simp only[zp7,fsI];cases f i y with
   |some r=>rfl
   |none=>exact ih (i+1)
 rw[h5]at h;rw[<-h0,h,zac];cases fsI f 0 xs<;>rfl
theorem zdk{σ τ γ:Type}{b:σ->Option (σ⊕τ)}{s0:σ}{k:τ->Option γ}(n:Nat)(st:Nat->σ)(e:τ)(h0:st 0=s0)(hs:∀(i:Nat),i<n->b (st i)=some (.inl (st (i+1))))(he:b (st n)=some (.inr e)):
 zaa (zal b s0) k=k e:=by
 have key:∀(m i:Nat),m+i=n->∃f,zfA b f (st i)=some e:=by
  intro m;induction m with
  |zero=>
   intro i hi;have:i=n:=by omega
   subst this;exact⟨1,by simp only[zfA,he]⟩
  |succ m ih=>intro i hi;obtain⟨f,hf⟩:=ih (i+1) (by omega);exact⟨f+1,by simp only[zfA,hs i (by omega)];exact hf⟩
 obtain⟨f,hf⟩:=key n 0 (by omega);rw[<-h0,zrR hf,zac]
theorem zzh{α:Type}{q:α->Bool}{xs:List α}{i:Nat}(h:i<xs.length)(hq:q xs[i]=true):(ixM q xs==(i:Int))= !(xs.take i).any q:=by
 unfold ixM;cases hf:xs.findIdx? q with
 |none=>rw[List.findIdx?_eq_none_iff]at hf;have:=hf _ (ygh h);rw[hq]at this;cases this
 |some k=>
  obtain⟨hk,h3,hmin⟩:=List.findIdx?_eq_some_iff_getElem.1 hf;show((k:Int)==(i:Int))=_;by_cases hki:k=i
  ·subst hki;have h4:(xs.take k).any q=false:=by
    rw[List.any_eq_false];intro x hx;obtain⟨j,hj,rfl⟩:=List.getElem_of_mem hx;have hj':j<k:=by rw[List.length_take]at hj;omega
    rw[List.getElem_take];exact hmin j hj'
   rw[h4];simp
  ·have hlt:k<i:=by
    by_cases hc:i<k
    ·exact absurd hq (hmin i hc)
    ·omega
   have h4:(xs.take i).any q=true:=by rw[List.any_eq_true];refine⟨xs[k],?_,h3⟩;rw[List.mem_take_iff_getElem];exact⟨k,by omega,rfl⟩
   rw[h4];have:¬(k:Int)=(i:Int):=by omega
   simp[this]
theorem up{n:Nat}(h:n<=1048576):n<=4611686018427387904:=Nat.le_trans h (by decide)
theorem zai{α:Type}{xs:List α}{i:Nat}(h:i<xs.length):xs[Int.toNat (i:Int)]? =some xs[i]:=by rw[Int.toNat_natCast,ygb h]
theorem zaD{i n:Nat}(h:i<n):decide ((i:Int)<(n:Int))=true:=by simpa using h
theorem zan{n:Nat}:decide ((n:Int)<(n:Int))=false:=by simp
theorem zax{i:Nat}:decide (0<=(i:Int))=true:=by simp
theorem zam{i n:Nat}(h:i<n)(hn:n<=4611686018427387904):zay ((i:Int)+1)=true:=zd2 (by omega) (by omega)
end Go.Fw
