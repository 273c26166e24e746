/- A part of the proof: what stands for the program, its functions, and what they come to. -/
import Derived.Test.YtgeocbndmfcjgaaM6
import Derived.Test.YtgeocbndmfcjgaaM5
import Derived.Test.YtgeocbndmfcjgaaProg
import Derived.KernelRfl
import Derived.Test.YtgeocbndmfcjgaaM2
set_option linter.all false
namespace Go.Fw
noncomputable section
open Go
set_option maxRecDepth 1000000
set_option linter.unusedVariables false
def B_l1Open (d:List Int):Option (List Int×Int):=bindD (condD (decide ((d.length:Int)>2000)) (gd (decide (0≤0) && decide (0≤2000) && decide (2000≤(d.length:Int))) (some (List.take (Int.toNat 2000 - Int.toNat 0) (List.drop (Int.toNat 0) d)))) (some d)) fun (x:List Int)=>some (x,0)
def F_l1Open:List Int→Option (List Int×Int):=sealD B_l1Open
theorem F_l1Open_eq (d:List Int):F_l1Open d=B_l1Open d:=congrFun (sealD_eq B_l1Open) d
def e_l1Open:TE:=⟨31,[.lst (.int .u8)],[],(.mpb 0 0),[.box ⟨none,[some ((.lst (.int .u8)),.no),some ((.int .i64),.no)]⟩ [.lst (.int .u8),.int .i64]],F_l1Open⟩
theorem x_l1Open (d:List Int):execF [] cy31 c31 [.t 2] [.lst (.int .u8)] [] (.mpb 0 0) [.box ⟨none,[some ((.lst (.int .u8)),.no),some ((.int .i64),.no)]⟩ [.lst (.int .u8),.int .i64]] d=F_l1Open d:=Eq.trans (b:=B_l1Open d) (by kernel_rfl) (F_l1Open_eq d).symm
def B_l1Rd_pick (d:Int×List Int×Int):Option (Int×List Int×Int):=gd (i64B (d.2.2+1)) (bindD (condD (decide (d.1<1)) (some true) (some ((d.2.1.length:Int) == 0))) fun (x:Bool)=>condD x (some (0,d.2.1,d.2.2+1)) (gd (i64B (d.2.2+1 - 1)) (condD (decide (d.2.2+1 - 1<(d.2.1.length:Int))) (gd (decide (0≤d.2.2+1 - 1)) (bindD d.2.1[Int.toNat (d.2.2+1 - 1)]? fun (x:Int)=>gd (d.1 != 0) (some (Int.tmod (IntKind.wrap IntKind.i64 x) d.1,d.2.1,d.2.2+1)))) (gd ((d.2.1.length:Int) != 0) (gd (decide (0≤Int.tmod (d.2.2+1 - 1) (d.2.1.length:Int))) (bindD d.2.1[Int.toNat (Int.tmod (d.2.2+1 - 1) (d.2.1.length:Int))]? fun (x:Int)=>gd (i64B (IntKind.wrap IntKind.i64 x * 131)) (gd (i64B ((d.2.2+1 - 1) * 7)) (gd (i64B ((d.2.2+1 - 1) * 7+3)) (gd ((d.2.1.length:Int) != 0) (gd (decide (0≤Int.tmod ((d.2.2+1 - 1) * 7+3) (d.2.1.length:Int))) (bindD d.2.1[Int.toNat (Int.tmod ((d.2.2+1 - 1) * 7+3) (d.2.1.length:Int))]? fun (x_1:Int)=>gd (i64B (IntKind.wrap IntKind.i64 x_1 * 1117)) (gd (i64B (IntKind.wrap IntKind.i64 x * 131+IntKind.wrap IntKind.i64 x_1 * 1117)) (gd (i64B ((d.2.2+1 - 1) * 29)) (gd (i64B (IntKind.wrap IntKind.i64 x * 131+IntKind.wrap IntKind.i64 x_1 * 1117+(d.2.2+1 - 1) * 29)) (gd ((d.2.1.length:Int) != 0) (gd (i64B (Int.tdiv (d.2.2+1 - 1) (d.2.1.length:Int))) (gd (i64B (Int.tdiv (d.2.2+1 - 1) (d.2.1.length:Int) * 53)) (gd (i64B (IntKind.wrap IntKind.i64 x * 131+IntKind.wrap IntKind.i64 x_1 * 1117+(d.2.2+1 - 1) * 29+Int.tdiv (d.2.2+1 - 1) (d.2.1.length:Int) * 53)) (gd (i64B (Int.tdiv (IntKind.wrap IntKind.i64 x * 131+IntKind.wrap IntKind.i64 x_1 * 1117+(d.2.2+1 - 1) * 29+Int.tdiv (d.2.2+1 - 1) (d.2.1.length:Int) * 53) 64)) (gd (d.1 != 0) (some (Int.tmod (IntKind.wrap IntKind.i64 (↑(BitVec.toNat (BitVec.ofInt (IntKind.bits IntKind.i64) (IntKind.wrap IntKind.i64 x * 131+IntKind.wrap IntKind.i64 x_1 * 1117+(d.2.2+1 - 1) * 29+Int.tdiv (d.2.2+1 - 1) (d.2.1.length:Int) * 53) ^^^ BitVec.ofInt (IntKind.bits IntKind.i64) (Int.tdiv (IntKind.wrap IntKind.i64 x * 131+IntKind.wrap IntKind.i64 x_1 * 1117+(d.2.2+1 - 1) * 29+Int.tdiv (d.2.2+1 - 1) (d.2.1.length:Int) * 53) 64))):Int)) d.1,d.2.1,d.2.2+1))))))))))))))))))))))
def F_l1Rd_pick:Int×List Int×Int→Option (Int×List Int×Int):=sealD B_l1Rd_pick
theorem F_l1Rd_pick_eq (d:Int×List Int×Int):F_l1Rd_pick d=B_l1Rd_pick d:=congrFun (sealD_eq B_l1Rd_pick) d
def e_l1Rd_pick:TE:=⟨33,[.mpb 0 0,.int .i64],[.box ⟨none,[some ((.lst (.int .u8)),.no),some ((.int .i64),.no)]⟩ [.lst (.int .u8),.int .i64]],(.int .i64),[.box ⟨none,[some ((.lst (.int .u8)),.no),some ((.int .i64),.no)]⟩ [.lst (.int .u8),.int .i64]],F_l1Rd_pick⟩
theorem x_l1Rd_pick (d:Int×List Int×Int):execF [] cy33 c33 [.t 4] [.mpb 0 0,.int .i64] [.box ⟨none,[some ((.lst (.int .u8)),.no),some ((.int .i64),.no)]⟩ [.lst (.int .u8),.int .i64]] (.int .i64) [.box ⟨none,[some ((.lst (.int .u8)),.no),some ((.int .i64),.no)]⟩ [.lst (.int .u8),.int .i64]] d=F_l1Rd_pick d:=Eq.trans (b:=B_l1Rd_pick d) (by kernel_rfl) (F_l1Rd_pick_eq d).symm
def F_l1Dec:Nat→Int→Option (List UInt8) | 0,_=>none | n+1,d=>condD (decide (d < -9223372036854775807)) (some [45,57,50,50,51,51,55,50,48,51,54,56,53,52,55,55,53,56,48,56]) (condD (decide (d<0)) (gd (i64B (0 - d)) (bindD (F_l1Dec n (0 - d)) fun (x:List UInt8)=>gd (decide (List.length [45]+List.length x≤BIG)) (some ([45]++x)))) (condD (decide (d<10)) (gd (i64B (48+d)) (gd (decide (List.length [IntKind.wrap IntKind.u8 (48+d)]≤BIG)) (some (List.map iByte [IntKind.wrap IntKind.u8 (48+d)])))) (gd (i64B (Int.tdiv d 10)) (bindD (F_l1Dec n (Int.tdiv d 10)) fun (x:List UInt8)=>gd (i64B (48+Int.tmod d 10)) (gd (decide (List.length [IntKind.wrap IntKind.u8 (48+Int.tmod d 10)]≤BIG)) (gd (decide (List.length x+List.length (List.map iByte [IntKind.wrap IntKind.u8 (48+Int.tmod d 10)])≤BIG)) (some (x++List.map iByte [IntKind.wrap IntKind.u8 (48+Int.tmod d 10)]))))))))
def L_l1Dec:Int→Option (List UInt8):=limF F_l1Dec
def e_l1Dec (n:Nat):TE:=⟨95,[.int .i64],[],(.str),[],F_l1Dec n⟩
def l_l1Dec:TE:=⟨95,[.int .i64],[],(.str),[],L_l1Dec⟩
theorem x_l1Dec (n:Nat)(d:Int):execF [e_l1Dec n] cy95 c95 [.t 2] [.int .i64] [] (.str) [] d=F_l1Dec (n+1) d:=by kernel_rfl
def B_l11Fields (d:Unit):Option (List Typ):=some [{ name:=[113,117,101,114,121],key:=[],fields:=[{ name:=[117,115,101,114,115],of:=[117,115,101,114],list:=true,must:=false,far:=false,hidden:=false,shared:=false,needs:=[]:Field },{name:=[102,105,114,115,116],of:=[117,115,101,114],list:=false,must:=false,far:=false,hidden:=false,shared:=false,needs:=[]:Field },{name:=[105,116,101,109,115],of:=[105,116,101,109],list:=true,must:=true,far:=false,hidden:=false,shared:=false,needs:=[]:Field },{name:=[116,111,112],of:=[105,116,101,109],list:=false,must:=false,far:=false,hidden:=false,shared:=false,needs:=[]:Field },{name:=[114,101,97,100,121],of:=[98,111,111,108],list:=false,must:=false,far:=false,hidden:=false,shared:=false,needs:=[]:Field }]:Typ },{name:=[117,115,101,114],key:=[105,100],fields:=[{ name:=[105,100],of:=[105,110,116],list:=false,must:=true,far:=false,hidden:=false,shared:=false,needs:=[]:Field },{name:=[110,97,109,101],of:=[116,101,120,116],list:=false,must:=true,far:=false,hidden:=false,shared:=false,needs:=[]:Field },{name:=[98,111,115,115],of:=[117,115,101,114],list:=false,must:=false,far:=false,hidden:=false,shared:=false,needs:=[]:Field },{name:=[97,103,101],of:=[105,110,116],list:=false,must:=false,far:=false,hidden:=false,shared:=false,needs:=[]:Field },{name:=[108,105,107,101,115],of:=[105,116,101,109],list:=true,must:=false,far:=false,hidden:=false,shared:=false,needs:=[]:Field },{name:=[114,97,110,107],of:=[105,110,116],list:=false,must:=false,far:=false,hidden:=false,shared:=false,needs:=[[97,103,101]]:Field },{name:=[110,111,116,101],of:=[110,111,116,101],list:=false,must:=false,far:=false,hidden:=false,shared:=false,needs:=[]:Field }]:Typ },{name:=[105,116,101,109],key:=[105,100],fields:=[{ name:=[105,100],of:=[105,110,116],list:=false,must:=true,far:=false,hidden:=false,shared:=false,needs:=[]:Field },{name:=[116,105,116,108,101],of:=[116,101,120,116],list:=false,must:=false,far:=false,hidden:=false,shared:=false,needs:=[]:Field },{name:=[109,97,107,101,114],of:=[117,115,101,114],list:=false,must:=true,far:=false,hidden:=false,shared:=false,needs:=[]:Field },{name:=[112,114,105,99,101],of:=[105,110,116],list:=false,must:=false,far:=false,hidden:=false,shared:=false,needs:=[]:Field },{name:=[102,97,110,115],of:=[117,115,101,114],list:=true,must:=true,far:=false,hidden:=false,shared:=false,needs:=[]:Field },{name:=[116,97,120],of:=[105,110,116],list:=false,must:=false,far:=false,hidden:=false,shared:=false,needs:=[[112,114,105,99,101]]:Field },{name:=[115,117,109,115],of:=[105,110,116],list:=true,must:=false,far:=false,hidden:=false,shared:=false,needs:=[]:Field }]:Typ },{name:=[110,111,116,101],key:=[],fields:=[{ name:=[98,111,100,121],of:=[116,101,120,116],list:=false,must:=true,far:=false,hidden:=false,shared:=true,needs:=[]:Field },{name:=[98,121],of:=[117,115,101,114],list:=false,must:=false,far:=false,hidden:=false,shared:=false,needs:=[]:Field }]:Typ }]
def F_l11Fields:Unit→Option (List Typ):=sealD B_l11Fields
theorem F_l11Fields_eq (d:Unit):F_l11Fields d=B_l11Fields d:=congrFun (sealD_eq B_l11Fields) d
def e_l11Fields:TE:=⟨84,[],[],(.lst (.nm .Typ)),[],F_l11Fields⟩
theorem x_l11Fields (d:Unit):execF [] cy84 c84 [.t 0] [] [] (.lst (.nm .Typ)) [] d=F_l11Fields d:=Eq.trans (b:=B_l11Fields d) (by kernel_rfl) (F_l11Fields_eq d).symm
def B_l2Scalar (d:List UInt8):Option Bool:=bindD (condD (d == [105,110,116]) (some true) (condD (d == [116,101,120,116]) (some true) (some (d == [98,111,111,108])))) fun (x:Bool)=>some x
def F_l2Scalar:List UInt8→Option Bool:=sealD B_l2Scalar
theorem F_l2Scalar_eq (d:List UInt8):F_l2Scalar d=B_l2Scalar d:=congrFun (sealD_eq B_l2Scalar) d
def e_l2Scalar:TE:=⟨100,[.str],[],(.bool),[],F_l2Scalar⟩
theorem x_l2Scalar (d:List UInt8):execF [] cy100 c100 [.t 2] [.str] [] (.bool) [] d=F_l2Scalar d:=Eq.trans (b:=B_l2Scalar d) (by kernel_rfl) (F_l2Scalar_eq d).symm
def B_l2Type (d:Part×List UInt8):Option Int:=bindD (loopO (fun (s:Int)=>condD (decide (s<(d.1.types.length:Int))) (gd (decide (0≤s)) (bindD d.1.types[s.toNat]? fun (x:Typ)=>condD (x.name == d.2) (some (Sum.inr (Sum.inr s))) (gd (i64B (s+1)) (some (Sum.inl (s+1)))))) (some (Sum.inr (Sum.inl s)))) 0) fun (x:Int ⊕ Int)=>caseS x (fun d=>some (-1)) fun r=>some r
def F_l2Type:Part×List UInt8→Option Int:=sealD B_l2Type
theorem F_l2Type_eq (d:Part×List UInt8):F_l2Type d=B_l2Type d:=congrFun (sealD_eq B_l2Type) d
def e_l2Type:TE:=⟨98,[.st .Part,.str],[],(.int .i64),[],F_l2Type⟩
theorem x_l2Type (d:Part×List UInt8):execF [] cy98 c98 [.t 4] [.st .Part,.str] [] (.int .i64) [] d=F_l2Type d:=Eq.trans (b:=B_l2Type d) (by kernel_rfl) (F_l2Type_eq d).symm
def B_l11Need (d:List UInt8×List UInt8×List Typ):Option (List UInt8×List Typ):=bindD (bindD (F_l2Scalar d.2.1) fun (x:Bool)=>condD x (some (true,d.1,d.2.2,[],[])) (bindD (F_l2Type ({ name:=d.1,types:=d.2.2:Part },d.2.1)) fun (x:Int)=>some (decide (x≥0),d.1,d.2.2,[],[]))) fun (x:Bool×List UInt8×List Typ×List UInt8×List Typ)=>condD x.1 (some (x.2.1,x.2.2.1)) (bindD (condD (d.2.1 != [110,111,116,101]) (some (x.2.1,x.2.2.1,x.2.2.2.1,x.2.2.2.2,(d.2.1,[105,100]),[{ name:=[105,100],of:=[105,110,116],list:=false,must:=true,far:=false,hidden:=false,shared:=false,needs:=[]:Field }])) (some (x.2.1,x.2.2.1,x.2.2.2.1,x.2.2.2.2,(d.2.1,[]),[{ name:=[98,111,100,121],of:=[116,101,120,116],list:=false,must:=true,far:=false,hidden:=false,shared:=true,needs:=[]:Field }]))) fun (x:List UInt8×List Typ×List UInt8×List Typ×(List UInt8×List UInt8)×List Field)=>gd (decide (List.length x.2.1+List.length [{ name:=x.2.2.2.2.1.1,key:=x.2.2.2.2.1.2,fields:=x.2.2.2.2.2:Typ }]≤LIM)) (some (x.1,x.2.1++[{ name:=x.2.2.2.2.1.1,key:=x.2.2.2.2.1.2,fields:=x.2.2.2.2.2:Typ }])))
def F_l11Need:List UInt8×List UInt8×List Typ→Option (List UInt8×List Typ):=sealD B_l11Need
theorem F_l11Need_eq (d:List UInt8×List UInt8×List Typ):F_l11Need d=B_l11Need d:=congrFun (sealD_eq B_l11Need) d
def e_l11Need:TE:=⟨115,[.agg [.str,.own 0],.str],[.arr (.nm .Typ) (.at [(2,.no)])],(.agg [.str,.own 1]),[.dead,.arr (.nm .Typ) (.at [(2,.no)])],F_l11Need⟩
theorem x_l11Need (d:List UInt8×List UInt8×List Typ):execF [e_l2Scalar,e_l2Type] cy115 c115 [.c 4 (some 2)] [.agg [.str,.own 0],.str] [.arr (.nm .Typ) (.at [(2,.no)])] (.agg [.str,.own 1]) [.dead,.arr (.nm .Typ) (.at [(2,.no)])] d=F_l11Need d:=Eq.trans (b:=B_l11Need d) (by kernel_rfl) (F_l11Need_eq d).symm
def B_l2Field (d:Typ×List UInt8):Option Int:=bindD (loopO (fun (s:Int)=>condD (decide (s<(d.1.fields.length:Int))) (gd (decide (0≤s)) (bindD d.1.fields[s.toNat]? fun (x:Field)=>condD (x.name == d.2) (some (Sum.inr (Sum.inr s))) (gd (i64B (s+1)) (some (Sum.inl (s+1)))))) (some (Sum.inr (Sum.inl s)))) 0) fun (x:Int ⊕ Int)=>caseS x (fun d=>some (-1)) fun r=>some r
def F_l2Field:Typ×List UInt8→Option Int:=sealD B_l2Field
theorem F_l2Field_eq (d:Typ×List UInt8):F_l2Field d=B_l2Field d:=congrFun (sealD_eq B_l2Field) d
def e_l2Field:TE:=⟨116,[.st .Typ,.str],[],(.int .i64),[],F_l2Field⟩
theorem x_l2Field (d:Typ×List UInt8):execF [] cy116 c116 [.t 4] [.st .Typ,.str] [] (.int .i64) [] d=F_l2Field d:=Eq.trans (b:=B_l2Field d) (by kernel_rfl) (F_l2Field_eq d).symm
def B_l11Give (d:List UInt8×List UInt8×Field×List Typ):Option (List UInt8×List Typ):=bindD (F_l11Need (d.1,d.2.1,d.2.2.2)) fun (x:List UInt8×List Typ)=>bindD (F_l11Need (x.1,d.2.2.1.of,x.2)) fun (x:List UInt8×List Typ)=>bindD (F_l2Type ({ name:=x.1,types:=x.2:Part },d.2.1)) fun (x_1:Int)=>gd (decide (0≤x_1) && decide (x_1<(x.2.length:Int))) (bindD x.2[x_1.toNat]? fun (x_2:Typ)=>bindD (F_l2Field (x_2,d.2.2.1.name)) fun (x_3:Int)=>condD (decide (x_3≥0)) (gd (decide (0≤x_1) && decide (x_1<(↑(List.length (List.set x.2 (x_1.toNat) x_2)):Int))) (bindD (List.set x.2 (x_1.toNat) x_2)[x_1.toNat]? fun (x_4:Typ)=>gd (decide (0≤x_3) && decide (x_3<(x_4.fields.length:Int))) (bindD x_4.fields[x_3.toNat]? fun (x_5:Field)=>condD (!x_5.far) (some (x.1,List.set (List.set x.2 (x_1.toNat) x_2) (x_1.toNat) x_4)) (gd (decide (0≤x_1) && decide (x_1<(↑(List.length (List.set (List.set x.2 (x_1.toNat) x_2) (x_1.toNat) x_4)):Int))) (bindD (List.set (List.set x.2 (x_1.toNat) x_2) (x_1.toNat) x_4)[x_1.toNat]? fun (x_6:Typ)=>gd (decide (0≤x_3) && decide (x_3<(x_6.fields.length:Int))) (bindD x_6.fields[x_3.toNat]? fun (x_7:Field)=>some (x.1,List.set (List.set (List.set x.2 (x_1.toNat) x_2) (x_1.toNat) x_4) (x_1.toNat) {name:=x_6.name,key:=x_6.key,fields:=List.set x_6.fields (x_3.toNat) {name:=d.2.2.1.name,of:=d.2.2.1.of,list:=d.2.2.1.list,must:=d.2.2.1.must,far:=d.2.2.1.far,hidden:=d.2.2.1.hidden,shared:=d.2.2.1.shared,needs:=d.2.2.1.needs:Field } : Typ }))))))) (bindD (loopO (fun (s:Int×List UInt8×List Typ×List UInt8×List Typ)=>condD (decide (s.1<(d.2.2.1.needs.length:Int))) (gd (decide (0≤x_1) && decide (x_1<(s.2.2.1.length:Int))) (bindD s.2.2.1[x_1.toNat]? fun (x:Typ)=>gd (decide (0≤s.1)) (bindD d.2.2.1.needs[s.1.toNat]? fun (x_4:List UInt8)=>bindD (F_l2Field (x,x_4)) fun (x_5:Int)=>bindD (condD (decide (x_5<0)) (gd (decide (0≤x_1) && decide (x_1<(↑(List.length (List.set s.2.2.1 (x_1.toNat) x)):Int))) (bindD (List.set s.2.2.1 (x_1.toNat) x)[x_1.toNat]? fun (x_6:Typ)=>gd (decide (0≤s.1)) (bindD d.2.2.1.needs[s.1.toNat]? fun (x_7:List UInt8)=>gd (decide (List.length x_6.fields+List.length [{ name:=x_7,of:=[105,110,116],list:=false,must:=false,far:=true,hidden:=false,shared:=false,needs:=[]:Field }]≤LIM)) (gd (decide (0≤x_1) && decide (x_1<(↑(List.length (List.set s.2.2.1 (x_1.toNat) x)):Int))) (gd (decide (x_1.toNat=x_1.toNat)) (some (s.2.1,List.set (List.set s.2.2.1 (x_1.toNat) x) (x_1.toNat) {name:=x_6.name,key:=x_6.key,fields:=x_6.fields++[{ name:=x_7,of:=[105,110,116],list:=false,must:=false,far:=true,hidden:=false,shared:=false,needs:=[]:Field }]:Typ },s.2.2.2.1,s.2.2.2.2))))))) (some (s.2.1,List.set s.2.2.1 (x_1.toNat) x,s.2.2.2.1,s.2.2.2.2))) fun (x:List UInt8×List Typ×List UInt8×List Typ)=>gd (i64B (s.1+1)) (some (Sum.inl (s.1+1,x.1,x.2.1,x.2.2.1,x.2.2.2)))))) (some (Sum.inr (s.1,s.2.1,s.2.2.1,s.2.2.2.1,s.2.2.2.2)))) (0,x.1,List.set x.2 (x_1.toNat) x_2,[],[])) fun (x:Int×List UInt8×List Typ×List UInt8×List Typ)=>gd (decide (0≤x_1) && decide (x_1<(x.2.2.1.length:Int))) (bindD x.2.2.1[x_1.toNat]? fun (x_4:Typ)=>gd (decide (List.length x_4.fields+List.length [d.2.2.1]≤LIM)) (gd (decide (0≤x_1) && decide (x_1<(x.2.2.1.length:Int))) (gd (decide (x_1.toNat=x_1.toNat)) (some (x.2.1,List.set x.2.2.1 (x_1.toNat) { name:=x_4.name,key:=x_4.key,fields:=x_4.fields++[d.2.2.1]:Typ })))))))
def F_l11Give:List UInt8×List UInt8×Field×List Typ→Option (List UInt8×List Typ):=sealD B_l11Give
theorem F_l11Give_eq (d:List UInt8×List UInt8×Field×List Typ):F_l11Give d=B_l11Give d:=congrFun (sealD_eq B_l11Give) d
def e_l11Give:TE:=⟨96,[.agg [.str,.own 0],.str,.st .Field],[.arr (.nm .Typ) (.at [(2,.no)])],(.agg [.str,.own 1]),[.dead,.arr (.nm .Typ) (.at [(2,.no)])],F_l11Give⟩
theorem x_l11Give (d:List UInt8×List UInt8×Field×List Typ):execF [e_l11Need,e_l2Type,e_l2Field] cy96 c96 [.c 6 (some 2)] [.agg [.str,.own 0],.str,.st .Field] [.arr (.nm .Typ) (.at [(2,.no)])] (.agg [.str,.own 1]) [.dead,.arr (.nm .Typ) (.at [(2,.no)])] d=F_l11Give d:=Eq.trans (b:=B_l11Give d) (by kernel_rfl) (F_l11Give_eq d).symm
def B_l11Parts (d:List Int×Int):Option (List Part×List Int×Int):=bindD (F_l1Rd_pick (3,d.1,d.2)) fun (x:Int×List Int×Int)=>gd (i64B (1+x.1)) (bindD (loopO (fun (s:Int×(List Int×Int)×List Part)=>condD (decide (s.1<1+x.1)) (gd (decide (0≤s.1)) (bindD [[101,97,115,116],[119,101,115,116],[110,111,114,116,104]][s.1.toNat]? fun (x:List UInt8)=>bindD (L_l1Dec s.1) fun (x_1:List UInt8)=>gd (decide (List.length [110]+List.length x_1≤BIG)) (gd (decide (List.length s.2.2+List.length [{ name:=x,types:=[{ name:=[113,117,101,114,121],key:=[],fields:=[{ name:=[110]++x_1,of:=[105,110,116],list:=false,must:=false,far:=false,hidden:=false,shared:=false,needs:=[]:Field }]:Typ }]:Part }]≤LIM)) (gd (i64B (s.1+1)) (some (Sum.inl (s.1+1,(s.2.1.1,s.2.1.2),s.2.2++[{ name:=x,types:=[{ name:=[113,117,101,114,121],key:=[],fields:=[{ name:=[110]++x_1,of:=[105,110,116],list:=false,must:=false,far:=false,hidden:=false,shared:=false,needs:=[]:Field }]:Typ }]:Part }]))))))) (some (Sum.inr (s.1,(s.2.1.1,s.2.1.2),s.2.2)))) (0,(x.2.1,x.2.2),[])) fun (x_1:Int×(List Int×Int)×List Part)=>bindD (F_l11Fields ()) fun (x_2:List Typ)=>bindD (F_l1Rd_pick (1+x.1,x_1.2.1.1,x_1.2.1.2)) fun (x_3:Int×List Int×Int)=>bindD (loopO (fun (s:Int×(List Int×Int)×List Part)=>condD (decide (s.1<(x_2.length:Int))) (bindD (loopO (fun (s_1:Int×(List Int×Int)×List Part)=>gd (decide (0≤s.1)) (bindD x_2[s.1.toNat]? fun (x_4:Typ)=>condD (decide (s_1.1<(x_4.fields.length:Int))) (gd (decide (0≤s.1)) (bindD x_2[s.1.toNat]? fun (x_5:Typ)=>gd (decide (0≤s_1.1)) (bindD x_5.fields[s_1.1.toNat]? fun (x_6:Field)=>bindD (condD (x_6.name == [105,100]) (some (true,(s_1.2.1.1,s_1.2.1.2),s_1.2.2,x_6.name,x_6.of,x_6.list,x_6.must,x_6.far,x_6.hidden,x_6.shared,x_6.needs)) (condD (x_6.name == [98,111,100,121]) (some (true,(s_1.2.1.1,s_1.2.1.2),s_1.2.2,x_6.name,x_6.of,x_6.list,x_6.must,x_6.far,x_6.hidden,x_6.shared,x_6.needs)) (condD (x_6.name != [97,103,101]) (condD (x_6.name != [112,114,105,99,101]) (bindD (F_l1Rd_pick (7,s_1.2.1.1,s_1.2.1.2)) fun (x:Int×List Int×Int)=>some (x.1 == 0,(x.2.1,x.2.2),s_1.2.2,x_6.name,x_6.of,x_6.list,x_6.must,x_6.far,x_6.hidden,x_6.shared,x_6.needs)) (some (false,(s_1.2.1.1,s_1.2.1.2),s_1.2.2,x_6.name,x_6.of,x_6.list,x_6.must,x_6.far,x_6.hidden,x_6.shared,x_6.needs))) (some (false,(s_1.2.1.1,s_1.2.1.2),s_1.2.2,x_6.name,x_6.of,x_6.list,x_6.must,x_6.far,x_6.hidden,x_6.shared,x_6.needs))))) fun (x_7:Bool×(List Int×Int)×List Part×List UInt8×List UInt8×Bool×Bool×Bool×Bool×Bool×List (List UInt8))=>condD x_7.1 (gd (i64B (s_1.1+1)) (some (Sum.inl (s_1.1+1,(x_7.2.1.1,x_7.2.1.2),x_7.2.2.1)))) (bindD (F_l1Rd_pick (1+x.1,x_7.2.1.1,x_7.2.1.2)) fun (x_8:Int×List Int×Int)=>bindD (condD (x_7.2.2.2.2.1 == [110,111,116,101]) (bindD (F_l1Rd_pick (12,x_8.2.1,x_8.2.2)) fun (x:Int×List Int×Int)=>some (decide (x.1>0),(x.2.1,x.2.2),x_7.2.2.1,x_7.2.2.2.1,x_7.2.2.2.2.1,x_7.2.2.2.2.2.1,x_7.2.2.2.2.2.2.1,x_7.2.2.2.2.2.2.2.1,x_7.2.2.2.2.2.2.2.2.1,x_7.2.2.2.2.2.2.2.2.2.1,x_7.2.2.2.2.2.2.2.2.2.2)) (gd (decide (0≤s.1)) (bindD x_2[s.1.toNat]? fun (x:Typ)=>condD (x.name == [110,111,116,101]) (bindD (F_l1Rd_pick (12,x_8.2.1,x_8.2.2)) fun (x:Int×List Int×Int)=>some (decide (x.1>0),(x.2.1,x.2.2),x_7.2.2.1,x_7.2.2.2.1,x_7.2.2.2.2.1,x_7.2.2.2.2.2.1,x_7.2.2.2.2.2.2.1,x_7.2.2.2.2.2.2.2.1,x_7.2.2.2.2.2.2.2.2.1,x_7.2.2.2.2.2.2.2.2.2.1,x_7.2.2.2.2.2.2.2.2.2.2)) (some (false,(x_8.2.1,x_8.2.2),x_7.2.2.1,x_7.2.2.2.1,x_7.2.2.2.2.1,x_7.2.2.2.2.2.1,x_7.2.2.2.2.2.2.1,x_7.2.2.2.2.2.2.2.1,x_7.2.2.2.2.2.2.2.2.1,x_7.2.2.2.2.2.2.2.2.2.1,x_7.2.2.2.2.2.2.2.2.2.2))))) fun (x_9:Bool×(List Int×Int)×List Part×List UInt8×List UInt8×Bool×Bool×Bool×Bool×Bool×List (List UInt8))=>bindD (condD x_9.1 (some (x_3.1,(x_9.2.1.1,x_9.2.1.2),x_9.2.2.1,x_9.2.2.2.1,x_9.2.2.2.2.1,x_9.2.2.2.2.2.1,x_9.2.2.2.2.2.2.1,x_9.2.2.2.2.2.2.2.1,x_9.2.2.2.2.2.2.2.2.1,x_9.2.2.2.2.2.2.2.2.2.1,x_9.2.2.2.2.2.2.2.2.2.2)) (some (x_8.1,(x_9.2.1.1,x_9.2.1.2),x_9.2.2.1,x_9.2.2.2.1,x_9.2.2.2.2.1,x_9.2.2.2.2.2.1,x_9.2.2.2.2.2.2.1,x_9.2.2.2.2.2.2.2.1,x_9.2.2.2.2.2.2.2.2.1,x_9.2.2.2.2.2.2.2.2.2.1,x_9.2.2.2.2.2.2.2.2.2.2))) fun (x_10:Int×(List Int×Int)×List Part×List UInt8×List UInt8×Bool×Bool×Bool×Bool×Bool×List (List UInt8))=>bindD (F_l1Rd_pick (16,x_10.2.1.1,x_10.2.1.2)) fun (x_11:Int×List Int×Int)=>bindD (condD ((x_10.2.2.2.2.2.2.2.2.2.2.length:Int) == 0) (bindD (F_l1Rd_pick (5,x_11.2.1,x_11.2.2)) fun (x:Int×List Int×Int)=>some (x.1 == 0,(x.2.1,x.2.2),x_10.2.2.1,x_10.2.2.2.1,x_10.2.2.2.2.1,x_10.2.2.2.2.2.1,x_10.2.2.2.2.2.2.1,x_10.2.2.2.2.2.2.2.1,x_11.1 == 0,x_10.2.2.2.2.2.2.2.2.2.1,x_10.2.2.2.2.2.2.2.2.2.2)) (bindD (F_l1Rd_pick (8,x_11.2.1,x_11.2.2)) fun (x:Int×List Int×Int)=>condD (x.1 == 0) (bindD (F_l1Rd_pick (5,x.2.1,x.2.2)) fun (x:Int×List Int×Int)=>some (x.1 == 0,(x.2.1,x.2.2),x_10.2.2.1,x_10.2.2.2.1,x_10.2.2.2.2.1,x_10.2.2.2.2.2.1,x_10.2.2.2.2.2.2.1,x_10.2.2.2.2.2.2.2.1,x_11.1 == 0,x_10.2.2.2.2.2.2.2.2.2.1,x_10.2.2.2.2.2.2.2.2.2.2)) (some (false,(x.2.1,x.2.2),x_10.2.2.1,x_10.2.2.2.1,x_10.2.2.2.2.1,x_10.2.2.2.2.2.1,x_10.2.2.2.2.2.2.1,x_10.2.2.2.2.2.2.2.1,x_11.1 == 0,x_10.2.2.2.2.2.2.2.2.2.1,x_10.2.2.2.2.2.2.2.2.2.2)))) fun (x_12:Bool×(List Int×Int)×List Part×List UInt8×List UInt8×Bool×Bool×Bool×Bool×Bool×List (List UInt8))=>bindD (condD x_12.1 (gd (i64B (x_10.1+1)) (gd (1+x.1 != 0) (gd (i64B (x_10.1+1)) (gd (1+x.1 != 0) (gd (decide (0≤Int.tmod (x_10.1+1) (1+x.1)) && decide (Int.tmod (x_10.1+1) (1+x.1)<(x_12.2.2.1.length:Int))) (bindD x_12.2.2.1[Int.toNat (Int.tmod (x_10.1+1) (1+x.1))]? fun (x_13:Part)=>gd (decide (0≤s.1)) (bindD x_2[s.1.toNat]? fun (x_14:Typ)=>bindD (F_l11Give (x_13.name,x_14.name,{name:=x_12.2.2.2.1,of:=x_12.2.2.2.2.1,list:=x_12.2.2.2.2.2.1,must:=x_12.2.2.2.2.2.2.1,far:=x_12.2.2.2.2.2.2.2.1,hidden:=x_12.2.2.2.2.2.2.2.2.1,shared:=true,needs:=x_12.2.2.2.2.2.2.2.2.2.2:Field },x_13.types)) fun (x_15:List UInt8×List Typ)=>gd (decide (0≤Int.tmod (x_10.1+1) (1+x.1)) && decide (Int.tmod (x_10.1+1) (1+x.1)<(x_12.2.2.1.length:Int))) (gd (decide (Int.toNat (Int.tmod (x_10.1+1) (1+x.1))=Int.toNat (Int.tmod (x_10.1+1) (1+x.1)))) (some ((x_12.2.1.1,x_12.2.1.2),List.set x_12.2.2.1 (Int.toNat (Int.tmod (x_10.1+1) (1+x.1))) {name:=x_15.1,types:=x_15.2:Part },x_12.2.2.2.1,x_12.2.2.2.2.1,x_12.2.2.2.2.2.1,x_12.2.2.2.2.2.2.1,x_12.2.2.2.2.2.2.2.1,x_12.2.2.2.2.2.2.2.2.1,true,x_12.2.2.2.2.2.2.2.2.2.2)))))))))) (some ((x_12.2.1.1,x_12.2.1.2),x_12.2.2.1,x_12.2.2.2.1,x_12.2.2.2.2.1,x_12.2.2.2.2.2.1,x_12.2.2.2.2.2.2.1,x_12.2.2.2.2.2.2.2.1,x_12.2.2.2.2.2.2.2.2.1,x_12.2.2.2.2.2.2.2.2.2.1,x_12.2.2.2.2.2.2.2.2.2.2))) fun (x:(List Int×Int)×List Part×List UInt8×List UInt8×Bool×Bool×Bool×Bool×Bool×List (List UInt8))=>gd (decide (0≤x_10.1) && decide (x_10.1<(x.2.1.length:Int))) (bindD x.2.1[x_10.1.toNat]? fun (x_13:Part)=>gd (decide (0≤s.1)) (bindD x_2[s.1.toNat]? fun (x_14:Typ)=>bindD (F_l11Give (x_13.name,x_14.name,{name:=x.2.2.1,of:=x.2.2.2.1,list:=x.2.2.2.2.1,must:=x.2.2.2.2.2.1,far:=x.2.2.2.2.2.2.1,hidden:=x.2.2.2.2.2.2.2.1,shared:=x.2.2.2.2.2.2.2.2.1,needs:=x.2.2.2.2.2.2.2.2.2:Field },x_13.types)) fun (x_15:List UInt8×List Typ)=>gd (decide (0≤x_10.1) && decide (x_10.1<(x.2.1.length:Int))) (gd (decide (x_10.1.toNat=x_10.1.toNat)) (gd (i64B (s_1.1+1)) (some (Sum.inl (s_1.1+1,(x.1.1,x.1.2),List.set x.2.1 (x_10.1.toNat) { name:=x_15.1,types:=x_15.2:Part }))))))))))) (some (Sum.inr (s_1.1,(s_1.2.1.1,s_1.2.1.2),s_1.2.2))))) (0,(s.2.1.1,s.2.1.2),s.2.2)) fun (x:Int×(List Int×Int)×List Part)=>gd (i64B (s.1+1)) (some (Sum.inl (s.1+1,(x.2.1.1,x.2.1.2),x.2.2)))) (some (Sum.inr (s.1,(s.2.1.1,s.2.1.2),s.2.2)))) (0,(x_3.2.1,x_3.2.2),x_1.2.2)) fun (x:Int×(List Int×Int)×List Part)=>some (x.2.2,x.2.1.1,x.2.1.2))
def F_l11Parts:List Int×Int→Option (List Part×List Int×Int):=sealD B_l11Parts
theorem F_l11Parts_eq (d:List Int×Int):F_l11Parts d=B_l11Parts d:=congrFun (sealD_eq B_l11Parts) d
def e_l11Parts:TE:=⟨80,[.mpb 0 0],[.box ⟨none,[some ((.lst (.int .u8)),.no),some ((.int .i64),.no)]⟩ [.lst (.int .u8),.int .i64]],(.lst (.nm .Part)),[.box ⟨none,[some ((.lst (.int .u8)),.no),some ((.int .i64),.no)]⟩ [.lst (.int .u8),.int .i64]],F_l11Parts⟩
theorem x_l11Parts (d:List Int×Int):execF [e_l1Rd_pick,l_l1Dec,e_l11Fields,e_l11Give] cy80 c80 [.t 2] [.mpb 0 0] [.box ⟨none,[some ((.lst (.int .u8)),.no),some ((.int .i64),.no)]⟩ [.lst (.int .u8),.int .i64]] (.lst (.nm .Part)) [.box ⟨none,[some ((.lst (.int .u8)),.no),some ((.int .i64),.no)]⟩ [.lst (.int .u8),.int .i64]] d=F_l11Parts d:=Eq.trans (b:=B_l11Parts d) (by kernel_rfl) (F_l11Parts_eq d).symm
def B_l1In (d:Int×Int×Int):Option Bool:=bindD (condD (decide (d.1≥d.2.1)) (some (decide (d.1≤d.2.2))) (some false)) fun (x:Bool)=>some x
def F_l1In:Int×Int×Int→Option Bool:=sealD B_l1In
theorem F_l1In_eq (d:Int×Int×Int):F_l1In d=B_l1In d:=congrFun (sealD_eq B_l1In) d
def e_l1In:TE:=⟨35,[.int .i64,.int .i64,.int .i64],[],(.bool),[],F_l1In⟩
theorem x_l1In (d:Int×Int×Int):execF [] cy35 c35 [.t 6] [.int .i64,.int .i64,.int .i64] [] (.bool) [] d=F_l1In d:=Eq.trans (b:=B_l1In d) (by kernel_rfl) (F_l1In_eq d).symm
def B_l1Name (d:List UInt8):Option Bool:=bindD (F_l1In ((d.length:Int),1,9)) fun (x:Bool)=>condD (!x) (some false) (bindD (loopO (fun (s:Int)=>condD (decide (s<(d.length:Int))) (bindD (gd (decide (0≤s)) (bindD d[s.toNat]? fun (x:UInt8)=>condD (decide (byteI x≥97)) (gd (decide (0≤s)) (bindD d[s.toNat]? fun (x:UInt8)=>condD (decide (byteI x≤122)) (some false) (gd (decide (0≤s)) (bindD d[s.toNat]? fun (x:UInt8)=>condD (byteI x == 95) (some false) (condD (decide (s>0)) (gd (decide (0≤s)) (bindD d[s.toNat]? fun (x:UInt8)=>condD (decide (byteI x≥48)) (gd (decide (0≤s)) (bindD d[s.toNat]? fun (x:UInt8)=>some !decide (byteI x≤57))) (some true))) (some true)))))) (gd (decide (0≤s)) (bindD d[s.toNat]? fun (x:UInt8)=>condD (byteI x == 95) (some false) (condD (decide (s>0)) (gd (decide (0≤s)) (bindD d[s.toNat]? fun (x:UInt8)=>condD (decide (byteI x≥48)) (gd (decide (0≤s)) (bindD d[s.toNat]? fun (x:UInt8)=>some !decide (byteI x≤57))) (some true))) (some true)))))) fun (x:Bool)=>condD x (some (Sum.inr (Sum.inr false))) (gd (i64B (s+1)) (some (Sum.inl (s+1))))) (some (Sum.inr (Sum.inl s)))) 0) fun (x:Int ⊕ Bool)=>caseS x (fun d=>some true) fun r=>some r)
def F_l1Name:List UInt8→Option Bool:=sealD B_l1Name
theorem F_l1Name_eq (d:List UInt8):F_l1Name d=B_l1Name d:=congrFun (sealD_eq B_l1Name) d
def e_l1Name:TE:=⟨119,[.str],[],(.bool),[],F_l1Name⟩
theorem x_l1Name (d:List UInt8):execF [e_l1In] cy119 c119 [.t 2] [.str] [] (.bool) [] d=F_l1Name d:=Eq.trans (b:=B_l1Name d) (by kernel_rfl) (F_l1Name_eq d).symm
def B_l2Name (d:List UInt8):Option Bool:=bindD (bindD (F_l1Name d) fun (x:Bool)=>condD x (condD (decide ((d.length:Int)≤8)) (bindD d[Int.toNat 0]? fun (x:UInt8)=>condD (byteI x != 95) (bindD (F_l2Scalar d) fun (x:Bool)=>condD (!x) (condD (d != [112,97,114,116]) (condD (d != [116,121,112,101]) (condD (d != [107,101,121]) (condD (d != [102,97,114]) (condD (d != [104,105,100,100,101,110]) (condD (d != [115,104,97,114,101,100]) (some (d != [110,101,101,100,115])) (some false)) (some false)) (some false)) (some false)) (some false)) (some false)) (some false)) (some false)) (some false)) (some false)) fun (x:Bool)=>some x
def F_l2Name:List UInt8→Option Bool:=sealD B_l2Name
theorem F_l2Name_eq (d:List UInt8):F_l2Name d=B_l2Name d:=congrFun (sealD_eq B_l2Name) d
def e_l2Name:TE:=⟨107,[.str],[],(.bool),[],F_l2Name⟩
theorem x_l2Name (d:List UInt8):execF [e_l1Name,e_l2Scalar] cy107 c107 [.t 2] [.str] [] (.bool) [] d=F_l2Name d:=Eq.trans (b:=B_l2Name d) (by kernel_rfl) (F_l2Name_eq d).symm
def B_l2Key (d:Typ):Option Bool:=condD (d.key == []) (some true) (bindD (F_l2Field (d,d.key)) fun (x:Int)=>condD (decide (x<0)) (some false) (gd (decide (0≤x)) (bindD d.fields[x.toNat]? fun (x:Field)=>bindD (condD (x.of == [105,110,116]) (condD (!x.list) (condD x.must (condD (!x.far) (condD (!x.hidden) (some ((x.needs.length:Int) == 0)) (some false)) (some false)) (some false)) (some false)) (some false)) fun (x:Bool)=>some x)))
def F_l2Key:Typ→Option Bool:=sealD B_l2Key
theorem F_l2Key_eq (d:Typ):F_l2Key d=B_l2Key d:=congrFun (sealD_eq B_l2Key) d
def e_l2Key:TE:=⟨120,[.st .Typ],[],(.bool),[],F_l2Key⟩
theorem x_l2Key (d:Typ):execF [e_l2Field] cy120 c120 [.t 2] [.st .Typ] [] (.bool) [] d=F_l2Key d:=Eq.trans (b:=B_l2Key d) (by kernel_rfl) (F_l2Key_eq d).symm
def B_l2Needs (d:Typ×Field):Option Bool:=bindD (condD (decide ((d.2.needs.length:Int)>0)) (condD (d.2.of != [105,110,116]) (some true) (condD d.2.list (some true) (condD d.2.far (some true) (condD d.2.must (some true) (condD (d.1.key == []) (some true) (some (d.2.name == d.1.key))))))) (some false)) fun (x:Bool)=>condD x (some false) (bindD (loopO (fun (s:Int)=>condD (decide (s<(d.2.needs.length:Int))) (gd (decide (0≤s)) (bindD d.2.needs[s.toNat]? fun (x:List UInt8)=>bindD (F_l2Field (d.1,x)) fun (x:Int)=>bindD (condD (decide (x<0)) (some true) (gd (decide (0≤x)) (bindD d.1.fields[x.toNat]? fun (x_1:Field)=>condD (decide ((x_1.needs.length:Int)>0)) (some true) (gd (decide (0≤x)) (bindD d.1.fields[x.toNat]? fun (x_2:Field)=>condD (x_2.of != [105,110,116]) (some true) (gd (decide (0≤x)) (bindD d.1.fields[x.toNat]? fun (x:Field)=>condD x.list (some true) (condD (decide (s>0)) (gd (i64B (s - 1)) (gd (decide (0≤s - 1)) (bindD d.2.needs[Int.toNat (s - 1)]? fun (x:List UInt8)=>gd (decide (0≤s)) (bindD d.2.needs[s.toNat]? fun (x_3:List UInt8)=>some !Op.bytesLess x x_3)))) (some false))))))))) fun (x:Bool)=>condD x (some (Sum.inr (Sum.inr false))) (gd (i64B (s+1)) (some (Sum.inl (s+1)))))) (some (Sum.inr (Sum.inl s)))) 0) fun (x:Int ⊕ Bool)=>caseS x (fun d=>some true) fun r=>some r)
def F_l2Needs:Typ×Field→Option Bool:=sealD B_l2Needs
theorem F_l2Needs_eq (d:Typ×Field):F_l2Needs d=B_l2Needs d:=congrFun (sealD_eq B_l2Needs) d
def e_l2Needs:TE:=⟨121,[.st .Typ,.st .Field],[],(.bool),[],F_l2Needs⟩
theorem x_l2Needs (d:Typ×Field):execF [e_l2Field] cy121 c121 [.t 4] [.st .Typ,.st .Field] [] (.bool) [] d=F_l2Needs d:=Eq.trans (b:=B_l2Needs d) (by kernel_rfl) (F_l2Needs_eq d).symm
def B_l2Fault (d:Part×Int):Option Int:=gd (decide (0≤d.2)) (bindD d.1.types[d.2.toNat]? fun (x:Typ)=>bindD (bindD (F_l2Name x.name) fun (x_1:Bool)=>condD (!x_1) (some true) (condD (x.key != []) (bindD (F_l2Name x.key) fun (x_2:Bool)=>condD (!x_2) (some true) (condD ((x.fields.length:Int) == 0) (some true) (some (decide ((x.fields.length:Int)>8))))) (condD ((x.fields.length:Int) == 0) (some true) (some (decide ((x.fields.length:Int)>8)))))) fun (x_1:Bool)=>condD x_1 (some 1) (bindD (loopO (fun (s:Int)=>condD (decide (s<(x.fields.length:Int))) (gd (decide (0≤s)) (bindD x.fields[s.toNat]? fun (x:Field)=>bindD (bindD (F_l2Name x.name) fun (x_2:Bool)=>condD (!x_2) (some true) (bindD (F_l2Scalar x.of) fun (x_3:Bool)=>condD (!x_3) (bindD (F_l2Name x.of) fun (x:Bool)=>some !x) (some false))) fun (x_2:Bool)=>condD x_2 (some (Sum.inr (Sum.inr 1))) (bindD (loopO (fun (s:Int)=>condD (decide (s<(x.needs.length:Int))) (gd (decide (0≤s)) (bindD x.needs[s.toNat]? fun (x:List UInt8)=>bindD (F_l2Name x) fun (x:Bool)=>condD (!x) (some (Sum.inr (Sum.inr (Sum.inr (Sum.inr 1))))) (gd (i64B (s+1)) (some (Sum.inl (s+1)))))) (some (Sum.inr (Sum.inl s)))) 0) fun (x:Int ⊕ Int ⊕ Int ⊕ Int)=>caseS x (fun d=>gd (i64B (s+1)) (some (Sum.inl (s+1)))) fun r=>some r))) (some (Sum.inr (Sum.inl s)))) 0) fun (x_2:Int ⊕ Int)=>caseS x_2 (fun d_1=>bindD (F_l2Type (d.1,x.name)) fun (x_3:Int)=>condD (x_3 != d.2) (some 2) (bindD (loopO (fun (s:Int)=>condD (decide (s<(x.fields.length:Int))) (gd (decide (0≤s)) (bindD x.fields[s.toNat]? fun (x_4:Field)=>bindD (F_l2Field (x,x_4.name)) fun (x:Int)=>condD (x != s) (some (Sum.inr (Sum.inr 2))) (gd (i64B (s+1)) (some (Sum.inl (s+1)))))) (some (Sum.inr (Sum.inl s)))) 0) fun (x_4:Int ⊕ Int)=>caseS x_4 (fun d_2=>bindD (loopO (fun (s:Int)=>condD (decide (s<(x.fields.length:Int))) (bindD (gd (decide (0≤s)) (bindD x.fields[s.toNat]? fun (x_5:Field)=>bindD (F_l2Scalar x_5.of) fun (x_6:Bool)=>condD (!x_6) (gd (decide (0≤s)) (bindD x.fields[s.toNat]? fun (x:Field)=>bindD (F_l2Type (d.1,x.of)) fun (x:Int)=>some (decide (x<0)))) (some false))) fun (x:Bool)=>condD x (some (Sum.inr (Sum.inr 3))) (gd (i64B (s+1)) (some (Sum.inl (s+1))))) (some (Sum.inr (Sum.inl s)))) 0) fun (x_5:Int ⊕ Int)=>caseS x_5 (fun d=>bindD (F_l2Key x) fun (x_6:Bool)=>condD (!x_6) (some 4) (bindD (loopO (fun (s:Int)=>condD (decide (s<(x.fields.length:Int))) (bindD (gd (decide (0≤s)) (bindD x.fields[s.toNat]? fun (x_7:Field)=>bindD (F_l2Needs (x,x_7)) fun (x_8:Bool)=>condD (!x_8) (some true) (gd (decide (0≤s)) (bindD x.fields[s.toNat]? fun (x_9:Field)=>condD x_9.far (gd (decide (0≤s)) (bindD x.fields[s.toNat]? fun (x:Field)=>some x.shared)) (some false))))) fun (x:Bool)=>condD x (some (Sum.inr (Sum.inr 5))) (gd (i64B (s+1)) (some (Sum.inl (s+1))))) (some (Sum.inr (Sum.inl s)))) 0) fun (x:Int ⊕ Int)=>caseS x (fun d=>some 0) fun r=>some r)) fun r=>some r) fun r=>some r)) fun r=>some r))
def F_l2Fault:Part×Int→Option Int:=sealD B_l2Fault
theorem F_l2Fault_eq (d:Part×Int):F_l2Fault d=B_l2Fault d:=congrFun (sealD_eq B_l2Fault) d
def e_l2Fault:TE:=⟨108,[.st .Part,.int .i64],[],(.int .i64),[],F_l2Fault⟩
theorem x_l2Fault (d:Part×Int):execF [e_l2Name,e_l2Scalar,e_l2Type,e_l2Field,e_l2Key,e_l2Needs] cy108 c108 [.t 4] [.st .Part,.int .i64] [] (.int .i64) [] d=F_l2Fault d:=Eq.trans (b:=B_l2Fault d) (by kernel_rfl) (F_l2Fault_eq d).symm
def B_l2Line (d:Field):Option (List UInt8):=bindD (condD d.list (gd (decide (List.length [91]+List.length d.of≤BIG)) (gd (decide (List.length ([91]++d.of)+List.length [93]≤BIG)) (some ([91]++d.of++[93])))) (some d.of)) fun (x:List UInt8)=>bindD (condD d.must (gd (decide (List.length x+List.length [33]≤BIG)) (some (x++[33]))) (some x)) fun (x:List UInt8)=>gd (decide (List.length [32,32]+List.length d.name≤BIG)) (gd (decide (List.length ([32,32]++d.name)+List.length [32]≤BIG)) (gd (decide (List.length ([32,32]++d.name++[32])+List.length x≤BIG)) (bindD (condD d.far (gd (decide (List.length ([32,32]++d.name++[32]++x)+List.length [32,102,97,114]≤BIG)) (some ([32,32]++d.name++[32]++x++[32,102,97,114]))) (some ([32,32]++d.name++[32]++x))) fun (x:List UInt8)=>bindD (condD d.hidden (gd (decide (List.length x+List.length [32,104,105,100,100,101,110]≤BIG)) (some (x++[32,104,105,100,100,101,110]))) (some x)) fun (x:List UInt8)=>bindD (condD d.shared (gd (decide (List.length x+List.length [32,115,104,97,114,101,100]≤BIG)) (some (x++[32,115,104,97,114,101,100]))) (some x)) fun (x:List UInt8)=>bindD (condD (decide ((d.needs.length:Int)>0)) (gd (decide (List.length x+List.length [32,110,101,101,100,115]≤BIG)) (some (x++[32,110,101,101,100,115]))) (some x)) fun (x:List UInt8)=>bindD (loopO (fun (s:List UInt8×Int)=>condD (decide (s.2<(d.needs.length:Int))) (gd (decide (List.length s.1+List.length [32]≤BIG)) (gd (decide (0≤s.2)) (bindD d.needs[s.2.toNat]? fun (x:List UInt8)=>gd (decide (List.length (s.1++[32])+List.length x≤BIG)) (gd (i64B (s.2+1)) (some (Sum.inl (s.1++[32]++x,s.2+1))))))) (some (Sum.inr (s.1,s.2)))) (x,0)) fun (x:List UInt8×Int)=>gd (decide (List.length x.1+List.length [10]≤BIG)) (some (x.1++[10])))))
def F_l2Line:Field→Option (List UInt8):=sealD B_l2Line
theorem F_l2Line_eq (d:Field):F_l2Line d=B_l2Line d:=congrFun (sealD_eq B_l2Line) d
def e_l2Line:TE:=⟨122,[.st .Field],[],(.str),[],F_l2Line⟩
theorem x_l2Line (d:Field):execF [] cy122 c122 [.t 2] [.st .Field] [] (.str) [] d=F_l2Line d:=Eq.trans (b:=B_l2Line d) (by kernel_rfl) (F_l2Line_eq d).symm
def B_l2Write (d:Part):Option (List UInt8):=gd (decide (List.length [112,97,114,116,32]+List.length d.name≤BIG)) (gd (decide (List.length ([112,97,114,116,32]++d.name)+List.length [10]≤BIG)) (bindD (loopO (fun (s:List UInt8×Int)=>condD (decide (s.2<(d.types.length:Int))) (gd (decide (0≤s.2)) (bindD d.types[s.2.toNat]? fun (x:Typ)=>gd (decide (List.length s.1+List.length [116,121,112,101,32]≤BIG)) (gd (decide (List.length (s.1++[116,121,112,101,32])+List.length x.name≤BIG)) (bindD (condD (x.key != []) (gd (decide (List.length (s.1++[116,121,112,101,32]++x.name)+List.length [32,107,101,121,32]≤BIG)) (gd (decide (List.length (s.1++[116,121,112,101,32]++x.name++[32,107,101,121,32])+List.length x.key≤BIG)) (some (s.1++[116,121,112,101,32]++x.name++[32,107,101,121,32]++x.key)))) (some (s.1++[116,121,112,101,32]++x.name))) fun (x_1:List UInt8)=>gd (decide (List.length x_1+List.length [10]≤BIG)) (bindD (loopO (fun (s:List UInt8×Int)=>condD (decide (s.2<(x.fields.length:Int))) (gd (decide (0≤s.2)) (bindD x.fields[s.2.toNat]? fun (x:Field)=>bindD (F_l2Line x) fun (x:List UInt8)=>gd (decide (List.length s.1+List.length x≤BIG)) (gd (i64B (s.2+1)) (some (Sum.inl (s.1++x,s.2+1)))))) (some (Sum.inr (s.1,s.2)))) (x_1++[10],0)) fun (x:List UInt8×Int)=>gd (i64B (s.2+1)) (some (Sum.inl (x.1,s.2+1)))))))) (some (Sum.inr (s.1,s.2)))) ([112,97,114,116,32]++d.name++[10],0)) fun (x:List UInt8×Int)=>some x.1))
def F_l2Write:Part→Option (List UInt8):=sealD B_l2Write
theorem F_l2Write_eq (d:Part):F_l2Write d=B_l2Write d:=congrFun (sealD_eq B_l2Write) d
def e_l2Write:TE:=⟨109,[.st .Part],[],(.str),[],F_l2Write⟩
theorem x_l2Write (d:Part):execF [e_l2Line] cy109 c109 [.t 2] [.st .Part] [] (.str) [] d=F_l2Write d:=Eq.trans (b:=B_l2Write d) (by kernel_rfl) (F_l2Write_eq d).symm
def B_PartCheck (d:Part):Option PFault:=condD (decide ((d.types.length:Int)>5)) (some { pos:=6,code:=6:PFault }) (bindD (F_l2Name d.name) fun (x:Bool)=>condD (!x) (some { pos:=0,code:=1:PFault }) (bindD (condD ((d.types.length:Int) == 0) (some true) (bindD d.types[Int.toNat 0]? fun (x:Typ)=>condD (x.name != [113,117,101,114,121]) (some true) (bindD d.types[Int.toNat 0]? fun (x:Typ)=>some (x.key != [])))) fun (x:Bool)=>condD x (some { pos:=0,code:=7:PFault }) (bindD (loopO (fun (s:Int×Int×Int)=>condD (decide (s.1<(d.types.length:Int))) (bindD (F_l2Fault (d,s.1)) fun (x:Int)=>condD (x != 0) (gd (i64B (s.1+1)) (some (Sum.inr (Sum.inr { pos:=s.1+1,code:=x:PFault })))) (bindD (loopO (fun (s_1:Int×Int×Int)=>gd (decide (0≤s.1)) (bindD d.types[s.1.toNat]? fun (x:Typ)=>condD (decide (s_1.1<(x.fields.length:Int))) (gd (decide (0≤s.1)) (bindD d.types[s.1.toNat]? fun (x:Typ)=>gd (decide (0≤s_1.1)) (bindD x.fields[s_1.1.toNat]? fun (x:Field)=>condD (x.of == [113,117,101,114,121]) (gd (i64B (s.1+1)) (some (Sum.inr (Sum.inr (Sum.inr (Sum.inr { pos:=s.1+1,code:=7:PFault })))))) (gd (i64B (s_1.1+1)) (some (Sum.inl (s_1.1+1,s_1.2.1,s_1.2.2))))))) (some (Sum.inr (Sum.inl (s_1.1,s_1.2.1,s_1.2.2)))))) (0,s.2.1,s.2.2)) fun (x:Int×Int×Int ⊕ Int×Int×Int ⊕ Int×Int×Int ⊕ PFault)=>caseS x (fun d=>gd (i64B (s.1+1)) (some (Sum.inl (s.1+1,d.2.1,d.2.2)))) fun r=>some r)) (some (Sum.inr (Sum.inl (s.1,s.2.1,s.2.2))))) (0,0,0)) fun (x:Int×Int×Int ⊕ PFault)=>caseS x (fun d_1=>bindD (F_l2Write d) fun (x:List UInt8)=>condD (decide ((x.length:Int)>1500)) (some { pos:=0,code:=6:PFault }) (some { pos:=0,code:=0:PFault })) fun r=>some r)))
def F_PartCheck:Part→Option PFault:=sealD B_PartCheck
theorem F_PartCheck_eq (d:Part):F_PartCheck d=B_PartCheck d:=congrFun (sealD_eq B_PartCheck) d
def e_PartCheck:TE:=⟨87,[.st .Part],[],(.st .PFault),[],F_PartCheck⟩
theorem x_PartCheck (d:Part):execF [e_l2Name,e_l2Fault,e_l2Write] cy87 c87 [.c 2 (some 2)] [.st .Part] [] (.st .PFault) [] d=F_PartCheck d:=Eq.trans (b:=B_PartCheck d) (by kernel_rfl) (F_PartCheck_eq d).symm
def B_l6Key (d:List Part×List UInt8):Option (List UInt8):=bindD (loopO (fun (s:Int)=>condD (decide (s<(d.1.length:Int))) (gd (decide (0≤s)) (bindD d.1[s.toNat]? fun (x:Part)=>bindD (F_l2Type (x,d.2)) fun (x:Int)=>bindD (condD (decide (x≥0)) (gd (decide (0≤s)) (bindD d.1[s.toNat]? fun (x_1:Part)=>gd (decide (0≤x)) (bindD x_1.types[x.toNat]? fun (x:Typ)=>some (x.key != [])))) (some false)) fun (x_1:Bool)=>condD x_1 (gd (decide (0≤s)) (bindD d.1[s.toNat]? fun (x_2:Part)=>gd (decide (0≤x)) (bindD x_2.types[x.toNat]? fun (x:Typ)=>some (Sum.inr (Sum.inr x.key))))) (gd (i64B (s+1)) (some (Sum.inl (s+1)))))) (some (Sum.inr (Sum.inl s)))) 0) fun (x:Int ⊕ List UInt8)=>caseS x (fun d=>some []) fun r=>some r
def F_l6Key:List Part×List UInt8→Option (List UInt8):=sealD B_l6Key
theorem F_l6Key_eq (d:List Part×List UInt8):F_l6Key d=B_l6Key d:=congrFun (sealD_eq B_l6Key) d
def e_l6Key:TE:=⟨104,[.lst (.nm .Part),.str],[],(.str),[],F_l6Key⟩
theorem x_l6Key (d:List Part×List UInt8):execF [e_l2Type] cy104 c104 [.t 4] [.lst (.nm .Part),.str] [] (.str) [] d=F_l6Key d:=Eq.trans (b:=B_l6Key d) (by kernel_rfl) (F_l6Key_eq d).symm
def B_l2Get (d:Part×List UInt8×List UInt8):Option (Field×Bool):=bindD (F_l2Type (d.1,d.2.1)) fun (x:Int)=>condD (decide (x<0)) (some ({ name:=[],of:=[],list:=false,must:=false,far:=false,hidden:=false,shared:=false,needs:=[]:Field },false)) (gd (decide (0≤x)) (bindD d.1.types[x.toNat]? fun (x_1:Typ)=>bindD (F_l2Field (x_1,d.2.2)) fun (x_2:Int)=>condD (decide (x_2<0)) (some ({ name:=[],of:=[],list:=false,must:=false,far:=false,hidden:=false,shared:=false,needs:=[]:Field },false)) (gd (decide (0≤x)) (bindD d.1.types[x.toNat]? fun (x:Typ)=>gd (decide (0≤x_2)) (bindD x.fields[x_2.toNat]? fun (x:Field)=>some (x,true))))))
def F_l2Get:Part×List UInt8×List UInt8→Option (Field×Bool):=sealD B_l2Get
theorem F_l2Get_eq (d:Part×List UInt8×List UInt8):F_l2Get d=B_l2Get d:=congrFun (sealD_eq B_l2Get) d
def e_l2Get:TE:=⟨110,[.st .Part,.str,.str],[],(.tup [.st .Field,.bool]),[],F_l2Get⟩
theorem x_l2Get (d:Part×List UInt8×List UInt8):execF [e_l2Type,e_l2Field] cy110 c110 [.c 6 (some 8),.t 7] [.st .Part,.str,.str] [] (.tup [.st .Field,.bool]) [] d=F_l2Get d:=Eq.trans (b:=B_l2Get d) (by kernel_rfl) (F_l2Get_eq d).symm
def B_l6Owners (d:List Part×List UInt8×List UInt8):Option (List Int):=bindD (loopO (fun (s:Int×List Int)=>condD (decide (s.1<(d.1.length:Int))) (gd (decide (0≤s.1)) (bindD d.1[s.1.toNat]? fun (x:Part)=>bindD (F_l2Get (x,d.2.1,d.2.2)) fun (x:Field×Bool)=>bindD (condD x.2 (some !x.1.far) (some false)) fun (x:Bool)=>bindD (condD x (gd (decide (List.length s.2+List.length [s.1]≤LIM)) (some (s.2++[s.1]))) (some s.2)) fun (x:List Int)=>gd (i64B (s.1+1)) (some (Sum.inl (s.1+1,x))))) (some (Sum.inr (s.1,s.2)))) (0,[])) fun (x:Int×List Int)=>some x.2
def F_l6Owners:List Part×List UInt8×List UInt8→Option (List Int):=sealD B_l6Owners
theorem F_l6Owners_eq (d:List Part×List UInt8×List UInt8):F_l6Owners d=B_l6Owners d:=congrFun (sealD_eq B_l6Owners) d
def e_l6Owners:TE:=⟨88,[.lst (.nm .Part),.str,.str],[],(.lst (.int .i64)),[],F_l6Owners⟩
theorem x_l6Owners (d:List Part×List UInt8×List UInt8):execF [e_l2Get] cy88 c88 [.t 6] [.lst (.nm .Part),.str,.str] [] (.lst (.int .i64)) [] d=F_l6Owners d:=Eq.trans (b:=B_l6Owners d) (by kernel_rfl) (F_l6Owners_eq d).symm
def B_l6Alike (d:Field×Field):Option Bool:=bindD (condD (d.1.of == d.2.of) (condD (d.1.list == d.2.list) (some (d.1.must == d.2.must)) (some false)) (some false)) fun (x:Bool)=>some x
def F_l6Alike:Field×Field→Option Bool:=sealD B_l6Alike
theorem F_l6Alike_eq (d:Field×Field):F_l6Alike d=B_l6Alike d:=congrFun (sealD_eq B_l6Alike) d
def e_l6Alike:TE:=⟨118,[.st .Field,.st .Field],[],(.bool),[],F_l6Alike⟩
theorem x_l6Alike (d:Field×Field):execF [] cy118 c118 [.t 4] [.st .Field,.st .Field] [] (.bool) [] d=F_l6Alike d:=Eq.trans (b:=B_l6Alike d) (by kernel_rfl) (F_l6Alike_eq d).symm
def B_l6Field (d:List Part×Int×List UInt8×Field):Option Int:=bindD (F_l6Owners (d.1,d.2.2.1,d.2.2.2.name)) fun (x:List Int)=>bindD (loopO (fun (s:Int×Int×Int)=>condD (decide (s.2.2<(d.1.length:Int))) (gd (decide (0≤s.2.2)) (bindD d.1[s.2.2.toNat]? fun (x:Part)=>bindD (F_l2Get (x,d.2.2.1,d.2.2.2.name)) fun (x:Field×Bool)=>bindD (condD x.2 (bindD (F_l6Alike (d.2.2.2,{name:=x.1.name,of:=x.1.of,list:=x.1.list,must:=x.1.must,far:=x.1.far,hidden:=x.1.hidden,shared:=x.1.shared,needs:=x.1.needs:Field })) fun (x:Bool)=>some !x) (some false)) fun (x_1:Bool)=>condD x_1 (some (Sum.inr (Sum.inr 3))) (bindD (condD x.2 (some x.1.shared) (some false)) fun (x_2:Bool)=>bindD (condD x_2 (gd (i64B (s.1+1)) (some (s.1+1))) (some s.1)) fun (x_3:Int)=>bindD (condD x.2 (some (decide ((x.1.needs.length:Int)>0))) (some false)) fun (x:Bool)=>bindD (condD x (gd (i64B (s.2.1+1)) (some (s.2.1+1))) (some s.2.1)) fun (x:Int)=>gd (i64B (s.2.2+1)) (some (Sum.inl (x_3,x,s.2.2+1)))))) (some (Sum.inr (Sum.inl (s.1,s.2.1,s.2.2))))) (0,0,0)) fun (x_1:Int×Int×Int ⊕ Int)=>caseS x_1 (fun d_1=>condD ((x.length:Int) == 0) (some 6) (bindD (condD (decide ((x.length:Int)>1)) (bindD (F_l6Key (d.1,d.2.2.1)) fun (x_2:List UInt8)=>condD (d.2.2.2.name != x_2) (some (decide (d_1.1<(x.length:Int)))) (some false)) (some false)) fun (x_2:Bool)=>condD x_2 (some 5) (bindD (condD (decide (d_1.2.1>0)) (some (decide ((x.length:Int)>1))) (some false)) fun (x:Bool)=>condD x (some 7) (bindD (loopO (fun (s:Int)=>condD (decide (s<(d.2.2.2.needs.length:Int))) (bindD (loopO (fun (s_1:Int)=>condD (decide (s_1<(d.1.length:Int))) (gd (decide (0≤s_1)) (bindD d.1[s_1.toNat]? fun (x:Part)=>gd (decide (0≤s)) (bindD d.2.2.2.needs[s.toNat]? fun (x_3:List UInt8)=>bindD (F_l2Get (x,d.2.2.1,x_3)) fun (x:Field×Bool)=>bindD (condD x.2 (some (decide ((x.1.needs.length:Int)>0))) (some false)) fun (x:Bool)=>condD x (some (Sum.inr (Sum.inr (Sum.inr (Sum.inr 7))))) (gd (i64B (s_1+1)) (some (Sum.inl (s_1+1))))))) (some (Sum.inr (Sum.inl s_1)))) 0) fun (x:Int ⊕ Int ⊕ Int ⊕ Int)=>caseS x (fun d=>gd (i64B (s+1)) (some (Sum.inl (s+1)))) fun r=>some r) (some (Sum.inr (Sum.inl s)))) 0) fun (x:Int ⊕ Int)=>caseS x (fun d=>some 0) fun r=>some r)))) fun r=>some r
def F_l6Field:List Part×Int×List UInt8×Field→Option Int:=sealD B_l6Field
theorem F_l6Field_eq (d:List Part×Int×List UInt8×Field):F_l6Field d=B_l6Field d:=congrFun (sealD_eq B_l6Field) d
def e_l6Field:TE:=⟨105,[.lst (.nm .Part),.int .i64,.str,.st .Field],[],(.int .i64),[],F_l6Field⟩
theorem x_l6Field (d:List Part×Int×List UInt8×Field):execF [e_l6Owners,e_l2Get,e_l6Alike,e_l6Key] cy105 c105 [.t 8] [.lst (.nm .Part),.int .i64,.str,.st .Field] [] (.int .i64) [] d=F_l6Field d:=Eq.trans (b:=B_l6Field d) (by kernel_rfl) (F_l6Field_eq d).symm
def B_l6Fault (d:List Part):Option CFault:=bindD (condD ((d.length:Int) == 0) (some true) (some (decide ((d.length:Int)>4)))) fun (x:Bool)=>condD x (some { pos:=0,type:=[],field:=[],code:=8:CFault }) (bindD (loopO (fun (s:Int×Int×List UInt8×List UInt8×Int)=>condD (decide (s.1<(d.length:Int))) (gd (decide (0≤s.1)) (bindD d[s.1.toNat]? fun (x:Part)=>bindD (F_PartCheck x) fun (x:PFault)=>condD (x.code != 0) (gd (i64B (s.1+1)) (some (Sum.inr (Sum.inr { pos:=s.1+1,type:=[],field:=[],code:=1:CFault })))) (bindD (loopO (fun (s_1:Int×Int×List UInt8×List UInt8×Int)=>condD (decide (s_1.1<s.1)) (gd (decide (0≤s_1.1)) (bindD d[s_1.1.toNat]? fun (x:Part)=>gd (decide (0≤s.1)) (bindD d[s.1.toNat]? fun (x_1:Part)=>condD (x.name == x_1.name) (gd (i64B (s.1+1)) (some (Sum.inr (Sum.inr (Sum.inr (Sum.inr { pos:=s.1+1,type:=[],field:=[],code:=2:CFault })))))) (gd (i64B (s_1.1+1)) (some (Sum.inl (s_1.1+1,s_1.2.1,s_1.2.2.1,s_1.2.2.2.1,s_1.2.2.2.2))))))) (some (Sum.inr (Sum.inl (s_1.1,s_1.2.1,s_1.2.2.1,s_1.2.2.2.1,s_1.2.2.2.2))))) (0,s.2.1,s.2.2.1,s.2.2.2.1,s.2.2.2.2)) fun (x:Int×Int×List UInt8×List UInt8×Int ⊕ Int×Int×List UInt8×List UInt8×Int ⊕ Int×Int×List UInt8×List UInt8×Int ⊕ CFault)=>caseS x (fun d=>gd (i64B (s.1+1)) (some (Sum.inl (s.1+1,d.2.1,d.2.2.1,d.2.2.2.1,d.2.2.2.2)))) fun r=>some r))) (some (Sum.inr (Sum.inl (s.1,s.2.1,s.2.2.1,s.2.2.2.1,s.2.2.2.2))))) (0,0,[],[],0)) fun (x:Int×Int×List UInt8×List UInt8×Int ⊕ CFault)=>caseS x (fun d_1=>bindD (loopO (fun (s:Int×Int×List UInt8×List UInt8×Int)=>condD (decide (s.1<(d.length:Int))) (bindD (loopO (fun (s_1:Int×Int×List UInt8×List UInt8×Int)=>gd (decide (0≤s.1)) (bindD d[s.1.toNat]? fun (x:Part)=>condD (decide (s_1.1<(x.types.length:Int))) (gd (decide (0≤s.1)) (bindD d[s.1.toNat]? fun (x:Part)=>gd (decide (0≤s_1.1)) (bindD x.types[s_1.1.toNat]? fun (x:Typ)=>bindD (condD (x.key != []) (bindD (F_l6Key (d,x.name)) fun (x_1:List UInt8)=>some (x.key != x_1)) (some false)) fun (x_1:Bool)=>condD x_1 (gd (i64B (s.1+1)) (some (Sum.inr (Sum.inr (Sum.inr (Sum.inr { pos:=s.1+1,type:=x.name,field:=[],code:=4:CFault })))))) (bindD (loopO (fun (s_2:Int×Int×List UInt8×List UInt8×Int)=>condD (decide (s_2.1<(x.fields.length:Int))) (gd (decide (0≤s_2.1)) (bindD x.fields[s_2.1.toNat]? fun (x_2:Field)=>bindD (F_l6Field (d,s.1,x.name,x_2)) fun (x_3:Int)=>condD (x_3 != 0) (gd (i64B (s.1+1)) (gd (decide (0≤s_2.1)) (bindD x.fields[s_2.1.toNat]? fun (x_4:Field)=>some (Sum.inr (Sum.inr (Sum.inr (Sum.inr (Sum.inr (Sum.inr { pos:=s.1+1,type:=x.name,field:=x_4.name,code:=x_3:CFault }))))))))) (gd (i64B (s_2.1+1)) (some (Sum.inl (s_2.1+1,s_2.2.1,s_2.2.2.1,s_2.2.2.2.1,s_2.2.2.2.2)))))) (some (Sum.inr (Sum.inl (s_2.1,s_2.2.1,s_2.2.2.1,s_2.2.2.2.1,s_2.2.2.2.2))))) (0,s_1.2.1,s_1.2.2.1,s_1.2.2.2.1,s_1.2.2.2.2)) fun (x:Int×Int×List UInt8×List UInt8×Int ⊕ Int×Int×List UInt8×List UInt8×Int ⊕ Int×Int×List UInt8×List UInt8×Int ⊕ Int×Int×List UInt8×List UInt8×Int ⊕ Int×Int×List UInt8×List UInt8×Int ⊕ CFault)=>caseS x (fun d=>gd (i64B (s_1.1+1)) (some (Sum.inl (s_1.1+1,d.2.1,d.2.2.1,d.2.2.2.1,d.2.2.2.2)))) fun r=>some r)))) (some (Sum.inr (Sum.inl (s_1.1,s_1.2.1,s_1.2.2.1,s_1.2.2.2.1,s_1.2.2.2.2)))))) (0,s.2.1,s.2.2.1,s.2.2.2.1,s.2.2.2.2)) fun (x:Int×Int×List UInt8×List UInt8×Int ⊕ Int×Int×List UInt8×List UInt8×Int ⊕ Int×Int×List UInt8×List UInt8×Int ⊕ CFault)=>caseS x (fun d=>gd (i64B (s.1+1)) (some (Sum.inl (s.1+1,d.2.1,d.2.2.1,d.2.2.2.1,d.2.2.2.2)))) fun r=>some r) (some (Sum.inr (Sum.inl (s.1,s.2.1,s.2.2.1,s.2.2.2.1,s.2.2.2.2))))) (0,d_1.2.1,d_1.2.2.1,d_1.2.2.2.1,d_1.2.2.2.2)) fun (x:Int×Int×List UInt8×List UInt8×Int ⊕ CFault)=>caseS x (fun d=>some { pos:=0,type:=[],field:=[],code:=0:CFault }) fun r=>some r) fun r=>some r)
def F_l6Fault:List Part→Option CFault:=sealD B_l6Fault
theorem F_l6Fault_eq (d:List Part):F_l6Fault d=B_l6Fault d:=congrFun (sealD_eq B_l6Fault) d
def e_l6Fault:TE:=⟨85,[.lst (.nm .Part)],[],(.st .CFault),[],F_l6Fault⟩
theorem x_l6Fault (d:List Part):execF [e_PartCheck,e_l6Key,e_l6Field] cy85 c85 [.c 2 (some 4)] [.lst (.nm .Part)] [] (.st .CFault) [] d=F_l6Fault d:=Eq.trans (b:=B_l6Fault d) (by kernel_rfl) (F_l6Fault_eq d).symm
def B_l6Put (d:Typ×Field):Option Typ:=bindD (F_l2Field ({ name:=d.1.name,key:=d.1.key,fields:=d.1.fields:Typ },d.2.name)) fun (x:Int)=>condD (decide (x<0)) (gd (decide (List.length d.1.fields≤LIM)) (gd (decide (List.length d.2.needs≤LIM)) (gd (decide (List.length d.1.fields+List.length [{ name:=d.2.name,of:=d.2.of,list:=d.2.list,must:=d.2.must,far:=false,hidden:=d.2.hidden,shared:=false,needs:=d.2.needs:Field }]≤LIM)) (some {name:=d.1.name,key:=d.1.key,fields:=d.1.fields++[{ name:=d.2.name,of:=d.2.of,list:=d.2.list,must:=d.2.must,far:=false,hidden:=d.2.hidden,shared:=false,needs:=d.2.needs:Field }]:Typ })))) (gd (decide (0+List.length d.1.fields≤LIM)) (bindD (condD d.2.hidden (gd (decide (0≤x) && decide (x<(d.1.fields.length:Int))) (bindD d.1.fields[x.toNat]? fun (x_1:Field)=>some ((d.1.name,d.1.key,d.1.fields),([],[]),[],List.set d.1.fields (x.toNat) {name:=x_1.name,of:=x_1.of,list:=x_1.list,must:=x_1.must,far:=x_1.far,hidden:=true,shared:=x_1.shared,needs:=x_1.needs:Field }))) (some ((d.1.name,d.1.key,d.1.fields),([],[]),[],d.1.fields))) fun (x_1:(List UInt8×List UInt8×List Field)×(List UInt8×List UInt8)×List Field×List Field)=>bindD (condD (decide ((d.2.needs.length:Int)>0)) (gd (decide (0+List.length d.2.needs≤LIM)) (gd (decide (0≤x) && decide (x<(x_1.2.2.2.length:Int))) (bindD x_1.2.2.2[x.toNat]? fun (x_2:Field)=>some ((x_1.1.1,x_1.1.2.1,x_1.1.2.2),(x_1.2.1.1,x_1.2.1.2),x_1.2.2.1,List.set x_1.2.2.2 (x.toNat) {name:=x_2.name,of:=x_2.of,list:=x_2.list,must:=x_2.must,far:=x_2.far,hidden:=x_2.hidden,shared:=x_2.shared,needs:=d.2.needs:Field })))) (some ((x_1.1.1,x_1.1.2.1,x_1.1.2.2),(x_1.2.1.1,x_1.2.1.2),x_1.2.2.1,x_1.2.2.2))) fun (x:(List UInt8×List UInt8×List Field)×(List UInt8×List UInt8)×List Field×List Field)=>some { name:=x.1.1,key:=x.1.2.1,fields:=x.2.2.2:Typ }))
def F_l6Put:Typ×Field→Option Typ:=sealD B_l6Put
theorem F_l6Put_eq (d:Typ×Field):F_l6Put d=B_l6Put d:=congrFun (sealD_eq B_l6Put) d
def e_l6Put:TE:=⟨106,[.st .Typ,.st .Field],[],(.st .Typ),[],F_l6Put⟩
theorem x_l6Put (d:Typ×Field):execF [e_l2Field] cy106 c106 [.c 4 (some 3)] [.st .Typ,.st .Field] [] (.st .Typ) [] d=F_l6Put d:=Eq.trans (b:=B_l6Put d) (by kernel_rfl) (F_l6Put_eq d).symm
def B_l6All (d:List Part):Option Part:=bindD (loopO (fun (s:Int×List UInt8×List Typ×List UInt8×List Typ)=>condD (decide (s.1<(d.length:Int))) (bindD (loopO (fun (s_1:Int×List UInt8×List Typ×List UInt8×List Typ)=>gd (decide (0≤s.1)) (bindD d[s.1.toNat]? fun (x:Part)=>condD (decide (s_1.1<(x.types.length:Int))) (gd (decide (0≤s.1)) (bindD d[s.1.toNat]? fun (x:Part)=>gd (decide (0≤s_1.1)) (bindD x.types[s_1.1.toNat]? fun (x:Typ)=>bindD (F_l2Type ({ name:=s_1.2.2.2.1,types:=s_1.2.2.2.2:Part },x.name)) fun (x_1:Int)=>bindD (condD (decide (x_1<0)) (bindD (F_l6Key (d,x.name)) fun (x_2:List UInt8)=>gd (decide (List.length s_1.2.2.2.2+List.length [{ name:=x.name,key:=x_2,fields:=[]:Typ }]≤LIM)) (some ((s_1.2.2.2.2.length:Int),s_1.2.1,s_1.2.2.1,s_1.2.2.2.1,s_1.2.2.2.2++[{ name:=x.name,key:=x_2,fields:=[]:Typ }]))) (some (x_1,s_1.2.1,s_1.2.2.1,s_1.2.2.2.1,s_1.2.2.2.2))) fun (x_2:Int×List UInt8×List Typ×List UInt8×List Typ)=>bindD (loopO (fun (s:Int×List UInt8×List Typ×List UInt8×List Typ)=>condD (decide (s.1<(x.fields.length:Int))) (gd (decide (0≤x_2.1) && decide (x_2.1<(s.2.2.2.2.length:Int))) (bindD s.2.2.2.2[x_2.1.toNat]? fun (x_3:Typ)=>gd (decide (0≤s.1)) (bindD x.fields[s.1.toNat]? fun (x:Field)=>bindD (F_l6Put (x_3,x)) fun (x:Typ)=>gd (decide (0≤x_2.1) && decide (x_2.1<(s.2.2.2.2.length:Int))) (bindD s.2.2.2.2[x_2.1.toNat]? fun (x_4:Typ)=>gd (i64B (s.1+1)) (some (Sum.inl (s.1+1,s.2.1,s.2.2.1,s.2.2.2.1,List.set s.2.2.2.2 (x_2.1.toNat) x))))))) (some (Sum.inr (s.1,s.2.1,s.2.2.1,s.2.2.2.1,s.2.2.2.2)))) (0,x_2.2.1,x_2.2.2.1,x_2.2.2.2.1,x_2.2.2.2.2)) fun (x:Int×List UInt8×List Typ×List UInt8×List Typ)=>gd (i64B (s_1.1+1)) (some (Sum.inl (s_1.1+1,x.2.1,x.2.2.1,x.2.2.2.1,x.2.2.2.2)))))) (some (Sum.inr (s_1.1,s_1.2.1,s_1.2.2.1,s_1.2.2.2.1,s_1.2.2.2.2))))) (0,s.2.1,s.2.2.1,s.2.2.2.1,s.2.2.2.2)) fun (x:Int×List UInt8×List Typ×List UInt8×List Typ)=>gd (i64B (s.1+1)) (some (Sum.inl (s.1+1,x.2.1,x.2.2.1,x.2.2.2.1,x.2.2.2.2)))) (some (Sum.inr (s.1,s.2.1,s.2.2.1,s.2.2.2.1,s.2.2.2.2)))) (0,[],[],[97],[])) fun (x:Int×List UInt8×List Typ×List UInt8×List Typ)=>some { name:=x.2.2.2.1,types:=x.2.2.2.2:Part }
def F_l6All:List Part→Option Part:=sealD B_l6All
theorem F_l6All_eq (d:List Part):F_l6All d=B_l6All d:=congrFun (sealD_eq B_l6All) d
def e_l6All:TE:=⟨86,[.lst (.nm .Part)],[],(.st .Part),[],F_l6All⟩
theorem x_l6All (d:List Part):execF [e_l2Type,e_l6Key,e_l6Put] cy86 c86 [.c 2 (some 2)] [.lst (.nm .Part)] [] (.st .Part) [] d=F_l6All d:=Eq.trans (b:=B_l6All d) (by kernel_rfl) (F_l6All_eq d).symm
def B_ChartMake (d:List Part):Option (Chart×CFault):=bindD (F_l6Fault d) fun (x:CFault)=>condD (x.code != 0) (some ({ all:={ name:=[],types:=[]:Part },owners:=[]:Chart },x)) (bindD (F_l6All d) fun (x_1:Part)=>bindD (F_PartCheck x_1) fun (x_2:PFault)=>condD (x_2.code != 0) (some ({ all:={ name:=[],types:=[]:Part },owners:=[]:Chart },{ pos:=0,type:=[],field:=[],code:=8:CFault })) (bindD (loopO (fun (s:Int×List UInt8×List Typ×List Own×(Int×List UInt8×List UInt8×Int)×(List UInt8×List Typ)×List Own)=>condD (decide (s.1<(s.2.2.2.2.2.1.2.length:Int))) (gd (decide (0≤s.1)) (bindD s.2.2.2.2.2.1.2[s.1.toNat]? fun (x:Typ)=>bindD (loopO (fun (s:Int×List UInt8×List Typ×List Own×(Int×List UInt8×List UInt8×Int)×(List UInt8×List Typ)×List Own)=>condD (decide (s.1<(x.fields.length:Int))) (gd (decide (0≤s.1)) (bindD x.fields[s.1.toNat]? fun (x_3:Field)=>gd (decide (0≤s.1)) (bindD x.fields[s.1.toNat]? fun (x_4:Field)=>bindD (F_l6Owners (d,x.name,x_4.name)) fun (x_5:List Int)=>gd (decide (List.length s.2.2.2.2.2.2+List.length [{ type:=x.name,field:=x_3.name,parts:=x_5:Own }]≤LIM)) (gd (i64B (s.1+1)) (some (Sum.inl (s.1+1,s.2.1,s.2.2.1,s.2.2.2.1,(s.2.2.2.2.1.1,s.2.2.2.2.1.2.1,s.2.2.2.2.1.2.2.1,s.2.2.2.2.1.2.2.2),(s.2.2.2.2.2.1.1,s.2.2.2.2.2.1.2),s.2.2.2.2.2.2++[{ type:=x.name,field:=x_3.name,parts:=x_5:Own }]))))))) (some (Sum.inr (s.1,s.2.1,s.2.2.1,s.2.2.2.1,(s.2.2.2.2.1.1,s.2.2.2.2.1.2.1,s.2.2.2.2.1.2.2.1,s.2.2.2.2.1.2.2.2),(s.2.2.2.2.2.1.1,s.2.2.2.2.2.1.2),s.2.2.2.2.2.2)))) (0,s.2.1,s.2.2.1,s.2.2.2.1,(s.2.2.2.2.1.1,s.2.2.2.2.1.2.1,s.2.2.2.2.1.2.2.1,s.2.2.2.2.1.2.2.2),(s.2.2.2.2.2.1.1,s.2.2.2.2.2.1.2),s.2.2.2.2.2.2)) fun (x:Int×List UInt8×List Typ×List Own×(Int×List UInt8×List UInt8×Int)×(List UInt8×List Typ)×List Own)=>gd (i64B (s.1+1)) (some (Sum.inl (s.1+1,x.2.1,x.2.2.1,x.2.2.2.1,(x.2.2.2.2.1.1,x.2.2.2.2.1.2.1,x.2.2.2.2.1.2.2.1,x.2.2.2.2.1.2.2.2),(x.2.2.2.2.2.1.1,x.2.2.2.2.2.1.2),x.2.2.2.2.2.2))))) (some (Sum.inr (s.1,s.2.1,s.2.2.1,s.2.2.2.1,(s.2.2.2.2.1.1,s.2.2.2.2.1.2.1,s.2.2.2.2.1.2.2.1,s.2.2.2.2.1.2.2.2),(s.2.2.2.2.2.1.1,s.2.2.2.2.2.1.2),s.2.2.2.2.2.2)))) (0,[],[],[],(0,[],[],0),(x_1.name,x_1.types),[])) fun (x_3:Int×List UInt8×List Typ×List Own×(Int×List UInt8×List UInt8×Int)×(List UInt8×List Typ)×List Own)=>some ({ all:={ name:=x_3.2.2.2.2.2.1.1,types:=x_3.2.2.2.2.2.1.2:Part },owners:=x_3.2.2.2.2.2.2:Chart },x)))
def F_ChartMake:List Part→Option (Chart×CFault):=sealD B_ChartMake
theorem F_ChartMake_eq (d:List Part):F_ChartMake d=B_ChartMake d:=congrFun (sealD_eq B_ChartMake) d
def e_ChartMake:TE:=⟨70,[.lst (.nm .Part)],[],(.tup [.st .Chart,.st .CFault]),[],F_ChartMake⟩
theorem x_ChartMake (d:List Part):execF [e_l6Fault,e_l6All,e_PartCheck,e_l6Owners] cy70 c70 [.c 2 (some 3),.c 3 (some 4)] [.lst (.nm .Part)] [] (.tup [.st .Chart,.st .CFault]) [] d=F_ChartMake d:=Eq.trans (b:=B_ChartMake d) (by kernel_rfl) (F_ChartMake_eq d).symm
def B_l7Local (d:Part×List UInt8×List UInt8):Option Bool:=bindD (F_l2Get (d.1,d.2.1,d.2.2)) fun (x:Field×Bool)=>bindD (condD x.2 (condD (!x.1.far) (some ((x.1.needs.length:Int) == 0)) (some false)) (some false)) fun (x:Bool)=>some x
def F_l7Local:Part×List UInt8×List UInt8→Option Bool:=sealD B_l7Local
theorem F_l7Local_eq (d:Part×List UInt8×List UInt8):F_l7Local d=B_l7Local d:=congrFun (sealD_eq B_l7Local) d
def e_l7Local:TE:=⟨113,[.st .Part,.str,.str],[],(.bool),[],F_l7Local⟩
theorem x_l7Local (d:Part×List UInt8×List UInt8):execF [e_l2Get] cy113 c113 [.t 6] [.st .Part,.str,.str] [] (.bool) [] d=F_l7Local d:=Eq.trans (b:=B_l7Local d) (by kernel_rfl) (F_l7Local_eq d).symm
def B_l7Keyed (d:Part×List UInt8):Option Bool:=bindD (F_l2Type (d.1,d.2)) fun (x:Int)=>bindD (condD (decide (x≥0)) (gd (decide (0≤x)) (bindD d.1.types[x.toNat]? fun (x:Typ)=>some (x.key != []))) (some false)) fun (x:Bool)=>some x
def F_l7Keyed:Part×List UInt8→Option Bool:=sealD B_l7Keyed
theorem F_l7Keyed_eq (d:Part×List UInt8):F_l7Keyed d=B_l7Keyed d:=congrFun (sealD_eq B_l7Keyed) d
def e_l7Keyed:TE:=⟨111,[.st .Part,.str],[],(.bool),[],F_l7Keyed⟩
theorem x_l7Keyed (d:Part×List UInt8):execF [e_l2Type] cy111 c111 [.t 4] [.st .Part,.str] [] (.bool) [] d=F_l7Keyed d:=Eq.trans (b:=B_l7Keyed d) (by kernel_rfl) (F_l7Keyed_eq d).symm
def B_l7First (d:List Part×List UInt8×List UInt8):Option Int:=bindD (loopO (fun (s:Int)=>condD (decide (s<(d.1.length:Int))) (gd (decide (0≤s)) (bindD d.1[s.toNat]? fun (x:Part)=>bindD (F_l2Get (x,d.2.1,d.2.2)) fun (x:Field×Bool)=>bindD (condD x.2 (condD (!x.1.far) (condD (d.2.1 == [113,117,101,114,121]) (some true) (gd (decide (0≤s)) (bindD d.1[s.toNat]? fun (x:Part)=>bindD (F_l7Keyed (x,d.2.1)) fun (x:Bool)=>some x))) (some false)) (some false)) fun (x:Bool)=>condD x (some (Sum.inr (Sum.inr s))) (gd (i64B (s+1)) (some (Sum.inl (s+1)))))) (some (Sum.inr (Sum.inl s)))) 0) fun (x:Int ⊕ Int)=>caseS x (fun d=>some (-1)) fun r=>some r
def F_l7First:List Part×List UInt8×List UInt8→Option Int:=sealD B_l7First
theorem F_l7First_eq (d:List Part×List UInt8×List UInt8):F_l7First d=B_l7First d:=congrFun (sealD_eq B_l7First) d
def e_l7First:TE:=⟨90,[.lst (.nm .Part),.str,.str],[],(.int .i64),[],F_l7First⟩
theorem x_l7First (d:List Part×List UInt8×List UInt8):execF [e_l2Get,e_l7Keyed] cy90 c90 [.t 6] [.lst (.nm .Part),.str,.str] [] (.int .i64) [] d=F_l7First d:=Eq.trans (b:=B_l7First d) (by kernel_rfl) (F_l7First_eq d).symm
def B_l7Next (d:List Part×Int×List UInt8×List UInt8):Option Int:=bindD (condD (d.2.2.1 != [113,117,101,114,121]) (gd (decide (0≤d.2.1)) (bindD d.1[d.2.1.toNat]? fun (x:Part)=>bindD (F_l7Local (x,d.2.2.1,d.2.2.2)) fun (x:Bool)=>some x)) (some false)) fun (x:Bool)=>condD x (some d.2.1) (bindD (F_l7First (d.1,d.2.2.1,d.2.2.2)) fun (x:Int)=>bindD (condD (d.2.2.1 == [113,117,101,114,121]) (some true) (some (decide (x<0)))) fun (x_1:Bool)=>condD x_1 (some x) (gd (decide (0≤x)) (bindD d.1[x.toNat]? fun (x_2:Part)=>bindD (F_l2Get (x_2,d.2.2.1,d.2.2.2)) fun (x_3:Field×Bool)=>gd (decide (0≤d.2.1)) (bindD d.1[d.2.1.toNat]? fun (x_4:Part)=>bindD (F_l7Keyed (x_4,d.2.2.1)) fun (x_5:Bool)=>condD (!x_5) (some (-1)) (bindD (loopO (fun (s:Int)=>condD (decide (s<(x_3.1.needs.length:Int))) (bindD (gd (decide (0≤d.2.1)) (bindD d.1[d.2.1.toNat]? fun (x:Part)=>gd (decide (0≤s)) (bindD x_3.1.needs[s.toNat]? fun (x_6:List UInt8)=>bindD (F_l7Local (x,d.2.2.1,x_6)) fun (x:Bool)=>condD (!x) (gd (decide (0≤s)) (bindD x_3.1.needs[s.toNat]? fun (x:List UInt8)=>bindD (F_l7First (d.1,d.2.2.1,x)) fun (x:Int)=>some (decide (x<0)))) (some false)))) fun (x:Bool)=>condD x (some (Sum.inr (Sum.inr (-1)))) (gd (i64B (s+1)) (some (Sum.inl (s+1))))) (some (Sum.inr (Sum.inl s)))) 0) fun (x_6:Int ⊕ Int)=>caseS x_6 (fun d=>some x) fun r=>some r)))))
def F_l7Next:List Part×Int×List UInt8×List UInt8→Option Int:=sealD B_l7Next
theorem F_l7Next_eq (d:List Part×Int×List UInt8×List UInt8):F_l7Next d=B_l7Next d:=congrFun (sealD_eq B_l7Next) d
def e_l7Next:TE:=⟨112,[.lst (.nm .Part),.int .i64,.str,.str],[],(.int .i64),[],F_l7Next⟩
theorem x_l7Next (d:List Part×Int×List UInt8×List UInt8):execF [e_l7Local,e_l7First,e_l2Get,e_l7Keyed] cy112 c112 [.t 8] [.lst (.nm .Part),.int .i64,.str,.str] [] (.int .i64) [] d=F_l7Next d:=Eq.trans (b:=B_l7Next d) (by kernel_rfl) (F_l7Next_eq d).symm
def B_l7Seen (d:List Stt×Stt):Option Int:=bindD (loopO (fun (s:Int)=>condD (decide (s<(d.1.length:Int))) (gd (decide (0≤s)) (bindD d.1[s.toNat]? fun (x:Stt)=>condD (x.part == d.2.part && (x.type == d.2.type && true)) (some (Sum.inr (Sum.inr s))) (gd (i64B (s+1)) (some (Sum.inl (s+1)))))) (some (Sum.inr (Sum.inl s)))) 0) fun (x:Int ⊕ Int)=>caseS x (fun d=>some (-1)) fun r=>some r
def F_l7Seen:List Stt×Stt→Option Int:=sealD B_l7Seen
theorem F_l7Seen_eq (d:List Stt×Stt):F_l7Seen d=B_l7Seen d:=congrFun (sealD_eq B_l7Seen) d
def e_l7Seen:TE:=⟨127,[.lst (.nm .Stt),.st .Stt],[],(.int .i64),[],F_l7Seen⟩
theorem x_l7Seen (d:List Stt×Stt):execF [] cy127 c127 [.t 4] [.lst (.nm .Stt),.st .Stt] [] (.int .i64) [] d=F_l7Seen d:=Eq.trans (b:=B_l7Seen d) (by kernel_rfl) (F_l7Seen_eq d).symm
def B_l7Walk_l7Go (d:List Part×Part×Int×List (List UInt8)×List Stt×List (List (List UInt8))):Option (List (List UInt8)×List Stt×List (List (List UInt8))):=gd (decide (0≤d.2.2.1) && decide (d.2.2.1<(d.2.2.2.2.1.length:Int))) (bindD d.2.2.2.2.1[d.2.2.1.toNat]? fun (x:Stt)=>bindD (F_l2Type (d.2.1,x.type)) fun (x_1:Int)=>gd (decide (0≤x_1)) (bindD d.2.1.types[x_1.toNat]? fun (x_2:Typ)=>bindD (loopO (fun (s:Int×List (List UInt8)×List Stt×List (List (List UInt8)))=>condD (decide (s.1<(x_2.fields.length:Int))) (gd (decide (0≤s.1)) (bindD x_2.fields[s.1.toNat]? fun (x_3:Field)=>condD x_3.hidden (gd (i64B (s.1+1)) (some (Sum.inl (s.1+1,s.2.1,s.2.2.1,s.2.2.2)))) (gd (decide (0≤d.2.2.1) && decide (d.2.2.1<(s.2.2.2.length:Int))) (bindD s.2.2.2[d.2.2.1.toNat]? fun (x_4:List (List UInt8))=>gd (decide (List.length x_4≤LIM)) (gd (decide (List.length x_4+List.length [x_3.name]≤LIM)) (bindD (F_l7Next (d.1,x.part,x.type,x_3.name)) fun (x:Int)=>condD (decide (x<0)) (bindD (condD ((s.2.1.length:Int) == 0) (some (x_4++[x_3.name],s.2.2.1,s.2.2.2)) (some (s.2.1,s.2.2.1,s.2.2.2))) fun (x:List (List UInt8)×List Stt×List (List (List UInt8)))=>gd (i64B (s.1+1)) (some (Sum.inl (s.1+1,x.1,x.2.1,x.2.2)))) (bindD (bindD (F_l2Scalar x_3.of) fun (x_5:Bool)=>condD (!x_5) (bindD (F_l7Seen (s.2.2.1,{ part:=x,type:=x_3.of:Stt })) fun (x:Int)=>some (decide (x<0))) (some false)) fun (x_5:Bool)=>bindD (condD x_5 (gd (decide (List.length s.2.2.1+List.length [{ part:=x,type:=x_3.of:Stt }]≤LIM)) (gd (decide (List.length s.2.2.2+List.length [x_4++[x_3.name]]≤LIM)) (some (s.2.1,s.2.2.1++[{ part:=x,type:=x_3.of:Stt }],s.2.2.2++[x_4++[x_3.name]])))) (some (s.2.1,s.2.2.1,s.2.2.2))) fun (x:List (List UInt8)×List Stt×List (List (List UInt8)))=>gd (i64B (s.1+1)) (some (Sum.inl (s.1+1,x.1,x.2.1,x.2.2)))))))))) (some (Sum.inr (s.1,s.2.1,s.2.2.1,s.2.2.2)))) (0,d.2.2.2.1,d.2.2.2.2.1,d.2.2.2.2.2)) fun (x:Int×List (List UInt8)×List Stt×List (List (List UInt8)))=>some (x.2.1,x.2.2.1,x.2.2.2)))
def F_l7Walk_l7Go:List Part×Part×Int×List (List UInt8)×List Stt×List (List (List UInt8))→Option (List (List UInt8)×List Stt×List (List (List UInt8))):=sealD B_l7Walk_l7Go
theorem F_l7Walk_l7Go_eq (d:List Part×Part×Int×List (List UInt8)×List Stt×List (List (List UInt8))):F_l7Walk_l7Go d=B_l7Walk_l7Go d:=congrFun (sealD_eq B_l7Walk_l7Go) d
def e_l7Walk_l7Go:TE:=⟨117,[.mpb 0 0,.lst (.nm .Part),.st .Part,.int .i64],[.box ⟨none,[some ((.lst (.nm .Stt)),.no),some ((.lst (.lst .str)),.no),some ((.lst .str),.no)]⟩ [.own 1,.own 2,.lst .str],.arr (.nm .Stt) .no,.arr (.lst .str) .no],(.tup []),[.box ⟨none,[some ((.lst (.nm .Stt)),.no),some ((.lst (.lst .str)),.no),some ((.lst .str),.no)]⟩ [.own 3,.own 4,.lst .str],.dead,.dead,.arr (.nm .Stt) .no,.arr (.lst .str) .no],F_l7Walk_l7Go⟩
theorem x_l7Walk_l7Go (d:List Part×Part×Int×List (List UInt8)×List Stt×List (List (List UInt8))):execF [e_l2Type,e_l7Next,e_l2Scalar,e_l7Seen] cy117 c117 [] [.mpb 0 0,.lst (.nm .Part),.st .Part,.int .i64] [.box ⟨none,[some ((.lst (.nm .Stt)),.no),some ((.lst (.lst .str)),.no),some ((.lst .str),.no)]⟩ [.own 1,.own 2,.lst .str],.arr (.nm .Stt) .no,.arr (.lst .str) .no] (.tup []) [.box ⟨none,[some ((.lst (.nm .Stt)),.no),some ((.lst (.lst .str)),.no),some ((.lst .str),.no)]⟩ [.own 3,.own 4,.lst .str],.dead,.dead,.arr (.nm .Stt) .no,.arr (.lst .str) .no] d=F_l7Walk_l7Go d:=Eq.trans (b:=B_l7Walk_l7Go d) (by kernel_rfl) (F_l7Walk_l7Go_eq d).symm
def B_l7All (d:List Part×Part):Option (List (List UInt8)×List Stt×List (List (List UInt8))):=bindD (loopO (fun (s:Int×List (List UInt8)×List Stt×List (List (List UInt8)))=>condD (decide (s.1<(s.2.2.1.length:Int))) (bindD (F_l7Walk_l7Go (d.1,d.2,s.1,s.2.1,s.2.2.1,s.2.2.2)) fun (x:List (List UInt8)×List Stt×List (List (List UInt8)))=>gd (i64B (s.1+1)) (some (Sum.inl (s.1+1,x.1,x.2.1,x.2.2)))) (some (Sum.inr (s.1,s.2.1,s.2.2.1,s.2.2.2)))) (0,[],[{ part:=0,type:=[113,117,101,114,121]:Stt }],[[]])) fun (x:Int×List (List UInt8)×List Stt×List (List (List UInt8)))=>some (x.2.1,x.2.2.1,x.2.2.2)
def F_l7All:List Part×Part→Option (List (List UInt8)×List Stt×List (List (List UInt8))):=sealD B_l7All
theorem F_l7All_eq (d:List Part×Part):F_l7All d=B_l7All d:=congrFun (sealD_eq B_l7All) d
def e_l7All:TE:=⟨97,[.lst (.nm .Part),.st .Part],[],(.mpb 0 0),[.box ⟨none,[some ((.lst (.nm .Stt)),.no),some ((.lst (.lst .str)),.no),some ((.lst .str),.no)]⟩ [.own 1,.own 2,.lst .str],.arr (.nm .Stt) .no,.arr (.lst .str) .no],F_l7All⟩
theorem x_l7All (d:List Part×Part):execF [e_l7Walk_l7Go] cy97 c97 [.t 4] [.lst (.nm .Part),.st .Part] [] (.mpb 0 0) [.box ⟨none,[some ((.lst (.nm .Stt)),.no),some ((.lst (.lst .str)),.no),some ((.lst .str),.no)]⟩ [.own 1,.own 2,.lst .str],.arr (.nm .Stt) .no,.arr (.lst .str) .no] d=F_l7All d:=Eq.trans (b:=B_l7All d) (by kernel_rfl) (F_l7All_eq d).symm
def B_ReachOk (d:List Part):Option (Bool×List (List UInt8)):=bindD (F_ChartMake d) fun (x:Chart×CFault)=>condD (x.2.code != 0) (some (false,[])) (bindD (F_l7All (d,{ name:=x.1.all.name,types:=x.1.all.types:Part })) fun (x:List (List UInt8)×List Stt×List (List (List UInt8)))=>gd (decide (List.length x.1≤LIM)) (some ((x.1.length:Int) == 0,x.1)))
def F_ReachOk:List Part→Option (Bool×List (List UInt8)):=sealD B_ReachOk
theorem F_ReachOk_eq (d:List Part):F_ReachOk d=B_ReachOk d:=congrFun (sealD_eq B_ReachOk) d
def e_ReachOk:TE:=⟨81,[.lst (.nm .Part)],[],(.tup [.bool,.lst .str]),[],F_ReachOk⟩
theorem x_ReachOk (d:List Part):execF [e_ChartMake,e_l7All] cy81 c81 [.t 2,.t 3] [.lst (.nm .Part)] [] (.tup [.bool,.lst .str]) [] d=F_ReachOk d:=Eq.trans (b:=B_ReachOk d) (by kernel_rfl) (F_ReachOk_eq d).symm
def B_l11Known (d:List Int×Int):Option (List Part×List Int×Int):=bindD (loopO (fun (s:Int×List Int×Int)=>condD (decide (s.1<6)) (bindD (F_l11Parts (s.2.1,s.2.2)) fun (x:List Part×List Int×Int)=>bindD (F_ReachOk x.1) fun (x_1:Bool×List (List UInt8))=>condD x_1.1 (some (Sum.inr (Sum.inr (x.1,x.2.1,x.2.2)))) (gd (i64B (s.1+1)) (some (Sum.inl (s.1+1,x.2.1,x.2.2))))) (some (Sum.inr (Sum.inl (s.1,s.2.1,s.2.2))))) (0,d.1,d.2)) fun (x:Int×List Int×Int ⊕ List Part×List Int×Int)=>caseS x (fun d=>some ([{ name:=[101,97,115,116],types:=[{ name:=[113,117,101,114,121],key:=[],fields:=[{ name:=[117,115,101,114,115],of:=[117,115,101,114],list:=true,must:=false,far:=false,hidden:=false,shared:=false,needs:=[]:Field }]:Typ },{name:=[117,115,101,114],key:=[105,100],fields:=[{ name:=[105,100],of:=[105,110,116],list:=false,must:=true,far:=false,hidden:=false,shared:=false,needs:=[]:Field },{name:=[110,97,109,101],of:=[116,101,120,116],list:=false,must:=false,far:=false,hidden:=false,shared:=false,needs:=[]:Field }]:Typ }]:Part }],d.2.1,d.2.2)) fun r=>some r
def F_l11Known:List Int×Int→Option (List Part×List Int×Int):=sealD B_l11Known
theorem F_l11Known_eq (d:List Int×Int):F_l11Known d=B_l11Known d:=congrFun (sealD_eq B_l11Known) d
def e_l11Known:TE:=⟨67,[.mpb 0 0],[.box ⟨none,[some ((.lst (.int .u8)),.no),some ((.int .i64),.no)]⟩ [.lst (.int .u8),.int .i64]],(.lst (.nm .Part)),[.box ⟨none,[some ((.lst (.int .u8)),.no),some ((.int .i64),.no)]⟩ [.lst (.int .u8),.int .i64]],F_l11Known⟩
theorem x_l11Known (d:List Int×Int):execF [e_l11Parts,e_ReachOk] cy67 c67 [.t 2] [.mpb 0 0] [.box ⟨none,[some ((.lst (.int .u8)),.no),some ((.int .i64),.no)]⟩ [.lst (.int .u8),.int .i64]] (.lst (.nm .Part)) [.box ⟨none,[some ((.lst (.int .u8)),.no),some ((.int .i64),.no)]⟩ [.lst (.int .u8),.int .i64]] d=F_l11Known d:=Eq.trans (b:=B_l11Known d) (by kernel_rfl) (F_l11Known_eq d).symm
def B_l11All (d:List Part):Option Part:=bindD (F_ChartMake d) fun (x:Chart×CFault)=>condD (x.2.code != 0) (bindD (F_l11Fields ()) fun (x:List Typ)=>some { name:=[97,108,108],types:=x:Part }) (some { name:=x.1.all.name,types:=x.1.all.types:Part })
def F_l11All:List Part→Option Part:=sealD B_l11All
theorem F_l11All_eq (d:List Part):F_l11All d=B_l11All d:=congrFun (sealD_eq B_l11All) d
def e_l11All:TE:=⟨69,[.lst (.nm .Part)],[],(.st .Part),[],F_l11All⟩
theorem x_l11All (d:List Part):execF [e_ChartMake,e_l11Fields] cy69 c69 [.c 2 (some 2)] [.lst (.nm .Part)] [] (.st .Part) [] d=F_l11All d:=Eq.trans (b:=B_l11All d) (by kernel_rfl) (F_l11All_eq d).symm
def B_l1Rd_of (d:List (List UInt8)×List Int×Int):Option (List UInt8×List Int×Int):=bindD (F_l1Rd_pick ((d.1.length:Int),d.2.1,d.2.2)) fun (x:Int×List Int×Int)=>gd (decide (0≤x.1)) (bindD d.1[x.1.toNat]? fun (x_1:List UInt8)=>some (x_1,x.2.1,x.2.2))
def F_l1Rd_of:List (List UInt8)×List Int×Int→Option (List UInt8×List Int×Int):=sealD B_l1Rd_of
theorem F_l1Rd_of_eq (d:List (List UInt8)×List Int×Int):F_l1Rd_of d=B_l1Rd_of d:=congrFun (sealD_eq B_l1Rd_of) d
def e_l1Rd_of:TE:=⟨99,[.mpb 0 0,.lst .str],[.box ⟨none,[some ((.lst (.int .u8)),.no),some ((.int .i64),.no)]⟩ [.lst (.int .u8),.int .i64]],(.str),[.box ⟨none,[some ((.lst (.int .u8)),.no),some ((.int .i64),.no)]⟩ [.lst (.int .u8),.int .i64]],F_l1Rd_of⟩
theorem x_l1Rd_of (d:List (List UInt8)×List Int×Int):execF [e_l1Rd_pick] cy99 c99 [.t 4] [.mpb 0 0,.lst .str] [.box ⟨none,[some ((.lst (.int .u8)),.no),some ((.int .i64),.no)]⟩ [.lst (.int .u8),.int .i64]] (.str) [.box ⟨none,[some ((.lst (.int .u8)),.no),some ((.int .i64),.no)]⟩ [.lst (.int .u8),.int .i64]] d=F_l1Rd_of d:=Eq.trans (b:=B_l1Rd_of d) (by kernel_rfl) (F_l1Rd_of_eq d).symm
def B_l3Key (d:Sel):Option (List UInt8):=condD (Sel.as d != []) (some (Sel.as d)) (some (Sel.name d))
def F_l3Key:Sel→Option (List UInt8):=sealD B_l3Key
theorem F_l3Key_eq (d:Sel):F_l3Key d=B_l3Key d:=congrFun (sealD_eq B_l3Key) d
def e_l3Key:TE:=⟨101,[.st .Sel],[],(.str),[],F_l3Key⟩
theorem x_l3Key (d:Sel):execF [] cy101 c101 [.t 2] [.st .Sel] [] (.str) [] d=F_l3Key d:=Eq.trans (b:=B_l3Key d) (by kernel_rfl) (F_l3Key_eq d).symm
def F_l11Sels:Nat→Part×List UInt8×Int×List Int×Int→Option (List Sel×List Int×Int) | 0,_=>none | n+1,d=>bindD (F_l2Type (d.1,d.2.1)) fun (x:Int)=>bindD (condD (decide (x<0)) (some true) (some (decide (d.2.2.1>5)))) fun (x_1:Bool)=>condD x_1 (some ([],d.2.2.2.1,d.2.2.2.2)) (gd (decide (0≤x)) (bindD d.1.types[x.toNat]? fun (x:Typ)=>bindD (F_l1Rd_pick (3,d.2.2.2.1,d.2.2.2.2)) fun (x_2:Int×List Int×Int)=>gd (i64B (1+x_2.1)) (bindD (loopO (fun (s:Int×(List Int×Int)×List Sel)=>condD (decide (s.1>0)) (bindD (F_l1Rd_pick ((x.fields.length:Int),s.2.1.1,s.2.1.2)) fun (x_3:Int×List Int×Int)=>gd (decide (0≤x_3.1)) (bindD x.fields[x_3.1.toNat]? fun (x:Field)=>bindD (F_l1Rd_pick (5,x_3.2.1,x_3.2.2)) fun (x_4:Int×List Int×Int)=>bindD (condD (x_4.1 == 0) (bindD (F_l1Rd_of ([[97],[98],[99]],x_4.2.1,x_4.2.2)) fun (x_5:List UInt8×List Int×Int)=>some ((x_5.2.1,x_5.2.2),s.2.2,x_5.1,x.name,false,0,[])) (some ((x_4.2.1,x_4.2.2),s.2.2,[],x.name,false,0,[]))) fun (x_5:(List Int×Int)×List Sel×List UInt8×List UInt8×Bool×Int×List Sel)=>bindD (F_l2Scalar x.of) fun (x_6:Bool)=>bindD (condD (!x_6) (gd (i64B (d.2.2.1+1)) (bindD (F_l11Sels n (d.1,x.of,d.2.2.1+1,x_5.1.1,x_5.1.2)) fun (x_7:List Sel×List Int×Int)=>condD ((x_7.1.length:Int) == 0) (bindD (gd (i64B (s.1 - 1)) (some (Sum.inl (s.1 - 1,(x_7.2.1,x_7.2.2),x_5.2.1)))) fun (x:Int×(List Int×Int)×List Sel ⊕ Int×(List Int×Int)×List Sel)=>some (Sum.inr x)) (bindD (condD (d.2.1 == [113,117,101,114,121]) (condD (!x.list) (bindD (F_l1Rd_pick (2,x_7.2.1,x_7.2.2)) fun (x:Int×List Int×Int)=>some (x.1 == 0,(x.2.1,x.2.2),x_5.2.1,x_5.2.2.1,x_5.2.2.2.1,x_5.2.2.2.2.1,x_5.2.2.2.2.2.1,x_7.1)) (some (false,(x_7.2.1,x_7.2.2),x_5.2.1,x_5.2.2.1,x_5.2.2.2.1,x_5.2.2.2.2.1,x_5.2.2.2.2.2.1,x_7.1))) (some (false,(x_7.2.1,x_7.2.2),x_5.2.1,x_5.2.2.1,x_5.2.2.2.1,x_5.2.2.2.2.1,x_5.2.2.2.2.2.1,x_7.1))) fun (x:Bool×(List Int×Int)×List Sel×List UInt8×List UInt8×Bool×Int×List Sel)=>bindD (condD x.1 (bindD (F_l1Rd_pick (5,x.2.1.1,x.2.1.2)) fun (x_8:Int×List Int×Int)=>some ((x_8.2.1,x_8.2.2),x.2.2.1,x.2.2.2.1,x.2.2.2.2.1,true,x_8.1,x.2.2.2.2.2.2.2)) (some ((x.2.1.1,x.2.1.2),x.2.2.1,x.2.2.2.1,x.2.2.2.2.1,x.2.2.2.2.2.1,x.2.2.2.2.2.2.1,x.2.2.2.2.2.2.2))) fun (x:(List Int×Int)×List Sel×List UInt8×List UInt8×Bool×Int×List Sel)=>some (Sum.inl ((x.1.1,x.1.2),x.2.1,x.2.2.1,x.2.2.2.1,x.2.2.2.2.1,x.2.2.2.2.2.1,x.2.2.2.2.2.2))))) (some (Sum.inl ((x_5.1.1,x_5.1.2),x_5.2.1,x_5.2.2.1,x_5.2.2.2.1,x_5.2.2.2.2.1,x_5.2.2.2.2.2.1,x_5.2.2.2.2.2.2)))) fun (x_7:(List Int×Int)×List Sel×List UInt8×List UInt8×Bool×Int×List Sel ⊕ Int×(List Int×Int)×List Sel ⊕ Int×(List Int×Int)×List Sel)=>caseS x_7 (fun d=>bindD (condD x.hidden (bindD (F_l1Rd_pick (8,d.1.1,d.1.2)) fun (x:Int×List Int×Int)=>some (decide (x.1>0),(x.2.1,x.2.2),d.2.1,d.2.2.1,d.2.2.2.1,d.2.2.2.2.1,d.2.2.2.2.2.1,d.2.2.2.2.2.2)) (some (false,(d.1.1,d.1.2),d.2.1,d.2.2.1,d.2.2.2.1,d.2.2.2.2.1,d.2.2.2.2.2.1,d.2.2.2.2.2.2))) fun (x:Bool×(List Int×Int)×List Sel×List UInt8×List UInt8×Bool×Int×List Sel)=>condD x.1 (gd (i64B (s.1 - 1)) (some (Sum.inl (s.1 - 1,(x.2.1.1,x.2.1.2),x.2.2.1)))) (bindD (loopO (fun (s:Bool×Int)=>condD (decide (s.2<(x.2.2.1.length:Int))) (bindD (condD s.1 (some true) (gd (decide (0≤s.2) && decide (s.2<(x.2.2.1.length:Int))) (bindD x.2.2.1[s.2.toNat]? fun (x_8:Sel)=>bindD (F_l3Key x_8) fun (x_9:List UInt8)=>bindD (F_l3Key (Sel.mk x.2.2.2.1 x.2.2.2.2.1 x.2.2.2.2.2.1 x.2.2.2.2.2.2.1 x.2.2.2.2.2.2.2)) fun (x:List UInt8)=>some (x_9 == x)))) fun (x:Bool)=>gd (i64B (s.2+1)) (some (Sum.inl (x,s.2+1)))) (some (Sum.inr (s.1,s.2)))) (false,0)) fun (x_8:Bool×Int)=>bindD (condD (!x_8.1) (some (x.2.2.2.1 != x.2.2.2.2.1)) (some false)) fun (x_9:Bool)=>bindD (condD x_9 (gd (decide (List.length x.2.2.1+List.length [Sel.mk x.2.2.2.1 x.2.2.2.2.1 x.2.2.2.2.2.1 x.2.2.2.2.2.2.1 x.2.2.2.2.2.2.2]≤LIM)) (some ((x.2.1.1,x.2.1.2),x.2.2.1++[Sel.mk x.2.2.2.1 x.2.2.2.2.1 x.2.2.2.2.2.1 x.2.2.2.2.2.2.1 x.2.2.2.2.2.2.2]))) (some ((x.2.1.1,x.2.1.2),x.2.2.1))) fun (x:(List Int×Int)×List Sel)=>gd (i64B (s.1 - 1)) (some (Sum.inl (s.1 - 1,(x.1.1,x.1.2),x.2))))) fun r=>some r)) (some (Sum.inr (s.1,(s.2.1.1,s.2.1.2),s.2.2)))) (1+x_2.1,(x_2.2.1,x_2.2.2),[])) fun (x:Int×(List Int×Int)×List Sel)=>some (x.2.2,x.2.1.1,x.2.1.2))))
def L_l11Sels:Part×List UInt8×Int×List Int×Int→Option (List Sel×List Int×Int):=limF F_l11Sels
def e_l11Sels (n:Nat):TE:=⟨82,[.mpb 0 0,.st .Part,.str,.int .i64],[.box ⟨none,[some ((.lst (.int .u8)),.no),some ((.int .i64),.no)]⟩ [.lst (.int .u8),.int .i64]],(.lst (.nm .Sel)),[.box ⟨none,[some ((.lst (.int .u8)),.no),some ((.int .i64),.no)]⟩ [.lst (.int .u8),.int .i64]],F_l11Sels n⟩
def l_l11Sels:TE:=⟨82,[.mpb 0 0,.st .Part,.str,.int .i64],[.box ⟨none,[some ((.lst (.int .u8)),.no),some ((.int .i64),.no)]⟩ [.lst (.int .u8),.int .i64]],(.lst (.nm .Sel)),[.box ⟨none,[some ((.lst (.int .u8)),.no),some ((.int .i64),.no)]⟩ [.lst (.int .u8),.int .i64]],L_l11Sels⟩
theorem x_l11Sels (n:Nat)(d:Part×List UInt8×Int×List Int×Int):execF [e_l2Type,e_l1Rd_pick,e_l1Rd_of,e_l2Scalar,e_l11Sels n,e_l3Key] cy82 c82 [.t 8] [.mpb 0 0,.st .Part,.str,.int .i64] [.box ⟨none,[some ((.lst (.int .u8)),.no),some ((.int .i64),.no)]⟩ [.lst (.int .u8),.int .i64]] (.lst (.nm .Sel)) [.box ⟨none,[some ((.lst (.int .u8)),.no),some ((.int .i64),.no)]⟩ [.lst (.int .u8),.int .i64]] d=F_l11Sels (n+1) d:=by kernel_rfl
def F_l3Ok:Nat→List Sel×Int×Int→Option Int | 0,_=>none | n+1,d=>bindD (condD (decide ((d.1.length:Int)>0)) (some (decide (d.2.1>5))) (some false)) fun (x:Bool)=>condD x (some (-1)) (bindD (loopO (fun (s:Int×Int)=>bindD (condD (decide (s.2<(d.1.length:Int))) (some (decide (s.1≥0))) (some false)) fun (x:Bool)=>condD x (gd (decide (0≤s.2)) (bindD d.1[s.2.toNat]? fun (x:Sel)=>bindD (bindD (F_l2Name (Sel.name x)) fun (x_1:Bool)=>condD (!x_1) (some true) (condD (Sel.as x != []) (bindD (F_l2Name (Sel.as x)) fun (x_2:Bool)=>condD (!x_2) (some true) (condD (Sel.as x == Sel.name x) (some true) (condD (!Sel.one x) (condD (Sel.id x != 0) (some true) (bindD (F_l1In (Sel.id x,0,999999)) fun (x:Bool)=>some !x)) (bindD (F_l1In (Sel.id x,0,999999)) fun (x:Bool)=>some !x)))) (condD (!Sel.one x) (condD (Sel.id x != 0) (some true) (bindD (F_l1In (Sel.id x,0,999999)) fun (x:Bool)=>some !x)) (bindD (F_l1In (Sel.id x,0,999999)) fun (x:Bool)=>some !x)))) fun (x_1:Bool)=>condD x_1 (some (Sum.inr (Sum.inr (-1)))) (bindD (loopO (fun (s_1:Int)=>condD (decide (s_1<s.2)) (gd (decide (0≤s_1)) (bindD d.1[s_1.toNat]? fun (x_2:Sel)=>bindD (F_l3Key x_2) fun (x_3:List UInt8)=>bindD (F_l3Key (Sel.mk (Sel.as x) (Sel.name x) (Sel.one x) (Sel.id x) (Sel.kids x))) fun (x:List UInt8)=>condD (x_3 == x) (some (Sum.inr (Sum.inr (Sum.inr (Sum.inr (-1)))))) (gd (i64B (s_1+1)) (some (Sum.inl (s_1+1)))))) (some (Sum.inr (Sum.inl s_1)))) 0) fun (x_2:Int ⊕ Int×Int ⊕ Int×Int ⊕ Int)=>caseS x_2 (fun d_1=>gd (i64B (d.2.1+1)) (gd (i64B (s.1 - 1)) (bindD (F_l3Ok n (Sel.kids x,d.2.1+1,s.1 - 1)) fun (x:Int)=>gd (i64B (s.2+1)) (some (Sum.inl (x,s.2+1)))))) fun r=>some r))) (some (Sum.inr (Sum.inl (s.1,s.2))))) (d.2.2,0)) fun (x:Int×Int ⊕ Int)=>caseS x (fun d=>some d.1) fun r=>some r)
def L_l3Ok:List Sel×Int×Int→Option Int:=limF F_l3Ok
def e_l3Ok (n:Nat):TE:=⟨102,[.lst (.nm .Sel),.int .i64,.int .i64],[],(.int .i64),[],F_l3Ok n⟩
def l_l3Ok:TE:=⟨102,[.lst (.nm .Sel),.int .i64,.int .i64],[],(.int .i64),[],L_l3Ok⟩
theorem x_l3Ok (n:Nat)(d:List Sel×Int×Int):execF [e_l2Name,e_l1In,e_l3Key,e_l3Ok n] cy102 c102 [.t 6] [.lst (.nm .Sel),.int .i64,.int .i64] [] (.int .i64) [] d=F_l3Ok (n+1) d:=by kernel_rfl
def F_l3Write:Nat→List Sel→Option (List UInt8) | 0,_=>none | n+1,d=>bindD (loopO (fun (s:List UInt8×Int)=>condD (decide (s.2<(d.length:Int))) (gd (decide (0≤s.2)) (bindD d[s.2.toNat]? fun (x:Sel)=>bindD (condD (decide (s.2>0)) (gd (decide (List.length s.1+List.length [44]≤BIG)) (some (s.1++[44]))) (some s.1)) fun (x_1:List UInt8)=>bindD (condD (Sel.as x != []) (gd (decide (List.length x_1+List.length (Sel.as x)≤BIG)) (gd (decide (List.length (x_1++Sel.as x)+List.length [58]≤BIG)) (some (x_1++Sel.as x++[58])))) (some x_1)) fun (x_2:List UInt8)=>gd (decide (List.length x_2+List.length (Sel.name x)≤BIG)) (bindD (condD (Sel.one x) (gd (decide (List.length (x_2++Sel.name x)+List.length [40]≤BIG)) (bindD (L_l1Dec (Sel.id x)) fun (x_3:List UInt8)=>gd (decide (List.length (x_2++Sel.name x++[40])+List.length x_3≤BIG)) (gd (decide (List.length (x_2++Sel.name x++[40]++x_3)+List.length [41]≤BIG)) (some (x_2++Sel.name x++[40]++x_3++[41]))))) (some (x_2++Sel.name x))) fun (x_3:List UInt8)=>bindD (condD (decide ((↑(List.length (Sel.kids x)):Int)>0)) (bindD (F_l3Write n (Sel.kids x)) fun (x:List UInt8)=>gd (decide (List.length x_3+List.length x≤BIG)) (some (x_3++x))) (some x_3)) fun (x:List UInt8)=>gd (i64B (s.2+1)) (some (Sum.inl (x,s.2+1)))))) (some (Sum.inr (s.1,s.2)))) ([123],0)) fun (x:List UInt8×Int)=>gd (decide (List.length x.1+List.length [125]≤BIG)) (some (x.1++[125]))
def L_l3Write:List Sel→Option (List UInt8):=limF F_l3Write
def e_l3Write (n:Nat):TE:=⟨103,[.lst (.nm .Sel)],[],(.str),[],F_l3Write n⟩
def l_l3Write:TE:=⟨103,[.lst (.nm .Sel)],[],(.str),[],L_l3Write⟩
theorem x_l3Write (n:Nat)(d:List Sel):execF [l_l1Dec,e_l3Write n] cy103 c103 [.t 2] [.lst (.nm .Sel)] [] (.str) [] d=F_l3Write (n+1) d:=by kernel_rfl
def B_AskOk (d:List Sel):Option Bool:=bindD (condD (decide ((d.length:Int)>0)) (bindD (L_l3Ok (d,1,24)) fun (x:Int)=>condD (decide (x≥0)) (bindD (L_l3Write d) fun (x:List UInt8)=>some (decide ((x.length:Int)≤400))) (some false)) (some false)) fun (x:Bool)=>some x
def F_AskOk:List Sel→Option Bool:=sealD B_AskOk
theorem F_AskOk_eq (d:List Sel):F_AskOk d=B_AskOk d:=congrFun (sealD_eq B_AskOk) d
def e_AskOk:TE:=⟨83,[.lst (.nm .Sel)],[],(.bool),[],F_AskOk⟩
theorem x_AskOk (d:List Sel):execF [l_l3Ok,l_l3Write] cy83 c83 [.t 2] [.lst (.nm .Sel)] [] (.bool) [] d=F_AskOk d:=Eq.trans (b:=B_AskOk d) (by kernel_rfl) (F_AskOk_eq d).symm
def F_l3Check:Nat→Part×List UInt8×List Sel×List (List UInt8)→Option AFault | 0,_=>none | n+1,d=>bindD (loopO (fun (s:Int×Int×List (List UInt8))=>condD (decide (s.1<(d.2.2.1.length:Int))) (gd (decide (0≤s.1)) (bindD d.2.2.1[s.1.toNat]? fun (x:Sel)=>gd (decide (List.length d.2.2.2≤LIM)) (bindD (F_l3Key (Sel.mk (Sel.as x) (Sel.name x) (Sel.one x) (Sel.id x) (Sel.kids x))) fun (x_1:List UInt8)=>gd (decide (List.length d.2.2.2+List.length [x_1]≤LIM)) (bindD (F_l2Get (d.1,d.2.1,Sel.name x)) fun (x_2:Field×Bool)=>bindD (F_l2Scalar x_2.1.of) fun (x_3:Bool)=>bindD (condD (!x_2.2) (some true) (some x_2.1.hidden)) fun (x_4:Bool)=>condD x_4 (some (Sum.inr (Sum.inr { way:=d.2.2.2++[x_1],code:=1:AFault }))) (bindD (condD x_3 (some (decide ((↑(List.length (Sel.kids x)):Int)>0))) (some false)) fun (x_5:Bool)=>condD x_5 (some (Sum.inr (Sum.inr { way:=d.2.2.2++[x_1],code:=2:AFault }))) (bindD (condD (!x_3) (some ((↑(List.length (Sel.kids x)):Int) == 0)) (some false)) fun (x_6:Bool)=>condD x_6 (some (Sum.inr (Sum.inr { way:=d.2.2.2++[x_1],code:=3:AFault }))) (bindD (condD (Sel.one x) (condD x_3 (some true) (condD x_2.1.list (some true) (some (d.2.1 != [113,117,101,114,121])))) (some false)) fun (x_7:Bool)=>condD x_7 (some (Sum.inr (Sum.inr { way:=d.2.2.2++[x_1],code:=4:AFault }))) (bindD (F_l3Check n (d.1,x_2.1.of,Sel.kids x,d.2.2.2++[x_1])) fun (x:AFault)=>condD (x.code != 0) (some (Sum.inr (Sum.inr x))) (gd (i64B (s.1+1)) (some (Sum.inl (s.1+1,s.2.1,s.2.2)))))))))))) (some (Sum.inr (Sum.inl (s.1,s.2.1,s.2.2))))) (0,0,[])) fun (x:Int×Int×List (List UInt8) ⊕ AFault)=>caseS x (fun d=>some { way:=[],code:=0:AFault }) fun r=>some r
def L_l3Check:Part×List UInt8×List Sel×List (List UInt8)→Option AFault:=limF F_l3Check
def e_l3Check (n:Nat):TE:=⟨89,[.st .Part,.str,.lst (.nm .Sel),.lst .str],[],(.st .AFault),[],F_l3Check n⟩
def l_l3Check:TE:=⟨89,[.st .Part,.str,.lst (.nm .Sel),.lst .str],[],(.st .AFault),[],L_l3Check⟩
theorem x_l3Check (n:Nat)(d:Part×List UInt8×List Sel×List (List UInt8)):execF [e_l3Key,e_l2Get,e_l2Scalar,e_l3Check n] cy89 c89 [.c 8 (some 2)] [.st .Part,.str,.lst (.nm .Sel),.lst .str] [] (.st .AFault) [] d=F_l3Check (n+1) d:=by kernel_rfl
def B_AskCheck (d:Part×List Sel):Option AFault:=bindD (bindD (F_PartCheck d.1) fun (x:PFault)=>condD (x.code != 0) (some true) (bindD (F_AskOk d.2) fun (x:Bool)=>some !x)) fun (x:Bool)=>condD x (some { way:=[],code:=1:AFault }) (bindD (L_l3Check (d.1,[113,117,101,114,121],d.2,[])) fun (x:AFault)=>gd (decide (0+List.length x.way≤LIM)) (some x))
def F_AskCheck:Part×List Sel→Option AFault:=sealD B_AskCheck
theorem F_AskCheck_eq (d:Part×List Sel):F_AskCheck d=B_AskCheck d:=congrFun (sealD_eq B_AskCheck) d
def e_AskCheck:TE:=⟨71,[.st .Part,.lst (.nm .Sel)],[],(.st .AFault),[],F_AskCheck⟩
theorem x_AskCheck (d:Part×List Sel):execF [e_PartCheck,e_AskOk,l_l3Check] cy71 c71 [.c 4 (some 2)] [.st .Part,.lst (.nm .Sel)] [] (.st .AFault) [] d=F_AskCheck d:=Eq.trans (b:=B_AskCheck d) (by kernel_rfl) (F_AskCheck_eq d).symm
def B_l11Ask (d:Part×List Int×Int):Option (List Sel×List Int×Int):=bindD (L_l11Sels (d.1,[113,117,101,114,121],1,d.2.1,d.2.2)) fun (x:List Sel×List Int×Int)=>bindD (loopO (fun (s:List Sel×Int×List Int×Int)=>bindD (condD (decide (s.2.1<4)) (bindD (F_AskOk s.1) fun (x:Bool)=>condD (!x) (some true) (bindD (F_AskCheck (d.1,s.1)) fun (x:AFault)=>some (x.code != 0))) (some false)) fun (x:Bool)=>condD x (bindD (L_l11Sels (d.1,[113,117,101,114,121],1,s.2.2.1,s.2.2.2)) fun (x:List Sel×List Int×Int)=>gd (i64B (s.2.1+1)) (some (Sum.inl (x.1,s.2.1+1,x.2.1,x.2.2)))) (some (Sum.inr (s.1,s.2.1,s.2.2.1,s.2.2.2)))) (x.1,0,x.2.1,x.2.2)) fun (x:List Sel×Int×List Int×Int)=>bindD (F_AskOk x.1) fun (x_1:Bool)=>condD (!x_1) (bindD d.1.types[Int.toNat 0]? fun (x_2:Typ)=>bindD x_2.fields[Int.toNat 0]? fun (x_3:Field)=>some ([Sel.mk [] x_3.name false 0 []],x.2.2.1,x.2.2.2)) (some (x.1,x.2.2.1,x.2.2.2))
def F_l11Ask:Part×List Int×Int→Option (List Sel×List Int×Int):=sealD B_l11Ask
theorem F_l11Ask_eq (d:Part×List Int×Int):F_l11Ask d=B_l11Ask d:=congrFun (sealD_eq B_l11Ask) d
def e_l11Ask:TE:=⟨68,[.mpb 0 0,.st .Part],[.box ⟨none,[some ((.lst (.int .u8)),.no),some ((.int .i64),.no)]⟩ [.lst (.int .u8),.int .i64]],(.lst (.nm .Sel)),[.box ⟨none,[some ((.lst (.int .u8)),.no),some ((.int .i64),.no)]⟩ [.lst (.int .u8),.int .i64]],F_l11Ask⟩
theorem x_l11Ask (d:Part×List Int×Int):execF [l_l11Sels,e_AskOk,e_AskCheck] cy68 c68 [.t 4] [.mpb 0 0,.st .Part] [.box ⟨none,[some ((.lst (.int .u8)),.no),some ((.int .i64),.no)]⟩ [.lst (.int .u8),.int .i64]] (.lst (.nm .Sel)) [.box ⟨none,[some ((.lst (.int .u8)),.no),some ((.int .i64),.no)]⟩ [.lst (.int .u8),.int .i64]] d=F_l11Ask d:=Eq.trans (b:=B_l11Ask d) (by kernel_rfl) (F_l11Ask_eq d).symm
def B_l11Trip (d:List Int×Int):Option ((List Part×List Sel)×List Int×Int):=bindD (F_l11Known (d.1,d.2)) fun (x:List Part×List Int×Int)=>bindD (F_l11All x.1) fun (x_1:Part)=>bindD (F_l11Ask (x_1,x.2.1,x.2.2)) fun (x_2:List Sel×List Int×Int)=>some ((x.1,x_2.1),x_2.2.1,x_2.2.2)
def F_l11Trip:List Int×Int→Option ((List Part×List Sel)×List Int×Int):=sealD B_l11Trip
theorem F_l11Trip_eq (d:List Int×Int):F_l11Trip d=B_l11Trip d:=congrFun (sealD_eq B_l11Trip) d
def e_l11Trip:TE:=⟨49,[.mpb 0 0],[.box ⟨none,[some ((.lst (.int .u8)),.no),some ((.int .i64),.no)]⟩ [.lst (.int .u8),.int .i64]],(.tup [.lst (.nm .Part),.lst (.nm .Sel)]),[.box ⟨none,[some ((.lst (.int .u8)),.no),some ((.int .i64),.no)]⟩ [.lst (.int .u8),.int .i64]],F_l11Trip⟩
theorem x_l11Trip (d:List Int×Int):execF [e_l11Known,e_l11All,e_l11Ask] cy49 c49 [.t 2,.t 3] [.mpb 0 0] [.box ⟨none,[some ((.lst (.int .u8)),.no),some ((.int .i64),.no)]⟩ [.lst (.int .u8),.int .i64]] (.tup [.lst (.nm .Part),.lst (.nm .Sel)]) [.box ⟨none,[some ((.lst (.int .u8)),.no),some ((.int .i64),.no)]⟩ [.lst (.int .u8),.int .i64]] d=F_l11Trip d:=Eq.trans (b:=B_l11Trip d) (by kernel_rfl) (F_l11Trip_eq d).symm
def B_l8Plan_step (d:Int×List (List UInt8)×List UInt8×List Int×(List Part×List UInt8×List Typ×Bool)×List Stp):Option (Int×(List Part×List UInt8×List Typ×Bool)×List Stp):=gd (decide (List.length d.2.1≤LIM)) (gd (decide (List.length d.2.2.2.1≤LIM)) (gd (decide (List.length d.2.2.2.2.2+List.length [{ part:=d.1,way:=d.2.1,type:=d.2.2.1,sels:=[],after:=d.2.2.2.1,brings:=[]:Stp }]≤LIM)) (gd (i64B ((↑(List.length (d.2.2.2.2.2++[{ part:=d.1,way:=d.2.1,type:=d.2.2.1,sels:=[],after:=d.2.2.2.1,brings:=[]:Stp }])):Int) - 1)) (some ((↑(List.length (d.2.2.2.2.2++[{ part:=d.1,way:=d.2.1,type:=d.2.2.1,sels:=[],after:=d.2.2.2.1,brings:=[]:Stp }])):Int) - 1,(d.2.2.2.2.1.1,d.2.2.2.2.1.2.1,d.2.2.2.2.1.2.2.1,d.2.2.2.2.1.2.2.2),d.2.2.2.2.2++[{ part:=d.1,way:=d.2.1,type:=d.2.2.1,sels:=[],after:=d.2.2.2.1,brings:=[]:Stp }])))))
def F_l8Plan_step:Int×List (List UInt8)×List UInt8×List Int×(List Part×List UInt8×List Typ×Bool)×List Stp→Option (Int×(List Part×List UInt8×List Typ×Bool)×List Stp):=sealD B_l8Plan_step
theorem F_l8Plan_step_eq (d:Int×List (List UInt8)×List UInt8×List Int×(List Part×List UInt8×List Typ×Bool)×List Stp):F_l8Plan_step d=B_l8Plan_step d:=congrFun (sealD_eq B_l8Plan_step) d
def e_l8Plan_step:TE:=⟨91,[.mpb 0 0,.int .i64,.lst .str,.str,.lst (.int .i64)],[.box ⟨none,[some ((.lst (.nm .Part)),.no),some (.str,.no),some ((.lst (.nm .Typ)),.no),some ((.lst (.nm .Stp)),.no),some (.bool,.no)]⟩ [.lst (.nm .Part),.str,.lst (.nm .Typ),.own 1,.bool],.arr (.nm .Stp) .no],(.int .i64),[.box ⟨none,[some ((.lst (.nm .Part)),.no),some (.str,.no),some ((.lst (.nm .Typ)),.no),some ((.lst (.nm .Stp)),.no),some (.bool,.no)]⟩ [.lst (.nm .Part),.str,.lst (.nm .Typ),.own 2,.bool],.dead,.arr (.nm .Stp) .no],F_l8Plan_step⟩
theorem x_l8Plan_step (d:Int×List (List UInt8)×List UInt8×List Int×(List Part×List UInt8×List Typ×Bool)×List Stp):execF [] cy91 c91 [.t 10] [.mpb 0 0,.int .i64,.lst .str,.str,.lst (.int .i64)] [.box ⟨none,[some ((.lst (.nm .Part)),.no),some (.str,.no),some ((.lst (.nm .Typ)),.no),some ((.lst (.nm .Stp)),.no),some (.bool,.no)]⟩ [.lst (.nm .Part),.str,.lst (.nm .Typ),.own 1,.bool],.arr (.nm .Stp) .no] (.int .i64) [.box ⟨none,[some ((.lst (.nm .Part)),.no),some (.str,.no),some ((.lst (.nm .Typ)),.no),some ((.lst (.nm .Stp)),.no),some (.bool,.no)]⟩ [.lst (.nm .Part),.str,.lst (.nm .Typ),.own 2,.bool],.dead,.arr (.nm .Stp) .no] d=F_l8Plan_step d:=Eq.trans (b:=B_l8Plan_step d) (by kernel_rfl) (F_l8Plan_step_eq d).symm
def B_l8Add (d:List Sel×Sel):Option (List Sel):=bindD (loopO (fun (s:Int)=>condD (decide (s<(d.1.length:Int))) (gd (decide (0≤s)) (bindD d.1[s.toNat]? fun (x:Sel)=>bindD (F_l3Key x) fun (x:List UInt8)=>bindD (F_l3Key d.2) fun (x_1:List UInt8)=>condD (x == x_1) (some (Sum.inr (Sum.inr d.1))) (gd (i64B (s+1)) (some (Sum.inl (s+1)))))) (some (Sum.inr (Sum.inl s)))) 0) fun (x:Int ⊕ List Sel)=>caseS x (fun d_1=>gd (decide (List.length d.1≤LIM)) (gd (decide (List.length d.1+List.length [d.2]≤LIM)) (some (d.1++[d.2])))) fun r=>some r
def F_l8Add:List Sel×Sel→Option (List Sel):=sealD B_l8Add
theorem F_l8Add_eq (d:List Sel×Sel):F_l8Add d=B_l8Add d:=congrFun (sealD_eq B_l8Add) d
def e_l8Add:TE:=⟨123,[.lst (.nm .Sel),.st .Sel],[],(.lst (.nm .Sel)),[],F_l8Add⟩
theorem x_l8Add (d:List Sel×Sel):execF [e_l3Key] cy123 c123 [.t 4] [.lst (.nm .Sel),.st .Sel] [] (.lst (.nm .Sel)) [] d=F_l8Add d:=Eq.trans (b:=B_l8Add d) (by kernel_rfl) (F_l8Add_eq d).symm
def B_l8Words (d:List (List UInt8)×List UInt8):Option (List (List UInt8)):=bindD (loopO (fun (s:Int)=>bindD (condD (decide (s<(d.1.length:Int))) (gd (decide (0≤s)) (bindD d.1[s.toNat]? fun (x:List UInt8)=>some (Op.bytesLess x d.2))) (some false)) fun (x:Bool)=>condD x (gd (i64B (s+1)) (some (Sum.inl (s+1)))) (some (Sum.inr s))) 0) fun (x:Int)=>bindD (condD (decide (x<(d.1.length:Int))) (gd (decide (0≤x)) (bindD d.1[x.toNat]? fun (x:List UInt8)=>some (x == d.2))) (some false)) fun (x_1:Bool)=>condD x_1 (some d.1) (gd (decide (0≤0) && decide (0≤x) && decide (x≤(d.1.length:Int))) (gd (decide (List.length (List.take (x.toNat - Int.toNat 0) (List.drop (Int.toNat 0) d.1))≤LIM)) (gd (decide (List.length (List.take (x.toNat - Int.toNat 0) (List.drop (Int.toNat 0) d.1))+List.length [d.2]≤LIM)) (gd (decide (0≤x) && decide (x≤(d.1.length:Int)) && decide ((d.1.length:Int)≤(d.1.length:Int))) (gd (decide (List.length (List.take (x.toNat - Int.toNat 0) (List.drop (Int.toNat 0) d.1)++[d.2])+List.length (List.take (Int.toNat (d.1.length:Int) - x.toNat) (List.drop (x.toNat) d.1))≤LIM)) (some (List.take (x.toNat - Int.toNat 0) (List.drop (Int.toNat 0) d.1)++[d.2]++List.take (Int.toNat (d.1.length:Int) - x.toNat) (List.drop (x.toNat) d.1))))))))
def F_l8Words:List (List UInt8)×List UInt8→Option (List (List UInt8)):=sealD B_l8Words
theorem F_l8Words_eq (d:List (List UInt8)×List UInt8):F_l8Words d=B_l8Words d:=congrFun (sealD_eq B_l8Words) d
def e_l8Words:TE:=⟨124,[.lst .str,.str],[],(.lst .str),[],F_l8Words⟩
theorem x_l8Words (d:List (List UInt8)×List UInt8):execF [] cy124 c124 [.t 4] [.lst .str,.str] [] (.lst .str) [] d=F_l8Words d:=Eq.trans (b:=B_l8Words d) (by kernel_rfl) (F_l8Words_eq d).symm
def B_l8Need (d:List UInt8):Option Sel:=gd (decide (List.length [95]+List.length d≤BIG)) (some (Sel.mk ([95]++d) d false 0 []))
def F_l8Need:List UInt8→Option Sel:=sealD B_l8Need
theorem F_l8Need_eq (d:List UInt8):F_l8Need d=B_l8Need d:=congrFun (sealD_eq B_l8Need) d
def e_l8Need:TE:=⟨125,[.str],[],(.st .Sel),[],F_l8Need⟩
theorem x_l8Need (d:List UInt8):execF [] cy125 c125 [.c 2 (some 5)] [.str] [] (.st .Sel) [] d=F_l8Need d:=Eq.trans (b:=B_l8Need d) (by kernel_rfl) (F_l8Need_eq d).symm
mutual
def F_l8Plan_own:Nat→Int×List UInt8×List Sel×List (List UInt8)×(List Part×List UInt8×List Typ×Bool)×List Stp→Option (List Sel×(List Part×List UInt8×List Typ×Bool)×List Stp) | 0,_=>none | n+1,d=>bindD (loopO (fun (s:Int×(List Part×List UInt8×List Typ×Bool)×List Sel×List Stp)=>condD (decide (s.1<(d.2.2.1.length:Int))) (gd (decide (0≤s.1)) (bindD d.2.2.1[s.1.toNat]? fun (x:Sel)=>bindD (F_l2Get ({ name:=s.2.1.2.1,types:=s.2.1.2.2.1:Part },d.2.1,Sel.name x)) fun (x_1:Field×Bool)=>gd (decide (List.length d.2.2.2.1≤LIM)) (bindD (F_l3Key (Sel.mk (Sel.as x) (Sel.name x) (Sel.one x) (Sel.id x) (Sel.kids x))) fun (x_2:List UInt8)=>gd (decide (List.length d.2.2.2.1+List.length [x_2]≤LIM)) (bindD (F_l8Plan_split n (d.1,x_1.1.of,Sel.kids x,d.2.2.2.1++[x_2],(s.2.1.1,s.2.1.2.1,s.2.1.2.2.1,s.2.1.2.2.2),s.2.2.2)) fun (x_3:List Sel×(List Part×List UInt8×List Typ×Bool)×List Stp)=>gd (decide (List.length s.2.2.1+List.length [Sel.mk (Sel.as x) (Sel.name x) (Sel.one x) (Sel.id x) x_3.1]≤LIM)) (gd (i64B (s.1+1)) (some (Sum.inl (s.1+1,(x_3.2.1.1,x_3.2.1.2.1,x_3.2.1.2.2.1,x_3.2.1.2.2.2),s.2.2.1++[Sel.mk (Sel.as x) (Sel.name x) (Sel.one x) (Sel.id x) x_3.1],x_3.2.2)))))))) (some (Sum.inr (s.1,(s.2.1.1,s.2.1.2.1,s.2.1.2.2.1,s.2.1.2.2.2),s.2.2.1,s.2.2.2)))) (0,(d.2.2.2.2.1.1,d.2.2.2.2.1.2.1,d.2.2.2.2.1.2.2.1,d.2.2.2.2.1.2.2.2),[],d.2.2.2.2.2)) fun (x:Int×(List Part×List UInt8×List Typ×Bool)×List Sel×List Stp)=>some (x.2.2.1,(x.2.1.1,x.2.1.2.1,x.2.1.2.2.1,x.2.1.2.2.2),x.2.2.2)
def F_l8Plan_further:Nat→Int×Int×List UInt8×List Sel×List (List UInt8)×List Sel×(List Part×List UInt8×List Typ×Bool)×List Stp→Option (List Sel×(List Part×List UInt8×List Typ×Bool)×List Stp) | 0,_=>none | n+1,d=>condD (d.2.2.1 == [113,117,101,114,121]) (bindD (F_l8Plan_step (d.2.1,d.2.2.2.2.1,d.2.2.1,[],(d.2.2.2.2.2.2.1.1,d.2.2.2.2.2.2.1.2.1,d.2.2.2.2.2.2.1.2.2.1,d.2.2.2.2.2.2.1.2.2.2),d.2.2.2.2.2.2.2)) fun (x:Int×(List Part×List UInt8×List Typ×Bool)×List Stp)=>bindD (F_l8Plan_split n (x.1,d.2.2.1,d.2.2.2.1,d.2.2.2.2.1,(x.2.1.1,x.2.1.2.1,x.2.1.2.2.1,x.2.1.2.2.2),x.2.2)) fun (x_1:List Sel×(List Part×List UInt8×List Typ×Bool)×List Stp)=>gd (decide (0≤x.1) && decide (x.1<(x_1.2.2.length:Int))) (bindD x_1.2.2[x.1.toNat]? fun (x_2:Stp)=>some (d.2.2.2.2.2.1,(x_1.2.1.1,x_1.2.1.2.1,x_1.2.1.2.2.1,x_1.2.1.2.2.2),List.set x_1.2.2 (x.1.toNat) { part:=x_2.part,way:=x_2.way,type:=x_2.type,sels:=x_1.1,after:=x_2.after,brings:=x_2.brings:Stp }))) (bindD (F_l2Type ({ name:=d.2.2.2.2.2.2.1.2.1,types:=d.2.2.2.2.2.2.1.2.2.1:Part },d.2.2.1)) fun (x:Int)=>gd (decide (0≤x)) (bindD d.2.2.2.2.2.2.1.2.2.1[x.toNat]? fun (x:Typ)=>bindD (F_l8Add (d.2.2.2.2.2.1,Sel.mk [95,105,100] x.key false 0 [])) fun (x:List Sel)=>gd (decide (0≤d.1) && decide (d.1<(d.2.2.2.2.2.2.2.length:Int))) (bindD d.2.2.2.2.2.2.2[d.1.toNat]? fun (x_1:Stp)=>bindD (loopO (fun (s:List (List UInt8)×Int×(List Part×List UInt8×List Typ×Bool)×List Int×List Stp)=>condD (decide (s.2.1<(d.2.2.2.1.length:Int))) (gd (decide (0≤d.2.1)) (bindD s.2.2.1.1[d.2.1.toNat]? fun (x:Part)=>gd (decide (0≤s.2.1)) (bindD d.2.2.2.1[s.2.1.toNat]? fun (x_2:Sel)=>bindD (F_l2Get (x,d.2.2.1,Sel.name x_2)) fun (x:Field×Bool)=>bindD (loopO (fun (s:List (List UInt8)×Int)=>condD (decide (s.2<(x.1.needs.length:Int))) (gd (decide (0≤s.2)) (bindD x.1.needs[s.2.toNat]? fun (x:List UInt8)=>bindD (F_l8Words (s.1,x)) fun (x:List (List UInt8))=>gd (i64B (s.2+1)) (some (Sum.inl (x,s.2+1))))) (some (Sum.inr (s.1,s.2)))) (s.1,0)) fun (x:List (List UInt8)×Int)=>gd (i64B (s.2.1+1)) (some (Sum.inl (x.1,s.2.1+1,(s.2.2.1.1,s.2.2.1.2.1,s.2.2.1.2.2.1,s.2.2.1.2.2.2),s.2.2.2.1,s.2.2.2.2)))))) (some (Sum.inr (s.1,s.2.1,(s.2.2.1.1,s.2.2.1.2.1,s.2.2.1.2.2.1,s.2.2.1.2.2.2),s.2.2.2.1,s.2.2.2.2)))) ([],0,(d.2.2.2.2.2.2.1.1,d.2.2.2.2.2.2.1.2.1,d.2.2.2.2.2.2.1.2.2.1,d.2.2.2.2.2.2.1.2.2.2),[d.1],d.2.2.2.2.2.2.2)) fun (x_2:List (List UInt8)×Int×(List Part×List UInt8×List Typ×Bool)×List Int×List Stp)=>bindD (loopO (fun (s:List Sel×Int×(List Part×List UInt8×List Typ×Bool)×List Int×List Stp)=>condD (decide (s.2.1<(x_2.1.length:Int))) (gd (decide (0≤x_1.part)) (bindD s.2.2.1.1[x_1.part.toNat]? fun (x:Part)=>gd (decide (0≤s.2.1)) (bindD x_2.1[s.2.1.toNat]? fun (x_3:List UInt8)=>bindD (F_l7Local (x,d.2.2.1,x_3)) fun (x:Bool)=>condD x (gd (decide (0≤s.2.1)) (bindD x_2.1[s.2.1.toNat]? fun (x:List UInt8)=>bindD (F_l8Need x) fun (x:Sel)=>bindD (F_l8Add (s.1,x)) fun (x:List Sel)=>gd (i64B (s.2.1+1)) (some (Sum.inl (x,s.2.1+1,(s.2.2.1.1,s.2.2.1.2.1,s.2.2.1.2.2.1,s.2.2.1.2.2.2),s.2.2.2.1,s.2.2.2.2))))) (gd (decide (0≤s.2.1)) (bindD x_2.1[s.2.1.toNat]? fun (x:List UInt8)=>bindD (F_l7First (s.2.2.1.1,d.2.2.1,x)) fun (x:Int)=>bindD (F_l8Plan_step (x,d.2.2.2.2.1,d.2.2.1,[d.1],(s.2.2.1.1,s.2.2.1.2.1,s.2.2.1.2.2.1,s.2.2.1.2.2.2),s.2.2.2.2)) fun (x:Int×(List Part×List UInt8×List Typ×Bool)×List Stp)=>gd (decide (0≤s.2.1)) (bindD x_2.1[s.2.1.toNat]? fun (x_4:List UInt8)=>bindD (F_l8Need x_4) fun (x_5:Sel)=>gd (decide (0≤x.1) && decide (x.1<(x.2.2.length:Int))) (bindD x.2.2[x.1.toNat]? fun (x_6:Stp)=>gd (decide (List.length s.2.2.2.1+List.length [x.1]≤LIM)) (gd (i64B (s.2.1+1)) (some (Sum.inl (s.1,s.2.1+1,(x.2.1.1,x.2.1.2.1,x.2.1.2.2.1,x.2.1.2.2.2),s.2.2.2.1++[x.1],List.set x.2.2 (x.1.toNat) {part:=x_6.part,way:=x_6.way,type:=x_6.type,sels:=[x_5],after:=x_6.after,brings:=x_6.brings:Stp }))))))))))) (some (Sum.inr (s.1,s.2.1,(s.2.2.1.1,s.2.2.1.2.1,s.2.2.1.2.2.1,s.2.2.1.2.2.2),s.2.2.2.1,s.2.2.2.2)))) (x,0,(x_2.2.2.1.1,x_2.2.2.1.2.1,x_2.2.2.1.2.2.1,x_2.2.2.1.2.2.2),x_2.2.2.2.1,x_2.2.2.2.2)) fun (x:List Sel×Int×(List Part×List UInt8×List Typ×Bool)×List Int×List Stp)=>bindD (F_l8Plan_step (d.2.1,d.2.2.2.2.1,d.2.2.1,x.2.2.2.1,(x.2.2.1.1,x.2.2.1.2.1,x.2.2.1.2.2.1,x.2.2.1.2.2.2),x.2.2.2.2)) fun (x_3:Int×(List Part×List UInt8×List Typ×Bool)×List Stp)=>gd (decide (0≤x_3.1) && decide (x_3.1<(x_3.2.2.length:Int))) (bindD x_3.2.2[x_3.1.toNat]? fun (x_4:Stp)=>bindD (F_l8Plan_own n (x_3.1,d.2.2.1,d.2.2.2.1,d.2.2.2.2.1,(x_3.2.1.1,x_3.2.1.2.1,x_3.2.1.2.2.1,x_3.2.1.2.2.2),List.set x_3.2.2 (x_3.1.toNat) {part:=x_4.part,way:=x_4.way,type:=x_4.type,sels:=x_4.sels,after:=x_4.after,brings:=x_2.1:Stp })) fun (x_5:List Sel×(List Part×List UInt8×List Typ×Bool)×List Stp)=>gd (decide (0≤x_3.1) && decide (x_3.1<(x_5.2.2.length:Int))) (bindD x_5.2.2[x_3.1.toNat]? fun (x_6:Stp)=>some (x.1,(x_5.2.1.1,x_5.2.1.2.1,x_5.2.1.2.2.1,x_5.2.1.2.2.2),List.set x_5.2.2 (x_3.1.toNat) {part:=x_6.part,way:=x_6.way,type:=x_6.type,sels:=x_5.1,after:=x_6.after,brings:=x_6.brings:Stp }))))))
def F_l8Plan_split:Nat→Int×List UInt8×List Sel×List (List UInt8)×(List Part×List UInt8×List Typ×Bool)×List Stp→Option (List Sel×(List Part×List UInt8×List Typ×Bool)×List Stp) | 0,_=>none | n+1,d=>gd (decide (0≤d.1) && decide (d.1<(d.2.2.2.2.2.length:Int))) (bindD d.2.2.2.2.2[d.1.toNat]? fun (x:Stp)=>gd (decide (0≤(d.2.2.2.2.1.1.length:Int)) && decide ((d.2.2.2.2.1.1.length:Int)≤(↑LIM:Int))) (bindD (loopO (fun (s:Int×(List Part×List UInt8×List Typ×Bool)×List Sel×List (List Sel)×List Stp)=>condD (decide (s.1<(d.2.2.1.length:Int))) (gd (decide (0≤s.1)) (bindD d.2.2.1[s.1.toNat]? fun (x_1:Sel)=>bindD (F_l7Next (s.2.1.1,x.part,d.2.1,Sel.name x_1)) fun (x_2:Int)=>condD (decide (x_2<0)) (some (Sum.inr (Sum.inr (s.2.2.1,(s.2.1.1,s.2.1.2.1,s.2.1.2.2.1,false),s.2.2.2.2)))) (bindD (condD (x_2 == x.part) (condD (d.2.1 == [113,117,101,114,121]) (some (true,(s.2.1.1,s.2.1.2.1,s.2.1.2.2.1,s.2.1.2.2.2),s.2.2.1,s.2.2.2.1,(Sel.as x_1,Sel.name x_1,Sel.one x_1,Sel.id x_1,Sel.kids x_1),s.2.2.2.2)) (gd (decide (0≤x.part)) (bindD s.2.1.1[x.part.toNat]? fun (x:Part)=>bindD (F_l7Local (x,d.2.1,Sel.name x_1)) fun (x:Bool)=>some (x,(s.2.1.1,s.2.1.2.1,s.2.1.2.2.1,s.2.1.2.2.2),s.2.2.1,s.2.2.2.1,(Sel.as x_1,Sel.name x_1,Sel.one x_1,Sel.id x_1,Sel.kids x_1),s.2.2.2.2)))) (some (false,(s.2.1.1,s.2.1.2.1,s.2.1.2.2.1,s.2.1.2.2.2),s.2.2.1,s.2.2.2.1,(Sel.as x_1,Sel.name x_1,Sel.one x_1,Sel.id x_1,Sel.kids x_1),s.2.2.2.2))) fun (x:Bool×(List Part×List UInt8×List Typ×Bool)×List Sel×List (List Sel)×(List UInt8×List UInt8×Bool×Int×List Sel)×List Stp)=>condD x.1 (bindD (F_l2Get ({ name:=x.2.1.2.1,types:=x.2.1.2.2.1:Part },d.2.1,x.2.2.2.2.1.2.1)) fun (x_3:Field×Bool)=>gd (decide (List.length d.2.2.2.1≤LIM)) (bindD (F_l3Key (Sel.mk x.2.2.2.2.1.1 x.2.2.2.2.1.2.1 x.2.2.2.2.1.2.2.1 x.2.2.2.2.1.2.2.2.1 x.2.2.2.2.1.2.2.2.2)) fun (x_4:List UInt8)=>gd (decide (List.length d.2.2.2.1+List.length [x_4]≤LIM)) (bindD (F_l8Plan_split n (d.1,x_3.1.of,x.2.2.2.2.1.2.2.2.2,d.2.2.2.1++[x_4],(x.2.1.1,x.2.1.2.1,x.2.1.2.2.1,x.2.1.2.2.2),x.2.2.2.2.2)) fun (x_5:List Sel×(List Part×List UInt8×List Typ×Bool)×List Stp)=>gd (decide (List.length x.2.2.1+List.length [Sel.mk x.2.2.2.2.1.1 x.2.2.2.2.1.2.1 x.2.2.2.2.1.2.2.1 x.2.2.2.2.1.2.2.2.1 x_5.1]≤LIM)) (gd (i64B (s.1+1)) (some (Sum.inl (s.1+1,(x_5.2.1.1,x_5.2.1.2.1,x_5.2.1.2.2.1,x_5.2.1.2.2.2),x.2.2.1++[Sel.mk x.2.2.2.2.1.1 x.2.2.2.2.1.2.1 x.2.2.2.2.1.2.2.1 x.2.2.2.2.1.2.2.2.1 x_5.1],x.2.2.2.1,x_5.2.2))))))) (gd (decide (0≤x_2) && decide (x_2<(x.2.2.2.1.length:Int))) (bindD x.2.2.2.1[x_2.toNat]? fun (x_3:List Sel)=>gd (decide (List.length x_3+List.length [Sel.mk [] [] false 0 []]≤LIM)) (gd (decide (0≤(x_3.length:Int)) && decide ((x_3.length:Int)<(↑(List.length (x_3++[Sel.mk [] [] false 0 []])):Int))) (bindD (x_3++[Sel.mk [] [] false 0 []])[Int.toNat (x_3.length:Int)]? fun (x_4:Sel)=>gd (decide (0≤x_2) && decide (x_2<(x.2.2.2.1.length:Int))) (gd (decide (x_2.toNat=x_2.toNat)) (gd (i64B (s.1+1)) (some (Sum.inl (s.1+1,(x.2.1.1,x.2.1.2.1,x.2.1.2.2.1,x.2.1.2.2.2),x.2.2.1,List.set x.2.2.2.1 (x_2.toNat) (List.set (x_3++[Sel.mk [] [] false 0 []]) (Int.toNat (x_3.length:Int)) (Sel.mk x.2.2.2.2.1.1 x.2.2.2.2.1.2.1 x.2.2.2.2.1.2.2.1 x.2.2.2.2.1.2.2.2.1 x.2.2.2.2.1.2.2.2.2)),x.2.2.2.2.2)))))))))))) (some (Sum.inr (Sum.inl (s.1,(s.2.1.1,s.2.1.2.1,s.2.1.2.2.1,s.2.1.2.2.2),s.2.2.1,s.2.2.2.1,s.2.2.2.2))))) (0,(d.2.2.2.2.1.1,d.2.2.2.2.1.2.1,d.2.2.2.2.1.2.2.1,d.2.2.2.2.1.2.2.2),[],List.replicate (Int.toNat (d.2.2.2.2.1.1.length:Int)) [],d.2.2.2.2.2)) fun (x:Int×(List Part×List UInt8×List Typ×Bool)×List Sel×List (List Sel)×List Stp ⊕ List Sel×(List Part×List UInt8×List Typ×Bool)×List Stp)=>caseS x (fun d_1=>bindD (loopO (fun (s:List Sel×Int×(List Part×List UInt8×List Typ×Bool)×List Stp)=>condD (decide (s.2.1<(d_1.2.2.2.1.length:Int))) (gd (decide (0≤s.2.1)) (bindD d_1.2.2.2.1[s.2.1.toNat]? fun (x:List Sel)=>bindD (condD (decide ((x.length:Int)>0)) (gd (decide (0≤s.2.1)) (bindD d_1.2.2.2.1[s.2.1.toNat]? fun (x:List Sel)=>bindD (F_l8Plan_further n (d.1,s.2.1,d.2.1,x,d.2.2.2.1,s.1,(s.2.2.1.1,s.2.2.1.2.1,s.2.2.1.2.2.1,s.2.2.1.2.2.2),s.2.2.2)) fun (x:List Sel×(List Part×List UInt8×List Typ×Bool)×List Stp)=>some (x.1,(x.2.1.1,x.2.1.2.1,x.2.1.2.2.1,x.2.1.2.2.2),x.2.2))) (some (s.1,(s.2.2.1.1,s.2.2.1.2.1,s.2.2.1.2.2.1,s.2.2.1.2.2.2),s.2.2.2))) fun (x:List Sel×(List Part×List UInt8×List Typ×Bool)×List Stp)=>gd (i64B (s.2.1+1)) (some (Sum.inl (x.1,s.2.1+1,(x.2.1.1,x.2.1.2.1,x.2.1.2.2.1,x.2.1.2.2.2),x.2.2))))) (some (Sum.inr (s.1,s.2.1,(s.2.2.1.1,s.2.2.1.2.1,s.2.2.1.2.2.1,s.2.2.1.2.2.2),s.2.2.2)))) (d_1.2.2.1,0,(d_1.2.1.1,d_1.2.1.2.1,d_1.2.1.2.2.1,d_1.2.1.2.2.2),d_1.2.2.2.2)) fun (x:List Sel×Int×(List Part×List UInt8×List Typ×Bool)×List Stp)=>some (x.1,(x.2.2.1.1,x.2.2.1.2.1,x.2.2.1.2.2.1,x.2.2.1.2.2.2),x.2.2.2)) fun r=>some r))
end
def e_l8Plan_own (n:Nat):TE:=⟨126,[.mpb 0 0,.int .i64,.str,.lst (.nm .Sel),.lst .str],[.box ⟨none,[some ((.lst (.nm .Part)),.no),some (.str,.no),some ((.lst (.nm .Typ)),.no),some ((.lst (.nm .Stp)),.no),some (.bool,.no)]⟩ [.lst (.nm .Part),.str,.lst (.nm .Typ),.own 1,.bool],.arr (.nm .Stp) .no],(.lst (.nm .Sel)),[.box ⟨none,[some ((.lst (.nm .Part)),.no),some (.str,.no),some ((.lst (.nm .Typ)),.no),some ((.lst (.nm .Stp)),.no),some (.bool,.no)]⟩ [.lst (.nm .Part),.str,.lst (.nm .Typ),.own 2,.bool],.dead,.arr (.nm .Stp) .no],F_l8Plan_own n⟩
def e_l8Plan_further (n:Nat):TE:=⟨114,[.mpb 0 0,.int .i64,.int .i64,.str,.lst (.nm .Sel),.lst .str,.lst (.nm .Sel)],[.box ⟨none,[some ((.lst (.nm .Part)),.no),some (.str,.no),some ((.lst (.nm .Typ)),.no),some ((.lst (.nm .Stp)),.no),some (.bool,.no)]⟩ [.lst (.nm .Part),.str,.lst (.nm .Typ),.own 1,.bool],.arr (.nm .Stp) .no],(.lst (.nm .Sel)),[.box ⟨none,[some ((.lst (.nm .Part)),.no),some (.str,.no),some ((.lst (.nm .Typ)),.no),some ((.lst (.nm .Stp)),.no),some (.bool,.no)]⟩ [.lst (.nm .Part),.str,.lst (.nm .Typ),.own 2,.bool],.dead,.arr (.nm .Stp) .no],F_l8Plan_further n⟩
def L_l8Plan_split:Int×List UInt8×List Sel×List (List UInt8)×(List Part×List UInt8×List Typ×Bool)×List Stp→Option (List Sel×(List Part×List UInt8×List Typ×Bool)×List Stp):=limF F_l8Plan_split
def e_l8Plan_split (n:Nat):TE:=⟨92,[.mpb 0 0,.int .i64,.str,.lst (.nm .Sel),.lst .str],[.box ⟨none,[some ((.lst (.nm .Part)),.no),some (.str,.no),some ((.lst (.nm .Typ)),.no),some ((.lst (.nm .Stp)),.no),some (.bool,.no)]⟩ [.lst (.nm .Part),.str,.lst (.nm .Typ),.own 1,.bool],.arr (.nm .Stp) .no],(.lst (.nm .Sel)),[.box ⟨none,[some ((.lst (.nm .Part)),.no),some (.str,.no),some ((.lst (.nm .Typ)),.no),some ((.lst (.nm .Stp)),.no),some (.bool,.no)]⟩ [.lst (.nm .Part),.str,.lst (.nm .Typ),.own 2,.bool],.dead,.arr (.nm .Stp) .no],F_l8Plan_split n⟩
def l_l8Plan_split:TE:=⟨92,[.mpb 0 0,.int .i64,.str,.lst (.nm .Sel),.lst .str],[.box ⟨none,[some ((.lst (.nm .Part)),.no),some (.str,.no),some ((.lst (.nm .Typ)),.no),some ((.lst (.nm .Stp)),.no),some (.bool,.no)]⟩ [.lst (.nm .Part),.str,.lst (.nm .Typ),.own 1,.bool],.arr (.nm .Stp) .no],(.lst (.nm .Sel)),[.box ⟨none,[some ((.lst (.nm .Part)),.no),some (.str,.no),some ((.lst (.nm .Typ)),.no),some ((.lst (.nm .Stp)),.no),some (.bool,.no)]⟩ [.lst (.nm .Part),.str,.lst (.nm .Typ),.own 2,.bool],.dead,.arr (.nm .Stp) .no],L_l8Plan_split⟩
theorem x_l8Plan_own (n:Nat)(d:Int×List UInt8×List Sel×List (List UInt8)×(List Part×List UInt8×List Typ×Bool)×List Stp):execF [e_l2Get,e_l3Key,e_l8Plan_split n] cy126 c126 [.t 10] [.mpb 0 0,.int .i64,.str,.lst (.nm .Sel),.lst .str] [.box ⟨none,[some ((.lst (.nm .Part)),.no),some (.str,.no),some ((.lst (.nm .Typ)),.no),some ((.lst (.nm .Stp)),.no),some (.bool,.no)]⟩ [.lst (.nm .Part),.str,.lst (.nm .Typ),.own 1,.bool],.arr (.nm .Stp) .no] (.lst (.nm .Sel)) [.box ⟨none,[some ((.lst (.nm .Part)),.no),some (.str,.no),some ((.lst (.nm .Typ)),.no),some ((.lst (.nm .Stp)),.no),some (.bool,.no)]⟩ [.lst (.nm .Part),.str,.lst (.nm .Typ),.own 2,.bool],.dead,.arr (.nm .Stp) .no] d=F_l8Plan_own (n+1) d:=by kernel_rfl
theorem x_l8Plan_further (n:Nat)(d:Int×Int×List UInt8×List Sel×List (List UInt8)×List Sel×(List Part×List UInt8×List Typ×Bool)×List Stp):execF [e_l8Plan_step,e_l8Plan_split n,e_l2Type,e_l8Add,e_l2Get,e_l8Words,e_l7Local,e_l8Need,e_l7First,e_l8Plan_own n] cy114 c114 [.t 14] [.mpb 0 0,.int .i64,.int .i64,.str,.lst (.nm .Sel),.lst .str,.lst (.nm .Sel)] [.box ⟨none,[some ((.lst (.nm .Part)),.no),some (.str,.no),some ((.lst (.nm .Typ)),.no),some ((.lst (.nm .Stp)),.no),some (.bool,.no)]⟩ [.lst (.nm .Part),.str,.lst (.nm .Typ),.own 1,.bool],.arr (.nm .Stp) .no] (.lst (.nm .Sel)) [.box ⟨none,[some ((.lst (.nm .Part)),.no),some (.str,.no),some ((.lst (.nm .Typ)),.no),some ((.lst (.nm .Stp)),.no),some (.bool,.no)]⟩ [.lst (.nm .Part),.str,.lst (.nm .Typ),.own 2,.bool],.dead,.arr (.nm .Stp) .no] d=F_l8Plan_further (n+1) d:=by kernel_rfl
theorem x_l8Plan_split (n:Nat)(d:Int×List UInt8×List Sel×List (List UInt8)×(List Part×List UInt8×List Typ×Bool)×List Stp):execF [e_l7Next,e_l7Local,e_l2Get,e_l3Key,e_l8Plan_split n,e_l8Plan_further n] cy92 c92 [.t 10] [.mpb 0 0,.int .i64,.str,.lst (.nm .Sel),.lst .str] [.box ⟨none,[some ((.lst (.nm .Part)),.no),some (.str,.no),some ((.lst (.nm .Typ)),.no),some ((.lst (.nm .Stp)),.no),some (.bool,.no)]⟩ [.lst (.nm .Part),.str,.lst (.nm .Typ),.own 1,.bool],.arr (.nm .Stp) .no] (.lst (.nm .Sel)) [.box ⟨none,[some ((.lst (.nm .Part)),.no),some (.str,.no),some ((.lst (.nm .Typ)),.no),some ((.lst (.nm .Stp)),.no),some (.bool,.no)]⟩ [.lst (.nm .Part),.str,.lst (.nm .Typ),.own 2,.bool],.dead,.arr (.nm .Stp) .no] d=F_l8Plan_split (n+1) d:=by kernel_rfl
def B_l8Make (d:List Part×Part×List Sel):Option (List Stp×Bool):=bindD d.2.2[Int.toNat 0]? fun (x:Sel)=>bindD (F_l7First (d.1,[113,117,101,114,121],Sel.name x)) fun (x:Int)=>condD (decide (x<0)) (some ([],false)) (bindD (F_l8Plan_step (x,[],[113,117,101,114,121],[],(d.1,d.2.1.name,d.2.1.types,true),[])) fun (x:Int×(List Part×List UInt8×List Typ×Bool)×List Stp)=>bindD (L_l8Plan_split (x.1,[113,117,101,114,121],d.2.2,[],(x.2.1.1,x.2.1.2.1,x.2.1.2.2.1,x.2.1.2.2.2),x.2.2)) fun (x_1:List Sel×(List Part×List UInt8×List Typ×Bool)×List Stp)=>gd (decide (0≤x.1) && decide (x.1<(x_1.2.2.length:Int))) (bindD x_1.2.2[x.1.toNat]? fun (x_2:Stp)=>condD (!x_1.2.1.2.2.2) (some ([],false)) (some (List.set x_1.2.2 (x.1.toNat) { part:=x_2.part,way:=x_2.way,type:=x_2.type,sels:=x_1.1,after:=x_2.after,brings:=x_2.brings:Stp },true))))
def F_l8Make:List Part×Part×List Sel→Option (List Stp×Bool):=sealD B_l8Make
theorem F_l8Make_eq (d:List Part×Part×List Sel):F_l8Make d=B_l8Make d:=congrFun (sealD_eq B_l8Make) d
def e_l8Make:TE:=⟨72,[.lst (.nm .Part),.st .Part,.lst (.nm .Sel)],[],(.tup [.lst (.nm .Stp),.bool]),[],F_l8Make⟩
theorem x_l8Make (d:List Part×Part×List Sel):execF [e_l7First,e_l8Plan_step,l_l8Plan_split] cy72 c72 [.t 6,.t 7] [.lst (.nm .Part),.st .Part,.lst (.nm .Sel)] [] (.tup [.lst (.nm .Stp),.bool]) [] d=F_l8Make d:=Eq.trans (b:=B_l8Make d) (by kernel_rfl) (F_l8Make_eq d).symm
def F_l3Copy:Nat→List Sel→Option (List Sel) | 0,_=>none | n+1,d=>bindD (loopO (fun (s:Int×List Sel)=>condD (decide (s.1<(d.length:Int))) (gd (decide (0≤s.1)) (bindD d[s.1.toNat]? fun (x:Sel)=>bindD (F_l3Copy n (Sel.kids x)) fun (x_1:List Sel)=>gd (decide (List.length s.2+List.length [Sel.mk (Sel.as x) (Sel.name x) (Sel.one x) (Sel.id x) x_1]≤LIM)) (gd (i64B (s.1+1)) (some (Sum.inl (s.1+1,s.2++[Sel.mk (Sel.as x) (Sel.name x) (Sel.one x) (Sel.id x) x_1])))))) (some (Sum.inr (s.1,s.2)))) (0,[])) fun (x:Int×List Sel)=>some x.2
def L_l3Copy:List Sel→Option (List Sel):=limF F_l3Copy
def e_l3Copy (n:Nat):TE:=⟨93,[.lst (.nm .Sel)],[],(.lst (.nm .Sel)),[],F_l3Copy n⟩
def l_l3Copy:TE:=⟨93,[.lst (.nm .Sel)],[],(.lst (.nm .Sel)),[],L_l3Copy⟩
theorem x_l3Copy (n:Nat)(d:List Sel):execF [e_l3Copy n] cy93 c93 [.t 2] [.lst (.nm .Sel)] [] (.lst (.nm .Sel)) [] d=F_l3Copy (n+1) d:=by kernel_rfl
def B_l8Copy (d:List Stp):Option (List Stp):=bindD (loopO (fun (s:Int×List Stp)=>condD (decide (s.1<(d.length:Int))) (gd (decide (0≤s.1)) (bindD d[s.1.toNat]? fun (x:Stp)=>gd (decide (0+List.length x.way≤LIM)) (bindD (L_l3Copy x.sels) fun (x_1:List Sel)=>gd (decide (0+List.length x.after≤LIM)) (gd (decide (0+List.length x.brings≤LIM)) (gd (decide (List.length s.2+List.length [{ part:=x.part,way:=x.way,type:=x.type,sels:=x_1,after:=x.after,brings:=x.brings:Stp }]≤LIM)) (gd (i64B (s.1+1)) (some (Sum.inl (s.1+1,s.2++[{ part:=x.part,way:=x.way,type:=x.type,sels:=x_1,after:=x.after,brings:=x.brings:Stp }]))))))))) (some (Sum.inr (s.1,s.2)))) (0,[])) fun (x:Int×List Stp)=>some x.2
def F_l8Copy:List Stp→Option (List Stp):=sealD B_l8Copy
theorem F_l8Copy_eq (d:List Stp):F_l8Copy d=B_l8Copy d:=congrFun (sealD_eq B_l8Copy) d
def e_l8Copy:TE:=⟨73,[.lst (.nm .Stp)],[],(.own 0),[.arr (.nm .Stp) .no],F_l8Copy⟩
theorem x_l8Copy (d:List Stp):execF [l_l3Copy] cy73 c73 [.t 2] [.lst (.nm .Stp)] [] (.own 0) [.arr (.nm .Stp) .no] d=F_l8Copy d:=Eq.trans (b:=B_l8Copy d) (by kernel_rfl) (F_l8Copy_eq d).symm
def B_RouteMake (d:List Part×List Sel):Option (Bool×List Stp):=bindD (F_ChartMake d.1) fun (x:Chart×CFault)=>bindD (condD (x.2.code != 0) (some true) (bindD (F_AskCheck ({ name:=x.1.all.name,types:=x.1.all.types:Part },d.2)) fun (x:AFault)=>some (x.code != 0))) fun (x_1:Bool)=>condD x_1 (some (false,[])) (bindD (F_l8Make (d.1,{ name:=x.1.all.name,types:=x.1.all.types:Part },d.2)) fun (x:List Stp×Bool)=>bindD (F_l8Copy x.1) fun (x_2:List Stp)=>some (x.2,x_2))
def F_RouteMake:List Part×List Sel→Option (Bool×List Stp):=sealD B_RouteMake
theorem F_RouteMake_eq (d:List Part×List Sel):F_RouteMake d=B_RouteMake d:=congrFun (sealD_eq B_RouteMake) d
def e_RouteMake:TE:=⟨50,[.lst (.nm .Part),.lst (.nm .Sel)],[],(.tup [.own 0,.bool]),[.arr (.nm .Stp) .no],F_RouteMake⟩
theorem x_RouteMake (d:List Part×List Sel):execF [e_ChartMake,e_AskCheck,e_l8Make,e_l8Copy] cy50 c50 [.t 4,.t 5] [.lst (.nm .Part),.lst (.nm .Sel)] [] (.tup [.own 0,.bool]) [.arr (.nm .Stp) .no] d=F_RouteMake d:=Eq.trans (b:=B_RouteMake d) (by kernel_rfl) (F_RouteMake_eq d).symm
def B_l11Steps (d:List Int×Int):Option ((List Int×Int)×List Stp):=bindD (F_l11Trip (d.1,d.2)) fun (x:(List Part×List Sel)×List Int×Int)=>bindD (F_RouteMake (x.1.1,x.1.2)) fun (x_1:Bool×List Stp)=>some ((x.2.1,x.2.2),x_1.2)
def F_l11Steps:List Int×Int→Option ((List Int×Int)×List Stp):=sealD B_l11Steps
theorem F_l11Steps_eq (d:List Int×Int):F_l11Steps d=B_l11Steps d:=congrFun (sealD_eq B_l11Steps) d
def e_l11Steps:TE:=⟨32,[.mpb 0 0],[.box ⟨none,[some ((.lst (.int .u8)),.no),some ((.int .i64),.no)]⟩ [.lst (.int .u8),.int .i64]],(.own 1),[.box ⟨none,[some ((.lst (.int .u8)),.no),some ((.int .i64),.no)]⟩ [.lst (.int .u8),.int .i64],.arr (.nm .Stp) .no],F_l11Steps⟩
theorem x_l11Steps (d:List Int×Int):execF [e_l11Trip,e_RouteMake] cy32 c32 [.t 2] [.mpb 0 0] [.box ⟨none,[some ((.lst (.int .u8)),.no),some ((.int .i64),.no)]⟩ [.lst (.int .u8),.int .i64]] (.own 1) [.box ⟨none,[some ((.lst (.int .u8)),.no),some ((.int .i64),.no)]⟩ [.lst (.int .u8),.int .i64],.arr (.nm .Stp) .no] d=F_l11Steps d:=Eq.trans (b:=B_l11Steps d) (by kernel_rfl) (F_l11Steps_eq d).symm
def B_DrawRouteDepth (d:List Int):Option (List Stp):=bindD (F_l1Open d) fun (x:List Int×Int)=>bindD (F_l11Steps (x.1,x.2)) fun (x:(List Int×Int)×List Stp)=>bindD (condD (decide ((x.2.length:Int)>0)) (bindD (F_l1Rd_pick (8,x.1.1,x.1.2)) fun (x_1:Int×List Int×Int)=>some (x_1.1 == 0,(x_1.2.1,x_1.2.2),x.2)) (some (false,(x.1.1,x.1.2),x.2))) fun (x:Bool×(List Int×Int)×List Stp)=>bindD (condD x.1 (bindD (F_l1Rd_pick (5,x.2.1.1,x.2.1.2)) fun (x_1:Int×List Int×Int)=>gd (i64B (x_1.1 - 1)) (gd (decide (0≤0) && decide (0<(x.2.2.length:Int))) (bindD x.2.2[0]? fun (x_2:Stp)=>bindD (F_l1Rd_pick (6,x_1.2.1,x_1.2.2)) fun (x_3:Int×List Int×Int)=>gd (i64B (x_3.1 - 1)) (gd (decide (0≤0) && decide (0<(↑(List.length (List.set x.2.2 0 {part:=x_2.part,way:=x_2.way,type:=x_2.type,sels:=x_2.sels,after:=[x_1.1 - 1],brings:=x_2.brings:Stp })):Int))) (bindD (List.set x.2.2 0 { part:=x_2.part,way:=x_2.way,type:=x_2.type,sels:=x_2.sels,after:=[x_1.1 - 1],brings:=x_2.brings:Stp })[0]? fun (x_4:Stp)=>some (List.set (List.set x.2.2 0 { part:=x_2.part,way:=x_2.way,type:=x_2.type,sels:=x_2.sels,after:=[x_1.1 - 1],brings:=x_2.brings:Stp }) 0 { part:=x_3.1 - 1,way:=x_4.way,type:=x_4.type,sels:=x_4.sels,after:=x_4.after,brings:=x_4.brings:Stp })))))) (some x.2.2)) fun (x:List Stp)=>some x
def F_DrawRouteDepth:List Int→Option (List Stp):=sealD B_DrawRouteDepth
theorem F_DrawRouteDepth_eq (d:List Int):F_DrawRouteDepth d=B_DrawRouteDepth d:=congrFun (sealD_eq B_DrawRouteDepth) d
def e_DrawRouteDepth:TE:=⟨15,[.lst (.int .u8)],[],(.lst (.nm .Stp)),[],F_DrawRouteDepth⟩
theorem x_DrawRouteDepth (d:List Int):execF [e_l1Open,e_l11Steps,e_l1Rd_pick] cy15 c15 [.t 2] [.lst (.int .u8)] [] (.lst (.nm .Stp)) [] d=F_DrawRouteDepth d:=Eq.trans (b:=B_DrawRouteDepth d) (by kernel_rfl) (F_DrawRouteDepth_eq d).symm
def B_DrawRouteParts (d:List Int):Option (List Stp):=bindD (F_DrawRouteDepth d) fun (x:List Stp)=>some x
def F_DrawRouteParts:List Int→Option (List Stp):=sealD B_DrawRouteParts
theorem F_DrawRouteParts_eq (d:List Int):F_DrawRouteParts d=B_DrawRouteParts d:=congrFun (sealD_eq B_DrawRouteParts) d
def e_DrawRouteParts:TE:=⟨19,[.lst (.int .u8)],[],(.lst (.nm .Stp)),[],F_DrawRouteParts⟩
theorem x_DrawRouteParts (d:List Int):execF [e_DrawRouteDepth] cy19 c19 [.t 2] [.lst (.int .u8)] [] (.lst (.nm .Stp)) [] d=F_DrawRouteParts d:=Eq.trans (b:=B_DrawRouteParts d) (by kernel_rfl) (F_DrawRouteParts_eq d).symm
def B_impl_RouteParts (d:List Stp):Option (List Int):=bindD (loopO (fun (s:Int×List Int)=>condD (decide (s.1<(d.length:Int))) (gd (decide (0≤s.1)) (bindD d[s.1.toNat]? fun (x:Stp)=>gd (decide (List.length s.2+List.length [x.part]≤LIM)) (gd (i64B (s.1+1)) (some (Sum.inl (s.1+1,s.2++[x.part])))))) (some (Sum.inr (s.1,s.2)))) (0,[])) fun (x:Int×List Int)=>bindD (F_slices_Sort_int_int x.2) fun (x_1:List Int)=>gd (decide (List.length x_1=List.length x.2)) (bindD (F_slices_Compact_int_int x_1) fun (x:List Int)=>bindD (F_slices_Clone_int_int x) fun (x_2:List Int×List Int)=>gd (decide (List.length x_2.1=List.length x)) (some x_2.2))
def F_impl_RouteParts:List Stp→Option (List Int):=sealD B_impl_RouteParts
theorem F_impl_RouteParts_eq (d:List Stp):F_impl_RouteParts d=B_impl_RouteParts d:=congrFun (sealD_eq B_impl_RouteParts) d
def e_impl_RouteParts:TE:=⟨9,[.lst (.nm .Stp)],[],(.lst (.int .i64)),[],F_impl_RouteParts⟩
theorem x_impl_RouteParts (d:List Stp):execF [e_slices_Sort_int_int,e_slices_Compact_int_int,e_slices_Clone_int_int] cy9 c9 [.t 2] [.lst (.nm .Stp)] [] (.lst (.int .i64)) [] d=F_impl_RouteParts d:=Eq.trans (b:=B_impl_RouteParts d) (by kernel_rfl) (F_impl_RouteParts_eq d).symm
def B_RouteParts (d:List Stp):Option (List Int):=bindD (loopO (fun (s:List Int×Int)=>condD (decide (s.2<(d.length:Int))) (bindD (loopO (fun (s_1:Int)=>bindD (condD (decide (s_1<(s.1.length:Int))) (gd (decide (0≤s_1)) (bindD s.1[s_1.toNat]? fun (x:Int)=>gd (decide (0≤s.2)) (bindD d[s.2.toNat]? fun (x_1:Stp)=>some (decide (x<x_1.part))))) (some false)) fun (x:Bool)=>condD x (gd (i64B (s_1+1)) (some (Sum.inl (s_1+1)))) (some (Sum.inr s_1))) 0) fun (x:Int)=>bindD (condD (x == (s.1.length:Int)) (some true) (gd (decide (0≤x)) (bindD s.1[x.toNat]? fun (x:Int)=>gd (decide (0≤s.2)) (bindD d[s.2.toNat]? fun (x_1:Stp)=>some (x != x_1.part))))) fun (x_1:Bool)=>bindD (condD x_1 (gd (decide (0≤0) && decide (0≤x) && decide (x≤(s.1.length:Int))) (gd (decide (List.length (List.take (x.toNat - Int.toNat 0) (List.drop (Int.toNat 0) s.1))≤LIM)) (gd (decide (0≤s.2)) (bindD d[s.2.toNat]? fun (x_2:Stp)=>gd (decide (List.length (List.take (x.toNat - Int.toNat 0) (List.drop (Int.toNat 0) s.1))+List.length [x_2.part]≤LIM)) (gd (decide (0≤x) && decide (x≤(s.1.length:Int)) && decide ((s.1.length:Int)≤(s.1.length:Int))) (gd (decide (List.length (List.take (x.toNat - Int.toNat 0) (List.drop (Int.toNat 0) s.1)++[x_2.part])+List.length (List.take (Int.toNat (s.1.length:Int) - x.toNat) (List.drop (x.toNat) s.1))≤LIM)) (some (List.take (x.toNat - Int.toNat 0) (List.drop (Int.toNat 0) s.1)++[x_2.part]++List.take (Int.toNat (s.1.length:Int) - x.toNat) (List.drop (x.toNat) s.1))))))))) (some s.1)) fun (x:List Int)=>gd (i64B (s.2+1)) (some (Sum.inl (x,s.2+1)))) (some (Sum.inr (s.1,s.2)))) ([],0)) fun (x:List Int×Int)=>some x.1
def F_RouteParts:List Stp→Option (List Int):=sealD B_RouteParts
theorem F_RouteParts_eq (d:List Stp):F_RouteParts d=B_RouteParts d:=congrFun (sealD_eq B_RouteParts) d
def e_RouteParts:TE:=⟨7,[.lst (.nm .Stp)],[],(.lst (.int .i64)),[],F_RouteParts⟩
theorem x_RouteParts (d:List Stp):execF [] cy7 c7 [.t 2] [.lst (.nm .Stp)] [] (.lst (.int .i64)) [] d=F_RouteParts d:=Eq.trans (b:=B_RouteParts d) (by kernel_rfl) (F_RouteParts_eq d).symm
def B_laws_wpInts (d:List Int×List Int):Option Bool:=condD ((d.1.length:Int) != (d.2.length:Int)) (some false) (bindD (loopO (fun (s:Int)=>condD (decide (s<(d.1.length:Int))) (gd (decide (0≤s)) (bindD d.1[s.toNat]? fun (x:Int)=>gd (decide (0≤s)) (bindD d.2[s.toNat]? fun (x_1:Int)=>condD (x != x_1) (some (Sum.inr (Sum.inr false))) (gd (i64B (s+1)) (some (Sum.inl (s+1))))))) (some (Sum.inr (Sum.inl s)))) 0) fun (x:Int ⊕ Bool)=>caseS x (fun d=>some true) fun r=>some r)
def F_laws_wpInts:List Int×List Int→Option Bool:=sealD B_laws_wpInts
theorem F_laws_wpInts_eq (d:List Int×List Int):F_laws_wpInts d=B_laws_wpInts d:=congrFun (sealD_eq B_laws_wpInts) d
def e_laws_wpInts:TE:=⟨20,[.lst (.int .i64),.lst (.int .i64)],[],(.bool),[],F_laws_wpInts⟩
theorem x_laws_wpInts (d:List Int×List Int):execF [] cy20 c20 [.t 4] [.lst (.int .i64),.lst (.int .i64)] [] (.bool) [] d=F_laws_wpInts d:=Eq.trans (b:=B_laws_wpInts d) (by kernel_rfl) (F_laws_wpInts_eq d).symm
def B_laws_wpIn (d:List Int×Int):Option Bool:=bindD (loopO (fun (s:Int)=>condD (decide (s<(d.1.length:Int))) (gd (decide (0≤s)) (bindD d.1[s.toNat]? fun (x:Int)=>condD (x == d.2) (some (Sum.inr (Sum.inr true))) (gd (i64B (s+1)) (some (Sum.inl (s+1)))))) (some (Sum.inr (Sum.inl s)))) 0) fun (x:Int ⊕ Bool)=>caseS x (fun d=>some false) fun r=>some r
def F_laws_wpIn:List Int×Int→Option Bool:=sealD B_laws_wpIn
theorem F_laws_wpIn_eq (d:List Int×Int):F_laws_wpIn d=B_laws_wpIn d:=congrFun (sealD_eq B_laws_wpIn) d
def e_laws_wpIn:TE:=⟨21,[.lst (.int .i64),.int .i64],[],(.bool),[],F_laws_wpIn⟩
theorem x_laws_wpIn (d:List Int×Int):execF [] cy21 c21 [.t 4] [.lst (.int .i64),.int .i64] [] (.bool) [] d=F_laws_wpIn d:=Eq.trans (b:=B_laws_wpIn d) (by kernel_rfl) (F_laws_wpIn_eq d).symm
def B_laws_FnRouteParts (d:List Int):Option Bool:=condD (decide ((d.length:Int)>1048576)) (some true) (bindD (F_DrawRouteParts d) fun (x:List Stp)=>bindD (F_impl_RouteParts x) fun (x_1:List Int)=>bindD (F_RouteParts x) fun (x_2:List Int)=>bindD (F_laws_wpInts (x_1,x_2)) fun (x_3:Bool)=>condD (!x_3) (some false) (bindD (loopO (fun (s:Int)=>condD (decide (s<(x_1.length:Int))) (bindD (loopO (fun (s_1:Bool×Int)=>condD (decide (s_1.2<(x.length:Int))) (bindD (condD s_1.1 (some true) (gd (decide (0≤s_1.2)) (bindD x[s_1.2.toNat]? fun (x:Stp)=>gd (decide (0≤s)) (bindD x_1[s.toNat]? fun (x_4:Int)=>some (x.part == x_4))))) fun (x:Bool)=>gd (i64B (s_1.2+1)) (some (Sum.inl (x,s_1.2+1)))) (some (Sum.inr (s_1.1,s_1.2)))) (false,0)) fun (x:Bool×Int)=>bindD (condD (!x.1) (some true) (condD (decide (s>0)) (gd (i64B (s - 1)) (gd (decide (0≤s - 1)) (bindD x_1[Int.toNat (s - 1)]? fun (x:Int)=>gd (decide (0≤s)) (bindD x_1[s.toNat]? fun (x_4:Int)=>some (decide (x≥x_4)))))) (some false))) fun (x:Bool)=>condD x (some (Sum.inr (Sum.inr false))) (gd (i64B (s+1)) (some (Sum.inl (s+1))))) (some (Sum.inr (Sum.inl s)))) 0) fun (x_4:Int ⊕ Bool)=>caseS x_4 (fun d=>bindD (loopO (fun (s:Int)=>condD (decide (s<(x.length:Int))) (gd (decide (0≤s)) (bindD x[s.toNat]? fun (x:Stp)=>bindD (F_laws_wpIn (x_1,x.part)) fun (x:Bool)=>condD (!x) (some (Sum.inr (Sum.inr false))) (gd (i64B (s+1)) (some (Sum.inl (s+1)))))) (some (Sum.inr (Sum.inl s)))) 0) fun (x:Int ⊕ Bool)=>caseS x (fun d=>some true) fun r=>some r) fun r=>some r))
def F_laws_FnRouteParts:List Int→Option Bool:=sealD B_laws_FnRouteParts
theorem F_laws_FnRouteParts_eq (d:List Int):F_laws_FnRouteParts d=B_laws_FnRouteParts d:=congrFun (sealD_eq B_laws_FnRouteParts) d
def e_laws_FnRouteParts:TE:=⟨5,[.lst (.int .u8)],[],(.bool),[],F_laws_FnRouteParts⟩
theorem x_laws_FnRouteParts (d:List Int):execF [e_DrawRouteParts,e_impl_RouteParts,e_RouteParts,e_laws_wpInts,e_laws_wpIn] cy5 c5 [.t 2] [.lst (.int .u8)] [] (.bool) [] d=F_laws_FnRouteParts d:=Eq.trans (b:=B_laws_FnRouteParts d) (by kernel_rfl) (F_laws_FnRouteParts_eq d).symm
end
end Go.Fw
namespace Go.Fw
open Go Go.Proofs
set_option maxRecDepth 100000
set_option linter.unusedVariables false
theorem mixT:Try.prog.follows .mixedOrders=true:=by kernel_rfl
theorem ok31:FnOk Try.prog 31 c31 1 [.t 2]:=⟨⟨Try.f31,Try.func31,by kernel_rfl⟩,Try.call31,mixT⟩
theorem ok33:FnOk Try.prog 33 c33 2 [.t 4]:=⟨⟨Try.f33,Try.func33,by kernel_rfl⟩,Try.call33,mixT⟩
theorem ok95:FnOk Try.prog 95 c95 1 [.t 2]:=⟨⟨Try.f95,Try.func95,by kernel_rfl⟩,Try.call95,mixT⟩
theorem ok84:FnOk Try.prog 84 c84 0 [.t 0]:=⟨⟨Try.f84,Try.func84,by kernel_rfl⟩,Try.call84,mixT⟩
theorem ok100:FnOk Try.prog 100 c100 1 [.t 2]:=⟨⟨Try.f100,Try.func100,by kernel_rfl⟩,Try.call100,mixT⟩
theorem ok98:FnOk Try.prog 98 c98 2 [.t 4]:=⟨⟨Try.f98,Try.func98,by kernel_rfl⟩,Try.call98,mixT⟩
theorem ok115:FnOk Try.prog 115 c115 2 [.c 4 (some 2)]:=⟨⟨Try.f115,Try.func115,by kernel_rfl⟩,Try.call115,mixT⟩
theorem ok116:FnOk Try.prog 116 c116 2 [.t 4]:=⟨⟨Try.f116,Try.func116,by kernel_rfl⟩,Try.call116,mixT⟩
theorem ok96:FnOk Try.prog 96 c96 3 [.c 6 (some 2)]:=⟨⟨Try.f96,Try.func96,by kernel_rfl⟩,Try.call96,mixT⟩
theorem ok80:FnOk Try.prog 80 c80 1 [.t 2]:=⟨⟨Try.f80,Try.func80,by kernel_rfl⟩,Try.call80,mixT⟩
theorem ok35:FnOk Try.prog 35 c35 3 [.t 6]:=⟨⟨Try.f35,Try.func35,by kernel_rfl⟩,Try.call35,mixT⟩
theorem ok119:FnOk Try.prog 119 c119 1 [.t 2]:=⟨⟨Try.f119,Try.func119,by kernel_rfl⟩,Try.call119,mixT⟩
theorem ok107:FnOk Try.prog 107 c107 1 [.t 2]:=⟨⟨Try.f107,Try.func107,by kernel_rfl⟩,Try.call107,mixT⟩
theorem ok120:FnOk Try.prog 120 c120 1 [.t 2]:=⟨⟨Try.f120,Try.func120,by kernel_rfl⟩,Try.call120,mixT⟩
theorem ok121:FnOk Try.prog 121 c121 2 [.t 4]:=⟨⟨Try.f121,Try.func121,by kernel_rfl⟩,Try.call121,mixT⟩
theorem ok108:FnOk Try.prog 108 c108 2 [.t 4]:=⟨⟨Try.f108,Try.func108,by kernel_rfl⟩,Try.call108,mixT⟩
theorem ok122:FnOk Try.prog 122 c122 1 [.t 2]:=⟨⟨Try.f122,Try.func122,by kernel_rfl⟩,Try.call122,mixT⟩
theorem ok109:FnOk Try.prog 109 c109 1 [.t 2]:=⟨⟨Try.f109,Try.func109,by kernel_rfl⟩,Try.call109,mixT⟩
theorem ok87:FnOk Try.prog 87 c87 1 [.c 2 (some 2)]:=⟨⟨Try.f87,Try.func87,by kernel_rfl⟩,Try.call87,mixT⟩
theorem ok104:FnOk Try.prog 104 c104 2 [.t 4]:=⟨⟨Try.f104,Try.func104,by kernel_rfl⟩,Try.call104,mixT⟩
theorem ok110:FnOk Try.prog 110 c110 3 [.c 6 (some 8),.t 7]:=⟨⟨Try.f110,Try.func110,by kernel_rfl⟩,Try.call110,mixT⟩
theorem ok88:FnOk Try.prog 88 c88 3 [.t 6]:=⟨⟨Try.f88,Try.func88,by kernel_rfl⟩,Try.call88,mixT⟩
theorem ok118:FnOk Try.prog 118 c118 2 [.t 4]:=⟨⟨Try.f118,Try.func118,by kernel_rfl⟩,Try.call118,mixT⟩
theorem ok105:FnOk Try.prog 105 c105 4 [.t 8]:=⟨⟨Try.f105,Try.func105,by kernel_rfl⟩,Try.call105,mixT⟩
theorem ok85:FnOk Try.prog 85 c85 1 [.c 2 (some 4)]:=⟨⟨Try.f85,Try.func85,by kernel_rfl⟩,Try.call85,mixT⟩
theorem ok106:FnOk Try.prog 106 c106 2 [.c 4 (some 3)]:=⟨⟨Try.f106,Try.func106,by kernel_rfl⟩,Try.call106,mixT⟩
theorem ok86:FnOk Try.prog 86 c86 1 [.c 2 (some 2)]:=⟨⟨Try.f86,Try.func86,by kernel_rfl⟩,Try.call86,mixT⟩
theorem ok70:FnOk Try.prog 70 c70 1 [.c 2 (some 3),.c 3 (some 4)]:=⟨⟨Try.f70,Try.func70,by kernel_rfl⟩,Try.call70,mixT⟩
theorem ok113:FnOk Try.prog 113 c113 3 [.t 6]:=⟨⟨Try.f113,Try.func113,by kernel_rfl⟩,Try.call113,mixT⟩
theorem ok111:FnOk Try.prog 111 c111 2 [.t 4]:=⟨⟨Try.f111,Try.func111,by kernel_rfl⟩,Try.call111,mixT⟩
theorem ok90:FnOk Try.prog 90 c90 3 [.t 6]:=⟨⟨Try.f90,Try.func90,by kernel_rfl⟩,Try.call90,mixT⟩
theorem ok112:FnOk Try.prog 112 c112 4 [.t 8]:=⟨⟨Try.f112,Try.func112,by kernel_rfl⟩,Try.call112,mixT⟩
theorem ok127:FnOk Try.prog 127 c127 2 [.t 4]:=⟨⟨Try.f127,Try.func127,by kernel_rfl⟩,Try.call127,mixT⟩
theorem ok117:FnOk Try.prog 117 c117 4 []:=⟨⟨Try.f117,Try.func117,by kernel_rfl⟩,Try.call117,mixT⟩
theorem ok97:FnOk Try.prog 97 c97 2 [.t 4]:=⟨⟨Try.f97,Try.func97,by kernel_rfl⟩,Try.call97,mixT⟩
theorem ok81:FnOk Try.prog 81 c81 1 [.t 2,.t 3]:=⟨⟨Try.f81,Try.func81,by kernel_rfl⟩,Try.call81,mixT⟩
theorem ok67:FnOk Try.prog 67 c67 1 [.t 2]:=⟨⟨Try.f67,Try.func67,by kernel_rfl⟩,Try.call67,mixT⟩
theorem ok69:FnOk Try.prog 69 c69 1 [.c 2 (some 2)]:=⟨⟨Try.f69,Try.func69,by kernel_rfl⟩,Try.call69,mixT⟩
theorem ok99:FnOk Try.prog 99 c99 2 [.t 4]:=⟨⟨Try.f99,Try.func99,by kernel_rfl⟩,Try.call99,mixT⟩
theorem ok101:FnOk Try.prog 101 c101 1 [.t 2]:=⟨⟨Try.f101,Try.func101,by kernel_rfl⟩,Try.call101,mixT⟩
theorem ok82:FnOk Try.prog 82 c82 4 [.t 8]:=⟨⟨Try.f82,Try.func82,by kernel_rfl⟩,Try.call82,mixT⟩
theorem ok102:FnOk Try.prog 102 c102 3 [.t 6]:=⟨⟨Try.f102,Try.func102,by kernel_rfl⟩,Try.call102,mixT⟩
theorem ok103:FnOk Try.prog 103 c103 1 [.t 2]:=⟨⟨Try.f103,Try.func103,by kernel_rfl⟩,Try.call103,mixT⟩
theorem ok83:FnOk Try.prog 83 c83 1 [.t 2]:=⟨⟨Try.f83,Try.func83,by kernel_rfl⟩,Try.call83,mixT⟩
theorem ok89:FnOk Try.prog 89 c89 4 [.c 8 (some 2)]:=⟨⟨Try.f89,Try.func89,by kernel_rfl⟩,Try.call89,mixT⟩
theorem ok71:FnOk Try.prog 71 c71 2 [.c 4 (some 2)]:=⟨⟨Try.f71,Try.func71,by kernel_rfl⟩,Try.call71,mixT⟩
theorem ok68:FnOk Try.prog 68 c68 2 [.t 4]:=⟨⟨Try.f68,Try.func68,by kernel_rfl⟩,Try.call68,mixT⟩
theorem ok49:FnOk Try.prog 49 c49 1 [.t 2,.t 3]:=⟨⟨Try.f49,Try.func49,by kernel_rfl⟩,Try.call49,mixT⟩
theorem ok91:FnOk Try.prog 91 c91 5 [.t 10]:=⟨⟨Try.f91,Try.func91,by kernel_rfl⟩,Try.call91,mixT⟩
theorem ok123:FnOk Try.prog 123 c123 2 [.t 4]:=⟨⟨Try.f123,Try.func123,by kernel_rfl⟩,Try.call123,mixT⟩
theorem ok124:FnOk Try.prog 124 c124 2 [.t 4]:=⟨⟨Try.f124,Try.func124,by kernel_rfl⟩,Try.call124,mixT⟩
theorem ok125:FnOk Try.prog 125 c125 1 [.c 2 (some 5)]:=⟨⟨Try.f125,Try.func125,by kernel_rfl⟩,Try.call125,mixT⟩
theorem ok126:FnOk Try.prog 126 c126 5 [.t 10]:=⟨⟨Try.f126,Try.func126,by kernel_rfl⟩,Try.call126,mixT⟩
theorem ok114:FnOk Try.prog 114 c114 7 [.t 14]:=⟨⟨Try.f114,Try.func114,by kernel_rfl⟩,Try.call114,mixT⟩
theorem ok92:FnOk Try.prog 92 c92 5 [.t 10]:=⟨⟨Try.f92,Try.func92,by kernel_rfl⟩,Try.call92,mixT⟩
theorem ok72:FnOk Try.prog 72 c72 3 [.t 6,.t 7]:=⟨⟨Try.f72,Try.func72,by kernel_rfl⟩,Try.call72,mixT⟩
theorem ok93:FnOk Try.prog 93 c93 1 [.t 2]:=⟨⟨Try.f93,Try.func93,by kernel_rfl⟩,Try.call93,mixT⟩
theorem ok73:FnOk Try.prog 73 c73 1 [.t 2]:=⟨⟨Try.f73,Try.func73,by kernel_rfl⟩,Try.call73,mixT⟩
theorem ok50:FnOk Try.prog 50 c50 2 [.t 4,.t 5]:=⟨⟨Try.f50,Try.func50,by kernel_rfl⟩,Try.call50,mixT⟩
theorem ok32:FnOk Try.prog 32 c32 1 [.t 2]:=⟨⟨Try.f32,Try.func32,by kernel_rfl⟩,Try.call32,mixT⟩
theorem ok15:FnOk Try.prog 15 c15 1 [.t 2]:=⟨⟨Try.f15,Try.func15,by kernel_rfl⟩,Try.call15,mixT⟩
theorem ok19:FnOk Try.prog 19 c19 1 [.t 2]:=⟨⟨Try.f19,Try.func19,by kernel_rfl⟩,Try.call19,mixT⟩
theorem ok9:FnOk Try.prog 9 c9 1 [.t 2]:=⟨⟨Try.f9,Try.func9,by kernel_rfl⟩,Try.call9,mixT⟩
theorem ok7:FnOk Try.prog 7 c7 1 [.t 2]:=⟨⟨Try.f7,Try.func7,by kernel_rfl⟩,Try.call7,mixT⟩
theorem ok20:FnOk Try.prog 20 c20 2 [.t 4]:=⟨⟨Try.f20,Try.func20,by kernel_rfl⟩,Try.call20,mixT⟩
theorem ok21:FnOk Try.prog 21 c21 2 [.t 4]:=⟨⟨Try.f21,Try.func21,by kernel_rfl⟩,Try.call21,mixT⟩
theorem ok5:FnOk Try.prog 5 c5 1 [.t 2]:=⟨⟨Try.f5,Try.func5,by kernel_rfl⟩,Try.call5,mixT⟩
theorem k_l1Open:EOk Try.prog e_l1Open:=EOk.te (Φ:=[]) (tys:=cy31) ok31 rfl (trivial) (by kernel_rfl) rfl (x_l1Open)
theorem k_l1Rd_pick:EOk Try.prog e_l1Rd_pick:=EOk.te (Φ:=[]) (tys:=cy33) ok33 rfl (trivial) (by kernel_rfl) rfl (x_l1Rd_pick)
theorem kn_l1Dec (n:Nat):EOk Try.prog (e_l1Dec n):=by
 induction n with
 | zero=>exact EOk.zeroP rfl rfl (fun _=>rfl)
 | succ n ih=>exact EOk.pure (Φ:=[e_l1Dec n]) (tys:=cy95) ok95 rfl (⟨ih,trivial⟩) rfl rfl (x_l1Dec n)
theorem k_l1Dec:EOk Try.prog l_l1Dec:=EOk.limP (fun n=>(kn_l1Dec n))
theorem k_l11Fields:EOk Try.prog e_l11Fields:=EOk.pure (Φ:=[]) (tys:=cy84) ok84 rfl (trivial) rfl rfl (x_l11Fields)
theorem k_l2Scalar:EOk Try.prog e_l2Scalar:=EOk.pure (Φ:=[]) (tys:=cy100) ok100 rfl (trivial) rfl rfl (x_l2Scalar)
theorem k_l2Type:EOk Try.prog e_l2Type:=EOk.pure (Φ:=[]) (tys:=cy98) ok98 rfl (trivial) rfl rfl (x_l2Type)
theorem k_l11Need:EOk Try.prog e_l11Need:=EOk.te (Φ:=[e_l2Scalar,e_l2Type]) (tys:=cy115) ok115 rfl (⟨k_l2Scalar,⟨k_l2Type,trivial⟩⟩) (by kernel_rfl) rfl (x_l11Need)
theorem k_l2Field:EOk Try.prog e_l2Field:=EOk.pure (Φ:=[]) (tys:=cy116) ok116 rfl (trivial) rfl rfl (x_l2Field)
theorem k_l11Give:EOk Try.prog e_l11Give:=EOk.te (Φ:=[e_l11Need,e_l2Type,e_l2Field]) (tys:=cy96) ok96 rfl (⟨k_l11Need,⟨k_l2Type,⟨k_l2Field,trivial⟩⟩⟩) (by kernel_rfl) rfl (x_l11Give)
theorem k_l11Parts:EOk Try.prog e_l11Parts:=EOk.te (Φ:=[e_l1Rd_pick,l_l1Dec,e_l11Fields,e_l11Give]) (tys:=cy80) ok80 rfl (⟨k_l1Rd_pick,⟨k_l1Dec,⟨k_l11Fields,⟨k_l11Give,trivial⟩⟩⟩⟩) (by kernel_rfl) rfl (x_l11Parts)
theorem k_l1In:EOk Try.prog e_l1In:=EOk.pure (Φ:=[]) (tys:=cy35) ok35 rfl (trivial) rfl rfl (x_l1In)
theorem k_l1Name:EOk Try.prog e_l1Name:=EOk.pure (Φ:=[e_l1In]) (tys:=cy119) ok119 rfl (⟨k_l1In,trivial⟩) rfl rfl (x_l1Name)
theorem k_l2Name:EOk Try.prog e_l2Name:=EOk.pure (Φ:=[e_l1Name,e_l2Scalar]) (tys:=cy107) ok107 rfl (⟨k_l1Name,⟨k_l2Scalar,trivial⟩⟩) rfl rfl (x_l2Name)
theorem k_l2Key:EOk Try.prog e_l2Key:=EOk.pure (Φ:=[e_l2Field]) (tys:=cy120) ok120 rfl (⟨k_l2Field,trivial⟩) rfl rfl (x_l2Key)
theorem k_l2Needs:EOk Try.prog e_l2Needs:=EOk.pure (Φ:=[e_l2Field]) (tys:=cy121) ok121 rfl (⟨k_l2Field,trivial⟩) rfl rfl (x_l2Needs)
theorem k_l2Fault:EOk Try.prog e_l2Fault:=EOk.pure (Φ:=[e_l2Name,e_l2Scalar,e_l2Type,e_l2Field,e_l2Key,e_l2Needs]) (tys:=cy108) ok108 rfl (⟨k_l2Name,⟨k_l2Scalar,⟨k_l2Type,⟨k_l2Field,⟨k_l2Key,⟨k_l2Needs,trivial⟩⟩⟩⟩⟩⟩) rfl rfl (x_l2Fault)
theorem k_l2Line:EOk Try.prog e_l2Line:=EOk.pure (Φ:=[]) (tys:=cy122) ok122 rfl (trivial) rfl rfl (x_l2Line)
theorem k_l2Write:EOk Try.prog e_l2Write:=EOk.pure (Φ:=[e_l2Line]) (tys:=cy109) ok109 rfl (⟨k_l2Line,trivial⟩) rfl rfl (x_l2Write)
theorem k_PartCheck:EOk Try.prog e_PartCheck:=EOk.pure (Φ:=[e_l2Name,e_l2Fault,e_l2Write]) (tys:=cy87) ok87 rfl (⟨k_l2Name,⟨k_l2Fault,⟨k_l2Write,trivial⟩⟩⟩) rfl rfl (x_PartCheck)
theorem k_l6Key:EOk Try.prog e_l6Key:=EOk.pure (Φ:=[e_l2Type]) (tys:=cy104) ok104 rfl (⟨k_l2Type,trivial⟩) rfl rfl (x_l6Key)
theorem k_l2Get:EOk Try.prog e_l2Get:=EOk.pure (Φ:=[e_l2Type,e_l2Field]) (tys:=cy110) ok110 rfl (⟨k_l2Type,⟨k_l2Field,trivial⟩⟩) rfl rfl (x_l2Get)
theorem k_l6Owners:EOk Try.prog e_l6Owners:=EOk.pure (Φ:=[e_l2Get]) (tys:=cy88) ok88 rfl (⟨k_l2Get,trivial⟩) rfl rfl (x_l6Owners)
theorem k_l6Alike:EOk Try.prog e_l6Alike:=EOk.pure (Φ:=[]) (tys:=cy118) ok118 rfl (trivial) rfl rfl (x_l6Alike)
theorem k_l6Field:EOk Try.prog e_l6Field:=EOk.pure (Φ:=[e_l6Owners,e_l2Get,e_l6Alike,e_l6Key]) (tys:=cy105) ok105 rfl (⟨k_l6Owners,⟨k_l2Get,⟨k_l6Alike,⟨k_l6Key,trivial⟩⟩⟩⟩) rfl rfl (x_l6Field)
theorem k_l6Fault:EOk Try.prog e_l6Fault:=EOk.pure (Φ:=[e_PartCheck,e_l6Key,e_l6Field]) (tys:=cy85) ok85 rfl (⟨k_PartCheck,⟨k_l6Key,⟨k_l6Field,trivial⟩⟩⟩) rfl rfl (x_l6Fault)
theorem k_l6Put:EOk Try.prog e_l6Put:=EOk.pure (Φ:=[e_l2Field]) (tys:=cy106) ok106 rfl (⟨k_l2Field,trivial⟩) rfl rfl (x_l6Put)
theorem k_l6All:EOk Try.prog e_l6All:=EOk.pure (Φ:=[e_l2Type,e_l6Key,e_l6Put]) (tys:=cy86) ok86 rfl (⟨k_l2Type,⟨k_l6Key,⟨k_l6Put,trivial⟩⟩⟩) rfl rfl (x_l6All)
theorem k_ChartMake:EOk Try.prog e_ChartMake:=EOk.pure (Φ:=[e_l6Fault,e_l6All,e_PartCheck,e_l6Owners]) (tys:=cy70) ok70 rfl (⟨k_l6Fault,⟨k_l6All,⟨k_PartCheck,⟨k_l6Owners,trivial⟩⟩⟩⟩) rfl rfl (x_ChartMake)
theorem k_l7Local:EOk Try.prog e_l7Local:=EOk.pure (Φ:=[e_l2Get]) (tys:=cy113) ok113 rfl (⟨k_l2Get,trivial⟩) rfl rfl (x_l7Local)
theorem k_l7Keyed:EOk Try.prog e_l7Keyed:=EOk.pure (Φ:=[e_l2Type]) (tys:=cy111) ok111 rfl (⟨k_l2Type,trivial⟩) rfl rfl (x_l7Keyed)
theorem k_l7First:EOk Try.prog e_l7First:=EOk.pure (Φ:=[e_l2Get,e_l7Keyed]) (tys:=cy90) ok90 rfl (⟨k_l2Get,⟨k_l7Keyed,trivial⟩⟩) rfl rfl (x_l7First)
theorem k_l7Next:EOk Try.prog e_l7Next:=EOk.pure (Φ:=[e_l7Local,e_l7First,e_l2Get,e_l7Keyed]) (tys:=cy112) ok112 rfl (⟨k_l7Local,⟨k_l7First,⟨k_l2Get,⟨k_l7Keyed,trivial⟩⟩⟩⟩) rfl rfl (x_l7Next)
theorem k_l7Seen:EOk Try.prog e_l7Seen:=EOk.pure (Φ:=[]) (tys:=cy127) ok127 rfl (trivial) rfl rfl (x_l7Seen)
theorem k_l7Walk_l7Go:EOk Try.prog e_l7Walk_l7Go:=EOk.te (Φ:=[e_l2Type,e_l7Next,e_l2Scalar,e_l7Seen]) (tys:=cy117) ok117 rfl (⟨k_l2Type,⟨k_l7Next,⟨k_l2Scalar,⟨k_l7Seen,trivial⟩⟩⟩⟩) (by kernel_rfl) rfl (x_l7Walk_l7Go)
theorem k_l7All:EOk Try.prog e_l7All:=EOk.te (Φ:=[e_l7Walk_l7Go]) (tys:=cy97) ok97 rfl (⟨k_l7Walk_l7Go,trivial⟩) (by kernel_rfl) rfl (x_l7All)
theorem k_ReachOk:EOk Try.prog e_ReachOk:=EOk.pure (Φ:=[e_ChartMake,e_l7All]) (tys:=cy81) ok81 rfl (⟨k_ChartMake,⟨k_l7All,trivial⟩⟩) rfl rfl (x_ReachOk)
theorem k_l11Known:EOk Try.prog e_l11Known:=EOk.te (Φ:=[e_l11Parts,e_ReachOk]) (tys:=cy67) ok67 rfl (⟨k_l11Parts,⟨k_ReachOk,trivial⟩⟩) (by kernel_rfl) rfl (x_l11Known)
theorem k_l11All:EOk Try.prog e_l11All:=EOk.pure (Φ:=[e_ChartMake,e_l11Fields]) (tys:=cy69) ok69 rfl (⟨k_ChartMake,⟨k_l11Fields,trivial⟩⟩) rfl rfl (x_l11All)
theorem k_l1Rd_of:EOk Try.prog e_l1Rd_of:=EOk.te (Φ:=[e_l1Rd_pick]) (tys:=cy99) ok99 rfl (⟨k_l1Rd_pick,trivial⟩) (by kernel_rfl) rfl (x_l1Rd_of)
theorem k_l3Key:EOk Try.prog e_l3Key:=EOk.pure (Φ:=[]) (tys:=cy101) ok101 rfl (trivial) rfl rfl (x_l3Key)
theorem kn_l11Sels (n:Nat):EOk Try.prog (e_l11Sels n):=by
 induction n with
 | zero=>exact EOk.zeroT (by kernel_rfl) rfl (fun _=>rfl)
 | succ n ih=>exact EOk.te (Φ:=[e_l2Type,e_l1Rd_pick,e_l1Rd_of,e_l2Scalar,e_l11Sels n,e_l3Key]) (tys:=cy82) ok82 rfl (⟨k_l2Type,⟨k_l1Rd_pick,⟨k_l1Rd_of,⟨k_l2Scalar,⟨ih,⟨k_l3Key,trivial⟩⟩⟩⟩⟩⟩) (by kernel_rfl) rfl (x_l11Sels n)
theorem k_l11Sels:EOk Try.prog l_l11Sels:=EOk.limT rfl (fun n=>(kn_l11Sels n))
theorem kn_l3Ok (n:Nat):EOk Try.prog (e_l3Ok n):=by
 induction n with
 | zero=>exact EOk.zeroP rfl rfl (fun _=>rfl)
 | succ n ih=>exact EOk.pure (Φ:=[e_l2Name,e_l1In,e_l3Key,e_l3Ok n]) (tys:=cy102) ok102 rfl (⟨k_l2Name,⟨k_l1In,⟨k_l3Key,⟨ih,trivial⟩⟩⟩⟩) rfl rfl (x_l3Ok n)
theorem k_l3Ok:EOk Try.prog l_l3Ok:=EOk.limP (fun n=>(kn_l3Ok n))
theorem kn_l3Write (n:Nat):EOk Try.prog (e_l3Write n):=by
 induction n with
 | zero=>exact EOk.zeroP rfl rfl (fun _=>rfl)
 | succ n ih=>exact EOk.pure (Φ:=[l_l1Dec,e_l3Write n]) (tys:=cy103) ok103 rfl (⟨k_l1Dec,⟨ih,trivial⟩⟩) rfl rfl (x_l3Write n)
theorem k_l3Write:EOk Try.prog l_l3Write:=EOk.limP (fun n=>(kn_l3Write n))
theorem k_AskOk:EOk Try.prog e_AskOk:=EOk.pure (Φ:=[l_l3Ok,l_l3Write]) (tys:=cy83) ok83 rfl (⟨k_l3Ok,⟨k_l3Write,trivial⟩⟩) rfl rfl (x_AskOk)
theorem kn_l3Check (n:Nat):EOk Try.prog (e_l3Check n):=by
 induction n with
 | zero=>exact EOk.zeroP rfl rfl (fun _=>rfl)
 | succ n ih=>exact EOk.pure (Φ:=[e_l3Key,e_l2Get,e_l2Scalar,e_l3Check n]) (tys:=cy89) ok89 rfl (⟨k_l3Key,⟨k_l2Get,⟨k_l2Scalar,⟨ih,trivial⟩⟩⟩⟩) rfl rfl (x_l3Check n)
theorem k_l3Check:EOk Try.prog l_l3Check:=EOk.limP (fun n=>(kn_l3Check n))
theorem k_AskCheck:EOk Try.prog e_AskCheck:=EOk.pure (Φ:=[e_PartCheck,e_AskOk,l_l3Check]) (tys:=cy71) ok71 rfl (⟨k_PartCheck,⟨k_AskOk,⟨k_l3Check,trivial⟩⟩⟩) rfl rfl (x_AskCheck)
theorem k_l11Ask:EOk Try.prog e_l11Ask:=EOk.te (Φ:=[l_l11Sels,e_AskOk,e_AskCheck]) (tys:=cy68) ok68 rfl (⟨k_l11Sels,⟨k_AskOk,⟨k_AskCheck,trivial⟩⟩⟩) (by kernel_rfl) rfl (x_l11Ask)
theorem k_l11Trip:EOk Try.prog e_l11Trip:=EOk.te (Φ:=[e_l11Known,e_l11All,e_l11Ask]) (tys:=cy49) ok49 rfl (⟨k_l11Known,⟨k_l11All,⟨k_l11Ask,trivial⟩⟩⟩) (by kernel_rfl) rfl (x_l11Trip)
theorem k_l8Plan_step:EOk Try.prog e_l8Plan_step:=EOk.te (Φ:=[]) (tys:=cy91) ok91 rfl (trivial) (by kernel_rfl) rfl (x_l8Plan_step)
theorem k_l8Add:EOk Try.prog e_l8Add:=EOk.pure (Φ:=[e_l3Key]) (tys:=cy123) ok123 rfl (⟨k_l3Key,trivial⟩) rfl rfl (x_l8Add)
theorem k_l8Words:EOk Try.prog e_l8Words:=EOk.pure (Φ:=[]) (tys:=cy124) ok124 rfl (trivial) rfl rfl (x_l8Words)
theorem k_l8Need:EOk Try.prog e_l8Need:=EOk.pure (Φ:=[]) (tys:=cy125) ok125 rfl (trivial) rfl rfl (x_l8Need)
theorem kn_l8Plan_own (n:Nat):EOk Try.prog (e_l8Plan_own n)∧EOk Try.prog (e_l8Plan_further n)∧EOk Try.prog (e_l8Plan_split n):=by
 induction n with
 | zero=>exact ⟨EOk.zeroT (by kernel_rfl) rfl (fun _=>rfl),EOk.zeroT (by kernel_rfl) rfl (fun _=>rfl),EOk.zeroT (by kernel_rfl) rfl (fun _=>rfl)⟩
 | succ n ih=>exact ⟨EOk.te (Φ:=[e_l2Get,e_l3Key,e_l8Plan_split n]) (tys:=cy126) ok126 rfl (⟨k_l2Get,⟨k_l3Key,⟨ih.2.2,trivial⟩⟩⟩) (by kernel_rfl) rfl (x_l8Plan_own n),EOk.te (Φ:=[e_l8Plan_step,e_l8Plan_split n,e_l2Type,e_l8Add,e_l2Get,e_l8Words,e_l7Local,e_l8Need,e_l7First,e_l8Plan_own n]) (tys:=cy114) ok114 rfl (⟨k_l8Plan_step,⟨ih.2.2,⟨k_l2Type,⟨k_l8Add,⟨k_l2Get,⟨k_l8Words,⟨k_l7Local,⟨k_l8Need,⟨k_l7First,⟨ih.1,trivial⟩⟩⟩⟩⟩⟩⟩⟩⟩⟩) (by kernel_rfl) rfl (x_l8Plan_further n),EOk.te (Φ:=[e_l7Next,e_l7Local,e_l2Get,e_l3Key,e_l8Plan_split n,e_l8Plan_further n]) (tys:=cy92) ok92 rfl (⟨k_l7Next,⟨k_l7Local,⟨k_l2Get,⟨k_l3Key,⟨ih.2.2,⟨ih.2.1,trivial⟩⟩⟩⟩⟩⟩) (by kernel_rfl) rfl (x_l8Plan_split n)⟩
theorem k_l8Plan_split:EOk Try.prog l_l8Plan_split:=EOk.limT rfl (fun n=>(kn_l8Plan_own n).2.2)
theorem k_l8Make:EOk Try.prog e_l8Make:=EOk.pure (Φ:=[e_l7First,e_l8Plan_step,l_l8Plan_split]) (tys:=cy72) ok72 rfl (⟨k_l7First,⟨k_l8Plan_step,⟨k_l8Plan_split,trivial⟩⟩⟩) rfl rfl (x_l8Make)
theorem kn_l3Copy (n:Nat):EOk Try.prog (e_l3Copy n):=by
 induction n with
 | zero=>exact EOk.zeroP rfl rfl (fun _=>rfl)
 | succ n ih=>exact EOk.pure (Φ:=[e_l3Copy n]) (tys:=cy93) ok93 rfl (⟨ih,trivial⟩) rfl rfl (x_l3Copy n)
theorem k_l3Copy:EOk Try.prog l_l3Copy:=EOk.limP (fun n=>(kn_l3Copy n))
theorem k_l8Copy:EOk Try.prog e_l8Copy:=EOk.te (Φ:=[l_l3Copy]) (tys:=cy73) ok73 rfl (⟨k_l3Copy,trivial⟩) (by kernel_rfl) rfl (x_l8Copy)
theorem k_RouteMake:EOk Try.prog e_RouteMake:=EOk.te (Φ:=[e_ChartMake,e_AskCheck,e_l8Make,e_l8Copy]) (tys:=cy50) ok50 rfl (⟨k_ChartMake,⟨k_AskCheck,⟨k_l8Make,⟨k_l8Copy,trivial⟩⟩⟩⟩) (by kernel_rfl) rfl (x_RouteMake)
theorem k_l11Steps:EOk Try.prog e_l11Steps:=EOk.te (Φ:=[e_l11Trip,e_RouteMake]) (tys:=cy32) ok32 rfl (⟨k_l11Trip,⟨k_RouteMake,trivial⟩⟩) (by kernel_rfl) rfl (x_l11Steps)
theorem k_DrawRouteDepth:EOk Try.prog e_DrawRouteDepth:=EOk.pure (Φ:=[e_l1Open,e_l11Steps,e_l1Rd_pick]) (tys:=cy15) ok15 rfl (⟨k_l1Open,⟨k_l11Steps,⟨k_l1Rd_pick,trivial⟩⟩⟩) rfl rfl (x_DrawRouteDepth)
theorem k_DrawRouteParts:EOk Try.prog e_DrawRouteParts:=EOk.pure (Φ:=[e_DrawRouteDepth]) (tys:=cy19) ok19 rfl (⟨k_DrawRouteDepth,trivial⟩) rfl rfl (x_DrawRouteParts)
theorem k_impl_RouteParts:EOk Try.prog e_impl_RouteParts:=EOk.pure (Φ:=[e_slices_Sort_int_int,e_slices_Compact_int_int,e_slices_Clone_int_int]) (tys:=cy9) ok9 rfl (⟨k_slices_Sort_int_int,⟨k_slices_Compact_int_int,⟨k_slices_Clone_int_int,trivial⟩⟩⟩) rfl rfl (x_impl_RouteParts)
theorem k_RouteParts:EOk Try.prog e_RouteParts:=EOk.pure (Φ:=[]) (tys:=cy7) ok7 rfl (trivial) rfl rfl (x_RouteParts)
theorem k_laws_wpInts:EOk Try.prog e_laws_wpInts:=EOk.pure (Φ:=[]) (tys:=cy20) ok20 rfl (trivial) rfl rfl (x_laws_wpInts)
theorem k_laws_wpIn:EOk Try.prog e_laws_wpIn:=EOk.pure (Φ:=[]) (tys:=cy21) ok21 rfl (trivial) rfl rfl (x_laws_wpIn)
theorem k_laws_FnRouteParts:EOk Try.prog e_laws_FnRouteParts:=EOk.pure (Φ:=[e_DrawRouteParts,e_impl_RouteParts,e_RouteParts,e_laws_wpInts,e_laws_wpIn]) (tys:=cy5) ok5 rfl (⟨k_DrawRouteParts,⟨k_impl_RouteParts,⟨k_RouteParts,⟨k_laws_wpInts,⟨k_laws_wpIn,trivial⟩⟩⟩⟩⟩) rfl rfl (x_laws_FnRouteParts)
end Go.Fw
namespace Go.Fw
open Go
def wp {α:Type}(x:Option α)(Q:α→Prop):Prop:=∃ a,x=some a∧Q a
theorem wp.mono {α:Type}{x:Option α}{Q R:α→Prop}(h:wp x Q)(hQ:∀ a,Q a→R a):wp x R:=let ⟨a,e,q⟩:=h; ⟨a,e,hQ a q⟩
theorem wd {α:Type}{a:α}{Q:α→Prop} : wp (some a) Q↔Q a:=⟨fun ⟨_,e,q⟩=>by cases e; exact q,fun h=>⟨a,rfl,h⟩⟩
theorem wb {α β:Type}{x:Option α}{f:α→Option β}{Q:β→Prop} : wp (bindD x f) Q↔wp x fun a=>wp (f a) Q:=by
 unfold bindD
 constructor
 ·rintro ⟨b,e,q⟩
  cases x with
  | none=>cases e
  | some a=>exact ⟨a,rfl,b,e,q⟩
 ·rintro ⟨a,rfl,b,e,q⟩
  exact ⟨b,e,q⟩
theorem wc {α:Type}{b:Bool}{x y:Option α}{Q:α→Prop} : wp (condD b x y) Q↔(b=true→wp x Q)∧(b=false→wp y Q):=by
 unfold condD
 cases b <;> simp
theorem wa {α:Type}{b:Bool}{x:Option α}{Q:α→Prop} : wp (gd b x) Q↔b=true∧wp x Q:=by
 unfold gd
 cases b with
 | true=>simp
 | false=>simp only [cond_false,Bool.false_eq_true,false_and,iff_false]; rintro ⟨_,e,_⟩; cases e
theorem vv {α β γ : Type}{x:α ⊕ β}{f:α→Option γ}{g:β→Option γ}{Q:γ→Prop} : wp (caseS x f g) Q↔(∀ a,x=.inl a→wp (f a) Q)∧(∀ b,x=.inr b→wp (g b) Q):=by
 cases x <;> simp [caseS]
theorem vw {α β γ : Type}{a:α}{f:α→γ}{g:β→γ} : caseS (Sum.inl a) f g=f a:=rfl
theorem vx {α β γ : Type}{b:β}{f:α→γ}{g:β→γ} : caseS (Sum.inr b) f g=g b:=rfl
theorem we {α:Type}{l:List α}{i:Nat}{Q:α→Prop} : wp l[i]? Q↔∃ h:i<l.length,Q l[i]:=by
 constructor
 ·rintro ⟨a,e,q⟩
  obtain ⟨h,e⟩:=List.getElem?_eq_some_iff.1 e
  exact ⟨h,e ▸ q⟩
 ·rintro ⟨h,q⟩
  exact ⟨_,List.getElem?_eq_getElem h,q⟩
theorem loopN_mono {σ ρ:Type}{b:σ→Option (σ ⊕ ρ)} : ∀ {n:Nat}{s:σ}{r:ρ},loopN b n s=some r→∀ {m:Nat},n≤m→loopN b m s=some r
 | 0,_,_,h,_,_=>by cases h
 | n+1,s,r,h,m,hm=>by
  obtain ⟨m,rfl⟩ : ∃ k,m=k+1:=⟨m - 1,by omega⟩
  simp only [loopN] at h ⊢
  split at h
  ·exact loopN_mono h (by omega)
  ·exact h
  ·cases h
theorem loopO_of {σ ρ:Type}{b:σ→Option (σ ⊕ ρ)}{n:Nat}{s:σ}{r:ρ}(h:loopN b n s=some r):loopO b s=some r:=by
 rw [loopO_eq]
 have he:∃ n,(loopN b n s).isSome:=⟨n,by rw [h]; rfl⟩
 rw [dif_pos he]
 obtain ⟨r',hr'⟩:=Option.isSome_iff_exists.1 he.choose_spec
 rw [hr']
 have h1:=loopN_mono hr' (Nat.le_max_left he.choose n)
 have h2:=loopN_mono h (Nat.le_max_right he.choose n)
 rw [h1] at h2
 exact h2
theorem wp_loop {σ ρ:Type}{b:σ→Option (σ ⊕ ρ)}{Q:ρ→Prop}(I:σ→Prop)(μ:σ→Nat){s:σ}(h0:I s)
  (hs:∀ s,I s→wp (b s) fun x=>(∀ s',x=.inl s'→I s'∧μ s'<μ s)∧(∀ r,x=.inr r→Q r)):wp (loopO b s) Q:=by
 have:∀ (k:Nat)(s:σ),I s→μ s<k→∃ n r,loopN b n s=some r∧Q r:=by
  intro k
  induction k with
  | zero=>intro s _ h; omega
  | succ k ih =>
   intro s hI hk
   obtain ⟨x,hx,h1,h2⟩:=hs s hI
   cases x with
   | inl s' =>
    obtain ⟨g1,g2⟩:=h1 s' rfl
    obtain ⟨n,r,h3,h4⟩:=ih s' g1 (by omega)
    exact ⟨n+1,r,by simp only [loopN,hx]; exact h3,h4⟩
   | inr r=>exact ⟨1,r,by simp only [loopN,hx],h2 r rfl⟩
 obtain ⟨n,r,h1,h2⟩:=this (μ s+1) s h0 (by omega)
 exact ⟨r,loopO_of h1,h2⟩
theorem vy {α β:Type}{a:α}{P:α→Prop}{Q:β→Prop} : ((∀ s',(Sum.inl a:α ⊕ β)=.inl s'→P s')∧(∀ r,(Sum.inl a:α ⊕ β)=.inr r→Q r))↔P a:=by simp
theorem vz {α β:Type}{b:β}{P:α→Prop}{Q:β→Prop} : ((∀ s',(Sum.inr b:α ⊕ β)=.inl s'→P s')∧(∀ r,(Sum.inr b:α ⊕ β)=.inr r→Q r))↔Q b:=by simp
def Le {α:Type}(x y:Option α):Prop:=∀ r,x=some r→y=some r
theorem Le.refl {α:Type}(x:Option α):Le x x:=fun _ h=>h
theorem Le.none {α:Type}{y:Option α} : Le none y:=fun _ h=>by cases h
theorem Le.bind {α β:Type}{x y:Option α}{f g:α→Option β}(h:Le x y)(hf:∀ a,Le (f a) (g a)):Le (bindD x f) (bindD y g):=by
 unfold bindD
 intro r hr
 cases x with
 | none=>cases hr
 | some a=>rw [h a rfl]; exact hf a r hr
theorem Le.cond {α:Type}{b:Bool}{x y x' y':Option α}(h:Le x x')(h':Le y y'):Le (condD b x y) (condD b x' y'):=by
 cases b
 ·exact h'
 ·exact h
theorem Le.gd {α:Type}{b:Bool}{x x':Option α}(h:Le x x'):Le (gd b x) (gd b x'):=by
 cases b
 ·exact Le.none
 ·exact h
theorem Le.caseS {α β γ : Type}{x:α ⊕ β}{f f':α→Option γ}{g g':β→Option γ}(h:∀ a,Le (f a) (f' a))(h':∀ b,Le (g b) (g' b)):Le (caseS x f g) (caseS x f' g'):=by
 cases x
 ·exact h _
 ·exact h' _
theorem Le.loop {σ ρ:Type}{b b':σ→Option (σ ⊕ ρ)}(h:∀ s,Le (b s) (b' s))(s:σ):Le (loopO b s) (loopO b' s):=by
 have:∀ n s,Le (loopN b n s) (loopN b' n s):=by
  intro n
  induction n with
  | zero=>intro s; exact Le.none
  | succ n ih =>
   intro s r hr
   simp only [loopN] at hr ⊢
   cases hx:b s with
   | none=>rw [hx] at hr; cases hr
   | some x =>
    rw [h s x hx]
    rw [hx] at hr
    cases x with
    | inl s'=>exact ih s' r hr
    | inr r'=>exact hr
 intro r hr
 rw [loopO_eq] at hr
 split at hr
 ·exact loopO_of (this _ s r hr)
 ·cases hr
theorem limF_of {α β:Type}{G:Nat→α→Option β}(hm:∀ n d,Le (G n d) (G (n+1) d)){n:Nat}{d:α}{r:β}(h:G n d=some r):limF G d=some r:=by
 have hm':∀ k n d,Le (G n d) (G (n+k) d):=by
  intro k
  induction k with
  | zero=>intro n d; exact Le.refl _
  | succ k ih=>intro n d r hr; exact hm _ _ _ (ih n d r hr)
 rw [limF_eq]
 have he:∃ n,(G n d).isSome:=⟨n,by rw [h]; rfl⟩
 rw [dif_pos he]
 obtain ⟨r',hr'⟩:=Option.isSome_iff_exists.1 he.choose_spec
 rw [hr']
 have h1:=hm' n he.choose d r' hr'
 have h2:=hm' he.choose n d r h
 rw [Nat.add_comm,h1] at h2
 exact h2
theorem wp_lim {α β:Type}{G:Nat→α→Option β}(hm:∀ n d,Le (G n d) (G (n+1) d)){n:Nat}{d:α}{Q:β→Prop}(h:wp (G n d) Q):wp (limF G d) Q:=let ⟨a,e,q⟩:=h; ⟨a,limF_of hm e,q⟩
theorem i64B_of {n:Int}(h1:-9223372036854775808≤n)(h2:n≤9223372036854775807):i64B n=true:=by simp [i64B,h1,h2]
theorem vu {n:Int} : i64B n=true↔-9223372036854775808≤n∧n≤9223372036854775807:=by simp [i64B]
theorem vb(a b:Bool):((a && b)=true)=(a=true∧b=true):=Bool.and_eq_true a b
theorem vc{p:Prop}[Decidable p]:(decide p=true)=p:=decide_eq_true_eq
theorem vd{p:Prop}[Decidable p]:decide p=false↔¬p:=decide_eq_false_iff_not
theorem ve{α:Type}[BEq α][LawfulBEq α]{a b:α}:(a == b)=true↔a=b:=beq_iff_eq
theorem vf{α:Type}[BEq α][LawfulBEq α]{a b:α}:(a != b)=true↔a≠b:=bne_iff_ne
theorem vg{α:Type}[BEq α][LawfulBEq α]{a b:α}:(a == b)=false↔a≠b:=beq_eq_false_iff_ne
theorem vh{α:Type}[BEq α][LawfulBEq α]{a b:α}:(a != b)=false↔a=b:=bne_eq_false_iff_eq
theorem vi:(true=false)=False:=Bool.true_eq_false
theorem vj:(false=true)=False:=Bool.false_eq_true
theorem vk(p:Prop):(False→p)=True:=false_implies p
theorem vl(p:Prop):(True→p)=p:=true_implies p
theorem vm(p:Prop):(p∧True)=p:=and_true p
theorem vn(p:Prop):(True∧p)=p:=true_and p
theorem vo(b:Bool):((!b)=true)=(b=false):=Bool.not_eq_true' b
theorem vp(b:Bool):((!b)=false)=(b=true):=Bool.not_eq_false' b
theorem vq(α:Sort _):(α→True)=True:=implies_true α
theorem vr{α:Type}{a b:List α}:(a++b).length=a.length+b.length:=List.length_append
theorem vs{α:Type}{a:α}{l:List α}:(a::l).length=l.length+1:=List.length_cons
theorem vt{α:Type}:([]:List α).length=0:=List.length_nil
end Go.Fw
namespace Go.Fw
open Go
structure Rd (b:List Int)(p:Int)(m:Nat):Prop where
 len:b.length≤2000
 byt:∀ x∈b,0≤x∧x≤255
 pos:0≤p
 far:p≤m
theorem wrap_i64 {n:Int}(h1:-9223372036854775808≤n)(h2:n≤9223372036854775807):IntKind.wrap .i64 n=n:=by
 simp only [IntKind.wrap,IntKind.bits,IntKind.signed]
 simp
 omega
theorem tmod_nn {a b:Int}(h1:0≤a)(h2:0<b):0≤Int.tmod a b∧Int.tmod a b<b:=⟨Int.tmod_nonneg _ h1,Int.tmod_lt_of_pos _ h2⟩
theorem xor_nn {a b:Int}(ha:0≤a)(ha2:a<9223372036854775808)(hb:0≤b)(hb2:b<9223372036854775808) :
  (BitVec.toNat (BitVec.ofInt (IntKind.bits .i64) a ^^^ BitVec.ofInt (IntKind.bits .i64) b))<9223372036854775808:=by
 have h:IntKind.bits .i64=64:=rfl
 rw [h,BitVec.toNat_xor,BitVec.toNat_ofInt,BitVec.toNat_ofInt]
 refine Nat.xor_lt_two_pow (n:=63) ?_ ?_ <;> omega
theorem open_wp {d:List Int}{Q:List Int×Int→Prop}(hb:∀ x∈d,0≤x∧x≤255)(h:∀ b,Rd b 0 0→Q (b,0)):wp (F_l1Open d) Q:=by
 rw [F_l1Open_eq]; unfold B_l1Open
 simp only [wa,wb,wc,wd,we,vw,vx,vv,vy,vz,vb,vc,vd,vu,ve,vf,vg,vh,vi,vj,vk,vl,vm,vn,vo,vp]
 refine ⟨fun hl=>⟨⟨⟨by omega,by omega⟩,by omega⟩,h _ ⟨?_,fun x hx=>hb x (List.mem_of_mem_drop (List.mem_of_mem_take hx)),by omega,by simp⟩⟩,fun hl=>h _ ⟨by omega,hb,by omega,by simp⟩⟩
 simp only [List.length_take]
 omega
theorem pick_wp {n:Int}{b:List Int}{p:Int}{m:Nat}{Q:Int×List Int×Int→Prop}(hR:Rd b p m)(hm:m≤1099511627776)(h:∀ v,(1≤n→0≤v∧v<n)→(n<1→v=0)→Rd b (p+1) (m+1)→Q (v,b,p+1)):wp (F_l1Rd_pick (n,b,p)) Q:=by
 obtain ⟨h1,h2,h3,h4⟩:=hR
 have hR':Rd b (p+1) (m+1):=⟨h1,h2,by omega,by omega⟩
 rw [F_l1Rd_pick_eq]; unfold B_l1Rd_pick
 simp only [wa,wb,wc,wd,we,vw,vx,vv,vy,vz,vb,vc,vd,vu,ve,vf,vg,vh,vi,vj,vk,vl,vm,vn,vo,vp]
 have hp:p+1 - 1=p:=by omega
 rw [hp]
 refine ⟨by omega,fun hn=>h 0 (by omega) (fun _=>rfl) hR',fun hn=>⟨fun hl=>h 0 (fun _=>by omega) (fun _=>rfl) hR',fun hl=>⟨by omega,fun hlt=>?_,fun hge=>?_⟩⟩⟩
 ·refine ⟨by omega,by omega,?_⟩
  have hx:=h2 (b[p.toNat]'(by omega)) (List.getElem_mem _)
  rw [wrap_i64 (by omega) (by omega)]
  obtain ⟨q1,q2⟩:=tmod_nn hx.1 (show 0<n by omega)
  exact ⟨by omega,h _ (fun _=>⟨q1,q2⟩) (by omega) hR'⟩
 ·have hl0:(0:Int)<b.length:=by omega
  obtain ⟨q1,q2⟩:=tmod_nn h3 hl0
  obtain ⟨q3,q4⟩:=tmod_nn (show 0≤p * 7+3 by omega) hl0
  have k1:(p.tmod b.length).toNat<b.length:=by omega
  have k2:((p * 7+3).tmod b.length).toNat<b.length:=by omega
  have hx:=h2 (b[(p.tmod b.length).toNat]'k1) (List.getElem_mem _)
  have hy:=h2 (b[((p * 7+3).tmod b.length).toNat]'k2) (List.getElem_mem _)
  have hd:0≤p.tdiv b.length∧p.tdiv b.length≤p:=⟨Int.tdiv_nonneg h3 (by omega),Int.tdiv_le_self _ h3⟩
  refine ⟨by omega,q1,k1,?_⟩
  rw [wrap_i64 (n:=b[(p.tmod b.length).toNat]'k1) (by omega) (by omega)]
  refine ⟨by omega,by omega,by omega,by omega,q3,k2,?_⟩
  rw [wrap_i64 (n:=b[((p * 7+3).tmod b.length).toNat]'k2) (by omega) (by omega)]
  generalize b[(p.tmod b.length).toNat]'k1=u at hx ⊢
  generalize b[((p * 7+3).tmod b.length).toNat]'k2=v at hy ⊢
  generalize p.tdiv b.length=e at hd ⊢
  have hz:0≤u * 131+v * 1117+p * 29+e * 53:=by omega
  have hz2:u * 131+v * 1117+p * 29+e * 53<9223372036854775807:=by omega
  generalize hzz:u * 131+v * 1117+p * 29+e * 53=z at hz hz2 ⊢
  have hq:0≤z.tdiv 64∧z.tdiv 64≤z:=⟨Int.tdiv_nonneg hz (by omega),Int.tdiv_le_self _ hz⟩
  refine ⟨by omega,by omega,by omega,by omega,by omega,by omega,by omega,by omega,by omega,by omega,?_⟩
  have hxr:=xor_nn hz (by omega) hq.1 (by omega)
  rw [wrap_i64 (by omega) (by omega)]
  obtain ⟨q5,q6⟩:=tmod_nn (a:=((BitVec.ofInt (IntKind.bits .i64) z ^^^ BitVec.ofInt (IntKind.bits .i64) (z.tdiv 64)).toNat:Int)) (by omega) (show 0<n by omega)
  exact h _ (fun _=>⟨q5,q6⟩) (by omega) hR'
theorem of_wp {l:List (List UInt8)}{b:List Int}{p:Int}{m:Nat}{Q:List UInt8×List Int×Int→Prop}(hR:Rd b p m)(hm:m≤1099511627776)(hl:0<l.length)(h:∀ v∈l,Rd b (p+1) (m+1)→Q (v,b,p+1)):wp (F_l1Rd_of (l,b,p)) Q:=by
 rw [F_l1Rd_of_eq]; unfold B_l1Rd_of
 simp only [wa,wb,wc,wd,we,vw,vx,vv,vy,vz,vb,vc,vd,vu,ve,vf,vg,vh,vi,vj,vk,vl,vm,vn,vo,vp]
 refine pick_wp hR hm fun v hv _ hR'=>?_
 obtain ⟨h1,h2⟩:=hv (by omega)
 exact ⟨by omega,by omega,h _ (List.getElem_mem _) hR'⟩
end Go.Fw
namespace Go.Fw
open Go
theorem find_wp {α:Type}{l:List α}{q:α→Bool}{Q:Int ⊕ Int→Prop}(hl:l.length≤4611686018427387904)
  (h1:∀ (i:Nat)(hi:i<l.length),q l[i]=true→(∀ (j:Nat)(hj:j<i),q (l[j]'(by omega))=false)→Q (.inr i))(h2:(∀ x∈l,q x=false)→Q (.inl l.length)) :
  wp (loopO (fun s:Int=>condD (decide (s<(l.length:Int))) (gd (decide (0≤s)) (bindD l[s.toNat]? fun x=>condD (q x) (some (Sum.inr (Sum.inr s))) (gd (i64B (s+1)) (some (Sum.inl (s+1)))))) (some (Sum.inr (Sum.inl s)))) 0) Q:=by
 refine wp_loop (fun s:Int=>0≤s∧s≤l.length∧∀ (j:Nat)(hj:j<s.toNat)(hj':j<l.length),q l[j]=false) (fun s:Int=>l.length - s.toNat) ⟨by omega,by omega,fun j hj=>by simp at hj⟩ fun s ⟨i1,i2,i3⟩=>?_
 simp only [wa,wb,wc,wd,we,vw,vx,vv,vy,vz,vb,vc,vd,vu,ve,vf,vg,vh,vi,vj,vk,vl,vm,vn,vo,vp]
 refine ⟨fun hlt=>⟨i1,by omega,fun hq=>?_,fun hq=>⟨⟨by omega,by omega⟩,⟨by omega,by omega,fun j hj hj'=>?_⟩,by omega⟩⟩,fun hge=>?_⟩
 ·have:=h1 s.toNat (by omega) hq fun j hj=>i3 j hj (by omega)
  rwa [Int.toNat_of_nonneg i1] at this
 ·rcases Nat.lt_or_ge j s.toNat with h | h
  ·exact i3 j h hj'
  ·obtain rfl:j=s.toNat:=by omega
   exact hq
 ·have:s=l.length:=by omega
  rw [this]
  refine h2 fun x hx=>?_
  obtain ⟨j,hj,rfl⟩:=List.getElem_of_mem hx
  exact i3 j (by omega) hj
theorem dec_mono (n:Nat)(d:Int):Le (F_l1Dec n d) (F_l1Dec (n+1) d):=by
 induction n generalizing d with
 | zero=>exact Le.none
 | succ n ih =>
  rw [F_l1Dec,F_l1Dec]
  exact .cond (.refl _) (.cond (.gd (.bind (ih _) fun _=>.refl _)) (.cond (.refl _) (.gd (.bind (ih _) fun _=>.refl _))))
theorem u8_len (n:Int):(List.map iByte [IntKind.wrap .u8 n]).length=1:=rfl
theorem dec_wpn (n:Nat):∀ (d:Int){Q:List UInt8→Prop},0≤d→d<10 ^ (n+1)→d<9223372036854775807→n≤1000→(∀ s,s.length≤n+1→Q s)→wp (F_l1Dec (n+1) d) Q:=by
 induction n with
 | zero =>
  intro d Q h1 h2 _ hn h
  have hB:BIG=9223372036854775807:=rfl
  rw [F_l1Dec]
  simp only [wa,wb,wc,wd,we,vw,vx,vv,vy,vz,vb,vc,vd,vu,ve,vf,vg,vh,vi,vj,vk,vl,vm,vn,vo,vp,u8_len,vs,vt]
  exact ⟨by omega,fun _=>⟨by omega,fun _=>⟨fun hd=>⟨⟨by omega,by omega⟩,by omega,h _ (by rw [u8_len]; omega)⟩,fun hd=>by omega⟩⟩⟩
 | succ n ih =>
  intro d Q h1 h2 h5 hn h
  have hB:BIG=9223372036854775807:=rfl
  rw [F_l1Dec]
  simp only [wa,wb,wc,wd,we,vw,vx,vv,vy,vz,vb,vc,vd,vu,ve,vf,vg,vh,vi,vj,vk,vl,vm,vn,vo,vp,u8_len,vs,vt]
  refine ⟨by omega,fun _=>⟨by omega,fun _=>⟨fun hd=>⟨⟨by omega,by omega⟩,by omega,h _ (by rw [u8_len]; omega)⟩,fun hd=>?_⟩⟩⟩
  have h3:Int.tdiv d 10=d / 10:=Int.tdiv_eq_ediv_of_nonneg h1
  have h4:Int.tmod d 10=d % 10:=Int.tmod_eq_emod_of_nonneg h1
  rw [h3,h4]
  refine ⟨⟨by omega,by omega⟩,ih _ (by omega) ?_ (by omega) (by omega) fun s hs=>⟨⟨by omega,by omega⟩,by omega,by omega,h _ ?_⟩⟩
  ·rw [Int.pow_succ] at h2; omega
  ·rw [vr,u8_len]; omega
theorem dec_wp {d:Int}{Q:List UInt8→Prop}(h1:0≤d)(h2:d<1000000000000000000)(h:∀ s,s.length≤18→Q s):wp (L_l1Dec d) Q :=
 wp_lim dec_mono (dec_wpn 17 d h1 (by omega) (by omega) (by omega) h)
def isSc (s:List UInt8):Bool:=s == [105,110,116] || s == [116,101,120,116] || s == [98,111,111,108]
theorem scalar_wp {s:List UInt8}{Q:Bool→Prop}(h:Q (isSc s)):wp (F_l2Scalar s) Q:=by
 rw [F_l2Scalar_eq]; unfold B_l2Scalar
 simp only [wa,wb,wc,wd,we,vw,vx,vv,vy,vz,vb,vc,vd,vu,ve,vf,vg,vh,vi,vj,vk,vl,vm,vn,vo,vp]
 unfold isSc at h
 refine ⟨fun e=>?_,fun e1=>⟨fun e=>?_,fun e2=>?_⟩⟩
 ·subst e; exact h
 ·subst e; exact h
 ·rw [vg.2 e1,vg.2 e2] at h; exact h
def Fst {α:Type}(l:List α)(q:α→Bool)(r:Int):Prop:=(r = -1∧∀ x∈l,q x=false)∨∃ (i:Nat)(hi:i<l.length),r=i∧q l[i]=true∧∀ (j:Nat)(hj:j<i),q (l[j]'(by omega))=false
theorem type_wp {p:Part}{nm:List UInt8}{Q:Int→Prop}(hl:p.types.length≤4611686018427387904)(h:∀ r,Fst p.types (fun t=>t.name == nm) r→Q r):wp (F_l2Type (p,nm)) Q:=by
 rw [F_l2Type_eq]; unfold B_l2Type
 rw [wb]
 refine find_wp hl (fun i hi hq hn=>?_) fun hn=>?_
 ·exact wd.2 (h _ (.inr ⟨i,hi,rfl,hq,hn⟩))
 ·exact wd.2 (h _ (.inl ⟨rfl,hn⟩))
theorem field_wp {t:Typ}{nm:List UInt8}{Q:Int→Prop}(hl:t.fields.length≤4611686018427387904)(h:∀ r,Fst t.fields (fun t=>t.name == nm) r→Q r):wp (F_l2Field (t,nm)) Q:=by
 rw [F_l2Field_eq]; unfold B_l2Field
 rw [wb]
 refine find_wp hl (fun i hi hq hn=>?_) fun hn=>?_
 ·exact wd.2 (h _ (.inr ⟨i,hi,rfl,hq,hn⟩))
 ·exact wd.2 (h _ (.inl ⟨rfl,hn⟩))
theorem Fst.lt {α:Type}{l:List α}{q:α→Bool}{r:Int}(h:Fst l q r):-1≤r∧r<l.length:=by
 rcases h with ⟨h,_⟩ | ⟨i,hi,h,_⟩ <;> omega
theorem Fst.at {α:Type}{l:List α}{q:α→Bool}{r:Int}(h:Fst l q r)(h0:0≤r):∃ hi:r.toNat<l.length,q l[r.toNat]=true:=by
 rcases h with ⟨h,_⟩ | ⟨i,hi,rfl,hq,_⟩
 ·omega
 ·exact ⟨hi,hq⟩
theorem Fst.some {α:Type}{l:List α}{q:α→Bool}{r:Int}(h:Fst l q r)(hx:∃ x∈l,q x=true):0≤r:=by
 rcases h with ⟨_,h⟩ | ⟨i,hi,rfl,_⟩
 ·obtain ⟨x,hx,hq⟩:=hx; rw [h x hx] at hq; cases hq
 ·omega
structure SmF (f:Field):Prop where
 name:f.name.length≤100
 of:f.of.length≤100
 needs:f.needs.length≤100
 need:∀ x∈f.needs,x.length≤100
structure SmT (N:Nat)(t:Typ):Prop where
 name:t.name.length≤100
 key:t.key.length≤100
 fields:t.fields.length≤N
 field:∀ f∈t.fields,SmF f
structure SmP (N:Nat)(p:Part):Prop where
 name:p.name.length≤100
 types:p.types.length≤N
 type:∀ t∈p.types,SmT N t
theorem SmT.up {N M:Nat}{t:Typ}(h:SmT N t)(hn:N≤M):SmT M t:=⟨h.name,h.key,Nat.le_trans h.fields hn,h.field⟩
theorem SmP.up {N M:Nat}{p:Part}(h:SmP N p)(hn:N≤M):SmP M p:=⟨h.name,Nat.le_trans h.types hn,fun t ht=>(h.type t ht).up hn⟩
theorem need_wp {N:Nat}{pn nm:List UInt8}{ts:List Typ}{Q:List UInt8×List Typ→Prop}(hN:N≤100000)(hp:SmP N ⟨pn,ts⟩)(hn:nm.length≤100)(h:∀ ts',SmP (N+1) ⟨pn,ts'⟩→(∃ l,ts'=ts++l)→(isSc nm=true∨∃ t∈ts',(t.name == nm)=true)→Q (pn,ts')):wp (F_l11Need (pn,nm,ts)) Q:=by
 have hL:LIM=1099511627776:=rfl
 have hN1:=hp.types
 have hN2:ts.length≤N:=hp.types
 have key:∀ k fs,k.length≤100→fs.length=1→(∀ f∈fs,SmF f)→SmP (N+1) ⟨pn,ts++[⟨nm,k,fs⟩]⟩:=fun k fs hk hf1 hf=>by
  refine ⟨hp.name,by simp only [vr,vs,vt]; omega,fun t ht=>?_⟩
  rcases List.mem_append.1 ht with ht | ht
  ·exact (hp.type t ht).up (by omega)
  ·obtain rfl:=List.mem_singleton.1 ht
   exact ⟨hn,hk,by show fs.length≤_; omega,hf⟩
 have fld:∀ f:Field,f.name.length≤100→f.of.length≤100→f.needs=[]→∀ g∈[f],SmF g:=fun f h1 h2 h3 g hg=>by
  obtain rfl:=List.mem_singleton.1 hg
  exact ⟨h1,h2,by rw [h3]; simp,by rw [h3]; simp⟩
 rw [F_l11Need_eq]; unfold B_l11Need
 simp only [wa,wb,wc,wd,we,vw,vx,vv,vy,vz,vb,vc,vd,vu,ve,vf,vg,vh,vi,vj,vk,vl,vm,vn,vo,vp,vs,vt]
 refine scalar_wp ⟨fun hs=>h ts (hp.up (by omega)) ⟨[],by simp⟩ (.inl hs),fun _=>?_⟩
 refine type_wp (by show ts.length≤_; omega) fun r hr=>⟨fun h0=>?_,fun _=>⟨fun _=>?_,fun _=>?_⟩⟩
 ·obtain ⟨hi,hq⟩:=hr.at h0
  exact h ts (hp.up (by omega)) ⟨[],by simp⟩ (.inr ⟨_,List.getElem_mem _,hq⟩)
 ·exact ⟨by omega,h _ (key _ _ (by simp) rfl (fld _ (by simp) (by simp) rfl)) ⟨_,rfl⟩ (.inr ⟨_,List.mem_append_right _ (List.mem_singleton.2 rfl),by simp⟩)⟩
 ·exact ⟨by omega,h _ (key _ _ (by simp) rfl (fld _ (by simp) (by simp) rfl)) ⟨_,rfl⟩ (.inr ⟨_,List.mem_append_right _ (List.mem_singleton.2 rfl),by simp⟩)⟩
end Go.Fw
namespace Go.Fw
open Go
theorem SmP.set {N:Nat}{pn:List UInt8}{ts:List Typ}(hp:SmP N ⟨pn,ts⟩)(i:Nat){t:Typ}(ht:SmT N t):SmP N ⟨pn,ts.set i t⟩:=by
 refine ⟨hp.name,by have:=hp.types; simpa using this,fun u hu=>?_⟩
 rcases List.mem_or_eq_of_mem_set hu with hu | rfl
 ·exact hp.type u hu
 ·exact ht
theorem give_wp {N:Nat}{pn nm:List UInt8}{f:Field}{ts:List Typ}{Q:List UInt8×List Typ→Prop}(hN:N≤10000)(hp:SmP N ⟨pn,ts⟩)(hn:nm.length≤100)(hs:isSc nm=false)(hf:SmF f)(hfn:f.needs.length≤1)
  (h:∀ ts',SmP (N+4) ⟨pn,ts'⟩→Q (pn,ts')):wp (F_l11Give (pn,nm,f,ts)) Q:=by
 have hL:LIM=1099511627776:=rfl
 rw [F_l11Give_eq]; unfold B_l11Give
 simp only [wb]
 refine need_wp (by omega) hp hn fun t1 hp1 _ hs1=>?_
 refine need_wp (by omega) hp1 hf.of fun t2 hp2 ⟨l2,e2⟩ _=>?_
 have hl2:t2.length≤N+1+1:=hp2.types
 refine type_wp (by show t2.length≤_; omega) fun r hr=>?_
 have hr0:0≤r:=hr.some (by
  rcases hs1 with h | ⟨t,ht,hq⟩
  ·rw [hs] at h; cases h
  ·exact ⟨t,by show t∈t2; rw [e2]; exact List.mem_append_left _ ht,hq⟩)
 obtain ⟨hi,hq⟩:=hr.at hr0
 change r.toNat<t2.length at hi
 have hT:SmT (N+1+1) t2[r.toNat]:=hp2.type _ (List.getElem_mem _)
 have hTf:=hT.fields
 simp only [wa,wb,wc,wd,we,vw,vx,vv,vy,vz,vb,vc,vd,vu,ve,vf,vg,vh,vi,vj,vk,vl,vm,vn,vo,vp,List.set_getElem_self,List.getElem_set_self,List.length_set,vs,vt]
 refine ⟨⟨hr0,by omega⟩,hi,field_wp (by omega) fun k hk=>⟨fun hk0=>?_,fun hk0=>?_⟩⟩
 ·obtain ⟨hki,_⟩:=hk.at hk0
  refine ⟨⟨hr0,by omega⟩,hi,⟨hk0,by omega⟩,hki,fun _=>h _ (hp2.up (by omega)),fun _=>⟨⟨hr0,by omega⟩,hi,⟨hk0,by omega⟩,hki,h _ ((hp2.up (by omega)).set _ ?_)⟩⟩
  refine ⟨hT.name,hT.key,by show (List.set _ _ _).length≤_; rw [List.length_set]; omega,fun g hg=>?_⟩
  rcases List.mem_or_eq_of_mem_set hg with hg | rfl
  ·exact hT.field g hg
  ·exact ⟨hf.name,hf.of,hf.needs,hf.need⟩
 ·refine wp_loop (fun s:Int×List UInt8×List Typ×List UInt8×List Typ=>0≤s.1∧s.1≤f.needs.length∧s.2.1=pn∧s.2.2.1.length=t2.length∧SmP (N+2+s.1.toNat) ⟨pn,s.2.2.1⟩) (fun s=>f.needs.length - s.1.toNat)
   ⟨by simp,by simp,rfl,rfl,hp2.up (by simp)⟩ fun s ⟨i1,i2,i3,i4,i5⟩=>?_
  have app:∀ (ts:List Typ)(M:Nat)(hi:r.toNat<ts.length)(g:Field),SmP M ⟨pn,ts⟩→SmF g→SmP (M+1) ⟨pn,ts.set r.toNat ⟨ts[r.toNat].name,ts[r.toNat].key,ts[r.toNat].fields++[g]⟩⟩:=fun ts M hi g h hg=>by
   have hT:=h.type _ (List.getElem_mem hi)
   have:=hT.fields
   refine (h.up (by omega)).set _ ⟨hT.name,hT.key,by simp only [vr,vs,vt]; omega,fun u hu=>?_⟩
   rcases List.mem_append.1 hu with hu | hu
   ·exact hT.field u hu
   ·obtain rfl:=List.mem_singleton.1 hu
    exact hg
  have hlen:∀ (ts:List Typ)(M:Nat)(hi:r.toNat<ts.length),SmP M ⟨pn,ts⟩→(ts[r.toNat].fields).length≤M:=fun ts M hi h=>(h.type _ (List.getElem_mem hi)).fields
  simp only [wa,wb,wc,wd,we,vw,vx,vv,vy,vz,vb,vc,vd,vu,ve,vf,vg,vh,vi,vj,vk,vl,vm,vn,vo,vp,List.set_getElem_self,List.getElem_set_self,List.length_set,vs,vt]
  refine ⟨fun hlt=>⟨⟨hr0,by omega⟩,by omega,i1,by omega,?_⟩,fun hge=>?_⟩
  ·have hl:=hlen s.2.2.1 _ (by omega) i5
   refine field_wp (by omega) fun k hk=>⟨fun _=>⟨⟨hr0,by omega⟩,by omega,i1,by omega,by omega,⟨hr0,by omega⟩,⟨by omega,by omega⟩,⟨by omega,by omega,i3,i4,?_⟩,by omega⟩,fun _=>⟨⟨by omega,by omega⟩,⟨by omega,by omega,i3,i4,i5.up (by omega)⟩,by omega⟩⟩
   have:=app s.2.2.1 _ (by omega) ⟨f.needs[s.1.toNat]'(by omega),[105,110,116],false,false,true,false,false,[]⟩ i5 ⟨hf.need _ (List.getElem_mem _),by simp,by simp,by simp⟩
   exact this.up (by omega)
  ·have hl:=hlen s.2.2.1 _ (by omega) i5
   refine ⟨⟨hr0,by omega⟩,by omega,by omega,⟨hr0,by omega⟩,?_⟩
   rw [i3]
   exact h _ ((app s.2.2.1 _ (by omega) f i5 hf).up (by omega))
end Go.Fw
namespace Go.Fw
open Go
theorem wp_cut {α β:Type}{x:Option α}{f:α→Option β}{Q:β→Prop}(R:α→Prop)(h:wp x R)(hf:∀ a,R a→wp (f a) Q):wp (bindD x f) Q:=wb.2 (h.mono hf)
def smFb (f:Field):Bool:=decide (f.name.length≤100) && decide (f.of.length≤100) && decide (f.needs.length≤1) && f.needs.all fun x=>decide (x.length≤100)
theorem smF_of {f:Field}(h:smFb f=true):SmF f∧f.needs.length≤1:=by
 simp only [smFb,vb,vc,List.all_eq_true] at h
 obtain ⟨⟨⟨h1,h2⟩,h3⟩,h4⟩:=h
 exact ⟨⟨h1,h2,by omega,h4⟩,h3⟩
noncomputable def fieldsL:List Typ:=(B_l11Fields ()).getD []
theorem fieldsL_eq:F_l11Fields ()=some fieldsL:=(F_l11Fields_eq ()).trans rfl
theorem fieldsL_len:fieldsL.length=4:=by kernel_rfl
theorem fieldsL_chk:(fieldsL.all fun t=>decide (t.name.length≤100) && decide (t.key.length≤100) && !(isSc t.name) && decide (t.fields.length≤7) && t.fields.all smFb)=true:=by kernel_rfl
theorem fieldsL_ok {t:Typ}(h:t∈fieldsL):t.name.length≤100∧t.key.length≤100∧isSc t.name=false∧t.fields.length≤7∧∀ f∈t.fields,SmF f∧f.needs.length≤1:=by
 have:=List.all_eq_true.1 fieldsL_chk t h
 simp only [vb,vc,vo,List.all_eq_true] at this
 obtain ⟨⟨⟨⟨h1,h2⟩,h3⟩,h4⟩,h5⟩:=this
 exact ⟨h1,h2,h3,h4,fun f hf=>smF_of (h5 f hf)⟩
structure Pts (n N:Nat)(ps:List Part):Prop where
 len:ps.length=n
 sm:∀ p∈ps,SmP N p
theorem Pts.up {n N M:Nat}{ps:List Part}(h:Pts n N ps)(hN:N≤M):Pts n M ps:=⟨h.len,fun p hp=>(h.sm p hp).up hN⟩
theorem Pts.set {n N:Nat}{ps:List Part}(h:Pts n N ps)(i:Nat){p:Part}(hp:SmP N p):Pts n N (ps.set i p):=by
 refine ⟨by rw [List.length_set]; exact h.len,fun q hq=>?_⟩
 rcases List.mem_or_eq_of_mem_set hq with hq | rfl
 ·exact h.sm q hq
 ·exact hp
theorem Rd.up {b:List Int}{p:Int}{m k:Nat}(h:Rd b p m)(hk:m≤k):Rd b p k:=⟨h.len,h.byt,h.pos,by have:=h.far; omega⟩
abbrev FTup:=List UInt8×List UInt8×Bool×Bool×Bool×Bool×Bool×List (List UInt8)
structure FTok (x:FTup):Prop where
 name:x.1.length≤100
 of:x.2.1.length≤100
 needs:x.2.2.2.2.2.2.2.length≤1
 need:∀ y∈x.2.2.2.2.2.2.2,y.length≤100
theorem FTok.sm {x:FTup}(h:FTok x)(a b c d e:Bool):SmF ⟨x.1,x.2.1,a,b,c,d,e,x.2.2.2.2.2.2.2⟩:=⟨h.name,h.of,Nat.le_trans h.needs (by omega),h.need⟩
theorem FTok.tr {x y:FTup}(h:FTok x)(h1:y.1=x.1)(h2:y.2.1=x.2.1)(h3:y.2.2.2.2.2.2.2=x.2.2.2.2.2.2.2):FTok y:=⟨h1 ▸ h.name,h2 ▸ h.of,h3 ▸ h.needs,h3 ▸ h.need⟩
theorem parts_wp {b:List Int}{p:Int}{m:Nat}{Q:List Part×List Int×Int→Prop}(hR:Rd b p m)(hm:m≤1000000000000)
  (h:∀ ps b' p' n,1≤n→n≤3→Pts n 300 ps→Rd b' p' (m+400)→Q (ps,b',p')):wp (F_l11Parts (b,p)) Q:=by
 have hL:LIM=1099511627776:=rfl
 have hB:BIG=9223372036854775807:=rfl
 rw [F_l11Parts_eq]; unfold B_l11Parts
 simp only [wb]
 refine pick_wp hR (by omega) fun v hv _ hR1=>?_
 have hv:=hv (by omega)
 rw [wa]
 refine ⟨i64B_of (by omega) (by omega),?_⟩
 rw [wb]
 refine wp_loop (fun s:Int×(List Int×Int)×List Part=>0≤s.1∧s.1≤1+v∧s.2.1=(b,p+1)∧Pts s.1.toNat 1 s.2.2) (fun s=>(1+v).toNat - s.1.toNat) ⟨by simp,by omega,rfl,rfl,by simp⟩ fun s ⟨i1,i2,i3,i4⟩=>?_
 have il:=i4.len
 simp only [wa,wb,wc,wd,we,vw,vx,vv,vy,vz,vb,vc,vd,vu,ve,vf,vg,vh,vi,vj,vk,vl,vm,vn,vo,vp,vs,vt]
 refine ⟨fun hlt=>⟨i1,by omega,dec_wp i1 (by omega) fun ds hds=>⟨by omega,by omega,⟨by omega,by omega⟩,⟨by omega,by omega,i3,?_⟩,by omega⟩⟩,fun hge=>?_⟩
 ·refine ⟨by simp only [vr,vs,vt]; omega,fun q hq=>?_⟩
  rcases List.mem_append.1 hq with hq | hq
  ·exact i4.sm q hq
  ·obtain rfl:=List.mem_singleton.1 hq
   refine ⟨?_,by simp,fun t ht=>?_⟩
   ·have hx:∀ x∈([[101,97,115,116],[119,101,115,116],[110,111,114,116,104]]:List (List UInt8)),x.length≤100:=by decide
    exact hx _ (List.getElem_mem _)
   ·obtain rfl:=List.mem_singleton.1 ht
    refine ⟨by simp,by simp,by simp,fun f hf=>?_⟩
    obtain rfl:=List.mem_singleton.1 hf
    exact ⟨by simp; omega,by simp,by simp,by simp⟩
 have hs:s.1=1+v:=by omega
 rw [i3]
 refine ⟨_,fieldsL_eq,?_⟩
 refine pick_wp hR1 (by omega) fun home hhome _ hR2=>?_
 have hhome:=hhome (by omega)
 refine wp_loop (fun t:Int×(List Int×Int)×List Part=>0≤t.1∧t.1≤4∧Rd t.2.1.1 t.2.1.2 (m+2+70 * t.1.toNat)∧Pts (1+v).toNat (1+64 * t.1.toNat) t.2.2) (fun t=>4 - t.1.toNat)
  ⟨by simp,by simp,hR2.up (by simp),by have:=i4.up (M:=1+64 * 0) (by omega); rw [hs] at this; exact this⟩ fun t ⟨j1,j2,j3,j4⟩=>?_
 rw [wc,fieldsL_len]
 simp only [vc,vd]
 refine ⟨fun hlt=>?_,fun hge=>?_⟩
 ·have hti:t.1.toNat<fieldsL.length:=by rw [fieldsL_len]; omega
  obtain ⟨g1,g2,g3,g4,g5⟩:=fieldsL_ok (List.getElem_mem hti)
  rw [wb]
  refine wp_loop (fun u:Int×(List Int×Int)×List Part=>0≤u.1∧u.1≤(fieldsL[t.1.toNat]'hti).fields.length∧Rd u.2.1.1 u.2.1.2 (m+2+70 * t.1.toNat+8 * u.1.toNat)∧Pts (1+v).toNat (1+64 * t.1.toNat+8 * u.1.toNat) u.2.2) (fun u=>7 - u.1.toNat)
   ⟨by simp,by simp,j3.up (by simp),j4.up (by simp)⟩ fun u ⟨k1,k2,k3,k4⟩=>?_
  have k5:=k4.len
  rw [wa,wb,we]
  refine ⟨by simpa using j1,hti,?_⟩
  generalize hT:fieldsL[t.1.toNat]'hti=T at g1 g2 g3 g4 g5 k2 ⊢
  rw [wc]
  simp only [vc,vd]
  refine ⟨fun hu=>?_,fun hu=>?_⟩
  ·rw [wa,wb,we]
   refine ⟨by simpa using j1,hti,?_⟩
   rw [hT]
   rw [wa,wb,we]
   refine ⟨by simpa using k1,by omega,?_⟩
   have hf:=g5 (T.fields[u.1.toNat]'(by omega)) (List.getElem_mem _)
   generalize T.fields[u.1.toNat]'(by omega)=f at hf
   have hft:FTok (f.name,f.of,f.list,f.must,f.far,f.hidden,f.shared,f.needs):=⟨hf.1.name,hf.1.of,hf.2,hf.1.need⟩
   generalize hM:m+2+70 * t.1.toNat+8 * u.1.toNat=M at k3
   generalize hN:1+64 * t.1.toNat+8 * u.1.toNat=N at k4
   refine wp_cut (fun x:Bool×(List Int×Int)×List Part×FTup=>Rd x.2.1.1 x.2.1.2 (M+1)∧x.2.2.1=u.2.2∧FTok x.2.2.2) ?_ fun x7 ⟨a1,a2,a3⟩=>?_
   ·simp only [wa,wb,wc,wd,we,vw,vx,vv,vy,vz,vb,vc,vd,vu,ve,vf,vg,vh,vi,vj,vk,vl,vm,vn,vo,vp]
    refine ⟨fun _=>⟨k3.up (by omega),hft⟩,fun _=>⟨fun _=>⟨k3.up (by omega),hft⟩,fun _=>⟨fun _=>⟨fun _=>?_,fun _=>⟨k3.up (by omega),hft⟩⟩,fun _=>⟨k3.up (by omega),hft⟩⟩⟩⟩
    exact pick_wp k3 (by omega) fun _ _ _ h=>⟨h,hft⟩
   rw [wc]
   refine ⟨fun _=>?_,fun _=>?_⟩
   ·simp only [wa,wb,wc,wd,we,vw,vx,vv,vy,vz,vb,vc,vd,vu,ve,vf,vg,vh,vi,vj,vk,vl,vm,vn,vo,vp]
    exact ⟨by omega,⟨by omega,by omega,a1.up (by omega),by rw [a2]; exact k4.up (by omega)⟩,by omega⟩
   rw [wb]
   refine pick_wp a1 (by omega) fun to hto _ hR8=>?_
   have hto:=hto (by omega)
   refine wp_cut (fun x:Bool×(List Int×Int)×List Part×FTup=>Rd x.2.1.1 x.2.1.2 (M+3)∧x.2.2.1=u.2.2∧FTok x.2.2.2) ?_ fun x9 ⟨b1,b2,b3⟩=>?_
   ·simp only [wa,wb,wc,wd,we,vw,vx,vv,vy,vz,vb,vc,vd,vu,ve,vf,vg,vh,vi,vj,vk,vl,vm,vn,vo,vp]
    refine ⟨fun _=>pick_wp hR8 (by omega) fun _ _ _ h=>⟨h,a2,a3⟩,fun _=>⟨j1,hti,fun _=>pick_wp hR8 (by omega) fun _ _ _ h=>⟨h,a2,a3⟩,fun _=>⟨hR8.up (by omega),a2,a3⟩⟩⟩
   refine wp_cut (fun x:Int×(List Int×Int)×List Part×FTup=>0≤x.1∧x.1<1+v∧Rd x.2.1.1 x.2.1.2 (M+3)∧x.2.2.1=u.2.2∧FTok x.2.2.2) ?_ fun x10 ⟨c1,c2,c3,c4,c5⟩=>?_
   ·simp only [wa,wb,wc,wd,we,vw,vx,vv,vy,vz,vb,vc,vd,vu,ve,vf,vg,vh,vi,vj,vk,vl,vm,vn,vo,vp]
    exact ⟨fun _=>⟨hhome.1,hhome.2,b1,b2,b3⟩,fun _=>⟨hto.1,hto.2,b1,b2,b3⟩⟩
   rw [wb]
   refine pick_wp c3 (by omega) fun hid _ _ hR11=>?_
   refine wp_cut (fun x:Bool×(List Int×Int)×List Part×FTup=>Rd x.2.1.1 x.2.1.2 (M+6)∧x.2.2.1=u.2.2∧FTok x.2.2.2) ?_ fun x12 ⟨d1,d2,d3⟩=>?_
   ·simp only [wa,wb,wc,wd,we,vw,vx,vv,vy,vz,vb,vc,vd,vu,ve,vf,vg,vh,vi,vj,vk,vl,vm,vn,vo,vp]
    refine ⟨fun _=>pick_wp hR11 (by omega) fun _ _ _ h=>⟨h.up (by omega),c4,c5.tr rfl rfl rfl⟩,fun _=>pick_wp hR11 (by omega) fun _ _ _ h=>⟨fun _=>pick_wp h (by omega) fun _ _ _ h=>⟨h,c4,c5.tr rfl rfl rfl⟩,fun _=>⟨h.up (by omega),c4,c5.tr rfl rfl rfl⟩⟩⟩
   have give:∀ (ps:List Part)(i:Int)(K:Nat)(g:Field){R:List UInt8×List Typ→Prop},K≤10000→Pts (1+v).toNat K ps→(hi:i.toNat<ps.length)→SmF g→g.needs.length≤1→(∀ ts',Pts (1+v).toNat (K+4) (ps.set i.toNat ⟨ps[i.toNat].name,ts'⟩)→R (ps[i.toNat].name,ts')) →
     wp (F_l11Give (ps[i.toNat].name,T.name,g,ps[i.toNat].types)) R:=fun ps i K g R hK hps hi hg hgn hr =>
    give_wp hK (hps.sm _ (List.getElem_mem hi)) g1 g3 hg hgn fun ts' hts=>hr ts' ((hps.up (by omega)).set _ hts)
   refine wp_cut (fun x:(List Int×Int)×List Part×FTup=>Rd x.1.1 x.1.2 (M+6)∧Pts (1+v).toNat (N+4) x.2.1∧FTok x.2.2) ?_ fun x ⟨e1,e2,e3⟩=>?_
   ·simp only [wa,wb,wc,wd,we,vw,vx,vv,vy,vz,vb,vc,vd,vu,ve,vf,vg,vh,vi,vj,vk,vl,vm,vn,vo,vp]
    refine ⟨fun _=>?_,fun _=>⟨d1,by rw [d2]; exact k4.up (by omega),d3⟩⟩
    obtain ⟨q1,q2⟩:=tmod_nn (show 0≤x10.1+1 by omega) (show 0<1+v by omega)
    have q3:(Int.tmod (x10.1+1) (1+v)).toNat<x12.2.2.1.length:=by rw [d2,k5]; omega
    refine ⟨by omega,by omega,by omega,by omega,⟨q1,by omega⟩,q3,j1,hti,?_⟩
    rw [hT]
    refine give x12.2.2.1 _ N _ (by omega) (by rw [d2]; exact k4) q3 (d3.sm _ _ _ _ _) d3.needs fun ts' hts=>?_
    exact ⟨⟨q1,by omega⟩,d1,hts,d3.tr rfl rfl rfl⟩
   have e4:=e2.len
   have e5:x10.1.toNat<x.2.1.length:=by omega
   simp only [wa,wb,wc,wd,we,vw,vx,vv,vy,vz,vb,vc,vd,vu,ve,vf,vg,vh,vi,vj,vk,vl,vm,vn,vo,vp]
   refine ⟨⟨c1,by omega⟩,e5,j1,hti,?_⟩
   rw [hT]
   refine give x.2.1 _ (N+4) _ (by omega) e2 e5 (e3.sm _ _ _ _ _) e3.needs fun ts' hts=>?_
   exact ⟨⟨c1,by omega⟩,by omega,⟨by omega,by omega,e1.up (by omega),hts.up (by omega)⟩,by omega⟩
  ·simp only [wa,wb,wc,wd,we,vw,vx,vv,vy,vz,vb,vc,vd,vu,ve,vf,vg,vh,vi,vj,vk,vl,vm,vn,vo,vp]
   exact ⟨by omega,⟨by omega,by omega,k3.up (by omega),k4.up (by omega)⟩,by omega⟩
 ·simp only [wa,wb,wc,wd,we,vw,vx,vv,vy,vz,vb,vc,vd,vu,ve,vf,vg,vh,vi,vj,vk,vl,vm,vn,vo,vp]
  exact h _ _ _ (1+v).toNat (by omega) (by omega) (j4.up (by omega)) (j3.up (by omega))
end Go.Fw
namespace Go.Fw
open Go
theorem in_wp {n a b:Int}{Q:Bool→Prop}(h:Q (decide (n≥a) && decide (n≤b))):wp (F_l1In (n,a,b)) Q:=by
 rw [F_l1In_eq]; unfold B_l1In
 simp only [wa,wb,wc,wd,we,vw,vx,vv,vy,vz,vb,vc,vd,vu,ve,vf,vg,vh,vi,vj,vk,vl,vm,vn,vo,vp]
 exact ⟨fun h1=>by simpa [h1] using h,fun h1=>by simpa [h1] using h⟩
theorem name1_wp {s:List UInt8}{Q:Bool→Prop}(hl:s.length≤4611686018427387904)(h:∀ r,(r=true→1≤s.length∧s.length≤9)→Q r):wp (F_l1Name s) Q:=by
 rw [F_l1Name_eq]; unfold B_l1Name
 simp only [wb,wc,wd]
 refine in_wp ⟨fun h1=>h false (by simp),fun h1=>?_⟩
 simp only [vp,vb,vc] at h1
 refine wp_loop (fun s=>0≤s) (fun i:Int=>s.length - i.toNat) (by simp) fun i hi=>?_
 simp only [wa,wb,wc,wd,we,vw,vx,vv,vy,vz,vb,vc,vd,vu,ve,vf,vg,vh,vi,vj,vk,vl,vm,vn,vo,vp]
 refine ⟨fun hlt=>?_,fun _=>?_⟩
 ·have a1:i.toNat<s.length:=by omega
  have a2:0≤i+1:=by omega
  have a3:s.length - (i+1).toNat<s.length - i.toNat:=by omega
  have a4:-9223372036854775808≤i+1∧i+1≤9223372036854775807:=by omega
  have hF:Q false:=h false (by simp)
  simp only [a1,a2,a3,a4,hi,exists_const,hF,and_self,vq,vn,exists_true_left]
 ·exact h true fun _=>by omega
theorem name2_wp {s:List UInt8}{Q:Bool→Prop}(hl:s.length≤4611686018427387904)(h:∀ r,(r=true→1≤s.length∧s.length≤8)→Q r):wp (F_l2Name s) Q:=by
 rw [F_l2Name_eq]; unfold B_l2Name
 simp only [wa,wb,wc,wd,we,vw,vx,vv,vy,vz,vb,vc,vd,vu,ve,vf,vg,vh,vi,vj,vk,vl,vm,vn,vo,vp]
 refine name1_wp hl fun r hr=>⟨fun h1=>⟨fun h2=>?_,fun _=>h _ (by simp)⟩,fun _=>h _ (by simp)⟩
 have h3:∀ r,Q r:=fun r=>h r fun _=>by have:=hr h1; omega
 refine ⟨by have:=hr h1; simp; omega,fun _=>scalar_wp ?_,fun _=>h3 _⟩
 simp only [h3,vq,and_self]
theorem Fst.find {α:Type}{l:List α}{q:α→Bool}{r:Int}(h:Fst l q r):(r = -1∧l.find? q=none)∨∃ (i:Nat)(hi:i<l.length),r=i∧l.find? q=Option.some l[i]∧q l[i]=true:=by
 rcases h with ⟨h1,h2⟩ | ⟨i,hi,h1,h2,h3⟩
 ·exact .inl ⟨h1,List.find?_eq_none.2 fun x hx=>by simp [h2 x hx]⟩
 ·refine .inr ⟨i,hi,h1,?_,h2⟩
  rw [List.find?_eq_some_iff_getElem]
  exact ⟨h2,i,hi,rfl,fun j hj=>by simpa using h3 j hj⟩
def fld0:Field:=⟨[],[],false,false,false,false,false,[]⟩
def getF (p:Part)(nm fl:List UInt8):Field×Bool :=
 match p.types.find? (fun t=>t.name == nm) with
 | none=>(fld0,false)
 | some t=>match t.fields.find? (fun f=>f.name == fl) with
  | none=>(fld0,false)
  | some f=>(f,true)
theorem get_wp {N:Nat}{p:Part}{nm fl:List UInt8}{Q:Field×Bool→Prop}(hp:SmP N p)(hN:N≤100000)(h:Q (getF p nm fl)):wp (F_l2Get (p,nm,fl)) Q:=by
 have hl:=hp.types
 rw [F_l2Get_eq]; unfold B_l2Get
 unfold getF at h
 rw [wb]
 refine type_wp (by show p.types.length≤_; omega) fun r hr=>?_
 rcases hr.find with ⟨rfl,hn⟩ | ⟨i,hi,rfl,hf,_⟩
 ·rw [hn] at h
  simp only [wa,wb,wc,wd,we,vw,vx,vv,vy,vz,vb,vc,vd,vu,ve,vf,vg,vh,vi,vj,vk,vl,vm,vn,vo,vp]
  exact ⟨fun _=>h,fun h'=>by omega⟩
 ·rw [hf] at h
  have hT:=(hp.type _ (List.getElem_mem hi)).fields
  simp only [wa,wb,wc,wd,we,vw,vx,vv,vy,vz,vb,vc,vd,vu,ve,vf,vg,vh,vi,vj,vk,vl,vm,vn,vo,vp]
  refine ⟨fun h'=>by omega,fun _=>⟨by omega,by simpa using hi,field_wp (by simpa using Nat.le_trans hT (by omega)) fun k hk=>?_⟩⟩
  simp only [Int.toNat_natCast] at hk ⊢
  change Q (match List.find? (fun f:Field=>f.name == fl) p.types[i].fields with | none=>(fld0,false) | some f=>(f,true)) at h
  rcases hk.find with ⟨rfl,hn⟩ | ⟨j,hj,rfl,hg,_⟩
  ·rw [hn] at h
   exact ⟨fun _=>h,fun h'=>by omega⟩
  ·rw [hg] at h
   exact ⟨fun h'=>by omega,fun _=>⟨by omega,hi,by omega,by simpa using hj,by simpa using h⟩⟩
theorem getF_sm {N:Nat}{p:Part}{nm fl:List UInt8}(hp:SmP N p):SmF (getF p nm fl).1:=by
 unfold getF
 split
 ·exact ⟨by simp [fld0],by simp [fld0],by simp [fld0],by simp [fld0]⟩
 ·rename_i t ht
  split
  ·exact ⟨by simp [fld0],by simp [fld0],by simp [fld0],by simp [fld0]⟩
  ·rename_i f hf
   exact (hp.type t (List.mem_of_find?_eq_some ht)).field f (List.mem_of_find?_eq_some hf)
theorem getF_ok {p:Part}{nm fl:List UInt8}(h:(getF p nm fl).2=true):∃ t∈p.types,(t.name == nm)=true∧(getF p nm fl).1∈t.fields∧((getF p nm fl).1.name == fl)=true∧p.types.find? (fun t=>t.name == nm)=some t:=by
 unfold getF at h ⊢
 split at h
 ·cases h
 ·rename_i t ht
  simp only [ht]
  split at h
  ·cases h
  ·rename_i f hf
   simp only [hf]
   exact ⟨t,List.mem_of_find?_eq_some ht,List.find?_some (p:=fun t:Typ=>t.name == nm) ht,List.mem_of_find?_eq_some hf,List.find?_some (p:=fun f:Field=>f.name == fl) hf,rfl⟩
theorem needs_wp {N:Nat}{t:Typ}{f:Field}{Q:Bool→Prop}(ht:SmT N t)(hN:N≤100000)(hf:SmF f)(h:∀ r,Q r):wp (F_l2Needs (t,f)) Q:=by
 have h1:=ht.fields
 have h2:=hf.needs
 rw [F_l2Needs_eq]; unfold B_l2Needs
 refine wp_cut (fun _=>True) (by simp only [wa,wb,wc,wd,we,vw,vx,vv,vy,vz,vb,vc,vd,vu,ve,vf,vg,vh,vi,vj,vk,vl,vm,vn,vo,vp,vq,and_self]) fun x _=>?_
 simp only [wc,wd,wb]
 refine ⟨fun _=>h _,fun _=>?_⟩
 refine wp_loop (fun i=>0≤i) (fun i:Int=>f.needs.length - i.toNat) (by simp) fun i hi=>?_
 simp only [wa,wb,wc,wd,we,vw,vx,vv,vy,vz,vb,vc,vd,vu,ve,vf,vg,vh,vi,vj,vk,vl,vm,vn,vo,vp]
 refine ⟨fun hlt=>⟨hi,by omega,field_wp (by omega) fun k hk=>?_⟩,fun _=>h _⟩
 have hk1:=hk.lt
 have a1:0≤i+1:=by omega
 have a2:f.needs.length - (i+1).toNat<f.needs.length - i.toNat:=by omega
 have a3:-9223372036854775808≤i+1∧i+1≤9223372036854775807:=by omega
 have a4:i.toNat<f.needs.length:=by omega
 simp only [h,a1,a2,a3,a4,hi,vq,vn,and_self,exists_const,exists_true_left]
 refine fun hk0=>?_
 (repeat' (first | omega | assumption | rfl | refine fun _=>?_ | refine ⟨by omega,?_⟩ | refine ⟨?_,?_⟩))
theorem key_wp {N:Nat}{t:Typ}{Q:Bool→Prop}(ht:SmT N t)(hN:N≤100000)(h:∀ r,Q r):wp (F_l2Key t) Q:=by
 have h1:=ht.fields
 rw [F_l2Key_eq]; unfold B_l2Key
 simp only [wa,wb,wc,wd,we,vw,vx,vv,vy,vz,vb,vc,vd,vu,ve,vf,vg,vh,vi,vj,vk,vl,vm,vn,vo,vp]
 refine ⟨fun _=>h _,fun _=>field_wp (by omega) fun k hk=>⟨fun _=>h _,fun hk0=>?_⟩⟩
 have:=hk.lt
 refine ⟨by omega,by omega,?_⟩
 simp only [h,vq,and_self]
end Go.Fw
namespace Go.Fw
open Go
structure FtOk (p:Part)(t:Typ):Prop where
 pos:1≤t.fields.length
 few:t.fields.length≤8
 of:∀ f∈t.fields,isSc f.of=true∨∃ u∈p.types,u.name=f.of
theorem fault_wp {N:Nat}{p:Part}{i:Int}{Q:Int→Prop}(hp:SmP N p)(hN:N≤100000)(h0:0≤i)(hi:i.toNat<p.types.length)(h:∀ r,(r=0→FtOk p p.types[i.toNat])→Q r):wp (F_l2Fault (p,i)) Q:=by
 have hpl:=hp.types
 have ht:=hp.type _ (List.getElem_mem hi)
 rw [F_l2Fault_eq]; unfold B_l2Fault
 rw [wa,wb,we]
 refine ⟨by simpa using h0,hi,?_⟩
 change SmT N (p.types[i.toNat]) at ht
 generalize p.types[i.toNat]'hi=t at ht h
 have hl:=ht.fields
 have hn:=ht.name
 have hk:=ht.key
 have bad:∀ r,r≠0→Q r:=fun r hr=>h r fun e=>absurd e hr
 refine wp_cut (fun x=>x=false→1≤t.fields.length∧t.fields.length≤8) ?_ fun x1 g1=>?_
 ·simp only [wa,wb,wc,wd,we,vw,vx,vv,vy,vz,vb,vc,vd,vu,ve,vf,vg,vh,vi,vj,vk,vl,vm,vn,vo,vp]
  refine name2_wp (by omega) fun a ha=>⟨fun _=>by simp,fun _=>⟨fun _=>name2_wp (by omega) fun b hb=>⟨fun _=>by simp,fun _=>⟨fun _=>by simp,fun _ h2=>by omega⟩⟩,fun _=>⟨fun _=>by simp,fun _ h2=>by omega⟩⟩⟩
 rw [wc,wd]
 refine ⟨fun _=>bad 1 (by omega),fun hx1=>?_⟩
 obtain ⟨g2,g3⟩:=g1 hx1
 rw [wb]
 refine wp_loop (fun i=>0≤i) (fun i:Int=>t.fields.length - i.toNat) (by simp) fun a ha=>?_
 rw [wc]
 simp only [vc,vd]
 refine ⟨fun hlt=>?_,fun _=>?_⟩
 ·rw [wa,wb,we]
  refine ⟨by simpa using ha,by omega,?_⟩
  have hf:=ht.field (t.fields[a.toNat]'(by omega)) (List.getElem_mem _)
  generalize t.fields[a.toNat]'(by omega)=f at hf
  have:=hf.name; have:=hf.of; have:=hf.needs
  refine wp_cut (fun _=>True) ?_ fun x2 _=>?_
  ·simp only [wa,wb,wc,wd,we,vw,vx,vv,vy,vz,vb,vc,vd,vu,ve,vf,vg,vh,vi,vj,vk,vl,vm,vn,vo,vp]
   refine name2_wp (by omega) fun _ _=>⟨by simp,fun _=>scalar_wp ⟨fun _=>name2_wp (by omega) (by simp),by simp⟩⟩
  rw [wc]
  refine ⟨fun _=>?_,fun _=>?_⟩
  ·simp only [wa,wb,wc,wd,we,vw,vx,vv,vy,vz,vb,vc,vd,vu,ve,vf,vg,vh,vi,vj,vk,vl,vm,vn,vo,vp]; exact bad 1 (by omega)
  ·rw [wb]
   refine wp_loop (fun i=>0≤i) (fun i:Int=>f.needs.length - i.toNat) (by simp) fun c hc=>?_
   simp only [wa,wb,wc,wd,we,vw,vx,vv,vy,vz,vb,vc,vd,vu,ve,vf,vg,vh,vi,vj,vk,vl,vm,vn,vo,vp]
   refine ⟨fun _=>⟨hc,by omega,name2_wp (by have:=hf.need (f.needs[c.toNat]'(by omega)) (List.getElem_mem _); omega) fun _ _=>⟨fun _=>?_,fun _=>⟨by omega,by omega,by omega⟩⟩⟩,fun _=>?_⟩
   ·exact bad 1 (by omega)
   ·exact ⟨by omega,by omega,by omega⟩
 simp only [wa,wb,wc,wd,we,vw,vx,vv,vy,vz,vb,vc,vd,vu,ve,vf,vg,vh,vi,vj,vk,vl,vm,vn,vo,vp]
 have hpt:p.types.length≤4611686018427387904:=by omega
 refine type_wp hpt fun r _=>⟨fun _=>bad 2 (by omega),fun _=>?_⟩
 refine wp_loop (fun i=>0≤i) (fun i:Int=>t.fields.length - i.toNat) (by simp) fun a ha=>?_
 simp only [wa,wb,wc,wd,we,vw,vx,vv,vy,vz,vb,vc,vd,vu,ve,vf,vg,vh,vi,vj,vk,vl,vm,vn,vo,vp]
 refine ⟨fun hlt=>⟨ha,by omega,field_wp (by omega) fun k _=>⟨fun _=>bad 2 (by omega),fun _=>⟨by omega,by omega,by omega⟩⟩⟩,fun _=>?_⟩
 refine wp_loop (fun i:Int=>0≤i∧i≤t.fields.length∧∀ (j:Nat)(hj:j<t.fields.length),j<i.toNat→isSc t.fields[j].of=true∨∃ u∈p.types,u.name=t.fields[j].of) (fun i:Int=>t.fields.length - i.toNat) ⟨by simp,by simp,by simp⟩ fun b ⟨hb1,hb2,hb3⟩=>?_
 simp only [wa,wb,wc,wd,we,vw,vx,vv,vy,vz,vb,vc,vd,vu,ve,vf,vg,vh,vi,vj,vk,vl,vm,vn,vo,vp]
 refine ⟨fun hlt=>⟨hb1,by omega,scalar_wp ⟨fun hs=>⟨hb1,by omega,type_wp hpt fun r hr=>⟨fun _=>bad 3 (by omega),fun hr0=>⟨by omega,⟨by omega,by omega,fun j hj hj2=>?_⟩,by omega⟩⟩⟩,fun hs=>⟨by omega,⟨by omega,by omega,fun j hj hj2=>?_⟩,by omega⟩⟩⟩,fun _=>?_⟩
 ·rcases Nat.lt_or_ge j b.toNat with h' | h'
  ·exact hb3 j hj h'
  ·obtain rfl:j=b.toNat:=by omega
   obtain ⟨q1,q2⟩:=hr.at (by omega)
   exact .inr ⟨_,List.getElem_mem _,by simpa using q2⟩
 ·rcases Nat.lt_or_ge j b.toNat with h' | h'
  ·exact hb3 j hj h'
  ·obtain rfl:j=b.toNat:=by omega
   exact .inl hs
 have hof:∀ f∈t.fields,isSc f.of=true∨∃ u∈p.types,u.name=f.of:=fun f hf=>by
  obtain ⟨j,hj,rfl⟩:=List.getElem_of_mem hf
  exact hb3 j hj (by omega)
 refine key_wp ht hN fun r=>⟨fun _=>bad 4 (by omega),fun _=>?_⟩
 refine wp_loop (fun i=>0≤i) (fun i:Int=>t.fields.length - i.toNat) (by simp) fun c hc=>?_
 simp only [wa,wb,wc,wd,we,vw,vx,vv,vy,vz,vb,vc,vd,vu,ve,vf,vg,vh,vi,vj,vk,vl,vm,vn,vo,vp]
 refine ⟨fun hlt=>⟨hc,by omega,needs_wp ht hN (ht.field _ (List.getElem_mem _)) fun r=>?_⟩,fun _=>h 0 fun _=>⟨g2,g3,hof⟩⟩
 have b5:=bad 5 (by omega)
 have a1:0≤c+1:=by omega
 have a2:t.fields.length - (c+1).toNat<t.fields.length - c.toNat:=by omega
 have a3:-9223372036854775808≤c+1∧c+1≤9223372036854775807:=by omega
 have a4:c.toNat<t.fields.length:=by omega
 simp only [b5,a1,a2,a3,a4,hc,vq,and_self,exists_const,exists_true_left]
theorem line_wp {f:Field}{Q:List UInt8→Prop}(hf:SmF f)(h:∀ s,s.length≤11000→Q s):wp (F_l2Line f) Q:=by
 have hB:BIG=9223372036854775807:=rfl
 have h1:=hf.name; have h2:=hf.of; have h3:=hf.needs
 rw [F_l2Line_eq]; unfold B_l2Line
 refine wp_cut (fun x=>x.length≤102) ?_ fun x1 g1=>?_
 ·simp only [wa,wb,wc,wd,we,vw,vx,vv,vy,vz,vb,vc,vd,vu,ve,vf,vg,vh,vi,vj,vk,vl,vm,vn,vo,vp,vr,vs,vt]
  exact ⟨fun _=>⟨by omega,by omega,by omega⟩,fun _=>by omega⟩
 refine wp_cut (fun x=>x.length≤103) ?_ fun x2 g2=>?_
 ·simp only [wa,wb,wc,wd,we,vw,vx,vv,vy,vz,vb,vc,vd,vu,ve,vf,vg,vh,vi,vj,vk,vl,vm,vn,vo,vp,vr,vs,vt]
  exact ⟨fun _=>⟨by omega,by omega⟩,fun _=>by omega⟩
 simp only [wa,vc,vr,vs,vt]
 refine ⟨by omega,by omega,by omega,?_⟩
 refine wp_cut (fun x=>x.length≤300) ?_ fun x3 g3=>?_
 ·simp only [wa,wb,wc,wd,we,vw,vx,vv,vy,vz,vb,vc,vd,vu,ve,vf,vg,vh,vi,vj,vk,vl,vm,vn,vo,vp,vr,vs,vt]
  exact ⟨fun _=>⟨by omega,by omega⟩,fun _=>by omega⟩
 refine wp_cut (fun x=>x.length≤310) ?_ fun x4 g4=>?_
 ·simp only [wa,wb,wc,wd,we,vw,vx,vv,vy,vz,vb,vc,vd,vu,ve,vf,vg,vh,vi,vj,vk,vl,vm,vn,vo,vp,vr,vs,vt]
  exact ⟨fun _=>⟨by omega,by omega⟩,fun _=>by omega⟩
 refine wp_cut (fun x=>x.length≤320) ?_ fun x5 g5=>?_
 ·simp only [wa,wb,wc,wd,we,vw,vx,vv,vy,vz,vb,vc,vd,vu,ve,vf,vg,vh,vi,vj,vk,vl,vm,vn,vo,vp,vr,vs,vt]
  exact ⟨fun _=>⟨by omega,by omega⟩,fun _=>by omega⟩
 refine wp_cut (fun x=>x.length≤330) ?_ fun x6 g6=>?_
 ·simp only [wa,wb,wc,wd,we,vw,vx,vv,vy,vz,vb,vc,vd,vu,ve,vf,vg,vh,vi,vj,vk,vl,vm,vn,vo,vp,vr,vs,vt]
  exact ⟨fun _=>⟨by omega,by omega⟩,fun _=>by omega⟩
 rw [wb]
 refine wp_loop (fun s:List UInt8×Int=>0≤s.2∧s.2≤f.needs.length∧s.1.length≤330+101 * s.2.toNat) (fun s=>f.needs.length - s.2.toNat) ⟨by simp,by simp,by simpa using g6⟩ fun s ⟨i1,i2,i3⟩=>?_
 simp only [wa,wb,wc,wd,we,vw,vx,vv,vy,vz,vb,vc,vd,vu,ve,vf,vg,vh,vi,vj,vk,vl,vm,vn,vo,vp,vr,vs,vt]
 refine ⟨fun hlt=>⟨by omega,i1,by omega,?_⟩,fun _=>⟨by omega,h _ (by simp only [vr,vs,vt]; omega)⟩⟩
 have:=hf.need (f.needs[s.2.toNat]'(by omega)) (List.getElem_mem _)
 exact ⟨by omega,by omega,⟨by omega,by omega,by omega⟩,by omega⟩
theorem write_wp {N:Nat}{p:Part}{Q:List UInt8→Prop}(hp:SmP N p)(hN:N≤100000)(h:∀ s,s.length≤1000000000000000→Q s):wp (F_l2Write p) Q:=by
 have hB:BIG=9223372036854775807:=rfl
 have h1:=hp.name; have h2:=hp.types
 rw [F_l2Write_eq]; unfold B_l2Write
 simp only [wa,vc,vr,vs,vt]
 refine ⟨by omega,by omega,?_⟩
 rw [wb]
 refine wp_loop (fun s:List UInt8×Int=>0≤s.2∧s.2≤p.types.length∧s.1.length≤106+1100001000 * s.2.toNat) (fun s=>p.types.length - s.2.toNat) ⟨by simp,by simp,by simp; omega⟩ fun s ⟨i1,i2,i3⟩=>?_
 rw [wc]
 simp only [vc,vd]
 refine ⟨fun hlt=>?_,fun _=>?_⟩
 ·rw [wa,wb,we]
  refine ⟨by simpa using i1,by omega,?_⟩
  have ht:=hp.type (p.types[s.2.toNat]'(by omega)) (List.getElem_mem _)
  generalize p.types[s.2.toNat]'(by omega)=t at ht
  have h3:=ht.name; have h4:=ht.key; have h5:=ht.fields
  simp only [wa,vc,vr,vs,vt]
  refine ⟨by omega,by omega,?_⟩
  refine wp_cut (fun x=>x.length≤s.1.length+210) ?_ fun x1 g1=>?_
  ·simp only [wa,wb,wc,wd,we,vw,vx,vv,vy,vz,vb,vc,vd,vu,ve,vf,vg,vh,vi,vj,vk,vl,vm,vn,vo,vp,vr,vs,vt]
   exact ⟨fun _=>⟨by omega,by omega,by omega⟩,fun _=>by omega⟩
  simp only [wa,vc,vr,vs,vt]
  refine ⟨by omega,?_⟩
  rw [wb]
  refine wp_loop (fun u:List UInt8×Int=>0≤u.2∧u.2≤t.fields.length∧u.1.length≤s.1.length+211+11000 * u.2.toNat) (fun u=>t.fields.length - u.2.toNat) ⟨by simp,by simp,by simp; omega⟩ fun u ⟨j1,j2,j3⟩=>?_
  simp only [wa,wb,wc,wd,we,vw,vx,vv,vy,vz,vb,vc,vd,vu,ve,vf,vg,vh,vi,vj,vk,vl,vm,vn,vo,vp,vr,vs,vt]
  refine ⟨fun hlt=>⟨j1,by omega,line_wp (ht.field _ (List.getElem_mem _)) fun x hx=>⟨by omega,by omega,⟨by omega,by omega,by omega⟩,by omega⟩⟩,fun _=>⟨by omega,⟨by omega,by omega,by omega⟩,by omega⟩⟩
 ·simp only [wa,wb,wc,wd,we,vw,vx,vv,vy,vz,vb,vc,vd,vu,ve,vf,vg,vh,vi,vj,vk,vl,vm,vn,vo,vp]
  exact h _ (by omega)
structure WF (p:Part):Prop where
 pos:1≤p.types.length
 few:p.types.length≤5
 root:(p.types[0]'(by omega)).name=[113,117,101,114,121]
 type:∀ t∈p.types,FtOk p t
theorem pcheck_wp {N:Nat}{p:Part}{Q:PFault→Prop}(hp:SmP N p)(hN:N≤100000)(h:∀ r,(r.code=0→WF p)→Q r):wp (F_PartCheck p) Q:=by
 have h1:=hp.name; have h2:=hp.types
 have bad:∀ r:PFault,r.code≠0→Q r:=fun r hr=>h r fun e=>absurd e hr
 rw [F_PartCheck_eq]; unfold B_PartCheck
 rw [wc,wd]
 simp only [vc,vd]
 refine ⟨fun _=>bad _ (by simp),fun h5=>?_⟩
 rw [wb]
 refine name2_wp (by omega) fun x _=>?_
 rw [wc,wd]
 refine ⟨fun _=>bad _ (by simp),fun _=>?_⟩
 refine wp_cut (fun x=>x=false→∃ hp:0<p.types.length,p.types[0].name=[113,117,101,114,121]) ?_ fun x1 g1=>?_
 ·simp only [wa,wb,wc,wd,we,vw,vx,vv,vy,vz,vb,vc,vd,vu,ve,vf,vg,vh,vi,vj,vk,vl,vm,vn,vo,vp]
  refine ⟨fun _=>by simp,fun h0=>⟨by simp; omega,fun _=>by simp,fun hq=>⟨by simp; omega,fun _=>⟨by omega,by simpa using hq⟩⟩⟩⟩
 rw [wc,wd]
 refine ⟨fun _=>bad _ (by simp),fun hx1=>?_⟩
 obtain ⟨g2,g3⟩:=g1 hx1
 rw [wb]
 refine wp_loop (fun s:Int×Int×Int=>0≤s.1∧s.1≤p.types.length∧∀ (j:Nat)(hj:j<p.types.length),j<s.1.toNat→FtOk p p.types[j]) (fun s=>p.types.length - s.1.toNat) ⟨by simp,by simp,by simp⟩ fun s ⟨i1,i2,i3⟩=>?_
 rw [wc]
 simp only [vc,vd]
 refine ⟨fun hlt=>?_,fun _=>?_⟩
 ·rw [wb]
  refine fault_wp hp hN i1 (by omega) fun r hr=>?_
  rw [wc]
  simp only [vf,vh,ne_eq]
  refine ⟨fun hr0=>?_,fun hr0=>?_⟩
  ·simp only [wa,wb,wc,wd,we,vw,vx,vv,vy,vz,vb,vc,vd,vu,ve,vf,vg,vh,vi,vj,vk,vl,vm,vn,vo,vp]
   exact ⟨by omega,bad _ hr0⟩
  rw [wb]
  refine wp_loop (fun u:Int×Int×Int=>0≤u.1) (fun u=>(p.types[s.1.toNat]'(by omega)).fields.length - u.1.toNat) (by simp) fun u hu=>?_
  have hT:=(hp.type _ (List.getElem_mem (show s.1.toNat<p.types.length by omega))).fields
  simp only [wa,wb,wc,wd,we,vw,vx,vv,vy,vz,vb,vc,vd,vu,ve,vf,vg,vh,vi,vj,vk,vl,vm,vn,vo,vp]
  refine ⟨i1,by omega,fun hlt2=>⟨i1,by omega,hu,by omega,fun _=>⟨by omega,bad _ (by simp)⟩,fun _=>⟨by omega,by omega,by omega⟩⟩,fun _=>⟨by omega,⟨by omega,by omega,fun j hj hj2=>?_⟩,by omega⟩⟩
  rcases Nat.lt_or_ge j s.1.toNat with h' | h'
  ·exact i3 j hj h'
  ·obtain rfl:j=s.1.toNat:=by omega
   exact hr hr0
 ·simp only [wa,wb,wc,wd,we,vw,vx,vv,vy,vz,vb,vc,vd,vu,ve,vf,vg,vh,vi,vj,vk,vl,vm,vn,vo,vp]
  refine write_wp hp hN fun w hw=>⟨fun _=>bad _ (by simp),fun _=>h _ fun _=>⟨by omega,by omega,g3,fun t ht=>?_⟩⟩
  obtain ⟨j,hj,rfl⟩:=List.getElem_of_mem ht
  exact i3 j hj (by omega)
end Go.Fw
namespace Go.Fw
open Go
theorem owners_wp {N:Nat}{ps:List Part}{nm fl:List UInt8}{Q:List Int→Prop}(hp:∀ p∈ps,SmP N p)(hN:N≤100000)(hl:ps.length≤100000)(h:∀ l,l.length≤ps.length→Q l):wp (F_l6Owners (ps,nm,fl)) Q:=by
 have hL:LIM=1099511627776:=rfl
 rw [F_l6Owners_eq]; unfold B_l6Owners
 rw [wb]
 refine wp_loop (fun s:Int×List Int=>0≤s.1∧s.1≤ps.length∧s.2.length≤s.1.toNat) (fun s=>ps.length - s.1.toNat) ⟨by simp,by simp,by simp⟩ fun s ⟨i1,i2,i3⟩=>?_
 simp only [wa,wb,wc,wd,we,vw,vx,vv,vy,vz,vb,vc,vd,vu,ve,vf,vg,vh,vi,vj,vk,vl,vm,vn,vo,vp,vr,vs,vt]
 refine ⟨fun hlt=>⟨i1,by omega,get_wp (hp _ (List.getElem_mem _)) hN ⟨fun _=>⟨fun _=>⟨by omega,by omega,⟨by omega,by omega,by omega⟩,by omega⟩,fun _=>⟨by omega,⟨by omega,by omega,by omega⟩,by omega⟩⟩,fun _=>⟨by omega,⟨by omega,by omega,by omega⟩,by omega⟩⟩⟩,fun _=>h _ (by omega)⟩
theorem key6_wp {N:Nat}{ps:List Part}{nm:List UInt8}{Q:List UInt8→Prop}(hp:∀ p∈ps,SmP N p)(hN:N≤100000)(hl:ps.length≤100000)(h:∀ s,s.length≤100→Q s):wp (F_l6Key (ps,nm)) Q:=by
 rw [F_l6Key_eq]; unfold B_l6Key
 rw [wb]
 refine wp_loop (fun i=>0≤i) (fun i:Int=>ps.length - i.toNat) (by simp) fun s hs=>?_
 rw [wc]
 simp only [vc,vd]
 refine ⟨fun hlt=>?_,fun _=>?_⟩
 ·have hi:s.toNat<ps.length:=by omega
  have hP:=hp _ (List.getElem_mem hi)
  have hT:=hP.types
  rw [wa,wb,we]
  refine ⟨by simpa using hs,hi,?_⟩
  rw [wb]
  refine type_wp (by omega) fun r hr=>?_
  have a1:0≤s+1:=by omega
  have a2:ps.length - (s+1).toNat<ps.length - s.toNat:=by omega
  have a3:-9223372036854775808≤s+1∧s+1≤9223372036854775807:=by omega
  simp only [wa,wb,wc,wd,we,vw,vx,vv,vy,vz,vb,vc,vd,vu,ve,vf,vg,vh,vi,vj,vk,vl,vm,vn,vo,vp]
  refine ⟨fun h0=>⟨hs,hi,h0,(hr.at h0).1,fun _=>⟨hs,hi,h0,(hr.at h0).1,h _ (hP.type _ (List.getElem_mem _)).key⟩,fun _=>⟨a3,a1,a2⟩⟩,fun _=>⟨a3,a1,a2⟩⟩
 ·simp only [wa,wb,wc,wd,we,vw,vx,vv,vy,vz,vb,vc,vd,vu,ve,vf,vg,vh,vi,vj,vk,vl,vm,vn,vo,vp]
  exact h _ (by simp)
theorem alike_wp {f g:Field}{Q:Bool→Prop}(h:∀ r,Q r):wp (F_l6Alike (f,g)) Q:=by
 rw [F_l6Alike_eq]; unfold B_l6Alike
 simp only [wa,wb,wc,wd,we,vw,vx,vv,vy,vz,vb,vc,vd,vu,ve,vf,vg,vh,vi,vj,vk,vl,vm,vn,vo,vp,h,vq,and_self]
theorem field6_wp {N:Nat}{ps:List Part}{i:Int}{nm:List UInt8}{f:Field}{Q:Int→Prop}(hp:∀ p∈ps,SmP N p)(hN:N≤100000)(hl:ps.length≤100000)(hf:SmF f)(h:∀ r,Q r):wp (F_l6Field (ps,i,nm,f)) Q:=by
 have hfn:=hf.needs
 rw [F_l6Field_eq]; unfold B_l6Field
 rw [wb]
 refine owners_wp hp hN hl fun ow how=>?_
 rw [wb]
 refine wp_loop (fun s:Int×Int×Int=>0≤s.1∧s.1≤s.2.2∧0≤s.2.1∧s.2.1≤s.2.2∧0≤s.2.2∧s.2.2≤ps.length) (fun s=>ps.length - s.2.2.toNat) ⟨by simp,by simp,by simp,by simp,by simp,by simp⟩ fun s ⟨i1,i2,i3,i4,i5,i6⟩=>?_
 rw [wc]
 simp only [vc,vd]
 refine ⟨fun hlt=>?_,fun _=>?_⟩
 ·rw [wa,wb,we]
  refine ⟨by simpa using i5,by omega,?_⟩
  rw [wb]
  refine get_wp (hp _ (List.getElem_mem _)) hN ?_
  refine wp_cut (fun _=>True) ?_ fun x1 _=>?_
  ·simp only [wa,wb,wc,wd,we,vw,vx,vv,vy,vz,vb,vc,vd,vu,ve,vf,vg,vh,vi,vj,vk,vl,vm,vn,vo,vp]
   exact ⟨fun _=>alike_wp (by simp),by simp⟩
  simp only [wa,wb,wc,wd,we,vw,vx,vv,vy,vz,vb,vc,vd,vu,ve,vf,vg,vh,vi,vj,vk,vl,vm,vn,vo,vp,h]
  (repeat' (first | omega | assumption | rfl | refine fun _=>?_ | refine ⟨by omega,?_⟩ | refine ⟨?_,?_⟩))
 ·simp only [wd,vz,vw]
  rw [wc,wd]
  refine ⟨fun _=>h _,fun _=>?_⟩
  refine wp_cut (fun _=>True) ?_ fun x1 _=>?_
  ·simp only [wa,wb,wc,wd,we,vw,vx,vv,vy,vz,vb,vc,vd,vu,ve,vf,vg,vh,vi,vj,vk,vl,vm,vn,vo,vp]
   exact ⟨fun _=>key6_wp hp hN hl (by simp),by simp⟩
  rw [wc,wd]
  refine ⟨fun _=>h _,fun _=>?_⟩
  refine wp_cut (fun _=>True) ?_ fun x2 _=>?_
  ·simp only [wa,wb,wc,wd,we,vw,vx,vv,vy,vz,vb,vc,vd,vu,ve,vf,vg,vh,vi,vj,vk,vl,vm,vn,vo,vp,vq,and_self]
  rw [wc,wd]
  refine ⟨fun _=>h _,fun _=>?_⟩
  rw [wb]
  refine wp_loop (fun i=>0≤i) (fun i:Int=>f.needs.length - i.toNat) (by simp) fun a ha=>?_
  rw [wc]
  simp only [vc,vd]
  refine ⟨fun hlt=>?_,fun _=>?_⟩
  ·rw [wb]
   refine wp_loop (fun i=>0≤i) (fun i:Int=>ps.length - i.toNat) (by simp) fun c hc=>?_
   rw [wc]
   simp only [vc,vd]
   refine ⟨fun hlt2=>?_,fun _=>?_⟩
   ·rw [wa,wb,we]
    refine ⟨by simpa using hc,by omega,?_⟩
    rw [wa,wb,we]
    refine ⟨by simpa using ha,by omega,?_⟩
    rw [wb]
    refine get_wp (hp _ (List.getElem_mem _)) hN ?_
    simp only [wa,wb,wc,wd,we,vw,vx,vv,vy,vz,vb,vc,vd,vu,ve,vf,vg,vh,vi,vj,vk,vl,vm,vn,vo,vp,h]
    (repeat' (first | omega | assumption | rfl | refine fun _=>?_ | refine ⟨by omega,?_⟩ | refine ⟨?_,?_⟩))
   ·simp only [wa,wb,wc,wd,we,vw,vx,vv,vy,vz,vb,vc,vd,vu,ve,vf,vg,vh,vi,vj,vk,vl,vm,vn,vo,vp,h]
    (repeat' (first | omega | assumption | rfl | refine fun _=>?_ | refine ⟨by omega,?_⟩ | refine ⟨?_,?_⟩))
  ·simp only [wa,wb,wc,wd,we,vw,vx,vv,vy,vz,vb,vc,vd,vu,ve,vf,vg,vh,vi,vj,vk,vl,vm,vn,vo,vp,h]
theorem fault6_wp {N:Nat}{ps:List Part}{Q:CFault→Prop}(hp:∀ p∈ps,SmP N p)(hN:N≤100000)(hl:ps.length≤100000)(h:∀ r,(r.code=0→1≤ps.length∧ps.length≤4∧∀ p∈ps,WF p)→Q r):wp (F_l6Fault ps) Q:=by
 have bad:∀ r:CFault,r.code≠0→Q r:=fun r hr=>h r fun e=>absurd e hr
 rw [F_l6Fault_eq]; unfold B_l6Fault
 refine wp_cut (fun x=>x=false→1≤ps.length∧ps.length≤4) ?_ fun x1 g1=>?_
 ·simp only [wa,wb,wc,wd,we,vw,vx,vv,vy,vz,vb,vc,vd,vu,ve,vf,vg,vh,vi,vj,vk,vl,vm,vn,vo,vp]
  exact ⟨fun _=>by simp,fun _ _=>by omega⟩
 rw [wc,wd]
 refine ⟨fun _=>bad _ (by simp),fun hx=>?_⟩
 obtain ⟨g2,g3⟩:=g1 hx
 rw [wb]
 refine wp_loop (fun s:Int×Int×List UInt8×List UInt8×Int=>0≤s.1∧s.1≤ps.length∧∀ (j:Nat)(hj:j<ps.length),j<s.1.toNat→WF ps[j]) (fun s=>ps.length - s.1.toNat) ⟨by simp,by simp,by simp⟩ fun s ⟨i1,i2,i3⟩=>?_
 rw [wc]
 simp only [vc,vd]
 refine ⟨fun hlt=>?_,fun _=>?_⟩
 ·rw [wa,wb,we]
  refine ⟨by simpa using i1,by omega,?_⟩
  rw [wb]
  refine pcheck_wp (hp _ (List.getElem_mem _)) hN fun r hr=>?_
  rw [wc]
  simp only [vf,vh,ne_eq]
  refine ⟨fun hr0=>?_,fun hr0=>?_⟩
  ·simp only [wa,wb,wc,wd,we,vw,vx,vv,vy,vz,vb,vc,vd,vu,ve,vf,vg,vh,vi,vj,vk,vl,vm,vn,vo,vp]
   exact ⟨by omega,bad _ (by simp)⟩
  rw [wb]
  refine wp_loop (fun u:Int×Int×List UInt8×List UInt8×Int=>0≤u.1∧u.1≤s.1) (fun u=>s.1.toNat - u.1.toNat) ⟨by simp,i1⟩ fun u ⟨j1,j2⟩=>?_
  simp only [wa,wb,wc,wd,we,vw,vx,vv,vy,vz,vb,vc,vd,vu,ve,vf,vg,vh,vi,vj,vk,vl,vm,vn,vo,vp]
  refine ⟨fun hlt2=>⟨j1,by omega,i1,by omega,fun _=>⟨by omega,bad _ (by simp)⟩,fun _=>⟨by omega,by omega,by omega⟩⟩,fun _=>⟨by omega,⟨by omega,by omega,fun j hj hj2=>?_⟩,by omega⟩⟩
  rcases Nat.lt_or_ge j s.1.toNat with h' | h'
  ·exact i3 j hj h'
  ·obtain rfl:j=s.1.toNat:=by omega
   exact hr hr0
 have hwf:∀ p∈ps,WF p:=fun p hp=>by
  obtain ⟨j,hj,rfl⟩:=List.getElem_of_mem hp
  exact i3 j hj (by omega)
 simp only [wd,vz,vw]
 rw [wb]
 refine wp_loop (fun s:Int×Int×List UInt8×List UInt8×Int=>0≤s.1) (fun s=>ps.length - s.1.toNat) (by simp) fun a ha=>?_
 rw [wc]
 simp only [vc,vd]
 refine ⟨fun hlt=>?_,fun _=>?_⟩
 ·have hai:a.1.toNat<ps.length:=by omega
  have hP:=hp _ (List.getElem_mem hai)
  have hPt:=hP.types
  rw [wb]
  refine wp_loop (fun s:Int×Int×List UInt8×List UInt8×Int=>0≤s.1) (fun s=>(ps[a.1.toNat]'hai).types.length - s.1.toNat) (by simp) fun c hc=>?_
  rw [wa,wb,we]
  refine ⟨by simpa using ha,hai,?_⟩
  rw [wc]
  simp only [vc,vd]
  refine ⟨fun hlt2=>?_,fun _=>?_⟩
  ·rw [wa,wb,we]
   refine ⟨by simpa using ha,hai,?_⟩
   rw [wa,wb,we]
   refine ⟨by simpa using hc,by omega,?_⟩
   have hT:=hP.type ((ps[a.1.toNat]'hai).types[c.1.toNat]'(by omega)) (List.getElem_mem _)
   generalize (ps[a.1.toNat]'hai).types[c.1.toNat]'(by omega)=T at hT
   have hTf:=hT.fields
   refine wp_cut (fun _=>True) ?_ fun x2 _=>?_
   ·simp only [wa,wb,wc,wd,we,vw,vx,vv,vy,vz,vb,vc,vd,vu,ve,vf,vg,vh,vi,vj,vk,vl,vm,vn,vo,vp]
    exact ⟨fun _=>key6_wp hp hN hl (by simp),by simp⟩
   rw [wc]
   refine ⟨fun _=>?_,fun _=>?_⟩
   ·simp only [wa,wb,wc,wd,we,vw,vx,vv,vy,vz,vb,vc,vd,vu,ve,vf,vg,vh,vi,vj,vk,vl,vm,vn,vo,vp]
    exact ⟨by omega,bad _ (by simp)⟩
   rw [wb]
   refine wp_loop (fun s:Int×Int×List UInt8×List UInt8×Int=>0≤s.1) (fun s=>T.fields.length - s.1.toNat) (by simp) fun e he=>?_
   simp only [wa,wb,wc,wd,we,vw,vx,vv,vy,vz,vb,vc,vd,vu,ve,vf,vg,vh,vi,vj,vk,vl,vm,vn,vo,vp]
   refine ⟨fun hlt3=>⟨he,by omega,field6_wp hp hN hl (hT.field _ (List.getElem_mem _)) fun r=>⟨fun hr=>⟨by omega,he,by omega,bad _ hr⟩,fun _=>⟨by omega,by omega,by omega⟩⟩⟩,fun _=>⟨by omega,by omega,by omega⟩⟩
  ·simp only [wa,wb,wc,wd,we,vw,vx,vv,vy,vz,vb,vc,vd,vu,ve,vf,vg,vh,vi,vj,vk,vl,vm,vn,vo,vp]
   exact ⟨by omega,by omega,by omega⟩
 ·simp only [wa,wb,wc,wd,we,vw,vx,vv,vy,vz,vb,vc,vd,vu,ve,vf,vg,vh,vi,vj,vk,vl,vm,vn,vo,vp]
  exact h _ fun _=>⟨g2,g3,hwf⟩
theorem put6_wp {N:Nat}{t:Typ}{f:Field}{Q:Typ→Prop}(ht:SmT N t)(hN:N≤100000)(hf:SmF f)(h:∀ t',SmT (N+1) t'→Q t'):wp (F_l6Put (t,f)) Q:=by
 have hL:LIM=1099511627776:=rfl
 have h1:=ht.fields
 have h2:=hf.needs
 rw [F_l6Put_eq]; unfold B_l6Put
 rw [wb]
 refine field_wp (by show t.fields.length≤_; omega) fun k hk=>?_
 rw [wc]
 simp only [vc,vd]
 refine ⟨fun _=>?_,fun hk0=>?_⟩
 ·simp only [wa,wb,wc,wd,we,vw,vx,vv,vy,vz,vb,vc,vd,vu,ve,vf,vg,vh,vi,vj,vk,vl,vm,vn,vo,vp,vs,vt]
  refine ⟨by omega,by omega,by omega,h _ ⟨ht.name,ht.key,by simp only [vr,vs,vt]; omega,fun g hg=>?_⟩⟩
  rcases List.mem_append.1 hg with hg | hg
  ·exact ht.field g hg
  ·obtain rfl:=List.mem_singleton.1 hg
   exact ⟨hf.name,hf.of,hf.needs,hf.need⟩
 ·have hk1:k.toNat<t.fields.length:=(hk.at (by omega)).1
  have fset:∀ (fs:List Field)(g:Field),fs.length=t.fields.length→(∀ x∈fs,SmF x)→SmF g→(fs.set k.toNat g).length=t.fields.length∧∀ x∈fs.set k.toNat g,SmF x:=fun fs g hl hs hg=>by
   refine ⟨by rw [List.length_set]; exact hl,fun x hx=>?_⟩
   rcases List.mem_or_eq_of_mem_set hx with hx | rfl
   ·exact hs x hx
   ·exact hg
  simp only [wa,vc]
  refine ⟨by omega,?_⟩
  refine wp_cut (fun x:(List UInt8×List UInt8×List Field)×(List UInt8×List UInt8)×List Field×List Field=>x.1.1=t.name∧x.1.2.1=t.key∧x.2.2.2.length=t.fields.length∧∀ f∈x.2.2.2,SmF f) ?_ fun x ⟨a1,a2,a3,a4⟩=>?_
  ·simp only [wa,wb,wc,wd,we,vw,vx,vv,vy,vz,vb,vc,vd,vu,ve,vf,vg,vh,vi,vj,vk,vl,vm,vn,vo,vp]
   refine ⟨fun _=>⟨by omega,hk1,?_⟩,fun _=>ht.field⟩
   have hg:=ht.field _ (List.getElem_mem hk1)
   exact fset _ _ rfl ht.field ⟨hg.name,hg.of,hg.needs,hg.need⟩
  refine wp_cut (fun x:(List UInt8×List UInt8×List Field)×(List UInt8×List UInt8)×List Field×List Field=>x.1.1=t.name∧x.1.2.1=t.key∧x.2.2.2.length=t.fields.length∧∀ f∈x.2.2.2,SmF f) ?_ fun y ⟨b1,b2,b3,b4⟩=>?_
  ·simp only [wa,wb,wc,wd,we,vw,vx,vv,vy,vz,vb,vc,vd,vu,ve,vf,vg,vh,vi,vj,vk,vl,vm,vn,vo,vp]
   refine ⟨fun _=>⟨by omega,by omega,by omega,a1,a2,?_⟩,fun _=>⟨a1,a2,a3,a4⟩⟩
   have hg:=a4 _ (List.getElem_mem (show k.toNat<x.2.2.2.length by omega))
   exact fset _ _ a3 a4 ⟨hg.name,hg.of,hf.needs,hf.need⟩
  rw [wd]
  exact h _ ⟨by show y.1.1.length≤_; rw [b1]; exact ht.name,by show y.1.2.1.length≤_; rw [b2]; exact ht.key,by show y.2.2.2.length≤_; omega,b4⟩
end Go.Fw
namespace Go.Fw
open Go
structure Ch (ps:List Part):Prop where
 few:ps.length≤4
 sm:∀ p∈ps,SmP 300 p
theorem all6_wp {ps:List Part}{Q:Part→Prop}(hc:Ch ps)(hw:∀ p∈ps,WF p)(h:∀ p,SmP 200 p→Q p):wp (F_l6All ps) Q:=by
 have hL:LIM=1099511627776:=rfl
 have hps:=hc.few
 rw [F_l6All_eq]; unfold B_l6All
 rw [wb]
 refine wp_loop (fun s:Int×List UInt8×List Typ×List UInt8×List Typ=>0≤s.1∧s.1≤ps.length∧SmP (1+45 * s.1.toNat) ⟨s.2.2.2.1,s.2.2.2.2⟩) (fun s=>ps.length - s.1.toNat) ⟨by simp,by simp,⟨by simp,by simp,by simp⟩⟩ fun s ⟨i1,i2,i3⟩=>?_
 rw [wc]
 simp only [vc,vd]
 refine ⟨fun hlt=>?_,fun _=>?_⟩
 ·have hi:s.1.toNat<ps.length:=by omega
  have hW:=hw _ (List.getElem_mem hi)
  have hS:=hc.sm _ (List.getElem_mem hi)
  generalize hP:ps[s.1.toNat]'hi=P at hW hS
  have hW5:=hW.few
  rw [wb]
  refine wp_loop (fun u:Int×List UInt8×List Typ×List UInt8×List Typ=>0≤u.1∧u.1≤P.types.length∧SmP (1+45 * s.1.toNat+9 * u.1.toNat) ⟨u.2.2.2.1,u.2.2.2.2⟩) (fun u=>P.types.length - u.1.toNat) ⟨by simp,by simp,i3.up (by simp)⟩ fun u ⟨j1,j2,j3⟩=>?_
  have jl:u.2.2.2.2.length≤_:=j3.types
  rw [wa,wb,we]
  refine ⟨by simpa using i1,hi,?_⟩
  rw [hP,wc]
  simp only [vc,vd]
  refine ⟨fun hlt2=>?_,fun _=>?_⟩
  ·rw [wa,wb,we]
   refine ⟨by simpa using i1,hi,?_⟩
   rw [hP,wa,wb,we]
   refine ⟨by simpa using j1,by omega,?_⟩
   have hT:=hS.type (P.types[u.1.toNat]'(by omega)) (List.getElem_mem _)
   have hO:=hW.type (P.types[u.1.toNat]'(by omega)) (List.getElem_mem _)
   generalize P.types[u.1.toNat]'(by omega)=T at hT hO
   have hO8:=hO.few
   rw [wb]
   refine type_wp (by show u.2.2.2.2.length≤_; omega) fun r hr=>?_
   have hr1:=hr.lt
   refine wp_cut (fun x:Int×List UInt8×List Typ×List UInt8×List Typ=>0≤x.1∧x.1<x.2.2.2.2.length∧SmP (1+45 * s.1.toNat+9 * u.1.toNat+1) ⟨x.2.2.2.1,x.2.2.2.2⟩) ?_ fun x ⟨a1,a2,a3⟩=>?_
   ·simp only [wa,wb,wc,wd,we,vw,vx,vv,vy,vz,vb,vc,vd,vu,ve,vf,vg,vh,vi,vj,vk,vl,vm,vn,vo,vp]
    refine ⟨fun _=>key6_wp hc.sm (by omega) (by omega) fun k hk=>⟨by simp only [vs,vt]; omega,by omega,by simp only [vr,vs,vt]; omega,⟨j3.name,by simp only [vr,vs,vt]; omega,fun t ht=>?_⟩⟩,fun _=>⟨by omega,hr1.2,j3.up (by omega)⟩⟩
    rcases List.mem_append.1 ht with ht | ht
    ·exact (j3.type t ht).up (by omega)
    ·obtain rfl:=List.mem_singleton.1 ht
     exact ⟨hT.name,hk,by simp,by simp⟩
   rw [wb]
   refine wp_loop (fun v:Int×List UInt8×List Typ×List UInt8×List Typ=>0≤v.1∧v.1≤T.fields.length∧v.2.2.2.2.length=x.2.2.2.2.length∧SmP (1+45 * s.1.toNat+9 * u.1.toNat+1+v.1.toNat) ⟨v.2.2.2.1,v.2.2.2.2⟩) (fun v=>T.fields.length - v.1.toNat) ⟨by simp,by simp,rfl,a3.up (by simp)⟩ fun v ⟨k1,k2,k3,k4⟩=>?_
   simp only [wa,wb,wc,wd,we,vw,vx,vv,vy,vz,vb,vc,vd,vu,ve,vf,vg,vh,vi,vj,vk,vl,vm,vn,vo,vp]
   refine ⟨fun hlt3=>⟨⟨a1,by omega⟩,by omega,k1,by omega,put6_wp (k4.type _ (List.getElem_mem _)) (by omega) (hT.field _ (List.getElem_mem _)) fun t' ht'=>⟨⟨a1,by omega⟩,by omega,by omega,⟨by omega,by omega,by rw [List.length_set]; exact k3,?_⟩,by omega⟩⟩,fun _=>⟨by omega,⟨by omega,by omega,k4.up (by omega)⟩,by omega⟩⟩
   exact ((k4.up (by omega)).set (N:=1+45 * s.1.toNat+9 * u.1.toNat+1+v.1.toNat+1) _ ht').up (by omega)
  ·simp only [wa,wb,wc,wd,we,vw,vx,vv,vy,vz,vb,vc,vd,vu,ve,vf,vg,vh,vi,vj,vk,vl,vm,vn,vo,vp]
   exact ⟨by omega,⟨by omega,by omega,j3.up (by omega)⟩,by omega⟩
 ·simp only [wa,wb,wc,wd,we,vw,vx,vv,vy,vz,vb,vc,vd,vu,ve,vf,vg,vh,vi,vj,vk,vl,vm,vn,vo,vp]
  exact h _ (i3.up (by omega))
theorem chart_wp {ps:List Part}{Q:Chart×CFault→Prop}(hc:Ch ps)(h:∀ r,(r.2.code=0→WF r.1.all∧SmP 200 r.1.all∧1≤ps.length)→Q r):wp (F_ChartMake ps) Q:=by
 have hL:LIM=1099511627776:=rfl
 have hps:=hc.few
 rw [F_ChartMake_eq]; unfold B_ChartMake
 rw [wb]
 refine fault6_wp hc.sm (by omega) (by omega) fun f hf=>?_
 rw [wc,wd]
 simp only [vf,vh,ne_eq]
 refine ⟨fun hf0=>h _ fun e=>absurd e hf0,fun hf0=>?_⟩
 obtain ⟨f1,f2,f3⟩:=hf hf0
 rw [wb]
 refine all6_wp hc f3 fun A hA=>?_
 rw [wb]
 refine pcheck_wp hA (by omega) fun r hr=>?_
 rw [wc,wd]
 simp only [vf,vh,ne_eq]
 refine ⟨fun _=>h _ fun e=>by simp at e,fun hr0=>?_⟩
 have hW:=hr hr0
 have hW5:=hW.few
 rw [wb]
 refine wp_loop (fun s:Int×List UInt8×List Typ×List Own×(Int×List UInt8×List UInt8×Int)×(List UInt8×List Typ)×List Own=>0≤s.1∧s.1≤A.types.length∧s.2.2.2.2.2.1=(A.name,A.types)∧s.2.2.2.2.2.2.length≤8 * s.1.toNat) (fun s=>A.types.length - s.1.toNat) ⟨by simp,by simp,rfl,by simp⟩ fun s ⟨i1,i2,i3,i4⟩=>?_
 rw [i3,wc]
 simp only [vc,vd]
 refine ⟨fun hlt=>?_,fun _=>?_⟩
 ·rw [wa,wb,we]
  refine ⟨by simpa using i1,by omega,?_⟩
  have hO:=hW.type (A.types[s.1.toNat]'(by omega)) (List.getElem_mem _)
  generalize A.types[s.1.toNat]'(by omega)=T at hO
  have hO8:=hO.few
  rw [wb]
  refine wp_loop (fun u:Int×List UInt8×List Typ×List Own×(Int×List UInt8×List UInt8×Int)×(List UInt8×List Typ)×List Own=>0≤u.1∧u.1≤T.fields.length∧u.2.2.2.2.2.1=(A.name,A.types)∧u.2.2.2.2.2.2.length≤8 * s.1.toNat+u.1.toNat) (fun u=>T.fields.length - u.1.toNat) ⟨by simp,by simp,rfl,by simpa using i4⟩ fun u ⟨j1,j2,j3,j4⟩=>?_
  simp only [wa,wb,wc,wd,we,vw,vx,vv,vy,vz,vb,vc,vd,vu,ve,vf,vg,vh,vi,vj,vk,vl,vm,vn,vo,vp,j3,vr,vs,vt]
  refine ⟨fun hlt2=>⟨j1,by omega,j1,by omega,owners_wp hc.sm (by omega) (by omega) fun l _=>⟨by omega,by omega,⟨by omega,by omega,by omega⟩,by omega⟩⟩,fun _=>⟨by omega,⟨by omega,by omega,by omega⟩,by omega⟩⟩
 ·simp only [wa,wb,wc,wd,we,vw,vx,vv,vy,vz,vb,vc,vd,vu,ve,vf,vg,vh,vi,vj,vk,vl,vm,vn,vo,vp]
  exact h _ fun _=>⟨hW,hA,f1⟩
end Go.Fw
namespace Go.Fw
open Go
theorem local_wp {N:Nat}{p:Part}{nm fl:List UInt8}{Q:Bool→Prop}(hp:SmP N p)(hN:N≤100000)(h:∀ r,Q r):wp (F_l7Local (p,nm,fl)) Q:=by
 rw [F_l7Local_eq]; unfold B_l7Local; dsimp only
 rw [wb]
 refine get_wp hp hN ?_
 simp only [wa,wb,wc,wd,we,vw,vx,vv,vy,vz,vb,vc,vd,vu,ve,vf,vg,vh,vi,vj,vk,vl,vm,vn,vo,vp,h,vq,and_self]
theorem keyed_wp {N:Nat}{p:Part}{nm:List UInt8}{Q:Bool→Prop}(hp:SmP N p)(hN:N≤100000)(h:∀ r,Q r):wp (F_l7Keyed (p,nm)) Q:=by
 have:=hp.types
 rw [F_l7Keyed_eq]; unfold B_l7Keyed; dsimp only
 rw [wb]
 refine type_wp (by show p.types.length≤_; omega) fun r hr=>?_
 simp only [wa,wb,wc,wd,we,vw,vx,vv,vy,vz,vb,vc,vd,vu,ve,vf,vg,vh,vi,vj,vk,vl,vm,vn,vo,vp,vq,and_self,h]
 exact fun h0=>⟨h0,(hr.at h0).1,trivial⟩
theorem first_wp {N:Nat}{ps:List Part}{nm fl:List UInt8}{Q:Int→Prop}(hp:∀ p∈ps,SmP N p)(hN:N≤100000)(hl:ps.length≤100000)(h:∀ r:Int,-1≤r→r<ps.length→Q r):wp (F_l7First (ps,nm,fl)) Q:=by
 rw [F_l7First_eq]; unfold B_l7First; dsimp only
 rw [wb]
 refine wp_loop (fun i=>0≤i) (fun i:Int=>ps.length - i.toNat) (by simp) fun s hs=>?_
 rw [wc]
 simp only [vc,vd]
 refine ⟨fun hlt=>?_,fun _=>?_⟩
 ·have hi:s.toNat<ps.length:=by omega
  rw [wa,wb,we]
  refine ⟨by simpa using hs,hi,?_⟩
  rw [wb]
  refine get_wp (hp _ (List.getElem_mem _)) hN ?_
  refine wp_cut (fun _=>True) ?_ fun x1 _=>?_
  ·simp only [wa,wb,wc,wd,we,vw,vx,vv,vy,vz,vb,vc,vd,vu,ve,vf,vg,vh,vi,vj,vk,vl,vm,vn,vo,vp,vq,and_self]
   exact fun _ _ _=>⟨hs,hi,keyed_wp (hp _ (List.getElem_mem _)) hN (by simp)⟩
  ·simp only [wa,wb,wc,wd,we,vw,vx,vv,vy,vz,vb,vc,vd,vu,ve,vf,vg,vh,vi,vj,vk,vl,vm,vn,vo,vp]
   exact ⟨fun _=>h _ (by omega) hlt,fun _=>⟨by omega,by omega,by omega⟩⟩
 ·simp only [wa,wb,wc,wd,we,vw,vx,vv,vy,vz,vb,vc,vd,vu,ve,vf,vg,vh,vi,vj,vk,vl,vm,vn,vo,vp]
  exact h _ (by omega) (by omega)
theorem next_wp {N:Nat}{ps:List Part}{fr:Int}{nm fl:List UInt8}{Q:Int→Prop}(hp:∀ p∈ps,SmP N p)(hN:N≤100000)(hl:ps.length≤100000)(h0:0≤fr)(h1:fr<ps.length)(h:∀ r:Int,-1≤r→r<ps.length→Q r):wp (F_l7Next (ps,fr,nm,fl)) Q:=by
 have hi:fr.toNat<ps.length:=by omega
 have hP:=hp _ (List.getElem_mem hi)
 rw [F_l7Next_eq]; unfold B_l7Next; dsimp only
 refine wp_cut (fun _=>True) ?_ fun x1 _=>?_
 ·simp only [wa,wb,wc,wd,we,vw,vx,vv,vy,vz,vb,vc,vd,vu,ve,vf,vg,vh,vi,vj,vk,vl,vm,vn,vo,vp,vq,and_self]
  exact fun _=>⟨h0,hi,local_wp hP hN (by simp)⟩
 rw [wc,wd]
 refine ⟨fun _=>h _ (by omega) h1,fun _=>?_⟩
 rw [wb]
 refine first_wp hp hN hl fun r hr1 hr2=>?_
 refine wp_cut (fun x=>x=false→0≤r) ?_ fun x2 g2=>?_
 ·simp only [wa,wb,wc,wd,we,vw,vx,vv,vy,vz,vb,vc,vd,vu,ve,vf,vg,vh,vi,vj,vk,vl,vm,vn,vo,vp]
  exact ⟨fun _=>by simp,fun _ h=>by omega⟩
 rw [wc,wd]
 refine ⟨fun _=>h _ hr1 hr2,fun hx=>?_⟩
 have hr0:=g2 hx
 have hri:r.toNat<ps.length:=by omega
 have hR:=hp _ (List.getElem_mem hri)
 rw [wa,wb,we]
 refine ⟨by simpa using hr0,hri,?_⟩
 rw [wb]
 refine get_wp hR hN ?_
 have hF:SmF (getF (ps[r.toNat]'hri) nm fl).1:=getF_sm hR
 generalize (getF (ps[r.toNat]'hri) nm fl)=fo at hF
 have hFn:=hF.needs
 rw [wa,wb,we]
 refine ⟨by simpa using h0,hi,?_⟩
 rw [wb]
 refine keyed_wp hP hN fun x3=>?_
 rw [wc,wd]
 refine ⟨fun _=>h _ (by omega) (by omega),fun _=>?_⟩
 rw [wb]
 refine wp_loop (fun i=>0≤i) (fun i:Int=>fo.1.needs.length - i.toNat) (by simp) fun s hs=>?_
 rw [wc]
 simp only [vc,vd]
 refine ⟨fun hlt=>?_,fun _=>?_⟩
 ·refine wp_cut (fun _=>True) ?_ fun x4 _=>?_
  ·rw [wa,wb,we]
   refine ⟨by simpa using h0,hi,?_⟩
   simp only [wa,wb,wc,wd,we,vw,vx,vv,vy,vz,vb,vc,vd,vu,ve,vf,vg,vh,vi,vj,vk,vl,vm,vn,vo,vp]
   exact ⟨hs,by omega,local_wp hP hN fun _=>⟨fun _=>⟨hs,by omega,first_wp hp hN hl fun _ _ _=>trivial⟩,by simp⟩⟩
  ·simp only [wa,wb,wc,wd,we,vw,vx,vv,vy,vz,vb,vc,vd,vu,ve,vf,vg,vh,vi,vj,vk,vl,vm,vn,vo,vp]
   exact ⟨fun _=>h _ (by omega) (by omega),fun _=>⟨by omega,by omega,by omega⟩⟩
 ·simp only [wa,wb,wc,wd,we,vw,vx,vv,vy,vz,vb,vc,vd,vu,ve,vf,vg,vh,vi,vj,vk,vl,vm,vn,vo,vp]
  exact h _ hr1 hr2
theorem seen_wp {l:List Stt}{s:Stt}{Q:Int→Prop}(hl:l.length≤4611686018427387904)(h:∀ r,Fst l (fun x=>x.part == s.part && (x.type == s.type && true)) r→Q r):wp (F_l7Seen (l,s)) Q:=by
 rw [F_l7Seen_eq]; unfold B_l7Seen; dsimp only
 rw [wb]
 refine find_wp hl (fun i hi hq hn=>?_) fun hn=>?_
 ·exact wd.2 (h _ (.inr ⟨i,hi,rfl,hq,hn⟩))
 ·exact wd.2 (h _ (.inl ⟨rfl,hn⟩))
theorem nodup_le {α:Type} [DecidableEq α]:∀ (l S:List α),l.Nodup→(∀ x∈l,x∈S)→l.length≤S.length
 | [],_,_,_=>by simp
 | x :: l,S,hn,hs=>by
  obtain ⟨h1,h2⟩:=List.nodup_cons.1 hn
  have:=nodup_le l (S.erase x) h2 fun y hy=>(List.mem_erase_of_ne (fun e=>h1 (by rw [← e]; exact hy))).2 (hs y (by simp [hy]))
  rw [List.length_erase_of_mem (hs x (by simp))] at this
  have hp:0<S.length:=List.length_pos_of_mem (hs x (by simp))
  simp only [vs]
  omega
def keyS (s:Stt):Int×List UInt8:=(s.part,s.type)
def stS (n:Nat)(all:Part):List (Int×List UInt8):=(List.range n).flatMap fun p:Nat=>all.types.map fun t=>(Int.ofNat p,t.name)
theorem stS_len (n:Nat)(all:Part):(stS n all).length=n * all.types.length:=by
 unfold stS
 induction n with
 | zero=>simp
 | succ n ih=>rw [List.range_succ,List.flatMap_append,vr,ih]; simp [Nat.succ_mul]
theorem mem_stS {n:Nat}{all:Part}{s:Stt}(h0:0≤s.part)(h1:s.part<n)(h2:∃ t∈all.types,t.name=s.type):keyS s∈stS n all:=by
 obtain ⟨t,ht,e⟩:=h2
 refine List.mem_flatMap.2 ⟨s.part.toNat,List.mem_range.2 (by omega),List.mem_map.2 ⟨t,ht,?_⟩⟩
 rw [e,Int.ofNat_eq_natCast,Int.toNat_of_nonneg h0]; rfl
structure Wk (n:Nat)(all:Part)(m:Nat)(bad:List (List UInt8))(st:List Stt)(ways:List (List (List UInt8))):Prop where
 bad:bad.length≤m
 pos:∀ s∈st,0≤s.part∧s.part<n∧∃ t∈all.types,t.name=s.type
 nd:(st.map keyS).Nodup
 wl:ways.length=st.length
 way:∀ w∈ways,w.length≤m
theorem Wk.le {n:Nat}{all:Part}{m:Nat}{bad:List (List UInt8)}{st:List Stt}{ways:List (List (List UInt8))}(h:Wk n all m bad st ways):st.length≤n * all.types.length:=by
 rw [← stS_len,← List.length_map (f:=keyS)]
 refine nodup_le _ _ h.nd fun x hx=>?_
 obtain ⟨s,hs,rfl⟩:=List.mem_map.1 hx
 obtain ⟨a,b,c⟩:=h.pos s hs
 exact mem_stS a b c
theorem Wk.up {n:Nat}{all:Part}{m k:Nat}{bad:List (List UInt8)}{st:List Stt}{ways:List (List (List UInt8))}(h:Wk n all m bad st ways)(hk:m≤k):Wk n all k bad st ways :=
 ⟨Nat.le_trans h.bad hk,h.pos,h.nd,h.wl,fun w hw=>Nat.le_trans (h.way w hw) hk⟩
theorem Wk.add {n:Nat}{all:Part}{m:Nat}{bad:List (List UInt8)}{st:List Stt}{ways:List (List (List UInt8))}(h:Wk n all m bad st ways){s:Stt}{w:List (List UInt8)}(h0:0≤s.part)(h1:s.part<n)(h2:∃ t∈all.types,t.name=s.type)
  (hn:∀ x∈st,keyS x≠keyS s)(hw:w.length≤m):Wk n all m bad (st++[s]) (ways++[w]):=by
 refine ⟨h.bad,fun x hx=>?_,?_,by simp [h.wl],fun x hx=>?_⟩
 ·rcases List.mem_append.1 hx with hx | hx
  ·exact h.pos x hx
  ·obtain rfl:=List.mem_singleton.1 hx
   exact ⟨h0,h1,h2⟩
 ·rw [List.map_append,List.nodup_append]
  refine ⟨h.nd,by simp,fun a ha b hb=>?_⟩
  obtain ⟨x,hx,rfl⟩:=List.mem_map.1 ha
  obtain rfl:b=keyS s:=by simpa using hb
  exact hn x hx
 ·rcases List.mem_append.1 hx with hx | hx
  ·exact h.way x hx
  ·obtain rfl:=List.mem_singleton.1 hx
   exact hw
theorem go7_wp {ps:List Part}{all:Part}{at':Int}{m:Nat}{bad:List (List UInt8)}{st:List Stt}{ways:List (List (List UInt8))}{Q:List (List UInt8)×List Stt×List (List (List UInt8))→Prop}(hc:Ch ps)(hw:WF all)(hA:SmP 200 all)(hm:m≤1000000)
  (h0:0≤at')(h1:at'<st.length)(hk:Wk ps.length all m bad st ways)(h:∀ bad' st' ways',Wk ps.length all (m+10) bad' st' ways'→st.length≤st'.length→Q (bad',st',ways')):wp (F_l7Walk_l7Go (ps,all,at',bad,st,ways)) Q:=by
 have hL:LIM=1099511627776:=rfl
 have hps:=hc.few
 have hW5:=hw.few
 have hai:at'.toNat<st.length:=by omega
 rw [F_l7Walk_l7Go_eq]; unfold B_l7Walk_l7Go; dsimp only
 rw [wa,wb,we]
 refine ⟨by simp only [vb,vc]; exact ⟨h0,h1⟩,hai,?_⟩
 obtain ⟨s1,s2,s3⟩:=hk.pos _ (List.getElem_mem hai)
 change 0≤(st[at'.toNat]'hai).part at s1
 generalize st[at'.toNat]'hai=S at s1 s2 s3
 rw [wb]
 refine type_wp (by show all.types.length≤_; omega) fun r hr=>?_
 have hr0:0≤r:=hr.some (by obtain ⟨t,ht,e⟩:=s3; exact ⟨t,ht,by simpa using e⟩)
 obtain ⟨hri,_⟩:=hr.at hr0
 rw [wa,wb,we]
 refine ⟨by simpa using hr0,hri,?_⟩
 have hT:=hA.type _ (List.getElem_mem hri)
 have hO:=hw.type _ (List.getElem_mem hri)
 change SmT 200 (all.types[r.toNat]'hri) at hT
 generalize all.types[r.toNat]'hri=T at hT hO
 have hTf:=hT.fields
 rw [wb]
 refine wp_loop (fun s:Int×List (List UInt8)×List Stt×List (List (List UInt8))=>0≤s.1∧s.1≤T.fields.length∧Wk ps.length all (m+s.1.toNat) s.2.1 s.2.2.1 s.2.2.2∧st.length≤s.2.2.1.length) (fun s=>T.fields.length - s.1.toNat) ⟨by simp,by simp,hk.up (by omega),Nat.le_refl _⟩ fun s ⟨i1,i4,i2,i3⟩=>?_
 rw [wc]
 simp only [vc,vd]
 refine ⟨fun hlt=>?_,fun _=>?_⟩
 ·rw [wa,wb,we]
  refine ⟨by simpa using i1,by omega,?_⟩
  have hf:=hO.of (T.fields[s.1.toNat]'(by omega)) (List.getElem_mem _)
  generalize T.fields[s.1.toNat]'(by omega)=f at hf
  rw [wc]
  refine ⟨fun _=>?_,fun _=>?_⟩
  ·simp only [wa,wb,wc,wd,we,vw,vx,vv,vy,vz,vb,vc,vd,vu,ve,vf,vg,vh,vi,vj,vk,vl,vm,vn,vo,vp]
   exact ⟨by omega,⟨by omega,by omega,i2.up (by omega),i3⟩,by omega⟩
  have hwi:at'.toNat<s.2.2.2.length:=by have:=i2.wl; omega
  have hsl:=i2.le
  have hsl2:ps.length * all.types.length≤4 * 5:=Nat.mul_le_mul hps hW5
  have hwl:=i2.wl
  rw [wa,wb,we]
  refine ⟨by simp only [vb,vc]; exact ⟨h0,by omega⟩,hwi,?_⟩
  have hO8:=hO.few
  have hway:=i2.way _ (List.getElem_mem hwi)
  generalize s.2.2.2[at'.toNat]'hwi=way at hway
  simp only [wa,vc,vs,vt]
  refine ⟨by omega,by omega,?_⟩
  rw [wb]
  refine next_wp hc.sm (by omega) (by omega) s1 s2 fun to ht1 ht2=>?_
  rw [wc]
  simp only [vc,vd]
  refine ⟨fun _=>?_,fun hto=>?_⟩
  ·simp only [wa,wb,wc,wd,we,vw,vx,vv,vy,vz,vb,vc,vd,vu,ve,vf,vg,vh,vi,vj,vk,vl,vm,vn,vo,vp]
   refine ⟨fun _=>⟨by omega,⟨by omega,by omega,⟨by simp only [vr,vs,vt]; omega,i2.pos,i2.nd,i2.wl,fun w hw=>Nat.le_trans (i2.way w hw) (by omega)⟩,i3⟩,by omega⟩,fun _=>⟨by omega,⟨by omega,by omega,i2.up (by omega),i3⟩,by omega⟩⟩
  refine wp_cut (fun x=>x=true→isSc f.of=false∧∀ y∈s.2.2.1,keyS y≠(to,f.of)) ?_ fun x5 g5=>?_
  ·simp only [wa,wb,wc,wd,we,vw,vx,vv,vy,vz,vb,vc,vd,vu,ve,vf,vg,vh,vi,vj,vk,vl,vm,vn,vo,vp,vq,and_self]
   refine scalar_wp fun hs=>seen_wp (by omega) fun k hk hk0=>⟨hs,fun y hy hk1=>?_⟩
   rcases hk with ⟨_,hn⟩ | ⟨i,hi,rfl,_⟩
   ·have:=hn y hy
    simp only [keyS,Prod.mk.injEq] at hk1
    simp [hk1.1,hk1.2] at this
   ·omega
  have hstep:=i2.up (k:=m+(s.1+1).toNat) (by omega)
  refine wp_cut (fun x:List (List UInt8)×List Stt×List (List (List UInt8))=>Wk ps.length all (m+(s.1+1).toNat) x.1 x.2.1 x.2.2∧st.length≤x.2.1.length) ?_ fun x ⟨b1,b2⟩=>?_
  ·simp only [wa,wb,wc,wd,we,vw,vx,vv,vy,vz,vb,vc,vd,vu,ve,vf,vg,vh,vi,vj,vk,vl,vm,vn,vo,vp,vs,vt]
   refine ⟨fun hx=>⟨by omega,by omega,?_,by simp only [vr,vs,vt]; omega⟩,fun _=>⟨hstep,i3⟩⟩
   obtain ⟨g6,g7⟩:=g5 hx
   refine hstep.add (show 0≤to by omega) ht2 ?_ g7 (by simp only [vr,vs,vt]; omega)
   rcases hf with hf | hf
   ·rw [g6] at hf; cases hf
   ·exact hf
  ·simp only [wa,wb,wc,wd,we,vw,vx,vv,vy,vz,vb,vc,vd,vu,ve,vf,vg,vh,vi,vj,vk,vl,vm,vn,vo,vp]
   exact ⟨by omega,⟨by omega,by omega,b1,b2⟩,by omega⟩
 ·have hO8:=hO.few
  simp only [wa,wb,wc,wd,we,vw,vx,vv,vy,vz,vb,vc,vd,vu,ve,vf,vg,vh,vi,vj,vk,vl,vm,vn,vo,vp]
  exact h _ _ _ (i2.up (by omega)) i3
theorem all7_wp {ps:List Part}{all:Part}{Q:List (List UInt8)×List Stt×List (List (List UInt8))→Prop}(hc:Ch ps)(h1:1≤ps.length)(hw:WF all)(hA:SmP 200 all)(h:∀ bad st ways,bad.length≤1000→Q (bad,st,ways)):wp (F_l7All (ps,all)) Q:=by
 have hps:=hc.few
 have hW5:=hw.few
 have hsl2:ps.length * all.types.length≤4 * 5:=Nat.mul_le_mul hps hW5
 rw [F_l7All_eq]; unfold B_l7All; dsimp only
 rw [wb]
 refine wp_loop (fun s:Int×List (List UInt8)×List Stt×List (List (List UInt8))=>0≤s.1∧s.1≤s.2.2.1.length∧Wk ps.length all (10 * s.1.toNat) s.2.1 s.2.2.1 s.2.2.2) (fun s=>20 - s.1.toNat) ⟨by simp,by simp,⟨by simp,fun s hs=>?_,by simp,by simp,by simp⟩⟩ fun s ⟨i1,i2,i3⟩=>?_
 ·obtain rfl:=List.mem_singleton.1 hs
  exact ⟨by simp,by show (0:Int)<_; omega,_,List.getElem_mem _,hw.root⟩
 have hl:=i3.le
 simp only [wa,wb,wc,wd,we,vw,vx,vv,vy,vz,vb,vc,vd,vu,ve,vf,vg,vh,vi,vj,vk,vl,vm,vn,vo,vp]
 refine ⟨fun hlt=>go7_wp hc hw hA (by omega) i1 hlt i3 fun bad st ways hk hle=>⟨by omega,⟨by omega,by dsimp only; omega,hk.up (by omega)⟩,by omega⟩,fun _=>h _ _ _ (Nat.le_trans i3.bad (by omega))⟩
theorem reach_wp {ps:List Part}{Q:Bool×List (List UInt8)→Prop}(hc:Ch ps)(h:∀ r,Q r):wp (F_ReachOk ps) Q:=by
 have hL:LIM=1099511627776:=rfl
 rw [F_ReachOk_eq]; unfold B_ReachOk
 rw [wb]
 refine chart_wp hc fun r hr=>?_
 simp only [wa,wb,wc,wd,we,vw,vx,vv,vy,vz,vb,vc,vd,vu,ve,vf,vg,vh,vi,vj,vk,vl,vm,vn,vo,vp,h]
 refine ⟨fun _=>trivial,fun h0=>?_⟩
 obtain ⟨a,b,c⟩:=hr h0
 exact all7_wp hc c a b fun bad st ways hb=>by dsimp only; omega
end Go.Fw
namespace Go.Fw
open Go
theorem sels_mono (n:Nat):∀ d,Le (F_l11Sels n d) (F_l11Sels (n+1) d):=by
 induction n with
 | zero=>intro d; exact Le.none
 | succ n ih =>
  intro d
  rw [F_l11Sels,F_l11Sels]
  repeat' (first | exact ih _ | refine Le.bind ?_ ?_ | refine Le.cond ?_ ?_ | refine Le.gd ?_ | refine Le.caseS ?_ ?_ | refine Le.loop ?_ _ | exact Le.refl _ | refine fun _=>?_)
theorem ok3_mono (n:Nat):∀ d,Le (F_l3Ok n d) (F_l3Ok (n+1) d):=by
 induction n with
 | zero=>intro d; exact Le.none
 | succ n ih =>
  intro d
  rw [F_l3Ok,F_l3Ok]
  repeat' (first | exact ih _ | refine Le.bind ?_ ?_ | refine Le.cond ?_ ?_ | refine Le.gd ?_ | refine Le.caseS ?_ ?_ | refine Le.loop ?_ _ | exact Le.refl _ | refine fun _=>?_)
theorem write3_mono (n:Nat):∀ d,Le (F_l3Write n d) (F_l3Write (n+1) d):=by
 induction n with
 | zero=>intro d; exact Le.none
 | succ n ih =>
  intro d
  rw [F_l3Write,F_l3Write]
  repeat' (first | exact ih _ | refine Le.bind ?_ ?_ | refine Le.cond ?_ ?_ | refine Le.gd ?_ | refine Le.caseS ?_ ?_ | refine Le.loop ?_ _ | exact Le.refl _ | refine fun _=>?_)
theorem check3_mono (n:Nat):∀ d,Le (F_l3Check n d) (F_l3Check (n+1) d):=by
 induction n with
 | zero=>intro d; exact Le.none
 | succ n ih =>
  intro d
  rw [F_l3Check,F_l3Check]
  repeat' (first | exact ih _ | refine Le.bind ?_ ?_ | refine Le.cond ?_ ?_ | refine Le.gd ?_ | refine Le.caseS ?_ ?_ | refine Le.loop ?_ _ | exact Le.refl _ | refine fun _=>?_)
theorem copy3_mono (n:Nat):∀ d,Le (F_l3Copy n d) (F_l3Copy (n+1) d):=by
 induction n with
 | zero=>intro d; exact Le.none
 | succ n ih =>
  intro d
  rw [F_l3Copy,F_l3Copy]
  repeat' (first | exact ih _ | refine Le.bind ?_ ?_ | refine Le.cond ?_ ?_ | refine Le.gd ?_ | refine Le.caseS ?_ ?_ | refine Le.loop ?_ _ | exact Le.refl _ | refine fun _=>?_)
theorem plan8_mono (n:Nat):(∀ d,Le (F_l8Plan_split n d) (F_l8Plan_split (n+1) d))∧(∀ d,Le (F_l8Plan_further n d) (F_l8Plan_further (n+1) d))∧(∀ d,Le (F_l8Plan_own n d) (F_l8Plan_own (n+1) d)):=by
 induction n with
 | zero=>exact ⟨fun d=>Le.none,fun d=>Le.none,fun d=>Le.none⟩
 | succ n ih =>
  obtain ⟨ih1,ih2,ih3⟩:=ih
  refine ⟨fun d=>?_,fun d=>?_,fun d=>?_⟩
  ·rw [F_l8Plan_split,F_l8Plan_split]
   repeat' (first | exact ih1 _ | exact ih2 _ | exact ih3 _ | refine Le.bind ?_ ?_ | refine Le.cond ?_ ?_ | refine Le.gd ?_ | refine Le.caseS ?_ ?_ | refine Le.loop ?_ _ | exact Le.refl _ | refine fun _=>?_)
  ·rw [F_l8Plan_further,F_l8Plan_further]
   repeat' (first | exact ih1 _ | exact ih2 _ | exact ih3 _ | refine Le.bind ?_ ?_ | refine Le.cond ?_ ?_ | refine Le.gd ?_ | refine Le.caseS ?_ ?_ | refine Le.loop ?_ _ | exact Le.refl _ | refine fun _=>?_)
  ·rw [F_l8Plan_own,F_l8Plan_own]
   repeat' (first | exact ih1 _ | exact ih2 _ | exact ih3 _ | refine Le.bind ?_ ?_ | refine Le.cond ?_ ?_ | refine Le.gd ?_ | refine Le.caseS ?_ ?_ | refine Le.loop ?_ _ | exact Le.refl _ | refine fun _=>?_)
end Go.Fw
