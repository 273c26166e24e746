/- A part of the proof: what stands for the program, its functions, and what they come to. -/
import Derived.Test.YtegfaamnjbicjaaGreatDoorM6
import Derived.Test.YtegfaamnjbicjaaGreatDoorM4
import Derived.Test.YtegfaamnjbicjaaGreatDoorProg
import Derived.KernelRfl
import Derived.Test.YtegfaamnjbicjaaGreatDoorM5
set_option linter.all false
namespace Go.Fw
noncomputable section
open Go
set_option maxRecDepth 1000000
set_option linter.unusedVariables false
abbrev XO(Φ:List TE)(tys:List (Nat×An))(c:CC)(rs:List RV)(e:TE):Prop:=∀d,zei Φ tys c rs e.ash e.rin e.rsh e.rout d=e.F d
theorem xq{Φ:List TE}{tys:List (Nat×An)}{c:CC}{rs:List RV}{e:TE}{B:DatL (e.ash++e.rin.map RK.sh)->Option (DatL (e.rsh:: e.rout.map RK.sh))}(q:∀d,e.F d=B d)(h:∀d,zei Φ tys c rs e.ash e.rin e.rsh e.rout d=B d):XO Φ tys c rs e:=fun d=>(h d).trans (q d).symm
def zjB(d:List Int):Option (List Int×Int):=zaa (zab (decide ((d.length:Int)>2000)) (gd (decide (0<=0)&&decide (0<=2000)&&decide (2000<=(d.length:Int))) (some (List.take (Int.toNat 2000-Int.toNat 0) (List.drop (Int.toNat 0) d)))) (some d)) fun x=>some (x,0)
def zjG:=zaC zjB
theorem zj3:∀d,zjG d=zjB d:=congrFun (zae zjB)
def zmK:TE:=⟨35,[.lst (.int .u8)],[],(.mpb 0 0),[.box ⟨none,[some ((.lst (.int .u8)),.no),some ((.int .i64),.no)]⟩ [.lst (.int .u8),.int .i64]],zjG⟩
theorem zw3:XO [] zDb c35 [.t 2] zmK:=xq zj3 fun d=>by kernel_rfl
def zeB(d:Int×List Int×Int):Option (Int×List Int×Int):=gd (zaH (d.2.2+1)) (zaa (zab (decide (d.1<1)) (some true) (some ((d.2.1.length:Int)==0))) fun x=>zab x (some (0,d.2.1,d.2.2+1)) (gd (zaH (d.2.2+1-1)) (zab (decide (d.2.2+1-1<(d.2.1.length:Int))) (gd (decide (0<=d.2.2+1-1)) (zaa d.2.1[Int.toNat (d.2.2+1-1)]? fun x=>gd (d.1 !=0) (some (Int.tmod (IntKind.wrap IntKind.i64 x) d.1,d.2.1,d.2.2+1)))) (gd ((d.2.1.length:Int) !=0) (gd (decide (0<=Int.tmod (d.2.2+1-1) (d.2.1.length:Int))) (zaa d.2.1[Int.toNat (Int.tmod (d.2.2+1-1) (d.2.1.length:Int))]? fun x=>gd (zaH (IntKind.wrap IntKind.i64 x*131)) (gd (zaH ((d.2.2+1-1)*7)) (gd (zaH ((d.2.2+1-1)*7+3)) (gd ((d.2.1.length:Int) !=0) (gd (decide (0<=Int.tmod ((d.2.2+1-1)*7+3) (d.2.1.length:Int))) (zaa d.2.1[Int.toNat (Int.tmod ((d.2.2+1-1)*7+3) (d.2.1.length:Int))]? fun x_1=>gd (zaH (IntKind.wrap IntKind.i64 x_1*1117)) (gd (zaH (IntKind.wrap IntKind.i64 x*131+IntKind.wrap IntKind.i64 x_1*1117)) (gd (zaH ((d.2.2+1-1)*29)) (gd (zaH (IntKind.wrap IntKind.i64 x*131+IntKind.wrap IntKind.i64 x_1*1117+(d.2.2+1-1)*29)) (gd ((d.2.1.length:Int) !=0) (gd (zaH (Int.tdiv (d.2.2+1-1) (d.2.1.length:Int))) (gd (zaH (Int.tdiv (d.2.2+1-1) (d.2.1.length:Int)*53)) (gd (zaH (IntKind.wrap IntKind.i64 x*131+IntKind.wrap IntKind.i64 x_1*1117+(d.2.2+1-1)*29+Int.tdiv (d.2.2+1-1) (d.2.1.length:Int)*53)) (gd (zaH (Int.tdiv (IntKind.wrap IntKind.i64 x*131+IntKind.wrap IntKind.i64 x_1*1117+(d.2.2+1-1)*29+Int.tdiv (d.2.2+1-1) (d.2.1.length:Int)*53) 64)) (gd (d.1 !=0) (some (Int.tmod (IntKind.wrap IntKind.i64 (↑(BitVec.toNat (BitVec.ofInt (IntKind.bits IntKind.i64) (IntKind.wrap IntKind.i64 x*131+IntKind.wrap IntKind.i64 x_1*1117+(d.2.2+1-1)*29+Int.tdiv (d.2.2+1-1) (d.2.1.length:Int)*53) ^^^ BitVec.ofInt (IntKind.bits IntKind.i64) (Int.tdiv (IntKind.wrap IntKind.i64 x*131+IntKind.wrap IntKind.i64 x_1*1117+(d.2.2+1-1)*29+Int.tdiv (d.2.2+1-1) (d.2.1.length:Int)*53) 64))):Int)) d.1,d.2.1,d.2.2+1))))))))))))))))))))))
def zaj:=zaC zeB
theorem zgw:∀d,zaj d=zeB d:=congrFun (zae zeB)
def zbp:TE:=⟨39,[.mpb 0 0,.int .i64],[.box ⟨none,[some ((.lst (.int .u8)),.no),some ((.int .i64),.no)]⟩ [.lst (.int .u8),.int .i64]],(.int .i64),[.box ⟨none,[some ((.lst (.int .u8)),.no),some ((.int .i64),.no)]⟩ [.lst (.int .u8),.int .i64]],zaj⟩
theorem zqC:XO [] zDf c39 [.t 4] zbp:=xq zgw fun d=>by kernel_rfl
def zbm:Nat->Int->Option (List UInt8)|0,_=>none|n+1,d=>zab (decide (d< -9223372036854775807)) (some [45,57,50,50,51,51,55,50,48,51,54,56,53,52,55,55,53,56,48,56]) (zab (decide (d<0)) (gd (zaH (0-d)) (zaa (zbm n (0-d)) fun x=>gd (decide (List.length [45]+List.length x<=BIG)) (some ([45]++x)))) (zab (decide (d<10)) (gd (zaH (48+d)) (gd (decide (List.length [IntKind.wrap IntKind.u8 (48+d)]<=BIG)) (some (List.map zpQ [IntKind.wrap IntKind.u8 (48+d)])))) (gd (zaH (Int.tdiv d 10)) (zaa (zbm n (Int.tdiv d 10)) fun x=>gd (zaH (48+Int.tmod d 10)) (gd (decide (List.length [IntKind.wrap IntKind.u8 (48+Int.tmod d 10)]<=BIG)) (gd (decide (List.length x+List.length (List.map zpQ [IntKind.wrap IntKind.u8 (48+Int.tmod d 10)])<=BIG)) (some (x++List.map zpQ [IntKind.wrap IntKind.u8 (48+Int.tmod d 10)]))))))))
def zgM:Int->Option (List UInt8):=zoI zbm
def zpp(n:Nat):TE:=⟨64,[.int .i64],[],(.str),[],zbm n⟩
def zmU:TE:=⟨64,[.int .i64],[],(.str),[],zgM⟩
theorem zzA(n:Nat)(d:Int):zei [zpp n] zCI c64 [.t 2] [.int .i64] [] (.str) [] d=zbm (n+1) d:=by kernel_rfl
def zeA(d:Unit):Option (List Typ):=some [(⟨[113,117,101,114,121],[],[⟨[117,115,101,114,115],[117,115,101,114],true,false,false,false,false,[]⟩,⟨[102,105,114,115,116],[117,115,101,114],false,false,false,false,false,[]⟩,⟨[105,116,101,109,115],[105,116,101,109],true,true,false,false,false,[]⟩,⟨[116,111,112],[105,116,101,109],false,false,false,false,false,[]⟩,⟨[114,101,97,100,121],[98,111,111,108],false,false,false,false,false,[]⟩]⟩:Typ),(⟨[117,115,101,114],[105,100],[⟨[105,100],[105,110,116],false,true,false,false,false,[]⟩,⟨[110,97,109,101],[116,101,120,116],false,true,false,false,false,[]⟩,⟨[98,111,115,115],[117,115,101,114],false,false,false,false,false,[]⟩,⟨[97,103,101],[105,110,116],false,false,false,false,false,[]⟩,⟨[108,105,107,101,115],[105,116,101,109],true,false,false,false,false,[]⟩,⟨[114,97,110,107],[105,110,116],false,false,false,false,false,[[97,103,101]]⟩,⟨[110,111,116,101],[110,111,116,101],false,false,false,false,false,[]⟩]⟩:Typ),(⟨[105,116,101,109],[105,100],[⟨[105,100],[105,110,116],false,true,false,false,false,[]⟩,⟨[116,105,116,108,101],[116,101,120,116],false,false,false,false,false,[]⟩,⟨[109,97,107,101,114],[117,115,101,114],false,true,false,false,false,[]⟩,⟨[112,114,105,99,101],[105,110,116],false,false,false,false,false,[]⟩,⟨[102,97,110,115],[117,115,101,114],true,true,false,false,false,[]⟩,⟨[116,97,120],[105,110,116],false,false,false,false,false,[[112,114,105,99,101]]⟩,⟨[115,117,109,115],[105,110,116],true,false,false,false,false,[]⟩]⟩:Typ),(⟨[110,111,116,101],[],[⟨[98,111,100,121],[116,101,120,116],false,true,false,false,true,[]⟩,⟨[98,121],[117,115,101,114],false,false,false,false,false,[]⟩]⟩:Typ)]
def zdq:=zaC zeA
theorem zgv:∀d,zdq d=zeA d:=congrFun (zae zeA)
def zeL:TE:=⟨63,[],[],(.lst (.nm .Typ)),[],zdq⟩
theorem zqB:XO [] zDp c63 [.t 0] zeL:=xq zgv fun d=>by kernel_rfl
def zd3(d:List UInt8):Option Bool:=zaa (zab (d==[105,110,116]) (some true) (zab (d==[116,101,120,116]) (some true) (some (d==[98,111,111,108])))) fun x=>some x
def zbu:=zaC zd3
theorem zeD:∀d,zbu d=zd3 d:=congrFun (zae zd3)
def zbK:TE:=⟨50,[.str],[],(.bool),[],zbu⟩
theorem zsM:XO [] zDj c50 [.t 2] zbK:=xq zeD fun d=>by kernel_rfl
def zjD(d:Part×List UInt8):Option Int:=zaa (zaB (fun(s:Int)=>zab (decide (s<(d.1.types.length:Int))) (gd (decide (0<=s)) (zaa d.1.types[s.toNat]? fun x=>zab (x.name==d.2) (some (Sum.inr (Sum.inr s))) (gd (zaH (s+1)) (some (Sum.inl (s+1)))))) (some (Sum.inr (Sum.inl s)))) 0) fun(x:Int⊕Int)=>caseS x (fun d=>some (-1)) fun r=>some r
def zb9:=zaC zjD
theorem zj5:∀d,zb9 d=zjD d:=congrFun (zae zjD)
def zcK:TE:=⟨88,[.st .Part,.str],[],(.int .i64),[],zb9⟩
theorem zw6:XO [] zDC c88 [.t 4] zcK:=xq zj5 fun d=>by kernel_rfl
def zhn(d:List UInt8×List UInt8×List Typ):Option (List UInt8×List Typ):=zaa (zaa (zbu d.2.1) fun x=>zab x (some (true,d.1,d.2.2,[],[])) (zaa (zb9 ((⟨d.1,d.2.2⟩:Part),d.2.1)) fun x=>some (decide (x>=0),d.1,d.2.2,[],[]))) fun(x:Bool×List UInt8×List Typ×List UInt8×List Typ)=>zab x.1 (some (x.2.1,x.2.2.1)) (zaa (zab (d.2.1 !=[110,111,116,101]) (some (x.2.1,x.2.2.1,x.2.2.2.1,x.2.2.2.2,(d.2.1,[105,100]),[(⟨[105,100],[105,110,116],false,true,false,false,false,[]⟩:Field)])) (some (x.2.1,x.2.2.1,x.2.2.2.1,x.2.2.2.2,(d.2.1,[]),[(⟨[98,111,100,121],[116,101,120,116],false,true,false,false,true,[]⟩:Field)]))) fun(x:List UInt8×List Typ×List UInt8×List Typ×(List UInt8×List UInt8)×List Field)=>gd (decide (List.length x.2.1+List.length [(⟨x.2.2.2.2.1.1,x.2.2.2.2.1.2,x.2.2.2.2.2⟩:Typ)]<=LIM)) (some (x.1,x.2.1++[(⟨x.2.2.2.2.1.1,x.2.2.2.2.1.2,x.2.2.2.2.2⟩:Typ)])))
def zfo:=zaC zhn
theorem zi8:∀d,zfo d=zhn d:=congrFun (zae zhn)
def zke:TE:=⟨94,[.agg [.str,.own 0],.str],[.arr (.nm .Typ) (.at [(2,.no)])],(.agg [.str,.own 1]),[.dead,.arr (.nm .Typ) (.at [(2,.no)])],zfo⟩
theorem zvf:XO [zbK,zcK] zDH c94 [.c 4 (some 2)] zke:=xq zi8 fun d=>by kernel_rfl
def zhr(d:Typ×List UInt8):Option Int:=zaa (zaB (fun(s:Int)=>zab (decide (s<(d.1.fields.length:Int))) (gd (decide (0<=s)) (zaa d.1.fields[s.toNat]? fun x=>zab (x.name==d.2) (some (Sum.inr (Sum.inr s))) (gd (zaH (s+1)) (some (Sum.inl (s+1)))))) (some (Sum.inr (Sum.inl s)))) 0) fun(x:Int⊕Int)=>caseS x (fun d=>some (-1)) fun r=>some r
def zbS:=zaC zhr
theorem zjb:∀d,zbS d=zhr d:=congrFun (zae zhr)
def zcR:TE:=⟨95,[.st .Typ,.str],[],(.int .i64),[],zbS⟩
theorem zvj:XO [] zDI c95 [.t 4] zcR:=xq zjb fun d=>by kernel_rfl
def zhm(d:List UInt8×List UInt8×Field×List Typ):Option (List UInt8×List Typ):=zaa (zfo (d.1,d.2.1,d.2.2.2)) fun(x:List UInt8×List Typ)=>zaa (zfo (x.1,d.2.2.1.of,x.2)) fun(x:List UInt8×List Typ)=>zaa (zb9 ((⟨x.1,x.2⟩:Part),d.2.1)) fun x_1=>gd (decide (0<=x_1)&&decide (x_1<(x.2.length:Int))) (zaa x.2[x_1.toNat]? fun x_2=>zaa (zbS (x_2,d.2.2.1.name)) fun x_3=>zab (decide (x_3>=0)) (gd (decide (0<=x_1)&&decide (x_1<(↑(List.length (List.set x.2 (x_1.toNat) x_2)):Int))) (zaa (List.set x.2 (x_1.toNat) x_2)[x_1.toNat]? fun x_4=>gd (decide (0<=x_3)&&decide (x_3<(x_4.fields.length:Int))) (zaa x_4.fields[x_3.toNat]? fun x_5=>zab (!x_5.far) (some (x.1,List.set (List.set x.2 (x_1.toNat) x_2) (x_1.toNat) x_4)) (gd (decide (0<=x_1)&&decide (x_1<(↑(List.length (List.set (List.set x.2 (x_1.toNat) x_2) (x_1.toNat) x_4)):Int))) (zaa (List.set (List.set x.2 (x_1.toNat) x_2) (x_1.toNat) x_4)[x_1.toNat]? fun x_6=>gd (decide (0<=x_3)&&decide (x_3<(x_6.fields.length:Int))) (zaa x_6.fields[x_3.toNat]? fun x_7=>some (x.1,List.set (List.set (List.set x.2 (x_1.toNat) x_2) (x_1.toNat) x_4) (x_1.toNat) (⟨x_6.name,x_6.key,List.set x_6.fields (x_3.toNat) (⟨d.2.2.1.name,d.2.2.1.of,d.2.2.1.list,d.2.2.1.must,d.2.2.1.far,d.2.2.1.hidden,d.2.2.1.shared,d.2.2.1.needs⟩:Field)⟩:Typ)))))))) (zaa (zaB (fun(s:Int×List UInt8×List Typ×List UInt8×List Typ)=>zab (decide (s.1<(d.2.2.1.needs.length:Int))) (gd (decide (0<=x_1)&&decide (x_1<(s.2.2.1.length:Int))) (zaa s.2.2.1[x_1.toNat]? fun x=>gd (decide (0<=s.1)) (zaa d.2.2.1.needs[s.1.toNat]? fun x_4=>zaa (zbS (x,x_4)) fun x_5=>zaa (zab (decide (x_5<0)) (gd (decide (0<=x_1)&&decide (x_1<(↑(List.length (List.set s.2.2.1 (x_1.toNat) x)):Int))) (zaa (List.set s.2.2.1 (x_1.toNat) x)[x_1.toNat]? fun x_6=>gd (decide (0<=s.1)) (zaa d.2.2.1.needs[s.1.toNat]? fun x_7=>gd (decide (List.length x_6.fields+List.length [(⟨x_7,[105,110,116],false,false,true,false,false,[]⟩:Field)]<=LIM)) (gd (decide (0<=x_1)&&decide (x_1<(↑(List.length (List.set s.2.2.1 (x_1.toNat) x)):Int))) (gd (decide (x_1.toNat=x_1.toNat)) (some (s.2.1,List.set (List.set s.2.2.1 (x_1.toNat) x) (x_1.toNat) (⟨x_6.name,x_6.key,x_6.fields++[(⟨x_7,[105,110,116],false,false,true,false,false,[]⟩:Field)]⟩:Typ),s.2.2.2.1,s.2.2.2.2))))))) (some (s.2.1,List.set s.2.2.1 (x_1.toNat) x,s.2.2.2.1,s.2.2.2.2))) fun(x:List UInt8×List Typ×List UInt8×List Typ)=>gd (zaH (s.1+1)) (some (Sum.inl (s.1+1,x.1,x.2.1,x.2.2.1,x.2.2.2)))))) (some (Sum.inr (s.1,s.2.1,s.2.2.1,s.2.2.2.1,s.2.2.2.2)))) (0,x.1,List.set x.2 (x_1.toNat) x_2,[],[])) fun(x:Int×List UInt8×List Typ×List UInt8×List Typ)=>gd (decide (0<=x_1)&&decide (x_1<(x.2.2.1.length:Int))) (zaa x.2.2.1[x_1.toNat]? fun x_4=>gd (decide (List.length x_4.fields+List.length [d.2.2.1]<=LIM)) (gd (decide (0<=x_1)&&decide (x_1<(x.2.2.1.length:Int))) (gd (decide (x_1.toNat=x_1.toNat)) (some (x.2.1,List.set x.2.2.1 (x_1.toNat) (⟨x_4.name,x_4.key,x_4.fields++[d.2.2.1]⟩:Typ))))))))
def zd5:=zaC zhm
theorem zi7:∀d,zd5 d=zhm d:=congrFun (zae zhm)
def zkd:TE:=⟨65,[.agg [.str,.own 0],.str,.st .Field],[.arr (.nm .Typ) (.at [(2,.no)])],(.agg [.str,.own 1]),[.dead,.arr (.nm .Typ) (.at [(2,.no)])],zd5⟩
theorem zve:XO [zke,zcK,zcR] zDq c65 [.c 6 (some 2)] zkd:=xq zi7 fun d=>by kernel_rfl
def zfU(d:List Int×Int):Option (List Part×List Int×Int):=zaa (zaj (3,d.1,d.2)) fun(x:Int×List Int×Int)=>gd (zaH (1+x.1)) (zaa (zaB (fun(s:Int×(List Int×Int)×List Part)=>zab (decide (s.1<1+x.1)) (gd (decide (0<=s.1)) (zaa [[101,97,115,116],[119,101,115,116],[110,111,114,116,104]][s.1.toNat]? fun x=>zaa (zgM s.1) fun x_1=>gd (decide (List.length [110]+List.length x_1<=BIG)) (gd (decide (List.length s.2.2+List.length [(⟨x,[⟨[113,117,101,114,121],[],[⟨[110]++x_1,[105,110,116],false,false,false,false,false,[]⟩]⟩]⟩:Part)]<=LIM)) (gd (zaH (s.1+1)) (some (Sum.inl (s.1+1,(s.2.1.1,s.2.1.2),s.2.2++[(⟨x,[⟨[113,117,101,114,121],[],[⟨[110]++x_1,[105,110,116],false,false,false,false,false,[]⟩]⟩]⟩:Part)]))))))) (some (Sum.inr (s.1,(s.2.1.1,s.2.1.2),s.2.2)))) (0,(x.2.1,x.2.2),[])) fun(x_1:Int×(List Int×Int)×List Part)=>zaa (zdq ()) fun x_2=>zaa (zaj (1+x.1,x_1.2.1.1,x_1.2.1.2)) fun(x_3:Int×List Int×Int)=>zaa (zaB (fun(s:Int×(List Int×Int)×List Part)=>zab (decide (s.1<(x_2.length:Int))) (zaa (zaB (fun(s_1:Int×(List Int×Int)×List Part)=>gd (decide (0<=s.1)) (zaa x_2[s.1.toNat]? fun x_4=>zab (decide (s_1.1<(x_4.fields.length:Int))) (gd (decide (0<=s.1)) (zaa x_2[s.1.toNat]? fun x_5=>gd (decide (0<=s_1.1)) (zaa x_5.fields[s_1.1.toNat]? fun x_6=>zaa (zab (x_6.name==[105,100]) (some (true,(s_1.2.1.1,s_1.2.1.2),s_1.2.2,x_6.name,x_6.of,x_6.list,x_6.must,x_6.far,x_6.hidden,x_6.shared,x_6.needs)) (zab (x_6.name==[98,111,100,121]) (some (true,(s_1.2.1.1,s_1.2.1.2),s_1.2.2,x_6.name,x_6.of,x_6.list,x_6.must,x_6.far,x_6.hidden,x_6.shared,x_6.needs)) (zab (x_6.name !=[97,103,101]) (zab (x_6.name !=[112,114,105,99,101]) (zaa (zaj (7,s_1.2.1.1,s_1.2.1.2)) fun(x:Int×List Int×Int)=>some (x.1==0,(x.2.1,x.2.2),s_1.2.2,x_6.name,x_6.of,x_6.list,x_6.must,x_6.far,x_6.hidden,x_6.shared,x_6.needs)) (some (false,(s_1.2.1.1,s_1.2.1.2),s_1.2.2,x_6.name,x_6.of,x_6.list,x_6.must,x_6.far,x_6.hidden,x_6.shared,x_6.needs))) (some (false,(s_1.2.1.1,s_1.2.1.2),s_1.2.2,x_6.name,x_6.of,x_6.list,x_6.must,x_6.far,x_6.hidden,x_6.shared,x_6.needs))))) fun(x_7:Bool×(List Int×Int)×List Part×List UInt8×List UInt8×Bool×Bool×Bool×Bool×Bool×List (List UInt8))=>zab x_7.1 (gd (zaH (s_1.1+1)) (some (Sum.inl (s_1.1+1,(x_7.2.1.1,x_7.2.1.2),x_7.2.2.1)))) (zaa (zaj (1+x.1,x_7.2.1.1,x_7.2.1.2)) fun(x_8:Int×List Int×Int)=>zaa (zab (x_7.2.2.2.2.1==[110,111,116,101]) (zaa (zaj (12,x_8.2.1,x_8.2.2)) fun(x:Int×List Int×Int)=>some (decide (x.1>0),(x.2.1,x.2.2),x_7.2.2.1,x_7.2.2.2.1,x_7.2.2.2.2.1,x_7.2.2.2.2.2.1,x_7.2.2.2.2.2.2.1,x_7.2.2.2.2.2.2.2.1,x_7.2.2.2.2.2.2.2.2.1,x_7.2.2.2.2.2.2.2.2.2.1,x_7.2.2.2.2.2.2.2.2.2.2)) (gd (decide (0<=s.1)) (zaa x_2[s.1.toNat]? fun x=>zab (x.name==[110,111,116,101]) (zaa (zaj (12,x_8.2.1,x_8.2.2)) fun(x:Int×List Int×Int)=>some (decide (x.1>0),(x.2.1,x.2.2),x_7.2.2.1,x_7.2.2.2.1,x_7.2.2.2.2.1,x_7.2.2.2.2.2.1,x_7.2.2.2.2.2.2.1,x_7.2.2.2.2.2.2.2.1,x_7.2.2.2.2.2.2.2.2.1,x_7.2.2.2.2.2.2.2.2.2.1,x_7.2.2.2.2.2.2.2.2.2.2)) (some (false,(x_8.2.1,x_8.2.2),x_7.2.2.1,x_7.2.2.2.1,x_7.2.2.2.2.1,x_7.2.2.2.2.2.1,x_7.2.2.2.2.2.2.1,x_7.2.2.2.2.2.2.2.1,x_7.2.2.2.2.2.2.2.2.1,x_7.2.2.2.2.2.2.2.2.2.1,x_7.2.2.2.2.2.2.2.2.2.2))))) fun(x_9:Bool×(List Int×Int)×List Part×List UInt8×List UInt8×Bool×Bool×Bool×Bool×Bool×List (List UInt8))=>zaa (zab x_9.1 (some (x_3.1,(x_9.2.1.1,x_9.2.1.2),x_9.2.2.1,x_9.2.2.2.1,x_9.2.2.2.2.1,x_9.2.2.2.2.2.1,x_9.2.2.2.2.2.2.1,x_9.2.2.2.2.2.2.2.1,x_9.2.2.2.2.2.2.2.2.1,x_9.2.2.2.2.2.2.2.2.2.1,x_9.2.2.2.2.2.2.2.2.2.2)) (some (x_8.1,(x_9.2.1.1,x_9.2.1.2),x_9.2.2.1,x_9.2.2.2.1,x_9.2.2.2.2.1,x_9.2.2.2.2.2.1,x_9.2.2.2.2.2.2.1,x_9.2.2.2.2.2.2.2.1,x_9.2.2.2.2.2.2.2.2.1,x_9.2.2.2.2.2.2.2.2.2.1,x_9.2.2.2.2.2.2.2.2.2.2))) fun(x_10:Int×(List Int×Int)×List Part×List UInt8×List UInt8×Bool×Bool×Bool×Bool×Bool×List (List UInt8))=>zaa (zaj (16,x_10.2.1.1,x_10.2.1.2)) fun(x_11:Int×List Int×Int)=>zaa (zab ((x_10.2.2.2.2.2.2.2.2.2.2.length:Int)==0) (zaa (zaj (5,x_11.2.1,x_11.2.2)) fun(x:Int×List Int×Int)=>some (x.1==0,(x.2.1,x.2.2),x_10.2.2.1,x_10.2.2.2.1,x_10.2.2.2.2.1,x_10.2.2.2.2.2.1,x_10.2.2.2.2.2.2.1,x_10.2.2.2.2.2.2.2.1,x_11.1==0,x_10.2.2.2.2.2.2.2.2.2.1,x_10.2.2.2.2.2.2.2.2.2.2)) (zaa (zaj (8,x_11.2.1,x_11.2.2)) fun(x:Int×List Int×Int)=>zab (x.1==0) (zaa (zaj (5,x.2.1,x.2.2)) fun(x:Int×List Int×Int)=>some (x.1==0,(x.2.1,x.2.2),x_10.2.2.1,x_10.2.2.2.1,x_10.2.2.2.2.1,x_10.2.2.2.2.2.1,x_10.2.2.2.2.2.2.1,x_10.2.2.2.2.2.2.2.1,x_11.1==0,x_10.2.2.2.2.2.2.2.2.2.1,x_10.2.2.2.2.2.2.2.2.2.2)) (some (false,(x.2.1,x.2.2),x_10.2.2.1,x_10.2.2.2.1,x_10.2.2.2.2.1,x_10.2.2.2.2.2.1,x_10.2.2.2.2.2.2.1,x_10.2.2.2.2.2.2.2.1,x_11.1==0,x_10.2.2.2.2.2.2.2.2.2.1,x_10.2.2.2.2.2.2.2.2.2.2)))) fun(x_12:Bool×(List Int×Int)×List Part×List UInt8×List UInt8×Bool×Bool×Bool×Bool×Bool×List (List UInt8))=>zaa (zab x_12.1 (gd (zaH (x_10.1+1)) (gd (1+x.1 !=0) (gd (zaH (x_10.1+1)) (gd (1+x.1 !=0) (gd (decide (0<=Int.tmod (x_10.1+1) (1+x.1))&&decide (Int.tmod (x_10.1+1) (1+x.1)<(x_12.2.2.1.length:Int))) (zaa x_12.2.2.1[Int.toNat (Int.tmod (x_10.1+1) (1+x.1))]? fun x_13=>gd (decide (0<=s.1)) (zaa x_2[s.1.toNat]? fun x_14=>zaa (zd5 (x_13.name,x_14.name,(⟨x_12.2.2.2.1,x_12.2.2.2.2.1,x_12.2.2.2.2.2.1,x_12.2.2.2.2.2.2.1,x_12.2.2.2.2.2.2.2.1,x_12.2.2.2.2.2.2.2.2.1,true,x_12.2.2.2.2.2.2.2.2.2.2⟩:Field),x_13.types)) fun(x_15:List UInt8×List Typ)=>gd (decide (0<=Int.tmod (x_10.1+1) (1+x.1))&&decide (Int.tmod (x_10.1+1) (1+x.1)<(x_12.2.2.1.length:Int))) (gd (decide (Int.toNat (Int.tmod (x_10.1+1) (1+x.1))=Int.toNat (Int.tmod (x_10.1+1) (1+x.1)))) (some ((x_12.2.1.1,x_12.2.1.2),List.set x_12.2.2.1 (Int.toNat (Int.tmod (x_10.1+1) (1+x.1))) (⟨x_15.1,x_15.2⟩:Part),x_12.2.2.2.1,x_12.2.2.2.2.1,x_12.2.2.2.2.2.1,x_12.2.2.2.2.2.2.1,x_12.2.2.2.2.2.2.2.1,x_12.2.2.2.2.2.2.2.2.1,true,x_12.2.2.2.2.2.2.2.2.2.2)))))))))) (some ((x_12.2.1.1,x_12.2.1.2),x_12.2.2.1,x_12.2.2.2.1,x_12.2.2.2.2.1,x_12.2.2.2.2.2.1,x_12.2.2.2.2.2.2.1,x_12.2.2.2.2.2.2.2.1,x_12.2.2.2.2.2.2.2.2.1,x_12.2.2.2.2.2.2.2.2.2.1,x_12.2.2.2.2.2.2.2.2.2.2))) fun(x:(List Int×Int)×List Part×List UInt8×List UInt8×Bool×Bool×Bool×Bool×Bool×List (List UInt8))=>gd (decide (0<=x_10.1)&&decide (x_10.1<(x.2.1.length:Int))) (zaa x.2.1[x_10.1.toNat]? fun x_13=>gd (decide (0<=s.1)) (zaa x_2[s.1.toNat]? fun x_14=>zaa (zd5 (x_13.name,x_14.name,(⟨x.2.2.1,x.2.2.2.1,x.2.2.2.2.1,x.2.2.2.2.2.1,x.2.2.2.2.2.2.1,x.2.2.2.2.2.2.2.1,x.2.2.2.2.2.2.2.2.1,x.2.2.2.2.2.2.2.2.2⟩:Field),x_13.types)) fun(x_15:List UInt8×List Typ)=>gd (decide (0<=x_10.1)&&decide (x_10.1<(x.2.1.length:Int))) (gd (decide (x_10.1.toNat=x_10.1.toNat)) (gd (zaH (s_1.1+1)) (some (Sum.inl (s_1.1+1,(x.1.1,x.1.2),List.set x.2.1 (x_10.1.toNat) (⟨x_15.1,x_15.2⟩:Part)))))))))))) (some (Sum.inr (s_1.1,(s_1.2.1.1,s_1.2.1.2),s_1.2.2))))) (0,(s.2.1.1,s.2.1.2),s.2.2)) fun(x:Int×(List Int×Int)×List Part)=>gd (zaH (s.1+1)) (some (Sum.inl (s.1+1,(x.2.1.1,x.2.1.2),x.2.2)))) (some (Sum.inr (s.1,(s.2.1.1,s.2.1.2),s.2.2)))) (0,(x_3.2.1,x_3.2.2),x_1.2.2)) fun(x:Int×(List Int×Int)×List Part)=>some (x.2.2,x.2.1.1,x.2.1.2))
def zf0:=zaC zfU
theorem zhF:∀d,zf0 d=zfU d:=congrFun (zae zfU)
def ziC:TE:=⟨38,[.mpb 0 0],[.box ⟨none,[some ((.lst (.int .u8)),.no),some ((.int .i64),.no)]⟩ [.lst (.int .u8),.int .i64]],(.lst (.nm .Part)),[.box ⟨none,[some ((.lst (.int .u8)),.no),some ((.int .i64),.no)]⟩ [.lst (.int .u8),.int .i64]],zf0⟩
theorem zsL:XO [zbp,zmU,zeL,zkd] zDe c38 [.t 2] ziC:=xq zhF fun d=>by kernel_rfl
def znP(d:Int×Int×Int):Option Bool:=zaa (zab (decide (d.1>=d.2.1)) (some (decide (d.1<=d.2.2))) (some false)) fun x=>some x
def zc4:=zaC znP
theorem zj2:∀d,zc4 d=znP d:=congrFun (zae znP)
def zn7:TE:=⟨73,[.int .i64,.int .i64,.int .i64],[],(.bool),[],zc4⟩
theorem zA6:XO [] zDw c73 [.t 6] zn7:=xq zj2 fun d=>by kernel_rfl
def zho(d:List UInt8):Option Bool:=zaa (zc4 ((d.length:Int),1,9)) fun x=>zab (!x) (some false) (zaa (zaB (fun(s:Int)=>zab (decide (s<(d.length:Int))) (zaa (gd (decide (0<=s)) (zaa d[s.toNat]? fun x=>zab (decide (zaI x>=97)) (gd (decide (0<=s)) (zaa d[s.toNat]? fun x=>zab (decide (zaI x<=122)) (some false) (gd (decide (0<=s)) (zaa d[s.toNat]? fun x=>zab (zaI x==95) (some false) (zab (decide (s>0)) (gd (decide (0<=s)) (zaa d[s.toNat]? fun x=>zab (decide (zaI x>=48)) (gd (decide (0<=s)) (zaa d[s.toNat]? fun x=>some !decide (zaI x<=57))) (some true))) (some true)))))) (gd (decide (0<=s)) (zaa d[s.toNat]? fun x=>zab (zaI x==95) (some false) (zab (decide (s>0)) (gd (decide (0<=s)) (zaa d[s.toNat]? fun x=>zab (decide (zaI x>=48)) (gd (decide (0<=s)) (zaa d[s.toNat]? fun x=>some !decide (zaI x<=57))) (some true))) (some true)))))) fun x=>zab x (some (Sum.inr (Sum.inr false))) (gd (zaH (s+1)) (some (Sum.inl (s+1))))) (some (Sum.inr (Sum.inl s)))) 0) fun(x:Int⊕Bool)=>caseS x (fun d=>some true) fun r=>some r)
def zhG:=zaC zho
theorem zgH:∀d,zhG d=zho d:=congrFun (zae zho)
def zmJ:TE:=⟨49,[.str],[],(.bool),[],zhG⟩
theorem zw2:XO [zn7] zDi c49 [.t 2] zmJ:=xq zgH fun d=>by kernel_rfl
def zhs(d:List UInt8):Option Bool:=zaa (zaa (zhG d) fun x=>zab x (zab (decide ((d.length:Int)<=8)) (zaa d[Int.toNat 0]? fun x=>zab (zaI x !=95) (zaa (zbu d) fun x=>zab (!x) (zab (d !=[112,97,114,116]) (zab (d !=[116,121,112,101]) (zab (d !=[107,101,121]) (zab (d !=[102,97,114]) (zab (d !=[104,105,100,100,101,110]) (zab (d !=[115,104,97,114,101,100]) (some (d !=[110,101,101,100,115])) (some false)) (some false)) (some false)) (some false)) (some false)) (some false)) (some false)) (some false)) (some false)) (some false)) fun x=>some x
def zby:=zaC zhs
theorem zgJ:∀d,zby d=zhs d:=congrFun (zae zhs)
def zf5:TE:=⟨24,[.str],[],(.bool),[],zby⟩
theorem zw5:XO [zmJ,zbK] zC8 c24 [.t 2] zf5:=xq zgJ fun d=>by kernel_rfl
def zmt(d:Typ):Option Bool:=zab (d.key==[]) (some true) (zaa (zbS (d,d.key)) fun x=>zab (decide (x<0)) (some false) (gd (decide (0<=x)) (zaa d.fields[x.toNat]? fun x=>zaa (zab (x.of==[105,110,116]) (zab (!x.list) (zab x.must (zab (!x.far) (zab (!x.hidden) (some ((x.needs.length:Int)==0)) (some false)) (some false)) (some false)) (some false)) (some false)) fun x=>some x)))
def zmx:=zaC zmt
theorem zlS:∀d,zmx d=zmt d:=congrFun (zae zmt)
def zpq:TE:=⟨128,[.st .Typ],[],(.bool),[],zmx⟩
theorem zzC:XO [zcR] zBH zC0 [.t 2] zpq:=xq zlS fun d=>by kernel_rfl
def zht(d:Typ×Field):Option Bool:=zaa (zab (decide ((d.2.needs.length:Int)>0)) (zab (d.2.of !=[105,110,116]) (some true) (zab d.2.list (some true) (zab d.2.far (some true) (zab d.2.must (some true) (zab (d.1.key==[]) (some true) (some (d.2.name==d.1.key))))))) (some false)) fun x=>zab x (some false) (zaa (zaB (fun(s:Int)=>zab (decide (s<(d.2.needs.length:Int))) (gd (decide (0<=s)) (zaa d.2.needs[s.toNat]? fun x=>zaa (zbS (d.1,x)) fun x=>zaa (zab (decide (x<0)) (some true) (gd (decide (0<=x)) (zaa d.1.fields[x.toNat]? fun x_1=>zab (decide ((x_1.needs.length:Int)>0)) (some true) (gd (decide (0<=x)) (zaa d.1.fields[x.toNat]? fun x_2=>zab (x_2.of !=[105,110,116]) (some true) (gd (decide (0<=x)) (zaa d.1.fields[x.toNat]? fun x=>zab x.list (some true) (zab (decide (s>0)) (gd (zaH (s-1)) (gd (decide (0<=s-1)) (zaa d.2.needs[Int.toNat (s-1)]? fun x=>gd (decide (0<=s)) (zaa d.2.needs[s.toNat]? fun x_3=>some !Op.bytesLess x x_3)))) (some false))))))))) fun x=>zab x (some (Sum.inr (Sum.inr false))) (gd (zaH (s+1)) (some (Sum.inl (s+1)))))) (some (Sum.inr (Sum.inl s)))) 0) fun(x:Int⊕Bool)=>caseS x (fun d=>some true) fun r=>some r)
def zhI:=zaC zht
theorem zjc:∀d,zhI d=zht d:=congrFun (zae zht)
def zkh:TE:=⟨129,[.st .Typ,.st .Field],[],(.bool),[],zhI⟩
theorem zvk:XO [zcR] zBI zC1 [.t 4] zkh:=xq zjc fun d=>by kernel_rfl
def zhq(d:Part×Int):Option Int:=gd (decide (0<=d.2)) (zaa d.1.types[d.2.toNat]? fun x=>zaa (zaa (zby x.name) fun x_1=>zab (!x_1) (some true) (zab (x.key !=[]) (zaa (zby x.key) fun x_2=>zab (!x_2) (some true) (zab ((x.fields.length:Int)==0) (some true) (some (decide ((x.fields.length:Int)>8))))) (zab ((x.fields.length:Int)==0) (some true) (some (decide ((x.fields.length:Int)>8)))))) fun x_1=>zab x_1 (some 1) (zaa (zaB (fun(s:Int)=>zab (decide (s<(x.fields.length:Int))) (gd (decide (0<=s)) (zaa x.fields[s.toNat]? fun x=>zaa (zaa (zby x.name) fun x_2=>zab (!x_2) (some true) (zaa (zbu x.of) fun x_3=>zab (!x_3) (zaa (zby x.of) fun x=>some !x) (some false))) fun x_2=>zab x_2 (some (Sum.inr (Sum.inr 1))) (zaa (zaB (fun(s:Int)=>zab (decide (s<(x.needs.length:Int))) (gd (decide (0<=s)) (zaa x.needs[s.toNat]? fun x=>zaa (zby x) fun x=>zab (!x) (some (Sum.inr (Sum.inr (Sum.inr (Sum.inr 1))))) (gd (zaH (s+1)) (some (Sum.inl (s+1)))))) (some (Sum.inr (Sum.inl s)))) 0) fun(x:Int⊕Int⊕Int⊕Int)=>caseS x (fun d=>gd (zaH (s+1)) (some (Sum.inl (s+1)))) fun r=>some r))) (some (Sum.inr (Sum.inl s)))) 0) fun(x_2:Int⊕Int)=>caseS x_2 (fun d_1=>zaa (zb9 (d.1,x.name)) fun x_3=>zab (x_3 !=d.2) (some 2) (zaa (zaB (fun(s:Int)=>zab (decide (s<(x.fields.length:Int))) (gd (decide (0<=s)) (zaa x.fields[s.toNat]? fun x_4=>zaa (zbS (x,x_4.name)) fun x=>zab (x !=s) (some (Sum.inr (Sum.inr 2))) (gd (zaH (s+1)) (some (Sum.inl (s+1)))))) (some (Sum.inr (Sum.inl s)))) 0) fun(x_4:Int⊕Int)=>caseS x_4 (fun d_2=>zaa (zaB (fun(s:Int)=>zab (decide (s<(x.fields.length:Int))) (zaa (gd (decide (0<=s)) (zaa x.fields[s.toNat]? fun x_5=>zaa (zbu x_5.of) fun x_6=>zab (!x_6) (gd (decide (0<=s)) (zaa x.fields[s.toNat]? fun x=>zaa (zb9 (d.1,x.of)) fun x=>some (decide (x<0)))) (some false))) fun x=>zab x (some (Sum.inr (Sum.inr 3))) (gd (zaH (s+1)) (some (Sum.inl (s+1))))) (some (Sum.inr (Sum.inl s)))) 0) fun(x_5:Int⊕Int)=>caseS x_5 (fun d=>zaa (zmx x) fun x_6=>zab (!x_6) (some 4) (zaa (zaB (fun(s:Int)=>zab (decide (s<(x.fields.length:Int))) (zaa (gd (decide (0<=s)) (zaa x.fields[s.toNat]? fun x_7=>zaa (zhI (x,x_7)) fun x_8=>zab (!x_8) (some true) (gd (decide (0<=s)) (zaa x.fields[s.toNat]? fun x_9=>zab x_9.far (gd (decide (0<=s)) (zaa x.fields[s.toNat]? fun x=>some x.shared)) (some false))))) fun x=>zab x (some (Sum.inr (Sum.inr 5))) (gd (zaH (s+1)) (some (Sum.inl (s+1))))) (some (Sum.inr (Sum.inl s)))) 0) fun(x:Int⊕Int)=>caseS x (fun d=>some 0) fun r=>some r)) fun r=>some r) fun r=>some r)) fun r=>some r))
def zhH:=zaC zhq
theorem zja:∀d,zhH d=zhq d:=congrFun (zae zhq)
def zkg:TE:=⟨112,[.st .Part,.int .i64],[],(.int .i64),[],zhH⟩
theorem zvi:XO [zf5,zbK,zcK,zcR,zpq,zkh] zBB zCU [.t 4] zkg:=xq zja fun d=>by kernel_rfl
def zjC(d:Field):Option (List UInt8):=zaa (zab d.list (gd (decide (List.length [91]+List.length d.of<=BIG)) (gd (decide (List.length ([91]++d.of)+List.length [93]<=BIG)) (some ([91]++d.of++[93])))) (some d.of)) fun x=>zaa (zab d.must (gd (decide (List.length x+List.length [33]<=BIG)) (some (x++[33]))) (some x)) fun x=>gd (decide (List.length [32,32]+List.length d.name<=BIG)) (gd (decide (List.length ([32,32]++d.name)+List.length [32]<=BIG)) (gd (decide (List.length ([32,32]++d.name++[32])+List.length x<=BIG)) (zaa (zab d.far (gd (decide (List.length ([32,32]++d.name++[32]++x)+List.length [32,102,97,114]<=BIG)) (some ([32,32]++d.name++[32]++x++[32,102,97,114]))) (some ([32,32]++d.name++[32]++x))) fun x=>zaa (zab d.hidden (gd (decide (List.length x+List.length [32,104,105,100,100,101,110]<=BIG)) (some (x++[32,104,105,100,100,101,110]))) (some x)) fun x=>zaa (zab d.shared (gd (decide (List.length x+List.length [32,115,104,97,114,101,100]<=BIG)) (some (x++[32,115,104,97,114,101,100]))) (some x)) fun x=>zaa (zab (decide ((d.needs.length:Int)>0)) (gd (decide (List.length x+List.length [32,110,101,101,100,115]<=BIG)) (some (x++[32,110,101,101,100,115]))) (some x)) fun x=>zaa (zaB (fun(s:List UInt8×Int)=>zab (decide (s.2<(d.needs.length:Int))) (gd (decide (List.length s.1+List.length [32]<=BIG)) (gd (decide (0<=s.2)) (zaa d.needs[s.2.toNat]? fun x=>gd (decide (List.length (s.1++[32])+List.length x<=BIG)) (gd (zaH (s.2+1)) (some (Sum.inl (s.1++[32]++x,s.2+1))))))) (some (Sum.inr (s.1,s.2)))) (x,0)) fun(x:List UInt8×Int)=>gd (decide (List.length x.1+List.length [10]<=BIG)) (some (x.1++[10])))))
def zjH:=zaC zjC
theorem zj4:∀d,zjH d=zjC d:=congrFun (zae zjC)
def zmL:TE:=⟨130,[.st .Field],[],(.str),[],zjH⟩
theorem zw4:XO [] zBJ zC2 [.t 2] zmL:=xq zj4 fun d=>by kernel_rfl
def zhu(d:Part):Option (List UInt8):=gd (decide (List.length [112,97,114,116,32]+List.length d.name<=BIG)) (gd (decide (List.length ([112,97,114,116,32]++d.name)+List.length [10]<=BIG)) (zaa (zaB (fun(s:List UInt8×Int)=>zab (decide (s.2<(d.types.length:Int))) (gd (decide (0<=s.2)) (zaa d.types[s.2.toNat]? fun x=>gd (decide (List.length s.1+List.length [116,121,112,101,32]<=BIG)) (gd (decide (List.length (s.1++[116,121,112,101,32])+List.length x.name<=BIG)) (zaa (zab (x.key !=[]) (gd (decide (List.length (s.1++[116,121,112,101,32]++x.name)+List.length [32,107,101,121,32]<=BIG)) (gd (decide (List.length (s.1++[116,121,112,101,32]++x.name++[32,107,101,121,32])+List.length x.key<=BIG)) (some (s.1++[116,121,112,101,32]++x.name++[32,107,101,121,32]++x.key)))) (some (s.1++[116,121,112,101,32]++x.name))) fun x_1=>gd (decide (List.length x_1+List.length [10]<=BIG)) (zaa (zaB (fun(s:List UInt8×Int)=>zab (decide (s.2<(x.fields.length:Int))) (gd (decide (0<=s.2)) (zaa x.fields[s.2.toNat]? fun x=>zaa (zjH x) fun x=>gd (decide (List.length s.1+List.length x<=BIG)) (gd (zaH (s.2+1)) (some (Sum.inl (s.1++x,s.2+1)))))) (some (Sum.inr (s.1,s.2)))) (x_1++[10],0)) fun(x:List UInt8×Int)=>gd (zaH (s.2+1)) (some (Sum.inl (x.1,s.2+1)))))))) (some (Sum.inr (s.1,s.2)))) ([112,97,114,116,32]++d.name++[10],0)) fun(x:List UInt8×Int)=>some x.1))
def zhJ:=zaC zhu
theorem zjd:∀d,zhJ d=zhu d:=congrFun (zae zhu)
def zki:TE:=⟨113,[.st .Part],[],(.str),[],zhJ⟩
theorem zvl:XO [zmL] zBC zCV [.t 2] zki:=xq zjd fun d=>by kernel_rfl
def zez(d:Part):Option PFault:=zab (decide ((d.types.length:Int)>5)) (some (⟨6,6⟩:PFault)) (zaa (zby d.name) fun x=>zab (!x) (some (⟨0,1⟩:PFault)) (zaa (zab ((d.types.length:Int)==0) (some true) (zaa d.types[Int.toNat 0]? fun x=>zab (x.name !=[113,117,101,114,121]) (some true) (zaa d.types[Int.toNat 0]? fun x=>some (x.key !=[])))) fun x=>zab x (some (⟨0,7⟩:PFault)) (zaa (zaB (fun(s:Int×Int×Int)=>zab (decide (s.1<(d.types.length:Int))) (zaa (zhH (d,s.1)) fun x=>zab (x !=0) (gd (zaH (s.1+1)) (some (Sum.inr (Sum.inr (⟨s.1+1,x⟩:PFault))))) (zaa (zaB (fun(s_1:Int×Int×Int)=>gd (decide (0<=s.1)) (zaa d.types[s.1.toNat]? fun x=>zab (decide (s_1.1<(x.fields.length:Int))) (gd (decide (0<=s.1)) (zaa d.types[s.1.toNat]? fun x=>gd (decide (0<=s_1.1)) (zaa x.fields[s_1.1.toNat]? fun x=>zab (x.of==[113,117,101,114,121]) (gd (zaH (s.1+1)) (some (Sum.inr (Sum.inr (Sum.inr (Sum.inr (⟨s.1+1,7⟩:PFault))))))) (gd (zaH (s_1.1+1)) (some (Sum.inl (s_1.1+1,s_1.2.1,s_1.2.2))))))) (some (Sum.inr (Sum.inl (s_1.1,s_1.2.1,s_1.2.2)))))) (0,s.2.1,s.2.2)) fun(x:Int×Int×Int⊕Int×Int×Int⊕Int×Int×Int⊕PFault)=>caseS x (fun d=>gd (zaH (s.1+1)) (some (Sum.inl (s.1+1,d.2.1,d.2.2)))) fun r=>some r)) (some (Sum.inr (Sum.inl (s.1,s.2.1,s.2.2))))) (0,0,0)) fun(x:Int×Int×Int⊕PFault)=>caseS x (fun d_1=>zaa (zhJ d) fun x=>zab (decide ((x.length:Int)>1500)) (some (⟨0,6⟩:PFault)) (some (⟨0,0⟩:PFault))) fun r=>some r)))
def zcp:=zaC zez
theorem zgu:∀d,zcp d=zez d:=congrFun (zae zez)
def zdv:TE:=⟨89,[.st .Part],[],(.st .PFault),[],zcp⟩
theorem zqy:XO [zf5,zkg,zki] zDD c89 [.c 2 (some 2)] zdv:=xq zgu fun d=>by kernel_rfl
def zmv(d:List Part×List UInt8):Option (List UInt8):=zaa (zaB (fun(s:Int)=>zab (decide (s<(d.1.length:Int))) (gd (decide (0<=s)) (zaa d.1[s.toNat]? fun x=>zaa (zb9 (x,d.2)) fun x=>zaa (zab (decide (x>=0)) (gd (decide (0<=s)) (zaa d.1[s.toNat]? fun x_1=>gd (decide (0<=x)) (zaa x_1.types[x.toNat]? fun x=>some (x.key !=[])))) (some false)) fun x_1=>zab x_1 (gd (decide (0<=s)) (zaa d.1[s.toNat]? fun x_2=>gd (decide (0<=x)) (zaa x_2.types[x.toNat]? fun x=>some (Sum.inr (Sum.inr x.key))))) (gd (zaH (s+1)) (some (Sum.inl (s+1)))))) (some (Sum.inr (Sum.inl s)))) 0) fun(x:Int⊕List UInt8)=>caseS x (fun d=>some []) fun r=>some r
def ziv:=zaC zmv
theorem zlU:∀d,ziv d=zmv d:=congrFun (zae zmv)
def zko:TE:=⟨115,[.lst (.nm .Part),.str],[],(.str),[],ziv⟩
theorem zzF:XO [zcK] zBE zCX [.t 4] zko:=xq zlU fun d=>by kernel_rfl
def zms(d:Part×List UInt8×List UInt8):Option (Field×Bool):=zaa (zb9 (d.1,d.2.1)) fun x=>zab (decide (x<0)) (some ((⟨[],[],false,false,false,false,false,[]⟩:Field),false)) (gd (decide (0<=x)) (zaa d.1.types[x.toNat]? fun x_1=>zaa (zbS (x_1,d.2.2)) fun x_2=>zab (decide (x_2<0)) (some ((⟨[],[],false,false,false,false,false,[]⟩:Field),false)) (gd (decide (0<=x)) (zaa d.1.types[x.toNat]? fun x=>gd (decide (0<=x_2)) (zaa x.fields[x_2.toNat]? fun x=>some (x,true))))))
def zgI:=zaC zms
theorem zlR:∀d,zgI d=zms d:=congrFun (zae zms)
def ziD:TE:=⟨114,[.st .Part,.str,.str],[],(.tup [.st .Field,.bool]),[],zgI⟩
theorem zzB:XO [zcK,zcR] zBD zCW [.c 6 (some 8),.t 7] ziD:=xq zlR fun d=>by kernel_rfl
def zfV(d:List Part×List UInt8×List UInt8):Option (List Int):=zaa (zaB (fun(s:Int×List Int)=>zab (decide (s.1<(d.1.length:Int))) (gd (decide (0<=s.1)) (zaa d.1[s.1.toNat]? fun x=>zaa (zgI (x,d.2.1,d.2.2)) fun(x:Field×Bool)=>zaa (zab x.2 (some !x.1.far) (some false)) fun x=>zaa (zab x (gd (decide (List.length s.2+List.length [s.1]<=LIM)) (some (s.2++[s.1]))) (some s.2)) fun x=>gd (zaH (s.1+1)) (some (Sum.inl (s.1+1,x))))) (some (Sum.inr (s.1,s.2)))) (0,[])) fun(x:Int×List Int)=>some x.2
def zd6:=zaC zfV
theorem zhN:∀d,zd6 d=zfV d:=congrFun (zae zfV)
def zf6:TE:=⟨93,[.lst (.nm .Part),.str,.str],[],(.lst (.int .i64)),[],zd6⟩
theorem zsN:XO [ziD] zDG c93 [.t 6] zf6:=xq zhN fun d=>by kernel_rfl
def zhv(d:Field×Field):Option Bool:=zaa (zab (d.1.of==d.2.of) (zab (d.1.list==d.2.list) (some (d.1.must==d.2.must)) (some false)) (some false)) fun x=>some x
def zhK:=zaC zhv
theorem zje:∀d,zhK d=zhv d:=congrFun (zae zhv)
def zkl:TE:=⟨131,[.st .Field,.st .Field],[],(.bool),[],zhK⟩
theorem zvo:XO [] zBK zC3 [.t 4] zkl:=xq zje fun d=>by kernel_rfl
def zhx(d:List Part×Int×List UInt8×Field):Option Int:=zaa (zd6 (d.1,d.2.2.1,d.2.2.2.name)) fun x=>zaa (zaB (fun(s:Int×Int×Int)=>zab (decide (s.2.2<(d.1.length:Int))) (gd (decide (0<=s.2.2)) (zaa d.1[s.2.2.toNat]? fun x=>zaa (zgI (x,d.2.2.1,d.2.2.2.name)) fun(x:Field×Bool)=>zaa (zab x.2 (zaa (zhK (d.2.2.2,(⟨x.1.name,x.1.of,x.1.list,x.1.must,x.1.far,x.1.hidden,x.1.shared,x.1.needs⟩:Field))) fun x=>some !x) (some false)) fun x_1=>zab x_1 (some (Sum.inr (Sum.inr 3))) (zaa (zab x.2 (some x.1.shared) (some false)) fun x_2=>zaa (zab x_2 (gd (zaH (s.1+1)) (some (s.1+1))) (some s.1)) fun x_3=>zaa (zab x.2 (some (decide ((x.1.needs.length:Int)>0))) (some false)) fun x=>zaa (zab x (gd (zaH (s.2.1+1)) (some (s.2.1+1))) (some s.2.1)) fun x=>gd (zaH (s.2.2+1)) (some (Sum.inl (x_3,x,s.2.2+1)))))) (some (Sum.inr (Sum.inl (s.1,s.2.1,s.2.2))))) (0,0,0)) fun(x_1:Int×Int×Int⊕Int)=>caseS x_1 (fun d_1=>zab ((x.length:Int)==0) (some 6) (zaa (zab (decide ((x.length:Int)>1)) (zaa (ziv (d.1,d.2.2.1)) fun x_2=>zab (d.2.2.2.name !=x_2) (some (decide (d_1.1<(x.length:Int)))) (some false)) (some false)) fun x_2=>zab x_2 (some 5) (zaa (zab (decide (d_1.2.1>0)) (some (decide ((x.length:Int)>1))) (some false)) fun x=>zab x (some 7) (zaa (zaB (fun(s:Int)=>zab (decide (s<(d.2.2.2.needs.length:Int))) (zaa (zaB (fun(s_1:Int)=>zab (decide (s_1<(d.1.length:Int))) (gd (decide (0<=s_1)) (zaa d.1[s_1.toNat]? fun x=>gd (decide (0<=s)) (zaa d.2.2.2.needs[s.toNat]? fun x_3=>zaa (zgI (x,d.2.2.1,x_3)) fun(x:Field×Bool)=>zaa (zab x.2 (some (decide ((x.1.needs.length:Int)>0))) (some false)) fun x=>zab x (some (Sum.inr (Sum.inr (Sum.inr (Sum.inr 7))))) (gd (zaH (s_1+1)) (some (Sum.inl (s_1+1))))))) (some (Sum.inr (Sum.inl s_1)))) 0) fun(x:Int⊕Int⊕Int⊕Int)=>caseS x (fun d=>gd (zaH (s+1)) (some (Sum.inl (s+1)))) fun r=>some r) (some (Sum.inr (Sum.inl s)))) 0) fun(x:Int⊕Int)=>caseS x (fun d=>some 0) fun r=>some r)))) fun r=>some r
def zhM:=zaC zhx
theorem zjg:∀d,zhM d=zhx d:=congrFun (zae zhx)
def zkn:TE:=⟨116,[.lst (.nm .Part),.int .i64,.str,.st .Field],[],(.int .i64),[],zhM⟩
theorem zvq:XO [zf6,ziD,zkl,zko] zBF zCY [.t 8] zkn:=xq zjg fun d=>by kernel_rfl
def zhw(d:List Part):Option CFault:=zaa (zab ((d.length:Int)==0) (some true) (some (decide ((d.length:Int)>4)))) fun x=>zab x (some (⟨0,[],[],8⟩:CFault)) (zaa (zaB (fun(s:Int×Int×List UInt8×List UInt8×Int)=>zab (decide (s.1<(d.length:Int))) (gd (decide (0<=s.1)) (zaa d[s.1.toNat]? fun x=>zaa (zcp x) fun x=>zab (x.code !=0) (gd (zaH (s.1+1)) (some (Sum.inr (Sum.inr (⟨s.1+1,[],[],1⟩:CFault))))) (zaa (zaB (fun(s_1:Int×Int×List UInt8×List UInt8×Int)=>zab (decide (s_1.1<s.1)) (gd (decide (0<=s_1.1)) (zaa d[s_1.1.toNat]? fun x=>gd (decide (0<=s.1)) (zaa d[s.1.toNat]? fun x_1=>zab (x.name==x_1.name) (gd (zaH (s.1+1)) (some (Sum.inr (Sum.inr (Sum.inr (Sum.inr (⟨s.1+1,[],[],2⟩:CFault))))))) (gd (zaH (s_1.1+1)) (some (Sum.inl (s_1.1+1,s_1.2.1,s_1.2.2.1,s_1.2.2.2.1,s_1.2.2.2.2))))))) (some (Sum.inr (Sum.inl (s_1.1,s_1.2.1,s_1.2.2.1,s_1.2.2.2.1,s_1.2.2.2.2))))) (0,s.2.1,s.2.2.1,s.2.2.2.1,s.2.2.2.2)) fun(x:Int×Int×List UInt8×List UInt8×Int⊕Int×Int×List UInt8×List UInt8×Int⊕Int×Int×List UInt8×List UInt8×Int⊕CFault)=>caseS x (fun d=>gd (zaH (s.1+1)) (some (Sum.inl (s.1+1,d.2.1,d.2.2.1,d.2.2.2.1,d.2.2.2.2)))) fun r=>some r))) (some (Sum.inr (Sum.inl (s.1,s.2.1,s.2.2.1,s.2.2.2.1,s.2.2.2.2))))) (0,0,[],[],0)) fun(x:Int×Int×List UInt8×List UInt8×Int⊕CFault)=>caseS x (fun d_1=>zaa (zaB (fun(s:Int×Int×List UInt8×List UInt8×Int)=>zab (decide (s.1<(d.length:Int))) (zaa (zaB (fun(s_1:Int×Int×List UInt8×List UInt8×Int)=>gd (decide (0<=s.1)) (zaa d[s.1.toNat]? fun x=>zab (decide (s_1.1<(x.types.length:Int))) (gd (decide (0<=s.1)) (zaa d[s.1.toNat]? fun x=>gd (decide (0<=s_1.1)) (zaa x.types[s_1.1.toNat]? fun x=>zaa (zab (x.key !=[]) (zaa (ziv (d,x.name)) fun x_1=>some (x.key !=x_1)) (some false)) fun x_1=>zab x_1 (gd (zaH (s.1+1)) (some (Sum.inr (Sum.inr (Sum.inr (Sum.inr (⟨s.1+1,x.name,[],4⟩:CFault))))))) (zaa (zaB (fun(s_2:Int×Int×List UInt8×List UInt8×Int)=>zab (decide (s_2.1<(x.fields.length:Int))) (gd (decide (0<=s_2.1)) (zaa x.fields[s_2.1.toNat]? fun x_2=>zaa (zhM (d,s.1,x.name,x_2)) fun x_3=>zab (x_3 !=0) (gd (zaH (s.1+1)) (gd (decide (0<=s_2.1)) (zaa x.fields[s_2.1.toNat]? fun x_4=>some (Sum.inr (Sum.inr (Sum.inr (Sum.inr (Sum.inr (Sum.inr (⟨s.1+1,x.name,x_4.name,x_3⟩:CFault)))))))))) (gd (zaH (s_2.1+1)) (some (Sum.inl (s_2.1+1,s_2.2.1,s_2.2.2.1,s_2.2.2.2.1,s_2.2.2.2.2)))))) (some (Sum.inr (Sum.inl (s_2.1,s_2.2.1,s_2.2.2.1,s_2.2.2.2.1,s_2.2.2.2.2))))) (0,s_1.2.1,s_1.2.2.1,s_1.2.2.2.1,s_1.2.2.2.2)) fun(x:Int×Int×List UInt8×List UInt8×Int⊕Int×Int×List UInt8×List UInt8×Int⊕Int×Int×List UInt8×List UInt8×Int⊕Int×Int×List UInt8×List UInt8×Int⊕Int×Int×List UInt8×List UInt8×Int⊕CFault)=>caseS x (fun d=>gd (zaH (s_1.1+1)) (some (Sum.inl (s_1.1+1,d.2.1,d.2.2.1,d.2.2.2.1,d.2.2.2.2)))) fun r=>some r)))) (some (Sum.inr (Sum.inl (s_1.1,s_1.2.1,s_1.2.2.1,s_1.2.2.2.1,s_1.2.2.2.2)))))) (0,s.2.1,s.2.2.1,s.2.2.2.1,s.2.2.2.2)) fun(x:Int×Int×List UInt8×List UInt8×Int⊕Int×Int×List UInt8×List UInt8×Int⊕Int×Int×List UInt8×List UInt8×Int⊕CFault)=>caseS x (fun d=>gd (zaH (s.1+1)) (some (Sum.inl (s.1+1,d.2.1,d.2.2.1,d.2.2.2.1,d.2.2.2.2)))) fun r=>some r) (some (Sum.inr (Sum.inl (s.1,s.2.1,s.2.2.1,s.2.2.2.1,s.2.2.2.2))))) (0,d_1.2.1,d_1.2.2.1,d_1.2.2.2.1,d_1.2.2.2.2)) fun(x:Int×Int×List UInt8×List UInt8×Int⊕CFault)=>caseS x (fun d=>some (⟨0,[],[],0⟩:CFault)) fun r=>some r) fun r=>some r)
def zhL:=zaC zhw
theorem zjf:∀d,zhL d=zhw d:=congrFun (zae zhw)
def zkm:TE:=⟨91,[.lst (.nm .Part)],[],(.st .CFault),[],zhL⟩
theorem zvp:XO [zdv,zko,zkn] zDE c91 [.c 2 (some 4)] zkm:=xq zjf fun d=>by kernel_rfl
def zmw(d:Typ×Field):Option Typ:=zaa (zbS ((⟨d.1.name,d.1.key,d.1.fields⟩:Typ),d.2.name)) fun x=>zab (decide (x<0)) (gd (decide (List.length d.1.fields<=LIM)) (gd (decide (List.length d.2.needs<=LIM)) (gd (decide (List.length d.1.fields+List.length [(⟨d.2.name,d.2.of,d.2.list,d.2.must,false,d.2.hidden,false,d.2.needs⟩:Field)]<=LIM)) (some (⟨d.1.name,d.1.key,d.1.fields++[(⟨d.2.name,d.2.of,d.2.list,d.2.must,false,d.2.hidden,false,d.2.needs⟩:Field)]⟩:Typ))))) (gd (decide (0+List.length d.1.fields<=LIM)) (zaa (zab d.2.hidden (gd (decide (0<=x)&&decide (x<(d.1.fields.length:Int))) (zaa d.1.fields[x.toNat]? fun x_1=>some ((d.1.name,d.1.key,d.1.fields),([],[]),[],List.set d.1.fields (x.toNat) (⟨x_1.name,x_1.of,x_1.list,x_1.must,x_1.far,true,x_1.shared,x_1.needs⟩:Field)))) (some ((d.1.name,d.1.key,d.1.fields),([],[]),[],d.1.fields))) fun(x_1:(List UInt8×List UInt8×List Field)×(List UInt8×List UInt8)×List Field×List Field)=>zaa (zab (decide ((d.2.needs.length:Int)>0)) (gd (decide (0+List.length d.2.needs<=LIM)) (gd (decide (0<=x)&&decide (x<(x_1.2.2.2.length:Int))) (zaa x_1.2.2.2[x.toNat]? fun x_2=>some ((x_1.1.1,x_1.1.2.1,x_1.1.2.2),(x_1.2.1.1,x_1.2.1.2),x_1.2.2.1,List.set x_1.2.2.2 (x.toNat) (⟨x_2.name,x_2.of,x_2.list,x_2.must,x_2.far,x_2.hidden,x_2.shared,d.2.needs⟩:Field))))) (some ((x_1.1.1,x_1.1.2.1,x_1.1.2.2),(x_1.2.1.1,x_1.2.1.2),x_1.2.2.1,x_1.2.2.2))) fun(x:(List UInt8×List UInt8×List Field)×(List UInt8×List UInt8)×List Field×List Field)=>some (⟨x.1.1,x.1.2.1,x.2.2.2⟩:Typ)))
def zmz:=zaC zmw
theorem zlV:∀d,zmz d=zmw d:=congrFun (zae zmw)
def zps:TE:=⟨117,[.st .Typ,.st .Field],[],(.st .Typ),[],zmz⟩
theorem zzG:XO [zcR] zBG zCZ [.c 4 (some 3)] zps:=xq zlV fun d=>by kernel_rfl
def zmu(d:List Part):Option Part:=zaa (zaB (fun(s:Int×List UInt8×List Typ×List UInt8×List Typ)=>zab (decide (s.1<(d.length:Int))) (zaa (zaB (fun(s_1:Int×List UInt8×List Typ×List UInt8×List Typ)=>gd (decide (0<=s.1)) (zaa d[s.1.toNat]? fun x=>zab (decide (s_1.1<(x.types.length:Int))) (gd (decide (0<=s.1)) (zaa d[s.1.toNat]? fun x=>gd (decide (0<=s_1.1)) (zaa x.types[s_1.1.toNat]? fun x=>zaa (zb9 ((⟨s_1.2.2.2.1,s_1.2.2.2.2⟩:Part),x.name)) fun x_1=>zaa (zab (decide (x_1<0)) (zaa (ziv (d,x.name)) fun x_2=>gd (decide (List.length s_1.2.2.2.2+List.length [(⟨x.name,x_2,[]⟩:Typ)]<=LIM)) (some ((s_1.2.2.2.2.length:Int),s_1.2.1,s_1.2.2.1,s_1.2.2.2.1,s_1.2.2.2.2++[(⟨x.name,x_2,[]⟩:Typ)]))) (some (x_1,s_1.2.1,s_1.2.2.1,s_1.2.2.2.1,s_1.2.2.2.2))) fun(x_2:Int×List UInt8×List Typ×List UInt8×List Typ)=>zaa (zaB (fun(s:Int×List UInt8×List Typ×List UInt8×List Typ)=>zab (decide (s.1<(x.fields.length:Int))) (gd (decide (0<=x_2.1)&&decide (x_2.1<(s.2.2.2.2.length:Int))) (zaa s.2.2.2.2[x_2.1.toNat]? fun x_3=>gd (decide (0<=s.1)) (zaa x.fields[s.1.toNat]? fun x=>zaa (zmz (x_3,x)) fun x=>gd (decide (0<=x_2.1)&&decide (x_2.1<(s.2.2.2.2.length:Int))) (zaa s.2.2.2.2[x_2.1.toNat]? fun x_4=>gd (zaH (s.1+1)) (some (Sum.inl (s.1+1,s.2.1,s.2.2.1,s.2.2.2.1,List.set s.2.2.2.2 (x_2.1.toNat) x))))))) (some (Sum.inr (s.1,s.2.1,s.2.2.1,s.2.2.2.1,s.2.2.2.2)))) (0,x_2.2.1,x_2.2.2.1,x_2.2.2.2.1,x_2.2.2.2.2)) fun(x:Int×List UInt8×List Typ×List UInt8×List Typ)=>gd (zaH (s_1.1+1)) (some (Sum.inl (s_1.1+1,x.2.1,x.2.2.1,x.2.2.2.1,x.2.2.2.2)))))) (some (Sum.inr (s_1.1,s_1.2.1,s_1.2.2.1,s_1.2.2.2.1,s_1.2.2.2.2))))) (0,s.2.1,s.2.2.1,s.2.2.2.1,s.2.2.2.2)) fun(x:Int×List UInt8×List Typ×List UInt8×List Typ)=>gd (zaH (s.1+1)) (some (Sum.inl (s.1+1,x.2.1,x.2.2.1,x.2.2.2.1,x.2.2.2.2)))) (some (Sum.inr (s.1,s.2.1,s.2.2.1,s.2.2.2.1,s.2.2.2.2)))) (0,[],[],[97],[])) fun(x:Int×List UInt8×List Typ×List UInt8×List Typ)=>some (⟨x.2.2.2.1,x.2.2.2.2⟩:Part)
def zmy:=zaC zmu
theorem zlT:∀d,zmy d=zmu d:=congrFun (zae zmu)
def zpr:TE:=⟨92,[.lst (.nm .Part)],[],(.st .Part),[],zmy⟩
theorem zzE:XO [zcK,zko,zps] zDF c92 [.c 2 (some 2)] zpr:=xq zlT fun d=>by kernel_rfl
def zey(d:List Part):Option (Chart×CFault):=zaa (zhL d) fun x=>zab (x.code !=0) (some ((⟨⟨[],[]⟩,[]⟩:Chart),x)) (zaa (zmy d) fun x_1=>zaa (zcp x_1) fun x_2=>zab (x_2.code !=0) (some ((⟨⟨[],[]⟩,[]⟩:Chart),(⟨0,[],[],8⟩:CFault))) (zaa (zaB (fun(s:Int×List UInt8×List Typ×List Own×(Int×List UInt8×List UInt8×Int)×(List UInt8×List Typ)×List Own)=>zab (decide (s.1<(s.2.2.2.2.2.1.2.length:Int))) (gd (decide (0<=s.1)) (zaa s.2.2.2.2.2.1.2[s.1.toNat]? fun x=>zaa (zaB (fun(s:Int×List UInt8×List Typ×List Own×(Int×List UInt8×List UInt8×Int)×(List UInt8×List Typ)×List Own)=>zab (decide (s.1<(x.fields.length:Int))) (gd (decide (0<=s.1)) (zaa x.fields[s.1.toNat]? fun x_3=>gd (decide (0<=s.1)) (zaa x.fields[s.1.toNat]? fun x_4=>zaa (zd6 (d,x.name,x_4.name)) fun x_5=>gd (decide (List.length s.2.2.2.2.2.2+List.length [(⟨x.name,x_3.name,x_5⟩:Own)]<=LIM)) (gd (zaH (s.1+1)) (some (Sum.inl (s.1+1,s.2.1,s.2.2.1,s.2.2.2.1,(s.2.2.2.2.1.1,s.2.2.2.2.1.2.1,s.2.2.2.2.1.2.2.1,s.2.2.2.2.1.2.2.2),(s.2.2.2.2.2.1.1,s.2.2.2.2.2.1.2),s.2.2.2.2.2.2++[(⟨x.name,x_3.name,x_5⟩:Own)]))))))) (some (Sum.inr (s.1,s.2.1,s.2.2.1,s.2.2.2.1,(s.2.2.2.2.1.1,s.2.2.2.2.1.2.1,s.2.2.2.2.1.2.2.1,s.2.2.2.2.1.2.2.2),(s.2.2.2.2.2.1.1,s.2.2.2.2.2.1.2),s.2.2.2.2.2.2)))) (0,s.2.1,s.2.2.1,s.2.2.2.1,(s.2.2.2.2.1.1,s.2.2.2.2.1.2.1,s.2.2.2.2.1.2.2.1,s.2.2.2.2.1.2.2.2),(s.2.2.2.2.2.1.1,s.2.2.2.2.2.1.2),s.2.2.2.2.2.2)) fun(x:Int×List UInt8×List Typ×List Own×(Int×List UInt8×List UInt8×Int)×(List UInt8×List Typ)×List Own)=>gd (zaH (s.1+1)) (some (Sum.inl (s.1+1,x.2.1,x.2.2.1,x.2.2.2.1,(x.2.2.2.2.1.1,x.2.2.2.2.1.2.1,x.2.2.2.2.1.2.2.1,x.2.2.2.2.1.2.2.2),(x.2.2.2.2.2.1.1,x.2.2.2.2.2.1.2),x.2.2.2.2.2.2))))) (some (Sum.inr (s.1,s.2.1,s.2.2.1,s.2.2.2.1,(s.2.2.2.2.1.1,s.2.2.2.2.1.2.1,s.2.2.2.2.1.2.2.1,s.2.2.2.2.1.2.2.2),(s.2.2.2.2.2.1.1,s.2.2.2.2.2.1.2),s.2.2.2.2.2.2)))) (0,[],[],[],(0,[],[],0),(x_1.name,x_1.types),[])) fun(x_3:Int×List UInt8×List Typ×List Own×(Int×List UInt8×List UInt8×Int)×(List UInt8×List Typ)×List Own)=>some ((⟨⟨x_3.2.2.2.2.2.1.1,x_3.2.2.2.2.2.1.2⟩,x_3.2.2.2.2.2.2⟩:Chart),x)))
def zeC:=zaC zey
theorem zgt:∀d,zeC d=zey d:=congrFun (zae zey)
def zgP:TE:=⟨62,[.lst (.nm .Part)],[],(.tup [.st .Chart,.st .CFault]),[],zeC⟩
theorem zqx:XO [zkm,zpr,zdv,zf6] zDo c62 [.c 2 (some 3),.c 3 (some 4)] zgP:=xq zgt fun d=>by kernel_rfl
def zjz(d:List Part):Option Part:=zaa (zeC d) fun(x:Chart×CFault)=>zab (x.2.code !=0) (zaa (zdq ()) fun x=>some (⟨[97,108,108],x⟩:Part)) (some (⟨x.1.all.name,x.1.all.types⟩:Part))
def zjE:=zaC zjz
theorem zjZ:∀d,zjE d=zjz d:=congrFun (zae zjz)
def zmH:TE:=⟨37,[.lst (.nm .Part)],[],(.st .Part),[],zjE⟩
theorem zw0:XO [zgP,zeL] zDd c37 [.c 2 (some 2)] zmH:=xq zjZ fun d=>by kernel_rfl
def zhp(d:List (List UInt8)×List Int×Int):Option (List UInt8×List Int×Int):=zaa (zaj ((d.1.length:Int),d.2.1,d.2.2)) fun(x:Int×List Int×Int)=>gd (decide (0<=x.1)) (zaa d.1[x.1.toNat]? fun x_1=>some (x_1,x.2.1,x.2.2))
def zdr:=zaC zhp
theorem zi9:∀d,zdr d=zhp d:=congrFun (zae zhp)
def zeh:TE:=⟨47,[.mpb 0 0,.lst .str],[.box ⟨none,[some ((.lst (.int .u8)),.no),some ((.int .i64),.no)]⟩ [.lst (.int .u8),.int .i64]],(.str),[.box ⟨none,[some ((.lst (.int .u8)),.no),some ((.int .i64),.no)]⟩ [.lst (.int .u8),.int .i64]],zdr⟩
theorem zvh:XO [zbp] zDh c47 [.t 4] zeh:=xq zi9 fun d=>by kernel_rfl
def zjY(d:Sel):Option (List UInt8):=zab (Sel.as d !=[]) (some (Sel.as d)) (some (Sel.name d))
def zeE:=zaC zjY
theorem ziu:∀d,zeE d=zjY d:=congrFun (zae zjY)
def zfs:TE:=⟨74,[.st .Sel],[],(.str),[],zeE⟩
theorem zzD:XO [] zDx c74 [.t 2] zfs:=xq ziu fun d=>by kernel_rfl
def zbC:Nat->Part×List UInt8×Int×List Int×Int->Option (List Sel×List Int×Int)|0,_=>none|n+1,d=>zaa (zb9 (d.1,d.2.1)) fun x=>zaa (zab (decide (x<0)) (some true) (some (decide (d.2.2.1>5)))) fun x_1=>zab x_1 (some ([],d.2.2.2.1,d.2.2.2.2)) (gd (decide (0<=x)) (zaa d.1.types[x.toNat]? fun x=>zaa (zaj (3,d.2.2.2.1,d.2.2.2.2)) fun(x_2:Int×List Int×Int)=>gd (zaH (1+x_2.1)) (zaa (zaB (fun(s:Int×(List Int×Int)×List Sel)=>zab (decide (s.1>0)) (zaa (zaj ((x.fields.length:Int),s.2.1.1,s.2.1.2)) fun(x_3:Int×List Int×Int)=>gd (decide (0<=x_3.1)) (zaa x.fields[x_3.1.toNat]? fun x=>zaa (zaj (5,x_3.2.1,x_3.2.2)) fun(x_4:Int×List Int×Int)=>zaa (zab (x_4.1==0) (zaa (zdr ([[97],[98],[99]],x_4.2.1,x_4.2.2)) fun(x_5:List UInt8×List Int×Int)=>some ((x_5.2.1,x_5.2.2),s.2.2,x_5.1,x.name,false,0,[])) (some ((x_4.2.1,x_4.2.2),s.2.2,[],x.name,false,0,[]))) fun(x_5:(List Int×Int)×List Sel×List UInt8×List UInt8×Bool×Int×List Sel)=>zaa (zbu x.of) fun x_6=>zaa (zab (!x_6) (gd (zaH (d.2.2.1+1)) (zaa (zbC n (d.1,x.of,d.2.2.1+1,x_5.1.1,x_5.1.2)) fun(x_7:List Sel×List Int×Int)=>zab ((x_7.1.length:Int)==0) (zaa (gd (zaH (s.1-1)) (some (Sum.inl (s.1-1,(x_7.2.1,x_7.2.2),x_5.2.1)))) fun(x:Int×(List Int×Int)×List Sel⊕Int×(List Int×Int)×List Sel)=>some (Sum.inr x)) (zaa (zab (d.2.1==[113,117,101,114,121]) (zab (!x.list) (zaa (zaj (2,x_7.2.1,x_7.2.2)) fun(x:Int×List Int×Int)=>some (x.1==0,(x.2.1,x.2.2),x_5.2.1,x_5.2.2.1,x_5.2.2.2.1,x_5.2.2.2.2.1,x_5.2.2.2.2.2.1,x_7.1)) (some (false,(x_7.2.1,x_7.2.2),x_5.2.1,x_5.2.2.1,x_5.2.2.2.1,x_5.2.2.2.2.1,x_5.2.2.2.2.2.1,x_7.1))) (some (false,(x_7.2.1,x_7.2.2),x_5.2.1,x_5.2.2.1,x_5.2.2.2.1,x_5.2.2.2.2.1,x_5.2.2.2.2.2.1,x_7.1))) fun(x:Bool×(List Int×Int)×List Sel×List UInt8×List UInt8×Bool×Int×List Sel)=>zaa (zab x.1 (zaa (zaj (5,x.2.1.1,x.2.1.2)) fun(x_8:Int×List Int×Int)=>some ((x_8.2.1,x_8.2.2),x.2.2.1,x.2.2.2.1,x.2.2.2.2.1,true,x_8.1,x.2.2.2.2.2.2.2)) (some ((x.2.1.1,x.2.1.2),x.2.2.1,x.2.2.2.1,x.2.2.2.2.1,x.2.2.2.2.2.1,x.2.2.2.2.2.2.1,x.2.2.2.2.2.2.2))) fun(x:(List Int×Int)×List Sel×List UInt8×List UInt8×Bool×Int×List Sel)=>some (Sum.inl ((x.1.1,x.1.2),x.2.1,x.2.2.1,x.2.2.2.1,x.2.2.2.2.1,x.2.2.2.2.2.1,x.2.2.2.2.2.2))))) (some (Sum.inl ((x_5.1.1,x_5.1.2),x_5.2.1,x_5.2.2.1,x_5.2.2.2.1,x_5.2.2.2.2.1,x_5.2.2.2.2.2.1,x_5.2.2.2.2.2.2)))) fun(x_7:(List Int×Int)×List Sel×List UInt8×List UInt8×Bool×Int×List Sel⊕Int×(List Int×Int)×List Sel⊕Int×(List Int×Int)×List Sel)=>caseS x_7 (fun d=>zaa (zab x.hidden (zaa (zaj (8,d.1.1,d.1.2)) fun(x:Int×List Int×Int)=>some (decide (x.1>0),(x.2.1,x.2.2),d.2.1,d.2.2.1,d.2.2.2.1,d.2.2.2.2.1,d.2.2.2.2.2.1,d.2.2.2.2.2.2)) (some (false,(d.1.1,d.1.2),d.2.1,d.2.2.1,d.2.2.2.1,d.2.2.2.2.1,d.2.2.2.2.2.1,d.2.2.2.2.2.2))) fun(x:Bool×(List Int×Int)×List Sel×List UInt8×List UInt8×Bool×Int×List Sel)=>zab x.1 (gd (zaH (s.1-1)) (some (Sum.inl (s.1-1,(x.2.1.1,x.2.1.2),x.2.2.1)))) (zaa (zaB (fun(s:Bool×Int)=>zab (decide (s.2<(x.2.2.1.length:Int))) (zaa (zab s.1 (some true) (gd (decide (0<=s.2)&&decide (s.2<(x.2.2.1.length:Int))) (zaa x.2.2.1[s.2.toNat]? fun x_8=>zaa (zeE x_8) fun x_9=>zaa (zeE (Sel.mk x.2.2.2.1 x.2.2.2.2.1 x.2.2.2.2.2.1 x.2.2.2.2.2.2.1 x.2.2.2.2.2.2.2)) fun x=>some (x_9==x)))) fun x=>gd (zaH (s.2+1)) (some (Sum.inl (x,s.2+1)))) (some (Sum.inr (s.1,s.2)))) (false,0)) fun(x_8:Bool×Int)=>zaa (zab (!x_8.1) (some (x.2.2.2.1 !=x.2.2.2.2.1)) (some false)) fun x_9=>zaa (zab x_9 (gd (decide (List.length x.2.2.1+List.length [Sel.mk x.2.2.2.1 x.2.2.2.2.1 x.2.2.2.2.2.1 x.2.2.2.2.2.2.1 x.2.2.2.2.2.2.2]<=LIM)) (some ((x.2.1.1,x.2.1.2),x.2.2.1++[Sel.mk x.2.2.2.1 x.2.2.2.2.1 x.2.2.2.2.2.1 x.2.2.2.2.2.2.1 x.2.2.2.2.2.2.2]))) (some ((x.2.1.1,x.2.1.2),x.2.2.1))) fun(x:(List Int×Int)×List Sel)=>gd (zaH (s.1-1)) (some (Sum.inl (s.1-1,(x.1.1,x.1.2),x.2))))) fun r=>some r)) (some (Sum.inr (s.1,(s.2.1.1,s.2.1.2),s.2.2)))) (1+x_2.1,(x_2.2.1,x_2.2.2),[])) fun(x:Int×(List Int×Int)×List Sel)=>some (x.2.2,x.2.1.1,x.2.1.2))))
def zj6:Part×List UInt8×Int×List Int×Int->Option (List Sel×List Int×Int):=zoI zbC
def zkf(n:Nat):TE:=⟨60,[.mpb 0 0,.st .Part,.str,.int .i64],[.box ⟨none,[some ((.lst (.int .u8)),.no),some ((.int .i64),.no)]⟩ [.lst (.int .u8),.int .i64]],(.lst (.nm .Sel)),[.box ⟨none,[some ((.lst (.int .u8)),.no),some ((.int .i64),.no)]⟩ [.lst (.int .u8),.int .i64]],zbC n⟩
def zoE:TE:=⟨60,[.mpb 0 0,.st .Part,.str,.int .i64],[.box ⟨none,[some ((.lst (.int .u8)),.no),some ((.int .i64),.no)]⟩ [.lst (.int .u8),.int .i64]],(.lst (.nm .Sel)),[.box ⟨none,[some ((.lst (.int .u8)),.no),some ((.int .i64),.no)]⟩ [.lst (.int .u8),.int .i64]],zj6⟩
theorem zvg(n:Nat)(d:Part×List UInt8×Int×List Int×Int):zei [zcK,zbp,zeh,zbK,zkf n,zfs] zCH c60 [.t 8] [.mpb 0 0,.st .Part,.str,.int .i64] [.box ⟨none,[some ((.lst (.int .u8)),.no),some ((.int .i64),.no)]⟩ [.lst (.int .u8),.int .i64]] (.lst (.nm .Sel)) [.box ⟨none,[some ((.lst (.int .u8)),.no),some ((.int .i64),.no)]⟩ [.lst (.int .u8),.int .i64]] d=zbC (n+1) d:=by kernel_rfl
def zcm:Nat->List Sel×Int×Int->Option Int|0,_=>none|n+1,d=>zaa (zab (decide ((d.1.length:Int)>0)) (some (decide (d.2.1>5))) (some false)) fun x=>zab x (some (-1)) (zaa (zaB (fun(s:Int×Int)=>zaa (zab (decide (s.2<(d.1.length:Int))) (some (decide (s.1>=0))) (some false)) fun x=>zab x (gd (decide (0<=s.2)) (zaa d.1[s.2.toNat]? fun x=>zaa (zaa (zby (Sel.name x)) fun x_1=>zab (!x_1) (some true) (zab (Sel.as x !=[]) (zaa (zby (Sel.as x)) fun x_2=>zab (!x_2) (some true) (zab (Sel.as x==Sel.name x) (some true) (zab (!Sel.one x) (zab (Sel.id x !=0) (some true) (zaa (zc4 (Sel.id x,0,999999)) fun x=>some !x)) (zaa (zc4 (Sel.id x,0,999999)) fun x=>some !x)))) (zab (!Sel.one x) (zab (Sel.id x !=0) (some true) (zaa (zc4 (Sel.id x,0,999999)) fun x=>some !x)) (zaa (zc4 (Sel.id x,0,999999)) fun x=>some !x)))) fun x_1=>zab x_1 (some (Sum.inr (Sum.inr (-1)))) (zaa (zaB (fun(s_1:Int)=>zab (decide (s_1<s.2)) (gd (decide (0<=s_1)) (zaa d.1[s_1.toNat]? fun x_2=>zaa (zeE x_2) fun x_3=>zaa (zeE (Sel.mk (Sel.as x) (Sel.name x) (Sel.one x) (Sel.id x) (Sel.kids x))) fun x=>zab (x_3==x) (some (Sum.inr (Sum.inr (Sum.inr (Sum.inr (-1)))))) (gd (zaH (s_1+1)) (some (Sum.inl (s_1+1)))))) (some (Sum.inr (Sum.inl s_1)))) 0) fun(x_2:Int⊕Int×Int⊕Int×Int⊕Int)=>caseS x_2 (fun d_1=>gd (zaH (d.2.1+1)) (gd (zaH (s.1-1)) (zaa (zcm n (Sel.kids x,d.2.1+1,s.1-1)) fun x=>gd (zaH (s.2+1)) (some (Sum.inl (x,s.2+1)))))) fun r=>some r))) (some (Sum.inr (Sum.inl (s.1,s.2))))) (d.2.2,0)) fun(x:Int×Int⊕Int)=>caseS x (fun d=>some d.1) fun r=>some r)
def zsV:List Sel×Int×Int->Option Int:=zoI zcm
def ztd(n:Nat):TE:=⟨44,[.lst (.nm .Sel),.int .i64,.int .i64],[],(.int .i64),[],zcm n⟩
def zxo:TE:=⟨44,[.lst (.nm .Sel),.int .i64,.int .i64],[],(.int .i64),[],zsV⟩
theorem zA7(n:Nat)(d:List Sel×Int×Int):zei [zf5,zn7,zfs,ztd n] zCD c44 [.t 6] [.lst (.nm .Sel),.int .i64,.int .i64] [] (.int .i64) [] d=zcm (n+1) d:=by kernel_rfl
def zaW:Nat->List Sel->Option (List UInt8)|0,_=>none|n+1,d=>zaa (zaB (fun(s:List UInt8×Int)=>zab (decide (s.2<(d.length:Int))) (gd (decide (0<=s.2)) (zaa d[s.2.toNat]? fun x=>zaa (zab (decide (s.2>0)) (gd (decide (List.length s.1+List.length [44]<=BIG)) (some (s.1++[44]))) (some s.1)) fun x_1=>zaa (zab (Sel.as x !=[]) (gd (decide (List.length x_1+List.length (Sel.as x)<=BIG)) (gd (decide (List.length (x_1++Sel.as x)+List.length [58]<=BIG)) (some (x_1++Sel.as x++[58])))) (some x_1)) fun x_2=>gd (decide (List.length x_2+List.length (Sel.name x)<=BIG)) (zaa (zab (Sel.one x) (gd (decide (List.length (x_2++Sel.name x)+List.length [40]<=BIG)) (zaa (zgM (Sel.id x)) fun x_3=>gd (decide (List.length (x_2++Sel.name x++[40])+List.length x_3<=BIG)) (gd (decide (List.length (x_2++Sel.name x++[40]++x_3)+List.length [41]<=BIG)) (some (x_2++Sel.name x++[40]++x_3++[41]))))) (some (x_2++Sel.name x))) fun x_3=>zaa (zab (decide ((↑(List.length (Sel.kids x)):Int)>0)) (zaa (zaW n (Sel.kids x)) fun x=>gd (decide (List.length x_3+List.length x<=BIG)) (some (x_3++x))) (some x_3)) fun x=>gd (zaH (s.2+1)) (some (Sum.inl (x,s.2+1)))))) (some (Sum.inr (s.1,s.2)))) ([123],0)) fun(x:List UInt8×Int)=>gd (decide (List.length x.1+List.length [125]<=BIG)) (some (x.1++[125]))
def zj7:List Sel->Option (List UInt8):=zoI zaW
def zkk(n:Nat):TE:=⟨45,[.lst (.nm .Sel)],[],(.str),[],zaW n⟩
def zoG:TE:=⟨45,[.lst (.nm .Sel)],[],(.str),[],zj7⟩
theorem zvn(n:Nat)(d:List Sel):zei [zmU,zkk n] zCE c45 [.t 2] [.lst (.nm .Sel)] [] (.str) [] d=zaW (n+1) d:=by kernel_rfl
def zjW(d:List Sel):Option Bool:=zaa (zab (decide ((d.length:Int)>0)) (zaa (zsV (d,1,24)) fun x=>zab (decide (x>=0)) (zaa (zj7 d) fun x=>some (decide ((x.length:Int)<=400))) (some false)) (some false)) fun x=>some x
def zdV:=zaC zjW
theorem zis:∀d,zdV d=zjW d:=congrFun (zae zjW)
def zkc:TE:=⟨17,[.lst (.nm .Sel)],[],(.bool),[],zdV⟩
theorem zzz:XO [zxo,zoG] zC6 c17 [.t 2] zkc:=xq zis fun d=>by kernel_rfl
def zbD:Nat->Part×List UInt8×List Sel×List (List UInt8)->Option AFault|0,_=>none|n+1,d=>zaa (zaB (fun(s:Int×Int×List (List UInt8))=>zab (decide (s.1<(d.2.2.1.length:Int))) (gd (decide (0<=s.1)) (zaa d.2.2.1[s.1.toNat]? fun x=>gd (decide (List.length d.2.2.2<=LIM)) (zaa (zeE (Sel.mk (Sel.as x) (Sel.name x) (Sel.one x) (Sel.id x) (Sel.kids x))) fun x_1=>gd (decide (List.length d.2.2.2+List.length [x_1]<=LIM)) (zaa (zgI (d.1,d.2.1,Sel.name x)) fun(x_2:Field×Bool)=>zaa (zbu x_2.1.of) fun x_3=>zaa (zab (!x_2.2) (some true) (some x_2.1.hidden)) fun x_4=>zab x_4 (some (Sum.inr (Sum.inr (⟨d.2.2.2++[x_1],1⟩:AFault)))) (zaa (zab x_3 (some (decide ((↑(List.length (Sel.kids x)):Int)>0))) (some false)) fun x_5=>zab x_5 (some (Sum.inr (Sum.inr (⟨d.2.2.2++[x_1],2⟩:AFault)))) (zaa (zab (!x_3) (some ((↑(List.length (Sel.kids x)):Int)==0)) (some false)) fun x_6=>zab x_6 (some (Sum.inr (Sum.inr (⟨d.2.2.2++[x_1],3⟩:AFault)))) (zaa (zab (Sel.one x) (zab x_3 (some true) (zab x_2.1.list (some true) (some (d.2.1 !=[113,117,101,114,121])))) (some false)) fun x_7=>zab x_7 (some (Sum.inr (Sum.inr (⟨d.2.2.2++[x_1],4⟩:AFault)))) (zaa (zbD n (d.1,x_2.1.of,Sel.kids x,d.2.2.2++[x_1])) fun x=>zab (x.code !=0) (some (Sum.inr (Sum.inr x))) (gd (zaH (s.1+1)) (some (Sum.inl (s.1+1,s.2.1,s.2.2)))))))))))) (some (Sum.inr (Sum.inl (s.1,s.2.1,s.2.2))))) (0,0,[])) fun(x:Int×Int×List (List UInt8)⊕AFault)=>caseS x (fun d=>some (⟨[],0⟩:AFault)) fun r=>some r
def znS:Part×List UInt8×List Sel×List (List UInt8)->Option AFault:=zoI zbD
def zkj(n:Nat):TE:=⟨90,[.st .Part,.str,.lst (.nm .Sel),.lst .str],[],(.st .AFault),[],zbD n⟩
def zoF:TE:=⟨90,[.st .Part,.str,.lst (.nm .Sel),.lst .str],[],(.st .AFault),[],znS⟩
theorem zvm(n:Nat)(d:Part×List UInt8×List Sel×List (List UInt8)):zei [zfs,ziD,zbK,zkj n] zCJ c90 [.c 8 (some 2)] [.st .Part,.str,.lst (.nm .Sel),.lst .str] [] (.st .AFault) [] d=zbD (n+1) d:=by kernel_rfl
def zfP(d:Part×List Sel):Option AFault:=zaa (zaa (zcp d.1) fun x=>zab (x.code !=0) (some true) (zaa (zdV d.2) fun x=>some !x)) fun x=>zab x (some (⟨[],1⟩:AFault)) (zaa (znS (d.1,[113,117,101,114,121],d.2,[])) fun x=>gd (decide (0+List.length x.way<=LIM)) (some x))
def zfW:=zaC zfP
theorem zhy:∀d,zfW d=zfP d:=congrFun (zae zfP)
def ziz:TE:=⟨61,[.st .Part,.lst (.nm .Sel)],[],(.st .AFault),[],zfW⟩
theorem zsG:XO [zdv,zkc,zoF] zDn c61 [.c 4 (some 2)] ziz:=xq zhy fun d=>by kernel_rfl
def zjA(d:Part×List Int×Int):Option (List Sel×List Int×Int):=zaa (zj6 (d.1,[113,117,101,114,121],1,d.2.1,d.2.2)) fun(x:List Sel×List Int×Int)=>zaa (zaB (fun(s:List Sel×Int×List Int×Int)=>zaa (zab (decide (s.2.1<4)) (zaa (zdV s.1) fun x=>zab (!x) (some true) (zaa (zfW (d.1,s.1)) fun x=>some (x.code !=0))) (some false)) fun x=>zab x (zaa (zj6 (d.1,[113,117,101,114,121],1,s.2.2.1,s.2.2.2)) fun(x:List Sel×List Int×Int)=>gd (zaH (s.2.1+1)) (some (Sum.inl (x.1,s.2.1+1,x.2.1,x.2.2)))) (some (Sum.inr (s.1,s.2.1,s.2.2.1,s.2.2.2)))) (x.1,0,x.2.1,x.2.2)) fun(x:List Sel×Int×List Int×Int)=>zaa (zdV x.1) fun x_1=>zab (!x_1) (zaa d.1.types[Int.toNat 0]? fun x_2=>zaa x_2.fields[Int.toNat 0]? fun x_3=>some ([Sel.mk [] x_3.name false 0 []],x.2.2.1,x.2.2.2)) (some (x.1,x.2.2.1,x.2.2.2))
def zjF:=zaC zjA
theorem zj0:∀d,zjF d=zjA d:=congrFun (zae zjA)
def zmI:TE:=⟨36,[.mpb 0 0,.st .Part],[.box ⟨none,[some ((.lst (.int .u8)),.no),some ((.int .i64),.no)]⟩ [.lst (.int .u8),.int .i64]],(.lst (.nm .Sel)),[.box ⟨none,[some ((.lst (.int .u8)),.no),some ((.int .i64),.no)]⟩ [.lst (.int .u8),.int .i64]],zjF⟩
theorem zw1:XO [zoE,zkc,ziz] zDc c36 [.t 4] zmI:=xq zj0 fun d=>by kernel_rfl
def zca:Nat->List Sel->Option (List Sel)|0,_=>none|n+1,d=>zaa (zaB (fun(s:Int×List Sel)=>zab (decide (s.1<(d.length:Int))) (gd (decide (0<=s.1)) (zaa d[s.1.toNat]? fun x=>zaa (zca n (Sel.kids x)) fun x_1=>gd (decide (List.length s.2+List.length [Sel.mk (Sel.as x) (Sel.name x) (Sel.one x) (Sel.id x) x_1]<=LIM)) (gd (zaH (s.1+1)) (some (Sum.inl (s.1+1,s.2++[Sel.mk (Sel.as x) (Sel.name x) (Sel.one x) (Sel.id x) x_1])))))) (some (Sum.inr (s.1,s.2)))) (0,[])) fun(x:Int×List Sel)=>some x.2
def zqE:List Sel->Option (List Sel):=zoI zca
def zmM(n:Nat):TE:=⟨28,[.lst (.nm .Sel)],[],(.own 0),[.arr (.nm .Sel) .no],zca n⟩
def zmV:TE:=⟨28,[.lst (.nm .Sel)],[],(.own 0),[.arr (.nm .Sel) .no],zqE⟩
theorem zw7(n:Nat)(d:List Sel):zei [zmM n] zCy c28 [.t 2] [.lst (.nm .Sel)] [] (.own 0) [.arr (.nm .Sel) .no] d=zca (n+1) d:=by kernel_rfl
def zaF:Nat->List Sel×List Int×Int->Option (List Sel×List Int×Int)|0,_=>none|n+1,d=>zaa (zqE d.1) fun x=>zab ((x.length:Int)==0) (zaa (zdr ([[117,115,101,114,115],[120],[65],[]],d.2.1,d.2.2)) fun(x:List UInt8×List Int×Int)=>some ([Sel.mk [] x.1 false 0 []],x.2.1,x.2.2)) (zaa (zaj ((x.length:Int),d.2.1,d.2.2)) fun(x_1:Int×List Int×Int)=>zaa (zaj (7,x_1.2.1,x_1.2.2)) fun(x_2:Int×List Int×Int)=>zaa (zaa (zab (x_2.1==0) (zaa (zdr ([[110,97,109,101],[122,122],[102,97,114],[95,105,100],[]],x_2.2.1,x_2.2.2)) fun(x_3:List UInt8×List Int×Int)=>gd (decide (0<=x_1.1)&&decide (x_1.1<(x.length:Int))) (zaa x[x_1.1.toNat]? fun x_4=>some ((x_3.2.1,x_3.2.2),List.set x (x_1.1.toNat) (Sel.mk (Sel.as x_4) x_3.1 (Sel.one x_4) (Sel.id x_4) (Sel.kids x_4))))) (zaa (zab (x_2.1==1) (gd (decide (0<=x_1.1)&&decide (x_1.1<(x.length:Int))) (zaa x[x_1.1.toNat]? fun x_3=>zaa (zdr ([[97],[95,97],Sel.name x_3],x_2.2.1,x_2.2.2)) fun(x_4:List UInt8×List Int×Int)=>gd (decide (0<=x_1.1)&&decide (x_1.1<(x.length:Int))) (zaa x[x_1.1.toNat]? fun x_5=>some ((x_4.2.1,x_4.2.2),List.set x (x_1.1.toNat) (Sel.mk x_4.1 (Sel.name x_5) (Sel.one x_5) (Sel.id x_5) (Sel.kids x_5)))))) (zaa (zab (x_2.1==2) (gd (decide (0<=x_1.1)&&decide (x_1.1<(x.length:Int))) (zaa x[x_1.1.toNat]? fun x_3=>gd (decide (0<=x_1.1)&&decide (x_1.1<(x.length:Int))) (zaa x[x_1.1.toNat]? fun x_4=>some ((x_2.2.1,x_2.2.2),List.set x (x_1.1.toNat) (Sel.mk (Sel.as x_4) (Sel.name x_4) (!Sel.one x_3) (Sel.id x_4) (Sel.kids x_4)))))) (zaa (zab (x_2.1==3) (zaa (zaj (3,x_2.2.1,x_2.2.2)) fun(x_3:Int×List Int×Int)=>gd (decide (0<=x_3.1)) (zaa [-1,999999,1000000][x_3.1.toNat]? fun x_4=>gd (decide (0<=x_1.1)&&decide (x_1.1<(x.length:Int))) (zaa x[x_1.1.toNat]? fun x_5=>some ((x_3.2.1,x_3.2.2),List.set x (x_1.1.toNat) (Sel.mk (Sel.as x_5) (Sel.name x_5) (Sel.one x_5) x_4 (Sel.kids x_5)))))) (zaa (zab (x_2.1==4) (gd (decide (0<=x_1.1)&&decide (x_1.1<(x.length:Int))) (zaa x[x_1.1.toNat]? fun x_3=>some ((x_2.2.1,x_2.2.2),List.set x (x_1.1.toNat) (Sel.mk (Sel.as x_3) (Sel.name x_3) (Sel.one x_3) (Sel.id x_3) [])))) (zaa (zab (x_2.1==5) (gd (decide (0<=x_1.1)&&decide (x_1.1<(x.length:Int))) (zaa x[x_1.1.toNat]? fun x_3=>gd (decide (List.length x+List.length [x_3]<=LIM)) (some ((x_2.2.1,x_2.2.2),x++[x_3])))) (gd (decide (0<=x_1.1)&&decide (x_1.1<(x.length:Int))) (zaa x[x_1.1.toNat]? fun x_3=>zaa (zaF n (Sel.kids x_3,x_2.2.1,x_2.2.2)) fun(x_4:List Sel×List Int×Int)=>gd (decide (0<=x_1.1)&&decide (x_1.1<(x.length:Int))) (zaa x[x_1.1.toNat]? fun x_5=>some ((x_4.2.1,x_4.2.2),List.set x (x_1.1.toNat) (Sel.mk (Sel.as x_5) (Sel.name x_5) (Sel.one x_5) (Sel.id x_5) x_4.1)))))) fun(x:(List Int×Int)×List Sel)=>some ((x.1.1,x.1.2),x.2))) fun(x:(List Int×Int)×List Sel)=>some ((x.1.1,x.1.2),x.2))) fun(x:(List Int×Int)×List Sel)=>some ((x.1.1,x.1.2),x.2))) fun(x:(List Int×Int)×List Sel)=>some ((x.1.1,x.1.2),x.2))) fun(x:(List Int×Int)×List Sel)=>some ((x.1.1,x.1.2),x.2))) fun(x:(List Int×Int)×List Sel)=>some ((x.1.1,x.1.2),x.2)) fun(x:(List Int×Int)×List Sel)=>some (x.2,x.1.1,x.1.2))
def zgx:List Sel×List Int×Int->Option (List Sel×List Int×Int):=zoI zaF
def zdY(n:Nat):TE:=⟨40,[.mpb 0 0,.lst (.nm .Sel)],[.box ⟨none,[some ((.lst (.int .u8)),.no),some ((.int .i64),.no)]⟩ [.lst (.int .u8),.int .i64]],(.lst (.nm .Sel)),[.box ⟨none,[some ((.lst (.int .u8)),.no),some ((.int .i64),.no)]⟩ [.lst (.int .u8),.int .i64]],zaF n⟩
def zgE:TE:=⟨40,[.mpb 0 0,.lst (.nm .Sel)],[.box ⟨none,[some ((.lst (.int .u8)),.no),some ((.int .i64),.no)]⟩ [.lst (.int .u8),.int .i64]],(.lst (.nm .Sel)),[.box ⟨none,[some ((.lst (.int .u8)),.no),some ((.int .i64),.no)]⟩ [.lst (.int .u8),.int .i64]],zgx⟩
theorem zlO(n:Nat)(d:List Sel×List Int×Int):zei [zmV,zeh,zbp,zdY n] zCA c40 [.t 4] [.mpb 0 0,.lst (.nm .Sel)] [.box ⟨none,[some ((.lst (.int .u8)),.no),some ((.int .i64),.no)]⟩ [.lst (.int .u8),.int .i64]] (.lst (.nm .Sel)) [.box ⟨none,[some ((.lst (.int .u8)),.no),some ((.int .i64),.no)]⟩ [.lst (.int .u8),.int .i64]] d=zaF (n+1) d:=by kernel_rfl
def zcx(d:List Int):Option (List Sel):=zaa (zjG d) fun(x:List Int×Int)=>zaa (zf0 (x.1,x.2)) fun(x:List Part×List Int×Int)=>zaa (zjE x.1) fun x_1=>zaa (zjF (x_1,x.2.1,x.2.2)) fun(x:List Sel×List Int×Int)=>zaa (zaj (10,x.2.1,x.2.2)) fun(x_2:Int×List Int×Int)=>zab (x_2.1==0) (zaa (zgx (x.1,x_2.2.1,x_2.2.2)) fun(x:List Sel×List Int×Int)=>some x.1) (some x.1)
def zcD:=zaC zcx
theorem zd4:∀d,zcD d=zcx d:=congrFun (zae zcx)
def zdX:TE:=⟨15,[.lst (.int .u8)],[],(.lst (.nm .Sel)),[],zcD⟩
theorem zlN:XO [zmK,ziC,zmH,zmI,zbp,zgE] zC4 c15 [.t 2] zdX:=xq zd4 fun d=>by kernel_rfl
def zc8(d:Sel):Option (List UInt8):=zab (Sel.as d !=[]) (some (Sel.as d)) (some (Sel.name d))
def zda:=zaC zc8
theorem ze6:∀d,zda d=zc8 d:=congrFun (zae zc8)
def zeK:TE:=⟨96,[.st .Sel],[],(.str),[],zda⟩
theorem znK:XO [] zDJ c96 [.t 2] zeK:=xq ze6 fun d=>by kernel_rfl
def zfT(d:List Sel):Option (List (List UInt8)):=zaa (zaB (fun(s:Int×List (List UInt8))=>zab (decide (s.1<(d.length:Int))) (gd (decide (0<=s.1)) (zaa d[s.1.toNat]? fun x=>zaa (zda (Sel.mk (Sel.as x) (Sel.name x) (Sel.one x) (Sel.id x) (Sel.kids x))) fun x=>gd (decide (List.length s.2+List.length [x]<=LIM)) (gd (zaH (s.1+1)) (some (Sum.inl (s.1+1,s.2++[x])))))) (some (Sum.inr (s.1,s.2)))) (0,[])) fun(x:Int×List (List UInt8))=>some x.2
def zfZ:=zaC zfT
theorem zhE:∀d,zfZ d=zfT d:=congrFun (zae zfT)
def zf4:TE:=⟨67,[.lst (.nm .Sel)],[],(.lst .str),[],zfZ⟩
theorem zsK:XO [zeK] zDs c67 [.t 2] zf4:=xq zhE fun d=>by kernel_rfl
def zaK(d:List (List UInt8)×List UInt8):Option Int:=zaa (zaB (fun(s:Int)=>zab (decide (s<(d.1.length:Int))) (gd (decide (0<=s)) (zaa d.1[s.toNat]? fun x=>zab (d.2==x) (some (Sum.inr (Sum.inr s))) (gd (zaH (s+1)) (some (Sum.inl (s+1)))))) (some (Sum.inr (Sum.inl s)))) 0) fun(x:Int⊕Int)=>caseS x (fun d=>some (-1)) fun r=>some r
def zaL:=zaC zaK
theorem zbh:∀d,zaL d=zaK d:=congrFun (zae zaK)
def za2:TE:=⟨84,[.lst .str,.str],[],(.int .i64),[],zaL⟩
theorem zdi:XO [] zDy c84 [.t 4] za2:=xq zbh fun d=>by kernel_rfl
def zaD(d:List (List UInt8)×List UInt8):Option Bool:=zaa (zaL (d.1,d.2)) fun x=>some (decide (x>=0))
def zak:=zaC zaD
theorem zbb:∀d,zak d=zaD d:=congrFun (zae zaD)
def zal:TE:=⟨56,[.lst .str,.str],[],(.bool),[],zak⟩
theorem zcw:XO [za2] zDl c56 [.t 4] zal:=xq zbb fun d=>by kernel_rfl
def zhl(d:List (List UInt8)):Option Bool:=zaa (zaB (fun(s:Int)=>zab (decide (s<(d.length:Int))) (gd (decide (0<=s)) (zaa d[s.toNat]? fun x=>gd (decide (0<=0)&&decide (0<=s)&&decide (s<=(d.length:Int))) (zaa (zak (List.take (s.toNat-Int.toNat 0) (List.drop (Int.toNat 0) d),x)) fun x=>zab x (some (Sum.inr (Sum.inr true))) (gd (zaH (s+1)) (some (Sum.inl (s+1))))))) (some (Sum.inr (Sum.inl s)))) 0) fun(x:Int⊕Bool)=>caseS x (fun d=>some false) fun r=>some r
def zhD:=zaC zhl
theorem zi6:∀d,zhD d=zhl d:=congrFun (zae zhl)
def zhU:TE:=⟨66,[.lst .str],[],(.bool),[],zhD⟩
theorem zvd:XO [zal] zDr c66 [.t 2] zhU:=xq zi6 fun d=>by kernel_rfl
def zqD(d:Int×Int×Int):Option Bool:=zaa (zab (decide (d.1>=d.2.1)) (some (decide (d.1<=d.2.2))) (some false)) fun x=>some x
def zhA:=zaC zqD
theorem znQ:∀d,zhA d=zqD d:=congrFun (zae zqD)
def zn6:TE:=⟨41,[.int .i64,.int .i64,.int .i64],[],(.bool),[],zhA⟩
theorem zA5:XO [] zDg c41 [.t 6] zn6:=xq znQ fun d=>by kernel_rfl
def zfS(d:List UInt8):Option Bool:=zaa (zaB (fun(s:Int)=>zab (decide (s<(↑(List.length (List.map zaI d)):Int))) (gd (decide (0<=s)) (zaa (List.map zaI d)[s.toNat]? fun x=>zaa (zaa (zhA (IntKind.wrap IntKind.i64 x,97,122)) fun x_1=>zab (!x_1) (zab (x !=95) (zab (s==0) (some true) (zaa (zhA (IntKind.wrap IntKind.i64 x,48,57)) fun x=>some !x)) (some false)) (some false)) fun x=>zab x (some (Sum.inr (Sum.inr false))) (gd (zaH (s+1)) (some (Sum.inl (s+1)))))) (some (Sum.inr (Sum.inl s)))) 0) fun(x:Int⊕Bool)=>caseS x (fun d_1=>zaa (zhA ((d.length:Int),1,9)) fun x=>some x) fun r=>some r
def zfY:=zaC zfS
theorem zhC:∀d,zfY d=zfS d:=congrFun (zae zfS)
def ziB:TE:=⟨55,[.str],[],(.bool),[],zfY⟩
theorem zsJ:XO [zn6] zDk c55 [.t 2] ziB:=xq zhC fun d=>by kernel_rfl
def zfR(d:List UInt8):Option Bool:=zaa (zaa (zfY d) fun x=>zab x (zab (decide ((d.length:Int)<=8)) (zaa d[Int.toNat 0]? fun x=>zab (zaI x !=95) (zaa (zak ([[105,110,116],[116,101,120,116],[98,111,111,108],[112,97,114,116],[116,121,112,101],[107,101,121],[102,97,114],[104,105,100,100,101,110],[115,104,97,114,101,100],[110,101,101,100,115]],d)) fun x=>some !x) (some false)) (some false)) (some false)) fun x=>some x
def zdj:=zaC zfR
theorem zhB:∀d,zdj d=zfR d:=congrFun (zae zfR)
def zf3:TE:=⟨31,[.str],[],(.bool),[],zdj⟩
theorem zsI:XO [ziB,zal] zDa c31 [.t 2] zf3:=xq zhB fun d=>by kernel_rfl
def zfQ(d:Sel):Option Bool:=zaa (zaa (zdj (Sel.name d)) fun x=>zab x (zab (Sel.as d==[]) (zaa (zhA (Sel.id d,0,999999)) fun x=>zab x (zab (Sel.one d) (some true) (some (Sel.id d==0))) (some false)) (zaa (zdj (Sel.as d)) fun x=>zab x (zab (Sel.as d !=Sel.name d) (zaa (zhA (Sel.id d,0,999999)) fun x=>zab x (zab (Sel.one d) (some true) (some (Sel.id d==0))) (some false)) (some false)) (some false))) (some false)) fun x=>some x
def zfX:=zaC zfQ
theorem zhz:∀d,zfX d=zfQ d:=congrFun (zae zfQ)
def ziA:TE:=⟨70,[.st .Sel],[],(.bool),[],zfX⟩
theorem zsH:XO [zf3,zn6] zDv c70 [.t 2] ziA:=xq zhz fun d=>by kernel_rfl
def zc9(d:Sel):Option Bool:=zaa (zfX d) fun x=>some !x
def zdb:=zaC zc9
theorem ze7:∀d,zdb d=zc9 d:=congrFun (zae zc9)
def zbJ:TE:=⟨69,[.st .Sel],[],(.bool),[],zdb⟩
theorem znL:XO [ziA] zDu c69 [.t 2] zbJ:=xq ze7 fun d=>by kernel_rfl
def zcz(d:List Sel):Option Int:=zaa (zaB (fun(s:Int)=>zab (decide (s<(d.length:Int))) (gd (decide (0<=s)) (zaa d[s.toNat]? fun x=>zaa (zdb x) fun x=>zab x (some (Sum.inr (Sum.inr s))) (gd (zaH (s+1)) (some (Sum.inl (s+1)))))) (some (Sum.inr (Sum.inl s)))) 0) fun(x:Int⊕Int)=>caseS x (fun d=>some (-1)) fun r=>some r
def zcF:=zaC zcz
theorem zd8:∀d,zcF d=zcz d:=congrFun (zae zcz)
def zdZ:TE:=⟨97,[.lst (.nm .Sel),.fn 69 []],[],(.int .i64),[],zcF⟩
theorem zlQ:XO [zbJ] zDK c97 [.t 4] zdZ:=xq zd8 fun d=>by kernel_rfl
def zcy(d:List Sel):Option Bool:=zaa (zcF d) fun x=>some (decide (x>=0))
def zcE:=zaC zcy
theorem zd7:∀d,zcE d=zcy d:=congrFun (zae zcy)
def zcL:TE:=⟨68,[.lst (.nm .Sel),.fn 69 []],[],(.bool),[],zcE⟩
theorem zlP:XO [zdZ,zbJ] zDt c68 [.t 4] zcL:=xq zd7 fun d=>by kernel_rfl
def za4:Nat->List Sel×Int->Option Int|0,_=>none|n+1,d=>zaa (zab (decide (d.2>5)) (some true) (zaa (zfZ d.1) fun x=>zaa (zhD x) fun x=>zab x (some true) (zaa (zcE d.1) fun x=>some x))) fun x=>zab x (some 25) (zaa (zaB (fun(s:Int×Int)=>zab (decide (s.2<(d.1.length:Int))) (gd (decide (0<=s.2)) (zaa d.1[s.2.toNat]? fun x=>zaa (zab (decide ((↑(List.length (Sel.kids x)):Int)>0)) (gd (zaH (d.2+1)) (zaa (za4 n (Sel.kids x,d.2+1)) fun x=>gd (zaH (s.1+x)) (some (s.1+x)))) (some s.1)) fun x=>zab (decide (x>24)) (some (Sum.inr (x,s.2))) (gd (zaH (s.2+1)) (some (Sum.inl (x,s.2+1)))))) (some (Sum.inr (s.1,s.2)))) ((d.1.length:Int),0)) fun(x:Int×Int)=>some x.1)
def zgL:List Sel×Int->Option Int:=zoI za4
def zgQ(n:Nat):TE:=⟨42,[.lst (.nm .Sel),.int .i64],[],(.int .i64),[],za4 n⟩
def zkP:TE:=⟨42,[.lst (.nm .Sel),.int .i64],[],(.int .i64),[],zgL⟩
theorem zqz(n:Nat)(d:List Sel×Int):zei [zf4,zhU,zcL,zbJ,zgQ n] zCB c42 [.t 4] [.lst (.nm .Sel),.int .i64] [] (.int .i64) [] d=za4 (n+1) d:=by kernel_rfl
def za5:Nat->List Sel->Option (List UInt8)|0,_=>none|n+1,d=>zaa (zaB (fun(s:Int×List (List UInt8))=>zab (decide (s.1<(d.length:Int))) (gd (decide (0<=s.1)) (zaa d[s.1.toNat]? fun x=>zaa (zab (Sel.as x !=[]) (gd (decide (List.length (Sel.as x)+List.length [58]<=BIG)) (gd (decide (List.length (Sel.as x++[58])+List.length (Sel.name x)<=BIG)) (some (Sel.as x++[58]++Sel.name x)))) (some (Sel.name x))) fun x_1=>zaa (zab (Sel.one x) (zaa (zbv (Sel.id x)) fun x=>gd (decide (List.length [40]+List.length x<=BIG)) (gd (decide (List.length ([40]++x)+List.length [41]<=BIG)) (gd (decide (List.length x_1+List.length ([40]++x++[41])<=BIG)) (some (x_1++([40]++x++[41])))))) (some x_1)) fun x_2=>zaa (zab (decide ((↑(List.length (Sel.kids x)):Int)>0)) (zaa (za5 n (Sel.kids x)) fun x=>gd (decide (List.length x_2+List.length x<=BIG)) (some (x_2++x))) (some x_2)) fun x=>gd (decide (List.length s.2+List.length [x]<=LIM)) (gd (zaH (s.1+1)) (some (Sum.inl (s.1+1,s.2++[x])))))) (some (Sum.inr (s.1,s.2)))) (0,[])) fun(x:Int×List (List UInt8))=>zaa (zbT (x.2,[44])) fun x=>gd (decide (List.length [123]+List.length x<=BIG)) (gd (decide (List.length ([123]++x)+List.length [125]<=BIG)) (some ([123]++x++[125])))
def zeF:List Sel->Option (List UInt8):=zoI za5
def zgR(n:Nat):TE:=⟨43,[.lst (.nm .Sel)],[],(.str),[],za5 n⟩
def zg3:TE:=⟨43,[.lst (.nm .Sel)],[],(.str),[],zeF⟩
theorem zqA(n:Nat)(d:List Sel):zei [zcM,zgR n,zd0] zCC c43 [.t 2] [.lst (.nm .Sel)] [] (.str) [] d=za5 (n+1) d:=by kernel_rfl
def zhk(d:List Sel):Option Bool:=zaa (zaa (zgL (d,1)) fun x=>zaa (zhA (x,1,24)) fun x=>zab x (zaa (zeF d) fun x=>some (decide ((x.length:Int)<=400))) (some false)) fun x=>some x
def zdo:=zaC zhk
theorem zi5:∀d,zdo d=zhk d:=congrFun (zae zhk)
def zfq:TE:=⟨16,[.lst (.nm .Sel)],[],(.bool),[],zdo⟩
theorem zvc:XO [zkP,zn6,zg3] zC5 c16 [.t 2] zfq:=xq zi5 fun d=>by kernel_rfl
def zdK(d:List Sel):Option (List UInt8):=zaa (zdo d) fun x=>zab (!x) (some []) (zaa (zeF d) fun x=>some x)
def zbB:=zaC zdK
theorem zfn:∀d,zbB d=zdK d:=congrFun (zae zdK)
def zfr:TE:=⟨18,[.lst (.nm .Sel)],[],(.str),[],zbB⟩
theorem zo9:XO [zfq,zg3] zC7 c18 [.t 2] zfr:=xq zfn fun d=>by kernel_rfl
def zbU(d:List UInt8×List UInt8):Option (List UInt8×List UInt8):=zaa (zbz (d.2,d.1)) fun x=>gd (zaH ((d.2.length:Int)-(x.length:Int))) (gd (decide (0<=0)&&decide (0<=(d.2.length:Int)-(x.length:Int))&&decide ((d.2.length:Int)-(x.length:Int)<=(d.2.length:Int))) (gd (decide (0<=(↑(List.length (List.take (Int.toNat ((d.2.length:Int)-(x.length:Int))-Int.toNat 0) (List.drop (Int.toNat 0) d.2))):Int))&&decide ((↑(List.length (List.take (Int.toNat ((d.2.length:Int)-(x.length:Int))-Int.toNat 0) (List.drop (Int.toNat 0) d.2))):Int)<=(d.2.length:Int))&&decide ((d.2.length:Int)<=(d.2.length:Int))) (some (List.take (Int.toNat ((d.2.length:Int)-(x.length:Int))-Int.toNat 0) (List.drop (Int.toNat 0) d.2),List.take (Int.toNat (d.2.length:Int)-Int.toNat (↑(List.length (List.take (Int.toNat ((d.2.length:Int)-(x.length:Int))-Int.toNat 0) (List.drop (Int.toNat 0) d.2))):Int)) (List.drop (Int.toNat (↑(List.length (List.take (Int.toNat ((d.2.length:Int)-(x.length:Int))-Int.toNat 0) (List.drop (Int.toNat 0) d.2))):Int)) d.2)))))
def zat:=zaC zbU
theorem zdp:∀d,zat d=zbU d:=congrFun (zae zbU)
def zaR:TE:=⟨30,[.mpb 0 0,.str],[.box ⟨none,[some (.str,.no)]⟩ [.str]],(.str),[.box ⟨none,[some (.str,.no)]⟩ [.str]],zat⟩
theorem zjx:XO [zdO] zC9 c30 [.t 4] zaR:=xq zdp fun d=>by kernel_rfl
def zay(d:List UInt8×List UInt8):Option Bool:=zaa (zab (decide ((d.1.length:Int)>=(d.2.length:Int))) (gd (decide (0<=0)&&decide (0<=(d.2.length:Int))&&decide ((d.2.length:Int)<=(d.1.length:Int))) (some (List.take (Int.toNat (d.2.length:Int)-Int.toNat 0) (List.drop (Int.toNat 0) d.1)==d.2))) (some false)) fun x=>some x
def zaq:=zaC zay
theorem za7:∀d,zaq d=zay d:=congrFun (zae zay)
def zaA:TE:=⟨111,[.str,.str],[],(.bool),[],zaq⟩
theorem zcl:XO [] zBA zCT [.t 4] zaA:=xq za7 fun d=>by kernel_rfl
def zax(d:List UInt8×List UInt8):Option (List UInt8×Bool):=zaa (zaq (d.1,d.2)) fun x=>zab (!x) (some (d.1,false)) (gd (decide (0<=(d.2.length:Int))&&decide ((d.2.length:Int)<=(d.1.length:Int))&&decide ((d.1.length:Int)<=(d.1.length:Int))) (some (List.take (Int.toNat (d.1.length:Int)-Int.toNat (d.2.length:Int)) (List.drop (Int.toNat (d.2.length:Int)) d.1),true)))
def zaz:=zaC zax
theorem za6:∀d,zaz d=zax d:=congrFun (zae zax)
def zaS:TE:=⟨109,[.str,.str],[],(.tup [.str,.bool]),[],zaz⟩
theorem zck:XO [zaA] zBy zCR [.t 4,.t 5] zaS:=xq za6 fun d=>by kernel_rfl
def zbk(d:List UInt8×List UInt8):Option (List UInt8×Bool):=zaa (zaz (d.1,d.2)) fun(x:List UInt8×Bool)=>some (x.1,x.2)
def zbn:=zaC zbk
theorem zcn:∀d,zbn d=zbk d:=congrFun (zae zbk)
def zbY:TE:=⟨85,[.str,.str],[],(.tup [.str,.bool]),[],zbn⟩
theorem zhh:XO [zaS] zDz c85 [.t 4,.t 5] zbY:=xq zcn fun d=>by kernel_rfl
def zb5(d:List UInt8×List UInt8):Option (Bool×List UInt8):=zaa (zbn (d.2,d.1)) fun(x:List UInt8×Bool)=>some (x.2,x.1)
def zai:=zaC zb5
theorem zdM:∀d,zai d=zb5 d:=congrFun (zae zb5)
def za9:TE:=⟨57,[.mpb 0 0,.str],[.box ⟨none,[some (.str,.no)]⟩ [.str]],(.bool),[.box ⟨none,[some (.str,.no)]⟩ [.str]],zai⟩
theorem zlt:XO [zbY] zDm c57 [.t 4] za9:=xq zdM fun d=>by kernel_rfl
def zba(d:(List Int×Int×Bool)×List Pair×List (List UInt8)×List UInt8):Option (Int×(List Int×Int×Bool)×List Pair×List (List UInt8)×List UInt8):=zaa (zat ([48,49,50,51,52,53,54,55,56,57],d.2.2.2)) fun(x:List UInt8×List UInt8)=>zaa (zcG x.1) fun(x_1:Int×Bool)=>zaa (zab (x_1.2==true) (some true) (zaa (zbv x_1.1) fun x_2=>some (x_2 !=x.1))) fun x_2=>zaa (zab x_2 (some ((d.1.1,d.1.2.1,true),d.2.1,d.2.2.1,x.2)) (some ((d.1.1,d.1.2.1,d.1.2.2),d.2.1,d.2.2.1,x.2))) fun(x:(List Int×Int×Bool)×List Pair×List (List UInt8)×List UInt8)=>some (x_1.1,(x.1.1,x.1.2.1,x.1.2.2),x.2.1,x.2.2.1,x.2.2.2)
def zaV:=zaC zba
theorem zbR:∀d,zaV d=zba d:=congrFun (zae zba)
def zbw:TE:=⟨110,[.mpb 0 0,.mpb 3 0],[.box ⟨none,[none,some ((.lst .str),.no),some ((.lst (.int .i64)),.no),some ((.int .i64),.no),some (.bool,.no)]⟩ [.own 1,.own 2,.lst (.int .i64),.int .i64,.bool],.box znb [.lst (.nm .Pair)],.arr .str .no,.box ⟨none,[some (.str,.no)]⟩ [.str]],(.int .i64),[.box ⟨none,[none,some ((.lst .str),.no),some ((.lst (.int .i64)),.no),some ((.int .i64),.no),some (.bool,.no)]⟩ [.own 1,.own 2,.lst (.int .i64),.int .i64,.bool],.box znb [.lst (.nm .Pair)],.arr .str .no,.box ⟨none,[some (.str,.no)]⟩ [.str]],zaV⟩
theorem zfm:XO [zaR,zgz,zcM] zBz zCS [.t 4] zbw:=xq zbR fun d=>by kernel_rfl
def zb4(d:(List Int×Int×Bool)×List Pair×List (List UInt8)×List UInt8):Option (Int×(List Int×Int×Bool)×List Pair×List (List UInt8)×List UInt8):=zaa (zai ([36],d.2.2.2)) fun(x:Bool×List UInt8)=>zaa (zab x.1 (zaa (zaV ((d.1.1,d.1.2.1,d.1.2.2),d.2.1,d.2.2.1,x.2)) fun(x:Int×(List Int×Int×Bool)×List Pair×List (List UInt8)×List UInt8)=>gd (decide (List.length x.2.2.2.1=List.length d.2.2.1)) (zaa (zab x.2.1.2.2 (some true) (some (decide (x.1>=(x.2.1.1.length:Int))))) fun x_1=>zaa (zab x_1 (some (0,(x.2.1.1,x.2.1.2.1,true),x.2.2.1,x.2.2.2.1,x.2.2.2.2)) (gd (decide (0<=x.1)) (zaa x.2.1.1[x.1.toNat]? fun x_2=>some (x_2,(x.2.1.1,x.2.1.2.1,x.2.1.2.2),x.2.2.1,x.2.2.2.1,x.2.2.2.2)))) fun(x:Int×(List Int×Int×Bool)×List Pair×List (List UInt8)×List UInt8)=>some (x.1,(x.2.1.1,x.2.1.2.1,x.2.1.2.2),x.2.2.1,x.2.2.2.1,x.2.2.2.2))) (zaa (zaV ((d.1.1,d.1.2.1,d.1.2.2),d.2.1,d.2.2.1,x.2)) fun(x:Int×(List Int×Int×Bool)×List Pair×List (List UInt8)×List UInt8)=>gd (decide (List.length x.2.2.2.1=List.length d.2.2.1)) (some (x.1,(x.2.1.1,x.2.1.2.1,x.2.1.2.2),x.2.2.1,x.2.2.2.1,x.2.2.2.2)))) fun(x:Int×(List Int×Int×Bool)×List Pair×List (List UInt8)×List UInt8)=>zaa (zai ([41],x.2.2.2.2)) fun(x_1:Bool×List UInt8)=>zaa (zab (!x_1.1) (some ((x.2.1.1,x.2.1.2.1,true),x.2.2.1,x.2.2.2.1,x_1.2)) (some ((x.2.1.1,x.2.1.2.1,x.2.1.2.2),x.2.2.1,x.2.2.2.1,x_1.2))) fun(x_2:(List Int×Int×Bool)×List Pair×List (List UInt8)×List UInt8)=>some (x.1,(x_2.1.1,x_2.1.2.1,x_2.1.2.2),x_2.2.1,x_2.2.2.1,x_2.2.2.2)
def zb8:=zaC zb4
theorem zdL:∀d,zb8 d=zb4 d:=congrFun (zae zb4)
def zcd:TE:=⟨86,[.mpb 0 0,.mpb 3 0],[.box ⟨none,[none,some ((.lst .str),.no),some ((.lst (.int .i64)),.no),some ((.int .i64),.no),some (.bool,.no)]⟩ [.own 1,.own 2,.lst (.int .i64),.int .i64,.bool],.box znb [.lst (.nm .Pair)],.arr .str .no,.box ⟨none,[some (.str,.no)]⟩ [.str]],(.int .i64),[.box ⟨none,[none,some ((.lst .str),.no),some ((.lst (.int .i64)),.no),some ((.int .i64),.no),some (.bool,.no)]⟩ [.own 1,.own 2,.lst (.int .i64),.int .i64,.bool],.box znb [.lst (.nm .Pair)],.arr .str .no,.box ⟨none,[some (.str,.no)]⟩ [.str]],zb8⟩
theorem zls:XO [za9,zbw] zDA c86 [.t 4] zcd:=xq zdL fun d=>by kernel_rfl
def zbl(d:List UInt8×List UInt8):Option Bool:=zaa (zaq (d.1,d.2)) fun x=>some x
def zbo:=zaC zbl
theorem zco:∀d,zbo d=zbl d:=congrFun (zae zbl)
def zbq:TE:=⟨87,[.str,.str],[],(.bool),[],zbo⟩
theorem zhi:XO [zaA] zDB c87 [.t 4] zbq:=xq zco fun d=>by kernel_rfl
mutual
def zav:Nat->Int×(List Int×Int×Bool)×List Pair×List (List UInt8)×List UInt8->Option ((List Int×Int×Bool)×List Pair×List UInt8×List Sel×List (List UInt8))|0,_=>none|n+1,d=>zaa (zat ([97,98,99,100,101,102,103,104,105,106,107,108,109,110,111,112,113,114,115,116,117,118,119,120,121,122,95,48,49,50,51,52,53,54,55,56,57],d.2.2.2.2)) fun(x:List UInt8×List UInt8)=>zaa (zab (!zAy x.1 d.2.2.1) (some (true,(d.2.1.1,d.2.1.2.1,d.2.1.2.2),d.2.2.1,x.2,d.2.2.2.1)) (zaa (zak (d.2.2.2.1,x.1)) fun x_1=>some (x_1,(d.2.1.1,d.2.1.2.1,d.2.1.2.2),d.2.2.1,x.2,d.2.2.2.1))) fun(x_1:Bool×(List Int×Int×Bool)×List Pair×List UInt8×List (List UInt8))=>zab x_1.1 (some ((x_1.2.1.1,x_1.2.1.2.1,true),x_1.2.2.1,x_1.2.2.2.1,[],x_1.2.2.2.2)) (gd (decide (List.length x_1.2.2.2.2+List.length [x.1]<=LIM)) (zaa (zad n (d.1,(x_1.2.1.1,x_1.2.1.2.1,x_1.2.1.2.2),x_1.2.2.1,x_1.2.2.2.2++[x.1],zBg x.1 d.2.2.1)) fun(x:(List Int×Int×Bool)×List Pair×List UInt8×List Sel×List (List UInt8))=>zaa (zab x.1.2.2 (some ((x.1.1,x.1.2.1,true),x.2.1,x_1.2.2.2.1,x.2.2.2.1,x.2.2.2.2)) (some ((x.1.1,x.1.2.1,x.2.2.1 !=[]),x.2.1,x_1.2.2.2.1,x.2.2.2.1,x.2.2.2.2))) fun(x:(List Int×Int×Bool)×List Pair×List UInt8×List Sel×List (List UInt8))=>gd (zaH ((x.2.2.2.2.length:Int)-1)) (gd (decide (0<=0)&&decide (0<=(x.2.2.2.2.length:Int)-1)&&decide ((x.2.2.2.2.length:Int)-1<=(x.2.2.2.2.length:Int))) (some ((x.1.1,x.1.2.1,x.1.2.2),x.2.1,x.2.2.1,x.2.2.2.1,List.take (Int.toNat ((x.2.2.2.2.length:Int)-1)-Int.toNat 0) x.2.2.2.2)))))
def zar:Nat->Int×(List Int×Int×Bool)×List Pair×List (List UInt8)×List UInt8->Option ((List UInt8×List UInt8×Bool×Int)×(List Int×Int×Bool)×List Pair×List UInt8×List Sel×List (List UInt8))|0,_=>none|n+1,d=>zaa (zat ([97,98,99,100,101,102,103,104,105,106,107,108,109,110,111,112,113,114,115,116,117,118,119,120,121,122,95,48,49,50,51,52,53,54,55,56,57],d.2.2.2.2)) fun(x:List UInt8×List UInt8)=>zaa (zai ([58],x.2)) fun(x_1:Bool×List UInt8)=>zaa (zab x_1.1 (zaa (zat ([97,98,99,100,101,102,103,104,105,106,107,108,109,110,111,112,113,114,115,116,117,118,119,120,121,122,95,48,49,50,51,52,53,54,55,56,57],x_1.2)) fun(x_2:List UInt8×List UInt8)=>zaa (zab d.2.1.2.2 (some ((d.2.1.1,d.2.1.2.1,true),d.2.2.1,x_2.2,([],[],false,0),[],(x.1,x_2.1,false,0),[],d.2.2.2.1)) (some ((d.2.1.1,d.2.1.2.1,x.1==[]),d.2.2.1,x_2.2,([],[],false,0),[],(x.1,x_2.1,false,0),[],d.2.2.2.1))) fun(x:(List Int×Int×Bool)×List Pair×List UInt8×(List UInt8×List UInt8×Bool×Int)×List Sel×(List UInt8×List UInt8×Bool×Int)×List Sel×List (List UInt8))=>some ((x.1.1,x.1.2.1,x.1.2.2),x.2.1,x.2.2.1,(x.2.2.2.1.1,x.2.2.2.1.2.1,x.2.2.2.1.2.2.1,x.2.2.2.1.2.2.2),x.2.2.2.2.1,(x.2.2.2.2.2.1.1,x.2.2.2.2.2.1.2.1,x.2.2.2.2.2.1.2.2.1,x.2.2.2.2.2.1.2.2.2),x.2.2.2.2.2.2.1,x.2.2.2.2.2.2.2)) (some ((d.2.1.1,d.2.1.2.1,d.2.1.2.2),d.2.2.1,x_1.2,([],[],false,0),[],([],x.1,false,0),[],d.2.2.2.1))) fun(x:(List Int×Int×Bool)×List Pair×List UInt8×(List UInt8×List UInt8×Bool×Int)×List Sel×(List UInt8×List UInt8×Bool×Int)×List Sel×List (List UInt8))=>zaa (zab x.1.2.2 (some ((x.1.1,x.1.2.1,true),x.2.1,x.2.2.1,(x.2.2.2.1.1,x.2.2.2.1.2.1,x.2.2.2.1.2.2.1,x.2.2.2.1.2.2.2),x.2.2.2.2.1,(x.2.2.2.2.2.1.1,x.2.2.2.2.2.1.2.1,x.2.2.2.2.2.1.2.2.1,x.2.2.2.2.2.1.2.2.2),x.2.2.2.2.2.2.1,x.2.2.2.2.2.2.2)) (some ((x.1.1,x.1.2.1,x.2.2.2.2.2.1.2.1==[]),x.2.1,x.2.2.1,(x.2.2.2.1.1,x.2.2.2.1.2.1,x.2.2.2.1.2.2.1,x.2.2.2.1.2.2.2),x.2.2.2.2.1,(x.2.2.2.2.2.1.1,x.2.2.2.2.2.1.2.1,x.2.2.2.2.2.1.2.2.1,x.2.2.2.2.2.1.2.2.2),x.2.2.2.2.2.2.1,x.2.2.2.2.2.2.2))) fun(x:(List Int×Int×Bool)×List Pair×List UInt8×(List UInt8×List UInt8×Bool×Int)×List Sel×(List UInt8×List UInt8×Bool×Int)×List Sel×List (List UInt8))=>zaa (zai ([40],x.2.2.1)) fun(x_2:Bool×List UInt8)=>zaa (zab x_2.1 (zaa (zb8 ((x.1.1,x.1.2.1,x.1.2.2),x.2.1,x.2.2.2.2.2.2.2,x_2.2)) fun(x_3:Int×(List Int×Int×Bool)×List Pair×List (List UInt8)×List UInt8)=>gd (decide (List.length x_3.2.2.2.1=List.length x.2.2.2.2.2.2.2)) (some ((x_3.2.1.1,x_3.2.1.2.1,x_3.2.1.2.2),x_3.2.2.1,x_3.2.2.2.2,(x.2.2.2.1.1,x.2.2.2.1.2.1,x.2.2.2.1.2.2.1,x.2.2.2.1.2.2.2),x.2.2.2.2.1,(x.2.2.2.2.2.1.1,x.2.2.2.2.2.1.2.1,true,x_3.1),x.2.2.2.2.2.2.1,x_3.2.2.2.1))) (some ((x.1.1,x.1.2.1,x.1.2.2),x.2.1,x_2.2,(x.2.2.2.1.1,x.2.2.2.1.2.1,x.2.2.2.1.2.2.1,x.2.2.2.1.2.2.2),x.2.2.2.2.1,(x.2.2.2.2.2.1.1,x.2.2.2.2.2.1.2.1,x.2.2.2.2.2.1.2.2.1,x.2.2.2.2.2.1.2.2.2),x.2.2.2.2.2.2.1,x.2.2.2.2.2.2.2))) fun(x:(List Int×Int×Bool)×List Pair×List UInt8×(List UInt8×List UInt8×Bool×Int)×List Sel×(List UInt8×List UInt8×Bool×Int)×List Sel×List (List UInt8))=>zaa (zab (!x.1.2.2) (zaa (zbo (x.2.2.1,[123])) fun x_3=>some (x_3,(x.1.1,x.1.2.1,x.1.2.2),x.2.1,x.2.2.1,(x.2.2.2.1.1,x.2.2.2.1.2.1,x.2.2.2.1.2.2.1,x.2.2.2.1.2.2.2),x.2.2.2.2.1,(x.2.2.2.2.2.1.1,x.2.2.2.2.2.1.2.1,x.2.2.2.2.2.1.2.2.1,x.2.2.2.2.2.1.2.2.2),x.2.2.2.2.2.2.1,x.2.2.2.2.2.2.2)) (some (false,(x.1.1,x.1.2.1,x.1.2.2),x.2.1,x.2.2.1,(x.2.2.2.1.1,x.2.2.2.1.2.1,x.2.2.2.1.2.2.1,x.2.2.2.1.2.2.2),x.2.2.2.2.1,(x.2.2.2.2.2.1.1,x.2.2.2.2.2.1.2.1,x.2.2.2.2.2.1.2.2.1,x.2.2.2.2.2.1.2.2.2),x.2.2.2.2.2.2.1,x.2.2.2.2.2.2.2))) fun(x:Bool×(List Int×Int×Bool)×List Pair×List UInt8×(List UInt8×List UInt8×Bool×Int)×List Sel×(List UInt8×List UInt8×Bool×Int)×List Sel×List (List UInt8))=>zaa (zab x.1 (gd (zaH (d.1+1)) (zaa (zad n (d.1+1,(x.2.1.1,x.2.1.2.1,x.2.1.2.2),x.2.2.1,x.2.2.2.2.2.2.2.2,x.2.2.2.1)) fun(x_3:(List Int×Int×Bool)×List Pair×List UInt8×List Sel×List (List UInt8))=>some ((x_3.1.1,x_3.1.2.1,x_3.1.2.2),x_3.2.1,x_3.2.2.1,(x.2.2.2.2.1.1,x.2.2.2.2.1.2.1,x.2.2.2.2.1.2.2.1,x.2.2.2.2.1.2.2.2),x.2.2.2.2.2.1,(x.2.2.2.2.2.2.1.1,x.2.2.2.2.2.2.1.2.1,x.2.2.2.2.2.2.1.2.2.1,x.2.2.2.2.2.2.1.2.2.2),x_3.2.2.2.1,x_3.2.2.2.2))) (some ((x.2.1.1,x.2.1.2.1,x.2.1.2.2),x.2.2.1,x.2.2.2.1,(x.2.2.2.2.1.1,x.2.2.2.2.1.2.1,x.2.2.2.2.1.2.2.1,x.2.2.2.2.1.2.2.2),x.2.2.2.2.2.1,(x.2.2.2.2.2.2.1.1,x.2.2.2.2.2.2.1.2.1,x.2.2.2.2.2.2.1.2.2.1,x.2.2.2.2.2.2.1.2.2.2),x.2.2.2.2.2.2.2.1,x.2.2.2.2.2.2.2.2))) fun(x:(List Int×Int×Bool)×List Pair×List UInt8×(List UInt8×List UInt8×Bool×Int)×List Sel×(List UInt8×List UInt8×Bool×Int)×List Sel×List (List UInt8))=>some ((x.2.2.2.2.2.1.1,x.2.2.2.2.2.1.2.1,x.2.2.2.2.2.1.2.2.1,x.2.2.2.2.2.1.2.2.2),(x.1.1,x.1.2.1,x.1.2.2),x.2.1,x.2.2.1,x.2.2.2.2.2.2.1,x.2.2.2.2.2.2.2)
def zad:Nat->Int×(List Int×Int×Bool)×List Pair×List (List UInt8)×List UInt8->Option ((List Int×Int×Bool)×List Pair×List UInt8×List Sel×List (List UInt8))|0,_=>none|n+1,d=>zaa (zab (decide (d.1>5)) (some (true,(d.2.1.1,d.2.1.2.1,d.2.1.2.2),d.2.2.1,d.2.2.2.2,d.2.2.2.1)) (zaa (zai ([123],d.2.2.2.2)) fun(x:Bool×List UInt8)=>some (!x.1,(d.2.1.1,d.2.1.2.1,d.2.1.2.2),d.2.2.1,x.2,d.2.2.2.1))) fun(x:Bool×(List Int×Int×Bool)×List Pair×List UInt8×List (List UInt8))=>zab x.1 (some ((x.2.1.1,x.2.1.2.1,true),x.2.2.1,x.2.2.2.1,[],x.2.2.2.2)) (zaa (zaB (fun(s:(List Int×Int×Bool)×List Pair×List UInt8×List Sel×List (List UInt8))=>zab (!s.1.2.2) (gd (zaH (s.1.2.1+1)) (zab (decide (s.1.2.1+1>48)) (some (Sum.inr (Sum.inr ((s.1.1,s.1.2.1+1,true),s.2.1,s.2.2.1,[],s.2.2.2.2)))) (zaa (zai ([64],s.2.2.1)) fun(x:Bool×List UInt8)=>zaa (zab x.1 (zaa (zav n (d.1,(s.1.1,s.1.2.1+1,s.1.2.2),s.2.1,s.2.2.2.2,x.2)) fun(x:(List Int×Int×Bool)×List Pair×List UInt8×List Sel×List (List UInt8))=>gd (decide (List.length s.2.2.2.1+List.length x.2.2.2.1<=LIM)) (some ((x.1.1,x.1.2.1,x.1.2.2),x.2.1,x.2.2.1,s.2.2.2.1++x.2.2.2.1,x.2.2.2.2))) (zaa (zar n (d.1,(s.1.1,s.1.2.1+1,s.1.2.2),s.2.1,s.2.2.2.2,x.2)) fun(x:(List UInt8×List UInt8×Bool×Int)×(List Int×Int×Bool)×List Pair×List UInt8×List Sel×List (List UInt8))=>gd (decide (List.length s.2.2.2.1+List.length [Sel.mk x.1.1 x.1.2.1 x.1.2.2.1 x.1.2.2.2 x.2.2.2.2.1]<=LIM)) (some ((x.2.1.1,x.2.1.2.1,x.2.1.2.2),x.2.2.1,x.2.2.2.1,s.2.2.2.1++[Sel.mk x.1.1 x.1.2.1 x.1.2.2.1 x.1.2.2.2 x.2.2.2.2.1],x.2.2.2.2.2)))) fun(x:(List Int×Int×Bool)×List Pair×List UInt8×List Sel×List (List UInt8))=>zaa (zai ([125],x.2.2.1)) fun(x_1:Bool×List UInt8)=>zab x_1.1 (some (Sum.inr (Sum.inr ((x.1.1,x.1.2.1,x.1.2.2),x.2.1,x_1.2,x.2.2.2.1,x.2.2.2.2)))) (zaa (zai ([44],x_1.2)) fun(x_2:Bool×List UInt8)=>zaa (zab (!x_2.1) (some ((x.1.1,x.1.2.1,true),x.2.1,x_2.2,x.2.2.2.1,x.2.2.2.2)) (some ((x.1.1,x.1.2.1,x.1.2.2),x.2.1,x_2.2,x.2.2.2.1,x.2.2.2.2))) fun(x:(List Int×Int×Bool)×List Pair×List UInt8×List Sel×List (List UInt8))=>some (Sum.inl ((x.1.1,x.1.2.1,x.1.2.2),x.2.1,x.2.2.1,x.2.2.2.1,x.2.2.2.2)))))) (some (Sum.inr (Sum.inl ((s.1.1,s.1.2.1,s.1.2.2),s.2.1,s.2.2.1,s.2.2.2.1,s.2.2.2.2))))) ((x.2.1.1,x.2.1.2.1,x.2.1.2.2),x.2.2.1,x.2.2.2.1,[],x.2.2.2.2)) fun(x:(List Int×Int×Bool)×List Pair×List UInt8×List Sel×List (List UInt8)⊕(List Int×Int×Bool)×List Pair×List UInt8×List Sel×List (List UInt8))=>caseS x (fun d=>some ((d.1.1,d.1.2.1,d.1.2.2),d.2.1,d.2.2.1,[],d.2.2.2.2)) fun r=>some r)
end
def zce(n:Nat):TE:=⟨58,[.mpb 0 0,.mpb 3 0,.int .i64],[.box ⟨none,[none,some ((.lst .str),.no),some ((.lst (.int .i64)),.no),some ((.int .i64),.no),some (.bool,.no)]⟩ [.own 1,.own 2,.lst (.int .i64),.int .i64,.bool],.box znb [.lst (.nm .Pair)],.arr .str .no,.box ⟨none,[some (.str,.no)]⟩ [.str]],(.own 4),[.box ⟨none,[none,some ((.lst .str),.no),some ((.lst (.int .i64)),.no),some ((.int .i64),.no),some (.bool,.no)]⟩ [.own 1,.own 5,.lst (.int .i64),.int .i64,.bool],.box znb [.lst (.nm .Pair)],.dead,.box ⟨none,[some (.str,.no)]⟩ [.str],.arr (.nm .Sel) .all,.arr .str .no],zav n⟩
def zcc(n:Nat):TE:=⟨59,[.mpb 0 0,.mpb 3 0,.int .i64],[.box ⟨none,[none,some ((.lst .str),.no),some ((.lst (.int .i64)),.no),some ((.int .i64),.no),some (.bool,.no)]⟩ [.own 1,.own 2,.lst (.int .i64),.int .i64,.bool],.box znb [.lst (.nm .Pair)],.arr .str .no,.box ⟨none,[some (.str,.no)]⟩ [.str]],(.agg [.str,.str,.bool,.int .i64,.own 4]),[.box ⟨none,[none,some ((.lst .str),.no),some ((.lst (.int .i64)),.no),some ((.int .i64),.no),some (.bool,.no)]⟩ [.own 1,.own 5,.lst (.int .i64),.int .i64,.bool],.box znb [.lst (.nm .Pair)],.dead,.box ⟨none,[some (.str,.no)]⟩ [.str],.arr (.nm .Sel) .all,.arr .str .no],zar n⟩
def zbX:Int×(List Int×Int×Bool)×List Pair×List (List UInt8)×List UInt8->Option ((List Int×Int×Bool)×List Pair×List UInt8×List Sel×List (List UInt8)):=zoI zad
def za8(n:Nat):TE:=⟨32,[.mpb 0 0,.mpb 3 0,.int .i64],[.box ⟨none,[none,some ((.lst .str),.no),some ((.lst (.int .i64)),.no),some ((.int .i64),.no),some (.bool,.no)]⟩ [.own 1,.own 2,.lst (.int .i64),.int .i64,.bool],.box znb [.lst (.nm .Pair)],.arr .str .no,.box ⟨none,[some (.str,.no)]⟩ [.str]],(.own 4),[.box ⟨none,[none,some ((.lst .str),.no),some ((.lst (.int .i64)),.no),some ((.int .i64),.no),some (.bool,.no)]⟩ [.own 1,.own 5,.lst (.int .i64),.int .i64,.bool],.box znb [.lst (.nm .Pair)],.dead,.box ⟨none,[some (.str,.no)]⟩ [.str],.arr (.nm .Sel) .all,.arr .str .no],zad n⟩
def zdD:TE:=⟨32,[.mpb 0 0,.mpb 3 0,.int .i64],[.box ⟨none,[none,some ((.lst .str),.no),some ((.lst (.int .i64)),.no),some ((.int .i64),.no),some (.bool,.no)]⟩ [.own 1,.own 2,.lst (.int .i64),.int .i64,.bool],.box znb [.lst (.nm .Pair)],.arr .str .no,.box ⟨none,[some (.str,.no)]⟩ [.str]],(.own 4),[.box ⟨none,[none,some ((.lst .str),.no),some ((.lst (.int .i64)),.no),some ((.int .i64),.no),some (.bool,.no)]⟩ [.own 1,.own 5,.lst (.int .i64),.int .i64,.bool],.box znb [.lst (.nm .Pair)],.dead,.box ⟨none,[some (.str,.no)]⟩ [.str],.arr (.nm .Sel) .all,.arr .str .no],zbX⟩
theorem zio(n:Nat)(d:Int×(List Int×Int×Bool)×List Pair×List (List UInt8)×List UInt8):zei [zaR,zal,za8 n] zCF c58 [.t 6] [.mpb 0 0,.mpb 3 0,.int .i64] [.box ⟨none,[none,some ((.lst .str),.no),some ((.lst (.int .i64)),.no),some ((.int .i64),.no),some (.bool,.no)]⟩ [.own 1,.own 2,.lst (.int .i64),.int .i64,.bool],.box znb [.lst (.nm .Pair)],.arr .str .no,.box ⟨none,[some (.str,.no)]⟩ [.str]] (.own 4) [.box ⟨none,[none,some ((.lst .str),.no),some ((.lst (.int .i64)),.no),some ((.int .i64),.no),some (.bool,.no)]⟩ [.own 1,.own 5,.lst (.int .i64),.int .i64,.bool],.box znb [.lst (.nm .Pair)],.dead,.box ⟨none,[some (.str,.no)]⟩ [.str],.arr (.nm .Sel) .all,.arr .str .no] d=zav (n+1) d:=by kernel_rfl
theorem zin(n:Nat)(d:Int×(List Int×Int×Bool)×List Pair×List (List UInt8)×List UInt8):zei [zaR,za9,zcd,zbq,za8 n] zCG c59 [.c 6 (some 5)] [.mpb 0 0,.mpb 3 0,.int .i64] [.box ⟨none,[none,some ((.lst .str),.no),some ((.lst (.int .i64)),.no),some ((.int .i64),.no),some (.bool,.no)]⟩ [.own 1,.own 2,.lst (.int .i64),.int .i64,.bool],.box znb [.lst (.nm .Pair)],.arr .str .no,.box ⟨none,[some (.str,.no)]⟩ [.str]] (.agg [.str,.str,.bool,.int .i64,.own 4]) [.box ⟨none,[none,some ((.lst .str),.no),some ((.lst (.int .i64)),.no),some ((.int .i64),.no),some (.bool,.no)]⟩ [.own 1,.own 5,.lst (.int .i64),.int .i64,.bool],.box znb [.lst (.nm .Pair)],.dead,.box ⟨none,[some (.str,.no)]⟩ [.str],.arr (.nm .Sel) .all,.arr .str .no] d=zar (n+1) d:=by kernel_rfl
theorem zhg(n:Nat)(d:Int×(List Int×Int×Bool)×List Pair×List (List UInt8)×List UInt8):zei [za9,zce n,zcc n] zCz c32 [.t 6] [.mpb 0 0,.mpb 3 0,.int .i64] [.box ⟨none,[none,some ((.lst .str),.no),some ((.lst (.int .i64)),.no),some ((.int .i64),.no),some (.bool,.no)]⟩ [.own 1,.own 2,.lst (.int .i64),.int .i64,.bool],.box znb [.lst (.nm .Pair)],.arr .str .no,.box ⟨none,[some (.str,.no)]⟩ [.str]] (.own 4) [.box ⟨none,[none,some ((.lst .str),.no),some ((.lst (.int .i64)),.no),some ((.int .i64),.no),some (.bool,.no)]⟩ [.own 1,.own 5,.lst (.int .i64),.int .i64,.bool],.box znb [.lst (.nm .Pair)],.dead,.box ⟨none,[some (.str,.no)]⟩ [.str],.arr (.nm .Sel) .all,.arr .str .no] d=zad (n+1) d:=by kernel_rfl
def zb3(d:List UInt8×List Int):Option (Bool×List Sel):=zaa (zcb (d.1,[59])) fun x=>zaa (zab (decide ((d.1.length:Int)>400)) (some true) (gd (zaH ((x.length:Int)-1)) (some (decide ((x.length:Int)-1>6))))) fun x_1=>zab x_1 (some (false,[])) (gd (decide (0<=1)&&decide (1<=(x.length:Int))&&decide ((x.length:Int)<=(x.length:Int))) (zaa (zaB (fun(s:Int×(List Int×Int×Bool)×List Pair×List (List UInt8))=>zab (decide (s.1<(↑(List.length (List.take (Int.toNat (x.length:Int)-Int.toNat 1) (List.drop (Int.toNat 1) x))):Int))) (gd (decide (0<=s.1)) (zaa (List.take (Int.toNat (x.length:Int)-Int.toNat 1) (List.drop (Int.toNat 1) x))[s.1.toNat]? fun x=>zaa (zat ([97,98,99,100,101,102,103,104,105,106,107,108,109,110,111,112,113,114,115,116,117,118,119,120,121,122,95,48,49,50,51,52,53,54,55,56,57],x)) fun(x:List UInt8×List UInt8)=>zaa (zab (zAy x.1 s.2.2.1) (some true) (zaa (zdj x.1) fun x=>some !x)) fun x_2=>zab x_2 (some (Sum.inr (Sum.inr (false,[])))) (gd (!zAy x.1 s.2.2.1) (gd (zaH (s.1+1)) (some (Sum.inl (s.1+1,(s.2.1.1,s.2.1.2.1,s.2.1.2.2),s.2.2.1++[(⟨x.1,x.2⟩:Pair)],s.2.2.2))))))) (some (Sum.inr (Sum.inl (s.1,(s.2.1.1,s.2.1.2.1,s.2.1.2.2),s.2.2.1,s.2.2.2))))) (0,(d.2,0,false),[],[])) fun(x_2:Int×(List Int×Int×Bool)×List Pair×List (List UInt8)⊕Bool×List Sel)=>caseS x_2 (fun d=>zaa x[Int.toNat 0]? fun x=>zaa (zbX (1,(d.2.1.1,d.2.1.2.1,d.2.1.2.2),d.2.2.1,d.2.2.2,x)) fun(x:(List Int×Int×Bool)×List Pair×List UInt8×List Sel×List (List UInt8))=>zaa (zab x.1.2.2 (some (true,x.2.2.2.1)) (zab (x.2.2.1 !=[]) (some (true,x.2.2.2.1)) (zaa (zdo x.2.2.2.1) fun x_3=>some (!x_3,x.2.2.2.1)))) fun(x:Bool×List Sel)=>zab x.1 (some (false,[])) (some (true,x.2))) fun r=>some r))
def zb7:=zaC zb3
theorem zcZ:∀d,zb7 d=zb3 d:=congrFun (zae zb3)
def zeJ:TE:=⟨9,[.str,.lst (.int .i64)],[],(.tup [.own 0,.bool]),[.arr (.nm .Sel) .all],zb7⟩
theorem znJ:XO [zft,zaR,zf3,zdD,zfq] cy9 c9 [.t 4,.t 5] zeJ:=xq zcZ fun d=>by kernel_rfl
def zvv(d:List UInt8×Int×Int×Bool):Option (List UInt8×List UInt8×Int×Int×Bool):=zaa (zaB (fun(s:List UInt8×Int×Int×Bool)=>zaa (zab (decide (s.2.1<(s.1.length:Int))) (gd (decide (0<=s.2.1)) (zaa s.1[s.2.1.toNat]? fun x=>zab (decide (zaI x>=97)) (gd (decide (0<=s.2.1)) (zaa s.1[s.2.1.toNat]? fun x=>zab (decide (zaI x<=122)) (some true) (gd (decide (0<=s.2.1)) (zaa s.1[s.2.1.toNat]? fun x=>zab (decide (zaI x>=48)) (gd (decide (0<=s.2.1)) (zaa s.1[s.2.1.toNat]? fun x=>zab (decide (zaI x<=57)) (some true) (gd (decide (0<=s.2.1)) (zaa s.1[s.2.1.toNat]? fun x=>some (zaI x==95))))) (gd (decide (0<=s.2.1)) (zaa s.1[s.2.1.toNat]? fun x=>some (zaI x==95))))))) (gd (decide (0<=s.2.1)) (zaa s.1[s.2.1.toNat]? fun x=>zab (decide (zaI x>=48)) (gd (decide (0<=s.2.1)) (zaa s.1[s.2.1.toNat]? fun x=>zab (decide (zaI x<=57)) (some true) (gd (decide (0<=s.2.1)) (zaa s.1[s.2.1.toNat]? fun x=>some (zaI x==95))))) (gd (decide (0<=s.2.1)) (zaa s.1[s.2.1.toNat]? fun x=>some (zaI x==95))))))) (some false)) fun x=>zab x (gd (zaH (s.2.1+1)) (some (Sum.inl (s.1,s.2.1+1,s.2.2.1,s.2.2.2)))) (some (Sum.inr (s.1,s.2.1,s.2.2.1,s.2.2.2)))) (d.1,d.2.1,d.2.2.1,d.2.2.2)) fun(x:List UInt8×Int×Int×Bool)=>gd (decide (0<=d.2.1)&&decide (d.2.1<=x.2.1)&&decide (x.2.1<=(x.1.length:Int))) (some (List.take (x.2.1.toNat-d.2.1.toNat) (List.drop (d.2.1.toNat) x.1),x.1,x.2.1,x.2.2.1,x.2.2.2))
def zjI:=zaC zvv
def zju(d:List UInt8×(List Int×Int×Bool)×List (List UInt8)×List (List UInt8)):Option (Int×(List Int×Int×Bool)×List (List UInt8)×List (List UInt8)):=zaa (zaB (fun(s:Int)=>zab (decide (s<(d.2.2.1.length:Int))) (gd (decide (0<=s)&&decide (s<(d.2.2.1.length:Int))) (zaa d.2.2.1[s.toNat]? fun x=>zab (x==d.1) (some (Sum.inr (Sum.inr (s,(d.2.1.1,d.2.1.2.1,d.2.1.2.2),d.2.2.1,d.2.2.2)))) (gd (zaH (s+1)) (some (Sum.inl (s+1)))))) (some (Sum.inr (Sum.inl s)))) 0) fun(x:Int⊕Int×(List Int×Int×Bool)×List (List UInt8)×List (List UInt8))=>caseS x (fun d_1=>some (-1,(d.2.1.1,d.2.1.2.1,d.2.1.2.2),d.2.2.1,d.2.2.2)) fun r=>some r
def zjv:=zaC zju
def zjX(d:List UInt8×List UInt8×Int×Int×Bool):Option (Bool×List UInt8×Int×Int×Bool):=zaa (gd (zaH ((d.2.1.length:Int)-d.2.2.1)) (zab (decide ((d.2.1.length:Int)-d.2.2.1<(d.1.length:Int))) (some true) (gd (zaH (d.2.2.1+(d.1.length:Int))) (gd (decide (0<=d.2.2.1)&&decide (d.2.2.1<=d.2.2.1+(d.1.length:Int))&&decide (d.2.2.1+(d.1.length:Int)<=(d.2.1.length:Int))) (some (List.take (Int.toNat (d.2.2.1+(d.1.length:Int))-d.2.2.1.toNat) (List.drop (d.2.2.1.toNat) d.2.1) !=d.1)))))) fun x=>zab x (some (false,d.2.1,d.2.2.1,d.2.2.2.1,d.2.2.2.2)) (gd (zaH (d.2.2.1+(d.1.length:Int))) (some (true,d.2.1,d.2.2.1+(d.1.length:Int),d.2.2.2.1,d.2.2.2.2)))
def zaO:=zaC zjX
def zxL(d:List (List UInt8)×List UInt8):Option Bool:=zaa (zaB (fun(s:Int)=>zab (decide (s<(d.1.length:Int))) (gd (decide (0<=s)) (zaa d.1[s.toNat]? fun x=>zab (x==d.2) (some (Sum.inr (Sum.inr true))) (gd (zaH (s+1)) (some (Sum.inl (s+1)))))) (some (Sum.inr (Sum.inl s)))) 0) fun(x:Int⊕Bool)=>caseS x (fun d=>some false) fun r=>some r
def zxN:=zaC zxL
def zxM(d:List UInt8):Option (Int×Bool):=zaa (zab (decide ((d.length:Int)>1)) (zaa d[Int.toNat 0]? fun x=>some (zaI x==45)) (some false)) fun x=>zaa (zab x (gd (decide (0<=1)&&decide (1<=(d.length:Int))&&decide ((d.length:Int)<=(d.length:Int))) (some (List.take (Int.toNat (d.length:Int)-Int.toNat 1) (List.drop (Int.toNat 1) d)))) (some d)) fun x_1=>zaa (zaa (zc4 ((x_1.length:Int),1,6)) fun x_2=>zab (!x_2) (some true) (zab (decide ((x_1.length:Int)>1)) (zaa x_1[Int.toNat 0]? fun x_3=>zab (zaI x_3==48) (some true) (zab x (some (x_1==[48])) (some false))) (zab x (some (x_1==[48])) (some false)))) fun x_2=>zab x_2 (some (0,false)) (zaa (zaB (fun(s:Int×Int)=>zab (decide (s.2<(x_1.length:Int))) (zaa (gd (decide (0<=s.2)) (zaa x_1[s.2.toNat]? fun x=>zab (decide (zaI x<48)) (some true) (gd (decide (0<=s.2)) (zaa x_1[s.2.toNat]? fun x=>some (decide (zaI x>57)))))) fun x=>zab x (some (Sum.inr (Sum.inr (0,false)))) (gd (zaH (s.1*10)) (gd (decide (0<=s.2)) (zaa x_1[s.2.toNat]? fun x=>gd (zaH (s.1*10+IntKind.wrap IntKind.i64 (IntKind.wrap IntKind.u8 (zaI x-48)))) (gd (zaH (s.2+1)) (some (Sum.inl (s.1*10+IntKind.wrap IntKind.i64 (IntKind.wrap IntKind.u8 (zaI x-48)),s.2+1)))))))) (some (Sum.inr (Sum.inl (s.1,s.2))))) (0,0)) fun(x_3:Int×Int⊕Int×Bool)=>caseS x_3 (fun d=>zab x (gd (zaH (0-d.1)) (some (0-d.1,true))) (some (d.1,true))) fun r=>some r)
def zxO:=zaC zxM
def zir(d:(List Int×Int×Bool)×List (List UInt8)×List (List UInt8)×List UInt8×Int×Int×Bool):Option (Int×(List Int×Int×Bool)×List (List UInt8)×List (List UInt8)×List UInt8×Int×Int×Bool):=zaa (zaO ([36],d.2.2.2.1,d.2.2.2.2.1,d.2.2.2.2.2.1,d.2.2.2.2.2.2)) fun(x:Bool×List UInt8×Int×Int×Bool)=>zaa (zjI (x.2.1,x.2.2.1,x.2.2.2.1,x.2.2.2.2)) fun(x_1:List UInt8×List UInt8×Int×Int×Bool)=>zaa (zxO x_1.1) fun(x_2:Int×Bool)=>zaa (zab (!x_2.2) (some true) (zab x.1 (gd (zaH ((d.1.1.length:Int)-1)) (zaa (zc4 (x_2.1,0,(d.1.1.length:Int)-1)) fun x=>some !x)) (some false))) fun x_3=>zab x_3 (some (0,(d.1.1,d.1.2.1,false),d.2.1,d.2.2.1,x_1.2.1,x_1.2.2.1,x_1.2.2.2.1,x_1.2.2.2.2)) (zab x.1 (gd (decide (0<=x_2.1)) (zaa d.1.1[x_2.1.toNat]? fun x=>some (x,(d.1.1,d.1.2.1,d.1.2.2),d.2.1,d.2.2.1,x_1.2.1,x_1.2.2.1,x_1.2.2.2.1,x_1.2.2.2.2))) (some (x_2.1,(d.1.1,d.1.2.1,d.1.2.2),d.2.1,d.2.2.1,x_1.2.1,x_1.2.2.1,x_1.2.2.2.1,x_1.2.2.2.2)))
def zit:=zaC zir
mutual
def zj1:Nat->List UInt8×Int×List (List UInt8)×(List Int×Int×Bool)×List (List UInt8)×List (List UInt8)->Option (List Sel×(List Int×Int×Bool)×List (List UInt8)×List (List UInt8))|0,_=>none|n+1,d=>zaa (zjv (d.1,(d.2.2.2.1.1,d.2.2.2.1.2.1,d.2.2.2.1.2.2),d.2.2.2.2.1,d.2.2.2.2.2)) fun(x:Int×(List Int×Int×Bool)×List (List UInt8)×List (List UInt8))=>gd (decide (List.length x.2.2.1=List.length d.2.2.2.2.1)) (gd (decide (List.length x.2.2.2=List.length d.2.2.2.2.2)) (zaa (zab (decide (x.1<0)) (some true) (zaa (zxN (d.2.2.1,d.1)) fun x=>some x)) fun x_1=>zab x_1 (some ([],(x.2.1.1,x.2.1.2.1,false),x.2.2.1,x.2.2.2)) (gd (decide (0<=x.1)&&decide (x.1<(x.2.2.2.length:Int))) (zaa x.2.2.2[x.1.toNat]? fun x_2=>zaa (zaO ([123],x_2,0,0,true)) fun(x_3:Bool×List UInt8×Int×Int×Bool)=>zab (!x_3.1) (some ([],(x.2.1.1,x.2.1.2.1,false),x.2.2.1,x.2.2.2)) (gd (decide (0+List.length d.2.2.1<=LIM)) (gd (decide (List.length d.2.2.1+List.length [d.1]<=LIM)) (zaa (zfp n (d.2.1,d.2.2.1++[d.1],(x.2.1.1,x.2.1.2.1,x.2.1.2.2),x.2.2.1,x.2.2.2,x_3.2.1,x_3.2.2.1,x_3.2.2.2.1,x_3.2.2.2.2)) fun(x_4:List Sel×(List Int×Int×Bool)×List (List UInt8)×List (List UInt8)×List UInt8×Int×Int×Bool)=>gd (decide (List.length x_4.2.2.1=List.length x.2.2.1)) (gd (decide (List.length x_4.2.2.2.1=List.length x.2.2.2)) (zaa (zab x_4.2.1.2.2 (some ((x_4.2.1.1,x_4.2.1.2.1,x_4.2.2.2.2.2.1==(x_4.2.2.2.2.1.length:Int)),x_4.2.2.1,x_4.2.2.2.1)) (some ((x_4.2.1.1,x_4.2.1.2.1,false),x_4.2.2.1,x_4.2.2.2.1))) fun(x:(List Int×Int×Bool)×List (List UInt8)×List (List UInt8))=>some (x_4.1,(x.1.1,x.1.2.1,x.1.2.2),x.2.1,x.2.2))))))))))
def zlw:Nat->Int×List (List UInt8)×(List Int×Int×Bool)×List (List UInt8)×List (List UInt8)×List UInt8×Int×Int×Bool->Option (Sel×(List Int×Int×Bool)×List (List UInt8)×List (List UInt8)×List UInt8×Int×Int×Bool)|0,_=>none|n+1,d=>zaa (zjI (d.2.2.2.2.2.1,d.2.2.2.2.2.2.1,d.2.2.2.2.2.2.2.1,d.2.2.2.2.2.2.2.2)) fun(x:List UInt8×List UInt8×Int×Int×Bool)=>zaa (zaO ([58],x.2.1,x.2.2.1,x.2.2.2.1,x.2.2.2.2)) fun(x_1:Bool×List UInt8×Int×Int×Bool)=>zaa (zab x_1.1 (zaa (zjI (x_1.2.1,x_1.2.2.1,x_1.2.2.2.1,x_1.2.2.2.2)) fun(x_2:List UInt8×List UInt8×Int×Int×Bool)=>some ((d.2.2.1.1,d.2.2.1.2.1,d.2.2.1.2.2),d.2.2.2.1,d.2.2.2.2.1,(x_2.2.1,x_2.2.2.1,x_2.2.2.2.1,x_2.2.2.2.2),([],[],false,0),[],x.1,x_2.1,false,0,[])) (some ((d.2.2.1.1,d.2.2.1.2.1,d.2.2.1.2.2),d.2.2.2.1,d.2.2.2.2.1,(x_1.2.1,x_1.2.2.1,x_1.2.2.2.1,x_1.2.2.2.2),([],[],false,0),[],[],x.1,false,0,[]))) fun(x:(List Int×Int×Bool)×List (List UInt8)×List (List UInt8)×(List UInt8×Int×Int×Bool)×(List UInt8×List UInt8×Bool×Int)×List Sel×List UInt8×List UInt8×Bool×Int×List Sel)=>zaa (zaO ([40],x.2.2.2.1.1,x.2.2.2.1.2.1,x.2.2.2.1.2.2.1,x.2.2.2.1.2.2.2)) fun(x_2:Bool×List UInt8×Int×Int×Bool)=>zaa (zab x_2.1 (zaa (zit ((x.1.1,x.1.2.1,x.1.2.2),x.2.1,x.2.2.1,x_2.2.1,x_2.2.2.1,x_2.2.2.2.1,x_2.2.2.2.2)) fun(x_3:Int×(List Int×Int×Bool)×List (List UInt8)×List (List UInt8)×List UInt8×Int×Int×Bool)=>gd (decide (List.length x_3.2.2.1=List.length x.2.1)) (gd (decide (List.length x_3.2.2.2.1=List.length x.2.2.1)) (zaa (zab x_3.2.1.2.2 (zaa (zaO ([41],x_3.2.2.2.2.1,x_3.2.2.2.2.2.1,x_3.2.2.2.2.2.2.1,x_3.2.2.2.2.2.2.2)) fun(x_4:Bool×List UInt8×Int×Int×Bool)=>some ((x_3.2.1.1,x_3.2.1.2.1,x_4.1),x_3.2.2.1,x_3.2.2.2.1,(x_4.2.1,x_4.2.2.1,x_4.2.2.2.1,x_4.2.2.2.2),(x.2.2.2.2.1.1,x.2.2.2.2.1.2.1,x.2.2.2.2.1.2.2.1,x.2.2.2.2.1.2.2.2),x.2.2.2.2.2.1,x.2.2.2.2.2.2.1,x.2.2.2.2.2.2.2.1,true,x_3.1,x.2.2.2.2.2.2.2.2.2.2)) (some ((x_3.2.1.1,x_3.2.1.2.1,false),x_3.2.2.1,x_3.2.2.2.1,(x_3.2.2.2.2.1,x_3.2.2.2.2.2.1,x_3.2.2.2.2.2.2.1,x_3.2.2.2.2.2.2.2),(x.2.2.2.2.1.1,x.2.2.2.2.1.2.1,x.2.2.2.2.1.2.2.1,x.2.2.2.2.1.2.2.2),x.2.2.2.2.2.1,x.2.2.2.2.2.2.1,x.2.2.2.2.2.2.2.1,true,x_3.1,x.2.2.2.2.2.2.2.2.2.2))) fun(x:(List Int×Int×Bool)×List (List UInt8)×List (List UInt8)×(List UInt8×Int×Int×Bool)×(List UInt8×List UInt8×Bool×Int)×List Sel×List UInt8×List UInt8×Bool×Int×List Sel)=>some ((x.1.1,x.1.2.1,x.1.2.2),x.2.1,x.2.2.1,(x.2.2.2.1.1,x.2.2.2.1.2.1,x.2.2.2.1.2.2.1,x.2.2.2.1.2.2.2),(x.2.2.2.2.1.1,x.2.2.2.2.1.2.1,x.2.2.2.2.1.2.2.1,x.2.2.2.2.1.2.2.2),x.2.2.2.2.2.1,x.2.2.2.2.2.2.1,x.2.2.2.2.2.2.2.1,x.2.2.2.2.2.2.2.2.1,x.2.2.2.2.2.2.2.2.2.1,x.2.2.2.2.2.2.2.2.2.2)))) (some ((x.1.1,x.1.2.1,x.1.2.2),x.2.1,x.2.2.1,(x_2.2.1,x_2.2.2.1,x_2.2.2.2.1,x_2.2.2.2.2),(x.2.2.2.2.1.1,x.2.2.2.2.1.2.1,x.2.2.2.2.1.2.2.1,x.2.2.2.2.1.2.2.2),x.2.2.2.2.2.1,x.2.2.2.2.2.2.1,x.2.2.2.2.2.2.2.1,x.2.2.2.2.2.2.2.2.1,x.2.2.2.2.2.2.2.2.2.1,x.2.2.2.2.2.2.2.2.2.2))) fun(x:(List Int×Int×Bool)×List (List UInt8)×List (List UInt8)×(List UInt8×Int×Int×Bool)×(List UInt8×List UInt8×Bool×Int)×List Sel×List UInt8×List UInt8×Bool×Int×List Sel)=>zaa (zaO ([123],x.2.2.2.1.1,x.2.2.2.1.2.1,x.2.2.2.1.2.2.1,x.2.2.2.1.2.2.2)) fun(x_3:Bool×List UInt8×Int×Int×Bool)=>zaa (zab x_3.1 (gd (zaH (d.1+1)) (zaa (zfp n (d.1+1,d.2.1,(x.1.1,x.1.2.1,x.1.2.2),x.2.1,x.2.2.1,x_3.2.1,x_3.2.2.1,x_3.2.2.2.1,x_3.2.2.2.2)) fun(x_4:List Sel×(List Int×Int×Bool)×List (List UInt8)×List (List UInt8)×List UInt8×Int×Int×Bool)=>gd (decide (List.length x_4.2.2.1=List.length x.2.1)) (gd (decide (List.length x_4.2.2.2.1=List.length x.2.2.1)) (some ((x_4.2.1.1,x_4.2.1.2.1,x_4.2.1.2.2),x_4.2.2.1,x_4.2.2.2.1,(x_4.2.2.2.2.1,x_4.2.2.2.2.2.1,x_4.2.2.2.2.2.2.1,x_4.2.2.2.2.2.2.2),(x.2.2.2.2.1.1,x.2.2.2.2.1.2.1,x.2.2.2.2.1.2.2.1,x.2.2.2.2.1.2.2.2),x.2.2.2.2.2.1,x.2.2.2.2.2.2.1,x.2.2.2.2.2.2.2.1,x.2.2.2.2.2.2.2.2.1,x.2.2.2.2.2.2.2.2.2.1,x_4.1))))) (some ((x.1.1,x.1.2.1,x.1.2.2),x.2.1,x.2.2.1,(x_3.2.1,x_3.2.2.1,x_3.2.2.2.1,x_3.2.2.2.2),(x.2.2.2.2.1.1,x.2.2.2.2.1.2.1,x.2.2.2.2.1.2.2.1,x.2.2.2.2.1.2.2.2),x.2.2.2.2.2.1,x.2.2.2.2.2.2.1,x.2.2.2.2.2.2.2.1,x.2.2.2.2.2.2.2.2.1,x.2.2.2.2.2.2.2.2.2.1,x.2.2.2.2.2.2.2.2.2.2))) fun(x:(List Int×Int×Bool)×List (List UInt8)×List (List UInt8)×(List UInt8×Int×Int×Bool)×(List UInt8×List UInt8×Bool×Int)×List Sel×List UInt8×List UInt8×Bool×Int×List Sel)=>some (Sel.mk x.2.2.2.2.2.2.1 x.2.2.2.2.2.2.2.1 x.2.2.2.2.2.2.2.2.1 x.2.2.2.2.2.2.2.2.2.1 x.2.2.2.2.2.2.2.2.2.2,(x.1.1,x.1.2.1,x.1.2.2),x.2.1,x.2.2.1,x.2.2.2.1.1,x.2.2.2.1.2.1,x.2.2.2.1.2.2.1,x.2.2.2.1.2.2.2)
def zfp:Nat->Int×List (List UInt8)×(List Int×Int×Bool)×List (List UInt8)×List (List UInt8)×List UInt8×Int×Int×Bool->Option (List Sel×(List Int×Int×Bool)×List (List UInt8)×List (List UInt8)×List UInt8×Int×Int×Bool)|0,_=>none|n+1,d=>zaa (zaB (fun(s:(List Int×Int×Bool)×List (List UInt8)×List (List UInt8)×(List UInt8×Int×Int×Bool)×List Sel)=>zab s.1.2.2 (gd (zaH (s.1.2.1-1)) (zaa (zab (decide (s.1.2.1-1<0)) (some true) (some (decide (d.1>5)))) fun x=>zab x (some (Sum.inr (Sum.inr (s.2.2.2.2,(s.1.1,s.1.2.1-1,false),s.2.1,s.2.2.1,s.2.2.2.1.1,s.2.2.2.1.2.1,s.2.2.2.1.2.2.1,s.2.2.2.1.2.2.2)))) (zaa (zaO ([64],s.2.2.2.1.1,s.2.2.2.1.2.1,s.2.2.2.1.2.2.1,s.2.2.2.1.2.2.2)) fun(x:Bool×List UInt8×Int×Int×Bool)=>zaa (zab x.1 (zaa (zjI (x.2.1,x.2.2.1,x.2.2.2.1,x.2.2.2.2)) fun(x:List UInt8×List UInt8×Int×Int×Bool)=>zaa (zj1 n (x.1,d.1,d.2.1,(s.1.1,s.1.2.1-1,s.1.2.2),s.2.1,s.2.2.1)) fun(x_1:List Sel×(List Int×Int×Bool)×List (List UInt8)×List (List UInt8))=>gd (decide (List.length x_1.2.2.1=List.length s.2.1)) (gd (decide (List.length x_1.2.2.2=List.length s.2.2.1)) (gd (decide (List.length s.2.2.2.2+List.length x_1.1<=LIM)) (some ((x_1.2.1.1,x_1.2.1.2.1,x_1.2.1.2.2),x_1.2.2.1,x_1.2.2.2,(x.2.1,x.2.2.1,x.2.2.2.1,x.2.2.2.2),s.2.2.2.2++x_1.1))))) (zaa (zlw n (d.1,d.2.1,(s.1.1,s.1.2.1-1,s.1.2.2),s.2.1,s.2.2.1,x.2.1,x.2.2.1,x.2.2.2.1,x.2.2.2.2)) fun(x:Sel×(List Int×Int×Bool)×List (List UInt8)×List (List UInt8)×List UInt8×Int×Int×Bool)=>gd (decide (List.length x.2.2.1=List.length s.2.1)) (gd (decide (List.length x.2.2.2.1=List.length s.2.2.1)) (gd (decide (List.length s.2.2.2.2+List.length [x.1]<=LIM)) (some ((x.2.1.1,x.2.1.2.1,x.2.1.2.2),x.2.2.1,x.2.2.2.1,(x.2.2.2.2.1,x.2.2.2.2.2.1,x.2.2.2.2.2.2.1,x.2.2.2.2.2.2.2),s.2.2.2.2++[x.1])))))) fun(x:(List Int×Int×Bool)×List (List UInt8)×List (List UInt8)×(List UInt8×Int×Int×Bool)×List Sel)=>zaa (zab x.1.2.2 (zaa (zaO ([125],x.2.2.2.1.1,x.2.2.2.1.2.1,x.2.2.2.1.2.2.1,x.2.2.2.1.2.2.2)) fun(x_1:Bool×List UInt8×Int×Int×Bool)=>some (x_1.1,(x.1.1,x.1.2.1,x.1.2.2),x.2.1,x.2.2.1,(x_1.2.1,x_1.2.2.1,x_1.2.2.2.1,x_1.2.2.2.2),x.2.2.2.2)) (some (false,(x.1.1,x.1.2.1,x.1.2.2),x.2.1,x.2.2.1,(x.2.2.2.1.1,x.2.2.2.1.2.1,x.2.2.2.1.2.2.1,x.2.2.2.1.2.2.2),x.2.2.2.2))) fun(x:Bool×(List Int×Int×Bool)×List (List UInt8)×List (List UInt8)×(List UInt8×Int×Int×Bool)×List Sel)=>zab x.1 (some (Sum.inr (Sum.inr (x.2.2.2.2.2,(x.2.1.1,x.2.1.2.1,x.2.1.2.2),x.2.2.1,x.2.2.2.1,x.2.2.2.2.1.1,x.2.2.2.2.1.2.1,x.2.2.2.2.1.2.2.1,x.2.2.2.2.1.2.2.2)))) (zaa (zab x.2.1.2.2 (zaa (zaO ([44],x.2.2.2.2.1.1,x.2.2.2.2.1.2.1,x.2.2.2.2.1.2.2.1,x.2.2.2.2.1.2.2.2)) fun(x_1:Bool×List UInt8×Int×Int×Bool)=>some ((x.2.1.1,x.2.1.2.1,x_1.1),x.2.2.1,x.2.2.2.1,(x_1.2.1,x_1.2.2.1,x_1.2.2.2.1,x_1.2.2.2.2),x.2.2.2.2.2)) (some ((x.2.1.1,x.2.1.2.1,false),x.2.2.1,x.2.2.2.1,(x.2.2.2.2.1.1,x.2.2.2.2.1.2.1,x.2.2.2.2.1.2.2.1,x.2.2.2.2.1.2.2.2),x.2.2.2.2.2))) fun(x:(List Int×Int×Bool)×List (List UInt8)×List (List UInt8)×(List UInt8×Int×Int×Bool)×List Sel)=>some (Sum.inl ((x.1.1,x.1.2.1,x.1.2.2),x.2.1,x.2.2.1,(x.2.2.2.1.1,x.2.2.2.1.2.1,x.2.2.2.1.2.2.1,x.2.2.2.1.2.2.2),x.2.2.2.2)))))) (some (Sum.inr (Sum.inl ((s.1.1,s.1.2.1,s.1.2.2),s.2.1,s.2.2.1,(s.2.2.2.1.1,s.2.2.2.1.2.1,s.2.2.2.1.2.2.1,s.2.2.2.1.2.2.2),s.2.2.2.2))))) ((d.2.2.1.1,d.2.2.1.2.1,d.2.2.1.2.2),d.2.2.2.1,d.2.2.2.2.1,(d.2.2.2.2.2.1,d.2.2.2.2.2.2.1,d.2.2.2.2.2.2.2.1,d.2.2.2.2.2.2.2.2),[])) fun(x:(List Int×Int×Bool)×List (List UInt8)×List (List UInt8)×(List UInt8×Int×Int×Bool)×List Sel⊕List Sel×(List Int×Int×Bool)×List (List UInt8)×List (List UInt8)×List UInt8×Int×Int×Bool)=>caseS x (fun d=>some (d.2.2.2.2,(d.1.1,d.1.2.1,d.1.2.2),d.2.1,d.2.2.1,d.2.2.2.1.1,d.2.2.2.1.2.1,d.2.2.2.1.2.2.1,d.2.2.2.1.2.2.2)) fun r=>some r
end
def zbi:Nat->List Sel×List Sel->Option Bool|0,_=>none|n+1,d=>zab ((d.1.length:Int) !=(d.2.length:Int)) (some false) (zaa (zaB (fun(s:Int)=>zab (decide (s<(d.1.length:Int))) (zaa (gd (decide (0<=s)) (zaa d.1[s.toNat]? fun x=>gd (decide (0<=s)) (zaa d.2[s.toNat]? fun x_1=>zab (Sel.as x !=Sel.as x_1) (some true) (gd (decide (0<=s)) (zaa d.1[s.toNat]? fun x=>gd (decide (0<=s)) (zaa d.2[s.toNat]? fun x_2=>zab (Sel.name x !=Sel.name x_2) (some true) (gd (decide (0<=s)) (zaa d.1[s.toNat]? fun x=>gd (decide (0<=s)) (zaa d.2[s.toNat]? fun x_3=>zab (Sel.one x !=Sel.one x_3) (some true) (gd (decide (0<=s)) (zaa d.1[s.toNat]? fun x=>gd (decide (0<=s)) (zaa d.2[s.toNat]? fun x_4=>zab (Sel.id x !=Sel.id x_4) (some true) (gd (decide (0<=s)) (zaa d.1[s.toNat]? fun x=>gd (decide (0<=s)) (zaa d.2[s.toNat]? fun x_5=>zaa (zbi n (Sel.kids x,Sel.kids x_5)) fun x=>some !x))))))))))))))) fun x=>zab x (some (Sum.inr (Sum.inr false))) (gd (zaH (s+1)) (some (Sum.inl (s+1))))) (some (Sum.inr (Sum.inl s)))) 0) fun(x:Int⊕Bool)=>caseS x (fun d=>some true) fun r=>some r)
def zix:List Sel×List Sel->Option Bool:=zoI zbi
def ziE(n:Nat):TE:=⟨19,[.lst (.nm .Sel),.lst (.nm .Sel)],[],(.bool),[],zbi n⟩
def zmg:TE:=⟨19,[.lst (.nm .Sel),.lst (.nm .Sel)],[],(.bool),[],zix⟩
theorem zsO(n:Nat)(d:List Sel×List Sel):zei [ziE n] zCx c19 [.t 4] [.lst (.nm .Sel),.lst (.nm .Sel)] [] (.bool) [] d=zbi (n+1) d:=by kernel_rfl
def zbV(d:List Int):Option Bool:=zab (decide ((d.length:Int)>1048576)) (some true) (zaa (zcD d) fun x=>zaa (zaa (zdo x) fun x_1=>zaa (zdV x) fun x_2=>zab (x_1 !=x_2) (some true) (zaa (zdV x) fun x_3=>zab (!x_3) (some true) (zaa x[Int.toNat 0]? fun x=>some ((↑(List.length (Sel.kids x)):Int)==0)))) fun x_1=>zab x_1 (zaa (zdo x) fun x_2=>zaa (zdV x) fun x=>some (x_2==x)) (zaa x[Int.toNat 0]? fun x_2=>zaa x[Int.toNat 0]? fun x_3=>zaa x[Int.toNat 0]? fun x_4=>zaa x[Int.toNat 0]? fun x_5=>zaa (zbB [Sel.mk (Sel.as x_2) (Sel.name x_3) (Sel.one x_4) (Sel.id x_5) []]) fun x_6=>zaa x[Int.toNat 0]? fun x_7=>zaa (zbB (Sel.kids x_7)) fun x_8=>gd (zaH ((x_6.length:Int)-1)) (gd (decide (0<=0)&&decide (0<=(x_6.length:Int)-1)&&decide ((x_6.length:Int)-1<=(x_6.length:Int))) (gd (decide (List.length (List.take (Int.toNat ((x_6.length:Int)-1)-Int.toNat 0) (List.drop (Int.toNat 0) x_6))+List.length [123,64,102,125,125]<=BIG)) (zaa (zab (decide ((x.length:Int)>1)) (gd (decide (0<=1)&&decide (1<=(x.length:Int))&&decide ((x.length:Int)<=(x.length:Int))) (zaa (zbB (List.take (Int.toNat (x.length:Int)-Int.toNat 1) (List.drop (Int.toNat 1) x))) fun x=>gd (zaH ((x_6.length:Int)-1)) (gd (decide (0<=0)&&decide (0<=(x_6.length:Int)-1)&&decide ((x_6.length:Int)-1<=(x_6.length:Int))) (gd (decide (List.length (List.take (Int.toNat ((x_6.length:Int)-1)-Int.toNat 0) (List.drop (Int.toNat 0) x_6))+List.length [123,64,102,125,44]<=BIG)) (gd (decide (0<=1)&&decide (1<=(x.length:Int))&&decide ((x.length:Int)<=(x.length:Int))) (gd (decide (List.length (List.take (Int.toNat ((x_6.length:Int)-1)-Int.toNat 0) (List.drop (Int.toNat 0) x_6)++[123,64,102,125,44])+List.length (List.take (Int.toNat (x.length:Int)-Int.toNat 1) (List.drop (Int.toNat 1) x))<=BIG)) (some (List.take (Int.toNat ((x_6.length:Int)-1)-Int.toNat 0) (List.drop (Int.toNat 0) x_6)++[123,64,102,125,44]++List.take (Int.toNat (x.length:Int)-Int.toNat 1) (List.drop (Int.toNat 1) x))))))))) (some (List.take (Int.toNat ((x_6.length:Int)-1)-Int.toNat 0) (List.drop (Int.toNat 0) x_6)++[123,64,102,125,125]))) fun x_9=>gd (decide (List.length x_9+List.length [59,102]<=BIG)) (gd (decide (List.length (x_9++[59,102])+List.length x_8<=BIG)) (zaa (zb7 (x_9++[59,102]++x_8,[])) fun(x_10:Bool×List Sel)=>zaa (gd (zaH ((x_9.length:Int)+2)) (gd (zaH ((x_9.length:Int)+2+(x_8.length:Int))) (zab (decide ((x_9.length:Int)+2+(x_8.length:Int)>400)) (some true) (zab x_10.1 (zaa (zix (x_10.2,x)) fun x=>some x) (some false))))) fun x=>some x)))))))
def zc0:=zaC zbV
theorem zds:∀d,zc0 d=zbV d:=congrFun (zae zbV)
def zc1:TE:=⟨4,[.lst (.int .u8)],[],(.bool),[],zc0⟩
theorem zjy:XO [zdX,zfq,zkc,zfr,zeJ,zmg] cy4 c4 [.t 2] zc1:=xq zds fun d=>by kernel_rfl
mutual
def zsT:Nat->Sel×Sel->Option Bool|0,_=>none|n+1,d=>zab (Sel.as d.1 !=Sel.as d.2) (some false) (zab (Sel.name d.1 !=Sel.name d.2) (some false) (zab (Sel.one d.1 !=Sel.one d.2) (some false) (zab (Sel.id d.1 !=Sel.id d.2) (some false) (zaa (zrC n (Sel.kids d.1,Sel.kids d.2)) fun x=>zab (!x) (some false) (some true)))))
def zrC:Nat->List Sel×List Sel->Option Bool|0,_=>none|n+1,d=>zab ((d.1.length:Int) !=(d.2.length:Int)) (some false) (zaa (zaB (fun(s:Int)=>zab (decide (s<(d.1.length:Int))) (gd (decide (0<=s)) (zaa d.1[s.toNat]? fun x=>gd (decide (0<=s)) (zaa d.2[s.toNat]? fun x_1=>zaa (zsT n (x,x_1)) fun x=>zab (!x) (some (Sum.inr (Sum.inr false))) (gd (zaH (s+1)) (some (Sum.inl (s+1))))))) (some (Sum.inr (Sum.inl s)))) 0) fun(x:Int⊕Bool)=>caseS x (fun d=>some true) fun r=>some r)
end
end
end Go.Fw
namespace Go.Fw
open Go Go.Proofs
set_option maxRecDepth 100000
set_option linter.unusedVariables false
theorem zp0:Tryz.prog.follows .mixedOrders=true:=by kernel_rfl
theorem oP{f:FuncId}{ash:List Sh}{rsh:Sh}{F:DatL (ash++[].map RK.sh)->Option (DatL (rsh:: [].map RK.sh))}{Φ:List TE}{tys:List (Nat×An)}{c:CC}{rs:List RV}{fn:Func}(hx:XO Φ tys c rs ⟨f,ash,[],rsh,[],F⟩)(h:Tryz.prog.funcs[f]? =some fn)(k:chkF Tryz.prog fn c ash.length rs=true)(l:∀xs w,(callFunc f xs).run Tryz.prog w=.ok (.enter f xs) w)(hΦ:znO Tryz.prog Φ)(ha:Sh.purL ash=true)(hr:rsh.pur=true):EOk Tryz.prog ⟨f,ash,[],rsh,[],F⟩:=EOk.pure ⟨⟨fn,h,k⟩,l,zp0⟩ rfl hΦ ha hr hx
theorem oT{f:FuncId}{ash:List Sh}{rin:List RK}{rsh:Sh}{rout:List RK}{F:DatL (ash++rin.map RK.sh)->Option (DatL (rsh:: rout.map RK.sh))}{Φ:List TE}{tys:List (Nat×An)}{c:CC}{rs:List RV}{fn:Func}(hx:XO Φ tys c rs ⟨f,ash,rin,rsh,rout,F⟩)(h:Tryz.prog.funcs[f]? =some fn)(k:chkF Tryz.prog fn c ash.length rs=true)(l:∀xs w,(callFunc f xs).run Tryz.prog w=.ok (.enter f xs) w)(hΦ:znO Tryz.prog Φ)(hw:wfE ⟨f,ash,rin,rsh,rout,F⟩=true)(hne:zeU rout=false):EOk Tryz.prog ⟨f,ash,rin,rsh,rout,F⟩:=EOk.te ⟨⟨fn,h,k⟩,l,zp0⟩ rfl hΦ hw hne hx
theorem zDX:FnOk Tryz.prog 64 c64 1 [.t 2]:=⟨⟨Tryz.f64,Tryz.func64,by kernel_rfl⟩,Tryz.call64,zp0⟩
theorem zDW:FnOk Tryz.prog 60 c60 4 [.t 8]:=⟨⟨Tryz.f60,Tryz.func60,by kernel_rfl⟩,Tryz.call60,zp0⟩
theorem zDS:FnOk Tryz.prog 44 c44 3 [.t 6]:=⟨⟨Tryz.f44,Tryz.func44,by kernel_rfl⟩,Tryz.call44,zp0⟩
theorem zDT:FnOk Tryz.prog 45 c45 1 [.t 2]:=⟨⟨Tryz.f45,Tryz.func45,by kernel_rfl⟩,Tryz.call45,zp0⟩
theorem zDY:FnOk Tryz.prog 90 c90 4 [.c 8 (some 2)]:=⟨⟨Tryz.f90,Tryz.func90,by kernel_rfl⟩,Tryz.call90,zp0⟩
theorem zDN:FnOk Tryz.prog 28 c28 1 [.t 2]:=⟨⟨Tryz.f28,Tryz.func28,by kernel_rfl⟩,Tryz.call28,zp0⟩
theorem zDP:FnOk Tryz.prog 40 c40 2 [.t 4]:=⟨⟨Tryz.f40,Tryz.func40,by kernel_rfl⟩,Tryz.call40,zp0⟩
theorem zDQ:FnOk Tryz.prog 42 c42 2 [.t 4]:=⟨⟨Tryz.f42,Tryz.func42,by kernel_rfl⟩,Tryz.call42,zp0⟩
theorem zDR:FnOk Tryz.prog 43 c43 1 [.t 2]:=⟨⟨Tryz.f43,Tryz.func43,by kernel_rfl⟩,Tryz.call43,zp0⟩
theorem zDU:FnOk Tryz.prog 58 c58 3 [.t 6]:=⟨⟨Tryz.f58,Tryz.func58,by kernel_rfl⟩,Tryz.call58,zp0⟩
theorem zDV:FnOk Tryz.prog 59 c59 3 [.c 6 (some 5)]:=⟨⟨Tryz.f59,Tryz.func59,by kernel_rfl⟩,Tryz.call59,zp0⟩
theorem zDO:FnOk Tryz.prog 32 c32 3 [.t 6]:=⟨⟨Tryz.f32,Tryz.func32,by kernel_rfl⟩,Tryz.call32,zp0⟩
theorem zDM:FnOk Tryz.prog 19 c19 2 [.t 4]:=⟨⟨Tryz.f19,Tryz.func19,by kernel_rfl⟩,Tryz.call19,zp0⟩
theorem zv4:EOk Tryz.prog zmK:=oT zw3 Tryz.func35 (by kernel_rfl) Tryz.call35 trivial (by kernel_rfl) rfl
theorem zdC:EOk Tryz.prog zbp:=oT zqC Tryz.func39 (by kernel_rfl) Tryz.call39 trivial (by kernel_rfl) rfl
theorem zv7(n:Nat):EOk Tryz.prog (zpp n):=by
 induction n with
 |zero=>exact EOk.zeroP rfl rfl (fun _=>rfl)
 |succ n ih=>exact EOk.pure (Φ:=[zpp n]) (tys:=zCI) zDX rfl (⟨ih,trivial⟩) rfl rfl (zzA n)
theorem ztM:EOk Tryz.prog zmU:=EOk.limP (fun n=>(zv7 n))
theorem zkL:EOk Tryz.prog zeL:=oP zqB Tryz.func63 (by kernel_rfl) Tryz.call63 trivial rfl rfl
theorem zem:EOk Tryz.prog zbK:=oP zsM Tryz.func50 (by kernel_rfl) Tryz.call50 trivial rfl rfl
theorem zeW:EOk Tryz.prog zcK:=oP zw6 Tryz.func88 (by kernel_rfl) Tryz.call88 trivial rfl rfl
theorem ztK:EOk Tryz.prog zke:=oT zvf Tryz.func94 (by kernel_rfl) Tryz.call94 ⟨zem,zeW,trivial⟩ (by kernel_rfl) rfl
theorem zel:EOk Tryz.prog zcR:=oP zvj Tryz.func95 (by kernel_rfl) Tryz.call95 trivial rfl rfl
theorem ztJ:EOk Tryz.prog zkd:=oT zve Tryz.func65 (by kernel_rfl) Tryz.call65 ⟨ztK,zeW,zel,trivial⟩ (by kernel_rfl) rfl
theorem zr1:EOk Tryz.prog ziC:=oT zsL Tryz.func38 (by kernel_rfl) Tryz.call38 ⟨zdC,ztM,zkL,ztJ,trivial⟩ (by kernel_rfl) rfl
theorem zxn:EOk Tryz.prog zn7:=oP zA6 Tryz.func73 (by kernel_rfl) Tryz.call73 trivial rfl rfl
theorem zv3:EOk Tryz.prog zmJ:=oP zw2 Tryz.func49 (by kernel_rfl) Tryz.call49 ⟨zxn,trivial⟩ rfl rfl
theorem zmS:EOk Tryz.prog zf5:=oP zw5 Tryz.func24 (by kernel_rfl) Tryz.call24 ⟨zv3,zem,trivial⟩ rfl rfl
theorem zys:EOk Tryz.prog zpq:=oP zzC Tryz.func128 (by kernel_rfl) Tryz.call128 ⟨zel,trivial⟩ rfl rfl
theorem ztO:EOk Tryz.prog zkh:=oP zvk Tryz.func129 (by kernel_rfl) Tryz.call129 ⟨zel,trivial⟩ rfl rfl
theorem ztN:EOk Tryz.prog zkg:=oP zvi Tryz.func112 (by kernel_rfl) Tryz.call112 ⟨zmS,zem,zeW,zel,zys,ztO,trivial⟩ rfl rfl
theorem zv5:EOk Tryz.prog zmL:=oP zw4 Tryz.func130 (by kernel_rfl) Tryz.call130 trivial rfl rfl
theorem ztP:EOk Tryz.prog zki:=oP zvl Tryz.func113 (by kernel_rfl) Tryz.call113 ⟨zv5,trivial⟩ rfl rfl
theorem zgY:EOk Tryz.prog zdv:=oP zqy Tryz.func89 (by kernel_rfl) Tryz.call89 ⟨zmS,ztN,ztP,trivial⟩ rfl rfl
theorem zpX:EOk Tryz.prog zko:=oP zzF Tryz.func115 (by kernel_rfl) Tryz.call115 ⟨zeW,trivial⟩ rfl rfl
theorem zpV:EOk Tryz.prog ziD:=oP zzB Tryz.func114 (by kernel_rfl) Tryz.call114 ⟨zeW,zel,trivial⟩ rfl rfl
theorem zmf:EOk Tryz.prog zf6:=oP zsN Tryz.func93 (by kernel_rfl) Tryz.call93 ⟨zpV,trivial⟩ rfl rfl
theorem ztS:EOk Tryz.prog zkl:=oP zvo Tryz.func131 (by kernel_rfl) Tryz.call131 trivial rfl rfl
theorem ztU:EOk Tryz.prog zkn:=oP zvq Tryz.func116 (by kernel_rfl) Tryz.call116 ⟨zmf,zpV,ztS,zpX,trivial⟩ rfl rfl
theorem ztT:EOk Tryz.prog zkm:=oP zvp Tryz.func91 (by kernel_rfl) Tryz.call91 ⟨zgY,zpX,ztU,trivial⟩ rfl rfl
theorem zyu:EOk Tryz.prog zps:=oP zzG Tryz.func117 (by kernel_rfl) Tryz.call117 ⟨zel,trivial⟩ rfl rfl
theorem zyt:EOk Tryz.prog zpr:=oP zzE Tryz.func92 (by kernel_rfl) Tryz.call92 ⟨zeW,zpX,zyu,trivial⟩ rfl rfl
theorem zpT:EOk Tryz.prog zgP:=oP zqx Tryz.func62 (by kernel_rfl) Tryz.call62 ⟨ztT,zyt,zgY,zmf,trivial⟩ rfl rfl
theorem zv1:EOk Tryz.prog zmH:=oP zw0 Tryz.func37 (by kernel_rfl) Tryz.call37 ⟨zpT,zkL,trivial⟩ rfl rfl
theorem zoB:EOk Tryz.prog zeh:=oT zvh Tryz.func47 (by kernel_rfl) Tryz.call47 ⟨zdC,trivial⟩ (by kernel_rfl) rfl
theorem zpW:EOk Tryz.prog zfs:=oP zzD Tryz.func74 (by kernel_rfl) Tryz.call74 trivial rfl rfl
theorem zr3(n:Nat):EOk Tryz.prog (zkf n):=by
 induction n with
 |zero=>exact EOk.zeroT (by kernel_rfl) rfl (fun _=>rfl)
 |succ n ih=>exact EOk.te (Φ:=[zcK,zbp,zeh,zbK,zkf n,zfs]) (tys:=zCH) zDW rfl (⟨zeW,⟨zdC,⟨zoB,⟨zem,⟨ih,⟨zpW,trivial⟩⟩⟩⟩⟩⟩) (by kernel_rfl) rfl (zvg n)
theorem ztL:EOk Tryz.prog zoE:=EOk.limT rfl (fun n=>(zr3 n))
theorem zyw(n:Nat):EOk Tryz.prog (ztd n):=by
 induction n with
 |zero=>exact EOk.zeroP rfl rfl (fun _=>rfl)
 |succ n ih=>exact EOk.pure (Φ:=[zf5,zn7,zfs,ztd n]) (tys:=zCD) zDS rfl (⟨zmS,⟨zxn,⟨zpW,⟨ih,trivial⟩⟩⟩⟩) rfl rfl (zA7 n)
theorem zAm:EOk Tryz.prog zxo:=EOk.limP (fun n=>(zyw n))
theorem zr5(n:Nat):EOk Tryz.prog (zkk n):=by
 induction n with
 |zero=>exact EOk.zeroP rfl rfl (fun _=>rfl)
 |succ n ih=>exact EOk.pure (Φ:=[zmU,zkk n]) (tys:=zCE) zDT rfl (⟨ztM,⟨ih,trivial⟩⟩) rfl rfl (zvn n)
theorem ztR:EOk Tryz.prog zoG:=EOk.limP (fun n=>(zr5 n))
theorem zpS:EOk Tryz.prog zkc:=oP zzz Tryz.func17 (by kernel_rfl) Tryz.call17 ⟨zAm,ztR,trivial⟩ rfl rfl
theorem zr4(n:Nat):EOk Tryz.prog (zkj n):=by
 induction n with
 |zero=>exact EOk.zeroP rfl rfl (fun _=>rfl)
 |succ n ih=>exact EOk.pure (Φ:=[zfs,ziD,zbK,zkj n]) (tys:=zCJ) zDY rfl (⟨zpW,⟨zpV,⟨zem,⟨ih,trivial⟩⟩⟩⟩) rfl rfl (zvm n)
theorem ztQ:EOk Tryz.prog zoF:=EOk.limP (fun n=>(zr4 n))
theorem zrX:EOk Tryz.prog ziz:=oP zsG Tryz.func61 (by kernel_rfl) Tryz.call61 ⟨zgY,zpS,ztQ,trivial⟩ rfl rfl
theorem zv2:EOk Tryz.prog zmI:=oT zw1 Tryz.func36 (by kernel_rfl) Tryz.call36 ⟨ztL,zpS,zrX,trivial⟩ (by kernel_rfl) rfl
theorem ztW(n:Nat):EOk Tryz.prog (zmM n):=by
 induction n with
 |zero=>exact EOk.zeroT (by kernel_rfl) rfl (fun _=>rfl)
 |succ n ih=>exact EOk.te (Φ:=[zmM n]) (tys:=zCy) zDN rfl (⟨ih,trivial⟩) (by kernel_rfl) rfl (zw7 n)
theorem zv6:EOk Tryz.prog zmV:=EOk.limT rfl (fun n=>(ztW n))
theorem zkO(n:Nat):EOk Tryz.prog (zdY n):=by
 induction n with
 |zero=>exact EOk.zeroT (by kernel_rfl) rfl (fun _=>rfl)
 |succ n ih=>exact EOk.te (Φ:=[zmV,zeh,zbp,zdY n]) (tys:=zCA) zDP rfl (⟨zv6,⟨zoB,⟨zdC,⟨ih,trivial⟩⟩⟩⟩) (by kernel_rfl) rfl (zlO n)
theorem zlC:EOk Tryz.prog zgE:=EOk.limT rfl (fun n=>(zkO n))
theorem zlB:EOk Tryz.prog zdX:=oP zlN Tryz.func15 (by kernel_rfl) Tryz.call15 ⟨zv4,zr1,zv1,zv2,zdC,zlC,trivial⟩ rfl rfl
theorem zmR:EOk Tryz.prog zeK:=oP znK Tryz.func96 (by kernel_rfl) Tryz.call96 trivial rfl rfl
theorem zr0:EOk Tryz.prog zf4:=oP zsK Tryz.func67 (by kernel_rfl) Tryz.call67 ⟨zmR,trivial⟩ rfl rfl
theorem zdd:EOk Tryz.prog za2:=oP zdi Tryz.func84 (by kernel_rfl) Tryz.call84 trivial rfl rfl
theorem zaY:EOk Tryz.prog zal:=oP zcw Tryz.func56 (by kernel_rfl) Tryz.call56 ⟨zdd,trivial⟩ rfl rfl
theorem ztI:EOk Tryz.prog zhU:=oP zvd Tryz.func66 (by kernel_rfl) Tryz.call66 ⟨zaY,trivial⟩ rfl rfl
theorem ztH:EOk Tryz.prog zn6:=oP zA5 Tryz.func41 (by kernel_rfl) Tryz.call41 trivial rfl rfl
theorem zrZ:EOk Tryz.prog ziB:=oP zsJ Tryz.func55 (by kernel_rfl) Tryz.call55 ⟨ztH,trivial⟩ rfl rfl
theorem zme:EOk Tryz.prog zf3:=oP zsI Tryz.func31 (by kernel_rfl) Tryz.call31 ⟨zrZ,zaY,trivial⟩ rfl rfl
theorem zrY:EOk Tryz.prog ziA:=oP zsH Tryz.func70 (by kernel_rfl) Tryz.call70 ⟨zme,ztH,trivial⟩ rfl rfl
theorem zeV:EOk Tryz.prog zbJ:=oP znL Tryz.func69 (by kernel_rfl) Tryz.call69 ⟨zrY,trivial⟩ rfl rfl
theorem zlE:EOk Tryz.prog zdZ:=oP zlQ Tryz.func97 (by kernel_rfl) Tryz.call97 ⟨zeV,trivial⟩ rfl rfl
theorem zlD:EOk Tryz.prog zcL:=oP zlP Tryz.func68 (by kernel_rfl) Tryz.call68 ⟨zlE,zeV,trivial⟩ rfl rfl
theorem zoC(n:Nat):EOk Tryz.prog (zgQ n):=by
 induction n with
 |zero=>exact EOk.zeroP rfl rfl (fun _=>rfl)
 |succ n ih=>exact EOk.pure (Φ:=[zf4,zhU,zcL,zbJ,zgQ n]) (tys:=zCB) zDQ rfl (⟨zr0,⟨ztI,⟨zlD,⟨zeV,⟨ih,trivial⟩⟩⟩⟩⟩) rfl rfl (zqz n)
theorem zpU:EOk Tryz.prog zkP:=EOk.limP (fun n=>(zoC n))
theorem zoD(n:Nat):EOk Tryz.prog (zgR n):=by
 induction n with
 |zero=>exact EOk.zeroP rfl rfl (fun _=>rfl)
 |succ n ih=>exact EOk.pure (Φ:=[zcM,zgR n,zd0]) (tys:=zCC) zDR rfl (⟨zgD,⟨ih,⟨zlG,trivial⟩⟩⟩) rfl rfl (zqA n)
theorem zkJ:EOk Tryz.prog zg3:=EOk.limP (fun n=>(zoD n))
theorem zkI:EOk Tryz.prog zfq:=oP zvc Tryz.func16 (by kernel_rfl) Tryz.call16 ⟨zpU,ztH,zkJ,trivial⟩ rfl rfl
theorem zoA:EOk Tryz.prog zfr:=oP zo9 Tryz.func18 (by kernel_rfl) Tryz.call18 ⟨zkI,zkJ,trivial⟩ rfl rfl
theorem zbW:EOk Tryz.prog zaR:=oT zjx Tryz.func30 (by kernel_rfl) Tryz.call30 ⟨zia,trivial⟩ (by kernel_rfl) rfl
theorem zbg:EOk Tryz.prog zaA:=oP zcl Tryz.func111 (by kernel_rfl) Tryz.call111 trivial rfl rfl
theorem zcj:EOk Tryz.prog zaS:=oP zck Tryz.func109 (by kernel_rfl) Tryz.call109 ⟨zbg,trivial⟩ rfl rfl
theorem zg0:EOk Tryz.prog zbY:=oP zhh Tryz.func85 (by kernel_rfl) Tryz.call85 ⟨zcj,trivial⟩ rfl rfl
theorem zdB:EOk Tryz.prog za9:=oT zlt Tryz.func57 (by kernel_rfl) Tryz.call57 ⟨zg0,trivial⟩ (by kernel_rfl) rfl
theorem zfh:EOk Tryz.prog zbw:=oT zfm Tryz.func110 (by kernel_rfl) Tryz.call110 ⟨zbW,zlF,zgD,trivial⟩ (by kernel_rfl) rfl
theorem zkK:EOk Tryz.prog zcd:=oT zls Tryz.func86 (by kernel_rfl) Tryz.call86 ⟨zdB,zfh,trivial⟩ (by kernel_rfl) rfl
theorem zg1:EOk Tryz.prog zbq:=oP zhi Tryz.func87 (by kernel_rfl) Tryz.call87 ⟨zbg,trivial⟩ rfl rfl
theorem zg2(n:Nat):EOk Tryz.prog (zce n)/\EOk Tryz.prog (zcc n)/\EOk Tryz.prog (za8 n):=by
 induction n with
 |zero=>exact⟨EOk.zeroT (by kernel_rfl) rfl (fun _=>rfl),EOk.zeroT (by kernel_rfl) rfl (fun _=>rfl),EOk.zeroT (by kernel_rfl) rfl (fun _=>rfl)⟩
 |succ n ih=>exact⟨EOk.te (Φ:=[zaR,zal,za8 n]) (tys:=zCF) zDU rfl (⟨zbW,⟨zaY,⟨ih.2.2,trivial⟩⟩⟩) (by kernel_rfl) rfl (zio n),EOk.te (Φ:=[zaR,za9,zcd,zbq,za8 n]) (tys:=zCG) zDV rfl (⟨zbW,⟨zdB,⟨zkK,⟨zg1,⟨ih.2.2,trivial⟩⟩⟩⟩⟩) (by kernel_rfl) rfl (zin n),EOk.te (Φ:=[za9,zce n,zcc n]) (tys:=zCz) zDO rfl (⟨zdB,⟨ih.1,⟨ih.2.1,trivial⟩⟩⟩) (by kernel_rfl) rfl (zhg n)⟩
theorem zgZ:EOk Tryz.prog zdD:=EOk.limT rfl (fun n=>(zg2 n).2.2)
theorem zmQ:EOk Tryz.prog zeJ:=oT znJ Tryz.func9 (by kernel_rfl) Tryz.call9 ⟨zkM,zbW,zme,zgZ,zkI,trivial⟩ (by kernel_rfl) rfl
theorem zpZ(n:Nat):EOk Tryz.prog (ziE n):=by
 induction n with
 |zero=>exact EOk.zeroP rfl rfl (fun _=>rfl)
 |succ n ih=>exact EOk.pure (Φ:=[ziE n]) (tys:=zCx) zDM rfl (⟨ih,trivial⟩) rfl rfl (zsO n)
theorem zr2:EOk Tryz.prog zmg:=EOk.limP (fun n=>(zpZ n))
theorem zjw:EOk Tryz.prog zc1:=oP zjy Tryz.func4 (by kernel_rfl) Tryz.call4 ⟨zlB,zkI,zpS,zoA,zmQ,zr2,trivial⟩ rfl rfl
end Go.Fw
namespace Go.Fw
open Go
structure Rd (b:List Int)(p:Int)(m:Nat):Prop where
 len:b.length<=2000
 byt:∀x∈b,0<=x/\x<=255
 pos:0<=p
 far:p<=m
theorem zjV{n:Int}(h1:-9223372036854775808<=n)(h2:n<=9223372036854775807):IntKind.wrap .i64 n=n:=by simp only[IntKind.wrap,IntKind.bits,IntKind.signed];simp;omega
theorem zlc{a b:Int}(h1:0<=a)(h2:0<b):0<=Int.tmod a b/\Int.tmod a b<b:=⟨Int.tmod_nonneg _ h1,Int.tmod_lt_of_pos _ h2⟩
theorem zA8{a b:Int}(ha:0<=a)(ha2:a<9223372036854775808)(hb:0<=b)(hb2:b<9223372036854775808):
 (BitVec.toNat (BitVec.ofInt (IntKind.bits .i64) a ^^^ BitVec.ofInt (IntKind.bits .i64) b))<9223372036854775808:=by
 have h:IntKind.bits .i64=64:=rfl;rw[h,BitVec.toNat_xor,BitVec.toNat_ofInt,BitVec.toNat_ofInt];refine Nat.xor_lt_two_pow (n:=63) ?_ ?_<;>omega
theorem zy0{d:List Int}{Q:List Int×Int->Prop}(hb:∀x∈d,0<=x/\x<=255)(h:∀b,Rd b 0 0->Q (b,0)):wp (zjG d) Q:=by rw[zj3];unfold zjB;simp only[ywa,ywb,ywc,ywd,ywe,yhw,yhx,yhv,yhy,yhz,yhb,yhc,yhd,yhu,yhe,yhf,yhg,yhh,yhi,yhj,yhk,yhl,yhm,yhn,yho,yhp];refine⟨fun hl=>⟨⟨⟨by omega,by omega⟩,by omega⟩,h _ ⟨?_,fun x hx=>hb x (List.mem_of_mem_drop (List.mem_of_mem_take hx)),by omega,by simp⟩⟩,fun hl=>h _ ⟨by omega,hb,by omega,by simp⟩⟩;simp only[List.length_take];omega
theorem zbf{n:Int}{b:List Int}{p:Int}{m:Nat}{Q:Int×List Int×Int->Prop}(hR:Rd b p m)(hm:m<=1099511627776)(h:∀v,(1<=n->0<=v/\v<n)->(n<1->v=0)->Rd b (p+1) (m+1)->Q (v,b,p+1)):wp (zaj (n,b,p)) Q:=by
 obtain⟨h1,h2,h3,h4⟩:=hR;have hR':Rd b (p+1) (m+1):=⟨h1,h2,by omega,by omega⟩
 rw[zgw];unfold zeB;simp only[ywa,ywb,ywc,ywd,ywe,yhw,yhx,yhv,yhy,yhz,yhb,yhc,yhd,yhu,yhe,yhf,yhg,yhh,yhi,yhj,yhk,yhl,yhm,yhn,yho,yhp];have hp:p+1-1=p:=by omega
 rw[hp];refine⟨by omega,fun hn=>h 0 (by omega) (fun _=>rfl) hR',fun hn=>⟨fun hl=>h 0 (fun _=>by omega) (fun _=>rfl) hR',fun hl=>⟨by omega,fun hlt=>?_,fun hge=>?_⟩⟩⟩
 ·refine⟨by omega,by omega,?_⟩;have hx:=h2 (b[p.toNat]'(by omega)) (ygh _);rw[zjV (by omega) (by omega)];obtain⟨q1,q2⟩:=zlc hx.1 (show 0<n by omega);exact⟨by omega,h _ (fun _=>⟨q1,q2⟩) (by omega) hR'⟩
 ·have hl0:(0:Int)<b.length:=by omega
  obtain⟨q1,q2⟩:=zlc h3 hl0;obtain⟨q3,q4⟩:=zlc (show 0<=p*7+3 by omega) hl0;have k1:(p.tmod b.length).toNat<b.length:=by omega
  have k2:((p*7+3).tmod b.length).toNat<b.length:=by omega
  have hx:=h2 (b[(p.tmod b.length).toNat]'k1) (ygh _);have hy:=h2 (b[((p*7+3).tmod b.length).toNat]'k2) (ygh _);have hd:0<=p.tdiv b.length/\p.tdiv b.length<=p:=⟨Int.tdiv_nonneg h3 (by omega),Int.tdiv_le_self _ h3⟩
  refine⟨by omega,q1,k1,?_⟩;rw[zjV (n:=b[(p.tmod b.length).toNat]'k1) (by omega) (by omega)];refine⟨by omega,by omega,by omega,by omega,q3,k2,?_⟩;rw[zjV (n:=b[((p*7+3).tmod b.length).toNat]'k2) (by omega) (by omega)];generalize b[(p.tmod b.length).toNat]'k1=u at hx|-;generalize b[((p*7+3).tmod b.length).toNat]'k2=v at hy|-;generalize p.tdiv b.length=e at hd|-;have hz:0<=u*131+v*1117+p*29+e*53:=by omega
  have hz2:u*131+v*1117+p*29+e*53<9223372036854775807:=by omega
  generalize hzz:u*131+v*1117+p*29+e*53=z at hz hz2|-;have hq:0<=z.tdiv 64/\z.tdiv 64<=z:=⟨Int.tdiv_nonneg hz (by omega),Int.tdiv_le_self _ hz⟩
  refine⟨by omega,by omega,by omega,by omega,by omega,by omega,by omega,by omega,by omega,by omega,?_⟩;have hxr:=zA8 hz (by omega) hq.1 (by omega);rw[zjV (by omega) (by omega)];obtain⟨q5,q6⟩:=zlc (a:=((BitVec.ofInt (IntKind.bits .i64) z ^^^ BitVec.ofInt (IntKind.bits .i64) (z.tdiv 64)).toNat:Int)) (by omega) (show 0<n by omega);exact h _ (fun _=>⟨q5,q6⟩) (by omega) hR'
theorem zuj{l:List (List UInt8)}{b:List Int}{p:Int}{m:Nat}{Q:List UInt8×List Int×Int->Prop}(hR:Rd b p m)(hm:m<=1099511627776)(hl:0<l.length)(h:∀v∈l,Rd b (p+1) (m+1)->Q (v,b,p+1)):wp (zdr (l,b,p)) Q:=by rw[zi9];unfold zhp;simp only[ywa,ywb,ywc,ywd,ywe,yhw,yhx,yhv,yhy,yhz,yhb,yhc,yhd,yhu,yhe,yhf,yhg,yhh,yhi,yhj,yhk,yhl,yhm,yhn,yho,yhp];refine zbf hR hm fun v hv _ hR'=>?_;obtain⟨h1,h2⟩:=hv (by omega);exact⟨by omega,by omega,h _ (ygh _) hR'⟩
end Go.Fw
namespace Go.Fw
open Go
theorem ztu{α:Type}{l:List α}{q:α->Bool}{Q:Int⊕Int->Prop}(hl:l.length<=4611686018427387904)
 (h1:∀(i:Nat)(hi:i<l.length),q l[i]=true->(∀(j:Nat)(hj:j<i),q (l[j]'(by omega))=false)->Q (.inr i))(h2:(∀x∈l,q x=false)->Q (.inl l.length)):
 wp (zaB (fun s:Int=>zab (decide (s<(l.length:Int))) (gd (decide (0<=s)) (zaa l[s.toNat]? fun x=>zab (q x) (some (Sum.inr (Sum.inr s))) (gd (zaH (s+1)) (some (Sum.inl (s+1)))))) (some (Sum.inr (Sum.inl s)))) 0) Q:=by
 refine zao (fun s:Int=>0<=s/\s<=l.length/\∀(j:Nat)(hj:j<s.toNat)(hj':j<l.length),q l[j]=false) (fun s:Int=>l.length-s.toNat) ⟨by omega,by omega,fun j hj=>by simp at hj⟩ fun s ⟨i1,i2,i3⟩=>?_;simp only[ywa,ywb,ywc,ywd,ywe,yhw,yhx,yhv,yhy,yhz,yhb,yhc,yhd,yhu,yhe,yhf,yhg,yhh,yhi,yhj,yhk,yhl,yhm,yhn,yho,yhp];refine⟨fun hlt=>⟨i1,by omega,fun hq=>?_,fun hq=>⟨⟨by omega,by omega⟩,⟨by omega,by omega,fun j hj hj'=>?_⟩,by omega⟩⟩,fun hge=>?_⟩
 ·have:=h1 s.toNat (by omega) hq fun j hj=>i3 j hj (by omega);rwa [Int.toNat_of_nonneg i1]at this
 ·rcases Nat.lt_or_ge j s.toNat with h|h
  ·exact i3 j h hj'
  ·obtain rfl:j=s.toNat:=by omega
   exact hq
 ·have:s=l.length:=by omega
  rw[this];refine h2 fun x hx=>?_;obtain⟨j,hj,rfl⟩:=List.getElem_of_mem hx;exact i3 j (by omega) hj
theorem zvK(n:Nat)(d:Int):Le (zbm n d) (zbm (n+1) d):=by
 induction n generalizing d with
 |zero=>exact Le.none
 |succ n ih=>rw[zbm,zbm];exact .cond (.refl _) (.cond (.gd (.bind (ih _) fun _=>.refl _)) (.cond (.refl _) (.gd (.bind (ih _) fun _=>.refl _))))
theorem zo1(n:Int):(List.map zpQ [IntKind.wrap .u8 n]).length=1:=rfl
theorem zx2(n:Nat):∀(d:Int){Q:List UInt8->Prop},0<=d->d<10 ^ (n+1)->d<9223372036854775807->n<=1000->(∀s,s.length<=n+1->Q s)->wp (zbm (n+1) d) Q:=by
 induction n with
 |zero=>intro d Q h1 h2 _ hn h;have hB:BIG=9223372036854775807:=rfl;rw[zbm];simp only[ywa,ywb,ywc,ywd,ywe,yhw,yhx,yhv,yhy,yhz,yhb,yhc,yhd,yhu,yhe,yhf,yhg,yhh,yhi,yhj,yhk,yhl,yhm,yhn,yho,yhp,zo1,yhs,yht];exact⟨by omega,fun _=>⟨by omega,fun _=>⟨fun hd=>⟨⟨by omega,by omega⟩,by omega,h _ (by rw[zo1];omega)⟩,fun hd=>by omega⟩⟩⟩
 |succ n ih=>
  intro d Q h1 h2 h5 hn h;have hB:BIG=9223372036854775807:=rfl;rw[zbm];simp only[ywa,ywb,ywc,ywd,ywe,yhw,yhx,yhv,yhy,yhz,yhb,yhc,yhd,yhu,yhe,yhf,yhg,yhh,yhi,yhj,yhk,yhl,yhm,yhn,yho,yhp,zo1,yhs,yht];refine⟨by omega,fun _=>⟨by omega,fun _=>⟨fun hd=>⟨⟨by omega,by omega⟩,by omega,h _ (by rw[zo1];omega)⟩,fun hd=>?_⟩⟩⟩;have h3:Int.tdiv d 10=d / 10:=Int.tdiv_eq_ediv_of_nonneg h1;have h4:Int.tmod d 10=d % 10:=Int.tmod_eq_emod_of_nonneg h1;rw[h3,h4];refine⟨⟨by omega,by omega⟩,ih _ (by omega) ?_ (by omega) (by omega) fun s hs=>⟨⟨by omega,by omega⟩,by omega,by omega,h _ ?_⟩⟩
  ·rw[Int.pow_succ]at h2;omega
  ·rw[yhr,zo1];omega
theorem zxf{d:Int}{Q:List UInt8->Prop}(h1:0<=d)(h2:d<1000000000000000000)(h:∀s,s.length<=18->Q s):wp (zgM d) Q:=
 zim zvK (zx2 17 d h1 (by omega) (by omega) (by omega) h)
def isSc(s:List UInt8):Bool:=s==[105,110,116] ||s==[116,101,120,116] ||s==[98,111,111,108]
theorem zeq{s:List UInt8}{Q:Bool->Prop}(h:Q (isSc s)):wp (zbu s) Q:=by
 rw[zeD];unfold zd3;simp only[ywa,ywb,ywc,ywd,ywe,yhw,yhx,yhv,yhy,yhz,yhb,yhc,yhd,yhu,yhe,yhf,yhg,yhh,yhi,yhj,yhk,yhl,yhm,yhn,yho,yhp];unfold isSc at h;refine⟨fun e=>?_,fun e1=>⟨fun e=>?_,fun e2=>?_⟩⟩
 ·subst e;exact h
 ·subst e;exact h
 ·rw[yhg.2 e1,yhg.2 e2]at h;exact h
def Fst{α:Type}(l:List α)(q:α->Bool)(r:Int):Prop:=(r= -1/\∀x∈l,q x=false)\/∃(i:Nat)(hi:i<l.length),r=i/\q l[i]=true/\∀(j:Nat)(hj:j<i),q (l[j]'(by omega))=false
theorem ze2{p:Part}{nm:List UInt8}{Q:Int->Prop}(hl:p.types.length<=4611686018427387904)(h:∀r,Fst p.types (fun t=>t.name==nm) r->Q r):wp (zb9 (p,nm)) Q:=by
 rw[zj5];unfold zjD;rw[ywb];refine ztu hl (fun i hi hq hn=>?_) fun hn=>?_
 ·exact ywd.2 (h _ (.inr ⟨i,hi,rfl,hq,hn⟩))
 ·exact ywd.2 (h _ (.inl ⟨rfl,hn⟩))
theorem zeR{t:Typ}{nm:List UInt8}{Q:Int->Prop}(hl:t.fields.length<=4611686018427387904)(h:∀r,Fst t.fields (fun t=>t.name==nm) r->Q r):wp (zbS (t,nm)) Q:=by
 rw[zjb];unfold zhr;rw[ywb];refine ztu hl (fun i hi hq hn=>?_) fun hn=>?_
 ·exact ywd.2 (h _ (.inr ⟨i,hi,rfl,hq,hn⟩))
 ·exact ywd.2 (h _ (.inl ⟨rfl,hn⟩))
theorem Fst.lt{α:Type}{l:List α}{q:α->Bool}{r:Int}(h:Fst l q r):-1<=r/\r<l.length:=by rcases h with⟨h,_⟩|⟨i,hi,h,_⟩<;>omega
theorem Fst.at{α:Type}{l:List α}{q:α->Bool}{r:Int}(h:Fst l q r)(h0:0<=r):∃hi:r.toNat<l.length,q l[r.toNat]=true:=by
 rcases h with⟨h,_⟩|⟨i,hi,rfl,hq,_⟩
 ·omega
 ·exact⟨hi,hq⟩
theorem Fst.some{α:Type}{l:List α}{q:α->Bool}{r:Int}(h:Fst l q r)(hx:∃x∈l,q x=true):0<=r:=by
 rcases h with⟨_,h⟩|⟨i,hi,rfl,_⟩
 ·obtain⟨x,hx,hq⟩:=hx;rw[h x hx]at hq;cases hq
 ·omega
structure SmF (f:Field):Prop where
 name:f.name.length<=100
 of:f.of.length<=100
 needs:f.needs.length<=100
 need:∀x∈f.needs,x.length<=100
structure SmT (N:Nat)(t:Typ):Prop where
 name:t.name.length<=100
 key:t.key.length<=100
 fields:t.fields.length<=N
 field:∀f∈t.fields,SmF f
structure SmP (N:Nat)(p:Part):Prop where
 name:p.name.length<=100
 types:p.types.length<=N
 type:∀t∈p.types,SmT N t
theorem SmT.up{N M:Nat}{t:Typ}(h:SmT N t)(hn:N<=M):SmT M t:=⟨h.name,h.key,Nat.le_trans h.fields hn,h.field⟩
theorem SmP.up{N M:Nat}{p:Part}(h:SmP N p)(hn:N<=M):SmP M p:=⟨h.name,Nat.le_trans h.types hn,fun t ht=>(h.type t ht).up hn⟩
theorem zug{N:Nat}{pn nm:List UInt8}{ts:List Typ}{Q:List UInt8×List Typ->Prop}(hN:N<=100000)(hp:SmP N ⟨pn,ts⟩)(hn:nm.length<=100)(h:∀ts',SmP (N+1) ⟨pn,ts'⟩->(∃l,ts'=ts++l)->(isSc nm=true\/∃t∈ts',(t.name==nm)=true)->Q (pn,ts')):wp (zfo (pn,nm,ts)) Q:=by
 have hL:LIM=1099511627776:=rfl;have hN1:=hp.types;have hN2:ts.length<=N:=hp.types;have key:∀k fs,k.length<=100->fs.length=1->(∀f∈fs,SmF f)->SmP (N+1) ⟨pn,ts++[⟨nm,k,fs⟩]⟩:=fun k fs hk hf1 hf=>by
  refine⟨hp.name,by simp only[yhr,yhs,yht];omega,fun t ht=>?_⟩;rcases List.mem_append.1 ht with ht|ht
  ·exact(hp.type t ht).up (by omega)
  ·obtain rfl:=List.mem_singleton.1 ht;exact⟨hn,hk,by show fs.length<=_;omega,hf⟩
 have fld:∀f:Field,f.name.length<=100->f.of.length<=100->f.needs=[]->∀g∈[f],SmF g:=fun f h1 h2 h3 g hg=>by obtain rfl:=List.mem_singleton.1 hg;exact⟨h1,h2,by rw[h3];simp,by rw[h3];simp⟩
 rw[zi8];unfold zhn;simp only[ywa,ywb,ywc,ywd,ywe,yhw,yhx,yhv,yhy,yhz,yhb,yhc,yhd,yhu,yhe,yhf,yhg,yhh,yhi,yhj,yhk,yhl,yhm,yhn,yho,yhp,yhs,yht];refine zeq ⟨fun hs=>h ts (hp.up (by omega)) ⟨[],by simp⟩ (.inl hs),fun _=>?_⟩;refine ze2 (by show ts.length<=_;omega) fun r hr=>⟨fun h0=>?_,fun _=>⟨fun _=>?_,fun _=>?_⟩⟩
 ·obtain⟨hi,hq⟩:=hr.at h0;exact h ts (hp.up (by omega)) ⟨[],by simp⟩ (.inr ⟨_,ygh _,hq⟩)
 ·exact⟨by omega,h _ (key _ _ (by simp) rfl (fld _ (by simp) (by simp) rfl)) ⟨_,rfl⟩ (.inr ⟨_,List.mem_append_right _ (List.mem_singleton.2 rfl),by simp⟩)⟩
 ·exact⟨by omega,h _ (key _ _ (by simp) rfl (fld _ (by simp) (by simp) rfl)) ⟨_,rfl⟩ (.inr ⟨_,List.mem_append_right _ (List.mem_singleton.2 rfl),by simp⟩)⟩
end Go.Fw
namespace Go.Fw
open Go
theorem SmP.set{N:Nat}{pn:List UInt8}{ts:List Typ}(hp:SmP N ⟨pn,ts⟩)(i:Nat){t:Typ}(ht:SmT N t):SmP N ⟨pn,ts.set i t⟩:=by
 refine⟨hp.name,by have:=hp.types;simpa using this,fun u hu=>?_⟩;rcases List.mem_or_eq_of_mem_set hu with hu|rfl
 ·exact hp.type u hu
 ·exact ht
theorem zyf{N:Nat}{pn nm:List UInt8}{f:Field}{ts:List Typ}{Q:List UInt8×List Typ->Prop}(hN:N<=10000)(hp:SmP N ⟨pn,ts⟩)(hn:nm.length<=100)(hs:isSc nm=false)(hf:SmF f)(hfn:f.needs.length<=1)
 (h:∀ts',SmP (N+4) ⟨pn,ts'⟩->Q (pn,ts')):wp (zd5 (pn,nm,f,ts)) Q:=by
 have hL:LIM=1099511627776:=rfl;rw[zi7];unfold zhm;simp only[ywb];refine zug (by omega) hp hn fun t1 hp1 _ hs1=>?_;refine zug (by omega) hp1 hf.of fun t2 hp2 ⟨l2,e2⟩ _=>?_;have hl2:t2.length<=N+1+1:=hp2.types;refine ze2 (by show t2.length<=_;omega) fun r hr=>?_;have hr0:0<=r:=hr.some (by
  rcases hs1 with h|⟨t,ht,hq⟩
  ·rw[hs]at h;cases h
  ·exact⟨t,by show t∈t2;rw[e2];exact List.mem_append_left _ ht,hq⟩)
 obtain⟨hi,hq⟩:=hr.at hr0;change r.toNat<t2.length at hi;have hT:SmT (N+1+1) t2[r.toNat]:=hp2.type _ (ygh _);have hTf:=hT.fields;simp only[ywa,ywb,ywc,ywd,ywe,yhw,yhx,yhv,yhy,yhz,yhb,yhc,yhd,yhu,yhe,yhf,yhg,yhh,yhi,yhj,yhk,yhl,yhm,yhn,yho,yhp,List.set_getElem_self,List.getElem_set_self,List.length_set,yhs,yht];refine⟨⟨hr0,by omega⟩,hi,zeR (by omega) fun k hk=>⟨fun hk0=>?_,fun hk0=>?_⟩⟩
 ·obtain⟨hki,_⟩:=hk.at hk0;refine⟨⟨hr0,by omega⟩,hi,⟨hk0,by omega⟩,hki,fun _=>h _ (hp2.up (by omega)),fun _=>⟨⟨hr0,by omega⟩,hi,⟨hk0,by omega⟩,hki,h _ ((hp2.up (by omega)).set _ ?_)⟩⟩;refine⟨hT.name,hT.key,by show(List.set _ _ _).length<=_;rw[List.length_set];omega,fun g hg=>?_⟩;rcases List.mem_or_eq_of_mem_set hg with hg|rfl
  ·exact hT.field g hg
  ·exact⟨hf.name,hf.of,hf.needs,hf.need⟩
 ·refine zao (fun s:Int×List UInt8×List Typ×List UInt8×List Typ=>0<=s.1/\s.1<=f.needs.length/\s.2.1=pn/\s.2.2.1.length=t2.length/\SmP (N+2+s.1.toNat) ⟨pn,s.2.2.1⟩) (fun s=>f.needs.length-s.1.toNat)
   ⟨by simp,by simp,rfl,rfl,hp2.up (by simp)⟩ fun s ⟨i1,i2,i3,i4,i5⟩=>?_
  have app:∀(ts:List Typ)(M:Nat)(hi:r.toNat<ts.length)(g:Field),SmP M ⟨pn,ts⟩->SmF g->SmP (M+1) ⟨pn,ts.set r.toNat ⟨ts[r.toNat].name,ts[r.toNat].key,ts[r.toNat].fields++[g]⟩⟩:=fun ts M hi g h hg=>by
   have hT:=h.type _ (ygh hi);have:=hT.fields;refine(h.up (by omega)).set _ ⟨hT.name,hT.key,by simp only[yhr,yhs,yht];omega,fun u hu=>?_⟩;rcases List.mem_append.1 hu with hu|hu
   ·exact hT.field u hu
   ·obtain rfl:=List.mem_singleton.1 hu;exact hg
  have hlen:∀(ts:List Typ)(M:Nat)(hi:r.toNat<ts.length),SmP M ⟨pn,ts⟩->(ts[r.toNat].fields).length<=M:=fun ts M hi h=>(h.type _ (ygh hi)).fields;simp only[ywa,ywb,ywc,ywd,ywe,yhw,yhx,yhv,yhy,yhz,yhb,yhc,yhd,yhu,yhe,yhf,yhg,yhh,yhi,yhj,yhk,yhl,yhm,yhn,yho,yhp,List.set_getElem_self,List.getElem_set_self,List.length_set,yhs,yht];refine⟨fun hlt=>⟨⟨hr0,by omega⟩,by omega,i1,by omega,?_⟩,fun hge=>?_⟩
  ·have hl:=hlen s.2.2.1 _ (by omega) i5;refine zeR (by omega) fun k hk=>⟨fun _=>⟨⟨hr0,by omega⟩,by omega,i1,by omega,by omega,⟨hr0,by omega⟩,⟨by omega,by omega⟩,⟨by omega,by omega,i3,i4,?_⟩,by omega⟩,fun _=>⟨⟨by omega,by omega⟩,⟨by omega,by omega,i3,i4,i5.up (by omega)⟩,by omega⟩⟩
   have:=app s.2.2.1 _ (by omega) ⟨f.needs[s.1.toNat]'(by omega),[105,110,116],false,false,true,false,false,[]⟩ i5 ⟨hf.need _ (ygh _),by simp,by simp,by simp⟩;exact this.up (by omega)
  ·have hl:=hlen s.2.2.1 _ (by omega) i5;refine⟨⟨hr0,by omega⟩,by omega,by omega,⟨hr0,by omega⟩,?_⟩;rw[i3];exact h _ ((app s.2.2.1 _ (by omega) f i5 hf).up (by omega))
end Go.Fw
namespace Go.Fw
open Go
theorem zaw{α Z:Type}{x:Option α}{f:α->Option Z}{Q:Z->Prop}(R:α->Prop)(h:wp x R)(hf:∀a,R a->wp (f a) Q):wp (zaa x f) Q:=ywb.2 (h.mono hf)
def zCn(f:Field):Bool:=decide (f.name.length<=100)&&decide (f.of.length<=100)&&decide (f.needs.length<=1)&&f.needs.all fun x=>decide (x.length<=100)
theorem zA0{f:Field}(h:zCn f=true):SmF f/\f.needs.length<=1:=by simp only[zCn,yhb,yhc,List.all_eq_true]at h;obtain⟨⟨⟨h1,h2⟩,h3⟩,h4⟩:=h;exact⟨⟨h1,h2,by omega,h4⟩,h3⟩
noncomputable def zfw:List Typ:=(zeA ()).getD []
theorem zl8:zdq ()=some zfw:=(zgv ()).trans rfl
theorem zeS:zfw.length=4:=by kernel_rfl
theorem zpE:(zfw.all fun t=>decide (t.name.length<=100)&&decide (t.key.length<=100)&&!(isSc t.name)&&decide (t.fields.length<=7)&&t.fields.all zCn)=true:=by kernel_rfl
theorem zl9{t:Typ}(h:t∈zfw):t.name.length<=100/\t.key.length<=100/\isSc t.name=false/\t.fields.length<=7/\∀f∈t.fields,SmF f/\f.needs.length<=1:=by have:=List.all_eq_true.1 zpE t h;simp only[yhb,yhc,yho,List.all_eq_true]at this;obtain⟨⟨⟨⟨h1,h2⟩,h3⟩,h4⟩,h5⟩:=this;exact⟨h1,h2,h3,h4,fun f hf=>zA0 (h5 f hf)⟩
structure Pts (n N:Nat)(ps:List Part):Prop where
 len:ps.length=n
 sm:∀p∈ps,SmP N p
theorem Pts.up{n N M:Nat}{ps:List Part}(h:Pts n N ps)(hN:N<=M):Pts n M ps:=⟨h.len,fun p hp=>(h.sm p hp).up hN⟩
theorem Pts.set{n N:Nat}{ps:List Part}(h:Pts n N ps)(i:Nat){p:Part}(hp:SmP N p):Pts n N (ps.set i p):=by
 refine⟨by rw[List.length_set];exact h.len,fun q hq=>?_⟩;rcases List.mem_or_eq_of_mem_set hq with hq|rfl
 ·exact h.sm q hq
 ·exact hp
theorem Rd.up{b:List Int}{p:Int}{m k:Nat}(h:Rd b p m)(hk:m<=k):Rd b p k:=⟨h.len,h.byt,h.pos,by have:=h.far;omega⟩
abbrev zw8:=List UInt8×List UInt8×Bool×Bool×Bool×Bool×Bool×List (List UInt8)
structure FTok (x:zw8):Prop where
 name:x.1.length<=100
 of:x.2.1.length<=100
 needs:x.2.2.2.2.2.2.2.length<=1
 need:∀y∈x.2.2.2.2.2.2.2,y.length<=100
theorem FTok.sm{x:zw8}(h:FTok x)(a b c d e:Bool):SmF ⟨x.1,x.2.1,a,b,c,d,e,x.2.2.2.2.2.2.2⟩:=⟨h.name,h.of,Nat.le_trans h.needs (by omega),h.need⟩
theorem FTok.tr{x y:zw8}(h:FTok x)(h1:y.1=x.1)(h2:y.2.1=x.2.1)(h3:y.2.2.2.2.2.2.2=x.2.2.2.2.2.2.2):FTok y:=⟨h1 ▸ h.name,h2 ▸ h.of,h3 ▸ h.needs,h3 ▸ h.need⟩
theorem zwp{b:List Int}{p:Int}{m:Nat}{Q:List Part×List Int×Int->Prop}(hR:Rd b p m)(hm:m<=1000000000000)
 (h:∀ps b' p' n,1<=n->n<=3->Pts n 300 ps->Rd b' p' (m+400)->Q (ps,b',p')):wp (zf0 (b,p)) Q:=by
 have hL:LIM=1099511627776:=rfl;have hB:BIG=9223372036854775807:=rfl;rw[zhF];unfold zfU;simp only[ywb];refine zbf hR (by omega) fun v hv _ hR1=>?_;have hv:=hv (by omega);rw[ywa];refine⟨zaX (by omega) (by omega),?_⟩;rw[ywb];refine zao (fun s:Int×(List Int×Int)×List Part=>0<=s.1/\s.1<=1+v/\s.2.1=(b,p+1)/\Pts s.1.toNat 1 s.2.2) (fun s=>(1+v).toNat-s.1.toNat) ⟨by simp,by omega,rfl,rfl,by simp⟩ fun s ⟨i1,i2,i3,i4⟩=>?_;have il:=i4.len;simp only[ywa,ywb,ywc,ywd,ywe,yhw,yhx,yhv,yhy,yhz,yhb,yhc,yhd,yhu,yhe,yhf,yhg,yhh,yhi,yhj,yhk,yhl,yhm,yhn,yho,yhp,yhs,yht];refine⟨fun hlt=>⟨i1,by omega,zxf i1 (by omega) fun ds hds=>⟨by omega,by omega,⟨by omega,by omega⟩,⟨by omega,by omega,i3,?_⟩,by omega⟩⟩,fun hge=>?_⟩
 ·refine⟨by simp only[yhr,yhs,yht];omega,fun q hq=>?_⟩;rcases List.mem_append.1 hq with hq|hq
  ·exact i4.sm q hq
  ·obtain rfl:=List.mem_singleton.1 hq;refine⟨?_,by simp,fun t ht=>?_⟩
   ·have hx:∀x∈([[101,97,115,116],[119,101,115,116],[110,111,114,116,104]]:List (List UInt8)),x.length<=100:=by decide
    exact hx _ (ygh _)
   ·obtain rfl:=List.mem_singleton.1 ht;refine⟨by simp,by simp,by simp,fun f hf=>?_⟩;obtain rfl:=List.mem_singleton.1 hf;exact⟨by simp;omega,by simp,by simp,by simp⟩
 have hs:s.1=1+v:=by omega
 rw[i3];refine⟨_,zl8,?_⟩;refine zbf hR1 (by omega) fun home hhome _ hR2=>?_;have hhome:=hhome (by omega);refine zao (fun t:Int×(List Int×Int)×List Part=>0<=t.1/\t.1<=4/\Rd t.2.1.1 t.2.1.2 (m+2+70*t.1.toNat)/\Pts (1+v).toNat (1+64*t.1.toNat) t.2.2) (fun t=>4-t.1.toNat)
  ⟨by simp,by simp,hR2.up (by simp),by have:=i4.up (M:=1+64*0) (by omega);rw[hs]at this;exact this⟩ fun t ⟨j1,j2,j3,j4⟩=>?_
 rw[ywc,zeS];simp only[yhc,yhd];refine⟨fun hlt=>?_,fun hge=>?_⟩
 ·have hti:t.1.toNat<zfw.length:=by rw[zeS];omega
  obtain⟨g1,g2,g3,g4,g5⟩:=zl9 (ygh hti);rw[ywb];refine zao (fun u:Int×(List Int×Int)×List Part=>0<=u.1/\u.1<=(zfw[t.1.toNat]'hti).fields.length/\Rd u.2.1.1 u.2.1.2 (m+2+70*t.1.toNat+8*u.1.toNat)/\Pts (1+v).toNat (1+64*t.1.toNat+8*u.1.toNat) u.2.2) (fun u=>7-u.1.toNat)
   ⟨by simp,by simp,j3.up (by simp),j4.up (by simp)⟩ fun u ⟨k1,k2,k3,k4⟩=>?_
  have k5:=k4.len;rw[ywa,ywb,ywe];refine⟨by simpa using j1,hti,?_⟩;generalize hT:zfw[t.1.toNat]'hti=T at g1 g2 g3 g4 g5 k2|-;rw[ywc];simp only[yhc,yhd];refine⟨fun hu=>?_,fun hu=>?_⟩
  ·rw[ywa,ywb,ywe];refine⟨by simpa using j1,hti,?_⟩;rw[hT];rw[ywa,ywb,ywe];refine⟨by simpa using k1,by omega,?_⟩;have hf:=g5 (T.fields[u.1.toNat]'(by omega)) (ygh _);generalize T.fields[u.1.toNat]'(by omega)=f at hf;have hft:FTok (f.name,f.of,f.list,f.must,f.far,f.hidden,f.shared,f.needs):=⟨hf.1.name,hf.1.of,hf.2,hf.1.need⟩
   generalize hM:m+2+70*t.1.toNat+8*u.1.toNat=M at k3;generalize hN:1+64*t.1.toNat+8*u.1.toNat=N at k4;refine zaw (fun x:Bool×(List Int×Int)×List Part×zw8=>Rd x.2.1.1 x.2.1.2 (M+1)/\x.2.2.1=u.2.2/\FTok x.2.2.2) ?_ fun x7 ⟨a1,a2,a3⟩=>?_
   ·simp only[ywa,ywb,ywc,ywd,ywe,yhw,yhx,yhv,yhy,yhz,yhb,yhc,yhd,yhu,yhe,yhf,yhg,yhh,yhi,yhj,yhk,yhl,yhm,yhn,yho,yhp];refine⟨fun _=>⟨k3.up (by omega),hft⟩,fun _=>⟨fun _=>⟨k3.up (by omega),hft⟩,fun _=>⟨fun _=>⟨fun _=>?_,fun _=>⟨k3.up (by omega),hft⟩⟩,fun _=>⟨k3.up (by omega),hft⟩⟩⟩⟩;exact zbf k3 (by omega) fun _ _ _ h=>⟨h,hft⟩
   rw[ywc];refine⟨fun _=>?_,fun _=>?_⟩
   ·simp only[ywa,ywb,ywc,ywd,ywe,yhw,yhx,yhv,yhy,yhz,yhb,yhc,yhd,yhu,yhe,yhf,yhg,yhh,yhi,yhj,yhk,yhl,yhm,yhn,yho,yhp];exact⟨by omega,⟨by omega,by omega,a1.up (by omega),by rw[a2];exact k4.up (by omega)⟩,by omega⟩
   rw[ywb];refine zbf a1 (by omega) fun to hto _ hR8=>?_;have hto:=hto (by omega);refine zaw (fun x:Bool×(List Int×Int)×List Part×zw8=>Rd x.2.1.1 x.2.1.2 (M+3)/\x.2.2.1=u.2.2/\FTok x.2.2.2) ?_ fun x9 ⟨b1,b2,b3⟩=>?_
   ·simp only[ywa,ywb,ywc,ywd,ywe,yhw,yhx,yhv,yhy,yhz,yhb,yhc,yhd,yhu,yhe,yhf,yhg,yhh,yhi,yhj,yhk,yhl,yhm,yhn,yho,yhp];refine⟨fun _=>zbf hR8 (by omega) fun _ _ _ h=>⟨h,a2,a3⟩,fun _=>⟨j1,hti,fun _=>zbf hR8 (by omega) fun _ _ _ h=>⟨h,a2,a3⟩,fun _=>⟨hR8.up (by omega),a2,a3⟩⟩⟩
   refine zaw (fun x:Int×(List Int×Int)×List Part×zw8=>0<=x.1/\x.1<1+v/\Rd x.2.1.1 x.2.1.2 (M+3)/\x.2.2.1=u.2.2/\FTok x.2.2.2) ?_ fun x10 ⟨c1,c2,c3,c4,c5⟩=>?_
   ·simp only[ywa,ywb,ywc,ywd,ywe,yhw,yhx,yhv,yhy,yhz,yhb,yhc,yhd,yhu,yhe,yhf,yhg,yhh,yhi,yhj,yhk,yhl,yhm,yhn,yho,yhp];exact⟨fun _=>⟨hhome.1,hhome.2,b1,b2,b3⟩,fun _=>⟨hto.1,hto.2,b1,b2,b3⟩⟩
   rw[ywb];refine zbf c3 (by omega) fun hid _ _ hR11=>?_;refine zaw (fun x:Bool×(List Int×Int)×List Part×zw8=>Rd x.2.1.1 x.2.1.2 (M+6)/\x.2.2.1=u.2.2/\FTok x.2.2.2) ?_ fun x12 ⟨d1,d2,d3⟩=>?_
   ·simp only[ywa,ywb,ywc,ywd,ywe,yhw,yhx,yhv,yhy,yhz,yhb,yhc,yhd,yhu,yhe,yhf,yhg,yhh,yhi,yhj,yhk,yhl,yhm,yhn,yho,yhp];refine⟨fun _=>zbf hR11 (by omega) fun _ _ _ h=>⟨h.up (by omega),c4,c5.tr rfl rfl rfl⟩,fun _=>zbf hR11 (by omega) fun _ _ _ h=>⟨fun _=>zbf h (by omega) fun _ _ _ h=>⟨h,c4,c5.tr rfl rfl rfl⟩,fun _=>⟨h.up (by omega),c4,c5.tr rfl rfl rfl⟩⟩⟩
   have give:∀(ps:List Part)(i:Int)(K:Nat)(g:Field){R:List UInt8×List Typ->Prop},K<=10000->Pts (1+v).toNat K ps->(hi:i.toNat<ps.length)->SmF g->g.needs.length<=1->(∀ts',Pts (1+v).toNat (K+4) (ps.set i.toNat ⟨ps[i.toNat].name,ts'⟩)->R (ps[i.toNat].name,ts'))->
    wp (zd5 (ps[i.toNat].name,T.name,g,ps[i.toNat].types)) R:=fun ps i K g R hK hps hi hg hgn hr=>
    zyf hK (hps.sm _ (ygh hi)) g1 g3 hg hgn fun ts' hts=>hr ts' ((hps.up (by omega)).set _ hts)
   refine zaw (fun x:(List Int×Int)×List Part×zw8=>Rd x.1.1 x.1.2 (M+6)/\Pts (1+v).toNat (N+4) x.2.1/\FTok x.2.2) ?_ fun x ⟨e1,e2,e3⟩=>?_
   ·simp only[ywa,ywb,ywc,ywd,ywe,yhw,yhx,yhv,yhy,yhz,yhb,yhc,yhd,yhu,yhe,yhf,yhg,yhh,yhi,yhj,yhk,yhl,yhm,yhn,yho,yhp];refine⟨fun _=>?_,fun _=>⟨d1,by rw[d2];exact k4.up (by omega),d3⟩⟩;obtain⟨q1,q2⟩:=zlc (show 0<=x10.1+1 by omega) (show 0<1+v by omega);have q3:(Int.tmod (x10.1+1) (1+v)).toNat<x12.2.2.1.length:=by rw[d2,k5];omega
    refine⟨by omega,by omega,by omega,by omega,⟨q1,by omega⟩,q3,j1,hti,?_⟩;rw[hT];refine give x12.2.2.1 _ N _ (by omega) (by rw[d2];exact k4) q3 (d3.sm _ _ _ _ _) d3.needs fun ts' hts=>?_;exact⟨⟨q1,by omega⟩,d1,hts,d3.tr rfl rfl rfl⟩
   have e4:=e2.len;have e5:x10.1.toNat<x.2.1.length:=by omega
   simp only[ywa,ywb,ywc,ywd,ywe,yhw,yhx,yhv,yhy,yhz,yhb,yhc,yhd,yhu,yhe,yhf,yhg,yhh,yhi,yhj,yhk,yhl,yhm,yhn,yho,yhp];refine⟨⟨c1,by omega⟩,e5,j1,hti,?_⟩;rw[hT];refine give x.2.1 _ (N+4) _ (by omega) e2 e5 (e3.sm _ _ _ _ _) e3.needs fun ts' hts=>?_;exact⟨⟨c1,by omega⟩,by omega,⟨by omega,by omega,e1.up (by omega),hts.up (by omega)⟩,by omega⟩
  ·simp only[ywa,ywb,ywc,ywd,ywe,yhw,yhx,yhv,yhy,yhz,yhb,yhc,yhd,yhu,yhe,yhf,yhg,yhh,yhi,yhj,yhk,yhl,yhm,yhn,yho,yhp];exact⟨by omega,⟨by omega,by omega,k3.up (by omega),k4.up (by omega)⟩,by omega⟩
 ·simp only[ywa,ywb,ywc,ywd,ywe,yhw,yhx,yhv,yhy,yhz,yhb,yhc,yhd,yhu,yhe,yhf,yhg,yhh,yhi,yhj,yhk,yhl,yhm,yhn,yho,yhp];exact h _ _ _ (1+v).toNat (by omega) (by omega) (j4.up (by omega)) (j3.up (by omega))
end Go.Fw
namespace Go.Fw
open Go
theorem zAe{n a b:Int}{Q:Bool->Prop}(h:Q (decide (n>=a)&&decide (n<=b))):wp (zc4 (n,a,b)) Q:=by rw[zj2];unfold znP;simp only[ywa,ywb,ywc,ywd,ywe,yhw,yhx,yhv,yhy,yhz,yhb,yhc,yhd,yhu,yhe,yhf,yhg,yhh,yhi,yhj,yhk,yhl,yhm,yhn,yho,yhp];exact⟨fun h1=>by simpa[h1]using h,fun h1=>by simpa[h1]using h⟩
theorem zwh{s:List UInt8}{Q:Bool->Prop}(hl:s.length<=4611686018427387904)(h:∀r,(r=true->1<=s.length/\s.length<=9)->Q r):wp (zhG s) Q:=by
 rw[zgH];unfold zho;simp only[ywb,ywc,ywd];refine zAe ⟨fun h1=>h false (by simp),fun h1=>?_⟩;simp only[yhp,yhb,yhc]at h1;refine zao (fun s=>0<=s) (fun i:Int=>s.length-i.toNat) (by simp) fun i hi=>?_;simp only[ywa,ywb,ywc,ywd,ywe,yhw,yhx,yhv,yhy,yhz,yhb,yhc,yhd,yhu,yhe,yhf,yhg,yhh,yhi,yhj,yhk,yhl,yhm,yhn,yho,yhp];refine⟨fun hlt=>?_,fun _=>?_⟩
 ·have a1:i.toNat<s.length:=by omega
  have a2:0<=i+1:=by omega
  have a3:s.length-(i+1).toNat<s.length-i.toNat:=by omega
  have a4:-9223372036854775808<=i+1/\i+1<=9223372036854775807:=by omega
  have hF:Q false:=h false (by simp);simp only[a1,a2,a3,a4,hi,exists_const,hF,and_self,yhq,yhn,exists_true_left]
 ·exact h true fun _=>by omega
theorem zdS{s:List UInt8}{Q:Bool->Prop}(hl:s.length<=4611686018427387904)(h:∀r,(r=true->1<=s.length/\s.length<=8)->Q r):wp (zby s) Q:=by
 rw[zgJ];unfold zhs;simp only[ywa,ywb,ywc,ywd,ywe,yhw,yhx,yhv,yhy,yhz,yhb,yhc,yhd,yhu,yhe,yhf,yhg,yhh,yhi,yhj,yhk,yhl,yhm,yhn,yho,yhp];refine zwh hl fun r hr=>⟨fun h1=>⟨fun h2=>?_,fun _=>h _ (by simp)⟩,fun _=>h _ (by simp)⟩
 have h3:∀r,Q r:=fun r=>h r fun _=>by have:=hr h1;omega
 refine⟨by have:=hr h1;simp;omega,fun _=>zeq ?_,fun _=>h3 _⟩;simp only[h3,yhq,and_self]
theorem Fst.find{α:Type}{l:List α}{q:α->Bool}{r:Int}(h:Fst l q r):(r= -1/\l.find? q=none)\/∃(i:Nat)(hi:i<l.length),r=i/\l.find? q=Option.some l[i]/\q l[i]=true:=by
 rcases h with⟨h1,h2⟩|⟨i,hi,h1,h2,h3⟩
 ·exact .inl ⟨h1,List.find?_eq_none.2 fun x hx=>by simp[h2 x hx]⟩
 ·refine .inr ⟨i,hi,h1,?_,h2⟩;rw[List.find?_eq_some_iff_getElem];exact⟨h2,i,hi,rfl,fun j hj=>by simpa using h3 j hj⟩
def zBL:Field:=⟨[],[],false,false,false,false,false,[]⟩
def zpM(p:Part)(nm fl:List UInt8):Field×Bool:=
 match p.types.find? (fun t=>t.name==nm)with
 |none=>(zBL,false)
 |some t=>match t.fields.find? (fun f=>f.name==fl)with
  |none=>(zBL,false)
  |some f=>(f,true)
theorem zq0{N:Nat}{p:Part}{nm fl:List UInt8}{Q:Field×Bool->Prop}(hp:SmP N p)(hN:N<=100000)(h:Q (zpM p nm fl)):wp (zgI (p,nm,fl)) Q:=by
 have hl:=hp.types;rw[zlR];unfold zms;unfold zpM at h;rw[ywb];refine ze2 (by show p.types.length<=_;omega) fun r hr=>?_;rcases hr.find with⟨rfl,hn⟩|⟨i,hi,rfl,hf,_⟩
 ·rw[hn]at h;simp only[ywa,ywb,ywc,ywd,ywe,yhw,yhx,yhv,yhy,yhz,yhb,yhc,yhd,yhu,yhe,yhf,yhg,yhh,yhi,yhj,yhk,yhl,yhm,yhn,yho,yhp];exact⟨fun _=>h,fun h'=>by omega⟩
 ·rw[hf]at h;have hT:=(hp.type _ (ygh hi)).fields;simp only[ywa,ywb,ywc,ywd,ywe,yhw,yhx,yhv,yhy,yhz,yhb,yhc,yhd,yhu,yhe,yhf,yhg,yhh,yhi,yhj,yhk,yhl,yhm,yhn,yho,yhp];refine⟨fun h'=>by omega,fun _=>⟨by omega,by simpa using hi,zeR (by simpa using Nat.le_trans hT (by omega)) fun k hk=>?_⟩⟩;simp only[Int.toNat_natCast]at hk|-;change Q (match List.find? (fun f:Field=>f.name==fl) p.types[i].fields with|none=>(zBL,false)|some f=>(f,true))at h;rcases hk.find with⟨rfl,hn⟩|⟨j,hj,rfl,hg,_⟩
  ·rw[hn]at h;exact⟨fun _=>h,fun h'=>by omega⟩
  ·rw[hg]at h;exact⟨fun h'=>by omega,fun _=>⟨by omega,hi,by omega,by simpa using hj,by simpa using h⟩⟩
theorem zwi{N:Nat}{t:Typ}{f:Field}{Q:Bool->Prop}(ht:SmT N t)(hN:N<=100000)(hf:SmF f)(h:∀r,Q r):wp (zhI (t,f)) Q:=by
 have h1:=ht.fields;have h2:=hf.needs;rw[zjc];unfold zht;refine zaw (fun _=>True) (by simp only[ywa,ywb,ywc,ywd,ywe,yhw,yhx,yhv,yhy,yhz,yhb,yhc,yhd,yhu,yhe,yhf,yhg,yhh,yhi,yhj,yhk,yhl,yhm,yhn,yho,yhp,yhq,and_self]) fun x _=>?_;simp only[ywc,ywd,ywb];refine⟨fun _=>h _,fun _=>?_⟩;refine zao (fun i=>0<=i) (fun i:Int=>f.needs.length-i.toNat) (by simp) fun i hi=>?_;simp only[ywa,ywb,ywc,ywd,ywe,yhw,yhx,yhv,yhy,yhz,yhb,yhc,yhd,yhu,yhe,yhf,yhg,yhh,yhi,yhj,yhk,yhl,yhm,yhn,yho,yhp];refine⟨fun hlt=>⟨hi,by omega,zeR (by omega) fun k hk=>?_⟩,fun _=>h _⟩;have hk1:=hk.lt;have a1:0<=i+1:=by omega
 have a2:f.needs.length-(i+1).toNat<f.needs.length-i.toNat:=by omega
 have a3:-9223372036854775808<=i+1/\i+1<=9223372036854775807:=by omega
 have a4:i.toNat<f.needs.length:=by omega
 simp only[h,a1,a2,a3,a4,hi,yhq,yhn,and_self,exists_const,exists_true_left];refine fun hk0=>?_;(repeat' (first|omega|assumption|rfl|refine fun _=>?_|refine⟨by omega,?_⟩|refine⟨?_,?_⟩))
theorem zAn{N:Nat}{t:Typ}{Q:Bool->Prop}(ht:SmT N t)(hN:N<=100000)(h:∀r,Q r):wp (zmx t) Q:=by have h1:=ht.fields;rw[zlS];unfold zmt;simp only[ywa,ywb,ywc,ywd,ywe,yhw,yhx,yhv,yhy,yhz,yhb,yhc,yhd,yhu,yhe,yhf,yhg,yhh,yhi,yhj,yhk,yhl,yhm,yhn,yho,yhp];refine⟨fun _=>h _,fun _=>zeR (by omega) fun k hk=>⟨fun _=>h _,fun hk0=>?_⟩⟩;have:=hk.lt;refine⟨by omega,by omega,?_⟩;simp only[h,yhq,and_self]
end Go.Fw
namespace Go.Fw
open Go
structure FtOk (p:Part)(t:Typ):Prop where
 pos:1<=t.fields.length
 few:t.fields.length<=8
 of:∀f∈t.fields,isSc f.of=true\/∃u∈p.types,u.name=f.of
theorem zvR{N:Nat}{p:Part}{i:Int}{Q:Int->Prop}(hp:SmP N p)(hN:N<=100000)(h0:0<=i)(hi:i.toNat<p.types.length)(h:∀r,(r=0->FtOk p p.types[i.toNat])->Q r):wp (zhH (p,i)) Q:=by
 have hpl:=hp.types;have ht:=hp.type _ (ygh hi);rw[zja];unfold zhq;rw[ywa,ywb,ywe];refine⟨by simpa using h0,hi,?_⟩;change SmT N (p.types[i.toNat])at ht;generalize p.types[i.toNat]'hi=t at ht h;have hl:=ht.fields;have hn:=ht.name;have hk:=ht.key;have bad:∀r,r≠0->Q r:=fun r hr=>h r fun e=>absurd e hr;refine zaw (fun x=>x=false->1<=t.fields.length/\t.fields.length<=8) ?_ fun x1 g1=>?_
 ·simp only[ywa,ywb,ywc,ywd,ywe,yhw,yhx,yhv,yhy,yhz,yhb,yhc,yhd,yhu,yhe,yhf,yhg,yhh,yhi,yhj,yhk,yhl,yhm,yhn,yho,yhp];refine zdS (by omega) fun a ha=>⟨fun _=>by simp,fun _=>⟨fun _=>zdS (by omega) fun b hb=>⟨fun _=>by simp,fun _=>⟨fun _=>by simp,fun _ h2=>by omega⟩⟩,fun _=>⟨fun _=>by simp,fun _ h2=>by omega⟩⟩⟩
 rw[ywc,ywd];refine⟨fun _=>bad 1 (by omega),fun hx1=>?_⟩;obtain⟨g2,g3⟩:=g1 hx1;rw[ywb];refine zao (fun i=>0<=i) (fun i:Int=>t.fields.length-i.toNat) (by simp) fun a ha=>?_;rw[ywc];simp only[yhc,yhd];refine⟨fun hlt=>?_,fun _=>?_⟩
 ·rw[ywa,ywb,ywe];refine⟨by simpa using ha,by omega,?_⟩;have hf:=ht.field (t.fields[a.toNat]'(by omega)) (ygh _);generalize t.fields[a.toNat]'(by omega)=f at hf;have:=hf.name;have:=hf.of;have:=hf.needs;refine zaw (fun _=>True) ?_ fun x2 _=>?_
  ·simp only[ywa,ywb,ywc,ywd,ywe,yhw,yhx,yhv,yhy,yhz,yhb,yhc,yhd,yhu,yhe,yhf,yhg,yhh,yhi,yhj,yhk,yhl,yhm,yhn,yho,yhp];refine zdS (by omega) fun _ _=>⟨by simp,fun _=>zeq ⟨fun _=>zdS (by omega) (by simp),by simp⟩⟩
  rw[ywc];refine⟨fun _=>?_,fun _=>?_⟩
  ·simp only[ywa,ywb,ywc,ywd,ywe,yhw,yhx,yhv,yhy,yhz,yhb,yhc,yhd,yhu,yhe,yhf,yhg,yhh,yhi,yhj,yhk,yhl,yhm,yhn,yho,yhp];exact bad 1 (by omega)
  ·rw[ywb];refine zao (fun i=>0<=i) (fun i:Int=>f.needs.length-i.toNat) (by simp) fun c hc=>?_;simp only[ywa,ywb,ywc,ywd,ywe,yhw,yhx,yhv,yhy,yhz,yhb,yhc,yhd,yhu,yhe,yhf,yhg,yhh,yhi,yhj,yhk,yhl,yhm,yhn,yho,yhp];refine⟨fun _=>⟨hc,by omega,zdS (by have:=hf.need (f.needs[c.toNat]'(by omega)) (ygh _);omega) fun _ _=>⟨fun _=>?_,fun _=>⟨by omega,by omega,by omega⟩⟩⟩,fun _=>?_⟩
   ·exact bad 1 (by omega)
   ·exact⟨by omega,by omega,by omega⟩
 simp only[ywa,ywb,ywc,ywd,ywe,yhw,yhx,yhv,yhy,yhz,yhb,yhc,yhd,yhu,yhe,yhf,yhg,yhh,yhi,yhj,yhk,yhl,yhm,yhn,yho,yhp];have hpt:p.types.length<=4611686018427387904:=by omega
 refine ze2 hpt fun r _=>⟨fun _=>bad 2 (by omega),fun _=>?_⟩
 refine zao (fun i=>0<=i) (fun i:Int=>t.fields.length-i.toNat) (by simp) fun a ha=>?_;simp only[ywa,ywb,ywc,ywd,ywe,yhw,yhx,yhv,yhy,yhz,yhb,yhc,yhd,yhu,yhe,yhf,yhg,yhh,yhi,yhj,yhk,yhl,yhm,yhn,yho,yhp];refine⟨fun hlt=>⟨ha,by omega,zeR (by omega) fun k _=>⟨fun _=>bad 2 (by omega),fun _=>⟨by omega,by omega,by omega⟩⟩⟩,fun _=>?_⟩;refine zao (fun i:Int=>0<=i/\i<=t.fields.length/\∀(j:Nat)(hj:j<t.fields.length),j<i.toNat->isSc t.fields[j].of=true\/∃u∈p.types,u.name=t.fields[j].of) (fun i:Int=>t.fields.length-i.toNat) ⟨by simp,by simp,by simp⟩ fun b ⟨hb1,hb2,hb3⟩=>?_;simp only[ywa,ywb,ywc,ywd,ywe,yhw,yhx,yhv,yhy,yhz,yhb,yhc,yhd,yhu,yhe,yhf,yhg,yhh,yhi,yhj,yhk,yhl,yhm,yhn,yho,yhp];refine⟨fun hlt=>⟨hb1,by omega,zeq ⟨fun hs=>⟨hb1,by omega,ze2 hpt fun r hr=>⟨fun _=>bad 3 (by omega),fun hr0=>⟨by omega,⟨by omega,by omega,fun j hj hj2=>?_⟩,by omega⟩⟩⟩,fun hs=>⟨by omega,⟨by omega,by omega,fun j hj hj2=>?_⟩,by omega⟩⟩⟩,fun _=>?_⟩
 ·rcases Nat.lt_or_ge j b.toNat with h'|h'
  ·exact hb3 j hj h'
  ·obtain rfl:j=b.toNat:=by omega
   obtain⟨q1,q2⟩:=hr.at (by omega);exact .inr ⟨_,ygh _,by simpa using q2⟩
 ·rcases Nat.lt_or_ge j b.toNat with h'|h'
  ·exact hb3 j hj h'
  ·obtain rfl:j=b.toNat:=by omega
   exact .inl hs
 have hof:∀f∈t.fields,isSc f.of=true\/∃u∈p.types,u.name=f.of:=fun f hf=>by obtain⟨j,hj,rfl⟩:=List.getElem_of_mem hf;exact hb3 j hj (by omega)
 refine zAn ht hN fun r=>⟨fun _=>bad 4 (by omega),fun _=>?_⟩
 refine zao (fun i=>0<=i) (fun i:Int=>t.fields.length-i.toNat) (by simp) fun c hc=>?_;simp only[ywa,ywb,ywc,ywd,ywe,yhw,yhx,yhv,yhy,yhz,yhb,yhc,yhd,yhu,yhe,yhf,yhg,yhh,yhi,yhj,yhk,yhl,yhm,yhn,yho,yhp];refine⟨fun hlt=>⟨hc,by omega,zwi ht hN (ht.field _ (ygh _)) fun r=>?_⟩,fun _=>h 0 fun _=>⟨g2,g3,hof⟩⟩;have b5:=bad 5 (by omega);have a1:0<=c+1:=by omega
 have a2:t.fields.length-(c+1).toNat<t.fields.length-c.toNat:=by omega
 have a3:-9223372036854775808<=c+1/\c+1<=9223372036854775807:=by omega
 have a4:c.toNat<t.fields.length:=by omega
 simp only[b5,a1,a2,a3,a4,hc,yhq,and_self,exists_const,exists_true_left]
theorem zyC{f:Field}{Q:List UInt8->Prop}(hf:SmF f)(h:∀s,s.length<=11000->Q s):wp (zjH f) Q:=by
 have hB:BIG=9223372036854775807:=rfl;have h1:=hf.name;have h2:=hf.of;have h3:=hf.needs;rw[zj4];unfold zjC;refine zaw (fun x=>x.length<=102) ?_ fun x1 g1=>?_
 ·simp only[ywa,ywb,ywc,ywd,ywe,yhw,yhx,yhv,yhy,yhz,yhb,yhc,yhd,yhu,yhe,yhf,yhg,yhh,yhi,yhj,yhk,yhl,yhm,yhn,yho,yhp,yhr,yhs,yht];exact⟨fun _=>⟨by omega,by omega,by omega⟩,fun _=>by omega⟩
 refine zaw (fun x=>x.length<=103) ?_ fun x2 g2=>?_
 ·simp only[ywa,ywb,ywc,ywd,ywe,yhw,yhx,yhv,yhy,yhz,yhb,yhc,yhd,yhu,yhe,yhf,yhg,yhh,yhi,yhj,yhk,yhl,yhm,yhn,yho,yhp,yhr,yhs,yht];exact⟨fun _=>⟨by omega,by omega⟩,fun _=>by omega⟩
 simp only[ywa,yhc,yhr,yhs,yht];refine⟨by omega,by omega,by omega,?_⟩;refine zaw (fun x=>x.length<=300) ?_ fun x3 g3=>?_
 ·simp only[ywa,ywb,ywc,ywd,ywe,yhw,yhx,yhv,yhy,yhz,yhb,yhc,yhd,yhu,yhe,yhf,yhg,yhh,yhi,yhj,yhk,yhl,yhm,yhn,yho,yhp,yhr,yhs,yht];exact⟨fun _=>⟨by omega,by omega⟩,fun _=>by omega⟩
 refine zaw (fun x=>x.length<=310) ?_ fun x4 g4=>?_
 ·simp only[ywa,ywb,ywc,ywd,ywe,yhw,yhx,yhv,yhy,yhz,yhb,yhc,yhd,yhu,yhe,yhf,yhg,yhh,yhi,yhj,yhk,yhl,yhm,yhn,yho,yhp,yhr,yhs,yht];exact⟨fun _=>⟨by omega,by omega⟩,fun _=>by omega⟩
 refine zaw (fun x=>x.length<=320) ?_ fun x5 g5=>?_
 ·simp only[ywa,ywb,ywc,ywd,ywe,yhw,yhx,yhv,yhy,yhz,yhb,yhc,yhd,yhu,yhe,yhf,yhg,yhh,yhi,yhj,yhk,yhl,yhm,yhn,yho,yhp,yhr,yhs,yht];exact⟨fun _=>⟨by omega,by omega⟩,fun _=>by omega⟩
 refine zaw (fun x=>x.length<=330) ?_ fun x6 g6=>?_
 ·simp only[ywa,ywb,ywc,ywd,ywe,yhw,yhx,yhv,yhy,yhz,yhb,yhc,yhd,yhu,yhe,yhf,yhg,yhh,yhi,yhj,yhk,yhl,yhm,yhn,yho,yhp,yhr,yhs,yht];exact⟨fun _=>⟨by omega,by omega⟩,fun _=>by omega⟩
 rw[ywb];refine zao (fun s:List UInt8×Int=>0<=s.2/\s.2<=f.needs.length/\s.1.length<=330+101*s.2.toNat) (fun s=>f.needs.length-s.2.toNat) ⟨by simp,by simp,by simpa using g6⟩ fun s ⟨i1,i2,i3⟩=>?_;simp only[ywa,ywb,ywc,ywd,ywe,yhw,yhx,yhv,yhy,yhz,yhb,yhc,yhd,yhu,yhe,yhf,yhg,yhh,yhi,yhj,yhk,yhl,yhm,yhn,yho,yhp,yhr,yhs,yht];refine⟨fun hlt=>⟨by omega,i1,by omega,?_⟩,fun _=>⟨by omega,h _ (by simp only[yhr,yhs,yht];omega)⟩⟩;have:=hf.need (f.needs[s.2.toNat]'(by omega)) (ygh _);exact⟨by omega,by omega,⟨by omega,by omega,by omega⟩,by omega⟩
theorem zwZ{N:Nat}{p:Part}{Q:List UInt8->Prop}(hp:SmP N p)(hN:N<=100000)(h:∀s,s.length<=1000000000000000->Q s):wp (zhJ p) Q:=by
 have hB:BIG=9223372036854775807:=rfl;have h1:=hp.name;have h2:=hp.types;rw[zjd];unfold zhu;simp only[ywa,yhc,yhr,yhs,yht];refine⟨by omega,by omega,?_⟩;rw[ywb];refine zao (fun s:List UInt8×Int=>0<=s.2/\s.2<=p.types.length/\s.1.length<=106+1100001000*s.2.toNat) (fun s=>p.types.length-s.2.toNat) ⟨by simp,by simp,by simp;omega⟩ fun s ⟨i1,i2,i3⟩=>?_;rw[ywc];simp only[yhc,yhd];refine⟨fun hlt=>?_,fun _=>?_⟩
 ·rw[ywa,ywb,ywe];refine⟨by simpa using i1,by omega,?_⟩;have ht:=hp.type (p.types[s.2.toNat]'(by omega)) (ygh _);generalize p.types[s.2.toNat]'(by omega)=t at ht;have h3:=ht.name;have h4:=ht.key;have h5:=ht.fields;simp only[ywa,yhc,yhr,yhs,yht];refine⟨by omega,by omega,?_⟩;refine zaw (fun x=>x.length<=s.1.length+210) ?_ fun x1 g1=>?_
  ·simp only[ywa,ywb,ywc,ywd,ywe,yhw,yhx,yhv,yhy,yhz,yhb,yhc,yhd,yhu,yhe,yhf,yhg,yhh,yhi,yhj,yhk,yhl,yhm,yhn,yho,yhp,yhr,yhs,yht];exact⟨fun _=>⟨by omega,by omega,by omega⟩,fun _=>by omega⟩
  simp only[ywa,yhc,yhr,yhs,yht];refine⟨by omega,?_⟩;rw[ywb];refine zao (fun u:List UInt8×Int=>0<=u.2/\u.2<=t.fields.length/\u.1.length<=s.1.length+211+11000*u.2.toNat) (fun u=>t.fields.length-u.2.toNat) ⟨by simp,by simp,by simp;omega⟩ fun u ⟨j1,j2,j3⟩=>?_;simp only[ywa,ywb,ywc,ywd,ywe,yhw,yhx,yhv,yhy,yhz,yhb,yhc,yhd,yhu,yhe,yhf,yhg,yhh,yhi,yhj,yhk,yhl,yhm,yhn,yho,yhp,yhr,yhs,yht];refine⟨fun hlt=>⟨j1,by omega,zyC (ht.field _ (ygh _)) fun x hx=>⟨by omega,by omega,⟨by omega,by omega,by omega⟩,by omega⟩⟩,fun _=>⟨by omega,⟨by omega,by omega,by omega⟩,by omega⟩⟩
 ·simp only[ywa,ywb,ywc,ywd,ywe,yhw,yhx,yhv,yhy,yhz,yhb,yhc,yhd,yhu,yhe,yhf,yhg,yhh,yhi,yhj,yhk,yhl,yhm,yhn,yho,yhp];exact h _ (by omega)
structure WF (p:Part):Prop where
 pos:1<=p.types.length
 few:p.types.length<=5
 root:(p.types[0]'(by omega)).name=[113,117,101,114,121]
 type:∀t∈p.types,FtOk p t
theorem zk1{N:Nat}{p:Part}{Q:PFault->Prop}(hp:SmP N p)(hN:N<=100000)(h:∀r,(r.code=0->WF p)->Q r):wp (zcp p) Q:=by
 have h1:=hp.name;have h2:=hp.types;have bad:∀r:PFault,r.code≠0->Q r:=fun r hr=>h r fun e=>absurd e hr;rw[zgu];unfold zez;rw[ywc,ywd];simp only[yhc,yhd];refine⟨fun _=>bad _ (by simp),fun h5=>?_⟩;rw[ywb];refine zdS (by omega) fun x _=>?_;rw[ywc,ywd];refine⟨fun _=>bad _ (by simp),fun _=>?_⟩;refine zaw (fun x=>x=false->∃hp:0<p.types.length,p.types[0].name=[113,117,101,114,121]) ?_ fun x1 g1=>?_
 ·simp only[ywa,ywb,ywc,ywd,ywe,yhw,yhx,yhv,yhy,yhz,yhb,yhc,yhd,yhu,yhe,yhf,yhg,yhh,yhi,yhj,yhk,yhl,yhm,yhn,yho,yhp];refine⟨fun _=>by simp,fun h0=>⟨by simp;omega,fun _=>by simp,fun hq=>⟨by simp;omega,fun _=>⟨by omega,by simpa using hq⟩⟩⟩⟩
 rw[ywc,ywd];refine⟨fun _=>bad _ (by simp),fun hx1=>?_⟩;obtain⟨g2,g3⟩:=g1 hx1;rw[ywb];refine zao (fun s:Int×Int×Int=>0<=s.1/\s.1<=p.types.length/\∀(j:Nat)(hj:j<p.types.length),j<s.1.toNat->FtOk p p.types[j]) (fun s=>p.types.length-s.1.toNat) ⟨by simp,by simp,by simp⟩ fun s ⟨i1,i2,i3⟩=>?_;rw[ywc];simp only[yhc,yhd];refine⟨fun hlt=>?_,fun _=>?_⟩
 ·rw[ywb];refine zvR hp hN i1 (by omega) fun r hr=>?_;rw[ywc];simp only[yhf,yhh,ne_eq];refine⟨fun hr0=>?_,fun hr0=>?_⟩
  ·simp only[ywa,ywb,ywc,ywd,ywe,yhw,yhx,yhv,yhy,yhz,yhb,yhc,yhd,yhu,yhe,yhf,yhg,yhh,yhi,yhj,yhk,yhl,yhm,yhn,yho,yhp];exact⟨by omega,bad _ hr0⟩
  rw[ywb];refine zao (fun u:Int×Int×Int=>0<=u.1) (fun u=>(p.types[s.1.toNat]'(by omega)).fields.length-u.1.toNat) (by simp) fun u hu=>?_;have hT:=(hp.type _ (ygh (show s.1.toNat<p.types.length by omega))).fields;simp only[ywa,ywb,ywc,ywd,ywe,yhw,yhx,yhv,yhy,yhz,yhb,yhc,yhd,yhu,yhe,yhf,yhg,yhh,yhi,yhj,yhk,yhl,yhm,yhn,yho,yhp];refine⟨i1,by omega,fun hlt2=>⟨i1,by omega,hu,by omega,fun _=>⟨by omega,bad _ (by simp)⟩,fun _=>⟨by omega,by omega,by omega⟩⟩,fun _=>⟨by omega,⟨by omega,by omega,fun j hj hj2=>?_⟩,by omega⟩⟩;rcases Nat.lt_or_ge j s.1.toNat with h'|h'
  ·exact i3 j hj h'
  ·obtain rfl:j=s.1.toNat:=by omega
   exact hr hr0
 ·simp only[ywa,ywb,ywc,ywd,ywe,yhw,yhx,yhv,yhy,yhz,yhb,yhc,yhd,yhu,yhe,yhf,yhg,yhh,yhi,yhj,yhk,yhl,yhm,yhn,yho,yhp];refine zwZ hp hN fun w hw=>⟨fun _=>bad _ (by simp),fun _=>h _ fun _=>⟨by omega,by omega,g3,fun t ht=>?_⟩⟩
  obtain⟨j,hj,rfl⟩:=List.getElem_of_mem ht;exact i3 j hj (by omega)
end Go.Fw
namespace Go.Fw
open Go
theorem zoS{N:Nat}{ps:List Part}{nm fl:List UInt8}{Q:List Int->Prop}(hp:∀p∈ps,SmP N p)(hN:N<=100000)(hl:ps.length<=100000)(h:∀l,l.length<=ps.length->Q l):wp (zd6 (ps,nm,fl)) Q:=by have hL:LIM=1099511627776:=rfl;rw[zhN];unfold zfV;rw[ywb];refine zao (fun s:Int×List Int=>0<=s.1/\s.1<=ps.length/\s.2.length<=s.1.toNat) (fun s=>ps.length-s.1.toNat) ⟨by simp,by simp,by simp⟩ fun s ⟨i1,i2,i3⟩=>?_;simp only[ywa,ywb,ywc,ywd,ywe,yhw,yhx,yhv,yhy,yhz,yhb,yhc,yhd,yhu,yhe,yhf,yhg,yhh,yhi,yhj,yhk,yhl,yhm,yhn,yho,yhp,yhr,yhs,yht];refine⟨fun hlt=>⟨i1,by omega,zq0 (hp _ (ygh _)) hN ⟨fun _=>⟨fun _=>⟨by omega,by omega,⟨by omega,by omega,by omega⟩,by omega⟩,fun _=>⟨by omega,⟨by omega,by omega,by omega⟩,by omega⟩⟩,fun _=>⟨by omega,⟨by omega,by omega,by omega⟩,by omega⟩⟩⟩,fun _=>h _ (by omega)⟩
theorem zpY{N:Nat}{ps:List Part}{nm:List UInt8}{Q:List UInt8->Prop}(hp:∀p∈ps,SmP N p)(hN:N<=100000)(hl:ps.length<=100000)(h:∀s,s.length<=100->Q s):wp (ziv (ps,nm)) Q:=by
 rw[zlU];unfold zmv;rw[ywb];refine zao (fun i=>0<=i) (fun i:Int=>ps.length-i.toNat) (by simp) fun s hs=>?_;rw[ywc];simp only[yhc,yhd];refine⟨fun hlt=>?_,fun _=>?_⟩
 ·have hi:s.toNat<ps.length:=by omega
  have hP:=hp _ (ygh hi);have hT:=hP.types;rw[ywa,ywb,ywe];refine⟨by simpa using hs,hi,?_⟩;rw[ywb];refine ze2 (by omega) fun r hr=>?_;have a1:0<=s+1:=by omega
  have a2:ps.length-(s+1).toNat<ps.length-s.toNat:=by omega
  have a3:-9223372036854775808<=s+1/\s+1<=9223372036854775807:=by omega
  simp only[ywa,ywb,ywc,ywd,ywe,yhw,yhx,yhv,yhy,yhz,yhb,yhc,yhd,yhu,yhe,yhf,yhg,yhh,yhi,yhj,yhk,yhl,yhm,yhn,yho,yhp];refine⟨fun h0=>⟨hs,hi,h0,(hr.at h0).1,fun _=>⟨hs,hi,h0,(hr.at h0).1,h _ (hP.type _ (ygh _)).key⟩,fun _=>⟨a3,a1,a2⟩⟩,fun _=>⟨a3,a1,a2⟩⟩
 ·simp only[ywa,ywb,ywc,ywd,ywe,yhw,yhx,yhv,yhy,yhz,yhb,yhc,yhd,yhu,yhe,yhf,yhg,yhh,yhi,yhj,yhk,yhl,yhm,yhn,yho,yhp];exact h _ (by simp)
theorem zvx{f g:Field}{Q:Bool->Prop}(h:∀r,Q r):wp (zhK (f,g)) Q:=by rw[zje];unfold zhv;simp only[ywa,ywb,ywc,ywd,ywe,yhw,yhx,yhv,yhy,yhz,yhb,yhc,yhd,yhu,yhe,yhf,yhg,yhh,yhi,yhj,yhk,yhl,yhm,yhn,yho,yhp,h,yhq,and_self]
theorem ztt{N:Nat}{ps:List Part}{i:Int}{nm:List UInt8}{f:Field}{Q:Int->Prop}(hp:∀p∈ps,SmP N p)(hN:N<=100000)(hl:ps.length<=100000)(hf:SmF f)(h:∀r,Q r):wp (zhM (ps,i,nm,f)) Q:=by
 have hfn:=hf.needs;rw[zjg];unfold zhx;rw[ywb];refine zoS hp hN hl fun ow how=>?_;rw[ywb];refine zao (fun s:Int×Int×Int=>0<=s.1/\s.1<=s.2.2/\0<=s.2.1/\s.2.1<=s.2.2/\0<=s.2.2/\s.2.2<=ps.length) (fun s=>ps.length-s.2.2.toNat) ⟨by simp,by simp,by simp,by simp,by simp,by simp⟩ fun s ⟨i1,i2,i3,i4,i5,i6⟩=>?_;rw[ywc];simp only[yhc,yhd];refine⟨fun hlt=>?_,fun _=>?_⟩
 ·rw[ywa,ywb,ywe];refine⟨by simpa using i5,by omega,?_⟩;rw[ywb];refine zq0 (hp _ (ygh _)) hN ?_;refine zaw (fun _=>True) ?_ fun x1 _=>?_
  ·simp only[ywa,ywb,ywc,ywd,ywe,yhw,yhx,yhv,yhy,yhz,yhb,yhc,yhd,yhu,yhe,yhf,yhg,yhh,yhi,yhj,yhk,yhl,yhm,yhn,yho,yhp];exact⟨fun _=>zvx (by simp),by simp⟩
  simp only[ywa,ywb,ywc,ywd,ywe,yhw,yhx,yhv,yhy,yhz,yhb,yhc,yhd,yhu,yhe,yhf,yhg,yhh,yhi,yhj,yhk,yhl,yhm,yhn,yho,yhp,h];(repeat' (first|omega|assumption|rfl|refine fun _=>?_|refine⟨by omega,?_⟩|refine⟨?_,?_⟩))
 ·simp only[ywd,yhz,yhw];rw[ywc,ywd];refine⟨fun _=>h _,fun _=>?_⟩;refine zaw (fun _=>True) ?_ fun x1 _=>?_
  ·simp only[ywa,ywb,ywc,ywd,ywe,yhw,yhx,yhv,yhy,yhz,yhb,yhc,yhd,yhu,yhe,yhf,yhg,yhh,yhi,yhj,yhk,yhl,yhm,yhn,yho,yhp];exact⟨fun _=>zpY hp hN hl (by simp),by simp⟩
  rw[ywc,ywd];refine⟨fun _=>h _,fun _=>?_⟩;refine zaw (fun _=>True) ?_ fun x2 _=>?_
  ·simp only[ywa,ywb,ywc,ywd,ywe,yhw,yhx,yhv,yhy,yhz,yhb,yhc,yhd,yhu,yhe,yhf,yhg,yhh,yhi,yhj,yhk,yhl,yhm,yhn,yho,yhp,yhq,and_self]
  rw[ywc,ywd];refine⟨fun _=>h _,fun _=>?_⟩;rw[ywb];refine zao (fun i=>0<=i) (fun i:Int=>f.needs.length-i.toNat) (by simp) fun a ha=>?_;rw[ywc];simp only[yhc,yhd];refine⟨fun hlt=>?_,fun _=>?_⟩
  ·rw[ywb];refine zao (fun i=>0<=i) (fun i:Int=>ps.length-i.toNat) (by simp) fun c hc=>?_;rw[ywc];simp only[yhc,yhd];refine⟨fun hlt2=>?_,fun _=>?_⟩
   ·rw[ywa,ywb,ywe];refine⟨by simpa using hc,by omega,?_⟩;rw[ywa,ywb,ywe];refine⟨by simpa using ha,by omega,?_⟩;rw[ywb];refine zq0 (hp _ (ygh _)) hN ?_;simp only[ywa,ywb,ywc,ywd,ywe,yhw,yhx,yhv,yhy,yhz,yhb,yhc,yhd,yhu,yhe,yhf,yhg,yhh,yhi,yhj,yhk,yhl,yhm,yhn,yho,yhp,h];(repeat' (first|omega|assumption|rfl|refine fun _=>?_|refine⟨by omega,?_⟩|refine⟨?_,?_⟩))
   ·simp only[ywa,ywb,ywc,ywd,ywe,yhw,yhx,yhv,yhy,yhz,yhb,yhc,yhd,yhu,yhe,yhf,yhg,yhh,yhi,yhj,yhk,yhl,yhm,yhn,yho,yhp,h];(repeat' (first|omega|assumption|rfl|refine fun _=>?_|refine⟨by omega,?_⟩|refine⟨?_,?_⟩))
  ·simp only[ywa,ywb,ywc,ywd,ywe,yhw,yhx,yhv,yhy,yhz,yhb,yhc,yhd,yhu,yhe,yhf,yhg,yhh,yhi,yhj,yhk,yhl,yhm,yhn,yho,yhp,h]
theorem zts{N:Nat}{ps:List Part}{Q:CFault->Prop}(hp:∀p∈ps,SmP N p)(hN:N<=100000)(hl:ps.length<=100000)(h:∀r,(r.code=0->1<=ps.length/\ps.length<=4/\∀p∈ps,WF p)->Q r):wp (zhL ps) Q:=by
 have bad:∀r:CFault,r.code≠0->Q r:=fun r hr=>h r fun e=>absurd e hr;rw[zjf];unfold zhw;refine zaw (fun x=>x=false->1<=ps.length/\ps.length<=4) ?_ fun x1 g1=>?_
 ·simp only[ywa,ywb,ywc,ywd,ywe,yhw,yhx,yhv,yhy,yhz,yhb,yhc,yhd,yhu,yhe,yhf,yhg,yhh,yhi,yhj,yhk,yhl,yhm,yhn,yho,yhp];exact⟨fun _=>by simp,fun _ _=>by omega⟩
 rw[ywc,ywd];refine⟨fun _=>bad _ (by simp),fun hx=>?_⟩;obtain⟨g2,g3⟩:=g1 hx;rw[ywb];refine zao (fun s:Int×Int×List UInt8×List UInt8×Int=>0<=s.1/\s.1<=ps.length/\∀(j:Nat)(hj:j<ps.length),j<s.1.toNat->WF ps[j]) (fun s=>ps.length-s.1.toNat) ⟨by simp,by simp,by simp⟩ fun s ⟨i1,i2,i3⟩=>?_;rw[ywc];simp only[yhc,yhd];refine⟨fun hlt=>?_,fun _=>?_⟩
 ·rw[ywa,ywb,ywe];refine⟨by simpa using i1,by omega,?_⟩;rw[ywb];refine zk1 (hp _ (ygh _)) hN fun r hr=>?_;rw[ywc];simp only[yhf,yhh,ne_eq];refine⟨fun hr0=>?_,fun hr0=>?_⟩
  ·simp only[ywa,ywb,ywc,ywd,ywe,yhw,yhx,yhv,yhy,yhz,yhb,yhc,yhd,yhu,yhe,yhf,yhg,yhh,yhi,yhj,yhk,yhl,yhm,yhn,yho,yhp];exact⟨by omega,bad _ (by simp)⟩
  rw[ywb];refine zao (fun u:Int×Int×List UInt8×List UInt8×Int=>0<=u.1/\u.1<=s.1) (fun u=>s.1.toNat-u.1.toNat) ⟨by simp,i1⟩ fun u ⟨j1,j2⟩=>?_;simp only[ywa,ywb,ywc,ywd,ywe,yhw,yhx,yhv,yhy,yhz,yhb,yhc,yhd,yhu,yhe,yhf,yhg,yhh,yhi,yhj,yhk,yhl,yhm,yhn,yho,yhp];refine⟨fun hlt2=>⟨j1,by omega,i1,by omega,fun _=>⟨by omega,bad _ (by simp)⟩,fun _=>⟨by omega,by omega,by omega⟩⟩,fun _=>⟨by omega,⟨by omega,by omega,fun j hj hj2=>?_⟩,by omega⟩⟩;rcases Nat.lt_or_ge j s.1.toNat with h'|h'
  ·exact i3 j hj h'
  ·obtain rfl:j=s.1.toNat:=by omega
   exact hr hr0
 have hwf:∀p∈ps,WF p:=fun p hp=>by obtain⟨j,hj,rfl⟩:=List.getElem_of_mem hp;exact i3 j hj (by omega)
 simp only[ywd,yhz,yhw];rw[ywb];refine zao (fun s:Int×Int×List UInt8×List UInt8×Int=>0<=s.1) (fun s=>ps.length-s.1.toNat) (by simp) fun a ha=>?_;rw[ywc];simp only[yhc,yhd];refine⟨fun hlt=>?_,fun _=>?_⟩
 ·have hai:a.1.toNat<ps.length:=by omega
  have hP:=hp _ (ygh hai);have hPt:=hP.types;rw[ywb];refine zao (fun s:Int×Int×List UInt8×List UInt8×Int=>0<=s.1) (fun s=>(ps[a.1.toNat]'hai).types.length-s.1.toNat) (by simp) fun c hc=>?_;rw[ywa,ywb,ywe];refine⟨by simpa using ha,hai,?_⟩;rw[ywc];simp only[yhc,yhd];refine⟨fun hlt2=>?_,fun _=>?_⟩
  ·rw[ywa,ywb,ywe];refine⟨by simpa using ha,hai,?_⟩;rw[ywa,ywb,ywe];refine⟨by simpa using hc,by omega,?_⟩;have hT:=hP.type ((ps[a.1.toNat]'hai).types[c.1.toNat]'(by omega)) (ygh _);generalize(ps[a.1.toNat]'hai).types[c.1.toNat]'(by omega)=T at hT;have hTf:=hT.fields;refine zaw (fun _=>True) ?_ fun x2 _=>?_
   ·simp only[ywa,ywb,ywc,ywd,ywe,yhw,yhx,yhv,yhy,yhz,yhb,yhc,yhd,yhu,yhe,yhf,yhg,yhh,yhi,yhj,yhk,yhl,yhm,yhn,yho,yhp];exact⟨fun _=>zpY hp hN hl (by simp),by simp⟩
   rw[ywc];refine⟨fun _=>?_,fun _=>?_⟩
   ·simp only[ywa,ywb,ywc,ywd,ywe,yhw,yhx,yhv,yhy,yhz,yhb,yhc,yhd,yhu,yhe,yhf,yhg,yhh,yhi,yhj,yhk,yhl,yhm,yhn,yho,yhp];exact⟨by omega,bad _ (by simp)⟩
   rw[ywb];refine zao (fun s:Int×Int×List UInt8×List UInt8×Int=>0<=s.1) (fun s=>T.fields.length-s.1.toNat) (by simp) fun e he=>?_;simp only[ywa,ywb,ywc,ywd,ywe,yhw,yhx,yhv,yhy,yhz,yhb,yhc,yhd,yhu,yhe,yhf,yhg,yhh,yhi,yhj,yhk,yhl,yhm,yhn,yho,yhp];refine⟨fun hlt3=>⟨he,by omega,ztt hp hN hl (hT.field _ (ygh _)) fun r=>⟨fun hr=>⟨by omega,he,by omega,bad _ hr⟩,fun _=>⟨by omega,by omega,by omega⟩⟩⟩,fun _=>⟨by omega,by omega,by omega⟩⟩
  ·simp only[ywa,ywb,ywc,ywd,ywe,yhw,yhx,yhv,yhy,yhz,yhb,yhc,yhd,yhu,yhe,yhf,yhg,yhh,yhi,yhj,yhk,yhl,yhm,yhn,yho,yhp];exact⟨by omega,by omega,by omega⟩
 ·simp only[ywa,ywb,ywc,ywd,ywe,yhw,yhx,yhv,yhy,yhz,yhb,yhc,yhd,yhu,yhe,yhf,yhg,yhh,yhi,yhj,yhk,yhl,yhm,yhn,yho,yhp];exact h _ fun _=>⟨g2,g3,hwf⟩
theorem zy3{N:Nat}{t:Typ}{f:Field}{Q:Typ->Prop}(ht:SmT N t)(hN:N<=100000)(hf:SmF f)(h:∀t',SmT (N+1) t'->Q t'):wp (zmz (t,f)) Q:=by
 have hL:LIM=1099511627776:=rfl;have h1:=ht.fields;have h2:=hf.needs;rw[zlV];unfold zmw;rw[ywb];refine zeR (by show t.fields.length<=_;omega) fun k hk=>?_;rw[ywc];simp only[yhc,yhd];refine⟨fun _=>?_,fun hk0=>?_⟩
 ·simp only[ywa,ywb,ywc,ywd,ywe,yhw,yhx,yhv,yhy,yhz,yhb,yhc,yhd,yhu,yhe,yhf,yhg,yhh,yhi,yhj,yhk,yhl,yhm,yhn,yho,yhp,yhs,yht];refine⟨by omega,by omega,by omega,h _ ⟨ht.name,ht.key,by simp only[yhr,yhs,yht];omega,fun g hg=>?_⟩⟩;rcases List.mem_append.1 hg with hg|hg
  ·exact ht.field g hg
  ·obtain rfl:=List.mem_singleton.1 hg;exact⟨hf.name,hf.of,hf.needs,hf.need⟩
 ·have hk1:k.toNat<t.fields.length:=(hk.at (by omega)).1;have fset:∀(fs:List Field)(g:Field),fs.length=t.fields.length->(∀x∈fs,SmF x)->SmF g->(fs.set k.toNat g).length=t.fields.length/\∀x∈fs.set k.toNat g,SmF x:=fun fs g hl hs hg=>by
   refine⟨by rw[List.length_set];exact hl,fun x hx=>?_⟩;rcases List.mem_or_eq_of_mem_set hx with hx|rfl
   ·exact hs x hx
   ·exact hg
  simp only[ywa,yhc];refine⟨by omega,?_⟩;refine zaw (fun x:(List UInt8×List UInt8×List Field)×(List UInt8×List UInt8)×List Field×List Field=>x.1.1=t.name/\x.1.2.1=t.key/\x.2.2.2.length=t.fields.length/\∀f∈x.2.2.2,SmF f) ?_ fun x ⟨a1,a2,a3,a4⟩=>?_
  ·simp only[ywa,ywb,ywc,ywd,ywe,yhw,yhx,yhv,yhy,yhz,yhb,yhc,yhd,yhu,yhe,yhf,yhg,yhh,yhi,yhj,yhk,yhl,yhm,yhn,yho,yhp];refine⟨fun _=>⟨by omega,hk1,?_⟩,fun _=>ht.field⟩;have hg:=ht.field _ (ygh hk1);exact fset _ _ rfl ht.field ⟨hg.name,hg.of,hg.needs,hg.need⟩
  refine zaw (fun x:(List UInt8×List UInt8×List Field)×(List UInt8×List UInt8)×List Field×List Field=>x.1.1=t.name/\x.1.2.1=t.key/\x.2.2.2.length=t.fields.length/\∀f∈x.2.2.2,SmF f) ?_ fun y ⟨b1,b2,b3,b4⟩=>?_
  ·simp only[ywa,ywb,ywc,ywd,ywe,yhw,yhx,yhv,yhy,yhz,yhb,yhc,yhd,yhu,yhe,yhf,yhg,yhh,yhi,yhj,yhk,yhl,yhm,yhn,yho,yhp];refine⟨fun _=>⟨by omega,by omega,by omega,a1,a2,?_⟩,fun _=>⟨a1,a2,a3,a4⟩⟩;have hg:=a4 _ (ygh (show k.toNat<x.2.2.2.length by omega));exact fset _ _ a3 a4 ⟨hg.name,hg.of,hf.needs,hf.need⟩
  rw[ywd];exact h _ ⟨by show y.1.1.length<=_;rw[b1];exact ht.name,by show y.1.2.1.length<=_;rw[b2];exact ht.key,by show y.2.2.2.length<=_;omega,b4⟩
end Go.Fw
namespace Go.Fw
open Go
structure Ch (ps:List Part):Prop where
 few:ps.length<=4
 sm:∀p∈ps,SmP 300 p
theorem zxS{ps:List Part}{Q:Part->Prop}(hc:Ch ps)(hw:∀p∈ps,WF p)(h:∀p,SmP 200 p->Q p):wp (zmy ps) Q:=by
 have hL:LIM=1099511627776:=rfl;have hps:=hc.few;rw[zlT];unfold zmu;rw[ywb];refine zao (fun s:Int×List UInt8×List Typ×List UInt8×List Typ=>0<=s.1/\s.1<=ps.length/\SmP (1+45*s.1.toNat) ⟨s.2.2.2.1,s.2.2.2.2⟩) (fun s=>ps.length-s.1.toNat) ⟨by simp,by simp,⟨by simp,by simp,by simp⟩⟩ fun s ⟨i1,i2,i3⟩=>?_;rw[ywc];simp only[yhc,yhd];refine⟨fun hlt=>?_,fun _=>?_⟩
 ·have hi:s.1.toNat<ps.length:=by omega
  have hW:=hw _ (ygh hi);have hS:=hc.sm _ (ygh hi);generalize hP:ps[s.1.toNat]'hi=P at hW hS;have hW5:=hW.few;rw[ywb];refine zao (fun u:Int×List UInt8×List Typ×List UInt8×List Typ=>0<=u.1/\u.1<=P.types.length/\SmP (1+45*s.1.toNat+9*u.1.toNat) ⟨u.2.2.2.1,u.2.2.2.2⟩) (fun u=>P.types.length-u.1.toNat) ⟨by simp,by simp,i3.up (by simp)⟩ fun u ⟨j1,j2,j3⟩=>?_;have jl:u.2.2.2.2.length<=_:=j3.types;rw[ywa,ywb,ywe];refine⟨by simpa using i1,hi,?_⟩;rw[hP,ywc];simp only[yhc,yhd];refine⟨fun hlt2=>?_,fun _=>?_⟩
  ·rw[ywa,ywb,ywe];refine⟨by simpa using i1,hi,?_⟩;rw[hP,ywa,ywb,ywe];refine⟨by simpa using j1,by omega,?_⟩;have hT:=hS.type (P.types[u.1.toNat]'(by omega)) (ygh _);have hO:=hW.type (P.types[u.1.toNat]'(by omega)) (ygh _);generalize P.types[u.1.toNat]'(by omega)=T at hT hO;have hO8:=hO.few;rw[ywb];refine ze2 (by show u.2.2.2.2.length<=_;omega) fun r hr=>?_;have hr1:=hr.lt;refine zaw (fun x:Int×List UInt8×List Typ×List UInt8×List Typ=>0<=x.1/\x.1<x.2.2.2.2.length/\SmP (1+45*s.1.toNat+9*u.1.toNat+1) ⟨x.2.2.2.1,x.2.2.2.2⟩) ?_ fun x ⟨a1,a2,a3⟩=>?_
   ·simp only[ywa,ywb,ywc,ywd,ywe,yhw,yhx,yhv,yhy,yhz,yhb,yhc,yhd,yhu,yhe,yhf,yhg,yhh,yhi,yhj,yhk,yhl,yhm,yhn,yho,yhp];refine⟨fun _=>zpY hc.sm (by omega) (by omega) fun k hk=>⟨by simp only[yhs,yht];omega,by omega,by simp only[yhr,yhs,yht];omega,⟨j3.name,by simp only[yhr,yhs,yht];omega,fun t ht=>?_⟩⟩,fun _=>⟨by omega,hr1.2,j3.up (by omega)⟩⟩;rcases List.mem_append.1 ht with ht|ht
    ·exact(j3.type t ht).up (by omega)
    ·obtain rfl:=List.mem_singleton.1 ht;exact⟨hT.name,hk,by simp,by simp⟩
   rw[ywb];refine zao (fun v:Int×List UInt8×List Typ×List UInt8×List Typ=>0<=v.1/\v.1<=T.fields.length/\v.2.2.2.2.length=x.2.2.2.2.length/\SmP (1+45*s.1.toNat+9*u.1.toNat+1+v.1.toNat) ⟨v.2.2.2.1,v.2.2.2.2⟩) (fun v=>T.fields.length-v.1.toNat) ⟨by simp,by simp,rfl,a3.up (by simp)⟩ fun v ⟨k1,k2,k3,k4⟩=>?_;simp only[ywa,ywb,ywc,ywd,ywe,yhw,yhx,yhv,yhy,yhz,yhb,yhc,yhd,yhu,yhe,yhf,yhg,yhh,yhi,yhj,yhk,yhl,yhm,yhn,yho,yhp];refine⟨fun hlt3=>⟨⟨a1,by omega⟩,by omega,k1,by omega,zy3 (k4.type _ (ygh _)) (by omega) (hT.field _ (ygh _)) fun t' ht'=>⟨⟨a1,by omega⟩,by omega,by omega,⟨by omega,by omega,by rw[List.length_set];exact k3,?_⟩,by omega⟩⟩,fun _=>⟨by omega,⟨by omega,by omega,k4.up (by omega)⟩,by omega⟩⟩;exact((k4.up (by omega)).set (N:=1+45*s.1.toNat+9*u.1.toNat+1+v.1.toNat+1) _ ht').up (by omega)
  ·simp only[ywa,ywb,ywc,ywd,ywe,yhw,yhx,yhv,yhy,yhz,yhb,yhc,yhd,yhu,yhe,yhf,yhg,yhh,yhi,yhj,yhk,yhl,yhm,yhn,yho,yhp];exact⟨by omega,⟨by omega,by omega,j3.up (by omega)⟩,by omega⟩
 ·simp only[ywa,ywb,ywc,ywd,ywe,yhw,yhx,yhv,yhy,yhz,yhb,yhc,yhd,yhu,yhe,yhf,yhg,yhh,yhi,yhj,yhk,yhl,yhm,yhn,yho,yhp];exact h _ (i3.up (by omega))
theorem zvF{ps:List Part}{Q:Chart×CFault->Prop}(hc:Ch ps)(h:∀r,(r.2.code=0->WF r.1.all/\SmP 200 r.1.all/\1<=ps.length)->Q r):wp (zeC ps) Q:=by
 have hL:LIM=1099511627776:=rfl;have hps:=hc.few;rw[zgt];unfold zey;rw[ywb];refine zts hc.sm (by omega) (by omega) fun f hf=>?_;rw[ywc,ywd];simp only[yhf,yhh,ne_eq];refine⟨fun hf0=>h _ fun e=>absurd e hf0,fun hf0=>?_⟩;obtain⟨f1,f2,f3⟩:=hf hf0;rw[ywb];refine zxS hc f3 fun A hA=>?_;rw[ywb];refine zk1 hA (by omega) fun r hr=>?_;rw[ywc,ywd];simp only[yhf,yhh,ne_eq];refine⟨fun _=>h _ fun e=>by simp at e,fun hr0=>?_⟩;have hW:=hr hr0;have hW5:=hW.few;rw[ywb];refine zao (fun s:Int×List UInt8×List Typ×List Own×(Int×List UInt8×List UInt8×Int)×(List UInt8×List Typ)×List Own=>0<=s.1/\s.1<=A.types.length/\s.2.2.2.2.2.1=(A.name,A.types)/\s.2.2.2.2.2.2.length<=8*s.1.toNat) (fun s=>A.types.length-s.1.toNat) ⟨by simp,by simp,rfl,by simp⟩ fun s ⟨i1,i2,i3,i4⟩=>?_;rw[i3,ywc];simp only[yhc,yhd];refine⟨fun hlt=>?_,fun _=>?_⟩
 ·rw[ywa,ywb,ywe];refine⟨by simpa using i1,by omega,?_⟩;have hO:=hW.type (A.types[s.1.toNat]'(by omega)) (ygh _);generalize A.types[s.1.toNat]'(by omega)=T at hO;have hO8:=hO.few;rw[ywb];refine zao (fun u:Int×List UInt8×List Typ×List Own×(Int×List UInt8×List UInt8×Int)×(List UInt8×List Typ)×List Own=>0<=u.1/\u.1<=T.fields.length/\u.2.2.2.2.2.1=(A.name,A.types)/\u.2.2.2.2.2.2.length<=8*s.1.toNat+u.1.toNat) (fun u=>T.fields.length-u.1.toNat) ⟨by simp,by simp,rfl,by simpa using i4⟩ fun u ⟨j1,j2,j3,j4⟩=>?_;simp only[ywa,ywb,ywc,ywd,ywe,yhw,yhx,yhv,yhy,yhz,yhb,yhc,yhd,yhu,yhe,yhf,yhg,yhh,yhi,yhj,yhk,yhl,yhm,yhn,yho,yhp,j3,yhr,yhs,yht];refine⟨fun hlt2=>⟨j1,by omega,j1,by omega,zoS hc.sm (by omega) (by omega) fun l _=>⟨by omega,by omega,⟨by omega,by omega,by omega⟩,by omega⟩⟩,fun _=>⟨by omega,⟨by omega,by omega,by omega⟩,by omega⟩⟩
 ·simp only[ywa,ywb,ywc,ywd,ywe,yhw,yhx,yhv,yhy,yhz,yhb,yhc,yhd,yhu,yhe,yhf,yhg,yhh,yhi,yhj,yhk,yhl,yhm,yhn,yho,yhp];exact h _ fun _=>⟨hW,hA,f1⟩
end Go.Fw
namespace Go.Fw
open Go
theorem zoW(n:Nat):∀d,Le (zbC n d) (zbC (n+1) d):=by
 induction n with
 |zero=>intro d;exact Le.none
 |succ n ih=>intro d;rw[zbC,zbC];repeat' (first|exact ih _|refine Le.bind ?_ ?_|refine Le.cond ?_ ?_|refine Le.gd ?_|refine Le.caseS ?_ ?_|refine Le.loop ?_ _|exact Le.refl _|refine fun _=>?_)
theorem zwk(n:Nat):∀d,Le (zcm n d) (zcm (n+1) d):=by
 induction n with
 |zero=>intro d;exact Le.none
 |succ n ih=>intro d;rw[zcm,zcm];repeat' (first|exact ih _|refine Le.bind ?_ ?_|refine Le.cond ?_ ?_|refine Le.gd ?_|refine Le.caseS ?_ ?_|refine Le.loop ?_ _|exact Le.refl _|refine fun _=>?_)
theorem zqw(n:Nat):∀d,Le (zaW n d) (zaW (n+1) d):=by
 induction n with
 |zero=>intro d;exact Le.none
 |succ n ih=>intro d;rw[zaW,zaW];repeat' (first|exact ih _|refine Le.bind ?_ ?_|refine Le.cond ?_ ?_|refine Le.gd ?_|refine Le.caseS ?_ ?_|refine Le.loop ?_ _|exact Le.refl _|refine fun _=>?_)
theorem zpm(n:Nat):∀d,Le (zbD n d) (zbD (n+1) d):=by
 induction n with
 |zero=>intro d;exact Le.none
 |succ n ih=>intro d;rw[zbD,zbD];repeat' (first|exact ih _|refine Le.bind ?_ ?_|refine Le.cond ?_ ?_|refine Le.gd ?_|refine Le.caseS ?_ ?_|refine Le.loop ?_ _|exact Le.refl _|refine fun _=>?_)
theorem zl2(n:Nat):∀d,Le (zca n d) (zca (n+1) d):=by
 induction n with
 |zero=>intro d;exact Le.none
 |succ n ih=>intro d;rw[zca,zca];repeat' (first|exact ih _|refine Le.bind ?_ ?_|refine Le.cond ?_ ?_|refine Le.gd ?_|refine Le.caseS ?_ ?_|refine Le.loop ?_ _|exact Le.refl _|refine fun _=>?_)
end Go.Fw
namespace Go.Fw
open Go
def SelD:Nat->List Sel->Prop
|0,l=>l=[]
|k+1,l=>l.length<=3/\∀s∈l,s.name.length<=100/\s.as.length<=100/\0<=s.id/\s.id<=1000000/\SelD k s.kids
theorem SelD.nil:∀k,SelD k []
|0=>rfl
|k+1=>⟨by simp,fun s hs=>by cases hs⟩
theorem SelD.len{k:Nat}{l:List Sel}(h:SelD k l):l.length<=3:=by
 cases k with
 |zero=>rw[h];simp
 |succ k=>exact h.1
theorem SelD.get{k:Nat}{l:List Sel}(h:SelD k l){s:Sel}(hs:s∈l):∃j,k=j+1/\s.name.length<=100/\s.as.length<=100/\0<=s.id/\s.id<=1000000/\SelD j s.kids:=by
 cases k with
 |zero=>rw[h]at hs;cases hs
 |succ k=>exact⟨k,rfl,h.2 s hs⟩
theorem zkN{s:Sel}{Q:List UInt8->Prop}(h:Q (if s.as=[]then s.name else s.as)):wp (zeE s) Q:=by rw[ziu];unfold zjY;simp only[ywa,ywb,ywc,ywd,ywe,yhw,yhx,yhv,yhy,yhz,yhb,yhc,yhd,yhu,yhe,yhf,yhg,yhh,yhi,yhj,yhk,yhl,yhm,yhn,yho,yhp];exact⟨fun e=>by simpa[e]using h,fun e=>by simpa[e]using h⟩
structure Dr (p:Part):Prop where
 sm:SmP 200 p
 pos:∀t∈p.types,1<=t.fields.length
abbrev zzI:=(List Int×Int)×List Sel×List UInt8×List UInt8×Bool×Int×List Sel
structure SelT (l:List Sel)(k M:Nat)(d:zzI):Prop where
 rd:Rd d.1.1 d.1.2 M
 out:d.2.1=l
 asx:d.2.2.1.length<=100
 name:d.2.2.2.1.length<=100
 id0:0<=d.2.2.2.2.2.1
 id1:d.2.2.2.2.2.1<=1000000
 kids:SelD k d.2.2.2.2.2.2
theorem zrv{p:Part}(hp:Dr p):∀(k:Nat)(dp:Int)(nm:List UInt8)(b:List Int)(q:Int)(m:Nat){Q:List Sel×List Int×Int->Prop},k<=5->6-(k:Int)<=dp->dp<=6->Rd b q m->m+20*4 ^ k<=1000000000000->
 (∀l b' q',SelD k l->Rd b' q' (m+20*4 ^ k)->Q (l,b',q'))->wp (zbC (k+1) (p,nm,dp,b,q)) Q:=by
 have hL:LIM=1099511627776:=rfl;have hpt:=hp.sm.types;intro k;induction k with
 |zero=>
  intro dp nm b q m Q hk hd1 hd2 hR hm h;rw[zbC];dsimp only;rw[ywb];refine ze2 (by omega) fun r hr=>?_;refine zaw (fun x=>x=true) ?_ fun x hx=>?_
  ·simp only[ywa,ywb,ywc,ywd,ywe,yhw,yhx,yhv,yhy,yhz,yhb,yhc,yhd,yhu,yhe,yhf,yhg,yhh,yhi,yhj,yhk,yhl,yhm,yhn,yho,yhp,yhq,and_self];omega
  ·rw[hx,ywc,ywd];exact⟨fun _=>h _ _ _ rfl (hR.up (by omega)),fun e=>by cases e⟩
 |succ k ih=>
  intro dp nm b q m Q hk hd1 hd2 hR hm h;have h4:4 ^ (k+1)=4*4 ^ k:=by rw[Nat.pow_succ];omega
  have h4a:4 ^ k<=256:=by have:4 ^ k<=4 ^ 4:=Nat.pow_le_pow_right (by omega) (by omega);omega
  have h4b:1<=4 ^ k:=Nat.one_le_pow _ _ (by omega);generalize hC:4 ^ k=C at ih h4 h4a h4b;rw[zbC];dsimp only;rw[ywb];refine ze2 (by omega) fun r hr=>?_;refine zaw (fun x=>x=false->0<=r/\dp<=5) ?_ fun x hx=>?_
  ·simp only[ywa,ywb,ywc,ywd,ywe,yhw,yhx,yhv,yhy,yhz,yhb,yhc,yhd,yhu,yhe,yhf,yhg,yhh,yhi,yhj,yhk,yhl,yhm,yhn,yho,yhp,yhq,and_self];omega
  rw[ywc,ywd];refine⟨fun _=>h _ _ _ (.nil _) (hR.up (by omega)),fun hxf=>?_⟩;obtain⟨hr0,hd5⟩:=hx hxf;have hri:=(hr.at hr0).1;rw[ywa,ywb,ywe];refine⟨by simpa using hr0,hri,?_⟩;have hT:=hp.sm.type _ (ygh hri);have hTp:=hp.pos _ (ygh hri);change SmT 200 (p.types[r.toNat]'hri)at hT;generalize p.types[r.toNat]'hri=T at hT hTp;have hTf:=hT.fields;rw[ywb];refine zbf hR (by omega) fun v hv _ hR1=>?_;have hv:=hv (by omega);rw[ywa];refine⟨zaX (by omega) (by omega),?_⟩;rw[ywb];refine zao (fun s:Int×(List Int×Int)×List Sel=>0<=s.1/\s.1<=3/\s.2.2.length+s.1.toNat<=3/\Rd s.2.1.1 s.2.1.2 (m+1+(3-s.1.toNat)*(6+20*C))/\∀x∈s.2.2,x.name.length<=100/\x.as.length<=100/\0<=x.id/\x.id<=1000000/\SelD k x.kids) (fun s=>s.1.toNat)
   ⟨by dsimp only;omega,by dsimp only;omega,by simp;omega,hR1.up (by omega),by simp⟩ fun s ⟨i1,i2,i3,i4,i5⟩=>?_
  have hstep:0<s.1->m+1+(3-s.1.toNat)*(6+20*C)+(6+20*C)=m+1+(3-(s.1-1).toNat)*(6+20*C):=fun h0=>by
   have e:3-(s.1-1).toNat=(3-s.1.toNat)+1:=by omega
   rw[e,Nat.add_mul];omega
  have hbig:(3-s.1.toNat)*(6+20*C)<=3*(6+20*256):=Nat.mul_le_mul (by omega) (by omega);have hend2:(3-(s.1-1).toNat)*(6+20*C)<=3*(6+20*C):=Nat.mul_le_mul (by omega) (by omega);have hend:(3-s.1.toNat)*(6+20*C)<=3*(6+20*C):=Nat.mul_le_mul (by omega) (by omega);generalize hM:m+1+(3-s.1.toNat)*(6+20*C)=M at i4 hstep;generalize hM2:m+1+(3-(s.1-1).toNat)*(6+20*C)=M2 at hstep;rw[ywc];simp only[yhc,yhd];refine⟨fun hlt=>?_,fun hge=>?_⟩
  ·have hstep:=hstep hlt;have none:∀(b':List Int)(q':Int)(l:List Sel),Rd b' q' M2->l=s.2.2->wp (gd (zaH (s.1-1)) (some (Sum.inl (s.1-1,(b',q'),l):(Int×(List Int×Int)×List Sel)⊕(Int×(List Int×Int)×List Sel)))) fun x=>(∀s',x=.inl s'->(0<=s'.1/\s'.1<=3/\s'.2.2.length+s'.1.toNat<=3/\Rd s'.2.1.1 s'.2.1.2 (m+1+(3-s'.1.toNat)*(6+20*C))/\∀x∈s'.2.2,x.name.length<=100/\x.as.length<=100/\0<=x.id/\x.id<=1000000/\SelD k x.kids)/\s'.1.toNat<s.1.toNat)/\
    (∀r,x=.inr r->wp (some (r.2.2,r.2.1.1,r.2.1.2)) Q):=fun b' q' l hr' hl=>by
    subst hl;simp only[ywa,ywb,ywc,ywd,ywe,yhw,yhx,yhv,yhy,yhz,yhb,yhc,yhd,yhu,yhe,yhf,yhg,yhh,yhi,yhj,yhk,yhl,yhm,yhn,yho,yhp];exact⟨by omega,⟨by omega,by omega,by omega,by rw[hM2];exact hr',i5⟩,by omega⟩
   rw[ywb];refine zbf i4 (by omega) fun w hw _ hR2=>?_;have hw:=hw (by omega);rw[ywa,ywb,ywe];refine⟨by simpa using hw.1,by omega,?_⟩;have hf:=hT.field (T.fields[w.toNat]'(by omega)) (ygh _);generalize T.fields[w.toNat]'(by omega)=f at hf;rw[ywb];refine zbf hR2 (by omega) fun z _ _ hR3=>?_;refine zaw (fun x:zzI=>SelT s.2.2 k (M+3) x) ?_ fun x5 h5=>?_
   ·simp only[ywa,ywb,ywc,ywd,ywe,yhw,yhx,yhv,yhy,yhz,yhb,yhc,yhd,yhu,yhe,yhf,yhg,yhh,yhi,yhj,yhk,yhl,yhm,yhn,yho,yhp,yhq,and_self];refine⟨fun _=>zuj hR3 (by omega) (by simp) fun o ho hR4=>⟨hR4,rfl,?_,hf.name,by dsimp only;omega,by dsimp only;omega,.nil _⟩,fun _=>⟨hR3.up (by omega),rfl,by simp,hf.name,by dsimp only;omega,by dsimp only;omega,.nil _⟩⟩;have ho':∀o∈([[97],[98],[99]]:List (List UInt8)),o.length<=100:=by decide
    exact ho' o ho
   rw[ywb];refine zeq ?_;refine zaw (fun x:zzI⊕_=>(∀d,x=.inl d->SelT s.2.2 k (M+5+20*C) d)/\(∀r,x=.inr r->wp (some r) fun x=>(∀s',x=.inl s'->(0<=s'.1/\s'.1<=3/\s'.2.2.length+s'.1.toNat<=3/\Rd s'.2.1.1 s'.2.1.2 (m+1+(3-s'.1.toNat)*(6+20*C))/\∀x∈s'.2.2,x.name.length<=100/\x.as.length<=100/\0<=x.id/\x.id<=1000000/\SelD k x.kids)/\s'.1.toNat<s.1.toNat)/\
    (∀r,x=.inr r->wp (some (r.2.2,r.2.1.1,r.2.1.2)) Q))) ?_ fun x7 ⟨g1,g2⟩=>?_
   ·rw[ywc];refine⟨fun _=>?_,fun _=>?_⟩
    ·rw[ywa];refine⟨zaX (by omega) (by omega),?_⟩;rw[ywb];refine ih _ _ _ _ (M+3) (by omega) (by omega) (by omega) h5.rd (by omega) fun l b' q' hl hR7=>?_;rw[ywc];refine⟨fun _=>?_,fun _=>?_⟩
     ·have hnn:=none b' q' x5.2.1 (hR7.up (by omega)) h5.out;rw[ywa]at hnn;obtain⟨n1,n2⟩:=hnn;rw[ywb,ywa,ywd,ywd];refine⟨n1,?_⟩;refine⟨fun d e=>(by cases e),fun r e=>?_⟩;cases e;exact n2
     ·refine zaw (fun x:Bool×zzI=>SelT s.2.2 k (M+4+20*C) x.2) ?_ fun x6 h6=>?_
      ·simp only[ywa,ywb,ywc,ywd,ywe,yhw,yhx,yhv,yhy,yhz,yhb,yhc,yhd,yhu,yhe,yhf,yhg,yhh,yhi,yhj,yhk,yhl,yhm,yhn,yho,yhp];have h5':SelT s.2.2 k (M+4+20*C) ((b',q'),x5.2.1,x5.2.2.1,x5.2.2.2.1,x5.2.2.2.2.1,x5.2.2.2.2.2.1,l):=⟨hR7.up (by omega),h5.out,h5.asx,h5.name,h5.id0,h5.id1,hl⟩
       exact⟨fun _=>⟨fun _=>zbf hR7 (by omega) fun _ _ _ h=>⟨h.up (by omega),h5.out,h5.asx,h5.name,h5.id0,h5.id1,hl⟩,fun _=>h5'⟩,fun _=>h5'⟩
      ·refine zaw (fun x:zzI=>SelT s.2.2 k (M+5+20*C) x) ?_ fun x8 h8=>?_
       ·simp only[ywa,ywb,ywc,ywd,ywe,yhw,yhx,yhv,yhy,yhz,yhb,yhc,yhd,yhu,yhe,yhf,yhg,yhh,yhi,yhj,yhk,yhl,yhm,yhn,yho,yhp];refine⟨fun _=>zbf h6.rd (by omega) fun y hy _ h=>⟨h.up (by omega),h6.out,h6.asx,h6.name,(hy (by omega)).1,by have:=(hy (by omega)).2;dsimp only;omega,h6.kids⟩,fun _=>⟨h6.rd.up (by omega),h6.out,h6.asx,h6.name,h6.id0,h6.id1,h6.kids⟩⟩
       ·rw[ywd];exact⟨fun d e=>by cases e;exact⟨h8.rd,h8.out,h8.asx,h8.name,h8.id0,h8.id1,h8.kids⟩,fun r e=>by cases e⟩
    ·rw[ywd];exact⟨fun d e=>by cases e;exact⟨h5.rd.up (by omega),h5.out,h5.asx,h5.name,h5.id0,h5.id1,h5.kids⟩,fun r e=>by cases e⟩
   rw[yhv];refine⟨fun d e=>?_,fun r e=>g2 r e⟩;have hd:=g1 d e;refine zaw (fun x:Bool×zzI=>SelT s.2.2 k (M+6+20*C) x.2) ?_ fun x9 h9=>?_
   ·simp only[ywa,ywb,ywc,ywd,ywe,yhw,yhx,yhv,yhy,yhz,yhb,yhc,yhd,yhu,yhe,yhf,yhg,yhh,yhi,yhj,yhk,yhl,yhm,yhn,yho,yhp];exact⟨fun _=>zbf hd.rd (by omega) fun _ _ _ h=>⟨h.up (by omega),hd.out,hd.asx,hd.name,hd.id0,hd.id1,hd.kids⟩,fun _=>⟨hd.rd.up (by omega),hd.out,hd.asx,hd.name,hd.id0,hd.id1,hd.kids⟩⟩
   rw[ywc];refine⟨fun _=>none _ _ _ (h9.rd.up (by omega)) h9.out,fun _=>?_⟩;have h9l:x9.2.2.1.length<=3:=by rw[h9.out];omega
   rw[ywb];refine zao (fun u:Bool×Int=>0<=u.2) (fun u=>x9.2.2.1.length-u.2.toNat) (by simp) fun u hu=>?_;rw[ywc];simp only[yhc,yhd];refine⟨fun hlt2=>?_,fun _=>?_⟩
   ·simp only[ywa,ywb,ywc,ywd,ywe,yhw,yhx,yhv,yhy,yhz,yhb,yhc,yhd,yhu,yhe,yhf,yhg,yhh,yhi,yhj,yhk,yhl,yhm,yhn,yho,yhp];refine⟨fun _=>⟨by omega,by omega,by omega⟩,fun _=>⟨⟨hu,hlt2⟩,by omega,zkN (zkN ⟨by omega,by omega,by omega⟩)⟩⟩
   ·simp only[ywd,yhz];refine zaw (fun _=>True) (by simp only[ywa,ywb,ywc,ywd,ywe,yhw,yhx,yhv,yhy,yhz,yhb,yhc,yhd,yhu,yhe,yhf,yhg,yhh,yhi,yhj,yhk,yhl,yhm,yhn,yho,yhp,yhq,and_self]) fun x10 _=>?_;refine zaw (fun x:(List Int×Int)×List Sel=>Rd x.1.1 x.1.2 M2/\x.2.length+(s.1-1).toNat<=3/\∀y∈x.2,y.name.length<=100/\y.as.length<=100/\0<=y.id/\y.id<=1000000/\SelD k y.kids) ?_ fun x11 ⟨k1,k2,k3⟩=>?_
    ·simp only[ywa,ywb,ywc,ywd,ywe,yhw,yhx,yhv,yhy,yhz,yhb,yhc,yhd,yhu,yhe,yhf,yhg,yhh,yhi,yhj,yhk,yhl,yhm,yhn,yho,yhp,yhr,yhs,yht];refine⟨fun _=>⟨by omega,h9.rd.up (by omega),by rw[h9.out];omega,fun y hy=>?_⟩,fun _=>⟨h9.rd.up (by omega),by rw[h9.out];omega,by rw[h9.out];exact i5⟩⟩;rw[h9.out]at hy;rcases List.mem_append.1 hy with hy|hy
     ·exact i5 y hy
     ·obtain rfl:=List.mem_singleton.1 hy;exact⟨h9.name,h9.asx,h9.id0,h9.id1,h9.kids⟩
    ·simp only[ywa,ywb,ywc,ywd,ywe,yhw,yhx,yhv,yhy,yhz,yhb,yhc,yhd,yhu,yhe,yhf,yhg,yhh,yhi,yhj,yhk,yhl,yhm,yhn,yho,yhp];exact⟨by omega,⟨by omega,by omega,k2,by rw[hM2];exact k1,k3⟩,by omega⟩
  ·simp only[ywa,ywb,ywc,ywd,ywe,yhw,yhx,yhv,yhy,yhz,yhb,yhc,yhd,yhu,yhe,yhf,yhg,yhh,yhi,yhj,yhk,yhl,yhm,yhn,yho,yhp];refine h _ _ _ ⟨by omega,i5⟩ (i4.up ?_);omega
end Go.Fw
namespace Go.Fw
open Go
theorem zyT:∀(k:Nat)(l:List Sel)(dp left:Int){Q:Int->Prop},SelD k l->0<=dp->dp+k<=100->-1<=left->left<=24->(∀r:Int,-1<=r->r<=24->Q r)->wp (zcm (k+1) (l,dp,left)) Q:=by
 intro k;induction k with
 |zero=>
  intro l dp left Q hl hd1 hd2 h1 h2 h;rw[hl,zcm];dsimp only;refine zaw (fun x=>x=false) ?_ fun x hx=>?_
  ·simp only[ywa,ywb,ywc,ywd,ywe,yhw,yhx,yhv,yhy,yhz,yhb,yhc,yhd,yhu,yhe,yhf,yhg,yhh,yhi,yhj,yhk,yhl,yhm,yhn,yho,yhp,yhq,and_self,yht];omega
  rw[hx,ywc];refine⟨fun e=>(by cases e),fun _=>?_⟩;rw[ywb];refine zao (fun s:Int×Int=>s=(left,0)) (fun _=>0) rfl fun s hs=>?_;subst hs;simp only[ywa,ywb,ywc,ywd,ywe,yhw,yhx,yhv,yhy,yhz,yhb,yhc,yhd,yhu,yhe,yhf,yhg,yhh,yhi,yhj,yhk,yhl,yhm,yhn,yho,yhp,yht];exact⟨fun h=>by omega,fun _=>h _ h1 h2⟩
 |succ k ih=>
  intro l dp left Q hl hd1 hd2 h1 h2 h;have hll:=hl.len;rw[zcm];dsimp only;refine zaw (fun _=>True) (by simp only[ywa,ywb,ywc,ywd,ywe,yhw,yhx,yhv,yhy,yhz,yhb,yhc,yhd,yhu,yhe,yhf,yhg,yhh,yhi,yhj,yhk,yhl,yhm,yhn,yho,yhp,yhq,and_self]) fun x _=>?_;rw[ywc,ywd];refine⟨fun _=>h _ (by omega) (by omega),fun _=>?_⟩;rw[ywb];refine zao (fun s:Int×Int=>-1<=s.1/\s.1<=24/\0<=s.2) (fun s=>l.length-s.2.toNat) ⟨h1,h2,by simp⟩ fun s ⟨i1,i2,i3⟩=>?_;refine zaw (fun x=>x=true->s.2<l.length/\0<=s.1) ?_ fun x hx=>?_
  ·simp only[ywa,ywb,ywc,ywd,ywe,yhw,yhx,yhv,yhy,yhz,yhb,yhc,yhd,yhu,yhe,yhf,yhg,yhh,yhi,yhj,yhk,yhl,yhm,yhn,yho,yhp,yhq,and_self];exact fun h h'=>⟨h,h'⟩
  rw[ywc];refine⟨fun hxt=>?_,fun _=>?_⟩
  ·obtain⟨hlt,h0⟩:=hx hxt;rw[ywa,ywb,ywe];refine⟨by simpa using i3,by omega,?_⟩;obtain⟨j,hj,s1,s2,s3,s4,s5⟩:=hl.get (ygh (show s.2.toNat<l.length by omega));obtain rfl:j=k:=by omega
   generalize l[s.2.toNat]'(by omega)=S at s1 s2 s3 s4 s5;refine zaw (fun _=>True) ?_ fun x2 _=>?_
   ·simp only[ywa,ywb,ywc,ywd,ywe,yhw,yhx,yhv,yhy,yhz,yhb,yhc,yhd,yhu,yhe,yhf,yhg,yhh,yhi,yhj,yhk,yhl,yhm,yhn,yho,yhp,yhq,and_self];have hin:wp (zc4 (S.id,0,999999)) fun _=>True:=zAe trivial;exact zdS (by omega) fun _ _ _=>⟨fun _=>zdS (by omega) fun _ _ _ _=>⟨fun _ _=>hin,fun _=>hin⟩,fun _=>⟨fun _ _=>hin,fun _=>hin⟩⟩
   rw[ywc];refine⟨fun _=>?_,fun _=>?_⟩
   ·simp only[ywa,ywb,ywc,ywd,ywe,yhw,yhx,yhv,yhy,yhz,yhb,yhc,yhd,yhu,yhe,yhf,yhg,yhh,yhi,yhj,yhk,yhl,yhm,yhn,yho,yhp];exact h _ (by omega) (by omega)
   rw[ywb];refine zao (fun i:Int=>0<=i) (fun i=>s.2.toNat-i.toNat) (by simp) fun i hi=>?_;rw[ywc];simp only[yhc,yhd];refine⟨fun hlt2=>?_,fun _=>?_⟩
   ·simp only[ywa,ywb,ywc,ywd,ywe,yhw,yhx,yhv,yhy,yhz,yhb,yhc,yhd,yhu,yhe,yhf,yhg,yhh,yhi,yhj,yhk,yhl,yhm,yhn,yho,yhp];exact⟨hi,by omega,zkN (zkN ⟨fun _=>h _ (by omega) (by omega),fun _=>⟨by omega,by omega,by omega⟩⟩)⟩
   ·simp only[ywa,ywb,ywc,ywd,ywe,yhw,yhx,yhv,yhy,yhz,yhb,yhc,yhd,yhu,yhe,yhf,yhg,yhh,yhi,yhj,yhk,yhl,yhm,yhn,yho,yhp];exact⟨by omega,by omega,ih _ _ _ s5 (by omega) (by omega) (by omega) (by omega) fun r hr1 hr2=>⟨by omega,⟨hr1,hr2,by omega⟩,by omega⟩⟩
  ·simp only[ywa,ywb,ywc,ywd,ywe,yhw,yhx,yhv,yhy,yhz,yhb,yhc,yhd,yhu,yhe,yhf,yhg,yhh,yhi,yhj,yhk,yhl,yhm,yhn,yho,yhp];exact h _ i1 i2
theorem zsF:∀(k:Nat)(l:List Sel){Q:List UInt8->Prop},k<=10->SelD k l->(∀s,s.length<=1000*4 ^ k->Q s)->wp (zaW (k+1) l) Q:=by
 have hB:BIG=9223372036854775807:=rfl;intro k;induction k with
 |zero=>intro l Q _ hl h;rw[hl,zaW];rw[ywb];refine zao (fun s:List UInt8×Int=>s=([123],0)) (fun _=>0) rfl fun s hs=>?_;subst hs;simp only[ywa,ywb,ywc,ywd,ywe,yhw,yhx,yhv,yhy,yhz,yhb,yhc,yhd,yhu,yhe,yhf,yhg,yhh,yhi,yhj,yhk,yhl,yhm,yhn,yho,yhp,yht,yhr,yhs];exact⟨fun h=>by omega,fun _=>⟨by omega,h _ (by simp)⟩⟩
 |succ k ih=>
  intro l Q hk hl h;have hll:=hl.len;have h4:4 ^ (k+1)=4*4 ^ k:=by rw[Nat.pow_succ];omega
  have h4a:4 ^ k<=1048576:=by have:4 ^ k<=4 ^ 10:=Nat.pow_le_pow_right (by omega) (by omega);omega
  have h4b:1<=4 ^ k:=Nat.one_le_pow _ _ (by omega);generalize hC:4 ^ k=C at ih h4 h4a h4b;rw[zaW];rw[ywb];refine zao (fun s:List UInt8×Int=>0<=s.2/\s.2<=l.length/\s.1.length<=1+s.2.toNat*(230+1000*C)) (fun s=>l.length-s.2.toNat) ⟨by simp,by simp,by simp⟩ fun s ⟨i1,i2,i3⟩=>?_;have hbig:s.2.toNat*(230+1000*C)<=3*(230+1000*C):=Nat.mul_le_mul (by omega) (by omega);have hstep:(s.2+1).toNat*(230+1000*C)=s.2.toNat*(230+1000*C)+(230+1000*C):=by
   have e:(s.2+1).toNat=s.2.toNat+1:=by omega
   rw[e,Nat.add_mul];omega
  generalize hM:s.2.toNat*(230+1000*C)=M at i3 hbig hstep;generalize hM2:(s.2+1).toNat*(230+1000*C)=M2 at hstep;rw[ywc];simp only[yhc,yhd];refine⟨fun hlt=>?_,fun _=>?_⟩
  ·rw[ywa,ywb,ywe];refine⟨by simpa using i1,by omega,?_⟩;obtain⟨j,hj,s1,s2,s3,s4,s5⟩:=hl.get (ygh (show s.2.toNat<l.length by omega));obtain rfl:j=k:=by omega
   generalize l[s.2.toNat]'(by omega)=S at s1 s2 s3 s4 s5;refine zaw (fun x:List UInt8=>x.length<=1+M+1) ?_ fun x1 g1=>?_
   ·simp only[ywa,ywb,ywc,ywd,ywe,yhw,yhx,yhv,yhy,yhz,yhb,yhc,yhd,yhu,yhe,yhf,yhg,yhh,yhi,yhj,yhk,yhl,yhm,yhn,yho,yhp,yhr,yhs,yht];exact⟨fun _=>⟨by omega,by omega⟩,fun _=>by omega⟩
   refine zaw (fun x:List UInt8=>x.length<=1+M+102) ?_ fun x2 g2=>?_
   ·simp only[ywa,ywb,ywc,ywd,ywe,yhw,yhx,yhv,yhy,yhz,yhb,yhc,yhd,yhu,yhe,yhf,yhg,yhh,yhi,yhj,yhk,yhl,yhm,yhn,yho,yhp,yhr,yhs,yht];exact⟨fun _=>⟨by omega,by omega,by omega⟩,fun _=>by omega⟩
   rw[ywa];refine⟨by simp only[yhc];omega,?_⟩;refine zaw (fun x:List UInt8=>x.length<=1+M+222) ?_ fun x3 g3=>?_
   ·simp only[ywa,ywb,ywc,ywd,ywe,yhw,yhx,yhv,yhy,yhz,yhb,yhc,yhd,yhu,yhe,yhf,yhg,yhh,yhi,yhj,yhk,yhl,yhm,yhn,yho,yhp,yhr,yhs,yht];exact⟨fun _=>⟨by omega,zxf s3 (by omega) fun ds hds=>⟨by omega,by omega,by omega⟩⟩,fun _=>by omega⟩
   refine zaw (fun x:List UInt8=>x.length<=1+M2) ?_ fun x4 g4=>?_
   ·simp only[ywa,ywb,ywc,ywd,ywe,yhw,yhx,yhv,yhy,yhz,yhb,yhc,yhd,yhu,yhe,yhf,yhg,yhh,yhi,yhj,yhk,yhl,yhm,yhn,yho,yhp,yhr,yhs,yht];exact⟨fun _=>ih _ (by omega) s5 fun ws hws=>⟨by omega,by omega⟩,fun _=>by omega⟩
   simp only[ywa,ywb,ywc,ywd,ywe,yhw,yhx,yhv,yhy,yhz,yhb,yhc,yhd,yhu,yhe,yhf,yhg,yhh,yhi,yhj,yhk,yhl,yhm,yhn,yho,yhp];exact⟨by omega,⟨by omega,by omega,by rw[hM2];exact g4⟩,by omega⟩
  ·simp only[ywa,ywb,ywc,ywd,ywe,yhw,yhx,yhv,yhy,yhz,yhb,yhc,yhd,yhu,yhe,yhf,yhg,yhh,yhi,yhj,yhk,yhl,yhm,yhn,yho,yhp,yhr,yhs,yht];exact⟨by omega,h _ (by simp only[yhr,yhs,yht];omega)⟩
def zzH(p:Part):Nat->List UInt8->List Sel->Prop
|0,_,l=>l=[]
|k+1,nm,l=>∀s∈l,(zpM p nm s.name).2=true/\(isSc (zpM p nm s.name).1.of=true->s.kids=[])/\zzH p k (zpM p nm s.name).1.of s.kids
theorem zrF{p:Part}(hp:SmP 200 p):∀(k:Nat)(nm:List UInt8)(l:List Sel)(way:List (List UInt8)){Q:AFault->Prop},k<=10->SelD k l->way.length+k<=100->(∀r,r.way.length<=101->(r.code=0->zzH p k nm l)->Q r)->wp (zbD (k+1) (p,nm,l,way)) Q:=by
 have hL:LIM=1099511627776:=rfl;intro k;induction k with
 |zero=>intro nm l way Q _ hl hw h;rw[hl,zbD];dsimp only;rw[ywb];refine zao (fun s:Int×Int×List (List UInt8)=>s=(0,0,[])) (fun _=>0) rfl fun s hs=>?_;subst hs;simp only[ywa,ywb,ywc,ywd,ywe,yhw,yhx,yhv,yhy,yhz,yhb,yhc,yhd,yhu,yhe,yhf,yhg,yhh,yhi,yhj,yhk,yhl,yhm,yhn,yho,yhp,yht];exact⟨fun h=>by omega,fun _=>h _ (by simp) fun _=>hl⟩
 |succ k ih=>
  intro nm l way Q hk hl hw h;have hll:=hl.len;have bad:∀w c,w.length<=101->c≠0->Q ⟨w,c⟩:=fun w c hw hc=>h _ hw fun e=>absurd e hc;rw[zbD];dsimp only;rw[ywb];refine zao (fun s:Int×Int×List (List UInt8)=>0<=s.1/\∀(j:Nat)(hj:j<l.length),j<s.1.toNat->(zpM p nm l[j].name).2=true/\(isSc (zpM p nm l[j].name).1.of=true->l[j].kids=[])/\zzH p k (zpM p nm l[j].name).1.of l[j].kids) (fun s=>l.length-s.1.toNat) ⟨by simp,by simp⟩ fun s ⟨i1,i2⟩=>?_;rw[ywc];simp only[yhc,yhd];refine⟨fun hlt=>?_,fun _=>?_⟩
  ·rw[ywa,ywb,ywe];refine⟨by simpa using i1,by omega,?_⟩;obtain⟨j,hj,s1,s2,s3,s4,s5⟩:=hl.get (ygh (show s.1.toNat<l.length by omega));obtain rfl:j=k:=by omega
   have hnext:((zpM p nm (l[s.1.toNat]'(by omega)).name).2=true/\(isSc (zpM p nm (l[s.1.toNat]'(by omega)).name).1.of=true->(l[s.1.toNat]'(by omega)).kids=[])/\zzH p j (zpM p nm (l[s.1.toNat]'(by omega)).name).1.of (l[s.1.toNat]'(by omega)).kids)->
    ∀(i:Nat)(hi:i<l.length),i<(s.1+1).toNat->(zpM p nm l[i].name).2=true/\(isSc (zpM p nm l[i].name).1.of=true->l[i].kids=[])/\zzH p j (zpM p nm l[i].name).1.of l[i].kids:=fun hnew i hi hi2=>by
    rcases Nat.lt_or_ge i s.1.toNat with h'|h'
    ·exact i2 i hi h'
    ·obtain rfl:i=s.1.toNat:=by omega
     exact hnew
   generalize l[s.1.toNat]'(by omega)=S at s1 s2 s3 s4 s5 hnext;rw[ywa];refine⟨by simp only[yhc];omega,?_⟩;rw[ywb];refine zkN ?_;generalize(if(Sel.mk S.as S.name S.one S.id S.kids).as=[]then(Sel.mk S.as S.name S.one S.id S.kids).name else(Sel.mk S.as S.name S.one S.id S.kids).as)=ky;have hwl:(way++[ky]).length<=101:=by simp only[yhr,yhs,yht];omega
   rw[ywa,ywb];refine⟨by simp only[yhc,yhs,yht];omega,zq0 hp (by omega) ?_⟩;generalize zpM p nm S.name=fo at hnext;rw[ywb];refine zeq ?_;refine zaw (fun x=>x=false->fo.2=true) ?_ fun x4 g4=>?_
   ·simp only[ywa,ywb,ywc,ywd,ywe,yhw,yhx,yhv,yhy,yhz,yhb,yhc,yhd,yhu,yhe,yhf,yhg,yhh,yhi,yhj,yhk,yhl,yhm,yhn,yho,yhp,yhq,and_self];exact fun h _=>h
   rw[ywc];refine⟨fun _=>by simp only[ywa,ywb,ywc,ywd,ywe,yhw,yhx,yhv,yhy,yhz,yhb,yhc,yhd,yhu,yhe,yhf,yhg,yhh,yhi,yhj,yhk,yhl,yhm,yhn,yho,yhp];exact bad _ _ hwl (by omega),fun hx4=>?_⟩;refine zaw (fun x=>x=false->isSc fo.1.of=true->S.kids=[]) ?_ fun x5 g5=>?_
   ·simp only[ywa,ywb,ywc,ywd,ywe,yhw,yhx,yhv,yhy,yhz,yhb,yhc,yhd,yhu,yhe,yhf,yhg,yhh,yhi,yhj,yhk,yhl,yhm,yhn,yho,yhp,yhq,and_self];refine⟨fun _ h _=>?_,fun h h'=>(by rw[h]at h';cases h')⟩;simp only[gt_iff_lt,Int.natCast_pos,Nat.not_lt,Nat.le_zero,List.length_eq_zero_iff]at h;exact h
   rw[ywc];refine⟨fun _=>by simp only[ywa,ywb,ywc,ywd,ywe,yhw,yhx,yhv,yhy,yhz,yhb,yhc,yhd,yhu,yhe,yhf,yhg,yhh,yhi,yhj,yhk,yhl,yhm,yhn,yho,yhp];exact bad _ _ hwl (by omega),fun hx5=>?_⟩;refine zaw (fun _=>True) (by simp only[ywa,ywb,ywc,ywd,ywe,yhw,yhx,yhv,yhy,yhz,yhb,yhc,yhd,yhu,yhe,yhf,yhg,yhh,yhi,yhj,yhk,yhl,yhm,yhn,yho,yhp,yhq,and_self]) fun x6 _=>?_;rw[ywc];refine⟨fun _=>by simp only[ywa,ywb,ywc,ywd,ywe,yhw,yhx,yhv,yhy,yhz,yhb,yhc,yhd,yhu,yhe,yhf,yhg,yhh,yhi,yhj,yhk,yhl,yhm,yhn,yho,yhp];exact bad _ _ hwl (by omega),fun _=>?_⟩;refine zaw (fun _=>True) (by simp only[ywa,ywb,ywc,ywd,ywe,yhw,yhx,yhv,yhy,yhz,yhb,yhc,yhd,yhu,yhe,yhf,yhg,yhh,yhi,yhj,yhk,yhl,yhm,yhn,yho,yhp,yhq,and_self]) fun x7 _=>?_;rw[ywc];refine⟨fun _=>by simp only[ywa,ywb,ywc,ywd,ywe,yhw,yhx,yhv,yhy,yhz,yhb,yhc,yhd,yhu,yhe,yhf,yhg,yhh,yhi,yhj,yhk,yhl,yhm,yhn,yho,yhp];exact bad _ _ hwl (by omega),fun _=>?_⟩;rw[ywb];refine ih _ _ _ (by omega) s5 (by simp only[yhr,yhs,yht];omega) fun r hr1 hr2=>?_;simp only[ywa,ywb,ywc,ywd,ywe,yhw,yhx,yhv,yhy,yhz,yhb,yhc,yhd,yhu,yhe,yhf,yhg,yhh,yhi,yhj,yhk,yhl,yhm,yhn,yho,yhp];refine⟨fun hr=>h _ hr1 fun e=>absurd e hr,fun hr=>⟨by omega,⟨by omega,hnext ⟨g4 hx4,g5 hx5,hr2 hr⟩⟩,by omega⟩⟩
  ·simp only[ywa,ywb,ywc,ywd,ywe,yhw,yhx,yhv,yhy,yhz,yhb,yhc,yhd,yhu,yhe,yhf,yhg,yhh,yhi,yhj,yhk,yhl,yhm,yhn,yho,yhp];refine h _ (by simp) fun _ s hs=>?_;obtain⟨j,hj,rfl⟩:=List.getElem_of_mem hs;exact i2 j hj (by omega)
theorem zn4:∀(k:Nat)(l:List Sel){Q:List Sel->Prop},SelD k l->Q l->wp (zca (k+1) l) Q:=by
 have hL:LIM=1099511627776:=rfl;intro k;induction k with
 |zero=>intro l Q hl h;subst hl;rw[zca];rw[ywb];refine zao (fun s:Int×List Sel=>s=(0,[])) (fun _=>0) rfl fun s hs=>?_;subst hs;simp only[ywa,ywb,ywc,ywd,ywe,yhw,yhx,yhv,yhy,yhz,yhb,yhc,yhd,yhu,yhe,yhf,yhg,yhh,yhi,yhj,yhk,yhl,yhm,yhn,yho,yhp,yht];exact⟨fun h=>by omega,fun _=>h⟩
 |succ k ih=>
  intro l Q hl h;have hll:=hl.len;rw[zca];rw[ywb];refine zao (fun s:Int×List Sel=>0<=s.1/\s.1<=l.length/\s.2=l.take s.1.toNat) (fun s=>l.length-s.1.toNat) ⟨by simp,by simp,by simp⟩ fun s ⟨i1,i2,i3⟩=>?_;rw[ywc];simp only[yhc,yhd];refine⟨fun hlt=>?_,fun _=>?_⟩
  ·rw[ywa,ywb,ywe];refine⟨by simpa using i1,by omega,?_⟩;obtain⟨j,hj,s1,s2,s3,s4,s5⟩:=hl.get (ygh (show s.1.toNat<l.length by omega));obtain rfl:j=k:=by omega
   rw[ywb];refine ih _ s5 ?_;simp only[ywa,ywb,ywc,ywd,ywe,yhw,yhx,yhv,yhy,yhz,yhb,yhc,yhd,yhu,yhe,yhf,yhg,yhh,yhi,yhj,yhk,yhl,yhm,yhn,yho,yhp,Sel.eta,yhs,yht];have hl2:s.2.length<=3:=by rw[i3,List.length_take];omega
   refine⟨by omega,by omega,⟨by omega,by omega,?_⟩,by omega⟩;have e:(s.1+1).toNat=s.1.toNat+1:=by omega
   rw[e,List.take_succ_eq_append_getElem (by omega),i3]
  ·simp only[ywa,ywb,ywc,ywd,ywe,yhw,yhx,yhv,yhy,yhz,yhb,yhc,yhd,yhu,yhe,yhf,yhg,yhh,yhi,yhj,yhk,yhl,yhm,yhn,yho,yhp];have e:s.1.toNat=l.length:=by omega
   rw[i3,e,List.take_length];exact h
theorem zmB{k:Nat}{l:List Sel}{Q:Bool->Prop}(hk:k<=10)(hl:SelD k l)(h:∀r,(r=true->1<=l.length)->Q r):wp (zdV l) Q:=by rw[zis];unfold zjW;simp only[ywa,ywb,ywc,ywd,ywe,yhw,yhx,yhv,yhy,yhz,yhb,yhc,yhd,yhu,yhe,yhf,yhg,yhh,yhi,yhj,yhk,yhl,yhm,yhn,yho,yhp];refine⟨fun h0=>zim zwk (zyT k l 1 24 hl (by omega) (by omega) (by omega) (by omega) fun r _ _=>⟨fun _=>zim zqw (zsF k l hk hl fun s _=>h _ fun _=>by omega),fun _=>h _ (by simp)⟩),fun _=>h _ (by simp)⟩
theorem zpg{k:Nat}{p:Part}{l:List Sel}{Q:AFault->Prop}(hp:SmP 200 p)(hk:k<=10)(hl:SelD k l)(h:∀r,(r.code=0->WF p/\1<=l.length/\zzH p k [113,117,101,114,121] l)->Q r):wp (zfW (p,l)) Q:=by
 have hL:LIM=1099511627776:=rfl;rw[zhy];unfold zfP;dsimp only;refine zaw (fun x=>x=false->WF p/\1<=l.length) ?_ fun x hx=>?_
 ·simp only[ywa,ywb,ywc,ywd,ywe,yhw,yhx,yhv,yhy,yhz,yhb,yhc,yhd,yhu,yhe,yhf,yhg,yhh,yhi,yhj,yhk,yhl,yhm,yhn,yho,yhp,yhq,and_self];refine zk1 hp (by omega) fun r hr h0=>zmB hk hl fun b hb e=>?_;exact⟨hr h0,hb e⟩
 rw[ywc,ywd];refine⟨fun _=>h _ fun e=>by simp at e,fun hxf=>?_⟩;obtain⟨h1,h2⟩:=hx hxf;rw[ywb];refine zim zpm (zrF hp k _ _ _ hk hl (by simp;omega) fun r hr1 hr2=>?_);simp only[ywa,ywb,ywc,ywd,ywe,yhw,yhx,yhv,yhy,yhz,yhb,yhc,yhd,yhu,yhe,yhf,yhg,yhh,yhi,yhj,yhk,yhl,yhm,yhn,yho,yhp];exact⟨by omega,h _ fun e=>⟨h1,h2,hr2 e⟩⟩
end Go.Fw
namespace Go.Fw
open Go
theorem zvy{ps:List Part}{Q:Part->Prop}(hc:Ch ps)(h:∀p,Dr p->1<=p.types.length->Q p):wp (zjE ps) Q:=by
 rw[zjZ];unfold zjz;rw[ywb];refine zvF hc fun r hr=>?_;rw[ywc];simp only[yhf,yhh,ne_eq];refine⟨fun _=>?_,fun h0=>?_⟩
 ·rw[ywb];refine⟨_,zl8,?_⟩;dsimp only;rw[ywd];refine h _ ⟨⟨by simp,by rw[zeS];omega,fun t ht=>?_⟩,fun t ht=>?_⟩ (by rw[zeS];omega)
  ·obtain⟨a1,a2,a3,a4,a5⟩:=zl9 ht;exact⟨a1,a2,by omega,fun f hf=>(a5 f hf).1⟩
  ·have hp:(zfw.all fun t=>decide (1<=t.fields.length))=true:=by kernel_rfl
   simpa using List.all_eq_true.1 hp t ht
 ·rw[ywd];obtain⟨a,b,c⟩:=hr h0;exact h _ ⟨b,fun t ht=>(a.type t ht).pos⟩ a.pos
theorem zzZ{p:Part}{b:List Int}{q:Int}{m:Nat}{Q:List Sel×List Int×Int->Prop}(hp:Dr p)(h1:1<=p.types.length)(hR:Rd b q m)(hm:m<=100000000000)(h:∀l b' q',SelD 5 l->Rd b' q' (m+200000)->Q (l,b',q')):wp (zjF (p,b,q)) Q:=by
 have h45:20*4 ^ 5=20480:=rfl;rw[zj0];unfold zjA;dsimp only;rw[ywb];refine zim zoW (zrv hp 5 1 _ _ _ m (by omega) (by omega) (by omega) hR (by omega) fun l b' q' hl hR'=>?_);rw[h45]at hR';rw[ywb];refine zao (fun s:List Sel×Int×List Int×Int=>0<=s.2.1/\s.2.1<=4/\SelD 5 s.1/\Rd s.2.2.1 s.2.2.2 (m+20480*(s.2.1.toNat+1))) (fun s=>4-s.2.1.toNat) ⟨by simp,by simp,hl,hR'.up (by simp)⟩ fun s ⟨i1,i2,i3,i4⟩=>?_;refine zaw (fun x=>x=true->s.2.1<4) ?_ fun x hx=>?_
 ·simp only[ywa,ywb,ywc,ywd,ywe,yhw,yhx,yhv,yhy,yhz,yhb,yhc,yhd,yhu,yhe,yhf,yhg,yhh,yhi,yhj,yhk,yhl,yhm,yhn,yho,yhp,yhq,and_self];exact fun hlt=>zmB (by omega) i3 fun r _=>⟨fun _=>hlt,fun _=>zpg hp.sm (by omega) i3 fun _ _ _=>hlt⟩
 rw[ywc];refine⟨fun hxt=>?_,fun _=>?_⟩
 ·have hlt:=hx hxt;rw[ywb];refine zim zoW (zrv hp 5 1 _ _ _ (m+20480*(s.2.1.toNat+1)) (by omega) (by omega) (by omega) i4 (by omega) fun l b' q' hl hR'=>?_);rw[h45]at hR';simp only[ywa,ywb,ywc,ywd,ywe,yhw,yhx,yhv,yhy,yhz,yhb,yhc,yhd,yhu,yhe,yhf,yhg,yhh,yhi,yhj,yhk,yhl,yhm,yhn,yho,yhp];exact⟨by omega,⟨by omega,by omega,hl,hR'.up (by omega)⟩,by omega⟩
 ·simp only[ywd,yhz];rw[ywb];refine zmB (by omega) i3 fun r _=>?_;rw[ywc];refine⟨fun _=>?_,fun _=>?_⟩
  ·rw[ywb,ywe];refine⟨by simp;omega,?_⟩;have hT:=hp.sm.type _ (ygh (show(0:Int).toNat<p.types.length by simp;omega));have hTp:=hp.pos _ (ygh (show(0:Int).toNat<p.types.length by simp;omega));rw[ywb,ywe];have hTp':(0:Int).toNat<(p.types[(0:Int).toNat]'(by simp;omega)).fields.length:=by have:=hTp;simp at this|-;omega
   refine⟨hTp',?_⟩;have hF:=hT.field _ (ygh hTp');rw[ywd];refine h _ _ _ ⟨by simp,fun s hs=>?_⟩ (i4.up (by omega));obtain rfl:=List.mem_singleton.1 hs;exact⟨hF.name,by simp,by simp,by simp,.nil _⟩
  ·rw[ywd];exact h _ _ _ i3 (i4.up (by omega))
end Go.Fw
namespace Go.Fw
open Go
abbrev KK:Nat:=1048576
set_option linter.unusedVariables false
theorem zoY(n a b:Int):zc4 (n,a,b)=some (decide (a<=n)&&decide (n<=b)):=by rw[zj2];unfold znP;simp only[zrL,zac,ge_iff_le];cases decide (a<=n)<;>rfl
theorem zh6(n a b:Int):zhA (n,a,b)=some (decide (a<=n)&&decide (n<=b)):=by rw[znQ];unfold zqD;simp only[zrL,zac,ge_iff_le];cases decide (a<=n)<;>rfl
def zvs(i:Nat)(c:UInt8):Bool:=(decide (97<=zaI c)&&decide (zaI c<=122)) ||zaI c==95 ||(decide (0<i)&&decide (48<=zaI c)&&decide (zaI c<=57))
def zo8(s:List UInt8):Bool:=decide (1<=s.length)&&decide (s.length<=9)&&zsX zvs 0 s
theorem zxW(i:Nat):decide ((i:Int)>0)=decide (0<i):=by simp
theorem zBv(i:Nat):((i:Int)==0)= !decide (0<i):=by
 by_cases h:i=0
 ·subst h;rfl
 ·have h1:((i:Int)==0)=false:=by simpa using h
  rw[h1];simp;omega
theorem zxV(n:Nat):decide ((1:Int)<=(n:Int))=decide (1<=n):=by simp;omega
theorem zz3(n:Nat):decide ((n:Int)<=9)=decide (n<=9):=by simp;omega
theorem zqg{s:List UInt8}(hl:s.length<=4611686018427387904):zhG s=some (zo8 s):=by
 rw[zgH];unfold zho;rw[zoY,zac,zxV,zz3];unfold zo8;cases hb:(decide (1<=s.length)&&decide (s.length<=9))with
 |false=>rfl
 |true=>
  simp only[Bool.not_true,zaf,Bool.true_and];rw[zwO (s0:=(0:Int)) s (fun i=>(i:Int)) (s.length:Int) (fun i c=>bif zvs i c then none else some false) rfl ?_ ?_]
  ·rw[zpK];cases zsX zvs 0 s<;>rfl
  ·intro i h;have h3:=zjm h hl;simp only[zpC h,zog,zl7 h,zam,zdA,zac,zrL,zxW,ge_iff_le,h3];generalize s[i]=c;unfold zvs;cases decide (97<=zaI c)<;>cases decide (zaI c<=122)<;>cases(zaI c==95)<;>cases decide (0<i)<;>cases decide (48<=zaI c)<;>cases decide (zaI c<=57)<;>rfl
  ·simp only[zkz,zaf]
theorem zva{n:Int}(h1:-9223372036854775808<=n)(h2:n<=9223372036854775807):IntKind.wrap .i64 n=n:=by simp only[IntKind.wrap,IntKind.bits,IntKind.signed];simp;omega
theorem zu9(c:UInt8):IntKind.wrap .i64 (zaI c)=zaI c:=by have:c.toNat<256:=c.toNat_lt;exact zva (by unfold zaI;omega) (by unfold zaI;omega)
theorem zpR{s:List UInt8}(hl:s.length<=4611686018427387904):zfY s=some (zo8 s):=by
 rw[zhC];unfold zfS;rw[zwO (s0:=(0:Int)) s (fun i=>(i:Int)) (s.length:Int) (fun i c=>bif zvs i c then none else some false) rfl ?_ ?_]
 ·rw[zpK];simp only[zh6,zac,caseS,zxV,zz3];unfold zo8;cases zsX zvs 0 s<;>simp[zac]
 ·intro i h;have h3:=zjm h hl;have h4:(List.map zaI s)[Int.toNat (i:Int)]? =some (zaI s[i]):=by simp[h]
  simp only[List.length_map,zpC h,zog,h4,zam,zdA,zac,zrL,zBv,ge_iff_le,h3,zh6,zu9];generalize s[i]=c;unfold zvs;cases decide (97<=zaI c)<;>cases decide (zaI c<=122)<;>cases hc:(zaI c==95)<;>cases decide (0<i)<;>cases decide (48<=zaI c)<;>cases decide (zaI c<=57)<;>simp only[bne,hc]<;>rfl
 ·simp only[List.length_map,zkz,zaf]
def zCl(s:List UInt8):Bool:=s==[105,110,116] ||s==[116,101,120,116] ||s==[98,111,111,108]
theorem zzd(s:List UInt8):zbu s=some (zCl s):=by rw[zeD];unfold zd3;unfold zCl;cases(s==[105,110,116])<;>cases(s==[116,101,120,116])<;>rfl
theorem zvY{xs:List (List UInt8)}{s:List UInt8}(hl:xs.length<=4611686018427387904):zaL (xs,s)=some (ixM (fun x=>s==x) xs):=by rw[zbh];unfold zaK;dsimp only;exact ixf (g:=fun x=>some (s==x)) (fun x=>s==x) hl (fun _ _=>rfl)
theorem zgO{xs:List (List UInt8)}{s:List UInt8}(hl:xs.length<=4611686018427387904):zak (xs,s)=some (xs.any fun x=>s==x):=by rw[zbb];unfold zaD;dsimp only;rw[zvY hl,zac,zxm]
def kwL:List (List UInt8):=[[105,110,116],[116,101,120,116],[98,111,111,108],[112,97,114,116],[116,121,112,101],[107,101,121],[102,97,114],[104,105,100,100,101,110],[115,104,97,114,101,100],[110,101,101,100,115]]
def ztC:List UInt8->Bool
|[]=>false
|c:: _=>zaI c !=95
def nameM(s:List UInt8):Bool:=zo8 s&&(decide (s.length<=8)&&(ztC s&&!kwL.any fun x=>s==x))
theorem zz2(n:Nat):decide ((n:Int)<=8)=decide (n<=8):=by simp;omega
theorem zla{s:List UInt8}(hl:s.length<=4611686018427387904):zby s=some (nameM s):=by
 rw[zgJ];unfold zhs;rw[zqg hl,zac,zz2];unfold nameM;cases s with
 |nil=>rfl
 |cons c s=>
  cases zo8 (c:: s)with
  |false=>rfl
  |true=>
   simp only[zam,Int.toNat_zero,List.getElem?_cons_zero,zac,zzd,ztC,zCl];simp only[kwL,List.any_cons,List.any_nil,bne];cases decide ((c:: s).length<=8)<;>cases(zaI c==95)<;>cases(c:: s==[105,110,116])<;>cases(c:: s==[116,101,120,116])<;>cases(c:: s==[98,111,111,108])<;>try rfl
   cases(c:: s==[112,97,114,116])<;>cases(c:: s==[116,121,112,101])<;>cases(c:: s==[107,101,121])<;>cases(c:: s==[102,97,114])<;>cases(c:: s==[104,105,100,100,101,110])<;>cases(c:: s==[115,104,97,114,101,100])<;>cases(c:: s==[110,101,101,100,115])<;>rfl
theorem zgX{s:List UInt8}(hl:s.length<=4611686018427387904):zdj s=some (nameM s):=by
 rw[zhB];unfold zfR;rw[zpR hl,zac,zz2];unfold nameM;cases s with
 |nil=>rfl
 |cons c s=>
  cases zo8 (c:: s)with
  |false=>rfl
  |true=>have hc:=zgO (xs:=kwL) (s:=c:: s) (by simp[kwL]);simp only[kwL]at hc;simp only[zam,Int.toNat_zero,List.getElem?_cons_zero,zac,ztC,kwL,hc];cases decide ((c:: s).length<=8)<;>cases(zaI c !=95)<;>rfl
theorem zfE{s:List UInt8}(h:nameM s=true):s.length<=8:=by unfold nameM at h;simp only[yhb,yhc]at h;exact h.2.1
theorem zwT{l:List (List UInt8)}(hl:l.length<=KK):zhD l=some (!zsX (fun i s=>!(l.take i).any fun x=>s==x) 0 l):=by
 rw[zi6];unfold zhl;rw[zwO (s0:=(0:Int)) l (fun i=>(i:Int)) (l.length:Int) (fun i s=>bif (!(l.take i).any fun x=>s==x)then none else some true) rfl ?_ ?_]
 ·rw[zpK];cases zsX (fun i s=>!(l.take i).any fun x=>s==x) 0 l<;>rfl
 ·intro i h;have h3:=zjm h (up hl);have h4:decide ((i:Int)<=(l.length:Int))=true:=by simp;omega
  have h5:(List.take (Int.toNat (i:Int)-Int.toNat 0) (List.drop (Int.toNat 0) l))=l.take i:=by simp
  simp only[zpC h,zog,zl7 h,zam,zdA,zac,h3,h4,h5,decide_true,Bool.and_self,Int.le_refl];rw[zgO (by rw[List.length_take];exact Nat.le_trans (Nat.min_le_right _ _) (up hl)),zac];cases(l.take i).any fun x=>l[i]==x<;>rfl
 ·simp only[zkz,zaf]
end Go.Fw
namespace Go.Fw
open Go
set_option linter.unusedVariables false
set_option linter.unusedSimpArgs false
theorem zCQ{α Z:Type}{x:Option α}{f:α->Option Z}{Q:Z->Prop}(R:α->Prop)(h:wp x R)(hf:∀a,R a->wp (f a) Q):wp (zaa x f) Q:=ywb.2 (h.mono hf)
def zfi(s:Sel):List UInt8:=bif s.as !=[]then s.as else s.name
def zfl(s:Sel):Bool:=nameM s.name&&((bif s.as==[]then true else(nameM s.as&&s.as !=s.name))&&((decide (0<=s.id)&&decide (s.id<=999999))&&(bif s.one then true else s.id==0)))
def znD(l:List (List UInt8)):Bool:=zsX (fun i s=>!(l.take i).any fun x=>s==x) 0 l
def okM:Nat->List Sel->Bool
|0,l=>l.isEmpty
|k+1,l=>znD (l.map zfi)&&l.all fun s=>zfl s&&okM k s.kids
def za0:Nat->List Sel->Nat
|0,_=>0
|k+1,l=>l.length+(l.map fun s=>za0 k s.kids).sum
def zxQ:Nat->List Sel->Prop
|0,_=>True
|k+1,l=>l.length<=1000/\∀s∈l,s.name.length<=1000/\s.as.length<=1000/\zxQ k s.kids
theorem up3{n:Nat}(h:n<=1000):n<=4611686018427387904:=Nat.le_trans h (by decide)
theorem zjU:∀k,za0 k []=0
|0=>rfl
|k+1=>rfl
theorem zyU:∀k,okM k []=true
|0=>rfl
|k+1=>rfl
theorem zns{α:Type}{xs:List α}{w:α->Nat}{i:Nat}(h:i<xs.length):((xs.take (i+1)).map w).sum=((xs.take i).map w).sum+w xs[i]:=by rw[List.take_succ_eq_append_getElem h,List.map_append,List.sum_append];simp
theorem zhe{α:Type}(xs:List α)(w:α->Nat)(i:Nat):((xs.take i).map w).sum<=(xs.map w).sum:=by
 conv=>rhs;rw[<-List.take_append_drop i xs,List.map_append,List.sum_append]
 omega
theorem zwU(s:Sel):zda s=some (zfi s):=by rw[ze6];unfold zc8;exact zrL
theorem zyv(s:Sel):zeE s=some (zfi s):=by rw[ziu];unfold zjY;exact zrL
theorem znp(s:Sel):Sel.mk s.as s.name s.one s.id s.kids=s:=by cases s;rfl
theorem zu4{l:List Sel}(hl:l.length<=1000):zfZ l=some (l.map zfi):=by
 rw[zhE];unfold zfT;have hL:LIM=1099511627776:=rfl;rw[znu (s0:=((0:Int),([]:List (List UInt8)))) l.length (fun i=>((i:Int),(l.take i).map zfi)) ((l.length:Int),l.map zfi) rfl ?_ ?_]
 ·intro i hi;have h3:=zjm hi (up3 hl);have h4:decide (List.length ((l.take i).map zfi)+List.length [zfi l[i]]<=LIM)=true:=by simp;omega
  simp only[zpC hi,zog,zl7 hi,zam,zdA,zac,h3,znp,zwU,h4];rw[List.take_succ_eq_append_getElem hi,List.map_append];rfl
 ·simp only[zkz,zaf,List.take_length]
theorem zwD{s:Sel}(h1:s.name.length<=1000)(h2:s.as.length<=1000):zfX s=some (zfl s):=by rw[zhz];unfold zfQ;rw[zgX (up3 h1),zgX (up3 h2),zh6];unfold zfl;simp only[bne];cases nameM s.name<;>cases(s.as==[])<;>cases nameM s.as<;>cases(s.as==s.name)<;>cases decide (0<=s.id)<;>cases decide (s.id<=999999)<;>cases s.one<;>cases(s.id==0)<;>rfl
theorem zz1{l:List Sel}(hl:l.length<=1000)(h:∀s∈l,s.name.length<=1000/\s.as.length<=1000):zcE l=some (!l.all zfl):=by
 rw[zd7];unfold zcy;have h2:zcF l=some (ixM (fun s=>!zfl s) l):=by rw[zd8];unfold zcz;exact ixf (g:=zdb) _ (up3 hl) (fun s hs=>by rw[ze7];unfold zc9;rw[zwD (h s hs).1 (h s hs).2];rfl)
 rw[h2,zac,zxm,List.not_all_eq_any_not]
theorem zaU{k:Nat}{l:List Sel}:okM (k+1) l=true↔znD (l.map zfi)=true/\l.all zfl=true/\∀s∈l,okM k s.kids=true:=by simp only[okM,yhb,List.all_eq_true];exact⟨fun⟨a,b⟩=>⟨a,fun s hs=>(b s hs).1,fun s hs=>(b s hs).2⟩,fun⟨a,b,c⟩=>⟨a,fun s hs=>⟨b s hs,c s hs⟩⟩⟩
theorem zAp{l:List Nat}{x:Nat}(h:x∈l):x<=l.sum:=by
 induction l with
 |nil=>cases h
 |cons a l ih=>
  rw[List.sum_cons];rcases List.mem_cons.1 h with h|h
  ·omega
  ·have:=ih h;omega
theorem zi1{k:Nat}{l:List Sel}{s:Sel}(hs:s∈l):za0 k s.kids+1<=za0 (k+1) l:=by have h1:za0 k s.kids<=(l.map fun s=>za0 k s.kids).sum:=zAp (List.mem_map.2 ⟨s,hs,rfl⟩);have h2:=List.length_pos_of_mem hs;unfold za0;cases k<;>simp only[za0]at h1|-<;>omega
def zBr(k:Nat)(l:List Sel)(m:Int):Prop:=(okM k l=true/\za0 k l<=24->m=za0 k l)/\(¬(okM k l=true/\za0 k l<=24)->25<=m)/\0<=m/\m<=2000*(k+1)
theorem zt8(n:Nat):∀d,Le (za4 n d) (za4 (n+1) d):=by
 induction n with
 |zero=>intro d;exact Le.none
 |succ n ih=>intro d;rw[za4,za4];repeat' (first|exact ih _|refine Le.bind ?_ ?_|refine Le.cond ?_ ?_|refine Le.gd ?_|refine Le.caseS ?_ ?_|refine Le.loop ?_ _|exact Le.refl _|refine fun _=>?_)
theorem zwd:∀(k:Nat)(l:List Sel)(lv:Int),k<=5->lv=6-k->zxQ k l->(k=0->l≠[])->wp (za4 (k+1) (l,lv)) (zBr k l):=by
 intro k;induction k with
 |zero=>
  intro l lv _ hlv _ hne;subst hlv;rw[za4];have:l≠[]:=hne rfl;have he:okM 0 l=false:=by cases l with|nil=>exact absurd rfl this|cons a l=>rfl
  refine⟨25,rfl,?_,?_,by omega,by omega⟩
  ·rw[he];rintro⟨h,_⟩;cases h
  ·intro _;omega
 |succ k ih=>
  intro l lv hk hlv hC _;have hlv5:decide (lv>5)=false:=by simp;omega
  have hkn:∀s∈l,(s.kids=[]->za0 k s.kids=0/\okM k s.kids=true):=fun s _ h=>by rw[h];exact⟨zjU k,zyU k⟩
  rw[za4];dsimp only;simp only[hlv5,zaf];rw[zu4 hC.1,zac,zwT (by rw[List.length_map];exact Nat.le_trans hC.1 (by decide)),zac,zz1 hC.1 (fun s hs=>⟨(hC.2 s hs).1,(hC.2 s hs).2.1⟩)];cases hu:znD (l.map zfi)with
  |false=>have hu':=hu;unfold znD at hu';rw[hu'];refine⟨25,rfl,?_,fun _=>by omega,by omega,by omega⟩;rintro⟨h,_⟩;rw[zaU,hu]at h;cases h.1
  |true=>
   have hu':=hu;unfold znD at hu';rw[hu'];cases ha:l.all zfl with
   |false=>refine⟨25,rfl,?_,fun _=>by omega,by omega,by omega⟩;rintro⟨h,_⟩;rw[zaU,ha]at h;cases h.2.1
   |true=>
    simp only[Bool.not_true,zaf,zac];rw[ywb];have hll:=hC.1;refine zao (fun s:Int×Int=>0<=s.2/\s.2<=l.length/\s.1=((l.length+((l.take s.2.toNat).map fun s=>za0 k s.kids).sum:Nat):Int)/\(0<s.2->s.1<=24)/\∀x∈l.take s.2.toNat,okM k x.kids=true) (fun s=>l.length-s.2.toNat) ⟨by omega,by omega,by simp,by omega,by simp⟩ fun s ⟨i1,i2,i3,i4,i5⟩=>?_;rw[ywc];refine⟨fun hlt=>?_,fun hlt=>?_⟩
    ·have hlt':s.2.toNat<l.length:=by have:=of_decide_eq_true hlt;omega
     rw[ywa,ywb,ywe];refine⟨by simpa using i1,hlt',?_⟩;have hmem:l[s.2.toNat]∈l:=ygh hlt';have hts:=zns (w:=fun s:Sel=>za0 k s.kids) hlt';have hle:=zhe l (fun s:Sel=>za0 k s.kids) (s.2.toNat+1);have hCs:=(hC.2 _ hmem).2.2;have hks:=hkn _ hmem;have htk:∀x∈l.take (s.2.toNat+1),x∈l.take s.2.toNat\/x=l[s.2.toNat]:=fun x hx=>by rw[List.take_succ_eq_append_getElem hlt']at hx;rw[List.mem_append,List.mem_singleton]at hx;exact hx
     generalize l[s.2.toNat]=X at hmem hts hCs hks htk;have hs1:s.1<=1000:=by
      by_cases h0:0<s.2
      ·have:=i4 h0;omega
      ·have:s.2.toNat=0:=by omega
       rw[this]at i3;simp at i3;omega
     have hb:∀m:Int,zBr k X.kids m->(m+s.1>24->((okM (k+1) l=true/\za0 (k+1) l<=24->m+s.1=za0 (k+1) l)/\(¬(okM (k+1) l=true/\za0 (k+1) l<=24)->25<=m+s.1)/\0<=m+s.1/\m+s.1<=2000*((k+1:Nat)+1)))/\(m+s.1<=24->m+s.1=((l.length+((l.take (s.2.toNat+1)).map fun s=>za0 k s.kids).sum:Nat):Int)/\okM k X.kids=true):=by
      rintro m ⟨m1,m2,m3,m4⟩;refine⟨fun hg=>⟨fun⟨h1,h2⟩=>?_,fun _=>by omega,by omega,by omega⟩,fun hg=>?_⟩
      ·exfalso;have hx:okM k X.kids=true:=(zaU.1 h1).2.2 X hmem;simp only[za0]at h2;have:=m1 ⟨hx,by omega⟩;omega
      ·by_cases hx:okM k X.kids=true/\za0 k X.kids<=24
       ·have:=m1 hx;exact⟨by omega,hx.1⟩
       ·have:=m2 hx;omega
     refine zCQ (fun r=>∃m,zBr k X.kids m/\r=m+s.1) ?_ ?_
     ·rw[ywc];refine⟨fun hp=>?_,fun hp=>?_⟩
      ·rw[ywa,ywb];have hne:X.kids≠[]:=by intro e;rw[e]at hp;simp at hp
       refine⟨zaX (by omega) (by omega),(ih X.kids (lv+1) (by omega) (by omega) hCs fun _=>hne).mono fun m hm=>?_⟩;have hm':=hm;obtain⟨m1,m2,m3,m4⟩:=hm';rw[ywa,ywd];exact⟨zaX (by omega) (by omega),m,hm,by omega⟩
      ·rw[ywd];have hnil:X.kids=[]:=by
        cases hq:X.kids with
        |nil=>rfl
        |cons a b=>rw[hq]at hp;simp at hp
       obtain⟨g1,g2⟩:=hks hnil;exact⟨0,⟨fun _=>by omega,fun h=>absurd ⟨g2,by omega⟩ h,by omega,by omega⟩,by omega⟩
     ·rintro r ⟨m,hm,rfl⟩;obtain⟨b1,b2⟩:=hb m hm;rw[ywc];refine⟨fun hg=>?_,fun hg=>?_⟩
      ·rw[ywd,yhz,ywd];exact b1 (by simpa using hg)
      ·rw[ywa,ywd,yhy];have hg':m+s.1<=24:=by simpa using hg
       obtain⟨c1,c2⟩:=b2 hg';have ht:(s.2+1).toNat=s.2.toNat+1:=by omega
       refine⟨zaX (by omega) (by omega),⟨by omega,by omega,?_,fun _=>hg',?_⟩,?_⟩
       ·show m+s.1=_;rw[c1,ht]
       ·intro x hx;have hx':x∈l.take (s.2.toNat+1):=by rw[<-ht];exact hx
        rcases htk x hx' with h|h
        ·exact i5 x h
        ·rw[h];exact c2
       ·show l.length-(s.2+1).toNat<_;omega
    ·rw[ywd,yhz,ywd];have hge:l.length<=s.2.toNat:=by have:=of_decide_eq_false hlt;omega
     rw[List.take_of_length_le hge]at i3 i5;have hok:okM (k+1) l=true:=zaU.2 ⟨hu,ha,i5⟩;have hs:s.1=(za0 (k+1) l:Int):=by rw[i3];rfl
     refine⟨fun _=>hs,fun h=>?_,by omega,?_⟩
     ·have:¬za0 (k+1) l<=24:=fun h'=>h ⟨hok,h'⟩;omega
     ·by_cases h0:0<s.2
      ·have:=i4 h0;omega
      ·have:l.length=0:=by omega
       have:l=[]:=List.length_eq_zero_iff.1 this;rw[this,zjU]at hs;omega
end Go.Fw
namespace Go.Fw
open Go
set_option linter.unusedVariables false
set_option linter.unusedSimpArgs false
theorem zwl(n:Nat):∀d,Le (zcm n d) (zcm (n+1) d):=by
 induction n with
 |zero=>intro d;exact Le.none
 |succ n ih=>intro d;rw[zcm,zcm];repeat' (first|exact ih _|refine Le.bind ?_ ?_|refine Le.cond ?_ ?_|refine Le.gd ?_|refine Le.caseS ?_ ?_|refine Le.loop ?_ _|exact Le.refl _|refine fun _=>?_)
theorem zA1{s:Sel}(h1:s.name.length<=1000)(h2:s.as.length<=1000):(zaa (zby s.name) fun(x_1:Bool)=>
 zab (!x_1) (some true)
  (zab (s.as !=[])
   (zaa (zby s.as) fun(x_2:Bool)=>
    zab (!x_2) (some true)
     (zab (s.as==s.name) (some true)
      (zab (!s.one) (zab (s.id !=0) (some true) (zaa (zc4 (s.id,0,999999)) fun(x:Bool)=>some !x))
       (zaa (zc4 (s.id,0,999999)) fun(x:Bool)=>some !x))))
   (zab (!s.one) (zab (s.id !=0) (some true) (zaa (zc4 (s.id,0,999999)) fun(x:Bool)=>some !x))
    (zaa (zc4 (s.id,0,999999)) fun(x:Bool)=>some !x))))=some (!zfl s):=by
 rw[zla (up3 h1),zla (up3 h2),zoY];unfold zfl;simp only[bne];cases nameM s.name<;>cases(s.as==[])<;>cases nameM s.as<;>cases(s.as==s.name)<;>cases decide (0<=s.id)<;>cases decide (s.id<=999999)<;>cases s.one<;>cases(s.id==0)<;>rfl
def zfk(k:Nat)(l:List Sel)(left:Int):Int:=if okM k l=true/\(za0 k l:Int)<=left then left-za0 k l else -1
def zlH(l:List Sel)(i:Nat)(s:Sel):Bool:=!((l.map zfi).take i).any fun x=>zfi s==x
theorem znE{l:List Sel}:znD (l.map zfi)=true↔∀(j:Nat)(h:j<l.length),zlH l j l[j]=true:=by
 unfold znD zlH;rw[zqF];constructor
 ·intro h j hj;have:=h j (by simpa using hj);simpa using this
 ·intro h j hj;have:=h j (by simpa using hj);simpa using this
theorem zsZ(a b:List UInt8):(a==b)=(b==a):=by rw[Bool.eq_iff_iff,yhe,yhe];exact eq_comm
theorem zvz{l:List Sel}{s:Sel}{i:Nat}(h:i<=l.length):((l.map zfi).take i).any (fun x=>zfi s==x)=((l.take i).any fun x=>zfi x==zfi s):=by rw[<-List.map_take,List.any_map];congr 1;funext x;exact zsZ _ _
theorem zyX:∀(k:Nat)(l:List Sel)(lv left:Int),k<=5->lv=6-k->zxQ k l->-1<=left->left<=24->zcm (k+1) (l,lv,left)=some (zfk k l left):=by
 intro k;induction k with
 |zero=>
  intro l lv left _ hlv _ h1 h2;subst hlv;rw[zcm];dsimp only;cases l with
  |nil=>
   have:zfk 0 [] left=left:=by unfold zfk;simp only[okM,za0,List.isEmpty_nil,yhn];split<;>omega
   rw[this];have hz:decide ((((([]:List Sel).length:Nat)):Int)>0)=false:=rfl;rw[hz,zaf,zac,zaf];refine(znu (s0:=(left,(0:Int))) 0 (fun _=>(left,(0:Int))) (.inl (left,0)) rfl (fun i hi=>by omega) rfl).trans ?_;rfl
  |cons a l=>
   have:zfk 0 (a:: l) left= -1:=by unfold zfk;simp[okM]
   rw[this];have h3:decide ((((a:: l).length:Nat):Int)>0)=true:=by simp
   rw[h3];rfl
 |succ k ih=>
  intro l lv left hk hlv hC h1 h2;have hlv5:decide (lv>5)=false:=by simp;omega
  rw[zcm];dsimp only;have hx:(zab (decide ((↑(List.length l):Int)>0)) (some (decide (lv>5))) (some false))=some false:=by rw[hlv5];cases decide ((↑(List.length l):Int)>0)<;>rfl
  rw[hx,zac,zaf];have hll:=hC.1;refine zCp.1 ?_;rw[ywb];refine zao (fun s:Int×Int=>0<=s.2/\s.2<=l.length/\((0<=s.1/\s.1+((s.2.toNat+((l.take s.2.toNat).map fun s=>za0 k s.kids).sum:Nat):Int)=left/\(∀(j:Nat)(h:j<l.length),j<s.2.toNat->zlH l j l[j]=true/\zfl l[j]=true/\okM k l[j].kids=true))\/(s.1= -1/\zfk (k+1) l left= -1))) (fun s=>l.length-s.2.toNat) ?_ fun s ⟨i1,i2,i3⟩=>?_
  ·refine⟨by simp,by simp,?_⟩;by_cases h0:0<=left
   ·exact .inl ⟨h0,by simp,fun j _ h=>by simp at h⟩
   ·refine .inr ⟨by show left= -1;omega,?_⟩;unfold zfk;rw[if_neg];rintro⟨_,h⟩;omega
  refine zCQ (fun x=>x=(decide (s.2<l.length)&&decide (0<=s.1))) ?_ fun x hx=>?_
  ·rw[ywc];refine⟨fun h=>?_,fun h=>?_⟩
   ·rw[ywd,h];rfl
   ·rw[ywd,h];rfl
  subst hx;rw[ywc];refine⟨fun hgo=>?_,fun hgo=>?_⟩
  ·have hgo':s.2<l.length/\0<=s.1:=by simpa using hgo
   obtain⟨hlt,h0⟩:=hgo';have hlt':s.2.toNat<l.length:=by omega
   obtain⟨_,j2,j3⟩:0<=s.1/\s.1+((s.2.toNat+((l.take s.2.toNat).map fun s=>za0 k s.kids).sum:Nat):Int)=left/\(∀(j:Nat)(h:j<l.length),j<s.2.toNat->zlH l j l[j]=true/\zfl l[j]=true/\okM k l[j].kids=true):=by
    rcases i3 with h|h
    ·exact h
    ·omega
   rw[ywa,ywb,ywe];refine⟨by simpa using i1,hlt',?_⟩;have hmem:l[s.2.toNat]∈l:=ygh hlt';have hts:=zns (w:=fun s:Sel=>za0 k s.kids) hlt';have hle:=zhe l (fun s:Sel=>za0 k s.kids) (s.2.toNat+1);obtain⟨g1,g2,hCs⟩:=hC.2 _ hmem;have hnew:=zvz (l:=l) (s:=l[s.2.toNat]) (i:=s.2.toNat) (by omega);have hat:∀(P:Nat->Sel->Prop),(∀(j:Nat)(h:j<l.length),j<s.2.toNat->P j l[j])->P s.2.toNat l[s.2.toNat]->∀(j:Nat)(h:j<l.length),j<s.2.toNat+1->P j l[j]:=fun P a b j h hj=>by
    by_cases e:j=s.2.toNat
    ·subst e;exact b
    ·exact a j h (by omega)
   have huq:okM (k+1) l=true->zlH l s.2.toNat l[s.2.toNat]=true/\zfl l[s.2.toNat]=true/\okM k l[s.2.toNat].kids=true:=fun h=>by obtain⟨a,b,c⟩:=zaU.1 h;exact⟨znE.1 a _ hlt',List.all_eq_true.1 b _ hmem,c _ hmem⟩
   have hnA:zlH l s.2.toNat l[s.2.toNat]= !((l.take s.2.toNat).any fun x=>zfi x==zfi l[s.2.toNat]):=by unfold zlH;rw[hnew]
   generalize l[s.2.toNat]=X at hmem hts g1 g2 hCs hat huq hnA;have hbad:¬(zlH l s.2.toNat X=true/\zfl X=true/\okM k X.kids=true)->zfk (k+1) l left= -1:=fun h=>by unfold zfk;rw[if_neg];rintro⟨h',_⟩;exact h (huq h')
   rw[zA1 g1 g2,zac];cases hso:zfl X with
   |false=>rw[ywc];refine⟨fun _=>?_,fun h=>by cases h⟩;rw[ywd,yhz];show wp (some _) _;rw[ywd];exact(hbad (by rw[hso];rintro⟨_,h,_⟩;cases h)).symm
   |true=>
    rw[ywc];refine⟨fun h=>(by cases h),fun _=>?_⟩;rw[zwO (s0:=(0:Int)) (l.take s.2.toNat) (fun i=>(i:Int)) (s.2.toNat:Int) (fun _ x=>bif zfi x==zfi X then some (.inr (.inr (-1)))else none) rfl ?_ ?_]
    ·rw[zvV];cases hnw:((l.take s.2.toNat).any fun x=>zfi x==zfi X)with
     |true=>
      have:((l.take s.2.toNat).findSome? fun x=>bif zfi x==zfi X then(some (.inr (.inr (-1))):Option (Int×Int⊕Int×Int⊕Int))else none)=some (.inr (.inr (-1))):=by
       obtain⟨y,hy,hq⟩:=List.any_eq_true.1 hnw;cases hf:((l.take s.2.toNat).findSome? fun x=>bif zfi x==zfi X then(some (.inr (.inr (-1))):Option (Int×Int⊕Int×Int⊕Int))else none)with
       |none=>rw[List.findSome?_eq_none_iff]at hf;have:=hf y hy;rw[hq]at this;cases this
       |some r=>
        obtain⟨z,hz,hr⟩:=List.exists_of_findSome?_eq_some hf;cases hc:zfi z==zfi X with
        |true=>rw[hc]at hr;exact hr.symm ▸ rfl
        |false=>rw[hc]at hr;cases hr
      rw[this];show wp (some _) _;rw[ywd,yhz];show wp (some _) _;rw[ywd];exact(hbad (by rw[hnA,hnw];rintro⟨h,_⟩;cases h)).symm
     |false=>
      have:((l.take s.2.toNat).findSome? fun x=>bif zfi x==zfi X then(some (.inr (.inr (-1))):Option (Int×Int⊕Int×Int⊕Int))else none)=none:=by
       rw[List.findSome?_eq_none_iff];intro y hy;have:=List.any_eq_false.1 hnw y hy;have h':(zfi y==zfi X)=false:=by simpa using this
       rw[h'];rfl
      rw[this];show wp (gd _ _) _;rw[ywa,ywa,ywb];refine⟨zaX (by omega) (by omega),zaX (by omega) (by omega),?_⟩;rw[ih X.kids (lv+1) (s.1-1) (by omega) (by omega) hCs (by omega) (by omega),ywd,ywa,ywd,yhy];refine⟨zaX (by omega) (by omega),⟨by omega,by omega,?_⟩,?_⟩
      ·have ht:(s.2+1).toNat=s.2.toNat+1:=by omega
       by_cases hq:okM k X.kids=true/\(za0 k X.kids:Int)<=s.1-1
       ·refine .inl ?_;have e:zfk k X.kids (s.1-1)=s.1-1-za0 k X.kids:=by unfold zfk;rw[if_pos hq]
        show 0<=zfk k X.kids (s.1-1)/\_/\_;rw[e];refine⟨by omega,?_,?_⟩
        ·show s.1-1-(za0 k X.kids:Int)+(((s.2+1).toNat+((l.take (s.2+1).toNat).map fun s=>za0 k s.kids).sum:Nat):Int)=left;rw[ht];omega
        ·show ∀(j:Nat)(h:j<l.length),j<(s.2+1).toNat->_;rw[ht];exact hat (fun j x=>zlH l j x=true/\zfl x=true/\okM k x.kids=true) j3 ⟨by rw[hnA,hnw];rfl,hso,hq.1⟩
       ·refine .inr ⟨?_,?_⟩
        ·show zfk k X.kids (s.1-1)= -1;unfold zfk;rw[if_neg hq]
        ·unfold zfk;rw[if_neg];rintro⟨h,h'⟩;have hz:=(huq h).2.2;simp only[za0]at h';exact hq ⟨hz,by omega⟩
      ·show l.length-(s.2+1).toNat<_;omega
    ·intro i hi;have hi':i<s.2.toNat:=by rw[List.length_take]at hi;omega
     have h3:decide ((i:Int)<s.2)=true:=by simp;omega
     have h4:=zjm (i:=i) (n:=l.length) (by omega) (up3 hll);have h5:l[Int.toNat (i:Int)]? =some (l.take s.2.toNat)[i]:=by rw[Int.toNat_natCast,ygb (by omega),List.getElem_take]
     simp only[h3,zog,zam,zdA,h5,zac,znp,zyv,h4];cases zfi (l.take s.2.toNat)[i]==zfi X<;>rfl
    ·have h3:decide ((((l.take s.2.toNat).length:Nat):Int)<s.2)=false:=by simp[List.length_take];omega
     have h4:((l.take s.2.toNat).length:Int)=(s.2.toNat:Int):=by rw[List.length_take];omega
     rw[h3,zaf];exact congrArg (fun z:Int=>some (Sum.inr (Sum.inl z))) h4
  ·rw[ywd,yhz];show wp (some _) _;rw[ywd];show s.1=_;rcases i3 with⟨j1,j2,j3⟩|⟨j1,j2⟩
   ·have hge:l.length<=s.2.toNat:=by
     have:¬(s.2<l.length/\0<=s.1):=by simpa using hgo
     omega
    have hok:okM (k+1) l=true:=by
     rw[zaU];refine⟨znE.2 fun j h=>(j3 j h (by omega)).1,List.all_eq_true.2 fun x hx=>?_,fun x hx=>?_⟩
     ·obtain⟨j,hj,rfl⟩:=List.getElem_of_mem hx;exact(j3 j hj (by omega)).2.1
     ·obtain⟨j,hj,rfl⟩:=List.getElem_of_mem hx;exact(j3 j hj (by omega)).2.2
    have hz:za0 (k+1) l=s.2.toNat+((l.take s.2.toNat).map fun s=>za0 k s.kids).sum:=by rw[List.take_of_length_le hge];simp only[za0];omega
    unfold zfk;rw[if_pos ⟨hok,by omega⟩];omega
   ·rw[j1,j2]
end Go.Fw
