/- A part of the proof: what stands for the program, its functions, and what they come to. -/
import Derived.Test.YtegfaamnjbicjaaGreatDoorM7
import Derived.Lib.ItoaLen
import Derived.Lib.AtoiAllCases
import Derived.KernelRfl
set_option linter.all false
namespace Go.Fw
open Go
set_option linter.unusedVariables false
set_option linter.unusedSimpArgs false
def za1:List (List UInt8)->List UInt8
|[]=>[]
|[x]=>x
|x:: y:: l=>x++44:: za1 (y:: l)
theorem zoy:∀l:List (List UInt8),Lib.join l [44]=za1 l
|[]=>rfl
|[x]=>by unfold Lib.join;simp[List.intercalate,List.intersperse,za1]
|x:: y:: l=>by have:=zoy (y:: l);unfold Lib.join at this|-;rw[za1,<-this];simp[List.intercalate,List.intersperse]
theorem zmd(x:List UInt8):∀l:List (List UInt8),za1 (l++[x])=za1 l++((bif l.isEmpty then[]else[44])++x)
|[]=>rfl
|[y]=>rfl
|y:: z:: l=>by have:=zmd x (z:: l);simp only[List.cons_append]at this|-;rw[za1,za1,this];simp
theorem zkH{B:Nat}:∀l:List (List UInt8),(∀x∈l,x.length<=B)->(za1 l).length<=l.length*(B+1)
|[],_=>by simp[za1]
|[x],h=>by have:=h x (by simp);simp[za1];omega
|x:: y:: l,h=>by have h1:=zkH (y:: l) fun z hz=>h z (by simp[List.mem_cons.1 hz]);have h2:=h x (by simp);rw[za1];simp only[yhr,yhs]at h1|-;rw[Nat.add_mul _ 1,Nat.one_mul];omega
def zc3(s:Sel):List UInt8:=(bif s.as !=[]then s.as++[58]else[])++s.name
def zdk(s:Sel):List UInt8:=bif s.one then[40]++Lib.itoa s.id++[41]else[]
def zcW:Nat->List Sel->List UInt8
|0,_=>[]
|k+1,l=>123:: (za1 (l.map fun s=>zc3 s++(zdk s++(bif decide (0<s.kids.length)then zcW k s.kids else[])))++[125])
def zcT(k:Nat)(s:Sel):List UInt8:=zc3 s++(zdk s++(bif decide (0<s.kids.length)then zcW k s.kids else[]))
theorem zaP(k:Nat)(l:List Sel):zcW (k+1) l=123:: (za1 (l.map (zcT k))++[125]):=rfl
structure SOk (s:Sel):Prop where
 name:nameM s.name=true
 asn:s.as=[]\/nameM s.as=true
 id0:0<=s.id
 id1:s.id<=999999
 one:s.one=false->s.id=0
theorem zcP{s:Sel}(h:zfl s=true):SOk s:=by
 unfold zfl at h;simp only[yhb,yhc]at h;obtain⟨h1,h2,⟨h3,h4⟩,h5⟩:=h;refine⟨h1,?_,h3,h4,fun e=>?_⟩
 ·cases h6:s.as==[]with
  |true=>exact .inl (by simpa using h6)
  |false=>rw[h6,cond_false,yhb]at h2;exact .inr h2.1
 ·rw[e]at h5;simpa using h5
theorem SOk.asl{s:Sel}(h:SOk s):s.as.length<=8:=by
 rcases h.asn with h|h
 ·rw[h];simp
 ·exact zfE h
theorem zh9{n:Int}(h0:0<=n)(h1:n<=999999):(Lib.itoa n).length<=21:=Lib.itoa_length_le n (by omega) (by omega)
theorem zeZ{s:Sel}(h:SOk s):(zc3 s).length<=17:=by have h1:=h.asl;have h2:=zfE h.name;unfold zc3;cases s.as !=[]<;>simp<;>omega
theorem zeY{s:Sel}(h:SOk s):(zdk s).length<=23:=by have h1:=zh9 h.id0 h.id1;unfold zdk;cases s.one<;>simp<;>omega
def LB(k:Nat):Nat:=100 ^ (k+1)
theorem zxP(k:Nat):LB (k+1)=100*LB k:=by unfold LB;rw[Nat.pow_succ 100 (k+1),Nat.mul_comm]
theorem zzW(k:Nat):100<=LB k:=by unfold LB;have:1<=100 ^ k:=Nat.one_le_pow _ _ (by decide);rw[Nat.pow_succ];omega
theorem zvw{k:Nat}(h:k<=5):LB k<=1000000000000:=by have:100 ^ (k+1)<=100 ^ 6:=Nat.pow_le_pow_right (by decide) (by omega);unfold LB;omega
theorem znq{k:Nat}{l:List Sel}:l.length<=za0 (k+1) l:=by unfold za0;cases k<;>simp
theorem zi3:∀(k:Nat)(l:List Sel),okM k l=true->za0 k l<=24->(zcW k l).length<=LB k
|0,l,_,_=>by simp[zcW]
|k+1,l,h,hz=>by
 obtain⟨_,h2,h3⟩:=zaU.1 h;have hn:=znq (k:=k) (l:=l);have hp:=zzW k;have hj:=zkH (B:=40+LB k) (l.map (zcT k)) fun x hx=>by obtain⟨s,hs,rfl⟩:=List.mem_map.1 hx;have hs':=zcP (List.all_eq_true.1 h2 s hs);have:=zeZ hs';have:=zeY hs';have:=zi3 k s.kids (h3 s hs) (by have:=zi1 (k:=k) hs;omega);unfold zcT;cases decide (0<s.kids.length)<;>simp<;>omega
 have h5:l.length*(40+LB k+1)<=24*(40+LB k+1):=Nat.mul_le_mul_right _ (by omega);rw[zaP,zxP];rw[List.length_map]at hj;simp only[yhs,yhr,yht];omega
theorem zvU{k:Nat}{l:List Sel}(h:okM (k+1) l=true)(hz:za0 (k+1) l<=24){s:Sel}(hs:s∈l):(zcT k s).length<=40+LB k:=by obtain⟨_,h2,h3⟩:=zaU.1 h;have hs':=zcP (List.all_eq_true.1 h2 s hs);have:=zeZ hs';have:=zeY hs';have:=zi3 k s.kids (h3 s hs) (by have:=zi1 (k:=k) hs;omega);unfold zcT;cases decide (0<s.kids.length)<;>simp<;>omega
theorem ztF(n:Int):zbv n=some (Lib.itoa n):=by rw[zea];unfold zcB;rfl
theorem zyq{l:List (List UInt8)}(h1:l.length<=1000)(h2:(za1 l).length<=140737488355328):zbT (l,[44])=some (za1 l):=by rw[zeb];unfold zcC;unfold zv0;dsimp only;rw[zoy,zaN];simp only[yhb,yhc];omega
theorem ztV{s:Sel}:decide ((↑(List.length s.kids):Int)>0)=decide (0<s.kids.length):=by simp
theorem zu0(n:Nat):∀d,Le (za5 n d) (za5 (n+1) d):=by
 induction n with
 |zero=>intro d;exact Le.none
 |succ n ih=>intro d;rw[za5,za5];repeat' (first|exact ih _|refine Le.bind ?_ ?_|refine Le.cond ?_ ?_|refine Le.gd ?_|refine Le.caseS ?_ ?_|refine Le.loop ?_ _|exact Le.refl _|refine fun _=>?_)
theorem zAd{α:Type}{s:Sel}(h:SOk s){g:List Sel->Option (List UInt8)}{kt:List UInt8}{R:List UInt8->Option α}(hk:kt.length<=1000000000000)(hg:0<s.kids.length->g s.kids=some kt):
 (zaa (zab (s.as !=[]) (gd (decide (List.length s.as+List.length [58]<=BIG)) (gd (decide (List.length (s.as++[58])+List.length s.name<=BIG)) (some (s.as++[58]++s.name)))) (some s.name)) fun(x_1:List UInt8)=>
  zaa (zab s.one (zaa (zbv s.id) fun(x:List UInt8)=>gd (decide (List.length [40]+List.length x<=BIG)) (gd (decide (List.length ([40]++x)+List.length [41]<=BIG)) (gd (decide (List.length x_1+List.length ([40]++x++[41])<=BIG)) (some (x_1++([40]++x++[41])))))) (some x_1)) fun(x_2:List UInt8)=>zaa (zab (decide ((↑(List.length s.kids):Int)>0)) (zaa (g s.kids) fun(x:List UInt8)=>gd (decide (List.length x_2+List.length x<=BIG)) (some (x_2++x))) (some x_2)) R)=R (zc3 s++(zdk s++(bif decide (0<s.kids.length)then kt else[]))):=by
 have h1:=h.asl;have h2:=zfE h.name;have h3:=zh9 h.id0 h.id1;have e1:(zab (s.as !=[]) (gd (decide (List.length s.as+List.length [58]<=BIG)) (gd (decide (List.length (s.as++[58])+List.length s.name<=BIG)) (some (s.as++[58]++s.name)))) (some s.name))=some (zc3 s):=by
  unfold zc3;cases s.as !=[]
  ·rfl
  ·rw[zam];(rw[zaN];rotate_left;(have:=hBM;simp only[yhr,yhs,yht,List.length_map,yhc,yhb];omega));(rw[zaN];rotate_left;(have:=hBM;simp only[yhr,yhs,yht,List.length_map,yhc,yhb];omega));rfl
 have hp:=zeZ h;have ho:=zeY h;rw[e1,zac,ztV,ztF];have e2:(zab s.one (zaa (some (Lib.itoa s.id)) fun(x:List UInt8)=>gd (decide (List.length [40]+List.length x<=BIG)) (gd (decide (List.length ([40]++x)+List.length [41]<=BIG)) (gd (decide (List.length (zc3 s)+List.length ([40]++x++[41])<=BIG)) (some (zc3 s++([40]++x++[41])))))) (some (zc3 s)))=some (zc3 s++zdk s):=by
  unfold zdk;cases s.one
  ·simp[zaf]
  ·rw[zam,zac];(rw[zaN];rotate_left;(have:=hBM;simp only[yhr,yhs,yht,List.length_map,yhc,yhb];omega));(rw[zaN];rotate_left;(have:=hBM;simp only[yhr,yhs,yht,List.length_map,yhc,yhb];omega));(rw[zaN];rotate_left;(have:=hBM;simp only[yhr,yhs,yht,List.length_map,yhc,yhb];omega));rfl
 rw[e2,zac];by_cases hq:0<s.kids.length
 ·rw[hg hq,decide_eq_true hq,zam,zac];(rw[zaN];rotate_left;(have:=hBM;simp only[yhr,yhs,yht,List.length_map,yhc,yhb];omega))
  rw[zac,List.append_assoc];rfl
 ·rw[decide_eq_false hq,zaf,zac];simp
theorem zwR:∀(k:Nat)(l:List Sel),k<=5->okM k l=true->za0 k l<=24->(k=0->l≠[])->za5 k l=some (zcW k l):=by
 intro k;induction k with
 |zero=>
  intro l _ h _ hne;cases l with
  |nil=>exact absurd rfl (hne rfl)
  |cons a l=>simp[okM]at h
 |succ k ih=>
  intro l hk h hz _;rw[za5];obtain⟨_,h2,h3⟩:=zaU.1 h;have hn:=znq (k:=k) (l:=l);have hL:LIM=1099511627776:=rfl;have hlb:=zvw (show k<=5 by omega);have hlb1:=zvw hk;have htl:=zi3 (k+1) l h hz;rw[znu (s0:=((0:Int),([]:List (List UInt8)))) l.length (fun i=>((i:Int),(l.take i).map (zcT k))) ((l.length:Int),l.map (zcT k)) rfl ?_ ?_]
  ·rw[zaP,yhs,yhr]at htl;show zaa (zbT (l.map (zcT k),[44])) _=_;rw[zyq (by rw[List.length_map];omega) (by omega),zac];(rw[zaN];rotate_left;(have:=hBM;simp only[yhr,yhs,yht,List.length_map,yhc,yhb];omega))
   (rw[zaN];rotate_left;(have:=hBM;simp only[yhr,yhs,yht,List.length_map,yhc,yhb];omega))
   rw[zaP];rfl
  ·intro i hi;have hmem:l[i]∈l:=ygh hi;have h3':=zjm hi (up3 (by omega));have h4:decide (List.length ((l.take i).map (zcT k))+List.length [zcT k l[i]]<=LIM)=true:=by simp;omega
   have hz':=zi1 (k:=k) hmem;have hf:=fun R=>zAd (α:=((Int×List (List UInt8))⊕(Int×List (List UInt8)))) (s:=l[i]) (g:=za5 k) (kt:=zcW k l[i].kids) (R:=R) (zcP (List.all_eq_true.1 h2 _ hmem)) (by have:=zi3 k l[i].kids (h3 _ hmem) (by omega);omega) (fun hp=>ih l[i].kids (by omega) (h3 _ hmem) (by omega) fun _ e=>by rw[e]at hp;simp at hp);simp only[zpC hi,zog,zl7 hi,zam,zdA,zac];rw[hf];show gd (decide (List.length ((l.take i).map (zcT k))+List.length [zcT k l[i]]<=LIM)) _=_;rw[h4,zdA,h3',zdA,List.take_succ_eq_append_getElem hi,List.map_append];rfl
  ·simp only[zkz,zaf,List.take_length]
theorem zuZ{l:List Sel}(h:okM 5 l=true)(hz:za0 5 l<=24):zeF l=some (zcW 5 l):=zfA zu0 (zwR 5 l (by omega) h hz fun h=>by cases h)
end Go.Fw
namespace Go.Fw
open Go
set_option linter.unusedVariables false
set_option linter.unusedSimpArgs false
theorem zta(n:Nat)(d:Int):Le (zbm n d) (zbm (n+1) d):=by
 induction n generalizing d with
 |zero=>exact Le.none
 |succ n ih=>rw[zbm,zbm];exact .cond (.refl _) (.cond (.gd (.bind (ih _) fun _=>.refl _)) (.cond (.refl _) (.gd (.bind (ih _) fun _=>.refl _))))
theorem ztb{u:Nat}(h:u<10):List.map zpQ [IntKind.wrap .u8 (48+(u:Int))]=[UInt8.ofNat (48+u)]:=by
 have:IntKind.wrap .u8 (48+(u:Int))=48+(u:Int):=by unfold IntKind.wrap;simp[IntKind.signed,IntKind.bits];omega
 rw[this];simp only[List.map_cons,List.map_nil,zpQ];congr 2
theorem zvL(n:Nat):∀(u:Nat),u<10 ^ (n+1)->n<=17->zbm (n+1) ((u:Nat):Int)=some (Lib.decDigits u):=by
 induction n with
 |zero=>
  intro u h hn;have hu:u<10:=by simpa using h
  have hB:BIG=9223372036854775807:=rfl;rw[zbm];rw[decide_eq_false (by omega),zaf,decide_eq_false (by omega),zaf,decide_eq_true (by omega),zam,zaN (zaX (by omega) (by omega))];(rw[zaN];rotate_left;(have:=hBM;simp only[yhr,yhs,yht,List.length_map,yhc,yhb];omega))
  rw[ztb hu,Lib.decDigits_one hu]
 |succ n ih=>
  intro u h hn;have hB:BIG=9223372036854775807:=rfl;have hP:10 ^ (n+1+1)<=10 ^ 18:=Nat.pow_le_pow_right (by decide) (by omega);rw[zbm];rw[decide_eq_false (by omega),zaf,decide_eq_false (by omega),zaf];by_cases hu:u<10
  ·rw[decide_eq_true (by omega),zam,zaN (zaX (by omega) (by omega))];(rw[zaN];rotate_left;(have:=hBM;simp only[yhr,yhs,yht,List.length_map,yhc,yhb];omega))
   rw[ztb hu,Lib.decDigits_one hu]
  ·rw[decide_eq_false (by omega),zaf];have h3:Int.tdiv (u:Int) 10=((u / 10:Nat):Int):=by rw[Int.tdiv_eq_ediv_of_nonneg (by omega)];omega
   have h4:Int.tmod (u:Int) 10=((u % 10:Nat):Int):=by rw[Int.tmod_eq_emod_of_nonneg (by omega)];omega
   rw[h3,h4,zaN (zaX (by omega) (by omega)),ih (u / 10) (by rw[Nat.pow_succ]at h;omega) (by omega),zac,zaN (zaX (by omega) (by omega))];have h5:(Lib.decDigits (u / 10)).length<=21:=by rw[<-Lib.itoa_nonneg];exact Lib.itoa_length_le _ (by omega) (by omega)
   rw[ztb (Nat.mod_lt u (by decide))];(rw[zaN];rotate_left;(have:=hBM;simp only[yhr,yhs,yht,List.length_map,yhc,yhb];omega))
   (rw[zaN];rotate_left;(have:=hBM;simp only[yhr,yhs,yht,List.length_map,yhc,yhb];omega))
   rw[Lib.decDigits.eq_1 u,dif_neg hu]
theorem zz5{n:Int}(h0:0<=n)(h1:n<=999999):zgM n=some (Lib.itoa n):=by
 obtain⟨u,rfl⟩:∃u:Nat,n=u:=⟨n.toNat,by omega⟩
 rw[Lib.itoa_nonneg];exact zfA zta (zvL 6 u (by omega) (by omega))
theorem zwY(n:Nat):∀d,Le (zaW n d) (zaW (n+1) d):=by
 induction n with
 |zero=>intro d;exact Le.none
 |succ n ih=>intro d;rw[zaW,zaW];repeat' (first|exact ih _|refine Le.bind ?_ ?_|refine Le.cond ?_ ?_|refine Le.gd ?_|refine Le.caseS ?_ ?_|refine Le.loop ?_ _|exact Le.refl _|refine fun _=>?_)
theorem zye{α:Type}{s:Sel}(h:SOk s){g:List Sel->Option (List UInt8)}{kt p:List UInt8}{R:List UInt8->Option α}(hp:p.length<=1000000000000)(hk:kt.length<=1000000000000)(hg:0<s.kids.length->g s.kids=some kt):
 (zaa (zab (s.as !=[]) (gd (decide (List.length p+List.length s.as<=BIG)) (gd (decide (List.length (p++s.as)+List.length [58]<=BIG)) (some (p++s.as++[58])))) (some p)) fun(x_2:List UInt8)=>
  gd (decide (List.length x_2+List.length s.name<=BIG))
   (zaa (zab s.one (gd (decide (List.length (x_2++s.name)+List.length [40]<=BIG)) (zaa (zgM s.id) fun(x_3:List UInt8)=>gd (decide (List.length (x_2++s.name++[40])+List.length x_3<=BIG)) (gd (decide (List.length (x_2++s.name++[40]++x_3)+List.length [41]<=BIG)) (some (x_2++s.name++[40]++x_3++[41]))))) (some (x_2++s.name))) fun(x_3:List UInt8)=>zaa (zab (decide ((↑(List.length s.kids):Int)>0)) (zaa (g s.kids) fun(x:List UInt8)=>gd (decide (List.length x_3+List.length x<=BIG)) (some (x_3++x))) (some x_3)) R))=R (p++(zc3 s++(zdk s++(bif decide (0<s.kids.length)then kt else[])))):=by
 have h1:=h.asl;have h2:=zfE h.name;have h3:=zh9 h.id0 h.id1;have e1:(zab (s.as !=[]) (gd (decide (List.length p+List.length s.as<=BIG)) (gd (decide (List.length (p++s.as)+List.length [58]<=BIG)) (some (p++s.as++[58])))) (some p))=some (p++(bif s.as !=[]then s.as++[58]else[])):=by
  cases s.as !=[]
  ·simp[zaf]
  ·rw[zam];(rw[zaN];rotate_left;(have:=hBM;simp only[yhr,yhs,yht,List.length_map,yhc,yhb];omega));(rw[zaN];rotate_left;(have:=hBM;simp only[yhr,yhs,yht,List.length_map,yhc,yhb];omega));simp
 rw[e1,zac];have hx:(bif s.as !=[]then s.as++[58]else([]:List UInt8)).length<=9:=by cases s.as !=[]<;>simp<;>omega
 have hx2:(p++(bif s.as !=[]then s.as++[58]else[]))++s.name=p++zc3 s:=by unfold zc3;rw[List.append_assoc]
 (rw[zaN];rotate_left;(have:=hBM;simp only[yhr,yhs,yht,List.length_map,yhc,yhb];omega))
 simp only[hx2];have hpr:=zeZ h;have ho:=zeY h;have e2:(zab s.one (gd (decide (List.length (p++zc3 s)+List.length [40]<=BIG)) (zaa (zgM s.id) fun(x_3:List UInt8)=>gd (decide (List.length (p++zc3 s++[40])+List.length x_3<=BIG)) (gd (decide (List.length (p++zc3 s++[40]++x_3)+List.length [41]<=BIG)) (some (p++zc3 s++[40]++x_3++[41]))))) (some (p++zc3 s)))=some (p++(zc3 s++zdk s)):=by
  unfold zdk;cases s.one
  ·simp[zaf]
  ·rw[zam];(rw[zaN];rotate_left;(have:=hBM;simp only[yhr,yhs,yht,List.length_map,yhc,yhb];omega));rw[zz5 h.id0 h.id1,zac];(rw[zaN];rotate_left;(have:=hBM;simp only[yhr,yhs,yht,List.length_map,yhc,yhb];omega));(rw[zaN];rotate_left;(have:=hBM;simp only[yhr,yhs,yht,List.length_map,yhc,yhb];omega));simp
 rw[e2,zac,ztV];by_cases hq:0<s.kids.length
 ·rw[hg hq,decide_eq_true hq,zam,zac];(rw[zaN];rotate_left;(have:=hBM;simp only[yhr,yhs,yht,List.length_map,yhc,yhb];omega))
  rw[zac];simp
 ·rw[decide_eq_false hq,zaf,zac];simp
theorem zzy:∀(k:Nat)(l:List Sel),k<=5->okM k l=true->za0 k l<=24->(k=0->l≠[])->zaW k l=some (zcW k l):=by
 intro k;induction k with
 |zero=>
  intro l _ h _ hne;cases l with
  |nil=>exact absurd rfl (hne rfl)
  |cons a l=>simp[okM]at h
 |succ k ih=>
  intro l hk h hz _;rw[zaW];obtain⟨_,h2,h3⟩:=zaU.1 h;have hn:=znq (k:=k) (l:=l);have hlb:=zvw (show k<=5 by omega);have hlb1:=zvw hk;have htl:=zi3 (k+1) l h hz;have htk:∀i,i<=l.length->(za1 ((l.take i).map (zcT k))).length<=24*(40+LB k+1):=fun i hi=>by
   have:=zkH (B:=40+LB k) ((l.take i).map (zcT k)) fun x hx=>by obtain⟨s,hs,rfl⟩:=List.mem_map.1 hx;exact zvU h hz (List.mem_of_mem_take hs)
   refine Nat.le_trans this (Nat.mul_le_mul_right _ ?_);rw[List.length_map,List.length_take];omega
  have hlb3:24*(40+LB k+1)<=999999999990:=by have:100 ^ (k+1)<=100 ^ 5:=Nat.pow_le_pow_right (by decide) (by omega);unfold LB;omega
  rw[znu (s0:=(([123]:List UInt8),(0:Int))) l.length (fun i=>(123:: za1 ((l.take i).map (zcT k)),(i:Int))) (123:: za1 (l.map (zcT k)),(l.length:Int)) rfl ?_ ?_]
  ·rw[zaP,yhs,yhr]at htl;rw[zaN]
   ·rw[zaP];rfl
   ·show decide ((123:: za1 (l.map (zcT k))).length+[(125:UInt8)].length<=BIG)=true;(have:=hBM;simp only[yhr,yhs,yht,List.length_map,yhc,yhb];omega)
  ·intro i hi;have hmem:l[i]∈l:=ygh hi;have h3':=zjm hi (up3 (by omega));have hz':=zi1 (k:=k) hmem;have hti:=htk i (by omega);have e0:zab (decide ((i:Int)>0)) (gd (decide ((123:: za1 ((l.take i).map (zcT k))).length+[(44:UInt8)].length<=BIG)) (some ((123:: za1 ((l.take i).map (zcT k)))++[44]))) (some (123:: za1 ((l.take i).map (zcT k))))=some (123:: (za1 ((l.take i).map (zcT k))++(bif ((l.take i).map (zcT k)).isEmpty then[]else[44]))):=by
    cases i with
    |zero=>rfl
    |succ i=>
     rw[decide_eq_true (by omega),zam];(rw[zaN];rotate_left;(have:=hBM;simp only[yhr,yhs,yht,List.length_map,yhc,yhb];omega))
     cases l with
     |nil=>simp at hi
     |cons a l=>simp
   have hf:=fun p R hp=>zye (α:=((List UInt8×Int)⊕(List UInt8×Int))) (s:=l[i]) (g:=zaW k) (kt:=zcW k l[i].kids) (p:=p) (R:=R) (zcP (List.all_eq_true.1 h2 _ hmem)) hp (by have:=zi3 k l[i].kids (h3 _ hmem) (by omega);omega) (fun hp=>ih l[i].kids (by omega) (h3 _ hmem) (by omega) fun _ e=>by rw[e]at hp;simp at hp);simp only[zpC hi,zog,zl7 hi,zam,zdA,zac];refine(congrArg (fun z=>zaa z _) e0).trans ?_;rw[zac];rw[hf _ _ (by cases((l.take i).map (zcT k)).isEmpty<;>simp only[yhs,yhr,yht,cond_true,cond_false]<;>omega)];rw[h3',zdA,List.take_succ_eq_append_getElem hi,List.map_append,List.map_cons,List.map_nil,zmd];simp only[List.cons_append,List.append_assoc,zcT,zz6]
  ·simp only[zkz,zaf,List.take_length]
theorem zvb{l:List Sel}(h:okM 5 l=true)(hz:za0 5 l<=24):zj7 l=some (zcW 5 l):=zfA zwY (zzy 5 l (by omega) h hz fun h=>by cases h)
def zff(l:List Sel):Bool:=decide (0<l.length)&&(okM 5 l&&(decide (za0 5 l<=24)&&decide ((zcW 5 l).length<=400)))
theorem zyz{l:List Sel}:decide (0<l.length)=decide (1<=za0 5 l):=by
 have:=znq (k:=4) (l:=l);cases l with
 |nil=>rfl
 |cons a l=>rw[decide_eq_true (by simp),decide_eq_true (by simp at this;omega)]
theorem zkG{l:List Sel}(hC:zxQ 5 l):zdo l=some (zff l):=by
 rw[zi5];unfold zhk;obtain⟨m,hm,m1,m2,m3,m4⟩:=zwd 5 l 1 (by omega) (by omega) hC (fun h=>by cases h);have hm':zgL (l,1)=some m:=zfA zt8 hm;rw[hm',zac,zh6,zac];unfold zff;rw[zyz];by_cases h:okM 5 l=true/\za0 5 l<=24
 ·obtain⟨g1,g2⟩:=h;have hms:=m1 ⟨g1,g2⟩;rw[zuZ g1 g2,g1,decide_eq_true g2,hms,zac];have e1:decide (((za0 5 l:Nat):Int)<=24)=true:=decide_eq_true (by omega);have e2:decide ((1:Int)<=(za0 5 l:Int))=decide (1<=za0 5 l):=zxV _;have e3:decide ((((zcW 5 l).length:Nat):Int)<=400)=decide ((zcW 5 l).length<=400):=by simp;omega
  rw[e1,e2,e3];cases decide (1<=za0 5 l)<;>rfl
 ·have hg:=m2 h;have e1:decide (m<=24)=false:=by simp;omega
  have e2:(okM 5 l&&(decide (za0 5 l<=24)&&decide ((zcW 5 l).length<=400)))=false:=by
   cases g1:okM 5 l with
   |false=>rfl
   |true=>have:¬za0 5 l<=24:=fun h'=>h ⟨g1,h'⟩;rw[decide_eq_false this];rfl
  rw[e1,e2,Bool.and_false,Bool.and_false];rfl
theorem zuS{l:List Sel}(hC:zxQ 5 l):zdV l=some (zff l):=by
 rw[zis];unfold zjW;have hm:zsV (l,1,24)=some (zfk 5 l 24):=zfA zwl (zyX 5 l 1 24 (by omega) (by omega) hC (by omega) (by omega));rw[hm,zac];unfold zff zfk;have e0:decide ((↑(List.length l):Int)>0)=decide (0<l.length):=by simp
 rw[e0];by_cases h:okM 5 l=true/\za0 5 l<=24
 ·obtain⟨g1,g2⟩:=h;rw[if_pos ⟨g1,by omega⟩,zvb g1 g2,g1,decide_eq_true g2,zac,decide_eq_true (show(24:Int)-(za0 5 l:Int)>=0 by omega)];have e3:decide ((((zcW 5 l).length:Nat):Int)<=400)=decide ((zcW 5 l).length<=400):=by simp;omega
  rw[e3];cases decide (0<l.length)<;>rfl
 ·rw[if_neg (fun⟨a,b⟩=>h ⟨a,by omega⟩)];have e2:(okM 5 l&&(decide (za0 5 l<=24)&&decide ((zcW 5 l).length<=400)))=false:=by
   cases g1:okM 5 l with
   |false=>rfl
   |true=>have:¬za0 5 l<=24:=fun h'=>h ⟨g1,h'⟩;rw[decide_eq_false this];rfl
  rw[e2,Bool.and_false];cases decide (0<l.length)<;>rfl
theorem zbs{l:List Sel}:zff l=true↔l≠[]/\okM 5 l=true/\za0 5 l<=24/\(zcW 5 l).length<=400:=by unfold zff;simp only[yhb,yhc];rw[List.length_pos_iff]
def zxa(l:List Sel):List UInt8:=bif zff l then zcW 5 l else[]
theorem zfy{l:List Sel}(hC:zxQ 5 l):zbB l=some (zxa l):=by
 rw[zfn];unfold zdK;rw[zkG hC,zac];unfold zxa;cases h:zff l with
 |false=>rfl
 |true=>obtain⟨_,h2,h3,_⟩:=zbs.1 h;rw[zuZ h2 h3];rfl
end Go.Fw
namespace Go.Fw
open Go
set_option linter.unusedVariables false
set_option linter.unusedSimpArgs false
def zjJ(l:List Sel):Prop:=∀j,zxQ j l
theorem zjJ.mk{l:List Sel}(h1:l.length<=1000)(h2:∀s∈l,s.name.length<=1000/\s.as.length<=1000/\zjJ s.kids):zjJ l
|0=>trivial
|j+1=>⟨h1,fun s hs=>⟨(h2 s hs).1,(h2 s hs).2.1,(h2 s hs).2.2 j⟩⟩
theorem zjJ.len{l:List Sel}(h:zjJ l):l.length<=1000:=(h 1).1
theorem zjJ.get{l:List Sel}(h:zjJ l){s:Sel}(hs:s∈l):s.name.length<=1000/\s.as.length<=1000/\zjJ s.kids:=
 ⟨((h 1).2 s hs).1,((h 1).2 s hs).2.1,fun j=>((h (j+1)).2 s hs).2.2⟩
theorem zjJ.nil:zjJ []:=.mk (by simp) fun s hs=>by cases hs
theorem SelD.selA:∀{k:Nat}{l:List Sel},SelD k l->zjJ l
|0,l,h=>by rw[h];exact .nil
|k+1,l,h=>.mk (by have:=h.1;omega) fun s hs=>by obtain⟨a,b,c,d,e⟩:=h.2 s hs;exact⟨by omega,by omega,e.selA⟩
theorem zjJ.set{l:List Sel}(h:zjJ l)(i:Nat){s:Sel}(hs:s.name.length<=1000/\s.as.length<=1000/\zjJ s.kids):zjJ (l.set i s):=
 .mk (by rw[List.length_set];exact h.len) fun x hx=>by
  rcases List.mem_or_eq_of_mem_set hx with h'|h'
  ·exact h.get h'
  ·rw[h'];exact hs
abbrev SpT:=(List Int×Int)×List Sel
def SpR(M:Nat)(y:SpT):Prop:=Rd y.1.1 y.1.2 M/\zjJ y.2
theorem zmq{x:Option SpT}{Q:SpT->Prop}(h:wp x Q):wp (zaa x fun x=>some ((x.fst.fst,x.fst.snd),x.snd)) Q:=by obtain⟨a,rfl,q⟩:=h;exact⟨a,rfl,q⟩
theorem zsp(n:Nat):∀d,Le (zaF n d) (zaF (n+1) d):=by
 induction n with
 |zero=>intro d;exact Le.none
 |succ n ih=>intro d;rw[zaF,zaF];repeat' (first|exact ih _|refine Le.bind ?_ ?_|refine Le.cond ?_ ?_|refine Le.gd ?_|refine Le.caseS ?_ ?_|refine Le.loop ?_ _|exact Le.refl _|refine fun _=>?_)
theorem zgF{x:List Sel}{v:Int}{Q:SpT->Prop}{f:Sel->Option SpT}(h0:0<=v)(h1:v<x.length)(h:∀(s:Sel),s∈x->wp (f s) Q):wp (gd (decide (0<=v)&&decide (v<(↑(List.length x):Int))) (zaa x[Int.toNat v]? f)) Q:=by rw[ywa,ywb,ywe];exact⟨by simp;omega,by omega,h _ (ygh _)⟩
theorem zuU:∀(k:Nat)(l:List Sel)(b:List Int)(p:Int)(m:Nat){Q:List Sel×List Int×Int->Prop},SelD k l->Rd b p m->m+4*(k+1)<=1000000000000->(∀l' b' p',zjJ l'->Rd b' p' (m+4*(k+1))->Q (l',b',p'))->wp (zaF (k+1) (l,b,p)) Q:=by
 intro k;induction k with
 |zero=>intro l b p m Q hl hR hm h;rw[hl,zaF];dsimp only;rw[ywb];refine zim zl2 (zn4 0 [] rfl ?_);show wp (zab true _ _) _;rw[zam,ywb];refine zuj hR (by omega) (by simp) fun v hv hR'=>?_;rw[ywd];refine h _ _ _ (.mk (by simp) fun s hs=>?_) (hR'.up (by omega));rw[List.mem_singleton]at hs;subst hs;refine⟨?_,by simp,.nil⟩;show v.length<=1000;simp at hv;rcases hv with rfl|rfl|rfl|rfl<;>simp
 |succ k ih=>
  intro l b p m Q hl hR hm h;rw[zaF];dsimp only;rw[ywb];refine zim zl2 (zn4 (k+1) l hl ?_);rw[ywc];refine⟨fun _=>?_,fun hne=>?_⟩
  ·rw[ywb];refine zuj hR (by omega) (by simp) fun v hv hR'=>?_;rw[ywd];refine h _ _ _ (.mk (by simp) fun s hs=>?_) (hR'.up (by omega));rw[List.mem_singleton]at hs;subst hs;refine⟨?_,by simp,.nil⟩;show v.length<=1000;simp at hv;rcases hv with rfl|rfl|rfl|rfl<;>simp
  have hA:=hl.selA;have hlen:=hl.len;have hpos:1<=l.length:=by
   rcases Nat.eq_zero_or_pos l.length with h|h
   ·rw[h]at hne;simp at hne
   ·exact h
  rw[ywb];refine zbf hR (by omega) fun v hv _ hR1=>?_;obtain⟨v0,v1⟩:=hv (by omega);dsimp only;rw[ywb];refine zbf hR1 (by omega) fun w _ _ hR2=>?_;dsimp only;refine zaw (SpR (m+4*(k+1+1))) ?_ fun y ⟨y1,y2⟩=>?_
  ·refine zmq ?_;rw[ywc];refine⟨fun _=>?_,fun _=>?_⟩
   ·rw[ywb];refine zuj hR2 (by omega) (by simp) fun u hu hR3=>?_;refine zgF v0 v1 fun s hs=>?_;rw[ywd];refine⟨hR3.up (by omega),hA.set _ ⟨?_,(hA.get hs).2.1,(hA.get hs).2.2⟩⟩;show u.length<=1000;simp at hu;rcases hu with rfl|rfl|rfl|rfl|rfl<;>simp
   refine zmq ?_;rw[ywc];refine⟨fun _=>?_,fun _=>?_⟩
   ·refine zgF v0 v1 fun s hs=>?_;rw[ywb];refine zuj hR2 (by omega) (by simp) fun u hu hR3=>?_;have hul:u.length<=1000:=by
     simp at hu;rcases hu with rfl|rfl|rfl
     ·simp
     ·simp
     ·exact(hA.get hs).1
    refine zgF v0 v1 fun s hs=>?_;rw[ywd];exact⟨hR3.up (by omega),hA.set _ ⟨(hA.get hs).1,hul,(hA.get hs).2.2⟩⟩
   refine zmq ?_;rw[ywc];refine⟨fun _=>?_,fun _=>?_⟩
   ·refine zgF v0 v1 fun s hs=>?_;refine zgF v0 v1 fun s hs=>?_;rw[ywd];exact⟨hR2.up (by omega),hA.set _ ⟨(hA.get hs).1,(hA.get hs).2.1,(hA.get hs).2.2⟩⟩
   refine zmq ?_;rw[ywc];refine⟨fun _=>?_,fun _=>?_⟩
   ·rw[ywb];refine zbf hR2 (by omega) fun u hu _ hR3=>?_;obtain⟨u0,u1⟩:=hu (by omega);dsimp only;rw[ywa,ywb,ywe];refine⟨by simpa using u0,by simp;omega,?_⟩;refine zgF v0 v1 fun s hs=>?_;rw[ywd];exact⟨hR3.up (by omega),hA.set _ ⟨(hA.get hs).1,(hA.get hs).2.1,(hA.get hs).2.2⟩⟩
   refine zmq ?_;rw[ywc];refine⟨fun _=>?_,fun _=>?_⟩
   ·refine zgF v0 v1 fun s hs=>?_;rw[ywd];exact⟨hR2.up (by omega),hA.set _ ⟨(hA.get hs).1,(hA.get hs).2.1,.nil⟩⟩
   refine zmq ?_;rw[ywc];refine⟨fun _=>?_,fun _=>?_⟩
   ·refine zgF v0 v1 fun s hs=>?_;have hL:LIM=1099511627776:=rfl;rw[ywa,ywd];refine⟨by simp;omega,hR2.up (by omega),.mk (by simp;omega) fun x hx=>?_⟩;rcases List.mem_append.1 hx with h'|h'
    ·exact hA.get h'
    ·rw[List.mem_singleton]at h';rw[h'];exact hA.get hs
   ·refine zgF v0 v1 fun s hs=>?_;obtain⟨j,hj,_,_,_,_,hD⟩:=hl.get hs;obtain rfl:j=k:=by omega
    rw[ywb];refine ih _ _ _ _ hD hR2 (by omega) fun l' b' p' hl' hR3=>?_;refine zgF v0 v1 fun s hs=>?_;rw[ywd];exact⟨hR3.up (by omega),hA.set _ ⟨(hA.get hs).1,(hA.get hs).2.1,hl'⟩⟩
  ·rw[ywd];exact h _ _ _ y2 y1
theorem zrH{d:List Int}{Q:List Sel->Prop}(hb:∀x∈d,0<=x/\x<=255)(h:∀l,zjJ l->Q l):wp (zcD d) Q:=by
 rw[zd4];unfold zcx;rw[ywb];refine zy0 hb fun b hR=>?_;dsimp only;rw[ywb];refine zwp hR (by omega) fun ps b1 p1 n n1 n3 hps hR1=>?_;dsimp only;rw[ywb];refine zvy ⟨?_,?_⟩ fun p hp h1=>?_
 ·have:=hps.len;omega
 ·exact fun p hp=>hps.sm p hp
 rw[ywb];refine zzZ hp h1 hR1 (by omega) fun l b2 p2 hl hR2=>?_;dsimp only;rw[ywb];refine zbf hR2 (by omega) fun v _ _ hR3=>?_;dsimp only;rw[ywc];refine⟨fun _=>?_,fun _=>?_⟩
 ·rw[ywb];refine zim zsp (zuU 5 l b2 (p2+1) _ hl hR3 (by omega) fun l' b' p' hl' _=>?_);rw[ywd];exact h _ hl'
 ·rw[ywd];exact h _ hl.selA
end Go.Fw
namespace Go.Fw
open Go
set_option linter.unusedVariables false
set_option linter.unusedSimpArgs false
def zA3:List UInt8:=[97,98,99,100,101,102,103,104,105,106,107,108,109,110,111,112,113,114,115,116,117,118,119,120,121,122,95,48,49,50,51,52,53,54,55,56,57]
def zBa:List UInt8:=[48,49,50,51,52,53,54,55,56,57]
def isW(c:UInt8):Bool:=zA3.contains c
def isF(c:UInt8):Bool:=zBa.contains c
theorem zu1{α:Type}(q:α->Bool)(s:List α):s.take (s.takeWhile q).length=s.takeWhile q/\s.drop (s.takeWhile q).length=s.dropWhile q:=by have h:=List.takeWhile_append_dropWhile (p:=q) (l:=s);generalize s.takeWhile q=a at h;generalize s.dropWhile q=b at h;subst h;simp
theorem zrB{L s:List UInt8}(hL:(decide (L.length<4294967281)&&L.all fun b=>decide (b.toNat<128))=true)(hs:s.length<=1000000000000):zat (L,s)=some (s.takeWhile L.contains,s.dropWhile L.contains):=by
 rw[zdp];unfold zbU;dsimp only;have ht:zbz (s,L)=some (s.dropWhile L.contains):=by rw[zcQ];unfold zbx;unfold zrA;dsimp only;rw[hL];rfl
 rw[ht,zac];have hlen:=congrArg List.length (List.takeWhile_append_dropWhile (p:=L.contains) (l:=s));rw[yhr]at hlen;have e:Int.toNat ((↑(List.length s):Int)-(↑(List.length (s.dropWhile L.contains)):Int))-Int.toNat 0=(s.takeWhile L.contains).length:=by rw[Int.toNat_zero];omega
 have e2:List.take (s.takeWhile L.contains).length (List.drop (Int.toNat 0) s)=s.takeWhile L.contains:=by rw[Int.toNat_zero,List.drop_zero];exact(zu1 L.contains s).1
 rw[e,e2,zaN (zaX (by omega) (by omega)),zaN (by simp;omega),zaN (by simp;omega)];have e3:List.take (Int.toNat (↑(List.length s):Int)-Int.toNat (↑(List.length (s.takeWhile L.contains)):Int)) (List.drop (Int.toNat (↑(List.length (s.takeWhile L.contains)):Int)) s)=s.dropWhile L.contains:=by rw[Int.toNat_natCast,Int.toNat_natCast,List.take_of_length_le (by rw[List.length_drop];omega)];exact(zu1 L.contains s).2
 rw[e3]
theorem zlr{s:List UInt8}(hs:s.length<=1000000000000):zat ([97,98,99,100,101,102,103,104,105,106,107,108,109,110,111,112,113,114,115,116,117,118,119,120,121,122,95,48,49,50,51,52,53,54,55,56,57],s)=some (s.takeWhile isW,s.dropWhile isW):=zrB (L:=zA3) (by kernel_rfl) hs
theorem zyc{s:List UInt8}(hs:s.length<=1000000000000):zat ([48,49,50,51,52,53,54,55,56,57],s)=some (s.takeWhile isF,s.dropWhile isF):=zrB (L:=zBa) (by kernel_rfl) hs
def zi2(c:UInt8):List UInt8->Bool×List UInt8
|[]=>(false,[])
|x:: t=>bif x==c then(true,t)else(false,x:: t)
theorem ztB(c:UInt8)(s:List UInt8):zaq (s,[c])=some (zi2 c s).1:=by
 rw[za7];unfold zay;cases s with
 |nil=>rfl
 |cons x t=>
  have h1:decide ((↑(List.length (x:: t)):Int)>=(↑(List.length [c]):Int))=true:=by simp;omega
  dsimp only;rw[h1,zam,zaN (by simp),zac];congr 1;show([x]==[c])=(bif x==c then(true,t)else(false,x:: t)).1;cases h:x==c with
  |true=>rw[eq_of_beq h];simp
  |false=>
   have:([x]==[c])=false:=by simpa using h
   rw[this];rfl
theorem zov(c:UInt8)(s:List UInt8):zbo (s,[c])=some (zi2 c s).1:=by rw[zco];unfold zbl;rw[ztB];rfl
theorem zuX(c:UInt8)(s:List UInt8):zai ([c],s)=some (zi2 c s):=by
 rw[zdM];unfold zb5;have:zbn (s,[c])=some ((zi2 c s).2,(zi2 c s).1):=by
  rw[zcn];unfold zbk;have:zaz (s,[c])=some ((zi2 c s).2,(zi2 c s).1):=by
   rw[za6];unfold zax;rw[ztB,zac];cases s with
   |nil=>rfl
   |cons x t=>
    cases h:x==c with
    |false=>simp only[zi2,h,cond_false,Bool.not_false,zam]
    |true=>
     have h2:(decide ((0:Int)<=(↑(List.length [c]):Int))&&decide ((↑(List.length [c]):Int)<=(↑(List.length (x:: t)):Int))&&decide ((↑(List.length (x:: t)):Int)<=(↑(List.length (x:: t)):Int)))=true:=by simp;omega
     simp only[zi2,h,cond_true,Bool.not_true,zaf];rw[zaN h2];simp
  rw[this];rfl
 rw[this];rfl
theorem zdh(c:UInt8)(t:List UInt8):zai ([c],c:: t)=some (true,t):=by rw[zuX];simp[zi2]
theorem zer{c x:UInt8}(t:List UInt8)(h:x≠c):zai ([c],x:: t)=some (false,x:: t):=by
 have h':(x==c)=false:=by simpa using h
 rw[zuX];simp only[zi2,h',cond_false]
theorem zk9(q:UInt8->Bool){a b:List UInt8}(ha:∀c∈a,q c=true)(hb:∀c t,b=c:: t->q c=false):(a++b).takeWhile q=a/\(a++b).dropWhile q=b:=by
 induction a with
 |nil=>
  cases b with
  |nil=>exact⟨rfl,rfl⟩
  |cons c t=>simp[List.takeWhile_cons,List.dropWhile_cons,hb c t rfl]
 |cons c a ih=>have:=ih fun x hx=>ha x (List.mem_cons_of_mem _ hx);simp[List.takeWhile_cons,List.dropWhile_cons,ha c (by simp),this]
theorem zxX:((List.range 256).all fun n=>!zvs 1 (UInt8.ofNat n) ||isW (UInt8.ofNat n))=true:=by kernel_rfl
theorem zs3{c:UInt8}{i:Nat}(h:zvs i c=true):isW c=true:=by
 have h1:zvs 1 c=true:=by
  unfold zvs at h|-;rw[Bool.or_eq_true,Bool.or_eq_true]at h|-;rcases h with(h|h)|h
  ·exact .inl (.inl h)
  ·exact .inl (.inr h)
  ·rw[yhb,yhb]at h;right;rw[yhb,yhb];exact⟨⟨rfl,h.1.2⟩,h.2⟩
 have:=List.all_eq_true.1 zxX c.toNat (List.mem_range.2 (UInt8.toNat_lt c));rw[UInt8.ofNat_toNat,h1]at this;simpa using this
theorem zcV{s:List UInt8}(h:nameM s=true):∀c∈s,isW c=true:=by unfold nameM zo8 at h;simp only[yhb]at h;have h2:=(zqF _ _ _).1 h.1.2;intro c hc;obtain⟨i,hi,rfl⟩:=List.getElem_of_mem hc;exact zs3 (h2 i hi)
theorem znd{s:List UInt8}(h:nameM s=true):s≠[]:=by rintro rfl;cases h
theorem zx3:((List.range 10).all fun n=>isF (UInt8.ofNat (48+n))&&(UInt8.ofNat (48+n)).toNat==48+n)=true:=by kernel_rfl
theorem zmG{n:Nat}(h:n<10):isF (UInt8.ofNat (48+n))=true/\(UInt8.ofNat (48+n)).toNat=48+n:=by have:=List.all_eq_true.1 zx3 n (List.mem_range.2 h);simpa using this
theorem zmF:∀(u:Nat),∀c∈Lib.decDigits u,isF c=true:=by
 intro u;induction u using Nat.strongRecOn with
 |_ u ih=>
  intro c hc;rw[Lib.decDigits]at hc;split at hc
  ·rename_i h;rw[List.mem_singleton]at hc;rw[hc];exact(zmG h).1
  ·rename_i h;rcases List.mem_append.1 hc with h'|h'
   ·exact ih _ (by omega) c h'
   ·rw[List.mem_singleton]at h';rw[h'];exact(zmG (Nat.mod_lt u (by decide))).1
theorem zxe(u:Nat):Lib.decDigits u≠[]:=by rw[Lib.decDigits];split<;>simp
theorem zxy{d:Nat}(hd:d<10):∀(xs:List UInt8)(acc v:Nat),Lib.parseUint10 acc xs=.ok v->v<1000000000000000000->Lib.parseUint10 acc (xs++[UInt8.ofNat (48+d)])=.ok (v*10+d)
|[],acc,v,h,hv=>by simp only[Lib.parseUint10]at h;injection h with h;subst h;have:=(zmG hd).2;simp only[List.nil_append,Lib.parseUint10,this];rw[if_pos ⟨by omega,by omega⟩,if_neg (by omega),if_neg (by omega)];congr 1;omega
|c:: xs,acc,v,h,hv=>by
 simp only[List.cons_append,Lib.parseUint10]at h|-;split at h
 ·rename_i h1;rw[if_pos h1];split at h
  ·cases h
  ·rename_i h2;rw[if_neg h2];split at h
   ·cases h
   ·rename_i h3;rw[if_neg h3];exact zxy hd xs _ v h hv
 ·cases h
theorem zAC(u:Nat):u<10000000000000000000->Lib.parseUint10 0 (Lib.decDigits u)=.ok u:=by
 induction u using Nat.strongRecOn with
 |_ u ih=>
  intro hu;rw[Lib.decDigits];split
  ·rename_i h;have:=(zmG h).2;simp only[Lib.parseUint10,this];rw[if_pos ⟨by omega,by omega⟩,if_neg (by omega),if_neg (by omega)];congr 1;omega
  ·rename_i h;have:=zxy (d:=u % 10) (Nat.mod_lt u (by decide)) (Lib.decDigits (u / 10)) 0 (u / 10) (ih _ (by omega) (by omega)) (by omega);rw[this];congr 1;omega
theorem zjM{n:Int}(h:0<=n):Lib.itoa n=Lib.decDigits n.toNat:=by
 obtain⟨u,rfl⟩:∃u:Nat,n=u:=⟨n.toNat,by omega⟩
 rw[Lib.itoa_nonneg];simp
theorem zxh{c:UInt8}(h:isF c=true):c≠36/\c.toNat≠43/\c.toNat≠45:=by
 have:c∈zBa:=by simpa[isF]using h
 simp[zBa]at this;rcases this with rfl|rfl|rfl|rfl|rfl|rfl|rfl|rfl|rfl|rfl<;>decide
theorem zsY{n:Int}(h0:0<=n)(h1:n<=999999):zcG (Lib.itoa n)=some (n,false):=by
 rw[zd9];unfold zcA;unfold zvA;have hl:=zh9 h0 h1;rw[zaN (decide_eq_true (by omega))];rw[zjM h0];have h2:=zAC n.toNat (by omega);have h3:=zmF n.toNat;have h4:=zxe n.toNat;have:Lib.atoiAll (Lib.decDigits n.toNat)=.ok n:=by
  generalize Lib.decDigits n.toNat=D at h2 h3 h4;cases D with
  |nil=>exact absurd rfl h4
  |cons c r=>obtain⟨_,g1,g2⟩:=zxh (h3 c (by simp));unfold Lib.atoiAll Lib.parseMag;simp only[g1,g2,or_self,if_false,List.cons_ne_nil,h2];rw[if_neg (by omega),if_neg (by simp)];congr 1;omega
 unfold zxT;rw[this]
theorem zq4:∀(a b:List UInt8),(∀c∈a,c≠59)->Lib.index (a++59:: b) [59]=a.length
|[],b,_=>by simp[Lib.index]
|c:: a,b,h=>by
 have h1:=zq4 a b fun x hx=>h x (List.mem_cons_of_mem _ hx);have h2:c≠59:=h c (by simp);have h3:((59:UInt8)==c)=false:=by simpa using fun e=>h2 e.symm
 rw[List.cons_append,Lib.index,h1];simp[List.isPrefixOf,h3]
theorem zq5:∀(a:List UInt8),(∀c∈a,c≠59)->Lib.index a [59]= -1
|[],_=>rfl
|c:: a,h=>by
 have h1:=zq5 a fun x hx=>h x (List.mem_cons_of_mem _ hx);have h2:c≠59:=h c (by simp);have h3:((59:UInt8)==c)=false:=by simpa using fun e=>h2 e.symm
 rw[Lib.index,h1];simp[List.isPrefixOf,h3]
theorem zuT{a b:List UInt8}(ha:∀c∈a,c≠59)(hb:∀c∈b,c≠59):Lib.split (a++59:: b) [59]=[a,b]:=by
 have hi:=zq4 a b ha;have hd:(a++59:: b).drop (a.length+1)=b:=by
  rw[<-List.drop_drop,List.drop_left']
  ·rfl
  ·rfl
 unfold Lib.split;rw[Lib.count_hit (by simp) hi];have:(([59]:List UInt8).length)=1:=rfl;rw[this,hd,Lib.count_miss (zq5 b hb)];show Lib.splitK [59] 0 1 _=_;unfold Lib.splitK;rw[hi];rw[if_neg (by simp)];simp only[Int.toNat_natCast,Nat.add_zero,List.length_singleton,hd];simp[Lib.splitK]
theorem zoZ{s:List UInt8}(h:s.length<=1000000):zcb (s,[59])=some (Lib.split s [59]):=by rw[zdN];unfold zb6;unfold zrx;rw[zaN];simp;omega
end Go.Fw
namespace Go.Fw
open Go
set_option linter.unusedVariables false
set_option linter.unusedSimpArgs false
abbrev XB:=List Int×Int×Bool
theorem zrM{vs:List Int}{m:Int}{P:List Pair}{U:List (List UInt8)}{n:Int}{r:List UInt8}(h0:0<=n)(h1:n<=999999)(hr:∀c t,r=c:: t->isF c=false)(hl:r.length<=1000000):
 zaV ((vs,m,false),P,U,Lib.itoa n++r)=some (n,(vs,m,false),P,U,r):=by
 rw[zbR];unfold zba;dsimp only;have hi:=zh9 h0 h1;obtain⟨s1,s2⟩:=zk9 isF (a:=Lib.itoa n) (b:=r) (by rw[zjM h0];exact zmF _) hr;rw[zyc (by rw[yhr];omega),s1,s2,zac];dsimp only;rw[zsY h0 h1,zac,ztF];simp only[bne_self_eq_false,zac,show((false:Bool)==true)=false from rfl,zaf]
theorem zBN{vs:List Int}{m:Int}{P:List Pair}{U:List (List UInt8)}{n:Int}{r:List UInt8}(h0:0<=n)(h1:n<=999999)(hl:r.length<=900000):
 zb8 ((vs,m,false),P,U,Lib.itoa n++41:: r)=some (n,(vs,m,false),P,U,r):=by
 rw[zdL];unfold zb4;dsimp only;have ht:zai ([36],Lib.itoa n++41:: r)=some (false,Lib.itoa n++41:: r):=by
  rw[zjM h0];have h3:=zmF n.toNat;have h4:=zxe n.toNat;generalize Lib.decDigits n.toNat=D at h3 h4;cases D with
  |nil=>exact absurd rfl h4
  |cons c D=>exact zer _ (zxh (h3 c (by simp))).1
 rw[ht,zac,zrM h0 h1 (fun c t e=>by cases e;rfl) (by simp;omega)];dsimp only;rw[zaf,zac,decide_eq_true rfl,zdA,zac];dsimp only;rw[zdh,zac];dsimp only;rw[Bool.not_true,zaf,zac]
def zCs(r:List UInt8):Prop:=∃c t,r=c:: t/\(c=44\/c=125)
theorem zky:isW 40=false/\isW 58=false/\isW 123=false/\isW 44=false/\isW 125=false:=by refine⟨?_,?_,?_,?_,?_⟩<;>kernel_rfl
theorem zmN{n:Nat}{lv:Int}{vs:List Int}{m m':Int}{P:List Pair}{U:List (List UInt8)}{s:Sel}{kt r:List UInt8}(hs:SOk s)(hlv:0<=lv/\lv<=100)(hr:zCs r)(hl:(kt++r).length<=100000)
 (hk:(kt=[]/\s.kids=[]/\m'=m)\/(∃t,kt=123:: t)/\zad n (lv+1,(vs,m,false),P,U,kt++r)=some ((vs,m',false),P,r,s.kids,U)):
 zar (n+1) (lv,(vs,m,false),P,U,zc3 s++(zdk s++(kt++r)))=some ((s.as,s.name,s.one,s.id),(vs,m',false),P,r,s.kids,U):=by
 rw[zar];dsimp only;have hpl:=zeZ hs;have hol:=zeY hs;obtain⟨w40,w58,w123,w44,w125⟩:=zky;obtain⟨c,t,hct,hcc⟩:∃c t,kt++r=c:: t/\(c=123\/c=44\/c=125):=by
  rcases hk with⟨h,_⟩|⟨⟨t,h⟩,_⟩
  ·obtain⟨c,t,h1,h2⟩:=hr;rw[h,h1];exact⟨c,t,rfl,.inr h2⟩
  ·rw[h];exact⟨123,t++r,rfl,.inl rfl⟩
 obtain⟨e,u,heu,hee⟩:∃e u,zdk s++(kt++r)=e:: u/\(e=40\/e=123\/e=44\/e=125):=by
  unfold zdk;cases s.one with
  |true=>exact⟨40,_,rfl,.inl rfl⟩
  |false=>exact⟨c,t,hct,.inr hcc⟩
 have hew:∀x y,zdk s++(kt++r)=x:: y->isW x=false:=fun x y h=>by rw[heu]at h;injection h with h _;rw[<-h];rcases hee with rfl|rfl|rfl|rfl<;>assumption
 have he58:e≠58:=by rcases hee with rfl|rfl|rfl|rfl<;>decide
 have hne:(s.name==[])=false:=by have:=znd hs.name;simpa using this
 have hsl:(zc3 s++(zdk s++(kt++r))).length<=1000000:=by simp only[yhr]at hl|-;omega
 have hsl2:(s.name++(zdk s++(kt++r))).length<=1000000:=by have:=zfE hs.name;simp only[yhr]at hl|-;omega
 obtain⟨g1,g2⟩:=zk9 isW (zcV hs.name) hew;rcases hs.asn with ha|ha;case' inl=>
  have e1:zc3 s++(zdk s++(kt++r))=s.name++(zdk s++(kt++r)):=by unfold zc3;rw[ha];rfl
  rw[e1,zlr (by omega),zac];dsimp only;rw[g1,g2];rw[heu,zer _ he58,zac,<-heu];dsimp only;rw[zaf,zac,ha]
 case' inr=>
  have hab:(s.as==[])=false:=by have:=znd ha;simpa using this
  have e1:zc3 s++(zdk s++(kt++r))=s.as++58:: (s.name++(zdk s++(kt++r))):=by unfold zc3;simp[bne,hab]
  obtain⟨q1,q2⟩:=zk9 isW (a:=s.as) (b:=58:: (s.name++(zdk s++(kt++r)))) (zcV ha) (fun c t e=>by cases e;exact w58);rw[zlr (by omega),zac];dsimp only;rw[e1,q1,q2,zdh,zac];dsimp only;rw[zam,zlr (by omega),zac];dsimp only;rw[g1,g2,zaf,zac,zac,hab]
 all_goals
  dsimp only;rw[zaf,zac,hne];dsimp only;cases ho:s.one;case' false=>
   have e2:zdk s++(kt++r)=c:: t:=by unfold zdk;rw[ho,hct];rfl
   have hid:=hs.one ho;rw[e2,zer _ (by rcases hcc with rfl|rfl|rfl<;>decide),zac];dsimp only;rw[zaf,zac,hid]
  case' true=>
   have e2:zdk s++(kt++r)=40:: (Lib.itoa s.id++41:: (kt++r)):=by unfold zdk;rw[ho];simp
   rw[e2,zdh,zac];dsimp only;rw[zam,zBN hs.id0 hs.id1 (by omega),zac];dsimp only;rw[decide_eq_true rfl,zdA,zac,hct]
 all_goals
  dsimp only;rw[Bool.not_false,zam,zov,zac,zac];dsimp only;rcases hk with⟨k1,k2,k3⟩|⟨⟨t',k1⟩,k2⟩;case' inl=>
   have hc:(zi2 123 (c:: t)).1=false:=by obtain⟨x,y,r1,r2⟩:=hr;rw[k1,r1]at hct;cases hct;rcases r2 with rfl|rfl<;>rfl
   rw[hc,zaf,zac,<-hct,k1,k2,k3];rfl
  case' inr=>
   have hc:(zi2 123 (c:: t)).1=true:=by rw[k1]at hct;cases hct;rfl
   rw[hc,zam,zaN (zaX (by omega) (by omega)),<-hct,k2,zac,zac]
 all_goals dsimp only
theorem zrW{xs:List (List UInt8)}{i:Nat}(h:i<xs.length):za1 (xs.drop i)=xs[i]++(if i+1<xs.length then 44:: za1 (xs.drop (i+1))else[]):=by
 rw[List.drop_eq_getElem_cons h];split
 ·rename_i h2;rw[List.drop_eq_getElem_cons h2];rfl
 ·rename_i h2;rw[List.drop_eq_nil_iff.2 (by omega)];simp[za1]
abbrev zxR:=Sel×List UInt8×Nat
theorem zoj{n:Nat}{lv m:Int}{vs:List Int}{P:List Pair}{U:List (List UInt8)}{ts:List zxR}{r:List UInt8}(hne:ts≠[])(hlv:1<=lv/\lv<=5)(hm:0<=m)(hm2:m+((ts.length+(ts.map (·.2.2)).sum:Nat):Int)<=48)(hlen:(za1 (ts.map (·.2.1))++125:: r).length<=90000)
 (hf:∀x∈ts,(∃c t,x.2.1=c:: t/\isW c=true)/\∀(m0:Int)(r':List UInt8),0<=m0->m0+x.2.2<=48->zCs r'->(x.2.1++r').length<=90000->zar n (lv,(vs,m0,false),P,U,x.2.1++r')=some ((x.1.as,x.1.name,x.1.one,x.1.id),(vs,m0+x.2.2,false),P,r',x.1.kids,U)):
 zad (n+1) (lv,(vs,m,false),P,U,123:: (za1 (ts.map (·.2.1))++125:: r))=some ((vs,m+((ts.length+(ts.map (·.2.2)).sum:Nat):Int),false),P,r,ts.map (·.1),U):=by
 rw[zad];dsimp only;rw[decide_eq_false (by omega),zaf,zdh,zac,zac];dsimp only;rw[Bool.not_true,zaf];have hpos:=List.length_pos_iff.2 hne;have hl48:ts.length<=48:=by omega
 have hL:LIM=1099511627776:=rfl;let src:Nat->List UInt8:=fun i=>za1 ((ts.map (·.2.1)).drop i)++125:: r;let mm:Nat->Int:=fun i=>m+((i+((ts.take i).map (·.2.2)).sum:Nat):Int);let st:Nat->XB×List Pair×List UInt8×List Sel×List (List UInt8):=fun i=>((vs,mm i,false),P,src i,(ts.take i).map (·.1),U)
 have hsrc:∀i (hi:i<ts.length),src i=ts[i].2.1++(if i+1<ts.length then 44:: src (i+1)else 125:: r):=fun i hi=>by show za1 _++_=_;rw[zrW (by simpa using hi)];simp only[List.length_map,List.getElem_map];split<;>simp[src]
 have hsl:∀i,i<=ts.length->(src i).length<=90000:=by
  intro i hi;induction i with
  |zero=>exact hlen
  |succ i ih=>
   have h1:=ih (by omega);rw[hsrc i (by omega)]at h1;split at h1
   ·simp only[yhr,yhs]at h1;omega
   ·have:i+1=ts.length:=by omega
    have e:(ts.map (·.2.1)).drop (i+1)=[]:=List.drop_eq_nil_iff.2 (by rw[List.length_map];omega);show(za1 ((ts.map (·.2.1)).drop (i+1))++125:: r).length<=90000;rw[e];simp only[yhr,yhs,za1,yht]at h1|-;omega
 have hmm:∀i (hi:i<ts.length),mm (i+1)=mm i+1+ts[i].2.2/\mm (i+1)<=48/\0<=mm i:=fun i hi=>by have h1:=zns (w:=fun x:zxR=>x.2.2) hi;have h2:=zhe ts (fun x:zxR=>x.2.2) (i+1);refine⟨?_,?_,?_⟩<;>simp only[mm]<;>omega
 refine(znu (ts.length-1) st (.inr ((vs,mm ts.length,false),P,r,ts.map (·.1),U)) ?_ ?_ ?_).trans ?_
 ·show((vs,mm 0,false),P,src 0,_,U)=_;simp[mm,src]
 ·intro i hi;have hi':i<ts.length:=by omega
  obtain⟨⟨c,t,hc,hcw⟩,hfi⟩:=hf _ (ygh hi');obtain⟨q1,q2,q3⟩:=hmm i hi';have hs:=hsrc i hi';rw[if_pos (by omega)]at hs;have hsl':=hsl i (by omega);rw[hs]at hsl';have hfi':=hfi (mm i+1) _ (by omega) (by omega) ⟨44,_,rfl,.inl rfl⟩ hsl';show(zab (!false) (gd (zaH (mm i+1)) (zab (decide (mm i+1>48)) _ (zaa (zai ([64],src i)) _))) _)=_;have hc64:c≠64:=fun e=>by rw[e]at hcw;revert hcw;decide
  have e1:zai ([64],src i)=some (false,src i):=by rw[hs,hc];exact zer _ hc64
  rw[Bool.not_false,zam,zaN (zaX (by omega) (by omega)),decide_eq_false (by omega),zaf,e1,zac];dsimp only;rw[zaf];dsimp only[st];rw[hs,hfi',zac];dsimp only;rw[zaN (decide_eq_true (by simp;omega)),zac];dsimp only;rw[zer _ (by decide),zac];dsimp only;rw[zaf,zdh,zac];dsimp only;rw[Bool.not_true,zaf,zac];dsimp only;rw[q1,List.take_succ_eq_append_getElem hi',List.map_append,znp];rfl
 ·have hi':ts.length-1<ts.length:=by omega
  generalize hi:ts.length-1=i at hi';obtain⟨⟨c,t,hc,hcw⟩,hfi⟩:=hf _ (ygh hi');obtain⟨q1,q2,q3⟩:=hmm i hi';have hs:=hsrc i hi';rw[if_neg (by omega)]at hs;have hsl':=hsl i (by omega);rw[hs]at hsl';have hfi':=hfi (mm i+1) _ (by omega) (by omega) ⟨125,_,rfl,.inr rfl⟩ hsl';show(zab (!false) (gd (zaH (mm i+1)) (zab (decide (mm i+1>48)) _ (zaa (zai ([64],src i)) _))) _)=_;have hc64:c≠64:=fun e=>by rw[e]at hcw;revert hcw;decide
  have e1:zai ([64],src i)=some (false,src i):=by rw[hs,hc];exact zer _ hc64
  rw[Bool.not_false,zam,zaN (zaX (by omega) (by omega)),decide_eq_false (by omega),zaf,e1,zac];dsimp only;rw[zaf];dsimp only[st];rw[hs,hfi',zac];dsimp only;rw[zaN (decide_eq_true (by simp;omega)),zac];dsimp only;rw[zdh,zac];dsimp only;rw[zam];have hlast:i+1=ts.length:=by omega
  have e2:ts.map (·.1)=(ts.take i).map (·.1)++[ts[i].1]:=by
   conv=>lhs;rw[<-List.take_length (l:=ts),<-hlast,List.take_succ_eq_append_getElem hi',List.map_append]
   rfl
  rw[e2,znp,<-hlast,q1]
 ·show some _=_;congr 1;congr 1
  ·show(vs,mm ts.length,false)=_;simp only[mm,List.take_length]
theorem zoP{s:Sel}(h:SOk s):∃c t,zc3 s=c:: t/\isW c=true:=by
 unfold zc3;rcases h.asn with ha|ha
 ·rw[ha];have h1:=zcV h.name;have h2:=znd h.name;cases hn:s.name with
  |nil=>exact absurd hn h2
  |cons c t=>exact⟨c,t,rfl,h1 c (by rw[hn];simp)⟩
 ·have h1:=zcV ha;have h2:=znd ha;cases hn:s.as with
  |nil=>exact absurd hn h2
  |cons c t=>exact⟨c,_,rfl,h1 c (by rw[hn];simp)⟩
theorem zqZ{k:Nat}{s:Sel}(h:SOk s):∃c t,zcT k s=c:: t/\isW c=true:=by obtain⟨c,t,h1,h2⟩:=zoP h;exact⟨c,t++_,by unfold zcT;rw[h1];rfl,h2⟩
theorem ztw{k:Nat}{s:Sel}(r:List UInt8):zcT k s++r=zc3 s++(zdk s++((bif decide (0<s.kids.length)then zcW k s.kids else[])++r)):=by unfold zcT;simp
theorem ziJ{vs:List Int}{P:List Pair}{U:List (List UInt8)}:∀(k:Nat)(l:List Sel)(lv m:Int)(r:List UInt8),okM k l=true->za0 k l<=24->l≠[]->1<=lv->lv+k<=6->0<=m->m+za0 k l<=48->(zcW k l++r).length<=90000->
 zad (2*k) (lv,(vs,m,false),P,U,zcW k l++r)=some ((vs,m+za0 k l,false),P,r,l,U)
 |0,l,lv,m,r,h,_,hne,_,_,_,_,_=>by cases l with|nil=>exact absurd rfl hne|cons a l=>simp[okM]at h
 |k+1,l,lv,m,r,h,hz,hne,hlv,hlk,hm,hm2,hlen=>by
  obtain⟨_,h2,h3⟩:=zaU.1 h;have hmap:(l.map fun s=>((s,zcT k s,za0 k s.kids):zxR)).map (·.2.1)=l.map (zcT k):=by rw[List.map_map];rfl
  have hmap2:(l.map fun s=>((s,zcT k s,za0 k s.kids):zxR)).map (·.2.2)=l.map fun s=>za0 k s.kids:=by rw[List.map_map];rfl
  have hmap3:(l.map fun s=>((s,zcT k s,za0 k s.kids):zxR)).map (·.1)=l:=by rw[List.map_map];simp[Function.comp_def]
  have e:zcW (k+1) l++r=123:: (za1 (l.map (zcT k))++125:: r):=by rw[zaP];simp
  rw[e]at hlen|-;have hz':za0 (k+1) l=l.length+(l.map fun s=>za0 k s.kids).sum:=rfl;have:=zoj (n:=2*k+1) (lv:=lv) (m:=m) (vs:=vs) (P:=P) (U:=U) (ts:=l.map fun s=>(s,zcT k s,za0 k s.kids)) (r:=r) (by simpa using hne) (by omega) hm (by rw[hmap2,List.length_map];omega) (by rw[hmap];simp only[yhs]at hlen;omega) ?_
  ·rw[hmap,hmap2,hmap3,List.length_map]at this;rw[hz'];exact this
  ·intro x hx;obtain⟨s,hs,rfl⟩:=List.mem_map.1 hx;have hso:=zcP (List.all_eq_true.1 h2 s hs);refine⟨zqZ hso,fun m0 r' hm0 hm1 hr' hl'=>?_⟩;dsimp only at hl' hm1|-;have hsz:=zi1 (k:=k) hs;rw[ztw]at hl'|-;have hkl:((bif decide (0<s.kids.length)then zcW k s.kids else[])++r').length<=90000:=by simp only[yhr]at hl'|-;omega
   refine zmN hso (by omega) hr' (by omega) ?_;by_cases hk:0<s.kids.length
   ·rw[decide_eq_true hk]at hkl|-;simp only[cond_true]at hkl|-;have hkn:s.kids≠[]:=List.length_pos_iff.1 hk;right;refine⟨?_,ziJ k s.kids (lv+1) m0 r' (h3 s hs) (by omega) hkn (by omega) (by omega) hm0 (by omega) hkl⟩;cases k with
    |zero=>cases hq:s.kids with|nil=>exact absurd hq hkn|cons a b=>have:=h3 s hs;rw[hq]at this;simp[okM]at this
    |succ k=>exact⟨_,zaP k _⟩
   ·left;have hkn:s.kids=[]:=by
     cases hq:s.kids with
     |nil=>rfl
     |cons a b=>rw[hq]at hk;simp at hk
    rw[decide_eq_false hk,hkn,zjU];exact⟨rfl,rfl,by omega⟩
theorem zBt{n:Nat}{lv m m':Int}{vs:List Int}{P:List Pair}{nm r:List UInt8}{kids:List Sel}(hlv:1<=lv/\lv<=5)(hm:0<=m)(hm2:m+1<=48)(hnm:∀c∈nm,isW c=true)(hP:zAy nm P=true)(hr:(nm++125:: r).length<=90000)(hkl:kids.length<=1000)
 (hb:zad n (lv,(vs,m+1,false),P,[nm],zBg nm P)=some ((vs,m',false),P,[],kids,[nm])):
 zad (n+2) (lv,(vs,m,false),P,[],123:: 64:: (nm++125:: r))=some ((vs,m',false),P,r,kids,[]):=by
 rw[zad];dsimp only;rw[decide_eq_false (by omega),zaf,zdh,zac,zac];dsimp only;rw[Bool.not_true,zaf];have hL:LIM=1099511627776:=rfl;have hnamed:zav (n+1) (lv,(vs,m+1,false),P,[],nm++125:: r)=some ((vs,m',false),P,125:: r,kids,[]):=by rw[zav];dsimp only;obtain⟨q1,q2⟩:=zk9 isW (a:=nm) (b:=125:: r) hnm (fun c t e=>by cases e;exact zky.2.2.2.2);rw[zlr (by omega),zac];dsimp only;rw[q1,q2,hP,Bool.not_true,zaf,zgO (by simp),zac,zac];dsimp only[List.any_nil];rw[zaf,zaN (decide_eq_true (by simp;omega))];simp only[List.nil_append];rw[hb,zac];dsimp only;rw[zaf,zac];dsimp only;rw[zaN (zaX (by simp) (by simp)),zaN (by simp)];rfl
 refine(znu 0 (fun _=>((vs,m,false),P,64:: (nm++125:: r),([]:List Sel),([]:List (List UInt8)))) (.inr ((vs,m',false),P,r,kids,[])) rfl (fun i hi=>by omega) ?_).trans rfl;dsimp only;rw[Bool.not_false,zam,zaN (zaX (by omega) (by omega)),decide_eq_false (by omega),zaf,zdh,zac];dsimp only;rw[zam,hnamed,zac];dsimp only;rw[zaN (decide_eq_true (by simp;omega)),zac];dsimp only;rw[zdh,zac];dsimp only;rw[zam];rfl
end Go.Fw
namespace Go.Fw
open Go
set_option linter.unusedVariables false
set_option linter.unusedSimpArgs false
theorem zoi(n:Nat):(∀d,Le (zav n d) (zav (n+1) d))/\(∀d,Le (zar n d) (zar (n+1) d))/\(∀d,Le (zad n d) (zad (n+1) d)):=by
 induction n with
 |zero=>exact⟨fun d=>Le.none,fun d=>Le.none,fun d=>Le.none⟩
 |succ n ih=>
  obtain⟨ih1,ih2,ih3⟩:=ih;refine⟨fun d=>?_,fun d=>?_,fun d=>?_⟩
  ·rw[zav,zav];repeat' (first|exact ih1 _|exact ih2 _|exact ih3 _|refine Le.bind ?_ ?_|refine Le.cond ?_ ?_|refine Le.gd ?_|refine Le.caseS ?_ ?_|refine Le.loop ?_ _|exact Le.refl _|refine fun _=>?_)
  ·rw[zar,zar];repeat' (first|exact ih1 _|exact ih2 _|exact ih3 _|refine Le.bind ?_ ?_|refine Le.cond ?_ ?_|refine Le.gd ?_|refine Le.caseS ?_ ?_|refine Le.loop ?_ _|exact Le.refl _|refine fun _=>?_)
  ·rw[zad,zad];repeat' (first|exact ih1 _|exact ih2 _|exact ih3 _|refine Le.bind ?_ ?_|refine Le.cond ?_ ?_|refine Le.gd ?_|refine Le.caseS ?_ ?_|refine Le.loop ?_ _|exact Le.refl _|refine fun _=>?_)
theorem zoR:∀{k:Nat}{l:List Sel},okM k l=true->okM (k+1) l=true/\za0 (k+1) l=za0 k l/\(l≠[]->zcW (k+1) l=zcW k l)
|0,l,h=>by cases l with|nil=>exact⟨rfl,rfl,fun h=>absurd rfl h⟩|cons a l=>simp[okM]at h
|k+1,l,h=>by
 obtain⟨h1,h2,h3⟩:=zaU.1 h;have hs:∀s∈l,za0 (k+1) s.kids=za0 k s.kids:=fun s hs=>(zoR (h3 s hs)).2.1;refine⟨zaU.2 ⟨h1,h2,fun s hs=>(zoR (h3 s hs)).1⟩,?_,fun _=>?_⟩
 ·show l.length+(l.map fun s=>za0 (k+1) s.kids).sum=l.length+(l.map fun s=>za0 k s.kids).sum;rw[List.map_congr_left hs]
 ·rw[zaP,zaP];have:l.map (zcT (k+1))=l.map (zcT k):=List.map_congr_left fun s hs=>by
   unfold zcT;by_cases hk:0<s.kids.length
   ·rw[decide_eq_true hk,(zoR (h3 s hs)).2.2 (List.length_pos_iff.1 hk)]
   ·rw[decide_eq_false hk];rfl
  rw[this]
theorem zoz{c:UInt8}:∀{l:List (List UInt8)},c∈za1 l->c=44\/∃x∈l,c∈x
|[],h=>by simp[za1]at h
|[x],h=>.inr ⟨x,by simp,by simpa[za1]using h⟩
|x:: y:: l,h=>by
 rw[za1,List.mem_append,List.mem_cons]at h;rcases h with h|h|h
 ·exact .inr ⟨x,by simp,h⟩
 ·exact .inl h
 ·rcases zoz h with h|⟨z,h1,h2⟩
  ·exact .inl h
  ·exact .inr ⟨z,by simp[List.mem_cons.1 h1],h2⟩
theorem zu7:isW 59=false:=by kernel_rfl
theorem zAa:isF 59=false:=by kernel_rfl
theorem zur{s:Sel}(h:SOk s):∀c∈zc3 s,c≠59:=by
 intro c hc e;subst e;have hn:=fun hx=>zcV h.name 59 hx;rw[zu7]at hn;unfold zc3 at hc;rcases List.mem_append.1 hc with hc|hc
 ·cases ha:s.as !=[]with
  |false=>rw[ha]at hc;simp at hc
  |true=>
   rw[ha]at hc;rcases h.asn with h'|h'
   ·rw[h']at ha;cases ha
   ·have:=fun hx=>zcV h' 59 hx;rw[zu7]at this;simp at hc;cases this hc
 ·cases hn hc
theorem zum{s:Sel}(h:SOk s):∀c∈zdk s,c≠59:=by
 intro c hc e;subst e;unfold zdk at hc;cases ho:s.one with
 |false=>rw[ho]at hc;simp at hc
 |true=>rw[ho]at hc;simp at hc;rw[zjM h.id0]at hc;have:=zmF _ _ hc;rw[zAa]at this;cases this
theorem zu2:∀(k:Nat)(l:List Sel),okM k l=true->∀c∈zcW k l,c≠59
|0,l,_=>by simp[zcW]
|k+1,l,h=>by
 obtain⟨_,h2,h3⟩:=zaU.1 h;intro c hc;rw[zaP,List.mem_cons,List.mem_append,List.mem_singleton]at hc;rcases hc with rfl|hc|rfl
 ·decide
 ·rcases zoz hc with rfl|⟨x,hx,hcx⟩
  ·decide
  ·obtain⟨s,hs,rfl⟩:=List.mem_map.1 hx;have hso:=zcP (List.all_eq_true.1 h2 s hs);unfold zcT at hcx;rcases List.mem_append.1 hcx with hcx|hcx
   ·exact zur hso c hcx
   ·rcases List.mem_append.1 hcx with hcx|hcx
    ·exact zum hso c hcx
    ·cases hk:decide (0<s.kids.length)with
     |false=>rw[hk]at hcx;simp at hcx
     |true=>rw[hk]at hcx;exact zu2 k s.kids (h3 s hs) c hcx
 ·decide
theorem zwX(n:Nat):∀d,Le (zbi n d) (zbi (n+1) d):=by
 induction n with
 |zero=>intro d;exact Le.none
 |succ n ih=>intro d;rw[zbi,zbi];repeat' (first|exact ih _|refine Le.bind ?_ ?_|refine Le.cond ?_ ?_|refine Le.gd ?_|refine Le.caseS ?_ ?_|refine Le.loop ?_ _|exact Le.refl _|refine fun _=>?_)
theorem zu8:∀(k:Nat)(l:List Sel),okM k l=true->zjJ l->zbi (k+1) (l,l)=some true
|0,l,h,_=>by
 cases l with
 |cons a l=>simp[okM]at h
 |nil=>rw[zbi];dsimp only;rw[bne_self_eq_false,zaf];exact(znu (s0:=(0:Int)) 0 (fun _=>(0:Int)) (.inl 0) rfl (fun i hi=>by omega) rfl).trans rfl
|k+1,l,h,hA=>by
 obtain⟨_,_,h3⟩:=zaU.1 h;rw[zbi];dsimp only;rw[bne_self_eq_false,zaf];have hl:=hA.len;refine(znu (s0:=(0:Int)) l.length (fun i=>(i:Int)) (.inl (l.length:Int)) rfl ?_ ?_).trans rfl
 ·intro i hi;have hw:=zu8 k l[i].kids (h3 _ (ygh hi)) (hA.get (ygh hi)).2.2;have h3':=zjm hi (up3 hl);simp only[zpC hi,zog,zl7 hi,zam,zdA,zac,bne_self_eq_false,zaf,hw,h3',Bool.not_true];rfl
 ·simp only[zkz,zaf]
theorem zA4{l:List Sel}(h:okM 5 l=true)(hA:zjJ l):zix (l,l)=some true:=zfA zwX (zu8 5 l h hA)
theorem zu5{a:Sel}{l:List Sel}(h:znD ((a:: l).map zfi)=true):znD (l.map zfi)=true:=by rw[znE]at h|-;intro j hj;have:=h (j+1) (by simpa using hj);unfold zlH at this|-;simp only[List.getElem_cons_succ,List.map_cons,List.take_succ_cons,List.any_cons,Bool.not_or,yhb]at this;exact this.2
theorem zni{k:Nat}{a:Sel}{l:List Sel}(h:okM (k+1) (a:: l)=true):okM (k+1) l=true/\za0 (k+1) l+1+za0 k a.kids=za0 (k+1) (a:: l):=by
 obtain⟨h1,h2,h3⟩:=zaU.1 h;refine⟨zaU.2 ⟨zu5 h1,?_,fun s hs=>h3 s (List.mem_cons_of_mem _ hs)⟩,?_⟩
 ·simp only[List.all_cons,yhb]at h2;exact h2.2
 ·show l.length+(l.map fun s=>za0 k s.kids).sum+1+_=(a:: l).length+((a:: l).map fun s=>za0 k s.kids).sum;simp only[yhs,List.map_cons,List.sum_cons];omega
theorem zyV{a:Sel}(h:zfl a=true):zxa [Sel.mk a.as a.name a.one a.id []]=123:: (zc3 a++zdk a++[125]):=by
 have hs:zfl (Sel.mk a.as a.name a.one a.id [])=true:=h;have hso:=zcP h;have h1:okM 5 [Sel.mk a.as a.name a.one a.id []]=true:=zaU.2 ⟨rfl,by rw[List.all_cons,hs];rfl,fun s hs=>by rw[List.mem_singleton]at hs;subst hs;rfl⟩;have h2:zcW 5 [Sel.mk a.as a.name a.one a.id []]=123:: (zc3 a++zdk a++[125]):=by
  rw[zaP];have:zcT 4 (Sel.mk a.as a.name a.one a.id [])=zc3 a++zdk a:=by unfold zcT zc3 zdk;simp[Sel.as,Sel.name,Sel.one,Sel.id,Sel.kids]
  simp[this,za1]
 have h3:za0 5 [Sel.mk a.as a.name a.one a.id []]=1:=rfl;have hp:=zeZ hso;have hq:=zeY hso;unfold zxa;rw[zbs.2 ⟨by simp,h1,by omega,by rw[h2];simp;omega⟩,h2];rfl
theorem ziP(x:List UInt8){l:List (List UInt8)}(h:l≠[]):za1 (x:: l)=x++44:: za1 l:=by
 cases l with
 |nil=>exact absurd rfl h
 |cons y l=>rfl
theorem zyW{a:Sel}{l:List Sel}(h:zff (a:: l)=true)(hk:a.kids≠[]):zff a.kids=true/\zxa a.kids=zcW 4 a.kids:=by
 obtain⟨_,h1,h2,h3⟩:=zbs.1 h;obtain⟨g1,g2,g3⟩:=zaU.1 h1;have hka:=g3 a (by simp);obtain⟨u1,u2,u3⟩:=zoR hka;have u3:=u3 hk;have u2:za0 5 a.kids=za0 4 a.kids:=u2;have u3:zcW 5 a.kids=zcW 4 a.kids:=u3;have hz:za0 5 l+1+za0 4 a.kids=za0 5 (a:: l):=(zni h1).2;have hlen:(zcW 4 a.kids).length<=(zcW 5 (a:: l)).length:=by
  show _<=(123:: (za1 ((a:: l).map (zcT 4))++[125])).length;rw[List.map_cons];have hd:decide (0<a.kids.length)=true:=decide_eq_true (List.length_pos_iff.2 hk);have e:zcT 4 a=zc3 a++(zdk a++zcW 4 a.kids):=by unfold zcT;rw[hd];rfl
  have:(zcT 4 a).length<=(za1 (zcT 4 a:: l.map (zcT 4))).length:=by
   cases hl:l.map (zcT 4)with
   |nil=>simp[za1]
   |cons y ys=>rw[ziP _ (by simp)];simp
  rw[e]at this|-;simp only[yhr,yhs]at this|-;omega
 have hok:zff a.kids=true:=zbs.2 ⟨hk,u1,by omega,by rw[u3];omega⟩;refine⟨hok,?_⟩;unfold zxa;rw[hok,u3];rfl
theorem zul{a:Sel}{l:List Sel}(h:zff (a:: l)=true)(hl:l≠[]):zff l=true/\zxa l=123:: (za1 (l.map (zcT 4))++[125]):=by
 obtain⟨_,h1,h2,h3⟩:=zbs.1 h;obtain⟨u1,u2⟩:=zni h1;have u2:za0 5 l+1+za0 4 a.kids=za0 5 (a:: l):=u2;have hlen:(zcW 5 l).length<=(zcW 5 (a:: l)).length:=by rw[zaP,zaP,List.map_cons,ziP _ (by simpa using hl)];simp only[yhr,yhs];omega
 have hok:zff l=true:=zbs.2 ⟨hl,u1,by omega,by omega⟩;refine⟨hok,?_⟩;unfold zxa;rw[hok,zaP];rfl
end Go.Fw
namespace Go.Fw
open Go
set_option linter.unusedVariables false
set_option linter.unusedSimpArgs false
abbrev fN:List UInt8:=[102]
theorem zpD:nameM [102]=true:=by kernel_rfl
theorem zpB{α:Type}{b:Bool}{x y:Option α}(h:b=false):zab b x y=y:=by rw[h];rfl
theorem zyD{s:List UInt8}{vs:List Int}(h:s.length<=1000000)(h2:400<s.length):zb7 (s,vs)=some (false,[]):=by rw[zcZ];unfold zb3;dsimp only;rw[zoZ h,zac,decide_eq_true (by omega),zam,zac,zam]
theorem zoh{s tail:List UInt8}{d:List Sel}{vs:List Int}{m:Int}(hs:∀c∈s,c≠59)(ht:∀c∈tail,c≠59)(htl:∃t,tail=123:: t)(hlen:(s++59:: 102:: tail).length<=400)(hd:zff d=true)(hA:zjJ d)
 (hf:∃n,zad n (1,(vs,0,false),[{k:=[102],v:=tail:Pair}],[],s)=some ((vs,m,false),[{k:=[102],v:=tail:Pair}],[],d,[])):
 zb7 (s++59:: 102:: tail,vs)=some (true,d):=by
 rw[zcZ];unfold zb3;dsimp only;have hsp:=zuT (a:=s) (b:=102:: tail) hs (fun c hc=>by
  rcases List.mem_cons.1 hc with rfl|hc
  ·decide
  ·exact ht c hc)
 rw[zoZ (by omega),hsp,zac,decide_eq_false (by omega),zaf];dsimp only[List.length];rw[zaN (by rfl),zac,zpB (by rfl),zaN (by rfl)];obtain⟨t,rfl⟩:=htl;have hw:zat ([97,98,99,100,101,102,103,104,105,106,107,108,109,110,111,112,113,114,115,116,117,118,119,120,121,122,95,48,49,50,51,52,53,54,55,56,57],102:: 123:: t)=some ([102],123:: t):=by simp only[yhr,yhs]at hlen;rw[zlr (by simp only[yhs];omega)];obtain⟨q1,q2⟩:=zk9 isW (a:=[102]) (b:=123:: t) (zcV zpD) (fun c t e=>by cases e;exact zky.2.2.1);have e:102:: 123:: t=[102]++123:: t:=rfl;rw[e,q1,q2]
 have hpi:List.take (Int.toNat ((((0+1+1:Nat)):Int))-Int.toNat 1) (List.drop (Int.toNat 1) [s,102:: 123:: t])=[102:: 123:: t]:=rfl;refine(znu (s0:=((0:Int),(vs,(0:Int),false),([]:List Pair),([]:List (List UInt8)))) 1 (fun i=>if i=0 then((0:Int),(vs,(0:Int),false),([]:List Pair),([]:List (List UInt8)))else(1,(vs,0,false),[{k:=[102],v:=123:: t:Pair}],[])) (.inl (1,(vs,0,false),[{k:=[102],v:=123:: t:Pair}],[])) rfl ?_ ?_).trans ?_
 ·intro i hi;obtain rfl:i=0:=by omega
  simp only[if_true];show(zab true (gd true (zaa (some (102:: 123:: t)) _)) _)=_;rw[zam,zdA,zac,hw,zac];dsimp only;have hp:zAy [102] []=false:=rfl;rw[hp,zaf,zgX (by decide),zac,zpD,zac];rfl
 ·rfl
 ·show zaa (some s) _=_;rw[zac];obtain⟨n,hn⟩:=hf;have hL:zbX (1,(vs,0,false),[{k:=[102],v:=123:: t:Pair}],[],s)=some ((vs,m,false),[{k:=[102],v:=123:: t:Pair}],[],d,[]):=zfA (fun n=>(zoi n).2.2) hn;dsimp only;rw[hL,zac];dsimp only;rw[zaf,bne_self_eq_false,zaf,zkG (hA 5),hd,zac,zac];rfl
def zg6(a:Sel)(l:List Sel):List UInt8:=bif l.isEmpty then(123:: (zc3 a++zdk a))++[123,64,102,125,125]else(123:: (zc3 a++zdk a))++[123,64,102,125,44]++(za1 (l.map (zcT 4))++[125])
theorem zok{n:Nat}{d:Int×(List Int×Int×Bool)×List Pair×List (List UInt8)×List UInt8}{r:(List Int×Int×Bool)×List Pair×List UInt8×List Sel×List (List UInt8)}(h:zad n d=some r):zad (n+1) d=some r:=(zoi n).2.2 d r h
theorem zuq{a:Sel}{l:List Sel}{vs:List Int}(h:zff (a:: l)=true)(hA:zjJ (a:: l))(hk:a.kids≠[])(hlen:(zg6 a l).length<=400)(hkl:(zcW 4 a.kids).length<=400):
 ∃m,zad 12 (1,(vs,0,false),[{k:=[102],v:=zcW 4 a.kids:Pair}],[],zg6 a l)=some ((vs,m,false),[{k:=[102],v:=zcW 4 a.kids:Pair}],[],a:: l,[]):=by
 obtain⟨_,h1,h2,h3⟩:=zbs.1 h;obtain⟨g1,g2,g3⟩:=zaU.1 h1;have hz:za0 5 l+1+za0 4 a.kids=za0 5 (a:: l):=(zni h1).2;have hzl:za0 5 l=l.length+(l.map fun s=>za0 4 s.kids).sum:=rfl;let ts:List zxR:=(a,zc3 a++(zdk a++[123,64,102,125]),1+za0 4 a.kids):: l.map fun s=>(s,zcT 4 s,za0 4 s.kids)
 have e1:ts.map (·.2.1)=(zc3 a++(zdk a++[123,64,102,125])):: l.map (zcT 4):=by simp only[ts,List.map_cons,List.map_map];rfl
 have e2:ts.map (·.2.2)=(1+za0 4 a.kids):: l.map fun s=>za0 4 s.kids:=by simp only[ts,List.map_cons,List.map_map];rfl
 have e3:ts.map (·.1)=a:: l:=by simp[ts,Function.comp_def]
 have e4:ts.length=l.length+1:=by simp[ts]
 have hS:zg6 a l=123:: (za1 (ts.map (·.2.1))++125:: []):=by
  rw[e1];unfold zg6;cases l with
  |nil=>simp[za1]
  |cons b l=>rw[ziP _ (by simp)];simp
 have hso:∀s∈a:: l,SOk s:=fun s hs=>zcP (List.all_eq_true.1 g2 s hs);have:=zoj (n:=11) (lv:=1) (m:=0) (vs:=vs) (P:=[{k:=[102],v:=zcW 4 a.kids:Pair}]) (U:=[]) (ts:=ts) (r:=[]) (by simp[ts]) (by omega) (by omega) (by rw[e2,e4,List.sum_cons];omega) (by rw[hS]at hlen;simp only[yhs]at hlen;omega) ?_
 ·rw[hS,this,e3];exact⟨_,rfl⟩
 ·intro x hx;rcases List.mem_cons.1 hx with rfl|hx
  ·have ha:=hso a (by simp);obtain⟨c,t,hc,hw⟩:=zoP ha;refine⟨⟨c,_,by dsimp only;rw[hc];rfl,hw⟩,fun m0 r' hm0 hm1 hr' hl'=>?_⟩;dsimp only at hl' hm1|-;have e:zc3 a++(zdk a++[123,64,102,125])++r'=zc3 a++(zdk a++([123,64,102,125]++r')):=by simp
   rw[e]at hl'|-;have hl2:([123,64,102,125]++r').length<=90000:=by simp only[yhr]at hl'|-;omega
   refine zmN ha (by omega) hr' (by omega) (.inr ⟨⟨_,rfl⟩,?_⟩);have hkz:za0 4 a.kids<=24:=by omega
   refine zBt (n:=8) (nm:=[102]) (by omega) hm0 (by omega) (zcV zpD) rfl (by simp at hl2|-;omega) (hA.get (by simp)).2.2.len ?_;have:=ziJ (vs:=vs) (P:=[{k:=[102],v:=zcW 4 a.kids:Pair}]) (U:=[[102]]) 4 a.kids (1+1) (m0+1) [] (g3 a (by simp)) hkz hk (by omega) (by omega) (by omega) (by omega) (by simp;omega);rw[List.append_nil]at this;have e5:m0+((1+za0 4 a.kids:Nat):Int)=m0+1+(za0 4 a.kids:Int):=by omega
   rw[e5];exact this
  ·obtain⟨s,hs,rfl⟩:=List.mem_map.1 hx;have hss:=hso s (List.mem_cons_of_mem _ hs);refine⟨zqZ hss,fun m0 r' hm0 hm1 hr' hl'=>?_⟩;dsimp only at hl' hm1|-;have hsz:=zi1 (k:=4) hs;have hsz:za0 4 s.kids+1<=za0 5 l:=hsz;rw[ztw]at hl'|-;have hkl:((bif decide (0<s.kids.length)then zcW 4 s.kids else[])++r').length<=90000:=by simp only[yhr]at hl'|-;omega
   refine zmN hss (by omega) hr' (by omega) ?_;by_cases hk:0<s.kids.length
   ·rw[decide_eq_true hk]at hkl|-;simp only[cond_true]at hkl|-;have hkn:s.kids≠[]:=List.length_pos_iff.1 hk;exact .inr ⟨⟨_,zaP 3 _⟩,zok (zok (ziJ 4 s.kids (1+1) m0 r' (g3 s (List.mem_cons_of_mem _ hs)) (by omega) hkn (by omega) (by omega) hm0 (by omega) hkl))⟩
   ·left;have hkn:s.kids=[]:=by
     cases hq:s.kids with
     |nil=>rfl
     |cons a b=>rw[hq]at hk;simp at hk
    rw[decide_eq_false hk,hkn,zjU];exact⟨rfl,rfl,by omega⟩
theorem zwo{a:Sel}{l:List Sel}(h:zff (a:: l)=true):∀c∈zg6 a l,c≠59:=by
 obtain⟨_,h1,h2,h3⟩:=zbs.1 h;obtain⟨g1,g2,g3⟩:=zaU.1 h1;have ha:=zcP (List.all_eq_true.1 g2 a (by simp));intro c hc;have hpre:∀x∈123:: (zc3 a++zdk a),x≠59:=fun x hx=>by
  rcases List.mem_cons.1 hx with rfl|hx
  ·decide
  ·rcases List.mem_append.1 hx with hx|hx
   ·exact zur ha x hx
   ·exact zum ha x hx
 unfold zg6 at hc;cases l with
 |nil=>
  rcases List.mem_append.1 hc with hc|hc
  ·exact hpre c hc
  ·simp at hc;rcases hc with rfl|rfl|rfl|rfl<;>decide
 |cons b l=>
  rcases List.mem_append.1 hc with hc|hc
  ·rcases List.mem_append.1 hc with hc|hc
   ·exact hpre c hc
   ·simp at hc;rcases hc with rfl|rfl|rfl|rfl|rfl<;>decide
  ·have:=zu2 5 (b:: l) (zni h1).1 c;rw[zaP]at this;exact this (List.mem_cons_of_mem _ hc)
theorem zwQ(x:List UInt8):List.take (Int.toNat ((↑(List.length (123:: (x++[125]))):Int)-1)-Int.toNat 0) (List.drop (Int.toNat 0) (123:: (x++[125])))=123:: x:=by
 have:Int.toNat ((↑(List.length (123:: (x++[125]))):Int)-1)-Int.toNat 0=(123:: x).length:=by simp only[yhs,yhr,yht,Int.toNat_zero];omega
 rw[this,Int.toNat_zero,List.drop_zero];have e:123:: (x++[125])=(123:: x)++[125]:=by simp
 rw[e,List.take_left'];rfl
theorem zuY(x:List UInt8):List.take (Int.toNat (↑(List.length (123:: x)):Int)-Int.toNat 1) (List.drop (Int.toNat 1) (123:: x))=x:=by show List.take _ x=x;rw[List.take_of_length_le];simp
theorem zr6{d:List Int}(hb:∀x∈d,0<=x/\x<=255):wp (zc0 d) fun r=>r=true:=by
 rw[zds];unfold zbV;rw[ywc];refine⟨fun _=>⟨true,rfl,rfl⟩,fun _=>?_⟩;rw[ywb];refine zrH hb fun x hA=>?_;rw[zkG (hA 5),zuS (hA 5),zac,zac,bne_self_eq_false,zaf,zac];cases hok:zff x with
 |false=>exact⟨true,rfl,rfl⟩
 |true=>
  rw[Bool.not_true,zaf];obtain⟨hne,h1,h2,h3⟩:=zbs.1 hok;cases x with
  |nil=>exact absurd rfl hne
  |cons a l=>
   have e0:(a:: l)[Int.toNat 0]? =some a:=rfl;rw[e0,zac,zac];cases hkk:a.kids with
   |nil=>exact⟨true,rfl,rfl⟩
   |cons b bs=>
    rw[<-hkk];have hkn:a.kids≠[]:=by rw[hkk];simp
    have hkz:((↑(List.length a.kids):Int)==0)=false:=by rw[hkk];simp;omega
    rw[hkz,zaf,zac,zac,zac,zac];obtain⟨g1,g2,g3⟩:=zaU.1 h1;have hsa:zfl a=true:=List.all_eq_true.1 g2 a (by simp);have ha:=zcP hsa;have hAa:=hA.get (s:=a) (by simp);have hA1:zjJ [Sel.mk a.as a.name a.one a.id []]:=.mk (by simp) fun s hs=>by rw[List.mem_singleton]at hs;subst hs;exact⟨hAa.1,hAa.2.1,.nil⟩
    have hAl:zjJ l:=.mk (by have:=hA.len;simp at this;omega) fun s hs=>hA.get (List.mem_cons_of_mem _ hs);have hpl:=zeZ ha;have hol:=zeY ha;obtain⟨k1,k2⟩:=zyW hok hkn;obtain⟨_,_,_,k3⟩:=zbs.1 k1;have k4:zcW 5 a.kids=zcW 4 a.kids:=(zoR (g3 a (by simp))).2.2 hkn;rw[k4]at k3;rw[zfy (hA1 5),zyV hsa,zac,zac,zfy (hAa.2.2 5),k2,zac,zwQ];rw[zaN (zaX (by simp only[yhs,yhr,yht];omega) (by simp only[yhs,yhr,yht];omega))];rw[zaN (by simp only[yhs,yhr,yht,yhb,yhc];omega)];rw[zaN (by have hB:BIG=9223372036854775807:=rfl;simp only[yhs,yhr,yht,yhc];omega)];have hS:∀{γ:Type}(K:List UInt8->Option γ),(zaa
     (zab (decide ((↑(List.length (a:: l)):Int)>1))
      (gd (decide ((0:Int)<=1)&&decide (1<=(↑(List.length (a:: l)):Int))&&decide ((↑(List.length (a:: l)):Int)<=(↑(List.length (a:: l)):Int)))
       (zaa (zbB (List.take (Int.toNat (↑(List.length (a:: l)):Int)-Int.toNat 1) (List.drop (Int.toNat 1) (a:: l)))) fun(x:List UInt8)=>
        gd (zaH ((↑(List.length (123:: (zc3 a++zdk a++[125]))):Int)-1))
         (gd (decide ((0:Int)<=0)&&decide (0<=(↑(List.length (123:: (zc3 a++zdk a++[125]))):Int)-1)&&decide ((↑(List.length (123:: (zc3 a++zdk a++[125]))):Int)-1<=(↑(List.length (123:: (zc3 a++zdk a++[125]))):Int)))
          (gd (decide (List.length (123:: (zc3 a++zdk a))+List.length [(123:UInt8),64,102,125,44]<=BIG))
           (gd (decide ((0:Int)<=1)&&decide (1<=(↑(List.length x):Int))&&decide ((↑(List.length x):Int)<=(↑(List.length x):Int)))
            (gd (decide (List.length ((123:: (zc3 a++zdk a))++[123,64,102,125,44])+List.length (List.take (Int.toNat (↑(List.length x):Int)-Int.toNat 1) (List.drop (Int.toNat 1) x))<=BIG))
             (some ((123:: (zc3 a++zdk a))++[123,64,102,125,44]++List.take (Int.toNat (↑(List.length x):Int)-Int.toNat 1) (List.drop (Int.toNat 1) x)))))))))
      (some ((123:: (zc3 a++zdk a))++[123,64,102,125,125]))) K)=K (zg6 a l):=by
     intro γ K;cases hl:l with
     |nil=>rfl
     |cons b' l'=>
      rw[<-hl];have hln:l≠[]:=by rw[hl];simp
      have hlp:=List.length_pos_iff.2 hln;have hle:l.isEmpty=false:=by rw[hl];rfl
      obtain⟨r1,r2⟩:=zul hok hln;obtain⟨_,_,_,r3⟩:=zbs.1 r1;have r4:zcW 5 l=123:: (za1 (l.map (zcT 4))++[125]):=zaP 4 l;rw[r4]at r3;have et:List.take (Int.toNat (↑(List.length (a:: l)):Int)-Int.toNat 1) (List.drop (Int.toNat 1) (a:: l))=l:=by show List.take _ l=l;rw[List.take_of_length_le];simp
      rw[decide_eq_true (by simp;omega),zam,zaN (by simp;omega),et,zfy (hAl 5),r2,zac,zuY];have hB:BIG=9223372036854775807:=rfl;simp only[yhs,yhr,yht]at r3;rw[zaN (zaX (by simp only[yhs,yhr,yht];omega) (by simp only[yhs,yhr,yht];omega))];rw[zaN (by simp only[yhs,yhr,yht,yhb,yhc];omega)];rw[zaN (by simp only[yhs,yhr,yht,yhc];omega)];rw[zaN (by simp only[yhs,yhr,yht,yhb,yhc];omega)];rw[zaN (by simp only[yhs,yhr,yht,yhc];omega)];rw[zac];unfold zg6;rw[hle];rfl
    refine(congrArg (fun z=>wp z (fun r=>r=true)) (hS _)).mpr ?_;have hPl:(zg6 a l).length<=1000:=by
     unfold zg6;cases hl:l with
     |nil=>simp;omega
     |cons b' l'=>
      rw[<-hl];have hln:l≠[]:=by rw[hl];simp
      obtain⟨r1,_⟩:=zul hok hln;obtain⟨_,_,_,r3⟩:=zbs.1 r1;have r4:zcW 5 l=123:: (za1 (l.map (zcT 4))++[125]):=zaP 4 l;rw[r4]at r3;cases l.isEmpty<;>simp at r3|-<;>omega
    have hB:BIG=9223372036854775807:=rfl;have eT:zg6 a l++[59,102]++zcW 4 a.kids=zg6 a l++59:: 102:: zcW 4 a.kids:=by simp
    have hTl:(zg6 a l++59:: 102:: zcW 4 a.kids).length=(zg6 a l).length+2+(zcW 4 a.kids).length:=by simp;omega
    rw[zaN (by simp only[yhs,yht,yhc];omega),zaN (by simp only[yhr,yhs,yht,yhc];omega),eT];by_cases hlong:400<(zg6 a l++59:: 102:: zcW 4 a.kids).length
    ·rw[zyD (by omega) hlong,zac,zaN (zaX (by omega) (by omega)),zaN (zaX (by omega) (by omega)),decide_eq_true (by omega)];exact⟨true,rfl,rfl⟩
    ·obtain⟨m,hm⟩:=zuq (vs:=[]) hok hA hkn (by omega) (by omega);rw[zoh (m:=m) (zwo hok) (zu2 4 a.kids (g3 a (by simp))) ⟨_,zaP 3 _⟩ (by omega) hok hA ⟨12,hm⟩,zac,zaN (zaX (by omega) (by omega)),zaN (zaX (by omega) (by omega)),decide_eq_false (by omega),zaf,zam,zA4 h1 hA];exact⟨true,rfl,rfl⟩
end Go.Fw
