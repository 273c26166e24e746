/- A part of the proof: what stands for the program, its functions, and what they come to. -/
import Derived.Test.YtokndaldhjmdeaaGreatM6
import Derived.KernelRfl
set_option linter.all false
namespace Go.Fw
open Go
set_option linter.unusedSimpArgs false
set_option linter.unusedVariables false
theorem zpg{α Z γ:Type}(f:Nat->α->Option Z)(h:Z->γ)(xs:List α)(i:Nat):fsI (fun i x=>(f i x).map h) i xs=(fsI f i xs).map h:=by
 induction xs generalizing i with
 |nil=>rfl
 |cons x xs ih=>
  simp only[fsI];cases f i x with
  |some r=>rfl
  |none=>exact ih (i+1)
theorem ziX{α Z:Type}{f:Nat->α->Option Z}{xs:List α}{i:Nat}:fsI f i xs=none↔∀(j:Nat)(hj:j<xs.length),f (i+j) xs[j]=none:=by
 refine⟨zfu,fun h=>?_⟩;induction xs generalizing i with
 |nil=>rfl
 |cons x xs ih=>have h0:=h 0 (by simp);simp only[Nat.add_zero,List.getElem_cons_zero]at h0;simp only[fsI,h0];refine ih fun j hj=>?_;have:=h (j+1) (by simpa using hj);rw[Nat.add_assoc,Nat.add_comm 1 j];exact this
theorem zgw{α Z:Type}{f:Nat->α->Option Z}{xs:List α}{i:Nat}{r:Z}(h:fsI f i xs=some r):∃(j:Nat)(hj:j<xs.length),f (i+j) xs[j]=some r:=by
 induction xs generalizing i with
 |nil=>cases h
 |cons x xs ih=>
  simp only[fsI]at h;cases hx:f i x with
  |some r'=>rw[hx]at h;cases h;exact⟨0,by simp,hx⟩
  |none=>rw[hx]at h;obtain⟨j,hj,e⟩:=ih h;exact⟨j+1,by simpa using hj,by rw[show i+(j+1)=i+1+j by omega];exact e⟩
def zvV(f g:Field):Bool:=f.of==g.of&&(f.list==g.list&&f.must==g.must)
theorem zBa(f g:Field):zlw (f,g)=some (zvV f g):=by rw[znf];unfold zlb;dsimp only;unfold zvV;cases(f.of==g.of)<;>cases(f.list==g.list)<;>rfl
def zya(ps:List Part)(n:List UInt8)(f:Field):Bool:=(zaq ps n f.name).any fun g=>!zvV f g
def zAI(ps:List Part)(t:Typ):List UInt8:=(t.fields.findSome? fun f=>bif zya ps t.name f then some f.name else none).getD []
theorem zyb(g f:Field):zeB (g,f)=some (!zvV f g):=by rw[ziH];unfold zgh;dsimp only;unfold zvV;rw[BEq.comm (a:=f.of),BEq.comm (a:=f.list),BEq.comm (a:=f.must)];simp only[bne];cases(g.of==f.of)<;>cases(g.list==f.list)<;>cases(g.must==f.must)<;>rfl
theorem zAJ{ps:List Part}{t:Typ}(hp:KL KK ps)(ht:KT KK t):zjC (ps,t)=some (zAI ps t):=by
 rw[zlo];unfold zjw;dsimp only;unfold zAI;rw[zcj (s0:=(0:Int)) t.fields (fun i=>(i:Int)) (t.fields.length:Int) (fun _ f=>bif zya ps t.name f then some f.name else none) rfl ?_ ?_]
 ·rw[zon];cases t.fields.findSome? _<;>rfl
 ·intro i hi;have h3:=zam hi (up ht.2.2.1);have l1:=zhf ps t.name t.fields[i].name;have k:zfo (zaq ps t.name t.fields[i].name,t.fields[i])=some (zya ps t.name t.fields[i]):=by
   rw[zif];unfold zff;dsimp only;have h2:zfr (zaq ps t.name t.fields[i].name,t.fields[i])=some (ixM (fun g=>!zvV t.fields[i] g) (zaq ps t.name t.fields[i].name)):=by rw[zii];unfold zfi;dsimp only;exact ixf (g:=fun g=>zeB (g,t.fields[i])) _ (up (Nat.le_trans l1 hp.1)) (fun g _=>zyb g _)
   rw[h2,zac,zkm];rfl
  simp only[zaD hi,zax,zai hi,zaf,zag,zac,h3,zlQ hp,k];cases zya ps t.name t.fields[i]<;>rfl
 ·simp only[zan,zae]
def needy(g:Field):Bool:=decide (0<g.needs.length)
theorem ztJ(ps:List Part)(n f:List UInt8):decide (0<(zcD ps n f).length)=(zaq ps n f).any needy:=by
 unfold zcD;induction zaq ps n f with
 |nil=>rfl
 |cons g gs ih=>
  rw[List.findSome?_cons,List.any_cons];unfold needy at ih|-;cases hg:decide (0<g.needs.length)with
  |true=>simpa using hg
  |false=>simpa using ih
def zjZ(ps:List Part)(n f:List UInt8):Int:=
 bif !decide (0<(zbG n f 0 ps).length)then 6 else
 bif decide (1<(zbG n f 0 ps).length)&&(f !=zpo ps n&&decide ((zaq ps n f).countP (·.shared)<(zbG n f 0 ps).length))then 5 else
 bif (decide (1<(zbG n f 0 ps).length)&&(zaq ps n f).any needy) ||(zcD ps n f).any (fun x=>(zaq ps n x).any needy)then 7 else 0
theorem zyC(n:Nat):decide ((n:Int)>1)=decide (1<n):=zqF n 1
theorem zCH(n m:Nat):decide ((n:Int)<(m:Int))=decide (n<m):=by
 by_cases h:n<m
 ·simp[h]
 ·simp[h]
theorem zBg{ps:List Part}{n f:List UInt8}(hp:KL KK ps):zfk (ps,n,f)=some (zjZ ps n f):=by
 rw[zic];unfold zfc;dsimp only;have hk:KK=1048576:=rfl;rw[zqV hp,zac,zlQ hp,zac];have l1:=zhf ps n f;have l2:=hp.1;rw[zdk (s0:=((0:Int),(0:Int))) (zaq ps n f).length (fun i=>((((zaq ps n f).take i).countP (·.shared):Int),(i:Int))) (((zaq ps n f).countP (·.shared):Int),((zaq ps n f).length:Int)) (by simp) ?_ ?_]
 ·rw[zmM hp,zac,zD6,zyC,zkC hp];dsimp only;rw[zCH,zl1,ztJ];have k:zbK (zcD ps n f,ps,n)=some ((zcD ps n f).any (fun x=>(zaq ps n x).any needy)):=by
   rw[zfQ];unfold zcU;dsimp only;have hnl:(zcD ps n f).length<=KK:=by
    unfold zcD;cases hf:(zaq ps n f).findSome? fun g=>bif decide (0<g.needs.length)then some g.needs else none with
    |none=>simp
    |some l=>
     obtain⟨g,hg,he⟩:=List.exists_of_findSome?_eq_some hf;cases hz:decide (0<g.needs.length)with
     |false=>rw[hz]at he;cases he
     |true=>rw[hz]at he;cases he;unfold zaq at hg;obtain⟨p,hpm,hgp⟩:=List.mem_filterMap.1 hg;obtain⟨t,ht,_,_,hgt,_⟩:=zjL hgp;exact(((hp.2 p hpm).2.2 t ht).2.2.2 g hgt).2.2.1
   have h2:zc4 (zcD ps n f,ps,n)=some (ixM (fun x=>(zaq ps n x).any needy) (zcD ps n f)):=by rw[zfS];unfold zcW;dsimp only;refine ixf (g:=fun x=>zdA (x,ps,n)) _ (up hnl) (fun x _=>?_);rw[zgp];unfold zdw;dsimp only;rw[zmM hp,zac,zl1,ztJ]
   rw[h2,zac,zkm]
  rw[k];unfold zjZ;simp only[bne,zac];cases decide (0<(zbG n f 0 ps).length)<;>cases decide (1<(zbG n f 0 ps).length)<;>cases(f==zpo ps n)<;>cases decide ((zaq ps n f).countP (·.shared)<(zbG n f 0 ps).length)<;>cases(zaq ps n f).any needy<;>cases(zcD ps n f).any (fun x=>(zaq ps n x).any needy)<;>rfl
 ·intro i hi;have h3:=zam hi (up (Nat.le_trans l1 hp.1));have hc:=List.countP_le_length (p:=fun g:Field=>g.shared) (l:=(zaq ps n f).take i);have hc2:((zaq ps n f).take i).length<=i:=by rw[List.length_take];exact Nat.min_le_left _ _
  have h4:zay ((((zaq ps n f).take i).countP (·.shared):Int)+1)=true:=zd2 (by omega) (by omega);simp only[zaD hi,zax,zai hi,zaf,zag,zac,h3,h4];rw[List.take_succ_eq_append_getElem hi,List.countP_append,List.countP_singleton];cases(zaq ps n f)[i].shared<;>simp[zab,zac]
 ·simp only[zan,zae,List.take_length]
def zs7(ps:List Part)(n x:List UInt8):Bool:=(zaq ps n x).any needy
theorem zBn(ps:List Part)(n x:List UInt8):zs7 ps n x=ps.any fun p=>match zeK p n x with
|some g=>needy g
|none=>false:=by
 unfold zs7 zaq;induction ps with
 |nil=>rfl
 |cons p ps ih=>
  rw[List.filterMap_cons,List.any_cons];cases zeK p n x with
  |none=>simpa using ih
  |some g=>simp only[List.any_cons,ih]
theorem zE0(ps:List Part)(n:List UInt8)(f:Field):zya ps n f=ps.any fun p=>match zeK p n f.name with
|some g=>!zvV f g
|none=>false:=by
 unfold zya zaq;induction ps with
 |nil=>rfl
 |cons p ps ih=>
  rw[List.filterMap_cons,List.any_cons];cases zeK p n f.name with
  |none=>simpa using ih
  |some g=>simp only[List.any_cons,ih]
def znI(ps:List Part)(n:List UInt8)(f:Field):Int:=
 bif zya ps n f then 3 else
 bif !decide (0<(zbG n f.name 0 ps).length)then 6 else
 bif decide (1<(zbG n f.name 0 ps).length)&&(f.name !=zpo ps n&&decide ((zaq ps n f.name).countP (·.shared)<(zbG n f.name 0 ps).length))then 5 else
 bif decide (1<(zbG n f.name 0 ps).length)&&(zaq ps n f.name).any needy then 7 else
 bif f.needs.any (zs7 ps n)then 7 else 0
theorem zxb{α:Type}(q:α->Bool)(l:List α):decide (0<l.countP q)=l.any q:=by rw[Bool.eq_iff_iff,List.any_eq_true,yhc,List.countP_pos_iff]
theorem zoF{α:Type}(q:α->Bool)(xs:List α):xs.any q= !xs.all fun x=>!q x:=by rw[List.not_all_eq_any_not];simp
theorem zBi{ps:List Part}{i:Int}{n:List UInt8}{f:Field}(hp:KL KK ps)(hf:KF KK f):zly (ps,i,n,f)=some (znI ps n f):=by
 rw[znh];unfold zld;dsimp only;have hk:KK=1048576:=rfl;have l2:=hp.1;rw[zmW hp,zac];rw[zcj (s0:=((0:Int),(0:Int),(0:Int))) ps (fun i=>(((zaq (ps.take i) n f.name).countP (·.shared):Int),((zaq (ps.take i) n f.name).countP needy:Int),(i:Int))) (((zaq ps n f.name).countP (·.shared):Int),((zaq ps n f.name).countP needy:Int),(ps.length:Int))
  (fun _ p=>bif !(match zeK p n f.name with
   |some g=>!zvV f g
   |none=>false)then none else some 3) rfl ?_ ?_]
 ·rw[zce,zeq];unfold znI;rw[zE0,zoF];cases ps.all _ with
  |false=>rfl
  |true=>
   simp only[cond_true,zav,Bool.not_true,cond_false,zD6,zyC,zkS hp,zac,zCH];have e1:decide (((zaq ps n f.name).countP needy:Int)>0)=(zaq ps n f.name).any needy:=by rw[<-zxb];exact zqF _ 0
   rw[e1];have k1:(zab (decide (1<(zbG n f.name 0 ps).length)) (zab (f.name !=zpo ps n) (some (decide ((zaq ps n f.name).countP (·.shared)<(zbG n f.name 0 ps).length))) (some false)) (some false))
    =some (decide (1<(zbG n f.name 0 ps).length)&&(f.name !=zpo ps n&&decide ((zaq ps n f.name).countP (·.shared)<(zbG n f.name 0 ps).length))):=by
    cases decide (1<(zbG n f.name 0 ps).length)<;>cases(f.name !=zpo ps n)<;>rfl
   have k2:(zab ((zaq ps n f.name).any needy) (some (decide (1<(zbG n f.name 0 ps).length))) (some false))=some (decide (1<(zbG n f.name 0 ps).length)&&(zaq ps n f.name).any needy):=by cases decide (1<(zbG n f.name 0 ps).length)<;>cases(zaq ps n f.name).any needy<;>rfl
   rw[k1,zac,k2,zac];rw[zcj (s0:=(0:Int)) f.needs (fun i=>(i:Int)) (f.needs.length:Int) (fun _ x=>bif !zs7 ps n x then none else some 7) rfl ?_ ?_]
   ·rw[zce,zeq];have:f.needs.any (zs7 ps n)= !f.needs.all fun x=>!zs7 ps n x:=zoF _ _;rw[this];cases decide (0<(zbG n f.name 0 ps).length)<;>cases(decide (1<(zbG n f.name 0 ps).length)&&(f.name !=zpo ps n&&decide ((zaq ps n f.name).countP (·.shared)<(zbG n f.name 0 ps).length)))<;>cases(decide (1<(zbG n f.name 0 ps).length)&&(zaq ps n f.name).any needy)<;>cases(f.needs.all fun x=>!zs7 ps n x)<;>rfl
   ·intro j hj;have h3:=zam hj (up hf.2.2.1);simp only[zaD hj,zaf];rw[zcj (s0:=(0:Int)) ps (fun i=>(i:Int)) (ps.length:Int) (fun _ p=>bif !(match zeK p n f.needs[j]with
     |some g=>needy g
     |none=>false)then none else some (Sum.inr (Sum.inr 7))) rfl ?_ ?_]
    ·rw[zce,zeq,zBn,zoF,h3];cases ps.all _<;>rfl
    ·intro k hk;have h4:=zam hk (up hp.1);simp only[zaD hk,zax,zai hk,zai hj,zaf,zag,zac,h4,zd9 (hp.2 _ (ygh hk)),zl1];cases zeK ps[k] n f.needs[j]with
     |none=>rfl
     |some g=>unfold needy;simp only[Option.isSome_some,Option.getD_some];cases decide (0<g.needs.length)<;>rfl
    ·simp only[zan,zae]
   ·simp only[zan,zae]
 ·intro j hj;have h3:=zam hj (up hp.1);have hc:=List.countP_le_length (p:=fun g:Field=>g.shared) (l:=zaq (ps.take j) n f.name);have hd:=List.countP_le_length (p:=needy) (l:=zaq (ps.take j) n f.name);have hl:=zhf (ps.take j) n f.name;have hl2:(ps.take j).length<=j:=by rw[List.length_take];exact Nat.min_le_left _ _
  have h4:zay (((zaq (ps.take j) n f.name).countP (·.shared):Int)+1)=true:=zd2 (by omega) (by omega);have h5:zay (((zaq (ps.take j) n f.name).countP needy:Int)+1)=true:=zd2 (by omega) (by omega);simp only[zaD hj,zax,zai hj,zaf,zag,zac,h3,h4,h5,zd9 (hp.2 _ (ygh hj)),zBa,zl1];rw[zqR hj];cases hg:zeK ps[j] n f.name with
  |none=>simp[zab,zac,cond]
  |some g=>simp only[Option.isSome_some,Option.getD_some,List.countP_append,List.countP_singleton,zaf,zac];unfold needy;cases zvV f g<;>cases g.shared<;>cases decide (0<g.needs.length)<;>simp[zab,zac,cond]
 ·simp only[zan,zae,List.take_length]
end Go.Fw
namespace Go.Fw
open Go
set_option linter.unusedSimpArgs false
set_option linter.unusedVariables false
abbrev SJw:=Int×Int×List UInt8×List UInt8×Int
abbrev mkW(i:Nat):SJw:=((i:Int),0,[],[],0)
def p1F(ps:List Part)(i:Nat)(p:Part):Option CFault:=bif !okP p then some ⟨(i:Int)+1,[],[],1⟩else bif (ps.take i).any (fun q=>q.name==p.name)then some ⟨(i:Int)+1,[],[],2⟩else none
def zvW(ps:List Part)(t:Typ):Bool:=t.key !=[]&&t.key !=zpo ps t.name
def s2F(ps:List Part)(i:Nat)(n:List UInt8)(f:Field):Option CFault:=bif znI ps n f !=0 then some ⟨(i:Int)+1,n,f.name,znI ps n f⟩else none
def s2T(ps:List Part)(i:Nat)(t:Typ):Option CFault:=bif zvW ps t then some ⟨(i:Int)+1,t.name,[],4⟩else fsI (fun _ f=>s2F ps i t.name f) 0 t.fields
def s2P(ps:List Part)(i:Nat)(p:Part):Option CFault:=fsI (fun _ t=>s2T ps i t) 0 p.types
def v6S(ps:List Part):CFault:=bif !(decide (0<ps.length)&&decide (ps.length<=4))then⟨0,[],[],8⟩else
 match fsI (p1F ps) 0 ps with
 |some r=>r
 |none=>match fsI (s2P ps) 0 ps with
  |some r=>r
  |none=>⟨0,[],[],0⟩
theorem zDn(n:Nat):decide ((n:Int)>4)= !decide (n<=4):=by
 by_cases h:n<=4
 ·simp[h];omega
 ·simp[h];omega
theorem zyx(ps:List Part)(t:Typ):(zab (t.key !=[]) (some (t.key !=zpo ps t.name)) (some false))=some (zvW ps t):=by unfold zvW;cases(t.key !=[])<;>rfl
theorem zy5{ps:List Part}(hp:KL KK ps):zlx ps=some (v6S ps):=by
 rw[zng];unfold zlc;unfold v6S;have k1:(zab ((↑(List.length ps):Int)==0) (some true) (some (decide ((↑(List.length ps):Int)>4))))=some (!(decide (0<ps.length)&&decide (ps.length<=4))):=by rw[zD6,zDn];cases decide (0<ps.length)<;>rfl
 rw[k1,zac];cases(decide (0<ps.length)&&decide (ps.length<=4))with
 |false=>rfl
 |true=>
  simp only[Bool.not_true,zae,cond_false];rw[zcj (s0:=((0:Int),(0:Int),([]:List UInt8),([]:List UInt8),(0:Int))) ps mkW (mkW ps.length) (p1F ps) rfl ?_ ?_]
  ·cases fsI (p1F ps) 0 ps with
   |some r=>rfl
   |none=>
    simp only[zav];rw[zcj (s0:=((0:Int),(0:Int),([]:List UInt8),([]:List UInt8),(0:Int))) ps mkW (mkW ps.length) (s2P ps) rfl ?_ ?_]
    ·cases fsI (s2P ps) 0 ps<;>rfl
    ·intro i hi;have h3:=zam hi (up hp.1);have hq:=hp.2 _ (ygh hi);simp only[zaD hi,zaf];rw[zcj (s0:=((0:Int),(0:Int),([]:List UInt8),([]:List UInt8),(0:Int))) ps[i].types mkW (mkW ps[i].types.length) (fun _ t=>(s2T ps i t).map (fun r=>Sum.inr (Sum.inr r))) rfl ?_ ?_]
     ·rw[zpg];unfold s2P;cases fsI (fun _ t=>s2T ps i t) 0 ps[i].types with
      |some r=>rfl
      |none=>simp only[Option.map_none,zav,h3,zag];rfl
     ·intro j hj;have h4:=zam hj (up hq.2.1);have ht:=hq.2.2 _ (ygh hj);simp only[zax,zai hi,zaD hj,zai hj,zaf,zag,zac,h3,h4,zkS hp];rw[zyx,zac];unfold s2T;cases zvW ps ps[i].types[j]with
      |true=>rfl
      |false=>
       simp only[zae,cond_false];rw[zcj (s0:=((0:Int),(0:Int),([]:List UInt8),([]:List UInt8),(0:Int))) ps[i].types[j].fields mkW (mkW ps[i].types[j].fields.length) (fun _ f=>(s2F ps i ps[i].types[j].name f).map (fun r=>Sum.inr (Sum.inr (Sum.inr (Sum.inr r))))) rfl ?_ ?_]
       ·rw[zpg];cases fsI (fun _ f=>s2F ps i ps[i].types[j].name f) 0 ps[i].types[j].fields<;>rfl
       ·intro k hk;have h5:=zam hk (up ht.2.2.1);simp only[zax,zaD hk,zai hk,zaf,zag,zac,h5,zBi hp (ht.2.2.2 _ (ygh hk))];unfold s2F;cases(znI ps ps[i].types[j].name ps[i].types[j].fields[k] !=0)<;>rfl
       ·simp only[zan,zae]
     ·simp only[zax,zai hi,zan,zae,zag,zac]
    ·simp only[zan,zae]
  ·intro i hi;have h3:=zam hi (up hp.1);have hq:=hp.2 _ (ygh hi);simp only[zaD hi,zax,zai hi,zaf,zag,zac,h3,znD hq];unfold p1F;rw[show((pcM ps[i]).code !=0)= !okP ps[i]from rfl];cases okP ps[i]with
   |false=>rfl
   |true=>
    simp only[Bool.not_true,zae,cond_false];have hl:(ps.take i).length=i:=by rw[List.length_take];omega
    rw[zcj (s0:=((0:Int),(0:Int),([]:List UInt8),([]:List UInt8),(0:Int))) (ps.take i) mkW (mkW i) (fun _ q=>bif !(q.name==ps[i].name)then none else some (Sum.inr (Sum.inr ⟨(i:Int)+1,[],[],2⟩))) rfl ?_ ?_]
    ·rw[zce,zeq,zoF];cases(ps.take i).all fun q=>!(q.name==ps[i].name)<;>rfl
    ·intro j hj;have hj':j<i:=by omega
     have hjp:j<ps.length:=by omega
     have h4:=zam hjp (up hp.1);simp only[zaD hj',zax,zai hjp,zaf,zag,zac,h4,List.getElem_take];cases(ps[j].name==ps[i].name)<;>rfl
    ·rw[hl];simp only[zan,zae]
  ·simp only[zan,zae]
def i2T(ps:List Part)(i:Nat)(t:Typ):Option CFault:=bif zvW ps t then some ⟨(i:Int)+1,t.name,[],4⟩else bif zAI ps t !=[]then some ⟨(i:Int)+1,t.name,zAI ps t,3⟩else none
def i2P(ps:List Part)(i:Nat)(p:Part):Option CFault:=fsI (fun _ t=>i2T ps i t) 0 p.types
def i3F(ps:List Part)(i:Nat)(n:List UInt8)(f:Field):Option CFault:=bif decide (zjZ ps n f.name>0)then some ⟨(i:Int)+1,n,f.name,zjZ ps n f.name⟩else none
def i3T(ps:List Part)(i:Nat)(t:Typ):Option CFault:=fsI (fun _ f=>i3F ps i t.name f) 0 t.fields
def i3P(ps:List Part)(i:Nat)(p:Part):Option CFault:=fsI (fun _ t=>i3T ps i t) 0 p.types
def v6I(ps:List Part):CFault:=bif !(decide (0<ps.length)&&decide (ps.length<=4))then⟨0,[],[],8⟩else
 match fsI (p1F ps) 0 ps with
 |some r=>r
 |none=>match fsI (i2P ps) 0 ps with
  |some r=>r
  |none=>match fsI (i3P ps) 0 ps with
   |some r=>r
   |none=>⟨0,[],[],0⟩
theorem zGT(n:Nat):decide ((n:Int)<=4)=decide (n<=4):=by simp;omega
theorem zsb{ps:List Part}(hp:KL KK ps):zeo ps=some (v6I ps):=by
 rw[zg3];unfold zei;unfold v6I;rw[zlT,zac,zCG,zGT];cases(decide (0<ps.length)&&decide (ps.length<=4))with
 |false=>rfl
 |true=>
  simp only[Bool.not_true,zae,cond_false];rw[zcj (s0:=((0:Int),(0:Int),([]:List UInt8),([]:List UInt8),(0:Int))) ps mkW (mkW ps.length) (p1F ps) rfl ?_ ?_]
  ·cases fsI (p1F ps) 0 ps with
   |some r=>rfl
   |none=>
    simp only[zav];rw[zcj (s0:=((0:Int),(0:Int),([]:List UInt8),([]:List UInt8),(0:Int))) ps mkW (mkW ps.length) (i2P ps) rfl ?_ ?_]
    ·cases fsI (i2P ps) 0 ps with
     |some r=>rfl
     |none=>
      simp only[zav];rw[zcj (s0:=((0:Int),(0:Int),([]:List UInt8),([]:List UInt8),(0:Int))) ps mkW (mkW ps.length) (i3P ps) rfl ?_ ?_]
      ·cases fsI (i3P ps) 0 ps<;>rfl
      ·intro i hi;have h3:=zam hi (up hp.1);have hq:=hp.2 _ (ygh hi);simp only[zaD hi,zax,zai hi,zaf,zag,zac];rw[zcj (s0:=((0:Int),(0:Int),([]:List UInt8),([]:List UInt8),(0:Int))) ps[i].types mkW (mkW ps[i].types.length) (fun _ t=>(i3T ps i t).map (fun r=>Sum.inr (Sum.inr r))) rfl ?_ ?_]
       ·rw[zpg];unfold i3P;cases fsI (fun _ t=>i3T ps i t) 0 ps[i].types with
        |some r=>rfl
        |none=>simp only[Option.map_none,zav,h3,zag];rfl
       ·intro j hj;have h4:=zam hj (up hq.2.1);have ht:=hq.2.2 _ (ygh hj);simp only[zax,zaD hj,zai hj,zaf,zag,zac];rw[zcj (s0:=((0:Int),(0:Int),([]:List UInt8),([]:List UInt8),(0:Int))) ps[i].types[j].fields mkW (mkW ps[i].types[j].fields.length) (fun _ f=>(i3F ps i ps[i].types[j].name f).map (fun r=>Sum.inr (Sum.inr (Sum.inr (Sum.inr r))))) rfl ?_ ?_]
        ·rw[zpg,h4];unfold i3T;cases fsI (fun _ f=>i3F ps i ps[i].types[j].name f) 0 ps[i].types[j].fields<;>rfl
        ·intro k hk;have h5:=zam hk (up ht.2.2.1);simp only[zax,zaD hk,zai hk,zaf,zag,zac,h3,h5,zBg hp];unfold i3F;cases decide (zjZ ps ps[i].types[j].name ps[i].types[j].fields[k].name>0)<;>rfl
        ·simp only[zan,zae]
       ·simp only[zan,zae]
      ·simp only[zan,zae]
    ·intro i hi;have h3:=zam hi (up hp.1);have hq:=hp.2 _ (ygh hi);simp only[zaD hi,zax,zai hi,zaf,zag,zac];rw[zcj (s0:=((0:Int),(0:Int),([]:List UInt8),([]:List UInt8),(0:Int))) ps[i].types mkW (mkW ps[i].types.length) (fun _ t=>(i2T ps i t).map (fun r=>Sum.inr (Sum.inr r))) rfl ?_ ?_]
     ·rw[zpg];unfold i2P;cases fsI (fun _ t=>i2T ps i t) 0 ps[i].types with
      |some r=>rfl
      |none=>simp only[Option.map_none,zav,h3,zag];rfl
     ·intro j hj;have h4:=zam hj (up hq.2.1);have ht:=hq.2.2 _ (ygh hj);simp only[zax,zaD hj,zai hj,zaf,zag,zac,h3,h4,zkC hp,zAJ hp ht];rw[zyx,zac];unfold i2T;cases zvW ps ps[i].types[j]with
      |true=>rfl
      |false=>simp only[zae,cond_false];cases(zAI ps ps[i].types[j] !=[])<;>rfl
     ·simp only[zan,zae]
    ·simp only[zan,zae]
  ·intro i hi;have h3:=zam hi (up hp.1);have hq:=hp.2 _ (ygh hi);have h4:decide ((i:Int)<=(ps.length:Int))=true:=by simp;omega
   have h5:(List.take (Int.toNat (i:Int)-Int.toNat 0) (List.drop (Int.toNat 0) ps))=ps.take i:=by simp
   have k:zcv (ps.take i,ps[i])=some ((ps.take i).any (fun q=>q.name==ps[i].name)):=by
    rw[ze0];unfold zcm;dsimp only;have h2:zcy (ps.take i,ps[i])=some (ixM (fun q:Part=>q.name==ps[i].name) (ps.take i)):=by rw[ze3];unfold zcp;dsimp only;refine ixf (g:=fun q=>zc2 (q,ps[i])) _ (up (Nat.le_trans (by rw[List.length_take];exact Nat.min_le_right _ _) hp.1)) (fun q _=>?_);rw[zfP];unfold zcT;dsimp only
    rw[h2,zac,zkm]
   simp only[zaD hi,zax,zai hi,zaf,zag,zac,h3,h4,h5,k,ztO hq,decide_true,Bool.and_self,Int.le_refl];unfold p1F;cases okP ps[i]with
   |false=>rfl
   |true=>simp only[Bool.not_true,zae,cond_false];cases(ps.take i).any fun q=>q.name==ps[i].name<;>rfl
  ·simp only[zan,zae]
end Go.Fw
namespace Go.Fw
open Go
set_option linter.unusedSimpArgs false
set_option linter.unusedVariables false
structure OkT (p:Part)(t:Typ):Prop where
 line:lineM t=true
 ty:tyM p t.name=some t
 fd:∀f∈t.fields,fdM t f.name=some f
 nm:∀f∈t.fields,nameM f.name=true
 nf:∀f∈t.fields,needy f=true->f.far=false
 known:∀f∈t.fields,knownM p f=true
 noq:∀f∈t.fields,isQ f=false
structure OkP (p:Part):Prop where
 types:p.types.length<=5
 name:nameM p.name=true
 root:noRoot p=false
 type:∀t∈p.types,OkT p t
theorem zws{α:Type}{q:α->Bool}{xs:List α}{i:Nat}(hi:i<xs.length)(h:(ixM q xs==(i:Int))=true):xs.find? q=some xs[i]:=by
 rcases zaT q xs with⟨h1,h2,_⟩|⟨k,hk,h1,h2,_,_⟩
 ·rw[h1]at h;simp at h
 ·rw[h1]at h;have:k=i:=by
   have h':(k:Int)=(i:Int):=by simpa using h
   omega
  subst this;exact h2
theorem OkP.of{p:Part}(h:okP p=true):OkP p:=by
 unfold okP pcM at h;cases h1:decide (5<p.types.length)with
 |true=>rw[h1]at h;cases h
 |false=>
  rw[h1]at h;cases h2:nameM p.name with
  |false=>rw[h2]at h;cases h
  |true=>
   rw[h2]at h;cases h3:noRoot p with
   |true=>rw[h3]at h;cases h
   |false=>
    rw[h3]at h;simp only[Bool.not_true,cond_false]at h;cases h4:fsI (pcF p) 0 p.types with
    |some r=>
     rw[h4]at h;exfalso;obtain⟨j,hj,hr⟩:=zgw h4;unfold pcF at hr;cases hz:(zbN p (0+j) p.types[j]==0)with
     |false=>rw[hz]at hr;cases hr;rw[hz]at h;cases h
     |true=>
      rw[hz]at hr;simp only[Bool.not_true,cond_false]at hr;cases hq:p.types[j].fields.any isQ with
      |false=>rw[hq]at hr;cases hr
      |true=>rw[hq]at hr;cases hr;cases h
    |none=>
     refine⟨by simpa using h1,h2,h3,fun t ht=>?_⟩;obtain⟨j,hj,rfl⟩:=List.getElem_of_mem ht;have hn:=zfu h4 j hj;rw[Nat.zero_add]at hn;unfold pcF at hn;cases hz:(zbN p j p.types[j]==0)with
     |false=>rw[hz]at hn;cases hn
     |true=>
      rw[hz]at hn;simp only[Bool.not_true,cond_false]at hn;have hq:p.types[j].fields.any isQ=false:=by
       cases hq:p.types[j].fields.any isQ with
       |false=>rfl
       |true=>rw[hq]at hn;cases hn
      have hf:zbN p j p.types[j]=0:=by simpa using hz
      unfold zbN at hf;cases e1:lineM p.types[j]with
      |false=>rw[e1]at hf;cases hf
      |true=>
       rw[e1]at hf;cases e2:(ixM (fun u:Typ=>u.name==p.types[j].name) p.types==(j:Int))with
       |false=>rw[e2]at hf;cases hf
       |true=>
        rw[e2]at hf;cases e3:zsv p.types[j]with
        |false=>rw[e3]at hf;cases hf
        |true=>
         rw[e3]at hf;cases e4:p.types[j].fields.all (knownM p)with
         |false=>rw[e4]at hf;cases hf
         |true=>
          rw[e4]at hf;cases e5:zD1 p.types[j]with
          |false=>rw[e5]at hf;cases hf
          |true=>
           rw[e5]at hf;cases e6:p.types[j].fields.all (zkp p.types[j])with
           |false=>rw[e6]at hf;cases hf
           |true=>
            refine⟨e1,zws hj e2,fun f hf=>?_,fun f hf=>?_,fun f hf hn=>?_,fun f hf=>List.all_eq_true.1 e4 f hf,fun f hf=>?_⟩
            ·obtain⟨k,hk,rfl⟩:=List.getElem_of_mem hf;have:=(zhE _ _ _).1 e3 k hk;rw[Nat.zero_add]at this;exact zws hk this
            ·unfold lineM at e1;simp only[yhb,List.all_eq_true]at e1;have:=e1.2.2.2.2 f hf;unfold zpr at this;simp only[yhb]at this;exact this.1
            ·have:=List.all_eq_true.1 e6 f hf;unfold zkp zxG at this;unfold needy at hn;rw[hn]at this;simp only[yhb,Bool.or_eq_true,Bool.not_true,yhj,false_or,yho]at this;exact this.1.1.2.2.1
            ·have:=List.any_eq_false.1 hq f hf;simpa using this
theorem zz0{s:List UInt8}(h:nameM s=true):s≠[]:=by rintro rfl;cases h
def zA9(ps:List Part):Prop:=0<ps.length/\ps.length<=4/\fsI (p1F ps) 0 ps=none
def S2(ps:List Part):Prop:=∀p∈ps,∀t∈p.types,zvW ps t=false/\∀f∈t.fields,znI ps t.name f=0
def I2(ps:List Part):Prop:=∀p∈ps,∀t∈p.types,zvW ps t=false/\zAI ps t=[]/\∀f∈t.fields,zjZ ps t.name f.name=0
theorem zA9.ok{ps:List Part}(h:zA9 ps):∀p∈ps,OkP p:=by
 intro p hp;obtain⟨j,hj,rfl⟩:=List.getElem_of_mem hp;have:=zfu h.2.2 j hj;unfold p1F at this;cases ho:okP ps[j]with
 |true=>exact .of ho
 |false=>rw[ho]at this;cases this
theorem zsa{ps:List Part}{i:Nat}{p:Part}{r:CFault}(h:p1F ps i p=some r):0<r.code:=by
 unfold p1F at h;cases ho:okP p with
 |false=>rw[ho]at h;cases h;simp
 |true=>
  rw[ho]at h;simp only[Bool.not_true,cond_false]at h;cases hz:(ps.take i).any fun q=>q.name==p.name with
  |true=>rw[hz]at h;cases h;simp
  |false=>rw[hz]at h;cases h
theorem zEA{ps:List Part}:fsI (s2P ps) 0 ps=none↔S2 ps:=by
 have h3:∀i n f,s2F ps i n f=none↔znI ps n f=0:=by
  intro i n f;unfold s2F;cases hz:(znI ps n f !=0)with
  |true=>simp only[cond_true,reduceCtorEq,false_iff];simpa using hz
  |false=>simp only[cond_false,true_iff];simpa using hz
 have h2:∀i t,s2T ps i t=none↔zvW ps t=false/\∀f∈t.fields,znI ps t.name f=0:=by
  intro i t;unfold s2T;cases zvW ps t with
  |true=>simp
  |false=>
   simp only[cond_false,yhn];rw[ziX];constructor
   ·intro h f hf;obtain⟨k,hk,rfl⟩:=List.getElem_of_mem hf;exact(h3 _ _ _).1 (h k hk)
   ·intro h k hk;exact(h3 _ _ _).2 (h _ (ygh hk))
 rw[ziX];constructor
 ·intro h p hp t ht;obtain⟨j,hj,rfl⟩:=List.getElem_of_mem hp;obtain⟨k,hk,rfl⟩:=List.getElem_of_mem ht;have:=h j hj;unfold s2P at this;exact(h2 _ _).1 (zfu this k hk)
 ·intro h j hj;unfold s2P;rw[ziX];intro k hk;exact(h2 _ _).2 (h _ (ygh hj) _ (ygh hk))
theorem zAn{ps:List Part}{i:Nat}{p:Part}{r:CFault}(h:s2P ps i p=some r):r.code≠0:=by
 unfold s2P at h;obtain⟨j,hj,h⟩:=zgw h;unfold s2T at h;cases hb:zvW ps p.types[j]with
 |true=>rw[hb]at h;cases h;simp
 |false=>
  rw[hb]at h;simp only[cond_false]at h;obtain⟨k,hk,h⟩:=zgw h;unfold s2F at h;cases hz:(znI ps p.types[j].name p.types[j].fields[k] !=0)with
  |true=>rw[hz]at h;cases h;simpa using hz
  |false=>rw[hz]at h;cases h
theorem zsx{ps:List Part}:(v6S ps).code=0↔zA9 ps/\S2 ps:=by
 unfold v6S zA9;rw[<-zEA];by_cases h0:0<ps.length/\ps.length<=4
 ·have:(!(decide (0<ps.length)&&decide (ps.length<=4)))=false:=by simp[h0]
  rw[this];simp only[cond_false];cases h1:fsI (p1F ps) 0 ps with
  |some r=>obtain⟨j,hj,h⟩:=zgw h1;have:=zsa h;simp only[reduceCtorEq,and_false,false_and,iff_false];omega
  |none=>
   cases h2:fsI (s2P ps) 0 ps with
   |some r=>obtain⟨j,hj,h⟩:=zgw h2;have:=zAn h;simp only[reduceCtorEq,and_false,iff_false];exact this
   |none=>simp[h0]
 ·have:(!(decide (0<ps.length)&&decide (ps.length<=4)))=true:=by simp only[yho,Bool.and_eq_false_iff,yhd];omega
  rw[this];simp only[cond_true];constructor
  ·intro h;cases h
  ·intro h;exact absurd ⟨h.1.1,h.1.2.1⟩ h0
theorem zBh(ps:List Part)(n f:List UInt8):0<=zjZ ps n f:=by unfold zjZ;cases decide (0<(zbG n f 0 ps).length)<;>cases(decide (1<(zbG n f 0 ps).length)&&(f !=zpo ps n&&decide ((zaq ps n f).countP (·.shared)<(zbG n f 0 ps).length)))<;>cases((decide (1<(zbG n f 0 ps).length)&&(zaq ps n f).any needy) ||(zcD ps n f).any (fun x=>(zaq ps n x).any needy))<;>decide
theorem zDK{ps:List Part}:(fsI (i2P ps) 0 ps=none/\fsI (i3P ps) 0 ps=none)↔I2 ps:=by
 have h3:∀i n f,i3F ps i n f=none↔zjZ ps n f.name=0:=by
  intro i n f;have:=zBh ps n f.name;unfold i3F;cases hz:decide (zjZ ps n f.name>0)with
  |true=>
   have:zjZ ps n f.name>0:=by simpa using hz
   simp only[cond_true,reduceCtorEq,false_iff];omega
  |false=>
   have:¬zjZ ps n f.name>0:=by simpa using hz
   simp only[cond_false,true_iff];omega
 have h2:∀i t,i2T ps i t=none↔zvW ps t=false/\zAI ps t=[]:=by
  intro i t;unfold i2T;cases zvW ps t with
  |true=>simp
  |false=>
   simp only[cond_false,yhn];cases hz:(zAI ps t !=[])with
   |true=>simp only[cond_true,reduceCtorEq,false_iff];simpa using hz
   |false=>simp only[cond_false,true_iff];simpa using hz
 rw[ziX,ziX];constructor
 ·intro⟨h,g⟩ p hp t ht;obtain⟨j,hj,rfl⟩:=List.getElem_of_mem hp;obtain⟨k,hk,rfl⟩:=List.getElem_of_mem ht;have h1:=h j hj;unfold i2P at h1;have g1:=g j hj;unfold i3P at g1;have g2:=zfu g1 k hk;unfold i3T at g2;have h4:=(h2 _ _).1 (zfu h1 k hk);refine⟨h4.1,h4.2,fun f hf=>?_⟩;obtain⟨l,hl,rfl⟩:=List.getElem_of_mem hf;exact(h3 _ _ _).1 (zfu g2 l hl)
 ·intro h;refine⟨fun j hj=>?_,fun j hj=>?_⟩
  ·unfold i2P;rw[ziX];intro k hk;have:=h _ (ygh hj) _ (ygh hk);exact(h2 _ _).2 ⟨this.1,this.2.1⟩
  ·unfold i3P;rw[ziX];intro k hk;have:=h _ (ygh hj) _ (ygh hk);unfold i3T;rw[ziX];intro l hl;exact(h3 _ _ _).2 (this.2.2 _ (ygh hl))
theorem zDJ{ps:List Part}{i:Nat}{p:Part}{r:CFault}(h:i2P ps i p=some r):0<r.code:=by
 unfold i2P at h;obtain⟨j,hj,h⟩:=zgw h;unfold i2T at h;cases hb:zvW ps p.types[j]with
 |true=>rw[hb]at h;cases h;simp
 |false=>
  rw[hb]at h;simp only[cond_false]at h;cases hz:(zAI ps p.types[j] !=[])with
  |true=>rw[hz]at h;cases h;simp
  |false=>rw[hz]at h;cases h
theorem zDL{ps:List Part}{i:Nat}{p:Part}{r:CFault}(h:i3P ps i p=some r):0<r.code:=by
 unfold i3P at h;obtain⟨j,hj,h⟩:=zgw h;unfold i3T at h;obtain⟨k,hk,h⟩:=zgw h;unfold i3F at h;cases hz:decide (zjZ ps p.types[j].name p.types[j].fields[k].name>0)with
 |true=>rw[hz]at h;cases h;simpa using hz
 |false=>rw[hz]at h;cases h
theorem zmd{ps:List Part}:((v6I ps).code=0↔zA9 ps/\I2 ps)/\0<=(v6I ps).code:=by
 unfold v6I zA9;rw[<-zDK];by_cases h0:0<ps.length/\ps.length<=4
 ·have:(!(decide (0<ps.length)&&decide (ps.length<=4)))=false:=by simp[h0]
  rw[this];simp only[cond_false];cases h1:fsI (p1F ps) 0 ps with
  |some r=>obtain⟨j,hj,h⟩:=zgw h1;have:=zsa h;simp only[reduceCtorEq,and_false,false_and,iff_false];omega
  |none=>
   cases h2:fsI (i2P ps) 0 ps with
   |some r=>obtain⟨j,hj,h⟩:=zgw h2;have:=zDJ h;simp only[reduceCtorEq,and_false,false_and,iff_false];omega
   |none=>
    cases h3:fsI (i3P ps) 0 ps with
    |some r=>obtain⟨j,hj,h⟩:=zgw h3;have:=zDL h;simp only[reduceCtorEq,and_false,iff_false];omega
    |none=>simp[h0]
 ·have:(!(decide (0<ps.length)&&decide (ps.length<=4)))=true:=by simp only[yho,Bool.and_eq_false_iff,yhd];omega
  rw[this];simp only[cond_true];refine⟨⟨fun h=>?_,fun h=>absurd ⟨h.1.1,h.1.2.1⟩ h0⟩,by decide⟩;cases h
theorem zAa(n f:List UInt8)(ps:List Part)(k:Nat):(zbG n f k ps).length=ps.countP (ziw n f):=by
 induction ps generalizing k with
 |nil=>rfl
 |cons p ps ih=>simp only[zbG,yhr,List.countP_cons,ih];cases ziw n f p<;>simp[Nat.add_comm]
theorem zu6{ps:List Part}(hok:∀p∈ps,OkP p)(n f:List UInt8):(zaq ps n f).countP needy<=ps.countP (ziw n f):=by
 unfold zaq;induction ps with
 |nil=>simp
 |cons p ps ih=>
  have ih':=ih fun q hq=>hok q (by simp[hq]);rw[List.filterMap_cons,List.countP_cons];cases hg:zeK p n f with
  |none=>simp only[hg];omega
  |some g=>
   simp only[hg,List.countP_cons];obtain⟨t,ht,_,_,hgt,_⟩:=zjL hg;cases hn:needy g with
   |false=>simp only[yhj,if_false];omega
   |true=>
    have:=((hok p (by simp)).type t ht).nf g hgt hn;have hk:ziw n f p=true:=by unfold ziw;rw[hg];simp[this]
    simp only[hk,if_true];omega
theorem zyM{α:Type}{q:α->Bool}{l:List α}(h:l.countP q<=1){a b:α}(ha:a∈l)(hb:b∈l)(qa:q a=true)(qb:q b=true):a=b:=by
 rw[List.countP_eq_length_filter]at h;have h1:a∈l.filter q:=List.mem_filter.2 ⟨ha,qa⟩;have h2:b∈l.filter q:=List.mem_filter.2 ⟨hb,qb⟩;match hl:l.filter q with
 |[]=>rw[hl]at h1;cases h1
 |[x]=>rw[hl]at h1 h2;rw[List.mem_singleton]at h1 h2;rw[h1,h2]
 |x:: y:: r=>rw[hl]at h;simp at h
theorem zok{ps:List Part}{n f:List UInt8}{g:Field}(h:g∈zaq ps n f):∃p∈ps,∃t∈p.types,t.name=n/\g∈t.fields/\g.name=f/\zeK p n f=some g:=by unfold zaq at h;obtain⟨p,hp,hg⟩:=List.mem_filterMap.1 h;obtain⟨t,ht,hn,_,hgt,hgf,_⟩:=zjL hg;exact⟨p,hp,t,ht,hn,hgt,hgf,hg⟩
theorem OkP.get{p:Part}(h:OkP p){t:Typ}(ht:t∈p.types){f:Field}(hf:f∈t.fields):zeK p t.name f.name=some f:=by unfold zeK;rw[(h.type t ht).ty,Option.bind_some];exact(h.type t ht).fd f hf
theorem zrW{ps:List Part}(hok:∀p∈ps,OkP p){p:Part}(hp:p∈ps){t:Typ}(ht:t∈p.types){f:Field}(hf:f∈t.fields):f∈zaq ps t.name f.name:=
 List.mem_filterMap.2 ⟨p,hp,(hok p hp).get ht hf⟩
theorem zh1(ps:List Part)(n f:List UInt8):(zcD ps n f=[]/\(zaq ps n f).any needy=false)\/∃g∈zaq ps n f,needy g=true/\zcD ps n f=g.needs:=by
 unfold zcD;cases h:(zaq ps n f).findSome? fun g=>bif decide (0<g.needs.length)then some g.needs else none with
 |none=>
  refine .inl ⟨rfl,?_⟩;rw[List.any_eq_false];intro g hg;have:=List.findSome?_eq_none_iff.1 h g hg;unfold needy;cases hz:decide (0<g.needs.length)with
  |true=>rw[hz]at this;cases this
  |false=>simp
 |some l=>
  obtain⟨g,hg,he⟩:=List.exists_of_findSome?_eq_some h;refine .inr ⟨g,hg,?_⟩;unfold needy;cases hz:decide (0<g.needs.length)with
  |false=>rw[hz]at he;cases he
  |true=>rw[hz]at he;cases he;exact⟨rfl,rfl⟩
theorem zwH{ps:List Part}(hok:∀p∈ps,OkP p){n f:List UInt8}(h1:(decide (1<(zbG n f 0 ps).length)&&(zaq ps n f).any needy)=false){g:Field}(hg:g∈zaq ps n f)(hn:needy g=true):zcD ps n f=g.needs:=by
 have ha:(zaq ps n f).any needy=true:=List.any_eq_true.2 ⟨g,hg,hn⟩;rw[ha,Bool.and_true,yhd,zAa]at h1;have h2:=zu6 hok n f;rcases zh1 ps n f with⟨_,h⟩|⟨g',hg',hn',h⟩
 ·rw[ha]at h;cases h
 ·rw[h,zyM (by omega) hg hg' hn hn']
theorem zw4{ps:List Part}{t:Typ}(h:∀f∈t.fields,nameM f.name=true):zAI ps t=[]↔∀f∈t.fields,zya ps t.name f=false:=by
 unfold zAI;cases hs:t.fields.findSome? fun f=>bif zya ps t.name f then some f.name else none with
 |none=>
  simp only[Option.getD_none,true_iff];intro f hf;have:=List.findSome?_eq_none_iff.1 hs f hf;cases hu:zya ps t.name f with
  |false=>rfl
  |true=>rw[hu]at this;cases this
 |some l=>
  obtain⟨f,hf,he⟩:=List.exists_of_findSome?_eq_some hs;cases hu:zya ps t.name f with
  |false=>rw[hu]at he;cases he
  |true=>rw[hu]at he;cases he;simp only[Option.getD_some];exact⟨fun hc=>absurd hc (zz0 (h f hf)),fun hc=>by rw[hc f hf]at hu;cases hu⟩
theorem zrt{ps:List Part}{n:List UInt8}{f:Field}:znI ps n f=0↔zya ps n f=false/\decide (0<(zbG n f.name 0 ps).length)=true/\(decide (1<(zbG n f.name 0 ps).length)&&(f.name !=zpo ps n&&decide ((zaq ps n f.name).countP (·.shared)<(zbG n f.name 0 ps).length)))=false/\(decide (1<(zbG n f.name 0 ps).length)&&(zaq ps n f.name).any needy)=false/\f.needs.any (zs7 ps n)=false:=by unfold znI;cases zya ps n f<;>cases decide (0<(zbG n f.name 0 ps).length)<;>cases(decide (1<(zbG n f.name 0 ps).length)&&(f.name !=zpo ps n&&decide ((zaq ps n f.name).countP (·.shared)<(zbG n f.name 0 ps).length)))<;>cases(decide (1<(zbG n f.name 0 ps).length)&&(zaq ps n f.name).any needy)<;>cases f.needs.any (zs7 ps n)<;>simp
theorem zux{ps:List Part}{n f:List UInt8}:zjZ ps n f=0↔decide (0<(zbG n f 0 ps).length)=true/\(decide (1<(zbG n f 0 ps).length)&&(f !=zpo ps n&&decide ((zaq ps n f).countP (·.shared)<(zbG n f 0 ps).length)))=false/\(decide (1<(zbG n f 0 ps).length)&&(zaq ps n f).any needy)=false/\(zcD ps n f).any (zs7 ps n)=false:=by have:(zcD ps n f).any (zs7 ps n)=(zcD ps n f).any (fun x=>(zaq ps n x).any needy):=rfl;rw[this];unfold zjZ;cases decide (0<(zbG n f 0 ps).length)<;>cases(decide (1<(zbG n f 0 ps).length)&&(f !=zpo ps n&&decide ((zaq ps n f).countP (·.shared)<(zbG n f 0 ps).length)))<;>cases(decide (1<(zbG n f 0 ps).length)&&(zaq ps n f).any needy)<;>cases(zcD ps n f).any (fun x=>(zaq ps n x).any needy)<;>simp
theorem zDh{ps:List Part}(hok:∀p∈ps,OkP p):S2 ps↔I2 ps:=by
 constructor
 ·intro h p hp t ht;obtain⟨h1,h2⟩:=h p hp t ht;have ho:=(hok p hp).type t ht;refine⟨h1,(zw4 ho.nm).2 fun f hf=>(zrt.1 (h2 f hf)).1,fun f hf=>?_⟩;obtain⟨_,g2,g3,g4,g5⟩:=zrt.1 (h2 f hf);refine zux.2 ⟨g2,g3,g4,?_⟩;rcases zh1 ps t.name f.name with⟨e,_⟩|⟨g,hg,_,e⟩
  ·rw[e];rfl
  ·rw[e];obtain⟨p',hp',t',ht',hn',hgt',_,_⟩:=zok hg;have:=(zrt.1 ((h p' hp' t' ht').2 g hgt')).2.2.2.2;rw[hn']at this;exact this
 ·intro h p hp t ht;obtain⟨h1,h2,h3⟩:=h p hp t ht;have ho:=(hok p hp).type t ht;refine⟨h1,fun f hf=>?_⟩;obtain⟨g2,g3,g4,g5⟩:=zux.1 (h3 f hf);refine zrt.2 ⟨(zw4 ho.nm).1 h2 f hf,g2,g3,g4,?_⟩;cases hn:needy f with
  |false=>
   have:f.needs=[]:=by
    unfold needy at hn;cases hfn:f.needs with
    |nil=>rfl
    |cons a b=>rw[hfn]at hn;simp at hn
   rw[this];rfl
  |true=>rw[zwH hok g4 (zrW hok hp ht hf) hn]at g5;exact g5
theorem zuy(ps:List Part):(v6S ps).code=0↔(v6I ps).code=0:=by rw[zsx,zmd.1];exact⟨fun h=>⟨h.1,(zDh h.1.ok).1 h.2⟩,fun h=>⟨h.1,(zDh h.1.ok).2 h.2⟩⟩
end Go.Fw
namespace Go.Fw
open Go
set_option linter.unusedSimpArgs false
set_option linter.unusedVariables false
def zFY(f:Field)(h:Bool)(ns:List (List UInt8)):Field:=⟨f.name,f.of,f.list,f.must,false,h,false,ns⟩
def zGN(f g:Field):Field:=⟨g.name,g.of,g.list,g.must,g.far,g.hidden ||f.hidden,g.shared,bif needy f then f.needs else g.needs⟩
def zp4(fs:List Field)(f:Field):List Field:=match fs.findIdx? (fun g=>g.name==f.name)with
|none=>fs++[zFY f f.hidden f.needs]
|some k=>match fs[k]? with
 |some g=>fs.set k (zGN f g)
 |none=>fs
def zwo(ps:List Part)(n f:List UInt8):Bool:=(zaq ps n f).any (·.hidden)
def znB(ps:List Part)(n:List UInt8)(fs:List Field)(f:Field):List Field:=bif fs.any (fun g=>g.name==f.name)then fs else fs++[zFY f (zwo ps n f.name) (zcD ps n f.name)]
def crM(ps:List Part)(ts:List Typ)(t:Typ):Nat×List Typ:=match ts.findIdx? (fun u=>u.name==t.name)with
|none=>(ts.length,ts++[⟨t.name,zpo ps t.name,[]⟩])
|some k=>(k,ts)
def zy9(put:List Field->Field->List Field)(ts:List Typ)(a:Nat)(fs:List Field):List Typ:=match ts[a]? with
|some u=>ts.set a ⟨u.name,u.key,fs.foldl put u.fields⟩
|none=>ts
def zkZ(ps:List Part)(put:List UInt8->List Field->Field->List Field)(ts:List Typ)(t:Typ):List Typ:=zy9 (put t.name) (crM ps ts t).2 (crM ps ts t).1 t.fields
def zrn(ps:List Part)(put:List UInt8->List Field->Field->List Field)(qs:List Part):List Typ:=qs.foldl (fun S p=>p.types.foldl (zkZ ps put) S) []
theorem zhX{put:List Field->Field->List Field}{ts:List Typ}{a:Nat}{fs:List Field}(h:a<ts.length):zy9 put ts a fs=ts.set a ⟨ts[a].name,ts[a].key,fs.foldl put ts[a].fields⟩:=by unfold zy9;rw[ygb h]
theorem zwk{put:List Field->Field->List Field}{ts:List Typ}{a:Nat}:zy9 put ts a []=ts:=by
 unfold zy9;cases h:ts[a]? with
 |none=>rfl
 |some u=>obtain⟨ha,rfl⟩:=yga.1 h;exact List.set_getElem_self ha
theorem zv6(ps:List Part)(ts:List Typ)(t:Typ):(crM ps ts t).1<(crM ps ts t).2.length:=by
 unfold crM;cases h:ts.findIdx? (fun u=>u.name==t.name)with
 |none=>simp
 |some k=>exact(List.findIdx?_eq_some_iff_getElem.1 h).1
def Bd(b c:Nat)(ts:List Typ):Prop:=ts.length<=b/\∀t∈ts,t.name.length<=KK/\t.key.length<=KK/\t.fields.length<=c/\∀f∈t.fields,KF KK f
def zrm(put:List Field->Field->List Field):Prop:=∀fs f,KF KK f->(∀g∈fs,KF KK g)->(put fs f).length<=fs.length+1/\∀g∈put fs f,KF KK g
theorem zom{put:List Field->Field->List Field}(h:zrm put):∀(xs fs:List Field),(∀f∈xs,KF KK f)->(∀g∈fs,KF KK g)->(xs.foldl put fs).length<=fs.length+xs.length/\∀g∈xs.foldl put fs,KF KK g
|[],fs,_,h2=>⟨by simp,h2⟩
|x:: xs,fs,h1,h2=>by obtain⟨a1,a2⟩:=h fs x (h1 x (by simp)) h2;obtain⟨b1,b2⟩:=zom h xs (put fs x) (fun f hf=>h1 f (by simp[hf])) a2;exact⟨by simp only[List.foldl_cons,yhs];omega,b2⟩
theorem zDF{put:List Field->Field->List Field}(h:zrm put){ts:List Typ}{a b c n:Nat}{fs:List Field}(hb:Bd b c ts)(hf:∀f∈fs,KF KK f)(hn:fs.length<=n):Bd b (c+n) (zy9 put ts a fs):=by
 unfold zy9;cases hx:ts[a]? with
 |none=>exact⟨hb.1,fun t ht=>⟨(hb.2 t ht).1,(hb.2 t ht).2.1,Nat.le_trans (hb.2 t ht).2.2.1 (Nat.le_add_right _ _),(hb.2 t ht).2.2.2⟩⟩
 |some u=>
  have hu:=hb.2 u (ygd hx);refine⟨by simpa using hb.1,fun t ht=>?_⟩;rcases List.mem_or_eq_of_mem_set ht with h1|rfl
  ·exact⟨(hb.2 t h1).1,(hb.2 t h1).2.1,Nat.le_trans (hb.2 t h1).2.2.1 (Nat.le_add_right _ _),(hb.2 t h1).2.2.2⟩
  ·obtain⟨a1,a2⟩:=zom h fs u.fields hf hu.2.2.2;exact⟨hu.1,hu.2.1,by have:=hu.2.2.1;show(fs.foldl put u.fields).length<=_;omega,a2⟩
theorem zBK{ps:List Part}(hp:KL KK ps)(n:List UInt8):(zpo ps n).length<=KK:=by
 unfold zpo;cases h:ps.findSome? fun p=>match tyM p n with
 |some t=>bif t.key !=[]then some t.key else none
 |none=>none with
 |none=>simp
 |some l=>
  obtain⟨p,hpm,he⟩:=List.exists_of_findSome?_eq_some h;cases ht:tyM p n with
  |none=>rw[ht]at he;cases he
  |some t=>
   rw[ht]at he;cases hk:(t.key !=[])with
   |false=>simp only[hk]at he;cases he
   |true=>simp only[hk,cond_true]at he;cases he;exact((hp.2 p hpm).2.2 t (zjf ht).1).2.1
theorem zyN{ps:List Part}(hp:KL KK ps){ts:List Typ}{t:Typ}{b c:Nat}(hb:Bd b c ts)(ht:t.name.length<=KK):Bd (b+1) c (crM ps ts t).2:=by
 unfold crM;cases h:ts.findIdx? (fun u=>u.name==t.name)with
 |some k=>exact⟨Nat.le_succ_of_le hb.1,hb.2⟩
 |none=>
  refine⟨by simpa using hb.1,fun u hu=>?_⟩;rcases List.mem_append.1 hu with h1|h1
  ·exact hb.2 u h1
  ·rw[List.mem_singleton]at h1;subst h1;exact⟨ht,zBK hp _,by simp,by simp⟩
theorem zDi{ps:List Part}(hp:KL KK ps){put:List UInt8->List Field->Field->List Field}(h:∀n,zrm (put n)){ts:List Typ}{t:Typ}{b c:Nat}(hb:Bd b c ts)(ht:KT KK t)(h8:t.fields.length<=8):Bd (b+1) (c+8) (zkZ ps put ts t):=
 zDF (h _) (zyN hp hb ht.1) ht.2.2.2 h8
theorem zum{ps:List Part}(hp:KL KK ps){put:List UInt8->List Field->Field->List Field}(h:∀n,zrm (put n)):∀(us ts:List Typ)(b c:Nat),Bd b c ts->(∀t∈us,KT KK t/\t.fields.length<=8)->Bd (b+us.length) (c+8*us.length) (us.foldl (zkZ ps put) ts)
|[],ts,b,c,hb,_=>hb
|u:: us,ts,b,c,hb,hu=>by
 have h1:=zDi hp h hb (hu u (by simp)).1 (hu u (by simp)).2;have h2:=zum hp h us _ _ _ h1 fun t ht=>hu t (by simp[ht]);have e1:b+1+us.length=b+(us.length+1):=by omega
 have e2:c+8+8*us.length=c+8*(us.length+1):=by omega
 rw[e1,e2]at h2;exact h2
theorem zyw{ps:List Part}(hp:KL KK ps){put:List UInt8->List Field->Field->List Field}(h:∀n,zrm (put n)):∀(qs:List Part)(ts:List Typ)(b c:Nat),Bd b c ts->(∀p∈qs,p.types.length<=5/\∀t∈p.types,KT KK t/\t.fields.length<=8)->Bd (b+5*qs.length) (c+40*qs.length) (qs.foldl (fun S p=>p.types.foldl (zkZ ps put) S) ts)
|[],ts,b,c,hb,_=>hb
|q:: qs,ts,b,c,hb,hq=>by
 have h1:=zum hp h q.types _ _ _ hb (hq q (by simp)).2;have h5:=(hq q (by simp)).1;have h1':Bd (b+5) (c+40) (q.types.foldl (zkZ ps put) ts):=⟨by have:=h1.1;omega,fun t ht=>⟨(h1.2 t ht).1,(h1.2 t ht).2.1,by have:=(h1.2 t ht).2.2.1;omega,(h1.2 t ht).2.2.2⟩⟩
 have h2:=zyw hp h qs _ _ _ h1' fun p hp=>hq p (by simp[hp]);have e1:b+5+5*qs.length=b+5*(qs.length+1):=by omega
 have e2:c+40+40*qs.length=c+40*(qs.length+1):=by omega
 rw[e1,e2]at h2;exact h2
theorem zve:zrm zp4:=by
 intro fs f hf hfs;unfold zp4;cases h:fs.findIdx? (fun g=>g.name==f.name)with
 |none=>
  refine⟨by simp,fun g hg=>?_⟩;rcases List.mem_append.1 hg with h1|h1
  ·exact hfs g h1
  ·rw[List.mem_singleton]at h1;subst h1;exact⟨hf.1,hf.2.1,hf.2.2⟩
 |some k=>
  cases hk:fs[k]? with
  |none=>simp only[hk];exact⟨by simp,hfs⟩
  |some u=>
   simp only[hk];refine⟨by simp,fun g hg=>?_⟩;rcases List.mem_or_eq_of_mem_set hg with h1|rfl
   ·exact hfs g h1
   ·have hu:=hfs u (ygd hk);refine⟨hu.1,hu.2.1,?_⟩;unfold zGN;cases needy f
    ·exact hu.2.2
    ·exact hf.2.2
theorem zz2{ps:List Part}(hp:KL KK ps)(n f:List UInt8):KS KK (zcD ps n f):=by
 rcases zh1 ps n f with⟨e,_⟩|⟨g,hg,_,e⟩
 ·rw[e];exact⟨by simp,by simp⟩
 ·rw[e];obtain⟨p,hpm,t,ht,_,hgt,_⟩:=zok hg;exact(((hp.2 p hpm).2.2 t ht).2.2.2 g hgt).2.2
theorem zAc{ps:List Part}(hp:KL KK ps)(n:List UInt8):zrm (znB ps n):=by
 intro fs f hf hfs;unfold znB;cases fs.any (fun g=>g.name==f.name)with
 |true=>exact⟨by simp,hfs⟩
 |false=>
  refine⟨by simp,fun g hg=>?_⟩;rcases List.mem_append.1 hg with h1|h1
  ·exact hfs g h1
  ·rw[List.mem_singleton]at h1;subst h1;exact⟨hf.1,hf.2.1,zz2 hp _ _⟩
theorem zxU{n key:List UInt8}{fs:List Field}{f:Field}(ht:fs.length<=1000)(hf:KF KK f):zrl (⟨n,key,fs⟩,f)=some ⟨n,key,zp4 fs f⟩:=by
 rw[zqA];unfold zri;dsimp only;have hk:KK=1048576:=rfl;have hl:=hf.2.2.1;rw[zeI (show fs.length<=_ by omega),zac];unfold ixM zp4;cases h:fs.findIdx? (fun g=>g.name==f.name)with
 |none=>
  simp only[show decide ((-1:Int)<0)=true from rfl,zaf];(rw[zb0];rotate_left;(have:=hBM;simp only[yhr,yhs,yht,List.length_map,yhc,yhb];omega))
  (rw[zb0];rotate_left;(have:=hBM;simp only[yhr,yhs,yht,List.length_map,yhc,yhb];omega))
  (rw[zb0];rotate_left;(have:=hBM;simp only[yhr,yhs,yht,List.length_map,yhc,yhb];omega))
  rfl
 |some k=>
  have hk:=(List.findIdx?_eq_some_iff_getElem.1 h).1;simp only[znq,zae,ygb hk];(rw[zb0];rotate_left;(have:=hBM;simp only[yhr,yhs,yht,List.length_map,yhc,yhb];omega))
  have g1:(decide (0<=(k:Int))&&decide ((k:Int)<(fs.length:Int)))=true:=by simp;omega
  have g2:decide (0+f.needs.length<=LIM)=true:=by(have:=hBM;simp only[yhr,yhs,yht,List.length_map,yhc,yhb];omega)
  have g3:f.needs.length<=1099511627776:=by omega
  simp only[g1,zag,Int.toNat_natCast,ygb hk,zac,zl1];unfold zGN;rw[show needy f=decide (0<f.needs.length)from rfl];have e0:fs.set k fs[k]=fs:=List.set_getElem_self hk;cases hh:f.hidden with
  |false=>
   cases hn:decide (0<f.needs.length)with
   |false=>simp[zab,zaa,e0]
   |true=>simp[zab,zaa,gd,g1,g2,g3,hk,LIM]
  |true=>
   cases hn:decide (0<f.needs.length)with
   |false=>simp[zab,zaa]
   |true=>simp[zab,zaa,gd,hk,g3,LIM]
end Go.Fw
namespace Go.Fw
open Go
set_option linter.unusedSimpArgs false
set_option linter.unusedVariables false
def SmL(ps:List Part):Prop:=ps.length<=4/\∀p∈ps,p.types.length<=5/\∀t∈p.types,KT KK t/\t.fields.length<=8
theorem Bd.mono{b c b' c':Nat}{ts:List Typ}(h:Bd b c ts)(hb:b<=b')(hc:c<=c'):Bd b' c' ts:=⟨Nat.le_trans h.1 hb,fun t ht=>⟨(h.2 t ht).1,(h.2 t ht).2.1,Nat.le_trans (h.2 t ht).2.2.1 hc,(h.2 t ht).2.2.2⟩⟩
theorem zrq{ps:List Part}(hp:KL KK ps)(hs:SmL ps){put:List UInt8->List Field->Field->List Field}(h:∀n,zrm (put n))(i:Nat):Bd 20 160 (zrn ps put (ps.take i)):=by have hl:(ps.take i).length<=4:=Nat.le_trans (by rw[List.length_take];exact Nat.min_le_right _ _) hs.1;exact(zyw hp h (ps.take i) [] 0 0 ⟨by simp,by simp⟩ fun p hp=>hs.2 p (List.mem_of_mem_take hp)).mono (by omega) (by omega)
theorem zCE{ps:List Part}(hp:KL KK ps)(hs:SmL ps){put:List UInt8->List Field->Field->List Field}(h:∀n,zrm (put n)){S:List Typ}(hS:Bd 20 160 S){p:Part}(hpm:p∈ps)(j:Nat):Bd 25 200 ((p.types.take j).foldl (zkZ ps put) S):=by have hl:(p.types.take j).length<=5:=Nat.le_trans (by rw[List.length_take];exact Nat.min_le_right _ _) (hs.2 p hpm).1;exact(zum hp h (p.types.take j) S 20 160 hS fun t ht=>(hs.2 p hpm).2 t (List.mem_of_mem_take ht)).mono (by omega) (by omega)
theorem zsU{ps:List Part}{put:List UInt8->List Field->Field->List Field}{qs:List Part}{i:Nat}(h:i<qs.length):zrn ps put (qs.take (i+1))=qs[i].types.foldl (zkZ ps put) (zrn ps put (qs.take i)):=by unfold zrn;rw[List.take_succ_eq_append_getElem h,List.foldl_append];rfl
theorem ziW{α β:Type}{f:β->α->β}{l:List α}{z:β}{i:Nat}(h:i<l.length):(l.take (i+1)).foldl f z=f ((l.take i).foldl f z) l[i]:=by rw[List.take_succ_eq_append_getElem h,List.foldl_append];rfl
theorem zFx{ps:List Part}{ts:List Typ}{t:Typ}(hl:ts.length<=100):(zab (decide (ixM (fun u:Typ=>u.name==t.name) ts<0))
 (gd (decide (List.length ts+List.length [(⟨t.name,zpo ps t.name,[]⟩:Typ)]<=LIM)) (some ((ts.length:Int),([]:List UInt8),([]:List Typ),([97]:List UInt8),ts++[⟨t.name,zpo ps t.name,[]⟩])))
 (some (ixM (fun u:Typ=>u.name==t.name) ts,[],[],[97],ts)))=some (((crM ps ts t).1:Int),[],[],[97],(crM ps ts t).2):=by
 (rw[zb0];rotate_left;(have:=hBM;simp only[yhr,yhs,yht,List.length_map,yhc,yhb];omega))
 unfold ixM crM;cases h:ts.findIdx? (fun u=>u.name==t.name)with
 |none=>rfl
 |some k=>simp only[znq,zae]
theorem zxS{ps:List Part}(hp:KL KK ps)(hs:SmL ps):zoA ps=some ⟨[97],zrn ps (fun _=>zp4) ps⟩:=by
 rw[zqy];unfold zrg;rw[zdk (s0:=((0:Int),([]:List UInt8),([]:List Typ),([97]:List UInt8),([]:List Typ))) ps.length (fun i=>((i:Int),[],[],[97],zrn ps (fun _=>zp4) (ps.take i))) ((ps.length:Int),[],[],[97],zrn ps (fun _=>zp4) ps) rfl ?_ ?_]
 ·intro i hi;have h3:=zam hi (up hp.1);have hq:=hp.2 _ (ygh hi);have hO:=zrq hp hs (put:=fun _=>zp4) (fun _=>zve) i;rw[zsU hi];generalize zrn ps (fun _=>zp4) (ps.take i)=S at *;simp only[zaD hi,zaf];rw[zdk (s0:=((0:Int),([]:List UInt8),([]:List Typ),([97]:List UInt8),S)) ps[i].types.length (fun j=>((j:Int),[],[],[97],(ps[i].types.take j).foldl (zkZ ps fun _=>zp4) S)) ((ps[i].types.length:Int),[],[],[97],ps[i].types.foldl (zkZ ps fun _=>zp4) S) rfl ?_ ?_]
  ·simp only[h3,zag];rfl
  ·intro j hj;have h4:=zam hj (up hq.2.1);have hM:=zCE hp hs (put:=fun _=>zp4) (fun _=>zve) hO (ygh hi) j;have ht:=(hs.2 _ (ygh hi)).2 _ (ygh hj);rw[ziW hj];simp only[zax,zai hi,zaD hj,zai hj,zaf,zag,zac,h4,zkS hp];generalize(ps[i].types.take j).foldl (zkZ ps fun _=>zp4) S=ts at *;generalize ps[i].types[j]=t at *;have e:zbX (⟨[97],ts⟩,t.name)=some (ixM (fun u:Typ=>u.name==t.name) ts):=zdj (p:=⟨[97],ts⟩) (by have:=hM.1;show ts.length<=_;omega);rw[e,zac,zFx (Nat.le_trans hM.1 (by decide)),zac];have ha:=zv6 ps ts t;have hb:=zyN hp hM ht.1.1;unfold zkZ;generalize(crM ps ts t).1=a at *;generalize(crM ps ts t).2=ts1 at *;rw[zdk (s0:=((0:Int),([]:List UInt8),([]:List Typ),([97]:List UInt8),ts1)) t.fields.length (fun k=>((k:Int),[],[],[97],zy9 zp4 ts1 a (t.fields.take k))) ((t.fields.length:Int),[],[],[97],zy9 zp4 ts1 a t.fields) (by simp[zwk]) ?_ ?_]
   ·rfl
   ·intro k hk;have h5:=zam hk (up ht.1.2.2.1);have hkl:(t.fields.take k).length<=8:=Nat.le_trans (by rw[List.length_take];exact Nat.min_le_right _ _) ht.2;have hkf:∀f∈t.fields.take k,KF KK f:=fun f hf=>ht.1.2.2.2 f (List.mem_of_mem_take hf);have hc:=zom zve (t.fields.take k) ts1[a].fields hkf (hb.2 _ (ygh ha)).2.2.2;have hc2:=(hb.2 _ (ygh ha)).2.2.1;rw[zhX ha,zhX ha,ziW hk];generalize(t.fields.take k).foldl zp4 ts1[a].fields=fs at *;have g1:(decide (0<=(a:Int))&&decide ((a:Int)<((ts1.set a ⟨ts1[a].name,ts1[a].key,fs⟩).length:Int)))=true:=by simp;omega
    have g2:(ts1.set a ⟨ts1[a].name,ts1[a].key,fs⟩)[Int.toNat (a:Int)]? =some ⟨ts1[a].name,ts1[a].key,fs⟩:=by simp[ha]
    simp only[zaD hk,zaf,g1,zag,g2,zac,zax,zai hk,zxU (show fs.length<=1000 by omega) (ht.1.2.2.2 _ (ygh hk)),h5];simp[ha,gd]
   ·simp only[zan,zae,List.take_length]
  ·simp only[zax,zai hi,zan,zae,zag,zac,List.take_length]
 ·simp only[zan,zae,List.take_length]
theorem zBA{l:List Field}(hl:l.length<=KK):zfn l=some (l.any (·.hidden)):=by
 rw[zie];unfold zfe;have h2:zfq l=some (ixM (fun f:Field=>f.hidden) l):=by rw[zih];unfold zfh;refine ixf (g:=zgr) _ (up hl) (fun f _=>?_);rw[ziF];unfold zgg;rfl
 rw[h2,zac,zkm]
theorem zuY{ts:List Typ}{t:Typ}(hl:ts.length<=100):zfp (ts,t)=some (ixM (fun u:Typ=>u.name==t.name) ts):=by rw[zig];unfold zfg;dsimp only;refine ixf (g:=fun u=>zgq (u,t)) _ (Nat.le_trans hl (by decide)) (fun u _=>?_);rw[ziE];unfold zgf;dsimp only
theorem zxg{n k x:List UInt8}{fs:List Field}(hl:fs.length<=1000):∃g,zcr ((n,k),x,fs)=some ((g,fs.any fun f=>f.name==x),fs):=by
 rw[zeY];unfold zck;dsimp only;have h:za3 (fs,x)=some (ixM (fun t=>t.name==x) fs):=by rw[zda];unfold zbH;dsimp only;exact ixf (g:=fun t:Field=>zbq (t,x)) (fun t=>t.name==x) (Nat.le_trans hl (by decide)) (fun t _=>ztj t x)
 rw[h,zac];rcases zaT (fun t:Field=>t.name==x) fs with⟨h1,h2,h3⟩|⟨i,hi,h1,h2,_,h3⟩
 ·rw[h1,h3];exact⟨_,rfl⟩
 ·have g1:(decide (0<=(i:Int))&&decide ((i:Int)<(fs.length:Int)))=true:=by simp;omega
  rw[h1,h3,znq,zae,g1,zag,zai hi,zac];exact⟨_,rfl⟩
theorem zyH{l:List (List UInt8)}(h:KS KK l):zaJ l=some l:=by
 rw[zbr];unfold zaG;have:decide (l.length*16<=140737488355328)=true:=by have:=h.1;have hk:KK=1048576:=rfl;simp;omega
 rw[this];rfl
theorem zxq{ps:List Part}(hp:KL KK ps)(hs:SmL ps):zg0 ps=some ⟨[97],zrn ps (znB ps) ps⟩:=by
 rw[zll];unfold zju;have hpk:=zAc hp;rw[zdk (s0:=((0:Int),([]:List UInt8),([]:List Typ),([97]:List UInt8),([]:List Typ))) ps.length (fun i=>((i:Int),[],[],[97],zrn ps (znB ps) (ps.take i))) ((ps.length:Int),[],[],[97],zrn ps (znB ps) ps) rfl ?_ ?_]
 ·intro i hi;have h3:=zam hi (up hp.1);have hq:=hp.2 _ (ygh hi);have hO:=zrq hp hs hpk i;rw[zsU hi];generalize zrn ps (znB ps) (ps.take i)=S at *;simp only[zaD hi,zaf,zax,zai hi,zag,zac];rw[zdk (s0:=((0:Int),([]:List UInt8),([]:List Typ),([97]:List UInt8),S)) ps[i].types.length (fun j=>((j:Int),[],[],[97],(ps[i].types.take j).foldl (zkZ ps (znB ps)) S)) ((ps[i].types.length:Int),[],[],[97],ps[i].types.foldl (zkZ ps (znB ps)) S) rfl ?_ ?_]
  ·simp only[h3,zag];rfl
  ·intro j hj;have h4:=zam hj (up hq.2.1);have hM:=zCE hp hs hpk hO (ygh hi) j;have ht:=(hs.2 _ (ygh hi)).2 _ (ygh hj);rw[ziW hj];simp only[zax,zaD hj,zai hj,zaf,zag,zac,h4,zkC hp];generalize(ps[i].types.take j).foldl (zkZ ps (znB ps)) S=ts at *;generalize ps[i].types[j]=t at *;rw[zuY (Nat.le_trans hM.1 (by decide)),zac,zFx (Nat.le_trans hM.1 (by decide)),zac];have ha:=zv6 ps ts t;have hb:=zyN hp hM ht.1.1;unfold zkZ;generalize(crM ps ts t).1=a at *;generalize(crM ps ts t).2=ts1 at *;have g0:(decide (0<=(a:Int))&&decide ((a:Int)<(ts1.length:Int)))=true:=by simp;omega
   dsimp only;rw[g0,zag,Int.toNat_natCast];rw[zdk (s0:=((0:Int),a,([]:List UInt8),([]:List Typ),([97]:List UInt8),ts1)) t.fields.length (fun k=>((k:Int),a,[],[],[97],zy9 (znB ps t.name) ts1 a (t.fields.take k))) ((t.fields.length:Int),a,[],[],[97],zy9 (znB ps t.name) ts1 a t.fields) (by simp[zwk]) ?_ ?_]
   ·rfl
   ·intro k hk;have h5:=zam hk (up ht.1.2.2.1);have hkl:(t.fields.take k).length<=8:=Nat.le_trans (by rw[List.length_take];exact Nat.min_le_right _ _) ht.2;have hkf:∀f∈t.fields.take k,KF KK f:=fun f hf=>ht.1.2.2.2 f (List.mem_of_mem_take hf);have hc:=zom (hpk t.name) (t.fields.take k) ts1[a].fields hkf (hb.2 _ (ygh ha)).2.2.2;have hc2:=(hb.2 _ (ygh ha)).2.2.1;rw[zhX ha,zhX ha,ziW hk];generalize(t.fields.take k).foldl (znB ps t.name) ts1[a].fields=fs at *;have g2:(ts1.set a ⟨ts1[a].name,ts1[a].key,fs⟩)[a]? =some ⟨ts1[a].name,ts1[a].key,fs⟩:=by simp[ha]
    obtain⟨g,hg⟩:=zxg (n:=ts1[a].name) (k:=ts1[a].key) (x:=t.fields[k].name) (show fs.length<=1000 by omega);have hl:=zhf ps t.name t.fields[k].name;have hh:=zBA (l:=zaq ps t.name t.fields[k].name) (Nat.le_trans hl hp.1);simp only[zaD hk,zaf,zag,g2,zac,zax,zai hk,hg,h5,decide_true,List.set_set,zlQ hp,hh,zmM hp,zyH (zz2 hp _ _)];unfold znB;cases fs.any (fun f=>f.name==t.fields[k].name)with
    |true=>simp[zab]
    |false=>
     simp only[zae,cond_false];(rw[zb0];rotate_left;(have:=hBM;simp only[yhr,yhs,yht,List.length_map,yhc,yhb];omega))
     simp[zFY,zwo]
   ·simp only[zan,zae,List.take_length]
  ·simp only[zan,zae,List.take_length]
 ·simp only[zan,zae,List.take_length]
end Go.Fw
namespace Go.Fw
open Go
set_option linter.unusedSimpArgs false
set_option linter.unusedVariables false
abbrev SB:=List UInt8
def vF(H:SB->Bool)(N:SB->List SB)(fs:List Field):List Field:=fs.map fun g=>⟨g.name,g.of,g.list,g.must,g.far,H g.name,g.shared,N g.name⟩
def vT(H:SB->SB->Bool)(N:SB->SB->List SB)(ts:List Typ):List Typ:=ts.map fun t=>⟨t.name,t.key,vF (H t.name) (N t.name) t.fields⟩
def zq8(fs:List Field)(f:Field):List Field:=bif fs.any (fun g=>g.name==f.name)then fs else fs++[zFY f false []]
def upH(H:SB->Bool)(f:Field):SB->Bool:=fun x=>H x ||(f.name==x&&f.hidden)
def upN(N:SB->List SB)(f:Field):SB->List SB:=fun x=>bif f.name==x&&needy f then f.needs else N x
theorem zGu(H:SB->Bool)(N:SB->List SB)(fs:List Field)(x:SB):(vF H N fs).any (fun g=>g.name==x)=fs.any fun g=>g.name==x:=by unfold vF;rw[List.any_map];rfl
theorem zpX(H:SB->SB->Bool)(N:SB->SB->List SB)(ts:List Typ):(vT H N ts).length=ts.length:=by simp[vT]
theorem zAL(H:SB->SB->Bool)(N:SB->SB->List SB)(ts:List Typ)(i:Nat)(h:i<(vT H N ts).length):(vT H N ts)[i]=⟨(ts[i]'(by rwa [zpX]at h)).name,(ts[i]'(by rwa [zpX]at h)).key,vF (H (ts[i]'(by rwa [zpX]at h)).name) (N (ts[i]'(by rwa [zpX]at h)).name) (ts[i]'(by rwa [zpX]at h)).fields⟩:=by simp[vT]
theorem zv7(ps:List Part)(H:SB->SB->Bool)(N:SB->SB->List SB)(ts:List Typ)(t:Typ):crM ps (vT H N ts) t=((crM ps ts t).1,vT H N (crM ps ts t).2):=by
 have h:(vT H N ts).findIdx? (fun u=>u.name==t.name)=ts.findIdx? (fun u=>u.name==t.name):=by unfold vT;rw[List.findIdx?_map];rfl
 unfold crM;rw[h];cases ts.findIdx? (fun u=>u.name==t.name)with
 |none=>simp[vT,vF]
 |some k=>rfl
theorem zBk(ps:List Part)(ts:List Typ)(t:Typ):((crM ps ts t).2[(crM ps ts t).1]'(zv6 ps ts t)).name=t.name:=by
 have:∀(c:Nat×List Typ)(hc:c=crM ps ts t)(h:c.1<c.2.length),(c.2[c.1]'h).name=t.name:=by
  intro c hc h;unfold crM at hc;cases hf:ts.findIdx? (fun u=>u.name==t.name)with
  |none=>rw[hf]at hc;subst hc;simp
  |some k=>rw[hf]at hc;subst hc;have:=(List.findIdx?_eq_some_iff_getElem.1 hf).2.1;simpa using this
 exact this _ rfl _
theorem zyO(ps:List Part)(ts:List Typ)(t:Typ):∃a ts1,crM ps ts t=(a,ts1)/\∃ha:a<ts1.length,ts1[a].name=t.name:=⟨_,_,rfl,zv6 ps ts t,zBk ps ts t⟩
theorem zCq(H:SB->Bool)(N:SB->List SB)(fs:List Field)(i:Nat)(h:i<(vF H N fs).length)(h':i<fs.length):(vF H N fs)[i]=⟨fs[i].name,fs[i].of,fs[i].list,fs[i].must,fs[i].far,H fs[i].name,fs[i].shared,N fs[i].name⟩:=by simp[vF]
structure InvT (H:SB->SB->Bool)(N:SB->SB->List SB)(ts:List Typ):Prop where
 ty:∀(i j:Nat)(hi:i<ts.length)(hj:j<ts.length),ts[i].name=ts[j].name->i=j
 fd:∀t∈ts,∀(i j:Nat)(hi:i<t.fields.length)(hj:j<t.fields.length),t.fields[i].name=t.fields[j].name->i=j
 z:∀n x,(∀t∈ts,t.name=n->∀g∈t.fields,g.name≠x)->H n x=false/\N n x=[]
structure InvF (H:SB->Bool)(N:SB->List SB)(fs:List Field):Prop where
 fd:∀(i j:Nat)(hi:i<fs.length)(hj:j<fs.length),fs[i].name=fs[j].name->i=j
 z:∀x,(∀g∈fs,g.name≠x)->H x=false/\N x=[]
theorem zwU{fs:List Field}{f:Field}:(∀g∈fs,g∈zq8 fs f)/\∃g∈zq8 fs f,g.name=f.name:=by
 unfold zq8;cases h:fs.any (fun g=>g.name==f.name)with
 |true=>obtain⟨g,hg,he⟩:=List.any_eq_true.1 h;exact⟨fun g hg=>hg,g,hg,by simpa using he⟩
 |false=>exact⟨fun g hg=>List.mem_append_left _ hg,_,List.mem_append_right _ (List.mem_singleton.2 rfl),rfl⟩
theorem InvF.put{H:SB->Bool}{N:SB->List SB}{fs:List Field}(h:InvF H N fs)(f:Field):InvF (upH H f) (upN N f) (zq8 fs f):=by
 refine⟨?_,fun x hx=>?_⟩
 ·unfold zq8;cases ha:fs.any (fun g=>g.name==f.name)with
  |true=>exact h.fd
  |false=>
   simp only[cond_false];have hne:∀g∈fs,g.name≠f.name:=fun g hg=>by simpa using List.any_eq_false.1 ha g hg
   intro i j hi hj he;rw[yhr,List.length_singleton]at hi hj;by_cases h1:i<fs.length
   ·by_cases h2:j<fs.length
    ·rw[List.getElem_append_left h1,List.getElem_append_left h2]at he;exact h.fd i j h1 h2 he
    ·have:j=fs.length:=by omega
     subst this;rw[List.getElem_append_left h1,List.getElem_append_right (Nat.le_refl _)]at he;simp only[Nat.sub_self,List.getElem_cons_zero]at he;exact absurd he (hne _ (ygh h1))
   ·have:i=fs.length:=by omega
    subst this;by_cases h2:j<fs.length
    ·rw[List.getElem_append_left h2,List.getElem_append_right (Nat.le_refl _)]at he;simp only[Nat.sub_self,List.getElem_cons_zero]at he;exact absurd he.symm (hne _ (ygh h2))
    ·omega
 ·obtain⟨g,hg,he⟩:=(zwU (fs:=fs) (f:=f)).2;have h1:f.name≠x:=fun hc=>hx g hg (he.trans hc);have h2:=h.z x fun g hg=>hx g (zwU.1 g hg);have h3:(f.name==x)=false:=by simpa using h1
  unfold upH upN;rw[h3];simp[h2]
theorem zAb{H:SB->Bool}{N:SB->List SB}{fs:List Field}(h:InvF H N fs)(f:Field):zp4 (vF H N fs) f=vF (upH H f) (upN N f) (zq8 fs f):=by
 have hi:(vF H N fs).findIdx? (fun g=>g.name==f.name)=fs.findIdx? (fun g=>g.name==f.name):=by unfold vF;rw[List.findIdx?_map];rfl
 unfold zp4;rw[hi];cases hf:fs.findIdx? (fun g=>g.name==f.name)with
 |none=>
  have hn:=List.findIdx?_eq_none_iff.1 hf;have ha:fs.any (fun g=>g.name==f.name)=false:=by rw[List.any_eq_false];intro g hg;simp[hn g hg]
  have hz:=h.z f.name fun g hg=>by simpa using hn g hg
  unfold zq8;rw[ha];simp only[cond_false];unfold vF;rw[List.map_append];congr 1
  ·refine List.map_congr_left fun g hg=>?_;have h3:(f.name==g.name)=false:=by have:=hn g hg;rw[BEq.comm];exact this
   unfold upH upN;rw[h3];simp
  ·simp only[List.map_cons,List.map_nil,zFY,upH,upN,hz,BEq.rfl,Bool.true_and,Bool.false_or];unfold needy;cases hd:decide (0<f.needs.length)with
   |true=>rfl
   |false=>
    have:f.needs=[]:=by
     cases hfn:f.needs with
     |nil=>rfl
     |cons a b=>rw[hfn]at hd;simp at hd
    rw[this];rfl
 |some k=>
  obtain⟨hk,hkn,_⟩:=List.findIdx?_eq_some_iff_getElem.1 hf;have hkn':fs[k].name=f.name:=by simpa using hkn
  have ha:fs.any (fun g=>g.name==f.name)=true:=List.any_eq_true.2 ⟨_,ygh hk,hkn⟩;have hk':k<(vF H N fs).length:=by simpa[vF]using hk
  unfold zq8;rw[ha];simp only[cond_true,ygb hk'];refine List.ext_getElem (by simp[vF]) fun j h1 h2=>?_;have hj:j<fs.length:=by simpa[vF]using h2
  by_cases hjk:k=j
  ·subst hjk;rw[List.getElem_set_self,zCq _ _ _ _ _ hk,zCq _ _ _ _ _ hk];unfold zGN upH upN;simp[hkn']
  ·rw[List.getElem_set_ne hjk];have h3:(f.name==fs[j].name)=false:=by have:¬f.name=fs[j].name:=fun hc=>hjk (h.fd k j hk hj (hkn'.trans hc));simpa using this
   rw[zCq _ _ _ _ _ hj,zCq _ _ _ _ _ hj];unfold upH upN;simp[h3]
theorem zqS:∀(xs:List Field){H:SB->Bool}{N:SB->List SB}{fs:List Field},InvF H N fs->xs.foldl zp4 (vF H N fs)=vF (xs.foldl upH H) (xs.foldl upN N) (xs.foldl zq8 fs)/\InvF (xs.foldl upH H) (xs.foldl upN N) (xs.foldl zq8 fs)
|[],_,_,_,h=>⟨rfl,h⟩
|x:: xs,_,_,_,h=>by have:=zqS xs (h.put x);rw[List.foldl_cons,zAb h x];exact this
theorem zqT(ps:List Part)(n:SB):∀(xs fs:List Field),xs.foldl (znB ps n) (vF (zwo ps n) (zcD ps n) fs)=vF (zwo ps n) (zcD ps n) (xs.foldl zq8 fs)
|[],_=>rfl
|x:: xs,fs=>by
 have h:znB ps n (vF (zwo ps n) (zcD ps n) fs) x=vF (zwo ps n) (zcD ps n) (zq8 fs x):=by
  unfold znB zq8;rw[zGu];cases fs.any (fun g=>g.name==x.name)with
  |true=>rfl
  |false=>simp only[cond_false];unfold vF;rw[List.map_append];rfl
 rw[List.foldl_cons,h];exact zqT ps n xs (zq8 fs x)
theorem zyu(ps:List Part)(ts:List Typ)(t:Typ):zkZ ps (znB ps) (vT (zwo ps) (zcD ps) ts) t=vT (zwo ps) (zcD ps) (zkZ ps (fun _=>zq8) ts t):=by
 unfold zkZ;rw[zv7];obtain⟨a,ts1,hc,ha,hn⟩:=zyO ps ts t;rw[hc];dsimp only;have ha':a<(vT (zwo ps) (zcD ps) ts1).length:=by rw[zpX];exact ha
 rw[zhX ha',zhX ha,zAL];dsimp only;rw[hn,zqT];unfold vT;rw[List.map_set]
theorem zsS(ps:List Part):∀(us ts:List Typ),us.foldl (zkZ ps (znB ps)) (vT (zwo ps) (zcD ps) ts)=vT (zwo ps) (zcD ps) (us.foldl (zkZ ps fun _=>zq8) ts)
|[],_=>rfl
|u:: us,ts=>by rw[List.foldl_cons,zyu];exact zsS ps us _
theorem zoE(ps:List Part)(put:List UInt8->List Field->Field->List Field)(qs:List Part):zrn ps put qs=(qs.flatMap (·.types)).foldl (zkZ ps put) []:=by unfold zrn;rw[List.foldl_flatMap]
def upT(H:SB->SB->Bool)(t:Typ):SB->SB->Bool:=fun n=>bif t.name==n then t.fields.foldl upH (H n)else H n
def upU(N:SB->SB->List SB)(t:Typ):SB->SB->List SB:=fun n=>bif t.name==n then t.fields.foldl upN (N n)else N n
theorem zDt{ps:List Part}{H:SB->SB->Bool}{N:SB->SB->List SB}{ts:List Typ}(h:InvT H N ts)(t:Typ):InvT H N (crM ps ts t).2:=by
 unfold crM;cases hf:ts.findIdx? (fun u=>u.name==t.name)with
 |some k=>exact h
 |none=>
  have hn:=List.findIdx?_eq_none_iff.1 hf;have hne:∀u∈ts,u.name≠t.name:=fun u hu=>by simpa using hn u hu
  refine⟨?_,fun u hu=>?_,fun n x hx=>h.z n x fun u hu=>hx u (List.mem_append_left _ hu)⟩
  ·intro i j hi hj he;rw[yhr,List.length_singleton]at hi hj;by_cases h1:i<ts.length
   ·by_cases h2:j<ts.length
    ·rw[List.getElem_append_left h1,List.getElem_append_left h2]at he;exact h.ty i j h1 h2 he
    ·have:j=ts.length:=by omega
     subst this;rw[List.getElem_append_left h1,List.getElem_append_right (Nat.le_refl _)]at he;simp only[Nat.sub_self,List.getElem_cons_zero]at he;exact absurd he (hne _ (ygh h1))
   ·have:i=ts.length:=by omega
    subst this;by_cases h2:j<ts.length
    ·rw[List.getElem_append_left h2,List.getElem_append_right (Nat.le_refl _)]at he;simp only[Nat.sub_self,List.getElem_cons_zero]at he;exact absurd he.symm (hne _ (ygh h2))
    ·omega
  ·rcases List.mem_append.1 hu with h1|h1
   ·exact h.fd u h1
   ·rw[List.mem_singleton]at h1;subst h1;intro i j hi;simp at hi
theorem zyt{ps:List Part}{H:SB->SB->Bool}{N:SB->SB->List SB}{ts:List Typ}(h:InvT H N ts)(t:Typ):
 zkZ ps (fun _=>zp4) (vT H N ts) t=vT (upT H t) (upU N t) (zkZ ps (fun _=>zq8) ts t)/\InvT (upT H t) (upU N t) (zkZ ps (fun _=>zq8) ts t):=by
 unfold zkZ;rw[zv7];have hI:=zDt (ps:=ps) h t;obtain⟨a,ts1,hc,ha,hn⟩:=zyO ps ts t;rw[hc]at hI|-;dsimp only at hI|-;have ha':a<(vT H N ts1).length:=by rw[zpX];exact ha
 rw[zhX ha',zhX ha,zAL];dsimp only;have hF:InvF (H t.name) (N t.name) ts1[a].fields:=⟨hI.fd _ (ygh ha),fun x hx=>hI.z _ _ fun u hu hun g hg=>by obtain⟨j,hj,rfl⟩:=List.getElem_of_mem hu;have:j=a:=hI.ty j a hj ha (hun.trans hn.symm);subst this;exact hx g hg⟩
 obtain⟨e1,e2⟩:=zqS t.fields hF;rw[hn,e1];have hu1:upT H t t.name=t.fields.foldl upH (H t.name):=by show(bif t.name==t.name then _ else _)=_;rw[BEq.rfl];rfl
 have hu2:upU N t t.name=t.fields.foldl upN (N t.name):=by show(bif t.name==t.name then _ else _)=_;rw[BEq.rfl];rfl
 have hv1:∀n,t.name≠n->upT H t n=H n:=fun n hne=>by
  have hb:(t.name==n)=false:=by simpa using hne
  show(bif t.name==n then _ else _)=_;rw[hb];rfl
 have hv2:∀n,t.name≠n->upU N t n=N n:=fun n hne=>by
  have hb:(t.name==n)=false:=by simpa using hne
  show(bif t.name==n then _ else _)=_;rw[hb];rfl
 rw[<-hu1,<-hu2]at e2|-;generalize t.fields.foldl zq8 ts1[a].fields=fs at *;refine⟨List.ext_getElem (by simp[vT]) fun j h1 h2=>?_,?_,fun u hu=>?_,fun n x hx=>?_⟩
 ·have hj:j<ts1.length:=by simpa[vT]using h2
  by_cases hja:a=j
  ·subst hja;rw[List.getElem_set_self,zAL];simp
  ·rw[List.getElem_set_ne hja,zAL,zAL];have hne:t.name≠ts1[j].name:=fun hc=>hja (hI.ty a j ha hj (hn.trans hc));simp only[List.getElem_set_ne hja,hv1 _ hne,hv2 _ hne]
 ·intro i j hi hj he;have hi':i<ts1.length:=by simpa using hi
  have hj':j<ts1.length:=by simpa using hj
  have hnm:∀(k:Nat)(hk:k<(ts1.set a ⟨t.name,ts1[a].key,fs⟩).length)(hk':k<ts1.length),(ts1.set a ⟨t.name,ts1[a].key,fs⟩)[k].name=ts1[k].name:=by
   intro k hk hk';by_cases hka:a=k
   ·subst hka;simp[hn]
   ·rw[List.getElem_set_ne hka]
  rw[hnm i hi hi',hnm j hj hj']at he;exact hI.ty i j hi' hj' he
 ·rcases List.mem_or_eq_of_mem_set hu with h1|rfl
  ·exact hI.fd u h1
  ·exact e2.fd
 ·have hmem:(⟨t.name,ts1[a].key,fs⟩:Typ)∈ts1.set a ⟨t.name,ts1[a].key,fs⟩:=List.mem_set ha _;by_cases hnn:t.name=n
  ·subst hnn;exact e2.z x fun g hg=>hx _ hmem rfl g hg
  ·rw[hv1 _ hnn,hv2 _ hnn];refine hI.z n x fun u hu hun g hg=>?_;obtain⟨j,hj,rfl⟩:=List.getElem_of_mem hu;have hja:a≠j:=fun hc=>by subst hc;exact hnn (hn.symm.trans hun)
   refine hx ts1[j] ?_ hun g hg;have:=ygh (l:=ts1.set a ⟨t.name,ts1[a].key,fs⟩) (n:=j) (by simpa using hj);rw[List.getElem_set_ne hja]at this;exact this
theorem zqC{ps:List Part}:∀(us:List Typ){H:SB->SB->Bool}{N:SB->SB->List SB}{ts:List Typ},InvT H N ts->
 us.foldl (zkZ ps fun _=>zp4) (vT H N ts)=vT (us.foldl upT H) (us.foldl upU N) (us.foldl (zkZ ps fun _=>zq8) ts)
 |[],_,_,_,_=>rfl
 |u:: us,H,N,ts,h=>by obtain⟨h1,h2⟩:=zyt (ps:=ps) h u;rw[List.foldl_cons,h1];exact zqC us h2
end Go.Fw
namespace Go.Fw
open Go
set_option linter.unusedSimpArgs false
set_option linter.unusedVariables false
theorem zHw(xs:List Field)(H:SB->Bool)(x:SB):xs.foldl upH H x=(H x ||xs.any fun f=>f.name==x&&f.hidden):=by
 induction xs generalizing H with
 |nil=>simp
 |cons f xs ih=>rw[List.foldl_cons,ih,List.any_cons];unfold upH;rw[Bool.or_assoc]
theorem zFH(L:List Typ)(H:SB->SB->Bool)(n x:SB):L.foldl upT H n x=(H n x ||L.any fun t=>t.name==n&&t.fields.any fun f=>f.name==x&&f.hidden):=by
 induction L generalizing H with
 |nil=>simp
 |cons t L ih=>
  rw[List.foldl_cons,ih,List.any_cons];have:upT H t n x=(H n x ||(t.name==n&&t.fields.any fun f=>f.name==x&&f.hidden)):=by
   show(bif t.name==n then t.fields.foldl upH (H n)else H n) x=_;cases t.name==n with
   |true=>simp only[cond_true,Bool.true_and];exact zHw _ _ _
   |false=>simp
  rw[this,Bool.or_assoc]
theorem zHx(xs:List Field)(N:SB->List SB)(x:SB):(xs.foldl upN N x=N x/\∀f∈xs,f.name=x->needy f=false)\/∃f∈xs,f.name=x/\needy f=true/\xs.foldl upN N x=f.needs:=by
 induction xs generalizing N with
 |nil=>exact .inl ⟨rfl,by simp⟩
 |cons f xs ih=>
  rw[List.foldl_cons];rcases ih (upN N f)with⟨h1,h2⟩|⟨g,hg,h1,h2,h3⟩
  ·rw[h1];by_cases hc:f.name=x/\needy f=true
   ·refine .inr ⟨f,by simp,hc.1,hc.2,?_⟩;unfold upN;simp[hc.1,hc.2]
   ·refine .inl ⟨?_,fun g hg hgx=>?_⟩
    ·unfold upN;have:(f.name==x&&needy f)=false:=by
      cases hb:(f.name==x&&needy f)with
      |false=>rfl
      |true=>simp only[yhb,yhe]at hb;exact absurd hb hc
     rw[this];rfl
    ·rcases List.mem_cons.1 hg with rfl|hg
     ·cases hn:needy g with
      |false=>rfl
      |true=>exact absurd ⟨hgx,hn⟩ hc
     ·exact h2 g hg hgx
  ·exact .inr ⟨g,by simp[hg],h1,h2,h3⟩
theorem zFI(L:List Typ)(N:SB->SB->List SB)(n x:SB):(L.foldl upU N n x=N n x/\∀t∈L,t.name=n->∀f∈t.fields,f.name=x->needy f=false)\/∃t∈L,t.name=n/\∃f∈t.fields,f.name=x/\needy f=true/\L.foldl upU N n x=f.needs:=by
 induction L generalizing N with
 |nil=>exact .inl ⟨rfl,by simp⟩
 |cons t L ih=>
  rw[List.foldl_cons];rcases ih (upU N t)with⟨h1,h2⟩|⟨u,hu,h1,f,hf,h2,h3,h4⟩
  ·rw[h1];by_cases hn:t.name=n
   ·have e:upU N t n x=t.fields.foldl upN (N n) x:=by
     show(bif t.name==n then t.fields.foldl upN (N n)else N n) x=_;have:(t.name==n)=true:=by simpa using hn
     rw[this];rfl
    rw[e];rcases zHx t.fields (N n) x with⟨g1,g2⟩|⟨f,hf,g1,g2,g3⟩
    ·refine .inl ⟨g1,fun u hu hun f hf hfx=>?_⟩;rcases List.mem_cons.1 hu with rfl|hu
     ·exact g2 f hf hfx
     ·exact h2 u hu hun f hf hfx
    ·exact .inr ⟨t,by simp,hn,f,hf,g1,g2,g3⟩
   ·have e:upU N t n x=N n x:=by
     show(bif t.name==n then t.fields.foldl upN (N n)else N n) x=_;have:(t.name==n)=false:=by simpa using hn
     rw[this];rfl
    rw[e];refine .inl ⟨rfl,fun u hu hun f hf hfx=>?_⟩;rcases List.mem_cons.1 hu with rfl|hu
    ·exact absurd hun hn
    ·exact h2 u hu hun f hf hfx
  ·exact .inr ⟨u,by simp[hu],h1,f,hf,h2,h3,h4⟩
theorem zFq{ps:List Part}(hok:∀p∈ps,OkP p)(hI:I2 ps):zrn ps (fun _=>zp4) ps=zrn ps (znB ps) ps:=by
 rw[zoE,zoE];have e1:=zqC (ps:=ps) (ps.flatMap (·.types)) (H:=fun _ _=>false) (N:=fun _ _=>[]) (ts:=[]) ⟨fun i j hi=>absurd hi (Nat.not_lt_zero _),fun t ht=>absurd ht List.not_mem_nil,fun _ _ _=>⟨rfl,rfl⟩⟩;have e2:=zsS ps (ps.flatMap (·.types)) [];have e3:vT (fun _ _=>false) (fun _ _=>[]) []=[]:=rfl;have e4:vT (zwo ps) (zcD ps) []=[]:=rfl;rw[e3]at e1;rw[e4]at e2;rw[e1,e2];have h1:(ps.flatMap (·.types)).foldl upT (fun _ _=>false)=zwo ps:=by
  funext n x;rw[zFH,Bool.false_or,Bool.eq_iff_iff,List.any_eq_true];unfold zwo;rw[List.any_eq_true];constructor
  ·rintro⟨t,ht,he⟩;obtain⟨p,hp,htp⟩:=List.mem_flatMap.1 ht;simp only[yhb,yhe,List.any_eq_true]at he;obtain⟨rfl,f,hf,rfl,hh⟩:=he;exact⟨f,zrW hok hp htp hf,hh⟩
  ·rintro⟨f,hf,hh⟩;obtain⟨p,hp,t,ht,hn,hft,hfx,_⟩:=zok hf;refine⟨t,List.mem_flatMap.2 ⟨p,hp,ht⟩,?_⟩;simp only[yhb,yhe,List.any_eq_true];exact⟨hn,f,hft,hfx,hh⟩
 have h2:(ps.flatMap (·.types)).foldl upU (fun _ _=>[])=zcD ps:=by
  funext n x;rcases zFI (ps.flatMap (·.types)) (fun _ _=>[]) n x with⟨g1,g2⟩|⟨t,ht,hn,f,hf,hfx,hnd,g⟩
  ·rw[g1];rcases zh1 ps n x with⟨e,_⟩|⟨g,hg,hnd,e⟩
   ·exact e.symm
   ·obtain⟨p,hp,t,ht,hn,hft,hfx,_⟩:=zok hg;have:=g2 t (List.mem_flatMap.2 ⟨p,hp,ht⟩) hn g hft hfx;rw[hnd]at this;cases this
  ·rw[g];obtain⟨p,hp,htp⟩:=List.mem_flatMap.1 ht;subst hn;subst hfx;have:=zux.1 ((hI p hp t htp).2.2 f hf);exact(zwH hok this.2.2.1 (zrW hok hp htp hf) hnd).symm
 rw[h1,h2]
def AllL(ps:List Part):Part:=⟨[97],zrn ps (znB ps) ps⟩
theorem zA9.sm{ps:List Part}(h:zA9 ps)(hp:KL KK ps):SmL ps:=⟨h.2.1,fun p hpm=>⟨(h.ok p hpm).types,fun t ht=>⟨(hp.2 p hpm).2.2 t ht,(Wt.mk' ((hp.2 p hpm).2.2 t ht) ((h.ok p hpm).type t ht).line).fields⟩⟩⟩
theorem zvQ{ps:List Part}(h:SmL ps)(hp:KL KK ps):KP KK (AllL ps):=by
 have hb:=zrq hp h (zAc hp) ps.length;rw[List.take_length]at hb;have hk:KK=1048576:=rfl;refine⟨by show([97]:List UInt8).length<=_;rw[hk];decide,?_,fun t ht=>?_⟩
 ·have:=hb.1;show(zrn ps (znB ps) ps).length<=_;omega
 ·obtain⟨h1,h2,h3,h4⟩:=hb.2 t ht;exact⟨h1,h2,by omega,h4⟩
def chOkM(ps:List Part):Bool:=(v6I ps).code==0&&okP (AllL ps)
def zgS(ps:List Part)(t:Typ):List Own:=t.fields.map fun f=>⟨t.name,f.name,zbG t.name f.name 0 ps⟩
theorem zvc{ps:List Part}{ts:List Typ}(h5:ts.length<=5)(h8:∀t∈ts,t.fields.length<=8)(i:Nat):((ts.take i).flatMap (zgS ps)).length<=40:=by
 have:∀l:List Typ,(∀t∈l,t.fields.length<=8)->(l.flatMap (zgS ps)).length<=8*l.length:=by
  intro l;induction l with
  |nil=>simp
  |cons t l ih=>
   intro h;have h1:=ih fun u hu=>h u (by simp[hu]);have h2:=h t (by simp);have e:(zgS ps t).length=t.fields.length:=by simp[zgS]
   simp only[List.flatMap_cons,yhr,yhs,e];omega
 have h1:=this (ts.take i) fun t ht=>h8 t (List.mem_of_mem_take ht);have h2:(ts.take i).length<=5:=Nat.le_trans (by rw[List.length_take];exact Nat.min_le_right _ _) h5;omega
theorem zol{α β:Type}{l:List α}{g:α->List β}{i:Nat}(h:i<l.length):(l.take (i+1)).flatMap g=(l.take i).flatMap g++g l[i]:=by rw[List.take_succ_eq_append_getElem h,List.flatMap_append];simp
theorem ziY{ps:List Part}(hp:KL KK ps):∃r,zcq ps=some r/\decide (r.2.code>0)= !chOkM ps/\(chOkM ps=true->r.1.all=AllL ps/\r.1.owners=(AllL ps).types.flatMap (zgS ps)/\r.2=⟨0,[],[],0⟩):=by
 have hc:=zmd (ps:=ps);unfold chOkM;rw[zh8];unfold ze8;rw[zsb hp,zac];by_cases h0:(v6I ps).code=0
 ·have g1:decide ((v6I ps).code>0)=false:=by rw[h0];rfl
  have g2:((v6I ps).code==0)=true:=by rw[h0];rfl
  have hpre:=(hc.1.1 h0).1;have hsm:=hpre.sm hp;have hK:=zvQ hsm hp;have hA:zg0 ps=some (AllL ps):=zxq hp hsm;rw[g1,zae,hA,zac,g2,Bool.true_and,ztO hK,zac];cases ho:okP (AllL ps)with
  |false=>exact⟨_,rfl,rfl,fun h=>by cases h⟩
  |true=>
   have hO:=OkP.of ho;simp only[Bool.not_true,zae];have h8:∀t∈(AllL ps).types,t.fields.length<=8:=fun t ht=>(Wt.mk' (hK.2.2 t ht) (hO.type t ht).line).fields;have hown:=zvc (ps:=ps) hO.types h8;generalize AllL ps=all at *;rw[zdk (s0:=((0:Int),([]:List UInt8),([]:List Typ),([]:List Own),((0:Int),([]:List UInt8),([]:List UInt8),(0:Int)),(all.name,all.types),([]:List Own))) all.types.length (fun i=>((i:Int),[],[],[],(0,[],[],0),(all.name,all.types),(all.types.take i).flatMap (zgS ps))) ((all.types.length:Int),[],[],[],(0,[],[],0),(all.name,all.types),all.types.flatMap (zgS ps)) rfl ?_ ?_]
   ·exact⟨_,rfl,rfl,fun _=>⟨rfl,rfl,rfl⟩⟩
   ·intro i hi;have h3:=zam hi (up hK.2.1);have ho1:=hown i;have ht8:=h8 _ (ygh hi);simp only[zaD hi,zax,zai hi,zaf,zag,zac];rw[zdk (s0:=((0:Int),([]:List UInt8),([]:List Typ),([]:List Own),((0:Int),([]:List UInt8),([]:List UInt8),(0:Int)),(all.name,all.types),(all.types.take i).flatMap (zgS ps))) all.types[i].fields.length (fun j=>((j:Int),[],[],[],(0,[],[],0),(all.name,all.types),(all.types.take i).flatMap (zgS ps)++(zgS ps all.types[i]).take j)) ((all.types[i].fields.length:Int),[],[],[],(0,[],[],0),(all.name,all.types),(all.types.take i).flatMap (zgS ps)++zgS ps all.types[i]) (by simp) ?_ ?_]
    ·simp only[h3,zag];rw[zol hi];rfl
    ·intro j hj;have h4:=zam hj (by omega);have hj':j<(zgS ps all.types[i]).length:=by simpa[zgS]using hj
     simp only[zaD hj,zax,zai hj,zaf,zag,zac,zqV hp,h4];have hl:((zgS ps all.types[i]).take j).length<=8:=by rw[List.length_take];exact Nat.le_trans (Nat.min_le_right _ _) (by simpa[zgS]using ht8)
     (rw[zb0];rotate_left;(have:=hBM;simp only[yhr,yhs,yht,List.length_map,yhc,yhb];omega))
     rw[List.take_succ_eq_append_getElem hj',<-List.append_assoc];simp[zgS]
    ·simp only[zan,zae];rw[show(zgS ps all.types[i]).take all.types[i].fields.length=zgS ps all.types[i]from by rw[show all.types[i].fields.length=(zgS ps all.types[i]).length by simp[zgS],List.take_length]]
   ·simp only[zan,zae,List.take_length]
 ·have g1:decide ((v6I ps).code>0)=true:=by have:=hc.2;simp;omega
  have g2:((v6I ps).code==0)=false:=by simpa using h0
  rw[g1,zaf,g2];exact⟨_,rfl,g1,fun h=>by cases h⟩
theorem zCp{ps:List Part}(h:(v6S ps).code=0):v6S ps=⟨0,[],[],0⟩:=by
 unfold v6S at h|-;cases h0:(!(decide (0<ps.length)&&decide (ps.length<=4)))with
 |true=>rw[h0]at h;cases h
 |false=>
  rw[h0]at h;simp only[cond_false]at h|-;cases h1:fsI (p1F ps) 0 ps with
  |some r=>rw[h1]at h;obtain⟨j,hj,h2⟩:=zgw h1;have:=zsa h2;simp only at h;omega
  |none=>
   rw[h1]at h;simp only at h|-;cases h2:fsI (s2P ps) 0 ps with
   |some r=>rw[h2]at h;obtain⟨j,hj,h3⟩:=zgw h2;have:=zAn h3;simp only at h;exact absurd h this
   |none=>rfl
theorem zgG{ps:List Part}(hp:KL KK ps):∃r,zc9 ps=some r/\(r.2.code==0)=chOkM ps/\(chOkM ps=true->r.1.all=AllL ps/\r.1.owners=(AllL ps).types.flatMap (zgS ps)/\r.2=⟨0,[],[],0⟩):=by
 have hc:=zuy ps;unfold chOkM;rw[zj7];unfold zhr;rw[zy5 hp,zac];by_cases h0:(v6S ps).code=0
 ·have g1:((v6S ps).code !=0)=false:=by rw[h0];rfl
  have g0:((v6S ps).code==0)=true:=by rw[h0];rfl
  have g2:((v6I ps).code==0)=true:=by rw[hc.1 h0];rfl
  have hpre:=(zsx.1 h0).1;have hI:=(zDh hpre.ok).1 (zsx.1 h0).2;have hsm:=hpre.sm hp;have hK:=zvQ hsm hp;have hA:zoA ps=some (AllL ps):=by rw[zxS hp hsm,zFq hpre.ok hI];rfl
  rw[g1,zae,hA,zac,g2,Bool.true_and,znD hK,zac,show((pcM (AllL ps)).code !=0)= !okP (AllL ps)from rfl];cases ho:okP (AllL ps)with
  |false=>exact⟨_,rfl,rfl,fun h=>by cases h⟩
  |true=>
   have hO:=OkP.of ho;simp only[Bool.not_true,zae];have h8:∀t∈(AllL ps).types,t.fields.length<=8:=fun t ht=>(Wt.mk' (hK.2.2 t ht) (hO.type t ht).line).fields;have hown:=zvc (ps:=ps) hO.types h8;generalize AllL ps=all at *;rw[zdk (s0:=((0:Int),([]:List UInt8),([]:List Typ),([]:List Own),((0:Int),([]:List UInt8),([]:List UInt8),(0:Int)),(all.name,all.types),([]:List Own))) all.types.length (fun i=>((i:Int),[],[],[],(0,[],[],0),(all.name,all.types),(all.types.take i).flatMap (zgS ps))) ((all.types.length:Int),[],[],[],(0,[],[],0),(all.name,all.types),all.types.flatMap (zgS ps)) rfl ?_ ?_]
   ·exact⟨_,rfl,g0,fun _=>⟨rfl,rfl,zCp h0⟩⟩
   ·intro i hi;have h3:=zam hi (up hK.2.1);have ho1:=hown i;have ht8:=h8 _ (ygh hi);simp only[zaD hi,zax,zai hi,zaf,zag,zac];rw[zdk (s0:=((0:Int),([]:List UInt8),([]:List Typ),([]:List Own),((0:Int),([]:List UInt8),([]:List UInt8),(0:Int)),(all.name,all.types),(all.types.take i).flatMap (zgS ps))) all.types[i].fields.length (fun j=>((j:Int),[],[],[],(0,[],[],0),(all.name,all.types),(all.types.take i).flatMap (zgS ps)++(zgS ps all.types[i]).take j)) ((all.types[i].fields.length:Int),[],[],[],(0,[],[],0),(all.name,all.types),(all.types.take i).flatMap (zgS ps)++zgS ps all.types[i]) (by simp) ?_ ?_]
    ·simp only[h3,zag];rw[zol hi];rfl
    ·intro j hj;have h4:=zam hj (by omega);have hj':j<(zgS ps all.types[i]).length:=by simpa[zgS]using hj
     simp only[zaD hj,zax,zai hj,zaf,zag,zac,zmW hp,h4];have hl:((zgS ps all.types[i]).take j).length<=8:=by rw[List.length_take];exact Nat.le_trans (Nat.min_le_right _ _) (by simpa[zgS]using ht8)
     (rw[zb0];rotate_left;(have:=hBM;simp only[yhr,yhs,yht,List.length_map,yhc,yhb];omega))
     rw[List.take_succ_eq_append_getElem hj',<-List.append_assoc];simp[zgS]
    ·simp only[zan,zae];rw[show(zgS ps all.types[i]).take all.types[i].fields.length=zgS ps all.types[i]from by rw[show all.types[i].fields.length=(zgS ps all.types[i]).length by simp[zgS],List.take_length]]
   ·simp only[zan,zae,List.take_length]
 ·have g1:((v6S ps).code !=0)=true:=by simpa using h0
  have g3:((v6S ps).code==0)=false:=by simpa using h0
  have g2:((v6I ps).code==0)=false:=by have:¬(v6I ps).code=0:=fun h=>h0 (hc.2 h);simpa using this
  rw[g1,zaf,g2];exact⟨_,rfl,g3,fun h=>by cases h⟩
end Go.Fw
namespace Go.Fw
open Go
set_option linter.unusedSimpArgs false
set_option linter.unusedVariables false
abbrev qW:SB:=[113,117,101,114,121]
def zqZ(p:Part)(n f:SB):Bool:=match zeK p n f with
|some g=>!g.far&&!needy g
|none=>false
def zny(p:Part)(n:SB):Bool:=match tyM p n with
|some t=>t.key !=[]
|none=>false
def zgv(ps:List Part)(n f:SB):Int:=ixM (fun p=>ziw n f p&&(n==qW ||zny p n)) ps
def zl4(ps:List Part)(fr:Part)(i:Int)(n f:SB):Int:=
 bif n==qW then zgv ps n f else bif zqZ fr n f then i else
 bif decide (zgv ps n f<0)then -1 else bif !zny fr n then -1 else
 match ps[(zgv ps n f).toNat]? with
 |some p=>bif ((zeK p n f).getD fd0).needs.any (fun x=>!zqZ fr n x&&decide (zgv ps n x<0))then -1 else zgv ps n f
 |none=>-1
theorem znG{p:Part}{n f:SB}(hp:KP KK p):ziN (p,n,f)=some (zqZ p n f):=by
 rw[znk];unfold zlg;dsimp only;rw[zd9 hp,zac];unfold zqZ needy;cases zeK p n f with
 |none=>rfl
 |some g=>simp only[Option.isSome_some,Option.getD_some,zD6];cases g.far<;>cases decide (0<g.needs.length)<;>rfl
theorem znF{p:Part}{n:SB}(hp:KP KK p):ziM (p,n)=some (zny p n):=by
 rw[znj];unfold zlf;dsimp only;rw[zdj (up hp.2.1),zac];unfold zny tyM;rcases zaT (fun t:Typ=>t.name==n) p.types with⟨h1,h2,_⟩|⟨i,hi,h1,h2,_,_⟩
 ·rw[h1,h2];rfl
 ·rw[h1,h2,zFB,zaf,zag,zai hi];rfl
theorem zFJ{α:Type}(q:α->Bool)(ys:List α)(i:Nat):fsI (fun i p=>bif !q p then none else some (i:Int)) i ys=match ys.findIdx? q with|some k=>some ((k+i:Nat):Int)|none=>none:=by
 induction ys generalizing i with
 |nil=>rfl
 |cons y ys ih=>
  simp only[fsI,List.findIdx?_cons];cases hq:q y with
  |true=>simp
  |false=>
   simp only[Bool.not_false,cond_true,yhj,if_false];rw[ih (i+1)];cases h:ys.findIdx? q with
   |none=>rfl
   |some k=>simp;omega
theorem znE{ps:List Part}{n f:SB}(hp:KL KK ps):ziL (ps,n,f)=some (zgv ps n f):=by
 rw[zni];unfold zle;dsimp only;unfold zgv;rw[zcj (s0:=(0:Int)) ps (fun i=>(i:Int)) (ps.length:Int) (fun i p=>bif !(ziw n f p&&(n==qW ||zny p n))then none else some (i:Int)) rfl ?_ ?_]
 ·rw[zFJ];unfold ixM;cases ps.findIdx? _ with
  |none=>rfl
  |some k=>simp[zav]
 ·intro i hi;have h3:=zam hi (up hp.1);have hq:=hp.2 _ (ygh hi);simp only[zaD hi,zax,zai hi,zaf,zag,zac,h3,zd9 hq,znF hq];unfold ziw;cases zeK ps[i] n f with
  |none=>rfl
  |some g=>simp only[Option.isSome_some,Option.getD_some];cases g.far<;>cases(n==qW)<;>cases zny ps[i] n<;>rfl
 ·simp only[zan,zae]
theorem ztk(ps:List Part)(n f:SB):zgv ps n f= -1\/∃i:Nat,i<ps.length/\zgv ps n f=i:=by
 unfold zgv;rcases zaT (fun p=>ziw n f p&&(n==qW ||zny p n)) ps with⟨h1,_,_⟩|⟨i,hi,h1,_,_,_⟩
 ·exact .inl h1
 ·exact .inr ⟨i,hi,h1⟩
theorem zzd{p:Part}{n f:SB}(hp:KP KK p):(((zeK p n f).getD fd0).needs).length<=KK:=by
 cases h:zeK p n f with
 |none=>simp[fd0]
 |some g=>obtain⟨t,ht,_,_,hg,_⟩:=zjL h;exact((hp.2.2 t ht).2.2.2 g hg).2.2.1
theorem zvq{ps:List Part}{i:Nat}{n f:SB}(hp:KL KK ps)(hi:i<ps.length):zoe (ps,(i:Int),n,f)=some (zl4 ps ps[i] i n f):=by
 rw[zoC];unfold zn8;dsimp only;have hq:=hp.2 _ (ygh hi);unfold zl4;rw[znE hp];simp only[zax,zai hi,zag,zac,znG hq,bne];cases hn:(n==[113,117,101,114,121])with
 |true=>rfl
 |false=>
  simp only[Bool.not_false,zaf,zac,cond_false];cases hl:zqZ ps[i] n f with
  |true=>rfl
  |false=>
   simp only[zae,cond_false,zac];rcases ztk ps n f with h1|⟨k,hk,h1⟩
   ·rw[h1];rfl
   ·rw[h1,znq];simp only[zae,cond_false,zax,zag,zai hk,zac,zd9 (hp.2 _ (ygh hk)),znF hq,Int.toNat_natCast,ygb hk];cases zny ps[i] n with
    |false=>rfl
    |true=>
     simp only[Bool.not_true,zae,cond_false];have hnd:=zzd (n:=n) (f:=f) (hp.2 _ (ygh hk));generalize((zeK ps[k] n f).getD fd0).needs=nd at *;rw[zcj (s0:=(0:Int)) nd (fun i=>(i:Int)) (nd.length:Int) (fun _ x=>bif !(!zqZ ps[i] n x&&decide (zgv ps n x<0))then none else some (-1)) rfl ?_ ?_]
     ·rw[zce,zeq,zoF];cases nd.all _<;>rfl
     ·intro j hj;have h3:=zam hj (up hnd);simp only[zaD hj,zax,zai hj,zaf,zag,zac,h3,znG hq,znE hp];cases zqZ ps[i] n nd[j]<;>cases decide (zgv ps n nd[j]<0)<;>rfl
     ·simp only[zan,zae]
theorem zwI{ps:List Part}{i:Nat}{n f:SB}(hi:i<ps.length):zl4 ps ps[i] i n f= -1\/∃k:Nat,k<ps.length/\zl4 ps ps[i] i n f=k:=by
 unfold zl4;have hf:=ztk ps n f;cases(n==qW)with
 |true=>exact hf
 |false=>
  cases zqZ ps[i] n f with
  |true=>exact .inr ⟨i,hi,rfl⟩
  |false=>
   simp only[cond_false];cases decide (zgv ps n f<0)with
   |true=>exact .inl rfl
   |false=>
    cases zny ps[i] n with
    |false=>exact .inl rfl
    |true=>
     simp only[cond_false,Bool.not_true];cases ps[(zgv ps n f).toNat]? with
     |none=>exact .inl rfl
     |some p=>
      simp only[];cases((zeK p n f).getD fd0).needs.any _ with
      |true=>exact .inl rfl
      |false=>exact hf
end Go.Fw
namespace Go.Fw
open Go
set_option linter.unusedSimpArgs false
set_option linter.unusedVariables false
abbrev WS:=List SB×List Stt×List (List SB)
def zj4(ps:List Part)(fr:Part)(i:Nat)(a:Nat)(n:SB)(w:WS)(f:Field):WS:=
 bif f.hidden then w else
 bif decide (zl4 ps fr i n f.name<0)then((bif decide (0<w.1.length)then w.1 else(w.2.2[a]?.getD [])++[f.name]),w.2.1,w.2.2)else
 bif !zsi f.of&&!w.2.1.any (fun s=>s.part==zl4 ps fr i n f.name&&(s.type==f.of&&true))then(w.1,w.2.1++[⟨zl4 ps fr i n f.name,f.of⟩],w.2.2++[(w.2.2[a]?.getD [])++[f.name]])else w
def goM(ps:List Part)(all:Part)(a:Nat)(w:WS):WS:=match w.2.1[a]? with
|some s=>match ps[s.part.toNat]?,tyM all s.type with
 |some fr,some t=>t.fields.foldl (zj4 ps fr s.part.toNat a s.type) w
 |_,_=>w
|none=>w
structure WI (ps:List Part)(all:Part)(w:WS):Prop where
 len:w.2.2.length=w.2.1.length
 st:∀s∈w.2.1,(∃i:Nat,i<ps.length/\s.part=i)/\∃t,tyM all s.type=some t
 nd:(w.2.1.map fun s=>(s.part,s.type)).Nodup
 wl:∀l∈w.2.2,l.length<=w.2.1.length
 bl:w.1.length<=w.2.1.length+1
theorem zEH{l:List Stt}{s:Stt}(hl:l.length<=4611686018427387904):zof (l,s)=some (ixM (fun x=>x.part==s.part&&(x.type==s.type&&true)) l):=by rw[zoD];unfold zn9;dsimp only;exact ixf (g:=fun x:Stt=>some (x.part==s.part&&(x.type==s.type&&true))) _ hl (fun _ _=>rfl)
theorem zAG{ps:List Part}{all:Part}{fr:Part}{i a:Nat}{n:SB}{w:WS}{f:Field}(hw:WI ps all w)(ha:a<w.2.1.length)(hn:zl4 ps fr i n f.name= -1\/∃k:Nat,k<ps.length/\zl4 ps fr i n f.name=k)(hk:zsi f.of=true\/∃t,tyM all f.of=some t):
 WI ps all (zj4 ps fr i a n w f)/\w.2.1.length<=(zj4 ps fr i a n w f).2.1.length/\(∀j,j<w.2.1.length->(zj4 ps fr i a n w f).2.1[j]? =w.2.1[j]?):=by
 unfold zj4;have hla:a<w.2.2.length:=by rw[hw.len];exact ha
 have hway:(w.2.2[a]?.getD []).length<=w.2.1.length:=by rw[ygb hla,Option.getD_some];exact hw.wl _ (ygh hla)
 cases f.hidden with
 |true=>exact⟨hw,Nat.le_refl _,fun _ _=>rfl⟩
 |false=>
  simp only[cond_false];rcases hn with h1|⟨k,hk1,h1⟩
  ·rw[h1];simp only[show decide ((-1:Int)<0)=true from rfl,cond_true];refine⟨⟨hw.len,hw.st,hw.nd,hw.wl,?_⟩,Nat.le_refl _,fun _ _=>by first|rfl|trivial⟩;dsimp only;cases decide (0<w.1.length)with
   |true=>exact hw.bl
   |false=>simp only[cond_false,yhr,List.length_singleton];omega
  ·rw[h1,znq];simp only[cond_false];cases hs:(!zsi f.of&&!w.2.1.any (fun s=>s.part==(k:Int)&&(s.type==f.of&&true)))with
   |false=>exact⟨hw,Nat.le_refl _,fun _ _=>rfl⟩
   |true=>
    simp only[yhb,yho,Bool.and_true]at hs;simp only[cond_true];refine⟨⟨?_,?_,?_,?_,?_⟩,by simp,fun j hj=>?_⟩
    ·simp[hw.len]
    ·intro s hs';rcases List.mem_append.1 hs' with h2|h2
     ·exact hw.st s h2
     ·rw[List.mem_singleton]at h2;subst h2;refine⟨⟨k,hk1,rfl⟩,?_⟩;rcases hk with h3|h3
      ·rw[hs.1]at h3;cases h3
      ·exact h3
    ·dsimp only;rw[List.map_append,List.nodup_append];refine⟨hw.nd,by simp,fun x hx y hy=>?_⟩;simp only[List.map_cons,List.map_nil,List.mem_singleton]at hy;subst hy;obtain⟨s,hsm,rfl⟩:=List.mem_map.1 hx;intro hc;have:=List.any_eq_false.1 hs.2 s hsm;simp only[Prod.mk.injEq]at hc;rw[hc.1,hc.2]at this;simp at this
    ·intro l hl;rcases List.mem_append.1 hl with h2|h2
     ·have:=hw.wl l h2;simp only[yhr,List.length_singleton];omega
     ·rw[List.mem_singleton]at h2;subst h2;simp only[yhr,List.length_singleton];omega
    ·have:=hw.bl;simp only[yhr,List.length_singleton];omega
    ·exact yge hj
theorem zwK{α:Type} [DecidableEq α]:∀(l S:List α),l.Nodup->(∀x∈l,x∈S)->l.length<=S.length
|[],_,_,_=>by simp
|x:: l,S,hn,hs=>by obtain⟨h1,h2⟩:=List.nodup_cons.1 hn;have:=zwK l (S.erase x) h2 fun y hy=>(List.mem_erase_of_ne (fun e=>h1 (by rw[<-e];exact hy))).2 (hs y (by simp[hy]));rw[List.length_erase_of_mem (hs x (by simp))]at this;have hp:0<S.length:=List.length_pos_of_mem (hs x (by simp));simp only[yhs];omega
def stS(n:Nat)(all:Part):List (Int×SB):=(List.range n).flatMap fun p:Nat=>all.types.map fun t=>(Int.ofNat p,t.name)
theorem zET(n:Nat)(all:Part):(stS n all).length=n*all.types.length:=by
 unfold stS;induction n with
 |zero=>simp
 |succ n ih=>rw[List.range_succ,List.flatMap_append,yhr,ih];simp[Nat.succ_mul]
theorem WI.bound{ps:List Part}{all:Part}{w:WS}(h:WI ps all w)(h4:ps.length<=4)(h5:all.types.length<=5):w.2.1.length<=20:=by
 have:=zwK _ (stS ps.length all) h.nd fun x hx=>by obtain⟨s,hs,rfl⟩:=List.mem_map.1 hx;obtain⟨⟨i,hi,he⟩,t,ht⟩:=h.st s hs;refine List.mem_flatMap.2 ⟨i,List.mem_range.2 hi,List.mem_map.2 ⟨t,(zjf ht).1,?_⟩⟩;rw[(zjf ht).2,he];rfl
 rw[List.length_map,zET]at this;have h2:ps.length*all.types.length<=4*5:=Nat.mul_le_mul h4 h5;omega
theorem zrD{ps:List Part}{all:Part}{fr:Part}{i a:Nat}{n:SB}(hn:∀f,zl4 ps fr i n f= -1\/∃k:Nat,k<ps.length/\zl4 ps fr i n f=k):∀(fs:List Field)(w:WS),(∀f∈fs,zsi f.of=true\/∃t,tyM all f.of=some t)->WI ps all w->a<w.2.1.length->
 WI ps all (fs.foldl (zj4 ps fr i a n) w)/\w.2.1.length<=(fs.foldl (zj4 ps fr i a n) w).2.1.length/\(∀j,j<w.2.1.length->(fs.foldl (zj4 ps fr i a n) w).2.1[j]? =w.2.1[j]?)
 |[],w,_,hw,_=>⟨hw,Nat.le_refl _,fun _ _=>rfl⟩
 |f:: fs,w,hk,hw,ha=>by obtain⟨h1,h2,h3⟩:=zAG hw ha (hn f.name) (hk f (by simp));obtain⟨g1,g2,g3⟩:=zrD hn fs _ (fun f hf=>hk f (by simp[hf])) h1 (Nat.lt_of_lt_of_le ha h2);exact⟨g1,Nat.le_trans h2 g2,fun j hj=>(g3 j (Nat.lt_of_lt_of_le hj h2)).trans (h3 j hj)⟩
theorem zFR{all:Part}(hO:OkP all){t:Typ}(ht:t∈all.types):∀f∈t.fields,zsi f.of=true\/∃u,tyM all f.of=some u:=by
 intro f hf;have:=(hO.type t ht).known f hf;unfold knownM at this;rw[Bool.or_eq_true]at this;rcases this with h|h
 ·exact .inl h
 ·exact .inr (Option.isSome_iff_exists.1 h)
theorem zDH{ps:List Part}{all:Part}(hO:OkP all){a:Nat}{w:WS}(hw:WI ps all w)(ha:a<w.2.1.length):WI ps all (goM ps all a w)/\w.2.1.length<=(goM ps all a w).2.1.length:=by
 unfold goM;rw[ygb ha];obtain⟨⟨i,hi,he⟩,t,ht⟩:=hw.st _ (ygh ha);have hti:w.2.1[a].part.toNat=i:=by rw[he];exact Int.toNat_natCast i
 simp only[hti,ygb hi,ht];have:=zrD (ps:=ps) (all:=all) (fr:=ps[i]) (i:=i) (a:=a) (n:=w.2.1[a].type) (fun f=>zwI hi) t.fields w (zFR hO (zjf ht).1) hw ha;exact⟨this.1,this.2.1⟩
theorem zAD{ps:List Part}{all:Part}(hp:KL KK ps)(h4:ps.length<=4)(hA:KP KK all)(hO:OkP all){a:Nat}{w:WS}(hw:WI ps all w)(ha:a<w.2.1.length):
 zfm (ps,all,(a:Int),w.1,w.2.1,w.2.2)=some (goM ps all a w):=by
 rw[zid];unfold zfd;dsimp only;unfold goM;rw[ygb ha];obtain⟨⟨i,hi,he⟩,t,ht⟩:=hw.st _ (ygh ha);have hti:w.2.1[a].part.toNat=i:=by rw[he];exact Int.toNat_natCast i
 have g1:(decide (0<=(a:Int))&&decide ((a:Int)<(w.2.1.length:Int)))=true:=by simp;omega
 simp only[g1,zag,zai ha,zac,zdj (up hA.2.1),hti,ygb hi,ht];rcases zaT (fun u:Typ=>u.name==w.2.1[a].type) all.types with⟨e1,e2,_⟩|⟨k,hk,e1,e2,_,_⟩
 ·unfold tyM at ht;rw[e2]at ht;cases ht
 ·have htk:t=all.types[k]:=by unfold tyM at ht;rw[e2]at ht;exact(Option.some.inj ht).symm
  have htm:=(zjf ht).1;rw[e1,zax,zag,zai hk,zac,<-htk];have hft:=(hA.2.2 t htm).2.2.1;have hinv:=fun j=>zrD (ps:=ps) (all:=all) (fr:=ps[i]) (i:=i) (a:=a) (n:=w.2.1[a].type) (fun f=>zwI hi) (t.fields.take j) w (fun f hf=>zFR hO htm f (List.mem_of_mem_take hf)) hw ha;rw[zdk (s0:=((0:Int),w.1,w.2.1,w.2.2)) t.fields.length (fun j=>((j:Int),((t.fields.take j).foldl (zj4 ps ps[i] i a w.2.1[a].type) w).1,((t.fields.take j).foldl (zj4 ps ps[i] i a w.2.1[a].type) w).2.1,((t.fields.take j).foldl (zj4 ps ps[i] i a w.2.1[a].type) w).2.2)) ((t.fields.length:Int),(t.fields.foldl (zj4 ps ps[i] i a w.2.1[a].type) w).1,(t.fields.foldl (zj4 ps ps[i] i a w.2.1[a].type) w).2.1,(t.fields.foldl (zj4 ps ps[i] i a w.2.1[a].type) w).2.2) rfl ?_ ?_]
  ·intro j hj;have h3:=zam hj (up hft);rw[ziW hj];obtain⟨v1,v2,v3⟩:=hinv j;have v4:=v3 a ha;generalize(t.fields.take j).foldl (zj4 ps ps[i] i a w.2.1[a].type) w=v at *;have hav:a<v.2.1.length:=Nat.lt_of_lt_of_le ha v2;have hal:a<v.2.2.length:=by rw[v1.len];exact hav
   have hb:=v1.bound h4 hO.types;have hwl:=v1.wl _ (ygh hal);have g2:decide ((a:Int)<(v.2.2.length:Int))=true:=by simp;omega
   have g3:decide ((v.2.2[a]).length<=LIM)=true:=by(have:=hBM;simp only[yhr,yhs,yht,List.length_map,yhc,yhb];omega)
   have g4:decide ((v.2.2[a]).length+1<=LIM)=true:=by(have:=hBM;simp only[yhr,yhs,yht,List.length_map,yhc,yhb];omega)
   have g5:decide (v.2.1.length+1<=LIM)=true:=by(have:=hBM;simp only[yhr,yhs,yht,List.length_map,yhc,yhb];omega)
   have g6:decide (v.2.2.length+1<=LIM)=true:=by have:=v1.len;(have:=hBM;simp only[yhr,yhs,yht,List.length_map,yhc,yhb];omega)
   simp only[zaD hj,zax,zai hj,zaf,zag,zac,h3,g2,zai hal,g3,g4,he,zvq hp hi,zsj,zEH (Nat.le_trans hb (by decide)),zCQ,List.length_singleton,g5,g6,Bool.and_self];unfold zj4;rw[ygb hal,Option.getD_some];generalize t.fields[j]=f at *;cases f.hidden with
   |true=>rfl
   |false=>
    simp only[zae,cond_false];cases decide (zl4 ps ps[i] i w.2.1[a].type f.name<0)with
    |true=>simp only[zaf,cond_true,zD6];cases decide (0<v.1.length)<;>rfl
    |false=>
     simp only[zae,cond_false];cases zsi f.of with
     |true=>rfl
     |false=>simp only[Bool.not_false,zaf,zac,Bool.true_and];cases v.2.1.any (fun s=>s.part==zl4 ps ps[i] i w.2.1[a].type f.name&&(s.type==f.of&&true))<;>rfl
  ·simp only[zan,zae,List.take_length]
end Go.Fw
namespace Go.Fw
open Go
set_option linter.unusedSimpArgs false
set_option linter.unusedVariables false
def WW(ps:List Part)(all:Part):Nat->WS
|0=>([],[⟨0,qW⟩],[[]])
|k+1=>goM ps all k (WW ps all k)
theorem zvU{ps:List Part}{all:Part}(hp0:0<ps.length)(hO:OkP all):∀(k:Nat),(∀j,j<k->j<(WW ps all j).2.1.length)->WI ps all (WW ps all k)/\0<(WW ps all k).2.1.length
|0,_=>by
 refine⟨⟨rfl,fun s hs=>?_,by simp[WW],fun l hl=>?_,by simp[WW]⟩,by simp[WW]⟩
 ·simp only[WW,List.mem_singleton]at hs;subst hs;refine⟨⟨0,hp0,rfl⟩,?_⟩;have:=hO.root;unfold noRoot at this;cases hT:all.types with
  |nil=>rw[hT]at this;cases this
  |cons t ts=>
   rw[hT]at this;simp only[Bool.or_eq_false_iff,yhh]at this;refine⟨t,?_⟩;unfold tyM;rw[hT,List.find?_cons];have h2:(t.name==qW)=true:=by simpa using this.1
   show(match(t.name==qW)with|true=>_|false=>_)=_;rw[h2]
 ·simp only[WW,List.mem_singleton]at hl;subst hl;simp[WW]
|k+1,h=>by obtain⟨h1,h2⟩:=zvU hp0 hO k fun j hj=>h j (by omega);have h3:=zDH hO h1 (h k (by omega));exact⟨h3.1,Nat.lt_of_lt_of_le h2 h3.2⟩
theorem zFp{ps:List Part}{all:Part}(hp0:0<ps.length)(h4:ps.length<=4)(hO:OkP all):∃N,(WW ps all N).2.1.length<=N/\N<=20/\∀k,k<N->k<(WW ps all k).2.1.length:=by
 have:∀m,m<=21->(∃N,(WW ps all N).2.1.length<=N/\N<=20/\∀k,k<N->k<(WW ps all k).2.1.length)\/∀k,k<m->k<(WW ps all k).2.1.length:=by
  intro m;induction m with
  |zero=>intro _;exact .inr fun k hk=>by omega
  |succ m ih=>
   intro hm;rcases ih (by omega)with h|h
   ·exact .inl h
   ·by_cases hc:m<(WW ps all m).2.1.length
    ·refine .inr fun k hk=>?_;by_cases hkm:k=m
     ·subst hkm;exact hc
     ·exact h k (by omega)
    ·exact .inl ⟨m,by omega,by omega,h⟩
 rcases this 21 (Nat.le_refl _)with h|h
 ·exact h
 ·have h1:=(zvU hp0 hO 20 fun j hj=>h j (by omega)).1.bound h4 hO.types;have h2:=h 20 (by omega);omega
theorem zvo{ps:List Part}{all:Part}(hp:KL KK ps)(h4:ps.length<=4)(hA:KP KK all)(hO:OkP all)(hp0:0<ps.length){N:Nat}(hN:(WW ps all N).2.1.length<=N)(h20:N<=20)(hk:∀k,k<N->k<(WW ps all k).2.1.length):zoB (ps,all)=some (WW ps all N):=by
 rw[zqB];unfold zrj;dsimp only;rw[zdk (s0:=((0:Int),([]:List SB),([{part:=0,type:=[113,117,101,114,121]:Stt}]:List Stt),([[]]:List (List SB)))) N (fun k=>((k:Int),(WW ps all k).1,(WW ps all k).2.1,(WW ps all k).2.2)) ((N:Int),(WW ps all N).1,(WW ps all N).2.1,(WW ps all N).2.2) rfl ?_ ?_]
 ·intro k hkN;have hi:=(zvU hp0 hO k fun j hj=>hk j (by omega)).1;have hlt:=hk k hkN;have h3:zay ((k:Int)+1)=true:=zd2 (by omega) (by omega);simp only[zaD hlt,zaf,zAD hp h4 hA hO hi hlt,zac,h3,zag];rfl
 ·have:decide ((N:Int)<((WW ps all N).2.1.length:Int))=false:=by simp;omega
  simp only[this,zae]
end Go.Fw
namespace Go.Fw
open Go
set_option linter.unusedSimpArgs false
set_option linter.unusedVariables false
def zbv(l:List SB):SB:=Lib.join l [32]
theorem zxr(l:List SB)(a:SB):zbv (l++[a])=(bif decide (0<l.length)then zbv l++[32]else zbv l)++a:=by
 cases l with
 |nil=>simp[zbv,Lib.join_nil,Lib.join_one]
 |cons x r=>simp only[zbv,List.cons_append,Lib.join_cons,Lib.joinTail,List.map_append,List.flatten_append];simp
def WOk(s:SB):Prop:=s≠[]/\(32:UInt8)∉s
theorem zAq{T1 T2:SB}(h1:T1=[]\/∃t,T1=32:: t)(h2:T2=[]\/∃t,T2=32:: t):∀(x y:SB),(32:UInt8)∉x->(32:UInt8)∉y->x++T1=y++T2->x=y/\T1=T2
|[],[],_,_,h=>⟨rfl,h⟩
|[],b:: y,_,hy,h=>by
 rcases h1 with rfl|⟨t,rfl⟩
 ·simp at h
 ·simp only[List.nil_append,List.cons_append,List.cons.injEq]at h;exact absurd (by rw[h.1];exact List.mem_cons_self) hy
|a:: x,[],hx,_,h=>by
 rcases h2 with rfl|⟨t,rfl⟩
 ·simp at h
 ·simp only[List.nil_append,List.cons_append,List.cons.injEq]at h;exact absurd (by rw[<-h.1];exact List.mem_cons_self) hx
|a:: x,b:: y,hx,hy,h=>by simp only[List.cons_append,List.cons.injEq]at h;obtain⟨g1,g2⟩:=zAq h1 h2 x y (fun hh=>hx (List.mem_cons_of_mem _ hh)) (fun hh=>hy (List.mem_cons_of_mem _ hh)) h.2;exact⟨by rw[h.1,g1],g2⟩
theorem zl9(r:List SB):Lib.joinTail [32] r=[]\/∃t,Lib.joinTail [32] r=32:: t:=by
 cases r with
 |nil=>exact .inl rfl
 |cons x r=>exact .inr ⟨_,rfl⟩
theorem zw2:∀(r s:List SB),(∀x∈r,WOk x)->(∀x∈s,WOk x)->Lib.joinTail [32] r=Lib.joinTail [32] s->r=s
|[],[],_,_,_=>rfl
|[],y:: s,_,_,h=>by simp[Lib.joinTail]at h
|x:: r,[],_,_,h=>by simp[Lib.joinTail]at h
|x:: r,y:: s,hr,hs,h=>by
 have h':x++Lib.joinTail [32] r=y++Lib.joinTail [32] s:=by simpa[Lib.joinTail]using h
 obtain⟨g1,g2⟩:=zAq (zl9 r) (zl9 s) x y (hr x (by simp)).2 (hs y (by simp)).2 h';rw[g1,zw2 r s (fun z hz=>hr z (by simp[hz])) (fun z hz=>hs z (by simp[hz])) g2]
theorem zzj{r s:List SB}(hr:∀x∈r,WOk x)(hs:∀x∈s,WOk x)(h:zbv r=zbv s):r=s:=by
 unfold zbv at h;cases r with
 |nil=>
  cases s with
  |nil=>rfl
  |cons y s=>
   rw[Lib.join_nil,Lib.join_cons]at h;have:=(hs y (by simp)).1;cases y with
   |nil=>exact absurd rfl this
   |cons _ _=>simp at h
 |cons x r=>
  cases s with
  |nil=>
   rw[Lib.join_nil,Lib.join_cons]at h;have:=(hr x (by simp)).1;cases x with
   |nil=>exact absurd rfl this
   |cons _ _=>simp at h
  |cons y s=>rw[Lib.join_cons,Lib.join_cons]at h;obtain⟨g1,g2⟩:=zAq (zl9 r) (zl9 s) x y (hr x (by simp)).2 (hs y (by simp)).2 h;rw[g1,zw2 r s (fun z hz=>hr z (by simp[hz])) (fun z hz=>hs z (by simp[hz])) g2]
theorem zBT{s:SB}(h:nameM s=true):WOk s:=by refine⟨zz0 h,fun hm=>?_⟩;unfold nameM zt8 at h;simp only[yhb]at h;obtain⟨j,hj,he⟩:=List.getElem_of_mem hm;have:=(zhE _ _ _).1 h.1.2 j hj;rw[he]at this;unfold zCI zaB at this;simp at this
theorem zpI{α:Type}(l:List α)(i n:Nat)(h:l.length<=n):(l.take i).length<=n:=Nat.le_trans (by rw[List.length_take];exact Nat.min_le_right _ _) h
def kn(ps:List Part)(n f:SB):List SB:=(ps.filter (ziw n f)).map (·.name)
def nmA(ps:List Part)(i:Int):SB:=((ps[i.toNat]?).map (·.name)).getD []
theorem zFS(n f:SB)(ps:List Part):∀(m k:Nat),m+k=ps.length->(zbG n f k (ps.drop k)).map (nmA ps)=kn (ps.drop k) n f/\∀i∈zbG n f k (ps.drop k),0<=i/\i<ps.length:=by
 intro m;induction m with
 |zero=>
  intro k hk;have:k=ps.length:=by omega
  subst this;rw[List.drop_length];exact⟨rfl,fun i hi=>by cases hi⟩
 |succ m ih=>
  intro k hk;have hlt:k<ps.length:=by omega
  obtain⟨h1,h2⟩:=ih (k+1) (by omega);rw[List.drop_eq_getElem_cons hlt];unfold kn zbG;rw[List.filter_cons];cases hq:ziw n f ps[k]with
  |true=>
   simp only[cond_true,List.map_append,List.map_cons,List.map_nil,if_true,List.cons_append,List.nil_append,h1];refine⟨?_,fun i hi=>?_⟩
   ·unfold nmA kn;simp[ygb hlt]
   ·rcases List.mem_cons.1 hi with rfl|hi
    ·exact⟨by omega,by omega⟩
    ·exact h2 i hi
  |false=>simp only[cond_false,List.nil_append,yhj,if_false];exact⟨h1,h2⟩
theorem zD2(n f:SB)(ps:List Part):(zbG n f 0 ps).map (nmA ps)=kn ps n f/\∀i∈zbG n f 0 ps,0<=i/\i<ps.length:=by have:=zFS n f ps ps.length 0 (by omega);simpa using this
theorem zCR(n f:SB)(ps:List Part):(kn ps n f).length=(zbG n f 0 ps).length:=by rw[<-(zD2 n f ps).1,List.length_map]
theorem zCW{ps:List Part}{i:Int}(h0:0<=i)(h1:i<ps.length):ps[i.toNat]? =some (ps[i.toNat]'(by omega))/\(ps[i.toNat]'(by omega)).name=nmA ps i:=by have:=ygb (l:=ps) (i:=i.toNat) (by omega);refine⟨this,?_⟩;unfold nmA;rw[this];rfl
theorem zwG{ps:List Part}{n f:SB}(hl:ps.length<=KK):zfO (ps,zbG n f 0 ps)=some (kn ps n f):=by
 rw[ziG];unfold ziz;dsimp only;have hk:KK=1048576:=rfl;obtain⟨h1,h2⟩:=zD2 n f ps;have h3:=zl6 n f ps 0;generalize zbG n f 0 ps=is at *;rw[zdk (s0:=((0:Int),([]:List SB))) is.length (fun i=>((i:Int),(is.take i).map (nmA ps))) ((is.length:Int),is.map (nmA ps)) rfl ?_ ?_]
 ·rw[h1]
 ·intro i hi;obtain⟨g1,g2⟩:=h2 _ (ygh hi);obtain⟨e1,e2⟩:=zCW g1 g2;have g5:decide (0<=is[i])=true:=by simpa using g1
  have ht:(is.take i).length<=KK:=zpI is i _ (by omega);simp only[zaD hi,zaf,zax,zag,zai hi,zac,g5,e1,e2,zam hi (by omega)];rw[zb0 (by(have:=hBM;simp only[yhr,yhs,yht,List.length_map,yhc,yhb];omega)),List.take_succ_eq_append_getElem hi,List.map_append];rfl
 ·simp only[zan,zae,List.take_length]
theorem zz1{ps:List Part}:zfO (ps,[])=some []:=by rw[ziG];unfold ziz;dsimp only;rw[zdk (s0:=((0:Int),([]:List SB))) 0 (fun i=>((i:Int),([]:List SB))) ((0:Int),([]:List SB)) rfl (fun i hi=>absurd hi (Nat.not_lt_zero i)) rfl]
theorem zty{l:List SB}(h:∀x∈l,x.length<=8):(zbv l).length<=9*l.length:=by
 have:∀r:List SB,(∀x∈r,x.length<=8)->(Lib.joinTail [32] r).length<=9*r.length:=by
  intro r;induction r with
  |nil=>simp[Lib.joinTail]
  |cons x r ih=>intro h;have h1:=ih fun y hy=>h y (by simp[hy]);have h2:=h x (by simp);have e:Lib.joinTail [32] (x:: r)=[32]++x++Lib.joinTail [32] r:=rfl;rw[e];simp only[yhr,yhs,yht];omega
 cases l with
 |nil=>simp[zbv,Lib.join_nil]
 |cons x r=>have h1:=this r fun y hy=>h y (by simp[hy]);have h2:=h x (by simp);unfold zbv;rw[Lib.join_cons,yhr,yhs];omega
theorem zzB{ps:List Part}{n f x:SB}(h:x∈kn ps n f):∃p∈ps,p.name=x:=by obtain⟨p,hp,rfl⟩:=List.mem_map.1 h;exact⟨p,(List.mem_filter.1 hp).1,rfl⟩
theorem zwv{ps:List Part}{n f:SB}(hp:KL KK ps)(h4:ps.length<=4)(h8:∀p∈ps,p.name.length<=8):zg7 (ps,n,f)=some (zbv (kn ps n f)):=by
 rw[zlr];unfold zjz;dsimp only;rw[zmW hp,zac];obtain⟨h1,h2⟩:=zD2 n f ps;have h3:=zl6 n f ps 0;have hm:∀x∈kn ps n f,x.length<=8:=fun x hx=>let⟨p,hp,e⟩:=zzB hx;by rw[<-e];exact h8 p hp
 rw[<-h1]at hm;generalize zbG n f 0 ps=is at *;rw[zdk (s0:=(([]:SB),(0:Int))) is.length (fun i=>(zbv ((is.take i).map (nmA ps)),(i:Int))) (zbv (is.map (nmA ps)),(is.length:Int)) rfl ?_ ?_]
 ·rw[h1]
 ·intro i hi;obtain⟨g1,g2⟩:=h2 _ (ygh hi);obtain⟨e1,e2⟩:=zCW g1 g2;have g5:decide (0<=is[i])=true:=by simpa using g1
  have hj:(zbv ((is.take i).map (nmA ps))).length<=9*4:=by
   refine Nat.le_trans (zty fun x hx=>hm x ?_) ?_
   ·obtain⟨y,hy,rfl⟩:=List.mem_map.1 hx;exact List.mem_map.2 ⟨y,List.mem_of_mem_take hy,rfl⟩
   ·rw[List.length_map,List.length_take];omega
  have hnm:(nmA ps is[i]).length<=8:=hm _ (List.mem_map.2 ⟨_,ygh hi,rfl⟩);have hs:=zxr ((is.take i).map (nmA ps)) (nmA ps is[i]);have hlt:((is.take i).map (nmA ps)).length=i:=by rw[List.length_map,List.length_take];omega
  rw[hlt]at hs;have hjoin:zbv ((is.take (i+1)).map (nmA ps))=(bif decide (0<i)then zbv ((is.take i).map (nmA ps))++[32]else zbv ((is.take i).map (nmA ps)))++nmA ps is[i]:=by rw[<-hs,List.take_succ_eq_append_getElem hi,List.map_append];rfl
  rw[hjoin];generalize zbv ((is.take i).map (nmA ps))=J at *;simp only[zaD hi,zaf,zut];have hB:BIG=9223372036854775807:=rfl;cases decide (0<i)with
  |true=>simp only[zaf,cond_true];rw[zb0 (by(have:=hBM;simp only[yhr,yhs,yht,List.length_map,yhc,yhb];omega))];simp only[zac,zax,zag,zai hi,g5,e1,e2,zam hi (by omega)];rw[zb0 (by(have:=hBM;simp only[yhr,yhs,yht,List.length_map,yhc,yhb];omega))];rfl
  |false=>simp only[zae,cond_false];simp only[zac,zax,zag,zai hi,g5,e1,e2,zam hi (by omega)];rw[zb0 (by(have:=hBM;simp only[yhr,yhs,yht,List.length_map,yhc,yhb];omega))];rfl
 ·simp only[zan,zae,List.take_length]
end Go.Fw
namespace Go.Fw
open Go
set_option linter.unusedSimpArgs false
set_option linter.unusedVariables false
def zDg(U ts:List Typ):Prop:=∀t∈ts,∀g∈t.fields,∃u∈U,u.name=t.name/\∃h∈u.fields,h.name=g.name
theorem ztP(ps:List Part)(n:SB):∀(xs fs:List Field),∀g∈xs.foldl (znB ps n) fs,(∃h∈fs,h.name=g.name)\/∃h∈xs,h.name=g.name
|[],fs,g,hg=>.inl ⟨g,hg,rfl⟩
|x:: xs,fs,g,hg=>by
 rw[List.foldl_cons]at hg;rcases ztP ps n xs _ g hg with⟨h,h1,h2⟩|⟨h,h1,h2⟩
 ·unfold znB at h1;cases hq:fs.any (fun g=>g.name==x.name)with
  |true=>rw[hq]at h1;exact .inl ⟨h,h1,h2⟩
  |false=>
   rw[hq]at h1;rcases List.mem_append.1 h1 with h1|h1
   ·exact .inl ⟨h,h1,h2⟩
   ·simp only[List.mem_singleton]at h1;subst h1;exact .inr ⟨x,by simp,h2⟩
 ·exact .inr ⟨h,by simp[h1],h2⟩
theorem zyv{ps:List Part}{U ts:List Typ}{t:Typ}(h:zDg U ts)(ht:t∈U):zDg U (zkZ ps (znB ps) ts t):=by
 unfold zkZ;obtain⟨a,ts1,hc,ha,hn⟩:=zyO ps ts t;have h1:zDg U ts1:=by
  unfold crM at hc;cases hf:ts.findIdx? (fun u=>u.name==t.name)with
  |none=>
   rw[hf]at hc;simp only[Prod.mk.injEq]at hc;rw[<-hc.2];intro u hu g hg;rcases List.mem_append.1 hu with hu|hu
   ·exact h u hu g hg
   ·simp only[List.mem_singleton]at hu;subst hu;cases hg
  |some k=>rw[hf]at hc;simp only[Prod.mk.injEq]at hc;rw[<-hc.2];exact h
 rw[hc];dsimp only;rw[zhX ha];intro u hu g hg;rcases List.mem_or_eq_of_mem_set hu with hu|rfl
 ·exact h1 u hu g hg
 ·dsimp only at hg|-;rcases ztP ps t.name t.fields _ g hg with⟨w,w1,w2⟩|⟨w,w1,w2⟩
  ·obtain⟨v,v1,v2,x,x1,x2⟩:=h1 _ (ygh ha) w w1;exact⟨v,v1,v2,x,x1,x2.trans w2⟩
  ·exact⟨t,ht,hn.symm,w,w1,w2⟩
theorem zyq(ps:List Part):zDg (ps.flatMap (·.types)) (AllL ps).types:=by
 show zDg _ (zrn ps (znB ps) ps);rw[zoE];have:∀(L U ts:List Typ),(∀t∈L,t∈U)->zDg U ts->zDg U (L.foldl (zkZ ps (znB ps)) ts):=by
  intro L;induction L with
  |nil=>intro U ts _ h;exact h
  |cons x L ih=>intro U ts hL h;exact ih U _ (fun t ht=>hL t (by simp[ht])) (zyv h (hL x (by simp)))
 exact this _ _ [] (fun t ht=>ht) (fun t ht=>by cases ht)
structure Ch (ps:List Part):Prop where
 l4:ps.length<=4
 nm:∀p∈ps,nameM p.name=true
 K:KP KK (AllL ps)
 O:OkP (AllL ps)
 I:I2 ps
theorem Ch.of{ps:List Part}(hp:KL KK ps)(h:chOkM ps=true):Ch ps:=by unfold chOkM at h;simp only[yhb,yhe]at h;have:=zmd.1.1 h.1;exact⟨this.1.2.1,fun p hpm=>(this.1.ok p hpm).name,zvQ (this.1.sm hp) hp,.of h.2,this.2⟩
theorem Ch.n8{ps:List Part}(h:Ch ps):∀p∈ps,p.name.length<=8:=fun p hp=>zdI (h.nm p hp)
theorem Ch.known{ps:List Part}(h:Ch ps){n f:SB}(hg:(zeK (AllL ps) n f).isSome=true):0<(kn ps n f).length:=by
 obtain⟨g,hg⟩:=Option.isSome_iff_exists.1 hg;obtain⟨t,ht,e1,_,hgt,e2,_⟩:=zjL hg;obtain⟨u,hu,e3,x,hx,e4⟩:=zyq ps t ht g hgt;obtain⟨p,hp,hup⟩:=List.mem_flatMap.1 hu;have hc:=(h.I p hp u hup).2.2 x hx;rw[e3,e4,e1,e2]at hc;rw[zCR];unfold zjZ at hc;cases hd:decide (0<(zbG n f 0 ps).length)with
 |true=>simpa using hd
 |false=>rw[hd]at hc;cases hc
def zbP(ps:List Part):List Own:=(AllL ps).types.flatMap (zgS ps)
theorem zr9{ps:List Part}{o:Own}(h:o∈zbP ps):∃t∈(AllL ps).types,∃g∈t.fields,o=⟨t.name,g.name,zbG t.name g.name 0 ps⟩:=by obtain⟨t,ht,ho⟩:=List.mem_flatMap.1 h;obtain⟨g,hg,rfl⟩:=List.mem_map.1 ho;exact⟨t,ht,g,hg,rfl⟩
theorem Ch.len{ps:List Part}(h:Ch ps):(zbP ps).length<=40:=by have:=zvc (ps:=ps) h.O.types (fun t ht=>(Wt.mk' (h.K.2.2 t ht) (h.O.type t ht).line).fields) (AllL ps).types.length;rwa [List.take_length]at this
theorem Ch.any{ps:List Part}(h:Ch ps)(n f:SB):(zbP ps).any (fun o=>o.type==n&&o.field==f)=(zeK (AllL ps) n f).isSome:=by
 rw[Bool.eq_iff_iff,List.any_eq_true];constructor
 ·rintro⟨o,ho,hq⟩;obtain⟨t,ht,g,hg,rfl⟩:=zr9 ho;simp only[yhb,yhe]at hq;obtain⟨rfl,rfl⟩:=hq;have hT:=h.O.type t ht;unfold zeK;rw[hT.ty];show(fdM t g.name).isSome=true;rw[hT.fd g hg];rfl
 ·intro hs;obtain⟨g,hg⟩:=Option.isSome_iff_exists.1 hs;obtain⟨t,ht,e1,_,hgt,e2,_⟩:=zjL hg;exact⟨⟨t.name,g.name,zbG t.name g.name 0 ps⟩,List.mem_flatMap.2 ⟨t,ht,List.mem_map.2 ⟨g,hgt,rfl⟩⟩,by rw[e1,e2];simp⟩
theorem zBZ{ps:List Part}(hp:KL KK ps)(h:Ch ps){c:Chart}(hc:c.owners=zbP ps)(n f:SB):zcL (c,n,f)=some (bif (zeK (AllL ps) n f).isSome then zbG n f 0 ps else[]):=by
 rw[zgV];unfold zed;dsimp only;have hk:KK=1048576:=rfl;have h40:=h.len;have hx:zcw (c.owners,n,f)=some (ixM (fun o:Own=>o.type==n&&o.field==f) c.owners):=by rw[ze1];unfold zcn;dsimp only;refine ixf (g:=fun o:Own=>zc0 (o,n,f)) (fun o:Own=>o.type==n&&o.field==f) (by rw[hc];omega) (fun o _=>?_);rw[zfJ];unfold zcP;dsimp only;cases(o.type==n)<;>rfl
 rw[hx,zac,<-h.any n f,hc];rcases zaT (fun o:Own=>o.type==n&&o.field==f) (zbP ps)with⟨h1,_,h2⟩|⟨i,hi,h1,_,h3,h2⟩
 ·rw[h1,h2];rfl
 ·rw[h1,h2,znq,zae,zax,zag,zai hi,zac];obtain⟨t,ht,g,hg,e⟩:=zr9 (ygh hi);rw[e]at h3|-;simp only[yhb,yhe]at h3;obtain⟨rfl,rfl⟩:=h3;have hl:=zl6 t.name g.name ps 0;have:=h.l4;rw[zcN];unfold za0;dsimp only;rw[zb0 (by simp;omega)];rfl
theorem zzk{l:List SB}(h1:l.length<=140737488355328)(h2:(zbv l).length<=140737488355328):zaN (l,[32])=some (zbv l):=by
 rw[zdU];unfold zcK zzi;have e1:decide (l.length<=140737488355328)=true:=by simpa using h1
 have e2:decide ((Lib.join l [32]).length<=140737488355328)=true:=by simpa[zbv]using h2
 dsimp only;rw[e1,e2];rfl
def znQ(o n:List Part)(w:Own):Bool:=(zeK (AllL n) w.type w.field).isSome&&zbv (kn o w.type w.field) !=zbv (kn n w.type w.field)
def zzJ(o n:List Part)(w:Own):SB:=w.type++[46]++w.field++[58,32]++zbv (kn o w.type w.field)++[32,62,32]++zbv (kn n w.type w.field)
def mvL(o n:List Part)(w:Own):List SB:=bif znQ o n w then[zzJ o n w]else[]
theorem zzV(o n:List Part)(l:List Own):(l.flatMap (mvL o n)).length<=l.length:=by
 induction l with
 |nil=>simp
 |cons w l ih=>
  have:(mvL o n w).length<=1:=by unfold mvL;cases znQ o n w<;>simp
  simp only[List.flatMap_cons,yhr,yhs];omega
theorem zBp{a b:List SB}(ha:a.length<=KK):zaK (a,b)=some (a==b):=by
 rw[zbs];unfold zaH;dsimp only;have hk:KK=1048576:=rfl;by_cases hl:a.length=b.length
 ·have h1:((a.length:Int) !=(b.length:Int))=false:=by rw[hl];simp
  rw[h1,zae];rw[zcj (s0:=(0:Int)) a (fun i=>(i:Int)) (a.length:Int) (fun i x=>bif (b[i]? ==some x)then none else some false) rfl ?_ ?_]
  ·rw[zce];cases hq:zqD (fun i x=>b[i]? ==some x) 0 a with
   |true=>
    have:a=b:=List.ext_getElem hl fun j h1 h2=>by have:=(zhE _ _ _).1 hq j h1;rw[Nat.zero_add,ygb h2]at this;simpa using(yhe.1 this).symm
    subst this;rw[beq_self_eq_true];rfl
   |false=>
    have:¬a=b:=by
     rintro rfl;have:zqD (fun i x=>a[i]? ==some x) 0 a=true:=(zhE _ _ _).2 fun j h=>by rw[Nat.zero_add,ygb h];simp
     rw[hq]at this;cases this
    have:(a==b)=false:=by simpa using this
    rw[this];rfl
  ·intro i hi;have hi':i<b.length:=by omega
   simp only[zaD hi,zaf,zax,zag,zai hi,zai hi',zac,zam hi (by omega),ygb hi'];by_cases he:a[i]=b[i]
   ·have e1:(a[i] !=b[i])=false:=by simpa using he
    have e2:(some b[i]==some a[i])=true:=by simpa using he.symm
    rw[e1,e2];rfl
   ·have e1:(a[i] !=b[i])=true:=by simpa using he
    have e2:(some b[i]==some a[i])=false:=by simpa using fun h=>he h.symm
    rw[e1,e2];rfl
  ·simp only[zan,zae]
 ·have h1:((a.length:Int) !=(b.length:Int))=true:=by simp;omega
  have h2:(a==b)=false:=by have:¬a=b:=fun h=>hl (by rw[h]);simpa using this
  rw[h1,zaf,h2]
theorem zzC{ps:List Part}(h:Ch ps)(n f:SB):∀x∈kn ps n f,WOk x:=fun x hx=>let⟨p,hp,e⟩:=zzB hx;by rw[<-e];exact zBT (h.nm p hp)
theorem zD3{ps:List Part}(h:Ch ps)(n f:SB):(kn ps n f).length<=4:=by rw[zCR];have:=zl6 n f ps 0;have:=h.l4;omega
theorem zrN{ps:List Part}(h:Ch ps)(n f:SB):(zbv (kn ps n f)).length<=36:=by
 have:=zty (l:=kn ps n f) fun x hx=>let⟨p,hp,e⟩:=zzB hx;by rw[<-e];exact h.n8 p hp
 have:=zD3 h n f;omega
theorem zzU{o n:List Part}(ho:Ch o)(hn:Ch n)(w:Own)(is:List SB)(his:is=bif (zeK (AllL n) w.type w.field).isSome then kn n w.type w.field else[]):
 (bif decide (0<is.length)then !(kn o w.type w.field==is)else false)=znQ o n w:=by
 subst his;unfold znQ;cases hg:(zeK (AllL n) w.type w.field).isSome with
 |false=>rfl
 |true=>
  have h0:=hn.known hg;have h1:decide (0<(kn n w.type w.field).length)=true:=by simpa using h0
  simp only[cond_true,Bool.true_and];rw[h1,cond_true];by_cases he:kn o w.type w.field=kn n w.type w.field
  ·rw[he];simp
  ·have e1:(kn o w.type w.field==kn n w.type w.field)=false:=by simpa using he
   have e2:(zbv (kn o w.type w.field) !=zbv (kn n w.type w.field))=true:=by have:¬zbv (kn o w.type w.field)=zbv (kn n w.type w.field):=fun h=>he (zzj (zzC ho _ _) (zzC hn _ _) h);simpa using this
   rw[e1,e2];rfl
theorem zDm(n:Nat):decide ((n:Int)>0)=decide (0<n):=zut n
theorem zs5{b:Bool}{x y:Bool}:(zab b (some x) (some y))=some (bif b then x else y):=by cases b<;>rfl
def mvS(o n:List Part):List SB:=bif chOkM o&&chOkM n then(zbP o).flatMap (mvL o n)else[]
theorem zkM{o n:List Part}(ho:KL KK o)(hn:KL KK n):∃r,zgj (o,n)=some r/\zbQ (o,n)=some r/\r.length<=KK/\r=mvS o n:=by
 unfold mvS;obtain⟨a,a1,a2,a3⟩:=zgG ho;obtain⟨a',b1,b2,b3⟩:=ziY ho;obtain⟨c,c1,c2,c3⟩:=zgG hn;obtain⟨c',d1,d2,d3⟩:=ziY hn;rw[ziB,zgU];unfold zgc zec;dsimp only;have q1:(a.2.code !=0)= !chOkM o:=by rw[<-a2];rfl
 have q2:(c.2.code !=0)= !chOkM n:=by rw[<-c2];rfl
 have q3:decide (a'.2.code>0)= !chOkM o:=b2;have q4:decide (c'.2.code>0)= !chOkM n:=d2;rw[a1,b1,zac,zac,c1,d1,zac,zac,q1,q2,q3,q4];cases hco:chOkM o with
 |false=>exact⟨[],rfl,rfl,Nat.zero_le _,rfl⟩
 |true=>
  cases hcn:chOkM n with
  |false=>exact⟨[],rfl,rfl,Nat.zero_le _,rfl⟩
  |true=>
   have co:=Ch.of ho hco;have cn:=Ch.of hn hcn;obtain⟨a4,a5,_⟩:=a3 hco;obtain⟨b4,b5,_⟩:=b3 hco;obtain⟨c4,c5,_⟩:=c3 hcn;obtain⟨d4,d5,_⟩:=d3 hcn;simp only[Bool.not_true,zae,zac,a5,b5,c4];have hk:KK=1048576:=rfl;have h40:=co.len;change(zbP o).length<=40 at h40;show ∃r,zaa (zal _ _) _=some r/\zaa (zal _ _) _=some r/\_;have hlen:∀i,((((zbP o).take i).flatMap (mvL o n))).length<=40:=fun i=>Nat.le_trans (zzV o n _) (zpI _ i _ h40);have hw:∀w∈zbP o,w.type.length<=8/\w.field.length<=8/\w.parts=zbG w.type w.field 0 o:=by intro w hw;obtain⟨t,ht,g,hg,rfl⟩:=zr9 hw;have hT:=co.O.type t ht;have hl:=hT.line;unfold lineM at hl;simp only[yhb]at hl;exact⟨zdI hl.1,zdI (hT.nm g hg),rfl⟩
   have hall:zdT=zdT:=rfl;refine⟨(zbP o).flatMap (mvL o n),?_,?_,by have:=hlen (zbP o).length;rw[List.take_length]at this;omega,rfl⟩
   ·rw[show(AllL o).types.flatMap (zgS o)=zbP o from rfl];rw[zdk (s0:=((0:Int),([]:List SB))) (zbP o).length (fun i=>((i:Int),((zbP o).take i).flatMap (mvL o n))) (((zbP o).length:Int),(zbP o).flatMap (mvL o n)) rfl ?_ ?_]
    ·intro i hi;obtain⟨w1,w2,w3⟩:=hw _ (ygh hi);have hb:=hlen i;have j1:=zrN co (zbP o)[i].type (zbP o)[i].field;have j2:=zrN cn (zbP o)[i].type (zbP o)[i].field;have hg:zdT (⟨(AllL n).name,(AllL n).types⟩,(zbP o)[i].type,(zbP o)[i].field)=_:=zd9 (p:=AllL n) cn.K;simp only[zaD hi,zaf,zax,zag,zai hi,zac,hg,zwv ho co.l4 co.n8,zwv hn cn.l4 cn.n8,zs5,zam hi (by omega),zol hi];rw[show(bif (zeK (AllL n) (zbP o)[i].type (zbP o)[i].field).isSome then zbv (kn o (zbP o)[i].type (zbP o)[i].field) !=zbv (kn n (zbP o)[i].type (zbP o)[i].field)else false)=znQ o n (zbP o)[i]from by unfold znQ;cases(zeK (AllL n) (zbP o)[i].type (zbP o)[i].field).isSome<;>rfl];generalize((zbP o).take i).flatMap (mvL o n)=X at *;unfold mvL zzJ;generalize(zbP o)[i]=w at *;generalize zbv (kn o w.type w.field)=J1 at *;generalize zbv (kn n w.type w.field)=J2 at *;cases znQ o n w with
     |true=>
      simp only[zaf,cond_true];repeat rw[zb0 (by(have:=hBM;simp only[yhr,yhs,yht,List.length_map,yhc,yhb];omega))]
      rfl
     |false=>simp only[zae,zac,cond_false,List.append_nil];rfl
    ·simp only[zan,zae,List.take_length]
   ·rw[show(AllL o).types.flatMap (zgS o)=zbP o from rfl];rw[zdk (s0:=((0:Int),([]:List SB))) (zbP o).length (fun i=>((i:Int),((zbP o).take i).flatMap (mvL o n))) (((zbP o).length:Int),(zbP o).flatMap (mvL o n)) rfl ?_ ?_]
    ·intro i hi;obtain⟨w1,w2,w3⟩:=hw _ (ygh hi);have hb:=hlen i;have j1:=zrN co (zbP o)[i].type (zbP o)[i].field;have j2:=zrN cn (zbP o)[i].type (zbP o)[i].field;have l1:=zD3 co (zbP o)[i].type (zbP o)[i].field;have l2:=zD3 cn (zbP o)[i].type (zbP o)[i].field;have ho2:zcL (⟨⟨c'.1.all.name,c'.1.all.types⟩,c'.1.owners⟩,(zbP o)[i].type,(zbP o)[i].field)=some (bif (zeK (AllL n) (zbP o)[i].type (zbP o)[i].field).isSome then zbG (zbP o)[i].type (zbP o)[i].field 0 n else[]):=zBZ hn cn d5 _ _;have hn2:zfO (n,bif (zeK (AllL n) (zbP o)[i].type (zbP o)[i].field).isSome then zbG (zbP o)[i].type (zbP o)[i].field 0 n else[])=some (bif (zeK (AllL n) (zbP o)[i].type (zbP o)[i].field).isSome then kn n (zbP o)[i].type (zbP o)[i].field else[]):=by
      cases(zeK (AllL n) (zbP o)[i].type (zbP o)[i].field).isSome with
      |true=>exact zwG hn.1
      |false=>exact zz1
     have hm:=zzU co cn (zbP o)[i] _ rfl;simp only[zaD hi,zaf,zax,zag,zai hi,zac,w3,zwG ho.1,ho2,hn2,zBp (Nat.le_trans l1 (by decide)),zam hi (by omega),zol hi,zDm];have hsel:znQ o n (zbP o)[i]=true->(bif (zeK (AllL n) (zbP o)[i].type (zbP o)[i].field).isSome then kn n (zbP o)[i].type (zbP o)[i].field else[])=kn n (zbP o)[i].type (zbP o)[i].field:=by unfold znQ;intro h;simp only[yhb]at h;rw[h.1];rfl
     rw[zs5,hm,zac];generalize((zbP o).take i).flatMap (mvL o n)=X at *;unfold mvL zzJ;generalize(zbP o)[i]=w at *;cases hmv:znQ o n w with
     |true=>
      rw[hsel hmv];simp only[zaf,cond_true];have k1:zaN (kn o w.type w.field,[32])=some (zbv (kn o w.type w.field)):=zzk (Nat.le_trans l1 (by decide)) (Nat.le_trans j1 (by decide));have k2:zaN (kn n w.type w.field,[32])=some (zbv (kn n w.type w.field)):=zzk (Nat.le_trans l2 (by decide)) (Nat.le_trans j2 (by decide));rw[k1,k2];simp only[zac];generalize zbv (kn o w.type w.field)=J1 at *;generalize zbv (kn n w.type w.field)=J2 at *;repeat rw[zb0 (by(have:=hBM;simp only[yhr,yhs,yht,List.length_map,yhc,yhb];omega))]
      rfl
     |false=>simp only[zae,zac,cond_false,List.append_nil];rfl
    ·simp only[zan,zae,List.take_length]
end Go.Fw
namespace Go.Fw
open Go
set_option linter.unusedSimpArgs false
set_option linter.unusedVariables false
theorem KF.of{f:Field}(h:SmF f):KF 300 f:=⟨by have:=h.name;omega,by have:=h.of;omega,by have:=h.needs;omega,fun s hs=>by have:=h.need s hs;omega⟩
theorem KP.of{N:Nat}{p:Part}(h:SmP N p)(hN:N<=300):KP 300 p:=⟨by have:=h.name;omega,by have:=h.types;omega,fun t ht=>⟨by have:=(h.type t ht).name;omega,by have:=(h.type t ht).key;omega,by have:=(h.type t ht).fields;omega,fun f hf=>.of ((h.type t ht).field f hf)⟩⟩
theorem KF.up{N M:Nat}{f:Field}(h:KF N f)(hN:N<=M):KF M f:=⟨Nat.le_trans h.1 hN,Nat.le_trans h.2.1 hN,Nat.le_trans h.2.2.1 hN,fun s hs=>Nat.le_trans (h.2.2.2 s hs) hN⟩
theorem KT.up{N M:Nat}{t:Typ}(h:KT N t)(hN:N<=M):KT M t:=⟨Nat.le_trans h.1 hN,Nat.le_trans h.2.1 hN,Nat.le_trans h.2.2.1 hN,fun f hf=>(h.2.2.2 f hf).up hN⟩
theorem KP.up{N M:Nat}{p:Part}(h:KP N p)(hN:N<=M):KP M p:=⟨Nat.le_trans h.1 hN,Nat.le_trans h.2.1 hN,fun t ht=>(h.2.2 t ht).up hN⟩
theorem zBj{f:Field}(h:KF 300 f):zoc f=some ((f.name,f.of,f.list,f.must,f.far,f.hidden,f.shared),f.needs):=by rw[zox];unfold zn5;have:=h.2.2.1;have hL:LIM=1099511627776:=rfl;rw[zb0 (by simp;omega)]
theorem zv5{p:Part}(h:KP 300 p):zeC p=some (p.name,p.types):=by
 rw[ziJ];unfold zgi;have h1:=h.2.1;rw[zdk (s0:=((0:Int),([]:SB),([]:List Typ),p.name,([]:List Typ))) p.types.length (fun i=>((i:Int),[],[],p.name,p.types.take i)) ((p.types.length:Int),[],[],p.name,p.types) rfl ?_ ?_]
 ·intro i hi;have ht:=h.2.2 _ (ygh hi);have h2:=ht.2.2.1;have hl:(p.types.take i).length<=300:=zpI _ i _ h1;simp only[zaD hi,zaf,zax,zag,zai hi,zac];rw[zdk (s0:=((0:Int),([]:SB),([]:List Typ),p.name,p.types.take i,(p.types[i].name,p.types[i].key),([]:List Field))) p.types[i].fields.length (fun j=>((j:Int),[],[],p.name,p.types.take i,(p.types[i].name,p.types[i].key),p.types[i].fields.take j)) ((p.types[i].fields.length:Int),[],[],p.name,p.types.take i,(p.types[i].name,p.types[i].key),p.types[i].fields) rfl ?_ ?_]
  ·simp only[zam hi (by omega)];rw[zb0 (by(have:=hBM;simp only[yhr,yhs,yht,List.length_map,yhc,yhb];omega)),List.take_succ_eq_append_getElem hi];rfl
  ·intro j hj;have hlf:(p.types[i].fields.take j).length<=300:=zpI _ j _ h2;simp only[zaD hj,zaf,zax,zag,zai hj,zac,zBj (ht.2.2.2 _ (ygh hj)),zam hj (by omega)];rw[zb0 (by(have:=hBM;simp only[yhr,yhs,yht,List.length_map,yhc,yhb];omega)),List.take_succ_eq_append_getElem hj];rfl
  ·simp only[zan,zae,List.take_length]
 ·simp only[zan,zae,List.take_length]
theorem ztW{p:Part}{N k:Nat}{t:Typ}(h:KP N p)(ht:KT N t):KP N ⟨p.name,p.types.set k t⟩:=by
 refine⟨h.1,by show(p.types.set k t).length<=N;rw[List.length_set];exact h.2.1,fun u hu=>?_⟩;rcases List.mem_or_eq_of_mem_set hu with hu|rfl
 ·exact h.2.2 u hu
 ·exact ht
theorem zrc{t:Typ}{N k:Nat}{f:Field}(h:KT N t)(hf:KF N f):KT N ⟨t.name,t.key,t.fields.set k f⟩:=by
 refine⟨h.1,h.2.1,by show(t.fields.set k f).length<=N;rw[List.length_set];exact h.2.2.1,fun u hu=>?_⟩;rcases List.mem_or_eq_of_mem_set hu with hu|rfl
 ·exact h.2.2.2 u hu
 ·exact hf
theorem zdh{α:Type}{a n:Int}{x:Option α}{Q:α->Prop}(h1:0<=a)(h2:a<n)(h:wp x Q):wp (gd (decide (0<=a)&&decide (a<n)) x) Q:=by rw[ywa];exact⟨by simp;omega,h⟩
theorem zpi{α:Type}{a:Nat}{x:Option α}{Q:α->Prop}(h:wp x Q):wp (gd (decide (a=a)) x) Q:=by rw[ywa];exact⟨by simp,h⟩
theorem zq3{l:List SB}{x:SB}(hx:x∈l)(h:(l.all fun x=>decide (x.length<=300))=true):x.length<=300:=by simpa using List.all_eq_true.1 h x hx
theorem zCn{p:Part}{b:List Int}{pos:Int}{m:Nat}{Q:Part×List Int×Int->Prop}(hp:KP 300 p)(h0:0<p.types.length)(hR:Rd b pos m)(hm:m<=1000000000000)(h:∀p' pos',KP 301 p'->Rd b pos' (m+10)->Q (p',b,pos')):wp (zep (p,b,pos)) Q:=by
 have hL:LIM=1099511627776:=rfl;have hp1:=hp.up (M:=301) (by omega);rw[zg6];unfold zej;dsimp only;rw[ywb];refine zE1 (zv5 hp) ?_;dsimp only;rw[ywb];refine zcg hR (by omega) fun k hk _ hR1=>?_;dsimp only;obtain⟨k0,k1⟩:=hk (by omega);refine zdh k0 k1 ?_;rw[ywb,ywe];have hkl:k.toNat<p.types.length:=by omega
 refine⟨hkl,?_⟩;have ht:=hp.2.2 _ (ygh hkl);have ht1:=ht.up (M:=301) (by omega);have zhg:=fun(t':Typ)(hh:KT 301 t')=>ztW (k:=k.toNat) hp1 hh;have hlen:=hp.2.1;have hflen:=ht.2.2.1;generalize htt:p.types[k.toNat]=t at *;rw[ywa,ywb];refine⟨zd2 (by omega) (by omega),?_⟩;refine zcg hR1 (by omega) fun q hq _ hR2=>?_;dsimp only;obtain⟨q0,q1⟩:=hq (by omega);rw[ywc];refine⟨fun hlt=>?_,fun hge=>?_⟩
 ·have hlt:=of_decide_eq_true hlt;refine zdh q0 hlt ?_;rw[ywb,ywe];have hql:q.toNat<t.fields.length:=by omega
  refine⟨hql,?_⟩;have hf:=ht.2.2.2 _ (ygh hql);have hf1:=hf.up (M:=301) (by omega);generalize hff:t.fields[q.toNat]=f at *;have fin:∀(f':Field)(pos':Int),KF 301 f'->Rd b pos' (m+10)->wp (gd (decide (0<=q)&&decide (q<(↑(List.length t.fields):Int))) (gd (decide (Int.toNat q=Int.toNat q)) (gd (decide (0<=k)&&decide (k<(↑(List.length p.types):Int))) (gd (decide (Int.toNat k=Int.toNat k))
   (some ((⟨p.name,List.set p.types (Int.toNat k) ⟨t.name,t.key,List.set t.fields (Int.toNat q) f'⟩⟩:Part),b,pos')))))) Q:=fun f' pos' hf' hr=>by
   refine zdh q0 hlt (zpi (zdh k0 k1 (zpi ?_)));rw[ywd];exact h _ _ (zhg _ (zrc ht1 hf')) hr
  rw[ywb];refine zcg hR2 (by omega) fun c _ _ hR3=>?_;dsimp only;rw[ywc];refine⟨fun _=>?_,fun _=>?_⟩
  ·rw[ywb];refine zxI hR3 (by omega) (by decide) fun v hv hR4=>?_;exact fin _ _ ⟨hf1.1,Nat.le_trans (zq3 hv (by decide)) (by decide),hf1.2.2⟩ (hR4.up (by omega))
  rw[ywc];refine⟨fun _=>(by refine fin _ _ ?_ (hR3.up (by omega));exact hf1),fun _=>?_⟩;rw[ywc];refine⟨fun _=>(by refine fin _ _ ?_ (hR3.up (by omega));exact hf1),fun _=>?_⟩;rw[ywc];refine⟨fun _=>(by refine fin _ _ ?_ (hR3.up (by omega));exact hf1),fun _=>?_⟩;rw[ywc];refine⟨fun _=>?_,fun _=>?_⟩
  ·rw[ywb];refine zxI hR3 (by omega) (by decide) fun v hv hR4=>?_;have hn:=hf.2.2.1;dsimp only;rw[ywa];refine⟨by simp;omega,fin _ _ ⟨hf1.1,hf1.2.1,by show(f.needs++[v]).length<=301;simp;omega,fun s hs=>?_⟩ (hR4.up (by omega))⟩;rcases List.mem_append.1 hs with hs|hs
   ·exact hf1.2.2.2 s hs
   ·simp only[List.mem_singleton]at hs;subst hs;exact Nat.le_trans (zq3 hv (by decide)) (by decide)
  rw[ywc];refine⟨fun _=>?_,fun _=>?_⟩
  ·rw[ywb];refine zxI hR3 (by omega) (by decide) fun v hv hR4=>?_;exact fin _ _ ⟨Nat.le_trans (zq3 hv (by decide)) (by decide),hf1.2.1,hf1.2.2⟩ (hR4.up (by omega))
  rw[ywc];refine⟨fun _=>(by refine fin _ _ ?_ (hR3.up (by omega));exact hf1),fun _=>?_⟩;rw[ywc];refine⟨fun _=>(by refine fin _ _ ?_ (hR3.up (by omega));exact hf1),fun _=>?_⟩;have hself:List.set t.fields (Int.toNat q) f=t.fields:=by rw[<-hff];exact List.set_getElem_self hql
  rw[hself,ywa,ywa];refine⟨by simp;omega,by simp;omega,zdh q0 (by simp;omega) ?_⟩;rw[ywb,ywe];refine⟨by simp;omega,zdh k0 k1 (zpi ?_)⟩;rw[ywd];refine h _ _ (zhg _ (zrc (t:=⟨t.name,t.key,t.fields++[f]⟩) ⟨ht1.1,ht1.2.1,by show(t.fields++[f]).length<=301;simp;omega,fun u hu=>?_⟩ hf1)) (hR3.up (by omega));rcases List.mem_append.1 hu with hu|hu
  ·exact ht1.2.2.2 u hu
  ·simp only[List.mem_singleton]at hu;subst hu;exact hf1
 ·have hge:=of_decide_eq_false hge;have hself:List.set p.types (Int.toNat k) t=p.types:=by rw[<-htt];exact List.set_getElem_self hkl
  rw[hself,ywb];refine zcg hR2 (by omega) fun c _ _ hR3=>?_;dsimp only;rw[ywc];refine⟨fun _=>?_,fun _=>?_⟩
  ·rw[ywb];refine zxI hR3 (by omega) (by decide) fun v hv hR4=>?_;refine zdh k0 k1 ?_;rw[ywb,ywe];refine⟨hkl,?_⟩;rw[ywd];exact h _ _ (zhg _ (by rw[htt];exact⟨ht1.1,Nat.le_trans (zq3 hv (by decide)) (by decide),ht1.2.2⟩)) (hR4.up (by omega))
  rw[ywc];refine⟨fun _=>?_,fun _=>?_⟩
  ·rw[ywa,ywd];refine⟨by simp;omega,h _ _ ⟨hp1.1,by show(p.types++[t]).length<=301;simp;omega,fun u hu=>?_⟩ (hR3.up (by omega))⟩;rcases List.mem_append.1 hu with hu|hu
   ·exact hp1.2.2 u hu
   ·simp only[List.mem_singleton]at hu;subst hu;exact ht1
  rw[ywc];refine⟨fun _=>?_,fun _=>?_⟩
  ·rw[ywb];refine zxI hR3 (by omega) (by decide) fun v hv hR4=>?_;rw[ywd];exact h _ _ ⟨Nat.le_trans (zq3 hv (by decide)) (by decide),hp1.2⟩ (hR4.up (by omega))
  rw[ywc];refine⟨fun _=>?_,fun _=>?_⟩
  ·rw[ywb];refine zxI hR3 (by omega) (by decide) fun v hv hR4=>?_;refine zdh k0 k1 ?_;rw[ywb,ywe];refine⟨hkl,?_⟩;rw[ywd];exact h _ _ (zhg _ (by rw[htt];exact⟨Nat.le_trans (zq3 hv (by decide)) (by decide),ht1.2⟩)) (hR4.up (by omega))
  rw[ywa,ywd];refine⟨by simp;omega,h _ _ ⟨hp1.1,?_,fun u hu=>hp1.2.2 u (List.mem_of_mem_drop (List.mem_of_mem_take hu))⟩ (hR3.up (by omega))⟩;show(List.take _ (List.drop 1 p.types)).length<=301;rw[List.length_take,List.length_drop];omega
end Go.Fw
namespace Go.Fw
open Go
set_option linter.unusedSimpArgs false
set_option linter.unusedVariables false
theorem zxJ{ps:List Part}(hp:KL KK ps):∃b l,zlh ps=some (b,l)/\(b=true->chOkM ps=true):=by
 obtain⟨r,e1,e2,e3⟩:=zgG hp;rw[zm5];unfold zk0;rw[e1];simp only[zac,bne,e2];cases hc:chOkM ps with
 |false=>exact⟨_,_,rfl,fun h=>by cases h⟩
 |true=>
  have hc':=hc;unfold chOkM at hc';simp only[yhb,yhe]at hc';have hpre:=(zmd.1.1 hc'.1).1;have hsm:=hpre.sm hp;have hK:=zvQ hsm hp;have hO:=OkP.of hc'.2;obtain⟨N,n1,n2,n3⟩:=zFp (all:=AllL ps) hpre.1 hpre.2.1 hO;have s1:=zvo hp hpre.2.1 hK hO hpre.1 n1 n2 n3;have hr:=(e3 hc).1;have s1':zoB (ps,⟨r.1.all.name,r.1.all.types⟩)=some (WW ps (AllL ps) N):=by rw[hr];exact s1
  have hw:=(zvU hpre.1 hO N n3).1;have hb:=hw.bound hpre.2.1 hO.types;have hbl:=hw.bl;have g:decide ((WW ps (AllL ps) N).1.length<=LIM)=true:=by(have:=hBM;simp only[yhr,yhs,yht,List.length_map,yhc,yhb];omega)
  simp only[Bool.not_true,zae,s1',zac,g,zag];exact⟨_,_,rfl,fun _=>trivial⟩
def kfB(f:Field):Bool:=decide (f.name.length<=300)&&(decide (f.of.length<=300)&&(decide (f.needs.length<=300)&&f.needs.all fun s=>decide (s.length<=300)))
def kpB(p:Part):Bool:=decide (p.name.length<=300)&&(decide (p.types.length<=300)&&p.types.all fun t=>decide (t.name.length<=300)&&(decide (t.key.length<=300)&&(decide (t.fields.length<=300)&&t.fields.all kfB)))
theorem zFT{p:Part}(h:kpB p=true):KP 300 p:=by simp only[kpB,kfB,yhb,yhc,List.all_eq_true]at h;exact⟨h.1,h.2.1,fun t ht=>⟨(h.2.2 t ht).1,(h.2.2 t ht).2.1,(h.2.2 t ht).2.2.1,fun f hf=>⟨((h.2.2 t ht).2.2.2 f hf).1,((h.2.2 t ht).2.2.2 f hf).2.1,((h.2.2 t ht).2.2.2 f hf).2.2.1,((h.2.2 t ht).2.2.2 f hf).2.2.2⟩⟩⟩
structure Kn (ps:List Part):Prop where
 sm:∀p∈ps,KP 300 p
 ok:chOkM ps=true
theorem Kn.pre{ps:List Part}(h:Kn ps):zA9 ps:=by have:=h.ok;unfold chOkM at this;simp only[yhb,yhe]at this;exact(zmd.1.1 this.1).1
theorem Kn.kl{ps:List Part}(h:Kn ps):KL KK ps:=⟨Nat.le_trans h.pre.2.1 (by decide),fun p hp=>(h.sm p hp).up (by decide)⟩
theorem Kn.types{ps:List Part}(h:Kn ps):∀p∈ps,0<p.types.length:=by
 intro p hp;have:=(h.pre.ok p hp).root;unfold noRoot at this;cases ht:p.types with
 |nil=>rw[ht]at this;cases this
 |cons a l=>simp
theorem zww{b:List Int}{pos:Int}{m:Nat}{Q:List Part×List Int×Int->Prop}(hR:Rd b pos m)(hm:m<=100000000000)(h:∀ps b' pos',Kn ps->Rd b' pos' (m+2400)->Q (ps,b',pos')):wp (zg5 (b,pos)) Q:=by
 rw[zlp];unfold zjx;rw[ywb];refine zmY (fun s:Int×List Int×Int=>0<=s.1/\s.1<=6/\Rd s.2.1 s.2.2 (m+400*s.1.toNat)) (fun s=>6-s.1.toNat) ⟨by simp,by simp,by simpa using hR⟩ ?_;rintro⟨k,b1,q⟩ ⟨i1,i2,i3⟩;dsimp only at i1 i2 i3|-;rw[ywc];simp only[yhc,yhd];refine⟨fun hlt=>?_,fun hge=>?_⟩
 ·rw[ywb];refine zB0 i3 (by omega) fun ps b2 q2 n n1 n3 hP hR2=>?_;have hsm:∀p∈ps,KP 300 p:=fun p hp=>.of (hP.sm p hp) (by omega);have hkl:KL KK ps:=⟨by rw[hP.len];exact Nat.le_trans n3 (by decide),fun p hp=>(hsm p hp).up (by decide)⟩
  obtain⟨bb,l,e1,e2⟩:=zxJ hkl;dsimp only;rw[ywb];refine zE1 e1 ?_;dsimp only;rw[ywc,ywd,yhz,ywa,ywd,yhy];refine⟨fun hb=>?_,fun _=>⟨zd2 (by omega) (by omega),⟨by omega,by omega,?_⟩,by omega⟩⟩
  ·rw[yhx,ywd];exact h _ _ _ ⟨hsm,e2 hb⟩ (hR2.up (by omega))
  ·have e:(k+1).toNat=k.toNat+1:=by omega
   rw[e];exact hR2.up (by omega)
 ·rw[ywd,yhz,yhw,ywd];refine h _ _ _ ⟨fun p hp=>zFT ?_,by kernel_rfl⟩ (i3.up (by omega));simp only[List.mem_singleton]at hp;subst hp;kernel_rfl
theorem ztV{ps:List Part}{k:Nat}{p:Part}(h:KL KK ps)(hp:KP KK p):KL KK (ps.set k p):=by
 refine⟨by rw[List.length_set];exact h.1,fun u hu=>?_⟩;rcases List.mem_or_eq_of_mem_set hu with hu|rfl
 ·exact h.2 u hu
 ·exact hp
theorem zGA{α:Type}{n:Nat}{x:Option α}{Q:α->Prop}(h1:0<n)(h:wp x Q):wp (gd (decide ((0:Nat)<=0)&&decide ((0:Int)<(n:Int))) x) Q:=by rw[ywa];exact⟨by simp;omega,h⟩
theorem zEu{b:List Int}{pos:Int}{m:Nat}{Q:(List Part×List Part)×List Int×Int->Prop}(hR:Rd b pos m)(hm:m<=10000000000)(h:∀o n b' pos',Kn o->KL KK n->Q ((o,n),b',pos')):wp (zls (b,pos)) Q:=by
 have hL:LIM=1099511627776:=rfl;have hkk:KK=1048576:=rfl;rw[zna];unfold zk5;rw[ywb];refine zww hR (by omega) fun o b1 q1 ho hR1=>?_;dsimp only;have hkl:=ho.kl;have h4:=ho.pre.2.1;have hpos:=ho.pre.1;rw[zdk (s0:=((0:Int),(b1,q1),([]:List Part))) o.length (fun i=>((i:Int),(b1,q1),o.take i)) ((o.length:Int),(b1,q1),o) rfl ?_ ?_]
 ·dsimp only;rw[ywb];refine zcg hR1 (by omega) fun k hk _ hR2=>?_;dsimp only;obtain⟨k0,k1⟩:=hk (by omega);have hkl2:k.toNat<o.length:=by omega
  have hmem:=ygh hkl2;have hty:=ho.types _ hmem;have hpk:=ho.sm _ hmem;rw[ywb];refine zcg hR2 (by omega) fun c _ _ hR3=>?_;dsimp only;rw[ywc];refine⟨fun _=>?_,fun _=>?_⟩
  ·rw[ywb];refine zww hR3 (by omega) fun n b2 q2 hn _=>?_;rw[ywd];exact h _ _ _ _ ho hn.kl
  rw[ywc];refine⟨fun _=>?_,fun _=>?_⟩
  ·refine zdh k0 k1 ?_;rw[ywb,ywe];refine⟨hkl2,?_⟩;rw[ywb];refine zCn hpk hty hR3 (by omega) fun p' q2 hp' _=>?_;refine zdh k0 k1 ?_;rw[ywb,ywe];refine⟨hkl2,?_⟩;rw[ywd];exact h _ _ _ _ ho (ztV hkl (hp'.up (by decide)))
  rw[ywc];refine⟨fun _=>?_,fun _=>?_⟩
  ·have ht:=hpk.2.2 _ (ygh hty);have hl1:=hpk.2.1;have hl2:=ht.2.2.1;rw[ywb,ywe];refine⟨hkl2,?_⟩;rw[ywb,ywe];refine⟨hty,?_⟩;refine zdh k0 k1 (zpi (zdh k0 k1 (zpi (zGA hty ?_))));rw[ywa];refine⟨by simp;omega,zGA hty ?_⟩;rw[ywd];have htk:=(hkl.2 _ hmem).2.2 _ (ygh hty);refine h _ _ _ _ ho (ztV hkl (ztW (hkl.2 _ hmem) ⟨htk.1,htk.2.1,?_,fun u hu=>?_⟩))
   ·show(_++[_]).length<=KK;rw[yhr,List.length_singleton];omega
   ·rcases List.mem_append.1 hu with hu|hu
    ·exact htk.2.2.2 u hu
    ·simp only[List.mem_singleton]at hu;subst hu;exact⟨by show([109,111,114,101]:SB).length<=1048576;decide,by show([116,101,120,116]:SB).length<=1048576;decide,Nat.zero_le _,fun s hs=>by cases hs⟩
  rw[ywc];refine⟨fun _=>?_,fun _=>?_⟩
  ·refine zGA hpos ?_;rw[ywb,ywe];refine⟨hpos,?_⟩;rw[ywa];refine⟨zd2 (by omega) (by omega),zdh (by omega) (by omega) ?_⟩;rw[ywb,ywe];have hlast:((o.length:Int)-1).toNat<o.length:=by omega
   refine⟨hlast,zGA hpos ?_⟩;rw[ywb,ywe];refine⟨hpos,?_⟩;rw[List.length_set,ywa];refine⟨zd2 (by omega) (by omega),zdh (by omega) (by omega) ?_⟩;rw[ywb,ywe];refine⟨by rw[List.length_set];exact hlast,?_⟩;rw[ywd];exact h _ _ _ _ ho (ztV (ztV hkl (hkl.2 _ (ygh hlast))) (hkl.2 _ (ygh hpos)))
  rw[ywc];refine⟨fun _=>?_,fun _=>?_⟩
  ·refine zdh k0 k1 ?_;rw[ywb,ywe];refine⟨hkl2,?_⟩;rw[ywd];exact h _ _ _ _ ho (ztV hkl ⟨by show([110,101,119]:SB).length<=_;decide,(hkl.2 _ hmem).2⟩)
  ·rw[ywd];exact h _ _ _ _ ho hkl
 ·intro i hi;have hl:(o.take i).length<=4:=zpI _ i _ h4;simp only[zaD hi,zaf,zax,zag,zai hi,zac,zv5 (ho.sm _ (ygh hi)),zam hi (by omega)];rw[zb0 (by(have:=hBM;simp only[yhr,yhs,yht,List.length_map,yhc,yhb];omega)),List.take_succ_eq_append_getElem hi];rfl
 ·simp only[zan,zae,List.take_length]
theorem zDw{d:List Int}{Q:List Part×List Part->Prop}(hb:∀x∈d,0<=x/\x<=255)(h:∀o n,Kn o->KL KK n->Q (o,n)):wp (zcZ d) Q:=by rw[zfH];unfold zcO;rw[ywb];refine zEs hb fun b hR=>?_;dsimp only;rw[ywb];refine zEu hR (by omega) fun o n b' q ho hn=>?_;rw[ywd];exact h o n ho hn
end Go.Fw
namespace Go.Fw
open Go
set_option linter.unusedSimpArgs false
set_option linter.unusedVariables false
theorem zwt{α β:Type} [BEq β] [LawfulBEq β]{k:α->β}{xs:List α}{i j:Nat}(hi:i<xs.length)(hj:j<xs.length)(h1:(ixM (fun u=>k u==k xs[i]) xs==(i:Int))=true)(h2:(ixM (fun u=>k u==k xs[j]) xs==(j:Int))=true)(e:k xs[i]=k xs[j]):i=j:=by rw[e]at h1;have a1:=yhe.1 h1;have a2:=yhe.1 h2;omega
theorem zr8{p:Part}(h:okP p=true):(∀j,j<p.types.length->∀t,p.types[j]? =some t->(ixM (fun u:Typ=>u.name==t.name) p.types==(j:Int))=true/\zsv t=true):=by
 intro j hj t ht;rw[ygb hj]at ht;cases ht;unfold okP pcM at h;cases h1:decide (5<p.types.length)with
 |true=>rw[h1]at h;cases h
 |false=>
 rw[h1]at h;cases h2:nameM p.name with
 |false=>rw[h2]at h;cases h
 |true=>
 rw[h2]at h;cases h3:noRoot p with
 |true=>rw[h3]at h;cases h
 |false=>
 rw[h3]at h;simp only[Bool.not_true,cond_false]at h;cases h4:fsI (pcF p) 0 p.types with
 |some r=>
  rw[h4]at h;exfalso;obtain⟨j,hj,hr⟩:=zgw h4;unfold pcF at hr;cases hz:(zbN p (0+j) p.types[j]==0)with
  |false=>rw[hz]at hr;cases hr;rw[hz]at h;cases h
  |true=>
   rw[hz]at hr;simp only[Bool.not_true,cond_false]at hr;cases hq:p.types[j].fields.any isQ with
   |false=>rw[hq]at hr;cases hr
   |true=>rw[hq]at hr;cases hr;cases h
 |none=>
 have hn:=zfu h4 j hj;rw[Nat.zero_add]at hn;unfold pcF at hn;cases hz:(zbN p j p.types[j]==0)with
 |false=>rw[hz]at hn;cases hn
 |true=>
 have hf:zbN p j p.types[j]=0:=by simpa using hz
 unfold zbN at hf;cases e1:lineM p.types[j]with
 |false=>rw[e1]at hf;cases hf
 |true=>
 rw[e1]at hf;cases e2:(ixM (fun u:Typ=>u.name==p.types[j].name) p.types==(j:Int))with
 |false=>rw[e2]at hf;cases hf
 |true=>
 rw[e2]at hf;cases e3:zsv p.types[j]with
 |false=>rw[e3]at hf;cases hf
 |true=>exact⟨rfl,rfl⟩
theorem zq5{ps:List Part}(h:okP (AllL ps)=true):((zbP ps).map fun w=>(w.type,w.field)).Nodup:=by
 have key:∀(ts:List Typ),(∀t∈ts,∀(i j:Nat)(hi:i<t.fields.length)(hj:j<t.fields.length),t.fields[i].name=t.fields[j].name->i=j)->(∀(i j:Nat)(hi:i<ts.length)(hj:j<ts.length),ts[i].name=ts[j].name->i=j)->
  ((ts.flatMap (zgS ps)).map fun w=>(w.type,w.field)).Nodup:=by
  intro ts;induction ts with
  |nil=>intro _ _;exact List.nodup_nil
  |cons t ts ih=>
   intro h1 h2;rw[List.flatMap_cons,List.map_append,List.nodup_append];refine⟨?_,ih (fun u hu=>h1 u (by simp[hu])) (fun i j hi hj e=>by have:=h2 (i+1) (j+1) (by simpa using hi) (by simpa using hj) (by simpa using e);omega),fun a ha b hb hab=>?_⟩
   ·unfold zgS;rw[List.map_map,List.Nodup,List.pairwise_iff_getElem];intro i j hi hj hij hc;rw[List.length_map]at hi hj;simp only[List.getElem_map,Function.comp,Prod.mk.injEq]at hc;have:=h1 t (by simp) i j hi hj hc.2;omega
   ·subst hab;obtain⟨w,hw,rfl⟩:=List.mem_map.1 ha;obtain⟨w',hw',e⟩:=List.mem_map.1 hb;obtain⟨g,hg,rfl⟩:=List.mem_map.1 hw;obtain⟨u,hu,hwu⟩:=List.mem_flatMap.1 hw';obtain⟨g',hg',rfl⟩:=List.mem_map.1 hwu;simp only[Prod.mk.injEq]at e;obtain⟨k,hk,rfl⟩:=List.getElem_of_mem hu;have:=h2 (k+1) 0 (by simpa using hk) (by simp) (by simpa using e.1);omega
 refine key _ (fun t ht i j hi hj e=>?_) (fun i j hi hj e=>?_)
 ·obtain⟨k,hk,rfl⟩:=List.getElem_of_mem ht;have hu:=(zr8 h k hk _ (ygb hk)).2;unfold zsv at hu;rw[zhE]at hu;have a1:=hu i hi;have a2:=hu j hj;rw[Nat.zero_add]at a1 a2;exact zwt (k:=fun g:Field=>g.name) hi hj a1 a2 e
 ·exact zwt (k:=fun g:Typ=>g.name) hi hj (zr8 h i hi _ (ygb hi)).1 (zr8 h j hj _ (ygb hj)).1 e
def mvP(o n:List Part)(q:SB×SB):Bool:=(zeK (AllL n) q.1 q.2).isSome&&zbv (kn o q.1 q.2) !=zbv (kn n q.1 q.2)
theorem ztI(o n:List Part)(l:List Own):(l.flatMap (mvL o n)).length=((l.map fun w=>(w.type,w.field)).filter (mvP o n)).length:=by
 induction l with
 |nil=>rfl
 |cons w l ih=>
  rw[List.flatMap_cons,yhr,ih,List.map_cons,List.filter_cons];unfold mvL;have:znQ o n w=mvP o n (w.type,w.field):=rfl;rw[this];cases mvP o n (w.type,w.field)with
  |true=>simp;omega
  |false=>simp
theorem zwR{ps:List Part}(h:Ch ps)(q:SB×SB):q∈(zbP ps).map (fun w=>(w.type,w.field))↔(zeK (AllL ps) q.1 q.2).isSome=true:=by
 rw[<-h.any q.1 q.2,List.any_eq_true,List.mem_map];constructor
 ·rintro⟨w,hw,rfl⟩;exact⟨w,hw,by simp⟩
 ·rintro⟨w,hw,e⟩;simp only[yhb,yhe]at e;exact⟨w,hw,by rw[e.1,e.2]⟩
theorem zEm{o n:List Part}(ho:KL KK o)(hn:KL KK n):(mvS n o).length=(mvS o n).length:=by
 unfold mvS;rw[Bool.and_comm (chOkM n)];cases hco:chOkM o with
 |false=>rfl
 |true=>
  cases hcn:chOkM n with
  |false=>rfl
  |true=>
   have co:=Ch.of ho hco;have cn:=Ch.of hn hcn;unfold chOkM at hco hcn;simp only[yhb]at hco hcn;show((zbP n).flatMap (mvL n o)).length=((zbP o).flatMap (mvL o n)).length;rw[ztI,ztI];refine List.Perm.length_eq ((List.perm_ext_iff_of_nodup ((zq5 hcn.2).filter _) ((zq5 hco.2).filter _)).2 fun q=>?_);rw[List.mem_filter,List.mem_filter,zwR cn,zwR co];unfold mvP;simp only[yhb,yhf,ne_eq];constructor
   ·rintro⟨a,b,c⟩;exact⟨b,a,fun e=>c e.symm⟩
   ·rintro⟨a,b,c⟩;exact⟨b,a,fun e=>c e.symm⟩
theorem zEn(o:List Part):mvS o o=[]:=by
 unfold mvS;have:∀l:List Own,l.flatMap (mvL o o)=[]:=by
  intro l;induction l with
  |nil=>rfl
  |cons w l ih=>rw[List.flatMap_cons,ih];unfold mvL znQ;simp
 rw[this];cases chOkM o&&chOkM o<;>rfl
theorem zCt{a:List SB}(ha:a.length<=KK):zhC (a,a)=some true:=by
 rw[zke];unfold zhy;dsimp only;have hk:KK=1048576:=rfl;have h1:((a.length:Int) !=(a.length:Int))=false:=by simp
 rw[h1,zae];rw[zcj (s0:=(0:Int)) (Z:=Bool) a (fun i=>(i:Int)) (a.length:Int) (fun i x=>none) rfl ?_ ?_]
 ·have:∀(i:Nat)(l:List SB),fsI (fun(i:Nat)(x:SB)=>(none:Option Bool)) i l=none:=by
   intro i l;induction l generalizing i with
   |nil=>rfl
   |cons x l ih=>exact ih (i+1)
  rw[this];rfl
 ·intro i hi;have e1:(a[i] !=a[i])=false:=by simp
  simp only[zaD hi,zaf,zax,zag,zai hi,zac,zam hi (by omega),e1,zae];rfl
 ·simp only[zan,zae]
theorem zBM{d:List Int}(hb:∀x∈d,0<=x/\x<=255):wp (zeM d) fun r=>r=true:=by
 rw[zfU];unfold zcY;rw[ywc];refine⟨fun _=>by rw[ywd],fun _=>?_⟩;rw[ywb];refine zDw hb fun o n ho hn=>?_;dsimp only;obtain⟨r,r1,r2,r3,r4⟩:=zkM ho.kl hn;obtain⟨r',_,q2,_,q4⟩:=zkM hn ho.kl;obtain⟨z,_,z2,_,z4⟩:=zkM ho.kl ho.kl;obtain⟨c,c1,_,c3⟩:=zgG ho.kl;obtain⟨c',d1,_,d3⟩:=ziY ho.kl;obtain⟨_,_,c6⟩:=c3 ho.ok;obtain⟨_,d5,d6⟩:=d3 ho.ok;have hf:zgk o=some ⟨0,[],[],0⟩:=by rw[ziC];unfold zgd;rw[c1,zac,c6]
 rw[zEn]at z4;subst z4;have hlen:r'.length=r.length:=by rw[q4,r4];exact zEm ho.kl hn
 have hown:r.length<=c'.1.owners.length:=by
  rw[r4,d5];show _<=(zbP o).length;unfold mvS;cases chOkM o&&chOkM n with
  |true=>exact zzV o n _
  |false=>exact Nat.zero_le _
 rw[r2,r1,d1];simp only[zac,zCt r3,hf,d6,z2,q2,hlen,Bool.not_true,zae];refine zE1 (a:=decide ((r.length:Int)<=(c'.1.owners.length:Int))) ?_ (by simpa using hown);show zaa (zab ((r.length:Int)==(r.length:Int)) (some (decide ((r.length:Int)<=(c'.1.owners.length:Int)))) (some false)) (fun x=>some x)=_;rw[show((r.length:Int)==(r.length:Int))=true by simp];rfl
end Go.Fw
