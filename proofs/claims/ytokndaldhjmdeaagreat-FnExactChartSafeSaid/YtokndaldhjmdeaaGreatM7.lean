/- A part of the proof: what stands for the program, its functions, and what they come to. -/
import Derived.Test.YtokndaldhjmdeaaGreatM6
set_option linter.all false
namespace Go.Fw
open Go
set_option linter.unusedSimpArgs false
set_option linter.unusedVariables false
theorem zHd(i:Nat):decide ((i:Int)>=0)=true:=by simp
theorem zlQ(i:Nat):decide ((i:Int)<0)=false:=by simp
theorem zfp{p:Part}{n f:List UInt8}(hp:KP KK p):zgX (p,n,f)=some ((zhq p n f).getD fd0,(zhq p n f).isSome):=by
 rw[zrH];unfold zpH;dsimp only
 rw[zd4 (up hp.2.1),zac]
 unfold zhq tyM
 rcases zbO (fun t:Typ=>t.name==n) p.types with⟨h1,h2,_⟩|⟨i,hi,h1,h2,_,_⟩
 ·rw[h1,h2];rfl
 ·rw[h1,h2,zlQ,zae,zaE,zag,zaj hi,zac,zfU (up (hp.2.2 _ (ygh hi)).2.2.1),zac]
  show _=some ((fdM p.types[i] f).getD fd0,(fdM p.types[i] f).isSome)
  unfold fdM
  rcases zbO (fun t:Field=>t.name==f) p.types[i].fields with⟨g1,g2,_⟩|⟨j,hj,g1,g2,_,_⟩
  ·rw[g1,g2];rfl
  ·rw[g1,g2,zlQ,zae]
   simp only[zaE,zag,zac,zaj hj]
   rfl
theorem zjd{p:Part}{n:List UInt8}{t:Typ}(h:tyM p n=some t):t∈p.types/\t.name=n:=by
 unfold tyM at h
 exact⟨List.mem_of_find?_eq_some h,by simpa using List.find?_some h⟩
theorem zAy{t:Typ}{n:List UInt8}{f:Field}(h:fdM t n=some f):f∈t.fields/\f.name=n:=by
 unfold fdM at h
 exact⟨List.mem_of_find?_eq_some h,by simpa using List.find?_some h⟩
theorem zpB{p:Part}{n f:List UInt8}{g:Field}(h:zhq p n f=some g):∃t∈p.types,t.name=n/\tyM p n=some t/\g∈t.fields/\g.name=f/\fdM t f=some g:=by
 unfold zhq at h
 cases ht:tyM p n with
 | none=>rw[ht]at h;cases h
 | some t =>
  rw[ht]at h
  exact⟨t,(zjd ht).1,(zjd ht).2,rfl,(zAy h).1,(zAy h).2,h⟩
theorem zee{p:Part}{n f:List UInt8}(hp:KP KK p):zaY (p,n,f)=some ((zhq p n f).getD fd0,(zhq p n f).isSome):=by
 rw[zh8];unfold zdC;dsimp only
 rw[zn5 (up hp.2.1),zac]
 unfold zhq
 cases ht:tyM p n with
 | none =>
  simp only[Option.getD_none,Option.isSome_none,Option.bind_none]
  rw[show zbx (⟨ty0.name,ty0.key,ty0.fields⟩,f)=some (fd0,false)from by
   rw[zpw (by show([]:List Field).length<=_;simp)];rfl]
  rfl
 | some t =>
  simp only[Option.getD_some,Option.isSome_some,Option.bind_some]
  rw[show zbx (⟨t.name,t.key,t.fields⟩,f)=some ((fdM t f).getD fd0,(fdM t f).isSome)from
   zpw (up (hp.2.2 _ (zjd ht).1).2.2.1)]
  rfl
def zqz(ps:List Part)(n:List UInt8):List UInt8:=(ps.findSome? fun p=>match tyM p n with
 | some t=>bif t.key !=[]then some t.key else none
 | none=>none).getD []
theorem zmB{ps:List Part}{n:List UInt8}(hp:KL KK ps):zlY (ps,n)=some (zqz ps n):=by
 rw[zrK];unfold zpK;dsimp only
 unfold zqz
 rw[zdt (s0:=(0:Int)) ps (fun i=>(i:Int)) (ps.length:Int) (fun _ p=>match tyM p n with
  | some t=>bif t.key !=[]then some t.key else none
  | none=>none) rfl ?_ ?_]
 ·rw[zpA]
  cases ps.findSome? _<;>rfl
 ·intro i hi
  have h3:=zap hi (up hp.1)
  have hq:=hp.2 _ (ygh hi)
  simp only[zaS hi,zaE,zaj hi,zaf,zag,zac,h3,zd4 (up hq.2.1)]
  unfold tyM
  rcases zbO (fun t:Typ=>t.name==n) ps[i].types with⟨h1,h2,_⟩|⟨k,hk,h1,h2,_,_⟩
  ·rw[h1,h2];rfl
  ·rw[h1,h2]
   simp only[zHd,zaf,zaE,zag,zaj hk,zac]
   cases(ps[i].types[k].key !=[])<;>rfl
 ·simp only[zaq,zae]
theorem zmm{ps:List Part}{n:List UInt8}(hp:KL KK ps):zgV (ps,n)=some (zqz ps n):=by
 rw[zoE];unfold zjP;dsimp only
 unfold zqz
 rw[zdt (s0:=(0:Int)) ps (fun i=>(i:Int)) (ps.length:Int) (fun _ p=>match tyM p n with
  | some t=>bif t.key !=[]then some t.key else none
  | none=>none) rfl ?_ ?_]
 ·rw[zpA]
  cases ps.findSome? _<;>rfl
 ·intro i hi
  have h3:=zap hi (up hp.1)
  have hq:=hp.2 _ (ygh hi)
  simp only[zaS hi,zaE,zaj hi,zaf,zag,zac,h3,zn5 (up hq.2.1)]
  cases tyM ps[i] n with
  | none=>rfl
  | some t =>
   simp only[Option.getD_some]
   cases(t.key !=[])<;>rfl
 ·simp only[zaq,zae]
def zjI(n f:List UInt8)(p:Part):Bool:=match zhq p n f with
 | some g=>!g.far
 | none=>false
def zef(n f:List UInt8):Nat->List Part->List Int
 | _,[]=>[]
 | i,p:: ps=>(bif zjI n f p then[(i:Int)]else[])++zef n f (i+1) ps
theorem zu0(n f:List UInt8)(ps:List Part)(k i:Nat)(h:i<ps.length):zef n f k (ps.take (i+1))=zef n f k (ps.take i)++(bif zjI n f ps[i]then[((k+i:Nat):Int)]else[]):=by
 induction ps generalizing k i with
 | nil=>simp at h
 | cons p ps ih =>
  cases i with
  | zero=>simp[zef]
  | succ i =>
   simp only[List.take_succ_cons,zef,List.getElem_cons_succ]
   rw[ih (k+1) i (by simpa using h),List.append_assoc,show k+1+i=k+(i+1) by omega]
theorem zCT(n f:List UInt8)(ps:List Part)(k:Nat):(zef n f k ps).length<=ps.length:=by
 induction ps generalizing k with
 | nil=>simp[zef]
 | cons p ps ih =>
  simp only[zef,yhr,yhs]
  have:=ih (k+1)
  cases zjI n f p<;>simp<;>omega
theorem zqM(n f:List UInt8)(ps:List Part)(i:Nat)(h:ps.length<=KK):(zef n f 0 (ps.take i)).length<=KK:=by
 refine Nat.le_trans (zCT _ _ _ _) (Nat.le_trans ?_ h)
 rw[List.length_take]
 exact Nat.min_le_right _ _
theorem zxO(n f:List UInt8)(p:Part):(zab (zhq p n f).isSome (some !((zhq p n f).getD fd0).far) (some false))=some (zjI n f p):=by
 unfold zjI
 cases zhq p n f<;>rfl
theorem zsk{ps:List Part}{n f:List UInt8}(hp:KL KK ps):zgr (ps,n,f)=some (zef n f 0 ps):=by
 rw[zmX];unfold zhZ;dsimp only
 have hk:KK=1048576:=rfl
 rw[zeV (s0:=((0:Int),([]:List Int))) ps.length (fun i=>((i:Int),zef n f 0 (ps.take i))) ((ps.length:Int),zef n f 0 ps) rfl ?_ ?_]
 ·intro i hi
  have h3:=zap hi (up hp.1)
  have l1:=zqM n f ps i hp.1
  simp only[zaS hi,zaE,zaj hi,zaf,zag,zac,h3,zfp (hp.2 _ (ygh hi)),zxO]
  rw[zu0 _ _ _ _ _ hi]
  (rw[zdN];rotate_left;(have:=hBM;simp only[yhr,yhs,yht,List.length_map,yhc,yhb];omega))
  rw[Nat.zero_add]
  cases zjI n f ps[i]<;>simp[zab,zac]
 ·simp only[zaq,zae,List.take_length]
theorem zr4{ps:List Part}{n f:List UInt8}(hp:KL KK ps):ze4 (ps,n,f)=some (zef n f 0 ps):=by
 rw[zlC];unfold zgE;dsimp only
 have hk:KK=1048576:=rfl
 rw[zeV (s0:=((0:Int),([]:List Int))) ps.length (fun i=>((i:Int),zef n f 0 (ps.take i))) ((ps.length:Int),zef n f 0 ps) rfl ?_ ?_]
 ·intro i hi
  have h3:=zap hi (up hp.1)
  have l1:=zqM n f ps i hp.1
  simp only[zaS hi,zaE,zaj hi,zaf,zag,zac,h3,zee (hp.2 _ (ygh hi)),zxO]
  rw[zu0 _ _ _ _ _ hi]
  (rw[zdN];rotate_left;(have:=hBM;simp only[yhr,yhs,yht,List.length_map,yhc,yhb];omega))
  rw[Nat.zero_add]
  cases zjI n f ps[i]<;>simp[zab,zac]
 ·simp only[zaq,zae,List.take_length]
def zaw(ps:List Part)(n f:List UInt8):List Field:=ps.filterMap fun p=>zhq p n f
theorem zr0{ps:List Part}{n f:List UInt8}{i:Nat}(h:i<ps.length):zaw (ps.take (i+1)) n f=zaw (ps.take i) n f++(match zhq ps[i] n f with
  | some g=>[g]
  | none=>[]):=by
 unfold zaw
 rw[List.take_succ_eq_append_getElem h,List.filterMap_append]
 cases hg:zhq ps[i] n f<;>simp[hg]
theorem ziq(ps:List Part)(n f:List UInt8):(zaw ps n f).length<=ps.length:=List.length_filterMap_le _ _
theorem znm{ps:List Part}{n f:List UInt8}(hp:KL KK ps):zcl (ps,n,f)=some (zaw ps n f):=by
 rw[zj4];unfold zfA;dsimp only
 have hk:KK=1048576:=rfl
 rw[zeV (s0:=((0:Int),([]:List Field))) ps.length (fun i=>((i:Int),zaw (ps.take i) n f)) ((ps.length:Int),zaw ps n f) rfl ?_ ?_]
 ·intro i hi
  have h3:=zap hi (up hp.1)
  have l1:=ziq (ps.take i) n f
  have l2:(ps.take i).length<=KK:=Nat.le_trans (by rw[List.length_take];exact Nat.min_le_right _ _) hp.1
  simp only[zaS hi,zaE,zaj hi,zaf,zag,zac,h3,zee (hp.2 _ (ygh hi))]
  rw[zr0 hi]
  (rw[zdN];rotate_left;(have:=hBM;simp only[yhr,yhs,yht,List.length_map,yhc,yhb];omega))
  cases zhq ps[i] n f<;>simp[zab,zac]
 ·simp only[zaq,zae,List.take_length]
def zdr(ps:List Part)(n f:List UInt8):List (List UInt8):=((zaw ps n f).findSome? fun g=>bif decide (0<g.needs.length)then some g.needs else none).getD []
theorem zom{ps:List Part}{n f:List UInt8}(hp:KL KK ps):zdS (ps,n,f)=some (zdr ps n f):=by
 rw[zlD];unfold zgF;dsimp only
 rw[znm hp,zac]
 unfold zdr
 have l1:=ziq ps n f
 rw[zdt (s0:=(0:Int)) (zaw ps n f) (fun i=>(i:Int)) ((zaw ps n f).length:Int) (fun _ g=>bif decide (0<g.needs.length)then some g.needs else none) rfl ?_ ?_]
 ·rw[zpA]
  cases(zaw ps n f).findSome? _<;>rfl
 ·intro i hi
  have h3:=zap hi (up (Nat.le_trans l1 hp.1))
  simp only[zaS hi,zaE,zaj hi,zaf,zag,zac,h3,znx]
  cases decide (0<(zaw ps n f)[i].needs.length)<;>rfl
 ·simp only[zaq,zae]
end Go.Fw
namespace Go.Fw
open Go
set_option linter.unusedSimpArgs false
set_option linter.unusedVariables false
theorem zqq{α J γ:Type}(f:Nat->α->Option J)(h:J->γ)(xs:List α)(i:Nat):fsI (fun i x=>(f i x).map h) i xs=(fsI f i xs).map h:=by
 induction xs generalizing i with
 | nil=>rfl
 | cons x xs ih =>
  simp only[fsI]
  cases f i x with
  | some r=>rfl
  | none=>exact ih (i+1)
theorem zku{α J:Type}{f:Nat->α->Option J}{xs:List α}{i:Nat}:fsI f i xs=none↔∀(j:Nat)(hj:j<xs.length),f (i+j) xs[j]=none:=by
 refine⟨zhB,fun h=>?_⟩
 induction xs generalizing i with
 | nil=>rfl
 | cons x xs ih =>
  have h0:=h 0 (by simp)
  simp only[Nat.add_zero,List.getElem_cons_zero]at h0
  simp only[fsI,h0]
  refine ih fun j hj=>?_
  have:=h (j+1) (by simpa using hj)
  rw[Nat.add_assoc,Nat.add_comm 1 j]
  exact this
theorem zkt{α J:Type}{f:Nat->α->Option J}{xs:List α}{i:Nat}{r:J}(h:fsI f i xs=some r):∃(j:Nat)(hj:j<xs.length),f (i+j) xs[j]=some r:=by
 induction xs generalizing i with
 | nil=>cases h
 | cons x xs ih =>
  simp only[fsI]at h
  cases hx:f i x with
  | some r'=>rw[hx]at h;cases h;exact⟨0,by simp,hx⟩
  | none =>
   rw[hx]at h
   obtain⟨j,hj,e⟩:=ih h
   exact⟨j+1,by simpa using hj,by rw[show i+(j+1)=i+1+j by omega];exact e⟩
def zxd(f g:Field):Bool:=f.of==g.of&&(f.list==g.list&&f.must==g.must)
theorem zCb(f g:Field):zkc (f,g)=some (zxd f g):=by
 rw[zoK];unfold zjV;dsimp only
 unfold zxd
 cases(f.of==g.of)<;>cases(f.list==g.list)<;>rfl
def zzt(ps:List Part)(n:List UInt8)(f:Field):Bool:=(zaw ps n f.name).any fun g=>!zxd f g
def zBO(ps:List Part)(t:Typ):List UInt8:=(t.fields.findSome? fun f=>bif zzt ps t.name f then some f.name else none).getD []
theorem zzu(g f:Field):zd7 (g,f)=some (!zxd f g):=by
 rw[zj8];unfold zfD;dsimp only
 unfold zxd
 rw[BEq.comm (a:=f.of),BEq.comm (a:=f.list),BEq.comm (a:=f.must)]
 simp only[bne]
 cases(g.of==f.of)<;>cases(g.list==f.list)<;>cases(g.must==f.must)<;>rfl
theorem zBP{ps:List Part}{t:Typ}(hp:KL KK ps)(ht:KT KK t):zie (ps,t)=some (zBO ps t):=by
 rw[zmT];unfold zhX;dsimp only
 unfold zBO
 rw[zdt (s0:=(0:Int)) t.fields (fun i=>(i:Int)) (t.fields.length:Int) (fun _ f=>bif zzt ps t.name f then some f.name else none) rfl ?_ ?_]
 ·rw[zpA]
  cases t.fields.findSome? _<;>rfl
 ·intro i hi
  have h3:=zap hi (up ht.2.2.1)
  have l1:=ziq ps t.name t.fields[i].name
  have k:zeF (zaw ps t.name t.fields[i].name,t.fields[i])=some (zzt ps t.name t.fields[i]):=by
   rw[zjq];unfold zeq;dsimp only
   have h2:zeI (zaw ps t.name t.fields[i].name,t.fields[i])=some (ixM (fun g=>!zxd t.fields[i] g) (zaw ps t.name t.fields[i].name)):=by
    rw[zjt];unfold zet;dsimp only
    exact ixf (g:=fun g=>zd7 (g,t.fields[i])) _ (up (Nat.le_trans l1 hp.1)) (fun g _=>zzu g _)
   rw[h2,zac,zjz]
   rfl
  simp only[zaS hi,zaE,zaj hi,zaf,zag,zac,h3,znm hp,k]
  cases zzt ps t.name t.fields[i]<;>rfl
 ·simp only[zaq,zae]
def needy(g:Field):Bool:=decide (0<g.needs.length)
theorem zuY(ps:List Part)(n f:List UInt8):decide (0<(zdr ps n f).length)=(zaw ps n f).any needy:=by
 unfold zdr
 induction zaw ps n f with
 | nil=>rfl
 | cons g gs ih =>
  rw[List.findSome?_cons,List.any_cons]
  unfold needy at ih|-
  cases hg:decide (0<g.needs.length)with
  | true=>simpa using hg
  | false=>simpa using ih
def zl3(ps:List Part)(n f:List UInt8):Int:=
 bif !decide (0<(zef n f 0 ps).length)then 6 else
 bif decide (1<(zef n f 0 ps).length)&&(f !=zqz ps n&&decide ((zaw ps n f).countP (·.shared)<(zef n f 0 ps).length))then 5 else
 bif (decide (1<(zef n f 0 ps).length)&&(zaw ps n f).any needy) ||(zdr ps n f).any (fun x=>(zaw ps n x).any needy)then 7 else 0
theorem zzY(n:Nat):decide ((n:Int)>1)=decide (1<n):=zrP n 1
theorem zDv(n m:Nat):decide ((n:Int)<(m:Int))=decide (n<m):=by
 by_cases h:n<m
 ·simp[h]
 ·simp[h]
theorem zCi{ps:List Part}{n f:List UInt8}(hp:KL KK ps):zeA (ps,n,f)=some (zl3 ps n f):=by
 rw[zjm];unfold zem;dsimp only
 have hk:KK=1048576:=rfl
 rw[zr4 hp,zac,znm hp,zac]
 have l1:=ziq ps n f
 have l2:=hp.1
 rw[zeV (s0:=((0:Int),(0:Int))) (zaw ps n f).length (fun i=>((((zaw ps n f).take i).countP (·.shared):Int),(i:Int))) (((zaw ps n f).countP (·.shared):Int),((zaw ps n f).length:Int)) (by simp) ?_ ?_]
 ·rw[zom hp,zac,zDF,zzY,zmm hp]
  dsimp only
  rw[zDv,znt,zuY]
  have k:zbU (zdr ps n f,ps,n)=some ((zdr ps n f).any (fun x=>(zaw ps n x).any needy)):=by
   rw[zgY];unfold zcu;dsimp only
   have hnl:(zdr ps n f).length<=KK:=by
    unfold zdr
    cases hf:(zaw ps n f).findSome? fun g=>bif decide (0<g.needs.length)then some g.needs else none with
    | none=>simp
    | some l =>
     obtain⟨g,hg,he⟩:=List.exists_of_findSome?_eq_some hf
     cases hz:decide (0<g.needs.length)with
     | false=>rw[hz]at he;cases he
     | true =>
      rw[hz]at he
      cases he
      unfold zaw at hg
      obtain⟨p,hpm,hgp⟩:=List.mem_filterMap.1 hg
      obtain⟨t,ht,_,_,hgt,_⟩:=zpB hgp
      exact(((hp.2 p hpm).2.2 t ht).2.2.2 g hgt).2.2.1
   have h2:zcE (zdr ps n f,ps,n)=some (ixM (fun x=>(zaw ps n x).any needy) (zdr ps n f)):=by
    rw[zg1];unfold zcx;dsimp only
    refine ixf (g:=fun x=>zc1 (x,ps,n)) _ (up hnl) (fun x _=>?_)
    rw[zhv];unfold zcV;dsimp only
    rw[zom hp,zac,znt,zuY]
   rw[h2,zac,zjz]
  rw[k]
  unfold zl3
  simp only[bne,zac]
  cases decide (0<(zef n f 0 ps).length)<;>cases decide (1<(zef n f 0 ps).length)<;>cases(f==zqz ps n)<;>cases decide ((zaw ps n f).countP (·.shared)<(zef n f 0 ps).length)<;>cases(zaw ps n f).any needy<;>cases(zdr ps n f).any (fun x=>(zaw ps n x).any needy)<;>rfl
 ·intro i hi
  have h3:=zap hi (up (Nat.le_trans l1 hp.1))
  have hc:=List.countP_le_length (p:=fun g:Field=>g.shared) (l:=(zaw ps n f).take i)
  have hc2:((zaw ps n f).take i).length<=i:=by rw[List.length_take];exact Nat.min_le_left _ _
  have h4:zaF ((((zaw ps n f).take i).countP (·.shared):Int)+1)=true:=zi5 (by omega) (by omega)
  simp only[zaS hi,zaE,zaj hi,zaf,zag,zac,h3,h4]
  rw[List.take_succ_eq_append_getElem hi,List.countP_append,List.countP_singleton]
  cases(zaw ps n f)[i].shared<;>simp[zab,zac]
 ·simp only[zaq,zae,List.take_length]
def zuk(ps:List Part)(n x:List UInt8):Bool:=(zaw ps n x).any needy
theorem zCn(ps:List Part)(n x:List UInt8):zuk ps n x=ps.any fun p=>match zhq p n x with
  | some g=>needy g
  | none=>false:=by
 unfold zuk zaw
 induction ps with
 | nil=>rfl
 | cons p ps ih =>
  rw[List.filterMap_cons,List.any_cons]
  cases zhq p n x with
  | none=>simpa using ih
  | some g=>simp only[List.any_cons,ih]
theorem zFN(ps:List Part)(n:List UInt8)(f:Field):zzt ps n f=ps.any fun p=>match zhq p n f.name with
  | some g=>!zxd f g
  | none=>false:=by
 unfold zzt zaw
 induction ps with
 | nil=>rfl
 | cons p ps ih =>
  rw[List.filterMap_cons,List.any_cons]
  cases zhq p n f.name with
  | none=>simpa using ih
  | some g=>simp only[List.any_cons,ih]
def zo9(ps:List Part)(n:List UInt8)(f:Field):Int:=
 bif zzt ps n f then 3 else
 bif !decide (0<(zef n f.name 0 ps).length)then 6 else
 bif decide (1<(zef n f.name 0 ps).length)&&(f.name !=zqz ps n&&decide ((zaw ps n f.name).countP (·.shared)<(zef n f.name 0 ps).length))then 5 else
 bif decide (1<(zef n f.name 0 ps).length)&&(zaw ps n f.name).any needy then 7 else
 bif f.needs.any (zuk ps n)then 7 else 0
theorem zyt{α:Type}(q:α->Bool)(l:List α):decide (0<l.countP q)=l.any q:=by
 rw[Bool.eq_iff_iff,List.any_eq_true,yhc,List.countP_pos_iff]
theorem zpV{α:Type}(q:α->Bool)(xs:List α):xs.any q= !xs.all fun x=>!q x:=by
 rw[List.not_all_eq_any_not]
 simp
theorem zCk{ps:List Part}{i:Int}{n:List UInt8}{f:Field}(hp:KL KK ps)(hf:KF KK f):zke (ps,i,n,f)=some (zo9 ps n f):=by
 rw[zoM];unfold zjX;dsimp only
 have hk:KK=1048576:=rfl
 have l2:=hp.1
 rw[zsk hp,zac]
 rw[zdt (s0:=((0:Int),(0:Int),(0:Int))) ps (fun i=>(((zaw (ps.take i) n f.name).countP (·.shared):Int),((zaw (ps.take i) n f.name).countP needy:Int),(i:Int))) (((zaw ps n f.name).countP (·.shared):Int),((zaw ps n f.name).countP needy:Int),(ps.length:Int))
  (fun _ p=>bif !(match zhq p n f.name with
   | some g=>!zxd f g
   | none=>false)then none else some 3) rfl ?_ ?_]
 ·rw[zdx,zfv]
  unfold zo9
  rw[zFN,zpV]
  cases ps.all _ with
  | false=>rfl
  | true =>
   simp only[cond_true,zau,Bool.not_true,cond_false,zDF,zzY,zmB hp,zac,zDv]
   have e1:decide (((zaw ps n f.name).countP needy:Int)>0)=(zaw ps n f.name).any needy:=by
    rw[<-zyt];exact zrP _ 0
   rw[e1]
   have k1:(zab (decide (1<(zef n f.name 0 ps).length)) (zab (f.name !=zqz ps n) (some (decide ((zaw ps n f.name).countP (·.shared)<(zef n f.name 0 ps).length))) (some false)) (some false))
     =some (decide (1<(zef n f.name 0 ps).length)&&(f.name !=zqz ps n&&decide ((zaw ps n f.name).countP (·.shared)<(zef n f.name 0 ps).length))):=by
    cases decide (1<(zef n f.name 0 ps).length)<;>cases(f.name !=zqz ps n)<;>rfl
   have k2:(zab ((zaw ps n f.name).any needy) (some (decide (1<(zef n f.name 0 ps).length))) (some false))=some (decide (1<(zef n f.name 0 ps).length)&&(zaw ps n f.name).any needy):=by
    cases decide (1<(zef n f.name 0 ps).length)<;>cases(zaw ps n f.name).any needy<;>rfl
   rw[k1,zac,k2,zac]
   rw[zdt (s0:=(0:Int)) f.needs (fun i=>(i:Int)) (f.needs.length:Int) (fun _ x=>bif !zuk ps n x then none else some 7) rfl ?_ ?_]
   ·rw[zdx,zfv]
    have:f.needs.any (zuk ps n)= !f.needs.all fun x=>!zuk ps n x:=zpV _ _
    rw[this]
    cases decide (0<(zef n f.name 0 ps).length)<;>cases(decide (1<(zef n f.name 0 ps).length)&&(f.name !=zqz ps n&&decide ((zaw ps n f.name).countP (·.shared)<(zef n f.name 0 ps).length)))<;>cases(decide (1<(zef n f.name 0 ps).length)&&(zaw ps n f.name).any needy)<;>cases(f.needs.all fun x=>!zuk ps n x)<;>rfl
   ·intro j hj
    have h3:=zap hj (up hf.2.2.1)
    simp only[zaS hj,zaf]
    rw[zdt (s0:=(0:Int)) ps (fun i=>(i:Int)) (ps.length:Int) (fun _ p=>bif !(match zhq p n f.needs[j]with
     | some g=>needy g
     | none=>false)then none else some (Sum.inr (Sum.inr 7))) rfl ?_ ?_]
    ·rw[zdx,zfv,zCn,zpV,h3]
     cases ps.all _<;>rfl
    ·intro k hk
     have h4:=zap hk (up hp.1)
     simp only[zaS hk,zaE,zaj hk,zaj hj,zaf,zag,zac,h4,zfp (hp.2 _ (ygh hk)),znt]
     cases zhq ps[k] n f.needs[j]with
     | none=>rfl
     | some g =>
      unfold needy
      simp only[Option.isSome_some,Option.getD_some]
      cases decide (0<g.needs.length)<;>rfl
    ·simp only[zaq,zae]
   ·simp only[zaq,zae]
 ·intro j hj
  have h3:=zap hj (up hp.1)
  have hc:=List.countP_le_length (p:=fun g:Field=>g.shared) (l:=zaw (ps.take j) n f.name)
  have hd:=List.countP_le_length (p:=needy) (l:=zaw (ps.take j) n f.name)
  have hl:=ziq (ps.take j) n f.name
  have hl2:(ps.take j).length<=j:=by rw[List.length_take];exact Nat.min_le_left _ _
  have h4:zaF (((zaw (ps.take j) n f.name).countP (·.shared):Int)+1)=true:=zi5 (by omega) (by omega)
  have h5:zaF (((zaw (ps.take j) n f.name).countP needy:Int)+1)=true:=zi5 (by omega) (by omega)
  simp only[zaS hj,zaE,zaj hj,zaf,zag,zac,h3,h4,h5,zfp (hp.2 _ (ygh hj)),zCb,znt]
  rw[zr0 hj]
  cases hg:zhq ps[j] n f.name with
  | none=>simp[zab,zac,cond]
  | some g =>
   simp only[Option.isSome_some,Option.getD_some,List.countP_append,List.countP_singleton,zaf,zac]
   unfold needy
   cases zxd f g<;>cases g.shared<;>cases decide (0<g.needs.length)<;>simp[zab,zac,cond]
 ·simp only[zaq,zae,List.take_length]
end Go.Fw
namespace Go.Fw
open Go
set_option linter.unusedSimpArgs false
set_option linter.unusedVariables false
abbrev SJw:=Int×Int×List UInt8×List UInt8×Int
abbrev mkW(i:Nat):SJw:=((i:Int),0,[],[],0)
def p1F(ps:List Part)(i:Nat)(p:Part):Option CFault:=bif !okP p then some ⟨(i:Int)+1,[],[],1⟩else bif (ps.take i).any (fun q=>q.name==p.name)then some ⟨(i:Int)+1,[],[],2⟩else none
def zxe(ps:List Part)(t:Typ):Bool:=t.key !=[]&&t.key !=zqz ps t.name
def s2F(ps:List Part)(i:Nat)(n:List UInt8)(f:Field):Option CFault:=bif zo9 ps n f !=0 then some ⟨(i:Int)+1,n,f.name,zo9 ps n f⟩else none
def s2T(ps:List Part)(i:Nat)(t:Typ):Option CFault:=bif zxe ps t then some ⟨(i:Int)+1,t.name,[],4⟩else fsI (fun _ f=>s2F ps i t.name f) 0 t.fields
def s2P(ps:List Part)(i:Nat)(p:Part):Option CFault:=fsI (fun _ t=>s2T ps i t) 0 p.types
def v6S(ps:List Part):CFault:=bif !(decide (0<ps.length)&&decide (ps.length<=4))then⟨0,[],[],8⟩else
 match fsI (p1F ps) 0 ps with
 | some r=>r
 | none=>match fsI (s2P ps) 0 ps with
  | some r=>r
  | none=>⟨0,[],[],0⟩
theorem zD8(n:Nat):decide ((n:Int)>4)= !decide (n<=4):=by
 by_cases h:n<=4
 ·simp[h];omega
 ·simp[h];omega
theorem zzS(ps:List Part)(t:Typ):(zab (t.key !=[]) (some (t.key !=zqz ps t.name)) (some false))=some (zxe ps t):=by
 unfold zxe
 cases(t.key !=[])<;>rfl
theorem zAx{ps:List Part}(hp:KL KK ps):zkd ps=some (v6S ps):=by
 rw[zoL];unfold zjW
 unfold v6S
 have k1:(zab ((↑(List.length ps):Int)==0) (some true) (some (decide ((↑(List.length ps):Int)>4))))=some (!(decide (0<ps.length)&&decide (ps.length<=4))):=by
  rw[zDF,zD8]
  cases decide (0<ps.length)<;>rfl
 rw[k1,zac]
 cases(decide (0<ps.length)&&decide (ps.length<=4))with
 | false=>rfl
 | true =>
  simp only[Bool.not_true,zae,cond_false]
  rw[zdt (s0:=((0:Int),(0:Int),([]:List UInt8),([]:List UInt8),(0:Int))) ps mkW (mkW ps.length) (p1F ps) rfl ?_ ?_]
  ·cases fsI (p1F ps) 0 ps with
   | some r=>rfl
   | none =>
    simp only[zau]
    rw[zdt (s0:=((0:Int),(0:Int),([]:List UInt8),([]:List UInt8),(0:Int))) ps mkW (mkW ps.length) (s2P ps) rfl ?_ ?_]
    ·cases fsI (s2P ps) 0 ps<;>rfl
    ·intro i hi
     have h3:=zap hi (up hp.1)
     have hq:=hp.2 _ (ygh hi)
     simp only[zaS hi,zaf]
     rw[zdt (s0:=((0:Int),(0:Int),([]:List UInt8),([]:List UInt8),(0:Int))) ps[i].types mkW (mkW ps[i].types.length) (fun _ t=>(s2T ps i t).map (fun r=>Sum.inr (Sum.inr r))) rfl ?_ ?_]
     ·rw[zqq]
      unfold s2P
      cases fsI (fun _ t=>s2T ps i t) 0 ps[i].types with
      | some r=>rfl
      | none =>
       simp only[Option.map_none,zau,h3,zag]
       rfl
     ·intro j hj
      have h4:=zap hj (up hq.2.1)
      have ht:=hq.2.2 _ (ygh hj)
      simp only[zaE,zaj hi,zaS hj,zaj hj,zaf,zag,zac,h3,h4,zmB hp]
      rw[zzS,zac]
      unfold s2T
      cases zxe ps ps[i].types[j]with
      | true=>rfl
      | false =>
       simp only[zae,cond_false]
       rw[zdt (s0:=((0:Int),(0:Int),([]:List UInt8),([]:List UInt8),(0:Int))) ps[i].types[j].fields mkW (mkW ps[i].types[j].fields.length) (fun _ f=>(s2F ps i ps[i].types[j].name f).map (fun r=>Sum.inr (Sum.inr (Sum.inr (Sum.inr r))))) rfl ?_ ?_]
       ·rw[zqq]
        cases fsI (fun _ f=>s2F ps i ps[i].types[j].name f) 0 ps[i].types[j].fields<;>rfl
       ·intro k hk
        have h5:=zap hk (up ht.2.2.1)
        simp only[zaE,zaS hk,zaj hk,zaf,zag,zac,h5,zCk hp (ht.2.2.2 _ (ygh hk))]
        unfold s2F
        cases(zo9 ps ps[i].types[j].name ps[i].types[j].fields[k] !=0)<;>rfl
       ·simp only[zaq,zae]
     ·simp only[zaE,zaj hi,zaq,zae,zag,zac]
    ·simp only[zaq,zae]
  ·intro i hi
   have h3:=zap hi (up hp.1)
   have hq:=hp.2 _ (ygh hi)
   simp only[zaS hi,zaE,zaj hi,zaf,zag,zac,h3,zhJ hq]
   unfold p1F
   rw[show((pcM ps[i]).code !=0)= !okP ps[i]from rfl]
   cases okP ps[i]with
   | false=>rfl
   | true =>
    simp only[Bool.not_true,zae,cond_false]
    have hl:(ps.take i).length=i:=by rw[List.length_take];omega
    rw[zdt (s0:=((0:Int),(0:Int),([]:List UInt8),([]:List UInt8),(0:Int))) (ps.take i) mkW (mkW i) (fun _ q=>bif !(q.name==ps[i].name)then none else some (Sum.inr (Sum.inr ⟨(i:Int)+1,[],[],2⟩))) rfl ?_ ?_]
    ·rw[zdx,zfv,zpV]
     cases(ps.take i).all fun q=>!(q.name==ps[i].name)<;>rfl
    ·intro j hj
     have hj':j<i:=by omega
     have hjp:j<ps.length:=by omega
     have h4:=zap hjp (up hp.1)
     simp only[zaS hj',zaE,zaj hjp,zaf,zag,zac,h4,List.getElem_take]
     cases(ps[j].name==ps[i].name)<;>rfl
    ·rw[hl]
     simp only[zaq,zae]
  ·simp only[zaq,zae]
def i2T(ps:List Part)(i:Nat)(t:Typ):Option CFault:=bif zxe ps t then some ⟨(i:Int)+1,t.name,[],4⟩else bif zBO ps t !=[]then some ⟨(i:Int)+1,t.name,zBO ps t,3⟩else none
def i2P(ps:List Part)(i:Nat)(p:Part):Option CFault:=fsI (fun _ t=>i2T ps i t) 0 p.types
def i3F(ps:List Part)(i:Nat)(n:List UInt8)(f:Field):Option CFault:=bif decide (zl3 ps n f.name>0)then some ⟨(i:Int)+1,n,f.name,zl3 ps n f.name⟩else none
def i3T(ps:List Part)(i:Nat)(t:Typ):Option CFault:=fsI (fun _ f=>i3F ps i t.name f) 0 t.fields
def i3P(ps:List Part)(i:Nat)(p:Part):Option CFault:=fsI (fun _ t=>i3T ps i t) 0 p.types
def v6I(ps:List Part):CFault:=bif !(decide (0<ps.length)&&decide (ps.length<=4))then⟨0,[],[],8⟩else
 match fsI (p1F ps) 0 ps with
 | some r=>r
 | none=>match fsI (i2P ps) 0 ps with
  | some r=>r
  | none=>match fsI (i3P ps) 0 ps with
   | some r=>r
   | none=>⟨0,[],[],0⟩
theorem zIA(n:Nat):decide ((n:Int)<=4)=decide (n<=4):=by simp;omega
theorem ztc{ps:List Part}(hp:KL KK ps):zdK ps=some (v6I ps):=by
 rw[zid];unfold zdG
 unfold v6I
 rw[zno,zac,zDu,zIA]
 cases(decide (0<ps.length)&&decide (ps.length<=4))with
 | false=>rfl
 | true =>
  simp only[Bool.not_true,zae,cond_false]
  rw[zdt (s0:=((0:Int),(0:Int),([]:List UInt8),([]:List UInt8),(0:Int))) ps mkW (mkW ps.length) (p1F ps) rfl ?_ ?_]
  ·cases fsI (p1F ps) 0 ps with
   | some r=>rfl
   | none =>
    simp only[zau]
    rw[zdt (s0:=((0:Int),(0:Int),([]:List UInt8),([]:List UInt8),(0:Int))) ps mkW (mkW ps.length) (i2P ps) rfl ?_ ?_]
    ·cases fsI (i2P ps) 0 ps with
     | some r=>rfl
     | none =>
      simp only[zau]
      rw[zdt (s0:=((0:Int),(0:Int),([]:List UInt8),([]:List UInt8),(0:Int))) ps mkW (mkW ps.length) (i3P ps) rfl ?_ ?_]
      ·cases fsI (i3P ps) 0 ps<;>rfl
      ·intro i hi
       have h3:=zap hi (up hp.1)
       have hq:=hp.2 _ (ygh hi)
       simp only[zaS hi,zaE,zaj hi,zaf,zag,zac]
       rw[zdt (s0:=((0:Int),(0:Int),([]:List UInt8),([]:List UInt8),(0:Int))) ps[i].types mkW (mkW ps[i].types.length) (fun _ t=>(i3T ps i t).map (fun r=>Sum.inr (Sum.inr r))) rfl ?_ ?_]
       ·rw[zqq]
        unfold i3P
        cases fsI (fun _ t=>i3T ps i t) 0 ps[i].types with
        | some r=>rfl
        | none =>
         simp only[Option.map_none,zau,h3,zag]
         rfl
       ·intro j hj
        have h4:=zap hj (up hq.2.1)
        have ht:=hq.2.2 _ (ygh hj)
        simp only[zaE,zaS hj,zaj hj,zaf,zag,zac]
        rw[zdt (s0:=((0:Int),(0:Int),([]:List UInt8),([]:List UInt8),(0:Int))) ps[i].types[j].fields mkW (mkW ps[i].types[j].fields.length) (fun _ f=>(i3F ps i ps[i].types[j].name f).map (fun r=>Sum.inr (Sum.inr (Sum.inr (Sum.inr r))))) rfl ?_ ?_]
        ·rw[zqq,h4]
         unfold i3T
         cases fsI (fun _ f=>i3F ps i ps[i].types[j].name f) 0 ps[i].types[j].fields<;>rfl
        ·intro k hk
         have h5:=zap hk (up ht.2.2.1)
         simp only[zaE,zaS hk,zaj hk,zaf,zag,zac,h3,h5,zCi hp]
         unfold i3F
         cases decide (zl3 ps ps[i].types[j].name ps[i].types[j].fields[k].name>0)<;>rfl
        ·simp only[zaq,zae]
       ·simp only[zaq,zae]
      ·simp only[zaq,zae]
    ·intro i hi
     have h3:=zap hi (up hp.1)
     have hq:=hp.2 _ (ygh hi)
     simp only[zaS hi,zaE,zaj hi,zaf,zag,zac]
     rw[zdt (s0:=((0:Int),(0:Int),([]:List UInt8),([]:List UInt8),(0:Int))) ps[i].types mkW (mkW ps[i].types.length) (fun _ t=>(i2T ps i t).map (fun r=>Sum.inr (Sum.inr r))) rfl ?_ ?_]
     ·rw[zqq]
      unfold i2P
      cases fsI (fun _ t=>i2T ps i t) 0 ps[i].types with
      | some r=>rfl
      | none =>
       simp only[Option.map_none,zau,h3,zag]
       rfl
     ·intro j hj
      have h4:=zap hj (up hq.2.1)
      have ht:=hq.2.2 _ (ygh hj)
      simp only[zaE,zaS hj,zaj hj,zaf,zag,zac,h3,h4,zmm hp,zBP hp ht]
      rw[zzS,zac]
      unfold i2T
      cases zxe ps ps[i].types[j]with
      | true=>rfl
      | false =>
       simp only[zae,cond_false]
       cases(zBO ps ps[i].types[j] !=[])<;>rfl
     ·simp only[zaq,zae]
    ·simp only[zaq,zae]
  ·intro i hi
   have h3:=zap hi (up hp.1)
   have hq:=hp.2 _ (ygh hi)
   have h4:decide ((i:Int)<=(ps.length:Int))=true:=by simp;omega
   have h5:(List.take (Int.toNat (i:Int)-Int.toNat 0) (List.drop (Int.toNat 0) ps))=ps.take i:=by simp
   have k:zce (ps.take i,ps[i])=some ((ps.take i).any (fun q=>q.name==ps[i].name)):=by
    rw[zgd];unfold zb7;dsimp only
    have h2:zcg (ps.take i,ps[i])=some (ixM (fun q:Part=>q.name==ps[i].name) (ps.take i)):=by
     rw[zgf];unfold zb9;dsimp only
     refine ixf (g:=fun q=>zcB (q,ps[i])) _ (up (Nat.le_trans (by rw[List.length_take];exact Nat.min_le_right _ _) hp.1)) (fun q _=>?_)
     rw[zgW];unfold zct;dsimp only
    rw[h2,zac,zjz]
   simp only[zaS hi,zaE,zaj hi,zaf,zag,zac,h3,h4,h5,k,znz hq,decide_true,Bool.and_self,Int.le_refl]
   unfold p1F
   cases okP ps[i]with
   | false=>rfl
   | true =>
    simp only[Bool.not_true,zae,cond_false]
    cases(ps.take i).any fun q=>q.name==ps[i].name<;>rfl
  ·simp only[zaq,zae]
end Go.Fw
namespace Go.Fw
open Go
set_option linter.unusedSimpArgs false
set_option linter.unusedVariables false
structure OkT (p:Part)(t:Typ):Prop where
 line:lineM t=true
 ty:tyM p t.name=some t
 fd:∀f∈t.fields,fdM t f.name=some f
 nm:∀f∈t.fields,nameM f.name=true
 nf:∀f∈t.fields,needy f=true->f.far=false
 known:∀f∈t.fields,knownM p f=true
 noq:∀f∈t.fields,isQ f=false
structure OkP (p:Part):Prop where
 types:p.types.length<=5
 name:nameM p.name=true
 root:noRoot p=false
 type:∀t∈p.types,OkT p t
theorem zxL{α:Type}{q:α->Bool}{xs:List α}{i:Nat}(hi:i<xs.length)(h:(ixM q xs==(i:Int))=true):xs.find? q=some xs[i]:=by
 rcases zbO q xs with⟨h1,h2,_⟩|⟨k,hk,h1,h2,_,_⟩
 ·rw[h1]at h
  simp at h
 ·rw[h1]at h
  have:k=i:=by
   have h':(k:Int)=(i:Int):=by simpa using h
   omega
  subst this
  exact h2
theorem OkP.of{p:Part}(h:okP p=true):OkP p:=by
 unfold okP pcM at h
 cases h1:decide (5<p.types.length)with
 | true=>rw[h1]at h;cases h
 | false =>
  rw[h1]at h
  cases h2:nameM p.name with
  | false=>rw[h2]at h;cases h
  | true =>
   rw[h2]at h
   cases h3:noRoot p with
   | true=>rw[h3]at h;cases h
   | false =>
    rw[h3]at h
    simp only[Bool.not_true,cond_false]at h
    cases h4:fsI (pcF p) 0 p.types with
    | some r =>
     rw[h4]at h
     exfalso
     obtain⟨j,hj,hr⟩:=zkt h4
     unfold pcF at hr
     cases hz:(zdO p (0+j) p.types[j]==0)with
     | false =>
      rw[hz]at hr
      cases hr
      rw[hz]at h
      cases h
     | true =>
      rw[hz]at hr
      simp only[Bool.not_true,cond_false]at hr
      cases hq:p.types[j].fields.any isQ with
      | false=>rw[hq]at hr;cases hr
      | true=>rw[hq]at hr;cases hr;cases h
    | none =>
     refine⟨by simpa using h1,h2,h3,fun t ht=>?_⟩
     obtain⟨j,hj,rfl⟩:=List.getElem_of_mem ht
     have hn:=zhB h4 j hj
     rw[Nat.zero_add]at hn
     unfold pcF at hn
     cases hz:(zdO p j p.types[j]==0)with
     | false=>rw[hz]at hn;cases hn
     | true =>
      rw[hz]at hn
      simp only[Bool.not_true,cond_false]at hn
      have hq:p.types[j].fields.any isQ=false:=by
       cases hq:p.types[j].fields.any isQ with
       | false=>rfl
       | true=>rw[hq]at hn;cases hn
      have hf:zdO p j p.types[j]=0:=by simpa using hz
      unfold zdO at hf
      cases e1:lineM p.types[j]with
      | false=>rw[e1]at hf;cases hf
      | true =>
       rw[e1]at hf
       cases e2:(ixM (fun u:Typ=>u.name==p.types[j].name) p.types==(j:Int))with
       | false=>rw[e2]at hf;cases hf
       | true =>
        rw[e2]at hf
        cases e3:zzs p.types[j]with
        | false=>rw[e3]at hf;cases hf
        | true =>
         rw[e3]at hf
         cases e4:p.types[j].fields.all (knownM p)with
         | false=>rw[e4]at hf;cases hf
         | true =>
          rw[e4]at hf
          cases e5:zEM p.types[j]with
          | false=>rw[e5]at hf;cases hf
          | true =>
           rw[e5]at hf
           cases e6:p.types[j].fields.all (zlW p.types[j])with
           | false=>rw[e6]at hf;cases hf
           | true =>
            refine⟨e1,zxL hj e2,fun f hf=>?_,fun f hf=>?_,fun f hf hn=>?_,fun f hf=>List.all_eq_true.1 e4 f hf,fun f hf=>?_⟩
            ·obtain⟨k,hk,rfl⟩:=List.getElem_of_mem hf
             have:=(zsn _ _ _).1 e3 k hk
             rw[Nat.zero_add]at this
             exact zxL hk this
            ·unfold lineM at e1
             simp only[yhb,List.all_eq_true]at e1
             have:=e1.2.2.2.2 f hf
             unfold zqD at this
             simp only[yhb]at this
             exact this.1
            ·have:=List.all_eq_true.1 e6 f hf
             unfold zlW zy0 at this
             unfold needy at hn
             rw[hn]at this
             simp only[yhb,Bool.or_eq_true,Bool.not_true,yhj,false_or,yho]at this
             exact this.1.1.2.2.1
            ·have:=List.any_eq_false.1 hq f hf
             simpa using this
theorem zE4{s:List UInt8}(h:nameM s=true):s≠[]:=by
 rintro rfl
 cases h
def zDp(ps:List Part):Prop:=0<ps.length/\ps.length<=4/\fsI (p1F ps) 0 ps=none
def S2(ps:List Part):Prop:=∀p∈ps,∀t∈p.types,zxe ps t=false/\∀f∈t.fields,zo9 ps t.name f=0
def I2(ps:List Part):Prop:=∀p∈ps,∀t∈p.types,zxe ps t=false/\zBO ps t=[]/\∀f∈t.fields,zl3 ps t.name f.name=0
theorem zDp.ok{ps:List Part}(h:zDp ps):∀p∈ps,OkP p:=by
 intro p hp
 obtain⟨j,hj,rfl⟩:=List.getElem_of_mem hp
 have:=zhB h.2.2 j hj
 unfold p1F at this
 cases ho:okP ps[j]with
 | true=>exact .of ho
 | false=>rw[ho]at this;cases this
theorem zx6{ps:List Part}{i:Nat}{p:Part}{r:CFault}(h:p1F ps i p=some r):0<r.code:=by
 unfold p1F at h
 cases ho:okP p with
 | false=>rw[ho]at h;cases h;simp
 | true =>
  rw[ho]at h
  simp only[Bool.not_true,cond_false]at h
  cases hz:(ps.take i).any fun q=>q.name==p.name with
  | true=>rw[hz]at h;cases h;simp
  | false=>rw[hz]at h;cases h
theorem zFj{ps:List Part}:fsI (s2P ps) 0 ps=none↔S2 ps:=by
 have h3:∀i n f,s2F ps i n f=none↔zo9 ps n f=0:=by
  intro i n f
  unfold s2F
  cases hz:(zo9 ps n f !=0)with
  | true=>simp only[cond_true,reduceCtorEq,false_iff];simpa using hz
  | false=>simp only[cond_false,true_iff];simpa using hz
 have h2:∀i t,s2T ps i t=none↔zxe ps t=false/\∀f∈t.fields,zo9 ps t.name f=0:=by
  intro i t
  unfold s2T
  cases zxe ps t with
  | true=>simp
  | false =>
   simp only[cond_false,yhn]
   rw[zku]
   constructor
   ·intro h f hf
    obtain⟨k,hk,rfl⟩:=List.getElem_of_mem hf
    exact(h3 _ _ _).1 (h k hk)
   ·intro h k hk
    exact(h3 _ _ _).2 (h _ (ygh hk))
 rw[zku]
 constructor
 ·intro h p hp t ht
  obtain⟨j,hj,rfl⟩:=List.getElem_of_mem hp
  obtain⟨k,hk,rfl⟩:=List.getElem_of_mem ht
  have:=h j hj
  unfold s2P at this
  exact(h2 _ _).1 (zhB this k hk)
 ·intro h j hj
  unfold s2P
  rw[zku]
  intro k hk
  exact(h2 _ _).2 (h _ (ygh hj) _ (ygh hk))
theorem zFi{ps:List Part}{i:Nat}{p:Part}{r:CFault}(h:s2P ps i p=some r):r.code≠0:=by
 unfold s2P at h
 obtain⟨j,hj,h⟩:=zkt h
 unfold s2T at h
 cases hb:zxe ps p.types[j]with
 | true=>rw[hb]at h;cases h;simp
 | false =>
  rw[hb]at h
  simp only[cond_false]at h
  obtain⟨k,hk,h⟩:=zkt h
  unfold s2F at h
  cases hz:(zo9 ps p.types[j].name p.types[j].fields[k] !=0)with
  | true=>rw[hz]at h;cases h;simpa using hz
  | false=>rw[hz]at h;cases h
theorem ztz{ps:List Part}:(v6S ps).code=0↔zDp ps/\S2 ps:=by
 unfold v6S zDp
 rw[<-zFj]
 by_cases h0:0<ps.length/\ps.length<=4
 ·have:(!(decide (0<ps.length)&&decide (ps.length<=4)))=false:=by simp[h0]
  rw[this]
  simp only[cond_false]
  cases h1:fsI (p1F ps) 0 ps with
  | some r =>
   obtain⟨j,hj,h⟩:=zkt h1
   have:=zx6 h
   simp only[reduceCtorEq,and_false,false_and,iff_false]
   omega
  | none =>
   cases h2:fsI (s2P ps) 0 ps with
   | some r =>
    obtain⟨j,hj,h⟩:=zkt h2
    have:=zFi h
    simp only[reduceCtorEq,and_false,iff_false]
    exact this
   | none=>simp[h0]
 ·have:(!(decide (0<ps.length)&&decide (ps.length<=4)))=true:=by
   simp only[yho,Bool.and_eq_false_iff,yhd]
   omega
  rw[this]
  simp only[cond_true]
  constructor
  ·intro h;cases h
  ·intro h;exact absurd ⟨h.1.1,h.1.2.1⟩ h0
theorem zCj(ps:List Part)(n f:List UInt8):0<=zl3 ps n f:=by
 unfold zl3
 cases decide (0<(zef n f 0 ps).length)<;>cases(decide (1<(zef n f 0 ps).length)&&(f !=zqz ps n&&decide ((zaw ps n f).countP (·.shared)<(zef n f 0 ps).length)))<;>cases((decide (1<(zef n f 0 ps).length)&&(zaw ps n f).any needy) ||(zdr ps n f).any (fun x=>(zaw ps n x).any needy))<;>decide
theorem zEx{ps:List Part}:(fsI (i2P ps) 0 ps=none/\fsI (i3P ps) 0 ps=none)↔I2 ps:=by
 have h3:∀i n f,i3F ps i n f=none↔zl3 ps n f.name=0:=by
  intro i n f
  have:=zCj ps n f.name
  unfold i3F
  cases hz:decide (zl3 ps n f.name>0)with
  | true =>
   have:zl3 ps n f.name>0:=by simpa using hz
   simp only[cond_true,reduceCtorEq,false_iff];omega
  | false =>
   have:¬zl3 ps n f.name>0:=by simpa using hz
   simp only[cond_false,true_iff];omega
 have h2:∀i t,i2T ps i t=none↔zxe ps t=false/\zBO ps t=[]:=by
  intro i t
  unfold i2T
  cases zxe ps t with
  | true=>simp
  | false =>
   simp only[cond_false,yhn]
   cases hz:(zBO ps t !=[])with
   | true=>simp only[cond_true,reduceCtorEq,false_iff];simpa using hz
   | false=>simp only[cond_false,true_iff];simpa using hz
 rw[zku,zku]
 constructor
 ·intro⟨h,g⟩ p hp t ht
  obtain⟨j,hj,rfl⟩:=List.getElem_of_mem hp
  obtain⟨k,hk,rfl⟩:=List.getElem_of_mem ht
  have h1:=h j hj
  unfold i2P at h1
  have g1:=g j hj
  unfold i3P at g1
  have g2:=zhB g1 k hk
  unfold i3T at g2
  have h4:=(h2 _ _).1 (zhB h1 k hk)
  refine⟨h4.1,h4.2,fun f hf=>?_⟩
  obtain⟨l,hl,rfl⟩:=List.getElem_of_mem hf
  exact(h3 _ _ _).1 (zhB g2 l hl)
 ·intro h
  refine⟨fun j hj=>?_,fun j hj=>?_⟩
  ·unfold i2P
   rw[zku]
   intro k hk
   have:=h _ (ygh hj) _ (ygh hk)
   exact(h2 _ _).2 ⟨this.1,this.2.1⟩
  ·unfold i3P
   rw[zku]
   intro k hk
   have:=h _ (ygh hj) _ (ygh hk)
   unfold i3T
   rw[zku]
   intro l hl
   exact(h3 _ _ _).2 (this.2.2 _ (ygh hl))
theorem zEw{ps:List Part}{i:Nat}{p:Part}{r:CFault}(h:i2P ps i p=some r):0<r.code:=by
 unfold i2P at h
 obtain⟨j,hj,h⟩:=zkt h
 unfold i2T at h
 cases hb:zxe ps p.types[j]with
 | true=>rw[hb]at h;cases h;simp
 | false =>
  rw[hb]at h
  simp only[cond_false]at h
  cases hz:(zBO ps p.types[j] !=[])with
  | true=>rw[hz]at h;cases h;simp
  | false=>rw[hz]at h;cases h
theorem zEy{ps:List Part}{i:Nat}{p:Part}{r:CFault}(h:i3P ps i p=some r):0<r.code:=by
 unfold i3P at h
 obtain⟨j,hj,h⟩:=zkt h
 unfold i3T at h
 obtain⟨k,hk,h⟩:=zkt h
 unfold i3F at h
 cases hz:decide (zl3 ps p.types[j].name p.types[j].fields[k].name>0)with
 | true=>rw[hz]at h;cases h;simpa using hz
 | false=>rw[hz]at h;cases h
theorem zpG{ps:List Part}:((v6I ps).code=0↔zDp ps/\I2 ps)/\0<=(v6I ps).code:=by
 unfold v6I zDp
 rw[<-zEx]
 by_cases h0:0<ps.length/\ps.length<=4
 ·have:(!(decide (0<ps.length)&&decide (ps.length<=4)))=false:=by simp[h0]
  rw[this]
  simp only[cond_false]
  cases h1:fsI (p1F ps) 0 ps with
  | some r =>
   obtain⟨j,hj,h⟩:=zkt h1
   have:=zx6 h
   simp only[reduceCtorEq,and_false,false_and,iff_false]
   omega
  | none =>
   cases h2:fsI (i2P ps) 0 ps with
   | some r =>
    obtain⟨j,hj,h⟩:=zkt h2
    have:=zEw h
    simp only[reduceCtorEq,and_false,false_and,iff_false]
    omega
   | none =>
    cases h3:fsI (i3P ps) 0 ps with
    | some r =>
     obtain⟨j,hj,h⟩:=zkt h3
     have:=zEy h
     simp only[reduceCtorEq,and_false,iff_false]
     omega
    | none=>simp[h0]
 ·have:(!(decide (0<ps.length)&&decide (ps.length<=4)))=true:=by
   simp only[yho,Bool.and_eq_false_iff,yhd]
   omega
  rw[this]
  simp only[cond_true]
  refine⟨⟨fun h=>?_,fun h=>absurd ⟨h.1.1,h.1.2.1⟩ h0⟩,by decide⟩
  cases h
theorem zBh(n f:List UInt8)(ps:List Part)(k:Nat):(zef n f k ps).length=ps.countP (zjI n f):=by
 induction ps generalizing k with
 | nil=>rfl
 | cons p ps ih =>
  simp only[zef,yhr,List.countP_cons,ih]
  cases zjI n f p<;>simp[Nat.add_comm]
theorem zwj{ps:List Part}(hok:∀p∈ps,OkP p)(n f:List UInt8):(zaw ps n f).countP needy<=ps.countP (zjI n f):=by
 unfold zaw
 induction ps with
 | nil=>simp
 | cons p ps ih =>
  have ih':=ih fun q hq=>hok q (by simp[hq])
  rw[List.filterMap_cons,List.countP_cons]
  cases hg:zhq p n f with
  | none=>simp only[hg];omega
  | some g =>
   simp only[hg,List.countP_cons]
   obtain⟨t,ht,_,_,hgt,_⟩:=zpB hg
   cases hn:needy g with
   | false=>simp only[yhj,if_false];omega
   | true =>
    have:=((hok p (by simp)).type t ht).nf g hgt hn
    have hk:zjI n f p=true:=by unfold zjI;rw[hg];simp[this]
    simp only[hk,if_true];omega
theorem zAe{α:Type}{q:α->Bool}{l:List α}(h:l.countP q<=1){a b:α}(ha:a∈l)(hb:b∈l)(qa:q a=true)(qb:q b=true):a=b:=by
 rw[List.countP_eq_length_filter]at h
 have h1:a∈l.filter q:=List.mem_filter.2 ⟨ha,qa⟩
 have h2:b∈l.filter q:=List.mem_filter.2 ⟨hb,qb⟩
 match hl:l.filter q with
 | []=>rw[hl]at h1;cases h1
 | [x] =>
  rw[hl]at h1 h2
  rw[List.mem_singleton]at h1 h2
  rw[h1,h2]
 | x:: y:: r=>rw[hl]at h;simp at h
theorem zpx{ps:List Part}{n f:List UInt8}{g:Field}(h:g∈zaw ps n f):∃p∈ps,∃t∈p.types,t.name=n/\g∈t.fields/\g.name=f/\zhq p n f=some g:=by
 unfold zaw at h
 obtain⟨p,hp,hg⟩:=List.mem_filterMap.1 h
 obtain⟨t,ht,hn,_,hgt,hgf,_⟩:=zpB hg
 exact⟨p,hp,t,ht,hn,hgt,hgf,hg⟩
theorem OkP.get{p:Part}(h:OkP p){t:Typ}(ht:t∈p.types){f:Field}(hf:f∈t.fields):zhq p t.name f.name=some f:=by
 unfold zhq
 rw[(h.type t ht).ty,Option.bind_some]
 exact(h.type t ht).fd f hf
theorem zsZ{ps:List Part}(hok:∀p∈ps,OkP p){p:Part}(hp:p∈ps){t:Typ}(ht:t∈p.types){f:Field}(hf:f∈t.fields):f∈zaw ps t.name f.name:=
 List.mem_filterMap.2 ⟨p,hp,(hok p hp).get ht hf⟩
theorem zi8(ps:List Part)(n f:List UInt8):(zdr ps n f=[]/\(zaw ps n f).any needy=false)\/∃g∈zaw ps n f,needy g=true/\zdr ps n f=g.needs:=by
 unfold zdr
 cases h:(zaw ps n f).findSome? fun g=>bif decide (0<g.needs.length)then some g.needs else none with
 | none =>
  refine .inl ⟨rfl,?_⟩
  rw[List.any_eq_false]
  intro g hg
  have:=List.findSome?_eq_none_iff.1 h g hg
  unfold needy
  cases hz:decide (0<g.needs.length)with
  | true=>rw[hz]at this;cases this
  | false=>simp
 | some l =>
  obtain⟨g,hg,he⟩:=List.exists_of_findSome?_eq_some h
  refine .inr ⟨g,hg,?_⟩
  unfold needy
  cases hz:decide (0<g.needs.length)with
  | false=>rw[hz]at he;cases he
  | true=>rw[hz]at he;cases he;exact⟨rfl,rfl⟩
theorem zxY{ps:List Part}(hok:∀p∈ps,OkP p){n f:List UInt8}(h1:(decide (1<(zef n f 0 ps).length)&&(zaw ps n f).any needy)=false){g:Field}(hg:g∈zaw ps n f)(hn:needy g=true):zdr ps n f=g.needs:=by
 have ha:(zaw ps n f).any needy=true:=List.any_eq_true.2 ⟨g,hg,hn⟩
 rw[ha,Bool.and_true,yhd,zBh]at h1
 have h2:=zwj hok n f
 rcases zi8 ps n f with⟨_,h⟩|⟨g',hg',hn',h⟩
 ·rw[ha]at h;cases h
 ·rw[h,zAe (by omega) hg hg' hn hn']
theorem zyk{ps:List Part}{t:Typ}(h:∀f∈t.fields,nameM f.name=true):zBO ps t=[]↔∀f∈t.fields,zzt ps t.name f=false:=by
 unfold zBO
 cases hs:t.fields.findSome? fun f=>bif zzt ps t.name f then some f.name else none with
 | none =>
  simp only[Option.getD_none,true_iff]
  intro f hf
  have:=List.findSome?_eq_none_iff.1 hs f hf
  cases hu:zzt ps t.name f with
  | false=>rfl
  | true=>rw[hu]at this;cases this
 | some l =>
  obtain⟨f,hf,he⟩:=List.exists_of_findSome?_eq_some hs
  cases hu:zzt ps t.name f with
  | false=>rw[hu]at he;cases he
  | true =>
   rw[hu]at he
   cases he
   simp only[Option.getD_some]
   exact⟨fun hc=>absurd hc (zE4 (h f hf)),fun hc=>by rw[hc f hf]at hu;cases hu⟩
theorem zst{ps:List Part}{n:List UInt8}{f:Field}:zo9 ps n f=0↔zzt ps n f=false/\decide (0<(zef n f.name 0 ps).length)=true/\(decide (1<(zef n f.name 0 ps).length)&&(f.name !=zqz ps n&&decide ((zaw ps n f.name).countP (·.shared)<(zef n f.name 0 ps).length)))=false/\(decide (1<(zef n f.name 0 ps).length)&&(zaw ps n f.name).any needy)=false/\f.needs.any (zuk ps n)=false:=by
 unfold zo9
 cases zzt ps n f<;>cases decide (0<(zef n f.name 0 ps).length)<;>cases(decide (1<(zef n f.name 0 ps).length)&&(f.name !=zqz ps n&&decide ((zaw ps n f.name).countP (·.shared)<(zef n f.name 0 ps).length)))<;>cases(decide (1<(zef n f.name 0 ps).length)&&(zaw ps n f.name).any needy)<;>cases f.needs.any (zuk ps n)<;>simp
theorem zvD{ps:List Part}{n f:List UInt8}:zl3 ps n f=0↔decide (0<(zef n f 0 ps).length)=true/\(decide (1<(zef n f 0 ps).length)&&(f !=zqz ps n&&decide ((zaw ps n f).countP (·.shared)<(zef n f 0 ps).length)))=false/\(decide (1<(zef n f 0 ps).length)&&(zaw ps n f).any needy)=false/\(zdr ps n f).any (zuk ps n)=false:=by
 have:(zdr ps n f).any (zuk ps n)=(zdr ps n f).any (fun x=>(zaw ps n x).any needy):=rfl
 rw[this]
 unfold zl3
 cases decide (0<(zef n f 0 ps).length)<;>cases(decide (1<(zef n f 0 ps).length)&&(f !=zqz ps n&&decide ((zaw ps n f).countP (·.shared)<(zef n f 0 ps).length)))<;>cases(decide (1<(zef n f 0 ps).length)&&(zaw ps n f).any needy)<;>cases(zdr ps n f).any (fun x=>(zaw ps n x).any needy)<;>simp
theorem zD3{ps:List Part}(hok:∀p∈ps,OkP p):S2 ps↔I2 ps:=by
 constructor
 ·intro h p hp t ht
  obtain⟨h1,h2⟩:=h p hp t ht
  have ho:=(hok p hp).type t ht
  refine⟨h1,(zyk ho.nm).2 fun f hf=>(zst.1 (h2 f hf)).1,fun f hf=>?_⟩
  obtain⟨_,g2,g3,g4,g5⟩:=zst.1 (h2 f hf)
  refine zvD.2 ⟨g2,g3,g4,?_⟩
  rcases zi8 ps t.name f.name with⟨e,_⟩|⟨g,hg,_,e⟩
  ·rw[e];rfl
  ·rw[e]
   obtain⟨p',hp',t',ht',hn',hgt',_,_⟩:=zpx hg
   have:=(zst.1 ((h p' hp' t' ht').2 g hgt')).2.2.2.2
   rw[hn']at this
   exact this
 ·intro h p hp t ht
  obtain⟨h1,h2,h3⟩:=h p hp t ht
  have ho:=(hok p hp).type t ht
  refine⟨h1,fun f hf=>?_⟩
  obtain⟨g2,g3,g4,g5⟩:=zvD.1 (h3 f hf)
  refine zst.2 ⟨(zyk ho.nm).1 h2 f hf,g2,g3,g4,?_⟩
  cases hn:needy f with
  | false =>
   have:f.needs=[]:=by
    unfold needy at hn
    cases hfn:f.needs with
    | nil=>rfl
    | cons a b=>rw[hfn]at hn;simp at hn
   rw[this];rfl
  | true =>
   rw[zxY hok g4 (zsZ hok hp ht hf) hn]at g5
   exact g5
theorem zvE(ps:List Part):(v6S ps).code=0↔(v6I ps).code=0:=by
 rw[ztz,zpG.1]
 exact⟨fun h=>⟨h.1,(zD3 h.1.ok).1 h.2⟩,fun h=>⟨h.1,(zD3 h.1.ok).2 h.2⟩⟩
end Go.Fw
namespace Go.Fw
open Go
set_option linter.unusedSimpArgs false
set_option linter.unusedVariables false
def zHv(f:Field)(h:Bool)(ns:List (List UInt8)):Field:=⟨f.name,f.of,f.list,f.must,false,h,false,ns⟩
def zIt(f g:Field):Field:=⟨g.name,g.of,g.list,g.must,g.far,g.hidden ||f.hidden,g.shared,bif needy f then f.needs else g.needs⟩
def zrg(fs:List Field)(f:Field):List Field:=match fs.findIdx? (fun g=>g.name==f.name)with
 | none=>fs++[zHv f f.hidden f.needs]
 | some k=>match fs[k]? with
  | some g=>fs.set k (zIt f g)
  | none=>fs
def zxH(ps:List Part)(n f:List UInt8):Bool:=(zaw ps n f).any (·.hidden)
def zru(ps:List Part)(n:List UInt8)(fs:List Field)(f:Field):List Field:=bif fs.any (fun g=>g.name==f.name)then fs else fs++[zHv f (zxH ps n f.name) (zdr ps n f.name)]
def crM(ps:List Part)(ts:List Typ)(t:Typ):Nat×List Typ:=match ts.findIdx? (fun u=>u.name==t.name)with
 | none=>(ts.length,ts++[⟨t.name,zqz ps t.name,[]⟩])
 | some k=>(k,ts)
def zAA(put:List Field->Field->List Field)(ts:List Typ)(a:Nat)(fs:List Field):List Typ:=match ts[a]? with
 | some u=>ts.set a ⟨u.name,u.key,fs.foldl put u.fields⟩
 | none=>ts
def znP(ps:List Part)(put:List UInt8->List Field->Field->List Field)(ts:List Typ)(t:Typ):List Typ:=zAA (put t.name) (crM ps ts t).2 (crM ps ts t).1 t.fields
def ztX(ps:List Part)(put:List UInt8->List Field->Field->List Field)(qs:List Part):List Typ:=qs.foldl (fun S p=>p.types.foldl (znP ps put) S) []
theorem zks{put:List Field->Field->List Field}{ts:List Typ}{a:Nat}{fs:List Field}(h:a<ts.length):zAA put ts a fs=ts.set a ⟨ts[a].name,ts[a].key,fs.foldl put ts[a].fields⟩:=by
 unfold zAA
 rw[ygb h]
theorem zxD{put:List Field->Field->List Field}{ts:List Typ}{a:Nat}:zAA put ts a []=ts:=by
 unfold zAA
 cases h:ts[a]? with
 | none=>rfl
 | some u =>
  obtain⟨ha,rfl⟩:=yga.1 h
  exact List.set_getElem_self ha
theorem zxp(ps:List Part)(ts:List Typ)(t:Typ):(crM ps ts t).1<(crM ps ts t).2.length:=by
 unfold crM
 cases h:ts.findIdx? (fun u=>u.name==t.name)with
 | none=>simp
 | some k=>exact(List.findIdx?_eq_some_iff_getElem.1 h).1
def Bd(b c:Nat)(ts:List Typ):Prop:=ts.length<=b/\∀t∈ts,t.name.length<=KK/\t.key.length<=KK/\t.fields.length<=c/\∀f∈t.fields,KF KK f
def zsm(put:List Field->Field->List Field):Prop:=∀fs f,KF KK f->(∀g∈fs,KF KK g)->(put fs f).length<=fs.length+1/\∀g∈put fs f,KF KK g
theorem zpz{put:List Field->Field->List Field}(h:zsm put):∀(xs fs:List Field),(∀f∈xs,KF KK f)->(∀g∈fs,KF KK g)->(xs.foldl put fs).length<=fs.length+xs.length/\∀g∈xs.foldl put fs,KF KK g
 | [],fs,_,h2=>⟨by simp,h2⟩
 | x:: xs,fs,h1,h2=>by
  obtain⟨a1,a2⟩:=h fs x (h1 x (by simp)) h2
  obtain⟨b1,b2⟩:=zpz h xs (put fs x) (fun f hf=>h1 f (by simp[hf])) a2
  exact⟨by simp only[List.foldl_cons,yhs];omega,b2⟩
theorem zEt{put:List Field->Field->List Field}(h:zsm put){ts:List Typ}{a b c n:Nat}{fs:List Field}(hb:Bd b c ts)(hf:∀f∈fs,KF KK f)(hn:fs.length<=n):Bd b (c+n) (zAA put ts a fs):=by
 unfold zAA
 cases hx:ts[a]? with
 | none=>exact⟨hb.1,fun t ht=>⟨(hb.2 t ht).1,(hb.2 t ht).2.1,Nat.le_trans (hb.2 t ht).2.2.1 (Nat.le_add_right _ _),(hb.2 t ht).2.2.2⟩⟩
 | some u =>
  have hu:=hb.2 u (ygd hx)
  refine⟨by simpa using hb.1,fun t ht=>?_⟩
  rcases List.mem_or_eq_of_mem_set ht with h1|rfl
  ·exact⟨(hb.2 t h1).1,(hb.2 t h1).2.1,Nat.le_trans (hb.2 t h1).2.2.1 (Nat.le_add_right _ _),(hb.2 t h1).2.2.2⟩
  ·obtain⟨a1,a2⟩:=zpz h fs u.fields hf hu.2.2.2
   exact⟨hu.1,hu.2.1,by have:=hu.2.2.1;show(fs.foldl put u.fields).length<=_;omega,a2⟩
theorem zCI{ps:List Part}(hp:KL KK ps)(n:List UInt8):(zqz ps n).length<=KK:=by
 unfold zqz
 cases h:ps.findSome? fun p=>match tyM p n with
  | some t=>bif t.key !=[]then some t.key else none
  | none=>none with
 | none=>simp
 | some l =>
  obtain⟨p,hpm,he⟩:=List.exists_of_findSome?_eq_some h
  cases ht:tyM p n with
  | none=>rw[ht]at he;cases he
  | some t =>
   rw[ht]at he
   cases hk:(t.key !=[])with
   | false=>simp only[hk]at he;cases he
   | true =>
    simp only[hk,cond_true]at he
    cases he
    exact((hp.2 p hpm).2.2 t (zjd ht).1).2.1
theorem zAf{ps:List Part}(hp:KL KK ps){ts:List Typ}{t:Typ}{b c:Nat}(hb:Bd b c ts)(ht:t.name.length<=KK):Bd (b+1) c (crM ps ts t).2:=by
 unfold crM
 cases h:ts.findIdx? (fun u=>u.name==t.name)with
 | some k=>exact⟨Nat.le_succ_of_le hb.1,hb.2⟩
 | none =>
  refine⟨by simpa using hb.1,fun u hu=>?_⟩
  rcases List.mem_append.1 hu with h1|h1
  ·exact hb.2 u h1
  ·rw[List.mem_singleton]at h1
   subst h1
   exact⟨ht,zCI hp _,by simp,by simp⟩
theorem zD4{ps:List Part}(hp:KL KK ps){put:List UInt8->List Field->Field->List Field}(h:∀n,zsm (put n)){ts:List Typ}{t:Typ}{b c:Nat}(hb:Bd b c ts)(ht:KT KK t)(h8:t.fields.length<=8):Bd (b+1) (c+8) (znP ps put ts t):=
 zEt (h _) (zAf hp hb ht.1) ht.2.2.2 h8
theorem zvs{ps:List Part}(hp:KL KK ps){put:List UInt8->List Field->Field->List Field}(h:∀n,zsm (put n)):∀(us ts:List Typ)(b c:Nat),Bd b c ts->(∀t∈us,KT KK t/\t.fields.length<=8)->Bd (b+us.length) (c+8*us.length) (us.foldl (znP ps put) ts)
 | [],ts,b,c,hb,_=>hb
 | u:: us,ts,b,c,hb,hu=>by
  have h1:=zD4 hp h hb (hu u (by simp)).1 (hu u (by simp)).2
  have h2:=zvs hp h us _ _ _ h1 fun t ht=>hu t (by simp[ht])
  have e1:b+1+us.length=b+(us.length+1):=by omega
  have e2:c+8+8*us.length=c+8*(us.length+1):=by omega
  rw[e1,e2]at h2
  exact h2
theorem zzR{ps:List Part}(hp:KL KK ps){put:List UInt8->List Field->Field->List Field}(h:∀n,zsm (put n)):∀(qs:List Part)(ts:List Typ)(b c:Nat),Bd b c ts->(∀p∈qs,p.types.length<=5/\∀t∈p.types,KT KK t/\t.fields.length<=8)->Bd (b+5*qs.length) (c+40*qs.length) (qs.foldl (fun S p=>p.types.foldl (znP ps put) S) ts)
 | [],ts,b,c,hb,_=>hb
 | q:: qs,ts,b,c,hb,hq=>by
  have h1:=zvs hp h q.types _ _ _ hb (hq q (by simp)).2
  have h5:=(hq q (by simp)).1
  have h1':Bd (b+5) (c+40) (q.types.foldl (znP ps put) ts):=⟨by have:=h1.1;omega,fun t ht=>⟨(h1.2 t ht).1,(h1.2 t ht).2.1,by have:=(h1.2 t ht).2.2.1;omega,(h1.2 t ht).2.2.2⟩⟩
  have h2:=zzR hp h qs _ _ _ h1' fun p hp=>hq p (by simp[hp])
  have e1:b+5+5*qs.length=b+5*(qs.length+1):=by omega
  have e2:c+40+40*qs.length=c+40*(qs.length+1):=by omega
  rw[e1,e2]at h2
  exact h2
theorem zwq:zsm zrg:=by
 intro fs f hf hfs
 unfold zrg
 cases h:fs.findIdx? (fun g=>g.name==f.name)with
 | none =>
  refine⟨by simp,fun g hg=>?_⟩
  rcases List.mem_append.1 hg with h1|h1
  ·exact hfs g h1
  ·rw[List.mem_singleton]at h1
   subst h1
   exact⟨hf.1,hf.2.1,hf.2.2⟩
 | some k =>
  cases hk:fs[k]? with
  | none=>simp only[hk];exact⟨by simp,hfs⟩
  | some u =>
   simp only[hk]
   refine⟨by simp,fun g hg=>?_⟩
   rcases List.mem_or_eq_of_mem_set hg with h1|rfl
   ·exact hfs g h1
   ·have hu:=hfs u (ygd hk)
    refine⟨hu.1,hu.2.1,?_⟩
    unfold zIt
    cases needy f
    ·exact hu.2.2
    ·exact hf.2.2
theorem zBa{ps:List Part}(hp:KL KK ps)(n f:List UInt8):KS KK (zdr ps n f):=by
 rcases zi8 ps n f with⟨e,_⟩|⟨g,hg,_,e⟩
 ·rw[e];exact⟨by simp,by simp⟩
 ·rw[e]
  obtain⟨p,hpm,t,ht,_,hgt,_⟩:=zpx hg
  exact(((hp.2 p hpm).2.2 t ht).2.2.2 g hgt).2.2
theorem zBk{ps:List Part}(hp:KL KK ps)(n:List UInt8):zsm (zru ps n):=by
 intro fs f hf hfs
 unfold zru
 cases fs.any (fun g=>g.name==f.name)with
 | true=>exact⟨by simp,hfs⟩
 | false =>
  refine⟨by simp,fun g hg=>?_⟩
  rcases List.mem_append.1 hg with h1|h1
  ·exact hfs g h1
  ·rw[List.mem_singleton]at h1
   subst h1
   exact⟨hf.1,hf.2.1,zBa hp _ _⟩
theorem zzc{n key:List UInt8}{fs:List Field}{f:Field}(ht:fs.length<=1000)(hf:KF KK f):zpS (⟨n,key,fs⟩,f)=some ⟨n,key,zrg fs f⟩:=by
 rw[zrL];unfold zpL;dsimp only
 have hk:KK=1048576:=rfl
 have hl:=hf.2.2.1
 rw[zfU (show fs.length<=_ by omega),zac]
 unfold ixM zrg
 cases h:fs.findIdx? (fun g=>g.name==f.name)with
 | none =>
  simp only[show decide ((-1:Int)<0)=true from rfl,zaf]
  (rw[zdN];rotate_left;(have:=hBM;simp only[yhr,yhs,yht,List.length_map,yhc,yhb];omega))
  (rw[zdN];rotate_left;(have:=hBM;simp only[yhr,yhs,yht,List.length_map,yhc,yhb];omega))
  (rw[zdN];rotate_left;(have:=hBM;simp only[yhr,yhs,yht,List.length_map,yhc,yhb];omega))
  rfl
 | some k =>
  have hk:=(List.findIdx?_eq_some_iff_getElem.1 h).1
  simp only[zlQ,zae,ygb hk]
  (rw[zdN];rotate_left;(have:=hBM;simp only[yhr,yhs,yht,List.length_map,yhc,yhb];omega))
  have g1:(decide (0<=(k:Int))&&decide ((k:Int)<(fs.length:Int)))=true:=by simp;omega
  have g2:decide (0+f.needs.length<=LIM)=true:=by(have:=hBM;simp only[yhr,yhs,yht,List.length_map,yhc,yhb];omega)
  have g3:f.needs.length<=1099511627776:=by omega
  simp only[g1,zag,Int.toNat_natCast,ygb hk,zac,znt]
  unfold zIt
  rw[show needy f=decide (0<f.needs.length)from rfl]
  have e0:fs.set k fs[k]=fs:=List.set_getElem_self hk
  cases hh:f.hidden with
  | false =>
   cases hn:decide (0<f.needs.length)with
   | false=>simp[zab,zaa,e0]
   | true=>simp[zab,zaa,gd,g1,g2,g3,hk,LIM]
  | true =>
   cases hn:decide (0<f.needs.length)with
   | false=>simp[zab,zaa]
   | true=>simp[zab,zaa,gd,hk,g3,LIM]
end Go.Fw
namespace Go.Fw
open Go
set_option linter.unusedSimpArgs false
set_option linter.unusedVariables false
def SmL(ps:List Part):Prop:=ps.length<=4/\∀p∈ps,p.types.length<=5/\∀t∈p.types,KT KK t/\t.fields.length<=8
theorem Bd.mono{b c b' c':Nat}{ts:List Typ}(h:Bd b c ts)(hb:b<=b')(hc:c<=c'):Bd b' c' ts:=⟨Nat.le_trans h.1 hb,fun t ht=>⟨(h.2 t ht).1,(h.2 t ht).2.1,Nat.le_trans (h.2 t ht).2.2.1 hc,(h.2 t ht).2.2.2⟩⟩
theorem zsq{ps:List Part}(hp:KL KK ps)(hs:SmL ps){put:List UInt8->List Field->Field->List Field}(h:∀n,zsm (put n))(i:Nat):Bd 20 160 (ztX ps put (ps.take i)):=by
 have hl:(ps.take i).length<=4:=Nat.le_trans (by rw[List.length_take];exact Nat.min_le_right _ _) hs.1
 exact(zzR hp h (ps.take i) [] 0 0 ⟨by simp,by simp⟩ fun p hp=>hs.2 p (List.mem_of_mem_take hp)).mono (by omega) (by omega)
theorem zDr{ps:List Part}(hp:KL KK ps)(hs:SmL ps){put:List UInt8->List Field->Field->List Field}(h:∀n,zsm (put n)){S:List Typ}(hS:Bd 20 160 S){p:Part}(hpm:p∈ps)(j:Nat):Bd 25 200 ((p.types.take j).foldl (znP ps put) S):=by
 have hl:(p.types.take j).length<=5:=Nat.le_trans (by rw[List.length_take];exact Nat.min_le_right _ _) (hs.2 p hpm).1
 exact(zvs hp h (p.types.take j) S 20 160 hS fun t ht=>(hs.2 p hpm).2 t (List.mem_of_mem_take ht)).mono (by omega) (by omega)
theorem zt8{ps:List Part}{put:List UInt8->List Field->Field->List Field}{qs:List Part}{i:Nat}(h:i<qs.length):ztX ps put (qs.take (i+1))=qs[i].types.foldl (znP ps put) (ztX ps put (qs.take i)):=by
 unfold ztX
 rw[List.take_succ_eq_append_getElem h,List.foldl_append]
 rfl
theorem zir{α U:Type}{f:U->α->U}{l:List α}{z:U}{i:Nat}(h:i<l.length):(l.take (i+1)).foldl f z=f ((l.take i).foldl f z) l[i]:=by
 rw[List.take_succ_eq_append_getElem h,List.foldl_append]
 rfl
theorem zGi{ps:List Part}{ts:List Typ}{t:Typ}(hl:ts.length<=100):(zab (decide (ixM (fun u:Typ=>u.name==t.name) ts<0))
   (gd (decide (List.length ts+List.length [(⟨t.name,zqz ps t.name,[]⟩:Typ)]<=LIM)) (some ((ts.length:Int),([]:List UInt8),([]:List Typ),([97]:List UInt8),ts++[⟨t.name,zqz ps t.name,[]⟩])))
   (some (ixM (fun u:Typ=>u.name==t.name) ts,[],[],[97],ts)))=some (((crM ps ts t).1:Int),[],[],[97],(crM ps ts t).2):=by
 (rw[zdN];rotate_left;(have:=hBM;simp only[yhr,yhs,yht,List.length_map,yhc,yhb];omega))
 unfold ixM crM
 cases h:ts.findIdx? (fun u=>u.name==t.name)with
 | none=>rfl
 | some k=>simp only[zlQ,zae]
theorem zza{ps:List Part}(hp:KL KK ps)(hs:SmL ps):znL ps=some ⟨[97],ztX ps (fun _=>zrg) ps⟩:=by
 rw[zrJ];unfold zpJ
 rw[zeV (s0:=((0:Int),([]:List UInt8),([]:List Typ),([97]:List UInt8),([]:List Typ))) ps.length (fun i=>((i:Int),[],[],[97],ztX ps (fun _=>zrg) (ps.take i))) ((ps.length:Int),[],[],[97],ztX ps (fun _=>zrg) ps) rfl ?_ ?_]
 ·intro i hi
  have h3:=zap hi (up hp.1)
  have hq:=hp.2 _ (ygh hi)
  have hO:=zsq hp hs (put:=fun _=>zrg) (fun _=>zwq) i
  rw[zt8 hi]
  generalize ztX ps (fun _=>zrg) (ps.take i)=S at *
  simp only[zaS hi,zaf]
  rw[zeV (s0:=((0:Int),([]:List UInt8),([]:List Typ),([97]:List UInt8),S)) ps[i].types.length (fun j=>((j:Int),[],[],[97],(ps[i].types.take j).foldl (znP ps fun _=>zrg) S)) ((ps[i].types.length:Int),[],[],[97],ps[i].types.foldl (znP ps fun _=>zrg) S) rfl ?_ ?_]
  ·simp only[h3,zag]
   rfl
  ·intro j hj
   have h4:=zap hj (up hq.2.1)
   have hM:=zDr hp hs (put:=fun _=>zrg) (fun _=>zwq) hO (ygh hi) j
   have ht:=(hs.2 _ (ygh hi)).2 _ (ygh hj)
   rw[zir hj]
   simp only[zaE,zaj hi,zaS hj,zaj hj,zaf,zag,zac,h4,zmB hp]
   generalize(ps[i].types.take j).foldl (znP ps fun _=>zrg) S=ts at *
   generalize ps[i].types[j]=t at *
   have e:zdQ (⟨[97],ts⟩,t.name)=some (ixM (fun u:Typ=>u.name==t.name) ts):=zd4 (p:=⟨[97],ts⟩) (by have:=hM.1;show ts.length<=_;omega)
   rw[e,zac,zGi (Nat.le_trans hM.1 (by decide)),zac]
   have ha:=zxp ps ts t
   have hb:=zAf hp hM ht.1.1
   unfold znP
   generalize(crM ps ts t).1=a at *
   generalize(crM ps ts t).2=ts1 at *
   rw[zeV (s0:=((0:Int),([]:List UInt8),([]:List Typ),([97]:List UInt8),ts1)) t.fields.length (fun k=>((k:Int),[],[],[97],zAA zrg ts1 a (t.fields.take k))) ((t.fields.length:Int),[],[],[97],zAA zrg ts1 a t.fields) (by simp[zxD]) ?_ ?_]
   ·rfl
   ·intro k hk
    have h5:=zap hk (up ht.1.2.2.1)
    have hkl:(t.fields.take k).length<=8:=Nat.le_trans (by rw[List.length_take];exact Nat.min_le_right _ _) ht.2
    have hkf:∀f∈t.fields.take k,KF KK f:=fun f hf=>ht.1.2.2.2 f (List.mem_of_mem_take hf)
    have hc:=zpz zwq (t.fields.take k) ts1[a].fields hkf (hb.2 _ (ygh ha)).2.2.2
    have hc2:=(hb.2 _ (ygh ha)).2.2.1
    rw[zks ha,zks ha,zir hk]
    generalize(t.fields.take k).foldl zrg ts1[a].fields=fs at *
    have g1:(decide (0<=(a:Int))&&decide ((a:Int)<((ts1.set a ⟨ts1[a].name,ts1[a].key,fs⟩).length:Int)))=true:=by simp;omega
    have g2:(ts1.set a ⟨ts1[a].name,ts1[a].key,fs⟩)[Int.toNat (a:Int)]? =some ⟨ts1[a].name,ts1[a].key,fs⟩:=by simp[ha]
    simp only[zaS hk,zaf,g1,zag,g2,zac,zaE,zaj hk,zzc (show fs.length<=1000 by omega) (ht.1.2.2.2 _ (ygh hk)),h5]
    simp[ha,gd]
   ·simp only[zaq,zae,List.take_length]
  ·simp only[zaE,zaj hi,zaq,zae,zag,zac,List.take_length]
 ·simp only[zaq,zae,List.take_length]
theorem zCz{l:List Field}(hl:l.length<=KK):zeE l=some (l.any (·.hidden)):=by
 rw[zjp];unfold zep
 have h2:zeH l=some (ixM (fun f:Field=>f.hidden) l):=by
  rw[zjs];unfold zes
  refine ixf (g:=zfM) _ (up hl) (fun f _=>?_)
  rw[zj6];unfold zfC
  rfl
 rw[h2,zac,zjz]
theorem zv1{ts:List Typ}{t:Typ}(hl:ts.length<=100):zeG (ts,t)=some (ixM (fun u:Typ=>u.name==t.name) ts):=by
 rw[zjr];unfold zer;dsimp only
 refine ixf (g:=fun u=>zfL (u,t)) _ (Nat.le_trans hl (by decide)) (fun u _=>?_)
 rw[zj5];unfold zfB;dsimp only
theorem zyy{n k x:List UInt8}{fs:List Field}(hl:fs.length<=1000):∃g,zcb ((n,k),x,fs)=some ((g,fs.any fun f=>f.name==x),fs):=by
 rw[zgb];unfold zb5;dsimp only
 have h:zbn (fs,x)=some (ixM (fun t=>t.name==x) fs):=by
  rw[zdT];unfold zbR;dsimp only
  exact ixf (g:=fun t:Field=>zbH (t,x)) (fun t=>t.name==x) (Nat.le_trans hl (by decide)) (fun t _=>zuu t x)
 rw[h,zac]
 rcases zbO (fun t:Field=>t.name==x) fs with⟨h1,h2,h3⟩|⟨i,hi,h1,h2,_,h3⟩
 ·rw[h1,h3];exact⟨_,rfl⟩
 ·have g1:(decide (0<=(i:Int))&&decide ((i:Int)<(fs.length:Int)))=true:=by simp;omega
  rw[h1,h3,zlQ,zae,g1,zag,zaj hi,zac]
  exact⟨_,rfl⟩
theorem zz6{l:List (List UInt8)}(h:KS KK l):zaV l=some l:=by
 rw[zch]
 unfold zaU
 have:decide (l.length*16<=140737488355328)=true:=by
  have:=h.1
  have hk:KK=1048576:=rfl
  simp;omega
 rw[this];rfl
theorem zyI{ps:List Part}(hp:KL KK ps)(hs:SmL ps):zgq ps=some ⟨[97],ztX ps (zru ps) ps⟩:=by
 rw[zmR];unfold zhV
 have hpk:=zBk hp
 rw[zeV (s0:=((0:Int),([]:List UInt8),([]:List Typ),([97]:List UInt8),([]:List Typ))) ps.length (fun i=>((i:Int),[],[],[97],ztX ps (zru ps) (ps.take i))) ((ps.length:Int),[],[],[97],ztX ps (zru ps) ps) rfl ?_ ?_]
 ·intro i hi
  have h3:=zap hi (up hp.1)
  have hq:=hp.2 _ (ygh hi)
  have hO:=zsq hp hs hpk i
  rw[zt8 hi]
  generalize ztX ps (zru ps) (ps.take i)=S at *
  simp only[zaS hi,zaf,zaE,zaj hi,zag,zac]
  rw[zeV (s0:=((0:Int),([]:List UInt8),([]:List Typ),([97]:List UInt8),S)) ps[i].types.length (fun j=>((j:Int),[],[],[97],(ps[i].types.take j).foldl (znP ps (zru ps)) S)) ((ps[i].types.length:Int),[],[],[97],ps[i].types.foldl (znP ps (zru ps)) S) rfl ?_ ?_]
  ·simp only[h3,zag]
   rfl
  ·intro j hj
   have h4:=zap hj (up hq.2.1)
   have hM:=zDr hp hs hpk hO (ygh hi) j
   have ht:=(hs.2 _ (ygh hi)).2 _ (ygh hj)
   rw[zir hj]
   simp only[zaE,zaS hj,zaj hj,zaf,zag,zac,h4,zmm hp]
   generalize(ps[i].types.take j).foldl (znP ps (zru ps)) S=ts at *
   generalize ps[i].types[j]=t at *
   rw[zv1 (Nat.le_trans hM.1 (by decide)),zac,zGi (Nat.le_trans hM.1 (by decide)),zac]
   have ha:=zxp ps ts t
   have hb:=zAf hp hM ht.1.1
   unfold znP
   generalize(crM ps ts t).1=a at *
   generalize(crM ps ts t).2=ts1 at *
   have g0:(decide (0<=(a:Int))&&decide ((a:Int)<(ts1.length:Int)))=true:=by simp;omega
   dsimp only
   rw[g0,zag,Int.toNat_natCast]
   rw[zeV (s0:=((0:Int),a,([]:List UInt8),([]:List Typ),([97]:List UInt8),ts1)) t.fields.length (fun k=>((k:Int),a,[],[],[97],zAA (zru ps t.name) ts1 a (t.fields.take k))) ((t.fields.length:Int),a,[],[],[97],zAA (zru ps t.name) ts1 a t.fields) (by simp[zxD]) ?_ ?_]
   ·rfl
   ·intro k hk
    have h5:=zap hk (up ht.1.2.2.1)
    have hkl:(t.fields.take k).length<=8:=Nat.le_trans (by rw[List.length_take];exact Nat.min_le_right _ _) ht.2
    have hkf:∀f∈t.fields.take k,KF KK f:=fun f hf=>ht.1.2.2.2 f (List.mem_of_mem_take hf)
    have hc:=zpz (hpk t.name) (t.fields.take k) ts1[a].fields hkf (hb.2 _ (ygh ha)).2.2.2
    have hc2:=(hb.2 _ (ygh ha)).2.2.1
    rw[zks ha,zks ha,zir hk]
    generalize(t.fields.take k).foldl (zru ps t.name) ts1[a].fields=fs at *
    have g2:(ts1.set a ⟨ts1[a].name,ts1[a].key,fs⟩)[a]? =some ⟨ts1[a].name,ts1[a].key,fs⟩:=by simp[ha]
    obtain⟨g,hg⟩:=zyy (n:=ts1[a].name) (k:=ts1[a].key) (x:=t.fields[k].name) (show fs.length<=1000 by omega)
    have hl:=ziq ps t.name t.fields[k].name
    have hh:=zCz (l:=zaw ps t.name t.fields[k].name) (Nat.le_trans hl hp.1)
    simp only[zaS hk,zaf,zag,g2,zac,zaE,zaj hk,hg,h5,decide_true,List.set_set,znm hp,hh,zom hp,zz6 (zBa hp _ _)]
    unfold zru
    cases fs.any (fun f=>f.name==t.fields[k].name)with
    | true=>simp[zab]
    | false =>
     simp only[zae,cond_false]
     (rw[zdN];rotate_left;(have:=hBM;simp only[yhr,yhs,yht,List.length_map,yhc,yhb];omega))
     simp[zHv,zxH]
   ·simp only[zaq,zae,List.take_length]
  ·simp only[zaq,zae,List.take_length]
 ·simp only[zaq,zae,List.take_length]
end Go.Fw
namespace Go.Fw
open Go
set_option linter.unusedSimpArgs false
set_option linter.unusedVariables false
abbrev SB:=List UInt8
def vF(H:SB->Bool)(N:SB->List SB)(fs:List Field):List Field:=fs.map fun g=>⟨g.name,g.of,g.list,g.must,g.far,H g.name,g.shared,N g.name⟩
def vT(H:SB->SB->Bool)(N:SB->SB->List SB)(ts:List Typ):List Typ:=ts.map fun t=>⟨t.name,t.key,vF (H t.name) (N t.name) t.fields⟩
def zsf(fs:List Field)(f:Field):List Field:=bif fs.any (fun g=>g.name==f.name)then fs else fs++[zHv f false []]
def upH(H:SB->Bool)(f:Field):SB->Bool:=fun x=>H x ||(f.name==x&&f.hidden)
def upN(N:SB->List SB)(f:Field):SB->List SB:=fun x=>bif f.name==x&&needy f then f.needs else N x
theorem zH8(H:SB->Bool)(N:SB->List SB)(fs:List Field)(x:SB):(vF H N fs).any (fun g=>g.name==x)=fs.any fun g=>g.name==x:=by
 unfold vF
 rw[List.any_map]
 rfl
theorem zq6(H:SB->SB->Bool)(N:SB->SB->List SB)(ts:List Typ):(vT H N ts).length=ts.length:=by simp[vT]
theorem zBR(H:SB->SB->Bool)(N:SB->SB->List SB)(ts:List Typ)(i:Nat)(h:i<(vT H N ts).length):(vT H N ts)[i]=⟨(ts[i]'(by rwa [zq6]at h)).name,(ts[i]'(by rwa [zq6]at h)).key,vF (H (ts[i]'(by rwa [zq6]at h)).name) (N (ts[i]'(by rwa [zq6]at h)).name) (ts[i]'(by rwa [zq6]at h)).fields⟩:=by
 simp[vT]
theorem zxq(ps:List Part)(H:SB->SB->Bool)(N:SB->SB->List SB)(ts:List Typ)(t:Typ):crM ps (vT H N ts) t=((crM ps ts t).1,vT H N (crM ps ts t).2):=by
 have h:(vT H N ts).findIdx? (fun u=>u.name==t.name)=ts.findIdx? (fun u=>u.name==t.name):=by
  unfold vT
  rw[List.findIdx?_map]
  rfl
 unfold crM
 rw[h]
 cases ts.findIdx? (fun u=>u.name==t.name)with
 | none=>simp[vT,vF]
 | some k=>rfl
theorem zCl(ps:List Part)(ts:List Typ)(t:Typ):((crM ps ts t).2[(crM ps ts t).1]'(zxp ps ts t)).name=t.name:=by
 have:∀(c:Nat×List Typ)(hc:c=crM ps ts t)(h:c.1<c.2.length),(c.2[c.1]'h).name=t.name:=by
  intro c hc h
  unfold crM at hc
  cases hf:ts.findIdx? (fun u=>u.name==t.name)with
  | none=>rw[hf]at hc;subst hc;simp
  | some k =>
   rw[hf]at hc
   subst hc
   have:=(List.findIdx?_eq_some_iff_getElem.1 hf).2.1
   simpa using this
 exact this _ rfl _
theorem zDy(ps:List Part)(ts:List Typ)(t:Typ):∃a ts1,crM ps ts t=(a,ts1)/\∃ha:a<ts1.length,ts1[a].name=t.name:=⟨_,_,rfl,zxp ps ts t,zCl ps ts t⟩
theorem zDg(H:SB->Bool)(N:SB->List SB)(fs:List Field)(i:Nat)(h:i<(vF H N fs).length)(h':i<fs.length):(vF H N fs)[i]=⟨fs[i].name,fs[i].of,fs[i].list,fs[i].must,fs[i].far,H fs[i].name,fs[i].shared,N fs[i].name⟩:=by
 simp[vF]
structure InvT (H:SB->SB->Bool)(N:SB->SB->List SB)(ts:List Typ):Prop where
 ty:∀(i j:Nat)(hi:i<ts.length)(hj:j<ts.length),ts[i].name=ts[j].name->i=j
 fd:∀t∈ts,∀(i j:Nat)(hi:i<t.fields.length)(hj:j<t.fields.length),t.fields[i].name=t.fields[j].name->i=j
 z:∀n x,(∀t∈ts,t.name=n->∀g∈t.fields,g.name≠x)->H n x=false/\N n x=[]
structure InvF (H:SB->Bool)(N:SB->List SB)(fs:List Field):Prop where
 fd:∀(i j:Nat)(hi:i<fs.length)(hj:j<fs.length),fs[i].name=fs[j].name->i=j
 z:∀x,(∀g∈fs,g.name≠x)->H x=false/\N x=[]
theorem zx9{fs:List Field}{f:Field}:(∀g∈fs,g∈zsf fs f)/\∃g∈zsf fs f,g.name=f.name:=by
 unfold zsf
 cases h:fs.any (fun g=>g.name==f.name)with
 | true =>
  obtain⟨g,hg,he⟩:=List.any_eq_true.1 h
  exact⟨fun g hg=>hg,g,hg,by simpa using he⟩
 | false=>exact⟨fun g hg=>List.mem_append_left _ hg,_,List.mem_append_right _ (List.mem_singleton.2 rfl),rfl⟩
theorem InvF.put{H:SB->Bool}{N:SB->List SB}{fs:List Field}(h:InvF H N fs)(f:Field):InvF (upH H f) (upN N f) (zsf fs f):=by
 refine⟨?_,fun x hx=>?_⟩
 ·unfold zsf
  cases ha:fs.any (fun g=>g.name==f.name)with
  | true=>exact h.fd
  | false =>
   simp only[cond_false]
   have hne:∀g∈fs,g.name≠f.name:=fun g hg=>by simpa using List.any_eq_false.1 ha g hg
   intro i j hi hj he
   rw[yhr,List.length_singleton]at hi hj
   by_cases h1:i<fs.length
   ·by_cases h2:j<fs.length
    ·rw[List.getElem_append_left h1,List.getElem_append_left h2]at he
     exact h.fd i j h1 h2 he
    ·have:j=fs.length:=by omega
     subst this
     rw[List.getElem_append_left h1,List.getElem_append_right (Nat.le_refl _)]at he
     simp only[Nat.sub_self,List.getElem_cons_zero]at he
     exact absurd he (hne _ (ygh h1))
   ·have:i=fs.length:=by omega
    subst this
    by_cases h2:j<fs.length
    ·rw[List.getElem_append_left h2,List.getElem_append_right (Nat.le_refl _)]at he
     simp only[Nat.sub_self,List.getElem_cons_zero]at he
     exact absurd he.symm (hne _ (ygh h2))
    ·omega
 ·obtain⟨g,hg,he⟩:=(zx9 (fs:=fs) (f:=f)).2
  have h1:f.name≠x:=fun hc=>hx g hg (he.trans hc)
  have h2:=h.z x fun g hg=>hx g (zx9.1 g hg)
  have h3:(f.name==x)=false:=by simpa using h1
  unfold upH upN
  rw[h3]
  simp[h2]
theorem zBj{H:SB->Bool}{N:SB->List SB}{fs:List Field}(h:InvF H N fs)(f:Field):zrg (vF H N fs) f=vF (upH H f) (upN N f) (zsf fs f):=by
 have hi:(vF H N fs).findIdx? (fun g=>g.name==f.name)=fs.findIdx? (fun g=>g.name==f.name):=by
  unfold vF
  rw[List.findIdx?_map]
  rfl
 unfold zrg
 rw[hi]
 cases hf:fs.findIdx? (fun g=>g.name==f.name)with
 | none =>
  have hn:=List.findIdx?_eq_none_iff.1 hf
  have ha:fs.any (fun g=>g.name==f.name)=false:=by
   rw[List.any_eq_false]
   intro g hg
   simp[hn g hg]
  have hz:=h.z f.name fun g hg=>by simpa using hn g hg
  unfold zsf
  rw[ha]
  simp only[cond_false]
  unfold vF
  rw[List.map_append]
  congr 1
  ·refine List.map_congr_left fun g hg=>?_
   have h3:(f.name==g.name)=false:=by
    have:=hn g hg
    rw[BEq.comm];exact this
   unfold upH upN
   rw[h3]
   simp
  ·simp only[List.map_cons,List.map_nil,zHv,upH,upN,hz,BEq.rfl,Bool.true_and,Bool.false_or]
   unfold needy
   cases hd:decide (0<f.needs.length)with
   | true=>rfl
   | false =>
    have:f.needs=[]:=by
     cases hfn:f.needs with
     | nil=>rfl
     | cons a b=>rw[hfn]at hd;simp at hd
    rw[this];rfl
 | some k =>
  obtain⟨hk,hkn,_⟩:=List.findIdx?_eq_some_iff_getElem.1 hf
  have hkn':fs[k].name=f.name:=by simpa using hkn
  have ha:fs.any (fun g=>g.name==f.name)=true:=List.any_eq_true.2 ⟨_,ygh hk,hkn⟩
  have hk':k<(vF H N fs).length:=by simpa[vF]using hk
  unfold zsf
  rw[ha]
  simp only[cond_true,ygb hk']
  refine List.ext_getElem (by simp[vF]) fun j h1 h2=>?_
  have hj:j<fs.length:=by simpa[vF]using h2
  by_cases hjk:k=j
  ·subst hjk
   rw[List.getElem_set_self,zDg _ _ _ _ _ hk,zDg _ _ _ _ _ hk]
   unfold zIt upH upN
   simp[hkn']
  ·rw[List.getElem_set_ne hjk]
   have h3:(f.name==fs[j].name)=false:=by
    have:¬f.name=fs[j].name:=fun hc=>hjk (h.fd k j hk hj (hkn'.trans hc))
    simpa using this
   rw[zDg _ _ _ _ _ hj,zDg _ _ _ _ _ hj]
   unfold upH upN
   simp[h3]
theorem zr1:∀(xs:List Field){H:SB->Bool}{N:SB->List SB}{fs:List Field},InvF H N fs->xs.foldl zrg (vF H N fs)=vF (xs.foldl upH H) (xs.foldl upN N) (xs.foldl zsf fs)/\InvF (xs.foldl upH H) (xs.foldl upN N) (xs.foldl zsf fs)
 | [],_,_,_,h=>⟨rfl,h⟩
 | x:: xs,_,_,_,h=>by
  have:=zr1 xs (h.put x)
  rw[List.foldl_cons,zBj h x]
  exact this
theorem zr2(ps:List Part)(n:SB):∀(xs fs:List Field),xs.foldl (zru ps n) (vF (zxH ps n) (zdr ps n) fs)=vF (zxH ps n) (zdr ps n) (xs.foldl zsf fs)
 | [],_=>rfl
 | x:: xs,fs=>by
  have h:zru ps n (vF (zxH ps n) (zdr ps n) fs) x=vF (zxH ps n) (zdr ps n) (zsf fs x):=by
   unfold zru zsf
   rw[zH8]
   cases fs.any (fun g=>g.name==x.name)with
   | true=>rfl
   | false =>
    simp only[cond_false]
    unfold vF
    rw[List.map_append]
    rfl
  rw[List.foldl_cons,h]
  exact zr2 ps n xs (zsf fs x)
theorem zzQ(ps:List Part)(ts:List Typ)(t:Typ):znP ps (zru ps) (vT (zxH ps) (zdr ps) ts) t=vT (zxH ps) (zdr ps) (znP ps (fun _=>zsf) ts t):=by
 unfold znP
 rw[zxq]
 obtain⟨a,ts1,hc,ha,hn⟩:=zDy ps ts t
 rw[hc]
 dsimp only
 have ha':a<(vT (zxH ps) (zdr ps) ts1).length:=by rw[zq6];exact ha
 rw[zks ha',zks ha,zBR]
 dsimp only
 rw[hn,zr2]
 unfold vT
 rw[List.map_set]
theorem zt5(ps:List Part):∀(us ts:List Typ),us.foldl (znP ps (zru ps)) (vT (zxH ps) (zdr ps) ts)=vT (zxH ps) (zdr ps) (us.foldl (znP ps fun _=>zsf) ts)
 | [],_=>rfl
 | u:: us,ts=>by
  rw[List.foldl_cons,zzQ]
  exact zt5 ps us _
theorem zt7(ps:List Part)(put:List UInt8->List Field->Field->List Field)(qs:List Part):ztX ps put qs=(qs.flatMap (·.types)).foldl (znP ps put) []:=by
 unfold ztX
 rw[List.foldl_flatMap]
def upT(H:SB->SB->Bool)(t:Typ):SB->SB->Bool:=fun n=>bif t.name==n then t.fields.foldl upH (H n)else H n
def upU(N:SB->SB->List SB)(t:Typ):SB->SB->List SB:=fun n=>bif t.name==n then t.fields.foldl upN (N n)else N n
theorem zEi{ps:List Part}{H:SB->SB->Bool}{N:SB->SB->List SB}{ts:List Typ}(h:InvT H N ts)(t:Typ):InvT H N (crM ps ts t).2:=by
 unfold crM
 cases hf:ts.findIdx? (fun u=>u.name==t.name)with
 | some k=>exact h
 | none =>
  have hn:=List.findIdx?_eq_none_iff.1 hf
  have hne:∀u∈ts,u.name≠t.name:=fun u hu=>by simpa using hn u hu
  refine⟨?_,fun u hu=>?_,fun n x hx=>h.z n x fun u hu=>hx u (List.mem_append_left _ hu)⟩
  ·intro i j hi hj he
   rw[yhr,List.length_singleton]at hi hj
   by_cases h1:i<ts.length
   ·by_cases h2:j<ts.length
    ·rw[List.getElem_append_left h1,List.getElem_append_left h2]at he
     exact h.ty i j h1 h2 he
    ·have:j=ts.length:=by omega
     subst this
     rw[List.getElem_append_left h1,List.getElem_append_right (Nat.le_refl _)]at he
     simp only[Nat.sub_self,List.getElem_cons_zero]at he
     exact absurd he (hne _ (ygh h1))
   ·have:i=ts.length:=by omega
    subst this
    by_cases h2:j<ts.length
    ·rw[List.getElem_append_left h2,List.getElem_append_right (Nat.le_refl _)]at he
     simp only[Nat.sub_self,List.getElem_cons_zero]at he
     exact absurd he.symm (hne _ (ygh h2))
    ·omega
  ·rcases List.mem_append.1 hu with h1|h1
   ·exact h.fd u h1
   ·rw[List.mem_singleton]at h1
    subst h1
    intro i j hi
    simp at hi
theorem zzP{ps:List Part}{H:SB->SB->Bool}{N:SB->SB->List SB}{ts:List Typ}(h:InvT H N ts)(t:Typ):
  znP ps (fun _=>zrg) (vT H N ts) t=vT (upT H t) (upU N t) (znP ps (fun _=>zsf) ts t)/\InvT (upT H t) (upU N t) (znP ps (fun _=>zsf) ts t):=by
 unfold znP
 rw[zxq]
 have hI:=zEi (ps:=ps) h t
 obtain⟨a,ts1,hc,ha,hn⟩:=zDy ps ts t
 rw[hc]at hI|-
 dsimp only at hI|-
 have ha':a<(vT H N ts1).length:=by rw[zq6];exact ha
 rw[zks ha',zks ha,zBR]
 dsimp only
 have hF:InvF (H t.name) (N t.name) ts1[a].fields:=⟨hI.fd _ (ygh ha),fun x hx=>hI.z _ _ fun u hu hun g hg=>by
  obtain⟨j,hj,rfl⟩:=List.getElem_of_mem hu
  have:j=a:=hI.ty j a hj ha (hun.trans hn.symm)
  subst this
  exact hx g hg⟩
 obtain⟨e1,e2⟩:=zr1 t.fields hF
 rw[hn,e1]
 have hu1:upT H t t.name=t.fields.foldl upH (H t.name):=by
  show(bif t.name==t.name then _ else _)=_
  rw[BEq.rfl];rfl
 have hu2:upU N t t.name=t.fields.foldl upN (N t.name):=by
  show(bif t.name==t.name then _ else _)=_
  rw[BEq.rfl];rfl
 have hv1:∀n,t.name≠n->upT H t n=H n:=fun n hne=>by
  have hb:(t.name==n)=false:=by simpa using hne
  show(bif t.name==n then _ else _)=_
  rw[hb];rfl
 have hv2:∀n,t.name≠n->upU N t n=N n:=fun n hne=>by
  have hb:(t.name==n)=false:=by simpa using hne
  show(bif t.name==n then _ else _)=_
  rw[hb];rfl
 rw[<-hu1,<-hu2]at e2|-
 generalize t.fields.foldl zsf ts1[a].fields=fs at *
 refine⟨List.ext_getElem (by simp[vT]) fun j h1 h2=>?_,?_,fun u hu=>?_,fun n x hx=>?_⟩
 ·have hj:j<ts1.length:=by simpa[vT]using h2
  by_cases hja:a=j
  ·subst hja
   rw[List.getElem_set_self,zBR]
   simp
  ·rw[List.getElem_set_ne hja,zBR,zBR]
   have hne:t.name≠ts1[j].name:=fun hc=>hja (hI.ty a j ha hj (hn.trans hc))
   simp only[List.getElem_set_ne hja,hv1 _ hne,hv2 _ hne]
 ·intro i j hi hj he
  have hi':i<ts1.length:=by simpa using hi
  have hj':j<ts1.length:=by simpa using hj
  have hnm:∀(k:Nat)(hk:k<(ts1.set a ⟨t.name,ts1[a].key,fs⟩).length)(hk':k<ts1.length),(ts1.set a ⟨t.name,ts1[a].key,fs⟩)[k].name=ts1[k].name:=by
   intro k hk hk'
   by_cases hka:a=k
   ·subst hka;simp[hn]
   ·rw[List.getElem_set_ne hka]
  rw[hnm i hi hi',hnm j hj hj']at he
  exact hI.ty i j hi' hj' he
 ·rcases List.mem_or_eq_of_mem_set hu with h1|rfl
  ·exact hI.fd u h1
  ·exact e2.fd
 ·have hmem:(⟨t.name,ts1[a].key,fs⟩:Typ)∈ts1.set a ⟨t.name,ts1[a].key,fs⟩:=List.mem_set ha _
  by_cases hnn:t.name=n
  ·subst hnn
   exact e2.z x fun g hg=>hx _ hmem rfl g hg
  ·rw[hv1 _ hnn,hv2 _ hnn]
   refine hI.z n x fun u hu hun g hg=>?_
   obtain⟨j,hj,rfl⟩:=List.getElem_of_mem hu
   have hja:a≠j:=fun hc=>by subst hc;exact hnn (hn.symm.trans hun)
   refine hx ts1[j] ?_ hun g hg
   have:=ygh (l:=ts1.set a ⟨t.name,ts1[a].key,fs⟩) (n:=j) (by simpa using hj)
   rw[List.getElem_set_ne hja]at this
   exact this
theorem zrN{ps:List Part}:∀(us:List Typ){H:SB->SB->Bool}{N:SB->SB->List SB}{ts:List Typ},InvT H N ts->
  us.foldl (znP ps fun _=>zrg) (vT H N ts)=vT (us.foldl upT H) (us.foldl upU N) (us.foldl (znP ps fun _=>zsf) ts)
 | [],_,_,_,_=>rfl
 | u:: us,H,N,ts,h=>by
  obtain⟨h1,h2⟩:=zzP (ps:=ps) h u
  rw[List.foldl_cons,h1]
  exact zrN us h2
end Go.Fw
namespace Go.Fw
open Go
set_option linter.unusedSimpArgs false
set_option linter.unusedVariables false
theorem zID(xs:List Field)(H:SB->Bool)(x:SB):xs.foldl upH H x=(H x ||xs.any fun f=>f.name==x&&f.hidden):=by
 induction xs generalizing H with
 | nil=>simp
 | cons f xs ih =>
  rw[List.foldl_cons,ih,List.any_cons]
  unfold upH
  rw[Bool.or_assoc]
theorem zHh(L:List Typ)(H:SB->SB->Bool)(n x:SB):L.foldl upT H n x=(H n x ||L.any fun t=>t.name==n&&t.fields.any fun f=>f.name==x&&f.hidden):=by
 induction L generalizing H with
 | nil=>simp
 | cons t L ih =>
  rw[List.foldl_cons,ih,List.any_cons]
  have:upT H t n x=(H n x ||(t.name==n&&t.fields.any fun f=>f.name==x&&f.hidden)):=by
   show(bif t.name==n then t.fields.foldl upH (H n)else H n) x=_
   cases t.name==n with
   | true=>simp only[cond_true,Bool.true_and];exact zID _ _ _
   | false=>simp
  rw[this,Bool.or_assoc]
theorem zIE(xs:List Field)(N:SB->List SB)(x:SB):(xs.foldl upN N x=N x/\∀f∈xs,f.name=x->needy f=false)\/∃f∈xs,f.name=x/\needy f=true/\xs.foldl upN N x=f.needs:=by
 induction xs generalizing N with
 | nil=>exact .inl ⟨rfl,by simp⟩
 | cons f xs ih =>
  rw[List.foldl_cons]
  rcases ih (upN N f)with⟨h1,h2⟩|⟨g,hg,h1,h2,h3⟩
  ·rw[h1]
   by_cases hc:f.name=x/\needy f=true
   ·refine .inr ⟨f,by simp,hc.1,hc.2,?_⟩
    unfold upN
    simp[hc.1,hc.2]
   ·refine .inl ⟨?_,fun g hg hgx=>?_⟩
    ·unfold upN
     have:(f.name==x&&needy f)=false:=by
      cases hb:(f.name==x&&needy f)with
      | false=>rfl
      | true =>
       simp only[yhb,yhe]at hb
       exact absurd hb hc
     rw[this];rfl
    ·rcases List.mem_cons.1 hg with rfl|hg
     ·cases hn:needy g with
      | false=>rfl
      | true=>exact absurd ⟨hgx,hn⟩ hc
     ·exact h2 g hg hgx
  ·exact .inr ⟨g,by simp[hg],h1,h2,h3⟩
theorem zHi(L:List Typ)(N:SB->SB->List SB)(n x:SB):(L.foldl upU N n x=N n x/\∀t∈L,t.name=n->∀f∈t.fields,f.name=x->needy f=false)\/∃t∈L,t.name=n/\∃f∈t.fields,f.name=x/\needy f=true/\L.foldl upU N n x=f.needs:=by
 induction L generalizing N with
 | nil=>exact .inl ⟨rfl,by simp⟩
 | cons t L ih =>
  rw[List.foldl_cons]
  rcases ih (upU N t)with⟨h1,h2⟩|⟨u,hu,h1,f,hf,h2,h3,h4⟩
  ·rw[h1]
   by_cases hn:t.name=n
   ·have e:upU N t n x=t.fields.foldl upN (N n) x:=by
     show(bif t.name==n then t.fields.foldl upN (N n)else N n) x=_
     have:(t.name==n)=true:=by simpa using hn
     rw[this];rfl
    rw[e]
    rcases zIE t.fields (N n) x with⟨g1,g2⟩|⟨f,hf,g1,g2,g3⟩
    ·refine .inl ⟨g1,fun u hu hun f hf hfx=>?_⟩
     rcases List.mem_cons.1 hu with rfl|hu
     ·exact g2 f hf hfx
     ·exact h2 u hu hun f hf hfx
    ·exact .inr ⟨t,by simp,hn,f,hf,g1,g2,g3⟩
   ·have e:upU N t n x=N n x:=by
     show(bif t.name==n then t.fields.foldl upN (N n)else N n) x=_
     have:(t.name==n)=false:=by simpa using hn
     rw[this];rfl
    rw[e]
    refine .inl ⟨rfl,fun u hu hun f hf hfx=>?_⟩
    rcases List.mem_cons.1 hu with rfl|hu
    ·exact absurd hun hn
    ·exact h2 u hu hun f hf hfx
  ·exact .inr ⟨u,by simp[hu],h1,f,hf,h2,h3,h4⟩
theorem zGa{ps:List Part}(hok:∀p∈ps,OkP p)(hI:I2 ps):ztX ps (fun _=>zrg) ps=ztX ps (zru ps) ps:=by
 rw[zt7,zt7]
 have e1:=zrN (ps:=ps) (ps.flatMap (·.types)) (H:=fun _ _=>false) (N:=fun _ _=>[]) (ts:=[]) ⟨fun i j hi=>absurd hi (Nat.not_lt_zero _),fun t ht=>absurd ht List.not_mem_nil,fun _ _ _=>⟨rfl,rfl⟩⟩
 have e2:=zt5 ps (ps.flatMap (·.types)) []
 have e3:vT (fun _ _=>false) (fun _ _=>[]) []=[]:=rfl
 have e4:vT (zxH ps) (zdr ps) []=[]:=rfl
 rw[e3]at e1
 rw[e4]at e2
 rw[e1,e2]
 have h1:(ps.flatMap (·.types)).foldl upT (fun _ _=>false)=zxH ps:=by
  funext n x
  rw[zHh,Bool.false_or,Bool.eq_iff_iff,List.any_eq_true]
  unfold zxH
  rw[List.any_eq_true]
  constructor
  ·rintro⟨t,ht,he⟩
   obtain⟨p,hp,htp⟩:=List.mem_flatMap.1 ht
   simp only[yhb,yhe,List.any_eq_true]at he
   obtain⟨rfl,f,hf,rfl,hh⟩:=he
   exact⟨f,zsZ hok hp htp hf,hh⟩
  ·rintro⟨f,hf,hh⟩
   obtain⟨p,hp,t,ht,hn,hft,hfx,_⟩:=zpx hf
   refine⟨t,List.mem_flatMap.2 ⟨p,hp,ht⟩,?_⟩
   simp only[yhb,yhe,List.any_eq_true]
   exact⟨hn,f,hft,hfx,hh⟩
 have h2:(ps.flatMap (·.types)).foldl upU (fun _ _=>[])=zdr ps:=by
  funext n x
  rcases zHi (ps.flatMap (·.types)) (fun _ _=>[]) n x with⟨g1,g2⟩|⟨t,ht,hn,f,hf,hfx,hnd,g⟩
  ·rw[g1]
   rcases zi8 ps n x with⟨e,_⟩|⟨g,hg,hnd,e⟩
   ·exact e.symm
   ·obtain⟨p,hp,t,ht,hn,hft,hfx,_⟩:=zpx hg
    have:=g2 t (List.mem_flatMap.2 ⟨p,hp,ht⟩) hn g hft hfx
    rw[hnd]at this;cases this
  ·rw[g]
   obtain⟨p,hp,htp⟩:=List.mem_flatMap.1 ht
   subst hn
   subst hfx
   have:=zvD.1 ((hI p hp t htp).2.2 f hf)
   exact(zxY hok this.2.2.1 (zsZ hok hp htp hf) hnd).symm
 rw[h1,h2]
def zpt(ps:List Part):Part:=⟨[97],ztX ps (zru ps) ps⟩
theorem zDp.sm{ps:List Part}(h:zDp ps)(hp:KL KK ps):SmL ps:=⟨h.2.1,fun p hpm=>⟨(h.ok p hpm).types,fun t ht=>⟨(hp.2 p hpm).2.2 t ht,(Wt.mk' ((hp.2 p hpm).2.2 t ht) ((h.ok p hpm).type t ht).line).fields⟩⟩⟩
theorem zxc{ps:List Part}(h:SmL ps)(hp:KL KK ps):KP KK (zpt ps):=by
 have hb:=zsq hp h (zBk hp) ps.length
 rw[List.take_length]at hb
 have hk:KK=1048576:=rfl
 refine⟨by show([97]:List UInt8).length<=_;rw[hk];decide,?_,fun t ht=>?_⟩
 ·have:=hb.1
  show(ztX ps (zru ps) ps).length<=_
  omega
 ·obtain⟨h1,h2,h3,h4⟩:=hb.2 t ht
  exact⟨h1,h2,by omega,h4⟩
def zo8(ps:List Part):Bool:=(v6I ps).code==0&&okP (zpt ps)
def zjM(ps:List Part)(t:Typ):List Own:=t.fields.map fun f=>⟨t.name,f.name,zef t.name f.name 0 ps⟩
theorem zBi{ps:List Part}{ts:List Typ}(h5:ts.length<=5)(h8:∀t∈ts,t.fields.length<=8)(i:Nat):((ts.take i).flatMap (zjM ps)).length<=40:=by
 have:∀l:List Typ,(∀t∈l,t.fields.length<=8)->(l.flatMap (zjM ps)).length<=8*l.length:=by
  intro l
  induction l with
  | nil=>simp
  | cons t l ih =>
   intro h
   have h1:=ih fun u hu=>h u (by simp[hu])
   have h2:=h t (by simp)
   have e:(zjM ps t).length=t.fields.length:=by simp[zjM]
   simp only[List.flatMap_cons,yhr,yhs,e]
   omega
 have h1:=this (ts.take i) fun t ht=>h8 t (List.mem_of_mem_take ht)
 have h2:(ts.take i).length<=5:=Nat.le_trans (by rw[List.length_take];exact Nat.min_le_right _ _) h5
 omega
theorem zk8{α U:Type}{l:List α}{g:α->List U}{i:Nat}(h:i<l.length):(l.take (i+1)).flatMap g=(l.take i).flatMap g++g l[i]:=by
 rw[List.take_succ_eq_append_getElem h,List.flatMap_append]
 simp
theorem zkv{ps:List Part}(hp:KL KK ps):∃r,zcn ps=some r/\(r.2.code==0)=zo8 ps/\(zo8 ps=true->r.1.all=zpt ps):=by
 have hc:=zpG (ps:=ps)
 unfold zo8
 rw[zjh]
 unfold zeh
 rw[ztc hp,zac]
 by_cases h0:(v6I ps).code=0
 ·have g1:decide ((v6I ps).code>0)=false:=by rw[h0];rfl
  have g2:((v6I ps).code==0)=true:=by rw[h0];rfl
  have hpre:=(hc.1.1 h0).1
  have hsm:=hpre.sm hp
  have hK:=zxc hsm hp
  have hA:zgq ps=some (zpt ps):=zyI hp hsm
  rw[g1,zae,hA,zac,g2,Bool.true_and,znz hK,zac]
  cases ho:okP (zpt ps)with
  | false=>exact⟨_,rfl,rfl,fun h=>by cases h⟩
  | true =>
   have hO:=OkP.of ho
   simp only[Bool.not_true,zae]
   have h8:∀t∈(zpt ps).types,t.fields.length<=8:=fun t ht=>(Wt.mk' (hK.2.2 t ht) (hO.type t ht).line).fields
   have hown:=zBi (ps:=ps) hO.types h8
   generalize zpt ps=all at *
   rw[zeV (s0:=((0:Int),([]:List UInt8),([]:List Typ),([]:List Own),((0:Int),([]:List UInt8),([]:List UInt8),(0:Int)),(all.name,all.types),([]:List Own))) all.types.length (fun i=>((i:Int),[],[],[],(0,[],[],0),(all.name,all.types),(all.types.take i).flatMap (zjM ps))) ((all.types.length:Int),[],[],[],(0,[],[],0),(all.name,all.types),all.types.flatMap (zjM ps)) rfl ?_ ?_]
   ·exact⟨_,rfl,rfl,fun _=>rfl⟩
   ·intro i hi
    have h3:=zap hi (up hK.2.1)
    have ho1:=hown i
    have ht8:=h8 _ (ygh hi)
    simp only[zaS hi,zaE,zaj hi,zaf,zag,zac]
    rw[zeV (s0:=((0:Int),([]:List UInt8),([]:List Typ),([]:List Own),((0:Int),([]:List UInt8),([]:List UInt8),(0:Int)),(all.name,all.types),(all.types.take i).flatMap (zjM ps))) all.types[i].fields.length (fun j=>((j:Int),[],[],[],(0,[],[],0),(all.name,all.types),(all.types.take i).flatMap (zjM ps)++(zjM ps all.types[i]).take j)) ((all.types[i].fields.length:Int),[],[],[],(0,[],[],0),(all.name,all.types),(all.types.take i).flatMap (zjM ps)++zjM ps all.types[i]) (by simp) ?_ ?_]
    ·simp only[h3,zag]
     rw[zk8 hi]
     rfl
    ·intro j hj
     have h4:=zap hj (by omega)
     have hj':j<(zjM ps all.types[i]).length:=by simpa[zjM]using hj
     simp only[zaS hj,zaE,zaj hj,zaf,zag,zac,zr4 hp,h4]
     have hl:((zjM ps all.types[i]).take j).length<=8:=by
      rw[List.length_take]
      exact Nat.le_trans (Nat.min_le_right _ _) (by simpa[zjM]using ht8)
     (rw[zdN];rotate_left;(have:=hBM;simp only[yhr,yhs,yht,List.length_map,yhc,yhb];omega))
     rw[List.take_succ_eq_append_getElem hj',<-List.append_assoc]
     simp[zjM]
    ·simp only[zaq,zae]
     rw[show(zjM ps all.types[i]).take all.types[i].fields.length=zjM ps all.types[i]from by
      rw[show all.types[i].fields.length=(zjM ps all.types[i]).length by simp[zjM],List.take_length]]
   ·simp only[zaq,zae,List.take_length]
 ·have g1:decide ((v6I ps).code>0)=true:=by have:=hc.2;simp;omega
  have g2:((v6I ps).code==0)=false:=by simpa using h0
  rw[g1,zaf,g2]
  exact⟨_,rfl,g2,fun h=>by cases h⟩
theorem zkP{ps:List Part}(hp:KL KK ps):∃r,zdR ps=some r/\(r.2.code==0)=zo8 ps/\(zo8 ps=true->r.1.all=zpt ps):=by
 have hc:=zvE ps
 unfold zo8
 rw[zlw]
 unfold zgz
 rw[zAx hp,zac]
 by_cases h0:(v6S ps).code=0
 ·have g1:((v6S ps).code !=0)=false:=by rw[h0];rfl
  have g0:((v6S ps).code==0)=true:=by rw[h0];rfl
  have g2:((v6I ps).code==0)=true:=by rw[hc.1 h0];rfl
  have hpre:=(ztz.1 h0).1
  have hI:=(zD3 hpre.ok).1 (ztz.1 h0).2
  have hsm:=hpre.sm hp
  have hK:=zxc hsm hp
  have hA:znL ps=some (zpt ps):=by rw[zza hp hsm,zGa hpre.ok hI];rfl
  rw[g1,zae,hA,zac,g2,Bool.true_and,zhJ hK,zac,show((pcM (zpt ps)).code !=0)= !okP (zpt ps)from rfl]
  cases ho:okP (zpt ps)with
  | false=>exact⟨_,rfl,rfl,fun h=>by cases h⟩
  | true =>
   have hO:=OkP.of ho
   simp only[Bool.not_true,zae]
   have h8:∀t∈(zpt ps).types,t.fields.length<=8:=fun t ht=>(Wt.mk' (hK.2.2 t ht) (hO.type t ht).line).fields
   have hown:=zBi (ps:=ps) hO.types h8
   generalize zpt ps=all at *
   rw[zeV (s0:=((0:Int),([]:List UInt8),([]:List Typ),([]:List Own),((0:Int),([]:List UInt8),([]:List UInt8),(0:Int)),(all.name,all.types),([]:List Own))) all.types.length (fun i=>((i:Int),[],[],[],(0,[],[],0),(all.name,all.types),(all.types.take i).flatMap (zjM ps))) ((all.types.length:Int),[],[],[],(0,[],[],0),(all.name,all.types),all.types.flatMap (zjM ps)) rfl ?_ ?_]
   ·exact⟨_,rfl,g0,fun _=>rfl⟩
   ·intro i hi
    have h3:=zap hi (up hK.2.1)
    have ho1:=hown i
    have ht8:=h8 _ (ygh hi)
    simp only[zaS hi,zaE,zaj hi,zaf,zag,zac]
    rw[zeV (s0:=((0:Int),([]:List UInt8),([]:List Typ),([]:List Own),((0:Int),([]:List UInt8),([]:List UInt8),(0:Int)),(all.name,all.types),(all.types.take i).flatMap (zjM ps))) all.types[i].fields.length (fun j=>((j:Int),[],[],[],(0,[],[],0),(all.name,all.types),(all.types.take i).flatMap (zjM ps)++(zjM ps all.types[i]).take j)) ((all.types[i].fields.length:Int),[],[],[],(0,[],[],0),(all.name,all.types),(all.types.take i).flatMap (zjM ps)++zjM ps all.types[i]) (by simp) ?_ ?_]
    ·simp only[h3,zag]
     rw[zk8 hi]
     rfl
    ·intro j hj
     have h4:=zap hj (by omega)
     have hj':j<(zjM ps all.types[i]).length:=by simpa[zjM]using hj
     simp only[zaS hj,zaE,zaj hj,zaf,zag,zac,zsk hp,h4]
     have hl:((zjM ps all.types[i]).take j).length<=8:=by
      rw[List.length_take]
      exact Nat.le_trans (Nat.min_le_right _ _) (by simpa[zjM]using ht8)
     (rw[zdN];rotate_left;(have:=hBM;simp only[yhr,yhs,yht,List.length_map,yhc,yhb];omega))
     rw[List.take_succ_eq_append_getElem hj',<-List.append_assoc]
     simp[zjM]
    ·simp only[zaq,zae]
     rw[show(zjM ps all.types[i]).take all.types[i].fields.length=zjM ps all.types[i]from by
      rw[show all.types[i].fields.length=(zjM ps all.types[i]).length by simp[zjM],List.take_length]]
   ·simp only[zaq,zae,List.take_length]
 ·have g1:((v6S ps).code !=0)=true:=by simpa using h0
  have g3:((v6S ps).code==0)=false:=by simpa using h0
  have g2:((v6I ps).code==0)=false:=by
   have:¬(v6I ps).code=0:=fun h=>h0 (hc.2 h)
   simpa using this
  rw[g1,zaf,g2]
  exact⟨_,rfl,g3,fun h=>by cases h⟩
end Go.Fw
namespace Go.Fw
open Go
set_option linter.unusedSimpArgs false
set_option linter.unusedVariables false
abbrev qW:SB:=[113,117,101,114,121]
def zlV(p:Part)(n f:SB):Bool:=match zhq p n f with
 | some g=>!g.far&&!needy g
 | none=>false
def zis(p:Part)(n:SB):Bool:=match tyM p n with
 | some t=>t.key !=[]
 | none=>false
def zdP(ps:List Part)(n f:SB):Int:=ixM (fun p=>zjI n f p&&(n==qW ||zis p n)) ps
def ziv(ps:List Part)(fr:Part)(i:Int)(n f:SB):Int:=
 bif n==qW then zdP ps n f else bif zlV fr n f then i else
 bif decide (zdP ps n f<0)then -1 else bif !zis fr n then -1 else
 match ps[(zdP ps n f).toNat]? with
 | some p=>bif ((zhq p n f).getD fd0).needs.any (fun x=>!zlV fr n x&&decide (zdP ps n x<0))then -1 else zdP ps n f
 | none=>-1
theorem zo6{p:Part}{n f:SB}(hp:KP KK p):zih (p,n,f)=some (zlV p n f):=by
 rw[zoP];unfold zj0;dsimp only
 rw[zfp hp,zac]
 unfold zlV needy
 cases zhq p n f with
 | none=>rfl
 | some g =>
  simp only[Option.isSome_some,Option.getD_some,zDF]
  cases g.far<;>cases decide (0<g.needs.length)<;>rfl
theorem zo5{p:Part}{n:SB}(hp:KP KK p):zig (p,n)=some (zis p n):=by
 rw[zoO];unfold zjZ;dsimp only
 rw[zd4 (up hp.2.1),zac]
 unfold zis tyM
 rcases zbO (fun t:Typ=>t.name==n) p.types with⟨h1,h2,_⟩|⟨i,hi,h1,h2,_,_⟩
 ·rw[h1,h2];rfl
 ·rw[h1,h2,zHd,zaf,zag,zaj hi];rfl
theorem zDA{α:Type}(q:α->Bool)(ys:List α)(i:Nat):fsI (fun i p=>bif !q p then none else some (i:Int)) i ys=match ys.findIdx? q with|some k=>some ((k+i:Nat):Int)|none=>none:=by
 induction ys generalizing i with
 | nil=>rfl
 | cons y ys ih =>
  simp only[fsI,List.findIdx?_cons]
  cases hq:q y with
  | true=>simp
  | false =>
   simp only[Bool.not_false,cond_true,yhj,if_false]
   rw[ih (i+1)]
   cases h:ys.findIdx? q with
   | none=>rfl
   | some k=>simp;omega
theorem zo4{ps:List Part}{n f:SB}(hp:KL KK ps):zif (ps,n,f)=some (zdP ps n f):=by
 rw[zoN];unfold zjY;dsimp only
 unfold zdP
 rw[zdt (s0:=(0:Int)) ps (fun i=>(i:Int)) (ps.length:Int) (fun i p=>bif !(zjI n f p&&(n==qW ||zis p n))then none else some (i:Int)) rfl ?_ ?_]
 ·rw[zDA]
  unfold ixM
  cases ps.findIdx? _ with
  | none=>rfl
  | some k=>simp[zau]
 ·intro i hi
  have h3:=zap hi (up hp.1)
  have hq:=hp.2 _ (ygh hi)
  simp only[zaS hi,zaE,zaj hi,zaf,zag,zac,h3,zfp hq,zo5 hq]
  unfold zjI
  cases zhq ps[i] n f with
  | none=>rfl
  | some g =>
   simp only[Option.isSome_some,Option.getD_some]
   cases g.far<;>cases(n==qW)<;>cases zis ps[i] n<;>rfl
 ·simp only[zaq,zae]
theorem znk(ps:List Part)(n f:SB):zdP ps n f= -1\/∃i:Nat,i<ps.length/\zdP ps n f=i:=by
 unfold zdP
 rcases zbO (fun p=>zjI n f p&&(n==qW ||zis p n)) ps with⟨h1,_,_⟩|⟨i,hi,h1,_,_,_⟩
 ·exact .inl h1
 ·exact .inr ⟨i,hi,h1⟩
theorem zuE{p:Part}{n f:SB}(hp:KP KK p):(((zhq p n f).getD fd0).needs).length<=KK:=by
 cases h:zhq p n f with
 | none=>simp[fd0]
 | some g =>
  obtain⟨t,ht,_,_,hg,_⟩:=zpB h
  exact((hp.2.2 t ht).2.2.2 g hg).2.2.1
theorem zwC{ps:List Part}{i:Nat}{n f:SB}(hp:KL KK ps)(hi:i<ps.length):zmY (ps,(i:Int),n,f)=some (ziv ps ps[i] i n f):=by
 rw[zpT];unfold zmN;dsimp only
 have hq:=hp.2 _ (ygh hi)
 unfold ziv
 rw[zo4 hp]
 simp only[zaE,zaj hi,zag,zac,zo6 hq,bne]
 cases hn:(n==[113,117,101,114,121])with
 | true=>rfl
 | false =>
  simp only[Bool.not_false,zaf,zac,cond_false]
  cases hl:zlV ps[i] n f with
  | true=>rfl
  | false =>
   simp only[zae,cond_false,zac]
   rcases znk ps n f with h1|⟨k,hk,h1⟩
   ·rw[h1];rfl
   ·rw[h1,zlQ]
    simp only[zae,cond_false,zaE,zag,zaj hk,zac,zfp (hp.2 _ (ygh hk)),zo5 hq,Int.toNat_natCast,ygb hk]
    cases zis ps[i] n with
    | false=>rfl
    | true =>
     simp only[Bool.not_true,zae,cond_false]
     have hnd:=zuE (n:=n) (f:=f) (hp.2 _ (ygh hk))
     generalize((zhq ps[k] n f).getD fd0).needs=nd at *
     rw[zdt (s0:=(0:Int)) nd (fun i=>(i:Int)) (nd.length:Int) (fun _ x=>bif !(!zlV ps[i] n x&&decide (zdP ps n x<0))then none else some (-1)) rfl ?_ ?_]
     ·rw[zdx,zfv,zpV]
      cases nd.all _<;>rfl
     ·intro j hj
      have h3:=zap hj (up hnd)
      simp only[zaS hj,zaE,zaj hj,zaf,zag,zac,h3,zo6 hq,zo4 hp]
      cases zlV ps[i] n nd[j]<;>cases decide (zdP ps n nd[j]<0)<;>rfl
     ·simp only[zaq,zae]
theorem zxN{fl:Fleet}{i:Nat}{n:SB}(hp:KL KK fl.parts)(hi:i<fl.parts.length):zcc (fl,(i:Int),n)=some (zis fl.parts[i] n):=by
 rw[zhw];unfold zcW;dsimp only
 have hq:=hp.2 _ (ygh hi)
 simp only[zaE,zaj hi,zag,zac,zn5 (up hq.2.1)]
 unfold zis
 cases tyM fl.parts[i] n<;>rfl
theorem zAH{fl:Fleet}{n f:SB}(hp:KL KK fl.parts):zcL (fl,n,f)=some (zdP fl.parts n f):=by
 rw[zib];unfold zdF;dsimp only
 unfold zdP
 rw[zdt (s0:=(0:Int)) fl.parts (fun i=>(i:Int)) (fl.parts.length:Int) (fun i p=>bif !(zjI n f p&&(n==qW ||zis p n))then none else some (i:Int)) rfl ?_ ?_]
 ·rw[zDA]
  unfold ixM
  cases fl.parts.findIdx? _ with
  | none=>rfl
  | some k=>simp[zau]
 ·intro i hi
  have h3:=zap hi (up hp.1)
  have hq:=hp.2 _ (ygh hi)
  simp only[zaS hi,zaE,zaj hi,zaf,zag,zac,h3,zee hq,zxN hp hi]
  unfold zjI
  cases zhq fl.parts[i] n f with
  | none=>rfl
  | some g =>
   simp only[Option.isSome_some,Option.getD_some]
   cases g.far<;>cases(n==qW)<;>cases zis fl.parts[i] n<;>rfl
 ·simp only[zaq,zae]
theorem zub{fl:Fleet}{i:Nat}{n f:SB}(hp:KL KK fl.parts)(hi:i<fl.parts.length):zbT (fl,(i:Int),n,f)=some (zlV fl.parts[i] n f):=by
 rw[zgU];unfold zcs;dsimp only
 have hq:=hp.2 _ (ygh hi)
 simp only[zaE,zaj hi,zag,zac,zee hq,znx]
 unfold zlV needy
 cases zhq fl.parts[i] n f with
 | none=>rfl
 | some g =>
  simp only[Option.isSome_some,Option.getD_some]
  cases g.far<;>cases decide (0<g.needs.length)<;>rfl
theorem zuv(ps:List Part)(n f:SB):(zdP ps n f== -1)=decide (zdP ps n f<0):=by
 rcases znk ps n f with h|⟨k,_,h⟩
 ·rw[h];rfl
 ·rw[h,zlQ]
  simp
theorem zH9{fl:Fleet}{i:Nat}{n f:SB}(hp:KL KK fl.parts)(hi:i<fl.parts.length):zeB (fl,(i:Int),n,f)=some (ziv fl.parts fl.parts[i] i n f):=by
 rw[zjn];unfold zen;dsimp only
 unfold ziv
 rw[zAH hp,zub hp hi,zxN hp hi]
 simp only[zac,zuv]
 cases hn:(n==[113,117,101,114,121])with
 | true=>rfl
 | false =>
  simp only[zae,cond_false]
  cases hl:zlV fl.parts[i] n f with
  | true=>rfl
  | false =>
   simp only[zae,cond_false]
   rcases znk fl.parts n f with h1|⟨k,hk,h1⟩
   ·rw[h1];rfl
   ·rw[h1,zlQ]
    simp only[zae,cond_false]
    cases zis fl.parts[i] n with
    | false=>rfl
    | true =>
     simp only[Bool.not_true,zac,zae,cond_false,zaE,zag,zaj hk,zee (hp.2 _ (ygh hk)),Int.toNat_natCast,ygb hk]
     have hnd:=zuE (n:=n) (f:=f) (hp.2 _ (ygh hk))
     generalize((zhq fl.parts[k] n f).getD fd0).needs=nd at *
     have h2:zcC (nd,fl,(i:Int),n)=some (nd.any fun x=>!zlV fl.parts[i] n x&&decide (zdP fl.parts n x<0)):=by
      rw[zgZ];unfold zcv;dsimp only
      have h3:zcF (nd,fl,(i:Int),n)=some (ixM (fun x=>!zlV fl.parts[i] n x&&decide (zdP fl.parts n x<0)) nd):=by
       rw[zg2];unfold zcy;dsimp only
       refine ixf (g:=fun x=>zc3 (x,fl,(i:Int),n)) _ (up hnd) (fun x _=>?_)
       rw[zhy];unfold zcY;dsimp only
       rw[zub hp hi,zAH hp]
       simp only[zac,zuv]
       cases zlV fl.parts[i] n x<;>cases decide (zdP fl.parts n x<0)<;>rfl
      rw[h3,zac,zjz]
     rw[h2,zac]
     cases nd.any _<;>rfl
theorem zpE{ps:List Part}{i:Nat}{n f:SB}(hi:i<ps.length):ziv ps ps[i] i n f= -1\/∃k:Nat,k<ps.length/\ziv ps ps[i] i n f=k:=by
 unfold ziv
 have hf:=znk ps n f
 cases(n==qW)with
 | true=>exact hf
 | false =>
  cases zlV ps[i] n f with
  | true=>exact .inr ⟨i,hi,rfl⟩
  | false =>
   simp only[cond_false]
   cases decide (zdP ps n f<0)with
   | true=>exact .inl rfl
   | false =>
    cases zis ps[i] n with
    | false=>exact .inl rfl
    | true =>
     simp only[cond_false,Bool.not_true]
     cases ps[(zdP ps n f).toNat]? with
     | none=>exact .inl rfl
     | some p =>
      simp only[]
      cases((zhq p n f).getD fd0).needs.any _ with
      | true=>exact .inl rfl
      | false=>exact hf
end Go.Fw
namespace Go.Fw
open Go
set_option linter.unusedSimpArgs false
set_option linter.unusedVariables false
abbrev WS:=List SB×List Stt×List (List SB)
def zfV(ps:List Part)(fr:Part)(i:Nat)(a:Nat)(n:SB)(w:WS)(f:Field):WS:=
 bif f.hidden then w else
 bif decide (ziv ps fr i n f.name<0)then((bif decide (0<w.1.length)then w.1 else(w.2.2[a]?.getD [])++[f.name]),w.2.1,w.2.2)else
 bif !zsj f.of&&!w.2.1.any (fun s=>s.part==ziv ps fr i n f.name&&(s.type==f.of&&true))then(w.1,w.2.1++[⟨ziv ps fr i n f.name,f.of⟩],w.2.2++[(w.2.2[a]?.getD [])++[f.name]])else w
def goM(ps:List Part)(all:Part)(a:Nat)(w:WS):WS:=match w.2.1[a]? with
 | some s=>match ps[s.part.toNat]?,tyM all s.type with
  | some fr,some t=>t.fields.foldl (zfV ps fr s.part.toNat a s.type) w
  | _,_=>w
 | none=>w
structure WI (ps:List Part)(all:Part)(w:WS):Prop where
 len:w.2.2.length=w.2.1.length
 st:∀s∈w.2.1,(∃i:Nat,i<ps.length/\s.part=i)/\∃t,tyM all s.type=some t
 nd:(w.2.1.map fun s=>(s.part,s.type)).Nodup
 wl:∀l∈w.2.2,l.length<=w.2.1.length
 bl:w.1.length<=w.2.1.length+1
theorem zFq{l:List Stt}{s:Stt}(hl:l.length<=4611686018427387904):zmZ (l,s)=some (ixM (fun x=>x.part==s.part&&(x.type==s.type&&true)) l):=by
 rw[zpU];unfold zmO;dsimp only
 exact ixf (g:=fun x:Stt=>some (x.part==s.part&&(x.type==s.type&&true))) _ hl (fun _ _=>rfl)
theorem zui{l:List Stt}{s:Stt}(hl:l.length<=4611686018427387904):zat (l,s)=some (l.any fun x=>x.part==s.part&&(x.type==s.type&&true)):=by
 rw[zbC];unfold zar;dsimp only
 have h:zaA (l,s)=some (ixM (fun x=>x.part==s.part&&(x.type==s.type&&true)) l):=by
  rw[zb1];unfold zaz;dsimp only
  refine ixf (g:=fun x:Stt=>some (s.part==x.part&&(s.type==x.type&&true))) _ hl (fun x _=>?_)
  rw[BEq.comm (a:=s.part),BEq.comm (a:=s.type)]
 rw[h,zac,zjz]
theorem zBL{ps:List Part}{all:Part}{fr:Part}{i a:Nat}{n:SB}{w:WS}{f:Field}(hw:WI ps all w)(ha:a<w.2.1.length)(hn:ziv ps fr i n f.name= -1\/∃k:Nat,k<ps.length/\ziv ps fr i n f.name=k)(hk:zsj f.of=true\/∃t,tyM all f.of=some t):
  WI ps all (zfV ps fr i a n w f)/\w.2.1.length<=(zfV ps fr i a n w f).2.1.length/\(∀j,j<w.2.1.length->(zfV ps fr i a n w f).2.1[j]? =w.2.1[j]?):=by
 unfold zfV
 have hla:a<w.2.2.length:=by rw[hw.len];exact ha
 have hway:(w.2.2[a]?.getD []).length<=w.2.1.length:=by
  rw[ygb hla,Option.getD_some]
  exact hw.wl _ (ygh hla)
 cases f.hidden with
 | true=>exact⟨hw,Nat.le_refl _,fun _ _=>rfl⟩
 | false =>
  simp only[cond_false]
  rcases hn with h1|⟨k,hk1,h1⟩
  ·rw[h1]
   simp only[show decide ((-1:Int)<0)=true from rfl,cond_true]
   refine⟨⟨hw.len,hw.st,hw.nd,hw.wl,?_⟩,Nat.le_refl _,fun _ _=>by first|rfl|trivial⟩
   dsimp only
   cases decide (0<w.1.length)with
   | true=>exact hw.bl
   | false =>
    simp only[cond_false,yhr,List.length_singleton]
    omega
  ·rw[h1,zlQ]
   simp only[cond_false]
   cases hs:(!zsj f.of&&!w.2.1.any (fun s=>s.part==(k:Int)&&(s.type==f.of&&true)))with
   | false=>exact⟨hw,Nat.le_refl _,fun _ _=>rfl⟩
   | true =>
    simp only[yhb,yho,Bool.and_true]at hs
    simp only[cond_true]
    refine⟨⟨?_,?_,?_,?_,?_⟩,by simp,fun j hj=>?_⟩
    ·simp[hw.len]
    ·intro s hs'
     rcases List.mem_append.1 hs' with h2|h2
     ·exact hw.st s h2
     ·rw[List.mem_singleton]at h2
      subst h2
      refine⟨⟨k,hk1,rfl⟩,?_⟩
      rcases hk with h3|h3
      ·rw[hs.1]at h3;cases h3
      ·exact h3
    ·dsimp only
     rw[List.map_append,List.nodup_append]
     refine⟨hw.nd,by simp,fun x hx y hy=>?_⟩
     simp only[List.map_cons,List.map_nil,List.mem_singleton]at hy
     subst hy
     obtain⟨s,hsm,rfl⟩:=List.mem_map.1 hx
     intro hc
     have:=List.any_eq_false.1 hs.2 s hsm
     simp only[Prod.mk.injEq]at hc
     rw[hc.1,hc.2]at this
     simp at this
    ·intro l hl
     rcases List.mem_append.1 hl with h2|h2
     ·have:=hw.wl l h2
      simp only[yhr,List.length_singleton]
      omega
     ·rw[List.mem_singleton]at h2
      subst h2
      simp only[yhr,List.length_singleton]
      omega
    ·have:=hw.bl
     simp only[yhr,List.length_singleton]
     omega
    ·exact yge hj
theorem zx0{α:Type} [DecidableEq α]:∀(l S:List α),l.Nodup->(∀x∈l,x∈S)->l.length<=S.length
 | [],_,_,_=>by simp
 | x:: l,S,hn,hs=>by
  obtain⟨h1,h2⟩:=List.nodup_cons.1 hn
  have:=zx0 l (S.erase x) h2 fun y hy=>(List.mem_erase_of_ne (fun e=>h1 (by rw[<-e];exact hy))).2 (hs y (by simp[hy]))
  rw[List.length_erase_of_mem (hs x (by simp))]at this
  have hp:0<S.length:=List.length_pos_of_mem (hs x (by simp))
  simp only[yhs]
  omega
def stS(n:Nat)(all:Part):List (Int×SB):=(List.range n).flatMap fun p:Nat=>all.types.map fun t=>(Int.ofNat p,t.name)
theorem zFC(n:Nat)(all:Part):(stS n all).length=n*all.types.length:=by
 unfold stS
 induction n with
 | zero=>simp
 | succ n ih=>rw[List.range_succ,List.flatMap_append,yhr,ih];simp[Nat.succ_mul]
theorem WI.bound{ps:List Part}{all:Part}{w:WS}(h:WI ps all w)(h4:ps.length<=4)(h5:all.types.length<=5):w.2.1.length<=20:=by
 have:=zx0 _ (stS ps.length all) h.nd fun x hx=>by
  obtain⟨s,hs,rfl⟩:=List.mem_map.1 hx
  obtain⟨⟨i,hi,he⟩,t,ht⟩:=h.st s hs
  refine List.mem_flatMap.2 ⟨i,List.mem_range.2 hi,List.mem_map.2 ⟨t,(zjd ht).1,?_⟩⟩
  rw[(zjd ht).2,he];rfl
 rw[List.length_map,zFC]at this
 have h2:ps.length*all.types.length<=4*5:=Nat.mul_le_mul h4 h5
 omega
theorem zpy{ps:List Part}{all:Part}{fr:Part}{i a:Nat}{n:SB}(hn:∀f,ziv ps fr i n f= -1\/∃k:Nat,k<ps.length/\ziv ps fr i n f=k):∀(fs:List Field)(w:WS),(∀f∈fs,zsj f.of=true\/∃t,tyM all f.of=some t)->WI ps all w->a<w.2.1.length->
  WI ps all (fs.foldl (zfV ps fr i a n) w)/\w.2.1.length<=(fs.foldl (zfV ps fr i a n) w).2.1.length/\(∀j,j<w.2.1.length->(fs.foldl (zfV ps fr i a n) w).2.1[j]? =w.2.1[j]?)
 | [],w,_,hw,_=>⟨hw,Nat.le_refl _,fun _ _=>rfl⟩
 | f:: fs,w,hk,hw,ha=>by
  obtain⟨h1,h2,h3⟩:=zBL hw ha (hn f.name) (hk f (by simp))
  obtain⟨g1,g2,g3⟩:=zpy hn fs _ (fun f hf=>hk f (by simp[hf])) h1 (Nat.lt_of_lt_of_le ha h2)
  exact⟨g1,Nat.le_trans h2 g2,fun j hj=>(g3 j (Nat.lt_of_lt_of_le hj h2)).trans (h3 j hj)⟩
theorem zEN{all:Part}(hO:OkP all){t:Typ}(ht:t∈all.types):∀f∈t.fields,zsj f.of=true\/∃u,tyM all f.of=some u:=by
 intro f hf
 have:=(hO.type t ht).known f hf
 unfold knownM at this
 rw[Bool.or_eq_true]at this
 rcases this with h|h
 ·exact .inl h
 ·exact .inr (Option.isSome_iff_exists.1 h)
theorem zEu{ps:List Part}{all:Part}(hO:OkP all){a:Nat}{w:WS}(hw:WI ps all w)(ha:a<w.2.1.length):WI ps all (goM ps all a w)/\w.2.1.length<=(goM ps all a w).2.1.length:=by
 unfold goM
 rw[ygb ha]
 obtain⟨⟨i,hi,he⟩,t,ht⟩:=hw.st _ (ygh ha)
 have hti:w.2.1[a].part.toNat=i:=by rw[he];exact Int.toNat_natCast i
 simp only[hti,ygb hi,ht]
 have:=zpy (ps:=ps) (all:=all) (fr:=ps[i]) (i:=i) (a:=a) (n:=w.2.1[a].type) (fun f=>zpE hi) t.fields w (zEN hO (zjd ht).1) hw ha
 exact⟨this.1,this.2.1⟩
theorem zBI{ps:List Part}{all:Part}(hp:KL KK ps)(h4:ps.length<=4)(hA:KP KK all)(hO:OkP all){a:Nat}{w:WS}(hw:WI ps all w)(ha:a<w.2.1.length):
  zeD (ps,all,(a:Int),w.1,w.2.1,w.2.2)=some (goM ps all a w):=by
 rw[zjo];unfold zeo;dsimp only
 unfold goM
 rw[ygb ha]
 obtain⟨⟨i,hi,he⟩,t,ht⟩:=hw.st _ (ygh ha)
 have hti:w.2.1[a].part.toNat=i:=by rw[he];exact Int.toNat_natCast i
 have g1:(decide (0<=(a:Int))&&decide ((a:Int)<(w.2.1.length:Int)))=true:=by simp;omega
 simp only[g1,zag,zaj ha,zac,zd4 (up hA.2.1),hti,ygb hi,ht]
 rcases zbO (fun u:Typ=>u.name==w.2.1[a].type) all.types with⟨e1,e2,_⟩|⟨k,hk,e1,e2,_,_⟩
 ·unfold tyM at ht;rw[e2]at ht;cases ht
 ·have htk:t=all.types[k]:=by unfold tyM at ht;rw[e2]at ht;exact(Option.some.inj ht).symm
  have htm:=(zjd ht).1
  rw[e1,zaE,zag,zaj hk,zac,<-htk]
  have hft:=(hA.2.2 t htm).2.2.1
  have hinv:=fun j=>zpy (ps:=ps) (all:=all) (fr:=ps[i]) (i:=i) (a:=a) (n:=w.2.1[a].type) (fun f=>zpE hi) (t.fields.take j) w (fun f hf=>zEN hO htm f (List.mem_of_mem_take hf)) hw ha
  rw[zeV (s0:=((0:Int),w.1,w.2.1,w.2.2)) t.fields.length (fun j=>((j:Int),((t.fields.take j).foldl (zfV ps ps[i] i a w.2.1[a].type) w).1,((t.fields.take j).foldl (zfV ps ps[i] i a w.2.1[a].type) w).2.1,((t.fields.take j).foldl (zfV ps ps[i] i a w.2.1[a].type) w).2.2)) ((t.fields.length:Int),(t.fields.foldl (zfV ps ps[i] i a w.2.1[a].type) w).1,(t.fields.foldl (zfV ps ps[i] i a w.2.1[a].type) w).2.1,(t.fields.foldl (zfV ps ps[i] i a w.2.1[a].type) w).2.2) rfl ?_ ?_]
  ·intro j hj
   have h3:=zap hj (up hft)
   rw[zir hj]
   obtain⟨v1,v2,v3⟩:=hinv j
   have v4:=v3 a ha
   generalize(t.fields.take j).foldl (zfV ps ps[i] i a w.2.1[a].type) w=v at *
   have hav:a<v.2.1.length:=Nat.lt_of_lt_of_le ha v2
   have hal:a<v.2.2.length:=by rw[v1.len];exact hav
   have hb:=v1.bound h4 hO.types
   have hwl:=v1.wl _ (ygh hal)
   have g2:decide ((a:Int)<(v.2.2.length:Int))=true:=by simp;omega
   have g3:decide ((v.2.2[a]).length<=LIM)=true:=by(have:=hBM;simp only[yhr,yhs,yht,List.length_map,yhc,yhb];omega)
   have g4:decide ((v.2.2[a]).length+1<=LIM)=true:=by(have:=hBM;simp only[yhr,yhs,yht,List.length_map,yhc,yhb];omega)
   have g5:decide (v.2.1.length+1<=LIM)=true:=by(have:=hBM;simp only[yhr,yhs,yht,List.length_map,yhc,yhb];omega)
   have g6:decide (v.2.2.length+1<=LIM)=true:=by have:=v1.len;(have:=hBM;simp only[yhr,yhs,yht,List.length_map,yhc,yhb];omega)
   simp only[zaS hj,zaE,zaj hj,zaf,zag,zac,h3,g2,zaj hal,g3,g4,he,zwC hp hi,ztj,zFq (Nat.le_trans hb (by decide)),zDE,List.length_singleton,g5,g6,Bool.and_self]
   unfold zfV
   rw[ygb hal,Option.getD_some]
   generalize t.fields[j]=f at *
   cases f.hidden with
   | true=>rfl
   | false =>
    simp only[zae,cond_false]
    cases decide (ziv ps ps[i] i w.2.1[a].type f.name<0)with
    | true =>
     simp only[zaf,cond_true,zDF]
     cases decide (0<v.1.length)<;>rfl
    | false =>
     simp only[zae,cond_false]
     cases zsj f.of with
     | true=>rfl
     | false =>
      simp only[Bool.not_false,zaf,zac,Bool.true_and]
      cases v.2.1.any (fun s=>s.part==ziv ps ps[i] i w.2.1[a].type f.name&&(s.type==f.of&&true))<;>rfl
  ·simp only[zaq,zae,List.take_length]
end Go.Fw
namespace Go.Fw
open Go
set_option linter.unusedSimpArgs false
set_option linter.unusedVariables false
def WW(ps:List Part)(all:Part):Nat->WS
 | 0=>([],[⟨0,qW⟩],[[]])
 | k+1=>goM ps all k (WW ps all k)
theorem zt4{ps:List Part}{all:Part}(hp0:0<ps.length)(hO:OkP all):∀(k:Nat),(∀j,j<k->j<(WW ps all j).2.1.length)->WI ps all (WW ps all k)/\0<(WW ps all k).2.1.length
 | 0,_=>by
  refine⟨⟨rfl,fun s hs=>?_,by simp[WW],fun l hl=>?_,by simp[WW]⟩,by simp[WW]⟩
  ·simp only[WW,List.mem_singleton]at hs
   subst hs
   refine⟨⟨0,hp0,rfl⟩,?_⟩
   have:=hO.root
   unfold noRoot at this
   cases hT:all.types with
   | nil=>rw[hT]at this;cases this
   | cons t ts =>
    rw[hT]at this
    simp only[Bool.or_eq_false_iff,yhh]at this
    refine⟨t,?_⟩
    unfold tyM
    rw[hT,List.find?_cons]
    have h2:(t.name==qW)=true:=by simpa using this.1
    show(match(t.name==qW)with|true=>_|false=>_)=_
    rw[h2]
  ·simp only[WW,List.mem_singleton]at hl
   subst hl
   simp[WW]
 | k+1,h=>by
  obtain⟨h1,h2⟩:=zt4 hp0 hO k fun j hj=>h j (by omega)
  have h3:=zEu hO h1 (h k (by omega))
  exact⟨h3.1,Nat.lt_of_lt_of_le h2 h3.2⟩
theorem zF9{ps:List Part}{all:Part}(hp0:0<ps.length)(h4:ps.length<=4)(hO:OkP all):∃N,(WW ps all N).2.1.length<=N/\N<=20/\∀k,k<N->k<(WW ps all k).2.1.length:=by
 have:∀m,m<=21->(∃N,(WW ps all N).2.1.length<=N/\N<=20/\∀k,k<N->k<(WW ps all k).2.1.length)\/∀k,k<m->k<(WW ps all k).2.1.length:=by
  intro m
  induction m with
  | zero=>intro _;exact .inr fun k hk=>by omega
  | succ m ih =>
   intro hm
   rcases ih (by omega)with h|h
   ·exact .inl h
   ·by_cases hc:m<(WW ps all m).2.1.length
    ·refine .inr fun k hk=>?_
     by_cases hkm:k=m
     ·subst hkm;exact hc
     ·exact h k (by omega)
    ·exact .inl ⟨m,by omega,by omega,h⟩
 rcases this 21 (Nat.le_refl _)with h|h
 ·exact h
 ·have h1:=(zt4 hp0 hO 20 fun j hj=>h j (by omega)).1.bound h4 hO.types
  have h2:=h 20 (by omega)
  omega
theorem zwA{ps:List Part}{all:Part}(hp:KL KK ps)(h4:ps.length<=4)(hA:KP KK all)(hO:OkP all)(hp0:0<ps.length){N:Nat}(hN:(WW ps all N).2.1.length<=N)(h20:N<=20)(hk:∀k,k<N->k<(WW ps all k).2.1.length):znM (ps,all)=some (WW ps all N):=by
 rw[zrM];unfold zpM;dsimp only
 rw[zeV (s0:=((0:Int),([]:List SB),([{part:=0,type:=[113,117,101,114,121]:Stt}]:List Stt),([[]]:List (List SB)))) N (fun k=>((k:Int),(WW ps all k).1,(WW ps all k).2.1,(WW ps all k).2.2)) ((N:Int),(WW ps all N).1,(WW ps all N).2.1,(WW ps all N).2.2) rfl ?_ ?_]
 ·intro k hkN
  have hi:=(zt4 hp0 hO k fun j hj=>hk j (by omega)).1
  have hlt:=hk k hkN
  have h3:zaF ((k:Int)+1)=true:=zi5 (by omega) (by omega)
  simp only[zaS hlt,zaf,zBI hp h4 hA hO hi hlt,zac,h3,zag]
  rfl
 ·have:decide ((N:Int)<((WW ps all N).2.1.length:Int))=false:=by simp;omega
  simp only[this,zae]
theorem zCc{w:List SB}{s:SB}(h:w.length<=1000):zj3 (w,s)=some (w++[s]):=by
 rw[zoD];unfold zjO;dsimp only
 have:zaJ w=some w:=by
  rw[zbK]
  unfold zaI
  have:decide (w.length*16<=140737488355328)=true:=by simp;omega
  rw[this];rfl
 rw[this,zac]
 (rw[zdN];rotate_left;(have:=hBM;simp only[yhr,yhs,yht,List.length_map,yhc,yhb];omega))
def flg(w:WS):Bool:=!decide (0<w.1.length)
theorem zCQ{ps:List Part}{i:Nat}{n f:SB}(hi:i<ps.length):(ziv ps ps[i] i n f== -1)=decide (ziv ps ps[i] i n f<0):=by
 rcases zpE (n:=n) (f:=f) hi with h|⟨k,_,h⟩
 ·rw[h];rfl
 ·rw[h,zlQ]
  have h2:¬(k:Int)= -1:=by omega
  simp
theorem zuJ{fl:Fleet}(hp:KL KK fl.parts)(h4:fl.parts.length<=4)(hA:KP KK fl.chart.all)(hO:OkP fl.chart.all)(hp0:0<fl.parts.length){N:Nat}(hN:(WW fl.parts fl.chart.all N).2.1.length<=N)(h20:N<=20)(hk:∀k,k<N->k<(WW fl.parts fl.chart.all k).2.1.length):
  zc2 fl=some ((WW fl.parts fl.chart.all N).2.1,(WW fl.parts fl.chart.all N).1,flg (WW fl.parts fl.chart.all N)):=by
 rw[zhx];unfold zcX
 rw[zeV (s0:=(([]:List SB),true,(0:Int),([{part:=0,type:=[113,117,101,114,121]:Stt}]:List Stt),([[]]:List (List SB)))) N (fun k=>((WW fl.parts fl.chart.all k).1,flg (WW fl.parts fl.chart.all k),(k:Int),(WW fl.parts fl.chart.all k).2.1,(WW fl.parts fl.chart.all k).2.2)) ((WW fl.parts fl.chart.all N).1,flg (WW fl.parts fl.chart.all N),(N:Int),(WW fl.parts fl.chart.all N).2.1,(WW fl.parts fl.chart.all N).2.2) rfl ?_ ?_]
 ·intro a haN
  have hw:=(zt4 hp0 hO a fun j hj=>hk j (by omega)).1
  have ha:=hk a haN
  have h5:zaF ((a:Int)+1)=true:=zi5 (by omega) (by omega)
  have hsucc:WW fl.parts fl.chart.all (a+1)=goM fl.parts fl.chart.all a (WW fl.parts fl.chart.all a):=rfl
  rw[hsucc]
  generalize WW fl.parts fl.chart.all a=w at *
  unfold goM
  rw[ygb ha]
  obtain⟨⟨i,hi,he⟩,t,ht⟩:=hw.st _ (ygh ha)
  have hti:w.2.1[a].part.toNat=i:=by rw[he];exact Int.toNat_natCast i
  have g1:(decide (0<=(a:Int))&&decide ((a:Int)<(w.2.1.length:Int)))=true:=by simp;omega
  have hfd:zaQ (⟨fl.chart.all.name,fl.chart.all.types⟩,w.2.1[a].type)=some (t,true):=by
   rw[show(⟨fl.chart.all.name,fl.chart.all.types⟩:Part)=fl.chart.all from rfl,zn5 (up hA.2.1),ht]
   rfl
  simp only[zaS ha,zaf,g1,zag,zaj ha,zac,hfd,hti,ygb hi,ht]
  have htm:=(zjd ht).1
  have hft:=(hA.2.2 t htm).2.2.1
  have hinv:=fun j=>zpy (ps:=fl.parts) (all:=fl.chart.all) (fr:=fl.parts[i]) (i:=i) (a:=a) (n:=w.2.1[a].type) (fun f=>zpE hi) (t.fields.take j) w (fun f hf=>zEN hO htm f (List.mem_of_mem_take hf)) hw ha
  rw[zeV (s0:=(w.1,flg w,(0:Int),w.2.1,w.2.2)) t.fields.length (fun j=>(((t.fields.take j).foldl (zfV fl.parts fl.parts[i] i a w.2.1[a].type) w).1,flg ((t.fields.take j).foldl (zfV fl.parts fl.parts[i] i a w.2.1[a].type) w),(j:Int),((t.fields.take j).foldl (zfV fl.parts fl.parts[i] i a w.2.1[a].type) w).2.1,((t.fields.take j).foldl (zfV fl.parts fl.parts[i] i a w.2.1[a].type) w).2.2)) ((t.fields.foldl (zfV fl.parts fl.parts[i] i a w.2.1[a].type) w).1,flg (t.fields.foldl (zfV fl.parts fl.parts[i] i a w.2.1[a].type) w),(t.fields.length:Int),(t.fields.foldl (zfV fl.parts fl.parts[i] i a w.2.1[a].type) w).2.1,(t.fields.foldl (zfV fl.parts fl.parts[i] i a w.2.1[a].type) w).2.2) rfl ?_ ?_]
  ·simp only[h5,zag]
   rfl
  ·intro j hj
   have h3:=zap hj (up hft)
   rw[zir hj]
   obtain⟨v1,v2,v3⟩:=hinv j
   have v4:=v3 a ha
   generalize(t.fields.take j).foldl (zfV fl.parts fl.parts[i] i a w.2.1[a].type) w=v at *
   have hav:a<v.2.1.length:=Nat.lt_of_lt_of_le ha v2
   have hal:a<v.2.2.length:=by rw[v1.len];exact hav
   have v5:v.2.1[a]=w.2.1[a]:=by
    rw[ygb hav,ygb ha]at v4
    exact Option.some.inj v4
   have hb:=v1.bound h4 hO.types
   have hwl:=v1.wl _ (ygh hal)
   have g2:decide ((a:Int)<(v.2.2.length:Int))=true:=by simp;omega
   have g2':decide ((a:Int)<(v.2.1.length:Int))=true:=by simp;omega
   have g5:decide (v.2.1.length+1<=LIM)=true:=by(have:=hBM;simp only[yhr,yhs,yht,List.length_map,yhc,yhb];omega)
   have g6:decide (v.2.2.length+1<=LIM)=true:=by have:=v1.len;(have:=hBM;simp only[yhr,yhs,yht,List.length_map,yhc,yhb];omega)
   simp only[zaS hj,zaE,zaj hj,zaf,zag,zac,h3,g2,g2',zaj hal,zaj hav,v5,he,zH9 hp hi,zqL,zui (Nat.le_trans hb (by decide)),zCc (show v.2.2[a].length<=1000 by omega),List.length_singleton,g5,g6,Bool.and_self,zCQ hi,bne]
   unfold zfV
   rw[ygb hal,Option.getD_some]
   generalize t.fields[j]=f at *
   cases f.hidden with
   | true=>rfl
   | false =>
    simp only[zae,cond_false]
    cases decide (ziv fl.parts fl.parts[i] i w.2.1[a].type f.name<0)with
    | true =>
     simp only[zaf,cond_true,Bool.not_true,zae,zac]
     unfold flg
     cases hb0:decide (0<v.1.length)with
     | true=>simp[zab,zaa,hb0]
     | false=>simp[zab,zaa]
    | false =>
     simp only[zae,cond_false,Bool.not_false,zaf,zac]
     cases zsj f.of with
     | true=>rfl
     | false =>
      simp only[Bool.not_false,zaf,zac,Bool.true_and]
      cases v.2.1.any (fun s=>s.part==ziv fl.parts fl.parts[i] i w.2.1[a].type f.name&&(s.type==f.of&&true))<;>rfl
  ·simp only[zaq,zae,List.take_length]
 ·have:decide ((N:Int)<((WW fl.parts fl.chart.all N).2.1.length:Int))=false:=by simp;omega
  simp only[this,zae]
theorem zwr{ps:List Part}(hp:KL KK ps):∃b l1 l2,zj2 ps=some (b,l1)/\zgQ ps=some (b,l2):=by
 obtain⟨r,e1,e2,e3⟩:=zkP hp
 obtain⟨r',f1,f2,f3⟩:=zkv hp
 rw[zoC,zlz]
 unfold zjN zgC
 have hfl:zgT ps=some (⟨ps,r'.1⟩,r'.2.code==0):=by
  rw[zlA];unfold zgD
  rw[f1];rfl
 rw[e1,hfl]
 simp only[zac,bne,e2,f2]
 cases hc:zo8 ps with
 | false=>exact⟨_,_,_,rfl,rfl⟩
 | true =>
  have hc':=hc
  unfold zo8 at hc'
  simp only[yhb,yhe]at hc'
  have hpre:=(zpG.1.1 hc'.1).1
  have hsm:=hpre.sm hp
  have hK:=zxc hsm hp
  have hO:=OkP.of hc'.2
  obtain⟨N,n1,n2,n3⟩:=zF9 (all:=zpt ps) hpre.1 hpre.2.1 hO
  have s1:=zwA hp hpre.2.1 hK hO hpre.1 n1 n2 n3
  have hr:=e3 hc
  have hr':=f3 hc
  have s2:=zuJ (fl:=⟨ps,r'.1⟩) hp hpre.2.1 (by rw[hr'];exact hK) (by rw[hr'];exact hO) hpre.1 (N:=N) (by rw[hr'];exact n1) n2 (by rw[hr'];exact n3)
  have s1':znM (ps,⟨r.1.all.name,r.1.all.types⟩)=some (WW ps (zpt ps) N):=by
   rw[hr];exact s1
  have hw:=(zt4 hpre.1 hO N n3).1
  have hb:=hw.bound hpre.2.1 hO.types
  have hbl:=hw.bl
  have g:decide ((WW ps (zpt ps) N).1.length<=LIM)=true:=by(have:=hBM;simp only[yhr,yhs,yht,List.length_map,yhc,yhb];omega)
  simp only[Bool.not_true,zae,s1',zac,g,zag]
  refine⟨_,_,(WW ps (zpt ps) N).1,rfl,?_⟩
  dsimp only at s2
  rw[hr']at s2
  rw[s2,zac]
  dsimp only
  unfold flg
  rw[zDF]
end Go.Fw
namespace Go.Fw
open Go
set_option linter.unusedSimpArgs false
set_option linter.unusedVariables false
def brk(n:Part)(nm:SB)(f:Field):Bool:=!f.hidden&&match zhq n nm f.name with
 | none=>true
 | some g=>g.hidden ||(g.of !=f.of ||g.list !=f.list)
def brF(n:Part)(t:Typ)(f:Field):List SB:=bif brk n t.name f then[t.name++[46]++f.name]else[]
def brT(n:Part)(t:Typ):List SB:=t.fields.flatMap (brF n t)
theorem zDt(n:Part)(nm:SB)(f:Field):(zab (!f.hidden) (zab (!(zhq n nm f.name).isSome) (some true) (zab ((zhq n nm f.name).getD fd0).hidden (some true) (zab (((zhq n nm f.name).getD fd0).of !=f.of) (some true) (some (((zhq n nm f.name).getD fd0).list !=f.list))))) (some false))=some (brk n nm f):=by
 unfold brk
 cases f.hidden with
 | true=>rfl
 | false =>
  cases zhq n nm f.name with
  | none=>rfl
  | some g =>
   simp only[Option.isSome_some,Option.getD_some]
   cases g.hidden<;>cases(g.of !=f.of)<;>cases(g.list !=f.list)<;>rfl
theorem zvw(n:Part)(t:Typ)(l:List Field):(l.flatMap (brF n t)).length<=l.length:=by
 induction l with
 | nil=>simp
 | cons f l ih =>
  simp only[List.flatMap_cons,yhr,yhs]
  have:(brF n t f).length<=1:=by unfold brF;cases brk n t.name f<;>simp
  omega
theorem zzV(n:Part)(l:List Typ)(h:∀t∈l,t.fields.length<=8):(l.flatMap (brT n)).length<=8*l.length:=by
 induction l with
 | nil=>simp
 | cons t l ih =>
  simp only[List.flatMap_cons,yhr,yhs]
  have h1:(brT n t).length<=8:=Nat.le_trans (zvw n t t.fields) (h t (by simp))
  have h2:=ih fun u hu=>h u (by simp[hu])
  omega
theorem zyi{α:Type}(l:List α)(i n:Nat)(h:l.length<=n):(l.take i).length<=n:=Nat.le_trans (by rw[List.length_take];exact Nat.min_le_right _ _) h
theorem ztm{o n:Part}(ho:KP KK o)(hn:KP KK n)(ko:OkP o)(eo:okP o=true)(en:okP n=true):zd5 (o,n)=some (o.types.flatMap (brT n)):=by
 rw[zj1];unfold zfz;dsimp only
 have e1:((pcM o).code !=0)=false:=by
  have:((pcM o).code !=0)= !okP o:=rfl
  rw[this,eo];rfl
 have e2:((pcM n).code !=0)=false:=by
  have:((pcM n).code !=0)= !okP n:=rfl
  rw[this,en];rfl
 have h8:∀t∈o.types,t.fields.length<=8/\t.name.length<=8/\∀f∈t.fields,f.name.length<=8:=fun t ht =>
  have w:=Wt.mk' (ho.2.2 t ht) (ko.type t ht).line
  ⟨w.fields,w.name,fun f hf=>(w.field f hf).name⟩
 simp only[zhJ ho,zhJ hn,zac,e1,e2,zae]
 rw[zeV (s0:=((0:Int),([]:List SB))) o.types.length (fun i=>((i:Int),(o.types.take i).flatMap (brT n))) ((o.types.length:Int),o.types.flatMap (brT n)) rfl ?_ ?_]
 ·intro i hi
  have h3:=zap hi (up ho.2.1)
  obtain⟨b1,b2,b3⟩:=h8 _ (ygh hi)
  have l1:=zzV n (o.types.take i) fun t ht=>(h8 t (List.mem_of_mem_take ht)).1
  have l2:=zyi o.types i 5 ko.types
  simp only[zaS hi,zaf]
  rw[zeV (s0:=((0:Int),(o.types.take i).flatMap (brT n))) o.types[i].fields.length (fun j=>((j:Int),(o.types.take i).flatMap (brT n)++(o.types[i].fields.take j).flatMap (brF n o.types[i]))) ((o.types[i].fields.length:Int),(o.types.take i).flatMap (brT n)++brT n o.types[i]) (by simp) ?_ ?_]
  ·simp only[h3,zag]
   rw[zk8 hi]
   rfl
  ·intro j hj
   have h4:=zap hj (up (Nat.le_trans b1 (by decide)))
   have l3:=zvw n o.types[i] (o.types[i].fields.take j)
   have l4:=zyi o.types[i].fields j 8 b1
   have l5:=b3 _ (ygh hj)
   simp only[zaE,zaj hi,zaS hj,zaj hj,zaf,zag,zac,zfp hn,zDt,h4]
   (rw[zdN];rotate_left;(have:=hBM;simp only[yhr,yhs,yht,List.length_map,yhc,yhb];omega))
   (rw[zdN];rotate_left;(have:=hBM;simp only[yhr,yhs,yht,List.length_map,yhc,yhb];omega))
   (rw[zdN];rotate_left;(have:=hBM;simp only[yhr,yhs,yht,List.length_map,yhc,yhb];omega))
   rw[zk8 hj]
   unfold brF
   cases brk n o.types[i].name o.types[i].fields[j]<;>simp[zab,zaa]
  ·simp only[zaE,zaj hi,zaq,zae,zag,zac,List.take_length]
   rfl
 ·simp only[zaq,zae,List.take_length]
theorem zsB{o n:Part}(ho:KP KK o)(hn:KP KK n)(ko:OkP o)(eo:okP o=true)(en:okP n=true):zcK (o,n)=some (o.types.flatMap (brT n)):=by
 rw[zh7];unfold zdB;dsimp only
 have h8:∀t∈o.types,t.fields.length<=8/\t.name.length<=8/\∀f∈t.fields,f.name.length<=8:=fun t ht =>
  have w:=Wt.mk' (ho.2.2 t ht) (ko.type t ht).line
  ⟨w.fields,w.name,fun f hf=>(w.field f hf).name⟩
 simp only[znz ho,znz hn,zac,eo,en,Bool.not_true,zae]
 rw[zeV (s0:=((0:Int),([]:List SB))) o.types.length (fun i=>((i:Int),(o.types.take i).flatMap (brT n))) ((o.types.length:Int),o.types.flatMap (brT n)) rfl ?_ ?_]
 ·intro i hi
  have h3:=zap hi (up ho.2.1)
  obtain⟨b1,b2,b3⟩:=h8 _ (ygh hi)
  have l1:=zzV n (o.types.take i) fun t ht=>(h8 t (List.mem_of_mem_take ht)).1
  have l2:=zyi o.types i 5 ko.types
  simp only[zaS hi,zaf,zaE,zaj hi,zag,zac]
  rw[zeV (s0:=((0:Int),(o.types.take i).flatMap (brT n))) o.types[i].fields.length (fun j=>((j:Int),(o.types.take i).flatMap (brT n)++(o.types[i].fields.take j).flatMap (brF n o.types[i]))) ((o.types[i].fields.length:Int),(o.types.take i).flatMap (brT n)++brT n o.types[i]) (by simp) ?_ ?_]
  ·simp only[h3,zag]
   rw[zk8 hi]
   rfl
  ·intro j hj
   have h4:=zap hj (up (Nat.le_trans b1 (by decide)))
   have l3:=zvw n o.types[i] (o.types[i].fields.take j)
   have l4:=zyi o.types[i].fields j 8 b1
   have l5:=b3 _ (ygh hj)
   simp only[zaE,zaS hj,zaj hj,zaf,zag,zac,zee hn,zDt,h4]
   (rw[zdN];rotate_left;(have:=hBM;simp only[yhr,yhs,yht,List.length_map,yhc,yhb];omega))
   (rw[zdN];rotate_left;(have:=hBM;simp only[yhr,yhs,yht,List.length_map,yhc,yhb];omega))
   (rw[zdN];rotate_left;(have:=hBM;simp only[yhr,yhs,yht,List.length_map,yhc,yhb];omega))
   rw[zk8 hj]
   unfold brF
   cases brk n o.types[i].name o.types[i].fields[j]<;>simp[zab,zaa]
  ·simp only[zaq,zae,List.take_length]
   rfl
 ·simp only[zaq,zae,List.take_length]
theorem zy6{o n:List Part}(ho:KL KK o)(hn:KL KK n):∃r,ze3 (o,n)=some r/\zdk (o,n)=some r:=by
 obtain⟨a,a1,a2,a3⟩:=zkP ho
 obtain⟨a',b1,b2,b3⟩:=zkv ho
 obtain⟨c,c1,c2,c3⟩:=zkP hn
 obtain⟨c',d1,d2,d3⟩:=zkv hn
 obtain⟨b,l1,l2,r1,r2⟩:=zwr hn
 rw[zlx,zji]
 unfold zgA zei
 simp only[a1,b1,c1,d1,r1,r2,zac,a2,b2,c2,d2]
 cases ha:zo8 o with
 | false=>exact⟨_,rfl,rfl⟩
 | true =>
  cases hc:zo8 n with
  | false=>exact⟨_,rfl,rfl⟩
  | true =>
   cases b with
   | false=>exact⟨_,rfl,rfl⟩
   | true =>
    have ko:∀{ps:List Part},KL KK ps->zo8 ps=true->KP KK (zpt ps)/\okP (zpt ps)=true:=by
     intro ps hp h
     unfold zo8 at h
     simp only[yhb,yhe]at h
     exact⟨zxc ((zpG.1.1 h.1).1.sm hp) hp,h.2⟩
    obtain⟨o1,o2⟩:=ko ho ha
    obtain⟨n1,n2⟩:=ko hn hc
    have s1:=ztm o1 n1 (.of o2) o2 n2
    have s2:=zsB o1 n1 (.of o2) o2 n2
    have e1:=a3 ha
    have e2:=b3 ha
    have e3:=c3 hc
    have e4:=d3 hc
    have g1:zd5 (⟨a.1.all.name,a.1.all.types⟩,⟨c.1.all.name,c.1.all.types⟩)=some ((zpt o).types.flatMap (brT (zpt n))):=by rw[e1,e3];exact s1
    have g2:zcK (⟨a'.1.all.name,a'.1.all.types⟩,⟨c'.1.all.name,c'.1.all.types⟩)=some ((zpt o).types.flatMap (brT (zpt n))):=by rw[e2,e4];exact s2
    rw[g1,g2]
    exact⟨_,rfl,rfl⟩
theorem zxP{o n:List Part}(ho:KL BIG o)(hn:KL BIG n):zbw (o,n)=some true:=zHr ho hn fun h1 h2=>zy6 h1 h2
end Go.Fw
