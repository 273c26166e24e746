/- A part of the proof: what stands for the program, its functions, and what they come to. -/
import Derived.Test.YtokndaldhjmdeaaGreatM6
set_option linter.all false
namespace Go.Fw
open Go
set_option linter.unusedSimpArgs false
set_option linter.unusedVariables false
theorem zHp(i:Nat):decide ((i:Int)>=0)=true:=by simp
theorem zq9(i:Nat):decide ((i:Int)<0)=false:=by simp
theorem zkL{p:Part}{n f:List UInt8}(hp:KP KK p):zgI (p,n,f)=some ((zhA p n f).getD fd0,(zhA p n f).isSome):=by
 rw[zqQ];unfold zoU;dsimp only
 rw[zg3 (up hp.2.1),zac]
 unfold zhA tyM
 rcases zcf (fun t:Typ=>t.name==n) p.types with⟨h1,h2,_⟩|⟨i,hi,h1,h2,_,_⟩
 ·rw[h1,h2];rfl
 ·rw[h1,h2,zq9,zae,zaE,zag,zal hi,zac,zfJ (up (hp.2.2 _ (ygh hi)).2.2.1),zac]
  show _=some ((fdM p.types[i] f).getD fd0,(fdM p.types[i] f).isSome)
  unfold fdM
  rcases zcf (fun t:Field=>t.name==f) p.types[i].fields with⟨g1,g2,_⟩|⟨j,hj,g1,g2,_,_⟩
  ·rw[g1,g2];rfl
  ·rw[g1,g2,zq9,zae]
   simp only[zaE,zag,zac,zal hj]
   rfl
theorem zsw{p:Part}{n:List UInt8}{t:Typ}(h:tyM p n=some t):t∈p.types/\t.name=n:=by
 unfold tyM at h
 exact⟨List.mem_of_find?_eq_some h,by simpa using List.find?_some h⟩
theorem zzz{t:Typ}{n:List UInt8}{f:Field}(h:fdM t n=some f):f∈t.fields/\f.name=n:=by
 unfold fdM at h
 exact⟨List.mem_of_find?_eq_some h,by simpa using List.find?_some h⟩
theorem zmG{p:Part}{n f:List UInt8}{g:Field}(h:zhA p n f=some g):∃t∈p.types,t.name=n/\tyM p n=some t/\g∈t.fields/\g.name=f/\fdM t f=some g:=by
 unfold zhA at h
 cases ht:tyM p n with
 | none=>rw[ht]at h;cases h
 | some t =>
  rw[ht]at h
  exact⟨t,(zsw ht).1,(zsw ht).2,rfl,(zzz h).1,(zzz h).2,h⟩
theorem zoh{p:Part}{n f:List UInt8}(hp:KP KK p):zcH (p,n,f)=some ((zhA p n f).getD fd0,(zhA p n f).isSome):=by
 rw[zhT];unfold zdu;dsimp only
 rw[zrH (up hp.2.1),zac]
 unfold zhA
 cases ht:tyM p n with
 | none =>
  simp only[Option.getD_none,Option.isSome_none,Option.bind_none]
  rw[show zbq (⟨ty0.name,ty0.key,ty0.fields⟩,f)=some (fd0,false)from by
   rw[zoJ (by show([]:List Field).length<=_;simp)];rfl]
  rfl
 | some t =>
  simp only[Option.getD_some,Option.isSome_some,Option.bind_some]
  rw[show zbq (⟨t.name,t.key,t.fields⟩,f)=some ((fdM t f).getD fd0,(fdM t f).isSome)from
   zoJ (up (hp.2.2 _ (zsw ht).1).2.2.1)]
  rfl
def zpG(ps:List Part)(n:List UInt8):List UInt8:=(ps.findSome? fun p=>match tyM p n with
 | some t=>bif t.key !=[]then some t.key else none
 | none=>none).getD []
theorem zlV{ps:List Part}{n:List UInt8}(hp:KL KK ps):zlm (ps,n)=some (zpG ps n):=by
 rw[zqT];unfold zoX;dsimp only
 unfold zpG
 rw[zdK (s0:=(0:Int)) ps (fun i=>(i:Int)) (ps.length:Int) (fun _ p=>match tyM p n with
  | some t=>bif t.key !=[]then some t.key else none
  | none=>none) rfl ?_ ?_]
 ·rw[zoN]
  cases ps.findSome? _<;>rfl
 ·intro i hi
  have h3:=zar hi (up hp.1)
  have hq:=hp.2 _ (ygh hi)
  simp only[zaO hi,zaE,zal hi,zaf,zag,zac,h3,zg3 (up hq.2.1)]
  unfold tyM
  rcases zcf (fun t:Typ=>t.name==n) ps[i].types with⟨h1,h2,_⟩|⟨k,hk,h1,h2,_,_⟩
  ·rw[h1,h2];rfl
  ·rw[h1,h2]
   simp only[zHp,zaf,zaE,zag,zal hk,zac]
   cases(ps[i].types[k].key !=[])<;>rfl
 ·simp only[zap,zae]
theorem zlH{ps:List Part}{n:List UInt8}(hp:KL KK ps):zgG (ps,n)=some (zpG ps n):=by
 rw[znY];unfold zjn;dsimp only
 unfold zpG
 rw[zdK (s0:=(0:Int)) ps (fun i=>(i:Int)) (ps.length:Int) (fun _ p=>match tyM p n with
  | some t=>bif t.key !=[]then some t.key else none
  | none=>none) rfl ?_ ?_]
 ·rw[zoN]
  cases ps.findSome? _<;>rfl
 ·intro i hi
  have h3:=zar hi (up hp.1)
  have hq:=hp.2 _ (ygh hi)
  simp only[zaO hi,zaE,zal hi,zaf,zag,zac,h3,zrH (up hq.2.1)]
  cases tyM ps[i] n with
  | none=>rfl
  | some t =>
   simp only[Option.getD_some]
   cases(t.key !=[])<;>rfl
 ·simp only[zap,zae]
def zmN(n f:List UInt8)(p:Part):Bool:=match zhA p n f with
 | some g=>!g.far
 | none=>false
def zcm(n f:List UInt8):Nat->List Part->List Int
 | _,[]=>[]
 | i,p:: ps=>(bif zmN n f p then[(i:Int)]else[])++zcm n f (i+1) ps
theorem zt1(n f:List UInt8)(ps:List Part)(k i:Nat)(h:i<ps.length):zcm n f k (ps.take (i+1))=zcm n f k (ps.take i)++(bif zmN n f ps[i]then[((k+i:Nat):Int)]else[]):=by
 induction ps generalizing k i with
 | nil=>simp at h
 | cons p ps ih =>
  cases i with
  | zero=>simp[zcm]
  | succ i =>
   simp only[List.take_succ_cons,zcm,List.getElem_cons_succ]
   rw[ih (k+1) i (by simpa using h),List.append_assoc,show k+1+i=k+(i+1) by omega]
theorem zmU(n f:List UInt8)(ps:List Part)(k:Nat):(zcm n f k ps).length<=ps.length:=by
 induction ps generalizing k with
 | nil=>simp[zcm]
 | cons p ps ih =>
  simp only[zcm,yhr,yhs]
  have:=ih (k+1)
  cases zmN n f p<;>simp<;>omega
theorem zpT(n f:List UInt8)(ps:List Part)(i:Nat)(h:ps.length<=KK):(zcm n f 0 (ps.take i)).length<=KK:=by
 refine Nat.le_trans (zmU _ _ _ _) (Nat.le_trans ?_ h)
 rw[List.length_take]
 exact Nat.min_le_right _ _
theorem zwO(n f:List UInt8)(p:Part):(zab (zhA p n f).isSome (some !((zhA p n f).getD fd0).far) (some false))=some (zmN n f p):=by
 unfold zmN
 cases zhA p n f<;>rfl
theorem znQ{ps:List Part}{n f:List UInt8}(hp:KL KK ps):zeR (ps,n,f)=some (zcm n f 0 ps):=by
 rw[zmh];unfold zhJ;dsimp only
 have hk:KK=1048576:=rfl
 rw[zeH (s0:=((0:Int),([]:List Int))) ps.length (fun i=>((i:Int),zcm n f 0 (ps.take i))) ((ps.length:Int),zcm n f 0 ps) rfl ?_ ?_]
 ·intro i hi
  have h3:=zar hi (up hp.1)
  have l1:=zpT n f ps i hp.1
  simp only[zaO hi,zaE,zal hi,zaf,zag,zac,h3,zkL (hp.2 _ (ygh hi)),zwO]
  rw[zt1 _ _ _ _ _ hi]
  (rw[zdI];rotate_left;(have:=hBM;simp only[yhr,yhs,yht,List.length_map,yhc,yhb];omega))
  rw[Nat.zero_add]
  cases zmN n f ps[i]<;>simp[zab,zac]
 ·simp only[zap,zae,List.take_length]
theorem zrf{ps:List Part}{n f:List UInt8}(hp:KL KK ps):zeP (ps,n,f)=some (zcm n f 0 ps):=by
 rw[zk0];unfold zgr;dsimp only
 have hk:KK=1048576:=rfl
 rw[zeH (s0:=((0:Int),([]:List Int))) ps.length (fun i=>((i:Int),zcm n f 0 (ps.take i))) ((ps.length:Int),zcm n f 0 ps) rfl ?_ ?_]
 ·intro i hi
  have h3:=zar hi (up hp.1)
  have l1:=zpT n f ps i hp.1
  simp only[zaO hi,zaE,zal hi,zaf,zag,zac,h3,zoh (hp.2 _ (ygh hi)),zwO]
  rw[zt1 _ _ _ _ _ hi]
  (rw[zdI];rotate_left;(have:=hBM;simp only[yhr,yhs,yht,List.length_map,yhc,yhb];omega))
  rw[Nat.zero_add]
  cases zmN n f ps[i]<;>simp[zab,zac]
 ·simp only[zap,zae,List.take_length]
def zav(ps:List Part)(n f:List UInt8):List Field:=ps.filterMap fun p=>zhA p n f
theorem zrb{ps:List Part}{n f:List UInt8}{i:Nat}(h:i<ps.length):zav (ps.take (i+1)) n f=zav (ps.take i) n f++(match zhA ps[i] n f with
  | some g=>[g]
  | none=>[]):=by
 unfold zav
 rw[List.take_succ_eq_append_getElem h,List.filterMap_append]
 cases hg:zhA ps[i] n f<;>simp[hg]
theorem zh7(ps:List Part)(n f:List UInt8):(zav ps n f).length<=ps.length:=List.length_filterMap_le _ _
theorem zmE{ps:List Part}{n f:List UInt8}(hp:KL KK ps):zci (ps,n,f)=some (zav ps n f):=by
 rw[zjx];unfold zfm;dsimp only
 have hk:KK=1048576:=rfl
 rw[zeH (s0:=((0:Int),([]:List Field))) ps.length (fun i=>((i:Int),zav (ps.take i) n f)) ((ps.length:Int),zav ps n f) rfl ?_ ?_]
 ·intro i hi
  have h3:=zar hi (up hp.1)
  have l1:=zh7 (ps.take i) n f
  have l2:(ps.take i).length<=KK:=Nat.le_trans (by rw[List.length_take];exact Nat.min_le_right _ _) hp.1
  simp only[zaO hi,zaE,zal hi,zaf,zag,zac,h3,zoh (hp.2 _ (ygh hi))]
  rw[zrb hi]
  (rw[zdI];rotate_left;(have:=hBM;simp only[yhr,yhs,yht,List.length_map,yhc,yhb];omega))
  cases zhA ps[i] n f<;>simp[zab,zac]
 ·simp only[zap,zae,List.take_length]
def zdj(ps:List Part)(n f:List UInt8):List (List UInt8):=((zav ps n f).findSome? fun g=>bif decide (0<g.needs.length)then some g.needs else none).getD []
theorem znG{ps:List Part}{n f:List UInt8}(hp:KL KK ps):zdL (ps,n,f)=some (zdj ps n f):=by
 rw[zk1];unfold zgs;dsimp only
 rw[zmE hp,zac]
 unfold zdj
 have l1:=zh7 ps n f
 rw[zdK (s0:=(0:Int)) (zav ps n f) (fun i=>(i:Int)) ((zav ps n f).length:Int) (fun _ g=>bif decide (0<g.needs.length)then some g.needs else none) rfl ?_ ?_]
 ·rw[zoN]
  cases(zav ps n f).findSome? _<;>rfl
 ·intro i hi
  have h3:=zar hi (up (Nat.le_trans l1 hp.1))
  simp only[zaO hi,zaE,zal hi,zaf,zag,zac,h3,zoS]
  cases decide (0<(zav ps n f)[i].needs.length)<;>rfl
 ·simp only[zap,zae]
end Go.Fw
namespace Go.Fw
open Go
set_option linter.unusedSimpArgs false
set_option linter.unusedVariables false
theorem zpy{α Z γ:Type}(f:Nat->α->Option Z)(h:Z->γ)(xs:List α)(i:Nat):fsI (fun i x=>(f i x).map h) i xs=(fsI f i xs).map h:=by
 induction xs generalizing i with
 | nil=>rfl
 | cons x xs ih =>
  simp only[fsI]
  cases f i x with
  | some r=>rfl
  | none=>exact ih (i+1)
theorem zjX{α Z:Type}{f:Nat->α->Option Z}{xs:List α}{i:Nat}:fsI f i xs=none↔∀(j:Nat)(hj:j<xs.length),f (i+j) xs[j]=none:=by
 refine⟨zhi,fun h=>?_⟩
 induction xs generalizing i with
 | nil=>rfl
 | cons x xs ih =>
  have h0:=h 0 (by simp)
  simp only[Nat.add_zero,List.getElem_cons_zero]at h0
  simp only[fsI,h0]
  refine ih fun j hj=>?_
  have:=h (j+1) (by simpa using hj)
  rw[Nat.add_assoc,Nat.add_comm 1 j]
  exact this
theorem zjW{α Z:Type}{f:Nat->α->Option Z}{xs:List α}{i:Nat}{r:Z}(h:fsI f i xs=some r):∃(j:Nat)(hj:j<xs.length),f (i+j) xs[j]=some r:=by
 induction xs generalizing i with
 | nil=>cases h
 | cons x xs ih =>
  simp only[fsI]at h
  cases hx:f i x with
  | some r'=>rw[hx]at h;cases h;exact⟨0,by simp,hx⟩
  | none =>
   rw[hx]at h
   obtain⟨j,hj,e⟩:=ih h
   exact⟨j+1,by simpa using hj,by rw[show i+(j+1)=i+1+j by omega];exact e⟩
def zwd(f g:Field):Bool:=f.of==g.of&&(f.list==g.list&&f.must==g.must)
theorem zBe(f g:Field):zjG (f,g)=some (zwd f g):=by
 rw[zn4];unfold zjt;dsimp only
 unfold zwd
 cases(f.of==g.of)<;>cases(f.list==g.list)<;>rfl
def zyu(ps:List Part)(n:List UInt8)(f:Field):Bool:=(zav ps n f.name).any fun g=>!zwd f g
def zAV(ps:List Part)(t:Typ):List UInt8:=(t.fields.findSome? fun f=>bif zyu ps t.name f then some f.name else none).getD []
theorem zyv(g f:Field):zdY (g,f)=some (!zwd f g):=by
 rw[zjC];unfold zfp;dsimp only
 unfold zwd
 rw[BEq.comm (a:=f.of),BEq.comm (a:=f.list),BEq.comm (a:=f.must)]
 simp only[bne]
 cases(g.of==f.of)<;>cases(g.list==f.list)<;>cases(g.must==f.must)<;>rfl
theorem zAW{ps:List Part}{t:Typ}(hp:KL KK ps)(ht:KT KK t):zhY (ps,t)=some (zAV ps t):=by
 rw[zmc];unfold zhG;dsimp only
 unfold zAV
 rw[zdK (s0:=(0:Int)) t.fields (fun i=>(i:Int)) (t.fields.length:Int) (fun _ f=>bif zyu ps t.name f then some f.name else none) rfl ?_ ?_]
 ·rw[zoN]
  cases t.fields.findSome? _<;>rfl
 ·intro i hi
  have h3:=zar hi (up ht.2.2.1)
  have l1:=zh7 ps t.name t.fields[i].name
  have k:zeq (zav ps t.name t.fields[i].name,t.fields[i])=some (zyu ps t.name t.fields[i]):=by
   rw[zi0];unfold zec;dsimp only
   have h2:zet (zav ps t.name t.fields[i].name,t.fields[i])=some (ixM (fun g=>!zwd t.fields[i] g) (zav ps t.name t.fields[i].name)):=by
    rw[zi3];unfold zef;dsimp only
    exact ixf (g:=fun g=>zdY (g,t.fields[i])) _ (up (Nat.le_trans l1 hp.1)) (fun g _=>zyv g _)
   rw[h2,zac,zlh]
   rfl
  simp only[zaO hi,zaE,zal hi,zaf,zag,zac,h3,zmE hp,k]
  cases zyu ps t.name t.fields[i]<;>rfl
 ·simp only[zap,zae]
def needy(g:Field):Bool:=decide (0<g.needs.length)
theorem ztX(ps:List Part)(n f:List UInt8):decide (0<(zdj ps n f).length)=(zav ps n f).any needy:=by
 unfold zdj
 induction zav ps n f with
 | nil=>rfl
 | cons g gs ih =>
  rw[List.findSome?_cons,List.any_cons]
  unfold needy at ih|-
  cases hg:decide (0<g.needs.length)with
  | true=>simpa using hg
  | false=>simpa using ih
def zkQ(ps:List Part)(n f:List UInt8):Int:=
 bif !decide (0<(zcm n f 0 ps).length)then 6 else
 bif decide (1<(zcm n f 0 ps).length)&&(f !=zpG ps n&&decide ((zav ps n f).countP (·.shared)<(zcm n f 0 ps).length))then 5 else
 bif (decide (1<(zcm n f 0 ps).length)&&(zav ps n f).any needy) ||(zdj ps n f).any (fun x=>(zav ps n x).any needy)then 7 else 0
theorem zy1(n:Nat):decide ((n:Int)>1)=decide (1<n):=zqY n 1
theorem zCw(n m:Nat):decide ((n:Int)<(m:Int))=decide (n<m):=by
 by_cases h:n<m
 ·simp[h]
 ·simp[h]
theorem zBk{ps:List Part}{n f:List UInt8}(hp:KL KK ps):zen (ps,n,f)=some (zkQ ps n f):=by
 rw[ziY];unfold zea;dsimp only
 have hk:KK=1048576:=rfl
 rw[zrf hp,zac,zmE hp,zac]
 have l1:=zh7 ps n f
 have l2:=hp.1
 rw[zeH (s0:=((0:Int),(0:Int))) (zav ps n f).length (fun i=>((((zav ps n f).take i).countP (·.shared):Int),(i:Int))) (((zav ps n f).countP (·.shared):Int),((zav ps n f).length:Int)) (by simp) ?_ ?_]
 ·rw[znG hp,zac,zGc,zy1,zlH hp]
  dsimp only
  rw[zCw,zmP,ztX]
  have k:zbN (zdj ps n f,ps,n)=some ((zdj ps n f).any (fun x=>(zav ps n x).any needy)):=by
   rw[zgJ];unfold zcs;dsimp only
   have hnl:(zdj ps n f).length<=KK:=by
    unfold zdj
    cases hf:(zav ps n f).findSome? fun g=>bif decide (0<g.needs.length)then some g.needs else none with
    | none=>simp
    | some l =>
     obtain⟨g,hg,he⟩:=List.exists_of_findSome?_eq_some hf
     cases hz:decide (0<g.needs.length)with
     | false=>rw[hz]at he;cases he
     | true =>
      rw[hz]at he
      cases he
      unfold zav at hg
      obtain⟨p,hpm,hgp⟩:=List.mem_filterMap.1 hg
      obtain⟨t,ht,_,_,hgt,_⟩:=zmG hgp
      exact(((hp.2 p hpm).2.2 t ht).2.2.2 g hgt).2.2.1
   have h2:zcA (zdj ps n f,ps,n)=some (ixM (fun x=>(zav ps n x).any needy) (zdj ps n f)):=by
    rw[zgL];unfold zcu;dsimp only
    refine ixf (g:=fun x=>zcW (x,ps,n)) _ (up hnl) (fun x _=>?_)
    rw[zhd];unfold zcS;dsimp only
    rw[znG hp,zac,zmP,ztX]
   rw[h2,zac,zlh]
  rw[k]
  unfold zkQ
  simp only[bne,zac]
  cases decide (0<(zcm n f 0 ps).length)<;>cases decide (1<(zcm n f 0 ps).length)<;>cases(f==zpG ps n)<;>cases decide ((zav ps n f).countP (·.shared)<(zcm n f 0 ps).length)<;>cases(zav ps n f).any needy<;>cases(zdj ps n f).any (fun x=>(zav ps n x).any needy)<;>rfl
 ·intro i hi
  have h3:=zar hi (up (Nat.le_trans l1 hp.1))
  have hc:=List.countP_le_length (p:=fun g:Field=>g.shared) (l:=(zav ps n f).take i)
  have hc2:((zav ps n f).take i).length<=i:=by rw[List.length_take];exact Nat.min_le_left _ _
  have h4:zas ((((zav ps n f).take i).countP (·.shared):Int)+1)=true:=zbw (by omega) (by omega)
  simp only[zaO hi,zaE,zal hi,zaf,zag,zac,h3,h4]
  rw[List.take_succ_eq_append_getElem hi,List.countP_append,List.countP_singleton]
  cases(zav ps n f)[i].shared<;>simp[zab,zac]
 ·simp only[zap,zae,List.take_length]
def ztl(ps:List Part)(n x:List UInt8):Bool:=(zav ps n x).any needy
theorem zBq(ps:List Part)(n x:List UInt8):ztl ps n x=ps.any fun p=>match zhA p n x with
  | some g=>needy g
  | none=>false:=by
 unfold ztl zav
 induction ps with
 | nil=>rfl
 | cons p ps ih =>
  rw[List.filterMap_cons,List.any_cons]
  cases zhA p n x with
  | none=>simpa using ih
  | some g=>simp only[List.any_cons,ih]
theorem zEN(ps:List Part)(n:List UInt8)(f:Field):zyu ps n f=ps.any fun p=>match zhA p n f.name with
  | some g=>!zwd f g
  | none=>false:=by
 unfold zyu zav
 induction ps with
 | nil=>rfl
 | cons p ps ih =>
  rw[List.filterMap_cons,List.any_cons]
  cases zhA p n f.name with
  | none=>simpa using ih
  | some g=>simp only[List.any_cons,ih]
def zor(ps:List Part)(n:List UInt8)(f:Field):Int:=
 bif zyu ps n f then 3 else
 bif !decide (0<(zcm n f.name 0 ps).length)then 6 else
 bif decide (1<(zcm n f.name 0 ps).length)&&(f.name !=zpG ps n&&decide ((zav ps n f.name).countP (·.shared)<(zcm n f.name 0 ps).length))then 5 else
 bif decide (1<(zcm n f.name 0 ps).length)&&(zav ps n f.name).any needy then 7 else
 bif f.needs.any (ztl ps n)then 7 else 0
theorem zxt{α:Type}(q:α->Bool)(l:List α):decide (0<l.countP q)=l.any q:=by
 rw[Bool.eq_iff_iff,List.any_eq_true,yhc,List.countP_pos_iff]
theorem zrx{α:Type}(q:α->Bool)(xs:List α):xs.any q= !xs.all fun x=>!q x:=by
 rw[List.not_all_eq_any_not]
 simp
theorem zBm{ps:List Part}{i:Int}{n:List UInt8}{f:Field}(hp:KL KK ps)(hf:KF KK f):zjI (ps,i,n,f)=some (zor ps n f):=by
 rw[zn6];unfold zjv;dsimp only
 have hk:KK=1048576:=rfl
 have l2:=hp.1
 rw[znQ hp,zac]
 rw[zdK (s0:=((0:Int),(0:Int),(0:Int))) ps (fun i=>(((zav (ps.take i) n f.name).countP (·.shared):Int),((zav (ps.take i) n f.name).countP needy:Int),(i:Int))) (((zav ps n f.name).countP (·.shared):Int),((zav ps n f.name).countP needy:Int),(ps.length:Int))
  (fun _ p=>bif !(match zhA p n f.name with
   | some g=>!zwd f g
   | none=>false)then none else some 3) rfl ?_ ?_]
 ·rw[zdo,zf5]
  unfold zor
  rw[zEN,zrx]
  cases ps.all _ with
  | false=>rfl
  | true =>
   simp only[cond_true,zat,Bool.not_true,cond_false,zGc,zy1,zlV hp,zac,zCw]
   have e1:decide (((zav ps n f.name).countP needy:Int)>0)=(zav ps n f.name).any needy:=by
    rw[<-zxt];exact zqY _ 0
   rw[e1]
   have k1:(zab (decide (1<(zcm n f.name 0 ps).length)) (zab (f.name !=zpG ps n) (some (decide ((zav ps n f.name).countP (·.shared)<(zcm n f.name 0 ps).length))) (some false)) (some false))
     =some (decide (1<(zcm n f.name 0 ps).length)&&(f.name !=zpG ps n&&decide ((zav ps n f.name).countP (·.shared)<(zcm n f.name 0 ps).length))):=by
    cases decide (1<(zcm n f.name 0 ps).length)<;>cases(f.name !=zpG ps n)<;>rfl
   have k2:(zab ((zav ps n f.name).any needy) (some (decide (1<(zcm n f.name 0 ps).length))) (some false))=some (decide (1<(zcm n f.name 0 ps).length)&&(zav ps n f.name).any needy):=by
    cases decide (1<(zcm n f.name 0 ps).length)<;>cases(zav ps n f.name).any needy<;>rfl
   rw[k1,zac,k2,zac]
   rw[zdK (s0:=(0:Int)) f.needs (fun i=>(i:Int)) (f.needs.length:Int) (fun _ x=>bif !ztl ps n x then none else some 7) rfl ?_ ?_]
   ·rw[zdo,zf5]
    have:f.needs.any (ztl ps n)= !f.needs.all fun x=>!ztl ps n x:=zrx _ _
    rw[this]
    cases decide (0<(zcm n f.name 0 ps).length)<;>cases(decide (1<(zcm n f.name 0 ps).length)&&(f.name !=zpG ps n&&decide ((zav ps n f.name).countP (·.shared)<(zcm n f.name 0 ps).length)))<;>cases(decide (1<(zcm n f.name 0 ps).length)&&(zav ps n f.name).any needy)<;>cases(f.needs.all fun x=>!ztl ps n x)<;>rfl
   ·intro j hj
    have h3:=zar hj (up hf.2.2.1)
    simp only[zaO hj,zaf]
    rw[zdK (s0:=(0:Int)) ps (fun i=>(i:Int)) (ps.length:Int) (fun _ p=>bif !(match zhA p n f.needs[j]with
     | some g=>needy g
     | none=>false)then none else some (Sum.inr (Sum.inr 7))) rfl ?_ ?_]
    ·rw[zdo,zf5,zBq,zrx,h3]
     cases ps.all _<;>rfl
    ·intro k hk
     have h4:=zar hk (up hp.1)
     simp only[zaO hk,zaE,zal hk,zal hj,zaf,zag,zac,h4,zkL (hp.2 _ (ygh hk)),zmP]
     cases zhA ps[k] n f.needs[j]with
     | none=>rfl
     | some g =>
      unfold needy
      simp only[Option.isSome_some,Option.getD_some]
      cases decide (0<g.needs.length)<;>rfl
    ·simp only[zap,zae]
   ·simp only[zap,zae]
 ·intro j hj
  have h3:=zar hj (up hp.1)
  have hc:=List.countP_le_length (p:=fun g:Field=>g.shared) (l:=zav (ps.take j) n f.name)
  have hd:=List.countP_le_length (p:=needy) (l:=zav (ps.take j) n f.name)
  have hl:=zh7 (ps.take j) n f.name
  have hl2:(ps.take j).length<=j:=by rw[List.length_take];exact Nat.min_le_left _ _
  have h4:zas (((zav (ps.take j) n f.name).countP (·.shared):Int)+1)=true:=zbw (by omega) (by omega)
  have h5:zas (((zav (ps.take j) n f.name).countP needy:Int)+1)=true:=zbw (by omega) (by omega)
  simp only[zaO hj,zaE,zal hj,zaf,zag,zac,h3,h4,h5,zkL (hp.2 _ (ygh hj)),zBe,zmP]
  rw[zrb hj]
  cases hg:zhA ps[j] n f.name with
  | none=>simp[zab,zac,cond]
  | some g =>
   simp only[Option.isSome_some,Option.getD_some,List.countP_append,List.countP_singleton,zaf,zac]
   unfold needy
   cases zwd f g<;>cases g.shared<;>cases decide (0<g.needs.length)<;>simp[zab,zac,cond]
 ·simp only[zap,zae,List.take_length]
end Go.Fw
namespace Go.Fw
open Go
set_option linter.unusedSimpArgs false
set_option linter.unusedVariables false
abbrev SJw:=Int×Int×List UInt8×List UInt8×Int
abbrev mkW(i:Nat):SJw:=((i:Int),0,[],[],0)
def p1F(ps:List Part)(i:Nat)(p:Part):Option CFault:=bif !okP p then some ⟨(i:Int)+1,[],[],1⟩else bif (ps.take i).any (fun q=>q.name==p.name)then some ⟨(i:Int)+1,[],[],2⟩else none
def zwe(ps:List Part)(t:Typ):Bool:=t.key !=[]&&t.key !=zpG ps t.name
def s2F(ps:List Part)(i:Nat)(n:List UInt8)(f:Field):Option CFault:=bif zor ps n f !=0 then some ⟨(i:Int)+1,n,f.name,zor ps n f⟩else none
def s2T(ps:List Part)(i:Nat)(t:Typ):Option CFault:=bif zwe ps t then some ⟨(i:Int)+1,t.name,[],4⟩else fsI (fun _ f=>s2F ps i t.name f) 0 t.fields
def s2P(ps:List Part)(i:Nat)(p:Part):Option CFault:=fsI (fun _ t=>s2T ps i t) 0 p.types
def v6S(ps:List Part):CFault:=bif !(decide (0<ps.length)&&decide (ps.length<=4))then⟨0,[],[],8⟩else
 match fsI (p1F ps) 0 ps with
 | some r=>r
 | none=>match fsI (s2P ps) 0 ps with
  | some r=>r
  | none=>⟨0,[],[],0⟩
theorem zDb(n:Nat):decide ((n:Int)>4)= !decide (n<=4):=by
 by_cases h:n<=4
 ·simp[h];omega
 ·simp[h];omega
theorem zyW(ps:List Part)(t:Typ):(zab (t.key !=[]) (some (t.key !=zpG ps t.name)) (some false))=some (zwe ps t):=by
 unfold zwe
 cases(t.key !=[])<;>rfl
theorem zzy{ps:List Part}(hp:KL KK ps):zjH ps=some (v6S ps):=by
 rw[zn5];unfold zju
 unfold v6S
 have k1:(zab ((↑(List.length ps):Int)==0) (some true) (some (decide ((↑(List.length ps):Int)>4))))=some (!(decide (0<ps.length)&&decide (ps.length<=4))):=by
  rw[zGc,zDb]
  cases decide (0<ps.length)<;>rfl
 rw[k1,zac]
 cases(decide (0<ps.length)&&decide (ps.length<=4))with
 | false=>rfl
 | true =>
  simp only[Bool.not_true,zae,cond_false]
  rw[zdK (s0:=((0:Int),(0:Int),([]:List UInt8),([]:List UInt8),(0:Int))) ps mkW (mkW ps.length) (p1F ps) rfl ?_ ?_]
  ·cases fsI (p1F ps) 0 ps with
   | some r=>rfl
   | none =>
    simp only[zat]
    rw[zdK (s0:=((0:Int),(0:Int),([]:List UInt8),([]:List UInt8),(0:Int))) ps mkW (mkW ps.length) (s2P ps) rfl ?_ ?_]
    ·cases fsI (s2P ps) 0 ps<;>rfl
    ·intro i hi
     have h3:=zar hi (up hp.1)
     have hq:=hp.2 _ (ygh hi)
     simp only[zaO hi,zaf]
     rw[zdK (s0:=((0:Int),(0:Int),([]:List UInt8),([]:List UInt8),(0:Int))) ps[i].types mkW (mkW ps[i].types.length) (fun _ t=>(s2T ps i t).map (fun r=>Sum.inr (Sum.inr r))) rfl ?_ ?_]
     ·rw[zpy]
      unfold s2P
      cases fsI (fun _ t=>s2T ps i t) 0 ps[i].types with
      | some r=>rfl
      | none =>
       simp only[Option.map_none,zat,h3,zag]
       rfl
     ·intro j hj
      have h4:=zar hj (up hq.2.1)
      have ht:=hq.2.2 _ (ygh hj)
      simp only[zaE,zal hi,zaO hj,zal hj,zaf,zag,zac,h3,h4,zlV hp]
      rw[zyW,zac]
      unfold s2T
      cases zwe ps ps[i].types[j]with
      | true=>rfl
      | false =>
       simp only[zae,cond_false]
       rw[zdK (s0:=((0:Int),(0:Int),([]:List UInt8),([]:List UInt8),(0:Int))) ps[i].types[j].fields mkW (mkW ps[i].types[j].fields.length) (fun _ f=>(s2F ps i ps[i].types[j].name f).map (fun r=>Sum.inr (Sum.inr (Sum.inr (Sum.inr r))))) rfl ?_ ?_]
       ·rw[zpy]
        cases fsI (fun _ f=>s2F ps i ps[i].types[j].name f) 0 ps[i].types[j].fields<;>rfl
       ·intro k hk
        have h5:=zar hk (up ht.2.2.1)
        simp only[zaE,zaO hk,zal hk,zaf,zag,zac,h5,zBm hp (ht.2.2.2 _ (ygh hk))]
        unfold s2F
        cases(zor ps ps[i].types[j].name ps[i].types[j].fields[k] !=0)<;>rfl
       ·simp only[zap,zae]
     ·simp only[zaE,zal hi,zap,zae,zag,zac]
    ·simp only[zap,zae]
  ·intro i hi
   have h3:=zar hi (up hp.1)
   have hq:=hp.2 _ (ygh hi)
   simp only[zaO hi,zaE,zal hi,zaf,zag,zac,h3,zop hq]
   unfold p1F
   rw[show((pcM ps[i]).code !=0)= !okP ps[i]from rfl]
   cases okP ps[i]with
   | false=>rfl
   | true =>
    simp only[Bool.not_true,zae,cond_false]
    have hl:(ps.take i).length=i:=by rw[List.length_take];omega
    rw[zdK (s0:=((0:Int),(0:Int),([]:List UInt8),([]:List UInt8),(0:Int))) (ps.take i) mkW (mkW i) (fun _ q=>bif !(q.name==ps[i].name)then none else some (Sum.inr (Sum.inr ⟨(i:Int)+1,[],[],2⟩))) rfl ?_ ?_]
    ·rw[zdo,zf5,zrx]
     cases(ps.take i).all fun q=>!(q.name==ps[i].name)<;>rfl
    ·intro j hj
     have hj':j<i:=by omega
     have hjp:j<ps.length:=by omega
     have h4:=zar hjp (up hp.1)
     simp only[zaO hj',zaE,zal hjp,zaf,zag,zac,h4,List.getElem_take]
     cases(ps[j].name==ps[i].name)<;>rfl
    ·rw[hl]
     simp only[zap,zae]
  ·simp only[zap,zae]
def i2T(ps:List Part)(i:Nat)(t:Typ):Option CFault:=bif zwe ps t then some ⟨(i:Int)+1,t.name,[],4⟩else bif zAV ps t !=[]then some ⟨(i:Int)+1,t.name,zAV ps t,3⟩else none
def i2P(ps:List Part)(i:Nat)(p:Part):Option CFault:=fsI (fun _ t=>i2T ps i t) 0 p.types
def i3F(ps:List Part)(i:Nat)(n:List UInt8)(f:Field):Option CFault:=bif decide (zkQ ps n f.name>0)then some ⟨(i:Int)+1,n,f.name,zkQ ps n f.name⟩else none
def i3T(ps:List Part)(i:Nat)(t:Typ):Option CFault:=fsI (fun _ f=>i3F ps i t.name f) 0 t.fields
def i3P(ps:List Part)(i:Nat)(p:Part):Option CFault:=fsI (fun _ t=>i3T ps i t) 0 p.types
def v6I(ps:List Part):CFault:=bif !(decide (0<ps.length)&&decide (ps.length<=4))then⟨0,[],[],8⟩else
 match fsI (p1F ps) 0 ps with
 | some r=>r
 | none=>match fsI (i2P ps) 0 ps with
  | some r=>r
  | none=>match fsI (i3P ps) 0 ps with
   | some r=>r
   | none=>⟨0,[],[],0⟩
theorem zHm(n:Nat):decide ((n:Int)<=4)=decide (n<=4):=by simp;omega
theorem zsk{ps:List Part}(hp:KL KK ps):zdD ps=some (v6I ps):=by
 rw[zhX];unfold zdx
 unfold v6I
 rw[zmI,zac,zCv,zHm]
 cases(decide (0<ps.length)&&decide (ps.length<=4))with
 | false=>rfl
 | true =>
  simp only[Bool.not_true,zae,cond_false]
  rw[zdK (s0:=((0:Int),(0:Int),([]:List UInt8),([]:List UInt8),(0:Int))) ps mkW (mkW ps.length) (p1F ps) rfl ?_ ?_]
  ·cases fsI (p1F ps) 0 ps with
   | some r=>rfl
   | none =>
    simp only[zat]
    rw[zdK (s0:=((0:Int),(0:Int),([]:List UInt8),([]:List UInt8),(0:Int))) ps mkW (mkW ps.length) (i2P ps) rfl ?_ ?_]
    ·cases fsI (i2P ps) 0 ps with
     | some r=>rfl
     | none =>
      simp only[zat]
      rw[zdK (s0:=((0:Int),(0:Int),([]:List UInt8),([]:List UInt8),(0:Int))) ps mkW (mkW ps.length) (i3P ps) rfl ?_ ?_]
      ·cases fsI (i3P ps) 0 ps<;>rfl
      ·intro i hi
       have h3:=zar hi (up hp.1)
       have hq:=hp.2 _ (ygh hi)
       simp only[zaO hi,zaE,zal hi,zaf,zag,zac]
       rw[zdK (s0:=((0:Int),(0:Int),([]:List UInt8),([]:List UInt8),(0:Int))) ps[i].types mkW (mkW ps[i].types.length) (fun _ t=>(i3T ps i t).map (fun r=>Sum.inr (Sum.inr r))) rfl ?_ ?_]
       ·rw[zpy]
        unfold i3P
        cases fsI (fun _ t=>i3T ps i t) 0 ps[i].types with
        | some r=>rfl
        | none =>
         simp only[Option.map_none,zat,h3,zag]
         rfl
       ·intro j hj
        have h4:=zar hj (up hq.2.1)
        have ht:=hq.2.2 _ (ygh hj)
        simp only[zaE,zaO hj,zal hj,zaf,zag,zac]
        rw[zdK (s0:=((0:Int),(0:Int),([]:List UInt8),([]:List UInt8),(0:Int))) ps[i].types[j].fields mkW (mkW ps[i].types[j].fields.length) (fun _ f=>(i3F ps i ps[i].types[j].name f).map (fun r=>Sum.inr (Sum.inr (Sum.inr (Sum.inr r))))) rfl ?_ ?_]
        ·rw[zpy,h4]
         unfold i3T
         cases fsI (fun _ f=>i3F ps i ps[i].types[j].name f) 0 ps[i].types[j].fields<;>rfl
        ·intro k hk
         have h5:=zar hk (up ht.2.2.1)
         simp only[zaE,zaO hk,zal hk,zaf,zag,zac,h3,h5,zBk hp]
         unfold i3F
         cases decide (zkQ ps ps[i].types[j].name ps[i].types[j].fields[k].name>0)<;>rfl
        ·simp only[zap,zae]
       ·simp only[zap,zae]
      ·simp only[zap,zae]
    ·intro i hi
     have h3:=zar hi (up hp.1)
     have hq:=hp.2 _ (ygh hi)
     simp only[zaO hi,zaE,zal hi,zaf,zag,zac]
     rw[zdK (s0:=((0:Int),(0:Int),([]:List UInt8),([]:List UInt8),(0:Int))) ps[i].types mkW (mkW ps[i].types.length) (fun _ t=>(i2T ps i t).map (fun r=>Sum.inr (Sum.inr r))) rfl ?_ ?_]
     ·rw[zpy]
      unfold i2P
      cases fsI (fun _ t=>i2T ps i t) 0 ps[i].types with
      | some r=>rfl
      | none =>
       simp only[Option.map_none,zat,h3,zag]
       rfl
     ·intro j hj
      have h4:=zar hj (up hq.2.1)
      have ht:=hq.2.2 _ (ygh hj)
      simp only[zaE,zaO hj,zal hj,zaf,zag,zac,h3,h4,zlH hp,zAW hp ht]
      rw[zyW,zac]
      unfold i2T
      cases zwe ps ps[i].types[j]with
      | true=>rfl
      | false =>
       simp only[zae,cond_false]
       cases(zAV ps ps[i].types[j] !=[])<;>rfl
     ·simp only[zap,zae]
    ·simp only[zap,zae]
  ·intro i hi
   have h3:=zar hi (up hp.1)
   have hq:=hp.2 _ (ygh hi)
   have h4:decide ((i:Int)<=(ps.length:Int))=true:=by simp;omega
   have h5:(List.take (Int.toNat (i:Int)-Int.toNat 0) (List.drop (Int.toNat 0) ps))=ps.take i:=by simp
   have k:zb6 (ps.take i,ps[i])=some ((ps.take i).any (fun q=>q.name==ps[i].name)):=by
    rw[zfX];unfold zbZ;dsimp only
    have h2:zb9 (ps.take i,ps[i])=some (ixM (fun q:Part=>q.name==ps[i].name) (ps.take i)):=by
     rw[zf0];unfold zb2;dsimp only
     refine ixf (g:=fun q=>zcy (q,ps[i])) _ (up (Nat.le_trans (by rw[List.length_take];exact Nat.min_le_right _ _) hp.1)) (fun q _=>?_)
     rw[zgH];unfold zcr;dsimp only
    rw[h2,zac,zlh]
   simp only[zaO hi,zaE,zal hi,zaf,zag,zac,h3,h4,h5,k,zt2 hq,decide_true,Bool.and_self,Int.le_refl]
   unfold p1F
   cases okP ps[i]with
   | false=>rfl
   | true =>
    simp only[Bool.not_true,zae,cond_false]
    cases(ps.take i).any fun q=>q.name==ps[i].name<;>rfl
  ·simp only[zap,zae]
end Go.Fw
namespace Go.Fw
open Go
set_option linter.unusedSimpArgs false
set_option linter.unusedVariables false
structure OkT (p:Part)(t:Typ):Prop where
 line:lineM t=true
 ty:tyM p t.name=some t
 fd:∀f∈t.fields,fdM t f.name=some f
 nm:∀f∈t.fields,nameM f.name=true
 nf:∀f∈t.fields,needy f=true->f.far=false
 known:∀f∈t.fields,knownM p f=true
 noq:∀f∈t.fields,isQ f=false
structure OkP (p:Part):Prop where
 types:p.types.length<=5
 name:nameM p.name=true
 root:noRoot p=false
 type:∀t∈p.types,OkT p t
theorem zwL{α:Type}{q:α->Bool}{xs:List α}{i:Nat}(hi:i<xs.length)(h:(ixM q xs==(i:Int))=true):xs.find? q=some xs[i]:=by
 rcases zcf q xs with⟨h1,h2,_⟩|⟨k,hk,h1,h2,_,_⟩
 ·rw[h1]at h
  simp at h
 ·rw[h1]at h
  have:k=i:=by
   have h':(k:Int)=(i:Int):=by simpa using h
   omega
  subst this
  exact h2
theorem OkP.of{p:Part}(h:okP p=true):OkP p:=by
 unfold okP pcM at h
 cases h1:decide (5<p.types.length)with
 | true=>rw[h1]at h;cases h
 | false =>
  rw[h1]at h
  cases h2:nameM p.name with
  | false=>rw[h2]at h;cases h
  | true =>
   rw[h2]at h
   cases h3:noRoot p with
   | true=>rw[h3]at h;cases h
   | false =>
    rw[h3]at h
    simp only[Bool.not_true,cond_false]at h
    cases h4:fsI (pcF p) 0 p.types with
    | some r =>
     rw[h4]at h
     exfalso
     obtain⟨j,hj,hr⟩:=zjW h4
     unfold pcF at hr
     cases hz:(zdJ p (0+j) p.types[j]==0)with
     | false =>
      rw[hz]at hr
      cases hr
      rw[hz]at h
      cases h
     | true =>
      rw[hz]at hr
      simp only[Bool.not_true,cond_false]at hr
      cases hq:p.types[j].fields.any isQ with
      | false=>rw[hq]at hr;cases hr
      | true=>rw[hq]at hr;cases hr;cases h
    | none =>
     refine⟨by simpa using h1,h2,h3,fun t ht=>?_⟩
     obtain⟨j,hj,rfl⟩:=List.getElem_of_mem ht
     have hn:=zhi h4 j hj
     rw[Nat.zero_add]at hn
     unfold pcF at hn
     cases hz:(zdJ p j p.types[j]==0)with
     | false=>rw[hz]at hn;cases hn
     | true =>
      rw[hz]at hn
      simp only[Bool.not_true,cond_false]at hn
      have hq:p.types[j].fields.any isQ=false:=by
       cases hq:p.types[j].fields.any isQ with
       | false=>rfl
       | true=>rw[hq]at hn;cases hn
      have hf:zdJ p j p.types[j]=0:=by simpa using hz
      unfold zdJ at hf
      cases e1:lineM p.types[j]with
      | false=>rw[e1]at hf;cases hf
      | true =>
       rw[e1]at hf
       cases e2:(ixM (fun u:Typ=>u.name==p.types[j].name) p.types==(j:Int))with
       | false=>rw[e2]at hf;cases hf
       | true =>
        rw[e2]at hf
        cases e3:zyt p.types[j]with
        | false=>rw[e3]at hf;cases hf
        | true =>
         rw[e3]at hf
         cases e4:p.types[j].fields.all (knownM p)with
         | false=>rw[e4]at hf;cases hf
         | true =>
          rw[e4]at hf
          cases e5:zDN p.types[j]with
          | false=>rw[e5]at hf;cases hf
          | true =>
           rw[e5]at hf
           cases e6:p.types[j].fields.all (zlk p.types[j])with
           | false=>rw[e6]at hf;cases hf
           | true =>
            refine⟨e1,zwL hj e2,fun f hf=>?_,fun f hf=>?_,fun f hf hn=>?_,fun f hf=>List.all_eq_true.1 e4 f hf,fun f hf=>?_⟩
            ·obtain⟨k,hk,rfl⟩:=List.getElem_of_mem hf
             have:=(zkw _ _ _).1 e3 k hk
             rw[Nat.zero_add]at this
             exact zwL hk this
            ·unfold lineM at e1
             simp only[yhb,List.all_eq_true]at e1
             have:=e1.2.2.2.2 f hf
             unfold zpK at this
             simp only[yhb]at this
             exact this.1
            ·have:=List.all_eq_true.1 e6 f hf
             unfold zlk zx1 at this
             unfold needy at hn
             rw[hn]at this
             simp only[yhb,Bool.or_eq_true,Bool.not_true,yhj,false_or,yho]at this
             exact this.1.1.2.2.1
            ·have:=List.any_eq_false.1 hq f hf
             simpa using this
theorem zAh{s:List UInt8}(h:nameM s=true):s≠[]:=by
 rintro rfl
 cases h
def zCr(ps:List Part):Prop:=0<ps.length/\ps.length<=4/\fsI (p1F ps) 0 ps=none
def S2(ps:List Part):Prop:=∀p∈ps,∀t∈p.types,zwe ps t=false/\∀f∈t.fields,zor ps t.name f=0
def I2(ps:List Part):Prop:=∀p∈ps,∀t∈p.types,zwe ps t=false/\zAV ps t=[]/\∀f∈t.fields,zkQ ps t.name f.name=0
theorem zCr.ok{ps:List Part}(h:zCr ps):∀p∈ps,OkP p:=by
 intro p hp
 obtain⟨j,hj,rfl⟩:=List.getElem_of_mem hp
 have:=zhi h.2.2 j hj
 unfold p1F at this
 cases ho:okP ps[j]with
 | true=>exact .of ho
 | false=>rw[ho]at this;cases this
theorem zw7{ps:List Part}{i:Nat}{p:Part}{r:CFault}(h:p1F ps i p=some r):0<r.code:=by
 unfold p1F at h
 cases ho:okP p with
 | false=>rw[ho]at h;cases h;simp
 | true =>
  rw[ho]at h
  simp only[Bool.not_true,cond_false]at h
  cases hz:(ps.take i).any fun q=>q.name==p.name with
  | true=>rw[hz]at h;cases h;simp
  | false=>rw[hz]at h;cases h
theorem zEk{ps:List Part}:fsI (s2P ps) 0 ps=none↔S2 ps:=by
 have h3:∀i n f,s2F ps i n f=none↔zor ps n f=0:=by
  intro i n f
  unfold s2F
  cases hz:(zor ps n f !=0)with
  | true=>simp only[cond_true,reduceCtorEq,false_iff];simpa using hz
  | false=>simp only[cond_false,true_iff];simpa using hz
 have h2:∀i t,s2T ps i t=none↔zwe ps t=false/\∀f∈t.fields,zor ps t.name f=0:=by
  intro i t
  unfold s2T
  cases zwe ps t with
  | true=>simp
  | false =>
   simp only[cond_false,yhn]
   rw[zjX]
   constructor
   ·intro h f hf
    obtain⟨k,hk,rfl⟩:=List.getElem_of_mem hf
    exact(h3 _ _ _).1 (h k hk)
   ·intro h k hk
    exact(h3 _ _ _).2 (h _ (ygh hk))
 rw[zjX]
 constructor
 ·intro h p hp t ht
  obtain⟨j,hj,rfl⟩:=List.getElem_of_mem hp
  obtain⟨k,hk,rfl⟩:=List.getElem_of_mem ht
  have:=h j hj
  unfold s2P at this
  exact(h2 _ _).1 (zhi this k hk)
 ·intro h j hj
  unfold s2P
  rw[zjX]
  intro k hk
  exact(h2 _ _).2 (h _ (ygh hj) _ (ygh hk))
theorem zEj{ps:List Part}{i:Nat}{p:Part}{r:CFault}(h:s2P ps i p=some r):r.code≠0:=by
 unfold s2P at h
 obtain⟨j,hj,h⟩:=zjW h
 unfold s2T at h
 cases hb:zwe ps p.types[j]with
 | true=>rw[hb]at h;cases h;simp
 | false =>
  rw[hb]at h
  simp only[cond_false]at h
  obtain⟨k,hk,h⟩:=zjW h
  unfold s2F at h
  cases hz:(zor ps p.types[j].name p.types[j].fields[k] !=0)with
  | true=>rw[hz]at h;cases h;simpa using hz
  | false=>rw[hz]at h;cases h
theorem zsG{ps:List Part}:(v6S ps).code=0↔zCr ps/\S2 ps:=by
 unfold v6S zCr
 rw[<-zEk]
 by_cases h0:0<ps.length/\ps.length<=4
 ·have:(!(decide (0<ps.length)&&decide (ps.length<=4)))=false:=by simp[h0]
  rw[this]
  simp only[cond_false]
  cases h1:fsI (p1F ps) 0 ps with
  | some r =>
   obtain⟨j,hj,h⟩:=zjW h1
   have:=zw7 h
   simp only[reduceCtorEq,and_false,false_and,iff_false]
   omega
  | none =>
   cases h2:fsI (s2P ps) 0 ps with
   | some r =>
    obtain⟨j,hj,h⟩:=zjW h2
    have:=zEj h
    simp only[reduceCtorEq,and_false,iff_false]
    exact this
   | none=>simp[h0]
 ·have:(!(decide (0<ps.length)&&decide (ps.length<=4)))=true:=by
   simp only[yho,Bool.and_eq_false_iff,yhd]
   omega
  rw[this]
  simp only[cond_true]
  constructor
  ·intro h;cases h
  ·intro h;exact absurd ⟨h.1.1,h.1.2.1⟩ h0
theorem zBl(ps:List Part)(n f:List UInt8):0<=zkQ ps n f:=by
 unfold zkQ
 cases decide (0<(zcm n f 0 ps).length)<;>cases(decide (1<(zcm n f 0 ps).length)&&(f !=zpG ps n&&decide ((zav ps n f).countP (·.shared)<(zcm n f 0 ps).length)))<;>cases((decide (1<(zcm n f 0 ps).length)&&(zav ps n f).any needy) ||(zdj ps n f).any (fun x=>(zav ps n x).any needy))<;>decide
theorem zDy{ps:List Part}:(fsI (i2P ps) 0 ps=none/\fsI (i3P ps) 0 ps=none)↔I2 ps:=by
 have h3:∀i n f,i3F ps i n f=none↔zkQ ps n f.name=0:=by
  intro i n f
  have:=zBl ps n f.name
  unfold i3F
  cases hz:decide (zkQ ps n f.name>0)with
  | true =>
   have:zkQ ps n f.name>0:=by simpa using hz
   simp only[cond_true,reduceCtorEq,false_iff];omega
  | false =>
   have:¬zkQ ps n f.name>0:=by simpa using hz
   simp only[cond_false,true_iff];omega
 have h2:∀i t,i2T ps i t=none↔zwe ps t=false/\zAV ps t=[]:=by
  intro i t
  unfold i2T
  cases zwe ps t with
  | true=>simp
  | false =>
   simp only[cond_false,yhn]
   cases hz:(zAV ps t !=[])with
   | true=>simp only[cond_true,reduceCtorEq,false_iff];simpa using hz
   | false=>simp only[cond_false,true_iff];simpa using hz
 rw[zjX,zjX]
 constructor
 ·intro⟨h,g⟩ p hp t ht
  obtain⟨j,hj,rfl⟩:=List.getElem_of_mem hp
  obtain⟨k,hk,rfl⟩:=List.getElem_of_mem ht
  have h1:=h j hj
  unfold i2P at h1
  have g1:=g j hj
  unfold i3P at g1
  have g2:=zhi g1 k hk
  unfold i3T at g2
  have h4:=(h2 _ _).1 (zhi h1 k hk)
  refine⟨h4.1,h4.2,fun f hf=>?_⟩
  obtain⟨l,hl,rfl⟩:=List.getElem_of_mem hf
  exact(h3 _ _ _).1 (zhi g2 l hl)
 ·intro h
  refine⟨fun j hj=>?_,fun j hj=>?_⟩
  ·unfold i2P
   rw[zjX]
   intro k hk
   have:=h _ (ygh hj) _ (ygh hk)
   exact(h2 _ _).2 ⟨this.1,this.2.1⟩
  ·unfold i3P
   rw[zjX]
   intro k hk
   have:=h _ (ygh hj) _ (ygh hk)
   unfold i3T
   rw[zjX]
   intro l hl
   exact(h3 _ _ _).2 (this.2.2 _ (ygh hl))
theorem zDx{ps:List Part}{i:Nat}{p:Part}{r:CFault}(h:i2P ps i p=some r):0<r.code:=by
 unfold i2P at h
 obtain⟨j,hj,h⟩:=zjW h
 unfold i2T at h
 cases hb:zwe ps p.types[j]with
 | true=>rw[hb]at h;cases h;simp
 | false =>
  rw[hb]at h
  simp only[cond_false]at h
  cases hz:(zAV ps p.types[j] !=[])with
  | true=>rw[hz]at h;cases h;simp
  | false=>rw[hz]at h;cases h
theorem zDz{ps:List Part}{i:Nat}{p:Part}{r:CFault}(h:i3P ps i p=some r):0<r.code:=by
 unfold i3P at h
 obtain⟨j,hj,h⟩:=zjW h
 unfold i3T at h
 obtain⟨k,hk,h⟩:=zjW h
 unfold i3F at h
 cases hz:decide (zkQ ps p.types[j].name p.types[j].fields[k].name>0)with
 | true=>rw[hz]at h;cases h;simpa using hz
 | false=>rw[hz]at h;cases h
theorem zsF{ps:List Part}:((v6I ps).code=0↔zCr ps/\I2 ps)/\0<=(v6I ps).code:=by
 unfold v6I zCr
 rw[<-zDy]
 by_cases h0:0<ps.length/\ps.length<=4
 ·have:(!(decide (0<ps.length)&&decide (ps.length<=4)))=false:=by simp[h0]
  rw[this]
  simp only[cond_false]
  cases h1:fsI (p1F ps) 0 ps with
  | some r =>
   obtain⟨j,hj,h⟩:=zjW h1
   have:=zw7 h
   simp only[reduceCtorEq,and_false,false_and,iff_false]
   omega
  | none =>
   cases h2:fsI (i2P ps) 0 ps with
   | some r =>
    obtain⟨j,hj,h⟩:=zjW h2
    have:=zDx h
    simp only[reduceCtorEq,and_false,false_and,iff_false]
    omega
   | none =>
    cases h3:fsI (i3P ps) 0 ps with
    | some r =>
     obtain⟨j,hj,h⟩:=zjW h3
     have:=zDz h
     simp only[reduceCtorEq,and_false,iff_false]
     omega
    | none=>simp[h0]
 ·have:(!(decide (0<ps.length)&&decide (ps.length<=4)))=true:=by
   simp only[yho,Bool.and_eq_false_iff,yhd]
   omega
  rw[this]
  simp only[cond_true]
  refine⟨⟨fun h=>?_,fun h=>absurd ⟨h.1.1,h.1.2.1⟩ h0⟩,by decide⟩
  cases h
theorem zAq(n f:List UInt8)(ps:List Part)(k:Nat):(zcm n f k ps).length=ps.countP (zmN n f):=by
 induction ps generalizing k with
 | nil=>rfl
 | cons p ps ih =>
  simp only[zcm,yhr,List.countP_cons,ih]
  cases zmN n f p<;>simp[Nat.add_comm]
theorem zvn{ps:List Part}(hok:∀p∈ps,OkP p)(n f:List UInt8):(zav ps n f).countP needy<=ps.countP (zmN n f):=by
 unfold zav
 induction ps with
 | nil=>simp
 | cons p ps ih =>
  have ih':=ih fun q hq=>hok q (by simp[hq])
  rw[List.filterMap_cons,List.countP_cons]
  cases hg:zhA p n f with
  | none=>simp only[hg];omega
  | some g =>
   simp only[hg,List.countP_cons]
   obtain⟨t,ht,_,_,hgt,_⟩:=zmG hg
   cases hn:needy g with
   | false=>simp only[yhj,if_false];omega
   | true =>
    have:=((hok p (by simp)).type t ht).nf g hgt hn
    have hk:zmN n f p=true:=by unfold zmN;rw[hg];simp[this]
    simp only[hk,if_true];omega
theorem zze{α:Type}{q:α->Bool}{l:List α}(h:l.countP q<=1){a b:α}(ha:a∈l)(hb:b∈l)(qa:q a=true)(qb:q b=true):a=b:=by
 rw[List.countP_eq_length_filter]at h
 have h1:a∈l.filter q:=List.mem_filter.2 ⟨ha,qa⟩
 have h2:b∈l.filter q:=List.mem_filter.2 ⟨hb,qb⟩
 match hl:l.filter q with
 | []=>rw[hl]at h1;cases h1
 | [x] =>
  rw[hl]at h1 h2
  rw[List.mem_singleton]at h1 h2
  rw[h1,h2]
 | x:: y:: r=>rw[hl]at h;simp at h
theorem zoK{ps:List Part}{n f:List UInt8}{g:Field}(h:g∈zav ps n f):∃p∈ps,∃t∈p.types,t.name=n/\g∈t.fields/\g.name=f/\zhA p n f=some g:=by
 unfold zav at h
 obtain⟨p,hp,hg⟩:=List.mem_filterMap.1 h
 obtain⟨t,ht,hn,_,hgt,hgf,_⟩:=zmG hg
 exact⟨p,hp,t,ht,hn,hgt,hgf,hg⟩
theorem OkP.get{p:Part}(h:OkP p){t:Typ}(ht:t∈p.types){f:Field}(hf:f∈t.fields):zhA p t.name f.name=some f:=by
 unfold zhA
 rw[(h.type t ht).ty,Option.bind_some]
 exact(h.type t ht).fd f hf
theorem zr6{ps:List Part}(hok:∀p∈ps,OkP p){p:Part}(hp:p∈ps){t:Typ}(ht:t∈p.types){f:Field}(hf:f∈t.fields):f∈zav ps t.name f.name:=
 List.mem_filterMap.2 ⟨p,hp,(hok p hp).get ht hf⟩
theorem ziM(ps:List Part)(n f:List UInt8):(zdj ps n f=[]/\(zav ps n f).any needy=false)\/∃g∈zav ps n f,needy g=true/\zdj ps n f=g.needs:=by
 unfold zdj
 cases h:(zav ps n f).findSome? fun g=>bif decide (0<g.needs.length)then some g.needs else none with
 | none =>
  refine .inl ⟨rfl,?_⟩
  rw[List.any_eq_false]
  intro g hg
  have:=List.findSome?_eq_none_iff.1 h g hg
  unfold needy
  cases hz:decide (0<g.needs.length)with
  | true=>rw[hz]at this;cases this
  | false=>simp
 | some l =>
  obtain⟨g,hg,he⟩:=List.exists_of_findSome?_eq_some h
  refine .inr ⟨g,hg,?_⟩
  unfold needy
  cases hz:decide (0<g.needs.length)with
  | false=>rw[hz]at he;cases he
  | true=>rw[hz]at he;cases he;exact⟨rfl,rfl⟩
theorem zw0{ps:List Part}(hok:∀p∈ps,OkP p){n f:List UInt8}(h1:(decide (1<(zcm n f 0 ps).length)&&(zav ps n f).any needy)=false){g:Field}(hg:g∈zav ps n f)(hn:needy g=true):zdj ps n f=g.needs:=by
 have ha:(zav ps n f).any needy=true:=List.any_eq_true.2 ⟨g,hg,hn⟩
 rw[ha,Bool.and_true,yhd,zAq]at h1
 have h2:=zvn hok n f
 rcases ziM ps n f with⟨_,h⟩|⟨g',hg',hn',h⟩
 ·rw[ha]at h;cases h
 ·rw[h,zze (by omega) hg hg' hn hn']
theorem zxl{ps:List Part}{t:Typ}(h:∀f∈t.fields,nameM f.name=true):zAV ps t=[]↔∀f∈t.fields,zyu ps t.name f=false:=by
 unfold zAV
 cases hs:t.fields.findSome? fun f=>bif zyu ps t.name f then some f.name else none with
 | none =>
  simp only[Option.getD_none,true_iff]
  intro f hf
  have:=List.findSome?_eq_none_iff.1 hs f hf
  cases hu:zyu ps t.name f with
  | false=>rfl
  | true=>rw[hu]at this;cases this
 | some l =>
  obtain⟨f,hf,he⟩:=List.exists_of_findSome?_eq_some hs
  cases hu:zyu ps t.name f with
  | false=>rw[hu]at he;cases he
  | true =>
   rw[hu]at he
   cases he
   simp only[Option.getD_some]
   exact⟨fun hc=>absurd hc (zAh (h f hf)),fun hc=>by rw[hc f hf]at hu;cases hu⟩
theorem zrE{ps:List Part}{n:List UInt8}{f:Field}:zor ps n f=0↔zyu ps n f=false/\decide (0<(zcm n f.name 0 ps).length)=true/\(decide (1<(zcm n f.name 0 ps).length)&&(f.name !=zpG ps n&&decide ((zav ps n f.name).countP (·.shared)<(zcm n f.name 0 ps).length)))=false/\(decide (1<(zcm n f.name 0 ps).length)&&(zav ps n f.name).any needy)=false/\f.needs.any (ztl ps n)=false:=by
 unfold zor
 cases zyu ps n f<;>cases decide (0<(zcm n f.name 0 ps).length)<;>cases(decide (1<(zcm n f.name 0 ps).length)&&(f.name !=zpG ps n&&decide ((zav ps n f.name).countP (·.shared)<(zcm n f.name 0 ps).length)))<;>cases(decide (1<(zcm n f.name 0 ps).length)&&(zav ps n f.name).any needy)<;>cases f.needs.any (ztl ps n)<;>simp
theorem zuI{ps:List Part}{n f:List UInt8}:zkQ ps n f=0↔decide (0<(zcm n f 0 ps).length)=true/\(decide (1<(zcm n f 0 ps).length)&&(f !=zpG ps n&&decide ((zav ps n f).countP (·.shared)<(zcm n f 0 ps).length)))=false/\(decide (1<(zcm n f 0 ps).length)&&(zav ps n f).any needy)=false/\(zdj ps n f).any (ztl ps n)=false:=by
 have:(zdj ps n f).any (ztl ps n)=(zdj ps n f).any (fun x=>(zav ps n x).any needy):=rfl
 rw[this]
 unfold zkQ
 cases decide (0<(zcm n f 0 ps).length)<;>cases(decide (1<(zcm n f 0 ps).length)&&(f !=zpG ps n&&decide ((zav ps n f).countP (·.shared)<(zcm n f 0 ps).length)))<;>cases(decide (1<(zcm n f 0 ps).length)&&(zav ps n f).any needy)<;>cases(zdj ps n f).any (fun x=>(zav ps n x).any needy)<;>simp
theorem zC5{ps:List Part}(hok:∀p∈ps,OkP p):S2 ps↔I2 ps:=by
 constructor
 ·intro h p hp t ht
  obtain⟨h1,h2⟩:=h p hp t ht
  have ho:=(hok p hp).type t ht
  refine⟨h1,(zxl ho.nm).2 fun f hf=>(zrE.1 (h2 f hf)).1,fun f hf=>?_⟩
  obtain⟨_,g2,g3,g4,g5⟩:=zrE.1 (h2 f hf)
  refine zuI.2 ⟨g2,g3,g4,?_⟩
  rcases ziM ps t.name f.name with⟨e,_⟩|⟨g,hg,_,e⟩
  ·rw[e];rfl
  ·rw[e]
   obtain⟨p',hp',t',ht',hn',hgt',_,_⟩:=zoK hg
   have:=(zrE.1 ((h p' hp' t' ht').2 g hgt')).2.2.2.2
   rw[hn']at this
   exact this
 ·intro h p hp t ht
  obtain⟨h1,h2,h3⟩:=h p hp t ht
  have ho:=(hok p hp).type t ht
  refine⟨h1,fun f hf=>?_⟩
  obtain⟨g2,g3,g4,g5⟩:=zuI.1 (h3 f hf)
  refine zrE.2 ⟨(zxl ho.nm).1 h2 f hf,g2,g3,g4,?_⟩
  cases hn:needy f with
  | false =>
   have:f.needs=[]:=by
    unfold needy at hn
    cases hfn:f.needs with
    | nil=>rfl
    | cons a b=>rw[hfn]at hn;simp at hn
   rw[this];rfl
  | true =>
   rw[zw0 hok g4 (zr6 hok hp ht hf) hn]at g5
   exact g5
theorem zuJ(ps:List Part):(v6S ps).code=0↔(v6I ps).code=0:=by
 rw[zsG,zsF.1]
 exact⟨fun h=>⟨h.1,(zC5 h.1.ok).1 h.2⟩,fun h=>⟨h.1,(zC5 h.1.ok).2 h.2⟩⟩
end Go.Fw
namespace Go.Fw
open Go
set_option linter.unusedSimpArgs false
set_option linter.unusedVariables false
def zGg(f:Field)(h:Bool)(ns:List (List UInt8)):Field:=⟨f.name,f.of,f.list,f.must,false,h,false,ns⟩
def zHe(f g:Field):Field:=⟨g.name,g.of,g.list,g.must,g.far,g.hidden ||f.hidden,g.shared,bif needy f then f.needs else g.needs⟩
def zqn(fs:List Field)(f:Field):List Field:=match fs.findIdx? (fun g=>g.name==f.name)with
 | none=>fs++[zGg f f.hidden f.needs]
 | some k=>match fs[k]? with
  | some g=>fs.set k (zHe f g)
  | none=>fs
def zwH(ps:List Part)(n f:List UInt8):Bool:=(zav ps n f).any (·.hidden)
def zom(ps:List Part)(n:List UInt8)(fs:List Field)(f:Field):List Field:=bif fs.any (fun g=>g.name==f.name)then fs else fs++[zGg f (zwH ps n f.name) (zdj ps n f.name)]
def crM(ps:List Part)(ts:List Typ)(t:Typ):Nat×List Typ:=match ts.findIdx? (fun u=>u.name==t.name)with
 | none=>(ts.length,ts++[⟨t.name,zpG ps t.name,[]⟩])
 | some k=>(k,ts)
def zzB(put:List Field->Field->List Field)(ts:List Typ)(a:Nat)(fs:List Field):List Typ:=match ts[a]? with
 | some u=>ts.set a ⟨u.name,u.key,fs.foldl put u.fields⟩
 | none=>ts
def zl2(ps:List Part)(put:List UInt8->List Field->Field->List Field)(ts:List Typ)(t:Typ):List Typ:=zzB (put t.name) (crM ps ts t).2 (crM ps ts t).1 t.fields
def zrw(ps:List Part)(put:List UInt8->List Field->Field->List Field)(qs:List Part):List Typ:=qs.foldl (fun S p=>p.types.foldl (zl2 ps put) S) []
theorem ziJ{put:List Field->Field->List Field}{ts:List Typ}{a:Nat}{fs:List Field}(h:a<ts.length):zzB put ts a fs=ts.set a ⟨ts[a].name,ts[a].key,fs.foldl put ts[a].fields⟩:=by
 unfold zzB
 rw[ygb h]
theorem zwD{put:List Field->Field->List Field}{ts:List Typ}{a:Nat}:zzB put ts a []=ts:=by
 unfold zzB
 cases h:ts[a]? with
 | none=>rfl
 | some u =>
  obtain⟨ha,rfl⟩:=yga.1 h
  exact List.set_getElem_self ha
theorem zwp(ps:List Part)(ts:List Typ)(t:Typ):(crM ps ts t).1<(crM ps ts t).2.length:=by
 unfold crM
 cases h:ts.findIdx? (fun u=>u.name==t.name)with
 | none=>simp
 | some k=>exact(List.findIdx?_eq_some_iff_getElem.1 h).1
def Bd(b c:Nat)(ts:List Typ):Prop:=ts.length<=b/\∀t∈ts,t.name.length<=KK/\t.key.length<=KK/\t.fields.length<=c/\∀f∈t.fields,KF KK f
def zrv(put:List Field->Field->List Field):Prop:=∀fs f,KF KK f->(∀g∈fs,KF KK g)->(put fs f).length<=fs.length+1/\∀g∈put fs f,KF KK g
theorem zoM{put:List Field->Field->List Field}(h:zrv put):∀(xs fs:List Field),(∀f∈xs,KF KK f)->(∀g∈fs,KF KK g)->(xs.foldl put fs).length<=fs.length+xs.length/\∀g∈xs.foldl put fs,KF KK g
 | [],fs,_,h2=>⟨by simp,h2⟩
 | x:: xs,fs,h1,h2=>by
  obtain⟨a1,a2⟩:=h fs x (h1 x (by simp)) h2
  obtain⟨b1,b2⟩:=zoM h xs (put fs x) (fun f hf=>h1 f (by simp[hf])) a2
  exact⟨by simp only[List.foldl_cons,yhs];omega,b2⟩
theorem zDv{put:List Field->Field->List Field}(h:zrv put){ts:List Typ}{a b c n:Nat}{fs:List Field}(hb:Bd b c ts)(hf:∀f∈fs,KF KK f)(hn:fs.length<=n):Bd b (c+n) (zzB put ts a fs):=by
 unfold zzB
 cases hx:ts[a]? with
 | none=>exact⟨hb.1,fun t ht=>⟨(hb.2 t ht).1,(hb.2 t ht).2.1,Nat.le_trans (hb.2 t ht).2.2.1 (Nat.le_add_right _ _),(hb.2 t ht).2.2.2⟩⟩
 | some u =>
  have hu:=hb.2 u (ygd hx)
  refine⟨by simpa using hb.1,fun t ht=>?_⟩
  rcases List.mem_or_eq_of_mem_set ht with h1|rfl
  ·exact⟨(hb.2 t h1).1,(hb.2 t h1).2.1,Nat.le_trans (hb.2 t h1).2.2.1 (Nat.le_add_right _ _),(hb.2 t h1).2.2.2⟩
  ·obtain⟨a1,a2⟩:=zoM h fs u.fields hf hu.2.2.2
   exact⟨hu.1,hu.2.1,by have:=hu.2.2.1;show(fs.foldl put u.fields).length<=_;omega,a2⟩
theorem zBK{ps:List Part}(hp:KL KK ps)(n:List UInt8):(zpG ps n).length<=KK:=by
 unfold zpG
 cases h:ps.findSome? fun p=>match tyM p n with
  | some t=>bif t.key !=[]then some t.key else none
  | none=>none with
 | none=>simp
 | some l =>
  obtain⟨p,hpm,he⟩:=List.exists_of_findSome?_eq_some h
  cases ht:tyM p n with
  | none=>rw[ht]at he;cases he
  | some t =>
   rw[ht]at he
   cases hk:(t.key !=[])with
   | false=>simp only[hk]at he;cases he
   | true =>
    simp only[hk,cond_true]at he
    cases he
    exact((hp.2 p hpm).2.2 t (zsw ht).1).2.1
theorem zzf{ps:List Part}(hp:KL KK ps){ts:List Typ}{t:Typ}{b c:Nat}(hb:Bd b c ts)(ht:t.name.length<=KK):Bd (b+1) c (crM ps ts t).2:=by
 unfold crM
 cases h:ts.findIdx? (fun u=>u.name==t.name)with
 | some k=>exact⟨Nat.le_succ_of_le hb.1,hb.2⟩
 | none =>
  refine⟨by simpa using hb.1,fun u hu=>?_⟩
  rcases List.mem_append.1 hu with h1|h1
  ·exact hb.2 u h1
  ·rw[List.mem_singleton]at h1
   subst h1
   exact⟨ht,zBK hp _,by simp,by simp⟩
theorem zC6{ps:List Part}(hp:KL KK ps){put:List UInt8->List Field->Field->List Field}(h:∀n,zrv (put n)){ts:List Typ}{t:Typ}{b c:Nat}(hb:Bd b c ts)(ht:KT KK t)(h8:t.fields.length<=8):Bd (b+1) (c+8) (zl2 ps put ts t):=
 zDv (h _) (zzf hp hb ht.1) ht.2.2.2 h8
theorem zux{ps:List Part}(hp:KL KK ps){put:List UInt8->List Field->Field->List Field}(h:∀n,zrv (put n)):∀(us ts:List Typ)(b c:Nat),Bd b c ts->(∀t∈us,KT KK t/\t.fields.length<=8)->Bd (b+us.length) (c+8*us.length) (us.foldl (zl2 ps put) ts)
 | [],ts,b,c,hb,_=>hb
 | u:: us,ts,b,c,hb,hu=>by
  have h1:=zC6 hp h hb (hu u (by simp)).1 (hu u (by simp)).2
  have h2:=zux hp h us _ _ _ h1 fun t ht=>hu t (by simp[ht])
  have e1:b+1+us.length=b+(us.length+1):=by omega
  have e2:c+8+8*us.length=c+8*(us.length+1):=by omega
  rw[e1,e2]at h2
  exact h2
theorem zyV{ps:List Part}(hp:KL KK ps){put:List UInt8->List Field->Field->List Field}(h:∀n,zrv (put n)):∀(qs:List Part)(ts:List Typ)(b c:Nat),Bd b c ts->(∀p∈qs,p.types.length<=5/\∀t∈p.types,KT KK t/\t.fields.length<=8)->Bd (b+5*qs.length) (c+40*qs.length) (qs.foldl (fun S p=>p.types.foldl (zl2 ps put) S) ts)
 | [],ts,b,c,hb,_=>hb
 | q:: qs,ts,b,c,hb,hq=>by
  have h1:=zux hp h q.types _ _ _ hb (hq q (by simp)).2
  have h5:=(hq q (by simp)).1
  have h1':Bd (b+5) (c+40) (q.types.foldl (zl2 ps put) ts):=⟨by have:=h1.1;omega,fun t ht=>⟨(h1.2 t ht).1,(h1.2 t ht).2.1,by have:=(h1.2 t ht).2.2.1;omega,(h1.2 t ht).2.2.2⟩⟩
  have h2:=zyV hp h qs _ _ _ h1' fun p hp=>hq p (by simp[hp])
  have e1:b+5+5*qs.length=b+5*(qs.length+1):=by omega
  have e2:c+40+40*qs.length=c+40*(qs.length+1):=by omega
  rw[e1,e2]at h2
  exact h2
theorem zvv:zrv zqn:=by
 intro fs f hf hfs
 unfold zqn
 cases h:fs.findIdx? (fun g=>g.name==f.name)with
 | none =>
  refine⟨by simp,fun g hg=>?_⟩
  rcases List.mem_append.1 hg with h1|h1
  ·exact hfs g h1
  ·rw[List.mem_singleton]at h1
   subst h1
   exact⟨hf.1,hf.2.1,hf.2.2⟩
 | some k =>
  cases hk:fs[k]? with
  | none=>simp only[hk];exact⟨by simp,hfs⟩
  | some u =>
   simp only[hk]
   refine⟨by simp,fun g hg=>?_⟩
   rcases List.mem_or_eq_of_mem_set hg with h1|rfl
   ·exact hfs g h1
   ·have hu:=hfs u (ygd hk)
    refine⟨hu.1,hu.2.1,?_⟩
    unfold zHe
    cases needy f
    ·exact hu.2.2
    ·exact hf.2.2
theorem zAj{ps:List Part}(hp:KL KK ps)(n f:List UInt8):KS KK (zdj ps n f):=by
 rcases ziM ps n f with⟨e,_⟩|⟨g,hg,_,e⟩
 ·rw[e];exact⟨by simp,by simp⟩
 ·rw[e]
  obtain⟨p,hpm,t,ht,_,hgt,_⟩:=zoK hg
  exact(((hp.2 p hpm).2.2 t ht).2.2.2 g hgt).2.2
theorem zAs{ps:List Part}(hp:KL KK ps)(n:List UInt8):zrv (zom ps n):=by
 intro fs f hf hfs
 unfold zom
 cases fs.any (fun g=>g.name==f.name)with
 | true=>exact⟨by simp,hfs⟩
 | false =>
  refine⟨by simp,fun g hg=>?_⟩
  rcases List.mem_append.1 hg with h1|h1
  ·exact hfs g h1
  ·rw[List.mem_singleton]at h1
   subst h1
   exact⟨hf.1,hf.2.1,zAj hp _ _⟩
theorem zyd{n key:List UInt8}{fs:List Field}{f:Field}(ht:fs.length<=1000)(hf:KF KK f):zo4 (⟨n,key,fs⟩,f)=some ⟨n,key,zqn fs f⟩:=by
 rw[zqU];unfold zoY;dsimp only
 have hk:KK=1048576:=rfl
 have hl:=hf.2.2.1
 rw[zfJ (show fs.length<=_ by omega),zac]
 unfold ixM zqn
 cases h:fs.findIdx? (fun g=>g.name==f.name)with
 | none =>
  simp only[show decide ((-1:Int)<0)=true from rfl,zaf]
  (rw[zdI];rotate_left;(have:=hBM;simp only[yhr,yhs,yht,List.length_map,yhc,yhb];omega))
  (rw[zdI];rotate_left;(have:=hBM;simp only[yhr,yhs,yht,List.length_map,yhc,yhb];omega))
  (rw[zdI];rotate_left;(have:=hBM;simp only[yhr,yhs,yht,List.length_map,yhc,yhb];omega))
  rfl
 | some k =>
  have hk:=(List.findIdx?_eq_some_iff_getElem.1 h).1
  simp only[zq9,zae,ygb hk]
  (rw[zdI];rotate_left;(have:=hBM;simp only[yhr,yhs,yht,List.length_map,yhc,yhb];omega))
  have g1:(decide (0<=(k:Int))&&decide ((k:Int)<(fs.length:Int)))=true:=by simp;omega
  have g2:decide (0+f.needs.length<=LIM)=true:=by(have:=hBM;simp only[yhr,yhs,yht,List.length_map,yhc,yhb];omega)
  have g3:f.needs.length<=1099511627776:=by omega
  simp only[g1,zag,Int.toNat_natCast,ygb hk,zac,zmP]
  unfold zHe
  rw[show needy f=decide (0<f.needs.length)from rfl]
  have e0:fs.set k fs[k]=fs:=List.set_getElem_self hk
  cases hh:f.hidden with
  | false =>
   cases hn:decide (0<f.needs.length)with
   | false=>simp[zab,zaa,e0]
   | true=>simp[zab,zaa,gd,g1,g2,g3,hk,LIM]
  | true =>
   cases hn:decide (0<f.needs.length)with
   | false=>simp[zab,zaa]
   | true=>simp[zab,zaa,gd,hk,g3,LIM]
end Go.Fw
namespace Go.Fw
open Go
set_option linter.unusedSimpArgs false
set_option linter.unusedVariables false
def SmL(ps:List Part):Prop:=ps.length<=4/\∀p∈ps,p.types.length<=5/\∀t∈p.types,KT KK t/\t.fields.length<=8
theorem Bd.mono{b c b' c':Nat}{ts:List Typ}(h:Bd b c ts)(hb:b<=b')(hc:c<=c'):Bd b' c' ts:=⟨Nat.le_trans h.1 hb,fun t ht=>⟨(h.2 t ht).1,(h.2 t ht).2.1,Nat.le_trans (h.2 t ht).2.2.1 hc,(h.2 t ht).2.2.2⟩⟩
theorem zrA{ps:List Part}(hp:KL KK ps)(hs:SmL ps){put:List UInt8->List Field->Field->List Field}(h:∀n,zrv (put n))(i:Nat):Bd 20 160 (zrw ps put (ps.take i)):=by
 have hl:(ps.take i).length<=4:=Nat.le_trans (by rw[List.length_take];exact Nat.min_le_right _ _) hs.1
 exact(zyV hp h (ps.take i) [] 0 0 ⟨by simp,by simp⟩ fun p hp=>hs.2 p (List.mem_of_mem_take hp)).mono (by omega) (by omega)
theorem zCt{ps:List Part}(hp:KL KK ps)(hs:SmL ps){put:List UInt8->List Field->Field->List Field}(h:∀n,zrv (put n)){S:List Typ}(hS:Bd 20 160 S){p:Part}(hpm:p∈ps)(j:Nat):Bd 25 200 ((p.types.take j).foldl (zl2 ps put) S):=by
 have hl:(p.types.take j).length<=5:=Nat.le_trans (by rw[List.length_take];exact Nat.min_le_right _ _) (hs.2 p hpm).1
 exact(zux hp h (p.types.take j) S 20 160 hS fun t ht=>(hs.2 p hpm).2 t (List.mem_of_mem_take ht)).mono (by omega) (by omega)
theorem zs9{ps:List Part}{put:List UInt8->List Field->Field->List Field}{qs:List Part}{i:Nat}(h:i<qs.length):zrw ps put (qs.take (i+1))=qs[i].types.foldl (zl2 ps put) (zrw ps put (qs.take i)):=by
 unfold zrw
 rw[List.take_succ_eq_append_getElem h,List.foldl_append]
 rfl
theorem zmF{α β:Type}{f:β->α->β}{l:List α}{z:β}{i:Nat}(h:i<l.length):(l.take (i+1)).foldl f z=f ((l.take i).foldl f z) l[i]:=by
 rw[List.take_succ_eq_append_getElem h,List.foldl_append]
 rfl
theorem zFf{ps:List Part}{ts:List Typ}{t:Typ}(hl:ts.length<=100):(zab (decide (ixM (fun u:Typ=>u.name==t.name) ts<0))
   (gd (decide (List.length ts+List.length [(⟨t.name,zpG ps t.name,[]⟩:Typ)]<=LIM)) (some ((ts.length:Int),([]:List UInt8),([]:List Typ),([97]:List UInt8),ts++[⟨t.name,zpG ps t.name,[]⟩])))
   (some (ixM (fun u:Typ=>u.name==t.name) ts,[],[],[97],ts)))=some (((crM ps ts t).1:Int),[],[],[97],(crM ps ts t).2):=by
 (rw[zdI];rotate_left;(have:=hBM;simp only[yhr,yhs,yht,List.length_map,yhc,yhb];omega))
 unfold ixM crM
 cases h:ts.findIdx? (fun u=>u.name==t.name)with
 | none=>rfl
 | some k=>simp only[zq9,zae]
theorem zyb{ps:List Part}(hp:KL KK ps)(hs:SmL ps):zm7 ps=some ⟨[97],zrw ps (fun _=>zqn) ps⟩:=by
 rw[zqS];unfold zoW
 rw[zeH (s0:=((0:Int),([]:List UInt8),([]:List Typ),([97]:List UInt8),([]:List Typ))) ps.length (fun i=>((i:Int),[],[],[97],zrw ps (fun _=>zqn) (ps.take i))) ((ps.length:Int),[],[],[97],zrw ps (fun _=>zqn) ps) rfl ?_ ?_]
 ·intro i hi
  have h3:=zar hi (up hp.1)
  have hq:=hp.2 _ (ygh hi)
  have hO:=zrA hp hs (put:=fun _=>zqn) (fun _=>zvv) i
  rw[zs9 hi]
  generalize zrw ps (fun _=>zqn) (ps.take i)=S at *
  simp only[zaO hi,zaf]
  rw[zeH (s0:=((0:Int),([]:List UInt8),([]:List Typ),([97]:List UInt8),S)) ps[i].types.length (fun j=>((j:Int),[],[],[97],(ps[i].types.take j).foldl (zl2 ps fun _=>zqn) S)) ((ps[i].types.length:Int),[],[],[97],ps[i].types.foldl (zl2 ps fun _=>zqn) S) rfl ?_ ?_]
  ·simp only[h3,zag]
   rfl
  ·intro j hj
   have h4:=zar hj (up hq.2.1)
   have hM:=zCt hp hs (put:=fun _=>zqn) (fun _=>zvv) hO (ygh hi) j
   have ht:=(hs.2 _ (ygh hi)).2 _ (ygh hj)
   rw[zmF hj]
   simp only[zaE,zal hi,zaO hj,zal hj,zaf,zag,zac,h4,zlV hp]
   generalize(ps[i].types.take j).foldl (zl2 ps fun _=>zqn) S=ts at *
   generalize ps[i].types[j]=t at *
   have e:zfh (⟨[97],ts⟩,t.name)=some (ixM (fun u:Typ=>u.name==t.name) ts):=zg3 (p:=⟨[97],ts⟩) (by have:=hM.1;show ts.length<=_;omega)
   rw[e,zac,zFf (Nat.le_trans hM.1 (by decide)),zac]
   have ha:=zwp ps ts t
   have hb:=zzf hp hM ht.1.1
   unfold zl2
   generalize(crM ps ts t).1=a at *
   generalize(crM ps ts t).2=ts1 at *
   rw[zeH (s0:=((0:Int),([]:List UInt8),([]:List Typ),([97]:List UInt8),ts1)) t.fields.length (fun k=>((k:Int),[],[],[97],zzB zqn ts1 a (t.fields.take k))) ((t.fields.length:Int),[],[],[97],zzB zqn ts1 a t.fields) (by simp[zwD]) ?_ ?_]
   ·rfl
   ·intro k hk
    have h5:=zar hk (up ht.1.2.2.1)
    have hkl:(t.fields.take k).length<=8:=Nat.le_trans (by rw[List.length_take];exact Nat.min_le_right _ _) ht.2
    have hkf:∀f∈t.fields.take k,KF KK f:=fun f hf=>ht.1.2.2.2 f (List.mem_of_mem_take hf)
    have hc:=zoM zvv (t.fields.take k) ts1[a].fields hkf (hb.2 _ (ygh ha)).2.2.2
    have hc2:=(hb.2 _ (ygh ha)).2.2.1
    rw[ziJ ha,ziJ ha,zmF hk]
    generalize(t.fields.take k).foldl zqn ts1[a].fields=fs at *
    have g1:(decide (0<=(a:Int))&&decide ((a:Int)<((ts1.set a ⟨ts1[a].name,ts1[a].key,fs⟩).length:Int)))=true:=by simp;omega
    have g2:(ts1.set a ⟨ts1[a].name,ts1[a].key,fs⟩)[Int.toNat (a:Int)]? =some ⟨ts1[a].name,ts1[a].key,fs⟩:=by simp[ha]
    simp only[zaO hk,zaf,g1,zag,g2,zac,zaE,zal hk,zyd (show fs.length<=1000 by omega) (ht.1.2.2.2 _ (ygh hk)),h5]
    simp[ha,gd]
   ·simp only[zap,zae,List.take_length]
  ·simp only[zaE,zal hi,zap,zae,zag,zac,List.take_length]
 ·simp only[zap,zae,List.take_length]
theorem zBD{l:List Field}(hl:l.length<=KK):zep l=some (l.any (·.hidden)):=by
 rw[ziZ];unfold zeb
 have h2:zes l=some (ixM (fun f:Field=>f.hidden) l):=by
  rw[zi2];unfold zee
  refine ixf (g:=zfz) _ (up hl) (fun f _=>?_)
  rw[zjz];unfold zfo
  rfl
 rw[h2,zac,zlh]
theorem zu5{ts:List Typ}{t:Typ}(hl:ts.length<=100):zer (ts,t)=some (ixM (fun u:Typ=>u.name==t.name) ts):=by
 rw[zi1];unfold zed;dsimp only
 refine ixf (g:=fun u=>zfy (u,t)) _ (Nat.le_trans hl (by decide)) (fun u _=>?_)
 rw[zjy];unfold zfn;dsimp only
theorem zxw{n k x:List UInt8}{fs:List Field}(hl:fs.length<=1000):∃g,zb4 ((n,k),x,fs)=some ((g,fs.any fun f=>f.name==x),fs):=by
 rw[zfV];unfold zbX;dsimp only
 have h:zbh (fs,x)=some (ixM (fun t=>t.name==x) fs):=by
  rw[zdM];unfold zbK;dsimp only
  exact ixf (g:=fun t:Field=>zbC (t,x)) (fun t=>t.name==x) (Nat.le_trans hl (by decide)) (fun t _=>ztv t x)
 rw[h,zac]
 rcases zcf (fun t:Field=>t.name==x) fs with⟨h1,h2,h3⟩|⟨i,hi,h1,h2,_,h3⟩
 ·rw[h1,h3];exact⟨_,rfl⟩
 ·have g1:(decide (0<=(i:Int))&&decide ((i:Int)<(fs.length:Int)))=true:=by simp;omega
  rw[h1,h3,zq9,zae,g1,zag,zal hi,zac]
  exact⟨_,rfl⟩
theorem zy7{l:List (List UInt8)}(h:KS KK l):zaN l=some l:=by
 rw[zca]
 unfold zaM
 have:decide (l.length*16<=140737488355328)=true:=by
  have:=h.1
  have hk:KK=1048576:=rfl
  simp;omega
 rw[this];rfl
theorem zxH{ps:List Part}(hp:KL KK ps)(hs:SmL ps):zgf ps=some ⟨[97],zrw ps (zom ps) ps⟩:=by
 rw[zma];unfold zhD
 have hpk:=zAs hp
 rw[zeH (s0:=((0:Int),([]:List UInt8),([]:List Typ),([97]:List UInt8),([]:List Typ))) ps.length (fun i=>((i:Int),[],[],[97],zrw ps (zom ps) (ps.take i))) ((ps.length:Int),[],[],[97],zrw ps (zom ps) ps) rfl ?_ ?_]
 ·intro i hi
  have h3:=zar hi (up hp.1)
  have hq:=hp.2 _ (ygh hi)
  have hO:=zrA hp hs hpk i
  rw[zs9 hi]
  generalize zrw ps (zom ps) (ps.take i)=S at *
  simp only[zaO hi,zaf,zaE,zal hi,zag,zac]
  rw[zeH (s0:=((0:Int),([]:List UInt8),([]:List Typ),([97]:List UInt8),S)) ps[i].types.length (fun j=>((j:Int),[],[],[97],(ps[i].types.take j).foldl (zl2 ps (zom ps)) S)) ((ps[i].types.length:Int),[],[],[97],ps[i].types.foldl (zl2 ps (zom ps)) S) rfl ?_ ?_]
  ·simp only[h3,zag]
   rfl
  ·intro j hj
   have h4:=zar hj (up hq.2.1)
   have hM:=zCt hp hs hpk hO (ygh hi) j
   have ht:=(hs.2 _ (ygh hi)).2 _ (ygh hj)
   rw[zmF hj]
   simp only[zaE,zaO hj,zal hj,zaf,zag,zac,h4,zlH hp]
   generalize(ps[i].types.take j).foldl (zl2 ps (zom ps)) S=ts at *
   generalize ps[i].types[j]=t at *
   rw[zu5 (Nat.le_trans hM.1 (by decide)),zac,zFf (Nat.le_trans hM.1 (by decide)),zac]
   have ha:=zwp ps ts t
   have hb:=zzf hp hM ht.1.1
   unfold zl2
   generalize(crM ps ts t).1=a at *
   generalize(crM ps ts t).2=ts1 at *
   have g0:(decide (0<=(a:Int))&&decide ((a:Int)<(ts1.length:Int)))=true:=by simp;omega
   dsimp only
   rw[g0,zag,Int.toNat_natCast]
   rw[zeH (s0:=((0:Int),a,([]:List UInt8),([]:List Typ),([97]:List UInt8),ts1)) t.fields.length (fun k=>((k:Int),a,[],[],[97],zzB (zom ps t.name) ts1 a (t.fields.take k))) ((t.fields.length:Int),a,[],[],[97],zzB (zom ps t.name) ts1 a t.fields) (by simp[zwD]) ?_ ?_]
   ·rfl
   ·intro k hk
    have h5:=zar hk (up ht.1.2.2.1)
    have hkl:(t.fields.take k).length<=8:=Nat.le_trans (by rw[List.length_take];exact Nat.min_le_right _ _) ht.2
    have hkf:∀f∈t.fields.take k,KF KK f:=fun f hf=>ht.1.2.2.2 f (List.mem_of_mem_take hf)
    have hc:=zoM (hpk t.name) (t.fields.take k) ts1[a].fields hkf (hb.2 _ (ygh ha)).2.2.2
    have hc2:=(hb.2 _ (ygh ha)).2.2.1
    rw[ziJ ha,ziJ ha,zmF hk]
    generalize(t.fields.take k).foldl (zom ps t.name) ts1[a].fields=fs at *
    have g2:(ts1.set a ⟨ts1[a].name,ts1[a].key,fs⟩)[a]? =some ⟨ts1[a].name,ts1[a].key,fs⟩:=by simp[ha]
    obtain⟨g,hg⟩:=zxw (n:=ts1[a].name) (k:=ts1[a].key) (x:=t.fields[k].name) (show fs.length<=1000 by omega)
    have hl:=zh7 ps t.name t.fields[k].name
    have hh:=zBD (l:=zav ps t.name t.fields[k].name) (Nat.le_trans hl hp.1)
    simp only[zaO hk,zaf,zag,g2,zac,zaE,zal hk,hg,h5,decide_true,List.set_set,zmE hp,hh,znG hp,zy7 (zAj hp _ _)]
    unfold zom
    cases fs.any (fun f=>f.name==t.fields[k].name)with
    | true=>simp[zab]
    | false =>
     simp only[zae,cond_false]
     (rw[zdI];rotate_left;(have:=hBM;simp only[yhr,yhs,yht,List.length_map,yhc,yhb];omega))
     simp[zGg,zwH]
   ·simp only[zap,zae,List.take_length]
  ·simp only[zap,zae,List.take_length]
 ·simp only[zap,zae,List.take_length]
end Go.Fw
namespace Go.Fw
open Go
set_option linter.unusedSimpArgs false
set_option linter.unusedVariables false
abbrev SB:=List UInt8
def vF(H:SB->Bool)(N:SB->List SB)(fs:List Field):List Field:=fs.map fun g=>⟨g.name,g.of,g.list,g.must,g.far,H g.name,g.shared,N g.name⟩
def vT(H:SB->SB->Bool)(N:SB->SB->List SB)(ts:List Typ):List Typ:=ts.map fun t=>⟨t.name,t.key,vF (H t.name) (N t.name) t.fields⟩
def zrq(fs:List Field)(f:Field):List Field:=bif fs.any (fun g=>g.name==f.name)then fs else fs++[zGg f false []]
def upH(H:SB->Bool)(f:Field):SB->Bool:=fun x=>H x ||(f.name==x&&f.hidden)
def upN(N:SB->List SB)(f:Field):SB->List SB:=fun x=>bif f.name==x&&needy f then f.needs else N x
theorem zGU(H:SB->Bool)(N:SB->List SB)(fs:List Field)(x:SB):(vF H N fs).any (fun g=>g.name==x)=fs.any fun g=>g.name==x:=by
 unfold vF
 rw[List.any_map]
 rfl
theorem zqd(H:SB->SB->Bool)(N:SB->SB->List SB)(ts:List Typ):(vT H N ts).length=ts.length:=by simp[vT]
theorem zAY(H:SB->SB->Bool)(N:SB->SB->List SB)(ts:List Typ)(i:Nat)(h:i<(vT H N ts).length):(vT H N ts)[i]=⟨(ts[i]'(by rwa [zqd]at h)).name,(ts[i]'(by rwa [zqd]at h)).key,vF (H (ts[i]'(by rwa [zqd]at h)).name) (N (ts[i]'(by rwa [zqd]at h)).name) (ts[i]'(by rwa [zqd]at h)).fields⟩:=by
 simp[vT]
theorem zwq(ps:List Part)(H:SB->SB->Bool)(N:SB->SB->List SB)(ts:List Typ)(t:Typ):crM ps (vT H N ts) t=((crM ps ts t).1,vT H N (crM ps ts t).2):=by
 have h:(vT H N ts).findIdx? (fun u=>u.name==t.name)=ts.findIdx? (fun u=>u.name==t.name):=by
  unfold vT
  rw[List.findIdx?_map]
  rfl
 unfold crM
 rw[h]
 cases ts.findIdx? (fun u=>u.name==t.name)with
 | none=>simp[vT,vF]
 | some k=>rfl
theorem zBn(ps:List Part)(ts:List Typ)(t:Typ):((crM ps ts t).2[(crM ps ts t).1]'(zwp ps ts t)).name=t.name:=by
 have:∀(c:Nat×List Typ)(hc:c=crM ps ts t)(h:c.1<c.2.length),(c.2[c.1]'h).name=t.name:=by
  intro c hc h
  unfold crM at hc
  cases hf:ts.findIdx? (fun u=>u.name==t.name)with
  | none=>rw[hf]at hc;subst hc;simp
  | some k =>
   rw[hf]at hc
   subst hc
   have:=(List.findIdx?_eq_some_iff_getElem.1 hf).2.1
   simpa using this
 exact this _ rfl _
theorem zzg(ps:List Part)(ts:List Typ)(t:Typ):∃a ts1,crM ps ts t=(a,ts1)/\∃ha:a<ts1.length,ts1[a].name=t.name:=⟨_,_,rfl,zwp ps ts t,zBn ps ts t⟩
theorem zCk(H:SB->Bool)(N:SB->List SB)(fs:List Field)(i:Nat)(h:i<(vF H N fs).length)(h':i<fs.length):(vF H N fs)[i]=⟨fs[i].name,fs[i].of,fs[i].list,fs[i].must,fs[i].far,H fs[i].name,fs[i].shared,N fs[i].name⟩:=by
 simp[vF]
structure InvT (H:SB->SB->Bool)(N:SB->SB->List SB)(ts:List Typ):Prop where
 ty:∀(i j:Nat)(hi:i<ts.length)(hj:j<ts.length),ts[i].name=ts[j].name->i=j
 fd:∀t∈ts,∀(i j:Nat)(hi:i<t.fields.length)(hj:j<t.fields.length),t.fields[i].name=t.fields[j].name->i=j
 z:∀n x,(∀t∈ts,t.name=n->∀g∈t.fields,g.name≠x)->H n x=false/\N n x=[]
structure InvF (H:SB->Bool)(N:SB->List SB)(fs:List Field):Prop where
 fd:∀(i j:Nat)(hi:i<fs.length)(hj:j<fs.length),fs[i].name=fs[j].name->i=j
 z:∀x,(∀g∈fs,g.name≠x)->H x=false/\N x=[]
theorem zxa{fs:List Field}{f:Field}:(∀g∈fs,g∈zrq fs f)/\∃g∈zrq fs f,g.name=f.name:=by
 unfold zrq
 cases h:fs.any (fun g=>g.name==f.name)with
 | true =>
  obtain⟨g,hg,he⟩:=List.any_eq_true.1 h
  exact⟨fun g hg=>hg,g,hg,by simpa using he⟩
 | false=>exact⟨fun g hg=>List.mem_append_left _ hg,_,List.mem_append_right _ (List.mem_singleton.2 rfl),rfl⟩
theorem InvF.put{H:SB->Bool}{N:SB->List SB}{fs:List Field}(h:InvF H N fs)(f:Field):InvF (upH H f) (upN N f) (zrq fs f):=by
 refine⟨?_,fun x hx=>?_⟩
 ·unfold zrq
  cases ha:fs.any (fun g=>g.name==f.name)with
  | true=>exact h.fd
  | false =>
   simp only[cond_false]
   have hne:∀g∈fs,g.name≠f.name:=fun g hg=>by simpa using List.any_eq_false.1 ha g hg
   intro i j hi hj he
   rw[yhr,List.length_singleton]at hi hj
   by_cases h1:i<fs.length
   ·by_cases h2:j<fs.length
    ·rw[List.getElem_append_left h1,List.getElem_append_left h2]at he
     exact h.fd i j h1 h2 he
    ·have:j=fs.length:=by omega
     subst this
     rw[List.getElem_append_left h1,List.getElem_append_right (Nat.le_refl _)]at he
     simp only[Nat.sub_self,List.getElem_cons_zero]at he
     exact absurd he (hne _ (ygh h1))
   ·have:i=fs.length:=by omega
    subst this
    by_cases h2:j<fs.length
    ·rw[List.getElem_append_left h2,List.getElem_append_right (Nat.le_refl _)]at he
     simp only[Nat.sub_self,List.getElem_cons_zero]at he
     exact absurd he.symm (hne _ (ygh h2))
    ·omega
 ·obtain⟨g,hg,he⟩:=(zxa (fs:=fs) (f:=f)).2
  have h1:f.name≠x:=fun hc=>hx g hg (he.trans hc)
  have h2:=h.z x fun g hg=>hx g (zxa.1 g hg)
  have h3:(f.name==x)=false:=by simpa using h1
  unfold upH upN
  rw[h3]
  simp[h2]
theorem zAr{H:SB->Bool}{N:SB->List SB}{fs:List Field}(h:InvF H N fs)(f:Field):zqn (vF H N fs) f=vF (upH H f) (upN N f) (zrq fs f):=by
 have hi:(vF H N fs).findIdx? (fun g=>g.name==f.name)=fs.findIdx? (fun g=>g.name==f.name):=by
  unfold vF
  rw[List.findIdx?_map]
  rfl
 unfold zqn
 rw[hi]
 cases hf:fs.findIdx? (fun g=>g.name==f.name)with
 | none =>
  have hn:=List.findIdx?_eq_none_iff.1 hf
  have ha:fs.any (fun g=>g.name==f.name)=false:=by
   rw[List.any_eq_false]
   intro g hg
   simp[hn g hg]
  have hz:=h.z f.name fun g hg=>by simpa using hn g hg
  unfold zrq
  rw[ha]
  simp only[cond_false]
  unfold vF
  rw[List.map_append]
  congr 1
  ·refine List.map_congr_left fun g hg=>?_
   have h3:(f.name==g.name)=false:=by
    have:=hn g hg
    rw[BEq.comm];exact this
   unfold upH upN
   rw[h3]
   simp
  ·simp only[List.map_cons,List.map_nil,zGg,upH,upN,hz,BEq.rfl,Bool.true_and,Bool.false_or]
   unfold needy
   cases hd:decide (0<f.needs.length)with
   | true=>rfl
   | false =>
    have:f.needs=[]:=by
     cases hfn:f.needs with
     | nil=>rfl
     | cons a b=>rw[hfn]at hd;simp at hd
    rw[this];rfl
 | some k =>
  obtain⟨hk,hkn,_⟩:=List.findIdx?_eq_some_iff_getElem.1 hf
  have hkn':fs[k].name=f.name:=by simpa using hkn
  have ha:fs.any (fun g=>g.name==f.name)=true:=List.any_eq_true.2 ⟨_,ygh hk,hkn⟩
  have hk':k<(vF H N fs).length:=by simpa[vF]using hk
  unfold zrq
  rw[ha]
  simp only[cond_true,ygb hk']
  refine List.ext_getElem (by simp[vF]) fun j h1 h2=>?_
  have hj:j<fs.length:=by simpa[vF]using h2
  by_cases hjk:k=j
  ·subst hjk
   rw[List.getElem_set_self,zCk _ _ _ _ _ hk,zCk _ _ _ _ _ hk]
   unfold zHe upH upN
   simp[hkn']
  ·rw[List.getElem_set_ne hjk]
   have h3:(f.name==fs[j].name)=false:=by
    have:¬f.name=fs[j].name:=fun hc=>hjk (h.fd k j hk hj (hkn'.trans hc))
    simpa using this
   rw[zCk _ _ _ _ _ hj,zCk _ _ _ _ _ hj]
   unfold upH upN
   simp[h3]
theorem zrc:∀(xs:List Field){H:SB->Bool}{N:SB->List SB}{fs:List Field},InvF H N fs->xs.foldl zqn (vF H N fs)=vF (xs.foldl upH H) (xs.foldl upN N) (xs.foldl zrq fs)/\InvF (xs.foldl upH H) (xs.foldl upN N) (xs.foldl zrq fs)
 | [],_,_,_,h=>⟨rfl,h⟩
 | x:: xs,_,_,_,h=>by
  have:=zrc xs (h.put x)
  rw[List.foldl_cons,zAr h x]
  exact this
theorem zrd(ps:List Part)(n:SB):∀(xs fs:List Field),xs.foldl (zom ps n) (vF (zwH ps n) (zdj ps n) fs)=vF (zwH ps n) (zdj ps n) (xs.foldl zrq fs)
 | [],_=>rfl
 | x:: xs,fs=>by
  have h:zom ps n (vF (zwH ps n) (zdj ps n) fs) x=vF (zwH ps n) (zdj ps n) (zrq fs x):=by
   unfold zom zrq
   rw[zGU]
   cases fs.any (fun g=>g.name==x.name)with
   | true=>rfl
   | false =>
    simp only[cond_false]
    unfold vF
    rw[List.map_append]
    rfl
  rw[List.foldl_cons,h]
  exact zrd ps n xs (zrq fs x)
theorem zyT(ps:List Part)(ts:List Typ)(t:Typ):zl2 ps (zom ps) (vT (zwH ps) (zdj ps) ts) t=vT (zwH ps) (zdj ps) (zl2 ps (fun _=>zrq) ts t):=by
 unfold zl2
 rw[zwq]
 obtain⟨a,ts1,hc,ha,hn⟩:=zzg ps ts t
 rw[hc]
 dsimp only
 have ha':a<(vT (zwH ps) (zdj ps) ts1).length:=by rw[zqd];exact ha
 rw[ziJ ha',ziJ ha,zAY]
 dsimp only
 rw[hn,zrd]
 unfold vT
 rw[List.map_set]
theorem zs7(ps:List Part):∀(us ts:List Typ),us.foldl (zl2 ps (zom ps)) (vT (zwH ps) (zdj ps) ts)=vT (zwH ps) (zdj ps) (us.foldl (zl2 ps fun _=>zrq) ts)
 | [],_=>rfl
 | u:: us,ts=>by
  rw[List.foldl_cons,zyT]
  exact zs7 ps us _
theorem zo5(ps:List Part)(put:List UInt8->List Field->Field->List Field)(qs:List Part):zrw ps put qs=(qs.flatMap (·.types)).foldl (zl2 ps put) []:=by
 unfold zrw
 rw[List.foldl_flatMap]
def upT(H:SB->SB->Bool)(t:Typ):SB->SB->Bool:=fun n=>bif t.name==n then t.fields.foldl upH (H n)else H n
def upU(N:SB->SB->List SB)(t:Typ):SB->SB->List SB:=fun n=>bif t.name==n then t.fields.foldl upN (N n)else N n
theorem zDj{ps:List Part}{H:SB->SB->Bool}{N:SB->SB->List SB}{ts:List Typ}(h:InvT H N ts)(t:Typ):InvT H N (crM ps ts t).2:=by
 unfold crM
 cases hf:ts.findIdx? (fun u=>u.name==t.name)with
 | some k=>exact h
 | none =>
  have hn:=List.findIdx?_eq_none_iff.1 hf
  have hne:∀u∈ts,u.name≠t.name:=fun u hu=>by simpa using hn u hu
  refine⟨?_,fun u hu=>?_,fun n x hx=>h.z n x fun u hu=>hx u (List.mem_append_left _ hu)⟩
  ·intro i j hi hj he
   rw[yhr,List.length_singleton]at hi hj
   by_cases h1:i<ts.length
   ·by_cases h2:j<ts.length
    ·rw[List.getElem_append_left h1,List.getElem_append_left h2]at he
     exact h.ty i j h1 h2 he
    ·have:j=ts.length:=by omega
     subst this
     rw[List.getElem_append_left h1,List.getElem_append_right (Nat.le_refl _)]at he
     simp only[Nat.sub_self,List.getElem_cons_zero]at he
     exact absurd he (hne _ (ygh h1))
   ·have:i=ts.length:=by omega
    subst this
    by_cases h2:j<ts.length
    ·rw[List.getElem_append_left h2,List.getElem_append_right (Nat.le_refl _)]at he
     simp only[Nat.sub_self,List.getElem_cons_zero]at he
     exact absurd he.symm (hne _ (ygh h2))
    ·omega
  ·rcases List.mem_append.1 hu with h1|h1
   ·exact h.fd u h1
   ·rw[List.mem_singleton]at h1
    subst h1
    intro i j hi
    simp at hi
theorem zyS{ps:List Part}{H:SB->SB->Bool}{N:SB->SB->List SB}{ts:List Typ}(h:InvT H N ts)(t:Typ):
  zl2 ps (fun _=>zqn) (vT H N ts) t=vT (upT H t) (upU N t) (zl2 ps (fun _=>zrq) ts t)/\InvT (upT H t) (upU N t) (zl2 ps (fun _=>zrq) ts t):=by
 unfold zl2
 rw[zwq]
 have hI:=zDj (ps:=ps) h t
 obtain⟨a,ts1,hc,ha,hn⟩:=zzg ps ts t
 rw[hc]at hI|-
 dsimp only at hI|-
 have ha':a<(vT H N ts1).length:=by rw[zqd];exact ha
 rw[ziJ ha',ziJ ha,zAY]
 dsimp only
 have hF:InvF (H t.name) (N t.name) ts1[a].fields:=⟨hI.fd _ (ygh ha),fun x hx=>hI.z _ _ fun u hu hun g hg=>by
  obtain⟨j,hj,rfl⟩:=List.getElem_of_mem hu
  have:j=a:=hI.ty j a hj ha (hun.trans hn.symm)
  subst this
  exact hx g hg⟩
 obtain⟨e1,e2⟩:=zrc t.fields hF
 rw[hn,e1]
 have hu1:upT H t t.name=t.fields.foldl upH (H t.name):=by
  show(bif t.name==t.name then _ else _)=_
  rw[BEq.rfl];rfl
 have hu2:upU N t t.name=t.fields.foldl upN (N t.name):=by
  show(bif t.name==t.name then _ else _)=_
  rw[BEq.rfl];rfl
 have hv1:∀n,t.name≠n->upT H t n=H n:=fun n hne=>by
  have hb:(t.name==n)=false:=by simpa using hne
  show(bif t.name==n then _ else _)=_
  rw[hb];rfl
 have hv2:∀n,t.name≠n->upU N t n=N n:=fun n hne=>by
  have hb:(t.name==n)=false:=by simpa using hne
  show(bif t.name==n then _ else _)=_
  rw[hb];rfl
 rw[<-hu1,<-hu2]at e2|-
 generalize t.fields.foldl zrq ts1[a].fields=fs at *
 refine⟨List.ext_getElem (by simp[vT]) fun j h1 h2=>?_,?_,fun u hu=>?_,fun n x hx=>?_⟩
 ·have hj:j<ts1.length:=by simpa[vT]using h2
  by_cases hja:a=j
  ·subst hja
   rw[List.getElem_set_self,zAY]
   simp
  ·rw[List.getElem_set_ne hja,zAY,zAY]
   have hne:t.name≠ts1[j].name:=fun hc=>hja (hI.ty a j ha hj (hn.trans hc))
   simp only[List.getElem_set_ne hja,hv1 _ hne,hv2 _ hne]
 ·intro i j hi hj he
  have hi':i<ts1.length:=by simpa using hi
  have hj':j<ts1.length:=by simpa using hj
  have hnm:∀(k:Nat)(hk:k<(ts1.set a ⟨t.name,ts1[a].key,fs⟩).length)(hk':k<ts1.length),(ts1.set a ⟨t.name,ts1[a].key,fs⟩)[k].name=ts1[k].name:=by
   intro k hk hk'
   by_cases hka:a=k
   ·subst hka;simp[hn]
   ·rw[List.getElem_set_ne hka]
  rw[hnm i hi hi',hnm j hj hj']at he
  exact hI.ty i j hi' hj' he
 ·rcases List.mem_or_eq_of_mem_set hu with h1|rfl
  ·exact hI.fd u h1
  ·exact e2.fd
 ·have hmem:(⟨t.name,ts1[a].key,fs⟩:Typ)∈ts1.set a ⟨t.name,ts1[a].key,fs⟩:=List.mem_set ha _
  by_cases hnn:t.name=n
  ·subst hnn
   exact e2.z x fun g hg=>hx _ hmem rfl g hg
  ·rw[hv1 _ hnn,hv2 _ hnn]
   refine hI.z n x fun u hu hun g hg=>?_
   obtain⟨j,hj,rfl⟩:=List.getElem_of_mem hu
   have hja:a≠j:=fun hc=>by subst hc;exact hnn (hn.symm.trans hun)
   refine hx ts1[j] ?_ hun g hg
   have:=ygh (l:=ts1.set a ⟨t.name,ts1[a].key,fs⟩) (n:=j) (by simpa using hj)
   rw[List.getElem_set_ne hja]at this
   exact this
theorem zqV{ps:List Part}:∀(us:List Typ){H:SB->SB->Bool}{N:SB->SB->List SB}{ts:List Typ},InvT H N ts->
  us.foldl (zl2 ps fun _=>zqn) (vT H N ts)=vT (us.foldl upT H) (us.foldl upU N) (us.foldl (zl2 ps fun _=>zrq) ts)
 | [],_,_,_,_=>rfl
 | u:: us,H,N,ts,h=>by
  obtain⟨h1,h2⟩:=zyS (ps:=ps) h u
  rw[List.foldl_cons,h1]
  exact zqV us h2
end Go.Fw
namespace Go.Fw
open Go
set_option linter.unusedSimpArgs false
set_option linter.unusedVariables false
theorem zHq(xs:List Field)(H:SB->Bool)(x:SB):xs.foldl upH H x=(H x ||xs.any fun f=>f.name==x&&f.hidden):=by
 induction xs generalizing H with
 | nil=>simp
 | cons f xs ih =>
  rw[List.foldl_cons,ih,List.any_cons]
  unfold upH
  rw[Bool.or_assoc]
theorem zFZ(L:List Typ)(H:SB->SB->Bool)(n x:SB):L.foldl upT H n x=(H n x ||L.any fun t=>t.name==n&&t.fields.any fun f=>f.name==x&&f.hidden):=by
 induction L generalizing H with
 | nil=>simp
 | cons t L ih =>
  rw[List.foldl_cons,ih,List.any_cons]
  have:upT H t n x=(H n x ||(t.name==n&&t.fields.any fun f=>f.name==x&&f.hidden)):=by
   show(bif t.name==n then t.fields.foldl upH (H n)else H n) x=_
   cases t.name==n with
   | true=>simp only[cond_true,Bool.true_and];exact zHq _ _ _
   | false=>simp
  rw[this,Bool.or_assoc]
theorem zHr(xs:List Field)(N:SB->List SB)(x:SB):(xs.foldl upN N x=N x/\∀f∈xs,f.name=x->needy f=false)\/∃f∈xs,f.name=x/\needy f=true/\xs.foldl upN N x=f.needs:=by
 induction xs generalizing N with
 | nil=>exact .inl ⟨rfl,by simp⟩
 | cons f xs ih =>
  rw[List.foldl_cons]
  rcases ih (upN N f)with⟨h1,h2⟩|⟨g,hg,h1,h2,h3⟩
  ·rw[h1]
   by_cases hc:f.name=x/\needy f=true
   ·refine .inr ⟨f,by simp,hc.1,hc.2,?_⟩
    unfold upN
    simp[hc.1,hc.2]
   ·refine .inl ⟨?_,fun g hg hgx=>?_⟩
    ·unfold upN
     have:(f.name==x&&needy f)=false:=by
      cases hb:(f.name==x&&needy f)with
      | false=>rfl
      | true =>
       simp only[yhb,yhe]at hb
       exact absurd hb hc
     rw[this];rfl
    ·rcases List.mem_cons.1 hg with rfl|hg
     ·cases hn:needy g with
      | false=>rfl
      | true=>exact absurd ⟨hgx,hn⟩ hc
     ·exact h2 g hg hgx
  ·exact .inr ⟨g,by simp[hg],h1,h2,h3⟩
theorem zF0(L:List Typ)(N:SB->SB->List SB)(n x:SB):(L.foldl upU N n x=N n x/\∀t∈L,t.name=n->∀f∈t.fields,f.name=x->needy f=false)\/∃t∈L,t.name=n/\∃f∈t.fields,f.name=x/\needy f=true/\L.foldl upU N n x=f.needs:=by
 induction L generalizing N with
 | nil=>exact .inl ⟨rfl,by simp⟩
 | cons t L ih =>
  rw[List.foldl_cons]
  rcases ih (upU N t)with⟨h1,h2⟩|⟨u,hu,h1,f,hf,h2,h3,h4⟩
  ·rw[h1]
   by_cases hn:t.name=n
   ·have e:upU N t n x=t.fields.foldl upN (N n) x:=by
     show(bif t.name==n then t.fields.foldl upN (N n)else N n) x=_
     have:(t.name==n)=true:=by simpa using hn
     rw[this];rfl
    rw[e]
    rcases zHr t.fields (N n) x with⟨g1,g2⟩|⟨f,hf,g1,g2,g3⟩
    ·refine .inl ⟨g1,fun u hu hun f hf hfx=>?_⟩
     rcases List.mem_cons.1 hu with rfl|hu
     ·exact g2 f hf hfx
     ·exact h2 u hu hun f hf hfx
    ·exact .inr ⟨t,by simp,hn,f,hf,g1,g2,g3⟩
   ·have e:upU N t n x=N n x:=by
     show(bif t.name==n then t.fields.foldl upN (N n)else N n) x=_
     have:(t.name==n)=false:=by simpa using hn
     rw[this];rfl
    rw[e]
    refine .inl ⟨rfl,fun u hu hun f hf hfx=>?_⟩
    rcases List.mem_cons.1 hu with rfl|hu
    ·exact absurd hun hn
    ·exact h2 u hu hun f hf hfx
  ·exact .inr ⟨u,by simp[hu],h1,f,hf,h2,h3,h4⟩
theorem zE7{ps:List Part}(hok:∀p∈ps,OkP p)(hI:I2 ps):zrw ps (fun _=>zqn) ps=zrw ps (zom ps) ps:=by
 rw[zo5,zo5]
 have e1:=zqV (ps:=ps) (ps.flatMap (·.types)) (H:=fun _ _=>false) (N:=fun _ _=>[]) (ts:=[]) ⟨fun i j hi=>absurd hi (Nat.not_lt_zero _),fun t ht=>absurd ht List.not_mem_nil,fun _ _ _=>⟨rfl,rfl⟩⟩
 have e2:=zs7 ps (ps.flatMap (·.types)) []
 have e3:vT (fun _ _=>false) (fun _ _=>[]) []=[]:=rfl
 have e4:vT (zwH ps) (zdj ps) []=[]:=rfl
 rw[e3]at e1
 rw[e4]at e2
 rw[e1,e2]
 have h1:(ps.flatMap (·.types)).foldl upT (fun _ _=>false)=zwH ps:=by
  funext n x
  rw[zFZ,Bool.false_or,Bool.eq_iff_iff,List.any_eq_true]
  unfold zwH
  rw[List.any_eq_true]
  constructor
  ·rintro⟨t,ht,he⟩
   obtain⟨p,hp,htp⟩:=List.mem_flatMap.1 ht
   simp only[yhb,yhe,List.any_eq_true]at he
   obtain⟨rfl,f,hf,rfl,hh⟩:=he
   exact⟨f,zr6 hok hp htp hf,hh⟩
  ·rintro⟨f,hf,hh⟩
   obtain⟨p,hp,t,ht,hn,hft,hfx,_⟩:=zoK hf
   refine⟨t,List.mem_flatMap.2 ⟨p,hp,ht⟩,?_⟩
   simp only[yhb,yhe,List.any_eq_true]
   exact⟨hn,f,hft,hfx,hh⟩
 have h2:(ps.flatMap (·.types)).foldl upU (fun _ _=>[])=zdj ps:=by
  funext n x
  rcases zF0 (ps.flatMap (·.types)) (fun _ _=>[]) n x with⟨g1,g2⟩|⟨t,ht,hn,f,hf,hfx,hnd,g⟩
  ·rw[g1]
   rcases ziM ps n x with⟨e,_⟩|⟨g,hg,hnd,e⟩
   ·exact e.symm
   ·obtain⟨p,hp,t,ht,hn,hft,hfx,_⟩:=zoK hg
    have:=g2 t (List.mem_flatMap.2 ⟨p,hp,ht⟩) hn g hft hfx
    rw[hnd]at this;cases this
  ·rw[g]
   obtain⟨p,hp,htp⟩:=List.mem_flatMap.1 ht
   subst hn
   subst hfx
   have:=zuI.1 ((hI p hp t htp).2.2 f hf)
   exact(zw0 hok this.2.2.1 (zr6 hok hp htp hf) hnd).symm
 rw[h1,h2]
def AllL(ps:List Part):Part:=⟨[97],zrw ps (zom ps) ps⟩
theorem zCr.sm{ps:List Part}(h:zCr ps)(hp:KL KK ps):SmL ps:=⟨h.2.1,fun p hpm=>⟨(h.ok p hpm).types,fun t ht=>⟨(hp.2 p hpm).2.2 t ht,(Wt.mk' ((hp.2 p hpm).2.2 t ht) ((h.ok p hpm).type t ht).line).fields⟩⟩⟩
theorem zyP{ps:List Part}(h:SmL ps)(hp:KL KK ps):KP KK (AllL ps):=by
 have hb:=zrA hp h (zAs hp) ps.length
 rw[List.take_length]at hb
 have hk:KK=1048576:=rfl
 refine⟨by show([97]:List UInt8).length<=_;rw[hk];decide,?_,fun t ht=>?_⟩
 ·have:=hb.1
  show(zrw ps (zom ps) ps).length<=_
  omega
 ·obtain⟨h1,h2,h3,h4⟩:=hb.2 t ht
  exact⟨h1,h2,by omega,h4⟩
def zrD(ps:List Part):Bool:=(v6I ps).code==0&&okP (AllL ps)
def zia(ps:List Part)(t:Typ):List Own:=t.fields.map fun f=>⟨t.name,f.name,zcm t.name f.name 0 ps⟩
theorem zvt{ps:List Part}{ts:List Typ}(h5:ts.length<=5)(h8:∀t∈ts,t.fields.length<=8)(i:Nat):((ts.take i).flatMap (zia ps)).length<=40:=by
 have:∀l:List Typ,(∀t∈l,t.fields.length<=8)->(l.flatMap (zia ps)).length<=8*l.length:=by
  intro l
  induction l with
  | nil=>simp
  | cons t l ih =>
   intro h
   have h1:=ih fun u hu=>h u (by simp[hu])
   have h2:=h t (by simp)
   have e:(zia ps t).length=t.fields.length:=by simp[zia]
   simp only[List.flatMap_cons,yhr,yhs,e]
   omega
 have h1:=this (ts.take i) fun t ht=>h8 t (List.mem_of_mem_take ht)
 have h2:(ts.take i).length<=5:=Nat.le_trans (by rw[List.length_take];exact Nat.min_le_right _ _) h5
 omega
theorem zoL{α β:Type}{l:List α}{g:α->List β}{i:Nat}(h:i<l.length):(l.take (i+1)).flatMap g=(l.take i).flatMap g++g l[i]:=by
 rw[List.take_succ_eq_append_getElem h,List.flatMap_append]
 simp
theorem zog{ps:List Part}(hp:KL KK ps):∃r,zde ps=some r/\decide (r.2.code>0)= !zrD ps/\(zrD ps=true->r.1.all=AllL ps/\r.1.owners=(AllL ps).types.flatMap (zia ps)):=by
 have hc:=zsF (ps:=ps)
 unfold zrD
 rw[ziU]
 unfold zd6
 rw[zsk hp,zac]
 by_cases h0:(v6I ps).code=0
 ·have g1:decide ((v6I ps).code>0)=false:=by rw[h0];rfl
  have g2:((v6I ps).code==0)=true:=by rw[h0];rfl
  have hpre:=(hc.1.1 h0).1
  have hsm:=hpre.sm hp
  have hK:=zyP hsm hp
  have hA:zgf ps=some (AllL ps):=zxH hp hsm
  rw[g1,zae,hA,zac,g2,Bool.true_and,zt2 hK,zac]
  cases ho:okP (AllL ps)with
  | false=>exact⟨_,rfl,rfl,fun h=>by cases h⟩
  | true =>
   have hO:=OkP.of ho
   simp only[Bool.not_true,zae]
   have h8:∀t∈(AllL ps).types,t.fields.length<=8:=fun t ht=>(Wt.mk' (hK.2.2 t ht) (hO.type t ht).line).fields
   have hown:=zvt (ps:=ps) hO.types h8
   generalize AllL ps=all at *
   rw[zeH (s0:=((0:Int),([]:List UInt8),([]:List Typ),([]:List Own),((0:Int),([]:List UInt8),([]:List UInt8),(0:Int)),(all.name,all.types),([]:List Own))) all.types.length (fun i=>((i:Int),[],[],[],(0,[],[],0),(all.name,all.types),(all.types.take i).flatMap (zia ps))) ((all.types.length:Int),[],[],[],(0,[],[],0),(all.name,all.types),all.types.flatMap (zia ps)) rfl ?_ ?_]
   ·exact⟨_,rfl,rfl,fun _=>⟨rfl,rfl⟩⟩
   ·intro i hi
    have h3:=zar hi (up hK.2.1)
    have ho1:=hown i
    have ht8:=h8 _ (ygh hi)
    simp only[zaO hi,zaE,zal hi,zaf,zag,zac]
    rw[zeH (s0:=((0:Int),([]:List UInt8),([]:List Typ),([]:List Own),((0:Int),([]:List UInt8),([]:List UInt8),(0:Int)),(all.name,all.types),(all.types.take i).flatMap (zia ps))) all.types[i].fields.length (fun j=>((j:Int),[],[],[],(0,[],[],0),(all.name,all.types),(all.types.take i).flatMap (zia ps)++(zia ps all.types[i]).take j)) ((all.types[i].fields.length:Int),[],[],[],(0,[],[],0),(all.name,all.types),(all.types.take i).flatMap (zia ps)++zia ps all.types[i]) (by simp) ?_ ?_]
    ·simp only[h3,zag]
     rw[zoL hi]
     rfl
    ·intro j hj
     have h4:=zar hj (by omega)
     have hj':j<(zia ps all.types[i]).length:=by simpa[zia]using hj
     simp only[zaO hj,zaE,zal hj,zaf,zag,zac,zrf hp,h4]
     have hl:((zia ps all.types[i]).take j).length<=8:=by
      rw[List.length_take]
      exact Nat.le_trans (Nat.min_le_right _ _) (by simpa[zia]using ht8)
     (rw[zdI];rotate_left;(have:=hBM;simp only[yhr,yhs,yht,List.length_map,yhc,yhb];omega))
     rw[List.take_succ_eq_append_getElem hj',<-List.append_assoc]
     simp[zia]
    ·simp only[zap,zae]
     rw[show(zia ps all.types[i]).take all.types[i].fields.length=zia ps all.types[i]from by
      rw[show all.types[i].fields.length=(zia ps all.types[i]).length by simp[zia],List.take_length]]
   ·simp only[zap,zae,List.take_length]
 ·have g1:decide ((v6I ps).code>0)=true:=by have:=hc.2;simp;omega
  have g2:((v6I ps).code==0)=false:=by simpa using h0
  rw[g1,zaf,g2]
  exact⟨_,rfl,g1,fun h=>by cases h⟩
theorem zoo{ps:List Part}(hp:KL KK ps):∃r,zeN ps=some r/\(r.2.code==0)=zrD ps/\(zrD ps=true->r.1.all=AllL ps/\r.1.owners=(AllL ps).types.flatMap (zia ps)):=by
 have hc:=zuJ ps
 unfold zrD
 rw[zkX]
 unfold zgp
 rw[zzy hp,zac]
 by_cases h0:(v6S ps).code=0
 ·have g1:((v6S ps).code !=0)=false:=by rw[h0];rfl
  have g0:((v6S ps).code==0)=true:=by rw[h0];rfl
  have g2:((v6I ps).code==0)=true:=by rw[hc.1 h0];rfl
  have hpre:=(zsG.1 h0).1
  have hI:=(zC5 hpre.ok).1 (zsG.1 h0).2
  have hsm:=hpre.sm hp
  have hK:=zyP hsm hp
  have hA:zm7 ps=some (AllL ps):=by rw[zyb hp hsm,zE7 hpre.ok hI];rfl
  rw[g1,zae,hA,zac,g2,Bool.true_and,zop hK,zac,show((pcM (AllL ps)).code !=0)= !okP (AllL ps)from rfl]
  cases ho:okP (AllL ps)with
  | false=>exact⟨_,rfl,rfl,fun h=>by cases h⟩
  | true =>
   have hO:=OkP.of ho
   simp only[Bool.not_true,zae]
   have h8:∀t∈(AllL ps).types,t.fields.length<=8:=fun t ht=>(Wt.mk' (hK.2.2 t ht) (hO.type t ht).line).fields
   have hown:=zvt (ps:=ps) hO.types h8
   generalize AllL ps=all at *
   rw[zeH (s0:=((0:Int),([]:List UInt8),([]:List Typ),([]:List Own),((0:Int),([]:List UInt8),([]:List UInt8),(0:Int)),(all.name,all.types),([]:List Own))) all.types.length (fun i=>((i:Int),[],[],[],(0,[],[],0),(all.name,all.types),(all.types.take i).flatMap (zia ps))) ((all.types.length:Int),[],[],[],(0,[],[],0),(all.name,all.types),all.types.flatMap (zia ps)) rfl ?_ ?_]
   ·exact⟨_,rfl,g0,fun _=>⟨rfl,rfl⟩⟩
   ·intro i hi
    have h3:=zar hi (up hK.2.1)
    have ho1:=hown i
    have ht8:=h8 _ (ygh hi)
    simp only[zaO hi,zaE,zal hi,zaf,zag,zac]
    rw[zeH (s0:=((0:Int),([]:List UInt8),([]:List Typ),([]:List Own),((0:Int),([]:List UInt8),([]:List UInt8),(0:Int)),(all.name,all.types),(all.types.take i).flatMap (zia ps))) all.types[i].fields.length (fun j=>((j:Int),[],[],[],(0,[],[],0),(all.name,all.types),(all.types.take i).flatMap (zia ps)++(zia ps all.types[i]).take j)) ((all.types[i].fields.length:Int),[],[],[],(0,[],[],0),(all.name,all.types),(all.types.take i).flatMap (zia ps)++zia ps all.types[i]) (by simp) ?_ ?_]
    ·simp only[h3,zag]
     rw[zoL hi]
     rfl
    ·intro j hj
     have h4:=zar hj (by omega)
     have hj':j<(zia ps all.types[i]).length:=by simpa[zia]using hj
     simp only[zaO hj,zaE,zal hj,zaf,zag,zac,znQ hp,h4]
     have hl:((zia ps all.types[i]).take j).length<=8:=by
      rw[List.length_take]
      exact Nat.le_trans (Nat.min_le_right _ _) (by simpa[zia]using ht8)
     (rw[zdI];rotate_left;(have:=hBM;simp only[yhr,yhs,yht,List.length_map,yhc,yhb];omega))
     rw[List.take_succ_eq_append_getElem hj',<-List.append_assoc]
     simp[zia]
    ·simp only[zap,zae]
     rw[show(zia ps all.types[i]).take all.types[i].fields.length=zia ps all.types[i]from by
      rw[show all.types[i].fields.length=(zia ps all.types[i]).length by simp[zia],List.take_length]]
   ·simp only[zap,zae,List.take_length]
 ·have g1:((v6S ps).code !=0)=true:=by simpa using h0
  have g3:((v6S ps).code==0)=false:=by simpa using h0
  have g2:((v6I ps).code==0)=false:=by
   have:¬(v6I ps).code=0:=fun h=>h0 (hc.2 h)
   simpa using this
  rw[g1,zaf,g2]
  exact⟨_,rfl,g3,fun h=>by cases h⟩
end Go.Fw
namespace Go.Fw
open Go
set_option linter.unusedSimpArgs false
set_option linter.unusedVariables false
abbrev MM:Int:=1099511627776
noncomputable def mkT(k:Int):List UInt8:=(zaK k).getD []
theorem zdV{k:Int}(h0:0<=k)(h1:k<=MM):zaK k=some (mkT k):=by
 have hB:BIG=9223372036854775807:=rfl
 have hM:MM=1099511627776:=rfl
 have:wp (zaK k) (fun _=>True):=by
  rw[zjK];unfold zfr
  simp only[ywa,ywb,ywc,ywd,ywe,yhw,yhx,yhv,yhy,yhz,yhb,yhc,yhd,yhu,yhe,yhf,yhg,yhh,yhi,yhj,yhk,yhl,yhm,yhn,yho,yhp]
  refine⟨fun _=>trivial,fun h=>?_⟩
  refine zqf (fun s:Int×List UInt8=>0<=s.1/\s.1<=k/\s.2.length+s.1<=k) (fun s=>s.1.toNat) ⟨h0,Int.le_refl _,by simp⟩ ?_
  rintro⟨a,out⟩ ⟨i1,i2,i3⟩
  dsimp only at i1 i2 i3|-
  simp only[ywa,ywb,ywc,ywd,ywe,yhw,yhx,yhv,yhy,yhz,yhb,yhc,yhd,yhu,yhe,yhf,yhg,yhh,yhi,yhj,yhk,yhl,yhm,yhn,yho,yhp,Int.tdiv_eq_ediv_of_nonneg i1,Int.tmod_eq_emod_of_nonneg i1,List.length_map,yhs,yht,yhr]
  refine⟨fun hp=>?_,fun hp=>?_⟩<;>(repeat' (first|trivial|omega|refine⟨?_,?_⟩))
 obtain⟨t,h,_⟩:=this
 unfold mkT
 rw[h];rfl
theorem zEs{α:Type}(A:List α)(x y:α)(B:List α){i:Nat}(h:A.length=i):(A++x:: B).set i y=A++y:: B:=by
 subst h
 rw[List.set_append_right _ _ (Nat.le_refl _),Nat.sub_self]
 rfl
theorem zx3{α:Type}(f:Nat->α)(i:Nat):(List.range (i+1)).map f=(List.range i).map f++[f i]:=by
 rw[List.range_succ,List.map_append];rfl
theorem zwV{xs:List (List UInt8)}{k:Int}(h0:0<=k)(h1:k+xs.length<=MM):zce (k,xs)=some (k+xs.length,(List.range xs.length).map fun j:Nat=>mkT (k+j)):=by
 have hM:MM=1099511627776:=rfl
 rw[zhf];unfold zcU;dsimp only
 rw[zeH (s0:=(k,(0:Int),xs)) xs.length (fun i=>(k+(i:Int),(i:Int),((List.range i).map fun j:Nat=>mkT (k+j))++xs.drop i)) (k+(xs.length:Int),(xs.length:Int),(List.range xs.length).map fun j:Nat=>mkT (k+j)) (by simp) ?_ ?_]
 ·intro i hi
  have hlen:(((List.range i).map fun j:Nat=>mkT (k+j))++xs.drop i).length=xs.length:=by simp;omega
  have hi':i<(((List.range i).map fun j:Nat=>mkT (k+j))++xs.drop i).length:=by omega
  have g3:zas (k+(i:Int)+1)=true:=zbw (by omega) (by omega)
  have g4:zas ((i:Int)+1)=true:=zbw (by omega) (by omega)
  dsimp only
  rw[hlen]
  simp only[zaO hi,zaf,zdV (k:=k+(i:Int)) (by omega) (by omega),zac,zaE,Bool.and_self,zag,ygb hi',g3,g4,Int.toNat_natCast]
  rw[List.drop_eq_getElem_cons hi,zEs _ _ _ _ (by simp),zx3]
  simp[Int.add_assoc]
 ·dsimp only
  rw[List.drop_length,List.append_nil,List.length_map,List.length_range]
  simp only[zap,zae]
theorem zBE{n:Nat}{k:Int}(h0:0<=k)(h1:k+n<=MM):zcd ((List.range n).map (fun j:Nat=>mkT (k+j)),k)=some (k+n):=by
 have hM:MM=1099511627776:=rfl
 rw[zhe];unfold zcT;dsimp only
 have hlen:((List.range n).map (fun j:Nat=>mkT (k+j))).length=n:=by simp
 rw[hlen,zeH (s0:=(k,(0:Int))) n (fun i=>(k+(i:Int),(i:Int))) (.inl (k+(n:Int),(n:Int))) (by simp) ?_ ?_]
 ·rfl
 ·intro i hi
  have hi':i<((List.range n).map (fun j:Nat=>mkT (k+j))).length:=by omega
  have g3:zas (k+(i:Int)+1)=true:=zbw (by omega) (by omega)
  have g4:zas ((i:Int)+1)=true:=zbw (by omega) (by omega)
  have g5:((List.range n).map (fun j:Nat=>mkT (k+j)))[i]=mkT (k+i):=by simp
  simp only[zaO hi,zaf,zaE,zag,zal hi',zac,zdV (k:=k+(i:Int)) (by omega) (by omega),g5,bne_self_eq_false,zae,g3,g4]
  simp[Int.add_assoc]
 ·simp only[zap,zae]
theorem zz9{α:Type}{xs:List α}{w:α->Nat}{b:Int×Int×List α->Option ((Int×Int×List α)⊕(Int×Int×List α))}{k:Int}(h0:0<=k)(h1:k+7*((xs.length+(xs.map w).sum:Nat):Int)<=MM)
  (hb:∀(k:Int)(i:Nat)(ys:List α)(hi:i<ys.length),ys.length=xs.length->ys[i]∈xs->0<=k->k+7*((1+w ys[i]:Nat):Int)<=MM->∃k' y',b (k,(i:Int),ys)=some (.inl (k',((i+1:Nat):Int),ys.set i y'))/\k<=k'/\k'<=k+7*((1+w ys[i]:Nat):Int))
  (he:∀(k:Int)(ys:List α),ys.length=xs.length->b (k,(xs.length:Int),ys)=some (.inr (k,(xs.length:Int),ys))):
  ∃k' ys',zam b (k,(0:Int),xs)=some (k',(xs.length:Int),ys')/\k<=k'/\k'<=k+7*((xs.length+(xs.map w).sum:Nat):Int)/\ys'.length=xs.length:=by
 have key:∀(m i:Nat)(k1:Int)(ys:List α),m+i=xs.length->ys.length=xs.length->(∀(j:Nat)(hj:j<xs.length)(hj2:j<ys.length),i<=j->ys[j]=xs[j])->0<=k1->k1+7*(((xs.drop i).length+((xs.drop i).map w).sum:Nat):Int)<=MM->
   ∃f k' ys',ze7 b f (k1,(i:Int),ys)=some (k',(xs.length:Int),ys')/\k1<=k'/\k'<=k1+7*(((xs.drop i).length+((xs.drop i).map w).sum:Nat):Int)/\ys'.length=xs.length:=by
  intro m
  induction m with
  | zero =>
   intro i k1 ys hm hl _ g0 g1
   have:i=xs.length:=by omega
   subst this
   exact⟨1,k1,ys,by simp only[ze7,he k1 ys hl],Int.le_refl _,by omega,hl⟩
  | succ m ih =>
   intro i k1 ys hm hl hsame g0 g1
   have hi:i<xs.length:=by omega
   have hi':i<ys.length:=by omega
   have hy:=hsame i hi hi' (Nat.le_refl _)
   have e:(xs.drop i).length+((xs.drop i).map w).sum=(1+w ys[i])+((xs.drop (i+1)).length+((xs.drop (i+1)).map w).sum):=by
    rw[List.drop_eq_getElem_cons hi,yhs,List.map_cons,List.sum_cons,hy];omega
   rw[e]at g1|-
   obtain⟨k',y',q1,q2,q3⟩:=hb k1 i ys hi' hl (by rw[hy];exact ygh hi) g0 (by omega)
   obtain⟨f,k2,ys2,r1,r2,r3,r4⟩:=ih (i+1) k' (ys.set i y') (by omega) (by simpa using hl) (fun j hj hj2 hij=>by
    rw[List.getElem_set_ne (by omega)]
    exact hsame j hj (by simpa using hj2) (by omega)) (by omega) (by omega)
   exact⟨f+1,k2,ys2,by simp only[ze7,q1];exact r1,by omega,by omega,r4⟩
 obtain⟨f,k',ys',r1,r2,r3,r4⟩:=key xs.length 0 k xs (by omega) rfl (fun _ _ _ _=>rfl) h0 (by simpa using h1)
 exact⟨k',ys',zoQ r1,r2,by simpa using r3,r4⟩
theorem zpO{α:Type}{xs:List α}{w:α->Nat}{b:Int×Int×List α->Option ((Int×Int×List α)⊕(Int×Int×List α))}{k:Int}(h0:0<=k)(h1:k+7*((xs.length+(xs.map w).sum:Nat):Int)<=MM)
  (hb:∀(k:Int)(i:Nat)(ys:List α)(hi:i<ys.length),ys.length=xs.length->ys[i]∈xs->0<=k->k+7*((1+w ys[i]:Nat):Int)<=MM->∃k' y',b (k,(i:Int),ys)=some (.inl (k',((i+1:Nat):Int),ys.set i y'))/\k<=k'/\k'<=k+7*((1+w ys[i]:Nat):Int))
  (he:∀(k:Int)(ys:List α),ys.length=xs.length->b (k,(xs.length:Int),ys)=some (.inr (k,(xs.length:Int),ys))):
  ∃k' ys',zaa (zam b (k,(0:Int),xs)) (fun x=>some (x.1,x.2.2))=some (k',ys')/\k<=k'/\k'<=k+7*((xs.length+(xs.map w).sum:Nat):Int)/\ys'.length=xs.length:=by
 obtain⟨k',ys,r1,r2⟩:=zz9 h0 h1 hb he
 exact⟨k',ys,by rw[r1];rfl,r2⟩
theorem zxF{α:Type}{l m:Nat}{x:Option α}(h:l=m):gd (decide (l=m)) x=x:=by subst h;simp[gd]
theorem zz7{xs:List Field}{k:Int}(h0:0<=k)(h1:k+7*(mFs xs:Int)<=MM):∃k' ys,zdF (k,xs)=some (k',ys)/\k<=k'/\k'<=k+7*(mFs xs:Int)/\ys.length=xs.length:=by
 have hM:MM=1099511627776:=rfl
 have hx:xs.length<=mFs xs:=Nat.le_add_right _ _
 rw[zh0];unfold zdz;dsimp only
 refine zpO (xs:=xs) (w:=fun f=>mS f.needs) (k:=k) h0 h1 ?_ ?_
 ·intro k i ys hi hl hm g0 g1
  have hn:ys[i].needs.length=mS ys[i].needs:=rfl
  have g4:zas ((i:Int)+1)=true:=zbw (by omega) (by omega)
  simp only[List.length_set,zaO hi,zaf,zdV (k:=k) g0 (by omega),zdV (k:=k+1) (by omega) (by omega),zac,zaE,Bool.and_self,zag,ygb hi,Int.toNat_natCast,List.getElem?_set_self hi,List.set_set,
   show zas (k+1)=true from zbw (by omega) (by omega),show zas (k+1+1)=true from zbw (by omega) (by omega),show zas (k+1+1+1)=true from zbw (by omega) (by omega),show zas (k+1+1+1+1)=true from zbw (by omega) (by omega),
   show zas (k+1+1+1+1+1)=true from zbw (by omega) (by omega),show zas (k+1+1+1+1+1+1)=true from zbw (by omega) (by omega),show zas (k+1+1+1+1+1+1+1)=true from zbw (by omega) (by omega),
   zwV (xs:=ys[i].needs) (k:=k+1+1+1+1+1+1+1) (by omega) (by omega),List.length_map,List.length_range,zxF rfl,g4]
  exact⟨_,_,rfl,by omega,by omega⟩
 ·intro k ys hl
  simp only[hl,zap,zae]
theorem zz8{xs:List Typ}{k:Int}(h0:0<=k)(h1:k+7*(mTs xs:Int)<=MM):∃k' ys,zeu (k,xs)=some (k',ys)/\k<=k'/\k'<=k+7*(mTs xs:Int)/\ys.length=xs.length:=by
 have hM:MM=1099511627776:=rfl
 have hx:xs.length<=mTs xs:=Nat.le_add_right _ _
 rw[zi5];unfold zeh;dsimp only
 refine zpO (xs:=xs) (w:=fun t=>mFs t.fields) (k:=k) h0 h1 ?_ ?_
 ·intro k i ys hi hl hm g0 g1
  have g4:zas ((i:Int)+1)=true:=zbw (by omega) (by omega)
  obtain⟨k',zs,q1,q2,q3,q4⟩:=zz7 (xs:=ys[i].fields) (k:=k+1+1) (by omega) (by omega)
  simp only[List.length_set,zaO hi,zaf,zdV (k:=k) g0 (by omega),zdV (k:=k+1) (by omega) (by omega),zac,zaE,Bool.and_self,zag,ygb hi,Int.toNat_natCast,List.getElem?_set_self hi,List.set_set,
   show zas (k+1)=true from zbw (by omega) (by omega),show zas (k+1+1)=true from zbw (by omega) (by omega),q1,zxF q4,g4]
  exact⟨_,_,rfl,by omega,by omega⟩
 ·intro k ys hl
  simp only[hl,zap,zae]
theorem ztR{xs:List Part}{k:Int}(h0:0<=k)(h1:k+7*(mPs xs:Int)<=MM):∃k' ys,zdf (k,xs)=some (k',ys)/\k<=k'/\k'<=k+7*(mPs xs:Int)/\ys.length=xs.length:=by
 have hM:MM=1099511627776:=rfl
 have hx:xs.length<=mPs xs:=Nat.le_add_right _ _
 rw[zi4];unfold zeg;dsimp only
 refine zpO (xs:=xs) (w:=fun t=>mTs t.types) (k:=k) h0 h1 ?_ ?_
 ·intro k i ys hi hl hm g0 g1
  have g4:zas ((i:Int)+1)=true:=zbw (by omega) (by omega)
  obtain⟨k',zs,q1,q2,q3,q4⟩:=zz8 (xs:=ys[i].types) (k:=k+1) (by omega) (by omega)
  simp only[List.length_set,zaO hi,zaf,zdV (k:=k) g0 (by omega),zac,zaE,Bool.and_self,zag,ygb hi,Int.toNat_natCast,List.getElem?_set_self hi,List.set_set,
   show zas (k+1)=true from zbw (by omega) (by omega),q1,zxF q4,g4]
  exact⟨_,_,rfl,by omega,by omega⟩
 ·intro k ys hl
  simp only[hl,zap,zae]
theorem zDq{xs:List (List UInt8)}(h:xs.length<=KK):zaY (xs,xs)=some true:=by
 rw[zfL];unfold zdd;dsimp only
 have:=zpt (xs:=xs) (g:=fun x=>some (x.1==x.2)) h (fun _ _=>by simp)
 exact this
theorem zGb{o n:List Part}(ho:KL BIG o)(hn:KL BIG n)(h:KL KK o->KL KK n->∃r,zdX (o,n)=some r/\zbW (o,n)=some r/\r.length<=KK):zba (o,n)=some true:=by
 rw[<-zEO]
 rw[zd4];unfold za4;dsimp only
 have hk:(KK:Int)=1048576:=rfl
 have hkn:KK=1048576:=rfl
 have hM:MM=1099511627776:=rfl
 rw[ywb]
 refine(zAS ho (l:=1048576) (by omega) (by omega)).mono fun x hx=>?_
 obtain⟨h1,h2,h3⟩:=hx
 rw[ywc]
 refine⟨fun _=>ywd.2 rfl,fun hx=>?_⟩
 rw[ywb]
 simp only[yhd]at hx
 refine(zAS hn (l:=x) (by omega) (by omega)).mono fun y hy=>?_
 obtain⟨g1,g2,g3⟩:=hy
 rw[ywc]
 refine⟨fun _=>ywd.2 rfl,fun hy=>?_⟩
 simp only[yhd]at hy
 obtain⟨k1,m1⟩:=h3 (by omega)
 obtain⟨k2,m2⟩:=g3 (by omega)
 obtain⟨r,e1,e2,hr⟩:=h k1 k2
 have er:zaY (r,r)=some true:=zDq hr
 obtain⟨ka,ya,a1,a2,a3,a4⟩:=ztR (xs:=o) (k:=1) (by omega) (by omega)
 obtain⟨kb,yb,b1,b2,b3,b4⟩:=ztR (xs:=n) (k:=ka) (by omega) (by omega)
 have s1:=zwV (xs:=r) (k:=1) (by omega) (by omega)
 have s2:=zBE (n:=r.length) (k:=1) (by omega) (by omega)
 have n1:decide (kb<0)=false:=by simp;omega
 have n2:decide ((1:Int)+(r.length:Int)<0)=false:=by simp;omega
 simp only[zAU k1,zAU k2,zzr k1,zzr k2,e1,e2,er,zac,bne_self_eq_false,zae,Bool.not_true,a1,b1,zxF a4,zxF b4,n1,n2,s1,s2,List.length_map,List.length_range,zxF rfl]
 exact ywd.2 rfl
end Go.Fw
namespace Go.Fw
open Go
set_option linter.unusedSimpArgs false
set_option linter.unusedVariables false
def zck(l:List SB):SB:=Lib.join l [32]
theorem zxI(l:List SB)(a:SB):zck (l++[a])=(bif decide (0<l.length)then zck l++[32]else zck l)++a:=by
 cases l with
 | nil=>simp[zck,Lib.join_nil,Lib.join_one]
 | cons x r =>
  simp only[zck,List.cons_append,Lib.join_cons,Lib.joinTail,List.map_append,List.flatten_append]
  simp
def WOk(s:SB):Prop:=s≠[]/\(32:UInt8)∉s
theorem zAD{T1 T2:SB}(h1:T1=[]\/∃t,T1=32:: t)(h2:T2=[]\/∃t,T2=32:: t):∀(x y:SB),(32:UInt8)∉x->(32:UInt8)∉y->x++T1=y++T2->x=y/\T1=T2
 | [],[],_,_,h=>⟨rfl,h⟩
 | [],b:: y,_,hy,h=>by
  rcases h1 with rfl|⟨t,rfl⟩
  ·simp at h
  ·simp only[List.nil_append,List.cons_append,List.cons.injEq]at h
   exact absurd (by rw[h.1];exact List.mem_cons_self) hy
 | a:: x,[],hx,_,h=>by
  rcases h2 with rfl|⟨t,rfl⟩
  ·simp at h
  ·simp only[List.nil_append,List.cons_append,List.cons.injEq]at h
   exact absurd (by rw[<-h.1];exact List.mem_cons_self) hx
 | a:: x,b:: y,hx,hy,h=>by
  simp only[List.cons_append,List.cons.injEq]at h
  obtain⟨g1,g2⟩:=zAD h1 h2 x y (fun hh=>hx (List.mem_cons_of_mem _ hh)) (fun hh=>hy (List.mem_cons_of_mem _ hh)) h.2
  exact⟨by rw[h.1,g1],g2⟩
theorem zmX(r:List SB):Lib.joinTail [32] r=[]\/∃t,Lib.joinTail [32] r=32:: t:=by
 cases r with
 | nil=>exact .inl rfl
 | cons x r=>exact .inr ⟨_,rfl⟩
theorem zxj:∀(r s:List SB),(∀x∈r,WOk x)->(∀x∈s,WOk x)->Lib.joinTail [32] r=Lib.joinTail [32] s->r=s
 | [],[],_,_,_=>rfl
 | [],y:: s,_,_,h=>by simp[Lib.joinTail]at h
 | x:: r,[],_,_,h=>by simp[Lib.joinTail]at h
 | x:: r,y:: s,hr,hs,h=>by
  have h':x++Lib.joinTail [32] r=y++Lib.joinTail [32] s:=by simpa[Lib.joinTail]using h
  obtain⟨g1,g2⟩:=zAD (zmX r) (zmX s) x y (hr x (by simp)).2 (hs y (by simp)).2 h'
  rw[g1,zxj r s (fun z hz=>hr z (by simp[hz])) (fun z hz=>hs z (by simp[hz])) g2]
theorem zzK{r s:List SB}(hr:∀x∈r,WOk x)(hs:∀x∈s,WOk x)(h:zck r=zck s):r=s:=by
 unfold zck at h
 cases r with
 | nil =>
  cases s with
  | nil=>rfl
  | cons y s =>
   rw[Lib.join_nil,Lib.join_cons]at h
   have:=(hs y (by simp)).1
   cases y with
   | nil=>exact absurd rfl this
   | cons _ _=>simp at h
 | cons x r =>
  cases s with
  | nil =>
   rw[Lib.join_nil,Lib.join_cons]at h
   have:=(hr x (by simp)).1
   cases x with
   | nil=>exact absurd rfl this
   | cons _ _=>simp at h
  | cons y s =>
   rw[Lib.join_cons,Lib.join_cons]at h
   obtain⟨g1,g2⟩:=zAD (zmX r) (zmX s) x y (hr x (by simp)).2 (hs y (by simp)).2 h
   rw[g1,zxj r s (fun z hz=>hr z (by simp[hz])) (fun z hz=>hs z (by simp[hz])) g2]
theorem zBR{s:SB}(h:nameM s=true):WOk s:=by
 refine⟨zAh h,fun hm=>?_⟩
 unfold nameM zuj at h
 simp only[yhb]at h
 obtain⟨j,hj,he⟩:=List.getElem_of_mem hm
 have:=(zkw _ _ _).1 h.1.2 j hj
 rw[he]at this
 unfold zCx zaF at this
 simp at this
theorem zAT{α:Type}(l:List α)(i n:Nat)(h:l.length<=n):(l.take i).length<=n:=Nat.le_trans (by rw[List.length_take];exact Nat.min_le_right _ _) h
def kn(ps:List Part)(n f:SB):List SB:=(ps.filter (zmN n f)).map (·.name)
def nmA(ps:List Part)(i:Int):SB:=((ps[i.toNat]?).map (·.name)).getD []
theorem zF9(n f:SB)(ps:List Part):∀(m k:Nat),m+k=ps.length->(zcm n f k (ps.drop k)).map (nmA ps)=kn (ps.drop k) n f/\∀i∈zcm n f k (ps.drop k),0<=i/\i<ps.length:=by
 intro m
 induction m with
 | zero =>
  intro k hk
  have:k=ps.length:=by omega
  subst this
  rw[List.drop_length]
  exact⟨rfl,fun i hi=>by cases hi⟩
 | succ m ih =>
  intro k hk
  have hlt:k<ps.length:=by omega
  obtain⟨h1,h2⟩:=ih (k+1) (by omega)
  rw[List.drop_eq_getElem_cons hlt]
  unfold kn zcm
  rw[List.filter_cons]
  cases hq:zmN n f ps[k]with
  | true =>
   simp only[cond_true,List.map_append,List.map_cons,List.map_nil,if_true,List.cons_append,List.nil_append,h1]
   refine⟨?_,fun i hi=>?_⟩
   ·unfold nmA kn
    simp[ygb hlt]
   ·rcases List.mem_cons.1 hi with rfl|hi
    ·exact⟨by omega,by omega⟩
    ·exact h2 i hi
  | false =>
   simp only[cond_false,List.nil_append,yhj,if_false]
   exact⟨h1,h2⟩
theorem zDO(n f:SB)(ps:List Part):(zcm n f 0 ps).map (nmA ps)=kn ps n f/\∀i∈zcm n f 0 ps,0<=i/\i<ps.length:=by
 have:=zF9 n f ps ps.length 0 (by omega)
 simpa using this
theorem zCE(n f:SB)(ps:List Part):(kn ps n f).length=(zcm n f 0 ps).length:=by rw[<-(zDO n f ps).1,List.length_map]
theorem zCJ{ps:List Part}{i:Int}(h0:0<=i)(h1:i<ps.length):ps[i.toNat]? =some (ps[i.toNat]'(by omega))/\(ps[i.toNat]'(by omega)).name=nmA ps i:=by
 have:=ygb (l:=ps) (i:=i.toNat) (by omega)
 refine⟨this,?_⟩
 unfold nmA
 rw[this];rfl
theorem zwZ{ps:List Part}{n f:SB}(hl:ps.length<=KK):zfA (ps,zcm n f 0 ps)=some (kn ps n f):=by
 rw[zjA];unfold zhE;dsimp only
 have hk:KK=1048576:=rfl
 obtain⟨h1,h2⟩:=zDO n f ps
 have h3:=zmU n f ps 0
 generalize zcm n f 0 ps=is at *
 rw[zeH (s0:=((0:Int),([]:List SB))) is.length (fun i=>((i:Int),(is.take i).map (nmA ps))) ((is.length:Int),is.map (nmA ps)) rfl ?_ ?_]
 ·rw[h1]
 ·intro i hi
  obtain⟨g1,g2⟩:=h2 _ (ygh hi)
  obtain⟨e1,e2⟩:=zCJ g1 g2
  have g5:decide (0<=is[i])=true:=by simpa using g1
  have ht:(is.take i).length<=KK:=zAT is i _ (by omega)
  simp only[zaO hi,zaf,zaE,zag,zal hi,zac,g5,e1,e2,zar hi (by omega)]
  rw[zdI (by(have:=hBM;simp only[yhr,yhs,yht,List.length_map,yhc,yhb];omega)),List.take_succ_eq_append_getElem hi,List.map_append]
  rfl
 ·simp only[zap,zae,List.take_length]
theorem zAi{ps:List Part}:zfA (ps,[])=some []:=by
 rw[zjA];unfold zhE;dsimp only
 rw[zeH (s0:=((0:Int),([]:List SB))) 0 (fun i=>((i:Int),([]:List SB))) ((0:Int),([]:List SB)) rfl (fun i hi=>absurd hi (Nat.not_lt_zero i)) rfl]
theorem ztJ{l:List SB}(h:∀x∈l,x.length<=8):(zck l).length<=9*l.length:=by
 have:∀r:List SB,(∀x∈r,x.length<=8)->(Lib.joinTail [32] r).length<=9*r.length:=by
  intro r
  induction r with
  | nil=>simp[Lib.joinTail]
  | cons x r ih =>
   intro h
   have h1:=ih fun y hy=>h y (by simp[hy])
   have h2:=h x (by simp)
   have e:Lib.joinTail [32] (x:: r)=[32]++x++Lib.joinTail [32] r:=rfl
   rw[e]
   simp only[yhr,yhs,yht]
   omega
 cases l with
 | nil=>simp[zck,Lib.join_nil]
 | cons x r =>
  have h1:=this r fun y hy=>h y (by simp[hy])
  have h2:=h x (by simp)
  unfold zck
  rw[Lib.join_cons,yhr,yhs]
  omega
theorem zzV{ps:List Part}{n f x:SB}(h:x∈kn ps n f):∃p∈ps,p.name=x:=by
 obtain⟨p,hp,rfl⟩:=List.mem_map.1 h
 exact⟨p,(List.mem_filter.1 hp).1,rfl⟩
theorem zwN{ps:List Part}{n f:SB}(hp:KL KK ps)(h4:ps.length<=4)(h8:∀p∈ps,p.name.length<=8):zgh (ps,n,f)=some (zck (kn ps n f)):=by
 rw[zmd];unfold zhH;dsimp only
 rw[znQ hp,zac]
 obtain⟨h1,h2⟩:=zDO n f ps
 have h3:=zmU n f ps 0
 have hm:∀x∈kn ps n f,x.length<=8:=fun x hx=>let⟨p,hp,e⟩:=zzV hx;by rw[<-e];exact h8 p hp
 rw[<-h1]at hm
 generalize zcm n f 0 ps=is at *
 rw[zeH (s0:=(([]:SB),(0:Int))) is.length (fun i=>(zck ((is.take i).map (nmA ps)),(i:Int))) (zck (is.map (nmA ps)),(is.length:Int)) rfl ?_ ?_]
 ·rw[h1]
 ·intro i hi
  obtain⟨g1,g2⟩:=h2 _ (ygh hi)
  obtain⟨e1,e2⟩:=zCJ g1 g2
  have g5:decide (0<=is[i])=true:=by simpa using g1
  have hj:(zck ((is.take i).map (nmA ps))).length<=9*4:=by
   refine Nat.le_trans (ztJ fun x hx=>hm x ?_) ?_
   ·obtain⟨y,hy,rfl⟩:=List.mem_map.1 hx
    exact List.mem_map.2 ⟨y,List.mem_of_mem_take hy,rfl⟩
   ·rw[List.length_map,List.length_take];omega
  have hnm:(nmA ps is[i]).length<=8:=hm _ (List.mem_map.2 ⟨_,ygh hi,rfl⟩)
  have hs:=zxI ((is.take i).map (nmA ps)) (nmA ps is[i])
  have hlt:((is.take i).map (nmA ps)).length=i:=by rw[List.length_map,List.length_take];omega
  rw[hlt]at hs
  have hjoin:zck ((is.take (i+1)).map (nmA ps))=(bif decide (0<i)then zck ((is.take i).map (nmA ps))++[32]else zck ((is.take i).map (nmA ps)))++nmA ps is[i]:=by
   rw[<-hs,List.take_succ_eq_append_getElem hi,List.map_append];rfl
  rw[hjoin]
  generalize zck ((is.take i).map (nmA ps))=J at *
  simp only[zaO hi,zaf,zuE]
  have hB:BIG=9223372036854775807:=rfl
  cases decide (0<i)with
  | true =>
   simp only[zaf,cond_true]
   rw[zdI (by(have:=hBM;simp only[yhr,yhs,yht,List.length_map,yhc,yhb];omega))]
   simp only[zac,zaE,zag,zal hi,g5,e1,e2,zar hi (by omega)]
   rw[zdI (by(have:=hBM;simp only[yhr,yhs,yht,List.length_map,yhc,yhb];omega))]
   rfl
  | false =>
   simp only[zae,cond_false]
   simp only[zac,zaE,zag,zal hi,g5,e1,e2,zar hi (by omega)]
   rw[zdI (by(have:=hBM;simp only[yhr,yhs,yht,List.length_map,yhc,yhb];omega))]
   rfl
 ·simp only[zap,zae,List.take_length]
end Go.Fw
namespace Go.Fw
open Go
set_option linter.unusedSimpArgs false
set_option linter.unusedVariables false
def zC4(U ts:List Typ):Prop:=∀t∈ts,∀g∈t.fields,∃u∈U,u.name=t.name/\∃h∈u.fields,h.name=g.name
theorem zt3(ps:List Part)(n:SB):∀(xs fs:List Field),∀g∈xs.foldl (zom ps n) fs,(∃h∈fs,h.name=g.name)\/∃h∈xs,h.name=g.name
 | [],fs,g,hg=>.inl ⟨g,hg,rfl⟩
 | x:: xs,fs,g,hg=>by
  rw[List.foldl_cons]at hg
  rcases zt3 ps n xs _ g hg with⟨h,h1,h2⟩|⟨h,h1,h2⟩
  ·unfold zom at h1
   cases hq:fs.any (fun g=>g.name==x.name)with
   | true=>rw[hq]at h1;exact .inl ⟨h,h1,h2⟩
   | false =>
    rw[hq]at h1
    rcases List.mem_append.1 h1 with h1|h1
    ·exact .inl ⟨h,h1,h2⟩
    ·simp only[List.mem_singleton]at h1
     subst h1
     exact .inr ⟨x,by simp,h2⟩
  ·exact .inr ⟨h,by simp[h1],h2⟩
theorem zyU{ps:List Part}{U ts:List Typ}{t:Typ}(h:zC4 U ts)(ht:t∈U):zC4 U (zl2 ps (zom ps) ts t):=by
 unfold zl2
 obtain⟨a,ts1,hc,ha,hn⟩:=zzg ps ts t
 have h1:zC4 U ts1:=by
  unfold crM at hc
  cases hf:ts.findIdx? (fun u=>u.name==t.name)with
  | none =>
   rw[hf]at hc
   simp only[Prod.mk.injEq]at hc
   rw[<-hc.2]
   intro u hu g hg
   rcases List.mem_append.1 hu with hu|hu
   ·exact h u hu g hg
   ·simp only[List.mem_singleton]at hu
    subst hu
    cases hg
  | some k =>
   rw[hf]at hc
   simp only[Prod.mk.injEq]at hc
   rw[<-hc.2];exact h
 rw[hc]
 dsimp only
 rw[ziJ ha]
 intro u hu g hg
 rcases List.mem_or_eq_of_mem_set hu with hu|rfl
 ·exact h1 u hu g hg
 ·dsimp only at hg|-
  rcases zt3 ps t.name t.fields _ g hg with⟨w,w1,w2⟩|⟨w,w1,w2⟩
  ·obtain⟨v,v1,v2,x,x1,x2⟩:=h1 _ (ygh ha) w w1
   exact⟨v,v1,v2,x,x1,x2.trans w2⟩
  ·exact⟨t,ht,hn.symm,w,w1,w2⟩
theorem zyQ(ps:List Part):zC4 (ps.flatMap (·.types)) (AllL ps).types:=by
 show zC4 _ (zrw ps (zom ps) ps)
 rw[zo5]
 have:∀(L U ts:List Typ),(∀t∈L,t∈U)->zC4 U ts->zC4 U (L.foldl (zl2 ps (zom ps)) ts):=by
  intro L
  induction L with
  | nil=>intro U ts _ h;exact h
  | cons x L ih =>
   intro U ts hL h
   exact ih U _ (fun t ht=>hL t (by simp[ht])) (zyU h (hL x (by simp)))
 exact this _ _ [] (fun t ht=>ht) (fun t ht=>by cases ht)
structure Ch (ps:List Part):Prop where
 l4:ps.length<=4
 nm:∀p∈ps,nameM p.name=true
 K:KP KK (AllL ps)
 O:OkP (AllL ps)
 I:I2 ps
theorem Ch.of{ps:List Part}(hp:KL KK ps)(h:zrD ps=true):Ch ps:=by
 unfold zrD at h
 simp only[yhb,yhe]at h
 have:=zsF.1.1 h.1
 exact⟨this.1.2.1,fun p hpm=>(this.1.ok p hpm).name,zyP (this.1.sm hp) hp,.of h.2,this.2⟩
theorem Ch.n8{ps:List Part}(h:Ch ps):∀p∈ps,p.name.length<=8:=fun p hp=>zeE (h.nm p hp)
theorem Ch.known{ps:List Part}(h:Ch ps){n f:SB}(hg:(zhA (AllL ps) n f).isSome=true):0<(kn ps n f).length:=by
 obtain⟨g,hg⟩:=Option.isSome_iff_exists.1 hg
 obtain⟨t,ht,e1,_,hgt,e2,_⟩:=zmG hg
 obtain⟨u,hu,e3,x,hx,e4⟩:=zyQ ps t ht g hgt
 obtain⟨p,hp,hup⟩:=List.mem_flatMap.1 hu
 have hc:=(h.I p hp u hup).2.2 x hx
 rw[e3,e4,e1,e2]at hc
 rw[zCE]
 unfold zkQ at hc
 cases hd:decide (0<(zcm n f 0 ps).length)with
 | true=>simpa using hd
 | false=>rw[hd]at hc;cases hc
def zda(ps:List Part):List Own:=(AllL ps).types.flatMap (zia ps)
theorem zsj{ps:List Part}{o:Own}(h:o∈zda ps):∃t∈(AllL ps).types,∃g∈t.fields,o=⟨t.name,g.name,zcm t.name g.name 0 ps⟩:=by
 obtain⟨t,ht,ho⟩:=List.mem_flatMap.1 h
 obtain⟨g,hg,rfl⟩:=List.mem_map.1 ho
 exact⟨t,ht,g,hg,rfl⟩
theorem Ch.len{ps:List Part}(h:Ch ps):(zda ps).length<=40:=by
 have:=zvt (ps:=ps) h.O.types (fun t ht=>(Wt.mk' (h.K.2.2 t ht) (h.O.type t ht).line).fields) (AllL ps).types.length
 rwa [List.take_length]at this
theorem Ch.any{ps:List Part}(h:Ch ps)(n f:SB):(zda ps).any (fun o=>o.type==n&&o.field==f)=(zhA (AllL ps) n f).isSome:=by
 rw[Bool.eq_iff_iff,List.any_eq_true]
 constructor
 ·rintro⟨o,ho,hq⟩
  obtain⟨t,ht,g,hg,rfl⟩:=zsj ho
  simp only[yhb,yhe]at hq
  obtain⟨rfl,rfl⟩:=hq
  have hT:=h.O.type t ht
  unfold zhA
  rw[hT.ty]
  show(fdM t g.name).isSome=true
  rw[hT.fd g hg];rfl
 ·intro hs
  obtain⟨g,hg⟩:=Option.isSome_iff_exists.1 hs
  obtain⟨t,ht,e1,_,hgt,e2,_⟩:=zmG hg
  exact⟨⟨t.name,g.name,zcm t.name g.name 0 ps⟩,List.mem_flatMap.2 ⟨t,ht,List.mem_map.2 ⟨g,hgt,rfl⟩⟩,by rw[e1,e2];simp⟩
theorem zBW{ps:List Part}(hp:KL KK ps)(h:Ch ps){c:Chart}(hc:c.owners=zda ps)(n f:SB):zcG (c,n,f)=some (bif (zhA (AllL ps) n f).isSome then zcm n f 0 ps else[]):=by
 rw[zhR];unfold zds;dsimp only
 have hk:KK=1048576:=rfl
 have h40:=h.len
 have hx:zb7 (c.owners,n,f)=some (ixM (fun o:Own=>o.type==n&&o.field==f) c.owners):=by
  rw[zfY];unfold zb0;dsimp only
  refine ixf (g:=fun o:Own=>zcw (o,n,f)) (fun o:Own=>o.type==n&&o.field==f) (by rw[hc];omega) (fun o _=>?_)
  rw[zgC];unfold zcn;dsimp only
  cases(o.type==n)<;>rfl
 rw[hx,zac,<-h.any n f,hc]
 rcases zcf (fun o:Own=>o.type==n&&o.field==f) (zda ps)with⟨h1,_,h2⟩|⟨i,hi,h1,_,h3,h2⟩
 ·rw[h1,h2];rfl
 ·rw[h1,h2,zq9,zae,zaE,zag,zal hi,zac]
  obtain⟨t,ht,g,hg,e⟩:=zsj (ygh hi)
  rw[e]at h3|-
  simp only[yhb,yhe]at h3
  obtain⟨rfl,rfl⟩:=h3
  have hl:=zmU t.name g.name ps 0
  have:=h.l4
  rw[zdE];unfold zbH;dsimp only
  rw[zdI (by simp;omega)]
  rfl
theorem zzL{l:List SB}(h1:l.length<=140737488355328)(h2:(zck l).length<=140737488355328):zaQ (l,[32])=some (zck l):=by
 rw[zeS]
 unfold zdy zzJ
 have e1:decide (l.length<=140737488355328)=true:=by simpa using h1
 have e2:decide ((Lib.join l [32]).length<=140737488355328)=true:=by simpa[zck]using h2
 dsimp only
 rw[e1,e2];rfl
def zqB(o n:List Part)(w:Own):Bool:=(zhA (AllL n) w.type w.field).isSome&&zck (kn o w.type w.field) !=zck (kn n w.type w.field)
def zzZ(o n:List Part)(w:Own):SB:=w.type++[46]++w.field++[58,32]++zck (kn o w.type w.field)++[32,62,32]++zck (kn n w.type w.field)
def mvL(o n:List Part)(w:Own):List SB:=bif zqB o n w then[zzZ o n w]else[]
theorem zD5(o n:List Part)(l:List Own):(l.flatMap (mvL o n)).length<=l.length:=by
 induction l with
 | nil=>simp
 | cons w l ih =>
  have:(mvL o n w).length<=1:=by unfold mvL;cases zqB o n w<;>simp
  simp only[List.flatMap_cons,yhr,yhs]
  omega
theorem zBs{a b:List SB}(ha:a.length<=KK):zaC (a,b)=some (a==b):=by
 rw[zcb];unfold zaA;dsimp only
 have hk:KK=1048576:=rfl
 by_cases hl:a.length=b.length
 ·have h1:((a.length:Int) !=(b.length:Int))=false:=by rw[hl];simp
  rw[h1,zae]
  rw[zdK (s0:=(0:Int)) a (fun i=>(i:Int)) (a.length:Int) (fun i x=>bif (b[i]? ==some x)then none else some false) rfl ?_ ?_]
  ·rw[zdo]
   cases hq:zqW (fun i x=>b[i]? ==some x) 0 a with
   | true =>
    have:a=b:=List.ext_getElem hl fun j h1 h2=>by
     have:=(zkw _ _ _).1 hq j h1
     rw[Nat.zero_add,ygb h2]at this
     simpa using(yhe.1 this).symm
    subst this
    rw[beq_self_eq_true];rfl
   | false =>
    have:¬a=b:=by
     rintro rfl
     have:zqW (fun i x=>a[i]? ==some x) 0 a=true:=(zkw _ _ _).2 fun j h=>by rw[Nat.zero_add,ygb h];simp
     rw[hq]at this;cases this
    have:(a==b)=false:=by simpa using this
    rw[this];rfl
  ·intro i hi
   have hi':i<b.length:=by omega
   simp only[zaO hi,zaf,zaE,zag,zal hi,zal hi',zac,zar hi (by omega),ygb hi']
   by_cases he:a[i]=b[i]
   ·have e1:(a[i] !=b[i])=false:=by simpa using he
    have e2:(some b[i]==some a[i])=true:=by simpa using he.symm
    rw[e1,e2];rfl
   ·have e1:(a[i] !=b[i])=true:=by simpa using he
    have e2:(some b[i]==some a[i])=false:=by simpa using fun h=>he h.symm
    rw[e1,e2];rfl
  ·simp only[zap,zae]
 ·have h1:((a.length:Int) !=(b.length:Int))=true:=by simp;omega
  have h2:(a==b)=false:=by
   have:¬a=b:=fun h=>hl (by rw[h])
   simpa using this
  rw[h1,zaf,h2]
theorem zzW{ps:List Part}(h:Ch ps)(n f:SB):∀x∈kn ps n f,WOk x:=fun x hx=>let⟨p,hp,e⟩:=zzV hx;by rw[<-e];exact zBR (h.nm p hp)
theorem zDP{ps:List Part}(h:Ch ps)(n f:SB):(kn ps n f).length<=4:=by rw[zCE];have:=zmU n f ps 0;have:=h.l4;omega
theorem zrX{ps:List Part}(h:Ch ps)(n f:SB):(zck (kn ps n f)).length<=36:=by
 have:=ztJ (l:=kn ps n f) fun x hx=>let⟨p,hp,e⟩:=zzV hx;by rw[<-e];exact h.n8 p hp
 have:=zDP h n f
 omega
theorem zAc{o n:List Part}(ho:Ch o)(hn:Ch n)(w:Own)(is:List SB)(his:is=bif (zhA (AllL n) w.type w.field).isSome then kn n w.type w.field else[]):
  (bif decide (0<is.length)then !(kn o w.type w.field==is)else false)=zqB o n w:=by
 subst his
 unfold zqB
 cases hg:(zhA (AllL n) w.type w.field).isSome with
 | false=>rfl
 | true =>
  have h0:=hn.known hg
  have h1:decide (0<(kn n w.type w.field).length)=true:=by simpa using h0
  simp only[cond_true,Bool.true_and]
  rw[h1,cond_true]
  by_cases he:kn o w.type w.field=kn n w.type w.field
  ·rw[he];simp
  ·have e1:(kn o w.type w.field==kn n w.type w.field)=false:=by simpa using he
   have e2:(zck (kn o w.type w.field) !=zck (kn n w.type w.field))=true:=by
    have:¬zck (kn o w.type w.field)=zck (kn n w.type w.field):=fun h=>he (zzK (zzW ho _ _) (zzW hn _ _) h)
    simpa using this
   rw[e1,e2];rfl
theorem zDa(n:Nat):decide ((n:Int)>0)=decide (0<n):=zuE n
theorem ztj{b:Bool}{x y:Bool}:(zab b (some x) (some y))=some (bif b then x else y):=by cases b<;>rfl
theorem zvl{o n:List Part}(ho:KL KK o)(hn:KL KK n):∃r,zdX (o,n)=some r/\zbW (o,n)=some r/\r.length<=KK:=by
 obtain⟨a,a1,a2,a3⟩:=zoo ho
 obtain⟨a',b1,b2,b3⟩:=zog ho
 obtain⟨c,c1,c2,c3⟩:=zoo hn
 obtain⟨c',d1,d2,d3⟩:=zog hn
 rw[zjw,zhQ]
 unfold zfl zdr
 dsimp only
 have q1:(a.2.code !=0)= !zrD o:=by rw[<-a2];rfl
 have q2:(c.2.code !=0)= !zrD n:=by rw[<-c2];rfl
 have q3:decide (a'.2.code>0)= !zrD o:=b2
 have q4:decide (c'.2.code>0)= !zrD n:=d2
 rw[a1,b1,zac,zac,c1,d1,zac,zac,q1,q2,q3,q4]
 cases hco:zrD o with
 | false=>exact⟨[],rfl,rfl,Nat.zero_le _⟩
 | true =>
  cases hcn:zrD n with
  | false=>exact⟨[],rfl,rfl,Nat.zero_le _⟩
  | true =>
   have co:=Ch.of ho hco
   have cn:=Ch.of hn hcn
   obtain⟨a4,a5⟩:=a3 hco
   obtain⟨b4,b5⟩:=b3 hco
   obtain⟨c4,c5⟩:=c3 hcn
   obtain⟨d4,d5⟩:=d3 hcn
   simp only[Bool.not_true,zae,zac,a5,b5,c4]
   have hk:KK=1048576:=rfl
   have h40:=co.len
   change(zda o).length<=40 at h40
   show ∃r,zaa (zam _ _) _=some r/\zaa (zam _ _) _=some r/\_
   have hlen:∀i,((((zda o).take i).flatMap (mvL o n))).length<=40:=fun i=>Nat.le_trans (zD5 o n _) (zAT _ i _ h40)
   have hw:∀w∈zda o,w.type.length<=8/\w.field.length<=8/\w.parts=zcm w.type w.field 0 o:=by
    intro w hw
    obtain⟨t,ht,g,hg,rfl⟩:=zsj hw
    have hT:=co.O.type t ht
    have hl:=hT.line
    unfold lineM at hl
    simp only[yhb]at hl
    exact⟨zeE hl.1,zeE (hT.nm g hg),rfl⟩
   have hall:zgI=zgI:=rfl
   refine⟨(zda o).flatMap (mvL o n),?_,?_,by have:=hlen (zda o).length;rw[List.take_length]at this;omega⟩
   ·rw[show(AllL o).types.flatMap (zia o)=zda o from rfl]
    rw[zeH (s0:=((0:Int),([]:List SB))) (zda o).length (fun i=>((i:Int),((zda o).take i).flatMap (mvL o n))) (((zda o).length:Int),(zda o).flatMap (mvL o n)) rfl ?_ ?_]
    ·intro i hi
     obtain⟨w1,w2,w3⟩:=hw _ (ygh hi)
     have hb:=hlen i
     have j1:=zrX co (zda o)[i].type (zda o)[i].field
     have j2:=zrX cn (zda o)[i].type (zda o)[i].field
     have hg:zgI (⟨(AllL n).name,(AllL n).types⟩,(zda o)[i].type,(zda o)[i].field)=_:=zkL (p:=AllL n) cn.K
     simp only[zaO hi,zaf,zaE,zag,zal hi,zac,hg,zwN ho co.l4 co.n8,zwN hn cn.l4 cn.n8,ztj,zar hi (by omega),zoL hi]
     rw[show(bif (zhA (AllL n) (zda o)[i].type (zda o)[i].field).isSome then zck (kn o (zda o)[i].type (zda o)[i].field) !=zck (kn n (zda o)[i].type (zda o)[i].field)else false)=zqB o n (zda o)[i]from by unfold zqB;cases(zhA (AllL n) (zda o)[i].type (zda o)[i].field).isSome<;>rfl]
     generalize((zda o).take i).flatMap (mvL o n)=X at *
     unfold mvL zzZ
     generalize(zda o)[i]=w at *
     generalize zck (kn o w.type w.field)=J1 at *
     generalize zck (kn n w.type w.field)=J2 at *
     cases zqB o n w with
     | true =>
      simp only[zaf,cond_true]
      repeat rw[zdI (by(have:=hBM;simp only[yhr,yhs,yht,List.length_map,yhc,yhb];omega))]
      rfl
     | false =>
      simp only[zae,zac,cond_false,List.append_nil]
      rfl
    ·simp only[zap,zae,List.take_length]
   ·rw[show(AllL o).types.flatMap (zia o)=zda o from rfl]
    rw[zeH (s0:=((0:Int),([]:List SB))) (zda o).length (fun i=>((i:Int),((zda o).take i).flatMap (mvL o n))) (((zda o).length:Int),(zda o).flatMap (mvL o n)) rfl ?_ ?_]
    ·intro i hi
     obtain⟨w1,w2,w3⟩:=hw _ (ygh hi)
     have hb:=hlen i
     have j1:=zrX co (zda o)[i].type (zda o)[i].field
     have j2:=zrX cn (zda o)[i].type (zda o)[i].field
     have l1:=zDP co (zda o)[i].type (zda o)[i].field
     have l2:=zDP cn (zda o)[i].type (zda o)[i].field
     have ho2:zcG (⟨⟨c'.1.all.name,c'.1.all.types⟩,c'.1.owners⟩,(zda o)[i].type,(zda o)[i].field)=some (bif (zhA (AllL n) (zda o)[i].type (zda o)[i].field).isSome then zcm (zda o)[i].type (zda o)[i].field 0 n else[]):=zBW hn cn d5 _ _
     have hn2:zfA (n,bif (zhA (AllL n) (zda o)[i].type (zda o)[i].field).isSome then zcm (zda o)[i].type (zda o)[i].field 0 n else[])=some (bif (zhA (AllL n) (zda o)[i].type (zda o)[i].field).isSome then kn n (zda o)[i].type (zda o)[i].field else[]):=by
      cases(zhA (AllL n) (zda o)[i].type (zda o)[i].field).isSome with
      | true=>exact zwZ hn.1
      | false=>exact zAi
     have hm:=zAc co cn (zda o)[i] _ rfl
     simp only[zaO hi,zaf,zaE,zag,zal hi,zac,w3,zwZ ho.1,ho2,hn2,zBs (Nat.le_trans l1 (by decide)),zar hi (by omega),zoL hi,zDa]
     have hsel:zqB o n (zda o)[i]=true->(bif (zhA (AllL n) (zda o)[i].type (zda o)[i].field).isSome then kn n (zda o)[i].type (zda o)[i].field else[])=kn n (zda o)[i].type (zda o)[i].field:=by
      unfold zqB
      intro h
      simp only[yhb]at h
      rw[h.1];rfl
     rw[ztj,hm,zac]
     generalize((zda o).take i).flatMap (mvL o n)=X at *
     unfold mvL zzZ
     generalize(zda o)[i]=w at *
     cases hmv:zqB o n w with
     | true =>
      rw[hsel hmv]
      simp only[zaf,cond_true]
      have k1:zaQ (kn o w.type w.field,[32])=some (zck (kn o w.type w.field)):=zzL (Nat.le_trans l1 (by decide)) (Nat.le_trans j1 (by decide))
      have k2:zaQ (kn n w.type w.field,[32])=some (zck (kn n w.type w.field)):=zzL (Nat.le_trans l2 (by decide)) (Nat.le_trans j2 (by decide))
      rw[k1,k2]
      simp only[zac]
      generalize zck (kn o w.type w.field)=J1 at *
      generalize zck (kn n w.type w.field)=J2 at *
      repeat rw[zdI (by(have:=hBM;simp only[yhr,yhs,yht,List.length_map,yhc,yhb];omega))]
      rfl
     | false =>
      simp only[zae,zac,cond_false,List.append_nil]
      rfl
    ·simp only[zap,zae,List.take_length]
theorem zwP{o n:List Part}(ho:KL BIG o)(hn:KL BIG n):zba (o,n)=some true:=zGb ho hn fun h1 h2=>zvl h1 h2
end Go.Fw
