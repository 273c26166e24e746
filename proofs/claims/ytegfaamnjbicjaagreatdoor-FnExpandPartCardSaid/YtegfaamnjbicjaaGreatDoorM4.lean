/- A part of the proof: what stands for the program, its functions, and what they come to. -/
import Derived.Test.YtegfaamnjbicjaaGreatDoorM3
set_option linter.all false
namespace Go.Fw
open Go
variable [Pin]
mutual
def encR(J:Nat->Nat)(mem:List Root):V->AV
|.own r=>match mem[r]? with
 |some (.arr t xs _)=>.ms (J r) t.sz 0 xs.length
 |some (.box _ _)=>.mapr (J r)
 |_=>.junk
|.mp r row off=>match mem[r]? with
 |some (.arr _ _ _)=>.mp (J r) row off
 |some (.box _ _)=>.mp (J r) 0 off
 |_=>.junk
|.junk|.part _ _ _=>.junk
|.int k n=>.int k n
|.bool b=>.bool b
|.str s=>.str s
|.lst t xs=>.sl t.sz (xs.map (zap t))
|.nl es=>.sl es []
|.e0=>.e0
|.st n x=>.agg (zdI n x)
|.agg cs=>.agg (encRL J mem cs)
|.tup cs=>.tup (encRL J mem cs)
|.ep n x=>.ip (zdI n x)
|.ip cs=>.ip (encPL cs)
|.fn f cs=>.fn f (encRL J mem cs)
|.nilp=>.nilp
|.nilf=>.nilf
def encRL(J:Nat->Nat)(mem:List Root):List V->List AV
|[]=>[]
|c:: cs=>encR J mem c:: encRL J mem cs
end
mutual
def V.sol(mem:List Root):V->Bool
|.junk|.part _ _ _=>false
|.own r=>match mem[r]? with
 |some (.arr _ _ _)=>true
 |some (.box _ _)=>true
 |_=>false
|.mp r row _=>match mem[r]? with
 |some (.arr _ _ _)=>true
 |some (.box _ _)=>Nat.beq row 0
 |_=>false
|.agg cs|.tup cs|.fn _ cs=>V.solL mem cs
|.ip cs=>V.purL cs
|.int _ _|.bool _|.str _|.lst _ _|.nl _|.e0|.st _ _|.ep _ _|.nilp|.nilf=>true
def V.solL(mem:List Root):List V->Bool
|[]=>true
|c:: cs=>c.sol mem&&V.solL mem cs
end
section
variable {J:Nat->Nat}{mem:List Root}
mutual
theorem VR.encR:∀{v:V}{a:AV},v.sol mem=true->VR J mem v a->a=Go.Fw.encR J mem v
|.junk,_,h,_|.part ..,_,h,_=>by simp[V.sol]at h
|.own r,a,h,hv=>by
 simp only[V.sol]at h;split at h
 ·rename_i t xs w e;simp only[VR,zep,e]at hv;simp only[Go.Fw.encR,e];exact hv
 ·rename_i b cs e;simp only[VR,zep,e]at hv;simp only[Go.Fw.encR,e];exact hv
 ·cases h
|.mp r row off,a,h,hv=>by
 simp only[V.sol]at h;split at h
 ·rename_i t xs w e;simp only[VR,mpR,e]at hv;simp only[Go.Fw.encR,e];exact hv
 ·rename_i b cs e;simp only[VR,mpR,e]at hv;simp only[Go.Fw.encR,e];exact hv.1
 ·cases h
|.int _ _,a,_,hv|.bool _,a,_,hv|.str _,a,_,hv|.lst _ _,a,_,hv|.nl _,a,_,hv|.e0,a,_,hv|.ep _ _,a,_,hv|.nilp,a,_,hv|.nilf,a,_,hv|.st _ _,a,_,hv=>by simpa[VR,Go.Fw.encR]using hv
|.ip cs,a,h,hv=>by simp only[VR]at hv;obtain⟨as,rfl,hv⟩:=hv;simp only[Go.Fw.encR];rw[zf1 hv (by simpa[V.sol]using h)]
|.agg cs,a,h,hv|.tup cs,a,h,hv|.fn _ cs,a,h,hv=>by simp only[VR]at hv;obtain⟨as,rfl,hv⟩:=hv;simp only[Go.Fw.encR];rw[VRL.encR (by simpa[V.sol]using h) hv]
theorem VRL.encR:∀{cs:List V}{as:List AV},V.solL mem cs=true->VRL J mem cs as->as=encRL J mem cs
|[],as,_,h=>by simpa[VRL,encRL]using h
|c:: cs,as,hp,h=>by simp only[VRL]at h;obtain⟨a,as',rfl,h2,h3⟩:=h;simp only[V.solL,yhb]at hp;simp only[encRL];rw[VR.encR hp.1 h2,VRL.encR hp.2 h3]
end
mutual
theorem zx5:∀(v:V),v.sol mem=true->VR J mem v (encR J mem v)
|.junk,h|.part ..,h=>by simp[V.sol]at h
|.own r,h=>by
 simp only[V.sol]at h;split at h
 ·rename_i t xs w e;simp only[encR,VR,zep,e]
 ·rename_i b cs e;simp only[encR,VR,zep,e]
 ·cases h
|.mp r row off,h=>by
 simp only[V.sol]at h;split at h
 ·rename_i t xs w e;simp only[encR,VR,mpR,e]
 ·rename_i b cs e;simp only[encR,VR,mpR,e];exact⟨trivial,zbN h⟩
 ·cases h
|.int _ _,_|.bool _,_|.str _,_|.lst _ _,_|.nl _,_|.e0,_|.ep _ _,_|.nilp,_|.nilf,_|.st _ _,_=>by simp[VR,encR]
|.ip cs,hp=>by simp only[VR,encR];exact⟨_,rfl,zeP cs (by simpa[V.sol]using hp)⟩
|.agg cs,hp|.tup cs,hp|.fn _ cs,hp=>by simp only[VR,encR];exact⟨_,rfl,zhW cs (by simpa[V.sol]using hp)⟩
theorem zhW:∀(cs:List V),V.solL mem cs=true->VRL J mem cs (encRL J mem cs)
|[],_=>by simp[VRL,encRL]
|c:: cs,hp=>by simp only[V.solL,yhb]at hp;simp only[encRL];exact .cons (zx5 c hp.1) (zhW cs hp.2)
end
mutual
theorem zqQ(g:Nat->Nat):∀(v:V),v.sol mem=true->(encR J mem v).ren g=encR (fun r=>g (J r)) mem v
|.junk,h|.part ..,h=>by simp[V.sol]at h
|.own r,h=>by
 simp only[V.sol]at h;split at h
 ·rename_i t xs w e;simp only[encR,e,AV.ren]
 ·rename_i b cs e;simp only[encR,e,AV.ren]
 ·cases h
|.mp r row off,h=>by
 simp only[V.sol]at h;split at h
 ·rename_i t xs w e;simp only[encR,e,AV.ren]
 ·rename_i b cs e;simp only[encR,e,AV.ren]
 ·cases h
|.int _ _,_|.bool _,_|.str _,_|.lst _ _,_|.nl _,_|.e0,_|.nilp,_|.nilf,_=>by simp[encR,AV.ren]
|.ep n x,_|.ip cs,hp=>by simp only[encR];exact AV.ren_pure g _ (by simp)
|.st n x,_=>by simp only[encR];exact AV.ren_pure g _ (by simpa using zdl n x)
|.agg cs,hp|.tup cs,hp|.fn _ cs,hp=>by simp only[encR,AV.ren];rw[AV.renL_eq,zhY g cs (by simpa[V.sol]using hp)]
theorem zhY(g:Nat->Nat):∀(cs:List V),V.solL mem cs=true->(encRL J mem cs).map (AV.ren g)=encRL (fun r=>g (J r)) mem cs
|[],_=>rfl
|c:: cs,hp=>by simp only[V.solL,yhb]at hp;simp only[encRL,List.map_cons];rw[zqQ g c hp.1,zhY g cs hp.2]
end
mutual
theorem zqP{n:Nat}(hn:∀(r:Nat) x,mem[r]? =some x->x.alive=true->J r<n):∀(v:V),v.sol mem=true->(encR J mem v).bel n=true
|.junk,h|.part ..,h=>by simp[V.sol]at h
|.own r,h=>by
 simp only[V.sol]at h;split at h
 ·rename_i t xs w e;simp only[encR,e,AV.bel,yhc];exact hn r _ e rfl
 ·rename_i b cs e;simp only[encR,e,AV.bel,yhc];exact hn r _ e rfl
 ·cases h
|.mp r row off,h=>by
 simp only[V.sol]at h;split at h
 ·rename_i t xs w e;simp only[encR,e,AV.bel,yhc];exact hn r _ e rfl
 ·rename_i b cs e;simp only[encR,e,AV.bel,yhc];exact hn r _ e rfl
 ·cases h
|.int _ _,_|.bool _,_|.str _,_|.lst _ _,_|.nl _,_|.e0,_|.nilp,_|.nilf,_|.ep _ _,_|.ip _,_=>by simp[encR,AV.bel]
|.st n x,_=>by simp only[encR];exact AV.bel_pure (by simpa using zdl n x)
|.agg cs,hp|.tup cs,hp|.fn _ cs,hp=>by simp only[encR,AV.bel];exact zhX hn cs (by simpa[V.sol]using hp)
theorem zhX{n:Nat}(hn:∀(r:Nat) x,mem[r]? =some x->x.alive=true->J r<n):∀(cs:List V),V.solL mem cs=true->AV.belL n (encRL J mem cs)=true
|[],_=>rfl
|c:: cs,hp=>by simp only[V.solL,yhb]at hp;simp only[encRL,AV.belL,yhb];exact⟨zqP hn c hp.1,zhX hn cs hp.2⟩
end
theorem zoc:∀cs:List V,(encRL J mem cs).length=cs.length
|[]=>rfl
|c:: cs=>by simp[encRL,zoc cs]
end
def zxw:Ow->OS
|.no=>.no
|.cl os=>os
|.op _ _ _=>.no
def zbc(J:Nat->Nat)(mem:List Root)(n:Nat):Root->Ent×List Ent
|.dead=>(.dead,[])
|.arr t xs w=>(.arr t.sz (zd2 n (zxw w) (xs.map (zap t))).1,(zd2 n (zxw w) (xs.map (zap t))).2)
|.box b cs=>(boxE b cs.length (encRL J mem cs),[])
def zau(J:Nat->Nat)(mem:List Root):Nat->List Root->List Ent×List Ent×List (List Nat)
|_,[]=>([],[],[])
|n,x:: l=>((zbc J mem n x).1:: (zau J mem (n+(zbc J mem n x).2.length) l).1,(zbc J mem n x).2++(zau J mem (n+(zbc J mem n x).2.length) l).2.1,List.range' n (zbc J mem n x).2.length:: (zau J mem (n+(zbc J mem n x).2.length) l).2.2)
section
variable {J:Nat->Nat}{mem:List Root}
theorem zaQ:∀(l:List Root)(n:Nat),(zau J mem n l).1.length=l.length/\(zau J mem n l).2.2.length=l.length
|[],n=>⟨rfl,rfl⟩
|x:: l,n=>by obtain⟨h1,h2⟩:=zaQ l (n+(zbc J mem n x).2.length);simp[zau,h1,h2]
theorem zbd:∀(l:List Root)(n r:Nat) x,l[r]? =some x->∃k,(zau J mem n l).1[r]? =some (zbc J mem (n+k) x).1/\(zau J mem n l).2.2[r]? =some (List.range' (n+k) (zbc J mem (n+k) x).2.length)/\
 (∀(j:Nat)(e:Ent),(zbc J mem (n+k) x).2[j]? =some e->(zau J mem n l).2.1[k+j]? =some e)/\k+(zbc J mem (n+k) x).2.length<=(zau J mem n l).2.1.length
 |[],n,r,x,h=>by simp at h
 |y:: l,n,0,x,h=>by
  simp at h;subst h;refine⟨0,rfl,rfl,fun j e hj=>?_,?_⟩
  ·simp only[Nat.add_zero]at hj;simp only[zau,Nat.zero_add];rw[yge (yga.1 hj).1];exact hj
  ·simp only[zau,yhr,Nat.add_zero];omega
 |y:: l,n,r+1,x,h=>by
  obtain⟨k,h1,h2,h3,h4⟩:=zbd l (n+(zbc J mem n y).2.length) r x (by simpa using h);refine⟨(zbc J mem n y).2.length+k,?_,?_,fun j e hj=>?_,?_⟩
  ·rw[<-Nat.add_assoc];simpa[zau]using h1
  ·rw[<-Nat.add_assoc];simpa[zau]using h2
  ·rw[<-Nat.add_assoc]at hj;simp only[zau];rw[ygf (by omega),show(zbc J mem n y).2.length+k+j-(zbc J mem n y).2.length=k+j by omega];exact h3 j e hj
  ·rw[<-Nat.add_assoc];simp only[zau,yhr];omega
theorem zbH:∀(l:List Root)(n:Nat),(zau J mem n l).2.2.flatten=List.range' n (zau J mem n l).2.1.length
|[],n=>rfl
|x:: l,n=>by simp only[zau,List.flatten_cons,zbH l,yhr,List.range'_append_1]
theorem zmn:∀(l:List Root)(n:Nat)(fps:List (List Nat)),fps.length=l.length->(∀(r:Nat) a b,(zau J mem n l).2.2[r]? =some a->fps[r]? =some b->a.length=b.length)->
 ∀(r:Nat) a b (k i j:Nat),(zau J mem n l).2.2[r]? =some a->fps[r]? =some b->a[k]? =some i->b[k]? =some j->n<=i/\fps.flatten[i-n]? =some j
 |[],n,fps,_,_,r,a,b,k,i,j,h,_,_,_=>by simp[zau]at h
 |x:: l,n,[],hl,_,_,_,_,_,_,_,_,_,_,_=>by simp at hl
 |x:: l,n,f:: fps,hl,hlen,r,a,b,k,i,j,ha,hb,hi,hj=>by
  have h0:=hlen 0 _ f rfl rfl;simp only[zau,List.length_range']at h0;cases r with
  |zero=>
   simp only[zau,List.getElem?_cons_zero,Option.some.injEq]at ha hb;subst ha hb;rw[List.getElem?_range']at hi
   ·simp only[Option.some.injEq]at hi;subst hi;refine⟨by omega,?_⟩;simp only[List.flatten_cons];rw[show n+1*k-n=k by omega,yge (yga.1 hj).1];exact hj
   ·have:=(yga.1 hj).1;omega
  |succ r=>have:=zmn l (n+(zbc J mem n x).2.length) fps (by simpa using hl) (fun r a b h1 h2=>hlen (r+1) a b (by simpa[zau]using h1) (by simpa using h2)) r a b k i j (by simpa[zau]using ha) (by simpa using hb) hi hj;refine⟨by omega,?_⟩;simp only[List.flatten_cons];rw[ygf (by omega),show i-n-f.length=i-(n+(zbc J mem n x).2.length) by omega];exact this.2
theorem ztv:∀(L:List (List Nat)),L.flatten.Nodup->∀(r r':Nat) a b,L[r]? =some a->L[r']? =some b->r≠r'->∀i∈a,i∉b
|[],_,r,r',a,b,h,_,_=>by simp at h
|x:: L,hn,r,r',a,b,ha,hb,hne=>by
 simp only[List.flatten_cons]at hn;obtain⟨n1,n2,n3⟩:=List.nodup_append.1 hn;have memb:∀(q:Nat) c,L[q]? =some c->∀i∈c,i∈L.flatten:=fun q c hq i hi=>List.mem_flatten.2 ⟨c,ygd hq,hi⟩;cases r with
 |zero=>
  simp at ha;subst ha;cases r' with
  |zero=>exact absurd rfl hne
  |succ r'=>intro i hi hib;exact n3 i hi i (memb r' b (by simpa using hb) i hib) rfl
 |succ r=>
  cases r' with
  |zero=>simp at hb;subst hb;intro i hi hib;exact n3 i hib i (memb r a (by simpa using ha) i hi) rfl
  |succ r'=>exact ztv L n2 r r' a b (by simpa using ha) (by simpa using hb) (fun e=>hne (by rw[e]))
theorem zjN(n:Nat){t:Ty}(xs:List (TV t)):zd2 n .no (xs.map (zap t))=(xs.map (zap t),[]):=by
 have cs:∀(as:List AV)(n off:Nat),zde n .no off as=(as,[]):=by
  intro as;induction as with
  |nil=>intro n off;rfl
  |cons a as ih=>intro n off;have:zib n (OS.no.sub off) a=(a,[]):=zoH;simp only[zde,this,yht,Nat.add_zero,ih,List.nil_append]
 induction xs generalizing n with
 |nil=>rfl
 |cons x xs ih=>simp only[List.map_cons,zd2,cs,yht,Nat.add_zero,ih,List.nil_append]
end
structure OkRs (roots:List Root):Prop where
 shut:∀(r:Nat) t xs w,roots[r]? =some (.arr t xs w)->w.shut=true
 cell:∀(r:Nat) b cs,roots[r]? =some (.box b cs)->cs.all V.isC=true
 sol:∀(r:Nat) b cs,roots[r]? =some (.box b cs)->V.solL roots cs=true
def rhoC(nin F j:Nat):Nat:=if j<nin then j else F+(j-nin)
def endM(nin F:Nat)(roots:List Root):List Ent:=
 (zau (rhoC nin F) roots (F+(roots.length-nin)) roots).1.take nin++List.replicate (F-nin) .dead++(zau (rhoC nin F) roots (F+(roots.length-nin)) roots).1.drop nin++(zau (rhoC nin F) roots (F+(roots.length-nin)) roots).2.1
def fpC(nin F:Nat)(roots:List Root)(r:Nat):List Nat:=(zau (rhoC nin F) roots (F+(roots.length-nin)) roots).2.2.getD r []
section
variable {nin F:Nat}{roots:List Root}
theorem zh2(h1:nin<=roots.length)(h2:nin<=F):(endM nin F roots).length=F+(roots.length-nin)+(zau (rhoC nin F) roots (F+(roots.length-nin)) roots).2.1.length:=by simp only[endM,yhr,List.length_take,List.length_drop,List.length_replicate,(zaQ roots _).1];omega
theorem zcS(h1:nin<=roots.length)(h2:nin<=F){r:Nat}(hr:r<roots.length):(endM nin F roots)[rhoC nin F r]? =(zau (rhoC nin F) roots (F+(roots.length-nin)) roots).1[r]?:=by
 have hl:=(zaQ (J:=rhoC nin F) (mem:=roots) roots (F+(roots.length-nin))).1;simp only[endM,rhoC];split
 ·rename_i h;rw[List.append_assoc,List.append_assoc,yge (by simp;omega),List.getElem?_take,if_pos h]
 ·rename_i h;rw[yge (by simp;omega),ygf (by simp;omega)];simp only[yhr,List.length_take,List.length_replicate,List.getElem?_drop,hl];congr 1;omega
theorem zoe(h1:nin<=roots.length)(h2:nin<=F)(k:Nat):(endM nin F roots)[F+(roots.length-nin)+k]? =(zau (rhoC nin F) roots (F+(roots.length-nin)) roots).2.1[k]?:=by have hl:=(zaQ (J:=rhoC nin F) (mem:=roots) roots (F+(roots.length-nin))).1;simp only[endM];rw[ygf (by simp;omega)];congr 1;simp;omega
theorem zf7(h1:nin<=roots.length)(h2:nin<=F){i:Nat}{e:Ent}(hi:(endM nin F roots)[i]? =some e):
 (∃r x,roots[r]? =some x/\i=rhoC nin F r)\/(e=.dead/\nin<=i/\i<F)\/(∃k,i=F+(roots.length-nin)+k/\(zau (rhoC nin F) roots (F+(roots.length-nin)) roots).2.1[k]? =some e):=by
 by_cases a:i<nin
 ·exact .inl ⟨i,_,ygb (by omega),by simp[rhoC,a]⟩
 ·by_cases b:i<F
  ·refine .inr (.inl ⟨?_,by omega,b⟩);have hl:=(zaQ (J:=rhoC nin F) (mem:=roots) roots (F+(roots.length-nin))).1;simp only[endM]at hi;rw[List.append_assoc,yge (by simp;omega),ygf (by simp;omega),List.getElem?_replicate]at hi;split at hi
   ·cases hi;rfl
   ·cases hi
  ·by_cases c:i<F+(roots.length-nin)
   ·exact .inl ⟨i-F+nin,_,ygb (by omega),by simp only[rhoC];rw[if_neg (by omega)];omega⟩
   ·refine .inr (.inr ⟨i-(F+(roots.length-nin)),by omega,?_⟩);rw[<-zoe h1 h2,<-hi];congr 1;omega
theorem zqb(h1:nin<=roots.length)(h2:nin<=F){r:Nat}(hr:r<roots.length):rhoC nin F r<F+(roots.length-nin):=by unfold rhoC;split<;>omega
theorem zww(h2:nin<=F){r r':Nat}(h:rhoC nin F r=rhoC nin F r'):r=r':=by unfold rhoC at h;split at h<;>split at h<;>omega
theorem zgW(r:Nat):(fpC nin F roots r=[]/\roots.length<=r)\/(zau (rhoC nin F) roots (F+(roots.length-nin)) roots).2.2[r]? =some (fpC nin F roots r):=by
 have hl:=(zaQ (J:=rhoC nin F) (mem:=roots) roots (F+(roots.length-nin))).2;unfold fpC;rw[List.getD_eq_getElem?_getD];cases e:(zau (rhoC nin F) roots (F+(roots.length-nin)) roots).2.2[r]? with
 |none=>exact .inl ⟨rfl,by have:=List.getElem?_eq_none_iff.1 e;omega⟩
 |some a=>exact .inr rfl
theorem zxi{r i:Nat}(hi:i∈fpC nin F roots r):F+(roots.length-nin)<=i:=by
 rcases zgW (nin:=nin) (F:=F) (roots:=roots) r with⟨h,_⟩|h
 ·rw[h]at hi;simp at hi
 ·have:i∈(zau (rhoC nin F) roots (F+(roots.length-nin)) roots).2.2.flatten:=List.mem_flatten.2 ⟨_,ygd h,hi⟩;rw[zbH]at this;exact(List.mem_range'_1.1 this).1
theorem zh1(h1:nin<=roots.length)(h2:nin<=F)(hok:OkRs roots):OwA (rhoC nin F) roots (endM nin F roots) (fpC nin F roots):=by
 have fpr:∀(r:Nat) x,roots[r]? =some x->∃k,(endM nin F roots)[rhoC nin F r]? =some (zbc (rhoC nin F) roots (F+(roots.length-nin)+k) x).1/\
  fpC nin F roots r=List.range' (F+(roots.length-nin)+k) (zbc (rhoC nin F) roots (F+(roots.length-nin)+k) x).2.length/\
  ∀(j:Nat)(e:Ent),(zbc (rhoC nin F) roots (F+(roots.length-nin)+k) x).2[j]? =some e->(endM nin F roots)[F+(roots.length-nin)+k+j]? =some e:=by
  intro r x hr;obtain⟨k,g1,g2,g3,g4⟩:=zbd (J:=rhoC nin F) (mem:=roots) roots (F+(roots.length-nin)) r x hr;refine⟨k,by rw[zcS h1 h2 (yga.1 hr).1];exact g1,by unfold fpC;rw[List.getD_eq_getElem?_getD,g2];rfl,fun j e hj=>?_⟩;rw[Nat.add_assoc,zoe h1 h2];exact g3 j e hj
 have nodup:(zau (rhoC nin F) roots (F+(roots.length-nin)) roots).2.2.flatten.Nodup:=by rw[zbH];exact zdT _ _
 refine⟨fun r t xs w hr=>?_,fun r hr=>?_,fun r=>?_,fun r r' hne i hi=>?_,fun r r' x hx ha hi=>?_⟩
 ·obtain⟨k,g1,g2,g3⟩:=fpr r _ hr;have hw:=hok.shut r t xs w hr;cases w with
  |op _ _ _=>cases hw
  |no=>simp only[zbc,zxw,zjN]at g1 g2;exact⟨g1,by simpa using g2⟩
  |cl os=>simp only[zbc,zxw]at g1 g2 g3;refine⟨_,g1,?_⟩;rw[g2];exact zmW _ os t xs _ rfl g3
 ·rcases zgW (nin:=nin) (F:=F) (roots:=roots) r with⟨h,_⟩|h
  ·exact h
  ·have hrl:r<roots.length:=by have:=(yga.1 h).1;rw[(zaQ roots _).2]at this;exact this
   have hx:roots[r]? =some roots[r]:=ygb _;generalize roots[r]=x at hx;obtain⟨k,_,g2,_⟩:=fpr r x hx;cases x with
   |arr t xs w=>exact absurd hx (hr t xs w)
   |dead=>simpa[zbc]using g2
   |box b cs=>simpa[zbc]using g2
 ·rcases zgW (nin:=nin) (F:=F) (roots:=roots) r with⟨h,_⟩|h
  ·rw[h];exact List.nodup_nil
  ·have hrl:r<roots.length:=by have:=(yga.1 h).1;rw[(zaQ roots _).2]at this;exact this
   obtain⟨k,_,g2,_⟩:=fpr r _ (ygb hrl);rw[g2];exact zdT _ _
 ·rcases zgW (nin:=nin) (F:=F) (roots:=roots) r with⟨h,_⟩|h
  ·rw[h]at hi;simp at hi
  ·rcases zgW (nin:=nin) (F:=F) (roots:=roots) r' with⟨h',_⟩|h'
   ·rw[h'];simp
   ·exact ztv _ nodup r r' _ _ h h' hne i hi
 ·have:=zxi hi;have:=zqb h1 h2 (yga.1 hx).1;omega
end
end Go.Fw
namespace Go.Fw
open Go
variable [Pin]
section
variable {J ρ':Nat->Nat}{mem:List Root}
mutual
theorem zl4(h:∀(r:Nat) x,mem[r]? =some x->x.alive=true->J r=ρ' r):∀(v:V),v.sol mem=true->encR J mem v=encR ρ' mem v
|.junk,hh|.part ..,hh=>by simp[V.sol]at hh
|.own r,hh=>by
 simp only[V.sol]at hh;split at hh
 ·rename_i t xs w e;simp only[encR,e,h r _ e rfl]
 ·rename_i b cs e;simp only[encR,e,h r _ e rfl]
 ·cases hh
|.mp r row off,hh=>by
 simp only[V.sol]at hh;split at hh
 ·rename_i t xs w e;simp only[encR,e,h r _ e rfl]
 ·rename_i b cs e;simp only[encR,e,h r _ e rfl]
 ·cases hh
|.int _ _,_|.bool _,_|.str _,_|.lst _ _,_|.nl _,_|.e0,_|.nilp,_|.nilf,_|.ep _ _,_|.ip _,_|.st _ _,_=>by simp only[encR]
|.agg cs,hp|.tup cs,hp|.fn _ cs,hp=>by simp only[encR];rw[zeQ h cs (by simpa[V.sol]using hp)]
theorem zeQ(h:∀(r:Nat) x,mem[r]? =some x->x.alive=true->J r=ρ' r):∀(cs:List V),V.solL mem cs=true->encRL J mem cs=encRL ρ' mem cs
|[],_=>rfl
|c:: cs,hp=>by simp only[V.solL,yhb]at hp;simp only[encRL];rw[zl4 h c hp.1,zeQ h cs hp.2]
end
end
section
variable {nin F:Nat}{roots:List Root}{J:Nat->Nat}{sm:List Ent}{fp:Nat->List Nat}{g:Nat->Nat}
def zkC(fp:Nat->List Nat)(n:Nat):List Nat:=((List.range n).map fp).flatten
theorem zoq{n i:Nat}:i∈zkC fp n↔∃r,r<n/\i∈fp r:=by simp only[zkC,List.mem_flatten,List.mem_map,List.mem_range];exact⟨fun⟨_,⟨r,h1,rfl⟩,h2⟩=>⟨r,h1,h2⟩,fun⟨r,h1,h2⟩=>⟨_,⟨r,h1,rfl⟩,h2⟩⟩
theorem zuy(hok:OkRs roots)(how:OwA J roots sm fp){ρ2:Nat->Nat}{r n:Nat}{x:Root}(hr:roots[r]? =some x):(zbc ρ2 roots n x).2.length=(fp r).length:=by
 cases x with
 |dead=>rw[how.nil r (fun t xs w e=>by rw[hr]at e;cases e)];rfl
 |box b cs=>rw[how.nil r (fun t xs w e=>by rw[hr]at e;cases e)];rfl
 |arr t xs w=>
  have hA:=how.rel r t xs w hr;have hw:=hok.shut r t xs w hr;cases w with
  |op _ _ _=>cases hw
  |no=>simp only[zbc,zxw,zjN];rw[hA.2];rfl
  |cl os=>obtain⟨rows,g1,g2⟩:=hA;exact(g2.lay n (fun i=>(fp r).getD (i-n) 0) fun k j hk=>by rw[Nat.add_sub_cancel_left,List.getD_eq_getElem?_getD,hk];rfl).2.1
theorem zqR(h1:nin<=roots.length)(h2:nin<=F)(hok:OkRs roots)(how:OwA J roots sm fp)(hbox:∀(r:Nat) b cs,roots[r]? =some (.box b cs)->∃as,sm[J r]? =some (boxE b cs.length as)/\VRL J roots cs as)
 (hg1:∀(r:Nat) x,roots[r]? =some x->x.alive=true->g (rhoC nin F r)=J r)(hg2:∀(k j:Nat),(zkC fp roots.length)[k]? =some j->g (F+(roots.length-nin)+k)=j):
 (∀(i:Nat)(e:Ent),(endM nin F roots)[i]? =some e->e.live=true->sm[g i]? =some (e.ren g))/\
 (∀(r k i j:Nat),(fpC nin F roots r)[k]? =some i->(fp r)[k]? =some j->g i=j)/\(∀r,r<roots.length->(fpC nin F roots r).length=(fp r).length):=by
 have lens:∀(r:Nat),r<roots.length->(fpC nin F roots r).length=(fp r).length:=by intro r hr;obtain⟨k,_,g2,_⟩:=zbd (J:=rhoC nin F) (mem:=roots) roots (F+(roots.length-nin)) r _ (ygb hr);unfold fpC;rw[List.getD_eq_getElem?_getD,g2];simp only[Option.getD_some,List.length_range'];exact zuy hok how (ygb hr)
 have feet:∀(r k i j:Nat),(fpC nin F roots r)[k]? =some i->(fp r)[k]? =some j->g i=j:=by
  intro r k i j hi hj;rcases zgW (nin:=nin) (F:=F) (roots:=roots) r with⟨h,_⟩|h
  ·rw[h]at hi;simp at hi
  ·have hrl:r<roots.length:=by have:=(yga.1 h).1;rw[(zaQ roots _).2]at this;exact this
   have hfps:((List.range roots.length).map fp)[r]? =some (fp r):=by simp[hrl]
   obtain⟨q1,q2⟩:=zmn (J:=rhoC nin F) (mem:=roots) roots (F+(roots.length-nin)) ((List.range roots.length).map fp) (by simp) (fun q a b ha hb=>by
    have hql:q<roots.length:=by have:=(yga.1 ha).1;rw[(zaQ roots _).2]at this;exact this
    have:=lens q hql;unfold fpC at this;rw[List.getD_eq_getElem?_getD,ha]at this;simp[hql]at hb;subst hb;exact this) r _ _ k i j h hfps hi hj
   have:=hg2 (i-(F+(roots.length-nin))) j q2;rw[show F+(roots.length-nin)+(i-(F+(roots.length-nin)))=i by omega]at this;exact this
 refine⟨fun i e hi hlv=>?_,feet,lens⟩;have each:∀(r:Nat) x,roots[r]? =some x->x.alive=true->∃k,(zau (rhoC nin F) roots (F+(roots.length-nin)) roots).1[r]? =some (zbc (rhoC nin F) roots (F+(roots.length-nin)+k) x).1/\
  fpC nin F roots r=List.range' (F+(roots.length-nin)+k) (zbc (rhoC nin F) roots (F+(roots.length-nin)+k) x).2.length/\
  (∀(j:Nat)(e:Ent),(zbc (rhoC nin F) roots (F+(roots.length-nin)+k) x).2[j]? =some e->(zau (rhoC nin F) roots (F+(roots.length-nin)) roots).2.1[k+j]? =some e)/\
  sm[J r]? =some ((zbc (rhoC nin F) roots (F+(roots.length-nin)+k) x).1.ren g)/\
  ∀(j:Nat)(e:Ent),(zbc (rhoC nin F) roots (F+(roots.length-nin)+k) x).2[j]? =some e->sm[g (F+(roots.length-nin)+k+j)]? =some (e.ren g):=by
  intro r x hr ha;obtain⟨k,g1,g2,g3,g4⟩:=zbd (J:=rhoC nin F) (mem:=roots) roots (F+(roots.length-nin)) r x hr;have gf:fpC nin F roots r=List.range' (F+(roots.length-nin)+k) (zbc (rhoC nin F) roots (F+(roots.length-nin)+k) x).2.length:=by unfold fpC;rw[List.getD_eq_getElem?_getD,g2];rfl
  refine⟨k,g1,gf,g3,?_⟩;cases x with
  |dead=>cases ha
  |box b cs=>obtain⟨as,b1,b2⟩:=hbox r b cs hr;refine⟨?_,fun j e hj=>by simp[zbc]at hj⟩;rw[b1,VRL.encR (hok.sol r b cs hr) b2];simp only[zbc,zqI];rw[zhY g cs (hok.sol r b cs hr),zeQ (J:=fun r=>g (rhoC nin F r)) (ρ':=J) hg1 cs (hok.sol r b cs hr)]
  |arr t xs w=>
   have hA:=how.rel r t xs w hr;have hw:=hok.shut r t xs w hr;cases w with
   |op _ _ _=>cases hw
   |no=>simp only[zbc,zxw,zjN];refine⟨?_,fun j e hj=>by simp at hj⟩;rw[hA.1];simp only[Ent.ren,Option.some.injEq,Ent.arr.injEq,yhn];rw[List.map_map];refine List.map_congr_left fun y _=>?_;simp only[Function.comp];rw[show(zap t y).map (AV.ren g)=(zap t y).map id from List.map_congr_left fun c hc=>AV.ren_pure g c ((AV.pureL_iff _).1 (zfG t y) c hc),List.map_id]
   |cl os=>
    obtain⟨rows,q1,q2⟩:=hA;simp only[zbc,zxw]at gf|-;obtain⟨p1,p2,p3⟩:=q2.lay (F+(roots.length-nin)+k) g fun k' j hj=>by
     refine feet r k' _ j ?_ hj;rw[gf,List.getElem?_range' (by have:=lens r (yga.1 hr).1;rw[gf,List.length_range']at this;have:=(yga.1 hj).1;omega)]
     simp
    refine⟨by rw[q1,p1];rfl,fun j e hj=>?_⟩;have hjl:=(yga.1 hj).1;have hf:(fp r)[j]? =some ((fp r)[j]'(by omega)):=ygb _;have:=feet r j (F+(roots.length-nin)+k+j) _ (by rw[gf,List.getElem?_range' hjl];simp) hf;rw[this];exact p3 j e _ hj hf
 rcases zf7 h1 h2 hi with⟨r,x,hr,rfl⟩|⟨rfl,_⟩|⟨k,rfl,hk⟩
 ·rw[zcS h1 h2 (yga.1 hr).1]at hi;by_cases ha:x.alive=true
  ·obtain⟨k,q1,_,_,q4,_⟩:=each r x hr ha;rw[q1]at hi;cases hi;rw[hg1 r x hr ha];exact q4
  ·obtain⟨k,q1,_⟩:=zbd (J:=rhoC nin F) (mem:=roots) roots (F+(roots.length-nin)) r x hr;rw[q1]at hi;cases hi;cases x<;>simp[Root.alive]at ha;simp[zbc]at hlv
 ·simp at hlv
 ·have hkl:=(yga.1 hk).1;have hm:F+(roots.length-nin)+k∈(zau (rhoC nin F) roots (F+(roots.length-nin)) roots).2.2.flatten:=by rw[zbH,List.mem_range'_1];omega
  obtain⟨a,ha,hia⟩:=List.mem_flatten.1 hm;obtain⟨r,hra⟩:=List.getElem?_of_mem ha;have hrl:r<roots.length:=by have:=(yga.1 hra).1;rw[(zaQ roots _).2]at this;exact this
  have hr:roots[r]? =some roots[r]:=ygb _;have hfa:fpC nin F roots r=a:=by unfold fpC;rw[List.getD_eq_getElem?_getD,hra];rfl
  generalize roots[r]=x at hr;have hal:x.alive=true:=by
   cases x with
   |dead=>obtain⟨k',_,q2,_⟩:=zbd (J:=rhoC nin F) (mem:=roots) roots (F+(roots.length-nin)) r _ hr;rw[hra]at q2;cases q2;simp[zbc]at hia
   |arr _ _ _=>rfl
   |box _ _=>rfl
  obtain⟨k',q1,q2,q3,q4,q5⟩:=each r x hr hal;rw[<-hfa,q2,List.mem_range'_1]at hia;obtain⟨j,hj⟩:∃j,k=k'+j:=⟨k-k',by omega⟩
  subst hj;have hjl:j<(zbc (rhoC nin F) roots (F+(roots.length-nin)+k') x).2.length:=by omega
  have:=q3 j _ (ygb hjl);rw[hk]at this;cases this;have:=q5 j _ (ygb hjl);rw[Nat.add_assoc]at this;exact this
theorem zkB{A:Type}:∀(L M:List (List A)),L.length=M.length->(∀(r:Nat) a b,L[r]? =some a->M[r]? =some b->a.length=b.length)->L.flatten.length=M.flatten.length
|[],[],_,_=>rfl
|[],_:: _,h,_|_:: _,[],h,_=>by simp at h
|a:: L,b:: M,h,hl=>by simp only[List.flatten_cons,yhr];rw[hl 0 a b rfl rfl,zkB L M (by simpa using h) fun r x y h1 h2=>hl (r+1) x y (by simpa using h1) (by simpa using h2)]
theorem zvS(hlen:∀r,r<roots.length->(fpC nin F roots r).length=(fp r).length):(zau (rhoC nin F) roots (F+(roots.length-nin)) roots).2.1.length=(zkC fp roots.length).length:=by
 have h1:(zau (rhoC nin F) roots (F+(roots.length-nin)) roots).2.1.length=(zau (rhoC nin F) roots (F+(roots.length-nin)) roots).2.2.flatten.length:=by rw[zbH,List.length_range']
 rw[h1];refine zkB _ _ (by simp[(zaQ roots _).2]) fun r a b ha hb=>?_;have hrl:r<roots.length:=by have:=(yga.1 ha).1;rw[(zaQ roots _).2]at this;exact this
 have:=hlen r hrl;unfold fpC at this;rw[List.getD_eq_getElem?_getD,ha]at this;simp[hrl]at hb;subst hb;exact this
theorem zkD(how:OwA J roots sm fp):∀n,(zkC fp n).Nodup
|0=>List.nodup_nil
|n+1=>by
 have:zkC fp (n+1)=zkC fp n++fp n:=by simp[zkC,List.range_succ]
 rw[this];refine List.nodup_append.2 ⟨zkD how n,how.nd n,fun i hi j hj e=>?_⟩;subst e;obtain⟨r,hr,hir⟩:=zoq.1 hi;exact how.dj r n (by omega) i hir hj
mutual
theorem OwC.bel{sm:List Ent}{N:Nat}:∀{o:Option OS}{v:V}{a:AV}{fp:List Nat},OwC sm o v a fp->(∀i∈fp,i<N)->a.bel N=true/\∀i∈fp,∀e,sm[i]? =some e->e.bel N
|_,_,a,_,.leaf hp h,_=>⟨AV.bel_pure (VR.pur h hp),by simp⟩
|_,_,a,_,.other hl hp h,_=>⟨AV.bel_pure (VR.pur h hp),by simp⟩
|_,_,_,_,.own hi h,hN=>by
 obtain⟨h1,h2⟩:=h.bel fun i hi=>hN i (by simp[hi]);refine⟨by simp only[AV.bel,yhc];exact hN _ (by simp),fun i hi' e he=>?_⟩;rcases List.mem_cons.1 hi' with rfl|hi'
 ·rw[hi]at he;cases he;exact h1
 ·exact h2 i hi' e he
theorem OwCs.bel{sm:List Ent}{N:Nat}:∀{os:OS}{off:Nat}{vs:List V}{as:List AV}{fp:List Nat},OwCs sm os off vs as fp->(∀i∈fp,i<N)->(∀a∈as,a.bel N=true)/\∀i∈fp,∀e,sm[i]? =some e->e.bel N
|_,_,_,_,_,.nil,_=>⟨by simp,by simp⟩
|_,_,_,_,_,.cons h hs,hN=>by
 obtain⟨h1,h2⟩:=h.bel fun i hi=>hN i (by simp[hi]);obtain⟨h3,h4⟩:=hs.bel fun i hi=>hN i (by simp[hi]);refine⟨fun a ha=>?_,fun i hi e he=>?_⟩
 ·rcases List.mem_cons.1 ha with rfl|ha
  ·exact h1
  ·exact h3 a ha
 ·rcases List.mem_append.1 hi with hi|hi
  ·exact h2 i hi e he
  ·exact h4 i hi e he
theorem OwRs.bel{sm:List Ent}{N:Nat}:∀{os:OS}{t:Ty}{xs:List (TV t)}{rows:List (List AV)}{fp:List Nat},OwRs sm os t xs rows fp->(∀i∈fp,i<N)->(∀r∈rows,∀a∈r,a.bel N=true)/\∀i∈fp,∀e,sm[i]? =some e->e.bel N
|_,_,_,_,_,.nil,_=>⟨by simp,by simp⟩
|_,_,_,_,_,.cons h hs,hN=>by
 obtain⟨h1,h2⟩:=h.bel fun i hi=>hN i (by simp[hi]);obtain⟨h3,h4⟩:=hs.bel fun i hi=>hN i (by simp[hi]);refine⟨fun a ha=>?_,fun i hi e he=>?_⟩
 ·rcases List.mem_cons.1 ha with rfl|ha
  ·exact h1
  ·exact h3 a ha
 ·rcases List.mem_append.1 hi with hi|hi
  ·exact h2 i hi e he
  ·exact h4 i hi e he
end
theorem zqS(h1:nin<=roots.length)(h2:nin<=F)(hok:OkRs roots):∀e∈endM nin F roots,e.bel (endM nin F roots).length:=by
 intro e he;obtain⟨i,hi⟩:=List.getElem?_of_mem he;have how:=zh1 h1 h2 hok;have hroot:∀(r:Nat) x,roots[r]? =some x->x.alive=true->rhoC nin F r<(endM nin F roots).length:=fun r x hx _=>by have:=zqb h1 h2 (yga.1 hx).1;rw[zh2 h1 h2];omega
 have hfoot:∀(r:Nat),∀i∈fpC nin F roots r,i<(endM nin F roots).length:=fun r i hi=>how.lt r i hi;have arr:∀(r:Nat) t xs w,roots[r]? =some (.arr t xs w)->(∀e,(endM nin F roots)[rhoC nin F r]? =some e->e.bel (endM nin F roots).length)/\∀i∈fpC nin F roots r,∀e,(endM nin F roots)[i]? =some e->e.bel (endM nin F roots).length:=by
  intro r t xs w hr;have hA:=how.rel r t xs w hr;have hw:=hok.shut r t xs w hr;cases w with
  |op _ _ _=>cases hw
  |no=>refine⟨fun e he=>?_,by rw[hA.2];simp⟩;rw[hA.1]at he;cases he;intro row hrow c hc;obtain⟨y,_,rfl⟩:=List.mem_map.1 hrow;exact AV.bel_pure ((AV.pureL_iff _).1 (zfG t y) c hc)
  |cl os=>obtain⟨rows,q1,q2⟩:=hA;obtain⟨p1,p2⟩:=q2.bel (hfoot r);refine⟨fun e he=>?_,p2⟩;rw[q1]at he;cases he;exact p1
 rcases zf7 h1 h2 hi with⟨r,x,hr,rfl⟩|⟨rfl,_⟩|⟨k,rfl,hk⟩
 ·cases x with
  |dead=>rw[zcS h1 h2 (yga.1 hr).1]at hi;obtain⟨k,q1,_⟩:=zbd (J:=rhoC nin F) (mem:=roots) roots (F+(roots.length-nin)) r _ hr;rw[q1]at hi;cases hi;trivial
  |arr t xs w=>exact(arr r t xs w hr).1 e hi
  |box b cs=>rw[zcS h1 h2 (yga.1 hr).1]at hi;obtain⟨k,q1,_⟩:=zbd (J:=rhoC nin F) (mem:=roots) roots (F+(roots.length-nin)) r _ hr;rw[q1]at hi;cases hi;exact zvB ((AV.belL_iff _).1 (zhX hroot cs (hok.sol r b cs hr))) b _
 ·trivial
 ·have hkl:=(yga.1 hk).1;have hm:F+(roots.length-nin)+k∈(zau (rhoC nin F) roots (F+(roots.length-nin)) roots).2.2.flatten:=by rw[zbH,List.mem_range'_1];omega
  obtain⟨a,ha,hia⟩:=List.mem_flatten.1 hm;obtain⟨r,hra⟩:=List.getElem?_of_mem ha;have hrl:r<roots.length:=by have:=(yga.1 hra).1;rw[(zaQ roots _).2]at this;exact this
  have hfa:fpC nin F roots r=a:=by unfold fpC;rw[List.getD_eq_getElem?_getD,hra];rfl
  have hr:roots[r]? =some roots[r]:=ygb _;generalize roots[r]=x at hr;rw[<-hfa]at hia;cases x with
  |arr t xs w=>exact(arr r t xs w hr).2 _ hia e hi
  |dead=>rw[how.nil r (fun t xs w e=>by rw[hr]at e;cases e)]at hia;simp at hia
  |box b cs=>rw[how.nil r (fun t xs w e=>by rw[hr]at e;cases e)]at hia;simp at hia
end
end Go.Fw
namespace Go.Fw
open Go
variable [Pin]
mutual
def Sh.sol(rk:List RK):Sh->Bool
|.no|.part _=>false
|.own r=>match rk[r]? with
 |some (.arr _ _)|some (.box _ _)=>true
 |_=>false
|.mpa r _=>match rk[r]? with
 |some (.arr _ _)=>true
 |_=>false
|.mpb r _=>match rk[r]? with
 |some (.box _ _)=>true
 |_=>false
|.agg ss|.tup ss|.fn _ ss=>Sh.solL rk ss
|.ip ss=>Sh.purL ss
|.int _|.bool|.str|.lst _|.st _|.ep _|.e0|.nl _|.nilp|.nilf=>true
def Sh.solL(rk:List RK):List Sh->Bool
|[]=>true
|s:: ss=>s.sol rk&&Sh.solL rk ss
end
def zux(rk:List RK):Bool:=rk.all fun k=>match k with
|.box _ ss=>Sh.solL rk ss&&ss.all Sh.isC
|_=>true
def wfE(e:TE):Bool:=Sh.solL e.rin e.ash&&zux e.rin&&Sh.sol e.rout e.rsh&&zux e.rout&&Nat.ble e.rin.length e.rout.length&&e.rin.all fun k=>match k with
|.dead=>false
|_=>true
def RkR(rk:List RK)(roots:List Root):Prop:=roots.length=rk.length/\∀(r:Nat) k,rk[r]? =some k->∃x:Dat k.sh,roots[r]? =some (zc5 k (mkV k.sh x))
theorem zid(a:List Sh)(rk:List RK)(d:DatL (a++rk.map RK.sh)):RkR rk (zfD rk ((mkVL (a++rk.map RK.sh) d).drop a.length)):=by
 have hl:rk.length=((mkVL (a++rk.map RK.sh) d).drop a.length).length:=by simp[zdR]
 refine⟨zjR _ _ hl,fun r k hk=>?_⟩;obtain⟨x,hx⟩:=zm6 (a++rk.map RK.sh) d (a.length+r) k.sh (by rw[ygf (by omega),Nat.add_sub_cancel_left,List.getElem?_map,hk];rfl);exact⟨x,zm5 rk _ r k _ hk (by rw[List.getElem?_drop];exact hx)⟩
theorem zb1{t:Ty}{os:OS}(x:Dat (RK.arr t os).sh):zc5 (.arr t os) (mkV (RK.arr t os).sh x)=.arr t x (zpc os):=by simp[zc5,mkV,RK.sh]
theorem zdm{b:BT}{ss:List Sh}(x:Dat (RK.box b ss).sh):zc5 (.box b ss) (mkV (RK.box b ss).sh x)=.box b (mkVL ss x):=by simp[zc5,mkV,RK.sh]
section
variable {rk:List RK}{roots:List Root}
mutual
theorem zp1(h:RkR rk roots):∀(s:Sh)(d:Dat s),s.sol rk=true->(mkV s d).sol roots=true
|.no,_,hh|.part _,_,hh=>by simp[Sh.sol]at hh
|.own r,d,hh=>by
 simp only[Sh.sol]at hh;split at hh
 ·rename_i t os e;obtain⟨x,hx⟩:=h.2 r _ e;rw[zb1]at hx;simp only[mkV,V.sol,hx]
 ·rename_i b ss e;obtain⟨x,hx⟩:=h.2 r _ e;rw[zdm]at hx;simp only[mkV,V.sol,hx]
 ·cases hh
|.mpa r off,d,hh=>by
 simp only[Sh.sol]at hh;split at hh
 ·rename_i t os e;obtain⟨x,hx⟩:=h.2 r _ e;rw[zb1]at hx;simp only[mkV,V.sol,hx]
 ·cases hh
|.mpb r off,d,hh=>by
 simp only[Sh.sol]at hh;split at hh
 ·rename_i t os e;obtain⟨x,hx⟩:=h.2 r _ e;rw[zdm]at hx;simp only[mkV,V.sol,hx];rfl
 ·cases hh
|.ip ss,d,hh=>by simp only[mkV,V.sol];exact zge ss d (by simpa[Sh.sol]using hh)
|.agg ss,d,hh|.tup ss,d,hh|.fn _ ss,d,hh=>by simp only[mkV,V.sol];exact zm9 h ss d (by simpa[Sh.sol]using hh)
|.int _,_,_|.bool,_,_|.str,_,_|.lst _,_,_|.st _,_,_|.ep _,_,_|.e0,_,_|.nl _,_,_|.nilp,_,_|.nilf,_,_=>by simp[mkV,V.sol]
theorem zm9(h:RkR rk roots):∀(ss:List Sh)(d:DatL ss),Sh.solL rk ss=true->V.solL roots (mkVL ss d)=true
|[],_,_=>rfl
|s:: ss,d,hh=>by simp only[Sh.solL,yhb]at hh;simp only[mkVL,V.solL,yhb];exact⟨zp1 h s _ hh.1,zm9 h ss _ hh.2⟩
end
theorem RkR.back(h:RkR rk roots){r:Nat}{y:Root}(hr:roots[r]? =some y):∃k,rk[r]? =some k/\∃x:Dat k.sh,y=zc5 k (mkV k.sh x):=by
 have hl:r<rk.length:=by rw[<-h.1];exact(yga.1 hr).1
 obtain⟨x,hx⟩:=h.2 r _ (ygb hl);rw[hr]at hx;exact⟨_,ygb hl,x,Option.some.inj hx⟩
theorem RkR.ok(h:RkR rk roots)(hs:zux rk=true):OkRs roots:=by
 have hs:=List.all_eq_true.1 hs;refine⟨fun r t xs w hr=>?_,fun r b cs hr=>?_,fun r b cs hr=>?_⟩
 ·obtain⟨k,hk,x,e⟩:=h.back hr;cases k with
  |dead=>simp[zc5]at e
  |arr t' os=>rw[zb1]at e;cases e;exact zoN os
  |box b ss=>rw[zdm]at e;cases e
 ·obtain⟨k,hk,x,e⟩:=h.back hr;cases k with
  |dead=>simp[zc5]at e
  |arr t' os=>rw[zb1]at e;cases e
  |box b' ss=>rw[zdm]at e;cases e;have:=hs _ (ygd hk);simp only[yhb]at this;exact zm7 ss x this.2
 ·obtain⟨k,hk,x,e⟩:=h.back hr;cases k with
  |dead=>simp[zc5]at e
  |arr t' os=>rw[zb1]at e;cases e
  |box b' ss=>rw[zdm]at e;cases e;have:=hs _ (ygd hk);simp only[yhb]at this;exact zm9 h ss x this.1
end
def argE(e:TE)(d:DatL (e.ash++e.rin.map RK.sh)):List V:=(mkVL (e.ash++e.rin.map RK.sh) d).take e.ash.length
def rinE(e:TE)(d:DatL (e.ash++e.rin.map RK.sh)):List Root:=zfD e.rin ((mkVL (e.ash++e.rin.map RK.sh) d).drop e.ash.length)
def resE(e:TE)(r:DatL (e.rsh:: e.rout.map RK.sh)):V:=(mkVL (e.rsh:: e.rout.map RK.sh) r).headD .junk
def routE(e:TE)(r:DatL (e.rsh:: e.rout.map RK.sh)):List Root:=zfD e.rout ((mkVL (e.rsh:: e.rout.map RK.sh) r).drop 1)
def inM(e:TE)(d:DatL (e.ash++e.rin.map RK.sh)):List Ent:=endM e.rin.length e.rin.length (rinE e d)
structure TEok (P:Program)(e:TE):Prop where
 wf:wfE e=true
 ok:∀d r,e.F d=some r->Spec P e.f (encRL id (rinE e d) (argE e d)) (inM e d) (fun r' m'=>r'=encR (rhoC e.rin.length (inM e d).length) (routE e r) (resE e r)/\m'=endM e.rin.length (inM e d).length (routE e r))
theorem zgk:∀(mem:List Root)(o:List Nat)(l:List Root),(zqv mem o l).length=mem.length
|mem,[],l=>by cases l<;>rfl
|mem,r:: o,[]=>rfl
|mem,r:: o,x:: l=>by simp only[zqv];rw[zgk];simp
theorem znF{q:Nat}:∀(mem:List Root)(o:List Nat)(l:List Root),q∉o->(zqv mem o l)[q]? =mem[q]?
|mem,[],l,_=>by cases l<;>rfl
|mem,r:: o,[],_=>rfl
|mem,r:: o,x:: l,h=>by simp only[List.mem_cons,not_or]at h;simp only[zqv];rw[znF _ o l h.2,ygg (fun e=>h.1 e.symm)]
theorem zu6:∀(mem:List Root)(o:List Nat)(l:List Root),o.Nodup->∀(j r:Nat) x,o[j]? =some r->l[j]? =some x->r<mem.length->(zqv mem o l)[r]? =some x
|mem,[],l,_,j,r,x,h,_,_=>by simp at h
|mem,q:: o,[],_,j,r,x,_,h,_=>by simp at h
|mem,q:: o,y:: l,hn,j,r,x,hj,hx,hr=>by
 obtain⟨n1,n2⟩:=List.nodup_cons.1 hn;simp only[zqv];cases j with
 |zero=>simp at hj hx;subst hj hx;rw[znF _ o l n1,List.getElem?_set_self hr]
 |succ j=>exact zu6 _ o l n2 j r x (by simpa using hj) (by simpa using hx) (by simpa using hr)
theorem zc2{o:List Nat}{n j r:Nat}(h:o[j]? =some r):ziq o n j=r:=by have hl:=(yga.1 h).1;unfold ziq;rw[show Nat.blt j o.length=true from Nat.ble_eq_true_of_le hl];simp[List.getD,h]
theorem zfF{o:List Nat}{n j:Nat}(h:o.length<=j):ziq o n j=n+(j-o.length):=by
 unfold ziq;rw[show Nat.blt j o.length=false by
  cases e:Nat.blt j o.length with
  |false=>rfl
  |true=>have:=Nat.le_of_ble_eq_true e;omega]
theorem zjr:∀(l:List Nat),zif l=true->l.Nodup
|[],_=>List.nodup_nil
|x:: l,h=>by simp only[zif,yhb,yho,List.contains_eq_mem,yhd]at h;exact List.nodup_cons.2 ⟨h.1,zjr l h.2⟩
mutual
theorem zod{ρ':Nat->Nat}{mem':List Root}{g p:Nat->Nat}{ρc:Nat->Nat}{roots:List Root}(h:∀(q:Nat) y,roots[q]? =some y->mem'[p q]? =some (y.ren p)/\ρ' (p q)=g (ρc q)):∀(v:V),v.sol roots=true->VR ρ' mem' (v.ren p) ((encR ρc roots v).ren g)
|.junk,hh|.part ..,hh=>by simp[V.sol]at hh
|.own r,hh=>by
 simp only[V.sol]at hh;split at hh
 ·rename_i t xs w e;obtain⟨h1,h2⟩:=h r _ e;simp only[Root.ren]at h1;simp only[encR,e,AV.ren,V.ren,VR,zep,h1,h2]
 ·rename_i b cs e;obtain⟨h1,h2⟩:=h r _ e;simp only[Root.ren]at h1;simp only[encR,e,AV.ren,V.ren,VR,zep,h1,h2]
 ·cases hh
|.mp r row off,hh=>by
 simp only[V.sol]at hh;split at hh
 ·rename_i t xs w e;obtain⟨h1,h2⟩:=h r _ e;simp only[Root.ren]at h1;simp only[encR,e,AV.ren,V.ren,VR,mpR,h1,h2]
 ·rename_i b cs e;obtain⟨h1,h2⟩:=h r _ e;simp only[Root.ren]at h1;simp only[encR,e,AV.ren,V.ren,VR,mpR,h1,h2];exact⟨trivial,zbN hh⟩
 ·cases hh
|.int _ _,_|.bool _,_|.str _,_|.lst _ _,_|.nl _,_|.e0,_|.nilp,_|.nilf,_=>by simp[encR,AV.ren,V.ren,VR]
|.ep n x,_=>by simp only[encR,V.ren,VR];exact AV.ren_pure g _ (by simp)
|.st n x,_=>by simp only[encR,V.ren,VR];exact AV.ren_pure g _ (by simpa using zdl n x)
|.ip cs,hh=>by
 have hp:V.purL cs=true:=by simpa[V.sol]using hh
 simp only[encR,V.ren];rw[znl p cs hp,AV.ren_pure g _ (by simp)];simp only[VR];exact⟨_,rfl,zeP cs hp⟩
|.agg cs,hh|.tup cs,hh|.fn _ cs,hh=>by simp only[encR,AV.ren,V.ren,VR];rw[AV.renL_eq];exact⟨_,rfl,zkt h cs (by simpa[V.sol]using hh)⟩
theorem zkt{ρ':Nat->Nat}{mem':List Root}{g p:Nat->Nat}{ρc:Nat->Nat}{roots:List Root}(h:∀(q:Nat) y,roots[q]? =some y->mem'[p q]? =some (y.ren p)/\ρ' (p q)=g (ρc q)):∀(cs:List V),V.solL roots cs=true->VRL ρ' mem' (V.renL p cs) ((encRL ρc roots cs).map (AV.ren g))
|[],_=>by simp[V.renL,encRL,VRL]
|c:: cs,hh=>by simp only[V.solL,yhb]at hh;simp only[V.renL,encRL,List.map_cons];exact .cons (zod h c hh.1) (zkt h cs hh.2)
end
theorem zvM{ρ':Nat->Nat}{mem':List Root}{g p:Nat->Nat}{ρc:Nat->Nat}{roots:List Root}(h:∀(q:Nat) y,roots[q]? =some y->mem'[p q]? =some (y.ren p)/\ρ' (p q)=g (ρc q)):
 (∀(v:V),v.sol roots=true->VR ρ' mem' (v.ren p) ((encR ρc roots v).ren g))/\∀(cs:List V),V.solL roots cs=true->VRL ρ' mem' (V.renL p cs) ((encRL ρc roots cs).map (AV.ren g)):=⟨zod h,zkt h⟩
theorem zy5(f:Nat->Nat)(v:V):(v.ren f).isC=v.isC:=by cases v<;>simp[V.ren,V.isC]
theorem znk(f:Nat->Nat):∀cs:List V,cs.all V.isC=true->(V.renL f cs).all V.isC=true
|[],_=>rfl
|c:: cs,h=>by simp only[List.all_cons,yhb]at h;simp only[V.renL,List.all_cons,yhb,zy5];exact⟨h.1,znk f cs h.2⟩
theorem zkV(n:Nat):∀a:List Nat,memB n a=true↔n∈a
|[]=>by simp[memB]
|x:: a=>by
 simp only[memB,List.mem_cons];cases h:Nat.beq n x with
 |true=>simp[Nat.eq_of_beq_eq_true h]
 |false=>simp[Nat.ne_of_beq_eq_false h,zkV n a]
theorem ziT{g:Nat->Nat}:∀{l:List Nat},l.Nodup->(∀a∈l,∀b∈l,g a=g b->a=b)->(l.map g).Nodup
|[],_,_=>List.nodup_nil
|x:: l,hn,hg=>by obtain⟨n1,n2⟩:=List.nodup_cons.1 hn;refine List.nodup_cons.2 ⟨fun hm=>?_,ziT n2 fun a ha b hb=>hg a (by simp[ha]) b (by simp[hb])⟩;obtain⟨y,hy,e⟩:=List.mem_map.1 hm;exact n1 (by rw[<-hg y (by simp[hy]) x (by simp) e];exact hy)
theorem zy4{is:List Nat}{N:Nat}(hnd:is.Nodup)(hlt:∀i∈is,i<N){a b:Nat}(h:Go.Fw.ren is N a=Go.Fw.ren is N b):a=b:=by
 by_cases ha:a<is.length<;>by_cases hb:b<is.length
 ·have h1:is[a]? =some is[a]:=ygb ha;have h2:is[b]? =some is[b]:=ygb hb;rw[zcs h1,zcs h2]at h;exact zeo is hnd a b _ h1 (by rw[h2,h])
 ·have h1:is[a]? =some is[a]:=ygb ha;rw[zcs h1]at h;unfold Go.Fw.ren at h;rw[if_neg hb]at h;have:=hlt _ (ygd h1);omega
 ·have h2:is[b]? =some is[b]:=ygb hb;rw[zcs h2]at h;unfold Go.Fw.ren at h;rw[if_neg ha]at h;have:=hlt _ (ygd h2);omega
 ·unfold Go.Fw.ren at h;rw[if_neg ha,if_neg hb]at h;omega
section
variable {J:Nat->Nat}{T:TS}{st:St}{fp:Nat->List Nat}
theorem zoM{mem m':List Ent}{is:List Nat}(hnd:is.Nodup)(hlt:∀i∈is,i<mem.length)(hl:is.length<=m'.length){i:Nat}{e:Ent}(hi:m'[i]? =some e):(zbL mem is m')[Go.Fw.ren is mem.length i]? =some (e.ren (Go.Fw.ren is mem.length)):=by
 unfold zbL;by_cases h:i<is.length
 ·have hg:is[i]? =some is[i]:=ygb h;rw[zcs hg,yge (by rw[za3];exact hlt _ (ygd hg))];exact zlp mem is _ hnd i _ _ hg (by rw[List.getElem?_map,List.getElem?_take,if_pos h,hi];rfl) (hlt _ (ygd hg))
 ·have:Go.Fw.ren is mem.length i=mem.length+(i-is.length):=by unfold Go.Fw.ren;rw[if_neg h]
  rw[this,ygf (by rw[za3];omega),za3,Nat.add_sub_cancel_left,List.getElem?_map,List.getElem?_drop,show is.length+(i-is.length)=i by omega,hi];rfl
theorem zdQ{mem m':List Ent}{is:List Nat}{i:Nat}(h:i∉is)(hl:i<mem.length):(zbL mem is m')[i]? =mem[i]?:=by unfold zbL;rw[yge (by rw[za3];exact hl),zi4 mem i is _ h]
theorem TR.after{o L:List Nat}{roots:List Root}(h:TR J T st)(how:OwA J T.mem st.mem fp)(hnd:o.Nodup)(halive:∀r∈o,∃x,T.mem[r]? =some x/\x.alive=true)(hLnd:(o.map J++L).Nodup)(hL:∀i∈L,∃r∈o,i∈fp r)
 (hok:OkRs roots)(hnin:o.length<=roots.length)
 (hkp:∀(j r:Nat),o[j]? =some r->∃y,roots[j]? =some y/\(y=.dead\/(∃t xs w xs' w',T.mem[r]? =some (.arr t xs w)/\y=.arr t xs' w'/\xs'.length=xs.length)\/∃b ds b' ds',T.mem[r]? =some (.box b ds)/\y=.box b' ds')):
 ∃ρ',(∀q,q<T.mem.length->ρ' q=J q)/\(∀v,v.sol roots=true->VR ρ' (zqv T.mem o (roots.map (Root.ren (ziq o T.mem.length)))++(roots.map (Root.ren (ziq o T.mem.length))).drop o.length) (v.ren (ziq o T.mem.length)) ((encR (rhoC o.length (o.map J++L).length) roots v).ren (Go.Fw.ren (o.map J++L) st.mem.length)))/\
  TR ρ' ⟨T.env,zqv T.mem o (roots.map (Root.ren (ziq o T.mem.length)))++(roots.map (Root.ren (ziq o T.mem.length))).drop o.length⟩ ⟨st.env,zbL st.mem (o.map J++L) (endM o.length (o.map J++L).length roots)⟩:=by
 have hFn:o.length<=(o.map J++L).length:=by simp
 have hlt:∀i∈o.map J++L,i<st.mem.length:=by
  intro i hi;rcases List.mem_append.1 hi with hi|hi
  ·obtain⟨r,hr,rfl⟩:=List.mem_map.1 hi;obtain⟨x,hx,ha⟩:=halive r hr;exact h.lt r x hx ha
  ·obtain⟨r,_,hr⟩:=hL i hi;exact how.lt r i hr
 have his:∀(j r:Nat),o[j]? =some r->(o.map J++L)[j]? =some (J r):=fun j r hj=>by rw[yge (by simpa using(yga.1 hj).1),List.getElem?_map,hj];rfl
 have hnotis:∀(r:Nat) x,T.mem[r]? =some x->x.alive=true->r∉o->J r∉o.map J++L:=fun r x hx ha hr hi=>by
  rcases List.mem_append.1 hi with hi|hi
  ·obtain⟨q,hq,e⟩:=List.mem_map.1 hi;obtain⟨y,hy,hya⟩:=halive q hq;exact hr (by rw[<-h.inj q r y x hy hya hx ha e];exact hq)
  ·obtain⟨q,_,hq⟩:=hL _ hi;exact how.rt r q x hx ha hq
 have hnotisF:∀(r:Nat),r∉o->∀i∈fp r,i∉o.map J++L:=fun r hr i hi his=>by
  rcases List.mem_append.1 his with hi'|hi'
  ·obtain⟨q,hq,e⟩:=List.mem_map.1 hi';obtain⟨y,hy,hya⟩:=halive q hq;exact how.rt q r y hy hya (by rw[e];exact hi)
  ·obtain⟨q,hq,hq'⟩:=hL _ hi';exact how.dj r q (fun e=>hr (by rw[e];exact hq)) i hi hq'
 have ow:=zh1 (F:=(o.map J++L).length) hnin hFn hok;have hel:=zh2 (roots:=roots) hnin hFn;generalize hF:(o.map J++L).length=F at *;generalize his0:o.map J++L=is at *;have hFl:is.length=F:=hF;have hmlen:is.length<=(endM o.length F roots).length:=by rw[hel,hFl];omega
 have hat:∀{i:Nat}{e:Ent},(endM o.length F roots)[i]? =some e->(zbL st.mem is (endM o.length F roots))[Go.Fw.ren is st.mem.length i]? =some (e.ren (Go.Fw.ren is st.mem.length)):=fun hi=>zoM hLnd hlt hmlen hi;have holt:∀r∈o,r<T.mem.length:=fun r hr=>let⟨x,hx,_⟩:=halive r hr;(yga.1 hx).1;let n:=T.mem.length;let N:=st.mem.length;let g:=Go.Fw.ren is N;let rs:=roots.map (Root.ren (ziq o n));let mem':=zqv T.mem o rs++rs.drop o.length;let ρ':Nat->Nat:=fun r=>if r<n then J r else N+(r-n)
 have mpos:∀(j:Nat) y,roots[j]? =some y->mem'[ziq o n j]? =some (y.ren (ziq o n))/\ρ' (ziq o n j)=g (rhoC o.length F j):=by
  intro j y hj;have hrs:rs[j]? =some (y.ren (ziq o n)):=by simp[rs,hj]
  by_cases hjn:j<o.length
  ·have ho:o[j]? =some o[j]:=ygb hjn;rw[zc2 ho];refine⟨?_,?_⟩
   ·show(zqv T.mem o rs++rs.drop o.length)[o[j]]? =_;rw[yge (by rw[zgk];exact holt _ (ygd ho))];exact zu6 T.mem o rs hnd j _ _ ho hrs (holt _ (ygd ho))
   ·simp only[ρ',if_pos (holt _ (ygd ho)),rhoC,if_pos hjn,g,n];exact(zcs (his j _ ho)).symm
  ·rw[zfF (by omega)];refine⟨?_,?_⟩
   ·show(zqv T.mem o rs++rs.drop o.length)[n+(j-o.length)]? =_;rw[ygf (by rw[zgk];omega),zgk,Nat.add_sub_cancel_left,List.getElem?_drop,show o.length+(j-o.length)=j by omega];exact hrs
   ·simp only[ρ',rhoC,if_neg hjn,g,Go.Fw.ren];rw[if_neg (by omega),if_neg (by omega)];omega
 have mold:∀(q:Nat),q<n->q∉o->mem'[q]? =T.mem[q]?:=fun q hq ho=>by show(zqv T.mem o rs++rs.drop o.length)[q]? =_;rw[yge (by rw[zgk];exact hq),znF _ _ _ ho]
 have cases':∀(q:Nat) x,mem'[q]? =some x->(∃j y,roots[j]? =some y/\q=ziq o n j/\x=y.ren (ziq o n))\/(q<n/\q∉o/\T.mem[q]? =some x):=by
  intro q x hq;by_cases hqn:q<n
  ·by_cases hqo:q∈o
   ·obtain⟨j,hj⟩:=List.getElem?_of_mem hqo;obtain⟨y,hy,_⟩:=hkp j q hj;have:=(mpos j y hy).1;rw[zc2 hj,hq]at this;exact .inl ⟨j,y,hy,(zc2 hj).symm,Option.some.inj this⟩
   ·exact .inr ⟨hqn,hqo,by rw[<-mold q hqn hqo];exact hq⟩
  ·have hql:=(yga.1 hq).1;have hql:q<n+(roots.length-o.length):=by
    have:mem'.length=n+(roots.length-o.length):=by simp[mem',zgk,rs,n]
    omega
   have hj:roots[o.length+(q-n)]? =some (roots[o.length+(q-n)]'(by omega)):=ygb _;have hp:ziq o n (o.length+(q-n))=q:=by rw[zfF (by omega)];omega
   have:=(mpos _ _ hj).1;rw[hp,hq]at this;exact .inl ⟨_,_,hj,hp.symm,Option.some.inj this⟩
 have hk:Kp J ρ' T.mem mem':=by
  have key:∀(r:Nat) x,T.mem[r]? =some x->r<n/\ρ' r=J r:=fun r x hx=>by have:=(yga.1 hx).1;exact⟨this,by simp only[ρ'];rw[if_pos this]⟩
  refine⟨fun r t xs w hr=>?_,fun r b cs hr=>?_,fun r hr=>?_⟩
  ·by_cases ho:r∈o
   ·obtain⟨j,hj⟩:=List.getElem?_of_mem ho;obtain⟨y,hy,hc⟩:=hkp j r hj;have hm:=(mpos j y hy).1;rw[zc2 hj]at hm;rcases hc with rfl|⟨t',xs0,w0,xs',w',h1,rfl,h3⟩|⟨b,ds,b',ds',h1,rfl⟩
    ·exact .inl hm
    ·rw[hr]at h1;cases h1;exact .inr ⟨(key r _ hr).2,xs',w',hm,h3⟩
    ·rw[hr]at h1;cases h1
   ·exact .inr ⟨(key r _ hr).2,xs,w,by rw[mold r (key r _ hr).1 ho];exact hr,rfl⟩
  ·by_cases ho:r∈o
   ·obtain⟨j,hj⟩:=List.getElem?_of_mem ho;obtain⟨y,hy,hc⟩:=hkp j r hj;have hm:=(mpos j y hy).1;rw[zc2 hj]at hm;rcases hc with rfl|⟨t',xs0,w0,xs',w',h1,rfl,h3⟩|⟨b,ds,b',ds',h1,rfl⟩
    ·exact .inl hm
    ·rw[hr]at h1;cases h1
    ·exact .inr ⟨(key r _ hr).2,_,_,hm⟩
   ·exact .inr ⟨(key r _ hr).2,b,cs,by rw[mold r (key r _ hr).1 ho];exact hr⟩
  ·have ho:r∉o:=fun ho=>by obtain⟨x,hx,ha⟩:=halive r ho;rw[hr]at hx;cases hx;cases ha
   rw[mold r (key r _ hr).1 ho];exact hr
 have refs:∀(q:Nat) y,roots[q]? =some y->mem'[ziq o n q]? =some (y.ren (ziq o n))/\ρ' (ziq o n q)=g (rhoC o.length F q):=mpos;have vals:=zvM (ρ':=ρ') (mem':=mem') (g:=g) (p:=ziq o n) (ρc:=rhoC o.length F) (roots:=roots) refs;have hsm:∀(q:Nat) x,q<n->q∉o->T.mem[q]? =some x->x.alive=true->(zbL st.mem is (endM o.length F roots))[J q]? =st.mem[J q]?:=fun q x _ ho hx ha=>zdQ (hnotis q x hx ha ho) (h.lt q x hx ha);have hgi:∀i,F<=i->g i=N+(i-F):=fun i hi=>by simp only[g,Go.Fw.ren];rw[if_neg (by omega),hFl]
 have hfpge:∀(j i:Nat),i∈fpC o.length F roots j->F+(roots.length-o.length)<=i:=fun j i hi=>zxi hi;let fp':Nat->List Nat:=fun q=>if q<n then(if q∈o then(fpC o.length F roots (ziO o q)).map g else fp q)else(fpC o.length F roots (o.length+(q-n))).map g
 have idx:∀(j q:Nat),o[j]? =some q->ziO o q=j:=fun j q hj=>by have h1:=zgc o q ((zkV q o).2 (ygd hj));exact zeo o hnd _ _ q h1 hj
 have fpos:∀(j:Nat) y,roots[j]? =some y->fp' (ziq o n j)=(fpC o.length F roots j).map g:=by
  intro j y hj;by_cases hjn:j<o.length
  ·have ho:o[j]? =some o[j]:=ygb hjn;rw[zc2 ho];simp only[fp'];rw[if_pos (holt _ (ygd ho)),if_pos (ygd ho),idx j _ ho]
  ·rw[zfF (by omega)];simp only[fp'];rw[if_neg (by omega),show o.length+(n+(j-o.length)-n)=j by omega]
 have fold:∀(q:Nat),q<n->q∉o->fp' q=fp q:=fun q hq ho=>by simp only[fp',if_pos hq,if_neg ho]
 have fcase:∀(q:Nat),(∃j y,roots[j]? =some y/\q=ziq o n j/\fp' q=(fpC o.length F roots j).map g)\/(q<n/\q∉o/\fp' q=fp q)\/fp' q=[]:=by
  intro q;by_cases hqn:q<n
  ·by_cases hqo:q∈o
   ·obtain⟨j,hj⟩:=List.getElem?_of_mem hqo;obtain⟨y,hy,_⟩:=hkp j q hj;have:=fpos j y hy;rw[zc2 hj]at this;exact .inl ⟨j,y,hy,(zc2 hj).symm,this⟩
   ·exact .inr (.inl ⟨hqn,hqo,fold q hqn hqo⟩)
  ·by_cases hr:o.length+(q-n)<roots.length
   ·refine .inl ⟨o.length+(q-n),_,ygb hr,by rw[zfF (by omega)];omega,?_⟩;simp only[fp',if_neg hqn]
   ·refine .inr (.inr ?_);simp only[fp',if_neg hqn];rcases zgW (nin:=o.length) (F:=F) (roots:=roots) (o.length+(q-n))with⟨h,_⟩|h
    ·rw[h];rfl
    ·have:=(yga.1 h).1;rw[(zaQ roots _).2]at this;exact absurd this hr
 have posinj:∀(j j':Nat) y y',roots[j]? =some y->roots[j']? =some y'->ziq o n j=ziq o n j'->j=j':=by
  intro j j' y y' hj hj' e;by_cases a:j<o.length<;>by_cases b:j'<o.length
  ·have h1:o[j]? =some o[j]:=ygb a;have h2:o[j']? =some o[j']:=ygb b;rw[zc2 h1,zc2 h2]at e;exact zeo o hnd j j' _ h1 (by rw[h2,e])
  ·have h1:o[j]? =some o[j]:=ygb a;rw[zc2 h1,zfF (by omega)]at e;have:=holt _ (ygd h1);omega
  ·have h2:o[j']? =some o[j']:=ygb b;rw[zc2 h2,zfF (by omega)]at e;have:=holt _ (ygd h2);omega
  ·rw[zfF (by omega),zfF (by omega)]at e;omega
 refine⟨ρ',fun q hq=>if_pos hq,fun v hv=>vals.1 v hv,fun m=>(h.env m).mono hk,fun q b ds hq=>?_,fun q b ds hq=>?_,fun q q' x x' hq hx hq' hx' e=>?_,⟨fp',fun q t xs w hq=>?_,fun q hq=>?_,fun q=>?_,fun q q' hne i hi hi'=>?_,fun q q' x hq hx hi=>?_⟩,h.pin.mono hk⟩
 ·rcases cases' q _ hq with⟨j,y,hj,rfl,e⟩|⟨h1,h2,h3⟩
  ·cases y with
   |dead=>cases e
   |arr _ _ _=>cases e
   |box b' cs=>simp only[Root.ren]at e;cases e;have hE:=zcS (F:=F) (roots:=roots) hnin (by omega) (yga.1 hj).1;obtain⟨k,q1,_⟩:=zbd (J:=rhoC o.length F) (mem:=roots) roots (F+(roots.length-o.length)) j _ hj;rw[q1]at hE;have:=hat hE;simp only[zbc,zqI]at this;refine⟨_,?_,vals.2 cs (hok.sol j _ cs hj)⟩;rw[(mpos j _ hj).2,ze0];exact this
  ·obtain⟨as,g1,g2⟩:=h.box q b ds h3;refine⟨as,?_,g2.mono hk⟩;show(zbL st.mem is _)[ρ' q]? =_;rw[show ρ' q=J q by simp only[ρ',if_pos h1],hsm q _ h1 h2 h3 rfl];exact g1
 ·rcases cases' q _ hq with⟨j,y,hj,rfl,e⟩|⟨h1,h2,h3⟩
  ·cases y with
   |dead=>cases e
   |arr _ _ _=>cases e
   |box b' cs=>simp only[Root.ren]at e;cases e;exact znk _ cs (hok.cell j _ cs hj)
  ·exact h.boxC q b ds h3
 ·rcases cases' q _ hq with⟨j,y,hj,rfl,e1⟩|⟨h1,h2,h3⟩<;>rcases cases' q' _ hq' with⟨j',y',hj',rfl,e1'⟩|⟨h1',h2',h3'⟩
  ·rw[(mpos j y hj).2,(mpos j' y' hj').2]at e;have hjl:=(yga.1 hj).1;have hjl':=(yga.1 hj').1;have:=zy4 hLnd (N:=N) hlt (e:Go.Fw.ren is N _=Go.Fw.ren is N _);rw[zww (by omega) this]
  ·rw[(mpos j y hj).2,show ρ' q'=J q' by simp only[ρ',if_pos h1']]at e;have hl:=h.lt q' x' h3' hx';by_cases hjo:j<o.length
   ·have ho:o[j]? =some o[j]:=ygb hjo;have:g (rhoC o.length F j)=J o[j]:=by simp only[rhoC,if_pos hjo];exact zcs (his j _ ho)
    rw[this]at e;exact absurd (by rw[<-e,<-his0];exact List.mem_append_left _ (List.mem_map_of_mem (ygd ho))) (hnotis q' x' h3' hx' h2')
   ·have:g (rhoC o.length F j)=N+(j-o.length):=by rw[hgi _ (by simp only[rhoC,if_neg hjo];omega)];simp only[rhoC,if_neg hjo];omega
    omega
  ·rw[(mpos j' y' hj').2,show ρ' q=J q by simp only[ρ',if_pos h1]]at e;have hl:=h.lt q x h3 hx;by_cases hjo:j'<o.length
   ·have ho:o[j']? =some o[j']:=ygb hjo;have:g (rhoC o.length F j')=J o[j']:=by simp only[rhoC,if_pos hjo];exact zcs (his j' _ ho)
    rw[this]at e;exact absurd (by rw[e,<-his0];exact List.mem_append_left _ (List.mem_map_of_mem (ygd ho))) (hnotis q x h3 hx h2)
   ·have:g (rhoC o.length F j')=N+(j'-o.length):=by rw[hgi _ (by simp only[rhoC,if_neg hjo];omega)];simp only[rhoC,if_neg hjo];omega
    omega
  ·rw[show ρ' q=J q by simp only[ρ',if_pos h1],show ρ' q'=J q' by simp only[ρ',if_pos h1']]at e;exact h.inj q q' x x' h3 hx h3' hx' e
 ·rcases cases' q _ hq with⟨j,y,hj,rfl,e⟩|⟨h1,h2,h3⟩
  ·cases y with
   |dead=>cases e
   |box _ _=>cases e
   |arr t' xs' w'=>
    cases e;rw[fpos j _ hj,(mpos j _ hj).2];have hA:=ow.rel j t xs w hj;have hw:=hok.shut j t xs w hj;cases w with
    |op _ _ _=>cases hw
    |no=>refine⟨?_,by rw[hA.2];rfl⟩;rw[hat hA.1];simp only[Ent.ren,Option.some.injEq,Ent.arr.injEq,yhn];rw[List.map_map];refine List.map_congr_left fun y _=>?_;simp only[Function.comp];rw[show(zap t y).map (AV.ren (Go.Fw.ren is st.mem.length))=(zap t y).map id from List.map_congr_left fun c hc=>AV.ren_pure _ c ((AV.pureL_iff _).1 (zfG t y) c hc),List.map_id]
    |cl os=>obtain⟨rows,q1,q2⟩:=hA;exact⟨_,hat q1,q2.ren fun i _ e he=>hat he⟩
  ·rw[fold q h1 h2];refine(how.rel q t xs w h3).mono (fun cs as hv=>hv.mono hk) ?_ fun i hi=>zdQ (hnotisF q h2 i hi) (how.lt q i hi);rw[show ρ' q=J q by simp only[ρ',if_pos h1]];exact hsm q _ h1 h2 h3 rfl
 ·rcases fcase q with⟨j,y,hj,rfl,e⟩|⟨h1,h2,e⟩|e
  ·rw[e];have:fpC o.length F roots j=[]:=ow.nil j fun t xs w hj'=>by have:=(mpos j _ hj').1;exact hq t xs w this
   rw[this];rfl
  ·rw[e];exact how.nil q fun t xs w h'=>hq t xs w (by show mem'[q]? =_;rw[mold q h1 h2];exact h')
  ·exact e
 ·rcases fcase q with⟨j,y,hj,rfl,e⟩|⟨h1,h2,e⟩|e
  ·rw[e];exact ziT (ow.nd j) fun a ha b hb hab=>by rw[hgi a (by have:=hfpge j a ha;omega),hgi b (by have:=hfpge j b hb;omega)]at hab;have:=hfpge j a ha;have:=hfpge j b hb;omega
  ·rw[e];exact how.nd q
  ·rw[e];exact List.nodup_nil
 ·rcases fcase q with⟨j,y,hj,rfl,e⟩|⟨h1,h2,e⟩|e<;>rcases fcase q' with⟨j',y',hj',rfl,e'⟩|⟨h1',h2',e'⟩|e'
  ·rw[e]at hi;rw[e']at hi';obtain⟨a,ha,rfl⟩:=List.mem_map.1 hi;obtain⟨b,hb,hab⟩:=List.mem_map.1 hi';rw[hgi a (by have:=hfpge j a ha;omega),hgi b (by have:=hfpge j' b hb;omega)]at hab;have:a=b:=by have:=hfpge j a ha;have:=hfpge j' b hb;omega
   subst this;exact ow.dj j j' (fun e=>hne (by rw[e])) a ha hb
  ·rw[e]at hi;rw[e']at hi';obtain⟨a,ha,rfl⟩:=List.mem_map.1 hi;have:=how.lt q' _ hi';rw[hgi a (by have:=hfpge j a ha;omega)]at this;omega
  ·rw[e']at hi';simp at hi'
  ·rw[e]at hi;rw[e']at hi';obtain⟨a,ha,rfl⟩:=List.mem_map.1 hi';have:=how.lt q _ hi;rw[hgi a (by have:=hfpge j' a ha;omega)]at this;omega
  ·rw[e]at hi;rw[e']at hi';exact how.dj q q' hne i hi hi'
  ·rw[e']at hi';simp at hi'
  ·rw[e]at hi;simp at hi
  ·rw[e]at hi;simp at hi
  ·rw[e]at hi;simp at hi
 ·rcases fcase q' with⟨j',y',hj',rfl,e'⟩|⟨h1',h2',e'⟩|e'
  ·rw[e']at hi;obtain⟨a,ha,hag⟩:=List.mem_map.1 hi;have hge:=hfpge j' a ha;rw[hgi a (by omega)]at hag;rcases cases' q _ hq with⟨j,y,hj,rfl,e⟩|⟨h1,h2,h3⟩
   ·rw[(mpos j y hj).2]at hag;have hjl:=(yga.1 hj).1;by_cases hjo:j<o.length
    ·have ho:o[j]? =some o[j]:=ygb hjo;have e3:g (rhoC o.length F j)=J o[j]:=by simp only[rhoC,if_pos hjo];exact zcs (his j _ ho)
     rw[e3]at hag;obtain⟨z,hz,hza⟩:=halive _ (ygd ho);have:=h.lt _ z hz hza;omega
    ·have:g (rhoC o.length F j)=N+(j-o.length):=by rw[hgi _ (by simp only[rhoC,if_neg hjo];omega)];simp only[rhoC,if_neg hjo];omega
     omega
   ·rw[show ρ' q=J q by simp only[ρ',if_pos h1]]at hag;have:=h.lt q x h3 hx;omega
  ·rw[e']at hi;rcases cases' q _ hq with⟨j,y,hj,rfl,e⟩|⟨h1,h2,h3⟩
   ·rw[(mpos j y hj).2]at hi;have hl:=how.lt q' _ hi;by_cases hjo:j<o.length
    ·have ho:o[j]? =some o[j]:=ygb hjo;have e3:g (rhoC o.length F j)=J o[j]:=by simp only[rhoC,if_pos hjo];exact zcs (his j _ ho)
     rw[e3]at hi;obtain⟨z,hz,hza⟩:=halive _ (ygd ho);exact how.rt _ q' z hz hza hi
    ·have:g (rhoC o.length F j)=N+(j-o.length):=by rw[hgi _ (by simp only[rhoC,if_neg hjo];omega)];simp only[rhoC,if_neg hjo];omega
     omega
   ·rw[show ρ' q=J q by simp only[ρ',if_pos h1]]at hi;exact how.rt q q' x h3 hx hi
  ·rw[e']at hi;simp at hi
end
end Go.Fw
namespace Go.Fw
open Go
mutual
def hfA:AV->Bool
|.junk|.int _ _|.bool _|.str _|.ms _ _ _ _|.mapr _=>true
|.tup cs=>zpb cs
|_=>false
def zpb:List AV->Bool
|[]=>true
|c:: cs=>hfA c&&zpb cs
end
mutual
theorem zpP{H H':Hp}{Z:Bt}:∀{a:AV}{x:Value},hfA a=true->Rep H Z a x->Rep H' Z a x
|.junk,x,_,_=>.junk
|.int k n,x,_,r=>by cases r;exact .int (by assumption)
|.bool b,x,_,r=>by cases r;exact .bool
|.str s,x,_,r=>by cases r;exact .str (by assumption)
|.ms i es o l,x,_,r=>by
 cases r with
 |ms h1 h2 h3 h4=>exact .ms h1 h2 h3 h4
 |ms0 h1=>exact .ms0 h1
|.mapr i,x,_,r=>by cases r with|mapr h=>exact .mapr h
|.tup cs,x,h,r=>by
 cases r with
 |tup hl hr=>exact .tup hl fun i c v h1 h2=>zq2 (by simpa[hfA]using h) i c v h1 (hr i c v h1 h2)
|.e0,_,h,_|.sl _ _,_,h,_|.ip _,_,h,_|.mp ..,_,h,_|.fn ..,_,h,_|.nilp,_,h,_|.nilf,_,h,_|.nilm,_,h,_|.opt _ _,_,h,_|.agg _,_,h,_=>by simp[hfA]at h
theorem zq2{H H':Hp}{Z:Bt}:∀{as:List AV},zpb as=true->∀(i:Nat) c v,as[i]? =some c->Rep H Z c v->Rep H' Z c v
|[],_,i,c,v,h,_=>by simp at h
|a:: as,h,i,c,v,hi,r=>by
 simp only[zpb,yhb]at h;cases i with
 |zero=>simp at hi;subst hi;exact zpP h.1 r
 |succ i=>exact zq2 h.2 i c v (by simpa using hi) r
end
def Ent.hf:Ent->Bool
|.dead=>true
|.arr _ rows=>rows.all fun r=>zpb r
|.mp _=>false
theorem zvX{cs:List AV}(h:zpb cs=true):∀c∈cs,hfA c=true:=by
 induction cs with
 |nil=>simp
 |cons a cs ih=>
  simp only[zpb,yhb]at h;intro c hc;rcases List.mem_cons.1 hc with rfl|hc
  ·exact h.1
  ·exact ih h.2 c hc
theorem Ent.hf_ok{H H':Hp}{Z:Bt}{w:World}{e:Ent}{x:Option (Nat×Nat×Nat)}(h:e.hf=true)(he:EntOk H Z w e x):EntOk H' Z w e x:=by
 cases e with
 |dead=>trivial
 |mp es=>cases h
 |arr es rows=>
  cases x with
  |none=>exact he
  |some y=>obtain⟨b,es',cap⟩:=y;obtain⟨h1,cells,elem,h2,h3,h4,h5,h6,h7,h8⟩:=he;refine⟨h1,cells,elem,h2,h3,h4,h5,h6,fun i r j c hi hj=>?_,h8⟩;obtain⟨v,g1,g2⟩:=h7 i r j c hi hj;exact⟨v,g1,zpP (zvX (List.all_eq_true.1 h r (ygd hi)) c (ygd hj)) g2⟩
theorem zgl.of_spec_lend{P:Program}{f:FuncId}{argsC:List AV}{m1 mem:List Ent}{r:AV}{args:List AV}(hs:Spec P f argsC [] (fun r' m'=>r'=r/\m'=m1))(hr:hfA r=true)(hm:∀e∈m1,e.hf=true)(hl:args.length=argsC.length)
 (hv:∀H F Z w,Sat H F Z mem w->∀(i:Nat) a a' x,args[i]? =some a->argsC[i]? =some a'->Rep H Z a x->Rep (hpW w) [] a' x):
 zgl P f args mem (r.ren (ren [] mem.length)) (zbL mem [] m1):=by
 refine⟨hs.1,fun H F Z cargs w hsat hsz ha=>?_⟩;have hs0:Sat (hpW w) ⟨hpW w,F.w0⟩ [] [] w:=
  {hH:=fun b o hb=>hb,gh:=hsat.gh.mono fun b o e=>hsat.hH b o e,hF:=fun b o hb=>hb,sm:=⟨hsat.sm.os,hsat.sm.tape,hsat.sm.output,hsat.sm.size⟩,hl:=rfl,ent:=fun i e x hi=>by simp at hi,apart:=fun i e x hi=>by simp at hi,inj:=fun i j e e' x y hi=>by simp at hi}
 have hC:=hs.2 (hpW w) ⟨hpW w,F.w0⟩ [] cargs w hs0 (by rw[hsz,hl]) fun i a' x h1 h2=>by have hlt:=(yga.1 h1).1;have hg:args[i]? =some (args[i]'(by omega)):=ygb _;exact hv H F Z w hsat i _ a' x hg h1 (ha i _ x hg h2)
 refine hC.mono fun e w' ⟨v,r',m',H',βC',h1,⟨h2,h3⟩,g3,g4,g5,g6,g7⟩=>?_;subst h2 h3;have same:∀b,b<w.heap.size->w'.heap[b]? =w.heap[b]?:=fun b hb=>by
  have:hpW w b=some w.heap[b]:=by simp[hpW,hb]
  rw[g4.hF b _ this];exact this.symm
 obtain⟨s1,_⟩:=ziy (st:=⟨[],mem⟩) (memC:=[]) (is:=[]) hsat rfl .nil (fun j i e h=>by simp at h) (fun i h=>by simp at h) (fun e h=>by simp at h);have g4':Sat H (zgp F.w0 w [] (([]:List Nat).map fun i=>(Z[i]?).getD none)) βC' m' w':=by
  refine{hH:=fun b o hb=>?_,gh:=hsat.gh,hF:=fun b o hb=>?_,sm:=⟨g4.sm.os,g4.sm.tape,g4.sm.output,g4.sm.size⟩,hl:=g4.hl,ent:=fun i e x hi hx=>Ent.hf_ok (hm e (ygd hi)) (g4.ent i e x hi hx),apart:=fun i e x hi he hx=>?_,inj:=g4.inj}
  ·have:=hsat.hH b o hb;rw[same b (zaT this)];exact this
  ·have:=s1.hF b o hb;rw[same b (zaT this)];exact this
  ·have hn:=(g4.apart i e x hi he hx).2;have hge:w.heap.size<=x.1:=by
    rcases Nat.lt_or_ge x.1 w.heap.size with h|h
    ·have hq:hpW w x.1=none:=hn;simp[hpW,h]at hq
    ·exact h
   constructor
   ·cases hh:H x.1 with
    |none=>rfl
    |some o=>exact absurd (zaT (hsat.hH _ _ hh)) (by omega)
   ·cases hh:(zgp F.w0 w [] (([]:List Nat).map fun i=>(Z[i]?).getD none)) x.1 with
    |none=>rfl
    |some o=>exact absurd (zaT (s1.hF _ _ hh)) (by omega)
 obtain⟨q1,q2,q3⟩:=zmC (st:=⟨[],mem⟩) (memC:=[]) (is:=[]) hsat rfl .nil (fun j i e h=>by simp at h) (fun i h=>by simp at h) g4' (.refl _ _) (fun i h=>absurd h (Nat.not_lt_zero i)) (Nat.zero_le _);exact⟨v,H,_,h1,(zpP hr g3).ren q3,q1,q2,.append _ _⟩
variable [Pin]
theorem ztD:∀(t:Ty)(x:TV t),t.flat=true->zpb (zap t x)=true
|.int _,_,_|.bool,_,_|.str,_,_=>by simp[zap,zpb,hfA]
|.lst _,_,h|.nm _,_,h=>by simp[Ty.flat]at h
mutual
theorem zyy:∀(a:AV)(v:V)(n:Nat),VR id [] v a->v.isLf=true->hfA (zib n (some .all) a).1=true/\∀e∈(zib n (some .all) a).2,e.hf=true
|.sl es rows,v,n,hv,hlf=>by
 cases v<;>simp[V.isLf]at hlf<;>simp only[VR]at hv<;>(try(cases hv;done));rename_i t xs;simp only[AV.sl.injEq]at hv;obtain⟨h1,h2⟩:=zmX rows t xs (n+1) hv.2;simp only[zib];refine⟨by simp[hfA],fun e he=>?_⟩;rcases List.mem_cons.1 he with rfl|he
 ·exact List.all_eq_true.2 h1
 ·exact h2 e he
|.int _ _,v,n,hv,hlf|.bool _,v,n,hv,hlf|.str _,v,n,hv,hlf=>by simp[zib,hfA]
|.junk,v,n,hv,hlf=>by simp[zib,hfA]
|.ms ..,v,n,hv,hlf|.mapr _,v,n,hv,hlf|.e0,v,n,hv,hlf|.ip _,v,n,hv,hlf|.mp ..,v,n,hv,hlf|.fn ..,v,n,hv,hlf|.nilp,v,n,hv,hlf|.nilf,v,n,hv,hlf|.nilm,v,n,hv,hlf|.opt ..,v,n,hv,hlf
|.agg _,v,n,hv,hlf|.tup _,v,n,hv,hlf=>by cases v<;>simp[V.isLf]at hlf<;>simp only[VR]at hv<;>cases hv
theorem zra:∀(as:List AV)(vs:List V)(off n:Nat),VRL id [] vs as->vs.all V.isLf=true->zpb (zde n .all off as).1=true/\∀e∈(zde n .all off as).2,e.hf=true
|[],vs,off,n,hv,hlf=>by simp[zde,zpb]
|a:: as,vs,off,n,hv,hlf=>by
 cases vs with
 |nil=>simp only[VRL]at hv;cases hv
 |cons v vs=>simp only[VRL]at hv;obtain⟨_,_,h,hv1,hv2⟩:=hv;cases h;simp only[List.all_cons,yhb]at hlf;obtain⟨h1,h2⟩:=zyy a v n hv1 hlf.1;obtain⟨h3,h4⟩:=zra as vs (off+1) (n+(zib n (some .all) a).2.length) hv2 hlf.2;simp only[zde,OS.sub,zpb,yhb];exact⟨⟨h1,h3⟩,fun e he=>(List.mem_append.1 he).elim (h2 e) (h4 e)⟩
theorem zmX:∀(rows:List (List AV))(t:Ty)(xs:List (TV t))(n:Nat),rows=xs.map (zap t)->(∀r∈(zd2 n .all rows).1,zpb r=true)/\∀e∈(zd2 n .all rows).2,e.hf=true
|[],t,xs,n,hx=>by simp[zd2]
|r:: rows,t,xs,n,hx=>by
 cases xs with
 |nil=>simp at hx
 |cons x xs=>
  simp only[List.map_cons,List.cons.injEq]at hx;obtain⟨hx1,hx2⟩:=hx;obtain⟨h1,h2⟩:=zra r (leafs t x) 0 n (by rw[hx1];exact zbt t x) (ziQ t x);obtain⟨h3,h4⟩:=zmX rows t xs (n+(zde n .all 0 r).2.length) hx2;simp only[zd2];refine⟨fun q hq=>?_,fun e he=>(List.mem_append.1 he).elim (h2 e) (h4 e)⟩;rcases List.mem_cons.1 hq with rfl|hq
  ·exact h1
  ·exact h3 q hq
end
def Root.hf:Root->Bool
|.arr t _ .no=>t.flat
|.arr _ _ (.cl .all)=>true
|_=>false
theorem zwx{J:Nat->Nat}{mem:List Root}{x:Root}(n:Nat)(hx:x.hf=true):(zbc J mem n x).1.hf=true/\∀e∈(zbc J mem n x).2,e.hf=true:=by
 cases x with
 |dead=>cases hx
 |box _ _=>cases hx
 |arr t xs w=>
  cases w with
  |op _ _ _=>cases hx
  |no=>simp only[zbc,zxw,zjN];refine⟨?_,by simp⟩;simp only[Ent.hf,List.all_map,List.all_eq_true,Function.comp];exact fun x _=>ztD t x hx
  |cl os=>
   cases os with
   |no=>cases hx
   | «at» _=>cases hx
   |all=>obtain⟨h1,h2⟩:=zmX (xs.map (zap t)) t xs n rfl;exact⟨List.all_eq_true.2 h1,h2⟩
theorem zoU{J:Nat->Nat}{mem:List Root}:∀(l:List Root)(n:Nat),(∀x∈l,x.hf=true)->(∀e∈(zau J mem n l).2.1,e.hf=true)/\∀e∈(zau J mem n l).1,e.hf=true
|[],n,_=>by simp[zau]
|x:: l,n,h=>by
 obtain⟨g1,g2⟩:=zwx (J:=J) (mem:=mem) n (h x (by simp));obtain⟨h1,h2⟩:=zoU (J:=J) (mem:=mem) l (n+(zbc J mem n x).2.length) fun y hy=>h y (by simp[hy]);simp only[zau];refine⟨fun e he=>(List.mem_append.1 he).elim (g2 e) (h1 e),fun y hy=>?_⟩;rcases List.mem_cons.1 hy with rfl|hy
 ·exact g1
 ·exact h2 y hy
theorem zx6{roots:List Root}(h:∀x∈roots,x.hf=true):∀e∈endM 0 0 roots,e.hf=true:=by intro e he;obtain⟨h1,h2⟩:=zoU (J:=rhoC 0 0) (mem:=roots) roots (0+(roots.length-0)) h;simp only[endM,List.take_zero,Nat.sub_self,List.replicate_zero,List.nil_append,List.drop_zero]at he;exact(List.mem_append.1 he).elim (h2 e) (h1 e)
mutual
theorem zq3{J:Nat->Nat}{mem:List Root}:∀(s:Sh)(d:Dat s),s.flatO=true->hfA (encR J mem (mkV s d))=true
|.int _,_,_|.bool,_,_|.str,_,_=>by simp[mkV,encR,hfA]
|.own r,_,_=>by simp only[mkV,encR];split<;>simp[hfA]
|.tup ss,d,h=>by simp only[mkV,encR,hfA];exact zox ss d (by simpa[Sh.flatO]using h)
|.mpb _ _,_,h|.mpa _ _,_,h|.part _,_,h|.no,_,h|.lst _,_,h|.st _,_,h|.ep _,_,h|.e0,_,h|.nl _,_,h|.nilp,_,h|.nilf,_,h|.agg _,_,h|.ip _,_,h|.fn _ _,_,h=>by simp[Sh.flatO]at h
theorem zox{J:Nat->Nat}{mem:List Root}:∀(ss:List Sh)(d:DatL ss),Sh.flatOL ss=true->zpb (encRL J mem (mkVL ss d))=true
|[],_,_=>by simp[mkVL,encRL,zpb]
|s:: ss,d,h=>by simp only[Sh.flatOL,yhb]at h;simp only[mkVL,encRL,zpb,yhb];exact⟨zq3 s _ h.1,zox ss _ h.2⟩
end
theorem RkR.hf{rk:List RK}{roots:List Root}(h:RkR rk roots)(hf:rk.all RK.flat=true):∀x∈roots,x.hf=true:=by
 intro x hx;obtain⟨r,hr⟩:=List.getElem?_of_mem hx;obtain⟨k,hk,y,rfl⟩:=h.back hr;have hk:=List.all_eq_true.1 hf k (ygd hk);cases k with
 |dead=>cases hk
 |box _ _=>cases hk
 |arr t os=>
  cases os with
  |no=>rw[zb1];exact hk
  | «at» _=>cases hk
  |all=>rw[zb1];rfl
end Go.Fw
namespace Go.Fw
open Go
variable [Pin]
theorem zq7:∀(i n:Nat),(zhj i n).length=n
|_,0=>rfl
|i,n+1=>by simp[zhj,zq7]
theorem zmj:∀(vs:List V)(n i:Nat),lookV (zee n vs) (n+i)=vs.getD i .junk
|[],n,i=>by simp[zee,lookV]
|v:: vs,n,0=>by simp[zee,lookV,Nat.beq_refl]
|v:: vs,n,i+1=>by
 simp only[zee,lookV];cases h:Nat.beq n (n+(i+1))with
 |true=>have:=Nat.eq_of_beq_eq_true h;omega
 |false=>have:=zmj vs (n+1) i;rw[show n+(i+1)=n+1+i by omega,this];rfl
theorem zmP:∀(i n:Nat),zhj i n=(List.range n).map (i + ·)
|_,0=>rfl
|i,n+1=>by simp only[zhj,List.range_succ_eq_map,List.map_cons,List.map_map,Nat.add_zero,List.cons.injEq,yhn];rw[zmP (i+1) n];refine List.map_congr_left fun k _=>?_;simp only[Function.comp,Nat.succ_eq_add_one];omega
theorem zor{A:Type}(d:A):∀(l:List A),(List.range l.length).map (fun i=>l.getD i d)=l:=by intro l;refine List.ext_getElem (by simp) fun i h1 h2=>?_;simp only[List.getElem_map,List.getElem_range];rw[List.getD_eq_getElem?_getD,ygb h2];rfl
theorem zsn(vs:List V):(zhj 0 vs.length).map (lookV (zee 0 vs))=vs:=by rw[zmP,List.map_map];refine Eq.trans (List.map_congr_left fun i _=>?_) (zor .junk vs);simp only[Function.comp,Nat.zero_add];have:=zmj vs 0 i;rwa [Nat.zero_add]at this
theorem zqe(as:List AV):(zhj 0 as.length).map (look (zed 0 as))=as:=by rw[zmP,List.map_map];refine Eq.trans (List.map_congr_left fun i _=>?_) (zor .junk as);simp only[Function.comp,Nat.zero_add];rw[zg5,if_pos (Nat.zero_le _),Nat.sub_zero]
theorem ImpL.takeL{as bs as':List AV}:∀{cs:List AV},cs=as++bs->ImpL cs as'->ImpL as (as'.take as.length):=by
 induction as generalizing as' with
 |nil=>intro cs _ _;exact .nil
 |cons a as ih=>
  intro cs e h;cases h with
  |nil=>cases e
  |cons h hs=>simp only[List.cons_append,List.cons.injEq]at e;obtain⟨rfl,e⟩:=e;exact .cons h (ih e hs)
section
variable {P:Program}{J:Nat->Nat}{T:TS}{st:St}{ρt:Type}{res:ρt}{κ:V->List Root->Option ρt}
theorem zmT{mem:List Root}{k:Option ρt}(p:Nat->Nat):∀(o:List Nat)(l:List Root),kpT mem o (l.map (Root.ren p)) k=some res->o.length<=l.length->k=some res/\
 ∀(j r:Nat),o[j]? =some r->∃y,l[j]? =some y/\(y=.dead\/(∃t xs w xs' w',mem[r]? =some (.arr t xs w)/\y=.arr t xs' w'/\xs'.length=xs.length)\/∃b ds b' ds',mem[r]? =some (.box b ds)/\y=.box b' ds')
 |[],l,h,_=>⟨by cases l<;>simpa[kpT]using h,fun j r h=>by simp at h⟩
 |r0:: o,[],h,hl=>by simp at hl
 |r0:: o,y:: l,h,hl=>by
  simp only[List.map_cons,kpT]at h;have next:kpT mem o (l.map (Root.ren p)) k=some res->(y=.dead\/(∃t xs w xs' w',mem[r0]? =some (.arr t xs w)/\y=.arr t xs' w'/\xs'.length=xs.length)\/∃b ds b' ds',mem[r0]? =some (.box b ds)/\y=.box b' ds')->
   k=some res/\∀(j r:Nat),(r0:: o)[j]? =some r->∃y',(y:: l)[j]? =some y'/\(y'=.dead\/(∃t xs w xs' w',mem[r]? =some (.arr t xs w)/\y'=.arr t xs' w'/\xs'.length=xs.length)\/∃b ds b' ds',mem[r]? =some (.box b ds)/\y'=.box b' ds'):=by
   intro h hy;obtain⟨h1,h2⟩:=zmT p o l h (by simpa using hl);refine⟨h1,fun j r hj=>?_⟩;cases j with
   |zero=>simp at hj;subst hj;exact⟨y,rfl,hy⟩
   |succ j=>exact h2 j r (by simpa using hj)
  cases y with
  |dead=>exact next h (.inl rfl)
  |box b' ds'=>
   simp only[Root.ren]at h;cases e:mem[r0]? with
   |none=>rw[e]at h;cases h
   |some z=>
    rw[e]at h;cases z with
    |dead=>cases h
    |arr _ _ _=>cases h
    |box b ds=>exact next h (.inr (.inr ⟨_,_,_,_,e,rfl⟩))
  |arr t' xs' w'=>
   simp only[Root.ren]at h;cases e:mem[r0]? with
   |none=>rw[e]at h;cases h
   |some z=>
    rw[e]at h;cases z with
    |dead=>cases h
    |box _ _=>cases h
    |arr t xs w=>
     simp only at h;split at h
     ·rename_i ht;subst ht;obtain⟨g1,g2⟩:=zaG h;exact next g2 (.inr (.inl ⟨_,_,_,_,_,e,rfl,by simpa using g1⟩))
     ·cases h
theorem zdG{e:TE}(h:wfE e=true):Sh.solL e.rin e.ash=true/\zux e.rin=true/\Sh.sol e.rout e.rsh=true/\zux e.rout=true/\e.rin.length<=e.rout.length/\∀k∈e.rin,k≠.dead:=by simp only[wfE,yhb,List.all_eq_true]at h;obtain⟨⟨⟨⟨⟨h1,h2⟩,h3⟩,h4⟩,h5⟩,h6⟩:=h;exact⟨h1,h2,h3,h4,zbO h5,fun k hk e=>by subst e;simpa using h6 _ hk⟩
theorem zeG{e:TE}(h:wfE e=true)(d:DatL (e.ash++e.rin.map RK.sh)):V.solL (rinE e d) (argE e d)=true:=by
 have hR:=zid e.ash e.rin d;have key:∀(a b:List Sh)(d:DatL (a++b)),Sh.solL e.rin a=true->∀{roots:List Root},RkR e.rin roots->V.solL roots ((mkVL (a++b) d).take a.length)=true:=by
  intro a;induction a with
  |nil=>intro b d _ roots _;simp[V.solL]
  |cons s a ih=>intro b d hs roots hr;simp only[Sh.solL,yhb]at hs;simp only[List.cons_append,mkVL,yhs,List.take_succ_cons,V.solL,yhb];exact⟨zp1 hr s _ hs.1,ih b _ hs.2 hr⟩
 exact key _ _ d (zdG h).1 hR
theorem zuw{e:TE}(h:wfE e=true)(d:DatL (e.ash++e.rin.map RK.sh)):OkRs (rinE e d):=(zid e.ash e.rin d).ok (zdG h).2.1
theorem znn{e:TE}(d:DatL (e.ash++e.rin.map RK.sh)):(rinE e d).length=e.rin.length:=(zid e.ash e.rin d).1
theorem ziX{e:TE}(r:DatL (e.rsh:: e.rout.map RK.sh)):RkR e.rout (routE e r):=zid [e.rsh] e.rout r
theorem znm{e:TE}(h:wfE e=true)(r:DatL (e.rsh:: e.rout.map RK.sh)):(resE e r).sol (routE e r)=true:=by unfold resE;simp only[mkVL,List.headD_cons];exact zp1 (ziX r) e.rsh _ (zdG h).2.2.1
theorem zsi{e:TE}(h:wfE e=true)(d:DatL (e.ash++e.rin.map RK.sh)):∀(r:Nat) x,(rinE e d)[r]? =some x->x.alive=true:=by
 intro r x hx;obtain⟨k,hk,y,rfl⟩:=(zid e.ash e.rin d).back hx;have:=(zdG h).2.2.2.2.2 k (ygd hk);cases k with
 |dead=>exact absurd rfl this
 |arr t os=>rw[zb1];rfl
 |box b ss=>rw[zdm];rfl
theorem zpk{args:List V}{as:List AV}(h:TR J T st)(hv:VRL J T.mem args as){e:TE}(hok:TEok P e)(hl:args.length=e.ash.length){d:DatL (e.ash++e.rin.map RK.sh)}(hd:@Sig.get ⟨0⟩ ⟨zhj 0 e.ash.length,e.ash,e.rin⟩ ⟨zee 0 args,T.mem⟩=some d)
 {r:DatL (e.rsh:: e.rout.map RK.sh)}(hr:e.F d=some r)(he:zwv T.mem (zcg T.mem 200 (V.refsL args) []) e.rout (mkVL (e.rsh:: e.rout.map RK.sh) r) κ =some res):
 ∃v m a sm ρ',κ v m=some res/\zgl P e.f as st.mem a sm/\st.mem.length<=sm.length/\VR ρ' m v a/\TR ρ' ⟨T.env,m⟩ ⟨st.env,sm⟩/\(∀q,q<T.mem.length->ρ' q=J q)/\∀(r:Nat) x,T.mem[r]? =some x->x.alive=true->r∉zcg T.mem 200 (V.refsL args) []->sm[J r]? =st.mem[J r]?:=by
 have hal:as.length=e.ash.length:=by rw[hv.len,hl]
 have hslots:(zhj 0 e.ash.length).map (lookV (zee 0 args))=args:=by rw[<-hl];exact zsn args
 have hslotsA:(zhj 0 e.ash.length).map (look (zed 0 as))=as:=by rw[<-hal];exact zqe as
 obtain⟨fp,how⟩:=h.ow;have hget:∃(o:List Nat)(st'':St),zcg T.mem 200 (V.refsL args) []=o/\st''.mem=st.mem/\o.length=e.rin.length/\zif o=true/\(∀r∈o,r<T.mem.length)/\
  (∀(j r:Nat),o[j]? =some r->∃y,(rinE e d)[j]? =some y/\(y=.dead\/(∃t xs w,T.mem[r]? =some (.arr t xs w)/\w.shut=true/\y=.arr t xs w)\/∃b ds b' ds',T.mem[r]? =some (.box b ds)/\y=.box b' ds'))/\
  OwA (fun j=>J (o.getD j 0)) (rinE e d) st.mem (fpJ fp o (rinE e d))/\(∀(r:Nat) b cs,(rinE e d)[r]? =some (.box b cs)->∃as,st.mem[J (o.getD r 0)]? =some (boxE b cs.length as)/\VRL (fun j=>J (o.getD j 0)) (rinE e d) cs as)/\
  ∃as' bs,VRL (fun j=>J (o.getD j 0)) (rinE e d) (mkVL (e.ash++e.rin.map RK.sh) d) as'/\ImpL (as++bs) as':=by
  have z1:=h.box;have z2:=h.boxC;have z3:=h.inj;have z4:=h.ow;have z5:=zhO args as 0 hv;letI p0:Pin:={nin:=0,ini:=[],len:=rfl}
  have h0:@TR p0 J ⟨zee 0 args,T.mem⟩ ⟨zed 0 as,st.mem⟩:=⟨fun n=>z5.look n,z1,z2,z3,z4,fun j hj=>absurd hj (Nat.not_lt_zero j)⟩
  obtain⟨st'',_,t2,e0,c1,hnd,hlt,hkd,owF,as',bs,q3,q2⟩:=@ziN p0 J ⟨zee 0 args,T.mem⟩ ⟨zed 0 as,st.mem⟩ ⟨zhj 0 e.ash.length,e.ash,e.rin⟩ d [] [] h0 hd (zq7 0 _) (fun _ _ _=>.nil) (by simp) _ rfl;rw[hslotsA]at q2;have ho:zcg T.mem 200 (V.refsL args) []=zcg (⟨zee 0 args,T.mem⟩:TS).mem 200 (V.refsL ((zhj 0 e.ash.length).map (lookV (⟨zee 0 args,T.mem⟩:TS).env))++zxx (⟨zee 0 args,T.mem⟩:TS).mem (@Nin.nin p0.toNin)) (zhj 0 (@Nin.nin p0.toNin)):=by show _=zcg T.mem 200 (V.refsL ((zhj 0 e.ash.length).map (lookV (zee 0 args)))++[]) (zhj 0 0);rw[List.append_nil];rw[hslots];rfl
  refine⟨_,st'',ho,e0,c1,hnd,hlt,hkd,owF fp how,fun r b cs hrb=>?_,as',bs,q3,q2⟩;have:=t2.box r b cs hrb;rw[e0]at this;exact this
 obtain⟨o,st'',ho,e0,c1,hnd,hlt,hkd,ow2,hbox2,as',bs,q3,q2⟩:=hget;rw[ho]at he;obtain⟨w1,w2,w3,w4,w5,w6⟩:=zdG hok.wf;have okIn:=zuw hok.wf d;have hal2:=zsi hok.wf d;have hlen2:=znn (e:=e) d;have hndo:=zjr o hnd;have halive:∀r∈o,∃x,T.mem[r]? =some x/\x.alive=true:=by
  intro r hr;obtain⟨j,hj⟩:=List.getElem?_of_mem hr;obtain⟨y,hy,hc⟩:=hkd j r hj;have:=hal2 j y hy;rcases hc with rfl|⟨t,xs,w,h1,_,_⟩|⟨b,ds,b',ds',h1,_⟩
  ·cases this
  ·exact⟨_,h1,rfl⟩
  ·exact⟨_,h1,rfl⟩
 have hgD:∀(j r:Nat),o[j]? =some r->o.getD j 0=r:=fun j r hj=>by rw[List.getD_eq_getElem?_getD,hj];rfl
 let L:=zkC (fpJ fp o (rinE e d)) (rinE e d).length;have hLm:∀i∈L,∃r∈o,i∈fp r:=by
  intro i hi;obtain⟨j,hj,hij⟩:=zoq.1 hi;have hjo:o[j]? =some (o[j]'(by omega)):=ygb _;unfold fpJ at hij;split at hij
  ·rw[hgD j _ hjo]at hij;exact⟨_,ygd hjo,hij⟩
  ·simp at hij
 have hLnd:(o.map J++L).Nodup:=by
  refine List.nodup_append.2 ⟨ziT hndo fun a ha b hb hab=>?_,zkD ow2 _,fun i hi j hj hij=>?_⟩
  ·obtain⟨x,hx,hxa⟩:=halive a ha;obtain⟨y,hy,hya⟩:=halive b hb;exact h.inj a b x y hx hxa hy hya hab
  ·subst hij;obtain⟨r,hr,rfl⟩:=List.mem_map.1 hi;obtain⟨q,_,hq⟩:=hLm _ hj;obtain⟨x,hx,hxa⟩:=halive r hr;exact how.rt r q x hx hxa hq
 have hislt:∀i∈o.map J++L,i<st.mem.length:=by
  intro i hi;rcases List.mem_append.1 hi with hi|hi
  ·obtain⟨r,hr,rfl⟩:=List.mem_map.1 hi;obtain⟨x,hx,ha⟩:=halive r hr;exact h.lt r x hx ha
  ·obtain⟨r,_,hr⟩:=hLm i hi;exact how.lt r i hr
 have his:∀(j r:Nat),o[j]? =some r->(o.map J++L)[j]? =some (J r):=fun j r hj=>by rw[yge (by simpa using(yga.1 hj).1),List.getElem?_map,hj];rfl
 have hrho:∀(j:Nat),rhoC e.rin.length e.rin.length j=j:=fun j=>by unfold rhoC;split<;>omega
 have hg1:∀(j:Nat) x,(rinE e d)[j]? =some x->x.alive=true->Go.Fw.ren (o.map J++L) st.mem.length (rhoC e.rin.length e.rin.length j)=J (o.getD j 0):=fun j x hx _=>by
  have hj:j<o.length:=by have:=(yga.1 hx).1;omega
  have hjo:o[j]? =some o[j]:=ygb hj;rw[hrho,hgD j _ hjo];exact zcs (his j _ hjo)
 obtain⟨act,feet,lens⟩:=zqR (g:=Go.Fw.ren (o.map J++L) st.mem.length) (nin:=e.rin.length) (F:=e.rin.length) (Nat.le_of_eq hlen2.symm) (Nat.le_refl _) okIn ow2 hbox2 hg1 (fun k j hk=>by rw[hlen2,Nat.sub_self,Nat.add_zero];refine zcs ?_;rw[ygf (by simp;omega)];simp only[List.length_map,c1,Nat.add_sub_cancel_left];exact hk)
 have hinl:(inM e d).length=(o.map J++L).length:=by unfold inM;rw[zh2 (Nat.le_of_eq hlen2.symm) (Nat.le_refl _),zvS lens];simp only[yhr,List.length_map,hlen2,c1,L];omega
 have owC:=zh1 (nin:=e.rin.length) (F:=e.rin.length) (Nat.le_of_eq hlen2.symm) (Nat.le_refl _) okIn;have hlive:∀(i:Nat)(x:Ent),(inM e d)[i]? =some x->x.live=true:=by
  intro i x hx;rcases zf7 (Nat.le_of_eq hlen2.symm) (Nat.le_refl _) hx with⟨r,y,hy,rfl⟩|⟨_,_,h3⟩|⟨k,rfl,hk⟩
  ·have hxx:=hx;unfold inM at hxx;rw[zcS (Nat.le_of_eq hlen2.symm) (Nat.le_refl _) (yga.1 hy).1]at hxx;obtain⟨k,q1,_⟩:=zbd (J:=rhoC e.rin.length e.rin.length) (mem:=rinE e d) (rinE e d) (e.rin.length+((rinE e d).length-e.rin.length)) r _ hy;rw[q1]at hxx;cases hxx;have:=hal2 r y hy;cases y with
   |dead=>cases this
   |arr _ _ _=>rfl
   |box _ _=>exact znX _ _ _
  ·omega
  ·have hkl:=(yga.1 hk).1;have hm:e.rin.length+((rinE e d).length-e.rin.length)+k∈(zau (rhoC e.rin.length e.rin.length) (rinE e d) (e.rin.length+((rinE e d).length-e.rin.length)) (rinE e d)).2.2.flatten:=by rw[zbH,List.mem_range'_1];omega
   obtain⟨a,ha,hia⟩:=List.mem_flatten.1 hm;obtain⟨r,hra⟩:=List.getElem?_of_mem ha;have hfa:fpC e.rin.length e.rin.length (rinE e d) r=a:=by unfold fpC;rw[List.getD_eq_getElem?_getD,hra];rfl
   rw[<-hfa]at hia;obtain⟨es,rows,hh⟩:=owC.live r _ hia;have:(inM e d)[e.rin.length+((rinE e d).length-e.rin.length)+k]? =some (.arr es rows):=hh;rw[hx]at this;cases this;rfl
 have hcall:CallOk ⟨st.env,st.mem⟩ ((encRL id (rinE e d) (argE e d)).map (AV.ren (Go.Fw.ren (o.map J++L) st.mem.length))) (encRL id (rinE e d) (argE e d)) (inM e d) (o.map J++L):=by
  refine⟨rfl,fun v hv=>?_,hinl.symm,hLnd,fun j i x hj hx=>?_,hislt,zqS (Nat.le_of_eq hlen2.symm) (Nat.le_refl _) okIn⟩
  ·refine(AV.belL_iff _).1 (zhX (fun r x hx _=>?_) _ (zeG hok.wf d)) v hv;have:=(yga.1 hx).1;rw[hinl];simp only[id,yhr,List.length_map,c1];omega
  ·have:=act j x hx (hlive j x hx);rw[zcs hj]at this;exact this
 have hcs:=zgl.of_spec (env:=st.env) (hok.ok d r hr) hcall;have hargs:ImpL as ((encRL id (rinE e d) (argE e d)).map (AV.ren (Go.Fw.ren (o.map J++L) st.mem.length))):=by
  have t1:=q2.takeL rfl;have t2:VRL (fun j=>J (o.getD j 0)) (rinE e d) (argE e d) (as'.take as.length):=by rw[hal];exact q3.take _
  have t3:=VRL.encR (zeG hok.wf d) t2;rw[t3]at t1;rw[zhY _ _ (zeG hok.wf d),zeQ (ρ':=fun j=>J (o.getD j 0)) (fun j x hx ha=>by have:=hg1 j x hx ha;rw[hrho]at this;exact this) _ (zeG hok.wf d)]
  exact t1
 have hcs2:=hcs.imp hargs;obtain⟨rR1,rR2⟩:=ziX (e:=e) r;have hrout:=(ziX (e:=e) r).ok w4;have hrl:o.length<=(routE e r).length:=by rw[rR1,c1];exact w5
 have hres:∃v,mkVL (e.rsh:: e.rout.map RK.sh) r=resE e r:: (mkVL (e.rsh:: e.rout.map RK.sh) r).drop 1/\v=resE e r:=⟨_,by simp[mkVL,resE],rfl⟩
 obtain⟨_,hres,_⟩:=hres;rw[hres]at he;simp only[zwv]at he;obtain⟨hκ,hkp⟩:=zmT _ o (routE e r) he hrl;obtain⟨ρ',hag,hv',hT'⟩:=h.after (o:=o) (L:=L) (roots:=routE e r) how hndo halive hLnd hLm hrout hrl hkp;rw[c1,<-hinl]at hv' hT';refine⟨_,_,_,_,ρ',?_,hcs2,?_,hv' _ (znm hok.wf r),?_⟩
 ·rw[<-c1];exact hκ
 ·simp only[zbL,yhr,za3];omega
 ·refine⟨hT',hag,fun r x hx ha hr=>?_⟩;rw[ho]at hr;refine zdQ (fun hi=>?_) (h.lt r x hx ha);rcases List.mem_append.1 hi with hi|hi
  ·obtain⟨q,hq,e⟩:=List.mem_map.1 hi;obtain⟨y,hy,hya⟩:=halive q hq;exact hr (by rw[<-h.inj q r y x hy hya hx ha e];exact hq)
  ·obtain⟨q,_,hq⟩:=hLm _ hi;exact how.rt r q x hx ha hq
theorem zpi{args:List V}{as:List AV}(h:TR J T st)(hv:VRL J T.mem args as){e:TE}(hok:TEok P e)(hc:zyA e args=true){d:DatL (e.ash++e.rin.map RK.sh)}(hd:zb2 (e.ash++e.rin.map RK.sh) (V.viewL T.mem args)=some d)
 {r:DatL (e.rsh:: e.rout.map RK.sh)}(hr:e.F d=some r)(he:zwv T.mem [] e.rout (mkVL (e.rsh:: e.rout.map RK.sh) r) κ =some res):
 ∃v m a sm ρ',κ v m=some res/\zgl P e.f as st.mem a sm/\st.mem.length<=sm.length/\VR ρ' m v a/\TR ρ' ⟨T.env,m⟩ ⟨st.env,sm⟩/\(∀q,q<T.mem.length->ρ' q=J q)/\∀(r:Nat) x,T.mem[r]? =some x->x.alive=true->r∉zcg T.mem 200 (V.refsL args) []->sm[J r]? =st.mem[J r]?:=by
 obtain⟨fp,how⟩:=h.ow;have hwf:=hok.wf;have hs:=hok.ok d r hr;have hres:=znm hok.wf r;have hrk:=ziX (e:=e) r;have hsol:=zeG hok.wf d;obtain⟨w1,w2,w3,w4,w5,w6⟩:=zdG hok.wf;obtain⟨f',ash,rin,rsh,rout,F⟩:=e;simp only[zyA,yhb]at hc;obtain⟨⟨⟨⟨g1,g2⟩,_⟩,g4⟩,g5⟩:=hc;have:=zvZ g1;subst this;have hap:V.purL (mkVL (ash++List.map RK.sh []) d)=true:=zge _ d (by simpa using g2);have hargE:argE ⟨f',ash,[],rsh,rout,F⟩ d=mkVL (ash++List.map RK.sh []) d:=by unfold argE;exact List.take_of_length_le (by rw[zdR];simp)
 obtain⟨bs,b1,b2,b3⟩:=zfO h args as hv;obtain⟨as',q1,q2,_⟩:=zcN (J:=J) (mem:=T.mem) _ _ d bs hd b1;have q3:=zf1 q1 hap;have q4:encRL id (rinE ⟨f',ash,[],rsh,rout,F⟩ d) (argE ⟨f',ash,[],rsh,rout,F⟩ d)=encPL (mkVL (ash++List.map RK.sh []) d):=by have t1:VRL id [] (mkVL (ash++List.map RK.sh []) d) (encPL (mkVL (ash++List.map RK.sh []) d)):=zeP _ hap;have t2:=VRL.encR (J:=id) (mem:=[]) (by rw[<-hargE];exact hsol) t1;rw[hargE];exact t2.symm
 have hs':Spec P f' (encPL (mkVL (ash++List.map RK.sh []) d)) [] (fun r' m'=>r'=encR (rhoC 0 0) (routE ⟨f',ash,[],rsh,rout,F⟩ r) (resE ⟨f',ash,[],rsh,rout,F⟩ r)/\m'=endM 0 0 (routE ⟨f',ash,[],rsh,rout,F⟩ r)):=by rw[<-q4];exact hs
 have hcs:=zgl.of_spec_lend (args:=as) (mem:=st.mem) hs' (zq3 rsh _ g4) (zx6 (hrk.hf g5)) (by rw[<-q3,q2.len,b2]) fun H F Z w hsat i a a' x ha ha' hrep=>by
  rw[<-q3]at ha';obtain⟨b,e1,e2⟩:=q2.get i a' ha';obtain⟨a0,e3,_,e4⟩:=b3 i b e1;rw[ha]at e3;cases e3;have:=e2.1 _ _ _ (e4 H F Z w x hsat hrep);refine this.pure ?_ [];rw[q3]at ha';obtain⟨c,e5,rfl⟩:=zks _ i a' ha';have:c.pur=true:=by
   have hall:∀(l:List V),V.purL l=true->∀c∈l,c.pur=true:=by
    intro l;induction l with
    |nil=>intro _ c hc;simp at hc
    |cons y l ih=>
     intro h c hc;simp only[V.purL,yhb]at h;rcases List.mem_cons.1 hc with rfl|hc
     ·exact h.1
     ·exact ih h.2 c hc
   exact hall _ hap c (ygd e5)
  exact VR.pur (J:=J) (mem:=T.mem) (ziF c this) this
 have hrout:=hrk.ok w4;have hresl:mkVL (rsh:: rout.map RK.sh) r=resE ⟨f',ash,[],rsh,rout,F⟩ r:: (mkVL (rsh:: rout.map RK.sh) r).drop 1:=by simp[mkVL,resE]
 simp only at he;rw[hresl]at he;simp only[zwv]at he;obtain⟨hκ,_⟩:=zmT (ziq [] T.mem.length) [] (routE ⟨f',ash,[],rsh,rout,F⟩ r) he (Nat.zero_le _);obtain⟨ρ',hag,hv',hT'⟩:=h.after (o:=[]) (L:=[]) (roots:=routE ⟨f',ash,[],rsh,rout,F⟩ r) how .nil (fun r h=>by simp at h) .nil (fun i h=>by simp at h) hrout (Nat.zero_le _) (fun j r h=>by simp at h);refine⟨_,_,_,_,ρ',hκ,hcs,?_,hv' _ hres,hT',hag,fun r x hx ha _=>zdQ (by simp) (h.lt r x hx ha)⟩;simp only[zbL,yhr,za3];omega
def EOk(P:Program)(e:TE):Prop:=match zeU e.rin&&zeU e.rout with
|true=>PEok P e
|false=>TEok P e
theorem zeH{cl:Nat}{f:FuncId}{args:List V}{as:List AV}(h:TR J T st)(hv:VRL J T.mem args as):∀{Φ:List TE},(∀e∈Φ,EOk P e)->zhQ cl f args T.mem κ Φ =some res->
 (∃v a,κ v T.mem=some res/\VR J T.mem v a/\((∀m,zgl P f as m a m)\/(2<=cl/\zgl P f as st.mem a st.mem))) \/
 (3<=cl/\zg7 f Φ =false/\∃v m a sm ρ',κ v m=some res/\zgl P f as st.mem a sm/\st.mem.length<=sm.length/\VR ρ' m v a/\TR ρ' ⟨T.env,m⟩ ⟨st.env,sm⟩/\(∀q,q<T.mem.length->ρ' q=J q)/\∀(r:Nat) x,T.mem[r]? =some x->x.alive=true->r∉zcg T.mem 200 (V.refsL args) []->sm[J r]? =st.mem[J r]?)
 |[],_,he=>by simp[zhQ]at he
 |e:: Φ,hΦ,he=>by
  have hok:=hΦ e (by simp);simp only[zhQ]at he;split at he
  ·rename_i hf;rcases zeH h hv (Φ:=Φ) (fun e' he'=>hΦ e' (by simp[he'])) he with h1|⟨h1,h2,h3⟩
   ·exact .inl h1
   ·exact .inr ⟨h1,by simp only[zg7,hf];exact h2,h3⟩
  ·rename_i hf;have hf':=zbN hf;subst hf';have recu:zhQ cl e.f args T.mem κ Φ =some res->(∃v a,κ v T.mem=some res/\VR J T.mem v a/\((∀m,zgl P e.f as m a m)\/(2<=cl/\zgl P e.f as st.mem a st.mem))) \/
    (3<=cl/\zg7 e.f (e:: Φ)=false/\∃v m a sm ρ',κ v m=some res/\zgl P e.f as st.mem a sm/\st.mem.length<=sm.length/\VR ρ' m v a/\TR ρ' ⟨T.env,m⟩ ⟨st.env,sm⟩/\(∀q,q<T.mem.length->ρ' q=J q)/\∀(r:Nat) x,T.mem[r]? =some x->x.alive=true->r∉zcg T.mem 200 (V.refsL args) []->sm[J r]? =st.mem[J r]?):=fun he=>by
    rcases zeH h hv (Φ:=Φ) (fun e' he'=>hΦ e' (by simp[he'])) he with h1|⟨h1,h2,h3⟩
    ·exact .inl h1
    ·exact .inr ⟨h1,by simp only[zg7,hf,h2,Bool.and_false],h3⟩
   unfold EOk at hok;split at he
   ·rename_i hn;rw[hn]at hok;split at he
    ·rename_i hc;split at he
     ·rename_i d hd;obtain⟨r,hr,he⟩:=zas he;exact .inl (zpj h hv hok hc hd hr he)
     ·exact recu he
    ·exact recu he
   ·rename_i hn;rw[hn]at hok;split at he
    ·cases he
    ·rename_i hc;simp only[yhb]at hc;split at he
     ·rename_i hlb;split at he
      ·rename_i d hd;obtain⟨r,hr,he⟩:=zas he;exact .inr ⟨zbO hc.1,by simp only[zg7,hf,hn,Bool.false_and],zpi h hv hok hlb hd hr he⟩
      ·exact recu he
     ·split at he
      ·rename_i d hd;obtain⟨r,hr,he⟩:=zas he;exact .inr ⟨zbO hc.1,by simp only[zg7,hf,hn,Bool.false_and],zpk h hv hok (zbN hc.2) hd hr he⟩
      ·exact recu he
end
end Go.Fw
namespace Go.Fw
open Go
variable [Pin]
structure Inv (W:List Nat)(pu:Bool)(T T':TS):Prop where
 env:∀n,memB n W=false->((lookV T.env n).pur=true\/(lookV T.env n).isJ=true\/(pu=true/\noOw T.mem=true))->lookV T'.env n=lookV T.env n\/lookV T'.env n=.junk
 mem:pu=true->noOw T.mem=true->T'.mem=T.mem
theorem zbr(n:Nat):∀a b:List Nat,memB n (a++b)=(memB n a ||memB n b)
|[],b=>by simp[memB]
|x:: a,b=>by simp only[List.cons_append,memB];cases Nat.beq n x<;>simp[zbr n a b]
theorem zm2(n:Nat):∀a:List Nat,memB n a=true↔n∈a
|[]=>by simp[memB]
|x:: a=>by
 simp only[memB,List.mem_cons];cases h:Nat.beq n x with
 |true=>simp[Nat.eq_of_beq_eq_true h]
 |false=>simp[Nat.ne_of_beq_eq_false h,zm2 n a]
theorem zjQ{n:Nat}{a:List Nat}:memB n a=false↔n∉a:=by rw[<-zm2];simp
theorem Inv.refl(W:List Nat)(pu:Bool)(T:TS):Inv W pu T T:=⟨fun _ _ _=>.inl rfl,fun _ _=>rfl⟩
theorem Inv.mono{W W':List Nat}{pu pu':Bool}{T T':TS}(h:Inv W pu T T')(hW:∀n,memB n W'=false->memB n W=false)(hp:pu'=true->pu=true):Inv W' pu' T T':=
 ⟨fun n hn hc=>h.env n (hW n hn) (hc.imp id (.imp id fun e=>⟨hp e.1,e.2⟩)),fun e=>h.mem (hp e)⟩
theorem Inv.trans{W:List Nat}{pu:Bool}{T T1 T2:TS}(h:Inv W pu T T1)(h':Inv W pu T1 T2):Inv W pu T T2:=by
 refine⟨fun n hn hc=>?_,fun e e1=>(h'.mem e (by rw[h.mem e e1];exact e1)).trans (h.mem e e1)⟩;rcases h.env n hn hc with e|e
 ·rcases h'.env n hn (by rw[e];exact hc.imp id (.imp id fun e=>⟨e.1,by rw[h.mem e.1 e.2];exact e.2⟩))with e'|e'
  ·exact .inl (e'.trans e)
  ·exact .inr e'
 ·rcases h'.env n hn (.inr (.inl (by rw[e];rfl)))with e'|e'
  ·exact .inr (e'.trans e)
  ·exact .inr e'
theorem zmm(Φ:List TE){k:K}(h1:∀f xs,k≠.call f xs)(h2:∀f xs,k≠.callv f xs):zg8 Φ k=zg8 [] k:=by
 cases k with
 |call f xs=>exact absurd rfl (h1 _ _)
 |callv f xs=>exact absurd rfl (h2 _ _)
 |mv x=>cases x with
  |t n=>rfl
  |c v=>cases v<;>rfl
 |_=>rfl
theorem Inv.put{W:List Nat}{pu:Bool}{T:TS}{d:Option Nat}{v:V}{m:List Root}(hd:∀x,d=some x->memB x W=true)(hm:pu=true->noOw T.mem=true->m=T.mem):Inv W pu T ⟨zfa T.env d v,m⟩:=by
 refine⟨fun n hn _=>.inl ?_,hm⟩;rw[zbj];split
 ·rename_i e;rw[hd n e]at hn;cases hn
 ·rfl
theorem TR.lit{J:Nat->Nat}{T:TS}{st:St}{t:Nat}{b:Bool}(h:TR J T st)(ht:lookV T.env t=.bool b):TR J ⟨(t,.bool b):: T.env,T.mem⟩ ⟨(t,.bool b):: st.env,st.mem⟩:=by
 refine⟨fun n=>?_,h.box,h.boxC,h.inj,h.ow,h.pin⟩;have h1:=h.env n;have e1:lookV ((t,V.bool b):: T.env) n=if t=n then .bool b else lookV T.env n:=by have:=zbj (env:=T.env) (d:=some t) (v:=.bool b) (n:=n);simpa[zfa]using this
 have e2:look ((t,AV.bool b):: st.env) n=if t=n then .bool b else look st.env n:=by simp[look]
 show VR J T.mem (lookV ((t,V.bool b):: T.env) n) (look ((t,AV.bool b):: st.env) n);rw[e1,e2];split
 ·simp[VR]
 ·exact h1
theorem Inv.lit{W:List Nat}{pu:Bool}{T:TS}{t:Nat}{b:Bool}(ht:lookV T.env t=.bool b):Inv W pu T ⟨(t,.bool b):: T.env,T.mem⟩:=by
 refine⟨fun n _ _=>.inl ?_,fun _ _=>rfl⟩;have:=zbj (env:=T.env) (d:=some t) (v:=.bool b) (n:=n);simp only[zfa,Option.some.injEq]at this;rw[this];split
 ·rename_i e;subst e;exact ht.symm
 ·rfl
section
variable {Φ:List TE}{tys:List (Nat×An)}{C:Ctx}{k:List CItem}{ρt:Type}{res:ρt}
theorem zig(f:FuncId):∀Φ:List TE,zg7 f Φ =true↔∀e∈Φ,e.f=f->(zeU e.rin&&zeU e.rout)=true
|[]=>by simp[zg7]
|e:: Φ=>by
 simp only[zg7,List.forall_mem_cons];cases h:Nat.beq e.f f with
 |true=>simp[zig f Φ,Nat.eq_of_beq_eq_true h]
 |false=>simp[zig f Φ,Nat.ne_of_beq_eq_false h]
theorem zus{f:FuncId}{Φ Φ':List TE}(hs:∀e∈Φ',e∈Φ)(h:zg7 f Φ =true):zg7 f Φ'=true:=(zig f Φ').2 fun e he=>(zig f Φ).1 h e (hs e he)
theorem zw9(tys:List (Nat×An))(d:Option Nat):zzJ tys d≠.no->d≠none:=by intro h e;subst e;simp[zzJ]at h
theorem zun{J:Nat->Nat}{T:TS}{st:St}{κ:V->List Root->Option ρt}{d:Option Nat}{g:Option (Nat×Bool)}{kk:K}{keep:List Nat}{l:List COp}{cl:Nat}(hΦ:∀e∈Φ,EOk C.P e)(h:TR J T st)(hg:g=none\/∃t bb,g=some (t,bb)/\look st.env t=.bool bb)
 (he:opT Φ tys false cl d kk T.env T.mem κ =some res)
 (hk:∀v m ρ' st',TR ρ' ⟨zfa T.env d v,m⟩ st'->(zg8 Φ kk=true->noOw T.mem=true->m=T.mem)->κ v m=some res->AW C (.ops keep l:: k) st'):AW C (.ops keep (.mk d g kk:: l):: k) st:=by
 have put:∀{v:V}{a:AV},VR J T.mem v a->TR J ⟨zfa T.env d v,T.mem⟩ ⟨put st.env d a,st.mem⟩:=fun hv=>⟨fun n=>by
  simp only[zbj,zdf];split
  ·exact hv
  ·exact h.env n,h.box,h.boxC,h.inj,h.ow,h.pin⟩
 have plain:∀(hne1:∀f xs,kk≠.call f xs)(hne2:∀f xs,kk≠.callv f xs),evT false (zzJ tys d) kk T.env T.mem κ =some res->AW C (.ops keep (.mk d g kk:: l):: k) st:=by intro hne1 hne2 he;obtain⟨v,m,h1,⟨p,a,sm,g1,g2,st2,ρ',g3,_,g4⟩,h2⟩:=zof (d:=d) h (zw9 tys d) he;refine AW.opk hg g1 g2 (g3.2 C _ ?_);exact hk v m ρ' st2 g4 (fun e=>h2 (by rw[<-zmm Φ hne1 hne2];exact e)) h1
 have call:∀{Φ':List TE}{f:FuncId}{args:List V}{as:List AV},(∀e∈Φ',e∈Φ)->zhQ cl f args T.mem κ Φ'=some res->VRL J T.mem args as->
  ((∃xs,kk=.call f xs/\as=xs.map (ar st.env))\/(∃y xs caps f0,kk=.callv y xs/\ar st.env y=.fn f0 caps/\Nat.beq f0 ERR=false/\f=fnum f0/\as=fargs f0 (xs.map (ar st.env)) caps))->AW C (.ops keep (.mk d g kk:: l):: k) st:=by
  intro Φ' f args as hsub he hv hkk;rcases zeH h hv (fun e he=>hΦ e (hsub e he)) he with⟨v,a,h1,h2,h3⟩|⟨_,hp,v,m,a,sm,ρ',h1,h2,h3,h4,h5,_⟩
  ·have hcs:zgl C.P f as st.mem a st.mem:=by
    rcases h3 with h3|h3
    ·exact h3 _
    ·exact h3.2
   exact AW.callc hg hkk hcs (Nat.le_refl _) (hk v T.mem J _ (put h2) (fun _ _=>rfl) h1)
  ·refine AW.callc hg hkk h2 h3 (hk v m ρ' _ (h5.put d h4) (fun e=>?_) h1);rcases hkk with⟨xs,rfl,_⟩|⟨y,xs,caps,f0,rfl,_,_⟩
   ·simp only[zg8]at e;rw[zus hsub e]at hp;cases hp
   ·simp only[zg8]at e;cases e
 cases kk with
 |call f xs=>
  simp only[opT]at he;refine call (fun e hm=>?_) he (VRL.map h.ar xs) (.inl ⟨xs,rfl,rfl⟩);unfold zCO at hm;split at hm
  ·exact(List.mem_filter.1 hm).1
  ·exact hm
 |callv y xs=>
  simp only[opT]at he;split at he
  ·rename_i f caps e;have hy:=h.ar y;rw[e]at hy;simp only[VR]at hy;obtain⟨cas,e2,hc⟩:=hy;split at he
   ·rename_i hne;exact call (fun _ h=>h) he ((VRL.map h.ar xs).fargs hc) (.inr ⟨y,xs,cas,f,rfl,e2,hne,rfl,rfl⟩)
   ·cases he
  ·cases he
 |_=>exact plain (by intros;simp) (by intros;simp) he
theorem zi0(hΦ:∀e∈Φ,EOk C.P e){keep:List Nat}{D:Dn}{κ:TS->Option ρt}:∀(ops:List COp)(cls:List Nat)(T:TS){J:Nat->Nat}{st:St},TR J T st->zjs Φ tys false D ops cls T κ =some res->
 (∀T' ρ' st',TR ρ' T' st'->Inv (zhT ops) (zaM Φ ops) T T'->κ T'=some res->AW C (.ops keep []:: k) st')->AW C (.ops keep ops:: k) st
 |[],cls,T,J,st,h,he,hk=>hk T J st h (.refl _ _ _) (by simpa[zjs]using he)
 |.mk d g kk:: l,cls,T,J,st,h,he,hk=>by
  have hW:∀x,d=some x->memB x (zhT (.mk d g kk:: l))=true:=fun x hx=>by subst hx;simp[zhT,memB,Nat.beq_refl]
  have hWl:∀n,memB n (zhT (.mk d g kk:: l))=false->memB n (zhT l)=false:=fun n hn=>by
   cases d with
   |none=>exact hn
   |some d=>
    simp only[zhT,memB]at hn;split at hn
    ·cases hn
    ·exact hn
  have hpu:zaM Φ (.mk d g kk:: l)=true->zg8 Φ kk=true/\zaM Φ l=true:=fun e=>by simpa[zaM]using e
  have next:∀(T1:TS)(ρ1:Nat->Nat)(st1:St)(cls1:List Nat),TR ρ1 T1 st1->Inv (zhT (.mk d g kk:: l)) (zaM Φ (.mk d g kk:: l)) T T1->zjs Φ tys false D l cls1 T1 κ =some res->AW C (.ops keep l:: k) st1:=by intro T1 ρ1 st1 cls1 h1 hi he1;exact zi0 hΦ l cls1 T1 h1 he1 fun T' ρ' st' h' hi' hκ=>hk T' ρ' st' h' (hi.trans (hi'.mono hWl fun e=>(hpu e).2)) hκ
  have on:∀(T0:TS)(st0:St)(cl:Nat),TR J T0 st0->Inv (zhT (.mk d g kk:: l)) (zaM Φ (.mk d g kk:: l)) T T0->(g=none\/∃t bb,g=some (t,bb)/\look st0.env t=.bool bb)->
   opT Φ tys false cl d kk T0.env T0.mem (fun v m=>zjs Φ tys false D l cls.tail ⟨zfa T0.env d v,m⟩ κ)=some res->AW C (.ops keep (.mk d g kk:: l):: k) st0:=by
   intro T0 st0 cl h0 hi hg he0;refine zun hΦ h0 hg he0 fun v m ρ' st' h' hm hκ=>?_;exact next _ ρ' st' _ h' (hi.trans (Inv.put hW fun e=>hm (hpu e).1)) hκ
  have off:∀(T0:TS)(st0:St),TR J T0 st0->Inv (zhT (.mk d g kk:: l)) (zaM Φ (.mk d g kk:: l)) T T0->(∃t bb,g=some (t,bb)/\(look st0.env t=.bool (!bb)\/look st0.env t=.tup []))->
   zjs Φ tys false D l cls.tail ⟨zfa T0.env d (.tup []),T0.mem⟩ κ =some res->AW C (.ops keep (.mk d g kk:: l):: k) st0:=by
   intro T0 st0 h0 hi ⟨t,bb,hg,ht⟩ he0;subst hg;refine AW.opoff ht ?_;refine next _ J _ _ ?_ (hi.trans (Inv.put hW fun _ _=>rfl)) he0
   refine⟨fun n=>?_,h0.box,h0.boxC,h0.inj,h0.ow,h0.pin⟩;simp only[zbj,zdf];split
   ·simp[VR,VRL]
   ·exact h0.env n
  cases g with
  |none=>simp only[zjs,okT,zgn,zb0,zyR,Bool.not_false,Bool.true_or]at he;exact on T st _ h (.refl _ _ _) (.inl rfl) he
  |some gg=>
   obtain⟨t,bb⟩:=gg;have ht0:=h.env t;have lit:∀b,lookV T.env t=.bool b->look st.env t=.bool b->AW C (.ops keep (.mk d (some (t,bb)) kk:: l):: k) ⟨(t,.bool b):: st.env,st.mem⟩->AW C (.ops keep (.mk d (some (t,bb)) kk:: l):: k) st:=by intro b _ h2 h3;exact AW.lit (h2 ▸ Imp.refl _) h3
   simp only[zjs,okT,zgn,zb0,zyR,Bool.not_false,Bool.true_or]at he;split at he
   ·rename_i x hx;rw[hx]at ht0;simp only[VR]at ht0;cases x with
    |true=>
     refine lit true hx ht0 ?_;cases bb with
     |true=>exact on _ _ _ (h.lit hx) (.lit hx) (.inr ⟨t,true,rfl,by simp[look]⟩) (by simpa[zab]using he)
     |false=>exact off _ _ (h.lit hx) (.lit hx) ⟨t,false,rfl,.inl (by simp[look])⟩ (by simpa[zab]using he)
    |false=>
     refine lit false hx ht0 ?_;cases bb with
     |true=>exact off _ _ (h.lit hx) (.lit hx) ⟨t,true,rfl,.inl (by simp[look])⟩ (by simpa[zab]using he)
     |false=>exact on _ _ _ (h.lit hx) (.lit hx) (.inr ⟨t,false,rfl,by simp[look]⟩) (by simpa[zab]using he)
   ·rename_i hx;rw[hx]at ht0;simp only[VR,VRL]at ht0;obtain⟨as,h1,rfl⟩:=ht0;exact off T st h (.refl _ _ _) ⟨t,bb,rfl,.inr h1⟩ he
   ·cases he
end
end Go.Fw
namespace Go.Fw
open Go
variable [Pin]
theorem zk6{P:Program}{Φ:List (En P)}{stb:List Nat}{gw:Nat->Nat}{cr:List (Nat×CR)}{Q Q':St->Prop}(hQ:∀st,Q st->Q' st):∀(l:List COp)(cls:List Nat)(st:St),ziY Φ stb gw cr l cls st Q->ziY Φ stb gw cr l cls st Q':=by
 intro l;induction l with
 |nil=>intro cls st h;exact hQ _ h
 |cons c l ih=>
  intro cls st h;obtain⟨d,g,k⟩:=c;cases g with
  |none=>
   simp only[ziY]at h|-;refine⟨h.1,?_⟩;have h2:=h.2;split at h2
   ·exact⟨h2.1,h2.2.1,h2.2.2.1,ih _ _ h2.2.2.2⟩
   ·exact h2.elim
  |some gg=>
   obtain⟨t,bb⟩:=gg;simp only[ziY]at h|-;split at h
   ·refine⟨fun hx=>?_,fun hx=>ih _ _ (h.2 hx)⟩;have h2:=h.1 hx;refine⟨h2.1,?_⟩;have h2:=h2.2;split at h2
    ·exact⟨h2.1,h2.2.1,h2.2.2.1,ih _ _ h2.2.2.2⟩
    ·exact h2.elim
   ·exact ih _ _ h
   ·exact h.elim
theorem ziI{P:Program}{Φ:List (En P)}{stb:List Nat}{cr:List (Nat×CR)}{n:Nat}{c:CR}{d:Option Nat}{k:K}{env:List (Nat×AV)}{mem:List Ent}(hd:d≠some n):
 evD Φ ((n,c):: cr) d k env mem=evD Φ cr d k env mem/\clsK stb ((n,c):: cr) d k env=clsK stb cr d k env:=by
 have hl:zfB ((n,c):: cr) d=zfB cr d:=by
  cases d with
  |none=>cases cr<;>rfl
  |some d=>rw[zcq,if_neg (fun e=>hd (by rw[e]))]
 constructor
 ·cases k<;>simp only[evD,hl]
 ·cases k<;>simp only[clsK,hl]
theorem zno{P:Program}{Φ:List (En P)}{stb:List Nat}{gw:Nat->Nat}{cr:List (Nat×CR)}{n:Nat}{c:CR}{Q:St->Prop}:∀(l:List COp)(cls:List Nat)(st:St),(∀c'∈l,c'.d≠some n)->ziY Φ stb gw cr l cls st Q->ziY Φ stb gw ((n,c):: cr) l cls st Q:=by
 intro l;induction l with
 |nil=>intro cls st _ h;exact h
 |cons c' l ih=>
  intro cls st hd h;obtain⟨d,g,k⟩:=c';have hd0:d≠some n:=hd (.mk d g k) (by simp);have hdl:∀c'∈l,c'.d≠some n:=fun c' hc=>hd c' (by simp[hc]);cases g with
  |none=>
   simp only[ziY]at h|-;rw[(ziI (stb:=stb) hd0).1,(ziI (P:=P) (Φ:=Φ) (stb:=stb) (mem:=st.mem) hd0).2];refine⟨h.1,?_⟩;have h2:=h.2;split at h2
   ·exact⟨h2.1,h2.2.1,fun h5=>by obtain⟨w,x,q1,q2,q3,q4⟩:=h2.2.2.1 h5;exact⟨w,x,q1,q2,q3,fun m hm=>by rw[(ziI (stb:=stb) hd0).1];exact q4 m hm⟩,ih _ _ hdl h2.2.2.2⟩
   ·exact h2.elim
  |some gg=>
   obtain⟨t,bb⟩:=gg;simp only[ziY]at h|-;split at h
   ·refine⟨fun hx=>?_,fun hx=>ih _ _ hdl (h.2 hx)⟩;have h2:=h.1 hx;rw[(ziI (stb:=stb) hd0).1,(ziI (P:=P) (Φ:=Φ) (stb:=stb) (mem:=st.mem) hd0).2];refine⟨h2.1,?_⟩;have h2:=h2.2;split at h2
    ·exact⟨h2.1,h2.2.1,fun h5=>by obtain⟨w,x,q1,q2,q3,q4⟩:=h2.2.2.1 h5;exact⟨w,x,q1,q2,q3,fun m hm=>by rw[(ziI (stb:=stb) hd0).1];exact q4 m hm⟩,ih _ _ hdl h2.2.2.2⟩
    ·exact h2.elim
   ·exact ih _ _ hdl h
   ·exact h.elim
def wrK(k:K)(env:List (Nat×AV)):Option Nat:=
 match k with
 |.store _ a _=>match ar env a with
  |.mp i _ _=>some i
  |_=>none
 |.app _ x _|.apps x _|.apf _ x _=>match ar env x with
  |.ms i _ _ _=>some i
  |_=>none
 |.mup m _ _=>match ar env m with
  |.mapr i=>some i
  |_=>none
 |_=>none
theorem ziG{pr:Bool}{mem:List Ent}{es:Nat}{x:AV}{ys:List (List AV)}{r:Ev}{e:Nat}(h:zdJ pr mem es x ys=some r)(hl:e<mem.length)(hw:∀i es off len,x=.ms i es off len->i≠e):r.2.2[e]? =mem[e]?:=by unfold zdJ at h;(repeat' split at h)<;>first|(cases h;done)|(cases h;first|rfl|exact yge hl|(rw[yge (by simpa using hl),ygg (hw _ _ _ _ rfl)])|(rw[ygg (hw _ _ _ _ rfl)]))
theorem zrK{mem:List Ent}{es:Nat}{x:AV}{ys:List (List AV)}{r:Ev}{e:Nat}(h:zpy mem es x ys=some r)(hl:e<mem.length)(hw:∀i es off len,x=.ms i es off len->i≠e):r.2.2[e]? =mem[e]?:=by
 unfold zpy at h;split at h
 ·rename_i p j e0 o0 n m hev;have hj:j=mem.length:=by unfold zdJ at hev;(repeat' split at hev)<;>first|(cases hev;done)|(cases hev;rfl)
  split at h
  ·cases h;subst hj;simp only;rw[ygg (by omega)];exact ziG hev hl hw
  ·cases h
 ·cases h
theorem zvO{k:K}{env:List (Nat×AV)}{mem:List Ent}{r:Ev}{e:Nat}(h:evK k env mem=some r)(hl:e<mem.length)(hw:∀i,wrK k env=some i->i≠e):r.2.2[e]? =mem[e]?:=by
 cases k with
 |store n a x=>
  simp only[evK]at h;split at h
  ·rename_i i row off ha;have:=hw i (by simp only[wrK,ha]);(repeat' split at h)<;>first|(cases h;done)|(cases h;rw[ygg this])
  ·cases h
 |app es x y=>
  simp only[evK]at h;split at h
  ·exact ziG h hl fun i es off len hx=>hw i (by simp only[wrK,hx])
  ·cases h
 |apps x y=>
  simp only[evK]at h;split at h
  ·exact ziG h hl fun i es off len hx=>hw i (by simp only[wrK,hx])
  ·cases h
 |apf es x y=>
  simp only[evK]at h;split at h
  ·exact zrK h hl fun i es off len hx=>hw i (by simp only[wrK,hx])
  ·cases h
 |load n x=>cases n<;>simp only[evK]at h<;>(repeat' split at h)<;>cases h<;>rfl
 |field o n x=>cases n<;>simp only[evK]at h<;>(repeat' split at h)<;>cases h<;>rfl
 |boxm n x=>simp only[evK]at h;cases h;exact yge hl
 |alloc zs=>simp only[evK]at h;cases h;exact yge hl
 |mmk=>simp only[evK]at h;cases h;exact yge hl
 |mup m x y=>
  simp only[evK]at h;split at h
  ·rename_i i k s hm _ _;have:=hw i (by simp only[wrK,hm]);(repeat' split at h)<;>first|(cases h;done)|(cases h;exact ygg this)
  ·cases h
 |bslm es ps=>simp only[evK]at h;cases h;exact yge hl
 |buildo o es zs ps=>simp only[evK]at h;cases h;exact yge hl
 |mks es zs l=>simp only[evK]at h;(repeat' split at h)<;>first|(cases h;done)|(cases h;exact yge hl)
 |call _ _|callv _ _=>simp[evK]at h
 |_=>simp only[evK]at h;first|(cases h;rfl)|((repeat' split at h)<;>first|(cases h;done)|(cases h;rfl))
theorem zzs{n:Nat}{a x:Ar}{env:List (Nat×AV)}{mem:List Ent}{r:Ev}(h:evK (.store n a x) env mem=some r):∃w e,wrK (.store n a x) env=some w/\w<mem.length/\r.2.2=mem.set w e/\∀m,m[w]? =mem[w]?->evK (.store n a x) env m=some (r.1,r.2.1,m.set w e):=by
 simp only[evK]at h;split at h
 ·rename_i i row off ha;split at h
  ·rename_i es rows hi;split at h
   ·rename_i rw0 hr;cases h;refine⟨i,_,by simp only[wrK,ha],(yga.1 hi).1,rfl,fun m hm=>?_⟩;rw[hi]at hm;simp only[evK,ha,hm,hr]
   ·cases h
  ·cases h
 ·cases h
theorem zbe{mem:List Root}{r:Nat}:zg4 mem r=true↔∃y,mem[r]? =some y/\y.alive=true:=by
 unfold zg4;cases h:mem[r]? with
 |none=>simp
 |some y=>cases y<;>simp[Root.alive]
section
variable {tys:List (Nat×An)}{ρt:Type}{res:ρt}
theorem zCq{J:Nat->Nat}{T:TS}{st:St}{dr:Bool}{an:An}{k:K}{κ:V->List Root->Option ρt}(h:TR J T st)(he:evT dr an k T.env T.mem κ =some res):∀i,wrK k st.env=some i->∃r,wrT k T.env=some r/\(zg4 T.mem r=true->i=J r):=by
 intro i hi;cases k with
 |store n a x=>
  have ha:=h.ar a;simp only[evT]at he;split at he
  ·rename_i r row off e;refine⟨r,by simp only[wrT,e],fun hl=>?_⟩;rw[e]at ha;simp only[wrK]at hi;simp only[VR]at ha;obtain⟨y,hy,hya⟩:=zbe.1 hl;simp only[mpR,hy]at ha;cases y with
   |dead=>cases hya
   |arr t xs w=>simp only at ha;rw[ha]at hi;simpa using hi.symm
   |box b cs=>simp only at ha;rw[ha.1]at hi;simpa using hi.symm
  ·cases he
 |mup m x y=>
  have hm:=h.ar m;simp only[evT]at he;split at he
  ·rename_i r k s e _ _;refine⟨r,by simp only[wrT,e],fun hl=>?_⟩;rw[e]at hm;simp only[wrK]at hi;simp only[VR]at hm;split at he
   ·rename_i b xs e3;simp only[zep,e3]at hm;rw[hm]at hi;simpa using hi.symm
   ·cases he
  ·cases he
 |app es x y=>
  have hx:=h.ar x;have own:∀r,arV T.env x=.own r->∃r,wrT (.app es x y) T.env=some r/\(zg4 T.mem r=true->i=J r):=fun r e=>by
   refine⟨r,by simp only[wrT,e],fun hl=>?_⟩;rw[e]at hx;simp only[wrK]at hi;simp only[VR]at hx;obtain⟨y,hy,hya⟩:=zbe.1 hl;simp only[zep,hy]at hx;cases y with
   |dead=>cases hya
   |arr t xs w=>simp only at hx;rw[hx]at hi;simpa using hi.symm
   |box b cs=>exfalso;simp only[evT,e,hy]at he;(repeat' split at he)<;>first|(cases he;done)|(simp only[ygc]at he;obtain⟨_,_,he⟩:=he;first|(cases he;done)|((repeat' split at he)<;>cases he))
  have e0:arV T.env x=.e0->False:=fun e=>by rw[e]at hx;simp only[VR]at hx;simp only[wrK,hx]at hi;cases hi
  by_cases ho:∃r,arV T.env x=.own r
  ·obtain⟨r,e⟩:=ho;exact own r e
  ·exfalso;simp only[evT]at he;(repeat' split at he)<;>first|(cases he;done)|(exact ho ⟨_,‹_›⟩)|(exact e0 ‹_›)|(simp only[ygc]at he;obtain⟨_,_,he⟩:=he;(repeat' split at he)<;>first|(cases he;done)|(exact ho ⟨_,‹_›⟩)|(exact e0 ‹_›))
 |apf es x y=>
  have hx:=h.ar x;have own:∀r,arV T.env x=.own r->∃r,wrT (.apf es x y) T.env=some r/\(zg4 T.mem r=true->i=J r):=fun r e=>by
   refine⟨r,by simp only[wrT,e],fun hl=>?_⟩;rw[e]at hx;simp only[wrK]at hi;simp only[VR]at hx;obtain⟨y,hy,hya⟩:=zbe.1 hl;simp only[zep,hy]at hx;cases y with
   |dead=>cases hya
   |arr t xs w=>simp only at hx;rw[hx]at hi;simpa using hi.symm
   |box b cs=>exfalso;simp only[evT,e,hy]at he;(repeat' split at he)<;>first|(cases he;done)|(simp only[ygc]at he;obtain⟨_,_,he⟩:=he;first|(cases he;done)|((repeat' split at he)<;>cases he))
  have e0:arV T.env x=.e0->False:=fun e=>by rw[e]at hx;simp only[VR]at hx;simp only[wrK,hx]at hi;cases hi
  by_cases ho:∃r,arV T.env x=.own r
  ·obtain⟨r,e⟩:=ho;exact own r e
  ·exfalso;simp only[evT]at he;(repeat' split at he)<;>first|(cases he;done)|(exact ho ⟨_,‹_›⟩)|(exact e0 ‹_›)|(simp only[ygc]at he;obtain⟨_,_,he⟩:=he;(repeat' split at he)<;>first|(cases he;done)|(exact ho ⟨_,‹_›⟩)|(exact e0 ‹_›))
 |apps x y=>
  have hx:=h.ar x;have own:∀r,arV T.env x=.own r->∃r,wrT (.apps x y) T.env=some r/\(zg4 T.mem r=true->i=J r):=fun r e=>by
   refine⟨r,by simp only[wrT,e],fun hl=>?_⟩;rw[e]at hx;simp only[wrK]at hi;simp only[VR]at hx;obtain⟨y,hy,hya⟩:=zbe.1 hl;simp only[zep,hy]at hx;cases y with
   |dead=>cases hya
   |arr t xs w=>simp only at hx;rw[hx]at hi;simpa using hi.symm
   |box b cs=>exfalso;simp only[evT,e,hy]at he;(repeat' split at he)<;>first|(cases he;done)|(simp only[ygc]at he;obtain⟨_,_,he⟩:=he;first|(cases he;done)|((repeat' split at he)<;>cases he))
  have e0:arV T.env x=.e0->False:=fun e=>by rw[e]at hx;simp only[VR]at hx;simp only[wrK,hx]at hi;cases hi
  by_cases ho:∃r,arV T.env x=.own r
  ·obtain⟨r,e⟩:=ho;exact own r e
  ·exfalso;simp only[evT]at he;(repeat' split at he)<;>first|(cases he;done)|(exact ho ⟨_,‹_›⟩)|(exact e0 ‹_›)
 |_=>simp[wrK]at hi
end
def zsP(D:Dn)(mem:List Root)(R:List Nat):Prop:=∀r∈R,zg4 mem r=true/\r<D.n/\r∉D.wr
def OnD(P:Program)(D:Dn)(J:Nat->Nat)(mem:List Root)(d:Option Nat)(kk:K)(l:List COp)(cls:List Nat)(st0:St)(Q:St->Prop):Prop:=
 ∃R gw cr,(∀r∈D.rd,r∈R)/\zsP D mem R/\(∀p∈D.gs,gw (J p.1)=p.2)/\clsK (R.map J) cr d kk st0.env<=cls.headD 0/\(match evD ([]:List (En P)) cr d kk st0.env st0.mem with
  |some (p,v,m)=>p/\KeepE (R.map J) (cls.headD 0) st0.mem m/\StoreE ([]:List (En P)) gw cr d kk st0.env (cls.headD 0) st0.mem (p,v,m)/\ziY ([]:List (En P)) (R.map J) gw cr l cls.tail ⟨put st0.env d v,m⟩ Q
  |none=>False)
def zzV(D:Dn)(mem:List Root):Prop:=(∀p∈D.gs,zg4 mem p.1=true)/\∀p∈D.gs,∀q∈D.gs,p.1=q.1->p.2=q.2
section
variable {Φ:List TE}{tys:List (Nat×An)}{P:Program}{ρt:Type}{res:ρt}
theorem zxZ{J:Nat->Nat}{T:TS}{st:St}{k:K}{D:Dn}{R:List Nat}{cl:Nat}{cr:List (Nat×CR)}{d:Option Nat}(h:TR J T st)(h1:∀f xs,k≠.call f xs)(h2:∀f xs,k≠.callv f xs)
 (hc:zvG D k T.env<=cl)(hl:∀r,rdT k T.env=some r->zg4 T.mem r=true)(hR:cl<=1->∀r,rdT k T.env=some r->r∈R):clsK (R.map J) cr d k st.env<=cl:=by
 cases k with
 |call f xs=>exact absurd rfl (h1 _ _)
 |callv f xs=>exact absurd rfl (h2 _ _)
 |load n x=>
  have hx:=h.ar x;simp only[zvG]at hc;simp only[clsK];simp only[rdT]at hl hR;split
  ·exact Nat.zero_le _
  ·rename_i i row off hi;rw[hi]at hx;rcases Nat.lt_or_ge cl 2 with hcl|hcl
   ·cases hv:arV T.env x with
    |mp r row' off'=>
     rw[hv]at hx hc;simp only[VR]at hx;have hr:=hR (by omega) r (by rw[hv]);have hlive:=hl r (by rw[hv]);have he:i=J r:=by
      obtain⟨y,hy,hya⟩:=zbe.1 hlive;simp only[mpR,hy]at hx;cases y with
      |dead=>cases hya
      |arr t xs w=>simp only[AV.mp.injEq]at hx;exact hx.1
      |box b cs=>simp only[AV.mp.injEq]at hx;exact hx.1.1
     have:(R.map J).contains i=true:=by rw[he];simp only[List.contains_eq_mem,yhc];exact List.mem_map_of_mem hr
     rw[this];simp only at hc|-;split at hc<;>omega
    |ip cs=>rw[hv]at hx;simp only[VR]at hx;obtain⟨as,hx,_⟩:=hx;cases hx
    |ep n v=>rw[hv]at hx;simp only[VR]at hx;cases hx
    |_=>rw[hv]at hc;simp only at hc;omega
   ·split<;>omega
  ·rename_i hne1 hne2;split at hc
   ·rename_i e;rw[e]at hx;simp only[VR]at hx;obtain⟨as,hx,_⟩:=hx;exact absurd hx (hne1 _)
   ·rename_i e;rw[e]at hx;simp only[VR]at hx;exact absurd hx (hne1 _)
   ·rename_i r row off e;rw[e]at hx;simp only[VR]at hx;have hlive:=hl r (by rw[e]);obtain⟨y,hy,hya⟩:=zbe.1 hlive;simp only[mpR,hy]at hx;cases y with
    |dead=>cases hya
    |arr t xs w=>exact absurd hx (hne2 _ _ _)
    |box b cs=>exact absurd hx.1 (hne2 _ _ _)
   ·exact hc
 |b2s x=>
  have hx:=h.ar x;simp only[zvG]at hc;simp only[clsK];split
  ·exact Nat.zero_le _
  ·exact Nat.zero_le _
  ·rename_i hne1 hne2;split at hc
   ·rename_i e;rw[e]at hx;simp only[VR]at hx;exact absurd hx (hne1 _ _)
   ·rename_i e;rw[e]at hx;simp only[VR]at hx;exact absurd hx (hne1 _ _)
   ·rename_i e;rw[e]at hx;simp only[VR]at hx;exact absurd hx hne2
   ·exact hc
 |_=>exact hc
theorem zuh(D:Dn)(cl:Nat)(k:K)(env:List (Nat×V))(mem:List Root):(zb0 true D cl k env mem).n=D.n:=rfl
theorem zjS(D:Dn)(cl:Nat)(k:K)(env:List (Nat×V))(mem:List Root):(zb0 true D cl k env mem).wr=crT cl k env mem++match Nat.beq cl 4,wrT k env with
|false,some r=>r:: D.wr
|_,_=>D.wr:=rfl
theorem zne(D:Dn)(cl:Nat)(k:K)(env:List (Nat×V))(mem:List Root):(zb0 true D cl k env mem).gs=match Nat.ble 5 cl,wrT k env with
|true,some r=>(r,cl):: D.gs
|_,_=>D.gs:=rfl
theorem zmi:∀{gs:List (Nat×Nat)}{n c:Nat},zsa gs n=some c->(n,c)∈gs
| (m,v):: r,n,c,h=>by
 simp only[zsa]at h;split at h
 ·rename_i e;cases h;rw[Nat.eq_of_beq_eq_true e];exact List.mem_cons_self ..
 ·exact List.mem_cons_of_mem _ (zmi h)
theorem zmh:∀{gs:List (Nat×Nat)}{n:Nat},zsa gs n=none->∀p∈gs,p.1≠n
|[],_,_,p,hp=>by cases hp
| (m,v):: r,n,h,p,hp=>by
 simp only[zsa]at h;split at h
 ·cases h
 ·rename_i e;rcases List.mem_cons.1 hp with rfl|hp
  ·exact Nat.ne_of_beq_eq_false e
  ·exact zmh h p hp
theorem zzV.next{D:Dn}{k:K}{env:List (Nat×V)}{mem m:List Root}{cl:Nat}(h:zzV D mem)(hok:okT true D cl k env mem=true)(hb:zgn true (zb0 true D cl k env mem) mem m=true):zzV (zb0 true D cl k env mem) m:=by
 simp only[zgn,Bool.not_true,Bool.false_or,yhb]at hb;simp only[okT,Bool.not_true,Bool.false_or,yhb]at hok;refine⟨fun p hp=>List.all_eq_true.1 hb.2 p hp,?_⟩;rw[zne];split
 ·rename_i r e1 e2;have hg:=hok.1.2;rw[e1]at hg;simp only[Bool.not_true,Bool.false_or,zBc]at hg;have hl:∀q∈D.gs,q.1=r->q.2=cl:=fun q hq hqr=>by
   split at hg
   ·rw[e2]at hg;simp only at hg;split at hg
    ·rename_i hn;exact absurd hqr (zmh hn q hq)
    ·rename_i c hc;have h1:=h.2 q hq _ (zmi hc) hqr;have h2:=Nat.eq_of_beq_eq_true hg;simp only at h1;omega
   ·cases hg
  intro p hp q hq e;rcases List.mem_cons.1 hp with rfl|hp<;>rcases List.mem_cons.1 hq with rfl|hq
  ·rfl
  ·exact(hl q hq e.symm).symm
  ·exact hl p hp e
  ·exact h.2 p hp q hq e
 ·exact h.2
theorem znf(D:Dn)(cl:Nat)(k:K)(env:List (Nat×V))(mem:List Root):(zb0 true D cl k env mem).rd=match Nat.ble cl 1,rdT k env with
|true,some r=>r:: D.rd
|_,_=>D.rd:=rfl
theorem zws{k:K}{env:List (Nat×V)}{r:Nat}(h:rdT k env=some r):wrT k env=none/\∃n x row off,k=.load n x/\arV env x=.mp r row off:=by
 cases k with
 |load n x=>
  simp only[rdT]at h;split at h
  ·rename_i e;cases h;exact⟨rfl,n,x,_,_,rfl,e⟩
  ·cases h
 |_=>simp[rdT]at h
theorem zsP.next{D:Dn}{k:K}{env:List (Nat×V)}{mem m:List Root}{cl:Nat}(h:zsP D mem D.rd)(hok:okT true D cl k env mem=true)(hb:zgn true (zb0 true D cl k env mem) mem m=true):zsP (zb0 true D cl k env mem) m (zb0 true D cl k env mem).rd:=by
 simp only[zgn,Bool.not_true,Bool.false_or,yhb]at hb;simp only[okT,Bool.not_true,Bool.false_or,yhb]at hok;obtain⟨⟨⟨⟨ho1,ho2⟩,ho3⟩,ho4⟩,ho5⟩:=hok;intro r hr;refine⟨List.all_eq_true.1 hb.1.2 r hr,?_⟩;rw[zuh,zjS];rw[znf]at hr;have old:r∈D.rd->r<D.n/\r∉(crT cl k env mem++match Nat.beq cl 4,wrT k env with
  |false,some r=>r:: D.wr
  |_,_=>D.wr):=fun hr=>by
  obtain⟨h1,h2,h3⟩:=h r hr;refine⟨h2,fun hm=>?_⟩;rcases List.mem_append.1 hm with hm|hm
  ·have:=List.all_eq_true.1 ho5 r hm;rw[(zkV r D.rd).2 hr]at this;cases this
  refine absurd hm ?_;split
  ·rename_i r' e1 e2;rw[e2,e1]at ho3;simp only[Bool.false_or,yhb,yho]at ho3;simp only[List.mem_cons,not_or];exact⟨fun e=>by subst e;exact zjQ.1 ho3.1 hr,h3⟩
  ·exact h3
 split at hr
 ·rename_i r' e1 e2;rcases List.mem_cons.1 hr with rfl|hr
  ·obtain⟨w1,n,x,row,off,rfl,w2⟩:=zws e2;have hc:zvG D (.load n x) env<=1:=Nat.le_trans (zbO ho1) (zbO e1);simp only[zvG,w2]at hc;rw[w1];split at hc
   ·rename_i hb';simp only[yhb,yho]at hb';exact⟨Nat.le_of_ble_eq_true hb'.1,by
     have e0:crT cl (.load n x) env mem=[]:=by unfold crT;split<;>rfl
     rw[e0,List.nil_append];first|exact zjQ.1 hb'.2|(split<;>first|exact zjQ.1 hb'.2|(rename_i e;cases e))⟩
   ·omega
  ·exact old hr
 ·exact old hr
theorem ziZ(hΦ:∀e∈Φ,EOk P e){κ:TS->Option ρt}:∀(ops:List COp)(cls:List Nat)(D:Dn)(T:TS){J:Nat->Nat}{st:St},TR J T st->wfD ops=true->zsP D T.mem D.rd->zzV D T.mem->zjs Φ tys true D ops cls T κ =some res->
 ∃R gw cr,(∀r∈D.rd,r∈R)/\zsP D T.mem R/\(∀p∈D.gs,gw (J p.1)=p.2)/\ziY ([]:List (En P)) (R.map J) gw cr ops cls st (fun st'=>∃T' ρ',TR ρ' T' st'/\Inv (zhT ops) (zaM Φ ops) T T'/\κ T'=some res)
 |[],cls,D,T,J,st,h,_,hrd,hgs,he=>by
  refine⟨D.rd,fun e=>((D.gs.find? fun p=>J p.1==e).map (·.2)).getD 0,[],fun _ h=>h,hrd,fun p hp=>?_,T,J,h,.refl _ _ _,by simpa[zjs]using he⟩;cases hf:D.gs.find? fun q=>J q.1==J p.1 with
  |none=>have:=List.find?_eq_none.1 hf p hp;simp at this
  |some q=>have h1:=List.find?_some hf;have h2:=List.mem_of_find?_eq_some hf;obtain⟨y,hy,hya⟩:=zbe.1 (hgs.1 q h2);obtain⟨y',hy',hya'⟩:=zbe.1 (hgs.1 p hp);have:q.1=p.1:=h.inj q.1 p.1 y y' hy hya hy' hya' (by simpa using h1);show((D.gs.find? fun q=>J q.1==J p.1).map (·.2)).getD 0=p.2;rw[hf];exact hgs.2 q h2 p hp this
 |.mk d g kk:: l,cls,D,T,J,st,h,hwf,hrd,hgs,he=>by
  obtain⟨w2,w3⟩:=znG hwf;have hW:∀x,d=some x->memB x (zhT (.mk d g kk:: l))=true:=fun x hx=>by subst hx;simp[zhT,memB,Nat.beq_refl]
  have hWl:∀n,memB n (zhT (.mk d g kk:: l))=false->memB n (zhT l)=false:=fun n hn=>by
   cases d with
   |none=>exact hn
   |some d=>
    simp only[zhT,memB]at hn;split at hn
    ·cases hn
    ·exact hn
  have hpu:zaM Φ (.mk d g kk:: l)=true->zg8 Φ kk=true/\zaM Φ l=true:=fun e=>by simpa[zaM]using e
  have next:∀(D1:Dn)(T1:TS)(ρ1:Nat->Nat)(st1:St)(cls1:List Nat),TR ρ1 T1 st1->zsP D1 T1.mem D1.rd->zzV D1 T1.mem->Inv (zhT (.mk d g kk:: l)) (zaM Φ (.mk d g kk:: l)) T T1->zjs Φ tys true D1 l cls1 T1 κ =some res->
   ∃R gw cr,(∀r∈D1.rd,r∈R)/\zsP D1 T1.mem R/\(∀p∈D1.gs,gw (ρ1 p.1)=p.2)/\ziY ([]:List (En P)) (R.map ρ1) gw cr l cls1 st1 (fun st'=>∃T' ρ',TR ρ' T' st'/\Inv (zhT (.mk d g kk:: l)) (zaM Φ (.mk d g kk:: l)) T T'/\κ T'=some res):=by
   intro D1 T1 ρ1 st1 cls1 h1 hrd1 hgs1 hi he1;obtain⟨R,gw,cr,hr1,hr2,hgw,hr⟩:=ziZ hΦ l cls1 D1 T1 h1 w3 hrd1 hgs1 he1;exact⟨R,gw,cr,hr1,hr2,hgw,zk6 (fun st' ⟨T',ρ',q1,q2,q3⟩=>⟨T',ρ',q1,hi.trans (q2.mono hWl fun e=>(hpu e).2),q3⟩) _ _ _ hr⟩
  have on:∀(T0:TS)(st0:St),TR J T0 st0->T0.mem=T.mem->(∀y:Ar,arV T0.env y=arV T.env y)->Inv (zhT (.mk d g kk:: l)) (zaM Φ (.mk d g kk:: l)) T T0->okT true D (cls.headD 0) kk T.env T.mem=true->
   opT Φ tys true (clD true cls) d kk T0.env T0.mem (fun v m=>match zgn true (zb0 true D (cls.headD 0) kk T.env T.mem) T.mem m with
    |true=>zjs Φ tys true (zb0 true D (cls.headD 0) kk T.env T.mem) l cls.tail ⟨zfa T0.env d v,m⟩ κ
    |false=>none)=some res->
   OnD P D J T.mem d kk l cls st0 (fun st'=>∃T' ρ',TR ρ' T' st'/\Inv (zhT (.mk d g kk:: l)) (zaM Φ (.mk d g kk:: l)) T T'/\κ T'=some res):=by
   intro T0 st0 h0 hmem hars hi hok he0;have clsE:zvG D kk T0.env=zvG D kk T.env:=by cases kk<;>simp only[zvG,hars]
   have rdE:rdT kk T0.env=rdT kk T.env:=by cases kk<;>simp only[rdT,hars]
   have wrE:wrT kk T0.env=wrT kk T.env:=by cases kk<;>simp only[wrT,hars]
   have hok':=hok;simp only[okT,Bool.not_true,Bool.false_or,yhb]at hok';obtain⟨⟨⟨⟨ho1,ho2⟩,ho3⟩,ho4⟩,ho5⟩:=hok';have back:∀{v:V}{m:List Root},(match zgn true (zb0 true D (cls.headD 0) kk T.env T.mem) T.mem m with
    |true=>zjs Φ tys true (zb0 true D (cls.headD 0) kk T.env T.mem) l cls.tail ⟨zfa T0.env d v,m⟩ κ
    |false=>none)=some res->zgn true (zb0 true D (cls.headD 0) kk T.env T.mem) T.mem m=true/\zjs Φ tys true (zb0 true D (cls.headD 0) kk T.env T.mem) l cls.tail ⟨zfa T0.env d v,m⟩ κ =some res:=fun h=>by
    split at h
    ·rename_i e;exact⟨e,h⟩
    ·cases h
   have ahead:∀{m:List Root}{R:List Nat},zgn true (zb0 true D (cls.headD 0) kk T.env T.mem) T.mem m=true->zsP (zb0 true D (cls.headD 0) kk T.env T.mem) m R->zsP D T.mem R:=fun{m R} hb hR r hr=>by
    obtain⟨g1,g2,g3⟩:=hR r hr;simp only[zgn,Bool.not_true,Bool.false_or,yhb]at hb;have:=List.all_eq_true.1 hb.1.1 r (by rw[zmP,List.mem_map];exact⟨r,List.mem_range.2 (by rw[zuh]at g2|-;exact g2),by omega⟩)
    rw[g1]at this;refine⟨by simpa using this,g2,fun hw=>g3 ?_⟩;rw[zjS];refine List.mem_append_right _ ?_;split
    ·exact List.mem_cons_of_mem _ hw
    ·exact hw
   have rdsub:∀r∈D.rd,r∈(zb0 true D (cls.headD 0) kk T.env T.mem).rd:=fun r hr=>by
    rw[znf];split
    ·exact List.mem_cons_of_mem _ hr
    ·exact hr
   have mapE:∀{R:List Nat}{ρ':Nat->Nat},zsP D T.mem R->(∀q,q<T0.mem.length->ρ' q=J q)->R.map ρ'=R.map J:=fun hR hag=>List.map_congr_left fun r hr=>hag r (by obtain⟨y,hy,_⟩:=zbe.1 (hR r hr).1;rw[hmem];exact(yga.1 hy).1)
   have no5:(∀n a x,kk≠.store n a x)->cls.headD 0<5:=fun hkk=>by
    rcases Nat.lt_or_ge (cls.headD 0) 5 with h|h
    ·exact h
    ·have hb5:Nat.ble 5 (cls.headD 0)=true:=Nat.ble_eq_true_of_le h;rw[hb5]at ho4;simp only[Bool.not_true,Bool.false_or]at ho4;unfold zBc at ho4;split at ho4
     ·exact absurd rfl (hkk _ _ _)
     ·cases ho4
   have gsE:∀{gw:Nat->Nat}{ρ':Nat->Nat},(∀p∈(zb0 true D (cls.headD 0) kk T.env T.mem).gs,gw (ρ' p.1)=p.2)->(∀q,q<T0.mem.length->ρ' q=J q)->∀p∈D.gs,gw (J p.1)=p.2:=fun{gw ρ'} hgw hag p hp=>by
    obtain⟨y,hy,_⟩:=zbe.1 (hgs.1 p hp);rw[<-hag p.1 (by rw[hmem];exact(yga.1 hy).1)];refine hgw p ?_;rw[zne];split
    ·exact List.mem_cons_of_mem _ hp
    ·exact hp
   have plain:∀(hne1:∀f xs,kk≠.call f xs)(hne2:∀f xs,kk≠.callv f xs),evT true (zzJ tys d) kk T0.env T0.mem (fun v m=>match zgn true (zb0 true D (cls.headD 0) kk T.env T.mem) T.mem m with
    |true=>zjs Φ tys true (zb0 true D (cls.headD 0) kk T.env T.mem) l cls.tail ⟨zfa T0.env d v,m⟩ κ
    |false=>none)=some res->OnD P D J T.mem d kk l cls st0 (fun st'=>∃T' ρ',TR ρ' T' st'/\Inv (zhT (.mk d g kk:: l)) (zaM Φ (.mk d g kk:: l)) T T'/\κ T'=some res):=by
    intro hne1 hne2 he1;have hwk:=zCq h0 he1;obtain⟨v,m,h1,⟨p,a,sm,g1,g2,st2,ρ',g3,g5,g4⟩,h2⟩:=zof (d:=d) h0 (zw9 tys d) he1;obtain⟨rfl,hag⟩:=g5 rfl;obtain⟨hb,h1⟩:=back h1;obtain⟨R,gw,cr,hr1,hr2,hgw,hr⟩:=next _ _ ρ' _ _ g4 (hrd.next hok hb) (hgs.next hok hb) (hi.trans (Inv.put hW fun e=>h2 (by rw[<-zmm Φ hne1 hne2];exact(hpu e).1))) h1
    have hRD:=ahead hb hr2;rw[mapE hRD hag]at hr;have hev:evD ([]:List (En P)) cr d kk st0.env st0.mem=some (p,a,sm):=by rw[<-g1];cases kk<;>first|rfl|exact absurd rfl (hne1 _ _)|exact absurd rfl (hne2 _ _)
    refine⟨R,gw,cr,fun r hr=>hr1 r (rdsub r hr),hRD,gsE hgw hag,?_,?_⟩
    ·refine zxZ h0 hne1 hne2 (by rw[clsE];exact zbO ho1) (fun r hr=>?_) fun hcl r hr=>?_
     ·rw[rdE]at hr;rw[hr]at ho2;rw[hmem];exact ho2
     ·rw[rdE]at hr;refine hr1 r ?_;rw[znf,hr];have:Nat.ble (cls.headD 0) 1=true:=Nat.ble_eq_true_of_le hcl;rw[this];exact List.mem_cons_self ..
    ·rw[hev];refine⟨g2,fun hcl e he=>?_,fun h5=>?_,hr⟩
     ·obtain⟨r,hrR,rfl⟩:=List.mem_map.1 he;obtain⟨q1,q2,q3⟩:=hRD r hrR;obtain⟨y,hy,hya⟩:=zbe.1 q1;rw[<-hmem]at hy;refine zvO g1 (h0.lt r y hy hya) fun i hi e=>?_;obtain⟨r',hw1,hw2⟩:=hwk i hi;rw[wrE]at hw1;rw[hw1]at ho3;have h4:Nat.beq (cls.headD 0) 4=false:=by
       cases h4:Nat.beq (cls.headD 0) 4 with
       |false=>rfl
       |true=>have:=Nat.eq_of_beq_eq_true h4;omega
      rw[h4]at ho3;simp only[Bool.false_or,yhb]at ho3;have hw2:=hw2 (by rw[hmem];exact ho3.2);obtain⟨y',hy',hya'⟩:=zbe.1 ho3.2;rw[<-hmem]at hy';have:r'=r:=h0.inj r' r y' y hy' hya' hy hya (by rw[<-hw2];exact e);subst this;refine(hr2 r' hrR).2.2 ?_;rw[zjS,hw1,h4];exact List.mem_append_right _ (List.mem_cons_self ..)
     ·have h4:Nat.beq (cls.headD 0) 4=false:=by
       cases h4:Nat.beq (cls.headD 0) 4 with
       |false=>rfl
       |true=>have:=Nat.eq_of_beq_eq_true h4;omega
      have hb5:Nat.ble 5 (cls.headD 0)=true:=Nat.ble_eq_true_of_le h5;rw[hb5]at ho4;simp only[Bool.not_true,Bool.false_or,zBc]at ho4;split at ho4
      ·rename_i n0 a0 x0;obtain⟨w,e,k1,k2,k3,k4⟩:=zzs g1;obtain⟨r',hw1,hw2⟩:=hwk w k1;rw[wrE]at hw1;rw[hw1,h4]at ho3;simp only[Bool.false_or,yhb]at ho3;have hw2:=hw2 (by rw[hmem];exact ho3.2);obtain⟨y',hy',_⟩:=zbe.1 ho3.2;refine⟨w,e,?_,k2,k3,fun m hm=>k4 m hm⟩;rw[hw2,<-hag r' (by rw[hmem];exact(yga.1 hy').1)];refine hgw (r',cls.headD 0) ?_;rw[zne,hb5,hw1];exact List.mem_cons_self ..
      ·cases ho4
   have call:∀{f:FuncId}{args:List V}{as:List AV}{n:Nat},d=some n->zhQ (clD true cls) f args T0.mem (fun v m=>match zgn true (zb0 true D (cls.headD 0) kk T.env T.mem) T.mem m with
    |true=>zjs Φ tys true (zb0 true D (cls.headD 0) kk T.env T.mem) l cls.tail ⟨zfa T0.env d v,m⟩ κ
    |false=>none) Φ =some res->VRL J T0.mem args as->(zg7 f Φ =false->zg8 Φ kk=false)->(∀n a x,kk≠.store n a x)->(cls.headD 0=3->crT (cls.headD 0) kk T.env T.mem=zcg T0.mem 200 (V.refsL args) [])->
    (∀cr c stb,zfB cr d=some c->evD ([]:List (En P)) cr d kk st0.env st0.mem=some (evC P f as st0.mem c)/\clsK stb cr d kk st0.env=match c.cl with|0=>0|1=>2|_+2=>3)->OnD P D J T.mem d kk l cls st0 (fun st'=>∃T' ρ',TR ρ' T' st'/\Inv (zhT (.mk d g kk:: l)) (zaM Φ (.mk d g kk:: l)) T T'/\κ T'=some res):=by
    intro f args as n hd he1 hv hpf hkk hcr hev;have nost:∀{gw cr st m0 r},StoreE ([]:List (En P)) gw cr d kk st (cls.headD 0) m0 r:=fun h5=>by have:=no5 hkk;omega
    have hnl:∀c'∈l,c'.d≠some n:=w2 n (by simpa using hd);rcases zeH h0 hv hΦ he1 with⟨v,a,h1,h2,h3⟩|⟨hcl2,hp,v,m,a,sm,ρ',h1,h2,h3,h4,h5,hag,hkeep⟩
    ·have hput:TR J ⟨zfa T0.env d v,T0.mem⟩ ⟨put st0.env d a,st0.mem⟩:=h0.put d h2;obtain⟨hb,h1⟩:=back h1;obtain⟨R,gw,cr,hr1,hr2,hgw,hr⟩:=next _ _ J _ _ hput (hrd.next hok hb) (hgs.next hok hb) (hi.trans (Inv.put hW fun _ _=>rfl)) h1
     have hRD:=ahead hb hr2;rcases h3 with h3|⟨h4,h3⟩
     ·refine⟨R,gw,(n,⟨as,a,[],[],0⟩):: cr,fun r hr=>hr1 r (rdsub r hr),hRD,gsE hgw (fun _ _=>rfl),?_,?_⟩
      ·rw[(hev _ _ _ (by rw[hd,zcq,if_pos rfl])).2];exact Nat.zero_le _
      ·rw[(hev _ ⟨as,a,[],[],0⟩ [] (by rw[hd,zcq,if_pos rfl])).1];exact⟨⟨rfl,h3⟩,fun _ _ _=>rfl,nost,zno _ _ _ hnl hr⟩
     ·refine⟨R,gw,(n,⟨as,a,st0.mem,st0.mem,1⟩):: cr,fun r hr=>hr1 r (rdsub r hr),hRD,gsE hgw (fun _ _=>rfl),?_,?_⟩
      ·rw[(hev _ _ _ (by rw[hd,zcq,if_pos rfl])).2];exact h4
      ·rw[(hev _ ⟨as,a,st0.mem,st0.mem,1⟩ [] (by rw[hd,zcq,if_pos rfl])).1];exact⟨⟨rfl,rfl,h3⟩,fun _ _ _=>rfl,nost,zno _ _ _ hnl hr⟩
    ·have hput:TR ρ' ⟨zfa T0.env d v,m⟩ ⟨put st0.env d a,sm⟩:=h5.put d h4;obtain⟨hb,h1⟩:=back h1;obtain⟨R,gw,cr,hr1,hr2,hgw,hr⟩:=next _ _ ρ' _ _ hput (hrd.next hok hb) (hgs.next hok hb) (hi.trans (Inv.put hW fun e=>absurd (hpu e).1 (by rw[hpf hp];simp))) h1
     have hRD:=ahead hb hr2;rw[mapE hRD hag]at hr;refine⟨R,gw,(n,⟨as,a,st0.mem,sm,2⟩):: cr,fun r hr=>hr1 r (rdsub r hr),hRD,gsE hgw hag,?_,?_⟩
     ·rw[(hev _ _ _ (by rw[hd,zcq,if_pos rfl])).2];exact hcl2
     ·rw[(hev _ ⟨as,a,st0.mem,sm,2⟩ [] (by rw[hd,zcq,if_pos rfl])).1];exact⟨⟨rfl,rfl,h2,h3⟩,fun hcl e he=>(by
       have h5':=no5 hkk;simp only[clD]at hcl2;have h33:cls.headD 0=3:=by omega
       obtain⟨r,hrR,rfl⟩:=List.mem_map.1 he;obtain⟨q1,_,_⟩:=hRD r hrR;obtain⟨y,hy,hya⟩:=zbe.1 q1;rw[<-hmem]at hy;refine hkeep r y hy hya fun hin=>(hr2 r hrR).2.2 ?_;rw[zjS,hcr h33];exact List.mem_append_left _ hin),nost,zno _ _ _ hnl hr⟩
   cases kk with
   |call f xs=>
    simp only[opT]at he0;cases d with
    |none=>cases he0
    |some n=>exact call rfl he0 (VRL.map h0.ar xs) (fun e=>e) (by intros;simp) (fun h3=>by simp only[h3,crT,Nat.beq];rw[hmem,List.map_congr_left fun y _=>hars y]) fun cr c stb hc=>⟨by simp only[evD,hc],by simp only[clsK,hc]<;>rfl⟩
   |callv y xs=>
    simp only[opT]at he0;cases d with
    |none=>cases he0
    |some n=>
     simp only at he0;split at he0
     ·rename_i f caps e;have hy:=h0.ar y;rw[e]at hy;simp only[VR]at hy;obtain⟨cas,e2,hc⟩:=hy;split at he0
      ·rename_i hne;exact call rfl he0 ((VRL.map h0.ar xs).fargs hc) (fun _=>rfl) (by intros;simp) (fun h3=>by simp only[h3,crT,Nat.beq];rw[<-hars y,e,hmem,List.map_congr_left fun y _=>hars y]) fun cr c stb hc=>⟨by simp only[evD,hc,e2,hne],by simp only[clsK,hc]<;>rfl⟩
      ·cases he0
     ·cases he0
   |_=>exact plain (by intros;simp) (by intros;simp) he0
  have off:∀(T0:TS)(st0:St),TR J T0 st0->T0.mem=T.mem->Inv (zhT (.mk d g kk:: l)) (zaM Φ (.mk d g kk:: l)) T T0->zjs Φ tys true D l cls.tail ⟨zfa T0.env d (.tup []),T0.mem⟩ κ =some res->
   ∃R gw cr,(∀r∈D.rd,r∈R)/\zsP D T.mem R/\(∀p∈D.gs,gw (J p.1)=p.2)/\ziY ([]:List (En P)) (R.map J) gw cr l cls.tail ⟨put st0.env d (.tup []),st0.mem⟩ (fun st'=>∃T' ρ',TR ρ' T' st'/\Inv (zhT (.mk d g kk:: l)) (zaM Φ (.mk d g kk:: l)) T T'/\κ T'=some res):=by
   intro T0 st0 h0 hmem hi he0;have:=next D ⟨zfa T0.env d (.tup []),T0.mem⟩ J ⟨put st0.env d (.tup []),st0.mem⟩ cls.tail ⟨fun n=>by
    simp only[zbj,zdf];split
    ·simp[VR,VRL]
    ·exact h0.env n,h0.box,h0.boxC,h0.inj,h0.ow,h0.pin⟩ (by rw[hmem];exact hrd) (by rw[hmem];exact hgs) (hi.trans (Inv.put hW fun _ _=>rfl)) he0
   obtain⟨R,gw,cr,q1,q2,q3,q4⟩:=this;rw[hmem]at q2;exact⟨R,gw,cr,q1,q2,q3,q4⟩
  cases g with
  |none=>
   simp only[zjs]at he;split at he
   ·rename_i hc;obtain⟨R,gw,cr,r1,r2,r3,h1,h2⟩:=on T st h rfl (fun _=>rfl) (.refl _ _ _) hc he;exact⟨R,gw,cr,r1,r2,r3,by simp only[ziY];exact⟨h1,h2⟩⟩
   ·cases he
  |some gg=>
   obtain⟨t,bb⟩:=gg;have ht0:=h.env t;simp only[zjs]at he;split at he
   ·rename_i x hx;rw[hx]at ht0;simp only[VR]at ht0;have hal:∀b,lookV T.env t=.bool b->∀y:Ar,arV ((t,.bool b):: T.env) y=arV T.env y:=by
     intro b hb y;cases y with
     |c v=>rfl
     |t n=>
      simp only[arV];have:=zbj (env:=T.env) (d:=some t) (v:=.bool b) (n:=n);simp only[zfa,Option.some.injEq]at this;rw[this];split
      ·rename_i e;subst e;exact hb.symm
      ·rfl
    cases x with
    |true=>
     cases bb with
     |true=>
      simp only[zab,cond_true]at he;split at he
      ·rename_i hc;obtain⟨R,gw,cr,r1,r2,r3,h1,h2⟩:=on ⟨(t,.bool true):: T.env,T.mem⟩ ⟨(t,.bool true):: st.env,st.mem⟩ (h.lit hx) rfl (hal true hx) (.lit hx) hc he;exact⟨R,gw,cr,r1,r2,r3,by simp only[ziY,ht0];exact⟨fun _=>⟨h1,h2⟩,fun e=>by simp at e⟩⟩
      ·cases he
     |false=>simp only[zab,cond_true]at he;obtain⟨R,gw,cr,r1,r2,r3,h1⟩:=off ⟨(t,.bool true):: T.env,T.mem⟩ ⟨(t,.bool true):: st.env,st.mem⟩ (h.lit hx) rfl (.lit hx) he;exact⟨R,gw,cr,r1,r2,r3,by simp only[ziY,ht0];exact⟨fun e=>by simp at e,fun _=>h1⟩⟩
    |false=>
     cases bb with
     |true=>simp only[zab,cond_false]at he;obtain⟨R,gw,cr,r1,r2,r3,h1⟩:=off ⟨(t,.bool false):: T.env,T.mem⟩ ⟨(t,.bool false):: st.env,st.mem⟩ (h.lit hx) rfl (.lit hx) he;exact⟨R,gw,cr,r1,r2,r3,by simp only[ziY,ht0];exact⟨fun e=>by simp at e,fun _=>h1⟩⟩
     |false=>
      simp only[zab,cond_false]at he;split at he
      ·rename_i hc;obtain⟨R,gw,cr,r1,r2,r3,h1,h2⟩:=on ⟨(t,.bool false):: T.env,T.mem⟩ ⟨(t,.bool false):: st.env,st.mem⟩ (h.lit hx) rfl (hal false hx) (.lit hx) hc he;exact⟨R,gw,cr,r1,r2,r3,by simp only[ziY,ht0];exact⟨fun _=>⟨h1,h2⟩,fun e=>by simp at e⟩⟩
      ·cases he
   ·rename_i hx;rw[hx]at ht0;simp only[VR,VRL]at ht0;obtain⟨as,h1,rfl⟩:=ht0;obtain⟨R,gw,cr,r1,r2,r3,h2⟩:=off T st h rfl (.refl _ _ _) he;exact⟨R,gw,cr,r1,r2,r3,by simp only[ziY,h1];exact h2⟩
   ·cases he
end
end Go.Fw
namespace Go.Fw
open Go
variable [Pin]
theorem zry{J:Nat->Nat}{T T':TS}{st':St}{ks:List Nat}{W:List Nat}{pu:Bool}(h:TR J T' st')(hs:zzr T ks T'=true)(hi:Inv W pu T T'){n:Nat}(hn:n∈ks)(hW:memB n W=false)(hc:(lookV T.env n).pur=true\/(lookV T.env n).isJ=true\/(pu=true/\noOw T.mem=true)):
 VR J T'.mem (lookV T.env n) (look st'.env n):=by
 have h1:=List.all_eq_true.1 hs n hn;rcases hi.env n hW hc with e|e
 ·rw[<-e];exact h.env n
 ·rw[e]at h1;simp only[V.isJ,Bool.not_true,Bool.or_false]at h1;cases hv:lookV T.env n<;>rw[hv]at h1<;>simp[V.isJ]at h1;simp[VR]
theorem zrj{ks W:List Nat}(h:zBU ks W=true){n:Nat}(hn:n∈ks):memB n W=false:=by have:=List.all_eq_true.1 h n hn;simpa using this
section
variable {J:Nat->Nat}{T T':TS}{st':St}{ks st:List Nat}{W:List Nat}{pu:Bool}{tys:List (Nat×An)}
theorem zrV{s:Sig}{d:s.D}(h:TR J T' st')(hrk:s.rk=[])(hi:Inv W pu T T')(hpu:pu=true)(hno:noOw T.mem=true)(hW:∀n∈ks,memB n W=false)(hst:zzr T ks T'=true)(hd:s.getP T'=some d):
 ∃st'',Gh st' st''/\TR J (s.mkP T (ks.map fun n=>(n,lookV T.env n)) d) st'':=by
 have hv:VRL J T'.mem (s.sl.map (lookV T'.env)) (s.sl.map (look st'.env)):=VRL.mapL _ fun n _=>h.env n;obtain⟨as',q1,q2,_⟩:=zcN _ _ d _ hd hv;have he:EnvR J T'.mem (zvr s.sl (mkVL s.shs d)++ks.map fun n=>(n,lookV T.env n)) (zxK s.sl as'++ks.map fun n=>(n,look st'.env n)):=
  (EnvR.zip s.sl q1).append (EnvR.map ks fun n hn=>zry h hst hi hn (hW n hn) (.inr (.inr ⟨hpu,hno⟩)))
 refine⟨⟨zxK s.sl as'++ks.map fun n=>(n,look st'.env n),st'.mem⟩,Gh.imp fun p hp=>?_,?_⟩
 ·rcases List.mem_append.1 hp with hp|hp
  ·exact znN (more:=[]) s.sl (by simpa using q2) p hp
  ·obtain⟨n,_,rfl⟩:=List.mem_map.1 hp;exact .refl _
 ·have hm:=hi.mem hpu hno;refine⟨fun n=>?_,?_,?_,?_,?_,hm ▸ h.pin⟩
  ·show VR J T.mem (lookV (zvr s.sl (mkVL s.shs d)++ks.map fun n=>(n,lookV T.env n)) n) _;rw[<-hm];exact he.look n
  ·intro r b cs hr;obtain⟨as,g1,g2⟩:=h.box r b cs (by rw[hm];exact hr);exact⟨as,g1,by rw[hm]at g2;exact g2⟩
  ·intro r b cs hr;exact h.boxC r b cs (by rw[hm];exact hr)
  ·intro r r' x x' hr hx hr' hx' e;exact h.inj r r' x x' (by rw[hm];exact hr) hx (by rw[hm];exact hr') hx' e
  ·obtain⟨fp,how⟩:=h.ow;rw[hm]at how;exact⟨fp,how⟩
end
end Go.Fw
namespace Go.Fw
open Go
variable [Pin]
section
variable {J:Nat->Nat}{T T':TS}{st st':St}{fp:Nat->List Nat}{ks slots:List Nat}{W:List Nat}{pu p:Bool}{tys:List (Nat×An)}
theorem ziM{s:Sig}{d:s.D}(h:TR J T' st')(hi:Inv W pu T T')(hW:∀n∈ks,memB n W=false)(hp:p=true->pu=true/\noOw T.mem=true)(hs:s=zdU p tys T slots ks)(hd:zpN p s T ks T'=some d):
 ∃st'' ρ'',Gh st' st''/\TR ρ'' (mkJ p s T slots ks d) st'':=by
 unfold zpN at hd;split at hd
 ·rename_i hst;cases p with
  |true=>obtain⟨st'',g1,g2⟩:=zrV (s:=s) h (by rw[hs];rfl) hi (hp rfl).1 (hp rfl).2 hW hst hd;exact⟨st'',J,g1,g2⟩
  |false=>
   refine ztA (s:=s) (cs:=zhS T ks) (cs':=(ks.filter fun n=>!(zgs T n)).map fun n=>(n,look st'.env n)) h hd ?_ (fun ρ' mem' hv=>?_) (fun q hq=>?_)
   ·rw[hs];simp[zdU,zuH]
   ·refine EnvR.map _ fun n hn=>?_;obtain⟨h1,h2⟩:=List.mem_filter.1 hn;simp only[zgs,Bool.not_not]at h2;exact hv _ _ (.inl h2) (zry h hst hi h1 (hW n h1) (.inl h2))
   ·obtain⟨n,_,rfl⟩:=List.mem_map.1 hq;rfl
 ·cases hd
theorem Sat.fz{H H':Hp}{F:Fr}{Z:Bt}{mem mem1:List Ent}{w:World}(hs:Sat H F Z mem w)(hl:mem1.length=mem.length)(hH:zgm H H')(hw:∀b o,H' b=some o->w.heap[b]? =some o)
 (hap:∀(i:Nat) e x,mem1[i]? =some e->e.live=true->Z[i]? =some (some x)->H x.1=none->H' x.1=none)
 (he:∀(i:Nat) e e1,mem[i]? =some e->mem1[i]? =some e1->e1=.dead\/e1=e\/∃es rows rows',e=.arr es rows/\e1=.arr es rows'/\rows'.length=rows.length/\
  ∀(j:Nat) r r',rows[j]? =some r->rows'[j]? =some r'->r'.length=r.length/\(∀c∈r',c.isCell=true)/\∀(k:Nat) c c' v,r[k]? =some c->r'[k]? =some c'->Rep H Z c v->Rep H' Z c' v):Sat H' F Z mem1 w:=by
 have old:∀(i:Nat) e1,mem1[i]? =some e1->∃e,mem[i]? =some e/\(e1.live=true->e.live=true):=by
  intro i e1 hi;have hlt:=(yga.1 hi).1;have hg:mem[i]? =some (mem[i]'(by omega)):=ygb _;refine⟨_,hg,fun hlv=>?_⟩;rcases he i _ e1 hg hi with rfl|h1|⟨es,rows,rows',h1,rfl,_⟩
  ·simp at hlv
  ·rw[<-h1];exact hlv
  ·rw[h1];rfl
 refine{hH:=hw,gh:=hs.gh.mono hH,hF:=hs.hF,sm:=hs.sm,hl:=by rw[hs.hl,hl],ent:=fun i e1 x hi hx=>?_,apart:=fun i e1 x hi hlv hx=>?_,inj:=fun i j e e' x y hi he1 hj he' hx hy hxy=>?_}
 ·obtain⟨e,hg,_⟩:=old i e1 hi;rcases he i e e1 hg hi with rfl|rfl|⟨es,rows,rows',rfl,rfl,hlr,hr⟩
  ·trivial
  ·exact(hs.ent i _ x hg hx).mono hH (.refl _) fun _ _ _ _ _=>rfl
  ·have h0:=hs.ent i _ x hg hx;cases x with
   |none=>have:rows=[]:=h0;subst this;exact List.eq_nil_of_length_eq_zero (by simpa using hlr)
   |some x=>
    obtain⟨b,es',cap⟩:=x;obtain⟨h1,cells,elem,h2,h3,h4,h5,h6,h7,h8⟩:=h0;have gr:∀(q:Nat) r',rows'[q]? =some r'->∃r,rows[q]? =some r:=fun q r' hq=>by have:=(yga.1 hq).1;exact⟨_,ygb (by omega)⟩
    refine⟨h1,cells,elem,h2,h3,by omega,fun r' hr'=>?_,fun r' hr'=>?_,fun q r' k c' hq hk=>?_,fun hne=>h8 fun e=>hne (by have h:=hlr;rw[e]at h;first|exact List.length_eq_zero_iff.1 h|exact List.length_eq_zero_iff.1 h.symm)⟩
    ·obtain⟨q,hq⟩:=List.getElem?_of_mem hr';obtain⟨r,hr0⟩:=gr q r' hq;rw[(hr q r r' hr0 hq).1];exact h5 r (ygd hr0)
    ·obtain⟨q,hq⟩:=List.getElem?_of_mem hr';obtain⟨r,hr0⟩:=gr q r' hq;exact(hr q r r' hr0 hq).2.1
    ·obtain⟨r,hr0⟩:=gr q r' hq;obtain⟨g1,g2,g3⟩:=hr q r r' hr0 hq;have hk':=(yga.1 hk).1;have hc:r[k]? =some (r[k]'(by omega)):=ygb _;obtain⟨v,hv,hrep⟩:=h7 q r k _ hr0 hc;exact⟨v,hv,g3 k _ c' v hc hk hrep⟩
 ·obtain⟨e,hg,hlv'⟩:=old i e1 hi;have:=hs.apart i e x hg (hlv' hlv) hx;exact⟨hap i e1 x hi hlv hx this.1,this.2⟩
 ·obtain⟨_,g1,g2⟩:=old i e hi;obtain⟨_,g3,g4⟩:=old j e' hj;exact hs.inj i j _ _ x y g1 (g2 he1) g3 (g4 he') hx hy hxy
def Fzi(J:Nat->Nat)(mem:List Root)(fp:Nat->List Nat)(o:List Nat)(i:Nat):Prop:=∃r x,memB r o=true/\mem[r]? =some x/\x.alive=true/\(i=J r\/i∈fp r)
def Fzb(J:Nat->Nat)(mem:List Root)(fp:Nat->List Nat)(o:List Nat)(Z:Bt)(b:Nat):Prop:=∃i es cap,Fzi J mem fp o i/\Z[i]? =some (some (b,es,cap))
open Classical in
noncomputable def Hfz(J:Nat->Nat)(mem:List Root)(fp:Nat->List Nat)(o:List Nat)(H:Hp)(Z:Bt)(w:World):Hp:=fun b=>if Fzb J mem fp o Z b then w.heap[b]? else H b
theorem zgK{mem:List Root}{fp:Nat->List Nat}{o:List Nat}{H:Hp}{F:Fr}{Z:Bt}{m:List Ent}{w:World}(hs:Sat H F Z m w):zgm H (Hfz J mem fp o H Z w):=by
 intro b x hx;unfold Hfz;split
 ·exact hs.hH b x hx
 ·exact hx
theorem zBp{mem:List Root}{fp:Nat->List Nat}{o:List Nat}{H:Hp}{F:Fr}{Z:Bt}{m:List Ent}{w:World}(hs:Sat H F Z m w):∀b x,Hfz J mem fp o H Z w b=some x->w.heap[b]? =some x:=by
 intro b x hx;unfold Hfz at hx;split at hx
 ·exact hx
 ·exact hs.hH b x hx
theorem zsU{mem:List Root}{fp:Nat->List Nat}{o:List Nat}{H:Hp}{Z:Bt}{w:World}{i:Nat}(hi:Fzi J mem fp o i):∀b es' cap,Z[i]? =some (some (b,es',cap))->∀x,w.heap[b]? =some x->Hfz J mem fp o H Z w b=some x:=by
 intro b es cap hb x hx;have:Fzb J mem fp o Z b:=⟨i,es,cap,hi,hb⟩
 unfold Hfz;rw[if_pos this];exact hx
theorem zpL(mem0:List Root)(o:List Nat):∀(l:List Root)(i j:Nat) x,l[j]? =some x->(fzR mem0 o i l)[j]? =some (match memB (i+j) o with
|true=>.dead
|false=>match x with
 |.box b cs=>fzB b cs mem0 o
 |.arr t xs (.op os j cs)=>fzA t xs os j (zpa mem0 o 60 cs)
 |r=>r)
 |[],i,j,x,h=>by simp at h
 |y:: l,i,0,x,h=>by simp at h;subst h;rfl
 |y:: l,i,j+1,x,h=>by have:=zpL mem0 o l (i+1) j x (by simpa using h);rw[show i+1+j=i+(j+1) by omega]at this;simpa[fzR]using this
theorem ztx(mem0:List Root)(o:List Nat):∀(l:List Root)(i:Nat),(fzR mem0 o i l).length=l.length
|[],i=>rfl
|y:: l,i=>by simp[fzR,ztx mem0 o l]
theorem zty(o:List Nat)(mem:List Root):Kp J J mem (fzR mem o 0 mem):=by
 refine⟨fun r t xs w h=>?_,fun r b cs h=>?_,fun r h=>?_⟩;all_goals
  have:=zpL mem o mem 0 r _ h;rw[Nat.zero_add]at this;cases hm:memB r o<;>rw[hm]at this<;>simp only at this
 ·cases w with
  |no=>exact .inr ⟨rfl,xs,_,this,rfl⟩
  |cl os=>exact .inr ⟨rfl,xs,_,this,rfl⟩
  |op os j cs=>
   simp only[fzA]at this;cases hc:(zpa mem o 60 cs).all V.isC<;>rw[hc]at this<;>simp only at this
   ·exact .inl this
   ·exact .inr ⟨rfl,xs,_,this,rfl⟩
 ·exact .inl this
 ·unfold fzB at this;split at this
  ·exact .inr ⟨rfl,b,_,this⟩
  ·cases hc:(zpa mem o 60 cs).all V.isC<;>rw[hc]at this<;>simp only at this
   ·exact .inl this
   ·exact .inr ⟨rfl,b,_,this⟩
 ·exact .inl this
 ·exact this
 ·exact this
theorem zBS{H:Hp}{F:Fr}{Z:Bt}{o:List Nat}{w:World}{r:Nat}{y:Root}{n off:Nat}{row row':List AV}{x:Value}(hs:Sat H F Z st.mem w)(hm:memB r o=true)(hy:T.mem[r]? =some y)(ha:y.alive=true)
 (hi:st.mem[J r]? =some (.arr n [row]))(hn:row.length=n)(hl:row'.length=row.length)(hp:AV.pureL row'=true)(hc:∀c∈row',c.isCell=true)
 (hrr:∀(k:Nat) c c' v,row[k]? =some c->row'[k]? =some c'->Rep H Z c v->Rep (Hfz J T.mem fp o H Z w) Z c' v)(hr:Rep H Z (.mp (J r) 0 off) x):Rep (Hfz J T.mem fp o H Z w) [] (.ip (row'.drop off)) x:=by
 cases hr with
 | @mp _ _ _ _ b es cap hβ=>
  obtain⟨rfl,cells,elem,g2,g3,g4,g5,g6,g7,_⟩:=hs.ent _ _ _ hi hβ;have hfz:Fzb J T.mem fp o Z b:=⟨_,_,cap,⟨r,y,hm,hy,ha,.inl rfl⟩,hβ⟩
  have cell:∀(j:Nat)(c':AV),row'[j]? =some c'->∃v,cells[j]? =some v/\Rep (Hfz J T.mem fp o H Z w) [] c' v:=by intro j c' hj;have hjl:=(yga.1 hj).1;have hcj:row[j]? =some (row[j]'(by omega)):=ygb _;obtain⟨v,hv,hrep⟩:=g7 0 row j _ rfl hcj;exact⟨v,by simpa using hv,(hrr j _ c' v hcj hj hrep).pure ((AV.pureL_iff _).1 hp c' (ygd hj)) []⟩
  refine .ip (elem:=elem) (fz:=(0,0)) (cells:=cells) (fun j=>cells.getD (off+j) undef) (by simpa[Hfz,hfz]using g2) (fun j hj=>?_) (fun c hc'=>hc c (List.mem_of_mem_drop hc')) fun j c hj=>?_
  ·simp only[List.length_drop]at hj;obtain⟨v,hv,_⟩:=cell (off+j) _ (ygb (by omega));rw[Nat.zero_mul,Nat.zero_add];simp[hv]
  ·rw[List.getElem?_drop]at hj;obtain⟨v,hv,hrep⟩:=cell _ _ hj;have:cells.getD (off+j) undef=v:=by simp[hv]
   rw[this];exact hrep
def FI(J:Nat->Nat)(T:TS)(fp:Nat->List Nat)(st:St)(o:List Nat)(a a':AV):Prop:=
 (a.isCell=true->a'.isCell=true)/\∀H F Z w,Sat H F Z st.mem w->∀β0,(β0=Z\/β0=[])->∀x,Rep H β0 a x->Rep (Hfz J T.mem fp o H Z w) β0 a' x
theorem FI.refl{o:List Nat}(a:AV):FI J T fp st o a a:=⟨id,fun _ _ _ _ hs _ _ _ hr=>hr.mono (zgK hs) (.refl _)⟩
inductive FIL (J:Nat->Nat)(T:TS)(fp:Nat->List Nat)(st:St)(o:List Nat):List AV->List AV->Prop
|nil:FIL J T fp st o [] []
|cons {a a' as as'}(h:FI J T fp st o a a')(hs:FIL J T fp st o as as'):FIL J T fp st o (a:: as) (a':: as')
theorem FIL.len{o:List Nat}{as as':List AV}(h:FIL J T fp st o as as'):as'.length=as.length:=by
 induction h with
 |nil=>rfl
 |cons _ _ ih=>simp[ih]
theorem FIL.get{o:List Nat}{as as':List AV}(h:FIL J T fp st o as as'):∀(i:Nat) a',as'[i]? =some a'->∃a,as[i]? =some a/\FI J T fp st o a a':=by
 induction h with
 |nil=>intro i a' h;simp at h
 |cons h _ ih=>
  intro i a' hi;cases i with
  |zero=>simp at hi;subst hi;exact⟨_,rfl,h⟩
  |succ i=>simpa using ih i a' (by simpa using hi)
theorem FIL.cells{o:List Nat}{as as':List AV}(h:FIL J T fp st o as as')(hc:∀c∈as,c.isCell=true):∀c∈as',c.isCell=true:=by intro c hc';obtain⟨i,hi⟩:=List.getElem?_of_mem hc';obtain⟨a,g1,g2⟩:=h.get i c hi;exact g2.1 (hc a (ygd g1))
theorem zxs{H:Hp}{i es off len:Nat}{x:Value}(h:Rep H [] (.ms i es off len) x):False:=by
 cases h with
 |ms hb'=>simp at hb'
 |ms0 hb'=>simp at hb'
theorem zA9(Z:Bt):zcY [] Z:=fun i x h=>by simp at h
theorem zxj{o:List Nat}{f:V->V}{mem1:List Root}(hf:∀v a,VR J T.mem v a->∃a',VR J mem1 (f v) a'/\FI J T fp st o a a'):∀(cs:List V)(as:List AV),VRL J T.mem cs as->∃as',VRL J mem1 (cs.map f) as'/\FIL J T fp st o as as'
|[],as,h=>by simp only[VRL]at h;subst h;exact⟨[],rfl,.nil⟩
|c:: cs,as,h=>by simp only[VRL]at h;obtain⟨a,as1,rfl,h1,h2⟩:=h;obtain⟨a',g1,g2⟩:=hf c a h1;obtain⟨as',g3,g4⟩:=zxj hf cs as1 h2;exact⟨a':: as',⟨_,_,rfl,g1,g3⟩,.cons g2 g4⟩
theorem zxk{o:List Nat}(h:TR J T st)(how:OwA J T.mem st.mem fp):∀(n:Nat)(v:V)(a:AV),VR J T.mem v a->∃a',VR J (fzR T.mem o 0 T.mem) (fzV T.mem o n v) a'/\FI J T fp st o a a'
|0,v,a,_=>⟨a,by simp[fzV,VR],.refl a⟩
|n+1,v,a,hv=>by
 have hkp:=zty (J:=J) o T.mem;have keep:VR J (fzR T.mem o 0 T.mem) v a:=VR.mono hkp v a hv;have ih:=zxk (o:=o) h how n;cases v with
 |junk|int _ _|bool _|str _|lst _ _|nl _|e0|st _ _|ep _ _|nilp|nilf=>exact⟨a,keep,.refl a⟩
 |agg cs=>
  simp only[VR]at hv;obtain⟨as,rfl,hv⟩:=hv;obtain⟨as',g1,g2⟩:=zxj ih cs as hv;refine⟨.agg as',by simp only[fzV,VR];exact⟨_,rfl,g1⟩,by simp,fun H F Z w hs β0 h0 x hr=>?_⟩;cases hr with
  |agg hl hc hr=>refine .agg (by rw[hl,g2.len]) (g2.cells hc) fun i c v hi hv=>?_;obtain⟨c0,e1,e2⟩:=g2.get i c hi;exact e2.2 H F Z w hs β0 h0 _ (hr i c0 v e1 hv)
 |tup cs=>
  simp only[VR]at hv;obtain⟨as,rfl,hv⟩:=hv;obtain⟨as',g1,g2⟩:=zxj ih cs as hv;refine⟨.tup as',by simp only[fzV,VR];exact⟨_,rfl,g1⟩,by simp,fun H F Z w hs β0 h0 x hr=>?_⟩;cases hr with
  |tup hl hr=>refine .tup (by rw[hl,g2.len]) fun i c v hi hv=>?_;obtain⟨c0,e1,e2⟩:=g2.get i c hi;exact e2.2 H F Z w hs β0 h0 _ (hr i c0 v e1 hv)
 |ip cs=>
  simp only[VR]at hv;obtain⟨as,rfl,hv⟩:=hv;obtain⟨as',g1,g2⟩:=zxj ih cs as hv;refine⟨.ip as',by simp only[fzV,VR];exact⟨_,rfl,g1⟩,by simp,fun H F Z w hs β0 h0 x hr=>?_⟩;cases hr with
  |ip f hH hc hcell hr=>refine .ip f (zgK hs _ _ hH) (fun j hj=>hc j (by rw[<-g2.len];exact hj)) (g2.cells hcell) fun j c hj=>?_;obtain⟨c0,e1,e2⟩:=g2.get j c hj;exact e2.2 H F Z w hs [] (.inr rfl) _ (hr j c0 e1)
 |fn fn cs=>
  simp only[VR]at hv;obtain⟨as,rfl,hv⟩:=hv;obtain⟨as',g1,g2⟩:=zxj ih cs as hv;refine⟨.fn fn as',by simp only[fzV,VR];exact⟨_,rfl,g1⟩,by simp,fun H F Z w hs β0 h0 x hr=>?_⟩;cases hr with
  |fn hf hl hr=>refine .fn hf (by rw[hl,g2.len]) fun i c v hi hv=>?_;obtain⟨c0,e1,e2⟩:=g2.get i c hi;exact e2.2 H F Z w hs β0 h0 _ (hr i c0 v e1 hv)
  |er h1 h2 h3 hr=>refine .er h1 h2 (by rw[g2.len];exact h3) fun i c hi=>?_;obtain⟨c0,e1,e2⟩:=g2.get i c hi;exact e2.2 H F Z w hs β0 h0 _ (hr i c0 e1)
 |own r=>
  simp only[fzV];split
  ·rename_i t xs w0 hm hr;split
   ·rename_i hw;simp only[VR,zep,hr]at hv;subst hv;refine⟨.sl t.sz (xs.map (zap t)),by simp[VR],by simp,fun H F Z w hs β0 h0 x hx=>?_⟩;rcases h0 with rfl|rfl
    ·have:=(how.rel r t xs w0 hr).gen hs (zgK (J:=J) (mem:=T.mem) (fp:=fp) (o:=o) hs) hw (fun j hj=>zsU ⟨r,_,hm,hr,rfl,by simpa using hj⟩) hx (by simp);rw[List.drop_zero,List.take_of_length_le (by simp)]at this;exact this.mono (.refl _) (zA9 _)
    ·exact(zxs hx).elim
   ·exact⟨a,by simp[VR],.refl a⟩
  ·exact⟨a,keep,.refl a⟩
 |part r off len=>
  simp only[fzV];split
  ·rename_i t xs w0 hm hr;split
   ·rename_i hw;simp only[VR,zgr,hr]at hv;obtain⟨rfl,hl⟩:=hv;refine⟨.sl t.sz (((xs.drop off).take len).map (zap t)),by simp[VR],by simp,fun H F Z w hs β0 h0 x hx=>?_⟩;rcases h0 with rfl|rfl
    ·exact((how.rel r t xs w0 hr).gen hs (zgK (J:=J) (mem:=T.mem) (fp:=fp) (o:=o) hs) hw (fun j hj=>zsU ⟨r,_,hm,hr,rfl,by simpa using hj⟩) hx hl).mono (.refl _) (zA9 _)
    ·exact(zxs hx).elim
   ·exact⟨a,by simp[VR],.refl a⟩
  ·exact⟨a,keep,.refl a⟩
 |mp r row off=>
  simp only[fzV];split
  ·rename_i b cs hm hr;simp only[VR,mpR,hr]at hv;obtain⟨rfl,rfl⟩:=hv;obtain⟨as,b1,b2⟩:=h.box r b cs hr;have b3:=h.boxC r b cs hr;obtain⟨as',g1,g2⟩:=zxj ih cs as b2;have hcell:∀c∈as',c.isCell=true:=g2.cells (fun c hc=>List.all_eq_true.1 (b2.cells b3) c hc);have main:(!b.mpB&&V.purL (cs.map fun c=>fzV T.mem o n c))=true->FI J T fp st o (.mp (J r) 0 off) (.ip (as'.drop off)):=fun hp=>by
    rw[yhb,yho]at hp;obtain⟨hb,hp⟩:=hp;rw[zbQ hb]at b1;refine⟨by simp,fun H F Z w hs β0 h0 x hx=>?_⟩;rcases h0 with rfl|rfl
    ·refine(zBS (T:=T) (row:=as) (row':=as') hs hm hr rfl b1 b2.len g2.len (g1.pur hp) hcell (fun k c c' v hc hc' hcv=>?_) hx).mono (.refl _) (zA9 _);obtain⟨c0,e1,e2⟩:=g2.get k c' hc';rw[hc]at e1;cases e1;exact e2.2 H F _ w hs _ (.inl rfl) v hcv
    ·cases hx with
     |mp hb'=>simp at hb'
   split
   ·exact⟨.mp (J r) 0 off,by simp[VR],.refl _⟩
   ·rename_i hp;split
    ·rename_i nm hnm h0;have h0:=Nat.eq_of_beq_eq_true h0;subst h0;split
     ·rename_i y hy;have e:=zik g1 hy;subst e;exact⟨.ip (zdI nm y),by simp[VR],main hp⟩
     ·exact⟨.ip as',by simp only[VR];exact⟨_,rfl,g1⟩,main hp⟩
    ·exact⟨.ip (as'.drop off),by simp only[VR];exact⟨_,rfl,g1.drop off⟩,main hp⟩
  ·exact⟨a,by simp[VR],.refl a⟩
  ·exact⟨a,keep,.refl a⟩
theorem zAA{α Z:Type}:∀(l:List α)(P:Nat->α->Z->Prop),(∀(i:Nat) a,l[i]? =some a->∃b,P i a b)->∃l':List Z,l'.length=l.length/\∀(i:Nat) a b,l[i]? =some a->l'[i]? =some b->P i a b
|[],P,_=>⟨[],rfl,fun i a b h _=>by simp at h⟩
|a:: l,P,h=>by
 obtain⟨b,hb⟩:=h 0 a rfl;obtain⟨l',h1,h2⟩:=zAA l (fun i=>P (i+1)) fun i a' hi=>h (i+1) a' (by simpa using hi);refine⟨b:: l',by simp[h1],fun i a' b' ha hb'=>?_⟩;cases i with
 |zero=>simp at ha hb';subst ha hb';exact hb
 |succ i=>exact h2 i a' b' (by simpa using ha) (by simpa using hb')
theorem zkR(f:V->V)(hf:f .junk=.junk):∀(env:List (Nat×V))(n:Nat),lookV (env.map fun p=>(p.1,f p.2)) n=f (lookV env n)
|[],n=>by simp[lookV,hf]
| (m,v):: env,n=>by
 simp only[List.map_cons,lookV];cases Nat.beq m n with
 |true=>rfl
 |false=>exact zkR f hf env n
theorem zAz{P:Nat->AV->Prop}:∀(ks:List Nat),(∀n,∃a,P n a)->∃env:List (Nat×AV),(∀n,P n (look env n)\/look env n=.junk)/\∀n∈ks,P n (look env n)
|[],h=>⟨[],fun n=>.inr rfl,fun n hn=>by simp at hn⟩
|k:: ks,h=>by
 obtain⟨env,h1,h2⟩:=zAz ks h;obtain⟨a,ha⟩:=h k;refine⟨(k,a):: env,fun n=>?_,fun n hn=>?_⟩
 ·simp only[look];split
  ·rename_i e;subst e;exact .inl ha
  ·exact h1 n
 ·simp only[look];split
  ·rename_i e;subst e;exact ha
  ·rename_i e;rcases List.mem_cons.1 hn with rfl|hn
   ·exact absurd rfl e
   ·exact h2 n hn
theorem zkS:∀(env:List (Nat×V))(n:Nat),lookV env n=.junk\/n∈env.map Prod.fst
|[],n=>.inl rfl
| (m,v):: env,n=>by
 simp only[lookV];cases e:Nat.beq m n with
 |true=>exact .inr (by simp[Nat.eq_of_beq_eq_true e])
 |false=>exact(zkS env n).imp id fun h=>by simp[h]
theorem zkE(o:List Nat)(h:TR J T st):∃st1,Gh st st1/\TR J (fzO o T) st1:=by
 obtain⟨fp,how⟩:=h.ow;have rep:=fun v a hv=>zxk (o:=o) h how 60 v a hv;have repw:∀(v:V)(a:AV),VR J T.mem v a->∃a',VR J (fzR T.mem o 0 T.mem) (fzW T.mem o v) a'/\FI J T fp st o a a':=fun v a hv=>by
  unfold fzW;split
  ·exact⟨a,VR.mono (zty o T.mem) v a hv,.refl a⟩
  ·exact rep v a hv
 obtain⟨env1,e1,e2⟩:=zAz (P:=fun n a=>VR J (fzR T.mem o 0 T.mem) (fzW T.mem o (lookV T.env n)) a/\FI J T fp st o (look st.env n) a) (T.env.map Prod.fst) fun n=>repw _ _ (h.env n);have one:∀(r r':Nat) x x',T.mem[r]? =some x->x.alive=true->T.mem[r']? =some x'->x'.alive=true->∀i,(i=J r\/i∈fp r)->(i=J r'\/i∈fp r')->r=r':=by
  intro r r' x x' hx ha hx' ha' i hi hi';refine Classical.byContradiction fun hne=>?_;rcases hi with rfl|hi<;>rcases hi' with h1|h1
  ·exact hne (h.inj r r' x x' hx ha hx' ha' h1)
  ·exact how.rt r r' x hx ha h1
  ·subst h1;exact how.rt r' r x' hx' ha' hi
  ·exact how.dj r r' hne i hi h1
 obtain⟨mem1,m1,m2⟩:=zAA (Z:=Ent) st.mem (fun i e e1=>
  (Fzi J T.mem fp o i->e1=.dead)/\
  (∀(r:Nat) t xs w,T.mem[r]? =some (.arr t xs w)->w.shut=true->i=J r->memB r o=false->e1=e)/\
  (∀(r:Nat) x,T.mem[r]? =some x->x.alive=true->i∈fp r->memB r o=false->e1=e)/\
  (∀(r:Nat) t xs os j cs,T.mem[r]? =some (.arr t xs (.op os j cs))->i=J r->memB r o=false->∃rows row',e=.arr t.sz rows/\e1=.arr t.sz (rows.set j row')/\VRL J (fzR T.mem o 0 T.mem) (zpa T.mem o 60 cs) row')/\
  (∀(r:Nat) b cs,T.mem[r]? =some (.box b cs)->i=J r->memB r o=false->∃as,e1=boxE b cs.length as/\(b.mpB=false->VRL J (fzR T.mem o 0 T.mem) (zpa T.mem o 60 cs) as)/\(b.mpB=true->VRL J (fzR T.mem o 0 T.mem) cs as))/\
  (Fzi J T.mem fp o i\/e1=e\/∃es rows j row row',e=.arr es rows/\rows[j]? =some row/\e1=.arr es (rows.set j row')/\(∀c∈row',c.isCell=true)/\FIL J T fp st o row row')) fun i e hi=>by
  by_cases hf:Fzi J T.mem fp o i
  ·obtain⟨r,x,hm,hx,ha,hir⟩:=hf;have no:∀(r':Nat) x',T.mem[r']? =some x'->x'.alive=true->(i=J r'\/i∈fp r')->memB r' o=false->False:=fun r' x' hx' ha' hi' hm'=>by have:=one r r' x x' hx ha hx' ha' i hir hi';subst this;rw[hm]at hm';cases hm'
   exact⟨.dead,fun _=>rfl,fun r' t xs w h1 _ h2 h3=>(no r' _ h1 rfl (.inl h2) h3).elim,fun r' x' h1 h2 h3 h4=>(no r' _ h1 h2 (.inr h3) h4).elim,fun r' t xs os j cs h1 h2 h3=>(no r' _ h1 rfl (.inl h2) h3).elim,fun r' b cs h1 h2 h3=>(no r' _ h1 rfl (.inl h2) h3).elim,.inl ⟨r,x,hm,hx,ha,hir⟩⟩
  ·by_cases hx:∃(r:Nat)(x:Root),T.mem[r]? =some x/\x.alive=true/\i=J r
   ·obtain⟨r,x,x1,x2,rfl⟩:=hx;have uniq:∀(r':Nat)(x':Root),T.mem[r']? =some x'->x'.alive=true->J r=J r'->r'=r:=fun r' x' h1 h2 h3=>h.inj r' r x' x h1 h2 x1 x2 h3.symm;have nof:∀(r':Nat),J r∉fp r':=fun r'=>how.rt r r' x x1 x2;have arrNo:∀(w:Ow),w.shut=true->(∃t xs,x=.arr t xs w)->∃b,(Fzi J T.mem fp o (J r)->b=.dead)/\
     (∀(r':Nat) t xs w,T.mem[r']? =some (.arr t xs w)->w.shut=true->J r=J r'->memB r' o=false->b=e)/\
     (∀(r':Nat) x,T.mem[r']? =some x->x.alive=true->J r∈fp r'->memB r' o=false->b=e)/\
     (∀(r':Nat) t xs os j cs,T.mem[r']? =some (.arr t xs (.op os j cs))->J r=J r'->memB r' o=false->∃rows row',e=.arr t.sz rows/\b=.arr t.sz (rows.set j row')/\VRL J (fzR T.mem o 0 T.mem) (zpa T.mem o 60 cs) row')/\
     (∀(r':Nat) b' cs,T.mem[r']? =some (.box b' cs)->J r=J r'->memB r' o=false->∃as,b=boxE b' cs.length as/\(b'.mpB=false->VRL J (fzR T.mem o 0 T.mem) (zpa T.mem o 60 cs) as)/\(b'.mpB=true->VRL J (fzR T.mem o 0 T.mem) cs as))/\
     (Fzi J T.mem fp o (J r)\/b=e\/∃es rows j row row',e=.arr es rows/\rows[j]? =some row/\b=.arr es (rows.set j row')/\(∀c∈row',c.isCell=true)/\FIL J T fp st o row row'):=by
     rintro w hw ⟨t,xs,rfl⟩;refine⟨e,fun hf'=>(hf hf').elim,fun _ _ _ _ _ _ _ _=>rfl,fun _ _ _ _ _ _=>rfl,fun r' t' xs' os j cs h1 h2 _=>?_,fun r' b cs h1 h2 _=>?_,.inr (.inl rfl)⟩
     ·have:=uniq r' _ h1 rfl h2;subst this;rw[x1]at h1;cases h1;cases hw
     ·have:=uniq r' _ h1 rfl h2;subst this;rw[x1]at h1;cases h1
    cases x with
    |dead=>cases x2
    |arr t xs w=>
     cases w with
     |no=>exact arrNo .no rfl ⟨t,xs,rfl⟩
     |cl os=>exact arrNo (.cl os) rfl ⟨t,xs,rfl⟩
     |op os j cs=>
      obtain⟨rows,row,b0,b1,b2,b3,b4⟩:=h.opened x1;obtain⟨as',g1,g2⟩:=zxj (fun v a hv=>rep v a hv) cs row b2;rw[hi]at b0;cases b0;refine⟨.arr t.sz (rows.set j as'),fun hf'=>(hf hf').elim,fun r' t' xs' w' h1 h2 h3 _=>?_,fun r' x' _ _ h3 _=>(nof r' h3).elim,fun r' t' xs' os' j' cs' h1 h2 _=>?_,fun r' b cs h1 h2 _=>?_,.inr (.inr ⟨_,rows,j,row,as',rfl,b1,rfl,?_,g2⟩)⟩
      ·have:=uniq r' _ h1 rfl h3;subst this;rw[x1]at h1;cases h1;cases h2
      ·have:=uniq r' _ h1 rfl h2;subst this;rw[x1]at h1;cases h1;exact⟨rows,as',rfl,rfl,g1⟩
      ·have:=uniq r' _ h1 rfl h2;subst this;rw[x1]at h1;cases h1
      ·exact g2.cells fun c hc=>List.all_eq_true.1 (b2.cells b4) c hc
    |box b cs=>
     obtain⟨as,b1,b2⟩:=h.box r b cs x1;have b3:=h.boxC r b cs x1;cases hb:b.mpB with
     |false=>
      rw[zbQ hb]at b1;obtain⟨as',g1,g2⟩:=zxj (fun v a hv=>rep v a hv) cs as b2;rw[hi]at b1;cases b1;refine⟨.arr cs.length [as'],fun hf'=>(hf hf').elim,fun r' t' xs' w' h1 h2 h3 _=>?_,fun r' x' _ _ h3 _=>(nof r' h3).elim,fun r' t' xs' os' j' cs' h1 h2 _=>?_,fun r' b' cs' h1 h2 _=>?_,.inr (.inr ⟨_,[as],0,as,as',rfl,rfl,rfl,?_,g2⟩)⟩
      ·have:=uniq r' _ h1 rfl h3;subst this;rw[x1]at h1;cases h1
      ·have:=uniq r' _ h1 rfl h2;subst this;rw[x1]at h1;cases h1
      ·have:=uniq r' _ h1 rfl h2;subst this;rw[x1]at h1;cases h1;exact⟨as',by rw[zbQ hb],fun _=>g1,fun h=>(by rw[hb]at h;cases h)⟩
      ·exact g2.cells fun c hc=>List.all_eq_true.1 (b2.cells b3) c hc
     |true=>
      rw[hi]at b1;cases b1;refine⟨boxE b cs.length as,fun hf'=>(hf hf').elim,fun _ _ _ _ _ _ _ _=>rfl,fun _ _ _ _ _ _=>rfl,fun r' t' xs' os' j' cs' h1 h2 _=>?_,fun r' b' cs' h1 h2 _=>?_,.inr (.inl rfl)⟩
      ·have:=uniq r' _ h1 rfl h2;subst this;rw[x1]at h1;cases h1
      ·have:=uniq r' _ h1 rfl h2;subst this;rw[x1]at h1;cases h1;exact⟨as,rfl,fun h=>(by rw[hb]at h;cases h),fun _=>b2.mono (zty o T.mem)⟩
   ·exact⟨e,fun hf'=>(hf hf').elim,fun r' t' xs' w' h1 _ h3 _=>(hx ⟨_,_,h1,rfl,h3⟩).elim,fun _ _ _ _ _ _=>rfl,fun r' t' xs' os' j' cs' h1 h2 _=>(hx ⟨_,_,h1,rfl,h2⟩).elim,fun r' b' cs' h1 h2 _=>(hx ⟨_,_,h1,rfl,h2⟩).elim,.inr (.inl rfl)⟩
 have got:∀(i:Nat) e,st.mem[i]? =some e->∃e1,mem1[i]? =some e1:=fun i e hi=>by have:=(yga.1 hi).1;exact⟨_,ygb (by omega)⟩
 have back:∀(r:Nat) y,(fzO o T).mem[r]? =some y->∃x,T.mem[r]? =some x/\y=(match memB r o with
  |true=>.dead
  |false=>match x with
   |.box b cs=>fzB b cs T.mem o
   |.arr t xs (.op os j cs)=>fzA t xs os j (zpa T.mem o 60 cs)
   |r=>r):=fun r y hy=>by
  have hlt:=(yga.1 hy).1;have hlt':r<T.mem.length:=by simpa[fzO,ztx]using hlt
  have h1:T.mem[r]? =some T.mem[r]:=ygb _;have:=zpL T.mem o T.mem 0 r _ h1;rw[Nat.zero_add]at this;refine⟨_,h1,?_⟩;rw[show(fzO o T).mem=fzR T.mem o 0 T.mem from rfl,this]at hy;exact(Option.some.inj hy).symm
 have bArr:∀(r:Nat) t xs w,(fzO o T).mem[r]? =some (.arr t xs w)->memB r o=false/\((T.mem[r]? =some (.arr t xs w)/\w.shut=true)\/∃os j cs,T.mem[r]? =some (.arr t xs (.op os j cs))/\w=.op os j (zpa T.mem o 60 cs)/\(zpa T.mem o 60 cs).all V.isC=true):=by
  intro r t xs w hr;obtain⟨x,hx,e⟩:=back r _ hr;cases hm:memB r o<;>rw[hm]at e<;>simp only at e
  ·refine⟨rfl,?_⟩;cases x with
   |dead=>cases e
   |box b cs=>simp only[fzB]at e;(repeat' split at e)<;>cases e
   |arr t' xs' w'=>
    cases w' with
    |no=>cases e;exact .inl ⟨hx,rfl⟩
    |cl os=>cases e;exact .inl ⟨hx,rfl⟩
    |op os j cs=>
     simp only[fzA]at e;split at e
     ·rename_i hc;cases e;exact .inr ⟨os,j,cs,hx,rfl,hc⟩
     ·cases e
  ·cases e
 have bBox:∀(r:Nat) b cs,(fzO o T).mem[r]? =some (.box b cs)->memB r o=false/\∃cs',T.mem[r]? =some (.box b cs')/\cs.all V.isC=true/\(b.mpB=false/\cs=zpa T.mem o 60 cs'\/b.mpB=true/\cs=cs'):=by
  intro r b cs hr;obtain⟨x,hx,e⟩:=back r _ hr;cases hm:memB r o<;>rw[hm]at e<;>simp only at e
  ·refine⟨rfl,?_⟩;cases x with
   |dead=>cases e
   |box b' cs'=>
    simp only[fzB]at e;split at e
    ·rename_i hb;cases e;exact⟨cs,hx,h.boxC r _ _ hx,.inr ⟨hb,rfl⟩⟩
    ·rename_i hb;split at e
     ·rename_i hc;cases e;exact⟨cs',hx,hc,.inl ⟨hb,rfl⟩⟩
     ·cases e
   |arr t' xs' w'=>
    cases w' with
    |no=>cases e
    |cl os=>cases e
    |op os j cs=>simp only[fzA]at e;split at e<;>cases e
  ·cases e
 have al:∀(r:Nat) y,(fzO o T).mem[r]? =some y->y.alive=true->∃x,T.mem[r]? =some x/\x.alive=true/\memB r o=false:=fun r y hy hal=>by
  cases y with
  |dead=>cases hal
  |arr t xs w=>
   obtain⟨hm,h1|⟨os,j,cs,h1,_⟩⟩:=bArr r t xs w hy
   ·exact⟨_,h1.1,rfl,hm⟩
   ·exact⟨_,h1,rfl,hm⟩
  |box b cs=>obtain⟨hm,cs',h1,_⟩:=bBox r b cs hy;exact⟨_,h1,rfl,hm⟩
 have lives:∀i,Fzi J T.mem fp o i->∃e,st.mem[i]? =some e/\e.live=true:=by
  rintro i ⟨r,y,f1,f2,f3,f4⟩;rcases f4 with rfl|f4
  ·cases y with
   |dead=>cases f3
   |arr t xs w=>obtain⟨rows,g,_⟩:=h.alt r t xs w f2;exact⟨_,g,rfl⟩
   |box b cs=>obtain⟨as,b1,_⟩:=h.box r b cs f2;exact⟨_,b1,znX _ _ _⟩
  ·obtain⟨es,rows,g⟩:=how.live r i f4;exact⟨_,g,rfl⟩
 refine⟨⟨env1,mem1⟩,⟨Nat.le_of_eq m1.symm,fun C its hh=>AW.ghost (st':=⟨env1,mem1⟩) (Nat.le_of_eq m1.symm) (fun H F Z w hs=>⟨Hfz J T.mem fp o H Z w,Z,⟨zgK hs,fun b x hx=>?_⟩,.refl _,?_,fun n x hx=>?_⟩) hh⟩,⟨fun n=>?_,fun r b cs hr=>?_,fun r b cs hr=>?_,fun r r' x x' h1 h2 h3 h4 h5=>?_,?_,h.pin.mono (zty o T.mem)⟩⟩
 ·unfold Hfz at hx;split at hx
  ·rename_i hf;obtain⟨i,es,cap,f1,f2⟩:=hf;obtain⟨e',hm,hml⟩:=lives i f1;exact .inr (hs.apart _ _ _ hm hml f2).2
  ·exact .inl hx
 ·refine hs.fz m1 (zgK hs) (zBp hs) (fun i e1 x hi hlv hx hn=>?_) (fun i e e1 hi hi1=>?_)
  ·unfold Hfz;split
   ·rename_i hf;obtain⟨k,es,cap,f1,f2⟩:=hf;obtain⟨e',hm,hml⟩:=lives k f1;have hlt:i<mem1.length:=(yga.1 hi).1;have hi0:st.mem[i]? =some (st.mem[i]'(by omega)):=ygb _;obtain⟨p1,_,_,_,_,p4⟩:=m2 i _ e1 hi0 hi;have hlv0:(st.mem[i]'(by omega)).live=true:=by
     rcases p4 with p4|rfl|⟨es,rows,j,row,row',q1,_,rfl,_⟩
     ·rw[p1 p4]at hlv;simp at hlv
     ·exact hlv
     ·rw[q1];rfl
    have:=hs.inj i k _ _ x _ hi0 hlv0 hm hml hx f2 rfl;subst this;rw[p1 f1]at hlv;simp at hlv
   ·exact hn
  ·obtain⟨p1,_,_,_,_,p4⟩:=m2 i e e1 hi hi1;rcases p4 with p4|rfl|⟨es,rows,j,row,row',rfl,q0,rfl,q1,q2⟩
   ·exact .inl (p1 p4)
   ·exact .inr (.inl rfl)
   ·refine .inr (.inr ⟨es,rows,rows.set j row',rfl,rfl,by simp,fun k r r' hk hk'=>?_⟩);rw[List.getElem?_set]at hk';split at hk'
    ·rename_i e;subst e;rw[q0]at hk;cases hk;split at hk'
     ·cases hk';refine⟨q2.len,q1,fun k c c' v hk hk' hr=>?_⟩;obtain⟨c0,g1,g2⟩:=q2.get k c' hk';rw[hk]at g1;cases g1;exact g2.2 H F Z w hs Z (.inl rfl) v hr
     ·cases hk'
    ·rw[hk]at hk';cases hk';have hx:∃x,Z[i]? =some x:=⟨_,ygb (by rw[hs.hl];exact(yga.1 hi).1)⟩
     obtain⟨x,hx⟩:=hx;have h0:=hs.ent i _ x hi hx;have hcell:∀c∈r,c.isCell=true:=by
      cases x with
      |none=>have:rows=[]:=h0;subst this;simp at hk
      |some x=>obtain⟨b,es',cap⟩:=x;obtain⟨_,_,_,_,_,_,_,h6,_⟩:=h0;exact h6 r (ygd hk)
     refine⟨rfl,hcell,fun k c c' v h1 h2 h3=>?_⟩;rw[h1]at h2;cases h2;exact h3.mono (zgK hs) (.refl _)
 ·show Rep _ _ (look env1 n) x;rcases zkS T.env n with e|e
  ·rcases e1 n with e'|e'
   ·exact e'.2.2 H F Z w hs Z (.inl rfl) x hx
   ·rw[e'];exact .junk
  ·exact(e2 n e).2.2 H F Z w hs Z (.inl rfl) x hx
 ·show VR J (fzR T.mem o 0 T.mem) (lookV (T.env.map fun p=>(p.1,fzW T.mem o p.2)) n) (look env1 n);rw[zkR (fzW T.mem o) (by simp[fzW,V.pur,fzV])];rcases zkS T.env n with e|e
  ·rw[e];simp[fzW,V.pur,fzV,VR]
  ·exact(e2 n e).1
 ·obtain⟨hm,cs',hx,hc,hcs⟩:=bBox r b cs hr;obtain⟨as,g,_⟩:=h.box r b cs' hx;obtain⟨e1,he1⟩:=got _ _ g;obtain⟨as',q1,q2,q3⟩:=(m2 _ _ _ g he1).2.2.2.2.1 r b cs' hx rfl hm;subst q1;rcases hcs with⟨hb,rfl⟩|⟨hb,rfl⟩
  ·exact⟨as',by simpa[zpa]using he1,q2 hb⟩
  ·exact⟨as',he1,q3 hb⟩
 ·exact(bBox r b cs hr).2.choose_spec.2.1
 ·obtain⟨_,a1,a2,_⟩:=al r x h1 h2;obtain⟨_,a3,a4,_⟩:=al r' x' h3 h4;exact h.inj r r' _ _ a1 a2 a3 a4 h5
 ·let fp':Nat->List Nat:=fun r=>match(fzO o T).mem[r]? with
  |some (.arr _ _ _)=>fp r
  |_=>[]
  have fpc:∀r,fp' r=[]\/(fp' r=fp r/\∃t xs w,(fzO o T).mem[r]? =some (.arr t xs w)):=by
   intro r;simp only[fp'];split
   ·rename_i t xs w e;exact .inr ⟨rfl,t,xs,w,e⟩
   ·exact .inl rfl
  have sub:∀r,∀i∈fp' r,i∈fp r:=fun r i hi=>by
   rcases fpc r with e|⟨e,_⟩
   ·rw[e]at hi;simp at hi
   ·rw[e]at hi;exact hi
  refine⟨fp',fun r t xs w hr=>?_,fun r hr=>?_,fun r=>?_,fun r r' hne i hi hi'=>how.dj r r' hne i (sub r i hi) (sub r' i hi'),fun r r' x hx ha hi=>?_⟩
  ·have e:fp' r=fp r:=by simp only[fp'];rw[hr]
   rw[e];obtain⟨hm,hc⟩:=bArr r t xs w hr;have hfr:∀x,T.mem[r]? =some x->x.alive=true->∀i∈fp r,mem1[i]? =st.mem[i]?:=fun x hx ha i hi=>by obtain⟨es,rows,g⟩:=how.live r i hi;obtain⟨e1,he1⟩:=got _ _ g;rw[he1,g,(m2 _ _ _ g he1).2.2.1 r x hx ha hi hm]
   rcases hc with⟨hx,hw⟩|⟨os,j,cs,hx,rfl,hcc⟩
   ·have hA:=how.rel r t xs w hx;obtain⟨rows,g,_⟩:=hA.ent;obtain⟨e1,he1⟩:=got _ _ g;have:=(m2 _ _ _ g he1).2.1 r t xs w hx hw rfl hm;exact(hA.mono (ρ':=J) (mem':=(fzO o T).mem) (sm':=mem1) (i':=J r) (fun cs as hv=>hv.mono (zty o T.mem)) (by rw[he1,g,this]) (hfr _ hx rfl))
   ·have hA:=how.rel r t xs _ hx;obtain⟨pre,x0,post,rpre,row,rpost,fp1,fp2,k1,k2,k3,k4,k5,k6,k7,k8,k9,k10⟩:=hA;obtain⟨e1,he1⟩:=got _ _ k3;obtain⟨rows,row',q1,q2,q3⟩:=(m2 _ _ _ k3 he1).2.2.2.1 r t xs os j cs hx rfl hm;cases q1;refine⟨pre,x0,post,rpre,row',rpost,fp1,fp2,k1,k2,?_,k4,k5.frame fun i hi=>hfr _ hx rfl i (by rw[k7];simp[hi]),k6.frame fun i hi=>hfr _ hx rfl i (by rw[k7];simp[hi]),k7,q3,by rw[<-k9];simp[zpa],hcc⟩;show mem1[J r]? =_;rw[he1,q2,<-k4,List.set_append_right _ _ (Nat.le_refl _),Nat.sub_self];rfl
  ·rcases fpc r with e|⟨_,t,xs,w,e⟩
   ·exact e
   ·exact absurd e (hr t xs w)
  ·rcases fpc r with e|⟨e,_⟩
   ·rw[e];exact List.nodup_nil
   ·rw[e];exact how.nd r
  ·obtain⟨y,g1,g2,_⟩:=al r x hx ha;exact how.rt r r' y g1 g2 (sub r' _ hi)
end
end Go.Fw
namespace Go.Fw
open Go
variable [Pin]
section
variable {J:Nat->Nat}{T:TS}{st:St}
theorem TR.inner{r:Nat}{t:Ty}{xs:List (TV t)}{w w':Ow}{rows rows':List (List AV)}{fp:Nat->List Nat}(h:TR J T st)(how:OwA J T.mem st.mem fp)(hr:T.mem[r]? =some (.arr t xs w))(hi:st.mem[J r]? =some (.arr t.sz rows))(hl:rows'.length=rows.length)
 (hR:∀(q:Nat) ro ro',rows[q]? =some ro->rows'[q]? =some ro'->ro'.length=ro.length/\((∀c∈ro,c.isCell=true)->∀c∈ro',c.isCell=true)/\∀H H' F Z w,Sat H F Z st.mem w->zgm H H'->(∀i∈fp r,∀b es' cap,Z[i]? =some (some (b,es',cap))->∀o,w.heap[b]? =some o->H' b=some o)->
  ∀(k:Nat) c c' v,ro[k]? =some c->ro'[k]? =some c'->Rep H Z c v->Rep H' Z c' v)
 (hA:∀(mem':List Root)(sm':List Ent),Kp J J T.mem mem'->sm'[J r]? =some (.arr t.sz rows')->ArrR J mem' sm' t xs w' (J r) []):
 ∃st1,Gh st st1/\TR J ⟨T.env,T.mem.set r (.arr t xs w')⟩ st1:=by
 have hrl:=(yga.1 hr).1;let mem1:List Ent:=st.mem.mapIdx fun i e=>if i=J r then .arr t.sz rows' else if i∈fp r then .dead else e
 have m1:mem1.length=st.mem.length:=by simp[mem1]
 have mg:∀(i:Nat),mem1[i]? =(st.mem[i]?).map fun e=>if i=J r then .arr t.sz rows' else if i∈fp r then .dead else e:=fun i=>by simp[mem1,List.getElem?_mapIdx]
 have hnot:J r∉fp r:=how.rt r r _ hr rfl;have same:∀(i:Nat),i≠J r->i∉fp r->mem1[i]? =st.mem[i]?:=fun i h1 h2=>by rw[mg];cases st.mem[i]?<;>simp[h1,h2]
 have ini:mem1[J r]? =some (.arr t.sz rows'):=by rw[mg,hi];simp
 have old:∀(q:Nat) y,(T.mem.set r (.arr t xs w'))[q]? =some y->(q=r/\y=.arr t xs w')\/(q≠r/\T.mem[q]? =some y):=by
  intro q y hq;by_cases e:q=r
  ·subst e;simp[hrl]at hq;exact .inl ⟨rfl,hq.symm⟩
  ·rw[ygg (fun h=>e h.symm)]at hq;exact .inr ⟨e,hq⟩
 have hk:Kp J J T.mem (T.mem.set r (.arr t xs w')):=by
  have key:∀(q:Nat) y,T.mem[q]? =some y->q≠r->(T.mem.set r (.arr t xs w'))[q]? =some y:=fun q y hq e=>by rw[ygg (fun h=>e h.symm)];exact hq
  refine⟨fun q t' ys w0 hq=>?_,fun q b ds hq=>?_,fun q hq=>?_⟩
  ·by_cases e:q=r
   ·subst e;rw[hr]at hq;cases hq;exact .inr ⟨rfl,xs,w',by simp[hrl],rfl⟩
   ·exact .inr ⟨rfl,ys,w0,key q _ hq e,rfl⟩
  ·by_cases e:q=r
   ·subst e;rw[hr]at hq;cases hq
   ·exact .inr ⟨rfl,b,ds,key q _ hq e⟩
  ·by_cases e:q=r
   ·subst e;rw[hr]at hq;cases hq
   ·exact key q _ hq e
 have ne:∀(q:Nat) y,T.mem[q]? =some y->y.alive=true->q≠r->J q≠J r/\J q∉fp r:=fun q y hq ha e=>⟨fun h'=>e (h.inj q r y _ hq ha hr rfl h'),how.rt q r y hq ha⟩
 let Hx:Hp->Bt->World->Hp:=fun H Z w b=>open Classical in if ∃i es cap,i∈fp r/\Z[i]? =some (some (b,es,cap))then w.heap[b]? else H b
 have hE:∀{H F Z w},Sat H F Z st.mem w->zgm H (Hx H Z w):=fun{H F Z w} hs b x hx=>by
  simp only[Hx];split
  ·exact hs.hH b x hx
  ·exact hx
 have hW:∀{H F Z w},Sat H F Z st.mem w->∀b x,Hx H Z w b=some x->w.heap[b]? =some x:=fun{H F Z w} hs b x hx=>by
  simp only[Hx]at hx;split at hx
  ·exact hx
  ·exact hs.hH b x hx
 have hB:∀{H Z}{w:World},∀i∈fp r,∀b es' cap,Z[i]? =some (some (b,es',cap))->∀o,w.heap[b]? =some o->Hx H Z w b=some o:=fun{H Z w} i hi b es cap hb o ho=>by simp only[Hx];rw[if_pos ⟨i,es,cap,hi,hb⟩];exact ho
 refine⟨⟨st.env,mem1⟩,⟨Nat.le_of_eq m1.symm,fun C its hh=>AW.ghost (st':=⟨st.env,mem1⟩) (Nat.le_of_eq m1.symm) (fun H F Z w hs=>⟨Hx H Z w,Z,⟨hE hs,fun b x hx=>?_⟩,.refl _,?_,fun n x hx=>hx.mono (hE hs) (.refl _)⟩) hh⟩,⟨fun n=>(h.env n).mono hk,fun q b cs hq=>?_,fun q b cs hq=>?_,fun q q' x x' h1 h2 h3 h4 h5=>?_,?_,h.pin.mono hk⟩⟩
 ·simp only[Hx]at hx;split at hx
  ·rename_i hf;obtain⟨i,es,cap,f1,f2⟩:=hf;obtain⟨es',rows0,hm⟩:=how.live r i f1;exact .inr (hs.apart _ _ _ hm rfl f2).2
  ·exact .inl hx
 ·refine hs.fz m1 (hE hs) (hW hs) (fun i e1 x hi1 hlv hx hn=>?_) (fun i e e1 hi0 hi1=>?_)
  ·simp only[Hx];split
   ·rename_i hf;obtain⟨k,es,cap,f1,f2⟩:=hf;obtain⟨es',rows0,hm⟩:=how.live r k f1;have hlt:i<mem1.length:=(yga.1 hi1).1;have hi0:st.mem[i]? =some (st.mem[i]'(by omega)):=ygb _;have hlv0:(st.mem[i]'(by omega)).live=true:=by
     by_cases e:i=J r
     ·subst e;rw[hi]at hi0;rw[<-Option.some.inj hi0];rfl
     ·by_cases e2:i∈fp r
      ·obtain⟨es2,rows2,g⟩:=how.live r i e2;rw[hi0]at g;rw[Option.some.inj g];rfl
      ·rw[same i e e2,hi0]at hi1;rw[Option.some.inj hi1];exact hlv
    have:=hs.inj i k _ _ x _ hi0 hlv0 hm rfl hx f2 rfl;subst this;rw[mg,hi0]at hi1;have e:i≠J r:=fun e=>hnot (e ▸ f1);simp only[Option.map_some,if_neg e,if_pos f1,Option.some.injEq]at hi1;subst hi1;simp at hlv
   ·exact hn
  ·rw[mg,hi0]at hi1;simp only[Option.map_some,Option.some.injEq]at hi1;by_cases e:i=J r
   ·subst e;rw[if_pos rfl]at hi1;rw[hi]at hi0;cases hi0;refine .inr (.inr ⟨t.sz,rows,rows',rfl,hi1.symm,hl,fun q ro ro' h1 h2=>?_⟩);obtain⟨g1,g2,g3⟩:=hR q ro ro' h1 h2;have hx:∃x,Z[J r]? =some x:=⟨_,ygb (by rw[hs.hl];exact(yga.1 hi).1)⟩
    obtain⟨x,hx⟩:=hx;have h0:=hs.ent _ _ x hi hx;have hcell:∀c∈ro,c.isCell=true:=by
     cases x with
     |none=>have:rows=[]:=h0;subst this;simp at h1
     |some x=>obtain⟨b,es',cap⟩:=x;obtain⟨_,_,_,_,_,_,_,h6,_⟩:=h0;exact h6 ro (ygd h1)
    exact⟨g1,g2 hcell,fun k c c' v k1 k2 k3=>g3 H _ F Z w hs (hE hs) hB k c c' v k1 k2 k3⟩
   ·rw[if_neg e]at hi1;by_cases e2:i∈fp r
    ·rw[if_pos e2]at hi1;exact .inl hi1.symm
    ·rw[if_neg e2]at hi1;exact .inr (.inl hi1.symm)
 ·rcases old q _ hq with⟨_,e⟩|⟨e,hq⟩
  ·cases e
  ·obtain⟨as,g1,g2⟩:=h.box q b cs hq;obtain⟨n1,n2⟩:=ne q _ hq rfl e;exact⟨as,by rw[same _ n1 n2];exact g1,g2.mono hk⟩
 ·rcases old q _ hq with⟨_,e⟩|⟨e,hq⟩
  ·cases e
  ·exact h.boxC q b cs hq
 ·have al:∀(q:Nat) y,(T.mem.set r (.arr t xs w'))[q]? =some y->y.alive=true->∃y',T.mem[q]? =some y'/\y'.alive=true:=fun q y hq ha=>by
   rcases old q y hq with⟨rfl,_⟩|⟨_,hq⟩
   ·exact⟨_,hr,rfl⟩
   ·exact⟨y,hq,ha⟩
  obtain⟨y,a1,a2⟩:=al q x h1 h2;obtain⟨y',a3,a4⟩:=al q' x' h3 h4;exact h.inj q q' _ _ a1 a2 a3 a4 h5
 ·refine⟨fun q=>if q=r then[]else fp q,fun q t' ys w0 hq=>?_,fun q hq=>?_,fun q=>?_,fun q q' hne i hi1=>?_,fun q q' y hq ha=>?_⟩
  ·rcases old q _ hq with⟨rfl,e⟩|⟨e,hq⟩
   ·cases e;rw[if_pos rfl];exact hA _ _ hk ini
   ·rw[if_neg e];obtain⟨n1,n2⟩:=ne q _ hq rfl e;exact(how.rel q t' ys w0 hq).mono (fun cs as hv=>hv.mono hk) (same _ n1 n2) fun j hj=>same j (fun e'=>how.rt r q _ hr rfl (e' ▸ hj)) (how.dj q r e j hj)
  ·by_cases e:q=r
   ·rw[if_pos e]
   ·rw[if_neg e];exact how.nil q fun t' ys w0 h'=>hq t' ys w0 (by rw[ygg (fun h=>e h.symm)];exact h')
  ·by_cases e:q=r
   ·rw[if_pos e];exact List.nodup_nil
   ·rw[if_neg e];exact how.nd q
  ·by_cases e:q=r
   ·rw[if_pos e]at hi1;simp at hi1
   ·rw[if_neg e]at hi1;by_cases e':q'=r
    ·rw[if_pos e'];simp
    ·rw[if_neg e'];exact how.dj q q' hne i hi1
  ·by_cases e:q'=r
   ·rw[if_pos e];simp
   ·rw[if_neg e];rcases old q y hq with⟨rfl,_⟩|⟨_,hq⟩
    ·exact how.rt q q' _ hr rfl
    ·exact how.rt q q' y hq ha
theorem OwRs.rowlen{sm:List Ent}{os:OS}{t:Ty}:∀{xs:List (TV t)}{rows:List (List AV)}{fp:List Nat},OwRs sm os t xs rows fp->∀ro∈rows,ro.length=t.sz
|_,_,_,.nil,ro,h=>by simp at h
|_,_,_,.cons (x:=x) h hs,ro,hm=>by
 rcases List.mem_cons.1 hm with rfl|hm
 ·rw[h.len,zic]
 ·exact hs.rowlen ro hm
theorem OwRs.rowsR{sm:List Ent}{os:OS}{t:Ty}{xs:List (TV t)}{rows:List (List AV)}{fp:List Nat}(h:OwRs sm os t xs rows fp)(q:Nat)(ro ro':List AV)(h1:rows[q]? =some ro)(h2:(xs.map (zap t))[q]? =some ro'):
 ro'.length=ro.length/\((∀c∈ro,c.isCell=true)->∀c∈ro',c.isCell=true)/\∀H H' F Z w,Sat H F Z sm w->zgm H H'->(∀i∈fp,∀b es' cap,Z[i]? =some (some (b,es',cap))->∀o,w.heap[b]? =some o->H' b=some o)->
  ∀(k:Nat) c c' v,ro[k]? =some c->ro'[k]? =some c'->Rep H Z c v->Rep H' Z c' v:=by
 rw[List.getElem?_map]at h2;cases hx:xs[q]? with
 |none=>rw[hx]at h2;cases h2
 |some x=>rw[hx]at h2;simp only[Option.map_some,Option.some.injEq]at h2;subst h2;refine⟨by rw[zcO,h.rowlen ro (ygd h1)],fun _=>zeg t x,fun H H' F Z w hs hE hb k c c' v k1 k2 k3=>?_⟩;exact(h.gen hs hE hb q ro (zap t x) k c c' v h1 (by rw[List.getElem?_map,hx];rfl) k1 k2 k3).mono (.refl _) (zA9 _)
theorem zz9(h:TR J T st)(r:Nat):∃st1,Gh st st1/\TR J ⟨T.env,fiC T.mem r⟩ st1:=by
 unfold fiC;split
 ·rename_i t xs os hr;obtain⟨fp,how⟩:=h.ow;obtain⟨rows,hi,h2⟩:=how.rel r t xs _ hr;exact h.inner how hr hi (rows':=xs.map (zap t)) (by simp[h2.len]) (fun q ro ro' h1 h3=>h2.rowsR q ro ro' h1 h3) fun mem' sm' _ hi'=>⟨hi',rfl⟩
 ·exact⟨st,.refl _,h⟩
theorem zz8(h:TR J T st)(r:Nat):∃st1,Gh st st1/\TR J ⟨T.env,fi1 T.mem r⟩ st1:=by
 unfold fi1;split
 ·rename_i t xs os hr;obtain⟨fp,how⟩:=h.ow;obtain⟨rows,hi,h2⟩:=how.rel r t xs _ hr;exact h.inner how hr hi (rows':=xs.map (zap t)) (by simp[h2.len]) (fun q ro ro' h1 h3=>h2.rowsR q ro ro' h1 h3) fun mem' sm' _ hi'=>⟨hi',rfl⟩
 ·rename_i t xs os j cs hr;obtain⟨fp,how⟩:=h.ow;obtain⟨pre,x,post,rpre,row,rpost,fp1,fp2,e1,e2,h0,e3,h1,h2,e4,h3,h4,h5⟩:=how.rel r t xs _ hr;have a1:∃st1,Gh st st1/\TR J ⟨T.env,T.mem.set r (.arr t xs (.op .no j cs))⟩ st1:=by
   refine h.inner how hr h0 (rows':=pre.map (zap t)++row:: post.map (zap t)) (by simp[h1.len,h2.len]) (fun q ro ro' k1 k2=>?_) fun mem' sm' hk hi'=>?_
   ·rcases Nat.lt_trichotomy q rpre.length with hq|hq|hq
    ·rw[yge hq]at k1;rw[yge (by rw[List.length_map,<-h1.len];exact hq)]at k2;obtain⟨g1,g2,g3⟩:=h1.rowsR q ro ro' k1 k2;exact⟨g1,g2,fun H H' F Z w hs hE hb=>g3 H H' F Z w hs hE fun i hi=>hb i (by rw[e4];simp[hi])⟩
    ·subst hq;have e5:rpre.length=(pre.map (zap t)).length:=by rw[List.length_map,h1.len]
     rw[ygf (Nat.le_refl _),Nat.sub_self]at k1;rw[e5,ygf (Nat.le_refl _),Nat.sub_self]at k2;simp only[List.getElem?_cons_zero,Option.some.injEq]at k1 k2;subst k1 k2;refine⟨rfl,id,fun H H' F Z w hs hE _ k c c' v g1 g2 g3=>?_⟩;rw[g1]at g2;cases g2;exact g3.mono hE (.refl _)
    ·have e5:rpre.length=(pre.map (zap t)).length:=by rw[List.length_map,h1.len]
     rw[ygf (by omega)]at k1;rw[ygf (by omega),<-e5]at k2;obtain⟨p,hp⟩:∃p,q-rpre.length=p+1:=⟨q-rpre.length-1,by omega⟩
     rw[hp,List.getElem?_cons_succ]at k1 k2;obtain⟨g1,g2,g3⟩:=h2.rowsR p ro ro' k1 k2;exact⟨g1,g2,fun H H' F Z w hs hE hb=>g3 H H' F Z w hs hE fun i hi=>hb i (by rw[e4];simp[hi])⟩
   ·exact⟨pre,x,post,_,row,_,[],[],e1,e2,hi',by rw[List.length_map];exact e2.symm,OwRs.mkno pre,OwRs.mkno post,rfl,h3.mono hk,h4,h5⟩
  obtain⟨st1,g1,h6⟩:=a1;obtain⟨st2,g2,h7⟩:=zn3 h6 r;obtain⟨st3,g3,h8⟩:=zz9 h7 r;exact⟨st3,(g1.trans g2).trans g3,h8⟩
 ·exact⟨st,.refl _,h⟩
theorem zxg:∀(o:List Nat){T:TS}{st:St},TR J T st->∃st1,Gh st st1/\TR J ⟨T.env,fiL T.mem o⟩ st1
|[],T,st,h=>⟨st,.refl _,h⟩
|r:: o,T,st,h=>by obtain⟨st1,g1,h1⟩:=zz8 h r;obtain⟨st2,g2,h2⟩:=zxg o h1;exact⟨st2,g1.trans g2,h2⟩
theorem zAx(h:TR J T st)(n:Nat):∃st1 ρ1,Gh st st1/\TR ρ1 (owB n T) st1:=by
 unfold owB;split
 ·split
  ·rename_i r _ _ _ _ b cs hr;split
   ·exact⟨st,J,.refl _,h⟩
   ·rename_i hb;have hc:=h.boxC r b cs hr;obtain⟨st2,ρ',q1,q2⟩:=TR.owns cs b.ts [] [] hb h (by simpa using hr) (by simpa using hc);exact⟨st2,ρ',q1,by simpa using q2⟩
  ·exact⟨st,J,.refl _,h⟩
 ·exact⟨st,J,.refl _,h⟩
theorem zrn{ρt:Type}{res:ρt}{κ:TS->Option ρt}(h:TR J T st){r i:Nat}(he:zwn r i T κ =some res):∃T1 ρ1,κ T1=some res/\TR ρ1 T1 st/\T1.env=T.env:=by
 unfold zwn at he;split at he
 ·rename_i t xs os hr;obtain⟨v,hv,he⟩:=zas he;obtain⟨ρ',rows,r0,_,_,_,_,q⟩:=h.open hr hv;exact⟨_,ρ',he,q,rfl⟩
 ·exact⟨T,J,he,h,rfl⟩
end
end Go.Fw
namespace Go.Fw
open Go
variable [Pin]
theorem zjO(cs:List (Nat×V))(n:Nat):∀(sl:List Nat)(vs:List V),(∃i:Nat,sl[i]? =some n/\vs[i]? =some (lookV (zvr sl vs++cs) n))\/lookV (zvr sl vs++cs) n=lookV cs n
|[],vs=>.inr (by simp[zvr])
|m:: sl,[]=>.inr (by simp[zvr])
|m:: sl,v:: vs=>by
 simp only[zvr,List.cons_append,lookV];cases e:Nat.beq m n with
 |true=>exact .inl ⟨0,by simp[Nat.eq_of_beq_eq_true e],rfl⟩
 |false=>exact(zjO cs n sl vs).imp (fun⟨i,h1,h2⟩=>⟨i+1,by simpa using h1,by simpa using h2⟩) id
theorem zfC(f:Nat->V)(n:Nat):∀ks:List Nat,(n∈ks/\lookV (ks.map fun n=>(n,f n)) n=f n)\/(n∉ks/\lookV (ks.map fun n=>(n,f n)) n=.junk)
|[]=>.inr ⟨by simp,rfl⟩
|m:: ks=>by
 simp only[List.map_cons,lookV];cases e:Nat.beq m n with
 |true=>have e:=Nat.eq_of_beq_eq_true e;subst e;exact .inl ⟨by simp,rfl⟩
 |false=>
  have e:=Nat.ne_of_beq_eq_false e;rcases zfC f n ks with⟨h1,h2⟩|⟨h1,h2⟩
  ·exact .inl ⟨by simp[h1],h2⟩
  ·exact .inr ⟨by simp[h1,Ne.symm e],h2⟩
section
variable {T:TS}{p:Bool}{tys:List (Nat×An)}{st ks:List Nat}
theorem zwf(d:(zdU p tys T st ks).D){n:Nat}(hn:n∉st):lookV (mkJ p (zdU p tys T st ks) T st ks d).env n=.junk\/
 (n∈ks/\((lookV T.env n).pur=true\/(lookV T.env n).isJ=true\/p=true)->lookV (mkJ p (zdU p tys T st ks) T st ks d).env n=lookV T.env n)/\n∈ks:=by
 cases p with
 |true=>
  have:lookV (mkJ true (zdU true tys T st ks) T st ks d).env n=lookV (ks.map fun n=>(n,lookV T.env n)) n:=by
   simp only[mkJ,Sig.mkP];rcases zjO (ks.map fun n=>(n,lookV T.env n)) n (zdU true tys T st ks).sl (mkVL (zdU true tys T st ks).shs d)with⟨i,h1,h2⟩|h
   ·exact absurd (ygd h1) hn
   ·exact h
  rw[this];rcases zfC (lookV T.env) n ks with⟨h1,h2⟩|⟨h1,h2⟩
  ·exact .inr ⟨fun _=>h2,h1⟩
  ·exact .inl h2
 |false=>
  by_cases hk:n∈ks
  ·by_cases hc:((lookV T.env n).pur=true\/(lookV T.env n).isJ=true\/false=true)
   ·refine .inr ⟨fun _=>?_,hk⟩;simp only[mkJ,Sig.mk'];rcases zjO (zhS T ks) n (zdU false tys T st ks).sl (mkVL (zdU false tys T st ks).shs d)with⟨i,h1,h2⟩|h
    ·have hsl:(zdU false tys T st ks).sl=st++ks.filter (zgs T):=by simp[zdU,zuH]
     rw[hsl]at h1;have hm:=ygd h1;rcases List.mem_append.1 hm with hm|hm
     ·exact absurd hm hn
     ·have hr:=(List.mem_filter.1 hm).2;have hj:lookV T.env n=.junk:=by
       simp only[zgs,yho]at hr;rcases hc with hc|hc|hc
       ·rw[hr]at hc;cases hc
       ·cases hv:lookV T.env n<;>rw[hv]at hc<;>simp[V.isJ]at hc|-
       ·cases hc
      have hsh:∃o,(zdU false tys T st ks).sh[i]? =some (zfH T o n):=by
       refine⟨zcg T.mem 200 (V.refsL ((st++ks.filter (zgs T)).map (lookV T.env))++zxx T.mem Nin.nin) (zhj 0 Nin.nin),?_⟩;have:(zdU false tys T st ks).sh=st.map (zuG tys T (zcg T.mem 200 (V.refsL ((st++ks.filter (zgs T)).map (lookV T.env))++zxx T.mem Nin.nin) (zhj 0 Nin.nin)))++(ks.filter (zgs T)).map (zfH T (zcg T.mem 200 (V.refsL ((st++ks.filter (zgs T)).map (lookV T.env))++zxx T.mem Nin.nin) (zhj 0 Nin.nin))):=by simp[zdU,zuH]
       have hge:st.length<=i:=Nat.le_of_not_lt fun hlt=>by rw[yge hlt]at h1;exact hn (ygd h1)
       rw[ygf hge]at h1;rw[this,ygf (by simpa using hge),List.length_map,List.getElem?_map,h1];rfl
      obtain⟨o,hsh⟩:=hsh;have hshs:(zdU false tys T st ks).shs[i]? =some (zfH T o n):=by simp only[Sig.shs];rw[yge (yga.1 hsh).1];exact hsh
      obtain⟨x,hx⟩:=zm6 _ d i _ hshs;rw[hx]at h2;have h2:=Option.some.inj h2;rw[<-h2,hj];have:zfH T o n=.no:=by simp[zfH,hj,zBn]
      revert x
      rw[this];intro x _ _ _;rfl
    ·rw[h];rcases zfC (lookV T.env) n (ks.filter fun n=>!(zgs T n))with⟨h1,h2⟩|⟨h1,h2⟩
     ·exact h2
     ·simp only[zhS];rw[h2];rcases hc with hc|hc|hc
      ·exact absurd (List.mem_filter.2 ⟨hk,by simp[zgs,hc]⟩) h1
      ·cases hv:lookV T.env n<;>rw[hv]at hc<;>simp[V.isJ]at hc|-
      ·cases hc
   ·exact .inr ⟨fun h=>absurd h.2 hc,hk⟩
  ·refine .inl ?_;simp only[mkJ,Sig.mk'];rcases zjO (zhS T ks) n (zdU false tys T st ks).sl (mkVL (zdU false tys T st ks).shs d)with⟨i,h1,h2⟩|h
   ·have hsl:(zdU false tys T st ks).sl=st++ks.filter (zgs T):=by simp[zdU,zuH]
    rw[hsl]at h1;rcases List.mem_append.1 (ygd h1)with hm|hm
    ·exact absurd hm hn
    ·exact absurd (List.mem_filter.1 hm).1 hk
   ·rw[h];rcases zfC (lookV T.env) n (ks.filter fun n=>!(zgs T n))with⟨h1,h2⟩|⟨h1,h2⟩
    ·exact absurd (List.mem_filter.1 h1).1 hk
    ·exact h2
theorem zm4(W:List Nat)(d:(zdU p tys T st ks).D):Inv (st++W) p T (mkJ p (zdU p tys T st ks) T st ks d):=by
 refine⟨fun n hn hc=>?_,fun hp _=>by subst hp;rfl⟩;have hn':n∉st:=fun h=>by rw[zbr,(zm2 n st).2 h]at hn;cases hn
 rcases zwf d hn' with h|⟨h1,h2⟩
 ·exact .inr h
 ·exact .inl (h1 ⟨h2,hc.imp id (.imp id And.left)⟩)
end
theorem TR.keep{J:Nat->Nat}{T:TS}{st:St}(h:TR J T st)(keep:List Nat):TR J ⟨keep.map fun n=>(n,lookV T.env n),T.mem⟩ ⟨keep.map fun n=>(n,look st.env n),st.mem⟩:=
 ⟨fun n=>(EnvR.map keep fun n _=>h.env n).look n,h.box,h.boxC,h.inj,h.ow,h.pin⟩
theorem Inv.no{W:List Nat}{p pu:Bool}{T T':TS}(h:Inv W p T T')(hp:pu=true->noOw T.mem=true->p=true):Inv W pu T T':=
 ⟨fun n hn hc=>h.env n hn (hc.imp id (.imp id fun e=>⟨hp e.1 e.2,e.2⟩)),fun e e'=>h.mem (hp e e') e'⟩
theorem zgf:∀{mem:List Root},noOw mem=true->zlA mem=false
|[],_=>rfl
|.dead:: l,h=>by simp only[zlA];exact zgf h
|.box _ _:: l,h=>by simp only[zlA];exact zgf h
|.arr _ _ w:: l,h=>by cases w<;>simp[noOw]at h;simp only[zlA];exact zgf h
theorem TR.endT{J:Nat->Nat}{T:TS}{st:St}(h:TR J T st)(keep:List Nat):∃st2,Gh ⟨keep.map fun n=>(n,look st.env n),st.mem⟩ st2/\TR J (Go.Fw.endT keep T) st2:=by
 have h1:=h.keep keep;unfold Go.Fw.endT;split
 ·exact⟨_,.refl _,h1⟩
 ·obtain⟨st2,g1,h2⟩:=zhR (V.refsL (keep.map (lookV T.env))++zka T.mem) T.mem.length h1;obtain⟨st3,g2,h3⟩:=zhR (V.refsL (keep.map (lookV T.env))++zka T.mem) T.mem.length h2;exact⟨st3,g1.trans g2,h3⟩
theorem Inv.endT(W:List Nat)(pu:Bool)(T:TS)(keep:List Nat):Inv W pu T (Go.Fw.endT keep T):=by
 refine⟨fun n _ _=>?_,fun _ hn=>?_⟩
 ·have:(Go.Fw.endT keep T).env=keep.map fun n=>(n,lookV T.env n):=by unfold Go.Fw.endT;rfl
  rw[this];exact(zfC (lookV T.env) n keep).imp (fun h=>h.2) (fun h=>h.2)
 ·unfold Go.Fw.endT;rw[zgf hn]
section
variable {Φ:List TE}{tys:List (Nat×An)}{C:Ctx}{k:List CItem}{ρt:Type}{res:ρt}
theorem zrr{p:Bool}{keep:List Nat}{ds:List Nat}{T T':TS}{J:Nat->Nat}{st':St}
 {d:(zdU p tys T (keep.filter (fun n=>memB n ds)) (keep.filter (fun n=>!(memB n ds)))).D}
 (h:TR J T' st')(hp:p=true->noOw T.mem=true)(hi:Inv ds p T T')(hd:zpN p (zdU p tys T (keep.filter (fun n=>memB n ds)) (keep.filter (fun n=>!(memB n ds)))) T (keep.filter (fun n=>!(memB n ds))) (endT keep T')=some d):
 ∃st2 ρ2,Gh ⟨keep.map fun n=>(n,look st'.env n),st'.mem⟩ st2/\TR ρ2 (mkJ p (zdU p tys T (keep.filter (fun n=>memB n ds)) (keep.filter (fun n=>!(memB n ds)))) T (keep.filter (fun n=>memB n ds)) (keep.filter (fun n=>!(memB n ds))) d) st2/\
  Inv ds p T (mkJ p (zdU p tys T (keep.filter (fun n=>memB n ds)) (keep.filter (fun n=>!(memB n ds)))) T (keep.filter (fun n=>memB n ds)) (keep.filter (fun n=>!(memB n ds))) d):=by
 obtain⟨st1,g0,h1⟩:=h.endT keep;obtain⟨st2,ρ2,g1,g2⟩:=ziM (slots:=keep.filter (fun n=>memB n ds)) h1 (hi.trans (.endT ds p T' keep)) (fun n hn=>by simpa using(List.mem_filter.1 hn).2) (fun e=>⟨e,hp e⟩) rfl hd;refine⟨st2,ρ2,g0.trans g1,g2,?_⟩;refine(zm4 [] d).mono (fun n hn=>?_) id;rw[List.append_nil,zjQ];intro h;have:=(List.mem_filter.1 h).2;rw[hn]at this;cases this
theorem zsh(hΦ:∀e∈Φ,EOk C.P e){keep cls:List Nat}{ops:List COp}{T:TS}{J:Nat->Nat}{st:St}{kn:TS->Option ρt}(h:TR J T st)(he:zzT Φ tys false keep cls ops T kn=some res)
 (hk:∀T' ρ' st',TR ρ' T' st'->Inv (zhT ops) (zaM Φ ops) T T'->kn T'=some res->AW C k st'):AW C (.code (.reg keep ops):: k) st:=by
 refine AW.reg ?_;unfold zzT at he;split at he
 ·refine zi0 hΦ ops _ T h he fun T' ρ' st' h' hi hκ=>AW.ops_end ?_;obtain⟨st2,g1,g2⟩:=h'.endT keep;exact g1.2 C _ (hk _ ρ' _ g2 (hi.trans (.endT _ _ _ _)) hκ)
 ·obtain⟨d,h1,h2⟩:=zas he;refine zi0 hΦ ops _ T h h1 fun T' ρ' st' h' hi hκ=>?_;have hp:(zaM Φ ops&&noOw T.mem)=true->zaM Φ ops=true/\noOw T.mem=true:=fun e=>by simpa using e
  obtain⟨st2,ρ2,g1,g2,g3⟩:=zrr (tys:=tys) (p:=zaM Φ ops&&noOw T.mem) h' (fun e=>(hp e).2) (hi.mono (fun _ h=>h) fun e=>(hp e).1) hκ;exact AW.ops_end (g1.2 C _ (hk _ ρ2 _ g2 (g3.no fun e e'=>by rw[e,e'];rfl) h2))
theorem AW.wfd{keep ord anc cls:List Nat}{ops:List COp}{st:St}(h:wfD ops=true->AW C (.code (.regd keep ord anc cls ops):: k) st):AW C (.code (.regd keep ord anc cls ops):: k) st:=by
 intro H F Z a w b cs todo hmi hr hn;have hwf:wfD ops=true:=by
  cases hmi with
  |code hcc hk=>
   rename_i c' k';cases c'<;>try(simp[chkC]at hcc;done)
   rename_i id os dr;cases dr<;>simp only[chkC,yhj]at hcc;exact(zs4 hcc).wf
 exact h hwf H F Z a w b cs todo hmi hr hn
theorem zp8(hm:C.P.follows .mixedOrders=true)(hΦ:∀e∈Φ,EOk C.P e){keep ord anc cls:List Nat}{ops:List COp}{T:TS}{J:Nat->Nat}{st:St}{kn:TS->Option ρt}(h:TR J T st)(he:zzT Φ tys true keep cls ops T kn=some res)
 (hk:∀T' ρ' st',TR ρ' T' st'->Inv (zhT ops) (zaM Φ ops) T T'->kn T'=some res->AW C k st'):AW C (.code (.regd keep ord anc cls ops):: k) st:=by
 refine AW.wfd fun hwf=>?_;unfold zzT at he;split at he
 ·obtain⟨R,gw,cr,_,_,_,hr⟩:=ziZ hΦ ops cls (dnT T) T h hwf (fun r hr=>by cases hr) ⟨(fun p hp=>by cases hp),(fun p hp=>by cases hp)⟩ he;refine AW.regd hm (R.map J) gw cr (zk6 (fun st' hQ=>?_) ops cls st hr);obtain⟨T',ρ',h',hi,hκ⟩:=hQ;obtain⟨st2,g1,g2⟩:=h'.endT keep;exact g1.2 C _ (hk _ ρ' _ g2 (hi.trans (.endT _ _ _ _)) hκ)
 ·obtain⟨d,h1,h2⟩:=zas he;obtain⟨R,gw,cr,_,_,_,hr⟩:=ziZ hΦ ops cls (dnT T) T h hwf (fun r hr=>by cases hr) ⟨(fun p hp=>by cases hp),(fun p hp=>by cases hp)⟩ h1;refine AW.regd hm (R.map J) gw cr (zk6 (fun st' hQ=>?_) ops cls st hr);obtain⟨T',ρ',h',hi,hκ⟩:=hQ;have hp:(zaM Φ ops&&noOw T.mem)=true->zaM Φ ops=true/\noOw T.mem=true:=fun e=>by simpa using e
  obtain⟨st2,ρ2,g1,g2,g3⟩:=zrr (tys:=tys) (p:=zaM Φ ops&&noOw T.mem) h' (fun e=>(hp e).2) (hi.mono (fun _ h=>h) fun e=>(hp e).1) hκ;exact g1.2 C _ (hk _ ρ2 _ g2 (g3.no fun e e'=>by rw[e,e'];rfl) h2)
end
end Go.Fw
namespace Go.Fw
open Go
variable [Pin]
theorem zt3{σ J:Type}{b:σ->Option (σ⊕J)}{s:σ}{r:J}(h:zaB b s=some r):∃n,zcr b n s=some r:=by
 rw[zmZ]at h;split at h
 ·exact⟨_,h⟩
 ·cases h
theorem zkT{α Z:Type}(g:α->Z)(id:Nat):∀ex:List (Nat×α),ziR (ex.map fun q=>(q.1,g q.2)) id=(ziR ex id).map g
|[]=>rfl
| (m,v):: ex=>by
 simp only[List.map_cons,ziR];cases Nat.beq m id with
 |true=>rfl
 |false=>exact zkT g id ex
section
variable {Φ:List TE}{tys:List (Nat×An)}{C:Ctx}
theorem AW.inLp{body:CC}{k:List CItem}{st:St}(h:AW C (.code body:: .inLoop body:: k) st):AW C (.inLoop body:: k) st:=by
 intro H F Z a w b cs todo hmi hr hn;cases hmi with
 |inLoop hc hk=>exact .steps (.one step_inLoop) (h H F Z a w b cs _ (.code hc (.inLoop hc hk)) hr hn)
theorem AW.lp{r:Bool}{id:Nat}{ss ks:List Nat}{body:CC}{k:List CItem}{st:St}(h:AW C (.code body:: .inLoop body:: k) st):AW C (.code (.lp r id ss ks body):: k) st:=by
 intro H F Z a w b cs todo hmi hr hn;cases hmi with
 |code hc hk=>rename_i c' k';cases c'<;>simp[chkC]at hc;exact .steps (.one step_loop) (h H F Z a w b cs _ (.code hc (.inLoop hc hk)) hr hn)
theorem zmY{D Y:Type}{b:D->Option (D⊕Y)}{y:Y}{k:List CItem}{body:CC}(S:D->St->Prop)
 (round:∀d st1 r,S d st1->b d=some r->(r=.inr y\/∃d',r=.inl d'/\∀st',S d' st'->AW C (.inLoop body:: k) st')->AW C (.code body:: .inLoop body:: k) st1):
 ∀(n:Nat) d st1,S d st1->zcr b n d=some y->AW C (.code body:: .inLoop body:: k) st1
 |0,d,st1,_,h=>by simp[zcr]at h
 |n+1,d,st1,hs,h=>by
  simp only[zcr]at h;split at h
  ·rename_i d' e;exact round d st1 _ hs e (.inr ⟨d',rfl,fun st' hs'=>AW.inLp (zmY S round n d' st' hs' h)⟩)
  ·rename_i r e;cases h;exact round d st1 _ hs e (.inl rfl)
  ·cases h
theorem zaZ(hm:C.P.follows .mixedOrders=true)(hΦ:∀e∈Φ,EOk C.P e):∀(c:CC)(X:Type)(T:TS)(ex:List (Nat×(TS->Option X)))(rt kn:TS->Option X)(res:X)(k:List CItem)(J:Nat->Nat)(st:St),TR J T st->zgo Φ tys c X T ex rt kn=some res->
 (∀id κ,ziR ex id=some κ->∃k',zfg id k=some k'/\∀T' ρ' st',TR ρ' T' st'->Inv (wrC c) (zbG Φ c) T T'->κ T'=some res->AW C k' st')->
 (∀T' ρ' st' k',TR ρ' T' st'->rt T'=some res->AW C (.code .ret:: k') st')->
 (∀T' ρ' st',TR ρ' T' st'->Inv (wrC c) (zbG Φ c) T T'->kn T'=some res->AW C k st')->AW C (.code c:: k) st
 |.skip,X,T,ex,rt,kn,res,k,J,st,h,he,hex,hrt,hkn=>AW.skip (hkn T J st h (.refl _ _ _) (by simpa[zgo]using he))
 |.reg keep ops,X,T,ex,rt,kn,res,k,J,st,h,he,hex,hrt,hkn=>zsh hΦ h (by simpa[zgo]using he) hkn
 |.regd keep ord anc cls ops,X,T,ex,rt,kn,res,k,J,st,h,he,hex,hrt,hkn=>zp8 hm hΦ h (by simpa[zgo]using he) hkn
 |.seq a b,X,T,ex,rt,kn,res,k,J,st,h,he,hex,hrt,hkn=>by
  simp only[zgo]at he;have ia:∀{T':TS},Inv (wrC a) (zbG Φ a) T T'->Inv (wrC (.seq a b)) (zbG Φ (.seq a b)) T T':=fun hi=>hi.mono (fun n hn=>by simp only[wrC,zbr,Bool.or_eq_false_iff]at hn;exact hn.1) (fun e=>by simp only[zbG,yhb]at e;exact e.1)
  have ib:∀{T1 T':TS},Inv (wrC b) (zbG Φ b) T1 T'->Inv (wrC (.seq a b)) (zbG Φ (.seq a b)) T1 T':=fun hi=>hi.mono (fun n hn=>by simp only[wrC,zbr,Bool.or_eq_false_iff]at hn;exact hn.2) (fun e=>by simp only[zbG,yhb]at e;exact e.2)
  refine AW.seq (zaZ hm hΦ a X T ex rt _ res (.code b:: k) J st h he (fun id κ hl=>?_) hrt (fun T' ρ' st' h' hi hκ=>?_))
  ·obtain⟨k',h1,h2⟩:=hex id κ hl;exact⟨k',by simpa[zfg]using h1,fun T' ρ' st' h' hi hκ=>h2 T' ρ' st' h' (ia hi) hκ⟩
  ·refine zaZ hm hΦ b X T' ex rt kn res k ρ' st' h' hκ (fun id κ hl=>?_) hrt (fun T'' ρ'' st'' h'' hi' hκ'=>hkn T'' ρ'' st'' h'' ((ia hi).trans (ib hi')) hκ');obtain⟨k',h1,h2⟩:=hex id κ hl;exact⟨k',h1,fun T'' ρ'' st'' h'' hi' hκ'=>h2 T'' ρ'' st'' h'' ((ia hi).trans (ib hi')) hκ'⟩
 |.cond c a b,X,T,ex,rt,kn,res,k,J,st,h,he,hex,hrt,hkn=>by
  simp only[zgo]at he;split at he
  ·rename_i x hx;have hc:=h.ar c;rw[hx]at hc;simp only[VR]at hc;have ia:∀{T':TS},Inv (wrC a) (zbG Φ a) T T'->Inv (wrC (.cond c a b)) (zbG Φ (.cond c a b)) T T':=fun hi=>hi.mono (fun n hn=>by simp only[wrC,zbr,Bool.or_eq_false_iff]at hn;exact hn.1) (fun e=>by simp only[zbG,yhb]at e;exact e.1)
   have ib:∀{T':TS},Inv (wrC b) (zbG Φ b) T T'->Inv (wrC (.cond c a b)) (zbG Φ (.cond c a b)) T T':=fun hi=>hi.mono (fun n hn=>by simp only[wrC,zbr,Bool.or_eq_false_iff]at hn;exact hn.2) (fun e=>by simp only[zbG,yhb]at e;exact e.2)
   refine AW.cond hc (fun e=>?_) (fun e=>?_)
   ·subst e;refine zaZ hm hΦ a X T ex rt kn res k J st h (by simpa[zab]using he) (fun id κ hl=>?_) hrt (fun T' ρ' st' h' hi hκ=>hkn T' ρ' st' h' (ia hi) hκ);obtain⟨k',h1,h2⟩:=hex id κ hl;exact⟨k',h1,fun T' ρ' st' h' hi hκ=>h2 T' ρ' st' h' (ia hi) hκ⟩
   ·subst e;refine zaZ hm hΦ b X T ex rt kn res k J st h (by simpa[zab]using he) (fun id κ hl=>?_) hrt (fun T' ρ' st' h' hi hκ=>hkn T' ρ' st' h' (ib hi) hκ);obtain⟨k',h1,h2⟩:=hex id κ hl;exact⟨k',h1,fun T' ρ' st' h' hi hκ=>h2 T' ρ' st' h' (ib hi) hκ⟩
  ·cases he
 |.block id b,X,T,ex,rt,kn,res,k,J,st,h,he,hex,hrt,hkn=>by
  simp only[zgo]at he;refine AW.block (zaZ hm hΦ b X T ((id,kn):: ex) rt kn res (.inBlock id:: k) J st h he (fun i κ hl=>?_) hrt (fun T' ρ' st' h' hi hκ=>AW.inBlock (hkn T' ρ' st' h' hi hκ)));simp only[ziR]at hl;cases e:Nat.beq id i with
  |true=>rw[e]at hl;simp only[Option.some.injEq]at hl;subst hl;exact⟨k,by simp[zfg,Nat.eq_of_beq_eq_true e],hkn⟩
  |false=>rw[e]at hl;obtain⟨k',h1,h2⟩:=hex i κ hl;exact⟨k',by simp[zfg,Nat.ne_of_beq_eq_false e,h1],h2⟩
 |.exit id,X,T,ex,rt,kn,res,k,J,st,h,he,hex,hrt,hkn=>by
  simp only[zgo]at he;split at he
  ·rename_i κ hl;obtain⟨k',h1,h2⟩:=hex id κ hl;exact AW.exit h1 (h2 T J st h (.refl _ _ _) he)
  ·cases he
 |.ret,X,T,ex,rt,kn,res,k,J,st,h,he,hex,hrt,hkn=>hrt T J st k h (by simpa[zgo]using he)
 |.loop _,X,T,ex,rt,kn,res,k,J,st,h,he,hex,hrt,hkn=>by simp[zgo]at he
 |.join b,X,T,ex,rt,kn,res,k,J,st,h,he,hex,hrt,hkn=>by simp only[zgo]at he;refine AW.join (zaZ hm hΦ b X T ex rt kn res (.stop:: k) J st h he (fun i κ hl=>?_) hrt (fun T' ρ' st' h' hi hκ=>AW.stop (hkn T' ρ' st' h' hi hκ)));obtain⟨k',h1,h2⟩:=hex i κ hl;exact⟨k',by simpa[zfg]using h1,h2⟩
 |.own n es b,X,T,ex,rt,kn,res,k,J,st,h,he,hex,hrt,hkn=>by
  simp only[zgo]at he;exact AW.wrap (x:=b) (fun c hc=>by simpa[chkC]using hc) (zaZ hm hΦ b X T ex rt kn res k J st h he (fun i κ hl=>by
   obtain⟨k',h1,h2⟩:=hex i κ hl;exact⟨k',h1,fun T' ρ' st' h' hi hκ=>h2 T' ρ' st' h' (hi.mono (fun _ h=>h) (fun e=>by simp[zbG]at e)) hκ⟩) hrt
   (fun T' ρ' st' h' hi hκ=>hkn T' ρ' st' h' (hi.mono (fun _ h=>h) (fun e=>by simp[zbG]at e)) hκ))
 |.frz n es b,X,T,ex,rt,kn,res,k,J,st,h,he,hex,hrt,hkn=>by
  have both:∀T1:TS,zgo Φ tys b X T1 ex rt kn=some res->(∃st1 ρ1,Gh st st1/\TR ρ1 T1 st1/\Inv (wrC b) false T T1)->AW C (.code (.frz n es b):: k) st:=by
   intro T1 he ⟨st1,ρ1,g1,g2,g3⟩;have up:∀{T':TS},Inv (wrC b) (zbG Φ b) T1 T'->Inv (wrC (.frz n es b)) (zbG Φ (.frz n es b)) T T':=fun hi=>(g3.trans (hi.mono (fun _ h=>h) (fun e=>by cases e))).mono (fun _ h=>h) (fun e=>by simp[zbG]at e)
   refine AW.wrap (x:=b) (fun c hc=>by simpa[chkC]using hc) (g1.2 C _ (zaZ hm hΦ b X T1 ex rt kn res k ρ1 st1 g2 he (fun i κ hl=>?_) hrt (fun T' ρ' st' h' hi hκ=>hkn T' ρ' st' h' (up hi) hκ)));obtain⟨k',h1,h2⟩:=hex i κ hl;exact⟨k',h1,fun T' ρ' st' h' hi hκ=>h2 T' ρ' st' h' (up hi) hκ⟩
  simp only[zgo]at he;split at he
  ·refine both _ he ?_;unfold fzT;split
   ·exact⟨st,J,.refl _,h,.refl _ _ _⟩
   ·obtain⟨st1,g1,g2⟩:=zkE (zcg T.mem 200 (lookV T.env n).refs []) h;refine⟨st1,J,g1,g2,fun m hm hc=>.inl ?_,fun e _=>by cases e⟩;show lookV (T.env.map fun p=>(p.1,fzW T.mem _ p.2)) m=_;rw[zkR (fzW T.mem _) (by simp[fzW,V.pur,fzV])];rcases hc with hc|hc|hc
    ·simp[fzW,hc]
    ·cases hv:lookV T.env m<;>rw[hv]at hc<;>simp[V.isJ]at hc;simp[fzW,V.pur,fzV]
    ·cases hc.1
  ·split at he
   ·split at he
    ·obtain⟨T1,ρ1,he,h1,e1⟩:=zrn h he;obtain⟨T2,ρ2,he,h2,e2⟩:=zrn h1 he;exact both _ he ⟨st,ρ2,.refl _,h2,fun m hm hc=>.inl (by rw[e2,e1]),fun e _=>by cases e⟩
    ·cases he
   ·split at he
    ·refine both _ he ?_;obtain⟨st1,ρ1,g1,g2⟩:=zAx h n;refine⟨st1,ρ1,g1,g2,fun m hm hc=>.inl ?_,fun e _=>by cases e⟩;unfold owB;repeat' split
     all_goals rfl
    ·split at he
     ·refine both _ he ?_;obtain⟨st1,ρ1,g1,g2⟩:=zx1 h n (es-1100);exact⟨st1,ρ1,g1,g2,fun m hm hc=>.inl (by rw[zvI]),fun e _=>by cases e⟩
     refine both _ he ?_;obtain⟨st1,g1,g2⟩:=zxg (zcg T.mem 200 (lookV T.env n).refs []) h;exact⟨st1,J,g1,g2,fun m hm hc=>.inl rfl,fun e _=>by cases e⟩
 |.jn r ss ks b,X,T,ex,rt,kn,res,k,J,st,h,he,hex,hrt,hkn=>by
  simp only[zgo]at he;split at he
  ·cases he
  ·rename_i hoff;have hpt:zbA Φ b T=true->zbG Φ b=true/\noOw T.mem=true:=fun e=>by simpa[zbA]using e
   have hno:zbG Φ b=true->noOw T.mem=true->zbA Φ b T=true:=fun e e'=>by simp[zbA,e,e']
   have up:∀{T':TS},Inv (wrC b) (zbG Φ b) T T'->Inv (wrC (.jn r ss ks b)) (zbG Φ (.jn r ss ks b)) T T':=fun hi=>hi.mono (fun n hn=>by simp only[wrC,zbr,Bool.or_eq_false_iff]at hn;exact hn.2) id
   have fin:∀(T':TS)(ρ':Nat->Nat)(st':St) d,TR ρ' T' st'->Inv (wrC b) (zbG Φ b) T T'->zpN (zbA Φ b T) (zdU (zbA Φ b T) tys T ss ks) T ks T'=some d->
    kn (mkJ (zbA Φ b T) (zdU (zbA Φ b T) tys T ss ks) T ss ks d)=some res->AW C k st':=by
    intro T' ρ' st' d h' hi hd hκ;obtain⟨st2,ρ2,g1,g2⟩:=ziM (W:=ss++wrC b) (slots:=ss) h' (hi.mono (fun n hn=>by simp only[zbr,Bool.or_eq_false_iff]at hn;exact hn.2) id) (fun n hn=>zrj hoff hn) hpt rfl hd;exact g1.2 C _ (hkn _ ρ2 st2 g2 ((zm4 (wrC b) d).no hno) hκ)
   refine AW.wrap (x:=b) (fun c hc=>by simpa[chkC]using hc) ?_;cases r with
   |false=>simp only at he;obtain⟨d,h1,h2⟩:=zas he;exact zaZ hm hΦ b _ T [] (fun _=>none) _ d k J st h h1 (fun i κ hl=>by simp[ziR]at hl) (fun T' ρ' st' k' h' hκ=>by cases hκ) (fun T' ρ' st' h' hi hκ=>fin T' ρ' st' d h' hi hκ h2)
   |true=>
    simp only at he;obtain⟨x,h1,h2⟩:=zas he;refine zaZ hm hΦ b _ T _ _ _ x k J st h h1 (fun i κ hl=>?_) (fun T' ρ' st' k' h' hκ=>?_) (fun T' ρ' st' h' hi hκ=>?_)
    ·rw[zkT (fun(q:TS->Option X)(T':TS)=>zaa (q T') fun x=>some (Sum.inr x:(zdU (zbA Φ b T) tys T ss ks).D⊕X))]at hl;simp only[Option.map_eq_some_iff]at hl;obtain⟨q,hq,rfl⟩:=hl;obtain⟨k',g1,g2⟩:=hex i q hq;refine⟨k',g1,fun T' ρ' st' h' hi hκ=>?_⟩;obtain⟨y,e1,e2⟩:=zas hκ;cases e2;simp only[caseS]at h2;cases h2;exact g2 T' ρ' st' h' (up hi) e1
    ·obtain⟨y,e1,e2⟩:=zas hκ;cases e2;simp only[caseS]at h2;cases h2;exact hrt T' ρ' st' k' h' e1
    ·simp only[ygc]at hκ;obtain⟨d,e1,e2⟩:=hκ;cases e2;simp only[caseS]at h2;exact fin T' ρ' st' d h' hi e1 h2
 |.lp r id ss ks b,X,T,ex,rt,kn,res,k,J,st,h,he,hex,hrt,hkn=>by
  simp only[zgo]at he;split at he
  ·cases he
  ·rename_i κ hκ;obtain⟨kx,hx1,hx2⟩:=hex id κ hκ;split at he
   ·cases he
   ·rename_i hoff;have hpt:zbA Φ b T=true->zbG Φ b=true/\noOw T.mem=true:=fun e=>by simpa[zbA]using e
    have hno:zbG Φ b=true->noOw T.mem=true->zbA Φ b T=true:=fun e e'=>by simp[zbA,e,e']
    simp only[ygc]at he;obtain⟨d0,hd0,he⟩:=he;have joint:∀(T':TS)(ρ':Nat->Nat)(st':St) d,TR ρ' T' st'->Inv (ss++wrC b) (zbG Φ b) T T'->zpN (zbA Φ b T) (zdU (zbA Φ b T) tys T ss ks) T ks T'=some d->
     ∃st2 ρ2,Gh st' st2/\TR ρ2 (mkJ (zbA Φ b T) (zdU (zbA Φ b T) tys T ss ks) T ss ks d) st2:=by
     intro T' ρ' st' d h' hi hd;exact ziM (W:=ss++wrC b) (slots:=ss) h' hi (fun n hn=>zrj hoff hn) hpt rfl hd
    have round:∀{T':TS}(d:(zdU (zbA Φ b T) tys T ss ks).D),Inv (wrC b) (zbG Φ b) (mkJ (zbA Φ b T) (zdU (zbA Φ b T) tys T ss ks) T ss ks d) T'->Inv (ss++wrC b) (zbG Φ b) T T':=fun d hi=>((zm4 (wrC b) d).no hno).trans (hi.mono (fun n hn=>by simp only[zbr,Bool.or_eq_false_iff]at hn;exact hn.2) (fun e=>e))
    have fin:∀(T':TS)(ρ':Nat->Nat)(st':St) d,TR ρ' T' st'->Inv (ss++wrC b) (zbG Φ b) T T'->zpN (zbA Φ b T) (zdU (zbA Φ b T) tys T ss ks) T ks T'=some d->
     κ (mkJ (zbA Φ b T) (zdU (zbA Φ b T) tys T ss ks) T ss ks d)=some res->AW C kx st':=by
     intro T' ρ' st' d h' hi hd hk;obtain⟨st2,ρ2,g1,g2⟩:=joint T' ρ' st' d h' hi hd;exact g1.2 C _ (hx2 _ ρ2 st2 g2 ((zm4 (wrC b) d).no hno) hk)
    have next:∀(T':TS)(ρ':Nat->Nat)(st':St) d,TR ρ' T' st'->Inv (ss++wrC b) (zbG Φ b) T T'->zpN (zbA Φ b T) (zdU (zbA Φ b T) tys T ss ks) T ks T'=some d->
     (∀st2,(∃ρ2,TR ρ2 (mkJ (zbA Φ b T) (zdU (zbA Φ b T) tys T ss ks) T ss ks d) st2)->AW C (.inLoop b:: k) st2)->AW C (.inLoop b:: k) st':=by
     intro T' ρ' st' d h' hi hd hk;obtain⟨st2,ρ2,g1,g2⟩:=joint T' ρ' st' d h' hi hd;exact g1.2 C _ (hk st2 ⟨ρ2,g2⟩)
    obtain⟨st0,ρ0,g0,t0⟩:=joint T J st d0 h (.refl _ _ _) hd0;refine AW.lp (g0.2 C _ ?_);cases r with
    |false=>
     simp only at he;obtain⟨y,hl,hy⟩:=zas he;obtain⟨n,hn⟩:=zt3 hl;refine zmY (fun d st1=>∃ρ1,TR ρ1 (mkJ (zbA Φ b T) (zdU (zbA Φ b T) tys T ss ks) T ss ks d) st1) (fun d st1 r hs hb hr=>?_) n d0 st0 ⟨ρ0,t0⟩ hn;obtain⟨ρ1,hs⟩:=hs;refine zaZ hm hΦ b _ _ _ (fun _=>none) _ r (.inLoop b:: k) ρ1 st1 hs hb (fun i κ' hl'=>?_) (fun T' ρ' st' k' h' hκ'=>by cases hκ') (fun T' ρ' st' h' hi hκ'=>?_)
     ·simp only[ziR]at hl';cases e:Nat.beq id i with
      |false=>rw[e]at hl';cases hl'
      |true=>
       rw[e]at hl';have e:=Nat.eq_of_beq_eq_true e;subst e;cases hl';refine⟨kx,by simpa[zfg]using hx1,fun T' ρ' st' h' hi hκ'=>?_⟩;simp only[ygc]at hκ';obtain⟨d',e1,e2⟩:=hκ';cases e2;rcases hr with hr|⟨_,hr,_⟩
       ·cases hr;exact fin T' ρ' st' _ h' (round d hi) e1 hy
       ·cases hr
     ·simp only[ygc]at hκ';obtain⟨d',e1,e2⟩:=hκ';cases e2;rcases hr with hr|⟨d'',hr,hk⟩
      ·cases hr
      ·cases hr;exact next T' ρ' st' d' h' (round d hi) e1 hk
    |true=>
     simp only at he;obtain⟨y,hl,hy⟩:=zas he;obtain⟨n,hn⟩:=zt3 hl;refine zmY (fun d st1=>∃ρ1,TR ρ1 (mkJ (zbA Φ b T) (zdU (zbA Φ b T) tys T ss ks) T ss ks d) st1) (fun d st1 r hs hb hr=>?_) n d0 st0 ⟨ρ0,t0⟩ hn;obtain⟨ρ1,hs⟩:=hs;refine zaZ hm hΦ b _ _ _ _ _ r (.inLoop b:: k) ρ1 st1 hs hb (fun i κ' hl'=>?_) (fun T' ρ' st' k' h' hκ'=>?_) (fun T' ρ' st' h' hi hκ'=>?_)
     ·simp only[ziR]at hl';cases e:Nat.beq id i with
      |false=>
       rw[e]at hl';rw[zkT (fun(q:TS->Option X)(T':TS)=>zaa (q T') fun x=>some (Sum.inr (Sum.inr x):(zdU (zbA Φ b T) tys T ss ks).D⊕((zdU (zbA Φ b T) tys T ss ks).D⊕X)))]at hl';simp only[Option.map_eq_some_iff]at hl';obtain⟨q,hq,rfl⟩:=hl';obtain⟨k',g1,g2⟩:=hex i q hq;refine⟨k',by simpa[zfg]using g1,fun T' ρ' st' h' hi hκ'=>?_⟩;obtain⟨z,e1,e2⟩:=zas hκ';cases e2;rcases hr with hr|⟨_,hr,_⟩
       ·cases hr;simp only[caseS]at hy;cases hy;exact g2 T' ρ' st' h' (round d hi) e1
       ·cases hr
      |true=>
       rw[e]at hl';have e:=Nat.eq_of_beq_eq_true e;subst e;cases hl';refine⟨kx,by simpa[zfg]using hx1,fun T' ρ' st' h' hi hκ'=>?_⟩;simp only[ygc]at hκ';obtain⟨d',e1,e2⟩:=hκ';cases e2;rcases hr with hr|⟨_,hr,_⟩
       ·cases hr;exact fin T' ρ' st' d' h' (round d hi) e1 (by simpa[caseS]using hy)
       ·cases hr
     ·obtain⟨z,e1,e2⟩:=zas hκ';cases e2;rcases hr with hr|⟨_,hr,_⟩
      ·cases hr;simp only[caseS]at hy;cases hy;exact hrt T' ρ' st' k' h' e1
      ·cases hr
     ·simp only[ygc]at hκ';obtain⟨d',e1,e2⟩:=hκ';cases e2;rcases hr with hr|⟨d'',hr,hk⟩
      ·cases hr
      ·cases hr;exact next T' ρ' st' d' h' (round d hi) e1 hk
end
end Go.Fw
namespace Go.Fw
open Go
def znW(f:Func):Code:=match f.body with|some c=>c|none=>.skip
def chkF(P:Program)(fn:Func)(c:CC)(np:Nat)(rs:List RV):Bool:=
 fn.body.isSome&&chkC P fn.ntmps c (znW fn)&&zxA P fn.results.toList rs&&decide (np<=fn.ntmps)
structure FnOk (P:Program)(f:FuncId)(c:CC)(np:Nat)(rs:List RV):Prop where
 fn:∃fn,P.funcs[f]? =some fn/\chkF P fn c np rs=true
 call:∀as w,(callFunc f as).run P w=.ok (.enter f as) w
 mix:P.follows .mixedOrders=true
theorem zot:∀(s:Sh),s.pur=true->zdH s .junk=none:=by intro s h;cases s<;>simp[Sh.pur]at h<;>simp[zdH,V.toL,V.to]
section
variable [Pin]{J:Nat->Nat}{T:TS}{st:St}
theorem zwq(h:TR J T st)(rv:RV)(hj:zdE T rv≠.junk):∃a,VR J T.mem (zdE T rv) a/\∀(C:Ctx) rs acc,zlu C rs (a:: acc) st->zlu C (rv:: rs) acc st:=by
 cases rv with
 |t n=>exact⟨_,h.env n,fun C rs acc hh=>by simpa[zlu]using hh⟩
 |c n k=>
  have hn:=h.env n;cases k with
  |none=>
   simp only[zdE]at hj|-;split at hj
   ·rename_i r row off e;rw[e]at hn;split at hj
    ·rename_i b cs hr;simp only[VR,mpR,hr]at hn;obtain⟨h1,rfl⟩:=hn;obtain⟨as,g1,g2⟩:=h.box r b cs hr;split at hj
     ·rename_i c hb hc;obtain⟨a,a1,a2⟩:=g2.get off c hc;refine⟨a,by simpa only[e,hr,hc,hb]using a2,fun C rs acc hh=>?_⟩;simp only[zlu,evK,zzX,h1,g1,zbQ hb,List.getElem?_cons_zero,a1];exact⟨trivial,hh⟩
     ·exact absurd rfl hj
    ·exact absurd rfl hj
   ·rename_i c cs e;rw[e]at hn;simp only[VR,VRL]at hn;obtain⟨as,h1,a,as',rfl,g1,g2⟩:=hn;refine⟨a,by simpa only[e]using g1,fun C rs acc hh=>?_⟩;simp only[zlu,evK,zzX,h1,List.head?_cons];exact⟨trivial,hh⟩
   ·exact absurd rfl hj
  |some k=>
   simp only[zdE]at hj|-;split at hj
   ·rename_i r row off e;rw[e]at hn;split at hj
    ·rename_i b cs hr;simp only[VR,mpR,hr]at hn;obtain⟨h1,rfl⟩:=hn;obtain⟨as,g1,g2⟩:=h.box r b cs hr;split at hj
     ·rename_i hb hk;refine⟨.agg ((as.drop off).take k),?_,fun C rs acc hh=>?_⟩
      ·simp only[VR];exact⟨_,rfl,(g2.drop off).take k⟩
      ·simp only[zlu,evK,zzX,h1,g1,zbQ hb,List.getElem?_cons_zero];exact⟨by rw[g2.len];exact Nat.le_of_ble_eq_true hk,hh⟩
     ·exact absurd rfl hj
    ·exact absurd rfl hj
   ·rename_i m x e;rw[e]at hn;simp only[VR]at hn;split at hj
    ·rename_i hk;have hk:=Nat.eq_of_beq_eq_true hk;refine⟨.agg (zdI m x),by simp[VR],fun C rs acc hh=>?_⟩;simp only[zlu,evK,zzX,hn];have e1:(zdI m x).take k=zdI m x:=by rw[hk,<-zcf m x,List.take_length]
     rw[e1];exact⟨by rw[zcf,hk];exact Nat.le_refl _,hh⟩
    ·exact absurd rfl hj
   ·rename_i cs e;rw[e]at hn;simp only[VR]at hn;obtain⟨as,h1,g2⟩:=hn;split at hj
    ·rename_i hk;refine⟨.agg (as.take k),?_,fun C rs acc hh=>?_⟩
     ·simp only[VR];exact⟨_,rfl,g2.take k⟩
     ·simp only[zlu,evK,zzX,h1];exact⟨by rw[g2.len];exact Nat.le_of_ble_eq_true hk,hh⟩
    ·exact absurd rfl hj
   ·exact absurd rfl hj
theorem zk2(h:TR J T st):∀(rs:List RV),(∀rv∈rs,zdE T rv≠.junk)->∃as,VRL J T.mem (rs.map (zdE T)) as/\∀(C:Ctx) acc,C.R (znv (acc.reverse++as)) st.mem->zlu C rs acc st
|[],_=>⟨[],by simp[VRL],fun C acc hh=>by simpa[zlu]using hh⟩
|rv:: rs,hj=>by obtain⟨a,g1,g2⟩:=zwq h rv (hj rv (by simp));obtain⟨as,g3,g4⟩:=zk2 h rs fun rv' hr=>hj rv' (by simp[hr]);exact⟨a:: as,.cons g1 g3,fun C acc hh=>g2 C rs acc (g4 C (a:: acc) (by simpa using hh))⟩
theorem zxI{vs:List V}{as:List AV}(h:VRL J T.mem vs as):VR J T.mem (zpd vs) (znv as):=by
 match vs,as,h with
 |[],as,h=>simp only[VRL]at h;subst h;simp[zpd,znv,VR,VRL]
 |[v],as,h=>simp only[VRL]at h;obtain⟨a,_,rfl,h1,rfl⟩:=h;exact h1
 |v:: v':: vs,as,h=>
  have hl:=h.len;match as,hl with
  |a:: a':: as,_=>simp only[zpd,znv,VR];exact⟨_,rfl,h⟩
theorem zss{s:Sh}{vs:List V}{d:Dat s}(hs:s.pur=true)(h:zdH s (zpd vs)=some d):∀v∈vs,v≠.junk:=by
 match vs,h with
 |[],_=>intro v hv;simp at hv
 |[v],h=>intro v' hv e;simp at hv;subst hv;subst e;rw[show zpd [V.junk]=.junk from rfl,zot s hs]at h;cases h
 |v1:: v2:: vs,h=>
  have key:∀(ss:List Sh)(vs:List V)(d:DatL ss),Sh.purL ss=true->zb2 ss vs=some d->∀v∈vs,v≠.junk:=by
   intro ss;induction ss with
   |nil=>intro vs d _ h;cases vs<;>simp[zb2]at h;intro v hv;simp at hv
   |cons s ss ih=>
    intro vs d hp h;cases vs with
    |nil=>simp[zb2]at h
    |cons v vs=>
     simp only[Sh.purL,yhb]at hp;simp only[zb2,ygc]at h;obtain⟨x,h1,y,h2,_⟩:=h;intro v' hv e;rcases List.mem_cons.1 hv with rfl|hv
     ·subst e;rw[zot s hp.1]at h1;cases h1
     ·exact ih vs y hp.2 h2 v' hv e
  rw[show zpd (v1:: v2:: vs)=.tup (v1:: v2:: vs)from rfl]at h;cases s with
  |tup ss=>exact key ss _ d (by simpa[Sh.pur]using hs) h
  |no=>simp[Sh.pur]at hs
  |lst t=>simp[zdH,V.toL]at h
  |st n=>simp[zdH,V.to]at h
  |_=>simp[zdH]at h
end
theorem Spec.imp{P:Program}{f:FuncId}{args:List AV}{r:AV}(h:Spec P f args [] (fun r' _=>Imp r' r))(hr:r.pure=true):Spec P f args [] (fun r' m'=>r'=r/\m'=[]):=
 ⟨h.1,fun H F Z cargs w hs hl ha=>(h.2 H F Z cargs w hs hl ha).mono fun _ _ ⟨v,r',m',H',β',h1,h2,h3,h4,h5,h6,h7⟩=>by refine⟨v,r,[],H',[],h1,⟨rfl,rfl⟩,(h2 _ _ _ h3).pure hr _,?_,h5,fun i hi=>by simp at hi,by simp⟩;have:=Sat.drop (mem:=[]) (rest:=m') (by simpa using h4) (by simp);simpa using this⟩
theorem zj8:∀(l:List V)(n:Nat),(zee n l).map (fun p=>p.2)=l
|[],_=>rfl
|v:: l,n=>by simp[zee,zj8 l (n+1)]
theorem zsr(ash:List Sh)(d:DatL (ash++([]:List RK).map RK.sh)):zo0 ash [] [] d=zc7 ash [] d:=by simp only[zo0,zc7,List.take_nil,mvRs,zj8]
theorem zvP{P:Program}{Φ:List TE}{tys:List (Nat×An)}{f:FuncId}{c:CC}{np:Nat}{rs:List RV}{ash:List Sh}{rsh:Sh}{d:DatL (ash++[].map RK.sh)}{r:DatL (rsh:: [].map RK.sh)}
 (hf:FnOk P f c np rs)(hn:ash.length=np)(hΦ:∀e∈Φ,EOk P e)(ha:Sh.purL ash=true)(hr:rsh.pur=true)(h:zei Φ tys c rs ash [] rsh [] d=some r):
 PS P f (encPL (mkVL (ash++[].map RK.sh) d)) (encP ((mkVL (rsh:: [].map RK.sh) r).headD .junk)):=by
 letI pin0:Pin:={nin:=0,ini:=[],len:=rfl}
 obtain⟨fn,h1,h2⟩:=hf.fn;unfold chkF at h2;simp only[yhb,yhc]at h2;obtain⟨⟨⟨h3,h4⟩,h5⟩,h6⟩:=h2;have hb:fn.body=some (znW fn):=by
  unfold znW;cases hfb:fn.body with
  |none=>rw[hfb]at h3;cases h3
  |some c=>rfl
 have hap:V.purL (mkVL (ash++[].map RK.sh) d)=true:=zge _ d (by simpa using ha);have hal:(encPL (mkVL (ash++[].map RK.sh) d)).length=np:=by rw[zob,zdR];simpa using hn
 have hrv:((mkVL (rsh:: [].map RK.sh) r).headD .junk).pur=true:=zna rsh (DP.g1 rsh.hasD (Sh.hasDL ([].map RK.sh)) (df rsh) r) hr;have hrpure:(encP ((mkVL (rsh:: [].map RK.sh) r).headD .junk)).pure=true:=VR.pur (J:=id) (mem:=[]) (ziF _ hrv) hrv;refine⟨VRL.pur (J:=id) (mem:=[]) (zeP _ hap) hap,hrpure,Spec.imp (Spec.of_AW h1 hf.call hb h4 (by rw[hal];exact h6) (fun _ _ _=>Nat.zero_le _) ?_) hrpure⟩;have hst:TR id (zc7 ash [] d) ⟨zed 0 (encPL (mkVL (ash++[].map RK.sh) d)),[]⟩:=by
  have e1:(mkVL (ash++[].map RK.sh) d).take ash.length=mkVL (ash++[].map RK.sh) d:=List.take_of_length_le (by rw[zdR];simp);refine⟨fun n=>?_,fun r b cs hh=>?_,fun r b cs hh=>?_,fun r r' x x' hh=>?_,⟨fun _=>[],fun r t xs w hh=>?_,fun _ _=>rfl,fun _=>List.nodup_nil,fun _ _ _ i hi=>(by simp at hi),fun _ _ _ _ _ hi=>(by simp at hi)⟩,fun j hj=>absurd hj (Nat.not_lt_zero j)⟩
  ·simp only[zc7,e1];exact(zhO (J:=id) _ _ 0 (zeP _ hap)).look n
  all_goals simp[zc7,zfD]at hh
 have fin:∀(C:Ctx) T' ρ' st',C.R=(fun r' _=>Imp r' (encP ((mkVL (rsh:: [].map RK.sh) r).headD .junk)))->TR ρ' T' st'->zzM rs rsh [] T'=some r->∃st1,Gh st' st1/\zlu C rs [] st1:=by intro C T' ρ' st' hC h' hfin;simp only[zzM,zeU]at hfin;obtain⟨st1,g1,g2⟩:=zkE (zhj 0 T'.mem.length) h';simp only[zb2,ygc]at hfin;obtain⟨x,x1,y,y1,y2⟩:=hfin;have hjunk:∀rv∈rs,zdE (fzO (zhj 0 T'.mem.length) T') rv≠.junk:=fun rv hrv=>zss hr x1 _ (List.mem_map.2 ⟨rv,hrv,rfl⟩);obtain⟨as,q1,q2⟩:=zk2 g2 rs hjunk;obtain⟨a',z1,z2,_⟩:=zpO rsh _ x _ x1 (zxI q1);refine⟨st1,g1,q2 C [] ?_⟩;rw[hC];simp only[List.reverse_nil,List.nil_append];cases y2;rw[zkX,List.headD_cons,<-zpe z1 (zna rsh x hr)];exact z2.1
 unfold zei at h;rw[zsr]at h;refine zaZ (C:=⟨P,fn,(([]:List Ent)).length,_⟩) hf.mix hΦ c _ _ [] _ _ r [] id _ hst h (fun id κ hl=>by simp[ziR]at hl) (fun T' ρ' st' k' h' hκ=>?_) (fun T' ρ' st' h' _ hκ=>?_)
 ·obtain⟨st1,g1,g2⟩:=fin ⟨P,fn,(([]:List Ent)).length,_⟩ T' ρ' st' rfl h' hκ;exact g1.2 _ _ (AW.ret h5 g2)
 ·obtain⟨st1,g1,g2⟩:=fin ⟨P,fn,(([]:List Ent)).length,_⟩ T' ρ' st' rfl h' hκ;exact g1.2 _ _ (AW.fall h5 g2)
end Go.Fw
namespace Go.Fw
open Go
theorem Sat.pull{H:Hp}{F:Fr}{Z:Bt}{m mC:List Ent}{w:World}{g:Nat->Nat}(hs:Sat H F Z m w)(hent:∀(i:Nat)(e:Ent),mC[i]? =some e->e.live=true->m[g i]? =some (e.ren g))(hbel:∀e∈mC,e.bel mC.length)
 (hinj:∀(i i':Nat)(e e':Ent),mC[i]? =some e->e.live=true->mC[i']? =some e'->e'.live=true->g i=g i'->i=i'):
 Sat H F ((List.range mC.length).map fun i=>(Z[g i]?).getD none) mC w/\∀(i:Nat) y,i<mC.length->Z[g i]? =some y->((List.range mC.length).map fun i=>(Z[g i]?).getD none)[i]? =some y:=by
 have hβ:∀(i:Nat) y,i<mC.length->Z[g i]? =some y->((List.range mC.length).map fun i=>(Z[g i]?).getD none)[i]? =some y:=fun i y hi hy=>by simp[hi,hy]
 have back:∀(i:Nat)(e:Ent),mC[i]? =some e->e.live=true->∀x,((List.range mC.length).map fun i=>(Z[g i]?).getD none)[i]? =some x->Z[g i]? =some x:=fun i e hi he x hx=>by
  have h1:=hent i e hi he;have h2:g i<Z.length:=by rw[hs.hl];exact(yga.1 h1).1
  have h3:Z[g i]? =some Z[g i]:=ygb h2;have:=hβ i _ (yga.1 hi).1 h3;rw[this]at hx;rw[h3];exact hx
 refine⟨{hH:=hs.hH,gh:=hs.gh,hF:=hs.hF,sm:=hs.sm,hl:=by simp,ent:=fun i e x hi hx=>?_,apart:=fun i e x hi he hx=>?_,inj:=fun i i' e e' x y hi he hi' he' hx hy hxy=>?_},hβ⟩
 ·cases hl:e.live with
  |false=>cases e<;>simp[Ent.live]at hl;trivial
  |true=>exact(hs.ent _ _ x (hent i e hi hl) (back i e hi hl x hx)).unren (hbel e (ygd hi)) hβ
 ·exact hs.apart _ _ x (hent i e hi he) (by rw[Ent.live_ren];exact he) (back i e hi he _ hx)
 ·exact hinj i i' e e' hi he hi' he' (hs.inj _ _ _ _ x y (hent i e hi he) (by rw[Ent.live_ren];exact he) (hent i' e' hi' he') (by rw[Ent.live_ren];exact he') (back i e hi he _ hx) (back i' e' hi' he' _ hy) hxy)
theorem Spec.post{P:Program}{f:FuncId}{args:List AV}{mem:List Ent}{R R2:AV->List Ent->Prop}(h:Spec P f args mem R)
 (hp:∀(F:Fr)(H':Hp)(Z β':Bt) r m v w',R r m->Sat H' F β' m w'->Rep H' β' r v->zvu mem.length Z β'->Z.length=mem.length->mem.length<=m.length->
  ∃r2 m2 β2,R2 r2 m2/\Rep H' β2 r2 v/\Sat H' F β2 m2 w'/\zvu mem.length Z β2/\mem.length<=m2.length):Spec P f args mem R2:=
 ⟨h.1,fun H F Z cargs w hs hl ha=>(h.2 H F Z cargs w hs hl ha).mono fun _ _ ⟨v,r,m',H',β',h1,h2,h3,h4,h5,h6,h7⟩=>by obtain⟨r2,m2,β2,q1,q2,q3,q4,q5⟩:=hp F H' Z β' r m' v _ h2 h4 h3 h6 hs.hl h7;exact⟨v,r2,m2,H',β2,h1,q1,q2,q3,h5,q4,q5⟩⟩
theorem AW.len{C:Ctx}{k:List CItem}{st:St}(h:C.n0<=st.mem.length->AW C k st):AW C k st:=
 fun H F Z a w b cs todo hm hr hn=>h hn H F Z a w b cs todo hm hr hn
theorem zmc:∀(s:Sh),s≠.no->zdH s .junk=none:=by intro s h;cases s<;>first|exact absurd rfl h|simp[zdH,V.toL,V.to]
theorem zxH{rk:List RK}{s:Sh}(h:s.sol rk=true):s≠.no:=by rintro rfl;simp[Sh.sol]at h
theorem zwu{f:Nat->Nat}{v:V}:v.ren f=.junk↔v=.junk:=by cases v<;>simp[V.ren]
theorem zjp{rk:List RK}:∀(ss:List Sh)(vs:List V)(d:DatL ss),Sh.solL rk ss=true->zb2 ss vs=some d->∀v∈vs,v≠.junk
|[],vs,d,_,h=>by cases vs<;>simp[zb2]at h;intro v hv;simp at hv
|s:: ss,[],d,hp,h=>by simp[zb2]at h
|s:: ss,v:: vs,d,hp,h=>by
 simp only[Sh.solL,yhb]at hp;simp only[zb2,ygc]at h;obtain⟨x,h1,y,h2,_⟩:=h;intro v' hv e;rcases List.mem_cons.1 hv with rfl|hv
 ·subst e;rw[zmc s (zxH hp.1)]at h1;cases h1
 ·exact zjp ss vs y hp.2 h2 v' hv e
theorem zqi{rk:List RK}{s:Sh}{f:Nat->Nat}{vs:List V}{d:Dat s}(hs:s.sol rk=true)(h:zdH s ((zpd vs).ren f)=some d):∀v∈vs,v≠.junk:=by
 match vs,h with
 |[],_=>intro v hv;simp at hv
 |[v],h=>intro v' hv e;simp at hv;subst hv;subst e;rw[show zpd [V.junk]=.junk from rfl,show V.ren f .junk=.junk from rfl,zmc s (zxH hs)]at h;cases h
 |v1:: v2:: vs,h=>
  rw[show(zpd (v1:: v2:: vs)).ren f=.tup (V.renL f (v1:: v2:: vs))from rfl]at h;cases s with
  |tup ss=>
   have:=zjp ss _ d (by simpa[Sh.sol]using hs) h;intro v hv e;have key:∀(l:List V),v∈l->v.ren f∈V.renL f l:=by
    intro l;induction l with
    |nil=>intro h;simp at h
    |cons a l ih=>
     intro h;simp only[V.renL];rcases List.mem_cons.1 h with rfl|h
     ·simp
     ·simp[ih h]
   exact this _ (key _ hv) (zwu.2 e)
  |no=>simp[Sh.sol]at hs
  |lst t=>simp[zdH,V.toL]at h
  |st n=>simp[zdH,V.to]at h
  |_=>simp[zdH]at h
section
variable [Pin]
mutual
theorem VR.rn{J ρ':Nat->Nat}{mem mem':List Root}{f:Nat->Nat}(hf:∀(r:Nat) x,mem[r]? =some x->mem'[f r]? =some (x.ren f)/\(x.alive=true->ρ' (f r)=J r)):∀(v:V)(a:AV),VR J mem v a->VR ρ' mem' (v.ren f) a
|.own r,a,h=>by
 simp only[V.ren,VR,zep]at h|-;cases e:mem[r]? with
 |none=>rw[e]at h;exact h.elim
 |some x=>
  rw[e]at h;obtain⟨h1,h2⟩:=hf r x e;rw[h1];cases x with
  |dead=>exact h
  |arr t xs w=>simp only[Root.ren]at h|-;rw[h2 rfl];exact h
  |box b cs=>simp only[Root.ren]at h|-;rw[h2 rfl];exact h
|.part r off len,a,h=>by
 simp only[V.ren,VR,zgr]at h|-;cases e:mem[r]? with
 |none=>rw[e]at h;exact h.elim
 |some x=>
  rw[e]at h;obtain⟨h1,h2⟩:=hf r x e;rw[h1];cases x with
  |dead=>exact h
  |arr t xs w=>simp only[Root.ren]at h|-;rw[h2 rfl];exact h
  |box b cs=>exact h
|.mp r row off,a,h=>by
 simp only[V.ren,VR,mpR]at h|-;cases e:mem[r]? with
 |none=>rw[e]at h;exact h.elim
 |some x=>
  rw[e]at h;obtain⟨h1,h2⟩:=hf r x e;rw[h1];cases x with
  |dead=>exact h
  |arr t xs w=>simp only[Root.ren]at h|-;rw[h2 rfl];exact h
  |box b cs=>simp only[Root.ren]at h|-;rw[h2 rfl];exact h
|.agg cs,a,h|.tup cs,a,h|.ip cs,a,h|.fn _ cs,a,h=>by simp only[V.ren,VR]at h|-;obtain⟨as,rfl,h⟩:=h;exact⟨as,rfl,VRL.rn hf cs as h⟩
|.junk,_,h|.int _ _,_,h|.bool _,_,h|.str _,_,h|.lst _ _,_,h|.nl _,_,h|.e0,_,h|.st _ _,_,h|.ep _ _,_,h|.nilp,_,h|.nilf,_,h=>by simpa[V.ren,VR]using h
theorem VRL.rn{J ρ':Nat->Nat}{mem mem':List Root}{f:Nat->Nat}(hf:∀(r:Nat) x,mem[r]? =some x->mem'[f r]? =some (x.ren f)/\(x.alive=true->ρ' (f r)=J r)):∀(cs:List V)(as:List AV),VRL J mem cs as->VRL ρ' mem' (V.renL f cs) as
|[],as,h=>by simpa[V.renL,VRL]using h
|c:: cs,as,h=>by simp only[VRL]at h;obtain⟨a,as',rfl,h1,h2⟩:=h;simp only[V.renL];exact .cons (VR.rn hf c a h1) (VRL.rn hf cs as' h2)
end
theorem zou:∀{mem:List Root}{r:Nat}{t:Ty}{xs:List (TV t)}{w:Ow},zlA mem=false->mem[r]? =some (.arr t xs w)->w.shut=true
|[],r,t,xs,w,_,h=>by simp at h
|x:: mem,0,t,xs,w,hn,h=>by simp at h;subst h;cases w<;>simp[zlA]at hn|-<;>rfl
|x:: mem,r+1,t,xs,w,hn,h=>by
 refine zou (mem:=mem) (r:=r) ?_ (by simpa using h);cases x with
 |dead=>exact hn
 |arr _ _ w'=>cases w'<;>simp[zlA]at hn|-<;>exact hn
 |box _ _=>exact hn
theorem TR.mvR{J:Nat->Nat}{v:V}{a:AV}{mem:List Root}{m:List Ent}(j:Nat)(h:TR J ⟨[(0,v)],mem⟩ ⟨[(0,a)],m⟩):∃ρ',TR ρ' ⟨[(0,(Go.Fw.mvR j v mem).1)],(Go.Fw.mvR j v mem).2⟩ ⟨[(0,a)],m⟩:=by
 unfold Go.Fw.mvR;split
 ·exact⟨J,h⟩
 ·exact⟨J,h⟩
 ·rename_i x hnd hx;split
  ·exact⟨J,h⟩
  ·rename_i hop;have hjl:=(yga.1 hx).1;have hxa:x.alive=true:=by
    cases x with
    |dead=>exact absurd rfl hnd
    |arr _ _ _=>rfl
    |box _ _=>rfl
   let f:=rnm j mem.length;let mem':=(mem.set j .dead++[x]).map (Root.ren f);let ρ':Nat->Nat:=fun r=>if r=mem.length then J j else J r
   have fj:f j=mem.length:=by simp only[f,rnm,Nat.beq_refl]
   have fne:∀r,r≠j->f r=r:=fun r hr=>by
    simp only[f,rnm];cases e:Nat.beq r j with
    |true=>exact absurd (Nat.eq_of_beq_eq_true e) hr
    |false=>rfl
   have hf:∀(r:Nat) y,mem[r]? =some y->mem'[f r]? =some (y.ren f)/\(y.alive=true->ρ' (f r)=J r):=by
    intro r y hy;have hrl:=(yga.1 hy).1;by_cases e:r=j
    ·subst e;rw[hx]at hy;cases hy;rw[fj];exact⟨by simp[mem',ygf],fun _=>by simp only[ρ',if_pos rfl]⟩
    ·rw[fne r e];refine⟨?_,fun _=>by simp only[ρ'];rw[if_neg (by omega)]⟩;simp only[mem',List.getElem?_map];rw[yge (by simpa using hrl),ygg (fun h=>e h.symm),hy];rfl
   have back:∀(r:Nat) z,mem'[r]? =some z->z.alive=true->∃q y,mem[q]? =some y/\y.alive=true/\r=f q/\z=y.ren f/\ρ' r=J q:=by
    intro r z hz ha;simp only[mem',List.getElem?_map,Option.map_eq_some_iff]at hz;obtain⟨y,hy,rfl⟩:=hz;by_cases hr:r<mem.length
    ·rw[yge (by simpa using hr)]at hy;by_cases e:r=j
     ·subst e;simp[hjl]at hy;subst hy;cases ha
     ·rw[ygg (fun h=>e h.symm)]at hy;refine⟨r,y,hy,?_,(fne r e).symm,rfl,by simp only[ρ'];rw[if_neg (by omega)]⟩;cases y<;>first|exact ha|rfl
    ·rw[ygf (by simp;omega)]at hy;have hrl:r=mem.length:=by have:=(yga.1 hy).1;simp at this;omega
     subst hrl;simp at hy;subst hy;exact⟨j,x,hx,hxa,fj.symm,rfl,by simp only[ρ',if_pos rfl]⟩
   have finj:∀q q',q<mem.length->q'<mem.length->f q=f q'->q=q':=by
    intro q q' hq hq' e;by_cases a:q=j<;>by_cases b:q'=j
    ·rw[a,b]
    ·subst a;rw[fj,fne q' b]at e;omega
    ·subst b;rw[fj,fne q a]at e;omega
    ·rw[fne q a,fne q' b]at e;exact e
   obtain⟨fp,how⟩:=h.ow;refine⟨ρ',fun n=>?_,fun r b cs hr=>?_,fun r b cs hr=>?_,fun r r' y y' hr hy hr' hy' e=>?_,⟨fun r=>if r=mem.length then fp j else if r=j then[]else fp r,fun r t xs w hr=>?_,fun r hr=>?_,fun r=>?_,fun r r' hne i hi hi'=>?_,fun r r' y hr hy hi=>?_⟩,fun k hk=>?_⟩
   ·have:=h.env n;simp only[lookV,look]at this|-;cases e:Nat.beq 0 n with
    |true=>rw[e,if_pos (Nat.eq_of_beq_eq_true e)]at this;rw[if_pos (Nat.eq_of_beq_eq_true e)];exact VR.rn hf v a this
    |false=>rw[if_neg (Nat.ne_of_beq_eq_false e)];simp[VR]
   ·obtain⟨q,y,hq,hya,rfl,hz,hρ⟩:=back r _ hr rfl;cases y with
    |dead=>cases hz
    |arr _ _ _=>cases hz
    |box b' cs'=>simp only[Root.ren]at hz;cases hz;obtain⟨as,g1,g2⟩:=h.box q b cs' hq;refine⟨as,?_,VRL.rn hf _ _ g2⟩;show m[ρ' (f q)]? =_;rw[hρ,ze0];exact g1
   ·obtain⟨q,y,hq,hya,rfl,hz,hρ⟩:=back r _ hr rfl;cases y with
    |dead=>cases hz
    |arr _ _ _=>cases hz
    |box b' cs'=>simp only[Root.ren]at hz;cases hz;exact znk f cs' (h.boxC q b cs' hq)
   ·obtain⟨q,z,hq,hza,rfl,_,hρ⟩:=back r _ hr hy;obtain⟨q',z',hq',hza',rfl,_,hρ'⟩:=back r' _ hr' hy';rw[hρ,hρ']at e;rw[h.inj q q' z z' hq hza hq' hza' e]
   ·obtain⟨q,y,hq,hya,hrq,hz,hρ⟩:=back r _ hr rfl;cases y with
    |dead=>cases hz
    |box _ _=>cases hz
    |arr t' xs' w'=>
     cases hz;have hql:=(yga.1 hq).1;rw[hρ];have e:(if r=mem.length then fp j else if r=j then[]else fp r)=fp q:=by
      by_cases a:q=j
      ·subst a;rw[hrq,fj,if_pos rfl]
      ·rw[hrq,fne q a,if_neg (by omega),if_neg a]
     rw[e];exact(how.rel q t xs w hq).shut (zou hop hq)
   ·split
    ·rename_i e;subst e;refine how.nil j fun t xs w he=>?_;rw[hx]at he;cases he;exact hr t xs w (by simp[mem',ygf,Root.ren])
    ·split
     ·rfl
     ·rename_i e1 e2;refine how.nil r fun t xs w he=>?_;have:=(hf r _ he).1;rw[fne r e2]at this;exact hr t xs w this
   ·split
    ·exact how.nd j
    ·split
     ·exact List.nodup_nil
     ·exact how.nd r
   ·have key:∀r i,i∈(if r=mem.length then fp j else if r=j then[]else fp r)->∃q,i∈fp q/\((r=mem.length/\q=j)\/(r≠mem.length/\r≠j/\q=r)):=by
     intro r i hi;split at hi
     ·rename_i e;exact⟨j,hi,.inl ⟨e,rfl⟩⟩
     ·split at hi
      ·simp at hi
      ·rename_i e1 e2;exact⟨r,hi,.inr ⟨e1,e2,rfl⟩⟩
    obtain⟨q,q1,q2⟩:=key r i hi;obtain⟨q',q1',q2'⟩:=key r' i hi';have hqq:q≠q':=by rintro rfl;omega
    exact how.dj q q' hqq i q1 q1'
   ·obtain⟨q,z,hq,hza,rfl,_,hρ⟩:=back r _ hr hy;rw[hρ]at hi;split at hi
    ·exact how.rt q j z hq hza hi
    ·split at hi
     ·simp at hi
     ·exact how.rt q r' z hq hza hi
   ·obtain⟨p1,p2⟩:=h.pin k hk;have hkl:∃y,mem[k]? =some y:=by
     cases e:mem[k]? with
     |some y=>exact⟨y,rfl⟩
     |none=>
      have p2:KpA (Pin.ini[k]?) (mem[k]?):=p2;rw[e]at p2;cases hi:Pin.ini[k]? with
      |none=>rw[hi]at p2;exact p2.elim
      |some z=>rw[hi]at p2;cases z<;>simp[KpA]at p2
    obtain⟨y,hy⟩:=hkl;have hkl:=(yga.1 hy).1;have p2:KpA (Pin.ini[k]?) (mem[k]?):=p2;show(∀x,mem'[k]? =some x->x.alive=true->ρ' k=k)/\KpA (Pin.ini[k]?) (mem'[k]?);by_cases e:k=j
    ·subst e;have hd:mem'[k]? =some .dead:=by simp only[mem',List.getElem?_map];rw[yge (by simpa using hjl),List.getElem?_set_self hjl];rfl
     rw[hd];refine⟨fun x hx ha=>(by cases hx;cases ha),?_⟩;revert p2
     cases Pin.ini[k]? with
     |none=>exact id
     |some z=>cases z with
      |dead=>intro _;rfl
      |arr _ _ _=>intro _;exact .inl rfl
      |box _ _=>intro _;exact .inl rfl
    ·have:=(hf k y hy).1;rw[fne k e]at this;rw[this];refine⟨fun x hx ha=>?_,?_⟩
     ·simp only[ρ'];rw[if_neg (by omega)];cases hx;exact p1 y hy (by cases y<;>first|exact ha|rfl)
     ·rw[hy]at p2;cases y with
      |dead=>exact p2
      |arr _ _ _=>exact p2
      |box b cs=>
       simp only[Root.ren];revert p2
       cases Pin.ini[k]? with
       |none=>exact id
       |some z=>cases z with
        |dead=>intro h;cases h
        |arr _ _ _=>intro h;rcases h with h|⟨_,_,h,_⟩<;>cases h
        |box _ _=>intro _;exact .inr ⟨_,_,rfl⟩
theorem TR.mvRs:∀(ks:List RK)(j:Nat){J:Nat->Nat}{v:V}{a:AV}{mem:List Root}{m:List Ent},TR J ⟨[(0,v)],mem⟩ ⟨[(0,a)],m⟩->∃ρ',TR ρ' ⟨[(0,(Go.Fw.mvRs j ks v mem).1)],(Go.Fw.mvRs j ks v mem).2⟩ ⟨[(0,a)],m⟩
|[],j,J,v,a,mem,m,h=>⟨J,h⟩
|.dead:: ks,j,J,v,a,mem,m,h=>by obtain⟨ρ1,h1⟩:=h.mvR j;exact TR.mvRs ks (j+1) h1
|.arr _ _:: ks,j,J,v,a,mem,m,h=>TR.mvRs ks (j+1) h
|.box _ _:: ks,j,J,v,a,mem,m,h=>TR.mvRs ks (j+1) h
theorem zyQ(j:Nat)(v:V)(mem:List Root):∃f,(Go.Fw.mvR j v mem).1=v.ren f\/(Go.Fw.mvR j v mem).1=v:=by
 unfold Go.Fw.mvR;split
 ·exact⟨id,.inr rfl⟩
 ·exact⟨id,.inr rfl⟩
 ·split
  ·exact⟨id,.inr rfl⟩
  ·exact⟨_,.inl rfl⟩
mutual
theorem zqa(f g:Nat->Nat):∀v:V,(v.ren f).ren g=v.ren fun r=>g (f r)
|.own _|.part ..|.mp ..=>rfl
|.agg cs|.tup cs|.ip cs|.fn _ cs=>by simp only[V.ren];rw[zoT f g cs]
|.junk|.int _ _|.bool _|.str _|.lst _ _|.nl _|.e0|.st _ _|.ep _ _|.nilp|.nilf=>rfl
theorem zoT(f g:Nat->Nat):∀cs:List V,V.renL g (V.renL f cs)=V.renL (fun r=>g (f r)) cs
|[]=>rfl
|c:: cs=>by simp only[V.renL];rw[zqa f g c,zoT f g cs]
end
mutual
theorem zxz:∀v:V,v.ren id=v
|.own _|.part ..|.mp ..=>rfl
|.agg cs|.tup cs|.ip cs|.fn _ cs=>by simp only[V.ren];rw[zut cs]
|.junk|.int _ _|.bool _|.str _|.lst _ _|.nl _|.e0|.st _ _|.ep _ _|.nilp|.nilf=>rfl
theorem zut:∀cs:List V,V.renL id cs=cs
|[]=>rfl
|c:: cs=>by simp only[V.renL];rw[zxz c,zut cs]
end
theorem zie:∀(ks:List RK)(j:Nat)(v:V)(mem:List Root),∃f,(Go.Fw.mvRs j ks v mem).1=v.ren f
|[],j,v,mem=>⟨id,(zxz v).symm⟩
|.dead:: ks,j,v,mem=>by
 obtain⟨f,hf⟩:=zyQ j v mem;obtain⟨g,hg⟩:=zie ks (j+1) (Go.Fw.mvR j v mem).1 (Go.Fw.mvR j v mem).2;simp only[Go.Fw.mvRs];rcases hf with hf|hf
 ·exact⟨_,by rw[hg,hf,zqa]⟩
 ·exact⟨g,by rw[hg,hf]⟩
|.arr _ _:: ks,j,v,mem=>zie ks (j+1) v mem
|.box _ _:: ks,j,v,mem=>zie ks (j+1) v mem
theorem TR.end{J:Nat->Nat}{T:TS}{m:List Ent}{F0:Nat}{rv:V}{r' a':AV}{env':List (Nat×AV)}{H':Hp}{F:Fr}{Z β':Bt}{w':World}{v:Value}(h:TR J T ⟨env',m⟩)(hok:OkRs T.mem)(hsol:rv.sol T.mem=true)(hv:VR J T.mem rv a')(himp:ImpC r' a')
 (hn1:Nin.nin<=T.mem.length)(hn2:Nin.nin<=F0)(hF:F0<=m.length)(hs:Sat H' F β' m w')(hr:Rep H' β' r' v)(hb:zvu F0 Z β')(hbl:Z.length=F0):
 ∃β2,Rep H' β2 (encR (rhoC Nin.nin F0) T.mem rv) v/\Sat H' F β2 (endM Nin.nin F0 T.mem) w'/\zvu F0 Z β2/\F0<=(endM Nin.nin F0 T.mem).length:=by
 obtain⟨fp,how⟩:=h.ow;let nin:=@Nin.nin Pin.toNin;let B:=F0+(T.mem.length-nin);let g:Nat->Nat:=fun i=>if i<F0 then i else if i<B then J (i-F0+nin)else(zkC fp T.mem.length).getD (i-B) 0
 have hg1:∀(r:Nat) x,T.mem[r]? =some x->x.alive=true->g (rhoC nin F0 r)=J r:=by
  intro r x hx ha;have hrl:=(yga.1 hx).1;by_cases hrn:r<nin
  ·have e:rhoC nin F0 r=r:=by simp only[rhoC,if_pos hrn]
   rw[e];simp only[g];rw[if_pos (by omega)];exact((h.pin r hrn).1 x hx ha).symm
  ·have e:rhoC nin F0 r=F0+(r-nin):=by simp only[rhoC,if_neg hrn]
   rw[e];simp only[g];rw[if_neg (by omega),if_pos (by omega)];congr 1;omega
 have hg2:∀(k j:Nat),(zkC fp T.mem.length)[k]? =some j->g (F0+(T.mem.length-nin)+k)=j:=by intro k j hk;simp only[g];rw[if_neg (by omega),if_neg (by omega),show F0+(T.mem.length-nin)+k-B=k by omega,List.getD_eq_getElem?_getD,hk];rfl
 obtain⟨act,feet,lens⟩:=zqR (nin:=nin) (F:=F0) hn1 hn2 hok how h.box hg1 hg2;have owC:=zh1 (nin:=nin) (F:=F0) hn1 hn2 hok;have hbel:=zqS (nin:=nin) (F:=F0) hn1 hn2 hok;have hml:=zh2 (nin:=nin) (F:=F0) hn1 hn2;have kind:∀(i:Nat)(e:Ent),(endM nin F0 T.mem)[i]? =some e->e.live=true->(∃r x,T.mem[r]? =some x/\x.alive=true/\i=rhoC nin F0 r/\g i=J r)\/∃(r k j:Nat),(fpC nin F0 T.mem r)[k]? =some i/\(fp r)[k]? =some j/\g i=j:=by
  intro i e hi he;rcases zf7 hn1 hn2 hi with⟨r,x,hx,rfl⟩|⟨rfl,_⟩|⟨k,rfl,hk⟩
  ·by_cases ha:x.alive=true
   ·exact .inl ⟨r,x,hx,ha,rfl,hg1 r x hx ha⟩
   ·exfalso;rw[zcS hn1 hn2 (yga.1 hx).1]at hi;obtain⟨k,q1,_⟩:=zbd (J:=rhoC nin F0) (mem:=T.mem) T.mem (F0+(T.mem.length-nin)) r x hx;rw[q1]at hi;cases hi;cases x<;>simp[Root.alive]at ha;simp[zbc]at he
  ·simp at he
  ·have hkl:=(yga.1 hk).1;have hm:F0+(T.mem.length-nin)+k∈(zau (rhoC nin F0) T.mem (F0+(T.mem.length-nin)) T.mem).2.2.flatten:=by rw[zbH,List.mem_range'_1];exact⟨Nat.le_add_right _ _,Nat.add_lt_add_left hkl _⟩
   obtain⟨a,ha,hia⟩:=List.mem_flatten.1 hm;obtain⟨r,hra⟩:=List.getElem?_of_mem ha;have hrl:r<T.mem.length:=by have:=(yga.1 hra).1;rw[(zaQ T.mem _).2]at this;exact this
   have hfa:fpC nin F0 T.mem r=a:=by unfold fpC;rw[List.getD_eq_getElem?_getD,hra];rfl
   rw[<-hfa]at hia;obtain⟨k',hk'⟩:=List.getElem?_of_mem hia;have hk'l:=(yga.1 hk').1;have hll:=lens r hrl;have hj:(fp r)[k']? =some ((fp r)[k']'(by rw[<-hll];exact hk'l)):=ygb _;exact .inr ⟨r,k',_,hk',hj,feet r k' _ _ hk' hj⟩
 obtain⟨s1,s2⟩:=hs.pull (mC:=endM nin F0 T.mem) (g:=g) act hbel (fun i i' e e' hi he hi' he' hgg=>by
  rcases kind i e hi he with⟨r,x,hx,ha,rfl,e1⟩|⟨r,k,j,k1,k2,e1⟩<;>rcases kind i' e' hi' he' with⟨r',x',hx',ha',rfl,e1'⟩|⟨r',k',j',k1',k2',e1'⟩
  ·rw[e1,e1']at hgg;rw[h.inj r r' x x' hx ha hx' ha' hgg]
  ·rw[e1,e1']at hgg;exact absurd (by rw[hgg];exact ygd k2') (how.rt r r' x hx ha)
  ·rw[e1,e1']at hgg;exact absurd (by rw[<-hgg];exact ygd k2) (how.rt r' r x' hx' ha')
  ·rw[e1,e1']at hgg;subst hgg;have hrr:r=r':=Classical.byContradiction fun hne=>how.dj r r' hne j (ygd k2) (ygd k2');subst hrr;have:=zeo (fp r) (how.nd r) k k' j k2 k2';subst this;rw[k1]at k1';exact Option.some.inj k1')
 refine⟨_,?_,s1,fun i hi=>?_,by rw[hml];omega⟩
 ·have ha':=VR.encR hsol hv;have:(encR (rhoC nin F0) T.mem rv).ren g=encR J T.mem rv:=by rw[zqQ g rv hsol];exact zl4 (J:=fun r=>g (rhoC nin F0 r)) (ρ':=J) hg1 rv hsol
  refine Rep.unren (n:=(endM nin F0 T.mem).length) (fun i y hi hy=>s2 i y hi hy) _ v (zqP (fun r x hx ha=>?_) rv hsol) ?_
  ·have:=zqb hn1 hn2 (yga.1 hx).1;rw[hml];exact Nat.lt_of_lt_of_le this (Nat.le_add_right _ _)
  ·rw[this,<-ha'];exact himp.1 _ _ _ hr
 ·have hgi:g i=i:=by simp only[g,if_pos hi]
  have hb':β'[i]? =some (β'[i]'(by rw[hs.hl];omega)):=ygb _;have:=s2 i _ (by rw[hml];omega) (by rw[hgi];exact hb');rw[this,<-hb',hb i hi]
end
theorem KpA.refl{x:Option Root}(h:x≠none):KpA x x:=by
 cases x with
 |none=>exact absurd rfl h
 |some x=>cases x with
  |dead=>rfl
  |arr t xs w=>exact .inr ⟨xs,w,rfl,rfl⟩
  |box b cs=>exact .inr ⟨b,cs,rfl⟩
theorem zvQ{P:Program}{Φ:List TE}{tys:List (Nat×An)}{f:FuncId}{c:CC}{np:Nat}{rs:List RV}{ash:List Sh}{rin:List RK}{rsh:Sh}{rout:List RK}{F:DatL (ash++rin.map RK.sh)->Option (DatL (rsh:: rout.map RK.sh))}
 (hf:FnOk P f c np rs)(hn:ash.length=np)(hΦ:∀e∈Φ,EOk P e)(hw:wfE ⟨f,ash,rin,rsh,rout,F⟩=true)(hne:zeU rout=false)(hF:∀d r,F d=some r->zei Φ tys c rs ash rin rsh rout d=some r):TEok P ⟨f,ash,rin,rsh,rout,F⟩:=by
 refine⟨hw,fun d r hFr=>?_⟩;have h:=hF d r hFr;obtain⟨fn,h1,h2⟩:=hf.fn;unfold chkF at h2;simp only[yhb,yhc]at h2;obtain⟨⟨⟨h3,h4⟩,h5⟩,h6⟩:=h2;have hb:fn.body=some (znW fn):=by
  unfold znW;cases hfb:fn.body with
  |none=>rw[hfb]at h3;cases h3
  |some c=>rfl
 let e:TE:=⟨f,ash,rin,rsh,rout,F⟩
 have hl0:(rinE e d).length=rin.length:=by
  letI p00:Pin:={nin:=0,ini:=[],len:=rfl}
  exact znn (e:=e) d
 letI pin0:Pin:={nin:=rin.length,ini:=rinE e d,len:=hl0}
 obtain⟨w1,w2,w3,w4,w5,w6⟩:=zdG hw;have okIn:=zuw (e:=e) hw d;have hlen2:(rinE e d).length=rin.length:=znn (e:=e) d;have hrho:rhoC rin.length rin.length=id:=by funext j;simp only[rhoC,id];split<;>omega
 have owC:=zh1 (nin:=rin.length) (F:=rin.length) (Nat.le_of_eq hlen2.symm) (Nat.le_refl _) okIn;rw[hrho]at owC;have hin:inM e d=endM rin.length rin.length (rinE e d):=rfl;have hargl:(argE e d).length=ash.length:=by simp[argE,zdR,e]
 have hst:TR id (zc7 ash rin d) ⟨zed 0 (encRL id (rinE e d) (argE e d)),inM e d⟩:=by
  refine⟨fun n=>?_,fun r b cs hr=>?_,fun r b cs hr=>okIn.cell r b cs hr,fun r r' x x' _ _ _ _ he=>he,⟨_,owC⟩,fun j hj=>⟨fun _ _ _=>rfl,KpA.refl fun hh=>?_⟩⟩
  ·exact(zhO (J:=id) (mem:=rinE e d) _ _ 0 (zhW (argE e d) (zeG hw d))).look n
  ·have hrl:=(yga.1 hr).1;have:=zcS (nin:=rin.length) (F:=rin.length) (roots:=rinE e d) (Nat.le_of_eq hlen2.symm) (Nat.le_refl _) hrl;obtain⟨k,q1,_⟩:=zbd (J:=rhoC rin.length rin.length) (mem:=rinE e d) (rinE e d) (rin.length+((rinE e d).length-rin.length)) r _ hr;rw[q1]at this;refine⟨encRL (rhoC rin.length rin.length) (rinE e d) cs,?_,?_⟩
   ·show(endM rin.length rin.length (rinE e d))[r]? =_;rw[show rhoC rin.length rin.length r=r by rw[hrho];rfl]at this;exact this
   ·rw[hrho];exact zhW cs (okIn.sol r b cs hr)
  ·have hh:(rinE e d)[j]? =none:=hh;rw[List.getElem?_eq_none_iff]at hh;have:j<rin.length:=hj;omega
 have hstM:∃ρs,TR ρs (zo0 ash rin rout d) ⟨zed 0 (encRL id (rinE e d) (argE e d)),inM e d⟩:=by
  have hv:VRL id (zc7 ash rin d).mem ((zc7 ash rin d).env.map fun p=>p.2) (encRL id (rinE e d) (argE e d)):=by have:(zc7 ash rin d).env.map (fun p=>p.2)=argE e d:=zj8 _ 0;rw[this];exact zhW (argE e d) (zeG hw d)
  have t0:TR id ⟨[(0,.tup ((zc7 ash rin d).env.map fun p=>p.2))],(zc7 ash rin d).mem⟩ ⟨[(0,.tup (encRL id (rinE e d) (argE e d)))],inM e d⟩:=⟨fun n=>by
   simp only[lookV,look];cases hb0:Nat.beq 0 n with
   |true=>rw[if_pos (Nat.eq_of_beq_eq_true hb0)];simp only[VR];exact⟨_,rfl,hv⟩
   |false=>rw[if_neg (Nat.ne_of_beq_eq_false hb0)];simp[VR],hst.box,hst.boxC,hst.inj,hst.ow,hst.pin⟩
  obtain⟨ρ1,t1⟩:=TR.mvRs (rout.take rin.length) 0 t0;obtain⟨f0,hf0⟩:=zie (rout.take rin.length) 0 (.tup ((zc7 ash rin d).env.map fun p=>p.2)) (zc7 ash rin d).mem;unfold zo0;simp only;generalize Go.Fw.mvRs 0 (rout.take rin.length) (.tup ((zc7 ash rin d).env.map fun p=>p.2)) (zc7 ash rin d).mem=vm at *;obtain⟨v',mem'⟩:=vm;simp only at hf0 t1|-;subst hf0;simp only[V.ren]at t1|-;have t2:=t1.env 0;simp only[lookV,look,Nat.beq_refl,VR,if_true,AV.tup.injEq]at t2;obtain⟨as',e1,t2⟩:=t2;subst e1;exact⟨ρ1,fun n=>(zhO (J:=ρ1) (mem:=mem') _ _ 0 t2).look n,t1.box,t1.boxC,t1.inj,t1.ow,t1.pin⟩
 obtain⟨ρs,hstM⟩:=hstM;let R0:AV->List Ent->Prop:=fun r' m'=>(inM e d).length<=m'.length/\∃a' ρ'' env',ImpC r' a'/\VR ρ'' (routE e r) (resE e r) a'/\TR ρ'' ⟨[],routE e r⟩ ⟨env',m'⟩;have hspec:Spec P f (encRL id (rinE e d) (argE e d)) (inM e d) R0:=by
  refine Spec.of_AW h1 hf.call hb h4 (by rw[zoc,hargl,hn];exact h6) (fun _ _ hh=>hh.1) ?_;have fin:∀(C:Ctx) T' ρ' st',C.n0=(inM e d).length->C.R=R0->TR ρ' T' st'->zzM rs rsh rout T'=some r->∃st1,Gh st' st1/\(C.n0<=st1.mem.length->zlu C rs [] st1):=by
   intro C T' ρ' st' hC0 hC h' hfin;have main:∀T1 st1,TR ρ' T1 st1->zBb rsh rout (zpd (rs.map (zdE T1))) T1.mem=some r->C.n0<=st1.mem.length->zlu C rs [] st1:=by
    intro T1 st1 t1 hg hlen;unfold zBb at hg;have hjunk:∀rv∈rs,zdE T1 rv≠.junk:=by
     obtain⟨f0,hf0⟩:=zie (rout.take Nin.nin) 0 (zpd (rs.map (zdE T1))) T1.mem;unfold Sig.get at hg;simp only[List.map_cons,List.map_nil]at hg;split at hg
     ·have hg':=hg;simp only[lookV,Nat.beq_refl,List.cons_append,List.nil_append,V.renL,Sig.shs,zb2,ygc]at hg';obtain⟨x,x1,_⟩:=hg';rw[hf0,zqa]at x1;intro rv hrv;exact zqi w3 x1 _ (List.mem_map.2 ⟨rv,hrv,rfl⟩)
     ·cases hg
    obtain⟨as,q1,q2⟩:=zk2 t1 rs hjunk;have hvr:=zxI q1;have t20:TR ρ' ⟨[(0,zpd (rs.map (zdE T1)))],T1.mem⟩ ⟨[(0,znv as)],st1.mem⟩:=⟨fun n=>by
     simp only[lookV,look];cases hb0:Nat.beq 0 n with
     |true=>rw[if_pos (Nat.eq_of_beq_eq_true hb0)];exact hvr
     |false=>rw[if_neg (Nat.ne_of_beq_eq_false hb0)];simp[VR],t1.box,t1.boxC,t1.inj,t1.ow,t1.pin⟩
    obtain⟨ρ1,t2⟩:=TR.mvRs (rout.take Nin.nin) 0 t20;obtain⟨st'',_,t3,e0,_,_,_,_,_,as',bs,q3,q4⟩:=ziN (cs:=[]) (cs':=[]) t2 hg rfl (fun _ _ _=>.nil) (by simp) _ rfl;have hr0:mkVL (rsh:: rout.map RK.sh) r=resE e r:: (mkVL (rsh:: rout.map RK.sh) r).drop 1:=by simp[mkVL,resE,e]
    change VRL _ (routE e r) (mkVL (rsh:: rout.map RK.sh) r) as' at q3;rw[hr0]at q3;simp only[VRL]at q3;obtain⟨a',as2,rfl,q5,_⟩:=q3;have q6:ImpC (znv as) a':=by
     cases q4 with
     |cons h _=>exact h
    refine q2 C [] ?_;simp only[List.reverse_nil,List.nil_append];rw[hC];refine⟨by rw[<-hC0];exact hlen,a',_,st''.env,q6,q5,fun n=>by simp[lookV,VR],fun q b cs hq=>?_,t3.boxC,t3.inj,?_,t3.pin⟩
    ·have:=t3.box q b cs hq;rw[e0]at this;exact this
    ·have:=t3.ow;rw[e0]at this;exact this
   unfold zzM at hfin;rw[hne]at hfin;simp only at hfin;split at hfin
   ·exact⟨st',.refl _,main T' st' h' hfin⟩
   ·obtain⟨st1,g1,g2⟩:=zkE _ h';exact⟨st1,g1,main _ st1 g2 hfin⟩
  refine zaZ (C:=⟨P,fn,(inM e d).length,R0⟩) hf.mix hΦ c _ _ [] _ _ r [] ρs _ hstM h (fun id κ hl=>by simp[ziR]at hl) (fun T' ρ' st' k' h' hκ=>?_) (fun T' ρ' st' h' _ hκ=>?_)
  ·obtain⟨st1,g1,g2⟩:=fin ⟨P,fn,(inM e d).length,R0⟩ T' ρ' st' rfl rfl h' hκ;exact g1.2 _ _ (AW.len fun hl=>AW.ret h5 (g2 hl))
  ·obtain⟨st1,g1,g2⟩:=fin ⟨P,fn,(inM e d).length,R0⟩ T' ρ' st' rfl rfl h' hκ;exact g1.2 _ _ (AW.len fun hl=>AW.fall h5 (g2 hl))
 refine hspec.post fun F1 H' Z β' r' m v w' hR hs hr hb hbl hml=>?_;obtain⟨_,a',ρ'',env',q1,q2,q3⟩:=hR;have hRl:(routE e r).length=rout.length:=(ziX (e:=e) r).1;have hinl:rin.length<=(inM e d).length:=by rw[hin,zh2 (Nat.le_of_eq hlen2.symm) (Nat.le_refl _)];omega
 obtain⟨β2,p1,p2,p3,p4⟩:=q3.end (F0:=(inM e d).length) ((ziX (e:=e) r).ok w4) (znm (e:=e) hw r) q2 q1 (by show rin.length<=(routE e r).length;rw[hRl];exact w5) hinl hml hs hr hb hbl;exact⟨_,_,β2,⟨rfl,rfl⟩,p1,p2,p3,p4⟩
end Go.Fw
namespace Go.Fw
open Go
def znO(P:Program):List TE->Prop
|[]=>True
|e:: l=>EOk P e/\znO P l
theorem znO.mem{P:Program}:∀{l:List TE},znO P l->∀e∈l,EOk P e
|[],_,e,h=>by cases h
|x:: l,h,e,he=>by
 rcases List.mem_cons.1 he with rfl|he
 ·exact h.1
 ·exact znO.mem h.2 e he
theorem EOk.pure{P:Program}{Φ:List TE}{tys:List (Nat×An)}{f:FuncId}{c:CC}{np:Nat}{rs:List RV}{ash:List Sh}{rsh:Sh}{F:DatL (ash++[].map RK.sh)->Option (DatL (rsh:: [].map RK.sh))}
 (hf:FnOk P f c np rs)(hn:ash.length=np)(hΦ:znO P Φ)(ha:Sh.purL ash=true)(hr:rsh.pur=true)(hx:∀d,zei Φ tys c rs ash [] rsh [] d=F d):EOk P ⟨f,ash,[],rsh,[],F⟩:=
 show PEok P _ from⟨rfl,rfl,ha,hr,fun d _ h=>zvP hf hn hΦ.mem ha hr ((hx d).trans h)⟩
theorem EOk.te{P:Program}{Φ:List TE}{tys:List (Nat×An)}{f:FuncId}{c:CC}{np:Nat}{rs:List RV}{ash:List Sh}{rin:List RK}{rsh:Sh}{rout:List RK}{F:DatL (ash++rin.map RK.sh)->Option (DatL (rsh:: rout.map RK.sh))}
 (hf:FnOk P f c np rs)(hn:ash.length=np)(hΦ:znO P Φ)(hw:wfE ⟨f,ash,rin,rsh,rout,F⟩=true)(hne:zeU rout=false)(hx:∀d,zei Φ tys c rs ash rin rsh rout d=F d):EOk P ⟨f,ash,rin,rsh,rout,F⟩:=by
 have:=zvQ hf hn hΦ.mem hw hne (fun d r h=>(hx d).trans h);unfold EOk;simp only[hne,Bool.and_false];exact this
theorem EOk.zeroP{P:Program}{f:FuncId}{ash:List Sh}{rsh:Sh}{F:DatL (ash++[].map RK.sh)->Option (DatL (rsh:: [].map RK.sh))}
 (ha:Sh.purL ash=true)(hr:rsh.pur=true)(h:∀d,F d=none):EOk P ⟨f,ash,[],rsh,[],F⟩:=
 show PEok P _ from⟨rfl,rfl,ha,hr,fun d r h'=>by have h2:F d=some r:=h';rw[h d]at h2;cases h2⟩
theorem EOk.zeroT{P:Program}{f:FuncId}{ash:List Sh}{rin:List RK}{rsh:Sh}{rout:List RK}{F:DatL (ash++rin.map RK.sh)->Option (DatL (rsh:: rout.map RK.sh))}
 (hw:wfE ⟨f,ash,rin,rsh,rout,F⟩=true)(hne:zeU rout=false)(h:∀d,F d=none):EOk P ⟨f,ash,rin,rsh,rout,F⟩:=by
 unfold EOk;simp only[hne,Bool.and_false];exact⟨hw,fun d r h'=>by have h2:F d=some r:=h';rw[h d]at h2;cases h2⟩
theorem EOk.limP{P:Program}{f:FuncId}{ash:List Sh}{rsh:Sh}{G:Nat->DatL (ash++[].map RK.sh)->Option (DatL (rsh:: [].map RK.sh))}
 (h:∀n,EOk P ⟨f,ash,[],rsh,[],G n⟩):EOk P ⟨f,ash,[],rsh,[],zoI G⟩:=by
 have h0:PEok P _:=h 0;refine show PEok P _ from⟨rfl,rfl,h0.ash,h0.rsh,fun d r h'=>?_⟩
 obtain⟨n,hn⟩:=zoJ h';have hn':PEok P _:=h n;exact hn'.ok d r hn
theorem EOk.limT{P:Program}{f:FuncId}{ash:List Sh}{rin:List RK}{rsh:Sh}{rout:List RK}{G:Nat->DatL (ash++rin.map RK.sh)->Option (DatL (rsh:: rout.map RK.sh))}
 (hne:zeU rout=false)(h:∀n,EOk P ⟨f,ash,rin,rsh,rout,G n⟩):EOk P ⟨f,ash,rin,rsh,rout,zoI G⟩:=by
 unfold EOk at h|-;simp only[hne,Bool.and_false]at h|-;refine⟨(h 0).wf,fun d r h'=>?_⟩;obtain⟨n,hn⟩:=zoJ h';exact(h n).ok d r hn
end Go.Fw
