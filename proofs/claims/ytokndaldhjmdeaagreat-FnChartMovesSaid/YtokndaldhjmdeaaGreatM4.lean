/- A part of the proof: what stands for the program, its functions, and what they come to. -/
import Derived.Test.YtokndaldhjmdeaaGreatM3
import Derived.ProofKit
import Derived.Sort.Row
import Derived.Sort.Grow
import Derived.Lib.SlicesCompact
import Derived.Below
import Derived.Laws.AppendOwn
import Derived.Lib.Join
set_option linter.all false
namespace Go.Fw
open Go
variable [Pin]
mutual
def Sh.sol(rk:List RK):Sh->Bool
|.no|.part _=>false
|.own r|.mpa r _=>match rk[r]? with
 |some (.arr _ _)=>true
 |_=>false
|.mpb r _=>match rk[r]? with
 |some (.box _ _)=>true
 |_=>false
|.agg ss|.tup ss|.fn _ ss=>Sh.solL rk ss
|.ip ss=>Sh.purL ss
|.int _|.bool|.str|.lst _|.st _|.ep _|.e0|.nl _|.nilp|.nilf=>true
def Sh.solL(rk:List RK):List Sh->Bool
|[]=>true
|s:: ss=>s.sol rk&&Sh.solL rk ss
end
def zAh(rk:List RK):Bool:=rk.all fun k=>match k with
|.box _ ss=>Sh.solL rk ss&&ss.all Sh.isC
|_=>true
def wfE(e:TE):Bool:=Sh.solL e.rin e.ash&&zAh e.rin&&Sh.sol e.rout e.rsh&&zAh e.rout&&Nat.ble e.rin.length e.rout.length&&e.rin.all fun k=>match k with
|.dead=>false
|_=>true
def RkR(rk:List RK)(roots:List Root):Prop:=roots.length=rk.length/\∀(r:Nat) k,rk[r]? =some k->∃x:Dat k.sh,roots[r]? =some (ze4 k (mkV k.sh x))
theorem zl2(a:List Sh)(rk:List RK)(d:DatL (a++rk.map RK.sh)):RkR rk (zjb rk ((mkVL (a++rk.map RK.sh) d).drop a.length)):=by
 have hl:rk.length=((mkVL (a++rk.map RK.sh) d).drop a.length).length:=by simp[zgC]
 refine⟨zoq _ _ hl,fun r k hk=>?_⟩;obtain⟨x,hx⟩:=zrZ (a++rk.map RK.sh) d (a.length+r) k.sh (by rw[ygf (by omega),Nat.add_sub_cancel_left,List.getElem?_map,hk];rfl);exact⟨x,zrY rk _ r k _ hk (by rw[List.getElem?_drop];exact hx)⟩
theorem zd7{t:Ty}{os:OS}(x:Dat (RK.arr t os).sh):ze4 (.arr t os) (mkV (RK.arr t os).sh x)=.arr t x (zuh os):=by simp[ze4,mkV,RK.sh]
theorem zhk{b:BT}{ss:List Sh}(x:Dat (RK.box b ss).sh):ze4 (.box b ss) (mkV (RK.box b ss).sh x)=.box b (mkVL ss x):=by simp[ze4,mkV,RK.sh]
section
variable {rk:List RK}{roots:List Root}
mutual
theorem zu4(h:RkR rk roots):∀(s:Sh)(d:Dat s),s.sol rk=true->(mkV s d).sol roots=true
|.no,_,hh|.part _,_,hh=>by simp[Sh.sol]at hh
|.own r,d,hh=>by
 simp only[Sh.sol]at hh;split at hh
 ·rename_i t os e;obtain⟨x,hx⟩:=h.2 r _ e;rw[zd7]at hx;simp only[mkV,V.sol,hx]
 ·cases hh
|.mpa r off,d,hh=>by
 simp only[Sh.sol]at hh;split at hh
 ·rename_i t os e;obtain⟨x,hx⟩:=h.2 r _ e;rw[zd7]at hx;simp only[mkV,V.sol,hx]
 ·cases hh
|.mpb r off,d,hh=>by
 simp only[Sh.sol]at hh;split at hh
 ·rename_i t os e;obtain⟨x,hx⟩:=h.2 r _ e;rw[zhk]at hx;simp only[mkV,V.sol,hx];rfl
 ·cases hh
|.ip ss,d,hh=>by simp only[mkV,V.sol];exact zjQ ss d (by simpa[Sh.sol]using hh)
|.agg ss,d,hh|.tup ss,d,hh|.fn _ ss,d,hh=>by simp only[mkV,V.sol];exact zr2 h ss d (by simpa[Sh.sol]using hh)
|.int _,_,_|.bool,_,_|.str,_,_|.lst _,_,_|.st _,_,_|.ep _,_,_|.e0,_,_|.nl _,_,_|.nilp,_,_|.nilf,_,_=>by simp[mkV,V.sol]
theorem zr2(h:RkR rk roots):∀(ss:List Sh)(d:DatL ss),Sh.solL rk ss=true->V.solL roots (mkVL ss d)=true
|[],_,_=>rfl
|s:: ss,d,hh=>by simp only[Sh.solL,yhb]at hh;simp only[mkVL,V.solL,yhb];exact⟨zu4 h s _ hh.1,zr2 h ss _ hh.2⟩
end
theorem RkR.back(h:RkR rk roots){r:Nat}{y:Root}(hr:roots[r]? =some y):∃k,rk[r]? =some k/\∃x:Dat k.sh,y=ze4 k (mkV k.sh x):=by
 have hl:r<rk.length:=by rw[<-h.1];exact(yga.1 hr).1
 obtain⟨x,hx⟩:=h.2 r _ (ygb hl);rw[hr]at hx;exact⟨_,ygb hl,x,Option.some.inj hx⟩
theorem RkR.ok(h:RkR rk roots)(hs:zAh rk=true):OkRs roots:=by
 have hs:=List.all_eq_true.1 hs;refine⟨fun r t xs w hr=>?_,fun r b cs hr=>?_,fun r b cs hr=>?_⟩
 ·obtain⟨k,hk,x,e⟩:=h.back hr;cases k with
  |dead=>simp[ze4]at e
  |arr t' os=>rw[zd7]at e;cases e;exact ztG os
  |box b ss=>rw[zhk]at e;cases e
 ·obtain⟨k,hk,x,e⟩:=h.back hr;cases k with
  |dead=>simp[ze4]at e
  |arr t' os=>rw[zd7]at e;cases e
  |box b' ss=>rw[zhk]at e;cases e;have:=hs _ (ygd hk);simp only[yhb]at this;exact zr0 ss x this.2
 ·obtain⟨k,hk,x,e⟩:=h.back hr;cases k with
  |dead=>simp[ze4]at e
  |arr t' os=>rw[zd7]at e;cases e
  |box b' ss=>rw[zhk]at e;cases e;have:=hs _ (ygd hk);simp only[yhb]at this;exact zr2 h ss x this.1
end
def argE(e:TE)(d:DatL (e.ash++e.rin.map RK.sh)):List V:=(mkVL (e.ash++e.rin.map RK.sh) d).take e.ash.length
def rinE(e:TE)(d:DatL (e.ash++e.rin.map RK.sh)):List Root:=zjb e.rin ((mkVL (e.ash++e.rin.map RK.sh) d).drop e.ash.length)
def resE(e:TE)(r:DatL (e.rsh:: e.rout.map RK.sh)):V:=(mkVL (e.rsh:: e.rout.map RK.sh) r).headD .junk
def routE(e:TE)(r:DatL (e.rsh:: e.rout.map RK.sh)):List Root:=zjb e.rout ((mkVL (e.rsh:: e.rout.map RK.sh) r).drop 1)
def inM(e:TE)(d:DatL (e.ash++e.rin.map RK.sh)):List Ent:=endM e.rin.length e.rin.length (rinE e d)
structure TEok (P:Program)(e:TE):Prop where
 wf:wfE e=true
 ok:∀d r,e.F d=some r->Spec P e.f (encRL id (rinE e d) (argE e d)) (inM e d) (fun r' m'=>r'=encR (rhoC e.rin.length (inM e d).length) (routE e r) (resE e r)/\m'=endM e.rin.length (inM e d).length (routE e r))
theorem zjW:∀(mem:List Root)(o:List Nat)(l:List Root),(zvI mem o l).length=mem.length
|mem,[],l=>by cases l<;>rfl
|mem,r:: o,[]=>rfl
|mem,r:: o,x:: l=>by simp only[zvI];rw[zjW];simp
theorem zsw{q:Nat}:∀(mem:List Root)(o:List Nat)(l:List Root),q∉o->(zvI mem o l)[q]? =mem[q]?
|mem,[],l,_=>by cases l<;>rfl
|mem,r:: o,[],_=>rfl
|mem,r:: o,x:: l,h=>by simp only[List.mem_cons,not_or]at h;simp only[zvI];rw[zsw _ o l h.2,ygg (fun e=>h.1 e.symm)]
theorem zAK:∀(mem:List Root)(o:List Nat)(l:List Root),o.Nodup->∀(j r:Nat) x,o[j]? =some r->l[j]? =some x->r<mem.length->(zvI mem o l)[r]? =some x
|mem,[],l,_,j,r,x,h,_,_=>by simp at h
|mem,q:: o,[],_,j,r,x,_,h,_=>by simp at h
|mem,q:: o,y:: l,hn,j,r,x,hj,hx,hr=>by
 obtain⟨n1,n2⟩:=List.nodup_cons.1 hn;simp only[zvI];cases j with
 |zero=>simp at hj hx;subst hj hx;rw[zsw _ o l n1,List.getElem?_set_self hr]
 |succ j=>exact zAK _ o l n2 j r x (by simpa using hj) (by simpa using hx) (by simpa using hr)
theorem zeX{o:List Nat}{n j r:Nat}(h:o[j]? =some r):zmi o n j=r:=by have hl:=(yga.1 h).1;unfold zmi;rw[show Nat.blt j o.length=true from Nat.ble_eq_true_of_le hl];simp[List.getD,h]
theorem zjc{o:List Nat}{n j:Nat}(h:o.length<=j):zmi o n j=n+(j-o.length):=by
 unfold zmi;rw[show Nat.blt j o.length=false by
  cases e:Nat.blt j o.length with
  |false=>rfl
  |true=>have:=Nat.le_of_ble_eq_true e;omega]
theorem znA:∀(l:List Nat),zl5 l=true->l.Nodup
|[],_=>List.nodup_nil
|x:: l,h=>by simp only[zl5,yhb,yho,List.contains_eq_mem,yhd]at h;exact List.nodup_cons.2 ⟨h.1,znA l h.2⟩
mutual
theorem zte{ρ':Nat->Nat}{mem':List Root}{g p:Nat->Nat}{ρc:Nat->Nat}{roots:List Root}(h:∀(q:Nat) y,roots[q]? =some y->mem'[p q]? =some (y.ren p)/\ρ' (p q)=g (ρc q)):∀(v:V),v.sol roots=true->VR ρ' mem' (v.ren p) ((encR ρc roots v).ren g)
|.junk,hh|.part ..,hh=>by simp[V.sol]at hh
|.own r,hh=>by
 simp only[V.sol]at hh;split at hh
 ·rename_i t xs w e;obtain⟨h1,h2⟩:=h r _ e;simp only[Root.ren]at h1;simp only[encR,e,AV.ren,V.ren,VR,zj2,h1,h2]
 ·cases hh
|.mp r row off,hh=>by
 simp only[V.sol]at hh;split at hh
 ·rename_i t xs w e;obtain⟨h1,h2⟩:=h r _ e;simp only[Root.ren]at h1;simp only[encR,e,AV.ren,V.ren,VR,mpR,h1,h2]
 ·rename_i b cs e;obtain⟨h1,h2⟩:=h r _ e;simp only[Root.ren]at h1;simp only[encR,e,AV.ren,V.ren,VR,mpR,h1,h2];exact⟨trivial,zcF hh⟩
 ·cases hh
|.int _ _,_|.bool _,_|.str _,_|.lst _ _,_|.nl _,_|.e0,_|.nilp,_|.nilf,_=>by simp[encR,AV.ren,V.ren,VR]
|.ep n x,_=>by simp only[encR,V.ren,VR];exact AV.ren_pure g _ (by simp)
|.st n x,_=>by simp only[encR,V.ren,VR];exact AV.ren_pure g _ (by simpa using zfG n x)
|.ip cs,hh=>by
 have hp:V.purL cs=true:=by simpa[V.sol]using hh
 simp only[encR,V.ren];rw[zse p cs hp,AV.ren_pure g _ (by simp)];simp only[VR];exact⟨_,rfl,zhV cs hp⟩
|.agg cs,hh|.tup cs,hh|.fn _ cs,hh=>by simp only[encR,AV.ren,V.ren,VR];rw[AV.renL_eq];exact⟨_,rfl,zo6 h cs (by simpa[V.sol]using hh)⟩
theorem zo6{ρ':Nat->Nat}{mem':List Root}{g p:Nat->Nat}{ρc:Nat->Nat}{roots:List Root}(h:∀(q:Nat) y,roots[q]? =some y->mem'[p q]? =some (y.ren p)/\ρ' (p q)=g (ρc q)):∀(cs:List V),V.solL roots cs=true->VRL ρ' mem' (V.renL p cs) ((encRL ρc roots cs).map (AV.ren g))
|[],_=>by simp[V.renL,encRL,VRL]
|c:: cs,hh=>by simp only[V.solL,yhb]at hh;simp only[V.renL,encRL,List.map_cons];exact .cons (zte h c hh.1) (zo6 h cs hh.2)
end
theorem zBo{ρ':Nat->Nat}{mem':List Root}{g p:Nat->Nat}{ρc:Nat->Nat}{roots:List Root}(h:∀(q:Nat) y,roots[q]? =some y->mem'[p q]? =some (y.ren p)/\ρ' (p q)=g (ρc q)):
 (∀(v:V),v.sol roots=true->VR ρ' mem' (v.ren p) ((encR ρc roots v).ren g))/\∀(cs:List V),V.solL roots cs=true->VRL ρ' mem' (V.renL p cs) ((encRL ρc roots cs).map (AV.ren g)):=⟨zte h,zo6 h⟩
theorem zEy(f:Nat->Nat)(v:V):(v.ren f).isC=v.isC:=by cases v<;>simp[V.ren,V.isC]
theorem zsd(f:Nat->Nat):∀cs:List V,cs.all V.isC=true->(V.renL f cs).all V.isC=true
|[],_=>rfl
|c:: cs,h=>by simp only[List.all_cons,yhb]at h;simp only[V.renL,List.all_cons,yhb,zEy];exact⟨h.1,zsd f cs h.2⟩
theorem zpw(n:Nat):∀a:List Nat,memB n a=true↔n∈a
|[]=>by simp[memB]
|x:: a=>by
 simp only[memB,List.mem_cons];cases h:Nat.beq n x with
 |true=>simp[Nat.eq_of_beq_eq_true h]
 |false=>simp[Nat.ne_of_beq_eq_false h,zpw n a]
theorem zmN{g:Nat->Nat}:∀{l:List Nat},l.Nodup->(∀a∈l,∀b∈l,g a=g b->a=b)->(l.map g).Nodup
|[],_,_=>List.nodup_nil
|x:: l,hn,hg=>by obtain⟨n1,n2⟩:=List.nodup_cons.1 hn;refine List.nodup_cons.2 ⟨fun hm=>?_,zmN n2 fun a ha b hb=>hg a (by simp[ha]) b (by simp[hb])⟩;obtain⟨y,hy,e⟩:=List.mem_map.1 hm;exact n1 (by rw[<-hg y (by simp[hy]) x (by simp) e];exact hy)
theorem zEx{is:List Nat}{N:Nat}(hnd:is.Nodup)(hlt:∀i∈is,i<N){a b:Nat}(h:Go.Fw.ren is N a=Go.Fw.ren is N b):a=b:=by
 by_cases ha:a<is.length<;>by_cases hb:b<is.length
 ·have h1:is[a]? =some is[a]:=ygb ha;have h2:is[b]? =some is[b]:=ygb hb;rw[zd5 h1,zd5 h2]at h;exact zhj is hnd a b _ h1 (by rw[h2,h])
 ·have h1:is[a]? =some is[a]:=ygb ha;rw[zd5 h1]at h;unfold Go.Fw.ren at h;rw[if_neg hb]at h;have:=hlt _ (ygd h1);omega
 ·have h2:is[b]? =some is[b]:=ygb hb;rw[zd5 h2]at h;unfold Go.Fw.ren at h;rw[if_neg ha]at h;have:=hlt _ (ygd h2);omega
 ·unfold Go.Fw.ren at h;rw[if_neg ha,if_neg hb]at h;omega
section
variable {Z:Nat->Nat}{T:TS}{st:St}{fp:Nat->List Nat}
theorem ztF{mem m':List Ent}{is:List Nat}(hnd:is.Nodup)(hlt:∀i∈is,i<mem.length)(hl:is.length<=m'.length){i:Nat}{e:Ent}(hi:m'[i]? =some e):(zcC mem is m')[Go.Fw.ren is mem.length i]? =some (e.ren (Go.Fw.ren is mem.length)):=by
 unfold zcC;by_cases h:i<is.length
 ·have hg:is[i]? =some is[i]:=ygb h;rw[zd5 hg,yge (by rw[zaW];exact hlt _ (ygd hg))];exact zpW mem is _ hnd i _ _ hg (by rw[List.getElem?_map,List.getElem?_take,if_pos h,hi];rfl) (hlt _ (ygd hg))
 ·have:Go.Fw.ren is mem.length i=mem.length+(i-is.length):=by unfold Go.Fw.ren;rw[if_neg h]
  rw[this,ygf (by rw[zaW];omega),zaW,Nat.add_sub_cancel_left,List.getElem?_map,List.getElem?_drop,show is.length+(i-is.length)=i by omega,hi];rfl
theorem zgB{mem m':List Ent}{is:List Nat}{i:Nat}(h:i∉is)(hl:i<mem.length):(zcC mem is m')[i]? =mem[i]?:=by unfold zcC;rw[yge (by rw[zaW];exact hl),zmX mem i is _ h]
theorem TR.after{o L:List Nat}{roots:List Root}(h:TR Z T st)(how:OwA Z T.mem st.mem fp)(hnd:o.Nodup)(halive:∀r∈o,∃x,T.mem[r]? =some x/\x.alive=true)(hLnd:(o.map Z++L).Nodup)(hL:∀i∈L,∃r∈o,i∈fp r)
 (hok:OkRs roots)(hnin:o.length<=roots.length)
 (hkp:∀(j r:Nat),o[j]? =some r->∃y,roots[j]? =some y/\(y=.dead\/(∃t xs w xs' w',T.mem[r]? =some (.arr t xs w)/\y=.arr t xs' w'/\xs'.length=xs.length)\/∃b ds b' ds',T.mem[r]? =some (.box b ds)/\y=.box b' ds')):
 ∃ρ',(∀q,q<T.mem.length->ρ' q=Z q)/\(∀v,v.sol roots=true->VR ρ' (zvI T.mem o (roots.map (Root.ren (zmi o T.mem.length)))++(roots.map (Root.ren (zmi o T.mem.length))).drop o.length) (v.ren (zmi o T.mem.length)) ((encR (rhoC o.length (o.map Z++L).length) roots v).ren (Go.Fw.ren (o.map Z++L) st.mem.length)))/\
  TR ρ' ⟨T.env,zvI T.mem o (roots.map (Root.ren (zmi o T.mem.length)))++(roots.map (Root.ren (zmi o T.mem.length))).drop o.length⟩ ⟨st.env,zcC st.mem (o.map Z++L) (endM o.length (o.map Z++L).length roots)⟩:=by
 have hFn:o.length<=(o.map Z++L).length:=by simp
 have hlt:∀i∈o.map Z++L,i<st.mem.length:=by
  intro i hi;rcases List.mem_append.1 hi with hi|hi
  ·obtain⟨r,hr,rfl⟩:=List.mem_map.1 hi;obtain⟨x,hx,ha⟩:=halive r hr;exact h.lt r x hx ha
  ·obtain⟨r,_,hr⟩:=hL i hi;exact how.lt r i hr
 have his:∀(j r:Nat),o[j]? =some r->(o.map Z++L)[j]? =some (Z r):=fun j r hj=>by rw[yge (by simpa using(yga.1 hj).1),List.getElem?_map,hj];rfl
 have hnotis:∀(r:Nat) x,T.mem[r]? =some x->x.alive=true->r∉o->Z r∉o.map Z++L:=fun r x hx ha hr hi=>by
  rcases List.mem_append.1 hi with hi|hi
  ·obtain⟨q,hq,e⟩:=List.mem_map.1 hi;obtain⟨y,hy,hya⟩:=halive q hq;exact hr (by rw[<-h.inj q r y x hy hya hx ha e];exact hq)
  ·obtain⟨q,_,hq⟩:=hL _ hi;exact how.rt r q x hx ha hq
 have hnotisF:∀(r:Nat),r∉o->∀i∈fp r,i∉o.map Z++L:=fun r hr i hi his=>by
  rcases List.mem_append.1 his with hi'|hi'
  ·obtain⟨q,hq,e⟩:=List.mem_map.1 hi';obtain⟨y,hy,hya⟩:=halive q hq;exact how.rt q r y hy hya (by rw[e];exact hi)
  ·obtain⟨q,hq,hq'⟩:=hL _ hi';exact how.dj r q (fun e=>hr (by rw[e];exact hq)) i hi hq'
 have ow:=zlM (F:=(o.map Z++L).length) hnin hFn hok;have hel:=zlN (roots:=roots) hnin hFn;generalize hF:(o.map Z++L).length=F at *;generalize his0:o.map Z++L=is at *;have hFl:is.length=F:=hF;have hmlen:is.length<=(endM o.length F roots).length:=by rw[hel,hFl];omega
 have hat:∀{i:Nat}{e:Ent},(endM o.length F roots)[i]? =some e->(zcC st.mem is (endM o.length F roots))[Go.Fw.ren is st.mem.length i]? =some (e.ren (Go.Fw.ren is st.mem.length)):=fun hi=>ztF hLnd hlt hmlen hi;have holt:∀r∈o,r<T.mem.length:=fun r hr=>let⟨x,hx,_⟩:=halive r hr;(yga.1 hx).1;let n:=T.mem.length;let N:=st.mem.length;let g:=Go.Fw.ren is N;let rs:=roots.map (Root.ren (zmi o n));let mem':=zvI T.mem o rs++rs.drop o.length;let ρ':Nat->Nat:=fun r=>if r<n then Z r else N+(r-n)
 have mpos:∀(j:Nat) y,roots[j]? =some y->mem'[zmi o n j]? =some (y.ren (zmi o n))/\ρ' (zmi o n j)=g (rhoC o.length F j):=by
  intro j y hj;have hrs:rs[j]? =some (y.ren (zmi o n)):=by simp[rs,hj]
  by_cases hjn:j<o.length
  ·have ho:o[j]? =some o[j]:=ygb hjn;rw[zeX ho];refine⟨?_,?_⟩
   ·show(zvI T.mem o rs++rs.drop o.length)[o[j]]? =_;rw[yge (by rw[zjW];exact holt _ (ygd ho))];exact zAK T.mem o rs hnd j _ _ ho hrs (holt _ (ygd ho))
   ·simp only[ρ',if_pos (holt _ (ygd ho)),rhoC,if_pos hjn,g,n];exact(zd5 (his j _ ho)).symm
  ·rw[zjc (by omega)];refine⟨?_,?_⟩
   ·show(zvI T.mem o rs++rs.drop o.length)[n+(j-o.length)]? =_;rw[ygf (by rw[zjW];omega),zjW,Nat.add_sub_cancel_left,List.getElem?_drop,show o.length+(j-o.length)=j by omega];exact hrs
   ·simp only[ρ',rhoC,if_neg hjn,g,Go.Fw.ren];rw[if_neg (by omega),if_neg (by omega)];omega
 have mold:∀(q:Nat),q<n->q∉o->mem'[q]? =T.mem[q]?:=fun q hq ho=>by show(zvI T.mem o rs++rs.drop o.length)[q]? =_;rw[yge (by rw[zjW];exact hq),zsw _ _ _ ho]
 have cases':∀(q:Nat) x,mem'[q]? =some x->(∃j y,roots[j]? =some y/\q=zmi o n j/\x=y.ren (zmi o n))\/(q<n/\q∉o/\T.mem[q]? =some x):=by
  intro q x hq;by_cases hqn:q<n
  ·by_cases hqo:q∈o
   ·obtain⟨j,hj⟩:=List.getElem?_of_mem hqo;obtain⟨y,hy,_⟩:=hkp j q hj;have:=(mpos j y hy).1;rw[zeX hj,hq]at this;exact .inl ⟨j,y,hy,(zeX hj).symm,Option.some.inj this⟩
   ·exact .inr ⟨hqn,hqo,by rw[<-mold q hqn hqo];exact hq⟩
  ·have hql:=(yga.1 hq).1;have hql:q<n+(roots.length-o.length):=by
    have:mem'.length=n+(roots.length-o.length):=by simp[mem',zjW,rs,n]
    omega
   have hj:roots[o.length+(q-n)]? =some (roots[o.length+(q-n)]'(by omega)):=ygb _;have hp:zmi o n (o.length+(q-n))=q:=by rw[zjc (by omega)];omega
   have:=(mpos _ _ hj).1;rw[hp,hq]at this;exact .inl ⟨_,_,hj,hp.symm,Option.some.inj this⟩
 have hk:Kp Z ρ' T.mem mem':=by
  have key:∀(r:Nat) x,T.mem[r]? =some x->r<n/\ρ' r=Z r:=fun r x hx=>by have:=(yga.1 hx).1;exact⟨this,by simp only[ρ'];rw[if_pos this]⟩
  refine⟨fun r t xs w hr=>?_,fun r b cs hr=>?_,fun r hr=>?_⟩
  ·by_cases ho:r∈o
   ·obtain⟨j,hj⟩:=List.getElem?_of_mem ho;obtain⟨y,hy,hc⟩:=hkp j r hj;have hm:=(mpos j y hy).1;rw[zeX hj]at hm;rcases hc with rfl|⟨t',xs0,w0,xs',w',h1,rfl,h3⟩|⟨b,ds,b',ds',h1,rfl⟩
    ·exact .inl hm
    ·rw[hr]at h1;cases h1;exact .inr ⟨(key r _ hr).2,xs',w',hm,h3⟩
    ·rw[hr]at h1;cases h1
   ·exact .inr ⟨(key r _ hr).2,xs,w,by rw[mold r (key r _ hr).1 ho];exact hr,rfl⟩
  ·by_cases ho:r∈o
   ·obtain⟨j,hj⟩:=List.getElem?_of_mem ho;obtain⟨y,hy,hc⟩:=hkp j r hj;have hm:=(mpos j y hy).1;rw[zeX hj]at hm;rcases hc with rfl|⟨t',xs0,w0,xs',w',h1,rfl,h3⟩|⟨b,ds,b',ds',h1,rfl⟩
    ·exact .inl hm
    ·rw[hr]at h1;cases h1
    ·exact .inr ⟨(key r _ hr).2,_,_,hm⟩
   ·exact .inr ⟨(key r _ hr).2,b,cs,by rw[mold r (key r _ hr).1 ho];exact hr⟩
  ·have ho:r∉o:=fun ho=>by obtain⟨x,hx,ha⟩:=halive r ho;rw[hr]at hx;cases hx;cases ha
   rw[mold r (key r _ hr).1 ho];exact hr
 have refs:∀(q:Nat) y,roots[q]? =some y->mem'[zmi o n q]? =some (y.ren (zmi o n))/\ρ' (zmi o n q)=g (rhoC o.length F q):=mpos;have vals:=zBo (ρ':=ρ') (mem':=mem') (g:=g) (p:=zmi o n) (ρc:=rhoC o.length F) (roots:=roots) refs;have hsm:∀(q:Nat) x,q<n->q∉o->T.mem[q]? =some x->x.alive=true->(zcC st.mem is (endM o.length F roots))[Z q]? =st.mem[Z q]?:=fun q x _ ho hx ha=>zgB (hnotis q x hx ha ho) (h.lt q x hx ha);have hgi:∀i,F<=i->g i=N+(i-F):=fun i hi=>by simp only[g,Go.Fw.ren];rw[if_neg (by omega),hFl]
 have hfpge:∀(j i:Nat),i∈fpC o.length F roots j->F+(roots.length-o.length)<=i:=fun j i hi=>zCM hi;let fp':Nat->List Nat:=fun q=>if q<n then(if q∈o then(fpC o.length F roots (zmB o q)).map g else fp q)else(fpC o.length F roots (o.length+(q-n))).map g
 have idx:∀(j q:Nat),o[j]? =some q->zmB o q=j:=fun j q hj=>by have h1:=zjM o q ((zpw q o).2 (ygd hj));exact zhj o hnd _ _ q h1 hj
 have fpos:∀(j:Nat) y,roots[j]? =some y->fp' (zmi o n j)=(fpC o.length F roots j).map g:=by
  intro j y hj;by_cases hjn:j<o.length
  ·have ho:o[j]? =some o[j]:=ygb hjn;rw[zeX ho];simp only[fp'];rw[if_pos (holt _ (ygd ho)),if_pos (ygd ho),idx j _ ho]
  ·rw[zjc (by omega)];simp only[fp'];rw[if_neg (by omega),show o.length+(n+(j-o.length)-n)=j by omega]
 have fold:∀(q:Nat),q<n->q∉o->fp' q=fp q:=fun q hq ho=>by simp only[fp',if_pos hq,if_neg ho]
 have fcase:∀(q:Nat),(∃j y,roots[j]? =some y/\q=zmi o n j/\fp' q=(fpC o.length F roots j).map g)\/(q<n/\q∉o/\fp' q=fp q)\/fp' q=[]:=by
  intro q;by_cases hqn:q<n
  ·by_cases hqo:q∈o
   ·obtain⟨j,hj⟩:=List.getElem?_of_mem hqo;obtain⟨y,hy,_⟩:=hkp j q hj;have:=fpos j y hy;rw[zeX hj]at this;exact .inl ⟨j,y,hy,(zeX hj).symm,this⟩
   ·exact .inr (.inl ⟨hqn,hqo,fold q hqn hqo⟩)
  ·by_cases hr:o.length+(q-n)<roots.length
   ·refine .inl ⟨o.length+(q-n),_,ygb hr,by rw[zjc (by omega)];omega,?_⟩;simp only[fp',if_neg hqn]
   ·refine .inr (.inr ?_);simp only[fp',if_neg hqn];rcases zkA (nin:=o.length) (F:=F) (roots:=roots) (o.length+(q-n))with⟨h,_⟩|h
    ·rw[h];rfl
    ·have:=(yga.1 h).1;rw[(zaO roots _).2]at this;exact absurd this hr
 have posinj:∀(j j':Nat) y y',roots[j]? =some y->roots[j']? =some y'->zmi o n j=zmi o n j'->j=j':=by
  intro j j' y y' hj hj' e;by_cases a:j<o.length<;>by_cases b:j'<o.length
  ·have h1:o[j]? =some o[j]:=ygb a;have h2:o[j']? =some o[j']:=ygb b;rw[zeX h1,zeX h2]at e;exact zhj o hnd j j' _ h1 (by rw[h2,e])
  ·have h1:o[j]? =some o[j]:=ygb a;rw[zeX h1,zjc (by omega)]at e;have:=holt _ (ygd h1);omega
  ·have h2:o[j']? =some o[j']:=ygb b;rw[zeX h2,zjc (by omega)]at e;have:=holt _ (ygd h2);omega
  ·rw[zjc (by omega),zjc (by omega)]at e;omega
 refine⟨ρ',fun q hq=>if_pos hq,fun v hv=>vals.1 v hv,fun m=>(h.env m).mono hk,fun q b ds hq=>?_,fun q b ds hq=>?_,fun q q' x x' hq hx hq' hx' e=>?_,⟨fp',fun q t xs w hq=>?_,fun q hq=>?_,fun q=>?_,fun q q' hne i hi hi'=>?_,fun q q' x hq hx hi=>?_⟩,h.pin.mono hk⟩
 ·rcases cases' q _ hq with⟨j,y,hj,rfl,e⟩|⟨h1,h2,h3⟩
  ·cases y with
   |dead=>cases e
   |arr _ _ _=>cases e
   |box b' cs=>simp only[Root.ren]at e;cases e;have hE:=zeG (F:=F) (roots:=roots) hnin (by omega) (yga.1 hj).1;obtain⟨k,q1,_⟩:=za4 (Z:=rhoC o.length F) (mem:=roots) roots (F+(roots.length-o.length)) j _ hj;rw[q1]at hE;have:=hat hE;simp only[za2,Ent.ren,List.map_cons,List.map_nil]at this;refine⟨_,?_,vals.2 cs (hok.sol j _ cs hj)⟩;rw[(mpos j _ hj).2,zh2];exact this
  ·obtain⟨as,g1,g2⟩:=h.box q b ds h3;refine⟨as,?_,g2.mono hk⟩;show(zcC st.mem is _)[ρ' q]? =_;rw[show ρ' q=Z q by simp only[ρ',if_pos h1],hsm q _ h1 h2 h3 rfl];exact g1
 ·rcases cases' q _ hq with⟨j,y,hj,rfl,e⟩|⟨h1,h2,h3⟩
  ·cases y with
   |dead=>cases e
   |arr _ _ _=>cases e
   |box b' cs=>simp only[Root.ren]at e;cases e;exact zsd _ cs (hok.cell j _ cs hj)
  ·exact h.boxC q b ds h3
 ·rcases cases' q _ hq with⟨j,y,hj,rfl,e1⟩|⟨h1,h2,h3⟩<;>rcases cases' q' _ hq' with⟨j',y',hj',rfl,e1'⟩|⟨h1',h2',h3'⟩
  ·rw[(mpos j y hj).2,(mpos j' y' hj').2]at e;have hjl:=(yga.1 hj).1;have hjl':=(yga.1 hj').1;have:=zEx hLnd (N:=N) hlt (e:Go.Fw.ren is N _=Go.Fw.ren is N _);rw[zB7 (by omega) this]
  ·rw[(mpos j y hj).2,show ρ' q'=Z q' by simp only[ρ',if_pos h1']]at e;have hl:=h.lt q' x' h3' hx';by_cases hjo:j<o.length
   ·have ho:o[j]? =some o[j]:=ygb hjo;have:g (rhoC o.length F j)=Z o[j]:=by simp only[rhoC,if_pos hjo];exact zd5 (his j _ ho)
    rw[this]at e;exact absurd (by rw[<-e,<-his0];exact List.mem_append_left _ (List.mem_map_of_mem (ygd ho))) (hnotis q' x' h3' hx' h2')
   ·have:g (rhoC o.length F j)=N+(j-o.length):=by rw[hgi _ (by simp only[rhoC,if_neg hjo];omega)];simp only[rhoC,if_neg hjo];omega
    omega
  ·rw[(mpos j' y' hj').2,show ρ' q=Z q by simp only[ρ',if_pos h1]]at e;have hl:=h.lt q x h3 hx;by_cases hjo:j'<o.length
   ·have ho:o[j']? =some o[j']:=ygb hjo;have:g (rhoC o.length F j')=Z o[j']:=by simp only[rhoC,if_pos hjo];exact zd5 (his j' _ ho)
    rw[this]at e;exact absurd (by rw[e,<-his0];exact List.mem_append_left _ (List.mem_map_of_mem (ygd ho))) (hnotis q x h3 hx h2)
   ·have:g (rhoC o.length F j')=N+(j'-o.length):=by rw[hgi _ (by simp only[rhoC,if_neg hjo];omega)];simp only[rhoC,if_neg hjo];omega
    omega
  ·rw[show ρ' q=Z q by simp only[ρ',if_pos h1],show ρ' q'=Z q' by simp only[ρ',if_pos h1']]at e;exact h.inj q q' x x' h3 hx h3' hx' e
 ·rcases cases' q _ hq with⟨j,y,hj,rfl,e⟩|⟨h1,h2,h3⟩
  ·cases y with
   |dead=>cases e
   |box _ _=>cases e
   |arr t' xs' w'=>
    cases e;rw[fpos j _ hj,(mpos j _ hj).2];have hA:=ow.rel j t xs w hj;have hw:=hok.shut j t xs w hj;cases w with
    |op _ _ _=>cases hw
    |no=>refine⟨?_,by rw[hA.2];rfl⟩;rw[hat hA.1];simp only[Ent.ren,Option.some.injEq,Ent.arr.injEq,yhn];rw[List.map_map];refine List.map_congr_left fun y _=>?_;simp only[Function.comp];rw[show(zap t y).map (AV.ren (Go.Fw.ren is st.mem.length))=(zap t y).map id from List.map_congr_left fun c hc=>AV.ren_pure _ c ((AV.pureL_iff _).1 (zjd t y) c hc),List.map_id]
    |cl os=>obtain⟨rows,q1,q2⟩:=hA;exact⟨_,hat q1,q2.ren fun i _ e he=>hat he⟩
  ·rw[fold q h1 h2];refine(how.rel q t xs w h3).mono (fun cs as hv=>hv.mono hk) ?_ fun i hi=>zgB (hnotisF q h2 i hi) (how.lt q i hi);rw[show ρ' q=Z q by simp only[ρ',if_pos h1]];exact hsm q _ h1 h2 h3 rfl
 ·rcases fcase q with⟨j,y,hj,rfl,e⟩|⟨h1,h2,e⟩|e
  ·rw[e];have:fpC o.length F roots j=[]:=ow.nil j fun t xs w hj'=>by have:=(mpos j _ hj').1;exact hq t xs w this
   rw[this];rfl
  ·rw[e];exact how.nil q fun t xs w h'=>hq t xs w (by show mem'[q]? =_;rw[mold q h1 h2];exact h')
  ·exact e
 ·rcases fcase q with⟨j,y,hj,rfl,e⟩|⟨h1,h2,e⟩|e
  ·rw[e];exact zmN (ow.nd j) fun a ha b hb hab=>by rw[hgi a (by have:=hfpge j a ha;omega),hgi b (by have:=hfpge j b hb;omega)]at hab;have:=hfpge j a ha;have:=hfpge j b hb;omega
  ·rw[e];exact how.nd q
  ·rw[e];exact List.nodup_nil
 ·rcases fcase q with⟨j,y,hj,rfl,e⟩|⟨h1,h2,e⟩|e<;>rcases fcase q' with⟨j',y',hj',rfl,e'⟩|⟨h1',h2',e'⟩|e'
  ·rw[e]at hi;rw[e']at hi';obtain⟨a,ha,rfl⟩:=List.mem_map.1 hi;obtain⟨b,hb,hab⟩:=List.mem_map.1 hi';rw[hgi a (by have:=hfpge j a ha;omega),hgi b (by have:=hfpge j' b hb;omega)]at hab;have:a=b:=by have:=hfpge j a ha;have:=hfpge j' b hb;omega
   subst this;exact ow.dj j j' (fun e=>hne (by rw[e])) a ha hb
  ·rw[e]at hi;rw[e']at hi';obtain⟨a,ha,rfl⟩:=List.mem_map.1 hi;have:=how.lt q' _ hi';rw[hgi a (by have:=hfpge j a ha;omega)]at this;omega
  ·rw[e']at hi';simp at hi'
  ·rw[e]at hi;rw[e']at hi';obtain⟨a,ha,rfl⟩:=List.mem_map.1 hi';have:=how.lt q _ hi;rw[hgi a (by have:=hfpge j' a ha;omega)]at this;omega
  ·rw[e]at hi;rw[e']at hi';exact how.dj q q' hne i hi hi'
  ·rw[e']at hi';simp at hi'
  ·rw[e]at hi;simp at hi
  ·rw[e]at hi;simp at hi
  ·rw[e]at hi;simp at hi
 ·rcases fcase q' with⟨j',y',hj',rfl,e'⟩|⟨h1',h2',e'⟩|e'
  ·rw[e']at hi;obtain⟨a,ha,hag⟩:=List.mem_map.1 hi;have hge:=hfpge j' a ha;rw[hgi a (by omega)]at hag;rcases cases' q _ hq with⟨j,y,hj,rfl,e⟩|⟨h1,h2,h3⟩
   ·rw[(mpos j y hj).2]at hag;have hjl:=(yga.1 hj).1;by_cases hjo:j<o.length
    ·have ho:o[j]? =some o[j]:=ygb hjo;have e3:g (rhoC o.length F j)=Z o[j]:=by simp only[rhoC,if_pos hjo];exact zd5 (his j _ ho)
     rw[e3]at hag;obtain⟨z,hz,hza⟩:=halive _ (ygd ho);have:=h.lt _ z hz hza;omega
    ·have:g (rhoC o.length F j)=N+(j-o.length):=by rw[hgi _ (by simp only[rhoC,if_neg hjo];omega)];simp only[rhoC,if_neg hjo];omega
     omega
   ·rw[show ρ' q=Z q by simp only[ρ',if_pos h1]]at hag;have:=h.lt q x h3 hx;omega
  ·rw[e']at hi;rcases cases' q _ hq with⟨j,y,hj,rfl,e⟩|⟨h1,h2,h3⟩
   ·rw[(mpos j y hj).2]at hi;have hl:=how.lt q' _ hi;by_cases hjo:j<o.length
    ·have ho:o[j]? =some o[j]:=ygb hjo;have e3:g (rhoC o.length F j)=Z o[j]:=by simp only[rhoC,if_pos hjo];exact zd5 (his j _ ho)
     rw[e3]at hi;obtain⟨z,hz,hza⟩:=halive _ (ygd ho);exact how.rt _ q' z hz hza hi
    ·have:g (rhoC o.length F j)=N+(j-o.length):=by rw[hgi _ (by simp only[rhoC,if_neg hjo];omega)];simp only[rhoC,if_neg hjo];omega
     omega
   ·rw[show ρ' q=Z q by simp only[ρ',if_pos h1]]at hi;exact how.rt q q' x h3 hx hi
  ·rw[e']at hi;simp at hi
end
end Go.Fw
namespace Go.Fw
open Go
mutual
def hfA:AV->Bool
|.junk|.int _ _|.bool _|.str _|.ms _ _ _ _=>true
|.tup cs=>zyo cs
|_=>false
def zyo:List AV->Bool
|[]=>true
|c:: cs=>hfA c&&zyo cs
end
mutual
theorem zuV{H H':Hp}{β:Bt}:∀{a:AV}{x:Value},hfA a=true->Rep H β a x->Rep H' β a x
|.junk,x,_,_=>.junk
|.int k n,x,_,r=>by cases r;exact .int (by assumption)
|.bool b,x,_,r=>by cases r;exact .bool
|.str s,x,_,r=>by cases r;exact .str (by assumption)
|.ms i es o l,x,_,r=>by
 cases r with
 |ms h1 h2 h3 h4=>exact .ms h1 h2 h3 h4
 |ms0 h1=>exact .ms0 h1
|.tup cs,x,h,r=>by
 cases r with
 |tup hl hr=>exact .tup hl fun i c v h1 h2=>zwm (by simpa[hfA]using h) i c v h1 (hr i c v h1 h2)
|.e0,_,h,_|.sl _ _,_,h,_|.ip _,_,h,_|.mp ..,_,h,_|.fn ..,_,h,_|.mapr _,_,h,_|.nilp,_,h,_|.nilf,_,h,_|.nilm,_,h,_|.opt _ _,_,h,_|.agg _,_,h,_=>by simp[hfA]at h
theorem zwm{H H':Hp}{β:Bt}:∀{as:List AV},zyo as=true->∀(i:Nat) c v,as[i]? =some c->Rep H β c v->Rep H' β c v
|[],_,i,c,v,h,_=>by simp at h
|a:: as,h,i,c,v,hi,r=>by
 simp only[zyo,yhb]at h;cases i with
 |zero=>simp at hi;subst hi;exact zuV h.1 r
 |succ i=>exact zwm h.2 i c v (by simpa using hi) r
end
def Ent.hf:Ent->Bool
|.dead=>true
|.arr _ rows=>rows.all fun r=>zyo r
|.mp _=>false
theorem zBB{cs:List AV}(h:zyo cs=true):∀c∈cs,hfA c=true:=by
 induction cs with
 |nil=>simp
 |cons a cs ih=>
  simp only[zyo,yhb]at h;intro c hc;rcases List.mem_cons.1 hc with rfl|hc
  ·exact h.1
  ·exact ih h.2 c hc
theorem Ent.hf_ok{H H':Hp}{β:Bt}{w:World}{e:Ent}{x:Option (Nat×Nat×Nat)}(h:e.hf=true)(he:EntOk H β w e x):EntOk H' β w e x:=by
 cases e with
 |dead=>trivial
 |mp es=>cases h
 |arr es rows=>
  cases x with
  |none=>exact he
  |some y=>obtain⟨b,es',cap⟩:=y;obtain⟨h1,cells,elem,h2,h3,h4,h5,h6,h7,h8⟩:=he;refine⟨h1,cells,elem,h2,h3,h4,h5,h6,fun i r j c hi hj=>?_,h8⟩;obtain⟨v,g1,g2⟩:=h7 i r j c hi hj;exact⟨v,g1,zuV (zBB (List.all_eq_true.1 h r (ygd hi)) c (ygd hj)) g2⟩
theorem zjX.of_spec_lend{P:Program}{f:FuncId}{argsC:List AV}{m1 mem:List Ent}{r:AV}{args:List AV}(hs:Spec P f argsC [] (fun r' m'=>r'=r/\m'=m1))(hr:hfA r=true)(hm:∀e∈m1,e.hf=true)(hl:args.length=argsC.length)
 (hv:∀H F β w,Sat H F β mem w->∀(i:Nat) a a' x,args[i]? =some a->argsC[i]? =some a'->Rep H β a x->Rep (hpW w) [] a' x):
 zjX P f args mem (r.ren (ren [] mem.length)) (zcC mem [] m1):=by
 refine⟨hs.1,fun H F β cargs w hsat hsz ha=>?_⟩;have hs0:Sat (hpW w) ⟨hpW w,F.w0⟩ [] [] w:=
  {hH:=fun b o hb=>hb,hF:=fun b o hb=>hb,sm:=⟨hsat.sm.os,hsat.sm.tape,hsat.sm.output,hsat.sm.size⟩,hl:=rfl,ent:=fun i e x hi=>by simp at hi,apart:=fun i e x hi=>by simp at hi,inj:=fun i j e e' x y hi=>by simp at hi}
 have hC:=hs.2 (hpW w) ⟨hpW w,F.w0⟩ [] cargs w hs0 (by rw[hsz,hl]) fun i a' x h1 h2=>by have hlt:=(yga.1 h1).1;have hg:args[i]? =some (args[i]'(by omega)):=ygb _;exact hv H F β w hsat i _ a' x hg h1 (ha i _ x hg h2)
 refine hC.mono fun e w' ⟨v,r',m',H',βC',h1,⟨h2,h3⟩,g3,g4,g5,g6,g7⟩=>?_;subst h2 h3;have same:∀b,b<w.heap.size->w'.heap[b]? =w.heap[b]?:=fun b hb=>by
  have:hpW w b=some w.heap[b]:=by simp[hpW,hb]
  rw[g4.hF b _ this];exact this.symm
 obtain⟨s1,_⟩:=zmm (st:=⟨[],mem⟩) (memC:=[]) (is:=[]) hsat rfl .nil (fun j i e h=>by simp at h) (fun i h=>by simp at h) (fun e h=>by simp at h);have g4':Sat H (zj0 F.w0 w [] (([]:List Nat).map fun i=>(β[i]?).getD none)) βC' m' w':=by
  refine{hH:=fun b o hb=>?_,hF:=fun b o hb=>?_,sm:=⟨g4.sm.os,g4.sm.tape,g4.sm.output,g4.sm.size⟩,hl:=g4.hl,ent:=fun i e x hi hx=>Ent.hf_ok (hm e (ygd hi)) (g4.ent i e x hi hx),apart:=fun i e x hi he hx=>?_,inj:=g4.inj}
  ·have:=hsat.hH b o hb;rw[same b (zaP this)];exact this
  ·have:=s1.hF b o hb;rw[same b (zaP this)];exact this
  ·have hn:=(g4.apart i e x hi he hx).2;have hge:w.heap.size<=x.1:=by
    rcases Nat.lt_or_ge x.1 w.heap.size with h|h
    ·have hq:hpW w x.1=none:=hn;simp[hpW,h]at hq
    ·exact h
   constructor
   ·cases hh:H x.1 with
    |none=>rfl
    |some o=>exact absurd (zaP (hsat.hH _ _ hh)) (by omega)
   ·cases hh:(zj0 F.w0 w [] (([]:List Nat).map fun i=>(β[i]?).getD none)) x.1 with
    |none=>rfl
    |some o=>exact absurd (zaP (s1.hF _ _ hh)) (by omega)
 obtain⟨q1,q2,q3⟩:=zrr (st:=⟨[],mem⟩) (memC:=[]) (is:=[]) hsat rfl .nil (fun j i e h=>by simp at h) (fun i h=>by simp at h) g4' (.refl _ _) (fun i h=>absurd h (Nat.not_lt_zero i)) (Nat.zero_le _);exact⟨v,H,_,h1,(zuV hr g3).ren q3,q1,q2,.append _ _⟩
variable [Pin]
theorem zzg:∀(t:Ty)(x:TV t),t.flat=true->zyo (zap t x)=true
|.int _,_,_|.bool,_,_|.str,_,_=>by simp[zap,zyo,hfA]
|.lst _,_,h|.nm _,_,h=>by simp[Ty.flat]at h
def Root.hf:Root->Bool
|.arr t _ .no=>t.flat
|_=>false
theorem ztR{Z:Nat->Nat}{mem:List Root}:∀(l:List Root)(n:Nat),(∀x∈l,x.hf=true)->(zaw Z mem n l).2.1=[]/\∀e∈(zaw Z mem n l).1,e.hf=true
|[],n,_=>by simp[zaw]
|x:: l,n,h=>by
 have hx:=h x (by simp);cases x with
 |dead=>cases hx
 |box _ _=>cases hx
 |arr t xs w=>
  cases w with
  |cl _=>cases hx
  |op _ _ _=>cases hx
  |no=>
   have e:za2 Z mem n (.arr t xs .no)=(.arr t.sz (xs.map (zap t)),[]):=by simp only[za2,zBY,zlZ]
   obtain⟨h1,h2⟩:=ztR (Z:=Z) (mem:=mem) l (n+(za2 Z mem n (.arr t xs .no)).2.length) fun y hy=>h y (by simp[hy]);simp only[zaw,e]at h1 h2|-;refine⟨by simpa using h1,fun y hy=>?_⟩;rcases List.mem_cons.1 hy with rfl|hy
   ·simp only[Ent.hf,List.all_map,List.all_eq_true,Function.comp];exact fun x _=>zzg t x hx
   ·exact h2 y hy
theorem zDz{roots:List Root}(h:∀x∈roots,x.hf=true):∀e∈endM 0 0 roots,e.hf=true:=by intro e he;obtain⟨h1,h2⟩:=ztR (Z:=rhoC 0 0) (mem:=roots) roots (0+(roots.length-0)) h;simp only[endM,List.take_zero,Nat.sub_self,List.replicate_zero,List.nil_append,List.drop_zero,h1,List.append_nil]at he;exact h2 e he
mutual
theorem zwn{Z:Nat->Nat}{mem:List Root}:∀(s:Sh)(d:Dat s),s.flatO=true->hfA (encR Z mem (mkV s d))=true
|.int _,_,_|.bool,_,_|.str,_,_=>by simp[mkV,encR,hfA]
|.own r,_,_=>by simp only[mkV,encR];split<;>simp[hfA]
|.tup ss,d,h=>by simp only[mkV,encR,hfA];exact ztv ss d (by simpa[Sh.flatO]using h)
|.mpb _ _,_,h|.mpa _ _,_,h|.part _,_,h|.no,_,h|.lst _,_,h|.st _,_,h|.ep _,_,h|.e0,_,h|.nl _,_,h|.nilp,_,h|.nilf,_,h|.agg _,_,h|.ip _,_,h|.fn _ _,_,h=>by simp[Sh.flatO]at h
theorem ztv{Z:Nat->Nat}{mem:List Root}:∀(ss:List Sh)(d:DatL ss),Sh.flatOL ss=true->zyo (encRL Z mem (mkVL ss d))=true
|[],_,_=>by simp[mkVL,encRL,zyo]
|s:: ss,d,h=>by simp only[Sh.flatOL,yhb]at h;simp only[mkVL,encRL,zyo,yhb];exact⟨zwn s _ h.1,ztv ss _ h.2⟩
end
theorem RkR.hf{rk:List RK}{roots:List Root}(h:RkR rk roots)(hf:rk.all RK.flat=true):∀x∈roots,x.hf=true:=by
 intro x hx;obtain⟨r,hr⟩:=List.getElem?_of_mem hx;obtain⟨k,hk,y,rfl⟩:=h.back hr;have hk:=List.all_eq_true.1 hf k (ygd hk);cases k with
 |dead=>cases hk
 |box _ _=>cases hk
 |arr t os=>
  cases os with
  |no=>rw[zd7];exact hk
  | «at» _=>cases hk
  |all=>cases hk
end Go.Fw
namespace Go.Fw
open Go
variable [Pin]
theorem zwq:∀(i n:Nat),(zbx i n).length=n
|_,0=>rfl
|i,n+1=>by simp[zbx,zwq]
theorem zq2:∀(vs:List V)(n i:Nat),lookV (zhb n vs) (n+i)=vs.getD i .junk
|[],n,i=>by simp[zhb,lookV]
|v:: vs,n,0=>by simp[zhb,lookV,Nat.beq_refl]
|v:: vs,n,i+1=>by
 simp only[zhb,lookV];cases h:Nat.beq n (n+(i+1))with
 |true=>have:=Nat.eq_of_beq_eq_true h;omega
 |false=>have:=zq2 vs (n+1) i;rw[show n+(i+1)=n+1+i by omega,this];rfl
theorem zrE:∀(i n:Nat),zbx i n=(List.range n).map (i + ·)
|_,0=>rfl
|i,n+1=>by simp only[zbx,List.range_succ_eq_map,List.map_cons,List.map_map,Nat.add_zero,List.cons.injEq,yhn];rw[zrE (i+1) n];refine List.map_congr_left fun k _=>?_;simp only[Function.comp,Nat.succ_eq_add_one];omega
theorem ztq{A:Type}(d:A):∀(l:List A),(List.range l.length).map (fun i=>l.getD i d)=l:=by intro l;refine List.ext_getElem (by simp) fun i h1 h2=>?_;simp only[List.getElem_map,List.getElem_range];rw[List.getD_eq_getElem?_getD,ygb h2];rfl
theorem zxQ(vs:List V):(zbx 0 vs.length).map (lookV (zhb 0 vs))=vs:=by rw[zrE,List.map_map];refine Eq.trans (List.map_congr_left fun i _=>?_) (ztq .junk vs);simp only[Function.comp,Nat.zero_add];have:=zq2 vs 0 i;rwa [Nat.zero_add]at this
theorem zvm(as:List AV):(zbx 0 as.length).map (look (zha 0 as))=as:=by rw[zrE,List.map_map];refine Eq.trans (List.map_congr_left fun i _=>?_) (ztq .junk as);simp only[Function.comp,Nat.zero_add];rw[zkL,if_pos (Nat.zero_le _),Nat.sub_zero]
theorem ImpL.takeL{as bs as':List AV}:∀{cs:List AV},cs=as++bs->ImpL cs as'->ImpL as (as'.take as.length):=by
 induction as generalizing as' with
 |nil=>intro cs _ _;exact .nil
 |cons a as ih=>
  intro cs e h;cases h with
  |nil=>cases e
  |cons h hs=>simp only[List.cons_append,List.cons.injEq]at e;obtain⟨rfl,e⟩:=e;exact .cons h (ih e hs)
section
variable {P:Program}{Z:Nat->Nat}{T:TS}{st:St}{ρt:Type}{res:ρt}{κ:V->List Root->Option ρt}
theorem zrO{mem:List Root}{k:Option ρt}(p:Nat->Nat):∀(o:List Nat)(l:List Root),kpT mem o (l.map (Root.ren p)) k=some res->o.length<=l.length->k=some res/\
 ∀(j r:Nat),o[j]? =some r->∃y,l[j]? =some y/\(y=.dead\/(∃t xs w xs' w',mem[r]? =some (.arr t xs w)/\y=.arr t xs' w'/\xs'.length=xs.length)\/∃b ds b' ds',mem[r]? =some (.box b ds)/\y=.box b' ds')
 |[],l,h,_=>⟨by cases l<;>simpa[kpT]using h,fun j r h=>by simp at h⟩
 |r0:: o,[],h,hl=>by simp at hl
 |r0:: o,y:: l,h,hl=>by
  simp only[List.map_cons,kpT]at h;have next:kpT mem o (l.map (Root.ren p)) k=some res->(y=.dead\/(∃t xs w xs' w',mem[r0]? =some (.arr t xs w)/\y=.arr t xs' w'/\xs'.length=xs.length)\/∃b ds b' ds',mem[r0]? =some (.box b ds)/\y=.box b' ds')->
   k=some res/\∀(j r:Nat),(r0:: o)[j]? =some r->∃y',(y:: l)[j]? =some y'/\(y'=.dead\/(∃t xs w xs' w',mem[r]? =some (.arr t xs w)/\y'=.arr t xs' w'/\xs'.length=xs.length)\/∃b ds b' ds',mem[r]? =some (.box b ds)/\y'=.box b' ds'):=by
   intro h hy;obtain⟨h1,h2⟩:=zrO p o l h (by simpa using hl);refine⟨h1,fun j r hj=>?_⟩;cases j with
   |zero=>simp at hj;subst hj;exact⟨y,rfl,hy⟩
   |succ j=>exact h2 j r (by simpa using hj)
  cases y with
  |dead=>exact next h (.inl rfl)
  |box b' ds'=>
   simp only[Root.ren]at h;cases e:mem[r0]? with
   |none=>rw[e]at h;cases h
   |some z=>
    rw[e]at h;cases z with
    |dead=>cases h
    |arr _ _ _=>cases h
    |box b ds=>exact next h (.inr (.inr ⟨_,_,_,_,e,rfl⟩))
  |arr t' xs' w'=>
   simp only[Root.ren]at h;cases e:mem[r0]? with
   |none=>rw[e]at h;cases h
   |some z=>
    rw[e]at h;cases z with
    |dead=>cases h
    |box _ _=>cases h
    |arr t xs w=>
     simp only at h;split at h
     ·rename_i ht;subst ht;obtain⟨g1,g2⟩:=zaE h;exact next g2 (.inr (.inl ⟨_,_,_,_,_,e,rfl,by simpa using g1⟩))
     ·cases h
theorem zf8{e:TE}(h:wfE e=true):Sh.solL e.rin e.ash=true/\zAh e.rin=true/\Sh.sol e.rout e.rsh=true/\zAh e.rout=true/\e.rin.length<=e.rout.length/\∀k∈e.rin,k≠.dead:=by simp only[wfE,yhb,List.all_eq_true]at h;obtain⟨⟨⟨⟨⟨h1,h2⟩,h3⟩,h4⟩,h5⟩,h6⟩:=h;exact⟨h1,h2,h3,h4,zcG h5,fun k hk e=>by subst e;simpa using h6 _ hk⟩
theorem zhF{e:TE}(h:wfE e=true)(d:DatL (e.ash++e.rin.map RK.sh)):V.solL (rinE e d) (argE e d)=true:=by
 have hR:=zl2 e.ash e.rin d;have key:∀(a b:List Sh)(d:DatL (a++b)),Sh.solL e.rin a=true->∀{roots:List Root},RkR e.rin roots->V.solL roots ((mkVL (a++b) d).take a.length)=true:=by
  intro a;induction a with
  |nil=>intro b d _ roots _;simp[V.solL]
  |cons s a ih=>intro b d hs roots hr;simp only[Sh.solL,yhb]at hs;simp only[List.cons_append,mkVL,yhs,List.take_succ_cons,V.solL,yhb];exact⟨zu4 hr s _ hs.1,ih b _ hs.2 hr⟩
 exact key _ _ d (zf8 h).1 hR
theorem zAg{e:TE}(h:wfE e=true)(d:DatL (e.ash++e.rin.map RK.sh)):OkRs (rinE e d):=(zl2 e.ash e.rin d).ok (zf8 h).2.1
theorem zsg{e:TE}(d:DatL (e.ash++e.rin.map RK.sh)):(rinE e d).length=e.rin.length:=(zl2 e.ash e.rin d).1
theorem zmR{e:TE}(r:DatL (e.rsh:: e.rout.map RK.sh)):RkR e.rout (routE e r):=zl2 [e.rsh] e.rout r
theorem zsf{e:TE}(h:wfE e=true)(r:DatL (e.rsh:: e.rout.map RK.sh)):(resE e r).sol (routE e r)=true:=by unfold resE;simp only[mkVL,List.headD_cons];exact zu4 (zmR r) e.rsh _ (zf8 h).2.2.1
theorem zxM{e:TE}(h:wfE e=true)(d:DatL (e.ash++e.rin.map RK.sh)):∀(r:Nat) x,(rinE e d)[r]? =some x->x.alive=true:=by
 intro r x hx;obtain⟨k,hk,y,rfl⟩:=(zl2 e.ash e.rin d).back hx;have:=(zf8 h).2.2.2.2.2 k (ygd hk);cases k with
 |dead=>exact absurd rfl this
 |arr t os=>rw[zd7];rfl
 |box b ss=>rw[zhk];rfl
theorem zus{args:List V}{as:List AV}(h:TR Z T st)(hv:VRL Z T.mem args as){e:TE}(hok:TEok P e)(hl:args.length=e.ash.length){d:DatL (e.ash++e.rin.map RK.sh)}(hd:@Sig.get ⟨0⟩ ⟨zbx 0 e.ash.length,e.ash,e.rin⟩ ⟨zhb 0 args,T.mem⟩=some d)
 {r:DatL (e.rsh:: e.rout.map RK.sh)}(hr:e.F d=some r)(he:zB6 T.mem (zdJ T.mem 200 (V.refsL args) []) e.rout (mkVL (e.rsh:: e.rout.map RK.sh) r) κ =some res):
 ∃v m a sm ρ',κ v m=some res/\zjX P e.f as st.mem a sm/\st.mem.length<=sm.length/\VR ρ' m v a/\TR ρ' ⟨T.env,m⟩ ⟨st.env,sm⟩/\(∀q,q<T.mem.length->ρ' q=Z q)/\∀(r:Nat) x,T.mem[r]? =some x->x.alive=true->r∉zdJ T.mem 200 (V.refsL args) []->sm[Z r]? =st.mem[Z r]?:=by
 have hal:as.length=e.ash.length:=by rw[hv.len,hl]
 have hslots:(zbx 0 e.ash.length).map (lookV (zhb 0 args))=args:=by rw[<-hl];exact zxQ args
 have hslotsA:(zbx 0 e.ash.length).map (look (zha 0 as))=as:=by rw[<-hal];exact zvm as
 obtain⟨fp,how⟩:=h.ow;have hget:∃(o:List Nat)(st'':St),zdJ T.mem 200 (V.refsL args) []=o/\st''.mem=st.mem/\o.length=e.rin.length/\zl5 o=true/\(∀r∈o,r<T.mem.length)/\
  (∀(j r:Nat),o[j]? =some r->∃y,(rinE e d)[j]? =some y/\(y=.dead\/(∃t xs w,T.mem[r]? =some (.arr t xs w)/\w.shut=true/\y=.arr t xs w)\/∃b ds b' ds',T.mem[r]? =some (.box b ds)/\y=.box b' ds'))/\
  OwA (fun j=>Z (o.getD j 0)) (rinE e d) st.mem (fpJ fp o (rinE e d))/\(∀(r:Nat) b cs,(rinE e d)[r]? =some (.box b cs)->∃as,st.mem[Z (o.getD r 0)]? =some (.arr cs.length [as])/\VRL (fun j=>Z (o.getD j 0)) (rinE e d) cs as)/\
  ∃as' bs,VRL (fun j=>Z (o.getD j 0)) (rinE e d) (mkVL (e.ash++e.rin.map RK.sh) d) as'/\ImpL (as++bs) as':=by
  have z1:=h.box;have z2:=h.boxC;have z3:=h.inj;have z4:=h.ow;have z5:=zlA args as 0 hv;letI p0:Pin:={nin:=0,ini:=[],len:=rfl}
  have h0:@TR p0 Z ⟨zhb 0 args,T.mem⟩ ⟨zha 0 as,st.mem⟩:=⟨fun n=>z5.look n,z1,z2,z3,z4,fun j hj=>absurd hj (Nat.not_lt_zero j)⟩
  obtain⟨st'',_,t2,e0,c1,hnd,hlt,hkd,owF,as',bs,q3,q2⟩:=@zmA p0 Z ⟨zhb 0 args,T.mem⟩ ⟨zha 0 as,st.mem⟩ ⟨zbx 0 e.ash.length,e.ash,e.rin⟩ d [] [] h0 hd (zwq 0 _) (fun _ _ _=>.nil) (by simp) _ rfl;rw[hslotsA]at q2;have ho:zdJ T.mem 200 (V.refsL args) []=zdJ (⟨zhb 0 args,T.mem⟩:TS).mem 200 (V.refsL ((zbx 0 e.ash.length).map (lookV (⟨zhb 0 args,T.mem⟩:TS).env))++zC1 (⟨zhb 0 args,T.mem⟩:TS).mem (@Nin.nin p0.toNin)) (zbx 0 (@Nin.nin p0.toNin)):=by show _=zdJ T.mem 200 (V.refsL ((zbx 0 e.ash.length).map (lookV (zhb 0 args)))++[]) (zbx 0 0);rw[List.append_nil];rw[hslots];rfl
  refine⟨_,st'',ho,e0,c1,hnd,hlt,hkd,owF fp how,fun r b cs hrb=>?_,as',bs,q3,q2⟩;have:=t2.box r b cs hrb;rw[e0]at this;exact this
 obtain⟨o,st'',ho,e0,c1,hnd,hlt,hkd,ow2,hbox2,as',bs,q3,q2⟩:=hget;rw[ho]at he;obtain⟨w1,w2,w3,w4,w5,w6⟩:=zf8 hok.wf;have okIn:=zAg hok.wf d;have hal2:=zxM hok.wf d;have hlen2:=zsg (e:=e) d;have hndo:=znA o hnd;have halive:∀r∈o,∃x,T.mem[r]? =some x/\x.alive=true:=by
  intro r hr;obtain⟨j,hj⟩:=List.getElem?_of_mem hr;obtain⟨y,hy,hc⟩:=hkd j r hj;have:=hal2 j y hy;rcases hc with rfl|⟨t,xs,w,h1,_,_⟩|⟨b,ds,b',ds',h1,_⟩
  ·cases this
  ·exact⟨_,h1,rfl⟩
  ·exact⟨_,h1,rfl⟩
 have hgD:∀(j r:Nat),o[j]? =some r->o.getD j 0=r:=fun j r hj=>by rw[List.getD_eq_getElem?_getD,hj];rfl
 let L:=zpe (fpJ fp o (rinE e d)) (rinE e d).length;have hLm:∀i∈L,∃r∈o,i∈fp r:=by
  intro i hi;obtain⟨j,hj,hij⟩:=ztp.1 hi;have hjo:o[j]? =some (o[j]'(by omega)):=ygb _;unfold fpJ at hij;split at hij
  ·rw[hgD j _ hjo]at hij;exact⟨_,ygd hjo,hij⟩
  ·simp at hij
 have hLnd:(o.map Z++L).Nodup:=by
  refine List.nodup_append.2 ⟨zmN hndo fun a ha b hb hab=>?_,zpf ow2 _,fun i hi j hj hij=>?_⟩
  ·obtain⟨x,hx,hxa⟩:=halive a ha;obtain⟨y,hy,hya⟩:=halive b hb;exact h.inj a b x y hx hxa hy hya hab
  ·subst hij;obtain⟨r,hr,rfl⟩:=List.mem_map.1 hi;obtain⟨q,_,hq⟩:=hLm _ hj;obtain⟨x,hx,hxa⟩:=halive r hr;exact how.rt r q x hx hxa hq
 have hislt:∀i∈o.map Z++L,i<st.mem.length:=by
  intro i hi;rcases List.mem_append.1 hi with hi|hi
  ·obtain⟨r,hr,rfl⟩:=List.mem_map.1 hi;obtain⟨x,hx,ha⟩:=halive r hr;exact h.lt r x hx ha
  ·obtain⟨r,_,hr⟩:=hLm i hi;exact how.lt r i hr
 have his:∀(j r:Nat),o[j]? =some r->(o.map Z++L)[j]? =some (Z r):=fun j r hj=>by rw[yge (by simpa using(yga.1 hj).1),List.getElem?_map,hj];rfl
 have hrho:∀(j:Nat),rhoC e.rin.length e.rin.length j=j:=fun j=>by unfold rhoC;split<;>omega
 have hg1:∀(j:Nat) x,(rinE e d)[j]? =some x->x.alive=true->Go.Fw.ren (o.map Z++L) st.mem.length (rhoC e.rin.length e.rin.length j)=Z (o.getD j 0):=fun j x hx _=>by
  have hj:j<o.length:=by have:=(yga.1 hx).1;omega
  have hjo:o[j]? =some o[j]:=ygb hj;rw[hrho,hgD j _ hjo];exact zd5 (his j _ hjo)
 obtain⟨act,feet,lens⟩:=zwb (g:=Go.Fw.ren (o.map Z++L) st.mem.length) (nin:=e.rin.length) (F:=e.rin.length) (Nat.le_of_eq hlen2.symm) (Nat.le_refl _) okIn ow2 hbox2 hg1 (fun k j hk=>by rw[hlen2,Nat.sub_self,Nat.add_zero];refine zd5 ?_;rw[ygf (by simp;omega)];simp only[List.length_map,c1,Nat.add_sub_cancel_left];exact hk)
 have hinl:(inM e d).length=(o.map Z++L).length:=by unfold inM;rw[zlN (Nat.le_of_eq hlen2.symm) (Nat.le_refl _),zBv lens];simp only[yhr,List.length_map,hlen2,c1,L];omega
 have owC:=zlM (nin:=e.rin.length) (F:=e.rin.length) (Nat.le_of_eq hlen2.symm) (Nat.le_refl _) okIn;have hlive:∀(i:Nat)(x:Ent),(inM e d)[i]? =some x->x.live=true:=by
  intro i x hx;rcases zjH (Nat.le_of_eq hlen2.symm) (Nat.le_refl _) hx with⟨r,y,hy,rfl⟩|⟨_,_,h3⟩|⟨k,rfl,hk⟩
  ·have hxx:=hx;unfold inM at hxx;rw[zeG (Nat.le_of_eq hlen2.symm) (Nat.le_refl _) (yga.1 hy).1]at hxx;obtain⟨k,q1,_⟩:=za4 (Z:=rhoC e.rin.length e.rin.length) (mem:=rinE e d) (rinE e d) (e.rin.length+((rinE e d).length-e.rin.length)) r _ hy;rw[q1]at hxx;cases hxx;have:=hal2 r y hy;cases y with
   |dead=>cases this
   |arr _ _ _=>rfl
   |box _ _=>rfl
  ·omega
  ·have hkl:=(yga.1 hk).1;have hm:e.rin.length+((rinE e d).length-e.rin.length)+k∈(zaw (rhoC e.rin.length e.rin.length) (rinE e d) (e.rin.length+((rinE e d).length-e.rin.length)) (rinE e d)).2.2.flatten:=by rw[zci,List.mem_range'_1];omega
   obtain⟨a,ha,hia⟩:=List.mem_flatten.1 hm;obtain⟨r,hra⟩:=List.getElem?_of_mem ha;have hfa:fpC e.rin.length e.rin.length (rinE e d) r=a:=by unfold fpC;rw[List.getD_eq_getElem?_getD,hra];rfl
   rw[<-hfa]at hia;obtain⟨es,rows,hh⟩:=owC.live r _ hia;have:(inM e d)[e.rin.length+((rinE e d).length-e.rin.length)+k]? =some (.arr es rows):=hh;rw[hx]at this;cases this;rfl
 have hcall:CallOk ⟨st.env,st.mem⟩ ((encRL id (rinE e d) (argE e d)).map (AV.ren (Go.Fw.ren (o.map Z++L) st.mem.length))) (encRL id (rinE e d) (argE e d)) (inM e d) (o.map Z++L):=by
  refine⟨rfl,fun v hv=>?_,hinl.symm,hLnd,fun j i x hj hx=>?_,hislt,zwc (Nat.le_of_eq hlen2.symm) (Nat.le_refl _) okIn⟩
  ·refine(AV.belL_iff _).1 (zlI (fun r x hx _=>?_) _ (zhF hok.wf d)) v hv;have:=(yga.1 hx).1;rw[hinl];simp only[id,yhr,List.length_map,c1];omega
  ·have:=act j x hx (hlive j x hx);rw[zd5 hj]at this;exact this
 have hcs:=zjX.of_spec (env:=st.env) (hok.ok d r hr) hcall;have hargs:ImpL as ((encRL id (rinE e d) (argE e d)).map (AV.ren (Go.Fw.ren (o.map Z++L) st.mem.length))):=by
  have t1:=q2.takeL rfl;have t2:VRL (fun j=>Z (o.getD j 0)) (rinE e d) (argE e d) (as'.take as.length):=by rw[hal];exact q3.take _
  have t3:=VRL.encR (zhF hok.wf d) t2;rw[t3]at t1;rw[zlJ _ _ (zhF hok.wf d),zhW (ρ':=fun j=>Z (o.getD j 0)) (fun j x hx ha=>by have:=hg1 j x hx ha;rw[hrho]at this;exact this) _ (zhF hok.wf d)]
  exact t1
 have hcs2:=hcs.imp hargs;obtain⟨rR1,rR2⟩:=zmR (e:=e) r;have hrout:=(zmR (e:=e) r).ok w4;have hrl:o.length<=(routE e r).length:=by rw[rR1,c1];exact w5
 have hres:∃v,mkVL (e.rsh:: e.rout.map RK.sh) r=resE e r:: (mkVL (e.rsh:: e.rout.map RK.sh) r).drop 1/\v=resE e r:=⟨_,by simp[mkVL,resE],rfl⟩
 obtain⟨_,hres,_⟩:=hres;rw[hres]at he;simp only[zB6]at he;obtain⟨hκ,hkp⟩:=zrO _ o (routE e r) he hrl;obtain⟨ρ',hag,hv',hT'⟩:=h.after (o:=o) (L:=L) (roots:=routE e r) how hndo halive hLnd hLm hrout hrl hkp;rw[c1,<-hinl]at hv' hT';refine⟨_,_,_,_,ρ',?_,hcs2,?_,hv' _ (zsf hok.wf r),?_⟩
 ·rw[<-c1];exact hκ
 ·simp only[zcC,yhr,zaW];omega
 ·refine⟨hT',hag,fun r x hx ha hr=>?_⟩;rw[ho]at hr;refine zgB (fun hi=>?_) (h.lt r x hx ha);rcases List.mem_append.1 hi with hi|hi
  ·obtain⟨q,hq,e⟩:=List.mem_map.1 hi;obtain⟨y,hy,hya⟩:=halive q hq;exact hr (by rw[<-h.inj q r y x hy hya hx ha e];exact hq)
  ·obtain⟨q,_,hq⟩:=hLm _ hi;exact how.rt r q x hx ha hq
theorem zuq{args:List V}{as:List AV}(h:TR Z T st)(hv:VRL Z T.mem args as){e:TE}(hok:TEok P e)(hc:zD5 e args=true){d:DatL (e.ash++e.rin.map RK.sh)}(hd:zdr (e.ash++e.rin.map RK.sh) (V.viewL T.mem args)=some d)
 {r:DatL (e.rsh:: e.rout.map RK.sh)}(hr:e.F d=some r)(he:zB6 T.mem [] e.rout (mkVL (e.rsh:: e.rout.map RK.sh) r) κ =some res):
 ∃v m a sm ρ',κ v m=some res/\zjX P e.f as st.mem a sm/\st.mem.length<=sm.length/\VR ρ' m v a/\TR ρ' ⟨T.env,m⟩ ⟨st.env,sm⟩/\(∀q,q<T.mem.length->ρ' q=Z q)/\∀(r:Nat) x,T.mem[r]? =some x->x.alive=true->r∉zdJ T.mem 200 (V.refsL args) []->sm[Z r]? =st.mem[Z r]?:=by
 obtain⟨fp,how⟩:=h.ow;have hwf:=hok.wf;have hs:=hok.ok d r hr;have hres:=zsf hok.wf r;have hrk:=zmR (e:=e) r;have hsol:=zhF hok.wf d;obtain⟨w1,w2,w3,w4,w5,w6⟩:=zf8 hok.wf;obtain⟨f',ash,rin,rsh,rout,F⟩:=e;simp only[zD5,yhb]at hc;obtain⟨⟨⟨⟨g1,g2⟩,_⟩,g4⟩,g5⟩:=hc;have:=zBD g1;subst this;have hap:V.purL (mkVL (ash++List.map RK.sh []) d)=true:=zjQ _ d (by simpa using g2);have hargE:argE ⟨f',ash,[],rsh,rout,F⟩ d=mkVL (ash++List.map RK.sh []) d:=by unfold argE;exact List.take_of_length_le (by rw[zgC];simp)
 obtain⟨bs,b1,b2,b3⟩:=zjm h args as hv;obtain⟨as',q1,q2,_⟩:=zev (Z:=Z) (mem:=T.mem) _ _ d bs hd b1;have q3:=zjE q1 hap;have q4:encRL id (rinE ⟨f',ash,[],rsh,rout,F⟩ d) (argE ⟨f',ash,[],rsh,rout,F⟩ d)=encPL (mkVL (ash++List.map RK.sh []) d):=by have t1:VRL id [] (mkVL (ash++List.map RK.sh []) d) (encPL (mkVL (ash++List.map RK.sh []) d)):=zhV _ hap;have t2:=VRL.encR (Z:=id) (mem:=[]) (by rw[<-hargE];exact hsol) t1;rw[hargE];exact t2.symm
 have hs':Spec P f' (encPL (mkVL (ash++List.map RK.sh []) d)) [] (fun r' m'=>r'=encR (rhoC 0 0) (routE ⟨f',ash,[],rsh,rout,F⟩ r) (resE ⟨f',ash,[],rsh,rout,F⟩ r)/\m'=endM 0 0 (routE ⟨f',ash,[],rsh,rout,F⟩ r)):=by rw[<-q4];exact hs
 have hcs:=zjX.of_spec_lend (args:=as) (mem:=st.mem) hs' (zwn rsh _ g4) (zDz (hrk.hf g5)) (by rw[<-q3,q2.len,b2]) fun H F β w hsat i a a' x ha ha' hrep=>by
  rw[<-q3]at ha';obtain⟨b,e1,e2⟩:=q2.get i a' ha';obtain⟨a0,e3,_,e4⟩:=b3 i b e1;rw[ha]at e3;cases e3;have:=e2.1 _ _ _ (e4 H F β w x hsat hrep);refine this.pure ?_ [];rw[q3]at ha';obtain⟨c,e5,rfl⟩:=zo5 _ i a' ha';have:c.pur=true:=by
   have hall:∀(l:List V),V.purL l=true->∀c∈l,c.pur=true:=by
    intro l;induction l with
    |nil=>intro _ c hc;simp at hc
    |cons y l ih=>
     intro h c hc;simp only[V.purL,yhb]at h;rcases List.mem_cons.1 hc with rfl|hc
     ·exact h.1
     ·exact ih h.2 c hc
   exact hall _ hap c (ygd e5)
  exact VR.pur (Z:=Z) (mem:=T.mem) (zmt c this) this
 have hrout:=hrk.ok w4;have hresl:mkVL (rsh:: rout.map RK.sh) r=resE ⟨f',ash,[],rsh,rout,F⟩ r:: (mkVL (rsh:: rout.map RK.sh) r).drop 1:=by simp[mkVL,resE]
 simp only at he;rw[hresl]at he;simp only[zB6]at he;obtain⟨hκ,_⟩:=zrO (zmi [] T.mem.length) [] (routE ⟨f',ash,[],rsh,rout,F⟩ r) he (Nat.zero_le _);obtain⟨ρ',hag,hv',hT'⟩:=h.after (o:=[]) (L:=[]) (roots:=routE ⟨f',ash,[],rsh,rout,F⟩ r) how .nil (fun r h=>by simp at h) .nil (fun i h=>by simp at h) hrout (Nat.zero_le _) (fun j r h=>by simp at h);refine⟨_,_,_,_,ρ',hκ,hcs,?_,hv' _ hres,hT',hag,fun r x hx ha _=>zgB (by simp) (h.lt r x hx ha)⟩;simp only[zcC,yhr,zaW];omega
def EOk(P:Program)(e:TE):Prop:=match zlV e.rin&&zlV e.rout with
|true=>PEok P e
|false=>TEok P e
theorem zhG{cl:Nat}{f:FuncId}{args:List V}{as:List AV}(h:TR Z T st)(hv:VRL Z T.mem args as):∀{Φ:List TE},(∀e∈Φ,EOk P e)->zml cl f args T.mem κ Φ =some res->
 (∃v a,κ v T.mem=some res/\VR Z T.mem v a/\((∀m,zjX P f as m a m)\/(2<=cl/\zjX P f as st.mem a st.mem))) \/
 (3<=cl/\zqi f Φ =false/\∃v m a sm ρ',κ v m=some res/\zjX P f as st.mem a sm/\st.mem.length<=sm.length/\VR ρ' m v a/\TR ρ' ⟨T.env,m⟩ ⟨st.env,sm⟩/\(∀q,q<T.mem.length->ρ' q=Z q)/\∀(r:Nat) x,T.mem[r]? =some x->x.alive=true->r∉zdJ T.mem 200 (V.refsL args) []->sm[Z r]? =st.mem[Z r]?)
 |[],_,he=>by simp[zml]at he
 |e:: Φ,hΦ,he=>by
  have hok:=hΦ e (by simp);simp only[zml]at he;split at he
  ·rename_i hf;rcases zhG h hv (Φ:=Φ) (fun e' he'=>hΦ e' (by simp[he'])) he with h1|⟨h1,h2,h3⟩
   ·exact .inl h1
   ·exact .inr ⟨h1,by simp only[zqi,hf];exact h2,h3⟩
  ·rename_i hf;have hf':=zcF hf;subst hf';have recu:zml cl e.f args T.mem κ Φ =some res->(∃v a,κ v T.mem=some res/\VR Z T.mem v a/\((∀m,zjX P e.f as m a m)\/(2<=cl/\zjX P e.f as st.mem a st.mem))) \/
    (3<=cl/\zqi e.f (e:: Φ)=false/\∃v m a sm ρ',κ v m=some res/\zjX P e.f as st.mem a sm/\st.mem.length<=sm.length/\VR ρ' m v a/\TR ρ' ⟨T.env,m⟩ ⟨st.env,sm⟩/\(∀q,q<T.mem.length->ρ' q=Z q)/\∀(r:Nat) x,T.mem[r]? =some x->x.alive=true->r∉zdJ T.mem 200 (V.refsL args) []->sm[Z r]? =st.mem[Z r]?):=fun he=>by
    rcases zhG h hv (Φ:=Φ) (fun e' he'=>hΦ e' (by simp[he'])) he with h1|⟨h1,h2,h3⟩
    ·exact .inl h1
    ·exact .inr ⟨h1,by simp only[zqi,hf,h2,Bool.and_false],h3⟩
   unfold EOk at hok;split at he
   ·rename_i hn;rw[hn]at hok;split at he
    ·rename_i hc;split at he
     ·rename_i d hd;obtain⟨r,hr,he⟩:=zau he;exact .inl (zur h hv hok hc hd hr he)
     ·exact recu he
    ·exact recu he
   ·rename_i hn;rw[hn]at hok;split at he
    ·cases he
    ·rename_i hc;simp only[yhb]at hc;split at he
     ·rename_i hlb;split at he
      ·rename_i d hd;obtain⟨r,hr,he⟩:=zau he;exact .inr ⟨zcG hc.1,by simp only[zqi,hf,hn,Bool.false_and],zuq h hv hok hlb hd hr he⟩
      ·exact recu he
     ·split at he
      ·rename_i d hd;obtain⟨r,hr,he⟩:=zau he;exact .inr ⟨zcG hc.1,by simp only[zqi,hf,hn,Bool.false_and],zus h hv hok (zcF hc.2) hd hr he⟩
      ·exact recu he
end
end Go.Fw
namespace Go.Fw
open Go
variable [Pin]
structure Inv (W:List Nat)(pu:Bool)(T T':TS):Prop where
 env:∀n,memB n W=false->((lookV T.env n).pur=true\/(lookV T.env n).isJ=true\/(pu=true/\noOw T.mem=true))->lookV T'.env n=lookV T.env n\/lookV T'.env n=.junk
 mem:pu=true->noOw T.mem=true->T'.mem=T.mem
theorem zbF(n:Nat):∀a b:List Nat,memB n (a++b)=(memB n a ||memB n b)
|[],b=>by simp[memB]
|x:: a,b=>by simp only[List.cons_append,memB];cases Nat.beq n x<;>simp[zbF n a b]
theorem zrU(n:Nat):∀a:List Nat,memB n a=true↔n∈a
|[]=>by simp[memB]
|x:: a=>by
 simp only[memB,List.mem_cons];cases h:Nat.beq n x with
 |true=>simp[Nat.eq_of_beq_eq_true h]
 |false=>simp[Nat.ne_of_beq_eq_false h,zrU n a]
theorem zop{n:Nat}{a:List Nat}:memB n a=false↔n∉a:=by rw[<-zrU];simp
theorem Inv.refl(W:List Nat)(pu:Bool)(T:TS):Inv W pu T T:=⟨fun _ _ _=>.inl rfl,fun _ _=>rfl⟩
theorem Inv.mono{W W':List Nat}{pu pu':Bool}{T T':TS}(h:Inv W pu T T')(hW:∀n,memB n W'=false->memB n W=false)(hp:pu'=true->pu=true):Inv W' pu' T T':=
 ⟨fun n hn hc=>h.env n (hW n hn) (hc.imp id (.imp id fun e=>⟨hp e.1,e.2⟩)),fun e=>h.mem (hp e)⟩
theorem Inv.trans{W:List Nat}{pu:Bool}{T T1 T2:TS}(h:Inv W pu T T1)(h':Inv W pu T1 T2):Inv W pu T T2:=by
 refine⟨fun n hn hc=>?_,fun e e1=>(h'.mem e (by rw[h.mem e e1];exact e1)).trans (h.mem e e1)⟩;rcases h.env n hn hc with e|e
 ·rcases h'.env n hn (by rw[e];exact hc.imp id (.imp id fun e=>⟨e.1,by rw[h.mem e.1 e.2];exact e.2⟩))with e'|e'
  ·exact .inl (e'.trans e)
  ·exact .inr e'
 ·rcases h'.env n hn (.inr (.inl (by rw[e];rfl)))with e'|e'
  ·exact .inr (e'.trans e)
  ·exact .inr e'
theorem zq7(Φ:List TE){k:K}(h1:∀f xs,k≠.call f xs)(h2:∀f xs,k≠.callv f xs):zkO Φ k=zkO [] k:=by
 cases k with
 |call f xs=>exact absurd rfl (h1 _ _)
 |callv f xs=>exact absurd rfl (h2 _ _)
 |mv x=>cases x with
  |t n=>rfl
  |c v=>cases v<;>rfl
 |_=>rfl
theorem Inv.put{W:List Nat}{pu:Bool}{T:TS}{d:Option Nat}{v:V}{m:List Root}(hd:∀x,d=some x->memB x W=true)(hm:pu=true->noOw T.mem=true->m=T.mem):Inv W pu T ⟨zix T.env d v,m⟩:=by
 refine⟨fun n hn _=>.inl ?_,hm⟩;rw[zbO];split
 ·rename_i e;rw[hd n e]at hn;cases hn
 ·rfl
theorem TR.lit{Z:Nat->Nat}{T:TS}{st:St}{t:Nat}{b:Bool}(h:TR Z T st)(ht:lookV T.env t=.bool b):TR Z ⟨(t,.bool b):: T.env,T.mem⟩ ⟨(t,.bool b):: st.env,st.mem⟩:=by
 refine⟨fun n=>?_,h.box,h.boxC,h.inj,h.ow,h.pin⟩;have h1:=h.env n;have e1:lookV ((t,V.bool b):: T.env) n=if t=n then .bool b else lookV T.env n:=by have:=zbO (env:=T.env) (d:=some t) (v:=.bool b) (n:=n);simpa[zix]using this
 have e2:look ((t,AV.bool b):: st.env) n=if t=n then .bool b else look st.env n:=by simp[look]
 show VR Z T.mem (lookV ((t,V.bool b):: T.env) n) (look ((t,AV.bool b):: st.env) n);rw[e1,e2];split
 ·simp[VR]
 ·exact h1
theorem Inv.lit{W:List Nat}{pu:Bool}{T:TS}{t:Nat}{b:Bool}(ht:lookV T.env t=.bool b):Inv W pu T ⟨(t,.bool b):: T.env,T.mem⟩:=by
 refine⟨fun n _ _=>.inl ?_,fun _ _=>rfl⟩;have:=zbO (env:=T.env) (d:=some t) (v:=.bool b) (n:=n);simp only[zix,Option.some.injEq]at this;rw[this];split
 ·rename_i e;subst e;exact ht.symm
 ·rfl
section
variable {Φ:List TE}{tys:List (Nat×An)}{C:Ctx}{k:List CItem}{ρt:Type}{res:ρt}
theorem zCD(tys:List (Nat×An))(d:Option Nat):zFr tys d≠.no->d≠none:=by intro h e;subst e;simp[zFr]at h
theorem zz7{Z:Nat->Nat}{T:TS}{st:St}{κ:V->List Root->Option ρt}{d:Option Nat}{g:Option (Nat×Bool)}{kk:K}{keep:List Nat}{l:List COp}{cl:Nat}(hΦ:∀e∈Φ,EOk C.P e)(h:TR Z T st)(hg:g=none\/∃t bb,g=some (t,bb)/\look st.env t=.bool bb)
 (he:opT Φ tys false cl d kk T.env T.mem κ =some res)
 (hk:∀v m ρ' st',TR ρ' ⟨zix T.env d v,m⟩ st'->(zkO Φ kk=true->noOw T.mem=true->m=T.mem)->κ v m=some res->AW C (.ops keep l:: k) st'):AW C (.ops keep (.mk d g kk:: l):: k) st:=by
 have put:∀{v:V}{a:AV},VR Z T.mem v a->TR Z ⟨zix T.env d v,T.mem⟩ ⟨put st.env d a,st.mem⟩:=fun hv=>⟨fun n=>by
  simp only[zbO,zgA];split
  ·exact hv
  ·exact h.env n,h.box,h.boxC,h.inj,h.ow,h.pin⟩
 have plain:∀(hne1:∀f xs,kk≠.call f xs)(hne2:∀f xs,kk≠.callv f xs),evT false (zFr tys d) kk T.env T.mem κ =some res->AW C (.ops keep (.mk d g kk:: l):: k) st:=by intro hne1 hne2 he;obtain⟨v,m,h1,⟨p,a,sm,g1,g2,st2,ρ',g3,_,g4⟩,h2⟩:=ztg (d:=d) h (zCD tys d) he;refine AW.opk hg g1 g2 (g3.2 C _ ?_);exact hk v m ρ' st2 g4 (fun e=>h2 (by rw[<-zq7 Φ hne1 hne2];exact e)) h1
 have call:∀{f:FuncId}{args:List V}{as:List AV},zml cl f args T.mem κ Φ =some res->VRL Z T.mem args as->
  ((∃xs,kk=.call f xs/\as=xs.map (ar st.env))\/(∃y xs caps f0,kk=.callv y xs/\ar st.env y=.fn f0 caps/\f=fnum f0/\as=fargs f0 (xs.map (ar st.env)) caps))->AW C (.ops keep (.mk d g kk:: l):: k) st:=by
  intro f args as he hv hkk;rcases zhG h hv hΦ he with⟨v,a,h1,h2,h3⟩|⟨_,hp,v,m,a,sm,ρ',h1,h2,h3,h4,h5,_⟩
  ·have hcs:zjX C.P f as st.mem a st.mem:=by
    rcases h3 with h3|h3
    ·exact h3 _
    ·exact h3.2
   exact AW.callc hg hkk hcs (Nat.le_refl _) (hk v T.mem Z _ (put h2) (fun _ _=>rfl) h1)
  ·refine AW.callc hg hkk h2 h3 (hk v m ρ' _ (h5.put d h4) (fun e=>?_) h1);rcases hkk with⟨xs,rfl,_⟩|⟨y,xs,caps,f0,rfl,_,_⟩
   ·simp only[zkO]at e;rw[hp]at e;cases e
   ·simp only[zkO]at e;cases e
 cases kk with
 |call f xs=>simp only[opT]at he;exact call he (VRL.map h.ar xs) (.inl ⟨xs,rfl,rfl⟩)
 |callv y xs=>
  simp only[opT]at he;split at he
  ·rename_i f caps e;have hy:=h.ar y;rw[e]at hy;simp only[VR]at hy;obtain⟨cas,e2,hc⟩:=hy;exact call he ((VRL.map h.ar xs).fargs hc) (.inr ⟨y,xs,cas,f,rfl,e2,rfl,rfl⟩)
  ·cases he
 |_=>exact plain (by intros;simp) (by intros;simp) he
theorem zmU(hΦ:∀e∈Φ,EOk C.P e){keep:List Nat}{D:Dn}{κ:TS->Option ρt}:∀(ops:List COp)(cls:List Nat)(T:TS){Z:Nat->Nat}{st:St},TR Z T st->znC Φ tys false D ops cls T κ =some res->
 (∀T' ρ' st',TR ρ' T' st'->Inv (zlE ops) (zaM Φ ops) T T'->κ T'=some res->AW C (.ops keep []:: k) st')->AW C (.ops keep ops:: k) st
 |[],cls,T,Z,st,h,he,hk=>hk T Z st h (.refl _ _ _) (by simpa[znC]using he)
 |.mk d g kk:: l,cls,T,Z,st,h,he,hk=>by
  have hW:∀x,d=some x->memB x (zlE (.mk d g kk:: l))=true:=fun x hx=>by subst hx;simp[zlE,memB,Nat.beq_refl]
  have hWl:∀n,memB n (zlE (.mk d g kk:: l))=false->memB n (zlE l)=false:=fun n hn=>by
   cases d with
   |none=>exact hn
   |some d=>
    simp only[zlE,memB]at hn;split at hn
    ·cases hn
    ·exact hn
  have hpu:zaM Φ (.mk d g kk:: l)=true->zkO Φ kk=true/\zaM Φ l=true:=fun e=>by simpa[zaM]using e
  have next:∀(T1:TS)(ρ1:Nat->Nat)(st1:St)(cls1:List Nat),TR ρ1 T1 st1->Inv (zlE (.mk d g kk:: l)) (zaM Φ (.mk d g kk:: l)) T T1->znC Φ tys false D l cls1 T1 κ =some res->AW C (.ops keep l:: k) st1:=by intro T1 ρ1 st1 cls1 h1 hi he1;exact zmU hΦ l cls1 T1 h1 he1 fun T' ρ' st' h' hi' hκ=>hk T' ρ' st' h' (hi.trans (hi'.mono hWl fun e=>(hpu e).2)) hκ
  have on:∀(T0:TS)(st0:St)(cl:Nat),TR Z T0 st0->Inv (zlE (.mk d g kk:: l)) (zaM Φ (.mk d g kk:: l)) T T0->(g=none\/∃t bb,g=some (t,bb)/\look st0.env t=.bool bb)->
   opT Φ tys false cl d kk T0.env T0.mem (fun v m=>znC Φ tys false D l cls.tail ⟨zix T0.env d v,m⟩ κ)=some res->AW C (.ops keep (.mk d g kk:: l):: k) st0:=by
   intro T0 st0 cl h0 hi hg he0;refine zz7 hΦ h0 hg he0 fun v m ρ' st' h' hm hκ=>?_;exact next _ ρ' st' _ h' (hi.trans (Inv.put hW fun e=>hm (hpu e).1)) hκ
  have off:∀(T0:TS)(st0:St),TR Z T0 st0->Inv (zlE (.mk d g kk:: l)) (zaM Φ (.mk d g kk:: l)) T T0->(∃t bb,g=some (t,bb)/\(look st0.env t=.bool (!bb)\/look st0.env t=.tup []))->
   znC Φ tys false D l cls.tail ⟨zix T0.env d (.tup []),T0.mem⟩ κ =some res->AW C (.ops keep (.mk d g kk:: l):: k) st0:=by
   intro T0 st0 h0 hi ⟨t,bb,hg,ht⟩ he0;subst hg;refine AW.opoff ht ?_;refine next _ Z _ _ ?_ (hi.trans (Inv.put hW fun _ _=>rfl)) he0
   refine⟨fun n=>?_,h0.box,h0.boxC,h0.inj,h0.ow,h0.pin⟩;simp only[zbO,zgA];split
   ·simp[VR,VRL]
   ·exact h0.env n
  cases g with
  |none=>simp only[znC,okT,zjY,zdi,zEo,Bool.not_false,Bool.true_or]at he;exact on T st _ h (.refl _ _ _) (.inl rfl) he
  |some gg=>
   obtain⟨t,bb⟩:=gg;have ht0:=h.env t;have lit:∀b,lookV T.env t=.bool b->look st.env t=.bool b->AW C (.ops keep (.mk d (some (t,bb)) kk:: l):: k) ⟨(t,.bool b):: st.env,st.mem⟩->AW C (.ops keep (.mk d (some (t,bb)) kk:: l):: k) st:=by intro b _ h2 h3;exact AW.lit (h2 ▸ Imp.refl _) h3
   simp only[znC,okT,zjY,zdi,zEo,Bool.not_false,Bool.true_or]at he;split at he
   ·rename_i x hx;rw[hx]at ht0;simp only[VR]at ht0;cases x with
    |true=>
     refine lit true hx ht0 ?_;cases bb with
     |true=>exact on _ _ _ (h.lit hx) (.lit hx) (.inr ⟨t,true,rfl,by simp[look]⟩) (by simpa[zab]using he)
     |false=>exact off _ _ (h.lit hx) (.lit hx) ⟨t,false,rfl,.inl (by simp[look])⟩ (by simpa[zab]using he)
    |false=>
     refine lit false hx ht0 ?_;cases bb with
     |true=>exact off _ _ (h.lit hx) (.lit hx) ⟨t,true,rfl,.inl (by simp[look])⟩ (by simpa[zab]using he)
     |false=>exact on _ _ _ (h.lit hx) (.lit hx) (.inr ⟨t,false,rfl,by simp[look]⟩) (by simpa[zab]using he)
   ·rename_i hx;rw[hx]at ht0;simp only[VR,VRL]at ht0;obtain⟨as,h1,rfl⟩:=ht0;exact off T st h (.refl _ _ _) ⟨t,bb,rfl,.inr h1⟩ he
   ·cases he
end
end Go.Fw
namespace Go.Fw
open Go
variable [Pin]
theorem zpG{P:Program}{Φ:List (En P)}{stb:List Nat}{gw:Nat->Nat}{cr:List (Nat×CR)}{Q Q':St->Prop}(hQ:∀st,Q st->Q' st):∀(l:List COp)(cls:List Nat)(st:St),zmS Φ stb gw cr l cls st Q->zmS Φ stb gw cr l cls st Q':=by
 intro l;induction l with
 |nil=>intro cls st h;exact hQ _ h
 |cons c l ih=>
  intro cls st h;obtain⟨d,g,k⟩:=c;cases g with
  |none=>
   simp only[zmS]at h|-;refine⟨h.1,?_⟩;have h2:=h.2;split at h2
   ·exact⟨h2.1,h2.2.1,h2.2.2.1,ih _ _ h2.2.2.2⟩
   ·exact h2.elim
  |some gg=>
   obtain⟨t,bb⟩:=gg;simp only[zmS]at h|-;split at h
   ·refine⟨fun hx=>?_,fun hx=>ih _ _ (h.2 hx)⟩;have h2:=h.1 hx;refine⟨h2.1,?_⟩;have h2:=h2.2;split at h2
    ·exact⟨h2.1,h2.2.1,h2.2.2.1,ih _ _ h2.2.2.2⟩
    ·exact h2.elim
   ·exact ih _ _ h
   ·exact h.elim
theorem zmw{P:Program}{Φ:List (En P)}{stb:List Nat}{cr:List (Nat×CR)}{n:Nat}{c:CR}{d:Option Nat}{k:K}{env:List (Nat×AV)}{mem:List Ent}(hd:d≠some n):
 evD Φ ((n,c):: cr) d k env mem=evD Φ cr d k env mem/\clsK stb ((n,c):: cr) d k env=clsK stb cr d k env:=by
 have hl:zi9 ((n,c):: cr) d=zi9 cr d:=by
  cases d with
  |none=>cases cr<;>rfl
  |some d=>rw[zd4,if_neg (fun e=>hd (by rw[e]))]
 constructor
 ·cases k<;>simp only[evD,hl]
 ·cases k<;>simp only[clsK,hl]
theorem zsh{P:Program}{Φ:List (En P)}{stb:List Nat}{gw:Nat->Nat}{cr:List (Nat×CR)}{n:Nat}{c:CR}{Q:St->Prop}:∀(l:List COp)(cls:List Nat)(st:St),(∀c'∈l,c'.d≠some n)->zmS Φ stb gw cr l cls st Q->zmS Φ stb gw ((n,c):: cr) l cls st Q:=by
 intro l;induction l with
 |nil=>intro cls st _ h;exact h
 |cons c' l ih=>
  intro cls st hd h;obtain⟨d,g,k⟩:=c';have hd0:d≠some n:=hd (.mk d g k) (by simp);have hdl:∀c'∈l,c'.d≠some n:=fun c' hc=>hd c' (by simp[hc]);cases g with
  |none=>
   simp only[zmS]at h|-;rw[(zmw (stb:=stb) hd0).1,(zmw (P:=P) (Φ:=Φ) (stb:=stb) (mem:=st.mem) hd0).2];refine⟨h.1,?_⟩;have h2:=h.2;split at h2
   ·exact⟨h2.1,h2.2.1,fun h5=>by obtain⟨w,x,q1,q2,q3,q4⟩:=h2.2.2.1 h5;exact⟨w,x,q1,q2,q3,fun m hm=>by rw[(zmw (stb:=stb) hd0).1];exact q4 m hm⟩,ih _ _ hdl h2.2.2.2⟩
   ·exact h2.elim
  |some gg=>
   obtain⟨t,bb⟩:=gg;simp only[zmS]at h|-;split at h
   ·refine⟨fun hx=>?_,fun hx=>ih _ _ hdl (h.2 hx)⟩;have h2:=h.1 hx;rw[(zmw (stb:=stb) hd0).1,(zmw (P:=P) (Φ:=Φ) (stb:=stb) (mem:=st.mem) hd0).2];refine⟨h2.1,?_⟩;have h2:=h2.2;split at h2
    ·exact⟨h2.1,h2.2.1,fun h5=>by obtain⟨w,x,q1,q2,q3,q4⟩:=h2.2.2.1 h5;exact⟨w,x,q1,q2,q3,fun m hm=>by rw[(zmw (stb:=stb) hd0).1];exact q4 m hm⟩,ih _ _ hdl h2.2.2.2⟩
    ·exact h2.elim
   ·exact ih _ _ hdl h
   ·exact h.elim
def wrK(k:K)(env:List (Nat×AV)):Option Nat:=
 match k with
 |.store _ a _=>match ar env a with
  |.mp i _ _=>some i
  |_=>none
 |.app _ x _|.apps x _|.apf _ x _=>match ar env x with
  |.ms i _ _ _=>some i
  |_=>none
 |_=>none
theorem zmu{pr:Bool}{mem:List Ent}{es:Nat}{x:AV}{ys:List (List AV)}{r:Ev}{e:Nat}(h:zgb pr mem es x ys=some r)(hl:e<mem.length)(hw:∀i es off len,x=.ms i es off len->i≠e):r.2.2[e]? =mem[e]?:=by unfold zgb at h;(repeat' split at h)<;>first|(cases h;done)|(cases h;first|rfl|exact yge hl|(rw[yge (by simpa using hl),ygg (hw _ _ _ _ rfl)])|(rw[ygg (hw _ _ _ _ rfl)]))
theorem zxd{mem:List Ent}{es:Nat}{x:AV}{ys:List (List AV)}{r:Ev}{e:Nat}(h:zuJ mem es x ys=some r)(hl:e<mem.length)(hw:∀i es off len,x=.ms i es off len->i≠e):r.2.2[e]? =mem[e]?:=by
 unfold zuJ at h;split at h
 ·rename_i p j e0 o0 n m hev;have hj:j=mem.length:=by unfold zgb at hev;(repeat' split at hev)<;>first|(cases hev;done)|(cases hev;rfl)
  split at h
  ·cases h;subst hj;simp only;rw[ygg (by omega)];exact zmu hev hl hw
  ·cases h
 ·cases h
theorem zBr{k:K}{env:List (Nat×AV)}{mem:List Ent}{r:Ev}{e:Nat}(h:evK k env mem=some r)(hl:e<mem.length)(hw:∀i,wrK k env=some i->i≠e):r.2.2[e]? =mem[e]?:=by
 cases k with
 |store n a x=>
  simp only[evK]at h;split at h
  ·rename_i i row off ha;have:=hw i (by simp only[wrK,ha]);(repeat' split at h)<;>first|(cases h;done)|(cases h;rw[ygg this])
  ·cases h
 |app es x y=>
  simp only[evK]at h;split at h
  ·exact zmu h hl fun i es off len hx=>hw i (by simp only[wrK,hx])
  ·cases h
 |apps x y=>
  simp only[evK]at h;split at h
  ·exact zmu h hl fun i es off len hx=>hw i (by simp only[wrK,hx])
  ·cases h
 |apf es x y=>
  simp only[evK]at h;split at h
  ·exact zxd h hl fun i es off len hx=>hw i (by simp only[wrK,hx])
  ·cases h
 |load n x=>cases n<;>simp only[evK]at h<;>(repeat' split at h)<;>cases h<;>rfl
 |field o n x=>cases n<;>simp only[evK]at h<;>(repeat' split at h)<;>cases h<;>rfl
 |boxm n x=>simp only[evK]at h;cases h;exact yge hl
 |alloc zs=>simp only[evK]at h;cases h;exact yge hl
 |bslm es ps=>simp only[evK]at h;cases h;exact yge hl
 |buildo o es zs ps=>simp only[evK]at h;cases h;exact yge hl
 |mks es zs l=>simp only[evK]at h;(repeat' split at h)<;>first|(cases h;done)|(cases h;exact yge hl)
 |call _ _|callv _ _=>simp[evK]at h
 |_=>simp only[evK]at h;first|(cases h;rfl)|((repeat' split at h)<;>first|(cases h;done)|(cases h;rfl))
theorem zEV{n:Nat}{a x:Ar}{env:List (Nat×AV)}{mem:List Ent}{r:Ev}(h:evK (.store n a x) env mem=some r):∃w e,wrK (.store n a x) env=some w/\w<mem.length/\r.2.2=mem.set w e/\∀m,m[w]? =mem[w]?->evK (.store n a x) env m=some (r.1,r.2.1,m.set w e):=by
 simp only[evK]at h;split at h
 ·rename_i i row off ha;split at h
  ·rename_i es rows hi;split at h
   ·rename_i rw0 hr;cases h;refine⟨i,_,by simp only[wrK,ha],(yga.1 hi).1,rfl,fun m hm=>?_⟩;rw[hi]at hm;simp only[evK,ha,hm,hr]
   ·cases h
  ·cases h
 ·cases h
theorem zbl{mem:List Root}{r:Nat}:zkK mem r=true↔∃y,mem[r]? =some y/\y.alive=true:=by
 unfold zkK;cases h:mem[r]? with
 |none=>simp
 |some y=>cases y<;>simp[Root.alive]
section
variable {tys:List (Nat×An)}{ρt:Type}{res:ρt}
theorem zH8{Z:Nat->Nat}{T:TS}{st:St}{dr:Bool}{an:An}{k:K}{κ:V->List Root->Option ρt}(h:TR Z T st)(he:evT dr an k T.env T.mem κ =some res):∀i,wrK k st.env=some i->∃r,wrT k T.env=some r/\(zkK T.mem r=true->i=Z r):=by
 intro i hi;cases k with
 |store n a x=>
  have ha:=h.ar a;simp only[evT]at he;split at he
  ·rename_i r row off e;refine⟨r,by simp only[wrT,e],fun hl=>?_⟩;rw[e]at ha;simp only[wrK]at hi;simp only[VR]at ha;obtain⟨y,hy,hya⟩:=zbl.1 hl;simp only[mpR,hy]at ha;cases y with
   |dead=>cases hya
   |arr t xs w=>simp only at ha;rw[ha]at hi;simpa using hi.symm
   |box b cs=>simp only at ha;rw[ha.1]at hi;simpa using hi.symm
  ·cases he
 |app es x y=>
  have hx:=h.ar x;have own:∀r,arV T.env x=.own r->∃r,wrT (.app es x y) T.env=some r/\(zkK T.mem r=true->i=Z r):=fun r e=>by
   refine⟨r,by simp only[wrT,e],fun hl=>?_⟩;rw[e]at hx;simp only[wrK]at hi;simp only[VR]at hx;obtain⟨y,hy,hya⟩:=zbl.1 hl;simp only[zj2,hy]at hx;cases y with
   |dead=>cases hya
   |arr t xs w=>simp only at hx;rw[hx]at hi;simpa using hi.symm
   |box b cs=>exfalso;simp only[evT,e,hy]at he;(repeat' split at he)<;>first|(cases he;done)|(simp only[ygc]at he;obtain⟨_,_,he⟩:=he;first|(cases he;done)|((repeat' split at he)<;>cases he))
  have e0:arV T.env x=.e0->False:=fun e=>by rw[e]at hx;simp only[VR]at hx;simp only[wrK,hx]at hi;cases hi
  by_cases ho:∃r,arV T.env x=.own r
  ·obtain⟨r,e⟩:=ho;exact own r e
  ·exfalso;simp only[evT]at he;(repeat' split at he)<;>first|(cases he;done)|(exact ho ⟨_,‹_›⟩)|(exact e0 ‹_›)|(simp only[ygc]at he;obtain⟨_,_,he⟩:=he;(repeat' split at he)<;>first|(cases he;done)|(exact ho ⟨_,‹_›⟩)|(exact e0 ‹_›))
 |apf es x y=>
  have hx:=h.ar x;have own:∀r,arV T.env x=.own r->∃r,wrT (.apf es x y) T.env=some r/\(zkK T.mem r=true->i=Z r):=fun r e=>by
   refine⟨r,by simp only[wrT,e],fun hl=>?_⟩;rw[e]at hx;simp only[wrK]at hi;simp only[VR]at hx;obtain⟨y,hy,hya⟩:=zbl.1 hl;simp only[zj2,hy]at hx;cases y with
   |dead=>cases hya
   |arr t xs w=>simp only at hx;rw[hx]at hi;simpa using hi.symm
   |box b cs=>exfalso;simp only[evT,e,hy]at he;(repeat' split at he)<;>first|(cases he;done)|(simp only[ygc]at he;obtain⟨_,_,he⟩:=he;first|(cases he;done)|((repeat' split at he)<;>cases he))
  have e0:arV T.env x=.e0->False:=fun e=>by rw[e]at hx;simp only[VR]at hx;simp only[wrK,hx]at hi;cases hi
  by_cases ho:∃r,arV T.env x=.own r
  ·obtain⟨r,e⟩:=ho;exact own r e
  ·exfalso;simp only[evT]at he;(repeat' split at he)<;>first|(cases he;done)|(exact ho ⟨_,‹_›⟩)|(exact e0 ‹_›)|(simp only[ygc]at he;obtain⟨_,_,he⟩:=he;(repeat' split at he)<;>first|(cases he;done)|(exact ho ⟨_,‹_›⟩)|(exact e0 ‹_›))
 |apps x y=>
  have hx:=h.ar x;have own:∀r,arV T.env x=.own r->∃r,wrT (.apps x y) T.env=some r/\(zkK T.mem r=true->i=Z r):=fun r e=>by
   refine⟨r,by simp only[wrT,e],fun hl=>?_⟩;rw[e]at hx;simp only[wrK]at hi;simp only[VR]at hx;obtain⟨y,hy,hya⟩:=zbl.1 hl;simp only[zj2,hy]at hx;cases y with
   |dead=>cases hya
   |arr t xs w=>simp only at hx;rw[hx]at hi;simpa using hi.symm
   |box b cs=>exfalso;simp only[evT,e,hy]at he;(repeat' split at he)<;>first|(cases he;done)|(simp only[ygc]at he;obtain⟨_,_,he⟩:=he;first|(cases he;done)|((repeat' split at he)<;>cases he))
  have e0:arV T.env x=.e0->False:=fun e=>by rw[e]at hx;simp only[VR]at hx;simp only[wrK,hx]at hi;cases hi
  by_cases ho:∃r,arV T.env x=.own r
  ·obtain⟨r,e⟩:=ho;exact own r e
  ·exfalso;simp only[evT]at he;(repeat' split at he)<;>first|(cases he;done)|(exact ho ⟨_,‹_›⟩)|(exact e0 ‹_›)
 |_=>simp[wrK]at hi
end
def zym(D:Dn)(mem:List Root)(R:List Nat):Prop:=∀r∈R,zkK mem r=true/\r<D.n/\r∉D.wr
def OnD(P:Program)(D:Dn)(Z:Nat->Nat)(mem:List Root)(d:Option Nat)(kk:K)(l:List COp)(cls:List Nat)(st0:St)(Q:St->Prop):Prop:=
 ∃R gw cr,(∀r∈D.rd,r∈R)/\zym D mem R/\(∀p∈D.gs,gw (Z p.1)=p.2)/\clsK (R.map Z) cr d kk st0.env<=cls.headD 0/\(match evD ([]:List (En P)) cr d kk st0.env st0.mem with
  |some (p,v,m)=>p/\KeepE (R.map Z) (cls.headD 0) st0.mem m/\StoreE ([]:List (En P)) gw cr d kk st0.env (cls.headD 0) st0.mem (p,v,m)/\zmS ([]:List (En P)) (R.map Z) gw cr l cls.tail ⟨put st0.env d v,m⟩ Q
  |none=>False)
def zFo(D:Dn)(mem:List Root):Prop:=(∀p∈D.gs,zkK mem p.1=true)/\∀p∈D.gs,∀q∈D.gs,p.1=q.1->p.2=q.2
section
variable {Φ:List TE}{tys:List (Nat×An)}{P:Program}{ρt:Type}{res:ρt}
theorem zDr{Z:Nat->Nat}{T:TS}{st:St}{k:K}{D:Dn}{R:List Nat}{cl:Nat}{cr:List (Nat×CR)}{d:Option Nat}(h:TR Z T st)(h1:∀f xs,k≠.call f xs)(h2:∀f xs,k≠.callv f xs)
 (hc:zBe D k T.env<=cl)(hl:∀r,rdT k T.env=some r->zkK T.mem r=true)(hR:cl<=1->∀r,rdT k T.env=some r->r∈R):clsK (R.map Z) cr d k st.env<=cl:=by
 cases k with
 |call f xs=>exact absurd rfl (h1 _ _)
 |callv f xs=>exact absurd rfl (h2 _ _)
 |load n x=>
  have hx:=h.ar x;simp only[zBe]at hc;simp only[clsK];simp only[rdT]at hl hR;split
  ·exact Nat.zero_le _
  ·rename_i i row off hi;rw[hi]at hx;rcases Nat.lt_or_ge cl 2 with hcl|hcl
   ·cases hv:arV T.env x with
    |mp r row' off'=>
     rw[hv]at hx hc;simp only[VR]at hx;have hr:=hR (by omega) r (by rw[hv]);have hlive:=hl r (by rw[hv]);have he:i=Z r:=by
      obtain⟨y,hy,hya⟩:=zbl.1 hlive;simp only[mpR,hy]at hx;cases y with
      |dead=>cases hya
      |arr t xs w=>simp only[AV.mp.injEq]at hx;exact hx.1
      |box b cs=>simp only[AV.mp.injEq]at hx;exact hx.1.1
     have:(R.map Z).contains i=true:=by rw[he];simp only[List.contains_eq_mem,yhc];exact List.mem_map_of_mem hr
     rw[this];simp only at hc|-;split at hc<;>omega
    |ip cs=>rw[hv]at hx;simp only[VR]at hx;obtain⟨as,hx,_⟩:=hx;cases hx
    |ep n v=>rw[hv]at hx;simp only[VR]at hx;cases hx
    |_=>rw[hv]at hc;simp only at hc;omega
   ·split<;>omega
  ·rename_i hne1 hne2;split at hc
   ·rename_i e;rw[e]at hx;simp only[VR]at hx;obtain⟨as,hx,_⟩:=hx;exact absurd hx (hne1 _)
   ·rename_i e;rw[e]at hx;simp only[VR]at hx;exact absurd hx (hne1 _)
   ·rename_i r row off e;rw[e]at hx;simp only[VR]at hx;have hlive:=hl r (by rw[e]);obtain⟨y,hy,hya⟩:=zbl.1 hlive;simp only[mpR,hy]at hx;cases y with
    |dead=>cases hya
    |arr t xs w=>exact absurd hx (hne2 _ _ _)
    |box b cs=>exact absurd hx.1 (hne2 _ _ _)
   ·exact hc
 |b2s x=>
  have hx:=h.ar x;simp only[zBe]at hc;simp only[clsK];split
  ·exact Nat.zero_le _
  ·exact Nat.zero_le _
  ·rename_i hne1 hne2;split at hc
   ·rename_i e;rw[e]at hx;simp only[VR]at hx;exact absurd hx (hne1 _ _)
   ·rename_i e;rw[e]at hx;simp only[VR]at hx;exact absurd hx (hne1 _ _)
   ·rename_i e;rw[e]at hx;simp only[VR]at hx;exact absurd hx hne2
   ·exact hc
 |_=>exact hc
theorem zz4(D:Dn)(cl:Nat)(k:K)(env:List (Nat×V))(mem:List Root):(zdi true D cl k env mem).n=D.n:=rfl
theorem zos(D:Dn)(cl:Nat)(k:K)(env:List (Nat×V))(mem:List Root):(zdi true D cl k env mem).wr=crT cl k env mem++match Nat.beq cl 4,wrT k env with
|false,some r=>r:: D.wr
|_,_=>D.wr:=rfl
theorem zr4(D:Dn)(cl:Nat)(k:K)(env:List (Nat×V))(mem:List Root):(zdi true D cl k env mem).gs=match Nat.ble 5 cl,wrT k env with
|true,some r=>(r,cl):: D.gs
|_,_=>D.gs:=rfl
theorem zq1:∀{gs:List (Nat×Nat)}{n c:Nat},zxB gs n=some c->(n,c)∈gs
| (m,v):: r,n,c,h=>by
 simp only[zxB]at h;split at h
 ·rename_i e;cases h;rw[Nat.eq_of_beq_eq_true e];exact List.mem_cons_self ..
 ·exact List.mem_cons_of_mem _ (zq1 h)
theorem zq0:∀{gs:List (Nat×Nat)}{n:Nat},zxB gs n=none->∀p∈gs,p.1≠n
|[],_,_,p,hp=>by cases hp
| (m,v):: r,n,h,p,hp=>by
 simp only[zxB]at h;split at h
 ·cases h
 ·rename_i e;rcases List.mem_cons.1 hp with rfl|hp
  ·exact Nat.ne_of_beq_eq_false e
  ·exact zq0 h p hp
theorem zFo.next{D:Dn}{k:K}{env:List (Nat×V)}{mem m:List Root}{cl:Nat}(h:zFo D mem)(hok:okT true D cl k env mem=true)(hb:zjY true (zdi true D cl k env mem) mem m=true):zFo (zdi true D cl k env mem) m:=by
 simp only[zjY,Bool.not_true,Bool.false_or,yhb]at hb;simp only[okT,Bool.not_true,Bool.false_or,yhb]at hok;refine⟨fun p hp=>List.all_eq_true.1 hb.2 p hp,?_⟩;rw[zr4];split
 ·rename_i r e1 e2;have hg:=hok.1.2;rw[e1]at hg;simp only[Bool.not_true,Bool.false_or,zGC]at hg;have hl:∀q∈D.gs,q.1=r->q.2=cl:=fun q hq hqr=>by
   split at hg
   ·rw[e2]at hg;simp only at hg;split at hg
    ·rename_i hn;exact absurd hqr (zq0 hn q hq)
    ·rename_i c hc;have h1:=h.2 q hq _ (zq1 hc) hqr;have h2:=Nat.eq_of_beq_eq_true hg;simp only at h1;omega
   ·cases hg
  intro p hp q hq e;rcases List.mem_cons.1 hp with rfl|hp<;>rcases List.mem_cons.1 hq with rfl|hq
  ·rfl
  ·exact(hl q hq e.symm).symm
  ·exact hl p hp e
  ·exact h.2 p hp q hq e
 ·exact h.2
theorem zr5(D:Dn)(cl:Nat)(k:K)(env:List (Nat×V))(mem:List Root):(zdi true D cl k env mem).rd=match Nat.ble cl 1,rdT k env with
|true,some r=>r:: D.rd
|_,_=>D.rd:=rfl
theorem zB3{k:K}{env:List (Nat×V)}{r:Nat}(h:rdT k env=some r):wrT k env=none/\∃n x row off,k=.load n x/\arV env x=.mp r row off:=by
 cases k with
 |load n x=>
  simp only[rdT]at h;split at h
  ·rename_i e;cases h;exact⟨rfl,n,x,_,_,rfl,e⟩
  ·cases h
 |_=>simp[rdT]at h
theorem zym.next{D:Dn}{k:K}{env:List (Nat×V)}{mem m:List Root}{cl:Nat}(h:zym D mem D.rd)(hok:okT true D cl k env mem=true)(hb:zjY true (zdi true D cl k env mem) mem m=true):zym (zdi true D cl k env mem) m (zdi true D cl k env mem).rd:=by
 simp only[zjY,Bool.not_true,Bool.false_or,yhb]at hb;simp only[okT,Bool.not_true,Bool.false_or,yhb]at hok;obtain⟨⟨⟨⟨ho1,ho2⟩,ho3⟩,ho4⟩,ho5⟩:=hok;intro r hr;refine⟨List.all_eq_true.1 hb.1.2 r hr,?_⟩;rw[zz4,zos];rw[zr5]at hr;have old:r∈D.rd->r<D.n/\r∉(crT cl k env mem++match Nat.beq cl 4,wrT k env with
  |false,some r=>r:: D.wr
  |_,_=>D.wr):=fun hr=>by
  obtain⟨h1,h2,h3⟩:=h r hr;refine⟨h2,fun hm=>?_⟩;rcases List.mem_append.1 hm with hm|hm
  ·have:=List.all_eq_true.1 ho5 r hm;rw[(zpw r D.rd).2 hr]at this;cases this
  refine absurd hm ?_;split
  ·rename_i r' e1 e2;rw[e2,e1]at ho3;simp only[Bool.false_or,yhb,yho]at ho3;simp only[List.mem_cons,not_or];exact⟨fun e=>by subst e;exact zop.1 ho3.1 hr,h3⟩
  ·exact h3
 split at hr
 ·rename_i r' e1 e2;rcases List.mem_cons.1 hr with rfl|hr
  ·obtain⟨w1,n,x,row,off,rfl,w2⟩:=zB3 e2;have hc:zBe D (.load n x) env<=1:=Nat.le_trans (zcG ho1) (zcG e1);simp only[zBe,w2]at hc;rw[w1];split at hc
   ·rename_i hb';simp only[yhb,yho]at hb';exact⟨Nat.le_of_ble_eq_true hb'.1,by
     have e0:crT cl (.load n x) env mem=[]:=by unfold crT;split<;>rfl
     rw[e0,List.nil_append];first|exact zop.1 hb'.2|(split<;>first|exact zop.1 hb'.2|(rename_i e;cases e))⟩
   ·omega
  ·exact old hr
 ·exact old hr
theorem zmT(hΦ:∀e∈Φ,EOk P e){κ:TS->Option ρt}:∀(ops:List COp)(cls:List Nat)(D:Dn)(T:TS){Z:Nat->Nat}{st:St},TR Z T st->wfD ops=true->zym D T.mem D.rd->zFo D T.mem->znC Φ tys true D ops cls T κ =some res->
 ∃R gw cr,(∀r∈D.rd,r∈R)/\zym D T.mem R/\(∀p∈D.gs,gw (Z p.1)=p.2)/\zmS ([]:List (En P)) (R.map Z) gw cr ops cls st (fun st'=>∃T' ρ',TR ρ' T' st'/\Inv (zlE ops) (zaM Φ ops) T T'/\κ T'=some res)
 |[],cls,D,T,Z,st,h,_,hrd,hgs,he=>by
  refine⟨D.rd,fun e=>((D.gs.find? fun p=>Z p.1==e).map (·.2)).getD 0,[],fun _ h=>h,hrd,fun p hp=>?_,T,Z,h,.refl _ _ _,by simpa[znC]using he⟩;cases hf:D.gs.find? fun q=>Z q.1==Z p.1 with
  |none=>have:=List.find?_eq_none.1 hf p hp;simp at this
  |some q=>have h1:=List.find?_some hf;have h2:=List.mem_of_find?_eq_some hf;obtain⟨y,hy,hya⟩:=zbl.1 (hgs.1 q h2);obtain⟨y',hy',hya'⟩:=zbl.1 (hgs.1 p hp);have:q.1=p.1:=h.inj q.1 p.1 y y' hy hya hy' hya' (by simpa using h1);show((D.gs.find? fun q=>Z q.1==Z p.1).map (·.2)).getD 0=p.2;rw[hf];exact hgs.2 q h2 p hp this
 |.mk d g kk:: l,cls,D,T,Z,st,h,hwf,hrd,hgs,he=>by
  obtain⟨w2,w3⟩:=zsy hwf;have hW:∀x,d=some x->memB x (zlE (.mk d g kk:: l))=true:=fun x hx=>by subst hx;simp[zlE,memB,Nat.beq_refl]
  have hWl:∀n,memB n (zlE (.mk d g kk:: l))=false->memB n (zlE l)=false:=fun n hn=>by
   cases d with
   |none=>exact hn
   |some d=>
    simp only[zlE,memB]at hn;split at hn
    ·cases hn
    ·exact hn
  have hpu:zaM Φ (.mk d g kk:: l)=true->zkO Φ kk=true/\zaM Φ l=true:=fun e=>by simpa[zaM]using e
  have next:∀(D1:Dn)(T1:TS)(ρ1:Nat->Nat)(st1:St)(cls1:List Nat),TR ρ1 T1 st1->zym D1 T1.mem D1.rd->zFo D1 T1.mem->Inv (zlE (.mk d g kk:: l)) (zaM Φ (.mk d g kk:: l)) T T1->znC Φ tys true D1 l cls1 T1 κ =some res->
   ∃R gw cr,(∀r∈D1.rd,r∈R)/\zym D1 T1.mem R/\(∀p∈D1.gs,gw (ρ1 p.1)=p.2)/\zmS ([]:List (En P)) (R.map ρ1) gw cr l cls1 st1 (fun st'=>∃T' ρ',TR ρ' T' st'/\Inv (zlE (.mk d g kk:: l)) (zaM Φ (.mk d g kk:: l)) T T'/\κ T'=some res):=by
   intro D1 T1 ρ1 st1 cls1 h1 hrd1 hgs1 hi he1;obtain⟨R,gw,cr,hr1,hr2,hgw,hr⟩:=zmT hΦ l cls1 D1 T1 h1 w3 hrd1 hgs1 he1;exact⟨R,gw,cr,hr1,hr2,hgw,zpG (fun st' ⟨T',ρ',q1,q2,q3⟩=>⟨T',ρ',q1,hi.trans (q2.mono hWl fun e=>(hpu e).2),q3⟩) _ _ _ hr⟩
  have on:∀(T0:TS)(st0:St),TR Z T0 st0->T0.mem=T.mem->(∀y:Ar,arV T0.env y=arV T.env y)->Inv (zlE (.mk d g kk:: l)) (zaM Φ (.mk d g kk:: l)) T T0->okT true D (cls.headD 0) kk T.env T.mem=true->
   opT Φ tys true (clD true cls) d kk T0.env T0.mem (fun v m=>match zjY true (zdi true D (cls.headD 0) kk T.env T.mem) T.mem m with
    |true=>znC Φ tys true (zdi true D (cls.headD 0) kk T.env T.mem) l cls.tail ⟨zix T0.env d v,m⟩ κ
    |false=>none)=some res->
   OnD P D Z T.mem d kk l cls st0 (fun st'=>∃T' ρ',TR ρ' T' st'/\Inv (zlE (.mk d g kk:: l)) (zaM Φ (.mk d g kk:: l)) T T'/\κ T'=some res):=by
   intro T0 st0 h0 hmem hars hi hok he0;have clsE:zBe D kk T0.env=zBe D kk T.env:=by cases kk<;>simp only[zBe,hars]
   have rdE:rdT kk T0.env=rdT kk T.env:=by cases kk<;>simp only[rdT,hars]
   have wrE:wrT kk T0.env=wrT kk T.env:=by cases kk<;>simp only[wrT,hars]
   have hok':=hok;simp only[okT,Bool.not_true,Bool.false_or,yhb]at hok';obtain⟨⟨⟨⟨ho1,ho2⟩,ho3⟩,ho4⟩,ho5⟩:=hok';have back:∀{v:V}{m:List Root},(match zjY true (zdi true D (cls.headD 0) kk T.env T.mem) T.mem m with
    |true=>znC Φ tys true (zdi true D (cls.headD 0) kk T.env T.mem) l cls.tail ⟨zix T0.env d v,m⟩ κ
    |false=>none)=some res->zjY true (zdi true D (cls.headD 0) kk T.env T.mem) T.mem m=true/\znC Φ tys true (zdi true D (cls.headD 0) kk T.env T.mem) l cls.tail ⟨zix T0.env d v,m⟩ κ =some res:=fun h=>by
    split at h
    ·rename_i e;exact⟨e,h⟩
    ·cases h
   have ahead:∀{m:List Root}{R:List Nat},zjY true (zdi true D (cls.headD 0) kk T.env T.mem) T.mem m=true->zym (zdi true D (cls.headD 0) kk T.env T.mem) m R->zym D T.mem R:=fun{m R} hb hR r hr=>by
    obtain⟨g1,g2,g3⟩:=hR r hr;simp only[zjY,Bool.not_true,Bool.false_or,yhb]at hb;have:=List.all_eq_true.1 hb.1.1 r (by rw[zrE,List.mem_map];exact⟨r,List.mem_range.2 (by rw[zz4]at g2|-;exact g2),by omega⟩)
    rw[g1]at this;refine⟨by simpa using this,g2,fun hw=>g3 ?_⟩;rw[zos];refine List.mem_append_right _ ?_;split
    ·exact List.mem_cons_of_mem _ hw
    ·exact hw
   have rdsub:∀r∈D.rd,r∈(zdi true D (cls.headD 0) kk T.env T.mem).rd:=fun r hr=>by
    rw[zr5];split
    ·exact List.mem_cons_of_mem _ hr
    ·exact hr
   have mapE:∀{R:List Nat}{ρ':Nat->Nat},zym D T.mem R->(∀q,q<T0.mem.length->ρ' q=Z q)->R.map ρ'=R.map Z:=fun hR hag=>List.map_congr_left fun r hr=>hag r (by obtain⟨y,hy,_⟩:=zbl.1 (hR r hr).1;rw[hmem];exact(yga.1 hy).1)
   have no5:(∀n a x,kk≠.store n a x)->cls.headD 0<5:=fun hkk=>by
    rcases Nat.lt_or_ge (cls.headD 0) 5 with h|h
    ·exact h
    ·have hb5:Nat.ble 5 (cls.headD 0)=true:=Nat.ble_eq_true_of_le h;rw[hb5]at ho4;simp only[Bool.not_true,Bool.false_or]at ho4;unfold zGC at ho4;split at ho4
     ·exact absurd rfl (hkk _ _ _)
     ·cases ho4
   have gsE:∀{gw:Nat->Nat}{ρ':Nat->Nat},(∀p∈(zdi true D (cls.headD 0) kk T.env T.mem).gs,gw (ρ' p.1)=p.2)->(∀q,q<T0.mem.length->ρ' q=Z q)->∀p∈D.gs,gw (Z p.1)=p.2:=fun{gw ρ'} hgw hag p hp=>by
    obtain⟨y,hy,_⟩:=zbl.1 (hgs.1 p hp);rw[<-hag p.1 (by rw[hmem];exact(yga.1 hy).1)];refine hgw p ?_;rw[zr4];split
    ·exact List.mem_cons_of_mem _ hp
    ·exact hp
   have plain:∀(hne1:∀f xs,kk≠.call f xs)(hne2:∀f xs,kk≠.callv f xs),evT true (zFr tys d) kk T0.env T0.mem (fun v m=>match zjY true (zdi true D (cls.headD 0) kk T.env T.mem) T.mem m with
    |true=>znC Φ tys true (zdi true D (cls.headD 0) kk T.env T.mem) l cls.tail ⟨zix T0.env d v,m⟩ κ
    |false=>none)=some res->OnD P D Z T.mem d kk l cls st0 (fun st'=>∃T' ρ',TR ρ' T' st'/\Inv (zlE (.mk d g kk:: l)) (zaM Φ (.mk d g kk:: l)) T T'/\κ T'=some res):=by
    intro hne1 hne2 he1;have hwk:=zH8 h0 he1;obtain⟨v,m,h1,⟨p,a,sm,g1,g2,st2,ρ',g3,g5,g4⟩,h2⟩:=ztg (d:=d) h0 (zCD tys d) he1;obtain⟨rfl,hag⟩:=g5 rfl;obtain⟨hb,h1⟩:=back h1;obtain⟨R,gw,cr,hr1,hr2,hgw,hr⟩:=next _ _ ρ' _ _ g4 (hrd.next hok hb) (hgs.next hok hb) (hi.trans (Inv.put hW fun e=>h2 (by rw[<-zq7 Φ hne1 hne2];exact(hpu e).1))) h1
    have hRD:=ahead hb hr2;rw[mapE hRD hag]at hr;have hev:evD ([]:List (En P)) cr d kk st0.env st0.mem=some (p,a,sm):=by rw[<-g1];cases kk<;>first|rfl|exact absurd rfl (hne1 _ _)|exact absurd rfl (hne2 _ _)
    refine⟨R,gw,cr,fun r hr=>hr1 r (rdsub r hr),hRD,gsE hgw hag,?_,?_⟩
    ·refine zDr h0 hne1 hne2 (by rw[clsE];exact zcG ho1) (fun r hr=>?_) fun hcl r hr=>?_
     ·rw[rdE]at hr;rw[hr]at ho2;rw[hmem];exact ho2
     ·rw[rdE]at hr;refine hr1 r ?_;rw[zr5,hr];have:Nat.ble (cls.headD 0) 1=true:=Nat.ble_eq_true_of_le hcl;rw[this];exact List.mem_cons_self ..
    ·rw[hev];refine⟨g2,fun hcl e he=>?_,fun h5=>?_,hr⟩
     ·obtain⟨r,hrR,rfl⟩:=List.mem_map.1 he;obtain⟨q1,q2,q3⟩:=hRD r hrR;obtain⟨y,hy,hya⟩:=zbl.1 q1;rw[<-hmem]at hy;refine zBr g1 (h0.lt r y hy hya) fun i hi e=>?_;obtain⟨r',hw1,hw2⟩:=hwk i hi;rw[wrE]at hw1;rw[hw1]at ho3;have h4:Nat.beq (cls.headD 0) 4=false:=by
       cases h4:Nat.beq (cls.headD 0) 4 with
       |false=>rfl
       |true=>have:=Nat.eq_of_beq_eq_true h4;omega
      rw[h4]at ho3;simp only[Bool.false_or,yhb]at ho3;have hw2:=hw2 (by rw[hmem];exact ho3.2);obtain⟨y',hy',hya'⟩:=zbl.1 ho3.2;rw[<-hmem]at hy';have:r'=r:=h0.inj r' r y' y hy' hya' hy hya (by rw[<-hw2];exact e);subst this;refine(hr2 r' hrR).2.2 ?_;rw[zos,hw1,h4];exact List.mem_append_right _ (List.mem_cons_self ..)
     ·have h4:Nat.beq (cls.headD 0) 4=false:=by
       cases h4:Nat.beq (cls.headD 0) 4 with
       |false=>rfl
       |true=>have:=Nat.eq_of_beq_eq_true h4;omega
      have hb5:Nat.ble 5 (cls.headD 0)=true:=Nat.ble_eq_true_of_le h5;rw[hb5]at ho4;simp only[Bool.not_true,Bool.false_or,zGC]at ho4;split at ho4
      ·rename_i n0 a0 x0;obtain⟨w,e,k1,k2,k3,k4⟩:=zEV g1;obtain⟨r',hw1,hw2⟩:=hwk w k1;rw[wrE]at hw1;rw[hw1,h4]at ho3;simp only[Bool.false_or,yhb]at ho3;have hw2:=hw2 (by rw[hmem];exact ho3.2);obtain⟨y',hy',_⟩:=zbl.1 ho3.2;refine⟨w,e,?_,k2,k3,fun m hm=>k4 m hm⟩;rw[hw2,<-hag r' (by rw[hmem];exact(yga.1 hy').1)];refine hgw (r',cls.headD 0) ?_;rw[zr4,hb5,hw1];exact List.mem_cons_self ..
      ·cases ho4
   have call:∀{f:FuncId}{args:List V}{as:List AV}{n:Nat},d=some n->zml (clD true cls) f args T0.mem (fun v m=>match zjY true (zdi true D (cls.headD 0) kk T.env T.mem) T.mem m with
    |true=>znC Φ tys true (zdi true D (cls.headD 0) kk T.env T.mem) l cls.tail ⟨zix T0.env d v,m⟩ κ
    |false=>none) Φ =some res->VRL Z T0.mem args as->(zqi f Φ =false->zkO Φ kk=false)->(∀n a x,kk≠.store n a x)->(cls.headD 0=3->crT (cls.headD 0) kk T.env T.mem=zdJ T0.mem 200 (V.refsL args) [])->
    (∀cr c stb,zi9 cr d=some c->evD ([]:List (En P)) cr d kk st0.env st0.mem=some (evC P f as st0.mem c)/\clsK stb cr d kk st0.env=match c.cl with|0=>0|1=>2|_+2=>3)->OnD P D Z T.mem d kk l cls st0 (fun st'=>∃T' ρ',TR ρ' T' st'/\Inv (zlE (.mk d g kk:: l)) (zaM Φ (.mk d g kk:: l)) T T'/\κ T'=some res):=by
    intro f args as n hd he1 hv hpf hkk hcr hev;have nost:∀{gw cr st m0 r},StoreE ([]:List (En P)) gw cr d kk st (cls.headD 0) m0 r:=fun h5=>by have:=no5 hkk;omega
    have hnl:∀c'∈l,c'.d≠some n:=w2 n (by simpa using hd);rcases zhG h0 hv hΦ he1 with⟨v,a,h1,h2,h3⟩|⟨hcl2,hp,v,m,a,sm,ρ',h1,h2,h3,h4,h5,hag,hkeep⟩
    ·have hput:TR Z ⟨zix T0.env d v,T0.mem⟩ ⟨put st0.env d a,st0.mem⟩:=h0.put d h2;obtain⟨hb,h1⟩:=back h1;obtain⟨R,gw,cr,hr1,hr2,hgw,hr⟩:=next _ _ Z _ _ hput (hrd.next hok hb) (hgs.next hok hb) (hi.trans (Inv.put hW fun _ _=>rfl)) h1
     have hRD:=ahead hb hr2;rcases h3 with h3|⟨h4,h3⟩
     ·refine⟨R,gw,(n,⟨as,a,[],[],0⟩):: cr,fun r hr=>hr1 r (rdsub r hr),hRD,gsE hgw (fun _ _=>rfl),?_,?_⟩
      ·rw[(hev _ _ _ (by rw[hd,zd4,if_pos rfl])).2];exact Nat.zero_le _
      ·rw[(hev _ ⟨as,a,[],[],0⟩ [] (by rw[hd,zd4,if_pos rfl])).1];exact⟨⟨rfl,h3⟩,fun _ _ _=>rfl,nost,zsh _ _ _ hnl hr⟩
     ·refine⟨R,gw,(n,⟨as,a,st0.mem,st0.mem,1⟩):: cr,fun r hr=>hr1 r (rdsub r hr),hRD,gsE hgw (fun _ _=>rfl),?_,?_⟩
      ·rw[(hev _ _ _ (by rw[hd,zd4,if_pos rfl])).2];exact h4
      ·rw[(hev _ ⟨as,a,st0.mem,st0.mem,1⟩ [] (by rw[hd,zd4,if_pos rfl])).1];exact⟨⟨rfl,rfl,h3⟩,fun _ _ _=>rfl,nost,zsh _ _ _ hnl hr⟩
    ·have hput:TR ρ' ⟨zix T0.env d v,m⟩ ⟨put st0.env d a,sm⟩:=h5.put d h4;obtain⟨hb,h1⟩:=back h1;obtain⟨R,gw,cr,hr1,hr2,hgw,hr⟩:=next _ _ ρ' _ _ hput (hrd.next hok hb) (hgs.next hok hb) (hi.trans (Inv.put hW fun e=>absurd (hpu e).1 (by rw[hpf hp];simp))) h1
     have hRD:=ahead hb hr2;rw[mapE hRD hag]at hr;refine⟨R,gw,(n,⟨as,a,st0.mem,sm,2⟩):: cr,fun r hr=>hr1 r (rdsub r hr),hRD,gsE hgw hag,?_,?_⟩
     ·rw[(hev _ _ _ (by rw[hd,zd4,if_pos rfl])).2];exact hcl2
     ·rw[(hev _ ⟨as,a,st0.mem,sm,2⟩ [] (by rw[hd,zd4,if_pos rfl])).1];exact⟨⟨rfl,rfl,h2,h3⟩,fun hcl e he=>(by
       have h5':=no5 hkk;simp only[clD]at hcl2;have h33:cls.headD 0=3:=by omega
       obtain⟨r,hrR,rfl⟩:=List.mem_map.1 he;obtain⟨q1,_,_⟩:=hRD r hrR;obtain⟨y,hy,hya⟩:=zbl.1 q1;rw[<-hmem]at hy;refine hkeep r y hy hya fun hin=>(hr2 r hrR).2.2 ?_;rw[zos,hcr h33];exact List.mem_append_left _ hin),nost,zsh _ _ _ hnl hr⟩
   cases kk with
   |call f xs=>
    simp only[opT]at he0;cases d with
    |none=>cases he0
    |some n=>exact call rfl he0 (VRL.map h0.ar xs) (fun e=>e) (by intros;simp) (fun h3=>by simp only[h3,crT,Nat.beq];rw[hmem,List.map_congr_left fun y _=>hars y]) fun cr c stb hc=>⟨by simp only[evD,hc],by simp only[clsK,hc]<;>rfl⟩
   |callv y xs=>
    simp only[opT]at he0;cases d with
    |none=>cases he0
    |some n=>
     simp only at he0;split at he0
     ·rename_i f caps e;have hy:=h0.ar y;rw[e]at hy;simp only[VR]at hy;obtain⟨cas,e2,hc⟩:=hy;exact call rfl he0 ((VRL.map h0.ar xs).fargs hc) (fun _=>rfl) (by intros;simp) (fun h3=>by simp only[h3,crT,Nat.beq];rw[<-hars y,e,hmem,List.map_congr_left fun y _=>hars y]) fun cr c stb hc=>⟨by simp only[evD,hc,e2],by simp only[clsK,hc]<;>rfl⟩
     ·cases he0
   |_=>exact plain (by intros;simp) (by intros;simp) he0
  have off:∀(T0:TS)(st0:St),TR Z T0 st0->T0.mem=T.mem->Inv (zlE (.mk d g kk:: l)) (zaM Φ (.mk d g kk:: l)) T T0->znC Φ tys true D l cls.tail ⟨zix T0.env d (.tup []),T0.mem⟩ κ =some res->
   ∃R gw cr,(∀r∈D.rd,r∈R)/\zym D T.mem R/\(∀p∈D.gs,gw (Z p.1)=p.2)/\zmS ([]:List (En P)) (R.map Z) gw cr l cls.tail ⟨put st0.env d (.tup []),st0.mem⟩ (fun st'=>∃T' ρ',TR ρ' T' st'/\Inv (zlE (.mk d g kk:: l)) (zaM Φ (.mk d g kk:: l)) T T'/\κ T'=some res):=by
   intro T0 st0 h0 hmem hi he0;have:=next D ⟨zix T0.env d (.tup []),T0.mem⟩ Z ⟨put st0.env d (.tup []),st0.mem⟩ cls.tail ⟨fun n=>by
    simp only[zbO,zgA];split
    ·simp[VR,VRL]
    ·exact h0.env n,h0.box,h0.boxC,h0.inj,h0.ow,h0.pin⟩ (by rw[hmem];exact hrd) (by rw[hmem];exact hgs) (hi.trans (Inv.put hW fun _ _=>rfl)) he0
   obtain⟨R,gw,cr,q1,q2,q3,q4⟩:=this;rw[hmem]at q2;exact⟨R,gw,cr,q1,q2,q3,q4⟩
  cases g with
  |none=>
   simp only[znC]at he;split at he
   ·rename_i hc;obtain⟨R,gw,cr,r1,r2,r3,h1,h2⟩:=on T st h rfl (fun _=>rfl) (.refl _ _ _) hc he;exact⟨R,gw,cr,r1,r2,r3,by simp only[zmS];exact⟨h1,h2⟩⟩
   ·cases he
  |some gg=>
   obtain⟨t,bb⟩:=gg;have ht0:=h.env t;simp only[znC]at he;split at he
   ·rename_i x hx;rw[hx]at ht0;simp only[VR]at ht0;have hal:∀b,lookV T.env t=.bool b->∀y:Ar,arV ((t,.bool b):: T.env) y=arV T.env y:=by
     intro b hb y;cases y with
     |c v=>rfl
     |t n=>
      simp only[arV];have:=zbO (env:=T.env) (d:=some t) (v:=.bool b) (n:=n);simp only[zix,Option.some.injEq]at this;rw[this];split
      ·rename_i e;subst e;exact hb.symm
      ·rfl
    cases x with
    |true=>
     cases bb with
     |true=>
      simp only[zab,cond_true]at he;split at he
      ·rename_i hc;obtain⟨R,gw,cr,r1,r2,r3,h1,h2⟩:=on ⟨(t,.bool true):: T.env,T.mem⟩ ⟨(t,.bool true):: st.env,st.mem⟩ (h.lit hx) rfl (hal true hx) (.lit hx) hc he;exact⟨R,gw,cr,r1,r2,r3,by simp only[zmS,ht0];exact⟨fun _=>⟨h1,h2⟩,fun e=>by simp at e⟩⟩
      ·cases he
     |false=>simp only[zab,cond_true]at he;obtain⟨R,gw,cr,r1,r2,r3,h1⟩:=off ⟨(t,.bool true):: T.env,T.mem⟩ ⟨(t,.bool true):: st.env,st.mem⟩ (h.lit hx) rfl (.lit hx) he;exact⟨R,gw,cr,r1,r2,r3,by simp only[zmS,ht0];exact⟨fun e=>by simp at e,fun _=>h1⟩⟩
    |false=>
     cases bb with
     |true=>simp only[zab,cond_false]at he;obtain⟨R,gw,cr,r1,r2,r3,h1⟩:=off ⟨(t,.bool false):: T.env,T.mem⟩ ⟨(t,.bool false):: st.env,st.mem⟩ (h.lit hx) rfl (.lit hx) he;exact⟨R,gw,cr,r1,r2,r3,by simp only[zmS,ht0];exact⟨fun e=>by simp at e,fun _=>h1⟩⟩
     |false=>
      simp only[zab,cond_false]at he;split at he
      ·rename_i hc;obtain⟨R,gw,cr,r1,r2,r3,h1,h2⟩:=on ⟨(t,.bool false):: T.env,T.mem⟩ ⟨(t,.bool false):: st.env,st.mem⟩ (h.lit hx) rfl (hal false hx) (.lit hx) hc he;exact⟨R,gw,cr,r1,r2,r3,by simp only[zmS,ht0];exact⟨fun _=>⟨h1,h2⟩,fun e=>by simp at e⟩⟩
      ·cases he
   ·rename_i hx;rw[hx]at ht0;simp only[VR,VRL]at ht0;obtain⟨as,h1,rfl⟩:=ht0;obtain⟨R,gw,cr,r1,r2,r3,h2⟩:=off T st h rfl (.refl _ _ _) he;exact⟨R,gw,cr,r1,r2,r3,by simp only[zmS,h1];exact h2⟩
   ·cases he
end
end Go.Fw
namespace Go.Fw
open Go
variable [Pin]
theorem zw1{Z:Nat->Nat}{T T':TS}{st':St}{ks:List Nat}{W:List Nat}{pu:Bool}(h:TR Z T' st')(hs:zEU T ks T'=true)(hi:Inv W pu T T'){n:Nat}(hn:n∈ks)(hW:memB n W=false)(hc:(lookV T.env n).pur=true\/(lookV T.env n).isJ=true\/(pu=true/\noOw T.mem=true)):
 VR Z T'.mem (lookV T.env n) (look st'.env n):=by
 have h1:=List.all_eq_true.1 hs n hn;rcases hi.env n hW hc with e|e
 ·rw[<-e];exact h.env n
 ·rw[e]at h1;simp only[V.isJ,Bool.not_true,Bool.or_false]at h1;cases hv:lookV T.env n<;>rw[hv]at h1<;>simp[V.isJ]at h1;simp[VR]
theorem zwL{ks W:List Nat}(h:zHH ks W=true){n:Nat}(hn:n∈ks):memB n W=false:=by have:=List.all_eq_true.1 h n hn;simpa using this
section
variable {Z:Nat->Nat}{T T':TS}{st':St}{ks st:List Nat}{W:List Nat}{pu:Bool}{tys:List (Nat×An)}
theorem zxp{s:Sig}{d:s.D}(h:TR Z T' st')(hrk:s.rk=[])(hi:Inv W pu T T')(hpu:pu=true)(hno:noOw T.mem=true)(hW:∀n∈ks,memB n W=false)(hst:zEU T ks T'=true)(hd:s.getP T'=some d):
 ∃st'',Gh st' st''/\TR Z (s.mkP T (ks.map fun n=>(n,lookV T.env n)) d) st'':=by
 have hv:VRL Z T'.mem (s.sl.map (lookV T'.env)) (s.sl.map (look st'.env)):=VRL.mapL _ fun n _=>h.env n;obtain⟨as',q1,q2,_⟩:=zev _ _ d _ hd hv;have he:EnvR Z T'.mem (zA6 s.sl (mkVL s.shs d)++ks.map fun n=>(n,lookV T.env n)) (zDf s.sl as'++ks.map fun n=>(n,look st'.env n)):=
  (EnvR.zip s.sl q1).append (EnvR.map ks fun n hn=>zw1 h hst hi hn (hW n hn) (.inr (.inr ⟨hpu,hno⟩)))
 refine⟨⟨zDf s.sl as'++ks.map fun n=>(n,look st'.env n),st'.mem⟩,Gh.imp fun p hp=>?_,?_⟩
 ·rcases List.mem_append.1 hp with hp|hp
  ·exact zsN (more:=[]) s.sl (by simpa using q2) p hp
  ·obtain⟨n,_,rfl⟩:=List.mem_map.1 hp;exact .refl _
 ·have hm:=hi.mem hpu hno;refine⟨fun n=>?_,?_,?_,?_,?_,hm ▸ h.pin⟩
  ·show VR Z T.mem (lookV (zA6 s.sl (mkVL s.shs d)++ks.map fun n=>(n,lookV T.env n)) n) _;rw[<-hm];exact he.look n
  ·intro r b cs hr;obtain⟨as,g1,g2⟩:=h.box r b cs (by rw[hm];exact hr);exact⟨as,g1,by rw[hm]at g2;exact g2⟩
  ·intro r b cs hr;exact h.boxC r b cs (by rw[hm];exact hr)
  ·intro r r' x x' hr hx hr' hx' e;exact h.inj r r' x x' (by rw[hm];exact hr) hx (by rw[hm];exact hr') hx' e
  ·obtain⟨fp,how⟩:=h.ow;rw[hm]at how;exact⟨fp,how⟩
end
end Go.Fw
namespace Go.Fw
open Go
variable [Pin]
section
variable {Z:Nat->Nat}{T T':TS}{st st':St}{fp:Nat->List Nat}{ks slots:List Nat}{W:List Nat}{pu p:Bool}{tys:List (Nat×An)}
theorem zmz{s:Sig}{d:s.D}(h:TR Z T' st')(hi:Inv W pu T T')(hW:∀n∈ks,memB n W=false)(hp:p=true->pu=true/\noOw T.mem=true)(hs:s=zgF p tys T slots ks)(hd:zuS p s T ks T'=some d):
 ∃st'' ρ'',Gh st' st''/\TR ρ'' (mkJ p s T slots ks d) st'':=by
 unfold zuS at hd;split at hd
 ·rename_i hst;cases p with
  |true=>obtain⟨st'',g1,g2⟩:=zxp (s:=s) h (by rw[hs];rfl) hi (hp rfl).1 (hp rfl).2 hW hst hd;exact⟨st'',Z,g1,g2⟩
  |false=>
   refine zze (s:=s) (cs:=zlD T ks) (cs':=(ks.filter fun n=>!(zj3 T n)).map fun n=>(n,look st'.env n)) h hd ?_ (fun ρ' mem' hv=>?_) (fun q hq=>?_)
   ·rw[hs];simp[zgF,zAu]
   ·refine EnvR.map _ fun n hn=>?_;obtain⟨h1,h2⟩:=List.mem_filter.1 hn;simp only[zj3,Bool.not_not]at h2;exact hv _ _ (.inl h2) (zw1 h hst hi h1 (hW n h1) (.inl h2))
   ·obtain⟨n,_,rfl⟩:=List.mem_map.1 hq;rfl
 ·cases hd
theorem Sat.fz{H H':Hp}{F:Fr}{β:Bt}{mem mem1:List Ent}{w:World}(hs:Sat H F β mem w)(hl:mem1.length=mem.length)(hH:zkf H H')(hw:∀b o,H' b=some o->w.heap[b]? =some o)
 (hap:∀(i:Nat) e x,mem1[i]? =some e->e.live=true->β[i]? =some (some x)->H x.1=none->H' x.1=none)
 (he:∀(i:Nat) e e1,mem[i]? =some e->mem1[i]? =some e1->e1=.dead\/e1=e\/∃es rows rows',e=.arr es rows/\e1=.arr es rows'/\rows'.length=rows.length/\
  ∀(j:Nat) r r',rows[j]? =some r->rows'[j]? =some r'->r'.length=r.length/\(∀c∈r',c.isCell=true)/\∀(k:Nat) c c' v,r[k]? =some c->r'[k]? =some c'->Rep H β c v->Rep H' β c' v):Sat H' F β mem1 w:=by
 have old:∀(i:Nat) e1,mem1[i]? =some e1->∃e,mem[i]? =some e/\(e1.live=true->e.live=true):=by
  intro i e1 hi;have hlt:=(yga.1 hi).1;have hg:mem[i]? =some (mem[i]'(by omega)):=ygb _;refine⟨_,hg,fun hlv=>?_⟩;rcases he i _ e1 hg hi with rfl|h1|⟨es,rows,rows',h1,rfl,_⟩
  ·simp at hlv
  ·rw[<-h1];exact hlv
  ·rw[h1];rfl
 refine{hH:=hw,hF:=hs.hF,sm:=hs.sm,hl:=by rw[hs.hl,hl],ent:=fun i e1 x hi hx=>?_,apart:=fun i e1 x hi hlv hx=>?_,inj:=fun i j e e' x y hi he1 hj he' hx hy hxy=>?_}
 ·obtain⟨e,hg,_⟩:=old i e1 hi;rcases he i e e1 hg hi with rfl|rfl|⟨es,rows,rows',rfl,rfl,hlr,hr⟩
  ·trivial
  ·exact(hs.ent i _ x hg hx).mono hH (.refl _) fun _ _ _ _ _=>rfl
  ·have h0:=hs.ent i _ x hg hx;cases x with
   |none=>have:rows=[]:=h0;subst this;exact List.eq_nil_of_length_eq_zero (by simpa using hlr)
   |some x=>
    obtain⟨b,es',cap⟩:=x;obtain⟨h1,cells,elem,h2,h3,h4,h5,h6,h7,h8⟩:=h0;have gr:∀(q:Nat) r',rows'[q]? =some r'->∃r,rows[q]? =some r:=fun q r' hq=>by have:=(yga.1 hq).1;exact⟨_,ygb (by omega)⟩
    refine⟨h1,cells,elem,h2,h3,by omega,fun r' hr'=>?_,fun r' hr'=>?_,fun q r' k c' hq hk=>?_,fun hne=>h8 fun e=>hne (by have h:=hlr;rw[e]at h;first|exact List.length_eq_zero_iff.1 h|exact List.length_eq_zero_iff.1 h.symm)⟩
    ·obtain⟨q,hq⟩:=List.getElem?_of_mem hr';obtain⟨r,hr0⟩:=gr q r' hq;rw[(hr q r r' hr0 hq).1];exact h5 r (ygd hr0)
    ·obtain⟨q,hq⟩:=List.getElem?_of_mem hr';obtain⟨r,hr0⟩:=gr q r' hq;exact(hr q r r' hr0 hq).2.1
    ·obtain⟨r,hr0⟩:=gr q r' hq;obtain⟨g1,g2,g3⟩:=hr q r r' hr0 hq;have hk':=(yga.1 hk).1;have hc:r[k]? =some (r[k]'(by omega)):=ygb _;obtain⟨v,hv,hrep⟩:=h7 q r k _ hr0 hc;exact⟨v,hv,g3 k _ c' v hc hk hrep⟩
 ·obtain⟨e,hg,hlv'⟩:=old i e1 hi;have:=hs.apart i e x hg (hlv' hlv) hx;exact⟨hap i e1 x hi hlv hx this.1,this.2⟩
 ·obtain⟨_,g1,g2⟩:=old i e hi;obtain⟨_,g3,g4⟩:=old j e' hj;exact hs.inj i j _ _ x y g1 (g2 he1) g3 (g4 he') hx hy hxy
def Fzi(Z:Nat->Nat)(mem:List Root)(fp:Nat->List Nat)(o:List Nat)(i:Nat):Prop:=∃r x,memB r o=true/\mem[r]? =some x/\x.alive=true/\(i=Z r\/i∈fp r)
def Fzb(Z:Nat->Nat)(mem:List Root)(fp:Nat->List Nat)(o:List Nat)(β:Bt)(b:Nat):Prop:=∃i es cap,Fzi Z mem fp o i/\β[i]? =some (some (b,es,cap))
open Classical in
noncomputable def Hfz(Z:Nat->Nat)(mem:List Root)(fp:Nat->List Nat)(o:List Nat)(H:Hp)(β:Bt)(w:World):Hp:=fun b=>if Fzb Z mem fp o β b then w.heap[b]? else H b
theorem zks{mem:List Root}{fp:Nat->List Nat}{o:List Nat}{H:Hp}{F:Fr}{β:Bt}{m:List Ent}{w:World}(hs:Sat H F β m w):zkf H (Hfz Z mem fp o H β w):=by
 intro b x hx;unfold Hfz;split
 ·exact hs.hH b x hx
 ·exact hx
theorem zGP{mem:List Root}{fp:Nat->List Nat}{o:List Nat}{H:Hp}{F:Fr}{β:Bt}{m:List Ent}{w:World}(hs:Sat H F β m w):∀b x,Hfz Z mem fp o H β w b=some x->w.heap[b]? =some x:=by
 intro b x hx;unfold Hfz at hx;split at hx
 ·exact hx
 ·exact hs.hH b x hx
theorem zyr{mem:List Root}{fp:Nat->List Nat}{o:List Nat}{H:Hp}{β:Bt}{w:World}{i:Nat}(hi:Fzi Z mem fp o i):∀b es' cap,β[i]? =some (some (b,es',cap))->∀x,w.heap[b]? =some x->Hfz Z mem fp o H β w b=some x:=by
 intro b es cap hb x hx;have:Fzb Z mem fp o β b:=⟨i,es,cap,hi,hb⟩
 unfold Hfz;rw[if_pos this];exact hx
theorem zuR(mem0:List Root)(o:List Nat):∀(l:List Root)(i j:Nat) x,l[j]? =some x->(fzR mem0 o i l)[j]? =some (match memB (i+j) o with
|true=>.dead
|false=>match x with
 |.box b cs=>fzB b (zsO mem0 o 60 cs)
 |.arr t xs (.op os j cs)=>fzA t xs os j (zsO mem0 o 60 cs)
 |r=>r)
 |[],i,j,x,h=>by simp at h
 |y:: l,i,0,x,h=>by simp at h;subst h;rfl
 |y:: l,i,j+1,x,h=>by have:=zuR mem0 o l (i+1) j x (by simpa using h);rw[show i+1+j=i+(j+1) by omega]at this;simpa[fzR]using this
theorem zzb(mem0:List Root)(o:List Nat):∀(l:List Root)(i:Nat),(fzR mem0 o i l).length=l.length
|[],i=>rfl
|y:: l,i=>by simp[fzR,zzb mem0 o l]
theorem zBy(o:List Nat)(mem:List Root):Kp Z Z mem (fzR mem o 0 mem):=by
 refine⟨fun r t xs w h=>?_,fun r b cs h=>?_,fun r h=>?_⟩;all_goals
  have:=zuR mem o mem 0 r _ h;rw[Nat.zero_add]at this;cases hm:memB r o<;>rw[hm]at this<;>simp only at this
 ·cases w with
  |no=>exact .inr ⟨rfl,xs,_,this,rfl⟩
  |cl os=>exact .inr ⟨rfl,xs,_,this,rfl⟩
  |op os j cs=>
   simp only[fzA]at this;cases hc:(zsO mem o 60 cs).all V.isC<;>rw[hc]at this<;>simp only at this
   ·exact .inl this
   ·exact .inr ⟨rfl,xs,_,this,rfl⟩
 ·exact .inl this
 ·unfold fzB at this;cases hc:(zsO mem o 60 cs).all V.isC<;>rw[hc]at this<;>simp only at this
  ·exact .inl this
  ·exact .inr ⟨rfl,b,_,this⟩
 ·exact .inl this
 ·exact this
 ·exact this
theorem zHF{H:Hp}{F:Fr}{β:Bt}{o:List Nat}{w:World}{r:Nat}{y:Root}{n off:Nat}{row row':List AV}{x:Value}(hs:Sat H F β st.mem w)(hm:memB r o=true)(hy:T.mem[r]? =some y)(ha:y.alive=true)
 (hi:st.mem[Z r]? =some (.arr n [row]))(hn:row.length=n)(hl:row'.length=row.length)(hp:AV.pureL row'=true)(hc:∀c∈row',c.isCell=true)
 (hrr:∀(k:Nat) c c' v,row[k]? =some c->row'[k]? =some c'->Rep H β c v->Rep (Hfz Z T.mem fp o H β w) β c' v)(hr:Rep H β (.mp (Z r) 0 off) x):Rep (Hfz Z T.mem fp o H β w) [] (.ip (row'.drop off)) x:=by
 cases hr with
 | @mp _ _ _ _ b es cap hβ=>
  obtain⟨rfl,cells,elem,g2,g3,g4,g5,g6,g7,_⟩:=hs.ent _ _ _ hi hβ;have hfz:Fzb Z T.mem fp o β b:=⟨_,_,cap,⟨r,y,hm,hy,ha,.inl rfl⟩,hβ⟩
  have cell:∀(j:Nat)(c':AV),row'[j]? =some c'->∃v,cells[j]? =some v/\Rep (Hfz Z T.mem fp o H β w) [] c' v:=by intro j c' hj;have hjl:=(yga.1 hj).1;have hcj:row[j]? =some (row[j]'(by omega)):=ygb _;obtain⟨v,hv,hrep⟩:=g7 0 row j _ rfl hcj;exact⟨v,by simpa using hv,(hrr j _ c' v hcj hj hrep).pure ((AV.pureL_iff _).1 hp c' (ygd hj)) []⟩
  refine .ip (elem:=elem) (fz:=(0,0)) (cells:=cells) (fun j=>cells.getD (off+j) undef) (by simpa[Hfz,hfz]using g2) (fun j hj=>?_) (fun c hc'=>hc c (List.mem_of_mem_drop hc')) fun j c hj=>?_
  ·simp only[List.length_drop]at hj;obtain⟨v,hv,_⟩:=cell (off+j) _ (ygb (by omega));rw[Nat.zero_mul,Nat.zero_add];simp[hv]
  ·rw[List.getElem?_drop]at hj;obtain⟨v,hv,hrep⟩:=cell _ _ hj;have:cells.getD (off+j) undef=v:=by simp[hv]
   rw[this];exact hrep
def FI(Z:Nat->Nat)(T:TS)(fp:Nat->List Nat)(st:St)(o:List Nat)(a a':AV):Prop:=
 (a.isCell=true->a'.isCell=true)/\∀H F β w,Sat H F β st.mem w->∀β0,(β0=β\/β0=[])->∀x,Rep H β0 a x->Rep (Hfz Z T.mem fp o H β w) β0 a' x
theorem FI.refl{o:List Nat}(a:AV):FI Z T fp st o a a:=⟨id,fun _ _ _ _ hs _ _ _ hr=>hr.mono (zks hs) (.refl _)⟩
inductive FIL (Z:Nat->Nat)(T:TS)(fp:Nat->List Nat)(st:St)(o:List Nat):List AV->List AV->Prop
|nil:FIL Z T fp st o [] []
|cons {a a' as as'}(h:FI Z T fp st o a a')(hs:FIL Z T fp st o as as'):FIL Z T fp st o (a:: as) (a':: as')
theorem FIL.len{o:List Nat}{as as':List AV}(h:FIL Z T fp st o as as'):as'.length=as.length:=by
 induction h with
 |nil=>rfl
 |cons _ _ ih=>simp[ih]
theorem FIL.get{o:List Nat}{as as':List AV}(h:FIL Z T fp st o as as'):∀(i:Nat) a',as'[i]? =some a'->∃a,as[i]? =some a/\FI Z T fp st o a a':=by
 induction h with
 |nil=>intro i a' h;simp at h
 |cons h _ ih=>
  intro i a' hi;cases i with
  |zero=>simp at hi;subst hi;exact⟨_,rfl,h⟩
  |succ i=>simpa using ih i a' (by simpa using hi)
theorem FIL.cells{o:List Nat}{as as':List AV}(h:FIL Z T fp st o as as')(hc:∀c∈as,c.isCell=true):∀c∈as',c.isCell=true:=by intro c hc';obtain⟨i,hi⟩:=List.getElem?_of_mem hc';obtain⟨a,g1,g2⟩:=h.get i c hi;exact g2.1 (hc a (ygd g1))
theorem zCV{H:Hp}{i es off len:Nat}{x:Value}(h:Rep H [] (.ms i es off len) x):False:=by
 cases h with
 |ms hb'=>simp at hb'
 |ms0 hb'=>simp at hb'
theorem zGz(β:Bt):ze7 [] β:=fun i x h=>by simp at h
theorem zCN{o:List Nat}{f:V->V}{mem1:List Root}(hf:∀v a,VR Z T.mem v a->∃a',VR Z mem1 (f v) a'/\FI Z T fp st o a a'):∀(cs:List V)(as:List AV),VRL Z T.mem cs as->∃as',VRL Z mem1 (cs.map f) as'/\FIL Z T fp st o as as'
|[],as,h=>by simp only[VRL]at h;subst h;exact⟨[],rfl,.nil⟩
|c:: cs,as,h=>by simp only[VRL]at h;obtain⟨a,as1,rfl,h1,h2⟩:=h;obtain⟨a',g1,g2⟩:=hf c a h1;obtain⟨as',g3,g4⟩:=zCN hf cs as1 h2;exact⟨a':: as',⟨_,_,rfl,g1,g3⟩,.cons g2 g4⟩
theorem zCO{o:List Nat}(h:TR Z T st)(how:OwA Z T.mem st.mem fp):∀(n:Nat)(v:V)(a:AV),VR Z T.mem v a->∃a',VR Z (fzR T.mem o 0 T.mem) (fzV T.mem o n v) a'/\FI Z T fp st o a a'
|0,v,a,_=>⟨a,by simp[fzV,VR],.refl a⟩
|n+1,v,a,hv=>by
 have hkp:=zBy (Z:=Z) o T.mem;have keep:VR Z (fzR T.mem o 0 T.mem) v a:=VR.mono hkp v a hv;have ih:=zCO (o:=o) h how n;cases v with
 |junk|int _ _|bool _|str _|lst _ _|nl _|e0|st _ _|ep _ _|nilp|nilf=>exact⟨a,keep,.refl a⟩
 |agg cs=>
  simp only[VR]at hv;obtain⟨as,rfl,hv⟩:=hv;obtain⟨as',g1,g2⟩:=zCN ih cs as hv;refine⟨.agg as',by simp only[fzV,VR];exact⟨_,rfl,g1⟩,by simp,fun H F β w hs β0 h0 x hr=>?_⟩;cases hr with
  |agg hl hc hr=>refine .agg (by rw[hl,g2.len]) (g2.cells hc) fun i c v hi hv=>?_;obtain⟨c0,e1,e2⟩:=g2.get i c hi;exact e2.2 H F β w hs β0 h0 _ (hr i c0 v e1 hv)
 |tup cs=>
  simp only[VR]at hv;obtain⟨as,rfl,hv⟩:=hv;obtain⟨as',g1,g2⟩:=zCN ih cs as hv;refine⟨.tup as',by simp only[fzV,VR];exact⟨_,rfl,g1⟩,by simp,fun H F β w hs β0 h0 x hr=>?_⟩;cases hr with
  |tup hl hr=>refine .tup (by rw[hl,g2.len]) fun i c v hi hv=>?_;obtain⟨c0,e1,e2⟩:=g2.get i c hi;exact e2.2 H F β w hs β0 h0 _ (hr i c0 v e1 hv)
 |ip cs=>
  simp only[VR]at hv;obtain⟨as,rfl,hv⟩:=hv;obtain⟨as',g1,g2⟩:=zCN ih cs as hv;refine⟨.ip as',by simp only[fzV,VR];exact⟨_,rfl,g1⟩,by simp,fun H F β w hs β0 h0 x hr=>?_⟩;cases hr with
  |ip f hH hc hcell hr=>refine .ip f (zks hs _ _ hH) (fun j hj=>hc j (by rw[<-g2.len];exact hj)) (g2.cells hcell) fun j c hj=>?_;obtain⟨c0,e1,e2⟩:=g2.get j c hj;exact e2.2 H F β w hs [] (.inr rfl) _ (hr j c0 e1)
 |fn fn cs=>
  simp only[VR]at hv;obtain⟨as,rfl,hv⟩:=hv;obtain⟨as',g1,g2⟩:=zCN ih cs as hv;refine⟨.fn fn as',by simp only[fzV,VR];exact⟨_,rfl,g1⟩,by simp,fun H F β w hs β0 h0 x hr=>?_⟩;cases hr with
  |fn hf hl hr=>refine .fn hf (by rw[hl,g2.len]) fun i c v hi hv=>?_;obtain⟨c0,e1,e2⟩:=g2.get i c hi;exact e2.2 H F β w hs β0 h0 _ (hr i c0 v e1 hv)
 |own r=>
  simp only[fzV];split
  ·rename_i t xs w0 hm hr;split
   ·rename_i hw;simp only[VR,zj2,hr]at hv;subst hv;refine⟨.sl t.sz (xs.map (zap t)),by simp[VR],by simp,fun H F β w hs β0 h0 x hx=>?_⟩;rcases h0 with rfl|rfl
    ·have:=(how.rel r t xs w0 hr).gen hs (zks (Z:=Z) (mem:=T.mem) (fp:=fp) (o:=o) hs) hw (fun j hj=>zyr ⟨r,_,hm,hr,rfl,by simpa using hj⟩) hx (by simp);rw[List.drop_zero,List.take_of_length_le (by simp)]at this;exact this.mono (.refl _) (zGz _)
    ·exact(zCV hx).elim
   ·exact⟨a,by simp[VR],.refl a⟩
  ·exact⟨a,keep,.refl a⟩
 |part r off len=>
  simp only[fzV];split
  ·rename_i t xs w0 hm hr;split
   ·rename_i hw;simp only[VR,zkN,hr]at hv;obtain⟨rfl,hl⟩:=hv;refine⟨.sl t.sz (((xs.drop off).take len).map (zap t)),by simp[VR],by simp,fun H F β w hs β0 h0 x hx=>?_⟩;rcases h0 with rfl|rfl
    ·exact((how.rel r t xs w0 hr).gen hs (zks (Z:=Z) (mem:=T.mem) (fp:=fp) (o:=o) hs) hw (fun j hj=>zyr ⟨r,_,hm,hr,rfl,by simpa using hj⟩) hx hl).mono (.refl _) (zGz _)
    ·exact(zCV hx).elim
   ·exact⟨a,by simp[VR],.refl a⟩
  ·exact⟨a,keep,.refl a⟩
 |mp r row off=>
  simp only[fzV];split
  ·rename_i b cs hm hr;simp only[VR,mpR,hr]at hv;obtain⟨rfl,rfl⟩:=hv;obtain⟨as,b1,b2⟩:=h.box r b cs hr;have b3:=h.boxC r b cs hr;obtain⟨as',g1,g2⟩:=zCN ih cs as b2;have hcell:∀c∈as',c.isCell=true:=g2.cells (fun c hc=>List.all_eq_true.1 (b2.cells b3) c hc);have main:V.purL (cs.map fun c=>fzV T.mem o n c)=true->FI Z T fp st o (.mp (Z r) 0 off) (.ip (as'.drop off)):=fun hp=>by
    refine⟨by simp,fun H F β w hs β0 h0 x hx=>?_⟩;rcases h0 with rfl|rfl
    ·refine(zHF (T:=T) (row:=as) (row':=as') hs hm hr rfl b1 b2.len g2.len (g1.pur hp) hcell (fun k c c' v hc hc' hcv=>?_) hx).mono (.refl _) (zGz _);obtain⟨c0,e1,e2⟩:=g2.get k c' hc';rw[hc]at e1;cases e1;exact e2.2 H F _ w hs _ (.inl rfl) v hcv
    ·cases hx with
     |mp hb'=>simp at hb'
   split
   ·exact⟨.mp (Z r) 0 off,by simp[VR],.refl _⟩
   ·rename_i hp;split
    ·rename_i nm hnm h0;have h0:=Nat.eq_of_beq_eq_true h0;subst h0;split
     ·rename_i y hy;have e:=zmb g1 hy;subst e;exact⟨.ip (zga nm y),by simp[VR],main hp⟩
     ·exact⟨.ip as',by simp only[VR];exact⟨_,rfl,g1⟩,main hp⟩
    ·exact⟨.ip (as'.drop off),by simp only[VR];exact⟨_,rfl,g1.drop off⟩,main hp⟩
  ·exact⟨a,by simp[VR],.refl a⟩
  ·exact⟨a,keep,.refl a⟩
theorem zF5{α β:Type}:∀(l:List α)(P:Nat->α->β->Prop),(∀(i:Nat) a,l[i]? =some a->∃b,P i a b)->∃l':List β,l'.length=l.length/\∀(i:Nat) a b,l[i]? =some a->l'[i]? =some b->P i a b
|[],P,_=>⟨[],rfl,fun i a b h _=>by simp at h⟩
|a:: l,P,h=>by
 obtain⟨b,hb⟩:=h 0 a rfl;obtain⟨l',h1,h2⟩:=zF5 l (fun i=>P (i+1)) fun i a' hi=>h (i+1) a' (by simpa using hi);refine⟨b:: l',by simp[h1],fun i a' b' ha hb'=>?_⟩;cases i with
 |zero=>simp at ha hb';subst ha hb';exact hb
 |succ i=>exact h2 i a' b' (by simpa using ha) (by simpa using hb')
theorem zps(f:V->V)(hf:f .junk=.junk):∀(env:List (Nat×V))(n:Nat),lookV (env.map fun p=>(p.1,f p.2)) n=f (lookV env n)
|[],n=>by simp[lookV,hf]
| (m,v):: env,n=>by
 simp only[List.map_cons,lookV];cases Nat.beq m n with
 |true=>rfl
 |false=>exact zps f hf env n
theorem zF4{P:Nat->AV->Prop}:∀(ks:List Nat),(∀n,∃a,P n a)->∃env:List (Nat×AV),(∀n,P n (look env n)\/look env n=.junk)/\∀n∈ks,P n (look env n)
|[],h=>⟨[],fun n=>.inr rfl,fun n hn=>by simp at hn⟩
|k:: ks,h=>by
 obtain⟨env,h1,h2⟩:=zF4 ks h;obtain⟨a,ha⟩:=h k;refine⟨(k,a):: env,fun n=>?_,fun n hn=>?_⟩
 ·simp only[look];split
  ·rename_i e;subst e;exact .inl ha
  ·exact h1 n
 ·simp only[look];split
  ·rename_i e;subst e;exact ha
  ·rename_i e;rcases List.mem_cons.1 hn with rfl|hn
   ·exact absurd rfl e
   ·exact h2 n hn
theorem zpt:∀(env:List (Nat×V))(n:Nat),lookV env n=.junk\/n∈env.map Prod.fst
|[],n=>.inl rfl
| (m,v):: env,n=>by
 simp only[lookV];cases e:Nat.beq m n with
 |true=>exact .inr (by simp[Nat.eq_of_beq_eq_true e])
 |false=>exact(zpt env n).imp id fun h=>by simp[h]
theorem zph(o:List Nat)(h:TR Z T st):∃st1,Gh st st1/\TR Z (fzO o T) st1:=by
 obtain⟨fp,how⟩:=h.ow;have rep:=fun v a hv=>zCO (o:=o) h how 60 v a hv;have repw:∀(v:V)(a:AV),VR Z T.mem v a->∃a',VR Z (fzR T.mem o 0 T.mem) (fzW T.mem o v) a'/\FI Z T fp st o a a':=fun v a hv=>by
  unfold fzW;split
  ·exact⟨a,VR.mono (zBy o T.mem) v a hv,.refl a⟩
  ·exact rep v a hv
 obtain⟨env1,e1,e2⟩:=zF4 (P:=fun n a=>VR Z (fzR T.mem o 0 T.mem) (fzW T.mem o (lookV T.env n)) a/\FI Z T fp st o (look st.env n) a) (T.env.map Prod.fst) fun n=>repw _ _ (h.env n);have one:∀(r r':Nat) x x',T.mem[r]? =some x->x.alive=true->T.mem[r']? =some x'->x'.alive=true->∀i,(i=Z r\/i∈fp r)->(i=Z r'\/i∈fp r')->r=r':=by
  intro r r' x x' hx ha hx' ha' i hi hi';refine Classical.byContradiction fun hne=>?_;rcases hi with rfl|hi<;>rcases hi' with h1|h1
  ·exact hne (h.inj r r' x x' hx ha hx' ha' h1)
  ·exact how.rt r r' x hx ha h1
  ·subst h1;exact how.rt r' r x' hx' ha' hi
  ·exact how.dj r r' hne i hi h1
 obtain⟨mem1,m1,m2⟩:=zF5 (β:=Ent) st.mem (fun i e e1=>
  (Fzi Z T.mem fp o i->e1=.dead)/\
  (∀(r:Nat) t xs w,T.mem[r]? =some (.arr t xs w)->w.shut=true->i=Z r->memB r o=false->e1=e)/\
  (∀(r:Nat) x,T.mem[r]? =some x->x.alive=true->i∈fp r->memB r o=false->e1=e)/\
  (∀(r:Nat) t xs os j cs,T.mem[r]? =some (.arr t xs (.op os j cs))->i=Z r->memB r o=false->∃rows row',e=.arr t.sz rows/\e1=.arr t.sz (rows.set j row')/\VRL Z (fzR T.mem o 0 T.mem) (zsO T.mem o 60 cs) row')/\
  (∀(r:Nat) b cs,T.mem[r]? =some (.box b cs)->i=Z r->memB r o=false->∃as,e1=.arr cs.length [as]/\VRL Z (fzR T.mem o 0 T.mem) (zsO T.mem o 60 cs) as)/\
  (Fzi Z T.mem fp o i\/e1=e\/∃es rows j row row',e=.arr es rows/\rows[j]? =some row/\e1=.arr es (rows.set j row')/\(∀c∈row',c.isCell=true)/\FIL Z T fp st o row row')) fun i e hi=>by
  by_cases hf:Fzi Z T.mem fp o i
  ·obtain⟨r,x,hm,hx,ha,hir⟩:=hf;have no:∀(r':Nat) x',T.mem[r']? =some x'->x'.alive=true->(i=Z r'\/i∈fp r')->memB r' o=false->False:=fun r' x' hx' ha' hi' hm'=>by have:=one r r' x x' hx ha hx' ha' i hir hi';subst this;rw[hm]at hm';cases hm'
   exact⟨.dead,fun _=>rfl,fun r' t xs w h1 _ h2 h3=>(no r' _ h1 rfl (.inl h2) h3).elim,fun r' x' h1 h2 h3 h4=>(no r' _ h1 h2 (.inr h3) h4).elim,fun r' t xs os j cs h1 h2 h3=>(no r' _ h1 rfl (.inl h2) h3).elim,fun r' b cs h1 h2 h3=>(no r' _ h1 rfl (.inl h2) h3).elim,.inl ⟨r,x,hm,hx,ha,hir⟩⟩
  ·by_cases hx:∃(r:Nat)(x:Root),T.mem[r]? =some x/\x.alive=true/\i=Z r
   ·obtain⟨r,x,x1,x2,rfl⟩:=hx;have uniq:∀(r':Nat)(x':Root),T.mem[r']? =some x'->x'.alive=true->Z r=Z r'->r'=r:=fun r' x' h1 h2 h3=>h.inj r' r x' x h1 h2 x1 x2 h3.symm;have nof:∀(r':Nat),Z r∉fp r':=fun r'=>how.rt r r' x x1 x2;have arrNo:∀(w:Ow),w.shut=true->(∃t xs,x=.arr t xs w)->∃b,(Fzi Z T.mem fp o (Z r)->b=.dead)/\
     (∀(r':Nat) t xs w,T.mem[r']? =some (.arr t xs w)->w.shut=true->Z r=Z r'->memB r' o=false->b=e)/\
     (∀(r':Nat) x,T.mem[r']? =some x->x.alive=true->Z r∈fp r'->memB r' o=false->b=e)/\
     (∀(r':Nat) t xs os j cs,T.mem[r']? =some (.arr t xs (.op os j cs))->Z r=Z r'->memB r' o=false->∃rows row',e=.arr t.sz rows/\b=.arr t.sz (rows.set j row')/\VRL Z (fzR T.mem o 0 T.mem) (zsO T.mem o 60 cs) row')/\
     (∀(r':Nat) b' cs,T.mem[r']? =some (.box b' cs)->Z r=Z r'->memB r' o=false->∃as,b=.arr cs.length [as]/\VRL Z (fzR T.mem o 0 T.mem) (zsO T.mem o 60 cs) as)/\
     (Fzi Z T.mem fp o (Z r)\/b=e\/∃es rows j row row',e=.arr es rows/\rows[j]? =some row/\b=.arr es (rows.set j row')/\(∀c∈row',c.isCell=true)/\FIL Z T fp st o row row'):=by
     rintro w hw ⟨t,xs,rfl⟩;refine⟨e,fun hf'=>(hf hf').elim,fun _ _ _ _ _ _ _ _=>rfl,fun _ _ _ _ _ _=>rfl,fun r' t' xs' os j cs h1 h2 _=>?_,fun r' b cs h1 h2 _=>?_,.inr (.inl rfl)⟩
     ·have:=uniq r' _ h1 rfl h2;subst this;rw[x1]at h1;cases h1;cases hw
     ·have:=uniq r' _ h1 rfl h2;subst this;rw[x1]at h1;cases h1
    cases x with
    |dead=>cases x2
    |arr t xs w=>
     cases w with
     |no=>exact arrNo .no rfl ⟨t,xs,rfl⟩
     |cl os=>exact arrNo (.cl os) rfl ⟨t,xs,rfl⟩
     |op os j cs=>
      obtain⟨rows,row,b0,b1,b2,b3,b4⟩:=h.opened x1;obtain⟨as',g1,g2⟩:=zCN (fun v a hv=>rep v a hv) cs row b2;rw[hi]at b0;cases b0;refine⟨.arr t.sz (rows.set j as'),fun hf'=>(hf hf').elim,fun r' t' xs' w' h1 h2 h3 _=>?_,fun r' x' _ _ h3 _=>(nof r' h3).elim,fun r' t' xs' os' j' cs' h1 h2 _=>?_,fun r' b cs h1 h2 _=>?_,.inr (.inr ⟨_,rows,j,row,as',rfl,b1,rfl,?_,g2⟩)⟩
      ·have:=uniq r' _ h1 rfl h3;subst this;rw[x1]at h1;cases h1;cases h2
      ·have:=uniq r' _ h1 rfl h2;subst this;rw[x1]at h1;cases h1;exact⟨rows,as',rfl,rfl,g1⟩
      ·have:=uniq r' _ h1 rfl h2;subst this;rw[x1]at h1;cases h1
      ·exact g2.cells fun c hc=>List.all_eq_true.1 (b2.cells b4) c hc
    |box b cs=>
     obtain⟨as,b1,b2⟩:=h.box r b cs x1;have b3:=h.boxC r b cs x1;obtain⟨as',g1,g2⟩:=zCN (fun v a hv=>rep v a hv) cs as b2;rw[hi]at b1;cases b1;refine⟨.arr cs.length [as'],fun hf'=>(hf hf').elim,fun r' t' xs' w' h1 h2 h3 _=>?_,fun r' x' _ _ h3 _=>(nof r' h3).elim,fun r' t' xs' os' j' cs' h1 h2 _=>?_,fun r' b' cs' h1 h2 _=>?_,.inr (.inr ⟨_,[as],0,as,as',rfl,rfl,rfl,?_,g2⟩)⟩
     ·have:=uniq r' _ h1 rfl h3;subst this;rw[x1]at h1;cases h1
     ·have:=uniq r' _ h1 rfl h2;subst this;rw[x1]at h1;cases h1
     ·have:=uniq r' _ h1 rfl h2;subst this;rw[x1]at h1;cases h1;exact⟨as',rfl,g1⟩
     ·exact g2.cells fun c hc=>List.all_eq_true.1 (b2.cells b3) c hc
   ·exact⟨e,fun hf'=>(hf hf').elim,fun r' t' xs' w' h1 _ h3 _=>(hx ⟨_,_,h1,rfl,h3⟩).elim,fun _ _ _ _ _ _=>rfl,fun r' t' xs' os' j' cs' h1 h2 _=>(hx ⟨_,_,h1,rfl,h2⟩).elim,fun r' b' cs' h1 h2 _=>(hx ⟨_,_,h1,rfl,h2⟩).elim,.inr (.inl rfl)⟩
 have got:∀(i:Nat) e,st.mem[i]? =some e->∃e1,mem1[i]? =some e1:=fun i e hi=>by have:=(yga.1 hi).1;exact⟨_,ygb (by omega)⟩
 have back:∀(r:Nat) y,(fzO o T).mem[r]? =some y->∃x,T.mem[r]? =some x/\y=(match memB r o with
  |true=>.dead
  |false=>match x with
   |.box b cs=>fzB b (zsO T.mem o 60 cs)
   |.arr t xs (.op os j cs)=>fzA t xs os j (zsO T.mem o 60 cs)
   |r=>r):=fun r y hy=>by
  have hlt:=(yga.1 hy).1;have hlt':r<T.mem.length:=by simpa[fzO,zzb]using hlt
  have h1:T.mem[r]? =some T.mem[r]:=ygb _;have:=zuR T.mem o T.mem 0 r _ h1;rw[Nat.zero_add]at this;refine⟨_,h1,?_⟩;rw[show(fzO o T).mem=fzR T.mem o 0 T.mem from rfl,this]at hy;exact(Option.some.inj hy).symm
 have bArr:∀(r:Nat) t xs w,(fzO o T).mem[r]? =some (.arr t xs w)->memB r o=false/\((T.mem[r]? =some (.arr t xs w)/\w.shut=true)\/∃os j cs,T.mem[r]? =some (.arr t xs (.op os j cs))/\w=.op os j (zsO T.mem o 60 cs)/\(zsO T.mem o 60 cs).all V.isC=true):=by
  intro r t xs w hr;obtain⟨x,hx,e⟩:=back r _ hr;cases hm:memB r o<;>rw[hm]at e<;>simp only at e
  ·refine⟨rfl,?_⟩;cases x with
   |dead=>cases e
   |box b cs=>simp only[fzB]at e;split at e<;>cases e
   |arr t' xs' w'=>
    cases w' with
    |no=>cases e;exact .inl ⟨hx,rfl⟩
    |cl os=>cases e;exact .inl ⟨hx,rfl⟩
    |op os j cs=>
     simp only[fzA]at e;split at e
     ·rename_i hc;cases e;exact .inr ⟨os,j,cs,hx,rfl,hc⟩
     ·cases e
  ·cases e
 have bBox:∀(r:Nat) b cs,(fzO o T).mem[r]? =some (.box b cs)->memB r o=false/\∃cs',T.mem[r]? =some (.box b cs')/\cs=zsO T.mem o 60 cs'/\(zsO T.mem o 60 cs').all V.isC=true:=by
  intro r b cs hr;obtain⟨x,hx,e⟩:=back r _ hr;cases hm:memB r o<;>rw[hm]at e<;>simp only at e
  ·refine⟨rfl,?_⟩;cases x with
   |dead=>cases e
   |box b' cs'=>
    simp only[fzB]at e;split at e
    ·rename_i hc;cases e;exact⟨cs',hx,rfl,hc⟩
    ·cases e
   |arr t' xs' w'=>
    cases w' with
    |no=>cases e
    |cl os=>cases e
    |op os j cs=>simp only[fzA]at e;split at e<;>cases e
  ·cases e
 have al:∀(r:Nat) y,(fzO o T).mem[r]? =some y->y.alive=true->∃x,T.mem[r]? =some x/\x.alive=true/\memB r o=false:=fun r y hy hal=>by
  cases y with
  |dead=>cases hal
  |arr t xs w=>
   obtain⟨hm,h1|⟨os,j,cs,h1,_⟩⟩:=bArr r t xs w hy
   ·exact⟨_,h1.1,rfl,hm⟩
   ·exact⟨_,h1,rfl,hm⟩
  |box b cs=>obtain⟨hm,cs',h1,_⟩:=bBox r b cs hy;exact⟨_,h1,rfl,hm⟩
 have lives:∀i,Fzi Z T.mem fp o i->∃es rows,st.mem[i]? =some (.arr es rows):=by
  rintro i ⟨r,y,f1,f2,f3,f4⟩;rcases f4 with rfl|f4
  ·cases y with
   |dead=>cases f3
   |arr t xs w=>obtain⟨rows,g,_⟩:=h.alt r t xs w f2;exact⟨_,rows,g⟩
   |box b cs=>obtain⟨as,b1,_⟩:=h.box r b cs f2;exact⟨_,_,b1⟩
  ·exact how.live r i f4
 refine⟨⟨env1,mem1⟩,⟨Nat.le_of_eq m1.symm,fun C its hh=>AW.ghost (st':=⟨env1,mem1⟩) (Nat.le_of_eq m1.symm) (fun H F β w hs=>⟨Hfz Z T.mem fp o H β w,β,⟨zks hs,fun b x hx=>?_⟩,.refl _,?_,fun n x hx=>?_⟩) hh⟩,⟨fun n=>?_,fun r b cs hr=>?_,fun r b cs hr=>?_,fun r r' x x' h1 h2 h3 h4 h5=>?_,?_,h.pin.mono (zBy o T.mem)⟩⟩
 ·unfold Hfz at hx;split at hx
  ·rename_i hf;obtain⟨i,es,cap,f1,f2⟩:=hf;obtain⟨es',rows,hm⟩:=lives i f1;exact .inr (hs.apart _ _ _ hm rfl f2).2
  ·exact .inl hx
 ·refine hs.fz m1 (zks hs) (zGP hs) (fun i e1 x hi hlv hx hn=>?_) (fun i e e1 hi hi1=>?_)
  ·unfold Hfz;split
   ·rename_i hf;obtain⟨k,es,cap,f1,f2⟩:=hf;obtain⟨es',rows,hm⟩:=lives k f1;have hlt:i<mem1.length:=(yga.1 hi).1;have hi0:st.mem[i]? =some (st.mem[i]'(by omega)):=ygb _;obtain⟨p1,_,_,_,_,p4⟩:=m2 i _ e1 hi0 hi;have hlv0:(st.mem[i]'(by omega)).live=true:=by
     rcases p4 with p4|rfl|⟨es,rows,j,row,row',q1,_,rfl,_⟩
     ·rw[p1 p4]at hlv;simp at hlv
     ·exact hlv
     ·rw[q1];rfl
    have:=hs.inj i k _ _ x _ hi0 hlv0 hm rfl hx f2 rfl;subst this;rw[p1 f1]at hlv;simp at hlv
   ·exact hn
  ·obtain⟨p1,_,_,_,_,p4⟩:=m2 i e e1 hi hi1;rcases p4 with p4|rfl|⟨es,rows,j,row,row',rfl,q0,rfl,q1,q2⟩
   ·exact .inl (p1 p4)
   ·exact .inr (.inl rfl)
   ·refine .inr (.inr ⟨es,rows,rows.set j row',rfl,rfl,by simp,fun k r r' hk hk'=>?_⟩);rw[List.getElem?_set]at hk';split at hk'
    ·rename_i e;subst e;rw[q0]at hk;cases hk;split at hk'
     ·cases hk';refine⟨q2.len,q1,fun k c c' v hk hk' hr=>?_⟩;obtain⟨c0,g1,g2⟩:=q2.get k c' hk';rw[hk]at g1;cases g1;exact g2.2 H F β w hs β (.inl rfl) v hr
     ·cases hk'
    ·rw[hk]at hk';cases hk';have hx:∃x,β[i]? =some x:=⟨_,ygb (by rw[hs.hl];exact(yga.1 hi).1)⟩
     obtain⟨x,hx⟩:=hx;have h0:=hs.ent i _ x hi hx;have hcell:∀c∈r,c.isCell=true:=by
      cases x with
      |none=>have:rows=[]:=h0;subst this;simp at hk
      |some x=>obtain⟨b,es',cap⟩:=x;obtain⟨_,_,_,_,_,_,_,h6,_⟩:=h0;exact h6 r (ygd hk)
     refine⟨rfl,hcell,fun k c c' v h1 h2 h3=>?_⟩;rw[h1]at h2;cases h2;exact h3.mono (zks hs) (.refl _)
 ·show Rep _ _ (look env1 n) x;rcases zpt T.env n with e|e
  ·rcases e1 n with e'|e'
   ·exact e'.2.2 H F β w hs β (.inl rfl) x hx
   ·rw[e'];exact .junk
  ·exact(e2 n e).2.2 H F β w hs β (.inl rfl) x hx
 ·show VR Z (fzR T.mem o 0 T.mem) (lookV (T.env.map fun p=>(p.1,fzW T.mem o p.2)) n) (look env1 n);rw[zps (fzW T.mem o) (by simp[fzW,V.pur,fzV])];rcases zpt T.env n with e|e
  ·rw[e];simp[fzW,V.pur,fzV,VR]
  ·exact(e2 n e).1
 ·obtain⟨hm,cs',hx,rfl,hc⟩:=bBox r b cs hr;obtain⟨as,g,_⟩:=h.box r b cs' hx;obtain⟨e1,he1⟩:=got _ _ g;obtain⟨as',q1,q2⟩:=(m2 _ _ _ g he1).2.2.2.2.1 r b cs' hx rfl hm;subst q1;exact⟨as',by simpa[zsO]using he1,q2⟩
 ·exact(bBox r b cs hr).2.choose_spec.2.1 ▸ (bBox r b cs hr).2.choose_spec.2.2
 ·obtain⟨_,a1,a2,_⟩:=al r x h1 h2;obtain⟨_,a3,a4,_⟩:=al r' x' h3 h4;exact h.inj r r' _ _ a1 a2 a3 a4 h5
 ·let fp':Nat->List Nat:=fun r=>match(fzO o T).mem[r]? with
  |some (.arr _ _ _)=>fp r
  |_=>[]
  have fpc:∀r,fp' r=[]\/(fp' r=fp r/\∃t xs w,(fzO o T).mem[r]? =some (.arr t xs w)):=by
   intro r;simp only[fp'];split
   ·rename_i t xs w e;exact .inr ⟨rfl,t,xs,w,e⟩
   ·exact .inl rfl
  have sub:∀r,∀i∈fp' r,i∈fp r:=fun r i hi=>by
   rcases fpc r with e|⟨e,_⟩
   ·rw[e]at hi;simp at hi
   ·rw[e]at hi;exact hi
  refine⟨fp',fun r t xs w hr=>?_,fun r hr=>?_,fun r=>?_,fun r r' hne i hi hi'=>how.dj r r' hne i (sub r i hi) (sub r' i hi'),fun r r' x hx ha hi=>?_⟩
  ·have e:fp' r=fp r:=by simp only[fp'];rw[hr]
   rw[e];obtain⟨hm,hc⟩:=bArr r t xs w hr;have hfr:∀x,T.mem[r]? =some x->x.alive=true->∀i∈fp r,mem1[i]? =st.mem[i]?:=fun x hx ha i hi=>by obtain⟨es,rows,g⟩:=how.live r i hi;obtain⟨e1,he1⟩:=got _ _ g;rw[he1,g,(m2 _ _ _ g he1).2.2.1 r x hx ha hi hm]
   rcases hc with⟨hx,hw⟩|⟨os,j,cs,hx,rfl,hcc⟩
   ·have hA:=how.rel r t xs w hx;obtain⟨rows,g,_⟩:=hA.ent;obtain⟨e1,he1⟩:=got _ _ g;have:=(m2 _ _ _ g he1).2.1 r t xs w hx hw rfl hm;exact(hA.mono (ρ':=Z) (mem':=(fzO o T).mem) (sm':=mem1) (i':=Z r) (fun cs as hv=>hv.mono (zBy o T.mem)) (by rw[he1,g,this]) (hfr _ hx rfl))
   ·have hA:=how.rel r t xs _ hx;obtain⟨pre,x0,post,rpre,row,rpost,fp1,fp2,k1,k2,k3,k4,k5,k6,k7,k8,k9,k10⟩:=hA;obtain⟨e1,he1⟩:=got _ _ k3;obtain⟨rows,row',q1,q2,q3⟩:=(m2 _ _ _ k3 he1).2.2.2.1 r t xs os j cs hx rfl hm;cases q1;refine⟨pre,x0,post,rpre,row',rpost,fp1,fp2,k1,k2,?_,k4,k5.frame fun i hi=>hfr _ hx rfl i (by rw[k7];simp[hi]),k6.frame fun i hi=>hfr _ hx rfl i (by rw[k7];simp[hi]),k7,q3,by rw[<-k9];simp[zsO],hcc⟩;show mem1[Z r]? =_;rw[he1,q2,<-k4,List.set_append_right _ _ (Nat.le_refl _),Nat.sub_self];rfl
  ·rcases fpc r with e|⟨_,t,xs,w,e⟩
   ·exact e
   ·exact absurd e (hr t xs w)
  ·rcases fpc r with e|⟨e,_⟩
   ·rw[e];exact List.nodup_nil
   ·rw[e];exact how.nd r
  ·obtain⟨y,g1,g2,_⟩:=al r x hx ha;exact how.rt r r' y g1 g2 (sub r' _ hi)
end
end Go.Fw
namespace Go.Fw
open Go
variable [Pin]
section
variable {Z:Nat->Nat}{T:TS}{st:St}
theorem TR.inner{r:Nat}{t:Ty}{xs:List (TV t)}{w w':Ow}{rows rows':List (List AV)}{fp:Nat->List Nat}(h:TR Z T st)(how:OwA Z T.mem st.mem fp)(hr:T.mem[r]? =some (.arr t xs w))(hi:st.mem[Z r]? =some (.arr t.sz rows))(hl:rows'.length=rows.length)
 (hR:∀(q:Nat) ro ro',rows[q]? =some ro->rows'[q]? =some ro'->ro'.length=ro.length/\((∀c∈ro,c.isCell=true)->∀c∈ro',c.isCell=true)/\∀H H' F β w,Sat H F β st.mem w->zkf H H'->(∀i∈fp r,∀b es' cap,β[i]? =some (some (b,es',cap))->∀o,w.heap[b]? =some o->H' b=some o)->
  ∀(k:Nat) c c' v,ro[k]? =some c->ro'[k]? =some c'->Rep H β c v->Rep H' β c' v)
 (hA:∀(mem':List Root)(sm':List Ent),Kp Z Z T.mem mem'->sm'[Z r]? =some (.arr t.sz rows')->ArrR Z mem' sm' t xs w' (Z r) []):
 ∃st1,Gh st st1/\TR Z ⟨T.env,T.mem.set r (.arr t xs w')⟩ st1:=by
 have hrl:=(yga.1 hr).1;let mem1:List Ent:=st.mem.mapIdx fun i e=>if i=Z r then .arr t.sz rows' else if i∈fp r then .dead else e
 have m1:mem1.length=st.mem.length:=by simp[mem1]
 have mg:∀(i:Nat),mem1[i]? =(st.mem[i]?).map fun e=>if i=Z r then .arr t.sz rows' else if i∈fp r then .dead else e:=fun i=>by simp[mem1,List.getElem?_mapIdx]
 have hnot:Z r∉fp r:=how.rt r r _ hr rfl;have same:∀(i:Nat),i≠Z r->i∉fp r->mem1[i]? =st.mem[i]?:=fun i h1 h2=>by rw[mg];cases st.mem[i]?<;>simp[h1,h2]
 have ini:mem1[Z r]? =some (.arr t.sz rows'):=by rw[mg,hi];simp
 have old:∀(q:Nat) y,(T.mem.set r (.arr t xs w'))[q]? =some y->(q=r/\y=.arr t xs w')\/(q≠r/\T.mem[q]? =some y):=by
  intro q y hq;by_cases e:q=r
  ·subst e;simp[hrl]at hq;exact .inl ⟨rfl,hq.symm⟩
  ·rw[ygg (fun h=>e h.symm)]at hq;exact .inr ⟨e,hq⟩
 have hk:Kp Z Z T.mem (T.mem.set r (.arr t xs w')):=by
  have key:∀(q:Nat) y,T.mem[q]? =some y->q≠r->(T.mem.set r (.arr t xs w'))[q]? =some y:=fun q y hq e=>by rw[ygg (fun h=>e h.symm)];exact hq
  refine⟨fun q t' ys w0 hq=>?_,fun q b ds hq=>?_,fun q hq=>?_⟩
  ·by_cases e:q=r
   ·subst e;rw[hr]at hq;cases hq;exact .inr ⟨rfl,xs,w',by simp[hrl],rfl⟩
   ·exact .inr ⟨rfl,ys,w0,key q _ hq e,rfl⟩
  ·by_cases e:q=r
   ·subst e;rw[hr]at hq;cases hq
   ·exact .inr ⟨rfl,b,ds,key q _ hq e⟩
  ·by_cases e:q=r
   ·subst e;rw[hr]at hq;cases hq
   ·exact key q _ hq e
 have ne:∀(q:Nat) y,T.mem[q]? =some y->y.alive=true->q≠r->Z q≠Z r/\Z q∉fp r:=fun q y hq ha e=>⟨fun h'=>e (h.inj q r y _ hq ha hr rfl h'),how.rt q r y hq ha⟩
 let Hx:Hp->Bt->World->Hp:=fun H β w b=>open Classical in if ∃i es cap,i∈fp r/\β[i]? =some (some (b,es,cap))then w.heap[b]? else H b
 have hE:∀{H F β w},Sat H F β st.mem w->zkf H (Hx H β w):=fun{H F β w} hs b x hx=>by
  simp only[Hx];split
  ·exact hs.hH b x hx
  ·exact hx
 have hW:∀{H F β w},Sat H F β st.mem w->∀b x,Hx H β w b=some x->w.heap[b]? =some x:=fun{H F β w} hs b x hx=>by
  simp only[Hx]at hx;split at hx
  ·exact hx
  ·exact hs.hH b x hx
 have hB:∀{H β}{w:World},∀i∈fp r,∀b es' cap,β[i]? =some (some (b,es',cap))->∀o,w.heap[b]? =some o->Hx H β w b=some o:=fun{H β w} i hi b es cap hb o ho=>by simp only[Hx];rw[if_pos ⟨i,es,cap,hi,hb⟩];exact ho
 refine⟨⟨st.env,mem1⟩,⟨Nat.le_of_eq m1.symm,fun C its hh=>AW.ghost (st':=⟨st.env,mem1⟩) (Nat.le_of_eq m1.symm) (fun H F β w hs=>⟨Hx H β w,β,⟨hE hs,fun b x hx=>?_⟩,.refl _,?_,fun n x hx=>hx.mono (hE hs) (.refl _)⟩) hh⟩,⟨fun n=>(h.env n).mono hk,fun q b cs hq=>?_,fun q b cs hq=>?_,fun q q' x x' h1 h2 h3 h4 h5=>?_,?_,h.pin.mono hk⟩⟩
 ·simp only[Hx]at hx;split at hx
  ·rename_i hf;obtain⟨i,es,cap,f1,f2⟩:=hf;obtain⟨es',rows0,hm⟩:=how.live r i f1;exact .inr (hs.apart _ _ _ hm rfl f2).2
  ·exact .inl hx
 ·refine hs.fz m1 (hE hs) (hW hs) (fun i e1 x hi1 hlv hx hn=>?_) (fun i e e1 hi0 hi1=>?_)
  ·simp only[Hx];split
   ·rename_i hf;obtain⟨k,es,cap,f1,f2⟩:=hf;obtain⟨es',rows0,hm⟩:=how.live r k f1;have hlt:i<mem1.length:=(yga.1 hi1).1;have hi0:st.mem[i]? =some (st.mem[i]'(by omega)):=ygb _;have hlv0:(st.mem[i]'(by omega)).live=true:=by
     by_cases e:i=Z r
     ·subst e;rw[hi]at hi0;rw[<-Option.some.inj hi0];rfl
     ·by_cases e2:i∈fp r
      ·obtain⟨es2,rows2,g⟩:=how.live r i e2;rw[hi0]at g;rw[Option.some.inj g];rfl
      ·rw[same i e e2,hi0]at hi1;rw[Option.some.inj hi1];exact hlv
    have:=hs.inj i k _ _ x _ hi0 hlv0 hm rfl hx f2 rfl;subst this;rw[mg,hi0]at hi1;have e:i≠Z r:=fun e=>hnot (e ▸ f1);simp only[Option.map_some,if_neg e,if_pos f1,Option.some.injEq]at hi1;subst hi1;simp at hlv
   ·exact hn
  ·rw[mg,hi0]at hi1;simp only[Option.map_some,Option.some.injEq]at hi1;by_cases e:i=Z r
   ·subst e;rw[if_pos rfl]at hi1;rw[hi]at hi0;cases hi0;refine .inr (.inr ⟨t.sz,rows,rows',rfl,hi1.symm,hl,fun q ro ro' h1 h2=>?_⟩);obtain⟨g1,g2,g3⟩:=hR q ro ro' h1 h2;have hx:∃x,β[Z r]? =some x:=⟨_,ygb (by rw[hs.hl];exact(yga.1 hi).1)⟩
    obtain⟨x,hx⟩:=hx;have h0:=hs.ent _ _ x hi hx;have hcell:∀c∈ro,c.isCell=true:=by
     cases x with
     |none=>have:rows=[]:=h0;subst this;simp at h1
     |some x=>obtain⟨b,es',cap⟩:=x;obtain⟨_,_,_,_,_,_,_,h6,_⟩:=h0;exact h6 ro (ygd h1)
    exact⟨g1,g2 hcell,fun k c c' v k1 k2 k3=>g3 H _ F β w hs (hE hs) hB k c c' v k1 k2 k3⟩
   ·rw[if_neg e]at hi1;by_cases e2:i∈fp r
    ·rw[if_pos e2]at hi1;exact .inl hi1.symm
    ·rw[if_neg e2]at hi1;exact .inr (.inl hi1.symm)
 ·rcases old q _ hq with⟨_,e⟩|⟨e,hq⟩
  ·cases e
  ·obtain⟨as,g1,g2⟩:=h.box q b cs hq;obtain⟨n1,n2⟩:=ne q _ hq rfl e;exact⟨as,by rw[same _ n1 n2];exact g1,g2.mono hk⟩
 ·rcases old q _ hq with⟨_,e⟩|⟨e,hq⟩
  ·cases e
  ·exact h.boxC q b cs hq
 ·have al:∀(q:Nat) y,(T.mem.set r (.arr t xs w'))[q]? =some y->y.alive=true->∃y',T.mem[q]? =some y'/\y'.alive=true:=fun q y hq ha=>by
   rcases old q y hq with⟨rfl,_⟩|⟨_,hq⟩
   ·exact⟨_,hr,rfl⟩
   ·exact⟨y,hq,ha⟩
  obtain⟨y,a1,a2⟩:=al q x h1 h2;obtain⟨y',a3,a4⟩:=al q' x' h3 h4;exact h.inj q q' _ _ a1 a2 a3 a4 h5
 ·refine⟨fun q=>if q=r then[]else fp q,fun q t' ys w0 hq=>?_,fun q hq=>?_,fun q=>?_,fun q q' hne i hi1=>?_,fun q q' y hq ha=>?_⟩
  ·rcases old q _ hq with⟨rfl,e⟩|⟨e,hq⟩
   ·cases e;rw[if_pos rfl];exact hA _ _ hk ini
   ·rw[if_neg e];obtain⟨n1,n2⟩:=ne q _ hq rfl e;exact(how.rel q t' ys w0 hq).mono (fun cs as hv=>hv.mono hk) (same _ n1 n2) fun j hj=>same j (fun e'=>how.rt r q _ hr rfl (e' ▸ hj)) (how.dj q r e j hj)
  ·by_cases e:q=r
   ·rw[if_pos e]
   ·rw[if_neg e];exact how.nil q fun t' ys w0 h'=>hq t' ys w0 (by rw[ygg (fun h=>e h.symm)];exact h')
  ·by_cases e:q=r
   ·rw[if_pos e];exact List.nodup_nil
   ·rw[if_neg e];exact how.nd q
  ·by_cases e:q=r
   ·rw[if_pos e]at hi1;simp at hi1
   ·rw[if_neg e]at hi1;by_cases e':q'=r
    ·rw[if_pos e'];simp
    ·rw[if_neg e'];exact how.dj q q' hne i hi1
  ·by_cases e:q'=r
   ·rw[if_pos e];simp
   ·rw[if_neg e];rcases old q y hq with⟨rfl,_⟩|⟨_,hq⟩
    ·exact how.rt q q' _ hr rfl
    ·exact how.rt q q' y hq ha
theorem OwRs.rowlen{sm:List Ent}{os:OS}{t:Ty}:∀{xs:List (TV t)}{rows:List (List AV)}{fp:List Nat},OwRs sm os t xs rows fp->∀ro∈rows,ro.length=t.sz
|_,_,_,.nil,ro,h=>by simp at h
|_,_,_,.cons (x:=x) h hs,ro,hm=>by
 rcases List.mem_cons.1 hm with rfl|hm
 ·rw[h.len,zl0]
 ·exact hs.rowlen ro hm
theorem OwRs.rowsR{sm:List Ent}{os:OS}{t:Ty}{xs:List (TV t)}{rows:List (List AV)}{fp:List Nat}(h:OwRs sm os t xs rows fp)(q:Nat)(ro ro':List AV)(h1:rows[q]? =some ro)(h2:(xs.map (zap t))[q]? =some ro'):
 ro'.length=ro.length/\((∀c∈ro,c.isCell=true)->∀c∈ro',c.isCell=true)/\∀H H' F β w,Sat H F β sm w->zkf H H'->(∀i∈fp,∀b es' cap,β[i]? =some (some (b,es',cap))->∀o,w.heap[b]? =some o->H' b=some o)->
  ∀(k:Nat) c c' v,ro[k]? =some c->ro'[k]? =some c'->Rep H β c v->Rep H' β c' v:=by
 rw[List.getElem?_map]at h2;cases hx:xs[q]? with
 |none=>rw[hx]at h2;cases h2
 |some x=>rw[hx]at h2;simp only[Option.map_some,Option.some.injEq]at h2;subst h2;refine⟨by rw[zew,h.rowlen ro (ygd h1)],fun _=>zhd t x,fun H H' F β w hs hE hb k c c' v k1 k2 k3=>?_⟩;exact(h.gen hs hE hb q ro (zap t x) k c c' v h1 (by rw[List.getElem?_map,hx];rfl) k1 k2 k3).mono (.refl _) (zGz _)
theorem zFD(h:TR Z T st)(r:Nat):∃st1,Gh st st1/\TR Z ⟨T.env,fiC T.mem r⟩ st1:=by
 unfold fiC;split
 ·rename_i t xs os hr;obtain⟨fp,how⟩:=h.ow;obtain⟨rows,hi,h2⟩:=how.rel r t xs _ hr;exact h.inner how hr hi (rows':=xs.map (zap t)) (by simp[h2.len]) (fun q ro ro' h1 h3=>h2.rowsR q ro ro' h1 h3) fun mem' sm' _ hi'=>⟨hi',rfl⟩
 ·exact⟨st,.refl _,h⟩
theorem zFC(h:TR Z T st)(r:Nat):∃st1,Gh st st1/\TR Z ⟨T.env,fi1 T.mem r⟩ st1:=by
 unfold fi1;split
 ·rename_i t xs os hr;obtain⟨fp,how⟩:=h.ow;obtain⟨rows,hi,h2⟩:=how.rel r t xs _ hr;exact h.inner how hr hi (rows':=xs.map (zap t)) (by simp[h2.len]) (fun q ro ro' h1 h3=>h2.rowsR q ro ro' h1 h3) fun mem' sm' _ hi'=>⟨hi',rfl⟩
 ·rename_i t xs os j cs hr;obtain⟨fp,how⟩:=h.ow;obtain⟨pre,x,post,rpre,row,rpost,fp1,fp2,e1,e2,h0,e3,h1,h2,e4,h3,h4,h5⟩:=how.rel r t xs _ hr;have a1:∃st1,Gh st st1/\TR Z ⟨T.env,T.mem.set r (.arr t xs (.op .no j cs))⟩ st1:=by
   refine h.inner how hr h0 (rows':=pre.map (zap t)++row:: post.map (zap t)) (by simp[h1.len,h2.len]) (fun q ro ro' k1 k2=>?_) fun mem' sm' hk hi'=>?_
   ·rcases Nat.lt_trichotomy q rpre.length with hq|hq|hq
    ·rw[yge hq]at k1;rw[yge (by rw[List.length_map,<-h1.len];exact hq)]at k2;obtain⟨g1,g2,g3⟩:=h1.rowsR q ro ro' k1 k2;exact⟨g1,g2,fun H H' F β w hs hE hb=>g3 H H' F β w hs hE fun i hi=>hb i (by rw[e4];simp[hi])⟩
    ·subst hq;have e5:rpre.length=(pre.map (zap t)).length:=by rw[List.length_map,h1.len]
     rw[ygf (Nat.le_refl _),Nat.sub_self]at k1;rw[e5,ygf (Nat.le_refl _),Nat.sub_self]at k2;simp only[List.getElem?_cons_zero,Option.some.injEq]at k1 k2;subst k1 k2;refine⟨rfl,id,fun H H' F β w hs hE _ k c c' v g1 g2 g3=>?_⟩;rw[g1]at g2;cases g2;exact g3.mono hE (.refl _)
    ·have e5:rpre.length=(pre.map (zap t)).length:=by rw[List.length_map,h1.len]
     rw[ygf (by omega)]at k1;rw[ygf (by omega),<-e5]at k2;obtain⟨p,hp⟩:∃p,q-rpre.length=p+1:=⟨q-rpre.length-1,by omega⟩
     rw[hp,List.getElem?_cons_succ]at k1 k2;obtain⟨g1,g2,g3⟩:=h2.rowsR p ro ro' k1 k2;exact⟨g1,g2,fun H H' F β w hs hE hb=>g3 H H' F β w hs hE fun i hi=>hb i (by rw[e4];simp[hi])⟩
   ·exact⟨pre,x,post,_,row,_,[],[],e1,e2,hi',by rw[List.length_map];exact e2.symm,OwRs.mkno pre,OwRs.mkno post,rfl,h3.mono hk,h4,h5⟩
  obtain⟨st1,g1,h6⟩:=a1;obtain⟨st2,g2,h7⟩:=zs4 h6 r;obtain⟨st3,g3,h8⟩:=zFD h7 r;exact⟨st3,(g1.trans g2).trans g3,h8⟩
 ·exact⟨st,.refl _,h⟩
theorem zCL:∀(o:List Nat){T:TS}{st:St},TR Z T st->∃st1,Gh st st1/\TR Z ⟨T.env,fiL T.mem o⟩ st1
|[],T,st,h=>⟨st,.refl _,h⟩
|r:: o,T,st,h=>by obtain⟨st1,g1,h1⟩:=zFC h r;obtain⟨st2,g2,h2⟩:=zCL o h1;exact⟨st2,g1.trans g2,h2⟩
theorem zF3(h:TR Z T st)(n:Nat):∃st1 ρ1,Gh st st1/\TR ρ1 (owB n T) st1:=by
 unfold owB;split
 ·split
  ·rename_i r _ _ _ _ b cs hr;have hc:=h.boxC r b cs hr;obtain⟨st2,ρ',q1,q2⟩:=TR.owns cs b.ts [] [] h (by simpa using hr) (by simpa using hc);exact⟨st2,ρ',q1,by simpa using q2⟩
  ·exact⟨st,Z,.refl _,h⟩
 ·exact⟨st,Z,.refl _,h⟩
theorem zwP{ρt:Type}{res:ρt}{κ:TS->Option ρt}(h:TR Z T st){r i:Nat}(he:zBX r i T κ =some res):∃T1 ρ1,κ T1=some res/\TR ρ1 T1 st/\T1.env=T.env:=by
 unfold zBX at he;split at he
 ·rename_i t xs os hr;obtain⟨v,hv,he⟩:=zau he;obtain⟨ρ',rows,r0,_,_,_,_,q⟩:=h.open hr hv;exact⟨_,ρ',he,q,rfl⟩
 ·exact⟨T,Z,he,h,rfl⟩
end
end Go.Fw
namespace Go.Fw
open Go
variable [Pin]
theorem zoo(cs:List (Nat×V))(n:Nat):∀(sl:List Nat)(vs:List V),(∃i:Nat,sl[i]? =some n/\vs[i]? =some (lookV (zA6 sl vs++cs) n))\/lookV (zA6 sl vs++cs) n=lookV cs n
|[],vs=>.inr (by simp[zA6])
|m:: sl,[]=>.inr (by simp[zA6])
|m:: sl,v:: vs=>by
 simp only[zA6,List.cons_append,lookV];cases e:Nat.beq m n with
 |true=>exact .inl ⟨0,by simp[Nat.eq_of_beq_eq_true e],rfl⟩
 |false=>exact(zoo cs n sl vs).imp (fun⟨i,h1,h2⟩=>⟨i+1,by simpa using h1,by simpa using h2⟩) id
theorem zja(f:Nat->V)(n:Nat):∀ks:List Nat,(n∈ks/\lookV (ks.map fun n=>(n,f n)) n=f n)\/(n∉ks/\lookV (ks.map fun n=>(n,f n)) n=.junk)
|[]=>.inr ⟨by simp,rfl⟩
|m:: ks=>by
 simp only[List.map_cons,lookV];cases e:Nat.beq m n with
 |true=>have e:=Nat.eq_of_beq_eq_true e;subst e;exact .inl ⟨by simp,rfl⟩
 |false=>
  have e:=Nat.ne_of_beq_eq_false e;rcases zja f n ks with⟨h1,h2⟩|⟨h1,h2⟩
  ·exact .inl ⟨by simp[h1],h2⟩
  ·exact .inr ⟨by simp[h1,Ne.symm e],h2⟩
section
variable {T:TS}{p:Bool}{tys:List (Nat×An)}{st ks:List Nat}
theorem zBS(d:(zgF p tys T st ks).D){n:Nat}(hn:n∉st):lookV (mkJ p (zgF p tys T st ks) T st ks d).env n=.junk\/
 (n∈ks/\((lookV T.env n).pur=true\/(lookV T.env n).isJ=true\/p=true)->lookV (mkJ p (zgF p tys T st ks) T st ks d).env n=lookV T.env n)/\n∈ks:=by
 cases p with
 |true=>
  have:lookV (mkJ true (zgF true tys T st ks) T st ks d).env n=lookV (ks.map fun n=>(n,lookV T.env n)) n:=by
   simp only[mkJ,Sig.mkP];rcases zoo (ks.map fun n=>(n,lookV T.env n)) n (zgF true tys T st ks).sl (mkVL (zgF true tys T st ks).shs d)with⟨i,h1,h2⟩|h
   ·exact absurd (ygd h1) hn
   ·exact h
  rw[this];rcases zja (lookV T.env) n ks with⟨h1,h2⟩|⟨h1,h2⟩
  ·exact .inr ⟨fun _=>h2,h1⟩
  ·exact .inl h2
 |false=>
  by_cases hk:n∈ks
  ·by_cases hc:((lookV T.env n).pur=true\/(lookV T.env n).isJ=true\/false=true)
   ·refine .inr ⟨fun _=>?_,hk⟩;simp only[mkJ,Sig.mk'];rcases zoo (zlD T ks) n (zgF false tys T st ks).sl (mkVL (zgF false tys T st ks).shs d)with⟨i,h1,h2⟩|h
    ·have hsl:(zgF false tys T st ks).sl=st++ks.filter (zj3 T):=by simp[zgF,zAu]
     rw[hsl]at h1;have hm:=ygd h1;rcases List.mem_append.1 hm with hm|hm
     ·exact absurd hm hn
     ·have hr:=(List.mem_filter.1 hm).2;have hj:lookV T.env n=.junk:=by
       simp only[zj3,yho]at hr;rcases hc with hc|hc|hc
       ·rw[hr]at hc;cases hc
       ·cases hv:lookV T.env n<;>rw[hv]at hc<;>simp[V.isJ]at hc|-
       ·cases hc
      have hsh:∃o,(zgF false tys T st ks).sh[i]? =some (zje T o n):=by
       refine⟨zdJ T.mem 200 (V.refsL ((st++ks.filter (zj3 T)).map (lookV T.env))++zC1 T.mem Nin.nin) (zbx 0 Nin.nin),?_⟩;have:(zgF false tys T st ks).sh=st.map (zAt tys T (zdJ T.mem 200 (V.refsL ((st++ks.filter (zj3 T)).map (lookV T.env))++zC1 T.mem Nin.nin) (zbx 0 Nin.nin)))++(ks.filter (zj3 T)).map (zje T (zdJ T.mem 200 (V.refsL ((st++ks.filter (zj3 T)).map (lookV T.env))++zC1 T.mem Nin.nin) (zbx 0 Nin.nin))):=by simp[zgF,zAu]
       have hge:st.length<=i:=Nat.le_of_not_lt fun hlt=>by rw[yge hlt]at h1;exact hn (ygd h1)
       rw[ygf hge]at h1;rw[this,ygf (by simpa using hge),List.length_map,List.getElem?_map,h1];rfl
      obtain⟨o,hsh⟩:=hsh;have hshs:(zgF false tys T st ks).shs[i]? =some (zje T o n):=by simp only[Sig.shs];rw[yge (yga.1 hsh).1];exact hsh
      obtain⟨x,hx⟩:=zrZ _ d i _ hshs;rw[hx]at h2;have h2:=Option.some.inj h2;rw[<-h2,hj];have:zje T o n=.no:=by simp[zje,hj,zGM]
      revert x
      rw[this];intro x _ _ _;rfl
    ·rw[h];rcases zja (lookV T.env) n (ks.filter fun n=>!(zj3 T n))with⟨h1,h2⟩|⟨h1,h2⟩
     ·exact h2
     ·simp only[zlD];rw[h2];rcases hc with hc|hc|hc
      ·exact absurd (List.mem_filter.2 ⟨hk,by simp[zj3,hc]⟩) h1
      ·cases hv:lookV T.env n<;>rw[hv]at hc<;>simp[V.isJ]at hc|-
      ·cases hc
   ·exact .inr ⟨fun h=>absurd h.2 hc,hk⟩
  ·refine .inl ?_;simp only[mkJ,Sig.mk'];rcases zoo (zlD T ks) n (zgF false tys T st ks).sl (mkVL (zgF false tys T st ks).shs d)with⟨i,h1,h2⟩|h
   ·have hsl:(zgF false tys T st ks).sl=st++ks.filter (zj3 T):=by simp[zgF,zAu]
    rw[hsl]at h1;rcases List.mem_append.1 (ygd h1)with hm|hm
    ·exact absurd hm hn
    ·exact absurd (List.mem_filter.1 hm).1 hk
   ·rw[h];rcases zja (lookV T.env) n (ks.filter fun n=>!(zj3 T n))with⟨h1,h2⟩|⟨h1,h2⟩
    ·exact absurd (List.mem_filter.1 h1).1 hk
    ·exact h2
theorem zrX(W:List Nat)(d:(zgF p tys T st ks).D):Inv (st++W) p T (mkJ p (zgF p tys T st ks) T st ks d):=by
 refine⟨fun n hn hc=>?_,fun hp _=>by subst hp;rfl⟩;have hn':n∉st:=fun h=>by rw[zbF,(zrU n st).2 h]at hn;cases hn
 rcases zBS d hn' with h|⟨h1,h2⟩
 ·exact .inr h
 ·exact .inl (h1 ⟨h2,hc.imp id (.imp id And.left)⟩)
end
theorem TR.keep{Z:Nat->Nat}{T:TS}{st:St}(h:TR Z T st)(keep:List Nat):TR Z ⟨keep.map fun n=>(n,lookV T.env n),T.mem⟩ ⟨keep.map fun n=>(n,look st.env n),st.mem⟩:=
 ⟨fun n=>(EnvR.map keep fun n _=>h.env n).look n,h.box,h.boxC,h.inj,h.ow,h.pin⟩
theorem Inv.no{W:List Nat}{p pu:Bool}{T T':TS}(h:Inv W p T T')(hp:pu=true->noOw T.mem=true->p=true):Inv W pu T T':=
 ⟨fun n hn hc=>h.env n hn (hc.imp id (.imp id fun e=>⟨hp e.1 e.2,e.2⟩)),fun e e'=>h.mem (hp e e') e'⟩
theorem zjR:∀{mem:List Root},noOw mem=true->zp9 mem=false
|[],_=>rfl
|.dead:: l,h=>by simp only[zp9];exact zjR h
|.box _ _:: l,h=>by simp only[zp9];exact zjR h
|.arr _ _ w:: l,h=>by cases w<;>simp[noOw]at h;simp only[zp9];exact zjR h
theorem TR.endT{Z:Nat->Nat}{T:TS}{st:St}(h:TR Z T st)(keep:List Nat):∃st2,Gh ⟨keep.map fun n=>(n,look st.env n),st.mem⟩ st2/\TR Z (Go.Fw.endT keep T) st2:=by
 have h1:=h.keep keep;unfold Go.Fw.endT;split
 ·exact⟨_,.refl _,h1⟩
 ·obtain⟨st2,g1,h2⟩:=zlC (V.refsL (keep.map (lookV T.env))++zoI T.mem) T.mem.length h1;obtain⟨st3,g2,h3⟩:=zlC (V.refsL (keep.map (lookV T.env))++zoI T.mem) T.mem.length h2;exact⟨st3,g1.trans g2,h3⟩
theorem Inv.endT(W:List Nat)(pu:Bool)(T:TS)(keep:List Nat):Inv W pu T (Go.Fw.endT keep T):=by
 refine⟨fun n _ _=>?_,fun _ hn=>?_⟩
 ·have:(Go.Fw.endT keep T).env=keep.map fun n=>(n,lookV T.env n):=by unfold Go.Fw.endT;rfl
  rw[this];exact(zja (lookV T.env) n keep).imp (fun h=>h.2) (fun h=>h.2)
 ·unfold Go.Fw.endT;rw[zjR hn]
section
variable {Φ:List TE}{tys:List (Nat×An)}{C:Ctx}{k:List CItem}{ρt:Type}{res:ρt}
theorem zwW{p:Bool}{keep:List Nat}{ds:List Nat}{T T':TS}{Z:Nat->Nat}{st':St}
 {d:(zgF p tys T (keep.filter (fun n=>memB n ds)) (keep.filter (fun n=>!(memB n ds)))).D}
 (h:TR Z T' st')(hp:p=true->noOw T.mem=true)(hi:Inv ds p T T')(hd:zuS p (zgF p tys T (keep.filter (fun n=>memB n ds)) (keep.filter (fun n=>!(memB n ds)))) T (keep.filter (fun n=>!(memB n ds))) (endT keep T')=some d):
 ∃st2 ρ2,Gh ⟨keep.map fun n=>(n,look st'.env n),st'.mem⟩ st2/\TR ρ2 (mkJ p (zgF p tys T (keep.filter (fun n=>memB n ds)) (keep.filter (fun n=>!(memB n ds)))) T (keep.filter (fun n=>memB n ds)) (keep.filter (fun n=>!(memB n ds))) d) st2/\
  Inv ds p T (mkJ p (zgF p tys T (keep.filter (fun n=>memB n ds)) (keep.filter (fun n=>!(memB n ds)))) T (keep.filter (fun n=>memB n ds)) (keep.filter (fun n=>!(memB n ds))) d):=by
 obtain⟨st1,g0,h1⟩:=h.endT keep;obtain⟨st2,ρ2,g1,g2⟩:=zmz (slots:=keep.filter (fun n=>memB n ds)) h1 (hi.trans (.endT ds p T' keep)) (fun n hn=>by simpa using(List.mem_filter.1 hn).2) (fun e=>⟨e,hp e⟩) rfl hd;refine⟨st2,ρ2,g0.trans g1,g2,?_⟩;refine(zrX [] d).mono (fun n hn=>?_) id;rw[List.append_nil,zop];intro h;have:=(List.mem_filter.1 h).2;rw[hn]at this;cases this
theorem zxL(hΦ:∀e∈Φ,EOk C.P e){keep cls:List Nat}{ops:List COp}{T:TS}{Z:Nat->Nat}{st:St}{kn:TS->Option ρt}(h:TR Z T st)(he:zFm Φ tys false keep cls ops T kn=some res)
 (hk:∀T' ρ' st',TR ρ' T' st'->Inv (zlE ops) (zaM Φ ops) T T'->kn T'=some res->AW C k st'):AW C (.code (.reg keep ops):: k) st:=by
 refine AW.reg ?_;unfold zFm at he;split at he
 ·refine zmU hΦ ops _ T h he fun T' ρ' st' h' hi hκ=>AW.ops_end ?_;obtain⟨st2,g1,g2⟩:=h'.endT keep;exact g1.2 C _ (hk _ ρ' _ g2 (hi.trans (.endT _ _ _ _)) hκ)
 ·obtain⟨d,h1,h2⟩:=zau he;refine zmU hΦ ops _ T h h1 fun T' ρ' st' h' hi hκ=>?_;have hp:(zaM Φ ops&&noOw T.mem)=true->zaM Φ ops=true/\noOw T.mem=true:=fun e=>by simpa using e
  obtain⟨st2,ρ2,g1,g2,g3⟩:=zwW (tys:=tys) (p:=zaM Φ ops&&noOw T.mem) h' (fun e=>(hp e).2) (hi.mono (fun _ h=>h) fun e=>(hp e).1) hκ;exact AW.ops_end (g1.2 C _ (hk _ ρ2 _ g2 (g3.no fun e e'=>by rw[e,e'];rfl) h2))
theorem AW.wfd{keep ord anc cls:List Nat}{ops:List COp}{st:St}(h:wfD ops=true->AW C (.code (.regd keep ord anc cls ops):: k) st):AW C (.code (.regd keep ord anc cls ops):: k) st:=by
 intro H F β a w b cs todo hmi hr hn;have hwf:wfD ops=true:=by
  cases hmi with
  |code hcc hk=>
   rename_i c' k';cases c'<;>try(simp[chkC]at hcc;done)
   rename_i id os dr;cases dr<;>simp only[chkC,yhj]at hcc;exact(zyF hcc).wf
 exact h hwf H F β a w b cs todo hmi hr hn
theorem zvg(hm:C.P.follows .mixedOrders=true)(hΦ:∀e∈Φ,EOk C.P e){keep ord anc cls:List Nat}{ops:List COp}{T:TS}{Z:Nat->Nat}{st:St}{kn:TS->Option ρt}(h:TR Z T st)(he:zFm Φ tys true keep cls ops T kn=some res)
 (hk:∀T' ρ' st',TR ρ' T' st'->Inv (zlE ops) (zaM Φ ops) T T'->kn T'=some res->AW C k st'):AW C (.code (.regd keep ord anc cls ops):: k) st:=by
 refine AW.wfd fun hwf=>?_;unfold zFm at he;split at he
 ·obtain⟨R,gw,cr,_,_,_,hr⟩:=zmT hΦ ops cls (dnT T) T h hwf (fun r hr=>by cases hr) ⟨(fun p hp=>by cases hp),(fun p hp=>by cases hp)⟩ he;refine AW.regd hm (R.map Z) gw cr (zpG (fun st' hQ=>?_) ops cls st hr);obtain⟨T',ρ',h',hi,hκ⟩:=hQ;obtain⟨st2,g1,g2⟩:=h'.endT keep;exact g1.2 C _ (hk _ ρ' _ g2 (hi.trans (.endT _ _ _ _)) hκ)
 ·obtain⟨d,h1,h2⟩:=zau he;obtain⟨R,gw,cr,_,_,_,hr⟩:=zmT hΦ ops cls (dnT T) T h hwf (fun r hr=>by cases hr) ⟨(fun p hp=>by cases hp),(fun p hp=>by cases hp)⟩ h1;refine AW.regd hm (R.map Z) gw cr (zpG (fun st' hQ=>?_) ops cls st hr);obtain⟨T',ρ',h',hi,hκ⟩:=hQ;have hp:(zaM Φ ops&&noOw T.mem)=true->zaM Φ ops=true/\noOw T.mem=true:=fun e=>by simpa using e
  obtain⟨st2,ρ2,g1,g2,g3⟩:=zwW (tys:=tys) (p:=zaM Φ ops&&noOw T.mem) h' (fun e=>(hp e).2) (hi.mono (fun _ h=>h) fun e=>(hp e).1) hκ;exact g1.2 C _ (hk _ ρ2 _ g2 (g3.no fun e e'=>by rw[e,e'];rfl) h2)
end
end Go.Fw
namespace Go.Fw
open Go
variable [Pin]
theorem zzM{σ Z:Type}{b:σ->Option (σ⊕Z)}{s:σ}{r:Z}(h:zal b s=some r):∃n,zfA b n s=some r:=by
 rw[zwA]at h;split at h
 ·exact⟨_,h⟩
 ·cases h
theorem zpu{α β:Type}(g:α->β)(id:Nat):∀ex:List (Nat×α),zmK (ex.map fun q=>(q.1,g q.2)) id=(zmK ex id).map g
|[]=>rfl
| (m,v):: ex=>by
 simp only[List.map_cons,zmK];cases Nat.beq m id with
 |true=>rfl
 |false=>exact zpu g id ex
section
variable {Φ:List TE}{tys:List (Nat×An)}{C:Ctx}
theorem AW.inLp{body:CC}{k:List CItem}{st:St}(h:AW C (.code body:: .inLoop body:: k) st):AW C (.inLoop body:: k) st:=by
 intro H F β a w b cs todo hmi hr hn;cases hmi with
 |inLoop hc hk=>exact .steps (.one step_inLoop) (h H F β a w b cs _ (.code hc (.inLoop hc hk)) hr hn)
theorem AW.lp{r:Bool}{id:Nat}{ss ks:List Nat}{body:CC}{k:List CItem}{st:St}(h:AW C (.code body:: .inLoop body:: k) st):AW C (.code (.lp r id ss ks body):: k) st:=by
 intro H F β a w b cs todo hmi hr hn;cases hmi with
 |code hc hk=>rename_i c' k';cases c'<;>simp[chkC]at hc;exact .steps (.one step_loop) (h H F β a w b cs _ (.code hc (.inLoop hc hk)) hr hn)
theorem zrQ{D Y:Type}{b:D->Option (D⊕Y)}{y:Y}{k:List CItem}{body:CC}(S:D->St->Prop)
 (round:∀d st1 r,S d st1->b d=some r->(r=.inr y\/∃d',r=.inl d'/\∀st',S d' st'->AW C (.inLoop body:: k) st')->AW C (.code body:: .inLoop body:: k) st1):
 ∀(n:Nat) d st1,S d st1->zfA b n d=some y->AW C (.code body:: .inLoop body:: k) st1
 |0,d,st1,_,h=>by simp[zfA]at h
 |n+1,d,st1,hs,h=>by
  simp only[zfA]at h;split at h
  ·rename_i d' e;exact round d st1 _ hs e (.inr ⟨d',rfl,fun st' hs'=>AW.inLp (zrQ S round n d' st' hs' h)⟩)
  ·rename_i r e;cases h;exact round d st1 _ hs e (.inl rfl)
  ·cases h
theorem zaQ(hm:C.P.follows .mixedOrders=true)(hΦ:∀e∈Φ,EOk C.P e):∀(c:CC)(X:Type)(T:TS)(ex:List (Nat×(TS->Option X)))(rt kn:TS->Option X)(res:X)(k:List CItem)(Z:Nat->Nat)(st:St),TR Z T st->zkj Φ tys c X T ex rt kn=some res->
 (∀id κ,zmK ex id=some κ->∃k',zit id k=some k'/\∀T' ρ' st',TR ρ' T' st'->Inv (wrC c) (zch Φ c) T T'->κ T'=some res->AW C k' st')->
 (∀T' ρ' st' k',TR ρ' T' st'->rt T'=some res->AW C (.code .ret:: k') st')->
 (∀T' ρ' st',TR ρ' T' st'->Inv (wrC c) (zch Φ c) T T'->kn T'=some res->AW C k st')->AW C (.code c:: k) st
 |.skip,X,T,ex,rt,kn,res,k,Z,st,h,he,hex,hrt,hkn=>AW.skip (hkn T Z st h (.refl _ _ _) (by simpa[zkj]using he))
 |.reg keep ops,X,T,ex,rt,kn,res,k,Z,st,h,he,hex,hrt,hkn=>zxL hΦ h (by simpa[zkj]using he) hkn
 |.regd keep ord anc cls ops,X,T,ex,rt,kn,res,k,Z,st,h,he,hex,hrt,hkn=>zvg hm hΦ h (by simpa[zkj]using he) hkn
 |.seq a b,X,T,ex,rt,kn,res,k,Z,st,h,he,hex,hrt,hkn=>by
  simp only[zkj]at he;have ia:∀{T':TS},Inv (wrC a) (zch Φ a) T T'->Inv (wrC (.seq a b)) (zch Φ (.seq a b)) T T':=fun hi=>hi.mono (fun n hn=>by simp only[wrC,zbF,Bool.or_eq_false_iff]at hn;exact hn.1) (fun e=>by simp only[zch,yhb]at e;exact e.1)
  have ib:∀{T1 T':TS},Inv (wrC b) (zch Φ b) T1 T'->Inv (wrC (.seq a b)) (zch Φ (.seq a b)) T1 T':=fun hi=>hi.mono (fun n hn=>by simp only[wrC,zbF,Bool.or_eq_false_iff]at hn;exact hn.2) (fun e=>by simp only[zch,yhb]at e;exact e.2)
  refine AW.seq (zaQ hm hΦ a X T ex rt _ res (.code b:: k) Z st h he (fun id κ hl=>?_) hrt (fun T' ρ' st' h' hi hκ=>?_))
  ·obtain⟨k',h1,h2⟩:=hex id κ hl;exact⟨k',by simpa[zit]using h1,fun T' ρ' st' h' hi hκ=>h2 T' ρ' st' h' (ia hi) hκ⟩
  ·refine zaQ hm hΦ b X T' ex rt kn res k ρ' st' h' hκ (fun id κ hl=>?_) hrt (fun T'' ρ'' st'' h'' hi' hκ'=>hkn T'' ρ'' st'' h'' ((ia hi).trans (ib hi')) hκ');obtain⟨k',h1,h2⟩:=hex id κ hl;exact⟨k',h1,fun T'' ρ'' st'' h'' hi' hκ'=>h2 T'' ρ'' st'' h'' ((ia hi).trans (ib hi')) hκ'⟩
 |.cond c a b,X,T,ex,rt,kn,res,k,Z,st,h,he,hex,hrt,hkn=>by
  simp only[zkj]at he;split at he
  ·rename_i x hx;have hc:=h.ar c;rw[hx]at hc;simp only[VR]at hc;have ia:∀{T':TS},Inv (wrC a) (zch Φ a) T T'->Inv (wrC (.cond c a b)) (zch Φ (.cond c a b)) T T':=fun hi=>hi.mono (fun n hn=>by simp only[wrC,zbF,Bool.or_eq_false_iff]at hn;exact hn.1) (fun e=>by simp only[zch,yhb]at e;exact e.1)
   have ib:∀{T':TS},Inv (wrC b) (zch Φ b) T T'->Inv (wrC (.cond c a b)) (zch Φ (.cond c a b)) T T':=fun hi=>hi.mono (fun n hn=>by simp only[wrC,zbF,Bool.or_eq_false_iff]at hn;exact hn.2) (fun e=>by simp only[zch,yhb]at e;exact e.2)
   refine AW.cond hc (fun e=>?_) (fun e=>?_)
   ·subst e;refine zaQ hm hΦ a X T ex rt kn res k Z st h (by simpa[zab]using he) (fun id κ hl=>?_) hrt (fun T' ρ' st' h' hi hκ=>hkn T' ρ' st' h' (ia hi) hκ);obtain⟨k',h1,h2⟩:=hex id κ hl;exact⟨k',h1,fun T' ρ' st' h' hi hκ=>h2 T' ρ' st' h' (ia hi) hκ⟩
   ·subst e;refine zaQ hm hΦ b X T ex rt kn res k Z st h (by simpa[zab]using he) (fun id κ hl=>?_) hrt (fun T' ρ' st' h' hi hκ=>hkn T' ρ' st' h' (ib hi) hκ);obtain⟨k',h1,h2⟩:=hex id κ hl;exact⟨k',h1,fun T' ρ' st' h' hi hκ=>h2 T' ρ' st' h' (ib hi) hκ⟩
  ·cases he
 |.block id b,X,T,ex,rt,kn,res,k,Z,st,h,he,hex,hrt,hkn=>by
  simp only[zkj]at he;refine AW.block (zaQ hm hΦ b X T ((id,kn):: ex) rt kn res (.inBlock id:: k) Z st h he (fun i κ hl=>?_) hrt (fun T' ρ' st' h' hi hκ=>AW.inBlock (hkn T' ρ' st' h' hi hκ)));simp only[zmK]at hl;cases e:Nat.beq id i with
  |true=>rw[e]at hl;simp only[Option.some.injEq]at hl;subst hl;exact⟨k,by simp[zit,Nat.eq_of_beq_eq_true e],hkn⟩
  |false=>rw[e]at hl;obtain⟨k',h1,h2⟩:=hex i κ hl;exact⟨k',by simp[zit,Nat.ne_of_beq_eq_false e,h1],h2⟩
 |.exit id,X,T,ex,rt,kn,res,k,Z,st,h,he,hex,hrt,hkn=>by
  simp only[zkj]at he;split at he
  ·rename_i κ hl;obtain⟨k',h1,h2⟩:=hex id κ hl;exact AW.exit h1 (h2 T Z st h (.refl _ _ _) he)
  ·cases he
 |.ret,X,T,ex,rt,kn,res,k,Z,st,h,he,hex,hrt,hkn=>hrt T Z st k h (by simpa[zkj]using he)
 |.loop _,X,T,ex,rt,kn,res,k,Z,st,h,he,hex,hrt,hkn=>by simp[zkj]at he
 |.join b,X,T,ex,rt,kn,res,k,Z,st,h,he,hex,hrt,hkn=>by simp only[zkj]at he;refine AW.join (zaQ hm hΦ b X T ex rt kn res (.stop:: k) Z st h he (fun i κ hl=>?_) hrt (fun T' ρ' st' h' hi hκ=>AW.stop (hkn T' ρ' st' h' hi hκ)));obtain⟨k',h1,h2⟩:=hex i κ hl;exact⟨k',by simpa[zit]using h1,h2⟩
 |.own n es b,X,T,ex,rt,kn,res,k,Z,st,h,he,hex,hrt,hkn=>by
  simp only[zkj]at he;exact AW.wrap (x:=b) (fun c hc=>by simpa[chkC]using hc) (zaQ hm hΦ b X T ex rt kn res k Z st h he (fun i κ hl=>by
   obtain⟨k',h1,h2⟩:=hex i κ hl;exact⟨k',h1,fun T' ρ' st' h' hi hκ=>h2 T' ρ' st' h' (hi.mono (fun _ h=>h) (fun e=>by simp[zch]at e)) hκ⟩) hrt
   (fun T' ρ' st' h' hi hκ=>hkn T' ρ' st' h' (hi.mono (fun _ h=>h) (fun e=>by simp[zch]at e)) hκ))
 |.frz n es b,X,T,ex,rt,kn,res,k,Z,st,h,he,hex,hrt,hkn=>by
  have both:∀T1:TS,zkj Φ tys b X T1 ex rt kn=some res->(∃st1 ρ1,Gh st st1/\TR ρ1 T1 st1/\Inv (wrC b) false T T1)->AW C (.code (.frz n es b):: k) st:=by
   intro T1 he ⟨st1,ρ1,g1,g2,g3⟩;have up:∀{T':TS},Inv (wrC b) (zch Φ b) T1 T'->Inv (wrC (.frz n es b)) (zch Φ (.frz n es b)) T T':=fun hi=>(g3.trans (hi.mono (fun _ h=>h) (fun e=>by cases e))).mono (fun _ h=>h) (fun e=>by simp[zch]at e)
   refine AW.wrap (x:=b) (fun c hc=>by simpa[chkC]using hc) (g1.2 C _ (zaQ hm hΦ b X T1 ex rt kn res k ρ1 st1 g2 he (fun i κ hl=>?_) hrt (fun T' ρ' st' h' hi hκ=>hkn T' ρ' st' h' (up hi) hκ)));obtain⟨k',h1,h2⟩:=hex i κ hl;exact⟨k',h1,fun T' ρ' st' h' hi hκ=>h2 T' ρ' st' h' (up hi) hκ⟩
  simp only[zkj]at he;split at he
  ·refine both _ he ?_;unfold fzT;split
   ·exact⟨st,Z,.refl _,h,.refl _ _ _⟩
   ·obtain⟨st1,g1,g2⟩:=zph (zdJ T.mem 200 (lookV T.env n).refs []) h;refine⟨st1,Z,g1,g2,fun m hm hc=>.inl ?_,fun e _=>by cases e⟩;show lookV (T.env.map fun p=>(p.1,fzW T.mem _ p.2)) m=_;rw[zps (fzW T.mem _) (by simp[fzW,V.pur,fzV])];rcases hc with hc|hc|hc
    ·simp[fzW,hc]
    ·cases hv:lookV T.env m<;>rw[hv]at hc<;>simp[V.isJ]at hc;simp[fzW,V.pur,fzV]
    ·cases hc.1
  ·split at he
   ·split at he
    ·obtain⟨T1,ρ1,he,h1,e1⟩:=zwP h he;obtain⟨T2,ρ2,he,h2,e2⟩:=zwP h1 he;exact both _ he ⟨st,ρ2,.refl _,h2,fun m hm hc=>.inl (by rw[e2,e1]),fun e _=>by cases e⟩
    ·cases he
   ·split at he
    ·refine both _ he ?_;obtain⟨st1,ρ1,g1,g2⟩:=zF3 h n;refine⟨st1,ρ1,g1,g2,fun m hm hc=>.inl ?_,fun e _=>by cases e⟩;unfold owB;split
     ·split<;>rfl
     ·rfl
    ·refine both _ he ?_;obtain⟨st1,g1,g2⟩:=zCL (zdJ T.mem 200 (lookV T.env n).refs []) h;exact⟨st1,Z,g1,g2,fun m hm hc=>.inl rfl,fun e _=>by cases e⟩
 |.jn r ss ks b,X,T,ex,rt,kn,res,k,Z,st,h,he,hex,hrt,hkn=>by
  simp only[zkj]at he;split at he
  ·cases he
  ·rename_i hoff;have hpt:zb1 Φ b T=true->zch Φ b=true/\noOw T.mem=true:=fun e=>by simpa[zb1]using e
   have hno:zch Φ b=true->noOw T.mem=true->zb1 Φ b T=true:=fun e e'=>by simp[zb1,e,e']
   have up:∀{T':TS},Inv (wrC b) (zch Φ b) T T'->Inv (wrC (.jn r ss ks b)) (zch Φ (.jn r ss ks b)) T T':=fun hi=>hi.mono (fun n hn=>by simp only[wrC,zbF,Bool.or_eq_false_iff]at hn;exact hn.2) id
   have fin:∀(T':TS)(ρ':Nat->Nat)(st':St) d,TR ρ' T' st'->Inv (wrC b) (zch Φ b) T T'->zuS (zb1 Φ b T) (zgF (zb1 Φ b T) tys T ss ks) T ks T'=some d->
    kn (mkJ (zb1 Φ b T) (zgF (zb1 Φ b T) tys T ss ks) T ss ks d)=some res->AW C k st':=by
    intro T' ρ' st' d h' hi hd hκ;obtain⟨st2,ρ2,g1,g2⟩:=zmz (W:=ss++wrC b) (slots:=ss) h' (hi.mono (fun n hn=>by simp only[zbF,Bool.or_eq_false_iff]at hn;exact hn.2) id) (fun n hn=>zwL hoff hn) hpt rfl hd;exact g1.2 C _ (hkn _ ρ2 st2 g2 ((zrX (wrC b) d).no hno) hκ)
   refine AW.wrap (x:=b) (fun c hc=>by simpa[chkC]using hc) ?_;cases r with
   |false=>simp only at he;obtain⟨d,h1,h2⟩:=zau he;exact zaQ hm hΦ b _ T [] (fun _=>none) _ d k Z st h h1 (fun i κ hl=>by simp[zmK]at hl) (fun T' ρ' st' k' h' hκ=>by cases hκ) (fun T' ρ' st' h' hi hκ=>fin T' ρ' st' d h' hi hκ h2)
   |true=>
    simp only at he;obtain⟨x,h1,h2⟩:=zau he;refine zaQ hm hΦ b _ T _ _ _ x k Z st h h1 (fun i κ hl=>?_) (fun T' ρ' st' k' h' hκ=>?_) (fun T' ρ' st' h' hi hκ=>?_)
    ·rw[zpu (fun(q:TS->Option X)(T':TS)=>zaa (q T') fun x=>some (Sum.inr x:(zgF (zb1 Φ b T) tys T ss ks).D⊕X))]at hl;simp only[Option.map_eq_some_iff]at hl;obtain⟨q,hq,rfl⟩:=hl;obtain⟨k',g1,g2⟩:=hex i q hq;refine⟨k',g1,fun T' ρ' st' h' hi hκ=>?_⟩;obtain⟨y,e1,e2⟩:=zau hκ;cases e2;simp only[zav]at h2;cases h2;exact g2 T' ρ' st' h' (up hi) e1
    ·obtain⟨y,e1,e2⟩:=zau hκ;cases e2;simp only[zav]at h2;cases h2;exact hrt T' ρ' st' k' h' e1
    ·simp only[ygc]at hκ;obtain⟨d,e1,e2⟩:=hκ;cases e2;simp only[zav]at h2;exact fin T' ρ' st' d h' hi e1 h2
 |.lp r id ss ks b,X,T,ex,rt,kn,res,k,Z,st,h,he,hex,hrt,hkn=>by
  simp only[zkj]at he;split at he
  ·cases he
  ·rename_i κ hκ;obtain⟨kx,hx1,hx2⟩:=hex id κ hκ;split at he
   ·cases he
   ·rename_i hoff;have hpt:zb1 Φ b T=true->zch Φ b=true/\noOw T.mem=true:=fun e=>by simpa[zb1]using e
    have hno:zch Φ b=true->noOw T.mem=true->zb1 Φ b T=true:=fun e e'=>by simp[zb1,e,e']
    simp only[ygc]at he;obtain⟨d0,hd0,he⟩:=he;have joint:∀(T':TS)(ρ':Nat->Nat)(st':St) d,TR ρ' T' st'->Inv (ss++wrC b) (zch Φ b) T T'->zuS (zb1 Φ b T) (zgF (zb1 Φ b T) tys T ss ks) T ks T'=some d->
     ∃st2 ρ2,Gh st' st2/\TR ρ2 (mkJ (zb1 Φ b T) (zgF (zb1 Φ b T) tys T ss ks) T ss ks d) st2:=by
     intro T' ρ' st' d h' hi hd;exact zmz (W:=ss++wrC b) (slots:=ss) h' hi (fun n hn=>zwL hoff hn) hpt rfl hd
    have round:∀{T':TS}(d:(zgF (zb1 Φ b T) tys T ss ks).D),Inv (wrC b) (zch Φ b) (mkJ (zb1 Φ b T) (zgF (zb1 Φ b T) tys T ss ks) T ss ks d) T'->Inv (ss++wrC b) (zch Φ b) T T':=fun d hi=>((zrX (wrC b) d).no hno).trans (hi.mono (fun n hn=>by simp only[zbF,Bool.or_eq_false_iff]at hn;exact hn.2) (fun e=>e))
    have fin:∀(T':TS)(ρ':Nat->Nat)(st':St) d,TR ρ' T' st'->Inv (ss++wrC b) (zch Φ b) T T'->zuS (zb1 Φ b T) (zgF (zb1 Φ b T) tys T ss ks) T ks T'=some d->
     κ (mkJ (zb1 Φ b T) (zgF (zb1 Φ b T) tys T ss ks) T ss ks d)=some res->AW C kx st':=by
     intro T' ρ' st' d h' hi hd hk;obtain⟨st2,ρ2,g1,g2⟩:=joint T' ρ' st' d h' hi hd;exact g1.2 C _ (hx2 _ ρ2 st2 g2 ((zrX (wrC b) d).no hno) hk)
    have next:∀(T':TS)(ρ':Nat->Nat)(st':St) d,TR ρ' T' st'->Inv (ss++wrC b) (zch Φ b) T T'->zuS (zb1 Φ b T) (zgF (zb1 Φ b T) tys T ss ks) T ks T'=some d->
     (∀st2,(∃ρ2,TR ρ2 (mkJ (zb1 Φ b T) (zgF (zb1 Φ b T) tys T ss ks) T ss ks d) st2)->AW C (.inLoop b:: k) st2)->AW C (.inLoop b:: k) st':=by
     intro T' ρ' st' d h' hi hd hk;obtain⟨st2,ρ2,g1,g2⟩:=joint T' ρ' st' d h' hi hd;exact g1.2 C _ (hk st2 ⟨ρ2,g2⟩)
    obtain⟨st0,ρ0,g0,t0⟩:=joint T Z st d0 h (.refl _ _ _) hd0;refine AW.lp (g0.2 C _ ?_);cases r with
    |false=>
     simp only at he;obtain⟨y,hl,hy⟩:=zau he;obtain⟨n,hn⟩:=zzM hl;refine zrQ (fun d st1=>∃ρ1,TR ρ1 (mkJ (zb1 Φ b T) (zgF (zb1 Φ b T) tys T ss ks) T ss ks d) st1) (fun d st1 r hs hb hr=>?_) n d0 st0 ⟨ρ0,t0⟩ hn;obtain⟨ρ1,hs⟩:=hs;refine zaQ hm hΦ b _ _ _ (fun _=>none) _ r (.inLoop b:: k) ρ1 st1 hs hb (fun i κ' hl'=>?_) (fun T' ρ' st' k' h' hκ'=>by cases hκ') (fun T' ρ' st' h' hi hκ'=>?_)
     ·simp only[zmK]at hl';cases e:Nat.beq id i with
      |false=>rw[e]at hl';cases hl'
      |true=>
       rw[e]at hl';have e:=Nat.eq_of_beq_eq_true e;subst e;cases hl';refine⟨kx,by simpa[zit]using hx1,fun T' ρ' st' h' hi hκ'=>?_⟩;simp only[ygc]at hκ';obtain⟨d',e1,e2⟩:=hκ';cases e2;rcases hr with hr|⟨_,hr,_⟩
       ·cases hr;exact fin T' ρ' st' _ h' (round d hi) e1 hy
       ·cases hr
     ·simp only[ygc]at hκ';obtain⟨d',e1,e2⟩:=hκ';cases e2;rcases hr with hr|⟨d'',hr,hk⟩
      ·cases hr
      ·cases hr;exact next T' ρ' st' d' h' (round d hi) e1 hk
    |true=>
     simp only at he;obtain⟨y,hl,hy⟩:=zau he;obtain⟨n,hn⟩:=zzM hl;refine zrQ (fun d st1=>∃ρ1,TR ρ1 (mkJ (zb1 Φ b T) (zgF (zb1 Φ b T) tys T ss ks) T ss ks d) st1) (fun d st1 r hs hb hr=>?_) n d0 st0 ⟨ρ0,t0⟩ hn;obtain⟨ρ1,hs⟩:=hs;refine zaQ hm hΦ b _ _ _ _ _ r (.inLoop b:: k) ρ1 st1 hs hb (fun i κ' hl'=>?_) (fun T' ρ' st' k' h' hκ'=>?_) (fun T' ρ' st' h' hi hκ'=>?_)
     ·simp only[zmK]at hl';cases e:Nat.beq id i with
      |false=>
       rw[e]at hl';rw[zpu (fun(q:TS->Option X)(T':TS)=>zaa (q T') fun x=>some (Sum.inr (Sum.inr x):(zgF (zb1 Φ b T) tys T ss ks).D⊕((zgF (zb1 Φ b T) tys T ss ks).D⊕X)))]at hl';simp only[Option.map_eq_some_iff]at hl';obtain⟨q,hq,rfl⟩:=hl';obtain⟨k',g1,g2⟩:=hex i q hq;refine⟨k',by simpa[zit]using g1,fun T' ρ' st' h' hi hκ'=>?_⟩;obtain⟨z,e1,e2⟩:=zau hκ';cases e2;rcases hr with hr|⟨_,hr,_⟩
       ·cases hr;simp only[zav]at hy;cases hy;exact g2 T' ρ' st' h' (round d hi) e1
       ·cases hr
      |true=>
       rw[e]at hl';have e:=Nat.eq_of_beq_eq_true e;subst e;cases hl';refine⟨kx,by simpa[zit]using hx1,fun T' ρ' st' h' hi hκ'=>?_⟩;simp only[ygc]at hκ';obtain⟨d',e1,e2⟩:=hκ';cases e2;rcases hr with hr|⟨_,hr,_⟩
       ·cases hr;exact fin T' ρ' st' d' h' (round d hi) e1 (by simpa[zav]using hy)
       ·cases hr
     ·obtain⟨z,e1,e2⟩:=zau hκ';cases e2;rcases hr with hr|⟨_,hr,_⟩
      ·cases hr;simp only[zav]at hy;cases hy;exact hrt T' ρ' st' k' h' e1
      ·cases hr
     ·simp only[ygc]at hκ';obtain⟨d',e1,e2⟩:=hκ';cases e2;rcases hr with hr|⟨d'',hr,hk⟩
      ·cases hr
      ·cases hr;exact next T' ρ' st' d' h' (round d hi) e1 hk
end
end Go.Fw
namespace Go.Fw
open Go
def zsX(f:Func):Code:=match f.body with|some c=>c|none=>.skip
def chkF(P:Program)(fn:Func)(c:CC)(np:Nat)(rs:List RV):Bool:=
 fn.body.isSome&&chkC P fn.ntmps c (zsX fn)&&zC4 P fn.results.toList rs&&decide (np<=fn.ntmps)
structure FnOk (P:Program)(f:FuncId)(c:CC)(np:Nat)(rs:List RV):Prop where
 fn:∃fn,P.funcs[f]? =some fn/\chkF P fn c np rs=true
 call:∀as w,(callFunc f as).run P w=.ok (.enter f as) w
 mix:P.follows .mixedOrders=true
theorem zts:∀(s:Sh),s.pur=true->zf9 s .junk=none:=by intro s h;cases s<;>simp[Sh.pur]at h<;>simp[zf9,V.toL,V.to]
section
variable [Pin]{Z:Nat->Nat}{T:TS}{st:St}
theorem zB1(h:TR Z T st)(rv:RV)(hj:zf6 T rv≠.junk):∃a,VR Z T.mem (zf6 T rv) a/\∀(C:Ctx) rs acc,zp5 C rs (a:: acc) st->zp5 C (rv:: rs) acc st:=by
 cases rv with
 |t n=>exact⟨_,h.env n,fun C rs acc hh=>by simpa[zp5]using hh⟩
 |c n k=>
  have hn:=h.env n;cases k with
  |none=>
   simp only[zf6]at hj|-;split at hj
   ·rename_i r row off e;rw[e]at hn;split at hj
    ·rename_i b cs hr;simp only[VR,mpR,hr]at hn;obtain⟨h1,rfl⟩:=hn;obtain⟨as,g1,g2⟩:=h.box r b cs hr;split at hj
     ·rename_i c hc;obtain⟨a,a1,a2⟩:=g2.get off c hc;refine⟨a,by simpa only[e,hr,hc]using a2,fun C rs acc hh=>?_⟩;simp only[zp5,evK,zFs,h1,g1,List.getElem?_cons_zero,a1];exact⟨trivial,hh⟩
     ·exact absurd rfl hj
    ·exact absurd rfl hj
   ·rename_i c cs e;rw[e]at hn;simp only[VR,VRL]at hn;obtain⟨as,h1,a,as',rfl,g1,g2⟩:=hn;refine⟨a,by simpa only[e]using g1,fun C rs acc hh=>?_⟩;simp only[zp5,evK,zFs,h1,List.head?_cons];exact⟨trivial,hh⟩
   ·exact absurd rfl hj
  |some k=>
   simp only[zf6]at hj|-;split at hj
   ·rename_i r row off e;rw[e]at hn;split at hj
    ·rename_i b cs hr;simp only[VR,mpR,hr]at hn;obtain⟨h1,rfl⟩:=hn;obtain⟨as,g1,g2⟩:=h.box r b cs hr;split at hj
     ·rename_i hk;refine⟨.agg ((as.drop off).take k),?_,fun C rs acc hh=>?_⟩
      ·simp only[VR];exact⟨_,rfl,(g2.drop off).take k⟩
      ·simp only[zp5,evK,zFs,h1,g1,List.getElem?_cons_zero];exact⟨by rw[g2.len];exact Nat.le_of_ble_eq_true hk,hh⟩
     ·exact absurd rfl hj
    ·exact absurd rfl hj
   ·rename_i m x e;rw[e]at hn;simp only[VR]at hn;split at hj
    ·rename_i hk;have hk:=Nat.eq_of_beq_eq_true hk;refine⟨.agg (zga m x),by simp[VR],fun C rs acc hh=>?_⟩;simp only[zp5,evK,zFs,hn];have e1:(zga m x).take k=zga m x:=by rw[hk,<-zdH m x,List.take_length]
     rw[e1];exact⟨by rw[zdH,hk];exact Nat.le_refl _,hh⟩
    ·exact absurd rfl hj
   ·rename_i cs e;rw[e]at hn;simp only[VR]at hn;obtain⟨as,h1,g2⟩:=hn;split at hj
    ·rename_i hk;refine⟨.agg (as.take k),?_,fun C rs acc hh=>?_⟩
     ·simp only[VR];exact⟨_,rfl,g2.take k⟩
     ·simp only[zp5,evK,zFs,h1];exact⟨by rw[g2.len];exact Nat.le_of_ble_eq_true hk,hh⟩
    ·exact absurd rfl hj
   ·exact absurd rfl hj
theorem zpC(h:TR Z T st):∀(rs:List RV),(∀rv∈rs,zf6 T rv≠.junk)->∃as,VRL Z T.mem (rs.map (zf6 T)) as/\∀(C:Ctx) acc,C.R (zsn (acc.reverse++as)) st.mem->zp5 C rs acc st
|[],_=>⟨[],by simp[VRL],fun C acc hh=>by simpa[zp5]using hh⟩
|rv:: rs,hj=>by obtain⟨a,g1,g2⟩:=zB1 h rv (hj rv (by simp));obtain⟨as,g3,g4⟩:=zpC h rs fun rv' hr=>hj rv' (by simp[hr]);exact⟨a:: as,.cons g1 g3,fun C acc hh=>g2 C rs acc (g4 C (a:: acc) (by simpa using hh))⟩
theorem zDd{vs:List V}{as:List AV}(h:VRL Z T.mem vs as):VR Z T.mem (zui vs) (zsn as):=by
 match vs,as,h with
 |[],as,h=>simp only[VRL]at h;subst h;simp[zui,zsn,VR,VRL]
 |[v],as,h=>simp only[VRL]at h;obtain⟨a,_,rfl,h1,rfl⟩:=h;exact h1
 |v:: v':: vs,as,h=>
  have hl:=h.len;match as,hl with
  |a:: a':: as,_=>simp only[zui,zsn,VR];exact⟨_,rfl,h⟩
theorem zxX{s:Sh}{vs:List V}{d:Dat s}(hs:s.pur=true)(h:zf9 s (zui vs)=some d):∀v∈vs,v≠.junk:=by
 match vs,h with
 |[],_=>intro v hv;simp at hv
 |[v],h=>intro v' hv e;simp at hv;subst hv;subst e;rw[show zui [V.junk]=.junk from rfl,zts s hs]at h;cases h
 |v1:: v2:: vs,h=>
  have key:∀(ss:List Sh)(vs:List V)(d:DatL ss),Sh.purL ss=true->zdr ss vs=some d->∀v∈vs,v≠.junk:=by
   intro ss;induction ss with
   |nil=>intro vs d _ h;cases vs<;>simp[zdr]at h;intro v hv;simp at hv
   |cons s ss ih=>
    intro vs d hp h;cases vs with
    |nil=>simp[zdr]at h
    |cons v vs=>
     simp only[Sh.purL,yhb]at hp;simp only[zdr,ygc]at h;obtain⟨x,h1,y,h2,_⟩:=h;intro v' hv e;rcases List.mem_cons.1 hv with rfl|hv
     ·subst e;rw[zts s hp.1]at h1;cases h1
     ·exact ih vs y hp.2 h2 v' hv e
  rw[show zui (v1:: v2:: vs)=.tup (v1:: v2:: vs)from rfl]at h;cases s with
  |tup ss=>exact key ss _ d (by simpa[Sh.pur]using hs) h
  |no=>simp[Sh.pur]at hs
  |lst t=>simp[zf9,V.toL]at h
  |st n=>simp[zf9,V.to]at h
  |_=>simp[zf9]at h
end
theorem Spec.imp{P:Program}{f:FuncId}{args:List AV}{r:AV}(h:Spec P f args [] (fun r' _=>Imp r' r))(hr:r.pure=true):Spec P f args [] (fun r' m'=>r'=r/\m'=[]):=
 ⟨h.1,fun H F β cargs w hs hl ha=>(h.2 H F β cargs w hs hl ha).mono fun _ _ ⟨v,r',m',H',β',h1,h2,h3,h4,h5,h6,h7⟩=>by refine⟨v,r,[],H',[],h1,⟨rfl,rfl⟩,(h2 _ _ _ h3).pure hr _,?_,h5,fun i hi=>by simp at hi,by simp⟩;have:=Sat.drop (mem:=[]) (rest:=m') (by simpa using h4) (by simp);simpa using this⟩
theorem zoG:∀(l:List V)(n:Nat),(zhb n l).map (fun p=>p.2)=l
|[],_=>rfl
|v:: l,n=>by simp[zhb,zoG l (n+1)]
theorem zxW(ash:List Sh)(d:DatL (ash++([]:List RK).map RK.sh)):zt0 ash [] [] d=ze6 ash [] d:=by simp only[zt0,ze6,List.take_nil,mvRs,zoG]
theorem zBt{P:Program}{Φ:List TE}{tys:List (Nat×An)}{f:FuncId}{c:CC}{np:Nat}{rs:List RV}{ash:List Sh}{rsh:Sh}{d:DatL (ash++[].map RK.sh)}{r:DatL (rsh:: [].map RK.sh)}
 (hf:FnOk P f c np rs)(hn:ash.length=np)(hΦ:∀e∈Φ,EOk P e)(ha:Sh.purL ash=true)(hr:rsh.pur=true)(h:zth Φ tys c rs ash [] rsh [] d=some r):
 PS P f (encPL (mkVL (ash++[].map RK.sh) d)) (encP ((mkVL (rsh:: [].map RK.sh) r).headD .junk)):=by
 letI pin0:Pin:={nin:=0,ini:=[],len:=rfl}
 obtain⟨fn,h1,h2⟩:=hf.fn;unfold chkF at h2;simp only[yhb,yhc]at h2;obtain⟨⟨⟨h3,h4⟩,h5⟩,h6⟩:=h2;have hb:fn.body=some (zsX fn):=by
  unfold zsX;cases hfb:fn.body with
  |none=>rw[hfb]at h3;cases h3
  |some c=>rfl
 have hap:V.purL (mkVL (ash++[].map RK.sh) d)=true:=zjQ _ d (by simpa using ha);have hal:(encPL (mkVL (ash++[].map RK.sh) d)).length=np:=by rw[ztc,zgC];simpa using hn
 have hrv:((mkVL (rsh:: [].map RK.sh) r).headD .junk).pur=true:=zr3 rsh (DP.g1 rsh.hasD (Sh.hasDL ([].map RK.sh)) (df rsh) r) hr;have hrpure:(encP ((mkVL (rsh:: [].map RK.sh) r).headD .junk)).pure=true:=VR.pur (Z:=id) (mem:=[]) (zmt _ hrv) hrv;refine⟨VRL.pur (Z:=id) (mem:=[]) (zhV _ hap) hap,hrpure,Spec.imp (Spec.of_AW h1 hf.call hb h4 (by rw[hal];exact h6) (fun _ _ _=>Nat.zero_le _) ?_) hrpure⟩;have hst:TR id (ze6 ash [] d) ⟨zha 0 (encPL (mkVL (ash++[].map RK.sh) d)),[]⟩:=by
  have e1:(mkVL (ash++[].map RK.sh) d).take ash.length=mkVL (ash++[].map RK.sh) d:=List.take_of_length_le (by rw[zgC];simp);refine⟨fun n=>?_,fun r b cs hh=>?_,fun r b cs hh=>?_,fun r r' x x' hh=>?_,⟨fun _=>[],fun r t xs w hh=>?_,fun _ _=>rfl,fun _=>List.nodup_nil,fun _ _ _ i hi=>(by simp at hi),fun _ _ _ _ _ hi=>(by simp at hi)⟩,fun j hj=>absurd hj (Nat.not_lt_zero j)⟩
  ·simp only[ze6,e1];exact(zlA (Z:=id) _ _ 0 (zhV _ hap)).look n
  all_goals simp[ze6,zjb]at hh
 have fin:∀(C:Ctx) T' ρ' st',C.R=(fun r' _=>Imp r' (encP ((mkVL (rsh:: [].map RK.sh) r).headD .junk)))->TR ρ' T' st'->zFd rs rsh [] T'=some r->∃st1,Gh st' st1/\zp5 C rs [] st1:=by intro C T' ρ' st' hC h' hfin;simp only[zFd,zlV]at hfin;obtain⟨st1,g1,g2⟩:=zph (zbx 0 T'.mem.length) h';simp only[zdr,ygc]at hfin;obtain⟨x,x1,y,y1,y2⟩:=hfin;have hjunk:∀rv∈rs,zf6 (fzO (zbx 0 T'.mem.length) T') rv≠.junk:=fun rv hrv=>zxX hr x1 _ (List.mem_map.2 ⟨rv,hrv,rfl⟩);obtain⟨as,q1,q2⟩:=zpC g2 rs hjunk;obtain⟨a',z1,z2,_⟩:=zuT rsh _ x _ x1 (zDd q1);refine⟨st1,g1,q2 C [] ?_⟩;rw[hC];simp only[List.reverse_nil,List.nil_append];cases y2;rw[zpy,List.headD_cons,<-zul z1 (zr3 rsh x hr)];exact z2.1
 unfold zth at h;rw[zxW]at h;refine zaQ (C:=⟨P,fn,(([]:List Ent)).length,_⟩) hf.mix hΦ c _ _ [] _ _ r [] id _ hst h (fun id κ hl=>by simp[zmK]at hl) (fun T' ρ' st' k' h' hκ=>?_) (fun T' ρ' st' h' _ hκ=>?_)
 ·obtain⟨st1,g1,g2⟩:=fin ⟨P,fn,(([]:List Ent)).length,_⟩ T' ρ' st' rfl h' hκ;exact g1.2 _ _ (AW.ret h5 g2)
 ·obtain⟨st1,g1,g2⟩:=fin ⟨P,fn,(([]:List Ent)).length,_⟩ T' ρ' st' rfl h' hκ;exact g1.2 _ _ (AW.fall h5 g2)
end Go.Fw
namespace Go.Fw
open Go
theorem Sat.pull{H:Hp}{F:Fr}{β:Bt}{m mC:List Ent}{w:World}{g:Nat->Nat}(hs:Sat H F β m w)(hent:∀(i:Nat)(e:Ent),mC[i]? =some e->e.live=true->m[g i]? =some (e.ren g))(hbel:∀e∈mC,e.bel mC.length)
 (hinj:∀(i i':Nat)(e e':Ent),mC[i]? =some e->e.live=true->mC[i']? =some e'->e'.live=true->g i=g i'->i=i'):
 Sat H F ((List.range mC.length).map fun i=>(β[g i]?).getD none) mC w/\∀(i:Nat) y,i<mC.length->β[g i]? =some y->((List.range mC.length).map fun i=>(β[g i]?).getD none)[i]? =some y:=by
 have hβ:∀(i:Nat) y,i<mC.length->β[g i]? =some y->((List.range mC.length).map fun i=>(β[g i]?).getD none)[i]? =some y:=fun i y hi hy=>by simp[hi,hy]
 have back:∀(i:Nat)(e:Ent),mC[i]? =some e->e.live=true->∀x,((List.range mC.length).map fun i=>(β[g i]?).getD none)[i]? =some x->β[g i]? =some x:=fun i e hi he x hx=>by
  have h1:=hent i e hi he;have h2:g i<β.length:=by rw[hs.hl];exact(yga.1 h1).1
  have h3:β[g i]? =some β[g i]:=ygb h2;have:=hβ i _ (yga.1 hi).1 h3;rw[this]at hx;rw[h3];exact hx
 refine⟨{hH:=hs.hH,hF:=hs.hF,sm:=hs.sm,hl:=by simp,ent:=fun i e x hi hx=>?_,apart:=fun i e x hi he hx=>?_,inj:=fun i i' e e' x y hi he hi' he' hx hy hxy=>?_},hβ⟩
 ·cases hl:e.live with
  |false=>cases e<;>simp[Ent.live]at hl;trivial
  |true=>exact(hs.ent _ _ x (hent i e hi hl) (back i e hi hl x hx)).unren (hbel e (ygd hi)) hβ
 ·exact hs.apart _ _ x (hent i e hi he) (by rw[Ent.live_ren];exact he) (back i e hi he _ hx)
 ·exact hinj i i' e e' hi he hi' he' (hs.inj _ _ _ _ x y (hent i e hi he) (by rw[Ent.live_ren];exact he) (hent i' e' hi' he') (by rw[Ent.live_ren];exact he') (back i e hi he _ hx) (back i' e' hi' he' _ hy) hxy)
theorem Spec.post{P:Program}{f:FuncId}{args:List AV}{mem:List Ent}{R R2:AV->List Ent->Prop}(h:Spec P f args mem R)
 (hp:∀(F:Fr)(H':Hp)(β β':Bt) r m v w',R r m->Sat H' F β' m w'->Rep H' β' r v->zA7 mem.length β β'->β.length=mem.length->mem.length<=m.length->
  ∃r2 m2 β2,R2 r2 m2/\Rep H' β2 r2 v/\Sat H' F β2 m2 w'/\zA7 mem.length β β2/\mem.length<=m2.length):Spec P f args mem R2:=
 ⟨h.1,fun H F β cargs w hs hl ha=>(h.2 H F β cargs w hs hl ha).mono fun _ _ ⟨v,r,m',H',β',h1,h2,h3,h4,h5,h6,h7⟩=>by obtain⟨r2,m2,β2,q1,q2,q3,q4,q5⟩:=hp F H' β β' r m' v _ h2 h4 h3 h6 hs.hl h7;exact⟨v,r2,m2,H',β2,h1,q1,q2,q3,h5,q4,q5⟩⟩
theorem AW.len{C:Ctx}{k:List CItem}{st:St}(h:C.n0<=st.mem.length->AW C k st):AW C k st:=
 fun H F β a w b cs todo hm hr hn=>h hn H F β a w b cs todo hm hr hn
theorem zqU:∀(s:Sh),s≠.no->zf9 s .junk=none:=by intro s h;cases s<;>first|exact absurd rfl h|simp[zf9,V.toL,V.to]
theorem zDc{rk:List RK}{s:Sh}(h:s.sol rk=true):s≠.no:=by rintro rfl;simp[Sh.sol]at h
theorem zB5{f:Nat->Nat}{v:V}:v.ren f=.junk↔v=.junk:=by cases v<;>simp[V.ren]
theorem znu{rk:List RK}:∀(ss:List Sh)(vs:List V)(d:DatL ss),Sh.solL rk ss=true->zdr ss vs=some d->∀v∈vs,v≠.junk
|[],vs,d,_,h=>by cases vs<;>simp[zdr]at h;intro v hv;simp at hv
|s:: ss,[],d,hp,h=>by simp[zdr]at h
|s:: ss,v:: vs,d,hp,h=>by
 simp only[Sh.solL,yhb]at hp;simp only[zdr,ygc]at h;obtain⟨x,h1,y,h2,_⟩:=h;intro v' hv e;rcases List.mem_cons.1 hv with rfl|hv
 ·subst e;rw[zqU s (zDc hp.1)]at h1;cases h1
 ·exact znu ss vs y hp.2 h2 v' hv e
theorem zvv{rk:List RK}{s:Sh}{f:Nat->Nat}{vs:List V}{d:Dat s}(hs:s.sol rk=true)(h:zf9 s ((zui vs).ren f)=some d):∀v∈vs,v≠.junk:=by
 match vs,h with
 |[],_=>intro v hv;simp at hv
 |[v],h=>intro v' hv e;simp at hv;subst hv;subst e;rw[show zui [V.junk]=.junk from rfl,show V.ren f .junk=.junk from rfl,zqU s (zDc hs)]at h;cases h
 |v1:: v2:: vs,h=>
  rw[show(zui (v1:: v2:: vs)).ren f=.tup (V.renL f (v1:: v2:: vs))from rfl]at h;cases s with
  |tup ss=>
   have:=znu ss _ d (by simpa[Sh.sol]using hs) h;intro v hv e;have key:∀(l:List V),v∈l->v.ren f∈V.renL f l:=by
    intro l;induction l with
    |nil=>intro h;simp at h
    |cons a l ih=>
     intro h;simp only[V.renL];rcases List.mem_cons.1 h with rfl|h
     ·simp
     ·simp[ih h]
   exact this _ (key _ hv) (zB5.2 e)
  |no=>simp[Sh.sol]at hs
  |lst t=>simp[zf9,V.toL]at h
  |st n=>simp[zf9,V.to]at h
  |_=>simp[zf9]at h
section
variable [Pin]
mutual
theorem VR.rn{Z ρ':Nat->Nat}{mem mem':List Root}{f:Nat->Nat}(hf:∀(r:Nat) x,mem[r]? =some x->mem'[f r]? =some (x.ren f)/\(x.alive=true->ρ' (f r)=Z r)):∀(v:V)(a:AV),VR Z mem v a->VR ρ' mem' (v.ren f) a
|.own r,a,h=>by
 simp only[V.ren,VR,zj2]at h|-;cases e:mem[r]? with
 |none=>rw[e]at h;exact h.elim
 |some x=>
  rw[e]at h;obtain⟨h1,h2⟩:=hf r x e;rw[h1];cases x with
  |dead=>exact h
  |arr t xs w=>simp only[Root.ren]at h|-;rw[h2 rfl];exact h
  |box b cs=>exact h
|.part r off len,a,h=>by
 simp only[V.ren,VR,zkN]at h|-;cases e:mem[r]? with
 |none=>rw[e]at h;exact h.elim
 |some x=>
  rw[e]at h;obtain⟨h1,h2⟩:=hf r x e;rw[h1];cases x with
  |dead=>exact h
  |arr t xs w=>simp only[Root.ren]at h|-;rw[h2 rfl];exact h
  |box b cs=>exact h
|.mp r row off,a,h=>by
 simp only[V.ren,VR,mpR]at h|-;cases e:mem[r]? with
 |none=>rw[e]at h;exact h.elim
 |some x=>
  rw[e]at h;obtain⟨h1,h2⟩:=hf r x e;rw[h1];cases x with
  |dead=>exact h
  |arr t xs w=>simp only[Root.ren]at h|-;rw[h2 rfl];exact h
  |box b cs=>simp only[Root.ren]at h|-;rw[h2 rfl];exact h
|.agg cs,a,h|.tup cs,a,h|.ip cs,a,h|.fn _ cs,a,h=>by simp only[V.ren,VR]at h|-;obtain⟨as,rfl,h⟩:=h;exact⟨as,rfl,VRL.rn hf cs as h⟩
|.junk,_,h|.int _ _,_,h|.bool _,_,h|.str _,_,h|.lst _ _,_,h|.nl _,_,h|.e0,_,h|.st _ _,_,h|.ep _ _,_,h|.nilp,_,h|.nilf,_,h=>by simpa[V.ren,VR]using h
theorem VRL.rn{Z ρ':Nat->Nat}{mem mem':List Root}{f:Nat->Nat}(hf:∀(r:Nat) x,mem[r]? =some x->mem'[f r]? =some (x.ren f)/\(x.alive=true->ρ' (f r)=Z r)):∀(cs:List V)(as:List AV),VRL Z mem cs as->VRL ρ' mem' (V.renL f cs) as
|[],as,h=>by simpa[V.renL,VRL]using h
|c:: cs,as,h=>by simp only[VRL]at h;obtain⟨a,as',rfl,h1,h2⟩:=h;simp only[V.renL];exact .cons (VR.rn hf c a h1) (VRL.rn hf cs as' h2)
end
theorem ztt:∀{mem:List Root}{r:Nat}{t:Ty}{xs:List (TV t)}{w:Ow},zp9 mem=false->mem[r]? =some (.arr t xs w)->w.shut=true
|[],r,t,xs,w,_,h=>by simp at h
|x:: mem,0,t,xs,w,hn,h=>by simp at h;subst h;cases w<;>simp[zp9]at hn|-<;>rfl
|x:: mem,r+1,t,xs,w,hn,h=>by
 refine ztt (mem:=mem) (r:=r) ?_ (by simpa using h);cases x with
 |dead=>exact hn
 |arr _ _ w'=>cases w'<;>simp[zp9]at hn|-<;>exact hn
 |box _ _=>exact hn
theorem TR.mvR{Z:Nat->Nat}{v:V}{a:AV}{mem:List Root}{m:List Ent}(j:Nat)(h:TR Z ⟨[(0,v)],mem⟩ ⟨[(0,a)],m⟩):∃ρ',TR ρ' ⟨[(0,(Go.Fw.mvR j v mem).1)],(Go.Fw.mvR j v mem).2⟩ ⟨[(0,a)],m⟩:=by
 unfold Go.Fw.mvR;split
 ·exact⟨Z,h⟩
 ·exact⟨Z,h⟩
 ·rename_i x hnd hx;split
  ·exact⟨Z,h⟩
  ·rename_i hop;have hjl:=(yga.1 hx).1;have hxa:x.alive=true:=by
    cases x with
    |dead=>exact absurd rfl hnd
    |arr _ _ _=>rfl
    |box _ _=>rfl
   let f:=rnm j mem.length;let mem':=(mem.set j .dead++[x]).map (Root.ren f);let ρ':Nat->Nat:=fun r=>if r=mem.length then Z j else Z r
   have fj:f j=mem.length:=by simp only[f,rnm,Nat.beq_refl]
   have fne:∀r,r≠j->f r=r:=fun r hr=>by
    simp only[f,rnm];cases e:Nat.beq r j with
    |true=>exact absurd (Nat.eq_of_beq_eq_true e) hr
    |false=>rfl
   have hf:∀(r:Nat) y,mem[r]? =some y->mem'[f r]? =some (y.ren f)/\(y.alive=true->ρ' (f r)=Z r):=by
    intro r y hy;have hrl:=(yga.1 hy).1;by_cases e:r=j
    ·subst e;rw[hx]at hy;cases hy;rw[fj];exact⟨by simp[mem',ygf],fun _=>by simp only[ρ',if_pos rfl]⟩
    ·rw[fne r e];refine⟨?_,fun _=>by simp only[ρ'];rw[if_neg (by omega)]⟩;simp only[mem',List.getElem?_map];rw[yge (by simpa using hrl),ygg (fun h=>e h.symm),hy];rfl
   have back:∀(r:Nat) z,mem'[r]? =some z->z.alive=true->∃q y,mem[q]? =some y/\y.alive=true/\r=f q/\z=y.ren f/\ρ' r=Z q:=by
    intro r z hz ha;simp only[mem',List.getElem?_map,Option.map_eq_some_iff]at hz;obtain⟨y,hy,rfl⟩:=hz;by_cases hr:r<mem.length
    ·rw[yge (by simpa using hr)]at hy;by_cases e:r=j
     ·subst e;simp[hjl]at hy;subst hy;cases ha
     ·rw[ygg (fun h=>e h.symm)]at hy;refine⟨r,y,hy,?_,(fne r e).symm,rfl,by simp only[ρ'];rw[if_neg (by omega)]⟩;cases y<;>first|exact ha|rfl
    ·rw[ygf (by simp;omega)]at hy;have hrl:r=mem.length:=by have:=(yga.1 hy).1;simp at this;omega
     subst hrl;simp at hy;subst hy;exact⟨j,x,hx,hxa,fj.symm,rfl,by simp only[ρ',if_pos rfl]⟩
   have finj:∀q q',q<mem.length->q'<mem.length->f q=f q'->q=q':=by
    intro q q' hq hq' e;by_cases a:q=j<;>by_cases b:q'=j
    ·rw[a,b]
    ·subst a;rw[fj,fne q' b]at e;omega
    ·subst b;rw[fj,fne q a]at e;omega
    ·rw[fne q a,fne q' b]at e;exact e
   obtain⟨fp,how⟩:=h.ow;refine⟨ρ',fun n=>?_,fun r b cs hr=>?_,fun r b cs hr=>?_,fun r r' y y' hr hy hr' hy' e=>?_,⟨fun r=>if r=mem.length then fp j else if r=j then[]else fp r,fun r t xs w hr=>?_,fun r hr=>?_,fun r=>?_,fun r r' hne i hi hi'=>?_,fun r r' y hr hy hi=>?_⟩,fun k hk=>?_⟩
   ·have:=h.env n;simp only[lookV,look]at this|-;cases e:Nat.beq 0 n with
    |true=>rw[e,if_pos (Nat.eq_of_beq_eq_true e)]at this;rw[if_pos (Nat.eq_of_beq_eq_true e)];exact VR.rn hf v a this
    |false=>rw[if_neg (Nat.ne_of_beq_eq_false e)];simp[VR]
   ·obtain⟨q,y,hq,hya,rfl,hz,hρ⟩:=back r _ hr rfl;cases y with
    |dead=>cases hz
    |arr _ _ _=>cases hz
    |box b' cs'=>simp only[Root.ren]at hz;cases hz;obtain⟨as,g1,g2⟩:=h.box q b cs' hq;refine⟨as,?_,VRL.rn hf _ _ g2⟩;show m[ρ' (f q)]? =_;rw[hρ,zh2];exact g1
   ·obtain⟨q,y,hq,hya,rfl,hz,hρ⟩:=back r _ hr rfl;cases y with
    |dead=>cases hz
    |arr _ _ _=>cases hz
    |box b' cs'=>simp only[Root.ren]at hz;cases hz;exact zsd f cs' (h.boxC q b cs' hq)
   ·obtain⟨q,z,hq,hza,rfl,_,hρ⟩:=back r _ hr hy;obtain⟨q',z',hq',hza',rfl,_,hρ'⟩:=back r' _ hr' hy';rw[hρ,hρ']at e;rw[h.inj q q' z z' hq hza hq' hza' e]
   ·obtain⟨q,y,hq,hya,hrq,hz,hρ⟩:=back r _ hr rfl;cases y with
    |dead=>cases hz
    |box _ _=>cases hz
    |arr t' xs' w'=>
     cases hz;have hql:=(yga.1 hq).1;rw[hρ];have e:(if r=mem.length then fp j else if r=j then[]else fp r)=fp q:=by
      by_cases a:q=j
      ·subst a;rw[hrq,fj,if_pos rfl]
      ·rw[hrq,fne q a,if_neg (by omega),if_neg a]
     rw[e];exact(how.rel q t xs w hq).shut (ztt hop hq)
   ·split
    ·rename_i e;subst e;refine how.nil j fun t xs w he=>?_;rw[hx]at he;cases he;exact hr t xs w (by simp[mem',ygf,Root.ren])
    ·split
     ·rfl
     ·rename_i e1 e2;refine how.nil r fun t xs w he=>?_;have:=(hf r _ he).1;rw[fne r e2]at this;exact hr t xs w this
   ·split
    ·exact how.nd j
    ·split
     ·exact List.nodup_nil
     ·exact how.nd r
   ·have key:∀r i,i∈(if r=mem.length then fp j else if r=j then[]else fp r)->∃q,i∈fp q/\((r=mem.length/\q=j)\/(r≠mem.length/\r≠j/\q=r)):=by
     intro r i hi;split at hi
     ·rename_i e;exact⟨j,hi,.inl ⟨e,rfl⟩⟩
     ·split at hi
      ·simp at hi
      ·rename_i e1 e2;exact⟨r,hi,.inr ⟨e1,e2,rfl⟩⟩
    obtain⟨q,q1,q2⟩:=key r i hi;obtain⟨q',q1',q2'⟩:=key r' i hi';have hqq:q≠q':=by rintro rfl;omega
    exact how.dj q q' hqq i q1 q1'
   ·obtain⟨q,z,hq,hza,rfl,_,hρ⟩:=back r _ hr hy;rw[hρ]at hi;split at hi
    ·exact how.rt q j z hq hza hi
    ·split at hi
     ·simp at hi
     ·exact how.rt q r' z hq hza hi
   ·obtain⟨p1,p2⟩:=h.pin k hk;have hkl:∃y,mem[k]? =some y:=by
     cases e:mem[k]? with
     |some y=>exact⟨y,rfl⟩
     |none=>
      have p2:KpA (Pin.ini[k]?) (mem[k]?):=p2;rw[e]at p2;cases hi:Pin.ini[k]? with
      |none=>rw[hi]at p2;exact p2.elim
      |some z=>rw[hi]at p2;cases z<;>simp[KpA]at p2
    obtain⟨y,hy⟩:=hkl;have hkl:=(yga.1 hy).1;have p2:KpA (Pin.ini[k]?) (mem[k]?):=p2;show(∀x,mem'[k]? =some x->x.alive=true->ρ' k=k)/\KpA (Pin.ini[k]?) (mem'[k]?);by_cases e:k=j
    ·subst e;have hd:mem'[k]? =some .dead:=by simp only[mem',List.getElem?_map];rw[yge (by simpa using hjl),List.getElem?_set_self hjl];rfl
     rw[hd];refine⟨fun x hx ha=>(by cases hx;cases ha),?_⟩;revert p2
     cases Pin.ini[k]? with
     |none=>exact id
     |some z=>cases z with
      |dead=>intro _;rfl
      |arr _ _ _=>intro _;exact .inl rfl
      |box _ _=>intro _;exact .inl rfl
    ·have:=(hf k y hy).1;rw[fne k e]at this;rw[this];refine⟨fun x hx ha=>?_,?_⟩
     ·simp only[ρ'];rw[if_neg (by omega)];cases hx;exact p1 y hy (by cases y<;>first|exact ha|rfl)
     ·rw[hy]at p2;cases y with
      |dead=>exact p2
      |arr _ _ _=>exact p2
      |box b cs=>
       simp only[Root.ren];revert p2
       cases Pin.ini[k]? with
       |none=>exact id
       |some z=>cases z with
        |dead=>intro h;cases h
        |arr _ _ _=>intro h;rcases h with h|⟨_,_,h,_⟩<;>cases h
        |box _ _=>intro _;exact .inr ⟨_,_,rfl⟩
theorem TR.mvRs:∀(ks:List RK)(j:Nat){Z:Nat->Nat}{v:V}{a:AV}{mem:List Root}{m:List Ent},TR Z ⟨[(0,v)],mem⟩ ⟨[(0,a)],m⟩->∃ρ',TR ρ' ⟨[(0,(Go.Fw.mvRs j ks v mem).1)],(Go.Fw.mvRs j ks v mem).2⟩ ⟨[(0,a)],m⟩
|[],j,Z,v,a,mem,m,h=>⟨Z,h⟩
|.dead:: ks,j,Z,v,a,mem,m,h=>by obtain⟨ρ1,h1⟩:=h.mvR j;exact TR.mvRs ks (j+1) h1
|.arr _ _:: ks,j,Z,v,a,mem,m,h=>TR.mvRs ks (j+1) h
|.box _ _:: ks,j,Z,v,a,mem,m,h=>TR.mvRs ks (j+1) h
theorem zEl(j:Nat)(v:V)(mem:List Root):∃f,(Go.Fw.mvR j v mem).1=v.ren f\/(Go.Fw.mvR j v mem).1=v:=by
 unfold Go.Fw.mvR;split
 ·exact⟨id,.inr rfl⟩
 ·exact⟨id,.inr rfl⟩
 ·split
  ·exact⟨id,.inr rfl⟩
  ·exact⟨_,.inl rfl⟩
mutual
theorem zvi(f g:Nat->Nat):∀v:V,(v.ren f).ren g=v.ren fun r=>g (f r)
|.own _|.part ..|.mp ..=>rfl
|.agg cs|.tup cs|.ip cs|.fn _ cs=>by simp only[V.ren];rw[ztQ f g cs]
|.junk|.int _ _|.bool _|.str _|.lst _ _|.nl _|.e0|.st _ _|.ep _ _|.nilp|.nilf=>rfl
theorem ztQ(f g:Nat->Nat):∀cs:List V,V.renL g (V.renL f cs)=V.renL (fun r=>g (f r)) cs
|[]=>rfl
|c:: cs=>by simp only[V.renL];rw[zvi f g c,ztQ f g cs]
end
mutual
theorem zC3:∀v:V,v.ren id=v
|.own _|.part ..|.mp ..=>rfl
|.agg cs|.tup cs|.ip cs|.fn _ cs=>by simp only[V.ren];rw[zAd cs]
|.junk|.int _ _|.bool _|.str _|.lst _ _|.nl _|.e0|.st _ _|.ep _ _|.nilp|.nilf=>rfl
theorem zAd:∀cs:List V,V.renL id cs=cs
|[]=>rfl
|c:: cs=>by simp only[V.renL];rw[zC3 c,zAd cs]
end
theorem zl3:∀(ks:List RK)(j:Nat)(v:V)(mem:List Root),∃f,(Go.Fw.mvRs j ks v mem).1=v.ren f
|[],j,v,mem=>⟨id,(zC3 v).symm⟩
|.dead:: ks,j,v,mem=>by
 obtain⟨f,hf⟩:=zEl j v mem;obtain⟨g,hg⟩:=zl3 ks (j+1) (Go.Fw.mvR j v mem).1 (Go.Fw.mvR j v mem).2;simp only[Go.Fw.mvRs];rcases hf with hf|hf
 ·exact⟨_,by rw[hg,hf,zvi]⟩
 ·exact⟨g,by rw[hg,hf]⟩
|.arr _ _:: ks,j,v,mem=>zl3 ks (j+1) v mem
|.box _ _:: ks,j,v,mem=>zl3 ks (j+1) v mem
theorem TR.end{Z:Nat->Nat}{T:TS}{m:List Ent}{F0:Nat}{rv:V}{r' a':AV}{env':List (Nat×AV)}{H':Hp}{F:Fr}{β β':Bt}{w':World}{v:Value}(h:TR Z T ⟨env',m⟩)(hok:OkRs T.mem)(hsol:rv.sol T.mem=true)(hv:VR Z T.mem rv a')(himp:ImpC r' a')
 (hn1:Nin.nin<=T.mem.length)(hn2:Nin.nin<=F0)(hF:F0<=m.length)(hs:Sat H' F β' m w')(hr:Rep H' β' r' v)(hb:zA7 F0 β β')(hbl:β.length=F0):
 ∃β2,Rep H' β2 (encR (rhoC Nin.nin F0) T.mem rv) v/\Sat H' F β2 (endM Nin.nin F0 T.mem) w'/\zA7 F0 β β2/\F0<=(endM Nin.nin F0 T.mem).length:=by
 obtain⟨fp,how⟩:=h.ow;let nin:=@Nin.nin Pin.toNin;let B:=F0+(T.mem.length-nin);let g:Nat->Nat:=fun i=>if i<F0 then i else if i<B then Z (i-F0+nin)else(zpe fp T.mem.length).getD (i-B) 0
 have hg1:∀(r:Nat) x,T.mem[r]? =some x->x.alive=true->g (rhoC nin F0 r)=Z r:=by
  intro r x hx ha;have hrl:=(yga.1 hx).1;by_cases hrn:r<nin
  ·have e:rhoC nin F0 r=r:=by simp only[rhoC,if_pos hrn]
   rw[e];simp only[g];rw[if_pos (by omega)];exact((h.pin r hrn).1 x hx ha).symm
  ·have e:rhoC nin F0 r=F0+(r-nin):=by simp only[rhoC,if_neg hrn]
   rw[e];simp only[g];rw[if_neg (by omega),if_pos (by omega)];congr 1;omega
 have hg2:∀(k j:Nat),(zpe fp T.mem.length)[k]? =some j->g (F0+(T.mem.length-nin)+k)=j:=by intro k j hk;simp only[g];rw[if_neg (by omega),if_neg (by omega),show F0+(T.mem.length-nin)+k-B=k by omega,List.getD_eq_getElem?_getD,hk];rfl
 obtain⟨act,feet,lens⟩:=zwb (nin:=nin) (F:=F0) hn1 hn2 hok how h.box hg1 hg2;have owC:=zlM (nin:=nin) (F:=F0) hn1 hn2 hok;have hbel:=zwc (nin:=nin) (F:=F0) hn1 hn2 hok;have hml:=zlN (nin:=nin) (F:=F0) hn1 hn2;have kind:∀(i:Nat)(e:Ent),(endM nin F0 T.mem)[i]? =some e->e.live=true->(∃r x,T.mem[r]? =some x/\x.alive=true/\i=rhoC nin F0 r/\g i=Z r)\/∃(r k j:Nat),(fpC nin F0 T.mem r)[k]? =some i/\(fp r)[k]? =some j/\g i=j:=by
  intro i e hi he;rcases zjH hn1 hn2 hi with⟨r,x,hx,rfl⟩|⟨rfl,_⟩|⟨k,rfl,hk⟩
  ·by_cases ha:x.alive=true
   ·exact .inl ⟨r,x,hx,ha,rfl,hg1 r x hx ha⟩
   ·exfalso;rw[zeG hn1 hn2 (yga.1 hx).1]at hi;obtain⟨k,q1,_⟩:=za4 (Z:=rhoC nin F0) (mem:=T.mem) T.mem (F0+(T.mem.length-nin)) r x hx;rw[q1]at hi;cases hi;cases x<;>simp[Root.alive]at ha;simp[za2]at he
  ·simp at he
  ·have hkl:=(yga.1 hk).1;have hm:F0+(T.mem.length-nin)+k∈(zaw (rhoC nin F0) T.mem (F0+(T.mem.length-nin)) T.mem).2.2.flatten:=by rw[zci,List.mem_range'_1];exact⟨Nat.le_add_right _ _,Nat.add_lt_add_left hkl _⟩
   obtain⟨a,ha,hia⟩:=List.mem_flatten.1 hm;obtain⟨r,hra⟩:=List.getElem?_of_mem ha;have hrl:r<T.mem.length:=by have:=(yga.1 hra).1;rw[(zaO T.mem _).2]at this;exact this
   have hfa:fpC nin F0 T.mem r=a:=by unfold fpC;rw[List.getD_eq_getElem?_getD,hra];rfl
   rw[<-hfa]at hia;obtain⟨k',hk'⟩:=List.getElem?_of_mem hia;have hk'l:=(yga.1 hk').1;have hll:=lens r hrl;have hj:(fp r)[k']? =some ((fp r)[k']'(by rw[<-hll];exact hk'l)):=ygb _;exact .inr ⟨r,k',_,hk',hj,feet r k' _ _ hk' hj⟩
 obtain⟨s1,s2⟩:=hs.pull (mC:=endM nin F0 T.mem) (g:=g) act hbel (fun i i' e e' hi he hi' he' hgg=>by
  rcases kind i e hi he with⟨r,x,hx,ha,rfl,e1⟩|⟨r,k,j,k1,k2,e1⟩<;>rcases kind i' e' hi' he' with⟨r',x',hx',ha',rfl,e1'⟩|⟨r',k',j',k1',k2',e1'⟩
  ·rw[e1,e1']at hgg;rw[h.inj r r' x x' hx ha hx' ha' hgg]
  ·rw[e1,e1']at hgg;exact absurd (by rw[hgg];exact ygd k2') (how.rt r r' x hx ha)
  ·rw[e1,e1']at hgg;exact absurd (by rw[<-hgg];exact ygd k2) (how.rt r' r x' hx' ha')
  ·rw[e1,e1']at hgg;subst hgg;have hrr:r=r':=Classical.byContradiction fun hne=>how.dj r r' hne j (ygd k2) (ygd k2');subst hrr;have:=zhj (fp r) (how.nd r) k k' j k2 k2';subst this;rw[k1]at k1';exact Option.some.inj k1')
 refine⟨_,?_,s1,fun i hi=>?_,by rw[hml];omega⟩
 ·have ha':=VR.encR hsol hv;have:(encR (rhoC nin F0) T.mem rv).ren g=encR Z T.mem rv:=by rw[zwa g rv hsol];exact zqN (Z:=fun r=>g (rhoC nin F0 r)) (ρ':=Z) hg1 rv hsol
  refine Rep.unren (n:=(endM nin F0 T.mem).length) (fun i y hi hy=>s2 i y hi hy) _ v (zv9 (fun r x hx ha=>?_) rv hsol) ?_
  ·have:=zvj hn1 hn2 (yga.1 hx).1;rw[hml];exact Nat.lt_of_lt_of_le this (Nat.le_add_right _ _)
  ·rw[this,<-ha'];exact himp.1 _ _ _ hr
 ·have hgi:g i=i:=by simp only[g,if_pos hi]
  have hb':β'[i]? =some (β'[i]'(by rw[hs.hl];omega)):=ygb _;have:=s2 i _ (by rw[hml];omega) (by rw[hgi];exact hb');rw[this,<-hb',hb i hi]
end
theorem KpA.refl{x:Option Root}(h:x≠none):KpA x x:=by
 cases x with
 |none=>exact absurd rfl h
 |some x=>cases x with
  |dead=>rfl
  |arr t xs w=>exact .inr ⟨xs,w,rfl,rfl⟩
  |box b cs=>exact .inr ⟨b,cs,rfl⟩
theorem zBu{P:Program}{Φ:List TE}{tys:List (Nat×An)}{f:FuncId}{c:CC}{np:Nat}{rs:List RV}{ash:List Sh}{rin:List RK}{rsh:Sh}{rout:List RK}{F:DatL (ash++rin.map RK.sh)->Option (DatL (rsh:: rout.map RK.sh))}
 (hf:FnOk P f c np rs)(hn:ash.length=np)(hΦ:∀e∈Φ,EOk P e)(hw:wfE ⟨f,ash,rin,rsh,rout,F⟩=true)(hne:zlV rout=false)(hF:∀d r,F d=some r->zth Φ tys c rs ash rin rsh rout d=some r):TEok P ⟨f,ash,rin,rsh,rout,F⟩:=by
 refine⟨hw,fun d r hFr=>?_⟩;have h:=hF d r hFr;obtain⟨fn,h1,h2⟩:=hf.fn;unfold chkF at h2;simp only[yhb,yhc]at h2;obtain⟨⟨⟨h3,h4⟩,h5⟩,h6⟩:=h2;have hb:fn.body=some (zsX fn):=by
  unfold zsX;cases hfb:fn.body with
  |none=>rw[hfb]at h3;cases h3
  |some c=>rfl
 let e:TE:=⟨f,ash,rin,rsh,rout,F⟩
 have hl0:(rinE e d).length=rin.length:=by
  letI p00:Pin:={nin:=0,ini:=[],len:=rfl}
  exact zsg (e:=e) d
 letI pin0:Pin:={nin:=rin.length,ini:=rinE e d,len:=hl0}
 obtain⟨w1,w2,w3,w4,w5,w6⟩:=zf8 hw;have okIn:=zAg (e:=e) hw d;have hlen2:(rinE e d).length=rin.length:=zsg (e:=e) d;have hrho:rhoC rin.length rin.length=id:=by funext j;simp only[rhoC,id];split<;>omega
 have owC:=zlM (nin:=rin.length) (F:=rin.length) (Nat.le_of_eq hlen2.symm) (Nat.le_refl _) okIn;rw[hrho]at owC;have hin:inM e d=endM rin.length rin.length (rinE e d):=rfl;have hargl:(argE e d).length=ash.length:=by simp[argE,zgC,e]
 have hst:TR id (ze6 ash rin d) ⟨zha 0 (encRL id (rinE e d) (argE e d)),inM e d⟩:=by
  refine⟨fun n=>?_,fun r b cs hr=>?_,fun r b cs hr=>okIn.cell r b cs hr,fun r r' x x' _ _ _ _ he=>he,⟨_,owC⟩,fun j hj=>⟨fun _ _ _=>rfl,KpA.refl fun hh=>?_⟩⟩
  ·exact(zlA (Z:=id) (mem:=rinE e d) _ _ 0 (zlH (argE e d) (zhF hw d))).look n
  ·have hrl:=(yga.1 hr).1;have:=zeG (nin:=rin.length) (F:=rin.length) (roots:=rinE e d) (Nat.le_of_eq hlen2.symm) (Nat.le_refl _) hrl;obtain⟨k,q1,_⟩:=za4 (Z:=rhoC rin.length rin.length) (mem:=rinE e d) (rinE e d) (rin.length+((rinE e d).length-rin.length)) r _ hr;rw[q1]at this;refine⟨encRL (rhoC rin.length rin.length) (rinE e d) cs,?_,?_⟩
   ·show(endM rin.length rin.length (rinE e d))[r]? =_;rw[show rhoC rin.length rin.length r=r by rw[hrho];rfl]at this;exact this
   ·rw[hrho];exact zlH cs (okIn.sol r b cs hr)
  ·have hh:(rinE e d)[j]? =none:=hh;rw[List.getElem?_eq_none_iff]at hh;have:j<rin.length:=hj;omega
 have hstM:∃ρs,TR ρs (zt0 ash rin rout d) ⟨zha 0 (encRL id (rinE e d) (argE e d)),inM e d⟩:=by
  have hv:VRL id (ze6 ash rin d).mem ((ze6 ash rin d).env.map fun p=>p.2) (encRL id (rinE e d) (argE e d)):=by have:(ze6 ash rin d).env.map (fun p=>p.2)=argE e d:=zoG _ 0;rw[this];exact zlH (argE e d) (zhF hw d)
  have t0:TR id ⟨[(0,.tup ((ze6 ash rin d).env.map fun p=>p.2))],(ze6 ash rin d).mem⟩ ⟨[(0,.tup (encRL id (rinE e d) (argE e d)))],inM e d⟩:=⟨fun n=>by
   simp only[lookV,look];cases hb0:Nat.beq 0 n with
   |true=>rw[if_pos (Nat.eq_of_beq_eq_true hb0)];simp only[VR];exact⟨_,rfl,hv⟩
   |false=>rw[if_neg (Nat.ne_of_beq_eq_false hb0)];simp[VR],hst.box,hst.boxC,hst.inj,hst.ow,hst.pin⟩
  obtain⟨ρ1,t1⟩:=TR.mvRs (rout.take rin.length) 0 t0;obtain⟨f0,hf0⟩:=zl3 (rout.take rin.length) 0 (.tup ((ze6 ash rin d).env.map fun p=>p.2)) (ze6 ash rin d).mem;unfold zt0;simp only;generalize Go.Fw.mvRs 0 (rout.take rin.length) (.tup ((ze6 ash rin d).env.map fun p=>p.2)) (ze6 ash rin d).mem=vm at *;obtain⟨v',mem'⟩:=vm;simp only at hf0 t1|-;subst hf0;simp only[V.ren]at t1|-;have t2:=t1.env 0;simp only[lookV,look,Nat.beq_refl,VR,if_true,AV.tup.injEq]at t2;obtain⟨as',e1,t2⟩:=t2;subst e1;exact⟨ρ1,fun n=>(zlA (Z:=ρ1) (mem:=mem') _ _ 0 t2).look n,t1.box,t1.boxC,t1.inj,t1.ow,t1.pin⟩
 obtain⟨ρs,hstM⟩:=hstM;let R0:AV->List Ent->Prop:=fun r' m'=>(inM e d).length<=m'.length/\∃a' ρ'' env',ImpC r' a'/\VR ρ'' (routE e r) (resE e r) a'/\TR ρ'' ⟨[],routE e r⟩ ⟨env',m'⟩;have hspec:Spec P f (encRL id (rinE e d) (argE e d)) (inM e d) R0:=by
  refine Spec.of_AW h1 hf.call hb h4 (by rw[ztd,hargl,hn];exact h6) (fun _ _ hh=>hh.1) ?_;have fin:∀(C:Ctx) T' ρ' st',C.n0=(inM e d).length->C.R=R0->TR ρ' T' st'->zFd rs rsh rout T'=some r->∃st1,Gh st' st1/\(C.n0<=st1.mem.length->zp5 C rs [] st1):=by
   intro C T' ρ' st' hC0 hC h' hfin;have main:∀T1 st1,TR ρ' T1 st1->zGB rsh rout (zui (rs.map (zf6 T1))) T1.mem=some r->C.n0<=st1.mem.length->zp5 C rs [] st1:=by
    intro T1 st1 t1 hg hlen;unfold zGB at hg;have hjunk:∀rv∈rs,zf6 T1 rv≠.junk:=by
     obtain⟨f0,hf0⟩:=zl3 (rout.take Nin.nin) 0 (zui (rs.map (zf6 T1))) T1.mem;unfold Sig.get at hg;simp only[List.map_cons,List.map_nil]at hg;split at hg
     ·have hg':=hg;simp only[lookV,Nat.beq_refl,List.cons_append,List.nil_append,V.renL,Sig.shs,zdr,ygc]at hg';obtain⟨x,x1,_⟩:=hg';rw[hf0,zvi]at x1;intro rv hrv;exact zvv w3 x1 _ (List.mem_map.2 ⟨rv,hrv,rfl⟩)
     ·cases hg
    obtain⟨as,q1,q2⟩:=zpC t1 rs hjunk;have hvr:=zDd q1;have t20:TR ρ' ⟨[(0,zui (rs.map (zf6 T1)))],T1.mem⟩ ⟨[(0,zsn as)],st1.mem⟩:=⟨fun n=>by
     simp only[lookV,look];cases hb0:Nat.beq 0 n with
     |true=>rw[if_pos (Nat.eq_of_beq_eq_true hb0)];exact hvr
     |false=>rw[if_neg (Nat.ne_of_beq_eq_false hb0)];simp[VR],t1.box,t1.boxC,t1.inj,t1.ow,t1.pin⟩
    obtain⟨ρ1,t2⟩:=TR.mvRs (rout.take Nin.nin) 0 t20;obtain⟨st'',_,t3,e0,_,_,_,_,_,as',bs,q3,q4⟩:=zmA (cs:=[]) (cs':=[]) t2 hg rfl (fun _ _ _=>.nil) (by simp) _ rfl;have hr0:mkVL (rsh:: rout.map RK.sh) r=resE e r:: (mkVL (rsh:: rout.map RK.sh) r).drop 1:=by simp[mkVL,resE,e]
    change VRL _ (routE e r) (mkVL (rsh:: rout.map RK.sh) r) as' at q3;rw[hr0]at q3;simp only[VRL]at q3;obtain⟨a',as2,rfl,q5,_⟩:=q3;have q6:ImpC (zsn as) a':=by
     cases q4 with
     |cons h _=>exact h
    refine q2 C [] ?_;simp only[List.reverse_nil,List.nil_append];rw[hC];refine⟨by rw[<-hC0];exact hlen,a',_,st''.env,q6,q5,fun n=>by simp[lookV,VR],fun q b cs hq=>?_,t3.boxC,t3.inj,?_,t3.pin⟩
    ·have:=t3.box q b cs hq;rw[e0]at this;exact this
    ·have:=t3.ow;rw[e0]at this;exact this
   unfold zFd at hfin;rw[hne]at hfin;simp only at hfin;split at hfin
   ·exact⟨st',.refl _,main T' st' h' hfin⟩
   ·obtain⟨st1,g1,g2⟩:=zph _ h';exact⟨st1,g1,main _ st1 g2 hfin⟩
  refine zaQ (C:=⟨P,fn,(inM e d).length,R0⟩) hf.mix hΦ c _ _ [] _ _ r [] ρs _ hstM h (fun id κ hl=>by simp[zmK]at hl) (fun T' ρ' st' k' h' hκ=>?_) (fun T' ρ' st' h' _ hκ=>?_)
  ·obtain⟨st1,g1,g2⟩:=fin ⟨P,fn,(inM e d).length,R0⟩ T' ρ' st' rfl rfl h' hκ;exact g1.2 _ _ (AW.len fun hl=>AW.ret h5 (g2 hl))
  ·obtain⟨st1,g1,g2⟩:=fin ⟨P,fn,(inM e d).length,R0⟩ T' ρ' st' rfl rfl h' hκ;exact g1.2 _ _ (AW.len fun hl=>AW.fall h5 (g2 hl))
 refine hspec.post fun F1 H' β β' r' m v w' hR hs hr hb hbl hml=>?_;obtain⟨_,a',ρ'',env',q1,q2,q3⟩:=hR;have hRl:(routE e r).length=rout.length:=(zmR (e:=e) r).1;have hinl:rin.length<=(inM e d).length:=by rw[hin,zlN (Nat.le_of_eq hlen2.symm) (Nat.le_refl _)];omega
 obtain⟨β2,p1,p2,p3,p4⟩:=q3.end (F0:=(inM e d).length) ((zmR (e:=e) r).ok w4) (zsf (e:=e) hw r) q2 q1 (by show rin.length<=(routE e r).length;rw[hRl];exact w5) hinl hml hs hr hb hbl;exact⟨_,_,β2,⟨rfl,rfl⟩,p1,p2,p3,p4⟩
end Go.Fw
namespace Go.Fw
open Go
def zsP(P:Program):List TE->Prop
|[]=>True
|e:: l=>EOk P e/\zsP P l
theorem zsP.mem{P:Program}:∀{l:List TE},zsP P l->∀e∈l,EOk P e
|[],_,e,h=>by cases h
|x:: l,h,e,he=>by
 rcases List.mem_cons.1 he with rfl|he
 ·exact h.1
 ·exact zsP.mem h.2 e he
theorem EOk.pure{P:Program}{Φ:List TE}{tys:List (Nat×An)}{f:FuncId}{c:CC}{np:Nat}{rs:List RV}{ash:List Sh}{rsh:Sh}{F:DatL (ash++[].map RK.sh)->Option (DatL (rsh:: [].map RK.sh))}
 (hf:FnOk P f c np rs)(hn:ash.length=np)(hΦ:zsP P Φ)(ha:Sh.purL ash=true)(hr:rsh.pur=true)(hx:∀d,zth Φ tys c rs ash [] rsh [] d=F d):EOk P ⟨f,ash,[],rsh,[],F⟩:=
 show PEok P _ from⟨rfl,rfl,ha,hr,fun d _ h=>zBt hf hn hΦ.mem ha hr ((hx d).trans h)⟩
theorem EOk.te{P:Program}{Φ:List TE}{tys:List (Nat×An)}{f:FuncId}{c:CC}{np:Nat}{rs:List RV}{ash:List Sh}{rin:List RK}{rsh:Sh}{rout:List RK}{F:DatL (ash++rin.map RK.sh)->Option (DatL (rsh:: rout.map RK.sh))}
 (hf:FnOk P f c np rs)(hn:ash.length=np)(hΦ:zsP P Φ)(hw:wfE ⟨f,ash,rin,rsh,rout,F⟩=true)(hne:zlV rout=false)(hx:∀d,zth Φ tys c rs ash rin rsh rout d=F d):EOk P ⟨f,ash,rin,rsh,rout,F⟩:=by
 have:=zBu hf hn hΦ.mem hw hne (fun d r h=>(hx d).trans h);unfold EOk;simp only[hne,Bool.and_false];exact this
theorem EOk.zeroP{P:Program}{f:FuncId}{ash:List Sh}{rsh:Sh}{F:DatL (ash++[].map RK.sh)->Option (DatL (rsh:: [].map RK.sh))}
 (ha:Sh.purL ash=true)(hr:rsh.pur=true)(h:∀d,F d=none):EOk P ⟨f,ash,[],rsh,[],F⟩:=
 show PEok P _ from⟨rfl,rfl,ha,hr,fun d r h'=>by have h2:F d=some r:=h';rw[h d]at h2;cases h2⟩
theorem EOk.limP{P:Program}{f:FuncId}{ash:List Sh}{rsh:Sh}{G:Nat->DatL (ash++[].map RK.sh)->Option (DatL (rsh:: [].map RK.sh))}
 (h:∀n,EOk P ⟨f,ash,[],rsh,[],G n⟩):EOk P ⟨f,ash,[],rsh,[],zFk G⟩:=by
 have h0:PEok P _:=h 0;refine show PEok P _ from⟨rfl,rfl,h0.ash,h0.rsh,fun d r h'=>?_⟩
 obtain⟨n,hn⟩:=zzI h';have hn':PEok P _:=h n;exact hn'.ok d r hn
end Go.Fw
namespace Go.Fw
open Go Go.RowKit
def zlS(W:World):Hp:=fun b=>W.heap[b]?
theorem PS.calls{P:Program}{f:FuncId}{args:List AV}{r:AV}(h:PS P f args r)(W:World)(cargs:Array Value)(hl:cargs.size=args.length)
 (ha:∀(i:Nat) v x,args[i]? =some v->cargs[i]? =some x->Rep (zlS W) [] v x):
 Calls P f cargs W fun e W'=>∃v,e=.returned v/\Below W.heap.size W W'/\∃H',Rep H' [] r v:=by
 have hs:Sat (zlS W) ⟨fun _=>none,W⟩ [] [] W:=
  {hH:=fun b o hb=>hb,hF:=(fun b o hb=>by cases hb),sm:=⟨rfl,rfl,rfl,Nat.le_refl _⟩,hl:=rfl,ent:=fun i e x hi=>by simp at hi,apart:=fun i e x hi=>by simp at hi,inj:=fun i j e e' x y hi=>by simp at hi}
 refine(h.sp.2 (zlS W) ⟨fun _=>none,W⟩ [] cargs W hs hl ha).mono fun e w' ⟨v,r',m',H',β',h1,⟨h2,_⟩,h3,h4,h5,_⟩=>?_;subst h2;refine⟨v,h1,⟨h4.sm.os,h4.sm.tape,h4.sm.output,h4.sm.size,fun k hk=>?_⟩,H',h3.pure h.pr _⟩;have hb:zlS W k=some W.heap[k]:=by simp[zlS,hk]
 rw[h4.hH _ _ (h5.1 _ _ hb)];exact hb.symm
theorem zzR:maxLen=BIG:=by unfold maxLen BIG;rfl
def CR'(W:World)(cs:List AV)(vs:List Value):Prop:=
 vs.length=cs.length/\(∀c∈cs,c.isCell=true)/\∀(i:Nat) c v,cs[i]? =some c->vs[i]? =some v->Rep (zlS W) [] c v
section
variable {H:Type}{enc:TypeId×Value->H}{P:Program}{W:World}{sp:Nat->Bool}{held:Bool}
def zys(enc:TypeId×Value->H)(P:Program)(W:World)(sp:Nat->Bool)(held:Bool)(fuel:Nat)(t:TypeId){α:Type}(e:α->List AV):Prop:=
 ∀cs d ps,DataW.trod enc P W 0 sp held fuel t cs=some (d,ps)->∃x,CR' W (e x) cs
theorem CR'.one{c:AV}{v:Value}(hc:c.isCell=true)(h:Rep (zlS W) [] c v):CR' W [c] [v]:=
 ⟨rfl,by simpa using hc,fun i c' v' h1 h2=>by
  cases i with
  |zero=>simp at h1 h2;subst h1;subst h2;exact h
  |succ i=>simp at h1⟩
theorem zxK{t:TypeId}{α:Type}{e:α->List AV}:zys enc P W sp held 0 t e:=fun cs d ps h=>by simp[DataW.trod]at h
theorem zpv{α β:Type}{f:α->Option β}:∀{l:List α}{r:List β},l.mapM f=some r->r.length=l.length/\∀(i:Nat) x,l[i]? =some x->∃y,f x=some y/\r[i]? =some y
|[],r,h=>by simp at h;subst h;simp
|a:: l,r,h=>by
 simp only[List.mapM_cons,Option.bind_eq_bind,ygc,Option.pure_def,Option.some.injEq]at h;obtain⟨y,hy,ys,hys,rfl⟩:=h;obtain⟨g1,g2⟩:=zpv hys;refine⟨by simp[g1],fun i x hi=>?_⟩;cases i with
 |zero=>simp at hi;subst hi;exact⟨y,hy,rfl⟩
 |succ i=>simpa using g2 i x (by simpa using hi)
theorem znr{α:Type}{p:Nat->α->Prop}:∀(n:Nat),(∀j,j<n->∃v,p j v)->∃vs:List α,vs.length=n/\∀(j:Nat) v,vs[j]? =some v->p j v
|0,_=>⟨[],rfl,fun j v h=>by simp at h⟩
|n+1,h=>by
 obtain⟨vs,h1,h2⟩:=znr n fun j hj=>h j (by omega);obtain⟨x,hx⟩:=h n (by omega);refine⟨vs++[x],by simp[h1],fun j v hj=>?_⟩;rcases Nat.lt_trichotomy j n with hlt|rfl|hgt
 ·rw[yge (by omega)]at hj;exact h2 j v hj
 ·rw[ygf (by omega),h1]at hj;simp at hj;subst hj;exact hx
 ·rw[List.getElem?_eq_none (by simp;omega)]at hj;cases hj
theorem zsZ{a:Addr}{n:Nat}{vs:List Value}(h:W.cells? 0 a n=some vs):vs.length=n/\∀j,j<n->∃v,vs[j]? =some v/\W.cell? (a.add j)=some v:=by unfold World.cells? at h;rw[if_pos (Nat.zero_le _)]at h;obtain⟨g1,g2⟩:=zpv h;refine⟨by simpa using g1,fun j hj=>?_⟩;obtain⟨y,h1,h2⟩:=g2 j j (by simp[hj]);exact⟨y,h2,h1⟩
theorem zqG{a:Addr}{v:Value}(h:W.cell? a=some v):a.spot=none/\∃c elem fz,W.heap[a.block]? =some (.cells c elem fz)/\c[a.off]? =some v:=by
 unfold World.cell? at h;split at h
 ·rename_i c elem fz hb;split at h
  ·cases h
  ·rename_i hs;exact⟨by simpa using hs,c,elem,fz,hb,h⟩
 ·cases h
theorem zvf{t te:TypeId}{α:Type}{e:α->List AV}{es:Nat}(ht:P.underlying t=some (.slice te))(hes:P.cellsOf te=es)(hlen:∀x,(e x).length=es)(hpos:0<es)(fuel:Nat)
 (he:zys enc P W sp held fuel te e):zys enc P W sp held (fuel+1) t (fun xs:List α=>[.sl es (xs.map e)]):=by
 intro cs d ps h;unfold DataW.trod at h;rw[ht]at h;match cs,h with
 |[.slice none 0 0],h=>exact⟨[],.one rfl (.sl 0 0 #[] (fun _ _=>undef) rfl (Nat.le_refl _) (Nat.zero_le _) (by simp) (by simp) (by simp) (by simp) (by simp))⟩
 |[.slice (some a) len cap],h=>
  simp only[hes]at h;split at h
  ·rename_i hb;rw[ygc]at h;obtain⟨elems,h1,h2⟩:=h;obtain⟨g1,g2⟩:=zpv h1;have el:∀i,i<len->∃x vs,W.cells? 0 (a.add (i*es)) es=some vs/\CR' W (e x) vs:=by intro i hi;obtain⟨y,hy,_⟩:=g2 i i (by simp[hi]);rw[ygc]at hy;obtain⟨vs,hv,hr⟩:=hy;obtain⟨x,hx⟩:=he vs y.1 y.2 hr;exact⟨x,vs,hv,hx⟩
   obtain⟨hb0,hlc,hcm⟩:=hb;obtain⟨xs,x1,x2⟩:=znr (p:=fun i x=>∃vs,W.cells? 0 (a.add (i*es)) es=some vs/\CR' W (e x) vs) len el;refine⟨xs,.one rfl ?_⟩;have hlenBIG:len<=BIG:=by rw[<-zzR];omega
   by_cases h0:len=0
   ·subst h0;obtain rfl:xs=[]:=List.length_eq_zero_iff.1 x1;exact .sl 0 0 #[] (fun _ _=>undef) rfl (Nat.zero_le _) (Nat.zero_le _) (by simp) (by simp) (by simp) (by simp) (by simp)
   ·obtain⟨x0,vs0,c0,_⟩:=el 0 (by omega);obtain⟨_,cg⟩:=zsZ c0;obtain⟨v0,_,hc0⟩:=cg 0 hpos;have ha0:(a.add (0*es)).add 0=a:=by simp[Addr.add]
    rw[ha0]at hc0;obtain⟨hspot,c,elem,fz,hblk,_⟩:=zqG hc0;obtain⟨b,o,sp'⟩:=a;simp only at hspot hblk;subst hspot;have cell:∀i,i<len->∀x,xs[i]? =some x->∀j,j<es->∃v,c[o+i*es+j]? =some v/\∀cc,(e x)[j]? =some cc->Rep (zlS W) [] cc v:=by intro i hi x hx j hj;obtain⟨vs,hv,hcr⟩:=x2 i x hx;obtain⟨_,cg⟩:=zsZ hv;obtain⟨v,hvj,hcell⟩:=cg j hj;rw[zcz,zcz]at hcell;obtain⟨_,c',elem',fz',hb',hcv⟩:=zqG hcell;simp only at hb' hcv;rw[hblk]at hb';cases hb';exact⟨v,hcv,fun cc hcc=>hcr.2.2 j cc v hcc hvj⟩
    refine .sl b o c (fun i j=>c.getD (o+i*es+j) undef) (by simp[x1]) hlc hlenBIG (fun r hr=>?_) (fun _=>⟨rfl,elem,fz,hblk⟩) (fun i j hi hj=>?_) (fun r hr cc hcc=>?_) (fun i r j cc hi hj=>?_)
    ·obtain⟨x,_,rfl⟩:=List.mem_map.1 hr;exact hlen x
    ·simp only[List.length_map]at hi;obtain⟨v,hv,_⟩:=cell i (by omega) xs[i] (ygb hi) j hj;simp[hv]
    ·obtain⟨x,hx,rfl⟩:=List.mem_map.1 hr;obtain⟨i,hi⟩:=List.getElem?_of_mem hx;obtain⟨vs,_,hcr⟩:=x2 i x hi;exact hcr.2.1 cc hcc
    ·rw[List.getElem?_map,Option.map_eq_some_iff]at hi;obtain⟨x,hx,rfl⟩:=hi;have hilt:=(yga.1 hx).1;have hjlt:=(yga.1 hj).1;rw[hlen]at hjlt;obtain⟨v,hv,hrep⟩:=cell i (by omega) x hx j hjlt;simp only[Array.getD_eq_getD_getElem?,hv,Option.getD_some];exact hrep cc hj
  ·cases h
end
def zFc(n:Int):List AV:=[.int .u8 n]
theorem zB4{H:Type}{enc:TypeId×Value->H}{P:Program}{W:World}{sp:Nat->Bool}{held:Bool}{t:TypeId}(ht:P.underlying t=some (.int .u8))(fuel:Nat):zys enc P W sp held fuel t zFc:=by
 intro cs d ps h;cases fuel with
 |zero=>simp[DataW.trod]at h
 |succ fuel=>
  unfold DataW.trod at h;rw[ht]at h;match cs,h with
  |[.int k n],h=>
   simp only[]at h;split at h
   ·rename_i hs;obtain⟨rfl,hs⟩:=hs;refine⟨n,.one rfl (.int ?_)⟩;simpa[Lit.wf]using hs
   ·cases h
theorem zAf{H:Hp}{xs:List Int}{v:Value}(h:Rep H [] (.sl 1 (xs.map zFc)) v):∀x∈xs,0<=x/\x<=255:=by
 intro x hx;obtain⟨i,hi,rfl⟩:=List.getElem_of_mem hx;cases h with
 |sl b o cells f hlen hcap hbig hes hblk hc hcell hh=>
  have:=hh i (zFc xs[i]) 0 (.int .u8 xs[i]) (by simp[hi]) rfl;generalize f i 0=w at this;cases this with
  |int h=>have h1:IntKind.min .u8=0:=rfl;have h2:IntKind.max .u8=255:=rfl;rw[h1,h2]at h;exact h
end Go.Fw
namespace Go.Fw
open Go Go.RowKit
end Go.Fw
namespace Go.Fw
open Go Go.RowKit
theorem zC7{α:Type}{mk:α->Value}{av:α->AV}(inv:∀{H:Hp}{β:Bt} {x v},Rep H β (av x) v->v=mk x){H:Hp}{β:Bt}{xs:List α}{v:Value}(h:Rep H β (.sl 1 (xs.map fun x=>[av x])) v):
 ∃a cap,v=.slice a xs.length cap/\xs.length<=cap/\(xs=[]\/∃b o cells elem fz,a=some ⟨b,o,none⟩/\H b=some (.cells cells elem fz)/\∀(j:Nat)(hj:j<xs.length),cells[o+j]? =some (mk xs[j])/\Rep H [] (av xs[j]) (mk xs[j])):=by
 cases h with
 | @sl _ _ _ a len cap b o cells f hlen hcap hbig hes hblk hc hcell hr=>
  obtain rfl:len=xs.length:=by simpa using hlen
  refine⟨a,cap,rfl,hcap,?_⟩;by_cases he:xs=[]
  ·exact .inl he
  ·obtain⟨h1,elem,fz,h2⟩:=hblk (by simpa using he);refine .inr ⟨b,o,cells,elem,fz,h1,h2,fun j hj=>?_⟩;have h3:=hc j 0 (by simpa using hj) (by omega);have h4:=hr j [av xs[j]] 0 (av xs[j]) (by simp[hj]) rfl;have h5:=inv h4;rw[h5]at h3 h4;exact⟨by simpa using h3,h4⟩
theorem zvt{H:Hp}{β:Bt}{x:List UInt8}{v:Value}(h:Rep H β (.str x) v):v=.string ⟨x.toArray⟩:=by cases h;rfl
theorem zDN{H:Hp}{β:Bt}{x:Int}{v:Value}(h:Rep H β (.int .i64 x) v):v=.int .i64 x:=by cases h;rfl
theorem PS.str{P:Program}{f:FuncId}{args:List AV}{s:List UInt8}(hcall:∀us w,(callFunc f us).run P w=.ok (.enter f us) w)(hpa:AV.pureL args=true)(hb:s.length<=BIG)
 (h:∀(H:Hp)(F:Fr)(β:Bt)(cargs:Array Value)(w:World),Sat H F β [] w->cargs.size=args.length->(∀(i:Nat) v x,args[i]? =some v->cargs[i]? =some x->Rep H β v x)->
  Calls P f cargs w fun e w'=>e=.returned (.string ⟨s.toArray⟩)/\Below w.heap.size w w'):PS P f args (.str s):=
 ⟨hpa,rfl,hcall,fun H F β cargs w hs hl ha=>(h H F β cargs w hs hl ha).mono fun e w' ⟨he,hbw⟩=>⟨_,.str s,[],H,β,he,⟨rfl,rfl⟩,.str hb,hs.more hbw.block hbw.size ⟨hbw.os,hbw.tape,hbw.output⟩,.refl _ _,fun i hi=>rfl,by simp⟩⟩
def zzi(d:List (List UInt8)×List UInt8):Option (List UInt8):=gd (decide (d.1.length<=140737488355328)&&decide ((Lib.join d.1 d.2).length<=140737488355328)) (some (Lib.join d.1 d.2))
theorem zDV{P:Program}{f:FuncId}{G:List (List UInt8)×List UInt8->Option (List UInt8)}(hG:∀d,G d=zzi d)(hcall:∀us w,(callFunc f us).run P w=.ok (.enter f us) w)
 (hj:∀(bk o c:Nat)(xs:List ByteArray)(sep:ByteArray)(w:World),(∀(j:Nat) x,xs[j]? =some x->w.cell? ⟨bk,o+j,none⟩=some (.string x))->bk<w.heap.size->xs.length<=140737488355328->xs.length<=c->
  (Lib.join (xs.map (·.data.toList)) sep.data.toList).length<=140737488355328->
  Calls P f #[.slice (some ⟨bk,o,none⟩) xs.length c,.string sep] w fun e w'=>e=.returned (.string ⟨(Lib.join (xs.map (·.data.toList)) sep.data.toList).toArray⟩)/\Below w.heap.size w w')
 (h0:∀(a:Option Addr)(c:Nat)(sep:ByteArray)(w:World),Calls P f #[.slice a 0 c,.string sep] w fun e w'=>e=.returned (.string ⟨#[]⟩)/\w'=w):
 EOk P ⟨f,[.lst .str,.str],[],.str,[],G⟩:=by
 refine show PEok P _ from⟨rfl,rfl,rfl,rfl,fun d r hd=>?_⟩
 have hd':∀d:List (List UInt8)×List UInt8,G d=some r->PS P f [.sl 1 (d.1.map (zap .str)),.str d.2] (.str r):=?_
 ·exact hd' d hd
 clear hd d;intro d hd;rw[hG]at hd;obtain⟨xs,sep⟩:=d;unfold zzi gd at hd;cases g0:(decide (xs.length<=140737488355328)&&decide ((Lib.join xs sep).length<=140737488355328))with
 |false=>rw[g0]at hd;cases hd
 |true=>
 rw[g0]at hd;cases hd;simp only[yhb,yhc]at g0;obtain⟨g1,g2⟩:=g0;show PS P f [.sl 1 (xs.map (zap .str)),.str sep] (.str (Lib.join xs sep));refine PS.str hcall rfl (by unfold BIG;exact Nat.le_trans g2 (by omega)) fun H F β cargs w hs hl ha=>?_;obtain⟨v,u,rfl⟩:∃v u,cargs= #[v,u]:=by
  rcases cargs with⟨l⟩
  match l,hl with
  |[v,u],_=>exact⟨v,u,rfl⟩
 have hv:=ha 0 _ v rfl rfl;obtain rfl:=zvt (ha 1 _ u rfl rfl);obtain⟨a,cap,rfl,hc,hx⟩:=zC7 (av:=fun s=>.str s) (mk:=fun s=>.string ⟨s.toArray⟩) zvt hv;rcases hx with rfl|⟨b,o,cells,elem,fz,rfl,hH,hcs⟩
 ·exact(h0 a cap _ w).mono fun e w' ⟨he,hw⟩=>⟨he,hw ▸ Below.refl _ _⟩
 ·have hw:=hs.hH _ _ hH;have e1:((xs.map fun s=>(⟨s.toArray⟩:ByteArray)).map (·.data.toList))=xs:=by rw[List.map_map];exact List.map_id _
  have:=hj b o cap (xs.map fun s=>⟨s.toArray⟩) ⟨sep.toArray⟩ w (fun j x hjx=>by rw[List.getElem?_map,Option.map_eq_some_iff]at hjx;obtain⟨s,hs',rfl⟩:=hjx;obtain⟨hjl,rfl⟩:=yga.1 hs';simp only[World.cell?,hw];simpa using(hcs j hjl).1) (zaP hw) (by simpa using g1) (by simpa using hc) (by rw[e1];simpa using g2)
  rw[e1]at this;simpa using this
section
variable {P:Program}{f:FuncId}{α:Type}{mk:α->Value}{av:α->AV}{ty:TypeId}{sz:Nat}
theorem zqL(inv:∀{H:Hp}{β:Bt} {x v},Rep H β (av x) v->v=mk x)(hcl:∀x,(av x).isCell=true)(hcall:∀us w,(callFunc f us).run P w=.ok (.enter f us) w)
 (hclone:∀(b o n c:Nat)(xs:List α)(w:World),n=xs.length->n*sz<=140737488355328->(∀(j:Nat)(hj:j<xs.length),w.cell? ⟨b,o+j,none⟩=some (mk xs[j]))->
  Calls P f #[.slice (some ⟨b,o,none⟩) n c] w fun e w'=>∃v',e=.returned v'/\w'.ownsRow w.heap.size ty 1 v' n (xs.map mk)/\v'≠.slice none 0 0/\Below w.heap.size w w')
 (hnil:∀(n c:Nat)(w:World),Calls P f #[.slice none n c] w fun e w'=>e=.returned (.slice none 0 0)/\w'=w)
 (hzero:∀(a:Addr)(c:Nat)(w:World),Calls P f #[.slice (some a) 0 c] w fun e w'=>∃v',e=.returned v'/\w'.ownsRow w.heap.size ty 1 v' 0 []/\v'≠.slice none 0 0/\Below w.heap.size w w')
 (xs:List α)(hx:xs.length*sz<=140737488355328)(hz:0<sz):PS P f [.sl 1 (xs.map fun x=>[av x])] (.sl 1 (xs.map fun x=>[av x])):=by
 refine⟨rfl,rfl,hcall,fun H F β cargs w hs hl ha=>?_⟩;obtain⟨v,rfl⟩:∃v,cargs= #[v]:=by
  rcases cargs with⟨l⟩
  match l,hl with
  |[v],_=>exact⟨v,rfl⟩
 obtain⟨a,cap,rfl,hc,hxx⟩:=zC7 inv (ha 0 _ v rfl rfl);have hlen:xs.length<=BIG:=by have:xs.length*1<=xs.length*sz:=Nat.mul_le_mul_left _ hz;unfold BIG;omega
 have fin:∀(e:Ending)(w':World),(∃v',e=.returned v'/\w'.ownsRow w.heap.size ty 1 v' xs.length (xs.map mk)/\v'≠.slice none 0 0/\Below w.heap.size w w')->(∀x∈xs,Rep H [] (av x) (mk x))->
  ∃v r m' H' β',e=.returned v/\(r=.sl 1 (xs.map fun x=>[av x])/\m'=[])/\Rep H' β' r v/\Sat H' F β' m' w'/\HX F H H'/\zA7 ([]:List Ent).length β β'/\([]:List Ent).length<=m'.length:=by
  intro e w' ⟨v',he,ho,hne,hbw⟩ hrg;obtain⟨o1,o2⟩:=ho;rcases o2 with⟨o2,_⟩|⟨g,cap',cur,o2,o3,o4,o5,o6,o7,o8⟩
  ·exact absurd o2 hne
  subst he o2;have hg:H g=none/\F g=none:=by
   constructor
   ·cases e:H g with
    |none=>rfl
    |some o=>exact absurd (zaP (hs.hH _ _ e)) (by omega)
   ·cases e:F g with
    |none=>rfl
    |some o=>exact absurd (zaP (hs.hF _ _ e)) (by omega)
  have hm:=hs.more hbw.block hbw.size ⟨hbw.os,hbw.tape,hbw.output⟩;have hcur:∀(j:Nat)(hj:j<xs.length),cur[j]? =some (mk xs[j]):=fun j hj=>by
   have h1:(cur.toList.take (xs.length*1))[j]? =some (mk xs[j]):=by rw[o8];simp[hj]
   rw[List.getElem?_take,if_pos (by omega)]at h1;simpa using h1
  have hX:zkf H (zhg H g (.cells cur ty)):=zg9 hg.1;refine⟨_,_,_,zhg H g (.cells cur ty),β,rfl,⟨rfl,rfl⟩,?_,?_,zmk hg,fun i hi=>rfl,by simp⟩
  ·refine .sl g 0 cur (fun i _=>cur.getD i undef) (by simp) o5 hlen (fun r hr=>?_) (fun _=>⟨rfl,ty,(0,0),by simp[zhg]⟩) (fun i j hi hj=>?_) (fun r hr c hc=>?_) (fun i r j c hi hj=>?_)
   ·obtain⟨y,_,rfl⟩:=List.mem_map.1 hr;rfl
   ·have hi':i<xs.length:=by simpa using hi
    obtain rfl:j=0:=by omega
    have:=(Array.getElem?_eq_some_iff.1 (hcur i hi')).1;simp[this]
   ·obtain⟨y,_,rfl⟩:=List.mem_map.1 hr;obtain rfl:c=av y:=by simpa using hc
    exact hcl y
   ·rw[List.getElem?_map,Option.map_eq_some_iff]at hi;obtain⟨y,hy,rfl⟩:=hi;obtain⟨hil,rfl⟩:=yga.1 hy;have hj0:j=0:=by have:=(yga.1 hj).1;simp at this;exact this
    subst hj0;obtain rfl:c=av xs[i]:=by simpa using hj.symm
    have hv:=hcur i hil;rw[show cur.getD i undef=mk xs[i] by simp[hv]];exact(hrg _ (ygh hil)).mono hX (.refl _)
  ·refine{hH:=fun b o hb=>?_,hF:=hm.hF,sm:=hm.sm,hl:=hm.hl,ent:=fun i e x hi=>by simp at hi,apart:=fun i e x hi=>by simp at hi,inj:=fun i j e e' x y hi=>by simp at hi};unfold zhg at hb;split at hb
   ·rename_i e;subst e;cases hb;exact o4
   ·exact hm.hH _ _ hb
 rcases hxx with rfl|⟨b,o,cells,elem,fz,rfl,hH,hcs⟩
 ·cases a with
  |none=>refine(hnil 0 cap w).mono fun e w' ⟨he,hw⟩=>?_;subst he hw;exact⟨_,_,_,H,β,rfl,⟨rfl,rfl⟩,.sl 0 0 #[] (fun _ _=>undef) rfl (Nat.le_refl _) (Nat.zero_le _) (by simp) (by simp) (by simp) (by simp) (by simp),hs,.refl _ _,fun i hi=>rfl,by simp⟩
  |some a=>exact(hzero a cap w).mono fun e w' h=>fin e w' (by simpa using h) (by simp)
 ·have hw:=hs.hH _ _ hH;refine(hclone b o xs.length cap xs w rfl hx (fun j hj=>?_)).mono fun e w' h=>fin e w' h fun x hx=>?_
  ·simp only[World.cell?,hw];simpa using(hcs j hj).1
  ·obtain⟨j,hj,rfl⟩:=List.getElem_of_mem hx;exact(hcs j hj).2
end
end Go.Fw
namespace Go.Fw
open Go Go.RowKit
theorem zrp{H:Hp}{F:Fr}{β:Bt}{mem:List Ent}{w:World}(hs:Sat H F β mem w){c0 c1:AV}{v:Value}(hi:mem[0]? =some (.arr 2 [[c0,c1]]))(hv:Rep H β (.mp 0 0 0) v)(hc0:c0.pt=true):
 ∃b cap cells x0 x1,v=.pointer (some ⟨b,0,none⟩)/\β[0]? =some (some (b,2,cap))/\w.heap[b]? =some (.cells cells TB (0,0))/\cells= #[x0,x1]/\Rep H β c0 x0/\Rep H β c1 x1/\c0.isCell=true/\c1.isCell=true/\1<=cap:=by
 cases hv with
 | @mp _ _ _ _ b es capT hβ=>
  obtain⟨rfl,cells,elem,h2,h3,h4,h5,h6,h7,h8⟩:=hs.ent 0 _ _ hi hβ;obtain⟨x0,e0,r0⟩:=h7 0 [c0,c1] 0 c0 rfl rfl;obtain⟨x1,e1,r1⟩:=h7 0 [c0,c1] 1 c1 rfl rfl;simp only[Nat.zero_mul,Nat.zero_add]at e0 e1;obtain⟨p,rfl⟩:=zC2 hc0 r0;obtain⟨rfl,hsz⟩:=(h8 (by simp)).1 ⟨rfl,p,e0⟩;refine⟨b,capT,cells,_,x1,by simp,hβ,h2,?_,r0,r1,h6 [c0,c1] (by simp) c0 (by simp),h6 [c0,c1] (by simp) c1 (by simp),by simpa using h4⟩;apply Array.ext_getElem?;intro k;match k with
  |0=>rw[e0];rfl
  |1=>rw[e1];rfl
  |k+2=>rw[Array.getElem?_eq_none (by omega),Array.getElem?_eq_none (by simp)]
theorem zyz{H:Hp}{β:Bt}{cargs:Array Value}(hl:cargs.size=[AV.mp 0 0 0].length)(ha:∀(i:Nat) v x,[AV.mp 0 0 0][i]? =some v->cargs[i]? =some x->Rep H β v x):∃v,cargs= #[v]/\Rep H β (.mp 0 0 0) v:=by
 rcases cargs with⟨l⟩
 match l,hl with
 |[v],_=>exact⟨v,rfl,ha 0 _ v rfl rfl⟩
section
variable {P:Program}{f:FuncId}
theorem zuu(hcall:∀us w,(callFunc f us).run P w=.ok (.enter f us) w)
 (hk:∀(b:Nat)(w:World),w.cell? ⟨b,0,none⟩=some (.pointer none)->w.shape? b=some (TB,2)->w.frozen? ⟨b,0,none⟩=false->
  Calls P f #[.pointer (some ⟨b,0,none⟩)] w fun e w'=>e=.returned (.tuple #[])/\w'=w.setCell ⟨b,0,none⟩ (.pointer (some ⟨b,0,none⟩))):
 Spec P f [.mp 0 0 0] [.arr 2 [[.nilp,.e0]]] (fun r' m'=>r'=.tup []/\m'=[.arr 2 [[.mp 0 0 0,.e0]]]):=by
 refine⟨hcall,fun H F β cargs w hs hl ha=>?_⟩;obtain⟨v,rfl,hv⟩:=zyz hl ha;obtain⟨b,cap,cells,x0,x1,rfl,hβ,hh,rfl,r0,r1,_,_,hcap⟩:=zrp hs (c0:=.nilp) (c1:=.e0) rfl hv rfl;cases r0;have hb:=zaP hh;refine(hk b w (by simp[World.cell?,hh]) (by simp[World.shape?,hh]) (by simp[World.frozen?,hh])).mono fun e w' ⟨he,hw⟩=>?_;subst he;have zhg:w'=zsk w b (.cells #[.pointer (some ⟨b,0,none⟩),x1] TB (0,0)):=by
  rw[hw];unfold World.setCell zsk;congr 1;apply Array.ext_getElem?;intro k;simp only[Array.getElem?_modify,Array.getElem?_setIfInBounds];by_cases hkb:b=k
  ·subst hkb;have hg:w.heap[b]=.cells #[.pointer none,x1] TB (0,0):=by have:=Array.getElem?_eq_getElem hb;rw[hh]at this;exact(Option.some.inj this).symm
   simp[hb,hg]
  ·simp[hkb]
 have hsz:cap*2=2:=by obtain⟨_,cells,elem,g2,g3,_⟩:=hs.ent 0 _ _ rfl hβ;rw[hh]at g2;cases g2;simpa using g3.symm
 have:=hs.rewrite (i:=0) (rows':=[[.mp 0 0 0,.e0]]) (cells:=#[.pointer (some ⟨b,0,none⟩),x1]) (elem:=TB) rfl hβ (by simp;omega) (by simpa using hcap) (by simp) (by simp) (fun i r j c hi hj=>by
  match i,hi with
  |0,hi=>
   obtain rfl:[AV.mp 0 0 0,.e0]=r:=by simpa using hi
   match j,hj with
   |0,hj=>
    obtain rfl:AV.mp 0 0 0=c:=by simpa using hj
    exact⟨_,rfl,hv⟩
   |1,hj=>
    obtain rfl:AV.e0=c:=by simpa using hj
    exact⟨_,rfl,r1⟩
   |j+2,hj=>simp at hj
  |i+1,hi=>simp at hi) (fun _=>⟨fun _=>⟨rfl,rfl⟩,fun⟨n,hn⟩=>by simp at hn⟩)
 rw[<-zhg]at this;exact⟨_,_,_,H,β,rfl,⟨rfl,rfl⟩,.tup rfl (fun i c v h=>by simp at h),this,.refl _ _,fun i hi=>rfl,by simp⟩
theorem zw9(hcall:∀us w,(callFunc f us).run P w=.ok (.enter f us) w)
 (hk:∀(b:Nat)(w:World),w.cell? ⟨b,0,none⟩=some (.pointer (some ⟨b,0,none⟩))->Calls P f #[.pointer (some ⟨b,0,none⟩)] w fun e w'=>e=.returned (.tuple #[])/\w'=w)
 (c1:AV)(mem:List Ent):Spec P f [.mp 0 0 0] (.arr 2 [[.mp 0 0 0,c1]]:: mem) (fun r' m'=>r'=.tup []/\m'=.arr 2 [[.mp 0 0 0,c1]]:: mem):=by
 refine⟨hcall,fun H F β cargs w hs hl ha=>?_⟩;obtain⟨v,rfl,hv⟩:=zyz hl ha;obtain⟨b,cap,cells,x0,x1,rfl,hβ,hh,rfl,r0,r1,_,_,hcap⟩:=zrp hs (c0:=.mp 0 0 0) (c1:=c1) rfl hv rfl;have hx0:x0=.pointer (some ⟨b,0,none⟩):=by
  cases r0 with
  |mp hβ'=>rw[hβ]at hβ';cases hβ';simp
 subst hx0;refine(hk b w (by simp[World.cell?,hh])).mono fun e w' ⟨he,hw⟩=>?_;subst he hw;exact⟨_,_,_,H,β,rfl,⟨rfl,rfl⟩,.tup rfl (fun i c v h=>by simp at h),hs,.refl _ _,fun i hi=>rfl,by simp⟩
theorem zvu(hcall:∀us w,(callFunc f us).run P w=.ok (.enter f us) w)
 (hk:∀(b g cap:Nat)(l:List UInt8)(cur:Array Value)(w:World),w.heap[b]? =some (.cells #[.pointer (some ⟨b,0,none⟩),.slice (some ⟨g,0,none⟩) l.length cap] TB (0,0))->w.heap[g]? =some (.cells cur T5 (0,0))->l≠[]->l.length<=cap->cap<=cur.size->l.length<=BIG->
  (∀(j:Nat)(hj:j<l.length),cur[j]? =some (.int .u8 l[j].toNat))->
  Calls P f #[.pointer (some ⟨b,0,none⟩)] w fun e w'=>e=.returned (.string ⟨l.toArray⟩)/\w'.os=w.os/\w'.tape=w.tape/\w'.output=w.output/\w.heap.size<=w'.heap.size/\∀k,k≠g->k<w.heap.size->w'.heap[k]? =w.heap[k]?)
 (xs:List Int)(h0:xs≠[]):Spec P f [.mp 0 0 0] [.arr 2 [[.mp 0 0 0,.ms 1 1 0 xs.length]],.arr 1 (xs.map (zap (.int .u8)))] (fun r' m'=>r'=.str (xs.map zkB)/\m'=[.dead,.dead]):=by
 refine⟨hcall,fun H F β cargs w hs hl ha=>?_⟩;obtain⟨v,rfl,hv⟩:=zyz hl ha;obtain⟨b,cap,cells,x0,x1,rfl,hβ,hh,rfl,r0,r1,_,_,hcap⟩:=zrp hs (c0:=.mp 0 0 0) (c1:=.ms 1 1 0 xs.length) rfl hv rfl;have hx0:x0=.pointer (some ⟨b,0,none⟩):=by
  cases r0 with
  |mp hβ'=>rw[hβ]at hβ';cases hβ';simp
 subst hx0;have hlen:0<xs.length:=List.length_pos_iff.2 h0;have hms:∃g capT cap',x1=.slice (some ⟨g,0,none⟩) xs.length cap'/\β[1]? =some (some (g,1,capT))/\cap'<=capT/\xs.length<=cap'/\xs.length<=BIG:=by
  generalize hn:xs.length=n at r1 hlen;cases r1 with
  |ms hβ h1 h2 h3=>exact⟨_,_,_,by simp,hβ,by omega,h2,h3⟩
  |ms0=>omega
 obtain⟨g,capT,cap',rfl,hβ1,hc1,hc2,hc3⟩:=hms;obtain⟨_,cur,elem,g2,g3,g4,g5,g6,g7,g8⟩:=hs.ent 1 _ _ rfl hβ1;have hcell:∀(j:Nat)(hj:j<xs.length),∃v,cur[j]? =some v/\Rep H β (.int .u8 xs[j]) v:=fun j hj=>by obtain⟨v,q1,q2⟩:=g7 j [.int .u8 xs[j]] 0 (.int .u8 xs[j]) (by simp[hj,zap]) rfl;exact⟨v,by simpa using q1,q2⟩
 have hrg:∀(j:Nat)(hj:j<xs.length),0<=xs[j]/\xs[j]<=255/\cur[j]? =some (.int .u8 xs[j]):=fun j hj=>by
  obtain⟨v,q1,q2⟩:=hcell j hj;cases q2 with
  |int h=>
   have hu8:IntKind.u8.min=0/\IntKind.u8.max=255:=by decide
   rw[hu8.1,hu8.2]at h;exact⟨h.1,h.2,q1⟩
 have hT5:elem=T5:=(g8 (by simpa using h0)).2 ⟨xs[0],(hrg 0 hlen).2.2⟩;subst hT5;refine(hk b g cap' (xs.map zkB) cur w (by simpa using hh) g2 (by simpa using h0) (by simpa using hc2) (by omega) (by simpa using hc3) (fun j hj=>?_)).mono fun e w' ⟨he,ho1,ho2,ho3,hsz,hbk⟩=>?_
 ·have hj':j<xs.length:=by simpa using hj
  obtain⟨a1,a2,a3⟩:=hrg j hj';rw[a3];simp only[List.getElem_map,zkB];have:((UInt8.ofNat xs[j].toNat).toNat:Int)=xs[j]:=by
   have:xs[j].toNat<256:=by omega
   simp[Nat.mod_eq_of_lt this];omega
  rw[this]
 ·subst he;have hap:=hs.apart 1 _ _ rfl rfl hβ1;refine⟨_,.str (xs.map zkB),[.dead,.dead],H,β,rfl,⟨rfl,rfl⟩,.str (by simpa using hc3),?_,.refl _ _,fun i hi=>rfl,by simp⟩;refine{hH:=fun k o hk=>?_,hF:=fun k o hk=>?_,sm:=⟨ho1.trans hs.sm.os,ho2.trans hs.sm.tape,ho3.trans hs.sm.output,Nat.le_trans hs.sm.size hsz⟩,hl:=hs.hl,ent:=fun i e x hi hx=>?_,apart:=fun i e x hi he hx=>?_,inj:=fun i j e e' x y hi he=>?_}
  ·have h1:=hs.hH k o hk;rw[hbk k (fun e=>by subst e;rw[hap.1]at hk;cases hk) (zaP h1)];exact h1
  ·have h1:=hs.hF k o hk;rw[hbk k (fun e=>by subst e;rw[hap.2]at hk;cases hk) (zaP h1)];exact h1
  ·match i,hi with
   |0,hi=>cases hi;trivial
   |1,hi=>cases hi;trivial
   |i+2,hi=>simp at hi
  ·match i,hi with
   |0,hi=>cases hi;cases he
   |1,hi=>cases hi;cases he
   |i+2,hi=>simp at hi
  ·match i,hi with
   |0,hi=>cases hi;cases he
   |1,hi=>cases hi;cases he
   |i+2,hi=>simp at hi
end
section
variable {P:Program}{f:FuncId}
theorem zyD{G:Unit->Option Unit}(hG:∀d,G d=some ())(h:Spec P f [.mp 0 0 0] [.arr 2 [[.nilp,.e0]]] (fun r' m'=>r'=.tup []/\m'=[.arr 2 [[.mp 0 0 0,.e0]]])):
 EOk P ⟨f,[.mpb 0 0],[.box bdB [.nilp,.e0]],.tup [],[.box bdB [.mpb 0 0,.e0]],G⟩:=
 show TEok P _ from⟨by kernel_rfl,fun d r _=>⟨h.1,fun H F β cargs w hs hl ha=>(h.2 H F β cargs w hs hl ha).mono fun e w' ⟨v,r',m',H',β',g1,g2,g3⟩=>⟨v,r',m',H',β',g1,⟨g2.1,g2.2⟩,g3⟩⟩⟩
theorem zDj(d:List Int):inM ⟨f,[.mpb 0 0],[.box bdB [.mpb 0 0,.own 1],.arr (.int .u8) .no],.tup [],[.box bdB [.mpb 0 0,.own 1],.arr (.int .u8) .no],fun d=>some d⟩ d=[.arr 2 [[.mp 0 0 0,.ms 1 1 0 d.length]],.arr 1 (d.map (zap (.int .u8)))]:=by
 show endM 2 2 [.box bdB [.mp 0 0 0,.own 1],.arr (.int .u8) d .no]=_;simp only[endM,zaw,za2,zBY];letI pin0:Pin:={nin:=0,ini:=[],len:=rfl}
 have h:=zlZ (t:=.int .u8) (2+(2-2)) d;simp[h];exact⟨rfl,rfl⟩
theorem zyE{G:List Int->Option (List Int)}(hG:∀d,G d=some d)(h:∀c1 mem,Spec P f [.mp 0 0 0] (.arr 2 [[.mp 0 0 0,c1]]:: mem) (fun r' m'=>r'=.tup []/\m'=.arr 2 [[.mp 0 0 0,c1]]:: mem)):
 EOk P ⟨f,[.mpb 0 0],[.box bdB [.mpb 0 0,.own 1],.arr (.int .u8) .no],.tup [],[.box bdB [.mpb 0 0,.own 1],.arr (.int .u8) .no],G⟩:=by
 refine show TEok P _ from⟨by kernel_rfl,fun d r hd=>?_⟩
 have hd':∀d r:List Int,G d=some r->r=d:=fun d r hd=>by rw[hG]at hd;exact(Option.some.inj hd).symm
 obtain rfl:=hd' d r hd;have h1:=h (.ms 1 1 0 r.length) [.arr 1 (r.map (zap (.int .u8)))];have e1:inM ⟨f,[.mpb 0 0],[.box bdB [.mpb 0 0,.own 1],.arr (.int .u8) .no],.tup [],[.box bdB [.mpb 0 0,.own 1],.arr (.int .u8) .no],G⟩ r=_:=zDj (f:=f) r;rw[e1];exact⟨h1.1,fun H F β cargs w hs hl ha=>(h1.2 H F β cargs w hs hl ha).mono fun e w' ⟨v,r',m',H',β',g1,g2,g3⟩=>⟨v,r',m',H',β',g1,⟨g2.1,g2.2.trans (zDj (f:=f) r).symm⟩,g3⟩⟩
theorem zDk{G:List Int->Option (List UInt8)}(hG:∀d,G d=gd (decide (0<d.length)) (some (d.map zkB)))(h:∀xs:List Int,xs≠[]->Spec P f [.mp 0 0 0] [.arr 2 [[.mp 0 0 0,.ms 1 1 0 xs.length]],.arr 1 (xs.map (zap (.int .u8)))] (fun r' m'=>r'=.str (xs.map zkB)/\m'=[.dead,.dead])):
 EOk P ⟨f,[.mpb 0 0],[.box bdB [.mpb 0 0,.own 1],.arr (.int .u8) .no],.str,[.dead,.dead],G⟩:=by
 refine show TEok P _ from⟨by kernel_rfl,fun d r hd=>?_⟩
 have hd':∀(d:List Int)(r:List UInt8),G d=some r->d≠[]/\r=d.map zkB:=fun d r hd=>by
  rw[hG]at hd;cases d with
  |nil=>cases hd
  |cons x d=>exact⟨by simp,(Option.some.inj hd).symm⟩
 obtain⟨h0,hr⟩:=hd' d r hd;have h1:=h d h0;have e1:inM ⟨f,[.mpb 0 0],[.box bdB [.mpb 0 0,.own 1],.arr (.int .u8) .no],.str,[.dead,.dead],G⟩ d=_:=zDj (f:=f) d;rw[e1];exact⟨h1.1,fun H F β cargs w hs hl ha=>(h1.2 H F β cargs w hs hl ha).mono fun e w' ⟨v,r',m',H',β',g1,g2,g3⟩=>⟨v,r',m',H',β',g1,⟨g2.1.trans (by rw[hr];rfl),g2.2.trans rfl⟩,g3⟩⟩
theorem zs2{t:Ty}{G:List (TV t)->Option (List (TV t))}{sz:Nat}(ht:t.sz=1)(hG:∀d,G d=gd (decide (d.length*sz<=140737488355328)) (some d))(h:∀xs:List (TV t),xs.length*sz<=140737488355328->PS P f [.sl 1 (xs.map (zap t))] (.sl 1 (xs.map (zap t)))):
 EOk P ⟨f,[.lst t],[],.lst t,[],G⟩:=by
 refine show PEok P _ from⟨rfl,rfl,rfl,rfl,fun d r hd=>?_⟩
 have hd':∀d r:List (TV t),G d=some r->d.length*sz<=140737488355328/\r=d:=fun d r hd=>by
  rw[hG]at hd;unfold gd at hd;cases g0:decide (d.length*sz<=140737488355328)with
  |false=>rw[g0]at hd;cases hd
  |true=>rw[g0]at hd;exact⟨of_decide_eq_true g0,(Option.some.inj hd).symm⟩
 obtain⟨h0,hr⟩:=hd' d r hd;have h1:=h d h0;rw[<-ht]at h1;subst hr;exact h1
end
end Go.Fw
