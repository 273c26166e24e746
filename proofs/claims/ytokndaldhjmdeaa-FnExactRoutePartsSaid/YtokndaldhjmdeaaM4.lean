/- A part of the proof: what stands for the program, its functions, and what they come to. -/
import Derived.Test.YtokndaldhjmdeaaM3
import Derived.ProofKit
import Derived.Sort.Row
import Derived.Sort.Grow
import Derived.Lib.SlicesCompact
import Derived.Below
import Derived.Laws.AppendOwn
import Derived.Lib.Join
set_option linter.all false
namespace Go.Fw
open Go
variable [Pin]
section
variable {J ρ':Nat->Nat}{mem:List Root}
mutual
theorem zhR(h:∀(r:Nat) x,mem[r]? =some x->x.alive=true->J r=ρ' r):∀(v:V),v.sol mem=true->encR J mem v=encR ρ' mem v
 | .junk,hh|.part ..,hh=>by simp[V.sol]at hh
 | .own r,hh=>by
  simp only[V.sol]at hh
  split at hh
  ·rename_i t xs w e
   simp only[encR,e,h r _ e rfl]
  ·cases hh
 | .mp r row off,hh=>by
  simp only[V.sol]at hh
  split at hh
  ·rename_i t xs w e
   simp only[encR,e,h r _ e rfl]
  ·rename_i b cs e
   simp only[encR,e,h r _ e rfl]
  ·cases hh
 | .int _ _,_|.bool _,_|.str _,_|.lst _ _,_|.nl _,_|.e0,_|.nilp,_|.nilf,_|.ep _ _,_|.ip _,_|.st _ _,_=>by simp only[encR]
 | .agg cs,hp|.tup cs,hp|.fn _ cs,hp=>by
  simp only[encR];rw[zdd h cs (by simpa[V.sol]using hp)]
theorem zdd(h:∀(r:Nat) x,mem[r]? =some x->x.alive=true->J r=ρ' r):∀(cs:List V),V.solL mem cs=true->encRL J mem cs=encRL ρ' mem cs
 | [],_=>rfl
 | c:: cs,hp=>by
  simp only[V.solL,yhb]at hp
  simp only[encRL];rw[zhR h c hp.1,zdd h cs hp.2]
end
end
section
variable {nin F:Nat}{roots:List Root}{J:Nat->Nat}{sm:List Ent}{fp:Nat->List Nat}{g:Nat->Nat}
def zgW(fp:Nat->List Nat)(n:Nat):List Nat:=((List.range n).map fp).flatten
theorem zjB{n i:Nat}:i∈zgW fp n↔∃r,r<n/\i∈fp r:=by
 simp only[zgW,List.mem_flatten,List.mem_map,List.mem_range]
 exact⟨fun⟨_,⟨r,h1,rfl⟩,h2⟩=>⟨r,h1,h2⟩,fun⟨r,h1,h2⟩=>⟨_,⟨r,h1,rfl⟩,h2⟩⟩
theorem zou(hok:OkRs roots)(how:OwA J roots sm fp){ρ2:Nat->Nat}{r n:Nat}{x:Root}(hr:roots[r]? =some x):(zaz ρ2 roots n x).2.length=(fp r).length:=by
 cases x with
 | dead=>rw[how.nil r (fun t xs w e=>by rw[hr]at e;cases e)];rfl
 | box b cs=>rw[how.nil r (fun t xs w e=>by rw[hr]at e;cases e)];rfl
 | arr t xs w =>
  have hA:=how.rel r t xs w hr
  have hw:=hok.shut r t xs w hr
  cases w with
  | op _ _ _=>cases hw
  | no=>simp only[zaz,zoo,zdf];rw[hA.2];rfl
  | cl os =>
   obtain⟨rows,g1,g2⟩:=hA
   exact(g2.lay n (fun i=>(fp r).getD (i-n) 0) fun k j hk=>by rw[Nat.add_sub_cancel_left,List.getD_eq_getElem?_getD,hk];rfl).2.1
theorem zlq(h1:nin<=roots.length)(h2:nin<=F)(hok:OkRs roots)(how:OwA J roots sm fp)(hbox:∀(r:Nat) b cs,roots[r]? =some (.box b cs)->∃as,sm[J r]? =some (.arr cs.length [as])/\VRL J roots cs as)
  (hg1:∀(r:Nat) x,roots[r]? =some x->x.alive=true->g (rhoC nin F r)=J r)(hg2:∀(k j:Nat),(zgW fp roots.length)[k]? =some j->g (F+(roots.length-nin)+k)=j):
  (∀(i:Nat)(e:Ent),(endM nin F roots)[i]? =some e->e.live=true->sm[g i]? =some (e.ren g))/\
  (∀(r k i j:Nat),(fpC nin F roots r)[k]? =some i->(fp r)[k]? =some j->g i=j)/\(∀r,r<roots.length->(fpC nin F roots r).length=(fp r).length):=by
 have lens:∀(r:Nat),r<roots.length->(fpC nin F roots r).length=(fp r).length:=by
  intro r hr
  obtain⟨k,_,g2,_⟩:=zaB (J:=rhoC nin F) (mem:=roots) roots (F+(roots.length-nin)) r _ (ygb hr)
  unfold fpC
  rw[List.getD_eq_getElem?_getD,g2]
  simp only[Option.getD_some,List.length_range']
  exact zou hok how (ygb hr)
 have feet:∀(r k i j:Nat),(fpC nin F roots r)[k]? =some i->(fp r)[k]? =some j->g i=j:=by
  intro r k i j hi hj
  rcases zeM (nin:=nin) (F:=F) (roots:=roots) r with⟨h,_⟩|h
  ·rw[h]at hi;simp at hi
  ·have hrl:r<roots.length:=by
    have:=(yga.1 h).1
    rw[(zao roots _).2]at this;exact this
   have hfps:((List.range roots.length).map fp)[r]? =some (fp r):=by simp[hrl]
   obtain⟨q1,q2⟩:=zh5 (J:=rhoC nin F) (mem:=roots) roots (F+(roots.length-nin)) ((List.range roots.length).map fp) (by simp) (fun q a b ha hb=>by
    have hql:q<roots.length:=by
     have:=(yga.1 ha).1
     rw[(zao roots _).2]at this;exact this
    have:=lens q hql
    unfold fpC at this
    rw[List.getD_eq_getElem?_getD,ha]at this
    simp[hql]at hb
    subst hb
    exact this) r _ _ k i j h hfps hi hj
   have:=hg2 (i-(F+(roots.length-nin))) j q2
   rw[show F+(roots.length-nin)+(i-(F+(roots.length-nin)))=i by omega]at this
   exact this
 refine⟨fun i e hi hlv=>?_,feet,lens⟩
 have each:∀(r:Nat) x,roots[r]? =some x->x.alive=true->∃k,(zag (rhoC nin F) roots (F+(roots.length-nin)) roots).1[r]? =some (zaz (rhoC nin F) roots (F+(roots.length-nin)+k) x).1/\
   fpC nin F roots r=List.range' (F+(roots.length-nin)+k) (zaz (rhoC nin F) roots (F+(roots.length-nin)+k) x).2.length/\
   (∀(j:Nat)(e:Ent),(zaz (rhoC nin F) roots (F+(roots.length-nin)+k) x).2[j]? =some e->(zag (rhoC nin F) roots (F+(roots.length-nin)) roots).2.1[k+j]? =some e)/\
   sm[J r]? =some ((zaz (rhoC nin F) roots (F+(roots.length-nin)+k) x).1.ren g)/\
   ∀(j:Nat)(e:Ent),(zaz (rhoC nin F) roots (F+(roots.length-nin)+k) x).2[j]? =some e->sm[g (F+(roots.length-nin)+k+j)]? =some (e.ren g):=by
  intro r x hr ha
  obtain⟨k,g1,g2,g3,g4⟩:=zaB (J:=rhoC nin F) (mem:=roots) roots (F+(roots.length-nin)) r x hr
  have gf:fpC nin F roots r=List.range' (F+(roots.length-nin)+k) (zaz (rhoC nin F) roots (F+(roots.length-nin)+k) x).2.length:=by unfold fpC;rw[List.getD_eq_getElem?_getD,g2];rfl
  refine⟨k,g1,gf,g3,?_⟩
  cases x with
  | dead=>cases ha
  | box b cs =>
   obtain⟨as,b1,b2⟩:=hbox r b cs hr
   refine⟨?_,fun j e hj=>by simp[zaz]at hj⟩
   rw[b1,VRL.encR (hok.sol r b cs hr) b2]
   simp only[zaz,Ent.ren,List.map_cons,List.map_nil]
   rw[zfd g cs (hok.sol r b cs hr),zdd (J:=fun r=>g (rhoC nin F r)) (ρ':=J) hg1 cs (hok.sol r b cs hr)]
  | arr t xs w =>
   have hA:=how.rel r t xs w hr
   have hw:=hok.shut r t xs w hr
   cases w with
   | op _ _ _=>cases hw
   | no =>
    simp only[zaz,zoo,zdf]
    refine⟨?_,fun j e hj=>by simp at hj⟩
    rw[hA.1]
    simp only[Ent.ren,Option.some.injEq,Ent.arr.injEq,yhn]
    rw[List.map_map]
    refine List.map_congr_left fun y _=>?_
    simp only[Function.comp]
    rw[show(zaf t y).map (AV.ren g)=(zaf t y).map id from List.map_congr_left fun c hc=>AV.ren_pure g c ((AV.pureL_iff _).1 (zdZ t y) c hc),List.map_id]
   | cl os =>
    obtain⟨rows,q1,q2⟩:=hA
    simp only[zaz,zoo]at gf|-
    obtain⟨p1,p2,p3⟩:=q2.lay (F+(roots.length-nin)+k) g fun k' j hj=>by
     refine feet r k' _ j ?_ hj
     rw[gf,List.getElem?_range' (by
      have:=lens r (yga.1 hr).1
      rw[gf,List.length_range']at this
      have:=(yga.1 hj).1
      omega)]
     simp
    refine⟨by rw[q1,p1];rfl,fun j e hj=>?_⟩
    have hjl:=(yga.1 hj).1
    have hf:(fp r)[j]? =some ((fp r)[j]'(by omega)):=ygb _
    have:=feet r j (F+(roots.length-nin)+k+j) _ (by rw[gf,List.getElem?_range' hjl];simp) hf
    rw[this]
    exact p3 j e _ hj hf
 rcases zec h1 h2 hi with⟨r,x,hr,rfl⟩|⟨rfl,_⟩|⟨k,rfl,hk⟩
 ·rw[zbO h1 h2 (yga.1 hr).1]at hi
  by_cases ha:x.alive=true
  ·obtain⟨k,q1,_,_,q4,_⟩:=each r x hr ha
   rw[q1]at hi;cases hi
   rw[hg1 r x hr ha];exact q4
  ·obtain⟨k,q1,_⟩:=zaB (J:=rhoC nin F) (mem:=roots) roots (F+(roots.length-nin)) r x hr
   rw[q1]at hi;cases hi
   cases x<;>simp[Root.alive]at ha
   simp[zaz]at hlv
 ·simp at hlv
 ·have hkl:=(yga.1 hk).1
  have hm:F+(roots.length-nin)+k∈(zag (rhoC nin F) roots (F+(roots.length-nin)) roots).2.2.flatten:=by
   rw[zaY,List.mem_range'_1];omega
  obtain⟨a,ha,hia⟩:=List.mem_flatten.1 hm
  obtain⟨r,hra⟩:=List.getElem?_of_mem ha
  have hrl:r<roots.length:=by
   have:=(yga.1 hra).1
   rw[(zao roots _).2]at this;exact this
  have hr:roots[r]? =some roots[r]:=ygb _
  have hfa:fpC nin F roots r=a:=by unfold fpC;rw[List.getD_eq_getElem?_getD,hra];rfl
  generalize roots[r]=x at hr
  have hal:x.alive=true:=by
   cases x with
   | dead =>
    obtain⟨k',_,q2,_⟩:=zaB (J:=rhoC nin F) (mem:=roots) roots (F+(roots.length-nin)) r _ hr
    rw[hra]at q2;cases q2;simp[zaz]at hia
   | arr _ _ _=>rfl
   | box _ _=>rfl
  obtain⟨k',q1,q2,q3,q4,q5⟩:=each r x hr hal
  rw[<-hfa,q2,List.mem_range'_1]at hia
  obtain⟨j,hj⟩:∃j,k=k'+j:=⟨k-k',by omega⟩
  subst hj
  have hjl:j<(zaz (rhoC nin F) roots (F+(roots.length-nin)+k') x).2.length:=by omega
  have:=q3 j _ (ygb hjl)
  rw[hk]at this
  cases this
  have:=q5 j _ (ygb hjl)
  rw[Nat.add_assoc]at this
  exact this
theorem zgV{A:Type}:∀(L M:List (List A)),L.length=M.length->(∀(r:Nat) a b,L[r]? =some a->M[r]? =some b->a.length=b.length)->L.flatten.length=M.flatten.length
 | [],[],_,_=>rfl
 | [],_:: _,h,_|_:: _,[],h,_=>by simp at h
 | a:: L,b:: M,h,hl=>by
  simp only[List.flatten_cons,yhr]
  rw[hl 0 a b rfl rfl,zgV L M (by simpa using h) fun r x y h1 h2=>hl (r+1) x y (by simpa using h1) (by simpa using h2)]
theorem zpe(hlen:∀r,r<roots.length->(fpC nin F roots r).length=(fp r).length):(zag (rhoC nin F) roots (F+(roots.length-nin)) roots).2.1.length=(zgW fp roots.length).length:=by
 have h1:(zag (rhoC nin F) roots (F+(roots.length-nin)) roots).2.1.length=(zag (rhoC nin F) roots (F+(roots.length-nin)) roots).2.2.flatten.length:=by rw[zaY,List.length_range']
 rw[h1]
 refine zgV _ _ (by simp[(zao roots _).2]) fun r a b ha hb=>?_
 have hrl:r<roots.length:=by
  have:=(yga.1 ha).1
  rw[(zao roots _).2]at this;exact this
 have:=hlen r hrl
 unfold fpC at this
 rw[List.getD_eq_getElem?_getD,ha]at this
 simp[hrl]at hb
 subst hb
 exact this
theorem zgX(how:OwA J roots sm fp):∀n,(zgW fp n).Nodup
 | 0=>List.nodup_nil
 | n+1=>by
  have:zgW fp (n+1)=zgW fp n++fp n:=by simp[zgW,List.range_succ]
  rw[this]
  refine List.nodup_append.2 ⟨zgX how n,how.nd n,fun i hi j hj e=>?_⟩
  subst e
  obtain⟨r,hr,hir⟩:=zjB.1 hi
  exact how.dj r n (by omega) i hir hj
mutual
theorem OwC.bel{sm:List Ent}{N:Nat}:∀{o:Option OS}{v:V}{a:AV}{fp:List Nat},OwC sm o v a fp->(∀i∈fp,i<N)->a.bel N=true/\∀i∈fp,∀e,sm[i]? =some e->e.bel N
 | _,_,a,_,.leaf hp h,_=>⟨AV.bel_pure (VR.pur h hp),by simp⟩
 | _,_,a,_,.other hl hp h,_=>⟨AV.bel_pure (VR.pur h hp),by simp⟩
 | _,_,_,_,.own hi h,hN=>by
  obtain⟨h1,h2⟩:=h.bel fun i hi=>hN i (by simp[hi])
  refine⟨by simp only[AV.bel,yhc];exact hN _ (by simp),fun i hi' e he=>?_⟩
  rcases List.mem_cons.1 hi' with rfl|hi'
  ·rw[hi]at he;cases he;exact h1
  ·exact h2 i hi' e he
theorem OwCs.bel{sm:List Ent}{N:Nat}:∀{os:OS}{off:Nat}{vs:List V}{as:List AV}{fp:List Nat},OwCs sm os off vs as fp->(∀i∈fp,i<N)->(∀a∈as,a.bel N=true)/\∀i∈fp,∀e,sm[i]? =some e->e.bel N
 | _,_,_,_,_,.nil,_=>⟨by simp,by simp⟩
 | _,_,_,_,_,.cons h hs,hN=>by
  obtain⟨h1,h2⟩:=h.bel fun i hi=>hN i (by simp[hi])
  obtain⟨h3,h4⟩:=hs.bel fun i hi=>hN i (by simp[hi])
  refine⟨fun a ha=>?_,fun i hi e he=>?_⟩
  ·rcases List.mem_cons.1 ha with rfl|ha
   ·exact h1
   ·exact h3 a ha
  ·rcases List.mem_append.1 hi with hi|hi
   ·exact h2 i hi e he
   ·exact h4 i hi e he
theorem OwRs.bel{sm:List Ent}{N:Nat}:∀{os:OS}{t:Ty}{xs:List (TV t)}{rows:List (List AV)}{fp:List Nat},OwRs sm os t xs rows fp->(∀i∈fp,i<N)->(∀r∈rows,∀a∈r,a.bel N=true)/\∀i∈fp,∀e,sm[i]? =some e->e.bel N
 | _,_,_,_,_,.nil,_=>⟨by simp,by simp⟩
 | _,_,_,_,_,.cons h hs,hN=>by
  obtain⟨h1,h2⟩:=h.bel fun i hi=>hN i (by simp[hi])
  obtain⟨h3,h4⟩:=hs.bel fun i hi=>hN i (by simp[hi])
  refine⟨fun a ha=>?_,fun i hi e he=>?_⟩
  ·rcases List.mem_cons.1 ha with rfl|ha
   ·exact h1
   ·exact h3 a ha
  ·rcases List.mem_append.1 hi with hi|hi
   ·exact h2 i hi e he
   ·exact h4 i hi e he
end
theorem zlr(h1:nin<=roots.length)(h2:nin<=F)(hok:OkRs roots):∀e∈endM nin F roots,e.bel (endM nin F roots).length:=by
 intro e he
 obtain⟨i,hi⟩:=List.getElem?_of_mem he
 have how:=zff h1 h2 hok
 have hroot:∀(r:Nat) x,roots[r]? =some x->x.alive=true->rhoC nin F r<(endM nin F roots).length:=fun r x hx _=>by
  have:=zkU h1 h2 (yga.1 hx).1
  rw[zfg h1 h2];omega
 have hfoot:∀(r:Nat),∀i∈fpC nin F roots r,i<(endM nin F roots).length:=fun r i hi=>how.lt r i hi
 have arr:∀(r:Nat) t xs w,roots[r]? =some (.arr t xs w)->(∀e,(endM nin F roots)[rhoC nin F r]? =some e->e.bel (endM nin F roots).length)/\∀i∈fpC nin F roots r,∀e,(endM nin F roots)[i]? =some e->e.bel (endM nin F roots).length:=by
  intro r t xs w hr
  have hA:=how.rel r t xs w hr
  have hw:=hok.shut r t xs w hr
  cases w with
  | op _ _ _=>cases hw
  | no =>
   refine⟨fun e he=>?_,by rw[hA.2];simp⟩
   rw[hA.1]at he;cases he
   intro row hrow c hc
   obtain⟨y,_,rfl⟩:=List.mem_map.1 hrow
   exact AV.bel_pure ((AV.pureL_iff _).1 (zdZ t y) c hc)
  | cl os =>
   obtain⟨rows,q1,q2⟩:=hA
   obtain⟨p1,p2⟩:=q2.bel (hfoot r)
   refine⟨fun e he=>?_,p2⟩
   rw[q1]at he;cases he
   exact p1
 rcases zec h1 h2 hi with⟨r,x,hr,rfl⟩|⟨rfl,_⟩|⟨k,rfl,hk⟩
 ·cases x with
  | dead =>
   rw[zbO h1 h2 (yga.1 hr).1]at hi
   obtain⟨k,q1,_⟩:=zaB (J:=rhoC nin F) (mem:=roots) roots (F+(roots.length-nin)) r _ hr
   rw[q1]at hi;cases hi;trivial
  | arr t xs w=>exact(arr r t xs w hr).1 e hi
  | box b cs =>
   rw[zbO h1 h2 (yga.1 hr).1]at hi
   obtain⟨k,q1,_⟩:=zaB (J:=rhoC nin F) (mem:=roots) roots (F+(roots.length-nin)) r _ hr
   rw[q1]at hi;cases hi
   intro row hrow c hc
   simp only[List.mem_singleton]at hrow
   subst hrow
   exact(AV.belL_iff _).1 (zfc hroot cs (hok.sol r b cs hr)) c hc
 ·trivial
 ·have hkl:=(yga.1 hk).1
  have hm:F+(roots.length-nin)+k∈(zag (rhoC nin F) roots (F+(roots.length-nin)) roots).2.2.flatten:=by
   rw[zaY,List.mem_range'_1];omega
  obtain⟨a,ha,hia⟩:=List.mem_flatten.1 hm
  obtain⟨r,hra⟩:=List.getElem?_of_mem ha
  have hrl:r<roots.length:=by
   have:=(yga.1 hra).1
   rw[(zao roots _).2]at this;exact this
  have hfa:fpC nin F roots r=a:=by unfold fpC;rw[List.getD_eq_getElem?_getD,hra];rfl
  have hr:roots[r]? =some roots[r]:=ygb _
  generalize roots[r]=x at hr
  rw[<-hfa]at hia
  cases x with
  | arr t xs w=>exact(arr r t xs w hr).2 _ hia e hi
  | dead=>rw[how.nil r (fun t xs w e=>by rw[hr]at e;cases e)]at hia;simp at hia
  | box b cs=>rw[how.nil r (fun t xs w e=>by rw[hr]at e;cases e)]at hia;simp at hia
end
end Go.Fw
namespace Go.Fw
open Go
variable [Pin]
mutual
def Sh.sol(rk:List RK):Sh->Bool
 | .no|.part _=>false
 | .own r|.mpa r _=>match rk[r]? with
  | some (.arr _ _)=>true
  | _=>false
 | .mpb r _=>match rk[r]? with
  | some (.box _ _)=>true
  | _=>false
 | .agg ss|.tup ss|.fn _ ss=>Sh.solL rk ss
 | .ip ss=>Sh.purL ss
 | .int _|.bool|.str|.lst _|.st _|.ep _|.e0|.nl _|.nilp|.nilf=>true
def Sh.solL(rk:List RK):List Sh->Bool
 | []=>true
 | s:: ss=>s.sol rk&&Sh.solL rk ss
end
def zot(rk:List RK):Bool:=rk.all fun k=>match k with
 | .box _ ss=>Sh.solL rk ss&&ss.all Sh.isC
 | _=>true
def wfE(e:TE):Bool:=Sh.solL e.rin e.ash&&zot e.rin&&Sh.sol e.rout e.rsh&&zot e.rout&&Nat.ble e.rin.length e.rout.length&&e.rin.all fun k=>match k with
 | .dead=>false
 | _=>true
def RkR(rk:List RK)(roots:List Root):Prop:=roots.length=rk.length/\∀(r:Nat) k,rk[r]? =some k->∃x:Dat k.sh,roots[r]? =some (zbV k (mkV k.sh x))
theorem zfp(a:List Sh)(rk:List RK)(d:DatL (a++rk.map RK.sh)):RkR rk (zdX rk ((mkVL (a++rk.map RK.sh) d).drop a.length)):=by
 have hl:rk.length=((mkVL (a++rk.map RK.sh) d).drop a.length).length:=by simp[zcu]
 refine⟨zgx _ _ hl,fun r k hk=>?_⟩
 obtain⟨x,hx⟩:=ziy (a++rk.map RK.sh) d (a.length+r) k.sh (by rw[ygf (by omega),Nat.add_sub_cancel_left,List.getElem?_map,hk];rfl)
 exact⟨x,zix rk _ r k _ hk (by rw[List.getElem?_drop];exact hx)⟩
theorem zbC{t:Ty}{os:OS}(x:Dat (RK.arr t os).sh):zbV (.arr t os) (mkV (RK.arr t os).sh x)=.arr t x (zkc os):=by simp[zbV,mkV,RK.sh]
theorem zcU{b:BT}{ss:List Sh}(x:Dat (RK.box b ss).sh):zbV (.box b ss) (mkV (RK.box b ss).sh x)=.box b (mkVL ss x):=by simp[zbV,mkV,RK.sh]
section
variable {rk:List RK}{roots:List Root}
mutual
theorem zkK(h:RkR rk roots):∀(s:Sh)(d:Dat s),s.sol rk=true->(mkV s d).sol roots=true
 | .no,_,hh|.part _,_,hh=>by simp[Sh.sol]at hh
 | .own r,d,hh=>by
  simp only[Sh.sol]at hh
  split at hh
  ·rename_i t os e
   obtain⟨x,hx⟩:=h.2 r _ e
   rw[zbC]at hx
   simp only[mkV,V.sol,hx]
  ·cases hh
 | .mpa r off,d,hh=>by
  simp only[Sh.sol]at hh
  split at hh
  ·rename_i t os e
   obtain⟨x,hx⟩:=h.2 r _ e
   rw[zbC]at hx
   simp only[mkV,V.sol,hx]
  ·cases hh
 | .mpb r off,d,hh=>by
  simp only[Sh.sol]at hh
  split at hh
  ·rename_i t os e
   obtain⟨x,hx⟩:=h.2 r _ e
   rw[zcU]at hx
   simp only[mkV,V.sol,hx];rfl
  ·cases hh
 | .ip ss,d,hh=>by simp only[mkV,V.sol];exact zei ss d (by simpa[Sh.sol]using hh)
 | .agg ss,d,hh|.tup ss,d,hh|.fn _ ss,d,hh=>by simp only[mkV,V.sol];exact ziB h ss d (by simpa[Sh.sol]using hh)
 | .int _,_,_|.bool,_,_|.str,_,_|.lst _,_,_|.st _,_,_|.ep _,_,_|.e0,_,_|.nl _,_,_|.nilp,_,_|.nilf,_,_=>by simp[mkV,V.sol]
theorem ziB(h:RkR rk roots):∀(ss:List Sh)(d:DatL ss),Sh.solL rk ss=true->V.solL roots (mkVL ss d)=true
 | [],_,_=>rfl
 | s:: ss,d,hh=>by
  simp only[Sh.solL,yhb]at hh
  simp only[mkVL,V.solL,yhb]
  exact⟨zkK h s _ hh.1,ziB h ss _ hh.2⟩
end
theorem RkR.back(h:RkR rk roots){r:Nat}{y:Root}(hr:roots[r]? =some y):∃k,rk[r]? =some k/\∃x:Dat k.sh,y=zbV k (mkV k.sh x):=by
 have hl:r<rk.length:=by rw[<-h.1];exact(yga.1 hr).1
 obtain⟨x,hx⟩:=h.2 r _ (ygb hl)
 rw[hr]at hx
 exact⟨_,ygb hl,x,Option.some.inj hx⟩
theorem RkR.ok(h:RkR rk roots)(hs:zot rk=true):OkRs roots:=by
 have hs:=List.all_eq_true.1 hs
 refine⟨fun r t xs w hr=>?_,fun r b cs hr=>?_,fun r b cs hr=>?_⟩
 ·obtain⟨k,hk,x,e⟩:=h.back hr
  cases k with
  | dead=>simp[zbV]at e
  | arr t' os=>rw[zbC]at e;cases e;exact zjT os
  | box b ss=>rw[zcU]at e;cases e
 ·obtain⟨k,hk,x,e⟩:=h.back hr
  cases k with
  | dead=>simp[zbV]at e
  | arr t' os=>rw[zbC]at e;cases e
  | box b' ss =>
   rw[zcU]at e;cases e
   have:=hs _ (ygd hk)
   simp only[yhb]at this
   exact ziz ss x this.2
 ·obtain⟨k,hk,x,e⟩:=h.back hr
  cases k with
  | dead=>simp[zbV]at e
  | arr t' os=>rw[zbC]at e;cases e
  | box b' ss =>
   rw[zcU]at e;cases e
   have:=hs _ (ygd hk)
   simp only[yhb]at this
   exact ziB h ss x this.1
end
def argE(e:TE)(d:DatL (e.ash++e.rin.map RK.sh)):List V:=(mkVL (e.ash++e.rin.map RK.sh) d).take e.ash.length
def rinE(e:TE)(d:DatL (e.ash++e.rin.map RK.sh)):List Root:=zdX e.rin ((mkVL (e.ash++e.rin.map RK.sh) d).drop e.ash.length)
def resE(e:TE)(r:DatL (e.rsh:: e.rout.map RK.sh)):V:=(mkVL (e.rsh:: e.rout.map RK.sh) r).headD .junk
def routE(e:TE)(r:DatL (e.rsh:: e.rout.map RK.sh)):List Root:=zdX e.rout ((mkVL (e.rsh:: e.rout.map RK.sh) r).drop 1)
def inM(e:TE)(d:DatL (e.ash++e.rin.map RK.sh)):List Ent:=endM e.rin.length e.rin.length (rinE e d)
structure TEok (P:Program)(e:TE):Prop where
 wf:wfE e=true
 ok:∀d r,e.F d=some r->Spec P e.f (encRL id (rinE e d) (argE e d)) (inM e d) (fun r' m'=>r'=encR (rhoC e.rin.length (inM e d).length) (routE e r) (resE e r)/\m'=endM e.rin.length (inM e d).length (routE e r))
theorem zeo:∀(mem:List Root)(o:List Nat)(l:List Root),(zld mem o l).length=mem.length
 | mem,[],l=>by cases l<;>rfl
 | mem,r:: o,[]=>rfl
 | mem,r:: o,x:: l=>by simp only[zld];rw[zeo];simp
theorem zi0{q:Nat}:∀(mem:List Root)(o:List Nat)(l:List Root),q∉o->(zld mem o l)[q]? =mem[q]?
 | mem,[],l,_=>by cases l<;>rfl
 | mem,r:: o,[],_=>rfl
 | mem,r:: o,x:: l,h=>by
  simp only[List.mem_cons,not_or]at h
  simp only[zld];rw[zi0 _ o l h.2,ygg (fun e=>h.1 e.symm)]
theorem zoU:∀(mem:List Root)(o:List Nat)(l:List Root),o.Nodup->∀(j r:Nat) x,o[j]? =some r->l[j]? =some x->r<mem.length->(zld mem o l)[r]? =some x
 | mem,[],l,_,j,r,x,h,_,_=>by simp at h
 | mem,q:: o,[],_,j,r,x,_,h,_=>by simp at h
 | mem,q:: o,y:: l,hn,j,r,x,hj,hx,hr=>by
  obtain⟨n1,n2⟩:=List.nodup_cons.1 hn
  simp only[zld]
  cases j with
  | zero =>
   simp at hj hx;subst hj hx
   rw[zi0 _ o l n1,List.getElem?_set_self hr]
  | succ j=>exact zoU _ o l n2 j r x (by simpa using hj) (by simpa using hx) (by simpa using hr)
theorem zbU{o:List Nat}{n j r:Nat}(h:o[j]? =some r):zfy o n j=r:=by
 have hl:=(yga.1 h).1
 unfold zfy
 rw[show Nat.blt j o.length=true from Nat.ble_eq_true_of_le hl]
 simp[List.getD,h]
theorem zdY{o:List Nat}{n j:Nat}(h:o.length<=j):zfy o n j=n+(j-o.length):=by
 unfold zfy
 rw[show Nat.blt j o.length=false by
  cases e:Nat.blt j o.length with
  | false=>rfl
  | true=>have:=Nat.le_of_ble_eq_true e;omega]
theorem zgp:∀(l:List Nat),zfr l=true->l.Nodup
 | [],_=>List.nodup_nil
 | x:: l,h=>by
  simp only[zfr,yhb,yho,List.contains_eq_mem,yhd]at h
  exact List.nodup_cons.2 ⟨h.1,zgp l h.2⟩
mutual
theorem zjr{ρ':Nat->Nat}{mem':List Root}{g p:Nat->Nat}{ρc:Nat->Nat}{roots:List Root}(h:∀(q:Nat) y,roots[q]? =some y->mem'[p q]? =some (y.ren p)/\ρ' (p q)=g (ρc q)):∀(v:V),v.sol roots=true->VR ρ' mem' (v.ren p) ((encR ρc roots v).ren g)
 | .junk,hh|.part ..,hh=>by simp[V.sol]at hh
 | .own r,hh=>by
  simp only[V.sol]at hh
  split at hh
  ·rename_i t xs w e
   obtain⟨h1,h2⟩:=h r _ e
   simp only[Root.ren]at h1
   simp only[encR,e,AV.ren,V.ren,VR,zet,h1,h2]
  ·cases hh
 | .mp r row off,hh=>by
  simp only[V.sol]at hh
  split at hh
  ·rename_i t xs w e
   obtain⟨h1,h2⟩:=h r _ e
   simp only[Root.ren]at h1
   simp only[encR,e,AV.ren,V.ren,VR,mpR,h1,h2]
  ·rename_i b cs e
   obtain⟨h1,h2⟩:=h r _ e
   simp only[Root.ren]at h1
   simp only[encR,e,AV.ren,V.ren,VR,mpR,h1,h2]
   exact⟨trivial,za7 hh⟩
  ·cases hh
 | .int _ _,_|.bool _,_|.str _,_|.lst _ _,_|.nl _,_|.e0,_|.nilp,_|.nilf,_=>by simp[encR,AV.ren,V.ren,VR]
 | .ep n x,_=>by simp only[encR,V.ren,VR];exact AV.ren_pure g _ (by simp)
 | .st n x,_=>by simp only[encR,V.ren,VR];exact AV.ren_pure g _ (by simpa using zb4 n x)
 | .ip cs,hh=>by
  have hp:V.purL cs=true:=by simpa[V.sol]using hh
  simp only[encR,V.ren]
  rw[ziK p cs hp,AV.ren_pure g _ (by simp)]
  simp only[VR];exact⟨_,rfl,zdc cs hp⟩
 | .agg cs,hh|.tup cs,hh|.fn _ cs,hh=>by
  simp only[encR,AV.ren,V.ren,VR]
  rw[AV.renL_eq]
  exact⟨_,rfl,zgP h cs (by simpa[V.sol]using hh)⟩
theorem zgP{ρ':Nat->Nat}{mem':List Root}{g p:Nat->Nat}{ρc:Nat->Nat}{roots:List Root}(h:∀(q:Nat) y,roots[q]? =some y->mem'[p q]? =some (y.ren p)/\ρ' (p q)=g (ρc q)):∀(cs:List V),V.solL roots cs=true->VRL ρ' mem' (V.renL p cs) ((encRL ρc roots cs).map (AV.ren g))
 | [],_=>by simp[V.renL,encRL,VRL]
 | c:: cs,hh=>by
  simp only[V.solL,yhb]at hh
  simp only[V.renL,encRL,List.map_cons]
  exact .cons (zjr h c hh.1) (zgP h cs hh.2)
end
theorem zo7{ρ':Nat->Nat}{mem':List Root}{g p:Nat->Nat}{ρc:Nat->Nat}{roots:List Root}(h:∀(q:Nat) y,roots[q]? =some y->mem'[p q]? =some (y.ren p)/\ρ' (p q)=g (ρc q)):
  (∀(v:V),v.sol roots=true->VR ρ' mem' (v.ren p) ((encR ρc roots v).ren g))/\∀(cs:List V),V.solL roots cs=true->VRL ρ' mem' (V.renL p cs) ((encRL ρc roots cs).map (AV.ren g)):=⟨zjr h,zgP h⟩
theorem zrb(f:Nat->Nat)(v:V):(v.ren f).isC=v.isC:=by cases v<;>simp[V.ren,V.isC]
theorem ziJ(f:Nat->Nat):∀cs:List V,cs.all V.isC=true->(V.renL f cs).all V.isC=true
 | [],_=>rfl
 | c:: cs,h=>by
  simp only[List.all_cons,yhb]at h
  simp only[V.renL,List.all_cons,yhb,zrb]
  exact⟨h.1,ziJ f cs h.2⟩
theorem zjS(n:Nat):∀a:List Nat,memB n a=true↔n∈a
 | []=>by simp[memB]
 | x:: a=>by
  simp only[memB,List.mem_cons]
  cases h:Nat.beq n x with
  | true=>simp[Nat.eq_of_beq_eq_true h]
  | false=>simp[Nat.ne_of_beq_eq_false h,zjS n a]
theorem zf4{g:Nat->Nat}:∀{l:List Nat},l.Nodup->(∀a∈l,∀b∈l,g a=g b->a=b)->(l.map g).Nodup
 | [],_,_=>List.nodup_nil
 | x:: l,hn,hg=>by
  obtain⟨n1,n2⟩:=List.nodup_cons.1 hn
  refine List.nodup_cons.2 ⟨fun hm=>?_,zf4 n2 fun a ha b hb=>hg a (by simp[ha]) b (by simp[hb])⟩
  obtain⟨y,hy,e⟩:=List.mem_map.1 hm
  exact n1 (by rw[<-hg y (by simp[hy]) x (by simp) e];exact hy)
theorem zra{is:List Nat}{N:Nat}(hnd:is.Nodup)(hlt:∀i∈is,i<N){a b:Nat}(h:Go.Fw.ren is N a=Go.Fw.ren is N b):a=b:=by
 by_cases ha:a<is.length<;>by_cases hb:b<is.length
 ·have h1:is[a]? =some is[a]:=ygb ha
  have h2:is[b]? =some is[b]:=ygb hb
  rw[zbA h1,zbA h2]at h
  exact zcS is hnd a b _ h1 (by rw[h2,h])
 ·have h1:is[a]? =some is[a]:=ygb ha
  rw[zbA h1]at h
  unfold Go.Fw.ren at h;rw[if_neg hb]at h
  have:=hlt _ (ygd h1);omega
 ·have h2:is[b]? =some is[b]:=ygb hb
  rw[zbA h2]at h
  unfold Go.Fw.ren at h;rw[if_neg ha]at h
  have:=hlt _ (ygd h2);omega
 ·unfold Go.Fw.ren at h;rw[if_neg ha,if_neg hb]at h;omega
section
variable {J:Nat->Nat}{T:TS}{st:St}{fp:Nat->List Nat}
theorem zjR{mem m':List Ent}{is:List Nat}(hnd:is.Nodup)(hlt:∀i∈is,i<mem.length)(hl:is.length<=m'.length){i:Nat}{e:Ent}(hi:m'[i]? =some e):(za5 mem is m')[Go.Fw.ren is mem.length i]? =some (e.ren (Go.Fw.ren is mem.length)):=by
 unfold za5
 by_cases h:i<is.length
 ·have hg:is[i]? =some is[i]:=ygb h
  rw[zbA hg,yge (by rw[zaw];exact hlt _ (ygd hg))]
  exact zhv mem is _ hnd i _ _ hg (by rw[List.getElem?_map,List.getElem?_take,if_pos h,hi];rfl) (hlt _ (ygd hg))
 ·have:Go.Fw.ren is mem.length i=mem.length+(i-is.length):=by unfold Go.Fw.ren;rw[if_neg h]
  rw[this,ygf (by rw[zaw];omega),zaw,Nat.add_sub_cancel_left,List.getElem?_map,List.getElem?_drop,show is.length+(i-is.length)=i by omega,hi]
  rfl
theorem zgo{mem m':List Ent}{is:List Nat}{i:Nat}(h:i∉is)(hl:i<mem.length):(za5 mem is m')[i]? =mem[i]?:=by
 unfold za5
 rw[yge (by rw[zaw];exact hl),zgd mem i is _ h]
theorem TR.after{o L:List Nat}{roots:List Root}(h:TR J T st)(how:OwA J T.mem st.mem fp)(hnd:o.Nodup)(halive:∀r∈o,∃x,T.mem[r]? =some x/\x.alive=true)(hLnd:(o.map J++L).Nodup)(hL:∀i∈L,∃r∈o,i∈fp r)
  (hok:OkRs roots)(hnin:o.length<=roots.length)
  (hkp:∀(j r:Nat),o[j]? =some r->∃y,roots[j]? =some y/\(y=.dead\/(∃t xs w xs' w',T.mem[r]? =some (.arr t xs w)/\y=.arr t xs' w'/\xs'.length=xs.length)\/∃b ds b' ds',T.mem[r]? =some (.box b ds)/\y=.box b' ds')):
  ∃ρ',(∀q,q<T.mem.length->ρ' q=J q)/\(∀v,v.sol roots=true->VR ρ' (zld T.mem o (roots.map (Root.ren (zfy o T.mem.length)))++(roots.map (Root.ren (zfy o T.mem.length))).drop o.length) (v.ren (zfy o T.mem.length)) ((encR (rhoC o.length (o.map J++L).length) roots v).ren (Go.Fw.ren (o.map J++L) st.mem.length)))/\
   TR ρ' ⟨T.env,zld T.mem o (roots.map (Root.ren (zfy o T.mem.length)))++(roots.map (Root.ren (zfy o T.mem.length))).drop o.length⟩ ⟨st.env,za5 st.mem (o.map J++L) (endM o.length (o.map J++L).length roots)⟩:=by
 have hFn:o.length<=(o.map J++L).length:=by simp
 have hlt:∀i∈o.map J++L,i<st.mem.length:=by
  intro i hi
  rcases List.mem_append.1 hi with hi|hi
  ·obtain⟨r,hr,rfl⟩:=List.mem_map.1 hi
   obtain⟨x,hx,ha⟩:=halive r hr
   exact h.lt r x hx ha
  ·obtain⟨r,_,hr⟩:=hL i hi
   exact how.lt r i hr
 have his:∀(j r:Nat),o[j]? =some r->(o.map J++L)[j]? =some (J r):=fun j r hj=>by
  rw[yge (by simpa using(yga.1 hj).1),List.getElem?_map,hj];rfl
 have hnotis:∀(r:Nat) x,T.mem[r]? =some x->x.alive=true->r∉o->J r∉o.map J++L:=fun r x hx ha hr hi=>by
  rcases List.mem_append.1 hi with hi|hi
  ·obtain⟨q,hq,e⟩:=List.mem_map.1 hi
   obtain⟨y,hy,hya⟩:=halive q hq
   exact hr (by rw[<-h.inj q r y x hy hya hx ha e];exact hq)
  ·obtain⟨q,_,hq⟩:=hL _ hi
   exact how.rt r q x hx ha hq
 have hnotisF:∀(r:Nat),r∉o->∀i∈fp r,i∉o.map J++L:=fun r hr i hi his=>by
  rcases List.mem_append.1 his with hi'|hi'
  ·obtain⟨q,hq,e⟩:=List.mem_map.1 hi'
   obtain⟨y,hy,hya⟩:=halive q hq
   exact how.rt q r y hy hya (by rw[e];exact hi)
  ·obtain⟨q,hq,hq'⟩:=hL _ hi'
   exact how.dj r q (fun e=>hr (by rw[e];exact hq)) i hi hq'
 have ow:=zff (F:=(o.map J++L).length) hnin hFn hok
 have hel:=zfg (roots:=roots) hnin hFn
 generalize hF:(o.map J++L).length=F at *
 generalize his0:o.map J++L=is at *
 have hFl:is.length=F:=hF
 have hmlen:is.length<=(endM o.length F roots).length:=by rw[hel,hFl];omega
 have hat:∀{i:Nat}{e:Ent},(endM o.length F roots)[i]? =some e->(za5 st.mem is (endM o.length F roots))[Go.Fw.ren is st.mem.length i]? =some (e.ren (Go.Fw.ren is st.mem.length)):=fun hi=>zjR hLnd hlt hmlen hi
 have holt:∀r∈o,r<T.mem.length:=fun r hr=>let⟨x,hx,_⟩:=halive r hr;(yga.1 hx).1
 let n:=T.mem.length
 let N:=st.mem.length
 let g:=Go.Fw.ren is N
 let rs:=roots.map (Root.ren (zfy o n))
 let mem':=zld T.mem o rs++rs.drop o.length
 let ρ':Nat->Nat:=fun r=>if r<n then J r else N+(r-n)
 have mpos:∀(j:Nat) y,roots[j]? =some y->mem'[zfy o n j]? =some (y.ren (zfy o n))/\ρ' (zfy o n j)=g (rhoC o.length F j):=by
  intro j y hj
  have hrs:rs[j]? =some (y.ren (zfy o n)):=by simp[rs,hj]
  by_cases hjn:j<o.length
  ·have ho:o[j]? =some o[j]:=ygb hjn
   rw[zbU ho]
   refine⟨?_,?_⟩
   ·show(zld T.mem o rs++rs.drop o.length)[o[j]]? =_
    rw[yge (by rw[zeo];exact holt _ (ygd ho))]
    exact zoU T.mem o rs hnd j _ _ ho hrs (holt _ (ygd ho))
   ·simp only[ρ',if_pos (holt _ (ygd ho)),rhoC,if_pos hjn,g,n]
    exact(zbA (his j _ ho)).symm
  ·rw[zdY (by omega)]
   refine⟨?_,?_⟩
   ·show(zld T.mem o rs++rs.drop o.length)[n+(j-o.length)]? =_
    rw[ygf (by rw[zeo];omega),zeo,Nat.add_sub_cancel_left,List.getElem?_drop,show o.length+(j-o.length)=j by omega]
    exact hrs
   ·simp only[ρ',rhoC,if_neg hjn,g,Go.Fw.ren]
    rw[if_neg (by omega),if_neg (by omega)]
    omega
 have mold:∀(q:Nat),q<n->q∉o->mem'[q]? =T.mem[q]?:=fun q hq ho=>by
  show(zld T.mem o rs++rs.drop o.length)[q]? =_
  rw[yge (by rw[zeo];exact hq),zi0 _ _ _ ho]
 have cases':∀(q:Nat) x,mem'[q]? =some x->(∃j y,roots[j]? =some y/\q=zfy o n j/\x=y.ren (zfy o n))\/(q<n/\q∉o/\T.mem[q]? =some x):=by
  intro q x hq
  by_cases hqn:q<n
  ·by_cases hqo:q∈o
   ·obtain⟨j,hj⟩:=List.getElem?_of_mem hqo
    obtain⟨y,hy,_⟩:=hkp j q hj
    have:=(mpos j y hy).1
    rw[zbU hj,hq]at this
    exact .inl ⟨j,y,hy,(zbU hj).symm,Option.some.inj this⟩
   ·exact .inr ⟨hqn,hqo,by rw[<-mold q hqn hqo];exact hq⟩
  ·have hql:=(yga.1 hq).1
   have hql:q<n+(roots.length-o.length):=by
    have:mem'.length=n+(roots.length-o.length):=by simp[mem',zeo,rs,n]
    omega
   have hj:roots[o.length+(q-n)]? =some (roots[o.length+(q-n)]'(by omega)):=ygb _
   have hp:zfy o n (o.length+(q-n))=q:=by rw[zdY (by omega)];omega
   have:=(mpos _ _ hj).1
   rw[hp,hq]at this
   exact .inl ⟨_,_,hj,hp.symm,Option.some.inj this⟩
 have hk:Kp J ρ' T.mem mem':=by
  have key:∀(r:Nat) x,T.mem[r]? =some x->r<n/\ρ' r=J r:=fun r x hx=>by
   have:=(yga.1 hx).1
   exact⟨this,by simp only[ρ'];rw[if_pos this]⟩
  refine⟨fun r t xs w hr=>?_,fun r b cs hr=>?_,fun r hr=>?_⟩
  ·by_cases ho:r∈o
   ·obtain⟨j,hj⟩:=List.getElem?_of_mem ho
    obtain⟨y,hy,hc⟩:=hkp j r hj
    have hm:=(mpos j y hy).1
    rw[zbU hj]at hm
    rcases hc with rfl|⟨t',xs0,w0,xs',w',h1,rfl,h3⟩|⟨b,ds,b',ds',h1,rfl⟩
    ·exact .inl hm
    ·rw[hr]at h1;cases h1
     exact .inr ⟨(key r _ hr).2,xs',w',hm,h3⟩
    ·rw[hr]at h1;cases h1
   ·exact .inr ⟨(key r _ hr).2,xs,w,by rw[mold r (key r _ hr).1 ho];exact hr,rfl⟩
  ·by_cases ho:r∈o
   ·obtain⟨j,hj⟩:=List.getElem?_of_mem ho
    obtain⟨y,hy,hc⟩:=hkp j r hj
    have hm:=(mpos j y hy).1
    rw[zbU hj]at hm
    rcases hc with rfl|⟨t',xs0,w0,xs',w',h1,rfl,h3⟩|⟨b,ds,b',ds',h1,rfl⟩
    ·exact .inl hm
    ·rw[hr]at h1;cases h1
    ·exact .inr ⟨(key r _ hr).2,_,_,hm⟩
   ·exact .inr ⟨(key r _ hr).2,b,cs,by rw[mold r (key r _ hr).1 ho];exact hr⟩
  ·have ho:r∉o:=fun ho=>by
    obtain⟨x,hx,ha⟩:=halive r ho
    rw[hr]at hx;cases hx;cases ha
   rw[mold r (key r _ hr).1 ho];exact hr
 have refs:∀(q:Nat) y,roots[q]? =some y->mem'[zfy o n q]? =some (y.ren (zfy o n))/\ρ' (zfy o n q)=g (rhoC o.length F q):=mpos
 have vals:=zo7 (ρ':=ρ') (mem':=mem') (g:=g) (p:=zfy o n) (ρc:=rhoC o.length F) (roots:=roots) refs
 have hsm:∀(q:Nat) x,q<n->q∉o->T.mem[q]? =some x->x.alive=true->(za5 st.mem is (endM o.length F roots))[J q]? =st.mem[J q]?:=fun q x _ ho hx ha=>zgo (hnotis q x hx ha ho) (h.lt q x hx ha)
 have hgi:∀i,F<=i->g i=N+(i-F):=fun i hi=>by simp only[g,Go.Fw.ren];rw[if_neg (by omega),hFl]
 have hfpge:∀(j i:Nat),i∈fpC o.length F roots j->F+(roots.length-o.length)<=i:=fun j i hi=>zp1 hi
 let fp':Nat->List Nat:=fun q=>if q<n then(if q∈o then(fpC o.length F roots (zfW o q)).map g else fp q)else(fpC o.length F roots (o.length+(q-n))).map g
 have idx:∀(j q:Nat),o[j]? =some q->zfW o q=j:=fun j q hj=>by
  have h1:=zeg o q ((zjS q o).2 (ygd hj))
  exact zcS o hnd _ _ q h1 hj
 have fpos:∀(j:Nat) y,roots[j]? =some y->fp' (zfy o n j)=(fpC o.length F roots j).map g:=by
  intro j y hj
  by_cases hjn:j<o.length
  ·have ho:o[j]? =some o[j]:=ygb hjn
   rw[zbU ho]
   simp only[fp']
   rw[if_pos (holt _ (ygd ho)),if_pos (ygd ho),idx j _ ho]
  ·rw[zdY (by omega)]
   simp only[fp']
   rw[if_neg (by omega),show o.length+(n+(j-o.length)-n)=j by omega]
 have fold:∀(q:Nat),q<n->q∉o->fp' q=fp q:=fun q hq ho=>by simp only[fp',if_pos hq,if_neg ho]
 have fcase:∀(q:Nat),(∃j y,roots[j]? =some y/\q=zfy o n j/\fp' q=(fpC o.length F roots j).map g)\/(q<n/\q∉o/\fp' q=fp q)\/fp' q=[]:=by
  intro q
  by_cases hqn:q<n
  ·by_cases hqo:q∈o
   ·obtain⟨j,hj⟩:=List.getElem?_of_mem hqo
    obtain⟨y,hy,_⟩:=hkp j q hj
    have:=fpos j y hy
    rw[zbU hj]at this
    exact .inl ⟨j,y,hy,(zbU hj).symm,this⟩
   ·exact .inr (.inl ⟨hqn,hqo,fold q hqn hqo⟩)
  ·by_cases hr:o.length+(q-n)<roots.length
   ·refine .inl ⟨o.length+(q-n),_,ygb hr,by rw[zdY (by omega)];omega,?_⟩
    simp only[fp',if_neg hqn]
   ·refine .inr (.inr ?_)
    simp only[fp',if_neg hqn]
    rcases zeM (nin:=o.length) (F:=F) (roots:=roots) (o.length+(q-n))with⟨h,_⟩|h
    ·rw[h];rfl
    ·have:=(yga.1 h).1
     rw[(zao roots _).2]at this;exact absurd this hr
 have posinj:∀(j j':Nat) y y',roots[j]? =some y->roots[j']? =some y'->zfy o n j=zfy o n j'->j=j':=by
  intro j j' y y' hj hj' e
  by_cases a:j<o.length<;>by_cases b:j'<o.length
  ·have h1:o[j]? =some o[j]:=ygb a
   have h2:o[j']? =some o[j']:=ygb b
   rw[zbU h1,zbU h2]at e
   exact zcS o hnd j j' _ h1 (by rw[h2,e])
  ·have h1:o[j]? =some o[j]:=ygb a
   rw[zbU h1,zdY (by omega)]at e
   have:=holt _ (ygd h1);omega
  ·have h2:o[j']? =some o[j']:=ygb b
   rw[zbU h2,zdY (by omega)]at e
   have:=holt _ (ygd h2);omega
  ·rw[zdY (by omega),zdY (by omega)]at e;omega
 refine⟨ρ',fun q hq=>if_pos hq,fun v hv=>vals.1 v hv,fun m=>(h.env m).mono hk,fun q b ds hq=>?_,fun q b ds hq=>?_,fun q q' x x' hq hx hq' hx' e=>?_,⟨fp',fun q t xs w hq=>?_,fun q hq=>?_,fun q=>?_,fun q q' hne i hi hi'=>?_,fun q q' x hq hx hi=>?_⟩,h.pin.mono hk⟩
 ·rcases cases' q _ hq with⟨j,y,hj,rfl,e⟩|⟨h1,h2,h3⟩
  ·cases y with
   | dead=>cases e
   | arr _ _ _=>cases e
   | box b' cs =>
    simp only[Root.ren]at e
    cases e
    have hE:=zbO (F:=F) (roots:=roots) hnin (by omega) (yga.1 hj).1
    obtain⟨k,q1,_⟩:=zaB (J:=rhoC o.length F) (mem:=roots) roots (F+(roots.length-o.length)) j _ hj
    rw[q1]at hE
    have:=hat hE
    simp only[zaz,Ent.ren,List.map_cons,List.map_nil]at this
    refine⟨_,?_,vals.2 cs (hok.sol j _ cs hj)⟩
    rw[(mpos j _ hj).2,zdi]
    exact this
  ·obtain⟨as,g1,g2⟩:=h.box q b ds h3
   refine⟨as,?_,g2.mono hk⟩
   show(za5 st.mem is _)[ρ' q]? =_
   rw[show ρ' q=J q by simp only[ρ',if_pos h1],hsm q _ h1 h2 h3 rfl];exact g1
 ·rcases cases' q _ hq with⟨j,y,hj,rfl,e⟩|⟨h1,h2,h3⟩
  ·cases y with
   | dead=>cases e
   | arr _ _ _=>cases e
   | box b' cs =>
    simp only[Root.ren]at e
    cases e
    exact ziJ _ cs (hok.cell j _ cs hj)
  ·exact h.boxC q b ds h3
 ·rcases cases' q _ hq with⟨j,y,hj,rfl,e1⟩|⟨h1,h2,h3⟩<;>rcases cases' q' _ hq' with⟨j',y',hj',rfl,e1'⟩|⟨h1',h2',h3'⟩
  ·rw[(mpos j y hj).2,(mpos j' y' hj').2]at e
   have hjl:=(yga.1 hj).1
   have hjl':=(yga.1 hj').1
   have:=zra hLnd (N:=N) hlt (e:Go.Fw.ren is N _=Go.Fw.ren is N _)
   rw[zpy (by omega) this]
  ·rw[(mpos j y hj).2,show ρ' q'=J q' by simp only[ρ',if_pos h1']]at e
   have hl:=h.lt q' x' h3' hx'
   by_cases hjo:j<o.length
   ·have ho:o[j]? =some o[j]:=ygb hjo
    have:g (rhoC o.length F j)=J o[j]:=by simp only[rhoC,if_pos hjo];exact zbA (his j _ ho)
    rw[this]at e
    exact absurd (by rw[<-e,<-his0];exact List.mem_append_left _ (List.mem_map_of_mem (ygd ho))) (hnotis q' x' h3' hx' h2')
   ·have:g (rhoC o.length F j)=N+(j-o.length):=by rw[hgi _ (by simp only[rhoC,if_neg hjo];omega)];simp only[rhoC,if_neg hjo];omega
    omega
  ·rw[(mpos j' y' hj').2,show ρ' q=J q by simp only[ρ',if_pos h1]]at e
   have hl:=h.lt q x h3 hx
   by_cases hjo:j'<o.length
   ·have ho:o[j']? =some o[j']:=ygb hjo
    have:g (rhoC o.length F j')=J o[j']:=by simp only[rhoC,if_pos hjo];exact zbA (his j' _ ho)
    rw[this]at e
    exact absurd (by rw[e,<-his0];exact List.mem_append_left _ (List.mem_map_of_mem (ygd ho))) (hnotis q x h3 hx h2)
   ·have:g (rhoC o.length F j')=N+(j'-o.length):=by rw[hgi _ (by simp only[rhoC,if_neg hjo];omega)];simp only[rhoC,if_neg hjo];omega
    omega
  ·rw[show ρ' q=J q by simp only[ρ',if_pos h1],show ρ' q'=J q' by simp only[ρ',if_pos h1']]at e
   exact h.inj q q' x x' h3 hx h3' hx' e
 ·rcases cases' q _ hq with⟨j,y,hj,rfl,e⟩|⟨h1,h2,h3⟩
  ·cases y with
   | dead=>cases e
   | box _ _=>cases e
   | arr t' xs' w' =>
    cases e
    rw[fpos j _ hj,(mpos j _ hj).2]
    have hA:=ow.rel j t xs w hj
    have hw:=hok.shut j t xs w hj
    cases w with
    | op _ _ _=>cases hw
    | no =>
     refine⟨?_,by rw[hA.2];rfl⟩
     rw[hat hA.1]
     simp only[Ent.ren,Option.some.injEq,Ent.arr.injEq,yhn]
     rw[List.map_map]
     refine List.map_congr_left fun y _=>?_
     simp only[Function.comp]
     rw[show(zaf t y).map (AV.ren (Go.Fw.ren is st.mem.length))=(zaf t y).map id from List.map_congr_left fun c hc=>AV.ren_pure _ c ((AV.pureL_iff _).1 (zdZ t y) c hc),List.map_id]
    | cl os =>
     obtain⟨rows,q1,q2⟩:=hA
     exact⟨_,hat q1,q2.ren fun i _ e he=>hat he⟩
  ·rw[fold q h1 h2]
   refine(how.rel q t xs w h3).mono (fun cs as hv=>hv.mono hk) ?_ fun i hi=>zgo (hnotisF q h2 i hi) (how.lt q i hi)
   rw[show ρ' q=J q by simp only[ρ',if_pos h1]]
   exact hsm q _ h1 h2 h3 rfl
 ·rcases fcase q with⟨j,y,hj,rfl,e⟩|⟨h1,h2,e⟩|e
  ·rw[e]
   have:fpC o.length F roots j=[]:=ow.nil j fun t xs w hj'=>by
    have:=(mpos j _ hj').1
    exact hq t xs w this
   rw[this];rfl
  ·rw[e];exact how.nil q fun t xs w h'=>hq t xs w (by show mem'[q]? =_;rw[mold q h1 h2];exact h')
  ·exact e
 ·rcases fcase q with⟨j,y,hj,rfl,e⟩|⟨h1,h2,e⟩|e
  ·rw[e]
   exact zf4 (ow.nd j) fun a ha b hb hab=>by
    rw[hgi a (by have:=hfpge j a ha;omega),hgi b (by have:=hfpge j b hb;omega)]at hab
    have:=hfpge j a ha;have:=hfpge j b hb;omega
  ·rw[e];exact how.nd q
  ·rw[e];exact List.nodup_nil
 ·rcases fcase q with⟨j,y,hj,rfl,e⟩|⟨h1,h2,e⟩|e<;>rcases fcase q' with⟨j',y',hj',rfl,e'⟩|⟨h1',h2',e'⟩|e'
  ·rw[e]at hi;rw[e']at hi'
   obtain⟨a,ha,rfl⟩:=List.mem_map.1 hi
   obtain⟨b,hb,hab⟩:=List.mem_map.1 hi'
   rw[hgi a (by have:=hfpge j a ha;omega),hgi b (by have:=hfpge j' b hb;omega)]at hab
   have:a=b:=by have:=hfpge j a ha;have:=hfpge j' b hb;omega
   subst this
   exact ow.dj j j' (fun e=>hne (by rw[e])) a ha hb
  ·rw[e]at hi;rw[e']at hi'
   obtain⟨a,ha,rfl⟩:=List.mem_map.1 hi
   have:=how.lt q' _ hi'
   rw[hgi a (by have:=hfpge j a ha;omega)]at this
   omega
  ·rw[e']at hi';simp at hi'
  ·rw[e]at hi;rw[e']at hi'
   obtain⟨a,ha,rfl⟩:=List.mem_map.1 hi'
   have:=how.lt q _ hi
   rw[hgi a (by have:=hfpge j' a ha;omega)]at this
   omega
  ·rw[e]at hi;rw[e']at hi';exact how.dj q q' hne i hi hi'
  ·rw[e']at hi';simp at hi'
  ·rw[e]at hi;simp at hi
  ·rw[e]at hi;simp at hi
  ·rw[e]at hi;simp at hi
 ·rcases fcase q' with⟨j',y',hj',rfl,e'⟩|⟨h1',h2',e'⟩|e'
  ·rw[e']at hi
   obtain⟨a,ha,hag⟩:=List.mem_map.1 hi
   have hge:=hfpge j' a ha
   rw[hgi a (by omega)]at hag
   rcases cases' q _ hq with⟨j,y,hj,rfl,e⟩|⟨h1,h2,h3⟩
   ·rw[(mpos j y hj).2]at hag
    have hjl:=(yga.1 hj).1
    by_cases hjo:j<o.length
    ·have ho:o[j]? =some o[j]:=ygb hjo
     have e3:g (rhoC o.length F j)=J o[j]:=by simp only[rhoC,if_pos hjo];exact zbA (his j _ ho)
     rw[e3]at hag
     obtain⟨z,hz,hza⟩:=halive _ (ygd ho)
     have:=h.lt _ z hz hza
     omega
    ·have:g (rhoC o.length F j)=N+(j-o.length):=by rw[hgi _ (by simp only[rhoC,if_neg hjo];omega)];simp only[rhoC,if_neg hjo];omega
     omega
   ·rw[show ρ' q=J q by simp only[ρ',if_pos h1]]at hag
    have:=h.lt q x h3 hx
    omega
  ·rw[e']at hi
   rcases cases' q _ hq with⟨j,y,hj,rfl,e⟩|⟨h1,h2,h3⟩
   ·rw[(mpos j y hj).2]at hi
    have hl:=how.lt q' _ hi
    by_cases hjo:j<o.length
    ·have ho:o[j]? =some o[j]:=ygb hjo
     have e3:g (rhoC o.length F j)=J o[j]:=by simp only[rhoC,if_pos hjo];exact zbA (his j _ ho)
     rw[e3]at hi
     obtain⟨z,hz,hza⟩:=halive _ (ygd ho)
     exact how.rt _ q' z hz hza hi
    ·have:g (rhoC o.length F j)=N+(j-o.length):=by rw[hgi _ (by simp only[rhoC,if_neg hjo];omega)];simp only[rhoC,if_neg hjo];omega
     omega
   ·rw[show ρ' q=J q by simp only[ρ',if_pos h1]]at hi
    exact how.rt q q' x h3 hx hi
  ·rw[e']at hi;simp at hi
end
end Go.Fw
namespace Go.Fw
open Go
mutual
def hfA:AV->Bool
 | .junk|.int _ _|.bool _|.str _|.ms _ _ _ _=>true
 | .tup cs=>znf cs
 | _=>false
def znf:List AV->Bool
 | []=>true
 | c:: cs=>hfA c&&znf cs
end
mutual
theorem zkE{H H':Hp}{U:Bt}:∀{a:AV}{x:Value},hfA a=true->Rep H U a x->Rep H' U a x
 | .junk,x,_,_=>.junk
 | .int k n,x,_,r=>by cases r;exact .int (by assumption)
 | .bool b,x,_,r=>by cases r;exact .bool
 | .str s,x,_,r=>by cases r;exact .str (by assumption)
 | .ms i es o l,x,_,r=>by
  cases r with
  | ms h1 h2 h3 h4=>exact .ms h1 h2 h3 h4
  | ms0 h1=>exact .ms0 h1
 | .tup cs,x,h,r=>by
  cases r with
  | tup hl hr=>exact .tup hl fun i c v h1 h2=>zlz (by simpa[hfA]using h) i c v h1 (hr i c v h1 h2)
 | .e0,_,h,_|.sl _ _,_,h,_|.ip _,_,h,_|.mp ..,_,h,_|.fn ..,_,h,_|.mapr _,_,h,_|.nilp,_,h,_|.nilf,_,h,_|.nilm,_,h,_|.opt _ _,_,h,_|.agg _,_,h,_=>by simp[hfA]at h
theorem zlz{H H':Hp}{U:Bt}:∀{as:List AV},znf as=true->∀(i:Nat) c v,as[i]? =some c->Rep H U c v->Rep H' U c v
 | [],_,i,c,v,h,_=>by simp at h
 | a:: as,h,i,c,v,hi,r=>by
  simp only[znf,yhb]at h
  cases i with
  | zero=>simp at hi;subst hi;exact zkE h.1 r
  | succ i=>exact zlz h.2 i c v (by simpa using hi) r
end
def Ent.hf:Ent->Bool
 | .dead=>true
 | .arr _ rows=>rows.all fun r=>znf r
 | .mp _=>false
theorem zpj{cs:List AV}(h:znf cs=true):∀c∈cs,hfA c=true:=by
 induction cs with
 | nil=>simp
 | cons a cs ih =>
  simp only[znf,yhb]at h
  intro c hc
  rcases List.mem_cons.1 hc with rfl|hc
  ·exact h.1
  ·exact ih h.2 c hc
theorem Ent.hf_ok{H H':Hp}{U:Bt}{w:World}{e:Ent}{x:Option (Nat×Nat×Nat)}(h:e.hf=true)(he:EntOk H U w e x):EntOk H' U w e x:=by
 cases e with
 | dead=>trivial
 | mp es=>cases h
 | arr es rows =>
  cases x with
  | none=>exact he
  | some y =>
   obtain⟨b,es',cap⟩:=y
   obtain⟨h1,cells,elem,h2,h3,h4,h5,h6,h7,h8⟩:=he
   refine⟨h1,cells,elem,h2,h3,h4,h5,h6,fun i r j c hi hj=>?_,h8⟩
   obtain⟨v,g1,g2⟩:=h7 i r j c hi hj
   exact⟨v,g1,zkE (zpj (List.all_eq_true.1 h r (ygd hi)) c (ygd hj)) g2⟩
theorem zep.of_spec_lend{P:Program}{f:FuncId}{argsC:List AV}{m1 mem:List Ent}{r:AV}{args:List AV}(hs:Spec P f argsC [] (fun r' m'=>r'=r/\m'=m1))(hr:hfA r=true)(hm:∀e∈m1,e.hf=true)(hl:args.length=argsC.length)
  (hv:∀H F U w,Sat H F U mem w->∀(i:Nat) a a' x,args[i]? =some a->argsC[i]? =some a'->Rep H U a x->Rep (hpW w) [] a' x):
  zep P f args mem (r.ren (ren [] mem.length)) (za5 mem [] m1):=by
 refine⟨hs.1,fun H F U cargs w hsat hsz ha=>?_⟩
 have hs0:Sat (hpW w) ⟨hpW w,F.w0⟩ [] [] w:=
  {hH:=fun b o hb=>hb,hF:=fun b o hb=>hb,sm:=⟨hsat.sm.os,hsat.sm.tape,hsat.sm.output,hsat.sm.size⟩,hl:=rfl,ent:=fun i e x hi=>by simp at hi,apart:=fun i e x hi=>by simp at hi,
   inj:=fun i j e e' x y hi=>by simp at hi}
 have hC:=hs.2 (hpW w) ⟨hpW w,F.w0⟩ [] cargs w hs0 (by rw[hsz,hl]) fun i a' x h1 h2=>by
  have hlt:=(yga.1 h1).1
  have hg:args[i]? =some (args[i]'(by omega)):=ygb _
  exact hv H F U w hsat i _ a' x hg h1 (ha i _ x hg h2)
 refine hC.mono fun e w' ⟨v,r',m',H',βC',h1,⟨h2,h3⟩,g3,g4,g5,g6,g7⟩=>?_
 subst h2 h3
 have same:∀b,b<w.heap.size->w'.heap[b]? =w.heap[b]?:=fun b hb=>by
  have:hpW w b=some w.heap[b]:=by simp[hpW,hb]
  rw[g4.hF b _ this];exact this.symm
 obtain⟨s1,_⟩:=zfE (st:=⟨[],mem⟩) (memC:=[]) (is:=[]) hsat rfl .nil (fun j i e h=>by simp at h) (fun i h=>by simp at h) (fun e h=>by simp at h)
 have g4':Sat H (zer F.w0 w [] (([]:List Nat).map fun i=>(U[i]?).getD none)) βC' m' w':=by
  refine{hH:=fun b o hb=>?_,hF:=fun b o hb=>?_,sm:=⟨g4.sm.os,g4.sm.tape,g4.sm.output,g4.sm.size⟩,hl:=g4.hl,ent:=fun i e x hi hx=>Ent.hf_ok (hm e (ygd hi)) (g4.ent i e x hi hx),apart:=fun i e x hi he hx=>?_,inj:=g4.inj}
  ·have:=hsat.hH b o hb;rw[same b (zar this)];exact this
  ·have:=s1.hF b o hb;rw[same b (zar this)];exact this
  ·have hn:=(g4.apart i e x hi he hx).2
   have hge:w.heap.size<=x.1:=by
    rcases Nat.lt_or_ge x.1 w.heap.size with h|h
    ·have hq:hpW w x.1=none:=hn
     simp[hpW,h]at hq
    ·exact h
   constructor
   ·cases hh:H x.1 with
    | none=>rfl
    | some o=>exact absurd (zar (hsat.hH _ _ hh)) (by omega)
   ·cases hh:(zer F.w0 w [] (([]:List Nat).map fun i=>(U[i]?).getD none)) x.1 with
    | none=>rfl
    | some o=>exact absurd (zar (s1.hF _ _ hh)) (by omega)
 obtain⟨q1,q2,q3⟩:=zia (st:=⟨[],mem⟩) (memC:=[]) (is:=[]) hsat rfl .nil (fun j i e h=>by simp at h) (fun i h=>by simp at h) g4' (.refl _ _) (fun i h=>absurd h (Nat.not_lt_zero i)) (Nat.zero_le _)
 exact⟨v,H,_,h1,(zkE hr g3).ren q3,q1,q2,.append _ _⟩
variable [Pin]
theorem znX:∀(t:Ty)(x:TV t),t.flat=true->znf (zaf t x)=true
 | .int _,_,_|.bool,_,_|.str,_,_=>by simp[zaf,znf,hfA]
 | .lst _,_,h|.nm _,_,h=>by simp[Ty.flat]at h
def Root.hf:Root->Bool
 | .arr t _ .no=>t.flat
 | _=>false
theorem zjX{J:Nat->Nat}{mem:List Root}:∀(l:List Root)(n:Nat),(∀x∈l,x.hf=true)->(zag J mem n l).2.1=[]/\∀e∈(zag J mem n l).1,e.hf=true
 | [],n,_=>by simp[zag]
 | x:: l,n,h=>by
  have hx:=h x (by simp)
  cases x with
  | dead=>cases hx
  | box _ _=>cases hx
  | arr t xs w =>
   cases w with
   | cl _=>cases hx
   | op _ _ _=>cases hx
   | no =>
    have e:zaz J mem n (.arr t xs .no)=(.arr t.sz (xs.map (zaf t)),[]):=by simp only[zaz,zoo,zdf]
    obtain⟨h1,h2⟩:=zjX (J:=J) (mem:=mem) l (n+(zaz J mem n (.arr t xs .no)).2.length) fun y hy=>h y (by simp[hy])
    simp only[zag,e]at h1 h2|-
    refine⟨by simpa using h1,fun y hy=>?_⟩
    rcases List.mem_cons.1 hy with rfl|hy
    ·simp only[Ent.hf,List.all_map,List.all_eq_true,Function.comp]
     exact fun x _=>znX t x hx
    ·exact h2 y hy
theorem zqy{roots:List Root}(h:∀x∈roots,x.hf=true):∀e∈endM 0 0 roots,e.hf=true:=by
 intro e he
 obtain⟨h1,h2⟩:=zjX (J:=rhoC 0 0) (mem:=roots) roots (0+(roots.length-0)) h
 simp only[endM,List.take_zero,Nat.sub_self,List.replicate_zero,List.nil_append,List.drop_zero,h1,List.append_nil]at he
 exact h2 e he
mutual
theorem zlA{J:Nat->Nat}{mem:List Root}:∀(s:Sh)(d:Dat s),s.flatO=true->hfA (encR J mem (mkV s d))=true
 | .int _,_,_|.bool,_,_|.str,_,_=>by simp[mkV,encR,hfA]
 | .own r,_,_=>by
  simp only[mkV,encR]
  split<;>simp[hfA]
 | .tup ss,d,h=>by simp only[mkV,encR,hfA];exact zjH ss d (by simpa[Sh.flatO]using h)
 | .mpb _ _,_,h|.mpa _ _,_,h|.part _,_,h|.no,_,h|.lst _,_,h|.st _,_,h|.ep _,_,h|.e0,_,h|.nl _,_,h|.nilp,_,h|.nilf,_,h|.agg _,_,h|.ip _,_,h|.fn _ _,_,h=>by simp[Sh.flatO]at h
theorem zjH{J:Nat->Nat}{mem:List Root}:∀(ss:List Sh)(d:DatL ss),Sh.flatOL ss=true->znf (encRL J mem (mkVL ss d))=true
 | [],_,_=>by simp[mkVL,encRL,znf]
 | s:: ss,d,h=>by
  simp only[Sh.flatOL,yhb]at h
  simp only[mkVL,encRL,znf,yhb]
  exact⟨zlA s _ h.1,zjH ss _ h.2⟩
end
theorem RkR.hf{rk:List RK}{roots:List Root}(h:RkR rk roots)(hf:rk.all RK.flat=true):∀x∈roots,x.hf=true:=by
 intro x hx
 obtain⟨r,hr⟩:=List.getElem?_of_mem hx
 obtain⟨k,hk,y,rfl⟩:=h.back hr
 have hk:=List.all_eq_true.1 hf k (ygd hk)
 cases k with
 | dead=>cases hk
 | box _ _=>cases hk
 | arr t os =>
  cases os with
  | no=>rw[zbC];exact hk
  | «at» _=>cases hk
  | all=>cases hk
end Go.Fw
namespace Go.Fw
open Go
variable [Pin]
theorem zlC:∀(i n:Nat),(zdz i n).length=n
 | _,0=>rfl
 | i,n+1=>by simp[zdz,zlC]
theorem zh0:∀(vs:List V)(n i:Nat),lookV (zcL n vs) (n+i)=vs.getD i .junk
 | [],n,i=>by simp[zcL,lookV]
 | v:: vs,n,0=>by simp[zcL,lookV,Nat.beq_refl]
 | v:: vs,n,i+1=>by
  simp only[zcL,lookV]
  cases h:Nat.beq n (n+(i+1))with
  | true=>have:=Nat.eq_of_beq_eq_true h;omega
  | false =>
   have:=zh0 vs (n+1) i
   rw[show n+(i+1)=n+1+i by omega,this];rfl
theorem zif:∀(i n:Nat),zdz i n=(List.range n).map (i + ·)
 | _,0=>rfl
 | i,n+1=>by
  simp only[zdz,List.range_succ_eq_map,List.map_cons,List.map_map,Nat.add_zero,List.cons.injEq,yhn]
  rw[zif (i+1) n]
  refine List.map_congr_left fun k _=>?_
  simp only[Function.comp,Nat.succ_eq_add_one];omega
theorem zjC{A:Type}(d:A):∀(l:List A),(List.range l.length).map (fun i=>l.getD i d)=l:=by
 intro l
 refine List.ext_getElem (by simp) fun i h1 h2=>?_
 simp only[List.getElem_map,List.getElem_range]
 rw[List.getD_eq_getElem?_getD,ygb h2];rfl
theorem zmL(vs:List V):(zdz 0 vs.length).map (lookV (zcL 0 vs))=vs:=by
 rw[zif,List.map_map]
 refine Eq.trans (List.map_congr_left fun i _=>?_) (zjC .junk vs)
 simp only[Function.comp,Nat.zero_add]
 have:=zh0 vs 0 i
 rwa [Nat.zero_add]at this
theorem zkX(as:List AV):(zdz 0 as.length).map (look (zcK 0 as))=as:=by
 rw[zif,List.map_map]
 refine Eq.trans (List.map_congr_left fun i _=>?_) (zjC .junk as)
 simp only[Function.comp,Nat.zero_add]
 rw[zeP,if_pos (Nat.zero_le _),Nat.sub_zero]
theorem ImpL.takeL{as bs as':List AV}:∀{cs:List AV},cs=as++bs->ImpL cs as'->ImpL as (as'.take as.length):=by
 induction as generalizing as' with
 | nil=>intro cs _ _;exact .nil
 | cons a as ih =>
  intro cs e h
  cases h with
  | nil=>cases e
  | cons h hs =>
   simp only[List.cons_append,List.cons.injEq]at e
   obtain⟨rfl,e⟩:=e
   exact .cons h (ih e hs)
section
variable {P:Program}{J:Nat->Nat}{T:TS}{st:St}{ρt:Type}{res:ρt}{Z:V->List Root->Option ρt}
theorem zil{mem:List Root}{k:Option ρt}(p:Nat->Nat):∀(o:List Nat)(l:List Root),kpT mem o (l.map (Root.ren p)) k=some res->o.length<=l.length->k=some res/\
  ∀(j r:Nat),o[j]? =some r->∃y,l[j]? =some y/\(y=.dead\/(∃t xs w xs' w',mem[r]? =some (.arr t xs w)/\y=.arr t xs' w'/\xs'.length=xs.length)\/∃b ds b' ds',mem[r]? =some (.box b ds)/\y=.box b' ds')
 | [],l,h,_=>⟨by cases l<;>simpa[kpT]using h,fun j r h=>by simp at h⟩
 | r0:: o,[],h,hl=>by simp at hl
 | r0:: o,y:: l,h,hl=>by
  simp only[List.map_cons,kpT]at h
  have next:kpT mem o (l.map (Root.ren p)) k=some res->(y=.dead\/(∃t xs w xs' w',mem[r0]? =some (.arr t xs w)/\y=.arr t xs' w'/\xs'.length=xs.length)\/∃b ds b' ds',mem[r0]? =some (.box b ds)/\y=.box b' ds')->
    k=some res/\∀(j r:Nat),(r0:: o)[j]? =some r->∃y',(y:: l)[j]? =some y'/\(y'=.dead\/(∃t xs w xs' w',mem[r]? =some (.arr t xs w)/\y'=.arr t xs' w'/\xs'.length=xs.length)\/∃b ds b' ds',mem[r]? =some (.box b ds)/\y'=.box b' ds'):=by
   intro h hy
   obtain⟨h1,h2⟩:=zil p o l h (by simpa using hl)
   refine⟨h1,fun j r hj=>?_⟩
   cases j with
   | zero=>simp at hj;subst hj;exact⟨y,rfl,hy⟩
   | succ j=>exact h2 j r (by simpa using hj)
  cases y with
  | dead=>exact next h (.inl rfl)
  | box b' ds' =>
   simp only[Root.ren]at h
   cases e:mem[r0]? with
   | none=>rw[e]at h;cases h
   | some z =>
    rw[e]at h
    cases z with
    | dead=>cases h
    | arr _ _ _=>cases h
    | box b ds=>exact next h (.inr (.inr ⟨_,_,_,_,e,rfl⟩))
  | arr t' xs' w' =>
   simp only[Root.ren]at h
   cases e:mem[r0]? with
   | none=>rw[e]at h;cases h
   | some z =>
    rw[e]at h
    cases z with
    | dead=>cases h
    | box _ _=>cases h
    | arr t xs w =>
     simp only at h
     split at h
     ·rename_i ht
      subst ht
      obtain⟨g1,g2⟩:=zaj h
      exact next g2 (.inr (.inl ⟨_,_,_,_,_,e,rfl,by simpa using g1⟩))
     ·cases h
theorem zcl{e:TE}(h:wfE e=true):Sh.solL e.rin e.ash=true/\zot e.rin=true/\Sh.sol e.rout e.rsh=true/\zot e.rout=true/\e.rin.length<=e.rout.length/\∀k∈e.rin,k≠.dead:=by
 simp only[wfE,yhb,List.all_eq_true]at h
 obtain⟨⟨⟨⟨⟨h1,h2⟩,h3⟩,h4⟩,h5⟩,h6⟩:=h
 exact⟨h1,h2,h3,h4,za8 h5,fun k hk e=>by subst e;simpa using h6 _ hk⟩
theorem zc2{e:TE}(h:wfE e=true)(d:DatL (e.ash++e.rin.map RK.sh)):V.solL (rinE e d) (argE e d)=true:=by
 have hR:=zfp e.ash e.rin d
 have key:∀(a b:List Sh)(d:DatL (a++b)),Sh.solL e.rin a=true->∀{roots:List Root},RkR e.rin roots->V.solL roots ((mkVL (a++b) d).take a.length)=true:=by
  intro a
  induction a with
  | nil=>intro b d _ roots _;simp[V.solL]
  | cons s a ih =>
   intro b d hs roots hr
   simp only[Sh.solL,yhb]at hs
   simp only[List.cons_append,mkVL,yhs,List.take_succ_cons,V.solL,yhb]
   exact⟨zkK hr s _ hs.1,ih b _ hs.2 hr⟩
 exact key _ _ d (zcl h).1 hR
theorem zos{e:TE}(h:wfE e=true)(d:DatL (e.ash++e.rin.map RK.sh)):OkRs (rinE e d):=(zfp e.ash e.rin d).ok (zcl h).2.1
theorem ziM{e:TE}(d:DatL (e.ash++e.rin.map RK.sh)):(rinE e d).length=e.rin.length:=(zfp e.ash e.rin d).1
theorem zf8{e:TE}(r:DatL (e.rsh:: e.rout.map RK.sh)):RkR e.rout (routE e r):=zfp [e.rsh] e.rout r
theorem ziL{e:TE}(h:wfE e=true)(r:DatL (e.rsh:: e.rout.map RK.sh)):(resE e r).sol (routE e r)=true:=by
 unfold resE
 simp only[mkVL,List.headD_cons]
 exact zkK (zf8 r) e.rsh _ (zcl h).2.2.1
theorem zmH{e:TE}(h:wfE e=true)(d:DatL (e.ash++e.rin.map RK.sh)):∀(r:Nat) x,(rinE e d)[r]? =some x->x.alive=true:=by
 intro r x hx
 obtain⟨k,hk,y,rfl⟩:=(zfp e.ash e.rin d).back hx
 have:=(zcl h).2.2.2.2.2 k (ygd hk)
 cases k with
 | dead=>exact absurd rfl this
 | arr t os=>rw[zbC];rfl
 | box b ss=>rw[zcU];rfl
theorem zkj{args:List V}{as:List AV}(h:TR J T st)(hv:VRL J T.mem args as){e:TE}(hok:TEok P e)(hl:args.length=e.ash.length){d:DatL (e.ash++e.rin.map RK.sh)}(hd:@Sig.get ⟨0⟩ ⟨zdz 0 e.ash.length,e.ash,e.rin⟩ ⟨zcL 0 args,T.mem⟩=some d)
  {r:DatL (e.rsh:: e.rout.map RK.sh)}(hr:e.F d=some r)(he:zpx T.mem (zcT T.mem 200 (V.refsL args) []) e.rout (mkVL (e.rsh:: e.rout.map RK.sh) r) Z=some res):
  ∃v m a sm ρ',Z v m=some res/\zep P e.f as st.mem a sm/\st.mem.length<=sm.length/\VR ρ' m v a/\TR ρ' ⟨T.env,m⟩ ⟨st.env,sm⟩/\∀q,q<T.mem.length->ρ' q=J q:=by
 have hal:as.length=e.ash.length:=by rw[hv.len,hl]
 have hslots:(zdz 0 e.ash.length).map (lookV (zcL 0 args))=args:=by rw[<-hl];exact zmL args
 have hslotsA:(zdz 0 e.ash.length).map (look (zcK 0 as))=as:=by rw[<-hal];exact zkX as
 obtain⟨fp,how⟩:=h.ow
 have hget:∃(o:List Nat)(st'':St),zcT T.mem 200 (V.refsL args) []=o/\st''.mem=st.mem/\o.length=e.rin.length/\zfr o=true/\(∀r∈o,r<T.mem.length)/\
   (∀(j r:Nat),o[j]? =some r->∃y,(rinE e d)[j]? =some y/\(y=.dead\/(∃t xs w,T.mem[r]? =some (.arr t xs w)/\w.shut=true/\y=.arr t xs w)\/∃b ds b' ds',T.mem[r]? =some (.box b ds)/\y=.box b' ds'))/\
   OwA (fun j=>J (o.getD j 0)) (rinE e d) st.mem (fpJ fp o (rinE e d))/\(∀(r:Nat) b cs,(rinE e d)[r]? =some (.box b cs)->∃as,st.mem[J (o.getD r 0)]? =some (.arr cs.length [as])/\VRL (fun j=>J (o.getD j 0)) (rinE e d) cs as)/\
   ∃as' bs,VRL (fun j=>J (o.getD j 0)) (rinE e d) (mkVL (e.ash++e.rin.map RK.sh) d) as'/\ImpL (as++bs) as':=by
  have z1:=h.box
  have z2:=h.boxC
  have z3:=h.inj
  have z4:=h.ow
  have z5:=ze5 args as 0 hv
  letI p0:Pin:={nin:=0,ini:=[],len:=rfl}
  have h0:@TR p0 J ⟨zcL 0 args,T.mem⟩ ⟨zcK 0 as,st.mem⟩:=⟨fun n=>z5.look n,z1,z2,z3,z4,fun j hj=>absurd hj (Nat.not_lt_zero j)⟩
  obtain⟨st'',_,t2,e0,c1,hnd,hlt,hkd,owF,as',bs,q3,q2⟩:=@zfV p0 J ⟨zcL 0 args,T.mem⟩ ⟨zcK 0 as,st.mem⟩ ⟨zdz 0 e.ash.length,e.ash,e.rin⟩ d [] [] h0 hd (zlC 0 _) (fun _ _ _=>.nil) (by simp) _ rfl
  rw[hslotsA]at q2
  have ho:zcT T.mem 200 (V.refsL args) []=zcT (⟨zcL 0 args,T.mem⟩:TS).mem 200 (V.refsL ((zdz 0 e.ash.length).map (lookV (⟨zcL 0 args,T.mem⟩:TS).env))++zqc (⟨zcL 0 args,T.mem⟩:TS).mem (@Nin.nin p0.toNin)) (zdz 0 (@Nin.nin p0.toNin)):=by
   show _=zcT T.mem 200 (V.refsL ((zdz 0 e.ash.length).map (lookV (zcL 0 args)))++[]) (zdz 0 0)
   rw[List.append_nil]
   rw[hslots];rfl
  refine⟨_,st'',ho,e0,c1,hnd,hlt,hkd,owF fp how,fun r b cs hrb=>?_,as',bs,q3,q2⟩
  have:=t2.box r b cs hrb
  rw[e0]at this
  exact this
 obtain⟨o,st'',ho,e0,c1,hnd,hlt,hkd,ow2,hbox2,as',bs,q3,q2⟩:=hget
 rw[ho]at he
 obtain⟨w1,w2,w3,w4,w5,w6⟩:=zcl hok.wf
 have okIn:=zos hok.wf d
 have hal2:=zmH hok.wf d
 have hlen2:=ziM (e:=e) d
 have hndo:=zgp o hnd
 have halive:∀r∈o,∃x,T.mem[r]? =some x/\x.alive=true:=by
  intro r hr
  obtain⟨j,hj⟩:=List.getElem?_of_mem hr
  obtain⟨y,hy,hc⟩:=hkd j r hj
  have:=hal2 j y hy
  rcases hc with rfl|⟨t,xs,w,h1,_,_⟩|⟨b,ds,b',ds',h1,_⟩
  ·cases this
  ·exact⟨_,h1,rfl⟩
  ·exact⟨_,h1,rfl⟩
 have hgD:∀(j r:Nat),o[j]? =some r->o.getD j 0=r:=fun j r hj=>by rw[List.getD_eq_getElem?_getD,hj];rfl
 let L:=zgW (fpJ fp o (rinE e d)) (rinE e d).length
 have hLm:∀i∈L,∃r∈o,i∈fp r:=by
  intro i hi
  obtain⟨j,hj,hij⟩:=zjB.1 hi
  have hjo:o[j]? =some (o[j]'(by omega)):=ygb _
  unfold fpJ at hij
  split at hij
  ·rw[hgD j _ hjo]at hij;exact⟨_,ygd hjo,hij⟩
  ·simp at hij
 have hLnd:(o.map J++L).Nodup:=by
  refine List.nodup_append.2 ⟨zf4 hndo fun a ha b hb hab=>?_,zgX ow2 _,fun i hi j hj hij=>?_⟩
  ·obtain⟨x,hx,hxa⟩:=halive a ha
   obtain⟨y,hy,hya⟩:=halive b hb
   exact h.inj a b x y hx hxa hy hya hab
  ·subst hij
   obtain⟨r,hr,rfl⟩:=List.mem_map.1 hi
   obtain⟨q,_,hq⟩:=hLm _ hj
   obtain⟨x,hx,hxa⟩:=halive r hr
   exact how.rt r q x hx hxa hq
 have hislt:∀i∈o.map J++L,i<st.mem.length:=by
  intro i hi
  rcases List.mem_append.1 hi with hi|hi
  ·obtain⟨r,hr,rfl⟩:=List.mem_map.1 hi
   obtain⟨x,hx,ha⟩:=halive r hr
   exact h.lt r x hx ha
  ·obtain⟨r,_,hr⟩:=hLm i hi
   exact how.lt r i hr
 have his:∀(j r:Nat),o[j]? =some r->(o.map J++L)[j]? =some (J r):=fun j r hj=>by
  rw[yge (by simpa using(yga.1 hj).1),List.getElem?_map,hj];rfl
 have hrho:∀(j:Nat),rhoC e.rin.length e.rin.length j=j:=fun j=>by unfold rhoC;split<;>omega
 have hg1:∀(j:Nat) x,(rinE e d)[j]? =some x->x.alive=true->Go.Fw.ren (o.map J++L) st.mem.length (rhoC e.rin.length e.rin.length j)=J (o.getD j 0):=fun j x hx _=>by
  have hj:j<o.length:=by have:=(yga.1 hx).1;omega
  have hjo:o[j]? =some o[j]:=ygb hj
  rw[hrho,hgD j _ hjo];exact zbA (his j _ hjo)
 obtain⟨act,feet,lens⟩:=zlq (g:=Go.Fw.ren (o.map J++L) st.mem.length) (nin:=e.rin.length) (F:=e.rin.length) (Nat.le_of_eq hlen2.symm) (Nat.le_refl _) okIn ow2 hbox2 hg1 (fun k j hk=>by
  rw[hlen2,Nat.sub_self,Nat.add_zero]
  refine zbA ?_
  rw[ygf (by simp;omega)]
  simp only[List.length_map,c1,Nat.add_sub_cancel_left]
  exact hk)
 have hinl:(inM e d).length=(o.map J++L).length:=by
  unfold inM
  rw[zfg (Nat.le_of_eq hlen2.symm) (Nat.le_refl _),zpe lens]
  simp only[yhr,List.length_map,hlen2,c1,L];omega
 have owC:=zff (nin:=e.rin.length) (F:=e.rin.length) (Nat.le_of_eq hlen2.symm) (Nat.le_refl _) okIn
 have hlive:∀(i:Nat)(x:Ent),(inM e d)[i]? =some x->x.live=true:=by
  intro i x hx
  rcases zec (Nat.le_of_eq hlen2.symm) (Nat.le_refl _) hx with⟨r,y,hy,rfl⟩|⟨_,_,h3⟩|⟨k,rfl,hk⟩
  ·have hxx:=hx
   unfold inM at hxx
   rw[zbO (Nat.le_of_eq hlen2.symm) (Nat.le_refl _) (yga.1 hy).1]at hxx
   obtain⟨k,q1,_⟩:=zaB (J:=rhoC e.rin.length e.rin.length) (mem:=rinE e d) (rinE e d) (e.rin.length+((rinE e d).length-e.rin.length)) r _ hy
   rw[q1]at hxx;cases hxx
   have:=hal2 r y hy
   cases y with
   | dead=>cases this
   | arr _ _ _=>rfl
   | box _ _=>rfl
  ·omega
  ·have hkl:=(yga.1 hk).1
   have hm:e.rin.length+((rinE e d).length-e.rin.length)+k∈(zag (rhoC e.rin.length e.rin.length) (rinE e d) (e.rin.length+((rinE e d).length-e.rin.length)) (rinE e d)).2.2.flatten:=by
    rw[zaY,List.mem_range'_1];omega
   obtain⟨a,ha,hia⟩:=List.mem_flatten.1 hm
   obtain⟨r,hra⟩:=List.getElem?_of_mem ha
   have hfa:fpC e.rin.length e.rin.length (rinE e d) r=a:=by unfold fpC;rw[List.getD_eq_getElem?_getD,hra];rfl
   rw[<-hfa]at hia
   obtain⟨es,rows,hh⟩:=owC.live r _ hia
   have:(inM e d)[e.rin.length+((rinE e d).length-e.rin.length)+k]? =some (.arr es rows):=hh
   rw[hx]at this;cases this;rfl
 have hcall:CallOk ⟨st.env,st.mem⟩ ((encRL id (rinE e d) (argE e d)).map (AV.ren (Go.Fw.ren (o.map J++L) st.mem.length))) (encRL id (rinE e d) (argE e d)) (inM e d) (o.map J++L):=by
  refine⟨rfl,fun v hv=>?_,hinl.symm,hLnd,fun j i x hj hx=>?_,hislt,zlr (Nat.le_of_eq hlen2.symm) (Nat.le_refl _) okIn⟩
  ·refine(AV.belL_iff _).1 (zfc (fun r x hx _=>?_) _ (zc2 hok.wf d)) v hv
   have:=(yga.1 hx).1
   rw[hinl];simp only[id,yhr,List.length_map,c1];omega
  ·have:=act j x hx (hlive j x hx)
   rw[zbA hj]at this
   exact this
 have hcs:=zep.of_spec (env:=st.env) (hok.ok d r hr) hcall
 have hargs:ImpL as ((encRL id (rinE e d) (argE e d)).map (AV.ren (Go.Fw.ren (o.map J++L) st.mem.length))):=by
  have t1:=q2.takeL rfl
  have t2:VRL (fun j=>J (o.getD j 0)) (rinE e d) (argE e d) (as'.take as.length):=by rw[hal];exact q3.take _
  have t3:=VRL.encR (zc2 hok.wf d) t2
  rw[t3]at t1
  rw[zfd _ _ (zc2 hok.wf d),zdd (ρ':=fun j=>J (o.getD j 0)) (fun j x hx ha=>by
   have:=hg1 j x hx ha
   rw[hrho]at this;exact this) _ (zc2 hok.wf d)]
  exact t1
 have hcs2:=hcs.imp hargs
 obtain⟨rR1,rR2⟩:=zf8 (e:=e) r
 have hrout:=(zf8 (e:=e) r).ok w4
 have hrl:o.length<=(routE e r).length:=by rw[rR1,c1];exact w5
 have hres:∃v,mkVL (e.rsh:: e.rout.map RK.sh) r=resE e r:: (mkVL (e.rsh:: e.rout.map RK.sh) r).drop 1/\v=resE e r:=⟨_,by simp[mkVL,resE],rfl⟩
 obtain⟨_,hres,_⟩:=hres
 rw[hres]at he
 simp only[zpx]at he
 obtain⟨hκ,hkp⟩:=zil _ o (routE e r) he hrl
 obtain⟨ρ',hag,hv',hT'⟩:=h.after (o:=o) (L:=L) (roots:=routE e r) how hndo halive hLnd hLm hrout hrl hkp
 rw[c1,<-hinl]at hv' hT'
 refine⟨_,_,_,_,ρ',?_,hcs2,?_,hv' _ (ziL hok.wf r),?_⟩
 ·rw[<-c1];exact hκ
 ·simp only[za5,yhr,zaw];omega
 ·exact⟨hT',hag⟩
theorem zkh{args:List V}{as:List AV}(h:TR J T st)(hv:VRL J T.mem args as){e:TE}(hok:TEok P e)(hc:zqP e args=true){d:DatL (e.ash++e.rin.map RK.sh)}(hd:zbn (e.ash++e.rin.map RK.sh) (V.viewL T.mem args)=some d)
  {r:DatL (e.rsh:: e.rout.map RK.sh)}(hr:e.F d=some r)(he:zpx T.mem [] e.rout (mkVL (e.rsh:: e.rout.map RK.sh) r) Z=some res):
  ∃v m a sm ρ',Z v m=some res/\zep P e.f as st.mem a sm/\st.mem.length<=sm.length/\VR ρ' m v a/\TR ρ' ⟨T.env,m⟩ ⟨st.env,sm⟩/\∀q,q<T.mem.length->ρ' q=J q:=by
 obtain⟨fp,how⟩:=h.ow
 have hwf:=hok.wf
 have hs:=hok.ok d r hr
 have hres:=ziL hok.wf r
 have hrk:=zf8 (e:=e) r
 have hsol:=zc2 hok.wf d
 obtain⟨w1,w2,w3,w4,w5,w6⟩:=zcl hok.wf
 obtain⟨f',ash,rin,rsh,rout,F⟩:=e
 simp only[zqP,yhb]at hc
 obtain⟨⟨⟨⟨g1,g2⟩,_⟩,g4⟩,g5⟩:=hc
 have:=zpk g1
 subst this
 have hap:V.purL (mkVL (ash++List.map RK.sh []) d)=true:=zei _ d (by simpa using g2)
 have hargE:argE ⟨f',ash,[],rsh,rout,F⟩ d=mkVL (ash++List.map RK.sh []) d:=by
  unfold argE
  exact List.take_of_length_le (by rw[zcu];simp)
 obtain⟨bs,b1,b2,b3⟩:=zd7 h args as hv
 obtain⟨as',q1,q2,_⟩:=zbH (J:=J) (mem:=T.mem) _ _ d bs hd b1
 have q3:=zea q1 hap
 have q4:encRL id (rinE ⟨f',ash,[],rsh,rout,F⟩ d) (argE ⟨f',ash,[],rsh,rout,F⟩ d)=encPL (mkVL (ash++List.map RK.sh []) d):=by
  have t1:VRL id [] (mkVL (ash++List.map RK.sh []) d) (encPL (mkVL (ash++List.map RK.sh []) d)):=zdc _ hap
  have t2:=VRL.encR (J:=id) (mem:=[]) (by rw[<-hargE];exact hsol) t1
  rw[hargE]
  exact t2.symm
 have hs':Spec P f' (encPL (mkVL (ash++List.map RK.sh []) d)) [] (fun r' m'=>r'=encR (rhoC 0 0) (routE ⟨f',ash,[],rsh,rout,F⟩ r) (resE ⟨f',ash,[],rsh,rout,F⟩ r)/\m'=endM 0 0 (routE ⟨f',ash,[],rsh,rout,F⟩ r)):=by
  rw[<-q4];exact hs
 have hcs:=zep.of_spec_lend (args:=as) (mem:=st.mem) hs' (zlA rsh _ g4) (zqy (hrk.hf g5)) (by rw[<-q3,q2.len,b2]) fun H F U w hsat i a a' x ha ha' hrep=>by
  rw[<-q3]at ha'
  obtain⟨b,e1,e2⟩:=q2.get i a' ha'
  obtain⟨a0,e3,_,e4⟩:=b3 i b e1
  rw[ha]at e3;cases e3
  have:=e2.1 _ _ _ (e4 H F U w x hsat hrep)
  refine this.pure ?_ []
  rw[q3]at ha'
  obtain⟨c,e5,rfl⟩:=zgO _ i a' ha'
  have:c.pur=true:=by
   have hall:∀(l:List V),V.purL l=true->∀c∈l,c.pur=true:=by
    intro l
    induction l with
    | nil=>intro _ c hc;simp at hc
    | cons y l ih =>
     intro h c hc
     simp only[V.purL,yhb]at h
     rcases List.mem_cons.1 hc with rfl|hc
     ·exact h.1
     ·exact ih h.2 c hc
   exact hall _ hap c (ygd e5)
  exact VR.pur (J:=J) (mem:=T.mem) (zfN c this) this
 have hrout:=hrk.ok w4
 have hresl:mkVL (rsh:: rout.map RK.sh) r=resE ⟨f',ash,[],rsh,rout,F⟩ r:: (mkVL (rsh:: rout.map RK.sh) r).drop 1:=by simp[mkVL,resE]
 simp only at he
 rw[hresl]at he
 simp only[zpx]at he
 obtain⟨hκ,_⟩:=zil (zfy [] T.mem.length) [] (routE ⟨f',ash,[],rsh,rout,F⟩ r) he (Nat.zero_le _)
 obtain⟨ρ',hag,hv',hT'⟩:=h.after (o:=[]) (L:=[]) (roots:=routE ⟨f',ash,[],rsh,rout,F⟩ r) how .nil (fun r h=>by simp at h) .nil (fun i h=>by simp at h) hrout (Nat.zero_le _) (fun j r h=>by simp at h)
 refine⟨_,_,_,_,ρ',hκ,hcs,?_,hv' _ hres,hT',hag⟩
 simp only[za5,yhr,zaw];omega
def EOk(P:Program)(e:TE):Prop:=match zeN e.rin&&zeN e.rout with
 | true=>PEok P e
 | false=>TEok P e
theorem zc3{cl:Nat}{f:FuncId}{args:List V}{as:List AV}(h:TR J T st)(hv:VRL J T.mem args as):∀{Φ:List TE},(∀e∈Φ,EOk P e)->zfD cl f args T.mem Z Φ =some res->
  (∃v a,Z v T.mem=some res/\VR J T.mem v a/\((∀m,zep P f as m a m)\/(2<=cl/\zep P f as st.mem a st.mem))) \/
  (4<=cl/\zhD f Φ =false/\∃v m a sm ρ',Z v m=some res/\zep P f as st.mem a sm/\st.mem.length<=sm.length/\VR ρ' m v a/\TR ρ' ⟨T.env,m⟩ ⟨st.env,sm⟩/\∀q,q<T.mem.length->ρ' q=J q)
 | [],_,he=>by simp[zfD]at he
 | e:: Φ,hΦ,he=>by
  have hok:=hΦ e (by simp)
  simp only[zfD]at he
  split at he
  ·rename_i hf
   rcases zc3 h hv (Φ:=Φ) (fun e' he'=>hΦ e' (by simp[he'])) he with h1|⟨h1,h2,h3⟩
   ·exact .inl h1
   ·exact .inr ⟨h1,by simp only[zhD,hf];exact h2,h3⟩
  ·rename_i hf
   have hf':=za7 hf
   subst hf'
   have recu:zfD cl e.f args T.mem Z Φ =some res->(∃v a,Z v T.mem=some res/\VR J T.mem v a/\((∀m,zep P e.f as m a m)\/(2<=cl/\zep P e.f as st.mem a st.mem))) \/
     (4<=cl/\zhD e.f (e:: Φ)=false/\∃v m a sm ρ',Z v m=some res/\zep P e.f as st.mem a sm/\st.mem.length<=sm.length/\VR ρ' m v a/\TR ρ' ⟨T.env,m⟩ ⟨st.env,sm⟩/\∀q,q<T.mem.length->ρ' q=J q):=fun he=>by
    rcases zc3 h hv (Φ:=Φ) (fun e' he'=>hΦ e' (by simp[he'])) he with h1|⟨h1,h2,h3⟩
    ·exact .inl h1
    ·exact .inr ⟨h1,by simp only[zhD,hf,h2,Bool.and_false],h3⟩
   unfold EOk at hok
   split at he
   ·rename_i hn
    rw[hn]at hok
    split at he
    ·rename_i hc
     split at he
     ·rename_i d hd
      obtain⟨r,hr,he⟩:=zah he
      exact .inl (zki h hv hok hc hd hr he)
     ·exact recu he
    ·exact recu he
   ·rename_i hn
    rw[hn]at hok
    split at he
    ·cases he
    ·rename_i hc
     simp only[yhb]at hc
     split at he
     ·rename_i hlb
      split at he
      ·rename_i d hd
       obtain⟨r,hr,he⟩:=zah he
       exact .inr ⟨za8 hc.1,by simp only[zhD,hf,hn,Bool.false_and],zkh h hv hok hlb hd hr he⟩
      ·exact recu he
     ·split at he
      ·rename_i d hd
       obtain⟨r,hr,he⟩:=zah he
       exact .inr ⟨za8 hc.1,by simp only[zhD,hf,hn,Bool.false_and],zkj h hv hok (za7 hc.2) hd hr he⟩
      ·exact recu he
end
end Go.Fw
namespace Go.Fw
open Go
variable [Pin]
structure Inv (W:List Nat)(pu:Bool)(T T':TS):Prop where
 env:∀n,memB n W=false->((lookV T.env n).pur=true\/(lookV T.env n).isJ=true\/(pu=true/\noOw T.mem=true))->lookV T'.env n=lookV T.env n\/lookV T'.env n=.junk
 mem:pu=true->noOw T.mem=true->T'.mem=T.mem
theorem zaI(n:Nat):∀a b:List Nat,memB n (a++b)=(memB n a ||memB n b)
 | [],b=>by simp[memB]
 | x:: a,b=>by
  simp only[List.cons_append,memB]
  cases Nat.beq n x<;>simp[zaI n a b]
theorem zit(n:Nat):∀a:List Nat,memB n a=true↔n∈a
 | []=>by simp[memB]
 | x:: a=>by
  simp only[memB,List.mem_cons]
  cases h:Nat.beq n x with
  | true=>simp[Nat.eq_of_beq_eq_true h]
  | false=>simp[Nat.ne_of_beq_eq_false h,zit n a]
theorem ziu{n:Nat}{a:List Nat}:memB n a=false↔n∉a:=by
 rw[<-zit];simp
theorem Inv.refl(W:List Nat)(pu:Bool)(T:TS):Inv W pu T T:=⟨fun _ _ _=>.inl rfl,fun _ _=>rfl⟩
theorem Inv.mono{W W':List Nat}{pu pu':Bool}{T T':TS}(h:Inv W pu T T')(hW:∀n,memB n W'=false->memB n W=false)(hp:pu'=true->pu=true):Inv W' pu' T T':=
 ⟨fun n hn hc=>h.env n (hW n hn) (hc.imp id (.imp id fun e=>⟨hp e.1,e.2⟩)),fun e=>h.mem (hp e)⟩
theorem Inv.trans{W:List Nat}{pu:Bool}{T T1 T2:TS}(h:Inv W pu T T1)(h':Inv W pu T1 T2):Inv W pu T T2:=by
 refine⟨fun n hn hc=>?_,fun e e1=>(h'.mem e (by rw[h.mem e e1];exact e1)).trans (h.mem e e1)⟩
 rcases h.env n hn hc with e|e
 ·rcases h'.env n hn (by rw[e];exact hc.imp id (.imp id fun e=>⟨e.1,by rw[h.mem e.1 e.2];exact e.2⟩))with e'|e'
  ·exact .inl (e'.trans e)
  ·exact .inr e'
 ·rcases h'.env n hn (.inr (.inl (by rw[e];rfl)))with e'|e'
  ·exact .inr (e'.trans e)
  ·exact .inr e'
theorem zh3(Φ:List TE){k:K}(h1:∀f xs,k≠.call f xs)(h2:∀f xs,k≠.callv f xs):zeR Φ k=zeR [] k:=by
 cases k with
 | call f xs=>exact absurd rfl (h1 _ _)
 | callv f xs=>exact absurd rfl (h2 _ _)
 | mv x=>cases x with
  | t n=>rfl
  | c v=>cases v<;>rfl
 | _=>rfl
theorem Inv.put{W:List Nat}{pu:Bool}{T:TS}{d:Option Nat}{v:V}{m:List Root}(hd:∀x,d=some x->memB x W=true)(hm:pu=true->noOw T.mem=true->m=T.mem):Inv W pu T ⟨zdB T.env d v,m⟩:=by
 refine⟨fun n hn _=>.inl ?_,hm⟩
 rw[zaK]
 split
 ·rename_i e;rw[hd n e]at hn;cases hn
 ·rfl
theorem TR.lit{J:Nat->Nat}{T:TS}{st:St}{t:Nat}{b:Bool}(h:TR J T st)(ht:lookV T.env t=.bool b):TR J ⟨(t,.bool b):: T.env,T.mem⟩ ⟨(t,.bool b):: st.env,st.mem⟩:=by
 refine⟨fun n=>?_,h.box,h.boxC,h.inj,h.ow,h.pin⟩
 have h1:=h.env n
 have e1:lookV ((t,V.bool b):: T.env) n=if t=n then .bool b else lookV T.env n:=by
  have:=zaK (env:=T.env) (d:=some t) (v:=.bool b) (n:=n)
  simpa[zdB]using this
 have e2:look ((t,AV.bool b):: st.env) n=if t=n then .bool b else look st.env n:=by simp[look]
 show VR J T.mem (lookV ((t,V.bool b):: T.env) n) (look ((t,AV.bool b):: st.env) n)
 rw[e1,e2]
 split
 ·simp[VR]
 ·exact h1
theorem Inv.lit{W:List Nat}{pu:Bool}{T:TS}{t:Nat}{b:Bool}(ht:lookV T.env t=.bool b):Inv W pu T ⟨(t,.bool b):: T.env,T.mem⟩:=by
 refine⟨fun n _ _=>.inl ?_,fun _ _=>rfl⟩
 have:=zaK (env:=T.env) (d:=some t) (v:=.bool b) (n:=n)
 simp only[zdB,Option.some.injEq]at this
 rw[this]
 split
 ·rename_i e;subst e;exact ht.symm
 ·rfl
section
variable {Φ:List TE}{tys:List (Nat×An)}{C:Ctx}{k:List CItem}{ρt:Type}{res:ρt}
theorem zpV(tys:List (Nat×An))(d:Option Nat):zrO tys d≠.no->d≠none:=by
 intro h e;subst e;simp[zrO]at h
theorem zol{J:Nat->Nat}{T:TS}{st:St}{Z:V->List Root->Option ρt}{d:Option Nat}{g:Option (Nat×Bool)}{kk:K}{keep:List Nat}{l:List COp}{cl:Nat}(hΦ:∀e∈Φ,EOk C.P e)(h:TR J T st)(hg:g=none\/∃t bb,g=some (t,bb)/\look st.env t=.bool bb)
  (he:opT Φ tys false cl d kk T.env T.mem Z=some res)
  (hk:∀v m ρ' st',TR ρ' ⟨zdB T.env d v,m⟩ st'->(zeR Φ kk=true->noOw T.mem=true->m=T.mem)->Z v m=some res->AW C (.ops keep l:: k) st'):AW C (.ops keep (.mk d g kk:: l):: k) st:=by
 have put:∀{v:V}{a:AV},VR J T.mem v a->TR J ⟨zdB T.env d v,T.mem⟩ ⟨put st.env d a,st.mem⟩:=fun hv=>⟨fun n=>by
  simp only[zaK,zct]
  split
  ·exact hv
  ·exact h.env n,h.box,h.boxC,h.inj,h.ow,h.pin⟩
 have plain:∀(hne1:∀f xs,kk≠.call f xs)(hne2:∀f xs,kk≠.callv f xs),evT false (zrO tys d) kk T.env T.mem Z=some res->AW C (.ops keep (.mk d g kk:: l):: k) st:=by
  intro hne1 hne2 he
  obtain⟨v,m,h1,⟨p,a,sm,g1,g2,st2,ρ',g3,_,g4⟩,h2⟩:=zjt (d:=d) h (zpV tys d) he
  refine AW.opk hg g1 g2 (g3.2 C _ ?_)
  exact hk v m ρ' st2 g4 (fun e=>h2 (by rw[<-zh3 Φ hne1 hne2];exact e)) h1
 have call:∀{f:FuncId}{args:List V}{as:List AV},zfD cl f args T.mem Z Φ =some res->VRL J T.mem args as->
   ((∃xs,kk=.call f xs/\as=xs.map (ar st.env))\/(∃y xs caps f0,kk=.callv y xs/\ar st.env y=.fn f0 caps/\f=fnum f0/\as=fargs f0 (xs.map (ar st.env)) caps))->AW C (.ops keep (.mk d g kk:: l):: k) st:=by
  intro f args as he hv hkk
  rcases zc3 h hv hΦ he with⟨v,a,h1,h2,h3⟩|⟨_,hp,v,m,a,sm,ρ',h1,h2,h3,h4,h5,_⟩
  ·have hcs:zep C.P f as st.mem a st.mem:=by
    rcases h3 with h3|h3
    ·exact h3 _
    ·exact h3.2
   exact AW.callc hg hkk hcs (Nat.le_refl _) (hk v T.mem J _ (put h2) (fun _ _=>rfl) h1)
  ·refine AW.callc hg hkk h2 h3 (hk v m ρ' _ (h5.put d h4) (fun e=>?_) h1)
   rcases hkk with⟨xs,rfl,_⟩|⟨y,xs,caps,f0,rfl,_,_⟩
   ·simp only[zeR]at e;rw[hp]at e;cases e
   ·simp only[zeR]at e;cases e
 cases kk with
 | call f xs =>
  simp only[opT]at he
  exact call he (VRL.map h.ar xs) (.inl ⟨xs,rfl,rfl⟩)
 | callv y xs =>
  simp only[opT]at he
  split at he
  ·rename_i f caps e
   have hy:=h.ar y
   rw[e]at hy
   simp only[VR]at hy
   obtain⟨cas,e2,hc⟩:=hy
   exact call he ((VRL.map h.ar xs).fargs hc) (.inr ⟨y,xs,cas,f,rfl,e2,rfl,rfl⟩)
  ·cases he
 | _=>exact plain (by intros;simp) (by intros;simp) he
theorem zgb(hΦ:∀e∈Φ,EOk C.P e){keep:List Nat}{D:Dn}{Z:TS->Option ρt}:∀(ops:List COp)(cls:List Nat)(T:TS){J:Nat->Nat}{st:St},TR J T st->zgr Φ tys false D ops cls T Z=some res->
  (∀T' ρ' st',TR ρ' T' st'->Inv (ze9 ops) (zam Φ ops) T T'->Z T'=some res->AW C (.ops keep []:: k) st')->AW C (.ops keep ops:: k) st
 | [],cls,T,J,st,h,he,hk=>hk T J st h (.refl _ _ _) (by simpa[zgr]using he)
 | .mk d g kk:: l,cls,T,J,st,h,he,hk=>by
  have hW:∀x,d=some x->memB x (ze9 (.mk d g kk:: l))=true:=fun x hx=>by
   subst hx
   simp[ze9,memB,Nat.beq_refl]
  have hWl:∀n,memB n (ze9 (.mk d g kk:: l))=false->memB n (ze9 l)=false:=fun n hn=>by
   cases d with
   | none=>exact hn
   | some d =>
    simp only[ze9,memB]at hn
    split at hn
    ·cases hn
    ·exact hn
  have hpu:zam Φ (.mk d g kk:: l)=true->zeR Φ kk=true/\zam Φ l=true:=fun e=>by simpa[zam]using e
  have next:∀(T1:TS)(ρ1:Nat->Nat)(st1:St)(cls1:List Nat),TR ρ1 T1 st1->Inv (ze9 (.mk d g kk:: l)) (zam Φ (.mk d g kk:: l)) T T1->zgr Φ tys false D l cls1 T1 Z=some res->AW C (.ops keep l:: k) st1:=by
   intro T1 ρ1 st1 cls1 h1 hi he1
   exact zgb hΦ l cls1 T1 h1 he1 fun T' ρ' st' h' hi' hκ=>hk T' ρ' st' h' (hi.trans (hi'.mono hWl fun e=>(hpu e).2)) hκ
  have on:∀(T0:TS)(st0:St)(cl:Nat),TR J T0 st0->Inv (ze9 (.mk d g kk:: l)) (zam Φ (.mk d g kk:: l)) T T0->(g=none\/∃t bb,g=some (t,bb)/\look st0.env t=.bool bb)->
    opT Φ tys false cl d kk T0.env T0.mem (fun v m=>zgr Φ tys false D l cls.tail ⟨zdB T0.env d v,m⟩ Z)=some res->AW C (.ops keep (.mk d g kk:: l):: k) st0:=by
   intro T0 st0 cl h0 hi hg he0
   refine zol hΦ h0 hg he0 fun v m ρ' st' h' hm hκ=>?_
   exact next _ ρ' st' _ h' (hi.trans (Inv.put hW fun e=>hm (hpu e).1)) hκ
  have off:∀(T0:TS)(st0:St),TR J T0 st0->Inv (ze9 (.mk d g kk:: l)) (zam Φ (.mk d g kk:: l)) T T0->(∃t bb,g=some (t,bb)/\(look st0.env t=.bool (!bb)\/look st0.env t=.tup []))->
    zgr Φ tys false D l cls.tail ⟨zdB T0.env d (.tup []),T0.mem⟩ Z=some res->AW C (.ops keep (.mk d g kk:: l):: k) st0:=by
   intro T0 st0 h0 hi ⟨t,bb,hg,ht⟩ he0
   subst hg
   refine AW.opoff ht ?_
   refine next _ J _ _ ?_ (hi.trans (Inv.put hW fun _ _=>rfl)) he0
   refine⟨fun n=>?_,h0.box,h0.boxC,h0.inj,h0.ow,h0.pin⟩
   simp only[zaK,zct]
   split
   ·simp[VR,VRL]
   ·exact h0.env n
  cases g with
  | none =>
   simp only[zgr,okT,zeq,zbh,Bool.not_false,Bool.true_or]at he
   exact on T st _ h (.refl _ _ _) (.inl rfl) he
  | some gg =>
   obtain⟨t,bb⟩:=gg
   have ht0:=h.env t
   have lit:∀b,lookV T.env t=.bool b->look st.env t=.bool b->AW C (.ops keep (.mk d (some (t,bb)) kk:: l):: k) ⟨(t,.bool b):: st.env,st.mem⟩->AW C (.ops keep (.mk d (some (t,bb)) kk:: l):: k) st:=by
    intro b _ h2 h3
    exact AW.lit (h2 ▸ Imp.refl _) h3
   simp only[zgr,okT,zeq,zbh,Bool.not_false,Bool.true_or]at he
   split at he
   ·rename_i x hx
    rw[hx]at ht0
    simp only[VR]at ht0
    cases x with
    | true =>
     refine lit true hx ht0 ?_
     cases bb with
     | true=>exact on _ _ _ (h.lit hx) (.lit hx) (.inr ⟨t,true,rfl,by simp[look]⟩) (by simpa[zad]using he)
     | false=>exact off _ _ (h.lit hx) (.lit hx) ⟨t,false,rfl,.inl (by simp[look])⟩ (by simpa[zad]using he)
    | false =>
     refine lit false hx ht0 ?_
     cases bb with
     | true=>exact off _ _ (h.lit hx) (.lit hx) ⟨t,true,rfl,.inl (by simp[look])⟩ (by simpa[zad]using he)
     | false=>exact on _ _ _ (h.lit hx) (.lit hx) (.inr ⟨t,false,rfl,by simp[look]⟩) (by simpa[zad]using he)
   ·rename_i hx
    rw[hx]at ht0
    simp only[VR,VRL]at ht0
    obtain⟨as,h1,rfl⟩:=ht0
    exact off T st h (.refl _ _ _) ⟨t,bb,rfl,.inr h1⟩ he
   ·cases he
end
end Go.Fw
namespace Go.Fw
open Go
variable [Pin]
theorem zhg{P:Program}{Φ:List (En P)}{stb:List Nat}{gw:Nat->Nat}{cr:List (Nat×CR)}{Q Q':St->Prop}(hQ:∀st,Q st->Q' st):∀(l:List COp)(cls:List Nat)(st:St),zf9 Φ stb gw cr l cls st Q->zf9 Φ stb gw cr l cls st Q':=by
 intro l
 induction l with
 | nil=>intro cls st h;exact hQ _ h
 | cons c l ih =>
  intro cls st h
  obtain⟨d,g,k⟩:=c
  cases g with
  | none =>
   simp only[zf9]at h|-
   refine⟨h.1,?_⟩
   have h2:=h.2
   split at h2
   ·exact⟨h2.1,h2.2.1,h2.2.2.1,ih _ _ h2.2.2.2⟩
   ·exact h2.elim
  | some gg =>
   obtain⟨t,bb⟩:=gg
   simp only[zf9]at h|-
   split at h
   ·refine⟨fun hx=>?_,fun hx=>ih _ _ (h.2 hx)⟩
    have h2:=h.1 hx
    refine⟨h2.1,?_⟩
    have h2:=h2.2
    split at h2
    ·exact⟨h2.1,h2.2.1,h2.2.2.1,ih _ _ h2.2.2.2⟩
    ·exact h2.elim
   ·exact ih _ _ h
   ·exact h.elim
theorem zfR{P:Program}{Φ:List (En P)}{stb:List Nat}{cr:List (Nat×CR)}{n:Nat}{c:CR}{d:Option Nat}{k:K}{env:List (Nat×AV)}{mem:List Ent}(hd:d≠some n):
  evD Φ ((n,c):: cr) d k env mem=evD Φ cr d k env mem/\clsK stb ((n,c):: cr) d k env=clsK stb cr d k env:=by
 have hl:zdV ((n,c):: cr) d=zdV cr d:=by
  cases d with
  | none=>cases cr<;>rfl
  | some d =>
   rw[zbz,if_neg (fun e=>hd (by rw[e]))]
 constructor
 ·cases k<;>simp only[evD,hl]
 ·cases k<;>simp only[clsK,hl]
theorem ziN{P:Program}{Φ:List (En P)}{stb:List Nat}{gw:Nat->Nat}{cr:List (Nat×CR)}{n:Nat}{c:CR}{Q:St->Prop}:∀(l:List COp)(cls:List Nat)(st:St),(∀c'∈l,c'.d≠some n)->zf9 Φ stb gw cr l cls st Q->zf9 Φ stb gw ((n,c):: cr) l cls st Q:=by
 intro l
 induction l with
 | nil=>intro cls st _ h;exact h
 | cons c' l ih =>
  intro cls st hd h
  obtain⟨d,g,k⟩:=c'
  have hd0:d≠some n:=hd (.mk d g k) (by simp)
  have hdl:∀c'∈l,c'.d≠some n:=fun c' hc=>hd c' (by simp[hc])
  cases g with
  | none =>
   simp only[zf9]at h|-
   rw[(zfR (stb:=stb) hd0).1,(zfR (P:=P) (Φ:=Φ) (stb:=stb) (mem:=st.mem) hd0).2]
   refine⟨h.1,?_⟩
   have h2:=h.2
   split at h2
   ·exact⟨h2.1,h2.2.1,fun h5=>by obtain⟨w,x,q1,q2,q3,q4⟩:=h2.2.2.1 h5;exact⟨w,x,q1,q2,q3,fun m hm=>by rw[(zfR (stb:=stb) hd0).1];exact q4 m hm⟩,ih _ _ hdl h2.2.2.2⟩
   ·exact h2.elim
  | some gg =>
   obtain⟨t,bb⟩:=gg
   simp only[zf9]at h|-
   split at h
   ·refine⟨fun hx=>?_,fun hx=>ih _ _ hdl (h.2 hx)⟩
    have h2:=h.1 hx
    rw[(zfR (stb:=stb) hd0).1,(zfR (P:=P) (Φ:=Φ) (stb:=stb) (mem:=st.mem) hd0).2]
    refine⟨h2.1,?_⟩
    have h2:=h2.2
    split at h2
    ·exact⟨h2.1,h2.2.1,fun h5=>by obtain⟨w,x,q1,q2,q3,q4⟩:=h2.2.2.1 h5;exact⟨w,x,q1,q2,q3,fun m hm=>by rw[(zfR (stb:=stb) hd0).1];exact q4 m hm⟩,ih _ _ hdl h2.2.2.2⟩
    ·exact h2.elim
   ·exact ih _ _ hdl h
   ·exact h.elim
def wrK(k:K)(env:List (Nat×AV)):Option Nat:=
 match k with
 | .store _ a _=>match ar env a with
  | .mp i _ _=>some i
  | _=>none
 | .app _ x _|.apps x _|.apf _ x _=>match ar env x with
  | .ms i _ _ _=>some i
  | _=>none
 | _=>none
theorem zfP{pr:Bool}{mem:List Ent}{es:Nat}{x:AV}{ys:List (List AV)}{r:Ev}{e:Nat}(h:zcp pr mem es x ys=some r)(hl:e<mem.length)(hw:∀i es off len,x=.ms i es off len->i≠e):r.2.2[e]? =mem[e]?:=by
 unfold zcp at h
 (repeat' split at h)<;>first|(cases h;done)|(cases h;first|rfl|exact yge hl|(rw[yge (by simpa using hl),ygg (hw _ _ _ _ rfl)])|(rw[ygg (hw _ _ _ _ rfl)]))
theorem zmb{mem:List Ent}{es:Nat}{x:AV}{ys:List (List AV)}{r:Ev}{e:Nat}(h:zku mem es x ys=some r)(hl:e<mem.length)(hw:∀i es off len,x=.ms i es off len->i≠e):r.2.2[e]? =mem[e]?:=by
 unfold zku at h
 split at h
 ·rename_i p j e0 o0 n m hev
  have hj:j=mem.length:=by
   unfold zcp at hev
   (repeat' split at hev)<;>first|(cases hev;done)|(cases hev;rfl)
  split at h
  ·cases h
   subst hj
   simp only
   rw[ygg (by omega)]
   exact zfP hev hl hw
  ·cases h
 ·cases h
theorem zpb{k:K}{env:List (Nat×AV)}{mem:List Ent}{r:Ev}{e:Nat}(h:evK k env mem=some r)(hl:e<mem.length)(hw:∀i,wrK k env=some i->i≠e):r.2.2[e]? =mem[e]?:=by
 cases k with
 | store n a x =>
  simp only[evK]at h
  split at h
  ·rename_i i row off ha
   have:=hw i (by simp only[wrK,ha])
   (repeat' split at h)<;>first|(cases h;done)|(cases h;rw[ygg this])
  ·cases h
 | app es x y =>
  simp only[evK]at h
  split at h
  ·exact zfP h hl fun i es off len hx=>hw i (by simp only[wrK,hx])
  ·cases h
 | apps x y =>
  simp only[evK]at h
  split at h
  ·exact zfP h hl fun i es off len hx=>hw i (by simp only[wrK,hx])
  ·cases h
 | apf es x y =>
  simp only[evK]at h
  split at h
  ·exact zmb h hl fun i es off len hx=>hw i (by simp only[wrK,hx])
  ·cases h
 | load n x=>cases n<;>simp only[evK]at h<;>(repeat' split at h)<;>cases h<;>rfl
 | field o n x=>cases n<;>simp only[evK]at h<;>(repeat' split at h)<;>cases h<;>rfl
 | boxm n x=>simp only[evK]at h;cases h;exact yge hl
 | alloc zs=>simp only[evK]at h;cases h;exact yge hl
 | bslm es ps=>simp only[evK]at h;cases h;exact yge hl
 | buildo o es zs ps=>simp only[evK]at h;cases h;exact yge hl
 | mks es zs l=>simp only[evK]at h;(repeat' split at h)<;>first|(cases h;done)|(cases h;exact yge hl)
 | call _ _|callv _ _=>simp[evK]at h
 | _=>simp only[evK]at h;first|(cases h;rfl)|((repeat' split at h)<;>first|(cases h;done)|(cases h;rfl))
theorem zrw{n:Nat}{a x:Ar}{env:List (Nat×AV)}{mem:List Ent}{r:Ev}(h:evK (.store n a x) env mem=some r):∃w e,wrK (.store n a x) env=some w/\w<mem.length/\r.2.2=mem.set w e/\∀m,m[w]? =mem[w]?->evK (.store n a x) env m=some (r.1,r.2.1,m.set w e):=by
 simp only[evK]at h
 split at h
 ·rename_i i row off ha
  split at h
  ·rename_i es rows hi
   split at h
   ·rename_i rw0 hr
    cases h
    refine⟨i,_,by simp only[wrK,ha],(yga.1 hi).1,rfl,fun m hm=>?_⟩
    rw[hi]at hm
    simp only[evK,ha,hm,hr]
   ·cases h
  ·cases h
 ·cases h
theorem zaH{mem:List Root}{r:Nat}:zeO mem r=true↔∃y,mem[r]? =some y/\y.alive=true:=by
 unfold zeO
 cases h:mem[r]? with
 | none=>simp
 | some y=>cases y<;>simp[Root.alive]
section
variable {tys:List (Nat×An)}{ρt:Type}{res:ρt}
theorem ztx{J:Nat->Nat}{T:TS}{st:St}{dr:Bool}{an:An}{k:K}{Z:V->List Root->Option ρt}(h:TR J T st)(he:evT dr an k T.env T.mem Z=some res):∀i,wrK k st.env=some i->∃r,wrT k T.env=some r/\(zeO T.mem r=true->i=J r):=by
 intro i hi
 cases k with
 | store n a x =>
  have ha:=h.ar a
  simp only[evT]at he
  split at he
  ·rename_i r row off e
   refine⟨r,by simp only[wrT,e],fun hl=>?_⟩
   rw[e]at ha
   simp only[wrK]at hi
   simp only[VR]at ha
   obtain⟨y,hy,hya⟩:=zaH.1 hl
   simp only[mpR,hy]at ha
   cases y with
   | dead=>cases hya
   | arr t xs w=>simp only at ha;rw[ha]at hi;simpa using hi.symm
   | box b cs=>simp only at ha;rw[ha.1]at hi;simpa using hi.symm
  ·cases he
 | app es x y =>
  have hx:=h.ar x
  have own:∀r,arV T.env x=.own r->∃r,wrT (.app es x y) T.env=some r/\(zeO T.mem r=true->i=J r):=fun r e=>by
   refine⟨r,by simp only[wrT,e],fun hl=>?_⟩
   rw[e]at hx
   simp only[wrK]at hi
   simp only[VR]at hx
   obtain⟨y,hy,hya⟩:=zaH.1 hl
   simp only[zet,hy]at hx
   cases y with
   | dead=>cases hya
   | arr t xs w=>simp only at hx;rw[hx]at hi;simpa using hi.symm
   | box b cs =>
    exfalso
    simp only[evT,e,hy]at he
    (repeat' split at he)<;>first|(cases he;done)|(simp only[ygc]at he;obtain⟨_,_,he⟩:=he;first|(cases he;done)|((repeat' split at he)<;>cases he))
  have e0:arV T.env x=.e0->False:=fun e=>by
   rw[e]at hx
   simp only[VR]at hx
   simp only[wrK,hx]at hi
   cases hi
  by_cases ho:∃r,arV T.env x=.own r
  ·obtain⟨r,e⟩:=ho;exact own r e
  ·exfalso
   simp only[evT]at he
   (repeat' split at he)<;>first|(cases he;done)|(exact ho ⟨_,‹_›⟩)|(exact e0 ‹_›)|(simp only[ygc]at he;obtain⟨_,_,he⟩:=he;(repeat' split at he)<;>first|(cases he;done)|(exact ho ⟨_,‹_›⟩)|(exact e0 ‹_›))
 | apf es x y =>
  have hx:=h.ar x
  have own:∀r,arV T.env x=.own r->∃r,wrT (.apf es x y) T.env=some r/\(zeO T.mem r=true->i=J r):=fun r e=>by
   refine⟨r,by simp only[wrT,e],fun hl=>?_⟩
   rw[e]at hx
   simp only[wrK]at hi
   simp only[VR]at hx
   obtain⟨y,hy,hya⟩:=zaH.1 hl
   simp only[zet,hy]at hx
   cases y with
   | dead=>cases hya
   | arr t xs w=>simp only at hx;rw[hx]at hi;simpa using hi.symm
   | box b cs =>
    exfalso
    simp only[evT,e,hy]at he
    (repeat' split at he)<;>first|(cases he;done)|(simp only[ygc]at he;obtain⟨_,_,he⟩:=he;first|(cases he;done)|((repeat' split at he)<;>cases he))
  have e0:arV T.env x=.e0->False:=fun e=>by
   rw[e]at hx
   simp only[VR]at hx
   simp only[wrK,hx]at hi
   cases hi
  by_cases ho:∃r,arV T.env x=.own r
  ·obtain⟨r,e⟩:=ho;exact own r e
  ·exfalso
   simp only[evT]at he
   (repeat' split at he)<;>first|(cases he;done)|(exact ho ⟨_,‹_›⟩)|(exact e0 ‹_›)|(simp only[ygc]at he;obtain⟨_,_,he⟩:=he;(repeat' split at he)<;>first|(cases he;done)|(exact ho ⟨_,‹_›⟩)|(exact e0 ‹_›))
 | apps x y =>
  have hx:=h.ar x
  have own:∀r,arV T.env x=.own r->∃r,wrT (.apps x y) T.env=some r/\(zeO T.mem r=true->i=J r):=fun r e=>by
   refine⟨r,by simp only[wrT,e],fun hl=>?_⟩
   rw[e]at hx
   simp only[wrK]at hi
   simp only[VR]at hx
   obtain⟨y,hy,hya⟩:=zaH.1 hl
   simp only[zet,hy]at hx
   cases y with
   | dead=>cases hya
   | arr t xs w=>simp only at hx;rw[hx]at hi;simpa using hi.symm
   | box b cs =>
    exfalso
    simp only[evT,e,hy]at he
    (repeat' split at he)<;>first|(cases he;done)|(simp only[ygc]at he;obtain⟨_,_,he⟩:=he;first|(cases he;done)|((repeat' split at he)<;>cases he))
  have e0:arV T.env x=.e0->False:=fun e=>by
   rw[e]at hx
   simp only[VR]at hx
   simp only[wrK,hx]at hi
   cases hi
  by_cases ho:∃r,arV T.env x=.own r
  ·obtain⟨r,e⟩:=ho;exact own r e
  ·exfalso
   simp only[evT]at he
   (repeat' split at he)<;>first|(cases he;done)|(exact ho ⟨_,‹_›⟩)|(exact e0 ‹_›)
 | _=>simp[wrK]at hi
end
def znd(D:Dn)(mem:List Root)(R:List Nat):Prop:=∀r∈R,zeO mem r=true/\r<D.n/\r∉D.wr
def OnD(P:Program)(D:Dn)(J:Nat->Nat)(mem:List Root)(d:Option Nat)(kk:K)(l:List COp)(cls:List Nat)(st0:St)(Q:St->Prop):Prop:=
 ∃R gw cr,(∀r∈D.rd,r∈R)/\znd D mem R/\(∀p∈D.gs,gw (J p.1)=p.2)/\clsK (R.map J) cr d kk st0.env<=cls.headD 0/\(match evD ([]:List (En P)) cr d kk st0.env st0.mem with
  | some (p,v,m)=>p/\KeepE (R.map J) (cls.headD 0) st0.mem m/\StoreE ([]:List (En P)) gw cr d kk st0.env (cls.headD 0) st0.mem (p,v,m)/\zf9 ([]:List (En P)) (R.map J) gw cr l cls.tail ⟨put st0.env d v,m⟩ Q
  | none=>False)
def zrN(D:Dn)(mem:List Root):Prop:=(∀p∈D.gs,zeO mem p.1=true)/\∀p∈D.gs,∀q∈D.gs,p.1=q.1->p.2=q.2
section
variable {Φ:List TE}{tys:List (Nat×An)}{P:Program}{ρt:Type}{res:ρt}
theorem zqv{J:Nat->Nat}{T:TS}{st:St}{k:K}{D:Dn}{R:List Nat}{cl:Nat}{cr:List (Nat×CR)}{d:Option Nat}(h:TR J T st)(h1:∀f xs,k≠.call f xs)(h2:∀f xs,k≠.callv f xs)
  (hc:zo4 D k T.env<=cl)(hl:∀r,rdT k T.env=some r->zeO T.mem r=true)(hR:cl<=1->∀r,rdT k T.env=some r->r∈R):clsK (R.map J) cr d k st.env<=cl:=by
 cases k with
 | call f xs=>exact absurd rfl (h1 _ _)
 | callv f xs=>exact absurd rfl (h2 _ _)
 | load n x =>
  have hx:=h.ar x
  simp only[zo4]at hc
  simp only[clsK]
  simp only[rdT]at hl hR
  split
  ·exact Nat.zero_le _
  ·rename_i i row off hi
   rw[hi]at hx
   rcases Nat.lt_or_ge cl 2 with hcl|hcl
   ·cases hv:arV T.env x with
    | mp r row' off' =>
     rw[hv]at hx hc
     simp only[VR]at hx
     have hr:=hR (by omega) r (by rw[hv])
     have hlive:=hl r (by rw[hv])
     have he:i=J r:=by
      obtain⟨y,hy,hya⟩:=zaH.1 hlive
      simp only[mpR,hy]at hx
      cases y with
      | dead=>cases hya
      | arr t xs w=>simp only[AV.mp.injEq]at hx;exact hx.1
      | box b cs=>simp only[AV.mp.injEq]at hx;exact hx.1.1
     have:(R.map J).contains i=true:=by rw[he];simp only[List.contains_eq_mem,yhc];exact List.mem_map_of_mem hr
     rw[this]
     simp only at hc|-
     split at hc<;>omega
    | ip cs=>rw[hv]at hx;simp only[VR]at hx;obtain⟨as,hx,_⟩:=hx;cases hx
    | ep n v=>rw[hv]at hx;simp only[VR]at hx;cases hx
    | _=>rw[hv]at hc;simp only at hc;omega
   ·split<;>omega
  ·rename_i hne1 hne2
   split at hc
   ·rename_i e;rw[e]at hx;simp only[VR]at hx;obtain⟨as,hx,_⟩:=hx;exact absurd hx (hne1 _)
   ·rename_i e;rw[e]at hx;simp only[VR]at hx;exact absurd hx (hne1 _)
   ·rename_i r row off e
    rw[e]at hx
    simp only[VR]at hx
    have hlive:=hl r (by rw[e])
    obtain⟨y,hy,hya⟩:=zaH.1 hlive
    simp only[mpR,hy]at hx
    cases y with
    | dead=>cases hya
    | arr t xs w=>exact absurd hx (hne2 _ _ _)
    | box b cs=>exact absurd hx.1 (hne2 _ _ _)
   ·exact hc
 | b2s x =>
  have hx:=h.ar x
  simp only[zo4]at hc
  simp only[clsK]
  split
  ·exact Nat.zero_le _
  ·exact Nat.zero_le _
  ·rename_i hne1 hne2
   split at hc
   ·rename_i e;rw[e]at hx;simp only[VR]at hx;exact absurd hx (hne1 _ _)
   ·rename_i e;rw[e]at hx;simp only[VR]at hx;exact absurd hx (hne1 _ _)
   ·rename_i e;rw[e]at hx;simp only[VR]at hx;exact absurd hx hne2
   ·exact hc
 | _=>exact hc
theorem zoi(D:Dn)(cl:Nat)(k:K)(env:List (Nat×V)):(zbh true D cl k env).n=D.n:=rfl
theorem ziF(D:Dn)(cl:Nat)(k:K)(env:List (Nat×V)):(zbh true D cl k env).wr=match Nat.beq cl 4,wrT k env with
  | false,some r=>r:: D.wr
  | _,_=>D.wr:=rfl
theorem ziD(D:Dn)(cl:Nat)(k:K)(env:List (Nat×V)):(zbh true D cl k env).gs=match Nat.ble 5 cl,wrT k env with
  | true,some r=>(r,cl):: D.gs
  | _,_=>D.gs:=rfl
theorem zhZ:∀{gs:List (Nat×Nat)}{n c:Nat},zmz gs n=some c->(n,c)∈gs
 | (m,v):: r,n,c,h=>by
  simp only[zmz]at h
  split at h
  ·rename_i e;cases h;rw[Nat.eq_of_beq_eq_true e];exact List.mem_cons_self ..
  ·exact List.mem_cons_of_mem _ (zhZ h)
theorem zhY:∀{gs:List (Nat×Nat)}{n:Nat},zmz gs n=none->∀p∈gs,p.1≠n
 | [],_,_,p,hp=>by cases hp
 | (m,v):: r,n,h,p,hp=>by
  simp only[zmz]at h
  split at h
  ·cases h
  ·rename_i e
   rcases List.mem_cons.1 hp with rfl|hp
   ·exact Nat.ne_of_beq_eq_false e
   ·exact zhY h p hp
theorem zrN.next{D:Dn}{k:K}{env:List (Nat×V)}{mem m:List Root}{cl:Nat}(h:zrN D mem)(hok:okT true D cl k env mem=true)(hb:zeq true (zbh true D cl k env) mem m=true):zrN (zbh true D cl k env) m:=by
 simp only[zeq,Bool.not_true,Bool.false_or,yhb]at hb
 simp only[okT,Bool.not_true,Bool.false_or,yhb]at hok
 refine⟨fun p hp=>List.all_eq_true.1 hb.2 p hp,?_⟩
 rw[ziD]
 split
 ·rename_i r e1 e2
  have hg:=hok.2
  rw[e1]at hg
  simp only[Bool.not_true,Bool.false_or,zsJ]at hg
  have hl:∀q∈D.gs,q.1=r->q.2=cl:=fun q hq hqr=>by
   split at hg
   ·rw[e2]at hg
    simp only at hg
    split at hg
    ·rename_i hn;exact absurd hqr (zhY hn q hq)
    ·rename_i c hc
     have h1:=h.2 q hq _ (zhZ hc) hqr
     have h2:=Nat.eq_of_beq_eq_true hg
     simp only at h1;omega
   ·cases hg
  intro p hp q hq e
  rcases List.mem_cons.1 hp with rfl|hp<;>rcases List.mem_cons.1 hq with rfl|hq
  ·rfl
  ·exact(hl q hq e.symm).symm
  ·exact hl p hp e
  ·exact h.2 p hp q hq e
 ·exact h.2
theorem ziE(D:Dn)(cl:Nat)(k:K)(env:List (Nat×V)):(zbh true D cl k env).rd=match Nat.ble cl 1,rdT k env with
  | true,some r=>r:: D.rd
  | _,_=>D.rd:=rfl
theorem zpv{k:K}{env:List (Nat×V)}{r:Nat}(h:rdT k env=some r):wrT k env=none/\∃n x row off,k=.load n x/\arV env x=.mp r row off:=by
 cases k with
 | load n x =>
  simp only[rdT]at h
  split at h
  ·rename_i e;cases h;exact⟨rfl,n,x,_,_,rfl,e⟩
  ·cases h
 | _=>simp[rdT]at h
theorem znd.next{D:Dn}{k:K}{env:List (Nat×V)}{mem m:List Root}{cl:Nat}(h:znd D mem D.rd)(hok:okT true D cl k env mem=true)(hb:zeq true (zbh true D cl k env) mem m=true):znd (zbh true D cl k env) m (zbh true D cl k env).rd:=by
 simp only[zeq,Bool.not_true,Bool.false_or,yhb]at hb
 simp only[okT,Bool.not_true,Bool.false_or,yhb]at hok
 obtain⟨⟨⟨ho1,ho2⟩,ho3⟩,ho4⟩:=hok
 intro r hr
 refine⟨List.all_eq_true.1 hb.1.2 r hr,?_⟩
 rw[zoi,ziF]
 rw[ziE]at hr
 have old:r∈D.rd->r<D.n/\r∉(match Nat.beq cl 4,wrT k env with
  | false,some r=>r:: D.wr
  | _,_=>D.wr):=fun hr=>by
  obtain⟨h1,h2,h3⟩:=h r hr
  refine⟨h2,?_⟩
  split
  ·rename_i r' e1 e2
   rw[e2,e1]at ho3
   simp only[Bool.false_or,yhb,yho]at ho3
   simp only[List.mem_cons,not_or]
   exact⟨fun e=>by subst e;exact ziu.1 ho3.1 hr,h3⟩
  ·exact h3
 split at hr
 ·rename_i r' e1 e2
  rcases List.mem_cons.1 hr with rfl|hr
  ·obtain⟨w1,n,x,row,off,rfl,w2⟩:=zpv e2
   have hc:zo4 D (.load n x) env<=1:=Nat.le_trans (za8 ho1) (za8 e1)
   simp only[zo4,w2]at hc
   rw[w1]
   split at hc
   ·rename_i hb'
    simp only[yhb,yho]at hb'
    exact⟨Nat.le_of_ble_eq_true hb'.1,by split<;>first|exact ziu.1 hb'.2|(rename_i e;cases e)⟩
   ·omega
  ·exact old hr
 ·exact old hr
theorem zga(hΦ:∀e∈Φ,EOk P e){Z:TS->Option ρt}:∀(ops:List COp)(cls:List Nat)(D:Dn)(T:TS){J:Nat->Nat}{st:St},TR J T st->wfD ops=true->znd D T.mem D.rd->zrN D T.mem->zgr Φ tys true D ops cls T Z=some res->
  ∃R gw cr,(∀r∈D.rd,r∈R)/\znd D T.mem R/\(∀p∈D.gs,gw (J p.1)=p.2)/\zf9 ([]:List (En P)) (R.map J) gw cr ops cls st (fun st'=>∃T' ρ',TR ρ' T' st'/\Inv (ze9 ops) (zam Φ ops) T T'/\Z T'=some res)
 | [],cls,D,T,J,st,h,_,hrd,hgs,he=>by
  refine⟨D.rd,fun e=>((D.gs.find? fun p=>J p.1==e).map (·.2)).getD 0,[],fun _ h=>h,hrd,fun p hp=>?_,T,J,h,.refl _ _ _,by simpa[zgr]using he⟩
  cases hf:D.gs.find? fun q=>J q.1==J p.1 with
  | none=>have:=List.find?_eq_none.1 hf p hp;simp at this
  | some q =>
   have h1:=List.find?_some hf
   have h2:=List.mem_of_find?_eq_some hf
   obtain⟨y,hy,hya⟩:=zaH.1 (hgs.1 q h2)
   obtain⟨y',hy',hya'⟩:=zaH.1 (hgs.1 p hp)
   have:q.1=p.1:=h.inj q.1 p.1 y y' hy hya hy' hya' (by simpa using h1)
   show((D.gs.find? fun q=>J q.1==J p.1).map (·.2)).getD 0=p.2
   rw[hf]
   exact hgs.2 q h2 p hp this
 | .mk d g kk:: l,cls,D,T,J,st,h,hwf,hrd,hgs,he=>by
  obtain⟨w2,w3⟩:=zi1 hwf
  have hW:∀x,d=some x->memB x (ze9 (.mk d g kk:: l))=true:=fun x hx=>by
   subst hx
   simp[ze9,memB,Nat.beq_refl]
  have hWl:∀n,memB n (ze9 (.mk d g kk:: l))=false->memB n (ze9 l)=false:=fun n hn=>by
   cases d with
   | none=>exact hn
   | some d =>
    simp only[ze9,memB]at hn
    split at hn
    ·cases hn
    ·exact hn
  have hpu:zam Φ (.mk d g kk:: l)=true->zeR Φ kk=true/\zam Φ l=true:=fun e=>by simpa[zam]using e
  have next:∀(D1:Dn)(T1:TS)(ρ1:Nat->Nat)(st1:St)(cls1:List Nat),TR ρ1 T1 st1->znd D1 T1.mem D1.rd->zrN D1 T1.mem->Inv (ze9 (.mk d g kk:: l)) (zam Φ (.mk d g kk:: l)) T T1->zgr Φ tys true D1 l cls1 T1 Z=some res->
    ∃R gw cr,(∀r∈D1.rd,r∈R)/\znd D1 T1.mem R/\(∀p∈D1.gs,gw (ρ1 p.1)=p.2)/\zf9 ([]:List (En P)) (R.map ρ1) gw cr l cls1 st1 (fun st'=>∃T' ρ',TR ρ' T' st'/\Inv (ze9 (.mk d g kk:: l)) (zam Φ (.mk d g kk:: l)) T T'/\Z T'=some res):=by
   intro D1 T1 ρ1 st1 cls1 h1 hrd1 hgs1 hi he1
   obtain⟨R,gw,cr,hr1,hr2,hgw,hr⟩:=zga hΦ l cls1 D1 T1 h1 w3 hrd1 hgs1 he1
   exact⟨R,gw,cr,hr1,hr2,hgw,zhg (fun st' ⟨T',ρ',q1,q2,q3⟩=>⟨T',ρ',q1,hi.trans (q2.mono hWl fun e=>(hpu e).2),q3⟩) _ _ _ hr⟩
  have on:∀(T0:TS)(st0:St),TR J T0 st0->T0.mem=T.mem->(∀y:Ar,arV T0.env y=arV T.env y)->Inv (ze9 (.mk d g kk:: l)) (zam Φ (.mk d g kk:: l)) T T0->okT true D (cls.headD 0) kk T.env T.mem=true->
    opT Φ tys true (clD true cls) d kk T0.env T0.mem (fun v m=>match zeq true (zbh true D (cls.headD 0) kk T.env) T.mem m with
     | true=>zgr Φ tys true (zbh true D (cls.headD 0) kk T.env) l cls.tail ⟨zdB T0.env d v,m⟩ Z
     | false=>none)=some res->
    OnD P D J T.mem d kk l cls st0 (fun st'=>∃T' ρ',TR ρ' T' st'/\Inv (ze9 (.mk d g kk:: l)) (zam Φ (.mk d g kk:: l)) T T'/\Z T'=some res):=by
   intro T0 st0 h0 hmem hars hi hok he0
   have clsE:zo4 D kk T0.env=zo4 D kk T.env:=by cases kk<;>simp only[zo4,hars]
   have rdE:rdT kk T0.env=rdT kk T.env:=by cases kk<;>simp only[rdT,hars]
   have wrE:wrT kk T0.env=wrT kk T.env:=by cases kk<;>simp only[wrT,hars]
   have hok':=hok
   simp only[okT,Bool.not_true,Bool.false_or,yhb]at hok'
   obtain⟨⟨⟨ho1,ho2⟩,ho3⟩,ho4⟩:=hok'
   have back:∀{v:V}{m:List Root},(match zeq true (zbh true D (cls.headD 0) kk T.env) T.mem m with
     | true=>zgr Φ tys true (zbh true D (cls.headD 0) kk T.env) l cls.tail ⟨zdB T0.env d v,m⟩ Z
     | false=>none)=some res->zeq true (zbh true D (cls.headD 0) kk T.env) T.mem m=true/\zgr Φ tys true (zbh true D (cls.headD 0) kk T.env) l cls.tail ⟨zdB T0.env d v,m⟩ Z=some res:=fun h=>by
    split at h
    ·rename_i e;exact⟨e,h⟩
    ·cases h
   have ahead:∀{m:List Root}{R:List Nat},zeq true (zbh true D (cls.headD 0) kk T.env) T.mem m=true->znd (zbh true D (cls.headD 0) kk T.env) m R->znd D T.mem R:=fun{m R} hb hR r hr=>by
    obtain⟨g1,g2,g3⟩:=hR r hr
    simp only[zeq,Bool.not_true,Bool.false_or,yhb]at hb
    have:=List.all_eq_true.1 hb.1.1 r (by
     rw[zif,List.mem_map]
     exact⟨r,List.mem_range.2 (by rw[zoi]at g2|-;exact g2),by omega⟩)
    rw[g1]at this
    refine⟨by simpa using this,g2,fun hw=>g3 ?_⟩
    rw[ziF]
    split
    ·exact List.mem_cons_of_mem _ hw
    ·exact hw
   have rdsub:∀r∈D.rd,r∈(zbh true D (cls.headD 0) kk T.env).rd:=fun r hr=>by
    rw[ziE]
    split
    ·exact List.mem_cons_of_mem _ hr
    ·exact hr
   have mapE:∀{R:List Nat}{ρ':Nat->Nat},znd D T.mem R->(∀q,q<T0.mem.length->ρ' q=J q)->R.map ρ'=R.map J:=fun hR hag=>List.map_congr_left fun r hr=>hag r (by
    obtain⟨y,hy,_⟩:=zaH.1 (hR r hr).1
    rw[hmem];exact(yga.1 hy).1)
   have no5:(∀n a x,kk≠.store n a x)->cls.headD 0<5:=fun hkk=>by
    rcases Nat.lt_or_ge (cls.headD 0) 5 with h|h
    ·exact h
    ·have hb5:Nat.ble 5 (cls.headD 0)=true:=Nat.ble_eq_true_of_le h
     rw[hb5]at ho4
     simp only[Bool.not_true,Bool.false_or]at ho4
     unfold zsJ at ho4
     split at ho4
     ·exact absurd rfl (hkk _ _ _)
     ·cases ho4
   have gsE:∀{gw:Nat->Nat}{ρ':Nat->Nat},(∀p∈(zbh true D (cls.headD 0) kk T.env).gs,gw (ρ' p.1)=p.2)->(∀q,q<T0.mem.length->ρ' q=J q)->∀p∈D.gs,gw (J p.1)=p.2:=fun{gw ρ'} hgw hag p hp=>by
    obtain⟨y,hy,_⟩:=zaH.1 (hgs.1 p hp)
    rw[<-hag p.1 (by rw[hmem];exact(yga.1 hy).1)]
    refine hgw p ?_
    rw[ziD]
    split
    ·exact List.mem_cons_of_mem _ hp
    ·exact hp
   have plain:∀(hne1:∀f xs,kk≠.call f xs)(hne2:∀f xs,kk≠.callv f xs),evT true (zrO tys d) kk T0.env T0.mem (fun v m=>match zeq true (zbh true D (cls.headD 0) kk T.env) T.mem m with
     | true=>zgr Φ tys true (zbh true D (cls.headD 0) kk T.env) l cls.tail ⟨zdB T0.env d v,m⟩ Z
     | false=>none)=some res->OnD P D J T.mem d kk l cls st0 (fun st'=>∃T' ρ',TR ρ' T' st'/\Inv (ze9 (.mk d g kk:: l)) (zam Φ (.mk d g kk:: l)) T T'/\Z T'=some res):=by
    intro hne1 hne2 he1
    have hwk:=ztx h0 he1
    obtain⟨v,m,h1,⟨p,a,sm,g1,g2,st2,ρ',g3,g5,g4⟩,h2⟩:=zjt (d:=d) h0 (zpV tys d) he1
    obtain⟨rfl,hag⟩:=g5 rfl
    obtain⟨hb,h1⟩:=back h1
    obtain⟨R,gw,cr,hr1,hr2,hgw,hr⟩:=next _ _ ρ' _ _ g4 (hrd.next hok hb) (hgs.next hok hb) (hi.trans (Inv.put hW fun e=>h2 (by rw[<-zh3 Φ hne1 hne2];exact(hpu e).1))) h1
    have hRD:=ahead hb hr2
    rw[mapE hRD hag]at hr
    have hev:evD ([]:List (En P)) cr d kk st0.env st0.mem=some (p,a,sm):=by
     rw[<-g1]
     cases kk<;>first|rfl|exact absurd rfl (hne1 _ _)|exact absurd rfl (hne2 _ _)
    refine⟨R,gw,cr,fun r hr=>hr1 r (rdsub r hr),hRD,gsE hgw hag,?_,?_⟩
    ·refine zqv h0 hne1 hne2 (by rw[clsE];exact za8 ho1) (fun r hr=>?_) fun hcl r hr=>?_
     ·rw[rdE]at hr
      rw[hr]at ho2
      rw[hmem];exact ho2
     ·rw[rdE]at hr
      refine hr1 r ?_
      rw[ziE,hr]
      have:Nat.ble (cls.headD 0) 1=true:=Nat.ble_eq_true_of_le hcl
      rw[this]
      exact List.mem_cons_self ..
    ·rw[hev]
     refine⟨g2,fun hcl e he=>?_,fun h5=>?_,hr⟩
     ·obtain⟨r,hrR,rfl⟩:=List.mem_map.1 he
      obtain⟨q1,q2,q3⟩:=hRD r hrR
      obtain⟨y,hy,hya⟩:=zaH.1 q1
      rw[<-hmem]at hy
      refine zpb g1 (h0.lt r y hy hya) fun i hi e=>?_
      obtain⟨r',hw1,hw2⟩:=hwk i hi
      rw[wrE]at hw1
      rw[hw1]at ho3
      have h4:Nat.beq (cls.headD 0) 4=false:=by
       cases h4:Nat.beq (cls.headD 0) 4 with
       | false=>rfl
       | true=>have:=Nat.eq_of_beq_eq_true h4;omega
      rw[h4]at ho3
      simp only[Bool.false_or,yhb]at ho3
      have hw2:=hw2 (by rw[hmem];exact ho3.2)
      obtain⟨y',hy',hya'⟩:=zaH.1 ho3.2
      rw[<-hmem]at hy'
      have:r'=r:=h0.inj r' r y' y hy' hya' hy hya (by rw[<-hw2];exact e)
      subst this
      refine(hr2 r' hrR).2.2 ?_
      rw[ziF,hw1,h4]
      exact List.mem_cons_self ..
     ·have h4:Nat.beq (cls.headD 0) 4=false:=by
       cases h4:Nat.beq (cls.headD 0) 4 with
       | false=>rfl
       | true=>have:=Nat.eq_of_beq_eq_true h4;omega
      have hb5:Nat.ble 5 (cls.headD 0)=true:=Nat.ble_eq_true_of_le h5
      rw[hb5]at ho4
      simp only[Bool.not_true,Bool.false_or,zsJ]at ho4
      split at ho4
      ·rename_i n0 a0 x0
       obtain⟨w,e,k1,k2,k3,k4⟩:=zrw g1
       obtain⟨r',hw1,hw2⟩:=hwk w k1
       rw[wrE]at hw1
       rw[hw1,h4]at ho3
       simp only[Bool.false_or,yhb]at ho3
       have hw2:=hw2 (by rw[hmem];exact ho3.2)
       obtain⟨y',hy',_⟩:=zaH.1 ho3.2
       refine⟨w,e,?_,k2,k3,fun m hm=>k4 m hm⟩
       rw[hw2,<-hag r' (by rw[hmem];exact(yga.1 hy').1)]
       refine hgw (r',cls.headD 0) ?_
       rw[ziD,hb5,hw1]
       exact List.mem_cons_self ..
      ·cases ho4
   have call:∀{f:FuncId}{args:List V}{as:List AV}{n:Nat},d=some n->zfD (clD true cls) f args T0.mem (fun v m=>match zeq true (zbh true D (cls.headD 0) kk T.env) T.mem m with
     | true=>zgr Φ tys true (zbh true D (cls.headD 0) kk T.env) l cls.tail ⟨zdB T0.env d v,m⟩ Z
     | false=>none) Φ =some res->VRL J T0.mem args as->(zhD f Φ =false->zeR Φ kk=false)->(∀n a x,kk≠.store n a x)->
     (∀cr c stb,zdV cr d=some c->evD ([]:List (En P)) cr d kk st0.env st0.mem=some (evC P f as st0.mem c)/\clsK stb cr d kk st0.env=match c.cl with|0=>0|1=>2|_+2=>4)->OnD P D J T.mem d kk l cls st0 (fun st'=>∃T' ρ',TR ρ' T' st'/\Inv (ze9 (.mk d g kk:: l)) (zam Φ (.mk d g kk:: l)) T T'/\Z T'=some res):=by
    intro f args as n hd he1 hv hpf hkk hev
    have nost:∀{gw cr st m0 r},StoreE ([]:List (En P)) gw cr d kk st (cls.headD 0) m0 r:=fun h5=>by have:=no5 hkk;omega
    have hnl:∀c'∈l,c'.d≠some n:=w2 n (by simpa using hd)
    rcases zc3 h0 hv hΦ he1 with⟨v,a,h1,h2,h3⟩|⟨hcl2,hp,v,m,a,sm,ρ',h1,h2,h3,h4,h5,hag⟩
    ·have hput:TR J ⟨zdB T0.env d v,T0.mem⟩ ⟨put st0.env d a,st0.mem⟩:=h0.put d h2
     obtain⟨hb,h1⟩:=back h1
     obtain⟨R,gw,cr,hr1,hr2,hgw,hr⟩:=next _ _ J _ _ hput (hrd.next hok hb) (hgs.next hok hb) (hi.trans (Inv.put hW fun _ _=>rfl)) h1
     have hRD:=ahead hb hr2
     rcases h3 with h3|⟨h4,h3⟩
     ·refine⟨R,gw,(n,⟨as,a,[],[],0⟩):: cr,fun r hr=>hr1 r (rdsub r hr),hRD,gsE hgw (fun _ _=>rfl),?_,?_⟩
      ·rw[(hev _ _ _ (by rw[hd,zbz,if_pos rfl])).2];exact Nat.zero_le _
      ·rw[(hev _ ⟨as,a,[],[],0⟩ [] (by rw[hd,zbz,if_pos rfl])).1]
       exact⟨⟨rfl,h3⟩,fun _ _ _=>rfl,nost,ziN _ _ _ hnl hr⟩
     ·refine⟨R,gw,(n,⟨as,a,st0.mem,st0.mem,1⟩):: cr,fun r hr=>hr1 r (rdsub r hr),hRD,gsE hgw (fun _ _=>rfl),?_,?_⟩
      ·rw[(hev _ _ _ (by rw[hd,zbz,if_pos rfl])).2];exact h4
      ·rw[(hev _ ⟨as,a,st0.mem,st0.mem,1⟩ [] (by rw[hd,zbz,if_pos rfl])).1]
       exact⟨⟨rfl,rfl,h3⟩,fun _ _ _=>rfl,nost,ziN _ _ _ hnl hr⟩
    ·have hput:TR ρ' ⟨zdB T0.env d v,m⟩ ⟨put st0.env d a,sm⟩:=h5.put d h4
     obtain⟨hb,h1⟩:=back h1
     obtain⟨R,gw,cr,hr1,hr2,hgw,hr⟩:=next _ _ ρ' _ _ hput (hrd.next hok hb) (hgs.next hok hb) (hi.trans (Inv.put hW fun e=>absurd (hpu e).1 (by rw[hpf hp];simp))) h1
     have hRD:=ahead hb hr2
     rw[mapE hRD hag]at hr
     refine⟨R,gw,(n,⟨as,a,st0.mem,sm,2⟩):: cr,fun r hr=>hr1 r (rdsub r hr),hRD,gsE hgw hag,?_,?_⟩
     ·rw[(hev _ _ _ (by rw[hd,zbz,if_pos rfl])).2];exact hcl2
     ·rw[(hev _ ⟨as,a,st0.mem,sm,2⟩ [] (by rw[hd,zbz,if_pos rfl])).1]
      exact⟨⟨rfl,rfl,h2,h3⟩,fun hcl=>(by have:=no5 hkk;simp only[clD]at hcl2;omega),nost,ziN _ _ _ hnl hr⟩
   cases kk with
   | call f xs =>
    simp only[opT]at he0
    cases d with
    | none=>cases he0
    | some n=>exact call rfl he0 (VRL.map h0.ar xs) (fun e=>e) (by intros;simp) fun cr c stb hc=>⟨by simp only[evD,hc],by simp only[clsK,hc]<;>rfl⟩
   | callv y xs =>
    simp only[opT]at he0
    cases d with
    | none=>cases he0
    | some n =>
     simp only at he0
     split at he0
     ·rename_i f caps e
      have hy:=h0.ar y
      rw[e]at hy
      simp only[VR]at hy
      obtain⟨cas,e2,hc⟩:=hy
      exact call rfl he0 ((VRL.map h0.ar xs).fargs hc) (fun _=>rfl) (by intros;simp) fun cr c stb hc=>⟨by simp only[evD,hc,e2],by simp only[clsK,hc]<;>rfl⟩
     ·cases he0
   | _=>exact plain (by intros;simp) (by intros;simp) he0
  have off:∀(T0:TS)(st0:St),TR J T0 st0->T0.mem=T.mem->Inv (ze9 (.mk d g kk:: l)) (zam Φ (.mk d g kk:: l)) T T0->zgr Φ tys true D l cls.tail ⟨zdB T0.env d (.tup []),T0.mem⟩ Z=some res->
    ∃R gw cr,(∀r∈D.rd,r∈R)/\znd D T.mem R/\(∀p∈D.gs,gw (J p.1)=p.2)/\zf9 ([]:List (En P)) (R.map J) gw cr l cls.tail ⟨put st0.env d (.tup []),st0.mem⟩ (fun st'=>∃T' ρ',TR ρ' T' st'/\Inv (ze9 (.mk d g kk:: l)) (zam Φ (.mk d g kk:: l)) T T'/\Z T'=some res):=by
   intro T0 st0 h0 hmem hi he0
   have:=next D ⟨zdB T0.env d (.tup []),T0.mem⟩ J ⟨put st0.env d (.tup []),st0.mem⟩ cls.tail ⟨fun n=>by
    simp only[zaK,zct]
    split
    ·simp[VR,VRL]
    ·exact h0.env n,h0.box,h0.boxC,h0.inj,h0.ow,h0.pin⟩ (by rw[hmem];exact hrd) (by rw[hmem];exact hgs) (hi.trans (Inv.put hW fun _ _=>rfl)) he0
   obtain⟨R,gw,cr,q1,q2,q3,q4⟩:=this
   rw[hmem]at q2
   exact⟨R,gw,cr,q1,q2,q3,q4⟩
  cases g with
  | none =>
   simp only[zgr]at he
   split at he
   ·rename_i hc
    obtain⟨R,gw,cr,r1,r2,r3,h1,h2⟩:=on T st h rfl (fun _=>rfl) (.refl _ _ _) hc he
    exact⟨R,gw,cr,r1,r2,r3,by simp only[zf9];exact⟨h1,h2⟩⟩
   ·cases he
  | some gg =>
   obtain⟨t,bb⟩:=gg
   have ht0:=h.env t
   simp only[zgr]at he
   split at he
   ·rename_i x hx
    rw[hx]at ht0
    simp only[VR]at ht0
    have hal:∀b,lookV T.env t=.bool b->∀y:Ar,arV ((t,.bool b):: T.env) y=arV T.env y:=by
     intro b hb y
     cases y with
     | c v=>rfl
     | t n =>
      simp only[arV]
      have:=zaK (env:=T.env) (d:=some t) (v:=.bool b) (n:=n)
      simp only[zdB,Option.some.injEq]at this
      rw[this]
      split
      ·rename_i e;subst e;exact hb.symm
      ·rfl
    cases x with
    | true =>
     cases bb with
     | true =>
      simp only[zad,cond_true]at he
      split at he
      ·rename_i hc
       obtain⟨R,gw,cr,r1,r2,r3,h1,h2⟩:=on ⟨(t,.bool true):: T.env,T.mem⟩ ⟨(t,.bool true):: st.env,st.mem⟩ (h.lit hx) rfl (hal true hx) (.lit hx) hc he
       exact⟨R,gw,cr,r1,r2,r3,by simp only[zf9,ht0];exact⟨fun _=>⟨h1,h2⟩,fun e=>by simp at e⟩⟩
      ·cases he
     | false =>
      simp only[zad,cond_true]at he
      obtain⟨R,gw,cr,r1,r2,r3,h1⟩:=off ⟨(t,.bool true):: T.env,T.mem⟩ ⟨(t,.bool true):: st.env,st.mem⟩ (h.lit hx) rfl (.lit hx) he
      exact⟨R,gw,cr,r1,r2,r3,by simp only[zf9,ht0];exact⟨fun e=>by simp at e,fun _=>h1⟩⟩
    | false =>
     cases bb with
     | true =>
      simp only[zad,cond_false]at he
      obtain⟨R,gw,cr,r1,r2,r3,h1⟩:=off ⟨(t,.bool false):: T.env,T.mem⟩ ⟨(t,.bool false):: st.env,st.mem⟩ (h.lit hx) rfl (.lit hx) he
      exact⟨R,gw,cr,r1,r2,r3,by simp only[zf9,ht0];exact⟨fun e=>by simp at e,fun _=>h1⟩⟩
     | false =>
      simp only[zad,cond_false]at he
      split at he
      ·rename_i hc
       obtain⟨R,gw,cr,r1,r2,r3,h1,h2⟩:=on ⟨(t,.bool false):: T.env,T.mem⟩ ⟨(t,.bool false):: st.env,st.mem⟩ (h.lit hx) rfl (hal false hx) (.lit hx) hc he
       exact⟨R,gw,cr,r1,r2,r3,by simp only[zf9,ht0];exact⟨fun _=>⟨h1,h2⟩,fun e=>by simp at e⟩⟩
      ·cases he
   ·rename_i hx
    rw[hx]at ht0
    simp only[VR,VRL]at ht0
    obtain⟨as,h1,rfl⟩:=ht0
    obtain⟨R,gw,cr,r1,r2,r3,h2⟩:=off T st h rfl (.refl _ _ _) he
    exact⟨R,gw,cr,r1,r2,r3,by simp only[zf9,h1];exact h2⟩
   ·cases he
end
end Go.Fw
namespace Go.Fw
open Go
variable [Pin]
theorem zl4{J:Nat->Nat}{T T':TS}{st':St}{ks:List Nat}{W:List Nat}{pu:Bool}(h:TR J T' st')(hs:zrv T ks T'=true)(hi:Inv W pu T T'){n:Nat}(hn:n∈ks)(hW:memB n W=false)(hc:(lookV T.env n).pur=true\/(lookV T.env n).isJ=true\/(pu=true/\noOw T.mem=true)):
  VR J T'.mem (lookV T.env n) (look st'.env n):=by
 have h1:=List.all_eq_true.1 hs n hn
 rcases hi.env n hW hc with e|e
 ·rw[<-e];exact h.env n
 ·rw[e]at h1
  simp only[V.isJ,Bool.not_true,Bool.or_false]at h1
  cases hv:lookV T.env n<;>rw[hv]at h1<;>simp[V.isJ]at h1
  simp[VR]
theorem zlQ{ks W:List Nat}(h:zs8 ks W=true){n:Nat}(hn:n∈ks):memB n W=false:=by
 have:=List.all_eq_true.1 h n hn
 simpa using this
section
variable {J:Nat->Nat}{T T':TS}{st':St}{ks st:List Nat}{W:List Nat}{pu:Bool}{tys:List (Nat×An)}
theorem zmk{s:Sig}{d:s.D}(h:TR J T' st')(hrk:s.rk=[])(hi:Inv W pu T T')(hpu:pu=true)(hno:noOw T.mem=true)(hW:∀n∈ks,memB n W=false)(hst:zrv T ks T'=true)(hd:s.getP T'=some d):
  ∃st'',Gh st' st''/\TR J (s.mkP T (ks.map fun n=>(n,lookV T.env n)) d) st'':=by
 have hv:VRL J T'.mem (s.sl.map (lookV T'.env)) (s.sl.map (look st'.env)):=VRL.mapL _ fun n _=>h.env n
 obtain⟨as',q1,q2,_⟩:=zbH _ _ d _ hd hv
 have he:EnvR J T'.mem (zoZ s.sl (mkVL s.shs d)++ks.map fun n=>(n,lookV T.env n)) (zqr s.sl as'++ks.map fun n=>(n,look st'.env n)):=
  (EnvR.zip s.sl q1).append (EnvR.map ks fun n hn=>zl4 h hst hi hn (hW n hn) (.inr (.inr ⟨hpu,hno⟩)))
 refine⟨⟨zqr s.sl as'++ks.map fun n=>(n,look st'.env n),st'.mem⟩,Gh.imp fun p hp=>?_,?_⟩
 ·rcases List.mem_append.1 hp with hp|hp
  ·exact zi9 (more:=[]) s.sl (by simpa using q2) p hp
  ·obtain⟨n,_,rfl⟩:=List.mem_map.1 hp;exact .refl _
 ·have hm:=hi.mem hpu hno
  refine⟨fun n=>?_,?_,?_,?_,?_,hm ▸ h.pin⟩
  ·show VR J T.mem (lookV (zoZ s.sl (mkVL s.shs d)++ks.map fun n=>(n,lookV T.env n)) n) _
   rw[<-hm];exact he.look n
  ·intro r b cs hr
   obtain⟨as,g1,g2⟩:=h.box r b cs (by rw[hm];exact hr)
   exact⟨as,g1,by rw[hm]at g2;exact g2⟩
  ·intro r b cs hr;exact h.boxC r b cs (by rw[hm];exact hr)
  ·intro r r' x x' hr hx hr' hx' e;exact h.inj r r' x x' (by rw[hm];exact hr) hx (by rw[hm];exact hr') hx' e
  ·obtain⟨fp,how⟩:=h.ow
   rw[hm]at how
   exact⟨fp,how⟩
end
end Go.Fw
namespace Go.Fw
open Go
variable [Pin]
section
variable {J:Nat->Nat}{T T':TS}{st st':St}{fp:Nat->List Nat}{ks slots:List Nat}{W:List Nat}{pu p:Bool}{tys:List (Nat×An)}
theorem zfU{s:Sig}{d:s.D}(h:TR J T' st')(hi:Inv W pu T T')(hW:∀n∈ks,memB n W=false)(hp:p=true->pu=true/\noOw T.mem=true)(hs:s=zcx p tys T slots ks)(hd:zkC p s T ks T'=some d):
  ∃st'' ρ'',Gh st' st''/\TR ρ'' (mkJ p s T slots ks d) st'':=by
 unfold zkC at hd
 split at hd
 ·rename_i hst
  cases p with
  | true =>
   obtain⟨st'',g1,g2⟩:=zmk (s:=s) h (by rw[hs];rfl) hi (hp rfl).1 (hp rfl).2 hW hst hd
   exact⟨st'',J,g1,g2⟩
  | false =>
   refine znW (s:=s) (cs:=ze8 T ks) (cs':=(ks.filter fun n=>!(zeu T n)).map fun n=>(n,look st'.env n)) h hd ?_ (fun ρ' mem' hv=>?_) (fun q hq=>?_)
   ·rw[hs];simp[zcx,zoE]
   ·refine EnvR.map _ fun n hn=>?_
    obtain⟨h1,h2⟩:=List.mem_filter.1 hn
    simp only[zeu,Bool.not_not]at h2
    exact hv _ _ (.inl h2) (zl4 h hst hi h1 (hW n h1) (.inl h2))
   ·obtain⟨n,_,rfl⟩:=List.mem_map.1 hq;rfl
 ·cases hd
theorem Sat.fz{H H':Hp}{F:Fr}{U:Bt}{mem mem1:List Ent}{w:World}(hs:Sat H F U mem w)(hl:mem1.length=mem.length)(hH:zeD H H')(hw:∀b o,H' b=some o->w.heap[b]? =some o)
    (hap:∀(i:Nat) e x,mem1[i]? =some e->e.live=true->U[i]? =some (some x)->H x.1=none->H' x.1=none)
    (he:∀(i:Nat) e e1,mem[i]? =some e->mem1[i]? =some e1->e1=.dead\/e1=e\/∃es rows rows',e=.arr es rows/\e1=.arr es rows'/\rows'.length=rows.length/\
      ∀(j:Nat) r r',rows[j]? =some r->rows'[j]? =some r'->r'.length=r.length/\(∀c∈r',c.isCell=true)/\∀(k:Nat) c c' v,r[k]? =some c->r'[k]? =some c'->Rep H U c v->Rep H' U c' v):Sat H' F U mem1 w:=by
  have old:∀(i:Nat) e1,mem1[i]? =some e1->∃e,mem[i]? =some e/\(e1.live=true->e.live=true):=by
    intro i e1 hi
    have hlt:=(yga.1 hi).1
    have hg:mem[i]? =some (mem[i]'(by omega)):=ygb _
    refine⟨_,hg,fun hlv=>?_⟩
    rcases he i _ e1 hg hi with rfl|h1|⟨es,rows,rows',h1,rfl,_⟩
    · simp at hlv
    · rw[<-h1];exact hlv
    · rw[h1];rfl
  refine{hH:=hw,hF:=hs.hF,sm:=hs.sm,hl:=by rw[hs.hl,hl],ent:=fun i e1 x hi hx=>?_,
           apart:=fun i e1 x hi hlv hx=>?_,inj:=fun i j e e' x y hi he1 hj he' hx hy hxy=>?_}
  · obtain⟨e,hg,_⟩:=old i e1 hi
    rcases he i e e1 hg hi with rfl|rfl|⟨es,rows,rows',rfl,rfl,hlr,hr⟩
    · trivial
    · exact(hs.ent i _ x hg hx).mono hH (.refl _) fun _ _ _ _ _=>rfl
    · have h0:=hs.ent i _ x hg hx
      cases x with
      | none =>
        have:rows=[]:=h0
        subst this
        exact List.eq_nil_of_length_eq_zero (by simpa using hlr)
      | some x =>
        obtain⟨b,es',cap⟩:=x
        obtain⟨h1,cells,elem,h2,h3,h4,h5,h6,h7,h8⟩:=h0
        have gr:∀(q:Nat) r',rows'[q]? =some r'->∃r,rows[q]? =some r:=fun q r' hq=>by
          have:=(yga.1 hq).1
          exact⟨_,ygb (by omega)⟩
        refine⟨h1,cells,elem,h2,h3,by omega,fun r' hr'=>?_,fun r' hr'=>?_,fun q r' k c' hq hk=>?_,fun hne=>h8 fun e=>hne (by have h:=hlr;rw[e]at h;first|exact List.length_eq_zero_iff.1 h|exact List.length_eq_zero_iff.1 h.symm)⟩
        · obtain⟨q,hq⟩:=List.getElem?_of_mem hr'
          obtain⟨r,hr0⟩:=gr q r' hq
          rw[(hr q r r' hr0 hq).1];exact h5 r (ygd hr0)
        · obtain⟨q,hq⟩:=List.getElem?_of_mem hr'
          obtain⟨r,hr0⟩:=gr q r' hq
          exact(hr q r r' hr0 hq).2.1
        · obtain⟨r,hr0⟩:=gr q r' hq
          obtain⟨g1,g2,g3⟩:=hr q r r' hr0 hq
          have hk':=(yga.1 hk).1
          have hc:r[k]? =some (r[k]'(by omega)):=ygb _
          obtain⟨v,hv,hrep⟩:=h7 q r k _ hr0 hc
          exact⟨v,hv,g3 k _ c' v hc hk hrep⟩
  · obtain⟨e,hg,hlv'⟩:=old i e1 hi
    have:=hs.apart i e x hg (hlv' hlv) hx
    exact⟨hap i e1 x hi hlv hx this.1,this.2⟩
  · obtain⟨_,g1,g2⟩:=old i e hi
    obtain⟨_,g3,g4⟩:=old j e' hj
    exact hs.inj i j _ _ x y g1 (g2 he1) g3 (g4 he') hx hy hxy
def Fzi(J:Nat->Nat)(mem:List Root)(fp:Nat->List Nat)(o:List Nat)(i:Nat):Prop:=∃r x,memB r o=true/\mem[r]? =some x/\x.alive=true/\(i=J r\/i∈fp r)
def Fzb(J:Nat->Nat)(mem:List Root)(fp:Nat->List Nat)(o:List Nat)(U:Bt)(b:Nat):Prop:=∃i es cap,Fzi J mem fp o i/\U[i]? =some (some (b,es,cap))
open Classical in
noncomputable def Hfz(J:Nat->Nat)(mem:List Root)(fp:Nat->List Nat)(o:List Nat)(H:Hp)(U:Bt)(w:World):Hp:=fun b=>if Fzb J mem fp o U b then w.heap[b]? else H b
theorem zeE{mem:List Root}{fp:Nat->List Nat}{o:List Nat}{H:Hp}{F:Fr}{U:Bt}{m:List Ent}{w:World}(hs:Sat H F U m w):zeD H (Hfz J mem fp o H U w):=by
 intro b x hx
 unfold Hfz
 split
 ·exact hs.hH b x hx
 ·exact hx
theorem zsV{mem:List Root}{fp:Nat->List Nat}{o:List Nat}{H:Hp}{F:Fr}{U:Bt}{m:List Ent}{w:World}(hs:Sat H F U m w):∀b x,Hfz J mem fp o H U w b=some x->w.heap[b]? =some x:=by
 intro b x hx
 unfold Hfz at hx
 split at hx
 ·exact hx
 ·exact hs.hH b x hx
theorem znh{mem:List Root}{fp:Nat->List Nat}{o:List Nat}{H:Hp}{U:Bt}{w:World}{i:Nat}(hi:Fzi J mem fp o i):∀b es' cap,U[i]? =some (some (b,es',cap))->∀x,w.heap[b]? =some x->Hfz J mem fp o H U w b=some x:=by
 intro b es cap hb x hx
 have:Fzb J mem fp o U b:=⟨i,es,cap,hi,hb⟩
 unfold Hfz
 rw[if_pos this];exact hx
theorem zkB(mem0:List Root)(o:List Nat):∀(l:List Root)(i j:Nat) x,l[j]? =some x->(fzR mem0 o i l)[j]? =some (match memB (i+j) o with
  | true=>.dead
  | false=>match x with
   | .box b cs=>fzB b (zja mem0 o 60 cs)
   | .arr t xs (.op os j cs)=>fzA t xs os j (zja mem0 o 60 cs)
   | r=>r)
 | [],i,j,x,h=>by simp at h
 | y:: l,i,0,x,h=>by simp at h;subst h;rfl
 | y:: l,i,j+1,x,h=>by
  have:=zkB mem0 o l (i+1) j x (by simpa using h)
  rw[show i+1+j=i+(j+1) by omega]at this
  simpa[fzR]using this
theorem znT(mem0:List Root)(o:List Nat):∀(l:List Root)(i:Nat),(fzR mem0 o i l).length=l.length
 | [],i=>rfl
 | y:: l,i=>by simp[fzR,znT mem0 o l]
theorem zpg(o:List Nat)(mem:List Root):Kp J J mem (fzR mem o 0 mem):=by
 refine⟨fun r t xs w h=>?_,fun r b cs h=>?_,fun r h=>?_⟩
 all_goals
  have:=zkB mem o mem 0 r _ h
  rw[Nat.zero_add]at this
  cases hm:memB r o<;>rw[hm]at this<;>simp only at this
 ·cases w with
  | no=>exact .inr ⟨rfl,xs,_,this,rfl⟩
  | cl os=>exact .inr ⟨rfl,xs,_,this,rfl⟩
  | op os j cs =>
   simp only[fzA]at this
   cases hc:(zja mem o 60 cs).all V.isC<;>rw[hc]at this<;>simp only at this
   ·exact .inl this
   ·exact .inr ⟨rfl,xs,_,this,rfl⟩
 ·exact .inl this
 ·unfold fzB at this
  cases hc:(zja mem o 60 cs).all V.isC<;>rw[hc]at this<;>simp only at this
  ·exact .inl this
  ·exact .inr ⟨rfl,b,_,this⟩
 ·exact .inl this
 ·exact this
 ·exact this
theorem zs6{H:Hp}{F:Fr}{U:Bt}{o:List Nat}{w:World}{r:Nat}{y:Root}{n off:Nat}{row row':List AV}{x:Value}(hs:Sat H F U st.mem w)(hm:memB r o=true)(hy:T.mem[r]? =some y)(ha:y.alive=true)
  (hi:st.mem[J r]? =some (.arr n [row]))(hn:row.length=n)(hl:row'.length=row.length)(hp:AV.pureL row'=true)(hc:∀c∈row',c.isCell=true)
  (hrr:∀(k:Nat) c c' v,row[k]? =some c->row'[k]? =some c'->Rep H U c v->Rep (Hfz J T.mem fp o H U w) U c' v)(hr:Rep H U (.mp (J r) 0 off) x):Rep (Hfz J T.mem fp o H U w) [] (.ip (row'.drop off)) x:=by
 cases hr with
 | @mp _ _ _ _ b es cap hβ =>
  obtain⟨rfl,cells,elem,g2,g3,g4,g5,g6,g7,_⟩:=hs.ent _ _ _ hi hβ
  have hfz:Fzb J T.mem fp o U b:=⟨_,_,cap,⟨r,y,hm,hy,ha,.inl rfl⟩,hβ⟩
  have cell:∀(j:Nat)(c':AV),row'[j]? =some c'->∃v,cells[j]? =some v/\Rep (Hfz J T.mem fp o H U w) [] c' v:=by
   intro j c' hj
   have hjl:=(yga.1 hj).1
   have hcj:row[j]? =some (row[j]'(by omega)):=ygb _
   obtain⟨v,hv,hrep⟩:=g7 0 row j _ rfl hcj
   exact⟨v,by simpa using hv,(hrr j _ c' v hcj hj hrep).pure ((AV.pureL_iff _).1 hp c' (ygd hj)) []⟩
  refine .ip (elem:=elem) (fz:=(0,0)) (cells:=cells) (fun j=>cells.getD (off+j) undef) (by simpa[Hfz,hfz]using g2) (fun j hj=>?_) (fun c hc'=>hc c (List.mem_of_mem_drop hc')) fun j c hj=>?_
  ·simp only[List.length_drop]at hj
   obtain⟨v,hv,_⟩:=cell (off+j) _ (ygb (by omega))
   rw[Nat.zero_mul,Nat.zero_add]
   simp[hv]
  ·rw[List.getElem?_drop]at hj
   obtain⟨v,hv,hrep⟩:=cell _ _ hj
   have:cells.getD (off+j) undef=v:=by simp[hv]
   rw[this];exact hrep
def FI(J:Nat->Nat)(T:TS)(fp:Nat->List Nat)(st:St)(o:List Nat)(a a':AV):Prop:=
 (a.isCell=true->a'.isCell=true)/\∀H F U w,Sat H F U st.mem w->∀β0,(β0=U\/β0=[])->∀x,Rep H β0 a x->Rep (Hfz J T.mem fp o H U w) β0 a' x
theorem FI.refl{o:List Nat}(a:AV):FI J T fp st o a a:=⟨id,fun _ _ _ _ hs _ _ _ hr=>hr.mono (zeE hs) (.refl _)⟩
inductive FIL (J:Nat->Nat)(T:TS)(fp:Nat->List Nat)(st:St)(o:List Nat):List AV->List AV->Prop
 | nil:FIL J T fp st o [] []
 | cons {a a' as as'}(h:FI J T fp st o a a')(hs:FIL J T fp st o as as'):FIL J T fp st o (a:: as) (a':: as')
theorem FIL.len{o:List Nat}{as as':List AV}(h:FIL J T fp st o as as'):as'.length=as.length:=by
 induction h with
 | nil=>rfl
 | cons _ _ ih=>simp[ih]
theorem FIL.get{o:List Nat}{as as':List AV}(h:FIL J T fp st o as as'):∀(i:Nat) a',as'[i]? =some a'->∃a,as[i]? =some a/\FI J T fp st o a a':=by
 induction h with
 | nil=>intro i a' h;simp at h
 | cons h _ ih =>
  intro i a' hi
  cases i with
  | zero=>simp at hi;subst hi;exact⟨_,rfl,h⟩
  | succ i=>simpa using ih i a' (by simpa using hi)
theorem FIL.cells{o:List Nat}{as as':List AV}(h:FIL J T fp st o as as')(hc:∀c∈as,c.isCell=true):∀c∈as',c.isCell=true:=by
 intro c hc'
 obtain⟨i,hi⟩:=List.getElem?_of_mem hc'
 obtain⟨a,g1,g2⟩:=h.get i c hi
 exact g2.1 (hc a (ygd g1))
theorem zp8{H:Hp}{i es off len:Nat}{x:Value}(h:Rep H [] (.ms i es off len) x):False:=by
 cases h with
 | ms hb'=>simp at hb'
 | ms0 hb'=>simp at hb'
theorem zsZ(U:Bt):zbS [] U:=fun i x h=>by simp at h
theorem zp2{o:List Nat}{f:V->V}{mem1:List Root}(hf:∀v a,VR J T.mem v a->∃a',VR J mem1 (f v) a'/\FI J T fp st o a a'):∀(cs:List V)(as:List AV),VRL J T.mem cs as->∃as',VRL J mem1 (cs.map f) as'/\FIL J T fp st o as as'
 | [],as,h=>by simp only[VRL]at h;subst h;exact⟨[],rfl,.nil⟩
 | c:: cs,as,h=>by
  simp only[VRL]at h
  obtain⟨a,as1,rfl,h1,h2⟩:=h
  obtain⟨a',g1,g2⟩:=hf c a h1
  obtain⟨as',g3,g4⟩:=zp2 hf cs as1 h2
  exact⟨a':: as',⟨_,_,rfl,g1,g3⟩,.cons g2 g4⟩
theorem zp3{o:List Nat}(h:TR J T st)(how:OwA J T.mem st.mem fp):∀(n:Nat)(v:V)(a:AV),VR J T.mem v a->∃a',VR J (fzR T.mem o 0 T.mem) (fzV T.mem o n v) a'/\FI J T fp st o a a'
 | 0,v,a,_=>⟨a,by simp[fzV,VR],.refl a⟩
 | n+1,v,a,hv=>by
  have hkp:=zpg (J:=J) o T.mem
  have keep:VR J (fzR T.mem o 0 T.mem) v a:=VR.mono hkp v a hv
  have ih:=zp3 (o:=o) h how n
  cases v with
  | junk|int _ _|bool _|str _|lst _ _|nl _|e0|st _ _|ep _ _|nilp|nilf=>exact⟨a,keep,.refl a⟩
  | agg cs =>
   simp only[VR]at hv
   obtain⟨as,rfl,hv⟩:=hv
   obtain⟨as',g1,g2⟩:=zp2 ih cs as hv
   refine⟨.agg as',by simp only[fzV,VR];exact⟨_,rfl,g1⟩,by simp,fun H F U w hs β0 h0 x hr=>?_⟩
   cases hr with
   | agg hl hc hr =>
    refine .agg (by rw[hl,g2.len]) (g2.cells hc) fun i c v hi hv=>?_
    obtain⟨c0,e1,e2⟩:=g2.get i c hi
    exact e2.2 H F U w hs β0 h0 _ (hr i c0 v e1 hv)
  | tup cs =>
   simp only[VR]at hv
   obtain⟨as,rfl,hv⟩:=hv
   obtain⟨as',g1,g2⟩:=zp2 ih cs as hv
   refine⟨.tup as',by simp only[fzV,VR];exact⟨_,rfl,g1⟩,by simp,fun H F U w hs β0 h0 x hr=>?_⟩
   cases hr with
   | tup hl hr =>
    refine .tup (by rw[hl,g2.len]) fun i c v hi hv=>?_
    obtain⟨c0,e1,e2⟩:=g2.get i c hi
    exact e2.2 H F U w hs β0 h0 _ (hr i c0 v e1 hv)
  | ip cs =>
   simp only[VR]at hv
   obtain⟨as,rfl,hv⟩:=hv
   obtain⟨as',g1,g2⟩:=zp2 ih cs as hv
   refine⟨.ip as',by simp only[fzV,VR];exact⟨_,rfl,g1⟩,by simp,fun H F U w hs β0 h0 x hr=>?_⟩
   cases hr with
   | ip f hH hc hcell hr =>
    refine .ip f (zeE hs _ _ hH) (fun j hj=>hc j (by rw[<-g2.len];exact hj)) (g2.cells hcell) fun j c hj=>?_
    obtain⟨c0,e1,e2⟩:=g2.get j c hj
    exact e2.2 H F U w hs [] (.inr rfl) _ (hr j c0 e1)
  | fn fn cs =>
   simp only[VR]at hv
   obtain⟨as,rfl,hv⟩:=hv
   obtain⟨as',g1,g2⟩:=zp2 ih cs as hv
   refine⟨.fn fn as',by simp only[fzV,VR];exact⟨_,rfl,g1⟩,by simp,fun H F U w hs β0 h0 x hr=>?_⟩
   cases hr with
   | fn hf hl hr =>
    refine .fn hf (by rw[hl,g2.len]) fun i c v hi hv=>?_
    obtain⟨c0,e1,e2⟩:=g2.get i c hi
    exact e2.2 H F U w hs β0 h0 _ (hr i c0 v e1 hv)
  | own r =>
   simp only[fzV]
   split
   ·rename_i t xs w0 hm hr
    split
    ·rename_i hw
     simp only[VR,zet,hr]at hv
     subst hv
     refine⟨.sl t.sz (xs.map (zaf t)),by simp[VR],by simp,fun H F U w hs β0 h0 x hx=>?_⟩
     rcases h0 with rfl|rfl
     ·have:=(how.rel r t xs w0 hr).gen hs (zeE (J:=J) (mem:=T.mem) (fp:=fp) (o:=o) hs) hw (fun j hj=>znh ⟨r,_,hm,hr,rfl,by simpa using hj⟩) hx (by simp)
      rw[List.drop_zero,List.take_of_length_le (by simp)]at this
      exact this.mono (.refl _) (zsZ _)
     ·exact(zp8 hx).elim
    ·exact⟨a,by simp[VR],.refl a⟩
   ·exact⟨a,keep,.refl a⟩
  | part r off len =>
   simp only[fzV]
   split
   ·rename_i t xs w0 hm hr
    split
    ·rename_i hw
     simp only[VR,zeQ,hr]at hv
     obtain⟨rfl,hl⟩:=hv
     refine⟨.sl t.sz (((xs.drop off).take len).map (zaf t)),by simp[VR],by simp,fun H F U w hs β0 h0 x hx=>?_⟩
     rcases h0 with rfl|rfl
     ·exact((how.rel r t xs w0 hr).gen hs (zeE (J:=J) (mem:=T.mem) (fp:=fp) (o:=o) hs) hw (fun j hj=>znh ⟨r,_,hm,hr,rfl,by simpa using hj⟩) hx hl).mono (.refl _) (zsZ _)
     ·exact(zp8 hx).elim
    ·exact⟨a,by simp[VR],.refl a⟩
   ·exact⟨a,keep,.refl a⟩
  | mp r row off =>
   simp only[fzV]
   split
   ·rename_i b cs hm hr
    simp only[VR,mpR,hr]at hv
    obtain⟨rfl,rfl⟩:=hv
    obtain⟨as,b1,b2⟩:=h.box r b cs hr
    have b3:=h.boxC r b cs hr
    obtain⟨as',g1,g2⟩:=zp2 ih cs as b2
    have hcell:∀c∈as',c.isCell=true:=g2.cells (fun c hc=>List.all_eq_true.1 (b2.cells b3) c hc)
    have main:V.purL (cs.map fun c=>fzV T.mem o n c)=true->FI J T fp st o (.mp (J r) 0 off) (.ip (as'.drop off)):=fun hp=>by
     refine⟨by simp,fun H F U w hs β0 h0 x hx=>?_⟩
     rcases h0 with rfl|rfl
     ·refine(zs6 (T:=T) (row:=as) (row':=as') hs hm hr rfl b1 b2.len g2.len (g1.pur hp) hcell (fun k c c' v hc hc' hcv=>?_) hx).mono (.refl _) (zsZ _)
      obtain⟨c0,e1,e2⟩:=g2.get k c' hc'
      rw[hc]at e1;cases e1
      exact e2.2 H F _ w hs _ (.inl rfl) v hcv
     ·cases hx with
      | mp hb'=>simp at hb'
    split
    ·exact⟨.mp (J r) 0 off,by simp[VR],.refl _⟩
    ·rename_i hp
     split
     ·rename_i nm hnm h0
      have h0:=Nat.eq_of_beq_eq_true h0
      subst h0
      split
      ·rename_i y hy
       have e:=zfv g1 hy
       subst e
       exact⟨.ip (zco nm y),by simp[VR],main hp⟩
      ·exact⟨.ip as',by simp only[VR];exact⟨_,rfl,g1⟩,main hp⟩
     ·exact⟨.ip (as'.drop off),by simp only[VR];exact⟨_,rfl,g1.drop off⟩,main hp⟩
   ·exact⟨a,by simp[VR],.refl a⟩
   ·exact⟨a,keep,.refl a⟩
theorem zsc{α U:Type}:∀(l:List α)(P:Nat->α->U->Prop),(∀(i:Nat) a,l[i]? =some a->∃b,P i a b)->∃l':List U,l'.length=l.length/\∀(i:Nat) a b,l[i]? =some a->l'[i]? =some b->P i a b
 | [],P,_=>⟨[],rfl,fun i a b h _=>by simp at h⟩
 | a:: l,P,h=>by
  obtain⟨b,hb⟩:=h 0 a rfl
  obtain⟨l',h1,h2⟩:=zsc l (fun i=>P (i+1)) fun i a' hi=>h (i+1) a' (by simpa using hi)
  refine⟨b:: l',by simp[h1],fun i a' b' ha hb'=>?_⟩
  cases i with
  | zero=>simp at ha hb';subst ha hb';exact hb
  | succ i=>exact h2 i a' b' (by simpa using ha) (by simpa using hb')
theorem zg4(f:V->V)(hf:f .junk=.junk):∀(env:List (Nat×V))(n:Nat),lookV (env.map fun p=>(p.1,f p.2)) n=f (lookV env n)
 | [],n=>by simp[lookV,hf]
 | (m,v):: env,n=>by
  simp only[List.map_cons,lookV]
  cases Nat.beq m n with
  | true=>rfl
  | false=>exact zg4 f hf env n
theorem zsb{P:Nat->AV->Prop}:∀(ks:List Nat),(∀n,∃a,P n a)->∃env:List (Nat×AV),(∀n,P n (look env n)\/look env n=.junk)/\∀n∈ks,P n (look env n)
 | [],h=>⟨[],fun n=>.inr rfl,fun n hn=>by simp at hn⟩
 | k:: ks,h=>by
  obtain⟨env,h1,h2⟩:=zsb ks h
  obtain⟨a,ha⟩:=h k
  refine⟨(k,a):: env,fun n=>?_,fun n hn=>?_⟩
  ·simp only[look]
   split
   ·rename_i e;subst e;exact .inl ha
   ·exact h1 n
  ·simp only[look]
   split
   ·rename_i e;subst e;exact ha
   ·rename_i e
    rcases List.mem_cons.1 hn with rfl|hn
    ·exact absurd rfl e
    ·exact h2 n hn
theorem zg5:∀(env:List (Nat×V))(n:Nat),lookV env n=.junk\/n∈env.map Prod.fst
 | [],n=>.inl rfl
 | (m,v):: env,n=>by
  simp only[lookV]
  cases e:Nat.beq m n with
  | true=>exact .inr (by simp[Nat.eq_of_beq_eq_true e])
  | false=>exact(zg5 env n).imp id fun h=>by simp[h]
theorem zgY(o:List Nat)(h:TR J T st):∃st1,Gh st st1/\TR J (fzO o T) st1:=by
 obtain⟨fp,how⟩:=h.ow
 have rep:=fun v a hv=>zp3 (o:=o) h how 60 v a hv
 have repw:∀(v:V)(a:AV),VR J T.mem v a->∃a',VR J (fzR T.mem o 0 T.mem) (fzW T.mem o v) a'/\FI J T fp st o a a':=fun v a hv=>by
  unfold fzW
  split
  ·exact⟨a,VR.mono (zpg o T.mem) v a hv,.refl a⟩
  ·exact rep v a hv
 obtain⟨env1,e1,e2⟩:=zsb (P:=fun n a=>VR J (fzR T.mem o 0 T.mem) (fzW T.mem o (lookV T.env n)) a/\FI J T fp st o (look st.env n) a) (T.env.map Prod.fst) fun n=>repw _ _ (h.env n)
 have one:∀(r r':Nat) x x',T.mem[r]? =some x->x.alive=true->T.mem[r']? =some x'->x'.alive=true->∀i,(i=J r\/i∈fp r)->(i=J r'\/i∈fp r')->r=r':=by
  intro r r' x x' hx ha hx' ha' i hi hi'
  refine Classical.byContradiction fun hne=>?_
  rcases hi with rfl|hi<;>rcases hi' with h1|h1
  ·exact hne (h.inj r r' x x' hx ha hx' ha' h1)
  ·exact how.rt r r' x hx ha h1
  ·subst h1;exact how.rt r' r x' hx' ha' hi
  ·exact how.dj r r' hne i hi h1
 obtain⟨mem1,m1,m2⟩:=zsc (U:=Ent) st.mem (fun i e e1 =>
   (Fzi J T.mem fp o i->e1=.dead)/\
   (∀(r:Nat) t xs w,T.mem[r]? =some (.arr t xs w)->w.shut=true->i=J r->memB r o=false->e1=e)/\
   (∀(r:Nat) x,T.mem[r]? =some x->x.alive=true->i∈fp r->memB r o=false->e1=e)/\
   (∀(r:Nat) t xs os j cs,T.mem[r]? =some (.arr t xs (.op os j cs))->i=J r->memB r o=false->∃rows row',e=.arr t.sz rows/\e1=.arr t.sz (rows.set j row')/\VRL J (fzR T.mem o 0 T.mem) (zja T.mem o 60 cs) row')/\
   (∀(r:Nat) b cs,T.mem[r]? =some (.box b cs)->i=J r->memB r o=false->∃as,e1=.arr cs.length [as]/\VRL J (fzR T.mem o 0 T.mem) (zja T.mem o 60 cs) as)/\
   (Fzi J T.mem fp o i\/e1=e\/∃es rows j row row',e=.arr es rows/\rows[j]? =some row/\e1=.arr es (rows.set j row')/\(∀c∈row',c.isCell=true)/\FIL J T fp st o row row')) fun i e hi=>by
  by_cases hf:Fzi J T.mem fp o i
  ·obtain⟨r,x,hm,hx,ha,hir⟩:=hf
   have no:∀(r':Nat) x',T.mem[r']? =some x'->x'.alive=true->(i=J r'\/i∈fp r')->memB r' o=false->False:=fun r' x' hx' ha' hi' hm'=>by
    have:=one r r' x x' hx ha hx' ha' i hir hi'
    subst this;rw[hm]at hm';cases hm'
   exact⟨.dead,fun _=>rfl,fun r' t xs w h1 _ h2 h3=>(no r' _ h1 rfl (.inl h2) h3).elim,fun r' x' h1 h2 h3 h4=>(no r' _ h1 h2 (.inr h3) h4).elim,fun r' t xs os j cs h1 h2 h3=>(no r' _ h1 rfl (.inl h2) h3).elim,fun r' b cs h1 h2 h3=>(no r' _ h1 rfl (.inl h2) h3).elim,.inl ⟨r,x,hm,hx,ha,hir⟩⟩
  ·by_cases hx:∃(r:Nat)(x:Root),T.mem[r]? =some x/\x.alive=true/\i=J r
   ·obtain⟨r,x,x1,x2,rfl⟩:=hx
    have uniq:∀(r':Nat)(x':Root),T.mem[r']? =some x'->x'.alive=true->J r=J r'->r'=r:=fun r' x' h1 h2 h3=>h.inj r' r x' x h1 h2 x1 x2 h3.symm
    have nof:∀(r':Nat),J r∉fp r':=fun r'=>how.rt r r' x x1 x2
    have arrNo:∀(w:Ow),w.shut=true->(∃t xs,x=.arr t xs w)->∃b,(Fzi J T.mem fp o (J r)->b=.dead)/\
      (∀(r':Nat) t xs w,T.mem[r']? =some (.arr t xs w)->w.shut=true->J r=J r'->memB r' o=false->b=e)/\
      (∀(r':Nat) x,T.mem[r']? =some x->x.alive=true->J r∈fp r'->memB r' o=false->b=e)/\
      (∀(r':Nat) t xs os j cs,T.mem[r']? =some (.arr t xs (.op os j cs))->J r=J r'->memB r' o=false->∃rows row',e=.arr t.sz rows/\b=.arr t.sz (rows.set j row')/\VRL J (fzR T.mem o 0 T.mem) (zja T.mem o 60 cs) row')/\
      (∀(r':Nat) b' cs,T.mem[r']? =some (.box b' cs)->J r=J r'->memB r' o=false->∃as,b=.arr cs.length [as]/\VRL J (fzR T.mem o 0 T.mem) (zja T.mem o 60 cs) as)/\
      (Fzi J T.mem fp o (J r)\/b=e\/∃es rows j row row',e=.arr es rows/\rows[j]? =some row/\b=.arr es (rows.set j row')/\(∀c∈row',c.isCell=true)/\FIL J T fp st o row row'):=by
     rintro w hw ⟨t,xs,rfl⟩
     refine⟨e,fun hf'=>(hf hf').elim,fun _ _ _ _ _ _ _ _=>rfl,fun _ _ _ _ _ _=>rfl,fun r' t' xs' os j cs h1 h2 _=>?_,fun r' b cs h1 h2 _=>?_,.inr (.inl rfl)⟩
     ·have:=uniq r' _ h1 rfl h2;subst this;rw[x1]at h1;cases h1;cases hw
     ·have:=uniq r' _ h1 rfl h2;subst this;rw[x1]at h1;cases h1
    cases x with
    | dead=>cases x2
    | arr t xs w =>
     cases w with
     | no=>exact arrNo .no rfl ⟨t,xs,rfl⟩
     | cl os=>exact arrNo (.cl os) rfl ⟨t,xs,rfl⟩
     | op os j cs =>
      obtain⟨rows,row,b0,b1,b2,b3,b4⟩:=h.opened x1
      obtain⟨as',g1,g2⟩:=zp2 (fun v a hv=>rep v a hv) cs row b2
      rw[hi]at b0
      cases b0
      refine⟨.arr t.sz (rows.set j as'),fun hf'=>(hf hf').elim,fun r' t' xs' w' h1 h2 h3 _=>?_,fun r' x' _ _ h3 _=>(nof r' h3).elim,fun r' t' xs' os' j' cs' h1 h2 _=>?_,fun r' b cs h1 h2 _=>?_,.inr (.inr ⟨_,rows,j,row,as',rfl,b1,rfl,?_,g2⟩)⟩
      ·have:=uniq r' _ h1 rfl h3;subst this;rw[x1]at h1;cases h1;cases h2
      ·have:=uniq r' _ h1 rfl h2;subst this;rw[x1]at h1;cases h1;exact⟨rows,as',rfl,rfl,g1⟩
      ·have:=uniq r' _ h1 rfl h2;subst this;rw[x1]at h1;cases h1
      ·exact g2.cells fun c hc=>List.all_eq_true.1 (b2.cells b4) c hc
    | box b cs =>
     obtain⟨as,b1,b2⟩:=h.box r b cs x1
     have b3:=h.boxC r b cs x1
     obtain⟨as',g1,g2⟩:=zp2 (fun v a hv=>rep v a hv) cs as b2
     rw[hi]at b1
     cases b1
     refine⟨.arr cs.length [as'],fun hf'=>(hf hf').elim,fun r' t' xs' w' h1 h2 h3 _=>?_,fun r' x' _ _ h3 _=>(nof r' h3).elim,fun r' t' xs' os' j' cs' h1 h2 _=>?_,fun r' b' cs' h1 h2 _=>?_,.inr (.inr ⟨_,[as],0,as,as',rfl,rfl,rfl,?_,g2⟩)⟩
     ·have:=uniq r' _ h1 rfl h3;subst this;rw[x1]at h1;cases h1
     ·have:=uniq r' _ h1 rfl h2;subst this;rw[x1]at h1;cases h1
     ·have:=uniq r' _ h1 rfl h2;subst this;rw[x1]at h1;cases h1;exact⟨as',rfl,g1⟩
     ·exact g2.cells fun c hc=>List.all_eq_true.1 (b2.cells b3) c hc
   ·exact⟨e,fun hf'=>(hf hf').elim,fun r' t' xs' w' h1 _ h3 _=>(hx ⟨_,_,h1,rfl,h3⟩).elim,fun _ _ _ _ _ _=>rfl,fun r' t' xs' os' j' cs' h1 h2 _=>(hx ⟨_,_,h1,rfl,h2⟩).elim,fun r' b' cs' h1 h2 _=>(hx ⟨_,_,h1,rfl,h2⟩).elim,.inr (.inl rfl)⟩
 have got:∀(i:Nat) e,st.mem[i]? =some e->∃e1,mem1[i]? =some e1:=fun i e hi=>by
  have:=(yga.1 hi).1
  exact⟨_,ygb (by omega)⟩
 have back:∀(r:Nat) y,(fzO o T).mem[r]? =some y->∃x,T.mem[r]? =some x/\y=(match memB r o with
  | true=>.dead
  | false=>match x with
   | .box b cs=>fzB b (zja T.mem o 60 cs)
   | .arr t xs (.op os j cs)=>fzA t xs os j (zja T.mem o 60 cs)
   | r=>r):=fun r y hy=>by
  have hlt:=(yga.1 hy).1
  have hlt':r<T.mem.length:=by simpa[fzO,znT]using hlt
  have h1:T.mem[r]? =some T.mem[r]:=ygb _
  have:=zkB T.mem o T.mem 0 r _ h1
  rw[Nat.zero_add]at this
  refine⟨_,h1,?_⟩
  rw[show(fzO o T).mem=fzR T.mem o 0 T.mem from rfl,this]at hy
  exact(Option.some.inj hy).symm
 have bArr:∀(r:Nat) t xs w,(fzO o T).mem[r]? =some (.arr t xs w)->memB r o=false/\((T.mem[r]? =some (.arr t xs w)/\w.shut=true)\/∃os j cs,T.mem[r]? =some (.arr t xs (.op os j cs))/\w=.op os j (zja T.mem o 60 cs)/\(zja T.mem o 60 cs).all V.isC=true):=by
  intro r t xs w hr
  obtain⟨x,hx,e⟩:=back r _ hr
  cases hm:memB r o<;>rw[hm]at e<;>simp only at e
  ·refine⟨rfl,?_⟩
   cases x with
   | dead=>cases e
   | box b cs=>simp only[fzB]at e;split at e<;>cases e
   | arr t' xs' w' =>
    cases w' with
    | no=>cases e;exact .inl ⟨hx,rfl⟩
    | cl os=>cases e;exact .inl ⟨hx,rfl⟩
    | op os j cs =>
     simp only[fzA]at e
     split at e
     ·rename_i hc;cases e;exact .inr ⟨os,j,cs,hx,rfl,hc⟩
     ·cases e
  ·cases e
 have bBox:∀(r:Nat) b cs,(fzO o T).mem[r]? =some (.box b cs)->memB r o=false/\∃cs',T.mem[r]? =some (.box b cs')/\cs=zja T.mem o 60 cs'/\(zja T.mem o 60 cs').all V.isC=true:=by
  intro r b cs hr
  obtain⟨x,hx,e⟩:=back r _ hr
  cases hm:memB r o<;>rw[hm]at e<;>simp only at e
  ·refine⟨rfl,?_⟩
   cases x with
   | dead=>cases e
   | box b' cs' =>
    simp only[fzB]at e
    split at e
    ·rename_i hc;cases e;exact⟨cs',hx,rfl,hc⟩
    ·cases e
   | arr t' xs' w' =>
    cases w' with
    | no=>cases e
    | cl os=>cases e
    | op os j cs =>
     simp only[fzA]at e
     split at e<;>cases e
  ·cases e
 have al:∀(r:Nat) y,(fzO o T).mem[r]? =some y->y.alive=true->∃x,T.mem[r]? =some x/\x.alive=true/\memB r o=false:=fun r y hy hal=>by
  cases y with
  | dead=>cases hal
  | arr t xs w =>
   obtain⟨hm,h1|⟨os,j,cs,h1,_⟩⟩:=bArr r t xs w hy
   ·exact⟨_,h1.1,rfl,hm⟩
   ·exact⟨_,h1,rfl,hm⟩
  | box b cs=>obtain⟨hm,cs',h1,_⟩:=bBox r b cs hy;exact⟨_,h1,rfl,hm⟩
 have lives:∀i,Fzi J T.mem fp o i->∃es rows,st.mem[i]? =some (.arr es rows):=by
  rintro i ⟨r,y,f1,f2,f3,f4⟩
  rcases f4 with rfl|f4
  ·cases y with
   | dead=>cases f3
   | arr t xs w=>obtain⟨rows,g,_⟩:=h.alt r t xs w f2;exact⟨_,rows,g⟩
   | box b cs=>obtain⟨as,b1,_⟩:=h.box r b cs f2;exact⟨_,_,b1⟩
  ·exact how.live r i f4
 refine⟨⟨env1,mem1⟩,⟨Nat.le_of_eq m1.symm,fun C its hh=>AW.ghost (st':=⟨env1,mem1⟩) (Nat.le_of_eq m1.symm) (fun H F U w hs=>⟨Hfz J T.mem fp o H U w,U,⟨zeE hs,fun b x hx=>?_⟩,.refl _,?_,fun n x hx=>?_⟩) hh⟩,⟨fun n=>?_,fun r b cs hr=>?_,fun r b cs hr=>?_,fun r r' x x' h1 h2 h3 h4 h5=>?_,?_,h.pin.mono (zpg o T.mem)⟩⟩
 ·unfold Hfz at hx
  split at hx
  ·rename_i hf
   obtain⟨i,es,cap,f1,f2⟩:=hf
   obtain⟨es',rows,hm⟩:=lives i f1
   exact .inr (hs.apart _ _ _ hm rfl f2).2
  ·exact .inl hx
 ·refine hs.fz m1 (zeE hs) (zsV hs) (fun i e1 x hi hlv hx hn=>?_) (fun i e e1 hi hi1=>?_)
  ·unfold Hfz
   split
   ·rename_i hf
    obtain⟨k,es,cap,f1,f2⟩:=hf
    obtain⟨es',rows,hm⟩:=lives k f1
    have hlt:i<mem1.length:=(yga.1 hi).1
    have hi0:st.mem[i]? =some (st.mem[i]'(by omega)):=ygb _
    obtain⟨p1,_,_,_,_,p4⟩:=m2 i _ e1 hi0 hi
    have hlv0:(st.mem[i]'(by omega)).live=true:=by
     rcases p4 with p4|rfl|⟨es,rows,j,row,row',q1,_,rfl,_⟩
     ·rw[p1 p4]at hlv;simp at hlv
     ·exact hlv
     ·rw[q1];rfl
    have:=hs.inj i k _ _ x _ hi0 hlv0 hm rfl hx f2 rfl
    subst this
    rw[p1 f1]at hlv
    simp at hlv
   ·exact hn
  ·obtain⟨p1,_,_,_,_,p4⟩:=m2 i e e1 hi hi1
   rcases p4 with p4|rfl|⟨es,rows,j,row,row',rfl,q0,rfl,q1,q2⟩
   ·exact .inl (p1 p4)
   ·exact .inr (.inl rfl)
   ·refine .inr (.inr ⟨es,rows,rows.set j row',rfl,rfl,by simp,fun k r r' hk hk'=>?_⟩)
    rw[List.getElem?_set]at hk'
    split at hk'
    ·rename_i e;subst e
     rw[q0]at hk;cases hk
     split at hk'
     ·cases hk'
      refine⟨q2.len,q1,fun k c c' v hk hk' hr=>?_⟩
      obtain⟨c0,g1,g2⟩:=q2.get k c' hk'
      rw[hk]at g1;cases g1
      exact g2.2 H F U w hs U (.inl rfl) v hr
     ·cases hk'
    ·rw[hk]at hk';cases hk'
     have hx:∃x,U[i]? =some x:=⟨_,ygb (by rw[hs.hl];exact(yga.1 hi).1)⟩
     obtain⟨x,hx⟩:=hx
     have h0:=hs.ent i _ x hi hx
     have hcell:∀c∈r,c.isCell=true:=by
      cases x with
      | none =>
       have:rows=[]:=h0
       subst this;simp at hk
      | some x =>
       obtain⟨b,es',cap⟩:=x
       obtain⟨_,_,_,_,_,_,_,h6,_⟩:=h0
       exact h6 r (ygd hk)
     refine⟨rfl,hcell,fun k c c' v h1 h2 h3=>?_⟩
     rw[h1]at h2;cases h2
     exact h3.mono (zeE hs) (.refl _)
 ·show Rep _ _ (look env1 n) x
  rcases zg5 T.env n with e|e
  ·rcases e1 n with e'|e'
   ·exact e'.2.2 H F U w hs U (.inl rfl) x hx
   ·rw[e'];exact .junk
  ·exact(e2 n e).2.2 H F U w hs U (.inl rfl) x hx
 ·show VR J (fzR T.mem o 0 T.mem) (lookV (T.env.map fun p=>(p.1,fzW T.mem o p.2)) n) (look env1 n)
  rw[zg4 (fzW T.mem o) (by simp[fzW,V.pur,fzV])]
  rcases zg5 T.env n with e|e
  ·rw[e];simp[fzW,V.pur,fzV,VR]
  ·exact(e2 n e).1
 ·obtain⟨hm,cs',hx,rfl,hc⟩:=bBox r b cs hr
  obtain⟨as,g,_⟩:=h.box r b cs' hx
  obtain⟨e1,he1⟩:=got _ _ g
  obtain⟨as',q1,q2⟩:=(m2 _ _ _ g he1).2.2.2.2.1 r b cs' hx rfl hm
  subst q1
  exact⟨as',by simpa[zja]using he1,q2⟩
 ·exact(bBox r b cs hr).2.choose_spec.2.1 ▸ (bBox r b cs hr).2.choose_spec.2.2
 ·obtain⟨_,a1,a2,_⟩:=al r x h1 h2
  obtain⟨_,a3,a4,_⟩:=al r' x' h3 h4
  exact h.inj r r' _ _ a1 a2 a3 a4 h5
 ·let fp':Nat->List Nat:=fun r=>match(fzO o T).mem[r]? with
   | some (.arr _ _ _)=>fp r
   | _=>[]
  have fpc:∀r,fp' r=[]\/(fp' r=fp r/\∃t xs w,(fzO o T).mem[r]? =some (.arr t xs w)):=by
   intro r
   simp only[fp']
   split
   ·rename_i t xs w e;exact .inr ⟨rfl,t,xs,w,e⟩
   ·exact .inl rfl
  have sub:∀r,∀i∈fp' r,i∈fp r:=fun r i hi=>by
   rcases fpc r with e|⟨e,_⟩
   ·rw[e]at hi;simp at hi
   ·rw[e]at hi;exact hi
  refine⟨fp',fun r t xs w hr=>?_,fun r hr=>?_,fun r=>?_,fun r r' hne i hi hi'=>how.dj r r' hne i (sub r i hi) (sub r' i hi'),fun r r' x hx ha hi=>?_⟩
  ·have e:fp' r=fp r:=by simp only[fp'];rw[hr]
   rw[e]
   obtain⟨hm,hc⟩:=bArr r t xs w hr
   have hfr:∀x,T.mem[r]? =some x->x.alive=true->∀i∈fp r,mem1[i]? =st.mem[i]?:=fun x hx ha i hi=>by
    obtain⟨es,rows,g⟩:=how.live r i hi
    obtain⟨e1,he1⟩:=got _ _ g
    rw[he1,g,(m2 _ _ _ g he1).2.2.1 r x hx ha hi hm]
   rcases hc with⟨hx,hw⟩|⟨os,j,cs,hx,rfl,hcc⟩
   ·have hA:=how.rel r t xs w hx
    obtain⟨rows,g,_⟩:=hA.ent
    obtain⟨e1,he1⟩:=got _ _ g
    have:=(m2 _ _ _ g he1).2.1 r t xs w hx hw rfl hm
    exact(hA.mono (ρ':=J) (mem':=(fzO o T).mem) (sm':=mem1) (i':=J r) (fun cs as hv=>hv.mono (zpg o T.mem)) (by rw[he1,g,this]) (hfr _ hx rfl))
   ·have hA:=how.rel r t xs _ hx
    obtain⟨pre,x0,post,rpre,row,rpost,fp1,fp2,k1,k2,k3,k4,k5,k6,k7,k8,k9,k10⟩:=hA
    obtain⟨e1,he1⟩:=got _ _ k3
    obtain⟨rows,row',q1,q2,q3⟩:=(m2 _ _ _ k3 he1).2.2.2.1 r t xs os j cs hx rfl hm
    cases q1
    refine⟨pre,x0,post,rpre,row',rpost,fp1,fp2,k1,k2,?_,k4,k5.frame fun i hi=>hfr _ hx rfl i (by rw[k7];simp[hi]),k6.frame fun i hi=>hfr _ hx rfl i (by rw[k7];simp[hi]),k7,q3,by rw[<-k9];simp[zja],hcc⟩
    show mem1[J r]? =_
    rw[he1,q2,<-k4,List.set_append_right _ _ (Nat.le_refl _),Nat.sub_self];rfl
  ·rcases fpc r with e|⟨_,t,xs,w,e⟩
   ·exact e
   ·exact absurd e (hr t xs w)
  ·rcases fpc r with e|⟨e,_⟩
   ·rw[e];exact List.nodup_nil
   ·rw[e];exact how.nd r
  ·obtain⟨y,g1,g2,_⟩:=al r x hx ha
   exact how.rt r r' y g1 g2 (sub r' _ hi)
end
end Go.Fw
namespace Go.Fw
open Go
variable [Pin]
theorem zgv(cs:List (Nat×V))(n:Nat):∀(sl:List Nat)(vs:List V),(∃i:Nat,sl[i]? =some n/\vs[i]? =some (lookV (zoZ sl vs++cs) n))\/lookV (zoZ sl vs++cs) n=lookV cs n
 | [],vs=>.inr (by simp[zoZ])
 | m:: sl,[]=>.inr (by simp[zoZ])
 | m:: sl,v:: vs=>by
  simp only[zoZ,List.cons_append,lookV]
  cases e:Nat.beq m n with
  | true=>exact .inl ⟨0,by simp[Nat.eq_of_beq_eq_true e],rfl⟩
  | false=>exact(zgv cs n sl vs).imp (fun⟨i,h1,h2⟩=>⟨i+1,by simpa using h1,by simpa using h2⟩) id
theorem zdW(f:Nat->V)(n:Nat):∀ks:List Nat,(n∈ks/\lookV (ks.map fun n=>(n,f n)) n=f n)\/(n∉ks/\lookV (ks.map fun n=>(n,f n)) n=.junk)
 | []=>.inr ⟨by simp,rfl⟩
 | m:: ks=>by
  simp only[List.map_cons,lookV]
  cases e:Nat.beq m n with
  | true=>have e:=Nat.eq_of_beq_eq_true e;subst e;exact .inl ⟨by simp,rfl⟩
  | false =>
   have e:=Nat.ne_of_beq_eq_false e
   rcases zdW f n ks with⟨h1,h2⟩|⟨h1,h2⟩
   ·exact .inl ⟨by simp[h1],h2⟩
   ·exact .inr ⟨by simp[h1,Ne.symm e],h2⟩
section
variable {T:TS}{p:Bool}{tys:List (Nat×An)}{st ks:List Nat}
theorem zpq(d:(zcx p tys T st ks).D){n:Nat}(hn:n∉st):lookV (mkJ p (zcx p tys T st ks) T st ks d).env n=.junk\/
  (n∈ks/\((lookV T.env n).pur=true\/(lookV T.env n).isJ=true\/p=true)->lookV (mkJ p (zcx p tys T st ks) T st ks d).env n=lookV T.env n)/\n∈ks:=by
 cases p with
 | true =>
  have:lookV (mkJ true (zcx true tys T st ks) T st ks d).env n=lookV (ks.map fun n=>(n,lookV T.env n)) n:=by
   simp only[mkJ,Sig.mkP]
   rcases zgv (ks.map fun n=>(n,lookV T.env n)) n (zcx true tys T st ks).sl (mkVL (zcx true tys T st ks).shs d)with⟨i,h1,h2⟩|h
   ·exact absurd (ygd h1) hn
   ·exact h
  rw[this]
  rcases zdW (lookV T.env) n ks with⟨h1,h2⟩|⟨h1,h2⟩
  ·exact .inr ⟨fun _=>h2,h1⟩
  ·exact .inl h2
 | false =>
  by_cases hk:n∈ks
  ·by_cases hc:((lookV T.env n).pur=true\/(lookV T.env n).isJ=true\/false=true)
   ·refine .inr ⟨fun _=>?_,hk⟩
    simp only[mkJ,Sig.mk']
    rcases zgv (ze8 T ks) n (zcx false tys T st ks).sl (mkVL (zcx false tys T st ks).shs d)with⟨i,h1,h2⟩|h
    ·have hsl:(zcx false tys T st ks).sl=st++ks.filter (zeu T):=by simp[zcx,zoE]
     rw[hsl]at h1
     have hm:=ygd h1
     rcases List.mem_append.1 hm with hm|hm
     ·exact absurd hm hn
     ·have hr:=(List.mem_filter.1 hm).2
      have hj:lookV T.env n=.junk:=by
       simp only[zeu,yho]at hr
       rcases hc with hc|hc|hc
       ·rw[hr]at hc;cases hc
       ·cases hv:lookV T.env n<;>rw[hv]at hc<;>simp[V.isJ]at hc|-
       ·cases hc
      have hsh:∃o,(zcx false tys T st ks).sh[i]? =some (zd0 T o n):=by
       refine⟨zcT T.mem 200 (V.refsL ((st++ks.filter (zeu T)).map (lookV T.env))++zqc T.mem Nin.nin) (zdz 0 Nin.nin),?_⟩
       have:(zcx false tys T st ks).sh=st.map (zoD tys T (zcT T.mem 200 (V.refsL ((st++ks.filter (zeu T)).map (lookV T.env))++zqc T.mem Nin.nin) (zdz 0 Nin.nin)))++(ks.filter (zeu T)).map (zd0 T (zcT T.mem 200 (V.refsL ((st++ks.filter (zeu T)).map (lookV T.env))++zqc T.mem Nin.nin) (zdz 0 Nin.nin))):=by simp[zcx,zoE]
       have hge:st.length<=i:=Nat.le_of_not_lt fun hlt=>by
        rw[yge hlt]at h1
        exact hn (ygd h1)
       rw[ygf hge]at h1
       rw[this,ygf (by simpa using hge),List.length_map,List.getElem?_map,h1];rfl
      obtain⟨o,hsh⟩:=hsh
      have hshs:(zcx false tys T st ks).shs[i]? =some (zd0 T o n):=by
       simp only[Sig.shs]
       rw[yge (yga.1 hsh).1];exact hsh
      obtain⟨x,hx⟩:=ziy _ d i _ hshs
      rw[hx]at h2
      have h2:=Option.some.inj h2
      rw[<-h2,hj]
      have:zd0 T o n=.no:=by simp[zd0,hj,zsT]
      revert x
      rw[this]
      intro x _ _ _
      rfl
    ·rw[h]
     rcases zdW (lookV T.env) n (ks.filter fun n=>!(zeu T n))with⟨h1,h2⟩|⟨h1,h2⟩
     ·exact h2
     ·simp only[ze8]
      rw[h2]
      rcases hc with hc|hc|hc
      ·exact absurd (List.mem_filter.2 ⟨hk,by simp[zeu,hc]⟩) h1
      ·cases hv:lookV T.env n<;>rw[hv]at hc<;>simp[V.isJ]at hc|-
      ·cases hc
   ·exact .inr ⟨fun h=>absurd h.2 hc,hk⟩
  ·refine .inl ?_
   simp only[mkJ,Sig.mk']
   rcases zgv (ze8 T ks) n (zcx false tys T st ks).sl (mkVL (zcx false tys T st ks).shs d)with⟨i,h1,h2⟩|h
   ·have hsl:(zcx false tys T st ks).sl=st++ks.filter (zeu T):=by simp[zcx,zoE]
    rw[hsl]at h1
    rcases List.mem_append.1 (ygd h1)with hm|hm
    ·exact absurd hm hn
    ·exact absurd (List.mem_filter.1 hm).1 hk
   ·rw[h]
    rcases zdW (lookV T.env) n (ks.filter fun n=>!(zeu T n))with⟨h1,h2⟩|⟨h1,h2⟩
    ·exact absurd (List.mem_filter.1 h1).1 hk
    ·exact h2
theorem ziw(W:List Nat)(d:(zcx p tys T st ks).D):Inv (st++W) p T (mkJ p (zcx p tys T st ks) T st ks d):=by
 refine⟨fun n hn hc=>?_,fun hp _=>by subst hp;rfl⟩
 have hn':n∉st:=fun h=>by
  rw[zaI,(zit n st).2 h]at hn;cases hn
 rcases zpq d hn' with h|⟨h1,h2⟩
 ·exact .inr h
 ·exact .inl (h1 ⟨h2,hc.imp id (.imp id And.left)⟩)
end
theorem TR.keep{J:Nat->Nat}{T:TS}{st:St}(h:TR J T st)(keep:List Nat):TR J ⟨keep.map fun n=>(n,lookV T.env n),T.mem⟩ ⟨keep.map fun n=>(n,look st.env n),st.mem⟩:=
 ⟨fun n=>(EnvR.map keep fun n _=>h.env n).look n,h.box,h.boxC,h.inj,h.ow,h.pin⟩
theorem Inv.no{W:List Nat}{p pu:Bool}{T T':TS}(h:Inv W p T T')(hp:pu=true->noOw T.mem=true->p=true):Inv W pu T T':=
 ⟨fun n hn hc=>h.env n hn (hc.imp id (.imp id fun e=>⟨hp e.1 e.2,e.2⟩)),fun e e'=>h.mem (hp e e') e'⟩
theorem zej:∀{mem:List Root},noOw mem=true->zhB mem=false
 | [],_=>rfl
 | .dead:: l,h=>by simp only[zhB];exact zej h
 | .box _ _:: l,h=>by simp only[zhB];exact zej h
 | .arr _ _ w:: l,h=>by cases w<;>simp[noOw]at h;simp only[zhB];exact zej h
theorem TR.endT{J:Nat->Nat}{T:TS}{st:St}(h:TR J T st)(keep:List Nat):∃st2,Gh ⟨keep.map fun n=>(n,look st.env n),st.mem⟩ st2/\TR J (Go.Fw.endT keep T) st2:=by
 have h1:=h.keep keep
 unfold Go.Fw.endT
 split
 ·exact⟨_,.refl _,h1⟩
 ·obtain⟨st2,g1,h2⟩:=ze7 (V.refsL (keep.map (lookV T.env))++zgE T.mem) T.mem.length h1
  obtain⟨st3,g2,h3⟩:=ze7 (V.refsL (keep.map (lookV T.env))++zgE T.mem) T.mem.length h2
  exact⟨st3,g1.trans g2,h3⟩
theorem Inv.endT(W:List Nat)(pu:Bool)(T:TS)(keep:List Nat):Inv W pu T (Go.Fw.endT keep T):=by
 refine⟨fun n _ _=>?_,fun _ hn=>?_⟩
 ·have:(Go.Fw.endT keep T).env=keep.map fun n=>(n,lookV T.env n):=by unfold Go.Fw.endT;rfl
  rw[this]
  exact(zdW (lookV T.env) n keep).imp (fun h=>h.2) (fun h=>h.2)
 ·unfold Go.Fw.endT
  rw[zej hn]
section
variable {Φ:List TE}{tys:List (Nat×An)}{C:Ctx}{k:List CItem}{ρt:Type}{res:ρt}
theorem zlY{p:Bool}{keep:List Nat}{ds:List Nat}{T T':TS}{J:Nat->Nat}{st':St}
  {d:(zcx p tys T (keep.filter (fun n=>memB n ds)) (keep.filter (fun n=>!(memB n ds)))).D}
  (h:TR J T' st')(hp:p=true->noOw T.mem=true)(hi:Inv ds p T T')(hd:zkC p (zcx p tys T (keep.filter (fun n=>memB n ds)) (keep.filter (fun n=>!(memB n ds)))) T (keep.filter (fun n=>!(memB n ds))) (endT keep T')=some d):
  ∃st2 ρ2,Gh ⟨keep.map fun n=>(n,look st'.env n),st'.mem⟩ st2/\TR ρ2 (mkJ p (zcx p tys T (keep.filter (fun n=>memB n ds)) (keep.filter (fun n=>!(memB n ds)))) T (keep.filter (fun n=>memB n ds)) (keep.filter (fun n=>!(memB n ds))) d) st2/\
   Inv ds p T (mkJ p (zcx p tys T (keep.filter (fun n=>memB n ds)) (keep.filter (fun n=>!(memB n ds)))) T (keep.filter (fun n=>memB n ds)) (keep.filter (fun n=>!(memB n ds))) d):=by
 obtain⟨st1,g0,h1⟩:=h.endT keep
 obtain⟨st2,ρ2,g1,g2⟩:=zfU (slots:=keep.filter (fun n=>memB n ds)) h1 (hi.trans (.endT ds p T' keep)) (fun n hn=>by simpa using(List.mem_filter.1 hn).2) (fun e=>⟨e,hp e⟩) rfl hd
 refine⟨st2,ρ2,g0.trans g1,g2,?_⟩
 refine(ziw [] d).mono (fun n hn=>?_) id
 rw[List.append_nil,ziu]
 intro h
 have:=(List.mem_filter.1 h).2
 rw[hn]at this;cases this
theorem zmG(hΦ:∀e∈Φ,EOk C.P e){keep cls:List Nat}{ops:List COp}{T:TS}{J:Nat->Nat}{st:St}{kn:TS->Option ρt}(h:TR J T st)(he:zrL Φ tys false keep cls ops T kn=some res)
  (hk:∀T' ρ' st',TR ρ' T' st'->Inv (ze9 ops) (zam Φ ops) T T'->kn T'=some res->AW C k st'):AW C (.code (.reg keep ops):: k) st:=by
 refine AW.reg ?_
 unfold zrL at he
 split at he
 ·refine zgb hΦ ops _ T h he fun T' ρ' st' h' hi hκ=>AW.ops_end ?_
  obtain⟨st2,g1,g2⟩:=h'.endT keep
  exact g1.2 C _ (hk _ ρ' _ g2 (hi.trans (.endT _ _ _ _)) hκ)
 ·obtain⟨d,h1,h2⟩:=zah he
  refine zgb hΦ ops _ T h h1 fun T' ρ' st' h' hi hκ=>?_
  have hp:(zam Φ ops&&noOw T.mem)=true->zam Φ ops=true/\noOw T.mem=true:=fun e=>by simpa using e
  obtain⟨st2,ρ2,g1,g2,g3⟩:=zlY (tys:=tys) (p:=zam Φ ops&&noOw T.mem) h' (fun e=>(hp e).2) (hi.mono (fun _ h=>h) fun e=>(hp e).1) hκ
  exact AW.ops_end (g1.2 C _ (hk _ ρ2 _ g2 (g3.no fun e e'=>by rw[e,e'];rfl) h2))
theorem AW.wfd{keep ord anc cls:List Nat}{ops:List COp}{st:St}(h:wfD ops=true->AW C (.code (.regd keep ord anc cls ops):: k) st):AW C (.code (.regd keep ord anc cls ops):: k) st:=by
 intro H F U a w b cs todo hmi hr hn
 have hwf:wfD ops=true:=by
  cases hmi with
  | code hcc hk =>
   rename_i c' k'
   cases c'<;>try(simp[chkC]at hcc;done)
   rename_i id os dr
   cases dr<;>simp only[chkC,yhj]at hcc
   exact(zno hcc).wf
 exact h hwf H F U a w b cs todo hmi hr hn
theorem zkR(hm:C.P.follows .mixedOrders=true)(hΦ:∀e∈Φ,EOk C.P e){keep ord anc cls:List Nat}{ops:List COp}{T:TS}{J:Nat->Nat}{st:St}{kn:TS->Option ρt}(h:TR J T st)(he:zrL Φ tys true keep cls ops T kn=some res)
  (hk:∀T' ρ' st',TR ρ' T' st'->Inv (ze9 ops) (zam Φ ops) T T'->kn T'=some res->AW C k st'):AW C (.code (.regd keep ord anc cls ops):: k) st:=by
 refine AW.wfd fun hwf=>?_
 unfold zrL at he
 split at he
 ·obtain⟨R,gw,cr,_,_,_,hr⟩:=zga hΦ ops cls (dnT T) T h hwf (fun r hr=>by cases hr) ⟨(fun p hp=>by cases hp),(fun p hp=>by cases hp)⟩ he
  refine AW.regd hm (R.map J) gw cr (zhg (fun st' hQ=>?_) ops cls st hr)
  obtain⟨T',ρ',h',hi,hκ⟩:=hQ
  obtain⟨st2,g1,g2⟩:=h'.endT keep
  exact g1.2 C _ (hk _ ρ' _ g2 (hi.trans (.endT _ _ _ _)) hκ)
 ·obtain⟨d,h1,h2⟩:=zah he
  obtain⟨R,gw,cr,_,_,_,hr⟩:=zga hΦ ops cls (dnT T) T h hwf (fun r hr=>by cases hr) ⟨(fun p hp=>by cases hp),(fun p hp=>by cases hp)⟩ h1
  refine AW.regd hm (R.map J) gw cr (zhg (fun st' hQ=>?_) ops cls st hr)
  obtain⟨T',ρ',h',hi,hκ⟩:=hQ
  have hp:(zam Φ ops&&noOw T.mem)=true->zam Φ ops=true/\noOw T.mem=true:=fun e=>by simpa using e
  obtain⟨st2,ρ2,g1,g2,g3⟩:=zlY (tys:=tys) (p:=zam Φ ops&&noOw T.mem) h' (fun e=>(hp e).2) (hi.mono (fun _ h=>h) fun e=>(hp e).1) hκ
  exact g1.2 C _ (hk _ ρ2 _ g2 (g3.no fun e e'=>by rw[e,e'];rfl) h2)
end
end Go.Fw
namespace Go.Fw
open Go
variable [Pin]
theorem zn5{σ J:Type}{b:σ->Option (σ⊕J)}{s:σ}{r:J}(h:za4 b s=some r):∃n,zbQ b n s=some r:=by
 rw[ziq]at h
 split at h
 ·exact⟨_,h⟩
 ·cases h
theorem zg6{α U:Type}(g:α->U)(id:Nat):∀ex:List (Nat×α),zf0 (ex.map fun q=>(q.1,g q.2)) id=(zf0 ex id).map g
 | []=>rfl
 | (m,v):: ex=>by
  simp only[List.map_cons,zf0]
  cases Nat.beq m id with
  | true=>rfl
  | false=>exact zg6 g id ex
section
variable {Φ:List TE}{tys:List (Nat×An)}{C:Ctx}
theorem AW.inLp{body:CC}{k:List CItem}{st:St}(h:AW C (.code body:: .inLoop body:: k) st):AW C (.inLoop body:: k) st:=by
 intro H F U a w b cs todo hmi hr hn
 cases hmi with
 | inLoop hc hk=>exact .steps (.one step_inLoop) (h H F U a w b cs _ (.code hc (.inLoop hc hk)) hr hn)
theorem AW.lp{r:Bool}{id:Nat}{ss ks:List Nat}{body:CC}{k:List CItem}{st:St}(h:AW C (.code body:: .inLoop body:: k) st):AW C (.code (.lp r id ss ks body):: k) st:=by
 intro H F U a w b cs todo hmi hr hn
 cases hmi with
 | code hc hk =>
  rename_i c' k'
  cases c'<;>simp[chkC]at hc
  exact .steps (.one step_loop) (h H F U a w b cs _ (.code hc (.inLoop hc hk)) hr hn)
theorem zio{D Y:Type}{b:D->Option (D⊕Y)}{y:Y}{k:List CItem}{body:CC}(S:D->St->Prop)
  (round:∀d st1 r,S d st1->b d=some r->(r=.inr y\/∃d',r=.inl d'/\∀st',S d' st'->AW C (.inLoop body:: k) st')->AW C (.code body:: .inLoop body:: k) st1):
  ∀(n:Nat) d st1,S d st1->zbQ b n d=some y->AW C (.code body:: .inLoop body:: k) st1
 | 0,d,st1,_,h=>by simp[zbQ]at h
 | n+1,d,st1,hs,h=>by
  simp only[zbQ]at h
  split at h
  ·rename_i d' e
   exact round d st1 _ hs e (.inr ⟨d',rfl,fun st' hs'=>AW.inLp (zio S round n d' st' hs' h)⟩)
  ·rename_i r e
   cases h
   exact round d st1 _ hs e (.inl rfl)
  ·cases h
theorem zav(hm:C.P.follows .mixedOrders=true)(hΦ:∀e∈Φ,EOk C.P e):∀(c:CC)(X:Type)(T:TS)(ex:List (Nat×(TS->Option X)))(rt kn:TS->Option X)(res:X)(k:List CItem)(J:Nat->Nat)(st:St),
  TR J T st->zfx Φ tys c X T ex rt kn=some res->
  (∀id Z,zf0 ex id=some Z->∃k',zdy id k=some k'/\∀T' ρ' st',TR ρ' T' st'->Inv (wrC c) (zaX Φ c) T T'->Z T'=some res->AW C k' st')->
  (∀T' ρ' st' k',TR ρ' T' st'->rt T'=some res->AW C (.code .ret:: k') st')->
  (∀T' ρ' st',TR ρ' T' st'->Inv (wrC c) (zaX Φ c) T T'->kn T'=some res->AW C k st')->AW C (.code c:: k) st
 | .skip,X,T,ex,rt,kn,res,k,J,st,h,he,hex,hrt,hkn=>AW.skip (hkn T J st h (.refl _ _ _) (by simpa[zfx]using he))
 | .reg keep ops,X,T,ex,rt,kn,res,k,J,st,h,he,hex,hrt,hkn=>zmG hΦ h (by simpa[zfx]using he) hkn
 | .regd keep ord anc cls ops,X,T,ex,rt,kn,res,k,J,st,h,he,hex,hrt,hkn=>zkR hm hΦ h (by simpa[zfx]using he) hkn
 | .seq a b,X,T,ex,rt,kn,res,k,J,st,h,he,hex,hrt,hkn=>by
  simp only[zfx]at he
  have ia:∀{T':TS},Inv (wrC a) (zaX Φ a) T T'->Inv (wrC (.seq a b)) (zaX Φ (.seq a b)) T T':=fun hi =>
   hi.mono (fun n hn=>by simp only[wrC,zaI,Bool.or_eq_false_iff]at hn;exact hn.1) (fun e=>by simp only[zaX,yhb]at e;exact e.1)
  have ib:∀{T1 T':TS},Inv (wrC b) (zaX Φ b) T1 T'->Inv (wrC (.seq a b)) (zaX Φ (.seq a b)) T1 T':=fun hi =>
   hi.mono (fun n hn=>by simp only[wrC,zaI,Bool.or_eq_false_iff]at hn;exact hn.2) (fun e=>by simp only[zaX,yhb]at e;exact e.2)
  refine AW.seq (zav hm hΦ a X T ex rt _ res (.code b:: k) J st h he (fun id Z hl=>?_) hrt (fun T' ρ' st' h' hi hκ=>?_))
  ·obtain⟨k',h1,h2⟩:=hex id Z hl
   exact⟨k',by simpa[zdy]using h1,fun T' ρ' st' h' hi hκ=>h2 T' ρ' st' h' (ia hi) hκ⟩
  ·refine zav hm hΦ b X T' ex rt kn res k ρ' st' h' hκ (fun id Z hl=>?_) hrt (fun T'' ρ'' st'' h'' hi' hκ'=>hkn T'' ρ'' st'' h'' ((ia hi).trans (ib hi')) hκ')
   obtain⟨k',h1,h2⟩:=hex id Z hl
   exact⟨k',h1,fun T'' ρ'' st'' h'' hi' hκ'=>h2 T'' ρ'' st'' h'' ((ia hi).trans (ib hi')) hκ'⟩
 | .cond c a b,X,T,ex,rt,kn,res,k,J,st,h,he,hex,hrt,hkn=>by
  simp only[zfx]at he
  split at he
  ·rename_i x hx
   have hc:=h.ar c
   rw[hx]at hc
   simp only[VR]at hc
   have ia:∀{T':TS},Inv (wrC a) (zaX Φ a) T T'->Inv (wrC (.cond c a b)) (zaX Φ (.cond c a b)) T T':=fun hi =>
    hi.mono (fun n hn=>by simp only[wrC,zaI,Bool.or_eq_false_iff]at hn;exact hn.1) (fun e=>by simp only[zaX,yhb]at e;exact e.1)
   have ib:∀{T':TS},Inv (wrC b) (zaX Φ b) T T'->Inv (wrC (.cond c a b)) (zaX Φ (.cond c a b)) T T':=fun hi =>
    hi.mono (fun n hn=>by simp only[wrC,zaI,Bool.or_eq_false_iff]at hn;exact hn.2) (fun e=>by simp only[zaX,yhb]at e;exact e.2)
   refine AW.cond hc (fun e=>?_) (fun e=>?_)
   ·subst e
    refine zav hm hΦ a X T ex rt kn res k J st h (by simpa[zad]using he) (fun id Z hl=>?_) hrt (fun T' ρ' st' h' hi hκ=>hkn T' ρ' st' h' (ia hi) hκ)
    obtain⟨k',h1,h2⟩:=hex id Z hl
    exact⟨k',h1,fun T' ρ' st' h' hi hκ=>h2 T' ρ' st' h' (ia hi) hκ⟩
   ·subst e
    refine zav hm hΦ b X T ex rt kn res k J st h (by simpa[zad]using he) (fun id Z hl=>?_) hrt (fun T' ρ' st' h' hi hκ=>hkn T' ρ' st' h' (ib hi) hκ)
    obtain⟨k',h1,h2⟩:=hex id Z hl
    exact⟨k',h1,fun T' ρ' st' h' hi hκ=>h2 T' ρ' st' h' (ib hi) hκ⟩
  ·cases he
 | .block id b,X,T,ex,rt,kn,res,k,J,st,h,he,hex,hrt,hkn=>by
  simp only[zfx]at he
  refine AW.block (zav hm hΦ b X T ((id,kn):: ex) rt kn res (.inBlock id:: k) J st h he (fun i Z hl=>?_) hrt (fun T' ρ' st' h' hi hκ=>AW.inBlock (hkn T' ρ' st' h' hi hκ)))
  simp only[zf0]at hl
  cases e:Nat.beq id i with
  | true =>
   rw[e]at hl
   simp only[Option.some.injEq]at hl
   subst hl
   exact⟨k,by simp[zdy,Nat.eq_of_beq_eq_true e],hkn⟩
  | false =>
   rw[e]at hl
   obtain⟨k',h1,h2⟩:=hex i Z hl
   exact⟨k',by simp[zdy,Nat.ne_of_beq_eq_false e,h1],h2⟩
 | .exit id,X,T,ex,rt,kn,res,k,J,st,h,he,hex,hrt,hkn=>by
  simp only[zfx]at he
  split at he
  ·rename_i Z hl
   obtain⟨k',h1,h2⟩:=hex id Z hl
   exact AW.exit h1 (h2 T J st h (.refl _ _ _) he)
  ·cases he
 | .ret,X,T,ex,rt,kn,res,k,J,st,h,he,hex,hrt,hkn=>hrt T J st k h (by simpa[zfx]using he)
 | .loop _,X,T,ex,rt,kn,res,k,J,st,h,he,hex,hrt,hkn=>by simp[zfx]at he
 | .join b,X,T,ex,rt,kn,res,k,J,st,h,he,hex,hrt,hkn=>by
  simp only[zfx]at he
  refine AW.join (zav hm hΦ b X T ex rt kn res (.stop:: k) J st h he (fun i Z hl=>?_) hrt (fun T' ρ' st' h' hi hκ=>AW.stop (hkn T' ρ' st' h' hi hκ)))
  obtain⟨k',h1,h2⟩:=hex i Z hl
  exact⟨k',by simpa[zdy]using h1,h2⟩
 | .own n es b,X,T,ex,rt,kn,res,k,J,st,h,he,hex,hrt,hkn=>by
  simp only[zfx]at he
  exact AW.wrap (x:=b) (fun c hc=>by simpa[chkC]using hc) (zav hm hΦ b X T ex rt kn res k J st h he (fun i Z hl=>by
   obtain⟨k',h1,h2⟩:=hex i Z hl
   exact⟨k',h1,fun T' ρ' st' h' hi hκ=>h2 T' ρ' st' h' (hi.mono (fun _ h=>h) (fun e=>by simp[zaX]at e)) hκ⟩) hrt
   (fun T' ρ' st' h' hi hκ=>hkn T' ρ' st' h' (hi.mono (fun _ h=>h) (fun e=>by simp[zaX]at e)) hκ))
 | .frz n es b,X,T,ex,rt,kn,res,k,J,st,h,he,hex,hrt,hkn=>by
  simp only[zfx]at he
  have main:∃st1,Gh st st1/\TR J (fzT n T) st1/\Inv (wrC b) false T (fzT n T):=by
   unfold fzT
   split
   ·exact⟨st,.refl _,h,.refl _ _ _⟩
   ·obtain⟨st1,g1,g2⟩:=zgY (zcT T.mem 200 (lookV T.env n).refs []) h
    refine⟨st1,g1,g2,fun m hm hc=>.inl ?_,fun e _=>by cases e⟩
    show lookV (T.env.map fun p=>(p.1,fzW T.mem _ p.2)) m=_
    rw[zg4 (fzW T.mem _) (by simp[fzW,V.pur,fzV])]
    rcases hc with hc|hc|hc
    ·simp[fzW,hc]
    ·cases hv:lookV T.env m<;>rw[hv]at hc<;>simp[V.isJ]at hc
     simp[fzW,V.pur,fzV]
    ·cases hc.1
  obtain⟨st1,g1,g2,g3⟩:=main
  have up:∀{T':TS},Inv (wrC b) (zaX Φ b) (fzT n T) T'->Inv (wrC (.frz n es b)) (zaX Φ (.frz n es b)) T T':=fun hi =>
   (g3.trans (hi.mono (fun _ h=>h) (fun e=>by cases e))).mono (fun _ h=>h) (fun e=>by simp[zaX]at e)
  refine AW.wrap (x:=b) (fun c hc=>by simpa[chkC]using hc) (g1.2 C _ (zav hm hΦ b X (fzT n T) ex rt kn res k J st1 g2 he (fun i Z hl=>?_) hrt (fun T' ρ' st' h' hi hκ=>hkn T' ρ' st' h' (up hi) hκ)))
  obtain⟨k',h1,h2⟩:=hex i Z hl
  exact⟨k',h1,fun T' ρ' st' h' hi hκ=>h2 T' ρ' st' h' (up hi) hκ⟩
 | .jn r ss ks b,X,T,ex,rt,kn,res,k,J,st,h,he,hex,hrt,hkn=>by
  simp only[zfx]at he
  split at he
  ·cases he
  ·rename_i hoff
   have hpt:zaO Φ b T=true->zaX Φ b=true/\noOw T.mem=true:=fun e=>by simpa[zaO]using e
   have hno:zaX Φ b=true->noOw T.mem=true->zaO Φ b T=true:=fun e e'=>by simp[zaO,e,e']
   have up:∀{T':TS},Inv (wrC b) (zaX Φ b) T T'->Inv (wrC (.jn r ss ks b)) (zaX Φ (.jn r ss ks b)) T T':=fun hi =>
    hi.mono (fun n hn=>by simp only[wrC,zaI,Bool.or_eq_false_iff]at hn;exact hn.2) id
   have fin:∀(T':TS)(ρ':Nat->Nat)(st':St) d,TR ρ' T' st'->Inv (wrC b) (zaX Φ b) T T'->zkC (zaO Φ b T) (zcx (zaO Φ b T) tys T ss ks) T ks T'=some d->
     kn (mkJ (zaO Φ b T) (zcx (zaO Φ b T) tys T ss ks) T ss ks d)=some res->AW C k st':=by
    intro T' ρ' st' d h' hi hd hκ
    obtain⟨st2,ρ2,g1,g2⟩:=zfU (W:=ss++wrC b) (slots:=ss) h' (hi.mono (fun n hn=>by simp only[zaI,Bool.or_eq_false_iff]at hn;exact hn.2) id) (fun n hn=>zlQ hoff hn) hpt rfl hd
    exact g1.2 C _ (hkn _ ρ2 st2 g2 ((ziw (wrC b) d).no hno) hκ)
   refine AW.wrap (x:=b) (fun c hc=>by simpa[chkC]using hc) ?_
   cases r with
   | false =>
    simp only at he
    obtain⟨d,h1,h2⟩:=zah he
    exact zav hm hΦ b _ T [] (fun _=>none) _ d k J st h h1 (fun i Z hl=>by simp[zf0]at hl) (fun T' ρ' st' k' h' hκ=>by cases hκ) (fun T' ρ' st' h' hi hκ=>fin T' ρ' st' d h' hi hκ h2)
   | true =>
    simp only at he
    obtain⟨x,h1,h2⟩:=zah he
    refine zav hm hΦ b _ T _ _ _ x k J st h h1 (fun i Z hl=>?_) (fun T' ρ' st' k' h' hκ=>?_) (fun T' ρ' st' h' hi hκ=>?_)
    ·rw[zg6 (fun(q:TS->Option X)(T':TS)=>zaa (q T') fun x=>some (Sum.inr x:(zcx (zaO Φ b T) tys T ss ks).D⊕X))]at hl
     simp only[Option.map_eq_some_iff]at hl
     obtain⟨q,hq,rfl⟩:=hl
     obtain⟨k',g1,g2⟩:=hex i q hq
     refine⟨k',g1,fun T' ρ' st' h' hi hκ=>?_⟩
     obtain⟨y,e1,e2⟩:=zah hκ
     cases e2
     simp only[caseS]at h2
     cases h2
     exact g2 T' ρ' st' h' (up hi) e1
    ·obtain⟨y,e1,e2⟩:=zah hκ
     cases e2
     simp only[caseS]at h2
     cases h2
     exact hrt T' ρ' st' k' h' e1
    ·simp only[ygc]at hκ
     obtain⟨d,e1,e2⟩:=hκ
     cases e2
     simp only[caseS]at h2
     exact fin T' ρ' st' d h' hi e1 h2
 | .lp r id ss ks b,X,T,ex,rt,kn,res,k,J,st,h,he,hex,hrt,hkn=>by
  simp only[zfx]at he
  split at he
  ·cases he
  ·rename_i Z hκ
   obtain⟨kx,hx1,hx2⟩:=hex id Z hκ
   split at he
   ·cases he
   ·rename_i hoff
    have hpt:zaO Φ b T=true->zaX Φ b=true/\noOw T.mem=true:=fun e=>by simpa[zaO]using e
    have hno:zaX Φ b=true->noOw T.mem=true->zaO Φ b T=true:=fun e e'=>by simp[zaO,e,e']
    simp only[ygc]at he
    obtain⟨d0,hd0,he⟩:=he
    have joint:∀(T':TS)(ρ':Nat->Nat)(st':St) d,TR ρ' T' st'->Inv (ss++wrC b) (zaX Φ b) T T'->zkC (zaO Φ b T) (zcx (zaO Φ b T) tys T ss ks) T ks T'=some d->
      ∃st2 ρ2,Gh st' st2/\TR ρ2 (mkJ (zaO Φ b T) (zcx (zaO Φ b T) tys T ss ks) T ss ks d) st2:=by
     intro T' ρ' st' d h' hi hd
     exact zfU (W:=ss++wrC b) (slots:=ss) h' hi (fun n hn=>zlQ hoff hn) hpt rfl hd
    have round:∀{T':TS}(d:(zcx (zaO Φ b T) tys T ss ks).D),Inv (wrC b) (zaX Φ b) (mkJ (zaO Φ b T) (zcx (zaO Φ b T) tys T ss ks) T ss ks d) T'->Inv (ss++wrC b) (zaX Φ b) T T':=fun d hi =>
     ((ziw (wrC b) d).no hno).trans (hi.mono (fun n hn=>by simp only[zaI,Bool.or_eq_false_iff]at hn;exact hn.2) (fun e=>e))
    have fin:∀(T':TS)(ρ':Nat->Nat)(st':St) d,TR ρ' T' st'->Inv (ss++wrC b) (zaX Φ b) T T'->zkC (zaO Φ b T) (zcx (zaO Φ b T) tys T ss ks) T ks T'=some d->
      Z (mkJ (zaO Φ b T) (zcx (zaO Φ b T) tys T ss ks) T ss ks d)=some res->AW C kx st':=by
     intro T' ρ' st' d h' hi hd hk
     obtain⟨st2,ρ2,g1,g2⟩:=joint T' ρ' st' d h' hi hd
     exact g1.2 C _ (hx2 _ ρ2 st2 g2 ((ziw (wrC b) d).no hno) hk)
    have next:∀(T':TS)(ρ':Nat->Nat)(st':St) d,TR ρ' T' st'->Inv (ss++wrC b) (zaX Φ b) T T'->zkC (zaO Φ b T) (zcx (zaO Φ b T) tys T ss ks) T ks T'=some d->
      (∀st2,(∃ρ2,TR ρ2 (mkJ (zaO Φ b T) (zcx (zaO Φ b T) tys T ss ks) T ss ks d) st2)->AW C (.inLoop b:: k) st2)->AW C (.inLoop b:: k) st':=by
     intro T' ρ' st' d h' hi hd hk
     obtain⟨st2,ρ2,g1,g2⟩:=joint T' ρ' st' d h' hi hd
     exact g1.2 C _ (hk st2 ⟨ρ2,g2⟩)
    obtain⟨st0,ρ0,g0,t0⟩:=joint T J st d0 h (.refl _ _ _) hd0
    refine AW.lp (g0.2 C _ ?_)
    cases r with
    | false =>
     simp only at he
     obtain⟨y,hl,hy⟩:=zah he
     obtain⟨n,hn⟩:=zn5 hl
     refine zio (fun d st1=>∃ρ1,TR ρ1 (mkJ (zaO Φ b T) (zcx (zaO Φ b T) tys T ss ks) T ss ks d) st1) (fun d st1 r hs hb hr=>?_) n d0 st0 ⟨ρ0,t0⟩ hn
     obtain⟨ρ1,hs⟩:=hs
     refine zav hm hΦ b _ _ _ (fun _=>none) _ r (.inLoop b:: k) ρ1 st1 hs hb (fun i κ' hl'=>?_) (fun T' ρ' st' k' h' hκ'=>by cases hκ') (fun T' ρ' st' h' hi hκ'=>?_)
     ·simp only[zf0]at hl'
      cases e:Nat.beq id i with
      | false=>rw[e]at hl';cases hl'
      | true =>
       rw[e]at hl'
       have e:=Nat.eq_of_beq_eq_true e
       subst e
       cases hl'
       refine⟨kx,by simpa[zdy]using hx1,fun T' ρ' st' h' hi hκ'=>?_⟩
       simp only[ygc]at hκ'
       obtain⟨d',e1,e2⟩:=hκ'
       cases e2
       rcases hr with hr|⟨_,hr,_⟩
       ·cases hr;exact fin T' ρ' st' _ h' (round d hi) e1 hy
       ·cases hr
     ·simp only[ygc]at hκ'
      obtain⟨d',e1,e2⟩:=hκ'
      cases e2
      rcases hr with hr|⟨d'',hr,hk⟩
      ·cases hr
      ·cases hr;exact next T' ρ' st' d' h' (round d hi) e1 hk
    | true =>
     simp only at he
     obtain⟨y,hl,hy⟩:=zah he
     obtain⟨n,hn⟩:=zn5 hl
     refine zio (fun d st1=>∃ρ1,TR ρ1 (mkJ (zaO Φ b T) (zcx (zaO Φ b T) tys T ss ks) T ss ks d) st1) (fun d st1 r hs hb hr=>?_) n d0 st0 ⟨ρ0,t0⟩ hn
     obtain⟨ρ1,hs⟩:=hs
     refine zav hm hΦ b _ _ _ _ _ r (.inLoop b:: k) ρ1 st1 hs hb (fun i κ' hl'=>?_) (fun T' ρ' st' k' h' hκ'=>?_) (fun T' ρ' st' h' hi hκ'=>?_)
     ·simp only[zf0]at hl'
      cases e:Nat.beq id i with
      | false =>
       rw[e]at hl'
       rw[zg6 (fun(q:TS->Option X)(T':TS)=>zaa (q T') fun x=>some (Sum.inr (Sum.inr x):(zcx (zaO Φ b T) tys T ss ks).D⊕((zcx (zaO Φ b T) tys T ss ks).D⊕X)))]at hl'
       simp only[Option.map_eq_some_iff]at hl'
       obtain⟨q,hq,rfl⟩:=hl'
       obtain⟨k',g1,g2⟩:=hex i q hq
       refine⟨k',by simpa[zdy]using g1,fun T' ρ' st' h' hi hκ'=>?_⟩
       obtain⟨z,e1,e2⟩:=zah hκ'
       cases e2
       rcases hr with hr|⟨_,hr,_⟩
       ·cases hr
        simp only[caseS]at hy
        cases hy
        exact g2 T' ρ' st' h' (round d hi) e1
       ·cases hr
      | true =>
       rw[e]at hl'
       have e:=Nat.eq_of_beq_eq_true e
       subst e
       cases hl'
       refine⟨kx,by simpa[zdy]using hx1,fun T' ρ' st' h' hi hκ'=>?_⟩
       simp only[ygc]at hκ'
       obtain⟨d',e1,e2⟩:=hκ'
       cases e2
       rcases hr with hr|⟨_,hr,_⟩
       ·cases hr;exact fin T' ρ' st' d' h' (round d hi) e1 (by simpa[caseS]using hy)
       ·cases hr
     ·obtain⟨z,e1,e2⟩:=zah hκ'
      cases e2
      rcases hr with hr|⟨_,hr,_⟩
      ·cases hr
       simp only[caseS]at hy
       cases hy
       exact hrt T' ρ' st' k' h' e1
      ·cases hr
     ·simp only[ygc]at hκ'
      obtain⟨d',e1,e2⟩:=hκ'
      cases e2
      rcases hr with hr|⟨d'',hr,hk⟩
      ·cases hr
      ·cases hr;exact next T' ρ' st' d' h' (round d hi) e1 hk
end
end Go.Fw
namespace Go.Fw
open Go
def zje(f:Func):Code:=match f.body with|some c=>c|none=>.skip
def chkF(P:Program)(fn:Func)(c:CC)(np:Nat)(rs:List RV):Bool:=
 fn.body.isSome&&chkC P fn.ntmps c (zje fn)&&zqf P fn.results.toList rs&&decide (np<=fn.ntmps)
structure FnOk (P:Program)(f:FuncId)(c:CC)(np:Nat)(rs:List RV):Prop where
 fn:∃fn,P.funcs[f]? =some fn/\chkF P fn c np rs=true
 call:∀as w,(callFunc f as).run P w=.ok (.enter f as) w
 mix:P.follows .mixedOrders=true
theorem zjE:∀(s:Sh),s.pur=true->zcm s .junk=none:=by
 intro s h
 cases s<;>simp[Sh.pur]at h<;>simp[zcm,V.toL,V.to]
section
variable [Pin]{J:Nat->Nat}{T:TS}{st:St}
theorem zpt(h:TR J T st)(rv:RV)(hj:zci T rv≠.junk):∃a,VR J T.mem (zci T rv) a/\∀(C:Ctx) rs acc,zhy C rs (a:: acc) st->zhy C (rv:: rs) acc st:=by
 cases rv with
 | t n=>exact⟨_,h.env n,fun C rs acc hh=>by simpa[zhy]using hh⟩
 | c n k =>
  have hn:=h.env n
  cases k with
  | none =>
   simp only[zci]at hj|-
   split at hj
   ·rename_i r row off e
    rw[e]at hn
    split at hj
    ·rename_i b cs hr
     simp only[VR,mpR,hr]at hn
     obtain⟨h1,rfl⟩:=hn
     obtain⟨as,g1,g2⟩:=h.box r b cs hr
     split at hj
     ·rename_i c hc
      obtain⟨a,a1,a2⟩:=g2.get off c hc
      refine⟨a,by simpa only[e,hr,hc]using a2,fun C rs acc hh=>?_⟩
      simp only[zhy,evK,zrP,h1,g1,List.getElem?_cons_zero,a1]
      exact⟨trivial,hh⟩
     ·exact absurd rfl hj
    ·exact absurd rfl hj
   ·rename_i c cs e
    rw[e]at hn
    simp only[VR,VRL]at hn
    obtain⟨as,h1,a,as',rfl,g1,g2⟩:=hn
    refine⟨a,by simpa only[e]using g1,fun C rs acc hh=>?_⟩
    simp only[zhy,evK,zrP,h1,List.head?_cons]
    exact⟨trivial,hh⟩
   ·exact absurd rfl hj
  | some k =>
   simp only[zci]at hj|-
   split at hj
   ·rename_i r row off e
    rw[e]at hn
    split at hj
    ·rename_i b cs hr
     simp only[VR,mpR,hr]at hn
     obtain⟨h1,rfl⟩:=hn
     obtain⟨as,g1,g2⟩:=h.box r b cs hr
     split at hj
     ·rename_i hk
      refine⟨.agg ((as.drop off).take k),?_,fun C rs acc hh=>?_⟩
      ·simp only[VR]
       exact⟨_,rfl,(g2.drop off).take k⟩
      ·simp only[zhy,evK,zrP,h1,g1,List.getElem?_cons_zero]
       exact⟨by rw[g2.len];exact Nat.le_of_ble_eq_true hk,hh⟩
     ·exact absurd rfl hj
    ·exact absurd rfl hj
   ·rename_i m x e
    rw[e]at hn
    simp only[VR]at hn
    split at hj
    ·rename_i hk
     have hk:=Nat.eq_of_beq_eq_true hk
     refine⟨.agg (zco m x),by simp[VR],fun C rs acc hh=>?_⟩
     simp only[zhy,evK,zrP,hn]
     have e1:(zco m x).take k=zco m x:=by rw[hk,<-zbv m x,List.take_length]
     rw[e1]
     exact⟨by rw[zbv,hk];exact Nat.le_refl _,hh⟩
    ·exact absurd rfl hj
   ·rename_i cs e
    rw[e]at hn
    simp only[VR]at hn
    obtain⟨as,h1,g2⟩:=hn
    split at hj
    ·rename_i hk
     refine⟨.agg (as.take k),?_,fun C rs acc hh=>?_⟩
     ·simp only[VR];exact⟨_,rfl,g2.take k⟩
     ·simp only[zhy,evK,zrP,h1]
      exact⟨by rw[g2.len];exact Nat.le_of_ble_eq_true hk,hh⟩
    ·exact absurd rfl hj
   ·exact absurd rfl hj
theorem zhb(h:TR J T st):∀(rs:List RV),(∀rv∈rs,zci T rv≠.junk)->∃as,VRL J T.mem (rs.map (zci T)) as/\∀(C:Ctx) acc,C.R (ziS (acc.reverse++as)) st.mem->zhy C rs acc st
 | [],_=>⟨[],by simp[VRL],fun C acc hh=>by simpa[zhy]using hh⟩
 | rv:: rs,hj=>by
  obtain⟨a,g1,g2⟩:=zpt h rv (hj rv (by simp))
  obtain⟨as,g3,g4⟩:=zhb h rs fun rv' hr=>hj rv' (by simp[hr])
  exact⟨a:: as,.cons g1 g3,fun C acc hh=>g2 C rs acc (g4 C (a:: acc) (by simpa using hh))⟩
theorem zqp{vs:List V}{as:List AV}(h:VRL J T.mem vs as):VR J T.mem (zkd vs) (ziS as):=by
 match vs,as,h with
 | [],as,h=>simp only[VRL]at h;subst h;simp[zkd,ziS,VR,VRL]
 | [v],as,h =>
  simp only[VRL]at h
  obtain⟨a,_,rfl,h1,rfl⟩:=h
  exact h1
 | v:: v':: vs,as,h =>
  have hl:=h.len
  match as,hl with
  | a:: a':: as,_=>simp only[zkd,ziS,VR];exact⟨_,rfl,h⟩
theorem zmR{s:Sh}{vs:List V}{d:Dat s}(hs:s.pur=true)(h:zcm s (zkd vs)=some d):∀v∈vs,v≠.junk:=by
 match vs,h with
 | [],_=>intro v hv;simp at hv
 | [v],h =>
  intro v' hv e
  simp at hv;subst hv;subst e
  rw[show zkd [V.junk]=.junk from rfl,zjE s hs]at h;cases h
 | v1:: v2:: vs,h =>
  have key:∀(ss:List Sh)(vs:List V)(d:DatL ss),Sh.purL ss=true->zbn ss vs=some d->∀v∈vs,v≠.junk:=by
   intro ss
   induction ss with
   | nil=>intro vs d _ h;cases vs<;>simp[zbn]at h;intro v hv;simp at hv
   | cons s ss ih =>
    intro vs d hp h
    cases vs with
    | nil=>simp[zbn]at h
    | cons v vs =>
     simp only[Sh.purL,yhb]at hp
     simp only[zbn,ygc]at h
     obtain⟨x,h1,y,h2,_⟩:=h
     intro v' hv e
     rcases List.mem_cons.1 hv with rfl|hv
     ·subst e;rw[zjE s hp.1]at h1;cases h1
     ·exact ih vs y hp.2 h2 v' hv e
  rw[show zkd (v1:: v2:: vs)=.tup (v1:: v2:: vs)from rfl]at h
  cases s with
  | tup ss=>exact key ss _ d (by simpa[Sh.pur]using hs) h
  | no=>simp[Sh.pur]at hs
  | lst t=>simp[zcm,V.toL]at h
  | st n=>simp[zcm,V.to]at h
  | _=>simp[zcm]at h
end
theorem Spec.imp{P:Program}{f:FuncId}{args:List AV}{r:AV}(h:Spec P f args [] (fun r' _=>Imp r' r))(hr:r.pure=true):Spec P f args [] (fun r' m'=>r'=r/\m'=[]):=
 ⟨h.1,fun H F U cargs w hs hl ha=>(h.2 H F U cargs w hs hl ha).mono fun _ _ ⟨v,r',m',H',β',h1,h2,h3,h4,h5,h6,h7⟩=>by
  refine⟨v,r,[],H',[],h1,⟨rfl,rfl⟩,(h2 _ _ _ h3).pure hr _,?_,h5,fun i hi=>by simp at hi,by simp⟩
  have:=Sat.drop (mem:=[]) (rest:=m') (by simpa using h4) (by simp)
  simpa using this⟩
theorem zgC:∀(l:List V)(n:Nat),(zcL n l).map (fun p=>p.2)=l
 | [],_=>rfl
 | v:: l,n=>by simp[zcL,zgC l (n+1)]
theorem zmO(ash:List Sh)(d:DatL (ash++([]:List RK).map RK.sh)):zj1 ash [] [] d=zbX ash [] d:=by
 simp only[zj1,zbX,List.take_nil,mvRs,zgC]
theorem zpc{P:Program}{Φ:List TE}{tys:List (Nat×An)}{f:FuncId}{c:CC}{np:Nat}{rs:List RV}{ash:List Sh}{rsh:Sh}{d:DatL (ash++[].map RK.sh)}{r:DatL (rsh:: [].map RK.sh)}
  (hf:FnOk P f c np rs)(hn:ash.length=np)(hΦ:∀e∈Φ,EOk P e)(ha:Sh.purL ash=true)(hr:rsh.pur=true)(h:zbe Φ tys c rs ash [] rsh [] d=some r):
  PS P f (encPL (mkVL (ash++[].map RK.sh) d)) (encP ((mkVL (rsh:: [].map RK.sh) r).headD .junk)):=by
 letI pin0:Pin:={nin:=0,ini:=[],len:=rfl}
 obtain⟨fn,h1,h2⟩:=hf.fn
 unfold chkF at h2
 simp only[yhb,yhc]at h2
 obtain⟨⟨⟨h3,h4⟩,h5⟩,h6⟩:=h2
 have hb:fn.body=some (zje fn):=by
  unfold zje
  cases hfb:fn.body with
  | none=>rw[hfb]at h3;cases h3
  | some c=>rfl
 have hap:V.purL (mkVL (ash++[].map RK.sh) d)=true:=zei _ d (by simpa using ha)
 have hal:(encPL (mkVL (ash++[].map RK.sh) d)).length=np:=by rw[zjp,zcu];simpa using hn
 have hrv:((mkVL (rsh:: [].map RK.sh) r).headD .junk).pur=true:=ziC rsh (DP.g1 rsh.hasD (Sh.hasDL ([].map RK.sh)) (df rsh) r) hr
 have hrpure:(encP ((mkVL (rsh:: [].map RK.sh) r).headD .junk)).pure=true:=VR.pur (J:=id) (mem:=[]) (zfN _ hrv) hrv
 refine⟨VRL.pur (J:=id) (mem:=[]) (zdc _ hap) hap,hrpure,Spec.imp (Spec.of_AW h1 hf.call hb h4 (by rw[hal];exact h6) (fun _ _ _=>Nat.zero_le _) ?_) hrpure⟩
 have hst:TR id (zbX ash [] d) ⟨zcK 0 (encPL (mkVL (ash++[].map RK.sh) d)),[]⟩:=by
  have e1:(mkVL (ash++[].map RK.sh) d).take ash.length=mkVL (ash++[].map RK.sh) d:=List.take_of_length_le (by rw[zcu];simp)
  refine⟨fun n=>?_,fun r b cs hh=>?_,fun r b cs hh=>?_,fun r r' x x' hh=>?_,⟨fun _=>[],fun r t xs w hh=>?_,fun _ _=>rfl,fun _=>List.nodup_nil,fun _ _ _ i hi=>(by simp at hi),fun _ _ _ _ _ hi=>(by simp at hi)⟩,fun j hj=>absurd hj (Nat.not_lt_zero j)⟩
  ·simp only[zbX,e1]
   exact(ze5 (J:=id) _ _ 0 (zdc _ hap)).look n
  all_goals simp[zbX,zdX]at hh
 have fin:∀(C:Ctx) T' ρ' st',C.R=(fun r' _=>Imp r' (encP ((mkVL (rsh:: [].map RK.sh) r).headD .junk)))->TR ρ' T' st'->zrE rs rsh [] T'=some r->∃st1,Gh st' st1/\zhy C rs [] st1:=by
  intro C T' ρ' st' hC h' hfin
  simp only[zrE,zeN]at hfin
  obtain⟨st1,g1,g2⟩:=zgY (zdz 0 T'.mem.length) h'
  simp only[zbn,ygc]at hfin
  obtain⟨x,x1,y,y1,y2⟩:=hfin
  have hjunk:∀rv∈rs,zci (fzO (zdz 0 T'.mem.length) T') rv≠.junk:=fun rv hrv=>zmR hr x1 _ (List.mem_map.2 ⟨rv,hrv,rfl⟩)
  obtain⟨as,q1,q2⟩:=zhb g2 rs hjunk
  obtain⟨a',z1,z2,_⟩:=zkD rsh _ x _ x1 (zqp q1)
  refine⟨st1,g1,q2 C [] ?_⟩
  rw[hC]
  simp only[List.reverse_nil,List.nil_append]
  cases y2
  rw[zg8,List.headD_cons,<-zkf z1 (ziC rsh x hr)]
  exact z2.1
 unfold zbe at h
 rw[zmO]at h
 refine zav (C:=⟨P,fn,(([]:List Ent)).length,_⟩) hf.mix hΦ c _ _ [] _ _ r [] id _ hst h (fun id Z hl=>by simp[zf0]at hl) (fun T' ρ' st' k' h' hκ=>?_) (fun T' ρ' st' h' _ hκ=>?_)
 ·obtain⟨st1,g1,g2⟩:=fin ⟨P,fn,(([]:List Ent)).length,_⟩ T' ρ' st' rfl h' hκ
  exact g1.2 _ _ (AW.ret h5 g2)
 ·obtain⟨st1,g1,g2⟩:=fin ⟨P,fn,(([]:List Ent)).length,_⟩ T' ρ' st' rfl h' hκ
  exact g1.2 _ _ (AW.fall h5 g2)
end Go.Fw
namespace Go.Fw
open Go
theorem Sat.pull{H:Hp}{F:Fr}{U:Bt}{m mC:List Ent}{w:World}{g:Nat->Nat}(hs:Sat H F U m w)(hent:∀(i:Nat)(e:Ent),mC[i]? =some e->e.live=true->m[g i]? =some (e.ren g))(hbel:∀e∈mC,e.bel mC.length)
  (hinj:∀(i i':Nat)(e e':Ent),mC[i]? =some e->e.live=true->mC[i']? =some e'->e'.live=true->g i=g i'->i=i'):
  Sat H F ((List.range mC.length).map fun i=>(U[g i]?).getD none) mC w/\∀(i:Nat) y,i<mC.length->U[g i]? =some y->((List.range mC.length).map fun i=>(U[g i]?).getD none)[i]? =some y:=by
 have hβ:∀(i:Nat) y,i<mC.length->U[g i]? =some y->((List.range mC.length).map fun i=>(U[g i]?).getD none)[i]? =some y:=fun i y hi hy=>by
  simp[hi,hy]
 have back:∀(i:Nat)(e:Ent),mC[i]? =some e->e.live=true->∀x,((List.range mC.length).map fun i=>(U[g i]?).getD none)[i]? =some x->U[g i]? =some x:=fun i e hi he x hx=>by
  have h1:=hent i e hi he
  have h2:g i<U.length:=by rw[hs.hl];exact(yga.1 h1).1
  have h3:U[g i]? =some U[g i]:=ygb h2
  have:=hβ i _ (yga.1 hi).1 h3
  rw[this]at hx;rw[h3];exact hx
 refine⟨{hH:=hs.hH,hF:=hs.hF,sm:=hs.sm,hl:=by simp,ent:=fun i e x hi hx=>?_,apart:=fun i e x hi he hx=>?_,inj:=fun i i' e e' x y hi he hi' he' hx hy hxy=>?_},hβ⟩
 ·cases hl:e.live with
  | false=>cases e<;>simp[Ent.live]at hl;trivial
  | true=>exact(hs.ent _ _ x (hent i e hi hl) (back i e hi hl x hx)).unren (hbel e (ygd hi)) hβ
 ·exact hs.apart _ _ x (hent i e hi he) (by rw[Ent.live_ren];exact he) (back i e hi he _ hx)
 ·exact hinj i i' e e' hi he hi' he' (hs.inj _ _ _ _ x y (hent i e hi he) (by rw[Ent.live_ren];exact he) (hent i' e' hi' he') (by rw[Ent.live_ren];exact he') (back i e hi he _ hx) (back i' e' hi' he' _ hy) hxy)
theorem Spec.post{P:Program}{f:FuncId}{args:List AV}{mem:List Ent}{R R2:AV->List Ent->Prop}(h:Spec P f args mem R)
  (hp:∀(F:Fr)(H':Hp)(U β':Bt) r m v w',R r m->Sat H' F β' m w'->Rep H' β' r v->zo0 mem.length U β'->U.length=mem.length->mem.length<=m.length->
   ∃r2 m2 β2,R2 r2 m2/\Rep H' β2 r2 v/\Sat H' F β2 m2 w'/\zo0 mem.length U β2/\mem.length<=m2.length):Spec P f args mem R2:=
 ⟨h.1,fun H F U cargs w hs hl ha=>(h.2 H F U cargs w hs hl ha).mono fun _ _ ⟨v,r,m',H',β',h1,h2,h3,h4,h5,h6,h7⟩=>by
  obtain⟨r2,m2,β2,q1,q2,q3,q4,q5⟩:=hp F H' U β' r m' v _ h2 h4 h3 h6 hs.hl h7
  exact⟨v,r2,m2,H',β2,h1,q1,q2,q3,h5,q4,q5⟩⟩
theorem AW.len{C:Ctx}{k:List CItem}{st:St}(h:C.n0<=st.mem.length->AW C k st):AW C k st:=
 fun H F U a w b cs todo hm hr hn=>h hn H F U a w b cs todo hm hr hn
theorem zhV:∀(s:Sh),s≠.no->zcm s .junk=none:=by
 intro s h
 cases s<;>first|exact absurd rfl h|simp[zcm,V.toL,V.to]
theorem zqm{rk:List RK}{s:Sh}(h:s.sol rk=true):s≠.no:=by rintro rfl;simp[Sh.sol]at h
theorem zpw{f:Nat->Nat}{v:V}:v.ren f=.junk↔v=.junk:=by cases v<;>simp[V.ren]
theorem zgl{rk:List RK}:∀(ss:List Sh)(vs:List V)(d:DatL ss),Sh.solL rk ss=true->zbn ss vs=some d->∀v∈vs,v≠.junk
 | [],vs,d,_,h=>by cases vs<;>simp[zbn]at h;intro v hv;simp at hv
 | s:: ss,[],d,hp,h=>by simp[zbn]at h
 | s:: ss,v:: vs,d,hp,h=>by
  simp only[Sh.solL,yhb]at hp
  simp only[zbn,ygc]at h
  obtain⟨x,h1,y,h2,_⟩:=h
  intro v' hv e
  rcases List.mem_cons.1 hv with rfl|hv
  ·subst e;rw[zhV s (zqm hp.1)]at h1;cases h1
  ·exact zgl ss vs y hp.2 h2 v' hv e
theorem zk1{rk:List RK}{s:Sh}{f:Nat->Nat}{vs:List V}{d:Dat s}(hs:s.sol rk=true)(h:zcm s ((zkd vs).ren f)=some d):∀v∈vs,v≠.junk:=by
 match vs,h with
 | [],_=>intro v hv;simp at hv
 | [v],h =>
  intro v' hv e
  simp at hv;subst hv;subst e
  rw[show zkd [V.junk]=.junk from rfl,show V.ren f .junk=.junk from rfl,zhV s (zqm hs)]at h;cases h
 | v1:: v2:: vs,h =>
  rw[show(zkd (v1:: v2:: vs)).ren f=.tup (V.renL f (v1:: v2:: vs))from rfl]at h
  cases s with
  | tup ss =>
   have:=zgl ss _ d (by simpa[Sh.sol]using hs) h
   intro v hv e
   have key:∀(l:List V),v∈l->v.ren f∈V.renL f l:=by
    intro l
    induction l with
    | nil=>intro h;simp at h
    | cons a l ih =>
     intro h
     simp only[V.renL]
     rcases List.mem_cons.1 h with rfl|h
     ·simp
     ·simp[ih h]
   exact this _ (key _ hv) (zpw.2 e)
  | no=>simp[Sh.sol]at hs
  | lst t=>simp[zcm,V.toL]at h
  | st n=>simp[zcm,V.to]at h
  | _=>simp[zcm]at h
section
variable [Pin]
mutual
theorem VR.rn{J ρ':Nat->Nat}{mem mem':List Root}{f:Nat->Nat}(hf:∀(r:Nat) x,mem[r]? =some x->mem'[f r]? =some (x.ren f)/\(x.alive=true->ρ' (f r)=J r)):∀(v:V)(a:AV),VR J mem v a->VR ρ' mem' (v.ren f) a
 | .own r,a,h=>by
  simp only[V.ren,VR,zet]at h|-
  cases e:mem[r]? with
  | none=>rw[e]at h;exact h.elim
  | some x =>
   rw[e]at h
   obtain⟨h1,h2⟩:=hf r x e
   rw[h1]
   cases x with
   | dead=>exact h
   | arr t xs w=>simp only[Root.ren]at h|-;rw[h2 rfl];exact h
   | box b cs=>exact h
 | .part r off len,a,h=>by
  simp only[V.ren,VR,zeQ]at h|-
  cases e:mem[r]? with
  | none=>rw[e]at h;exact h.elim
  | some x =>
   rw[e]at h
   obtain⟨h1,h2⟩:=hf r x e
   rw[h1]
   cases x with
   | dead=>exact h
   | arr t xs w=>simp only[Root.ren]at h|-;rw[h2 rfl];exact h
   | box b cs=>exact h
 | .mp r row off,a,h=>by
  simp only[V.ren,VR,mpR]at h|-
  cases e:mem[r]? with
  | none=>rw[e]at h;exact h.elim
  | some x =>
   rw[e]at h
   obtain⟨h1,h2⟩:=hf r x e
   rw[h1]
   cases x with
   | dead=>exact h
   | arr t xs w=>simp only[Root.ren]at h|-;rw[h2 rfl];exact h
   | box b cs=>simp only[Root.ren]at h|-;rw[h2 rfl];exact h
 | .agg cs,a,h|.tup cs,a,h|.ip cs,a,h|.fn _ cs,a,h=>by
  simp only[V.ren,VR]at h|-
  obtain⟨as,rfl,h⟩:=h
  exact⟨as,rfl,VRL.rn hf cs as h⟩
 | .junk,_,h|.int _ _,_,h|.bool _,_,h|.str _,_,h|.lst _ _,_,h|.nl _,_,h|.e0,_,h|.st _ _,_,h|.ep _ _,_,h|.nilp,_,h|.nilf,_,h=>by
  simpa[V.ren,VR]using h
theorem VRL.rn{J ρ':Nat->Nat}{mem mem':List Root}{f:Nat->Nat}(hf:∀(r:Nat) x,mem[r]? =some x->mem'[f r]? =some (x.ren f)/\(x.alive=true->ρ' (f r)=J r)):∀(cs:List V)(as:List AV),VRL J mem cs as->VRL ρ' mem' (V.renL f cs) as
 | [],as,h=>by simpa[V.renL,VRL]using h
 | c:: cs,as,h=>by
  simp only[VRL]at h
  obtain⟨a,as',rfl,h1,h2⟩:=h
  simp only[V.renL]
  exact .cons (VR.rn hf c a h1) (VRL.rn hf cs as' h2)
end
theorem zjF:∀{mem:List Root}{r:Nat}{t:Ty}{xs:List (TV t)}{w:Ow},zhB mem=false->mem[r]? =some (.arr t xs w)->w.shut=true
 | [],r,t,xs,w,_,h=>by simp at h
 | x:: mem,0,t,xs,w,hn,h=>by
  simp at h;subst h
  cases w<;>simp[zhB]at hn|-<;>rfl
 | x:: mem,r+1,t,xs,w,hn,h=>by
  refine zjF (mem:=mem) (r:=r) ?_ (by simpa using h)
  cases x with
  | dead=>exact hn
  | arr _ _ w'=>cases w'<;>simp[zhB]at hn|-<;>exact hn
  | box _ _=>exact hn
theorem TR.mvR{J:Nat->Nat}{v:V}{a:AV}{mem:List Root}{m:List Ent}(j:Nat)(h:TR J ⟨[(0,v)],mem⟩ ⟨[(0,a)],m⟩):∃ρ',TR ρ' ⟨[(0,(Go.Fw.mvR j v mem).1)],(Go.Fw.mvR j v mem).2⟩ ⟨[(0,a)],m⟩:=by
 unfold Go.Fw.mvR
 split
 ·exact⟨J,h⟩
 ·exact⟨J,h⟩
 ·rename_i x hnd hx
  split
  ·exact⟨J,h⟩
  ·rename_i hop
   have hjl:=(yga.1 hx).1
   have hxa:x.alive=true:=by
    cases x with
    | dead=>exact absurd rfl hnd
    | arr _ _ _=>rfl
    | box _ _=>rfl
   let f:=rnm j mem.length
   let mem':=(mem.set j .dead++[x]).map (Root.ren f)
   let ρ':Nat->Nat:=fun r=>if r=mem.length then J j else J r
   have fj:f j=mem.length:=by simp only[f,rnm,Nat.beq_refl]
   have fne:∀r,r≠j->f r=r:=fun r hr=>by
    simp only[f,rnm]
    cases e:Nat.beq r j with
    | true=>exact absurd (Nat.eq_of_beq_eq_true e) hr
    | false=>rfl
   have hf:∀(r:Nat) y,mem[r]? =some y->mem'[f r]? =some (y.ren f)/\(y.alive=true->ρ' (f r)=J r):=by
    intro r y hy
    have hrl:=(yga.1 hy).1
    by_cases e:r=j
    ·subst e
     rw[hx]at hy;cases hy
     rw[fj]
     exact⟨by simp[mem',ygf],fun _=>by simp only[ρ',if_pos rfl]⟩
    ·rw[fne r e]
     refine⟨?_,fun _=>by simp only[ρ'];rw[if_neg (by omega)]⟩
     simp only[mem',List.getElem?_map]
     rw[yge (by simpa using hrl),ygg (fun h=>e h.symm),hy];rfl
   have back:∀(r:Nat) z,mem'[r]? =some z->z.alive=true->∃q y,mem[q]? =some y/\y.alive=true/\r=f q/\z=y.ren f/\ρ' r=J q:=by
    intro r z hz ha
    simp only[mem',List.getElem?_map,Option.map_eq_some_iff]at hz
    obtain⟨y,hy,rfl⟩:=hz
    by_cases hr:r<mem.length
    ·rw[yge (by simpa using hr)]at hy
     by_cases e:r=j
     ·subst e;simp[hjl]at hy;subst hy;cases ha
     ·rw[ygg (fun h=>e h.symm)]at hy
      refine⟨r,y,hy,?_,(fne r e).symm,rfl,by simp only[ρ'];rw[if_neg (by omega)]⟩
      cases y<;>first|exact ha|rfl
    ·rw[ygf (by simp;omega)]at hy
     have hrl:r=mem.length:=by
      have:=(yga.1 hy).1
      simp at this;omega
     subst hrl
     simp at hy;subst hy
     exact⟨j,x,hx,hxa,fj.symm,rfl,by simp only[ρ',if_pos rfl]⟩
   have finj:∀q q',q<mem.length->q'<mem.length->f q=f q'->q=q':=by
    intro q q' hq hq' e
    by_cases a:q=j<;>by_cases b:q'=j
    ·rw[a,b]
    ·subst a;rw[fj,fne q' b]at e;omega
    ·subst b;rw[fj,fne q a]at e;omega
    ·rw[fne q a,fne q' b]at e;exact e
   obtain⟨fp,how⟩:=h.ow
   refine⟨ρ',fun n=>?_,fun r b cs hr=>?_,fun r b cs hr=>?_,fun r r' y y' hr hy hr' hy' e=>?_,⟨fun r=>if r=mem.length then fp j else if r=j then[]else fp r,fun r t xs w hr=>?_,fun r hr=>?_,fun r=>?_,fun r r' hne i hi hi'=>?_,fun r r' y hr hy hi=>?_⟩,fun k hk=>?_⟩
   ·have:=h.env n
    simp only[lookV,look]at this|-
    cases e:Nat.beq 0 n with
    | true =>
     rw[e,if_pos (Nat.eq_of_beq_eq_true e)]at this
     rw[if_pos (Nat.eq_of_beq_eq_true e)]
     exact VR.rn hf v a this
    | false=>rw[if_neg (Nat.ne_of_beq_eq_false e)];simp[VR]
   ·obtain⟨q,y,hq,hya,rfl,hz,hρ⟩:=back r _ hr rfl
    cases y with
    | dead=>cases hz
    | arr _ _ _=>cases hz
    | box b' cs' =>
     simp only[Root.ren]at hz
     cases hz
     obtain⟨as,g1,g2⟩:=h.box q b cs' hq
     refine⟨as,?_,VRL.rn hf _ _ g2⟩
     show m[ρ' (f q)]? =_
     rw[hρ,zdi];exact g1
   ·obtain⟨q,y,hq,hya,rfl,hz,hρ⟩:=back r _ hr rfl
    cases y with
    | dead=>cases hz
    | arr _ _ _=>cases hz
    | box b' cs' =>
     simp only[Root.ren]at hz
     cases hz
     exact ziJ f cs' (h.boxC q b cs' hq)
   ·obtain⟨q,z,hq,hza,rfl,_,hρ⟩:=back r _ hr hy
    obtain⟨q',z',hq',hza',rfl,_,hρ'⟩:=back r' _ hr' hy'
    rw[hρ,hρ']at e
    rw[h.inj q q' z z' hq hza hq' hza' e]
   ·obtain⟨q,y,hq,hya,hrq,hz,hρ⟩:=back r _ hr rfl
    cases y with
    | dead=>cases hz
    | box _ _=>cases hz
    | arr t' xs' w' =>
     cases hz
     have hql:=(yga.1 hq).1
     rw[hρ]
     have e:(if r=mem.length then fp j else if r=j then[]else fp r)=fp q:=by
      by_cases a:q=j
      ·subst a;rw[hrq,fj,if_pos rfl]
      ·rw[hrq,fne q a,if_neg (by omega),if_neg a]
     rw[e]
     exact(how.rel q t xs w hq).shut (zjF hop hq)
   ·split
    ·rename_i e
     subst e
     refine how.nil j fun t xs w he=>?_
     rw[hx]at he;cases he
     exact hr t xs w (by simp[mem',ygf,Root.ren])
    ·split
     ·rfl
     ·rename_i e1 e2
      refine how.nil r fun t xs w he=>?_
      have:=(hf r _ he).1
      rw[fne r e2]at this
      exact hr t xs w this
   ·split
    ·exact how.nd j
    ·split
     ·exact List.nodup_nil
     ·exact how.nd r
   ·have key:∀r i,i∈(if r=mem.length then fp j else if r=j then[]else fp r)->∃q,i∈fp q/\((r=mem.length/\q=j)\/(r≠mem.length/\r≠j/\q=r)):=by
     intro r i hi
     split at hi
     ·rename_i e;exact⟨j,hi,.inl ⟨e,rfl⟩⟩
     ·split at hi
      ·simp at hi
      ·rename_i e1 e2;exact⟨r,hi,.inr ⟨e1,e2,rfl⟩⟩
    obtain⟨q,q1,q2⟩:=key r i hi
    obtain⟨q',q1',q2'⟩:=key r' i hi'
    have hqq:q≠q':=by rintro rfl;omega
    exact how.dj q q' hqq i q1 q1'
   ·obtain⟨q,z,hq,hza,rfl,_,hρ⟩:=back r _ hr hy
    rw[hρ]at hi
    split at hi
    ·exact how.rt q j z hq hza hi
    ·split at hi
     ·simp at hi
     ·exact how.rt q r' z hq hza hi
   ·obtain⟨p1,p2⟩:=h.pin k hk
    have hkl:∃y,mem[k]? =some y:=by
     cases e:mem[k]? with
     | some y=>exact⟨y,rfl⟩
     | none =>
      have p2:KpA (Pin.ini[k]?) (mem[k]?):=p2
      rw[e]at p2
      cases hi:Pin.ini[k]? with
      | none=>rw[hi]at p2;exact p2.elim
      | some z=>rw[hi]at p2;cases z<;>simp[KpA]at p2
    obtain⟨y,hy⟩:=hkl
    have hkl:=(yga.1 hy).1
    have p2:KpA (Pin.ini[k]?) (mem[k]?):=p2
    show(∀x,mem'[k]? =some x->x.alive=true->ρ' k=k)/\KpA (Pin.ini[k]?) (mem'[k]?)
    by_cases e:k=j
    ·subst e
     have hd:mem'[k]? =some .dead:=by
      simp only[mem',List.getElem?_map]
      rw[yge (by simpa using hjl),List.getElem?_set_self hjl];rfl
     rw[hd]
     refine⟨fun x hx ha=>(by cases hx;cases ha),?_⟩
     revert p2
     cases Pin.ini[k]? with
     | none=>exact id
     | some z=>cases z with
      | dead=>intro _;rfl
      | arr _ _ _=>intro _;exact .inl rfl
      | box _ _=>intro _;exact .inl rfl
    ·have:=(hf k y hy).1
     rw[fne k e]at this
     rw[this]
     refine⟨fun x hx ha=>?_,?_⟩
     ·simp only[ρ'];rw[if_neg (by omega)]
      cases hx
      exact p1 y hy (by cases y<;>first|exact ha|rfl)
     ·rw[hy]at p2
      cases y with
      | dead=>exact p2
      | arr _ _ _=>exact p2
      | box b cs =>
       simp only[Root.ren]
       revert p2
       cases Pin.ini[k]? with
       | none=>exact id
       | some z=>cases z with
        | dead=>intro h;cases h
        | arr _ _ _=>intro h;rcases h with h|⟨_,_,h,_⟩<;>cases h
        | box _ _=>intro _;exact .inr ⟨_,_,rfl⟩
theorem TR.mvRs:∀(ks:List RK)(j:Nat){J:Nat->Nat}{v:V}{a:AV}{mem:List Root}{m:List Ent},TR J ⟨[(0,v)],mem⟩ ⟨[(0,a)],m⟩->∃ρ',TR ρ' ⟨[(0,(Go.Fw.mvRs j ks v mem).1)],(Go.Fw.mvRs j ks v mem).2⟩ ⟨[(0,a)],m⟩
 | [],j,J,v,a,mem,m,h=>⟨J,h⟩
 | .dead:: ks,j,J,v,a,mem,m,h=>by
  obtain⟨ρ1,h1⟩:=h.mvR j
  exact TR.mvRs ks (j+1) h1
 | .arr _ _:: ks,j,J,v,a,mem,m,h=>TR.mvRs ks (j+1) h
 | .box _ _:: ks,j,J,v,a,mem,m,h=>TR.mvRs ks (j+1) h
theorem zq4(j:Nat)(v:V)(mem:List Root):∃f,(Go.Fw.mvR j v mem).1=v.ren f\/(Go.Fw.mvR j v mem).1=v:=by
 unfold Go.Fw.mvR
 split
 ·exact⟨id,.inr rfl⟩
 ·exact⟨id,.inr rfl⟩
 ·split
  ·exact⟨id,.inr rfl⟩
  ·exact⟨_,.inl rfl⟩
mutual
theorem zkT(f g:Nat->Nat):∀v:V,(v.ren f).ren g=v.ren fun r=>g (f r)
 | .own _|.part ..|.mp ..=>rfl
 | .agg cs|.tup cs|.ip cs|.fn _ cs=>by simp only[V.ren];rw[zjV f g cs]
 | .junk|.int _ _|.bool _|.str _|.lst _ _|.nl _|.e0|.st _ _|.ep _ _|.nilp|.nilf=>rfl
theorem zjV(f g:Nat->Nat):∀cs:List V,V.renL g (V.renL f cs)=V.renL (fun r=>g (f r)) cs
 | []=>rfl
 | c:: cs=>by simp only[V.renL];rw[zkT f g c,zjV f g cs]
end
mutual
theorem zqd:∀v:V,v.ren id=v
 | .own _|.part ..|.mp ..=>rfl
 | .agg cs|.tup cs|.ip cs|.fn _ cs=>by simp only[V.ren];rw[zop cs]
 | .junk|.int _ _|.bool _|.str _|.lst _ _|.nl _|.e0|.st _ _|.ep _ _|.nilp|.nilf=>rfl
theorem zop:∀cs:List V,V.renL id cs=cs
 | []=>rfl
 | c:: cs=>by simp only[V.renL];rw[zqd c,zop cs]
end
theorem zfq:∀(ks:List RK)(j:Nat)(v:V)(mem:List Root),∃f,(Go.Fw.mvRs j ks v mem).1=v.ren f
 | [],j,v,mem=>⟨id,(zqd v).symm⟩
 | .dead:: ks,j,v,mem=>by
  obtain⟨f,hf⟩:=zq4 j v mem
  obtain⟨g,hg⟩:=zfq ks (j+1) (Go.Fw.mvR j v mem).1 (Go.Fw.mvR j v mem).2
  simp only[Go.Fw.mvRs]
  rcases hf with hf|hf
  ·exact⟨_,by rw[hg,hf,zkT]⟩
  ·exact⟨g,by rw[hg,hf]⟩
 | .arr _ _:: ks,j,v,mem=>zfq ks (j+1) v mem
 | .box _ _:: ks,j,v,mem=>zfq ks (j+1) v mem
theorem TR.end{J:Nat->Nat}{T:TS}{m:List Ent}{F0:Nat}{rv:V}{r' a':AV}{env':List (Nat×AV)}{H':Hp}{F:Fr}{U β':Bt}{w':World}{v:Value}(h:TR J T ⟨env',m⟩)(hok:OkRs T.mem)(hsol:rv.sol T.mem=true)(hv:VR J T.mem rv a')(himp:ImpC r' a')
  (hn1:Nin.nin<=T.mem.length)(hn2:Nin.nin<=F0)(hF:F0<=m.length)(hs:Sat H' F β' m w')(hr:Rep H' β' r' v)(hb:zo0 F0 U β')(hbl:U.length=F0):
  ∃β2,Rep H' β2 (encR (rhoC Nin.nin F0) T.mem rv) v/\Sat H' F β2 (endM Nin.nin F0 T.mem) w'/\zo0 F0 U β2/\F0<=(endM Nin.nin F0 T.mem).length:=by
 obtain⟨fp,how⟩:=h.ow
 let nin:=@Nin.nin Pin.toNin
 let B:=F0+(T.mem.length-nin)
 let g:Nat->Nat:=fun i=>if i<F0 then i else if i<B then J (i-F0+nin)else(zgW fp T.mem.length).getD (i-B) 0
 have hg1:∀(r:Nat) x,T.mem[r]? =some x->x.alive=true->g (rhoC nin F0 r)=J r:=by
  intro r x hx ha
  have hrl:=(yga.1 hx).1
  by_cases hrn:r<nin
  ·have e:rhoC nin F0 r=r:=by simp only[rhoC,if_pos hrn]
   rw[e]
   simp only[g]
   rw[if_pos (by omega)]
   exact((h.pin r hrn).1 x hx ha).symm
  ·have e:rhoC nin F0 r=F0+(r-nin):=by simp only[rhoC,if_neg hrn]
   rw[e]
   simp only[g]
   rw[if_neg (by omega),if_pos (by omega)]
   congr 1;omega
 have hg2:∀(k j:Nat),(zgW fp T.mem.length)[k]? =some j->g (F0+(T.mem.length-nin)+k)=j:=by
  intro k j hk
  simp only[g]
  rw[if_neg (by omega),if_neg (by omega),show F0+(T.mem.length-nin)+k-B=k by omega,List.getD_eq_getElem?_getD,hk];rfl
 obtain⟨act,feet,lens⟩:=zlq (nin:=nin) (F:=F0) hn1 hn2 hok how h.box hg1 hg2
 have owC:=zff (nin:=nin) (F:=F0) hn1 hn2 hok
 have hbel:=zlr (nin:=nin) (F:=F0) hn1 hn2 hok
 have hml:=zfg (nin:=nin) (F:=F0) hn1 hn2
 have kind:∀(i:Nat)(e:Ent),(endM nin F0 T.mem)[i]? =some e->e.live=true->(∃r x,T.mem[r]? =some x/\x.alive=true/\i=rhoC nin F0 r/\g i=J r)\/∃(r k j:Nat),(fpC nin F0 T.mem r)[k]? =some i/\(fp r)[k]? =some j/\g i=j:=by
  intro i e hi he
  rcases zec hn1 hn2 hi with⟨r,x,hx,rfl⟩|⟨rfl,_⟩|⟨k,rfl,hk⟩
  ·by_cases ha:x.alive=true
   ·exact .inl ⟨r,x,hx,ha,rfl,hg1 r x hx ha⟩
   ·exfalso
    rw[zbO hn1 hn2 (yga.1 hx).1]at hi
    obtain⟨k,q1,_⟩:=zaB (J:=rhoC nin F0) (mem:=T.mem) T.mem (F0+(T.mem.length-nin)) r x hx
    rw[q1]at hi;cases hi
    cases x<;>simp[Root.alive]at ha
    simp[zaz]at he
  ·simp at he
  ·have hkl:=(yga.1 hk).1
   have hm:F0+(T.mem.length-nin)+k∈(zag (rhoC nin F0) T.mem (F0+(T.mem.length-nin)) T.mem).2.2.flatten:=by
    rw[zaY,List.mem_range'_1];exact⟨Nat.le_add_right _ _,Nat.add_lt_add_left hkl _⟩
   obtain⟨a,ha,hia⟩:=List.mem_flatten.1 hm
   obtain⟨r,hra⟩:=List.getElem?_of_mem ha
   have hrl:r<T.mem.length:=by
    have:=(yga.1 hra).1
    rw[(zao T.mem _).2]at this;exact this
   have hfa:fpC nin F0 T.mem r=a:=by unfold fpC;rw[List.getD_eq_getElem?_getD,hra];rfl
   rw[<-hfa]at hia
   obtain⟨k',hk'⟩:=List.getElem?_of_mem hia
   have hk'l:=(yga.1 hk').1
   have hll:=lens r hrl
   have hj:(fp r)[k']? =some ((fp r)[k']'(by rw[<-hll];exact hk'l)):=ygb _
   exact .inr ⟨r,k',_,hk',hj,feet r k' _ _ hk' hj⟩
 obtain⟨s1,s2⟩:=hs.pull (mC:=endM nin F0 T.mem) (g:=g) act hbel (fun i i' e e' hi he hi' he' hgg=>by
  rcases kind i e hi he with⟨r,x,hx,ha,rfl,e1⟩|⟨r,k,j,k1,k2,e1⟩<;>rcases kind i' e' hi' he' with⟨r',x',hx',ha',rfl,e1'⟩|⟨r',k',j',k1',k2',e1'⟩
  ·rw[e1,e1']at hgg;rw[h.inj r r' x x' hx ha hx' ha' hgg]
  ·rw[e1,e1']at hgg;exact absurd (by rw[hgg];exact ygd k2') (how.rt r r' x hx ha)
  ·rw[e1,e1']at hgg;exact absurd (by rw[<-hgg];exact ygd k2) (how.rt r' r x' hx' ha')
  ·rw[e1,e1']at hgg
   subst hgg
   have hrr:r=r':=Classical.byContradiction fun hne=>how.dj r r' hne j (ygd k2) (ygd k2')
   subst hrr
   have:=zcS (fp r) (how.nd r) k k' j k2 k2'
   subst this
   rw[k1]at k1';exact Option.some.inj k1')
 refine⟨_,?_,s1,fun i hi=>?_,by rw[hml];omega⟩
 ·have ha':=VR.encR hsol hv
  have:(encR (rhoC nin F0) T.mem rv).ren g=encR J T.mem rv:=by
   rw[zlp g rv hsol]
   exact zhR (J:=fun r=>g (rhoC nin F0 r)) (ρ':=J) hg1 rv hsol
  refine Rep.unren (n:=(endM nin F0 T.mem).length) (fun i y hi hy=>s2 i y hi hy) _ v (zlo (fun r x hx ha=>?_) rv hsol) ?_
  ·have:=zkU hn1 hn2 (yga.1 hx).1
   rw[hml];exact Nat.lt_of_lt_of_le this (Nat.le_add_right _ _)
  ·rw[this,<-ha'];exact himp.1 _ _ _ hr
 ·have hgi:g i=i:=by simp only[g,if_pos hi]
  have hb':β'[i]? =some (β'[i]'(by rw[hs.hl];omega)):=ygb _
  have:=s2 i _ (by rw[hml];omega) (by rw[hgi];exact hb')
  rw[this,<-hb',hb i hi]
end
theorem KpA.refl{x:Option Root}(h:x≠none):KpA x x:=by
 cases x with
 | none=>exact absurd rfl h
 | some x=>cases x with
  | dead=>rfl
  | arr t xs w=>exact .inr ⟨xs,w,rfl,rfl⟩
  | box b cs=>exact .inr ⟨b,cs,rfl⟩
theorem zpd{P:Program}{Φ:List TE}{tys:List (Nat×An)}{f:FuncId}{c:CC}{np:Nat}{rs:List RV}{ash:List Sh}{rin:List RK}{rsh:Sh}{rout:List RK}{F:DatL (ash++rin.map RK.sh)->Option (DatL (rsh:: rout.map RK.sh))}
  (hf:FnOk P f c np rs)(hn:ash.length=np)(hΦ:∀e∈Φ,EOk P e)(hw:wfE ⟨f,ash,rin,rsh,rout,F⟩=true)(hne:zeN rout=false)(hF:∀d r,F d=some r->zbe Φ tys c rs ash rin rsh rout d=some r):TEok P ⟨f,ash,rin,rsh,rout,F⟩:=by
 refine⟨hw,fun d r hFr=>?_⟩
 have h:=hF d r hFr
 obtain⟨fn,h1,h2⟩:=hf.fn
 unfold chkF at h2
 simp only[yhb,yhc]at h2
 obtain⟨⟨⟨h3,h4⟩,h5⟩,h6⟩:=h2
 have hb:fn.body=some (zje fn):=by
  unfold zje
  cases hfb:fn.body with
  | none=>rw[hfb]at h3;cases h3
  | some c=>rfl
 let e:TE:=⟨f,ash,rin,rsh,rout,F⟩
 have hl0:(rinE e d).length=rin.length:=by
  letI p00:Pin:={nin:=0,ini:=[],len:=rfl}
  exact ziM (e:=e) d
 letI pin0:Pin:={nin:=rin.length,ini:=rinE e d,len:=hl0}
 obtain⟨w1,w2,w3,w4,w5,w6⟩:=zcl hw
 have okIn:=zos (e:=e) hw d
 have hlen2:(rinE e d).length=rin.length:=ziM (e:=e) d
 have hrho:rhoC rin.length rin.length=id:=by
  funext j
  simp only[rhoC,id];split<;>omega
 have owC:=zff (nin:=rin.length) (F:=rin.length) (Nat.le_of_eq hlen2.symm) (Nat.le_refl _) okIn
 rw[hrho]at owC
 have hin:inM e d=endM rin.length rin.length (rinE e d):=rfl
 have hargl:(argE e d).length=ash.length:=by simp[argE,zcu,e]
 have hst:TR id (zbX ash rin d) ⟨zcK 0 (encRL id (rinE e d) (argE e d)),inM e d⟩:=by
  refine⟨fun n=>?_,fun r b cs hr=>?_,fun r b cs hr=>okIn.cell r b cs hr,fun r r' x x' _ _ _ _ he=>he,⟨_,owC⟩,fun j hj=>⟨fun _ _ _=>rfl,KpA.refl fun hh=>?_⟩⟩
  ·exact(ze5 (J:=id) (mem:=rinE e d) _ _ 0 (zfb (argE e d) (zc2 hw d))).look n
  ·have hrl:=(yga.1 hr).1
   have:=zbO (nin:=rin.length) (F:=rin.length) (roots:=rinE e d) (Nat.le_of_eq hlen2.symm) (Nat.le_refl _) hrl
   obtain⟨k,q1,_⟩:=zaB (J:=rhoC rin.length rin.length) (mem:=rinE e d) (rinE e d) (rin.length+((rinE e d).length-rin.length)) r _ hr
   rw[q1]at this
   refine⟨encRL (rhoC rin.length rin.length) (rinE e d) cs,?_,?_⟩
   ·show(endM rin.length rin.length (rinE e d))[r]? =_
    rw[show rhoC rin.length rin.length r=r by rw[hrho];rfl]at this
    exact this
   ·rw[hrho];exact zfb cs (okIn.sol r b cs hr)
  ·have hh:(rinE e d)[j]? =none:=hh
   rw[List.getElem?_eq_none_iff]at hh
   have:j<rin.length:=hj
   omega
 have hstM:∃ρs,TR ρs (zj1 ash rin rout d) ⟨zcK 0 (encRL id (rinE e d) (argE e d)),inM e d⟩:=by
  have hv:VRL id (zbX ash rin d).mem ((zbX ash rin d).env.map fun p=>p.2) (encRL id (rinE e d) (argE e d)):=by
   have:(zbX ash rin d).env.map (fun p=>p.2)=argE e d:=zgC _ 0
   rw[this];exact zfb (argE e d) (zc2 hw d)
  have t0:TR id ⟨[(0,.tup ((zbX ash rin d).env.map fun p=>p.2))],(zbX ash rin d).mem⟩ ⟨[(0,.tup (encRL id (rinE e d) (argE e d)))],inM e d⟩:=⟨fun n=>by
   simp only[lookV,look]
   cases hb0:Nat.beq 0 n with
   | true=>rw[if_pos (Nat.eq_of_beq_eq_true hb0)];simp only[VR];exact⟨_,rfl,hv⟩
   | false=>rw[if_neg (Nat.ne_of_beq_eq_false hb0)];simp[VR],hst.box,hst.boxC,hst.inj,hst.ow,hst.pin⟩
  obtain⟨ρ1,t1⟩:=TR.mvRs (rout.take rin.length) 0 t0
  obtain⟨f0,hf0⟩:=zfq (rout.take rin.length) 0 (.tup ((zbX ash rin d).env.map fun p=>p.2)) (zbX ash rin d).mem
  unfold zj1
  simp only
  generalize Go.Fw.mvRs 0 (rout.take rin.length) (.tup ((zbX ash rin d).env.map fun p=>p.2)) (zbX ash rin d).mem=vm at *
  obtain⟨v',mem'⟩:=vm
  simp only at hf0 t1|-
  subst hf0
  simp only[V.ren]at t1|-
  have t2:=t1.env 0
  simp only[lookV,look,Nat.beq_refl,VR,if_true,AV.tup.injEq]at t2
  obtain⟨as',e1,t2⟩:=t2
  subst e1
  exact⟨ρ1,fun n=>(ze5 (J:=ρ1) (mem:=mem') _ _ 0 t2).look n,t1.box,t1.boxC,t1.inj,t1.ow,t1.pin⟩
 obtain⟨ρs,hstM⟩:=hstM
 let R0:AV->List Ent->Prop:=fun r' m'=>(inM e d).length<=m'.length/\∃a' ρ'' env',ImpC r' a'/\VR ρ'' (routE e r) (resE e r) a'/\TR ρ'' ⟨[],routE e r⟩ ⟨env',m'⟩
 have hspec:Spec P f (encRL id (rinE e d) (argE e d)) (inM e d) R0:=by
  refine Spec.of_AW h1 hf.call hb h4 (by rw[zjq,hargl,hn];exact h6) (fun _ _ hh=>hh.1) ?_
  have fin:∀(C:Ctx) T' ρ' st',C.n0=(inM e d).length->C.R=R0->TR ρ' T' st'->zrE rs rsh rout T'=some r->∃st1,Gh st' st1/\(C.n0<=st1.mem.length->zhy C rs [] st1):=by
   intro C T' ρ' st' hC0 hC h' hfin
   have main:∀T1 st1,TR ρ' T1 st1->zsI rsh rout (zkd (rs.map (zci T1))) T1.mem=some r->C.n0<=st1.mem.length->zhy C rs [] st1:=by
    intro T1 st1 t1 hg hlen
    unfold zsI at hg
    have hjunk:∀rv∈rs,zci T1 rv≠.junk:=by
     obtain⟨f0,hf0⟩:=zfq (rout.take Nin.nin) 0 (zkd (rs.map (zci T1))) T1.mem
     unfold Sig.get at hg
     simp only[List.map_cons,List.map_nil]at hg
     split at hg
     ·have hg':=hg
      simp only[lookV,Nat.beq_refl,List.cons_append,List.nil_append,V.renL,Sig.shs,zbn,ygc]at hg'
      obtain⟨x,x1,_⟩:=hg'
      rw[hf0,zkT]at x1
      intro rv hrv
      exact zk1 w3 x1 _ (List.mem_map.2 ⟨rv,hrv,rfl⟩)
     ·cases hg
    obtain⟨as,q1,q2⟩:=zhb t1 rs hjunk
    have hvr:=zqp q1
    have t20:TR ρ' ⟨[(0,zkd (rs.map (zci T1)))],T1.mem⟩ ⟨[(0,ziS as)],st1.mem⟩:=⟨fun n=>by
     simp only[lookV,look]
     cases hb0:Nat.beq 0 n with
     | true=>rw[if_pos (Nat.eq_of_beq_eq_true hb0)];exact hvr
     | false=>rw[if_neg (Nat.ne_of_beq_eq_false hb0)];simp[VR],t1.box,t1.boxC,t1.inj,t1.ow,t1.pin⟩
    obtain⟨ρ1,t2⟩:=TR.mvRs (rout.take Nin.nin) 0 t20
    obtain⟨st'',_,t3,e0,_,_,_,_,_,as',bs,q3,q4⟩:=zfV (cs:=[]) (cs':=[]) t2 hg rfl (fun _ _ _=>.nil) (by simp) _ rfl
    have hr0:mkVL (rsh:: rout.map RK.sh) r=resE e r:: (mkVL (rsh:: rout.map RK.sh) r).drop 1:=by simp[mkVL,resE,e]
    change VRL _ (routE e r) (mkVL (rsh:: rout.map RK.sh) r) as' at q3
    rw[hr0]at q3
    simp only[VRL]at q3
    obtain⟨a',as2,rfl,q5,_⟩:=q3
    have q6:ImpC (ziS as) a':=by
     cases q4 with
     | cons h _=>exact h
    refine q2 C [] ?_
    simp only[List.reverse_nil,List.nil_append]
    rw[hC]
    refine⟨by rw[<-hC0];exact hlen,a',_,st''.env,q6,q5,fun n=>by simp[lookV,VR],fun q b cs hq=>?_,t3.boxC,t3.inj,?_,t3.pin⟩
    ·have:=t3.box q b cs hq
     rw[e0]at this;exact this
    ·have:=t3.ow
     rw[e0]at this;exact this
   unfold zrE at hfin
   rw[hne]at hfin
   simp only at hfin
   split at hfin
   ·exact⟨st',.refl _,main T' st' h' hfin⟩
   ·obtain⟨st1,g1,g2⟩:=zgY _ h'
    exact⟨st1,g1,main _ st1 g2 hfin⟩
  refine zav (C:=⟨P,fn,(inM e d).length,R0⟩) hf.mix hΦ c _ _ [] _ _ r [] ρs _ hstM h (fun id Z hl=>by simp[zf0]at hl) (fun T' ρ' st' k' h' hκ=>?_) (fun T' ρ' st' h' _ hκ=>?_)
  ·obtain⟨st1,g1,g2⟩:=fin ⟨P,fn,(inM e d).length,R0⟩ T' ρ' st' rfl rfl h' hκ
   exact g1.2 _ _ (AW.len fun hl=>AW.ret h5 (g2 hl))
  ·obtain⟨st1,g1,g2⟩:=fin ⟨P,fn,(inM e d).length,R0⟩ T' ρ' st' rfl rfl h' hκ
   exact g1.2 _ _ (AW.len fun hl=>AW.fall h5 (g2 hl))
 refine hspec.post fun F1 H' U β' r' m v w' hR hs hr hb hbl hml=>?_
 obtain⟨_,a',ρ'',env',q1,q2,q3⟩:=hR
 have hRl:(routE e r).length=rout.length:=(zf8 (e:=e) r).1
 have hinl:rin.length<=(inM e d).length:=by
  rw[hin,zfg (Nat.le_of_eq hlen2.symm) (Nat.le_refl _)];omega
 obtain⟨β2,p1,p2,p3,p4⟩:=q3.end (F0:=(inM e d).length) ((zf8 (e:=e) r).ok w4) (ziL (e:=e) hw r) q2 q1 (by show rin.length<=(routE e r).length;rw[hRl];exact w5) hinl hml hs hr hb hbl
 exact⟨_,_,β2,⟨rfl,rfl⟩,p1,p2,p3,p4⟩
end Go.Fw
namespace Go.Fw
open Go
def zl5(P:Program):List TE->Prop
 | []=>True
 | e:: l=>EOk P e/\zl5 P l
theorem zl5.mem{P:Program}:∀{l:List TE},zl5 P l->∀e∈l,EOk P e
 | [],_,e,h=>by cases h
 | x:: l,h,e,he=>by
  rcases List.mem_cons.1 he with rfl|he
  ·exact h.1
  ·exact zl5.mem h.2 e he
theorem EOk.pure{P:Program}{Φ:List TE}{tys:List (Nat×An)}{f:FuncId}{c:CC}{np:Nat}{rs:List RV}{ash:List Sh}{rsh:Sh}{F:DatL (ash++[].map RK.sh)->Option (DatL (rsh:: [].map RK.sh))}
  (hf:FnOk P f c np rs)(hn:ash.length=np)(hΦ:zl5 P Φ)(ha:Sh.purL ash=true)(hr:rsh.pur=true)(hx:∀d,zbe Φ tys c rs ash [] rsh [] d=F d):EOk P ⟨f,ash,[],rsh,[],F⟩:=
 show PEok P _ from⟨rfl,rfl,ha,hr,fun d _ h=>zpc hf hn hΦ.mem ha hr ((hx d).trans h)⟩
theorem EOk.te{P:Program}{Φ:List TE}{tys:List (Nat×An)}{f:FuncId}{c:CC}{np:Nat}{rs:List RV}{ash:List Sh}{rin:List RK}{rsh:Sh}{rout:List RK}{F:DatL (ash++rin.map RK.sh)->Option (DatL (rsh:: rout.map RK.sh))}
  (hf:FnOk P f c np rs)(hn:ash.length=np)(hΦ:zl5 P Φ)(hw:wfE ⟨f,ash,rin,rsh,rout,F⟩=true)(hne:zeN rout=false)(hx:∀d,zbe Φ tys c rs ash rin rsh rout d=F d):EOk P ⟨f,ash,rin,rsh,rout,F⟩:=by
 have:=zpd hf hn hΦ.mem hw hne (fun d r h=>(hx d).trans h)
 unfold EOk
 simp only[hne,Bool.and_false]
 exact this
theorem EOk.zeroP{P:Program}{f:FuncId}{ash:List Sh}{rsh:Sh}{F:DatL (ash++[].map RK.sh)->Option (DatL (rsh:: [].map RK.sh))}
  (ha:Sh.purL ash=true)(hr:rsh.pur=true)(h:∀d,F d=none):EOk P ⟨f,ash,[],rsh,[],F⟩:=
 show PEok P _ from⟨rfl,rfl,ha,hr,fun d r h'=>by have h2:F d=some r:=h';rw[h d]at h2;cases h2⟩
theorem EOk.zeroT{P:Program}{f:FuncId}{ash:List Sh}{rin:List RK}{rsh:Sh}{rout:List RK}{F:DatL (ash++rin.map RK.sh)->Option (DatL (rsh:: rout.map RK.sh))}
  (hw:wfE ⟨f,ash,rin,rsh,rout,F⟩=true)(hne:zeN rout=false)(h:∀d,F d=none):EOk P ⟨f,ash,rin,rsh,rout,F⟩:=by
 unfold EOk
 simp only[hne,Bool.and_false]
 exact⟨hw,fun d r h'=>by have h2:F d=some r:=h';rw[h d]at h2;cases h2⟩
theorem EOk.limP{P:Program}{f:FuncId}{ash:List Sh}{rsh:Sh}{G:Nat->DatL (ash++[].map RK.sh)->Option (DatL (rsh:: [].map RK.sh))}
  (h:∀n,EOk P ⟨f,ash,[],rsh,[],G n⟩):EOk P ⟨f,ash,[],rsh,[],zo1 G⟩:=by
 have h0:PEok P _:=h 0
 refine show PEok P _ from⟨rfl,rfl,h0.ash,h0.rsh,fun d r h'=>?_⟩
 obtain⟨n,hn⟩:=zjM h'
 have hn':PEok P _:=h n
 exact hn'.ok d r hn
theorem EOk.limT{P:Program}{f:FuncId}{ash:List Sh}{rin:List RK}{rsh:Sh}{rout:List RK}{G:Nat->DatL (ash++rin.map RK.sh)->Option (DatL (rsh:: rout.map RK.sh))}
  (hne:zeN rout=false)(h:∀n,EOk P ⟨f,ash,rin,rsh,rout,G n⟩):EOk P ⟨f,ash,rin,rsh,rout,zo1 G⟩:=by
 unfold EOk at h|-
 simp only[hne,Bool.and_false]at h|-
 refine⟨(h 0).wf,fun d r h'=>?_⟩
 obtain⟨n,hn⟩:=zjM h'
 exact(h n).ok d r hn
end Go.Fw
namespace Go.Fw
open Go Go.RowKit
def zfl(W:World):Hp:=fun b=>W.heap[b]?
theorem PS.calls{P:Program}{f:FuncId}{args:List AV}{r:AV}(h:PS P f args r)(W:World)(cargs:Array Value)(hl:cargs.size=args.length)
  (ha:∀(i:Nat) v x,args[i]? =some v->cargs[i]? =some x->Rep (zfl W) [] v x):
  Calls P f cargs W fun e W'=>∃v,e=.returned v/\Below W.heap.size W W'/\∃H',Rep H' [] r v:=by
 have hs:Sat (zfl W) ⟨fun _=>none,W⟩ [] [] W:=
  {hH:=fun b o hb=>hb,hF:=(fun b o hb=>by cases hb),sm:=⟨rfl,rfl,rfl,Nat.le_refl _⟩,hl:=rfl,ent:=fun i e x hi=>by simp at hi,apart:=fun i e x hi=>by simp at hi,
   inj:=fun i j e e' x y hi=>by simp at hi}
 refine(h.sp.2 (zfl W) ⟨fun _=>none,W⟩ [] cargs W hs hl ha).mono fun e w' ⟨v,r',m',H',β',h1,⟨h2,_⟩,h3,h4,h5,_⟩=>?_
 subst h2
 refine⟨v,h1,⟨h4.sm.os,h4.sm.tape,h4.sm.output,h4.sm.size,fun k hk=>?_⟩,H',h3.pure h.pr _⟩
 have hb:zfl W k=some W.heap[k]:=by simp[zfl,hk]
 rw[h4.hH _ _ (h5.1 _ _ hb)]
 exact hb.symm
theorem zjQ:maxLen=BIG:=by unfold maxLen BIG;rfl
def CR'(W:World)(cs:List AV)(vs:List Value):Prop:=
 vs.length=cs.length/\(∀c∈cs,c.isCell=true)/\∀(i:Nat) c v,cs[i]? =some c->vs[i]? =some v->Rep (zfl W) [] c v
section
variable {H:Type}{enc:TypeId×Value->H}{P:Program}{W:World}{sp:Nat->Bool}{held:Bool}
def ze4(enc:TypeId×Value->H)(P:Program)(W:World)(sp:Nat->Bool)(held:Bool)(fuel:Nat)(t:TypeId){α:Type}(e:α->List AV):Prop:=
 ∀cs d ps,DataW.trod enc P W 0 sp held fuel t cs=some (d,ps)->∃x,CR' W (e x) cs
theorem CR'.one{c:AV}{v:Value}(hc:c.isCell=true)(h:Rep (zfl W) [] c v):CR' W [c] [v]:=
 ⟨rfl,by simpa using hc,fun i c' v' h1 h2=>by
  cases i with
  | zero=>simp at h1 h2;subst h1;subst h2;exact h
  | succ i=>simp at h1⟩
theorem zb5{t:TypeId}{α:Type}{e:α->List AV}:ze4 enc P W sp held 0 t e:=fun cs d ps h=>by simp[DataW.trod]at h
theorem zfs{t:TypeId}(ht:P.underlying t=some .string)(fuel:Nat):ze4 enc P W sp held fuel t zfO:=by
 intro cs d ps h
 cases fuel with
 | zero=>simp[DataW.trod]at h
 | succ fuel =>
  unfold DataW.trod at h
  rw[ht]at h
  match cs,h with
  | [.string s],h =>
   simp only[]at h
   split at h
   ·rename_i hs
    refine⟨s.data.toList,.one rfl ?_⟩
    have:(.string s:Value)=.string ⟨s.data.toList.toArray⟩:=by cases s;simp
    rw[this]
    exact .str (by rw[<-zjQ];simpa only[ByteArray.size,Array.length_toList]using hs)
   ·cases h
theorem zmF{t:TypeId}(ht:P.underlying t=some .bool)(fuel:Nat):ze4 enc P W sp held fuel t (fun b:Bool=>[.bool b]):=by
 intro cs d ps h
 cases fuel with
 | zero=>simp[DataW.trod]at h
 | succ fuel =>
  unfold DataW.trod at h
  rw[ht]at h
  match cs,h with
  | [.bool b],h=>exact⟨b,.one rfl .bool⟩
theorem zhd{t:TypeId}(ht:P.underlying t=some (.int .i64))(fuel:Nat):ze4 enc P W sp held fuel t zcn:=by
 intro cs d ps h
 cases fuel with
 | zero=>simp[DataW.trod]at h
 | succ fuel =>
  unfold DataW.trod at h
  rw[ht]at h
  match cs,h with
  | [.int k n],h =>
   simp only[]at h
   split at h
   ·rename_i hs
    obtain⟨rfl,hs⟩:=hs
    refine⟨n,.one rfl (.int ?_)⟩
    simpa[Lit.wf]using hs
   ·cases h
theorem zfo{α U:Type}{f:α->Option U}:∀{l:List α}{r:List U},l.mapM f=some r->r.length=l.length/\∀(i:Nat) x,l[i]? =some x->∃y,f x=some y/\r[i]? =some y
 | [],r,h=>by simp at h;subst h;simp
 | a:: l,r,h=>by
  simp only[List.mapM_cons,Option.bind_eq_bind,ygc,Option.pure_def,Option.some.injEq]at h
  obtain⟨y,hy,ys,hys,rfl⟩:=h
  obtain⟨g1,g2⟩:=zfo hys
  refine⟨by simp[g1],fun i x hi=>?_⟩
  cases i with
  | zero=>simp at hi;subst hi;exact⟨y,hy,rfl⟩
  | succ i=>simpa using g2 i x (by simpa using hi)
theorem zgj{α:Type}{p:Nat->α->Prop}:∀(n:Nat),(∀j,j<n->∃v,p j v)->∃vs:List α,vs.length=n/\∀(j:Nat) v,vs[j]? =some v->p j v
 | 0,_=>⟨[],rfl,fun j v h=>by simp at h⟩
 | n+1,h=>by
  obtain⟨vs,h1,h2⟩:=zgj n fun j hj=>h j (by omega)
  obtain⟨x,hx⟩:=h n (by omega)
  refine⟨vs++[x],by simp[h1],fun j v hj=>?_⟩
  rcases Nat.lt_trichotomy j n with hlt|rfl|hgt
  ·rw[yge (by omega)]at hj;exact h2 j v hj
  ·rw[ygf (by omega),h1]at hj
   simp at hj;subst hj;exact hx
  ·rw[List.getElem?_eq_none (by simp;omega)]at hj;cases hj
theorem zjg{a:Addr}{n:Nat}{vs:List Value}(h:W.cells? 0 a n=some vs):vs.length=n/\∀j,j<n->∃v,vs[j]? =some v/\W.cell? (a.add j)=some v:=by
 unfold World.cells? at h
 rw[if_pos (Nat.zero_le _)]at h
 obtain⟨g1,g2⟩:=zfo h
 refine⟨by simpa using g1,fun j hj=>?_⟩
 obtain⟨y,h1,h2⟩:=g2 j j (by simp[hj])
 exact⟨y,h2,h1⟩
theorem zhL{a:Addr}{v:Value}(h:W.cell? a=some v):a.spot=none/\∃c elem fz,W.heap[a.block]? =some (.cells c elem fz)/\c[a.off]? =some v:=by
 unfold World.cell? at h
 split at h
 ·rename_i c elem fz hb
  split at h
  ·cases h
  ·rename_i hs
   exact⟨by simpa using hs,c,elem,fz,hb,h⟩
 ·cases h
theorem zcj{t te:TypeId}{α:Type}{e:α->List AV}{es:Nat}(ht:P.underlying t=some (.slice te))(hes:P.cellsOf te=es)(hlen:∀x,(e x).length=es)(hpos:0<es)(fuel:Nat)
  (he:ze4 enc P W sp held fuel te e):ze4 enc P W sp held (fuel+1) t (fun xs:List α=>[.sl es (xs.map e)]):=by
 intro cs d ps h
 unfold DataW.trod at h
 rw[ht]at h
 match cs,h with
 | [.slice none 0 0],h =>
  exact⟨[],.one rfl (.sl 0 0 #[] (fun _ _=>undef) rfl (Nat.le_refl _) (Nat.zero_le _) (by simp) (by simp) (by simp) (by simp) (by simp))⟩
 | [.slice (some a) len cap],h =>
  simp only[hes]at h
  split at h
  ·rename_i hb
   rw[ygc]at h
   obtain⟨elems,h1,h2⟩:=h
   obtain⟨g1,g2⟩:=zfo h1
   have el:∀i,i<len->∃x vs,W.cells? 0 (a.add (i*es)) es=some vs/\CR' W (e x) vs:=by
    intro i hi
    obtain⟨y,hy,_⟩:=g2 i i (by simp[hi])
    rw[ygc]at hy
    obtain⟨vs,hv,hr⟩:=hy
    obtain⟨x,hx⟩:=he vs y.1 y.2 hr
    exact⟨x,vs,hv,hx⟩
   obtain⟨hb0,hlc,hcm⟩:=hb
   obtain⟨xs,x1,x2⟩:=zgj (p:=fun i x=>∃vs,W.cells? 0 (a.add (i*es)) es=some vs/\CR' W (e x) vs) len el
   refine⟨xs,.one rfl ?_⟩
   have hlenBIG:len<=BIG:=by rw[<-zjQ];omega
   by_cases h0:len=0
   ·subst h0
    obtain rfl:xs=[]:=List.length_eq_zero_iff.1 x1
    exact .sl 0 0 #[] (fun _ _=>undef) rfl (Nat.zero_le _) (Nat.zero_le _) (by simp) (by simp) (by simp) (by simp) (by simp)
   ·obtain⟨x0,vs0,c0,_⟩:=el 0 (by omega)
    obtain⟨_,cg⟩:=zjg c0
    obtain⟨v0,_,hc0⟩:=cg 0 hpos
    have ha0:(a.add (0*es)).add 0=a:=by simp[Addr.add]
    rw[ha0]at hc0
    obtain⟨hspot,c,elem,fz,hblk,_⟩:=zhL hc0
    obtain⟨b,o,sp'⟩:=a
    simp only at hspot hblk
    subst hspot
    have cell:∀i,i<len->∀x,xs[i]? =some x->∀j,j<es->∃v,c[o+i*es+j]? =some v/\∀cc,(e x)[j]? =some cc->Rep (zfl W) [] cc v:=by
     intro i hi x hx j hj
     obtain⟨vs,hv,hcr⟩:=x2 i x hx
     obtain⟨_,cg⟩:=zjg hv
     obtain⟨v,hvj,hcell⟩:=cg j hj
     rw[za3,za3]at hcell
     obtain⟨_,c',elem',fz',hb',hcv⟩:=zhL hcell
     simp only at hb' hcv
     rw[hblk]at hb'
     cases hb'
     exact⟨v,hcv,fun cc hcc=>hcr.2.2 j cc v hcc hvj⟩
    refine .sl b o c (fun i j=>c.getD (o+i*es+j) undef) (by simp[x1]) hlc hlenBIG (fun r hr=>?_) (fun _=>⟨rfl,elem,fz,hblk⟩) (fun i j hi hj=>?_) (fun r hr cc hcc=>?_) (fun i r j cc hi hj=>?_)
    ·obtain⟨x,_,rfl⟩:=List.mem_map.1 hr;exact hlen x
    ·simp only[List.length_map]at hi
     obtain⟨v,hv,_⟩:=cell i (by omega) xs[i] (ygb hi) j hj
     simp[hv]
    ·obtain⟨x,hx,rfl⟩:=List.mem_map.1 hr
     obtain⟨i,hi⟩:=List.getElem?_of_mem hx
     obtain⟨vs,_,hcr⟩:=x2 i x hi
     exact hcr.2.1 cc hcc
    ·rw[List.getElem?_map,Option.map_eq_some_iff]at hi
     obtain⟨x,hx,rfl⟩:=hi
     have hilt:=(yga.1 hx).1
     have hjlt:=(yga.1 hj).1
     rw[hlen]at hjlt
     obtain⟨v,hv,hrep⟩:=cell i (by omega) x hx j hjlt
     simp only[Array.getD_eq_getD_getElem?,hv,Option.getD_some]
     exact hrep cc hj
  ·cases h
def zfC(W:World)(cs:List Value):Nat->List (List AV)->Prop
 | _,[]=>True
 | o,p:: ps=>CR' W p ((cs.drop o).take p.length)/\zfC W cs (o+p.length) ps
theorem CR'.append{a b:List AV}{vs:List Value}(ha:CR' W a (vs.take a.length))(hb:CR' W b (vs.drop a.length)):CR' W (a++b) vs:=by
 obtain⟨a1,a2,a3⟩:=ha
 obtain⟨b1,b2,b3⟩:=hb
 simp only[List.length_take,List.length_drop]at a1 b1
 refine⟨by simp;omega,fun c hc=>?_,fun i c v hc hv=>?_⟩
 ·rcases List.mem_append.1 hc with h|h
  ·exact a2 c h
  ·exact b2 c h
 ·rcases Nat.lt_or_ge i a.length with h|h
  ·rw[yge h]at hc
   exact a3 i c v hc (by rw[List.getElem?_take,if_pos h];exact hv)
  ·rw[ygf h]at hc
   exact b3 (i-a.length) c v hc (by rw[List.getElem?_drop,show a.length+(i-a.length)=i by omega];exact hv)
theorem zfC.all{cs:List Value}:∀(ps:List (List AV))(o:Nat),zfC W cs o ps->cs.length=o+ps.flatten.length->CR' W ps.flatten (cs.drop o)
 | [],o,_,hl=>by
  simp only[List.flatten_nil,yht,Nat.add_zero]at hl|-
  rw[<-hl,List.drop_length]
  exact⟨rfl,by simp,fun i c v h=>by simp at h⟩
 | p:: ps,o,h,hl=>by
  simp only[List.flatten_cons,yhr]at hl|-
  refine CR'.append h.1 ?_
  rw[List.drop_drop]
  exact zfC.all ps (o+p.length) h.2 (by omega)
theorem zgq{t:TypeId}{fs:Array Go.Field}(ht:P.underlying t=some (.struct fs))(fuel:Nat){α:Type}{e:α->List AV}
  (h:∀cs,cs.length=P.cellsOf t->(∀(i:Nat) f,fs[i]? =some f->∃d ps,DataW.trod enc P W 0 sp held fuel f.type ((cs.drop f.offset).take (P.cellsOf f.type))=some (d,ps))->∃x,CR' W (e x) cs):
  ze4 enc P W sp held (fuel+1) t e:=by
 intro cs d ps hh
 unfold DataW.trod at hh
 rw[ht]at hh
 simp only[]at hh
 split at hh
 ·rename_i hl
  rw[Option.map_eq_some_iff]at hh
  obtain⟨ys,hy,_⟩:=hh
  obtain⟨_,g2⟩:=zfo hy
  refine h cs hl fun i f hf=>?_
  obtain⟨y,h1,_⟩:=g2 i f (by simpa using hf)
  exact⟨y.1,y.2,h1⟩
 ·cases hh
end
end Go.Fw
namespace Go.Fw
open Go Go.RowKit
theorem zgT(t:Ty)(xs:List (TV t)):endM 1 1 [.arr t xs .no]=[.arr t.sz (xs.map (zaf t))]:=by
 simp only[endM,zag,zaz,zoo]
 letI pin0:Pin:={nin:=0,ini:=[],len:=rfl}
 have h:=zdf (1+(1-1)) xs
 simp[h]
theorem znY{H:Hp}{F:Fr}{U:Bt}{mem:List Ent}{w:World}(h:Sat H F U mem w){i:Nat}{xs:List Int}{v:Value}{n:Nat}(hi:mem[i]? =some (.arr 1 (xs.map zcn)))(hn:xs.length=n)(hv:Rep H U (.ms i 1 0 n) v):
  (xs=[]/\∃a,v=.slice a 0 0)\/∃b cap capT cells elem,v=.slice (some ⟨b,0,none⟩) n cap/\n<=cap/\cap<=capT/\U[i]? =some (some (b,1,capT))/\w.heap[b]? =some (.cells cells elem (0,0))/\cells.size=capT/\
   (∀(j:Nat)(hj:j<xs.length),cells[j]? =some (.int .i64 xs[j]))/\∀x∈xs,IntKind.min .i64<=x/\x<=IntKind.max .i64:=by
 cases hv with
 | ms hβ hc hl hb =>
  rename_i b capT cap
  right
  obtain⟨h1,cells,elem,h2,h3,h4,h5,h6,h7,_⟩:=h.ent i _ _ hi hβ
  refine⟨b,cap,capT,cells,elem,by simp,hl,by omega,hβ,h2,by simpa using h3,fun j hj=>?_,fun x hx=>?_⟩
  ·obtain⟨x,hx,hr⟩:=h7 j (zcn xs[j]) 0 (.int .i64 xs[j]) (by simp[hj]) rfl
   cases hr
   simpa using hx
  ·obtain⟨j,hj,rfl⟩:=List.getElem_of_mem hx
   obtain⟨x,hx,hr⟩:=h7 j (zcn xs[j]) 0 (.int .i64 xs[j]) (by simp[hj]) rfl
   cases hr with
   | int h=>exact h
 | ms0 hβ=>exact .inl ⟨by simpa using hn,_,rfl⟩
open Go.Sort in
theorem zlW{w:World}{b:Nat}{cells:Array Value}{elem:TypeId}(h:w.heap[b]? =some (.cells cells elem (0,0)))(ys:List Int):
  (putRow (Value.int .i64) w b 0 ys.toArray).heap=(zgA w b (.cells (putCells (Value.int .i64) 0 ys.toArray cells) elem (0,0))).heap:=by
 have hb:b<w.heap.size:=zar h
 unfold putRow mapBlock zgA
 apply Array.ext_getElem?
 intro k
 simp only[Array.getElem?_modify,Array.getElem?_setIfInBounds]
 by_cases hk:b=k
 ·subst hk
  simp only[if_true,h,hb]
  rfl
 ·simp[hk]
open Go.Sort in
theorem zjW{H:Hp}{F:Fr}{U:Bt}{w:World}{xs ys:List Int}{b cap capT:Nat}{cells:Array Value}{elem:TypeId}(hs:Sat H F U [.arr 1 (xs.map zcn)] w)(h1:xs.length<=cap)(h2:cap<=capT)(h3:U[0]? =some (some (b,1,capT)))(h4:w.heap[b]? =some (.cells cells elem (0,0)))(h5:cells.size=capT)
  (hys:ys.length=xs.length)(hrg:∀y∈ys,IntKind.min .i64<=y/\y<=IntKind.max .i64)(n:Nat)(os:Array Obj):Sat H F U [.arr 1 (ys.map zcn)] (grow (putRow (Value.int .i64) (Sort.ahead w n) b 0 ys.toArray) os):=by
 have hcs:∀(j:Nat)(hj:j<ys.length),(putCells (Value.int .i64) 0 ys.toArray cells)[j]? =some (.int .i64 ys[j]):=fun j hj=>by
  have hjc:j<cells.size:=by omega
  unfold putCells
  simp[hjc,hj]
 have hr:=hs.rewrite (i:=0) (rows':=ys.map zcn) (cells:=putCells (Value.int .i64) 0 ys.toArray cells) (elem:=elem) rfl h3 (by simp[putCells,h5]) (by simp;omega) (fun r hr=>by
   obtain⟨y,_,rfl⟩:=List.mem_map.1 hr
   rfl) (fun r hr c hc=>by
   obtain⟨y,_,rfl⟩:=List.mem_map.1 hr
   obtain rfl:c=.int .i64 y:=by simpa[zcn]using hc
   rfl) (fun i r j c hi hj=>by
   obtain⟨y,hy,rfl⟩:∃y,ys[i]? =some y/\zcn y=r:=by simpa using hi
   obtain⟨hil,rfl⟩:=yga.1 hy
   have hj0:j=0:=by
    have:=(yga.1 hj).1
    simp[zcn]at this;exact this
   subst hj0
   obtain rfl:c=.int .i64 ys[i]:=by simpa[zcn]using hj.symm
   refine⟨_,by simpa using hcs i hil,.int ?_⟩
   exact hrg _ (ygh hil)) (by
   intro hne
   cases ys with
   | nil=>simp at hne
   | cons y ys =>
    refine zha (H:=H) (U:=U) fun v hv=>?_
    have:=hcs 0 (by simp)
    rw[hv]at this;cases this
    exact⟨.int .i64 y,rfl,.int (hrg y (by simp))⟩)
 have hh:∀k,k<w.heap.size->(grow (putRow (Value.int .i64) (Sort.ahead w n) b 0 ys.toArray) os).heap[k]? =(zgA w b (.cells (putCells (Value.int .i64) 0 ys.toArray cells) elem (0,0))).heap[k]?:=fun k hk=>by
  have hp:=zlW (w:=Sort.ahead w n) (b:=b) (cells:=cells) (elem:=elem) h4 ys
  have hsz:(zgA (Sort.ahead w n) b (.cells (putCells (Value.int .i64) 0 ys.toArray cells) elem (0,0))).heap.size=w.heap.size:=by simp[zgA,Sort.ahead]
  unfold grow
  dsimp only
  rw[hp,Array.getElem?_append_left (by rw[hsz];exact hk)]
  rfl
 refine hr.more (fun k hk=>hh k (by simpa[zgA]using hk)) ?_ ⟨rfl,rfl,rfl⟩
 have hp:=zlW (w:=Sort.ahead w n) (b:=b) (cells:=cells) (elem:=elem) h4 ys
 unfold grow
 dsimp only
 rw[hp]
 simp[zgA,Sort.ahead]
open Go.Sort in
theorem zoN{P:Program}{f:FuncId}(hcall:∀as w,(callFunc f as).run P w=.ok (.enter f as) w)
  (hsort:∀(blk off cap:Nat)(zs:List Int)(w:World),Holds (Value.int .i64) w blk off zs.toArray->blk<w.heap.size->zs.length<4611686018427387904->
   Calls P f #[.slice (some ⟨blk,off,none⟩) zs.length cap] w fun e w'=>e=.returned (.tuple #[])/\∃n os,w'=grow (putRow (Value.int .i64) (Sort.ahead w n) blk off (zs.mergeSort fun x y=>decide (x<=y)).toArray) os)
  (hnone:∀(p:Option Addr)(cap:Nat)(w:World),Calls P f #[.slice p 0 cap] w fun e w'=>e=.returned (.tuple #[])/\w'=w)
  (xs:List Int)(hx:xs.length<4611686018427387904):
  Spec P f [.ms 0 1 0 xs.length] [.arr 1 (xs.map zcn)] (fun r' m'=>r'=.tup []/\m'=[.arr 1 ((xs.mergeSort fun x y=>decide (x<=y)).map zcn)]):=by
 refine⟨hcall,fun H F U cargs w hs hl ha=>?_⟩
 obtain⟨v,rfl⟩:∃v,cargs= #[v]:=by
  rcases cargs with⟨l⟩
  match l,hl with
  | [v],_=>exact⟨v,rfl⟩
 have hv:=ha 0 _ v rfl rfl
 rcases znY hs rfl rfl hv with⟨rfl,a,rfl⟩|⟨b,cap,capT,cells,elem,rfl,h1,h2,h3,h4,h5,h6,h7⟩
 ·refine(hnone a 0 w).mono fun e w' ⟨he,hw⟩=>?_
  subst he hw
  exact⟨_,_,_,H,U,rfl,⟨rfl,rfl⟩,.tup rfl (fun i c v h=>by simp at h),by simpa using hs,.refl _ _,fun i hi=>rfl,by simp⟩
 ·have hb:=zar h4
  have hys:(xs.mergeSort fun x y=>decide (x<=y)).length=xs.length:=List.length_mergeSort _
  refine(hsort b 0 cap xs w (fun j hj=>?_) hb hx).mono fun e w' ⟨he,n,os,hw⟩=>?_
  ·have hj':j<xs.length:=by simpa using hj
   refine⟨?_,?_⟩
   ·simp[World.cell?,h4,h6 j hj',hj']
   ·simp[World.frozen?,h4]
  have hrg:∀y∈xs.mergeSort (fun x y=>decide (x<=y)),IntKind.min .i64<=y/\y<=IntKind.max .i64:=fun y hy=>h7 y (List.mem_mergeSort.1 hy)
  generalize(xs.mergeSort fun x y=>decide (x<=y))=ys at hys hw hrg
  subst he hw
  exact⟨_,_,_,H,U,rfl,⟨rfl,rfl⟩,.tup rfl (fun i c v h=>by simp at h),zjW hs h1 h2 h3 h4 h5 hys hrg n os,.refl _ _,fun i hi=>rfl,by simp⟩
open Go.Sort in
theorem zjk{P:Program}{f:FuncId}(hcall:∀as w,(callFunc f as).run P w=.ok (.enter f as) w)
  (hcomp:∀(blk off cap:Nat)(zs:List Int)(w:World),Holds (Value.int .i64) w blk off zs.toArray->zs.length<=9223372036854775807->zs.length<=cap->
   Calls P f #[.slice (some ⟨blk,off,none⟩) zs.length cap] w fun e w'=>e=.returned (.slice (some ⟨blk,off,none⟩) (Lib.compact zs).length cap)/\∃q,w'=putRow (Value.int .i64) (Sort.ahead w q) blk off (Lib.compact zs++List.replicate (zs.length-(Lib.compact zs).length) 0).toArray)
  (hnone:∀(a:Option Addr)(cap:Nat)(w:World),Calls P f #[.slice a 0 cap] w fun e w'=>e=.returned (.slice a 0 cap)/\w'=w)
  (hle:∀zs:List Int,(Lib.compact zs).length<=zs.length)(hmem:∀zs:List Int,∀y∈Lib.compact zs,y∈zs)
  (xs:List Int)(hx:xs.length<=9223372036854775807):
  Spec P f [.ms 0 1 0 xs.length] [.arr 1 (xs.map zcn)] (fun r' m'=>r'=.ms 0 1 0 (Lib.compact xs).length/\m'=[.arr 1 ((Lib.compact xs++List.replicate (xs.length-(Lib.compact xs).length) 0).map zcn)]):=by
 refine⟨hcall,fun H F U cargs w hs hl ha=>?_⟩
 obtain⟨v,rfl⟩:∃v,cargs= #[v]:=by
  rcases cargs with⟨l⟩
  match l,hl with
  | [v],_=>exact⟨v,rfl⟩
 have hv:=ha 0 _ v rfl rfl
 have hle:=hle xs
 have hmem:=hmem xs
 rcases znY hs rfl rfl hv with⟨rfl,a,rfl⟩|⟨b,cap,capT,cells,elem,rfl,h1,h2,h3,h4,h5,h6,h7⟩
 ·refine(hnone a 0 w).mono fun e w' ⟨he,hw⟩=>?_
  subst he hw
  obtain⟨x,hβ⟩:∃x,U[0]? =some x:=⟨_,ygb (by rw[hs.hl];simp)⟩
  have h0:Lib.compact ([]:List Int)=[]:=List.length_eq_zero_iff.1 (by simpa using hle)
  exact⟨_,_,_,H,U,rfl,⟨rfl,rfl⟩,by rw[h0];exact .ms0 hβ,by rw[h0];simpa using hs,.refl _ _,fun i hi=>rfl,by simp⟩
 ·have hb:=zar h4
  refine(hcomp b 0 cap xs w (fun j hj=>?_) hx h1).mono fun e w' ⟨he,q,hw⟩=>?_
  ·have hj':j<xs.length:=by simpa using hj
   refine⟨?_,?_⟩
   ·simp[World.cell?,h4,h6 j hj',hj']
   ·simp[World.frozen?,h4]
  have hg:w'=grow w' #[]:=by simp[grow]
  rw[hg,hw]
  subst he
  refine⟨_,_,_,H,U,rfl,⟨rfl,rfl⟩,?_,zjW (ys:=Lib.compact xs++List.replicate (xs.length-(Lib.compact xs).length) 0) hs h1 h2 h3 h4 h5 (by simp;omega) (fun y hy=>?_) q #[],.refl _ _,fun i hi=>rfl,by simp⟩
  ·have:Rep H U (.ms 0 1 0 (Lib.compact xs).length) (.slice (some ⟨b,0*1,none⟩) (Lib.compact xs).length cap):=.ms h3 (by omega) (by omega) (by unfold BIG;omega)
   simpa using this
  ·rcases List.mem_append.1 hy with hy|hy
   ·exact h7 y (hmem y hy)
   ·obtain rfl:=(List.mem_replicate.1 hy).2
    decide
theorem Sat.fresh{H:Hp}{F:Fr}{U:Bt}{mem:List Ent}{w w':World}(h:Sat H F U mem w)(hb:Below w.heap.size w w'){g cap:Nat}{cells:Array Value}{elem:TypeId}{rows:List (List AV)}{es:Nat}(hge:w.heap.size<=g)(hg:w'.heap[g]? =some (.cells cells elem (0,0)))
  (h3:cells.size=cap*es)(h4:rows.length<=cap)(h5:∀r∈rows,r.length=es)(h6:∀r∈rows,∀c∈r,c.isCell=true)
  (h7:∀(i:Nat)(r:List AV)(j:Nat)(c:AV),rows[i]? =some r->r[j]? =some c->∃v,cells[i*es+j]? =some v/\Rep H U c v)(hbd:rows≠[]->okC es cells elem):
  Sat H F (U++[some (g,es,cap)]) (mem++[.arr es rows]) w':=by
 have hw:Sat H F U mem w':=h.more hb.block hb.size ⟨hb.os,hb.tape,hb.output⟩
 have hB:=zbS.append U [some (g,es,cap)]
 have hn:H g=none/\F g=none:=by
  constructor
  ·cases e:H g with
   | none=>rfl
   | some o=>exact absurd (zar (h.hH _ _ e)) (by omega)
  ·cases e:F g with
   | none=>rfl
   | some o=>exact absurd (zar (h.hF _ _ e)) (by omega)
 have old:∀(i:Nat)(e:Ent),(mem++[Ent.arr es rows])[i]? =some e->(i<mem.length/\mem[i]? =some e)\/(i=mem.length/\e=.arr es rows):=by
  intro i e hi
  rw[List.getElem?_append]at hi
  split at hi
  ·exact .inl ⟨by assumption,hi⟩
  ·rename_i hlt
   have:i-mem.length=0:=by
    have:=(yga.1 hi).1;simp at this;omega
   rw[this]at hi;simp at hi
   exact .inr ⟨by omega,hi.symm⟩
 have oldβ:∀i x,(U++[some (g,es,cap)])[i]? =some x->(i<mem.length->U[i]? =some x)/\(i=mem.length->x=some (g,es,cap)):=by
  intro i x hi
  rw[<-h.hl]
  constructor
  ·intro hlt;rw[yge hlt]at hi;exact hi
  ·intro he;subst he;simp at hi;exact hi.symm
 have apart':∀(i:Nat) e x,mem[i]? =some e->e.live=true->U[i]? =some (some x)->x.1≠g:=fun i e x hi he hx hxb=>by
  have:=(h.ent i e _ hi hx).lt (b:=x.1) (es:=x.2.1) (cap:=x.2.2) he
  omega
 refine{hH:=hw.hH,hF:=hw.hF,sm:=hw.sm,hl:=by simp[h.hl],ent:=fun i e x hi hx=>?_,apart:=fun i e x hi he hx=>?_,inj:=fun i j e e' x y hi he hj he' hx hy hxy=>?_}
 ·rcases old i e hi with⟨hlt,hi'⟩|⟨hlt,rfl⟩
  ·have hx':=(oldβ i x hx).1 hlt
   exact(hw.ent i e x hi' hx').mono (zeD.refl _) hB fun _ _ _ _ _=>rfl
  ·obtain rfl:=(oldβ i x hx).2 hlt
   refine⟨rfl,cells,elem,hg,h3,h4,h5,h6,fun i r j c hr hc=>?_,hbd⟩
   obtain⟨v,hv,hrep⟩:=h7 i r j c hr hc
   exact⟨v,hv,hrep.mono (zeD.refl _) hB⟩
 ·rcases old i e hi with⟨hlt,hi'⟩|⟨hlt,rfl⟩
  ·exact hw.apart i e x hi' he ((oldβ i _ hx).1 hlt)
  ·have:=(oldβ i _ hx).2 hlt
   cases this
   exact hn
 ·rcases old i e hi with⟨hlt,hi'⟩|⟨hlt,rfl⟩<;>rcases old j e' hj with⟨hlt',hj'⟩|⟨hlt',rfl⟩
  ·exact h.inj i j e e' x y hi' he hj' he' ((oldβ i _ hx).1 hlt) ((oldβ j _ hy).1 hlt') hxy
  ·have:=(oldβ j _ hy).2 hlt'
   cases this
   exact absurd hxy (apart' i e x hi' he ((oldβ i _ hx).1 hlt))
  ·have:=(oldβ i _ hx).2 hlt
   cases this
   exact absurd hxy.symm (apart' j e' y hj' he' ((oldβ j _ hy).1 hlt'))
  ·omega
theorem Sat.first{H:Hp}{F:Fr}{U:Bt}{rows:List (List AV)}{w:World}(h:Sat H F U [.arr 1 rows] w)(k:Nat):Sat H F (U ++ U) [.dead,.arr 1 (rows.take k)] w:=by
 obtain⟨x,rfl⟩:∃x,U=[x]:=by
  have:=h.hl
  match U,this with
  | [x],_=>exact⟨x,rfl⟩
 refine{hH:=h.hH,hF:=h.hF,sm:=h.sm,hl:=rfl,ent:=fun i e y hi hy=>?_,apart:=fun i e y hi he hy=>?_,inj:=fun i j e e' y z hi he hj he' hy hz hyz=>?_}
 ·match i,hi,hy with
  | 0,hi,hy=>cases hi;trivial
  | 1,hi,hy =>
   cases hi
   obtain rfl:x=y:=by simpa using hy
   have h0:=h.ent 0 _ x rfl rfl
   cases x with
   | none =>
    have h1:rows=[]:=h0
    subst h1;simp[EntOk]
   | some q =>
    obtain⟨b,es,cap⟩:=q
    obtain⟨rfl,cells,elem,g1,g2,g3,g4,g5,g6,g7⟩:=h0
    have hB:zbS [some (b,1,cap)] ([some (b,1,cap)]++[some (b,1,cap)]):=.append _ _
    refine⟨rfl,cells,elem,g1,g2,by simp;omega,fun r hr=>g4 r (List.mem_of_mem_take hr),fun r hr=>g5 r (List.mem_of_mem_take hr),fun i r j c hr hc=>?_,fun hne=>g7 fun e=>hne (by simp[e])⟩
    rw[List.getElem?_take]at hr
    split at hr
    ·obtain⟨v,q1,q2⟩:=g6 i r j c hr hc
     exact⟨v,q1,q2.mono (zeD.refl _) hB⟩
    ·cases hr
  | i+2,hi,hy=>simp at hi
 ·match i,hi,hy with
  | 0,hi,hy=>cases hi;cases he
  | 1,hi,hy =>
   have:[x][0]? =some (some y):=by simpa using hy
   exact h.apart 0 _ y rfl rfl this
  | i+2,hi,hy=>simp at hi
 ·match i,j,hi,hj with
  | 0,_,hi,_=>cases hi;cases he
  | _,0,_,hj=>cases hj;cases he'
  | 1,1,_,_=>rfl
  | i+2,_,hi,_=>simp at hi
  | _,j+2,_,hj=>simp at hj
theorem zko{P:Program}{f:FuncId}{xs ys zs:List Int}(h:Spec P f [.ms 0 1 0 xs.length] [.arr 1 (xs.map zcn)] (fun r' m'=>r'=.ms 0 1 0 ys.length/\m'=[.arr 1 ((ys++zs).map zcn)])):
  Spec P f [.ms 0 1 0 xs.length] [.arr 1 (xs.map zcn)] (fun r' m'=>r'=.ms 1 1 0 ys.length/\m'=[.dead,.arr 1 (ys.map zcn)]):=by
 refine h.post fun F H' U β' r m v w' ⟨h1,h2⟩ hs hr h0 hβ hm=>?_
 subst h1 h2
 have hl:β'.length=1:=hs.hl
 have:=hs.first ys.length
 rw[show(List.map zcn (ys++zs)).take ys.length=ys.map zcn by simp]at this
 have g1:∀x,β'[0]? =some x->(β' ++ β')[1]? =some x:=fun x hx=>by rw[ygf (by omega),hl];exact hx
 have g2:∀n,Rep H' β' (.ms 0 1 0 n) v->Rep H' (β' ++ β') (.ms 1 1 0 n) v:=fun n hr=>by
  cases hr with
  | ms hb hc hn hg=>exact .ms (g1 _ hb) hc hn hg
  | ms0 hb=>exact .ms0 (g1 _ hb)
 refine⟨_,_,β' ++ β',⟨rfl,rfl⟩,g2 _ hr,this,fun i hi=>?_,by simp⟩
 ·rw[<-h0 i hi]
  have:i<β'.length:=by rw[hl];exact hi
  exact yge this
theorem zpN{P:Program}{f:FuncId}(G:List Int->Option (List Int))(h:∀xs ys,G xs=some ys->Spec P f [.ms 0 1 0 xs.length] [.arr 1 (xs.map zcn)] (fun r' m'=>r'=.tup []/\m'=[.arr 1 (ys.map zcn)])):
  EOk P ⟨f,[.own 0],[.arr (.int .i64) .no],.tup [],[.arr (.int .i64) .no],G⟩:=by
 refine show TEok P _ from⟨by kernel_rfl,fun d r hd=>?_⟩
 have h1:=h d r hd
 have e1:inM ⟨f,[.own 0],[.arr (.int .i64) .no],.tup [],[.arr (.int .i64) .no],G⟩ d=[.arr 1 (d.map zcn)]:=zgT (.int .i64) d
 rw[e1]
 have e2:endM 1 1 [.arr (.int .i64) r .no]=[.arr 1 (r.map zcn)]:=zgT (.int .i64) r
 refine⟨h1.1,fun H F U cargs w hs hl ha=>(h1.2 H F U cargs w hs hl ha).mono fun e w' ⟨v,r',m',H',β',g1,g2,g3⟩=>⟨v,r',m',H',β',g1,⟨g2.1,g2.2.trans e2.symm⟩,g3⟩⟩
theorem znG(t:Ty)(ys:List (TV t)):endM 1 1 [.dead,.arr t ys .no]=[.dead,.arr t.sz (ys.map (zaf t))]:=by
 simp only[endM,zag,zaz,zoo]
 letI pin0:Pin:={nin:=0,ini:=[],len:=rfl}
 have h2:=zdf (1+(2-1)) ys
 simp[h2]
theorem zkn{P:Program}{f:FuncId}(G:List Int->Option (List Int))(h:∀xs ys,G xs=some ys->Spec P f [.ms 0 1 0 xs.length] [.arr 1 (xs.map zcn)] (fun r' m'=>r'=.ms 1 1 0 ys.length/\m'=[.dead,.arr 1 (ys.map zcn)])):
  EOk P ⟨f,[.own 0],[.arr (.int .i64) .no],.own 1,[.dead,.arr (.int .i64) .no],G⟩:=by
 refine show TEok P _ from⟨by kernel_rfl,fun d r hd=>?_⟩
 have h1:=h d r hd
 have e1:inM ⟨f,[.own 0],[.arr (.int .i64) .no],.own 1,[.dead,.arr (.int .i64) .no],G⟩ d=[.arr 1 (d.map zcn)]:=zgT (.int .i64) d
 rw[e1]
 have e2:endM 1 1 [.dead,.arr (.int .i64) r .no]=[.dead,.arr 1 (r.map zcn)]:=znG (.int .i64) r
 refine⟨h1.1,fun H F U cargs w hs hl ha=>(h1.2 H F U cargs w hs hl ha).mono fun e w' ⟨v,r',m',H',β',g1,g2,g3⟩=>⟨v,r',m',H',β',g1,⟨g2.1,g2.2.trans e2.symm⟩,g3⟩⟩
theorem zcN(zs:List Int):(Lib.compact zs).length<=zs.length:=by
 unfold Lib.compact Lib.compactUpTo
 rw[List.length_map]
 exact Nat.le_trans (List.length_filter_le _ _) (by simp)
theorem zgH(zs:List Int):∀y∈Lib.compact zs,y∈zs:=by
 intro y hy
 unfold Lib.compact Lib.compactUpTo at hy
 obtain⟨j,hj,rfl⟩:=List.mem_map.1 hy
 have h1:=List.mem_range.1 (List.mem_filter.1 hj).1
 have:zs.toArray[j]! =zs[j]:=by simp[h1]
 rw[this]
 exact ygh h1
end Go.Fw
namespace Go.Fw
open Go Go.RowKit
theorem zsC{α:Type}{mk:α->Value}{av:α->AV}(inv:∀{H:Hp}{U:Bt} {x v},Rep H U (av x) v->v=mk x){H:Hp}{U:Bt}{xs:List α}{v:Value}(h:Rep H U (.sl 1 (xs.map fun x=>[av x])) v):
  ∃a cap,v=.slice a xs.length cap/\xs.length<=cap/\(xs=[]\/∃b o cells elem fz,a=some ⟨b,o,none⟩/\H b=some (.cells cells elem fz)/\∀(j:Nat)(hj:j<xs.length),cells[o+j]? =some (mk xs[j])/\Rep H [] (av xs[j]) (mk xs[j])):=by
 cases h with
 | @sl _ _ _ a len cap b o cells f hlen hcap hbig hes hblk hc hcell hr =>
  obtain rfl:len=xs.length:=by simpa using hlen
  refine⟨a,cap,rfl,hcap,?_⟩
  by_cases he:xs=[]
  ·exact .inl he
  ·obtain⟨h1,elem,fz,h2⟩:=hblk (by simpa using he)
   refine .inr ⟨b,o,cells,elem,fz,h1,h2,fun j hj=>?_⟩
   have h3:=hc j 0 (by simpa using hj) (by omega)
   have h4:=hr j [av xs[j]] 0 (av xs[j]) (by simp[hj]) rfl
   have h5:=inv h4
   rw[h5]at h3 h4
   exact⟨by simpa using h3,h4⟩
theorem zqH{H:Hp}{U:Bt}{x:Int}{v:Value}(h:Rep H U (.int .i64 x) v):v=.int .i64 x:=by cases h;rfl
section
variable {P:Program}{f:FuncId}{α:Type}{mk:α->Value}{av:α->AV}{ty:TypeId}{sz:Nat}
theorem znr(inv:∀{H:Hp}{U:Bt} {x v},Rep H U (av x) v->v=mk x)(hcl:∀x,(av x).isCell=true)(hnp:∀x,(av x).np=true)(hcall:∀us w,(callFunc f us).run P w=.ok (.enter f us) w)
  (hclone:∀(b o n c:Nat)(xs:List α)(w:World),n=xs.length->n*sz<=140737488355328->(∀(j:Nat)(hj:j<xs.length),w.cell? ⟨b,o+j,none⟩=some (mk xs[j]))->
   Calls P f #[.slice (some ⟨b,o,none⟩) n c] w fun e w'=>∃v',e=.returned v'/\w'.ownsRow w.heap.size ty 1 v' n (xs.map mk)/\v'≠.slice none 0 0/\Below w.heap.size w w')
  (hnil:∀(n c:Nat)(w:World),Calls P f #[.slice none n c] w fun e w'=>e=.returned (.slice none 0 0)/\w'=w)
  (hzero:∀(a:Addr)(c:Nat)(w:World),Calls P f #[.slice (some a) 0 c] w fun e w'=>∃v',e=.returned v'/\w'.ownsRow w.heap.size ty 1 v' 0 []/\v'≠.slice none 0 0/\Below w.heap.size w w')
  (xs:List α)(hx:xs.length*sz<=140737488355328)(hz:0<sz):Spec P f [.sl 1 (xs.map fun x=>[av x])] [] (fun r' m'=>r'=.ms 0 1 0 xs.length/\m'=[.arr 1 (xs.map fun x=>[av x])]):=by
 refine⟨hcall,fun H F U cargs w hs hl ha=>?_⟩
 obtain⟨v,rfl⟩:∃v,cargs= #[v]:=by
  rcases cargs with⟨l⟩
  match l,hl with
  | [v],_=>exact⟨v,rfl⟩
 obtain⟨a,cap,rfl,hc,hxx⟩:=zsC inv (ha 0 _ v rfl rfl)
 have hlen:xs.length<=BIG:=by
  have:xs.length*1<=xs.length*sz:=Nat.mul_le_mul_left _ hz
  unfold BIG;omega
 obtain rfl:U=[]:=List.length_eq_zero_iff.1 (by simpa using hs.hl)
 have fin:∀(e:Ending)(w':World),(∃v',e=.returned v'/\w'.ownsRow w.heap.size ty 1 v' xs.length (xs.map mk)/\v'≠.slice none 0 0/\Below w.heap.size w w')->(∀x∈xs,Rep H [] (av x) (mk x))->
   ∃v r m' H' β',e=.returned v/\(r=.ms 0 1 0 xs.length/\m'=[.arr 1 (xs.map fun x=>[av x])])/\Rep H' β' r v/\Sat H' F β' m' w'/\HX F H H'/\zo0 ([]:List Ent).length [] β'/\([]:List Ent).length<=m'.length:=by
  intro e w' ⟨v',he,ho,hne,hbw⟩ hrg
  obtain⟨o1,o2⟩:=ho
  rcases o2 with⟨o2,_⟩|⟨g,cap',cur,o2,o3,o4,o5,o6,o7,o8⟩
  ·exact absurd o2 hne
  subst he o2
  have hcur:∀(j:Nat)(hj:j<xs.length),cur[j]? =some (mk xs[j]):=fun j hj=>by
   have h1:(cur.toList.take (xs.length*1))[j]? =some (mk xs[j]):=by rw[o8];simp[hj]
   rw[List.getElem?_take,if_pos (by omega)]at h1
   simpa using h1
  have hrows:∀(i:Nat)(r:List AV)(j:Nat)(c:AV),(xs.map fun x=>[av x])[i]? =some r->r[j]? =some c->∃v,cur[i*1+j]? =some v/\Rep H [] c v:=fun i r j c hi hj=>by
   rw[List.getElem?_map,Option.map_eq_some_iff]at hi
   obtain⟨y,hy,rfl⟩:=hi
   obtain⟨hil,rfl⟩:=yga.1 hy
   have hj0:j=0:=by have:=(yga.1 hj).1;simp at this;exact this
   subst hj0
   obtain rfl:c=av xs[i]:=by simpa using hj.symm
   exact⟨_,by simpa using hcur i hil,hrg _ (ygh hil)⟩
  refine⟨_,_,_,H,[some (g,1,cap')],rfl,⟨rfl,rfl⟩,?_,hs.fresh (rows:=xs.map fun x=>[av x]) hbw o3 o4 o7 (by simpa using o5) (fun r hr=>?_) (fun r hr c hc=>?_) hrows (fun hne=>?_),.refl _ _,fun i hi=>by simp at hi,by simp⟩
  ·have:Rep H [some (g,1,cap')] (.ms 0 1 0 xs.length) (.slice (some ⟨g,0*1,none⟩) xs.length cap'):=.ms rfl (by omega) o5 hlen
   simpa using this
  ·obtain⟨y,_,rfl⟩:=List.mem_map.1 hr;rfl
  ·obtain⟨y,_,rfl⟩:=List.mem_map.1 hr
   obtain rfl:c=av y:=by simpa using hc
   exact hcl y
  ·cases xs with
   | nil=>simp at hne
   | cons y ys =>
    refine zha (H:=H) (U:=[]) fun v hv=>?_
    have:=hcur 0 (by simp)
    rw[hv]at this;cases this
    exact⟨av y,hnp y,hrg y (by simp)⟩
 rcases hxx with rfl|⟨b,o,cells,elem,fz,rfl,hH,hcs⟩
 ·cases a with
  | none =>
   refine(hnil 0 cap w).mono fun e w' ⟨he,hw⟩=>?_
   subst he hw
   exact⟨_,_,_,H,[none],rfl,⟨rfl,rfl⟩,.ms0 rfl,by simpa using hs.own_none 1,.refl _ _,fun i hi=>by simp at hi,by simp⟩
  | some a=>exact(hzero a cap w).mono fun e w' h=>fin e w' (by simpa using h) (by simp)
 ·have hw:=hs.hH _ _ hH
  refine(hclone b o xs.length cap xs w rfl hx (fun j hj=>?_)).mono fun e w' h=>fin e w' h fun x hx=>?_
  ·simp only[World.cell?,hw]
   simpa using(hcs j hj).1
  ·obtain⟨j,hj,rfl⟩:=List.getElem_of_mem hx
   exact(hcs j hj).2
end
end Go.Fw
namespace Go.Fw
open Go Go.RowKit
section
variable {P:Program}{f:FuncId}
end
section
variable {P:Program}{f:FuncId}
theorem zl9(t:Ty)(xs:List (TV t)):endM 0 0 [.arr t xs .no]=[.arr t.sz (xs.map (zaf t))]:=by
 simp only[endM,zag,zaz,zoo]
 letI pin0:Pin:={nin:=0,ini:=[],len:=rfl}
 have h:=zdf (0+(1-0)) xs
 simp[h]
end
end Go.Fw
