/- A part of the proof: what stands for the program, its functions, and what they come to. -/
import Derived.Test.YtegfaamnjbicjaaGreatDoorM4
import Derived.ProofKit
import Derived.Sort.Row
import Derived.Sort.Grow
import Derived.Lib.SlicesCompact
import Derived.Below
import Derived.Laws.AppendOwn
import Derived.Lib.Join
import Derived.Lib.AtoiAllCases
import Derived.Lib.SlTrimSet
import Derived.Lib.ItoaLen
import Derived.Lib.AppendIntMem
import Derived.Lib.SplitLaws
import Derived.Lib.AtoiErrMem
import Derived.Test.YtegfaamnjbicjaaGreatDoorM2
set_option linter.all false
namespace Go.Fw
open Go Go.RowKit
def zek(W:World):Hp:=fun b=>W.heap[b]?
theorem PS.calls{P:Program}{f:FuncId}{args:List AV}{r:AV}(h:PS P f args r)(W:World)(hG:GH (zek W))(cargs:Array Value)(hl:cargs.size=args.length)
 (ha:∀(i:Nat) v x,args[i]? =some v->cargs[i]? =some x->Rep (zek W) [] v x):
 Calls P f cargs W fun e W'=>∃v,e=.returned v/\Below W.heap.size W W'/\∃H',Rep H' [] r v:=by
 have hs:Sat (zek W) ⟨fun _=>none,W⟩ [] [] W:=
  {hH:=fun b o hb=>hb,gh:=hG,hF:=(fun b o hb=>by cases hb),sm:=⟨rfl,rfl,rfl,Nat.le_refl _⟩,hl:=rfl,ent:=fun i e x hi=>by simp at hi,apart:=fun i e x hi=>by simp at hi,inj:=fun i j e e' x y hi=>by simp at hi}
 refine(h.sp.2 (zek W) ⟨fun _=>none,W⟩ [] cargs W hs hl ha).mono fun e w' ⟨v,r',m',H',β',h1,⟨h2,_⟩,h3,h4,h5,_⟩=>?_;subst h2;refine⟨v,h1,⟨h4.sm.os,h4.sm.tape,h4.sm.output,h4.sm.size,fun k hk=>?_⟩,H',h3.pure h.pr _⟩;have hb:zek W k=some W.heap[k]:=by simp[zek,hk]
 rw[h4.hH _ _ (h5.1 _ _ hb)];exact hb.symm
theorem zt9:maxLen=BIG:=by unfold maxLen BIG;rfl
def CR'(W:World)(cs:List AV)(vs:List Value):Prop:=
 vs.length=cs.length/\(∀c∈cs,c.isCell=true)/\∀(i:Nat) c v,cs[i]? =some c->vs[i]? =some v->Rep (zek W) [] c v
section
variable {H:Type}{enc:TypeId×Value->H}{P:Program}{W:World}{sp:Nat->Bool}{held:Bool}
def zsW(enc:TypeId×Value->H)(P:Program)(W:World)(sp:Nat->Bool)(held:Bool)(fuel:Nat)(t:TypeId){α:Type}(e:α->List AV):Prop:=
 ∀cs d ps,DataW.trod enc P W 0 sp held fuel t cs=some (d,ps)->∃x,CR' W (e x) cs
theorem CR'.one{c:AV}{v:Value}(hc:c.isCell=true)(h:Rep (zek W) [] c v):CR' W [c] [v]:=
 ⟨rfl,by simpa using hc,fun i c' v' h1 h2=>by
  cases i with
  |zero=>simp at h1 h2;subst h1;subst h2;exact h
  |succ i=>simp at h1⟩
theorem zsg{t:TypeId}{α:Type}{e:α->List AV}:zsW enc P W sp held 0 t e:=fun cs d ps h=>by simp[DataW.trod]at h
theorem zkU{α Z:Type}{f:α->Option Z}:∀{l:List α}{r:List Z},l.mapM f=some r->r.length=l.length/\∀(i:Nat) x,l[i]? =some x->∃y,f x=some y/\r[i]? =some y
|[],r,h=>by simp at h;subst h;simp
|a:: l,r,h=>by
 simp only[List.mapM_cons,Option.bind_eq_bind,ygc,Option.pure_def,Option.some.injEq]at h;obtain⟨y,hy,ys,hys,rfl⟩:=h;obtain⟨g1,g2⟩:=zkU hys;refine⟨by simp[g1],fun i x hi=>?_⟩;cases i with
 |zero=>simp at hi;subst hi;exact⟨y,hy,rfl⟩
 |succ i=>simpa using g2 i x (by simpa using hi)
theorem zjn{α:Type}{p:Nat->α->Prop}:∀(n:Nat),(∀j,j<n->∃v,p j v)->∃vs:List α,vs.length=n/\∀(j:Nat) v,vs[j]? =some v->p j v
|0,_=>⟨[],rfl,fun j v h=>by simp at h⟩
|n+1,h=>by
 obtain⟨vs,h1,h2⟩:=zjn n fun j hj=>h j (by omega);obtain⟨x,hx⟩:=h n (by omega);refine⟨vs++[x],by simp[h1],fun j v hj=>?_⟩;rcases Nat.lt_trichotomy j n with hlt|rfl|hgt
 ·rw[yge (by omega)]at hj;exact h2 j v hj
 ·rw[ygf (by omega),h1]at hj;simp at hj;subst hj;exact hx
 ·rw[List.getElem?_eq_none (by simp;omega)]at hj;cases hj
theorem znZ{a:Addr}{n:Nat}{vs:List Value}(h:W.cells? 0 a n=some vs):vs.length=n/\∀j,j<n->∃v,vs[j]? =some v/\W.cell? (a.add j)=some v:=by unfold World.cells? at h;rw[if_pos (Nat.zero_le _)]at h;obtain⟨g1,g2⟩:=zkU h;refine⟨by simpa using g1,fun j hj=>?_⟩;obtain⟨y,h1,h2⟩:=g2 j j (by simp[hj]);exact⟨y,h2,h1⟩
theorem zlX{a:Addr}{v:Value}(h:W.cell? a=some v):a.spot=none/\∃c elem fz,W.heap[a.block]? =some (.cells c elem fz)/\c[a.off]? =some v:=by
 unfold World.cell? at h;split at h
 ·rename_i c elem fz hb;split at h
  ·cases h
  ·rename_i hs;exact⟨by simpa using hs,c,elem,fz,hb,h⟩
 ·cases h
theorem zp7{t te:TypeId}{α:Type}{e:α->List AV}{es:Nat}(ht:P.underlying t=some (.slice te))(hes:P.cellsOf te=es)(hlen:∀x,(e x).length=es)(hpos:0<es)(fuel:Nat)
 (he:zsW enc P W sp held fuel te e):zsW enc P W sp held (fuel+1) t (fun xs:List α=>[.sl es (xs.map e)]):=by
 intro cs d ps h;unfold DataW.trod at h;rw[ht]at h;match cs,h with
 |[.slice none 0 0],h=>exact⟨[],.one rfl (.sl 0 0 #[] (fun _ _=>undef) rfl (Nat.le_refl _) (Nat.zero_le _) (by simp) (by simp) (by simp) (by simp) (by simp))⟩
 |[.slice (some a) len cap],h=>
  simp only[hes]at h;split at h
  ·rename_i hb;rw[ygc]at h;obtain⟨elems,h1,h2⟩:=h;obtain⟨g1,g2⟩:=zkU h1;have el:∀i,i<len->∃x vs,W.cells? 0 (a.add (i*es)) es=some vs/\CR' W (e x) vs:=by intro i hi;obtain⟨y,hy,_⟩:=g2 i i (by simp[hi]);rw[ygc]at hy;obtain⟨vs,hv,hr⟩:=hy;obtain⟨x,hx⟩:=he vs y.1 y.2 hr;exact⟨x,vs,hv,hx⟩
   obtain⟨hb0,hlc,hcm⟩:=hb;obtain⟨xs,x1,x2⟩:=zjn (p:=fun i x=>∃vs,W.cells? 0 (a.add (i*es)) es=some vs/\CR' W (e x) vs) len el;refine⟨xs,.one rfl ?_⟩;have hlenBIG:len<=BIG:=by rw[<-zt9];omega
   by_cases h0:len=0
   ·subst h0;obtain rfl:xs=[]:=List.length_eq_zero_iff.1 x1;exact .sl 0 0 #[] (fun _ _=>undef) rfl (Nat.zero_le _) (Nat.zero_le _) (by simp) (by simp) (by simp) (by simp) (by simp)
   ·obtain⟨x0,vs0,c0,_⟩:=el 0 (by omega);obtain⟨_,cg⟩:=znZ c0;obtain⟨v0,_,hc0⟩:=cg 0 hpos;have ha0:(a.add (0*es)).add 0=a:=by simp[Addr.add]
    rw[ha0]at hc0;obtain⟨hspot,c,elem,fz,hblk,_⟩:=zlX hc0;obtain⟨b,o,sp'⟩:=a;simp only at hspot hblk;subst hspot;have cell:∀i,i<len->∀x,xs[i]? =some x->∀j,j<es->∃v,c[o+i*es+j]? =some v/\∀cc,(e x)[j]? =some cc->Rep (zek W) [] cc v:=by intro i hi x hx j hj;obtain⟨vs,hv,hcr⟩:=x2 i x hx;obtain⟨_,cg⟩:=znZ hv;obtain⟨v,hvj,hcell⟩:=cg j hj;rw[zbI,zbI]at hcell;obtain⟨_,c',elem',fz',hb',hcv⟩:=zlX hcell;simp only at hb' hcv;rw[hblk]at hb';cases hb';exact⟨v,hcv,fun cc hcc=>hcr.2.2 j cc v hcc hvj⟩
    refine .sl b o c (fun i j=>c.getD (o+i*es+j) undef) (by simp[x1]) hlc hlenBIG (fun r hr=>?_) (fun _=>⟨rfl,elem,fz,hblk⟩) (fun i j hi hj=>?_) (fun r hr cc hcc=>?_) (fun i r j cc hi hj=>?_)
    ·obtain⟨x,_,rfl⟩:=List.mem_map.1 hr;exact hlen x
    ·simp only[List.length_map]at hi;obtain⟨v,hv,_⟩:=cell i (by omega) xs[i] (ygb hi) j hj;simp[hv]
    ·obtain⟨x,hx,rfl⟩:=List.mem_map.1 hr;obtain⟨i,hi⟩:=List.getElem?_of_mem hx;obtain⟨vs,_,hcr⟩:=x2 i x hi;exact hcr.2.1 cc hcc
    ·rw[List.getElem?_map,Option.map_eq_some_iff]at hi;obtain⟨x,hx,rfl⟩:=hi;have hilt:=(yga.1 hx).1;have hjlt:=(yga.1 hj).1;rw[hlen]at hjlt;obtain⟨v,hv,hrep⟩:=cell i (by omega) x hx j hjlt;simp only[Array.getD_eq_getD_getElem?,hv,Option.getD_some];exact hrep cc hj
  ·cases h
end
def zzL(n:Int):List AV:=[.int .u8 n]
theorem zwt{H:Type}{enc:TypeId×Value->H}{P:Program}{W:World}{sp:Nat->Bool}{held:Bool}{t:TypeId}(ht:P.underlying t=some (.int .u8))(fuel:Nat):zsW enc P W sp held fuel t zzL:=by
 intro cs d ps h;cases fuel with
 |zero=>simp[DataW.trod]at h
 |succ fuel=>
  unfold DataW.trod at h;rw[ht]at h;match cs,h with
  |[.int k n],h=>
   simp only[]at h;split at h
   ·rename_i hs;obtain⟨rfl,hs⟩:=hs;refine⟨n,.one rfl (.int ?_)⟩;simpa[Lit.wf]using hs
   ·cases h
theorem zuv{H:Hp}{xs:List Int}{v:Value}(h:Rep H [] (.sl 1 (xs.map zzL)) v):∀x∈xs,0<=x/\x<=255:=by
 intro x hx;obtain⟨i,hi,rfl⟩:=List.getElem_of_mem hx;cases h with
 |sl b o cells f hlen hcap hbig hes hblk hc hcell hh=>
  have:=hh i (zzL xs[i]) 0 (.int .u8 xs[i]) (by simp[hi]) rfl;generalize f i 0=w at this;cases this with
  |int h=>have h1:IntKind.min .u8=0:=rfl;have h2:IntKind.max .u8=255:=rfl;rw[h1,h2]at h;exact h
end Go.Fw
namespace Go.Fw
open Go Go.RowKit
end Go.Fw
namespace Go.Fw
open Go Go.RowKit
theorem zAZ{α:Type}{mk:α->Value}{av:α->AV}(inv:∀{H:Hp}{Z:Bt} {x v},Rep H Z (av x) v->v=mk x){H:Hp}{Z:Bt}{xs:List α}{v:Value}(h:Rep H Z (.sl 1 (xs.map fun x=>[av x])) v):
 ∃a cap,v=.slice a xs.length cap/\xs.length<=cap/\(xs=[]\/∃b o cells elem fz,a=some ⟨b,o,none⟩/\H b=some (.cells cells elem fz)/\∀(j:Nat)(hj:j<xs.length),cells[o+j]? =some (mk xs[j])/\Rep H [] (av xs[j]) (mk xs[j])):=by
 cases h with
 | @sl _ _ _ a len cap b o cells f hlen hcap hbig hes hblk hc hcell hr=>
  obtain rfl:len=xs.length:=by simpa using hlen
  refine⟨a,cap,rfl,hcap,?_⟩;by_cases he:xs=[]
  ·exact .inl he
  ·obtain⟨h1,elem,fz,h2⟩:=hblk (by simpa using he);refine .inr ⟨b,o,cells,elem,fz,h1,h2,fun j hj=>?_⟩;have h3:=hc j 0 (by simpa using hj) (by omega);have h4:=hr j [av xs[j]] 0 (av xs[j]) (by simp[hj]) rfl;have h5:=inv h4;rw[h5]at h3 h4;exact⟨by simpa using h3,h4⟩
theorem zhd{H:Hp}{Z:Bt}{x:List UInt8}{v:Value}(h:Rep H Z (.str x) v):v=.string ⟨x.toArray⟩:=by cases h;rfl
theorem zyi{H:Hp}{Z:Bt}{x:Int}{v:Value}(h:Rep H Z (.int .i64 x) v):v=.int .i64 x:=by cases h;rfl
theorem PS.str{P:Program}{f:FuncId}{args:List AV}{s:List UInt8}(hcall:∀us w,(callFunc f us).run P w=.ok (.enter f us) w)(hpa:AV.pureL args=true)(hb:s.length<=BIG)
 (h:∀(H:Hp)(F:Fr)(Z:Bt)(cargs:Array Value)(w:World),Sat H F Z [] w->cargs.size=args.length->(∀(i:Nat) v x,args[i]? =some v->cargs[i]? =some x->Rep H Z v x)->
  Calls P f cargs w fun e w'=>e=.returned (.string ⟨s.toArray⟩)/\Below w.heap.size w w'):PS P f args (.str s):=
 ⟨hpa,rfl,hcall,fun H F Z cargs w hs hl ha=>(h H F Z cargs w hs hl ha).mono fun e w' ⟨he,hbw⟩=>⟨_,.str s,[],H,Z,he,⟨rfl,rfl⟩,.str hb,hs.more hbw.block hbw.size ⟨hbw.os,hbw.tape,hbw.output⟩,.refl _ _,fun i hi=>rfl,by simp⟩⟩
def zv0(d:List (List UInt8)×List UInt8):Option (List UInt8):=gd (decide (d.1.length<=140737488355328)&&decide ((Lib.join d.1 d.2).length<=140737488355328)) (some (Lib.join d.1 d.2))
theorem zyr{P:Program}{f:FuncId}{G:List (List UInt8)×List UInt8->Option (List UInt8)}(hG:∀d,G d=zv0 d)(hcall:∀us w,(callFunc f us).run P w=.ok (.enter f us) w)
 (hj:∀(bk o c:Nat)(xs:List ByteArray)(sep:ByteArray)(w:World),(∀(j:Nat) x,xs[j]? =some x->w.cell? ⟨bk,o+j,none⟩=some (.string x))->bk<w.heap.size->xs.length<=140737488355328->xs.length<=c->
  (Lib.join (xs.map (·.data.toList)) sep.data.toList).length<=140737488355328->
  Calls P f #[.slice (some ⟨bk,o,none⟩) xs.length c,.string sep] w fun e w'=>e=.returned (.string ⟨(Lib.join (xs.map (·.data.toList)) sep.data.toList).toArray⟩)/\Below w.heap.size w w')
 (h0:∀(a:Option Addr)(c:Nat)(sep:ByteArray)(w:World),Calls P f #[.slice a 0 c,.string sep] w fun e w'=>e=.returned (.string ⟨#[]⟩)/\w'=w):
 EOk P ⟨f,[.lst .str,.str],[],.str,[],G⟩:=by
 refine show PEok P _ from⟨rfl,rfl,rfl,rfl,fun d r hd=>?_⟩
 have hd':∀d:List (List UInt8)×List UInt8,G d=some r->PS P f [.sl 1 (d.1.map (zap .str)),.str d.2] (.str r):=?_
 ·exact hd' d hd
 clear hd d;intro d hd;rw[hG]at hd;obtain⟨xs,sep⟩:=d;unfold zv0 gd at hd;cases g0:(decide (xs.length<=140737488355328)&&decide ((Lib.join xs sep).length<=140737488355328))with
 |false=>rw[g0]at hd;cases hd
 |true=>
 rw[g0]at hd;cases hd;simp only[yhb,yhc]at g0;obtain⟨g1,g2⟩:=g0;show PS P f [.sl 1 (xs.map (zap .str)),.str sep] (.str (Lib.join xs sep));refine PS.str hcall rfl (by unfold BIG;exact Nat.le_trans g2 (by omega)) fun H F Z cargs w hs hl ha=>?_;obtain⟨v,u,rfl⟩:∃v u,cargs= #[v,u]:=by
  rcases cargs with⟨l⟩
  match l,hl with
  |[v,u],_=>exact⟨v,u,rfl⟩
 have hv:=ha 0 _ v rfl rfl;obtain rfl:=zhd (ha 1 _ u rfl rfl);obtain⟨a,cap,rfl,hc,hx⟩:=zAZ (av:=fun s=>.str s) (mk:=fun s=>.string ⟨s.toArray⟩) zhd hv;rcases hx with rfl|⟨b,o,cells,elem,fz,rfl,hH,hcs⟩
 ·exact(h0 a cap _ w).mono fun e w' ⟨he,hw⟩=>⟨he,hw ▸ Below.refl _ _⟩
 ·have hw:=hs.hH _ _ hH;have e1:((xs.map fun s=>(⟨s.toArray⟩:ByteArray)).map (·.data.toList))=xs:=by rw[List.map_map];exact List.map_id _
  have:=hj b o cap (xs.map fun s=>⟨s.toArray⟩) ⟨sep.toArray⟩ w (fun j x hjx=>by rw[List.getElem?_map,Option.map_eq_some_iff]at hjx;obtain⟨s,hs',rfl⟩:=hjx;obtain⟨hjl,rfl⟩:=yga.1 hs';simp only[World.cell?,hw];simpa using(hcs j hjl).1) (zaT hw) (by simpa using g1) (by simpa using hc) (by rw[e1];simpa using g2)
  rw[e1]at this;simpa using this
section
variable {P:Program}{f:FuncId}{α:Type}{mk:α->Value}{av:α->AV}{ty:TypeId}{sz:Nat}
end
end Go.Fw
namespace Go.Fw
open Go Go.RowKit
section
variable {P:Program}{f:FuncId}
end
section
variable {P:Program}{f:FuncId}
end
end Go.Fw
namespace Go.Fw
open Go Go.RowKit
theorem PS.gw{H:Hp}{F:Fr}{Z:Bt}{mem:List Ent}{w:World}(hs:Sat H F Z mem w):GW w:=hs.gh w hs.hH
theorem PS.flatR{P:Program}{f:FuncId}{args:List AV}{r:AV}(hcall:∀us w,(callFunc f us).run P w=.ok (.enter f us) w)(hpa:AV.pureL args=true)(hp:r.pure=true)
 (h:∀(H:Hp)(F:Fr)(Z:Bt)(cargs:Array Value)(w:World),Sat H F Z [] w->cargs.size=args.length->(∀(i:Nat) v x,args[i]? =some v->cargs[i]? =some x->Rep H Z v x)->
  Calls P f cargs w fun e w'=>∃v,e=.returned v/\(∀H Z,Rep H Z r v)/\Below w.heap.size w w'):PS P f args r:=
 ⟨hpa,hp,hcall,fun H F Z cargs w hs hl ha=>(h H F Z cargs w hs hl ha).mono fun e w' ⟨v,he,hr,hbw⟩=>⟨_,r,[],H,Z,he,⟨rfl,rfl⟩,hr H Z,hs.more hbw.block hbw.size ⟨hbw.os,hbw.tape,hbw.output⟩,.refl _ _,fun i hi=>rfl,by simp⟩⟩
def zAl(d:Int):Option (List UInt8):=some (Lib.itoa d)
theorem zyp{P:Program}{f:FuncId}{G:Int->Option (List UInt8)}(hG:∀d,G d=zAl d)(hcall:∀us w,(callFunc f us).run P w=.ok (.enter f us) w)
 (hj:∀(n:Int)(w:World),GW w->-9223372036854775808<=n->n<=9223372036854775807->Calls P f #[.int .i64 n] w fun e w'=>e=.returned (.string ⟨(Lib.itoa n).toArray⟩)/\∃k os,w'=Go.Sort.grow (w.drewN k) os):
 EOk P ⟨f,[.int .i64],[],.str,[],G⟩:=by
 refine show PEok P _ from⟨rfl,rfl,rfl,rfl,fun d r hd=>?_⟩
 have hd':∀d:Int,G d=some r->PS P f [.int .i64 d] (.str r):=?_
 ·exact hd' d hd
 clear hd d;intro d hd;rw[hG]at hd;cases hd;refine PS.flatR hcall rfl rfl fun H F Z cargs w hs hl ha=>?_;obtain⟨v,rfl⟩:∃v,cargs= #[v]:=by
  rcases cargs with⟨l⟩
  match l,hl with
  |[v],_=>exact⟨v,rfl⟩
 have hr:=ha 0 _ v rfl rfl;obtain rfl:=zyi hr;have hb:-9223372036854775808<=d/\d<=9223372036854775807:=by cases hr with|int h=>exact h
 refine(hj d w (PS.gw hs) hb.1 hb.2).mono fun e w' ⟨he,k,os,hw⟩=>⟨_,he,fun H Z=>.str ?_,?_⟩
 ·have:=Lib.itoa_length_le d hb.1 hb.2;unfold BIG;omega
 ·rw[hw];exact Lib.below_grow _ _ (Nat.le_refl _) _ _
def zxT(d:List UInt8):Int×Bool:=match Lib.atoiAll d with
|.ok v=>(v,false)
|.range=>(Lib.atoiSat d,true)
|_=>(0,true)
def zvA(d:List UInt8):Option (Int×Bool):=gd (decide (d.length<=281474976710656)) (some (zxT d))
theorem zxU{P:Program}{f:FuncId}{G:List UInt8->Option (Int×Bool)}(hG:∀d,G d=zvA d)(hcall:∀us w,(callFunc f us).run P w=.ok (.enter f us) w){tb te:TypeId}
 (h1:∀(s:ByteArray)(w:World)(v:Int),s.size<=9223372036854775806->Lib.atoiAll s.data.toList=.ok v->Calls P f #[.string s] w fun e w'=>e=.returned (.tuple #[.int .i64 v,.nilIface])/\(w'=w\/∃t,w'=Lib.bytesWorld w tb t))
 (h2:∀(s:ByteArray)(w:World),GW w->s.size<=281474976710656->Lib.atoiAll s.data.toList=Lib.NumEnd.syntax->Calls P f #[.string s] w fun e w'=>(∃N,e=.returned (.tuple #[.int .i64 0,.iface te (.pointer (some ⟨N,0,none⟩))]))/\Below w.heap.size w w')
 (h3:∀(s:ByteArray)(w:World),GW w->s.size<=281474976710656->Lib.atoiAll s.data.toList=.range->Calls P f #[.string s] w fun e w'=>(∃N,e=.returned (.tuple #[.int .i64 (Lib.atoiSat s.data.toList),.iface te (.pointer (some ⟨N,0,none⟩))]))/\Below w.heap.size w w'):
 EOk P ⟨f,[.str],[],.tup [.int .i64,.fn ERR [.bool]],[],G⟩:=by
 refine show PEok P _ from⟨rfl,rfl,rfl,rfl,fun d r hd=>?_⟩
 have hd':∀(d:List UInt8)(r:Int×Bool),G d=some r->PS P f [.str d] (.tup [.int .i64 r.1,.fn ERR [.bool r.2]]):=?_
 ·exact hd' d r hd
 clear hd d r;intro d r hd;rw[hG]at hd;unfold zvA gd at hd;cases g0:decide (d.length<=281474976710656)with
 |false=>rw[g0]at hd;cases hd
 |true=>
 rw[g0]at hd;cases hd;have g0:=of_decide_eq_true g0;refine PS.flatR hcall rfl rfl fun H F Z cargs w hs hl ha=>?_;obtain⟨v,rfl⟩:∃v,cargs= #[v]:=by
  rcases cargs with⟨l⟩
  match l,hl with
  |[v],_=>exact⟨v,rfl⟩
 obtain rfl:=zhd (ha 0 _ v rfl rfl);have rep:∀(n:Int)(b:Bool)(x:Value),-9223372036854775808<=n/\n<=9223372036854775807->erB x b->∀H Z,Rep H Z (.tup [.int .i64 n,.fn ERR [.bool b]]) (.tuple #[.int .i64 n,x]):=fun n b x hn hx H Z=>by
  refine .tup rfl fun i c v h1 h2=>?_;match i,h1,h2 with
  |0,h1,h2=>cases h1;cases h2;exact .int hn
  |1,h1,h2=>
   cases h1;cases h2;refine .er rfl hx rfl fun i c h=>?_;match i,h with
   |0,h=>cases h;exact .bool
  |n+2,h1,_=>simp at h1
 have hsz:(⟨d.toArray⟩:ByteArray).size=d.length:=by simp[ByteArray.size]
 have hdl:(⟨d.toArray⟩:ByteArray).data.toList=d:=by simp
 unfold zxT;cases hh:Lib.atoiAll d with
 |ok v=>
  refine(h1 ⟨d.toArray⟩ w v (by omega) (by rw[hdl];exact hh)).mono fun e w' ⟨he,hw⟩=>⟨_,he,rep v false _ (Lib.atoiAll_bounds hh) rfl,?_⟩
  rcases hw with rfl|⟨t,rfl⟩
  ·exact Below.refl _ _
  ·exact Lib.bytesWorld_below _ _ _
 |range=>have:=h3 ⟨d.toArray⟩ w (PS.gw hs) (by omega) (by rw[hdl];exact hh);rw[hdl]at this;exact this.mono fun e w' ⟨⟨N,he⟩,hw⟩=>⟨_,he,rep _ true _ (Lib.atoiSat_bounds d) rfl,hw⟩
 |_=>exact(h2 ⟨d.toArray⟩ w (PS.gw hs) (by omega) (by rw[hdl];exact hh)).mono fun e w' ⟨⟨N,he⟩,hw⟩=>⟨_,he,rep 0 true _ (by omega) rfl,hw⟩
def zrA(d:List UInt8×List UInt8):Option (List UInt8):=gd (decide (d.2.length<4294967281)&&d.2.all fun b=>decide (b.toNat<128)) (some (d.1.dropWhile (d.2.contains ·)))
theorem zwS{P:Program}{f:FuncId}{G:List UInt8×List UInt8->Option (List UInt8)}(hG:∀d,G d=zrA d)(hcall:∀us w,(callFunc f us).run P w=.ok (.enter f us) w)
 (hj:∀(s cutset:ByteArray)(w:World),cutset.size<4294967281->(∀(j:Nat) b,cutset.data.toList[j]? =some b->b.toNat<128)->
  Calls P f #[.string s,.string cutset] w fun e w'=>e=.returned (.string ⟨(Lib.trimLeftS s.data.toList cutset.data.toList).toArray⟩)/\Below w.heap.size w w'):
 EOk P ⟨f,[.str,.str],[],.str,[],G⟩:=by
 refine show PEok P _ from⟨rfl,rfl,rfl,rfl,fun d r hd=>?_⟩
 have hd':∀d:List UInt8×List UInt8,G d=some r->PS P f [.str d.1,.str d.2] (.str r):=?_
 ·exact hd' d hd
 clear hd d;intro d hd;rw[hG]at hd;obtain⟨s,cs⟩:=d;unfold zrA gd at hd;cases g0:(decide (cs.length<4294967281)&&cs.all fun b=>decide (b.toNat<128))with
 |false=>simp only[g0]at hd;cases hd
 |true=>
 simp only[g0]at hd;cases hd;simp only[yhb,yhc,List.all_eq_true]at g0;refine PS.flatR hcall rfl rfl fun H F Z cargs w hs hl ha=>?_;obtain⟨v,u,rfl⟩:∃v u,cargs= #[v,u]:=by
  rcases cargs with⟨l⟩
  match l,hl with
  |[v,u],_=>exact⟨v,u,rfl⟩
 have hv:=ha 0 _ v rfl rfl;have hsl:s.length<=BIG:=by cases hv with|str h=>exact h
 obtain rfl:=zhd hv;obtain rfl:=zhd (ha 1 _ u rfl rfl);refine(hj ⟨s.toArray⟩ ⟨cs.toArray⟩ w (by simpa[ByteArray.size]using g0.1) fun j b hb=>g0.2 b (ygd hb)).mono fun e w' ⟨he,hw⟩=>⟨_,he,fun H Z=>.str ?_,hw⟩
 exact Nat.le_trans (List.Sublist.length_le (List.dropWhile_sublist _)) hsl
def zrx(d:List UInt8×List UInt8):Option (List (List UInt8)):=gd (decide (d.1.length<4294967281)&&decide (1<=d.2.length)) (some (Lib.split d.1 d.2))
theorem zwN{P:Program}{f:FuncId}{ty:TypeId}{G:List UInt8×List UInt8->Option (List (List UInt8))}(hG:∀d,G d=zrx d)(hcall:∀us w,(callFunc f us).run P w=.ok (.enter f us) w)
 (hj:∀(s sep:ByteArray)(w:World),GW w->s.size<4294967281->1<=sep.size->Calls P f #[.string s,.string sep] w fun e w'=>e=.returned (.slice (some ⟨w.heap.size,0,none⟩) (Lib.countB s sep+1) (Lib.countB s sep+1))/\w'=w.alloc (.cells ((Lib.splitB sep 0 (Lib.countB s sep) s).map Value.string).toArray ty)):
 EOk P ⟨f,[.str,.str],[],.lst .str,[],G⟩:=by
 refine show PEok P _ from⟨rfl,rfl,rfl,rfl,fun d r hd=>?_⟩
 have hd':∀(d:List UInt8×List UInt8)(r:List (List UInt8)),G d=some r->PS P f [.str d.1,.str d.2] (.sl 1 (r.map (zap .str))):=?_
 ·exact hd' d r hd
 clear hd d r;intro d r hd;rw[hG]at hd;obtain⟨s,sep⟩:=d;unfold zrx gd at hd;cases g0:(decide (s.length<4294967281)&&decide (1<=sep.length))with
 |false=>simp only[g0]at hd;cases hd
 |true=>
 simp only[g0]at hd;cases hd;simp only[yhb,yhc]at g0;refine⟨rfl,rfl,hcall,fun H F Z cargs w hs hl ha=>?_⟩;obtain⟨v,u,rfl⟩:∃v u,cargs= #[v,u]:=by
  rcases cargs with⟨l⟩
  match l,hl with
  |[v,u],_=>exact⟨v,u,rfl⟩
 obtain rfl:=zhd (ha 0 _ v rfl rfl);obtain rfl:=zhd (ha 1 _ u rfl rfl);have z1:(⟨s.toArray⟩:ByteArray).size=s.length:=by simp[ByteArray.size]
 have z2:(⟨sep.toArray⟩:ByteArray).size=sep.length:=by simp[ByteArray.size]
 refine(hj ⟨s.toArray⟩ ⟨sep.toArray⟩ w (PS.gw hs) (by omega) (by omega)).mono fun e w' ⟨he,hw⟩=>?_;have hE:1<=(⟨sep.toArray⟩:ByteArray).size:=by rw[z2];exact g0.2
 generalize hSd:(⟨s.toArray⟩:ByteArray)=S at z1 he hw;generalize hEd:(⟨sep.toArray⟩:ByteArray)=E at z2 he hw hE;have hlen:(Lib.splitB E 0 (Lib.countB S E) S).length=Lib.countB S E+1:=Lib.splitB_all E hE 0 _ S rfl;have hdata:(Lib.splitB E 0 (Lib.countB S E) S).map (·.data.toList)=Lib.split s sep:=by subst hSd hEd;exact Lib.splitB_data _ 0 _ _
 generalize hn:Lib.countB S E+1=n at hlen he;generalize hps:Lib.splitB E 0 (Lib.countB S E) S=ps at hlen hdata hw;have hle:n<=s.length+1:=by have:=Lib.countB_le E hE S.size S (Nat.le_refl _);omega
 have hpl:∀x∈ps,x.size<=s.length:=by
  have all:∀(k:Nat)(t:List UInt8),∀x∈Lib.splitK sep 0 k t,x.length<=t.length:=by
   intro k;induction k with
   |zero=>intro t x hx;simp[Lib.splitK]at hx;subst hx;exact Nat.le_refl _
   |succ k ih=>
    intro t x hx;unfold Lib.splitK at hx;split at hx
    ·simp at hx;subst hx;exact Nat.le_refl _
    ·rcases List.mem_cons.1 hx with rfl|hx
     ·simp;omega
     ·have:=ih _ x hx;simp at this;omega
  intro x hx;have:x.data.toList∈Lib.split s sep:=by rw[<-hdata];exact List.mem_map_of_mem hx
  have:=all _ _ _ this;exact this
 have hg:H w.heap.size=none/\F w.heap.size=none:=by
  constructor
  ·cases e:H w.heap.size with
   |none=>rfl
   |some o=>exact absurd (zaT (hs.hH _ _ e)) (by omega)
  ·cases e:F w.heap.size with
   |none=>rfl
   |some o=>exact absurd (zaT (hs.hF _ _ e)) (by omega)
 let cells:Array Value:=(ps.map Value.string).toArray;have hbw:Below w.heap.size w w':=by rw[hw];exact(Below.refl _ w).alloc (Nat.le_refl _) _
 have hm:=hs.more hbw.block hbw.size ⟨hbw.os,hbw.tape,hbw.output⟩;have hcell:w'.heap[w.heap.size]? =some (.cells cells ty (0,0)):=by rw[hw];show(w.heap.push _)[w.heap.size]? =_;rw[Array.getElem?_push_size]
 have hr:∀j,(hj:j<ps.length)->Rep (zgb H w.heap.size (.cells cells ty)) [] (.str ps[j].data.toList) (.string ps[j]):=fun j hj=>.str (s:=ps[j].data.toList) (Nat.le_trans (hpl _ (ygh hj)) (by unfold BIG;omega))
 subst he;refine⟨_,_,_,zgb H w.heap.size (.cells cells ty),Z,rfl,⟨rfl,rfl⟩,?_,?_,ziw hg,fun i hi=>rfl,by simp⟩
 ·have hrl:((Lib.split s sep).map (zap .str)).length=ps.length:=by rw[<-hdata];simp
  refine .sl w.heap.size 0 cells (fun i _=>cells.getD i undef) (by omega) (Nat.le_refl _) (by unfold BIG;omega) (fun r hr=>?_) (fun _=>⟨rfl,ty,(0,0),by unfold zgb;rw[if_pos rfl]⟩) (fun i j hi hj=>?_) (fun r hr c hc=>?_) (fun i r j c hi hj=>?_)
  ·obtain⟨y,_,rfl⟩:=List.mem_map.1 hr;rfl
  ·obtain rfl:j=0:=by omega
   have:i<cells.size:=by simp[cells];omega
   simp[this]
  ·obtain⟨y,_,rfl⟩:=List.mem_map.1 hr;obtain rfl:c=.str y:=by simpa[zap]using hc
   rfl
  ·have hil:i<ps.length:=by have:=(yga.1 hi).1;omega
   rw[<-hdata,List.map_map,List.getElem?_map,ygb hil]at hi;simp at hi;subst hi;have hj0:j=0:=by have:=(yga.1 hj).1;have h1:(zap .str ps[i].data.toList).length=1:=rfl;omega
   subst hj0;obtain rfl:c=.str ps[i].data.toList:=by simpa[zap]using hj.symm
   have:cells.getD i undef=.string ps[i]:=by simp[cells,hil]
   rw[this];exact hr i hil
 ·refine{hH:=fun b o hb=>?_,gh:=hm.gh.mono (zdt hg.1),hF:=hm.hF,sm:=hm.sm,hl:=hm.hl,ent:=fun i e x hi=>by simp at hi,apart:=fun i e x hi=>by simp at hi,inj:=fun i j e e' x y hi=>by simp at hi};unfold zgb at hb;split at hb
  ·rename_i e;subst e;cases hb;exact hcell
  ·exact hm.hH _ _ hb
end Go.Fw
namespace Go.Fw
open Go
def wp{α:Type}(x:Option α)(Q:α->Prop):Prop:=∃a,x=some a/\Q a
theorem wp.mono{α:Type}{x:Option α}{Q R:α->Prop}(h:wp x Q)(hQ:∀a,Q a->R a):wp x R:=let⟨a,e,q⟩:=h;⟨a,e,hQ a q⟩
theorem ywd{α:Type}{a:α}{Q:α->Prop}:wp (some a) Q↔Q a:=⟨fun⟨_,e,q⟩=>by cases e;exact q,fun h=>⟨a,rfl,h⟩⟩
theorem ywb{α Z:Type}{x:Option α}{f:α->Option Z}{Q:Z->Prop}:wp (zaa x f) Q↔wp x fun a=>wp (f a) Q:=by
 unfold zaa;constructor
 ·rintro⟨b,e,q⟩;cases x with
  |none=>cases e
  |some a=>exact⟨a,rfl,b,e,q⟩
 ·rintro⟨a,rfl,b,e,q⟩;exact⟨b,e,q⟩
theorem ywc{α:Type}{b:Bool}{x y:Option α}{Q:α->Prop}:wp (zab b x y) Q↔(b=true->wp x Q)/\(b=false->wp y Q):=by unfold zab;cases b<;>simp
theorem ywa{α:Type}{b:Bool}{x:Option α}{Q:α->Prop}:wp (gd b x) Q↔b=true/\wp x Q:=by
 unfold gd;cases b with
 |true=>simp
 |false=>simp only[cond_false,yhj,false_and,iff_false];rintro⟨_,e,_⟩;cases e
theorem yhv{α Z γ:Type}{x:α⊕Z}{f:α->Option γ}{g:Z->Option γ}{Q:γ->Prop}:wp (caseS x f g) Q↔(∀a,x=.inl a->wp (f a) Q)/\(∀b,x=.inr b->wp (g b) Q):=by cases x<;>simp[caseS]
theorem yhw{α Z γ:Type}{a:α}{f:α->γ}{g:Z->γ}:caseS (Sum.inl a) f g=f a:=rfl
theorem yhx{α Z γ:Type}{b:Z}{f:α->γ}{g:Z->γ}:caseS (Sum.inr b) f g=g b:=rfl
theorem ywe{α:Type}{l:List α}{i:Nat}{Q:α->Prop}:wp l[i]? Q↔∃h:i<l.length,Q l[i]:=by
 constructor
 ·rintro⟨a,e,q⟩;obtain⟨h,e⟩:=yga.1 e;exact⟨h,e ▸ q⟩
 ·rintro⟨h,q⟩;exact⟨_,ygb h,q⟩
theorem ziS{σ J:Type}{b:σ->Option (σ⊕J)}:∀{n:Nat}{s:σ}{r:J},zcr b n s=some r->∀{m:Nat},n<=m->zcr b m s=some r
|0,_,_,h,_,_=>by cases h
|n+1,s,r,h,m,hm=>by
 obtain⟨m,rfl⟩:∃k,m=k+1:=⟨m-1,by omega⟩
 simp only[zcr]at h|-;split at h
 ·exact ziS h (by omega)
 ·exact h
 ·cases h
theorem zjP{σ J:Type}{b:σ->Option (σ⊕J)}{n:Nat}{s:σ}{r:J}(h:zcr b n s=some r):zaB b s=some r:=by
 rw[zmZ];have he:∃n,(zcr b n s).isSome:=⟨n,by rw[h];rfl⟩
 rw[dif_pos he];obtain⟨r',hr'⟩:=Option.isSome_iff_exists.1 he.choose_spec;rw[hr'];have h1:=ziS hr' (Nat.le_max_left he.choose n);have h2:=ziS h (Nat.le_max_right he.choose n);rw[h1]at h2;exact h2
theorem zao{σ J:Type}{b:σ->Option (σ⊕J)}{Q:J->Prop}(I:σ->Prop)(μ:σ->Nat){s:σ}(h0:I s)
 (hs:∀s,I s->wp (b s) fun x=>(∀s',x=.inl s'->I s'/\μ s'<μ s)/\(∀r,x=.inr r->Q r)):wp (zaB b s) Q:=by
 have:∀(k:Nat)(s:σ),I s->μ s<k->∃n r,zcr b n s=some r/\Q r:=by
  intro k;induction k with
  |zero=>intro s _ h;omega
  |succ k ih=>
   intro s hI hk;obtain⟨x,hx,h1,h2⟩:=hs s hI;cases x with
   |inl s'=>obtain⟨g1,g2⟩:=h1 s' rfl;obtain⟨n,r,h3,h4⟩:=ih s' g1 (by omega);exact⟨n+1,r,by simp only[zcr,hx];exact h3,h4⟩
   |inr r=>exact⟨1,r,by simp only[zcr,hx],h2 r rfl⟩
 obtain⟨n,r,h1,h2⟩:=this (μ s+1) s h0 (by omega);exact⟨r,zjP h1,h2⟩
theorem yhy{α Z:Type}{a:α}{P:α->Prop}{Q:Z->Prop}:((∀s',(Sum.inl a:α⊕Z)=.inl s'->P s')/\(∀r,(Sum.inl a:α⊕Z)=.inr r->Q r))↔P a:=by simp
theorem yhz{α Z:Type}{b:Z}{P:α->Prop}{Q:Z->Prop}:((∀s',(Sum.inr b:α⊕Z)=.inl s'->P s')/\(∀r,(Sum.inr b:α⊕Z)=.inr r->Q r))↔Q b:=by simp
def Le{α:Type}(x y:Option α):Prop:=∀r,x=some r->y=some r
theorem Le.refl{α:Type}(x:Option α):Le x x:=fun _ h=>h
theorem Le.none{α:Type}{y:Option α}:Le none y:=fun _ h=>by cases h
theorem Le.bind{α Z:Type}{x y:Option α}{f g:α->Option Z}(h:Le x y)(hf:∀a,Le (f a) (g a)):Le (zaa x f) (zaa y g):=by
 unfold zaa;intro r hr;cases x with
 |none=>cases hr
 |some a=>rw[h a rfl];exact hf a r hr
theorem Le.cond{α:Type}{b:Bool}{x y x' y':Option α}(h:Le x x')(h':Le y y'):Le (zab b x y) (zab b x' y'):=by
 cases b
 ·exact h'
 ·exact h
theorem Le.gd{α:Type}{b:Bool}{x x':Option α}(h:Le x x'):Le (gd b x) (gd b x'):=by
 cases b
 ·exact Le.none
 ·exact h
theorem Le.caseS{α Z γ:Type}{x:α⊕Z}{f f':α->Option γ}{g g':Z->Option γ}(h:∀a,Le (f a) (f' a))(h':∀b,Le (g b) (g' b)):Le (caseS x f g) (caseS x f' g'):=by
 cases x
 ·exact h _
 ·exact h' _
theorem Le.loop{σ J:Type}{b b':σ->Option (σ⊕J)}(h:∀s,Le (b s) (b' s))(s:σ):Le (zaB b s) (zaB b' s):=by
 have:∀n s,Le (zcr b n s) (zcr b' n s):=by
  intro n;induction n with
  |zero=>intro s;exact Le.none
  |succ n ih=>
   intro s r hr;simp only[zcr]at hr|-;cases hx:b s with
   |none=>rw[hx]at hr;cases hr
   |some x=>
    rw[h s x hx];rw[hx]at hr;cases x with
    |inl s'=>exact ih s' r hr
    |inr r'=>exact hr
 intro r hr;rw[zmZ]at hr;split at hr
 ·exact zjP (this _ s r hr)
 ·cases hr
theorem zfA{α Z:Type}{G:Nat->α->Option Z}(hm:∀n d,Le (G n d) (G (n+1) d)){n:Nat}{d:α}{r:Z}(h:G n d=some r):zoI G d=some r:=by
 have hm':∀k n d,Le (G n d) (G (n+k) d):=by
  intro k;induction k with
  |zero=>intro n d;exact Le.refl _
  |succ k ih=>intro n d r hr;exact hm _ _ _ (ih n d r hr)
 rw[ztZ];have he:∃n,(G n d).isSome:=⟨n,by rw[h];rfl⟩
 rw[dif_pos he];obtain⟨r',hr'⟩:=Option.isSome_iff_exists.1 he.choose_spec;rw[hr'];have h1:=hm' n he.choose d r' hr';have h2:=hm' he.choose n d r h;rw[Nat.add_comm,h1]at h2;exact h2
theorem zim{α Z:Type}{G:Nat->α->Option Z}(hm:∀n d,Le (G n d) (G (n+1) d)){n:Nat}{d:α}{Q:Z->Prop}(h:wp (G n d) Q):wp (zoI G d) Q:=let⟨a,e,q⟩:=h;⟨a,zfA hm e,q⟩
theorem zaX{n:Int}(h1:-9223372036854775808<=n)(h2:n<=9223372036854775807):zaH n=true:=by simp[zaH,h1,h2]
theorem yhu{n:Int}:zaH n=true↔-9223372036854775808<=n/\n<=9223372036854775807:=by simp[zaH]
end Go.Fw
namespace Go.Fw
open Go
theorem hBM:BIG=9223372036854775807/\LIM=1099511627776:=⟨rfl,rfl⟩
theorem zCp{α:Type}{x:Option α}{a:α}:wp x (fun y=>y=a)↔x=some a:=⟨fun⟨b,h1,h2⟩=>by rw[h1,h2],fun h=>⟨a,h,rfl⟩⟩
theorem zac{α Z:Type}{a:α}{f:α->Option Z}:zaa (some a) f=f a:=rfl
theorem zam{α:Type}{x y:Option α}:zab true x y=x:=rfl
theorem zaf{α:Type}{x y:Option α}:zab false x y=y:=rfl
theorem zdA{α:Type}{x:Option α}:gd true x=x:=rfl
theorem zrL{α:Type}{b:Bool}{x y:α}:zab b (some x) (some y)=some (bif b then x else y):=by cases b<;>rfl
theorem zaN{α:Type}{b:Bool}{x:Option α}(h:b=true):gd b x=x:=by rw[h];rfl
def zly{α Z J:Type}(step:Nat->Z->α->Z⊕J):Nat->Z->List α->Z⊕J
|_,a,[]=>.inl a
|i,a,x:: xs=>match step i a x with
 |.inl a'=>zly step (i+1) a' xs
 |.inr r=>.inr r
theorem zoK{σ τ J α Z:Type}{b:σ->Option (σ⊕(τ⊕J))}(xs:List α)(mk:Nat->Z->σ)(fin:Z->τ)(step:Nat->Z->α->Z⊕J)(P:Nat->Z->Prop){a0:Z}(h0:P 0 a0)
 (hs:∀(i:Nat)(h:i<xs.length)(a:Z),P i a->(∀a',step i a xs[i]=.inl a'->b (mk i a)=some (.inl (mk (i+1) a'))/\P (i+1) a')/\(∀r,step i a xs[i]=.inr r->b (mk i a)=some (.inr (.inr r))))
 (he:∀a,P xs.length a->b (mk xs.length a)=some (.inr (.inl (fin a)))):
 zaB b (mk 0 a0)=some (match zly step 0 a0 xs with|.inl a=>.inl (fin a)|.inr r=>.inr r):=by
 have key:∀(k i:Nat)(a:Z),k+i=xs.length->P i a->∃n,zcr b n (mk i a)=some (match zly step i a (xs.drop i)with|.inl a=>.inl (fin a)|.inr r=>.inr r):=by
  intro k;induction k with
  |zero=>
   intro i a hk hP;have hi:i=xs.length:=by omega
   subst hi;refine⟨1,?_⟩;rw[List.drop_length];simp only[zcr,he a hP,zly]
  |succ k ih=>
   intro i a hk hP;have hi:i<xs.length:=by omega
   obtain⟨h1,h2⟩:=hs i hi a hP;rw[List.drop_eq_getElem_cons hi];cases hx:step i a xs[i]with
   |inl a'=>obtain⟨g1,g2⟩:=h1 a' hx;obtain⟨n,hn⟩:=ih (i+1) a' (by omega) g2;refine⟨n+1,?_⟩;simp only[zcr,g1,zly,hx];exact hn
   |inr r=>refine⟨1,?_⟩;simp only[zcr,h2 r hx,zly,hx]
 obtain⟨n,hn⟩:=key xs.length 0 a0 (by omega) h0;exact zjP (by simpa using hn)
def ixM{α:Type}(q:α->Bool)(xs:List α):Int:=match xs.findIdx? q with|some i=>(i:Int)|none=>-1
theorem ztG{α:Type}(q:α->Bool)(xs:List α):(ixM q xs= -1/\xs.find? q=none/\xs.any q=false)\/∃(i:Nat)(h:i<xs.length),ixM q xs=i/\xs.find? q=some xs[i]/\q xs[i]=true/\xs.any q=true:=by
 unfold ixM;cases h:xs.findIdx? q with
 |none=>rw[List.findIdx?_eq_none_iff]at h;exact .inl ⟨rfl,List.find?_eq_none.2 fun x hx=>by simp[h x hx],by simpa using h⟩
 |some i=>obtain⟨hi,h1,h2⟩:=List.findIdx?_eq_some_iff_getElem.1 h;refine .inr ⟨i,hi,rfl,?_,h1,List.any_eq_true.2 ⟨_,ygh hi,h1⟩⟩;rw[List.find?_eq_some_iff_getElem];exact⟨h1,i,hi,rfl,fun j hj=>by simpa using h2 j hj⟩
theorem zxm{α:Type}(q:α->Bool)(xs:List α):decide (ixM q xs>=0)=xs.any q:=by
 rcases ztG q xs with⟨h1,_,h2⟩|⟨i,_,h1,_,_,h2⟩
 ·rw[h1,h2];rfl
 ·rw[h1,h2];simp
theorem ixf{α:Type}{xs:List α}{g:α->Option Bool}(q:α->Bool)(hl:xs.length<=4611686018427387904)(hg:∀x∈xs,g x=some (q x)):
 zaa (zaB (fun(s:Int)=>zab (decide (s<(↑(List.length xs):Int))) (gd (decide (0<=s)) (zaa xs[Int.toNat s]? fun x=>zaa (g x) fun x=>zab x (some (Sum.inr (Sum.inr s))) (gd (zaH (s+1)) (some (Sum.inl (s+1)))))) (some (Sum.inr (Sum.inl s)))) 0)
  (fun(x:Int⊕Int)=>caseS x (fun(_:Int)=>some (-1)) fun(r:Int)=>some r)=some (ixM q xs):=by
 have h:=zoK (σ:=Int) (τ:=Int) (J:=Int) (b:=fun(s:Int)=>zab (decide (s<(↑(List.length xs):Int))) (gd (decide (0<=s)) (zaa xs[Int.toNat s]? fun x=>zaa (g x) fun x=>zab x (some (Sum.inr (Sum.inr s))) (gd (zaH (s+1)) (some (Sum.inl (s+1)))))) (some (Sum.inr (Sum.inl s))))
  xs (fun i _=>(i:Int)) (fun(_:Unit)=>(xs.length:Int)) (fun i _ x=>if q x then .inr (i:Int)else .inl ()) (fun _ _=>True) (a0:=()) trivial
  (fun i hi a _=>by
   have h1:decide ((i:Int)<(↑(List.length xs):Int))=true:=by simpa using hi
   have h2:decide (0<=(i:Int))=true:=by simp
   have h3:zaH ((i:Int)+1)=true:=zaX (by omega) (by omega);have h4:g xs[i]=some (q xs[i]):=hg _ (ygh hi);simp only[h1,h2,h3,zam,zdA,Int.toNat_natCast,ygb hi,zac,h4];cases hq:q xs[i]with
   |true=>exact⟨fun a' h=>by simp at h,fun r h=>by simp at h;rw[h];rfl⟩
   |false=>exact⟨fun a' h=>⟨by simp[zaf],trivial⟩,fun r h=>by simp at h⟩)
  (fun a _=>by
   have h1:decide ((xs.length:Int)<(↑(List.length xs):Int))=false:=by simp
   simp only[h1,zaf])
 have h5:∀(ys:List α)(i:Nat),zly (Z:=Unit) (J:=Int) (fun i _ x=>if q x then .inr (i:Int)else .inl ()) i () ys=match ys.findIdx? q with|some k=>.inr ((k+i:Nat):Int)|none=>.inl ():=by
  intro ys;induction ys with
  |nil=>intro i;rfl
  |cons y ys ih=>
   intro i;simp only[zly,List.findIdx?_cons];cases hq:q y with
   |true=>simp
   |false=>
    simp only[yhj,if_false];rw[ih (i+1)];cases h:ys.findIdx? q with
    |none=>rfl
    |some k=>simp;omega
 rw[h5 xs 0]at h;have h':zaB (fun(s:Int)=>zab (decide (s<(↑(List.length xs):Int))) (gd (decide (0<=s)) (zaa xs[Int.toNat s]? fun x=>zaa (g x) fun x=>zab x (some (Sum.inr (Sum.inr s))) (gd (zaH (s+1)) (some (Sum.inl (s+1)))))) (some (Sum.inr (Sum.inl s)))) (0:Int)=_:=h;rw[h'];unfold ixM;cases xs.findIdx? q with
 |none=>rfl
 |some k=>simp[zac,caseS]
def fsI{α J:Type}(f:Nat->α->Option J):Nat->List α->Option J
|_,[]=>none
|i,x:: xs=>match f i x with
 |some r=>some r
 |none=>fsI f (i+1) xs
def zsX{α:Type}(q:Nat->α->Bool):Nat->List α->Bool
|_,[]=>true
|i,x:: xs=>q i x&&zsX q (i+1) xs
theorem zpK{α J:Type}(q:Nat->α->Bool)(r:J)(xs:List α)(i:Nat):fsI (fun i x=>bif q i x then none else some r) i xs=bif zsX q i xs then none else some r:=by
 induction xs generalizing i with
 |nil=>rfl
 |cons x xs ih=>
  simp only[fsI,zsX];by_cases h:q i x=true
  ·simp only[h,cond_true,Bool.true_and];exact ih (i+1)
  ·have h':q i x=false:=by simpa using h
   simp only[h',cond_false,Bool.false_and]
theorem zvV{α J:Type}(f:α->Option J)(xs:List α)(i:Nat):fsI (fun _ x=>f x) i xs=xs.findSome? f:=by
 induction xs generalizing i with
 |nil=>rfl
 |cons x xs ih=>
  simp only[fsI,List.findSome?_cons];cases h:f x with
  |some r=>rfl
  |none=>exact ih (i+1)
theorem zqF{α:Type}(q:Nat->α->Bool)(xs:List α)(i:Nat):zsX q i xs=true↔∀(j:Nat)(h:j<xs.length),q (i+j) xs[j]=true:=by
 induction xs generalizing i with
 |nil=>simp[zsX]
 |cons x xs ih=>
  simp only[zsX,yhb,ih];constructor
  ·rintro⟨h1,h2⟩ j hj;cases j with
   |zero=>exact h1
   |succ j=>have:=h2 j (by simpa using hj);simpa[Nat.add_assoc,Nat.add_comm 1 j]using this
  ·intro h;refine⟨h 0 (by simp),fun j hj=>?_⟩;have:=h (j+1) (by simpa using hj);simpa[Nat.add_assoc,Nat.add_comm 1 j]using this
theorem zwO{σ τ J γ α:Type}{b:σ->Option (σ⊕(τ⊕J))}{s0:σ}{k:τ⊕J->Option γ}(xs:List α)(mk:Nat->σ)(e:τ)(f:Nat->α->Option J)(h0:mk 0=s0)
 (hs:∀(i:Nat)(h:i<xs.length),b (mk i)=match f i xs[i]with|some r=>some (.inr (.inr r))|none=>some (.inl (mk (i+1))))
 (he:b (mk xs.length)=some (.inr (.inl e))):
 zaa (zaB b s0) k=match fsI f 0 xs with|some r=>k (.inr r)|none=>k (.inl e):=by
 have h:=zoK (b:=b) xs (fun i _=>mk i) (fun(_:Unit)=>e) (fun i _ x=>match f i x with|some r=>.inr r|none=>.inl ()) (fun _ _=>True) (a0:=()) trivial
  (fun i hi a _=>by
   rw[hs i hi];cases f i xs[i]with
   |some r=>exact⟨fun a' h=>(by simp at h),fun r' h=>by simp at h;rw[h]⟩
   |none=>exact⟨fun a' h=>⟨rfl,trivial⟩,fun r' h=>by simp at h⟩)
  (fun a _=>he)
 have h5:∀(ys:List α)(i:Nat),zly (Z:=Unit) (J:=J) (fun i _ x=>match f i x with|some r=>.inr r|none=>.inl ()) i () ys=match fsI f i ys with|some r=>.inr r|none=>.inl ():=by
  intro ys;induction ys with
  |nil=>intro i;rfl
  |cons y ys ih=>
   intro i;simp only[zly,fsI];cases f i y with
   |some r=>rfl
   |none=>exact ih (i+1)
 rw[h5]at h;rw[<-h0,h,zac];cases fsI f 0 xs<;>rfl
theorem znu{σ τ γ:Type}{b:σ->Option (σ⊕τ)}{s0:σ}{k:τ->Option γ}(n:Nat)(st:Nat->σ)(e:τ)(h0:st 0=s0)(hs:∀(i:Nat),i<n->b (st i)=some (.inl (st (i+1))))(he:b (st n)=some (.inr e)):
 zaa (zaB b s0) k=k e:=by
 have key:∀(m i:Nat),m+i=n->∃f,zcr b f (st i)=some e:=by
  intro m;induction m with
  |zero=>
   intro i hi;have:i=n:=by omega
   subst this;exact⟨1,by simp only[zcr,he]⟩
  |succ m ih=>intro i hi;obtain⟨f,hf⟩:=ih (i+1) (by omega);exact⟨f+1,by simp only[zcr,hs i (by omega)];exact hf⟩
 obtain⟨f,hf⟩:=key n 0 (by omega);rw[<-h0,zjP hf,zac]
theorem up{n:Nat}(h:n<=1048576):n<=4611686018427387904:=Nat.le_trans h (by decide)
theorem zl7{α:Type}{xs:List α}{i:Nat}(h:i<xs.length):xs[Int.toNat (i:Int)]? =some xs[i]:=by rw[Int.toNat_natCast,ygb h]
theorem zpC{i n:Nat}(h:i<n):decide ((i:Int)<(n:Int))=true:=by simpa using h
theorem zkz{n:Nat}:decide ((n:Int)<(n:Int))=false:=by simp
theorem zog{i:Nat}:decide (0<=(i:Int))=true:=by simp
theorem zjm{i n:Nat}(h:i<n)(hn:n<=4611686018427387904):zaH ((i:Int)+1)=true:=zaX (by omega) (by omega)
theorem zz6{i:Nat}:(i:Int)+1=((i+1:Nat):Int):=by omega
end Go.Fw
