/- A part of the proof: what stands for the program, its functions, and what they come to. -/
import Derived.Test.YtegfaamnjbicjaaGreatDoorM1
import Derived.Orders
set_option linter.all false
namespace Go.Fw
open Go
mutual
def AV.ren(J:Nat->Nat):AV->AV
|.ms i es off len=>.ms (J i) es off len
|.mp i r off=>.mp (J i) r off
|.mapr i=>.mapr (J i)
|.agg cs=>.agg (AV.renL J cs)
|.tup cs=>.tup (AV.renL J cs)
|.fn f cs=>.fn f (AV.renL J cs)
|.opt b v=>.opt b (v.ren J)
|.junk=>.junk
|.int k n=>.int k n
|.bool b=>.bool b
|.str s=>.str s
|.e0=>.e0
|.sl es rows=>.sl es rows
|.ip cs=>.ip cs
|.nilp=>.nilp
|.nilf=>.nilf
|.nilm=>.nilm
def AV.renL(J:Nat->Nat):List AV->List AV
|[]=>[]
|c:: cs=>c.ren J:: AV.renL J cs
end
theorem AV.renL_eq(J:Nat->Nat):∀l:List AV,AV.renL J l=l.map (AV.ren J)
|[]=>by simp[AV.renL]
|c:: cs=>by simp[AV.renL,AV.renL_eq J cs]
theorem AV.isCell_ren(J:Nat->Nat)(v:AV):(v.ren J).isCell=v.isCell:=by cases v<;>simp[AV.ren]
mutual
theorem AV.ren_pure(J:Nat->Nat):∀v:AV,v.pure=true->v.ren J=v
|.ms ..,h|.mp ..,h|.mapr _,h=>by simp at h
|.agg cs,h=>by simp only[AV.ren];rw[AV.renL_pure J cs (by simpa using h)]
|.tup cs,h=>by simp only[AV.ren];rw[AV.renL_pure J cs (by simpa using h)]
|.fn f cs,h=>by simp only[AV.ren];rw[AV.renL_pure J cs (by simpa using h)]
|.opt b v,h=>by simp only[AV.ren];rw[AV.ren_pure J v (by simpa using h)]
|.junk,_|.int _ _,_|.bool _,_|.str _,_|.e0,_|.sl _ _,_|.ip _,_|.nilp,_|.nilf,_|.nilm,_=>by simp[AV.ren]
theorem AV.renL_pure(J:Nat->Nat):∀l:List AV,AV.pureL l=true->AV.renL J l=l
|[],_=>by simp[AV.renL]
|c:: cs,h=>by simp only[ziW,yhb]at h;simp only[AV.renL];rw[AV.ren_pure J c h.1,AV.renL_pure J cs h.2]
end
theorem Rep.ren{H:Hp}{Z β':Bt}{v:AV}{x:Value}{J:Nat->Nat}(r:Rep H Z v x)(h:∀(i:Nat) y,Z[i]? =some y->β'[J i]? =some y):Rep H β' (v.ren J) x:=by
 induction r generalizing β' with
 |junk=>exact .junk
 |int hr=>simp only[AV.ren];exact .int hr
 |bool=>simp only[AV.ren];exact .bool
 |str hr=>simp only[AV.ren];exact .str hr
 |agg hl hc _ ih=>
  simp only[AV.ren,AV.renL_eq];refine .agg (by simpa using hl) (fun c hc'=>?_) fun i c v h1 h2=>?_
  ·obtain⟨d,hd,rfl⟩:=List.mem_map.1 hc';rw[AV.isCell_ren];exact hc d hd
  ·rw[List.getElem?_map,Option.map_eq_some_iff]at h1;obtain⟨d,hd,rfl⟩:=h1;exact ih i d v hd h2 h
 |tup hl _ ih=>simp only[AV.ren,AV.renL_eq];refine .tup (by simpa using hl) fun i c v h1 h2=>?_;rw[List.getElem?_map,Option.map_eq_some_iff]at h1;obtain⟨d,hd,rfl⟩:=h1;exact ih i d v hd h2 h
 |e0=>simp only[AV.ren];exact .e0
 |sl b o cells f hlen hcap hbig hes hblk hc hcell hh _=>simp only[AV.ren];exact .sl b o cells f hlen hcap hbig hes hblk hc hcell hh
 |ip f hH hc hcell hh _=>simp only[AV.ren];exact .ip f hH hc hcell hh
 |ms hβ h1 hlen hbig=>simp only[AV.ren];exact .ms (h _ _ hβ) h1 hlen hbig
 |ms0 hβ=>simp only[AV.ren];exact .ms0 (h _ _ hβ)
 |mp hβ=>simp only[AV.ren];exact .mp (h _ _ hβ)
 |fn hf hl _ ih=>simp only[AV.ren,AV.renL_eq];refine .fn hf (by simpa using hl) fun i c v h1 h2=>?_;rw[List.getElem?_map,Option.map_eq_some_iff]at h1;obtain⟨d,hd,rfl⟩:=h1;exact ih i d v hd h2 h
 |er h1 h2 h3 _ ih=>simp only[AV.ren,AV.renL_eq];refine .er h1 h2 (by simpa using h3) fun i c hi=>?_;rw[List.getElem?_map,Option.map_eq_some_iff]at hi;obtain⟨d,hd,rfl⟩:=hi;exact ih i d hd h
 |mapr hβ=>simp only[AV.ren];exact .mapr (h _ _ hβ)
 |nilp=>simp only[AV.ren];exact .nilp
 |nilf=>simp only[AV.ren];exact .nilf
 |nili=>simp only[AV.ren];exact .nili
 |nilm=>simp only[AV.ren];exact .nilm
 |opt _ ih=>simp only[AV.ren];exact .opt fun hb=>ih hb h
mutual
theorem Rep.unren{H:Hp}{Z β':Bt}{J:Nat->Nat}{n:Nat}(h:∀(i:Nat) y,i<n->β'[J i]? =some y->Z[i]? =some y):∀(v:AV)(x:Value),v.bel n=true->Rep H β' (v.ren J) x->Rep H Z v x
|.junk,_,_,_=>.junk
|.int _ _,_,_,r=>by simp only[AV.ren]at r;cases r;exact .int (by assumption)
|.bool _,_,_,r=>by simp only[AV.ren]at r;cases r;exact .bool
|.str _,_,_,r=>by simp only[AV.ren]at r;cases r;exact .str (by assumption)
|.e0,_,_,r=>by simp only[AV.ren]at r;cases r;exact .e0
|.nilp,_,_,r=>by simp only[AV.ren]at r;cases r;exact .nilp
|.nilf,_,_,r=>by
 simp only[AV.ren]at r;cases r
 ·exact .nilf
 ·exact .nili
|.nilm,_,_,r=>by simp only[AV.ren]at r;cases r;exact .nilm
|.sl _ _,_,_,r=>by simp only[AV.ren]at r;exact r.pure (by simp) Z
|.ip _,_,_,r=>by simp only[AV.ren]at r;exact r.pure (by simp) Z
|.ms i es off len,_,hb,r=>by
 simp only[AV.ren]at r;simp[AV.bel]at hb;cases r with
 |ms hβ h1 hlen hbig=>exact .ms (h i _ hb hβ) h1 hlen hbig
 |ms0 hβ=>exact .ms0 (h i _ hb hβ)
|.mp i r' off,_,hb,r=>by
 simp only[AV.ren]at r;simp[AV.bel]at hb;cases r with
 |mp hβ=>exact .mp (h i _ hb hβ)
|.mapr i,_,hb,r=>by
 simp only[AV.ren]at r;simp[AV.bel]at hb;cases r with
 |mapr hβ=>exact .mapr (h i _ hb hβ)
|.opt b v,x,hb,r=>by
 simp only[AV.ren]at r;simp only[AV.bel]at hb;cases r with
 |opt hh=>exact .opt fun hbt=>Rep.unren h v x hb (hh hbt)
|.agg cs,_,hb,r=>by
 simp only[AV.ren]at r;simp only[AV.bel]at hb;cases r with
 | @agg _ _ vs hl hc hh=>obtain⟨g1,g2⟩:=Rep.unrenL h cs vs.toList hb (fun i c v h1 h2=>hh i c v h1 (by simpa using h2));refine .agg (by rw[hl,AV.renL_eq];simp) (fun c hc'=>?_) fun i c v h1 h2=>g2 i c v h1 (by simpa using h2);rw[<-AV.isCell_ren J];exact hc _ (by rw[AV.renL_eq];exact List.mem_map.2 ⟨c,hc',rfl⟩)
|.tup cs,_,hb,r=>by
 simp only[AV.ren]at r;simp only[AV.bel]at hb;cases r with
 | @tup _ _ vs hl hh=>obtain⟨g1,g2⟩:=Rep.unrenL h cs vs.toList hb (fun i c v h1 h2=>hh i c v h1 (by simpa using h2));exact .tup (by rw[hl,AV.renL_eq];simp) fun i c v h1 h2=>g2 i c v h1 (by simpa using h2)
|.fn f cs,_,hb,r=>by
 simp only[AV.ren]at r;simp only[AV.bel]at hb;cases r with
 | @fn _ _ _ fst vs hf hl hh=>obtain⟨g1,g2⟩:=Rep.unrenL h cs (fst++vs).toList hb (fun i c v h1 h2=>hh i c v h1 (by rw[<-Array.getElem?_toList];exact h2));exact .fn hf (by rw[hl,AV.renL_eq];simp) fun i c v h1 h2=>g2 i c v h1 (by rw[Array.getElem?_toList];exact h2)
 | @er _ _ _ _ b h1 h2 h3 hh=>
  obtain⟨_,g2⟩:=Rep.unrenL h cs [.bool b] hb (fun i c v h1 h2=>by
   obtain⟨_,rfl⟩:i=0/\v=.bool b:=by cases i<;>simp_all
   exact hh i c h1)
  have h3:cs.length=1:=by rw[<-h3,AV.renL_eq];simp
  exact .er h1 h2 h3 fun i c hi=>g2 i c _ hi (by
   obtain rfl:i=0:=by have:=(yga.1 hi).1;omega
   rfl)
theorem Rep.unrenL{H:Hp}{Z β':Bt}{J:Nat->Nat}{n:Nat}(h:∀(i:Nat) y,i<n->β'[J i]? =some y->Z[i]? =some y):∀(cs:List AV)(vs:List Value),AV.belL n cs=true->
 (∀(i:Nat) c v,(AV.renL J cs)[i]? =some c->vs[i]? =some v->Rep H β' c v)->True/\∀(i:Nat) c v,cs[i]? =some c->vs[i]? =some v->Rep H Z c v
 |[],_,_,_=>by simp
 |_:: _,[],_,_=>by simp
 |c:: cs,v:: vs,hb,hh=>by
  simp only[AV.belL,yhb]at hb;simp only[AV.renL]at hh;refine⟨trivial,fun i c' v' h1 h2=>?_⟩;cases i with
  |zero=>simp at h1 h2;subst h1;subst h2;exact Rep.unren h c v hb.1 (hh 0 _ _ rfl rfl)
  |succ i=>exact(Rep.unrenL h cs vs hb.2 (fun i c v g1 g2=>hh (i+1) c v (by simpa using g1) (by simpa using g2))).2 i c' v' (by simpa using h1) (by simpa using h2)
end
def Ent.ren(J:Nat->Nat):Ent->Ent
|.dead=>.dead
|.arr es rows=>.arr es (rows.map fun r=>r.map (AV.ren J))
|.mp es=>.mp (es.map fun e=>(e.1.ren J,e.2.ren J))
theorem Ent.live_ren(J:Nat->Nat)(e:Ent):(e.ren J).live=e.live:=by cases e<;>rfl
theorem EntOk.ren{H:Hp}{Z β':Bt}{w:World}{e:Ent}{x:Option (Nat×Nat×Nat)}{J:Nat->Nat}(h:EntOk H Z w e x)(hρ:∀(i:Nat) y,Z[i]? =some y->β'[J i]? =some y):EntOk H β' w (e.ren J) x:=by
 cases e with
 |dead=>trivial
 |arr es rows=>
  cases x with
  |none=>simp only[EntOk]at h;subst h;rfl
  |some x=>
   obtain⟨b,es',cap⟩:=x;obtain⟨h1,cells,elem,h2,h3,h4,h5,h6,h7,h8⟩:=h;refine⟨h1,cells,elem,h2,h3,by simpa using h4,?_,?_,fun i r j c hr hc=>?_,fun hne=>h8 fun e=>hne (by simp[e])⟩
   ·intro r hr;obtain⟨q,hq,rfl⟩:=List.mem_map.1 hr;simpa using h5 q hq
   ·intro r hr c hc;obtain⟨q,hq,rfl⟩:=List.mem_map.1 hr;obtain⟨d,hd,rfl⟩:=List.mem_map.1 hc;rw[AV.isCell_ren];exact h6 q hq d hd
   ·rw[List.getElem?_map,Option.map_eq_some_iff]at hr;obtain⟨q,hq,rfl⟩:=hr;rw[List.getElem?_map,Option.map_eq_some_iff]at hc;obtain⟨d,hd,rfl⟩:=hc;obtain⟨v,hv,hrep⟩:=h7 i q j d hq hd;exact⟨v,hv,hrep.ren hρ⟩
 |mp es=>
  cases x with
  |none=>exact h
  |some x=>obtain⟨b,es',cap⟩:=x;obtain⟨ents,clock,h2,h3,h4⟩:=h;refine⟨ents,clock,h2,by simpa using h3,fun i k v e hi he=>?_⟩;rw[List.getElem?_map,Option.map_eq_some_iff]at hi;obtain⟨⟨k',v'⟩,hq,hkv⟩:=hi;cases hkv;obtain⟨r1,r2⟩:=h4 i k' v' e hq he;exact⟨r1.ren hρ,r2.ren hρ⟩
theorem EntOk.unren{H:Hp}{Z β':Bt}{w:World}{e:Ent}{x:Option (Nat×Nat×Nat)}{J:Nat->Nat}{n:Nat}(h:EntOk H β' w (e.ren J) x)(hb:e.bel n)(hρ:∀(i:Nat) y,i<n->β'[J i]? =some y->Z[i]? =some y):EntOk H Z w e x:=by
 cases e with
 |dead=>trivial
 |arr es rows=>
  cases x with
  |none=>simp only[Ent.ren,EntOk,List.map_eq_nil_iff]at h;exact h
  |some x=>
   obtain⟨b,es',cap⟩:=x;obtain⟨h1,cells,elem,h2,h3,h4,h5,h6,h7,h8⟩:=h;refine⟨h1,cells,elem,h2,h3,by simpa using h4,?_,?_,fun i r j c hr hc=>?_,fun hne=>h8 fun e=>hne (by simpa using e)⟩
   ·intro r hr;simpa using h5 _ (List.mem_map.2 ⟨r,hr,rfl⟩)
   ·intro r hr c hc;rw[<-AV.isCell_ren J];exact h6 _ (List.mem_map.2 ⟨r,hr,rfl⟩) _ (List.mem_map.2 ⟨c,hc,rfl⟩)
   ·obtain⟨v,hv,hrep⟩:=h7 i (r.map (AV.ren J)) j (c.ren J) (by simp[hr]) (by simp[hc]);exact⟨v,hv,Rep.unren hρ c v (hb r (ygd hr) c (ygd hc)) hrep⟩
 |mp es=>
  cases x with
  |none=>exact h
  |some x=>obtain⟨b,es',cap⟩:=x;obtain⟨ents,clock,h2,h3,h4⟩:=h;refine⟨ents,clock,h2,by simpa using h3,fun i k v e hi he=>?_⟩;obtain⟨r1,r2⟩:=h4 i (k.ren J) (v.ren J) e (by simp[hi]) he;have:=hb _ (ygd hi);exact⟨Rep.unren hρ k _ this.1 r1,Rep.unren hρ v _ this.2 r2⟩
def Spec(P:Program)(f:FuncId)(args:List AV)(mem:List Ent)(R:AV->List Ent->Prop):Prop:=
 (∀as w,(callFunc f as).run P w=.ok (.enter f as) w)/\
 ∀(H:Hp)(F:Fr)(Z:Bt)(cargs:Array Value)(w:World),Sat H F Z mem w->cargs.size=args.length->(∀(i:Nat) v x,args[i]? =some v->cargs[i]? =some x->Rep H Z v x)->
  Calls P f cargs w fun e w'=>∃v r m' H' β',e=.returned v/\R r m'/\Rep H' β' r v/\Sat H' F β' m' w'/\HX F H H'/\zvu mem.length Z β'/\mem.length<=m'.length
def zed:Nat->List AV->List (Nat×AV)
|_,[]=>[]
|n,v:: l=>(n,v):: zed (n+1) l
theorem zg5:∀(l:List AV)(n i:Nat),look (zed n l) i=if n<=i then l.getD (i-n) .junk else .junk
|[],n,i=>by simp[zed]
|v:: l,n,i=>by
 simp only[zed,look,zg5 l (n+1) i];by_cases h:n=i
 ·subst h;simp
 ·rw[if_neg h];by_cases h2:n<=i
  ·rw[if_pos (by omega),if_pos h2,show i-n=(i-(n+1))+1 by omega];simp
  ·rw[if_neg (by omega),if_neg h2]
theorem Spec.of_AW{P:Program}{f:FuncId}{fn:Func}{c0:Code}{c:CC}{args:List AV}{mem:List Ent}{R:AV->List Ent->Prop}(hf:P.funcs[f]? =some fn)(hcall:∀as w,(callFunc f as).run P w=.ok (.enter f as) w)
 (hb:fn.body=some c0)(hc:chkC P fn.ntmps c c0=true)(hn:args.length<=fn.ntmps)(hR:∀r m,R r m->mem.length<=m.length)(h:AW ⟨P,fn,mem.length,R⟩ [.code c] ⟨zed 0 args,mem⟩):Spec P f args mem R:=by
 refine⟨hcall,fun H F Z cargs w hs hl ha cs=>?_⟩;let b:Frame:={(default:Frame)with fn:=f,kind:=.normal}
 have henter:Frame.enter P f cargs .normal=b.at {tmps:=cargs++Array.replicate (fn.ntmps-cargs.size) undef,defers:=[] } [.code c0]:=by simp[Frame.enter,Frame.at,hf,hb,b]
 obtain⟨a',todo',w',v,r,m',H',β',s1,s2,s3,s4,s5,s6,s7,s8⟩:=h H F Z {tmps:=cargs++Array.replicate (fn.ntmps-cargs.size) undef,defers:=[] } w b cs [.code c0] (.code hc .nil)
  ⟨rfl,by simp;omega,fun n=>by
   rw[zg5,if_pos (Nat.zero_le _),Nat.sub_zero];by_cases hlt:n<args.length
   ·have h1:args[n]? =some args[n]:=ygb hlt;have h2:cargs[n]? =some cargs[n]:=Array.getElem?_eq_getElem (by omega);have:=ha n _ _ h1 h2;have e1:args.getD n .junk=args[n]:=by simp[hlt]
    have e2:(cargs++Array.replicate (fn.ntmps-cargs.size) undef).getD n undef=cargs[n]'(by omega):=by
     have:n<cargs.size:=by omega
     simp[Array.getElem?_append_left this,this]
    simp only[e1,e2];exact this
   ·have e1:args.getD n .junk=.junk:=by simp[hlt]
    rw[e1];exact .junk,hs⟩ (Nat.le_refl _)
 exact⟨.returned v,w',_,⟨v,r,m',H',β',rfl,s4,s5,s6,s7,s8,hR _ _ s4⟩,by rw[henter];exact s1,rfl,rfl,s2,rfl,fn,hf,s3⟩
end Go.Fw
namespace Go.Fw
open Go
def zcX(mem:List Ent):List Nat->List Ent->List Ent
|i:: is,e:: es=>(zcX mem is es).set i e
|_,_=>mem
@[simp] theorem za3 (mem:List Ent):∀(is:List Nat)(es:List Ent),(zcX mem is es).length=mem.length
|[],_=>by simp[zcX]
|_:: _,[]=>by simp[zcX]
|i:: is,e:: es=>by simp[zcX,za3 mem is es]
theorem zi4(mem:List Ent)(k:Nat):∀(is:List Nat)(es:List Ent),k∉is->(zcX mem is es)[k]? =mem[k]?
|[],_,_=>by simp[zcX]
|_:: _,[],_=>by simp[zcX]
|i:: is,e:: es,h=>by simp only[List.mem_cons,not_or]at h;simp only[zcX];rw[ygg (Ne.symm h.1)];exact zi4 mem k is es h.2
theorem zlp(mem:List Ent):∀(is:List Nat)(es:List Ent),is.Nodup->∀(j i:Nat) e,is[j]? =some i->es[j]? =some e->i<mem.length->(zcX mem is es)[i]? =some e
|[],_,_,j,i,e,h,_,_=>by simp at h
|_:: _,[],_,j,i,e,_,h,_=>by simp at h
|i0:: is,e0:: es,hn,j,i,e,hi,he,hlt=>by
 simp only[zcX];cases j with
 |zero=>simp at hi he;subst hi;subst he;rw[List.getElem?_set];simp[hlt]
 |succ j=>
  have hi':is[j]? =some i:=by simpa using hi
  have hne:i0≠i:=by intro h;subst h;exact(List.nodup_cons.1 hn).1 (ygd hi')
  rw[ygg hne];exact zlp mem is es (List.nodup_cons.1 hn).2 j i e hi' (by simpa using he) hlt
def ren(is:List Nat)(n:Nat)(j:Nat):Nat:=if j<is.length then is.getD j 0 else n+(j-is.length)
theorem zrs{is:List Nat}{n j:Nat}(h:j<is.length):ren is n j=is[j]:=by simp[ren,h]
theorem zcs{is:List Nat}{n j i:Nat}(h:is[j]? =some i):ren is n j=i:=by have hl:=(yga.1 h).1;rw[zrs hl];rw[ygb hl]at h;cases h;rfl
section
open Classical
variable {P:Program}{H:Hp}{F:Fr}{Z:Bt}{N:Nat}{st:St}{a:Act}{w:World}
noncomputable def zgp(w0 w:World)(memC:List Ent)(βC:Bt):Fr:=⟨fun b=>if ∃(j:Nat)(e:Ent)(x:Nat×Nat×Nat),memC[j]? =some e/\e.live=true/\βC[j]? =some (some x)/\x.1=b then none else w.heap[b]?,w0⟩
theorem zmC{memC m':List Ent}{is:List Nat}{βC':Bt}{H':Hp}{w':World}(hs:Sat H F Z st.mem w)(hlen:is.length=memC.length)(hnd:is.Nodup)
 (hent:∀(j i:Nat) e,is[j]? =some i->memC[j]? =some e->st.mem[i]? =some (e.ren (ren is st.mem.length)))(hlt:∀i∈is,i<st.mem.length)
 (hs':Sat H' (zgp F.w0 w memC (is.map fun i=>(Z[i]?).getD none)) βC' m' w')(hx:HX (zgp F.w0 w memC (is.map fun i=>(Z[i]?).getD none)) H H')
 (hb:zvu memC.length (is.map fun i=>(Z[i]?).getD none) βC')(hm:memC.length<=m'.length):
 Sat H' F (Z ++ βC'.drop is.length) (zcX st.mem is ((m'.take is.length).map (Ent.ren (ren is st.mem.length)))++(m'.drop is.length).map (Ent.ren (ren is st.mem.length))) w'/\HX F H H'/\
  (∀(i:Nat) y,βC'[i]? =some y->(Z ++ βC'.drop is.length)[ren is st.mem.length i]? =some y):=by
 generalize hρ:ren is st.mem.length=J at *;generalize hβC:(is.map fun i=>(Z[i]?).getD none)=βC at *;have hβl:Z.length=st.mem.length:=hs.hl;have bC:∀(j i:Nat),is[j]? =some i->βC[j]? =Z[i]?:=by intro j i h;subst hβC;have hi:=hlt i (ygd h);rw[List.getElem?_map,h];simp[ygb (show i<Z.length by omega)]
 have eq0:∀(j i:Nat),is[j]? =some i->βC'[j]? =Z[i]?:=by intro j i h;have hj:=(yga.1 h).1;rw[hb j (by omega),bC j i h]
 have hρ':∀(i:Nat) y,βC'[i]? =some y->(Z ++ βC'.drop is.length)[J i]? =some y:=by
  intro i y hi;by_cases h:i<is.length
  ·have e:J i=is[i]:=by rw[<-hρ];exact zrs h
   rw[e];have h1:is[i]? =some is[i]:=ygb h;have h2:=hlt _ (ygd h1);rw[yge (by omega),<-eq0 i _ h1];exact hi
  ·have e:J i=st.mem.length+(i-is.length):=by rw[<-hρ];simp[ren,h]
   rw[e,ygf (by omega),List.getElem?_drop,hβl,show is.length+(st.mem.length+(i-is.length)-st.mem.length)=i by omega];exact hi
 have own:∀b,zgp F.w0 w memC βC b=none->b<w.heap.size->∃(j i:Nat)(e:Ent)(x:Nat×Nat×Nat),is[j]? =some i/\memC[j]? =some e/\e.live=true/\Z[i]? =some (some x)/\x.1=b:=by
  intro b hf hlt';unfold zgp at hf;dsimp only at hf;split at hf
  ·rename_i h;obtain⟨j,e,x,h1,h2,h3,h4⟩:=h;have hj:j<is.length:=by have:=(yga.1 h1).1;omega
   have hji:is[j]? =some is[j]:=ygb hj;exact⟨j,is[j],e,x,hji,h1,h2,by rw[<-bC j _ hji];exact h3,h4⟩
  ·rw[Array.getElem?_eq_getElem hlt']at hf;cases hf
 have ownF:∀b,zgp F.w0 w memC βC b=none->F b=none:=by
  intro b hf;cases hFb:F b with
  |none=>rfl
  |some o=>have h1:=hs.hF _ _ hFb;obtain⟨j,i,e,x,g1,g2,g3,g4,g5⟩:=own b hf (zaT h1);have:=(hs.apart i _ x (hent j i e g1 g2) (by rw[Ent.live_ren];exact g3) g4).2;rw[g5,hFb]at this;cases this
 have notown:∀(i:Nat)(e:Ent)(x:Nat×Nat×Nat),i∉is->st.mem[i]? =some e->e.live=true->Z[i]? =some (some x)->zgp F.w0 w memC βC x.1=w.heap[x.1]?/\x.1<w.heap.size:=by
  intro i e x hi he hl hx';have hblt:=(hs.ent i e _ he hx').lt (b:=x.1) (es:=x.2.1) (cap:=x.2.2) hl;refine⟨?_,hblt⟩;cases hf:zgp F.w0 w memC βC x.1 with
  |none=>obtain⟨j,i',e',y,g1,g2,g3,g4,g5⟩:=own _ hf hblt;have:=hs.inj i i' e _ x y he hl (hent j i' e' g1 g2) (by rw[Ent.live_ren];exact g3) hx' g4 g5.symm;subst this;exact absurd (ygd g1) hi
  |some o=>
   unfold zgp at hf;dsimp only at hf;split at hf
   ·cases hf
   ·exact hf.symm
 have hxF:HX F H H':=⟨hx.1,fun b o h=>by
  rcases hx.2 b o h with h|h
  ·exact .inl h
  ·exact .inr (ownF b h)⟩
 refine⟨?_,hxF,hρ'⟩;have cls:∀(i:Nat)(e:Ent),(zcX st.mem is ((m'.take is.length).map (Ent.ren J))++(m'.drop is.length).map (Ent.ren J))[i]? =some e->
  (i<st.mem.length/\i∉is/\st.mem[i]? =some e)\/(∃(j:Nat)(e':Ent),m'[j]? =some e'/\e=e'.ren J/\i=J j):=by
  intro i e hi;rw[List.getElem?_append]at hi;split at hi
  ·rename_i hil;rw[za3]at hil;by_cases hmem:i∈is
   ·obtain⟨j,hj,rfl⟩:=List.getElem_of_mem hmem;have hjm:j<m'.length:=by omega
    have:=zlp st.mem is ((m'.take is.length).map (Ent.ren J)) hnd j is[j] (m'[j].ren J) (ygb hj) (by simp[hj,hjm]) hil;rw[this]at hi;cases hi;exact .inr ⟨j,m'[j],ygb hjm,rfl,by rw[<-hρ,zrs hj]⟩
   ·rw[zi4 st.mem i is _ hmem]at hi;exact .inl ⟨hil,hmem,hi⟩
  ·rename_i hil;rw[za3]at hil hi;rw[List.getElem?_map,Option.map_eq_some_iff]at hi;obtain⟨e',he',rfl⟩:=hi;rw[List.getElem?_drop]at he';refine .inr ⟨_,e',he',rfl,?_⟩;rw[<-hρ];unfold ren;rw[if_neg (by omega)];omega
 have clsβ1:∀(i:Nat) x,i<st.mem.length->(Z ++ βC'.drop is.length)[i]? =some x->Z[i]? =some x:=by intro i x h1 h2;rw[yge (by omega)]at h2;exact h2
 have clsβ2:∀(j:Nat)(e':Ent) x,m'[j]? =some e'->(Z ++ βC'.drop is.length)[J j]? =some x->βC'[j]? =some x:=by
  intro j e' x h1 h2;have hj:j<βC'.length:=by rw[hs'.hl];exact(yga.1 h1).1
  have h3:βC'[j]? =some βC'[j]:=ygb hj;rw[hρ' j _ h3]at h2;cases h2;exact h3
 refine{hH:=hs'.hH,gh:=hs'.gh,hF:=fun b o h=>?_,sm:=⟨hs'.sm.os,hs'.sm.tape,hs'.sm.output,hs'.sm.size⟩,hl:=?_,ent:=fun i e x hi hx'=>?_,apart:=fun i e x hi he hx'=>?_,inj:=fun i k e e2 x y hi he hk he2 hx' hy hxy=>?_}
 ·cases hf:zgp F.w0 w memC βC b with
  |none=>rw[ownF b hf]at h;cases h
  |some o'=>
   have h1:=hs.hF _ _ h;have h2:zgp F.w0 w memC βC b=w.heap[b]?:=by
    unfold zgp at hf|-;dsimp only at hf|-;split at hf
    ·cases hf
    ·rename_i hne;rw[if_neg hne]
   rw[h2,h1]at hf;cases hf;exact hs'.hF _ _ (by rw[h2];exact h1)
 ·have h1:=hs'.hl;simp;omega
 ·rcases cls i e hi with⟨h1,h2,h3⟩|⟨j,e',h1,rfl,rfl⟩
  ·have hβi:=clsβ1 i x h1 hx';refine(hs.ent i e x h3 hβi).mono hxF.1 (.append _ _) fun b es cap hxe hl=>?_;subst hxe;obtain⟨g1,g2⟩:=notown i e _ h2 h3 hl hβi;have:w.heap[b]? =some w.heap[b]:=Array.getElem?_eq_getElem g2;rw[this];exact hs'.hF _ _ (by rw[<-this];exact g1)
  ·exact(hs'.ent j e' x h1 (clsβ2 j e' x h1 hx')).ren hρ'
 ·rcases cls i e hi with⟨h1,h2,h3⟩|⟨j,e',h1,rfl,rfl⟩
  ·have hβi:=clsβ1 i _ h1 hx';obtain⟨g1,g2⟩:=hs.apart i e x h3 he hβi;refine⟨?_,g2⟩;cases hh:H' x.1 with
   |none=>rfl
   |some o=>
    rcases hx.2 _ _ hh with h|h
    ·rw[g1]at h;cases h
    ·obtain⟨f1,f2⟩:=notown i e x h2 h3 he hβi;rw[h,Array.getElem?_eq_getElem f2]at f1;cases f1
  ·rw[Ent.live_ren]at he;obtain⟨g1,g2⟩:=hs'.apart j e' x h1 he (clsβ2 j e' _ h1 hx');exact⟨g1,ownF _ g2⟩
 ·rcases cls i e hi with⟨h1,h2,h3⟩|⟨j,e',h1,rfl,rfl⟩<;>rcases cls k e2 hk with⟨q1,q2,q3⟩|⟨l,e3,q1,rfl,rfl⟩
  ·exact hs.inj i k e e2 x y h3 he q3 he2 (clsβ1 i _ h1 hx') (clsβ1 k _ q1 hy) hxy
  ·rw[Ent.live_ren]at he2;have g2:=(hs'.apart l e3 y q1 he2 (clsβ2 l e3 _ q1 hy)).2;obtain⟨f1,f2⟩:=notown i e x h2 h3 he (clsβ1 i _ h1 hx');rw[hxy,g2]at f1;rw[hxy]at f2;rw[Array.getElem?_eq_getElem f2]at f1;cases f1
  ·rw[Ent.live_ren]at he;have g2:=(hs'.apart j e' x h1 he (clsβ2 j e' _ h1 hx')).2;obtain⟨f1,f2⟩:=notown k e2 y q2 q3 he2 (clsβ1 k _ q1 hy);rw[<-hxy,g2]at f1;rw[<-hxy]at f2;rw[Array.getElem?_eq_getElem f2]at f1;cases f1
  ·rw[Ent.live_ren]at he he2;have:=hs'.inj j l e' e3 x y h1 he q1 he2 (clsβ2 j e' _ h1 hx') (clsβ2 l e3 _ q1 hy) hxy;rw[this]
theorem zeo:∀(l:List Nat),l.Nodup->∀(j k i:Nat),l[j]? =some i->l[k]? =some i->j=k
|[],_,j,k,i,h,_=>by simp at h
|x:: l,hn,j,k,i,h1,h2=>by
 have hx:=(List.nodup_cons.1 hn).1;cases j with
 |zero=>
  cases k with
  |zero=>rfl
  |succ k=>simp at h1 h2;subst h1;exact absurd (ygd h2) hx
 |succ j=>
  cases k with
  |zero=>simp at h1 h2;subst h2;exact absurd (ygd h1) hx
  |succ k=>rw[zeo l (List.nodup_cons.1 hn).2 j k i (by simpa using h1) (by simpa using h2)]
theorem ziy{memC:List Ent}{is:List Nat}(hs:Sat H F Z st.mem w)(hlen:is.length=memC.length)(hnd:is.Nodup)
 (hent:∀(j i:Nat) e,is[j]? =some i->memC[j]? =some e->st.mem[i]? =some (e.ren (ren is st.mem.length)))(hlt:∀i∈is,i<st.mem.length)(hbel:∀e∈memC,e.bel memC.length):
 Sat H (zgp F.w0 w memC (is.map fun i=>(Z[i]?).getD none)) (is.map fun i=>(Z[i]?).getD none) memC w/\
  (∀(i:Nat) y,i<memC.length->Z[ren is st.mem.length i]? =some y->(is.map fun i=>(Z[i]?).getD none)[i]? =some y):=by
 have bC:∀(j i:Nat),is[j]? =some i->(is.map fun i=>(Z[i]?).getD none)[j]? =Z[i]?:=by intro j i h;have hi:=hlt i (ygd h);rw[List.getElem?_map,h];simp[ygb (show i<Z.length by rw[hs.hl];exact hi)]
 have hρ:∀(i:Nat) y,i<memC.length->Z[ren is st.mem.length i]? =some y->(is.map fun i=>(Z[i]?).getD none)[i]? =some y:=by intro i y hi hy;have h1:is[i]? =some is[i]:=ygb (by omega);rw[zrs (by omega)]at hy;rw[bC i _ h1];exact hy
 have geti:∀(j:Nat)(e:Ent),memC[j]? =some e->∃i,is[j]? =some i:=by intro j e h;have:=(yga.1 h).1;exact⟨is[j]'(by omega),ygb _⟩
 refine⟨{hH:=hs.hH,gh:=hs.gh,hF:=fun b o h=>?_,sm:=⟨hs.sm.os,hs.sm.tape,hs.sm.output,hs.sm.size⟩,hl:=by simp[hlen],ent:=fun j e x hj hx=>?_,apart:=fun j e x hj he hx=>?_,inj:=fun j k e e' x y hj he hk he' hx hy hxy=>?_},hρ⟩
 ·unfold zgp at h;dsimp only at h;split at h
  ·cases h
  ·exact h
 ·obtain⟨i,hi⟩:=geti j e hj;rw[bC j i hi]at hx;exact(hs.ent i _ x (hent j i e hi hj) hx).unren (hbel e (ygd hj)) hρ
 ·obtain⟨i,hi⟩:=geti j e hj;refine⟨(hs.apart i _ x (hent j i e hi hj) (by rw[Ent.live_ren];exact he) (by rw[<-bC j i hi];exact hx)).1,?_⟩;unfold zgp;dsimp only;rw[if_pos ⟨j,e,x,hj,he,hx,rfl⟩]
 ·obtain⟨i,hi⟩:=geti j e hj;obtain⟨l,hl⟩:=geti k e' hk;have:=hs.inj i l _ _ x y (hent j i e hi hj) (by rw[Ent.live_ren];exact he) (hent k l e' hl hk) (by rw[Ent.live_ren];exact he') (by rw[<-bC j i hi];exact hx) (by rw[<-bC k l hl];exact hy) hxy;subst this;exact zeo is hnd j k i hi hl
end
theorem zs2{C:Ctx}{H:Hp}{F:Fr}{Z:Bt}{st:St}{a:Act}{w:World}{b:Frame}{cs:List Frame}{os:Array Oper}{j:Nat}{idx:List Nat}{k':List Item}{o:Oper}
 {f:FuncId}{argsC:List AV}{memC:List Ent}{R:AV->List Ent->Prop}{is:List Nat}{cargs:Array Value}
 (hj:os[j]? =some o)(hw:Region.wanted o (yielded os a.tmps)=true)(hd2:∀n,o.dst=some n->n<C.fn.ntmps)
 (hr:Rel H F Z C.fn.ntmps st a w)(hspec:Spec C.P f argsC memC R)(hrun:(execOp a.eval o).run C.P w=((callFunc f cargs).run C.P w))
 (hsz:cargs.size=argsC.length)(hargs:∀(i:Nat) v x,argsC[i]? =some v->cargs[i]? =some x->Rep H Z (v.ren (ren is st.mem.length)) x)(habel:∀v∈argsC,v.bel memC.length=true)
 (hlen:is.length=memC.length)(hnd:is.Nodup)(hent:∀(j i:Nat) e,is[j]? =some i->memC[j]? =some e->st.mem[i]? =some (e.ren (ren is st.mem.length)))
 (hlt:∀i∈is,i<st.mem.length)(hbel:∀e∈memC,e.bel memC.length):
 ∃r m' a1 w1 H1 β1,R r m'/\Steps C.P (lone (b.at a (.inRegion os (j:: idx):: k')) cs w) (lone (b.at a1 (.inRegion os idx:: k')) cs w1)/\HX F H H1/\zcY Z β1/\
  Rel H1 F β1 C.fn.ntmps ⟨put st.env o.dst (r.ren (ren is st.mem.length)),zcX st.mem is ((m'.take is.length).map (Ent.ren (ren is st.mem.length)))++(m'.drop is.length).map (Ent.ren (ren is st.mem.length))⟩ a1 w1/\∃x,a1=a.put o.dst x:=by
 obtain⟨hcall,hsp⟩:=hspec;obtain⟨s1,s2⟩:=ziy hr.sat hlen hnd hent hlt hbel;have hC:=hsp H _ _ cargs w s1 hsz fun i v x h1 h2=>Rep.unren (fun i y hi hy=>s2 i y hi hy) v x (habel v (ygd h1)) (hargs i v x h1 h2);obtain⟨v,w1,⟨v',r,m',H1,βC',e1,g2,g3,g4,g5,g6,g7⟩,hst⟩:=zgG (b:=b) (k:=k') (cs:=cs) (rest:=idx) hj hw (by rw[hrun];exact hcall cargs w) hC
  (fun e w'' ⟨v,_,_,_,_,h,_⟩=>⟨v,h⟩)
 cases e1;obtain⟨q1,q2,q3⟩:=zmC hr.sat hlen hnd hent hlt g4 g5 g6 g7;have hd3:(match o.dst with|some d=>decide (d<C.fn.ntmps)|none=>true)=true:=by
  cases h:o.dst with
  |none=>rfl
  |some n=>simpa using hd2 n h
 exact⟨r,m',_,w1,H1,_,g2,hst,q2,.append _ _,zgi hr q2.1 (.append _ _) hd3 (g3.ren q3) q1,_,rfl⟩
theorem zs1{P:Program}{os:Array Oper}{N:Nat}{c:COp}{o:Oper}{f:FuncId}{xs:List Ar}{H:Hp}{F:Fr}{Z:Bt}{st:St}{a:Act}{w:World}(hc:chkOp P N os c o=true)(hk:c.k=.call f xs)(hr:Rel H F Z N st a w):
 ∃cargs:Array Value,(execOp a.eval o).run P w=(callFunc f cargs).run P w/\cargs.size=xs.length/\∀(i:Nat) v x,(xs.map (ar st.env))[i]? =some v->cargs[i]? =some x->Rep H Z v x:=by
 unfold chkOp at hc;simp only[yhb]at hc;have h4:=hc.2;rw[hk]at h4;cases hop:o.op<;>rw[hop]at h4<;>try(simp[zsQ]at h4;done)
 rename_i cc;obtain⟨callee,args,argTypes⟩:=cc;cases callee<;>try(simp[zsQ]at h4;done)
 rename_i g;cases g<;>try(simp[zsQ]at h4;done)
 rename_i g;simp only[zsQ,yhb,yhe]at h4;obtain⟨rfl,h4⟩:=h4;obtain⟨g1,g2⟩:=zp9 hr h4;refine⟨args.map a.eval,?_,by simpa using g1,fun i v x h1 h2=>g2 i v x h1 (by simpa using h2)⟩;simp[execOp,hop,resolve,Act.eval,Deferred.ofValue,invoke]
theorem zvC{P:Program}{os:Array Oper}{N:Nat}{c:COp}{o:Oper}{f:FuncId}{y:Ar}{xs:List Ar}{caps:List AV}{H:Hp}{F:Fr}{Z:Bt}{st:St}{a:Act}{w:World}(hc:chkOp P N os c o=true)(hk:c.k=.callv y xs)(hr:Rel H F Z N st a w)
 (hy:ar st.env y=.fn f caps)(hne:Nat.beq f ERR=false):
 ∃cargs:Array Value,(execOp a.eval o).run P w=(callFunc (fnum f) cargs).run P w/\cargs.size=(fargs f (xs.map (ar st.env)) caps).length/\∀(i:Nat) v x,(fargs f (xs.map (ar st.env)) caps)[i]? =some v->cargs[i]? =some x->Rep H Z v x:=by
 unfold chkOp at hc;simp only[yhb]at hc;have h4:=hc.2;rw[hk]at h4;cases hop:o.op<;>rw[hop]at h4<;>try(simp[zsQ]at h4;done)
 rename_i cc;obtain⟨callee,args,argTypes⟩:=cc;cases callee<;>try(simp[zsQ]at h4;done)
 rename_i g;simp only[zsQ,yhb]at h4;obtain⟨h3,h4⟩:=h4;obtain⟨g1,g2⟩:=zp9 hr h4;have ry:=hr.ar h3;rw[hy]at ry;generalize hg:a.eval g=gv at ry;cases ry with
 |er h=>subst h;simp at hne
 | @fn _ _ _ fst vs hb hl hrep=>
  have app:∀(as bs:List AV)(us zs:Array Value),us.size=as.length->(∀(i:Nat) v x,as[i]? =some v->us[i]? =some x->Rep H Z v x)->(∀(i:Nat) v x,bs[i]? =some v->zs[i]? =some x->Rep H Z v x)->
   ∀(i:Nat) v x,(as++bs)[i]? =some v->(us++zs)[i]? =some x->Rep H Z v x:=fun as bs us zs hsz ha hz i v x h1 h2=>by
   rw[List.getElem?_append]at h1;rw[Array.getElem?_append,hsz]at h2;split at h1
   ·rename_i hlt;rw[if_pos hlt]at h2;exact ha i v x h1 h2
   ·rename_i hlt;rw[if_neg hlt]at h2;exact hz _ v x h1 h2
  have g2':∀(i:Nat) v x,(xs.map (ar st.env))[i]? =some v->(args.map a.eval)[i]? =some x->Rep H Z v x:=fun i v x h1 h2=>g2 i v x h1 (by simpa using h2);have hsz:(args.map a.eval).size=(xs.map (ar st.env)).length:=by simp at g1|-;exact g1
  refine⟨fst++args.map a.eval++vs,?_,?_,?_⟩
  ·simp[execOp,hop,resolve,hg,Deferred.ofValue,invoke]
  ·unfold fargs;simp only[Array.size_append]at hl|-;split<;>simp only[yhr]<;>omega
  ·unfold fnb at hb;unfold fargs;split at hb
   ·subst hb;simp only[Array.empty_append]at hrep|-;exact app _ _ _ _ hsz g2' hrep
   ·obtain⟨rfl,_⟩:=hb;simp only[Array.append_empty]at hrep hl|-;exact app _ _ _ _ hl hrep g2'
section
variable {C:Ctx}{k:List CItem}{st:St}
structure CallOk (st:St)(args argsC:List AV)(memC:List Ent)(is:List Nat):Prop where
 args:args=argsC.map (AV.ren (ren is st.mem.length))
 abel:∀v∈argsC,v.bel memC.length=true
 len:is.length=memC.length
 nd:is.Nodup
 ent:∀(j i:Nat) e,is[j]? =some i->memC[j]? =some e->st.mem[i]? =some (e.ren (ren is st.mem.length))
 lt:∀i∈is,i<st.mem.length
 bel:∀e∈memC,e.bel memC.length
def zbL(mem:List Ent)(is:List Nat)(m':List Ent):List Ent:=
 zcX mem is ((m'.take is.length).map (Ent.ren (ren is mem.length)))++(m'.drop is.length).map (Ent.ren (ren is mem.length))
theorem zdu{P:Program}{N:Nat}{os:Array Oper}{c:COp}{o:Oper}(hc:chkOp P N os c o=true):c.d=o.dst/\∀n,o.dst=some n->n<N:=by unfold chkOp at hc;simp only[yhb,yhe]at hc;obtain⟨⟨⟨h1,h2⟩,h3⟩,h4⟩:=hc;refine⟨h1,fun n hn=>?_⟩;rw[h1,hn]at h2;simpa using h2
theorem zgN{P:Program}{N:Nat}{os:Array Oper}{d:Option Nat}{kk:K}{o:Oper}(hc:chkOp P N os (.mk d none kk) o=true):o.guard=none:=by
 unfold chkOp at hc;simp only[yhb]at hc;have h3:=hc.1.2;cases hog:o.guard with
 |none=>rfl
 |some _=>simp[zxY,hog]at h3
end
end Go.Fw
namespace Go.Fw
open Go
mutual
theorem AV.bel_pure{n:Nat}:∀{v:AV},v.pure=true->v.bel n=true
|.ms ..,h|.mp ..,h|.mapr _,h=>by simp at h
|.agg cs,h=>by simp only[AV.bel];exact AV.belL_pure (by simpa using h)
|.tup cs,h=>by simp only[AV.bel];exact AV.belL_pure (by simpa using h)
|.fn f cs,h=>by simp only[AV.bel];exact AV.belL_pure (by simpa using h)
|.opt b v,h=>by simp only[AV.bel];exact AV.bel_pure (v:=v) (by simpa using h)
|.junk,_|.int _ _,_|.bool _,_|.str _,_|.e0,_|.sl _ _,_|.ip _,_|.nilp,_|.nilf,_|.nilm,_=>by simp[AV.bel]
theorem AV.belL_pure{n:Nat}:∀{l:List AV},AV.pureL l=true->AV.belL n l=true
|[],_=>by simp[AV.belL]
|c:: cs,h=>by simp only[ziW,yhb]at h;simp only[AV.belL,yhb];exact⟨AV.bel_pure h.1,AV.belL_pure h.2⟩
end
structure PS (P:Program)(f:FuncId)(args:List AV)(r:AV):Prop where
 pa:AV.pureL args=true
 pr:r.pure=true
 sp:Spec P f args [] (fun r' m'=>r'=r/\m'=[])
structure En (P:Program) where
 f:FuncId
 sem:List AV->Option (Prop×AV)
 ok:∀args p r,sem args=some (p,r)->p->PS P f args r
open Classical in
noncomputable def mkE{P:Program}{α:Type}(f:FuncId)(enc:α->List AV)(pre:α->Prop)(res:α->AV)(ok:∀a,pre a->PS P f (enc a) (res a)):En P where
 f:=f
 sem:=fun args=>if h:∃a,enc a=args then some (pre h.choose,res h.choose)else none
 ok:=by
  intro args p r h hp;split at h
  ·rename_i hh;cases h;have e:=hh.choose_spec;have:=ok _ hp;rw[e]at this;exact this
  ·cases h
@[simp] theorem zDL {P:Program}{α:Type}{f:FuncId}{enc:α->List AV}{pre:α->Prop}{res:α->AV}{ok:∀a,pre a->PS P f (enc a) (res a)}:(mkE f enc pre res ok).f=f:=rfl
def zr8{P:Program}:List (En P)->FuncId->Option (En P)
|[],_=>none
|e:: l,f=>if e.f=f then some e else zr8 l f
@[simp] theorem zAs {P:Program}{f:FuncId}:zr8 ([]:List (En P)) f=none:=rfl
@[simp] theorem zr9 {P:Program}{e:En P}{l:List (En P)}{f:FuncId}:zr8 (e:: l) f=if e.f=f then some e else zr8 l f:=rfl
theorem zt2{P:Program}{f:FuncId}{e:En P}:∀{l:List (En P)},zr8 l f=some e->e.f=f
|[],h=>by simp at h
|x:: l,h=>by
 simp only[zr9]at h;split at h
 ·cases h;assumption
 ·exact zt2 h
def evX{P:Program}(Φ:List (En P))(k:K)(env:List (Nat×AV))(mem:List Ent):Option Ev:=
 match k with
 |.call f xs=>match zr8 Φ f with
  |some e=>match e.sem (xs.map (ar env))with
   |some (p,v)=>some (p,v,mem)
   |none=>none
  |none=>none
 |.callv _ _=>none
 |k=>evK k env mem
theorem zya{P:Program}{Φ:List (En P)}{k:K}{env:List (Nat×AV)}{mem:List Ent}{r:Ev}(h:evX Φ k env mem=some r):mem.length<=r.2.2.length:=by
 have plain:evK k env mem=some r->mem.length<=r.2.2.length:=zpA;cases k;case call f xs=>
  simp only[evX]at h;split at h
  ·split at h
   ·cases h;exact Nat.le_refl _
   ·cases h
  ·cases h
 case callv f xs=>simp[evX]at h
 all_goals exact plain h
theorem zyZ{C:Ctx}{H:Hp}{F:Fr}{Z:Bt}{st:St}{b:Frame}{cs:List Frame}{Φ:List (En C.P)}{c:COp}{o:Oper}{r:Ev}{a:Act}{w:World}{os:Array Oper}{j:Nat}{idx:List Nat}{k':List Item}(hj:os[j]? =some o)(hc:chkOp C.P C.fn.ntmps os c o=true)
 (hw:Region.wanted o (yielded os a.tmps)=true)(he:evX Φ c.k st.env st.mem=some r)(hs:r.1)(hr:Rel H F Z C.fn.ntmps st a w):
 ∃a1 w1 H1 β1,Steps C.P (lone (b.at a (.inRegion os (j:: idx):: k')) cs w) (lone (b.at a1 (.inRegion os idx:: k')) cs w1)/\HX F H H1/\zcY Z β1/\
  Rel H1 F β1 C.fn.ntmps ⟨put st.env c.d r.2.1,r.2.2⟩ a1 w1/\∃x,a1=a.put o.dst x:=by
 obtain⟨d,g,k⟩:=c;have plain:evK k st.env st.mem=some r->∃a1 w1 H1 β1,Steps C.P (lone (b.at a (.inRegion os (j:: idx):: k')) cs w) (lone (b.at a1 (.inRegion os idx:: k')) cs w1)/\HX F H H1/\zcY Z β1/\
  Rel H1 F β1 C.fn.ntmps ⟨put st.env d r.2.1,r.2.2⟩ a1 w1/\∃x,a1=a.put o.dst x:=fun he=>zuo (c:=.mk d g k) hj hc hw rfl he hs hr
 cases k;case call f xs=>
  obtain⟨d1,d2⟩:=zdu hc;simp only[COp.d]at d1;obtain⟨cargs,e1,e2,e3⟩:=zs1 (P:=C.P) hc rfl hr;simp only[COp.k,evX]at he;split at he
  ·rename_i e hl;split at he
   ·rename_i p v hsem;cases he;have hef:=zt2 hl;subst hef;obtain⟨hp,hv,hsp⟩:=e.ok _ _ _ hsem hs;have hpa:∀v∈xs.map (ar st.env),v.pure=true:=(AV.pureL_iff _).1 hp;obtain⟨r,m',a1,w1,H1,β1,q1,q2,q3,q4,q5,q6⟩:=zs2 (b:=b) (cs:=cs) (idx:=idx) (k':=k') (is:=[]) hj hw d2 hr hsp e1
     (by rw[e2];simp)
     (fun i v x h1 h2=>by rw[AV.ren_pure _ v (hpa v (ygd h1))];exact e3 i _ x h1 h2) (fun v hv=>AV.bel_pure (hpa v hv)) rfl List.nodup_nil
     (fun j i e h=>by simp at h) (fun i h=>by simp at h) (fun e h=>by simp at h)
    obtain⟨rfl,rfl⟩:=q1;rw[<-d1]at q5;refine⟨a1,w1,H1,β1,q2,q3,q4,?_,q6⟩;rw[AV.ren_pure _ _ hv]at q5;simpa[zcX]using q5
   ·cases he
  ·cases he
 case callv f xs=>simp[evX]at he
 all_goals exact plain he
end Go.Fw
namespace Go.Fw
open Go
def zgl(P:Program)(f:FuncId)(args:List AV)(mem:List Ent)(r:AV)(mem':List Ent):Prop:=
 (∀as w,(callFunc f as).run P w=.ok (.enter f as) w)/\
 ∀(H:Hp)(F:Fr)(Z:Bt)(cargs:Array Value)(w:World),Sat H F Z mem w->cargs.size=args.length->(∀(i:Nat) v x,args[i]? =some v->cargs[i]? =some x->Rep H Z v x)->
  Calls P f cargs w fun e w'=>∃v H' β',e=.returned v/\Rep H' β' r v/\Sat H' F β' mem' w'/\HX F H H'/\zcY Z β'
theorem zgl.of_spec{P:Program}{f:FuncId}{argsC:List AV}{memC m1 mem:List Ent}{r:AV}{is:List Nat}{env:List (Nat×AV)}{args:List AV}(hs:Spec P f argsC memC (fun r' m'=>r'=r/\m'=m1))(hok:CallOk ⟨env,mem⟩ args argsC memC is):
 zgl P f args mem (r.ren (ren is mem.length)) (zbL mem is m1):=by
 refine⟨hs.1,fun H F Z cargs w hsat hsz ha=>?_⟩;obtain⟨s1,s2⟩:=ziy (st:=⟨env,mem⟩) hsat hok.len hok.nd hok.ent hok.lt hok.bel;have hC:=hs.2 H _ _ cargs w s1 (by rw[hsz,hok.args];simp) fun i v x h1 h2=>Rep.unren (fun i y hi hy=>s2 i y hi hy) v x (hok.abel v (ygd h1)) (ha i _ x (by rw[hok.args,List.getElem?_map,h1];rfl) h2);refine hC.mono fun e w' ⟨v,r',m',H',βC',h1,⟨h2,h3⟩,g3,g4,g5,g6,g7⟩=>?_;subst h2 h3;obtain⟨q1,q2,q3⟩:=zmC (st:=⟨env,mem⟩) hsat hok.len hok.nd hok.ent hok.lt g4 g5 g6 g7;exact⟨v,H',_,h1,g3.ren q3,q1,q2,.append _ _⟩
theorem zgl.of_PS{P:Program}{f:FuncId}{args:List AV}{r:AV}(h:PS P f args r)(mem:List Ent):zgl P f args mem r mem:=by
 have hpa:=(AV.pureL_iff _).1 h.pa;have:=zgl.of_spec (env:=[]) (mem:=mem) (is:=[]) (args:=args) h.sp
  ⟨by have:args.map (AV.ren (ren [] mem.length))=args.map id:=List.map_congr_left fun v hv=>AV.ren_pure _ v (hpa v hv);rw[this,List.map_id],fun v hv=>AV.bel_pure (hpa v hv),rfl,List.nodup_nil,fun j i e h=>by simp at h,fun i h=>by simp at h,fun e h=>by simp at h⟩
 rw[AV.ren_pure _ _ h.pr]at this;simpa[zbL,zcX]using this
structure CR where
 args:List AV
 r:AV
 m0:List Ent
 m1:List Ent
 cl:Nat
def zfB:List (Nat×CR)->Option Nat->Option CR
|[],_=>none
|_:: _,none=>none
| (m,v):: r,some n=>if m=n then some v else zfB r (some n)
@[simp] theorem zAr {n:Option Nat}:zfB [] n=none:=rfl
@[simp] theorem zcq {m n:Nat}{v:CR}{r:List (Nat×CR)}:zfB ((m,v):: r) (some n)=if m=n then some v else zfB r (some n):=rfl
def clsK(stb:List Nat)(cr:List (Nat×CR))(d:Option Nat)(k:K)(env:List (Nat×AV)):Nat:=
 match k with
 |.mv _|.pick _ _ _|.boxi _ _|.build _ _|.bsl _ _|.bsl0|.nilc _|.bin _ _ _|.beq _ _ _|.eqs _ _ _ _|.not _|.neg _|.conv _ _|.sub _ _ _|.slc _ _ _ _|.fa _ _|.field _ _ _|.ia _ _ _
 |.idx _ _|.isn _ _|.lens _|.lenl _|.ext _ _|.mkfn _ _|.mx _ _ _|.s2b _=>0
 |.load _ x=>match ar env x with
  |.ip _=>0
  |.mp i _ _=>match stb.contains i with
   |true=>1
   |false=>2
  |_=>2
 |.mlk _ _=>2
 |.mmk|.mup _ _ _=>4
 |.b2s x=>match ar env x with
  |.sl _ _=>0
  |.e0=>0
  |_=>2
 |.boxm _ _|.alloc _|.buildo _ _ _ _|.bslm _ _|.store _ _ _|.app _ _ _|.apps _ _|.apf _ _ _|.mks _ _ _=>3
 |.call _ _=>match zfB cr d with
  |some c=>match c.cl with
   |0=>0
   |1=>2
   |_+2=>3
  |none=>0
 |.callv _ _=>match zfB cr d with
  |some c=>match c.cl with
   |0=>0
   |1=>2
   |_+2=>3
  |none=>4
def evC(P:Program)(f:FuncId)(args:List AV)(mem:List Ent)(c:CR):Ev:=
 match c.cl with
 |0=>(args=c.args/\∀m,zgl P f c.args m c.r m,c.r,mem)
 |1=>(args=c.args/\mem=c.m0/\zgl P f c.args c.m0 c.r c.m0,c.r,mem)
 |_+2=>(args=c.args/\mem=c.m0/\zgl P f c.args c.m0 c.r c.m1/\c.m0.length<=c.m1.length,c.r,c.m1)
def evD{P:Program}(Φ:List (En P))(cr:List (Nat×CR))(d:Option Nat)(k:K)(env:List (Nat×AV))(mem:List Ent):Option Ev:=
 match k with
 |.call f xs=>match zfB cr d with
  |some c=>some (evC P f (xs.map (ar env)) mem c)
  |none=>evX Φ (.call f xs) env mem
 |.callv y xs=>match zfB cr d,ar env y with
  |some c,.fn f caps=>match Nat.beq f ERR with
   |false=>some (evC P (fnum f) (fargs f (xs.map (ar env)) caps) mem c)
   |true=>none
  |_,_=>none
 |k=>evK k env mem
theorem zmA{env env':List (Nat×AV)}{xs:List Ar}(h:∀x∈xs,ar env x=ar env' x):xs.map (ar env)=xs.map (ar env'):=List.map_congr_left h
theorem zhP{env env':List (Nat×AV)}{d:Int}{x:Option Ar}(h:∀y∈x.toList,ar env y=ar env' y):bnd env d x=bnd env' d x:=by
 cases x with
 |none=>rfl
 |some y=>simp only[bnd,h y (by simp)]
theorem zf2{α:Type}{l:List α}{p q:α->Bool}(h:∀x∈l,p x=q x):l.all p=l.all q:=by
 induction l with
 |nil=>rfl
 |cons x l ih=>simp only[List.all_cons,h x (by simp),ih fun y hy=>h y (by simp[hy])]
theorem ztq{k:K}{env env':List (Nat×AV)}{mem:List Ent}(h:∀x∈k.ars,ar env x=ar env' x):evK k env mem=evK k env' mem:=by
 cases k with
 |build zs ps=>
  have h1:∀p∈ps,ar env p.2.2=ar env' p.2.2:=fun p hp=>h _ (by simp only[K.ars,List.mem_map];exact⟨p,hp,rfl⟩);have e1:(ps.map fun x=>(x.1,(ar env x.2.2).cells))=ps.map fun x=>(x.1,(ar env' x.2.2).cells):=List.map_congr_left fun p hp=>by rw[h1 p hp]
  have e2:(ps.all fun x=>(ar env x.2.2).cells.length==x.2.1&&(ar env x.2.2).cells.all AV.isCell&&decide (x.1+x.2.1<=zs.length)) =
   ps.all fun x=>(ar env' x.2.2).cells.length==x.2.1&&(ar env' x.2.2).cells.all AV.isCell&&decide (x.1+x.2.1<=zs.length):=zf2 fun p hp=>by rw[h1 p hp]
  simp only[evK];rw[e1,e2]
 |buildo p es zs ps=>
  have h1:∀p∈ps,ar env p.2.2=ar env' p.2.2:=fun p hp=>h _ (by simp only[K.ars,List.mem_map];exact⟨p,hp,rfl⟩);have e1:(ps.map fun x=>(x.1,(ar env x.2.2).cells))=ps.map fun x=>(x.1,(ar env' x.2.2).cells):=List.map_congr_left fun p hp=>by rw[h1 p hp]
  have e2:(ps.all fun x=>(ar env x.2.2).cells.length==x.2.1&&(ar env x.2.2).cells.all AV.isCell&&decide (x.1+x.2.1<=zs.length)) =
   ps.all fun x=>(ar env' x.2.2).cells.length==x.2.1&&(ar env' x.2.2).cells.all AV.isCell&&decide (x.1+x.2.1<=zs.length):=zf2 fun p hp=>by rw[h1 p hp]
  simp only[evK];rw[e1,e2]
 |bsl es ps=>
  have h1:∀p∈ps,ar env p=ar env' p:=fun p hp=>h _ hp;have e1:(ps.map fun x=>(ar env x).cells)=ps.map fun x=>(ar env' x).cells:=List.map_congr_left fun p hp=>by rw[h1 p hp]
  have e2:(ps.all fun x=>(ar env x).cells.length==es&&(ar env x).cells.all fun c=>c.isCell&&c.pure)=ps.all fun x=>(ar env' x).cells.length==es&&(ar env' x).cells.all fun c=>c.isCell&&c.pure:=
   zf2 fun p hp=>by rw[h1 p hp]
  simp only[evK];rw[e1,e2]
 |bslm es ps=>
  have h1:∀p∈ps,ar env p=ar env' p:=fun p hp=>h _ hp;have e1:(ps.map fun x=>(ar env x).cells)=ps.map fun x=>(ar env' x).cells:=List.map_congr_left fun p hp=>by rw[h1 p hp]
  have e2:(ps.all fun x=>(ar env x).cells.length==es&&(ar env x).cells.all AV.isCell)=ps.all fun x=>(ar env' x).cells.length==es&&(ar env' x).cells.all AV.isCell:=
   zf2 fun p hp=>by rw[h1 p hp]
  simp only[evK];rw[e1,e2]
 |sub x lo hi=>have h0:ar env x=ar env' x:=h x (by simp[K.ars]);have e1:∀d,bnd env d lo=bnd env' d lo:=fun d=>zhP fun y hy=>h y (by simp only[K.ars,List.mem_cons,List.mem_append];exact .inr (.inl hy));have e2:∀d,bnd env d hi=bnd env' d hi:=fun d=>zhP fun y hy=>h y (by simp only[K.ars,List.mem_cons,List.mem_append];exact .inr (.inr hy));simp only[evK,h0,e1,e2]
 |slc es x lo hi=>have h0:ar env x=ar env' x:=h x (by simp[K.ars]);have e1:∀d,bnd env d lo=bnd env' d lo:=fun d=>zhP fun y hy=>h y (by simp only[K.ars,List.mem_cons,List.mem_append];exact .inr (.inl hy));have e2:∀d,bnd env d hi=bnd env' d hi:=fun d=>zhP fun y hy=>h y (by simp only[K.ars,List.mem_cons,List.mem_append];exact .inr (.inr hy));simp only[evK,h0,e1,e2]
 |mkfn f xs=>simp only[evK];rw[zmA (xs:=xs) (fun x hx=>h x hx)]
 |load n x=>have h0:ar env x=ar env' x:=h x (by simp[K.ars]);cases n<;>simp only[evK,h0]
 |field o n x=>have h0:ar env x=ar env' x:=h x (by simp[K.ars]);cases n<;>simp only[evK,h0]
 |mup c a b=>have h0:ar env c=ar env' c:=h c (by simp[K.ars]);have h1:ar env a=ar env' a:=h a (by simp[K.ars]);have h2:ar env b=ar env' b:=h b (by simp[K.ars]);simp only[evK,h0,h1,h2]
 |pick c a b=>have h0:ar env c=ar env' c:=h c (by simp[K.ars]);have h1:ar env a=ar env' a:=h a (by simp[K.ars]);have h2:ar env b=ar env' b:=h b (by simp[K.ars]);simp only[evK,h0,h1,h2]
 |store _ a x|bin _ a x|beq _ a x|ia _ a x|idx a x|app _ a x|apps a x|apf _ a x|mx _ a x|eqs _ _ a x|mlk a x=>have h0:ar env a=ar env' a:=h a (by simp[K.ars]);have h1:ar env x=ar env' x:=h x (by simp[K.ars]);simp only[evK,h0,h1]
 |mv x|boxi _ x|boxm _ x|nilc x|not x|neg x|conv _ x|b2s x|s2b x|fa _ x|isn _ x|lens x|lenl x|ext x _|mks _ _ x=>have h0:ar env x=ar env' x:=h x (by simp[K.ars]);simp only[evK,h0]
 |alloc _|bsl0|mmk|call _ _|callv _ _=>rfl
theorem zh3{P:Program}{Φ:List (En P)}{cr:List (Nat×CR)}{d:Option Nat}{k:K}{env env':List (Nat×AV)}{mem:List Ent}(h:∀x∈k.ars,ar env x=ar env' x):
 evD Φ cr d k env mem=evD Φ cr d k env' mem:=by
 cases k<;>try exact ztq h
 ·rename_i f xs;simp only[evD,evX];rw[zmA (xs:=xs) (fun x hx=>h x hx)]
 ·rename_i y xs;simp only[evD];rw[zmA (xs:=xs) (fun x hx=>h x (by simp only[K.ars,List.mem_cons];exact .inr hx)),h y (by simp[K.ars])]
theorem zqV{P:Program}{f:FuncId}{args:List AV}{mem:List Ent}{c:CR}(h:c.cl<=1):(evC P f args mem c).2.2=mem:=by
 unfold evC;split
 ·rfl
 ·rfl
 ·omega
theorem zqU{P:Program}{f:FuncId}{args:List AV}{mem:List Ent}{c:CR}(h:c.cl=0)(mem':List Ent):evC P f args mem' c=((evC P f args mem c).1,(evC P f args mem c).2.1,mem'):=by
 unfold evC;split
 ·rfl
 ·omega
 ·omega
theorem ztn{P:Program}{f:FuncId}{args:List AV}{mem:List Ent}{c:CR}(h:(evC P f args mem c).1):mem.length<=(evC P f args mem c).2.2.length:=by
 unfold evC at h|-;split
 ·exact Nat.le_refl _
 ·exact Nat.le_refl _
 ·rename_i n e;rw[e]at h;simp only at h;rw[h.2.1];exact h.2.2.2
theorem zto{P:Program}{f:FuncId}{args:List AV}{mem:List Ent}{c:CR}(h:(evC P f args mem c).1):zgl P f args mem (evC P f args mem c).2.1 (evC P f args mem c).2.2:=by
 unfold evC at h|-;split
 ·rename_i e;rw[e]at h;simp only at h;rw[h.1];exact h.2 mem
 ·rename_i e;rw[e]at h;simp only at h;rw[h.1,h.2.1];exact h.2.2
 ·rename_i e;rw[e]at h;simp only at h;rw[h.1,h.2.1];exact h.2.2.1
theorem zCw{c:CR}(h:(match c.cl with|0=>0|1=>2|_+2=>3)<=2):c.cl<=1:=by
 split at h
 ·omega
 ·omega
 ·omega
theorem zCv{c:CR}(h:(match c.cl with|0=>0|1=>2|_+2=>3)<=1):c.cl=0:=by
 split at h
 ·omega
 ·omega
 ·omega
theorem zqW{P:Program}{Φ:List (En P)}{stb:List Nat}{cr:List (Nat×CR)}{d:Option Nat}{k:K}{env:List (Nat×AV)}{mem:List Ent}{r:Ev}(hc:clsK stb cr d k env<=2)(h:evD Φ cr d k env mem=some r):r.2.2=mem:=by
 cases k<;>simp only[clsK]at hc<;>try(exact absurd hc (by decide))
 case call f xs=>
  cases hl:zfB cr d with
  |some c=>simp only[hl]at hc;simp only[evD,hl]at h;cases h;exact zqV (zCw hc)
  |none=>
   simp only[evD,hl,evX]at h;split at h
   ·split at h
    ·cases h;rfl
    ·cases h
   ·cases h
 case callv f xs=>
  cases hl:zfB cr d with
  |some c=>
   simp only[hl]at hc;simp only[evD,hl]at h;split at h
   ·rename_i e1 e2;cases e1;split at h
    ·cases h;exact zqV (zCw hc)
    ·cases h
   ·cases h
  |none=>simp only[hl]at hc;exact absurd hc (by decide)
 case load n x=>cases n<;>simp only[evD,evK]at h<;>(repeat' split at h)<;>cases h<;>rfl
 case field o n x=>cases n<;>simp only[evD,evK]at h<;>(repeat' split at h)<;>cases h<;>rfl
 all_goals
  simp only[evD,evK]at h;first
   | (cases h;rfl)
   | ((repeat' split at h)<;>first|(cases h;done)|(cases h;rfl))
theorem ztp{P:Program}{Φ:List (En P)}{stb:List Nat}{cr:List (Nat×CR)}{d:Option Nat}{k:K}{env:List (Nat×AV)}{mem:List Ent}{r:Ev}(hc:clsK stb cr d k env<=1)(h:evD Φ cr d k env mem=some r)(mem':List Ent)(hs:∀e∈stb,mem'[e]? =mem[e]?):
 evD Φ cr d k env mem'=some (r.1,r.2.1,mem'):=by
 cases k<;>simp only[clsK]at hc<;>try(exact absurd hc (by decide))
 case call f xs=>
  cases hl:zfB cr d with
  |some c=>simp only[hl]at hc;simp only[evD,hl]at h|-;cases h;rw[zqU (zCv hc) mem']
  |none=>
   simp only[evD,hl,evX]at h|-;split at h
   ·split at h
    ·cases h;simp[*]
    ·cases h
   ·cases h
 case callv f xs=>
  cases hl:zfB cr d with
  |some c=>
   simp only[hl]at hc;simp only[evD,hl]at h|-;split at h
   ·rename_i e1 e2;cases e1;split at h
    ·cases h;rw[zqU (zCv hc) mem']
    ·cases h
   ·cases h
  |none=>simp only[hl]at hc;omega
 case field o n x=>cases n<;>simp only[evD,evK]at h|-<;>(repeat' split at h)<;>cases h<;>simp[*]
 case load n x=>
  split at hc
  ·rename_i cs hx;cases n
   ·simp only[evD,evK,hx]at h|-;cases cs with
    |nil=>simp at h
    |cons c cs=>simp only[List.head?_cons,Option.some.injEq]at h;subst h;rfl
   ·simp only[evD,evK,hx,Option.some.injEq]at h|-;subst h;rfl
  ·rename_i i row off hx;split at hc
   ·rename_i hi;have hm:=hs i (by simpa using hi);cases n
    ·simp only[evD,evK,hx,hm]at h|-;(repeat' split at h)<;>first|(cases h;done)|(cases h;simp[*];done)
    ·simp only[evD,evK,hx,hm]at h|-;(repeat' split at h)<;>first|(cases h;done)|(cases h;simp[*];done)
   ·omega
  ·omega
 case b2s x=>
  split at hc
  ·rename_i es rows hx;simp only[evD,evK,hx,zbP]at h|-;split at h
   ·rename_i rows' hr;cases h;rfl
   ·cases h
  ·rename_i hx;simp only[evD,evK,hx,zbP]at h|-;cases h;rfl
  ·omega
 all_goals
  simp only[evD,evK]at h|-;first
   | (cases h;rfl)
   | ((repeat' split at h)<;>first|(cases h;done)|(cases h;simp[*];done))
theorem zvN{P:Program}{Φ:List (En P)}{stb:List Nat}{cr:List (Nat×CR)}{d:Option Nat}{k:K}{env:List (Nat×AV)}{mem:List Ent}{r:Ev}(hc:clsK stb cr d k env=0)(h:evD Φ cr d k env mem=some r)(mem':List Ent):
 evD Φ cr d k env mem'=some (r.1,r.2.1,mem'):=by
 have h0:clsK [] cr d k env<=1:=by
  have:clsK [] cr d k env=0:=by
   cases k<;>try exact hc
   rename_i n x;simp only[clsK]at hc|-;split at hc
   ·rfl
   ·split at hc<;>cases hc
   ·cases hc
  omega
 exact ztp h0 h mem' (fun e he=>by cases he)
def KeepE(stb:List Nat)(cl:Nat)(m0 m1:List Ent):Prop:=(cl<=3\/5<=cl)->∀e∈stb,m1[e]? =m0[e]?
def StoreE{P:Program}(Φ:List (En P))(gw:Nat->Nat)(cr:List (Nat×CR))(d:Option Nat)(k:K)(env:List (Nat×AV))(cl:Nat)(m0:List Ent)(r:Ev):Prop:=
 5<=cl->∃w x,gw w=cl/\w<m0.length/\r.2.2=m0.set w x/\∀m,m[w]? =m0[w]?->evD Φ cr d k env m=some (r.1,r.2.1,m.set w x)
end Go.Fw
namespace Go.Fw
open Go
inductive StepOk {P:Program}(Φ:List (En P))(stb:List Nat)(gw:Nat->Nat)(cr:List (Nat×CR))(Er E:List (Nat×AV)):COp->Nat->List Ent->List Ent->Prop
|on {d g k cl m r}(hg:∀t b,g=some (t,b)->look Er t=.bool b)(he:evD Φ cr d k Er m=some r)(hs:r.1)(hd:∀x,d=some x->look E x=r.2.1)(hc:clsK stb cr d k Er<=cl)(hk:KeepE stb cl m r.2.2)(hst:StoreE Φ gw cr d k Er cl m r):StepOk Φ stb gw cr Er E (.mk d g k) cl m r.2.2
|off {d t b k cl m}(hg:look Er t=.bool (!b)\/look Er t=.tup [])(hd:∀x,d=some x->look E x=.tup []):StepOk Φ stb gw cr Er E (.mk d (some (t,b)) k) cl m m
def ziY{P:Program}(Φ:List (En P))(stb:List Nat)(gw:Nat->Nat)(cr:List (Nat×CR)):List COp->List Nat->St->(St->Prop)->Prop
|[],_,st,Q=>Q st
|.mk d g k:: l,cls,st,Q=>
 match g with
 |none=>
  clsK stb cr d k st.env<=cls.headD 0/\match evD Φ cr d k st.env st.mem with
  |some (p,v,m)=>p/\KeepE stb (cls.headD 0) st.mem m/\StoreE Φ gw cr d k st.env (cls.headD 0) st.mem (p,v,m)/\ziY Φ stb gw cr l cls.tail ⟨put st.env d v,m⟩ Q
  |none=>False
 |some (t,bb)=>
  match look st.env t with
  |.bool x=>
   ((x==bb)=true->clsK stb cr d k ((t,.bool bb):: st.env)<=cls.headD 0/\match evD Φ cr d k ((t,.bool bb):: st.env) st.mem with
    |some (p,v,m)=>p/\KeepE stb (cls.headD 0) st.mem m/\StoreE Φ gw cr d k ((t,.bool bb):: st.env) (cls.headD 0) st.mem (p,v,m)/\ziY Φ stb gw cr l cls.tail ⟨put ((t,.bool bb):: st.env) d v,m⟩ Q
    |none=>False)/\
   ((x==bb)=false->ziY Φ stb gw cr l cls.tail ⟨put ((t,.bool (!bb)):: st.env) d (.tup []),st.mem⟩ Q)
  |.tup []=>ziY Φ stb gw cr l cls.tail ⟨put st.env d (.tup []),st.mem⟩ Q
  |_=>False
theorem zuI{c:COp}{E E':List (Nat×AV)}(h:∀t∈slots c,look E t=look E' t):∀x∈c.k.ars,ar E x=ar E' x:=by
 intro x hx;cases x with
 |c v=>rfl
 |t n=>exact h n (by simp only[slots,List.mem_append,List.mem_filterMap];exact .inl ⟨.t n,hx,rfl⟩)
theorem zhb{c:COp}{t:Nat}{b:Bool}(h:c.g=some (t,b)):t∈slots c:=by obtain⟨d,g,k⟩:=c;simp only[COp.g]at h;subst h;simp[slots]
theorem zeX{env:List (Nat×AV)}{d:Option Nat}{v:AV}{t:Nat}(h:d≠some t):look (put env d v) t=look env t:=by
 cases d with
 |none=>rfl
 |some d=>have:d≠t:=fun e=>h (by rw[e]);simp[look,this]
theorem zrb{env:List (Nat×AV)}{t:Nat}{v:AV}(h:look env t=v)(n:Nat):look ((t,v):: env) n=look env n:=by
 simp only[look];split
 ·rename_i e;subst e;exact h.symm
 ·rfl
theorem znG{c:COp}{l:List COp}(h:wfD (c:: l)=true):(∀d,c.d=some d->∀c'∈l,c'.d≠some d)/\wfD l=true:=by simp only[wfD,yhb]at h;obtain⟨h2,h3⟩:=h;refine⟨fun d hd=>?_,h3⟩;rw[hd]at h2;simpa using h2
structure TrD {P:Program}(Φ:List (En P))(stb:List Nat)(gw:Nat->Nat)(cr:List (Nat×CR))(l:List COp)(cls:List Nat)(st:St)(E:List (Nat×AV))(M:Nat->List Ent)(N:Nat->List (Nat×AV)):Prop where
 m0:M 0=st.mem
 step:∀i c,l[i]? =some c->StepOk Φ stb gw cr (N i) E c (cls.getD i 0) (M i) (M (i+1))
 old:∀i t,i<=l.length->(∀j c,j<i->l[j]? =some c->c.d≠some t)->look (N i) t=look st.env t
 new:∀i t j c,i<=l.length->j<i->l[j]? =some c->c.d=some t->look (N i) t=look E t
 env:∀t,(∀c∈l,c.d≠some t)->look E t=look st.env t
theorem zsj{P:Program}{Φ:List (En P)}{stb:List Nat}{gw:Nat->Nat}{cr:List (Nat×CR)}{Q:St->Prop}:∀(l:List COp)(cls:List Nat)(st:St),cls.length=l.length->wfD l=true->ziY Φ stb gw cr l cls st Q->
 ∃E M N,TrD Φ stb gw cr l cls st E M N/\Q ⟨E,M l.length⟩:=by
 intro l;induction l with
 |nil=>intro cls st _ _ h;exact⟨st.env,fun _=>st.mem,fun _=>st.env,⟨rfl,fun i c h=>by simp at h,fun _ _ _ _=>rfl,fun i t j c hi hj=>by simp at hi;omega,fun _ _=>rfl⟩,h⟩
 |cons c l ih=>
  intro cls st hlen hwf h;obtain⟨w2,w3⟩:=znG hwf;cases cls with
  |nil=>simp at hlen
  |cons cl cls=>
   have hlen':cls.length=l.length:=by simpa using hlen
   obtain⟨d,g,k⟩:=c;have put:∀(env:List (Nat×AV))(v:AV)(m:List Ent)(E:List (Nat×AV))(M:Nat->List Ent)(N:Nat->List (Nat×AV)),(∀t,look env t=look st.env t)->TrD Φ stb gw cr l cls ⟨put env d v,m⟩ E M N->
    ((∀x,d=some x->look E x=v)->StepOk Φ stb gw cr env E (.mk d g k) cl st.mem m)->TrD Φ stb gw cr (.mk d g k:: l) (cl:: cls) st E (fun i=>match i with|0=>st.mem|i+1=>M i) (fun i=>match i with|0=>env|i+1=>N i):=by
    intro env v m E M N h0 ht hs;have hdE:∀x,d=some x->look E x=v:=fun x hx=>by rw[ht.env x fun c hc=>w2 x hx c hc];subst hx;simp[look]
    refine⟨rfl,fun i c hi=>?_,fun i t hi hn=>?_,fun i t j c hi hj hl hc=>?_,fun t hn=>?_⟩
    ·cases i with
     |zero=>simp only[List.getElem?_cons_zero,Option.some.injEq]at hi;subst hi;show StepOk Φ stb gw cr env E _ _ st.mem (M 0);rw[ht.m0];exact hs hdE
     |succ i=>exact ht.step i c (by simpa using hi)
    ·cases i with
     |zero=>exact h0 t
     |succ i=>show look (N i) t=_;rw[ht.old i t (by simpa using hi) fun j c hj hl=>hn (j+1) c (by omega) (by simpa using hl)];rw[<-h0 t];exact zeX (d:=d) (hn 0 _ (by omega) rfl)
    ·cases i with
     |zero=>omega
     |succ i=>
      show look (N i) t=_;cases j with
      |zero=>simp only[List.getElem?_cons_zero,Option.some.injEq]at hl;subst hl;rw[ht.old i t (by simpa using hi) fun j c hj hl=>w2 t hc c (ygd hl),hdE t hc];simp only[COp.d]at hc;subst hc;simp[look]
      |succ j=>exact ht.new i t j c (by simpa using hi) (by omega) (by simpa using hl) hc
    ·rw[ht.env t fun c hc=>hn c (by simp[hc]),<-h0 t];exact zeX (d:=d) (hn _ (List.mem_cons_self ..))
   have on:∀(env:List (Nat×AV)),(∀t,look env t=look st.env t)->(∀t b,g=some (t,b)->look env t=.bool b)->
    (clsK stb cr d k env<=cl/\match evD Φ cr d k env st.mem with
     |some (p,v,m)=>p/\KeepE stb cl st.mem m/\StoreE Φ gw cr d k env cl st.mem (p,v,m)/\ziY Φ stb gw cr l cls ⟨Go.Fw.put env d v,m⟩ Q
     |none=>False)->
    ∃E M N,TrD Φ stb gw cr (.mk d g k:: l) (cl:: cls) st E M N/\Q ⟨E,M (COp.mk d g k:: l).length⟩:=by
    intro env h0 hg ⟨hcl,hm⟩;split at hm
    ·rename_i p v m he;obtain⟨E,M,N,ht,hQ⟩:=ih cls _ hlen' w3 hm.2.2.2;exact⟨E,_,_,put env v m E M N h0 ht fun hd=>.on (r:=(p,v,m)) hg he hm.1 hd hcl hm.2.1 hm.2.2.1,hQ⟩
    ·exact hm.elim
   cases g with
   |none=>simp only[ziY]at h;exact on st.env (fun _=>rfl) (fun t b e=>by cases e) h
   |some gg=>
    obtain⟨t,bb⟩:=gg;simp only[ziY]at h;split at h
    ·rename_i x hx;obtain⟨h1,h2⟩:=h;cases hxb:(x==bb)with
     |true=>
      obtain rfl:x=bb:=by simpa using hxb
      exact on ((t,.bool x):: st.env) (zrb hx) (fun t' b' e=>by cases e;simp[look]) (h1 hxb)
     |false=>
      have hx':x= !bb:=by revert hxb;clear h1 h2 hx;cases x<;>cases bb<;>decide
      subst hx';obtain⟨E,M,N,ht,hQ⟩:=ih cls _ hlen' w3 (h2 hxb);exact⟨E,_,_,put _ _ _ E M N (zrb hx) ht fun hd=>.off (.inl (by simp[look])) hd,hQ⟩
    ·rename_i hx;obtain⟨E,M,N,ht,hQ⟩:=ih cls _ hlen' w3 h;exact⟨E,_,_,put st.env _ _ E M N (fun _=>rfl) ht fun hd=>.off (.inr hx) hd,hQ⟩
    ·exact h.elim
theorem zp4{C:Ctx}{H:Hp}{F:Fr}{Z:Bt}{st:St}{b:Frame}{cs:List Frame}{d:Option Nat}{g:Option (Nat×Bool)}{k:K}{f:FuncId}{args:List AV}{r:AV}{m1:List Ent}{o:Oper}{a:Act}{w:World}{os:Array Oper}{j:Nat}{idx:List Nat}{k':List Item}(hj:os[j]? =some o)(hc:chkOp C.P C.fn.ntmps os (.mk d g k) o=true)
 (hw:Region.wanted o (yielded os a.tmps)=true)(hk:(∃xs,k=.call f xs/\args=xs.map (ar st.env))\/(∃y xs caps f0,k=.callv y xs/\ar st.env y=.fn f0 caps/\Nat.beq f0 ERR=false/\f=fnum f0/\args=fargs f0 (xs.map (ar st.env)) caps))(hcs:zgl C.P f args st.mem r m1)(hr:Rel H F Z C.fn.ntmps st a w):
 ∃a1 w1 H1 β1,Steps C.P (lone (b.at a (.inRegion os (j:: idx):: k')) cs w) (lone (b.at a1 (.inRegion os idx:: k')) cs w1)/\HX F H H1/\zcY Z β1/\
  Rel H1 F β1 C.fn.ntmps ⟨put st.env d r,m1⟩ a1 w1/\∃x,a1=a.put o.dst x:=by
 obtain⟨d1,d2⟩:=zdu hc;simp only[COp.d]at d1;have hops:∃cargs:Array Value,(execOp a.eval o).run C.P w=(callFunc f cargs).run C.P w/\cargs.size=args.length/\∀(i:Nat) v x,args[i]? =some v->cargs[i]? =some x->Rep H Z v x:=by
  rcases hk with⟨xs,rfl,rfl⟩|⟨y,xs,caps,f0,rfl,hy,hne,rfl,rfl⟩
  ·obtain⟨cargs,e1,e2,e3⟩:=zs1 (P:=C.P) hc rfl hr;exact⟨cargs,e1,by simpa using e2,e3⟩
  ·exact zvC (P:=C.P) hc rfl hr hy hne
 obtain⟨cargs,e1,e2,e3⟩:=hops;have hC:=hcs.2 H F Z cargs w hr.sat e2 e3;obtain⟨v,w1,⟨v',H1,β1,e4,g3,g4,g5,g6⟩,hst⟩:=zgG (b:=b) (k:=k') (cs:=cs) (rest:=idx) hj hw (by rw[e1];exact hcs.1 cargs w) hC
  (fun e w'' ⟨v,_,_,h,_⟩=>⟨v,h⟩)
 cases e4;have hd3:(match o.dst with|some d=>decide (d<C.fn.ntmps)|none=>true)=true:=by
  cases h:o.dst with
  |none=>rfl
  |some n=>simpa using d2 n h
 refine⟨_,w1,H1,β1,hst,g5,g6,?_,_,rfl⟩;have:=zgi hr g5.1 g6 hd3 g3 g4;rw[<-d1]at this|-;exact this
theorem zyY{C:Ctx}{Φ:List (En C.P)}{H:Hp}{F:Fr}{Z:Bt}{st:St}{b:Frame}{cs:List Frame}{cr:List (Nat×CR)}{c:COp}{o:Oper}{r:Ev}{a:Act}{w:World}{os:Array Oper}{j:Nat}{idx:List Nat}{k':List Item}(hj:os[j]? =some o)(hc:chkOp C.P C.fn.ntmps os c o=true)
 (hw:Region.wanted o (yielded os a.tmps)=true)(he:evD Φ cr c.d c.k st.env st.mem=some r)(hs:r.1)(hr:Rel H F Z C.fn.ntmps st a w):
 ∃a1 w1 H1 β1,Steps C.P (lone (b.at a (.inRegion os (j:: idx):: k')) cs w) (lone (b.at a1 (.inRegion os idx:: k')) cs w1)/\HX F H H1/\zcY Z β1/\
  Rel H1 F β1 C.fn.ntmps ⟨put st.env c.d r.2.1,r.2.2⟩ a1 w1/\∃x,a1=a.put o.dst x:=by
 obtain⟨d,g,k⟩:=c;have plain:evX Φ k st.env st.mem=some r->∃a1 w1 H1 β1,Steps C.P (lone (b.at a (.inRegion os (j:: idx):: k')) cs w) (lone (b.at a1 (.inRegion os idx:: k')) cs w1)/\HX F H H1/\zcY Z β1/\
  Rel H1 F β1 C.fn.ntmps ⟨put st.env d r.2.1,r.2.2⟩ a1 w1/\∃x,a1=a.put o.dst x:=fun he=>zyZ (c:=.mk d g k) hj hc hw he hs hr
 cases k;case call f xs=>
  cases hl:zfB cr d with
  |none=>simp only[COp.d,COp.k,evD,hl]at he;exact plain he
  |some c=>simp only[COp.d,COp.k,evD,hl]at he;cases he;exact zp4 (k:=.call f xs) hj hc hw (.inl ⟨xs,rfl,rfl⟩) (zto hs) hr
 case callv y xs=>
  simp only[COp.d,COp.k,evD]at he;split at he
  ·rename_i c f caps e1 e2;split at he
   ·rename_i hne;cases he;exact zp4 (k:=.callv y xs) hj hc hw (.inr ⟨y,xs,caps,f,rfl,e2,hne,rfl,rfl⟩) (zto hs) hr
   ·cases he
  ·cases he
 all_goals exact plain he
end Go.Fw
namespace Go.Fw
open Go
theorem zl1{P:Program}{N:Nat}{os:Array Oper}:∀(ord:List Nat)(ops:List COp),zn1 P N os ord ops=true->
 ord.length=ops.length/\∀i c,ops[i]? =some c->∃o,os[ord.getD i 0]? =some o/\chkOp P N os c o=true
 |[],[],_=>by simp
 |[],_:: _,h|_:: _,[],h=>by simp[zn1]at h
 |j:: ord,c:: ops,h=>by
  simp only[zn1,yhb]at h;obtain⟨h1,h2⟩:=h;obtain⟨g1,g2⟩:=zl1 ord ops h2;refine⟨by simp[g1],fun i c' hi=>?_⟩;cases i with
  |zero=>
   simp only[List.getElem?_cons_zero,Option.some.injEq]at hi;subst hi;simp only[List.getD_cons_zero];split at h1
   ·rename_i o ho;exact⟨o,ho,h1⟩
   ·cases h1
  |succ i=>simpa using g2 i c' (by simpa using hi)
theorem zgg:∀(l:List Nat),zif l=true->∀i j,i<l.length->j<l.length->l.getD i 0=l.getD j 0->i=j
|[],_=>by simp
|x:: l,h=>by
 simp only[zif,yhb,yho,List.contains_eq_mem,yhd]at h;intro i j hi hj e;cases i with
 |zero=>
  cases j with
  |zero=>rfl
  |succ j=>simp only[List.getD_cons_zero,List.getD_cons_succ]at e;refine absurd ?_ h.1;simp only[yhs,Nat.add_lt_add_iff_right]at hj;rw[e,List.getD_eq_getElem?_getD,ygb hj];simp
 |succ i=>
  simp only[yhs,Nat.add_lt_add_iff_right]at hi;cases j with
  |zero=>simp only[List.getD_cons_zero,List.getD_cons_succ]at e;refine absurd ?_ h.1;rw[<-e,List.getD_eq_getElem?_getD,ygb hi];simp
  |succ j=>simp only[yhs,Nat.add_lt_add_iff_right]at hj;simp only[List.getD_cons_succ]at e;rw[zgg l h.2 i j hi hj e]
structure DOk (P:Program)(N:Nat)(os:Array Oper)(ord anc cls:List Nat)(ops:List COp):Prop where
 len:ord.length=ops.length
 size:ord.length=os.size
 clen:cls.length=ops.length
 op:∀i c,ops[i]? =some c->∃o,os[ord.getD i 0]? =some o/\chkOp P N os c o=true
 inj:∀i j,i<ops.length->j<ops.length->ord.getD i 0=ord.getD j 0->i=j
 all:∀i,i<os.size->∃p,p<ops.length/\ord.getD p 0=i
 wf:wfD ops=true
 edge:∀i e,i<ops.length->e∈bindsTo os (ord.getD i 0)->∃q,q<i/\ord.getD q 0=e
 ancs:∀i j,i<ops.length->j<i->(anc.getD i 0).testBit j=true->∃e,e∈bindsTo os (ord.getD i 0)/\(ord.getD j 0=e\/∃q,q<i/\j<q/\ord.getD q 0=e/\(anc.getD q 0).testBit j=true)
 read:∀(i:Nat) c t (j:Nat) c',ops[i]? =some c->t∈slots c->ops[j]? =some c'->c'.d=some t->(j<i/\(anc.getD i 0).testBit j=true)\/j=i\/(i<j/\(anc.getD j 0).testBit i=true)
 clss:∀i j,i<ops.length->j<i->confC (cls.getD j 0) (cls.getD i 0)=true->lateB cls ops i=false->(anc.getD i 0).testBit j=true
 late5:∀i j,i<ops.length->lateB cls ops i=true->j<i->cls.getD j 0<5
 lateR:∀(i r j:Nat) c c' d,lateB cls ops i=true->ops[i]? =some c->c.d=some d->ops[r]? =some c'->(d∈slots c'\/(lateB cls ops r=false/\i<r/\1<=cls.getD r 0))->j<i->1<=cls.getD j 0->(anc.getD r 0).testBit j=true
theorem zs4{P:Program}{N:Nat}{os:Array Oper}{ord anc cls:List Nat}{ops:List COp}(h:zBw P N os ord anc cls ops=true):DOk P N os ord anc cls ops:=by
 unfold zBw at h;simp only[yhb]at h;obtain⟨⟨⟨⟨⟨⟨⟨⟨⟨h1,h0⟩,h2⟩,h3⟩,h4⟩,h5⟩,h6⟩,h7⟩,h8⟩,h9⟩:=h;obtain⟨g1,g2⟩:=zl1 ord ops h1;obtain⟨h01,h02⟩:=of_decide_eq_true h0;refine⟨g1,h01,h02,g2,fun i j hi hj=>zgg ord h2 i j (by omega) (by omega),fun i hi=>?_,h4,fun i e hi he=>?_,fun i j hi hj hb=>?_,fun i c t j c' hi ht hj hd=>?_,fun i j hi hj hc hl=>?_,fun i j hi hl hj=>?_,fun i r j c c' d hl hi hd hr hs hj hcj=>?_⟩
 ·have:=List.all_eq_true.1 h3 i (List.mem_range.2 hi);simp only[List.contains_eq_mem,yhc]at this;obtain⟨p,hp,e⟩:=List.getElem_of_mem this;exact⟨p,by omega,by rw[List.getD_eq_getElem?_getD,ygb hp];simpa using e⟩
 ·unfold zqK at h5;have:=List.all_eq_true.1 (List.all_eq_true.1 h5 i (List.mem_range.2 (by omega))) e he;simp only[List.contains_eq_mem,yhc]at this;obtain⟨q,hq,e⟩:=List.getElem_of_mem this;have hq':=hq;simp only[List.length_take]at hq';refine⟨q,by omega,?_⟩;rw[List.getElem_take]at e;rw[List.getD_eq_getElem?_getD,ygb (by omega)];simpa using e
 ·unfold zxc at h6;have:=List.all_eq_true.1 (List.all_eq_true.1 h6 i (List.mem_range.2 (by omega))) j (List.mem_range.2 hj);simp only[hb,Bool.not_true,Bool.false_or,List.any_eq_true,Bool.or_eq_true,yhe,yhb,List.mem_range,yhc]at this;obtain⟨e,he,h⟩:=this;exact⟨e,he,h.imp id fun⟨q,hq,⟨h1,h2⟩,h3⟩=>⟨q,hq,h1,h2,h3⟩⟩
 ·unfold zs5 at h7;have:=List.all_eq_true.1 h7 i (List.mem_range.2 (yga.1 hi).1);rw[hi]at this;have:=List.all_eq_true.1 (List.all_eq_true.1 this t ht) j (List.mem_range.2 (yga.1 hj).1);rw[hj]at this;simp only[hd,bne_self_eq_false,Bool.false_or,yhb,Bool.or_eq_true,yhc,Nat.beq_eq]at this;rcases this with h|⟨h1,h2|h2⟩
  ·exact .inl h
  ·exact .inr (.inl h2.symm)
  ·rcases Nat.eq_or_lt_of_le h1 with h|h
   ·exact .inr (.inl h.symm)
   ·exact .inr (.inr ⟨h,h2⟩)
 ·unfold zxd at h8;have:=List.all_eq_true.1 (List.all_eq_true.1 h8 i (List.mem_range.2 hi)) j (List.mem_range.2 hj);rw[hc]at this;simp only[Bool.not_true,Bool.false_or,hl,Bool.or_false]at this;exact this
 ·unfold zpn at h9;have:=List.all_eq_true.1 h9 i (List.mem_range.2 hi);rw[hl]at this;simp only[Bool.not_true,Bool.false_or,yhb]at this;simpa using List.all_eq_true.1 this.1 j (List.mem_range.2 hj)
 ·unfold zpn at h9;have:=List.all_eq_true.1 h9 i (List.mem_range.2 (yga.1 hi).1);rw[hl]at this;simp only[Bool.not_true,Bool.false_or,yhb]at this;have:=List.all_eq_true.1 this.2 r (List.mem_range.2 (yga.1 hr).1);rw[hi,hr]at this;simp only[hd,List.contains_eq_mem,Bool.or_eq_true,yhb,yho,yhd,Nat.beq_eq,Nat.ble_eq]at this;rcases this with⟨h1,h2⟩|h
  ·rcases hs with hs|⟨q1,q2,q3⟩
   ·exact absurd hs h1
   ·rw[q1]at h2;rcases h2 with(h2|h2)|h2
    ·cases h2
    ·omega
    ·omega
  ·have:=List.all_eq_true.1 h j (List.mem_range.2 hj);simp only[Bool.or_eq_true,Nat.beq_eq]at this;exact this.resolve_left (by omega)
theorem zgd{a n:Nat}(h:n<=a)(h3:n<=3):n<=zfj a:=by unfold zfj;split<;>omega
theorem zjK{a b:Nat}(h:a<5\/b<5\/a=b):(!(decide (5<=a)&&decide (5<=b)&&a !=b))=true:=by
 rcases h with h|h|h
 ·rw[show decide (5<=a)=false from decide_eq_false (by omega)];rfl
 ·rw[show decide (5<=b)=false from decide_eq_false (by omega),Bool.and_false];rfl
 ·subst h;simp
theorem zs9{a b:Nat}(ha:3<=a)(hb:2<=b)(h:a<5\/b<5\/a=b):confC a b=true:=by unfold confC;rw[zjK h,decide_eq_true (⟨zgd ha (Nat.le_refl _),zgd hb (by omega)⟩:3<=zfj a/\2<=zfj b)];rfl
theorem zs8{a b:Nat}(ha:2<=a)(hb:3<=b)(h:a<5\/b<5\/a=b):confC a b=true:=by unfold confC;rw[zjK h,decide_eq_true (⟨zgd ha (by omega),zgd hb (Nat.le_refl _)⟩:2<=zfj a/\3<=zfj b)];simp
theorem zs7{b:Nat}(hb:1<=b):confC 4 b=true:=by unfold confC;rw[zjK (.inl (by omega)),decide_eq_true (⟨rfl,zgd hb (by omega)⟩:zfj 4=4/\1<=zfj b)];simp
theorem zx0{a:Nat}(ha:1<=a):confC a 4=true:=by unfold confC;rw[zjK (.inr (.inl (by omega))),decide_eq_true (⟨zgd ha (by omega),rfl⟩:1<=zfj a/\zfj 4=4)];simp
theorem zkW{os:Array Oper}{j e:Nat}:e∈bindsTo os j↔∃o,os[j]? =some o/\∃x∈o.after,Region.binds .any x=true/\x.on=e:=by
 unfold bindsTo;cases h:os[j]? with
 |none=>simp
 |some o=>simp[and_assoc]
section
variable {P:Program}{N:Nat}{os:Array Oper}{ord anc cls:List Nat}{ops:List COp}
def zBo(os:Array Oper)(ord:List Nat)(n:Nat)(L:Array Bool):Prop:=∀i,i<n->L.getD (ord.getD i 0) false=true->∀e∈bindsTo os (ord.getD i 0),L.getD e false=true
theorem DOk.listed(h:DOk P N os ord anc cls ops){L:Array Bool}(hd:zBo os ord ops.length L):∀i,i<ops.length->(∀e∈bindsTo os (ord.getD i 0),L.getD e false=true)->
 ∀j,j<i->(anc.getD i 0).testBit j=true->L.getD (ord.getD j 0) false=true:=by
 intro i;induction i using Nat.strongRecOn with
 |ind i ih=>
  intro hi hL j hj hb;obtain⟨e,he,hor⟩:=h.ancs i j hi hj hb;rcases hor with rfl|⟨q,hq,hjq,rfl,hqb⟩
  ·exact hL _ he
  ·exact ih q hq (by omega) (hd q (by omega) (hL _ he)) j hjq hqb
theorem zCL{M:Nat->List Ent}{n e:Nat}{W:Nat->Prop}(hm:∀j,j<n->¬W j->(M (j+1))[e]? =(M j)[e]?):∀d p,p+d<=n->(∀j,j<n->W j->(j<p↔j<p+d))->(M (p+d))[e]? =(M p)[e]?:=by
 intro d;induction d with
 |zero=>intro p _ _;rfl
 |succ d ih=>
  intro p hp h;have h1:¬W (p+d):=fun h'=>by have:=(h (p+d) (by omega) h').2 (by omega);omega
  rw[show p+(d+1)=p+d+1 from rfl,hm _ (by omega) h1];exact ih p (by omega) (fun j hj hc=>⟨fun h2=>by omega,fun h2=>(h j hj hc).2 (by omega)⟩)
theorem zwe{M:Nat->List Ent}{n e:Nat}{W:Nat->Prop}(hm:∀j,j<n->¬W j->(M (j+1))[e]? =(M j)[e]?){p q:Nat}(hp:p<=n)(hq:q<=n)(h:∀j,j<n->W j->(j<p↔j<q)):(M p)[e]? =(M q)[e]?:=by
 rcases Nat.le_total p q with hpq|hpq
 ·obtain⟨d,rfl⟩:=Nat.exists_eq_add_of_le hpq;exact(zCL hm d p hq h).symm
 ·obtain⟨d,rfl⟩:=Nat.exists_eq_add_of_le hpq;exact zCL hm d q hp (fun j hj hc=>(h j hj hc).symm)
end
theorem ztz{L:Array Bool}{i:Nat}(h:i<L.size):L.getD i false=L.getD i true:=by simp[Array.getD,h]
theorem zl3{α:Type}{p q:α->Bool}{l:List α}{x:α}(hx:x∈l)(h1:p x=true)(h2:q x=false)(h3:∀y,q y=true->p y=true):l.countP q<l.countP p:=by
 induction l with
 |nil=>simp at hx
 |cons y l ih=>
  simp only[List.countP_cons];have hle:l.countP q<=l.countP p:=List.countP_mono_left fun z _=>h3 z;by_cases hxy:x=y
  ·subst hxy;simp[h1,h2];omega
  ·have:=ih ((List.mem_cons.1 hx).resolve_left hxy);have hy:(if q y=true then 1 else 0)<=(if p y=true then 1 else 0):=by
    split
    ·rename_i hq;simp[h3 y hq]
    ·omega
   omega
theorem Rel.same{H:Hp}{F:Fr}{Z:Bt}{N:Nat}{st st':St}{a:Act}{w:World}(h:Rel H F Z N st a w)(he:∀t,look st.env t=look st'.env t)(hm:st.mem=st'.mem):Rel H F Z N st' a w:=
 ⟨h.defers,h.size,fun n=>he n ▸ h.env n,hm ▸ h.sat⟩
theorem Sat.weak{H:Hp}{F1 F2:Fr}{Z:Bt}{mem:List Ent}{w:World}(h:Sat H F1 Z mem w)(h0:F2.w0=F1.w0)(h1:∀c o,F2 c=some o->F1 c=some o):Sat H F2 Z mem w:=
 {hH:=h.hH
  gh:=h.gh
  hF:=fun b o x=>h.hF b o (h1 b o x)
  sm:=⟨h0 ▸ h.sm.os,h0 ▸ h.sm.tape,h0 ▸ h.sm.output,h0 ▸ h.sm.size⟩
  hl:=h.hl
  ent:=h.ent
  apart:=fun i e x hi he hx=>by
   obtain⟨a1,a2⟩:=h.apart i e x hi he hx;refine⟨a1,?_⟩;cases hc:F2 x.1 with
   |none=>rfl
   |some o=>rw[h1 _ _ hc]at a2;cases a2
  inj:=h.inj}
theorem Sat.alloc_fr{H:Hp}{F1:Fr}{Z:Bt}{mem:List Ent}{w:World}(h:Sat H F1 Z mem w)(o:Obj):Sat H ⟨zgb F1.h w.heap.size o,F1.w0⟩ Z mem (w.alloc o):=by
 have hn:=h.none_at_size;refine{hH:=fun b o' x=>?_,gh:=h.gh,hF:=fun b o' x=>?_,sm:=⟨h.sm.os,h.sm.tape,h.sm.output,Nat.le_trans h.sm.size (by simp only[World.alloc,Array.size_push];omega)⟩,hl:=h.hl,ent:=fun i e x hi hx=>?_,apart:=fun i e x hi he hx=>?_,inj:=h.inj}
 ·rw[heap_alloc_old w o b (zaT (h.hH _ _ x))];exact h.hH _ _ x
 ·change zgb F1.h w.heap.size o b=some o' at x;unfold zgb at x;split at x
  ·rename_i e;subst e;cases x;exact heap_alloc_new w o
  ·rw[heap_alloc_old w o b (zaT (h.hF _ _ x))];exact h.hF _ _ x
 ·refine(h.ent i e x hi hx).mono (.refl _) (zcY.refl _) fun b es cap hxe hl=>?_;subst hxe;exact heap_alloc_old w o b ((h.ent i e _ hi hx).lt hl)
 ·have:=h.apart i e x hi he hx;refine⟨this.1,?_⟩;change zgb F1.h w.heap.size o x.1=none;unfold zgb;split
  ·rename_i e';have:=(h.ent i e _ hi hx).lt (b:=x.1) (es:=x.2.1) (cap:=x.2.2) he;omega
  ·exact this.2
theorem Sat.take_fr{H:Hp}{F1 F2:Fr}{Z:Bt}{mem:List Ent}{w:World}(h:Sat H F1 Z mem w)(h0:F2.w0=F1.w0)(h1:∀c o,F2 c=some o->F1 c=some o){b:Nat}{cells:Array Value}{elem:TypeId}{zs:List AV}
 (hb:F1 b=some (.cells cells elem))(hHb:H b=none)(hFb:F2 b=none)(hl:cells.size=zs.length)(hcell:∀c∈zs,c.isCell=true)
 (hr:∀(j:Nat) c,zs[j]? =some c->∃v,cells[j]? =some v/\∀H Z,Rep H Z c v)(hbd:okC zs.length cells elem):
 Sat H F2 (Z++[some (b,zs.length,1)]) (mem++[.arr zs.length [zs]]) w:=by
 have hw:=h.weak h0 h1;have hB:=zcY.append Z [some (b,zs.length,1)];have old:∀(i:Nat)(e:Ent),(mem++[Ent.arr zs.length [zs]])[i]? =some e->(i<mem.length/\mem[i]? =some e)\/(i=mem.length/\e=.arr zs.length [zs]):=by
  intro i e hi;rw[List.getElem?_append]at hi;split at hi
  ·exact .inl ⟨by assumption,hi⟩
  ·rename_i hlt;have:i-mem.length=0:=by have:=(yga.1 hi).1;simp at this;omega
   rw[this]at hi;simp at hi;exact .inr ⟨by omega,hi.symm⟩
 have oldβ:∀i x,(Z++[some (b,zs.length,1)])[i]? =some x->(i<mem.length->Z[i]? =some x)/\(i=mem.length->x=some (b,zs.length,1)):=by
  intro i x hi;rw[<-h.hl];constructor
  ·intro hlt;rw[yge hlt]at hi;exact hi
  ·intro he;subst he;simp at hi;exact hi.symm
 have apart':∀(i:Nat) e x,mem[i]? =some e->e.live=true->Z[i]? =some (some x)->x.1≠b:=fun i e x hi he hx hxb=>by have:=(h.apart i e x hi he hx).2;rw[hxb,hb]at this;cases this
 refine{hH:=hw.hH,gh:=hw.gh,hF:=hw.hF,sm:=hw.sm,hl:=by simp[h.hl],ent:=fun i e x hi hx=>?_,apart:=fun i e x hi he hx=>?_,inj:=fun i j e e' x y hi he hj he' hx hy hxy=>?_}
 ·rcases old i e hi with⟨hlt,hi'⟩|⟨hlt,rfl⟩
  ·have hx':=(oldβ i x hx).1 hlt;exact(h.ent i e x hi' hx').mono (zgm.refl _) hB fun _ _ _ _ _=>rfl
  ·obtain rfl:=(oldβ i x hx).2 hlt;refine⟨rfl,cells,elem,h.hF _ _ hb,by simp[hl],by simp,by simp,by simpa using hcell,fun i r j c hi hj=>?_,fun _=>hbd⟩;cases i with
   |zero=>simp only[List.getElem?_cons_zero,Option.some.injEq]at hi;subst hi;obtain⟨v,e1,e2⟩:=hr j c hj;exact⟨v,by simpa using e1,e2 _ _⟩
   |succ i=>simp at hi
 ·rcases old i e hi with⟨hlt,hi'⟩|⟨hlt,rfl⟩
  ·exact hw.apart i e x hi' he ((oldβ i _ hx).1 hlt)
  ·have:=(oldβ i _ hx).2 hlt;cases this;exact⟨hHb,hFb⟩
 ·rcases old i e hi with⟨hlt,hi'⟩|⟨hlt,rfl⟩<;>rcases old j e' hj with⟨hlt',hj'⟩|⟨hlt',rfl⟩
  ·exact h.inj i j e e' x y hi' he hj' he' ((oldβ i _ hx).1 hlt) ((oldβ j _ hy).1 hlt') hxy
  ·have:=(oldβ j _ hy).2 hlt';cases this;exact absurd hxy (apart' i e x hi' he ((oldβ i _ hx).1 hlt))
  ·have:=(oldβ i _ hx).2 hlt;cases this;exact absurd hxy.symm (apart' j e' y hj' he' ((oldβ j _ hy).1 hlt'))
  ·omega
theorem zrD{C:Ctx}{H:Hp}{F1:Fr}{Z:Bt}{st:St}{b:Frame}{cs:List Frame}{d:Nat}{zs:List AV}{o:Oper}{a:Act}{w:World}{os:Array Oper}{j:Nat}{idx:List Nat}{k':List Item}(hj:os[j]? =some o)
 (hc:chkOp C.P C.fn.ntmps os (.mk (some d) none (.alloc zs)) o=true)(hr:Rel H F1 Z C.fn.ntmps st a w):
 ∃cells elem,Steps C.P (lone (b.at a (.inRegion os (j:: idx):: k')) cs w) (lone (b.at (a.put (some d) (.pointer (some ⟨w.heap.size,0,none⟩))) (.inRegion os idx:: k')) cs (w.alloc (.cells cells elem)))/\
  d<C.fn.ntmps/\cells.size=zs.length/\(∀c∈zs,c.isCell=true)/\(∀(j:Nat) c,zs[j]? =some c->∃v,cells[j]? =some v/\∀H Z,Rep H Z c v)/\okC zs.length cells elem/\
  Rel H ⟨zgb F1.h w.heap.size (.cells cells elem),F1.w0⟩ Z C.fn.ntmps ⟨(d,.junk):: st.env,st.mem⟩ (a.put (some d) (.pointer (some ⟨w.heap.size,0,none⟩))) (w.alloc (.cells cells elem)):=by
 obtain⟨d1,d2⟩:=zdu hc;simp only[COp.d]at d1;have hd:=d2 d d1.symm;have hg:=zgN hc;unfold chkOp at hc;simp only[yhb,yhe,COp.k]at hc;have h4:=hc.2;cases hop:o.op<;>rw[hop]at h4<;>try(simp[zsQ]at h4;done)
 rename_i t;simp only[zsQ]at h4;rw[yhb]at h4;obtain⟨h4,hbb⟩:=h4;simp only[yhb,yhe]at h4;have hz:=h4.1;unfold zex at hz;split at hz
 ·rename_i z hzz;have hrep:=fun H Z=>zbE H Z zs z.cells.toList hz;obtain⟨h1,h2,_⟩:=hrep H Z;have hzv:(zeroValue t).run C.P w=.ok z w:=by
   cases hi:C.P.info? t with
   |none=>simp[hi]at hzz
   |some i=>simp[hi]at hzz;simp[zeroValue,typeInfo,hi,hzz]
  refine⟨z.cells,t,?_,hd,by simpa using h1.symm,h2,fun j c hj=>?_,?_,?_⟩
  ·have hrun:(execOp a.eval o).run C.P w=.ok (.value (.pointer (some ⟨w.heap.size,0,none⟩))) (w.alloc (.cells z.cells t)):=by simp[execOp,hop,Instr.alloc,hzv,newVar,newRow]
   have:=Steps.one (zih (P:=C.P) (b:=b) (a:=a) (k:=k') (cs:=cs) (w:=w) (rest:=idx) hj (ze5 hg) hrun);rw[<-d1]at this;exact this
  ·have hlt:j<z.cells.toList.length:=by rw[<-h1];exact(yga.1 hj).1
   refine⟨z.cells.toList[j],by simp,fun H Z=>(hrep H Z).2.2 j c _ hj (ygb hlt)⟩
  ·exact zyS (H:=H) (Z:=Z) (by simpa using h1.symm) (fun i d x hd hx=>(hrep H Z).2.2 i d x hd (by simpa using hx)) hbb
  ·refine⟨hr.defers,by simp[Act.put,hr.size],fun n=>?_,hr.sat.alloc_fr _⟩;simp only[look,Act.put];by_cases e:d=n
   ·subst e;simp only[if_true];exact .junk
   ·simp only[e,if_false];simpa[Array.getElem?_setIfInBounds_ne e]using hr.env n
 ·cases hz
theorem znH:∀(l:List COp),wfD l=true->∀(i j:Nat) c c' t,l[i]? =some c->l[j]? =some c'->c.d=some t->c'.d=some t->i=j
|[],_=>by simp
|x:: l,h=>by
 obtain⟨h2,h3⟩:=znG h;intro i j c c' t hi hj hc hc';cases i with
 |zero=>
  cases j with
  |zero=>rfl
  |succ j=>simp only[List.getElem?_cons_zero,Option.some.injEq,List.getElem?_cons_succ]at hi hj;subst hi;exact absurd hc' (h2 t hc c' (ygd hj))
 |succ i=>
  cases j with
  |zero=>simp only[List.getElem?_cons_zero,Option.some.injEq,List.getElem?_cons_succ]at hi hj;subst hj;exact absurd hc (h2 t hc' c (ygd hi))
  |succ j=>simp only[List.getElem?_cons_succ]at hi hj;rw[znH l h3 i j c c' t hi hj hc hc']
theorem zfz{cls:List Nat}{ops:List COp}{i:Nat}(h:lateB cls ops i=true):∃d zs,ops[i]? =some (.mk (some d) none (.alloc zs))/\cls.getD i 0=4/\i<ops.length:=by
 unfold lateB at h;split at h
 ·rename_i d zs e;exact⟨d,zs,e,Nat.eq_of_beq_eq_true h,(yga.1 e).1⟩
 ·cases h
structure Pend (F F1:Fr)(pd:Nat->Option (Nat×Obj))(H:Hp):Prop where
 w0:F1.w0=F.w0
 old:∀c o,F c=some o->F1 c=some o
 new:∀p b o,pd p=some (b,o)->F1 b=some o/\F b=none/\H b=none
 inj:∀p q b o o',pd p=some (b,o)->pd q=some (b,o')->p=q
theorem Pend.nx{F F1:Fr}{pd:Nat->Option (Nat×Obj)}{H H1:Hp}(h:Pend F F1 pd H)(hx:HX F1 H H1):∀p b o,pd p=some (b,o)->F1 b=some o/\F b=none/\H1 b=none:=by
 intro p b o hp;obtain⟨a1,a2,a3⟩:=h.new p b o hp;refine⟨a1,a2,?_⟩;cases hb:H1 b with
 |none=>rfl
 |some o'=>
  rcases hx.2 b o' hb with e|e
  ·rw[a3]at e;cases e
  ·rw[a1]at e;cases e
theorem Pend.hx{F F1:Fr}{pd:Nat->Option (Nat×Obj)}{H H1:Hp}(h:Pend F F1 pd H)(hx:HX F1 H H1):Pend F F1 pd H1:=
 ⟨h.w0,h.old,h.nx hx,h.inj⟩
theorem HX.low{F F1:Fr}{H H1:Hp}(h:HX F1 H H1)(ho:∀c o,F c=some o->F1 c=some o):HX F H H1:=by
 refine⟨h.1,fun b o hb=>(h.2 b o hb).imp id fun e=>?_⟩;cases hF:F b with
 |none=>rfl
 |some o'=>rw[ho b o' hF]at e;cases e
structure DInv (cls:List Nat)(ops:List COp)(ord:List Nat)(E e0:List (Nat×AV))(M:Nat->List Ent)(gw:Nat->Nat)(L:Array Bool)(R:Nat->Bool)(pd:Nat->Option (Nat×Obj))(st:St)(a:Act):Prop where
 rl:∀p,p<ops.length->R p=true->L.getD (ord.getD p 0) false=true
 nl:∀p,p<ops.length->lateB cls ops p=false->L.getD (ord.getD p 0) false=true->R p=true
 env:∀t,(∀p c,ops[p]? =some c->R p=false->c.d≠some t)->look st.env t=look E t
 env0:∀t,(∀p c,ops[p]? =some c->L.getD (ord.getD p 0) false=true->c.d≠some t)->look st.env t=look e0 t
 mem:∀e:Nat,∃q,q<=ops.length/\st.mem[e]? =(M q)[e]?/\∀j,j<ops.length->3<=cls.getD j 0->(5<=cls.getD j 0->gw e=cls.getD j 0)->(j<q↔R j=true)
 up:∀j p,j<ops.length->R j=true->1<=cls.getD j 0->p<j->lateB cls ops p=true->R p=true
 dn:∀p j,lateB cls ops p=true->R p=true->j<p->1<=cls.getD j 0->R j=true
 bl:∀p d zs,ops[p]? =some (.mk (some d) none (.alloc zs))->lateB cls ops p=true->L.getD (ord.getD p 0) false=true->R p=false->
  ∃b cells elem,pd p=some (b,.cells cells elem)/\cells.size=zs.length/\(∀c∈zs,c.isCell=true)/\(∀(j:Nat) c,zs[j]? =some c->∃v,cells[j]? =some v/\∀H Z,Rep H Z c v)/\okC zs.length cells elem/\a.tmps.getD d undef=.pointer (some ⟨b,0,none⟩)
theorem zBQ{Q:Nat->Prop}(h:∃p,Q p):∃p,Q p/\∀q,q<p->¬Q q:=by
 obtain⟨p,hp⟩:=h;induction p using Nat.strongRecOn with
 |ind p ih=>
  rcases Classical.em (∃q,q<p/\Q q)with⟨q,h1,h2⟩|h
  ·exact ih q h1 h2
  ·exact⟨p,hp,fun q h1 h2=>h ⟨q,h1,h2⟩⟩
section
variable {C:Ctx}{Φ:List (En C.P)}{os:Array Oper}{ord anc cls:List Nat}{ops:List COp}{stb:List Nat}{gw:Nat->Nat}{cr:List (Nat×CR)}{E e0:List (Nat×AV)}{M:Nat->List Ent}{N:Nat->List (Nat×AV)}{b:Frame}{cs:List Frame}{k':List Item}{F:Fr}
theorem zsf(hM:∀i c,ops[i]? =some c->StepOk Φ stb gw cr (N i) E c (cls.getD i 0) (M i) (M (i+1)))(hent:∀(e:Nat) j,j<ops.length->¬(3<=cls.getD j 0/\(5<=cls.getD j 0->gw e=cls.getD j 0))->(M (j+1))[e]? =(M j)[e]?)
 (L:Array Bool)(H:Hp)(a:Act)(w:World):∀(n:Nat)(R:Nat->Bool)(pd:Nat->Option (Nat×Obj))(st:St)(Z:Bt)(F1:Fr),(List.range ops.length).countP (fun p=>!R p)<=n->
  DInv cls ops ord E e0 M gw L R pd st a->Pend F F1 pd H->Rel H F1 Z C.fn.ntmps st a w->
  ∃R' pd' st' β' F1',DInv cls ops ord E e0 M gw L R' pd' st' a/\(∀p,p<ops.length->lateB cls ops p=true->L.getD (ord.getD p 0) false=true->R' p=false->∃j,j<p/\1<=cls.getD j 0/\L.getD (ord.getD j 0) false=false)/\
   Pend F F1' pd' H/\Rel H F1' β' C.fn.ntmps st' a w/\zcY Z β':=by
 intro n;induction n with
 |zero=>intro R pd st Z F1 hcnt hI hP hr;refine⟨R,pd,st,Z,F1,hI,fun p hp _ _ hR=>?_,hP,hr,.refl _⟩;have:=List.countP_eq_zero.1 (Nat.le_zero.1 hcnt) p (List.mem_range.2 hp);rw[hR]at this;simp at this
 |succ n ih=>
  intro R pd st Z F1 hcnt hI hP hr;rcases Classical.em (∃p,lateB cls ops p=true/\L.getD (ord.getD p 0) false=true/\R p=false/\∀j,j<p->1<=cls.getD j 0->L.getD (ord.getD j 0) false=true)with h|h
  ·obtain⟨p,⟨hl,hLp,hRp,hall⟩,hmin⟩:=zBQ h;obtain⟨d,zs,hop,hc4,hpn⟩:=zfz hl;have hallR:∀j,j<p->1<=cls.getD j 0->R j=true:=fun j hj hc=>by
    have hLj:=hall j hj hc;cases hlj:lateB cls ops j with
    |false=>exact hI.nl j (by omega) hlj hLj
    |true=>
     cases hRj:R j with
     |true=>rfl
     |false=>exact absurd ⟨hlj,hLj,hRj,fun j' hj' hc'=>hall j' (by omega) hc'⟩ (hmin j hj)
   obtain⟨bk,cells,elem,hpd,hsz,hcell,hrep,hbd,htmp⟩:=hI.bl p d zs hop hl hLp hRp;obtain⟨f1,f2,f3⟩:=hP.new p bk _ hpd;have hstep:=hM p _ hop;have hmp:∀e:Nat,st.mem[e]? =(M p)[e]?:=fun e=>by
    obtain⟨q,hq,hme,hqj⟩:=hI.mem e;rw[hme];refine zwe (hent e) hq (by omega) fun j hjn ⟨hc,hc5⟩=>?_;rw[hqj j hjn hc hc5];constructor
    ·intro hRj;rcases Nat.lt_trichotomy j p with h|h|h
     ·exact h
     ·subst h;rw[hRp]at hRj;cases hRj
     ·rw[hI.up j p hjn hRj (by omega) h hl]at hRp;cases hRp
    ·intro h;exact hallR j h (by omega)
   have hmem:st.mem=M p:=List.ext_getElem? hmp;have hM1:M (p+1)=M p++[.arr zs.length [zs]]/\look E d=.mp (M p).length 0 0:=by
    generalize M (p+1)=m1 at hstep;generalize M p=m0 at hstep;cases hstep with
    |on hg he hs hd hc hk hst=>simp only[evD,evK,Option.some.injEq]at he;subst he;exact⟨rfl,hd d rfl⟩
   have hrel:Rel H ⟨fun c=>if c=bk then none else F1 c,F1.w0⟩ (Z++[some (bk,zs.length,1)]) C.fn.ntmps ⟨(d,.mp st.mem.length 0 0):: st.env,st.mem++[.arr zs.length [zs]]⟩ a w:=by
    refine⟨hr.defers,hr.size,fun m=>?_,hr.sat.take_fr (F2:=⟨fun c=>if c=bk then none else F1 c,F1.w0⟩) rfl (fun c o hc=>?_) f1 f3 ?_ hsz hcell hrep hbd⟩
    ·simp only[look];split
     ·rename_i e;subst e;rw[htmp];have:Rep H (Z++[some (bk,zs.length,1)]) (.mp st.mem.length 0 0) (.pointer (some ⟨bk,0*zs.length+0,none⟩)):=.mp (capT:=1) (by rw[<-hr.sat.hl];simp);simpa using this
     ·exact(hr.env m).mono (.refl _) (.append _ _)
    ·change(if c=bk then none else F1 c)=some o at hc;split at hc
     ·cases hc
     ·exact hc
    ·change(if bk=bk then none else F1 bk)=none;simp
   have hpend:Pend F ⟨fun c=>if c=bk then none else F1 c,F1.w0⟩ (fun q=>if q=p then none else pd q) H:=by
    refine⟨hP.w0,fun c o hc=>?_,fun q b' o hq=>?_,fun q q' b' o o' hq hq'=>?_⟩
    ·change(if c=bk then none else F1 c)=some o;split
     ·rename_i e;subst e;rw[f2]at hc;cases hc
     ·exact hP.old c o hc
    ·skip
     split at hq
     ·cases hq
     ·rename_i hne;obtain⟨g1,g2,g3⟩:=hP.new q b' o hq;refine⟨?_,g2,g3⟩;change(if b'=bk then none else F1 b')=some o;split
      ·rename_i e;subst e;exact absurd (hP.inj q p _ _ _ hq hpd) hne
      ·exact g1
    ·skip
     split at hq
     ·cases hq
     ·split at hq'
      ·cases hq'
      ·exact hP.inj q q' b' o o' hq hq'
   have hcnt':(List.range ops.length).countP (fun q=>!(if q=p then true else R q))<=n:=by
    have:(List.range ops.length).countP (fun q=>!(if q=p then true else R q))<(List.range ops.length).countP (fun q=>!R q):=by
     refine zl3 (x:=p) (List.mem_range.2 hpn) (by simp[hRp]) (by simp) fun y hy=>?_;simp only[yho]at hy|-;split at hy
     ·cases hy
     ·exact hy
    omega
   have hinv:DInv cls ops ord E e0 M gw L (fun q=>if q=p then true else R q) (fun q=>if q=p then none else pd q) ⟨(d,.mp st.mem.length 0 0):: st.env,st.mem++[.arr zs.length [zs]]⟩ a:=by
    refine⟨fun q hq hR=>?_,fun q hq hlq hL=>?_,fun t ht=>?_,fun t ht=>?_,fun e=>?_,fun j q hj hR hc hqj hlq=>?_,fun q j hlq hR hjq hc=>?_,fun q d' zs' hq hlq hLq hR=>?_⟩
    ·skip
     split at hR
     ·rename_i e;subst e;exact hLp
     ·exact hI.rl q hq hR
    ·skip
     split
     ·rfl
     ·exact hI.nl q hq hlq hL
    ·simp only[look];split
     ·rename_i e;subst e;rw[hM1.2,hmem]
     ·rename_i hne;refine hI.env t fun q c hq hR hd=>?_;by_cases hqp:q=p
      ·subst hqp;rw[hop]at hq;cases hq;simp only[COp.d,Option.some.injEq]at hd;exact hne hd
      ·exact ht q c hq (by simp[hqp,hR]) hd
    ·simp only[look];split
     ·rename_i e;subst e;exact absurd rfl (ht p _ hop hLp)
     ·exact hI.env0 t ht
    ·refine⟨p+1,by omega,by rw[hM1.1,hmem],fun j hjn hc hc5=>?_⟩;by_cases hjp:j=p
     ·subst hjp;simp
     ·simp only[hjp,if_false];constructor
      ·intro h;exact hallR j (by omega) (by omega)
      ·intro hRj;rcases Nat.lt_trichotomy j p with h|h|h
       ·omega
       ·exact absurd h hjp
       ·rw[hI.up j p hjn hRj (by omega) h hl]at hRp;cases hRp
    ·skip
     split
     ·rfl
     ·split at hR
      ·rename_i e;subst e;obtain⟨_,_,_,h4,_⟩:=zfz hlq;exact hallR q hqj (by omega)
      ·exact hI.up j q hj hR hc hqj hlq
    ·skip
     split
     ·rfl
     ·split at hR
      ·rename_i e;subst e;exact hallR j hjq hc
      ·exact hI.dn q j hlq hR hjq hc
    ·skip
     split at hR
     ·cases hR
     ·rename_i hne;simp only[hne,if_false];exact hI.bl q d' zs' hq hlq hLq hR
   obtain⟨R',pd',st',β',F1',g1,g2,g3,g4,g5⟩:=ih _ _ _ _ _ hcnt' hinv hpend hrel;exact⟨R',pd',st',β',F1',g1,g2,g3,g4,(zcY.append _ _).trans g5⟩
  ·refine⟨R,pd,st,Z,F1,hI,fun p hp hl hLp hRp=>?_,hP,hr,.refl _⟩;rcases Classical.em (∃j,j<p/\1<=cls.getD j 0/\L.getD (ord.getD j 0) false=false)with h'|h'
   ·exact h'
   ·refine absurd ⟨p,hl,hLp,hRp,fun j hj hc=>?_⟩ h;cases hLj:L.getD (ord.getD j 0) false with
    |true=>rfl
    |false=>exact absurd ⟨j,hj,hc,hLj⟩ h'
theorem zvW(hD:DOk C.P C.fn.ntmps os ord anc cls ops)(hNo:∀i t,i<=ops.length->(∀j c,j<i->ops[j]? =some c->c.d≠some t)->look (N i) t=look e0 t)(hNn:∀i t j c,i<=ops.length->j<i->ops[j]? =some c->c.d=some t->look (N i) t=look E t)(hM:∀i c,ops[i]? =some c->StepOk Φ stb gw cr (N i) E c (cls.getD i 0) (M i) (M (i+1))):
 ∀(fuel t:Nat)(L:Array Bool)(R:Nat->Bool)(pd:Nat->Option (Nat×Obj))(st:St)(H:Hp)(F1:Fr)(Z:Bt)(a:Act)(w:World),L.size=os.size->zBo os ord ops.length L->
  (List.range ops.length).countP (fun p=>!L.getD (ord.getD p 0) false)<=fuel->
  DInv cls ops ord E e0 M gw L R pd st a->(∀p,p<ops.length->lateB cls ops p=true->L.getD (ord.getD p 0) false=true->R p=false->∃j,j<p/\1<=cls.getD j 0/\L.getD (ord.getD j 0) false=false)->Pend F F1 pd H->
  Rel H F1 Z C.fn.ntmps st a w->
  ∃a1 w1 H1 β1,Steps C.P (lone (b.at a (.inRegion os (Region.linearise.go .any os fuel t L []):: k')) cs w) (lone (b.at a1 (.inRegion os []:: k')) cs w1)/\HX F H H1/\zcY Z β1/\
   Rel H1 F β1 C.fn.ntmps ⟨E,M ops.length⟩ a1 w1:=by
 have hlow:∀j,j<ops.length->cls.getD j 0<3->M (j+1)=M j:=by
  intro j hj hc;have:=hM j _ (ygb hj);generalize ops[j]=c at this;generalize hMj1:M (j+1)=m1 at this;cases this with
  |on hg he hs hd hcl hkp hst=>exact zqW (stb:=stb) (by omega) he
  |off _ _=>rfl
 have hkeep:∀j,j<ops.length->(cls.getD j 0<=3\/5<=cls.getD j 0)->∀e∈stb,(M (j+1))[e]? =(M j)[e]?:=by
  intro j hj hc;have:=hM j _ (ygb hj);generalize ops[j]=c at this;generalize M (j+1)=m1 at this;generalize M j=m0 at this;generalize cls.getD j 0=cl at this hc;cases this with
  |on hg he hs hd hcl hkp hst=>exact hkp hc
  |off _ _=>exact fun _ _=>rfl
 have hent:∀(e:Nat) j,j<ops.length->¬(3<=cls.getD j 0/\(5<=cls.getD j 0->gw e=cls.getD j 0))->(M (j+1))[e]? =(M j)[e]?:=by
  intro e j hj hc;rcases Nat.lt_or_ge (cls.getD j 0) 3 with h3|h3
  ·rw[hlow j hj h3]
  ·have:=hM j _ (ygb hj);generalize ops[j]=c at this;generalize M (j+1)=m1 at this;generalize M j=m0 at this;generalize cls.getD j 0=cl at this hc h3;cases this with
   |on hg he hs hd hcl hkp hst=>
    have h5:5<=cl:=by
     rcases Nat.lt_or_ge cl 5 with h|h
     ·exact absurd ⟨h3,fun h'=>by omega⟩ hc
     ·exact h
    obtain⟨w,x,q1,q2,q3,_⟩:=hst h5;rw[q3,ygg];rintro rfl;exact hc ⟨h3,fun _=>q1⟩
   |off _ _=>rfl
 have ordlt:∀i,i<ops.length->ord.getD i 0<os.size:=fun i hi=>by obtain⟨o,ho,_⟩:=hD.op i _ (ygb hi);exact(Array.getElem?_eq_some_iff.1 ho).1
 have fin:∀(L:Array Bool)(R:Nat->Bool)(pd:Nat->Option (Nat×Obj))(st:St)(H:Hp)(F1:Fr)(Z:Bt)(a:Act)(w:World),(∀p,p<ops.length->L.getD (ord.getD p 0) false=true)->
  DInv cls ops ord E e0 M gw L R pd st a->(∀p,p<ops.length->lateB cls ops p=true->L.getD (ord.getD p 0) false=true->R p=false->∃j,j<p/\1<=cls.getD j 0/\L.getD (ord.getD j 0) false=false)->Pend F F1 pd H->
  Rel H F1 Z C.fn.ntmps st a w->
  ∃a1 w1 H1 β1,Steps C.P (lone (b.at a (.inRegion os []:: k')) cs w) (lone (b.at a1 (.inRegion os []:: k')) cs w1)/\HX F H H1/\zcY Z β1/\Rel H1 F β1 C.fn.ntmps ⟨E,M ops.length⟩ a1 w1:=by
  intro L R pd st H F1 Z a w hall hI hpe hP hr;have hRall:∀p,p<ops.length->R p=true:=fun p hp=>by
   cases hl:lateB cls ops p with
   |false=>exact hI.nl p hp hl (hall p hp)
   |true=>
    cases hR:R p with
    |true=>rfl
    |false=>obtain⟨j,hj,_,hL⟩:=hpe p hp hl (hall p hp) hR;rw[hall j (by omega)]at hL;cases hL
  have hr1:Rel H F Z C.fn.ntmps st a w:=⟨hr.defers,hr.size,hr.env,hr.sat.weak hP.w0.symm hP.old⟩
  refine⟨a,w,H,Z,.refl _ _,.refl _ _,.refl _,hr1.same (fun t=>hI.env t fun p c hc hL=>?_) ?_⟩
  ·rw[hRall p (yga.1 hc).1]at hL;cases hL
  ·refine List.ext_getElem? fun e=>?_;obtain⟨q,hq,hmem,hqj⟩:=hI.mem e;rw[hmem];exact zwe (hent e) hq (Nat.le_refl _) fun j hj ⟨hc,hc5⟩=>by rw[hqj j hj hc hc5,hRall j hj];simp[hj]
 have done:∀(L:Array Bool),L.size=os.size->Region.ready .any os L=[]->∀p,p<ops.length->L.getD (ord.getD p 0) false=true:=by
  intro L hsz hr p;induction p using Nat.strongRecOn with
  |ind p ih=>
   intro hp;cases hL:L.getD (ord.getD p 0) false with
   |true=>rfl
   |false=>
    exfalso;obtain⟨o,ho,_⟩:=hD.op p _ (ygb hp);have:ord.getD p 0∈Region.ready .any os L:=by
     rw[mem_ready];refine⟨?_,o,ho,fun e he hb=>?_⟩
     ·have hlt:ord.getD p 0<L.size:=by rw[hsz];exact ordlt p hp
      rw[<-ztz hlt];exact hL
     ·obtain⟨q,hq,e⟩:=hD.edge p e.on hp (zkW.2 ⟨o,ho,e,he,hb,rfl⟩);rw[<-e];exact ih q hq (by omega)
    rw[hr]at this;simp at this
 intro fuel;induction fuel with
 |zero=>
  intro t L R pd st H F1 Z a w hsz hdn hcnt hI hpe hP hr;have hall:∀p,p<ops.length->L.getD (ord.getD p 0) false=true:=fun p hp=>by have:=List.countP_eq_zero.1 (Nat.le_zero.1 hcnt) p (List.mem_range.2 hp);simpa using this
  simp only[Region.linearise.go,List.reverse_nil];exact fin L R pd st H F1 Z a w hall hI hpe hP hr
 |succ fuel ih=>
  intro t L R pd st H F1 Z a w hsz hdn hcnt hI hpe hP hr;simp only[Region.linearise.go];change ∃a1 w1 H1 β1,Steps C.P (lone (b.at a (.inRegion os (match(Region.ready .any os L)[t % (Region.ready .any os L).length]? with
   |some i=>Region.linearise.go .any os fuel (t / (Region.ready .any os L).length) (L.setIfInBounds i true) [i]
   |none=>[].reverse):: k')) cs w) _/\HX F H H1/\zcY Z β1/\_
  cases hi:(Region.ready .any os L)[t % (Region.ready .any os L).length]? with
  |none=>
   have hnil:Region.ready .any os L=[]:=by
    cases hr:Region.ready .any os L with
    |nil=>rfl
    |cons x xs=>rw[hr]at hi;have hlt:t % (x:: xs).length<(x:: xs).length:=Nat.mod_lt _ (by simp);simp at hi;simp at hlt;omega
   simp only[List.reverse_nil];exact fin L R pd st H F1 Z a w (done L hsz hnil) hI hpe hP hr
  |some j=>
   simp only[];rw[linearise_go_acc,List.reverse_singleton,List.singleton_append];generalize t / (Region.ready .any os L).length=t';have hj:=mem_ready.1 (ygd hi);obtain⟨hjL,o,ho,hje⟩:=hj;have hjlt:=(Array.getElem?_eq_some_iff.1 ho).1;obtain⟨i,hin,rfl⟩:=hD.all j hjlt;have hiL:L.getD (ord.getD i 0) false=false:=by
    have hlt:ord.getD i 0<L.size:=by rw[hsz];exact hjlt
    rw[ztz hlt];exact hjL
   have hiR:R i=false:=by
    cases hR:R i with
    |false=>rfl
    |true=>rw[hI.rl i hin hR]at hiL;cases hiL
   have hie:∀e∈bindsTo os (ord.getD i 0),L.getD e false=true:=fun e he=>by obtain⟨o',ho',x,hx,hb,rfl⟩:=zkW.1 he;rw[ho]at ho';cases ho';exact hje x hx hb
   have hanc:=hD.listed hdn i hin hie;have hsz':(L.setIfInBounds (ord.getD i 0) true).size=os.size:=by simpa using hsz
   have hnew:∀p,p<ops.length->p≠i->(L.setIfInBounds (ord.getD i 0) true).getD (ord.getD p 0) false=L.getD (ord.getD p 0) false:=fun p hp hne=>getD_set_ne false fun e=>hne (hD.inj p i hp hin e.symm)
   have hnewi:(L.setIfInBounds (ord.getD i 0) true).getD (ord.getD i 0) false=true:=by
    have hlt:ord.getD i 0<L.size:=by rw[hsz];exact hjlt
    simp only[Array.getD_eq_getD_getElem?,Array.getElem?_setIfInBounds_self_of_lt hlt,Option.getD_some]
   have hdn':zBo os ord ops.length (L.setIfInBounds (ord.getD i 0) true):=by
    intro p hp hpL e he;by_cases hpi:p=i
    ·subst hpi;exact getD_set_true (hie e he)
    ·rw[hnew p hp hpi]at hpL;exact getD_set_true (hdn p hp hpL e he)
   have hcnt':(List.range ops.length).countP (fun p=>!(L.setIfInBounds (ord.getD i 0) true).getD (ord.getD p 0) false)<=fuel:=by
    have:(List.range ops.length).countP (fun p=>!(L.setIfInBounds (ord.getD i 0) true).getD (ord.getD p 0) false)<(List.range ops.length).countP (fun p=>!L.getD (ord.getD p 0) false):=by
     refine zl3 (x:=i) (List.mem_range.2 hin) (by show(!_)=true;rw[hiL];rfl) (by show(!_)=false;rw[hnewi];rfl) fun y hy=>?_;simp only[yho]at hy|-;cases hLy:L.getD (ord.getD y 0) false with
     |false=>rfl
     |true=>rw[getD_set_true hLy]at hy;cases hy
    omega
   obtain⟨c,hc⟩:∃c,ops[i]? =some c:=⟨_,ygb hin⟩
   have hstep:=hM i c hc;obtain⟨o',ho',hchk⟩:=hD.op i c hc;rw[ho]at ho';cases ho';have blput:∀(x:Value) p d zs,ops[p]? =some (.mk (some d) none (.alloc zs))->p≠i->(a.put o.dst x).tmps.getD d undef=a.tmps.getD d undef:=fun x p d zs hp hne=>by
    obtain⟨d1,_⟩:=zdu hchk;rw[<-d1];cases hcd:c.d with
    |none=>rfl
    |some d'=>have:d'≠d:=fun e=>hne (znH ops hD.wf p i _ c d hp hc rfl (by rw[hcd,e]));simp[Act.put,Array.getElem?_setIfInBounds_ne this]
   have next:∀(R1:Nat->Bool)(pd1:Nat->Option (Nat×Obj))(st1:St)(H1:Hp)(F2:Fr)(β1:Bt)(a1:Act)(w1:World),DInv cls ops ord E e0 M gw (L.setIfInBounds (ord.getD i 0) true) R1 pd1 st1 a1->Pend F F2 pd1 H1->Rel H1 F2 β1 C.fn.ntmps st1 a1 w1->
    HX F H H1->zcY Z β1->Steps C.P (lone (b.at a (.inRegion os (ord.getD i 0:: Region.linearise.go .any os fuel t' (L.setIfInBounds (ord.getD i 0) true) []):: k')) cs w) (lone (b.at a1 (.inRegion os (Region.linearise.go .any os fuel t' (L.setIfInBounds (ord.getD i 0) true) []):: k')) cs w1)->
    ∃a1 w1 H1 β1,Steps C.P (lone (b.at a (.inRegion os (ord.getD i 0:: Region.linearise.go .any os fuel t' (L.setIfInBounds (ord.getD i 0) true) []):: k')) cs w) (lone (b.at a1 (.inRegion os []:: k')) cs w1)/\HX F H H1/\zcY Z β1/\Rel H1 F β1 C.fn.ntmps ⟨E,M ops.length⟩ a1 w1:=by
    intro R1 pd1 st1 H1 F2 β1 a1 w1 hI1 hP1 hr1 hx hb hs;obtain⟨R2,pd2,st2,β2,F3,g1,g2,g3,g4,g5⟩:=zsf (Φ:=Φ) (stb:=stb) (cr:=cr) (F:=F) hM hent _ H1 a1 w1 _ R1 pd1 st1 β1 F2 (Nat.le_refl _) hI1 hP1 hr1;obtain⟨a2,w2,H2,β3,s1,s2,s3,s4⟩:=ih t' _ R2 pd2 st2 H1 F3 β2 a1 w1 hsz' hdn' hcnt' g1 g2 g3 g4;exact⟨a2,w2,H2,β3,hs.trans s1,hx.trans s2,(hb.trans g5).trans s3,s4⟩
   cases hlt:lateB cls ops i with
   |true=>
    obtain⟨d,zs,hop,hc4,_⟩:=zfz hlt;rw[hc]at hop;cases hop;obtain⟨cells,elem,q1,q2,q3,q4,q5,qb,q6⟩:=zrD (b:=b) (cs:=cs) (idx:=Region.linearise.go .any os fuel t' (L.setIfInBounds (ord.getD i 0) true) []) (k':=k') ho hchk hr;have hn:=hr.sat.none_at_size;have hFn:F w.heap.size=none:=by
     cases hF:F w.heap.size with
     |none=>rfl
     |some x=>rw[hP.old _ _ hF]at hn;cases hn.2
    have fresh:∀p b' o',pd p=some (b',o')->b'≠w.heap.size:=fun p b' o' hp e=>by have:=(hP.new p b' o' hp).1;rw[e,hn.2]at this;cases this
    obtain⟨d1,_⟩:=zdu hchk;simp only[COp.d]at d1;refine next R (fun q=>if q=i then some (w.heap.size,.cells cells elem)else pd q) _ H _ Z _ _ ?_ ?_ q6 (.refl _ _) (.refl _) q1
    ·refine⟨fun p hp hR=>getD_set_true (hI.rl p hp hR),fun p hp hlp hL=>?_,fun t ht=>?_,fun t ht=>?_,hI.mem,hI.up,hI.dn,fun p d' zs' hp hlp hL hR=>?_⟩
     ·by_cases hpi:p=i
      ·subst hpi;rw[hlt]at hlp;cases hlp
      ·rw[hnew p hp hpi]at hL;exact hI.nl p hp hlp hL
     ·simp only[look];split
      ·rename_i e;subst e;exact absurd rfl (ht i _ hc hiR)
      ·exact hI.env t ht
     ·simp only[look];split
      ·rename_i e;subst e;exact absurd rfl (ht i _ hc hnewi)
      ·exact hI.env0 t fun p c' hp hpL=>ht p c' hp (getD_set_true hpL)
     ·by_cases hpi:p=i
      ·subst hpi;rw[hc]at hp;cases hp;refine⟨w.heap.size,cells,elem,by simp,q3,q4,q5,qb,?_⟩;simp only[Act.put,Array.getD_eq_getD_getElem?];rw[Array.getElem?_setIfInBounds_self_of_lt (by rw[hr.size];exact q2)];rfl
      ·obtain⟨bk,cells',elem',e1,e2,e3,e4,eb,e5⟩:=hI.bl p d' zs' hp hlp (by rw[hnew p (yga.1 hp).1 hpi]at hL;exact hL) hR;refine⟨bk,cells',elem',by simp[hpi,e1],e2,e3,e4,eb,?_⟩;rw[<-e5,<-blput _ p d' zs' hp hpi,<-d1]
    ·refine⟨hP.w0,fun c' o' hc'=>?_,fun p b' o' hp=>?_,fun p q b' o1 o2 hp hq=>?_⟩
     ·change zgb F1.h w.heap.size _ c'=some o';unfold zgb;split
      ·rename_i e;rw[e,hFn]at hc';cases hc'
      ·exact hP.old c' o' hc'
     ·skip
      change zgb F1.h w.heap.size _ b'=some o'/\_;split at hp
      ·cases hp;exact⟨by simp[zgb],hFn,hn.1⟩
      ·obtain⟨f1,f2,f3⟩:=hP.new p b' o' hp;exact⟨by simp only[zgb,fresh p b' o' hp,if_false];exact f1,f2,f3⟩
     ·skip
      split at hp<;>split at hq
      ·rename_i e1 e2;rw[e1,e2]
      ·cases hp;exact absurd rfl (fresh q _ _ hq)
      ·cases hq;exact absurd rfl (fresh p _ _ hp)
      ·exact hP.inj p q b' o1 o2 hp hq
   |false=>
   have hlateR:∀p d zs,lateB cls ops p=true->ops[p]? =some (.mk (some d) none (.alloc zs))->(d∈slots c\/(p<i/\1<=cls.getD i 0))->p<i->L.getD (ord.getD p 0) false=true->R p=true:=fun p d zs hl hp hor hpi hL=>by
    cases hR:R p with
    |true=>rfl
    |false=>obtain⟨j,hj,hcj,hLj⟩:=hpe p (by omega) hl hL hR;have:=hD.lateR p i j _ c d hl hp rfl hc (hor.imp id fun h=>⟨hlt,h.1,h.2⟩) hj hcj;rw[hanc j (by omega) this]at hLj;cases hLj
   have hreads:∀t∈slots c,look st.env t=look (N i) t:=fun t ht=>by
    rcases Classical.em (∃(j:Nat)(c':COp),ops[j]? =some c'/\c'.d=some t)with⟨j,c',hj,hd⟩|hno
    ·have uniq:∀(p:Nat)(c2:COp),ops[p]? =some c2->c2.d=some t->p=j:=fun p c2 hp hpd=>znH ops hD.wf p j c2 c' t hp hj hpd hd;have hjn:=(yga.1 hj).1;have unlisted:i<=j->L.getD (ord.getD j 0) false=false->look st.env t=look (N i) t:=fun hij hL=>by
      rw[hNo i t (by omega) fun q c2 hq hc2 hd2=>by have:=uniq q c2 hc2 hd2;omega];exact hI.env0 t fun p c2 hp hpL hpd=>by obtain rfl:=uniq p c2 hp hpd;rw[hL]at hpL;cases hpL
     rcases hD.read i c t j c' hc ht hj hd with⟨h1,h2⟩|h1|⟨h1,h2⟩
     ·have hLp:=hanc j h1 h2;have hR:R j=true:=by
       cases hl:lateB cls ops j with
       |false=>exact hI.nl j (by omega) hl hLp
       |true=>obtain⟨d,zs,hop,_,_⟩:=zfz hl;rw[hj]at hop;cases hop;simp only[COp.d,Option.some.injEq]at hd;subst hd;exact hlateR j _ zs hl hj (.inl ht) h1 hLp
      rw[hNn i t j c' (by omega) h1 hj hd];exact hI.env t fun p c2 hp hpR hpd=>by rw[uniq p c2 hp hpd,hR]at hpR;cases hpR
     ·subst h1;exact unlisted (Nat.le_refl _) hiL
     ·refine unlisted (by omega) ?_;cases hLj:L.getD (ord.getD j 0) false with
      |false=>rfl
      |true=>have:=hD.listed hdn j hjn (hdn j hjn hLj) i h1 h2;rw[hiL]at this;cases this
    ·rw[hNo i t (by omega) fun q c2 hq hc2 hd2=>hno ⟨q,c2,hc2,hd2⟩];exact hI.env0 t fun p c2 hp _ hpd=>hno ⟨p,c2,hp,hpd⟩
   have henv':∀v,(∀x,c.d=some x->look E x=v)->∀t,(∀p c,ops[p]? =some c->(if p=i then true else R p)=false->c.d≠some t)->look (put st.env c.d v) t=look E t:=by
    intro v hv t ht;by_cases hct:c.d=some t
    ·rw[hv t hct,hct];simp[look]
    ·rw[zeX hct];refine hI.env t fun p c' hp hpL=>?_;by_cases hpi:p=i
     ·subst hpi;rw[hc]at hp;cases hp;exact hct
     ·exact ht p c' hp (by simp[hpi,hpL])
   have lateLt:∀p,lateB cls ops p=true->p<i->1<=cls.getD i 0->R p=true:=fun p hl hpi hci=>by obtain⟨d,zs,hop,h4,_⟩:=zfz hl;exact hlateR p d zs hl hop (.inr ⟨hpi,hci⟩) hpi (hanc p hpi (hD.clss i p hin hpi (by rw[h4];exact zs7 hci) hlt))
   have inord:∀j,j<ops.length->1<=cls.getD i 0->(j<i->confC (cls.getD j 0) (cls.getD i 0)=true)->(i<j->confC (cls.getD i 0) (cls.getD j 0)=true)->(R j=true↔j<i):=fun j hjn hci c1 c2=>by
    rcases Nat.lt_trichotomy j i with h|h|h
    ·simp only[h,iff_true];cases hl:lateB cls ops j with
     |true=>exact lateLt j hl h hci
     |false=>exact hI.nl j hjn hl (hanc j h (hD.clss i j hin h (c1 h) hlt))
    ·subst h;rw[hiR];simp
    ·have hn:¬j<i:=by omega
     simp only[hn,iff_false,Bool.not_eq_true];cases hR:R j with
     |false=>rfl
     |true=>
      exfalso;cases hl:lateB cls ops j with
      |true=>rw[hI.dn j i hl hR h hci]at hiR;cases hiR
      |false=>have hLj:=hI.rl j hjn hR;have:=hD.listed hdn j hjn (hdn j hjn hLj) i h (hD.clss j i hjn h (c2 h) hl);rw[hiL]at this;cases this
   have hMe:∀e,2<=cls.getD i 0->(5<=cls.getD i 0->gw e=cls.getD i 0)->st.mem[e]? =(M i)[e]?:=fun e hci hg=>by
    obtain⟨q,hq,hme,hqj⟩:=hI.mem e;rw[hme];refine zwe (hent e) hq (by omega) fun j hjn ⟨hc,hc5⟩=>?_;have hdis:cls.getD j 0<5\/cls.getD i 0<5\/cls.getD j 0=cls.getD i 0:=by
     rcases Nat.lt_or_ge (cls.getD j 0) 5 with h|h
     ·exact .inl h
     ·rcases Nat.lt_or_ge (cls.getD i 0) 5 with h'|h'
      ·exact .inr (.inl h')
      ·exact .inr (.inr (by rw[<-hc5 h,<-hg h']))
    rw[hqj j hjn hc hc5];exact inord j hjn (by omega) (fun _=>zs9 hc hci hdis) (fun _=>zs8 hci hc (by omega))
   have hMi:2<=cls.getD i 0->cls.getD i 0<5->st.mem=M i:=fun hci h5=>List.ext_getElem? fun e=>hMe e hci fun h=>by omega
   have hSi:1<=cls.getD i 0->∀e∈stb,st.mem[e]? =(M i)[e]?:=fun hci e he=>by obtain⟨q,hq,hme,hqj⟩:=hI.mem e;rw[hme];refine zwe (W:=fun j=>cls.getD j 0=4) (fun j hj h4=>hkeep j hj (by omega) e he) hq (by omega) fun j hjn h4=>?_;rw[hqj j hjn (by omega) (fun h=>by omega)];exact inord j hjn hci (fun _=>by rw[h4];exact zs7 hci) (fun _=>by rw[h4];exact zx0 hci)
   have newlt:∀j,j<ops.length->1<=cls.getD i 0->(j<i->confC (cls.getD j 0) (cls.getD i 0)=true)->(i<j->confC (cls.getD i 0) (cls.getD j 0)=true)->(j<i+1↔(if j=i then true else R j)=true):=fun j hjn hci c1 c2=>by
    by_cases hji:j=i
    ·subst hji;simp
    ·simp only[hji,if_false];rw[inord j hjn hci c1 c2];omega
   have hmem':∀m,(3<=cls.getD i 0->cls.getD i 0<5->m=M (i+1))->(cls.getD i 0<3->m=st.mem)->(5<=cls.getD i 0->(∃w x,gw w=cls.getD i 0/\w<st.mem.length/\w<(M i).length/\m=st.mem.set w x/\M (i+1)=(M i).set w x)\/(m=st.mem/\M (i+1)=M i))->
    ∀e:Nat,∃q,q<=ops.length/\m[e]? =(M q)[e]?/\∀j,j<ops.length->3<=cls.getD j 0->(5<=cls.getD j 0->gw e=cls.getD j 0)->(j<q↔(if j=i then true else R j)=true):=by
    intro m h1 h2 h3 e;obtain⟨q,hq,hme,hqj⟩:=hI.mem e;have keepq:(3<=cls.getD i 0->5<=cls.getD i 0/\gw e≠cls.getD i 0)->m[e]? =st.mem[e]?->∃q,q<=ops.length/\m[e]? =(M q)[e]?/\∀j,j<ops.length->3<=cls.getD j 0->(5<=cls.getD j 0->gw e=cls.getD j 0)->(j<q↔(if j=i then true else R j)=true):=fun hc hm=>by
     refine⟨q,hq,by rw[hm,hme],fun j hjn hjc hj5=>?_⟩;have hne:j≠i:=fun e'=>by subst e';obtain⟨g1,g2⟩:=hc hjc;exact g2 (hj5 g1)
     simp only[hne,if_false];exact hqj j hjn hjc hj5
    rcases Nat.lt_or_ge (cls.getD i 0) 3 with h|h
    ·exact keepq (fun h'=>by omega) (by rw[h2 h])
    ·rcases Nat.lt_or_ge (cls.getD i 0) 5 with h5|h5
     ·refine⟨i+1,by omega,by rw[h1 h h5],fun j hjn hjc hj5=>?_⟩;exact newlt j hjn (by omega) (fun _=>zs9 hjc (by omega) (by omega)) (fun _=>zs8 (by omega) hjc (by omega))
     ·by_cases hg:gw e=cls.getD i 0
      ·refine⟨i+1,by omega,?_,fun j hjn hjc hj5=>?_⟩
       ·have hei:=hMe e (by omega) fun _=>hg;rcases h3 h5 with⟨w,x,q1,q2,q3,q4,q5⟩|⟨q1,q2⟩
        ·rw[q4,q5];by_cases hw:w=e
         ·subst hw;rw[List.getElem?_set_self q2,List.getElem?_set_self q3]
         ·rw[ygg hw,ygg hw,hei]
        ·rw[q1,q2,hei]
       ·have hdis:cls.getD j 0<5\/cls.getD i 0<5\/cls.getD j 0=cls.getD i 0:=by
         rcases Nat.lt_or_ge (cls.getD j 0) 5 with h'|h'
         ·exact .inl h'
         ·exact .inr (.inr (by rw[<-hj5 h',hg]))
        exact newlt j hjn (by omega) (fun _=>zs9 hjc (by omega) hdis) (fun _=>zs8 (by omega) hjc (by omega))
      ·refine keepq (fun _=>⟨h5,hg⟩) ?_;rcases h3 h5 with⟨w,x,q1,_,_,q4,_⟩|⟨q1,_⟩
       ·rw[q4,ygg (fun e'=>hg (by rw[<-e'];exact q1))]
       ·rw[q1]
   have hinv:∀v m x,(∀y,c.d=some y->look E y=v)->(3<=cls.getD i 0->cls.getD i 0<5->m=M (i+1))->(cls.getD i 0<3->m=st.mem)->(5<=cls.getD i 0->(∃w x,gw w=cls.getD i 0/\w<st.mem.length/\w<(M i).length/\m=st.mem.set w x/\M (i+1)=(M i).set w x)\/(m=st.mem/\M (i+1)=M i))->
    DInv cls ops ord E e0 M gw (L.setIfInBounds (ord.getD i 0) true) (fun q=>if q=i then true else R q) pd ⟨put st.env c.d v,m⟩ (a.put o.dst x):=by
    intro v m x hv h1 h2 h3;refine⟨fun p hp hR=>?_,fun p hp hlp hL=>?_,henv' v hv,fun t ht=>?_,hmem' m h1 h2 h3,fun j p hj hR hcj hpj hlp=>?_,fun p j hlp hR hjp hcj=>?_,fun p d zs hp hlp hL hR=>?_⟩
    ·skip
     split at hR
     ·rename_i e;subst e;exact hnewi
     ·exact getD_set_true (hI.rl p hp hR)
    ·skip
     split
     ·rfl
     ·rename_i hne;rw[hnew p hp hne]at hL;exact hI.nl p hp hlp hL
    ·change look (put st.env c.d v) t=look e0 t;rw[zeX (ht i c hc hnewi)];exact hI.env0 t fun p c' hp hpL=>ht p c' hp (getD_set_true hpL)
    ·skip
     split
     ·rfl
     ·split at hR
      ·rename_i e;subst e;exact lateLt p hlp hpj hcj
      ·exact hI.up j p hj hR hcj hpj hlp
    ·skip
     split
     ·rfl
     ·split at hR
      ·rename_i e;subst e;rw[hlt]at hlp;cases hlp
      ·exact hI.dn p j hlp hR hjp hcj
    ·skip
     split at hR
     ·cases hR
     ·rename_i hne;obtain⟨bk,cells',elem',e1,e2,e3,e4,eb,e5⟩:=hI.bl p d zs hp hlp (by rw[hnew p (yga.1 hp).1 hne]at hL;exact hL) hR;exact⟨bk,cells',elem',e1,e2,e3,e4,eb,by rw[<-e5];exact blput x p d zs hp hne⟩
   generalize hMs:M (i+1)=m1 at hstep;generalize hMs0:M i=m0 at hstep;generalize hcl:cls.getD i 0=cl at hstep;cases hstep with
   | @on d g kk cl m r hg he hs hd hcls hkp hst=>
    have hars:=zuI hreads;have hwant:Region.wanted o (yielded os a.tmps)=true:=by
     cases g with
     |none=>exact ze5 (zgN hchk)
     |some gg=>obtain⟨t,bb⟩:=gg;rw[zcU (g:=bb) hchk hr (by rw[hreads t (zhb (c:=.mk d (some (t,bb)) kk) rfl)];exact hg t bb rfl)];simp
    have he':∃m',evD Φ cr d kk st.env st.mem=some (r.1,r.2.1,m')/\(3<=cls.getD i 0->cls.getD i 0<5->m'=r.2.2)/\(cls.getD i 0<3->m'=st.mem)/\
     (5<=cls.getD i 0->∃w x,gw w=cls.getD i 0/\w<st.mem.length/\w<m0.length/\m'=st.mem.set w x/\r.2.2=m0.set w x):=by
     rcases Nat.lt_or_ge (cls.getD i 0) 2 with h|h
     ·refine⟨st.mem,?_,fun h'=>by omega,fun _=>rfl,fun h'=>by omega⟩;rcases Nat.lt_or_ge (cls.getD i 0) 1 with h'|h'
      ·have h0:clsK stb cr d kk (N i)=0:=by omega
       rw[<-zvN h0 he st.mem];exact zh3 hars
      ·rw[<-ztp (stb:=stb) (by omega) he st.mem (by rw[<-hMs0];exact hSi h')];exact zh3 hars
     ·rcases Nat.lt_or_ge (cls.getD i 0) 5 with h5|h5
      ·have hmi:st.mem=m0:=by rw[hMi h h5,hMs0]
       refine⟨r.2.2,?_,fun _ _=>rfl,fun h'=>?_,fun h'=>by omega⟩
       ·rw[hmi];exact(zh3 (k:=kk) hars).trans he
       ·rw[zqW (stb:=stb) (by omega) he,<-hmi]
      ·obtain⟨w,x,g1,g2,g3,g4⟩:=hst (by omega);have hw:=hMe w h fun _=>by rw[hcl];exact g1
       rw[hMs0]at hw;have hwl:w<st.mem.length:=by rw[ygb g2]at hw;exact(yga.1 hw).1
       refine⟨st.mem.set w x,?_,fun _ h'=>by omega,fun h'=>by omega,fun _=>⟨w,x,by rw[hcl];exact g1,hwl,g2,rfl,g3⟩⟩;rw[<-g4 st.mem hw];exact zh3 hars
    obtain⟨m',he',h1,h2,h3⟩:=he';obtain⟨a1,w1,H1,β1,q1,q2,q3,q4,x,rfl⟩:=zyY (b:=b) (cs:=cs) (idx:=Region.linearise.go .any os fuel t' (L.setIfInBounds (ord.getD i 0) true) []) (k':=k') ho hchk hwant he' hs hr;exact next _ pd _ H1 F1 β1 _ w1 (hinv _ _ x hd (fun h h'=>by rw[hMs,h1 h h']) h2 (fun h=>.inl (by rw[hMs,hMs0];exact h3 h))) (hP.hx q2) q4 (q2.low hP.old) q3 q1
   | @off d t bb kk cl m hg hd=>
    have hwant:Region.wanted o (yielded os a.tmps)=false:=by
     rcases hg with hg|hg
     ·rw[zcU (g:=!bb) hchk hr (by rw[hreads t (zhb (c:=.mk d (some (t,bb)) kk) rfl)];exact hg)];cases bb<;>rfl
     ·exact zkF hchk hr (by rw[hreads t (zhb (c:=.mk d (some (t,bb)) kk) rfl)];exact hg)
    have hst:=zhc (P:=C.P) (b:=b) (a:=a) (k:=k') (cs:=cs) (w:=w) (rest:=Region.linearise.go .any os fuel t' (L.setIfInBounds (ord.getD i 0) true) []) ho hwant;obtain⟨d1,d2⟩:=zdu hchk;simp only[COp.d]at d1;have hrel:Rel H F1 Z C.fn.ntmps ⟨put st.env d (.tup []),st.mem⟩ (a.put o.dst undef) w:=by
     rw[<-d1];refine zgi hr (.refl _) (.refl _) ?_ zk4 hr.sat;cases hd':d with
     |none=>rfl
     |some n=>simpa using d2 n (by rw[<-d1,hd'])
    exact next _ pd _ H F1 Z _ w (hinv (.tup []) st.mem undef hd (fun h h'=>by rw[hMs,hMi (by omega) h',hMs0]) (fun _=>rfl) (fun _=>.inr ⟨rfl,by rw[hMs,hMs0]⟩)) hP hrel (.refl _ _) (.refl _) (.one hst)
end
theorem zx9{P:Program}{Φ:List (En P)}{cr:List (Nat×CR)}{d:Option Nat}{k:K}{env:List (Nat×AV)}{mem:List Ent}{r:Ev}(h:evD Φ cr d k env mem=some r)(hs:r.1):mem.length<=r.2.2.length:=by
 have plain:evX Φ k env mem=some r->mem.length<=r.2.2.length:=zya;cases k;case call f xs=>
  cases hl:zfB cr d with
  |none=>simp only[evD,hl]at h;exact plain h
  |some c=>simp only[evD,hl]at h;cases h;exact ztn hs
 case callv f xs=>
  simp only[evD]at h;split at h
  ·split at h
   ·cases h;exact ztn hs
   ·cases h
  ·cases h
 all_goals exact plain h
theorem TrD.len{P:Program}{Φ:List (En P)}{stb:List Nat}{gw:Nat->Nat}{cr:List (Nat×CR)}{E:List (Nat×AV)}{M:Nat->List Ent}{N:Nat->List (Nat×AV)}{l:List COp}{cls:List Nat}{st:St}(h:TrD Φ stb gw cr l cls st E M N):∀i,i<=l.length->st.mem.length<=(M i).length:=by
 intro i;induction i with
 |zero=>intro _;rw[h.m0];exact Nat.le_refl _
 |succ i ih=>
  intro hi;refine Nat.le_trans (ih (by omega)) ?_;have:=h.step i _ (ygb (by omega));generalize l[i]=c at this;generalize M (i+1)=m1 at this;generalize M i=m0 at this;cases this with
  |on hg he hs hd hcl hkp hst=>exact zx9 he hs
  |off _ _=>exact Nat.le_refl _
theorem AW.regd{C:Ctx}{Φ:List (En C.P)}{k:List CItem}{st:St}{keep ord anc cls:List Nat}{ops:List COp}(hm:C.P.follows .mixedOrders=true)(stb:List Nat)(gw:Nat->Nat)(cr:List (Nat×CR))
 (h:ziY Φ stb gw cr ops cls st (fun st'=>AW C k ⟨keep.map fun n=>(n,look st'.env n),st'.mem⟩)):AW C (.code (.regd keep ord anc cls ops):: k) st:=by
 intro H F Z a w b cs todo hmi hr hn;cases hmi with
 |code hcc hk=>
  rename_i c' k';cases c'<;>try(simp[chkC]at hcc;done)
  rename_i id os dr;cases dr<;>simp only[chkC,yhj]at hcc;have hD:=zs4 hcc;obtain⟨E,M,N,ht,hQ⟩:=zsj ops cls st hD.clen hD.wf h;have M0:=ht.m0;have hlen:=ht.len ops.length (Nat.le_refl _);refine .steps (.one step_region_draw) ?_;simp only[Region.schedule,hm,Bool.true_or,if_true];generalize w.tape w.drawn _=t;have hr':Rel H F Z C.fn.ntmps st a {w with drawn:=w.drawn+1}:=⟨hr.defers,hr.size,hr.env,hr.sat.of_heap rfl ⟨rfl,rfl,rfl⟩⟩
  generalize({w with drawn:=w.drawn+1}:World)=w1 at hr';have hfalse:∀i,(Array.replicate os.size false).getD i false=false:=fun i=>by simp only[Array.getD];split<;>simp
  obtain⟨a2,w2,H2,β2,s1,s2,s3,s4⟩:=zvW (b:=b) (cs:=cs) (k':=k') (cr:=cr) (E:=E) (e0:=st.env) (M:=M) (N:=N) (F:=F) hD ht.old ht.new ht.step os.size t (Array.replicate os.size false) (fun _=>false) (fun _=>none) st H F Z a w1 (by simp)
   (fun i hi hL=>by rw[hfalse]at hL;cases hL)
   (by have:=List.countP_le_length (p:=fun p=>!(Array.replicate os.size false).getD (ord.getD p 0) false) (l:=List.range ops.length);have h1:=hD.size;have h2:=hD.len;simp only[List.length_range]at this;omega)
   ⟨fun p hp hR=>by simp at hR,fun p hp _ hL=>by rw[hfalse]at hL;simp at hL,fun t hn=>(ht.env t fun c hc=>by obtain⟨p,hp⟩:=List.getElem?_of_mem hc;exact hn p c hp rfl).symm,fun t _=>rfl,fun e=>⟨0,by omega,by rw[M0],fun j hj _ _=>by simp⟩,fun j p _ hR=>by simp at hR,fun p j _ hR=>by simp at hR,fun p d zs _ _ hL=>by rw[hfalse]at hL;simp at hL⟩
   (fun p hp _ hL=>by rw[hfalse]at hL;simp at hL)
   ⟨rfl,fun _ _ h=>h,fun p b o h=>by simp at h,fun p q b o o' h=>by simp at h⟩ hr'
  exact .steps s1 (.ext s2 (s3.eq0 (by rw[hr.sat.hl];exact hn)) (AW.ops_end (keep:=keep) (st:=⟨E,M ops.length⟩) hQ H2 F β2 a2 w2 b cs _ (.ops trivial hk) s4 (Nat.le_trans hn hlen)))
end Go.Fw
namespace Go.Fw
open Go
abbrev Str:=List UInt8
def zpw(s:Str):List AV:=[.str s]
def zx4(n:Int):List AV:=[.int .i64 n]
structure Field where
 name:Str
 of:Str
 list:Bool
 must:Bool
 far:Bool
 hidden:Bool
 shared:Bool
 needs:List Str
 deriving Inhabited
def zdc(x:Field):List AV:=[.str x.name,.str x.of,.bool x.list,.bool x.must,.bool x.far,.bool x.hidden,.bool x.shared,.sl 1 (x.needs.map zpw)]
theorem zpv(x:Field):zdc x=[.str x.name,.str x.of,.bool x.list,.bool x.must,.bool x.far,.bool x.hidden,.bool x.shared,.sl 1 (x.needs.map zpw)]:=rfl
structure Typ where
 name:Str
 key:Str
 fields:List Field
 deriving Inhabited
def zh0(x:Typ):List AV:=[.str x.name,.str x.key,.sl 8 (x.fields.map zdc)]
theorem ztj(x:Typ):zh0 x=[.str x.name,.str x.key,.sl 8 (x.fields.map zdc)]:=rfl
structure Part where
 name:Str
 types:List Typ
 deriving Inhabited
def zd1(x:Part):List AV:=[.str x.name,.sl 3 (x.types.map zh0)]
theorem zrJ(x:Part):zd1 x=[.str x.name,.sl 3 (x.types.map zh0)]:=rfl
structure PFault where
 pos:Int
 code:Int
 deriving Inhabited
def zdy(x:PFault):List AV:=[.int .i64 x.pos,.int .i64 x.code]
theorem zoa(x:PFault):zdy x=[.int .i64 x.pos,.int .i64 x.code]:=rfl
inductive Val where
|mk (sort:Int)(num:Int)(text:Str)(names:List Str)(kids:List Val)
def Val.sort:Val->Int|.mk x _ _ _ _=>x
@[simp] theorem Val.sort_mk {x0:Int}{x1:Int}{x2:Str}{x3:List Str}{x4:List Val}:(Val.mk x0 x1 x2 x3 x4).sort=x0:=rfl
def Val.num:Val->Int|.mk _ x _ _ _=>x
@[simp] theorem Val.num_mk {x0:Int}{x1:Int}{x2:Str}{x3:List Str}{x4:List Val}:(Val.mk x0 x1 x2 x3 x4).num=x1:=rfl
def Val.text:Val->Str|.mk _ _ x _ _=>x
@[simp] theorem Val.text_mk {x0:Int}{x1:Int}{x2:Str}{x3:List Str}{x4:List Val}:(Val.mk x0 x1 x2 x3 x4).text=x2:=rfl
def Val.names:Val->List Str|.mk _ _ _ x _=>x
@[simp] theorem Val.names_mk {x0:Int}{x1:Int}{x2:Str}{x3:List Str}{x4:List Val}:(Val.mk x0 x1 x2 x3 x4).names=x3:=rfl
def Val.kids:Val->List Val|.mk _ _ _ _ x=>x
@[simp] theorem Val.kids_mk {x0:Int}{x1:Int}{x2:Str}{x3:List Str}{x4:List Val}:(Val.mk x0 x1 x2 x3 x4).kids=x4:=rfl
mutual
def zgA:Val->List AV
|.mk x0 x1 x2 x3 x4=>[.int .i64 x0,.int .i64 x1,.str x2,.sl 1 (x3.map zpw),.sl 5 (zkx x4)]
def zkx:List Val->List (List AV)
|[]=>[]
|x:: l=>zgA x:: zkx l
end
theorem zl6:∀l:List Val,zkx l=l.map zgA
|[]=>by simp[zkx]
|x:: l=>by simp[zkx,zl6 l]
theorem zfv(x:Val):zgA x=[.int .i64 x.sort,.int .i64 x.num,.str x.text,.sl 1 (x.names.map zpw),.sl 5 (x.kids.map zgA)]:=by obtain⟨x0,x1,x2,x3,x4⟩:=x;simp[zgA,zl6]
instance:Inhabited Val:=⟨.mk 0 0 [] [] []⟩
@[simp] theorem Val.eta (x:Val):Val.mk x.sort x.num x.text x.names x.kids=x:=by cases x;rfl
structure Cel where
 name:Str
 value:Val
 deriving Inhabited
def zhV(x:Cel):List AV:=[.str x.name]++zgA x.value
structure Row where
 type:Str
 id:Int
 cells:List Cel
 deriving Inhabited
def zjk(x:Row):List AV:=[.str x.type,.int .i64 x.id,.sl 6 (x.cells.map zhV)]
theorem ztg(x:Row):zjk x=[.str x.type,.int .i64 x.id,.sl 6 (x.cells.map zhV)]:=rfl
inductive Sel where
|mk (as:Str)(name:Str)(one:Bool)(id:Int)(kids:List Sel)
def Sel.as:Sel->Str|.mk x _ _ _ _=>x
@[simp] theorem Sel.as_mk {x0:Str}{x1:Str}{x2:Bool}{x3:Int}{x4:List Sel}:(Sel.mk x0 x1 x2 x3 x4).as=x0:=rfl
def Sel.name:Sel->Str|.mk _ x _ _ _=>x
@[simp] theorem Sel.name_mk {x0:Str}{x1:Str}{x2:Bool}{x3:Int}{x4:List Sel}:(Sel.mk x0 x1 x2 x3 x4).name=x1:=rfl
def Sel.one:Sel->Bool|.mk _ _ x _ _=>x
@[simp] theorem Sel.one_mk {x0:Str}{x1:Str}{x2:Bool}{x3:Int}{x4:List Sel}:(Sel.mk x0 x1 x2 x3 x4).one=x2:=rfl
def Sel.id:Sel->Int|.mk _ _ _ x _=>x
@[simp] theorem Sel.id_mk {x0:Str}{x1:Str}{x2:Bool}{x3:Int}{x4:List Sel}:(Sel.mk x0 x1 x2 x3 x4).id=x3:=rfl
def Sel.kids:Sel->List Sel|.mk _ _ _ _ x=>x
@[simp] theorem Sel.kids_mk {x0:Str}{x1:Str}{x2:Bool}{x3:Int}{x4:List Sel}:(Sel.mk x0 x1 x2 x3 x4).kids=x4:=rfl
mutual
def zhZ:Sel->List AV
|.mk x0 x1 x2 x3 x4=>[.str x0,.str x1,.bool x2,.int .i64 x3,.sl 5 (zku x4)]
def zku:List Sel->List (List AV)
|[]=>[]
|x:: l=>zhZ x:: zku l
end
theorem zl5:∀l:List Sel,zku l=l.map zhZ
|[]=>by simp[zku]
|x:: l=>by simp[zku,zl5 l]
theorem zfu(x:Sel):zhZ x=[.str x.as,.str x.name,.bool x.one,.int .i64 x.id,.sl 5 (x.kids.map zhZ)]:=by obtain⟨x0,x1,x2,x3,x4⟩:=x;simp[zhZ,zl5]
instance:Inhabited Sel:=⟨.mk [] [] false 0 []⟩
@[simp] theorem Sel.eta (x:Sel):Sel.mk x.as x.name x.one x.id x.kids=x:=by cases x;rfl
structure AFault where
 way:List Str
 code:Int
 deriving Inhabited
def zdw(x:AFault):List AV:=[.sl 1 (x.way.map zpw),.int .i64 x.code]
theorem zn8(x:AFault):zdw x=[.sl 1 (x.way.map zpw),.int .i64 x.code]:=rfl
structure Chg where
 type:Str
 id:Int
 field:Str
 value:Val
 deriving Inhabited
def zkq(x:Chg):List AV:=[.str x.type,.int .i64 x.id,.str x.field]++zgA x.value
structure Ety where
 text:Str
 answer:Str
 uses:List Str
 deriving Inhabited
def zkr(x:Ety):List AV:=[.str x.text,.str x.answer,.sl 1 (x.uses.map zpw)]
theorem zte(x:Ety):zkr x=[.str x.text,.str x.answer,.sl 1 (x.uses.map zpw)]:=rfl
structure Stp where
 part:Int
 way:List Str
 type:Str
 sels:List Sel
 after:List Int
 brings:List Str
 deriving Inhabited
def zkv(x:Stp):List AV:=[.int .i64 x.part,.sl 1 (x.way.map zpw),.str x.type,.sl 5 (x.sels.map zhZ),.sl 1 (x.after.map zx4),.sl 1 (x.brings.map zpw)]
theorem zth(x:Stp):zkv x=[.int .i64 x.part,.sl 1 (x.way.map zpw),.str x.type,.sl 5 (x.sels.map zhZ),.sl 1 (x.after.map zx4),.sl 1 (x.brings.map zpw)]:=rfl
structure Wrg where
 way:List Str
 code:Int
 deriving Inhabited
def zjl(x:Wrg):List AV:=[.sl 1 (x.way.map zpw),.int .i64 x.code]
theorem ztk(x:Wrg):zjl x=[.sl 1 (x.way.map zpw),.int .i64 x.code]:=rfl
structure Ans where
 data:Val
 wrongs:List Wrg
 deriving Inhabited
def zkp(x:Ans):List AV:=zgA x.data++[.sl 2 (x.wrongs.map zjl)]
structure Own where
 type:Str
 field:Str
 parts:List Int
 deriving Inhabited
def zjj(x:Own):List AV:=[.str x.type,.str x.field,.sl 1 (x.parts.map zx4)]
theorem ztf(x:Own):zjj x=[.str x.type,.str x.field,.sl 1 (x.parts.map zx4)]:=rfl
structure Chart where
 all:Part
 owners:List Own
 deriving Inhabited
def zdP(x:Chart):List AV:=zd1 x.all++[.sl 3 (x.owners.map zjj)]
structure CFault where
 pos:Int
 type:Str
 field:Str
 code:Int
 deriving Inhabited
def zdx(x:CFault):List AV:=[.int .i64 x.pos,.str x.type,.str x.field,.int .i64 x.code]
theorem zn9(x:CFault):zdx x=[.int .i64 x.pos,.str x.type,.str x.field,.int .i64 x.code]:=rfl
structure Stt where
 part:Int
 type:Str
 deriving Inhabited
def zkw(x:Stt):List AV:=[.int .i64 x.part,.str x.type]
theorem zti(x:Stt):zkw x=[.int .i64 x.part,.str x.type]:=rfl
structure Fetch where
 step:Int
 part:Int
 ids:List Int
 deriving Inhabited
def zeM(x:Fetch):List AV:=[.int .i64 x.step,.int .i64 x.part,.sl 1 (x.ids.map zx4)]
theorem zpu(x:Fetch):zeM x=[.int .i64 x.step,.int .i64 x.part,.sl 1 (x.ids.map zx4)]:=rfl
structure Fleet where
 parts:List Part
 chart:Chart
 deriving Inhabited
def zeN(x:Fleet):List AV:=[.sl 2 (x.parts.map zd1)]++zdP x.chart
structure Graph where
 part:Part
 rows:List Row
 deriving Inhabited
def zeO(x:Graph):List AV:=zd1 x.part++[.sl 3 (x.rows.map zjk)]
structure Pair where
 k:Str
 v:Str
 deriving Inhabited
def zgS(x:Pair):List AV:=[.str x.k,.str x.v]
theorem zrI(x:Pair):zgS x=[.str x.k,.str x.v]:=rfl
inductive N where
|Field|Typ|Part|PFault|Val|Cel|Row|Sel|AFault|Chg|Ety|Stp|Wrg|Ans|Own|Chart|CFault|Stt|Fetch|Fleet|Graph|Pair
deriving DecidableEq
inductive Ty where
|int (k:IntKind)|bool|str|lst (t:Ty)|nm (n:N)
deriving DecidableEq
@[reducible] def Nm:N->Type
|.Field=>Field
|.Typ=>Typ
|.Part=>Part
|.PFault=>PFault
|.Val=>Val
|.Cel=>Cel
|.Row=>Row
|.Sel=>Sel
|.AFault=>AFault
|.Chg=>Chg
|.Ety=>Ety
|.Stp=>Stp
|.Wrg=>Wrg
|.Ans=>Ans
|.Own=>Own
|.Chart=>Chart
|.CFault=>CFault
|.Stt=>Stt
|.Fetch=>Fetch
|.Fleet=>Fleet
|.Graph=>Graph
|.Pair=>Pair
@[reducible] def TV:Ty->Type
|.int _=>Int
|.bool=>Bool
|.str=>Str
|.lst t=>List (TV t)
|.nm n=>Nm n
def N.sz:N->Nat
|.Field=>8
|.Typ=>3
|.Part=>2
|.PFault=>2
|.Val=>5
|.Cel=>6
|.Row=>3
|.Sel=>5
|.AFault=>2
|.Chg=>8
|.Ety=>3
|.Stp=>6
|.Wrg=>2
|.Ans=>6
|.Own=>3
|.Chart=>3
|.CFault=>4
|.Stt=>2
|.Fetch=>3
|.Fleet=>4
|.Graph=>3
|.Pair=>2
def Ty.sz:Ty->Nat
|.nm n=>n.sz
|.int _|.bool|.str|.lst _=>1
def zdI:(n:N)->Nm n->List AV
|.Field,x=>zdc x
|.Typ,x=>zh0 x
|.Part,x=>zd1 x
|.PFault,x=>zdy x
|.Val,x=>zgA x
|.Cel,x=>zhV x
|.Row,x=>zjk x
|.Sel,x=>zhZ x
|.AFault,x=>zdw x
|.Chg,x=>zkq x
|.Ety,x=>zkr x
|.Stp,x=>zkv x
|.Wrg,x=>zjl x
|.Ans,x=>zkp x
|.Own,x=>zjj x
|.Chart,x=>zdP x
|.CFault,x=>zdx x
|.Stt,x=>zkw x
|.Fetch,x=>zeM x
|.Fleet,x=>zeN x
|.Graph,x=>zeO x
|.Pair,x=>zgS x
def zap:(t:Ty)->TV t->List AV
|.int k,x=>[.int k x]
|.bool,x=>[.bool x]
|.str,x=>[.str x]
|.lst t,x=>[.sl t.sz (x.map (zap t))]
|.nm n,x=>zdI n x
inductive V where
|junk
|int (k:IntKind)(n:Int)
|bool (b:Bool)
|str (s:Str)
|lst (t:Ty)(xs:List (TV t))
|nl (es:Nat)
|e0
|st (n:N)(x:Nm n)
|agg (cs:List V)
|tup (vs:List V)
|ep (n:N)(x:Nm n)
|ip (cs:List V)
|own (r:Nat)
|part (r off len:Nat)
|mp (r row off:Nat)
|fn (f:FuncId)(caps:List V)
|nilp
|nilf
def zt5:List Ty:=[.str]++[.str]++[.bool]++[.bool]++[.bool]++[.bool]++[.bool]++[.lst .str]
def zyN:List Ty:=[.str]++[.str]++[.lst (.nm .Field)]
def zm0:List Ty:=[.str]++[.lst (.nm .Typ)]
def zsd:List Ty:=[.int .i64]++[.int .i64]
def zm1:List Ty:=[.int .i64]++[.int .i64]++[.str]++[.lst .str]++[.lst (.nm .Val)]
def zyF:List Ty:=[.str]++zm1
def zyJ:List Ty:=[.str]++[.int .i64]++[.lst (.nm .Cel)]
def zyK:List Ty:=[.str]++[.str]++[.bool]++[.int .i64]++[.lst (.nm .Sel)]
def zsb:List Ty:=[.lst .str]++[.int .i64]
def zyG:List Ty:=[.str]++[.int .i64]++[.str]++zm1
def zyH:List Ty:=[.str]++[.str]++[.lst .str]
def zyL:List Ty:=[.int .i64]++[.lst .str]++[.str]++[.lst (.nm .Sel)]++[.lst (.int .i64)]++[.lst .str]
def zyO:List Ty:=[.lst .str]++[.int .i64]
def zyE:List Ty:=zm1++[.lst (.nm .Wrg)]
def zyI:List Ty:=[.str]++[.str]++[.lst (.int .i64)]
def zoL:List Ty:=zm0++[.lst (.nm .Own)]
def zsc:List Ty:=[.int .i64]++[.str]++[.str]++[.int .i64]
def zyM:List Ty:=[.int .i64]++[.str]
def zt4:List Ty:=[.int .i64]++[.int .i64]++[.lst (.int .i64)]
def zt6:List Ty:=[.lst (.nm .Part)]++zoL
def zt7:List Ty:=zm0++[.lst (.nm .Row)]
def zwc:List Ty:=[.str]++[.str]
def ziL(x:Field):List V:=[.str x.name,.str x.of,.bool x.list,.bool x.must,.bool x.far,.bool x.hidden,.bool x.shared,.lst .str x.needs]
def zrT(x:Typ):List V:=[.str x.name,.str x.key,.lst (.nm .Field) x.fields]
def zjo(x:Part):List V:=[.str x.name,.lst (.nm .Typ) x.types]
def zga(x:PFault):List V:=[.int .i64 x.pos,.int .i64 x.code]
def zmO(x:Val):List V:=[.int .i64 x.sort,.int .i64 x.num,.str x.text,.lst .str x.names,.lst (.nm .Val) x.kids]
def zpI(x:Cel):List V:=[.str x.name]++zmO x.value
def zrP(x:Row):List V:=[.str x.type,.int .i64 x.id,.lst (.nm .Cel) x.cells]
def zrQ(x:Sel):List V:=[.str x.as,.str x.name,.bool x.one,.int .i64 x.id,.lst (.nm .Sel) x.kids]
def zf8(x:AFault):List V:=[.lst .str x.way,.int .i64 x.code]
def zpJ(x:Chg):List V:=[.str x.type,.int .i64 x.id,.str x.field]++zmO x.value
def zrN(x:Ety):List V:=[.str x.text,.str x.answer,.lst .str x.uses]
def zrR(x:Stp):List V:=[.int .i64 x.part,.lst .str x.way,.str x.type,.lst (.nm .Sel) x.sels,.lst (.int .i64) x.after,.lst .str x.brings]
def zrU(x:Wrg):List V:=[.lst .str x.way,.int .i64 x.code]
def zpH(x:Ans):List V:=zmO x.data++[.lst (.nm .Wrg) x.wrongs]
def zrO(x:Own):List V:=[.str x.type,.str x.field,.lst (.int .i64) x.parts]
def zfx(x:Chart):List V:=zjo x.all++[.lst (.nm .Own) x.owners]
def zf9(x:CFault):List V:=[.int .i64 x.pos,.str x.type,.str x.field,.int .i64 x.code]
def zrS(x:Stt):List V:=[.int .i64 x.part,.str x.type]
def ziK(x:Fetch):List V:=[.int .i64 x.step,.int .i64 x.part,.lst (.int .i64) x.ids]
def zgU(x:Fleet):List V:=[.lst (.nm .Part) x.parts]++zfx x.chart
def zgV(x:Graph):List V:=zjo x.part++[.lst (.nm .Row) x.rows]
def zma(x:Pair):List V:=[.str x.k,.str x.v]
def fl:(n:N)->Nm n->List V
|.Field,x=>ziL x
|.Typ,x=>zrT x
|.Part,x=>zjo x
|.PFault,x=>zga x
|.Val,x=>zmO x
|.Cel,x=>zpI x
|.Row,x=>zrP x
|.Sel,x=>zrQ x
|.AFault,x=>zf8 x
|.Chg,x=>zpJ x
|.Ety,x=>zrN x
|.Stp,x=>zrR x
|.Wrg,x=>zrU x
|.Ans,x=>zpH x
|.Own,x=>zrO x
|.Chart,x=>zfx x
|.CFault,x=>zf9 x
|.Stt,x=>zrS x
|.Fetch,x=>ziK x
|.Fleet,x=>zgU x
|.Graph,x=>zgV x
|.Pair,x=>zma x
def zBe:N->List Ty
|.Field=>zt5
|.Typ=>zyN
|.Part=>zm0
|.PFault=>zsd
|.Val=>zm1
|.Cel=>zyF
|.Row=>zyJ
|.Sel=>zyK
|.AFault=>zsb
|.Chg=>zyG
|.Ety=>zyH
|.Stp=>zyL
|.Wrg=>zyO
|.Ans=>zyE
|.Own=>zyI
|.Chart=>zoL
|.CFault=>zsc
|.Stt=>zyM
|.Fetch=>zt4
|.Fleet=>zt6
|.Graph=>zt7
|.Pair=>zwc
def V.toL:(t:Ty)->V->Option (TV t)
|.int k,.int k' n=>if k'=k then some n else none
|.bool,.bool b=>some b
|.str,.str s=>some s
|.lst t,.lst t' xs=>if h:t'=t then some (h ▸ xs)else none
|.lst t,.nl es=>if es=t.sz then some []else none
|_,_=>none
def zfJ:List V->Option Field
|[c0,c1,c2,c3,c4,c5,c6,c7]=>(c0.toL (.str)).bind fun x0=>(c1.toL (.str)).bind fun x1=>(c2.toL (.bool)).bind fun x2=>(c3.toL (.bool)).bind fun x3=>(c4.toL (.bool)).bind fun x4=>(c5.toL (.bool)).bind fun x5=>(c6.toL (.bool)).bind fun x6=>(c7.toL (.lst .str)).bind fun x7=>some (.mk x0 x1 x2 x3 x4 x5 x6 x7)
|_=>none
def zln:List V->Option Typ
|[c0,c1,c2]=>(c0.toL (.str)).bind fun x0=>(c1.toL (.str)).bind fun x1=>(c2.toL (.lst (.nm .Field))).bind fun x2=>some (.mk x0 x1 x2)
|_=>none
def ze3:List V->Option Part
|[c0,c1]=>(c0.toL (.str)).bind fun x0=>(c1.toL (.lst (.nm .Typ))).bind fun x1=>some (.mk x0 x1)
|_=>none
def zew:List V->Option PFault
|[c0,c1]=>(c0.toL (.int .i64)).bind fun x0=>(c1.toL (.int .i64)).bind fun x1=>some (.mk x0 x1)
|_=>none
def zfN:List V->Option Val
|[c0,c1,c2,c3,c4]=>(c0.toL (.int .i64)).bind fun x0=>(c1.toL (.int .i64)).bind fun x1=>(c2.toL (.str)).bind fun x2=>(c3.toL (.lst .str)).bind fun x3=>(c4.toL (.lst (.nm .Val))).bind fun x4=>some (.mk x0 x1 x2 x3 x4)
|_=>none
def zlf:List V->Option Cel
|[c0,c1,c2,c3,c4,c5]=>(c0.toL (.str)).bind fun x0=>(zfN [c1,c2,c3,c4,c5]).bind fun x1=>some (.mk x0 x1)
|_=>none
def zlj:List V->Option Row
|[c0,c1,c2]=>(c0.toL (.str)).bind fun x0=>(c1.toL (.int .i64)).bind fun x1=>(c2.toL (.lst (.nm .Cel))).bind fun x2=>some (.mk x0 x1 x2)
|_=>none
def zlk:List V->Option Sel
|[c0,c1,c2,c3,c4]=>(c0.toL (.str)).bind fun x0=>(c1.toL (.str)).bind fun x1=>(c2.toL (.bool)).bind fun x2=>(c3.toL (.int .i64)).bind fun x3=>(c4.toL (.lst (.nm .Sel))).bind fun x4=>some (.mk x0 x1 x2 x3 x4)
|_=>none
def zet:List V->Option AFault
|[c0,c1]=>(c0.toL (.lst .str)).bind fun x0=>(c1.toL (.int .i64)).bind fun x1=>some (.mk x0 x1)
|_=>none
def zlg:List V->Option Chg
|[c0,c1,c2,c3,c4,c5,c6,c7]=>(c0.toL (.str)).bind fun x0=>(c1.toL (.int .i64)).bind fun x1=>(c2.toL (.str)).bind fun x2=>(zfN [c3,c4,c5,c6,c7]).bind fun x3=>some (.mk x0 x1 x2 x3)
|_=>none
def zlh:List V->Option Ety
|[c0,c1,c2]=>(c0.toL (.str)).bind fun x0=>(c1.toL (.str)).bind fun x1=>(c2.toL (.lst .str)).bind fun x2=>some (.mk x0 x1 x2)
|_=>none
def zll:List V->Option Stp
|[c0,c1,c2,c3,c4,c5]=>(c0.toL (.int .i64)).bind fun x0=>(c1.toL (.lst .str)).bind fun x1=>(c2.toL (.str)).bind fun x2=>(c3.toL (.lst (.nm .Sel))).bind fun x3=>(c4.toL (.lst (.int .i64))).bind fun x4=>(c5.toL (.lst .str)).bind fun x5=>some (.mk x0 x1 x2 x3 x4 x5)
|_=>none
def zlo:List V->Option Wrg
|[c0,c1]=>(c0.toL (.lst .str)).bind fun x0=>(c1.toL (.int .i64)).bind fun x1=>some (.mk x0 x1)
|_=>none
def zle:List V->Option Ans
|[c0,c1,c2,c3,c4,c5]=>(zfN [c0,c1,c2,c3,c4]).bind fun x0=>(c5.toL (.lst (.nm .Wrg))).bind fun x1=>some (.mk x0 x1)
|_=>none
def zli:List V->Option Own
|[c0,c1,c2]=>(c0.toL (.str)).bind fun x0=>(c1.toL (.str)).bind fun x1=>(c2.toL (.lst (.int .i64))).bind fun x2=>some (.mk x0 x1 x2)
|_=>none
def zev:List V->Option Chart
|[c0,c1,c2]=>(ze3 [c0,c1]).bind fun x0=>(c2.toL (.lst (.nm .Own))).bind fun x1=>some (.mk x0 x1)
|_=>none
def zeu:List V->Option CFault
|[c0,c1,c2,c3]=>(c0.toL (.int .i64)).bind fun x0=>(c1.toL (.str)).bind fun x1=>(c2.toL (.str)).bind fun x2=>(c3.toL (.int .i64)).bind fun x3=>some (.mk x0 x1 x2 x3)
|_=>none
def zlm:List V->Option Stt
|[c0,c1]=>(c0.toL (.int .i64)).bind fun x0=>(c1.toL (.str)).bind fun x1=>some (.mk x0 x1)
|_=>none
def zfI:List V->Option Fetch
|[c0,c1,c2]=>(c0.toL (.int .i64)).bind fun x0=>(c1.toL (.int .i64)).bind fun x1=>(c2.toL (.lst (.int .i64))).bind fun x2=>some (.mk x0 x1 x2)
|_=>none
def zfK:List V->Option Fleet
|[c0,c1,c2,c3]=>(c0.toL (.lst (.nm .Part))).bind fun x0=>(zev [c1,c2,c3]).bind fun x1=>some (.mk x0 x1)
|_=>none
def zfL:List V->Option Graph
|[c0,c1,c2]=>(ze3 [c0,c1]).bind fun x0=>(c2.toL (.lst (.nm .Row))).bind fun x1=>some (.mk x0 x1)
|_=>none
def zij:List V->Option Pair
|[c0,c1]=>(c0.toL (.str)).bind fun x0=>(c1.toL (.str)).bind fun x1=>some (.mk x0 x1)
|_=>none
def zzv:(n:N)->List V->Option (Nm n)
|.Field,cs=>zfJ cs
|.Typ,cs=>zln cs
|.Part,cs=>ze3 cs
|.PFault,cs=>zew cs
|.Val,cs=>zfN cs
|.Cel,cs=>zlf cs
|.Row,cs=>zlj cs
|.Sel,cs=>zlk cs
|.AFault,cs=>zet cs
|.Chg,cs=>zlg cs
|.Ety,cs=>zlh cs
|.Stp,cs=>zll cs
|.Wrg,cs=>zlo cs
|.Ans,cs=>zle cs
|.Own,cs=>zli cs
|.Chart,cs=>zev cs
|.CFault,cs=>zeu cs
|.Stt,cs=>zlm cs
|.Fetch,cs=>zfI cs
|.Fleet,cs=>zfK cs
|.Graph,cs=>zfL cs
|.Pair,cs=>zij cs
def V.to:(t:Ty)->V->Option (TV t)
|.nm n,.st n' x=>if h:n'=n then some (h ▸ x)else none
|.nm n,.agg cs=>zzv n cs
|.nm _,_=>none
|.int k,v=>v.toL (.int k)
|.bool,v=>v.toL .bool
|.str,v=>v.toL .str
|.lst t,v=>v.toL (.lst t)
def inj:(t:Ty)->TV t->V
|.int k,x=>.int k x
|.bool,x=>.bool x
|.str,x=>.str x
|.lst t,x=>.lst t x
|.nm n,x=>.st n x
def leafs:(t:Ty)->TV t->List V
|.int k,x=>[.int k x]
|.bool,x=>[.bool x]
|.str,x=>[.str x]
|.lst t,x=>[.lst t x]
|.nm n,x=>fl n x
def zil:(t:Ty)->List V->Option (TV t)
|.nm n,cs=>zzv n cs
|.int k,[v]=>v.toL (.int k)
|.bool,[v]=>v.toL .bool
|.str,[v]=>v.toL .str
|.lst t,[v]=>v.toL (.lst t)
|_,_=>none
end Go.Fw
namespace Go.Fw
open Go
inductive OS where
|no
|all
|at(ps:List (Nat×OS))
def zxp:List (Nat×OS)->Nat->Option OS
|[],_=>none
| (m,o):: l,n=>match Nat.beq m n with
 |true=>some o
 |false=>zxp l n
def OS.sub:OS->Nat->Option OS
|.no,_=>none
|.all,_=>some .all
|.at ps,n=>zxp ps n
mutual
def OS.eqB:OS->OS->Bool
|.no,.no=>true
|.all,.all=>true
|.at a,.at b=>OS.eqL a b
|_,_=>false
def OS.eqL:List (Nat×OS)->List (Nat×OS)->Bool
|[],[]=>true
| (m,o):: a,(n,p):: b=>Nat.beq m n&&OS.eqB o p&&OS.eqL a b
|_,_=>false
end
structure BT where
 nm:Option N
 ts:List (Option (Ty×OS))
def BT.mpB(b:BT):Bool:=match b.nm with
|some .Pair=>true
|_=>false
def znb:BT:=⟨some .Pair,[some (.lst (.nm .Pair),.no)]⟩
def zAy(k:Str)(xs:List Pair):Bool:=xs.any fun p=>p.k==k
def zBg(k:Str)(xs:List Pair):Str:=match xs.find? fun p=>p.k==k with
|some p=>p.v
|none=>[]
inductive Ow where
|no
|cl (os:OS)
|op (os:OS)(row:Nat)(cs:List V)
inductive Root where
|dead
|arr (t:Ty)(xs:List (TV t))(w:Ow)
|box (b:BT)(cs:List V)
def zpc:OS->Ow
|.no=>.no
|os=>.cl os
def Ow.isNo:Ow->Bool
|.no=>true
|_=>false
def noOw:List Root->Bool
|[]=>true
|.arr _ _ .no:: l=>noOw l
|.arr _ _ _:: _=>false
|_:: l=>noOw l
structure TS where
 env:List (Nat×V)
 mem:List Root
inductive An where
|t (t:Ty)
|o (t:Ty)(os:OS)
|cells (b:BT)
|no
def lookV:List (Nat×V)->Nat->V
|[],_=>.junk
| (m,v):: r,n=>match Nat.beq m n with
 |true=>v
 |false=>lookV r n
def zt1:List (Nat×An)->Nat->An
|[],_=>.no
| (m,v):: r,n=>match Nat.beq m n with
 |true=>v
 |false=>zt1 r n
mutual
def V.ofAV:AV->V
|.int k n=>.int k n
|.bool b=>.bool b
|.str s=>.str s
|.e0=>.e0
|.sl es []=>.nl es
|.nilp=>.nilp
|.nilf=>.nilf
|.agg cs=>.agg (V.ofAVL cs)
|.fn f []=>.fn f []
|_=>.junk
def V.ofAVL:List AV->List V
|[]=>[]
|c:: cs=>V.ofAV c:: V.ofAVL cs
end
def arV(env:List (Nat×V)):Ar->V
|.t n=>lookV env n
|.c v=>V.ofAV v
def zaa{α Z:Type}(x:Option α)(f:α->Option Z):Option Z:=x.bind f
def zab{J:Type}(b:Bool)(x y:Option J):Option J:=bif b then x else y
def gd{J:Type}(b:Bool)(x:Option J):Option J:=bif b then x else none
mutual
def V.pur:V->Bool
|.own _|.part _ _ _|.mp _ _ _|.junk=>false
|.agg cs|.tup cs|.ip cs|.fn _ cs=>V.purL cs
|.int _ _|.bool _|.str _|.lst _ _|.nl _|.e0|.st _ _|.ep _ _|.nilp|.nilf=>true
def V.purL:List V->Bool
|[]=>true
|c:: cs=>c.pur&&V.purL cs
end
def V.isC:V->Bool
|.agg _|.tup _|.junk|.st _ _=>false
|.int _ _|.bool _|.str _|.lst _ _|.nl _|.e0|.ep _ _|.ip _|.own _|.part _ _ _|.mp _ _ _|.fn _ _|.nilp|.nilf=>true
def V.na:V->Bool
|.int _ _|.bool _|.str _|.lst _ _|.nl _|.e0|.own _|.part _ _ _|.fn _ _|.nilf=>true
|.junk|.st _ _|.ep _ _|.agg _|.tup _|.ip _|.mp _ _ _|.nilp=>false
def V.n8:V->Bool
|.int .u8 _|.junk=>false
|_=>true
def V.pt:V->Bool
|.nilp|.mp _ _ _|.ip _|.ep _ _=>true
|_=>false
def V.b8:V->Bool
|.int .u8 _=>true
|_=>false
def hdV(p:V->Bool):List V->Bool
|c:: _=>p c
|[]=>true
def zzS(l:List V):Bool:=hdV (fun c=>c.na&&c.n8) l
def stV(cs:List V)(off:Nat)(old:V):Bool:=zzS cs ||Nat.ble 1 off ||old.pt&&hdV V.n8 cs ||old.b8&&hdV V.na cs
def Ty.n8:Ty->Bool
|.int .u8=>false
|_=>true
def V.cel:V->List V
|.agg cs=>cs
|.st n x=>fl n x
|v=>[v]
def zy2:(t:Ty)->TV t->V
|.nm n,x=>.ep n x
|.int k,x=>.ip [.int k x]
|.bool,x=>.ip [.bool x]
|.str,x=>.ip [.str x]
|.lst t,x=>.ip [.lst t x]
def zuA(mem:List Root)(t:Ty):V->Option (List (TV t))
|.lst t' xs=>if h:t'=t then some (h ▸ xs)else none
|.nl es=>if es=t.sz then some []else none
|.e0=>some []
|.own r=>match mem[r]? with
 |some (.arr t' xs .no)=>if h:t'=t then some (h ▸ xs)else none
 |_=>none
|.part r off len=>match mem[r]? with
 |some (.arr t' xs .no)=>if h:t'=t then some (h ▸ ((xs.drop off).take len))else none
 |_=>none
|_=>none
def zzU(env:List (Nat×V))(t:Ty):List Ar->Option (List (TV t))
|[]=>some []
|a:: l=>((arV env a).to t).bind fun x=>(zzU env t l).bind fun xs=>some (x:: xs)
def zgq(zs:List AV):List V:=zs.map V.ofAV
def owns(b:Nat):List V->List (Option (Ty×OS))->List V×List Root
|.e0:: cs,some (.lst t,os):: ts=>match owns (b+1) cs ts with
 | (cs',m)=>(.own b:: cs',.arr t [] (zpc os):: m)
|c:: cs,_:: ts=>match owns b cs ts with
 | (cs',m)=>(c:: cs',m)
|cs,_=>(cs,[])
def An.bt:An->BT
|.cells b=>b
|_=>⟨none,[]⟩
def ownsD(dr:Bool)(b:Nat)(cs:List V)(ts:List (Option (Ty×OS))):List V×List Root:=
 match dr with
 |true=>(cs,[])
 |false=>owns b cs ts
def zlz:List V->Bool
|[]=>false
|.e0:: _=>true
|_:: cs=>zlz cs
def zsq(an:An)(cs:List V):V:=
 match an with
 |.t (.nm n)=>match V.purL cs,zlz cs with
  |true,false=>match zzv n cs with
   |some x=>.st n x
   |none=>.agg cs
  |_,_=>.agg cs
 |_=>.agg cs
def zvT(zs:List V):List (Nat×List V)->List V
|[]=>zs
| (o,cs):: r=>zvT (zs.take o++cs++zs.drop (o+cs.length)) r
def zqG(env:List (Nat×V))(dflt:Int):Option Ar->Option Int
|none=>some dflt
|some a=>match arV env a with
 |.int _ n=>some n
 |_=>none
def zaH(n:Int):Bool:=decide (-9223372036854775808<=n)&&decide (n<=9223372036854775807)
def zj9{J:Type}(k:IntKind)(n:Int)(κ:V->Option J):Option J:=
 match k with
 |.i64=>gd (zaH n) (κ (.int .i64 n))
 |k=>κ (.int k (k.wrap n))
def zpx:List V->List V->Option Bool
|[],[]=>some true
|.int k a:: l,.int k' b:: l'=>if k=k' then(zpx l l').bind fun r=>some (a==b&&r)else none
|.bool a:: l,.bool b:: l'=>(zpx l l').bind fun r=>some (a==b&&r)
|.str a:: l,.str b:: l'=>(zpx l l').bind fun r=>some (a==b&&r)
|_,_=>none
def zzK:V->Option (List V)
|.st n x=>some (fl n x)
|.agg cs=>some cs
|_=>none
def zx8:List Nat->List V->List V->Option Bool
|[],[],[]=>some true
|2:: ks,.int k a:: l,.int k' b:: l'=>if k=k' then(zx8 ks l l').bind fun r=>some (a==b&&r)else none
|0:: ks,.bool a:: l,.bool b:: l'=>(zx8 ks l l').bind fun r=>some (a==b&&r)
|1:: ks,.str a:: l,.str b:: l'=>(zx8 ks l l').bind fun r=>some (a==b&&r)
|_,_,_=>none
def zCu{J:Type}(op:BinOp)(x y:V)(κ:V->Option J):Option J:=
 match x,y with
 |.int k a,.int k' b=>if k=k' then
  match op with
  |.add=>zj9 k (a+b) κ
  |.sub=>zj9 k (a-b) κ
  |.mul=>zj9 k (a*b) κ
  |.quo=>gd (b !=0) (zj9 k (a.tdiv b) κ)
  |.rem=>gd (b !=0) (κ (.int k (a.tmod b)))
  |.eql=>κ (.bool (a==b))
  |.neq=>κ (.bool (a !=b))
  |.lss=>κ (.bool (decide (a<b)))
  |.leq=>κ (.bool (decide (a<=b)))
  |.gtr=>κ (.bool (decide (a>b)))
  |.geq=>κ (.bool (decide (a>=b)))
  |.xor=>κ (.int k (k.wrap (BitVec.ofInt k.bits a ^^^ BitVec.ofInt k.bits b).toNat))
  |.and=>κ (.int k (k.wrap (BitVec.ofInt k.bits a&&&BitVec.ofInt k.bits b).toNat))
  |_=>none
  else none
 |.str a,.str b=>
  match op with
  |.add=>gd (decide (a.length+b.length<=BIG)) (κ (.str (a++b)))
  |.eql=>κ (.bool (a==b))
  |.neq=>κ (.bool (a !=b))
  |.lss=>κ (.bool (Op.bytesLess a b))
  |.leq=>κ (.bool (Op.bytesLess a b ||a==b))
  |.gtr=>κ (.bool (!(Op.bytesLess a b ||a==b)))
  |.geq=>κ (.bool (!(Op.bytesLess a b)))
  |_=>none
 |.bool a,.bool b=>none
 |_,_=>none
def V.isLst:V->Bool
|.lst _ _=>true
|_=>false
def opn(os:OS):Nat->Nat->List V->List V×List Root
|_,_,[]=>([],[])
|off,b,c:: cs=>match os.sub off,c with
 |some o,.lst t ys=>match opn os (off+1) (b+1) cs with
  | (cs',m)=>(.own b:: cs',.arr t ys (zpc o):: m)
 |_,c=>match opn os (off+1) b cs with
  | (cs',m)=>(c:: cs',m)
def Ow.eqB:Ow->Ow->Bool
|.no,.no=>true
|.cl a,.cl b=>OS.eqB a b
|_,_=>false
def V.isLf:V->Bool
|.int _ _|.bool _|.str _|.lst _ _=>true
|_=>false
def zv9:Ty->V->Option V
|.lst t,.e0=>some (.lst t [])
|.lst t,.nl es=>if es=t.sz then some (.lst t [])else none
|.lst _,.lst t xs=>some (.lst t xs)
|.lst _,_=>none
|_,.lst _ _=>none
|_,c=>match c.isLf with
 |true=>some c
 |false=>none
def cls(os:OS):Nat->List Root->List Ty->List V->Option (List V×List Root)
|_,mem,_,[]=>some ([],mem)
|_,_,[],_:: _=>none
|off,mem,ty:: tys,c:: cs=>match os.sub off,ty with
 |some o,.lst t=>match c with
  |.own b=>match mem[b]? with
   |some (.arr t' ys w)=>match Ow.eqB w (zpc o)with
    |true=>if t'=t then(cls os (off+1) (mem.set b .dead) tys cs).bind fun(cs',m)=>some (.lst t' ys:: cs',m)else none
    |false=>none
   |_=>none
  |.e0=>(cls os (off+1) mem tys cs).bind fun(cs',m)=>some (.lst t []:: cs',m)
  |_=>none
 |_,ty=>match zv9 ty c with
  |some c'=>(cls os (off+1) mem tys cs).bind fun(cs',m)=>some (c':: cs',m)
  |none=>none
def zjq:Ty->List Ty
|.nm n=>zBe n
|t=>[t]
def zvt(os:OS):Nat->List Ty->List V->Bool
|off,ty:: tys,c:: cs=>match os.sub off,ty with
 |some _,.lst _=>match c with
  |.e0=>zvt os (off+1) tys cs
  |_=>false
 |_,_=>zvt os (off+1) tys cs
|_,_,[]=>true
|_,[],_=>false
def zwy(dr:Bool)(os:OS)(t:Ty)(mem:List Root)(cs:List V):Option (TV t×List Root):=
 match dr&&zlz cs with
 |true=>none
 |false=>(cls os 0 mem (zjq t) cs).bind fun(cs',m)=>(zil t cs').bind fun x=>some (x,m)
def zk5(dr:Bool)(os:OS)(t:Ty):List Root->List (List V)->Option (List (TV t)×List Root)
|mem,[]=>some ([],mem)
|mem,cs:: l=>(zwy dr os t mem cs).bind fun(x,m)=>(zk5 dr os t m l).bind fun(xs,m')=>some (x:: xs,m')
def zaI(b:UInt8):Int:=b.toNat
def zpQ(n:Int):UInt8:=UInt8.ofNat n.toNat
section
variable {J:Type}
def evT(dr:Bool)(an:An)(k:K)(env:List (Nat×V))(mem:List Root)(κ:V->List Root->Option J):Option J:=
 match k with
 |.mv x=>match x,an,dr with
  |.c .e0,.t (.lst t),false=>κ (.own mem.length) (mem++[.arr t [] .no])
  |.c .e0,.o t os,false=>κ (.own mem.length) (mem++[.arr t [] (.cl os)])
  |.c (.sl es []),.t (.lst t),_=>if es=t.sz then κ (.lst t []) mem else none
  |.c (.agg cs),.t (.nm _),_=>κ (zsq an (V.ofAVL cs)) mem
  |x,_,_=>κ (arV env x) mem
 |.pick c a b=>match arV env c,arV env a,arV env b with
  |.bool t,.bool x,.bool y=>κ (.bool (bif t then x else y)) mem
  |.bool t,.bool x,.tup []=>gd t (κ (.bool x) mem)
  |.bool t,.tup [],.bool y=>gd (!t) (κ (.bool y) mem)
  |_,_,_=>none
 |.boxi n x=>match arV env x with
  |.st m v=>if m.sz=n then κ (.ep m v) mem else none
  |v=>match Nat.beq v.cel.length n,V.purL v.cel,v.cel.all V.isC with
   |true,true,true=>κ (.ip v.cel) mem
   |_,_,_=>none
 |.boxm n x=>match Nat.beq (arV env x).cel.length n,(arV env x).cel.all V.isC&&((zzS (arV env x).cel || !(Nat.beq n 2)&&hdV V.n8 (arV env x).cel)&&!an.bt.mpB)with
  |true,true=>match ownsD dr (mem.length+1) (arV env x).cel an.bt.ts with
   | (cs,m)=>κ (.mp mem.length 0 0) (mem ++ .box an.bt cs:: m)
  |_,_=>none
 |.alloc zs=>match(zgq zs).all V.isC&&!an.bt.mpB with
  |true=>match ownsD dr (mem.length+1) (zgq zs) an.bt.ts with
   | (cs,m)=>κ (.mp mem.length 0 0) (mem ++ .box an.bt cs:: m)
  |false=>none
 |.build zs parts=>match parts.all fun(o,s,x)=>Nat.beq (arV env x).cel.length s&&(arV env x).cel.all V.isC&&Nat.ble (o+s) zs.length with
  |true=>κ (zsq an (zvT (zgq zs) (parts.map fun(o,_,x)=>(o,(arV env x).cel)))) mem
  |false=>none
 |.buildo p es zs parts=>match an with
  |.t (.nm n)=>match(zBe n)[p]?,zs[p]? with
   |some (.lst t),some .e0=>match Nat.beq t.sz es&&parts.all fun(o,s,x)=>Nat.beq (arV env x).cel.length s&&(arV env x).cel.all V.isC&&Nat.ble (o+s) zs.length with
    |true=>κ (.agg (zvT ((zgq zs).set p (.own mem.length)) (parts.map fun(o,_,x)=>(o,(arV env x).cel)))) (mem++[.arr t [] .no])
    |false=>none
   |_,_=>none
  |_=>none
 |.bsl es parts=>match an with
  |.t (.lst t)=>if t.sz=es then(zzU env t parts).bind fun xs=>κ (.lst t xs) mem else none
  |_=>none
 |.bslm es parts=>match an with
  |.t (.lst t)=>match t.n8 with
   |false=>none
   |true=>if t.sz=es then(zzU env t parts).bind fun xs=>κ (.own mem.length) (mem++[.arr t xs .no])else none
  |.o t os=>match zzS ((parts.map fun a=>(arV env a).cel).headD [])with
   |true=>if t.sz=es then(zk5 dr os t mem (parts.map fun a=>(arV env a).cel)).bind fun(xs,m)=>κ (.own m.length) (m++[.arr t xs (.cl os)])else none
   |false=>none
  |_=>none
 |.bsl0=>match an,dr with
  |.t (.lst t),false=>κ (.own mem.length) (mem++[.arr t [] .no])
  |.o t os,false=>κ (.own mem.length) (mem++[.arr t [] (.cl os)])
  |_,_=>κ .e0 mem
 |.load none x=>match arV env x with
  |.ip (c:: _)=>κ c mem
  |.ep n v=>match fl n v with
   |c:: _=>κ c mem
   |[]=>none
  |.mp r row off=>match mem[r]? with
   |some (.box b cs)=>match b.mpB,cs[off]? with
    |false,some c=>κ c mem
    |_,_=>none
   |some (.arr t xs .no)=>zaa xs[row]? fun v=>match(leafs t v)[off]? with
    |some c=>κ c mem
    |none=>none
   |some (.arr t xs (.cl os))=>zaa xs[row]? fun v=>match opn os 0 mem.length (leafs t v)with
    | (cs,m)=>match cs[off]? with
     |some c=>match c.pur with
      |true=>κ c mem
      |false=>κ c (mem.set r (.arr t xs (.op os row cs))++m)
     |none=>none
   |some (.arr t xs (.op os j cs))=>match cs[off]? with
    |some c=>gd (decide (row=j)) (κ c mem)
    |none=>none
   |_=>none
  |_=>none
 |.load (some n) x=>match arV env x with
  |.ep m v=>if m.sz=n then κ (.st m v) mem else match Nat.ble n m.sz with
   |true=>κ (zsq an ((fl m v).take n)) mem
   |false=>none
  |.ip cs=>match Nat.ble n cs.length with
   |true=>κ (zsq an (cs.take n)) mem
   |false=>none
  |.mp r row off=>match mem[r]? with
   |some (.box b cs)=>match b.mpB,Nat.ble (off+n) cs.length with
    |false,true=>κ (zsq an ((cs.drop off).take n)) mem
    |_,_=>none
   |some (.arr t xs (.cl os))=>zaa xs[row]? fun v=>match opn os 0 mem.length (leafs t v)with
    | (cs,m)=>match Nat.ble (off+n) cs.length with
     |true=>match V.purL ((cs.drop off).take n)with
      |true=>κ (zsq an ((cs.drop off).take n)) mem
      |false=>κ (zsq an ((cs.drop off).take n)) (mem.set r (.arr t xs (.op os row cs))++m)
     |false=>none
   |some (.arr t xs (.op os j cs))=>match Nat.ble (off+n) cs.length with
    |true=>gd (decide (row=j)) (κ (zsq an ((cs.drop off).take n)) mem)
    |false=>none
   |some (.arr t xs .no)=>zaa xs[row]? fun v=>match t,v with
    |.nm m,v=>match Nat.beq off 0,Nat.beq n m.sz with
     |true,true=>κ (.st m v) mem
     |_,_=>match Nat.ble (off+n) m.sz with
      |true=>κ (zsq an (((fl m v).drop off).take n)) mem
      |false=>none
    |_,_=>none
   |_=>none
  |_=>none
 |.store n a x=>match arV env a with
  |.mp r row off=>match Nat.beq (arV env x).cel.length n,(arV env x).cel.all V.isC with
   |true,true=>match mem[r]? with
    |some (.box b cs)=>match !b.mpB&&(Nat.ble (off+n) cs.length&&stV (arV env x).cel off (cs.headD .junk))with
     |true=>match ownsD dr mem.length (arV env x).cel (b.ts.drop off)with
      | (ds,m)=>κ .junk (mem.set r (.box b (cs.take off++ds++cs.drop (off+n)))++m)
     |false=>none
    |some (.arr t xs .no)=>zaa xs[row]? fun v=>match Nat.ble (off+n) t.sz&&stV (arV env x).cel off ((leafs t v).headD .junk)with
     |true=>(zil t ((leafs t v).take off++(arV env x).cel++(leafs t v).drop (off+n))).bind fun v'=>κ .junk (mem.set r (.arr t (xs.set row v') .no))
     |false=>none
    |some (.arr t xs (.cl os))=>zaa xs[row]? fun v=>match opn os 0 mem.length (leafs t v)with
     | (cs,m)=>match Nat.ble (off+n) cs.length&&stV (arV env x).cel off (cs.headD .junk)with
      |true=>κ .junk (mem.set r (.arr t xs (.op os row (cs.take off++(arV env x).cel++cs.drop (off+n))))++m)
      |false=>none
    |some (.arr t xs (.op os j cs))=>match Nat.ble (off+n) cs.length&&stV (arV env x).cel off (cs.headD .junk)with
     |true=>gd (decide (row=j)) (κ .junk (mem.set r (.arr t xs (.op os j (cs.take off++(arV env x).cel++cs.drop (off+n))))))
     |false=>none
    |_=>none
   |_,_=>none
  |_=>none
 |.mmk=>κ (.own mem.length) (mem++[.box znb [.lst (.nm .Pair) []]])
 |.mlk x y=>match arV env x,arV env y with
  |.own r,.str k=>match mem[r]? with
   |some (.box b [.lst (.nm .Pair) xs])=>match b.mpB with
    |true=>κ (.tup [.str (zBg k xs),.bool (zAy k xs)]) mem
    |false=>none
   |_=>none
  |_,_=>none
 |.mup m x y=>match arV env m,arV env x,arV env y with
  |.own r,.str k,.str v=>match mem[r]? with
   |some (.box b [.lst (.nm .Pair) xs])=>match b.mpB with
    |true=>gd (!zAy k xs) (κ .junk (mem.set r (.box b [.lst (.nm .Pair) (xs++[⟨k,v⟩])])))
    |false=>none
   |_=>none
  |_,_,_=>none
 |.nilc x=>match arV env x with
  |.ip cs=>κ (.ip cs) mem
  |.ep n v=>κ (.ep n v) mem
  |.mp r row off=>κ (.mp r row off) mem
  |_=>none
 |.bin op x y=>zCu op (arV env x) (arV env y) fun r=>κ r mem
 |.beq op x y=>match arV env x,arV env y,op with
  |.bool a,.bool b,.eql=>κ (.bool (a==b)) mem
  |.bool a,.bool b,.neq=>κ (.bool (a !=b)) mem
  |_,_,_=>none
 |.isn ne x=>match arV env x with
  |.fn f [.bool b]=>match Nat.beq f ERR with
   |true=>κ (.bool (b==ne)) mem
   |false=>none
  |_=>none
 |.not x=>match arV env x with
  |.bool b=>κ (.bool (!b)) mem
  |_=>none
 |.neg x=>match arV env x with
  |.int k n=>zj9 k (0-n) fun r=>κ r mem
  |_=>none
 |.conv k x=>match arV env x with
  |.int _ n=>κ (.int k (k.wrap n)) mem
  |_=>none
 |.b2s x=>(zuA mem (.int .u8) (arV env x)).bind fun xs=>gd (decide (xs.length<=BIG)) (κ (.str (xs.map zpQ)) mem)
 |.s2b x=>match arV env x with
  |.str s=>κ (.lst (.int .u8) (s.map zaI)) mem
  |_=>none
 |.sub x lo hi=>match arV env x with
  |.str s=>(zqG env 0 lo).bind fun l=>(zqG env s.length hi).bind fun h=>gd (decide (0<=l)&&decide (l<=h)&&decide (h<=s.length)) (κ (.str ((s.drop l.toNat).take (h.toNat-l.toNat))) mem)
  |_=>none
 |.slc sz x lo hi=>match arV env x with
  |.lst t xs=>if t.sz=sz then(zqG env 0 lo).bind fun l=>(zqG env xs.length hi).bind fun h=>gd (decide (0<=l)&&decide (l<=h)&&decide (h<=xs.length)) (κ (.lst t ((xs.drop l.toNat).take (h.toNat-l.toNat))) mem)else none
  |.own r=>match mem[r]? with
   |some (.arr t xs _)=>if t.sz=sz then(zqG env 0 lo).bind fun l=>(zqG env xs.length hi).bind fun h=>gd (decide (0<=l)&&decide (l<=h)&&decide (h<=xs.length)) (κ (.part r l.toNat (h.toNat-l.toNat)) mem)else none
   |_=>none
  |.part r off len=>match mem[r]? with
   |some (.arr t _ _)=>if t.sz=sz then(zqG env 0 lo).bind fun l=>(zqG env len hi).bind fun h=>gd (decide (0<=l)&&decide (l<=h)&&decide (h<=len)) (κ (.part r (off+l.toNat) (h.toNat-l.toNat)) mem)else none
   |_=>none
  |.e0=>(zqG env 0 lo).bind fun l=>(zqG env 0 hi).bind fun h=>gd (l==0&&h==0) (κ .e0 mem)
  |.nl es=>if es=sz then(zqG env 0 lo).bind fun l=>(zqG env 0 hi).bind fun h=>gd (l==0&&h==0) (κ (.nl es) mem)else none
  |_=>none
 |.fa off x=>match arV env x with
  |.ep n v=>match Nat.ble off n.sz with
   |true=>κ (.ip ((fl n v).drop off)) mem
   |false=>none
  |.ip cs=>match Nat.ble off cs.length with
   |true=>κ (.ip (cs.drop off)) mem
   |false=>none
  |.mp r row o=>κ (.mp r row (o+off)) mem
  |_=>none
 |.field off none x=>match(arV env x)with
  |.st n v=>match(fl n v)[off]? with
   |some c=>κ c mem
   |none=>none
  |.agg cs=>match cs[off]? with
   |some c=>κ c mem
   |none=>none
  |_=>none
 |.field off (some n) x=>match(arV env x)with
  |.st m v=>match Nat.ble (off+n) m.sz with
   |true=>κ (zsq an (((fl m v).drop off).take n)) mem
   |false=>none
  |.agg cs=>match Nat.ble (off+n) cs.length with
   |true=>κ (zsq an ((cs.drop off).take n)) mem
   |false=>none
  |_=>none
 |.ia es x i=>match arV env x,arV env i with
  |.lst t xs,.int _ n=>if t.sz=es then gd (decide (0<=n)) (zaa xs[n.toNat]? fun v=>κ (zy2 t v) mem)else none
  |.own r,.int _ n=>match mem[r]? with
   |some (.arr t xs _)=>if t.sz=es then gd (decide (0<=n)&&decide (n<xs.length)) (κ (.mp r n.toNat 0) mem)else none
   |_=>none
  |.part r off len,.int _ n=>match mem[r]? with
   |some (.arr t _ _)=>if t.sz=es then gd (decide (0<=n)&&decide (n<len)) (κ (.mp r (off+n.toNat) 0) mem)else none
   |_=>none
  |_,_=>none
 |.idx x i=>match arV env x,arV env i with
  |.str s,.int _ n=>gd (decide (0<=n)) (zaa s[n.toNat]? fun b=>κ (.int .u8 (zaI b)) mem)
  |_,_=>none
 |.lens x=>match arV env x with
  |.str s=>κ (.int .i64 s.length) mem
  |_=>none
 |.lenl x=>match arV env x with
  |.lst _ xs=>κ (.int .i64 xs.length) mem
  |.own r=>match mem[r]? with
   |some (.arr _ xs _)=>κ (.int .i64 xs.length) mem
   |_=>none
  |.part r _ len=>match mem[r]? with
   |some (.arr _ _ _)=>κ (.int .i64 len) mem
   |_=>none
  |.e0=>κ (.int .i64 0) mem
  |.nl _=>κ (.int .i64 0) mem
  |_=>none
 |.app es x y=>match an with
  |.t (.lst t)=>match t.n8 with
   |false=>none
   |true=>if t.sz=es then(zuA mem t (arV env y)).bind fun ys=>match arV env x with
    |.e0=>gd (decide (ys.length<=LIM)) (κ (.own mem.length) (mem++[.arr t ys .no]))
    |.own r=>match mem[r]? with
     |some (.arr t' xs .no)=>if h:t'=t then gd (decide (xs.length+ys.length<=LIM)) (κ (.own mem.length) (mem.set r .dead++[.arr t ((h ▸ xs)++ys) .no]))else none
     |_=>none
    |_=>none
    else none
  |.o t os=>match t.n8 with
   |false=>none
   |true=>if t.sz=es then match arV env y with
    |.own q=>match mem[q]? with
     |some (.arr t1 ys (.cl os1))=>if h1:t1=t then match OS.eqB os1 os with
      |true=>match arV env x with
       |.e0=>gd (decide (ys.length<=LIM)) (κ (.own mem.length) (mem.set q .dead++[.arr t (h1 ▸ ys) (.cl os)]))
       |.own r=>match Nat.beq r q with
        |true=>none
        |false=>match mem[r]? with
         |some (.arr t2 xs (.cl os2))=>if h2:t2=t then match OS.eqB os2 os with
          |true=>gd (decide (xs.length+ys.length<=LIM)) (κ (.own mem.length) ((mem.set r .dead).set q .dead++[.arr t ((h2 ▸ xs)++(h1 ▸ ys)) (.cl os)]))
          |false=>none
          else none
         |_=>none
       |_=>none
      |false=>none
      else none
     |_=>none
    |_=>none
    else none
  |_=>none
 |.eqs op ks x y=>match zzK (arV env x),zzK (arV env y),op with
  |some cs,some ds,.eql=>(zx8 ks cs ds).bind fun b=>κ (.bool b) mem
  |some cs,some ds,.neq=>(zx8 ks cs ds).bind fun b=>κ (.bool (!b)) mem
  |_,_,_=>none
 |.apf es x y=>match an with
  |.t (.lst t)=>match t.n8 with
   |false=>none
   |true=>if t.sz=es then(zuA mem t (arV env y)).bind fun ys=>match arV env x with
    |.e0=>gd (decide (ys.length<=LIM)) (κ (.lst t ys) (mem++[.dead]))
    |.own r=>match mem[r]? with
     |some (.arr t' xs .no)=>if h:t'=t then gd (decide (xs.length+ys.length<=LIM)) (κ (.lst t ((h ▸ xs)++ys)) (mem.set r .dead++[.dead]))else none
     |_=>none
    |_=>none
    else none
  |_=>none
 |.apps x y=>match arV env y with
  |.str s=>match arV env x with
   |.e0=>gd (decide (s.length<=LIM)) (κ (.own mem.length) (mem++[.arr (.int .u8) (s.map zaI) .no]))
   |.own r=>match mem[r]? with
    |some (.arr (.int .u8) xs .no)=>gd (decide (0<xs.length)&&decide (xs.length+s.length<=LIM)) (κ (.own mem.length) (mem.set r .dead++[.arr (.int .u8) (xs++s.map zaI) .no]))
    |_=>none
   |_=>none
  |_=>none
 |.ext x i=>match arV env x with
  |.tup vs=>match vs[i]? with
   |some v=>κ v mem
   |none=>none
  |_=>none
 |.mkfn f caps=>κ (.fn f (caps.map (arV env))) mem
 |.mks es zs l=>match an with
  |.t (.lst t)=>if t.sz=es then match arV env l with
   |.int _ n=>gd (decide (0<=n)&&decide (n<=LIM)) ((zil t (zgq zs)).bind fun z=>κ (.own mem.length) (mem++[.arr t (List.replicate n.toNat z) .no]))
   |_=>none
   else none
  |.o t os=>match dr || !(zvt os 0 (zjq t) (zgq zs))with
   |true=>none
   |false=>if t.sz=es then match arV env l with
    |.int _ n=>gd (decide (0<=n)&&decide (n<=LIM)) ((zwy false os t mem (zgq zs)).bind fun(z,_)=>κ (.own mem.length) (mem++[.arr t (List.replicate n.toNat z) (.cl os)]))
    |_=>none
    else none
  |_=>none
 |.mx b x y=>match arV env x,arV env y with
  |.int k m,.int k' n=>if k=k' then κ (.int k (bif b then max m n else min m n)) mem else none
  |_,_=>none
 |.call _ _|.callv _ _=>none
end
end Go.Fw
namespace Go.Fw
open Go
inductive Sh where
|int (k:IntKind)|bool|str|lst (t:Ty)|st (n:N)|ep (n:N)
|agg (ss:List Sh)|tup (ss:List Sh)|ip (ss:List Sh)
|own (r:Nat)|mpb (r off:Nat)|mpa (r off:Nat)|part (r:Nat)
|fn (f:FuncId)(ss:List Sh)|e0|nl (es:Nat)|nilp|nilf|no
mutual
def Sh.hasD:Sh->Bool
|.int _|.bool|.str|.lst _|.st _|.ep _|.mpa _ _|.part _=>true
|.agg ss|.tup ss|.ip ss|.fn _ ss=>Sh.hasDL ss
|.own _|.mpb _ _|.e0|.nl _|.nilp|.nilf|.no=>false
def Sh.hasDL:List Sh->Bool
|[]=>false
|s:: ss=>s.hasD ||Sh.hasDL ss
end
@[reducible] def DP:Bool->Bool->Type->Type->Type
|true,true,A,B=>A×B
|true,false,A,_=>A
|false,_,_,B=>B
def DP.g1:(a b:Bool)->{A B:Type}->A->DP a b A B->A
|true,true,_,_,_,d=>d.1
|true,false,_,_,_,d=>d
|false,_,_,_,z,_=>z
def DP.g2:(a b:Bool)->{A B:Type}->B->DP a b A B->B
|true,true,_,_,_,d=>d.2
|true,false,_,_,z,_=>z
|false,_,_,_,_,d=>d
def DP.mk:(a b:Bool)->{A B:Type}->A->B->DP a b A B
|true,true,_,_,x,y=>(x,y)
|true,false,_,_,x,_=>x
|false,_,_,_,_,y=>y
mutual
@[reducible] def Dat:Sh->Type
|.int _=>Int|.bool=>Bool|.str=>Str|.lst t=>List (TV t)|.st n=>Nm n|.ep n=>Nm n
|.agg ss=>DatL ss|.tup ss=>DatL ss|.ip ss=>DatL ss
|.own _=>Unit|.mpb _ _=>Unit|.mpa _ _=>Nat|.part _=>Nat×Nat
|.fn _ ss=>DatL ss|.e0=>Unit|.nl _=>Unit|.nilp=>Unit|.nilf=>Unit|.no=>Unit
@[reducible] def DatL:List Sh->Type
|[]=>Unit
|s:: ss=>DP s.hasD (Sh.hasDL ss) (Dat s) (DatL ss)
end
def zCM:(n:N)->Nm n:=fun n=>by cases n<;>exact default
mutual
def df:(s:Sh)->Dat s
|.int _=>(0:Int)|.bool=>false|.str=>([]:List UInt8)|.lst t=>([]:List (TV t))|.st n=>zCM n|.ep n=>zCM n
|.agg ss=>dfL ss|.tup ss=>dfL ss|.ip ss=>dfL ss
|.own _=>()|.mpb _ _=>()|.mpa _ _=>(0:Nat)|.part _=>((0,0):Nat×Nat)
|.fn _ ss=>dfL ss|.e0=>()|.nl _=>()|.nilp=>()|.nilf=>()|.no=>()
def dfL:(ss:List Sh)->DatL ss
|[]=>()
|s:: ss=>DP.mk s.hasD (Sh.hasDL ss) (df s) (dfL ss)
end
mutual
def mkV:(s:Sh)->Dat s->V
|.int k,d=>.int k d|.bool,d=>.bool d|.str,d=>.str d|.lst t,d=>.lst t d|.st n,d=>.st n d|.ep n,d=>.ep n d
|.agg ss,d=>.agg (mkVL ss d)|.tup ss,d=>.tup (mkVL ss d)|.ip ss,d=>.ip (mkVL ss d)
|.own r,_=>.own r|.mpb r off,_=>.mp r 0 off|.mpa r off,d=>.mp r d off|.part r,d=>.part r d.1 d.2
|.fn f ss,d=>.fn f (mkVL ss d)|.e0,_=>.e0|.nl es,_=>.nl es|.nilp,_=>.nilp|.nilf,_=>.nilf|.no,_=>.junk
def mkVL:(ss:List Sh)->DatL ss->List V
|[],_=>[]
|s:: ss,d=>mkV s (DP.g1 s.hasD (Sh.hasDL ss) (df s) d):: mkVL ss (DP.g2 s.hasD (Sh.hasDL ss) (dfL ss) d)
end
def zom:List V->List Ty->List V
|.e0:: cs,.lst t:: ts=>.lst t []:: zom cs ts
|c:: cs,_:: ts=>c:: zom cs ts
|cs,_=>cs
mutual
def zdH:(s:Sh)->V->Option (Dat s)
|.int k,.int k' n=>if k'=k then some n else none
|.bool,.bool b=>some b
|.str,.str b=>some b
|.lst t,v=>match v with
 |.e0=>some []
 |v=>v.toL (.lst t)
|.st n,v=>match v with
 |.agg cs=>zzv n (zom cs (zBe n))
 |v=>v.to (.nm n)
|.ep n,.ep n' x=>if h:n'=n then some (h ▸ x)else none
|.agg ss,.agg cs=>zb2 ss cs
|.tup ss,.tup cs=>zb2 ss cs
|.ip ss,.ip cs=>zb2 ss cs
|.own r,.own r'=>match Nat.beq r r' with|true=>some ()|false=>none
|.mpb r off,.mp r' row off'=>match Nat.beq r r',Nat.beq row 0,Nat.beq off off' with|true,true,true=>some ()|_,_,_=>none
|.mpa r off,.mp r' row off'=>match Nat.beq r r',Nat.beq off off' with|true,true=>some row|_,_=>none
|.part r,.part r' off len=>match Nat.beq r r' with|true=>some (off,len)|false=>none
|.fn f ss,.fn f' cs=>match Nat.beq f f' with|true=>zb2 ss cs|false=>none
|.e0,.e0=>some ()
|.nl es,.nl es'=>match Nat.beq es es' with|true=>some ()|false=>none
|.nilp,.nilp=>some ()
|.nilf,.nilf=>some ()
|.no,_=>some ()
|_,_=>none
def zb2:(ss:List Sh)->List V->Option (DatL ss)
|[],[]=>some ()
|s:: ss,v:: vs=>(zdH s v).bind fun a=>(zb2 ss vs).bind fun b=>some (DP.mk s.hasD (Sh.hasDL ss) a b)
|_,_=>none
end
mutual
def V.refs:V->List Nat
|.own r|.part r _ _|.mp r _ _=>[r]
|.agg cs|.tup cs|.ip cs|.fn _ cs=>V.refsL cs
|.junk|.int _ _|.bool _|.str _|.lst _ _|.nl _|.e0|.st _ _|.ep _ _|.nilp|.nilf=>[]
def V.refsL:List V->List Nat
|[]=>[]
|c:: cs=>c.refs++V.refsL cs
end
mutual
def V.ren(f:Nat->Nat):V->V
|.own r=>.own (f r)|.part r o l=>.part (f r) o l|.mp r a b=>.mp (f r) a b
|.agg cs=>.agg (V.renL f cs)|.tup cs=>.tup (V.renL f cs)|.ip cs=>.ip (V.renL f cs)|.fn g cs=>.fn g (V.renL f cs)
|.junk=>.junk|.int k n=>.int k n|.bool b=>.bool b|.str s=>.str s|.lst t xs=>.lst t xs|.nl es=>.nl es|.e0=>.e0
|.st n x=>.st n x|.ep n x=>.ep n x|.nilp=>.nilp|.nilf=>.nilf
def V.renL(f:Nat->Nat):List V->List V
|[]=>[]
|c:: cs=>c.ren f:: V.renL f cs
end
def memB:Nat->List Nat->Bool
|_,[]=>false
|n,m:: l=>match Nat.beq n m with|true=>true|false=>memB n l
def ziO(l:List Nat)(n:Nat):Nat:=
 match l with
 |[]=>0
 |m:: l=>match Nat.beq m n with|true=>0|false=>ziO l n+1
def zjT(mem:List Root)(r:Nat):List Nat:=
 match mem[r]? with
 |some (.box _ cs)=>V.refsL cs
 |_=>[]
def zcg(mem:List Root):Nat->List Nat->List Nat->List Nat
|0,_,acc=>acc
|_+1,[],acc=>acc
|n+1,r:: l,acc=>match memB r acc with
 |true=>zcg mem n l acc
 |false=>zcg mem n (zjT mem r++l) (acc++[r])
inductive RK where
|dead
|arr (t:Ty)(os:OS)
|box (b:BT)(ss:List Sh)
def RK.sh:RK->Sh
|.dead=>.no
|.arr t _=>.lst t
|.box _ ss=>.agg ss
def Ow.shut:Ow->Bool
|.op _ _ _=>false
|_=>true
def Root.v:Root->V
|.dead=>.junk
|.arr t xs w=>match w.shut with
 |true=>.lst t xs
 |false=>.junk
|.box _ cs=>.agg cs
def zBO(mem:List Root)(r:Nat):Bool:=
 match mem[r]? with
 |some (.box _ _)=>true
 |_=>false
mutual
def zBn(mem:List Root)(f:Nat->Nat):V->Sh
|.junk=>.no|.int k _=>.int k|.bool _=>.bool|.str _=>.str|.lst t _=>.lst t|.nl es=>.nl es|.e0=>.e0
|.st n _=>.st n|.ep n _=>.ep n|.agg cs=>.agg (zsl mem f cs)|.tup cs=>.tup (zsl mem f cs)|.ip cs=>.ip (zsl mem f cs)
|.own r=>.own (f r)|.part r _ _=>.part (f r)|.mp r _ off=>match zBO mem r with|true=>.mpb (f r) off|false=>.mpa (f r) off
|.fn g cs=>.fn g (zsl mem f cs)|.nilp=>.nilp|.nilf=>.nilf
def zsl(mem:List Root)(f:Nat->Nat):List V->List Sh
|[]=>[]
|c:: cs=>zBn mem f c:: zsl mem f cs
end
def zCm:Ty->Sh
|.int k=>.int k|.bool=>.bool|.str=>.str|.lst t=>.lst t|.nm n=>.st n
def zqd(mem:List Root)(f:Nat->Nat):List (Option (Ty×OS))->List V->List Sh
|some (t,_):: ts,.nl _:: cs=>zCm t:: zqd mem f ts cs
|_:: ts,c:: cs=>zBn mem f c:: zqd mem f ts cs
|_,cs=>zsl mem f cs
def zDZ(mem:List Root)(f:Nat->Nat):Root->RK
|.dead=>.dead
|.arr t _ .no=>.arr t .no
|.arr t _ (.cl os)=>.arr t os
|.arr _ _ (.op _ _ _)=>.dead
|.box ts cs=>.box ts (zqd mem f ts.ts cs)
def zD4:Ty->Sh
|.int k=>.int k|.bool=>.bool|.str=>.str|.lst t=>.lst t|.nm n=>.st n
def caseS{α Z γ:Type}(x:α⊕Z)(f:α->γ)(g:Z->γ):γ:=
 match x with
 |.inl a=>f a
 |.inr b=>g b
def zcr{σ J:Type}(b:σ->Option (σ⊕J)):Nat->σ->Option J
|0,_=>none
|n+1,s=>match b s with
 |some (.inl s')=>zcr b n s'
 |some (.inr r)=>some r
 |none=>none
open Classical in
theorem zrc(σ J:Type):∃L:(σ->Option (σ⊕J))->σ->Option J,∀b s,L b s=if h:∃n,(zcr b n s).isSome then zcr b h.choose s else none:=⟨_,fun _ _=>rfl⟩
noncomputable def zaB{σ J:Type}(b:σ->Option (σ⊕J))(s:σ):Option J:=Classical.choose (zrc σ J) b s
open Classical in
theorem zmZ{σ J:Type}(b:σ->Option (σ⊕J))(s:σ):zaB b s=if h:∃n,(zcr b n s).isSome then zcr b h.choose s else none:=Classical.choose_spec (zrc σ J) b s
theorem zuD{α:Type}(x:α):∃y,y=x:=⟨x,rfl⟩
noncomputable def zaC{α:Type}(x:α):α:=Classical.choose (zuD x)
theorem zae{α:Type}(x:α):zaC x=x:=Classical.choose_spec (zuD x)
open Classical in
theorem zt0{α Z:Type}(G:Nat->α->Option Z):∃L:α->Option Z,∀d,L d=if h:∃n,(G n d).isSome then G h.choose d else none:=⟨_,fun _=>rfl⟩
noncomputable def zoI{α Z:Type}(G:Nat->α->Option Z):α->Option Z:=Classical.choose (zt0 G)
open Classical in
theorem ztZ{α Z:Type}(G:Nat->α->Option Z)(d:α):zoI G d=if h:∃n,(G n d).isSome then G h.choose d else none:=Classical.choose_spec (zt0 G) d
theorem zoJ{α Z:Type}{G:Nat->α->Option Z}{d:α}{r:Z}(h:zoI G d=some r):∃n,G n d=some r:=by
 rw[ztZ]at h;split at h
 ·exact⟨_,h⟩
 ·cases h
class Nin where
 nin:Nat
def zhj:Nat->Nat->List Nat
|_,0=>[]
|i,n+1=>i:: zhj (i+1) n
def zxx(mem:List Root)(n:Nat):List Nat:=(zhj 0 n).flatMap (zjT mem)
structure Sig where
 sl:List Nat
 sh:List Sh
 rk:List RK
@[reducible] def Sig.shs (s:Sig):List Sh:=s.sh++s.rk.map RK.sh
@[reducible] def Sig.D (s:Sig):Type:=DatL s.shs
def zc5:RK->V->Root
|.dead,_=>.dead
|.arr t os,.lst t' xs=>if h:t'=t then .arr t (h ▸ xs) (zpc os)else .dead
|.box b _,.agg cs=>.box b cs
|_,_=>.dead
def zfD:List RK->List V->List Root
|k:: ks,v:: vs=>zc5 k v:: zfD ks vs
|_,_=>[]
def zvr:List Nat->List V->List (Nat×V)
|n:: l,v:: vs=>(n,v):: zvr l vs
|_,_=>[]
def Sig.mk'(s:Sig)(cs:List (Nat×V))(d:s.D):TS:=
 ⟨zvr s.sl (mkVL s.shs d)++cs,zfD s.rk ((mkVL s.shs d).drop s.sh.length)⟩
def Sig.mkP(s:Sig)(T:TS)(cs:List (Nat×V))(d:s.D):TS:=
 ⟨zvr s.sl (mkVL s.shs d)++cs,T.mem⟩
mutual
def okE:Sh->V->Bool
|.lst _,.e0=>false
|.st _,.agg _=>false
|.agg ss,.agg cs|.tup ss,.tup cs|.ip ss,.ip cs|.fn _ ss,.fn _ cs=>zsS ss cs
|_,_=>true
def zsS:List Sh->List V->Bool
|s:: ss,c:: cs=>okE s c&&zsS ss cs
|_,_=>true
end
def Sh.isC:Sh->Bool
|.no|.agg _|.tup _|.st _=>false
|_=>true
def RK.okC:RK->Bool
|.box _ ss=>ss.all Sh.isC
|_=>true
def zCo(a b:List Nat):Bool:=a.all fun n=>memB n b
def okW:RK->Option Root->Bool
|.arr _ os,some (.arr _ _ w)=>Ow.eqB w (zpc os)
|.box b _,some (.box b' _)=>match b.mpB,b'.mpB with
 |true,true=>true
 |false,false=>true
 |_,_=>false
|_,_=>true
def zBf(mem:List Root):List RK->List Nat->Bool
|k:: ks,r:: rs=>okW k mem[r]? &&zBf mem ks rs
|_,_=>true
def zs6(mem:List Root)(o:List Nat)(vs:List V):Bool:=zif o&&zCo (V.refsL vs) o&&o.all fun r=>Nat.blt r mem.length&&zCo (zjT mem r) o
def zch(mem:List Root)(r:Nat):V:=((mem[r]?).map Root.v).getD .junk
def Sig.get [Nin](s:Sig)(T:TS):Option s.D:=
 match s.sl.map (lookV T.env)with
 |vs=>match zcg T.mem 200 (V.refsL vs++zxx T.mem Nin.nin) (zhj 0 Nin.nin)with
  |o=>match Nat.beq o.length s.rk.length,zs6 T.mem o vs,zsS (s.rk.map RK.sh) (o.map (zch T.mem))&&s.rk.all RK.okC&&zBf T.mem s.rk o with
   |true,true,true=>zb2 s.shs (V.renL (ziO o) (vs++o.map (zch T.mem)))
   |_,_,_=>none
def Sig.getP(s:Sig)(T:TS):Option s.D:=zb2 s.shs (s.sl.map (lookV T.env))
def zuH [Nin](T:TS)(sl:List Nat)(sh:List Sh):Sig:=
 match zcg T.mem 200 (V.refsL (sl.map (lookV T.env))++zxx T.mem Nin.nin) (zhj 0 Nin.nin)with
 |o=>⟨sl,sh,o.map fun r=>match T.mem[r]? with|some x=>zDZ T.mem (ziO o) x|none=>.dead⟩
def zgs(T:TS)(n:Nat):Bool:=!(lookV T.env n).pur
def zhS(T:TS)(ks:List Nat):List (Nat×V):=(ks.filter fun n=>!(zgs T n)).map fun n=>(n,lookV T.env n)
def zfH(T:TS)(o:List Nat)(n:Nat):Sh:=zBn T.mem (ziO o) (lookV T.env n)
def V.isJ:V->Bool
|.junk=>true
|_=>false
def zuG(tys:List (Nat×An))(T:TS)(o:List Nat)(n:Nat):Sh:=
 match zgs T n&&!(lookV T.env n).isJ with
 |true=>zfH T o n
 |false=>match zt1 tys n with
  |.t t=>zD4 t
  |_=>zfH T o n
end Go.Fw
namespace Go.Fw
open Go
structure TE where
 f:FuncId
 ash:List Sh
 rin:List RK
 rsh:Sh
 rout:List RK
 F:DatL (ash++rin.map RK.sh)->Option (DatL (rsh:: rout.map RK.sh))
mutual
def Sh.flat:Sh->Bool
|.int _|.bool|.str=>true
|.tup ss=>Sh.flatL ss
|_=>false
def Sh.flatL:List Sh->Bool
|[]=>true
|s:: ss=>s.flat&&Sh.flatL ss
end
mutual
def Sh.pur:Sh->Bool
|.own _|.mpb _ _|.mpa _ _|.part _|.no=>false
|.agg ss|.tup ss|.ip ss|.fn _ ss=>Sh.purL ss
|.int _|.bool|.str|.lst _|.st _|.ep _|.e0|.nl _|.nilp|.nilf=>true
def Sh.purL:List Sh->Bool
|[]=>true
|s:: ss=>s.pur&&Sh.purL ss
end
mutual
def Sh.flatO:Sh->Bool
|.int _|.bool|.str|.own _=>true
|.tup ss=>Sh.flatOL ss
|_=>false
def Sh.flatOL:List Sh->Bool
|[]=>true
|s:: ss=>s.flatO&&Sh.flatOL ss
end
def Ty.flat:Ty->Bool
|.int _|.bool|.str=>true
|_=>false
def RK.flat:RK->Bool
|.arr t .no=>t.flat
|.arr _ .all=>true
|_=>false
mutual
def V.view(mem:List Root):V->V
|.own r=>match mem[r]? with
 |some (.arr t xs w)=>match w.shut with
  |true=>.lst t xs
  |false=>.junk
 |_=>.junk
|.part r off len=>match mem[r]? with
 |some (.arr t xs w)=>match w.shut with
  |true=>.lst t ((xs.drop off).take len)
  |false=>.junk
 |_=>.junk
|.agg cs=>.agg (V.viewL mem cs)
|.tup cs=>.tup (V.viewL mem cs)
|v=>v
def V.viewL(mem:List Root):List V->List V
|[]=>[]
|c:: cs=>c.view mem:: V.viewL mem cs
end
def Root.ren(f:Nat->Nat):Root->Root
|.box b cs=>.box b (V.renL f cs)
|r=>r
def zqv(mem:List Root):List Nat->List Root->List Root
|r:: o,x:: l=>zqv (mem.set r x) o l
|_,_=>mem
def ziq(o:List Nat)(n j:Nat):Nat:=
 match Nat.blt j o.length with
 |true=>o.getD j 0
 |false=>n+(j-o.length)
section
variable {J:Type}
def kpT(mem:List Root):List Nat->List Root->Option J->Option J
|r:: o,x:: l,k=>match x,mem[r]? with
 |.dead,_=>kpT mem o l k
 |.box _ _,some (.box _ _)=>kpT mem o l k
 |.arr t' xs' _,some (.arr t xs _)=>if t'=t then gd (decide (xs'.length=xs.length)) (kpT mem o l k)else none
 |_,_=>none
|_,_,k=>k
def zwv(mem:List Root)(o:List Nat)(rout:List RK)(vs:List V)(κ:V->List Root->Option J):Option J:=
 match vs with
 |[]=>none
 |v:: vs=>match(zfD rout vs).map (Root.ren (ziq o mem.length))with
  |rs=>kpT mem o rs (κ (v.ren (ziq o mem.length)) (zqv mem o rs++rs.drop o.length))
def zeU{α:Type}:List α->Bool
|[]=>true
|_=>false
def zyA(e:TE)(args:List V):Bool:=zeU e.rin&&Sh.purL e.ash&&!(V.purL args)&&e.rsh.flatO&&e.rout.all RK.flat
def zee(n:Nat):List V->List (Nat×V)
|[]=>[]
|v:: vs=>(n,v):: zee (n+1) vs
def zhQ(cl:Nat)(f:FuncId)(args:List V)(mem:List Root)(κ:V->List Root->Option J):List TE->Option J
|[]=>none
|e:: Φ=>match Nat.beq e.f f with
 |false=>zhQ cl f args mem κ Φ
 |true=>match zeU e.rin&&zeU e.rout with
  |true=>match V.purL args ||(e.rsh.flat&&Nat.ble 2 cl)with
   |true=>match zb2 (e.ash++e.rin.map RK.sh) (V.viewL mem args)with
    |some d=>zaa (e.F d) fun r=>zwv mem [] e.rout (mkVL (e.rsh:: e.rout.map RK.sh) r) κ
    |none=>zhQ cl f args mem κ Φ
   |false=>zhQ cl f args mem κ Φ
  |false=>match Nat.ble 3 cl&&Nat.beq args.length e.ash.length with
   |false=>none
   |true=>match zyA e args with
    |true=>match zb2 (e.ash++e.rin.map RK.sh) (V.viewL mem args)with
     |some d=>zaa (e.F d) fun r=>zwv mem [] e.rout (mkVL (e.rsh:: e.rout.map RK.sh) r) κ
     |none=>zhQ cl f args mem κ Φ
    |false=>match @Sig.get ⟨0⟩ ⟨zhj 0 e.ash.length,e.ash,e.rin⟩ ⟨zee 0 args,mem⟩with
     |some d=>zaa (e.F d) fun r=>zwv mem (zcg mem 200 (V.refsL args) []) e.rout (mkVL (e.rsh:: e.rout.map RK.sh) r) κ
     |none=>zhQ cl f args mem κ Φ
def zfa(env:List (Nat×V))(d:Option Nat)(v:V):List (Nat×V):=
 match d with
 |some d=>(d,v):: env
 |none=>env
def zzJ(tys:List (Nat×An)):Option Nat->An
|some d=>zt1 tys d
|none=>.no
def zCO(an:An)(Φ:List TE):List TE:=match an with
|.o _ _=>Φ.filter fun e=>!(zeU e.rout)
|_=>Φ
def opT(Φ:List TE)(tys:List (Nat×An))(dr:Bool)(cl:Nat)(d:Option Nat)(k:K)(env:List (Nat×V))(mem:List Root)(κ:V->List Root->Option J):Option J:=
 match k with
 |.call f xs=>match dr,d with
  |true,none=>none
  |true,some _=>zhQ cl f (xs.map (arV env)) mem κ Φ
  |false,d=>zhQ cl f (xs.map (arV env)) mem κ (zCO (zzJ tys d) Φ)
 |.callv y xs=>match dr,d with
  |true,none=>none
  |_,_=>match arV env y with
   |.fn f caps=>match Nat.beq f ERR with
    |false=>zhQ cl (fnum f) (fargs f (xs.map (arV env)) caps) mem κ Φ
    |true=>none
   |_=>none
 |k=>evT dr (zzJ tys d) k env mem κ
structure Dn where
 n:Nat
 rd:List Nat
 wr:List Nat
 gs:List (Nat×Nat)
def zvG(D:Dn)(k:K)(env:List (Nat×V)):Nat:=
 match k with
 |.load _ x=>match arV env x with
  |.ip _=>0
  |.ep _ _=>0
  |.mp r _ _=>match Nat.blt r D.n&&!(memB r D.wr)with
   |true=>1
   |false=>2
  |_=>2
 |.mlk _ _=>2
 |.mmk|.mup _ _ _=>4
 |.b2s x=>match arV env x with
  |.lst _ _=>0
  |.nl _=>0
  |.e0=>0
  |_=>2
 |.boxm _ _|.alloc _|.buildo _ _ _ _|.bslm _ _|.store _ _ _|.app _ _ _|.apps _ _|.apf _ _ _|.mks _ _ _=>3
 |_=>0
def wrT(k:K)(env:List (Nat×V)):Option Nat:=
 match k with
 |.store _ a _=>match arV env a with
  |.mp r _ _=>some r
  |_=>none
 |.app _ x _|.apps x _|.apf _ x _=>match arV env x with
  |.own r=>some r
  |.part r _ _=>some r
  |_=>none
 |.mup m _ _=>match arV env m with
  |.own r=>some r
  |_=>none
 |_=>none
def rdT(k:K)(env:List (Nat×V)):Option Nat:=
 match k with
 |.load _ x=>match arV env x with
  |.mp r _ _=>some r
  |_=>none
 |_=>none
def zg4(mem:List Root)(r:Nat):Bool:=
 match mem[r]? with
 |none=>false
 |some .dead=>false
 |some _=>true
def crT(cl:Nat)(k:K)(env:List (Nat×V))(mem:List Root):List Nat:=
 match Nat.beq cl 3 with
 |false=>[]
 |true=>match k with
  |.call _ xs=>zcg mem 200 (V.refsL (xs.map (arV env))) []
  |.callv y xs=>match arV env y with
   |.fn f caps=>zcg mem 200 (V.refsL (fargs f (xs.map (arV env)) caps)) []
   |_=>[]
  |_=>[]
def zsa:List (Nat×Nat)->Nat->Option Nat
|[],_=>none
| (m,v):: r,n=>match Nat.beq m n with
 |true=>some v
 |false=>zsa r n
def zBc(D:Dn)(cl:Nat)(k:K)(env:List (Nat×V)):Bool:=
 match k with
 |.store _ _ _=>match wrT k env with
  |some r=>match zsa D.gs r with
   |none=>true
   |some c=>Nat.beq c cl
  |none=>false
 |_=>false
def okT(dr:Bool)(D:Dn)(cl:Nat)(k:K)(env:List (Nat×V))(mem:List Root):Bool:=
 !dr ||(Nat.ble (zvG D k env) cl&&(match rdT k env with
  |some r=>zg4 mem r
  |none=>true)&&(Nat.beq cl 4 ||(match wrT k env with
  |some r=>!(memB r D.rd)&&zg4 mem r
  |none=>true))&&(!(Nat.ble 5 cl) ||zBc D cl k env)&&(crT cl k env mem).all fun r=>!(memB r D.rd))
def zyR(dr:Bool)(D:Dn)(cl:Nat)(k:K)(env:List (Nat×V)):Dn:=
 match dr with
 |false=>D
 |true=>⟨D.n,match Nat.ble cl 1,rdT k env with
  |true,some r=>r:: D.rd
  |_,_=>D.rd,match Nat.beq cl 4,wrT k env with
  |false,some r=>r:: D.wr
  |_,_=>D.wr,match Nat.ble 5 cl,wrT k env with
  |true,some r=>(r,cl):: D.gs
  |_,_=>D.gs⟩
def zb0(dr:Bool)(D:Dn)(cl:Nat)(k:K)(env:List (Nat×V))(mem:List Root):Dn:=
 match zyR dr D cl k env with
 |D'=>match dr with
  |false=>D'
  |true=>⟨D'.n,D'.rd,crT cl k env mem++D'.wr,D'.gs⟩
def zgn(dr:Bool)(D:Dn)(mem m:List Root):Bool:=!dr ||((zhj 0 D.n).all (fun r=>!(zg4 m r) ||zg4 mem r)&&D.rd.all (zg4 m)&&D.gs.all fun p=>zg4 m p.1)
def clD(dr:Bool)(cls:List Nat):Nat:=
 match dr with
 |true=>cls.headD 0
 |false=>4
def zjs(Φ:List TE)(tys:List (Nat×An))(dr:Bool):Dn->List COp->List Nat->TS->(TS->Option J)->Option J
|_,[],_,T,κ=>κ T
|D,.mk d g k:: l,cls,T,κ=>
 match g with
 |none=>match okT dr D (cls.headD 0) k T.env T.mem with
  |true=>opT Φ tys dr (clD dr cls) d k T.env T.mem fun v m=>match zgn dr (zb0 dr D (cls.headD 0) k T.env T.mem) T.mem m with
   |true=>zjs Φ tys dr (zb0 dr D (cls.headD 0) k T.env T.mem) l cls.tail ⟨zfa T.env d v,m⟩ κ
   |false=>none
  |false=>none
 |some (t,bb)=>match lookV T.env t with
  |.bool x=>match bb with
   |true=>zab x
    (match okT dr D (cls.headD 0) k T.env T.mem with
     |true=>opT Φ tys dr (clD dr cls) d k ((t,.bool true):: T.env) T.mem fun v m=>match zgn dr (zb0 dr D (cls.headD 0) k T.env T.mem) T.mem m with
      |true=>zjs Φ tys dr (zb0 dr D (cls.headD 0) k T.env T.mem) l cls.tail ⟨zfa ((t,.bool true):: T.env) d v,m⟩ κ
      |false=>none
     |false=>none)
    (zjs Φ tys dr D l cls.tail ⟨zfa ((t,.bool false):: T.env) d (.tup []),T.mem⟩ κ)
   |false=>zab x (zjs Φ tys dr D l cls.tail ⟨zfa ((t,.bool true):: T.env) d (.tup []),T.mem⟩ κ)
    (match okT dr D (cls.headD 0) k T.env T.mem with
     |true=>opT Φ tys dr (clD dr cls) d k ((t,.bool false):: T.env) T.mem fun v m=>match zgn dr (zb0 dr D (cls.headD 0) k T.env T.mem) T.mem m with
      |true=>zjs Φ tys dr (zb0 dr D (cls.headD 0) k T.env T.mem) l cls.tail ⟨zfa ((t,.bool false):: T.env) d v,m⟩ κ
      |false=>none
     |false=>none)
  |.tup []=>zjs Φ tys dr D l cls.tail ⟨zfa T.env d (.tup []),T.mem⟩ κ
  |_=>none
def zCK:List COp->Bool
|[]=>false
|.mk _ (some _) _:: _=>true
|.mk _ none _:: l=>zCK l
def zhT:List COp->List Nat
|[]=>[]
|.mk (some d) _ _:: l=>d:: zhT l
|.mk none _ _:: l=>zhT l
def zg7(f:FuncId):List TE->Bool
|[]=>true
|e:: Φ=>match Nat.beq e.f f with
 |true=>zeU e.rin&&zeU e.rout&&zg7 f Φ
 |false=>zg7 f Φ
def zg8(Φ:List TE):K->Bool
|.boxm _ _|.alloc _|.buildo _ _ _ _|.bslm _ _|.store _ _ _|.app _ _ _|.apps _ _|.apf _ _ _|.mks _ _ _|.bsl0|.mv (.c .e0)|.callv _ _|.mmk|.mup _ _ _=>false
|.call f _=>zg7 f Φ
|_=>true
def zaM(Φ:List TE):List COp->Bool
|[]=>true
|.mk _ _ k:: l=>zg8 Φ k&&zaM Φ l
def zbG(Φ:List TE):CC->Bool
|.skip|.exit _|.ret=>true
|.reg _ ops|.regd _ _ _ _ ops=>zaM Φ ops
|.seq a b|.cond _ a b=>zbG Φ a&&zbG Φ b
|.block _ b|.loop b|.join b|.lp _ _ _ _ b|.jn _ _ _ b=>zbG Φ b
|.frz _ _ _|.own _ _ _=>false
def zdU [Nin](pure:Bool)(tys:List (Nat×An))(T:TS)(st ks:List Nat):Sig:=
 match pure with
 |true=>⟨st,st.map (zuG tys T []),[]⟩
 |false=>match st++ks.filter (zgs T)with
  |sl=>match zcg T.mem 200 (V.refsL (sl.map (lookV T.env))++zxx T.mem Nin.nin) (zhj 0 Nin.nin)with
   |o=>zuH T sl (st.map (zuG tys T o)++(ks.filter (zgs T)).map (zfH T o))
def zzr(T:TS)(ks:List Nat)(T':TS):Bool:=ks.all fun n=>(lookV T.env n).isJ || !(lookV T'.env n).isJ
def zpN [Nin](pure:Bool)(s:Sig)(T:TS)(ks:List Nat)(T':TS):Option s.D:=
 match zzr T ks T' with
 |true=>match pure with
  |true=>s.getP T'
  |false=>s.get T'
 |false=>none
def mkJ(pure:Bool)(s:Sig)(T:TS)(st ks:List Nat)(d:s.D):TS:=
 match pure with
 |true=>s.mkP T (ks.map fun n=>(n,lookV T.env n)) d
 |false=>s.mk' (zhS T ks) d
def fzV(mem:List Root)(o:List Nat):Nat->V->V
|0,_=>.junk
|_+1,.own r=>match memB r o,mem[r]? with
 |true,some (.arr t xs w)=>match w.shut with
  |true=>.lst t xs
  |false=>.junk
 |_,_=>.own r
|_+1,.part r off len=>match memB r o,mem[r]? with
 |true,some (.arr t xs w)=>match w.shut with
  |true=>.lst t ((xs.drop off).take len)
  |false=>.junk
 |_,_=>.part r off len
|n+1,.mp r row off=>match memB r o,mem[r]? with
 |true,some (.box b cs)=>match cs.map fun c=>fzV mem o n c with
  |cs'=>match !b.mpB&&V.purL cs' with
   |false=>.junk
   |true=>match b.nm,Nat.beq off 0 with
    |some nm,true=>match zzv nm cs' with
     |some x=>.ep nm x
     |none=>.ip cs'
    |_,_=>.ip (cs'.drop off)
 |true,some _=>.junk
 |_,_=>.mp r row off
|n+1,.agg cs=>.agg (cs.map fun c=>fzV mem o n c)
|n+1,.tup cs=>.tup (cs.map fun c=>fzV mem o n c)
|n+1,.ip cs=>.ip (cs.map fun c=>fzV mem o n c)
|n+1,.fn f cs=>.fn f (cs.map fun c=>fzV mem o n c)
|_+1,v=>v
def zpa(mem:List Root)(o:List Nat)(n:Nat)(cs:List V):List V:=cs.map fun c=>fzV mem o n c
def fzB(b:BT)(cs:List V)(mem:List Root)(o:List Nat):Root:=
 match b.mpB with
 |true=>.box b cs
 |false=>match(zpa mem o 60 cs).all V.isC with
  |true=>.box b (zpa mem o 60 cs)
  |false=>.dead
def fzA(t:Ty)(xs:List (TV t))(os:OS)(j:Nat)(cs:List V):Root:=
 match cs.all V.isC with
 |true=>.arr t xs (.op os j cs)
 |false=>.dead
def fzR(mem:List Root)(o:List Nat):Nat->List Root->List Root
|_,[]=>[]
|i,r:: l=>(match memB i o with
 |true=>.dead
 |false=>match r with
  |.box b cs=>fzB b cs mem o
  |.arr t xs (.op os j cs)=>fzA t xs os j (zpa mem o 60 cs)
  |r=>r):: fzR mem o (i+1) l
def fzW(mem:List Root)(o:List Nat)(v:V):V:=
 match v.pur with
 |true=>v
 |false=>fzV mem o 60 v
def fzO(o:List Nat)(T:TS):TS:=⟨T.env.map fun p=>(p.1,fzW T.mem o p.2),fzR T.mem o 0 T.mem⟩
def fzT(n:Nat)(T:TS):TS:=
 match(lookV T.env n).pur with
 |true=>T
 |false=>fzO (zcg T.mem 200 (lookV T.env n).refs []) T
def ziR{α:Type}:List (Nat×α)->Nat->Option α
|[],_=>none
| (m,v):: r,n=>match Nat.beq m n with
 |true=>some v
 |false=>ziR r n
def zqM(mem:List Root)(r:Nat):List Root:=
 match mem[r]? with
 |some (.arr t xs (.op os j cs))=>match zwy false os t (mem.set r .dead) cs with
  |some (x,m)=>m.set r (.arr t (xs.set j x) (.cl os))
  |none=>mem
 |_=>mem
def fiC(mem:List Root)(r:Nat):List Root:=
 match mem[r]? with
 |some (.arr t xs (.cl _))=>mem.set r (.arr t xs .no)
 |_=>mem
def fi1(mem:List Root)(r:Nat):List Root:=
 match mem[r]? with
 |some (.arr t xs (.cl _))=>mem.set r (.arr t xs .no)
 |some (.arr t xs (.op _ j cs))=>fiC (zqM (mem.set r (.arr t xs (.op .no j cs))) r) r
 |_=>mem
def fiL(mem:List Root):List Nat->List Root
|[]=>mem
|r:: o=>fiL (fi1 mem r) o
def fiT(n:Nat)(T:TS):TS:=⟨T.env,fiL T.mem (zcg T.mem 200 (lookV T.env n).refs [])⟩
def owB(n:Nat)(T:TS):TS:=
 match lookV T.env n with
 |.mp r _ _=>match T.mem[r]? with
  |some (.box b cs)=>match b.mpB with
   |true=>T
   |false=>match owns T.mem.length cs b.ts with
    | (cs',m)=>⟨T.env,T.mem.set r (.box b cs')++m⟩
  |_=>T
 |_=>T
def zz4(n j:Nat)(T:TS):TS:=
 match lookV T.env n with
 |.mp b _ _=>match T.mem[b]? with
  |some (.box bt cs)=>match bt.mpB with
   |false=>match cs[j]? with
    |some (.part r 0 k)=>match T.mem[r]? with
     |some (.arr t xs .no)=>⟨T.env,((T.mem++[Root.arr t (xs.take k) .no]).set r .dead).set b (.box bt (cs.set j (.own T.mem.length)))⟩
     |_=>T
    |_=>T
   |true=>T
  |_=>T
 |_=>T
def zwn{J:Type}(r i:Nat)(T:TS)(κ:TS->Option J):Option J:=
 match T.mem[r]? with
 |some (.arr t xs (.cl os))=>zaa xs[i]? fun v=>match opn os 0 T.mem.length (leafs t v)with
  | (cs,m)=>κ ⟨T.env,T.mem.set r (.arr t xs (.op os i cs))++m⟩
 |_=>κ T
def zAw(mem:List Root)(r:Nat):List Nat:=
 match mem[r]? with
 |some (.arr _ _ (.op _ _ cs))=>V.refsL cs
 |_=>[]
def zxl:List Nat->List Nat->Bool
|[],_=>false
|n:: l,m=>memB n m ||zxl l m
def zn2(refs:List Nat):Nat->List Root->List Root
|0,mem=>mem
|n+1,mem=>zn2 refs n (match zxl (zAw mem n) refs with
 |true=>mem
 |false=>zqM mem n)
def zlA:List Root->Bool
|[]=>false
|.arr _ _ (.op _ _ _):: _=>true
|_:: l=>zlA l
def zka:List Root->List Nat
|[]=>[]
|.box _ cs:: l=>V.refsL cs++zka l
|_:: l=>zka l
def endT(keep:List Nat)(T:TS):TS:=
 ⟨keep.map fun n=>(n,lookV T.env n),match zlA T.mem with
  |false=>T.mem
  |true=>match V.refsL (keep.map (lookV T.env))++zka T.mem with
   |refs=>zn2 refs T.mem.length (zn2 refs T.mem.length T.mem)⟩
def zbA(Φ:List TE)(c:CC)(T:TS):Bool:=zbG Φ c&&noOw T.mem
def dnT(T:TS):Dn:=⟨T.mem.length,[],[],[]⟩
def zzT [Nin](Φ:List TE)(tys:List (Nat×An))(dr:Bool)(keep cls:List Nat)(ops:List COp)(T:TS)(kn:TS->Option J):Option J:=
 match zCK ops&&!(memB 9999999 keep)with
 |false=>zjs Φ tys dr (dnT T) ops cls T fun T'=>kn (endT keep T')
 |true=>match zhT ops with
  |ds=>match keep.filter (fun n=>memB n ds),keep.filter (fun n=>!(memB n ds))with
   |st,ks=>match zaM Φ ops&&noOw T.mem with
    |p=>match zdU p tys T st ks with
     |s=>zaa (zjs Φ tys dr (dnT T) ops cls T fun T'=>zpN p s T ks (endT keep T')) fun d=>kn (mkJ p s T st ks d)
end
def wrC:CC->List Nat
|.skip|.exit _|.ret=>[]
|.reg _ ops|.regd _ _ _ _ ops=>zhT ops
|.seq a b|.cond _ a b=>wrC a++wrC b
|.block _ b|.loop b|.join b|.frz _ _ b|.own _ _ b=>wrC b
|.lp _ _ st _ b|.jn _ st _ b=>st++wrC b
def zBU(ks:List Nat)(w:List Nat):Bool:=ks.all fun n=>!(memB n w)
noncomputable def zgo [Nin](Φ:List TE)(tys:List (Nat×An)):CC->(J:Type)->TS->List (Nat×(TS->Option J))->(TS->Option J)->(TS->Option J)->Option J
|.skip,_,T,_,_,kn=>kn T
|.reg keep ops,_,T,_,_,kn=>zzT Φ tys false keep [] ops T kn
|.regd keep _ _ cls ops,_,T,_,_,kn=>zzT Φ tys true keep cls ops T kn
|.seq a b,J,T,ex,rt,kn=>zgo Φ tys a J T ex rt fun T'=>zgo Φ tys b J T' ex rt kn
|.cond c a b,J,T,ex,rt,kn=>match arV T.env c with
 |.bool x=>zab x (zgo Φ tys a J T ex rt kn) (zgo Φ tys b J T ex rt kn)
 |_=>none
|.block id b,J,T,ex,rt,kn=>zgo Φ tys b J T ((id,kn):: ex) rt kn
|.exit id,_,T,ex,_,_=>match ziR ex id with
 |some κ=>κ T
 |none=>none
|.ret,_,T,_,rt,_=>rt T
|.loop _,_,_,_,_,_=>none
|.join b,J,T,ex,rt,kn=>zgo Φ tys b J T ex rt kn
|.own _ _ b,J,T,ex,rt,kn=>zgo Φ tys b J T ex rt kn
|.frz n es b,J,T,ex,rt,kn=>match Nat.ble 1000 es with
 |false=>zgo Φ tys b J (fzT n T) ex rt kn
 |true=>match Nat.ble 2000 es with
  |true=>match lookV T.env n,lookV T.env (es-2000)with
   |.own r,.int _ i=>zwn r i.toNat T fun T1=>zwn T.mem.length 0 T1 fun T2=>zgo Φ tys b J T2 ex rt kn
   |_,_=>none
  |false=>match Nat.beq es 1001 with
   |true=>zgo Φ tys b J (owB n T) ex rt kn
   |false=>match Nat.ble 1100 es with
    |true=>zgo Φ tys b J (zz4 n (es-1100) T) ex rt kn
    |false=>zgo Φ tys b J (fiT n T) ex rt kn
|.jn r st ks b,J,T,ex,rt,kn=>match zBU ks (st++wrC b)with
 |false=>none
 |true=>match zbA Φ b T with
  |p=>match zdU p tys T st ks with
   |s=>match r with
    |false=>zaa (zgo Φ tys b s.D T [] (fun _=>none) (zpN p s T ks)) fun d=>kn (mkJ p s T st ks d)
    |true=>zaa (zgo Φ tys b (s.D⊕J) T (ex.map fun q=>(q.1,fun T'=>zaa (q.2 T') fun x=>some (.inr x))) (fun T'=>zaa (rt T') fun x=>some (.inr x)) (fun T'=>(zpN p s T ks T').bind fun d=>some (.inl d))) fun x=>caseS x (fun d=>kn (mkJ p s T st ks d)) (fun x=>some x)
|.lp r id st ks b,J,T,ex,rt,kn=>match ziR ex id with
 |none=>none
 |some κ=>match zBU ks (st++wrC b)with
  |false=>none
  |true=>match zbA Φ b T with
   |p=>match zdU p tys T st ks with
    |s=>(zpN p s T ks T).bind fun d0=>match r with
     |false=>zaa (zaB (fun d:s.D=>zgo Φ tys b (s.D⊕s.D) (mkJ p s T st ks d) [(id,fun T'=>(zpN p s T ks T').bind fun d=>some (.inr d))] (fun _=>none) (fun T'=>(zpN p s T ks T').bind fun d=>some (.inl d))) d0) fun d=>κ (mkJ p s T st ks d)
     |true=>zaa (zaB (fun d:s.D=>zgo Φ tys b (s.D⊕(s.D⊕J)) (mkJ p s T st ks d) ((id,fun T'=>(zpN p s T ks T').bind fun d=>some (.inr (.inl d))):: ex.map fun q=>(q.1,fun T'=>zaa (q.2 T') fun x=>some (.inr (.inr x))))
      (fun T'=>zaa (rt T') fun x=>some (.inr (.inr x))) (fun T'=>(zpN p s T ks T').bind fun d=>some (.inl d))) d0) fun x=>
      caseS x (fun d=>κ (mkJ p s T st ks d)) (fun x=>some x)
def zc7(ash:List Sh)(rin:List RK)(d:DatL (ash++rin.map RK.sh)):TS:=
 match mkVL (ash++rin.map RK.sh) d with
 |vs=>⟨zee 0 (vs.take ash.length),zfD rin (vs.drop ash.length)⟩
def zdE(T:TS):RV->V
|.t n=>lookV T.env n
|.c n none=>match lookV T.env n with
 |.mp r _ off=>match T.mem[r]? with
  |some (.box b cs)=>match b.mpB,cs[off]? with
   |false,some c=>c
   |_,_=>.junk
  |_=>.junk
 |.ip (c:: _)=>c
 |_=>.junk
|.c n (some k)=>match lookV T.env n with
 |.mp r _ off=>match T.mem[r]? with
  |some (.box b cs)=>match b.mpB,Nat.ble (off+k) cs.length with
   |false,true=>.agg ((cs.drop off).take k)
   |_,_=>.junk
  |_=>.junk
 |.ep n x=>match Nat.beq k n.sz with
  |true=>.st n x
  |false=>.junk
 |.ip cs=>match Nat.ble k cs.length with
  |true=>.agg (cs.take k)
  |false=>.junk
 |_=>.junk
def zpd:List V->V
|[v]=>v
|vs=>.tup vs
mutual
def zCP:Sh->V->List Nat
|.agg ss,.agg cs|.tup ss,.tup cs=>zze ss cs
|.own _,_|.part _,_|.mpb _ _,_|.mpa _ _,_|.no,_=>[]
|_,v=>v.refs
def zze:List Sh->List V->List Nat
|s:: ss,c:: cs=>zCP s c++zze ss cs
|_,_=>[]
end
def zBm(mem:List Root):Nat->List RK->List Nat
|_,[]=>[]
|j,.box _ ss:: l=>match mem[j]? with
 |some (.box _ cs)=>zze ss cs++zBm mem (j+1) l
 |_=>zBm mem (j+1) l
|j,_:: l=>zBm mem (j+1) l
def rnm(j n r:Nat):Nat:=match Nat.beq r j with
|true=>n
|false=>r
def mvR(j:Nat)(v:V)(mem:List Root):V×List Root:=
 match mem[j]? with
 |none=>(v,mem)
 |some .dead=>(v,mem)
 |some x=>match zlA mem with
  |true=>(v,mem)
  |false=>(v.ren (rnm j mem.length),(mem.set j .dead++[x]).map (Root.ren (rnm j mem.length)))
def mvRs:Nat->List RK->V->List Root->V×List Root
|_,[],v,mem=>(v,mem)
|j,.dead:: ks,v,mem=>match mvR j v mem with
 | (v',mem')=>mvRs (j+1) ks v' mem'
|j,_:: ks,v,mem=>mvRs (j+1) ks v mem
def zBb(rsh:Sh)(rout:List RK) [Nin](v:V)(mem:List Root):Option (DatL (rsh:: rout.map RK.sh)):=
 match mvRs 0 (rout.take Nin.nin) v mem with
 | (v',mem')=>Sig.get ⟨[0],[rsh],rout⟩ ⟨[(0,v')],mem'⟩
def zzM [Nin](rs:List RV)(rsh:Sh)(rout:List RK)(T:TS):Option (DatL (rsh:: rout.map RK.sh)):=
 match zeU rout with
 |true=>match fzO (zhj 0 T.mem.length) T with
  |T1=>zb2 (rsh:: rout.map RK.sh) [zpd (rs.map (zdE T1))]
 |false=>match zcg T.mem 200 (zCP rsh (zpd (rs.map (zdE T)))++zBm T.mem 0 (rout.take Nin.nin)) []with
  |[]=>zBb rsh rout (zpd (rs.map (zdE T))) T.mem
  |o=>match fzO o T with
   |T1=>zBb rsh rout (zpd (rs.map (zdE T1))) T1.mem
def zo0(ash:List Sh)(rin rout:List RK)(d:DatL (ash++rin.map RK.sh)):TS:=
 match zc7 ash rin d with
 |T=>match mvRs 0 (rout.take rin.length) (.tup (T.env.map fun p=>p.2)) T.mem with
  | (.tup vs,mem)=>⟨zee 0 vs,mem⟩
  |_=>T
noncomputable def zei(Φ:List TE)(tys:List (Nat×An))(c:CC)(rs:List RV)(ash:List Sh)(rin:List RK)(rsh:Sh)(rout:List RK)(d:DatL (ash++rin.map RK.sh)):Option (DatL (rsh:: rout.map RK.sh)):=
 @zgo ⟨rin.length⟩ Φ tys c (DatL (rsh:: rout.map RK.sh)) (zo0 ash rin rout d) [] (@zzM ⟨rin.length⟩ rs rsh rout) (@zzM ⟨rin.length⟩ rs rsh rout)
end Go.Fw
namespace Go.Fw
open Go
def zzt:AV->AV
|.str s=>.str s
|_=>.junk
def zsR:List AV->List (AV×AV)
|[.sl _ rows]=>rows.map fun r=>(zzt (r.headD .junk),zzt (r.getD 1 .junk))
|_=>[]
theorem zwP(g:Nat->Nat)(a:AV):(zzt a).ren g=zzt a:=by cases a<;>simp[zzt,AV.ren]
theorem zwg(g:Nat->Nat):∀as:List AV,zsR (as.map (AV.ren g))=(zsR as).map fun e=>(e.1.ren g,e.2.ren g)
|[]=>rfl
|[a]=>by cases a<;>simp[zsR,AV.ren,zwP]
|a:: b:: l=>by cases a<;>simp[zsR,AV.ren]
def boxE(b:BT)(n:Nat)(as:List AV):Ent:=match b.mpB with
|true=>.mp (zsR as)
|false=>.arr n [as]
theorem znX(b:BT)(n:Nat)(as:List AV):(boxE b n as).live=true:=by unfold boxE;split<;>rfl
theorem zbQ{b:BT}(h:b.mpB=false)(n:Nat)(as:List AV):boxE b n as=.arr n [as]:=by unfold boxE;rw[h]
theorem zph{b:BT}(h:b.mpB=true)(n:Nat)(as:List AV):boxE b n as=.mp (zsR as):=by unfold boxE;rw[h]
theorem zqI(g:Nat->Nat)(b:BT)(n:Nat)(as:List AV):(boxE b n as).ren g=boxE b n (as.map (AV.ren g)):=by
 unfold boxE;cases b.mpB with
 |true=>simp only[Ent.ren,zwg]
 |false=>simp only[Ent.ren,List.map_cons,List.map_nil]
theorem zrz(n:Nat)(a:AV):(zzt a).bel n=true:=by cases a<;>simp[zzt,AV.bel]
theorem zvB{n:Nat}{as:List AV}(h:∀c∈as,c.bel n=true)(b:BT)(k:Nat):(boxE b k as).bel n:=by
 unfold boxE;cases b.mpB with
 |true=>
  show(Ent.mp (zsR as)).bel n;intro e he;match as,he with
  |[a],he=>cases a<;>simp[zsR]at he;obtain⟨r,_,rfl⟩:=he;exact⟨zrz n _,zrz n _⟩
  |[],he=>simp[zsR]at he
  |a:: b:: l,he=>cases a<;>simp[zsR]at he
 |false=>intro row hrow c hc;simp only[List.mem_singleton]at hrow;subst hrow;exact h c hc
theorem zrE{b b':BT}(h:b.mpB=b'.mpB)(n:Nat)(as:List AV):boxE b n as=boxE b' n as:=by unfold boxE;rw[h]
def zep(J:Nat->Nat)(mem:List Root)(r:Nat)(a:AV):Prop:=
 match mem[r]? with
 |some (.arr t xs _)=>a=.ms (J r) t.sz 0 xs.length
 |some (.box _ _)=>a=.mapr (J r)
 |some .dead=>(∃i es o l,a=.ms i es o l)\/∃i,a=.mapr i
 |none=>False
def zgr(J:Nat->Nat)(mem:List Root)(r off len:Nat)(a:AV):Prop:=
 match mem[r]? with
 |some (.arr t xs _)=>a=.ms (J r) t.sz off len/\off+len<=xs.length
 |some _=>∃i es o l,a=.ms i es o l
 |none=>False
def mpR(J:Nat->Nat)(mem:List Root)(r row off:Nat)(a:AV):Prop:=
 match mem[r]? with
 |some (.arr _ _ _)=>a=.mp (J r) row off
 |some (.box _ _)=>a=.mp (J r) 0 off/\row=0
 |some .dead=>∃i q o,a=.mp i q o
 |none=>False
mutual
def VR(J:Nat->Nat)(mem:List Root):V->AV->Prop
|.junk,_=>True
|.int k n,a=>a=.int k n
|.bool b,a=>a=.bool b
|.str s,a=>a=.str s
|.lst t xs,a=>a=.sl t.sz (xs.map (zap t))
|.nl es,a=>a=.sl es []
|.e0,a=>a=.e0
|.st n x,a=>a=.agg (zdI n x)
|.agg cs,a=>∃as,a=.agg as/\VRL J mem cs as
|.tup cs,a=>∃as,a=.tup as/\VRL J mem cs as
|.ep n x,a=>a=.ip (zdI n x)
|.ip cs,a=>∃as,a=.ip as/\VRL J mem cs as
|.own r,a=>zep J mem r a
|.part r off len,a=>zgr J mem r off len a
|.mp r row off,a=>mpR J mem r row off a
|.fn f cs,a=>∃as,a=.fn f as/\VRL J mem cs as
|.nilp,a=>a=.nilp
|.nilf,a=>a=.nilf
def VRL(J:Nat->Nat)(mem:List Root):List V->List AV->Prop
|[],as=>as=[]
|c:: cs,as=>∃a as',as=a:: as'/\VR J mem c a/\VRL J mem cs as'
end
def Root.alive:Root->Bool
|.dead=>false
|.arr _ _ _=>true
|.box _ _=>true
mutual
inductive OwC (sm:List Ent):Option OS->V->AV->List Nat->Prop
|leaf {v a}(hp:v.pur=true)(h:VR id [] v a):OwC sm none v a []
|other {o v a}(hl:v.isLst=false)(hp:v.pur=true)(h:VR id [] v a):OwC sm (some o) v a []
|own {o t xs i rows fp}(hi:sm[i]? =some (.arr t.sz rows))(h:OwRs sm o t xs rows fp):OwC sm (some o) (.lst t xs) (.ms i t.sz 0 xs.length) (i:: fp)
inductive OwCs (sm:List Ent):OS->Nat->List V->List AV->List Nat->Prop
|nil {os off}:OwCs sm os off [] [] []
|cons {os off v vs a as fp fp'}(h:OwC sm (os.sub off) v a fp)(hs:OwCs sm os (off+1) vs as fp'):OwCs sm os off (v:: vs) (a:: as) (fp++fp')
inductive OwRs (sm:List Ent):OS->(t:Ty)->List (TV t)->List (List AV)->List Nat->Prop
|nil {os t}:OwRs sm os t [] [] []
|cons {os t x xs row rows fp fp'}(h:OwCs sm os 0 (leafs t x) row fp)(hs:OwRs sm os t xs rows fp'):OwRs sm os t (x:: xs) (row:: rows) (fp++fp')
end
def ArrR(J:Nat->Nat)(mem:List Root)(sm:List Ent)(t:Ty)(xs:List (TV t)):Ow->Nat->List Nat->Prop
|.no,i,fp=>sm[i]? =some (.arr t.sz (xs.map (zap t)))/\fp=[]
|.cl os,i,fp=>∃rows,sm[i]? =some (.arr t.sz rows)/\OwRs sm os t xs rows fp
|.op os j cs,i,fp=>∃pre x post rpre row rpost fp1 fp2,xs=pre++x:: post/\j=pre.length/\sm[i]? =some (.arr t.sz (rpre++row:: rpost))/\rpre.length=j/\OwRs sm os t pre rpre fp1/\OwRs sm os t post rpost fp2/\fp=fp1++fp2/\
 VRL J mem cs row/\cs.length=t.sz/\cs.all V.isC=true
structure OwA (J:Nat->Nat)(mem:List Root)(sm:List Ent)(fp:Nat->List Nat):Prop where
 rel:∀(r:Nat) t xs w,mem[r]? =some (.arr t xs w)->ArrR J mem sm t xs w (J r) (fp r)
 nil:∀(r:Nat),(∀t xs w,mem[r]?≠some (.arr t xs w))->fp r=[]
 nd:∀(r:Nat),(fp r).Nodup
 dj:∀(r r':Nat),r≠r'->∀i∈fp r,i∉fp r'
 rt:∀(r r':Nat) x,mem[r]? =some x->x.alive=true->J r∉fp r'
structure Kp (J ρ':Nat->Nat)(mem mem':List Root):Prop where
 arr:∀(r:Nat) t xs w,mem[r]? =some (.arr t xs w)->mem'[r]? =some .dead\/(ρ' r=J r/\∃xs' w',mem'[r]? =some (.arr t xs' w')/\xs'.length=xs.length)
 box:∀(r:Nat) b cs,mem[r]? =some (.box b cs)->mem'[r]? =some .dead\/(ρ' r=J r/\∃b' cs',mem'[r]? =some (.box b' cs'))
 dead:∀(r:Nat),mem[r]? =some .dead->mem'[r]? =some .dead
theorem Kp.refl(J:Nat->Nat)(mem:List Root):Kp J J mem mem:=
 ⟨fun r t xs w h=>.inr ⟨rfl,xs,w,h,rfl⟩,fun r b cs h=>.inr ⟨rfl,b,cs,h⟩,fun r h=>h⟩
class Pin extends Nin where
 ini:List Root
 len:ini.length=nin
def KpA:Option Root->Option Root->Prop
|some (.arr t xs _),m=>m=some .dead\/∃xs' w',m=some (.arr t xs' w')/\xs'.length=xs.length
|some (.box _ _),m=>m=some .dead\/∃b' cs',m=some (.box b' cs')
|some .dead,m=>m=some .dead
|none,_=>False
def PinP [Pin](J:Nat->Nat)(mem:List Root):Prop:=∀j,j<Nin.nin->(∀x,mem[j]? =some x->x.alive=true->J j=j)/\KpA (Pin.ini[j]?) (mem[j]?)
theorem KpA.kp{J ρ':Nat->Nat}{mem mem':List Root}(hk:Kp J ρ' mem mem'){x:Option Root}{j:Nat}(h:KpA x (mem[j]?)):KpA x (mem'[j]?):=by
 cases x with
 |none=>exact h
 |some x=>
  cases x with
  |dead=>exact hk.dead j h
  |arr t xs w=>
   rcases h with h|⟨xs',w',h,hl⟩
   ·exact .inl (hk.dead j h)
   ·rcases hk.arr j t xs' w' h with h1|⟨_,xs2,w2,h1,h2⟩
    ·exact .inl h1
    ·exact .inr ⟨xs2,w2,h1,h2.trans hl⟩
  |box b cs=>
   rcases h with h|⟨b',cs',h⟩
   ·exact .inl (hk.dead j h)
   ·rcases hk.box j b' cs' h with h1|⟨_,b2,cs2,h1⟩
    ·exact .inl h1
    ·exact .inr ⟨b2,cs2,h1⟩
theorem PinP.mono [Pin]{J ρ':Nat->Nat}{mem mem':List Root}(hk:Kp J ρ' mem mem')(h:PinP J mem):PinP ρ' mem':=by
 intro j hj;obtain⟨h1,h2⟩:=h j hj;refine⟨fun x hx ha=>?_,h2.kp hk⟩;have old:∃y,mem[j]? =some y:=by
  cases e:mem[j]? with
  |some y=>exact⟨y,rfl⟩
  |none=>
   rw[e]at h2;cases hi:Pin.ini[j]? with
   |none=>rw[hi]at h2;exact h2.elim
   |some z=>rw[hi]at h2;cases z<;>simp[KpA]at h2
 obtain⟨y,hy⟩:=old;cases y with
 |dead=>rw[hk.dead j hy]at hx;cases hx;cases ha
 |arr t xs w=>
  rcases hk.arr j t xs w hy with e|⟨e,_⟩
  ·rw[e]at hx;cases hx;cases ha
  ·rw[e];exact h1 _ hy rfl
 |box b cs=>
  rcases hk.box j b cs hy with e|⟨e,_⟩
  ·rw[e]at hx;cases hx;cases ha
  ·rw[e];exact h1 _ hy rfl
structure TR [Pin](J:Nat->Nat)(T:TS)(st:St):Prop where
 env:∀n,VR J T.mem (lookV T.env n) (look st.env n)
 box:∀(r:Nat) b cs,T.mem[r]? =some (.box b cs)->∃as,st.mem[J r]? =some (boxE b cs.length as)/\VRL J T.mem cs as
 boxC:∀(r:Nat) b cs,T.mem[r]? =some (.box b cs)->cs.all V.isC=true
 inj:∀(r r':Nat) x x',T.mem[r]? =some x->x.alive=true->T.mem[r']? =some x'->x'.alive=true->J r=J r'->r=r'
 ow:∃fp,OwA J T.mem st.mem fp
 pin:PinP J T.mem
theorem TR.arr [Pin]{J:Nat->Nat}{T:TS}{st:St}(h:TR J T st)(r:Nat)(t:Ty)(xs:List (TV t))(hr:T.mem[r]? =some (.arr t xs .no)):st.mem[J r]? =some (.arr t.sz (xs.map (zap t))):=
 let⟨_,hf⟩:=h.ow;(hf.rel r t xs .no hr).1
mutual
theorem VR.mono{J ρ':Nat->Nat}{mem mem':List Root}(h:Kp J ρ' mem mem'):∀(v:V)(a:AV),VR J mem v a->VR ρ' mem' v a
|.junk,_,_=>trivial
|.int k n,a,r|.bool b,a,r|.str s,a,r|.lst t xs,a,r|.nl es,a,r|.e0,a,r|.st n x,a,r|.ep n x,a,r|.nilp,a,r|.nilf,a,r=>by simpa[VR]using r
|.agg cs,a,r|.tup cs,a,r|.ip cs,a,r|.fn _ cs,a,r=>by simp only[VR]at r|-;obtain⟨as,h1,h2⟩:=r;exact⟨as,h1,VRL.mono h cs as h2⟩
|.own r,a,hr=>by
 simp only[VR,zep]at hr|-;cases e:mem[r]? with
 |none=>rw[e]at hr;exact hr.elim
 |some x=>
  rw[e]at hr;cases x with
  |dead=>rw[h.dead r e];exact hr
  |arr t xs w=>
   simp only at hr;rcases h.arr r t xs w e with h1|⟨h1,xs',w',h2,h3⟩
   ·rw[h1];exact .inl ⟨_,_,_,_,hr⟩
   ·rw[h2];simp only;rw[hr,h1,h3]
  |box b cs=>
   simp only at hr;rcases h.box r b cs e with h1|⟨h1,b',cs',h2⟩
   ·rw[h1];exact .inr ⟨_,hr⟩
   ·rw[h2];simp only;rw[hr,h1]
|.part r off len,a,hr=>by
 simp only[VR,zgr]at hr|-;cases e:mem[r]? with
 |none=>rw[e]at hr;exact hr.elim
 |some x=>
  rw[e]at hr;cases x with
  |dead=>rw[h.dead r e];exact hr
  |arr t xs w=>
   simp only at hr;rcases h.arr r t xs w e with h1|⟨h1,xs',w',h2,h3⟩
   ·rw[h1];exact⟨_,_,_,_,hr.1⟩
   ·rw[h2];simp only;rw[hr.1,h1,h3];exact⟨rfl,hr.2⟩
  |box b cs=>
   simp only at hr;rcases h.box r b cs e with h1|⟨h1,b',cs',h2⟩
   ·rw[h1];exact hr
   ·rw[h2];exact hr
|.mp r row off,a,hr=>by
 simp only[VR,mpR]at hr|-;cases e:mem[r]? with
 |none=>rw[e]at hr;exact hr.elim
 |some x=>
  rw[e]at hr;cases x with
  |dead=>rw[h.dead r e];exact hr
  |arr t xs w=>
   simp only at hr;rcases h.arr r t xs w e with h1|⟨h1,xs',w',h2,h3⟩
   ·rw[h1];exact⟨_,_,_,hr⟩
   ·rw[h2];simp only;rw[hr,h1]
  |box b cs=>
   simp only at hr;rcases h.box r b cs e with h1|⟨h1,b',cs',h2⟩
   ·rw[h1];exact⟨_,_,_,hr.1⟩
   ·rw[h2];simp only;rw[hr.1,h1];exact⟨rfl,hr.2⟩
theorem VRL.mono{J ρ':Nat->Nat}{mem mem':List Root}(h:Kp J ρ' mem mem'):∀(cs:List V)(as:List AV),VRL J mem cs as->VRL ρ' mem' cs as
|[],as,r=>by simpa[VRL]using r
|c:: cs,as,r=>by simp only[VRL]at r|-;obtain⟨a,as',h1,h2,h3⟩:=r;exact⟨a,as',h1,VR.mono h c a h2,VRL.mono h cs as' h3⟩
end
theorem VRL.len{J:Nat->Nat}{mem:List Root}:∀{cs:List V}{as:List AV},VRL J mem cs as->as.length=cs.length
|[],as,h=>by simp only[VRL]at h;subst h;rfl
|c:: cs,as,h=>by simp only[VRL]at h;obtain⟨a,as',rfl,_,h3⟩:=h;simp[VRL.len h3]
theorem VRL.get{J:Nat->Nat}{mem:List Root}:∀{cs:List V}{as:List AV},VRL J mem cs as->∀(i:Nat) c,cs[i]? =some c->∃a,as[i]? =some a/\VR J mem c a
|[],as,h,i,c,hc=>by simp at hc
|c:: cs,as,h,i,c',hc=>by
 simp only[VRL]at h;obtain⟨a,as',rfl,h2,h3⟩:=h;cases i with
 |zero=>simp at hc;subst hc;exact⟨a,rfl,h2⟩
 |succ i=>simpa using VRL.get h3 i c' (by simpa using hc)
theorem VRL.append{J:Nat->Nat}{mem:List Root}:∀{cs cs':List V}{as as':List AV},VRL J mem cs as->VRL J mem cs' as'->VRL J mem (cs++cs') (as++as')
|[],cs',as,as',h,h'=>by simp only[VRL]at h;subst h;exact h'
|c:: cs,cs',as,as',h,h'=>by simp only[VRL]at h;obtain⟨a,as1,rfl,h2,h3⟩:=h;simp only[List.cons_append,VRL];exact⟨a,as1++as',rfl,h2,VRL.append h3 h'⟩
theorem VRL.fargs{J:Nat->Nat}{mem:List Root}{f:FuncId}{cs cs':List V}{as as':List AV}(h:VRL J mem cs as)(h':VRL J mem cs' as'):VRL J mem (fargs f cs cs') (fargs f as as'):=by
 unfold Fw.fargs;split
 ·exact h.append h'
 ·exact h'.append h
theorem VRL.drop{J:Nat->Nat}{mem:List Root}:∀{cs:List V}{as:List AV}(n:Nat),VRL J mem cs as->VRL J mem (cs.drop n) (as.drop n)
|cs,as,0,h=>h
|[],as,n+1,h=>by simp only[VRL]at h;subst h;simp[VRL]
|c:: cs,as,n+1,h=>by simp only[VRL]at h;obtain⟨a,as1,rfl,h2,h3⟩:=h;exact VRL.drop n h3
theorem VRL.take{J:Nat->Nat}{mem:List Root}:∀{cs:List V}{as:List AV}(n:Nat),VRL J mem cs as->VRL J mem (cs.take n) (as.take n)
|cs,as,0,h=>by simp[VRL]
|[],as,n+1,h=>by simp only[VRL]at h;subst h;simp[VRL]
|c:: cs,as,n+1,h=>by simp only[VRL]at h;obtain⟨a,as1,rfl,h2,h3⟩:=h;simp only[List.take_succ_cons,VRL];exact⟨a,as1.take n,rfl,h2,VRL.take n h3⟩
theorem zh4{J:Nat->Nat}{mem:List Root}(n:N)(x:Nm n):VRL J mem (fl n x) (zdI n x):=by cases n<;>simp[fl,zdI,VRL,VR,ziL,zdc,zrT,zh0,zjo,zd1,zga,zdy,zmO,zfv,zpI,zhV,zrP,zjk,zrQ,zfu,zf8,zdw,zpJ,zkq,zrN,zkr,zrR,zkv,zrU,zjl,zpH,zkp,zrO,zjj,zfx,zdP,zf9,zdx,zrS,zkw,ziK,zeM,zgU,zeN,zgV,zeO,zma,zgS,Ty.sz,N.sz,zap,zdI,zpw,zx4]
end Go.Fw
namespace Go.Fw
open Go
variable [Pin]
mutual
theorem OwC.frame{sm sm':List Ent}{o:Option OS}{v:V}{a:AV}{fp:List Nat}:OwC sm o v a fp->(∀i∈fp,sm'[i]? =sm[i]?)->OwC sm' o v a fp
|.leaf hp h,_=>.leaf hp h
|.other hl hp h,_=>.other hl hp h
|.own hi h,hf=>.own (by rw[hf _ (by simp)];exact hi) (h.frame fun i hi=>hf i (by simp[hi]))
theorem OwCs.frame{sm sm':List Ent}{os:OS}{off:Nat}{vs:List V}{as:List AV}{fp:List Nat}:OwCs sm os off vs as fp->(∀i∈fp,sm'[i]? =sm[i]?)->OwCs sm' os off vs as fp
|.nil,_=>.nil
|.cons h hs,hf=>.cons (h.frame fun i hi=>hf i (by simp[hi])) (hs.frame fun i hi=>hf i (by simp[hi]))
theorem OwRs.frame{sm sm':List Ent}{os:OS}{t:Ty}{xs:List (TV t)}{rows:List (List AV)}{fp:List Nat}:OwRs sm os t xs rows fp->(∀i∈fp,sm'[i]? =sm[i]?)->OwRs sm' os t xs rows fp
|.nil,_=>.nil
|.cons h hs,hf=>.cons (h.frame fun i hi=>hf i (by simp[hi])) (hs.frame fun i hi=>hf i (by simp[hi]))
end
mutual
theorem OwC.live{sm:List Ent}{o:Option OS}{v:V}{a:AV}{fp:List Nat}:OwC sm o v a fp->∀i∈fp,∃es rows,sm[i]? =some (.arr es rows)
|.leaf _ _,i,hi=>by simp at hi
|.other _ _ _,i,hi=>by simp at hi
|.own h1 h,i,hi=>by
 rcases List.mem_cons.1 hi with rfl|hi
 ·exact⟨_,_,h1⟩
 ·exact h.live i hi
theorem OwCs.live{sm:List Ent}{os:OS}{off:Nat}{vs:List V}{as:List AV}{fp:List Nat}:OwCs sm os off vs as fp->∀i∈fp,∃es rows,sm[i]? =some (.arr es rows)
|.nil,i,hi=>by simp at hi
|.cons h hs,i,hi=>by
 rcases List.mem_append.1 hi with hi|hi
 ·exact h.live i hi
 ·exact hs.live i hi
theorem OwRs.live{sm:List Ent}{os:OS}{t:Ty}{xs:List (TV t)}{rows:List (List AV)}{fp:List Nat}:OwRs sm os t xs rows fp->∀i∈fp,∃es rows,sm[i]? =some (.arr es rows)
|.nil,i,hi=>by simp at hi
|.cons h hs,i,hi=>by
 rcases List.mem_append.1 hi with hi|hi
 ·exact h.live i hi
 ·exact hs.live i hi
end
theorem OwRs.len{sm:List Ent}{os:OS}{t:Ty}{xs:List (TV t)}{rows:List (List AV)}{fp:List Nat}:OwRs sm os t xs rows fp->rows.length=xs.length
|.nil=>rfl
|.cons _ hs=>by simp[hs.len]
theorem OwRs.append{sm:List Ent}{os:OS}{t:Ty}{xs ys:List (TV t)}{rows rows':List (List AV)}{fp fp':List Nat}:OwRs sm os t xs rows fp->OwRs sm os t ys rows' fp'->OwRs sm os t (xs++ys) (rows++rows') (fp++fp')
|.nil,h'=>h'
|.cons h hs,h'=>by rw[List.append_assoc];exact .cons h (hs.append h')
theorem ArrR.live{J:Nat->Nat}{mem:List Root}{sm:List Ent}{t:Ty}{xs:List (TV t)}{w:Ow}{i:Nat}{fp:List Nat}(h:ArrR J mem sm t xs w i fp):∀j∈fp,∃es rows,sm[j]? =some (.arr es rows):=by
 cases w with
 |no=>obtain⟨_,rfl⟩:=h;intro j hj;simp at hj
 |cl os=>obtain⟨_,_,h⟩:=h;exact h.live
 |op os j cs=>
  obtain⟨_,_,_,_,_,_,_,_,_,_,_,_,h1,h2,rfl,_⟩:=h;intro i hi;rcases List.mem_append.1 hi with hi|hi
  ·exact h1.live i hi
  ·exact h2.live i hi
theorem ArrR.ent{J:Nat->Nat}{mem:List Root}{sm:List Ent}{t:Ty}{xs:List (TV t)}{w:Ow}{i:Nat}{fp:List Nat}(h:ArrR J mem sm t xs w i fp):∃rows,sm[i]? =some (.arr t.sz rows)/\rows.length=xs.length:=by
 cases w with
 |no=>exact⟨_,h.1,by simp⟩
 |cl os=>obtain⟨rows,h1,h2⟩:=h;exact⟨rows,h1,h2.len⟩
 |op os j cs=>obtain⟨_,_,_,_,_,_,_,_,rfl,_,h0,_,h1,h2,_,_⟩:=h;exact⟨_,h0,by simp[h1.len,h2.len]⟩
theorem ArrR.mono{J ρ':Nat->Nat}{mem mem':List Root}{sm sm':List Ent}{t:Ty}{xs:List (TV t)}{w:Ow}{i i':Nat}{fp:List Nat}(h:ArrR J mem sm t xs w i fp)(hv:∀cs as,VRL J mem cs as->VRL ρ' mem' cs as)(hi:sm'[i']? =sm[i]?)(hf:∀j∈fp,sm'[j]? =sm[j]?):
 ArrR ρ' mem' sm' t xs w i' fp:=by
 cases w with
 |no=>exact⟨by rw[hi];exact h.1,h.2⟩
 |cl os=>obtain⟨rows,h1,h2⟩:=h;exact⟨rows,by rw[hi];exact h1,h2.frame hf⟩
 |op os j cs=>obtain⟨pre,x,post,rpre,row,rpost,fp1,fp2,e1,e2,h0,e3,h1,h2,rfl,h3,h4,h5⟩:=h;exact⟨pre,x,post,rpre,row,rpost,fp1,fp2,e1,e2,by rw[hi];exact h0,e3,h1.frame fun j hj=>hf j (by simp[hj]),h2.frame fun j hj=>hf j (by simp[hj]),rfl,hv _ _ h3,h4,h5⟩
section
variable {J ρ':Nat->Nat}{mem mem':List Root}{sm sm':List Ent}{fp fp':Nat->List Nat}
theorem OwA.live(h:OwA J mem sm fp)(r:Nat):∀i∈fp r,∃es rows,sm[i]? =some (.arr es rows):=by
 intro i hi;by_cases hx:∃t xs w,mem[r]? =some (.arr t xs w)
 ·obtain⟨t,xs,w,hx⟩:=hx;exact(h.rel r t xs w hx).live i hi
 ·rw[h.nil r fun t xs w e=>hx ⟨t,xs,w,e⟩]at hi;simp at hi
theorem OwA.lt(h:OwA J mem sm fp)(r:Nat):∀i∈fp r,i<sm.length:=fun i hi=>let⟨_,_,e⟩:=h.live r i hi;(yga.1 e).1
theorem OwA.upd(h:OwA J mem sm fp)(hK:Kp J ρ' mem mem')
 (hr:∀(r:Nat) x,mem'[r]? =some x->x.alive=true->(mem[r]? =some x/\ρ' r=J r/\∀t xs w,x=.arr t xs w->sm'[J r]? =sm[J r]?)\/(fp r=[]/\(∀t xs w,x=.arr t xs w->ArrR ρ' mem' sm' t xs w (ρ' r) [])/\∀r',ρ' r∉fp r'))
 (hf:∀(r:Nat),∀i∈fp r,sm'[i]? =sm[i]?)(hn:∀(r:Nat),(∀t xs w,mem'[r]?≠some (.arr t xs w))->fp r=[]):OwA ρ' mem' sm' fp:=by
 refine⟨fun r t xs w hx=>?_,hn,h.nd,h.dj,fun r r' x hx ha=>?_⟩
 ·rcases hr r _ hx rfl with⟨h1,h2,h3⟩|⟨h1,h2,_⟩
  ·exact(h.rel r t xs w h1).mono (fun cs as hv=>hv.mono hK) (by rw[h2];exact h3 t xs w rfl) (hf r)
  ·rw[h1];exact h2 t xs w rfl
 ·rcases hr r x hx ha with⟨h1,h2,_⟩|⟨_,_,h3⟩
  ·rw[h2];exact h.rt r r' x h1 ha
  ·exact h3 r'
theorem OwA.drop(h:OwA J mem sm fp){r:Nat}{x:Root}(hx:mem[r]? =some x):OwA J (mem.set r .dead) sm (fun q=>if q=r then[]else fp q):=by
 have hrl:=(yga.1 hx).1;have old:∀(q:Nat) y,(mem.set r .dead)[q]? =some y->y.alive=true->q≠r/\mem[q]? =some y:=by
  intro q y hq hy;by_cases e:q=r
  ·subst e;simp[hrl]at hq;subst hq;simp[Root.alive]at hy
  ·rw[ygg (fun h=>e h.symm)]at hq;exact⟨e,hq⟩
 have hk:Kp J J mem (mem.set r .dead):=by
  have key:∀(q:Nat) y,mem[q]? =some y->(mem.set r .dead)[q]? =some .dead\/(mem.set r .dead)[q]? =some y:=fun q y hq=>by
   by_cases e:q=r
   ·subst e;exact .inl (by simp[hrl])
   ·exact .inr (by rw[ygg (fun h=>e h.symm)];exact hq)
  exact⟨fun q t ys w hq=>(key q _ hq).imp id fun h=>⟨rfl,ys,w,h,rfl⟩,fun q b ds hq=>(key q _ hq).imp id fun h=>⟨rfl,b,ds,h⟩,fun q hq=>(key q _ hq).elim id id⟩
 refine⟨fun q t xs w hq=>?_,fun q hq=>?_,fun q=>?_,fun q q' hne i hi=>?_,fun q q' y hy ha=>?_⟩
 ·obtain⟨h1,h2⟩:=old q _ hq rfl;rw[if_neg h1];exact(h.rel q t xs w h2).mono (fun cs as hv=>hv.mono hk) rfl fun _ _=>rfl
 ·by_cases e:q=r
  ·rw[if_pos e]
  ·rw[if_neg e];exact h.nil q fun t xs w h'=>hq t xs w (by rw[ygg (fun h=>e h.symm)];exact h')
 ·split
  ·exact List.nodup_nil
  ·exact h.nd q
 ·split at hi
  ·simp at hi
  ·split
   ·simp
   ·exact h.dj q q' hne i hi
 ·obtain⟨_,h2⟩:=old q y hy ha;split
  ·simp
  ·exact h.rt q q' y h2 ha
end
theorem TR.alt{J:Nat->Nat}{T:TS}{st:St}(h:TR J T st)(r:Nat)(t:Ty)(xs:List (TV t))(w:Ow)(hr:T.mem[r]? =some (.arr t xs w)):∃rows,st.mem[J r]? =some (.arr t.sz rows)/\rows.length=xs.length:=
 let⟨_,hf⟩:=h.ow;(hf.rel r t xs w hr).ent
end Go.Fw
namespace Go.Fw
open Go
theorem zag{J:Nat->Nat}{mem:List Root}{t:Ty}{v:V}{a:AV}{y:TV t}(hv:VR J mem v a)(h:v.toL t=some y):zap t y=[a]:=by
 cases t<;>cases v<;>simp only[V.toL]at h<;>(try(cases h;done))<;>simp only[VR]at hv<;>subst hv
 ·split at h
  ·rename_i e;subst e;cases h;simp[zap]
  ·cases h
 ·cases h;simp[zap]
 ·cases h;simp[zap]
 ·split at h
  ·rename_i e;subst e;cases h;simp[zap]
  ·cases h
 ·split at h
  ·rename_i e;subst e;cases h;simp[zap]
  ·cases h
theorem znz{J:Nat->Nat}{mem:List Root}{cs:List V}{as:List AV}{x:Field}(hv:VRL J mem cs as)(h:zfJ cs=some x):as=zdc x:=by
 unfold zfJ at h;split at h
 ·simp only[VRL]at hv;obtain⟨a0,_,rfl,v0,⟨a1,_,rfl,v1,⟨a2,_,rfl,v2,⟨a3,_,rfl,v3,⟨a4,_,rfl,v4,⟨a5,_,rfl,v5,⟨a6,_,rfl,v6,⟨a7,_,rfl,v7,rfl⟩⟩⟩⟩⟩⟩⟩⟩:=hv;simp only[ygc]at h;obtain⟨x0,h0,⟨x1,h1,⟨x2,h2,⟨x3,h3,⟨x4,h4,⟨x5,h5,⟨x6,h6,⟨x7,h7,h⟩⟩⟩⟩⟩⟩⟩⟩:=h;cases h;have e0:=zag v0 h0;simp only[zap,List.cons.injEq,yhm]at e0;have e1:=zag v1 h1;simp only[zap,List.cons.injEq,yhm]at e1;have e2:=zag v2 h2;simp only[zap,List.cons.injEq,yhm]at e2;have e3:=zag v3 h3;simp only[zap,List.cons.injEq,yhm]at e3;have e4:=zag v4 h4;simp only[zap,List.cons.injEq,yhm]at e4;have e5:=zag v5 h5;simp only[zap,List.cons.injEq,yhm]at e5;have e6:=zag v6 h6;simp only[zap,List.cons.injEq,yhm]at e6;have e7:=zag v7 h7;simp only[zap,List.cons.injEq,yhm]at e7;rw[zpv,<-e0,<-e1,<-e2,<-e3,<-e4,<-e5,<-e6,<-e7];try rfl
 ·cases h
theorem zqt{J:Nat->Nat}{mem:List Root}{cs:List V}{as:List AV}{x:Typ}(hv:VRL J mem cs as)(h:zln cs=some x):as=zh0 x:=by
 unfold zln at h;split at h
 ·simp only[VRL]at hv;obtain⟨a0,_,rfl,v0,⟨a1,_,rfl,v1,⟨a2,_,rfl,v2,rfl⟩⟩⟩:=hv;simp only[ygc]at h;obtain⟨x0,h0,⟨x1,h1,⟨x2,h2,h⟩⟩⟩:=h;cases h;have e0:=zag v0 h0;simp only[zap,List.cons.injEq,yhm]at e0;have e1:=zag v1 h1;simp only[zap,List.cons.injEq,yhm]at e1;have e2:=zag v2 h2;simp only[zap,List.cons.injEq,yhm]at e2;rw[ztj,<-e0,<-e1,<-e2];try rfl
 ·cases h
theorem zfM{J:Nat->Nat}{mem:List Root}{cs:List V}{as:List AV}{x:Part}(hv:VRL J mem cs as)(h:ze3 cs=some x):as=zd1 x:=by
 unfold ze3 at h;split at h
 ·simp only[VRL]at hv;obtain⟨a0,_,rfl,v0,⟨a1,_,rfl,v1,rfl⟩⟩:=hv;simp only[ygc]at h;obtain⟨x0,h0,⟨x1,h1,h⟩⟩:=h;cases h;have e0:=zag v0 h0;simp only[zap,List.cons.injEq,yhm]at e0;have e1:=zag v1 h1;simp only[zap,List.cons.injEq,yhm]at e1;rw[zrJ,<-e0,<-e1];try rfl
 ·cases h
theorem zlM{J:Nat->Nat}{mem:List Root}{cs:List V}{as:List AV}{x:PFault}(hv:VRL J mem cs as)(h:zew cs=some x):as=zdy x:=by
 unfold zew at h;split at h
 ·simp only[VRL]at hv;obtain⟨a0,_,rfl,v0,⟨a1,_,rfl,v1,rfl⟩⟩:=hv;simp only[ygc]at h;obtain⟨x0,h0,⟨x1,h1,h⟩⟩:=h;cases h;have e0:=zag v0 h0;simp only[zap,List.cons.injEq,yhm]at e0;have e1:=zag v1 h1;simp only[zap,List.cons.injEq,yhm]at e1;rw[zoa,<-e0,<-e1];try rfl
 ·cases h
theorem ze4{J:Nat->Nat}{mem:List Root}{cs:List V}{as:List AV}{x:Val}(hv:VRL J mem cs as)(h:zfN cs=some x):as=zgA x:=by
 unfold zfN at h;split at h
 ·simp only[VRL]at hv;obtain⟨a0,_,rfl,v0,⟨a1,_,rfl,v1,⟨a2,_,rfl,v2,⟨a3,_,rfl,v3,⟨a4,_,rfl,v4,rfl⟩⟩⟩⟩⟩:=hv;simp only[ygc]at h;obtain⟨x0,h0,⟨x1,h1,⟨x2,h2,⟨x3,h3,⟨x4,h4,h⟩⟩⟩⟩⟩:=h;cases h;have e0:=zag v0 h0;simp only[zap,List.cons.injEq,yhm]at e0;have e1:=zag v1 h1;simp only[zap,List.cons.injEq,yhm]at e1;have e2:=zag v2 h2;simp only[zap,List.cons.injEq,yhm]at e2;have e3:=zag v3 h3;simp only[zap,List.cons.injEq,yhm]at e3;have e4:=zag v4 h4;simp only[zap,List.cons.injEq,yhm]at e4;rw[zfv,<-e0,<-e1,<-e2,<-e3,<-e4];try rfl
 ·cases h
theorem zqk{J:Nat->Nat}{mem:List Root}{cs:List V}{as:List AV}{x:Cel}(hv:VRL J mem cs as)(h:zlf cs=some x):as=zhV x:=by
 unfold zlf at h;split at h
 ·simp only[VRL]at hv;obtain⟨a0,_,rfl,v0,⟨a1,_,rfl,v1,⟨a2,_,rfl,v2,⟨a3,_,rfl,v3,⟨a4,_,rfl,v4,⟨a5,_,rfl,v5,rfl⟩⟩⟩⟩⟩⟩:=hv;simp only[ygc]at h;obtain⟨x0,h0,⟨x1,h1,h⟩⟩:=h;cases h;have e0:=zag v0 h0;simp only[zap,List.cons.injEq,yhm]at e0;have e1:=ze4 (J:=J) (mem:=mem) (as:=[a1,a2,a3,a4,a5]) (by simp only[VRL];exact⟨_,_,rfl,v1,⟨_,_,rfl,v2,⟨_,_,rfl,v3,⟨_,_,rfl,v4,⟨_,_,rfl,v5,rfl⟩⟩⟩⟩⟩) h1;show[a0]++[a1,a2,a3,a4,a5]=_;rw[e1,<-e0];simp only[zhV];try rfl
 ·cases h
theorem zqp{J:Nat->Nat}{mem:List Root}{cs:List V}{as:List AV}{x:Row}(hv:VRL J mem cs as)(h:zlj cs=some x):as=zjk x:=by
 unfold zlj at h;split at h
 ·simp only[VRL]at hv;obtain⟨a0,_,rfl,v0,⟨a1,_,rfl,v1,⟨a2,_,rfl,v2,rfl⟩⟩⟩:=hv;simp only[ygc]at h;obtain⟨x0,h0,⟨x1,h1,⟨x2,h2,h⟩⟩⟩:=h;cases h;have e0:=zag v0 h0;simp only[zap,List.cons.injEq,yhm]at e0;have e1:=zag v1 h1;simp only[zap,List.cons.injEq,yhm]at e1;have e2:=zag v2 h2;simp only[zap,List.cons.injEq,yhm]at e2;rw[ztg,<-e0,<-e1,<-e2];try rfl
 ·cases h
theorem zqq{J:Nat->Nat}{mem:List Root}{cs:List V}{as:List AV}{x:Sel}(hv:VRL J mem cs as)(h:zlk cs=some x):as=zhZ x:=by
 unfold zlk at h;split at h
 ·simp only[VRL]at hv;obtain⟨a0,_,rfl,v0,⟨a1,_,rfl,v1,⟨a2,_,rfl,v2,⟨a3,_,rfl,v3,⟨a4,_,rfl,v4,rfl⟩⟩⟩⟩⟩:=hv;simp only[ygc]at h;obtain⟨x0,h0,⟨x1,h1,⟨x2,h2,⟨x3,h3,⟨x4,h4,h⟩⟩⟩⟩⟩:=h;cases h;have e0:=zag v0 h0;simp only[zap,List.cons.injEq,yhm]at e0;have e1:=zag v1 h1;simp only[zap,List.cons.injEq,yhm]at e1;have e2:=zag v2 h2;simp only[zap,List.cons.injEq,yhm]at e2;have e3:=zag v3 h3;simp only[zap,List.cons.injEq,yhm]at e3;have e4:=zag v4 h4;simp only[zap,List.cons.injEq,yhm]at e4;rw[zfu,<-e0,<-e1,<-e2,<-e3,<-e4];try rfl
 ·cases h
theorem zlK{J:Nat->Nat}{mem:List Root}{cs:List V}{as:List AV}{x:AFault}(hv:VRL J mem cs as)(h:zet cs=some x):as=zdw x:=by
 unfold zet at h;split at h
 ·simp only[VRL]at hv;obtain⟨a0,_,rfl,v0,⟨a1,_,rfl,v1,rfl⟩⟩:=hv;simp only[ygc]at h;obtain⟨x0,h0,⟨x1,h1,h⟩⟩:=h;cases h;have e0:=zag v0 h0;simp only[zap,List.cons.injEq,yhm]at e0;have e1:=zag v1 h1;simp only[zap,List.cons.injEq,yhm]at e1;rw[zn8,<-e0,<-e1];try rfl
 ·cases h
theorem zql{J:Nat->Nat}{mem:List Root}{cs:List V}{as:List AV}{x:Chg}(hv:VRL J mem cs as)(h:zlg cs=some x):as=zkq x:=by
 unfold zlg at h;split at h
 ·simp only[VRL]at hv;obtain⟨a0,_,rfl,v0,⟨a1,_,rfl,v1,⟨a2,_,rfl,v2,⟨a3,_,rfl,v3,⟨a4,_,rfl,v4,⟨a5,_,rfl,v5,⟨a6,_,rfl,v6,⟨a7,_,rfl,v7,rfl⟩⟩⟩⟩⟩⟩⟩⟩:=hv;simp only[ygc]at h;obtain⟨x0,h0,⟨x1,h1,⟨x2,h2,⟨x3,h3,h⟩⟩⟩⟩:=h;cases h;have e0:=zag v0 h0;simp only[zap,List.cons.injEq,yhm]at e0;have e1:=zag v1 h1;simp only[zap,List.cons.injEq,yhm]at e1;have e2:=zag v2 h2;simp only[zap,List.cons.injEq,yhm]at e2;have e3:=ze4 (J:=J) (mem:=mem) (as:=[a3,a4,a5,a6,a7]) (by simp only[VRL];exact⟨_,_,rfl,v3,⟨_,_,rfl,v4,⟨_,_,rfl,v5,⟨_,_,rfl,v6,⟨_,_,rfl,v7,rfl⟩⟩⟩⟩⟩) h3;show[a0,a1,a2]++[a3,a4,a5,a6,a7]=_;rw[e3,<-e0,<-e1,<-e2];simp only[zkq];try rfl
 ·cases h
theorem zqm{J:Nat->Nat}{mem:List Root}{cs:List V}{as:List AV}{x:Ety}(hv:VRL J mem cs as)(h:zlh cs=some x):as=zkr x:=by
 unfold zlh at h;split at h
 ·simp only[VRL]at hv;obtain⟨a0,_,rfl,v0,⟨a1,_,rfl,v1,⟨a2,_,rfl,v2,rfl⟩⟩⟩:=hv;simp only[ygc]at h;obtain⟨x0,h0,⟨x1,h1,⟨x2,h2,h⟩⟩⟩:=h;cases h;have e0:=zag v0 h0;simp only[zap,List.cons.injEq,yhm]at e0;have e1:=zag v1 h1;simp only[zap,List.cons.injEq,yhm]at e1;have e2:=zag v2 h2;simp only[zap,List.cons.injEq,yhm]at e2;rw[zte,<-e0,<-e1,<-e2];try rfl
 ·cases h
theorem zqr{J:Nat->Nat}{mem:List Root}{cs:List V}{as:List AV}{x:Stp}(hv:VRL J mem cs as)(h:zll cs=some x):as=zkv x:=by
 unfold zll at h;split at h
 ·simp only[VRL]at hv;obtain⟨a0,_,rfl,v0,⟨a1,_,rfl,v1,⟨a2,_,rfl,v2,⟨a3,_,rfl,v3,⟨a4,_,rfl,v4,⟨a5,_,rfl,v5,rfl⟩⟩⟩⟩⟩⟩:=hv;simp only[ygc]at h;obtain⟨x0,h0,⟨x1,h1,⟨x2,h2,⟨x3,h3,⟨x4,h4,⟨x5,h5,h⟩⟩⟩⟩⟩⟩:=h;cases h;have e0:=zag v0 h0;simp only[zap,List.cons.injEq,yhm]at e0;have e1:=zag v1 h1;simp only[zap,List.cons.injEq,yhm]at e1;have e2:=zag v2 h2;simp only[zap,List.cons.injEq,yhm]at e2;have e3:=zag v3 h3;simp only[zap,List.cons.injEq,yhm]at e3;have e4:=zag v4 h4;simp only[zap,List.cons.injEq,yhm]at e4;have e5:=zag v5 h5;simp only[zap,List.cons.injEq,yhm]at e5;rw[zth,<-e0,<-e1,<-e2,<-e3,<-e4,<-e5];try rfl
 ·cases h
theorem zqu{J:Nat->Nat}{mem:List Root}{cs:List V}{as:List AV}{x:Wrg}(hv:VRL J mem cs as)(h:zlo cs=some x):as=zjl x:=by
 unfold zlo at h;split at h
 ·simp only[VRL]at hv;obtain⟨a0,_,rfl,v0,⟨a1,_,rfl,v1,rfl⟩⟩:=hv;simp only[ygc]at h;obtain⟨x0,h0,⟨x1,h1,h⟩⟩:=h;cases h;have e0:=zag v0 h0;simp only[zap,List.cons.injEq,yhm]at e0;have e1:=zag v1 h1;simp only[zap,List.cons.injEq,yhm]at e1;rw[ztk,<-e0,<-e1];try rfl
 ·cases h
theorem zqj{J:Nat->Nat}{mem:List Root}{cs:List V}{as:List AV}{x:Ans}(hv:VRL J mem cs as)(h:zle cs=some x):as=zkp x:=by
 unfold zle at h;split at h
 ·simp only[VRL]at hv;obtain⟨a0,_,rfl,v0,⟨a1,_,rfl,v1,⟨a2,_,rfl,v2,⟨a3,_,rfl,v3,⟨a4,_,rfl,v4,⟨a5,_,rfl,v5,rfl⟩⟩⟩⟩⟩⟩:=hv;simp only[ygc]at h;obtain⟨x0,h0,⟨x1,h1,h⟩⟩:=h;cases h;have e0:=ze4 (J:=J) (mem:=mem) (as:=[a0,a1,a2,a3,a4]) (by simp only[VRL];exact⟨_,_,rfl,v0,⟨_,_,rfl,v1,⟨_,_,rfl,v2,⟨_,_,rfl,v3,⟨_,_,rfl,v4,rfl⟩⟩⟩⟩⟩) h0;have e1:=zag v5 h1;simp only[zap,List.cons.injEq,yhm]at e1;show[a0,a1,a2,a3,a4]++[a5]=_;rw[e0,<-e1];simp only[zkp];try rfl
 ·cases h
theorem zqn{J:Nat->Nat}{mem:List Root}{cs:List V}{as:List AV}{x:Own}(hv:VRL J mem cs as)(h:zli cs=some x):as=zjj x:=by
 unfold zli at h;split at h
 ·simp only[VRL]at hv;obtain⟨a0,_,rfl,v0,⟨a1,_,rfl,v1,⟨a2,_,rfl,v2,rfl⟩⟩⟩:=hv;simp only[ygc]at h;obtain⟨x0,h0,⟨x1,h1,⟨x2,h2,h⟩⟩⟩:=h;cases h;have e0:=zag v0 h0;simp only[zap,List.cons.injEq,yhm]at e0;have e1:=zag v1 h1;simp only[zap,List.cons.injEq,yhm]at e1;have e2:=zag v2 h2;simp only[zap,List.cons.injEq,yhm]at e2;rw[ztf,<-e0,<-e1,<-e2];try rfl
 ·cases h
theorem zii{J:Nat->Nat}{mem:List Root}{cs:List V}{as:List AV}{x:Chart}(hv:VRL J mem cs as)(h:zev cs=some x):as=zdP x:=by
 unfold zev at h;split at h
 ·simp only[VRL]at hv;obtain⟨a0,_,rfl,v0,⟨a1,_,rfl,v1,⟨a2,_,rfl,v2,rfl⟩⟩⟩:=hv;simp only[ygc]at h;obtain⟨x0,h0,⟨x1,h1,h⟩⟩:=h;cases h;have e0:=zfM (J:=J) (mem:=mem) (as:=[a0,a1]) (by simp only[VRL];exact⟨_,_,rfl,v0,⟨_,_,rfl,v1,rfl⟩⟩) h0;have e1:=zag v2 h1;simp only[zap,List.cons.injEq,yhm]at e1;show[a0,a1]++[a2]=_;rw[e0,<-e1];simp only[zdP];try rfl
 ·cases h
theorem zlL{J:Nat->Nat}{mem:List Root}{cs:List V}{as:List AV}{x:CFault}(hv:VRL J mem cs as)(h:zeu cs=some x):as=zdx x:=by
 unfold zeu at h;split at h
 ·simp only[VRL]at hv;obtain⟨a0,_,rfl,v0,⟨a1,_,rfl,v1,⟨a2,_,rfl,v2,⟨a3,_,rfl,v3,rfl⟩⟩⟩⟩:=hv;simp only[ygc]at h;obtain⟨x0,h0,⟨x1,h1,⟨x2,h2,⟨x3,h3,h⟩⟩⟩⟩:=h;cases h;have e0:=zag v0 h0;simp only[zap,List.cons.injEq,yhm]at e0;have e1:=zag v1 h1;simp only[zap,List.cons.injEq,yhm]at e1;have e2:=zag v2 h2;simp only[zap,List.cons.injEq,yhm]at e2;have e3:=zag v3 h3;simp only[zap,List.cons.injEq,yhm]at e3;rw[zn9,<-e0,<-e1,<-e2,<-e3];try rfl
 ·cases h
theorem zqs{J:Nat->Nat}{mem:List Root}{cs:List V}{as:List AV}{x:Stt}(hv:VRL J mem cs as)(h:zlm cs=some x):as=zkw x:=by
 unfold zlm at h;split at h
 ·simp only[VRL]at hv;obtain⟨a0,_,rfl,v0,⟨a1,_,rfl,v1,rfl⟩⟩:=hv;simp only[ygc]at h;obtain⟨x0,h0,⟨x1,h1,h⟩⟩:=h;cases h;have e0:=zag v0 h0;simp only[zap,List.cons.injEq,yhm]at e0;have e1:=zag v1 h1;simp only[zap,List.cons.injEq,yhm]at e1;rw[zti,<-e0,<-e1];try rfl
 ·cases h
theorem zny{J:Nat->Nat}{mem:List Root}{cs:List V}{as:List AV}{x:Fetch}(hv:VRL J mem cs as)(h:zfI cs=some x):as=zeM x:=by
 unfold zfI at h;split at h
 ·simp only[VRL]at hv;obtain⟨a0,_,rfl,v0,⟨a1,_,rfl,v1,⟨a2,_,rfl,v2,rfl⟩⟩⟩:=hv;simp only[ygc]at h;obtain⟨x0,h0,⟨x1,h1,⟨x2,h2,h⟩⟩⟩:=h;cases h;have e0:=zag v0 h0;simp only[zap,List.cons.injEq,yhm]at e0;have e1:=zag v1 h1;simp only[zap,List.cons.injEq,yhm]at e1;have e2:=zag v2 h2;simp only[zap,List.cons.injEq,yhm]at e2;rw[zpu,<-e0,<-e1,<-e2];try rfl
 ·cases h
theorem znA{J:Nat->Nat}{mem:List Root}{cs:List V}{as:List AV}{x:Fleet}(hv:VRL J mem cs as)(h:zfK cs=some x):as=zeN x:=by
 unfold zfK at h;split at h
 ·simp only[VRL]at hv;obtain⟨a0,_,rfl,v0,⟨a1,_,rfl,v1,⟨a2,_,rfl,v2,⟨a3,_,rfl,v3,rfl⟩⟩⟩⟩:=hv;simp only[ygc]at h;obtain⟨x0,h0,⟨x1,h1,h⟩⟩:=h;cases h;have e0:=zag v0 h0;simp only[zap,List.cons.injEq,yhm]at e0;have e1:=zii (J:=J) (mem:=mem) (as:=[a1,a2,a3]) (by simp only[VRL];exact⟨_,_,rfl,v1,⟨_,_,rfl,v2,⟨_,_,rfl,v3,rfl⟩⟩⟩) h1;show[a0]++[a1,a2,a3]=_;rw[e1,<-e0];simp only[zeN];try rfl
 ·cases h
theorem znB{J:Nat->Nat}{mem:List Root}{cs:List V}{as:List AV}{x:Graph}(hv:VRL J mem cs as)(h:zfL cs=some x):as=zeO x:=by
 unfold zfL at h;split at h
 ·simp only[VRL]at hv;obtain⟨a0,_,rfl,v0,⟨a1,_,rfl,v1,⟨a2,_,rfl,v2,rfl⟩⟩⟩:=hv;simp only[ygc]at h;obtain⟨x0,h0,⟨x1,h1,h⟩⟩:=h;cases h;have e0:=zfM (J:=J) (mem:=mem) (as:=[a0,a1]) (by simp only[VRL];exact⟨_,_,rfl,v0,⟨_,_,rfl,v1,rfl⟩⟩) h0;have e1:=zag v2 h1;simp only[zap,List.cons.injEq,yhm]at e1;show[a0,a1]++[a2]=_;rw[e0,<-e1];simp only[zeO];try rfl
 ·cases h
theorem zo6{J:Nat->Nat}{mem:List Root}{cs:List V}{as:List AV}{x:Pair}(hv:VRL J mem cs as)(h:zij cs=some x):as=zgS x:=by
 unfold zij at h;split at h
 ·simp only[VRL]at hv;obtain⟨a0,_,rfl,v0,⟨a1,_,rfl,v1,rfl⟩⟩:=hv;simp only[ygc]at h;obtain⟨x0,h0,⟨x1,h1,h⟩⟩:=h;cases h;have e0:=zag v0 h0;simp only[zap,List.cons.injEq,yhm]at e0;have e1:=zag v1 h1;simp only[zap,List.cons.injEq,yhm]at e1;rw[zrI,<-e0,<-e1];try rfl
 ·cases h
theorem zik{J:Nat->Nat}{mem:List Root}{n:N}{cs:List V}{as:List AV}{x:Nm n}(hv:VRL J mem cs as)(h:zzv n cs=some x):as=zdI n x:=by
 cases n
 ·exact znz hv h
 ·exact zqt hv h
 ·exact zfM hv h
 ·exact zlM hv h
 ·exact ze4 hv h
 ·exact zqk hv h
 ·exact zqp hv h
 ·exact zqq hv h
 ·exact zlK hv h
 ·exact zql hv h
 ·exact zqm hv h
 ·exact zqr hv h
 ·exact zqu hv h
 ·exact zqj hv h
 ·exact zqn hv h
 ·exact zii hv h
 ·exact zlL hv h
 ·exact zqs hv h
 ·exact zny hv h
 ·exact znA hv h
 ·exact znB hv h
 ·exact zo6 hv h
end Go.Fw
namespace Go.Fw
open Go
variable [Pin]
theorem VRL.nil{J:Nat->Nat}{mem:List Root}:VRL J mem [] []:=by simp[VRL]
theorem VRL.cons{J:Nat->Nat}{mem:List Root}{c:V}{a:AV}{cs:List V}{as:List AV}(h:VR J mem c a)(h':VRL J mem cs as):VRL J mem (c:: cs) (a:: as):=by simp only[VRL];exact⟨a,as,rfl,h,h'⟩
mutual
theorem zp3(J:Nat->Nat)(mem:List Root):∀a:AV,VR J mem (V.ofAV a) a
|.int k n|.bool _|.str _|.e0|.nilp|.nilf=>by simp[V.ofAV,VR]
|.sl es []=>by simp[V.ofAV,VR]
|.agg cs=>by simp only[V.ofAV,VR];exact⟨cs,rfl,znh J mem cs⟩
|.fn f []=>by simp[V.ofAV,VR,VRL]
|.sl _ (_:: _)|.junk|.tup _|.ip _|.ms ..|.mp ..|.mapr _|.nilm|.opt _ _|.fn _ (_:: _)=>by simp[V.ofAV,VR]
theorem znh(J:Nat->Nat)(mem:List Root):∀as:List AV,VRL J mem (V.ofAVL as) as
|[]=>by simp[V.ofAVL,VRL]
|a:: as=>by simp only[V.ofAVL];exact .cons (zp3 J mem a) (znh J mem as)
end
theorem zgh(J:Nat->Nat)(mem:List Root):∀as:List AV,VRL J mem (zgq as) as
|[]=>VRL.nil
|a:: as=>.cons (zp3 J mem a) (zgh J mem as)
section
variable {J:Nat->Nat}{T:TS}{st:St}{mem:List Root}
theorem TR.ar(h:TR J T st)(x:Ar):VR J T.mem (arV T.env x) (ar st.env x):=by
 cases x with
 |t n=>exact h.env n
 |c v=>exact zp3 _ _ v
theorem zdl(n:N)(x:Nm n):AV.pureL (zdI n x)=true:=by cases n<;>simp[zdI,zdc,zh0,zd1,zdy,zfv,zhV,zjk,zfu,zdw,zkq,zkr,zkv,zjl,zkp,zjj,zdP,zdx,zkw,zeM,zeN,zeO,zgS]
theorem zlY(n:N)(x:Nm n):∀c∈zdI n x,c.isCell=true:=by cases n<;>simp[zdI,zdc,zh0,zd1,zdy,zfv,zhV,zjk,zfu,zdw,zkq,zkr,zkv,zjl,zkp,zjj,zdP,zdx,zkw,zeM,zeN,zeO,zgS]
theorem zcf(n:N)(x:Nm n):(zdI n x).length=n.sz:=by cases n<;>simp[zdI,N.sz,zdc,zh0,zd1,zdy,zfv,zhV,zjk,zfu,zdw,zkq,zkr,zkv,zjl,zkp,zjj,zdP,zdx,zkw,zeM,zeN,zeO,zgS]
theorem zcO(t:Ty)(x:TV t):(zap t x).length=t.sz:=by cases t<;>simp[zap,Ty.sz,zcf]
theorem zfG(t:Ty)(x:TV t):AV.pureL (zap t x)=true:=by cases t<;>simp[zap,zdl]
theorem zeg(t:Ty)(x:TV t):∀c∈zap t x,c.isCell=true:=by cases t<;>simp[zap];exact zlY _ _
theorem zbt(t:Ty)(x:TV t):VRL J mem (leafs t x) (zap t x):=by cases t<;>simp[leafs,zap,VRL,VR,zh4]
theorem VR.isC{v:V}{a:AV}(h:VR J mem v a)(hc:v.isC=true):a.isCell=true:=by
 cases v<;>simp only[V.isC]at hc<;>(try(cases hc;done))<;>simp only[VR]at h;all_goals first
  | (subst h;simp;done)
  | (obtain⟨as,rfl,_⟩:=h;simp;done)
  |skip
 ·simp only[zep]at h;split at h
  ·subst h;simp
  ·subst h;simp
  ·rcases h with⟨i,es,o,l,rfl⟩|⟨i,rfl⟩<;>simp
  ·exact h.elim
 ·simp only[zgr]at h;split at h
  ·obtain⟨rfl,_⟩:=h;simp
  ·obtain⟨i,es,o,l,rfl⟩:=h;simp
  ·exact h.elim
 ·simp only[mpR]at h;split at h
  ·subst h;simp
  ·obtain⟨rfl,_⟩:=h;simp
  ·obtain⟨i,q,o,rfl⟩:=h;simp
  ·exact h.elim
mutual
theorem VR.pur:∀{v:V}{a:AV},VR J mem v a->v.pur=true->a.pure=true
|.junk,_,_,h|.own _,_,_,h|.part ..,_,_,h|.mp ..,_,_,h=>by simp[V.pur]at h
|.int _ _,a,h,_|.bool _,a,h,_|.str _,a,h,_|.lst _ _,a,h,_|.nl _,a,h,_|.e0,a,h,_|.ep _ _,a,h,_|.nilp,a,h,_|.nilf,a,h,_=>by simp only[VR]at h;subst h;simp
|.st n x,a,h,_=>by simp only[VR]at h;subst h;simpa using zdl n x
|.ip cs,a,h,_=>by simp only[VR]at h;obtain⟨as,rfl,_⟩:=h;simp
|.agg cs,a,h,hp|.tup cs,a,h,hp|.fn _ cs,a,h,hp=>by simp only[VR]at h;obtain⟨as,rfl,h⟩:=h;simpa using VRL.pur h (by simpa[V.pur]using hp)
theorem VRL.pur:∀{cs:List V}{as:List AV},VRL J mem cs as->V.purL cs=true->AV.pureL as=true
|[],as,h,_=>by simp only[VRL]at h;subst h;simp
|c:: cs,as,h,hp=>by simp only[VRL]at h;obtain⟨a,as',rfl,h2,h3⟩:=h;simp only[V.purL,yhb]at hp;simp only[ziW,yhb];exact⟨VR.pur h2 hp.1,VRL.pur h3 hp.2⟩
end
theorem VR.cel{v:V}{a:AV}(h:VR J mem v a)(hc:v.cel.all V.isC=true):VRL J mem v.cel a.cells:=by
 have one:v.isC=true->VRL J mem [v] a.cells:=fun hi=>by have:=h.isC hi;cases a<;>simp at this<;>exact .cons h .nil
 cases v<;>first
  |exact one (by simpa[V.cel]using hc)
  |skip
 ·simp only[VR]at h;subst h;exact zh4 _ _
 ·simp only[VR]at h;obtain⟨as,rfl,h⟩:=h;exact h
theorem VRL.cells{cs:List V}{as:List AV}(h:VRL J mem cs as)(hc:cs.all V.isC=true):as.all AV.isCell=true:=by rw[List.all_eq_true];intro a ha;obtain⟨i,hi,rfl⟩:=List.getElem_of_mem ha;obtain⟨b,h1,h2⟩:=h.get i (cs[i]'(by rw[<-h.len];exact hi)) (ygb _);rw[ygb hi]at h1;cases h1;exact h2.isC (List.all_eq_true.1 hc _ (ygh _))
theorem VRL.cellp{cs:List V}{as:List AV}(h:VRL J mem cs as)(hc:cs.all V.isC=true)(hp:V.purL cs=true):(as.all fun c=>c.isCell&&c.pure)=true:=by have h1:=h.cells hc;have h2:=(AV.pureL_iff _).1 (h.pur hp);rw[List.all_eq_true]at h1|-;intro a ha;rw[h1 a ha,h2 a ha];rfl
end
end Go.Fw
namespace Go.Fw
open Go
variable [Pin]
def ze8(J:Nat->Nat)(k:K)(T:TS)(st:St)(v:V):Prop:=
 ∃p a,evK k st.env st.mem=some (p,a,st.mem)/\p/\VR J T.mem v a
section
variable {J:Nat->Nat}{T:TS}{st:St}{ρt:Type}{res:ρt}{an:An}{dr:Bool}{κ:V->List Root->Option ρt}
theorem zaG{b:Bool}{x:Option ρt}(h:gd b x=some res):b=true/\x=some res:=by cases b<;>simp[gd]at h|-;exact h
theorem zas{α:Type}{x:Option α}{f:α->Option ρt}(h:zaa x f=some res):∃a,x=some a/\f a=some res:=by simpa[zaa,ygc]using h
theorem zdF{mem:List Root}{cs:List V}{as:List AV}(h:VRL J mem cs as):VR J mem (zsq an cs) (.agg as):=by
 unfold zsq;split
 ·split
  ·split
   ·rename_i n _ _ x hx;simp only[VR];rw[zik h hx]
   ·simp only[VR];exact⟨as,rfl,h⟩
  ·simp only[VR];exact⟨as,rfl,h⟩
 ·simp only[VR];exact⟨as,rfl,h⟩
theorem zD2{x:Ar}(h:TR J T st)(he:evT dr an (.mv x) T.env T.mem κ =some res)(hn:∀t,¬(x=.c .e0/\an=.t (.lst t)/\dr=false))(hn':∀t os,¬(x=.c .e0/\an=.o t os/\dr=false)):
 ∃v,κ v T.mem=some res/\ze8 J (.mv x) T st v:=by
 have plain:∀{v},VR J T.mem v (ar st.env x)->ze8 J (.mv x) T st v:=fun hv=>⟨_,_,rfl,trivial,hv⟩
 simp only[evT]at he;split at he
 ·exact absurd ⟨rfl,rfl,rfl⟩ (hn _)
 ·exact absurd ⟨rfl,rfl,rfl⟩ (hn' _ _)
 ·split at he
  ·rename_i es t _ e;refine⟨_,he,plain ?_⟩;simp[VR,ar,e]
  ·cases he
 ·refine⟨_,he,plain ?_⟩;exact zdF (znh _ _ _)
 ·exact⟨_,he,plain (h.ar x)⟩
theorem zbN{n m:Nat}(h:Nat.beq n m=true):n=m:=Nat.eq_of_beq_eq_true h
theorem zbO{n m:Nat}(h:Nat.ble n m=true):n<=m:=Nat.le_of_ble_eq_true h
theorem zAY{c x y:Ar}(h:TR J T st)(he:evT dr an (.pick c x y) T.env T.mem κ =some res):∃v,κ v T.mem=some res/\ze8 J (.pick c x y) T st v:=by
 have h1:=h.ar c;have h2:=h.ar x;have h3:=h.ar y;simp only[evT]at he;split at he
 ·rename_i t u w e1 e2 e3;rw[e1]at h1;rw[e2]at h2;rw[e3]at h3;simp only[VR]at h1 h2 h3;exact⟨_,he,_,_,by simp only[evK,h1,h2,h3,zml];rfl,trivial,by simp only[VR]⟩
 ·rename_i t u e1 e2 e3;rw[e1]at h1;rw[e2]at h2;rw[e3]at h3;simp only[VR,VRL]at h1 h2 h3;obtain⟨as,h3,rfl⟩:=h3;obtain⟨g1,g2⟩:=zaG he;exact⟨_,g2,_,_,by simp only[evK,h1,h2,h3,zml];rfl,g1,by simp only[VR]⟩
 ·rename_i t u e1 e2 e3;rw[e1]at h1;rw[e2]at h2;rw[e3]at h3;simp only[VR,VRL]at h1 h2 h3;obtain⟨as,h2,rfl⟩:=h2;obtain⟨g1,g2⟩:=zaG he;exact⟨_,g2,_,_,by simp only[evK,h1,h2,h3,zml];rfl,by simpa using g1,by simp only[VR]⟩
 ·cases he
theorem zAN{n:Nat}{x:Ar}(h:TR J T st)(he:evT dr an (.boxi n x) T.env T.mem κ =some res):∃v,κ v T.mem=some res/\ze8 J (.boxi n x) T st v:=by
 have h1:=h.ar x;simp only[evT]at he;split at he
 ·rename_i m v e;rw[e]at h1;simp only[VR]at h1;split at he
  ·rename_i hz;refine⟨_,he,_,_,by simp only[evK,h1];rfl,?_,by simp[VR,AV.cells]⟩;refine⟨by simp[AV.cells,zcf,hz],?_⟩;have a:=(AV.pureL_iff _).1 (zdl m v);have b:=zlY m v;simp only[AV.cells,List.all_eq_true];intro c hc;rw[a c hc,b c hc];rfl
  ·cases he
 ·split at he
  ·rename_i e1 e2 e3;have hv:=h1.cel e3;refine⟨_,he,_,_,by simp only[evK];rfl,?_,by simp only[VR];exact⟨_,rfl,hv⟩⟩;exact⟨by rw[hv.len];exact zbN e1,hv.cellp e3 e2⟩
  ·cases he
theorem zAX{x:Ar}(h:TR J T st)(he:evT dr an (.nilc x) T.env T.mem κ =some res):∃v,κ v T.mem=some res/\ze8 J (.nilc x) T st v:=by
 have h1:=h.ar x;simp only[evT]at he;split at he
 ·rename_i cs e;rw[e]at h1;have h1':=h1;simp only[VR]at h1;obtain⟨as,e2,h2⟩:=h1;exact⟨_,he,_,_,by simp only[evK,e2],trivial,e2 ▸ h1'⟩
 ·rename_i n v e;rw[e]at h1;have h1':=h1;simp only[VR]at h1;exact⟨_,he,_,_,by simp only[evK,h1],trivial,h1 ▸ h1'⟩
 ·rename_i r row off e;rw[e]at h1;have h1':=h1;have:∃i q o,ar st.env x=.mp i q o:=by
   simp only[VR,mpR]at h1;split at h1
   ·exact⟨_,_,_,h1⟩
   ·exact⟨_,_,_,h1.1⟩
   ·exact h1
   ·exact h1.elim
  obtain⟨i,q,o,e2⟩:=this;exact⟨_,he,_,_,by simp only[evK,e2],trivial,e2 ▸ h1'⟩
 ·cases he
theorem zB5{op:BinOp}{x y:Ar}(h:TR J T st)(he:evT dr an (.beq op x y) T.env T.mem κ =some res):∃v,κ v T.mem=some res/\ze8 J (.beq op x y) T st v:=by
 have h1:=h.ar x;have h2:=h.ar y;simp only[evT]at he;split at he
 ·rename_i a b e1 e2;rw[e1]at h1;rw[e2]at h2;simp only[VR]at h1 h2;exact⟨_,he,_,_,by simp only[evK,h1,h2];rfl,trivial,by simp only[VR]⟩
 ·rename_i a b e1 e2;rw[e1]at h1;rw[e2]at h2;simp only[VR]at h1 h2;exact⟨_,he,_,_,by simp only[evK,h1,h2];rfl,trivial,by simp only[VR]⟩
 ·cases he
theorem zmD{J:Nat->Nat}{mem:List Root}{v:V}{a:AV}{cs:List V}(h:zzK v=some cs)(hv:VR J mem v a):∃as,a=.agg as/\VRL J mem cs as:=by
 cases v with
 |st n x=>simp only[zzK,Option.some.injEq]at h;subst h;simp only[VR]at hv;exact⟨_,hv,zh4 n x⟩
 |agg cs'=>simp only[zzK,Option.some.injEq]at h;subst h;simpa only[VR]using hv
 |_=>simp[zzK]at h
theorem zqT{J:Nat->Nat}{mem:List Root}:∀(ks:List Nat)(cs ds:List V)(as bs:List AV)(b:Bool),VRL J mem cs as->VRL J mem ds bs->zx8 ks cs ds=some b->eqA ks as bs=some b:=by
 intro ks cs ds;fun_induction zx8 ks cs ds with
 |case1=>intro as bs b h1 h2 h;simp only[VRL]at h1 h2;subst h1 h2;simpa[eqA]using h
 |case2 ks k n l m l' ih=>intro as bs b h1 h2 h;simp only[VRL,VR]at h1 h2;obtain⟨_,as',rfl,rfl,h1⟩:=h1;obtain⟨_,bs',rfl,rfl,h2⟩:=h2;simp only[ygc,Option.some.injEq]at h;obtain⟨r,hr,rfl⟩:=h;simp[eqA,ih as' bs' r h1 h2 hr]
 |case3=>intro as bs b _ _ h;cases h
 |case4 ks x l y l' ih=>intro as bs b h1 h2 h;simp only[VRL,VR]at h1 h2;obtain⟨_,as',rfl,rfl,h1⟩:=h1;obtain⟨_,bs',rfl,rfl,h2⟩:=h2;simp only[ygc,Option.some.injEq]at h;obtain⟨r,hr,rfl⟩:=h;simp[eqA,ih as' bs' r h1 h2 hr]
 |case5 ks x l y l' ih=>intro as bs b h1 h2 h;simp only[VRL,VR]at h1 h2;obtain⟨_,as',rfl,rfl,h1⟩:=h1;obtain⟨_,bs',rfl,rfl,h2⟩:=h2;simp only[ygc,Option.some.injEq]at h;obtain⟨r,hr,rfl⟩:=h;simp[eqA,ih as' bs' r h1 h2 hr]
 |case6=>intro as bs b _ _ h;cases h
theorem zB8{op:BinOp}{ks:List Nat}{x y:Ar}(h:TR J T st)(he:evT dr an (.eqs op ks x y) T.env T.mem κ =some res):∃v,κ v T.mem=some res/\ze8 J (.eqs op ks x y) T st v:=by
 have h1:=h.ar x;have h2:=h.ar y;simp only[evT]at he;split at he
 ·rename_i cs ds e1 e2;obtain⟨as,q1,q2⟩:=zmD e1 h1;obtain⟨bs,q3,q4⟩:=zmD e2 h2;simp only[ygc]at he;obtain⟨b,hb,he⟩:=he;have:=zqT ks cs ds as bs b q2 q4 hb;exact⟨_,he,_,_,by simp only[evK,q1,q3,this];rfl,trivial,by simp only[VR]⟩
 ·rename_i cs ds e1 e2;obtain⟨as,q1,q2⟩:=zmD e1 h1;obtain⟨bs,q3,q4⟩:=zmD e2 h2;simp only[ygc]at he;obtain⟨b,hb,he⟩:=he;have:=zqT ks cs ds as bs b q2 q4 hb;exact⟨_,he,_,_,by simp only[evK,q1,q3,this];rfl,trivial,by simp only[VR]⟩
 ·cases he
theorem zCh{x:Ar}(h:TR J T st)(he:evT dr an (.not x) T.env T.mem κ =some res):∃v,κ v T.mem=some res/\ze8 J (.not x) T st v:=by
 have h1:=h.ar x;simp only[evT]at he;split at he
 ·rename_i b e;rw[e]at h1;simp only[VR]at h1;exact⟨_,he,_,_,by simp only[evK,h1];rfl,trivial,by simp only[VR]⟩
 ·cases he
theorem zCb{ne:Bool}{x:Ar}(h:TR J T st)(he:evT dr an (.isn ne x) T.env T.mem κ =some res):∃v,κ v T.mem=some res/\ze8 J (.isn ne x) T st v:=by
 have h1:=h.ar x;simp only[evT]at he;split at he
 ·rename_i f b e;rw[e]at h1;simp only[VR,VRL]at h1;obtain⟨_,h1,_,_,rfl,rfl,rfl⟩:=h1;split at he
  ·rename_i hf;exact⟨_,he,_,_,by simp only[evK,h1];rfl,Nat.eq_of_beq_eq_true hf,by simp only[VR]⟩
  ·cases he
 ·cases he
theorem zyh{n:Int}(h:zaH n=true):InR .i64 n:=by simp only[zaH,yhb,yhc]at h;simpa using h
theorem zef{k:IntKind}{n:Int}{κ:V->Option ρt}(h:zj9 k n κ =some res):∃v,κ v=some res/\(zbF k n).1/\v=.int k (match k with|.i64=>n|k=>k.wrap n)/\(zbF k n).2=.int k (match k with|.i64=>n|k=>k.wrap n):=by
 cases k<;>simp only[zj9]at h;all_goals first
  | (obtain⟨g1,g2⟩:=zaG h;exact⟨_,g2,zyh g1,rfl,rfl⟩)
  |exact⟨_,h,trivial,rfl,rfl⟩
theorem zCg{x:Ar}(h:TR J T st)(he:evT dr an (.neg x) T.env T.mem κ =some res):∃v,κ v T.mem=some res/\ze8 J (.neg x) T st v:=by
 have h1:=h.ar x;simp only[evT]at he;split at he
 ·rename_i k n e;rw[e]at h1;simp only[VR]at h1;obtain⟨v,g1,g2,g3,g4⟩:=zef he;exact⟨v,g1,_,_,by simp only[evK,h1];rfl,g2,by rw[g3,g4];simp only[VR]⟩
 ·cases he
theorem zAR{k:IntKind}{x:Ar}(h:TR J T st)(he:evT dr an (.conv k x) T.env T.mem κ =some res):∃v,κ v T.mem=some res/\ze8 J (.conv k x) T st v:=by
 have h1:=h.ar x;simp only[evT]at he;split at he
 ·rename_i k n e;rw[e]at h1;simp only[VR]at h1;exact⟨_,he,_,_,by simp only[evK,h1];rfl,trivial,by simp only[VR]⟩
 ·cases he
theorem zD3{b:Bool}{x y:Ar}(h:TR J T st)(he:evT dr an (.mx b x y) T.env T.mem κ =some res):∃v,κ v T.mem=some res/\ze8 J (.mx b x y) T st v:=by
 have h1:=h.ar x;have h2:=h.ar y;simp only[evT]at he;split at he
 ·rename_i k m k' n e1 e2;rw[e1]at h1;rw[e2]at h2;simp only[VR]at h1 h2;split at he
  ·rename_i hk;exact⟨_,he,_,_,by simp only[evK,h1,h2];rfl,hk,by simp only[VR]⟩
  ·cases he
 ·cases he
theorem zAT{x:Ar}(h:TR J T st)(he:evT dr an (.lens x) T.env T.mem κ =some res):∃v,κ v T.mem=some res/\ze8 J (.lens x) T st v:=by
 have h1:=h.ar x;simp only[evT]at he;split at he
 ·rename_i s e;rw[e]at h1;simp only[VR]at h1;exact⟨_,he,_,_,by simp only[evK,h1];rfl,trivial,by simp only[VR]⟩
 ·cases he
theorem zAS{x:Ar}(h:TR J T st)(he:evT dr an (.lenl x) T.env T.mem κ =some res):∃v,κ v T.mem=some res/\ze8 J (.lenl x) T st v:=by
 have h1:=h.ar x;simp only[evT]at he;split at he
 ·rename_i t xs e;rw[e]at h1;simp only[VR]at h1;exact⟨_,he,_,_,by simp only[evK,h1];rfl,trivial,by simp[VR]⟩
 ·rename_i r e;rw[e]at h1;split at he
  ·rename_i t xs e2;simp only[VR,zep,e2]at h1;exact⟨_,he,_,_,by simp only[evK,h1];rfl,trivial,by simp only[VR]⟩
  ·cases he
 ·rename_i r off len e;rw[e]at h1;split at he
  ·rename_i t xs e2;simp only[VR,zgr,e2]at h1;exact⟨_,he,_,_,by simp only[evK,h1.1];rfl,trivial,by simp only[VR]⟩
  ·cases he
 ·rename_i e;rw[e]at h1;simp only[VR]at h1;exact⟨_,he,_,_,by simp only[evK,h1];rfl,trivial,by simp only[VR]⟩
 ·rename_i e;rw[e]at h1;simp only[VR]at h1;exact⟨_,he,_,_,by simp only[evK,h1];rfl,trivial,by simp[VR]⟩
 ·cases he
theorem zB9{x:Ar}{i:Nat}(h:TR J T st)(he:evT dr an (.ext x i) T.env T.mem κ =some res):∃v,κ v T.mem=some res/\ze8 J (.ext x i) T st v:=by
 have h1:=h.ar x;simp only[evT]at he;split at he
 ·rename_i vs e;rw[e]at h1;simp only[VR]at h1;obtain⟨as,e2,h2⟩:=h1;split at he
  ·rename_i v hv;obtain⟨a,g1,g2⟩:=h2.get i v hv;exact⟨_,he,_,_,by simp only[evK,e2,g1],trivial,g2⟩
  ·cases he
 ·cases he
theorem VRL.map{env:List (Nat×V)}{env':List (Nat×AV)}{mem:List Root}(h:∀x,VR J mem (arV env x) (ar env' x)):∀xs:List Ar,VRL J mem (xs.map (arV env)) (xs.map (ar env'))
|[]=>VRL.nil
|x:: xs=>VRL.cons (h x) (VRL.map h xs)
theorem zAV{f:FuncId}{xs:List Ar}(h:TR J T st)(he:evT dr an (.mkfn f xs) T.env T.mem κ =some res):∃v,κ v T.mem=some res/\ze8 J (.mkfn f xs) T st v:=by simp only[evT]at he;exact⟨_,he,_,_,by simp only[evK];rfl,trivial,by simp only[VR];exact⟨_,rfl,VRL.map h.ar xs⟩⟩
theorem zD0{off:Nat}{x:Ar}(h:TR J T st)(he:evT dr an (.fa off x) T.env T.mem κ =some res):∃v,κ v T.mem=some res/\ze8 J (.fa off x) T st v:=by
 have h1:=h.ar x;simp only[evT]at he;split at he
 ·rename_i n v e;rw[e]at h1;simp only[VR]at h1;split at he
  ·rename_i e2;exact⟨_,he,_,_,by simp only[evK,h1];rfl,by rw[zcf];exact zbO e2,by simp only[VR];exact⟨_,rfl,(zh4 n v).drop off⟩⟩
  ·cases he
 ·rename_i cs e;rw[e]at h1;simp only[VR]at h1;obtain⟨as,e2,h2⟩:=h1;split at he
  ·rename_i e3;exact⟨_,he,_,_,by simp only[evK,e2];rfl,by rw[h2.len];exact zbO e3,by simp only[VR];exact⟨_,rfl,h2.drop off⟩⟩
  ·cases he
 ·rename_i r row o e;rw[e]at h1;have:∃i q p,ar st.env x=.mp i q p/\VR J T.mem (.mp r row (o+off)) (.mp i q (p+off)):=by
   simp only[VR,mpR]at h1|-;split at h1
   ·exact⟨_,_,_,h1,rfl⟩
   ·exact⟨_,_,_,h1.1,rfl,h1.2⟩
   ·obtain⟨i,q,p,h1⟩:=h1;exact⟨_,_,_,h1,_,_,_,rfl⟩
   ·exact h1.elim
  obtain⟨i,q,p,e2,h2⟩:=this;exact⟨_,he,_,_,by simp only[evK,e2],trivial,h2⟩
 ·cases he
theorem zza{off:Nat}{n:Option Nat}{x:Ar}(h:TR J T st)(he:evT dr an (.field off n x) T.env T.mem κ =some res):∃v,κ v T.mem=some res/\ze8 J (.field off n x) T st v:=by
 have h1:=h.ar x;cases n with
 |none=>
  simp only[evT]at he;split at he
  ·rename_i n v e;rw[e]at h1;simp only[VR]at h1;split at he
   ·rename_i c hc;obtain⟨a,g1,g2⟩:=(zh4 (J:=J) (mem:=T.mem) n v).get off c hc;exact⟨_,he,_,_,by simp only[evK,h1,g1],trivial,g2⟩
   ·cases he
  ·rename_i cs e;rw[e]at h1;simp only[VR]at h1;obtain⟨as,e2,h2⟩:=h1;split at he
   ·rename_i c hc;obtain⟨a,g1,g2⟩:=h2.get off c hc;exact⟨_,he,_,_,by simp only[evK,e2,g1],trivial,g2⟩
   ·cases he
  ·cases he
 |some n=>
  simp only[evT]at he;split at he
  ·rename_i m v e;rw[e]at h1;simp only[VR]at h1;split at he
   ·rename_i e2;exact⟨_,he,_,_,by simp only[evK,h1];rfl,by rw[zcf];exact zbO e2,zdF (((zh4 m v).drop off).take n)⟩
   ·cases he
  ·rename_i cs e;rw[e]at h1;simp only[VR]at h1;obtain⟨as,e2,h2⟩:=h1;split at he
   ·rename_i e3;exact⟨_,he,_,_,by simp only[evK,e2];rfl,by rw[h2.len];exact zbO e3,zdF ((h2.drop off).take n)⟩
   ·cases he
  ·cases he
end
end Go.Fw
