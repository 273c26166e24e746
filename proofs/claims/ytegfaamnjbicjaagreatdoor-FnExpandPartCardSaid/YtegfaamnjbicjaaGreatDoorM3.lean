/- A part of the proof: what stands for the program, its functions, and what they come to. -/
import Derived.Test.YtegfaamnjbicjaaGreatDoorM2
set_option linter.all false
namespace Go.Fw
open Go
variable [Pin]
section
variable {J:Nat->Nat}{T:TS}{st:St}{ρt:Type}{res:ρt}{an:An}{dr:Bool}{κ:V->List Root->Option ρt}
theorem zpF{mem:List Root}{env:List (Nat×V)}{env':List (Nat×AV)}(h:∀x,(arV env x).cel.all V.isC=true->VRL J mem (arV env x).cel (ar env' x).cells):∀(ps:List (Nat×Nat×Ar))(zs:List V)(as:List AV),(ps.all fun(o,s,x)=>Nat.beq (arV env x).cel.length s&&(arV env x).cel.all V.isC&&Nat.ble (o+s) zs.length)=true->VRL J mem zs as->
 VRL J mem (zvT zs (ps.map fun(o,_,x)=>(o,(arV env x).cel))) (zlx as (ps.map fun(o,_,x)=>(o,(ar env' x).cells)))/\
 (ps.all fun(o,s,x)=>(ar env' x).cells.length==s&&(ar env' x).cells.all AV.isCell&&decide (o+s<=as.length))=true
 |[],zs,as,_,hz=>⟨hz,rfl⟩
 | (o,s,x):: ps,zs,as,hc,hz=>by
  simp only[List.all_cons,yhb]at hc;obtain⟨⟨⟨h1,h2⟩,h3⟩,h4⟩:=hc;have hv:=h x h2;have e1:=zbN h1;have e3:=zbO h3;have hz':VRL J mem (zs.take o++(arV env x).cel++zs.drop (o+(arV env x).cel.length)) (as.take o++(ar env' x).cells++as.drop (o+(ar env' x).cells.length)):=by rw[hv.len];exact((hz.take o).append hv).append (hz.drop _)
  have hl:(zs.take o++(arV env x).cel++zs.drop (o+(arV env x).cel.length)).length=zs.length:=by simp;omega
  obtain⟨q1,q2⟩:=zpF h ps _ _ (by rw[hl];exact h4) hz';have hl':(as.take o++(ar env' x).cells++as.drop (o+(ar env' x).cells.length)).length=as.length:=by rw[hz'.len,hl,hz.len]
  rw[hl']at q2;refine⟨q1,?_⟩;simp only[List.all_cons,yhb,yhe,yhc];exact⟨⟨⟨by rw[hv.len,e1],hv.cells h2⟩,by rw[hz.len];exact e3⟩,q2⟩
theorem zy9{zs:List AV}{ps:List (Nat×Nat×Ar)}(h:TR J T st)(he:evT dr an (.build zs ps) T.env T.mem κ =some res):∃v,κ v T.mem=some res/\ze8 J (.build zs ps) T st v:=by
 simp only[evT]at he;split at he
 ·rename_i hc;have hzl:(zgq zs).length=zs.length:=by simp[zgq]
  obtain⟨q1,q2⟩:=zpF (J:=J) (mem:=T.mem) (env:=T.env) (env':=st.env) (fun x hx=>(h.ar x).cel hx) ps (zgq zs) zs (by rw[hzl];exact hc) (zgh _ _ _);refine⟨_,he,_,_,by simp only[evK];rfl,q2,?_⟩;exact zdF q1
 ·cases he
theorem zA2{mem:List Root}{t:Ty}{v:V}{a:AV}{x:TV t}(hv:VR J mem v a)(h:v.to t=some x):a.cells=zap t x:=by
 have leaf:v.toL t=some x->a.cells=zap t x:=fun hl=>by have e:=zag hv hl;have:=zeg t x a (by rw[e];simp);rw[e];cases a<;>simp at this<;>rfl
 cases t with
 |nm n=>
  cases v<;>simp only[V.to]at h<;>(try(cases h;done))
  ·split at h
   ·rename_i e;subst e;cases h;simp only[VR]at hv;subst hv;rfl
   ·cases h
  ·simp only[VR]at hv;obtain⟨as,rfl,hv⟩:=hv;exact zik hv h
 |int k=>exact leaf h
 |bool=>exact leaf h
 |str=>exact leaf h
 |lst t=>exact leaf h
theorem znt{mem:List Root}{env:List (Nat×V)}{env':List (Nat×AV)}(h:∀x,VR J mem (arV env x) (ar env' x))(t:Ty):∀(ps:List Ar)(xs:List (TV t)),zzU env t ps=some xs->
 ps.map (fun x=>(ar env' x).cells)=xs.map (zap t)
 |[],xs,hx=>by simp[zzU]at hx;subst hx;rfl
 |p:: ps,xs,hx=>by simp only[zzU,ygc]at hx;obtain⟨y,h1,ys,h2,h3⟩:=hx;cases h3;simp only[List.map_cons];rw[zA2 (h p) h1,znt h t ps ys h2]
theorem znU{α:Type}{ps:List α}{f:α->List AV}{t:Ty}{xs:List (TV t)}{es:Nat}(h:ps.map f=xs.map (zap t))(hz:t.sz=es):
 (ps.all fun x=>(f x).length==es&&(f x).all fun c=>c.isCell&&c.pure)=true/\(ps.all fun x=>(f x).length==es&&(f x).all AV.isCell)=true:=by
 have:∀p∈ps,∃x,f p=zap t x:=fun p hp=>by have:f p∈ps.map f:=List.mem_map.2 ⟨p,hp,rfl⟩;rw[h]at this;obtain⟨x,_,hx⟩:=List.mem_map.1 this;exact⟨x,hx.symm⟩
 constructor
 ·rw[List.all_eq_true];intro p hp;obtain⟨x,hx⟩:=this p hp;have a:=(AV.pureL_iff _).1 (zfG t x);have b:=zeg t x;simp only[hx,zcO,hz,beq_self_eq_true,Bool.true_and,List.all_eq_true];intro c hc;rw[a c hc,b c hc];rfl
 ·rw[List.all_eq_true];intro p hp;obtain⟨x,hx⟩:=this p hp;have b:=zeg t x;simp only[hx,zcO,hz,beq_self_eq_true,Bool.true_and,List.all_eq_true];exact b
theorem zB7{es:Nat}{ps:List Ar}(h:TR J T st)(he:evT dr an (.bsl es ps) T.env T.mem κ =some res):∃v,κ v T.mem=some res/\ze8 J (.bsl es ps) T st v:=by
 simp only[evT]at he;split at he
 ·rename_i t;split at he
  ·rename_i hz;simp only[ygc]at he;obtain⟨xs,h1,h2⟩:=he;have e:=znt h.ar t ps xs h1;refine⟨_,h2,_,_,by simp only[evK];rfl,(znU e hz).1,?_⟩;simp only[VR,e,hz]
  ·cases he
 ·cases he
theorem zB6{op:BinOp}{x y:Ar}(h:TR J T st)(he:evT dr an (.bin op x y) T.env T.mem κ =some res):∃v,κ v T.mem=some res/\ze8 J (.bin op x y) T st v:=by
 have h1:=h.ar x;have h2:=h.ar y;simp only[evT]at he;have fin:∀{p:Prop}{a:AV}{v:V},ziH op (ar st.env x) (ar st.env y)=some (p,a)->p->VR J T.mem v a->κ v T.mem=some res->∃v,κ v T.mem=some res/\ze8 J (.bin op x y) T st v:=fun e hp hv hk=>⟨_,hk,_,_,by simp only[evK,e],hp,hv⟩
 unfold zCu at he;split at he
 ·rename_i k a k' b e1 e2;rw[e1]at h1;rw[e2]at h2;simp only[VR]at h1 h2;split at he
  ·rename_i hk;subst hk;cases op<;>simp only[reduceCtorEq]at he;case add=>obtain⟨v,g1,g2,g3,g4⟩:=zef he;exact fin (by simp only[h1,h2,ziH];rfl) (by exact⟨trivial,g2⟩) (by rw[g3,g4];simp only[VR]) g1
   case sub=>obtain⟨v,g1,g2,g3,g4⟩:=zef he;exact fin (by simp only[h1,h2,ziH];rfl) (by exact⟨trivial,g2⟩) (by rw[g3,g4];simp only[VR]) g1
   case mul=>obtain⟨v,g1,g2,g3,g4⟩:=zef he;exact fin (by simp only[h1,h2,ziH];rfl) (by exact⟨trivial,g2⟩) (by rw[g3,g4];simp only[VR]) g1
   case quo=>obtain⟨g0,he⟩:=zaG he;obtain⟨v,g1,g2,g3,g4⟩:=zef he;exact fin (by simp only[h1,h2,ziH];rfl) (by exact⟨trivial,by simpa using g0,g2⟩) (by rw[g3,g4];simp only[VR]) g1
   case rem=>obtain⟨g0,he⟩:=zaG he;exact fin (by simp only[h1,h2,ziH];rfl) (by exact⟨trivial,by simpa using g0⟩) (by simp only[VR]) he
   all_goals exact fin (by simp only[h1,h2,ziH];rfl) (by trivial) (by simp only[VR]) he
  ·cases he
 ·rename_i a b e1 e2;rw[e1]at h1;rw[e2]at h2;simp only[VR]at h1 h2;cases op<;>simp only[reduceCtorEq]at he;case add=>obtain⟨g0,he⟩:=zaG he;exact fin (by simp only[h1,h2,ziH];rfl) (by simpa using g0) (by simp only[VR]) he
  all_goals exact fin (by simp only[h1,h2,ziH];rfl) trivial (by simp only[VR]) he
 ·cases he
 ·cases he
theorem ze9{d:Int}{x:Option Ar}{n:Int}(h:TR J T st)(hb:zqG T.env d x=some n):bnd st.env d x=some n:=by
 cases x with
 |none=>exact hb
 |some a=>
  have h1:=h.ar a;simp only[zqG]at hb;split at hb
  ·rename_i k m e;rw[e]at h1;simp only[VR]at h1;cases hb;simp only[bnd,h1]
  ·cases hb
theorem zCk{x:Ar}{lo hi:Option Ar}(h:TR J T st)(he:evT dr an (.sub x lo hi) T.env T.mem κ =some res):∃v,κ v T.mem=some res/\ze8 J (.sub x lo hi) T st v:=by
 have h1:=h.ar x;simp only[evT]at he;split at he
 ·rename_i s e;rw[e]at h1;simp only[VR]at h1;simp only[ygc]at he;obtain⟨l,hl,u,hu,he⟩:=he;obtain⟨g0,he⟩:=zaG he;simp only[yhb,yhc]at g0;exact⟨_,he,_,_,by simp only[evK,h1,ze9 h hl,ze9 h hu];rfl,by exact⟨g0.1.1,g0.1.2,g0.2⟩,by simp only[VR]⟩
 ·cases he
theorem zCj{sz:Nat}{x:Ar}{lo hi:Option Ar}(h:TR J T st)(he:evT dr an (.slc sz x lo hi) T.env T.mem κ =some res):∃v,κ v T.mem=some res/\ze8 J (.slc sz x lo hi) T st v:=by
 have h1:=h.ar x;simp only[evT]at he;split at he
 ·rename_i t xs e;rw[e]at h1;simp only[VR]at h1;split at he
  ·rename_i hz;simp only[ygc]at he;obtain⟨l,hl,u,hu,he⟩:=he;obtain⟨g0,he⟩:=zaG he;simp only[yhb,yhc]at g0;have hu':=ze9 h hu;refine⟨_,he,_,_,by simp only[evK,h1,ze9 h hl,List.length_map,hu'];rfl,by exact⟨hz.symm,g0.1.1,g0.1.2,by simpa using g0.2⟩,?_⟩;simp only[VR,List.map_take,List.map_drop]
  ·cases he
 ·rename_i r e;rw[e]at h1;split at he
  ·rename_i t xs e2;simp only[VR,zep,e2]at h1;split at he
   ·rename_i hz;simp only[ygc]at he;obtain⟨l,hl,u,hu,he⟩:=he;obtain⟨g0,he⟩:=zaG he;simp only[yhb,yhc]at g0;refine⟨_,he,_,_,by simp only[evK,h1,ze9 h hl,ze9 h hu];rfl,by exact⟨hz.symm,g0.1.1,g0.1.2,g0.2⟩,?_⟩;simp only[VR,zgr,e2,Nat.zero_add,yhn];omega
   ·cases he
  ·cases he
 ·rename_i r off len e;rw[e]at h1;split at he
  ·rename_i t xs e2;simp only[VR,zgr,e2]at h1;obtain⟨h1,h2⟩:=h1;split at he
   ·rename_i hz;simp only[ygc]at he;obtain⟨l,hl,u,hu,he⟩:=he;obtain⟨g0,he⟩:=zaG he;simp only[yhb,yhc]at g0;refine⟨_,he,_,_,by simp only[evK,h1,ze9 h hl,ze9 h hu];rfl,by exact⟨hz.symm,g0.1.1,g0.1.2,g0.2⟩,?_⟩;simp only[VR,zgr,e2,yhn];omega
   ·cases he
  ·cases he
 ·rename_i e;rw[e]at h1;simp only[VR]at h1;simp only[ygc]at he;obtain⟨l,hl,u,hu,he⟩:=he;obtain⟨g0,he⟩:=zaG he;simp only[yhb,yhe]at g0;exact⟨_,he,_,_,by simp only[evK,h1,ze9 h hl,ze9 h hu];rfl,g0,by simp only[VR]⟩
 ·rename_i es e;rw[e]at h1;simp only[VR]at h1;split at he
  ·rename_i hz;simp only[ygc]at he;obtain⟨l,hl,u,hu,he⟩:=he;obtain⟨g0,he⟩:=zaG he;simp only[yhb,yhe]at g0;obtain⟨rfl,rfl⟩:=g0;exact⟨_,he,_,_,by simp only[evK,h1,ze9 h hl,yht,Int.natCast_zero,ze9 h hu];rfl,by exact⟨hz.symm,by omega,by omega,by simp⟩,by simp[VR]⟩
  ·cases he
 ·cases he
theorem zwr{mem:List Root}(t:Ty)(x:TV t):VR J mem (zy2 t x) (.ip (zap t x)):=by cases t<;>simp[zy2,VR,VRL,zap]
theorem zD1{es:Nat}{x i:Ar}(h:TR J T st)(he:evT dr an (.ia es x i) T.env T.mem κ =some res):∃v,κ v T.mem=some res/\ze8 J (.ia es x i) T st v:=by
 have h1:=h.ar x;have h2:=h.ar i;simp only[evT]at he;split at he
 ·rename_i t xs k n e1 e2;rw[e1]at h1;rw[e2]at h2;simp only[VR]at h1 h2;split at he
  ·rename_i hz;obtain⟨g0,he⟩:=zaG he;obtain⟨v,hv,he⟩:=zas he;have hlt:=(yga.1 hv).1;have g0:0<=n:=by simpa using g0
   refine⟨_,he,_,_,by simp only[evK,h1,h2];rfl,by exact⟨hz,g0,by simp;omega⟩,?_⟩;have:nth (xs.map (zap t)) n.toNat=zap t v:=by simp[nth,hv]
   rw[this];exact zwr t v
  ·cases he
 ·rename_i r k n e1 e2;rw[e1]at h1;rw[e2]at h2;simp only[VR]at h2;split at he
  ·rename_i t xs e3;simp only[VR,zep,e3]at h1;split at he
   ·rename_i hz;obtain⟨g0,he⟩:=zaG he;simp only[yhb,yhc]at g0;exact⟨_,he,_,_,by simp only[evK,h1,h2];rfl,by exact⟨hz,g0.1,g0.2⟩,by simp only[VR,mpR,e3,Nat.zero_add]⟩
   ·cases he
  ·cases he
 ·rename_i r off len k n e1 e2;rw[e1]at h1;rw[e2]at h2;simp only[VR]at h2;split at he
  ·rename_i t xs e3;simp only[VR,zgr,e3]at h1;split at he
   ·rename_i hz;obtain⟨g0,he⟩:=zaG he;simp only[yhb,yhc]at g0;exact⟨_,he,_,_,by simp only[evK,h1.1,h2];rfl,by exact⟨hz,g0.1,g0.2⟩,by simp only[VR,mpR,e3]⟩
   ·cases he
  ·cases he
 ·cases he
theorem zCa{x i:Ar}(h:TR J T st)(he:evT dr an (.idx x i) T.env T.mem κ =some res):∃v,κ v T.mem=some res/\ze8 J (.idx x i) T st v:=by
 have h1:=h.ar x;have h2:=h.ar i;simp only[evT]at he;split at he
 ·rename_i s k n e1 e2;rw[e1]at h1;rw[e2]at h2;simp only[VR]at h1 h2;obtain⟨g0,he⟩:=zaG he;obtain⟨v,hv,he⟩:=zas he;have hlt:=(yga.1 hv).1;have g0:0<=n:=by simpa using g0
  refine⟨_,he,_,_,by simp only[evK,h1,h2];rfl,by exact⟨g0,by omega⟩,?_⟩;have:s.getD n.toNat 0=v:=by simp[List.getD,hv]
  rw[this];simp only[VR,zaI]
 ·cases he
theorem zqc{t:Ty}{x:Ar}{xs:List (TV t)}(h:TR J T st)(hx:zuA T.mem t (arV T.env x)=some xs):zbP st.mem t.sz (ar st.env x)=some (xs.map (zap t)):=by
 have h1:=h.ar x;unfold zuA at hx;split at hx
 ·rename_i t' ys e;rw[e]at h1;simp only[VR]at h1;split at hx
  ·rename_i ht;subst ht;cases hx;simp[h1,zbP]
  ·cases hx
 ·rename_i es e;rw[e]at h1;simp only[VR]at h1;split at hx
  ·rename_i ht;subst ht;cases hx;simp[h1,zbP]
  ·cases hx
 ·rename_i e;rw[e]at h1;simp only[VR]at h1;cases hx;simp[h1,zbP]
 ·rename_i r e;rw[e]at h1;split at hx
  ·rename_i t' ys e2;simp only[VR,zep,e2]at h1;split at hx
   ·rename_i ht;subst ht;cases hx;have:=h.arr r _ _ e2;simp only[h1,zbP,this,Nat.zero_add,List.length_map,Nat.le_refl,and_self,if_true,List.drop_zero];congr 1;exact List.take_of_length_le (by simp)
   ·cases hx
  ·cases hx
 ·rename_i r off len e;rw[e]at h1;split at hx
  ·rename_i t' ys e2;simp only[VR,zgr,e2]at h1;split at hx
   ·rename_i ht;subst ht;cases hx;have:=h.arr r _ _ e2;simp only[h1.1,zbP,this,List.length_map,h1.2,and_self,if_true,List.map_take,List.map_drop]
   ·cases hx
  ·cases hx
 ·cases hx
theorem zB4{x:Ar}(h:TR J T st)(he:evT dr an (.b2s x) T.env T.mem κ =some res):∃v,κ v T.mem=some res/\ze8 J (.b2s x) T st v:=by
 simp only[evT,ygc]at he;obtain⟨xs,h1,he⟩:=he;obtain⟨g0,he⟩:=zaG he;have:=zqc h h1;simp only[Ty.sz]at this;refine⟨_,he,_,_,by simp only[evK,this];rfl,by exact⟨by simp[List.all_eq_true,isB,zap],by simpa using g0⟩,?_⟩
 ·simp only[VR,List.map_map];congr 1
theorem zCi{x:Ar}(h:TR J T st)(he:evT dr an (.s2b x) T.env T.mem κ =some res):∃v,κ v T.mem=some res/\ze8 J (.s2b x) T st v:=by
 have h1:=h.ar x;simp only[evT]at he;split at he
 ·rename_i s e;rw[e]at h1;simp only[VR]at h1;refine⟨_,he,_,_,by simp only[evK,h1];rfl,trivial,?_⟩;simp only[VR,List.map_map];congr 1
 ·cases he
theorem zAU{n:Option Nat}{x:Ar}(h:TR J T st)(hno:∀r row off t xs w,arV T.env x=.mp r row off->T.mem[r]? =some (.arr t xs w)->w=.no)(he:evT dr an (.load n x) T.env T.mem κ =some res):∃v,κ v T.mem=some res/\ze8 J (.load n x) T st v:=by
 have h1:=h.ar x;cases n with
 |none=>
  simp only[evT]at he;split at he
  ·rename_i c cs e;rw[e]at h1;simp only[VR,VRL]at h1;obtain⟨as,e2,a,as',rfl,h2,h3⟩:=h1;exact⟨_,he,_,_,by simp only[evK,e2,List.head?_cons],trivial,h2⟩
  ·rename_i m v e;rw[e]at h1;simp only[VR]at h1;split at he
   ·rename_i c cs hc;have:=zh4 (J:=J) (mem:=T.mem) m v;rw[hc]at this;simp only[VRL]at this;obtain⟨a,as',e2,h2,h3⟩:=this;exact⟨_,he,_,_,by simp only[evK,h1,e2,List.head?_cons],trivial,h2⟩
   ·cases he
  ·rename_i r row off e;rw[e]at h1;split at he
   ·rename_i b cs e2;simp only[VR,mpR,e2]at h1;obtain⟨h1,rfl⟩:=h1;obtain⟨as,g1,g2⟩:=h.box r b cs e2;split at he
    ·rename_i c hb hc;obtain⟨a,g3,g4⟩:=g2.get off c hc;rw[zbQ hb]at g1;exact⟨_,he,_,_,by simp only[evK,h1,g1,List.getElem?_cons_zero,g3],trivial,g4⟩
    ·cases he
   ·rename_i t xs e2;simp only[VR,mpR,e2]at h1;have g1:=h.arr r t xs e2;obtain⟨v,hv,he⟩:=zas he;split at he
    ·rename_i c hc;obtain⟨a,g3,g4⟩:=(zbt (J:=J) (mem:=T.mem) t v).get off c hc;exact⟨_,he,_,_,by simp only[evK,h1,g1,List.getElem?_map,hv,Option.map_some,g3],trivial,g4⟩
    ·cases he
   ·rename_i e2;cases hno _ _ _ _ _ _ e e2
   ·rename_i e2;cases hno _ _ _ _ _ _ e e2
   ·cases he
  ·cases he
 |some n=>
  simp only[evT]at he;split at he
  ·rename_i m v e;rw[e]at h1;simp only[VR]at h1;split at he
   ·rename_i hz;refine⟨_,he,_,_,by simp only[evK,h1];rfl,by rw[zcf];omega,?_⟩;simp only[VR];rw[List.take_of_length_le (by rw[zcf];omega)]
   ·split at he
    ·rename_i hz;exact⟨_,he,_,_,by simp only[evK,h1];rfl,by rw[zcf];exact zbO hz,zdF ((zh4 m v).take n)⟩
    ·cases he
  ·rename_i cs e;rw[e]at h1;simp only[VR]at h1;obtain⟨as,e2,h2⟩:=h1;split at he
   ·rename_i hz;exact⟨_,he,_,_,by simp only[evK,e2];rfl,by rw[h2.len];exact zbO hz,zdF (h2.take n)⟩
   ·cases he
  ·rename_i r row off e;rw[e]at h1;split at he
   ·rename_i b cs e2;simp only[VR,mpR,e2]at h1;obtain⟨h1,rfl⟩:=h1;obtain⟨as,g1,g2⟩:=h.box r b cs e2;split at he
    ·rename_i hb hz;rw[zbQ hb]at g1;exact⟨_,he,_,_,by simp only[evK,h1,g1,List.getElem?_cons_zero];rfl,by rw[g2.len];exact zbO hz,zdF ((g2.drop off).take n)⟩
    ·cases he
   ·rename_i e2;cases hno _ _ _ _ _ _ e e2
   ·rename_i e2;cases hno _ _ _ _ _ _ e e2
   ·rename_i t xs e2;simp only[VR,mpR,e2]at h1;have g1:=h.arr r t xs e2;obtain⟨v,hv,he⟩:=zas he;split at he
    ·rename_i m v;split at he
     ·rename_i e3 e4;have e3:=zbN e3;have e4:=zbN e4;subst e3 e4;refine⟨_,he,_,_,by simp only[evK,h1,g1,List.getElem?_map,hv,Option.map_some];rfl,by rw[zcO];simp[Ty.sz],?_⟩;simp only[VR,List.drop_zero];rw[List.take_of_length_le (by rw[zcO];simp[Ty.sz])];rfl
     ·split at he
      ·rename_i hz;refine⟨_,he,_,_,by simp only[evK,h1,g1,List.getElem?_map,hv,Option.map_some];rfl,by rw[zcO];exact zbO hz,?_⟩;exact zdF (((zh4 _ _).drop off).take n)
      ·cases he
    ·cases he
   ·cases he
  ·cases he
end
end Go.Fw
namespace Go.Fw
open Go
theorem AW.ghost{C:Ctx}{k:List CItem}{st st':St}(hn:st.mem.length<=st'.mem.length)
 (hg:∀H F Z w,Sat H F Z st.mem w->∃H' β',HX F H H'/\zcY Z β'/\Sat H' F β' st'.mem w/\∀n x,Rep H Z (look st.env n) x->Rep H' β' (look st'.env n) x)(h:AW C k st'):AW C k st:=by
 intro H F Z a w b cs todo hmi hr hn0;obtain⟨H',β',h1,h2,h3,h4⟩:=hg H F Z w hr.sat;refine .ext h1 (h2.eq0 (by rw[hr.sat.hl];exact hn0)) (h H' F β' a w b cs todo hmi ⟨hr.defers,hr.size,fun n=>h4 n _ (hr.env n),h3⟩ (Nat.le_trans hn0 hn))
def Gh(st st':St):Prop:=st.mem.length<=st'.mem.length/\∀C its,AW C its st'->AW C its st
theorem Gh.refl(st:St):Gh st st:=⟨Nat.le_refl _,fun _ _ h=>h⟩
theorem Gh.trans{a b c:St}(h:Gh a b)(h':Gh b c):Gh a c:=⟨Nat.le_trans h.1 h'.1,fun C its x=>h.2 C its (h'.2 C its x)⟩
theorem Sat.recell{H H':Hp}{F:Fr}{Z:Bt}{mem:List Ent}{w:World}{i es:Nat}{rows rows':List (List AV)}(h:Sat H F Z mem w)(hi:mem[i]? =some (.arr es rows))(hl:rows'.length=rows.length)
 (hr:∀(j:Nat) r r',rows[j]? =some r->rows'[j]? =some r'->r'.length=r.length/\(∀c∈r',c.isCell=true)/\∀(k:Nat) c c' v,r[k]? =some c->r'[k]? =some c'->Rep H Z c v->Rep H Z c' v):
 Sat H F Z (mem.set i (.arr es rows')) w:=by
 have get:∀(j:Nat)(e:Ent),(mem.set i (.arr es rows'))[j]? =some e->(j=i/\e=.arr es rows')\/(j≠i/\mem[j]? =some e):=by
  intro j e hj;rw[List.getElem?_set]at hj;split at hj
  ·rename_i e';subst e';split at hj
   ·cases hj;exact .inl ⟨rfl,rfl⟩
   ·cases hj
  ·rename_i e';exact .inr ⟨fun h=>e' h.symm,hj⟩
 have live:∀(j:Nat)(e:Ent),(mem.set i (.arr es rows'))[j]? =some e->e.live=true->∃e',mem[j]? =some e'/\e'.live=true:=by
  intro j e hj he;rcases get j e hj with⟨rfl,rfl⟩|⟨_,hj⟩
  ·exact⟨_,hi,rfl⟩
  ·exact⟨e,hj,he⟩
 refine{hH:=h.hH,gh:=h.gh,hF:=h.hF,sm:=h.sm,hl:=by simp[h.hl],ent:=fun j e x hj hx=>?_,apart:=fun j e x hj he hx=>let⟨e',h1,h2⟩:=live j e hj he;h.apart j e' x h1 h2 hx,inj:=fun j k e e' x y hj he hk he' hx hy hxy=>let⟨_,h1,h2⟩:=live j e hj he;let⟨_,h3,h4⟩:=live k e' hk he';h.inj j k _ _ x y h1 h2 h3 h4 hx hy hxy};rcases get j e hj with⟨rfl,rfl⟩|⟨_,hj⟩
 ·have h0:=h.ent j _ x hi hx;cases x with
  |none=>have:rows=[]:=h0;subst this;exact List.eq_nil_of_length_eq_zero (by simpa using hl)
  |some x=>
   obtain⟨b,es',cap⟩:=x;obtain⟨h1,cells,elem,h2,h3,h4,h5,h6,h7,h8⟩:=h0;have gr:∀(q:Nat) r',rows'[q]? =some r'->∃r,rows[q]? =some r:=fun q r' hq=>by have:=(yga.1 hq).1;exact⟨_,ygb (by omega)⟩
   refine⟨h1,cells,elem,h2,h3,by omega,fun r' hr'=>?_,fun r' hr'=>?_,fun q r' k c' hq hk=>?_,fun hne=>h8 fun e=>hne (by have h:=hl;rw[e]at h;first|exact List.length_eq_zero_iff.1 h|exact List.length_eq_zero_iff.1 h.symm)⟩
   ·obtain⟨q,hq⟩:=List.getElem?_of_mem hr';obtain⟨r,hr0⟩:=gr q r' hq;rw[(hr q r r' hr0 hq).1];exact h5 r (ygd hr0)
   ·obtain⟨q,hq⟩:=List.getElem?_of_mem hr';obtain⟨r,hr0⟩:=gr q r' hq;exact(hr q r r' hr0 hq).2.1
   ·obtain⟨r,hr0⟩:=gr q r' hq;obtain⟨g1,g2,g3⟩:=hr q r r' hr0 hq;have hk':=(yga.1 hk).1;have hc:r[k]? =some (r[k]'(by omega)):=ygb _;obtain⟨v,hv,hrep⟩:=h7 q r k _ hr0 hc;exact⟨v,hv,g3 k _ c' v hc hk hrep⟩
 ·exact h.ent j e x hj hx
theorem Sat.rerow{H:Hp}{F:Fr}{Z:Bt}{mem:List Ent}{w:World}{i es q:Nat}{rows:List (List AV)}{row row':List AV}(h:Sat H F Z mem w)(hi:mem[i]? =some (.arr es rows))(hq:rows[q]? =some row)
 (hl:row'.length=row.length)(hc:(∀c∈row,c.isCell=true)->∀c∈row',c.isCell=true)(hr:∀(k:Nat) c c' v,row[k]? =some c->row'[k]? =some c'->Rep H Z c v->Rep H Z c' v):
 Sat H F Z (mem.set i (.arr es (rows.set q row'))) w:=by
 have hql:=(yga.1 hq).1;have hcell:∀r∈rows,∀c∈r,c.isCell=true:=by
  have hβ:∃x,Z[i]? =some x:=by have:=(yga.1 hi).1;exact⟨Z[i]'(by rw[h.hl];exact this),ygb _⟩
  obtain⟨x,hβ⟩:=hβ;have h0:=h.ent i _ x hi hβ;cases x with
  |none=>have:rows=[]:=h0;subst this;simp at hq
  |some x=>obtain⟨b,es',cap⟩:=x;obtain⟨_,_,_,_,_,_,_,h6,_⟩:=h0;exact h6
 refine h.recell (H':=H) hi (by simp) fun j r r' hj hj'=>?_;rw[List.getElem?_set]at hj';split at hj'
 ·rename_i e;subst e;cases hj';rw[hq]at hj;cases hj;exact⟨hl,hc (hcell _ (ygd hq)),hr⟩
 ·rw[hj]at hj';cases hj';refine⟨rfl,hcell _ (ygd hj),fun k c c' v h1 h2 hh=>?_⟩;rw[h1]at h2;cases h2;exact hh
theorem Gh.owncq{st:St}{i n q j es:Nat}{rows:List (List AV)}{row:List AV}(hi:st.mem[i]? =some (.arr n rows))(hq:rows[q]? =some row)(hj:row[j]? =some .e0):
 Gh st ⟨st.env,st.mem.set i (.arr n (rows.set q (row.set j (.ms st.mem.length es 0 0))))++[.arr es []]⟩:=by
 refine⟨by simp,fun C its h=>AW.ghost (st':=⟨st.env,st.mem.set i (.arr n (rows.set q (row.set j (.ms st.mem.length es 0 0))))++[.arr es []]⟩) (by simp) (fun H F Z w hs=>⟨H,Z++[none],.refl _ _,.append _ _,?_,fun n x hx=>hx.mono (.refl _) (.append _ _)⟩) h⟩;have h1:=hs.own_none es;have hlt:=(yga.1 hi).1;have h2:=h1.rerow (i:=i) (es:=n) (rows:=rows) (row':=row.set j (.ms st.mem.length es 0 0)) (by rw[yge hlt];exact hi) hq (by simp) (fun hc c hc'=>by
  rcases List.mem_or_eq_of_mem_set hc' with h|rfl
  ·exact hc c h
  ·rfl) (fun k c c' v hk hk' hr=>by
  rw[List.getElem?_set]at hk';split at hk'
  ·rename_i e;subst e;split at hk'
   ·cases hk';rw[hj]at hk;cases hk;cases hr with
    |e0=>exact .ms0 (x:=none) (by rw[<-hs.hl];simp)
   ·cases hk'
  ·rw[hk]at hk';cases hk';exact hr)
 rw[List.set_append_left _ _ hlt]at h2;exact h2
theorem Gh.ownc{st:St}{i n j es:Nat}{row:List AV}(hi:st.mem[i]? =some (.arr n [row]))(hj:row[j]? =some .e0)(hc:∀c∈row,c.isCell=true):
 Gh st ⟨st.env,st.mem.set i (.arr n [row.set j (.ms st.mem.length es 0 0)])++[.arr es []]⟩:=by
 refine⟨by simp,fun C its h=>AW.ghost (st':=⟨st.env,st.mem.set i (.arr n [row.set j (.ms st.mem.length es 0 0)])++[.arr es []]⟩) (by simp) (fun H F Z w hs=>⟨H,Z++[none],.refl _ _,.append _ _,?_,fun n x hx=>hx.mono (.refl _) (.append _ _)⟩) h⟩;have h1:=hs.own_none es;have hlt:=(yga.1 hi).1;have h2:=h1.recell (i:=i) (es:=n) (rows:=[row]) (rows':=[row.set j (.ms st.mem.length es 0 0)]) (H':=H) (by rw[yge hlt];exact hi) rfl (fun q r r' hq hq'=>by
  cases q with
  |succ q=>simp at hq
  |zero=>
   simp only[List.getElem?_cons_zero,Option.some.injEq]at hq hq';subst hq hq';refine⟨by simp,fun c hc'=>?_,fun k c c' v hk hk' hr=>?_⟩
   ·rcases List.mem_or_eq_of_mem_set hc' with h|rfl
    ·exact hc c h
    ·rfl
   ·rw[List.getElem?_set]at hk';split at hk'
    ·rename_i e;subst e;split at hk'
     ·cases hk';rw[hj]at hk;cases hk;cases hr with
      |e0=>exact .ms0 (x:=none) (by rw[<-hs.hl];simp)
     ·cases hk'
    ·rw[hk]at hk';cases hk';exact hr)
 rw[List.set_append_left _ _ hlt]at h2;exact h2
theorem Gh.own{st:St}{n es:Nat}(hn:look st.env n=.e0):Gh st ⟨(n,.ms st.mem.length es 0 0):: st.env,st.mem++[.arr es []]⟩:=
 ⟨by simp,fun C its h=>AW.own hn h⟩
end Go.Fw
namespace Go.Fw
open Go
variable [Pin]
def zec(J:Nat->Nat)(dr:Bool)(k:K)(d:Option Nat)(T:TS)(st:St)(v:V)(m:List Root):Prop:=
 ∃p a sm,evK k st.env st.mem=some (p,a,sm)/\p/\∃st2 ρ',Gh ⟨put st.env d a,sm⟩ st2/\(dr=true->st2=⟨put st.env d a,sm⟩/\∀q,q<T.mem.length->ρ' q=J q)/\TR ρ' ⟨zfa T.env d v,m⟩ st2
section
variable {J:Nat->Nat}{T:TS}{st:St}{ρt:Type}{res:ρt}{an:An}{dr:Bool}{κ:V->List Root->Option ρt}
theorem zuf{mem:List Root}{v:V}{a:AV}(hn:v.na=true)(h:VR J mem v a):a.na=true:=by
 cases v<;>simp only[V.na]at hn<;>(try(cases hn;done))<;>simp only[VR]at h;case own r=>
  unfold zep at h;split at h
  ·subst h;rfl
  ·subst h;rfl
  ·rcases h with⟨_,_,_,_,rfl⟩|⟨_,rfl⟩<;>rfl
  ·exact h.elim
 case part r o l=>
  unfold zgr at h;split at h
  ·obtain⟨rfl,_⟩:=h;rfl
  ·obtain⟨_,_,_,_,rfl⟩:=h;rfl
  ·exact h.elim
 case fn f cs=>obtain⟨_,rfl,_⟩:=h;rfl
 all_goals(subst h;rfl)
theorem zxq{mem:List Root}{r row off:Nat}{a:AV}(h:mpR J mem r row off a):a.pt=true/\a.n8=true:=by
 unfold mpR at h;split at h
 ·subst h;exact⟨rfl,rfl⟩
 ·obtain⟨rfl,_⟩:=h;exact⟨rfl,rfl⟩
 ·obtain⟨_,_,_,rfl⟩:=h;exact⟨rfl,rfl⟩
 ·exact h.elim
theorem zuc{mem:List Root}{v:V}{a:AV}(hn:v.n8=true)(h:VR J mem v a):a.n8=true:=by
 cases v<;>(try(simp only[V.n8]at hn;cases hn;done))<;>simp only[VR]at h;case int k n=>cases k<;>first|(simp[V.n8]at hn;done)|(subst h;rfl)
 case own r=>
  unfold zep at h;split at h
  ·subst h;rfl
  ·subst h;rfl
  ·rcases h with⟨_,_,_,_,rfl⟩|⟨_,rfl⟩<;>rfl
  ·exact h.elim
 case part r o l=>
  unfold zgr at h;split at h
  ·obtain⟨rfl,_⟩:=h;rfl
  ·obtain⟨_,_,_,_,rfl⟩:=h;rfl
  ·exact h.elim
 case mp r row off=>exact(zxq h).2
 case fn f cs=>obtain⟨_,rfl,_⟩:=h;rfl
 case agg cs=>obtain⟨_,rfl,_⟩:=h;rfl
 case tup cs=>obtain⟨_,rfl,_⟩:=h;rfl
 case ip cs=>obtain⟨_,rfl,_⟩:=h;rfl
 all_goals(subst h;rfl)
theorem zBV{mem:List Root}{v:V}{a:AV}(hn:v.pt=true)(h:VR J mem v a):a.pt=true:=by
 cases v<;>simp only[V.pt]at hn<;>(try(cases hn;done))<;>simp only[VR]at h;case mp r row off=>exact(zxq h).1
 case ip cs=>obtain⟨_,rfl,_⟩:=h;rfl
 all_goals(subst h;rfl)
theorem zBu{mem:List Root}{v:V}{a:AV}(hn:v.b8=true)(h:VR J mem v a):a.b8=true:=by cases v<;>simp only[V.b8]at hn<;>(try(cases hn;done))<;>simp only[VR]at h;case int k n=>cases k<;>first|(simp[V.b8]at hn;done)|(subst h;rfl)
theorem zow{mem:List Root}{p:V->Bool}{q:AV->Bool}(hpq:∀{v a},p v=true->VR J mem v a->q a=true){cs:List V}{as:List AV}(hn:hdV p cs=true)(h:VRL J mem cs as):hd1 q as=true:=by
 cases cs with
 |nil=>simp only[VRL]at h;subst h;rfl
 |cons c cs=>simp only[VRL]at h;obtain⟨a,as',rfl,h1,_⟩:=h;exact hpq (v:=c) hn h1
theorem zng{mem:List Root}{cs:List V}{as:List AV}(hn:zzS cs=true)(h:VRL J mem cs as):np1 as=true:=
 zow (p:=fun c=>c.na&&c.n8) (q:=AV.np) (fun hv h=>by unfold AV.np;rw[yhb]at hv|-;exact⟨zuf hv.1 h,zuc hv.2 h⟩) hn h
theorem zmk(t:Ty)(ht:t.n8=true)(x:TV t):zzS (leafs t x)=true:=by
 cases t with
 |nm n=>cases n<;>rfl
 |int k=>cases k<;>first|rfl|cases ht
 |bool|str|lst t=>rfl
theorem zue(t:Ty)(x:TV t):hdV V.na (leafs t x)=true:=by
 cases t with
 |nm n=>cases n<;>rfl
 |int k|bool|str|lst t=>rfl
theorem zwj(t:Ty)(ht:t.n8=true)(x:TV t):np1 (zap t x)=true:=zng (J:=id) (mem:=[]) (zmk t ht x) (zbt t x)
theorem zk0{t:Ty}(ht:t.n8=true)(xs:List (TV t)):np1 ((xs.map (zap t)).headD [])=true:=by
 cases xs with
 |nil=>rfl
 |cons x xs=>exact zwj t ht x
theorem zud{t:Ty}(xs:List (TV t)):hd1 AV.na ((xs.map (zap t)).headD [])=true:=by
 cases xs with
 |nil=>rfl
 |cons x xs=>exact zow (J:=id) (mem:=[]) zuf (zue t x) (zbt t x)
theorem OwRs.np{sm:List Ent}{os:OS}{t:Ty}(ht:t.n8=true){xs:List (TV t)}{rows:List (List AV)}{fp:List Nat}(h:OwRs sm os t xs rows fp):np1 (rows.headD [])=true:=by
 cases h with
 |nil=>rfl
 | @cons _ _ x _ row _ _ _ h _=>
  have hn:=zmk t ht x;simp only[List.headD_cons];generalize leafs t x=vs at h hn;cases h with
  |nil=>rfl
  | @cons _ _ v _ a _ _ _ h _=>
   have hn:(v.na&&v.n8)=true:=hn;show(a.na&&a.n8)=true;rw[yhb]at hn|-;generalize os.sub 0=o at h;cases h with
   |leaf hp h=>exact⟨zuf hn.1 h,zuc hn.2 h⟩
   |other hl hp h=>exact⟨zuf hn.1 h,zuc hn.2 h⟩
   |own _ _=>exact⟨rfl,rfl⟩
theorem zuV{J:Nat->Nat}{mem:List Root}{cs:List V}{as:List AV}{off:Nat}{ds:List V}{bs:List AV}(h:stV cs off (ds.headD .junk)=true)(hv:VRL J mem cs as)(hd:VRL J mem ds bs):stC as off (bs.headD .junk)=true:=by
 have hy:VR J mem (ds.headD .junk) (bs.headD .junk):=by
  cases ds with
  |nil=>simp only[VRL]at hd;subst hd;simp[VR]
  |cons d ds=>simp only[VRL]at hd;obtain⟨b,bs',rfl,h1,_⟩:=hd;exact h1
 unfold stV at h;unfold stC;simp only[Bool.or_eq_true,yhb,yhf]at h|-;rcases h with((h|h)|h)|h
 ·exact .inl (.inl (.inl (zng h hv)))
 ·exact .inl (.inl (.inr (by have:=Nat.le_of_ble_eq_true h;omega)))
 ·exact .inl (.inr ⟨zBV h.1 hy,zow zuc h.2 hv⟩)
 ·exact .inr ⟨zBu h.1 hy,zow zuf h.2 hv⟩
theorem zdf{env:List (Nat×AV)}{d:Option Nat}{v:AV}{n:Nat}:look (put env d v) n=if d=some n then v else look env n:=by
 cases d with
 |none=>simp
 |some d=>simp only[zrq,look,Option.some.injEq]
theorem zbj{env:List (Nat×V)}{d:Option Nat}{v:V}{n:Nat}:lookV (zfa env d v) n=if d=some n then v else lookV env n:=by
 cases d with
 |none=>simp[zfa]
 |some d=>
  simp only[zfa,lookV,Option.some.injEq];cases h:Nat.beq d n with
  |true=>simp[Nat.eq_of_beq_eq_true h]
  |false=>have:=Nat.ne_of_beq_eq_false h;simp[this]
theorem Kp.app{J ρ':Nat->Nat}{mem more:List Root}(h:∀r,r<mem.length->ρ' r=J r):Kp J ρ' mem (mem++more):=by
 have hl:∀(r:Nat) x,mem[r]? =some x->r<mem.length/\(mem++more)[r]? =some x:=fun r x hx=>by have:=(yga.1 hx).1;exact⟨this,by rw[yge this];exact hx⟩
 exact⟨fun r t xs w hx=>.inr ⟨h r (hl r _ hx).1,xs,w,(hl r _ hx).2,rfl⟩,fun r b cs hx=>.inr ⟨h r (hl r _ hx).1,b,cs,(hl r _ hx).2⟩,fun r hx=>(hl r _ hx).2⟩
theorem TR.new{x:Root}{e:Ent}{v:V}{a:AV}{d:Option Nat}{ρ':Nat->Nat}(h:TR J T st)(hlt:∀(r:Nat) y,T.mem[r]? =some y->y.alive=true->J r<st.mem.length)
 (hρ:ρ'=fun r=>if r<T.mem.length then J r else st.mem.length)
 (hx:match x with
  |.dead=>False
  |.arr t xs w=>ArrR ρ' (T.mem++[x]) (st.mem++[e]) t xs w st.mem.length []
  |.box b cs=>(∃as,e=boxE b cs.length as/\VRL ρ' (T.mem++[x]) cs as)/\cs.all V.isC=true)
 (hv:VR ρ' (T.mem++[x]) v a):TR ρ' ⟨zfa T.env d v,T.mem++[x]⟩ ⟨put st.env d a,st.mem++[e]⟩:=by
 have hk:Kp J ρ' T.mem (T.mem++[x]):=Kp.app fun r hr=>by simp[hρ,hr]
 have hold:∀(r:Nat) y,(T.mem++[x])[r]? =some y->(r<T.mem.length/\T.mem[r]? =some y/\ρ' r=J r)\/(r=T.mem.length/\y=x/\ρ' r=st.mem.length):=by
  intro r y hy;rw[List.getElem?_append]at hy;split at hy
  ·rename_i hr;exact .inl ⟨hr,hy,by simp[hρ,hr]⟩
  ·rename_i hr;have:r-T.mem.length=0:=by have:=(yga.1 hy).1;simp at this;omega
   rw[this]at hy;simp at hy;exact .inr ⟨by omega,hy.symm,by simp[hρ,hr]⟩
 have hent:∀i,i<st.mem.length->(st.mem++[e])[i]? =st.mem[i]?:=fun i hi=>yge hi;obtain⟨fp,how⟩:=h.ow;have hne:fp T.mem.length=[]:=how.nil _ fun t xs w e=>by have:=(yga.1 e).1;omega
 refine⟨fun n=>?_,fun r b cs hr=>?_,fun r b cs hr=>?_,fun r r' y y' hr hy hr' hy' he=>?_,⟨fp,how.upd hk (fun r y hr hy=>?_) (fun r i hi=>hent i (how.lt r i hi)) fun r hr=>?_⟩,h.pin.mono hk⟩
 ·simp only[zbj,zdf];split
  ·exact hv
  ·exact(h.env n).mono hk
 ·rcases hold r _ hr with⟨h1,h2,h3⟩|⟨h1,rfl,h3⟩
  ·obtain⟨as,g1,g2⟩:=h.box r b cs h2;rw[h3,hent _ (hlt r _ h2 rfl)];exact⟨as,g1,g2.mono hk⟩
  ·rw[h3];simp only at hx;obtain⟨⟨as,rfl,g⟩,_⟩:=hx;exact⟨as,by simp,g⟩
 ·rcases hold r _ hr with⟨h1,h2,h3⟩|⟨h1,rfl,h3⟩
  ·exact h.boxC r b cs h2
  ·simp only at hx;exact hx.2
 ·rcases hold r _ hr with⟨h1,h2,h3⟩|⟨h1,rfl,h3⟩<;>rcases hold r' _ hr' with⟨h1',h2',h3'⟩|⟨h1',rfl,h3'⟩
  ·rw[h3,h3']at he;exact h.inj r r' y y' h2 hy h2' hy' he
  ·rw[h3,h3']at he;have:=hlt r _ h2 hy;omega
  ·rw[h3,h3']at he;have:=hlt r' _ h2' hy';omega
  ·omega
 ·rcases hold r _ hr with⟨h1,h2,h3⟩|⟨h1,rfl,h3⟩
  ·exact .inl ⟨h2,h3,fun t xs w _=>hent _ (hlt r _ h2 hy)⟩
  ·refine .inr ⟨by rw[h1];exact hne,fun t xs w e=>?_,fun r' hi=>?_⟩
   ·subst e;rw[h3];exact hx
   ·rw[h3]at hi;have:=how.lt r' _ hi;omega
 ·by_cases hlt':r<T.mem.length
  ·exact how.nil r fun t xs w e=>hr t xs w (by rw[yge hlt'];exact e)
  ·exact how.nil r fun t xs w e=>hlt' (yga.1 e).1
theorem TR.lt(h:TR J T st):∀(r:Nat) y,T.mem[r]? =some y->y.alive=true->J r<st.mem.length:=by
 intro r y hy ha;cases y with
 |dead=>simp[Root.alive]at ha
 |arr t xs w=>obtain⟨rows,g,_⟩:=h.alt r t xs w hy;exact(yga.1 g).1
 |box b cs=>obtain⟨as,g,_⟩:=h.box r b cs hy;exact(yga.1 g).1
theorem zec.mk{k:K}{d:Option Nat}{v:V}{m:List Root}{p:Prop}{a:AV}{sm:List Ent}{ρ':Nat->Nat}(he:evK k st.env st.mem=some (p,a,sm))(hp:p)(h:TR ρ' ⟨zfa T.env d v,m⟩ ⟨put st.env d a,sm⟩)(hag:∀q,q<T.mem.length->ρ' q=J q):zec J dr k d T st v m:=
 ⟨p,a,sm,he,hp,_,ρ',Gh.refl _,fun _=>⟨rfl,hag⟩,h⟩
theorem ze8.toM{k:K}{d:Option Nat}{v:V}(h:TR J T st)(ho:ze8 J k T st v):zec J dr k d T st v T.mem:=by
 obtain⟨p,a,h1,h2,h3⟩:=ho;refine .mk (ρ':=J) h1 h2 ⟨fun n=>?_,h.box,h.boxC,h.inj,h.ow,h.pin⟩ (fun _ _=>rfl);simp only[zbj,zdf];split
 ·exact h3
 ·exact h.env n
def ext(J:Nat->Nat)(n m:Nat):Nat->Nat:=fun r=>if r<n then J r else m
theorem zej{J:Nat->Nat}{n m:Nat}:∀q,q<n->ext J n m q=J q:=fun q hq=>by simp[ext,hq]
theorem TR.newArr(h:TR J T st)(d:Option Nat)(t:Ty)(xs:List (TV t)){a:AV}(ha:a=.ms st.mem.length t.sz 0 xs.length):
 TR (ext J T.mem.length st.mem.length) ⟨zfa T.env d (.own T.mem.length),T.mem++[.arr t xs .no]⟩ ⟨put st.env d a,st.mem++[.arr t.sz (xs.map (zap t))]⟩:=by
 refine h.new h.lt rfl ⟨by simp,rfl⟩ ?_;simp only[VR,zep,List.getElem?_concat_length,ext,Nat.lt_irrefl,if_false];exact ha
theorem TR.newNil(h:TR J T st)(d:Option Nat)(t:Ty)(w:Ow)(hw:w.shut=true){a:AV}(ha:a=.ms st.mem.length t.sz 0 0):
 TR (ext J T.mem.length st.mem.length) ⟨zfa T.env d (.own T.mem.length),T.mem++[.arr t [] w]⟩ ⟨put st.env d a,st.mem++[.arr t.sz []]⟩:=by
 refine h.new h.lt rfl ?_ ?_
 ·cases w with
  |no=>exact⟨by simp,rfl⟩
  |cl os=>exact⟨[],by simp,.nil⟩
  |op _ _ _=>cases hw
 ·simp only[VR,zep,List.getElem?_concat_length,ext,Nat.lt_irrefl,if_false];exact ha
theorem VRL.set{mem:List Root}:∀{cs:List V}{as:List AV}(j:Nat){c:V}{a:AV},VRL J mem cs as->VR J mem c a->VRL J mem (cs.set j c) (as.set j a)
|[],as,j,c,a,h,_=>by simp only[VRL]at h;subst h;simp[VRL]
|x:: cs,as,0,c,a,h,hc=>by simp only[VRL]at h;obtain⟨y,as',rfl,h2,h3⟩:=h;exact .cons hc h3
|x:: cs,as,j+1,c,a,h,hc=>by simp only[VRL]at h;obtain⟨y,as',rfl,h2,h3⟩:=h;exact .cons h2 (VRL.set j h3 hc)
theorem TR.setBox{r:Nat}{b:BT}{cs cs':List V}{as':List AV}(h:TR J T st)(hr:T.mem[r]? =some (.box b cs))(_hl:cs'.length=cs.length)(hv:VRL J T.mem cs' as')(hC:cs'.all V.isC=true):
 TR J ⟨T.env,T.mem.set r (.box b cs')⟩ ⟨st.env,st.mem.set (J r) (boxE b cs'.length as')⟩:=by
 have hrl:=(yga.1 hr).1;have hρl:=h.lt r _ hr rfl;have hk:Kp J J T.mem (T.mem.set r (.box b cs')):=by
  refine⟨fun q t xs w hq=>.inr ⟨rfl,xs,w,?_,rfl⟩,fun q b' ds hq=>.inr ⟨rfl,?_⟩,fun q hq=>?_⟩
  ·rw[ygg (by rintro rfl;rw[hr]at hq;cases hq)];exact hq
  ·by_cases e:q=r
   ·subst e;rw[hr]at hq;cases hq;exact⟨b,cs',by simp[hrl]⟩
   ·rw[ygg (fun h=>e h.symm)];exact⟨b',ds,hq⟩
  ·rw[ygg (by rintro rfl;rw[hr]at hq;cases hq)];exact hq
 have old:∀(q:Nat) x,(T.mem.set r (.box b cs'))[q]? =some x->(q=r/\x=.box b cs')\/(q≠r/\T.mem[q]? =some x):=by
  intro q x hq;by_cases e:q=r
  ·subst e;simp[hrl]at hq;exact .inl ⟨rfl,hq.symm⟩
  ·rw[ygg (fun h=>e h.symm)]at hq;exact .inr ⟨e,hq⟩
 have ne:∀(q:Nat) x,T.mem[q]? =some x->x.alive=true->q≠r->J q≠J r:=fun q x hq ha hne e=>hne (h.inj q r x _ hq ha hr rfl e);obtain⟨fp,how⟩:=h.ow;have hnil:fp r=[]:=how.nil r fun t xs w e=>by rw[hr]at e;cases e
 refine⟨fun n=>(h.env n).mono hk,fun q b' ds hq=>?_,fun q b' ds hq=>?_,fun q q' x x' hq hx hq' hx' e=>?_,⟨fp,how.upd hk (fun q x hq hx=>?_) (fun q i hi=>?_) fun q hq=>?_⟩,h.pin.mono hk⟩
 ·rcases old q _ hq with⟨rfl,h2⟩|⟨h1,h2⟩
  ·cases h2;exact⟨as',by show(st.mem.set (J q) _)[J q]? =_;simp[hρl],hv.mono hk⟩
  ·obtain⟨bs,g1,g2⟩:=h.box q b' ds h2;exact⟨bs,by show(st.mem.set (J r) _)[J q]? =_;rw[ygg (fun e=>ne q _ h2 rfl h1 e.symm)];exact g1,g2.mono hk⟩
 ·rcases old q _ hq with⟨rfl,h2⟩|⟨h1,h2⟩
  ·cases h2;exact hC
  ·exact h.boxC q _ _ h2
 ·have key:∀(q:Nat) x,(T.mem.set r (.box b cs'))[q]? =some x->x.alive=true->∃y,T.mem[q]? =some y/\y.alive=true:=fun q x hq hx=>by
   rcases old q x hq with⟨rfl,_⟩|⟨_,h2⟩
   ·exact⟨_,hr,rfl⟩
   ·exact⟨x,h2,hx⟩
  obtain⟨y,g1,g2⟩:=key q x hq hx;obtain⟨y',g3,g4⟩:=key q' x' hq' hx';exact h.inj q q' y y' g1 g2 g3 g4 e
 ·rcases old q x hq with⟨rfl,rfl⟩|⟨h1,h2⟩
  ·exact .inr ⟨hnil,(fun t xs w e=>by cases e),fun r'=>how.rt q r' _ hr rfl⟩
  ·refine .inl ⟨h2,rfl,fun t xs w e=>?_⟩;show(st.mem.set (J r) _)[J q]? =_;rw[ygg (fun e=>ne q _ h2 hx h1 e.symm)]
 ·show(st.mem.set (J r) _)[i]? =_;rw[ygg (fun e=>how.rt r q _ hr rfl (by rw[e];exact hi))]
 ·by_cases e:q=r
  ·rw[e];exact hnil
  ·exact how.nil q fun t xs w h'=>hq t xs w (by show(T.mem.set r _)[q]? =_;rw[ygg (fun h=>e h.symm)];exact h')
theorem TR.ownc{r:Nat}{b:BT}{cs:List V}{j:Nat}(hb:b.mpB=false)(h:TR J T st)(hr:T.mem[r]? =some (.box b cs))(hj:cs[j]? =some .e0)(hc:cs.all V.isC=true)(t:Ty)(os:OS):
 ∃st2 ρ',Gh st st2/\TR ρ' ⟨T.env,T.mem.set r (.box b (cs.set j (.own T.mem.length)))++[.arr t [] (zpc os)]⟩ st2:=by
 obtain⟨as,g1,g2⟩:=h.box r b cs hr;rw[zbQ hb]at g1;obtain⟨a,g3,g4⟩:=g2.get j _ hj;simp only[VR]at g4;subst g4;have hcell:∀c∈as,c.isCell=true:=List.all_eq_true.1 (g2.cells hc);have hgh:=Gh.ownc (es:=t.sz) g1 g3 hcell;have h1:=h.newNil none t (zpc os) (by cases os<;>rfl) (a:=.ms st.mem.length t.sz 0 0) rfl;simp only[zfa,put_none]at h1;have hrl:=(yga.1 hr).1;have hρl:=h.lt r _ hr rfl;have hr1:(T.mem++[Root.arr t [] (zpc os)])[r]? =some (.box b cs):=by rw[yge hrl];exact hr
 obtain⟨as1,q1,q2⟩:=h1.box r b cs hr1;rw[zbQ hb]at q1;have hρ:ext J T.mem.length st.mem.length r=J r:=by simp[ext,hrl]
 rw[hρ]at q1;have e1:as1=as:=by have:(st.mem++[Ent.arr t.sz []])[J r]? =st.mem[J r]?:=yge hρl;rw[show({env:=st.env,mem:=st.mem++[Ent.arr t.sz []] }:St).mem=st.mem++[Ent.arr t.sz []]from rfl,this,g1]at q1;simpa using q1.symm
 subst e1;have h2:=h1.setBox (r:=r) (cs':=cs.set j (.own T.mem.length)) (as':=as1.set j (.ms st.mem.length t.sz 0 0)) hr1 (by simp)
  (q2.set j (by simp only[VR,zep,List.getElem?_concat_length,ext,Nat.lt_irrefl,if_false,yht])) (by
   rw[List.all_eq_true]at hc|-;intro c hc';rcases List.mem_or_eq_of_mem_set hc' with h|rfl
   ·exact hc c h
   ·rfl)
 rw[hρ,zbQ hb]at h2;simp only[List.length_set]at h2;rw[List.set_append_left _ _ hrl,List.set_append_left _ _ hρl]at h2;exact⟨_,_,hgh,h2⟩
theorem TR.owns:∀(cs:List V)(ts:List (Option (Ty×OS))){J:Nat->Nat}{T:TS}{st:St}{r:Nat}{b:BT}(pre post:List V),b.mpB=false->TR J T st->T.mem[r]? =some (.box b (pre++cs++post))->(pre++cs++post).all V.isC=true->
 ∃st2 ρ',Gh st st2/\TR ρ' ⟨T.env,T.mem.set r (.box b (pre++(owns T.mem.length cs ts).1++post))++(owns T.mem.length cs ts).2⟩ st2
 |[],ts,J,T,st,r,b,pre,post,hb,h,hr,hc=>by
  refine⟨st,J,Gh.refl _,?_⟩;have:T.mem.set r (.box b (pre++[]++post))=T.mem:=by
   refine List.ext_getElem? fun i=>?_;rw[List.getElem?_set];split
   ·rename_i e;subst e;split
    ·exact hr.symm
    ·rename_i h';rw[List.getElem?_eq_none (by omega)]
   ·rfl
  have e:Go.Fw.owns T.mem.length [] ts=([],[]):=by cases ts<;>rfl
  rw[e,this,List.append_nil];exact h
 |c:: cs,ts,J,T,st,r,b,pre,post,hb,h,hr,hc=>by
  have skip:(∀t os ts',¬(c=.e0/\ts=some (.lst t,os):: ts'))->∀t0 ts',ts=t0:: ts'->∃st2 ρ',Gh st st2/\TR ρ' ⟨T.env,T.mem.set r (.box b (pre++(Go.Fw.owns T.mem.length (c:: cs) ts).1++post))++(Go.Fw.owns T.mem.length (c:: cs) ts).2⟩ st2:=by
   intro hne t0 ts' hts;subst hts;have e:Go.Fw.owns T.mem.length (c:: cs) (t0:: ts')=(c:: (Go.Fw.owns T.mem.length cs ts').1,(Go.Fw.owns T.mem.length cs ts').2):=by
    cases c with
    |e0=>
     cases t0 with
     |none=>rfl
     |some t0=>
      obtain⟨t0,os⟩:=t0;cases t0 with
      |lst t=>exact absurd ⟨rfl,rfl⟩ (hne t os ts')
      |_=>rfl
    |_=>rfl
   obtain⟨st2,ρ',q1,q2⟩:=TR.owns cs ts' (pre++[c]) post hb h (by simpa using hr) (by simpa using hc);refine⟨st2,ρ',q1,?_⟩;rw[e];simpa using q2
  cases ts with
  |nil=>
   refine⟨st,J,Gh.refl _,?_⟩;have e:Go.Fw.owns T.mem.length (c:: cs) []=(c:: cs,[]):=by cases c<;>rfl
   rw[e];have:T.mem.set r (.box b (pre++(c:: cs)++post))=T.mem:=by
    refine List.ext_getElem? fun i=>?_;rw[List.getElem?_set];split
    ·rename_i e;subst e;split
     ·exact hr.symm
     ·rename_i h';rw[List.getElem?_eq_none (by omega)]
    ·rfl
   simp only[this,List.append_nil];exact h
  |cons t0 ts'=>
   by_cases hh:∃t os,c=.e0/\t0=some (.lst t,os)
   ·obtain⟨t,os,rfl,rfl⟩:=hh;have hj:(pre ++ .e0:: cs++post)[pre.length]? =some V.e0:=by simp
    obtain⟨st1,ρ1,q1,q2⟩:=h.ownc hb hr hj hc t os;have hs:(pre ++ .e0:: cs++post).set pre.length (.own T.mem.length)=(pre++[.own T.mem.length])++cs++post:=by simp[List.set_append]
    rw[hs]at q2;have hrl:=(yga.1 hr).1;obtain⟨st2,ρ2,q3,q4⟩:=TR.owns cs ts' (T:=⟨T.env,T.mem.set r (.box b ((pre++[.own T.mem.length])++cs++post))++[.arr t [] (zpc os)]⟩) (r:=r) (b:=b) (pre++[.own T.mem.length]) post hb q2
     (by rw[yge (by simpa using hrl)];simp[hrl]) (by simp[V.isC]at hc|-;exact hc)
    refine⟨st2,ρ2,q1.trans q3,?_⟩;have e:Go.Fw.owns T.mem.length (.e0:: cs) (some (.lst t,os):: ts')=(.own T.mem.length:: (Go.Fw.owns (T.mem.length+1) cs ts').1,.arr t [] (zpc os):: (Go.Fw.owns (T.mem.length+1) cs ts').2):=rfl;rw[e];simp only[yhr,List.length_set,List.length_singleton]at q4;rw[List.set_append_left _ _ (by simpa using hrl),List.set_set]at q4;simpa using q4
   ·exact skip (fun t os ts'' ⟨e1,e2⟩=>hh ⟨t,os,e1,by simpa using(List.cons.inj e2).1⟩) t0 ts' rfl
theorem TR.ownsD{J:Nat->Nat}{T:TS}{st:St}{r:Nat}{b:BT}(dr:Bool)(cs:List V)(ts:List (Option (Ty×OS)))(pre post:List V)(hb:b.mpB=false)(h:TR J T st)(hr:T.mem[r]? =some (.box b (pre++cs++post)))(hc:(pre++cs++post).all V.isC=true):
 ∃st2 ρ',Gh st st2/\(dr=true->st2=st/\ρ'=J)/\TR ρ' ⟨T.env,T.mem.set r (.box b (pre++(Go.Fw.ownsD dr T.mem.length cs ts).1++post))++(Go.Fw.ownsD dr T.mem.length cs ts).2⟩ st2:=by
 cases dr with
 |false=>obtain⟨st2,ρ',h1,h2⟩:=TR.owns cs ts pre post hb h hr hc;exact⟨st2,ρ',h1,(fun e=>by cases e),h2⟩
 |true=>
  refine⟨st,J,Gh.refl _,fun _=>⟨rfl,rfl⟩,?_⟩;have:T.mem.set r (.box b (pre++cs++post))=T.mem:=by
   refine List.ext_getElem? fun i=>?_;rw[List.getElem?_set];split
   ·rename_i e;subst e;split
    ·exact hr.symm
    ·rename_i h';rw[List.getElem?_eq_none (by omega)]
   ·rfl
  simp only[Go.Fw.ownsD];rw[this,List.append_nil];exact h
theorem zmr{J:Nat->Nat}{mem:List Root}{t:Ty}{cs:List V}{as:List AV}{x:TV t}(hv:VRL J mem cs as)(h:zil t cs=some x):as=zap t x:=by
 have one:∀{v:V},cs=[v]->v.toL t=some x->as=zap t x:=by intro v e1 e2;subst e1;simp only[VRL]at hv;obtain⟨a,_,rfl,hv,rfl⟩:=hv;exact(zag hv e2).symm
 cases t with
 |nm n=>exact zik hv h
 |int k|bool|str|lst t=>
  cases cs with
  |nil=>simp[zil]at h
  |cons v l=>cases l with
   |nil=>exact one rfl h
   |cons _ _=>simp[zil]at h
theorem zru{k:K}{d:Option Nat}{cs:List V}{as:List AV}{zs:List AV}{ts:BT}(hb:ts.mpB=false)(h:TR J T st)(hv:VRL J T.mem cs as)(hc:cs.all V.isC=true)
 {p:Prop}(hp:p)(he:evK k st.env st.mem=some (p,.mp st.mem.length 0 0,st.mem++[.arr as.length [as]]))
 (hk:(match ownsD dr (T.mem.length+1) cs ts.ts with|(cs,m)=>κ (.mp T.mem.length 0 0) (T.mem ++ .box ts cs:: m))=some res):
 ∃v m,κ v m=some res/\zec J dr k d T st v m:=by
 refine⟨.mp T.mem.length 0 0,T.mem ++ .box ts (Go.Fw.ownsD dr (T.mem.length+1) cs ts.ts).1:: (Go.Fw.ownsD dr (T.mem.length+1) cs ts.ts).2,hk,_,_,_,he,hp,?_⟩;have hk0:Kp J (ext J T.mem.length st.mem.length) T.mem (T.mem++[.box ts cs]):=Kp.app fun r hr=>by simp[ext,hr]
 have h1:TR (ext J T.mem.length st.mem.length) ⟨zfa T.env d (.mp T.mem.length 0 0),T.mem++[.box ts cs]⟩ ⟨put st.env d (.mp st.mem.length 0 0),st.mem++[.arr as.length [as]]⟩:=by
  refine h.new h.lt rfl ?_ ?_
  ·exact⟨⟨as,by rw[zbQ hb,hv.len],hv.mono hk0⟩,hc⟩
  ·simp only[VR,mpR,List.getElem?_concat_length,ext,Nat.lt_irrefl,if_false,and_self]
 obtain⟨st2,ρ',q1,q2,q3⟩:=TR.ownsD (r:=T.mem.length) (b:=ts) dr cs ts.ts [] [] hb h1 (by simp) (by simpa using hc);refine⟨st2,ρ',q1,fun e=>⟨(q2 e).1,fun q hq=>by rw[(q2 e).2];exact zej q hq⟩,?_⟩;simpa using q3
theorem zwA{p es:Nat}{zs:List AV}{ps:List (Nat×Nat×Ar)}{d:Option Nat}(h:TR J T st)(he:evT dr an (.buildo p es zs ps) T.env T.mem κ =some res):∃v m,κ v m=some res/\zec J dr (.buildo p es zs ps) d T st v m:=by
 simp only[evT]at he;split at he
 ·rename_i n;split at he
  ·rename_i t hlt hz;split at he
   ·rename_i hc;simp only[yhb]at hc;have hes:=zbN hc.1;have hk0:Kp J (ext J T.mem.length st.mem.length) T.mem (T.mem++[.arr t [] .no]):=Kp.app fun r hr=>by simp[ext,hr]
    have hown:VR (ext J T.mem.length st.mem.length) (T.mem++[.arr t [] .no]) (.own T.mem.length) (.ms st.mem.length es 0 0):=by simp only[VR,zep,List.getElem?_concat_length,ext,Nat.lt_irrefl,if_false,<-hes];rfl
    obtain⟨q1,q2⟩:=zpF (J:=ext J T.mem.length st.mem.length) (mem:=T.mem++[.arr t [] .no]) (env:=T.env) (env':=st.env) (fun x hx=>((h.ar x).cel hx).mono hk0) ps ((zgq zs).set p (.own T.mem.length)) (zs.set p (.ms st.mem.length es 0 0))
     (by rw[List.length_set];simpa[zgq]using hc.2) ((zgh _ _ _).set p hown)
    rw[List.length_set]at q2;refine⟨_,_,he,.mk (ρ':=ext J T.mem.length st.mem.length) (by simp only[evK];rfl) (And.intro hz q2) ?_ zej⟩;refine h.new h.lt rfl ⟨by simp[<-hes],rfl⟩ ?_;exact⟨_,rfl,q1⟩
   ·cases he
  ·cases he
 ·cases he
theorem zy7{zs:List AV}{d:Option Nat}(h:TR J T st)(he:evT dr an (.alloc zs) T.env T.mem κ =some res):∃v m,κ v m=some res/\zec J dr (.alloc zs) d T st v m:=by
 simp only[evT]at he;split at he
 ·rename_i hc;rw[yhb,yho]at hc;exact zru (zs:=[]) (as:=zs) (p:=True) hc.2 h (zgh _ _ _) hc.1 trivial (by simp only[evK]) he
 ·cases he
theorem zAO{n:Nat}{x:Ar}{d:Option Nat}(h:TR J T st)(he:evT dr an (.boxm n x) T.env T.mem κ =some res):∃v m,κ v m=some res/\zec J dr (.boxm n x) d T st v m:=by
 simp only[evT]at he;split at he
 ·rename_i e1 e2;rw[yhb,yhb,yho]at e2;obtain⟨e2,e3,hb⟩:=e2;have hv:=(h.ar x).cel e2;have e1:=zbN e1;have hl:=hv.len;refine zru (zs:=[]) (p:=(ar st.env x).cells.length=n/\((ar st.env x).cells.all AV.isCell)=true/\(np1 (ar st.env x).cells ||n !=2&&hd1 AV.n8 (ar st.env x).cells)=true) hb h hv e2 ⟨by omega,hv.cells e2,?_⟩ ?_ he
  ·rw[Bool.or_eq_true,yhb]at e3|-;rcases e3 with e3|⟨e3,e4⟩
   ·exact .inl (zng e3 hv)
   ·refine .inr ⟨?_,zow zuc e4 hv⟩;simp only[yho]at e3;have:=Nat.ne_of_beq_eq_false e3;simpa using this
  ·simp only[evK];rw[show n=(ar st.env x).cells.length by omega]
 ·cases he
theorem zAQ{es:Nat}{ps:List Ar}{d:Option Nat}(h:TR J T st)(hno:∀t os,an≠.o t os)(he:evT dr an (.bslm es ps) T.env T.mem κ =some res):∃v m,κ v m=some res/\zec J dr (.bslm es ps) d T st v m:=by
 simp only[evT]at he;split at he
 ·rename_i t;split at he
  ·cases he
  rename_i ht;split at he
  ·rename_i hz;simp only[ygc]at he;obtain⟨xs,h1,h2⟩:=he;have e:=znt h.ar t ps xs h1;have hl:ps.length=xs.length:=by simpa using congrArg List.length e
   have:=h.newArr d t xs (a:=.ms st.mem.length es 0 ps.length) (by rw[hl,hz]);refine⟨_,_,h2,.mk (ρ':=ext J T.mem.length st.mem.length) (by simp only[evK];rfl) (And.intro (znU e hz).2 (by rw[e,zk0 ht];rfl)) ?_ zej⟩;rw[e,<-hz];rw[<-hz]at this;exact this
  ·cases he
 ·exact absurd rfl (hno _ _)
 ·cases he
theorem zCc{es:Nat}{zs:List AV}{l:Ar}{d:Option Nat}(h:TR J T st)(hno:∀t os,an≠.o t os)(he:evT dr an (.mks es zs l) T.env T.mem κ =some res):∃v m,κ v m=some res/\zec J dr (.mks es zs l) d T st v m:=by
 have h1:=h.ar l;simp only[evT]at he;split at he
 ·rename_i t;split at he
  ·rename_i hz;split at he
   ·rename_i k n e;rw[e]at h1;simp only[VR]at h1;obtain⟨g0,he⟩:=zaG he;simp only[yhb,yhc]at g0;simp only[ygc]at he;obtain⟨z,hzz,he⟩:=he;have ez:zs=zap t z:=zmr (zgh J T.mem zs) hzz;have:=h.newArr d t (List.replicate n.toNat z) (a:=.ms st.mem.length es 0 n.toNat) (by rw[hz];simp);refine⟨_,_,he,zec.mk (ρ':=ext J T.mem.length st.mem.length) (by simp only[evK,h1];rfl) (by exact⟨g0.1,g0.2⟩) ?_ zej⟩;rw[List.map_replicate,hz,<-ez]at this;exact this
   ·cases he
  ·cases he
 ·exact absurd rfl (hno _ _)
 ·cases he
theorem TR.setArrW{r:Nat}{t:Ty}{xs xs':List (TV t)}{w w':Ow}{rows:List (List AV)}(h:TR J T st)(hr:T.mem[r]? =some (.arr t xs w))(hl:xs'.length=xs.length)
 (hw:∀fp,(∀i∈fp,i≠J r)->ArrR J T.mem st.mem t xs w (J r) fp->ArrR J (T.mem.set r (.arr t xs' w')) (st.mem.set (J r) (.arr t.sz rows)) t xs' w' (J r) fp):
 TR J ⟨T.env,T.mem.set r (.arr t xs' w')⟩ ⟨st.env,st.mem.set (J r) (.arr t.sz rows)⟩:=by
 have hrl:=(yga.1 hr).1;have hρl:=h.lt r _ hr rfl;have hk:Kp J J T.mem (T.mem.set r (.arr t xs' w')):=by
  refine⟨fun q t' ys w0 hq=>.inr ⟨rfl,?_⟩,fun q b' ds hq=>.inr ⟨rfl,b',ds,?_⟩,fun q hq=>?_⟩
  ·by_cases e:q=r
   ·subst e;rw[hr]at hq;cases hq;exact⟨xs',w',by simp[hrl],hl⟩
   ·rw[ygg (fun h=>e h.symm)];exact⟨ys,w0,hq,rfl⟩
  ·rw[ygg (by rintro rfl;rw[hr]at hq;cases hq)];exact hq
  ·rw[ygg (by rintro rfl;rw[hr]at hq;cases hq)];exact hq
 have old:∀(q:Nat) x,(T.mem.set r (.arr t xs' w'))[q]? =some x->(q=r/\x=.arr t xs' w')\/(q≠r/\T.mem[q]? =some x):=by
  intro q x hq;by_cases e:q=r
  ·subst e;simp[hrl]at hq;exact .inl ⟨rfl,hq.symm⟩
  ·rw[ygg (fun h=>e h.symm)]at hq;exact .inr ⟨e,hq⟩
 have ne:∀(q:Nat) x,T.mem[q]? =some x->x.alive=true->q≠r->J q≠J r:=fun q x hq ha hne e=>hne (h.inj q r x _ hq ha hr rfl e);obtain⟨fp,how⟩:=h.ow;have hfr:∀(q:Nat),∀i∈fp q,(st.mem.set (J r) (.arr t.sz rows))[i]? =st.mem[i]?:=fun q i hi=>by rw[ygg (fun e=>how.rt r q _ hr rfl (by rw[e];exact hi))]
 refine⟨fun n=>(h.env n).mono hk,fun q b' ds hq=>?_,fun q b' ds hq=>?_,fun q q' x x' hq hx hq' hx' e=>?_,⟨fp,fun q t' ys w0 hq=>?_,fun q hq=>?_,how.nd,how.dj,fun q q' x hq hx=>?_⟩,h.pin.mono hk⟩
 ·rcases old q _ hq with⟨_,h2⟩|⟨h1,h2⟩
  ·cases h2
  ·obtain⟨bs,g1,g2⟩:=h.box q b' ds h2;exact⟨bs,by show(st.mem.set (J r) _)[J q]? =_;rw[ygg (fun e=>ne q _ h2 rfl h1 e.symm)];exact g1,g2.mono hk⟩
 ·rcases old q _ hq with⟨rfl,h2⟩|⟨h1,h2⟩
  ·cases h2
  ·exact h.boxC q _ _ h2
 ·have key:∀(q:Nat) x,(T.mem.set r (.arr t xs' w'))[q]? =some x->x.alive=true->∃y,T.mem[q]? =some y/\y.alive=true:=fun q x hq hx=>by
   rcases old q x hq with⟨rfl,_⟩|⟨_,h2⟩
   ·exact⟨_,hr,rfl⟩
   ·exact⟨x,h2,hx⟩
  obtain⟨y,g1,g2⟩:=key q x hq hx;obtain⟨y',g3,g4⟩:=key q' x' hq' hx';exact h.inj q q' y y' g1 g2 g3 g4 e
 ·rcases old q _ hq with⟨rfl,h2⟩|⟨h1,h2⟩
  ·cases h2;exact hw (fp q) (fun i hi e=>how.rt q q _ hr rfl (by rw[<-e];exact hi)) (how.rel q t xs w hr)
  ·refine(how.rel q t' ys w0 h2).mono (fun cs as hv=>hv.mono hk) ?_ (hfr q);show(st.mem.set (J r) _)[J q]? =_;rw[ygg (fun e=>ne q _ h2 rfl h1 e.symm)]
 ·by_cases e:q=r
  ·exact absurd (show(T.mem.set r (.arr t xs' w'))[q]? =some (.arr t xs' w') by rw[e];simp[hrl]) (hq t xs' w')
  ·exact how.nil q fun t' ys w0 h'=>hq t' ys w0 (by show(T.mem.set r _)[q]? =_;rw[ygg (fun h=>e h.symm)];exact h')
 ·rcases old q x hq with⟨rfl,_⟩|⟨_,h2⟩
  ·exact how.rt q q' _ hr rfl
  ·exact how.rt q q' x h2 hx
theorem TR.setArr{r:Nat}{t:Ty}{xs xs':List (TV t)}(h:TR J T st)(hr:T.mem[r]? =some (.arr t xs .no))(hl:xs'.length=xs.length):
 TR J ⟨T.env,T.mem.set r (.arr t xs' .no)⟩ ⟨st.env,st.mem.set (J r) (.arr t.sz (xs'.map (zap t)))⟩:=
 h.setArrW hr hl fun fp _ ⟨_,hf⟩=>⟨by simp[h.lt r _ hr rfl],hf⟩
theorem TR.killE{r:Nat}{x:Root}{e:Ent}(h:TR J T st)(hr:T.mem[r]? =some x)(ha:x.alive=true):TR J ⟨T.env,T.mem.set r .dead⟩ ⟨st.env,st.mem.set (J r) e⟩:=by
 have hrl:=(yga.1 hr).1;have hk:Kp J J T.mem (T.mem.set r .dead):=by
  have key:∀(q:Nat) y,T.mem[q]? =some y->(T.mem.set r .dead)[q]? =some .dead\/(T.mem.set r .dead)[q]? =some y:=fun q y hq=>by
   by_cases e:q=r
   ·subst e;exact .inl (by simp[hrl])
   ·exact .inr (by rw[ygg (fun h=>e h.symm)];exact hq)
  exact⟨fun q t ys w hq=>(key q _ hq).imp id fun h=>⟨rfl,ys,w,h,rfl⟩,fun q b ds hq=>(key q _ hq).imp id fun h=>⟨rfl,b,ds,h⟩,fun q hq=>(key q _ hq).elim id id⟩
 have old:∀(q:Nat) y,(T.mem.set r .dead)[q]? =some y->y.alive=true->q≠r/\T.mem[q]? =some y:=by
  intro q y hq hy;by_cases e:q=r
  ·subst e;simp[hrl]at hq;subst hq;simp[Root.alive]at hy
  ·rw[ygg (fun h=>e h.symm)]at hq;exact⟨e,hq⟩
 have ne:∀(q:Nat) y,T.mem[q]? =some y->y.alive=true->q≠r->J q≠J r:=fun q y hq hy hne e=>hne (h.inj q r y _ hq hy hr ha e);obtain⟨fp,how⟩:=h.ow;have hd:=how.drop hr;refine⟨fun n=>(h.env n).mono hk,fun q b ds hq=>?_,fun q b ds hq=>?_,fun q q' y y' hq hy hq' hy' e=>?_,⟨_,hd.upd (Kp.refl J _) (fun q y hq hy=>?_) (fun q i hi=>?_) hd.nil⟩,h.pin.mono hk⟩
 ·obtain⟨h1,h2⟩:=old q _ hq rfl;obtain⟨bs,g1,g2⟩:=h.box q b ds h2;exact⟨bs,by show(st.mem.set (J r) _)[J q]? =_;rw[ygg (fun e=>ne q _ h2 rfl h1 e.symm)];exact g1,g2.mono hk⟩
 ·obtain⟨h1,h2⟩:=old q _ hq rfl;exact h.boxC q _ _ h2
 ·obtain⟨_,h2⟩:=old q _ hq hy;obtain⟨_,h4⟩:=old q' _ hq' hy';exact h.inj q q' y y' h2 hy h4 hy' e
 ·obtain⟨h1,h2⟩:=old q y hq hy;refine .inl ⟨hq,rfl,fun t xs w _=>?_⟩;show(st.mem.set (J r) _)[J q]? =_;rw[ygg (fun e=>ne q _ h2 hy h1 e.symm)]
 ·split at hi
  ·simp at hi
  ·show(st.mem.set (J r) _)[i]? =_;rw[ygg (fun e=>how.rt r q _ hr ha (by rw[e];exact hi))]
theorem TR.kill{r:Nat}{x:Root}(h:TR J T st)(hr:T.mem[r]? =some x)(ha:x.alive=true):TR J ⟨T.env,T.mem.set r .dead⟩ ⟨st.env,st.mem.set (J r) .dead⟩:=h.killE hr ha
theorem zzc{n:Nat}{a x:Ar}{d:Option Nat}(h:TR J T st)(hno:∀r row off t xs w,arV T.env a=.mp r row off->T.mem[r]? =some (.arr t xs w)->w=.no)(he:evT dr an (.store n a x) T.env T.mem κ =some res):∃v m,κ v m=some res/\zec J dr (.store n a x) d T st v m:=by
 have h1:=h.ar a;simp only[evT]at he;split at he
 ·rename_i r row off e;rw[e]at h1;split at he
  ·rename_i e1 e2;have hv:=(h.ar x).cel e2;have e1:=zbN e1;have hl:=hv.len;have hput:∀{ρ':Nat->Nat}{m:List Root}{sm:List Ent},TR ρ' ⟨T.env,m⟩ ⟨st.env,sm⟩->TR ρ' ⟨zfa T.env d .junk,m⟩ ⟨put st.env d .junk,sm⟩:=fun h=>⟨fun n=>by
    simp only[zbj,zdf];split
    ·simp only[VR]
    ·exact h.env n,h.box,h.boxC,h.inj,h.ow,h.pin⟩
   split at he
   ·rename_i b cs e3;simp only[VR,mpR,e3]at h1;obtain⟨h1,rfl⟩:=h1;obtain⟨as,g1,g2⟩:=h.box r b cs e3;split at he
    ·rename_i e4;rw[yhb,yhb,yho]at e4;obtain⟨hb,e4,e5⟩:=e4;rw[zbQ hb]at g1;have e4:=zbO e4;have hrl:=(yga.1 e3).1;have hcs:cs.all V.isC=true:=h.boxC r b cs e3;have hcc:(cs.take off++(arV T.env x).cel++cs.drop (off+n)).all V.isC=true:=by
      simp only[List.all_append,yhb];refine⟨⟨?_,e2⟩,?_⟩
      ·rw[List.all_eq_true]at hcs|-;exact fun c hc=>hcs c (List.mem_of_mem_take hc)
      ·rw[List.all_eq_true]at hcs|-;exact fun c hc=>hcs c (List.mem_of_mem_drop hc)
     have q:=h.setBox (cs':=cs.take off++(arV T.env x).cel++cs.drop (off+n)) e3 (by simp;omega) (((g2.take off).append hv).append (g2.drop (off+n))) hcc;rw[zbQ hb]at q;have q:=hput q;obtain⟨st2,ρ',q1,q2,q3⟩:=TR.ownsD (r:=r) (b:=b) dr (arV T.env x).cel (b.ts.drop off) (cs.take off) (cs.drop (off+n)) hb q (by simp[hrl]) hcc;simp only[List.set_set,List.length_set]at q3;refine⟨.junk,_,he,_,_,_,by simp only[evK,h1,g1,List.getElem?_cons_zero];rfl,by exact⟨by omega,hv.cells e2,by rw[g2.len];exact e4,zuV e5 hv g2⟩,st2,ρ',?_,?_,q3⟩
     ·have:(cs.take off++(arV T.env x).cel++cs.drop (off+n)).length=cs.length:=by simp;omega
      rw[this]at q1;simpa using q1
     ·intro hd;refine⟨?_,fun q _=>by rw[(q2 hd).2]⟩;rw[(q2 hd).1];have:(cs.take off++(arV T.env x).cel++cs.drop (off+n)).length=cs.length:=by simp;omega
      rw[this];simp
    ·cases he
   ·rename_i t xs e3;simp only[VR,mpR,e3]at h1;have g1:=h.arr r t xs e3;obtain⟨v,hvv,he⟩:=zas he;split at he
    ·rename_i e4;rw[yhb]at e4;obtain⟨e4,e5⟩:=e4;have e4:=zbO e4;simp only[ygc]at he;obtain⟨v',hv',he⟩:=he;have hle:=zbt (J:=J) (mem:=T.mem) t v;have ev:=zmr (((hle.take off).append hv).append (hle.drop (off+n))) hv';have q:=hput (h.setArr (xs':=xs.set row v') e3 (by simp));refine⟨_,_,he,zec.mk (ρ':=J) (by simp only[evK,h1,g1,List.getElem?_map,hvv,Option.map_some];rfl) (by exact⟨by omega,hv.cells e2,by rw[zcO];exact e4,zuV e5 hv (zbt t v)⟩) ?_ (fun _ _=>rfl)⟩;rw[ev,<-List.map_set];exact q
    ·cases he
   ·rename_i e3;cases hno _ _ _ _ _ _ e e3
   ·rename_i e3;cases hno _ _ _ _ _ _ e e3
   ·cases he
  ·cases he
 ·cases he
theorem zwB{k:K}{t:Ty}{w:Ow}{d:Option Nat}(h:TR J T st)(hd:d≠none)(hw:w.shut=true)(hk:evK k st.env st.mem=some (True,.e0,st.mem))(he:κ (.own T.mem.length) (T.mem++[.arr t [] w])=some res):
 ∃v m,κ v m=some res/\zec J false k d T st v m:=by
 cases d with
 |none=>exact absurd rfl hd
 |some d=>
  have:=h.newNil (some d) t w hw (a:=.ms st.mem.length t.sz 0 0) rfl;refine⟨_,_,he,_,_,_,hk,trivial,_,_,?_,(fun e=>by cases e),this⟩;have g:=Gh.own (st:=⟨put st.env (some d) .e0,st.mem⟩) (n:=d) (es:=t.sz) (by simp[look]);refine g.trans ⟨by simp,fun C its hh=>?_⟩;refine AW.ghost (by simp) (fun H F Z w hs=>⟨H,Z,.refl _ _,.refl _,by simpa using hs,fun n x hx=>?_⟩) hh;simp only[zrq,look]at hx|-;split
  ·rename_i e;rw[if_pos e]at hx;exact hx
  ·rename_i e;rw[if_neg e,if_neg e]at hx;exact hx
theorem zAP{d:Option Nat}(h:TR J T st)(hd:an≠.no->d≠none)(he:evT dr an .bsl0 T.env T.mem κ =some res):∃v m,κ v m=some res/\zec J dr .bsl0 d T st v m:=by
 simp only[evT]at he;split at he
 ·exact zwB h (hd (by simp)) rfl rfl he
 ·exact zwB h (hd (by simp)) rfl rfl he
 ·exact⟨_,_,he,ze8.toM h ⟨_,_,rfl,trivial,by simp only[VR]⟩⟩
theorem zpf{sn:Bool}{rows ys:List (List AV)}(n:Nat)(hn:rows.length=n)(hl:n+ys.length<=LIM)(hp:hd1 (apP sn) ((rows++ys).headD [])=true)(h0:(sn ||Nat.blt 0 n)=true):n<=rows.length/\n+ys.length<=LIM/\hd1 (apP sn) ((rows.take n++ys).headD [])=true/\(sn ||Nat.blt 0 n)=true:=by subst hn;exact⟨Nat.le_refl _,hl,by rw[List.take_length];exact hp,h0⟩
theorem zB3{es:Nat}{x y:Ar}{d:Option Nat}(h:TR J T st)(hno:∀t os,an≠.o t os)(he:evT dr an (.app es x y) T.env T.mem κ =some res):∃v m,κ v m=some res/\zec J dr (.app es x y) d T st v m:=by
 have h1:=h.ar x;simp only[evT]at he;split at he
 ·rename_i t;split at he
  ·cases he
  rename_i ht8;split at he
  ·rename_i hz;simp only[ygc]at he;obtain⟨ys,hy,he⟩:=he;have hrow:=zqc h hy;rw[hz]at hrow;split at he
   ·rename_i e;rw[e]at h1;simp only[VR]at h1;obtain⟨g0,he⟩:=zaG he;have:=h.newArr d t ys (a:=.ms st.mem.length es 0 ys.length) (by rw[hz]);rw[hz]at this;exact⟨_,_,he,zec.mk (by simp only[evK,hrow,h1,zdJ];rfl) (And.intro (by simpa using g0) (zk0 ht8 ys)) (by simpa using this) zej⟩
   ·rename_i r e;rw[e]at h1;split at he
    ·rename_i t' xs e2;simp only[VR,zep,e2]at h1;split at he
     ·rename_i ht;subst ht;obtain⟨g0,he⟩:=zaG he;have hr:=h.arr r _ _ e2;have hk:=h.kill e2 rfl;have:=hk.newArr d t' (xs++ys) (a:=.ms st.mem.length es 0 (xs.length+ys.length)) (by simp[hz]);rw[hz]at hr h1;simp only[List.length_set,hz]at this;refine⟨_,_,he,zec.mk (ρ':=ext J T.mem.length st.mem.length) (by simp only[evK,hrow,h1,zdJ,hr];rfl) (by have hh:=zk0 ht8 (xs++ys);rw[List.map_append]at hh;simpa using zpf (sn:=true) (rows:=xs.map (zap t')) (ys:=ys.map (zap t')) xs.length (by simp) (by simpa using g0) hh rfl) ?_ zej⟩;simp only[List.length_map];rw[List.take_of_length_le (by simp),<-List.map_append];exact this
     ·cases he
    ·cases he
   ·cases he
  ·cases he
 ·exact absurd rfl (hno _ _)
 ·cases he
theorem zAM{x y:Ar}{d:Option Nat}(h:TR J T st)(he:evT dr an (.apps x y) T.env T.mem κ =some res):∃v m,κ v m=some res/\zec J dr (.apps x y) d T st v m:=by
 have h1:=h.ar x;have h2:=h.ar y;have eb:∀s:Str,s.map zpt=(s.map zaI).map (zap (.int .u8)):=fun s=>by simp[zpt,zaI,zap]
 simp only[evT]at he;split at he
 ·rename_i s e0;rw[e0]at h2;simp only[VR]at h2;split at he
  ·rename_i e;rw[e]at h1;simp only[VR]at h1;obtain⟨g0,he⟩:=zaG he;have:=h.newArr d (.int .u8) (s.map zaI) (a:=.ms st.mem.length 1 0 s.length) (by simp[Ty.sz]);refine⟨_,_,he,zec.mk (ρ':=ext J T.mem.length st.mem.length) (by simp only[evK,h2,h1,zdJ];rfl) (And.intro (by simpa using g0) (by rw[eb];exact zud _)) ?_ zej⟩;rw[eb,List.length_map,List.length_map];exact this
  ·rename_i r e;rw[e]at h1;split at he
   ·rename_i xs e2;simp only[VR,zep,e2]at h1;obtain⟨g0,he⟩:=zaG he;have hr:=h.arr r _ _ e2;have hk:=h.kill e2 rfl;have:=hk.newArr d (.int .u8) (xs++s.map zaI) (a:=.ms st.mem.length 1 0 (xs.length+s.length)) (by simp[Ty.sz]);simp only[Ty.sz]at hr h1;simp only[List.length_set]at this;refine⟨_,_,he,zec.mk (ρ':=ext J T.mem.length st.mem.length) (by simp only[evK,h2,h1,zdJ,hr];rfl) (by have hh:=zud (xs++s.map zaI);rw[List.map_append]at hh;rw[yhb]at g0;rw[eb];simpa using zpf (sn:=false) (rows:=xs.map (zap (.int .u8))) (ys:=(s.map zaI).map (zap (.int .u8))) xs.length (by simp) (by simpa using g0.2) hh (Nat.ble_eq_true_of_le (show 1<=xs.length from of_decide_eq_true g0.1))) ?_ zej⟩;rw[eb];simp only[List.length_map];rw[List.take_of_length_le (by simp),<-List.map_append];exact this
   ·cases he
  ·cases he
 ·cases he
end
end Go.Fw
namespace Go.Fw
open Go
set_option linter.unusedSectionVars false
section
variable [Pin]{J:Nat->Nat}{T:TS}{st:St}{ρt:Type}{res:ρt}{an:An}{dr:Bool}{κ:V->List Root->Option ρt}
theorem znc(xs:List Pair):zsR [.sl 2 (xs.map (zap (.nm .Pair)))]=xs.map fun p=>(.str p.k,.str p.v):=by simp only[zsR,List.map_map];rfl
theorem zkZ(k:Str):∀xs:List Pair,zkY k (xs.map fun p=>((.str p.k,.str p.v):AV×AV))=some ((xs.find? fun p=>p.k==k).map fun p=>.str p.v)
|[]=>rfl
|p:: xs=>by
 simp only[List.map_cons,zkY,List.find?_cons];by_cases h:p.k=k
 ·rw[if_pos h];simp[h]
 ·have:(p.k==k)=false:=by simpa using h
  rw[if_neg h,this,zkZ k xs]
theorem zs0{mem:List Root}{xs:List Pair}{as:List AV}(h:VRL J mem [.lst (.nm .Pair) xs] as):as=[.sl 2 (xs.map (zap (.nm .Pair)))]:=by simp only[VRL,VR]at h;obtain⟨a,as',rfl,rfl,rfl⟩:=h;rfl
theorem zCe{d:Option Nat}(h:TR J T st)(he:evT dr an .mmk T.env T.mem κ =some res):∃v m,κ v m=some res/\zec J dr .mmk d T st v m:=by
 simp only[evT]at he;refine⟨_,_,he,.mk (ρ':=ext J T.mem.length st.mem.length) (p:=True) (a:=.mapr st.mem.length) (sm:=st.mem++[.mp []]) rfl trivial ?_ zej⟩;refine h.new (e:=.mp []) h.lt rfl ⟨⟨[.sl 2 []],rfl,?_⟩,rfl⟩ ?_
 ·simp[VRL,VR,Ty.sz,N.sz]
 ·simp only[VR,zep,List.getElem?_concat_length,ext,Nat.lt_irrefl,if_false]
theorem zCd{x y:Ar}(h:TR J T st)(he:evT dr an (.mlk x y) T.env T.mem κ =some res):∃v,κ v T.mem=some res/\ze8 J (.mlk x y) T st v:=by
 have h1:=h.ar x;have h2:=h.ar y;simp only[evT]at he;split at he
 ·rename_i r k e1 e2;rw[e1]at h1;rw[e2]at h2;split at he
  ·rename_i b xs e3;simp only[VR,zep,e3]at h1;simp only[VR]at h2;split at he
   ·rename_i hb;obtain⟨as,g1,g2⟩:=h.box r b _ e3;rw[zph hb,zs0 g2,znc]at g1;have hg:=zkZ k xs;refine⟨_,he,?_⟩;unfold zBg zAy;cases hf:xs.find? fun p=>p.k==k with
    |none=>
     rw[hf]at hg;have ha:xs.any (fun p=>p.k==k)=false:=by rw[List.any_eq_false];exact fun p hp=>List.find?_eq_none.1 hf p hp
     rw[ha];exact⟨True,.tup [.str [],.bool false],by simp only[evK,h1,h2,g1,hg,Option.map_none],trivial,⟨_,rfl,_,_,rfl,rfl,_,_,rfl,rfl,rfl⟩⟩
    |some p=>rw[hf]at hg;have ha:xs.any (fun p=>p.k==k)=true:=List.any_eq_true.2 ⟨p,List.mem_of_find?_eq_some hf,List.find?_some (p:=fun p:Pair=>p.k==k) hf⟩;rw[ha];exact⟨(AV.str p.v).isCell=true,.tup [.str p.v,.bool true],by simp only[evK,h1,h2,g1,hg,Option.map_some],rfl,⟨_,rfl,_,_,rfl,rfl,_,_,rfl,rfl,rfl⟩⟩
   ·cases he
  ·cases he
 ·cases he
theorem zCf{m x y:Ar}{d:Option Nat}(h:TR J T st)(he:evT dr an (.mup m x y) T.env T.mem κ =some res):∃v m',κ v m'=some res/\zec J dr (.mup m x y) d T st v m':=by
 have h0:=h.ar m;have h1:=h.ar x;have h2:=h.ar y;simp only[evT]at he;split at he
 ·rename_i r k s e0 e1 e2;rw[e0]at h0;rw[e1]at h1;rw[e2]at h2;split at he
  ·rename_i b xs e3;simp only[VR,zep,e3]at h0;simp only[VR]at h1 h2;split at he
   ·rename_i hb;obtain⟨hh,he⟩:=zaG he;obtain⟨as,g1,g2⟩:=h.box r b _ e3;have g1':=g1;rw[zph hb,zs0 g2,znc]at g1;have hf:(xs.find? fun p=>p.k==k)=none:=by rw[List.find?_eq_none];intro p hp;rw[yho]at hh;exact List.any_eq_false.1 hh p hp
    have hg:=zkZ k xs;rw[hf]at hg;have q:=h.setBox (cs':=[.lst (.nm .Pair) (xs++[(⟨k,s⟩:Pair)])]) (as':=[.sl 2 ((xs++[(⟨k,s⟩:Pair)]).map (zap (.nm .Pair)))]) e3 rfl ⟨_,_,rfl,rfl,rfl⟩ rfl;rw[zph hb,znc,List.map_append]at q;refine⟨_,_,he,.mk (ρ':=J) (p:=True) (by simp only[evK,h0,h1,h2,g1,hg,Option.map_none];rfl) trivial ?_ (fun _ _=>rfl)⟩;refine⟨fun n=>?_,?_,q.boxC,q.inj,?_,q.pin⟩
    ·simp only[zbj,zdf];split
     ·simp only[VR]
     ·exact q.env n
    ·exact q.box
    ·exact q.ow
   ·cases he
  ·cases he
 ·cases he
end
end Go.Fw
namespace Go.Fw
open Go
set_option linter.unusedSectionVars false
theorem Sat.cutE{H:Hp}{F:Fr}{Z:Bt}{mem:List Ent}{w:World}{r es k:Nat}{rows:List (List AV)}{x:Option (Nat×Nat×Nat)}(h:Sat H F Z mem w)(hr:mem[r]? =some (.arr es rows))(hx:Z[r]? =some x):
 Sat H F (Z++[x]) ((mem++[Ent.arr es (rows.take k)]).set r .dead) w:=by
 have hrl:=(yga.1 hr).1;have hB:=zcY.append Z [x];have old:∀(i:Nat)(e:Ent),((mem++[Ent.arr es (rows.take k)]).set r .dead)[i]? =some e->e.live=true->(i<mem.length/\i≠r/\mem[i]? =some e)\/(i=mem.length/\e=.arr es (rows.take k)):=by
  intro i e hi he;rw[List.getElem?_set]at hi;split at hi
  ·split at hi
   ·cases hi;cases he
   ·cases hi
  ·rename_i hne;rw[List.getElem?_append]at hi;split at hi
   ·rename_i hlt;exact .inl ⟨hlt,fun e=>hne e.symm,hi⟩
   ·rename_i hlt;have:i-mem.length=0:=by have:=(yga.1 hi).1;simp at this;omega
    rw[this]at hi;simp at hi;exact .inr ⟨by omega,hi.symm⟩
 have oldβ:∀i y,(Z++[x])[i]? =some y->(i<mem.length->Z[i]? =some y)/\(i=mem.length->y=x):=by
  intro i y hi;refine⟨fun hlt=>?_,fun e=>?_⟩
  ·rwa [yge (by rw[h.hl];exact hlt)]at hi
  ·subst e;rw[<-h.hl]at hi;simpa using hi.symm
 have src:∀(i:Nat)(e:Ent),((mem++[Ent.arr es (rows.take k)]).set r .dead)[i]? =some e->e.live=true->∀y,(Z++[x])[i]? =some y->∃j e',(j=i/\j<mem.length/\j≠r\/i=mem.length/\j=r)/\mem[j]? =some e'/\e'.live=true/\Z[j]? =some y:=by
  intro i e hi he y hy;rcases old i e hi he with⟨h1,h2,h3⟩|⟨rfl,rfl⟩
  ·exact⟨i,e,.inl ⟨rfl,h1,h2⟩,h3,he,(oldβ i y hy).1 h1⟩
  ·exact⟨r,_,.inr ⟨rfl,rfl⟩,hr,rfl,by rw[(oldβ _ y hy).2 rfl];exact hx⟩
 refine{hH:=h.hH,gh:=h.gh,hF:=h.hF,sm:=h.sm,hl:=by simp[h.hl],ent:=fun i e y hi hy=>?_,apart:=fun i e y hi he hy=>?_,inj:=fun i j e e' y z hi he hj he' hy hz hyz=>?_}
 ·cases e with
  |dead=>trivial
  |mp q=>
   rcases old i _ hi rfl with⟨h1,h2,h3⟩|⟨rfl,e⟩
   ·have h0:=h.ent i _ y h3 ((oldβ i y hy).1 h1);cases y with
    |none=>exact h0
    |some y=>obtain⟨en,cl,g1,g2,g3⟩:=h0;exact⟨en,cl,g1,g2,fun a b c d e1 e2=>⟨(g3 a b c d e1 e2).1.mono (.refl _) hB,(g3 a b c d e1 e2).2.mono (.refl _) hB⟩⟩
   ·cases e
  |arr es' rows'=>
   rcases old i _ hi rfl with⟨h1,h2,h3⟩|⟨rfl,e⟩
   ·have h0:=h.ent i _ y h3 ((oldβ i y hy).1 h1);cases y with
    |none=>exact h0
    |some y=>obtain⟨g1,cells,elem,g2,g3,g4,g5,g6,g7,g8⟩:=h0;exact⟨g1,cells,elem,g2,g3,g4,g5,g6,fun a b c d e1 e2=>(g7 a b c d e1 e2).imp fun v hv=>⟨hv.1,hv.2.mono (.refl _) hB⟩,g8⟩
   ·cases e;obtain rfl:=(oldβ _ y hy).2 rfl;have h0:=h.ent r _ y hr hx;cases y with
    |none=>have:rows=[]:=h0;subst this;exact List.take_nil
    |some y=>
     obtain⟨g1,cells,elem,g2,g3,g4,g5,g6,g7,g8⟩:=h0;refine⟨g1,cells,elem,g2,g3,by simp;omega,fun q hq=>g5 q (List.mem_of_mem_take hq),fun q hq=>g6 q (List.mem_of_mem_take hq),fun a b c d e1 e2=>?_,fun hne=>g8 fun e=>hne (by simp[e])⟩;rw[List.getElem?_take]at e1;split at e1
     ·exact(g7 a b c d e1 e2).imp fun v hv=>⟨hv.1,hv.2.mono (.refl _) hB⟩
     ·cases e1
 ·obtain⟨j,e',_,h1,h2,h3⟩:=src i e hi he _ hy;exact h.apart j e' y h1 h2 h3
 ·obtain⟨a,ea,ha,h1,h2,h3⟩:=src i e hi he _ hy;obtain⟨b,eb,hb,h4,h5,h6⟩:=src j e' hj he' _ hz;have:=h.inj a b _ _ y z h1 h2 h4 h5 h3 h6 hyz;omega
section
variable [Pin]{J:Nat->Nat}{T:TS}{st:St}
theorem TR.cut{b r j k:Nat}{bt:BT}{cs:List V}{t:Ty}{xs:List (TV t)}(hb:bt.mpB=false)(h:TR J T st)(hbx:T.mem[b]? =some (.box bt cs))(hj:cs[j]? =some (.part r 0 k))(hr:T.mem[r]? =some (.arr t xs .no)):
 ∃st2 ρ',Gh st st2/\TR ρ' ⟨T.env,((T.mem++[Root.arr t (xs.take k) .no]).set r .dead).set b (.box bt (cs.set j (.own T.mem.length)))⟩ st2:=by
 have hne:r≠b:=fun e=>by rw[e,hbx]at hr;cases hr
 have hrl:=(yga.1 hr).1;have hbl:=(yga.1 hbx).1;have hc:=h.boxC b bt cs hbx;obtain⟨as,g1,g2⟩:=h.box b bt cs hbx;rw[zbQ hb]at g1;obtain⟨a,g3,g4⟩:=g2.get j _ hj;simp only[VR,zgr,hr,Nat.zero_add]at g4;obtain⟨rfl,hk⟩:=g4;have g5:=h.arr r t xs hr;have hcell:∀c∈as,c.isCell=true:=List.all_eq_true.1 (g2.cells hc);have hρn:J r≠J b:=fun e=>hne (h.inj r b _ _ hr rfl hbx rfl e);have hρr:=h.lt r _ hr rfl;have hρb:=h.lt b _ hbx rfl;let m:=st.mem.length;let e:Ent:=.arr t.sz ((xs.take k).map (zap t));have hgh:Gh st ⟨st.env,((st.mem++[e]).set (J r) .dead).set (J b) (.arr cs.length [as.set j (.ms m t.sz 0 k)])⟩:=by
  refine⟨by simp,fun C its hh=>AW.ghost (st':=⟨st.env,((st.mem++[e]).set (J r) .dead).set (J b) (.arr cs.length [as.set j (.ms m t.sz 0 k)])⟩) (by simp) (fun H F Z w hs=>?_) hh⟩;have hx:∃x,Z[J r]? =some x:=⟨_,ygb (by rw[hs.hl];exact hρr)⟩
  obtain⟨x,hx⟩:=hx;refine⟨H,Z++[x],.refl _ _,.append _ _,?_,fun n x hx=>hx.mono (.refl _) (.append _ _)⟩;have h1:=hs.cutE (k:=k) g5 hx;rw[<-List.map_take]at h1;have hm:(Z++[x])[m]? =some x:=by simp only[m];rw[<-hs.hl];simp
  have h2:=h1.rerow (i:=J b) (es:=cs.length) (rows:=[as]) (q:=0) (row:=as) (row':=as.set j (.ms m t.sz 0 k)) (by
   rw[ygg hρn,yge hρb];exact g1) rfl (by simp) (fun hc c hc'=>by
   rcases List.mem_or_eq_of_mem_set hc' with h|rfl
   ·exact hc c h
   ·rfl) (fun q c c' v hk hk' hr=>by
   rw[List.getElem?_set]at hk';split at hk'
   ·rename_i e;subst e;split at hk'
    ·cases hk';rw[g3]at hk;cases hk;have hxo:(Z++[x])[J r]? =some x:=by rw[yge (by rw[hs.hl];exact hρr)];exact hx
     cases hr with
     |ms hb z1 z2 z3=>rw[hxo]at hb;cases hb;exact .ms hm z1 z2 z3
     |ms0 hb=>exact .ms0 hm
    ·cases hk'
   ·rw[hk]at hk';cases hk';exact hr)
  simpa[e]using h2
 refine⟨_,ext J T.mem.length m,hgh,?_⟩;have h1:=h.newArr none t (xs.take k) (a:=.ms st.mem.length t.sz 0 (xs.take k).length) rfl;simp only[zfa,put_none]at h1;have eρ:∀q,q<T.mem.length->ext J T.mem.length m q=J q:=fun q hq=>by simp[ext,hq]
 have h2:=h1.killE (e:=.dead) (r:=r) (x:=.arr t xs .no) (by show(T.mem++_)[r]? =_;rw[yge hrl];exact hr) rfl;have hb2:((T.mem++[Root.arr t (xs.take k) .no]).set r .dead)[b]? =some (.box bt cs):=by rw[ygg hne,yge hbl];exact hbx
 obtain⟨as2,q1,q2⟩:=h2.box b bt cs hb2;rw[eρ r hrl,eρ b hbl,zbQ hb]at q1;have e1:as2=as:=by
  have:((st.mem++[Ent.arr t.sz ((xs.take k).map (zap t))]).set (J r) .dead)[J b]? =st.mem[J b]?:=by rw[ygg hρn,yge hρb]
  rw[show({env:=st.env,mem:=(st.mem++[Ent.arr t.sz ((xs.take k).map (zap t))]).set (J r) .dead}:St).mem=_ from rfl,this,g1]at q1;simpa using q1.symm
 subst e1;have h3:=h2.setBox (r:=b) (cs':=cs.set j (.own T.mem.length)) (as':=as2.set j (.ms m t.sz 0 k)) hb2 (by simp)
  (q2.set j (by
   simp only[VR,zep];rw[ygg (by omega),List.getElem?_concat_length];simp only[ext,Nat.lt_irrefl,if_false,List.length_take,Nat.min_eq_left hk];rfl)) (by
   rw[List.all_eq_true]at hc|-;intro c hc';rcases List.mem_or_eq_of_mem_set hc' with h|rfl
   ·exact hc c h
   ·rfl)
 rw[eρ r hrl,eρ b hbl,zbQ hb]at h3;rw[List.length_set]at h3;exact h3
end
section
variable [Pin]{J:Nat->Nat}{T:TS}{st:St}
theorem zx1(h:TR J T st)(n j:Nat):∃st1 ρ1,Gh st st1/\TR ρ1 (zz4 n j T) st1:=by
 unfold zz4;split
 ·split
  ·rename_i b cs hr;split
   ·rename_i hb;split
    ·rename_i r k hj;split
     ·exact TR.cut hb h (by assumption) hj (by assumption)
     ·exact⟨st,J,.refl _,h⟩
    ·exact⟨st,J,.refl _,h⟩
   ·exact⟨st,J,.refl _,h⟩
  ·exact⟨st,J,.refl _,h⟩
 ·exact⟨st,J,.refl _,h⟩
theorem zvI(n j:Nat)(T:TS):(zz4 n j T).env=T.env:=by
 unfold zz4;repeat' split
 all_goals rfl
end
end Go.Fw
namespace Go.Fw
open Go
variable [Pin]
theorem OwC.no{sm:List Ent}{v:V}{a:AV}{fp:List Nat}(h:OwC sm none v a fp):fp=[]/\VR id [] v a:=by
 cases h with
 |leaf hp h=>exact⟨rfl,h⟩
theorem OwCs.no{sm:List Ent}{off:Nat}{vs:List V}{as:List AV}{fp:List Nat}:OwCs sm .no off vs as fp->fp=[]/\VRL id [] vs as
|.nil=>⟨rfl,by simp[VRL]⟩
|.cons h hs=>by obtain⟨rfl,h2⟩:=OwC.no (show OwC sm none _ _ _ from h);obtain⟨rfl,h4⟩:=hs.no;exact⟨rfl,.cons h2 h4⟩
mutual
theorem VR.uniq{J ρ':Nat->Nat}{mem mem':List Root}:∀{v:V}{a a':AV},v.pur=true->VR J mem v a->VR ρ' mem' v a'->a=a'
|.junk,_,_,hp,_,_|.own _,_,_,hp,_,_|.part ..,_,_,hp,_,_|.mp ..,_,_,hp,_,_=>by simp[V.pur]at hp
|.int _ _,a,a',_,h,h'|.bool _,a,a',_,h,h'|.str _,a,a',_,h,h'|.lst _ _,a,a',_,h,h'|.nl _,a,a',_,h,h'|.e0,a,a',_,h,h'|.ep _ _,a,a',_,h,h'|.nilp,a,a',_,h,h'|.nilf,a,a',_,h,h'|.st _ _,a,a',_,h,h'=>by simp only[VR]at h h';rw[h,h']
|.ip cs,a,a',hp,h,h'|.agg cs,a,a',hp,h,h'|.tup cs,a,a',hp,h,h'|.fn _ cs,a,a',hp,h,h'=>by simp only[VR]at h h';obtain⟨as,rfl,h⟩:=h;obtain⟨as',rfl,h'⟩:=h';rw[VRL.uniq (by simpa[V.pur]using hp) h h']
theorem VRL.uniq{J ρ':Nat->Nat}{mem mem':List Root}:∀{cs:List V}{as as':List AV},V.purL cs=true->VRL J mem cs as->VRL ρ' mem' cs as'->as=as'
|[],as,as',_,h,h'=>by simp only[VRL]at h h';rw[h,h']
|c:: cs,as,as',hp,h,h'=>by simp only[VRL]at h h';obtain⟨a,l,rfl,h1,h2⟩:=h;obtain⟨a',l',rfl,h3,h4⟩:=h';simp only[V.purL,yhb]at hp;rw[VR.uniq hp.1 h1 h3,VRL.uniq hp.2 h2 h4]
end
theorem zAc(n:N)(x:Nm n):V.purL (fl n x)=true:=by cases n<;>simp[fl,V.purL,V.pur,ziL,zrT,zjo,zga,zmO,zpI,zrP,zrQ,zf8,zpJ,zrN,zrR,zrU,zpH,zrO,zfx,zf9,zrS,ziK,zgU,zgV,zma]
theorem zkQ(t:Ty)(x:TV t):V.purL (leafs t x)=true:=by
 cases t with
 |nm n=>exact zAc n x
 |_=>simp[leafs,V.purL,V.pur]
theorem zv8(t:Ty)(x:TV t){J:Nat->Nat}{mem:List Root}{as:List AV}(h:VRL J mem (leafs t x) as):as=zap t x:=
 h.uniq (zkQ t x) (zbt (J:=J) (mem:=mem) t x)
theorem OwRs.no{sm:List Ent}{t:Ty}{xs:List (TV t)}{rows:List (List AV)}{fp:List Nat}:OwRs sm .no t xs rows fp->fp=[]/\rows=xs.map (zap t)
|.nil=>⟨rfl,rfl⟩
|.cons h hs=>by obtain⟨rfl,h2⟩:=h.no;obtain⟨rfl,h4⟩:=hs.no;exact⟨rfl,by rw[List.map_cons,h4,zv8 _ _ h2]⟩
theorem OwRs.arr{J:Nat->Nat}{mem:List Root}{sm:List Ent}{o:OS}{t:Ty}{xs:List (TV t)}{rows:List (List AV)}{i:Nat}{fp:List Nat}(hi:sm[i]? =some (.arr t.sz rows))(h:OwRs sm o t xs rows fp):ArrR J mem sm t xs (zpc o) i fp:=by
 cases o with
 |no=>obtain⟨h1,h2⟩:=h.no;exact⟨by rw[hi,h2],h1⟩
 |all=>exact⟨rows,hi,h⟩
 | «at» ps=>exact⟨rows,hi,h⟩
theorem ArrR.shut{J ρ':Nat->Nat}{mem mem':List Root}{sm:List Ent}{t:Ty}{xs:List (TV t)}{w:Ow}{i:Nat}{fp:List Nat}(h:ArrR J mem sm t xs w i fp)(hw:w.shut=true):ArrR ρ' mem' sm t xs w i fp:=by
 cases w with
 |no=>exact h
 |cl os=>exact h
 |op _ _ _=>cases hw
theorem zoN(o:OS):(zpc o).shut=true:=by cases o<;>rfl
mutual
theorem VR.any{J ρ':Nat->Nat}{mem mem':List Root}:∀{v:V}{a:AV},v.pur=true->VR J mem v a->VR ρ' mem' v a
|.junk,_,hp,_|.own _,_,hp,_|.part ..,_,hp,_|.mp ..,_,hp,_=>by simp[V.pur]at hp
|.int _ _,a,_,h|.bool _,a,_,h|.str _,a,_,h|.lst _ _,a,_,h|.nl _,a,_,h|.e0,a,_,h|.ep _ _,a,_,h|.nilp,a,_,h|.nilf,a,_,h|.st _ _,a,_,h=>by simp only[VR]at h|-;exact h
|.ip cs,a,hp,h|.agg cs,a,hp,h|.tup cs,a,hp,h|.fn _ cs,a,hp,h=>by simp only[VR]at h|-;obtain⟨as,rfl,h⟩:=h;exact⟨as,rfl,VRL.any (by simpa[V.pur]using hp) h⟩
theorem VRL.any{J ρ':Nat->Nat}{mem mem':List Root}:∀{cs:List V}{as:List AV},V.purL cs=true->VRL J mem cs as->VRL ρ' mem' cs as
|[],as,_,h=>by simp only[VRL]at h|-;exact h
|c:: cs,as,hp,h=>by simp only[VRL]at h;obtain⟨a,l,rfl,h1,h2⟩:=h;simp only[V.purL,yhb]at hp;exact .cons (VR.any hp.1 h1) (VRL.any hp.2 h2)
end
def zCt(sm:List Ent)(os:OS)(off:Nat)(vs:List V)(as:List AV)(fp:List Nat)(base:Nat):Prop:=∃ifs:List (Nat×List Nat),ifs.length=(opn os off base vs).2.length/\fp=ifs.flatMap (fun p=>p.1:: p.2)/\
 (∀(k:Nat) x p,(opn os off base vs).2[k]? =some x->ifs[k]? =some p->∃t ys w,x=.arr t ys w/\w.shut=true/\∀J mem,ArrR J mem sm t ys w p.1 p.2)/\
 (∀ρ' mem',(∀(k:Nat) x p,(opn os off base vs).2[k]? =some x->ifs[k]? =some p->mem'[base+k]? =some x/\ρ' (base+k)=p.1)->VRL ρ' mem' (opn os off base vs).1 as)
theorem zy1{sm:List Ent}{os:OS}:∀{off:Nat}{vs:List V}{as:List AV}{fp:List Nat},OwCs sm os off vs as fp->V.purL vs=true->∀base,zCt sm os off vs as fp base
|off,_,_,_,.nil,_,base=>⟨[],rfl,rfl,by simp[opn],by simp[opn,VRL]⟩
|off,v:: vs,a:: as,_,.cons (fp:=fp1) (fp':=fp2) h hs,hp,base=>by
 simp only[V.purL,yhb]at hp;have plain:(opn os off base (v:: vs))=(v:: (opn os (off+1) base vs).1,(opn os (off+1) base vs).2)->fp1=[]->VR id [] v a->zCt sm os off (v:: vs) (a:: as) (fp1++fp2) base:=fun e h1 h2=>by obtain⟨ifs,g1,g2,g3,g4⟩:=zy1 hs hp.2 base;refine⟨ifs,by rw[e];exact g1,by rw[h1,g2];rfl,by rw[e];exact g3,fun ρ' mem' hh=>?_⟩;rw[e]at hh|-;refine .cons ?_ (g4 ρ' mem' hh);exact VR.any hp.1 h2
 cases ho:os.sub off with
 |none=>rw[ho]at h;obtain⟨h1,h2⟩:=h.no;exact plain (by simp only[opn,ho]) h1 h2
 |some o=>
  rw[ho]at h;cases h with
  |other hl hp' h2=>exact plain (by cases v<;>simp[V.isLst]at hl<;>simp only[opn,ho]) rfl h2
  | @own _ t xs i rows fp hi h2=>
   obtain⟨ifs,g1,g2,g3,g4⟩:=zy1 hs hp.2 (base+1);have e:opn os off base (.lst t xs:: vs)=(.own base:: (opn os (off+1) (base+1) vs).1,.arr t xs (zpc o):: (opn os (off+1) (base+1) vs).2):=by simp only[opn,ho]
   refine⟨(i,fp):: ifs,by rw[e];simp[g1],by rw[g2];simp,fun k x p hk hpk=>?_,fun ρ' mem' hh=>?_⟩
   ·rw[e]at hk;cases k with
    |zero=>simp at hk hpk;subst hk hpk;exact⟨t,xs,zpc o,rfl,zoN o,fun J mem=>OwRs.arr hi h2⟩
    |succ k=>exact g3 k x p (by simpa using hk) (by simpa using hpk)
   ·rw[e]at hh|-;refine .cons ?_ (g4 ρ' mem' fun k x p hk hpk=>?_)
    ·obtain⟨q1,q2⟩:=hh 0 _ (i,fp) rfl rfl;simp only[Nat.add_zero]at q1 q2;simp only[VR,zep,q1,q2]
    ·have:=hh (k+1) x p (by simpa using hk) (by simpa using hpk);rw[show base+(k+1)=base+1+k by omega]at this;exact this
theorem zup(os:OS):∀(vs:List V)(off base:Nat),(opn os off base vs).1.length=vs.length
|[],_,_=>rfl
|v:: vs,off,base=>by simp only[opn];split<;>simp[zup os vs]
theorem zp5(os:OS):∀(vs:List V)(off base:Nat),vs.all V.isC=true->(opn os off base vs).1.all V.isC=true
|[],_,_,_=>rfl
|v:: vs,off,base,h=>by
 simp only[List.all_cons,yhb]at h;simp only[opn];split
 ·simp only[List.all_cons,yhb];exact⟨rfl,zp5 os vs _ _ h.2⟩
 ·simp only[List.all_cons,yhb];exact⟨h.1,zp5 os vs _ _ h.2⟩
theorem zAb(n:N)(x:Nm n):(fl n x).all V.isC=true:=by cases n<;>simp[fl,V.isC,ziL,zrT,zjo,zga,zmO,zpI,zrP,zrQ,zf8,zpJ,zrN,zrR,zrU,zpH,zrO,zfx,zf9,zrS,ziK,zgU,zgV,zma]
theorem ztX(t:Ty)(x:TV t):(leafs t x).all V.isC=true:=by
 cases t with
 |nm n=>exact zAb n x
 |_=>simp[leafs,V.isC]
theorem zic(t:Ty)(x:TV t):(leafs t x).length=t.sz:=by rw[<-(zbt (J:=id) (mem:=[]) t x).len,zcO]
theorem OwRs.split{sm:List Ent}{os:OS}{t:Ty}:∀{xs:List (TV t)}{rows:List (List AV)}{fp:List Nat}(row:Nat)(v:TV t),OwRs sm os t xs rows fp->xs[row]? =some v->
 ∃pre post rpre r rpost fp1 fpv fp2,xs=pre++v:: post/\rows=rpre++r:: rpost/\row=pre.length/\rpre.length=row/\fp=fp1++(fpv++fp2)/\OwRs sm os t pre rpre fp1/\OwCs sm os 0 (leafs t v) r fpv/\OwRs sm os t post rpost fp2
 |_,_,_,row,v,.nil,h=>by simp at h
 |x:: xs,r:: rows,_,0,v,.cons (fp:=fp1) (fp':=fp2) h hs,hv=>by simp at hv;subst hv;exact⟨[],xs,[],r,rows,[],fp1,fp2,rfl,rfl,rfl,rfl,by simp,.nil,h,hs⟩
 |x:: xs,r:: rows,_,row+1,v,.cons (fp:=fp0) (fp':=fp0') h hs,hv=>by obtain⟨pre,post,rpre,r',rpost,fp1,fpv,fp2,e1,e2,e3,e4,e5,h1,h2,h3⟩:=OwRs.split row v hs (by simpa using hv);exact⟨x:: pre,post,r:: rpre,r',rpost,fp0++fp1,fpv,fp2,by simp[e1],by simp[e2],by simp[e3],by simp[e4],by simp[e5],.cons h h1,h2,h3⟩
theorem zp2{A B:List Nat}{ifs:List (Nat×List Nat)}(h:(A++(ifs.flatMap (fun p=>p.1:: p.2)++B)).Nodup):
 (A++B).Nodup/\(∀p∈ifs,(p.1:: p.2).Nodup)/\(∀(k k':Nat) p p',ifs[k]? =some p->ifs[k']? =some p'->k≠k'->∀i∈p.1:: p.2,i∉p'.1:: p'.2)/\(∀p∈ifs,∀i∈p.1:: p.2,i∉A++B):=by
 induction ifs with
 |nil=>simp at h|-;exact h
 |cons q ifs ih=>
  have hp:(A++((q:: ifs).flatMap (fun p=>p.1:: p.2)++B)).Perm ((q.1:: q.2)++(A++(ifs.flatMap (fun p=>p.1:: p.2)++B))):=by simp only[List.flatMap_cons,List.append_assoc];exact List.perm_append_comm_assoc _ _ _
  have hn:=hp.nodup_iff.1 h;obtain⟨n1,n2,n3⟩:=List.nodup_append.1 hn;obtain⟨g1,g2,g3,g4⟩:=ih n2;have out:∀i∈q.1:: q.2,(∀p∈ifs,i∉p.1:: p.2)/\i∉A++B:=by
   intro i hi;refine⟨fun p hp hip=>n3 i hi i ?_ rfl,fun hab=>n3 i hi i ?_ rfl⟩
   ·simp only[List.mem_append,List.mem_flatMap];exact .inr (.inl ⟨p,hp,hip⟩)
   ·simp only[List.mem_append]at hab|-;exact hab.imp id .inr
  refine⟨g1,fun p hp=>?_,fun k k' p p' hk hk' hne i hi hi'=>?_,fun p hp i hi=>?_⟩
  ·rcases List.mem_cons.1 hp with rfl|hp
   ·exact n1
   ·exact g2 p hp
  ·cases k with
   |zero=>
    simp at hk;subst hk;cases k' with
    |zero=>exact hne rfl
    |succ k'=>exact(out i hi).1 p' (ygd (by simpa using hk')) hi'
   |succ k=>
    cases k' with
    |zero=>simp at hk';subst hk';exact(out i hi').1 p (ygd (by simpa using hk)) hi
    |succ k'=>exact g3 k k' p p' (by simpa using hk) (by simpa using hk') (fun e=>hne (by rw[e])) i hi hi'
  ·rcases List.mem_cons.1 hp with rfl|hp
   ·exact(out i hi).2
   ·exact g4 p hp i hi
section
variable {J:Nat->Nat}{T:TS}{st:St}
theorem TR.open{r row:Nat}{t:Ty}{xs:List (TV t)}{os:OS}{v:TV t}(h:TR J T st)(hr:T.mem[r]? =some (.arr t xs (.cl os)))(hv:xs[row]? =some v):
 ∃ρ' rows r0,st.mem[J r]? =some (.arr t.sz rows)/\rows[row]? =some r0/\(∀q,q<T.mem.length->ρ' q=J q)/\
  VRL ρ' (T.mem.set r (.arr t xs (.op os row (opn os 0 T.mem.length (leafs t v)).1))++(opn os 0 T.mem.length (leafs t v)).2) (opn os 0 T.mem.length (leafs t v)).1 r0/\
  TR ρ' ⟨T.env,T.mem.set r (.arr t xs (.op os row (opn os 0 T.mem.length (leafs t v)).1))++(opn os 0 T.mem.length (leafs t v)).2⟩ st:=by
 obtain⟨fp,how⟩:=h.ow;obtain⟨rows,hi,hrs⟩:=how.rel r t xs _ hr;obtain⟨pre,post,rpre,r0,rpost,fp1,fpv,fp2,e1,e2,e3,e4,e5,h1,h2,h3⟩:=hrs.split row v hv;obtain⟨ifs,g1,g2,g3,g4⟩:=zy1 h2 (zkQ t v) T.mem.length;have hcl:=zup os (leafs t v) 0 T.mem.length;have hcc:=zp5 os (leafs t v) 0 T.mem.length (ztX t v);rw[zic]at hcl;generalize opn os 0 T.mem.length (leafs t v)=om at *;obtain⟨cs,m⟩:=om;simp only at *;have hnd:=how.nd r;rw[e5,g2]at hnd;obtain⟨n1,n2,n3,n4⟩:=zp2 hnd;have hrl:=(yga.1 hr).1;have infp:∀p∈ifs,∀i∈p.1:: p.2,i∈fp r:=fun p hp i hi=>by rw[e5,g2];simp only[List.mem_append,List.mem_flatMap];exact .inr (.inl ⟨p,hp,hi⟩)
 have infp':∀i∈fp1++fp2,i∈fp r:=fun i hi=>by rw[e5];simp only[List.mem_append]at hi|-;exact hi.imp id .inr
 let ρ':Nat->Nat:=fun q=>if q<T.mem.length then J q else(ifs.getD (q-T.mem.length) (0,[])).1
 let fp':Nat->List Nat:=fun q=>if q=r then fp1++fp2 else if q<T.mem.length then fp q else(ifs.getD (q-T.mem.length) (0,[])).2
 have ρold:∀q,q<T.mem.length->ρ' q=J q:=fun q hq=>by simp[ρ',hq]
 have old:∀(q:Nat) x,(T.mem.set r (.arr t xs (.op os row cs))++m)[q]? =some x->
  (q=r/\x=.arr t xs (.op os row cs))\/(q≠r/\q<T.mem.length/\T.mem[q]? =some x)\/(T.mem.length<=q/\∃p,m[q-T.mem.length]? =some x/\ifs[q-T.mem.length]? =some p/\p∈ifs/\ρ' q=p.1/\fp' q=p.2):=by
  intro q x hq;by_cases hlt:q<T.mem.length
  ·rw[yge (by simpa using hlt)]at hq;by_cases e:q=r
   ·subst e;simp[hrl]at hq;exact .inl ⟨rfl,hq.symm⟩
   ·rw[ygg (fun h=>e h.symm)]at hq;exact .inr (.inl ⟨e,hlt,hq⟩)
  ·rw[ygf (by simp;omega)]at hq;simp only[List.length_set]at hq;have hlm:=(yga.1 hq).1;have hp:ifs[q-T.mem.length]? =some (ifs[q-T.mem.length]'(by omega)):=ygb _;have hne:q≠r:=by omega
   refine .inr (.inr ⟨by omega,_,hq,hp,ygd hp,?_,?_⟩)
   ·simp only[ρ',if_neg hlt];rw[List.getD_eq_getElem?_getD,hp];rfl
   ·simp only[fp',if_neg hne,if_neg hlt];rw[List.getD_eq_getElem?_getD,hp];rfl
 have hk:Kp J ρ' T.mem (T.mem.set r (.arr t xs (.op os row cs))++m):=by
  have key:∀(q:Nat) x,T.mem[q]? =some x->q<T.mem.length/\(q≠r->(T.mem.set r (.arr t xs (.op os row cs))++m)[q]? =some x):=fun q x hq=>by have hlt:=(yga.1 hq).1;refine⟨hlt,fun e=>?_⟩;rw[yge (by simpa using hlt),ygg (fun h=>e h.symm)];exact hq
  have hat:(T.mem.set r (.arr t xs (.op os row cs))++m)[r]? =some (.arr t xs (.op os row cs)):=by rw[yge (by simpa using hrl)];simp[hrl]
  refine⟨fun q t' ys w hq=>.inr ⟨ρold q (key q _ hq).1,?_⟩,fun q b ds hq=>.inr ⟨ρold q (key q _ hq).1,b,ds,(key q _ hq).2 (by rintro rfl;rw[hr]at hq;cases hq)⟩,fun q hq=>(key q _ hq).2 (by rintro rfl;rw[hr]at hq;cases hq)⟩;by_cases e:q=r
  ·subst e;rw[hr]at hq;cases hq;exact⟨xs,_,hat,rfl⟩
  ·exact⟨ys,w,(key q _ hq).2 e,rfl⟩
 have hcs:VRL ρ' (T.mem.set r (.arr t xs (.op os row cs))++m) cs r0:=by
  refine g4 ρ' _ fun k x p hk' hp=>⟨?_,?_⟩
  ·rw[ygf (by simp)];simpa using hk'
  ·simp only[ρ'];rw[if_neg (by omega),Nat.add_sub_cancel_left,List.getD_eq_getElem?_getD,hp];rfl
 have mem':∀q i,i∈fp' q->(q=r/\i∈fp1++fp2)\/(q≠r/\q<T.mem.length/\i∈fp q)\/(T.mem.length<=q/\∃p,ifs[q-T.mem.length]? =some p/\p∈ifs/\i∈p.2):=by
  intro q i hq;simp only[fp']at hq;split at hq
  ·rename_i e;exact .inl ⟨e,hq⟩
  ·rename_i e;split at hq
   ·rename_i hlt;exact .inr (.inl ⟨e,hlt,hq⟩)
   ·rename_i hlt;cases hp:ifs[q-T.mem.length]? with
    |none=>rw[List.getD_eq_getElem?_getD,hp]at hq;simp at hq
    |some p=>rw[List.getD_eq_getElem?_getD,hp]at hq;exact .inr (.inr ⟨by omega,p,rfl,ygd hp,hq⟩)
 refine⟨ρ',rows,r0,hi,?_,ρold,hcs,fun n=>(h.env n).mono hk,fun q b ds hq=>?_,fun q b ds hq=>?_,fun q q' x x' hq hx hq' hx' e=>?_,⟨fp',fun q t' ys w hq=>?_,fun q hq=>?_,fun q=>?_,fun q q' hne i hi' hi''=>?_,fun q q' x hq hx hi'=>?_⟩,h.pin.mono hk⟩
 ·rw[e2,<-e4];simp
 ·rcases old q _ hq with⟨_,h0⟩|⟨_,hlt,h0⟩|⟨_,p,h0,hp,_,_,_⟩
  ·cases h0
  ·obtain⟨as,q1,q2⟩:=h.box q b ds h0;exact⟨as,by rw[ρold q hlt];exact q1,q2.mono hk⟩
  ·obtain⟨t',ys,w,e0,_⟩:=g3 _ _ p h0 hp;cases e0
 ·rcases old q _ hq with⟨_,h0⟩|⟨_,hlt,h0⟩|⟨_,p,h0,hp,_,_,_⟩
  ·cases h0
  ·exact h.boxC q b ds h0
  ·obtain⟨t',ys,w,e0,_⟩:=g3 _ _ p h0 hp;cases e0
 ·
  have cl:∀(q:Nat) x,(T.mem.set r (.arr t xs (.op os row cs))++m)[q]? =some x->x.alive=true->(q<T.mem.length/\ρ' q=J q/\∃y,T.mem[q]? =some y/\y.alive=true)\/(T.mem.length<=q/\∃p,ifs[q-T.mem.length]? =some p/\p∈ifs/\ρ' q=p.1):=by
   intro q x hq hx;rcases old q _ hq with⟨rfl,h0⟩|⟨_,hlt,h0⟩|⟨hge,p,h0,hp,hm,hρ,_⟩
   ·exact .inl ⟨hrl,ρold _ hrl,_,hr,rfl⟩
   ·exact .inl ⟨hlt,ρold _ hlt,x,h0,hx⟩
   ·exact .inr ⟨hge,p,hp,hm,hρ⟩
  rcases cl q x hq hx with⟨l1,l2,y,l3,l4⟩|⟨l1,p,l2,l3,l4⟩<;>rcases cl q' x' hq' hx' with⟨l1',l2',y',l3',l4'⟩|⟨l1',p',l2',l3',l4'⟩
  ·rw[l2,l2']at e;exact h.inj q q' y y' l3 l4 l3' l4' e
  ·rw[l2,l4']at e;exact absurd (infp p' l3' p'.1 (by simp)) (by rw[<-e];exact how.rt q r y l3 l4)
  ·rw[l4,l2']at e;exact absurd (infp p l3 p.1 (by simp)) (by rw[e];exact how.rt q' r y' l3' l4')
  ·by_cases e':q-T.mem.length=q'-T.mem.length
   ·omega
   ·exact absurd (show p.1∈p'.1:: p'.2 by rw[l4,l4']at e;simp[e]) (n3 _ _ p p' l2 l2' e' p.1 (by simp))
 ·rcases old q _ hq with⟨rfl,h0⟩|⟨hne,hlt,h0⟩|⟨_,p,h0,hp,_,hρ,hf⟩
  ·cases h0;rw[ρold _ hrl];refine⟨pre,v,post,rpre,r0,rpost,fp1,fp2,e1,e3,by rw[hi,e2],e4,h1,h3,by simp[fp'],hcs,hcl,hcc⟩
  ·have:fp' q=fp q:=by simp[fp',hne,hlt]
   rw[this,ρold q hlt];exact(how.rel q t' ys w h0).mono (fun cs as hh=>hh.mono hk) rfl fun _ _=>rfl
  ·obtain⟨t2,ys2,w2,e0,_,hA⟩:=g3 _ _ p h0 hp;cases e0;rw[hρ,hf];exact hA _ _
 ·by_cases e:q=r
  ·subst e;exact absurd (by rw[yge (by simpa using hrl)];simp[hrl]) (hq t xs (.op os row cs))
  ·by_cases hlt:q<T.mem.length
   ·simp only[fp',if_neg e,if_pos hlt];exact how.nil q fun t' ys w h'=>hq t' ys w (by rw[yge (by simpa using hlt),ygg (fun h=>e h.symm)];exact h')
   ·simp only[fp',if_neg e,if_neg hlt];cases hp:ifs[q-T.mem.length]? with
    |none=>rw[List.getD_eq_getElem?_getD,hp];rfl
    |some p=>
     have hlm:q-T.mem.length<m.length:=by rw[<-g1];exact(yga.1 hp).1
     obtain⟨t2,ys2,w2,e0,_⟩:=g3 _ _ p (ygb hlm) hp;exact absurd (by rw[ygf (by simp;omega)];simp only[List.length_set];rw[ygb hlm,e0]) (hq t2 ys2 w2)
 ·simp only[fp'];split
  ·exact n1
  ·split
   ·exact how.nd q
   ·cases hp:ifs[q-T.mem.length]? with
    |none=>rw[List.getD_eq_getElem?_getD,hp];exact List.nodup_nil
    |some p=>rw[List.getD_eq_getElem?_getD,hp];exact(List.nodup_cons.1 (n2 p (ygd hp))).2
 ·rcases mem' q i hi' with⟨rfl,a1⟩|⟨b1,b2,b3⟩|⟨c1,p,c2,c3,c4⟩<;>rcases mem' q' i hi'' with⟨rfl,a1'⟩|⟨b1',b2',b3'⟩|⟨c1',p',c2',c3',c4'⟩
  ·exact hne rfl
  ·exact how.dj _ q' hne i (infp' i a1) b3'
  ·exact n4 p' c3' i (by simp[c4']) a1
  ·exact how.dj q _ hne i b3 (infp' i a1')
  ·exact how.dj q q' hne i b3 b3'
  ·exact how.dj q r b1 i b3 (infp p' c3' i (by simp[c4']))
  ·exact n4 p c3 i (by simp[c4]) a1'
  ·exact how.dj q' r b1' i b3' (infp p c3 i (by simp[c4]))
  ·exact n3 _ _ p p' c2 c2' (by omega) i (by simp[c4]) (by simp[c4'])
 ·rcases old q x hq with⟨rfl,h0⟩|⟨_,hlt,h0⟩|⟨hge,p,h0,hp,hm,hρ,_⟩
  ·rw[ρold _ hrl]at hi';rcases mem' q' _ hi' with⟨rfl,a1'⟩|⟨b1',b2',b3'⟩|⟨c1',p',c2',c3',c4'⟩
   ·exact how.rt _ _ _ hr rfl (infp' _ a1')
   ·exact how.rt _ _ _ hr rfl b3'
   ·exact how.rt _ _ _ hr rfl (infp p' c3' _ (by simp[c4']))
  ·rw[ρold _ hlt]at hi';rcases mem' q' _ hi' with⟨rfl,a1'⟩|⟨b1',b2',b3'⟩|⟨c1',p',c2',c3',c4'⟩
   ·exact how.rt _ _ _ h0 hx (infp' _ a1')
   ·exact how.rt _ _ _ h0 hx b3'
   ·exact how.rt _ _ _ h0 hx (infp p' c3' _ (by simp[c4']))
  ·rw[hρ]at hi';rcases mem' q' _ hi' with⟨rfl,a1'⟩|⟨b1',b2',b3'⟩|⟨c1',p',c2',c3',c4'⟩
   ·exact n4 p hm p.1 (by simp) a1'
   ·exact how.dj q' r b1' _ b3' (infp p hm p.1 (by simp))
   ·by_cases e':q-T.mem.length=q'-T.mem.length
    ·rw[e',c2']at hp;cases hp;exact(List.nodup_cons.1 (n2 _ hm)).1 c4'
    ·exact n3 _ _ p p' hp c2' e' p.1 (by simp) (by simp[c4'])
end
end Go.Fw
namespace Go.Fw
open Go
variable [Pin]
section
variable {J:Nat->Nat}{T:TS}{st:St}{ρt:Type}{res:ρt}{an:An}{dr:Bool}{κ:V->List Root->Option ρt}
theorem TR.put{v:V}{a:AV}(h:TR J T st)(d:Option Nat)(hv:VR J T.mem v a):TR J ⟨zfa T.env d v,T.mem⟩ ⟨put st.env d a,st.mem⟩:=
 ⟨fun n=>by
  simp only[zbj,zdf];split
  ·exact hv
  ·exact h.env n,h.box,h.boxC,h.inj,h.ow,h.pin⟩
theorem TR.opened{r j:Nat}{t:Ty}{xs:List (TV t)}{os:OS}{cs:List V}(h:TR J T st)(hr:T.mem[r]? =some (.arr t xs (.op os j cs))):
 ∃rows r0,st.mem[J r]? =some (.arr t.sz rows)/\rows[j]? =some r0/\VRL J T.mem cs r0/\cs.length=t.sz/\cs.all V.isC=true:=by
 obtain⟨fp,how⟩:=h.ow;obtain⟨pre,x,post,rpre,row,rpost,fp1,fp2,e1,e2,h0,e3,h1,h2,e4,h3,h4,h5⟩:=how.rel r t xs _ hr;exact⟨_,row,h0,by rw[<-e3];simp,h3,h4,h5⟩
theorem TR.setOp{r j:Nat}{t:Ty}{xs:List (TV t)}{os:OS}{cs cs':List V}{row':List AV}{rows:List (List AV)}(h:TR J T st)(hr:T.mem[r]? =some (.arr t xs (.op os j cs)))(hi:st.mem[J r]? =some (.arr t.sz rows))
 (hv:VRL J T.mem cs' row')(hl:cs'.length=t.sz)(hc:cs'.all V.isC=true):
 TR J ⟨T.env,T.mem.set r (.arr t xs (.op os j cs'))⟩ ⟨st.env,st.mem.set (J r) (.arr t.sz (rows.set j row'))⟩:=by
 have hrl:=(yga.1 hr).1;have hk:Kp J J T.mem (T.mem.set r (.arr t xs (.op os j cs'))):=by
  refine⟨fun q t' ys w0 hq=>.inr ⟨rfl,?_⟩,fun q b' ds hq=>.inr ⟨rfl,b',ds,?_⟩,fun q hq=>?_⟩
  ·by_cases e:q=r
   ·subst e;rw[hr]at hq;cases hq;exact⟨xs,.op os j cs',by simp[hrl],rfl⟩
   ·rw[ygg (fun h=>e h.symm)];exact⟨ys,w0,hq,rfl⟩
  ·rw[ygg (by rintro rfl;rw[hr]at hq;cases hq)];exact hq
  ·rw[ygg (by rintro rfl;rw[hr]at hq;cases hq)];exact hq
 refine h.setArrW hr rfl fun fp hf hA=>?_;obtain⟨pre,x,post,rpre,row,rpost,fp1,fp2,e1,e2,h0,e3,h1,h2,e4,h3,h4,h5⟩:=hA;rw[hi]at h0;have h0:=(Ent.arr.inj (Option.some.inj h0)).2;have hρl:=(yga.1 hi).1;refine⟨pre,x,post,rpre,row',rpost,fp1,fp2,e1,e2,?_,e3,h1.frame fun i hi=>?_,h2.frame fun i hi=>?_,e4,hv.mono hk,hl,hc⟩
 ·rw[List.getElem?_set_self (by simpa using hρl),h0,<-e3,List.set_append_right _ _ (Nat.le_refl _),Nat.sub_self];rfl
 ·rw[ygg (fun e=>hf i (by rw[e4];simp[hi]) e.symm)]
 ·rw[ygg (fun e=>hf i (by rw[e4];simp[hi]) e.symm)]
theorem zzb{n:Option Nat}{x:Ar}{d:Option Nat}{r row off:Nat}{t:Ty}{xs:List (TV t)}{w:Ow}(h:TR J T st)(hx:arV T.env x=.mp r row off)(hr:T.mem[r]? =some (.arr t xs w))(hw:w≠.no)(he:evT dr an (.load n x) T.env T.mem κ =some res):
 ∃v m,κ v m=some res/\zec J dr (.load n x) d T st v m:=by
 have h1:=h.ar x;rw[hx]at h1;simp only[VR,mpR,hr]at h1;cases w with
 |no=>exact absurd rfl hw
 |cl os=>
  cases n with
  |none=>
   simp only[evT,hx,hr]at he;obtain⟨v,hv,he⟩:=zas he;obtain⟨ρ',rows,r0,q1,q2,q3,q4,q5⟩:=h.open hr hv;split at he
   ·rename_i c hc;obtain⟨a,g1,g2⟩:=q4.get off c hc;have hev:evK (.load none x) st.env st.mem=some (True,a,st.mem):=by simp only[evK,h1,q1,q2,g1]
    split at he
    ·rename_i hp;exact⟨c,_,he,ze8.toM h ⟨_,_,hev,trivial,VR.any hp g2⟩⟩
    ·exact⟨c,_,he,zec.mk hev trivial (q5.put d g2) q3⟩
   ·cases he
  |some n=>
   simp only[evT,hx,hr]at he;obtain⟨v,hv,he⟩:=zas he;obtain⟨ρ',rows,r0,q1,q2,q3,q4,q5⟩:=h.open hr hv;split at he
   ·rename_i hl;have hev:evK (.load (some n) x) st.env st.mem=some (off+n<=r0.length,.agg ((r0.drop off).take n),st.mem):=by simp only[evK,h1,q1,q2]
    have hp:off+n<=r0.length:=by rw[q4.len];exact zbO hl
    split at he
    ·rename_i hpp;exact⟨_,_,he,ze8.toM h ⟨_,_,hev,hp,zdF (VRL.any hpp ((q4.drop off).take n))⟩⟩
    ·exact⟨_,_,he,zec.mk hev hp (q5.put d (zdF ((q4.drop off).take n))) q3⟩
   ·cases he
 |op os j cs=>
  obtain⟨rows,r0,q1,q2,q4,q5,q6⟩:=h.opened hr;cases n with
  |none=>
   simp only[evT,hx,hr]at he;split at he
   ·rename_i c hc;obtain⟨g0,he'⟩:=zaG he;have g0:row=j:=by simpa using g0
    subst g0;obtain⟨a,g1,g2⟩:=q4.get off c hc;exact⟨c,_,he',ze8.toM h ⟨_,_,by simp only[evK,h1,q1,q2,g1],trivial,g2⟩⟩
   ·cases he
  |some n=>
   simp only[evT,hx,hr]at he;split at he
   ·rename_i hl;obtain⟨g0,he'⟩:=zaG he;have g0:row=j:=by simpa using g0
    subst g0;exact⟨_,_,he',ze8.toM h ⟨_,_,by simp only[evK,h1,q1,q2];rfl,by rw[q4.len];exact zbO hl,zdF ((q4.drop off).take n)⟩⟩
   ·cases he
theorem zwC{n:Nat}{a x:Ar}{d:Option Nat}{r row off:Nat}{t:Ty}{xs:List (TV t)}{w:Ow}(h:TR J T st)(hx:arV T.env a=.mp r row off)(hr:T.mem[r]? =some (.arr t xs w))(hw:w≠.no)(he:evT dr an (.store n a x) T.env T.mem κ =some res):
 ∃v m,κ v m=some res/\zec J dr (.store n a x) d T st v m:=by
 have h1:=h.ar a;rw[hx]at h1;simp only[VR,mpR,hr]at h1;have hrl:=(yga.1 hr).1;have main:∀{ρ':Nat->Nat}{m:List Root}{os:OS}{cs:List V},TR ρ' ⟨T.env,m⟩ st->m[r]? =some (.arr t xs (.op os row cs))->(∀q,q<T.mem.length->ρ' q=J q)->Nat.beq (arV T.env x).cel.length n=true->(arV T.env x).cel.all V.isC=true->(Nat.ble (off+n) cs.length&&stV (arV T.env x).cel off (cs.headD .junk))=true->
  zec J dr (.store n a x) d T st .junk (m.set r (.arr t xs (.op os row (cs.take off++(arV T.env x).cel++cs.drop (off+n))))):=by
  intro ρ' m os cs h' hm hag e1 e2 e4;have hρ:=hag r hrl;have e1:=zbN e1;rw[yhb]at e4;obtain⟨e4,e5⟩:=e4;have e4:=zbO e4;obtain⟨rows,r0,q1,q2,q4,q5,q6⟩:=h'.opened hm;have hv:=(h'.ar x).cel e2;have hcc:(cs.take off++(arV T.env x).cel++cs.drop (off+n)).all V.isC=true:=by
   simp only[List.all_append,yhb];refine⟨⟨?_,e2⟩,?_⟩
   ·rw[List.all_eq_true]at q6|-;exact fun c hc=>q6 c (List.mem_of_mem_take hc)
   ·rw[List.all_eq_true]at q6|-;exact fun c hc=>q6 c (List.mem_of_mem_drop hc)
  have q:=h'.setOp (cs':=cs.take off++(arV T.env x).cel++cs.drop (off+n)) hm q1 (((q4.take off).append hv).append (q4.drop (off+n))) (by simp only[yhr,List.length_take,List.length_drop];omega) hcc;rw[hρ]at q1 q;have hl:(ar st.env x).cells.length=(arV T.env x).cel.length:=hv.len;exact zec.mk (by simp only[evK,h1,q1,q2];rfl) (by exact⟨by omega,hv.cells e2,by rw[q4.len];exact e4,zuV e5 hv q4⟩) (q.put d (by simp only[VR])) hag
 cases w with
 |no=>exact absurd rfl hw
 |cl os=>
  simp only[evT,hx,hr]at he;split at he
  ·rename_i e1 e2;obtain⟨v,hv,he⟩:=zas he;obtain⟨ρ',rows,r0,q1,q2,q3,q4,q5⟩:=h.open hr hv;split at he
   ·rename_i e4;have:=main (os:=os) (cs:=(opn os 0 T.mem.length (leafs t v)).1) q5 (by rw[yge (by simpa using hrl)];simp[hrl]) q3 e1 e2 e4;refine⟨_,_,he,?_⟩;rw[List.set_append_left _ _ (by simpa using hrl),List.set_set]at this;exact this
   ·cases he
  ·cases he
 |op os j cs=>
  simp only[evT,hx,hr]at he;split at he
  ·rename_i e1 e2;split at he
   ·rename_i e4;obtain⟨g0,he'⟩:=zaG he;have g0:row=j:=by simpa using g0
    subst g0;exact⟨_,_,he',main h hr (fun _ _=>rfl) e1 e2 e4⟩
   ·cases he
  ·cases he
theorem zB2{es:Nat}{x y:Ar}{d:Option Nat}(h:TR J T st)(he:evT dr an (.apf es x y) T.env T.mem κ =some res):∃v m,κ v m=some res/\zec J dr (.apf es x y) d T st v m:=by
 have h1:=h.ar x;have fin:∀{T0:TS}{st0:St}{t:Ty}{xs:List (TV t)}{v:V}{m:List Root}{p:Prop}{mem0:List Ent}{n0:Nat},TR J T0 st0->T0.env=T.env->st0.env=st.env->T0.mem.length=T.mem.length->t.sz=es->evK (.apf es x y) st.env st.mem=some (p,.sl es (xs.map (zap t)),st0.mem++[.dead])->p->
  zec J dr (.apf es x y) d T st (.lst t xs) (T0.mem++[.dead]):=by
  intro T0 st0 t xs v m p mem0 n0 h0 e1 e2 e3 hz hev hp;have g1:=h0.newArr none t xs (a:=.ms st0.mem.length t.sz 0 xs.length) rfl;have g2:=g1.kill (r:=T0.mem.length) (x:=.arr t xs .no) (by simp) rfl;have er:ext J T0.mem.length st0.mem.length T0.mem.length=st0.mem.length:=by simp[ext]
  rw[er]at g2;have m1:(T0.mem++[Root.arr t xs .no]).set T0.mem.length .dead=T0.mem++[.dead]:=by rw[List.set_append_right _ _ (Nat.le_refl _),Nat.sub_self];rfl
  have m2:(st0.mem++[Ent.arr t.sz (xs.map (zap t))]).set st0.mem.length .dead=st0.mem++[.dead]:=by rw[List.set_append_right _ _ (Nat.le_refl _),Nat.sub_self];rfl
  simp only[zfa,put_none,m1,m2]at g2;have g3:=g2.put d (v:=.lst t xs) (a:=.sl t.sz (xs.map (zap t))) (by simp only[VR]);rw[hz]at g3;refine zec.mk (ρ':=ext J T0.mem.length st0.mem.length) hev hp ?_ (fun q hq=>zej q (by rw[e3];exact hq));rw[e1,e2]at g3;exact g3
 have pur:∀{t:Ty}(xs:List (TV t)),((xs.map (zap t)).all fun r=>r.all AV.pure)=true:=fun xs=>by rw[List.all_eq_true];intro r hr;obtain⟨z,_,rfl⟩:=List.mem_map.1 hr;rw[List.all_eq_true];exact fun c hc=>(AV.pureL_iff _).1 (zfG _ z) c hc
 simp only[evT]at he;split at he
 ·rename_i t;split at he
  ·cases he
  rename_i ht8;split at he
  ·rename_i hz;simp only[ygc]at he;obtain⟨ys,hy,he⟩:=he;have hrow:=zqc h hy;rw[hz]at hrow;split at he
   ·rename_i e;rw[e]at h1;simp only[VR]at h1;obtain⟨g0,he⟩:=zaG he;have g0:ys.length<=LIM:=by simpa using g0
    have m2:(st.mem++[Ent.arr es (ys.map (zap t))]).set st.mem.length .dead=st.mem++[.dead]:=by rw[List.set_append_right _ _ (Nat.le_refl _),Nat.sub_self];rfl
    refine⟨_,_,he,fin (xs:=ys) (v:=.junk) (m:=[]) (mem0:=[]) (n0:=0) (p:=((ys.map (zap t)).length<=LIM/\hd1 (apP true) ((ys.map (zap t)).headD [])=true)/\(ys.map (zap t)).length=(ys.map (zap t)).length/\((ys.map (zap t)).all fun r=>r.all AV.pure)=true) h rfl rfl rfl hz ?_ ⟨⟨by simpa using g0,zk0 ht8 ys⟩,rfl,pur ys⟩⟩;simp only[evK,hrow,zpy,h1,zdJ,List.getElem?_concat_length,m2]
   ·rename_i r e;rw[e]at h1;split at he
    ·rename_i t' xs e2;simp only[VR,zep,e2]at h1;split at he
     ·rename_i ht;subst ht;obtain⟨g0,he⟩:=zaG he;have g0:xs.length+ys.length<=LIM:=by simpa using g0
      have hr:=h.arr r _ _ e2;have hk:=h.kill e2 rfl;rw[hz]at hr h1;have m2:(st.mem.set (J r) .dead++[Ent.arr es ((xs++ys).map (zap t'))]).set st.mem.length .dead=st.mem.set (J r) .dead++[.dead]:=by rw[List.set_append_right _ _ (by simp)];simp
      have m3:(st.mem.set (J r) .dead++[Ent.arr es ((xs++ys).map (zap t'))])[st.mem.length]? =some (.arr es ((xs++ys).map (zap t'))):=by rw[ygf (by simp)];simp
      have hl:((xs++ys).map (zap t')).length=xs.length+ys.length:=by simp
      refine⟨_,_,he,fin (xs:=xs++ys) (v:=.junk) (m:=[]) (mem0:=[]) (n0:=0) (p:=(es=es/\es=es/\0=0/\xs.length<=(xs.map (zap t')).length/\xs.length+(ys.map (zap t')).length<=LIM/\hd1 (apP true) (((xs++ys).map (zap t')).headD [])=true/\(true ||Nat.blt 0 xs.length)=true)/\xs.length+(ys.map (zap t')).length=((xs++ys).map (zap t')).length/\(((xs++ys).map (zap t')).all fun r=>r.all AV.pure)=true) hk rfl rfl (by simp) hz ?_ ⟨⟨rfl,rfl,rfl,by simp,by simpa using g0,zk0 ht8 _,rfl⟩,by simp,pur _⟩⟩;have tk:(xs.map (zap t')).take xs.length++ys.map (zap t')=(xs++ys).map (zap t'):=by rw[List.take_of_length_le (by simp),<-List.map_append]
      simp only[evK,hrow,zpy,h1,zdJ,hr,tk,m3,m2]
     ·cases he
    ·cases he
   ·cases he
  ·cases he
 ·cases he
end
end Go.Fw
namespace Go.Fw
open Go
variable [Pin]
def cvt(os:OS):Nat->Nat->List Ty->List V->List AV->List AV×List Ent
|off,nxt,ty:: tys,c:: cs,a:: as=>match os.sub off,ty,c with
 |some _,.lst t,.e0=>match cvt os (off+1) (nxt+1) tys cs as with
  | (as',m)=>(.ms nxt t.sz 0 0:: as',.arr t.sz []:: m)
 |none,.lst t,.e0=>match cvt os (off+1) nxt tys cs as with
  | (as',m)=>(.sl t.sz []:: as',m)
 |_,_,_=>match cvt os (off+1) nxt tys cs as with
  | (as',m)=>(a:: as',m)
|_,_,_,_,as=>(as,[])
theorem Gh.e0q{st:St}{i n q j es:Nat}{rows:List (List AV)}{row:List AV}(hi:st.mem[i]? =some (.arr n rows))(hq:rows[q]? =some row)(hj:row[j]? =some .e0):
 Gh st ⟨st.env,st.mem.set i (.arr n (rows.set q (row.set j (.sl es []))))⟩:=by
 refine⟨by simp,fun C its h=>AW.ghost (st':=⟨st.env,st.mem.set i (.arr n (rows.set q (row.set j (.sl es []))))⟩) (by simp) (fun H F Z w hs=>⟨H,Z,.refl _ _,.refl _,?_,fun n x hx=>hx⟩) h⟩;refine hs.rerow hi hq (by simp) (fun hc c hc'=>?_) (fun k c c' v hk hk' hr=>?_)
 ·rcases List.mem_or_eq_of_mem_set hc' with h|rfl
  ·exact hc c h
  ·rfl
 ·rw[List.getElem?_set]at hk';split at hk'
  ·rename_i e;subst e;split at hk'
   ·cases hk';rw[hj]at hk;cases hk;exact Imp.e0 _ _ _ hr
   ·cases hk'
  ·rw[hk]at hk';cases hk';exact hr
theorem Gh.cvt{J:Nat->Nat}{mem:List Root}(os:OS):∀(tys:List Ty)(cs:List V)(as:List AV)(off:Nat){st:St}{i n q:Nat}{rows:List (List AV)}(pre:List AV),VRL J mem cs as->st.mem[i]? =some (.arr n rows)->rows[q]? =some (pre++as)->
 Gh st ⟨st.env,st.mem.set i (.arr n (rows.set q (pre++(Go.Fw.cvt os off st.mem.length tys cs as).1)))++(Go.Fw.cvt os off st.mem.length tys cs as).2⟩:=by
 have same:∀{st:St}{i n q:Nat}{rows:List (List AV)}{row:List AV},st.mem[i]? =some (.arr n rows)->rows[q]? =some row->st.mem.set i (.arr n (rows.set q row))++[]=st.mem:=by
  intro st i n q rows row hi hq;have h1:rows.set q row=rows:=by
   refine List.ext_getElem? fun k=>?_;rw[List.getElem?_set];split
   ·rename_i e;subst e;split
    ·exact hq.symm
    ·rename_i h;exact absurd (yga.1 hq).1 h
   ·rfl
  rw[h1,List.append_nil];refine List.ext_getElem? fun k=>?_;rw[List.getElem?_set];split
  ·rename_i e;subst e;split
   ·exact hi.symm
   ·rename_i h;exact absurd (yga.1 hi).1 h
  ·rfl
 intro tys;induction tys with
 |nil=>intro cs as off st i n q rows pre hv hi hq;simp only[Go.Fw.cvt];rw[same hi hq];exact .refl _
 |cons ty tys ih=>
  intro cs as off st i n q rows pre hv hi hq;cases cs with
  |nil=>simp only[Go.Fw.cvt];rw[same hi hq];exact .refl _
  |cons c cs=>
   simp only[VRL]at hv;obtain⟨a,as',rfl,h1,h2⟩:=hv;simp only[Go.Fw.cvt];split
   ·rename_i t _;simp only[VR]at h1;subst h1;have g:=Gh.owncq (es:=t.sz) (j:=pre.length) hi hq (by simp);have hs:(pre ++ .e0:: as').set pre.length (.ms st.mem.length t.sz 0 0)=(pre++[.ms st.mem.length t.sz 0 0])++as':=by rw[List.set_append_right _ _ (Nat.le_refl _),Nat.sub_self];simp
    rw[hs]at g;have hil:=(yga.1 hi).1;have hql:=(yga.1 hq).1;refine g.trans ?_;have:=ih cs as' (off+1) (st:=⟨st.env,st.mem.set i (.arr n (rows.set q ((pre++[.ms st.mem.length t.sz 0 0])++as')))++[.arr t.sz []]⟩) (i:=i) (n:=n) (q:=q)
     (rows:=rows.set q ((pre++[.ms st.mem.length t.sz 0 0])++as')) (pre++[.ms st.mem.length t.sz 0 0]) h2 (by show(st.mem.set i _++[_])[i]? =_;rw[yge (by rw[List.length_set];exact hil),List.getElem?_set_self hil]) (by rw[List.getElem?_set_self hql])
    have hl:(st.mem.set i (.arr n (rows.set q ((pre++[.ms st.mem.length t.sz 0 0])++as')))++[Ent.arr t.sz []]).length=st.mem.length+1:=by simp
    simp only[hl]at this;rw[List.set_append_left _ _ (by rw[List.length_set];exact hil),List.set_set,List.set_set]at this;simp only[List.append_assoc,List.singleton_append]at this|-;exact this
   ·rename_i t _;simp only[VR]at h1;subst h1;have g:=Gh.e0q (es:=t.sz) (j:=pre.length) hi hq (by simp);have hs:(pre ++ .e0:: as').set pre.length (.sl t.sz [])=(pre++[.sl t.sz []])++as':=by rw[List.set_append_right _ _ (Nat.le_refl _),Nat.sub_self];simp
    rw[hs]at g;have hil:=(yga.1 hi).1;have hql:=(yga.1 hq).1;refine g.trans ?_;have:=ih cs as' (off+1) (st:=⟨st.env,st.mem.set i (.arr n (rows.set q ((pre++[.sl t.sz []])++as')))⟩) (i:=i) (n:=n) (q:=q)
     (rows:=rows.set q ((pre++[.sl t.sz []])++as')) (pre++[.sl t.sz []]) h2 (by show(st.mem.set i _)[i]? =_;rw[List.getElem?_set_self hil]) (by rw[List.getElem?_set_self hql])
    have hl:(st.mem.set i (.arr n (rows.set q ((pre++[.sl t.sz []])++as')))).length=st.mem.length:=by simp
    simp only[hl]at this;rw[List.set_set,List.set_set]at this;simp only[List.append_assoc,List.singleton_append]at this|-;exact this
   ·have:=ih cs as' (off+1) (pre++[a]) h2 hi (by simpa using hq);simpa using this
inductive Prt (J:Nat->Nat)(fp:Nat->List Nat):List Nat->List Nat->List (Nat×List Nat)->Prop
|nil:Prt J fp [] [] []
|root {bs ns ps}(b:Nat)(h:Prt J fp bs ns ps):Prt J fp (b:: bs) ns ((J b,fp b):: ps)
|new {bs ns ps}(n:Nat)(h:Prt J fp bs ns ps):Prt J fp bs (n:: ns) ((n,[]):: ps)
mutual
theorem OS.eqB_eq:∀{a b:OS},OS.eqB a b=true->a=b
|.no,.no,_=>rfl
|.all,.all,_=>rfl
|.at a,.at b,h=>by rw[OS.eqL_eq (a:=a) (b:=b) (by simpa[OS.eqB]using h)]
|.no,.all,h|.no,.at _,h|.all,.no,h|.all,.at _,h|.at _,.no,h|.at _,.all,h=>by simp[OS.eqB]at h
theorem OS.eqL_eq:∀{a b:List (Nat×OS)},OS.eqL a b=true->a=b
|[],[],_=>rfl
| (m,o):: a,(n,p):: b,h=>by simp only[OS.eqL,yhb]at h;rw[Nat.eq_of_beq_eq_true h.1.1,OS.eqB_eq (a:=o) (b:=p) h.1.2,OS.eqL_eq (a:=a) (b:=b) h.2]
|[],_:: _,h|_:: _,[],h=>by simp[OS.eqL]at h
end
theorem Ow.eqB_eq{w w':Ow}(h:Ow.eqB w w'=true):w=w':=by
 cases w<;>cases w'<;>simp[Ow.eqB]at h
 ·rfl
 ·rw[OS.eqB_eq h]
theorem OwCs.mkno{sm:List Ent}{J:Nat->Nat}{mem:List Root}:∀{vs:List V}{as:List AV}(off:Nat),V.purL vs=true->VRL J mem vs as->OwCs sm .no off vs as []
|[],as,off,_,h=>by simp only[VRL]at h;subst h;exact .nil
|v:: vs,as,off,hp,h=>by simp only[VRL]at h;obtain⟨a,as',rfl,h1,h2⟩:=h;simp only[V.purL,yhb]at hp;exact OwCs.cons (fp:=[]) (fp':=[]) (.leaf hp.1 (VR.any hp.1 h1)) (OwCs.mkno (off+1) hp.2 h2)
theorem OwRs.mkno{sm:List Ent}{t:Ty}:∀(xs:List (TV t)),OwRs sm .no t xs (xs.map (zap t)) []
|[]=>.nil
|x:: xs=>OwRs.cons (fp:=[]) (fp':=[]) (OwCs.mkno 0 (zkQ t x) (zbt (J:=id) (mem:=[]) t x)) (OwRs.mkno xs)
theorem ArrR.mk{J:Nat->Nat}{mem:List Root}{sm:List Ent}{o:OS}{t:Ty}{xs:List (TV t)}{i:Nat}{fp:List Nat}(h:ArrR J mem sm t xs (zpc o) i fp):∃rows,sm[i]? =some (.arr t.sz rows)/\OwRs sm o t xs rows fp:=by
 cases o with
 |no=>obtain⟨h1,rfl⟩:=h;exact⟨_,h1,OwRs.mkno xs⟩
 |all=>exact h
 | «at» ps=>exact h
def e0A(o:Option OS)(ty:Ty)(c:V)(a:AV):AV:=
 match o,ty,c with
 |none,.lst t,.e0=>.sl t.sz []
 |_,_,_=>a
theorem zyB{J:Nat->Nat}{mem:List Root}{sm:List Ent}{o:Option OS}{ty:Ty}{c c':V}{a:AV}(hv:VR J mem c a)(h:zv9 ty c=some c')(ho:o=none\/∀t,ty≠.lst t):
 c'.isLf=true/\OwC sm o c' (e0A o ty c a) []:=by
 have gen:c.isLf=true->c.isLst=false->c'=c->c'.isLf=true/\OwC sm o c' a []:=by
  intro h1 h2 h3;subst h3;have hp:c'.pur=true:=by cases c'<;>simp[V.isLf]at h1<;>rfl
  refine⟨h1,?_⟩;cases o with
  |none=>exact .leaf hp (VR.any hp hv)
  |some o=>exact .other h2 hp (VR.any hp hv)
 cases ty with
 |lst t=>
  have ho:o=none:=by
   rcases ho with h|h
   ·exact h
   ·exact absurd rfl (h t)
  subst ho;cases c<;>simp only[zv9]at h<;>try(cases h;done)
  ·cases h;exact⟨rfl,.leaf rfl (VR.any rfl hv)⟩
  ·split at h
   ·rename_i e;cases h;simp only[VR]at hv;subst hv;exact⟨rfl,.leaf rfl (by simp[VR,e,e0A])⟩
   ·cases h
  ·cases h;exact⟨rfl,.leaf rfl (by simp[VR,e0A])⟩
 |int k|bool|str|nm n=>
  cases c<;>simp only[zv9]at h<;>try(cases h;done)
  all_goals first
   | (simp only[V.isLf]at h;cases h;cases o<;>exact gen rfl rfl rfl)
   | (simp only[V.isLf]at h;cases h;done)
section
variable {J:Nat->Nat}{mem0:List Root}{sm sm':List Ent}{fp:Nat->List Nat}
theorem zvH{os:OS}{off:Nat}{mem:List Root}{ty:Ty}{tys:List Ty}{c:V}{cs:List V}(ho:os.sub off=none\/∀t,ty≠.lst t):
 cls os off mem (ty:: tys) (c:: cs)=match zv9 ty c with
 |some c'=>(cls os (off+1) mem tys cs).bind fun(cs',m)=>some (c':: cs',m)
 |none=>none:=by
 simp only[cls];split
 ·rename_i o t e;rcases ho with h|h
  ·rw[e]at h;cases h
  ·exact absurd rfl (h t)
 ·rfl
theorem zvJ{os:OS}{off nxt:Nat}{ty:Ty}{tys:List Ty}{c:V}{cs:List V}{a:AV}{as:List AV}(ho:os.sub off=none\/∀t,ty≠.lst t):
 cvt os off nxt (ty:: tys) (c:: cs) (a:: as)=(e0A (os.sub off) ty c a:: (cvt os (off+1) nxt tys cs as).1,(cvt os (off+1) nxt tys cs as).2):=by
 simp only[cvt];split
 ·rename_i o t e;rcases ho with h|h
  ·rw[e]at h;cases h
  ·exact absurd rfl (h t)
 ·rename_i e;simp only[e,e0A]
 ·rename_i e1 e2;unfold e0A;split
  ·rename_i e3;exact(e2 _ e3 rfl rfl).elim
  ·rfl
def zCr(J:Nat->Nat)(fp:Nat->List Nat)(sm':List Ent)(os:OS)(off nxt:Nat)(mem:List Root)(cs':List V)(m:List Root)(as':List AV)(n:Nat):Prop:=
 ∃bs ns ps,Prt J fp bs ns ps/\OwCs sm' os off cs' as' (ps.flatMap fun p=>p.1:: p.2)/\cs'.all V.isLf=true/\bs.Nodup/\(∀b∈bs,∃x,mem[b]? =some x/\x.alive=true)/\m.length=mem.length/\(∀q,m[q]? =if q∈bs then some .dead else mem[q]?)/\ns=List.range' nxt n
theorem zBx(how:OwA J mem0 sm fp)(hsm:∀i,i<sm.length->sm'[i]? =sm[i]?)(hρ:∀(q:Nat) x,mem0[q]? =some x->x.alive=true->J q<sm.length)(os:OS):∀(tys:List Ty)(cs:List V)(as:List AV)(off nxt:Nat)(mem:List Root)(cs':List V)(m:List Root),(∀(q:Nat) x,mem[q]? =some x->x.alive=true->mem0[q]? =some x)->VRL J mem0 cs as->cls os off mem tys cs=some (cs',m)->(∀(k:Nat) e,(cvt os off nxt tys cs as).2[k]? =some e->sm'[nxt+k]? =some e)->
 zCr J fp sm' os off nxt mem cs' m (cvt os off nxt tys cs as).1 (cvt os off nxt tys cs as).2.length:=by
 intro tys cs;induction cs generalizing tys with
 |nil=>
  intro as off nxt mem cs' m _ hv hc _;simp only[VRL]at hv;subst hv;simp only[cls,Option.some.injEq,Prod.mk.injEq]at hc;obtain⟨rfl,rfl⟩:=hc;have e:cvt os off nxt tys [] []=([],[]):=by cases tys<;>rfl
  rw[e];exact⟨[],[],[],.nil,.nil,rfl,List.nodup_nil,by simp,rfl,by simp,rfl⟩
 |cons c cs ih=>
  intro as off nxt mem cs' m hmem hv hc hent;simp only[VRL]at hv;obtain⟨a,as,rfl,hva,hv⟩:=hv;cases tys with
  |nil=>simp[cls]at hc
  |cons ty tys=>
   have leaf:(os.sub off=none\/∀t,ty≠.lst t)->zCr J fp sm' os off nxt mem cs' m (cvt os off nxt (ty:: tys) (c:: cs) (a:: as)).1 (cvt os off nxt (ty:: tys) (c:: cs) (a:: as)).2.length:=by
    intro ho;rw[zvH ho]at hc;rw[zvJ ho]at hent|-;split at hc
    ·rename_i c' hc';simp only[ygc,Prod.exists,Option.some.injEq,Prod.mk.injEq]at hc;obtain⟨cs1,m1,h1,rfl,rfl⟩:=hc;obtain⟨bs,ns,ps,g1,g2,g3,g4,g5,g6,g7,g8⟩:=ih tys as (off+1) nxt mem cs1 m1 hmem hv h1 hent;obtain⟨l1,l2⟩:=zyB (sm:=sm') hva hc' ho;exact⟨bs,ns,ps,g1,OwCs.cons (fp:=[]) l2 g2,by simp[l1,g3],g4,g5,g6,g7,g8⟩
    ·cases hc
   cases ho:os.sub off with
   |none=>exact leaf (.inl ho)
   |some o=>
    cases ty with
    |int k=>exact leaf (.inr fun t e=>by cases e)
    |bool=>exact leaf (.inr fun t e=>by cases e)
    |str=>exact leaf (.inr fun t e=>by cases e)
    |nm n=>exact leaf (.inr fun t e=>by cases e)
    |lst t=>
     cases c with
     |own b=>
      have ec:cvt os off nxt (.lst t:: tys) (.own b:: cs) (a:: as)=(a:: (cvt os (off+1) nxt tys cs as).1,(cvt os (off+1) nxt tys cs as).2):=by simp only[cvt,ho]
      rw[ec]at hent|-;simp only[cls,ho]at hc;split at hc
      ·rename_i t' ys w hb;split at hc
       ·rename_i hw;split at hc
        ·rename_i ht;subst ht;simp only[ygc,Prod.exists,Option.some.injEq,Prod.mk.injEq]at hc;obtain⟨cs1,m1,h1,rfl,rfl⟩:=hc;have hw:=Ow.eqB_eq hw;subst hw;have hb0:=hmem b _ hb rfl;have hbl:=(yga.1 hb).1;obtain⟨rows,q1,q2⟩:=(how.rel b t' ys _ hb0).mk;simp only[VR,zep,hb0]at hva;subst hva;obtain⟨bs,ns,ps,g1,g2,g3,g4,g5,g6,g7,g8⟩:=ih tys as (off+1) nxt (mem.set b .dead) cs1 m1 (fun q x hq hx=>by
          rw[List.getElem?_set]at hq;split at hq
          ·simp only[ite_eq_left_iff,Option.ite_none_right_eq_some,Option.some.injEq]at hq;first
            | (obtain⟨_,rfl⟩:=hq;cases hx)
            | (subst hq;cases hx)
          ·exact hmem q x hq hx) hv h1 hent
         have hnb:b∉bs:=fun hm=>by obtain⟨x,hx,ha⟩:=g5 b hm;rw[List.getElem?_set_self hbl]at hx;cases hx;cases ha
         refine⟨b:: bs,ns,(J b,fp b):: ps,.root b g1,?_,by simp[g3,V.isLf],List.nodup_cons.2 ⟨hnb,g4⟩,fun b' hb'=>?_,by rw[g6];simp,fun q=>?_,g8⟩
         ·refine OwCs.cons (fp:=J b:: fp b) ?_ g2;rw[ho];exact .own (by rw[hsm _ (hρ b _ hb0 rfl)];exact q1) (q2.frame fun i hi=>hsm i (how.lt b i hi))
         ·rcases List.mem_cons.1 hb' with rfl|hb'
          ·exact⟨_,hb,rfl⟩
          ·obtain⟨x,hx,ha⟩:=g5 b' hb';have hne:b≠b':=fun e=>hnb (by rw[e];exact hb');rw[ygg hne]at hx;exact⟨x,hx,ha⟩
         ·rw[g7 q];by_cases e:q=b
          ·subst e;simp[hnb,List.getElem?_set_self hbl]
          ·simp only[List.mem_cons,e,false_or];rw[ygg (fun h=>e h.symm)]
        ·cases hc
       ·cases hc
      ·cases hc
     |e0=>
      have ec:cvt os off nxt (.lst t:: tys) (.e0:: cs) (a:: as)=(.ms nxt t.sz 0 0:: (cvt os (off+1) (nxt+1) tys cs as).1,.arr t.sz []:: (cvt os (off+1) (nxt+1) tys cs as).2):=by simp only[cvt,ho]
      rw[ec]at hent|-;simp only[cls,ho]at hc;simp only[ygc,Prod.exists,Option.some.injEq,Prod.mk.injEq]at hc;obtain⟨cs1,m1,h1,rfl,rfl⟩:=hc;obtain⟨bs,ns,ps,g1,g2,g3,g4,g5,g6,g7,g8⟩:=ih tys as (off+1) (nxt+1) mem cs1 m1 hmem hv h1 (fun k e hk=>by have:=hent (k+1) e (by simpa using hk);rw[show nxt+(k+1)=nxt+1+k by omega]at this;exact this)
      refine⟨bs,nxt:: ns,(nxt,[]):: ps,.new nxt g1,?_,by simp[g3,V.isLf],g4,g5,g6,g7,by rw[g8];simp[List.range'_succ]⟩;refine OwCs.cons (fp:=[nxt]) ?_ g2;rw[ho];exact OwC.own (xs:=[]) (fp:=[]) (by simpa using hent 0 _ rfl) .nil
     |_=>simp[cls,ho]at hc
end
end Go.Fw
namespace Go.Fw
open Go
theorem zan{t:Ty}{v:V}{y:TV t}(hv:v.isLf=true)(h:v.toL t=some y):leafs t y=[v]:=by
 cases t<;>cases v<;>simp only[V.toL]at h<;>(try(cases h;done))<;>(try(cases hv;done))
 ·split at h
  ·rename_i e;subst e;cases h;simp[leafs]
  ·cases h
 ·cases h;simp[leafs]
 ·cases h;simp[leafs]
 ·split at h
  ·rename_i e;subst e;cases h;simp[leafs]
  ·cases h
theorem zo3{cs:List V}{x:Field}(hv:cs.all V.isLf=true)(h:zfJ cs=some x):ziL x=cs:=by
 unfold zfJ at h;split at h
 ·simp only[List.all_cons,List.all_nil,yhb,yhm]at hv;obtain⟨v0,v1,v2,v3,v4,v5,v6,v7⟩:=hv;simp only[ygc]at h;obtain⟨x0,h0,⟨x1,h1,⟨x2,h2,⟨x3,h3,⟨x4,h4,⟨x5,h5,⟨x6,h6,⟨x7,h7,h⟩⟩⟩⟩⟩⟩⟩⟩:=h;cases h;have e0:=zan v0 h0;simp only[leafs,List.cons.injEq,yhm]at e0;have e1:=zan v1 h1;simp only[leafs,List.cons.injEq,yhm]at e1;have e2:=zan v2 h2;simp only[leafs,List.cons.injEq,yhm]at e2;have e3:=zan v3 h3;simp only[leafs,List.cons.injEq,yhm]at e3;have e4:=zan v4 h4;simp only[leafs,List.cons.injEq,yhm]at e4;have e5:=zan v5 h5;simp only[leafs,List.cons.injEq,yhm]at e5;have e6:=zan v6 h6;simp only[leafs,List.cons.injEq,yhm]at e6;have e7:=zan v7 h7;simp only[leafs,List.cons.injEq,yhm]at e7;subst e0 e1 e2 e3 e4 e5 e6 e7;rfl
 ·cases h
theorem zsD{cs:List V}{x:Typ}(hv:cs.all V.isLf=true)(h:zln cs=some x):zrT x=cs:=by
 unfold zln at h;split at h
 ·simp only[List.all_cons,List.all_nil,yhb,yhm]at hv;obtain⟨v0,v1,v2⟩:=hv;simp only[ygc]at h;obtain⟨x0,h0,⟨x1,h1,⟨x2,h2,h⟩⟩⟩:=h;cases h;have e0:=zan v0 h0;simp only[leafs,List.cons.injEq,yhm]at e0;have e1:=zan v1 h1;simp only[leafs,List.cons.injEq,yhm]at e1;have e2:=zan v2 h2;simp only[leafs,List.cons.injEq,yhm]at e2;subst e0 e1 e2;rfl
 ·cases h
theorem zhf{cs:List V}{x:Part}(hv:cs.all V.isLf=true)(h:ze3 cs=some x):zjo x=cs:=by
 unfold ze3 at h;split at h
 ·simp only[List.all_cons,List.all_nil,yhb,yhm]at hv;obtain⟨v0,v1⟩:=hv;simp only[ygc]at h;obtain⟨x0,h0,⟨x1,h1,h⟩⟩:=h;cases h;have e0:=zan v0 h0;simp only[leafs,List.cons.injEq,yhm]at e0;have e1:=zan v1 h1;simp only[leafs,List.cons.injEq,yhm]at e1;subst e0 e1;rfl
 ·cases h
theorem znC{cs:List V}{x:PFault}(hv:cs.all V.isLf=true)(h:zew cs=some x):zga x=cs:=by
 unfold zew at h;split at h
 ·simp only[List.all_cons,List.all_nil,yhb,yhm]at hv;obtain⟨v0,v1⟩:=hv;simp only[ygc]at h;obtain⟨x0,h0,⟨x1,h1,h⟩⟩:=h;cases h;have e0:=zan v0 h0;simp only[leafs,List.cons.injEq,yhm]at e0;have e1:=zan v1 h1;simp only[leafs,List.cons.injEq,yhm]at e1;subst e0 e1;rfl
 ·cases h
theorem zgj{cs:List V}{x:Val}(hv:cs.all V.isLf=true)(h:zfN cs=some x):zmO x=cs:=by
 unfold zfN at h;split at h
 ·simp only[List.all_cons,List.all_nil,yhb,yhm]at hv;obtain⟨v0,v1,v2,v3,v4⟩:=hv;simp only[ygc]at h;obtain⟨x0,h0,⟨x1,h1,⟨x2,h2,⟨x3,h3,⟨x4,h4,h⟩⟩⟩⟩⟩:=h;cases h;have e0:=zan v0 h0;simp only[leafs,List.cons.injEq,yhm]at e0;have e1:=zan v1 h1;simp only[leafs,List.cons.injEq,yhm]at e1;have e2:=zan v2 h2;simp only[leafs,List.cons.injEq,yhm]at e2;have e3:=zan v3 h3;simp only[leafs,List.cons.injEq,yhm]at e3;have e4:=zan v4 h4;simp only[leafs,List.cons.injEq,yhm]at e4;subst e0 e1 e2 e3 e4;rfl
 ·cases h
theorem zsv{cs:List V}{x:Cel}(hv:cs.all V.isLf=true)(h:zlf cs=some x):zpI x=cs:=by
 unfold zlf at h;split at h
 ·simp only[List.all_cons,List.all_nil,yhb,yhm]at hv;obtain⟨v0,v1,v2,v3,v4,v5⟩:=hv;simp only[ygc]at h;obtain⟨x0,h0,⟨x1,h1,h⟩⟩:=h;cases h;have e0:=zan v0 h0;simp only[leafs,List.cons.injEq,yhm]at e0;have e1:=zgj (by simp only[List.all_cons,List.all_nil,v1,v2,v3,v4,v5,Bool.and_self]) h1;simp only[zpI,e0,e1];try rfl
 ·cases h
theorem zsz{cs:List V}{x:Row}(hv:cs.all V.isLf=true)(h:zlj cs=some x):zrP x=cs:=by
 unfold zlj at h;split at h
 ·simp only[List.all_cons,List.all_nil,yhb,yhm]at hv;obtain⟨v0,v1,v2⟩:=hv;simp only[ygc]at h;obtain⟨x0,h0,⟨x1,h1,⟨x2,h2,h⟩⟩⟩:=h;cases h;have e0:=zan v0 h0;simp only[leafs,List.cons.injEq,yhm]at e0;have e1:=zan v1 h1;simp only[leafs,List.cons.injEq,yhm]at e1;have e2:=zan v2 h2;simp only[leafs,List.cons.injEq,yhm]at e2;subst e0 e1 e2;rfl
 ·cases h
theorem zsA{cs:List V}{x:Sel}(hv:cs.all V.isLf=true)(h:zlk cs=some x):zrQ x=cs:=by
 unfold zlk at h;split at h
 ·simp only[List.all_cons,List.all_nil,yhb,yhm]at hv;obtain⟨v0,v1,v2,v3,v4⟩:=hv;simp only[ygc]at h;obtain⟨x0,h0,⟨x1,h1,⟨x2,h2,⟨x3,h3,⟨x4,h4,h⟩⟩⟩⟩⟩:=h;cases h;have e0:=zan v0 h0;simp only[leafs,List.cons.injEq,yhm]at e0;have e1:=zan v1 h1;simp only[leafs,List.cons.injEq,yhm]at e1;have e2:=zan v2 h2;simp only[leafs,List.cons.injEq,yhm]at e2;have e3:=zan v3 h3;simp only[leafs,List.cons.injEq,yhm]at e3;have e4:=zan v4 h4;simp only[leafs,List.cons.injEq,yhm]at e4;subst e0 e1 e2 e3 e4;rfl
 ·cases h
theorem znw{cs:List V}{x:AFault}(hv:cs.all V.isLf=true)(h:zet cs=some x):zf8 x=cs:=by
 unfold zet at h;split at h
 ·simp only[List.all_cons,List.all_nil,yhb,yhm]at hv;obtain⟨v0,v1⟩:=hv;simp only[ygc]at h;obtain⟨x0,h0,⟨x1,h1,h⟩⟩:=h;cases h;have e0:=zan v0 h0;simp only[leafs,List.cons.injEq,yhm]at e0;have e1:=zan v1 h1;simp only[leafs,List.cons.injEq,yhm]at e1;subst e0 e1;rfl
 ·cases h
theorem zsw{cs:List V}{x:Chg}(hv:cs.all V.isLf=true)(h:zlg cs=some x):zpJ x=cs:=by
 unfold zlg at h;split at h
 ·simp only[List.all_cons,List.all_nil,yhb,yhm]at hv;obtain⟨v0,v1,v2,v3,v4,v5,v6,v7⟩:=hv;simp only[ygc]at h;obtain⟨x0,h0,⟨x1,h1,⟨x2,h2,⟨x3,h3,h⟩⟩⟩⟩:=h;cases h;have e0:=zan v0 h0;simp only[leafs,List.cons.injEq,yhm]at e0;have e1:=zan v1 h1;simp only[leafs,List.cons.injEq,yhm]at e1;have e2:=zan v2 h2;simp only[leafs,List.cons.injEq,yhm]at e2;have e3:=zgj (by simp only[List.all_cons,List.all_nil,v3,v4,v5,v6,v7,Bool.and_self]) h3;simp only[zpJ,e0,e1,e2,e3];try rfl
 ·cases h
theorem zsx{cs:List V}{x:Ety}(hv:cs.all V.isLf=true)(h:zlh cs=some x):zrN x=cs:=by
 unfold zlh at h;split at h
 ·simp only[List.all_cons,List.all_nil,yhb,yhm]at hv;obtain⟨v0,v1,v2⟩:=hv;simp only[ygc]at h;obtain⟨x0,h0,⟨x1,h1,⟨x2,h2,h⟩⟩⟩:=h;cases h;have e0:=zan v0 h0;simp only[leafs,List.cons.injEq,yhm]at e0;have e1:=zan v1 h1;simp only[leafs,List.cons.injEq,yhm]at e1;have e2:=zan v2 h2;simp only[leafs,List.cons.injEq,yhm]at e2;subst e0 e1 e2;rfl
 ·cases h
theorem zsB{cs:List V}{x:Stp}(hv:cs.all V.isLf=true)(h:zll cs=some x):zrR x=cs:=by
 unfold zll at h;split at h
 ·simp only[List.all_cons,List.all_nil,yhb,yhm]at hv;obtain⟨v0,v1,v2,v3,v4,v5⟩:=hv;simp only[ygc]at h;obtain⟨x0,h0,⟨x1,h1,⟨x2,h2,⟨x3,h3,⟨x4,h4,⟨x5,h5,h⟩⟩⟩⟩⟩⟩:=h;cases h;have e0:=zan v0 h0;simp only[leafs,List.cons.injEq,yhm]at e0;have e1:=zan v1 h1;simp only[leafs,List.cons.injEq,yhm]at e1;have e2:=zan v2 h2;simp only[leafs,List.cons.injEq,yhm]at e2;have e3:=zan v3 h3;simp only[leafs,List.cons.injEq,yhm]at e3;have e4:=zan v4 h4;simp only[leafs,List.cons.injEq,yhm]at e4;have e5:=zan v5 h5;simp only[leafs,List.cons.injEq,yhm]at e5;subst e0 e1 e2 e3 e4 e5;rfl
 ·cases h
theorem zsE{cs:List V}{x:Wrg}(hv:cs.all V.isLf=true)(h:zlo cs=some x):zrU x=cs:=by
 unfold zlo at h;split at h
 ·simp only[List.all_cons,List.all_nil,yhb,yhm]at hv;obtain⟨v0,v1⟩:=hv;simp only[ygc]at h;obtain⟨x0,h0,⟨x1,h1,h⟩⟩:=h;cases h;have e0:=zan v0 h0;simp only[leafs,List.cons.injEq,yhm]at e0;have e1:=zan v1 h1;simp only[leafs,List.cons.injEq,yhm]at e1;subst e0 e1;rfl
 ·cases h
theorem zsu{cs:List V}{x:Ans}(hv:cs.all V.isLf=true)(h:zle cs=some x):zpH x=cs:=by
 unfold zle at h;split at h
 ·simp only[List.all_cons,List.all_nil,yhb,yhm]at hv;obtain⟨v0,v1,v2,v3,v4,v5⟩:=hv;simp only[ygc]at h;obtain⟨x0,h0,⟨x1,h1,h⟩⟩:=h;cases h;have e0:=zgj (by simp only[List.all_cons,List.all_nil,v0,v1,v2,v3,v4,Bool.and_self]) h0;have e1:=zan v5 h1;simp only[leafs,List.cons.injEq,yhm]at e1;simp only[zpH,e0,e1];try rfl
 ·cases h
theorem zsy{cs:List V}{x:Own}(hv:cs.all V.isLf=true)(h:zli cs=some x):zrO x=cs:=by
 unfold zli at h;split at h
 ·simp only[List.all_cons,List.all_nil,yhb,yhm]at hv;obtain⟨v0,v1,v2⟩:=hv;simp only[ygc]at h;obtain⟨x0,h0,⟨x1,h1,⟨x2,h2,h⟩⟩⟩:=h;cases h;have e0:=zan v0 h0;simp only[leafs,List.cons.injEq,yhm]at e0;have e1:=zan v1 h1;simp only[leafs,List.cons.injEq,yhm]at e1;have e2:=zan v2 h2;simp only[leafs,List.cons.injEq,yhm]at e2;subst e0 e1 e2;rfl
 ·cases h
theorem zjt{cs:List V}{x:Chart}(hv:cs.all V.isLf=true)(h:zev cs=some x):zfx x=cs:=by
 unfold zev at h;split at h
 ·simp only[List.all_cons,List.all_nil,yhb,yhm]at hv;obtain⟨v0,v1,v2⟩:=hv;simp only[ygc]at h;obtain⟨x0,h0,⟨x1,h1,h⟩⟩:=h;cases h;have e0:=zhf (by simp only[List.all_cons,List.all_nil,v0,v1,Bool.and_self]) h0;have e1:=zan v2 h1;simp only[leafs,List.cons.injEq,yhm]at e1;simp only[zfx,e0,e1];try rfl
 ·cases h
theorem znx{cs:List V}{x:CFault}(hv:cs.all V.isLf=true)(h:zeu cs=some x):zf9 x=cs:=by
 unfold zeu at h;split at h
 ·simp only[List.all_cons,List.all_nil,yhb,yhm]at hv;obtain⟨v0,v1,v2,v3⟩:=hv;simp only[ygc]at h;obtain⟨x0,h0,⟨x1,h1,⟨x2,h2,⟨x3,h3,h⟩⟩⟩⟩:=h;cases h;have e0:=zan v0 h0;simp only[leafs,List.cons.injEq,yhm]at e0;have e1:=zan v1 h1;simp only[leafs,List.cons.injEq,yhm]at e1;have e2:=zan v2 h2;simp only[leafs,List.cons.injEq,yhm]at e2;have e3:=zan v3 h3;simp only[leafs,List.cons.injEq,yhm]at e3;subst e0 e1 e2 e3;rfl
 ·cases h
theorem zsC{cs:List V}{x:Stt}(hv:cs.all V.isLf=true)(h:zlm cs=some x):zrS x=cs:=by
 unfold zlm at h;split at h
 ·simp only[List.all_cons,List.all_nil,yhb,yhm]at hv;obtain⟨v0,v1⟩:=hv;simp only[ygc]at h;obtain⟨x0,h0,⟨x1,h1,h⟩⟩:=h;cases h;have e0:=zan v0 h0;simp only[leafs,List.cons.injEq,yhm]at e0;have e1:=zan v1 h1;simp only[leafs,List.cons.injEq,yhm]at e1;subst e0 e1;rfl
 ·cases h
theorem zo2{cs:List V}{x:Fetch}(hv:cs.all V.isLf=true)(h:zfI cs=some x):ziK x=cs:=by
 unfold zfI at h;split at h
 ·simp only[List.all_cons,List.all_nil,yhb,yhm]at hv;obtain⟨v0,v1,v2⟩:=hv;simp only[ygc]at h;obtain⟨x0,h0,⟨x1,h1,⟨x2,h2,h⟩⟩⟩:=h;cases h;have e0:=zan v0 h0;simp only[leafs,List.cons.injEq,yhm]at e0;have e1:=zan v1 h1;simp only[leafs,List.cons.injEq,yhm]at e1;have e2:=zan v2 h2;simp only[leafs,List.cons.injEq,yhm]at e2;subst e0 e1 e2;rfl
 ·cases h
theorem zo4{cs:List V}{x:Fleet}(hv:cs.all V.isLf=true)(h:zfK cs=some x):zgU x=cs:=by
 unfold zfK at h;split at h
 ·simp only[List.all_cons,List.all_nil,yhb,yhm]at hv;obtain⟨v0,v1,v2,v3⟩:=hv;simp only[ygc]at h;obtain⟨x0,h0,⟨x1,h1,h⟩⟩:=h;cases h;have e0:=zan v0 h0;simp only[leafs,List.cons.injEq,yhm]at e0;have e1:=zjt (by simp only[List.all_cons,List.all_nil,v1,v2,v3,Bool.and_self]) h1;simp only[zgU,e0,e1];try rfl
 ·cases h
theorem zo5{cs:List V}{x:Graph}(hv:cs.all V.isLf=true)(h:zfL cs=some x):zgV x=cs:=by
 unfold zfL at h;split at h
 ·simp only[List.all_cons,List.all_nil,yhb,yhm]at hv;obtain⟨v0,v1,v2⟩:=hv;simp only[ygc]at h;obtain⟨x0,h0,⟨x1,h1,h⟩⟩:=h;cases h;have e0:=zhf (by simp only[List.all_cons,List.all_nil,v0,v1,Bool.and_self]) h0;have e1:=zan v2 h1;simp only[leafs,List.cons.injEq,yhm]at e1;simp only[zgV,e0,e1];try rfl
 ·cases h
theorem zqo{cs:List V}{x:Pair}(hv:cs.all V.isLf=true)(h:zij cs=some x):zma x=cs:=by
 unfold zij at h;split at h
 ·simp only[List.all_cons,List.all_nil,yhb,yhm]at hv;obtain⟨v0,v1⟩:=hv;simp only[ygc]at h;obtain⟨x0,h0,⟨x1,h1,h⟩⟩:=h;cases h;have e0:=zan v0 h0;simp only[leafs,List.cons.injEq,yhm]at e0;have e1:=zan v1 h1;simp only[leafs,List.cons.injEq,yhm]at e1;subst e0 e1;rfl
 ·cases h
theorem zzw{n:N}{cs:List V}{x:Nm n}(hv:cs.all V.isLf=true)(h:zzv n cs=some x):fl n x=cs:=by
 cases n
 ·exact zo3 hv h
 ·exact zsD hv h
 ·exact zhf hv h
 ·exact znC hv h
 ·exact zgj hv h
 ·exact zsv hv h
 ·exact zsz hv h
 ·exact zsA hv h
 ·exact znw hv h
 ·exact zsw hv h
 ·exact zsx hv h
 ·exact zsB hv h
 ·exact zsE hv h
 ·exact zsu hv h
 ·exact zsy hv h
 ·exact zjt hv h
 ·exact znx hv h
 ·exact zsC hv h
 ·exact zo2 hv h
 ·exact zo4 hv h
 ·exact zo5 hv h
 ·exact zqo hv h
theorem zo7{t:Ty}{cs:List V}{x:TV t}(hv:cs.all V.isLf=true)(h:zil t cs=some x):leafs t x=cs:=by
 cases t with
 |nm n=>exact zzw hv h
 |int k|bool|str|lst t=>
  cases cs with
  |nil=>simp[zil]at h
  |cons v l=>cases l with
   |nil=>exact zan (by simpa using hv) h
   |cons _ _=>simp[zil]at h
end Go.Fw
namespace Go.Fw
open Go
variable [Pin]
theorem Prt.append{J:Nat->Nat}{fp:Nat->List Nat}{bs bs' ns ns':List Nat}{ps ps':List (Nat×List Nat)}(h:Prt J fp bs ns ps)(h':Prt J fp bs' ns' ps'):Prt J fp (bs++bs') (ns++ns') (ps++ps'):=by
 induction h with
 |nil=>exact h'
 |root b _ ih=>exact .root b ih
 |new n _ ih=>exact .new n ih
theorem Prt.mem{J:Nat->Nat}{fp:Nat->List Nat}{bs ns:List Nat}{ps:List (Nat×List Nat)}(h:Prt J fp bs ns ps):∀i∈ps.flatMap (fun p=>p.1:: p.2),(∃b∈bs,i=J b\/i∈fp b)\/i∈ns:=by
 induction h with
 |nil=>intro i hi;simp at hi
 |root b _ ih=>
  intro i hi;simp only[List.flatMap_cons,List.mem_append,List.mem_cons]at hi;rcases hi with hi|hi
  ·exact .inl ⟨b,by simp,hi⟩
  ·rcases ih i hi with⟨b',h1,h2⟩|h1
   ·exact .inl ⟨b',by simp[h1],h2⟩
   ·exact .inr h1
 |new n _ ih=>
  intro i hi;simp only[List.flatMap_cons,List.mem_append,List.mem_cons,List.not_mem_nil,or_false]at hi;rcases hi with rfl|hi
  ·exact .inr (by simp)
  ·rcases ih i hi with h1|h1
   ·exact .inl h1
   ·exact .inr (by simp[h1])
section
variable {J ρ':Nat->Nat}{T:TS}{st:St}{fp:Nat->List Nat}
theorem Prt.nodup{mem:List Root}{sm:List Ent}{bs ns:List Nat}{ps:List (Nat×List Nat)}(h:Prt J fp bs ns ps)(how:OwA J mem sm fp)(hinj:∀(r r':Nat) x x',mem[r]? =some x->x.alive=true->mem[r']? =some x'->x'.alive=true->J r=J r'->r=r')
 (hρ:∀(q:Nat) x,mem[q]? =some x->x.alive=true->J q<sm.length)(hb:bs.Nodup)(ha:∀b∈bs,∃x,mem[b]? =some x/\x.alive=true)(hn:ns.Nodup)(hl:∀n∈ns,sm.length<=n):(ps.flatMap (fun p=>p.1:: p.2)).Nodup:=by
 induction h with
 |nil=>simp
 | @root bs ns ps b h ih=>
  obtain⟨b1,b2⟩:=List.nodup_cons.1 hb;obtain⟨x,hx,hxa⟩:=ha b (by simp);simp only[List.flatMap_cons];refine List.nodup_append.2 ⟨List.nodup_cons.2 ⟨how.rt b b x hx hxa,how.nd b⟩,ih b2 (fun b' hb'=>ha b' (by simp[hb'])) hn hl,fun i hi j hj e=>?_⟩;subst e;rcases h.mem i hj with⟨b',hb',h1⟩|h1
  ·obtain⟨x',hx',hxa'⟩:=ha b' (by simp[hb']);have hne:b≠b':=fun e=>b1 (by rw[e];exact hb');rcases List.mem_cons.1 hi with rfl|hi
   ·rcases h1 with h1|h1
    ·exact hne (hinj b b' x x' hx hxa hx' hxa' h1)
    ·exact how.rt b b' x hx hxa h1
   ·rcases h1 with h1|h1
    ·exact how.rt b' b x' hx' hxa' (by rw[<-h1];exact hi)
    ·exact how.dj b b' hne i hi h1
  ·have:=hl i h1;rcases List.mem_cons.1 hi with rfl|hi
   ·have:=hρ b x hx hxa;omega
   ·have:=how.lt b i hi;omega
 | @new bs ns ps n h ih=>
  obtain⟨n1,n2⟩:=List.nodup_cons.1 hn;simp only[List.flatMap_cons];refine List.nodup_append.2 ⟨by simp,ih hb ha n2 (fun n' hn'=>hl n' (by simp[hn'])),fun i hi j hj e=>?_⟩;subst e;simp only[List.mem_cons,List.not_mem_nil,or_false]at hi;subst hi;have hi:=hl i (by simp);rcases h.mem i hj with⟨b',hb',h1⟩|h1
  ·obtain⟨x',hx',hxa'⟩:=ha b' hb';rcases h1 with h1|h1
   ·have:=hρ b' x' hx' hxa';omega
   ·have:=how.lt b' i h1;omega
  ·exact n1 h1
theorem TR.absorb{r:Nat}{t:Ty}{xs:List (TV t)}{w:Ow}{bs L:List Nat}{mem':List Root}{sm':List Ent}{d:Option Nat}{v:V}{a:AV}(h:TR J T st)(how:OwA J T.mem st.mem fp)
 (halive:∀b∈bs,b≠r/\∃x,T.mem[b]? =some x/\x.alive=true)
 (hr:(r=T.mem.length/\st.mem.length<=ρ' r)\/(∃xs0 w0,T.mem[r]? =some (.arr t xs0 w0)/\xs.length=xs0.length/\ρ' r=J r))
 (hρ:∀q,q<T.mem.length->ρ' q=J q)
 (hm:∀q,mem'[q]? =if q=r then some (.arr t xs w)else if q∈bs then some .dead else T.mem[q]?)
 (hsm:∀i,i<st.mem.length->(r<T.mem.length->i≠J r)->(∀b∈bs,i≠J b)->sm'[i]? =st.mem[i]?)
 (hL:L.Nodup)(hLm:∀i∈L,(∃b∈bs,i=J b\/i∈fp b)\/i∈fp r\/(st.mem.length<=i/\i≠ρ' r))
 (hA:ArrR ρ' mem' sm' t xs w (ρ' r) L)(hv:VR ρ' mem' v a):TR ρ' ⟨zfa T.env d v,mem'⟩ ⟨Fw.put st.env d a,sm'⟩:=by
 have old:∀(q:Nat) x,mem'[q]? =some x->(q=r/\x=.arr t xs w)\/(q≠r/\q∈bs/\x=.dead)\/(q≠r/\q∉bs/\T.mem[q]? =some x/\q<T.mem.length):=by
  intro q x hq;rw[hm]at hq;split at hq
  ·rename_i e;cases hq;exact .inl ⟨e,rfl⟩
  ·rename_i e;split at hq
   ·rename_i e2;cases hq;exact .inr (.inl ⟨e,e2,rfl⟩)
   ·rename_i e2;exact .inr (.inr ⟨e,e2,hq,(yga.1 hq).1⟩)
 have oldA:∀(q:Nat) x,mem'[q]? =some x->x.alive=true->(q=r/\x=.arr t xs w)\/(q≠r/\q∉bs/\T.mem[q]? =some x/\q<T.mem.length):=by
  intro q x hq hx;rcases old q x hq with h1|⟨_,_,rfl⟩|h1
  ·exact .inl h1
  ·cases hx
  ·exact .inr h1
 have ρr:(∃y,T.mem[r]? =some y/\y.alive=true/\ρ' r=J r/\r<T.mem.length)\/(st.mem.length<=ρ' r/\r=T.mem.length):=by
  rcases hr with⟨h1,h2⟩|⟨xs0,w0,h1,_,h2⟩
  ·exact .inr ⟨h2,h1⟩
  ·exact .inl ⟨_,h1,rfl,h2,(yga.1 h1).1⟩
 have hk:Kp J ρ' T.mem mem':=by
  have key:∀(q:Nat) x,T.mem[q]? =some x->q≠r->mem'[q]? =some .dead\/(mem'[q]? =some x):=fun q x hq hne=>by
   rw[hm,if_neg hne];split
   ·exact .inl rfl
   ·exact .inr hq
  have hlt:∀(q:Nat) x,T.mem[q]? =some x->ρ' q=J q:=fun q x hq=>hρ q (yga.1 hq).1;refine⟨fun q t' ys w' hq=>?_,fun q b' ds hq=>?_,fun q hq=>?_⟩
  ·by_cases e:q=r
   ·subst e;rcases hr with⟨h1,_⟩|⟨xs0,w0,h1,h2,h3⟩
    ·have:=(yga.1 hq).1;omega
    ·rw[h1]at hq;cases hq;exact .inr ⟨h3,xs,w,by rw[hm];simp,h2⟩
   ·exact(key q _ hq e).imp id fun h1=>⟨hlt q _ hq,ys,w',h1,rfl⟩
  ·by_cases e:q=r
   ·subst e;rcases hr with⟨h1,_⟩|⟨xs0,w0,h1,h2,h3⟩
    ·have:=(yga.1 hq).1;omega
    ·rw[h1]at hq;cases hq
   ·exact(key q _ hq e).imp id fun h1=>⟨hlt q _ hq,b',ds,h1⟩
  ·by_cases e:q=r
   ·subst e;rcases hr with⟨h1,_⟩|⟨xs0,w0,h1,h2,h3⟩
    ·have:=(yga.1 hq).1;omega
    ·rw[h1]at hq;cases hq
   ·exact(key q _ hq e).elim id id
 have nb:∀(q:Nat) x,T.mem[q]? =some x->x.alive=true->q∉bs->∀b∈bs,J q≠J b:=fun q x hq hx hqb b hb e=>by obtain⟨_,y,hy,hya⟩:=halive b hb;exact hqb (by rw[h.inj q b x y hq hx hy hya e];exact hb)
 have nr:∀(q:Nat) x,T.mem[q]? =some x->x.alive=true->q≠r->r<T.mem.length->J q≠J r:=fun q x hq hx hne hl e=>by
  rcases ρr with⟨y,h1,h2,_,_⟩|⟨_,h1⟩
  ·exact hne (h.inj q r x y hq hx h1 h2 e)
  ·omega
 have same:∀(q:Nat) x,T.mem[q]? =some x->x.alive=true->q≠r->q∉bs->sm'[J q]? =st.mem[J q]?:=fun q x hq hx hne hb=>hsm _ (h.lt q x hq hx) (nr q x hq hx hne) (nb q x hq hx hb);have sameF:∀(q:Nat),∀i∈fp q,sm'[i]? =st.mem[i]?:=fun q i hi=>hsm i (how.lt q i hi) (fun hl e=>by
  rcases ρr with⟨y,h1,h2,_,_⟩|⟨_,h1⟩
  ·exact how.rt r q y h1 h2 (by rw[<-e];exact hi)
  ·omega) fun b hb e=>by
  obtain⟨_,y,hy,hya⟩:=halive b hb;exact how.rt b q y hy hya (by rw[<-e];exact hi)
 refine⟨fun n=>?_,fun q b ds hq=>?_,fun q b ds hq=>?_,fun q q' x x' hq hx hq' hx' e=>?_,⟨fun q=>if q=r then L else if q∈bs then[]else fp q,fun q t' ys w' hq=>?_,fun q hq=>?_,fun q=>?_,fun q q' hne i hi hi'=>?_,fun q q' x hq hx hi=>?_⟩,h.pin.mono hk⟩
 ·simp only[zbj,zdf];split
  ·exact hv
  ·exact(h.env n).mono hk
 ·rcases oldA q _ hq rfl with⟨_,h0⟩|⟨h1,h2,h3,h4⟩
  ·cases h0
  ·obtain⟨as,g1,g2⟩:=h.box q b ds h3;exact⟨as,by show sm'[ρ' q]? =_;rw[hρ q h4,same q _ h3 rfl h1 h2];exact g1,g2.mono hk⟩
 ·rcases oldA q _ hq rfl with⟨_,h0⟩|⟨h1,h2,h3,h4⟩
  ·cases h0
  ·exact h.boxC q b ds h3
 ·rcases oldA q _ hq hx with⟨rfl,_⟩|⟨h1,h2,h3,h4⟩<;>rcases oldA q' _ hq' hx' with⟨rfl,_⟩|⟨h1',h2',h3',h4'⟩
  ·rfl
  ·rw[hρ q' h4']at e;rcases ρr with⟨y,g1,g2,g3,_⟩|⟨g1,_⟩
   ·rw[g3]at e;exact h.inj _ _ y x' g1 g2 h3' hx' e
   ·have:=h.lt q' _ h3' hx';omega
  ·rw[hρ q h4]at e;rcases ρr with⟨y,g1,g2,g3,_⟩|⟨g1,_⟩
   ·rw[g3]at e;exact h.inj _ _ x y h3 hx g1 g2 e
   ·have:=h.lt q _ h3 hx;omega
  ·rw[hρ q h4,hρ q' h4']at e;exact h.inj q q' x x' h3 hx h3' hx' e
 ·rcases oldA q _ hq rfl with⟨rfl,h0⟩|⟨h1,h2,h3,h4⟩
  ·cases h0;rw[if_pos rfl];exact hA
  ·rw[if_neg h1,if_neg h2,hρ q h4];exact(how.rel q t' ys w' h3).mono (fun cs as hh=>hh.mono hk) (same q _ h3 rfl h1 h2) (sameF q)
 ·split
  ·rename_i e;subst e;exact absurd (by rw[hm];simp) (hq t xs w)
  ·rename_i e1;split
   ·rfl
   ·rename_i e2;exact how.nil q fun t' ys w' h'=>hq t' ys w' (by show mem'[q]? =_;rw[hm,if_neg e1,if_neg e2];exact h')
 ·split
  ·exact hL
  ·split
   ·exact List.nodup_nil
   ·exact how.nd q
 ·have key:∀(q:Nat),q∉bs->q≠r->∀i∈L,i∉fp q:=by
   intro q hqb hqr i hi hiq;rcases hLm i hi with⟨b,hb,g⟩|g|⟨g,_⟩
   ·obtain⟨_,y,hy,hya⟩:=halive b hb;rcases g with rfl|g
    ·exact how.rt b q y hy hya hiq
    ·exact how.dj b q (fun e=>hqb (by rw[<-e];exact hb)) i g hiq
   ·exact how.dj r q (fun e=>hqr e.symm) i g hiq
   ·have:=how.lt q i hiq;omega
  split at hi
  ·rename_i e;rw[if_neg (by rintro rfl;exact hne e)]at hi';split at hi'
   ·simp at hi'
   ·rename_i e2;exact key q' e2 (by rintro rfl;exact hne e) i hi hi'
  ·rename_i e;split at hi
   ·simp at hi
   ·rename_i e2;split at hi'
    ·exact key q e2 e i hi' hi
    ·split at hi'
     ·simp at hi'
     ·exact how.dj q q' hne i hi hi'
 ·rcases oldA q _ hq hx with⟨rfl,_⟩|⟨h1,h2,h3,h4⟩
  ·split at hi
   ·rcases hLm _ hi with⟨b,hb,g⟩|g|⟨_,g⟩
    ·obtain⟨hbr,y,hy,hya⟩:=halive b hb;rcases ρr with⟨z,g1,g2,g3,_⟩|⟨g1,_⟩
     ·rw[g3]at g;rcases g with g|g
      ·exact hbr (h.inj _ _ z y g1 g2 hy hya g).symm
      ·exact how.rt _ b z g1 g2 g
     ·rcases g with g|g
      ·have:=h.lt b y hy hya;omega
      ·have:=how.lt b _ g;omega
    ·rcases ρr with⟨z,g1,g2,g3,_⟩|⟨g1,_⟩
     ·rw[g3]at g;exact how.rt _ _ z g1 g2 g
     ·have:=how.lt _ _ g;omega
    ·exact g rfl
   ·split at hi
    ·simp at hi
    ·rcases ρr with⟨z,g1,g2,g3,_⟩|⟨g1,_⟩
     ·rw[g3]at hi;exact how.rt _ _ z g1 g2 hi
     ·have:=how.lt _ _ hi;omega
  ·rw[hρ q h4]at hi;split at hi
   ·rcases hLm _ hi with⟨b,hb,g⟩|g|⟨g,_⟩
    ·obtain⟨hbr,y,hy,hya⟩:=halive b hb;rcases g with g|g
     ·exact nb q x h3 hx h2 b hb g
     ·exact how.rt q b x h3 hx g
    ·exact how.rt q _ x h3 hx g
    ·have:=h.lt q x h3 hx;omega
   ·split at hi
    ·simp at hi
    ·exact how.rt q q' x h3 hx hi
end
end Go.Fw
namespace Go.Fw
open Go
variable [Pin]
inductive VRs (J:Nat->Nat)(mem:List Root):List (List V)->List (List AV)->Prop
|nil:VRs J mem [] []
|cons {cs as css ass}(h:VRL J mem cs as)(hs:VRs J mem css ass):VRs J mem (cs:: css) (as:: ass)
def cvtR(os:OS)(tys:List Ty):Nat->List (List V)->List (List AV)->List (List AV)×List Ent
|nxt,cs:: css,as:: ass=>((cvt os 0 nxt tys cs as).1:: (cvtR os tys (nxt+(cvt os 0 nxt tys cs as).2.length) css ass).1,(cvt os 0 nxt tys cs as).2++(cvtR os tys (nxt+(cvt os 0 nxt tys cs as).2.length) css ass).2)
|_,_,ass=>(ass,[])
theorem Gh.cvtR{J:Nat->Nat}{mem:List Root}(os:OS)(tys:List Ty):∀{css:List (List V)}{ass:List (List AV)},VRs J mem css ass->∀{st:St}{i n:Nat}(pre:List (List AV)),st.mem[i]? =some (.arr n (pre++ass))->
 Gh st ⟨st.env,st.mem.set i (.arr n (pre++(Go.Fw.cvtR os tys st.mem.length css ass).1))++(Go.Fw.cvtR os tys st.mem.length css ass).2⟩
 |_,_,.nil,st,i,n,pre,hi=>by
  simp only[Go.Fw.cvtR];have:st.mem.set i (.arr n (pre++[]))++[]=st.mem:=by
   rw[List.append_nil];refine List.ext_getElem? fun k=>?_;rw[List.getElem?_set];split
   ·rename_i e;subst e;split
    ·exact hi.symm
    ·rename_i h;exact absurd (yga.1 hi).1 h
   ·rfl
  rw[this];exact .refl _
 |_,_,.cons (cs:=cs) (as:=as) (css:=css) (ass:=ass) h hs,st,i,n,pre,hi=>by
  have hil:=(yga.1 hi).1;have g:=Gh.cvt os tys cs as 0 (q:=pre.length) [] h hi (by simp);simp only[List.nil_append]at g;have e1:(pre++as:: ass).set pre.length (Go.Fw.cvt os 0 st.mem.length tys cs as).1=pre++[(Go.Fw.cvt os 0 st.mem.length tys cs as).1]++ass:=by rw[List.set_append_right _ _ (Nat.le_refl _),Nat.sub_self];simp
  rw[e1]at g;refine g.trans ?_;have:=Gh.cvtR os tys hs (st:=⟨st.env,st.mem.set i (.arr n (pre++[(Go.Fw.cvt os 0 st.mem.length tys cs as).1]++ass))++(Go.Fw.cvt os 0 st.mem.length tys cs as).2⟩) (i:=i) (n:=n) (pre++[(Go.Fw.cvt os 0 st.mem.length tys cs as).1])
   (by show(st.mem.set i _++_)[i]? =_;rw[yge (by rw[List.length_set];exact hil),List.getElem?_set_self hil])
  simp only[yhr,List.length_set]at this;rw[List.set_append_left _ _ (by rw[List.length_set];exact hil),List.set_set]at this;simp only[Go.Fw.cvtR];simpa using this
theorem zqO(os:OS):∀(tys:List Ty)(cs:List V)(as:List AV)(off nxt:Nat),zlz cs=false->cvt os off nxt tys cs as=(as,[])
|[],cs,as,off,nxt,_=>by cases cs<;>rfl
|_:: _,[],as,off,nxt,_=>by rfl
|_:: _,_:: _,[],off,nxt,_=>by rfl
|ty:: tys,c:: cs,a:: as,off,nxt,h=>by
 have hc:c≠.e0:=by rintro rfl;simp[zlz]at h
 have ht:zlz cs=false:=by cases c<;>simp_all[zlz]
 have:=zqO os tys cs as (off+1) nxt ht;simp only[cvt];split
 ·exact absurd rfl hc
 ·exact absurd rfl hc
 ·rw[this]
theorem OwCs.len{sm:List Ent}{os:OS}{off:Nat}{vs:List V}{as:List AV}{fp:List Nat}:OwCs sm os off vs as fp->as.length=vs.length
|.nil=>rfl
|.cons _ hs=>by simp[hs.len]
theorem zwa{ty:Ty}{c c':V}(h:zv9 ty c=some c'):c.isC=true:=by cases ty<;>cases c<;>simp[zv9,V.isLf]at h<;>rfl
theorem ztY{ty:Ty}{c c':V}(h:zv9 ty c=some c'):c'.isLf=true:=by
 cases ty<;>cases c<;>simp[zv9,V.isLf]at h<;>first
  | (subst h;rfl)
  | (obtain⟨_,rfl⟩:=h;rfl)
theorem zpo(os:OS):∀(tys:List Ty)(cs:List V)(off:Nat)(mem:List Root) {cs' m},cls os off mem tys cs=some (cs',m)->cs.all V.isC=true/\cs'.length=cs.length/\cs'.all V.isLf=true
|tys,[],off,mem,cs',m,h=>by cases tys<;>simp[cls]at h<;>obtain⟨rfl,_⟩:=h<;>exact⟨rfl,rfl,rfl⟩
|[],_:: _,off,mem,cs',m,h=>by simp[cls]at h
|ty:: tys,c:: cs,off,mem,cs',m,h=>by
 have leaf:∀{c1},c.isC=true->c1.isLf=true->(∃mem',((cls os (off+1) mem' tys cs).bind fun(cs',m)=>some (c1:: cs',m))=some (cs',m))->(c:: cs).all V.isC=true/\cs'.length=(c:: cs).length/\cs'.all V.isLf=true:=by rintro c1 hc hc1 ⟨mem',h⟩;simp only[ygc,Prod.exists,Option.some.injEq,Prod.mk.injEq]at h;obtain⟨cs1,m1,h1,rfl,rfl⟩:=h;obtain⟨g1,g2,g3⟩:=zpo os tys cs (off+1) mem' h1;exact⟨by simp[hc,g1],by simp[g2],by simp[hc1,g3]⟩
 simp only[cls]at h;split at h
 ·split at h
  ·split at h
   ·split at h
    ·split at h
     ·exact leaf rfl rfl ⟨_,h⟩
     ·cases h
    ·cases h
   ·cases h
  ·exact leaf rfl rfl ⟨_,h⟩
  ·cases h
 ·split at h
  ·rename_i c' hc;exact leaf (zwa hc) (ztY hc) ⟨_,h⟩
  ·cases h
theorem zqN(os:OS):∀(tys:List Ty)(cs:List V)(off:Nat)(mem:List Root) {cs' m},zvt os off tys cs=true->cls os off mem tys cs=some (cs',m)->m=mem/\∀mem2,cls os off mem2 tys cs=some (cs',mem2)
|tys,[],off,mem,cs',m,hn,h=>by cases tys<;>simp[cls]at h<;>obtain⟨rfl,rfl⟩:=h<;>exact⟨rfl,fun _=>by simp[cls]⟩
|[],_:: _,off,mem,cs',m,hn,h=>by simp[cls]at h
|ty:: tys,c:: cs,off,mem,cs',m,hn,h=>by
 have leaf:∀{c1},zvt os (off+1) tys cs=true->((cls os (off+1) mem tys cs).bind fun(cs',m)=>some (c1:: cs',m))=some (cs',m)->m=mem/\∀mem2,((cls os (off+1) mem2 tys cs).bind fun(cs',m)=>some (c1:: cs',m))=some (cs',mem2):=by intro c1 hn h;simp only[ygc,Prod.exists,Option.some.injEq,Prod.mk.injEq]at h;obtain⟨cs1,m1,h1,rfl,rfl⟩:=h;obtain⟨g1,g2⟩:=zqN os tys cs (off+1) mem hn h1;exact⟨g1,fun mem2=>by rw[g2 mem2];rfl⟩
 cases ho:os.sub off with
 |none=>
  have hn':zvt os (off+1) tys cs=true:=by simpa only[zvt,ho]using hn
  simp only[cls,ho]at h|-;split at h
  ·exact leaf hn' h
  ·cases h
 |some o=>
  cases ty with
  |lst t=>simp only[zvt,ho]at hn;cases c<;>simp only[reduceCtorEq,yhj]at hn;simp only[cls,ho]at h|-;exact leaf hn h
  |int k|bool|str|nm n=>
   have hn':zvt os (off+1) tys cs=true:=by simpa only[zvt,ho]using hn
   simp only[cls,ho]at h|-;split at h
   ·exact leaf hn' h
   ·cases h
section
variable {J:Nat->Nat}{mem0:List Root}{sm sm':List Ent}{fp:Nat->List Nat}
def zBs(J:Nat->Nat)(fp:Nat->List Nat)(sm':List Ent)(os:OS)(t:Ty)(nxt:Nat)(mem:List Root)(xs:List (TV t))(m:List Root)(rows':List (List AV))(n:Nat):Prop:=
 ∃bs ns ps,Prt J fp bs ns ps/\OwRs sm' os t xs rows' (ps.flatMap fun p=>p.1:: p.2)/\bs.Nodup/\(∀b∈bs,∃x,mem[b]? =some x/\x.alive=true)/\m.length=mem.length/\(∀q,m[q]? =if q∈bs then some .dead else mem[q]?)/\ns=List.range' nxt n
theorem zxC(how:OwA J mem0 sm fp)(hsm:∀i,i<sm.length->sm'[i]? =sm[i]?)(hρ:∀(q:Nat) x,mem0[q]? =some x->x.alive=true->J q<sm.length){dr:Bool}{os:OS}{t:Ty}{cs:List V}{as:List AV}{nxt:Nat}{mem m:List Root}{x:TV t}
 (hmem:∀(q:Nat) x,mem[q]? =some x->x.alive=true->mem0[q]? =some x)(hv:VRL J mem0 cs as)(hc:zwy dr os t mem cs=some (x,m))(hent:∀(k:Nat) e,(cvt os 0 nxt (zjq t) cs as).2[k]? =some e->sm'[nxt+k]? =some e):
 ∃bs ns ps,Prt J fp bs ns ps/\OwCs sm' os 0 (leafs t x) (cvt os 0 nxt (zjq t) cs as).1 (ps.flatMap fun p=>p.1:: p.2)/\bs.Nodup/\(∀b∈bs,∃x,mem[b]? =some x/\x.alive=true)/\m.length=mem.length/\(∀q,m[q]? =if q∈bs then some .dead else mem[q]?)/\ns=List.range' nxt (cvt os 0 nxt (zjq t) cs as).2.length/\
  cs.all V.isC=true/\cs.length=t.sz/\(dr=true->zlz cs=false):=by
 unfold zwy at hc;split at hc
 ·cases hc
 ·rename_i e0;simp only[ygc,Prod.exists,Option.some.injEq,Prod.mk.injEq]at hc;obtain⟨cs',m',h1,x',h2,rfl,rfl⟩:=hc;obtain⟨bs,ns,ps,g1,g2,g3,g4,g5,g6,g7,g8⟩:=zBx how hsm hρ os (zjq t) cs as 0 nxt mem cs' m' hmem hv h1 hent;obtain⟨k1,k2,_⟩:=zpo os _ _ _ _ h1;have e:=zo7 g3 h2;rw[<-e]at g2;refine⟨bs,ns,ps,g1,g2,g4,g5,g6,g7,g8,k1,?_,fun hd=>by subst hd;simpa using e0⟩;rw[<-k2,<-e,zic]
theorem zuz(how:OwA J mem0 sm fp)(hsm:∀i,i<sm.length->sm'[i]? =sm[i]?)(hρ:∀(q:Nat) x,mem0[q]? =some x->x.alive=true->J q<sm.length){dr:Bool}{os:OS}{t:Ty}:∀{css:List (List V)}{ass:List (List AV)}{nxt:Nat}{mem m:List Root}{xs:List (TV t)},(∀(q:Nat) x,mem[q]? =some x->x.alive=true->mem0[q]? =some x)->VRs J mem0 css ass->zk5 dr os t mem css=some (xs,m)->(∀(k:Nat) e,(cvtR os (zjq t) nxt css ass).2[k]? =some e->sm'[nxt+k]? =some e)->
 zBs J fp sm' os t nxt mem xs m (cvtR os (zjq t) nxt css ass).1 (cvtR os (zjq t) nxt css ass).2.length/\(∀cs∈css,cs.all V.isC=true/\cs.length=t.sz/\(dr=true->zlz cs=false))/\xs.length=css.length
 |_,_,nxt,mem,m,xs,hmem,.nil,hc,hent=>by simp only[zk5,Option.some.injEq,Prod.mk.injEq]at hc;obtain⟨rfl,rfl⟩:=hc;exact⟨⟨[],[],[],.nil,.nil,List.nodup_nil,by simp,rfl,by simp,rfl⟩,by simp,rfl⟩
 |_,_,nxt,mem,m,xs,hmem,.cons (cs:=cs) (as:=as) (css:=css) (ass:=ass) hv hs,hc,hent=>by
  simp only[zk5,ygc,Prod.exists,Option.some.injEq,Prod.mk.injEq]at hc;obtain⟨x,m1,h1,xs',m2,h2,rfl,rfl⟩:=hc;simp only[cvtR]at hent|-;obtain⟨bs,ns,ps,g1,g2,g3,g4,g5,g6,g7,g8,g9,g10⟩:=zxC how hsm hρ (nxt:=nxt) hmem hv h1 fun k e hk=>hent k e (by rw[yge (yga.1 hk).1];exact hk)
  have hmem1:∀(q:Nat) x,m1[q]? =some x->x.alive=true->mem[q]? =some x/\q∉bs:=fun q x hq hx=>by
   rw[g6]at hq;split at hq
   ·cases hq;cases hx
   ·rename_i e;exact⟨hq,e⟩
  obtain⟨⟨bs',ns',ps',k1,k2,k3,k4,k5,k6,k7⟩,k8,k9⟩:=zuz how hsm hρ (nxt:=nxt+(cvt os 0 nxt (zjq t) cs as).2.length) (fun q x hq hx=>hmem q x (hmem1 q x hq hx).1 hx) hs h2 fun k e hk=>by have:=hent ((cvt os 0 nxt (zjq t) cs as).2.length+k) e (by rw[ygf (by omega)];simpa using hk);rw[<-Nat.add_assoc]at this;exact this
  refine⟨⟨bs++bs',ns++ns',ps++ps',g1.append k1,?_,?_,?_,by rw[k5,g5],fun q=>?_,?_⟩,fun cs' hcs=>?_,by simp[k9]⟩
  ·rw[List.flatMap_append];exact .cons g2 k2
  ·refine List.nodup_append.2 ⟨g3,k3,fun b hb b' hb' e=>?_⟩;subst e;obtain⟨x',hx',hxa⟩:=k4 b hb';exact(hmem1 b x' hx' hxa).2 hb
  ·intro b hb;rcases List.mem_append.1 hb with hb|hb
   ·exact g4 b hb
   ·obtain⟨x',hx',hxa⟩:=k4 b hb;exact⟨x',(hmem1 b x' hx' hxa).1,hxa⟩
  ·rw[k6 q,g6 q];by_cases e1:q∈bs'<;>by_cases e2:q∈bs<;>simp[e1,e2]
  ·rw[g7,k7,yhr,List.range'_append_1]
  ·rcases List.mem_cons.1 hcs with rfl|hcs
   ·exact⟨g8,g9,g10⟩
   ·exact k8 cs' hcs
end
section
variable {J:Nat->Nat}{T:TS}{st:St}
theorem zdT(a n:Nat):(List.range' a n).Nodup:=List.nodup_range'
theorem TR.close{r j:Nat}{t:Ty}{xs:List (TV t)}{os:OS}{cs:List V}{x:TV t}{m:List Root}(h:TR J T st)(hr:T.mem[r]? =some (.arr t xs (.op os j cs)))(hc:zwy false os t (T.mem.set r .dead) cs=some (x,m)):
 ∃st2,Gh st st2/\TR J ⟨T.env,m.set r (.arr t (xs.set j x) (.cl os))⟩ st2:=by
 obtain⟨fp,how⟩:=h.ow;obtain⟨pre,x0,post,rpre,row,rpost,fp1,fp2,e1,e2,h0,e3,h1,h2,e4,h3,h4,h5⟩:=how.rel r t xs _ hr;have hrl:=(yga.1 hr).1;have hil:=(yga.1 h0).1;have g:=Gh.cvt os (zjq t) cs row 0 (q:=j) [] h3 h0 (by rw[<-e3];simp);simp only[List.nil_append]at g;have zgb:(rpre++row:: rpost).set j (Go.Fw.cvt os 0 st.mem.length (zjq t) cs row).1=rpre++(Go.Fw.cvt os 0 st.mem.length (zjq t) cs row).1:: rpost:=by rw[<-e3,List.set_append_right _ _ (Nat.le_refl _),Nat.sub_self];rfl
 rw[zgb]at g;refine⟨_,g,?_⟩;have hmem:∀(q:Nat) x,(T.mem.set r .dead)[q]? =some x->x.alive=true->T.mem[q]? =some x/\q≠r:=fun q x hq hx=>by
  rw[List.getElem?_set]at hq;split at hq
  ·rename_i e;first
    | (cases hq;cases hx;done)
    | (split at hq
       ·cases hq;cases hx
       ·cases hq)
  ·rename_i e;exact⟨hq,fun e'=>e e'.symm⟩
 obtain⟨bs,ns,ps,q1,q2,q3,q4,q5,q6,q7,q8,q9,_⟩:=zxC (sm':=st.mem++(Go.Fw.cvt os 0 st.mem.length (zjq t) cs row).2) how (fun i hi=>yge hi) h.lt (nxt:=st.mem.length) (fun q x hq hx=>(hmem q x hq hx).1) h3 hc
  (fun k e hk=>by rw[ygf (by omega),Nat.add_sub_cancel_left];exact hk)
 have halive:∀b∈bs,b≠r/\∃x,T.mem[b]? =some x/\x.alive=true:=fun b hb=>by obtain⟨y,hy,hya⟩:=q4 b hb;exact⟨(hmem b y hy hya).2,y,(hmem b y hy hya).1,hya⟩
 have hns:∀n∈ns,st.mem.length<=n:=fun n hn=>by rw[q7]at hn;exact(List.mem_range'_1.1 hn).1
 have hnd:=q1.nodup how h.inj h.lt q3 (fun b hb=>(halive b hb).2) (by rw[q7];exact zdT _ _) hns;have hpm:=q1.mem;generalize ps.flatMap (fun p=>p.1:: p.2)=parts at *;have hne:∀i∈parts,i≠J r:=fun i hi e=>by
  rcases hpm i hi with⟨b,hb,g1⟩|g1
  ·obtain⟨g2,y,g3,g4⟩:=halive b hb;rcases g1 with g1|g1
   ·exact g2 (h.inj b r y _ g3 g4 hr rfl (by rw[<-g1,e]))
   ·exact how.rt r b _ hr rfl (by rw[<-e];exact g1)
  ·have:=hns i g1;omega
 have hfr:∀i,i∈fp r->(st.mem.set (J r) (.arr t.sz (rpre++(Go.Fw.cvt os 0 st.mem.length (zjq t) cs row).1:: rpost))++(Go.Fw.cvt os 0 st.mem.length (zjq t) cs row).2)[i]? =st.mem[i]?:=fun i hi=>by rw[yge (by rw[List.length_set];exact how.lt r i hi),ygg (fun e=>how.rt r r _ hr rfl (by rw[e];exact hi))]
 have key:=TR.absorb (ρ':=J) (r:=r) (xs:=xs.set j x) (w:=.cl os) (bs:=bs) (L:=fp1++(parts++fp2)) (mem':=m.set r (.arr t (xs.set j x) (.cl os))) (sm':=st.mem.set (J r) (.arr t.sz (rpre++(Go.Fw.cvt os 0 st.mem.length (zjq t) cs row).1:: rpost))++(Go.Fw.cvt os 0 st.mem.length (zjq t) cs row).2) (d:=none) (v:=.junk) (a:=.junk) h how halive
  (.inr ⟨xs,_,hr,by simp,rfl⟩) (fun _ _=>rfl) (fun q=>?_) (fun i hi h1 _=>?_) ?_ (fun i hi=>?_) ?_ trivial
 ·exact key
 ·by_cases e:q=r
  ·subst e;rw[if_pos rfl,List.getElem?_set_self (by rw[q5,List.length_set];exact hrl)]
  ·rw[if_neg e,ygg (fun h=>e h.symm),q6 q,ygg (fun h=>e h.symm)]
 ·rw[yge (by rw[List.length_set];exact hi),ygg (fun e=>h1 hrl e.symm)]
 ·have hnr:=how.nd r;rw[e4]at hnr;obtain⟨n1,n2,n3⟩:=List.nodup_append.1 hnr;have hdj:∀i∈parts,i∉fp r:=fun i hi hir=>by
   rcases hpm i hi with⟨b,hb,g1⟩|g1
   ·obtain⟨g2,y,g3,g4⟩:=halive b hb;rcases g1 with g1|g1
    ·exact how.rt b r y g3 g4 (by rw[<-g1];exact hir)
    ·exact how.dj b r g2 i g1 hir
   ·have:=hns i g1;have:=how.lt r i hir;omega
  refine List.nodup_append.2 ⟨n1,List.nodup_append.2 ⟨hnd,n2,fun i hi i' hi' e=>?_⟩,fun i hi i' hi' e=>?_⟩
  ·subst e;exact hdj i hi (by rw[e4];simp[hi'])
  ·subst e;rcases List.mem_append.1 hi' with hi'|hi'
   ·exact hdj i hi' (by rw[e4];simp[hi])
   ·exact n3 i hi i hi' rfl
 ·simp only[List.mem_append]at hi;rcases hi with hi|hi|hi
  ·exact .inr (.inl (by rw[e4];simp[hi]))
  ·rcases hpm i hi with g1|g1
   ·exact .inl g1
   ·exact .inr (.inr ⟨hns i g1,hne i hi⟩)
  ·exact .inr (.inl (by rw[e4];simp[hi]))
 ·refine⟨rpre++(Go.Fw.cvt os 0 st.mem.length (zjq t) cs row).1:: rpost,?_,?_⟩
  ·rw[yge (by rw[List.length_set];exact hil),List.getElem?_set_self hil]
  ·have ex:xs.set j x=pre++x:: post:=by rw[e1,e2,List.set_append_right _ _ (Nat.le_refl _),Nat.sub_self];rfl
   rw[ex];refine OwRs.append (h1.frame fun i hi=>hfr i (by rw[e4];simp[hi])) (.cons (q2.frame fun i hi=>?_) (h2.frame fun i hi=>hfr i (by rw[e4];simp[hi])));by_cases hlt:i<st.mem.length
   ·rw[yge (by rw[List.length_set];exact hlt),ygg (fun e=>hne i hi e.symm),yge hlt]
   ·rw[ygf (by rw[List.length_set];omega),ygf (by omega),List.length_set]
theorem zn3(h:TR J T st)(r:Nat):∃st2,Gh st st2/\TR J ⟨T.env,zqM T.mem r⟩ st2:=by
 unfold zqM;split
 ·rename_i t xs os j cs hr;split
  ·rename_i x m hc;exact h.close hr hc
  ·exact⟨st,.refl _,h⟩
 ·exact⟨st,.refl _,h⟩
theorem zhR(refs:List Nat):∀(n:Nat){T:TS}{st:St},TR J T st->∃st2,Gh st st2/\TR J ⟨T.env,zn2 refs n T.mem⟩ st2
|0,T,st,h=>⟨st,.refl _,h⟩
|n+1,T,st,h=>by
 unfold zn2;split
 ·exact zhR refs n h
 ·obtain⟨st1,g1,h1⟩:=zn3 h n;obtain⟨st2,g2,h2⟩:=zhR refs n h1;exact⟨st2,g1.trans g2,h2⟩
end
end Go.Fw
namespace Go.Fw
open Go
variable [Pin]
theorem zn5{J:Nat->Nat}{mem:List Root}(os:OS)(tys:List Ty):∀{css:List (List V)}{ass:List (List AV)},VRs J mem css ass->(∀cs∈css,zlz cs=false)->∀nxt,cvtR os tys nxt css ass=(ass,[])
|_,_,.nil,_,nxt=>rfl
|_,_,.cons h hs,hc,nxt=>by simp only[cvtR];rw[zqO os tys _ _ 0 nxt (hc _ (by simp))];simp only[yht,Nat.add_zero,List.nil_append];rw[zn5 os tys hs (fun cs hcs=>hc cs (by simp[hcs])) nxt]
theorem VRs.len{J:Nat->Nat}{mem:List Root}:∀{css:List (List V)}{ass:List (List AV)},VRs J mem css ass->ass.length=css.length
|_,_,.nil=>rfl
|_,_,.cons _ hs=>by simp[hs.len]
section
variable {J:Nat->Nat}{T:TS}{st:St}{ρt:Type}{res:ρt}{an:An}{dr:Bool}{κ:V->List Root->Option ρt}
theorem zoV{k:K}{d:Option Nat}{os:OS}{t:Ty}{css:List (List V)}{ass:List (List AV)}{xs:List (TV t)}{m:List Root}{p:Prop}(h:TR J T st)(hv:VRs J T.mem css ass)(hc:zk5 dr os t T.mem css=some (xs,m))
 (he:evK k st.env st.mem=some (p,.ms st.mem.length t.sz 0 ass.length,st.mem++[.arr t.sz ass]))(hp:p):zec J dr k d T st (.own m.length) (m++[.arr t xs (.cl os)]):=by
 obtain⟨fp,how⟩:=h.ow;let st1:St:=⟨put st.env d (.ms st.mem.length t.sz 0 ass.length),st.mem++[.arr t.sz ass]⟩
 have g:=Gh.cvtR os (zjq t) hv (st:=st1) (i:=st.mem.length) (n:=t.sz) [] (by simp[st1]);simp only[st1,List.nil_append,yhr,List.length_singleton]at g;have hs1:(st.mem++[Ent.arr t.sz ass]).set st.mem.length (.arr t.sz (Go.Fw.cvtR os (zjq t) (st.mem.length+1) css ass).1)=st.mem++[.arr t.sz (Go.Fw.cvtR os (zjq t) (st.mem.length+1) css ass).1]:=by rw[List.set_append_right _ _ (Nat.le_refl _),Nat.sub_self];rfl
 rw[hs1]at g;obtain⟨⟨bs,ns,ps,q1,q2,q3,q4,q5,q6,q7⟩,q8,q9⟩:=zuz (sm':=(st.mem++[.arr t.sz (Go.Fw.cvtR os (zjq t) (st.mem.length+1) css ass).1])++(Go.Fw.cvtR os (zjq t) (st.mem.length+1) css ass).2) how
  (fun i hi=>by rw[List.append_assoc,yge hi]) h.lt (nxt:=st.mem.length+1) (fun q x hq _=>hq) hv hc
  (fun k e hk=>by rw[ygf (by simp)];simpa using hk)
 have hns:∀n∈ns,st.mem.length+1<=n:=fun n hn=>by rw[q7]at hn;exact(List.mem_range'_1.1 hn).1
 have hnd:=q1.nodup how h.inj h.lt q3 q4 (by rw[q7];exact zdT _ _) (fun n hn=>by have:=hns n hn;omega);have hpm:=q1.mem;have hal:∀b∈bs,b≠T.mem.length/\∃x,T.mem[b]? =some x/\x.alive=true:=fun b hb=>by obtain⟨x,hx,hxa⟩:=q4 b hb;have:=(yga.1 hx).1;exact⟨by omega,x,hx,hxa⟩
 refine⟨p,_,_,he,hp,_,ext J T.mem.length st.mem.length,g,fun hd=>⟨?_,zej⟩,?_⟩
 ·rw[zn5 os (zjq t) hv (fun cs hcs=>(q8 cs hcs).2.2 hd)];simp
 ·have er:ext J T.mem.length st.mem.length T.mem.length=st.mem.length:=by simp[ext]
  refine TR.absorb (r:=T.mem.length) (xs:=xs) (w:=.cl os) (bs:=bs) (L:=ps.flatMap fun p=>p.1:: p.2) h how hal (.inl ⟨rfl,by rw[er];exact Nat.le_refl _⟩) (fun q hq=>by simp[ext,hq]) (fun q=>?_) (fun i hi _ _=>by rw[List.append_assoc,yge hi]) hnd (fun i hi=>?_) ?_ ?_
  ·by_cases e:q=T.mem.length
   ·subst e;rw[if_pos rfl,<-q5,List.getElem?_concat_length]
   ·rw[if_neg e];by_cases hlt:q<T.mem.length
    ·rw[yge (by rw[q5];exact hlt),q6 q]
    ·rw[List.getElem?_eq_none (by simp;omega)];split
     ·rename_i hb;obtain⟨x,hx,_⟩:=q4 q hb;exact absurd (yga.1 hx).1 hlt
     ·rw[List.getElem?_eq_none (by omega)]
  ·rcases hpm i hi with g1|g1
   ·exact .inl g1
   ·have:=hns i g1;exact .inr (.inr ⟨by omega,by rw[er];omega⟩)
  ·rw[er];exact⟨_,by rw[yge (by simp),List.getElem?_concat_length],q2⟩
  ·simp only[VR,zep];rw[q5,show(m++[Root.arr t xs (.cl os)])[T.mem.length]? =some (.arr t xs (.cl os)) by rw[<-q5,List.getElem?_concat_length]];simp only[er,q9,hv.len]
theorem zy8{es:Nat}{ps:List Ar}{t:Ty}{os:OS}{d:Option Nat}(h:TR J T st)(hnp:zzS ((ps.map fun a=>(arV T.env a).cel).headD [])=true)(hz:t.sz=es){xs:List (TV t)}{m:List Root}(hc:zk5 dr os t T.mem (ps.map fun a=>(arV T.env a).cel)=some (xs,m)):zec J dr (.bslm es ps) d T st (.own m.length) (m++[.arr t xs (.cl os)]):=by
 obtain⟨fp,how⟩:=h.ow;have all:∀(ps:List Ar)(mem:List Root)(xs:List (TV t))(m:List Root),zk5 dr os t mem (ps.map fun a=>(arV T.env a).cel)=some (xs,m)->VRs J T.mem (ps.map fun a=>(arV T.env a).cel) (ps.map fun a=>(ar st.env a).cells)/\(ps.all fun x=>(ar st.env x).cells.length==es&&(ar st.env x).cells.all AV.isCell)=true:=by
  intro ps;induction ps with
  |nil=>intro mem xs m _;exact⟨.nil,rfl⟩
  |cons p ps ih=>
   intro mem xs m hc;simp only[List.map_cons,zk5,ygc,Prod.exists]at hc;obtain⟨x,m1,h1,xs',m2,h2,_⟩:=hc;obtain⟨g1,g2⟩:=ih _ _ _ h2;have hic:(arV T.env p).cel.all V.isC=true/\(arV T.env p).cel.length=t.sz:=by
    unfold zwy at h1;split at h1
    ·cases h1
    ·simp only[ygc,Prod.exists,Option.some.injEq,Prod.mk.injEq]at h1;obtain⟨cs',m',h3,x',h4,rfl,rfl⟩:=h1;obtain⟨k1,k2,k3⟩:=zpo os _ _ _ _ h3;exact⟨k1,by rw[<-k2,<-zo7 k3 h4,zic]⟩
   have hv:=(h.ar p).cel hic.1;exact⟨.cons hv g1,by simp only[List.all_cons,yhb,yhe];exact⟨⟨by rw[hv.len,hic.2,hz],hv.cells hic.1⟩,by simpa using g2⟩⟩
 obtain⟨g1,g2⟩:=all ps _ _ _ hc;refine zoV (p:=(ps.all fun x=>(ar st.env x).cells.length==es&&(ar st.env x).cells.all AV.isCell)=true/\(np1 ((ps.map fun x=>(ar st.env x).cells).headD []) ||es !=2&&hd1 AV.n8 ((ps.map fun x=>(ar st.env x).cells).headD []))=true) h g1 hc (by simp only[evK,hz,List.length_map]) ⟨g2,?_⟩;cases ps with
 |nil=>rfl
 |cons p ps=>
  cases g1 with
  |cons hv _=>have:=zng hnp hv;simp only[List.map_cons,List.headD_cons]at this|-;rw[this];rfl
theorem zAW{es:Nat}{zs:List AV}{l:Ar}{t:Ty}{os:OS}{d:Option Nat}(h:TR J T st)(he:evT dr (.o t os) (.mks es zs l) T.env T.mem κ =some res):∃v m,κ v m=some res/\zec J dr (.mks es zs l) d T st v m:=by
 have h1:=h.ar l;simp only[evT]at he;split at he
 ·cases he
 ·rename_i hd;simp only[Bool.or_eq_false_iff,yhp]at hd;obtain⟨rfl,hn⟩:=hd;split at he
  ·rename_i hz;split at he
   ·rename_i k n e;rw[e]at h1;simp only[VR]at h1;obtain⟨g0,he⟩:=zaG he;simp only[yhb,yhc]at g0;simp only[ygc,Prod.exists]at he;obtain⟨z,m',hzz,he⟩:=he;have one:∀mem2,zwy false os t mem2 (zgq zs)=some (z,mem2):=by unfold zwy at hzz|-;simp only[Bool.false_and]at hzz|-;simp only[ygc,Prod.exists,Option.some.injEq,Prod.mk.injEq]at hzz;obtain⟨cs',m1,h3,x',h4,rfl,rfl⟩:=hzz;obtain⟨_,g2⟩:=zqN os _ _ _ _ hn h3;intro mem2;rw[g2 mem2];simp[h4]
    have rows:∀n,zk5 false os t T.mem (List.replicate n (zgq zs))=some (List.replicate n z,T.mem):=by
     intro n;induction n with
     |zero=>rfl
     |succ n ih=>simp only[List.replicate_succ,zk5,one,Option.bind_some,ih]
    have vrs:∀n,VRs J T.mem (List.replicate n (zgq zs)) (List.replicate n zs):=by
     intro n;induction n with
     |zero=>exact .nil
     |succ n ih=>exact .cons (zgh _ _ _) ih
    refine⟨_,_,he,zoV h (vrs n.toNat) (rows n.toNat) (p:=0<=n/\n<=LIM) (by simp only[evK,h1,hz,List.length_replicate]) g0⟩
   ·cases he
  ·cases he
theorem zAL{es:Nat}{x y:Ar}{t:Ty}{os:OS}{d:Option Nat}(h:TR J T st)(he:evT dr (.o t os) (.app es x y) T.env T.mem κ =some res):∃v m,κ v m=some res/\zec J dr (.app es x y) d T st v m:=by
 have h1:=h.ar x;have h2:=h.ar y;obtain⟨fp,how⟩:=h.ow;simp only[evT]at he;split at he
 ·cases he
 rename_i ht8;split at he
 ·rename_i hz;split at he
  ·rename_i q ey;rw[ey]at h2;split at he
   ·rename_i t1 ys os1 eq;simp only[VR,zep,eq]at h2;split at he
    ·rename_i ht;subst ht;split at he
     ·rename_i ho;have ho:=OS.eqB_eq ho;subst ho;obtain⟨rows,hi,hrs⟩:=how.rel q _ _ _ eq;have hql:=(yga.1 eq).1;have hil:=(yga.1 hi).1;have hrow:zbP st.mem es (ar st.env y)=some rows:=by rw[h2];simp only[zbP,hi,hz,yhn,Nat.zero_add,List.drop_zero];rw[if_pos (by rw[hrs.len];exact Nat.le_refl _),List.take_of_length_le (by rw[hrs.len];exact Nat.le_refl _)]
      have er:ext J T.mem.length st.mem.length T.mem.length=st.mem.length:=by simp[ext]
      split at he
      ·rename_i e;rw[e]at h1;simp only[VR]at h1;obtain⟨g0,he⟩:=zaG he;refine⟨_,_,he,zec.mk (ρ':=ext J T.mem.length st.mem.length) (by simp only[evK,hrow,h1,zdJ];rfl) (And.intro (by rw[hrs.len];simpa using g0) (hrs.np ht8)) ?_ zej⟩;refine TR.absorb (r:=T.mem.length) (xs:=ys) (w:=.cl os1) (bs:=[q]) (L:=fp q) h how (fun b hb=>?_) (.inl ⟨rfl,by rw[er];exact Nat.le_refl _⟩) (fun q hq=>by simp[ext,hq]) (fun k=>?_) (fun i hi _ _=>by rw[yge hi]) (how.nd q) (fun i hi=>.inl ⟨q,by simp,.inr hi⟩) ?_ ?_
       ·simp only[List.mem_singleton]at hb;subst hb;exact⟨by omega,_,eq,rfl⟩
       ·by_cases e:k=T.mem.length
        ·subst e;rw[if_pos rfl,ygf (by simp)];simp
        ·rw[if_neg e];by_cases hlt:k<T.mem.length
         ·rw[yge (by simpa using hlt),List.getElem?_set];by_cases e2:q=k
          ·subst e2;simp[hql]
          ·simp[e2];intro h;exact absurd h.symm e2
         ·rw[List.getElem?_eq_none (by simp;omega),List.getElem?_eq_none (by omega)];simp only[List.mem_singleton];split
          ·omega
          ·rfl
       ·rw[er];exact⟨rows,by rw[ygf (Nat.le_refl _),Nat.sub_self,hz];rfl,hrs.frame fun i hi=>yge (how.lt q i hi)⟩
       ·simp only[VR,zep];rw[ygf (by simp)];simp only[List.length_set,Nat.sub_self,List.getElem?_cons_zero,er,hz,hrs.len]
      ·rename_i r e;rw[e]at h1;split at he
       ·cases he
       ·rename_i hne;have hne:r≠q:=Nat.ne_of_beq_eq_false hne;split at he
        ·rename_i t2 xs os2 er2;simp only[VR,zep,er2]at h1;split at he
         ·rename_i ht;subst ht;split at he
          ·rename_i ho;have ho:=OS.eqB_eq ho;subst ho;obtain⟨g0,he⟩:=zaG he;obtain⟨rowsx,hix,hrx⟩:=how.rel r _ _ _ er2;have hrl:=(yga.1 er2).1;have hixl:=(yga.1 hix).1;have hgot:∀i∈fp r++fp q,(st.mem.set (J r) .dead++[Ent.arr es (rowsx++rows)])[i]? =st.mem[i]?:=fun i hi=>by
            have hl:i<st.mem.length/\i≠J r:=by
             rcases List.mem_append.1 hi with hi|hi
             ·exact⟨how.lt r i hi,fun e=>how.rt r r _ er2 rfl (by rw[<-e];exact hi)⟩
             ·exact⟨how.lt q i hi,fun e=>how.rt r q _ er2 rfl (by rw[<-e];exact hi)⟩
            rw[yge (by rw[List.length_set];exact hl.1),ygg (fun e=>hl.2 e.symm)]
           rw[hz]at hix hi h1;refine⟨_,_,he,zec.mk (ρ':=ext J T.mem.length st.mem.length) (by simp only[evK,hrow,h1,zdJ,hix];rfl) (by simpa using zpf (sn:=true) (rows:=rowsx) (ys:=rows) xs.length hrx.len (by rw[hrs.len];simpa using g0) (OwRs.np ht8 (hrx.append hrs)) rfl) ?_ zej⟩;rw[List.take_of_length_le (by rw[hrx.len];exact Nat.le_refl _)];refine TR.absorb (r:=T.mem.length) (xs:=xs++ys) (w:=.cl os2) (bs:=[r,q]) (L:=fp r++fp q) h how (fun b hb=>?_) (.inl ⟨rfl,by rw[er];exact Nat.le_refl _⟩) (fun q hq=>by simp[ext,hq]) (fun k=>?_) (fun i hi _ hb=>by rw[yge (by rw[List.length_set];exact hi),ygg (fun e=>hb r (by simp) e.symm)]) ?_ (fun i hi=>?_) ?_ ?_
           ·simp only[List.mem_cons,List.not_mem_nil,or_false]at hb;rcases hb with rfl|rfl
            ·exact⟨by omega,_,er2,rfl⟩
            ·exact⟨by omega,_,eq,rfl⟩
           ·by_cases e:k=T.mem.length
            ·subst e;rw[if_pos rfl,ygf (by simp)];simp
            ·rw[if_neg e];by_cases hlt:k<T.mem.length
             ·rw[yge (by simpa using hlt),List.getElem?_set];by_cases e2:q=k
              ·subst e2;simp[hql]
              ·rw[if_neg e2,List.getElem?_set];by_cases e3:r=k
               ·subst e3;simp[hrl]
               ·rw[if_neg e3,if_neg (by simp only[List.mem_cons,List.not_mem_nil,or_false];omega)]
             ·rw[List.getElem?_eq_none (by simp;omega),List.getElem?_eq_none (by omega)];simp only[List.mem_cons,List.not_mem_nil,or_false];split
              ·omega
              ·rfl
           ·exact List.nodup_append.2 ⟨how.nd r,how.nd q,fun i hi j hj e=>how.dj r q hne i hi (by rw[e];exact hj)⟩
           ·rcases List.mem_append.1 hi with hi|hi
            ·exact .inl ⟨r,by simp,.inr hi⟩
            ·exact .inl ⟨q,by simp,.inr hi⟩
           ·rw[er];refine⟨rowsx++rows,by rw[ygf (by rw[List.length_set];exact Nat.le_refl _),List.length_set,Nat.sub_self,hz];rfl,?_⟩;exact OwRs.append (hrx.frame fun i hi=>hgot i (by simp[hi])) (hrs.frame fun i hi=>hgot i (by simp[hi]))
           ·simp only[VR,zep];rw[ygf (by simp)];simp only[List.length_set,Nat.sub_self,List.getElem?_cons_zero,er,hz,hrs.len,yhr]
          ·cases he
         ·cases he
        ·cases he
      ·cases he
     ·cases he
    ·cases he
   ·cases he
  ·cases he
 ·cases he
end
end Go.Fw
namespace Go.Fw
open Go
variable [Pin]
theorem zri:∀{mem:List Root}{r:Nat}{t:Ty}{xs:List (TV t)}{w:Ow},noOw mem=true->mem[r]? =some (.arr t xs w)->w=.no
|[],r,t,xs,w,_,h=>by simp at h
|x:: mem,0,t,xs,w,hn,h=>by simp at h;subst h;cases w<;>simp[noOw]at hn|-
|x:: mem,r+1,t,xs,w,hn,h=>by
 refine zri (mem:=mem) (r:=r) ?_ (by simpa using h);cases x with
 |dead=>exact hn
 |arr _ _ w'=>cases w'<;>simp[noOw]at hn|-;exact hn
 |box _ _=>exact hn
section
variable {J:Nat->Nat}{T:TS}{st:St}{ρt:Type}{res:ρt}{an:An}{dr:Bool}{κ:V->List Root->Option ρt}
theorem zof{k:K}{d:Option Nat}(h:TR J T st)(hd:an≠.no->d≠none)(he:evT dr an k T.env T.mem κ =some res):∃v m,κ v m=some res/\zec J dr k d T st v m/\(zg8 [] k=true->noOw T.mem=true->m=T.mem):=by
 have pur:(∃v,κ v T.mem=some res/\ze8 J k T st v)->∃v m,κ v m=some res/\zec J dr k d T st v m/\(zg8 [] k=true->noOw T.mem=true->m=T.mem):=fun⟨v,h1,h2⟩=>⟨v,_,h1,h2.toM h,fun _ _=>rfl⟩
 have imp:(∃v m,κ v m=some res/\zec J dr k d T st v m)->(zg8 [] k=true->noOw T.mem=true->False)->∃v m,κ v m=some res/\zec J dr k d T st v m/\(zg8 [] k=true->noOw T.mem=true->m=T.mem):=fun⟨v,m,h1,h2⟩ hp=>⟨v,m,h1,h2,fun e e'=>(hp e e').elim⟩
 have npu:zg8 [] k=false->zg8 [] k=true->noOw T.mem=true->False:=fun e e'=>by rw[e]at e';cases e'
 have mpc:∀x,(∀r row off t xs w,arV T.env x=.mp r row off->T.mem[r]? =some (.arr t xs w)->w=.no)\/∃r row off t xs w,arV T.env x=.mp r row off/\T.mem[r]? =some (.arr t xs w)/\w≠.no:=by
  intro x;by_cases hx:∃r row off t xs w,arV T.env x=.mp r row off/\T.mem[r]? =some (.arr t xs w)/\w≠.no
  ·exact .inr hx
  ·exact .inl fun r row off t xs w h1 h2=>Classical.byContradiction fun h3=>hx ⟨r,row,off,t,xs,w,h1,h2,h3⟩
 cases k with
 |mv x=>
  by_cases hn:∃t,x=.c .e0/\an=.t (.lst t)/\dr=false
  ·obtain⟨t,rfl,rfl,rfl⟩:=hn;exact imp (zwB h (hd (by simp)) rfl rfl he) (npu rfl)
  ·by_cases hn':∃t os,x=.c .e0/\an=.o t os/\dr=false
   ·obtain⟨t,os,rfl,rfl,rfl⟩:=hn';exact imp (zwB h (hd (by simp)) rfl rfl he) (npu rfl)
   ·exact pur (zD2 h he (fun t ht=>hn ⟨t,ht⟩) fun t os ht=>hn' ⟨t,os,ht⟩)
 |pick c a b=>exact pur (zAY h he)
 |boxi n x=>exact pur (zAN h he)
 |mmk=>exact imp (zCe h he) (npu rfl)
 |mup m x y=>exact imp (zCf h he) (npu rfl)
 |mlk x y=>exact pur (zCd h he)
 |boxm n x=>exact imp (zAO h he) (npu rfl)
 |alloc zs=>exact imp (zy7 h he) (npu rfl)
 |build zs ps=>exact pur (zy9 h he)
 |buildo p es zs ps=>exact imp (zwA h he) (npu rfl)
 |bsl es ps=>exact pur (zB7 h he)
 |bsl0=>exact imp (zAP h hd he) (npu rfl)
 |bslm es ps=>
  refine imp ?_ (npu rfl);by_cases ho:∃t os,an=.o t os
  ·obtain⟨t,os,rfl⟩:=ho;simp only[evT]at he;split at he
   ·rename_i hnp;split at he
    ·rename_i hz;simp only[ygc,Prod.exists]at he;obtain⟨xs,m,h1,h2⟩:=he;exact⟨_,_,h2,zy8 h hnp hz h1⟩
    ·cases he
   ·cases he
  ·exact zAQ h (fun t os e=>ho ⟨t,os,e⟩) he
 |load n x=>
  rcases mpc x with hx|⟨r,row,off,t,xs,w,h1,h2,h3⟩
  ·exact pur (zAU h hx he)
  ·exact imp (zzb h h1 h2 h3 he) fun _ hn=>h3 (zri hn h2)
 |store n a x=>
  refine imp ?_ (npu rfl);rcases mpc a with hx|⟨r,row,off,t,xs,w,h1,h2,h3⟩
  ·exact zzc h hx he
  ·exact zwC h h1 h2 h3 he
 |nilc x=>exact pur (zAX h he)
 |bin op x y=>exact pur (zB6 h he)
 |beq op x y=>exact pur (zB5 h he)
 |not x=>exact pur (zCh h he)
 |isn ne x=>exact pur (zCb h he)
 |neg x=>exact pur (zCg h he)
 |conv k x=>exact pur (zAR h he)
 |b2s x=>exact pur (zB4 h he)
 |s2b x=>exact pur (zCi h he)
 |sub x lo hi=>exact pur (zCk h he)
 |slc es x lo hi=>exact pur (zCj h he)
 |fa off x=>exact pur (zD0 h he)
 |field off n x=>exact pur (zza h he)
 |ia es x i=>exact pur (zD1 h he)
 |idx x i=>exact pur (zCa h he)
 |lens x=>exact pur (zAT h he)
 |lenl x=>exact pur (zAS h he)
 |app es x y=>
  refine imp ?_ (npu rfl);by_cases ho:∃t os,an=.o t os
  ·obtain⟨t,os,rfl⟩:=ho;exact zAL h he
  ·exact zB3 h (fun t os e=>ho ⟨t,os,e⟩) he
 |apps x y=>exact imp (zAM h he) (npu rfl)
 |apf es x y=>exact imp (zB2 h he) (npu rfl)
 |eqs op ks x y=>exact pur (zB8 h he)
 |call f xs=>simp[evT]at he
 |callv f xs=>simp[evT]at he
 |ext x i=>exact pur (zB9 h he)
 |mkfn f xs=>exact pur (zAV h he)
 |mks es zs l=>
  refine imp ?_ (npu rfl);by_cases ho:∃t os,an=.o t os
  ·obtain⟨t,os,rfl⟩:=ho;exact zAW h he
  ·exact zCc h (fun t os e=>ho ⟨t,os,e⟩) he
 |mx b x y=>exact pur (zD3 h he)
end
end Go.Fw
namespace Go.Fw
open Go
variable [Pin]
def ImpC(a a':AV):Prop:=Imp a a'/\(a.isCell=true->a'.isCell=true)
theorem ImpC.refl(a:AV):ImpC a a:=⟨Imp.refl a,id⟩
inductive ImpL:List AV->List AV->Prop
|nil:ImpL [] []
|cons {a a' as as'}(h:ImpC a a')(hs:ImpL as as'):ImpL (a:: as) (a':: as')
theorem ImpL.refl:∀as,ImpL as as
|[]=>.nil
|a:: as=>.cons (.refl a) (ImpL.refl as)
theorem ImpL.len{as as':List AV}(h:ImpL as as'):as'.length=as.length:=by
 induction h with
 |nil=>rfl
 |cons _ _ ih=>simp[ih]
theorem ImpL.get{as as':List AV}(h:ImpL as as'):∀(i:Nat) a',as'[i]? =some a'->∃a,as[i]? =some a/\ImpC a a':=by
 induction h with
 |nil=>intro i a' h;simp at h
 |cons h _ ih=>
  intro i a' hi;cases i with
  |zero=>simp at hi;subst hi;exact⟨_,rfl,h⟩
  |succ i=>simpa using ih i a' (by simpa using hi)
theorem ImpC.agg{as as':List AV}(h:ImpL as as'):ImpC (.agg as) (.agg as'):=by
 refine⟨fun H Z x r=>?_,fun h=>by simp at h⟩;cases r with
 |agg hl hc hr=>
  refine .agg (by rw[h.len];exact hl) (fun c hc'=>?_) fun i c v h1 h2=>?_
  ·obtain⟨i,hi⟩:=List.getElem?_of_mem hc';obtain⟨a,g1,g2⟩:=h.get i c hi;exact g2.2 (hc a (ygd g1))
  ·obtain⟨a,g1,g2⟩:=h.get i c h1;exact g2.1 _ _ _ (hr i a v g1 h2)
theorem ImpC.tup{as as':List AV}(h:ImpL as as'):ImpC (.tup as) (.tup as'):=by
 refine⟨fun H Z x r=>?_,fun h=>by simp at h⟩;cases r with
 |tup hl hr=>refine .tup (by rw[h.len];exact hl) fun i c v h1 h2=>?_;obtain⟨a,g1,g2⟩:=h.get i c h1;exact g2.1 _ _ _ (hr i a v g1 h2)
theorem ImpC.fn{f:FuncId}{as as':List AV}(h:ImpL as as'):ImpC (.fn f as) (.fn f as'):=by
 refine⟨fun H Z x r=>?_,fun _=>rfl⟩;cases r with
 |fn hf hl hr=>refine .fn hf (by rw[h.len];exact hl) fun i c v h1 h2=>?_;obtain⟨a,g1,g2⟩:=h.get i c h1;exact g2.1 _ _ _ (hr i a v g1 h2)
 |er h1 h2 h3 hr=>refine .er h1 h2 (by rw[h.len];exact h3) fun i c hi=>?_;obtain⟨a,g1,g2⟩:=h.get i c hi;exact g2.1 _ _ _ (hr i a g1)
theorem ImpC.ip{as as':List AV}(h:ImpL as as'):ImpC (.ip as) (.ip as'):=by
 refine⟨fun H Z x r=>?_,fun _=>rfl⟩;cases r with
 |ip f hH hc hcell hr=>
  refine .ip f hH (by rw[h.len];exact hc) (fun c hc'=>?_) fun j c h1=>?_
  ·obtain⟨i,hi⟩:=List.getElem?_of_mem hc';obtain⟨a,g1,g2⟩:=h.get i c hi;exact g2.2 (hcell a (ygd g1))
  ·obtain⟨a,g1,g2⟩:=h.get j c h1;exact g2.1 _ _ _ (hr j a g1)
theorem ImpC.e0{es:Nat}:ImpC .e0 (.sl es []):=⟨Imp.e0,fun _=>rfl⟩
section
variable {J:Nat->Nat}{mem:List Root}
theorem zqY:∀{cs:List V}{as:List AV}(ts:List Ty),VRL J mem cs as->∃as',VRL J mem (zom cs ts) as'/\ImpL as as'
|[],as,ts,h=>by
 have:zom [] ts=[]:=by cases ts<;>rfl
 rw[this];exact⟨as,h,.refl _⟩
|c:: cs,as,[],h=>by
 have:zom (c:: cs) []=c:: cs:=by cases c<;>rfl
 rw[this];exact⟨as,h,.refl _⟩
|c:: cs,as,t:: ts,h=>by
 simp only[VRL]at h;obtain⟨a,as',rfl,h2,h3⟩:=h;obtain⟨bs,q1,q2⟩:=zqY ts h3;by_cases hh:∃t',c=.e0/\t=.lst t'
 ·obtain⟨t',rfl,rfl⟩:=hh;simp only[VR]at h2;subst h2;exact⟨.sl t'.sz []:: bs,.cons (by simp[VR]) q1,.cons .e0 q2⟩
 ·have e:zom (c:: cs) (t:: ts)=c:: zom cs ts:=by
   cases c with
   |e0=>cases t with
    |lst t'=>exact absurd ⟨t',rfl,rfl⟩ hh
    |_=>rfl
   |_=>rfl
  rw[e];exact⟨a:: bs,.cons h2 q1,.cons (.refl _) q2⟩
mutual
theorem zub:∀(s:Sh)(x y:Dat s),s.hasD=false->mkV s x=mkV s y
|.int _,_,_,h|.bool,_,_,h|.str,_,_,h|.lst _,_,_,h|.st _,_,_,h|.ep _,_,_,h|.mpa _ _,_,_,h|.part _,_,_,h=>by simp[Sh.hasD]at h
|.agg ss,x,y,h|.tup ss,x,y,h|.ip ss,x,y,h|.fn _ ss,x,y,h=>by simp only[mkV];rw[zm8 ss x y (by simpa[Sh.hasD]using h)]
|.own _,_,_,_|.mpb _ _,_,_,_|.e0,_,_,_|.nl _,_,_,_|.nilp,_,_,_|.nilf,_,_,_|.no,_,_,_=>rfl
theorem zm8:∀(ss:List Sh)(x y:DatL ss),Sh.hasDL ss=false->mkVL ss x=mkVL ss y
|[],_,_,_=>rfl
|s:: ss,x,y,h=>by simp only[Sh.hasDL,Bool.or_eq_false_iff]at h;simp only[mkVL];rw[zub s _ (df s) h.1,zub s (DP.g1 s.hasD (Sh.hasDL ss) (df s) y) (df s) h.1,zm8 ss _ (dfL ss) h.2,zm8 ss (DP.g2 s.hasD (Sh.hasDL ss) (dfL ss) y) (dfL ss) h.2]
end
theorem zkX(s:Sh)(ss:List Sh)(x:Dat s)(y:DatL ss):mkVL (s:: ss) (DP.mk s.hasD (Sh.hasDL ss) x y)=mkV s x:: mkVL ss y:=by
 simp only[mkVL];have h1:=zub s;have h2:=zm8 ss;generalize s.hasD=a at h1;generalize Sh.hasDL ss=b at h2;cases a<;>cases b<;>simp only[DP.g1,DP.g2,DP.mk]
 ·rw[h1 (df s) x rfl]
 ·rw[h1 (df s) x rfl]
 ·rw[h2 (dfL ss) y rfl]
mutual
theorem zpO:∀(s:Sh)(v:V)(d:Dat s)(a:AV),zdH s v=some d->VR J mem v a->∃a',VR J mem (mkV s d) a'/\ImpC a a'/\(okE s v=true->a'=a)
|.lst t,v,d,a,h,hv=>by
 cases v with
 |e0=>simp only[VR]at hv;subst hv;simp only[zdH,Option.some.injEq]at h;subst h;exact⟨.sl t.sz [],by simp[mkV,VR],.e0,fun h=>by simp[okE]at h⟩
 |_=>simp only[zdH]at h;have:=zag hv h;refine⟨a,?_,.refl _,fun _=>rfl⟩;simp only[zap,List.cons.injEq,yhm]at this;simp only[mkV,VR];exact this.symm
|.st n,v,d,a,h,hv=>by
 cases v with
 |agg cs=>simp only[zdH]at h;simp only[VR]at hv;obtain⟨as,rfl,hv⟩:=hv;obtain⟨as',q1,q2⟩:=zqY (zBe n) hv;have:=zik q1 h;subst this;exact⟨.agg (zdI n d),by simp only[mkV,VR],.agg q2,fun h=>by simp[okE]at h⟩
 |st n' x=>
  simp only[zdH,V.to]at h;split at h
  ·rename_i e;subst e;cases h;exact⟨a,hv,.refl _,fun _=>rfl⟩
  ·cases h
 |_=>simp[zdH,V.to]at h
|.no,v,d,a,_,_=>⟨a,by simp[mkV,VR],.refl _,fun _=>rfl⟩
|.int k,v,d,a,h,hv=>by
 cases v<;>simp only[zdH]at h<;>(try(cases h;done));split at h
 ·rename_i e;subst e;cases h;exact⟨a,hv,.refl _,fun _=>rfl⟩
 ·cases h
|.bool,v,d,a,h,hv=>by cases v<;>simp only[zdH]at h<;>(try(cases h;done));cases h;exact⟨a,hv,.refl _,fun _=>rfl⟩
|.str,v,d,a,h,hv=>by cases v<;>simp only[zdH]at h<;>(try(cases h;done));cases h;exact⟨a,hv,.refl _,fun _=>rfl⟩
|.ep n,v,d,a,h,hv=>by
 cases v<;>simp only[zdH]at h<;>(try(cases h;done));split at h
 ·rename_i e;subst e;cases h;exact⟨a,hv,.refl _,fun _=>rfl⟩
 ·cases h
|.agg ss,v,d,a,h,hv=>by cases v<;>simp only[zdH]at h<;>(try(cases h;done));simp only[VR]at hv;obtain⟨as,rfl,hv⟩:=hv;obtain⟨as',q1,q2,q3⟩:=zcN ss _ d as h hv;exact⟨.agg as',by simp only[mkV,VR];exact⟨_,rfl,q1⟩,.agg q2,fun h=>by rw[q3 (by simpa[okE]using h)]⟩
|.tup ss,v,d,a,h,hv=>by cases v<;>simp only[zdH]at h<;>(try(cases h;done));simp only[VR]at hv;obtain⟨as,rfl,hv⟩:=hv;obtain⟨as',q1,q2,q3⟩:=zcN ss _ d as h hv;exact⟨.tup as',by simp only[mkV,VR];exact⟨_,rfl,q1⟩,.tup q2,fun h=>by rw[q3 (by simpa[okE]using h)]⟩
|.ip ss,v,d,a,h,hv=>by cases v<;>simp only[zdH]at h<;>(try(cases h;done));simp only[VR]at hv;obtain⟨as,rfl,hv⟩:=hv;obtain⟨as',q1,q2,q3⟩:=zcN ss _ d as h hv;exact⟨.ip as',by simp only[mkV,VR];exact⟨_,rfl,q1⟩,.ip q2,fun h=>by rw[q3 (by simpa[okE]using h)]⟩
|.fn f ss,v,d,a,h,hv=>by
 cases v<;>simp only[zdH]at h<;>(try(cases h;done));split at h
 ·rename_i e;have e:=zbN e;subst e;simp only[VR]at hv;obtain⟨as,rfl,hv⟩:=hv;obtain⟨as',q1,q2,q3⟩:=zcN ss _ d as h hv;exact⟨.fn _ as',by simp only[mkV,VR];exact⟨_,rfl,q1⟩,.fn q2,fun h=>by rw[q3 (by simpa[okE]using h)]⟩
 ·cases h
|.own r,v,d,a,h,hv=>by
 cases v<;>simp only[zdH]at h<;>(try(cases h;done));split at h
 ·rename_i e;have e:=zbN e;subst e;exact⟨a,hv,.refl _,fun _=>rfl⟩
 ·cases h
|.mpb r off,v,d,a,h,hv=>by
 cases v<;>simp only[zdH]at h<;>(try(cases h;done));split at h
 ·rename_i e1 e2 e3;have e1:=zbN e1;have e2:=zbN e2;have e3:=zbN e3;subst e1 e2 e3;exact⟨a,hv,.refl _,fun _=>rfl⟩
 ·cases h
|.mpa r off,v,d,a,h,hv=>by
 cases v<;>simp only[zdH]at h<;>(try(cases h;done));split at h
 ·rename_i e1 e2;have e1:=zbN e1;have e2:=zbN e2;subst e1 e2;cases h;exact⟨a,hv,.refl _,fun _=>rfl⟩
 ·cases h
|.part r,v,d,a,h,hv=>by
 cases v<;>simp only[zdH]at h<;>(try(cases h;done));split at h
 ·rename_i e;have e:=zbN e;subst e;cases h;exact⟨a,hv,.refl _,fun _=>rfl⟩
 ·cases h
|.e0,v,d,a,h,hv=>by cases v<;>simp only[zdH]at h<;>(try(cases h;done));exact⟨a,hv,.refl _,fun _=>rfl⟩
|.nl es,v,d,a,h,hv=>by
 cases v<;>simp only[zdH]at h<;>(try(cases h;done));split at h
 ·rename_i e;have e:=zbN e;subst e;exact⟨a,hv,.refl _,fun _=>rfl⟩
 ·cases h
|.nilp,v,d,a,h,hv=>by cases v<;>simp only[zdH]at h<;>(try(cases h;done));exact⟨a,hv,.refl _,fun _=>rfl⟩
|.nilf,v,d,a,h,hv=>by cases v<;>simp only[zdH]at h<;>(try(cases h;done));exact⟨a,hv,.refl _,fun _=>rfl⟩
theorem zcN:∀(ss:List Sh)(vs:List V)(d:DatL ss)(as:List AV),zb2 ss vs=some d->VRL J mem vs as->∃as',VRL J mem (mkVL ss d) as'/\ImpL as as'/\(zsS ss vs=true->as'=as)
|[],[],d,as,h,hv=>⟨as,by simpa[mkVL]using hv,.refl _,fun _=>rfl⟩
|[],_:: _,d,as,h,hv=>by simp[zb2]at h
|_:: _,[],d,as,h,hv=>by simp[zb2]at h
|s:: ss,v:: vs,d,as,h,hv=>by
 simp only[zb2,ygc]at h;obtain⟨x,h1,y,h2,h3⟩:=h;cases h3;simp only[VRL]at hv;obtain⟨a,as',rfl,g1,g2⟩:=hv;obtain⟨b,q1,q2,q5⟩:=zpO s v x a h1 g1;obtain⟨bs,q3,q4,q6⟩:=zcN ss vs y as' h2 g2;exact⟨b:: bs,by rw[zkX];exact .cons q1 q3,.cons q2 q4,fun h=>by simp only[zsS,yhb]at h;rw[q5 h.1,q6 h.2]⟩
end
end
end Go.Fw
namespace Go.Fw
open Go
variable [Pin]
def hpW(w:World):Hp:=fun b=>w.heap[b]?
mutual
def zon:AV->Bool
|.int _ _|.bool _|.str _=>true
|.tup cs=>zkA cs
|_=>false
def zkA:List AV->Bool
|[]=>true
|c:: cs=>zon c&&zkA cs
end
mutual
theorem zoo{H H':Hp}{Z β':Bt}:∀{a:AV}{x:Value},zon a=true->Rep H Z a x->Rep H' β' a x
|.int k n,x,_,r=>by cases r;exact .int (by assumption)
|.bool b,x,_,r=>by cases r;exact .bool
|.str s,x,_,r=>by cases r;exact .str (by assumption)
|.tup cs,x,h,r=>by
 cases r with
 |tup hl hr=>exact .tup hl fun i c v h1 h2=>zmb (by simpa[zon]using h) i c v h1 (hr i c v h1 h2)
|.junk,_,h,_|.e0,_,h,_|.sl _ _,_,h,_|.ip _,_,h,_|.ms ..,_,h,_|.mp ..,_,h,_|.fn ..,_,h,_|.mapr _,_,h,_|.nilp,_,h,_|.nilf,_,h,_|.nilm,_,h,_|.opt _ _,_,h,_|.agg _,_,h,_=>by simp[zon]at h
theorem zmb{H H':Hp}{Z β':Bt}:∀{as:List AV},zkA as=true->∀(i:Nat) c v,as[i]? =some c->Rep H Z c v->Rep H' β' c v
|[],_,i,c,v,h,_=>by simp at h
|a:: as,h,i,c,v,hi,r=>by
 simp only[zkA,yhb]at h;cases i with
 |zero=>simp at hi;subst hi;exact zoo h.1 r
 |succ i=>exact zmb h.2 i c v (by simpa using hi) r
end
theorem zgl.lend{P:Program}{f:FuncId}{args args':List AV}{mem:List Ent}{r:AV}(h:PS P f args' r)(hf:zon r=true)(hl:args.length=args'.length)
 (hv:∀H F Z w,Sat H F Z mem w->∀(i:Nat) a a' x,args[i]? =some a->args'[i]? =some a'->Rep H Z a x->Rep (hpW w) [] a' x):zgl P f args mem r mem:=by
 refine⟨h.sp.1,fun H F Z cargs w hs hsz ha=>?_⟩;have hs0:Sat (hpW w) ⟨hpW w,F.w0⟩ [] [] w:=
  {hH:=fun b o hb=>hb,gh:=hs.gh.mono fun b o e=>hs.hH b o e,hF:=fun b o hb=>hb,sm:=⟨hs.sm.os,hs.sm.tape,hs.sm.output,hs.sm.size⟩,hl:=rfl,ent:=fun i e x hi=>by simp at hi,apart:=fun i e x hi=>by simp at hi,inj:=fun i j e e' x y hi=>by simp at hi}
 refine(h.sp.2 (hpW w) ⟨hpW w,F.w0⟩ [] cargs w hs0 (by rw[hsz,hl]) fun i a' x h1 h2=>?_).mono fun e w' ⟨v,r',m',H',β',h1,⟨h2,_⟩,h3,h4,h5,_⟩=>?_
 ·have hlt:=(yga.1 h1).1;have hg:args[i]? =some (args[i]'(by omega)):=ygb _;exact hv H F Z w hs i _ a' x hg h1 (ha i _ x hg h2)
 ·subst h2;have same:∀b,b<w.heap.size->w'.heap[b]? =w.heap[b]?:=fun b hb=>by
   have:hpW w b=some w.heap[b]:=by simp[hpW,hb]
   rw[h4.hF b _ this];exact this.symm
  refine⟨v,H,Z,h1,zoo hf h3,?_,.refl _ _,.refl _⟩;refine{hH:=fun b o hb=>?_,gh:=hs.gh,hF:=fun b o hb=>?_,sm:=⟨h4.sm.os,h4.sm.tape,h4.sm.output,h4.sm.size⟩,hl:=hs.hl,ent:=fun i e x hi hx=>?_,apart:=hs.apart,inj:=hs.inj}
  ·have:=hs.hH b o hb;rw[same b (zaT this)];exact this
  ·have:=hs.hF b o hb;rw[same b (zaT this)];exact this
  ·refine(hs.ent i e x hi hx).mono (.refl _) (.refl _) fun b es cap hxe hlv=>?_;subst hxe;exact same b ((hs.ent i e _ hi hx).lt hlv)
theorem zxr{H H':Hp}{F:Fr}{Z:Bt}{mem:List Ent}{w:World}{i es off len:Nat}{rows rows':List (List AV)}{x:Value}(hs:Sat H F Z mem w)(hi:mem[i]? =some (.arr es rows))(hlen:rows'.length=rows.length)
 (hes:∀r∈rows',r.length=es)(hcell:∀r∈rows',∀c∈r,c.isCell=true)
 (hv:∀(q:Nat) r r' (j:Nat) c c' v,rows[q]? =some r->rows'[q]? =some r'->r[j]? =some c->r'[j]? =some c'->Rep H Z c v->Rep H' [] c' v)
 (hblk:∀b es' cap,Z[i]? =some (some (b,es',cap))->∀o,w.heap[b]? =some o->H' b=some o)
 (hr:Rep H Z (.ms i es off len) x)(hl:off+len<=rows.length):Rep H' [] (.sl es ((rows'.drop off).take len)) x:=by
 have hβ:∃y,Z[i]? =some y:=by have:=(yga.1 hi).1;exact⟨Z[i]'(by rw[hs.hl];exact this),ygb _⟩
 obtain⟨y,hβ⟩:=hβ;cases y with
 |none=>
  have hrows:rows=[]:=hs.ent i _ _ hi hβ;subst hrows;simp at hl;obtain⟨rfl,rfl⟩:=hl;cases hr with
  |ms hb' _ _ _=>rw[hβ]at hb';cases hb'
  |ms0 hb'=>rw[List.take_zero];exact .sl 0 0 #[] (fun _ _=>undef) rfl (Nat.le_refl _) (Nat.zero_le _) (by simp) (by simp) (by simp) (by simp) (by simp)
 |some y=>
  obtain⟨blk,es',cap⟩:=y;obtain⟨rfl,cells,elem,g2,g3,g4,g5,g6,g7,_⟩:=hs.ent i _ _ hi hβ;cases hr with
  | @ms _ _ _ _ _ b' capT' cap' hb' hcap hlc hbg=>
   rw[hβ]at hb';cases hb';refine .sl blk (off*es') cells (fun i j=>cells.getD ((off+i)*es'+j) undef) (by simp;omega) hlc hbg (fun r hr=>hes r (List.mem_of_mem_drop (List.mem_of_mem_take hr)))
    (fun _=>⟨rfl,elem,(0,0),hblk _ _ _ hβ _ g2⟩) (fun q j hq hj=>?_) (fun r hr=>hcell r (List.mem_of_mem_drop (List.mem_of_mem_take hr))) fun q r j c hq hj=>?_
   ·simp at hq;have hlt:(off+q)*es'+j<cells.size:=by rw[g3];have:(off+q+1)*es'<=cap*es':=Nat.mul_le_mul_right _ (by omega);rw[Nat.add_mul (off+q) 1]at this;omega
    have e5:off*es'+q*es'+j=(off+q)*es'+j:=by rw[Nat.add_mul]
    rw[e5];simp[hlt]
   ·rw[List.getElem?_take]at hq;split at hq
    ·rw[List.getElem?_drop]at hq;have hql:=(yga.1 hq).1;have hq0:rows[off+q]? =some (rows[off+q]'(by omega)):=ygb _;have hjl:=(yga.1 hj).1;have h5:=g5 _ (ygd hq0);have h5':=hes r (ygd hq);have hj0:(rows[off+q]'(by omega))[j]? =some ((rows[off+q]'(by omega))[j]'(by omega)):=ygb _;obtain⟨v,hv',hrep⟩:=g7 (off+q) _ j _ hq0 hj0;have:cells.getD ((off+q)*es'+j) undef=v:=by simp[hv']
     rw[this];exact hv _ _ _ _ _ _ v hq0 hq hj0 hj hrep
    ·cases hq
  |ms0 hb'=>rw[List.take_zero];exact .sl 0 0 #[] (fun _ _=>undef) rfl (Nat.le_refl _) (Nat.zero_le _) (by simp) (by simp) (by simp) (by simp) (by simp)
theorem VR.pureA{v:V}{a:AV}(hp:v.pur=true)(h:VR id [] v a):a.pure=true:=VR.pur h hp
mutual
theorem OwC.gen{H H':Hp}{F:Fr}{Z:Bt}{sm:List Ent}{w:World}(hs:Sat H F Z sm w)(hE:zgm H H'):∀{o:Option OS}{v:V}{a:AV}{fp:List Nat},OwC sm o v a fp->(∀i∈fp,∀b es' cap,Z[i]? =some (some (b,es',cap))->∀o,w.heap[b]? =some o->H' b=some o)->∀a' x,VR id [] v a'->Rep H Z a x->Rep H' [] a' x
|_,_,_,_,.leaf hp h,_,a',x,hv,hr=>by rw[VR.uniq hp hv h];exact(hr.pure (VR.pureA hp h) []).mono hE (.refl _)
|_,_,_,_,.other _ hp h,_,a',x,hv,hr=>by rw[VR.uniq hp hv h];exact(hr.pure (VR.pureA hp h) []).mono hE (.refl _)
|_,_,_,_,.own (t:=t) (xs:=xs) (rows:=rows) hi h,hb,a',x,hv,hr=>by
 simp only[VR]at hv;subst hv;have hl:=h.len;have:=zxr (H':=H') (rows':=xs.map (zap t)) hs hi (by simp[hl]) (fun r hr=>by obtain⟨y,_,rfl⟩:=List.mem_map.1 hr;exact zcO t y) (fun r hr=>by obtain⟨y,_,rfl⟩:=List.mem_map.1 hr;exact zeg t y)
  (fun q r r' j c c' v h1 h2 h3 h4 h5=>h.gen hs hE (fun i hi=>hb i (by simp[hi])) q r r' j c c' v h1 h2 h3 h4 h5) (hb _ (by simp)) hr (by omega)
 rw[List.drop_zero,List.take_of_length_le (by simp)]at this;exact this
theorem OwCs.gen{H H':Hp}{F:Fr}{Z:Bt}{sm:List Ent}{w:World}(hs:Sat H F Z sm w)(hE:zgm H H'):∀{os:OS}{off:Nat}{vs:List V}{as:List AV}{fp:List Nat},OwCs sm os off vs as fp->(∀i∈fp,∀b es' cap,Z[i]? =some (some (b,es',cap))->∀o,w.heap[b]? =some o->H' b=some o)->∀as',VRL id [] vs as'->∀(j:Nat) c c' v,as[j]? =some c->as'[j]? =some c'->Rep H Z c v->Rep H' [] c' v
|_,_,_,_,_,.nil,_,as',hv,j,c,c',v,h1,h2,hr=>by simp at h1
|_,_,_,_,_,.cons h hs',hb,as',hv,j,c,c',v,h1,h2,hr=>by
 simp only[VRL]at hv;obtain⟨a,as'',rfl,g1,g2⟩:=hv;cases j with
 |zero=>simp at h1 h2;subst h1 h2;exact h.gen hs hE (fun i hi=>hb i (by simp[hi])) _ v g1 hr
 |succ j=>exact hs'.gen hs hE (fun i hi=>hb i (by simp[hi])) _ g2 j c c' v (by simpa using h1) (by simpa using h2) hr
theorem OwRs.gen{H H':Hp}{F:Fr}{Z:Bt}{sm:List Ent}{w:World}(hs:Sat H F Z sm w)(hE:zgm H H'):∀{os:OS}{t:Ty}{xs:List (TV t)}{rows:List (List AV)}{fp:List Nat},OwRs sm os t xs rows fp->(∀i∈fp,∀b es' cap,Z[i]? =some (some (b,es',cap))->∀o,w.heap[b]? =some o->H' b=some o)->∀(q:Nat) r r' (j:Nat) c c' v,rows[q]? =some r->(xs.map (zap t))[q]? =some r'->r[j]? =some c->r'[j]? =some c'->Rep H Z c v->Rep H' [] c' v
|_,_,_,_,_,.nil,_,q,r,r',j,c,c',v,h1,h2,h3,h4,hr=>by simp at h1
|_,t,_,_,_,.cons (x:=x) h hs',hb,q,r,r',j,c,c',v,h1,h2,h3,h4,hr=>by
 cases q with
 |zero=>simp at h1 h2;subst h1 h2;exact h.gen hs hE (fun i hi=>hb i (by simp[hi])) _ (zbt (J:=id) (mem:=[]) t x) j c c' v h3 h4 hr
 |succ q=>exact hs'.gen hs hE (fun i hi=>hb i (by simp[hi])) q r r' j c c' v (by simpa using h1) (by simpa using h2) h3 h4 hr
end
theorem ArrR.gen{J:Nat->Nat}{mem:List Root}{H H':Hp}{F:Fr}{Z:Bt}{sm:List Ent}{w:World}{t:Ty}{xs:List (TV t)}{o:Ow}{i:Nat}{fp:List Nat}{off len:Nat}{x:Value}(hs:Sat H F Z sm w)(hE:zgm H H')(h:ArrR J mem sm t xs o i fp)(ho:o.shut=true)
 (hb:∀j∈i:: fp,∀b es' cap,Z[j]? =some (some (b,es',cap))->∀o,w.heap[b]? =some o->H' b=some o)(hr:Rep H Z (.ms i t.sz off len) x)(hl:off+len<=xs.length):
 Rep H' [] (.sl t.sz (((xs.drop off).take len).map (zap t))) x:=by
 have key:∃os rows fp',sm[i]? =some (.arr t.sz rows)/\OwRs sm os t xs rows fp'/\∀j∈fp',j∈fp:=by
  cases o with
  |no=>exact⟨.no,_,_,h.1,OwRs.mkno xs,by simp⟩
  |cl os=>obtain⟨rows,h1,h2⟩:=h;exact⟨os,rows,fp,h1,h2,fun _ h=>h⟩
  |op _ _ _=>cases ho
 obtain⟨os,rows,fp',hi,h2,h3⟩:=key;rw[List.map_take,List.map_drop];exact zxr (rows':=xs.map (zap t)) hs hi (by simp[h2.len]) (fun r hr=>by obtain⟨y,_,rfl⟩:=List.mem_map.1 hr;exact zcO t y) (fun r hr=>by obtain⟨y,_,rfl⟩:=List.mem_map.1 hr;exact zeg t y)
  (fun q r r' j c c' v h1 h2' h3' h4 h5=>h2.gen hs hE (fun i hi=>hb i (by simp[h3 i hi])) q r r' j c c' v h1 h2' h3' h4 h5) (hb i (by simp)) hr (by rw[h2.len];exact hl)
theorem ArrR.view{J:Nat->Nat}{mem:List Root}{H:Hp}{F:Fr}{Z:Bt}{sm:List Ent}{w:World}{t:Ty}{xs:List (TV t)}{o:Ow}{i:Nat}{fp:List Nat}{off len:Nat}{x:Value}(hs:Sat H F Z sm w)(h:ArrR J mem sm t xs o i fp)(ho:o.shut=true)(hr:Rep H Z (.ms i t.sz off len) x)(hl:off+len<=xs.length):
 Rep (hpW w) [] (.sl t.sz (((xs.drop off).take len).map (zap t))) x:=
 h.gen (H':=hpW w) hs (fun b o hb=>hs.hH b o hb) ho (fun _ _ _ _ _ _ _ hb=>hb) hr hl
mutual
def encP:V->AV
|.junk=>.junk
|.int k n=>.int k n
|.bool b=>.bool b
|.str s=>.str s
|.lst t xs=>.sl t.sz (xs.map (zap t))
|.nl es=>.sl es []
|.e0=>.e0
|.st n x=>.agg (zdI n x)
|.agg cs=>.agg (encPL cs)
|.tup cs=>.tup (encPL cs)
|.ep n x=>.ip (zdI n x)
|.ip cs=>.ip (encPL cs)
|.own _|.part _ _ _|.mp _ _ _=>.junk
|.fn f cs=>.fn f (encPL cs)
|.nilp=>.nilp
|.nilf=>.nilf
def encPL:List V->List AV
|[]=>[]
|c:: cs=>encP c:: encPL cs
end
section
variable {J:Nat->Nat}{mem:List Root}
mutual
theorem zpe:∀{v:V}{a:AV},VR J mem v a->v.pur=true->a=encP v
|.junk,_,_,h|.own _,_,_,h|.part ..,_,_,h|.mp ..,_,_,h=>by simp[V.pur]at h
|.int _ _,a,h,_|.bool _,a,h,_|.str _,a,h,_|.lst _ _,a,h,_|.nl _,a,h,_|.e0,a,h,_|.ep _ _,a,h,_|.nilp,a,h,_|.nilf,a,h,_|.st _ _,a,h,_=>by simpa[VR,encP]using h
|.ip cs,a,h,hp|.agg cs,a,h,hp|.tup cs,a,h,hp|.fn _ cs,a,h,hp=>by simp only[VR]at h;obtain⟨as,rfl,h⟩:=h;simp only[encP];rw[zf1 h (by simpa[V.pur]using hp)]
theorem zf1:∀{cs:List V}{as:List AV},VRL J mem cs as->V.purL cs=true->as=encPL cs
|[],as,h,_=>by simpa[VRL,encPL]using h
|c:: cs,as,h,hp=>by simp only[VRL]at h;obtain⟨a,as',rfl,h2,h3⟩:=h;simp only[V.purL,yhb]at hp;simp only[encPL];rw[zpe h2 hp.1,zf1 h3 hp.2]
end
mutual
theorem ziF:∀(v:V),v.pur=true->VR J mem v (encP v)
|.junk,h|.own _,h|.part ..,h|.mp ..,h=>by simp[V.pur]at h
|.int _ _,_|.bool _,_|.str _,_|.lst _ _,_|.nl _,_|.e0,_|.ep _ _,_|.nilp,_|.nilf,_|.st _ _,_=>by simp[VR,encP]
|.ip cs,hp|.agg cs,hp|.tup cs,hp|.fn _ cs,hp=>by simp only[VR,encP];exact⟨_,rfl,zeP cs (by simpa[V.pur]using hp)⟩
theorem zeP:∀(cs:List V),V.purL cs=true->VRL J mem cs (encPL cs)
|[],_=>by simp[VRL,encPL]
|c:: cs,hp=>by simp only[V.purL,yhb]at hp;simp only[encPL];exact .cons (ziF c hp.1) (zeP cs hp.2)
end
theorem zob:∀cs:List V,(encPL cs).length=cs.length
|[]=>rfl
|c:: cs=>by simp[encPL,zob cs]
theorem zks:∀(cs:List V)(i:Nat) a,(encPL cs)[i]? =some a->∃c,cs[i]? =some c/\a=encP c
|[],i,a,h=>by simp[encPL]at h
|c:: cs,0,a,h=>by simp[encPL]at h;exact⟨c,rfl,h.symm⟩
|c:: cs,i+1,a,h=>by simp only[encPL,List.getElem?_cons_succ]at h|-;exact zks cs i a h
mutual
theorem zuu(f:Nat->Nat):∀v:V,v.pur=true->v.ren f=v
|.junk,h|.own _,h|.part ..,h|.mp ..,h=>by simp[V.pur]at h
|.int _ _,_|.bool _,_|.str _,_|.lst _ _,_|.nl _,_|.e0,_|.ep _ _,_|.nilp,_|.nilf,_|.st _ _,_=>rfl
|.ip cs,hp|.agg cs,hp|.tup cs,hp|.fn _ cs,hp=>by simp only[V.ren];rw[znl f cs (by simpa[V.pur]using hp)]
theorem znl(f:Nat->Nat):∀cs:List V,V.purL cs=true->V.renL f cs=cs
|[],_=>rfl
|c:: cs,hp=>by simp only[V.purL,yhb]at hp;simp only[V.renL];rw[zuu f c hp.1,znl f cs hp.2]
end
mutual
theorem zwV(mem:List Root):∀v:V,v.pur=true->v.view mem=v
|.junk,h|.own _,h|.part ..,h|.mp ..,h=>by simp[V.pur]at h
|.int _ _,_|.bool _,_|.str _,_|.lst _ _,_|.nl _,_|.e0,_|.ep _ _,_|.nilp,_|.nilf,_|.st _ _,_|.ip _,_|.fn _ _,_=>by simp[V.view]
|.agg cs,hp|.tup cs,hp=>by simp only[V.view];rw[zlq mem cs (by simpa[V.pur]using hp)]
theorem zlq(mem:List Root):∀cs:List V,V.purL cs=true->V.viewL mem cs=cs
|[],_=>rfl
|c:: cs,hp=>by simp only[V.purL,yhb]at hp;simp only[V.viewL];rw[zwV mem c hp.1,zlq mem cs hp.2]
end
mutual
theorem zna:∀(s:Sh)(d:Dat s),s.pur=true->(mkV s d).pur=true
|.own _,_,h|.mpb _ _,_,h|.mpa _ _,_,h|.part _,_,h|.no,_,h=>by simp[Sh.pur]at h
|.int _,_,_|.bool,_,_|.str,_,_|.lst _,_,_|.st _,_,_|.ep _,_,_|.e0,_,_|.nl _,_,_|.nilp,_,_|.nilf,_,_=>by simp[mkV,V.pur]
|.agg ss,d,h|.tup ss,d,h|.ip ss,d,h|.fn _ ss,d,h=>by simp only[mkV,V.pur];exact zge ss d (by simpa[Sh.pur]using h)
theorem zge:∀(ss:List Sh)(d:DatL ss),Sh.purL ss=true->V.purL (mkVL ss d)=true
|[],_,_=>by simp[mkVL,V.purL]
|s:: ss,d,h=>by simp only[Sh.purL,yhb]at h;simp only[mkVL,V.purL,yhb];exact⟨zna s _ h.1,zge ss _ h.2⟩
end
mutual
theorem zrf:∀(s:Sh)(d:Dat s),s.flat=true->zon (encP (mkV s d))=true
|.int _,_,_|.bool,_,_|.str,_,_=>by simp[mkV,encP,zon]
|.tup ss,d,h=>by simp only[mkV,encP,zon];exact zoO ss d (by simpa[Sh.flat]using h)
|.own _,_,h|.mpb _ _,_,h|.mpa _ _,_,h|.part _,_,h|.no,_,h|.lst _,_,h|.st _,_,h|.ep _,_,h|.e0,_,h|.nl _,_,h|.nilp,_,h|.nilf,_,h|.agg _,_,h|.ip _,_,h|.fn _ _,_,h=>by simp[Sh.flat]at h
theorem zoO:∀(ss:List Sh)(d:DatL ss),Sh.flatL ss=true->zkA (encPL (mkVL ss d))=true
|[],_,_=>by simp[mkVL,encPL,zkA]
|s:: ss,d,h=>by simp only[Sh.flatL,yhb]at h;simp only[mkVL,encPL,zkA,yhb];exact⟨zrf s _ h.1,zoO ss _ h.2⟩
end
end
section
variable {J:Nat->Nat}{T:TS}{st:St}
mutual
theorem zwW(h:TR J T st):∀(v:V)(a:AV),VR J T.mem v a->∃a',VR J T.mem (v.view T.mem) a'/\(a.isCell=true->a'.isCell=true)/\∀H F Z w x,Sat H F Z st.mem w->Rep H Z a x->Rep (hpW w) Z a' x
|.own r,a,hv=>by
 simp only[V.view];have jk:∃a',VR J T.mem .junk a'/\(a.isCell=true->a'.isCell=true)/\∀H F Z w x,Sat H F Z st.mem w->Rep H Z a x->Rep (hpW w) Z a' x:=
  ⟨a,by simp[VR],id,fun H F Z w x hs hr=>hr.mono (fun b o hb=>hs.hH b o hb) (.refl _)⟩
 split
 ·rename_i t xs w0 e;split
  ·rename_i hw;simp only[VR,zep,e]at hv;subst hv;obtain⟨fp,how⟩:=h.ow;refine⟨.sl t.sz (xs.map (zap t)),by simp only[VR],fun _=>rfl,fun H F Z w x hs hr=>?_⟩;have:=(how.rel r t xs w0 e).view hs hw hr (by simp);rw[List.drop_zero,List.take_of_length_le (by simp)]at this;exact this.mono (.refl _) (fun i x h=>by simp at h)
  ·exact jk
 ·exact jk
|.part r off len,a,hv=>by
 simp only[V.view];have jk:∃a',VR J T.mem .junk a'/\(a.isCell=true->a'.isCell=true)/\∀H F Z w x,Sat H F Z st.mem w->Rep H Z a x->Rep (hpW w) Z a' x:=
  ⟨a,by simp[VR],id,fun H F Z w x hs hr=>hr.mono (fun b o hb=>hs.hH b o hb) (.refl _)⟩
 split
 ·rename_i t xs w0 e;split
  ·rename_i hw;simp only[VR,zgr,e]at hv;obtain⟨rfl,hl⟩:=hv;obtain⟨fp,how⟩:=h.ow;refine⟨.sl t.sz (((xs.drop off).take len).map (zap t)),by simp only[VR],fun _=>rfl,fun H F Z w x hs hr=>?_⟩;exact((how.rel r t xs w0 e).view hs hw hr hl).mono (.refl _) (fun i x h=>by simp at h)
  ·exact jk
 ·exact jk
|.agg cs,a,hv=>by
 simp only[VR]at hv;obtain⟨as,rfl,hv⟩:=hv;obtain⟨as',q1,q2,q3⟩:=zfO h cs as hv;refine⟨.agg as',by simp only[V.view,VR];exact⟨_,rfl,q1⟩,fun h=>by simp at h,fun H F Z w x hs hr=>?_⟩;cases hr with
 |agg hl hc hr=>
  refine .agg (by rw[q2];exact hl) (fun c hc'=>?_) fun i c v h1 h2=>?_
  ·obtain⟨i,hi⟩:=List.getElem?_of_mem hc';obtain⟨b,g1,g2,_⟩:=q3 i c hi;exact g2 (hc b (ygd g1))
  ·obtain⟨b,g1,_,g3⟩:=q3 i c h1;exact g3 H F Z w v hs (hr i b v g1 h2)
|.tup cs,a,hv=>by
 simp only[VR]at hv;obtain⟨as,rfl,hv⟩:=hv;obtain⟨as',q1,q2,q3⟩:=zfO h cs as hv;refine⟨.tup as',by simp only[V.view,VR];exact⟨_,rfl,q1⟩,fun h=>by simp at h,fun H F Z w x hs hr=>?_⟩;cases hr with
 |tup hl hr=>refine .tup (by rw[q2];exact hl) fun i c v h1 h2=>?_;obtain⟨b,g1,_,g3⟩:=q3 i c h1;exact g3 H F Z w v hs (hr i b v g1 h2)
|.junk,a,hv|.int _ _,a,hv|.bool _,a,hv|.str _,a,hv|.lst _ _,a,hv|.nl _,a,hv|.e0,a,hv|.ep _ _,a,hv|.nilp,a,hv|.nilf,a,hv|.st _ _,a,hv|.ip _,a,hv|.fn _ _,a,hv|.mp ..,a,hv=>⟨a,by simpa only[V.view]using hv,id,fun H F Z w x hs hr=>hr.mono (fun b o hb=>hs.hH b o hb) (.refl _)⟩
theorem zfO(h:TR J T st):∀(cs:List V)(as:List AV),VRL J T.mem cs as->∃as',VRL J T.mem (V.viewL T.mem cs) as'/\as'.length=as.length/\
 ∀(i:Nat) a',as'[i]? =some a'->∃a,as[i]? =some a/\(a.isCell=true->a'.isCell=true)/\∀H F Z w x,Sat H F Z st.mem w->Rep H Z a x->Rep (hpW w) Z a' x
 |[],as,hv=>by simp only[VRL]at hv;subst hv;exact⟨[],by simp[V.viewL,VRL],rfl,fun i a' h=>by simp at h⟩
 |c:: cs,as,hv=>by
  simp only[VRL]at hv;obtain⟨a,as',rfl,h2,h3⟩:=hv;obtain⟨b,q1,q2,q3⟩:=zwW h c a h2;obtain⟨bs,q4,q5,q6⟩:=zfO h cs as' h3;refine⟨b:: bs,by simp only[V.viewL];exact .cons q1 q4,by simp[q5],fun i a' hi=>?_⟩;cases i with
  |zero=>simp at hi;subst hi;exact⟨a,rfl,q2,q3⟩
  |succ i=>simpa using q6 i a' (by simpa using hi)
end
end
end Go.Fw
namespace Go.Fw
open Go
variable [Pin]
structure PEok (P:Program)(e:TE):Prop where
 rin:e.rin=[]
 rout:e.rout=[]
 ash:Sh.purL e.ash=true
 rsh:e.rsh.pur=true
 ok:∀d r,e.F d=some r->PS P e.f (encPL (mkVL (e.ash++e.rin.map RK.sh) d)) (encP ((mkVL (e.rsh:: e.rout.map RK.sh) r).headD .junk))
theorem zgl.imp{P:Program}{f:FuncId}{as as':List AV}{m m':List Ent}{a:AV}(h:zgl P f as' m a m')(hi:ImpL as as'):zgl P f as m a m':=by refine⟨h.1,fun H F Z cargs w hs hsz ha=>h.2 H F Z cargs w hs (by rw[hsz,hi.len]) fun i v x h1 h2=>?_⟩;obtain⟨b,g1,g2⟩:=hi.get i v h1;exact g2.1 _ _ _ (ha i b x g1 h2)
theorem zvZ{α:Type}{l:List α}(h:zeU l=true):l=[]:=by cases l<;>simp[zeU]at h|-
section
variable {P:Program}{J:Nat->Nat}{T:TS}{st:St}{ρt:Type}{res:ρt}{κ:V->List Root->Option ρt}
theorem zpj{cl:Nat}{args:List V}{as:List AV}(h:TR J T st)(hv:VRL J T.mem args as){e:TE}(hok:PEok P e)(hc:(V.purL args ||(e.rsh.flat&&Nat.ble 2 cl))=true){d:DatL (e.ash++e.rin.map RK.sh)}(hd:zb2 (e.ash++e.rin.map RK.sh) (V.viewL T.mem args)=some d)
 {r:DatL (e.rsh:: e.rout.map RK.sh)}(hr:e.F d=some r)(he:zwv T.mem [] e.rout (mkVL (e.rsh:: e.rout.map RK.sh) r) κ =some res):
 ∃v a,κ v T.mem=some res/\VR J T.mem v a/\((∀m,zgl P e.f as m a m)\/(2<=cl/\zgl P e.f as st.mem a st.mem)):=by
 obtain⟨f',ash,rin,rsh,rout,F⟩:=e;obtain⟨h1,h2,h3,h4,h5⟩:=hok;simp only at h1 h2 h3 h4;subst h1 h2;have hps:=h5 d r hr;have hp:=zna rsh (DP.g1 rsh.hasD (Sh.hasDL (List.map RK.sh [])) (df rsh) r) h4;simp only[zwv,mkVL,zfD,List.map_nil,zqv,List.drop_nil,List.append_nil,yht,kpT]at he;rw[zuu _ _ hp]at he;simp only[mkVL,List.headD_cons]at hps;refine⟨_,_,he,ziF _ hp,?_⟩;have hap:V.purL (mkVL (ash++List.map RK.sh []) d)=true:=zge _ d (by simpa using h3);cases hpa:V.purL args with
 |true=>rw[zlq _ _ hpa]at hd;obtain⟨as',q1,q2,_⟩:=zcN (J:=J) (mem:=T.mem) _ _ d as hd hv;rw[zf1 q1 hap]at q2;exact .inl fun m=>(zgl.of_PS hps m).imp q2
 |false=>
  rw[hpa]at hc;simp only[Bool.false_or,yhb]at hc;refine .inr ⟨zbO hc.2,?_⟩;obtain⟨bs,g1,g2,g3⟩:=zfO h args as hv;obtain⟨as',q1,q2,_⟩:=zcN (J:=J) (mem:=T.mem) _ _ d bs hd g1;have q3:=zf1 q1 hap;refine zgl.lend hps (zrf rsh _ hc.1) (by rw[<-q3,q2.len,g2]) fun H F Z w hs i a a' x ha ha' hr=>?_;rw[<-q3]at ha';obtain⟨b,e1,e2⟩:=q2.get i a' ha';obtain⟨a0,e3,_,e4⟩:=g3 i b e1;rw[ha]at e3;cases e3;have:=e2.1 _ _ _ (e4 H F Z w x hs hr);refine this.pure ?_ [];rw[q3]at ha';obtain⟨c,e5,rfl⟩:=zks _ i a' ha';have:c.pur=true:=by
   have hall:∀(l:List V),V.purL l=true->∀c∈l,c.pur=true:=by
    intro l;induction l with
    |nil=>intro _ c hc;simp at hc
    |cons y l ih=>
     intro h c hc;simp only[V.purL,yhb]at h;rcases List.mem_cons.1 hc with rfl|hc
     ·exact h.1
     ·exact ih h.2 c hc
   exact hall _ hap c (ygd e5)
  exact VR.pur (J:=J) (mem:=T.mem) (ziF c this) this
end
theorem AW.callc{C:Ctx}{k:List CItem}{st:St}{keep:List Nat}{l:List COp}{d:Option Nat}{g:Option (Nat×Bool)}{kk:K}{f:FuncId}{args:List AV}{r:AV}{m1:List Ent}(hg:g=none\/∃t bb,g=some (t,bb)/\look st.env t=.bool bb)
 (hk:(∃xs,kk=.call f xs/\args=xs.map (ar st.env))\/(∃y xs caps f0,kk=.callv y xs/\ar st.env y=.fn f0 caps/\Nat.beq f0 ERR=false/\f=fnum f0/\args=fargs f0 (xs.map (ar st.env)) caps))(hcs:zgl C.P f args st.mem r m1)(hn1:st.mem.length<=m1.length)
 (h:AW C (.ops keep l:: k) ⟨put st.env d r,m1⟩):AW C (.ops keep (.mk d g kk:: l):: k) st:=by
 intro H F Z a w b cs todo hm hr hn;cases hm with
 |ops ho hkk=>
  rename_i os idx k';cases idx with
  |nil=>simp[OpsM]at ho
  |cons j idx=>
   obtain⟨⟨o,hj,hc⟩,ho⟩:=ho;have hw:Region.wanted o (yielded os a.tmps)=true:=by
    rcases hg with rfl|⟨t,bb,rfl,ht⟩
    ·exact ze5 (zgN hc)
    ·rw[zcU hc hr ht];simp
   obtain⟨a1,w1,H1,β1,q1,q2,q3,q4,_⟩:=zp4 (b:=b) (cs:=cs) (idx:=idx) (k':=k') hj hc hw hk hcs hr;exact .steps q1 (.ext q2 (q3.eq0 (by rw[hr.sat.hl];exact hn)) (h H1 F β1 a1 w1 b cs _ (.ops ho hkk) q4 (Nat.le_trans hn hn1)))
theorem AW.opk{C:Ctx}{k:List CItem}{st:St}{keep:List Nat}{l:List COp}{d:Option Nat}{g:Option (Nat×Bool)}{kk:K}{r:Ev}(hg:g=none\/∃t bb,g=some (t,bb)/\look st.env t=.bool bb)
 (he:evK kk st.env st.mem=some r)(hs:r.1)(h:AW C (.ops keep l:: k) ⟨put st.env d r.2.1,r.2.2⟩):AW C (.ops keep (.mk d g kk:: l):: k) st:=by
 rcases hg with rfl|⟨t,bb,rfl,ht⟩
 ·exact AW.op he hs h
 ·exact AW.opg ht (fun _=>⟨r,he,hs,h⟩) (fun e=>by simp at e)
theorem AW.opoff{C:Ctx}{k:List CItem}{st:St}{keep:List Nat}{l:List COp}{d:Option Nat}{t:Nat}{bb:Bool}{kk:K}(ht:look st.env t=.bool (!bb)\/look st.env t=.tup [])
 (h:AW C (.ops keep l:: k) ⟨put st.env d (.tup []),st.mem⟩):AW C (.ops keep (.mk d (some (t,bb)) kk:: l):: k) st:=by
 intro H F Z a w b cs todo hm hr hn;cases hm with
 |ops ho hk=>
  rename_i os idx k';cases idx with
  |nil=>simp[OpsM]at ho
  |cons j idx=>
   obtain⟨⟨o,hj,hc⟩,ho⟩:=ho;have hw:Region.wanted o (yielded os a.tmps)=false:=by
    rcases ht with ht|ht
    ·rw[zcU hc hr ht];cases bb<;>rfl
    ·exact zkF hc hr ht
   obtain⟨d1,d2⟩:=zdu hc;simp only[COp.d]at d1;have hs:=zhc (P:=C.P) (b:=b) (a:=a) (k:=k') (cs:=cs) (w:=w) (rest:=idx) hj hw;refine .steps (.one hs) (h H F Z _ w b cs _ (.ops ho hk) ?_ hn);rw[d1];refine zgi hr (.refl _) (.refl _) ?_ zk4 hr.sat;cases hd:o.dst with
   |none=>rfl
   |some n=>simpa using d2 n hd
end Go.Fw
namespace Go.Fw
open Go
variable [Pin]
inductive EnvR (J:Nat->Nat)(mem:List Root):List (Nat×V)->List (Nat×AV)->Prop
|nil:EnvR J mem [] []
|cons {n v a l l'}(h:VR J mem v a)(hs:EnvR J mem l l'):EnvR J mem ((n,v):: l) ((n,a):: l')
theorem EnvR.look{J:Nat->Nat}{mem:List Root}{l:List (Nat×V)}{l':List (Nat×AV)}(h:EnvR J mem l l')(n:Nat):VR J mem (lookV l n) (Go.Fw.look l' n):=by
 induction h with
 |nil=>simp[lookV,VR]
 |cons h _ ih=>
  rename_i m v a l l' _;simp only[lookV,Go.Fw.look];cases e:Nat.beq m n with
  |true=>rw[if_pos (Nat.eq_of_beq_eq_true e)];exact h
  |false=>rw[if_neg (Nat.ne_of_beq_eq_false e)];exact ih
theorem EnvR.append{J:Nat->Nat}{mem:List Root}{l m:List (Nat×V)}{l' m':List (Nat×AV)}(h:EnvR J mem l l')(h':EnvR J mem m m'):EnvR J mem (l++m) (l'++m'):=by
 induction h with
 |nil=>exact h'
 |cons h _ ih=>exact .cons h ih
def zxK:List Nat->List AV->List (Nat×AV)
|n:: l,v:: vs=>(n,v):: zxK l vs
|_,_=>[]
theorem EnvR.zip{J:Nat->Nat}{mem:List Root}:∀(sl:List Nat){vs:List V}{as:List AV},VRL J mem vs as->EnvR J mem (zvr sl vs) (zxK sl as)
|[],vs,as,_=>.nil
|n:: sl,[],as,h=>by simp only[VRL]at h;subst h;exact .nil
|n:: sl,v:: vs,as,h=>by simp only[VRL]at h;obtain⟨a,as',rfl,h1,h2⟩:=h;exact .cons h1 (EnvR.zip sl h2)
theorem EnvR.map{J:Nat->Nat}{mem:List Root}{f:Nat->V}{g:Nat->AV}:∀(ks:List Nat),(∀n∈ks,VR J mem (f n) (g n))->EnvR J mem (ks.map fun n=>(n,f n)) (ks.map fun n=>(n,g n))
|[],_=>.nil
|n:: ks,h=>.cons (h n (by simp)) (EnvR.map ks fun m hm=>h m (by simp[hm]))
theorem VRL.mapL{J:Nat->Nat}{mem:List Root}{f:Nat->V}{g:Nat->AV}:∀(ks:List Nat),(∀n∈ks,VR J mem (f n) (g n))->VRL J mem (ks.map f) (ks.map g)
|[],_=>.nil
|n:: ks,h=>.cons (h n (by simp)) (VRL.mapL ks fun m hm=>h m (by simp[hm]))
theorem zhO{J:Nat->Nat}{mem:List Root}:∀(vs:List V)(as:List AV)(n:Nat),VRL J mem vs as->EnvR J mem (zee n vs) (zed n as)
|[],as,n,h=>by simp only[VRL]at h;subst h;exact .nil
|v:: vs,as,n,h=>by simp only[VRL]at h;obtain⟨a,as',rfl,h1,h2⟩:=h;exact .cons h1 (zhO vs as' (n+1) h2)
theorem Gh.imp{st:St}{env':List (Nat×AV)}(h:∀p∈env',Imp (look st.env p.1) p.2):Gh st ⟨env',st.mem⟩:=⟨Nat.le_refl _,fun _ _ hh=>AW.imp (st':=⟨env',st.mem⟩) h rfl hh⟩
theorem znN{env:List (Nat×AV)}{more:List AV}:∀(sl:List Nat){as':List AV},ImpL (sl.map (look env)++more) as'->∀p∈zxK sl as',Imp (look env p.1) p.2
|[],as',_,p,hp=>by simp[zxK]at hp
|n:: sl,as',h,p,hp=>by
 cases h with
 |cons h1 h2=>
  simp only[zxK,List.mem_cons]at hp;rcases hp with rfl|hp
  ·exact h1.1
  ·exact znN sl h2 p hp
section
variable {J:Nat->Nat}{T T':TS}{st':St}
theorem zgc:∀(o:List Nat)(r:Nat),memB r o=true->o[ziO o r]? =some r
|[],r,h=>by simp[memB]at h
|m:: o,r,h=>by
 simp only[ziO];cases e:Nat.beq m r with
 |true=>simp[Nat.eq_of_beq_eq_true e]
 |false=>
  simp only[List.getElem?_cons_succ];refine zgc o r ?_;simp only[memB]at h;have:Nat.beq r m=false:=by
   cases e':Nat.beq r m with
   |false=>rfl
   |true=>have:=Nat.eq_of_beq_eq_true e';subst this;simp at e
  rw[this]at h;exact h
def zua(mem:List Root)(o:List Nat):List Root:=o.map fun r=>((mem[r]?).getD .dead).ren (ziO o)
theorem zm3{mem:List Root}{o:List Nat}{r:Nat}{x:Root}(hr:memB r o=true)(hx:mem[r]? =some x):(zua mem o)[ziO o r]? =some (x.ren (ziO o)):=by simp only[zua,List.getElem?_map,zgc o r hr,Option.map_some,hx,Option.getD_some]
mutual
theorem VR.renN{mem:List Root}{o:List Nat}:∀(v:V)(a:AV),VR J mem v a->(∀r∈v.refs,memB r o=true)->VR (fun j=>J (o.getD j 0)) (zua mem o) (v.ren (ziO o)) a
|.own r,a,h,hr=>by
 have hm:=hr r (by simp[V.refs]);have hg:=zgc o r hm;have e1:o.getD (ziO o r) 0=r:=by simp[List.getD,hg]
 simp only[V.ren,VR,zep]at h|-;cases e:mem[r]? with
 |none=>rw[e]at h;exact h.elim
 |some x=>
  rw[e]at h;rw[zm3 hm e];cases x with
  |dead=>exact h
  |arr t xs w=>simp only[Root.ren,e1];exact h
  |box b cs=>simp only[Root.ren,e1];exact h
|.part r off len,a,h,hr=>by
 have hm:=hr r (by simp[V.refs]);have hg:=zgc o r hm;have e1:o.getD (ziO o r) 0=r:=by simp[List.getD,hg]
 simp only[V.ren,VR,zgr]at h|-;cases e:mem[r]? with
 |none=>rw[e]at h;exact h.elim
 |some x=>
  rw[e]at h;rw[zm3 hm e];cases x with
  |dead=>exact h
  |arr t xs w=>simp only[Root.ren,e1];exact h
  |box b cs=>exact h
|.mp r row off,a,h,hr=>by
 have hm:=hr r (by simp[V.refs]);have hg:=zgc o r hm;have e1:o.getD (ziO o r) 0=r:=by simp[List.getD,hg]
 simp only[V.ren,VR,mpR]at h|-;cases e:mem[r]? with
 |none=>rw[e]at h;exact h.elim
 |some x=>
  rw[e]at h;rw[zm3 hm e];cases x with
  |dead=>exact h
  |arr t xs w=>simp only[Root.ren,e1];exact h
  |box b cs=>simp only[Root.ren,e1];exact h
|.agg cs,a,h,hr|.tup cs,a,h,hr|.ip cs,a,h,hr|.fn _ cs,a,h,hr=>by simp only[V.ren,VR]at h|-;obtain⟨as,rfl,h⟩:=h;exact⟨as,rfl,VRL.renN cs as h (by simpa[V.refs]using hr)⟩
|.junk,_,h,_|.int _ _,_,h,_|.bool _,_,h,_|.str _,_,h,_|.lst _ _,_,h,_|.nl _,_,h,_|.e0,_,h,_|.st _ _,_,h,_|.ep _ _,_,h,_|.nilp,_,h,_|.nilf,_,h,_=>by simpa[V.ren,VR]using h
theorem VRL.renN{mem:List Root}{o:List Nat}:∀(cs:List V)(as:List AV),VRL J mem cs as->(∀r∈V.refsL cs,memB r o=true)->VRL (fun j=>J (o.getD j 0)) (zua mem o) (V.renL (ziO o) cs) as
|[],as,h,_=>by simpa[V.renL,VRL]using h
|c:: cs,as,h,hr=>by simp only[VRL]at h;obtain⟨a,as',rfl,h1,h2⟩:=h;simp only[V.renL];exact .cons (VR.renN c a h1 fun r hc=>hr r (by simp[V.refsL,hc])) (VRL.renN cs as' h2 fun r hc=>hr r (by simp[V.refsL,hc]))
end
theorem zg9(f:Nat->Nat):∀a b:List V,V.renL f (a++b)=V.renL f a++V.renL f b
|[],b=>rfl
|x:: a,b=>by simp[V.renL,zg9 f a b]
theorem ze0(f:Nat->Nat):∀a:List V,(V.renL f a).length=a.length
|[]=>rfl
|x:: a=>by simp[V.renL,ze0 f a]
theorem zdR:∀(ss:List Sh)(d:DatL ss),(mkVL ss d).length=ss.length
|[],_=>rfl
|s:: ss,d=>by simp[mkVL,zdR ss]
theorem zm6:∀(ss:List Sh)(d:DatL ss)(i:Nat) s,ss[i]? =some s->∃x:Dat s,(mkVL ss d)[i]? =some (mkV s x)
|[],_,i,s,h=>by simp at h
|s:: ss,d,0,s',h=>by simp at h;subst h;exact⟨_,rfl⟩
|s:: ss,d,i+1,s',h=>by simp only[mkVL,List.getElem?_cons_succ]at h|-;exact zm6 ss _ i s' h
theorem zos:∀(ss:List Sh)(vs:List V)(d:DatL ss),zb2 ss vs=some d->∀(i:Nat) s v,ss[i]? =some s->vs[i]? =some v->∃x:Dat s,zdH s v=some x/\(mkVL ss d)[i]? =some (mkV s x)
|[],[],_,_,i,s,v,h,_=>by simp at h
|[],_:: _,_,h,_,_,_,_,_=>by simp[zb2]at h
|_:: _,[],_,h,_,_,_,_,_=>by simp[zb2]at h
|s:: ss,v:: vs,d,h,i,s',v',hi,hv=>by
 simp only[zb2,ygc]at h;obtain⟨x,h1,y,h2,h3⟩:=h;cases h3;rw[zkX];cases i with
 |zero=>simp at hi hv;subst hi hv;exact⟨x,h1,rfl⟩
 |succ i=>simpa using zos ss vs y h2 i s' v' (by simpa using hi) (by simpa using hv)
theorem zm5:∀(ks:List RK)(vs:List V)(j:Nat) k v,ks[j]? =some k->vs[j]? =some v->(zfD ks vs)[j]? =some (zc5 k v)
|[],_,j,k,v,h,_=>by simp at h
|_:: _,[],_,_,_,_,h=>by simp at h
|k:: ks,v:: vs,0,k',v',hk,hv=>by simp at hk hv;subst hk hv;rfl
|k:: ks,v:: vs,j+1,k',v',hk,hv=>by simpa[zfD]using zm5 ks vs j k' v' (by simpa using hk) (by simpa using hv)
theorem zjR:∀(ks:List RK)(vs:List V),ks.length=vs.length->(zfD ks vs).length=ks.length
|[],[],_=>rfl
|[],_:: _,h=>by simp at h
|_:: _,[],h=>by simp at h
|k:: ks,v:: vs,hl=>by simp[zfD,zjR ks vs (by simpa using hl)]
mutual
theorem zuk(f:Nat->Nat):∀(s:Sh)(v:V),okE s (v.ren f)=okE s v
|s,.agg cs|s,.tup cs|s,.ip cs|s,.fn _ cs=>by cases s<;>simp only[V.ren,okE]<;>exact zrk f _ cs
|s,.own _|s,.part ..|s,.mp ..|s,.junk|s,.int _ _|s,.bool _|s,.str _|s,.lst _ _|s,.nl _|s,.e0|s,.st _ _|s,.ep _ _|s,.nilp|s,.nilf=>by cases s<;>simp only[V.ren,okE]
theorem zrk(f:Nat->Nat):∀(ss:List Sh)(cs:List V),zsS ss (V.renL f cs)=zsS ss cs
|[],cs=>by cases cs<;>simp[V.renL,zsS]
|s:: ss,[]=>by simp[V.renL,zsS]
|s:: ss,c:: cs=>by simp only[V.renL,zsS];rw[zuk f s c,zrk f ss cs]
end
theorem zyP:∀(s:Sh)(x:Dat s),s.isC=true->(mkV s x).isC=true:=by intro s x h;cases s<;>simp[Sh.isC]at h<;>simp[mkV,V.isC]
theorem zm7:∀(ss:List Sh)(d:DatL ss),ss.all Sh.isC=true->(mkVL ss d).all V.isC=true
|[],_,_=>rfl
|s:: ss,d,h=>by simp only[List.all_cons,yhb]at h;simp only[mkVL,List.all_cons,yhb];exact⟨zyP s _ h.1,zm7 ss _ h.2⟩
theorem zk3(mem:List Root):∀(n:Nat)(l acc:List Nat)(j r:Nat),acc[j]? =some r->(zcg mem n l acc)[j]? =some r
|0,l,acc,j,r,h=>h
|n+1,[],acc,j,r,h=>h
|n+1,x:: l,acc,j,r,h=>by
 simp only[zcg];split
 ·exact zk3 mem n l acc j r h
 ·exact zk3 mem n _ _ j r (by rw[yge (yga.1 h).1];exact h)
theorem zq6:∀(i n j:Nat),j<n->(zhj i n)[j]? =some (i+j)
|i,0,j,h=>by omega
|i,n+1,0,h=>rfl
|i,n+1,j+1,h=>by simp only[zhj,List.getElem?_cons_succ];rw[zq6 (i+1) n j (by omega),Nat.add_assoc,Nat.add_comm 1 j]
theorem zrl:∀(mem:List Root)(ks:List RK)(rs:List Nat),zBf mem ks rs=true->∀(j:Nat) k r,ks[j]? =some k->rs[j]? =some r->okW k mem[r]? =true
|mem,[],rs,_,j,k,r,h,_=>by simp at h
|mem,k0:: ks,[],_,j,k,r,_,h=>by simp at h
|mem,k0:: ks,r0:: rs,h,j,k,r,hk,hr=>by
 simp only[zBf,yhb]at h;cases j with
 |zero=>simp at hk hr;subst hk hr;exact h.1
 |succ j=>exact zrl mem ks rs h.2 j k r (by simpa using hk) (by simpa using hr)
def fpJ(fp:Nat->List Nat)(o:List Nat)(new:List Root)(j:Nat):List Nat:=match new[j]? with
|some (.arr _ _ _)=>fp (o.getD j 0)
|_=>[]
theorem ziN{s:Sig}{d:s.D}{cs:List (Nat×V)}{cs':List (Nat×AV)}(h:TR J T' st')(hd:s.get T'=some d)(hsl:s.sl.length=s.sh.length)
 (hcs:∀ρ' mem',(∀v a,v.pur=true\/v.isJ=true->VR J T'.mem v a->VR ρ' mem' v a)->EnvR ρ' mem' cs cs')(hcs':∀p∈cs',look st'.env p.1=p.2):
 ∀o,zcg T'.mem 200 (V.refsL (s.sl.map (lookV T'.env))++zxx T'.mem Nin.nin) (zhj 0 Nin.nin)=o->∃st'',Gh st' st''/\TR (fun j=>J (o.getD j 0)) (s.mk' cs d) st''/\st''.mem=st'.mem/\o.length=s.rk.length/\zif o=true/\(∀r∈o,r<T'.mem.length)/\
  (∀(j r:Nat),o[j]? =some r->∃y,(zfD s.rk ((mkVL s.shs d).drop s.sh.length))[j]? =some y/\(y=.dead\/(∃t xs w,T'.mem[r]? =some (.arr t xs w)/\w.shut=true/\y=.arr t xs w)\/∃b ds b' ds',T'.mem[r]? =some (.box b ds)/\y=.box b' ds'))/\
  (∀fp,OwA J T'.mem st'.mem fp->OwA (fun j=>J (o.getD j 0)) (zfD s.rk ((mkVL s.shs d).drop s.sh.length)) st'.mem (fpJ fp o (zfD s.rk ((mkVL s.shs d).drop s.sh.length))))/\
  ∃as' bs,VRL (fun j=>J (o.getD j 0)) (zfD s.rk ((mkVL s.shs d).drop s.sh.length)) (mkVL s.shs d) as'/\ImpL (s.sl.map (look st'.env)++bs) as':=by
 intro o ho;unfold Sig.get at hd;simp only[ho]at hd;split at hd
 ·rename_i c1 c2 c3;have c1:=zbN c1;simp only[zs6,yhb,zCo,List.all_eq_true]at c2;obtain⟨⟨hnd,href⟩,hcl⟩:=c2;have hlt:∀r∈o,r<T'.mem.length:=fun r hr=>by have:=(hcl r hr).1;exact zbO this
  have hvs:VRL J T'.mem (s.sl.map (lookV T'.env)) (s.sl.map (look st'.env)):=VRL.mapL _ fun n _=>h.env n;have hvs':=VRL.renN _ _ hvs href;have hroot:∀r∈o,∃a,VR J T'.mem (zch T'.mem r) a/\(∀q∈(zch T'.mem r).refs,memB q o=true)/\
   (∀b ds,T'.mem[r]? =some (.box b ds)->∃as,a=.agg as/\st'.mem[J r]? =some (boxE b ds.length as)/\VRL J T'.mem ds as):=by
   intro r hr;have hx:T'.mem[r]? =some (T'.mem[r]'(hlt r hr)):=ygb _;generalize hy:T'.mem[r]'(hlt r hr)=x at hx;cases x with
   |dead=>exact⟨.junk,by simp[zch,hx,Root.v,VR],by simp[zch,hx,Root.v,V.refs],fun b ds e=>(by rw[hx]at e;cases e)⟩
   |arr t xs w=>
    cases hw:w.shut with
    |true=>exact⟨.sl t.sz (xs.map (zap t)),by simp[zch,hx,Root.v,VR,hw],by simp[zch,hx,Root.v,V.refs,hw],fun b ds e=>(by rw[hx]at e;cases e)⟩
    |false=>exact⟨.junk,by simp[zch,hx,Root.v,VR,hw],by simp[zch,hx,Root.v,V.refs,hw],fun b ds e=>(by rw[hx]at e;cases e)⟩
   |box b ds=>
    obtain⟨as,g1,g2⟩:=h.box r b ds hx;refine⟨.agg as,by simp only[zch,hx,Root.v,Option.map_some,Option.getD_some,VR];exact⟨as,rfl,g2⟩,fun q hq=>?_,fun b' ds' e=>?_⟩
    ·have:=(hcl r hr).2 q (by simpa[zjT,hx,zch,Root.v,V.refs]using hq);exact this
    ·rw[hx]at e;cases e;exact⟨as,rfl,g1,g2⟩
  have hlist:∀(P:Nat->AV->Prop)(l:List Nat),(∀r∈l,∃a,P r a)->∃bs:List AV,bs.length=l.length/\∀(j:Nat) r,l[j]? =some r->∃a,bs[j]? =some a/\P r a:=by
   intro P l;induction l with
   |nil=>intro _;exact⟨[],rfl,fun j r h=>by simp at h⟩
   |cons x l ih=>
    intro hl;obtain⟨a,ha⟩:=hl x (by simp);obtain⟨bs,b1,b2⟩:=ih fun r hr=>hl r (by simp[hr]);refine⟨a:: bs,by simp[b1],fun j r hj=>?_⟩;cases j with
    |zero=>simp at hj;subst hj;exact⟨a,rfl,ha⟩
    |succ j=>simpa using b2 j r (by simpa using hj)
  obtain⟨bs,b1,b2⟩:=hlist _ o hroot;have hpoint:∀(l:List Nat)(bs:List AV),bs.length=l.length->(∀(j:Nat) r,l[j]? =some r->∃a,bs[j]? =some a/\VR J T'.mem (zch T'.mem r) a)->VRL J T'.mem (l.map (zch T'.mem)) bs:=by
   intro l;induction l with
   |nil=>intro bs h _;rw[List.eq_nil_of_length_eq_zero h];exact .nil
   |cons x l ih=>
    intro bs hb hp;cases bs with
    |nil=>simp at hb
    |cons y bs=>obtain⟨a,a1,a2⟩:=hp 0 x rfl;simp at a1;subst a1;exact .cons a2 (ih bs (by simpa using hb) fun j r hj=>by simpa using hp (j+1) r (by simpa using hj))
  have hcv:VRL J T'.mem (o.map (zch T'.mem)) bs:=hpoint o bs b1 fun j r hj=>let⟨a,a1,a2,_⟩:=b2 j r hj;⟨a,a1,a2⟩;have hcref:∀q∈V.refsL (o.map (zch T'.mem)),memB q o=true:=by
   have:∀l:List Nat,(∀r∈l,r∈o)->∀q∈V.refsL (l.map (zch T'.mem)),memB q o=true:=by
    intro l;induction l with
    |nil=>intro _ q hq;simp[V.refsL]at hq
    |cons x l ih=>
     intro hl q hq;simp only[List.map_cons,V.refsL,List.mem_append]at hq;rcases hq with hq|hq
     ·obtain⟨a,_,a2,_⟩:=hroot x (hl x (by simp));exact a2 q hq
     ·exact ih (fun r hr=>hl r (by simp[hr])) q hq
   exact this o fun _ h=>h
  have hcv':=VRL.renN _ _ hcv hcref;have hall:VRL (fun j=>J (o.getD j 0)) (zua T'.mem o) (V.renL (ziO o) (s.sl.map (lookV T'.env)++o.map (zch T'.mem))) (s.sl.map (look st'.env)++bs):=by rw[zg9];exact hvs'.append hcv'
  obtain⟨as',q1,q2,_⟩:=zcN _ _ d _ hd hall;have hn:(V.renL (ziO o) (s.sl.map (lookV T'.env))).length=s.sh.length:=by rw[ze0,List.length_map,hsl]
  have each:∀(j:Nat) r k,o[j]? =some r->s.rk[j]? =some k->∃(x:Dat k.sh)(b:AV),zdH k.sh ((zch T'.mem r).ren (ziO o))=some x/\((mkVL s.shs d).drop s.sh.length)[j]? =some (mkV k.sh x)/\bs[j]? =some b/\
   VR (fun j=>J (o.getD j 0)) (zua T'.mem o) (mkV k.sh x) b:=by
   intro j r k hj hk;have e1:(s.sh++s.rk.map RK.sh)[s.sh.length+j]? =some k.sh:=by rw[ygf (by omega)];simp[hk]
   have e2:(V.renL (ziO o) (s.sl.map (lookV T'.env)++o.map (zch T'.mem)))[s.sh.length+j]? =some ((zch T'.mem r).ren (ziO o)):=by
    rw[zg9,ygf (by omega),hn,Nat.add_sub_cancel_left];have:∀(l:List V)(i:Nat) v,l[i]? =some v->(V.renL (ziO o) l)[i]? =some (v.ren (ziO o)):=by
     intro l;induction l with
     |nil=>intro i v h;simp at h
     |cons y l ih=>
      intro i v h;cases i with
      |zero=>simp at h;subst h;rfl
      |succ i=>simpa[V.renL]using ih i v (by simpa using h)
    exact this _ j _ (by simp[hj])
   obtain⟨x,x1,x2⟩:=zos _ _ d hd _ _ _ e1 e2;obtain⟨b,y1,y2,y3,_⟩:=b2 j r hj;have hok:okE k.sh ((zch T'.mem r).ren (ziO o))=true:=by
    have h0:okE k.sh (zch T'.mem r)=true:=by
     have:∀(ss:List RK)(l:List Nat),zsS (ss.map RK.sh) (l.map (zch T'.mem))=true->∀(j:Nat) k r,ss[j]? =some k->l[j]? =some r->okE k.sh (zch T'.mem r)=true:=by
      intro ss;induction ss with
      |nil=>intro l _ j k r h;simp at h
      |cons k0 ss ih=>
       intro l hl j k r hk hr;cases l with
       |nil=>simp at hr
       |cons r0 l=>
        simp only[List.map_cons,zsS,yhb]at hl;cases j with
        |zero=>simp at hk hr;subst hk hr;exact hl.1
        |succ j=>exact ih l hl.2 j k r (by simpa using hk) (by simpa using hr)
     simp only[yhb]at c3;exact this s.rk o c3.1.1 j k r hk hj
    rw[zuk];exact h0
   obtain⟨b',z1,_,z3⟩:=zpO (J:=fun j=>J (o.getD j 0)) (mem:=zua T'.mem o) _ _ x b x1 (VR.renN _ _ y2 y3);rw[z3 hok]at z1;refine⟨x,b,x1,?_,y1,z1⟩;rw[List.getElem?_drop];exact x2
  simp only[yhb]at c3;have hC:=List.all_eq_true.1 c3.1.2;have hOw:=zrl _ _ _ c3.2;have root:∀(j:Nat) y,(zfD s.rk ((mkVL s.shs d).drop s.sh.length))[j]? =some y->∃r k x b,o[j]? =some r/\s.rk[j]? =some k/\zdH k.sh ((zch T'.mem r).ren (ziO o))=some x/\y=zc5 k (mkV k.sh x)/\bs[j]? =some b/\
   VR (fun j=>J (o.getD j 0)) (zua T'.mem o) (mkV k.sh x) b/\T'.mem[r]? =some (T'.mem.getD r .dead):=by
   intro j y hy;have hdl:((mkVL s.shs d).drop s.sh.length).length=s.rk.length:=by simp[zdR]
   have hjl:j<s.rk.length:=by have:=(yga.1 hy).1;rw[zjR _ _ hdl.symm]at this;exact this
   have hk:s.rk[j]? =some (s.rk[j]'hjl):=ygb _;have hr:o[j]? =some (o[j]'(by omega)):=ygb _;obtain⟨x,b,x1,x2,x3,x4⟩:=each j _ _ hr hk;have:=zm5 s.rk _ j _ _ hk x2;rw[hy]at this;have hlt':=hlt _ (ygd hr);exact⟨_,_,x,b,hr,hk,x1,by simpa using this,x3,x4,by simp[List.getD,hlt']⟩
  have hget:∀(j:Nat) r,o[j]? =some r->o.getD j 0=r:=fun j r hj=>by simp[List.getD,hj]
  have kinds:∀(j:Nat) r k (x:Dat k.sh),o[j]? =some r->s.rk[j]? =some k->zdH k.sh ((zch T'.mem r).ren (ziO o))=some x->
   zc5 k (mkV k.sh x)=.dead\/(∃t xs w,T'.mem[r]? =some (.arr t xs w)/\w.shut=true/\zc5 k (mkV k.sh x)=.arr t xs w) \/
    (∃b ds b' ss z,T'.mem[r]? =some (.box b ds)/\k=.box b' ss/\mkV k.sh x=.agg (mkVL ss z)/\zc5 k (mkV k.sh x)=.box b' (mkVL ss z)):=by
   intro j r k x hj hk hx;cases k with
   |dead=>exact .inl rfl
   |arr t os=>
    simp only[RK.sh,zch]at hx;have hlt':=hlt r (ygd hj);have hx0:T'.mem[r]? =some (T'.mem[r]'hlt'):=ygb _;generalize T'.mem[r]'hlt'=y at hx0;rw[hx0]at hx;cases y with
    |dead=>simp[Root.v,V.ren,zdH,V.toL]at hx
    |box b ds=>simp[Root.v,V.ren,zdH,V.toL]at hx
    |arr t' xs w=>
     cases hw:w.shut with
     |false=>
      have ev:(Root.arr t' xs w).v=.junk:=by simp only[Root.v,hw]
      simp only[Option.map_some,Option.getD_some,ev]at hx;simp[V.ren,zdH,V.toL]at hx
     |true=>
      have ev:(Root.arr t' xs w).v=.lst t' xs:=by simp only[Root.v,hw]
      simp only[Option.map_some,Option.getD_some,ev]at hx;simp only[V.ren,zdH,V.toL]at hx;split at hx
      ·rename_i e;subst e;cases hx;have:=hOw j _ r hk hj;rw[hx0]at this;have:=Ow.eqB_eq this;subst this;exact .inr (.inl ⟨_,xs,_,hx0,hw,by simp[zc5,mkV,RK.sh]⟩)
      ·cases hx
   |box b' ss=>
    simp only[RK.sh,zch]at hx;have hlt':=hlt r (ygd hj);have hx0:T'.mem[r]? =some (T'.mem[r]'hlt'):=ygb _;generalize T'.mem[r]'hlt'=y at hx0;rw[hx0]at hx;cases y with
    |dead=>simp[Root.v,V.ren,zdH]at hx
    |arr t xs w=>
     cases hw:w.shut with
     |false=>
      have ev:(Root.arr t xs w).v=.junk:=by simp only[Root.v,hw]
      simp only[Option.map_some,Option.getD_some,ev]at hx;simp[V.ren,zdH]at hx
     |true=>
      have ev:(Root.arr t xs w).v=.lst t xs:=by simp only[Root.v,hw]
      simp only[Option.map_some,Option.getD_some,ev]at hx;simp[V.ren,zdH]at hx
    |box b ds=>exact .inr (.inr ⟨b,ds,b',ss,x,hx0,rfl,rfl,rfl⟩)
  have hdl:((mkVL s.shs d).drop s.sh.length).length=s.rk.length:=by simp[zdR]
  have ml:(zfD s.rk ((mkVL s.shs d).drop s.sh.length)).length=o.length:=by rw[zjR _ _ hdl.symm,c1]
  have hnew:∀(j:Nat) r,o[j]? =some r->∃y,(zfD s.rk ((mkVL s.shs d).drop s.sh.length))[j]? =some y:=fun j r hj=>⟨_,ygb (by rw[ml];exact(yga.1 hj).1)⟩
  have hmN:∀(j:Nat) y,(zua T'.mem o)[j]? =some y->∃r,o[j]? =some r/\y=((T'.mem[r]?).getD .dead).ren (ziO o):=by intro j y hy;simp only[zua,List.getElem?_map,Option.map_eq_some_iff]at hy;obtain⟨r,hr,rfl⟩:=hy;exact⟨r,hr,rfl⟩
  have hKp:Kp (fun j=>J (o.getD j 0)) (fun j=>J (o.getD j 0)) (zua T'.mem o) (zfD s.rk ((mkVL s.shs d).drop s.sh.length)):=by
   refine⟨fun j t xs w hj=>?_,fun j b ds hj=>?_,fun j hj=>?_⟩;all_goals
    obtain⟨r,hr,hy⟩:=hmN j _ hj;obtain⟨y,hyn⟩:=hnew j r hr;obtain⟨r',k,x,b0,e1,e2,e3,e4,_,_,e6⟩:=root j y hyn;rw[hr]at e1;cases e1;have:=kinds j r k x hr e2 e3;rw[<-e4]at this;rcases this with rfl|⟨t',xs',w',f1,f2,rfl⟩|⟨b1,ds1,b2,ss,z,f1,f2,f3,rfl⟩
   ·exact .inl hyn
   ·rw[f1]at hy;simp only[Option.getD_some,Root.ren]at hy;cases hy;exact .inr ⟨rfl,_,_,hyn,rfl⟩
   ·rw[f1]at hy;simp[Root.ren]at hy
   ·exact .inl hyn
   ·rw[f1]at hy;simp[Root.ren]at hy
   ·exact .inr ⟨rfl,_,_,hyn⟩
   ·exact hyn
   ·rw[f1]at hy;simp[Root.ren]at hy
   ·rw[f1]at hy;simp[Root.ren]at hy
  have q3:=VRL.mono hKp _ _ q1;have hcs2:=hcs (fun j=>J (o.getD j 0)) (zfD s.rk ((mkVL s.shs d).drop s.sh.length)) fun v a hv hva=>by
   rcases hv with hv|hv
   ·exact(zpe hva hv) ▸ ziF v hv
   ·cases v<;>simp[V.isJ]at hv;simp[VR]
  have owF:∀fp,OwA J T'.mem st'.mem fp->OwA (fun j=>J (o.getD j 0)) (zfD s.rk ((mkVL s.shs d).drop s.sh.length)) st'.mem (fpJ fp o (zfD s.rk ((mkVL s.shs d).drop s.sh.length))):=by
   intro fp how;have arrs:∀(j:Nat) t xs w,(zfD s.rk ((mkVL s.shs d).drop s.sh.length))[j]? =some (.arr t xs w)->∃r,o[j]? =some r/\T'.mem[r]? =some (.arr t xs w)/\w.shut=true:=by
    intro j t xs w hj;obtain⟨r,k,x,b0,e1,e2,e3,e4,_,_,e6⟩:=root j _ hj;have:=kinds j r k x e1 e2 e3;rw[<-e4]at this;rcases this with h0|⟨t',xs',w',f1,f2,h0⟩|⟨b1,ds1,b2,ss,z,f1,f2,f3,h0⟩
    ·cases h0
    ·cases h0;exact⟨r,e1,f1,f2⟩
    ·cases h0
   have fpe:∀j,fpJ fp o (zfD s.rk ((mkVL s.shs d).drop s.sh.length)) j=match(zfD s.rk ((mkVL s.shs d).drop s.sh.length))[j]? with
   |some (.arr _ _ _)=>fp (o.getD j 0)
   |_=>[]:=fun j=>rfl
   generalize fpJ fp o (zfD s.rk ((mkVL s.shs d).drop s.sh.length))=fp' at fpe|-;have fpc:∀j,(∃t xs w r,(zfD s.rk ((mkVL s.shs d).drop s.sh.length))[j]? =some (.arr t xs w)/\o[j]? =some r/\fp' j=fp r/\T'.mem[r]? =some (.arr t xs w)/\w.shut=true)\/fp' j=[]:=by
    intro j;rw[fpe];split
    ·rename_i t xs w hj;obtain⟨r,g1,g2,g3⟩:=arrs j _ _ _ hj;exact .inl ⟨t,xs,w,r,hj,g1,by rw[hget j r g1],g2,g3⟩
    ·exact .inr rfl
   have live:∀(j:Nat) x,(zfD s.rk ((mkVL s.shs d).drop s.sh.length))[j]? =some x->x.alive=true->∃r y,o[j]? =some r/\T'.mem[r]? =some y/\y.alive=true:=by
    intro j x hj hx;obtain⟨r,k,z,b0,e1,e2,e3,e4,_,_,e6⟩:=root j _ hj;have:=kinds j r k z e1 e2 e3;rw[<-e4]at this;rcases this with rfl|⟨t',xs',w',f1,f2,_⟩|⟨b1,ds1,b2,ss,z,f1,f2,f3,_⟩
    ·simp[Root.alive]at hx
    ·exact⟨r,_,e1,f1,rfl⟩
    ·exact⟨r,_,e1,f1,rfl⟩
   refine⟨fun j t xs w hj=>?_,fun j hj=>?_,fun j=>?_,fun j j' hne i hi hi'=>?_,fun j j' x hj hx hi=>?_⟩
   ·obtain⟨r,g1,g2,g3⟩:=arrs j t xs w hj;have e:fp' j=fp r:=by simp only[fpe,show(zfD s.rk ((mkVL s.shs d).drop s.sh.length))[j]? =some (.arr t xs w)from hj,hget j r g1]
    rw[e];simp only[hget j r g1];exact(how.rel r t xs w g2).shut g3
   ·rcases fpc j with⟨t,xs,w,r,g1,_⟩|g
    ·exact absurd g1 (hj t xs w)
    ·exact g
   ·rcases fpc j with⟨t,xs,w,r,g1,g2,g3,_⟩|g
    ·rw[g3];exact how.nd r
    ·rw[g];exact List.nodup_nil
   ·rcases fpc j with⟨t,xs,w,r,g1,g2,g3,_⟩|g
    ·rcases fpc j' with⟨t',xs',w',r',g1',g2',g3',_⟩|g'
     ·rw[g3]at hi;rw[g3']at hi';refine how.dj r r' (fun e=>hne ?_) i hi hi';subst e;exact zgg o hnd j j' (yga.1 g2).1 (yga.1 g2').1 (by rw[hget j r g2,hget j' r g2'])
     ·rw[g']at hi';simp at hi'
    ·rw[g]at hi;simp at hi
   ·obtain⟨r,y,l1,l2,l3⟩:=live j x hj hx;rcases fpc j' with⟨t',xs',w',r',g1',g2',g3',_⟩|g'
    ·rw[g3']at hi;simp only[hget j r l1]at hi;exact how.rt r r' y l2 l3 hi
    ·rw[g']at hi;simp at hi
  have hkd:∀(j r:Nat),o[j]? =some r->∃y,(zfD s.rk ((mkVL s.shs d).drop s.sh.length))[j]? =some y/\(y=.dead\/(∃t xs w,T'.mem[r]? =some (.arr t xs w)/\w.shut=true/\y=.arr t xs w)\/∃b ds b' ds',T'.mem[r]? =some (.box b ds)/\y=.box b' ds'):=by
   intro j r hj;obtain⟨y,hyn⟩:=hnew j r hj;obtain⟨r',k,x,b0,e1,e2,e3,e4,_,_,e6⟩:=root j y hyn;rw[hj]at e1;cases e1;have:=kinds j r k x hj e2 e3;rw[<-e4]at this;refine⟨y,hyn,?_⟩;rcases this with h0|h0|⟨b1,ds1,b2,ss,z,f1,f2,f3,h0⟩
   ·exact .inl h0
   ·exact .inr (.inl h0)
   ·exact .inr (.inr ⟨_,_,_,_,f1,h0⟩)
  refine⟨⟨zxK s.sl as'++cs',st'.mem⟩,Gh.imp fun p hp=>?_,?_,rfl,c1,hnd,hlt,hkd,owF,as',bs,q3,q2⟩
  ·rcases List.mem_append.1 hp with hp|hp
   ·exact znN s.sl q2 p hp
   ·rw[hcs' p hp];exact .refl _
  ·refine⟨fun n=>((EnvR.zip s.sl q3).append hcs2).look n,fun j b ds hj=>?_,fun j b ds hj=>?_,fun j j' x x' hj hx hj' hx' e=>?_,?_,fun j hj=>?_⟩
   ·obtain⟨r,k,x,b0,e1,e2,e3,e4,e5,e6,e7⟩:=root j _ hj;have:=kinds j r k x e1 e2 e3;rw[<-e4]at this;rcases this with h0|⟨t',xs',w',f1,f2,h0⟩|⟨b1,ds1,bq,ss,z,f1,f2,f3,h0⟩
    ·cases h0
    ·cases h0
    ·cases h0;obtain⟨a,y1,_,_,y5⟩:=b2 j r e1;obtain⟨as,rfl,y6,y7⟩:=y5 b1 ds1 f1;rw[e5]at y1;cases y1;rw[f3]at e6;simp only[VR,AV.agg.injEq]at e6;obtain⟨as2,rfl,e6⟩:=e6;refine⟨as,?_,VRL.mono hKp _ _ e6⟩;show st'.mem[J (o.getD j 0)]? =_;have hm:b1.mpB=b.mpB:=by have:=hOw j k r e2 e1;rw[f1,f2]at this;simp only[okW]at this;cases h1:b.mpB<;>cases h2:b1.mpB<;>simp[h1,h2]at this|-
     rw[hget j r e1,y6,<-e6.len,y7.len,zrE hm]
   ·obtain⟨r,k,x,b0,e1,e2,e3,e4,e5,e6,e7⟩:=root j _ hj;have:=kinds j r k x e1 e2 e3;rw[<-e4]at this;rcases this with h0|⟨t',xs',w',f1,f2,h0⟩|⟨b1,ds1,b2,ss,z,f1,f2,f3,h0⟩
    ·cases h0
    ·cases h0
    ·cases h0;have:=hC k (ygd e2);rw[f2]at this;exact zm7 _ _ this
   ·have live:∀(j:Nat) x,(zfD s.rk ((mkVL s.shs d).drop s.sh.length))[j]? =some x->x.alive=true->∃r y,o[j]? =some r/\T'.mem[r]? =some y/\y.alive=true:=by
     intro j x hj hx;obtain⟨r,k,z,b0,e1,e2,e3,e4,_,_,e6⟩:=root j _ hj;have:=kinds j r k z e1 e2 e3;rw[<-e4]at this;rcases this with rfl|⟨t',xs',w',f1,f2,_⟩|⟨b1,ds1,b2,ss,z,f1,f2,f3,_⟩
     ·simp[Root.alive]at hx
     ·exact⟨r,_,e1,f1,rfl⟩
     ·exact⟨r,_,e1,f1,rfl⟩
    obtain⟨r,y,l1,l2,l3⟩:=live j x hj hx;obtain⟨r',y',l4,l5,l6⟩:=live j' x' hj' hx';simp only[hget j r l1,hget j' r' l4]at e;have:=h.inj r r' y y' l2 l3 l5 l6 e;subst this;exact zgg o hnd j j' (yga.1 l1).1 (yga.1 l4).1 (by rw[hget j r l1,hget j' r l4])
   ·obtain⟨fp,how⟩:=h.ow;exact⟨_,owF fp how⟩
   ·
    have hio:o[j]? =some j:=by rw[<-ho];exact zk3 _ _ _ _ j j (zq6 0 Nin.nin j hj ▸ by simp)
    have hoj:=hget j j hio;obtain⟨p1,p2⟩:=h.pin j hj;obtain⟨y,hyn⟩:=hnew j j hio;obtain⟨r,k,x,b0,e1,e2,e3,e4,_,_,e6⟩:=root j y hyn;rw[hio]at e1;cases e1;have:=kinds j j k x hio e2 e3;rw[<-e4]at this;show(∀x,(zfD s.rk ((mkVL s.shs d).drop s.sh.length))[j]? =some x->x.alive=true->J (o.getD j 0)=j)/\KpA (Pin.ini[j]?) ((zfD s.rk ((mkVL s.shs d).drop s.sh.length))[j]?);rw[hyn,hoj];rcases this with rfl|⟨t',xs',w',f1,f2,rfl⟩|⟨b1,ds1,b2,ss,z,f1,f2,f3,rfl⟩
    ·refine⟨fun x hx ha=>(by cases hx;cases ha),?_⟩;revert p2
     cases Pin.ini[j]? with
     |none=>exact id
     |some z=>cases z with
      |dead=>intro _;rfl
      |arr _ _ _=>intro _;exact .inl rfl
      |box _ _=>intro _;exact .inl rfl
    ·refine⟨fun x hx ha=>p1 _ f1 rfl,?_⟩;rw[f1]at p2;exact p2
    ·refine⟨fun x hx ha=>p1 _ f1 rfl,?_⟩;rw[f1]at p2;revert p2
     cases Pin.ini[j]? with
     |none=>exact id
     |some z=>cases z with
      |dead=>intro h;cases h
      |arr _ _ _=>intro h;rcases h with h|⟨_,_,h,_⟩<;>cases h
      |box _ _=>intro _;exact .inr ⟨_,_,rfl⟩
 ·cases hd
theorem ztA{s:Sig}{d:s.D}{cs:List (Nat×V)}{cs':List (Nat×AV)}(h:TR J T' st')(hd:s.get T'=some d)(hsl:s.sl.length=s.sh.length)
 (hcs:∀ρ' mem',(∀v a,v.pur=true\/v.isJ=true->VR J T'.mem v a->VR ρ' mem' v a)->EnvR ρ' mem' cs cs')(hcs':∀p∈cs',look st'.env p.1=p.2):
 ∃st'' ρ'',Gh st' st''/\TR ρ'' (s.mk' cs d) st'':=by
 obtain⟨st'',h1,h2,_⟩:=ziN h hd hsl hcs hcs' _ rfl;exact⟨st'',_,h1,h2⟩
end
end Go.Fw
namespace Go.Fw
open Go
variable [Pin]
mutual
def zib(n:Nat):Option OS->AV->AV×List Ent
|some o,.sl es rows=>(.ms n es 0 rows.length,.arr es (zd2 (n+1) o rows).1:: (zd2 (n+1) o rows).2)
|_,a=>(a,[])
def zde(n:Nat)(os:OS)(off:Nat):List AV->List AV×List Ent
|[]=>([],[])
|a:: as=>((zib n (os.sub off) a).1:: (zde (n+(zib n (os.sub off) a).2.length) os (off+1) as).1,(zib n (os.sub off) a).2++(zde (n+(zib n (os.sub off) a).2.length) os (off+1) as).2)
def zd2(n:Nat)(os:OS):List (List AV)->List (List AV)×List Ent
|[]=>([],[])
|r:: rs=>((zde n os 0 r).1:: (zd2 (n+(zde n os 0 r).2.length) os rs).1,(zde n os 0 r).2++(zd2 (n+(zde n os 0 r).2.length) os rs).2)
end
theorem zyd(n:N)(x:Nm n):(fl n x).all V.isLf=true:=by cases n<;>simp[fl,V.isLf,ziL,zrT,zjo,zga,zmO,zpI,zrP,zrQ,zf8,zpJ,zrN,zrR,zrU,zpH,zrO,zfx,zf9,zrS,ziK,zgU,zgV,zma]
theorem ziQ(t:Ty)(x:TV t):(leafs t x).all V.isLf=true:=by
 cases t with
 |nm n=>exact zyd n x
 |_=>simp[leafs,V.isLf]
theorem zr7{n:Nat}{o:Option OS}{v:V}{a:AV}(hl:v.isLst=false)(hv:VR id [] v a)(hp:v.pur=true)(hs:∀es,v≠.nl es):zib n o a=(a,[]):=by
 cases v<;>simp[V.isLst,V.pur]at hl hp<;>simp only[VR]at hv<;>(try subst hv)<;>(try(cases o<;>simp[zib];done))
 ·exact absurd rfl (hs _)
 all_goals(obtain⟨as,rfl,_⟩:=hv;cases o<;>simp[zib])
theorem zoH{n:Nat}{a:AV}:zib n none a=(a,[]):=by cases a<;>simp[zib]
mutual
theorem OwC.lay{sm:List Ent}:∀{o:Option OS}{v:V}{a:AV}{fp:List Nat},OwC sm o v a fp->v.isLf=true->∀(n:Nat)(g:Nat->Nat) a0,VR id [] v a0->(∀(k j:Nat),fp[k]? =some j->g (n+k)=j)->
 a=(zib n o a0).1.ren g/\(zib n o a0).2.length=fp.length/\∀(k:Nat)(e:Ent)(j:Nat),(zib n o a0).2[k]? =some e->fp[k]? =some j->sm[j]? =some (e.ren g)
 |_,v,a,_,.leaf hp h,hlf,n,g,a0,hv,hg=>by rw[VR.uniq hp hv h,zoH];exact⟨(AV.ren_pure g a (VR.pur h hp)).symm,rfl,fun k e j hk=>by simp at hk⟩
 |_,v,a,_,.other hl hp h,hlf,n,g,a0,hv,hg=>by rw[VR.uniq hp hv h,zr7 hl h hp (fun es e=>by subst e;cases hlf)];exact⟨(AV.ren_pure g a (VR.pur h hp)).symm,rfl,fun k e j hk=>by simp at hk⟩
 |_,_,_,_,.own (t:=t) (xs:=xs) (i:=i) (rows:=rows) (fp:=fp) hi h,_,n,g,a0,hv,hg=>by
  simp only[VR]at hv;subst hv;obtain⟨q1,q2,q3⟩:=h.lay (n+1) g fun k j hk=>by have:=hg (k+1) j (by simpa using hk);rwa [show n+(k+1)=n+1+k by omega]at this
  have h0:=hg 0 i rfl;simp only[Nat.add_zero]at h0;simp only[zib];refine⟨by simp[AV.ren,h0],by simp[q2],fun k e j hk hj=>?_⟩;cases k with
  |zero=>simp at hk hj;subst hk hj;rw[hi,q1];rfl
  |succ k=>exact q3 k e j (by simpa using hk) (by simpa using hj)
theorem OwCs.lay{sm:List Ent}:∀{os:OS}{off:Nat}{vs:List V}{as:List AV}{fp:List Nat},OwCs sm os off vs as fp->vs.all V.isLf=true->∀(n:Nat)(g:Nat->Nat) as0,VRL id [] vs as0->(∀(k j:Nat),fp[k]? =some j->g (n+k)=j)->
 as=(zde n os off as0).1.map (AV.ren g)/\(zde n os off as0).2.length=fp.length/\∀(k:Nat)(e:Ent)(j:Nat),(zde n os off as0).2[k]? =some e->fp[k]? =some j->sm[j]? =some (e.ren g)
 |_,_,_,_,_,.nil,_,n,g,as0,hv,hg=>by simp only[VRL]at hv;subst hv;exact⟨rfl,rfl,fun k e j hk=>by simp[zde]at hk⟩
 |_,_,_,_,_,.cons (fp:=fp1) (fp':=fp2) h hs,hlf,n,g,as0,hv,hg=>by
  simp only[VRL]at hv;obtain⟨a0,as1,rfl,hv1,hv2⟩:=hv;simp only[List.all_cons,yhb]at hlf;obtain⟨q1,q2,q3⟩:=h.lay hlf.1 n g a0 hv1 fun k j hk=>hg k j (by rw[yge (yga.1 hk).1];exact hk);simp only[zde];rw[q2];obtain⟨p1,p2,p3⟩:=hs.lay hlf.2 (n+fp1.length) g as1 hv2 fun k j hk=>by have:=hg (fp1.length+k) j (by rw[ygf (by omega)];simpa using hk);rwa [<-Nat.add_assoc]at this
  refine⟨by rw[List.map_cons,<-q1,<-p1],by simp[q2,p2],fun k e j hk hj=>?_⟩;by_cases hlt:k<fp1.length
  ·rw[yge (by rw[q2];exact hlt)]at hk;rw[yge hlt]at hj;exact q3 k e j hk hj
  ·rw[ygf (by rw[q2];omega),q2]at hk;rw[ygf (by omega)]at hj;exact p3 _ e j hk hj
theorem OwRs.lay{sm:List Ent}:∀{os:OS}{t:Ty}{xs:List (TV t)}{rows:List (List AV)}{fp:List Nat},OwRs sm os t xs rows fp->∀(n:Nat)(g:Nat->Nat),(∀(k j:Nat),fp[k]? =some j->g (n+k)=j)->
 rows=(zd2 n os (xs.map (zap t))).1.map (fun r=>r.map (AV.ren g))/\(zd2 n os (xs.map (zap t))).2.length=fp.length/\∀(k:Nat)(e:Ent)(j:Nat),(zd2 n os (xs.map (zap t))).2[k]? =some e->fp[k]? =some j->sm[j]? =some (e.ren g)
 |_,_,_,_,_,.nil,n,g,hg=>⟨rfl,rfl,fun k e j hk=>by simp[zd2]at hk⟩
 |_,t,_,_,_,.cons (x:=x) (fp:=fp1) (fp':=fp2) h hs,n,g,hg=>by
  obtain⟨q1,q2,q3⟩:=h.lay (ziQ t x) n g _ (zbt (J:=id) (mem:=[]) t x) fun k j hk=>hg k j (by rw[yge (yga.1 hk).1];exact hk);simp only[List.map_cons,zd2];rw[q2];obtain⟨p1,p2,p3⟩:=hs.lay (n+fp1.length) g fun k j hk=>by have:=hg (fp1.length+k) j (by rw[ygf (by omega)];simpa using hk);rwa [<-Nat.add_assoc]at this
  refine⟨by rw[<-q1,<-p1],by simp[q2,p2],fun k e j hk hj=>?_⟩;by_cases hlt:k<fp1.length
  ·rw[yge (by rw[q2];exact hlt)]at hk;rw[yge hlt]at hj;exact q3 k e j hk hj
  ·rw[ygf (by rw[q2];omega),q2]at hk;rw[ygf (by omega)]at hj;exact p3 _ e j hk hj
end
mutual
theorem zyx{sm:List Ent}:∀(a:AV)(o:Option OS)(v:V)(n:Nat),VR id [] v a->v.isLf=true->(∀(k:Nat)(e:Ent),(zib n o a).2[k]? =some e->sm[n+k]? =some e)->OwC sm o v (zib n o a).1 (List.range' n (zib n o a).2.length)
|.sl es rows,some o,v,n,hv,hlf,hs=>by
 cases v<;>simp[V.isLf]at hlf<;>simp only[VR]at hv<;>(try(cases hv;done));rename_i t xs;simp only[AV.sl.injEq]at hv;obtain⟨rfl,rfl⟩:=hv;simp only[zib]at hs|-;have h0:=hs 0 _ rfl;simp only[Nat.add_zero]at h0;have:=zmW (sm:=sm) (xs.map (zap t)) o t xs (n+1) rfl fun k e hk=>by have:=hs (k+1) e (by simpa using hk);rwa [show n+(k+1)=n+1+k by omega]at this
 simp only[yhs,List.range'_succ,List.length_map];exact .own h0 this
|.sl es rows,none,v,n,hv,hlf,hs=>by simp only[zib];exact .leaf (by cases v<;>simp[V.isLf]at hlf<;>rfl) hv
|.junk,o,v,n,hv,hlf,hs=>by cases v<;>simp[V.isLf]at hlf<;>simp only[VR]at hv<;>cases hv
|.e0,o,v,n,hv,hlf,hs|.ip _,o,v,n,hv,hlf,hs|.ms ..,o,v,n,hv,hlf,hs|.mp ..,o,v,n,hv,hlf,hs|.fn ..,o,v,n,hv,hlf,hs|.mapr _,o,v,n,hv,hlf,hs|.nilp,o,v,n,hv,hlf,hs|.nilf,o,v,n,hv,hlf,hs|.nilm,o,v,n,hv,hlf,hs|.opt ..,o,v,n,hv,hlf,hs
|.agg _,o,v,n,hv,hlf,hs|.tup _,o,v,n,hv,hlf,hs=>by cases v<;>simp[V.isLf]at hlf<;>simp only[VR]at hv<;>cases hv
|.int k i,o,v,n,hv,hlf,hs|.bool b,o,v,n,hv,hlf,hs|.str s,o,v,n,hv,hlf,hs=>by
 have hp:v.pur=true:=by cases v<;>simp[V.isLf]at hlf<;>rfl
 have hl:v.isLst=false:=by cases v<;>simp[V.isLf]at hlf<;>(first|rfl|(simp only[VR]at hv;cases hv))
 cases o with
 |none=>simp only[zib];exact .leaf hp hv
 |some o=>simp only[zib];exact .other hl hp hv
theorem zq9{sm:List Ent}:∀(as:List AV)(os:OS)(off:Nat)(vs:List V)(n:Nat),VRL id [] vs as->vs.all V.isLf=true->(∀(k:Nat)(e:Ent),(zde n os off as).2[k]? =some e->sm[n+k]? =some e)->OwCs sm os off vs (zde n os off as).1 (List.range' n (zde n os off as).2.length)
|[],os,off,vs,n,hv,hlf,hs=>by
 cases vs with
 |nil=>exact .nil
 |cons v vs=>simp only[VRL]at hv;obtain⟨_,_,h,_⟩:=hv;cases h
|a:: as,os,off,vs,n,hv,hlf,hs=>by
 cases vs with
 |nil=>simp only[VRL]at hv;cases hv
 |cons v vs=>
  simp only[VRL]at hv;obtain⟨_,_,h,hv1,hv2⟩:=hv;cases h;simp only[List.all_cons,yhb]at hlf;simp only[zde]at hs|-;have h1:=zyx (sm:=sm) a (os.sub off) v n hv1 hlf.1 fun k e hk=>hs k e (by rw[yge (yga.1 hk).1];exact hk);have h2:=zq9 (sm:=sm) as os (off+1) vs (n+(zib n (os.sub off) a).2.length) hv2 hlf.2 fun k e hk=>by have:=hs ((zib n (os.sub off) a).2.length+k) e (by rw[ygf (by omega)];simpa using hk);rwa [<-Nat.add_assoc]at this
  rw[yhr,<-List.range'_append_1];exact .cons h1 h2
theorem zmW{sm:List Ent}:∀(rows:List (List AV))(os:OS)(t:Ty)(xs:List (TV t))(n:Nat),rows=xs.map (zap t)->(∀(k:Nat)(e:Ent),(zd2 n os rows).2[k]? =some e->sm[n+k]? =some e)->OwRs sm os t xs (zd2 n os rows).1 (List.range' n (zd2 n os rows).2.length)
|[],os,t,xs,n,hx,hs=>by
 cases xs with
 |nil=>exact .nil
 |cons x xs=>simp at hx
|r:: rows,os,t,xs,n,hx,hs=>by
 cases xs with
 |nil=>simp at hx
 |cons x xs=>
  simp only[List.map_cons,List.cons.injEq]at hx;obtain⟨hx1,hx2⟩:=hx;simp only[zd2]at hs|-;have h1:=zq9 (sm:=sm) r os 0 (leafs t x) n (by rw[hx1];exact zbt t x) (ziQ t x) fun k e hk=>hs k e (by rw[yge (yga.1 hk).1];exact hk);have h2:=zmW (sm:=sm) rows os t xs (n+(zde n os 0 r).2.length) hx2 fun k e hk=>by have:=hs ((zde n os 0 r).2.length+k) e (by rw[ygf (by omega)];simpa using hk);rwa [<-Nat.add_assoc]at this
  rw[yhr,<-List.range'_append_1];exact .cons h1 h2
end
mutual
theorem OwC.ren{sm sm':List Ent}{g:Nat->Nat}:∀{o:Option OS}{v:V}{a:AV}{fp:List Nat},OwC sm o v a fp->(∀i∈fp,∀e,sm[i]? =some e->sm'[g i]? =some (e.ren g))->OwC sm' o v (a.ren g) (fp.map g)
|_,_,a,_,.leaf hp h,_=>by rw[AV.ren_pure g a (VR.pur h hp)];exact .leaf hp h
|_,_,a,_,.other hl hp h,_=>by rw[AV.ren_pure g a (VR.pur h hp)];exact .other hl hp h
|_,_,_,_,.own hi h,hs=>by have h1:=hs _ (by simp) _ hi;simp only[AV.ren,List.map_cons];exact .own h1 (h.ren fun i hi=>hs i (by simp[hi]))
theorem OwCs.ren{sm sm':List Ent}{g:Nat->Nat}:∀{os:OS}{off:Nat}{vs:List V}{as:List AV}{fp:List Nat},OwCs sm os off vs as fp->(∀i∈fp,∀e,sm[i]? =some e->sm'[g i]? =some (e.ren g))->OwCs sm' os off vs (as.map (AV.ren g)) (fp.map g)
|_,_,_,_,_,.nil,_=>.nil
|_,_,_,_,_,.cons h hs',hs=>by rw[List.map_append];exact .cons (h.ren fun i hi=>hs i (by simp[hi])) (hs'.ren fun i hi=>hs i (by simp[hi]))
theorem OwRs.ren{sm sm':List Ent}{g:Nat->Nat}:∀{os:OS}{t:Ty}{xs:List (TV t)}{rows:List (List AV)}{fp:List Nat},OwRs sm os t xs rows fp->(∀i∈fp,∀e,sm[i]? =some e->sm'[g i]? =some (e.ren g))->OwRs sm' os t xs (rows.map fun r=>r.map (AV.ren g)) (fp.map g)
|_,_,_,_,_,.nil,_=>.nil
|_,_,_,_,_,.cons h hs',hs=>by rw[List.map_append];exact .cons (h.ren fun i hi=>hs i (by simp[hi])) (hs'.ren fun i hi=>hs i (by simp[hi]))
end
end Go.Fw
